/- The document's list: swept. -/
import Derived.Test.YtcemcphkgehbhaaH
namespace Go.Proofs.Ytcemcphkgehbhaa
open Go.RowKit

structure SwR (w : World) (es : List Ent) (gone : List Bool) (k : Nat) (vo vl : Value) (wr : World) : Prop where
  mod : Mod (fun _ => False) w wr
  out : wr.ownsRow w.heap.size 34 6 vo (outK es gone k).length (flat (outK es gone k))
  left : wr.ownsRow w.heap.size 34 6 vl (leftK es gone k).length (flat (leftK es gone k))
  ne : ∀ b, vo.ownBlock = some b → vl.ownBlock ≠ some b

theorem swR_left {w wa w4 : World} {es : List Ent} {gone : List Bool} {k : Nat} {vo vl : Value} {x : Ent} {g' cp : Nat}
    (hm : Mod (fun _ => False) w wa)
    (h1 : wa.ownsRow w.heap.size 34 6 vo (outK es gone k).length (flat (outK es gone k))) (h2 : wa.ownsRow w.heap.size 34 6 vl (leftK es gone k).length (flat (leftK es gone k)))
    (hne : ∀ b, vo.ownBlock = some b → vl.ownBlock ≠ some b)
    (HO : outK es gone (k + 1) = outK es gone k) (HL : leftK es gone (k + 1) = leftK es gone k ++ [x])
    (hown : w4.ownsRow w.heap.size 34 6 (.slice (some ⟨g', 0, none⟩) ((leftK es gone k).length + 1) cp) ((leftK es gone k).length + 1) (flat (leftK es gone k) ++ x.cells))
    (hg : wa.grownBy w4 vl.ownBlock) (hat : vl.ownBlock = some g' ∨ g' = wa.heap.size) :
    SwR w es gone (k + 1) vo (.slice (some ⟨g', 0, none⟩) ((leftK es gone k).length + 1) cp) w4 := by
  refine ⟨hm.grown hg (fun b hb hb' => ?_), ?_, ?_, ?_⟩
  · have := (h2.lt b hb).1
    omega
  · rw [HO]
    exact h1.kept hg (by
      cases h : vo.ownBlock with
      | none => exact .inl rfl
      | some b => exact .inr (fun e => hne b h e.symm))
  · rw [HL, flat_append, flat_single]
    simpa using hown
  · intro b hb
    simp only [Value.ownBlock]
    rcases hat with h | h
    · rw [← h]; exact hne b hb
    · have := (h1.lt b hb).2
      intro e; cases e; omega

theorem swR_out {w wa w4 : World} {es : List Ent} {gone : List Bool} {k : Nat} {vo vl : Value} {x : Ent} {g' cp : Nat}
    (hm : Mod (fun _ => False) w wa)
    (h1 : wa.ownsRow w.heap.size 34 6 vo (outK es gone k).length (flat (outK es gone k))) (h2 : wa.ownsRow w.heap.size 34 6 vl (leftK es gone k).length (flat (leftK es gone k)))
    (hne : ∀ b, vo.ownBlock = some b → vl.ownBlock ≠ some b)
    (HO : outK es gone (k + 1) = outK es gone k ++ [x]) (HL : leftK es gone (k + 1) = leftK es gone k)
    (hown : w4.ownsRow w.heap.size 34 6 (.slice (some ⟨g', 0, none⟩) ((outK es gone k).length + 1) cp) ((outK es gone k).length + 1) (flat (outK es gone k) ++ x.cells))
    (hg : wa.grownBy w4 vo.ownBlock) (hat : vo.ownBlock = some g' ∨ g' = wa.heap.size) :
    SwR w es gone (k + 1) (.slice (some ⟨g', 0, none⟩) ((outK es gone k).length + 1) cp) vl w4 := by
  refine ⟨hm.grown hg (fun b hb hb' => ?_), ?_, ?_, ?_⟩
  · have := (h1.lt b hb).1
    omega
  · rw [HO, flat_append, flat_single]
    simpa using hown
  · rw [HL]
    exact h2.kept hg (by
      cases h : vl.ownBlock with
      | none => exact .inl rfl
      | some b => exact .inr (fun e => hne b e.symm h))
  · intro b hb
    simp only [Value.ownBlock, Option.some.injEq] at hb
    subst hb
    rcases hat with h | h
    · exact hne _ h
    · intro e
      have := (h2.lt _ e).2
      omega

def RSweepPost (w : World) (L : Nat) (es : List Ent) (gone : List Bool) (fp : List Nat) (e : Ending) (w' : World) : Prop :=
  ∃ v' fp', e = .returned v' ∧ Ents w' v' (outK es gone es.length) ∧ RefAt w' L (leftK es gone es.length) fp' ∧ Turn fp fp' w w'

set_option maxHeartbeats 2000000 in
theorem rsweep_any (w : World) (L : Nat) (es : List Ent) (fp : List Nat) (gv : Value) (gone : List Bool) (h : RefAt w L es fp) (hgv : Bools w gv gone) (hn : es.length ≤ 1000) (_hgn : gone.length ≤ 1000) :
    Calls Try.prog 9 #[.pointer (some ⟨L, 0, none⟩), gv] w (RSweepPost w L es gone fp) := by
  obtain ⟨v, hL, hv, rfl, hnd⟩ := h
  obtain ⟨ga, gcap, rfl, hgv⟩ := hgv
  have hents := ents_of_owns hv
  obtain ⟨a, cap, rfl, hv0⟩ := hents
  obtain ⟨i0, hi0, hz0, hz1, hz2⟩ := info_parts info34
  go_enter Try.func9, Try.ntmps9
  go_wp2_with fail
  go_loopw [5, 6, 7] (fun vo vl i wr => ∃ k : Nat, k ≤ es.length ∧ i = .int .i64 k ∧ SwR w es gone k vo vl wr) (fun _ _ i wr => es.length - (intOf i).toNat)
  case atStart => exact ⟨0, Nat.zero_le _, rfl, Mod.refl _ _, World.ownsRow_nil _ _ _ _, World.ownsRow_nil _ _ _ _, by simp [Value.ownBlock]⟩
  case round =>
    obtain ⟨k, hk, rfl, hI⟩ := hrel
    have hLr := hI.mod.keep hL (fun h => h)
    have c0 := cell_of hLr (i := 0) rfl
    by_cases hlt : k < es.length
    · obtain ⟨b, off, rfl, D0⟩ := hv0.resolve_left (fun h => by rw [h] at hlt; simp at hlt)
      have hE := (D0 k hlt).keep hI.mod (fun h => h)
      obtain ⟨a0, a1, a2, a3, a4, a5⟩ := hE
      have hblt := World.block_lt_of_cell? _ _ a0
      simp only at hblt
      have hi := hI.mod
      have ho1 := hI.out
      have ho2 := hI.left
      have HNE := Lib.hid hI.ne
      have hgd := getD_of_lt hlt
      have HO : Hid (outK es gone (k + 1) = outK es gone k ++ if gone.getD k false = true then [es[k]] else []) := by unfold Hid; rw [outK, hgd]
      have HL : Hid (leftK es gone (k + 1) = leftK es gone k ++ if gone.getD k false = true then [] else [es[k]]) := by unfold Hid; rw [leftK, hgd]
      have hol := outK_le es gone k
      have hll := leftK_le es gone k
      have hLlt := lt_of_block hLr
      clear hgd D0 hI
      generalize es[k] = x at *
      by_cases hgl : k < gone.length
      · obtain ⟨gb, goff, rfl, G0⟩ := hgv.resolve_left (fun h => by rw [h] at hgl; simp at hgl)
        have g0 : wr.cell? ⟨gb, goff + k, none⟩ = some (.bool gone[k]) := by
          have h := G0 k hgl
          rw [World.cell?_of_block (w := w) (hi.block gb (World.block_lt_of_cell? _ _ h) (fun h => h))]
          exact h
        have hglt := World.block_lt_of_cell? _ _ g0
        simp only at hglt
        have hgk : gone.getD k false = gone[k] := by rw [List.getD_eq_getElem?_getD, List.getElem?_eq_getElem hgl]; rfl
        rw [hgk] at HO HL
        clear hgk G0
        generalize gone[k] = gk at *
        clear hgv hv0 hnd hv
        have HI := Lib.hid hi
        clear hi
        cases gk
        · go_wp2_with (at_builtin; refine wpList_append_lies _ rfl _ _ 26 rfl w.heap.size 34 i0 _ 6 40 Try.underlying26 hi0 hz0 hz1 hz2 rfl (by decide) u6 (leftK es gone k).length (flat (leftK es gone k)) rfl (by exact ho2.alloc _) ⟨wr.heap.size, 0, none⟩ 1 1 x.cells rfl rfl (by exact World.news_of_block (heap_alloc_at _ _)) (one_cells x) (by decide) (by unfold maxLen; omega) (by omega) (by have := HI.out.size; simp; omega) _ rfl ?_; intro g' cp w4 hown4 hg4 hat4 hlt4)
          go_roundw
          case rel => exact ⟨k + 1, by omega, by go_num, swR_left (HI.out.alloc _) (ho1.alloc _) (ho2.alloc _) HNE.out (by simpa using HO.out) (by simpa using HL.out) hown4 hg4 hat4⟩
          case measure => simp [intOf]; omega
        · go_wp2_with (at_builtin; refine wpList_append_lies _ rfl _ _ 26 rfl w.heap.size 34 i0 _ 6 40 Try.underlying26 hi0 hz0 hz1 hz2 rfl (by decide) u5 (outK es gone k).length (flat (outK es gone k)) rfl (by exact ho1.alloc _) ⟨wr.heap.size, 0, none⟩ 1 1 x.cells rfl rfl (by exact World.news_of_block (heap_alloc_at _ _)) (one_cells x) (by decide) (by unfold maxLen; omega) (by omega) (by have := HI.out.size; simp; omega) _ rfl ?_; intro g' cp w4 hown4 hg4 hat4 hlt4)
          go_roundw
          case rel => exact ⟨k + 1, by omega, by go_num, swR_out (HI.out.alloc _) (ho1.alloc _) (ho2.alloc _) HNE.out (by simpa using HO.out) (by simpa using HL.out) hown4 hg4 hat4⟩
          case measure => simp [intOf]; omega
      · have hgk : ¬ gone.getD k false = true := by rw [List.getD_eq_getElem?_getD, List.getElem?_eq_none (by omega)]; simp
        rw [if_neg hgk] at HO HL
        have hdec : decide (k < gone.length) = false := by simpa using hgl
        clear hgv hv0 hnd hv hgk
        have HI := Lib.hid hi
        clear hi
        go_wp2_with (at_builtin; refine wpList_append_lies _ rfl _ _ 26 rfl w.heap.size 34 i0 _ 6 40 Try.underlying26 hi0 hz0 hz1 hz2 rfl (by decide) u6 (leftK es gone k).length (flat (leftK es gone k)) rfl (by exact ho2.alloc _) ⟨wr.heap.size, 0, none⟩ 1 1 x.cells rfl rfl (by exact World.news_of_block (heap_alloc_at _ _)) (one_cells x) (by decide) (by unfold maxLen; omega) (by omega) (by have := HI.out.size; simp; omega) _ rfl ?_; intro g' cp w4 hown4 hg4 hat4 hlt4)
        go_roundw
        case rel => exact ⟨k + 1, by omega, by go_num, swR_left (HI.out.alloc _) (ho1.alloc _) (ho2.alloc _) HNE.out (by simpa using HO.out) (by simpa using HL.out) hown4 hg4 hat4⟩
        case measure => simp [intOf]; omega
    · obtain rfl : k = es.length := by omega
      have f0 : wr.frozen? ⟨L, 0, none⟩ = false := free_of hLr
      have hLw := lt_of_block hL
      obtain ⟨a6, cap6, h6', -⟩ := ents_of_owns hI.left
      subst h6'
      obtain ⟨a5, cap5, h5', -⟩ := ents_of_owns hI.out
      subst h5'
      have HI := Lib.hid hI
      clear hI hgv hv0
      go_wp2_with fail
      go_ret
      have hI := HI.out
      have hne0 : ∀ b, (Value.slice a5 (outK es gone es.length).length cap5).ownBlock = some b → b ≠ L := fun b hb e => by
        have := (hI.out.lt b hb).1
        omega
      have hlne : ∀ b, (Value.slice a6 (leftK es gone es.length).length cap6).ownBlock = some b → b ≠ L := fun b hb e => by
        have := (hI.left.lt b hb).1
        omega
      refine ⟨_, L :: (Value.slice a6 (leftK es gone es.length).length cap6).ownBlock.toList, rfl, ?_, ⟨_, heap_setCell_same hLr _, ?_, rfl, ?_⟩, ?_, ?_⟩
      · exact ents_of_owns (ownsRow_setCell_other hI.out (fun e => hne0 L e rfl) _)
      · have hl := hI.left
        refine ownsRow_setCell_other ?_ (fun e => hlne L e rfl) _
        refine ⟨hl.1, ?_⟩
        rcases hl.2 with h | ⟨g, cap, cur, h4, h5, h6⟩
        · exact .inl h
        · exact .inr ⟨g, cap, cur, h4, Nat.zero_le _, h6⟩
      · rw [List.nodup_cons]
        refine ⟨?_, ?_⟩
        · simp only [Option.mem_toList]
          exact fun h => hlne L h rfl
        · cases (Value.slice a6 (leftK es gone es.length).length cap6).ownBlock <;> simp
      · exact (hI.mod.weaken (fun b _ hb => hb.elim)).setCell (fun _ => by simp) _
      · intro b hb
        simp only [List.mem_cons, Option.mem_toList] at hb
        rcases hb with rfl | hb
        · left; simp
        · right; exact (hI.left.lt b hb).1
end Go.Proofs.Ytcemcphkgehbhaa
