/- A list of what was retired: swept. -/
import Derived.Test.YtcemcphkgehbhaaE
namespace Go.Proofs.Ytcemcphkgehbhaa
open Go.RowKit

instance : Inhabited Ent := ⟨⟨0, 0, false, 0, 0, 0⟩⟩

def outK (es : List Ent) (gone : List Bool) : Nat → List Ent
  | 0 => []
  | k + 1 => outK es gone k ++ if gone.getD k false = true then [es.getD k default] else []
def leftK (es : List Ent) (gone : List Bool) : Nat → List Ent
  | 0 => []
  | k + 1 => leftK es gone k ++ if gone.getD k false = true then [] else [es.getD k default]

theorem outK_le (es : List Ent) (gone : List Bool) : ∀ k, (outK es gone k).length ≤ k
  | 0 => by simp [outK]
  | k + 1 => by
    have := outK_le es gone k
    simp only [outK, List.length_append]
    split <;> simp <;> omega
theorem leftK_le (es : List Ent) (gone : List Bool) : ∀ k, (leftK es gone k).length ≤ k
  | 0 => by simp [leftK]
  | k + 1 => by
    have := leftK_le es gone k
    simp only [leftK, List.length_append]
    split <;> simp <;> omega

theorem leftK_sub (es : List Ent) (gone : List Bool) : ∀ k, k ≤ es.length → (leftK es gone k).Sublist (es.take k)
  | 0, _ => by simp [leftK]
  | k + 1, h => by
    have ih := leftK_sub es gone k (by omega)
    rw [List.take_succ_eq_append_getElem (by omega)]
    simp only [leftK]
    refine List.Sublist.append ih ?_
    split
    · simp
    · rw [List.getD_eq_getElem?_getD, List.getElem?_eq_getElem (by omega)]
      simp

def rem (es : List Ent) (gone : List Bool) (k : Nat) : List Ent := leftK es gone k ++ es.drop k
theorem rem_sub (es : List Ent) (gone : List Bool) (k : Nat) (h : k ≤ es.length) : (rem es gone k).Sublist es := by
  have := List.Sublist.append (leftK_sub es gone k h) (List.Sublist.refl (es.drop k))
  rwa [List.take_append_drop] at this
theorem rem_stay (es : List Ent) (gone : List Bool) (k : Nat) (h : k < es.length) (hg : ¬ gone.getD k false = true) : rem es gone (k + 1) = rem es gone k := by
  unfold rem
  rw [leftK, if_neg hg, List.drop_eq_getElem_cons h, List.append_assoc]
  rw [List.getD_eq_getElem?_getD, List.getElem?_eq_getElem h]
  rfl
theorem rem_gone (es : List Ent) (gone : List Bool) (k : Nat) (hg : gone.getD k false = true) : rem es gone (k + 1) = leftK es gone k ++ es.drop (k + 1) := by
  unfold rem
  rw [leftK, if_pos hg, List.append_nil]
theorem rem_split (es : List Ent) (gone : List Bool) (k : Nat) (h : k < es.length) : rem es gone k = leftK es gone k ++ es[k] :: es.drop (k + 1) := by
  unfold rem; rw [List.drop_eq_getElem_cons h]

/-- A bool slice value. -/
def Bools (w : World) (v : Value) (l : List Bool) : Prop :=
  ∃ a cap, v = .slice a l.length cap ∧ (l = [] ∨ ∃ b off, a = some ⟨b, off, none⟩ ∧ ∀ k (h : k < l.length), w.cell? ⟨b, off + k, none⟩ = some (.bool l[k]))
def Value.blk : Value → Option Nat
  | .slice (some a) _ _ => some a.block
  | _ => none

def HadK (w : World) (m : Value) (es : List Ent) (gone : List Bool) (k N : Nat) : Prop :=
  (m = .map none ∧ es = []) ∨ ∃ mb D, m = .map (some mb) ∧ w.ownsMap Try.prog 31 (plainElem Try.prog 3) mb N D ∧ ∀ r, RefWf r → D.atKey (keyL r) (i64 0) = i64 (if r ∈ (rem es gone k).map Ent.ref then 1 else 0)

structure SwI (w : World) (m : Value) (es : List Ent) (gone : List Bool) (N k : Nat) (vo vl : Value) (wr : World) : Prop where
  mod : Mod (fun b => b ∈ mapBlk m) w wr
  out : wr.ownsRow w.heap.size 34 6 vo (outK es gone k).length (flat (outK es gone k))
  left : wr.ownsRow w.heap.size 34 6 vl (leftK es gone k).length (flat (leftK es gone k))
  ne : ∀ b, vo.ownBlock = some b → vl.ownBlock ≠ some b
  had : HadK wr m es gone k N

theorem had_del {es : List Ent} {gone : List Bool} {k : Nat} {D : DataW Unit} (hk : k < es.length) (hg : gone.getD k false = true) (hgood : Good es)
    (hD : ∀ r, RefWf r → D.atKey (keyL r) (i64 0) = i64 (if r ∈ (rem es gone k).map Ent.ref then 1 else 0)) :
    ∀ r, RefWf r → (D.del (keyL es[k].ref)).atKey (keyL r) (i64 0) = i64 (if r ∈ (rem es gone (k + 1)).map Ent.ref then 1 else 0) := by
  intro r hr
  have hwf := Ent.refWf (hgood.wf es[k] (List.getElem_mem _))
  have hnd : ((rem es gone k).map Ent.ref).Nodup := List.Nodup.sublist ((rem_sub es gone k (by omega)).map _) hgood.nodup
  rw [rem_split es gone k hk] at hnd hD
  rw [rem_gone es gone k hg]
  simp only [List.map_append, List.map_cons] at hnd hD ⊢
  rw [List.nodup_append] at hnd
  obtain ⟨n1, n2, n3⟩ := hnd
  rw [List.nodup_cons] at n2
  by_cases h : r = es[k].ref
  · subst h
    rw [Maps.atKey_del_same]
    have h1 : ¬ es[k].ref ∈ (leftK es gone k).map Ent.ref := fun h => n3 _ h _ (by simp) rfl
    have h2 := n2.1
    simp only [List.mem_append]
    rw [if_neg (by rintro (h | h); exact h1 h; exact h2 h)]
  · rw [Maps.atKey_del_other (fun h' => h (keyL_inj hr hwf h')), hD r hr]
    simp only [List.mem_append, List.mem_cons, h, false_or]

theorem flat_append (a b : List Ent) : flat (a ++ b) = flat a ++ flat b := by simp [flat]
theorem flat_single (e : Ent) : flat [e] = e.cells := by simp [flat]
theorem getD_of_lt {es : List Ent} {k : Nat} (h : k < es.length) : es.getD k default = es[k] := by
  rw [List.getD_eq_getElem?_getD, List.getElem?_eq_getElem h]; rfl
theorem one_cells (e : Ent) : ∀ u ∈ e.cells, u.oneCell' = true := by
  intro u hu; simp only [Ent.cells, List.mem_cons, List.not_mem_nil, or_false] at hu
  rcases hu with rfl | rfl | rfl | rfl | rfl | rfl <;> rfl

theorem news_one (w : World) (o : Obj) (x : Ent) (t : TypeId) : ∀ j u, x.cells[j]? = some u → ((w.alloc o).alloc (.cells x.cells.toArray t)).cell? ((⟨w.heap.size + 1, 0, none⟩ : Addr).add j) = some u := by
  have h := heap_alloc_at (w.alloc o) (.cells x.cells.toArray t)
  rw [World.size_alloc] at h
  exact World.news_of_block h

theorem swI_left {w wa w4 : World} {es : List Ent} {gone : List Bool} {N k mb : Nat} {D : DataW Unit} {vo vl : Value} {x : Ent} {g' cp : Nat}
    (hm : Mod (fun b => b ∈ mapBlk (.map (some mb))) w wa) (ho : wa.ownsMap Try.prog 31 (plainElem Try.prog 3) mb N D)
    (h1 : wa.ownsRow w.heap.size 34 6 vo (outK es gone k).length (flat (outK es gone k))) (h2 : wa.ownsRow w.heap.size 34 6 vl (leftK es gone k).length (flat (leftK es gone k)))
    (hne : ∀ b, vo.ownBlock = some b → vl.ownBlock ≠ some b) (hmb : mb < w.heap.size)
    (HO : outK es gone (k + 1) = outK es gone k) (HL : leftK es gone (k + 1) = leftK es gone k ++ [x])
    (hD : ∀ r, RefWf r → D.atKey (keyL r) (i64 0) = i64 (if r ∈ (rem es gone (k + 1)).map Ent.ref then 1 else 0))
    (hown : w4.ownsRow w.heap.size 34 6 (.slice (some ⟨g', 0, none⟩) ((leftK es gone k).length + 1) cp) ((leftK es gone k).length + 1) (flat (leftK es gone k) ++ x.cells))
    (hg : wa.grownBy w4 vl.ownBlock) (hat : vl.ownBlock = some g' ∨ g' = wa.heap.size) :
    SwI w (.map (some mb)) es gone N (k + 1) vo (.slice (some ⟨g', 0, none⟩) ((leftK es gone k).length + 1) cp) w4 := by
  refine ⟨hm.grown hg (fun b hb hb' => ?_), ?_, ?_, ?_, .inr ⟨mb, D, rfl, ?_, hD⟩⟩
  · have := (h2.lt b hb).1
    omega
  · rw [HO]
    exact h1.kept hg (by
      cases h : vo.ownBlock with
      | none => exact .inl rfl
      | some b => exact .inr (fun e => hne b h e.symm))
  · rw [HL, flat_append, flat_single]
    simpa using hown
  · intro b hb
    simp only [Value.ownBlock]
    rcases hat with h | h
    · rw [← h]; exact hne b hb
    · have := (h1.lt b hb).2
      intro e; cases e; omega
  · exact ho.kept hg (fun e => by have := (h2.lt mb e.symm).1; omega)

theorem swI_out {w wa w4 : World} {es : List Ent} {gone : List Bool} {N k mb : Nat} {D : DataW Unit} {vo vl : Value} {x : Ent} {g' cp : Nat}
    (hm : Mod (fun b => b ∈ mapBlk (.map (some mb))) w wa) (ho : wa.ownsMap Try.prog 31 (plainElem Try.prog 3) mb N D)
    (h1 : wa.ownsRow w.heap.size 34 6 vo (outK es gone k).length (flat (outK es gone k))) (h2 : wa.ownsRow w.heap.size 34 6 vl (leftK es gone k).length (flat (leftK es gone k)))
    (hne : ∀ b, vo.ownBlock = some b → vl.ownBlock ≠ some b) (hmb : mb < w.heap.size)
    (HO : outK es gone (k + 1) = outK es gone k ++ [x]) (HL : leftK es gone (k + 1) = leftK es gone k)
    (hD : ∀ r, RefWf r → D.atKey (keyL r) (i64 0) = i64 (if r ∈ (rem es gone (k + 1)).map Ent.ref then 1 else 0))
    (hown : w4.ownsRow w.heap.size 34 6 (.slice (some ⟨g', 0, none⟩) ((outK es gone k).length + 1) cp) ((outK es gone k).length + 1) (flat (outK es gone k) ++ x.cells))
    (hg : wa.grownBy w4 vo.ownBlock) (hat : vo.ownBlock = some g' ∨ g' = wa.heap.size) :
    SwI w (.map (some mb)) es gone N (k + 1) (.slice (some ⟨g', 0, none⟩) ((outK es gone k).length + 1) cp) vl w4 := by
  refine ⟨hm.grown hg (fun b hb hb' => ?_), ?_, ?_, ?_, .inr ⟨mb, D, rfl, ?_, hD⟩⟩
  · have := (h1.lt b hb).1
    omega
  · rw [HO, flat_append, flat_single]
    simpa using hown
  · rw [HL]
    exact h2.kept hg (by
      cases h : vl.ownBlock with
      | none => exact .inl rfl
      | some b => exact .inr (fun e => hne b e.symm h))
  · intro b hb
    simp only [Value.ownBlock, Option.some.injEq] at hb
    subst hb
    rcases hat with h | h
    · exact hne _ h
    · intro e
      have := (h2.lt _ e).2
      omega
  · exact ho.kept hg (fun e => by have := (h1.lt mb e.symm).1; omega)

def SweepPost (w : World) (L : Nat) (es : List Ent) (gone : List Bool) (N : Nat) (fp : List Nat) (e : Ending) (w' : World) : Prop :=
  ∃ v' fp', e = .returned v' ∧ Cut w' w.heap.size v' (outK es gone es.length) ∧ RetAt w' L (leftK es gone es.length) N fp' ∧ Turn fp fp' w w' ∧ ∀ b, v'.ownBlock = some b → b ∉ fp'

set_option maxHeartbeats 2000000 in
theorem sweep_any (w : World) (L : Nat) (es : List Ent) (N : Nat) (fp : List Nat) (gv : Value) (gone : List Bool) (h : RetAt w L es N fp) (hgv : Bools w gv gone) (hgb : gone ≠ [] → ∀ b, Value.blk gv = some b → b ∉ fp) (hn : es.length ≤ 1000) (_hgn : gone.length ≤ 1000) :
    Calls Try.prog 7 #[.pointer (some ⟨L, 0, none⟩), gv] w (SweepPost w L es gone N fp) := by
  obtain ⟨v, m, hL, hv, hh, rfl, hnd, hg⟩ := h
  obtain ⟨ga, gcap, rfl, hgv⟩ := hgv
  have c0 := cell_of hL (i := 0) rfl
  have hents := ents_of_owns hv
  obtain ⟨a, cap, rfl, hv0⟩ := hents
  obtain ⟨i0, hi0, hz0, hz1, hz2⟩ := info_parts info34
  go_enter Try.func7, Try.ntmps7
  go_wp2_with fail
  go_loopw [5, 6, 16] (fun vo vl i wr => ∃ k : Nat, k ≤ es.length ∧ i = .int .i64 k ∧ SwI w m es gone N k vo vl wr) (fun _ _ i wr => es.length - (intOf i).toNat)
  case atStart =>
    refine ⟨0, Nat.zero_le _, rfl, Mod.refl _ _, World.ownsRow_nil _ _ _ _, World.ownsRow_nil _ _ _ _, by simp [Value.ownBlock], ?_⟩
    rcases hh with h | ⟨mb, D, rfl, ho, hD⟩
    · exact .inl h
    · exact .inr ⟨mb, D, rfl, ho, hD⟩
  case round =>
    obtain ⟨k, hk, rfl, hI⟩ := hrel
    by_cases hlt : k < es.length
    · obtain ⟨mb, D, rfl, ho, hD⟩ := hI.had.resolve_left (fun h => by rw [h.2] at hlt; simp at hlt)
      obtain ⟨b, off, rfl, D0⟩ := hv0.resolve_left (fun h => by rw [h] at hlt; simp at hlt)
      have hbL : b ≠ L ∧ b ≠ mb ∧ L ≠ mb := by
        have hob : off = 0 := by
          rcases hv.2 with ⟨h, _⟩ | ⟨g, cap', cur, h, _⟩
          · cases h
          · cases h; rfl
        subst hob
        simp only [Value.ownBlock, mapBlk, List.nodup_cons, Option.toList, List.cons_append, List.nil_append, List.mem_cons, List.not_mem_nil, or_false, not_or] at hnd
        exact ⟨fun e => hnd.1.1 e.symm, hnd.2.1, hnd.1.2⟩
      have hE := (D0 k hlt).keep hI.mod (by simp [mapBlk]; exact hbL.2.1)
      obtain ⟨a0, a1, a2, a3, a4, a5⟩ := hE
      have hblt := World.block_lt_of_cell? _ _ a0
      simp only at hblt
      have hLr := hI.mod.keep hL (by simp [mapBlk]; exact hbL.2.2)
      have hi := hI.mod
      have ho1 := hI.out
      have ho2 := hI.left
      have hne := hI.ne
      have hxw := Ent.refWf (hg.wf es[k] (List.getElem_mem _))
      have hgd := getD_of_lt hlt
      have HO : Hid (outK es gone (k + 1) = outK es gone k ++ if gone.getD k false = true then [es[k]] else []) := by unfold Hid; rw [outK, hgd]
      have HL : Hid (leftK es gone (k + 1) = leftK es gone k ++ if gone.getD k false = true then [] else [es[k]]) := by unfold Hid; rw [leftK, hgd]
      have HDel : Hid (gone.getD k false = true → ∀ r, RefWf r → (D.del (keyL es[k].ref)).atKey (keyL r) (i64 0) = i64 (if r ∈ (rem es gone (k + 1)).map Ent.ref then 1 else 0)) := fun hg' => had_del hlt hg' hg hD
      have HStay : Hid (¬ gone.getD k false = true → ∀ r, RefWf r → D.atKey (keyL r) (i64 0) = i64 (if r ∈ (rem es gone (k + 1)).map Ent.ref then 1 else 0)) := fun hg' => by rw [rem_stay es gone k hlt hg']; exact hD
      have hol := outK_le es gone k
      have hll := leftK_le es gone k
      clear hD hgd D0 hI
      generalize es[k] = x at *
      by_cases hgl : k < gone.length
      · obtain ⟨gb, goff, rfl, G0⟩ := hgv.resolve_left (fun h => by rw [h] at hgl; simp at hgl)
        have hgm : gb ≠ mb := fun e => hgb (by intro e; rw [e] at hgl; simp at hgl) gb rfl (by simp [mapBlk, e])
        have g0 : wr.cell? ⟨gb, goff + k, none⟩ = some (.bool gone[k]) := by
          have h := G0 k hgl
          rw [World.cell?_of_block (w := w) (hi.block gb (World.block_lt_of_cell? _ _ h) (by simp [mapBlk]; exact hgm))]
          exact h
        have hglt := World.block_lt_of_cell? _ _ g0
        simp only at hglt
        have hgk : gone.getD k false = gone[k] := by rw [List.getD_eq_getElem?_getD, List.getElem?_eq_getElem hgl]; rfl
        rw [hgk] at HO HL HDel HStay
        clear hgk G0
        generalize gone[k] = gk at *
        have hmlt : mb < w.heap.size := by
          rcases hh with h | ⟨mb', D', h, hm', _⟩
          · cases h.1
          · cases h; exact hm'.lt
        clear hgv hv0 hgb hnd hv hh c0 hg
        have HNE := Lib.hid hne
        have HI := Lib.hid hi
        clear hne hi
        have hLlt := lt_of_block hLr
        have c0 := cell_of hLr (i := 0) rfl
        have c1 := cell_of hLr (i := 1) rfl
        cases gk
        · go_wp2_with (at_builtin; refine wpList_append_lies _ rfl _ _ 26 rfl w.heap.size 34 i0 _ 6 40 Try.underlying26 hi0 hz0 hz1 hz2 rfl (by decide) u6 (leftK es gone k).length (flat (leftK es gone k)) rfl (by exact (ho2.alloc _).alloc _) ⟨wr.heap.size + 1, 0, none⟩ 1 1 x.cells rfl rfl (by exact news_one wr _ x 34) (one_cells x) (by decide) (by unfold maxLen; omega) (by omega) (by have := HI.out.size; simp; omega) _ rfl ?_; intro g' cp w4 hown4 hg4 hat4 hlt4)
          go_roundw
          case rel => exact ⟨k + 1, by omega, by go_num, swI_left ((HI.out.alloc _).alloc _) ((ho.alloc _).alloc _) ((ho1.alloc _).alloc _) ((ho2.alloc _).alloc _) HNE.out hmlt (by simpa using HO.out) (by simpa using HL.out) (HStay.out (by simp)) hown4 hg4 hat4⟩
          case measure => simp [intOf]; omega
        · go_wp2_with fail
          obtain ⟨wa, hwa⟩ : ∃ wa, wa = wr.alloc (.cells #[.int .i64 x.slot, .int .u32 x.gen, .bool x.mark, .int .u64 x.birth, .int .u64 x.epoch, .int .u64 x.era] 34) := ⟨_, rfl⟩
          rw [← hwa]
          have hboxa : wa.heap[wr.heap.size]? = some (.cells #[.int .i64 x.slot, .int .u32 x.gen, .bool x.mark, .int .u64 x.birth, .int .u64 x.epoch, .int .u64 x.era] 34 (0, 0)) := by rw [hwa]; exact heap_alloc_at _ _
          have hLa : wa.heap[L]? = some (.cells #[.slice (some ⟨b, off, none⟩) es.length cap, .map (some mb)] 51 (0, 0)) := by rw [hwa]; exact heap_alloc_keep hLr _
          have hoa : wa.ownsMap Try.prog 31 (plainElem Try.prog 3) mb N D := by rw [hwa]; exact ho.alloc _
          have ho1a : wa.ownsRow w.heap.size 34 6 u5 (outK es gone k).length (flat (outK es gone k)) := by rw [hwa]; exact ho1.alloc _
          have ho2a : wa.ownsRow w.heap.size 34 6 u6 (leftK es gone k).length (flat (leftK es gone k)) := by rw [hwa]; exact ho2.alloc _
          have hIa : Mod (fun b => b ∈ mapBlk (.map (some mb))) w wa := by rw [hwa]; exact HI.out.alloc _
          have hsza : wr.heap.size < wa.heap.size := lt_of_block hboxa
          have hmr : mb < wr.heap.size := ho.lt
          clear hwa a0 a1 a2 a3 a4 a5 hblt c0 c1 ho ho1 ho2 g0 hLr hglt hLlt HI
          obtain ⟨eb, heb⟩ : ∃ eb, eb = wr.heap.size := ⟨_, rfl⟩
          rw [← heb] at hboxa hsza hmr ⊢
          clear heb
          have c1 := cell_of hLa (i := 1) rfl
          have e0 := cell_of hboxa (i := 0) rfl
          have e1 := cell_of hboxa (i := 1) rfl
          have e2 := cell_of hboxa (i := 2) rfl
          go_still_tail 6, (by kernel_rfl)
          change wpList _ _ _ _ _ wa.drew
          have hkey : keyOf Try.prog 31 (.agg #[.int .i64 x.slot, .int .u32 x.gen, .bool x.mark]) = some (keyL x.ref) := keyL_some x.ref hxw
          refine wpList_delete_own _ rfl _ _ 49 31 rfl 3 law31 Try.underlying49 _ mb N D rfl hoa.drew _ _ rfl hkey ?_
          intro wb hob hturn
          have hgb' := hturn.grown
          have hIb := hIa.drew.grown hgb' (fun k hk _ => by cases hk; simp [mapBlk])
          have ho1b := ho1a.drew.kept hgb' (.inr (fun e => by have := (ho1a.lt mb e).1; omega))
          have ho2b := ho2a.drew.kept hgb' (.inr (fun e => by have := (ho2a.lt mb e).1; omega))
          have hboxb : wb.heap[eb]? = some (.cells #[.int .i64 x.slot, .int .u32 x.gen, .bool x.mark, .int .u64 x.birth, .int .u64 x.epoch, .int .u64 x.era] 34 (0, 0)) := by
            rw [hgb'.block _ hsza (by simp; omega)]; exact hboxa
          have hszb : eb < wb.heap.size := lt_of_block hboxb
          clear hoa ho1a ho2a hIa hboxa hsza c1 e0 e1 e2 hLa hgb' hturn hkey
          have e0 := cell_of hboxb (i := 0) rfl
          have e1 := cell_of hboxb (i := 1) rfl
          have e2 := cell_of hboxb (i := 2) rfl
          have e3 := cell_of hboxb (i := 3) rfl
          have e4 := cell_of hboxb (i := 4) rfl
          have e5 := cell_of hboxb (i := 5) rfl
          go_wp2_with (at_builtin; refine wpList_append_lies _ rfl _ _ 26 rfl w.heap.size 34 i0 _ 6 40 Try.underlying26 hi0 hz0 hz1 hz2 rfl (by decide) u5 (outK es gone k).length (flat (outK es gone k)) rfl (by exact ho1b.alloc _) ⟨wb.heap.size, 0, none⟩ 1 1 x.cells rfl rfl (by exact World.news_of_block (heap_alloc_at _ _)) (one_cells x) (by decide) (by unfold maxLen; omega) (by omega) (by have := hIb.size; simp; omega) _ rfl ?_; intro g' cp w4 hown4 hg4 hat4 hlt4)
          go_roundw
          case rel => exact ⟨k + 1, by omega, by go_num, swI_out (hIb.alloc _) (hob.alloc _) (ho1b.alloc _) (ho2b.alloc _) HNE.out hmlt (by simpa using HO.out) (by simpa using HL.out) (HDel.out (by simp)) hown4 hg4 hat4⟩
          case measure => simp [intOf]; omega
      · have hgk : ¬ gone.getD k false = true := by rw [List.getD_eq_getElem?_getD, List.getElem?_eq_none (by omega)]; simp
        rw [if_neg hgk] at HO HL
        have HS := Lib.hid (HStay.out hgk)
        have hdec : decide (k < gone.length) = false := by simpa using hgl
        have hmlt : mb < w.heap.size := by
          rcases hh with h | ⟨mb', D', h, hm', _⟩
          · cases h.1
          · cases h; exact hm'.lt
        clear hgv hv0 hgb hnd hv hh c0 hg HStay HDel hgk
        have HNE := Lib.hid hne
        have HI := Lib.hid hi
        clear hne hi
        have hLlt := lt_of_block hLr
        have c0 := cell_of hLr (i := 0) rfl
        have c1 := cell_of hLr (i := 1) rfl
        go_wp2_with (at_builtin; refine wpList_append_lies _ rfl _ _ 26 rfl w.heap.size 34 i0 _ 6 40 Try.underlying26 hi0 hz0 hz1 hz2 rfl (by decide) u6 (leftK es gone k).length (flat (leftK es gone k)) rfl (by exact (ho2.alloc _).alloc _) ⟨wr.heap.size + 1, 0, none⟩ 1 1 x.cells rfl rfl (by exact news_one wr _ x 34) (one_cells x) (by decide) (by unfold maxLen; omega) (by omega) (by have := HI.out.size; simp; omega) _ rfl ?_; intro g' cp w4 hown4 hg4 hat4 hlt4)
        go_roundw
        case rel => exact ⟨k + 1, by omega, by go_num, swI_left ((HI.out.alloc _).alloc _) ((ho.alloc _).alloc _) ((ho1.alloc _).alloc _) ((ho2.alloc _).alloc _) HNE.out hmlt (by simpa using HO.out) (by simpa using HL.out) HS.out hown4 hg4 hat4⟩
        case measure => simp [intOf]; omega
    · obtain rfl : k = es.length := by omega
      have hvm : L ∉ mapBlk m ∧ ∀ b, b ∈ mapBlk m → b ∈ L :: ((Value.slice a es.length cap).ownBlock.toList ++ mapBlk m) := by
        simp only [List.nodup_cons, List.mem_append, not_or] at hnd
        exact ⟨hnd.1.2, fun b hb => by simp [hb]⟩
      have hLr := hI.mod.keep hL hvm.1
      have f0 : wr.frozen? ⟨L, 0, none⟩ = false := free_of hLr
      have c0r := cell_of hLr (i := 0) rfl
      have hLw := lt_of_block hL
      have hcut := Cut.of hI.out
      have hmlt : ∀ b ∈ mapBlk m, b < w.heap.size := by
        intro b hb
        rcases hh with ⟨rfl, _⟩ | ⟨mb', D', rfl, hm', _⟩
        · simp [mapBlk] at hb
        · simp only [mapBlk, List.mem_singleton] at hb; subst hb; exact hm'.lt
      have hgood : Good (leftK es gone es.length) := by
        have hsub := leftK_sub es gone es.length (Nat.le_refl _)
        rw [List.take_length] at hsub
        exact ⟨fun e he => hg.wf e (hsub.subset he), fun e he => hg.may e (hsub.subset he), List.Nodup.sublist (hsub.map _) hg.nodup⟩
      have hhad : HadAt wr m (leftK es gone es.length) N := by
        rcases hI.had with ⟨h1, h2⟩ | ⟨mb, D, h1, h2, h3⟩
        · refine .inl ⟨h1, ?_⟩
          have := leftK_le es gone es.length
          rw [h2] at this ⊢
          simpa using this
        · refine .inr ⟨mb, D, h1, h2, fun r hr => ?_⟩
          have := h3 r hr
          simpa [rem] using this
      obtain ⟨a6, cap6, h6', -⟩ := ents_of_owns hI.left
      subst h6'
      have hform : ∃ a' n' cap', u5 = .slice a' n' cap' ∧ n' = (outK es gone es.length).length ∧ n' ≤ cap' ∧ cap' ≤ maxLen ∧ (a' = none → n' = 0 ∧ cap' = 0) := by
        rcases hI.out.2 with ⟨h1, hn0⟩ | ⟨g, cap, cur, h1, hb, hg, hnc, hcm, hcs, ht⟩
        · exact ⟨none, 0, 0, h1, hn0.symm, Nat.le_refl _, Nat.zero_le _, fun _ => ⟨rfl, rfl⟩⟩
        · exact ⟨_, _, cap, h1, rfl, hnc, hcm, fun h => by cases h⟩
      obtain ⟨a', n', cap', rfl, hn', h1, h2, h3⟩ := hform
      have HN := Lib.hid hn'
      have HI := Lib.hid hI
      have hol := outK_le es gone es.length
      have HG := Lib.hid hgood
      have HM := Lib.hid hmlt
      have HV := Lib.hid hvm
      clear hI hn' hgood hgb hgv hv0 hmlt hvm hg
      go_wp2_with fail
      refine (clip_any a' n' cap' _ (by rw [HN.out]; omega) h1 h2 h3).mono ?_
      rintro _ w2 ⟨rfl, rfl⟩
      go_wp2_with fail
      go_ret
      have hI := HI.out
      have hne0 : ∀ b, (Value.slice a' n' cap').ownBlock = some b → b ≠ L := fun b hb e => by
        have := (hI.out.lt b hb).1
        omega
      have hlne : ∀ b, (Value.slice a6 (leftK es gone es.length).length cap6).ownBlock = some b → b ≠ L := fun b hb e => by
        have := (hI.left.lt b hb).1
        omega
      refine ⟨_, L :: ((Value.slice a6 (leftK es gone es.length).length cap6).ownBlock.toList ++ mapBlk m), rfl, ?_, ⟨_, m, ?_, ?_, ?_, rfl, ?_, HG.out⟩, ⟨?_, ?_⟩, ?_⟩
      · rcases hcut with h | ⟨g, cur, h4, h5, h6, h7⟩
        · exact .inl h
        · refine .inr ⟨g, cur, h4, h5, ?_, h7⟩
          refine heap_setCell_other h6 (fun e => ?_) _
          simp at e
          omega
      · exact heap_setCell_same hLr _
      · have hl := hI.left
        refine ownsRow_setCell_other ?_ (fun e => hlne L e rfl) _
        refine ⟨hl.1, ?_⟩
        rcases hl.2 with h | ⟨g, cap, cur, h4, h5, h6⟩
        · exact .inl h
        · exact .inr ⟨g, cap, cur, h4, Nat.zero_le _, h6⟩
      · rcases hhad with h | ⟨mb, D, rfl, h5, h6⟩
        · exact .inl h
        · exact .inr ⟨mb, D, rfl, h5.setCell (fun e => HV.out.1 (by simp [mapBlk, e])) _, h6⟩
      · have hnm : (mapBlk m).Nodup := by
          have := hnd
          simp only [List.nodup_cons, List.nodup_append] at this
          exact this.2.2.1
        rw [List.nodup_cons, List.nodup_append]
        refine ⟨?_, ?_, hnm, ?_⟩
        · simp only [List.mem_append, Option.mem_toList, not_or]
          exact ⟨fun h => hlne L h rfl, HV.out.1⟩
        · cases (Value.slice a6 (leftK es gone es.length).length cap6).ownBlock <;> simp
        · intro x hx y hy e
          simp only [Option.mem_toList] at hx
          have h8 := (hI.left.lt x hx).1
          have h9 := HM.out y hy
          omega
      · exact (hI.mod.weaken (fun b _ hb => HV.out.2 b hb)).setCell (fun _ => by simp) _
      · intro b hb
        simp only [List.mem_cons, List.mem_append, Option.mem_toList] at hb
        rcases hb with rfl | hb | hb
        · left; simp
        · right; exact (hI.left.lt b hb).1
        · left; exact HV.out.2 b hb
      · intro b hb
        have hb' : (Value.slice a' n' cap').ownBlock = some b := by
          cases a' with
          | none => simp [Value.ownBlock] at hb
          | some p => exact hb
        have h8 := (hI.out.lt b hb').1
        simp only [List.mem_cons, List.mem_append, Option.mem_toList, not_or]
        exact ⟨hne0 b hb', hI.ne b hb', fun h => by have := HM.out b h; omega⟩
end Go.Proofs.Ytcemcphkgehbhaa
