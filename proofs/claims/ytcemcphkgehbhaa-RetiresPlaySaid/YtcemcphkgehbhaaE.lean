/- A list of what was retired: made, told, counted. -/
import Derived.Test.YtcemcphkgehbhaaD
namespace Go.Proofs.Ytcemcphkgehbhaa
open Go.RowKit

theorem add_any (w : World) (L : Nat) (es : List Ent) (e : Ent) (N : Nat) (fp : List Nat) (h : RetAt w L es N fp) (hw : e.wf) (hn : es.length ≤ 1000) (hN : N ≤ 100000) :
    Calls Try.prog 11 #[.pointer (some ⟨L, 0, none⟩), e.val] w (AddPost w L es e N fp) := by
  cases he : e.may with
  | false => exact add_arg w L es e N fp h he
  | true =>
    by_cases hs : e.ref ∈ es.map Ent.ref
    · exact add_same w L es e N fp h he hw hs
    · exact add_new w L es e N fp h he hw hs hn hN

theorem RetAt.good {w : World} {L : Nat} {es : List Ent} {N : Nat} {fp : List Nat} (h : RetAt w L es N fp) : Good es := by
  obtain ⟨v, m, hL, hv, hh, rfl, hnd, hg⟩ := h
  exact hg

set_option maxHeartbeats 400000 in
theorem new_any (w : World) : Calls Try.prog 6 #[] w fun e w' => e = .returned (.pointer (some ⟨w.heap.size, 0, none⟩)) ∧ w' = w.alloc (.cells #[.slice none 0 0, .map none] 51) := by
  go_enter Try.func6, Try.ntmps6
  go_wp2
  go_ret
  exact ⟨rfl, rfl⟩

theorem new_ret (w : World) : RetAt (w.alloc (.cells #[.slice none 0 0, .map none] 51)) w.heap.size [] 0 [w.heap.size] :=
  ⟨_, _, heap_alloc_at _ _, World.ownsRow_nil _ _ _ _, .inl ⟨rfl, rfl⟩, by simp [mapBlk, Value.ownBlock], by simp, ⟨by simp, by simp, by simp⟩⟩

set_option maxHeartbeats 400000 in
theorem len_any (w : World) (L : Nat) (es : List Ent) (N : Nat) (fp : List Nat) (h : RetAt w L es N fp) :
    Calls Try.prog 14 #[.pointer (some ⟨L, 0, none⟩)] w fun e w' => e = .returned (.int .i64 es.length) ∧ w' = w := by
  obtain ⟨v, m, hL, hv, hh, rfl, hnd, hg⟩ := h
  obtain ⟨a, cap, rfl, -⟩ := ents_of_owns hv
  have c0 := cell_of hL (i := 0) rfl
  clear hh hv hg
  go_enter Try.func14, Try.ntmps14
  go_wp2
  go_ret
  exact ⟨rfl, rfl⟩

def NewCut (w : World) (es : List Ent) (e : Ending) (w' : World) : Prop := ∃ v', e = .returned v' ∧ Cut w' w.heap.size v' es ∧ Below w.heap.size w w'

set_option maxHeartbeats 400000 in
theorem all_any (w : World) (L : Nat) (es : List Ent) (N : Nat) (fp : List Nat) (h : RetAt w L es N fp) (hn : es.length ≤ 1000) :
    Calls Try.prog 13 #[.pointer (some ⟨L, 0, none⟩)] w (NewCut w es) := by
  obtain ⟨v, m, hL, hv, hh, rfl, hnd, hg⟩ := h
  have c0 := cell_of hL (i := 0) rfl
  clear hh hg
  go_enter Try.func13, Try.ntmps13
  go_wp2_with fail
  refine (clone_any 0 v es.length es _ hv hn).mono ?_
  rintro _ w1 ⟨v1, rfl, hr1, hb1⟩
  have hcut := Cut.of hr1
  have hfin : ∃ a n cap, v1 = .slice a n cap ∧ n = es.length ∧ n ≤ cap ∧ cap ≤ maxLen ∧ (a = none → n = 0 ∧ cap = 0) := by
    rcases hr1.2 with ⟨rfl, hn0⟩ | ⟨g, cap, cur, rfl, hb, hg, hnc, hcm, hcs, ht⟩
    · exact ⟨none, 0, 0, rfl, hn0.symm, Nat.le_refl _, Nat.zero_le _, fun _ => ⟨rfl, rfl⟩⟩
    · exact ⟨_, _, cap, rfl, rfl, hnc, hcm, fun h => by cases h⟩
  clear hr1
  obtain ⟨a, n, cap, rfl, hne, h1, h2, h3⟩ := hfin
  have HN := Lib.hid hne
  clear hne
  go_wp2_with fail
  refine (clip_any a n cap _ (by rw [HN.out]; exact hn) h1 h2 h3).mono ?_
  rintro _ w2 ⟨rfl, rfl⟩
  go_wp2_with fail
  go_ret
  exact ⟨_, rfl, hcut, hb1⟩

def bornN (es : List Ent) (b : Int) : Int := (es.filter fun e => decide (e.birth < b)).length
theorem bornN_le (es : List Ent) (b : Int) : 0 ≤ bornN es b ∧ bornN es b ≤ es.length := by
  unfold bornN; exact ⟨by omega, by have := List.length_filter_le (fun e : Ent => decide (e.birth < b)) es; omega⟩
theorem bornN_snoc (es : List Ent) (e : Ent) (b : Int) : bornN (es ++ [e]) b = bornN es b + if e.birth < b then 1 else 0 := by
  unfold bornN
  rw [List.filter_append]
  by_cases h : e.birth < b <;> simp [h]

theorem EntAt.keep {S : Nat → Prop} {w w' : World} {b o : Nat} {e : Ent} (h : EntAt w b o e) (hm : Mod S w w') (hb : ¬ S b) : EntAt w' b o e := by
  obtain ⟨h0, h1, h2, h3, h4, h5⟩ := h
  have hk : ∀ j u, w.cell? ⟨b, j, none⟩ = some u → w'.cell? ⟨b, j, none⟩ = some u := fun j u hu => by
    rw [World.cell?_of_block (w := w) (hm.block b (World.block_lt_of_cell? _ _ hu) hb)]; exact hu
  exact ⟨hk _ _ h0, hk _ _ h1, hk _ _ h2, hk _ _ h3, hk _ _ h4, hk _ _ h5⟩

set_option maxHeartbeats 1000000 in
theorem born_any (w : World) (L : Nat) (es : List Ent) (N : Nat) (fp : List Nat) (before : Int) (h : RetAt w L es N fp) (hn : es.length ≤ 1000) :
    Calls Try.prog 15 #[.pointer (some ⟨L, 0, none⟩), .int .u64 before] w fun e w' => e = .returned (.int .i64 (bornN es before)) ∧ Below w.heap.size w w' := by
  go_enter Try.func15, Try.ntmps15
  go_wp2_with fail
  refine (all_any w L es N fp h hn).mono ?_
  rintro _ w1 ⟨v1, rfl, hr1, hb1⟩
  obtain ⟨a, cap, rfl, hv1⟩ := hr1.ents
  clear hr1
  go_wp2_with fail
  go_loopw [5, 11] (fun c i wr => ∃ k : Nat, k ≤ es.length ∧ i = .int .i64 k ∧ c = .int .i64 (bornN (es.take k) before) ∧ Below w1.heap.size w1 wr) (fun _ i wr => es.length - (intOf i).toNat)
  case atStart => exact ⟨0, Nat.zero_le _, rfl, rfl, Below.refl _ _⟩
  case round =>
    obtain ⟨k, hk, rfl, rfl, hbr⟩ := hrel
    by_cases hlt : k < es.length
    · have hbd := bornN_le (es.take k) before
      have hle : (es.take k).length ≤ k := List.length_take_le _ _
      obtain ⟨b, off, rfl, D0⟩ := hv1.resolve_left (fun h => by rw [h] at hlt; simp at hlt)
      have hE := (D0 k hlt).keep (Mod.ofBelow hbr (fun _ => False)) (fun h => h)
      obtain ⟨a0, a1, a2, a3, a4, a5⟩ := hE
      have HT : Hid (bornN (es.take (k + 1)) before = bornN (es.take k) before + if es[k].birth < before then 1 else 0) := by
        unfold Hid; rw [List.take_succ_eq_append_getElem hlt, bornN_snoc]
      clear D0 hv1
      generalize hx : es[k] = x at *
      have hblt := World.block_lt_of_cell? _ _ a0
      simp only at hblt
      by_cases hlt2 : x.birth < before
      · rw [if_pos hlt2] at HT
        go_wp2
        go_roundw
        case rel => exact ⟨k + 1, by omega, by go_num, by rw [HT.out], (hbr.alloc hbr.size _)⟩
        case measure => simp [intOf]; omega
      · rw [if_neg hlt2, Int.add_zero] at HT
        go_wp2
        go_roundw
        case rel => exact ⟨k + 1, by omega, by go_num, by rw [HT.out], (hbr.alloc hbr.size _)⟩
        case measure => simp [intOf]; omega
    · have HK : Hid (es.take k = es) := List.take_of_length_le (by omega)
      go_wp2
      go_ret
      exact ⟨ret_int (by rw [HK.out]), hb1.trans (hbr.mono hb1.size)⟩
end Go.Proofs.Ytcemcphkgehbhaa
