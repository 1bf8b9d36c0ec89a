/- The document's list: counted, swept; entries that are spoilt; an entry of a slot. -/
import Derived.Test.YtcemcphkgehbhaaG
namespace Go.Proofs.Ytcemcphkgehbhaa
open Go.RowKit

set_option maxHeartbeats 1000000 in
theorem rborn_any (w : World) (L : Nat) (es : List Ent) (fp : List Nat) (before : Int) (h : RefAt w L es fp) (hn : es.length ≤ 1000) :
    Calls Try.prog 16 #[.pointer (some ⟨L, 0, none⟩), .int .u64 before] w fun e w' => e = .returned (.int .i64 (bornN es before)) ∧ ∃ n, w' = w.drewN n := by
  obtain ⟨v, c0, a, cap, rfl, hv1⟩ := h.ents
  clear h
  go_enter Try.func16, Try.ntmps16
  go_wp2_with fail
  go_loopw [5, 6] (fun c i wr => ∃ k : Nat, k ≤ es.length ∧ i = .int .i64 k ∧ c = .int .i64 (bornN (es.take k) before) ∧ (∃ n, wr = w.drewN n)) (fun _ i wr => es.length - (intOf i).toNat)
  case atStart => exact ⟨0, Nat.zero_le _, rfl, rfl, 0, rfl⟩
  case round =>
    obtain ⟨k, hk, rfl, rfl, nn, rfl⟩ := hrel
    by_cases hlt : k < es.length
    · have hbd := bornN_le (es.take k) before
      have hle : (es.take k).length ≤ k := List.length_take_le _ _
      obtain ⟨b, off, rfl, D0⟩ := hv1.resolve_left (fun h => by rw [h] at hlt; simp at hlt)
      obtain ⟨a0, a1, a2, a3, a4, a5⟩ := D0 k hlt
      have HT : Hid (bornN (es.take (k + 1)) before = bornN (es.take k) before + if es[k].birth < before then 1 else 0) := by
        unfold Hid; rw [List.take_succ_eq_append_getElem hlt, bornN_snoc]
      clear D0 hv1
      generalize hx : es[k] = x at *
      by_cases hlt2 : x.birth < before
      · rw [if_pos hlt2] at HT
        go_wp2
        go_roundw
        case rel => exact ⟨k + 1, by omega, by go_num, by rw [HT.out], _, rfl⟩
        case measure => simp [intOf]; omega
      · rw [if_neg hlt2, Int.add_zero] at HT
        go_wp2
        go_roundw
        case rel => exact ⟨k + 1, by omega, by go_num, by rw [HT.out], _, rfl⟩
        case measure => simp [intOf]; omega
    · have HK : Hid (es.take k = es) := List.take_of_length_le (by omega)
      go_wp2
      go_ret
      exact ⟨ret_int (by rw [HK.out]), _, rfl⟩

set_option maxHeartbeats 400000 in
theorem of_any (s : Int) (w : World) : Calls Try.prog 17 #[.int .i64 s] w fun e w' => e = .returned (Ent.val ⟨s, 4, false, 0, 0, 0⟩) ∧ w' = w.alloc (.cells (Ent.cells ⟨s, 4, false, 0, 0, 0⟩).toArray 34) := by
  simp only [Ent.val, Ent.cells]
  go_enter Try.func17, Try.ntmps17
  go_wp2
  exact bodyPost_ret (v := .agg #[.int .i64 s, .int .u32 4, .bool false, .int .u64 0, .int .u64 0, .int .u64 0]) (by simp [results, Try.results17, go_sem]) rfl ⟨rfl, rfl⟩

/-- Spoilt: of what was there the value's own block alone has changed. -/
theorem spoil_any (base : Nat) (v : Value) (es : List Ent) (w : World) (h : Cut w base v es) (hn : es.length ≤ 1000) :
    Calls Try.prog 10 #[v] w fun e w' => e = .returned (.tuple #[]) ∧ Mod (fun b => v.ownBlock = some b) w w' := by
  rcases h with ⟨rfl, rfl⟩ | ⟨g, cur, rfl, hb, hg, ht⟩
  · go_enter Try.func10, Try.ntmps10
    go_wp2_with fail
    refine wp_loop_rounds 1 ?_
    rw [rounds_succ]
    go_wp2_with fail
    go_end0
    exact ⟨rfl, Mod.refl _ _⟩
  · have hsz : es.length * 6 ≤ cur.size := by
      have := congrArg List.length ht
      rw [length_flat, List.length_take] at this
      simp at this
      omega
    clear ht
    go_enter Try.func10, Try.ntmps10
    go_wp2_with fail
    go_loopw [2] (fun i wr => ∃ k : Nat, k ≤ es.length ∧ i = .int .i64 k ∧ Mod (fun b => b = g) w wr ∧ ∃ c, wr.heap[g]? = some (.cells c 34 (0, 0)) ∧ c.size = cur.size) (fun i wr => es.length - (intOf i).toNat)
    case atStart => exact ⟨0, Nat.zero_le _, rfl, Mod.refl _ _, cur, hg, rfl⟩
    case round =>
      obtain ⟨k, hk, rfl, hm, c, hc, hcs⟩ := hrel
      by_cases hlt : k < es.length
      · have cc : ∀ j, j < 6 → ∃ u, wr.cell? ⟨g, k * 6 + j, none⟩ = some u := fun j hj => ⟨_, cell_of hc (i := k * 6 + j) (Array.getElem?_eq_getElem (by omega))⟩
        obtain ⟨u0, d0⟩ := cc 0 (by omega)
        rw [Nat.add_zero] at d0
        obtain ⟨u1, d1⟩ := cc 1 (by omega)
        obtain ⟨u2, d2⟩ := cc 2 (by omega)
        obtain ⟨u3, d3⟩ := cc 3 (by omega)
        obtain ⟨u4, d4⟩ := cc 4 (by omega)
        obtain ⟨u5, d5⟩ := cc 5 (by omega)
        have ff : ∀ j, wr.frozen? ⟨g, j, none⟩ = false := fun j => free_of hc
        clear cc
        go_wp2_with fail
        go_roundw
        case rel =>
          refine ⟨k + 1, by omega, by go_num, ?_, ?_⟩
          · exact (((((hm.setCell (fun _ => rfl) _).setCell (fun _ => rfl) _).setCell (fun _ => rfl) _).setCell (fun _ => rfl) _).setCell (fun _ => rfl) _).setCell (fun _ => rfl) _
          · exact ⟨_, heap_setCell_same (heap_setCell_same (heap_setCell_same (heap_setCell_same (heap_setCell_same (heap_setCell_same hc _) _) _) _) _) _, by simp [hcs]⟩
        case measure => simp [intOf]; omega
      · go_wp2_with fail
        go_end0
        exact ⟨rfl, hm.weaken (fun b _ h => by rw [h]; rfl)⟩
end Go.Proofs.Ytcemcphkgehbhaa
