/- A memory of shared words: which addresses may be. -/
import Derived.Test.YtjnbkpklcmkdlaaMA
namespace Go.Proofs.Ytjnbkpklcmkdlaa
open Go.RowKit

/-- The room of a kind of words. -/
def roomsR (k : Int) : Int × Int :=
  if k = 0 then (1, 1) else if k = 1 then (1, 1) else if k = 2 then (1, 1) else if k = 3 then (1, 1) else if k = 4 then (1, 1) else if k = 5 then (1, 1) else
  if k = 6 then (32, 2) else if k = 7 then (4, 1) else if k = 8 then (16, 10) else if k = 9 then (256, 8) else if k = 10 then (9, 1) else if k = 11 then (1, 2) else (0, 0)
def mayB (a : Adr) : Bool := decide (0 ≤ a.2.1) && decide (a.2.1 < (roomsR a.1).1) && decide (0 ≤ a.2.2) && decide (a.2.2 < (roomsR a.1).2)

def RoomsPost (k : Int) (w : World) (e : Ending) (w' : World) : Prop := e = .returned (.agg #[.int .i64 (roomsR k).1, .int .i64 (roomsR k).2]) ∧ Below w.heap.size w w'

set_option maxHeartbeats 1000000 in
theorem rooms_any (k : Int) (w : World) : Calls Try.prog 61 #[.int .u8 k] w (RoomsPost k w) := by
  by_cases h0 : k = 0
  · subst h0; go_enter Try.func61, Try.ntmps61; go_wp2; exact bodyPost_ret (v := .agg #[.int .i64 1, .int .i64 1]) (by simp [results, Try.results61, go_sem]) rfl ⟨rfl, (Below.refl _ _).alloc (Nat.le_refl _) _⟩
  by_cases h1 : k = 1
  · subst h1; go_enter Try.func61, Try.ntmps61; go_wp2; exact bodyPost_ret (v := .agg #[.int .i64 1, .int .i64 1]) (by simp [results, Try.results61, go_sem]) rfl ⟨rfl, (Below.refl _ _).alloc (Nat.le_refl _) _⟩
  by_cases h2 : k = 2
  · subst h2; go_enter Try.func61, Try.ntmps61; go_wp2; exact bodyPost_ret (v := .agg #[.int .i64 1, .int .i64 1]) (by simp [results, Try.results61, go_sem]) rfl ⟨rfl, (Below.refl _ _).alloc (Nat.le_refl _) _⟩
  by_cases h3 : k = 3
  · subst h3; go_enter Try.func61, Try.ntmps61; go_wp2; exact bodyPost_ret (v := .agg #[.int .i64 1, .int .i64 1]) (by simp [results, Try.results61, go_sem]) rfl ⟨rfl, (Below.refl _ _).alloc (Nat.le_refl _) _⟩
  by_cases h4 : k = 4
  · subst h4; go_enter Try.func61, Try.ntmps61; go_wp2; exact bodyPost_ret (v := .agg #[.int .i64 1, .int .i64 1]) (by simp [results, Try.results61, go_sem]) rfl ⟨rfl, (Below.refl _ _).alloc (Nat.le_refl _) _⟩
  by_cases h5 : k = 5
  · subst h5; go_enter Try.func61, Try.ntmps61; go_wp2; exact bodyPost_ret (v := .agg #[.int .i64 1, .int .i64 1]) (by simp [results, Try.results61, go_sem]) rfl ⟨rfl, (Below.refl _ _).alloc (Nat.le_refl _) _⟩
  by_cases h6 : k = 6
  · subst h6; go_enter Try.func61, Try.ntmps61; go_wp2; exact bodyPost_ret (v := .agg #[.int .i64 32, .int .i64 2]) (by simp [results, Try.results61, go_sem]) rfl ⟨rfl, (Below.refl _ _).alloc (Nat.le_refl _) _⟩
  by_cases h7 : k = 7
  · subst h7; go_enter Try.func61, Try.ntmps61; go_wp2; exact bodyPost_ret (v := .agg #[.int .i64 4, .int .i64 1]) (by simp [results, Try.results61, go_sem]) rfl ⟨rfl, (Below.refl _ _).alloc (Nat.le_refl _) _⟩
  by_cases h8 : k = 8
  · subst h8; go_enter Try.func61, Try.ntmps61; go_wp2; exact bodyPost_ret (v := .agg #[.int .i64 16, .int .i64 10]) (by simp [results, Try.results61, go_sem]) rfl ⟨rfl, (Below.refl _ _).alloc (Nat.le_refl _) _⟩
  by_cases h9 : k = 9
  · subst h9; go_enter Try.func61, Try.ntmps61; go_wp2; exact bodyPost_ret (v := .agg #[.int .i64 256, .int .i64 8]) (by simp [results, Try.results61, go_sem]) rfl ⟨rfl, (Below.refl _ _).alloc (Nat.le_refl _) _⟩
  by_cases h10 : k = 10
  · subst h10; go_enter Try.func61, Try.ntmps61; go_wp2; exact bodyPost_ret (v := .agg #[.int .i64 9, .int .i64 1]) (by simp [results, Try.results61, go_sem]) rfl ⟨rfl, (Below.refl _ _).alloc (Nat.le_refl _) _⟩
  by_cases h11 : k = 11
  · subst h11; go_enter Try.func61, Try.ntmps61; go_wp2; exact bodyPost_ret (v := .agg #[.int .i64 1, .int .i64 2]) (by simp [results, Try.results61, go_sem]) rfl ⟨rfl, (Below.refl _ _).alloc (Nat.le_refl _) _⟩
  have HR : Hid (roomsR k = (0, 0)) := by unfold Hid roomsR; simp [h0, h1, h2, h3, h4, h5, h6, h7, h8, h9, h10, h11]
  have q0 : (k == 0) = false := by simpa using h0
  have q1 : (k == 1) = false := by simpa using h1
  have q2 : (k == 2) = false := by simpa using h2
  have q3 : (k == 3) = false := by simpa using h3
  have q4 : (k == 4) = false := by simpa using h4
  have q5 : (k == 5) = false := by simpa using h5
  have q6 : (k == 6) = false := by simpa using h6
  have q7 : (k == 7) = false := by simpa using h7
  have q8 : (k == 8) = false := by simpa using h8
  have q9 : (k == 9) = false := by simpa using h9
  have q10 : (k == 10) = false := by simpa using h10
  have q11 : (k == 11) = false := by simpa using h11
  clear h0 h1 h2 h3 h4 h5 h6 h7 h8 h9 h10 h11
  go_enter Try.func61, Try.ntmps61
  go_wp2
  exact bodyPost_ret (v := .agg #[.int .i64 0, .int .i64 0]) (by simp [results, Try.results61, go_sem]) rfl ⟨by rw [HR.out], (Below.refl _ _).alloc (Nat.le_refl _) _⟩

def MayPost (a : Adr) (w : World) (e : Ending) (w' : World) : Prop := e = .returned (.bool (mayB a)) ∧ Below w.heap.size w w'

theorem Below.skip {n : Nat} {w w1 : World} {o : Obj} (h : Below (w.alloc o).heap.size (w.alloc o) w1) (hn : n ≤ w.heap.size) : Below n w w1 :=
  ((Below.refl n w).alloc hn o).trans (h.mono (by simp; omega))

set_option maxHeartbeats 1000000 in
theorem may_any (a : Adr) (w : World) : Calls Try.prog 49 #[adrVal a] w (MayPost a w) := by
  obtain ⟨k, at', fl⟩ := a
  simp only [adrVal]
  have HM : Hid (mayB (k, at', fl) = (decide (0 ≤ at') && decide (at' < (roomsR k).1) && decide (0 ≤ fl) && decide (fl < (roomsR k).2))) := rfl
  go_enter Try.func49, Try.ntmps49
  go_wp2_with fail
  refine (rooms_any k _).mono ?_
  rintro _ w1 ⟨rfl, hb⟩
  generalize hr : roomsR k = r at HM ⊢
  obtain ⟨r1, r2⟩ := r
  clear hr
  have hbox1 := (Mod.ofBelow hb (fun _ => False)).keep (heap_alloc_at _ _) (fun h => h)
  have hbb : Below w.heap.size w w1 := Below.skip hb (Nat.le_refl _)
  clear hb
  have hc0 := cell_of hbox1 (i := 0) rfl
  have hc1 := cell_of hbox1 (i := 1) rfl
  have hc2 := cell_of hbox1 (i := 2) rfl
  have hlt := lt_of_block hbox1
  have hle := hbb.size
  generalize he : w.heap.size = eb at hbox1 hbb hc0 hc1 hc2 hlt hle ⊢
  simp only at HM
  by_cases c1 : 0 ≤ at'
  · by_cases c2 : at' < r1
    · by_cases c3 : 0 ≤ fl
      · by_cases c4 : fl < r2
        · go_wp2_with fail
          exact bodyPost_ret (v := .bool true) (by simp [results, Try.results49, go_sem]) rfl ⟨ret_bool (by rw [HM.out]; simp [c1, c2, c3, c4]), by rw [he]; exact hbb.alloc hle _⟩
        · have d4 : decide (fl < r2) = false := decide_eq_false c4
          go_wp2_with fail
          exact bodyPost_ret (v := .bool false) (by simp [results, Try.results49, go_sem]) rfl ⟨ret_bool (by rw [HM.out]; simp [d4]), by rw [he]; exact hbb.alloc hle _⟩
      · have d3 : decide (0 ≤ fl) = false := decide_eq_false c3
        go_wp2_with fail
        exact bodyPost_ret (v := .bool false) (by simp [results, Try.results49, go_sem]) rfl ⟨ret_bool (by rw [HM.out]; simp [d3]), by rw [he]; exact hbb.alloc hle _⟩
    · have d2 : decide (at' < r1) = false := decide_eq_false c2
      go_wp2_with fail
      exact bodyPost_ret (v := .bool false) (by simp [results, Try.results49, go_sem]) rfl ⟨ret_bool (by rw [HM.out]; simp [d2]), by rw [he]; exact hbb.alloc hle _⟩
  · have d1 : decide (0 ≤ at') = false := decide_eq_false c1
    go_wp2_with fail
    exact bodyPost_ret (v := .bool false) (by simp [results, Try.results49, go_sem]) rfl ⟨ret_bool (by rw [HM.out]; simp [d1]), by rw [he]; exact hbb.alloc hle _⟩
end Go.Proofs.Ytjnbkpklcmkdlaa
