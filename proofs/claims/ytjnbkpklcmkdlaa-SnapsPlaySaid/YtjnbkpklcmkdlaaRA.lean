/- The document's memory: which addresses may be; a word of it. -/
import Derived.Test.YtjnbkpklcmkdlaaLA
namespace Go.Proofs.Ytjnbkpklcmkdlaa
open Go.RowKit

def May2Post (b : Bool) (w : World) (e : Ending) (w' : World) : Prop := e = .returned (.bool b) ∧ Below w.heap.size w w'
set_option maxHeartbeats 1000000 in
theorem may2_6 (at' fl : Int) (w : World) : Calls Try.prog 64 #[.agg #[.int .u8 6, .int .i64 at', .int .i64 fl]] w (May2Post (decide (0 ≤ at') && decide (at' < 32) && decide (0 ≤ fl) && decide (fl < 2)) w) := by
  by_cases c1 : 0 ≤ at'
  · have d1 : decide (0 ≤ at') = true := decide_eq_true c1
    by_cases c2 : at' < 32
    · have d2 : decide (at' < 32) = true := decide_eq_true c2
      by_cases c3 : 0 ≤ fl
      · have d3 : decide (0 ≤ fl) = true := decide_eq_true c3
        by_cases c4 : fl < 2
        · have d4 : decide (fl < 2) = true := decide_eq_true c4
          go_enter Try.func64, Try.ntmps64
          go_wp2_with fail
          go_ret
          exact ⟨ret_bool (by first | rfl | (rw [d1, d2, d3, d4]; rfl)), (Below.refl _ _).alloc (Nat.le_refl _) _⟩
        · have d4 : decide (fl < 2) = false := decide_eq_false c4
          go_enter Try.func64, Try.ntmps64
          go_wp2_with fail
          go_ret
          exact ⟨ret_bool (rfl), (Below.refl _ _).alloc (Nat.le_refl _) _⟩
      · have d3 : decide (0 ≤ fl) = false := decide_eq_false c3
        go_enter Try.func64, Try.ntmps64
        go_wp2_with fail
        go_ret
        exact ⟨ret_bool (rfl), (Below.refl _ _).alloc (Nat.le_refl _) _⟩
    · have d2 : decide (at' < 32) = false := decide_eq_false c2
      go_enter Try.func64, Try.ntmps64
      go_wp2_with fail
      go_ret
      exact ⟨ret_bool (rfl), (Below.refl _ _).alloc (Nat.le_refl _) _⟩
  · have d1 : decide (0 ≤ at') = false := decide_eq_false c1
    go_enter Try.func64, Try.ntmps64
    go_wp2_with fail
    go_ret
    exact ⟨ret_bool (rfl), (Below.refl _ _).alloc (Nat.le_refl _) _⟩
set_option maxHeartbeats 1000000 in
theorem may2_7 (at' fl : Int) (w : World) : Calls Try.prog 64 #[.agg #[.int .u8 7, .int .i64 at', .int .i64 fl]] w (May2Post (decide (0 ≤ at') && decide (at' < 4) && decide (0 ≤ fl) && decide (fl < 1)) w) := by
  by_cases c1 : 0 ≤ at'
  · have d1 : decide (0 ≤ at') = true := decide_eq_true c1
    by_cases c2 : at' < 4
    · have d2 : decide (at' < 4) = true := decide_eq_true c2
      by_cases c3 : 0 ≤ fl
      · have d3 : decide (0 ≤ fl) = true := decide_eq_true c3
        by_cases c4 : fl < 1
        · have d4 : decide (fl < 1) = true := decide_eq_true c4
          go_enter Try.func64, Try.ntmps64
          go_wp2_with fail
          go_ret
          exact ⟨ret_bool (by first | rfl | (rw [d1, d2, d3, d4]; rfl)), (Below.refl _ _).alloc (Nat.le_refl _) _⟩
        · have d4 : decide (fl < 1) = false := decide_eq_false c4
          go_enter Try.func64, Try.ntmps64
          go_wp2_with fail
          go_ret
          exact ⟨ret_bool (rfl), (Below.refl _ _).alloc (Nat.le_refl _) _⟩
      · have d3 : decide (0 ≤ fl) = false := decide_eq_false c3
        go_enter Try.func64, Try.ntmps64
        go_wp2_with fail
        go_ret
        exact ⟨ret_bool (rfl), (Below.refl _ _).alloc (Nat.le_refl _) _⟩
    · have d2 : decide (at' < 4) = false := decide_eq_false c2
      go_enter Try.func64, Try.ntmps64
      go_wp2_with fail
      go_ret
      exact ⟨ret_bool (rfl), (Below.refl _ _).alloc (Nat.le_refl _) _⟩
  · have d1 : decide (0 ≤ at') = false := decide_eq_false c1
    go_enter Try.func64, Try.ntmps64
    go_wp2_with fail
    go_ret
    exact ⟨ret_bool (rfl), (Below.refl _ _).alloc (Nat.le_refl _) _⟩
set_option maxHeartbeats 1000000 in
theorem may2_8 (at' fl : Int) (w : World) : Calls Try.prog 64 #[.agg #[.int .u8 8, .int .i64 at', .int .i64 fl]] w (May2Post (decide (0 ≤ at') && decide (at' < 16) && decide (0 ≤ fl) && decide (fl < 10)) w) := by
  by_cases c1 : 0 ≤ at'
  · have d1 : decide (0 ≤ at') = true := decide_eq_true c1
    by_cases c2 : at' < 16
    · have d2 : decide (at' < 16) = true := decide_eq_true c2
      by_cases c3 : 0 ≤ fl
      · have d3 : decide (0 ≤ fl) = true := decide_eq_true c3
        by_cases c4 : fl < 10
        · have d4 : decide (fl < 10) = true := decide_eq_true c4
          go_enter Try.func64, Try.ntmps64
          go_wp2_with fail
          go_ret
          exact ⟨ret_bool (by first | rfl | (rw [d1, d2, d3, d4]; rfl)), (Below.refl _ _).alloc (Nat.le_refl _) _⟩
        · have d4 : decide (fl < 10) = false := decide_eq_false c4
          go_enter Try.func64, Try.ntmps64
          go_wp2_with fail
          go_ret
          exact ⟨ret_bool (rfl), (Below.refl _ _).alloc (Nat.le_refl _) _⟩
      · have d3 : decide (0 ≤ fl) = false := decide_eq_false c3
        go_enter Try.func64, Try.ntmps64
        go_wp2_with fail
        go_ret
        exact ⟨ret_bool (rfl), (Below.refl _ _).alloc (Nat.le_refl _) _⟩
    · have d2 : decide (at' < 16) = false := decide_eq_false c2
      go_enter Try.func64, Try.ntmps64
      go_wp2_with fail
      go_ret
      exact ⟨ret_bool (rfl), (Below.refl _ _).alloc (Nat.le_refl _) _⟩
  · have d1 : decide (0 ≤ at') = false := decide_eq_false c1
    go_enter Try.func64, Try.ntmps64
    go_wp2_with fail
    go_ret
    exact ⟨ret_bool (rfl), (Below.refl _ _).alloc (Nat.le_refl _) _⟩
set_option maxHeartbeats 1000000 in
theorem may2_9 (at' fl : Int) (w : World) : Calls Try.prog 64 #[.agg #[.int .u8 9, .int .i64 at', .int .i64 fl]] w (May2Post (decide (0 ≤ at') && decide (at' < 256) && decide (0 ≤ fl) && decide (fl < 8)) w) := by
  by_cases c1 : 0 ≤ at'
  · have d1 : decide (0 ≤ at') = true := decide_eq_true c1
    by_cases c2 : at' < 256
    · have d2 : decide (at' < 256) = true := decide_eq_true c2
      by_cases c3 : 0 ≤ fl
      · have d3 : decide (0 ≤ fl) = true := decide_eq_true c3
        by_cases c4 : fl < 8
        · have d4 : decide (fl < 8) = true := decide_eq_true c4
          go_enter Try.func64, Try.ntmps64
          go_wp2_with fail
          go_ret
          exact ⟨ret_bool (by first | rfl | (rw [d1, d2, d3, d4]; rfl)), (Below.refl _ _).alloc (Nat.le_refl _) _⟩
        · have d4 : decide (fl < 8) = false := decide_eq_false c4
          go_enter Try.func64, Try.ntmps64
          go_wp2_with fail
          go_ret
          exact ⟨ret_bool (rfl), (Below.refl _ _).alloc (Nat.le_refl _) _⟩
      · have d3 : decide (0 ≤ fl) = false := decide_eq_false c3
        go_enter Try.func64, Try.ntmps64
        go_wp2_with fail
        go_ret
        exact ⟨ret_bool (rfl), (Below.refl _ _).alloc (Nat.le_refl _) _⟩
    · have d2 : decide (at' < 256) = false := decide_eq_false c2
      go_enter Try.func64, Try.ntmps64
      go_wp2_with fail
      go_ret
      exact ⟨ret_bool (rfl), (Below.refl _ _).alloc (Nat.le_refl _) _⟩
  · have d1 : decide (0 ≤ at') = false := decide_eq_false c1
    go_enter Try.func64, Try.ntmps64
    go_wp2_with fail
    go_ret
    exact ⟨ret_bool (rfl), (Below.refl _ _).alloc (Nat.le_refl _) _⟩
set_option maxHeartbeats 1000000 in
theorem may2_10 (at' fl : Int) (w : World) : Calls Try.prog 64 #[.agg #[.int .u8 10, .int .i64 at', .int .i64 fl]] w (May2Post (decide (0 ≤ at') && decide (at' < 9) && decide (0 ≤ fl) && decide (fl < 1)) w) := by
  by_cases c1 : 0 ≤ at'
  · have d1 : decide (0 ≤ at') = true := decide_eq_true c1
    by_cases c2 : at' < 9
    · have d2 : decide (at' < 9) = true := decide_eq_true c2
      by_cases c3 : 0 ≤ fl
      · have d3 : decide (0 ≤ fl) = true := decide_eq_true c3
        by_cases c4 : fl < 1
        · have d4 : decide (fl < 1) = true := decide_eq_true c4
          go_enter Try.func64, Try.ntmps64
          go_wp2_with fail
          go_ret
          exact ⟨ret_bool (by first | rfl | (rw [d1, d2, d3, d4]; rfl)), (Below.refl _ _).alloc (Nat.le_refl _) _⟩
        · have d4 : decide (fl < 1) = false := decide_eq_false c4
          go_enter Try.func64, Try.ntmps64
          go_wp2_with fail
          go_ret
          exact ⟨ret_bool (rfl), (Below.refl _ _).alloc (Nat.le_refl _) _⟩
      · have d3 : decide (0 ≤ fl) = false := decide_eq_false c3
        go_enter Try.func64, Try.ntmps64
        go_wp2_with fail
        go_ret
        exact ⟨ret_bool (rfl), (Below.refl _ _).alloc (Nat.le_refl _) _⟩
    · have d2 : decide (at' < 9) = false := decide_eq_false c2
      go_enter Try.func64, Try.ntmps64
      go_wp2_with fail
      go_ret
      exact ⟨ret_bool (rfl), (Below.refl _ _).alloc (Nat.le_refl _) _⟩
  · have d1 : decide (0 ≤ at') = false := decide_eq_false c1
    go_enter Try.func64, Try.ntmps64
    go_wp2_with fail
    go_ret
    exact ⟨ret_bool (rfl), (Below.refl _ _).alloc (Nat.le_refl _) _⟩
set_option maxHeartbeats 1000000 in
theorem may2_11 (at' fl : Int) (w : World) : Calls Try.prog 64 #[.agg #[.int .u8 11, .int .i64 at', .int .i64 fl]] w (May2Post (decide (0 ≤ at') && decide (at' < 1) && decide (0 ≤ fl) && decide (fl < 2)) w) := by
  by_cases c1 : 0 ≤ at'
  · have d1 : decide (0 ≤ at') = true := decide_eq_true c1
    by_cases c2 : at' < 1
    · have d2 : decide (at' < 1) = true := decide_eq_true c2
      by_cases c3 : 0 ≤ fl
      · have d3 : decide (0 ≤ fl) = true := decide_eq_true c3
        by_cases c4 : fl < 2
        · have d4 : decide (fl < 2) = true := decide_eq_true c4
          go_enter Try.func64, Try.ntmps64
          go_wp2_with fail
          go_ret
          exact ⟨ret_bool (by first | rfl | (rw [d1, d2, d3, d4]; rfl)), (Below.refl _ _).alloc (Nat.le_refl _) _⟩
        · have d4 : decide (fl < 2) = false := decide_eq_false c4
          go_enter Try.func64, Try.ntmps64
          go_wp2_with fail
          go_ret
          exact ⟨ret_bool (rfl), (Below.refl _ _).alloc (Nat.le_refl _) _⟩
      · have d3 : decide (0 ≤ fl) = false := decide_eq_false c3
        go_enter Try.func64, Try.ntmps64
        go_wp2_with fail
        go_ret
        exact ⟨ret_bool (rfl), (Below.refl _ _).alloc (Nat.le_refl _) _⟩
    · have d2 : decide (at' < 1) = false := decide_eq_false c2
      go_enter Try.func64, Try.ntmps64
      go_wp2_with fail
      go_ret
      exact ⟨ret_bool (rfl), (Below.refl _ _).alloc (Nat.le_refl _) _⟩
  · have d1 : decide (0 ≤ at') = false := decide_eq_false c1
    go_enter Try.func64, Try.ntmps64
    go_wp2_with fail
    go_ret
    exact ⟨ret_bool (rfl), (Below.refl _ _).alloc (Nat.le_refl _) _⟩
set_option maxHeartbeats 2000000 in
theorem may2_low (k at' fl : Int) (h5 : k ≤ 5) (w : World) : Calls Try.prog 64 #[.agg #[.int .u8 k, .int .i64 at', .int .i64 fl]] w (May2Post (decide (0 ≤ at') && decide (at' < 1) && decide (0 ≤ fl) && decide (fl < 1)) w) := by
  have q6 : (k == 6) = false := by simp; omega
  have q7 : (k == 7) = false := by simp; omega
  have q8 : (k == 8) = false := by simp; omega
  have q9 : (k == 9) = false := by simp; omega
  have q10 : (k == 10) = false := by simp; omega
  have q11 : (k == 11) = false := by simp; omega
  have ql : decide (k ≤ 11) = true := decide_eq_true (by omega)
  clear h5
  by_cases c1 : 0 ≤ at'
  · have d1 : decide (0 ≤ at') = true := decide_eq_true c1
    by_cases c2 : at' < 1
    · have d2 : decide (at' < 1) = true := decide_eq_true c2
      by_cases c3 : 0 ≤ fl
      · have d3 : decide (0 ≤ fl) = true := decide_eq_true c3
        by_cases c4 : fl < 1
        · have d4 : decide (fl < 1) = true := decide_eq_true c4
          go_enter Try.func64, Try.ntmps64
          go_wp2_with fail
          go_ret
          exact ⟨ret_bool (by first | rfl | (rw [d1, d2, d3, d4]; rfl)), (Below.refl _ _).alloc (Nat.le_refl _) _⟩
        · have d4 : decide (fl < 1) = false := decide_eq_false c4
          go_enter Try.func64, Try.ntmps64
          go_wp2_with fail
          go_ret
          exact ⟨ret_bool (rfl), (Below.refl _ _).alloc (Nat.le_refl _) _⟩
      · have d3 : decide (0 ≤ fl) = false := decide_eq_false c3
        go_enter Try.func64, Try.ntmps64
        go_wp2_with fail
        go_ret
        exact ⟨ret_bool (rfl), (Below.refl _ _).alloc (Nat.le_refl _) _⟩
    · have d2 : decide (at' < 1) = false := decide_eq_false c2
      go_enter Try.func64, Try.ntmps64
      go_wp2_with fail
      go_ret
      exact ⟨ret_bool (rfl), (Below.refl _ _).alloc (Nat.le_refl _) _⟩
  · have d1 : decide (0 ≤ at') = false := decide_eq_false c1
    go_enter Try.func64, Try.ntmps64
    go_wp2_with fail
    go_ret
    exact ⟨ret_bool (rfl), (Below.refl _ _).alloc (Nat.le_refl _) _⟩
set_option maxHeartbeats 1000000 in
theorem may2_high (k at' fl : Int) (h5 : 11 < k) (w : World) : Calls Try.prog 64 #[.agg #[.int .u8 k, .int .i64 at', .int .i64 fl]] w (May2Post false w) := by
  have q6 : (k == 6) = false := by simp; omega
  have q7 : (k == 7) = false := by simp; omega
  have q8 : (k == 8) = false := by simp; omega
  have q9 : (k == 9) = false := by simp; omega
  have q10 : (k == 10) = false := by simp; omega
  have q11 : (k == 11) = false := by simp; omega
  have ql : decide (k ≤ 11) = false := decide_eq_false (by omega)
  clear h5
  go_enter Try.func64, Try.ntmps64
  go_wp2_with fail
  go_ret
  exact ⟨rfl, (Below.refl _ _).alloc (Nat.le_refl _) _⟩
theorem adrKind {a : Adr} (h : AdrWf a) : 0 ≤ a.1 := by
  have h1 := h.1
  have e1 : IntKind.u8.min = 0 := by decide
  have hw' : (decide (IntKind.u8.min ≤ a.1) && decide (a.1 ≤ IntKind.u8.max)) = true := h1
  rw [e1] at hw'
  simp only [Bool.and_eq_true, decide_eq_true_eq] at hw'
  exact hw'.1
theorem may2_any {a : Adr} (ha : AdrWf a) (w : World) : Calls Try.prog 64 #[adrVal a] w (May2Post (mayB a) w) := by
  have h0 := adrKind ha
  obtain ⟨k, at', fl⟩ := a
  simp only at h0
  by_cases h5 : k ≤ 5
  · have hr : roomsR k = (1, 1) := by
      obtain rfl | rfl | rfl | rfl | rfl | rfl : k = 0 ∨ k = 1 ∨ k = 2 ∨ k = 3 ∨ k = 4 ∨ k = 5 := by omega
      all_goals rfl
    have e : mayB (k, at', fl) = (decide (0 ≤ at') && decide (at' < 1) && decide (0 ≤ fl) && decide (fl < 1)) := by
      simp only [mayB, hr]
    rw [e]
    exact may2_low k at' fl h5 w
  · by_cases h11 : 11 < k
    · have hr : roomsR k = (0, 0) := by
        unfold roomsR
        simp [show k ≠ 0 by omega, show k ≠ 1 by omega, show k ≠ 2 by omega, show k ≠ 3 by omega, show k ≠ 4 by omega, show k ≠ 5 by omega, show k ≠ 6 by omega, show k ≠ 7 by omega, show k ≠ 8 by omega, show k ≠ 9 by omega, show k ≠ 10 by omega, show k ≠ 11 by omega]
      have e : mayB (k, at', fl) = false := by
        simp only [mayB, hr]
        by_cases h1 : 0 ≤ at'
        · have : ¬ at' < 0 := by omega
          simp [this]
        · simp [h1]
      rw [e]
      exact may2_high k at' fl h11 w
    · obtain rfl | rfl | rfl | rfl | rfl | rfl : k = 6 ∨ k = 7 ∨ k = 8 ∨ k = 9 ∨ k = 10 ∨ k = 11 := by omega
      · exact may2_6 at' fl w
      · exact may2_7 at' fl w
      · exact may2_8 at' fl w
      · exact may2_9 at' fl w
      · exact may2_10 at' fl w
      · exact may2_11 at' fl w
end Go.Proofs.Ytjnbkpklcmkdlaa
