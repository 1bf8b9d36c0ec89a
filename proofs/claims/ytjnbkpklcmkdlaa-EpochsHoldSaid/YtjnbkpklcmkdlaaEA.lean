/- Epochs: the small functions. -/
import Derived.Test.YtjnbkpklcmkdlaaMH
namespace Go.Proofs.Ytjnbkpklcmkdlaa
open Go.RowKit

theorem over_line {E : Nat} {pc : Int} {w : World} (h : w.cell? ⟨E, 0, none⟩ = some (.int .i64 pc)) :
    Calls Try.prog 60 #[.pointer (some ⟨E, 0, none⟩)] w fun e w' => e = .returned (.bool (decide (pc = 0))) ∧ w' = w := by
  go_enter Try.func60, Try.ntmps60
  go_wp2
  go_ret
  exact ⟨rfl, rfl⟩

theorem or_one (m : Nat) : (m * 2) ||| 1 = 2 * m + 1 := by
  apply Nat.eq_of_testBit_eq
  intro i
  rw [Nat.testBit_or]
  cases i with
  | zero => simp [Nat.testBit_zero]
  | succ i =>
    simp only [Nat.testBit_succ]
    have h1 : m * 2 / 2 = m := by omega
    have h2 : (2 * m + 1) / 2 = m := by omega
    rw [h1, h2]
    simp
theorem wrap_u64 {n : Int} (h : 0 ≤ n) (h2 : n < 18446744073709551616) : IntKind.u64.wrap n = n := by
  simp [IntKind.wrap, IntKind.bits, IntKind.signed]
  omega
theorem bits_or {n : Int} (h : 0 ≤ n) (h2 : n < 1152921504606846976) : bits .or .u64 (n * 2) 1 = 2 * n + 1 := by
  obtain ⟨m, rfl⟩ := Int.eq_ofNat_of_zero_le h
  have e1 : BitVec.ofInt 64 ((m : Int) * 2) = BitVec.ofNat 64 (m * 2) := by
    rw [← BitVec.ofInt_natCast]; simp
  have e2 : BitVec.ofInt 64 1 = BitVec.ofNat 64 1 := by rfl
  have : (BitVec.ofNat 64 (m * 2) ||| BitVec.ofNat 64 1).toNat = 2 * m + 1 := by
    rw [BitVec.toNat_or, BitVec.toNat_ofNat, BitVec.toNat_ofNat, Nat.mod_eq_of_lt (by omega), Nat.mod_eq_of_lt (by omega), or_one]
  show IntKind.u64.wrap (((BitVec.ofInt 64 ((m : Int) * 2) ||| BitVec.ofInt 64 1).toNat : Nat) : Int) = _
  rw [e1, e2, this, wrap_u64 (by omega) (by omega)]
  omega
theorem bits_and {n : Int} (h : 0 ≤ n) (h2 : n < 18446744073709551616) : bits .and .u64 n 1 = n % 2 := by
  obtain ⟨m, rfl⟩ := Int.eq_ofNat_of_zero_le h
  have e1 : BitVec.ofInt 64 (m : Int) = BitVec.ofNat 64 m := BitVec.ofInt_natCast ..
  have e2 : BitVec.ofInt 64 1 = BitVec.ofNat 64 1 := by rfl
  have : (BitVec.ofNat 64 m &&& BitVec.ofNat 64 1).toNat = m % 2 := by
    rw [BitVec.toNat_and, BitVec.toNat_ofNat, BitVec.toNat_ofNat, Nat.mod_eq_of_lt (a := m) (by omega), Nat.mod_eq_of_lt (a := 1) (by omega), Nat.and_one_is_mod]
  show IntKind.u64.wrap (((BitVec.ofInt 64 (m : Int) &&& BitVec.ofInt 64 1).toNat : Nat) : Int) = _
  rw [e1, e2, this, wrap_u64 (by omega) (by omega)]
  omega

theorem in_any {n : Int} {w : World} (h : 0 ≤ n) (h2 : n < 1152921504606846976) :
    Calls Try.prog 53 #[.int .u64 n] w fun e w' => e = .returned (.int .u64 (2 * n + 1)) ∧ w' = w := by
  go_enter Try.func53, Try.ntmps53
  go_wp2
  go_ret
  exact ⟨ret_int (bits_or h h2), rfl⟩

theorem enter_over {E : Nat} {pc : Int} {w : World} (h : w.cell? ⟨E, 0, none⟩ = some (.int .i64 pc)) :
    Calls Try.prog 56 #[.pointer (some ⟨E, 0, none⟩)] w fun e w' => e = .returned (.bool (decide (pc = 0))) ∧ w' = w := by
  go_enter Try.func56, Try.ntmps56
  go_wp2_with fail
  refine (over_line h).mono ?_
  rintro _ w ⟨rfl, rfl⟩
  go_wp2_with fail
  go_ret
  exact ⟨rfl, rfl⟩
theorem exit_over {E : Nat} {pc : Int} {w : World} (h : w.cell? ⟨E, 0, none⟩ = some (.int .i64 pc)) :
    Calls Try.prog 55 #[.pointer (some ⟨E, 0, none⟩)] w fun e w' => e = .returned (.bool (decide (pc = 0))) ∧ w' = w := by
  go_enter Try.func55, Try.ntmps55
  go_wp2_with fail
  refine (over_line h).mono ?_
  rintro _ w ⟨rfl, rfl⟩
  go_wp2_with fail
  go_ret
  exact ⟨rfl, rfl⟩
theorem adv_over {E : Nat} {pc : Int} {w : World} (h : w.cell? ⟨E, 0, none⟩ = some (.int .i64 pc)) :
    Calls Try.prog 46 #[.pointer (some ⟨E, 0, none⟩)] w fun e w' => e = .returned (.bool (decide (pc = 0))) ∧ w' = w := by
  go_enter Try.func46, Try.ntmps46
  go_wp2_with fail
  refine (over_line h).mono ?_
  rintro _ w ⟨rfl, rfl⟩
  go_wp2_with fail
  go_ret
  exact ⟨rfl, rfl⟩
theorem adv_got {E : Nat} {g : Bool} {w : World} (h : w.cell? ⟨E, 4, none⟩ = some (.bool g)) :
    Calls Try.prog 47 #[.pointer (some ⟨E, 0, none⟩)] w fun e w' => e = .returned (.bool g) ∧ w' = w := by
  go_enter Try.func47, Try.ntmps47
  go_wp2
  go_ret
  exact ⟨rfl, rfl⟩

/-- The addresses. -/
def gAdr : Adr := (1, 0, 0)
def nAdr : Adr := (5, 0, 0)
def oAdr (i : Int) : Adr := (8, i, 3)
def AdrPost (a : Adr) (w : World) (e : Ending) (w' : World) : Prop := e = .returned (adrVal a) ∧ Below w.heap.size w w'
theorem global_any (w : World) : Calls Try.prog 51 #[] w (AdrPost gAdr w) := by
  go_enter Try.func51, Try.ntmps51
  go_wp2
  exact bodyPost_ret (v := adrVal gAdr) (by simp [results, Try.results51, go_sem, adrVal, gAdr]) rfl ⟨rfl, (Below.refl _ _).alloc (Nat.le_refl _) _⟩
theorem own_any (i : Int) (w : World) : Calls Try.prog 52 #[.int .i64 i] w (AdrPost (oAdr i) w) := by
  go_enter Try.func52, Try.ntmps52
  go_wp2
  exact bodyPost_ret (v := adrVal (oAdr i)) (by simp [results, Try.results52, go_sem, adrVal, oAdr]) rfl ⟨rfl, (Below.refl _ _).alloc (Nat.le_refl _) _⟩
def FirstPost (w : World) (e : Ending) (w' : World) : Prop := e = .returned (.agg #[.int .i64 1, .int .u64 0]) ∧ Below w.heap.size w w'
theorem first_any {i : Int} (h0 : 0 ≤ i) (h1 : i < 16) (w : World) : Calls Try.prog 50 #[.int .i64 i] w (FirstPost w) := by
  go_enter Try.func50, Try.ntmps50
  go_wp2
  exact bodyPost_ret (v := .agg #[.int .i64 1, .int .u64 0]) (by simp [results, Try.results50, go_sem]) rfl ⟨rfl, (Below.refl _ _).alloc (Nat.le_refl _) _⟩

end Go.Proofs.Ytjnbkpklcmkdlaa
