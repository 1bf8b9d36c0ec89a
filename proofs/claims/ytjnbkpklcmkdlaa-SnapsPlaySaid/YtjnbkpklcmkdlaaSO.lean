/- Snapshots compared; how many steps one takes. -/
import Derived.Test.YtjnbkpklcmkdlaaSN
import Derived.ChangeKeysEq
namespace Go.Proofs.Ytjnbkpklcmkdlaa
open Go.RowKit

theorem cellsU : Try.prog.cellsOf 22 = 1 := by kernel_rfl
theorem infoU : (Try.prog.info? 22).map (fun i => (i.zero, i.size, i.bytes)) = some (some (.int .u64 0), 1, 8) := by kernel_rfl
set_option maxRecDepth 100000 in
theorem eq_arr (a b c : Int) (w : World) : (Op.equalIn 9999 50 (.agg #[.int .u64 a, .int .u64 b, .int .u64 c]) (.agg #[.int .u64 a, .int .u64 b, .int .u64 c])).run Try.prog w = .ok true w := by
  obtain ⟨i0, hi, _⟩ := info_parts infoU
  rw [run_equalIn_array w 9998 _ _ Try.underlying50 hi, cellsU]
  simp only [List.range, List.range.loop, Op.eqItems]
  go_simp
set_option maxHeartbeats 1000000 in
theorem eq_thr (r : Nat → Int) (w : World) : (Op.equalIn 10000 52 (thrV r) (thrV r)).run Try.prog w = .ok true w := by
  have q := eq_arr (r 7) (r 8) (r 9)
  go_simp
def SamePost (w : World) (e : Ending) (w' : World) : Prop := e = .returned (.bool true) ∧ Mod (fun _ => False) w w'
def SameRel (n : Nat) (w1 : World) (i : Value) (wr : World) : Prop := ∃ k : Nat, k ≤ n ∧ i = .int .i64 k ∧ Mod (fun _ => False) w1 wr
set_option maxHeartbeats 4000000 in
set_option maxRecDepth 100000 in
theorem same_any {w : World} {a1 a2 : Option Addr} {n c1 c2 : Nat} {R : Nat → Nat → Int} (h1 : Thrs w (.slice a1 n c1) n R) (h2 : Thrs w (.slice a2 n c2) n R) (hn : n ≤ 100) :
    Calls Try.prog 22 #[snapV a1 n c1, snapV a2 n c2] w (SamePost w) := by
  obtain ⟨x1, y1, e1, h1⟩ := h1
  cases e1
  obtain ⟨x2, y2, e2, h2⟩ := h2
  cases e2
  have H1 := Lib.hid h1
  have H2 := Lib.hid h2
  clear h1 h2
  go_enter Try.func22, Try.ntmps22
  go_wp2_with fail
  have hb0 := ((Mod.refl (fun _ => False) w).alloc (.cells #[.slice a1 n c1, .int .u64 0] 58)).alloc (.cells #[.slice a2 n c2, .int .u64 0] 58)
  obtain ⟨hs1, hs2, hz⟩ := heap_alloc2 w (.cells #[.slice a1 n c1, .int .u64 0] 58) (.cells #[.slice a2 n c2, .int .u64 0] 58)
  generalize (w.alloc (.cells #[.slice a1 n c1, .int .u64 0] 58)).alloc (.cells #[.slice a2 n c2, .int .u64 0] 58) = w1 at hb0 hs1 hs2 hz ⊢
  have HB0 := Lib.hid hb0
  have HS1 := Lib.hid hs1
  have HS2 := Lib.hid hs2
  clear hb0 hs1 hs2 hz
  go_loopw [5] (fun i wr => SameRel n w1 i wr) (fun i _ => n - (intOf i).toNat)
  case atStart => exact ⟨0, Nat.zero_le _, rfl, Mod.refl _ _⟩
  case round =>
    obtain ⟨k, hk, rfl, hm⟩ := hrel
    have HM := Lib.hid hm
    have p0 : (_ : World).cell? ⟨w.heap.size, 0, none⟩ = some (.slice a1 n c1) := cell_of (hm.keep HS1.out (fun h => h)) rfl
    have p1 : (_ : World).cell? ⟨w.heap.size + 1, 0, none⟩ = some (.slice a2 n c2) := cell_of (hm.keep HS2.out (fun h => h)) rfl
    clear hm
    by_cases hkl : k < n
    · obtain ⟨b, off, rfl, hb, D⟩ := H1.out.resolve_left (by omega)
      obtain ⟨b', off', rfl, hb', D'⟩ := H2.out.resolve_left (by omega)
      have hall : Mod (fun _ => False) w _ := HB0.out.trans HM.out (fun _ _ h => h)
      have E1 : ∀ k, k < n → ∀ j, j < 10 → (_ : World).cell? ⟨b, off + k * 10 + j, none⟩ = some (.int .u64 (R k j)) := fun k hk j hj => (cell_mod hall hb (fun h => h)).trans (D k hk j hj)
      have E2 : ∀ k, k < n → ∀ j, j < 10 → (_ : World).cell? ⟨b', off' + k * 10 + j, none⟩ = some (.int .u64 (R k j)) := fun k hk j hj => (cell_mod hall hb' (fun h => h)).trans (D' k hk j hj)
      obtain ⟨a0, a1, a2, a3, a4, a5, a6, a7, a8, a9⟩ := Thrs.cells E1 hkl
      obtain ⟨b0, b1, b2, b3, b4, b5, b6, b7, b8, b9⟩ := Thrs.cells E2 hkl
      have q := fun w => eq_thr (R k) w
      have hkI : (k : Int) < (n : Int) := by omega
      have hk0 : (0 : Int) ≤ (k : Int) := by omega
      clear E1 E2 D D' hall
      go_wp2_with fail
      go_quiet (fail)
      have HMq : Hid (Mod (fun _ => False) wr (wr.drewN nq)) := (Mod.refl (fun _ => False) wr).drewN nq
      clear a0 a1 a2 a3 a4 a5 a6 a7 a8 a9 b0 b1 b2 b3 b4 b5 b6 b7 b8 b9 q p0 p1
      generalize wr.drewN nq = wq at HMq ⊢
      go_wp2_with fail
      go_roundw
      case rel => exact ⟨k + 1, by omega, by go_num, HM.out.trans HMq.out (fun _ _ h => h)⟩
      case measure => simp [intOf]; omega
    · go_wp2_with fail
      go_ret
      exact ⟨rfl, HB0.out.trans HM.out (fun _ _ h => h)⟩

def stepsOf (R : Nat → Nat → Int) : Nat → Nat
  | 0 => 1
  | n + 1 => stepsOf R n + (if R n 0 = 0 then 1 else 10)
theorem stepsOf_le (R : Nat → Nat → Int) (n : Nat) : stepsOf R n ≤ 1 + 10 * n := by
  induction n with
  | zero => exact Nat.le_refl _
  | succ n ih =>
    simp only [stepsOf]
    split <;> omega
def StepsPost (v : Int) (w : World) (e : Ending) (w' : World) : Prop := e = .returned (.int .i64 v) ∧ Mod (fun _ => False) w w'
def StepsRel (R : Nat → Nat → Int) (n : Nat) (w1 : World) (c i : Value) (wr : World) : Prop := ∃ k : Nat, k ≤ n ∧ i = .int .i64 k ∧ c = .int .i64 (stepsOf R k : Nat) ∧ Mod (fun _ => False) w1 wr
set_option maxHeartbeats 4000000 in
theorem snapSteps_any {w : World} {a1 : Option Addr} {n c1 : Nat} {R : Nat → Nat → Int} (h1 : Thrs w (.slice a1 n c1) n R) (hn : n ≤ 100) :
    Calls Try.prog 25 #[snapV a1 n c1] w (StepsPost (stepsOf R n : Nat) w) := by
  obtain ⟨x1, y1, e1, h1⟩ := h1
  cases e1
  have H1 := Lib.hid h1
  clear h1
  go_enter Try.func25, Try.ntmps25
  go_wp2_with fail
  have hb0 := (Mod.refl (fun _ => False) w).alloc (.cells #[.slice a1 n c1, .int .u64 0] 58)
  generalize w.alloc (.cells #[.slice a1 n c1, .int .u64 0] 58) = w1 at hb0 ⊢
  have HB0 := Lib.hid hb0
  clear hb0
  go_loopw [3, 9] (fun c i wr => StepsRel R n w1 c i wr) (fun _ i _ => n - (intOf i).toNat)
  case atStart => exact ⟨0, Nat.zero_le _, rfl, rfl, Mod.refl _ _⟩
  case round =>
    obtain ⟨k, hk, rfl, rfl, hm⟩ := hrel
    have HM := Lib.hid hm
    clear hm
    have hsl := stepsOf_le R k
    by_cases hkl : k < n
    · obtain ⟨b, off, rfl, hb, D⟩ := H1.out.resolve_left (by omega)
      have hall : Mod (fun _ => False) w _ := HB0.out.trans HM.out (fun _ _ h => h)
      have E1 : ∀ k, k < n → ∀ j, j < 10 → (_ : World).cell? ⟨b, off + k * 10 + j, none⟩ = some (.int .u64 (R k j)) := fun k hk j hj => (cell_mod hall hb (fun h => h)).trans (D k hk j hj)
      obtain ⟨a0, a1, a2, a3, a4, a5, a6, a7, a8, a9⟩ := Thrs.cells E1 hkl
      clear E1 D hall
      have hst : stepsOf R (k + 1) = stepsOf R k + (if R k 0 = 0 then 1 else 10) := rfl
      have HST := Lib.hid hst
      clear hst
      obtain ⟨m, hm⟩ : ∃ m, stepsOf R k = m := ⟨_, rfl⟩
      rw [hm] at hsl ⊢
      have HMM := Lib.hid hm
      clear hm
      by_cases h0 : R k 0 = 0
      · have t0 : (R k 0 != 0) = false := by simpa using h0
        have H0 := Lib.hid h0
        clear h0
        go_wp2_with fail
        go_roundw
        case rel => exact ⟨k + 1, by omega, by go_num, by rw [HST.out, HMM.out, if_pos H0.out]; go_num, HM.out.alloc _⟩
        case measure => simp [intOf]; omega
      · have t0 : (R k 0 != 0) = true := by simpa using h0
        have H0 := Lib.hid h0
        clear h0
        go_wp2_with fail
        go_roundw
        case rel => exact ⟨k + 1, by omega, by go_num, by rw [HST.out, HMM.out, if_neg H0.out]; go_num, HM.out.alloc _⟩
        case measure => simp [intOf]; omega
    · obtain rfl : k = n := by omega
      go_wp2_with fail
      go_ret
      exact ⟨rfl, HB0.out.trans HM.out (fun _ _ h => h)⟩
end Go.Proofs.Ytjnbkpklcmkdlaa
