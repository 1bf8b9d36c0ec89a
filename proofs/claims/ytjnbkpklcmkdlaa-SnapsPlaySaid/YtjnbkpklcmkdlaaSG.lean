/- Snapshots: what a taker reads while one word changes: the plain law. -/
import Derived.Test.YtjnbkpklcmkdlaaSF
namespace Go.Proofs.Ytjnbkpklcmkdlaa

section
variable (len who field wen : Nat) (v : Int) (R : Nat → Nat → Int) (f0 : Adr → Int)
/-- What is read of row i, word j. -/
def mVal (i j : Nat) : Int := if i = who ∧ j = field ∧ wen ≤ 1 + 10 * who + field then v else R i j
def mRd (q : Nat) : Nat → Nat → Int := fun i j => if 10 * i + j < q ∧ j < 10 then mVal who field wen v R i j else 0
def mF (k : Nat) : Adr → Int := if wen ≤ k then upd f0 (tAdr who field) v else f0
def mRun : Nat → TSt
  | 0 => .start
  | k + 1 => tNext (mF who field wen v f0 k) (mRun k)
def nAll : Nat := 4 * ((len + 3) / 4)
/-- The taker's state after q + 1 steps. -/
def mSt (q : Nat) : TSt :=
  if q < 10 * len then .on (nAll len) (q / 10) (q % 10) (mRd who field wen v R q)
  else if q - 10 * len < nAll len - len then .on (nAll len) (len + (q - 10 * len)) 0 (mRd who field wen v R (10 * len))
  else .fin (nAll len) (mRd who field wen v R (10 * len))
def mTot : Nat := 10 * len + (nAll len - len)
end

section
variable {len who field wen : Nat} {v : Int} {R : Nat → Nat → Int} {f0 : Adr → Int}
theorem mRd_step {q : Nat} : updR (mRd who field wen v R q) (q / 10) (q % 10) (mVal who field wen v R (q / 10) (q % 10)) = mRd who field wen v R (q + 1) := by
  funext i j
  unfold updR mRd
  by_cases h : i = q / 10 ∧ j = q % 10
  · rw [if_pos h, if_pos (by omega), h.1, h.2]
  · rw [if_neg h]
    by_cases h2 : 10 * i + j < q ∧ j < 10
    · rw [if_pos h2, if_pos (by omega)]
    · rw [if_neg h2, if_neg (by omega)]
theorem mRd_zero {q i : Nat} (h : q ≤ 10 * i) : updR (mRd who field wen v R q) i 0 0 = mRd who field wen v R q := by
  funext a b
  unfold updR mRd
  by_cases h2 : a = i ∧ b = 0
  · rw [if_pos h2, if_neg (by omega)]
  · rw [if_neg h2]
theorem mRd_nil : mRd who field wen v R 0 = fun _ _ => 0 := by
  funext a b
  unfold mRd
  rw [if_neg (by omega)]
theorem all4_nAll (h0 : 0 < len) (h1 : len ≤ 16) : all4 ((((len + 3) / 4 : Nat) : Int)) = nAll len := by
  unfold all4 nAll
  split <;> omega
variable (h0 : 0 < len) (h1 : len ≤ 16) (hw : who < len) (hf1 : 1 ≤ field)
  (hfb : f0 bAdr = (((len + 3) / 4 : Nat) : Int)) (hft : ∀ i j, j < 10 → f0 (tAdr i j) = if i < len then R i j else 0) (hR : ∀ i, i < len → R i 0 ≠ 0)
include h0 h1 hfb in
theorem mRun_one : mRun who field wen v f0 1 = mSt len who field wen v R 0 := by
  have hb : mF who field wen v f0 0 bAdr = (((len + 3) / 4 : Nat) : Int) := by
    unfold mF
    split
    · rw [← hfb]; simp [upd, Ne.symm (t_ne_b _ _)]
    · exact hfb
  show tNext (mF who field wen v f0 0) .start = _
  rw [tNext_start, hb, all4_nAll h0 h1, if_neg (by unfold nAll; omega)]
  unfold mSt
  rw [if_pos (by omega), mRd_nil]
include hft in
theorem mF_at {k i j : Nat} (hj : j < 10) (hi : i < len) (hk : k = 1 + (10 * i + j)) : mF who field wen v f0 k (tAdr i j) = mVal who field wen v R i j := by
  unfold mF mVal
  by_cases h : tAdr i j = tAdr who field
  · obtain ⟨e1, e2⟩ := t_inj h
    by_cases h2 : wen ≤ k
    · rw [if_pos h2, if_pos ⟨e1, e2, by omega⟩]
      simp [upd, h]
    · rw [if_neg h2, if_neg (by omega), hft _ _ hj, if_pos hi]
  · have hn : ¬ (i = who ∧ j = field ∧ wen ≤ 1 + 10 * who + field) := fun ⟨e1, e2, _⟩ => h (by rw [e1, e2])
    rw [if_neg hn]
    split
    · simp only [upd, if_neg h]
      rw [hft _ _ hj, if_pos hi]
    · rw [hft _ _ hj, if_pos hi]
include hw hft in
theorem mF_out {k i : Nat} (hi : len ≤ i) : mF who field wen v f0 k (tAdr i 0) = 0 := by
  have h : tAdr i 0 ≠ tAdr who field := fun h => by have := t_inj h; omega
  unfold mF
  split
  · simp only [upd, if_neg h]
    rw [hft _ _ (by decide), if_neg (by omega)]
  · rw [hft _ _ (by decide), if_neg (by omega)]
include hw hf1 hft hR in
theorem mSt_step {q : Nat} (hq : q < mTot len) : tNext (mF who field wen v f0 (q + 1)) (mSt len who field wen v R q) = mSt len who field wen v R (q + 1) := by
  have hn1 : len ≤ nAll len := by unfold nAll; omega
  unfold mTot at hq
  unfold mSt
  by_cases ha : q < 10 * len
  · rw [if_pos ha]
    have e10 : 10 * (q / 10) + q % 10 = q := by omega
    have hv := mF_at (k := q + 1) (i := q / 10) (j := q % 10) (who := who) (field := field) (wen := wen) (v := v) hft (by omega) (by omega) (by omega)
    rw [tNext_on hv, mRd_step]
    have hown : mRd who field wen v R (q + 1) (q / 10) 0 ≠ 0 := by
      unfold mRd mVal
      rw [if_pos (by omega), if_neg (by omega)]
      exact hR _ (by omega)
    by_cases h9 : q % 10 + 1 = 10
    · rw [if_pos (.inr h9)]
      by_cases hl : q / 10 + 1 = nAll len
      · have e2 : q + 1 = 10 * len := by omega
        rw [if_pos hl, if_neg (by omega), if_neg (by omega), e2]
      · rw [if_neg hl]
        by_cases hb : q + 1 < 10 * len
        · have e3 : (q + 1) / 10 = q / 10 + 1 := by omega
          have e4 : (q + 1) % 10 = 0 := by omega
          rw [if_pos hb, e3, e4]
        · have e2 : q + 1 = 10 * len := by omega
          have e5 : q / 10 + 1 = len := by omega
          rw [if_neg hb, if_pos (by omega), e2, e5, Nat.sub_self, Nat.add_zero]
    · rw [if_neg (fun h => h.elim hown h9)]
      have e3 : (q + 1) / 10 = q / 10 := by omega
      have e4 : (q + 1) % 10 = q % 10 + 1 := by omega
      rw [if_pos (by omega), e3, e4]
  · rw [if_neg ha, if_pos (by omega)]
    have hv := mF_out (k := q + 1) (i := len + (q - 10 * len)) (wen := wen) (field := field) (v := v) hw hft (by omega)
    rw [tNext_on hv, mRd_zero (by omega)]
    have hz : mRd who field wen v R (10 * len) (len + (q - 10 * len)) 0 = 0 := by
      unfold mRd
      rw [if_neg (by omega)]
    rw [if_pos (.inl hz), if_neg (show ¬ q + 1 < 10 * len by omega)]
    by_cases hl : len + (q - 10 * len) + 1 = nAll len
    · rw [if_pos hl, if_neg (by omega)]
    · have e6 : len + (q - 10 * len) + 1 = len + (q + 1 - 10 * len) := by omega
      rw [if_neg hl, if_pos (by omega), e6]
include h0 h1 hw hf1 hfb hft hR in
theorem mRun_eq (q : Nat) (hq : q ≤ mTot len) : mRun who field wen v f0 (q + 1) = mSt len who field wen v R q := by
  induction q with
  | zero => exact mRun_one h0 h1 hfb
  | succ q ih =>
    show tNext (mF who field wen v f0 (q + 1)) (mRun who field wen v f0 (q + 1)) = _
    rw [ih (by omega)]
    exact mSt_step hw hf1 hft hR (by omega)
theorem mSt_no {q : Nat} (hq : q < mTot len) : (mSt len who field wen v R q).over = false := by
  unfold mTot at hq
  unfold mSt
  split
  · rfl
  · rw [if_pos (by omega)]
    rfl
theorem mSt_end : mSt len who field wen v R (mTot len) = .fin (nAll len) (mRd who field wen v R (10 * len)) := by
  unfold mSt mTot
  rw [if_neg (by omega), if_neg (by omega)]
end
end Go.Proofs.Ytjnbkpklcmkdlaa
