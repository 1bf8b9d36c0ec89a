/- A taker of snapshots: made, whether it is over, a word put into a thread's row. -/
import Derived.Test.YtjnbkpklcmkdlaaLA
import Derived.Laws.EntriesVeiled
namespace Go.Proofs.Ytjnbkpklcmkdlaa
open Go.RowKit

/-- Rows of ten words each, one behind the other. -/
def flatR (n : Nat) (R : Nat → Nat → Int) : List Value := (List.range (n * 10)).map fun q => .int .u64 (R (q / 10) (q % 10))
theorem flatR_len (n : Nat) (R : Nat → Nat → Int) : (flatR n R).length = n * 10 := by simp [flatR]
theorem flatR_at {n : Nat} {R : Nat → Nat → Int} {i j : Nat} (hi : i < n) (hj : j < 10) : (flatR n R)[i * 10 + j]? = some (.int .u64 (R i j)) := by
  have h : i * 10 + j < n * 10 := by omega
  have e1 : (i * 10 + j) / 10 = i := by omega
  have e2 : (i * 10 + j) % 10 = j := by omega
  simp [flatR, h, e1, e2]
theorem flatR_one (n : Nat) (R : Nat → Nat → Int) : ∀ u ∈ flatR n R, u.oneCell' = true := by
  intro u hu
  simp only [flatR, List.mem_map] at hu
  obtain ⟨q, _, rfl⟩ := hu
  rfl
def updR (R : Nat → Nat → Int) (i j : Nat) (v : Int) : Nat → Nat → Int := fun a b => if a = i ∧ b = j then v else R a b
theorem flatR_upd {n : Nat} {R : Nat → Nat → Int} {i j : Nat} (hj : j < 10) (v : Int) : (⟨flatR n R⟩ : Array Value).setIfInBounds (i * 10 + j) (.int .u64 v) = ⟨flatR n (updR R i j v)⟩ := by
  apply Array.ext
  · simp [flatR]
  · intro q h1 h2
    simp only [Array.size_setIfInBounds, List.size_toArray, flatR_len] at h1
    simp only [List.getElem_toArray]
    by_cases e : i * 10 + j = q
    · have e1 : q / 10 = i := by omega
      have e2 : q % 10 = j := by omega
      simp [e, flatR, updR, e1, e2]
    · have e3 : ¬ (q / 10 = i ∧ q % 10 = j) := by omega
      simp [e, flatR, updR, e3]
theorem flatR_congr {n : Nat} {R R' : Nat → Nat → Int} (h : ∀ i, i < n → ∀ j, j < 10 → R i j = R' i j) : flatR n R = flatR n R' := by
  unfold flatR
  apply List.map_congr_left
  intro q hq
  rw [List.mem_range] at hq
  rw [h _ (by omega) _ (by omega)]

def TRow (RB n : Nat) (R : Nat → Nat → Int) (w : World) : Prop := w.heap[RB]? = some (.cells ⟨flatR n R⟩ 52)
theorem TRow.cell {RB n : Nat} {R : Nat → Nat → Int} {w : World} (h : TRow RB n R w) {i j : Nat} (hi : i < n) (hj : j < 10) : w.cell? ⟨RB, i * 10 + j, none⟩ = some (.int .u64 (R i j)) :=
  cell_of h (by simpa using flatR_at hi hj)

/-- A taker's cells. -/
def takCells (nx sl : Value) (i j n : Int) : Array Value := #[nx, sl, .int .u64 0, .int .i64 i, .int .i64 j, .int .i64 n]
def TakB (K : Nat) (nx sl : Value) (i j n : Int) (w : World) : Prop := w.heap[K]? = some (.cells (takCells nx sl i j n) 99)
abbrev nxBlocks (K : Nat) : Value := .func (.func 39) #[.pointer (some ⟨K, 0, none⟩)] #[]
abbrev nxWord (K : Nat) : Value := .func (.func 57) #[.pointer (some ⟨K, 0, none⟩)] #[]
def NewTakPost (w : World) (e : Ending) (w' : World) : Prop :=
  ∃ K, e = .returned (.pointer (some ⟨K, 0, none⟩)) ∧ TakB K (nxBlocks K) (.slice none 0 0) 0 0 0 w' ∧ w.heap.size ≤ K ∧ Below w.heap.size w w'
theorem newTak_any (w : World) : Calls Try.prog 14 #[] w (NewTakPost w) := by
  go_enter Try.func14, Try.ntmps14
  go_wp2_with fail
  go_ret
  exact ⟨_, rfl, heap_alloc_at _ _, Nat.le_refl _, (Below.refl _ _).alloc (Nat.le_refl _) _⟩

/-- Is a function value nil? -/
def Value.nilF : Value → Bool
  | .nilFunc => true
  | _ => false
theorem eqF (w : World) (fn : Fn) (fi ca : Array Value) : (binOp .eql 97 (.func fn fi ca) .nilFunc).run Try.prog w = .ok (.bool false) w := by
  kernel_rfl
theorem eqN (w : World) : (binOp .eql 97 .nilFunc .nilFunc).run Try.prog w = .ok (.bool true) w := by
  kernel_rfl
theorem takOver_no {K : Nat} {w : World} {fn : Fn} {fi ca : Array Value} (h : w.cell? ⟨K, 0, none⟩ = some (.func fn fi ca)) : Calls Try.prog 15 #[.pointer (some ⟨K, 0, none⟩)] w fun e w' => e = .returned (.bool false) ∧ w' = w := by
  have q1 := eqF
  have q2 := eqN
  go_enter Try.func15, Try.ntmps15
  go_wp2_with fail
  go_ret
  exact ⟨rfl, rfl⟩
theorem takOver_yes {K : Nat} {w : World} (h : w.cell? ⟨K, 0, none⟩ = some .nilFunc) : Calls Try.prog 15 #[.pointer (some ⟨K, 0, none⟩)] w fun e w' => e = .returned (.bool true) ∧ w' = w := by
  have q1 := eqF
  have q2 := eqN
  go_enter Try.func15, Try.ntmps15
  go_wp2_with fail
  go_ret
  exact ⟨rfl, rfl⟩

def PutPost (RB o : Nat) (v : Int) (w : World) (e : Ending) (w' : World) : Prop := e = .returned (.tuple #[]) ∧ w' = w.setCell ⟨RB, o, none⟩ (.int .u64 v)
set_option maxHeartbeats 2000000 in
theorem put_any {RB o j : Nat} (hj : j < 10) {u v : Int} {w : World} (hc : w.cell? ⟨RB, o + j, none⟩ = some (.int .u64 u)) (hf : w.frozen? ⟨RB, o + j, none⟩ = false) :
    Calls Try.prog 63 #[.pointer (some ⟨RB, o, none⟩), .int .i64 j, .int .u64 v] w (PutPost RB (o + j) v w) := by
  obtain rfl | rfl | rfl | rfl | rfl | rfl | rfl | rfl | rfl | rfl : j = 0 ∨ j = 1 ∨ j = 2 ∨ j = 3 ∨ j = 4 ∨ j = 5 ∨ j = 6 ∨ j = 7 ∨ j = 8 ∨ j = 9 := by omega
  all_goals
    clear hj
    try simp only [Nat.add_zero] at hc hf ⊢
    go_enter Try.func63, Try.ntmps63
    go_wp2_with fail
    go_end0
    exact ⟨rfl, rfl⟩
end Go.Proofs.Ytjnbkpklcmkdlaa
