/- A memory of shared words: there, and the accesses' callbacks. -/
import Derived.Test.YtjnbkpklcmkdlaaMC
namespace Go.Proofs.Ytjnbkpklcmkdlaa
open Go.RowKit

theorem neqnil (w : World) (r : Nat) : (binOp .neq 82 (.map (some r)) (.map none)).run Try.prog w = .ok (.bool true) w := by
  simp only [binOp]
  simp [Op.equal, Op.maxDepth, run_equalIn_map_nil w 9999 82 _ _ (some r) Try.underlying82]

theorem there_any {M mb N : Nat} {f : Adr → Int} {s : Int} {L : Acc} {w : World} (h : MemAt M mb N f s L w) :
    Calls Try.prog 48 #[.pointer (some ⟨M, 0, none⟩)] w fun e w' => e = .returned (.bool true) ∧ w' = w := by
  have hc0 := cell_of h.1 (i := 0) rfl
  have hlt := lt_of_block h.1
  simp only [memCells] at hc0
  clear h
  have hne : ∀ w, (binOp .neq 82 (.map (some mb)) (.map none)).run Try.prog w = .ok (.bool true) w := fun w => neqnil w mb
  go_enter Try.func48, Try.ntmps48
  go_wp2
  go_ret
  exact ⟨rfl, rfl⟩

theorem load1_any (v : Int) (w : World) : Calls Try.prog 45 #[.int .u64 v] w fun e w' => e = .returned (.tuple #[.int .u64 0, .bool false]) ∧ w' = w := by
  go_enter Try.func45, Try.ntmps45
  go_wp2
  go_ret2
  exact ⟨rfl, rfl⟩

theorem store1_any (v nv : Int) (B : Nat) (w : World) (hB : w.cell? ⟨B, 0, none⟩ = some (.int .u64 nv)) : Calls Try.prog 30 #[.int .u64 v, .pointer (some ⟨B, 0, none⟩)] w fun e w' => e = .returned (.tuple #[.int .u64 nv, .bool true]) ∧ w' = w := by
  go_enter Try.func30, Try.ntmps30
  go_wp2
  go_ret2
  exact ⟨rfl, rfl⟩

theorem cas1_any (v ov nv : Int) (B C : Nat) (w : World) (hB : w.cell? ⟨B, 0, none⟩ = some (.int .u64 nv)) (hC : w.cell? ⟨C, 0, none⟩ = some (.int .u64 ov)) :
    Calls Try.prog 62 #[.int .u64 v, .pointer (some ⟨B, 0, none⟩), .pointer (some ⟨C, 0, none⟩)] w fun e w' => e = .returned (.tuple #[.int .u64 nv, .bool (decide (v = ov))]) ∧ ∃ n, w' = w.drewN n := by
  go_enter Try.func62, Try.ntmps62
  go_wp2_with fail
  go_quiet (fail)
  go_wp2_with fail
  go_ret2
  exact ⟨rfl, _, rfl⟩
end Go.Proofs.Ytjnbkpklcmkdlaa
