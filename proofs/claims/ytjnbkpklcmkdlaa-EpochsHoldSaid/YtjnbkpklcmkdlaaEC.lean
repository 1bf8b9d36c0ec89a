/- Epochs: an Enter's second step. -/
import Derived.Test.YtjnbkpklcmkdlaaEB
namespace Go.Proofs.Ytjnbkpklcmkdlaa
open Go.RowKit

theorem u64Wf {n : Int} (h : 0 ≤ n) (h2 : n < 1152921504606846976) : (Lit.int .u64 (2 * n + 1)).wf = true := by
  have e1 : IntKind.u64.min = 0 := by decide
  have e2 : IntKind.u64.max = 18446744073709551615 := by decide
  show (decide (IntKind.u64.min ≤ 2 * n + 1) && decide (2 * n + 1 ≤ IntKind.u64.max)) = true
  rw [e1, e2]
  simp
  omega

def EntStep2Post (M mb N E : Nat) (f : Adr → Int) (at' i : Int) (w : World) (e : Ending) (w' : World) : Prop :=
  e = .returned (.bool true) ∧ MemOf M mb (N + 1) (upd f (oAdr i) (2 * at' + 1)) w' ∧ EntAt E 0 at' i w' ∧ Mod (foot M mb E) w w'
set_option maxHeartbeats 1000000 in
theorem enter_step2 {M mb N E : Nat} {f : Adr → Int} {at' i : Int} {w : World} (hM : MemOf M mb N f w) (hN : N < maxLen) (h0 : 0 ≤ i) (h1 : i < 16) (ha0 : 0 ≤ at') (ha1 : at' < 1152921504606846976) (hE : EntAt E 4 at' i w) (hEM : E ≠ M) (hEm : E ≠ mb) :
    Calls Try.prog 36 #[.pointer (some ⟨E, 0, none⟩), .pointer (some ⟨M, 0, none⟩)] w (EntStep2Post M mb N E f at' i w) := by
  obtain ⟨s, L, hM⟩ := hM
  have hc0 : w.cell? ⟨E, 0, none⟩ = some (.int .i64 4) := cell_of hE rfl
  have hc1 : w.cell? ⟨E, 1, none⟩ = some (.int .u64 at') := cell_of hE rfl
  have hc2 : w.cell? ⟨E, 2, none⟩ = some (.int .i64 i) := cell_of hE rfl
  have hlt := lt_of_block hE
  have HM := Lib.hid hM
  have HE := Lib.hid hE
  clear hM hE
  go_enter Try.func36, Try.ntmps36
  go_wp2_with fail
  refine (enter_over hc0).mono ?_
  rintro _ w ⟨rfl, rfl⟩
  go_wp2_with fail
  go_region_held3 (fun w' => w'.cell? ⟨E, 1, none⟩ = some (.int .u64 at') ∧ w'.cell? ⟨E, 2, none⟩ = some (.int .i64 i)) (first | exact ⟨hc1, hc2⟩ | exact ⟨d1, d2⟩ | exact ⟨e1, e2⟩)
    (first
      | (go_at_call 52; refine (own_any i _).mono ?_; rintro _ w1 ⟨rfl, hb⟩
         have HB : Hid (Mod (fun _ => False) w w1) := ((Mod.refl (fun _ => False) w).drew).trans (Mod.ofBelow hb (fun _ => False)) (fun _ _ h => h)
         have hE1 := HB.out.keep HE.out (fun h => h)
         have d1 : w1.cell? ⟨E, 1, none⟩ = some (.int .u64 at') := cell_of hE1 rfl
         have d2 : w1.cell? ⟨E, 2, none⟩ = some (.int .i64 i) := cell_of hE1 rfl
         clear hb hE1)
      | (go_at_call 53; refine (in_any ha0 ha1).mono ?_; rintro _ _ ⟨rfl, rfl⟩)
      | (go_at_call 8; refine (store_any (HM.out.mod HB.out (fun h => h) (fun h => h)) hN (oWf h0 h1) (u64Wf ha0 ha1)).mono ?_; rintro _ w2 ⟨rfl, hM2, hm2⟩
         have hE2 := hm2.keep (HB.out.keep HE.out (fun h => h)) (fun h => h.elim hEM hEm)
         have HE2 := Lib.hid hE2
         have HM2 := Lib.hid hM2
         have HM3 := Lib.hid hm2
         have e1 : w2.cell? ⟨E, 1, none⟩ = some (.int .u64 at') := cell_of hE2 rfl
         have e2 : w2.cell? ⟨E, 2, none⟩ = some (.int .i64 i) := cell_of hE2 rfl
         clear hE2 hM2 hm2))
  clear d1 d2 e1 e2 hc0 hc1 hc2
  have hd0 : w2.cell? ⟨E, 0, none⟩ = some (.int .i64 4) := cell_of HE2.out rfl
  have hf0 := free_of HE2.out (i := 0)
  go_wp2_with fail
  have hs := (Mod.refl (fun b => b = E) w2).setCell (p := ⟨E, 0, none⟩) (fun _ => rfl) (.int .i64 0)
  have hE3 := heap_setCell_same (i := 0) HE2.out (.int .i64 0)
  clear hd0 hf0
  generalize w2.setCell ⟨E, 0, none⟩ (.int .i64 0) = w3 at hs hE3 ⊢
  have hd0 : w3.cell? ⟨E, 0, none⟩ = some (.int .i64 0) := cell_of hE3 rfl
  refine (enter_over hd0).mono ?_
  rintro _ w3 ⟨rfl, rfl⟩
  clear hd0
  go_wp2_with fail
  go_ret
  have e1 : wordsOf f (oAdr i) (2 * at' + 1) true = upd f (oAdr i) (2 * at' + 1) := by simp [wordsOf, acts, oMay h0 h1]
  have hM2 := HM2.out
  rw [e1] at hM2
  exact ⟨rfl, ⟨_, _, hM2.mod hs (fun e => hEM e.symm) (fun e => hEm e.symm)⟩, hE3,
    (((HB.out.weaken (fun _ _ h => h.elim)).trans HM3.out (fun _ _ h => .inl h)).trans hs (fun _ _ h => .inr h))⟩
end Go.Proofs.Ytjnbkpklcmkdlaa
