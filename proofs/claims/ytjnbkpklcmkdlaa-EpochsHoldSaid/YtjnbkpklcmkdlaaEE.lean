/- Epochs: the third step of an Advance. -/
import Derived.Test.YtjnbkpklcmkdlaaED
import Derived.ScopeJumps
namespace Go.Proofs.Ytjnbkpklcmkdlaa
open Go.RowKit


set_option maxHeartbeats 2000000 in
set_option maxRecDepth 100000 in
theorem adv_step3_fail {M mb N E : Nat} {f : Adr → Int} {at' pos cnt : Int} {g : Bool} {w : World} (hM : MemOf M mb N f w) {v : Int} (hvv : f (oAdr pos) = v) (h0 : 0 ≤ pos) (h1 : pos < 8) (hv0 : 0 ≤ v) (hv1 : v < 18446744073709551616) (ho : v % 2 = 1) (hne : v ≠ 2 * at' + 1) (ha0 : 0 ≤ at') (ha1 : at' < 1152921504606846976) (hE : AdvAt E 3 at' pos cnt g w) (hEM : E ≠ M) (hEm : E ≠ mb) :
    Calls Try.prog 34 #[.pointer (some ⟨E, 0, none⟩), .pointer (some ⟨M, 0, none⟩)] w (AdvPost M mb N E true f 0 at' (pos + 1) cnt g w) := by
  obtain ⟨s, L, hM⟩ := hM
  have hc0 : w.cell? ⟨E, 0, none⟩ = some (.int .i64 3) := cell_of hE rfl
  have hc1 : w.cell? ⟨E, 1, none⟩ = some (.int .u64 at') := cell_of hE rfl
  have hc2 : w.cell? ⟨E, 2, none⟩ = some (.int .i64 pos) := cell_of hE rfl
  have hc3 : w.cell? ⟨E, 3, none⟩ = some (.int .i64 cnt) := cell_of hE rfl
  have hc4 : w.cell? ⟨E, 4, none⟩ = some (.bool g) := cell_of hE rfl
  have hlt := lt_of_block hE
  have HM := Lib.hid hM
  have HE := Lib.hid hE
  clear hM hE
  go_enter Try.func34, Try.ntmps34
  go_wp2_with fail
  go_step3
  go_wp2_with fail
  refine (adv_over hc0).mono ?_
  rintro _ w ⟨rfl, rfl⟩
  go_wp2_with fail
  refine (own_any pos w).mono ?_
  rintro _ w1 ⟨rfl, hb⟩
  have HM4 := Lib.hid (Mod.ofBelow hb (fun _ => False))
  clear hb
  go_wp2_with fail
  refine (load_any (HM.out.mod HM4.out (fun h => h) (fun h => h)) (oWf h0 (by omega))).mono ?_
  rintro _ w2 ⟨rfl, hM2, hm2⟩
  rw [hvv]
  have HV := Lib.hid hvv
  clear hvv
  have hsum : wrap64 (pos + 1) = pos + 1 := by simp [wrap64]; omega
  have hbit : bits .and .u64 v 1 = 1 := by rw [bits_and hv0 hv1, ho]
  have hE2 := hm2.keep (HM4.out.keep HE.out (fun h => h)) (fun h => h.elim hEM hEm)
  have HM2 := Lib.hid hM2
  have HM3 := Lib.hid hm2
  clear hc0 hc1 hc2 hc3 hc4 hM2 hm2
  have hc0 : w2.cell? ⟨E, 0, none⟩ = some (.int .i64 3) := cell_of hE2 rfl
  have hc1 : w2.cell? ⟨E, 1, none⟩ = some (.int .u64 at') := cell_of hE2 rfl
  have hc2 : w2.cell? ⟨E, 2, none⟩ = some (.int .i64 pos) := cell_of hE2 rfl
  have hc3 : w2.cell? ⟨E, 3, none⟩ = some (.int .i64 cnt) := cell_of hE2 rfl
  have hc4 : w2.cell? ⟨E, 4, none⟩ = some (.bool g) := cell_of hE2 rfl
  have hf0 := free_of hE2 (i := 0)
  have hf1 := free_of hE2 (i := 1)
  have hf2 := free_of hE2 (i := 2)
  have hf3 := free_of hE2 (i := 3)
  have HE2 := Lib.hid hE2
  clear hE2
  go_wp2_with fail
  have hs1 := (Mod.refl (fun b => b = E) w2).setCell (p := ⟨E, 2, none⟩) (fun _ => rfl) (.int .i64 (pos + 1))
  have hE1 := heap_setCell_same (i := 2) HE2.out (.int .i64 (pos + 1))
  have HS1 := Lib.hid hs1
  clear hc0 hc1 hc2 hc3 hc4 hf0 hf1 hf2 hf3
  generalize w2.setCell ⟨E, 2, none⟩ (.int .i64 (pos + 1)) = wx at HS1 hE1 ⊢
  clear hs1
  refine (in_any ha0 ha1).mono ?_
  rintro _ wx ⟨rfl, rfl⟩
  have hc0 : wx.cell? ⟨E, 0, none⟩ = some (.int .i64 3) := cell_of hE1 rfl
  have hf0 := free_of hE1 (i := 0)
  have HE1 := Lib.hid hE1
  have hq : (v == 2 * at' + 1) = false := by simpa using hne
  clear hE1
  go_wp2_with fail
  have hs := HS1.out.setCell (p := ⟨E, 0, none⟩) (fun _ => rfl) (.int .i64 0)
  have hE3 := heap_setCell_same (i := 0) HE1.out (.int .i64 0)
  clear hc0 hf0
  generalize wx.setCell ⟨E, 0, none⟩ (.int .i64 0) = w3 at hs hE3 ⊢
  have hd0 : w3.cell? ⟨E, 0, none⟩ = some (.int .i64 0) := cell_of hE3 rfl
  refine (adv_over hd0).mono ?_
  rintro _ w3 ⟨rfl, rfl⟩
  clear hd0
  go_wp2_with fail
  go_ret
  have hM2 := HM2.out
  exact ⟨rfl, ⟨_, _, hM2.mod hs (fun e => hEM e.symm) (fun e => hEm e.symm)⟩, hE3, (((HM4.out.weaken (fun _ _ h => h.elim)).trans HM3.out (fun _ _ h => .inl h)).trans hs (fun _ _ h => .inr h))⟩
end Go.Proofs.Ytjnbkpklcmkdlaa
