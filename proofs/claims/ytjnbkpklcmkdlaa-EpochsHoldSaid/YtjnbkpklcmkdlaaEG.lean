/- Epochs: the fourth step of an Advance; the word of a kind. -/
import Derived.Test.YtjnbkpklcmkdlaaEF
namespace Go.Proofs.Ytjnbkpklcmkdlaa
open Go.RowKit

theorem MemOf.mod {S : Nat → Prop} {w w' : World} {M mb N : Nat} {f : Adr → Int} (hM : MemOf M mb N f w) (h : Mod S w w') (h1 : ¬ S M) (h2 : ¬ S mb) : MemOf M mb N f w' := by
  obtain ⟨s, L, hM⟩ := hM
  exact ⟨s, L, hM.mod h h1 h2⟩
/-- A CAS of the epoch's word. -/
def CasGPost (M mb N : Nat) (b : Bool) (f' : Adr → Int) (w : World) (e : Ending) (w' : World) : Prop :=
  e = .returned (.bool b) ∧ MemOf M mb (N + 1) f' w' ∧ Mod (fun x => x = M ∨ x = mb) w w'
theorem casG_any {M mb N : Nat} {f f' : Adr → Int} {w : World} (hM : MemOf M mb N f w) (hN : N < maxLen) {ov : Int} (h0 : 0 ≤ ov) (h1 : ov < 1152921504606846976) {b : Bool} (hb : decide (f gAdr = ov) = b) (hf : f' = if b then upd f gAdr (ov + 1) else f) :
    Calls Try.prog 54 #[.pointer (some ⟨M, 0, none⟩), adrVal gAdr, .int .u64 ov, .int .u64 (ov + 1)] w (CasGPost M mb N b f' w) := by
  obtain ⟨s, L, hM⟩ := hM
  have hv : (Lit.int .u64 (ov + 1)).wf = true := by
    have e1 : IntKind.u64.min = 0 := by decide
    have e2 : IntKind.u64.max = 18446744073709551615 := by decide
    show (decide (IntKind.u64.min ≤ ov + 1) && decide (ov + 1 ≤ IntKind.u64.max)) = true
    rw [e1, e2]
    simp
    omega
  have hm : mayB gAdr = true := by decide
  refine (cas_any hM hN gWf hv).mono ?_
  rintro e w' ⟨he, hM', hmod⟩
  rw [hb] at he hM'
  have he2 : e = .returned (.bool b) := by
    rw [he]
    cases b <;> simp [accOf, acts, hm]
  have hw : wordsOf f gAdr (ov + 1) b = f' := by
    rw [hf]
    cases b <;> simp [wordsOf, acts, hm]
  rw [hw] at hM'
  exact ⟨he2, ⟨_, _, hM'⟩, hmod⟩

set_option maxHeartbeats 2000000 in
set_option maxRecDepth 100000 in
theorem adv_step4 {M mb N E : Nat} {f f' : Adr → Int} {at' pos cnt : Int} {g b : Bool} {w : World} (hM : MemOf M mb N f w) (hN : N < maxLen) (hb : decide (f gAdr = at') = b) (hf : f' = if b then upd f gAdr (at' + 1) else f) (ha0 : 0 ≤ at') (ha1 : at' < 1152921504606846976) (hE : AdvAt E 4 at' pos cnt g w) (hEM : E ≠ M) (hEm : E ≠ mb) :
    Calls Try.prog 34 #[.pointer (some ⟨E, 0, none⟩), .pointer (some ⟨M, 0, none⟩)] w (AdvPost M mb N E true f' 0 at' pos cnt b w) := by
  have hc0 : w.cell? ⟨E, 0, none⟩ = some (.int .i64 4) := cell_of hE rfl
  have hc1 : w.cell? ⟨E, 1, none⟩ = some (.int .u64 at') := cell_of hE rfl
  have hc4 : w.cell? ⟨E, 4, none⟩ = some (.bool g) := cell_of hE rfl
  have hlt := lt_of_block hE
  have HM := Lib.hid hM
  have HE := Lib.hid hE
  have HF := Lib.hid hf
  have HB0 := Lib.hid hb
  clear hM hE hf hb
  go_enter Try.func34, Try.ntmps34
  go_wp2_with fail
  go_step3
  go_wp2_with fail
  refine (adv_over hc0).mono ?_
  rintro _ w ⟨rfl, rfl⟩
  have hsum : IntKind.u64.wrap (at' + 1) = at' + 1 := wrap_u64 (by omega) (by omega)
  go_wp2_with fail
  go_region_held3 (fun w' => w'.cell? ⟨E, 1, none⟩ = some (.int .u64 at')) (first | exact hc1 | exact d1 | exact e1 | exact cell_of (heap_setCell_same (i := 4) HE2.out _) rfl)
    (first
      | (go_at_call 51; refine (global_any _).mono ?_; rintro _ w1 ⟨rfl, hb⟩
         have HB : Hid (Mod (fun _ => False) w w1) := ((Mod.refl (fun _ => False) w).drew).trans (Mod.ofBelow hb (fun _ => False)) (fun _ _ h => h)
         have hE1 := HB.out.keep HE.out (fun h => h)
         have d1 : w1.cell? ⟨E, 1, none⟩ = some (.int .u64 at') := cell_of hE1 rfl
         clear hb hE1)
      | (go_at_call 54; refine (casG_any (HM.out.mod HB.out (fun h => h) (fun h => h)) hN ha0 ha1 HB0.out HF.out).mono ?_; rintro _ w2 ⟨rfl, hM2, hm2⟩
         have hE2 := hm2.keep (HB.out.keep HE.out (fun h => h)) (fun h => h.elim hEM hEm)
         have HE2 := Lib.hid hE2
         have HM2 := Lib.hid hM2
         have HM3 := Lib.hid hm2
         have e1 : w2.cell? ⟨E, 1, none⟩ = some (.int .u64 at') := cell_of hE2 rfl
         have e4 : w2.cell? ⟨E, 4, none⟩ = some (.bool g) := cell_of hE2 rfl
         have f4 := free_of hE2 (i := 4)
         clear hE2 hM2 hm2))
  have hs1 := (Mod.refl (fun b => b = E) w2).setCell (p := ⟨E, 4, none⟩) (fun _ => rfl) (.bool b)
  have hE1 := heap_setCell_same (i := 4) HE2.out (.bool b)
  have HS1 := Lib.hid hs1
  clear d1 e1 e4 f4 hc0 hc1 hc4 hs1
  generalize w2.setCell ⟨E, 4, none⟩ (.bool b) = wx at HS1 hE1 ⊢
  have hc0 : wx.cell? ⟨E, 0, none⟩ = some (.int .i64 4) := cell_of hE1 rfl
  have hf0 := free_of hE1 (i := 0)
  have HE1 := Lib.hid hE1
  clear hE1
  go_wp2_with fail
  have hs := HS1.out.setCell (p := ⟨E, 0, none⟩) (fun _ => rfl) (.int .i64 0)
  have hE3 := heap_setCell_same (i := 0) HE1.out (.int .i64 0)
  clear hc0 hf0
  generalize wx.setCell ⟨E, 0, none⟩ (.int .i64 0) = w3 at hs hE3 ⊢
  have hd0 : w3.cell? ⟨E, 0, none⟩ = some (.int .i64 0) := cell_of hE3 rfl
  refine (adv_over hd0).mono ?_
  rintro _ w3 ⟨rfl, rfl⟩
  clear hd0
  go_wp2_with fail
  go_ret
  obtain ⟨s', L', hM2⟩ := HM2.out
  exact ⟨rfl, ⟨_, _, hM2.mod hs (fun e => hEM e.symm) (fun e => hEm e.symm)⟩, hE3, (((HB.out.weaken (fun _ _ h => h.elim)).trans HM3.out (fun _ _ h => .inl h)).trans hs (fun _ _ h => .inr h))⟩

/-- The word of a kind. -/
def WordPost (M mb N : Nat) (f : Adr → Int) (k : Int) (w : World) (e : Ending) (w' : World) : Prop :=
  e = .returned (.int .u64 (f (k, 0, 0))) ∧ MemOf M mb (N + 1) f w' ∧ Mod (fun x => x = M ∨ x = mb) w w'
theorem word_any {M mb N : Nat} {f : Adr → Int} {w : World} (hM : MemOf M mb N f w) {k : Int} (hk : AdrWf (k, 0, 0)) :
    Calls Try.prog 10 #[.pointer (some ⟨M, 0, none⟩), .int .u8 k] w (WordPost M mb N f k w) := by
  obtain ⟨s, L, hM⟩ := hM
  have HM := Lib.hid hM
  clear hM
  go_enter Try.func10, Try.ntmps10
  go_wp2_with fail
  have hwn : adrVal (k, 0, 0) = .agg #[.int .u8 k, .int .i64 0, .int .i64 0] := rfl
  rw [← hwn]
  clear hwn
  refine (load_any HM.out hk).mono ?_
  rintro _ w2 ⟨rfl, hM2, hm2⟩
  go_wp2_with fail
  go_ret
  exact ⟨rfl, ⟨_, _, hM2⟩, hm2⟩
end Go.Proofs.Ytjnbkpklcmkdlaa
