/- Epochs: a thread begins, and takes the first step. -/
import Derived.Test.YtjnbkpklcmkdlaaEI
namespace Go.Proofs.Ytjnbkpklcmkdlaa
open Go.RowKit

def begin_adv_post (ty M mb N T o : Nat) (c0 : Array Value) (f : Adr → Int) (a : Int) (n : Bool) (w : World) (e : Ending) (w' : World) : Prop :=
  e = .returned (.tuple #[]) ∧ ∃ E, w.heap.size ≤ E ∧ MemOf M mb (N + 2) (f) w' ∧ TAt ty T o c0 (.bool n) (.int .u64 a) pN pN (pE E) w' ∧ AdvAt E 2 (f gAdr) 0 0 false w' ∧ Mod (fun b => b = M ∨ b = mb ∨ b = T) w w'
set_option maxHeartbeats 2000000 in
set_option maxRecDepth 100000 in
theorem begin_adv {ty M mb N T o : Nat} {c0 : Array Value} {f : Adr → Int} {i a : Int} {n : Bool} {w : World} (hM : MemOf M mb N f w) (hTM : T ≠ M) (hTm : T ≠ mb) (hT : TAt ty T o c0 (.bool n) (.int .u64 a) pN pN pN w)  :
    Calls Try.prog 9 #[.pointer (some ⟨T, o, none⟩), .pointer (some ⟨M, 0, none⟩), .int .i64 i, .bool true] w (begin_adv_post ty M mb N T o c0 f a n w) := by
  obtain ⟨hl1, hl2⟩ := hM.lt
  have hl3 := hT.lt
  obtain ⟨hc0, hc1, hc2, hc3, hc4⟩ := TAt.cells hT
  have HT := Lib.hid hT
  have HM := Lib.hid hM
  clear hT hM
  go_enter Try.func9, Try.ntmps9
  go_wp2_with fail
  refine (newAdv_any w).mono ?_
  rintro _ w1 ⟨E, rfl, hE, hEs, hb⟩
  have hEM : E ≠ M := by omega
  have hEm : E ≠ mb := by omega
  have hET : E ≠ T := by omega
  have HEs := Lib.hid hEs
  have HB := Lib.hid (Mod.ofBelow hb (fun _ => False))
  have HT1 := Lib.hid (HT.out.mod HB.out (fun h => h))
  have HE1 := Lib.hid hE
  clear hE hb hEs hc0 hc1 hc2 hc3 hc4
  obtain ⟨hc0, hc1, hc2, hc3, hc4⟩ := TAt.cells HT1.out
  have hf0 : w1.frozen? ⟨T, o, none⟩ = false := TAt.free HT1.out _
  have hf1 : w1.frozen? ⟨T, o + 1, none⟩ = false := TAt.free HT1.out _
  have hf2 : w1.frozen? ⟨T, o + 2, none⟩ = false := TAt.free HT1.out _
  have hf3 : w1.frozen? ⟨T, o + 3, none⟩ = false := TAt.free HT1.out _
  have hf4 : w1.frozen? ⟨T, o + 4, none⟩ = false := TAt.free HT1.out _
  go_wp2_with fail
  have hs := (Mod.refl (fun b => b = T) w1).setCell (p := ⟨T, o + 4, none⟩) (fun _ => rfl) (pE E)
  have hT2 := (HT1.out.set4 (x := (pE E)))
  have HS2 := Lib.hid hs
  have HT2 := Lib.hid hT2
  have HE2 := Lib.hid (hs.keep HE1.out (fun e => hET e))
  have HM2 := Lib.hid ((HM.out.mod HB.out (fun h => h) (fun h => h)).mod hs (fun e => hTM e.symm) (fun e => hTm e.symm))
  clear hs hT2 hc0 hc1 hc2 hc3 hc4 hf0 hf1 hf2 hf3 hf4
  generalize (w1.setCell ⟨T, o + 4, none⟩ (pE E)) = w2 at HS2 HT2 HE2 HM2 ⊢
  obtain ⟨hc0, hc1, hc2, hc3, hc4⟩ := TAt.cells HT2.out
  go_wp2_with fail
  refine (adv_step1 HM2.out HE2.out hEM hEm).mono ?_
  rintro _ w3 ⟨rfl, hM3, hE3, hm3⟩
  have HM3 := Lib.hid hM3
  have HE3 := Lib.hid hE3
  have HO3 := Lib.hid hm3
  have HT3 := Lib.hid (HT2.out.mod hm3 (fun h => h.elim (fun h => h.elim hTM hTm) (fun h => hET h.symm)))
  clear hM3 hE3 hm3 hc0 hc1 hc2 hc3 hc4
  obtain ⟨hc0, hc1, hc2, hc3, hc4⟩ := TAt.cells HT3.out
  have hf0 : w3.frozen? ⟨T, o, none⟩ = false := TAt.free HT3.out _
  have hf1 : w3.frozen? ⟨T, o + 1, none⟩ = false := TAt.free HT3.out _
  have hf2 : w3.frozen? ⟨T, o + 2, none⟩ = false := TAt.free HT3.out _
  have hf3 : w3.frozen? ⟨T, o + 3, none⟩ = false := TAt.free HT3.out _
  have hf4 : w3.frozen? ⟨T, o + 4, none⟩ = false := TAt.free HT3.out _
  go_wp2_with fail
  go_end0
  exact ⟨rfl, E, HEs.out, HM3.out.grow, HT3.out, HE3.out, ((HB.out.weaken (fun _ _ h => h.elim)).trans HS2.out (fun x _ h => .inr (.inr h))).trans HO3.out (fun x hx h => h.elim (fun h => h.elim .inl (fun h => .inr (.inl h))) (fun e => absurd HEs.out (by omega)))⟩
def begin_ext_post (ty M mb N T o : Nat) (c0 : Array Value) (f : Adr → Int) (i a : Int) (w : World) (e : Ending) (w' : World) : Prop :=
  e = .returned (.tuple #[]) ∧ ∃ E, w.heap.size ≤ E ∧ MemOf M mb (N + 2) (upd f (oAdr i) 0) w' ∧ TAt ty T o c0 (.bool false) (.int .u64 a) pN pN pN w' ∧ True ∧ Mod (fun b => b = M ∨ b = mb ∨ b = T) w w'
set_option maxHeartbeats 2000000 in
set_option maxRecDepth 100000 in
theorem begin_ext {ty M mb N T o : Nat} {c0 : Array Value} {f : Adr → Int} {i a : Int} {w : World} (hM : MemOf M mb N f w) (hTM : T ≠ M) (hTm : T ≠ mb) (hT : TAt ty T o c0 (.bool true) (.int .u64 a) pN pN pN w) (h0 : 0 ≤ i) (h1 : i < 16) (hN : N < maxLen) :
    Calls Try.prog 9 #[.pointer (some ⟨T, o, none⟩), .pointer (some ⟨M, 0, none⟩), .int .i64 i, .bool false] w (begin_ext_post ty M mb N T o c0 f i a w) := by
  obtain ⟨hl1, hl2⟩ := hM.lt
  have hl3 := hT.lt
  obtain ⟨hc0, hc1, hc2, hc3, hc4⟩ := TAt.cells hT
  have HT := Lib.hid hT
  have HM := Lib.hid hM
  clear hT hM
  go_enter Try.func9, Try.ntmps9
  go_wp2_with fail
  refine (newExit_any h0 h1 w).mono ?_
  rintro _ w1 ⟨E, rfl, hE, hEs, hb⟩
  have hEM : E ≠ M := by omega
  have hEm : E ≠ mb := by omega
  have hET : E ≠ T := by omega
  have HEs := Lib.hid hEs
  have HB := Lib.hid (Mod.ofBelow hb (fun _ => False))
  have HT1 := Lib.hid (HT.out.mod HB.out (fun h => h))
  have HE1 := Lib.hid hE
  clear hE hb hEs hc0 hc1 hc2 hc3 hc4
  obtain ⟨hc0, hc1, hc2, hc3, hc4⟩ := TAt.cells HT1.out
  have hf0 : w1.frozen? ⟨T, o, none⟩ = false := TAt.free HT1.out _
  have hf1 : w1.frozen? ⟨T, o + 1, none⟩ = false := TAt.free HT1.out _
  have hf2 : w1.frozen? ⟨T, o + 2, none⟩ = false := TAt.free HT1.out _
  have hf3 : w1.frozen? ⟨T, o + 3, none⟩ = false := TAt.free HT1.out _
  have hf4 : w1.frozen? ⟨T, o + 4, none⟩ = false := TAt.free HT1.out _
  go_wp2_with fail
  have hs := ((Mod.refl (fun b => b = T) w1).setCell (p := ⟨T, o + 3, none⟩) (fun _ => rfl) (pE E)).setCell (p := ⟨T, o, none⟩) (fun _ => rfl) (.bool false)
  have hT2 := ((HT1.out.set3 (x := (pE E))).set0 (x := (.bool false)))
  have HS2 := Lib.hid hs
  have HT2 := Lib.hid hT2
  have HE2 := Lib.hid (hs.keep HE1.out (fun e => hET e))
  have HM2 := Lib.hid ((HM.out.mod HB.out (fun h => h) (fun h => h)).mod hs (fun e => hTM e.symm) (fun e => hTm e.symm))
  clear hs hT2 hc0 hc1 hc2 hc3 hc4 hf0 hf1 hf2 hf3 hf4
  generalize ((w1.setCell ⟨T, o + 3, none⟩ (pE E)).setCell ⟨T, o, none⟩ (.bool false)) = w2 at HS2 HT2 HE2 HM2 ⊢
  obtain ⟨hc0, hc1, hc2, hc3, hc4⟩ := TAt.cells HT2.out
  go_wp2_with fail
  refine (exit_step HM2.out hN h0 h1 HE2.out hEM hEm).mono ?_
  rintro _ w3 ⟨rfl, hM3, hE3, hm3⟩
  have HM3 := Lib.hid hM3
  have HE3 := Lib.hid hE3
  have HO3 := Lib.hid hm3
  have HT3 := Lib.hid (HT2.out.mod hm3 (fun h => h.elim (fun h => h.elim hTM hTm) (fun h => hET h.symm)))
  clear hM3 hE3 hm3 hc0 hc1 hc2 hc3 hc4
  obtain ⟨hc0, hc1, hc2, hc3, hc4⟩ := TAt.cells HT3.out
  have hf0 : w3.frozen? ⟨T, o, none⟩ = false := TAt.free HT3.out _
  have hf1 : w3.frozen? ⟨T, o + 1, none⟩ = false := TAt.free HT3.out _
  have hf2 : w3.frozen? ⟨T, o + 2, none⟩ = false := TAt.free HT3.out _
  have hf3 : w3.frozen? ⟨T, o + 3, none⟩ = false := TAt.free HT3.out _
  have hf4 : w3.frozen? ⟨T, o + 4, none⟩ = false := TAt.free HT3.out _
  go_wp2_with fail
  have hs3 := (Mod.refl (fun b => b = T) w3).setCell (p := ⟨T, o + 3, none⟩) (fun _ => rfl) pN
  go_end0
  exact ⟨rfl, E, HEs.out, (HM3.out.mod hs3 (fun e => hTM e.symm) (fun e => hTm e.symm)).grow, HT3.out.set3, trivial, (((HB.out.weaken (fun _ _ h => h.elim)).trans HS2.out (fun x _ h => .inr (.inr h))).trans HO3.out (fun x hx h => h.elim (fun h => h.elim .inl (fun h => .inr (.inl h))) (fun e => absurd HEs.out (by omega)))).trans hs3 (fun x _ h => .inr (.inr h))⟩
def begin_ent_post (ty M mb N T o : Nat) (c0 : Array Value) (f : Adr → Int) (i a : Int) (w : World) (e : Ending) (w' : World) : Prop :=
  e = .returned (.tuple #[]) ∧ ∃ E, w.heap.size ≤ E ∧ MemOf M mb (N + 2) (f) w' ∧ TAt ty T o c0 (.bool false) (.int .u64 a) (pE E) pN pN w' ∧ EntAt E 4 (f gAdr) i w' ∧ Mod (fun b => b = M ∨ b = mb ∨ b = T) w w'
set_option maxHeartbeats 2000000 in
set_option maxRecDepth 100000 in
theorem begin_ent {ty M mb N T o : Nat} {c0 : Array Value} {f : Adr → Int} {i a : Int} {w : World} (hM : MemOf M mb N f w) (hTM : T ≠ M) (hTm : T ≠ mb) (hT : TAt ty T o c0 (.bool false) (.int .u64 a) pN pN pN w) (h0 : 0 ≤ i) (h1 : i < 16) :
    Calls Try.prog 9 #[.pointer (some ⟨T, o, none⟩), .pointer (some ⟨M, 0, none⟩), .int .i64 i, .bool false] w (begin_ent_post ty M mb N T o c0 f i a w) := by
  obtain ⟨hl1, hl2⟩ := hM.lt
  have hl3 := hT.lt
  obtain ⟨hc0, hc1, hc2, hc3, hc4⟩ := TAt.cells hT
  have HT := Lib.hid hT
  have HM := Lib.hid hM
  clear hT hM
  go_enter Try.func9, Try.ntmps9
  go_wp2_with fail
  refine (newEnter_any h0 h1 w).mono ?_
  rintro _ w1 ⟨E, rfl, hE, hEs, hb⟩
  have hEM : E ≠ M := by omega
  have hEm : E ≠ mb := by omega
  have hET : E ≠ T := by omega
  have HEs := Lib.hid hEs
  have HB := Lib.hid (Mod.ofBelow hb (fun _ => False))
  have HT1 := Lib.hid (HT.out.mod HB.out (fun h => h))
  have HE1 := Lib.hid hE
  clear hE hb hEs hc0 hc1 hc2 hc3 hc4
  obtain ⟨hc0, hc1, hc2, hc3, hc4⟩ := TAt.cells HT1.out
  have hf0 : w1.frozen? ⟨T, o, none⟩ = false := TAt.free HT1.out _
  have hf1 : w1.frozen? ⟨T, o + 1, none⟩ = false := TAt.free HT1.out _
  have hf2 : w1.frozen? ⟨T, o + 2, none⟩ = false := TAt.free HT1.out _
  have hf3 : w1.frozen? ⟨T, o + 3, none⟩ = false := TAt.free HT1.out _
  have hf4 : w1.frozen? ⟨T, o + 4, none⟩ = false := TAt.free HT1.out _
  go_wp2_with fail
  have hs := (Mod.refl (fun b => b = T) w1).setCell (p := ⟨T, o + 2, none⟩) (fun _ => rfl) (pE E)
  have hT2 := (HT1.out.set2 (x := (pE E)))
  have HS2 := Lib.hid hs
  have HT2 := Lib.hid hT2
  have HE2 := Lib.hid (hs.keep HE1.out (fun e => hET e))
  have HM2 := Lib.hid ((HM.out.mod HB.out (fun h => h) (fun h => h)).mod hs (fun e => hTM e.symm) (fun e => hTm e.symm))
  clear hs hT2 hc0 hc1 hc2 hc3 hc4 hf0 hf1 hf2 hf3 hf4
  generalize (w1.setCell ⟨T, o + 2, none⟩ (pE E)) = w2 at HS2 HT2 HE2 HM2 ⊢
  obtain ⟨hc0, hc1, hc2, hc3, hc4⟩ := TAt.cells HT2.out
  go_wp2_with fail
  refine (enter_step1 HM2.out HE2.out hEM hEm).mono ?_
  rintro _ w3 ⟨rfl, hM3, hE3, hm3⟩
  have HM3 := Lib.hid hM3
  have HE3 := Lib.hid hE3
  have HO3 := Lib.hid hm3
  have HT3 := Lib.hid (HT2.out.mod hm3 (fun h => h.elim (fun h => h.elim hTM hTm) (fun h => hET h.symm)))
  clear hM3 hE3 hm3 hc0 hc1 hc2 hc3 hc4
  obtain ⟨hc0, hc1, hc2, hc3, hc4⟩ := TAt.cells HT3.out
  have hf0 : w3.frozen? ⟨T, o, none⟩ = false := TAt.free HT3.out _
  have hf1 : w3.frozen? ⟨T, o + 1, none⟩ = false := TAt.free HT3.out _
  have hf2 : w3.frozen? ⟨T, o + 2, none⟩ = false := TAt.free HT3.out _
  have hf3 : w3.frozen? ⟨T, o + 3, none⟩ = false := TAt.free HT3.out _
  have hf4 : w3.frozen? ⟨T, o + 4, none⟩ = false := TAt.free HT3.out _
  go_wp2_with fail
  go_end0
  exact ⟨rfl, E, HEs.out, HM3.out.grow, HT3.out, HE3.out, ((HB.out.weaken (fun _ _ h => h.elim)).trans HS2.out (fun x _ h => .inr (.inr h))).trans HO3.out (fun x hx h => h.elim (fun h => h.elim .inl (fun h => .inr (.inl h))) (fun e => absurd HEs.out (by omega)))⟩
end Go.Proofs.Ytjnbkpklcmkdlaa
