/- Epochs: whether it may go; the chapter's example. -/
import Derived.Test.YtjnbkpklcmkdlaaEL
namespace Go.Proofs.Ytjnbkpklcmkdlaa
open Go.RowKit

abbrev entV (a : Int) : Value := .agg #[.int .i64 0, .int .u32 0, .bool false, .int .u64 0, .int .u64 a, .int .u64 0]
def MayNo (w : World) (e : Ending) (w' : World) : Prop := e = .returned (.bool false) ∧ Below w.heap.size w w'
theorem may_no {a n : Int} (h1 : a ≤ n) (h2 : n ≤ a + 1) (w : World) : Calls Try.prog 11 #[entV a, .int .u64 n] w (MayNo w) := by
  have hd : decide (n ≥ a) = true := decide_eq_true (p := a ≤ n) h1
  have hs : IntKind.u64.wrap (n - a) = n - a := wrap_u64 (by omega) (by omega)
  have hd2 : decide (n - a ≥ 2) = false := decide_eq_false (p := 2 ≤ n - a) (by omega)
  clear h1 h2
  go_enter Try.func11, Try.ntmps11
  go_wp2_with fail
  go_ret
  exact ⟨rfl, (Below.refl _ _).alloc (Nat.le_refl _) _⟩

def fz : Adr → Int := fun _ => 0
def fA : Adr → Int := upd (upd fz gAdr 7) nAdr 1
def fB : Adr → Int := upd fA (oAdr 2) 15
def fC : Adr → Int := upd fB gAdr 8
def stA : Nat → AdvSt
  | 0 => ⟨1, 0, 0, 0, false⟩
  | 1 => ⟨2, 7, 0, 0, false⟩
  | 2 => ⟨3, 7, 0, 4, false⟩
  | 3 => ⟨3, 7, 1, 4, false⟩
  | 4 => ⟨3, 7, 2, 4, false⟩
  | 5 => ⟨3, 7, 3, 4, false⟩
  | 6 => ⟨4, 7, 4, 4, false⟩
  | _ => ⟨0, 7, 4, 4, true⟩
def fsA : Nat → Adr → Int
  | 7 => fC
  | _ => fB
def stB : Nat → AdvSt
  | 0 => ⟨1, 0, 0, 0, false⟩
  | 1 => ⟨2, 8, 0, 0, false⟩
  | 2 => ⟨3, 8, 0, 4, false⟩
  | 3 => ⟨3, 8, 1, 4, false⟩
  | 4 => ⟨3, 8, 2, 4, false⟩
  | _ => ⟨0, 8, 3, 4, false⟩
theorem AdvPost.on {M mb N E : Nat} {r : Bool} {f : Adr → Int} {pc at' pos cnt : Int} {g : Bool} {w : World} {c : Nat} {args : Array Value} (h : Calls Try.prog c args w (AdvPost M mb N E r f pc at' pos cnt g w)) :
    Calls Try.prog c args w (AdvOn M mb N E f ⟨pc, at', pos, cnt, g⟩ w) :=
  h.mono fun _ _ ⟨a, b, c, d⟩ => ⟨r, a, b, c, d⟩
theorem stpA0 {M mb N E : Nat} {w : World} (hEM : E ≠ M) (hEm : E ≠ mb) (hM : MemOf M mb N fB w) (hE : AdvAt E 1 0 0 0 false w) :
    Calls Try.prog 34 #[.pointer (some ⟨E, 0, none⟩), .pointer (some ⟨M, 0, none⟩)] w (AdvOn M mb N E fB ⟨2, 7, 0, 0, false⟩ w) := by
  have h := AdvPost.on (adv_step1 hM hE hEM hEm)
  rw [show fB gAdr = 7 from by decide] at h
  exact h
theorem stpA1 {M mb N E : Nat} {w : World} (hEM : E ≠ M) (hEm : E ≠ mb) (hM : MemOf M mb N fB w) (hE : AdvAt E 2 7 0 0 false w) :
    Calls Try.prog 34 #[.pointer (some ⟨E, 0, none⟩), .pointer (some ⟨M, 0, none⟩)] w (AdvOn M mb N E fB ⟨3, 7, 0, 4, false⟩ w) := by
  have h := AdvPost.on (adv_step2one hM (by decide) (by decide) hE hEM hEm)
  exact h
theorem stpA2 {M mb N E : Nat} {w : World} (hEM : E ≠ M) (hEm : E ≠ mb) (hM : MemOf M mb N fB w) (hE : AdvAt E 3 7 0 4 false w) :
    Calls Try.prog 34 #[.pointer (some ⟨E, 0, none⟩), .pointer (some ⟨M, 0, none⟩)] w (AdvOn M mb N E fB ⟨3, 7, 1, 4, false⟩ w) := by
  have h := AdvPost.on (adv_step3_on (pc' := 3) hM (v := 0) (by decide) (by decide) (by decide) (by decide) (by decide) (by decide) (by decide) (by decide) ⟨fun h => absurd h (by decide), fun _ => rfl⟩ hE hEM hEm)
  exact h
theorem stpA3 {M mb N E : Nat} {w : World} (hEM : E ≠ M) (hEm : E ≠ mb) (hM : MemOf M mb N fB w) (hE : AdvAt E 3 7 1 4 false w) :
    Calls Try.prog 34 #[.pointer (some ⟨E, 0, none⟩), .pointer (some ⟨M, 0, none⟩)] w (AdvOn M mb N E fB ⟨3, 7, 2, 4, false⟩ w) := by
  have h := AdvPost.on (adv_step3_on (pc' := 3) hM (v := 0) (by decide) (by decide) (by decide) (by decide) (by decide) (by decide) (by decide) (by decide) ⟨fun h => absurd h (by decide), fun _ => rfl⟩ hE hEM hEm)
  exact h
theorem stpA4 {M mb N E : Nat} {w : World} (hEM : E ≠ M) (hEm : E ≠ mb) (hM : MemOf M mb N fB w) (hE : AdvAt E 3 7 2 4 false w) :
    Calls Try.prog 34 #[.pointer (some ⟨E, 0, none⟩), .pointer (some ⟨M, 0, none⟩)] w (AdvOn M mb N E fB ⟨3, 7, 3, 4, false⟩ w) := by
  have h := AdvPost.on (adv_step3_on (pc' := 3) hM (v := 15) (by decide) (by decide) (by decide) (by decide) (by decide) (by decide) (by decide) (by decide) ⟨fun h => absurd h (by decide), fun _ => rfl⟩ hE hEM hEm)
  exact h
theorem stpA5 {M mb N E : Nat} {w : World} (hEM : E ≠ M) (hEm : E ≠ mb) (hM : MemOf M mb N fB w) (hE : AdvAt E 3 7 3 4 false w) :
    Calls Try.prog 34 #[.pointer (some ⟨E, 0, none⟩), .pointer (some ⟨M, 0, none⟩)] w (AdvOn M mb N E fB ⟨4, 7, 4, 4, false⟩ w) := by
  have h := AdvPost.on (adv_step3_on (pc' := 4) hM (v := 0) (by decide) (by decide) (by decide) (by decide) (by decide) (by decide) (by decide) (by decide) ⟨fun _ => rfl, fun h => absurd h (by decide)⟩ hE hEM hEm)
  exact h
theorem stpA6 {M mb N E : Nat} {w : World} (hN : N < maxLen) (hEM : E ≠ M) (hEm : E ≠ mb) (hM : MemOf M mb N fB w) (hE : AdvAt E 4 7 4 4 false w) :
    Calls Try.prog 34 #[.pointer (some ⟨E, 0, none⟩), .pointer (some ⟨M, 0, none⟩)] w (AdvOn M mb N E fC ⟨0, 7, 4, 4, true⟩ w) := by
  have h := AdvPost.on (adv_step4 (b := true) (f' := fC) hM hN (by decide) rfl (by decide) (by decide) hE hEM hEm)
  exact h
theorem stpB0 {M mb N E : Nat} {w : World} (hEM : E ≠ M) (hEm : E ≠ mb) (hM : MemOf M mb N fC w) (hE : AdvAt E 1 0 0 0 false w) :
    Calls Try.prog 34 #[.pointer (some ⟨E, 0, none⟩), .pointer (some ⟨M, 0, none⟩)] w (AdvOn M mb N E fC ⟨2, 8, 0, 0, false⟩ w) := by
  have h := AdvPost.on (adv_step1 hM hE hEM hEm)
  rw [show fC gAdr = 8 from by decide] at h
  exact h
theorem stpB1 {M mb N E : Nat} {w : World} (hEM : E ≠ M) (hEm : E ≠ mb) (hM : MemOf M mb N fC w) (hE : AdvAt E 2 8 0 0 false w) :
    Calls Try.prog 34 #[.pointer (some ⟨E, 0, none⟩), .pointer (some ⟨M, 0, none⟩)] w (AdvOn M mb N E fC ⟨3, 8, 0, 4, false⟩ w) := by
  have h := AdvPost.on (adv_step2one hM (by decide) (by decide) hE hEM hEm)
  exact h
theorem stpB2 {M mb N E : Nat} {w : World} (hEM : E ≠ M) (hEm : E ≠ mb) (hM : MemOf M mb N fC w) (hE : AdvAt E 3 8 0 4 false w) :
    Calls Try.prog 34 #[.pointer (some ⟨E, 0, none⟩), .pointer (some ⟨M, 0, none⟩)] w (AdvOn M mb N E fC ⟨3, 8, 1, 4, false⟩ w) := by
  have h := AdvPost.on (adv_step3_on (pc' := 3) hM (v := 0) (by decide) (by decide) (by decide) (by decide) (by decide) (by decide) (by decide) (by decide) ⟨fun h => absurd h (by decide), fun _ => rfl⟩ hE hEM hEm)
  exact h
theorem stpB3 {M mb N E : Nat} {w : World} (hEM : E ≠ M) (hEm : E ≠ mb) (hM : MemOf M mb N fC w) (hE : AdvAt E 3 8 1 4 false w) :
    Calls Try.prog 34 #[.pointer (some ⟨E, 0, none⟩), .pointer (some ⟨M, 0, none⟩)] w (AdvOn M mb N E fC ⟨3, 8, 2, 4, false⟩ w) := by
  have h := AdvPost.on (adv_step3_on (pc' := 3) hM (v := 0) (by decide) (by decide) (by decide) (by decide) (by decide) (by decide) (by decide) (by decide) ⟨fun h => absurd h (by decide), fun _ => rfl⟩ hE hEM hEm)
  exact h
theorem stpB4 {M mb N E : Nat} {w : World} (hEM : E ≠ M) (hEm : E ≠ mb) (hM : MemOf M mb N fC w) (hE : AdvAt E 3 8 2 4 false w) :
    Calls Try.prog 34 #[.pointer (some ⟨E, 0, none⟩), .pointer (some ⟨M, 0, none⟩)] w (AdvOn M mb N E fC ⟨0, 8, 3, 4, false⟩ w) := by
  have h := AdvPost.on (adv_step3_fail hM (v := 15) (by decide) (by decide) (by decide) (by decide) (by decide) (by decide) (by decide) (by decide) (by decide) hE hEM hEm)
  exact h
theorem movA {M mb N : Nat} (hN : N + 7 < maxLen) {w : World} (hM : MemOf M mb N fB w) :
    Calls Try.prog 28 #[.pointer (some ⟨M, 0, none⟩)] w (MovedPost M mb (N + 7) fC true 7 w) := by
  refine moved_any (K := 7) (by decide) stA fsA hM rfl (fun k hk => ?_) rfl (fun k hk E w hEM hEm hM hE => ?_)
  · match k, hk with
    | 0, _ | 1, _ | 2, _ | 3, _ | 4, _ | 5, _ | 6, _ => decide
  · obtain rfl | rfl | rfl | rfl | rfl | rfl | rfl : k = 0 ∨ k = 1 ∨ k = 2 ∨ k = 3 ∨ k = 4 ∨ k = 5 ∨ k = 6 := by omega
    · exact stpA0 hEM hEm hM hE
    · exact stpA1 hEM hEm hM hE
    · exact stpA2 hEM hEm hM hE
    · exact stpA3 hEM hEm hM hE
    · exact stpA4 hEM hEm hM hE
    · exact stpA5 hEM hEm hM hE
    · exact stpA6 (by omega) hEM hEm hM hE

theorem movB {M mb N : Nat} {w : World} (hM : MemOf M mb N fC w) :
    Calls Try.prog 28 #[.pointer (some ⟨M, 0, none⟩)] w (MovedPost M mb (N + 5) fC false 5 w) := by
  refine moved_any (K := 5) (by decide) stB (fun _ => fC) hM rfl (fun k hk => ?_) rfl (fun k hk E w hEM hEm hM hE => ?_)
  · match k, hk with
    | 0, _ | 1, _ | 2, _ | 3, _ | 4, _ => decide
  · obtain rfl | rfl | rfl | rfl | rfl : k = 0 ∨ k = 1 ∨ k = 2 ∨ k = 3 ∨ k = 4 := by omega
    · exact stpB0 hEM hEm hM hE
    · exact stpB1 hEM hEm hM hE
    · exact stpB2 hEM hEm hM hE
    · exact stpB3 hEM hEm hM hE
    · exact stpB4 hEM hEm hM hE

theorem storeOf {M mb N : Nat} {f f' : Adr → Int} {w : World} (h : MemOf M mb N f w) (hN : N < maxLen) {a : Adr} (ha : AdrWf a) {nv : Int} (hv : (Lit.int .u64 nv).wf = true) (hm : mayB a = true) (hf : f' = upd f a nv) :
    Calls Try.prog 8 #[.pointer (some ⟨M, 0, none⟩), adrVal a, .int .u64 nv] w (fun e w' => e = .returned (.tuple #[]) ∧ MemOf M mb (N + 1) f' w' ∧ Mod (fun x => x = M ∨ x = mb) w w') := by
  obtain ⟨s, L, h⟩ := h
  refine (store_any h hN ha hv).mono ?_
  rintro e w' ⟨he, hM, hm'⟩
  have e1 : wordsOf f a nv true = f' := by rw [hf]; simp [wordsOf, acts, hm]
  rw [e1] at hM
  exact ⟨he, ⟨_, _, hM⟩, hm'⟩
theorem loadOf {M mb N : Nat} {f : Adr → Int} {w : World} (h : MemOf M mb N f w) {a : Adr} (ha : AdrWf a) {v : Int} (hv : f a = v) :
    Calls Try.prog 27 #[.pointer (some ⟨M, 0, none⟩), adrVal a] w (fun e w' => e = .returned (.int .u64 v) ∧ MemOf M mb (N + 1) f w' ∧ Mod (fun x => x = M ∨ x = mb) w w') := by
  obtain ⟨s, L, h⟩ := h
  refine (load_any h ha).mono ?_
  rintro e w' ⟨he, hM, hm'⟩
  exact ⟨by rw [he, hv], ⟨_, _, hM⟩, hm'⟩

def LivesPost (w : World) (e : Ending) (w' : World) : Prop := e = .returned (.bool true) ∧ Below w.heap.size w w'
set_option maxHeartbeats 1000000 in
theorem lives_any (w : World) : Calls Try.prog 6 #[] w (LivesPost w) := by
  have hmx : maxLen = 9223372036854775807 := rfl
  have HX := Lib.hid hmx
  clear hmx
  go_enter Try.func6, Try.ntmps6
  go_wp2_with fail
  refine (new_any w).mono ?_
  rintro _ w1 ⟨rfl, hM, hb, hz⟩
  have HM : Hid (MemOf (w.heap.size + 1) w.heap.size 0 fz w1) := ⟨_, _, hM⟩
  have HB := Lib.hid hb
  clear hM hb hz
  go_wp2_with fail
  refine (storeOf (f' := upd fz gAdr 7) (a := gAdr) HM.out (by rw [HX.out]; decide) gWf (by decide) (by decide) rfl).mono ?_
  rintro _ w2 ⟨rfl, hM2, hm2⟩
  have HM2 := Lib.hid hM2
  have HO2 := Lib.hid hm2
  clear hM2 hm2
  go_wp2_with fail
  refine (storeOf (f' := fA) (a := nAdr) HM2.out (by rw [HX.out]; decide) nWf (by decide) (by decide) rfl).mono ?_
  rintro _ w3 ⟨rfl, hM3, hm3⟩
  have HM3 := Lib.hid hM3
  have HO3 := Lib.hid hm3
  clear hM3 hm3
  go_wp2_with fail
  refine (enters_any (i := 2) HM3.out (by rw [HX.out]; decide) (by decide) (by decide) (by decide) (by decide)).mono ?_
  rintro _ w4 ⟨rfl, hM4, hm4⟩
  have HM4 : Hid (MemOf (w.heap.size + 1) w.heap.size 4 fB w4) := hM4
  have HO4 := Lib.hid hm4
  clear hM4 hm4
  go_wp2_with fail
  refine (loadOf (a := oAdr 2) (v := 15) HM4.out (oWf (by decide) (by decide)) rfl).mono ?_
  rintro _ w5 ⟨rfl, hM5, hm5⟩
  have HM5 := Lib.hid hM5
  have HO5 := Lib.hid hm5
  clear hM5 hm5
  go_wp2_with fail
  refine (movA (by rw [HX.out]; decide) HM5.out).mono ?_
  rintro _ w6 ⟨rfl, hM6, hm6⟩
  have HM6 := Lib.hid hM6
  have HO6 := Lib.hid hm6
  clear hM6 hm6
  go_wp2_with fail
  refine (movB HM6.out).mono ?_
  rintro _ w7 ⟨rfl, hM7, hm7⟩
  have HM7 := Lib.hid hM7
  have HO7 := Lib.hid hm7
  clear hM7 hm7
  go_wp2_with fail
  refine (word_any HM7.out (k := 1) gWf).mono ?_
  rintro _ w8 ⟨rfl, hM8, hm8⟩
  have e8 : fC (1, 0, 0) = 8 := rfl
  rw [e8]
  have HO8 := Lib.hid hm8
  clear hM8 hm8 e8
  go_wp2_with fail
  go_ret
  have hall : Mod (fun x => x = w.heap.size + 1 ∨ x = w.heap.size) w w8 :=
    ((((((((Mod.ofBelow HB.out _).trans HO2.out (fun _ _ h => h)).trans HO3.out (fun _ _ h => h)).trans HO4.out (fun _ _ h => h)).trans HO5.out (fun _ _ h => h)).trans HO6.out (fun _ _ h => h)).trans HO7.out (fun _ _ h => h)).trans HO8.out (fun _ _ h => h))
  exact ⟨rfl, hall.below (fun i hi h => by omega)⟩
end Go.Proofs.Ytjnbkpklcmkdlaa
