/- Epochs: an Advance's second step where there is one block; enters, moved. -/
import Derived.Test.YtjnbkpklcmkdlaaEG
namespace Go.Proofs.Ytjnbkpklcmkdlaa
open Go.RowKit

set_option maxHeartbeats 2000000 in
set_option maxRecDepth 100000 in
theorem adv_step2one {M mb N E : Nat} {f : Adr → Int} {at' pos cnt : Int} {g : Bool} {w : World} (hM : MemOf M mb N f w) (hn : f nAdr = 1) (hp : pos < 4) (hE : AdvAt E 2 at' pos cnt g w) (hEM : E ≠ M) (hEm : E ≠ mb) :
    Calls Try.prog 34 #[.pointer (some ⟨E, 0, none⟩), .pointer (some ⟨M, 0, none⟩)] w (AdvPost M mb N E false f 3 at' pos 4 g w) := by
  obtain ⟨s, L, hM⟩ := hM
  have hc0 : w.cell? ⟨E, 0, none⟩ = some (.int .i64 2) := cell_of hE rfl
  have hc1 : w.cell? ⟨E, 1, none⟩ = some (.int .u64 at') := cell_of hE rfl
  have hc2 : w.cell? ⟨E, 2, none⟩ = some (.int .i64 pos) := cell_of hE rfl
  have hc3 : w.cell? ⟨E, 3, none⟩ = some (.int .i64 cnt) := cell_of hE rfl
  have hc4 : w.cell? ⟨E, 4, none⟩ = some (.bool g) := cell_of hE rfl
  have hlt := lt_of_block hE
  have HM := Lib.hid hM
  have HE := Lib.hid hE
  clear hM hE
  go_enter Try.func34, Try.ntmps34
  go_wp2_with fail
  refine wp_scope_jumps 0 (AdvJ M mb N E f at' (pos) 4 g w) (fun _ _ => 0) rfl ?first ?pass
  case first =>
    go_wp2_with fail
    refine (adv_over hc0).mono ?_
    rintro _ w ⟨rfl, rfl⟩
    go_wp2_with fail
    have hwn : adrVal nAdr = .agg #[.int .u8 5, .int .i64 0, .int .i64 0] := rfl
    rw [← hwn]
    have HN := Lib.hid hn
    clear hn hwn
    refine (load_any HM.out nWf).mono ?_
    rintro _ w2 ⟨rfl, hM2, hm2⟩
    rw [HN.out]
    have hE2 := hm2.keep HE.out (fun h => h.elim hEM hEm)
    have HM2 := Lib.hid hM2
    have HM3 := Lib.hid hm2
    clear hc0 hc1 hc2 hc3 hc4 hM2 hm2
    have hc0 : w2.cell? ⟨E, 0, none⟩ = some (.int .i64 2) := cell_of hE2 rfl
    have hc1 : w2.cell? ⟨E, 1, none⟩ = some (.int .u64 at') := cell_of hE2 rfl
    have hc2 : w2.cell? ⟨E, 2, none⟩ = some (.int .i64 pos) := cell_of hE2 rfl
    have hc3 : w2.cell? ⟨E, 3, none⟩ = some (.int .i64 cnt) := cell_of hE2 rfl
    have hc4 : w2.cell? ⟨E, 4, none⟩ = some (.bool g) := cell_of hE2 rfl
    have hf0 := free_of hE2 (i := 0)
    have hf1 := free_of hE2 (i := 1)
    have hf2 := free_of hE2 (i := 2)
    have hf3 := free_of hE2 (i := 3)
    have HE2 := Lib.hid hE2
    clear hE2
    go_wp2_with fail
    go_step3
    have hs := ((Mod.refl (fun b => b = E) w2).setCell (p := ⟨E, 3, none⟩) (fun _ => rfl) (.int .i64 4)).setCell (p := ⟨E, 0, none⟩) (fun _ => rfl) (.int .i64 3)
    have hE3 := heap_setCell_same (i := 0) (heap_setCell_same (i := 3) HE2.out (.int .i64 4)) (.int .i64 3)
    simp only [Exit.inBlock, Exit.then, Exit.jump]
    refine ⟨trivial, ?_⟩
    refine AdvJ.make (by rfl) ⟨_, _, HM2.out.mod hs (fun e => hEM e.symm) (fun e => hEm e.symm)⟩ hE3 ((HM3.out.weaken (fun _ _ h => .inl h)).trans hs (fun _ _ h => .inr h))
  case pass =>
    rintro a' w' ⟨⟨u, rfl⟩, hM', hA', hmod'⟩
    have hc2 : w'.cell? ⟨E, 2, none⟩ = some (.int .i64 pos) := cell_of hA' rfl
    have hc3 : w'.cell? ⟨E, 3, none⟩ = some (.int .i64 4) := cell_of hA' rfl
    have HM' := Lib.hid hM'
    have HA' := Lib.hid hA'
    have HO' := Lib.hid hmod'
    clear hM' hA' hmod'
    go_wp2_with fail
    go_quiet (fail)
    have HMq : Hid (Mod (fun _ => False) w' (w'.drewN nq)) := (Mod.refl (fun _ => False) w').drewN nq
    have hAq := HMq.out.keep HA'.out (fun h => h)
    generalize w'.drewN nq = wq at HMq hAq ⊢
    clear hc2 hc3
    have hc0 : wq.cell? ⟨E, 0, none⟩ = some (.int .i64 3) := cell_of hAq rfl
    have hf0 := free_of hAq (i := 0)
    have HAq := Lib.hid hAq
    clear hAq
    go_wp2_with fail
    simp only [Exit.jump]
    go_ret
    obtain ⟨s', L', hm'⟩ := HM'.out
    exact ⟨rfl, ⟨s', L', hm'.mod HMq.out (fun h => h) (fun h => h)⟩, HAq.out, HO'.out.trans HMq.out (fun _ _ h => h.elim)⟩

theorem MemOf.lt {M mb N : Nat} {f : Adr → Int} {w : World} (h : MemOf M mb N f w) : M < w.heap.size ∧ mb < w.heap.size := by
  obtain ⟨s, L, h⟩ := h
  exact ⟨lt_of_block h.1, h.2.1.lt⟩

def EntersPost (M mb N : Nat) (f : Adr → Int) (i : Int) (w : World) (e : Ending) (w' : World) : Prop :=
  e = .returned (.bool true) ∧ MemOf M mb (N + 2) (upd f (oAdr i) (2 * f gAdr + 1)) w' ∧ Mod (fun x => x = M ∨ x = mb) w w'
set_option maxHeartbeats 1000000 in
theorem enters_any {M mb N : Nat} {f : Adr → Int} {i : Int} {w : World} (hM : MemOf M mb N f w) (hN : N + 1 < maxLen) (h0 : 0 ≤ i) (h1 : i < 16) (ha0 : 0 ≤ f gAdr) (ha1 : f gAdr < 1152921504606846976) :
    Calls Try.prog 26 #[.pointer (some ⟨M, 0, none⟩), .int .i64 i] w (EntersPost M mb N f i w) := by
  obtain ⟨hl1, hl2⟩ := hM.lt
  have HM := Lib.hid hM
  clear hM
  go_enter Try.func26, Try.ntmps26
  go_wp2_with fail
  refine (newEnter_any h0 h1 w).mono ?_
  rintro _ w1 ⟨E, rfl, hE, hEs, hb⟩
  have hEM : E ≠ M := by omega
  have hEm : E ≠ mb := by omega
  have HE := Lib.hid hE
  have HB := Lib.hid (Mod.ofBelow hb (fun _ => False))
  have HM1 := Lib.hid (HM.out.mod HB.out (fun h => h) (fun h => h))
  have HS := Lib.hid hb.size
  clear hE hb
  go_wp2_with fail
  refine (enter_step1 HM1.out HE.out hEM hEm).mono ?_
  rintro _ w2 ⟨rfl, hM2, hE2, hm2⟩
  have HM2 := Lib.hid hM2
  have HE2 := Lib.hid hE2
  have HO2 := Lib.hid hm2
  clear hM2 hE2 hm2
  go_wp2_with fail
  refine (enter_step2 HM2.out hN h0 h1 ha0 ha1 HE2.out hEM hEm).mono ?_
  rintro _ w3 ⟨rfl, hM3, hE3, hm3⟩
  have HM3 := Lib.hid hM3
  have HO3 := Lib.hid hm3
  clear hM3 hE3 hm3
  go_wp2_with fail
  go_ret
  refine ⟨rfl, HM3.out, ((HB.out.weaken (fun _ _ h => h.elim)).trans HO2.out (fun x hx h => ?_)).trans HO3.out (fun x hx h => ?_)⟩
  · exact h.elim id (fun e => by omega)
  · exact h.elim id (fun e => by omega)

/-- An Advance's cells. -/
structure AdvSt where
  pc : Int
  at' : Int
  pos : Int
  cnt : Int
  g : Bool
def AdvIs (E : Nat) (x : AdvSt) (w : World) : Prop := AdvAt E x.pc x.at' x.pos x.cnt x.g w
def AdvOn (M mb N E : Nat) (f : Adr → Int) (x : AdvSt) (w : World) (e : Ending) (w' : World) : Prop :=
  ∃ r : Bool, e = .returned (.bool r) ∧ MemOf M mb (N + 1) f w' ∧ AdvIs E x w' ∧ Mod (foot M mb E) w w'
def MovedPost (M mb N : Nat) (f : Adr → Int) (g : Bool) (n : Int) (w : World) (e : Ending) (w' : World) : Prop :=
  e = .returned (.tuple #[.bool g, .int .i64 n]) ∧ MemOf M mb N f w' ∧ Mod (fun x => x = M ∨ x = mb) w w'
def MovRel (M mb N E K : Nat) (st : Nat → AdvSt) (fs : Nat → Adr → Int) (w1 : World) (i : Value) (wr : World) : Prop :=
  ∃ k : Nat, k ≤ K ∧ i = .int .i64 k ∧ MemOf M mb (N + k) (fs k) wr ∧ AdvIs E (st k) wr ∧ Mod (foot M mb E) w1 wr
set_option maxHeartbeats 1000000 in
theorem moved_any {M mb N K : Nat} {w : World} (hK : K ≤ 99) (st : Nat → AdvSt) (fs : Nat → Adr → Int) (hM : MemOf M mb N (fs 0) w) (h0 : st 0 = ⟨1, 0, 0, 0, false⟩) (hpc : ∀ k, k < K → (st k).pc ≠ 0) (hend : (st K).pc = 0)
    (hstep : ∀ k, k < K → ∀ E w, E ≠ M → E ≠ mb → MemOf M mb (N + k) (fs k) w → AdvIs E (st k) w → Calls Try.prog 34 #[.pointer (some ⟨E, 0, none⟩), .pointer (some ⟨M, 0, none⟩)] w (AdvOn M mb (N + k) E (fs (k + 1)) (st (k + 1)) w)) :
    Calls Try.prog 28 #[.pointer (some ⟨M, 0, none⟩)] w (MovedPost M mb (N + K) (fs K) (st K).g K w) := by
  obtain ⟨hl1, hl2⟩ := hM.lt
  have HM := Lib.hid hM
  have HI := Lib.hid h0
  have HP := Lib.hid hpc
  have HN := Lib.hid hend
  have HT := Lib.hid hstep
  clear hM h0 hpc hend hstep
  go_enter Try.func28, Try.ntmps28
  go_wp2_with fail
  refine (newAdv_any w).mono ?_
  rintro _ w1 ⟨E, rfl, hE, hEs, hb⟩
  have hEM : E ≠ M := by omega
  have hEm : E ≠ mb := by omega
  have HB := Lib.hid (Mod.ofBelow hb (fun _ => False))
  have HM1 := Lib.hid (HM.out.mod HB.out (fun h => h) (fun h => h))
  have HE : Hid (AdvIs E (st 0) w1) := by unfold Hid; rw [HI.out]; exact hE
  clear hE hb
  go_wp2_with fail
  go_loopw [5] (fun i wr => MovRel M mb N E K st fs w1 i wr) (fun i _ => K - (intOf i).toNat)
  case atStart => exact ⟨0, Nat.zero_le _, rfl, HM1.out, HE.out, Mod.refl _ _⟩
  case round =>
    obtain ⟨k, hk, rfl, hM2, hE2, hO2⟩ := hrel
    have hc0 : wr.cell? ⟨E, 0, none⟩ = some (.int .i64 (st k).pc) := cell_of hE2 rfl
    have hc4 : wr.cell? ⟨E, 4, none⟩ = some (.bool (st k).g) := cell_of hE2 rfl
    have HM2 := Lib.hid hM2
    have HE2 := Lib.hid hE2
    have HO2 := Lib.hid hO2
    clear hM2 hE2 hO2
    by_cases hlt : k < K
    · have hd : decide ((st k).pc = 0) = false := decide_eq_false (HP.out k hlt)
      clear hc4
      go_wp2_with fail
      refine (adv_over hc0).mono ?_
      rintro _ wr ⟨rfl, rfl⟩
      rw [hd]
      clear hd hc0
      go_wp2_with fail
      refine (HT.out k hlt E _ hEM hEm HM2.out HE2.out).mono ?_
      rintro _ w3 ⟨r, rfl, hM3, hE3, hm3⟩
      have HM3 := Lib.hid hM3
      have HE3 := Lib.hid hE3
      have HO3 := Lib.hid hm3
      clear hM3 hE3 hm3
      go_wp2_with fail
      go_roundw
      case rel => exact ⟨k + 1, by omega, by go_num, HM3.out, HE3.out, HO2.out.trans HO3.out (fun _ _ h => h)⟩
      case measure => simp [intOf]; omega
    · obtain rfl : k = K := by omega
      have hd : decide ((st k).pc = 0) = true := decide_eq_true HN.out
      go_wp2_with fail
      refine (adv_over hc0).mono ?_
      rintro _ wr ⟨rfl, rfl⟩
      rw [hd]
      clear hd hc0
      go_wp2_with fail
      refine (adv_got hc4).mono ?_
      rintro _ wr ⟨rfl, rfl⟩
      go_wp2_with fail
      go_ret2
      refine ⟨rfl, HM2.out, (HB.out.weaken (fun _ _ h => h.elim)).trans HO2.out (fun x hx h => h.elim id (fun e => by omega))⟩
end Go.Proofs.Ytjnbkpklcmkdlaa
