/- Snapshots: one taken alone; the chapter's example. -/
import Derived.Test.YtjnbkpklcmkdlaaSE
namespace Go.Proofs.Ytjnbkpklcmkdlaa
open Go.RowKit

def tRun (f : Adr → Int) : Nat → TSt
  | 0 => .start
  | k + 1 => tNext f (tRun f k)
theorem tRun_ok (f : Adr → Int) (k : Nat) : (tRun f k).ok := by
  induction k with
  | zero => trivial
  | succ k ih => exact TSt.ok_next ih
/-- A taker over a memory, made since B. -/
def Taking (B M mb N K : Nat) (f : Adr → Int) (s : Int) (t : TSt) (w : World) : Prop :=
  ∃ RB L, MemAt M mb N f s L w ∧ TakIs K RB t w ∧ K ≠ M ∧ K ≠ mb ∧ RB ≠ M ∧ RB ≠ mb ∧ B ≤ K ∧ B ≤ RB
theorem Taking.mod {S : Nat → Prop} {B M mb N K : Nat} {f : Adr → Int} {s : Int} {t : TSt} {w w' : World} (h : Taking B M mb N K f s t w) (hm : Mod S w w') (h1 : ¬ S M) (h2 : ¬ S mb) (h3 : ∀ b, B ≤ b → ¬ S b) : Taking B M mb N K f s t w' := by
  obtain ⟨RB, L, hM, hT, a, b, c, d, e, g⟩ := h
  exact ⟨RB, L, hM.mod hm h1 h2, hT.keep hm (h3 _ e) (h3 _ g), a, b, c, d, e, g⟩
def StepOn (B M mb N K : Nat) (f : Adr → Int) (s : Int) (t : TSt) (w : World) (e : Ending) (w' : World) : Prop :=
  e = .returned (.bool t.over) ∧ Taking B M mb N K f s t w' ∧ Mod (fun x => mfoot M mb x ∨ B ≤ x) w w'
theorem taking_step {B M mb N K : Nat} {f : Adr → Int} {s : Int} {t : TSt} {w : World} (h : Taking B M mb N K f s t w) (hok : t.ok) (hno : t.over = false) (hb : 0 ≤ f bAdr) (hs : 0 ≤ s) (hs2 : s < 1000000) (hB : B ≤ w.heap.size) :
    Calls Try.prog 16 #[.pointer (some ⟨K, 0, none⟩), .pointer (some ⟨M, 0, none⟩)] w (StepOn B M mb (N + 1) K f (s + 1) (tNext f t) w) := by
  obtain ⟨RB, L, hM, hT, h1, h2, h3, h4, h5, h6⟩ := h
  obtain ⟨hl1, hl2⟩ := hM.lt
  refine (stp_any hM hT hok hno h1 h2 h3 h4 hb).mono ?_
  rintro e w' ⟨he, hM', ⟨RB', hR, hT'⟩, hm⟩
  have hw : wrap64 (s + 1) = s + 1 := by unfold wrap64; omega
  rw [hw] at hM'
  refine ⟨he, ⟨RB', _, hM', hT', h1, h2, ?_, ?_, h5, ?_⟩, hm.weaken (fun x _ h => h.imp id (fun h => ?_))⟩
  · rcases hR with rfl | hR
    · exact h3
    · omega
  · rcases hR with rfl | hR
    · exact h4
    · omega
  · rcases hR with rfl | hR
    · exact h6
    · omega
  · rcases h with rfl | rfl
    · exact h5
    · exact h6

def TakenPost (M mb N : Nat) (f : Adr → Int) (s : Int) (n : Nat) (R : Nat → Nat → Int) (w : World) (e : Ending) (w' : World) : Prop :=
  ∃ a, e = .returned (.tuple #[snapV a n n, .bool true]) ∧ ((a = none ∧ n = 0) ∨ ∃ g cur, a = some ⟨g, 0, none⟩ ∧ w.heap.size ≤ g ∧ w'.heap[g]? = some (.cells cur 52) ∧ ∀ k, k < n → ∀ j, j < 10 → cur[k * 10 + j]? = some (.int .u64 (R k j))) ∧ (∃ L, MemAt M mb N f s L w') ∧ Mod (mfoot M mb) w w'
def TakRel (B M mb N K k0 : Nat) (f : Adr → Int) (s : Int) (w : World) (i : Value) (wr : World) : Prop :=
  ∃ k : Nat, k ≤ k0 ∧ i = .int .i64 k ∧ Taking B M mb (N + k) K f (s + k) (tRun f k) wr ∧ Mod (fun x => mfoot M mb x ∨ B ≤ x) w wr
set_option maxHeartbeats 1000000 in
theorem taken_any {M mb N k0 n : Nat} {f : Adr → Int} {s : Int} {L : Acc} {R : Nat → Nat → Int} {w : World} (hM : MemAt M mb N f s L w) (hk : k0 ≤ 199) (hrun : ∀ k, k < k0 → (tRun f k).over = false) (hend : tRun f k0 = .fin n R) (hb : 0 ≤ f bAdr) (hs : 0 ≤ s) (hs2 : s < 100000) :
    Calls Try.prog 38 #[.pointer (some ⟨M, 0, none⟩), .int .i64 200] w (TakenPost M mb (N + k0) f (s + k0) n R w) := by
  obtain ⟨hl1, hl2⟩ := hM.lt
  have hn : n ≤ 16 := by
    have := tRun_ok f k0
    rw [hend] at this
    exact this
  have HM := Lib.hid hM
  have HR := Lib.hid hrun
  have HE := Lib.hid hend
  clear hM hrun hend
  go_enter Try.func38, Try.ntmps38
  go_wp2_with fail
  have hb0 : Below w.heap.size w (w.alloc (.cells #[.slice none 0 0, .int .u64 0] 58)) := (Below.refl _ _).alloc (Nat.le_refl _) _
  have hres := heap_alloc_at w (.cells #[.slice none 0 0, .int .u64 0] 58)
  have hz : (w.alloc (.cells #[.slice none 0 0, .int .u64 0] 58)).heap.size = w.heap.size + 1 := by simp
  generalize w.alloc (.cells #[.slice none 0 0, .int .u64 0] 58) = wa at hb0 hres hz ⊢
  have HB0 := Lib.hid hb0
  have HRes := Lib.hid hres
  have HZ := Lib.hid hz
  clear hb0 hres hz
  refine (newTak_any wa).mono ?_
  rintro _ w1 ⟨K, rfl, hK, hKs, hb1⟩
  have HB1 := Lib.hid hb1
  have HTk : Hid (Taking (w.heap.size + 1) M mb N K f s .start w1) := by
    have := HZ.out
    exact ⟨K, L, (HM.out.mod (Mod.ofBelow HB0.out (fun _ => False)) (fun h => h) (fun h => h)).mod (Mod.ofBelow hb1 (fun _ => False)) (fun h => h) (fun h => h), ⟨hK, rfl⟩, by omega, by omega, by omega, by omega, by omega, by omega⟩
  have HRes1 := Lib.hid ((Mod.ofBelow hb1 (fun _ => False)).keep HRes.out (fun h => h))
  have HW1 : Hid (w.heap.size + 1 ≤ w1.heap.size) := by
    unfold Hid
    have := HZ.out
    have := hb1.size
    omega
  clear hK hKs hb1
  go_wp2_with fail
  go_loopw [7] (fun i wr => TakRel (w.heap.size + 1) M mb N K k0 f s w1 i wr) (fun i _ => k0 - (intOf i).toNat)
  case atStart => exact ⟨0, Nat.zero_le _, rfl, by simpa [tRun] using HTk.out, Mod.refl _ _⟩
  case round =>
    obtain ⟨k, hk2, rfl, hTk, hmk⟩ := hrel
    have HTR := Lib.hid hTk
    have HMR := Lib.hid hmk
    clear hTk hmk
    have hdk : decide ((k : Int) < 200) = true := decide_eq_true (by omega)
    by_cases hlt : k < k0
    · obtain ⟨fn, fi, ca, c0⟩ : ∃ fn fi ca, (_ : World).cell? ⟨K, 0, none⟩ = some (.func fn fi ca) := by
        obtain ⟨RB, L, _, h, _⟩ := HTR.out
        exact h.no (HR.out k hlt)
      go_wp2_with fail
      refine (takOver_no c0).mono ?_
      rintro _ wr ⟨rfl, rfl⟩
      go_wp2_with fail
      refine (taking_step HTR.out (tRun_ok f k) (HR.out k hlt) hb (by omega) (by omega) (Nat.le_trans HW1.out HMR.out.size)).mono ?_
      rintro _ w3 ⟨rfl, hT3, hm3⟩
      have HT3 := Lib.hid hT3
      have HM3 := Lib.hid hm3
      clear hT3 hm3 c0
      go_wp2_with fail
      go_roundw
      case rel => exact ⟨k + 1, by omega, by go_num, by
        have h := HT3.out
        have e : s + (k : Int) + 1 = s + ((k + 1 : Nat) : Int) := by omega
        rw [e] at h
        exact h, HMR.out.trans HM3.out (fun _ _ h => h)⟩
      case measure => simp [intOf]; omega
    · obtain rfl : k = k0 := by omega
      obtain ⟨RB, L2, hM2, hT2, h1, h2, h3, h4, h5, h6⟩ := HTR.out
      rw [HE.out] at hT2
      have hE2 : TakEnd K RB n R _ := hT2
      have c0 : (_ : World).cell? ⟨K, 0, none⟩ = some .nilFunc := cell_of hE2.own rfl
      have HM2 := Lib.hid hM2
      have HE2 := Lib.hid hE2
      have HRes2 := Lib.hid (HMR.out.keep HRes1.out (fun h => by rcases h with (h | h) | h <;> omega))
      clear hM2 hT2 hE2
      go_wp2_with fail
      refine (takOver_yes c0).mono ?_
      rintro _ wr ⟨rfl, rfl⟩
      go_wp2_with fail
      refine (got_yes HE2.out hn).mono ?_
      rintro _ w4 ⟨a, rfl, hg, hb4⟩
      have HG := Lib.hid hg
      have HB4 := Lib.hid (Mod.ofBelow hb4 (fun _ => False))
      have c4 : w4.cell? ⟨K, 0, none⟩ = some .nilFunc := cell_of (HB4.out.keep HE2.out.own (fun h => h)) rfl
      have hk4 := HB4.out.keep HRes2.out (fun h => h)
      have r0 : w4.cell? ⟨w.heap.size, 0, none⟩ = some (.slice none 0 0) := cell_of hk4 rfl
      have r1 : w4.cell? ⟨w.heap.size, 1, none⟩ = some (.int .u64 0) := cell_of hk4 rfl
      have s0 := free_of (i := 0) hk4
      have s1 := free_of (i := 1) hk4
      clear hg hb4 c0 hk4
      go_wp2_with fail
      refine (takOver_yes c4).mono ?_
      rintro _ w4 ⟨rfl, rfl⟩
      go_wp2_with fail
      have hs4 := ((Mod.refl (fun x => x = w.heap.size) w4).setCell (p := ⟨w.heap.size, 0, none⟩) (fun _ => rfl) (.slice a n n)).setCell (p := ⟨w.heap.size, 1, none⟩) (fun _ => rfl) (.int .u64 0)
      have HS4 := Lib.hid hs4
      clear hs4
      have hz1 := HW1.out
      have hz2 := HMR.out.size
      refine bodyPost_ret (v := .tuple #[snapV a n n, .bool true]) (by simp [results, Try.results38, go_sem, r0, r1]) rfl ⟨a, rfl, ?_, ⟨L2, (HM2.out.mod HB4.out (fun h => h) (fun h => h)).mod HS4.out (fun h => by omega) (fun h => by omega)⟩, ?_⟩
      · refine HG.out.imp id ?_
        rintro ⟨g, cur, h1, h2, h3, h4⟩
        exact ⟨g, cur, h1, by omega, HS4.out.keep h3 (fun h => by omega), h4⟩
      · refine (((((Mod.ofBelow HB0.out _).trans (Mod.ofBelow HB1.out (fun _ => False)) (fun _ _ h => h.elim)).trans HMR.out (fun x hx h => ?_)).trans HB4.out (fun _ _ h => h.elim)).trans HS4.out (fun x hx h => ?_))
        · rcases h with h | h
          · exact h
          · omega
        · omega

/-- The example's words. -/
def fzz : Adr → Int := fun _ => 0
def fLa : Adr → Int := upd fzz bAdr 1
def fLb : Adr → Int := upd fLa (tAdr 2 0) 5
def fLc : Adr → Int := upd fLb (tAdr 2 3) 9
def lRun : Nat → Bool := fun k => (tRun fLc k).over
theorem lRun_no : ∀ k, k < 14 → (tRun fLc k).over = false := by
  intro k hk
  obtain rfl | rfl | rfl | rfl | rfl | rfl | rfl | rfl | rfl | rfl | rfl | rfl | rfl | rfl : k = 0 ∨ k = 1 ∨ k = 2 ∨ k = 3 ∨ k = 4 ∨ k = 5 ∨ k = 6 ∨ k = 7 ∨ k = 8 ∨ k = 9 ∨ k = 10 ∨ k = 11 ∨ k = 12 ∨ k = 13 := by omega
  all_goals decide +kernel
theorem lRun_end : ∃ R, tRun fLc 14 = .fin 4 R ∧ R 0 0 = 0 ∧ R 0 1 = 0 ∧ R 0 2 = 0 ∧ R 0 3 = 0 ∧ R 0 4 = 0 ∧ R 0 5 = 0 ∧ R 0 6 = 0 ∧ R 0 7 = 0 ∧ R 0 8 = 0 ∧ R 0 9 = 0 ∧ R 2 0 = 5 ∧ R 2 1 = 0 ∧ R 2 2 = 0 ∧ R 2 3 = 9 ∧ R 2 4 = 0 ∧ R 2 5 = 0 ∧ R 2 6 = 0 ∧ R 2 7 = 0 ∧ R 2 8 = 0 ∧ R 2 9 = 0 := by
  have h : (match tRun fLc 14 with | .fin 4 R => decide (R 0 0 = 0 ∧ R 0 1 = 0 ∧ R 0 2 = 0 ∧ R 0 3 = 0 ∧ R 0 4 = 0 ∧ R 0 5 = 0 ∧ R 0 6 = 0 ∧ R 0 7 = 0 ∧ R 0 8 = 0 ∧ R 0 9 = 0 ∧ R 2 0 = 5 ∧ R 2 1 = 0 ∧ R 2 2 = 0 ∧ R 2 3 = 9 ∧ R 2 4 = 0 ∧ R 2 5 = 0 ∧ R 2 6 = 0 ∧ R 2 7 = 0 ∧ R 2 8 = 0 ∧ R 2 9 = 0) | _ => false) = true := by decide +kernel
  split at h
  · rename_i R hR
    exact ⟨R, hR, of_decide_eq_true h⟩
  · cases h
theorem storeAs {M mb N : Nat} {f f' : Adr → Int} {s : Int} {L : Acc} {w : World} (h : MemAt M mb N f s L w) (hN : N < maxLen) {a : Adr} (ha : AdrWf a) {nv : Int} (hv : (Lit.int .u64 nv).wf = true) (hm : mayB a = true) (hf : f' = upd f a nv) :
    Calls Try.prog 8 #[.pointer (some ⟨M, 0, none⟩), adrVal a, .int .u64 nv] w (fun e w' => e = .returned (.tuple #[]) ∧ MemAt M mb (N + 1) f' (wrap64 (s + 1)) (accOf f 2 a nv true) w' ∧ Mod (mfoot M mb) w w') := by
  refine (store_any h hN ha hv).mono ?_
  rintro e w' ⟨he, hM, hm'⟩
  have e1 : wordsOf f a nv true = f' := by rw [hf]; simp [wordsOf, acts, hm]
  rw [e1] at hM
  exact ⟨he, hM, hm'⟩

theorem eqT1 (w : World) : (binOp .eql 52 (.agg #[.int .u64 5, .int .u64 0, .int .u64 0, .int .u64 9, .int .u64 0, .int .u64 0, .int .u64 0, .int .u64 0, .int .u64 0, .int .u64 0]) (.agg #[.int .u64 5, .int .u64 0, .int .u64 0, .int .u64 9, .int .u64 0, .int .u64 0, .int .u64 0, .int .u64 0, .int .u64 0, .int .u64 0])).run Try.prog w = .ok (.bool true) w := by kernel_rfl
theorem eqT0 (w : World) : (binOp .eql 52 (.agg #[.int .u64 0, .int .u64 0, .int .u64 0, .int .u64 0, .int .u64 0, .int .u64 0, .int .u64 0, .int .u64 0, .int .u64 0, .int .u64 0]) (.agg #[.int .u64 0, .int .u64 0, .int .u64 0, .int .u64 0, .int .u64 0, .int .u64 0, .int .u64 0, .int .u64 0, .int .u64 0, .int .u64 0])).run Try.prog w = .ok (.bool true) w := by kernel_rfl
def LivesPost (w : World) (e : Ending) (w' : World) : Prop := e = .returned (.bool true) ∧ Below w.heap.size w w'
set_option maxHeartbeats 2000000 in
theorem lives14_any (w : World) : Calls Try.prog 12 #[] w (LivesPost w) := by
  have hmx : maxLen = 9223372036854775807 := rfl
  have HX := Lib.hid hmx
  have q1 := eqT1
  have q0 := eqT0
  clear hmx
  go_enter Try.func12, Try.ntmps12
  go_wp2_with fail
  refine (new_any w).mono ?_
  rintro _ w1 ⟨rfl, hM, hb, hz⟩
  have HM := Lib.hid hM
  have HB := Lib.hid (Mod.ofBelow hb (mfoot (w.heap.size + 1) w.heap.size))
  clear hM hb hz
  go_wp2_with fail
  refine (storeAs (f' := fLa) (a := bAdr) HM.out (by rw [HX.out]; decide) bWf (by decide) (by decide) rfl).mono ?_
  rintro _ w2 ⟨rfl, hM2, hm2⟩
  have HM2 := Lib.hid hM2
  have HO2 := Lib.hid hm2
  clear hM2 hm2
  go_wp2_with fail
  refine (storeAs (f' := fLb) (a := tAdr 2 0) HM2.out (by rw [HX.out]; decide) (tWf (by decide) (by decide)) (by decide) (by decide) rfl).mono ?_
  rintro _ w3 ⟨rfl, hM3, hm3⟩
  have HM3 := Lib.hid hM3
  have HO3 := Lib.hid hm3
  clear hM3 hm3
  go_wp2_with fail
  refine (storeAs (f' := fLc) (a := tAdr 2 3) HM3.out (by rw [HX.out]; decide) (tWf (by decide) (by decide)) (by decide) (by decide) rfl).mono ?_
  rintro _ w4 ⟨rfl, hM4, hm4⟩
  have e3 : wrap64 (wrap64 (wrap64 (0 + 1) + 1) + 1) = 3 := by decide +kernel
  rw [e3] at hM4
  have HM4 := Lib.hid hM4
  have HO4 := Lib.hid hm4
  clear hM4 hm4 e3
  go_wp2_with fail
  refine (steps_any HM4.out).mono ?_
  rintro _ w4 ⟨rfl, rfl⟩
  go_wp2_with fail
  obtain ⟨R, hR, hr⟩ := lRun_end
  refine (taken_any (s := 3) HM4.out (by decide) lRun_no hR (by decide) (by decide) (by decide)).mono ?_
  rintro _ w5 ⟨a, rfl, hg, ⟨L5, hM5⟩, hm5⟩
  have e17 : (3 : Int) + ((14 : Nat) : Int) = 17 := rfl
  rw [e17] at hM5
  have HM5 := Lib.hid hM5
  have HO5 := Lib.hid hm5
  obtain ⟨g, cur, rfl, hgs, hgb, hgc⟩ := hg.resolve_left (fun h => by cases h.2)
  have hgc0 := hgc 0 (by decide)
  have hgc2 := hgc 2 (by decide)
  have HGB := Lib.hid hgb
  clear hM5 hm5 e17 hg hgc hgb
  have HC0 := Lib.hid hgc0
  have HC2 := Lib.hid hgc2
  have HR := Lib.hid hr
  clear hgc0 hgc2 hr hR q1 q0
  go_wp2_with fail
  have hb6 : Mod (fun _ => False) w5 (w5.alloc (.cells #[.slice (some ⟨g, 0, none⟩) 4 4, .int .u64 0] 58)) := (Mod.refl _ _).alloc _
  have hs6 := heap_alloc_at w5 (.cells #[.slice (some ⟨g, 0, none⟩) 4 4, .int .u64 0] 58)
  generalize w5.alloc (.cells #[.slice (some ⟨g, 0, none⟩) 4 4, .int .u64 0] 58) = w6 at hb6 hs6 ⊢
  have HO6 := Lib.hid hb6
  have HGB6 := Lib.hid (hb6.keep HGB.out (fun h => h))
  have c0 : w6.cell? ⟨w5.heap.size, 0, none⟩ = some (.slice (some ⟨g, 0, none⟩) 4 4) := cell_of hs6 rfl
  obtain ⟨x0, x1, x2, x3, x4, x5, x6, x7, x8, x9, y0, y1, y2, y3, y4, y5, y6, y7, y8, y9⟩ := HR.out
  have hgc0 := HC0.out
  have hgc2 := HC2.out
  have a0 : w6.cell? ⟨g, 0, none⟩ = some (.int .u64 0) := cell_of HGB6.out (by rw [← x0]; exact hgc0 0 (by decide))
  have a1 : w6.cell? ⟨g, 1, none⟩ = some (.int .u64 0) := cell_of HGB6.out (by rw [← x1]; exact hgc0 1 (by decide))
  have a2 : w6.cell? ⟨g, 2, none⟩ = some (.int .u64 0) := cell_of HGB6.out (by rw [← x2]; exact hgc0 2 (by decide))
  have a3 : w6.cell? ⟨g, 3, none⟩ = some (.int .u64 0) := cell_of HGB6.out (by rw [← x3]; exact hgc0 3 (by decide))
  have a4 : w6.cell? ⟨g, 4, none⟩ = some (.int .u64 0) := cell_of HGB6.out (by rw [← x4]; exact hgc0 4 (by decide))
  have a5 : w6.cell? ⟨g, 5, none⟩ = some (.int .u64 0) := cell_of HGB6.out (by rw [← x5]; exact hgc0 5 (by decide))
  have a6 : w6.cell? ⟨g, 6, none⟩ = some (.int .u64 0) := cell_of HGB6.out (by rw [← x6]; exact hgc0 6 (by decide))
  have a7 : w6.cell? ⟨g, 7, none⟩ = some (.int .u64 0) := cell_of HGB6.out (by rw [← x7]; exact hgc0 7 (by decide))
  have a8 : w6.cell? ⟨g, 8, none⟩ = some (.int .u64 0) := cell_of HGB6.out (by rw [← x8]; exact hgc0 8 (by decide))
  have a9 : w6.cell? ⟨g, 9, none⟩ = some (.int .u64 0) := cell_of HGB6.out (by rw [← x9]; exact hgc0 9 (by decide))
  have b0 : w6.cell? ⟨g, 20, none⟩ = some (.int .u64 5) := cell_of HGB6.out (by rw [← y0]; exact hgc2 0 (by decide))
  have b1 : w6.cell? ⟨g, 21, none⟩ = some (.int .u64 0) := cell_of HGB6.out (by rw [← y1]; exact hgc2 1 (by decide))
  have b2 : w6.cell? ⟨g, 22, none⟩ = some (.int .u64 0) := cell_of HGB6.out (by rw [← y2]; exact hgc2 2 (by decide))
  have b3 : w6.cell? ⟨g, 23, none⟩ = some (.int .u64 9) := cell_of HGB6.out (by rw [← y3]; exact hgc2 3 (by decide))
  have b4 : w6.cell? ⟨g, 24, none⟩ = some (.int .u64 0) := cell_of HGB6.out (by rw [← y4]; exact hgc2 4 (by decide))
  have b5 : w6.cell? ⟨g, 25, none⟩ = some (.int .u64 0) := cell_of HGB6.out (by rw [← y5]; exact hgc2 5 (by decide))
  have b6 : w6.cell? ⟨g, 26, none⟩ = some (.int .u64 0) := cell_of HGB6.out (by rw [← y6]; exact hgc2 6 (by decide))
  have b7 : w6.cell? ⟨g, 27, none⟩ = some (.int .u64 0) := cell_of HGB6.out (by rw [← y7]; exact hgc2 7 (by decide))
  have b8 : w6.cell? ⟨g, 28, none⟩ = some (.int .u64 0) := cell_of HGB6.out (by rw [← y8]; exact hgc2 8 (by decide))
  have b9 : w6.cell? ⟨g, 29, none⟩ = some (.int .u64 0) := cell_of HGB6.out (by rw [← y9]; exact hgc2 9 (by decide))
  clear hb6 hs6 hgc0 hgc2 x0 x1 x2 x3 x4 x5 x6 x7 x8 x9 y0 y1 y2 y3 y4 y5 y6 y7 y8 y9
  refine (steps_any (HM5.out.mod HO6.out (fun h => h) (fun h => h))).mono ?_
  rintro _ w6 ⟨rfl, rfl⟩
  have q1 := eqT1
  have q0 := eqT0
  go_wp2_with fail
  go_ret
  have hall : Mod (mfoot (w.heap.size + 1) w.heap.size) w w6 := ((((HB.out.trans HO2.out (fun _ _ h => h)).trans HO3.out (fun _ _ h => h)).trans HO4.out (fun _ _ h => h)).trans HO5.out (fun _ _ h => h)).trans HO6.out (fun _ _ h => h.elim)
  exact ⟨rfl, hall.below (fun i hi h => by rcases h with h | h <;> omega)⟩
end Go.Proofs.Ytjnbkpklcmkdlaa
