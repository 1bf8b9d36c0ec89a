/- Snapshots: SnapsMoved's walk. -/
import Derived.Test.YtjnbkpklcmkdlaaSG
namespace Go.Proofs.Ytjnbkpklcmkdlaa
open Go.RowKit

/-- A taker over a memory, whatever its count of steps is. -/
def TakM (B M mb N K : Nat) (f : Adr → Int) (t : TSt) (w : World) : Prop :=
  ∃ s RB L, MemAt M mb N f s L w ∧ TakIs K RB t w ∧ K ≠ M ∧ K ≠ mb ∧ RB ≠ M ∧ RB ≠ mb ∧ B ≤ K ∧ B ≤ RB
theorem TakM.mod {S : Nat → Prop} {B M mb N K : Nat} {f : Adr → Int} {t : TSt} {w w' : World} (h : TakM B M mb N K f t w) (hm : Mod S w w') (h1 : ¬ S M) (h2 : ¬ S mb) (h3 : ∀ b, B ≤ b → ¬ S b) : TakM B M mb N K f t w' := by
  obtain ⟨s, RB, L, hM, hT, a, b, c, d, e, g⟩ := h
  exact ⟨s, RB, L, hM.mod hm h1 h2, hT.keep hm (h3 _ e) (h3 _ g), a, b, c, d, e, g⟩
def StepM (B M mb N K : Nat) (f : Adr → Int) (t : TSt) (w : World) (e : Ending) (w' : World) : Prop :=
  e = .returned (.bool t.over) ∧ TakM B M mb N K f t w' ∧ Mod (fun x => mfoot M mb x ∨ B ≤ x) w w'
theorem takM_step {B M mb N K : Nat} {f : Adr → Int} {t : TSt} {w : World} (h : TakM B M mb N K f t w) (hok : t.ok) (hno : t.over = false) (hb : 0 ≤ f bAdr) (hB : B ≤ w.heap.size) :
    Calls Try.prog 16 #[.pointer (some ⟨K, 0, none⟩), .pointer (some ⟨M, 0, none⟩)] w (StepM B M mb (N + 1) K f (tNext f t) w) := by
  obtain ⟨s, RB, L, hM, hT, h1, h2, h3, h4, h5, h6⟩ := h
  obtain ⟨hl1, hl2⟩ := hM.lt
  refine (stp_any hM hT hok hno h1 h2 h3 h4 hb).mono ?_
  rintro e w' ⟨he, hM', ⟨RB', hR, hT'⟩, hm⟩
  refine ⟨he, ⟨_, RB', _, hM', hT', h1, h2, ?_, ?_, h5, ?_⟩, hm.weaken (fun x _ h => h.imp id (fun h => ?_))⟩
  · rcases hR with rfl | hR
    · exact h3
    · omega
  · rcases hR with rfl | hR
    · exact h4
    · omega
  · rcases hR with rfl | hR
    · exact h6
    · omega
  · rcases h with rfl | rfl
    · exact h5
    · exact h6
/-- Others store a word. -/
def TakStore (B M mb N K : Nat) (f : Adr → Int) (t : TSt) (w : World) (e : Ending) (w' : World) : Prop :=
  e = .returned (.tuple #[]) ∧ TakM B M mb N K f t w' ∧ Mod (mfoot M mb) w w'
theorem takM_store {B M mb N K : Nat} {f f' : Adr → Int} {t : TSt} {w : World} (h : TakM B M mb N K f t w) (hN : N < maxLen) {a : Adr} (ha : AdrWf a) {nv : Int} (hv : (Lit.int .u64 nv).wf = true) (hm : mayB a = true) (hf : f' = upd f a nv) :
    Calls Try.prog 8 #[.pointer (some ⟨M, 0, none⟩), adrVal a, .int .u64 nv] w (TakStore B M mb (N + 1) K f' t w) := by
  obtain ⟨s, RB, L, hM, hT, h1, h2, h3, h4, h5, h6⟩ := h
  refine (storeAs hM hN ha hv hm hf).mono ?_
  rintro e w' ⟨he, hM', hmod⟩
  exact ⟨he, ⟨_, RB, _, hM', hT.keep hmod (fun h => h.elim h1 h2) (fun h => h.elim h3 h4), h1, h2, h3, h4, h5, h6⟩, hmod⟩

def Rel1 (n : Nat) (R : Nat → Nat → Int) (w1 : World) (i : Value) (wr : World) : Prop := ∃ k : Nat, k ≤ n ∧ i = .int .i64 k ∧ (∀ j, j < k → R j 0 ≠ 0) ∧ wr = w1
def Rel2 (B M mb N K : Nat) (tot : Nat) (fs : Nat → Adr → Int) (ts : Nat → TSt) (w1 : World) (i : Value) (wr : World) : Prop :=
  ∃ k : Nat, k ≤ tot ∧ i = .int .i64 k ∧ TakM B M mb (N + 2 * k) K (fs k) (ts k) wr ∧ Mod (fun x => mfoot M mb x ∨ B ≤ x) w1 wr
def Rel3 (n : Nat) (w1 : World) (i : Value) (wr : World) : Prop := ∃ k : Nat, k ≤ n ∧ i = .int .i64 k ∧ Mod (fun _ => False) w1 wr

theorem TakM.grow {B M mb N K : Nat} {f : Adr → Int} {t : TSt} {w : World} (h : TakM B M mb N K f t w) : TakM B M mb (N + 1) K f t w := by
  obtain ⟨s, RB, L, hM, r⟩ := h
  exact ⟨s, RB, L, hM.grow, r⟩
/-- The memory's words after k rounds. -/
def mG (who field wen : Nat) (v : Int) (f0 : Adr → Int) (k : Nat) : Adr → Int := if wen < k then upd f0 (tAdr who field) v else f0
theorem mG_succ (who field wen : Nat) (v : Int) (f0 : Adr → Int) (k : Nat) : mG who field wen v f0 (k + 1) = mF who field wen v f0 k := by
  unfold mG mF
  by_cases h : wen ≤ k
  · rw [if_pos h, if_pos (by omega)]
  · rw [if_neg h, if_neg (by omega)]
theorem mRun_ok (who field wen : Nat) (v : Int) (f0 : Adr → Int) (k : Nat) : (mRun who field wen v f0 k).ok := by
  induction k with
  | zero => trivial
  | succ k ih => exact TSt.ok_next ih
theorem mF_b (who field wen : Nat) (v : Int) (f0 : Adr → Int) (k : Nat) : mF who field wen v f0 k bAdr = f0 bAdr := by
  unfold mF
  split
  · simp [upd, Ne.symm (t_ne_b _ _)]
  · rfl
abbrev movV (a : Option Addr) (n c : Nat) (z0 z1 : Nat) (v : Int) (at' : Nat) : Value := .agg #[.slice a n c, .int .u8 z0, .int .u8 z1, .int .u64 v, .int .u8 at']
set_option maxHeartbeats 4000000 in
set_option maxRecDepth 100000 in
theorem moved_walk (w : World) {a : Option Addr} {n c z0 z1 at' : Nat} {v : Int} {R : Nat → Nat → Int} (hT : Thrs w (.slice a n c) n R) (h0 : 0 < n) (h16 : n ≤ 16) (hR0 : ∀ k, k < n → R k 0 ≠ 0) (hR : ∀ k, k < n → ∀ j, j < 10 → (Lit.int .u64 (R k j)).wf = true) (hz0 : z0 < 256) (hz1 : z1 < 256) (ha : at' < 256) (hv : (Lit.int .u64 v).wf = true) :
    Calls Try.prog 4 #[movV a n c z0 z1 v at'] w (LivesPost w) := by
  have hmx : maxLen = 9223372036854775807 := rfl
  have HX := Lib.hid hmx
  clear hmx
  obtain ⟨a', c', hac, hT⟩ := hT
  cases hac
  obtain ⟨b, off, rfl, hbs, D0⟩ := hT.resolve_left (by omega)
  have HD := Lib.hid D0
  have HR0 := Lib.hid hR0
  have HR := Lib.hid hR
  have HVW := Lib.hid hv
  clear hT D0 hR0 hR hv
  have hd1 : decide ((n : Int) > 16) = false := decide_eq_false (p := 16 < (n : Int)) (by omega)
  have hd2 : ((n : Int) == 0) = false := by simp; omega
  go_enter Try.func4, Try.ntmps4
  go_wp2_with fail
  have hb0 := (Mod.refl (fun _ => False) w).alloc (.cells #[.slice (some ⟨b, off, none⟩) n c, .int .u8 z0, .int .u8 z1, .int .u64 v, .int .u8 at'] 49)
  have hz := heap_alloc_at w (.cells #[.slice (some ⟨b, off, none⟩) n c, .int .u8 z0, .int .u8 z1, .int .u64 v, .int .u8 at'] 49)
  generalize w.alloc (.cells #[.slice (some ⟨b, off, none⟩) n c, .int .u8 z0, .int .u8 z1, .int .u64 v, .int .u8 at'] 49) = wa at hb0 hz ⊢
  have HB0 := Lib.hid hb0
  have HZ := Lib.hid hz
  clear hb0 hz
  go_loopw [5] (fun i wr => Rel1 n R wa i wr) (fun i _ => n - (intOf i).toNat)
  case atStart => exact ⟨0, Nat.zero_le _, rfl, fun j hj => by omega, rfl⟩
  case round =>
    obtain ⟨k, hk, rfl, hpre, rfl⟩ := hrel
    have HPre := Lib.hid hpre
    clear hpre
    by_cases hlt : k < n
    · have c0 : (_ : World).cell? ⟨b, off + k * 10, none⟩ = some (.int .u64 (R k 0)) := (cell_mod HB0.out hbs (fun h => h)).trans (HD.out k hlt 0 (by decide))
      have t0 : (R k 0 == 0) = false := by simpa using HR0.out k hlt
      have HT0 := Lib.hid (HR0.out k hlt)
      go_wp2_with fail
      go_roundw
      case rel => exact ⟨k + 1, by omega, by go_num, fun j hj => by
        by_cases e : j = k
        · rw [e]; exact HT0.out
        · exact HPre.out j (by omega), rfl⟩
      case measure => simp [intOf]; omega
    · obtain ⟨bl, hbl⟩ : ∃ bl, bl = (n + 3) / 4 := ⟨_, rfl⟩
      have hdv : ((n : Int) + 3) / 4 = (bl : Int) := by omega
      have HBL := Lib.hid hbl
      clear hbl
      go_wp2_with fail
      refine (new_any _).mono ?_
      rintro _ w1 ⟨rfl, hM, hb1, hz1⟩
      have HM := Lib.hid hM
      have HB1 := Lib.hid hb1
      clear hM hb1 hz1
      go_wp2_with fail
      refine (lay_any (N := 0) (b := (bl : Int)) (R := R) ⟨_, _, HM.out⟩ (by rw [HX.out]; decide) (v := .slice (some ⟨b, off, none⟩) n c) (n := n) ⟨_, _, rfl, .inr ⟨b, off, rfl, ?_, ?_⟩⟩ (fun x o c' h => ?_) h16 HR.out (by omega) (by omega)).mono ?_
      · have := HB0.out.size
        have := HB1.out.size
        omega
      · intro k hk j hj
        have hbw := HB0.out.size
        rw [cell_mod (Mod.ofBelow HB1.out (fun _ => False)) (by omega) (fun h => h), cell_mod HB0.out hbs (fun h => h)]
        exact HD.out k hk j hj
      · cases h
        have := HB0.out.size
        omega
      rintro _ w2 ⟨rfl, hM2, hm2⟩
      obtain ⟨f0, hf0⟩ : ∃ f0, f0 = laid (fun _ => 0) (bl : Int) R (10 * n) := ⟨_, rfl⟩
      rw [← hf0] at hM2
      have HF0 := Lib.hid hf0
      have HM2 := Lib.hid hM2
      have HO2 := Lib.hid hm2
      clear hf0 hM2 hm2
      obtain ⟨hl1, hl2⟩ := HM.out.lt
      have HL1 := Lib.hid hl1
      have HZ2 := Lib.hid (HO2.out.keep ((Mod.ofBelow HB1.out (fun _ => False)).keep HZ.out (fun h => h)) (fun h => by have := lt_of_block HZ.out; rcases h with h | h <;> omega))
      have z1c : w2.cell? ⟨w.heap.size, 1, none⟩ = some (.int .u8 z0) := cell_of HZ2.out rfl
      have z2c : w2.cell? ⟨w.heap.size, 2, none⟩ = some (.int .u8 z1) := cell_of HZ2.out rfl
      have z4c : w2.cell? ⟨w.heap.size, 4, none⟩ = some (.int .u8 at') := cell_of HZ2.out rfl
      obtain ⟨who, hwho⟩ : ∃ who, who = z0 % n := ⟨_, rfl⟩
      obtain ⟨fd, hfd⟩ : ∃ fd, fd = 1 + z1 % 9 := ⟨_, rfl⟩
      obtain ⟨wen, hwen⟩ : ∃ wen, wen = at' % (1 + 10 * n) := ⟨_, rfl⟩
      have t1 : (z0 : Int) % (n : Int) = (who : Int) := by rw [hwho]; omega
      have t2 : 1 + (z1 : Int) % 9 = (fd : Int) := by omega
      have t3 : (at' : Int) % (1 + 10 * (n : Int)) = (wen : Int) := by rw [hwen]; simp
      have hw1 : who < n := by rw [hwho]; exact Nat.mod_lt _ h0
      have hfd1 : 1 ≤ fd := by omega
      have hfd2 : fd < 10 := by omega
      have hwn : wen < 1 + 10 * n := by rw [hwen]; exact Nat.mod_lt _ (by omega)
      clear hwho hfd hwen
      go_wp2_with fail
      clear z1c z2c z4c
      have hfb : f0 bAdr = (((n + 3) / 4 : Nat) : Int) := by rw [HF0.out, laid_b, HBL.out]
      have hft : ∀ i j, j < 10 → f0 (tAdr i j) = if i < n then R i j else 0 := fun i j hj => by
        rw [HF0.out, laid_t _ _ _ _ _ _ hj]
        by_cases h : i < n
        · rw [if_pos h, if_pos (by omega)]
        · rw [if_neg h, if_neg (by omega)]
      have HRun : Hid (∀ q, q ≤ mTot n → mRun who fd wen v f0 (q + 1) = mSt n who fd wen v R q) := fun q hq => mRun_eq h0 h16 hw1 hfd1 hfb hft HR0.out q hq
      have HNo : Hid (∀ q, q < mTot n + 1 → (mRun who fd wen v f0 q).over = false) := fun q hq => by
        cases q with
        | zero => rfl
        | succ q => rw [HRun.out q (by omega)]; exact mSt_no (by omega)
      have HFB : Hid (0 ≤ f0 bAdr) := by unfold Hid; rw [hfb]; omega
      clear hfb hft
      have HTot : Hid (mTot n + 1 ≤ 190) := by unfold Hid mTot nAll; omega
      refine (newTak_any w2).mono ?_
      rintro _ w3 ⟨K, rfl, hK, hKs, hb3⟩
      have HB3 := Lib.hid (Mod.ofBelow hb3 (fun _ => False))
      have HTk : Hid (TakM w2.heap.size (wr.heap.size + 1) wr.heap.size (0 + 1 + 10 * n) K f0 .start w3) := by
        obtain ⟨sm, Lm, hMm⟩ := HM2.out
        obtain ⟨h1, h2⟩ := hMm.lt
        exact ⟨sm, K, Lm, hMm.mod HB3.out (fun h => h) (fun h => h), ⟨hK, rfl⟩, by omega, by omega, by omega, by omega, hKs, hKs⟩
      have HW3 := Lib.hid hb3.size
      clear hK hKs hb3
      go_wp2_with fail
      go_loopw [12] (fun i wq => Rel2 w2.heap.size (wr.heap.size + 1) wr.heap.size (0 + 1 + 10 * n) K (mTot n + 1) (mG who fd wen v f0) (mRun who fd wen v f0) w3 i wq) (fun i _ => mTot n + 1 - (intOf i).toNat)
      case atStart => exact ⟨0, by omega, rfl, HTk.out, Mod.refl _ _⟩
      case round =>
        obtain ⟨q, hq, rfl, hTq, hmq⟩ := hrel
        have HTq := Lib.hid hTq
        have HMq := Lib.hid hmq
        clear hTq hmq
        have hq199 : q ≤ 190 := by have := HTot.out; omega
        have hdq : decide ((q : Int) < 200) = true := decide_eq_true (by omega)
        by_cases hql : q < mTot n + 1
        · have hno := HNo.out q hql
          obtain ⟨fn, fi, ca, c0⟩ : ∃ fn fi ca, (_ : World).cell? ⟨K, 0, none⟩ = some (.func fn fi ca) := by
            obtain ⟨s, RB, L, _, h, _⟩ := HTq.out
            exact h.no hno
          have HNq := Lib.hid hno
          clear hno
          have hB : Hid (w2.heap.size ≤ (_ : World).heap.size) := Nat.le_trans HW3.out HMq.out.size
          by_cases hqw : q = wen
          · have tq : ((q : Int) == (wen : Int)) = true := by simp [hqw]
            have HQW := Lib.hid hqw
            clear hqw
            go_wp2_with fail
            refine (takOver_no c0).mono ?_
            rintro _ wq ⟨rfl, rfl⟩
            go_wp2_with fail
            refine (takM_store (a := tAdr who fd) (f' := mF who fd wen v f0 q) HTq.out (by rw [HX.out]; unfold mTot nAll at hql; omega) (tWf (by omega) hfd2) HVW.out (tMay (by omega) hfd2) ?_).mono ?_
            · rw [HQW.out]
              unfold mF mG
              rw [if_pos (Nat.le_refl _), if_neg (Nat.lt_irrefl _)]
            rintro _ w5 ⟨rfl, hT5, hm5⟩
            have HT5 := Lib.hid hT5
            have HO5 := Lib.hid hm5
            clear hT5 hm5 c0 tq
            go_wp2_with fail
            refine (takM_step HT5.out (mRun_ok _ _ _ _ _ q) HNq.out (by rw [mF_b]; exact HFB.out) (Nat.le_trans hB.out HO5.out.size)).mono ?_
            rintro _ w6 ⟨rfl, hT6, hm6⟩
            have HT6 := Lib.hid hT6
            have HO6 := Lib.hid hm6
            clear hT6 hm6
            go_wp2_with fail
            go_roundw
            case rel => exact ⟨q + 1, by omega, by go_num, by
              rw [mG_succ]
              exact HT6.out, (HMq.out.trans HO5.out (fun _ _ h => .inl h)).trans HO6.out (fun _ _ h => h)⟩
            case measure => simp [intOf]; omega
          · have tq : ((q : Int) == (wen : Int)) = false := by simp; omega
            have HQW := Lib.hid hqw
            clear hqw
            go_wp2_with fail
            refine (takOver_no c0).mono ?_
            rintro _ wq ⟨rfl, rfl⟩
            go_wp2_with fail
            have hgq : mG who fd wen v f0 q = mF who fd wen v f0 q := by
              have := HQW.out
              unfold mG mF
              by_cases h : wen < q
              · rw [if_pos h, if_pos (by omega)]
              · rw [if_neg h, if_neg (by omega)]
            have hTg := HTq.out
            rw [hgq] at hTg
            have HTg := Lib.hid hTg
            clear hTg hgq c0 tq
            refine (takM_step HTg.out (mRun_ok _ _ _ _ _ q) HNq.out (by rw [mF_b]; exact HFB.out) hB.out).mono ?_
            rintro _ w6 ⟨rfl, hT6, hm6⟩
            have HT6 := Lib.hid hT6.grow
            have HO6 := Lib.hid hm6
            clear hT6 hm6
            go_wp2_with fail
            go_roundw
            case rel => exact ⟨q + 1, by omega, by go_num, by
              rw [mG_succ]
              exact HT6.out, HMq.out.trans HO6.out (fun _ _ h => h)⟩
            case measure => simp [intOf]; omega
        · have hqe : q = mTot n + 1 := by omega
          have HQE := Lib.hid hqe
          obtain ⟨sm, RB, Lm, hM5, hT5, k1, k2, k3, k4, k5, k6⟩ := HTq.out
          rw [hqe, HRun.out (mTot n) (Nat.le_refl _), mSt_end] at hT5
          have hE5 : TakEnd K RB (nAll n) (mRd who fd wen v R (10 * n)) _ := hT5
          have c0 : (_ : World).cell? ⟨K, 0, none⟩ = some .nilFunc := cell_of hE5.own rfl
          have HE5 := Lib.hid hE5
          clear hM5 hT5 hE5 hqe
          have hn16 : nAll n ≤ 16 := by unfold nAll; omega
          go_wp2_with fail
          refine (takOver_yes c0).mono ?_
          rintro _ wq ⟨rfl, rfl⟩
          go_wp2_with fail
          refine (got_yes HE5.out hn16).mono ?_
          rintro _ w6 ⟨ga, rfl, hg, hb6⟩
          obtain ⟨g, cur, rfl, hgs, hgb, hgc⟩ := hg.resolve_left (fun h => by have := h.2; unfold nAll at this; omega)
          have HGB := Lib.hid hgb
          have HGC := Lib.hid hgc
          have HO6 := Lib.hid (Mod.ofBelow hb6 (fun _ => False))
          clear hg hb6 hgb hgc c0
          go_wp2_with fail
          have hb7 := (Mod.refl (fun _ => False) w6).alloc (.cells #[.slice (some ⟨g, 0, none⟩) (nAll n) (nAll n), .int .u64 0] 58)
          have hs7 := heap_alloc_at w6 (.cells #[.slice (some ⟨g, 0, none⟩) (nAll n) (nAll n), .int .u64 0] 58)
          generalize w6.alloc (.cells #[.slice (some ⟨g, 0, none⟩) (nAll n) (nAll n), .int .u64 0] 58) = w7 at hb7 hs7 ⊢
          have HO7 := Lib.hid hb7
          have HS7 := Lib.hid hs7
          have c0 : w7.cell? ⟨K, 0, none⟩ = some .nilFunc := cell_of (hb7.keep (HO6.out.keep HE5.out.own (fun h => h)) (fun h => h)) rfl
          clear hb7 hs7
          refine (takOver_yes c0).mono ?_
          rintro _ w7 ⟨rfl, rfl⟩
          have s0 : w7.cell? ⟨w6.heap.size, 0, none⟩ = some (.slice (some ⟨g, 0, none⟩) (nAll n) (nAll n)) := cell_of HS7.out rfl
          have tn : (((nAll n : Nat) : Int) != 4 * (bl : Int)) = false := by
            have := HBL.out
            simp [nAll]
            omega
          go_wp2_with fail
          have hall : Mod (fun x => w.heap.size ≤ x) w w7 := by
            have hz0 := HB0.out.size
            have hz1 := HB1.out.size
            have hz2 := HO2.out.size
            have hl := HL1.out
            refine ((((((HB0.out.weaken (fun _ _ h => h.elim)).trans (Mod.ofBelow HB1.out (fun _ => False)) (fun _ _ h => h.elim)).trans HO2.out (fun x hx h => ?_)).trans HB3.out (fun _ _ h => h.elim)).trans HMq.out (fun x hx h => ?_)).trans HO6.out (fun _ _ h => h.elim)).trans HO7.out (fun _ _ h => h.elim)
            · show w.heap.size ≤ x
              rcases h with h | h <;> omega
            · show w.heap.size ≤ x
              rcases h with (h | h) | h <;> omega
          have HALL := Lib.hid hall
          have HG7 := Lib.hid (HO7.out.keep HGB.out (fun h => h))
          have hg7 : g < w7.heap.size := lt_of_block HG7.out
          have hS7 : w6.heap.size < w7.heap.size := lt_of_block HS7.out
          clear hall s0 tn c0
          go_loopw [14] (fun i wi => Rel3 n w7 i wi) (fun i _ => n - (intOf i).toNat)
          case atStart => exact ⟨0, Nat.zero_le _, rfl, Mod.refl _ _⟩
          case round =>
            obtain ⟨i, hi, rfl, hmi⟩ := hrel
            have HMi := Lib.hid hmi
            clear hmi
            by_cases hil : i < n
            · go_wp2_with fail
              go_loopw [15] (fun j wj => Rel3 10 w7 j wj) (fun j _ => 10 - (intOf j).toNat)
              case atStart => exact ⟨0, Nat.zero_le _, rfl, HMi.out⟩
              case round =>
                obtain ⟨j, hj, rfl, hmj⟩ := hrel
                have HMj := Lib.hid hmj
                clear hmj
                by_cases hjl : j < 10
                · have D1 : ∀ k, k < n → ∀ j, j < 10 → (_ : World).cell? ⟨b, off + k * 10 + j, none⟩ = some (.int .u64 (R k j)) := fun k hk j hj => ((cell_mod HMj.out (Nat.lt_of_lt_of_le hbs HALL.out.size) (fun h => h)).trans (cell_mod HALL.out hbs (fun h => by omega))).trans (HD.out k hk j hj)
                  obtain ⟨a0, a1, a2, a3, a4, a5, a6, a7, a8, a9⟩ := Thrs.cells D1 hil
                  clear D1
                  go_wp2_with fail
                  refine (wordOf_any (R i) hjl _).mono ?_
                  rintro _ w8 ⟨rfl, hb8⟩
                  have HO8 := Lib.hid (HMj.out.trans (Mod.ofBelow hb8 (fun _ => False)) (fun _ _ h => h))
                  clear hb8 a0 a1 a2 a3 a4 a5 a6 a7 a8 a9
                  have hin : i < nAll n := by unfold nAll; omega
                  have s0 : w8.cell? ⟨w6.heap.size, 0, none⟩ = some (.slice (some ⟨g, 0, none⟩) (nAll n) (nAll n)) := cell_of (HO8.out.keep HS7.out (fun h => h)) rfl
                  have hgk := HO8.out.keep HG7.out (fun h => h)
                  have D2 : ∀ k, k < nAll n → ∀ j, j < 10 → w8.cell? ⟨g, 0 + k * 10 + j, none⟩ = some (.int .u64 (mRd who fd wen v R (10 * n) k j)) := fun k hk j hj => by
                    rw [Nat.zero_add]
                    exact cell_of hgk (HGC.out k hk j hj)
                  obtain ⟨a0, a1, a2, a3, a4, a5, a6, a7, a8, a9⟩ := Thrs.cells D2 hin
                  simp only [Nat.zero_add] at a0 a1 a2 a3 a4 a5 a6 a7 a8 a9
                  clear D2 hgk
                  have hval : mRd who fd wen v R (10 * n) i j = mVal who fd wen v R i j := by
                    unfold mRd
                    rw [if_pos (by omega)]
                  have HVal := Lib.hid hval
                  clear hval
                  have hinI : (i : Int) < (nAll n : Nat) := by omega
                  by_cases hiw : i = who
                  · have e1 : ((i : Int) == (who : Int)) = true := by simp [hiw]
                    by_cases hjf : j = fd
                    · have e2 : ((j : Int) == (fd : Int)) = true := by simp [hjf]
                      by_cases hwl : wen ≤ 1 + 10 * who + fd
                      · have HC := Lib.hid (show i = who ∧ j = fd ∧ wen ≤ 1 + 10 * who + fd from ⟨hiw, hjf, hwl⟩)
                        clear hiw hjf
                        have e3 : decide ((wen : Int) ≤ 1 + 10 * (who : Int) + (fd : Int)) = true := decide_eq_true (by omega)
                        have hmv : mRd who fd wen v R (10 * n) i j = v := by
                          rw [HVal.out]
                          unfold mVal
                          rw [if_pos HC.out]
                        have HMV := Lib.hid hmv
                        clear hmv
                        have tne : (v != v) = false := by simp
                        go_wp2_with fail
                        refine (wordOf_any (mRd who fd wen v R (10 * n) i) hjl _).mono ?_
                        rintro _ w10 ⟨rfl, hb10⟩
                        rw [HMV.out]
                        have HO10 := Lib.hid (HO8.out.trans (Mod.ofBelow hb10 (fun _ => False)) (fun _ _ h => h))
                        clear hb10 a0 a1 a2 a3 a4 a5 a6 a7 a8 a9 s0
                        go_wp2_with fail
                        go_roundw
                        case rel => exact ⟨j + 1, by omega, by go_num, HO10.out⟩
                        case measure => simp [intOf]; omega
                      · have HC := Lib.hid (show ¬ (i = who ∧ j = fd ∧ wen ≤ 1 + 10 * who + fd) from fun h => hwl h.2.2)
                        clear hiw hjf
                        have e3 : decide ((wen : Int) ≤ 1 + 10 * (who : Int) + (fd : Int)) = false := decide_eq_false (by omega)
                        have hmv : mRd who fd wen v R (10 * n) i j = R i j := by
                          rw [HVal.out]
                          unfold mVal
                          rw [if_neg HC.out]
                        have HMV := Lib.hid hmv
                        clear hmv
                        have tne : (R i j != R i j) = false := by simp
                        go_wp2_with fail
                        refine (wordOf_any (mRd who fd wen v R (10 * n) i) hjl _).mono ?_
                        rintro _ w10 ⟨rfl, hb10⟩
                        rw [HMV.out]
                        have HO10 := Lib.hid (HO8.out.trans (Mod.ofBelow hb10 (fun _ => False)) (fun _ _ h => h))
                        clear hb10 a0 a1 a2 a3 a4 a5 a6 a7 a8 a9 s0
                        go_wp2_with fail
                        go_roundw
                        case rel => exact ⟨j + 1, by omega, by go_num, HO10.out⟩
                        case measure => simp [intOf]; omega
                    · have HC := Lib.hid (show ¬ (i = who ∧ j = fd ∧ wen ≤ 1 + 10 * who + fd) from fun h => hjf h.2.1)
                      clear hiw
                      have e2 : ((j : Int) == (fd : Int)) = false := by simp; omega
                      have hmv : mRd who fd wen v R (10 * n) i j = R i j := by
                        rw [HVal.out]
                        unfold mVal
                        rw [if_neg HC.out]
                      have HMV := Lib.hid hmv
                      clear hmv
                      have tne : (R i j != R i j) = false := by simp
                      go_wp2_with fail
                      refine (wordOf_any (mRd who fd wen v R (10 * n) i) hjl _).mono ?_
                      rintro _ w10 ⟨rfl, hb10⟩
                      rw [HMV.out]
                      have HO10 := Lib.hid (HO8.out.trans (Mod.ofBelow hb10 (fun _ => False)) (fun _ _ h => h))
                      clear hb10 a0 a1 a2 a3 a4 a5 a6 a7 a8 a9 s0
                      go_wp2_with fail
                      go_roundw
                      case rel => exact ⟨j + 1, by omega, by go_num, HO10.out⟩
                      case measure => simp [intOf]; omega
                  · have HC := Lib.hid (show ¬ (i = who ∧ j = fd ∧ wen ≤ 1 + 10 * who + fd) from fun h => hiw h.1)
                    have e1 : ((i : Int) == (who : Int)) = false := by simp; omega
                    have hmv : mRd who fd wen v R (10 * n) i j = R i j := by
                      rw [HVal.out]
                      unfold mVal
                      rw [if_neg HC.out]
                    have HMV := Lib.hid hmv
                    clear hmv
                    have tne : (R i j != R i j) = false := by simp
                    go_wp2_with fail
                    refine (wordOf_any (mRd who fd wen v R (10 * n) i) hjl _).mono ?_
                    rintro _ w10 ⟨rfl, hb10⟩
                    rw [HMV.out]
                    have HO10 := Lib.hid (HO8.out.trans (Mod.ofBelow hb10 (fun _ => False)) (fun _ _ h => h))
                    clear hb10 a0 a1 a2 a3 a4 a5 a6 a7 a8 a9 s0
                    go_wp2_with fail
                    go_roundw
                    case rel => exact ⟨j + 1, by omega, by go_num, HO10.out⟩
                    case measure => simp [intOf]; omega
                · go_wp2_with fail
                  exact ⟨⟨i + 1, by omega, by go_num, HMj.out⟩, by simp [intOf]; omega⟩
            · go_wp2_with fail
              refine (lives14_any _).mono ?_
              rintro _ w9 ⟨rfl, hb9⟩
              have HB9 := Lib.hid hb9
              clear hb9
              go_wp2_with fail
              go_ret
              exact ⟨rfl, ((HALL.out.trans HMi.out (fun _ _ h => h.elim)).trans (Mod.ofBelow HB9.out (fun _ => False)) (fun _ _ h => h.elim)).below (fun i hi h => by omega)⟩
end Go.Proofs.Ytjnbkpklcmkdlaa
