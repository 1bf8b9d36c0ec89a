/- Snapshots: SnapsPlay's walk. -/
import Derived.Test.YtjnbkpklcmkdlaaSP
namespace Go.Proofs.Ytjnbkpklcmkdlaa
open Go.RowKit

def PlayRel (B M mb R K U PB : Nat) (w0 : World) (c i : Value) (wr : World) : Prop :=
  ∃ (k : Nat) (fp fpu : Nat → Prop) (RB : Nat) (f : Adr → Int) (s : Int) (L : Acc) (t : TSt), i = .int .i64 k ∧ c = .int .i64 k ∧ PlayAt B M mb R K U PB (300 + 2 * k) fp fpu RB f s L s L t t wr ∧ t.ok ∧ t.fresh ∧ t.count k ∧ 0 ≤ s ∧ s ≤ 300 + 2 * k ∧ Below B w0 wr
theorem MemAt.wf {M mb N : Nat} {f : Adr → Int} {s : Int} {L : Acc} {w : World} (h : MemAt M mb N f s L w) : 0 ≤ f bAdr := by
  have := (h.2.1.look bWf).2
  exact (wfU64 this).1
theorem thrs_nil (w : World) (R : Nat → Nat → Int) : Thrs w (.slice none 0 0) 0 R := ⟨none, 0, rfl, .inl rfl⟩
theorem PlayAt.notT {B M mb R K U PB N : Nat} {fp fpu : Nat → Prop} {RB : Nat} {f : Adr → Int} {sm sr : Int} {Lm Lr : Acc} {tp tr : TSt} {w : World} (h : PlayAt B M mb R K U PB N fp fpu RB f sm Lm sr Lr tp tr w) : ¬ tfoot M mb K RB U ∧ U < w.heap.size := by
  have hU := h.rtk.fpU
  refine ⟨fun e => ?_, h.rtk.lt U hU⟩
  rcases e with e | e
  · exact (h.dU U hU).1 (.inl e)
  · exact (h.dT U e).2.1 hU
def StpB (b : Bool) (M mb N K RB : Nat) (f : Adr → Int) (s : Int) (a : Adr) (t : TSt) (w : World) (e : Ending) (w' : World) : Prop :=
  e = .returned (.bool b) ∧ MemAt M mb (N + 1) f (wrap64 (s + 1)) (ldAcc a (f a)) w' ∧ (∃ RB', (RB' = RB ∨ w.heap.size ≤ RB') ∧ TakIs K RB' t w') ∧ Mod (tfoot M mb K RB) w w'
theorem stp_b {b : Bool} {B M mb R K U PB N : Nat} {fp fpu : Nat → Prop} {RB : Nat} {f : Adr → Int} {sm sr : Int} {Lm Lr : Acc} {tp tr : TSt} {w : World} (h : PlayAt B M mb R K U PB N fp fpu RB f sm Lm sr Lr tp tr w) (hb : (tNext f tp).over = b) (hok : tp.ok) (hno : tp.over = false) :
    Calls Try.prog 16 #[.pointer (some ⟨K, 0, none⟩), .pointer (some ⟨M, 0, none⟩)] w (StpB b M mb N K RB f sm (tAsk tp) (tNext f tp) w) := by
  have n1 := (h.dT K (.inl rfl)).1
  have n2 := (h.dT RB (.inr rfl)).1
  refine (stp_any h.mem h.tak hok hno (fun e => n1 (.inl (.inl e))) (fun e => n1 (.inl (.inr e))) (fun e => n2 (.inl (.inl e))) (fun e => n2 (.inl (.inr e))) h.mem.wf).mono ?_
  rintro e w' ⟨he, hM, hT, hm⟩
  rw [hb] at he
  exact ⟨he, hM, hT, hm⟩
theorem TakIs.yes {K RB : Nat} {t : TSt} {w : World} (h : TakIs K RB t w) (ho : t.over = true) : w.cell? ⟨K, 0, none⟩ = some .nilFunc := by
  cases t with
  | start => cases ho
  | on n i j R => cases ho
  | fin n R => exact cell_of (show TakEnd K RB n R w from h).own rfl
/-- A slice got, in a block made since B. -/
def GotAt (B : Nat) (a : Option Addr) (n : Nat) (R : Nat → Nat → Int) (w : World) : Prop :=
  (a = none ∧ n = 0) ∨ ∃ g cur, a = some ⟨g, 0, none⟩ ∧ B ≤ g ∧ w.heap[g]? = some (.cells cur 52) ∧ ∀ k, k < n → ∀ j, j < 10 → cur[k * 10 + j]? = some (.int .u64 (R k j))
theorem GotAt.thrs {B : Nat} {a : Option Addr} {n : Nat} {R : Nat → Nat → Int} {w : World} (h : GotAt B a n R w) : Thrs w (.slice a n n) n R := by
  refine ⟨a, n, rfl, ?_⟩
  rcases h with ⟨_, h⟩ | ⟨g, cur, h1, h2, h3, h4⟩
  · exact .inl h
  · exact .inr ⟨g, 0, h1, lt_of_block h3, fun k hk j hj => by rw [Nat.zero_add]; exact cell_of h3 (h4 k hk j hj)⟩
theorem Thrs.still {w w' : World} {v : Value} {n : Nat} {R : Nat → Nat → Int} (h : Thrs w v n R) (hm : Mod (fun _ => False) w w') : Thrs w' v n R := by
  obtain ⟨a, cap, rfl, h⟩ := h
  refine ⟨a, cap, rfl, h.imp id ?_⟩
  rintro ⟨b, off, rfl, hb, h⟩
  exact ⟨b, off, rfl, Nat.lt_of_lt_of_le hb hm.size, fun k hk j hj => by rw [cell_mod hm hb (fun h => h)]; exact h k hk j hj⟩
theorem RTk.thrs {fp : Nat → Prop} {U : Nat} {v : Value} {line : Int} {n : Nat} {R : Nat → Nat → Int} {b fld : Int} {w : World} (h : RTk fp U v line n R b fld w) : ∃ a c, v = .slice a n c ∧ Thrs w (.slice a n c) n R := by
  obtain ⟨a, cap, hv, _, _, hg⟩ := got_of_row h.row
  refine ⟨a, cap, hv, a, cap, rfl, ?_⟩
  rcases hg with ⟨_, h0, _⟩ | ⟨g, cur, h1, h2, h3, h4⟩
  · exact .inl h0
  · exact .inr ⟨g, 0, h1, lt_of_block h3, fun k hk j hj => by rw [Nat.zero_add]; exact cell_of h3 (h4 k hk j hj)⟩
theorem lt_of_some2 {c : Array Value} {i : Nat} {v : Value} (h : c[i]? = some v) : i < c.size := (Array.getElem?_eq_some_iff.1 h).1
def OwnRel (a : Option Addr) (n : Nat) (w1 : World) (i : Value) (wr : World) : Prop :=
  ∃ k : Nat, k ≤ n ∧ i = .int .i64 k ∧ Mod (fun x => a = some ⟨x, 0, none⟩) w1 wr ∧ ∀ g, a = some ⟨g, 0, none⟩ → ∃ cur, wr.heap[g]? = some (.cells cur 52) ∧ ∀ j, j < n → ∃ z, cur[j * 10]? = some z
set_option maxHeartbeats 8000000 in
set_option maxRecDepth 100000 in
theorem play_walk (w : World) {v1 v2 : Value} {l1 l2 : Ws} (h1 : Sts w v1 l1) (hw1 : StsWf l1) (hn1 : l1.length ≤ 300) (h2 : Sts w v2 l2) (hw2 : StsWf l2) (hn2 : l2.length ≤ 400) :
    Calls Try.prog 5 #[v1, v2] w (LivesPost w) := by
  have HS1 := Lib.hid h1
  have HW1 := Lib.hid hw1
  have HW2 := Lib.hid hw2
  obtain ⟨a2, c2, rfl, h2⟩ := h2
  obtain ⟨a1, c1, e1, _⟩ := h1
  subst e1
  have HS2 := Lib.hid h2
  have d1 : decide ((l1.length : Int) > 300) = false := decide_eq_false (p := 300 < (l1.length : Int)) (by omega)
  have d2 : decide ((l2.length : Int) > 400) = false := decide_eq_false (p := 400 < (l2.length : Int)) (by omega)
  clear h2 hw1 hw2
  go_enter Try.func5, Try.ntmps5
  go_wp2_with fail
  refine (begin_any HS1.out HW1.out hn1).mono ?_
  rintro _ w1 ⟨M, mb, R, fp0, f0, s0, L0, rfl, hp, hb⟩
  have HP := Lib.hid hp
  have HB := Lib.hid hb
  clear hp hb
  go_wp2_with fail
  have hbp := (Mod.refl (fun _ => False) w1).alloc (.cells #[.pointer (some ⟨M, 0, none⟩), .pointer (some ⟨R, 0, none⟩)] 65)
  have hsp := heap_alloc_at w1 (.cells #[.pointer (some ⟨M, 0, none⟩), .pointer (some ⟨R, 0, none⟩)] 65)
  generalize w1.alloc (.cells #[.pointer (some ⟨M, 0, none⟩), .pointer (some ⟨R, 0, none⟩)] 65) = wp at hbp hsp ⊢
  have HBP := Lib.hid hbp
  have HSP := Lib.hid hsp
  clear hbp hsp
  refine (newTak_any wp).mono ?_
  rintro _ wt ⟨K, rfl, hK, hKs, hbt⟩
  have HK := Lib.hid hK
  have HKs := Lib.hid hKs
  have HBT := Lib.hid hbt
  clear hK hKs hbt
  go_wp2_with fail
  refine (rnew_any wt).mono ?_
  rintro _ wu ⟨U, rfl, hU, hUs, hbu⟩
  have HU := Lib.hid hU
  have HUs := Lib.hid hUs
  have HBU := Lib.hid hbu
  clear hU hUs hbu
  have hplay : PlayAt w.heap.size M mb R K U w1.heap.size 300 fp0 (fun x => x = U) K f0 s0 L0 s0 L0 .start .start wu := by
    have z1 := HB.out.size
    have z2 := HBP.out.size
    have z3 := HBT.out.size
    have z4 := HBU.out.size
    have zp := lt_of_block HSP.out
    have zk := HKs.out
    have zu := HUs.out
    have zK := lt_of_block HK.out
    have hfl : ∀ x, pfoot M mb fp0 x → x < w1.heap.size := fun x hx => by
      obtain ⟨l1, l2⟩ := HP.out.at'.mem.lt
      rcases hx with (e | e) | e
      · rw [e]; exact l1
      · rw [e]; exact l2
      · exact HP.out.at'.ref.lt x e
    have m1 : Mod (fun _ => False) w1 wu := (HBP.out.trans (Mod.ofBelow HBT.out _) (fun _ _ h => h)).trans (Mod.ofBelow HBU.out (fun _ => False)) (fun _ _ h => h)
    refine ⟨HP.out.at'.mem.mod m1 (fun h => h) (fun h => h), HP.out.at'.ref.keep m1 (fun _ _ h => h), ⟨(Mod.ofBelow HBU.out (fun _ => False)).keep HK.out (fun h => h), rfl⟩, HU.out, (Mod.ofBelow HBU.out (fun _ => False)).keep ((Mod.ofBelow HBT.out (fun _ => False)).keep HSP.out (fun h => h)) (fun h => h), ⟨HP.out.at'.noM, HP.out.at'.nom⟩, fun x hx => ?_, fun x hx => ?_, ⟨fun hf => by have := hfl _ hf; omega, by omega⟩, fun x hx => ?_⟩
    · have e : x = K := hx.elim id id
      subst e
      exact ⟨fun hf => by have := hfl _ hf; omega, fun hf => by omega, by omega, by omega⟩
    · subst hx
      exact ⟨fun hf => by have := hfl _ hf; omega, by omega, by omega⟩
    · rcases hx with (e | e) | e
      · rw [e]; exact HP.out.geM
      · rw [e]; exact HP.out.gem
      · exact HP.out.gef x e
  have HPl := Lib.hid hplay
  have hbu0 : Below w.heap.size w wu := by
    have z1 := HB.out.size
    have z2 := HBP.out.size
    have z3 := HBT.out.size
    exact ((HB.out.trans (HBP.out.belowAt z1 (fun i hi h => h))).trans (HBT.out.mono (by omega))).trans (HBU.out.mono (by omega))
  have HBu0 := Lib.hid hbu0
  have HS0 : Hid (0 ≤ s0 ∧ s0 ≤ 300) := ⟨HP.out.s0, HP.out.s1⟩
  clear hplay hbu0
  go_wp2_with fail
  go_loopw [8, 9] (fun c i wr => PlayRel w.heap.size M mb R K U w1.heap.size w c i wr) (fun _ i _ => 200 - (intOf i).toNat)
  case atStart => exact ⟨0, fp0, _, K, f0, s0, L0, .start, rfl, rfl, HPl.out, trivial, trivial, rfl, HS0.out.1, by have := HS0.out.2; omega, HBu0.out⟩
  case round =>
    obtain ⟨k, fp, fpu, RB, f, s, L, t, rfl, rfl, hpl, hok, hfr, hct, hs0, hs1, hbl⟩ := hrel
    have HPL := Lib.hid hpl
    have HOK := Lib.hid hok
    have HFR := Lib.hid hfr
    have HCT := Lib.hid hct
    have HBL := Lib.hid hbl
    have hk : k < 170 := TSt.count_lt hct hok
    obtain ⟨l, hl0, hl1, hl2⟩ := hpl.rtk.line
    have hdk : decide ((k : Int) < 200) = true := decide_eq_true (by omega)
    have HL1 := Lib.hid hl1
    clear hpl hok hfr hct hbl hl1
    by_cases hov : t.over = true
    · rw [hov] at hl2
      have hl3 : decide (l > 0) = false := hl2
      have HOV := Lib.hid hov
      clear hl2 hov
      obtain ⟨n, R', rfl⟩ : ∃ n R', t = .fin n R' := by
        have h := HOV.out
        cases t with
        | start => cases h
        | on n i j R => cases h
        | fin n R => exact ⟨n, R, rfl⟩
      have hn16 : n ≤ 16 := HOK.out
      have hTE : TakEnd K RB n R' wr := HPL.out.tak
      obtain ⟨vv, hRT⟩ := HPL.out.rtk
      have hl0' : l = 0 := by
        have h0 : wr.cell? ⟨U, 0, none⟩ = some (.int .i64 0) := cell_of hRT.own rfl
        rw [hl0] at h0
        simpa using h0
      subst hl0'
      obtain ⟨av, cv, rfl, hThv⟩ := hRT.thrs
      have HTE := Lib.hid hTE
      have HRT := Lib.hid hRT
      have HThv := Lib.hid hThv
      clear hTE hRT hThv
      go_wp2_with fail
      refine (got_yes HTE.out hn16).mono ?_
      rintro _ w4 ⟨ga, rfl, hg, hb4⟩
      have HG : Hid (GotAt wr.heap.size ga n R' w4) := hg
      have HO4 := Lib.hid (Mod.ofBelow hb4 (fun _ => False))
      clear hg hb4 hl0
      go_wp2_with fail
      have hbs := (Mod.refl (fun _ => False) w4).alloc (.cells #[.slice ga n n, .int .u64 0] 58)
      have hss := heap_alloc_at w4 (.cells #[.slice ga n n, .int .u64 0] 58)
      generalize w4.alloc (.cells #[.slice ga n n, .int .u64 0] 58) = w6 at hbs hss ⊢
      have HO6 := Lib.hid (HO4.out.trans hbs (fun _ _ h => h))
      have HSS := Lib.hid hss
      have HG6 : Hid (GotAt wr.heap.size ga n R' w6) := HG.out.imp id (fun ⟨g, cur, e1, e2, e3, e4⟩ => ⟨g, cur, e1, e2, hbs.keep e3 (fun h => h), e4⟩)
      have HF : Hid (∀ wa, Mod (fun _ => False) w6 wa → (wa.cell? ⟨U, 0, none⟩ = some (.int .i64 0) ∧ wa.cell? ⟨U, 1, none⟩ = some (.slice av n cv) ∧ wa.cell? ⟨U, 2, none⟩ = some (.int .u64 0) ∧ wa.cell? ⟨w4.heap.size, 0, none⟩ = some (.slice ga n n) ∧ wa.cell? ⟨w4.heap.size, 1, none⟩ = some (.int .u64 0) ∧ wa.cell? ⟨w1.heap.size, 0, none⟩ = some (.pointer (some ⟨M, 0, none⟩)) ∧ wa.cell? ⟨w1.heap.size, 1, none⟩ = some (.pointer (some ⟨R, 0, none⟩)))) := fun wa hm => by
        have e1 := hm.keep (HO6.out.keep HRT.out.own (fun h => h)) (fun h => h)
        have e2 := hm.keep HSS.out (fun h => h)
        have e3 := hm.keep (HO6.out.keep HPL.out.pb (fun h => h)) (fun h => h)
        exact ⟨cell_of e1 rfl, cell_of e1 rfl, cell_of e1 rfl, cell_of e2 rfl, cell_of e2 rfl, cell_of e3 rfl, cell_of e3 rfl⟩
      have F1 := HF.out w6 (Mod.refl _ _)
      have hck : stepsOf R' n = k := (show k = stepsOf R' n from HCT.out).symm
      have HCK := Lib.hid hck
      have HPLA := Lib.hid HPL.out
      clear hbs hss hck
      go_region_held3 (fun wa => wa.cell? ⟨U, 0, none⟩ = some (.int .i64 0) ∧ wa.cell? ⟨U, 1, none⟩ = some (.slice av n cv) ∧ wa.cell? ⟨U, 2, none⟩ = some (.int .u64 0) ∧ wa.cell? ⟨w4.heap.size, 0, none⟩ = some (.slice ga n n) ∧ wa.cell? ⟨w4.heap.size, 1, none⟩ = some (.int .u64 0) ∧ wa.cell? ⟨w1.heap.size, 0, none⟩ = some (.pointer (some ⟨M, 0, none⟩)) ∧ wa.cell? ⟨w1.heap.size, 1, none⟩ = some (.pointer (some ⟨R, 0, none⟩))) (first | exact F1 | exact F2 | exact F3 | exact F4)
        (first
          | (go_at_call 22; refine (same_any ((HG6.out.thrs).still (Mod.refl (fun _ => False) w6).drew) ((HThv.out.still HO6.out).still (Mod.refl (fun _ => False) w6).drew) (by omega)).mono ?_; rintro _ w7 ⟨rfl, hm7⟩
             have HB7 : Hid (Mod (fun _ => False) w6 w7) := ((Mod.refl (fun _ => False) w6).drew).trans hm7 (fun _ _ h => h)
             have F2 := HF.out w7 HB7.out
             clear hm7)
          | (go_at_call 25; refine (snapSteps_any (HG6.out.thrs.still HB7.out) (by omega)).mono ?_; rintro _ w8 ⟨rfl, hm8⟩
             rw [HCK.out]
             have HB8 : Hid (Mod (fun _ => False) w6 w8) := HB7.out.trans hm8 (fun _ _ h => h)
             have F3 := HF.out w8 HB8.out
             have c8 : w8.cell? ⟨K, 0, none⟩ = some .nilFunc := cell_of (HB8.out.keep (HO6.out.keep HTE.out.own (fun h => h)) (fun h => h)) rfl
             have HP8 := Lib.hid ((HPLA.out.keep HO6.out (fun _ _ _ h => h)).keep HB8.out (fun _ _ _ h => h))
             clear hm8)
          | (go_at_call 16; refine (stp_none c8).mono ?_; rintro _ _ ⟨rfl, rfl⟩)
          | (go_at_call 24; refine (psame_any ⟨HP8.out.mem, HP8.out.ref, HP8.out.dM.1, HP8.out.dM.2⟩).mono ?_; rintro _ w9 ⟨rfl, hm9⟩
             have HB9 : Hid (Mod (fun _ => False) w6 w9) := HB8.out.trans hm9 (fun _ _ h => h)
             have F4 := HF.out w9 HB9.out
             clear hm9))
      go_wp2_with fail
      have HO9 := Lib.hid (HO6.out.trans HB9.out (fun _ _ h => h))
      have HS9 := Lib.hid (HB9.out.keep HSS.out (fun h => h))
      have hgot : ∀ g, ga = some ⟨g, 0, none⟩ → wr.heap.size ≤ g ∧ g < w4.heap.size ∧ ∃ cur, w9.heap[g]? = some (.cells cur 52) ∧ ∀ j, j < n → ∃ z, cur[j * 10]? = some z := fun g hg => by
        rcases HG.out with ⟨h1, _⟩ | ⟨g', cur, e1, e2, e3, e4⟩
        · rw [h1] at hg; cases hg
        · rw [e1] at hg
          cases hg
          have e5 := HG6.out
          rcases e5 with ⟨h1, _⟩ | ⟨g', cur', f1, f2, f3, f4⟩
          · rw [h1] at e1; cases e1
          · rw [e1] at f1
            cases f1
            exact ⟨e2, lt_of_block e3, cur', HB9.out.keep f3 (fun h => h), fun j hj => ⟨_, f4 j hj 0 (by decide)⟩⟩
      have HGot := Lib.hid hgot
      have hsome : 0 < n → ∃ g, ga = some ⟨g, 0, none⟩ := fun hn => by
        rcases HG.out with ⟨_, h2⟩ | ⟨g', cur, e1, _⟩
        · omega
        · exact ⟨g', e1⟩
      have HSome := Lib.hid hsome
      clear hgot hsome F1 F2 F3 F4 c8
      obtain ⟨wo, rfl⟩ : ∃ wo : World, wo = wr := ⟨_, rfl⟩
      go_loopw [11] (fun i wz => OwnRel ga n w9 i wz) (fun i _ => n - (intOf i).toNat)
      case atStart => exact ⟨0, Nat.zero_le _, rfl, Mod.refl _ _, fun g hg => (HGot.out g hg).2.2⟩
      case round =>
        obtain ⟨i, hi, rfl, hmz, hcz⟩ := hrel
        have HMZ := Lib.hid hmz
        have HCZ := Lib.hid hcz
        have hSB : ¬ ga = some ⟨w4.heap.size, 0, none⟩ := fun e => by have := (HGot.out _ e).2.1; omega
        have s0 : (_ : World).cell? ⟨w4.heap.size, 0, none⟩ = some (.slice ga n n) := cell_of (hmz.keep HS9.out hSB) rfl
        clear hmz hcz
        by_cases hin : i < n
        · obtain ⟨g, rfl⟩ := HSome.out (by omega)
          obtain ⟨cur, hcur, hz⟩ := HCZ.out g rfl
          obtain ⟨z, hz1⟩ := hz i hin
          have a0 : (_ : World).cell? ⟨g, i * 10, none⟩ = some z := cell_of hcur hz1
          have f0 := free_of (i := i * 10) hcur
          have hiI : (i : Int) < (n : Int) := by omega
          have hi0 : (0 : Int) ≤ (i : Int) := by omega
          have HCur := Lib.hid hcur
          have HZZ := Lib.hid hz
          clear hcur hz hz1
          go_wp2_with fail
          go_roundw
          case rel =>
            refine ⟨i + 1, by omega, by go_num, HMZ.out.setCell (fun _ => rfl) _, fun g' hg' => ?_⟩
            cases hg'
            refine ⟨_, heap_setCell_same HCur.out _, fun j hj => ?_⟩
            by_cases e : i * 10 = j * 10
            · obtain ⟨z2, hz2⟩ := HZZ.out j hj
              have hlt := lt_of_some2 hz2
              exact ⟨_, by rw [e, Array.getElem?_setIfInBounds_self_of_lt hlt]⟩
            · obtain ⟨z2, hz2⟩ := HZZ.out j hj
              exact ⟨z2, by rw [Array.getElem?_setIfInBounds_ne e]; exact hz2⟩
          case measure => simp [intOf]; omega
        · go_wp2_with fail
          have hall : Mod (fun x => ga = some ⟨x, 0, none⟩) wo _ := (HO9.out.weaken (fun _ _ h => h.elim)).trans HMZ.out (fun _ _ h => h)
          have hnot : ∀ x, x < wo.heap.size → ¬ ga = some ⟨x, 0, none⟩ := fun x hx e => by have := (HGot.out _ e).1; omega
          have HPE := Lib.hid (HPLA.out.keep hall (fun x _ hx => hnot x hx))
          have HTE2 : Hid (TakEnd K RB n R' _) := HPE.out.tak
          have hRT2 := HRT.out.keep hall (fun x hx => hnot x (HRT.out.lt x hx))
          have HRT2 := Lib.hid hRT2
          obtain ⟨a3, c3, e3, hTh3⟩ := hRT2.thrs
          cases e3
          have HTh3 := Lib.hid hTh3
          have HBE : Hid (Below w.heap.size w _) := HBL.out.trans (hall.belowAt HBL.out.size (fun x hx => hnot x (Nat.lt_of_lt_of_le hx HBL.out.size)))
          have u1 : (_ : World).cell? ⟨U, 1, none⟩ = some (.slice av n cv) := cell_of hRT2.own rfl
          have u2 : (_ : World).cell? ⟨U, 2, none⟩ = some (.int .u64 0) := cell_of hRT2.own rfl
          clear hall hnot hRT2 hTh3 s0
          have HTEd : Hid (TakEnd K RB n R' wr.drew) := (TakIs.keep (t := .fin n R') HTE2.out (Mod.refl (fun _ => False) wr).drew (fun h => h) (fun h => h) : TakIs K RB (.fin n R') wr.drew)
          have hUz : U < wr.heap.size := World.block_lt_of_cell? _ _ u1
          go_region_held3 (fun wa => wa.cell? ⟨U, 1, none⟩ = some (.slice av n cv) ∧ wa.cell? ⟨U, 2, none⟩ = some (.int .u64 0)) (first | exact ⟨u1, u2⟩ | exact ⟨t1, t2⟩ | exact ⟨t3, t4⟩ | exact ⟨t5, t6⟩)
            (first
              | (go_at_call 17; refine (got_yes HTEd.out hn16).mono ?_; rintro _ w11 ⟨gb, rfl, hg11, hb11⟩
                 have HG11 : Hid (GotAt wr.heap.size gb n R' w11) := hg11
                 have HO11 : Hid (Mod (fun _ => False) wr w11) := ((Mod.refl (fun _ => False) wr).drew).trans (Mod.ofBelow hb11 (fun _ => False)) (fun _ _ h => h)
                 have t1 := (cell_mod HO11.out hUz (fun h => h)).trans u1
                 have t2 := (cell_mod HO11.out hUz (fun h => h)).trans u2
                 clear hg11 hb11)
              | (go_at_call 22; refine (same_any HG11.out.thrs (HTh3.out.still HO11.out) (by omega)).mono ?_; rintro _ w12 ⟨rfl, hm12⟩
                 have HO12 : Hid (Mod (fun _ => False) wr w12) := HO11.out.trans hm12 (fun _ _ h => h)
                 have t3 := (cell_mod HO12.out hUz (fun h => h)).trans u1
                 have t4 := (cell_mod HO12.out hUz (fun h => h)).trans u2
                 clear hm12)
              | (go_at_call 12; refine (lives14_any _).mono ?_; rintro _ w13 ⟨rfl, hb13⟩
                 have HO13 : Hid (Mod (fun _ => False) wr w13) := HO12.out.trans (Mod.ofBelow hb13 (fun _ => False)) (fun _ _ h => h)
                 have t5 := (cell_mod HO13.out hUz (fun h => h)).trans u1
                 have t6 := (cell_mod HO13.out hUz (fun h => h)).trans u2
                 clear hb13))
          go_wp2_with fail
          go_ret
          exact ⟨rfl, HBE.out.trans (HO13.out.belowAt HBE.out.size (fun _ _ h => h))⟩
    · have hno : t.over = false := by simpa using hov
      rw [hno] at hl2
      have hl3 : decide (l > 0) = true := hl2
      have HNO := Lib.hid hno
      clear hl2 hov hno
      by_cases hkb : k < l2.length
      · have hkd : decide ((k : Int) < (l2.length : Int)) = true := decide_eq_true (by omega)
        obtain ⟨b2, off2, rfl, hbs, D0⟩ := HS2.out.resolve_left (fun h => by rw [h] at hkb; simp at hkb)
        obtain ⟨x0, x1, x2, x3⟩ := D0 k hkb
        obtain ⟨ha, hv⟩ := HW2.out k hkb
        obtain ⟨⟨⟨ka, aa, fa⟩, nv⟩, he⟩ : ∃ e, l2[k] = e := ⟨_, rfl⟩
        rw [he] at x0 x1 x2 x3 ha hv
        simp only at x0 x1 x2 x3 ha hv
        have y0 := ((bcell HBL.out).1 b2 (off2 + k * 4) hbs).trans x0
        have y1 := ((bcell HBL.out).1 b2 (off2 + k * 4 + 1) hbs).trans x1
        have y2 := ((bcell HBL.out).1 b2 (off2 + k * 4 + 2) hbs).trans x2
        have y3 := ((bcell HBL.out).1 b2 (off2 + k * 4 + 3) hbs).trans x3
        have p0 := cell_of (i := 0) HPL.out.pb rfl
        have p1 := cell_of (i := 1) HPL.out.pb rfl
        have HA := Lib.hid ha
        have HVW := Lib.hid hv
        clear D0 x0 x1 x2 x3 he ha hv
        go_wp2_with fail
        go_still_tail 5, (by kernel_rfl)
        change wpList _ _ _ _ _ wr.drew
        have HD : Hid (Mod (fun _ => False) wr wr.drew) := (Mod.refl _ _).drew
        clear y0 y1 y2 y3 p0 p1
        generalize wr.drew = wd at HD ⊢
        have HPD := Lib.hid (HPL.out.keep HD.out (fun _ _ _ h => h))
        have HZD := Lib.hid (Nat.le_trans HBL.out.size HD.out.size)
        go_wp2_with fail
        refine (pstore_any ⟨HPD.out.mem, HPD.out.ref, HPD.out.dM.1, HPD.out.dM.2⟩ (by omega) (a := (ka, aa, fa)) HA.out HVW.out).mono ?_
        rintro _ w4 ⟨rfl, fp4, hp4, ht4⟩
        have hws : wrap64 (s + 1) = s + 1 := by unfold wrap64; omega
        rw [hws] at hp4
        have hq4 := HPD.out.stored HZD.out hp4 ht4
        have HPS := Lib.hid hq4.1
        have HBS : Hid (Below w.heap.size w w4) := (HBL.out.trans ((HD.out.below (fun _ _ h => h)).mono HBL.out.size)).trans hq4.2
        have HZS := Lib.hid HBS.out.size
        clear hp4 ht4 hq4 hws
        go_wp2_with fail
        obtain ⟨fn, fi, ca, g0⟩ := HPS.out.tak.no HNO.out
        refine (got_no g0).mono ?_
        rintro _ w5 ⟨rfl, hb5⟩
        have HP5 := Lib.hid (HPS.out.keep (Mod.ofBelow hb5 (fun _ => False)) (fun _ _ _ h => h))
        have HZ5 := Lib.hid (Nat.le_trans HZS.out hb5.size)
        have HBL5 : Hid (Below w.heap.size w w5) := HBS.out.trans (hb5.mono HZS.out)
        clear hb5 g0
        go_wp2_with fail
        refine (same_any (thrs_nil w5 (fun _ _ => 0)) (thrs_nil w5 (fun _ _ => 0)) (by decide)).mono ?_
        rintro _ w6 ⟨rfl, hm6⟩
        have HP6 := Lib.hid (HP5.out.keep hm6 (fun _ _ _ h => h))
        have HZ6 := Lib.hid (Nat.le_trans HZ5.out hm6.size)
        have HBL6 : Hid (Below w.heap.size w w6) := HBL5.out.trans (hm6.belowAt HZ5.out (fun _ _ h => h))
        have pb1 : w6.cell? ⟨w1.heap.size, 1, none⟩ = some (.pointer (some ⟨R, 0, none⟩)) := cell_of HP6.out.pb rfl
        clear hm6
        go_wp2_with fail
        refine (rstp_any HP6.out.ref (by omega) HP6.out.rtk (fun x hx hf => (HP6.out.dU x hx).1 (.inr hf)) HOK.out HFR.out HNO.out HP6.out.mem.wf).mono ?_
        rintro _ w7 ⟨rfl, hr7, fpu7, hu7, ht7, hn7⟩
        have hp7 := HP6.out.refStep HZ6.out hr7 hu7 ht7 hn7
        have HP7 := Lib.hid hp7.1
        have HBL7 : Hid (Below w.heap.size w w7) := HBL6.out.trans hp7.2
        have HZ7 := Lib.hid HBL7.out.size
        clear hr7 hu7 ht7 hn7 hp7 pb1
        have HP7d := Lib.hid (HP7.out.keep (Mod.refl (fun _ => False) w7).drew (fun _ _ _ h => h))
        have p0 : w7.cell? ⟨w1.heap.size, 0, none⟩ = some (.pointer (some ⟨M, 0, none⟩)) := cell_of HP7.out.pb rfl
        have p1 : w7.cell? ⟨w1.heap.size, 1, none⟩ = some (.pointer (some ⟨R, 0, none⟩)) := cell_of HP7.out.pb rfl
        obtain ⟨l7, u0, hl7, _⟩ := HP7.out.rtk.line
        have hwr : wrap64 ((s + 1) + 1) = (s + 1) + 1 := by unfold wrap64; omega
        have HWR := Lib.hid hwr
        clear hwr
        go_wp2_with fail
        cases hbo : (tNext (wordsOf f (ka, aa, fa) nv true) t).over with
        | false =>
          rw [hbo] at hl7
          have HBO := Lib.hid hbo
          clear hbo
          go_region_held3 (fun wa => wa.cell? ⟨w1.heap.size, 0, none⟩ = some (.pointer (some ⟨M, 0, none⟩)) ∧ wa.cell? ⟨w1.heap.size, 1, none⟩ = some (.pointer (some ⟨R, 0, none⟩)) ∧ wa.cell? ⟨U, 0, none⟩ = some (.int .i64 l7)) (first | exact ⟨p0, p1, u0⟩ | exact ⟨q0, q1, v0⟩ | exact ⟨r0, r1, x0⟩)
            (first
              | (go_at_call 16; refine (stp_b HP7d.out HBO.out HOK.out HNO.out).mono ?_; rintro _ w8 ⟨rfl, hM8, ⟨RB8, hR8, hT8⟩, hm8⟩
                 have hp8 := HP7d.out.progStep HZ7.out hM8 hT8 hR8 hm8
                 have HP8 := Lib.hid hp8.1
                 have HBL8 : Hid (Below w.heap.size w w8) := HBL7.out.trans (((Mod.refl (fun _ => False) w7).drew.belowAt HZ7.out (fun _ _ h => h)).trans hp8.2)
                 have q0 : w8.cell? ⟨w1.heap.size, 0, none⟩ = some (.pointer (some ⟨M, 0, none⟩)) := cell_of HP8.out.pb rfl
                 have q1 : w8.cell? ⟨w1.heap.size, 1, none⟩ = some (.pointer (some ⟨R, 0, none⟩)) := cell_of HP8.out.pb rfl
                 have v0 : w8.cell? ⟨U, 0, none⟩ = some (.int .i64 l7) := (cell_mod hm8 HP7d.out.notT.2 HP7d.out.notT.1).trans u0
                 obtain ⟨fn8, fi8, ca8, c8⟩ := HP8.out.tak.no HBO.out
                 clear hM8 hT8 hR8 hm8 hp8)
              | (go_at_call 15; refine (takOver_no c8).mono ?_; rintro _ _ ⟨rfl, rfl⟩)
              | (go_at_call 24; refine (psame_any ⟨HP8.out.mem, HP8.out.ref, HP8.out.dM.1, HP8.out.dM.2⟩).mono ?_; rintro _ w9 ⟨rfl, hm9⟩
                 have HP9 := Lib.hid (HP8.out.keep hm9 (fun _ _ _ h => h))
                 have HBL9 : Hid (Below w.heap.size w w9) := HBL8.out.trans (hm9.belowAt HBL8.out.size (fun _ _ h => h))
                 have r0 : w9.cell? ⟨w1.heap.size, 0, none⟩ = some (.pointer (some ⟨M, 0, none⟩)) := cell_of HP9.out.pb rfl
                 have r1 : w9.cell? ⟨w1.heap.size, 1, none⟩ = some (.pointer (some ⟨R, 0, none⟩)) := cell_of HP9.out.pb rfl
                 have x0 : w9.cell? ⟨U, 0, none⟩ = some (.int .i64 l7) := (cell_mod hm9 (World.block_lt_of_cell? _ _ v0) (fun h => h)).trans v0
                 clear hm9))
          go_wp2_with fail
          go_roundw
          case rel =>
            have h9 := HP9.out
            rw [HWR.out] at h9
            exact ⟨k + 1, _, _, _, _, _, _, _, by go_num, by go_num, h9, TSt.ok_next HOK.out, TSt.fresh_next HFR.out, TSt.count_next HCT.out HOK.out HNO.out, by omega, by omega, HBL9.out⟩
          case measure => simp [intOf]; omega
        | true =>
          rw [hbo] at hl7
          have HBO := Lib.hid hbo
          clear hbo
          go_region_held3 (fun wa => wa.cell? ⟨w1.heap.size, 0, none⟩ = some (.pointer (some ⟨M, 0, none⟩)) ∧ wa.cell? ⟨w1.heap.size, 1, none⟩ = some (.pointer (some ⟨R, 0, none⟩)) ∧ wa.cell? ⟨U, 0, none⟩ = some (.int .i64 l7)) (first | exact ⟨p0, p1, u0⟩ | exact ⟨q0, q1, v0⟩ | exact ⟨r0, r1, x0⟩)
            (first
              | (go_at_call 16; refine (stp_b HP7d.out HBO.out HOK.out HNO.out).mono ?_; rintro _ w8 ⟨rfl, hM8, ⟨RB8, hR8, hT8⟩, hm8⟩
                 have hp8 := HP7d.out.progStep HZ7.out hM8 hT8 hR8 hm8
                 have HP8 := Lib.hid hp8.1
                 have HBL8 : Hid (Below w.heap.size w w8) := HBL7.out.trans (((Mod.refl (fun _ => False) w7).drew.belowAt HZ7.out (fun _ _ h => h)).trans hp8.2)
                 have q0 : w8.cell? ⟨w1.heap.size, 0, none⟩ = some (.pointer (some ⟨M, 0, none⟩)) := cell_of HP8.out.pb rfl
                 have q1 : w8.cell? ⟨w1.heap.size, 1, none⟩ = some (.pointer (some ⟨R, 0, none⟩)) := cell_of HP8.out.pb rfl
                 have v0 : w8.cell? ⟨U, 0, none⟩ = some (.int .i64 l7) := (cell_mod hm8 HP7d.out.notT.2 HP7d.out.notT.1).trans u0
                 have c8 := HP8.out.tak.yes HBO.out
                 clear hM8 hT8 hR8 hm8 hp8)
              | (go_at_call 15; refine (takOver_yes c8).mono ?_; rintro _ _ ⟨rfl, rfl⟩)
              | (go_at_call 24; refine (psame_any ⟨HP8.out.mem, HP8.out.ref, HP8.out.dM.1, HP8.out.dM.2⟩).mono ?_; rintro _ w9 ⟨rfl, hm9⟩
                 have HP9 := Lib.hid (HP8.out.keep hm9 (fun _ _ _ h => h))
                 have HBL9 : Hid (Below w.heap.size w w9) := HBL8.out.trans (hm9.belowAt HBL8.out.size (fun _ _ h => h))
                 have r0 : w9.cell? ⟨w1.heap.size, 0, none⟩ = some (.pointer (some ⟨M, 0, none⟩)) := cell_of HP9.out.pb rfl
                 have r1 : w9.cell? ⟨w1.heap.size, 1, none⟩ = some (.pointer (some ⟨R, 0, none⟩)) := cell_of HP9.out.pb rfl
                 have x0 : w9.cell? ⟨U, 0, none⟩ = some (.int .i64 l7) := (cell_mod hm9 (World.block_lt_of_cell? _ _ v0) (fun h => h)).trans v0
                 clear hm9))
          go_wp2_with fail
          go_roundw
          case rel =>
            have h9 := HP9.out
            rw [HWR.out] at h9
            exact ⟨k + 1, _, _, _, _, _, _, _, by go_num, by go_num, h9, TSt.ok_next HOK.out, TSt.fresh_next HFR.out, TSt.count_next HCT.out HOK.out HNO.out, by omega, by omega, HBL9.out⟩
          case measure => simp [intOf]; omega
      · have hkd : decide ((k : Int) < (l2.length : Int)) = false := decide_eq_false (by omega)
        go_wp2_with fail
        have HZL := Lib.hid HBL.out.size
        obtain ⟨fn, fi, ca, g0⟩ := HPL.out.tak.no HNO.out
        refine (got_no g0).mono ?_
        rintro _ w5 ⟨rfl, hb5⟩
        have HP5 := Lib.hid (HPL.out.keep (Mod.ofBelow hb5 (fun _ => False)) (fun _ _ _ h => h))
        have HZ5 := Lib.hid (Nat.le_trans HZL.out hb5.size)
        have HBL5 : Hid (Below w.heap.size w w5) := HBL.out.trans (hb5.mono HZL.out)
        clear hb5 g0
        go_wp2_with fail
        refine (same_any (thrs_nil w5 (fun _ _ => 0)) (thrs_nil w5 (fun _ _ => 0)) (by decide)).mono ?_
        rintro _ w6 ⟨rfl, hm6⟩
        have HP6 := Lib.hid (HP5.out.keep hm6 (fun _ _ _ h => h))
        have HZ6 := Lib.hid (Nat.le_trans HZ5.out hm6.size)
        have HBL6 : Hid (Below w.heap.size w w6) := HBL5.out.trans (hm6.belowAt HZ5.out (fun _ _ h => h))
        have pb1 : w6.cell? ⟨w1.heap.size, 1, none⟩ = some (.pointer (some ⟨R, 0, none⟩)) := cell_of HP6.out.pb rfl
        clear hm6
        go_wp2_with fail
        refine (rstp_any HP6.out.ref (by omega) HP6.out.rtk (fun x hx hf => (HP6.out.dU x hx).1 (.inr hf)) HOK.out HFR.out HNO.out HP6.out.mem.wf).mono ?_
        rintro _ w7 ⟨rfl, hr7, fpu7, hu7, ht7, hn7⟩
        have hp7 := HP6.out.refStep HZ6.out hr7 hu7 ht7 hn7
        have HP7 := Lib.hid hp7.1
        have HBL7 : Hid (Below w.heap.size w w7) := HBL6.out.trans hp7.2
        have HZ7 := Lib.hid HBL7.out.size
        clear hr7 hu7 ht7 hn7 hp7 pb1
        have HP7d := Lib.hid (HP7.out.keep (Mod.refl (fun _ => False) w7).drew (fun _ _ _ h => h))
        have p0 : w7.cell? ⟨w1.heap.size, 0, none⟩ = some (.pointer (some ⟨M, 0, none⟩)) := cell_of HP7.out.pb rfl
        have p1 : w7.cell? ⟨w1.heap.size, 1, none⟩ = some (.pointer (some ⟨R, 0, none⟩)) := cell_of HP7.out.pb rfl
        obtain ⟨l7, u0, hl7, _⟩ := HP7.out.rtk.line
        have hwr : wrap64 (s + 1) = s + 1 := by unfold wrap64; omega
        have HWR := Lib.hid hwr
        clear hwr
        go_wp2_with fail
        cases hbo : (tNext f t).over with
        | false =>
          rw [hbo] at hl7
          have HBO := Lib.hid hbo
          clear hbo
          go_region_held3 (fun wa => wa.cell? ⟨w1.heap.size, 0, none⟩ = some (.pointer (some ⟨M, 0, none⟩)) ∧ wa.cell? ⟨w1.heap.size, 1, none⟩ = some (.pointer (some ⟨R, 0, none⟩)) ∧ wa.cell? ⟨U, 0, none⟩ = some (.int .i64 l7)) (first | exact ⟨p0, p1, u0⟩ | exact ⟨q0, q1, v0⟩ | exact ⟨r0, r1, x0⟩)
            (first
              | (go_at_call 16; refine (stp_b HP7d.out HBO.out HOK.out HNO.out).mono ?_; rintro _ w8 ⟨rfl, hM8, ⟨RB8, hR8, hT8⟩, hm8⟩
                 have hp8 := HP7d.out.progStep HZ7.out hM8 hT8 hR8 hm8
                 have HP8 := Lib.hid hp8.1
                 have HBL8 : Hid (Below w.heap.size w w8) := HBL7.out.trans (((Mod.refl (fun _ => False) w7).drew.belowAt HZ7.out (fun _ _ h => h)).trans hp8.2)
                 have q0 : w8.cell? ⟨w1.heap.size, 0, none⟩ = some (.pointer (some ⟨M, 0, none⟩)) := cell_of HP8.out.pb rfl
                 have q1 : w8.cell? ⟨w1.heap.size, 1, none⟩ = some (.pointer (some ⟨R, 0, none⟩)) := cell_of HP8.out.pb rfl
                 have v0 : w8.cell? ⟨U, 0, none⟩ = some (.int .i64 l7) := (cell_mod hm8 HP7d.out.notT.2 HP7d.out.notT.1).trans u0
                 obtain ⟨fn8, fi8, ca8, c8⟩ := HP8.out.tak.no HBO.out
                 clear hM8 hT8 hR8 hm8 hp8)
              | (go_at_call 15; refine (takOver_no c8).mono ?_; rintro _ _ ⟨rfl, rfl⟩)
              | (go_at_call 24; refine (psame_any ⟨HP8.out.mem, HP8.out.ref, HP8.out.dM.1, HP8.out.dM.2⟩).mono ?_; rintro _ w9 ⟨rfl, hm9⟩
                 have HP9 := Lib.hid (HP8.out.keep hm9 (fun _ _ _ h => h))
                 have HBL9 : Hid (Below w.heap.size w w9) := HBL8.out.trans (hm9.belowAt HBL8.out.size (fun _ _ h => h))
                 have r0 : w9.cell? ⟨w1.heap.size, 0, none⟩ = some (.pointer (some ⟨M, 0, none⟩)) := cell_of HP9.out.pb rfl
                 have r1 : w9.cell? ⟨w1.heap.size, 1, none⟩ = some (.pointer (some ⟨R, 0, none⟩)) := cell_of HP9.out.pb rfl
                 have x0 : w9.cell? ⟨U, 0, none⟩ = some (.int .i64 l7) := (cell_mod hm9 (World.block_lt_of_cell? _ _ v0) (fun h => h)).trans v0
                 clear hm9))
          go_wp2_with fail
          go_roundw
          case rel =>
            have h9 := HP9.out
            rw [HWR.out] at h9
            exact ⟨k + 1, _, _, _, _, _, _, _, by go_num, by go_num, h9.grow, TSt.ok_next HOK.out, TSt.fresh_next HFR.out, TSt.count_next HCT.out HOK.out HNO.out, by omega, by omega, HBL9.out⟩
          case measure => simp [intOf]; omega
        | true =>
          rw [hbo] at hl7
          have HBO := Lib.hid hbo
          clear hbo
          go_region_held3 (fun wa => wa.cell? ⟨w1.heap.size, 0, none⟩ = some (.pointer (some ⟨M, 0, none⟩)) ∧ wa.cell? ⟨w1.heap.size, 1, none⟩ = some (.pointer (some ⟨R, 0, none⟩)) ∧ wa.cell? ⟨U, 0, none⟩ = some (.int .i64 l7)) (first | exact ⟨p0, p1, u0⟩ | exact ⟨q0, q1, v0⟩ | exact ⟨r0, r1, x0⟩)
            (first
              | (go_at_call 16; refine (stp_b HP7d.out HBO.out HOK.out HNO.out).mono ?_; rintro _ w8 ⟨rfl, hM8, ⟨RB8, hR8, hT8⟩, hm8⟩
                 have hp8 := HP7d.out.progStep HZ7.out hM8 hT8 hR8 hm8
                 have HP8 := Lib.hid hp8.1
                 have HBL8 : Hid (Below w.heap.size w w8) := HBL7.out.trans (((Mod.refl (fun _ => False) w7).drew.belowAt HZ7.out (fun _ _ h => h)).trans hp8.2)
                 have q0 : w8.cell? ⟨w1.heap.size, 0, none⟩ = some (.pointer (some ⟨M, 0, none⟩)) := cell_of HP8.out.pb rfl
                 have q1 : w8.cell? ⟨w1.heap.size, 1, none⟩ = some (.pointer (some ⟨R, 0, none⟩)) := cell_of HP8.out.pb rfl
                 have v0 : w8.cell? ⟨U, 0, none⟩ = some (.int .i64 l7) := (cell_mod hm8 HP7d.out.notT.2 HP7d.out.notT.1).trans u0
                 have c8 := HP8.out.tak.yes HBO.out
                 clear hM8 hT8 hR8 hm8 hp8)
              | (go_at_call 15; refine (takOver_yes c8).mono ?_; rintro _ _ ⟨rfl, rfl⟩)
              | (go_at_call 24; refine (psame_any ⟨HP8.out.mem, HP8.out.ref, HP8.out.dM.1, HP8.out.dM.2⟩).mono ?_; rintro _ w9 ⟨rfl, hm9⟩
                 have HP9 := Lib.hid (HP8.out.keep hm9 (fun _ _ _ h => h))
                 have HBL9 : Hid (Below w.heap.size w w9) := HBL8.out.trans (hm9.belowAt HBL8.out.size (fun _ _ h => h))
                 have r0 : w9.cell? ⟨w1.heap.size, 0, none⟩ = some (.pointer (some ⟨M, 0, none⟩)) := cell_of HP9.out.pb rfl
                 have r1 : w9.cell? ⟨w1.heap.size, 1, none⟩ = some (.pointer (some ⟨R, 0, none⟩)) := cell_of HP9.out.pb rfl
                 have x0 : w9.cell? ⟨U, 0, none⟩ = some (.int .i64 l7) := (cell_mod hm9 (World.block_lt_of_cell? _ _ v0) (fun h => h)).trans v0
                 clear hm9))
          go_wp2_with fail
          go_roundw
          case rel =>
            have h9 := HP9.out
            rw [HWR.out] at h9
            exact ⟨k + 1, _, _, _, _, _, _, _, by go_num, by go_num, h9.grow, TSt.ok_next HOK.out, TSt.fresh_next HFR.out, TSt.count_next HCT.out HOK.out HNO.out, by omega, by omega, HBL9.out⟩
          case measure => simp [intOf]; omega
end Go.Proofs.Ytjnbkpklcmkdlaa
