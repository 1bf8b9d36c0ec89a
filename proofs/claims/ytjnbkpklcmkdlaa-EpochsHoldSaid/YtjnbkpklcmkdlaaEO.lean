/- Epochs: the theorem's walk. -/
import Derived.Test.YtjnbkpklcmkdlaaEN
namespace Go.Proofs.Ytjnbkpklcmkdlaa
open Go.RowKit

/-- A slice of bytes. -/
def U8s (w : World) (v : Value) (l : List Nat) : Prop :=
  ∃ a cap, v = .slice a l.length cap ∧ (l = [] ∨ ∃ b off, a = some ⟨b, off, none⟩ ∧ ∀ k (h : k < l.length), w.cell? ⟨b, off + k, none⟩ = some (.int .u8 (l[k] : Nat)) ∧ l[k] < 256)
def th0 : Nat → Th := fun _ => ⟨false, 0, .idle⟩
def MainRel (B M mb T n : Nat) (w0 : World) (was i : Value) (wr : World) : Prop :=
  ∃ (k : Nat) (f : Adr → Int) (th : Nat → Th), k ≤ n ∧ i = .int .i64 k ∧ was = .int .u64 (f gAdr) ∧ f gAdr ≤ 1099511627776 + k ∧ Inv f th ∧ Held B M mb T (2 + 3 * k) f th wr ∧ Below B w0 wr
theorem setTh_setTh (th : Nat → Th) (k : Nat) (a b : Th) : setTh (setTh th k a) k b = setTh th k b := by
  funext i
  by_cases e : i = k <;> simp [setTh, e]
theorem inv_next {f : Adr → Int} {th : Nat → Th} (h : Inv f th) {k : Nat} (hk : k < 8) (b : Bool) : Inv (run k f (begin' b (th k))).1 (setTh th k (run k f (begin' b (th k))).2) ∧ (f gAdr ≤ (run k f (begin' b (th k))).1 gAdr ∧ (run k f (begin' b (th k))).1 gAdr ≤ f gAdr + 1) := by
  have := (h.begin hk b).run hk
  rw [setTh_same, setTh_setTh] at this
  exact this
theorem Inv.words64 {f : Adr → Int} {th : Nat → Th} (h : Inv f th) (hg : f gAdr < 1152921504606846976) (p : Nat) (hp : p < 8) : 0 ≤ f (oAdr p) ∧ f (oAdr p) < 18446744073709551616 := by
  rcases h.words p hp with h1 | ⟨e, a, b, c⟩
  · rw [h1]; decide
  · rw [c]; omega
def InRel (w0 : World) (i : Value) (wr : World) : Prop := ∃ k : Nat, k ≤ 8 ∧ i = .int .i64 k ∧ Mod (fun _ => False) w0 wr
set_option maxHeartbeats 2000000 in
set_option maxRecDepth 100000 in
theorem holds_walk (w : World) (first : Int) (l : List Nat) (v : Value) (hv : U8s w v l) (h0 : 0 ≤ first) (hlen : l.length ≤ 800) :
    Calls Try.prog 3 #[.int .u64 first, v] w (LivesPost w) := by
  obtain ⟨a, cap, rfl, hv1⟩ := hv
  have hmx : maxLen = 9223372036854775807 := rfl
  have HX := Lib.hid hmx
  have HV := Lib.hid hv1
  have hm0 : 0 ≤ first % 1099511627776 := Int.emod_nonneg _ (by decide)
  have hm1 : first % 1099511627776 < 1099511627776 := Int.emod_lt_of_pos _ (by decide)
  have hwf : (Lit.int .u64 (first % 1099511627776)).wf = true := by
    have e1 : IntKind.u64.min = 0 := by decide
    have e2 : IntKind.u64.max = 18446744073709551615 := by decide
    show (decide (IntKind.u64.min ≤ first % 1099511627776) && decide (first % 1099511627776 ≤ IntKind.u64.max)) = true
    rw [e1, e2]
    simp
    omega
  have HW := Lib.hid hwf
  clear hwf
  have hd0 : decide (800 < (l.length : Int)) = false := decide_eq_false (by omega)
  have hmk := made8_run
  clear hmx hv1
  go_enter Try.func3, Try.ntmps3
  go_wp2_with fail
  refine (new_any w).mono ?_
  rintro _ w1 ⟨rfl, hM, hb, hz⟩
  have HM : Hid (MemOf (w.heap.size + 1) w.heap.size 0 fz w1) := ⟨_, _, hM⟩
  have HB := Lib.hid hb
  clear hM hb hz
  go_wp2_with fail
  refine (storeOf (f' := upd fz gAdr (first % 1099511627776)) (a := gAdr) HM.out (by rw [HX.out]; decide) gWf HW.out (by decide) rfl).mono ?_
  rintro _ w2 ⟨rfl, hM2, hm2⟩
  have HM2 := Lib.hid hM2
  have HO2 := Lib.hid hm2
  clear hM2 hm2
  go_wp2_with fail
  refine (storeOf (f' := upd (upd fz gAdr (first % 1099511627776)) nAdr 2) (a := nAdr) HM2.out (by rw [HX.out]; decide) nWf (by decide) (by decide) rfl).mono ?_
  rintro _ w3 ⟨rfl, hM3, hm3⟩
  have HM3 := Lib.hid hM3
  have HO3 := Lib.hid hm3
  clear hM3 hm3
  go_wp2_with fail
  have HT : Hid ((w3.alloc (.cells made8 36)).heap[w3.heap.size]? = some (.cells made8 36)) := heap_alloc_at _ _
  have HA : Hid (Mod (fun _ => False) w3 (w3.alloc (.cells made8 36))) := (Mod.refl _ _).alloc _
  clear hmk
  generalize w3.alloc (.cells made8 36) = w4 at HT HA ⊢
  go_loopw [7, 8] (fun was i wr => MainRel w.heap.size (w.heap.size + 1) w.heap.size w3.heap.size l.length w was i wr) (fun _ i _ => l.length - (intOf i).toNat)
  case atStart =>
    have eg : upd (upd fz gAdr (first % 1099511627776)) nAdr 2 gAdr = first % 1099511627776 := by
      rw [upd_other _ (Ne.symm n_ne_g), upd_same]
    have eo : ∀ i, upd (upd fz gAdr (first % 1099511627776)) nAdr 2 (oAdr i) = 0 := fun i => by
      rw [upd_other _ (Ne.symm (n_ne_o i)), upd_other _ (o_ne_g i)]
      rfl
    obtain ⟨hTM0, _⟩ := HM3.out.lt
    have hall : Below w.heap.size w w4 := (((HB.out.trans (HO2.out.belowAt HB.out.size (fun i hi h => by omega))).trans (HO3.out.belowAt (Nat.le_trans HB.out.size HO2.out.size) (fun i hi h => by omega))).trans (HA.out.belowAt (by omega) (fun i hi h => h)))
    refine ⟨0, _, th0, Nat.zero_le _, rfl, by rw [eg], by rw [eg]; omega, ⟨upd_same _ _ _, by rw [eg]; exact hm0, fun i hi => .inl (eo i), fun i hi => trivial, (fun i hi h => by cases h), (fun i hi h => by cases h), (fun i hi h => by cases h)⟩, ?_, hall⟩
    refine ⟨fun _ => 0, made8, HM3.out.mod HA.out (fun h => h) (fun h => h), HT.out, fun k hk => ?_, fun k hk => trivial, (fun k hk h => by cases h), (fun j k hj hk hne h => by cases h)⟩
    obtain ⟨a0, a1, a2, a3, a4⟩ := made8_at k hk
    exact ⟨made8, HT.out, rfl, a0, a1, a2, a3, a4, fun _ _ => rfl⟩
  case round =>
    obtain ⟨k, f, th, hk, rfl, rfl, hg, hI, hH, hbel⟩ := hrel
    have HI := Lib.hid hI
    have HH := Lib.hid hH
    have HBel := Lib.hid hbel
    clear hI hH hbel
    by_cases hlt : k < l.length
    · obtain ⟨b, off, rfl, D0⟩ := HV.out.resolve_left (fun h => by rw [h] at hlt; simp at hlt)
      obtain ⟨hc, hx⟩ := D0 k hlt
      have hcr : wr.cell? ⟨b, off + k, none⟩ = some (.int .u8 (l[k] : Nat)) := by
        rw [(bcell HBel.out).1 b _ (World.block_lt_of_cell? _ _ hc)]
        exact hc
      clear D0 hc
      generalize l[k] = x at hcr hx
      obtain ⟨j, hj⟩ : ∃ j, j = x % 8 := ⟨_, rfl⟩
      have hj8 : j < 8 := by omega
      have t1 : ((x : Int)).tmod 8 = (j : Int) := by rw [Int.tmod_eq_emod_of_nonneg (by omega)]; omega
      obtain ⟨d, hd⟩ : ∃ d, d = x / 8 := ⟨_, rfl⟩
      have t2 : ((x : Int)).tdiv 8 = (d : Int) := by rw [Int.tdiv_eq_ediv_of_nonneg (by omega)]; omega
      obtain ⟨m, hm⟩ : ∃ m, m = d % 2 := ⟨_, rfl⟩
      have t3 : ((d : Int)).tmod 2 = (m : Int) := by rw [Int.tmod_eq_emod_of_nonneg (by omega)]; omega
      have hd32 : d < 32 := by omega
      have hm2 : m < 2 := by omega
      have hjI : (j : Int) < 8 := by omega
      have hj0 : (0 : Int) ≤ (j : Int) := by omega
      have t4 : IntKind.i64.wrap (j : Int) = (j : Int) := IntWalk.i64_in _ (by omega)
      clear hj hd hm
      go_wp2_with fail
      go_still_tail 21, (by kernel_rfl)
      change wpList _ _ _ _ _ wr.drew
      have HMd : Hid (Mod (fun _ => False) wr wr.drew) := (Mod.refl _ _).drew
      have HHd : Hid (Held w.heap.size (w.heap.size + 1) w.heap.size w3.heap.size (2 + 3 * k) f th wr.drew) := by
        obtain ⟨Es, c, h⟩ := HH.out
        exact ⟨Es, c, h.drawn⟩
      have HBd := Lib.hid (HBel.out.trans ((HMd.out.below (fun _ _ h => h)).mono HBel.out.size))
      clear t1 t2 t3 t4 hcr HMd
      generalize wr.drew = wd at HHd HBd ⊢
      go_wp2_with fail
      obtain ⟨Es, c, hH⟩ := HHd.out
      have HH2 := Lib.hid hH
      obtain ⟨bb, hbb⟩ : ∃ bb, bb = ((d : Int) % 2 == 1) := ⟨_, rfl⟩
      rw [← hbb]
      clear hbb hH
      obtain ⟨hTM0, _⟩ := HM3.out.lt
      have hTM : w3.heap.size ≠ w.heap.size + 1 := by omega
      have hTm : w3.heap.size ≠ w.heap.size := by omega
      refine (thread_step hj8 (th j) HH2.out.mem hTM hTm (by rw [HX.out]; omega) HI.out.blocks HI.out.now0 (by omega) (HI.out.words64 (by omega)) (HI.out.ops j hj8) (thAt_iff.2 (HH2.out.ths j hj8)) (HH2.out.ops j hj8) (fun hi => by obtain ⟨a, b, c, _⟩ := HH2.out.own j hj8 hi; exact ⟨a, b, c⟩)).mono ?_
      rintro e w5 hS
      obtain rfl := hS.1
      have hS2 := HH2.out.stepped hj8 HBd.out.size (by omega) (by omega) (by omega) hS
      obtain ⟨hI2, hg1, hg2⟩ := inv_next HI.out hj8 bb
      have hg0 := HI.out.now0
      generalize (run j f (begin' bb (th j))).1 = f2 at hS2 hI2 hg1 hg2
      generalize setTh th j (run j f (begin' bb (th j))).2 = th2 at hS2 hI2
      have HI2 := Lib.hid hI2
      have HH5 := Lib.hid hS2.1
      have HB5 := Lib.hid (HBd.out.trans hS2.2)
      clear hS hS2 hI2 HH2 HBd HHd
      go_wp2_with fail
      obtain ⟨Es5, c5, hh5⟩ := HH5.out
      have HM5 := Lib.hid hh5.mem
      clear hh5
      refine (word_any HM5.out (k := 1) gWf).mono ?_
      rintro _ w6 ⟨rfl, hM6, hm6⟩
      have e6 : f2 (1, 0, 0) = f2 gAdr := rfl
      rw [e6]
      have HH6 := Lib.hid (HH5.out.mod hm6 hM6 hTM hTm)
      have HB6 := Lib.hid (HB5.out.trans (show Below w.heap.size w5 w6 from ⟨hm6.os, hm6.tape, hm6.output, hm6.size, fun i hi => hm6.block i (by have := HB5.out.size; omega) (by omega)⟩))
      clear hM6 hm6 e6 HM5
      have hl1 : decide (f2 gAdr < f gAdr) = false := decide_eq_false (by omega)
      have hl2 : IntKind.u64.wrap (f gAdr + 1) = f gAdr + 1 := wrap_u64 (by omega) (by omega)
      have hl3 : decide (f2 gAdr > f gAdr + 1) = false := decide_eq_false (p := f gAdr + 1 < f2 gAdr) (by omega)
      go_wp2_with fail
      clear hl1 hl2 hl3
      go_loopw [10] (fun i wi => InRel w6 i wi) (fun i _ => 8 - (intOf i).toNat)
      case atStart => exact ⟨0, by omega, rfl, Mod.refl _ _⟩
      case round =>
        obtain ⟨q, hq, rfl, hmq⟩ := hrel
        have HMQ := Lib.hid hmq
        clear hmq
        by_cases hq8 : q < 8
        · obtain ⟨Es6, c6, hh6⟩ := HH6.out
          obtain ⟨hc0, hc1, _⟩ := TAt.cells ((hh6.ths q hq8).mod HMQ.out (fun h => h))
          clear hh6
          cases hin : (th2 q).inn with
          | false =>
            rw [hin] at hc0
            clear hc1 hin
            go_wp2_with fail
            go_roundw
            case rel => exact ⟨q + 1, by omega, by go_num, HMQ.out⟩
            case measure => simp [intOf]; omega
          | true =>
            rw [hin] at hc0
            have ha := HI2.out.at0 q hq8 hin
            obtain ⟨⟨ee, e0, e1, _⟩, ha2⟩ := ha
            generalize (th2 q).at' = aq at hc1 e1 ha2
            clear hin
            have hx1 : decide (f2 gAdr < aq) = false := decide_eq_false (by omega)
            have hx2 : IntKind.u64.wrap (aq + 1) = aq + 1 := wrap_u64 (by omega) (by omega)
            have hx3 : decide (f2 gAdr > aq + 1) = false := decide_eq_false (p := aq + 1 < f2 gAdr) (by omega)
            go_wp2_with fail
            refine (may_no (by omega) (by omega) _).mono ?_
            rintro _ w8 ⟨rfl, hb8⟩
            have HM8 := Lib.hid (HMQ.out.trans (Mod.ofBelow hb8 (fun _ => False)) (fun _ _ h => h))
            clear hb8 hx1 hx2 hx3 hc0 hc1
            go_wp2_with fail
            go_roundw
            case rel => exact ⟨q + 1, by omega, by go_num, HM8.out⟩
            case measure => simp [intOf]; omega
        · go_wp2_with fail
          refine ⟨⟨k + 1, f2, th2, by omega, by go_num, rfl, by omega, HI2.out, ?_, HB6.out.trans ((HMQ.out.below (fun _ _ h => h)).mono HB6.out.size)⟩, by simp [intOf]; omega⟩
          obtain ⟨Es6, c6, hh6⟩ := HH6.out
          have e9 : 2 + 3 * (k + 1) = 2 + 3 * k + 2 + 1 := by omega
          rw [e9]
          exact ⟨Es6, c6, hh6.kept HMQ.out⟩
    · go_wp2_with fail
      refine (lives_any _).mono ?_
      rintro _ w9 ⟨rfl, hb9⟩
      have HB9 := Lib.hid (HBel.out.trans (hb9.mono HBel.out.size))
      clear hb9
      go_wp2_with fail
      go_ret
      exact ⟨rfl, HB9.out⟩
end Go.Proofs.Ytjnbkpklcmkdlaa
