/- Epochs: the third step of an Advance, when it goes on. -/
import Derived.Test.YtjnbkpklcmkdlaaEE
import Derived.ScopeJumps
namespace Go.Proofs.Ytjnbkpklcmkdlaa
open Go.RowKit


set_option maxHeartbeats 2000000 in
set_option maxRecDepth 100000 in
theorem adv_step3_on {M mb N E : Nat} {f : Adr → Int} {at' pos cnt : Int} {g : Bool} {w : World} (hM : MemOf M mb N f w) {v : Int} (hvv : f (oAdr pos) = v) (h0 : 0 ≤ pos) (h1 : pos < 8) (hv0 : 0 ≤ v) (hv1 : v < 18446744073709551616) (hor : v % 2 = 0 ∨ v = 2 * at' + 1) (ha0 : 0 ≤ at') (ha1 : at' < 1152921504606846976) {pc' : Int} (hpc : (cnt ≤ pos + 1 → pc' = 4) ∧ (¬ cnt ≤ pos + 1 → pc' = 3)) (hE : AdvAt E 3 at' pos cnt g w) (hEM : E ≠ M) (hEm : E ≠ mb) :
    Calls Try.prog 34 #[.pointer (some ⟨E, 0, none⟩), .pointer (some ⟨M, 0, none⟩)] w (AdvPost M mb N E false f pc' at' (pos + 1) cnt g w) := by
  have HPC := Lib.hid hpc
  clear hpc
  obtain ⟨s, L, hM⟩ := hM
  have hc0 : w.cell? ⟨E, 0, none⟩ = some (.int .i64 3) := cell_of hE rfl
  have hc1 : w.cell? ⟨E, 1, none⟩ = some (.int .u64 at') := cell_of hE rfl
  have hc2 : w.cell? ⟨E, 2, none⟩ = some (.int .i64 pos) := cell_of hE rfl
  have hc3 : w.cell? ⟨E, 3, none⟩ = some (.int .i64 cnt) := cell_of hE rfl
  have hc4 : w.cell? ⟨E, 4, none⟩ = some (.bool g) := cell_of hE rfl
  have hlt := lt_of_block hE
  have HM := Lib.hid hM
  have HE := Lib.hid hE
  clear hM hE
  go_enter Try.func34, Try.ntmps34
  go_wp2_with fail
  refine wp_scope_jumps 0 (AdvJ M mb N E f at' (pos + 1) cnt g w) (fun _ _ => 0) rfl ?first ?pass
  case first =>
    go_wp2_with fail
    refine (adv_over hc0).mono ?_
    rintro _ w ⟨rfl, rfl⟩
    go_wp2_with fail
    refine (own_any pos w).mono ?_
    rintro _ w1 ⟨rfl, hb⟩
    have HM4 := Lib.hid (Mod.ofBelow hb (fun _ => False))
    clear hb
    go_wp2_with fail
    refine (load_any (HM.out.mod HM4.out (fun h => h) (fun h => h)) (oWf h0 (by omega))).mono ?_
    rintro _ w2 ⟨rfl, hM2, hm2⟩
    rw [hvv]
    have HV := Lib.hid hvv
    clear hvv
    have hsum : wrap64 (pos + 1) = pos + 1 := by simp [wrap64]; omega
    have hE2 := hm2.keep (HM4.out.keep HE.out (fun h => h)) (fun h => h.elim hEM hEm)
    have HM2 := Lib.hid hM2
    have HM3 := Lib.hid hm2
    clear hc0 hc1 hc2 hc3 hc4 hM2 hm2
    have hs1 := (Mod.refl (fun b => b = E) w2).setCell (p := ⟨E, 2, none⟩) (fun _ => rfl) (.int .i64 (pos + 1))
    have hE1 := heap_setCell_same (i := 2) hE2 (.int .i64 (pos + 1))
    have HS1 := Lib.hid hs1
    have HE1 := Lib.hid hE1
    have hc0 : w2.cell? ⟨E, 0, none⟩ = some (.int .i64 3) := cell_of hE2 rfl
    have hc1 : w2.cell? ⟨E, 1, none⟩ = some (.int .u64 at') := cell_of hE2 rfl
    have hc2 : w2.cell? ⟨E, 2, none⟩ = some (.int .i64 pos) := cell_of hE2 rfl
    have hf2 := free_of hE2 (i := 2)
    clear hE1 hs1 hE2
    by_cases hev : v % 2 = 0
    · have hbit : bits .and .u64 v 1 = 0 := by rw [bits_and hv0 hv1, hev]
      clear hor
      go_wp2_with fail
      go_step3
      simp only [Exit.inBlock, Exit.then, Exit.jump]
      refine ⟨trivial, ?_⟩
      refine AdvJ.make (by rfl) ⟨_, _, HM2.out.mod HS1.out (fun e => hEM e.symm) (fun e => hEm e.symm)⟩ HE1.out (((HM4.out.weaken (fun _ _ h => h.elim)).trans HM3.out (fun _ _ h => .inl h)).trans HS1.out (fun _ _ h => .inr h))
    · have hq : v = 2 * at' + 1 := hor.resolve_left hev
      have hbit : bits .and .u64 v 1 = 1 := by rw [bits_and hv0 hv1]; omega
      have HQ := Lib.hid hq
      clear hor hq
      go_wp2_with fail
      refine (in_any ha0 ha1).mono ?_
      rintro _ _ ⟨rfl, rfl⟩
      rw [← HQ.out]
      go_wp2_with fail
      go_step3
      simp only [Exit.inBlock, Exit.then, Exit.jump]
      refine ⟨trivial, ?_⟩
      refine AdvJ.make (by rfl) ⟨_, _, HM2.out.mod HS1.out (fun e => hEM e.symm) (fun e => hEm e.symm)⟩ HE1.out (((HM4.out.weaken (fun _ _ h => h.elim)).trans HM3.out (fun _ _ h => .inl h)).trans HS1.out (fun _ _ h => .inr h))
  case pass =>
    rintro a' w' ⟨⟨u, rfl⟩, hM', hA', hmod'⟩
    have hc2 : w'.cell? ⟨E, 2, none⟩ = some (.int .i64 (pos + 1)) := cell_of hA' rfl
    have hc3 : w'.cell? ⟨E, 3, none⟩ = some (.int .i64 cnt) := cell_of hA' rfl
    have HM' := Lib.hid hM'
    have HA' := Lib.hid hA'
    have HO' := Lib.hid hmod'
    clear hM' hA' hmod'
    by_cases hge : cnt ≤ pos + 1
    · have hd : decide (pos + 1 ≥ cnt) = true := decide_eq_true (p := cnt ≤ pos + 1) hge
      go_wp2_with fail
      go_quiet (fail)
      have HMq : Hid (Mod (fun _ => False) w' (w'.drewN nq)) := (Mod.refl (fun _ => False) w').drewN nq
      have hAq := HMq.out.keep HA'.out (fun h => h)
      generalize w'.drewN nq = wq at HMq hAq ⊢
      clear hc2 hc3
      have hc0 : wq.cell? ⟨E, 0, none⟩ = some (.int .i64 3) := cell_of hAq rfl
      have hf0 := free_of hAq (i := 0)
      have HAq := Lib.hid hAq
      clear hAq
      go_wp2_with fail
      try simp only [Exit.jump]
      go_ret
      obtain ⟨s', L', hm'⟩ := HM'.out
      have e4 := HPC.out.1 hge
      rw [e4]
      have hs := (Mod.refl (fun b => b = E) wq).setCell (p := ⟨E, 0, none⟩) (fun _ => rfl) (.int .i64 4)
      exact ⟨rfl, ⟨s', L', (hm'.mod HMq.out (fun h => h) (fun h => h)).mod hs (fun e => hEM e.symm) (fun e => hEm e.symm)⟩, heap_setCell_same HAq.out _, (HO'.out.trans HMq.out (fun _ _ h => h.elim)).trans hs (fun _ _ h => .inr h)⟩
    · have hd : decide (pos + 1 ≥ cnt) = false := decide_eq_false (p := cnt ≤ pos + 1) hge
      go_wp2_with fail
      go_quiet (fail)
      have HMq : Hid (Mod (fun _ => False) w' (w'.drewN nq)) := (Mod.refl (fun _ => False) w').drewN nq
      have hAq := HMq.out.keep HA'.out (fun h => h)
      generalize w'.drewN nq = wq at HMq hAq ⊢
      clear hc2 hc3
      have hc0 : wq.cell? ⟨E, 0, none⟩ = some (.int .i64 3) := cell_of hAq rfl
      have hf0 := free_of hAq (i := 0)
      have HAq := Lib.hid hAq
      clear hAq
      go_wp2_with fail
      try simp only [Exit.jump]
      go_ret
      obtain ⟨s', L', hm'⟩ := HM'.out
      have e4 := HPC.out.2 hge
      rw [e4]
      exact ⟨rfl, ⟨s', L', hm'.mod HMq.out (fun h => h) (fun h => h)⟩, HAq.out, HO'.out.trans HMq.out (fun _ _ h => h.elim)⟩
end Go.Proofs.Ytjnbkpklcmkdlaa
