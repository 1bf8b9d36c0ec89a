/- Epochs: the steps of an Advance. -/
import Derived.Test.YtjnbkpklcmkdlaaEC
import Derived.ScopeJumps
namespace Go.Proofs.Ytjnbkpklcmkdlaa
open Go.RowKit

/-- What a step of an Advance leaves: the answer, the words, its own block. -/
def AdvPost (M mb N E : Nat) (r : Bool) (f : Adr → Int) (pc at' pos cnt : Int) (g : Bool) (w : World) (e : Ending) (w' : World) : Prop :=
  e = .returned (.bool r) ∧ MemOf M mb (N + 1) f w' ∧ AdvAt E pc at' pos cnt g w' ∧ Mod (foot M mb E) w w'
set_option maxHeartbeats 2000000 in
set_option maxRecDepth 100000 in
theorem adv_step1 {M mb N E : Nat} {f : Adr → Int} {at' pos cnt : Int} {g : Bool} {w : World} (hM : MemOf M mb N f w) (hE : AdvAt E 1 at' pos cnt g w) (hEM : E ≠ M) (hEm : E ≠ mb) :
    Calls Try.prog 34 #[.pointer (some ⟨E, 0, none⟩), .pointer (some ⟨M, 0, none⟩)] w (AdvPost M mb N E false f 2 (f gAdr) pos cnt g w) := by
  obtain ⟨s, L, hM⟩ := hM
  have hc0 : w.cell? ⟨E, 0, none⟩ = some (.int .i64 1) := cell_of hE rfl
  have hc1 : w.cell? ⟨E, 1, none⟩ = some (.int .u64 at') := cell_of hE rfl
  have hc2 : w.cell? ⟨E, 2, none⟩ = some (.int .i64 pos) := cell_of hE rfl
  have hc3 : w.cell? ⟨E, 3, none⟩ = some (.int .i64 cnt) := cell_of hE rfl
  have hc4 : w.cell? ⟨E, 4, none⟩ = some (.bool g) := cell_of hE rfl
  have hlt := lt_of_block hE
  have HM := Lib.hid hM
  have HE := Lib.hid hE
  clear hM hE
  go_enter Try.func34, Try.ntmps34
  go_wp2_with fail
  go_step3
  go_wp2_with fail
  refine (adv_over hc0).mono ?_
  rintro _ w ⟨rfl, rfl⟩
  go_wp2_with fail
  refine (global_any w).mono ?_
  rintro _ w1 ⟨rfl, hb⟩
  have hm1 := Mod.ofBelow hb (fun _ => False)
  have HM4 := Lib.hid hm1
  clear hm1 hb
  go_wp2_with fail
  refine (load_any (HM.out.mod HM4.out (fun h => h) (fun h => h)) gWf).mono ?_
  rintro _ w2 ⟨rfl, hM2, hm2⟩
  have hE2 := hm2.keep (HM4.out.keep HE.out (fun h => h)) (fun h => h.elim hEM hEm)
  have HM2 := Lib.hid hM2
  have HM3 := Lib.hid hm2
  clear hc0 hc1 hc2 hc3 hc4 hM2 hm2
  have hc0 : w2.cell? ⟨E, 0, none⟩ = some (.int .i64 1) := cell_of hE2 rfl
  have hc1 : w2.cell? ⟨E, 1, none⟩ = some (.int .u64 at') := cell_of hE2 rfl
  have hc2 : w2.cell? ⟨E, 2, none⟩ = some (.int .i64 pos) := cell_of hE2 rfl
  have hc3 : w2.cell? ⟨E, 3, none⟩ = some (.int .i64 cnt) := cell_of hE2 rfl
  have hc4 : w2.cell? ⟨E, 4, none⟩ = some (.bool g) := cell_of hE2 rfl
  have hf0 := free_of hE2 (i := 0)
  have hf1 := free_of hE2 (i := 1)
  have hf2 := free_of hE2 (i := 2)
  have hf3 := free_of hE2 (i := 3)
  have HE2 := Lib.hid hE2
  clear hE2
  go_wp2_with fail
  have hs := (((Mod.refl (fun b => b = E) w2).setCell (p := ⟨E, 1, none⟩) (fun _ => rfl) (.int .u64 (f gAdr))).setCell (p := ⟨E, 0, none⟩) (fun _ => rfl) (.int .i64 2))
  have hE3 := (heap_setCell_same (i := 0) (heap_setCell_same (i := 1) HE2.out (.int .u64 (f gAdr))) (.int .i64 2))
  generalize ((w2.setCell ⟨E, 1, none⟩ (.int .u64 (f gAdr))).setCell ⟨E, 0, none⟩ (.int .i64 2)) = w3 at hs hE3 ⊢
  have hd0 : w3.cell? ⟨E, 0, none⟩ = some (.int .i64 2) := cell_of hE3 rfl
  refine (adv_over hd0).mono ?_
  rintro _ w3 ⟨rfl, rfl⟩
  clear hd0
  go_wp2_with fail
  go_ret
  have hM2 := HM2.out
  exact ⟨rfl, ⟨_, _, hM2.mod hs (fun e => hEM e.symm) (fun e => hEm e.symm)⟩, hE3, (((HM4.out.weaken (fun _ _ h => h.elim)).trans HM3.out (fun _ _ h => .inl h)).trans hs (fun _ _ h => .inr h))⟩

/-- At the jump to the label. -/
def AdvJ (M mb N E : Nat) (f : Adr → Int) (at' pos cnt : Int) (g : Bool) (w : World) (a' : Act) (w' : World) : Prop :=
  (∃ u : Nat → Value, a' = { tmps := #[.pointer (some ⟨E, 0, none⟩), .pointer (some ⟨M, 0, none⟩), u 2, u 3, u 4, u 5, u 6, u 7, u 8, u 9, u 10, u 11, u 12, u 13, u 14, u 15, u 16, u 17, u 18, u 19, u 20, u 21, u 22, u 23, u 24, u 25, u 26, u 27, u 28, u 29, u 30, u 31, u 32, u 33, u 34, u 35, u 36, u 37, u 38, u 39, u 40, u 41, u 42, u 43, u 44, u 45, u 46, u 47, u 48, u 49, u 50, u 51, u 52, u 53, u 54, u 55, u 56, u 57, u 58, u 59, u 60, u 61, u 62, u 63, u 64, u 65, u 66, u 67, u 68, u 69, u 70, u 71, u 72, u 73, u 74, u 75, u 76, u 77, u 78, u 79, u 80, u 81, u 82, u 83, u 84, u 85, u 86, u 87, u 88, u 89, u 90, u 91, u 92, u 93, u 94, u 95, u 96, u 97, u 98, u 99, u 100, u 101, u 102, u 103, u 104, u 105, u 106, u 107, u 108, u 109, u 110, u 111], defers := [] }) ∧ MemOf M mb (N + 1) f w' ∧ AdvAt E 3 at' pos cnt g w' ∧ Mod (foot M mb E) w w'
theorem AdvJ.make {M mb N E : Nat} {f : Adr → Int} {at' pos cnt : Int} {g : Bool} {w w' : World} {a' : Act} (ha : a' = { tmps := #[.pointer (some ⟨E, 0, none⟩), .pointer (some ⟨M, 0, none⟩), a'.tmps.getD 2 undef, a'.tmps.getD 3 undef, a'.tmps.getD 4 undef, a'.tmps.getD 5 undef, a'.tmps.getD 6 undef, a'.tmps.getD 7 undef, a'.tmps.getD 8 undef, a'.tmps.getD 9 undef, a'.tmps.getD 10 undef, a'.tmps.getD 11 undef, a'.tmps.getD 12 undef, a'.tmps.getD 13 undef, a'.tmps.getD 14 undef, a'.tmps.getD 15 undef, a'.tmps.getD 16 undef, a'.tmps.getD 17 undef, a'.tmps.getD 18 undef, a'.tmps.getD 19 undef, a'.tmps.getD 20 undef, a'.tmps.getD 21 undef, a'.tmps.getD 22 undef, a'.tmps.getD 23 undef, a'.tmps.getD 24 undef, a'.tmps.getD 25 undef, a'.tmps.getD 26 undef, a'.tmps.getD 27 undef, a'.tmps.getD 28 undef, a'.tmps.getD 29 undef, a'.tmps.getD 30 undef, a'.tmps.getD 31 undef, a'.tmps.getD 32 undef, a'.tmps.getD 33 undef, a'.tmps.getD 34 undef, a'.tmps.getD 35 undef, a'.tmps.getD 36 undef, a'.tmps.getD 37 undef, a'.tmps.getD 38 undef, a'.tmps.getD 39 undef, a'.tmps.getD 40 undef, a'.tmps.getD 41 undef, a'.tmps.getD 42 undef, a'.tmps.getD 43 undef, a'.tmps.getD 44 undef, a'.tmps.getD 45 undef, a'.tmps.getD 46 undef, a'.tmps.getD 47 undef, a'.tmps.getD 48 undef, a'.tmps.getD 49 undef, a'.tmps.getD 50 undef, a'.tmps.getD 51 undef, a'.tmps.getD 52 undef, a'.tmps.getD 53 undef, a'.tmps.getD 54 undef, a'.tmps.getD 55 undef, a'.tmps.getD 56 undef, a'.tmps.getD 57 undef, a'.tmps.getD 58 undef, a'.tmps.getD 59 undef, a'.tmps.getD 60 undef, a'.tmps.getD 61 undef, a'.tmps.getD 62 undef, a'.tmps.getD 63 undef, a'.tmps.getD 64 undef, a'.tmps.getD 65 undef, a'.tmps.getD 66 undef, a'.tmps.getD 67 undef, a'.tmps.getD 68 undef, a'.tmps.getD 69 undef, a'.tmps.getD 70 undef, a'.tmps.getD 71 undef, a'.tmps.getD 72 undef, a'.tmps.getD 73 undef, a'.tmps.getD 74 undef, a'.tmps.getD 75 undef, a'.tmps.getD 76 undef, a'.tmps.getD 77 undef, a'.tmps.getD 78 undef, a'.tmps.getD 79 undef, a'.tmps.getD 80 undef, a'.tmps.getD 81 undef, a'.tmps.getD 82 undef, a'.tmps.getD 83 undef, a'.tmps.getD 84 undef, a'.tmps.getD 85 undef, a'.tmps.getD 86 undef, a'.tmps.getD 87 undef, a'.tmps.getD 88 undef, a'.tmps.getD 89 undef, a'.tmps.getD 90 undef, a'.tmps.getD 91 undef, a'.tmps.getD 92 undef, a'.tmps.getD 93 undef, a'.tmps.getD 94 undef, a'.tmps.getD 95 undef, a'.tmps.getD 96 undef, a'.tmps.getD 97 undef, a'.tmps.getD 98 undef, a'.tmps.getD 99 undef, a'.tmps.getD 100 undef, a'.tmps.getD 101 undef, a'.tmps.getD 102 undef, a'.tmps.getD 103 undef, a'.tmps.getD 104 undef, a'.tmps.getD 105 undef, a'.tmps.getD 106 undef, a'.tmps.getD 107 undef, a'.tmps.getD 108 undef, a'.tmps.getD 109 undef, a'.tmps.getD 110 undef, a'.tmps.getD 111 undef], defers := [] }) (h : MemOf M mb (N + 1) f w') (h2 : AdvAt E 3 at' pos cnt g w') (h3 : Mod (foot M mb E) w w') :
    AdvJ M mb N E f at' pos cnt g w a' w' := ⟨⟨fun k => a'.tmps.getD k undef, ha⟩, h, h2, h3⟩

set_option maxHeartbeats 2000000 in
set_option maxRecDepth 100000 in
theorem adv_step2 {M mb N E : Nat} {f : Adr → Int} {at' pos cnt : Int} {g : Bool} {w : World} (hM : MemOf M mb N f w) (hn : f nAdr = 2) (hp : pos < 8) (hE : AdvAt E 2 at' pos cnt g w) (hEM : E ≠ M) (hEm : E ≠ mb) :
    Calls Try.prog 34 #[.pointer (some ⟨E, 0, none⟩), .pointer (some ⟨M, 0, none⟩)] w (AdvPost M mb N E false f 3 at' pos 8 g w) := by
  obtain ⟨s, L, hM⟩ := hM
  have hc0 : w.cell? ⟨E, 0, none⟩ = some (.int .i64 2) := cell_of hE rfl
  have hc1 : w.cell? ⟨E, 1, none⟩ = some (.int .u64 at') := cell_of hE rfl
  have hc2 : w.cell? ⟨E, 2, none⟩ = some (.int .i64 pos) := cell_of hE rfl
  have hc3 : w.cell? ⟨E, 3, none⟩ = some (.int .i64 cnt) := cell_of hE rfl
  have hc4 : w.cell? ⟨E, 4, none⟩ = some (.bool g) := cell_of hE rfl
  have hlt := lt_of_block hE
  have HM := Lib.hid hM
  have HE := Lib.hid hE
  clear hM hE
  go_enter Try.func34, Try.ntmps34
  go_wp2_with fail
  refine wp_scope_jumps 0 (AdvJ M mb N E f at' (pos) 8 g w) (fun _ _ => 0) rfl ?first ?pass
  case first =>
    go_wp2_with fail
    refine (adv_over hc0).mono ?_
    rintro _ w ⟨rfl, rfl⟩
    go_wp2_with fail
    have hwn : adrVal nAdr = .agg #[.int .u8 5, .int .i64 0, .int .i64 0] := rfl
    rw [← hwn]
    have HN := Lib.hid hn
    clear hn hwn
    refine (load_any HM.out nWf).mono ?_
    rintro _ w2 ⟨rfl, hM2, hm2⟩
    rw [HN.out]
    have hE2 := hm2.keep HE.out (fun h => h.elim hEM hEm)
    have HM2 := Lib.hid hM2
    have HM3 := Lib.hid hm2
    clear hc0 hc1 hc2 hc3 hc4 hM2 hm2
    have hc0 : w2.cell? ⟨E, 0, none⟩ = some (.int .i64 2) := cell_of hE2 rfl
    have hc1 : w2.cell? ⟨E, 1, none⟩ = some (.int .u64 at') := cell_of hE2 rfl
    have hc2 : w2.cell? ⟨E, 2, none⟩ = some (.int .i64 pos) := cell_of hE2 rfl
    have hc3 : w2.cell? ⟨E, 3, none⟩ = some (.int .i64 cnt) := cell_of hE2 rfl
    have hc4 : w2.cell? ⟨E, 4, none⟩ = some (.bool g) := cell_of hE2 rfl
    have hf0 := free_of hE2 (i := 0)
    have hf1 := free_of hE2 (i := 1)
    have hf2 := free_of hE2 (i := 2)
    have hf3 := free_of hE2 (i := 3)
    have HE2 := Lib.hid hE2
    clear hE2
    go_wp2_with fail
    go_step3
    have hs := ((Mod.refl (fun b => b = E) w2).setCell (p := ⟨E, 3, none⟩) (fun _ => rfl) (.int .i64 8)).setCell (p := ⟨E, 0, none⟩) (fun _ => rfl) (.int .i64 3)
    have hE3 := heap_setCell_same (i := 0) (heap_setCell_same (i := 3) HE2.out (.int .i64 8)) (.int .i64 3)
    simp only [Exit.inBlock, Exit.then, Exit.jump]
    refine ⟨trivial, ?_⟩
    refine AdvJ.make (by rfl) ⟨_, _, HM2.out.mod hs (fun e => hEM e.symm) (fun e => hEm e.symm)⟩ hE3 ((HM3.out.weaken (fun _ _ h => .inl h)).trans hs (fun _ _ h => .inr h))
  case pass =>
    rintro a' w' ⟨⟨u, rfl⟩, hM', hA', hmod'⟩
    have hc2 : w'.cell? ⟨E, 2, none⟩ = some (.int .i64 pos) := cell_of hA' rfl
    have hc3 : w'.cell? ⟨E, 3, none⟩ = some (.int .i64 8) := cell_of hA' rfl
    have HM' := Lib.hid hM'
    have HA' := Lib.hid hA'
    have HO' := Lib.hid hmod'
    clear hM' hA' hmod'
    go_wp2_with fail
    go_quiet (fail)
    have HMq : Hid (Mod (fun _ => False) w' (w'.drewN nq)) := (Mod.refl (fun _ => False) w').drewN nq
    have hAq := HMq.out.keep HA'.out (fun h => h)
    generalize w'.drewN nq = wq at HMq hAq ⊢
    clear hc2 hc3
    have hc0 : wq.cell? ⟨E, 0, none⟩ = some (.int .i64 3) := cell_of hAq rfl
    have hf0 := free_of hAq (i := 0)
    have HAq := Lib.hid hAq
    clear hAq
    go_wp2_with fail
    simp only [Exit.jump]
    go_ret
    obtain ⟨s', L', hm'⟩ := HM'.out
    exact ⟨rfl, ⟨s', L', hm'.mod HMq.out (fun h => h) (fun h => h)⟩, HAq.out, HO'.out.trans HMq.out (fun _ _ h => h.elim)⟩
end Go.Proofs.Ytjnbkpklcmkdlaa
