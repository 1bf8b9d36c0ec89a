/- The document's taker: a word of a row: words 7, 8, 9. -/
import Derived.Test.YtjnbkpklcmkdlaaSJ
namespace Go.Proofs.Ytjnbkpklcmkdlaa
open Go.RowKit

set_option maxHeartbeats 4000000 in
set_option maxRecDepth 100000 in
theorem ron_7 {fp fpu : Nat → Prop} {R N U n i : Nat} {f : Adr → Int} {s x : Int} {L : Acc} {Rw : Nat → Nat → Int} {w : World} (h : RefAt fp R N f s L w) (hN : N ≤ 99999) (ht : RTis fpu U (.on n i 7 Rw) w) (hd : ∀ x, fpu x → ¬ fp x) (hok : (TSt.on n i 7 Rw).ok) (hfr : (TSt.on n i 7 Rw).fresh) (hx : f (tAdr i 7) = x) :
    Calls Try.prog 23 #[.pointer (some ⟨U, 0, none⟩), .pointer (some ⟨R, 0, none⟩)] w (RStpPost fp fpu R N U f s (tAdr i 7) (tNext f (.on n i 7 Rw)) w) := by
  have he := tNext_on (n := n) (i := i) (j := 7) (R := Rw) hx
  obtain ⟨t', ht'⟩ : ∃ t', tNext f (.on n i 7 Rw) = t' := ⟨_, rfl⟩
  rw [ht'] at he ⊢
  have HE := Lib.hid he
  clear he ht'
  obtain ⟨hin, hn16, _⟩ := hok
  obtain ⟨hn4, hz⟩ := hfr
  obtain ⟨v, hT⟩ := ht
  obtain ⟨q, hq⟩ : ∃ q, n / 4 = q := ⟨_, rfl⟩
  rw [hq] at hT
  have hnq : n = 4 * q := by omega
  have hq4 : q ≤ 4 := by omega
  replace hT : RTk fpu U v 2 (i + 1) Rw (q : Int) 7 w := hT
  obtain ⟨g, cp, rfl⟩ : ∃ g cp, v = .slice (some ⟨g, 0, none⟩) (i + 1) cp := by
    rcases hT.row.2 with ⟨rfl, h0⟩ | ⟨g, cp, cur, rfl, _⟩
    · omega
    · exact ⟨g, cp, rfl⟩
  have c0 : w.cell? ⟨U, 0, none⟩ = some (.int .i64 2) := cell_of hT.own rfl
  have c1 : w.cell? ⟨U, 1, none⟩ = some (.slice (some ⟨g, 0, none⟩) (i + 1) cp) := cell_of hT.own rfl
  have c4 : w.cell? ⟨U, 4, none⟩ = some (.int .i64 7) := cell_of hT.own rfl
  have hlt := lt_of_block hT.own
  have hUR : ¬ R = U := fun e => hd _ hT.fpU (e ▸ h.fpR)
  have hgU : g ≠ U := (hT.fpv g rfl).2
  have hUg : ¬ U = g := fun e => hgU e.symm
  have HTa := Lib.hid hT
  have HRa := Lib.hid h
  have HDm := Lib.hid hd
  have HX := Lib.hid hx
  have HQ := Lib.hid hq
  have HTurn : Hid (Turn (fun y => y = R ∨ fpu y) (fun y => y = R ∨ fpu y) w w) := Turn.refl _ _
  clear h hT hd hx hz hq
  obtain ⟨wa, hwa⟩ : ∃ wa, wa = w := ⟨_, rfl⟩
  go_enter Try.func23, Try.ntmps23
  go_wp2_with fail
  clear c0 c1 c4
  refine (rload_any HRa.out hN (tAdr i 7)).mono ?_
  rintro _ w2 ⟨rfl, hR2, hm2⟩
  have HR2 := Lib.hid hR2
  have HO2 := Lib.hid hm2
  have HT2 := Lib.hid (HTa.out.keep hm2 (fun y hy e => HDm.out y hy (e ▸ HRa.out.fpR)))
  clear hR2 hm2
  rw [HX.out]
  have c0 : w2.cell? ⟨U, 0, none⟩ = some (.int .i64 2) := cell_of HT2.out.own rfl
  have c1 : w2.cell? ⟨U, 1, none⟩ = some (.slice (some ⟨g, 0, none⟩) (i + 1) cp) := cell_of HT2.out.own rfl
  have c3 : w2.cell? ⟨U, 3, none⟩ = some (.int .i64 q) := cell_of HT2.out.own rfl
  have c4 : w2.cell? ⟨U, 4, none⟩ = some (.int .i64 7) := cell_of HT2.out.own rfl
  have f0 := free_of (i := 0) HT2.out.own
  have f4 := free_of (i := 4) HT2.out.own
  obtain ⟨k0, k1⟩ := HT2.out.cell (i := i) (j := 7) (by omega) (by decide)
  obtain ⟨k2, _⟩ := HT2.out.cell (i := i) (j := 0) (by omega) (by decide)
  simp only [Nat.add_zero] at k2
  have HOW : Hid (updR Rw i 7 x i 0 = Rw i 0) := by unfold Hid updR; simp
  have hi1 : (i : Int) < ((i + 1 : Nat) : Int) := by omega
  have hi0 : (0 : Int) ≤ (i : Int) := by omega
  have hgl2 : g < w2.heap.size := HT2.out.lt g (HT2.out.fpv g rfl).1
  have hUl2 : U < w2.heap.size := lt_of_block HT2.out.own
  have dbl : (((w2.setCell ⟨g, i * 10 + 7, none⟩ (.int .u64 x)).setCell ⟨U, 4, none⟩ (.int .i64 8)).setCell ⟨U, 4, none⟩ (.int .i64 0)).cell? ⟨U, 4, none⟩ = some (.int .i64 0) := cell_of (heap_setCell_same (i := 4) (heap_setCell_same (i := 4) (heap_setCell_other HT2.out.own (fun e => hUg e) _) _) _) rfl
  by_cases h0 : (Rw i 0) = 0
  · have t1 : ((Rw i 0) == 0) = true := by simpa using h0
    have H0 := Lib.hid h0
    clear h0
    by_cases hl : i + 1 = n
    · have t3 : ((i : Int) + 1 == 4 * (q : Int)) = true := by simp; omega
      have HLN := Lib.hid hnq
      have HLL := Lib.hid hl
      clear hnq hl
      go_wp2_with fail
      go_end0
      have hp := HT2.out.put (i := i) (j := 7) (by decide) x
      have hpm := (Mod.refl (fun y => y = g) w2).setCell (p := ⟨g, i * 10 + 7, none⟩) (fun _ => rfl) (.int .u64 x)
      have hs := ((((Mod.refl (fun y => y = U) (w2.setCell ⟨g, i * 10 + 7, none⟩ (.int .u64 x))).setCell (p := ⟨U, 4, none⟩) (fun _ => rfl) (.int .i64 8)).setCell (p := ⟨U, 4, none⟩) (fun _ => rfl) (.int .i64 0)).setCell (p := ⟨U, 0, none⟩) (fun _ => rfl) (.int .i64 0))
      have ho := (heap_setCell_same (i := 0) (heap_setCell_same (i := 4) (heap_setCell_same (i := 4) hp.own (.int .i64 8)) (.int .i64 0)) (.int .i64 0))
      have hall : Mod (fun y => y = U ∨ y = g) w2 ((((w2.setCell ⟨g, i * 10 + 7, none⟩ (.int .u64 x)).setCell ⟨U, 4, none⟩ (.int .i64 8)).setCell ⟨U, 4, none⟩ (.int .i64 0)).setCell ⟨U, 0, none⟩ (.int .i64 0)) := (hpm.weaken (fun _ _ h => .inr h)).trans hs (fun _ _ h => .inl h)
      generalize ((((w2.setCell ⟨g, i * 10 + 7, none⟩ (.int .u64 x)).setCell ⟨U, 4, none⟩ (.int .i64 8)).setCell ⟨U, 4, none⟩ (.int .i64 0)).setCell ⟨U, 0, none⟩ (.int .i64 0)) = w3 at hs ho hall ⊢
      have hfg := (HT2.out.fpv g rfl).1
      have hfU := HT2.out.fpU
      refine ⟨rfl, HR2.out.keep hall (fun y hy e => ?_), fpu, ?_, HTurn.out.trans ⟨(HO2.out.weaken (fun _ _ h => .inl h)).trans hall (fun y _ h => ?_), fun _ h => .inl h⟩, fun _ h => .inl h⟩
      · rcases e with e | e
        · exact HDm.out y (by rw [e]; exact hfU) hy
        · exact HDm.out y (by rw [e]; exact hfg) hy
      · rw [HE.out, if_pos (.inl (HOW.out.trans H0.out)), if_pos HLL.out]
        exact ⟨_, by have := hp.setOwn hs ho; rw [HQ.out, ← HLL.out]; simpa using this⟩
      · rcases h with h | h
        · rw [h]; exact .inr hfU
        · rw [h]; exact .inr hfg
    · have t3 : ((i : Int) + 1 == 4 * (q : Int)) = false := by simp; omega
      have HLN := Lib.hid hnq
      have HLL := Lib.hid hl
      clear hnq hl
      go_wp2_with fail
      go_end0
      have hp := HT2.out.put (i := i) (j := 7) (by decide) x
      have hpm := (Mod.refl (fun y => y = g) w2).setCell (p := ⟨g, i * 10 + 7, none⟩) (fun _ => rfl) (.int .u64 x)
      have hs := (((Mod.refl (fun y => y = U) (w2.setCell ⟨g, i * 10 + 7, none⟩ (.int .u64 x))).setCell (p := ⟨U, 4, none⟩) (fun _ => rfl) (.int .i64 8)).setCell (p := ⟨U, 4, none⟩) (fun _ => rfl) (.int .i64 0))
      have ho := (heap_setCell_same (i := 4) (heap_setCell_same (i := 4) hp.own (.int .i64 8)) (.int .i64 0))
      have hall : Mod (fun y => y = U ∨ y = g) w2 (((w2.setCell ⟨g, i * 10 + 7, none⟩ (.int .u64 x)).setCell ⟨U, 4, none⟩ (.int .i64 8)).setCell ⟨U, 4, none⟩ (.int .i64 0)) := (hpm.weaken (fun _ _ h => .inr h)).trans hs (fun _ _ h => .inl h)
      generalize (((w2.setCell ⟨g, i * 10 + 7, none⟩ (.int .u64 x)).setCell ⟨U, 4, none⟩ (.int .i64 8)).setCell ⟨U, 4, none⟩ (.int .i64 0)) = w3 at hs ho hall ⊢
      have hfg := (HT2.out.fpv g rfl).1
      have hfU := HT2.out.fpU
      refine ⟨rfl, HR2.out.keep hall (fun y hy e => ?_), fpu, ?_, HTurn.out.trans ⟨(HO2.out.weaken (fun _ _ h => .inl h)).trans hall (fun y _ h => ?_), fun _ h => .inl h⟩, fun _ h => .inl h⟩
      · rcases e with e | e
        · exact HDm.out y (by rw [e]; exact hfU) hy
        · exact HDm.out y (by rw [e]; exact hfg) hy
      · rw [HE.out, if_pos (.inl (HOW.out.trans H0.out)), if_neg HLL.out]
        exact ⟨_, by have := hp.setOwn hs ho; rw [HQ.out]; simpa using this⟩
      · rcases h with h | h
        · rw [h]; exact .inr hfU
        · rw [h]; exact .inr hfg
  · have t1 : ((Rw i 0) == 0) = false := by simpa using h0
    have H0 := Lib.hid h0
    clear h0
    have HLN := Lib.hid hnq
    clear hnq
    go_wp2_with fail
    go_end0
    have hp := HT2.out.put (i := i) (j := 7) (by decide) x
    have hpm := (Mod.refl (fun y => y = g) w2).setCell (p := ⟨g, i * 10 + 7, none⟩) (fun _ => rfl) (.int .u64 x)
    have hs := ((Mod.refl (fun y => y = U) (w2.setCell ⟨g, i * 10 + 7, none⟩ (.int .u64 x))).setCell (p := ⟨U, 4, none⟩) (fun _ => rfl) (.int .i64 8))
    have ho := (heap_setCell_same (i := 4) hp.own (.int .i64 8))
    have hall : Mod (fun y => y = U ∨ y = g) w2 ((w2.setCell ⟨g, i * 10 + 7, none⟩ (.int .u64 x)).setCell ⟨U, 4, none⟩ (.int .i64 8)) := (hpm.weaken (fun _ _ h => .inr h)).trans hs (fun _ _ h => .inl h)
    generalize ((w2.setCell ⟨g, i * 10 + 7, none⟩ (.int .u64 x)).setCell ⟨U, 4, none⟩ (.int .i64 8)) = w3 at hs ho hall ⊢
    have hfg := (HT2.out.fpv g rfl).1
    have hfU := HT2.out.fpU
    refine ⟨rfl, HR2.out.keep hall (fun y hy e => ?_), fpu, ?_, HTurn.out.trans ⟨(HO2.out.weaken (fun _ _ h => .inl h)).trans hall (fun y _ h => ?_), fun _ h => .inl h⟩, fun _ h => .inl h⟩
    · rcases e with e | e
      · exact HDm.out y (by rw [e]; exact hfU) hy
      · exact HDm.out y (by rw [e]; exact hfg) hy
    · rw [HE.out, if_neg (fun h => h.elim (fun h => H0.out (HOW.out.symm.trans h)) (by decide))]
      exact ⟨_, by have := hp.setOwn hs ho; rw [HQ.out]; simpa using this⟩
    · rcases h with h | h
      · rw [h]; exact .inr hfU
      · rw [h]; exact .inr hfg
set_option maxHeartbeats 4000000 in
set_option maxRecDepth 100000 in
theorem ron_8 {fp fpu : Nat → Prop} {R N U n i : Nat} {f : Adr → Int} {s x : Int} {L : Acc} {Rw : Nat → Nat → Int} {w : World} (h : RefAt fp R N f s L w) (hN : N ≤ 99999) (ht : RTis fpu U (.on n i 8 Rw) w) (hd : ∀ x, fpu x → ¬ fp x) (hok : (TSt.on n i 8 Rw).ok) (hfr : (TSt.on n i 8 Rw).fresh) (hx : f (tAdr i 8) = x) :
    Calls Try.prog 23 #[.pointer (some ⟨U, 0, none⟩), .pointer (some ⟨R, 0, none⟩)] w (RStpPost fp fpu R N U f s (tAdr i 8) (tNext f (.on n i 8 Rw)) w) := by
  have he := tNext_on (n := n) (i := i) (j := 8) (R := Rw) hx
  obtain ⟨t', ht'⟩ : ∃ t', tNext f (.on n i 8 Rw) = t' := ⟨_, rfl⟩
  rw [ht'] at he ⊢
  have HE := Lib.hid he
  clear he ht'
  obtain ⟨hin, hn16, _⟩ := hok
  obtain ⟨hn4, hz⟩ := hfr
  obtain ⟨v, hT⟩ := ht
  obtain ⟨q, hq⟩ : ∃ q, n / 4 = q := ⟨_, rfl⟩
  rw [hq] at hT
  have hnq : n = 4 * q := by omega
  have hq4 : q ≤ 4 := by omega
  replace hT : RTk fpu U v 2 (i + 1) Rw (q : Int) 8 w := hT
  obtain ⟨g, cp, rfl⟩ : ∃ g cp, v = .slice (some ⟨g, 0, none⟩) (i + 1) cp := by
    rcases hT.row.2 with ⟨rfl, h0⟩ | ⟨g, cp, cur, rfl, _⟩
    · omega
    · exact ⟨g, cp, rfl⟩
  have c0 : w.cell? ⟨U, 0, none⟩ = some (.int .i64 2) := cell_of hT.own rfl
  have c1 : w.cell? ⟨U, 1, none⟩ = some (.slice (some ⟨g, 0, none⟩) (i + 1) cp) := cell_of hT.own rfl
  have c4 : w.cell? ⟨U, 4, none⟩ = some (.int .i64 8) := cell_of hT.own rfl
  have hlt := lt_of_block hT.own
  have hUR : ¬ R = U := fun e => hd _ hT.fpU (e ▸ h.fpR)
  have hgU : g ≠ U := (hT.fpv g rfl).2
  have hUg : ¬ U = g := fun e => hgU e.symm
  have HTa := Lib.hid hT
  have HRa := Lib.hid h
  have HDm := Lib.hid hd
  have HX := Lib.hid hx
  have HQ := Lib.hid hq
  have HTurn : Hid (Turn (fun y => y = R ∨ fpu y) (fun y => y = R ∨ fpu y) w w) := Turn.refl _ _
  clear h hT hd hx hz hq
  obtain ⟨wa, hwa⟩ : ∃ wa, wa = w := ⟨_, rfl⟩
  go_enter Try.func23, Try.ntmps23
  go_wp2_with fail
  clear c0 c1 c4
  refine (rload_any HRa.out hN (tAdr i 8)).mono ?_
  rintro _ w2 ⟨rfl, hR2, hm2⟩
  have HR2 := Lib.hid hR2
  have HO2 := Lib.hid hm2
  have HT2 := Lib.hid (HTa.out.keep hm2 (fun y hy e => HDm.out y hy (e ▸ HRa.out.fpR)))
  clear hR2 hm2
  rw [HX.out]
  have c0 : w2.cell? ⟨U, 0, none⟩ = some (.int .i64 2) := cell_of HT2.out.own rfl
  have c1 : w2.cell? ⟨U, 1, none⟩ = some (.slice (some ⟨g, 0, none⟩) (i + 1) cp) := cell_of HT2.out.own rfl
  have c3 : w2.cell? ⟨U, 3, none⟩ = some (.int .i64 q) := cell_of HT2.out.own rfl
  have c4 : w2.cell? ⟨U, 4, none⟩ = some (.int .i64 8) := cell_of HT2.out.own rfl
  have f0 := free_of (i := 0) HT2.out.own
  have f4 := free_of (i := 4) HT2.out.own
  obtain ⟨k0, k1⟩ := HT2.out.cell (i := i) (j := 8) (by omega) (by decide)
  obtain ⟨k2, _⟩ := HT2.out.cell (i := i) (j := 0) (by omega) (by decide)
  simp only [Nat.add_zero] at k2
  have HOW : Hid (updR Rw i 8 x i 0 = Rw i 0) := by unfold Hid updR; simp
  have hi1 : (i : Int) < ((i + 1 : Nat) : Int) := by omega
  have hi0 : (0 : Int) ≤ (i : Int) := by omega
  have hgl2 : g < w2.heap.size := HT2.out.lt g (HT2.out.fpv g rfl).1
  have hUl2 : U < w2.heap.size := lt_of_block HT2.out.own
  have dbl : (((w2.setCell ⟨g, i * 10 + 8, none⟩ (.int .u64 x)).setCell ⟨U, 4, none⟩ (.int .i64 9)).setCell ⟨U, 4, none⟩ (.int .i64 0)).cell? ⟨U, 4, none⟩ = some (.int .i64 0) := cell_of (heap_setCell_same (i := 4) (heap_setCell_same (i := 4) (heap_setCell_other HT2.out.own (fun e => hUg e) _) _) _) rfl
  by_cases h0 : (Rw i 0) = 0
  · have t1 : ((Rw i 0) == 0) = true := by simpa using h0
    have H0 := Lib.hid h0
    clear h0
    by_cases hl : i + 1 = n
    · have t3 : ((i : Int) + 1 == 4 * (q : Int)) = true := by simp; omega
      have HLN := Lib.hid hnq
      have HLL := Lib.hid hl
      clear hnq hl
      go_wp2_with fail
      go_end0
      have hp := HT2.out.put (i := i) (j := 8) (by decide) x
      have hpm := (Mod.refl (fun y => y = g) w2).setCell (p := ⟨g, i * 10 + 8, none⟩) (fun _ => rfl) (.int .u64 x)
      have hs := ((((Mod.refl (fun y => y = U) (w2.setCell ⟨g, i * 10 + 8, none⟩ (.int .u64 x))).setCell (p := ⟨U, 4, none⟩) (fun _ => rfl) (.int .i64 9)).setCell (p := ⟨U, 4, none⟩) (fun _ => rfl) (.int .i64 0)).setCell (p := ⟨U, 0, none⟩) (fun _ => rfl) (.int .i64 0))
      have ho := (heap_setCell_same (i := 0) (heap_setCell_same (i := 4) (heap_setCell_same (i := 4) hp.own (.int .i64 9)) (.int .i64 0)) (.int .i64 0))
      have hall : Mod (fun y => y = U ∨ y = g) w2 ((((w2.setCell ⟨g, i * 10 + 8, none⟩ (.int .u64 x)).setCell ⟨U, 4, none⟩ (.int .i64 9)).setCell ⟨U, 4, none⟩ (.int .i64 0)).setCell ⟨U, 0, none⟩ (.int .i64 0)) := (hpm.weaken (fun _ _ h => .inr h)).trans hs (fun _ _ h => .inl h)
      generalize ((((w2.setCell ⟨g, i * 10 + 8, none⟩ (.int .u64 x)).setCell ⟨U, 4, none⟩ (.int .i64 9)).setCell ⟨U, 4, none⟩ (.int .i64 0)).setCell ⟨U, 0, none⟩ (.int .i64 0)) = w3 at hs ho hall ⊢
      have hfg := (HT2.out.fpv g rfl).1
      have hfU := HT2.out.fpU
      refine ⟨rfl, HR2.out.keep hall (fun y hy e => ?_), fpu, ?_, HTurn.out.trans ⟨(HO2.out.weaken (fun _ _ h => .inl h)).trans hall (fun y _ h => ?_), fun _ h => .inl h⟩, fun _ h => .inl h⟩
      · rcases e with e | e
        · exact HDm.out y (by rw [e]; exact hfU) hy
        · exact HDm.out y (by rw [e]; exact hfg) hy
      · rw [HE.out, if_pos (.inl (HOW.out.trans H0.out)), if_pos HLL.out]
        exact ⟨_, by have := hp.setOwn hs ho; rw [HQ.out, ← HLL.out]; simpa using this⟩
      · rcases h with h | h
        · rw [h]; exact .inr hfU
        · rw [h]; exact .inr hfg
    · have t3 : ((i : Int) + 1 == 4 * (q : Int)) = false := by simp; omega
      have HLN := Lib.hid hnq
      have HLL := Lib.hid hl
      clear hnq hl
      go_wp2_with fail
      go_end0
      have hp := HT2.out.put (i := i) (j := 8) (by decide) x
      have hpm := (Mod.refl (fun y => y = g) w2).setCell (p := ⟨g, i * 10 + 8, none⟩) (fun _ => rfl) (.int .u64 x)
      have hs := (((Mod.refl (fun y => y = U) (w2.setCell ⟨g, i * 10 + 8, none⟩ (.int .u64 x))).setCell (p := ⟨U, 4, none⟩) (fun _ => rfl) (.int .i64 9)).setCell (p := ⟨U, 4, none⟩) (fun _ => rfl) (.int .i64 0))
      have ho := (heap_setCell_same (i := 4) (heap_setCell_same (i := 4) hp.own (.int .i64 9)) (.int .i64 0))
      have hall : Mod (fun y => y = U ∨ y = g) w2 (((w2.setCell ⟨g, i * 10 + 8, none⟩ (.int .u64 x)).setCell ⟨U, 4, none⟩ (.int .i64 9)).setCell ⟨U, 4, none⟩ (.int .i64 0)) := (hpm.weaken (fun _ _ h => .inr h)).trans hs (fun _ _ h => .inl h)
      generalize (((w2.setCell ⟨g, i * 10 + 8, none⟩ (.int .u64 x)).setCell ⟨U, 4, none⟩ (.int .i64 9)).setCell ⟨U, 4, none⟩ (.int .i64 0)) = w3 at hs ho hall ⊢
      have hfg := (HT2.out.fpv g rfl).1
      have hfU := HT2.out.fpU
      refine ⟨rfl, HR2.out.keep hall (fun y hy e => ?_), fpu, ?_, HTurn.out.trans ⟨(HO2.out.weaken (fun _ _ h => .inl h)).trans hall (fun y _ h => ?_), fun _ h => .inl h⟩, fun _ h => .inl h⟩
      · rcases e with e | e
        · exact HDm.out y (by rw [e]; exact hfU) hy
        · exact HDm.out y (by rw [e]; exact hfg) hy
      · rw [HE.out, if_pos (.inl (HOW.out.trans H0.out)), if_neg HLL.out]
        exact ⟨_, by have := hp.setOwn hs ho; rw [HQ.out]; simpa using this⟩
      · rcases h with h | h
        · rw [h]; exact .inr hfU
        · rw [h]; exact .inr hfg
  · have t1 : ((Rw i 0) == 0) = false := by simpa using h0
    have H0 := Lib.hid h0
    clear h0
    have HLN := Lib.hid hnq
    clear hnq
    go_wp2_with fail
    go_end0
    have hp := HT2.out.put (i := i) (j := 8) (by decide) x
    have hpm := (Mod.refl (fun y => y = g) w2).setCell (p := ⟨g, i * 10 + 8, none⟩) (fun _ => rfl) (.int .u64 x)
    have hs := ((Mod.refl (fun y => y = U) (w2.setCell ⟨g, i * 10 + 8, none⟩ (.int .u64 x))).setCell (p := ⟨U, 4, none⟩) (fun _ => rfl) (.int .i64 9))
    have ho := (heap_setCell_same (i := 4) hp.own (.int .i64 9))
    have hall : Mod (fun y => y = U ∨ y = g) w2 ((w2.setCell ⟨g, i * 10 + 8, none⟩ (.int .u64 x)).setCell ⟨U, 4, none⟩ (.int .i64 9)) := (hpm.weaken (fun _ _ h => .inr h)).trans hs (fun _ _ h => .inl h)
    generalize ((w2.setCell ⟨g, i * 10 + 8, none⟩ (.int .u64 x)).setCell ⟨U, 4, none⟩ (.int .i64 9)) = w3 at hs ho hall ⊢
    have hfg := (HT2.out.fpv g rfl).1
    have hfU := HT2.out.fpU
    refine ⟨rfl, HR2.out.keep hall (fun y hy e => ?_), fpu, ?_, HTurn.out.trans ⟨(HO2.out.weaken (fun _ _ h => .inl h)).trans hall (fun y _ h => ?_), fun _ h => .inl h⟩, fun _ h => .inl h⟩
    · rcases e with e | e
      · exact HDm.out y (by rw [e]; exact hfU) hy
      · exact HDm.out y (by rw [e]; exact hfg) hy
    · rw [HE.out, if_neg (fun h => h.elim (fun h => H0.out (HOW.out.symm.trans h)) (by decide))]
      exact ⟨_, by have := hp.setOwn hs ho; rw [HQ.out]; simpa using this⟩
    · rcases h with h | h
      · rw [h]; exact .inr hfU
      · rw [h]; exact .inr hfg
set_option maxHeartbeats 4000000 in
set_option maxRecDepth 100000 in
theorem ron_9 {fp fpu : Nat → Prop} {R N U n i : Nat} {f : Adr → Int} {s x : Int} {L : Acc} {Rw : Nat → Nat → Int} {w : World} (h : RefAt fp R N f s L w) (hN : N ≤ 99999) (ht : RTis fpu U (.on n i 9 Rw) w) (hd : ∀ x, fpu x → ¬ fp x) (hok : (TSt.on n i 9 Rw).ok) (hfr : (TSt.on n i 9 Rw).fresh) (hx : f (tAdr i 9) = x) :
    Calls Try.prog 23 #[.pointer (some ⟨U, 0, none⟩), .pointer (some ⟨R, 0, none⟩)] w (RStpPost fp fpu R N U f s (tAdr i 9) (tNext f (.on n i 9 Rw)) w) := by
  have he := tNext_on (n := n) (i := i) (j := 9) (R := Rw) hx
  obtain ⟨t', ht'⟩ : ∃ t', tNext f (.on n i 9 Rw) = t' := ⟨_, rfl⟩
  rw [ht'] at he ⊢
  have HE := Lib.hid he
  clear he ht'
  obtain ⟨hin, hn16, _⟩ := hok
  obtain ⟨hn4, hz⟩ := hfr
  obtain ⟨v, hT⟩ := ht
  obtain ⟨q, hq⟩ : ∃ q, n / 4 = q := ⟨_, rfl⟩
  rw [hq] at hT
  have hnq : n = 4 * q := by omega
  have hq4 : q ≤ 4 := by omega
  replace hT : RTk fpu U v 2 (i + 1) Rw (q : Int) 9 w := hT
  obtain ⟨g, cp, rfl⟩ : ∃ g cp, v = .slice (some ⟨g, 0, none⟩) (i + 1) cp := by
    rcases hT.row.2 with ⟨rfl, h0⟩ | ⟨g, cp, cur, rfl, _⟩
    · omega
    · exact ⟨g, cp, rfl⟩
  have c0 : w.cell? ⟨U, 0, none⟩ = some (.int .i64 2) := cell_of hT.own rfl
  have c1 : w.cell? ⟨U, 1, none⟩ = some (.slice (some ⟨g, 0, none⟩) (i + 1) cp) := cell_of hT.own rfl
  have c4 : w.cell? ⟨U, 4, none⟩ = some (.int .i64 9) := cell_of hT.own rfl
  have hlt := lt_of_block hT.own
  have hUR : ¬ R = U := fun e => hd _ hT.fpU (e ▸ h.fpR)
  have hgU : g ≠ U := (hT.fpv g rfl).2
  have hUg : ¬ U = g := fun e => hgU e.symm
  have HTa := Lib.hid hT
  have HRa := Lib.hid h
  have HDm := Lib.hid hd
  have HX := Lib.hid hx
  have HQ := Lib.hid hq
  have HTurn : Hid (Turn (fun y => y = R ∨ fpu y) (fun y => y = R ∨ fpu y) w w) := Turn.refl _ _
  clear h hT hd hx hz hq
  obtain ⟨wa, hwa⟩ : ∃ wa, wa = w := ⟨_, rfl⟩
  go_enter Try.func23, Try.ntmps23
  go_wp2_with fail
  clear c0 c1 c4
  refine (rload_any HRa.out hN (tAdr i 9)).mono ?_
  rintro _ w2 ⟨rfl, hR2, hm2⟩
  have HR2 := Lib.hid hR2
  have HO2 := Lib.hid hm2
  have HT2 := Lib.hid (HTa.out.keep hm2 (fun y hy e => HDm.out y hy (e ▸ HRa.out.fpR)))
  clear hR2 hm2
  rw [HX.out]
  have c0 : w2.cell? ⟨U, 0, none⟩ = some (.int .i64 2) := cell_of HT2.out.own rfl
  have c1 : w2.cell? ⟨U, 1, none⟩ = some (.slice (some ⟨g, 0, none⟩) (i + 1) cp) := cell_of HT2.out.own rfl
  have c3 : w2.cell? ⟨U, 3, none⟩ = some (.int .i64 q) := cell_of HT2.out.own rfl
  have c4 : w2.cell? ⟨U, 4, none⟩ = some (.int .i64 9) := cell_of HT2.out.own rfl
  have f0 := free_of (i := 0) HT2.out.own
  have f4 := free_of (i := 4) HT2.out.own
  obtain ⟨k0, k1⟩ := HT2.out.cell (i := i) (j := 9) (by omega) (by decide)
  obtain ⟨k2, _⟩ := HT2.out.cell (i := i) (j := 0) (by omega) (by decide)
  simp only [Nat.add_zero] at k2
  have HOW : Hid (updR Rw i 9 x i 0 = Rw i 0) := by unfold Hid updR; simp
  have hi1 : (i : Int) < ((i + 1 : Nat) : Int) := by omega
  have hi0 : (0 : Int) ≤ (i : Int) := by omega
  have hgl2 : g < w2.heap.size := HT2.out.lt g (HT2.out.fpv g rfl).1
  have hUl2 : U < w2.heap.size := lt_of_block HT2.out.own
  have dbl : (((w2.setCell ⟨g, i * 10 + 9, none⟩ (.int .u64 x)).setCell ⟨U, 4, none⟩ (.int .i64 0)).setCell ⟨U, 4, none⟩ (.int .i64 0)).cell? ⟨U, 4, none⟩ = some (.int .i64 0) := cell_of (heap_setCell_same (i := 4) (heap_setCell_same (i := 4) (heap_setCell_other HT2.out.own (fun e => hUg e) _) _) _) rfl
  by_cases h0 : (Rw i 0) = 0
  · have t1 : ((Rw i 0) == 0) = true := by simpa using h0
    have H0 := Lib.hid h0
    clear h0
    by_cases hl : i + 1 = n
    · have t3 : ((i : Int) + 1 == 4 * (q : Int)) = true := by simp; omega
      have HLN := Lib.hid hnq
      have HLL := Lib.hid hl
      clear hnq hl
      go_wp2_with fail
      go_end0
      have hp := HT2.out.put (i := i) (j := 9) (by decide) x
      have hpm := (Mod.refl (fun y => y = g) w2).setCell (p := ⟨g, i * 10 + 9, none⟩) (fun _ => rfl) (.int .u64 x)
      have hs := ((((Mod.refl (fun y => y = U) (w2.setCell ⟨g, i * 10 + 9, none⟩ (.int .u64 x))).setCell (p := ⟨U, 4, none⟩) (fun _ => rfl) (.int .i64 0)).setCell (p := ⟨U, 4, none⟩) (fun _ => rfl) (.int .i64 0)).setCell (p := ⟨U, 0, none⟩) (fun _ => rfl) (.int .i64 0))
      have ho := (heap_setCell_same (i := 0) (heap_setCell_same (i := 4) (heap_setCell_same (i := 4) hp.own (.int .i64 0)) (.int .i64 0)) (.int .i64 0))
      have hall : Mod (fun y => y = U ∨ y = g) w2 ((((w2.setCell ⟨g, i * 10 + 9, none⟩ (.int .u64 x)).setCell ⟨U, 4, none⟩ (.int .i64 0)).setCell ⟨U, 4, none⟩ (.int .i64 0)).setCell ⟨U, 0, none⟩ (.int .i64 0)) := (hpm.weaken (fun _ _ h => .inr h)).trans hs (fun _ _ h => .inl h)
      generalize ((((w2.setCell ⟨g, i * 10 + 9, none⟩ (.int .u64 x)).setCell ⟨U, 4, none⟩ (.int .i64 0)).setCell ⟨U, 4, none⟩ (.int .i64 0)).setCell ⟨U, 0, none⟩ (.int .i64 0)) = w3 at hs ho hall ⊢
      have hfg := (HT2.out.fpv g rfl).1
      have hfU := HT2.out.fpU
      refine ⟨rfl, HR2.out.keep hall (fun y hy e => ?_), fpu, ?_, HTurn.out.trans ⟨(HO2.out.weaken (fun _ _ h => .inl h)).trans hall (fun y _ h => ?_), fun _ h => .inl h⟩, fun _ h => .inl h⟩
      · rcases e with e | e
        · exact HDm.out y (by rw [e]; exact hfU) hy
        · exact HDm.out y (by rw [e]; exact hfg) hy
      · rw [HE.out, if_pos (.inl (HOW.out.trans H0.out)), if_pos HLL.out]
        exact ⟨_, by have := hp.setOwn hs ho; rw [HQ.out, ← HLL.out]; simpa using this⟩
      · rcases h with h | h
        · rw [h]; exact .inr hfU
        · rw [h]; exact .inr hfg
    · have t3 : ((i : Int) + 1 == 4 * (q : Int)) = false := by simp; omega
      have HLN := Lib.hid hnq
      have HLL := Lib.hid hl
      clear hnq hl
      go_wp2_with fail
      go_end0
      have hp := HT2.out.put (i := i) (j := 9) (by decide) x
      have hpm := (Mod.refl (fun y => y = g) w2).setCell (p := ⟨g, i * 10 + 9, none⟩) (fun _ => rfl) (.int .u64 x)
      have hs := (((Mod.refl (fun y => y = U) (w2.setCell ⟨g, i * 10 + 9, none⟩ (.int .u64 x))).setCell (p := ⟨U, 4, none⟩) (fun _ => rfl) (.int .i64 0)).setCell (p := ⟨U, 4, none⟩) (fun _ => rfl) (.int .i64 0))
      have ho := (heap_setCell_same (i := 4) (heap_setCell_same (i := 4) hp.own (.int .i64 0)) (.int .i64 0))
      have hall : Mod (fun y => y = U ∨ y = g) w2 (((w2.setCell ⟨g, i * 10 + 9, none⟩ (.int .u64 x)).setCell ⟨U, 4, none⟩ (.int .i64 0)).setCell ⟨U, 4, none⟩ (.int .i64 0)) := (hpm.weaken (fun _ _ h => .inr h)).trans hs (fun _ _ h => .inl h)
      generalize (((w2.setCell ⟨g, i * 10 + 9, none⟩ (.int .u64 x)).setCell ⟨U, 4, none⟩ (.int .i64 0)).setCell ⟨U, 4, none⟩ (.int .i64 0)) = w3 at hs ho hall ⊢
      have hfg := (HT2.out.fpv g rfl).1
      have hfU := HT2.out.fpU
      refine ⟨rfl, HR2.out.keep hall (fun y hy e => ?_), fpu, ?_, HTurn.out.trans ⟨(HO2.out.weaken (fun _ _ h => .inl h)).trans hall (fun y _ h => ?_), fun _ h => .inl h⟩, fun _ h => .inl h⟩
      · rcases e with e | e
        · exact HDm.out y (by rw [e]; exact hfU) hy
        · exact HDm.out y (by rw [e]; exact hfg) hy
      · rw [HE.out, if_pos (.inl (HOW.out.trans H0.out)), if_neg HLL.out]
        exact ⟨_, by have := hp.setOwn hs ho; rw [HQ.out]; simpa using this⟩
      · rcases h with h | h
        · rw [h]; exact .inr hfU
        · rw [h]; exact .inr hfg
  · have t1 : ((Rw i 0) == 0) = false := by simpa using h0
    have H0 := Lib.hid h0
    clear h0
    by_cases hl : i + 1 = n
    · have t3 : ((i : Int) + 1 == 4 * (q : Int)) = true := by simp; omega
      have HLN := Lib.hid hnq
      have HLL := Lib.hid hl
      clear hnq hl
      go_wp2_with fail
      go_end0
      have hp := HT2.out.put (i := i) (j := 9) (by decide) x
      have hpm := (Mod.refl (fun y => y = g) w2).setCell (p := ⟨g, i * 10 + 9, none⟩) (fun _ => rfl) (.int .u64 x)
      have hs := (((Mod.refl (fun y => y = U) (w2.setCell ⟨g, i * 10 + 9, none⟩ (.int .u64 x))).setCell (p := ⟨U, 4, none⟩) (fun _ => rfl) (.int .i64 0)).setCell (p := ⟨U, 0, none⟩) (fun _ => rfl) (.int .i64 0))
      have ho := (heap_setCell_same (i := 0) (heap_setCell_same (i := 4) hp.own (.int .i64 0)) (.int .i64 0))
      have hall : Mod (fun y => y = U ∨ y = g) w2 (((w2.setCell ⟨g, i * 10 + 9, none⟩ (.int .u64 x)).setCell ⟨U, 4, none⟩ (.int .i64 0)).setCell ⟨U, 0, none⟩ (.int .i64 0)) := (hpm.weaken (fun _ _ h => .inr h)).trans hs (fun _ _ h => .inl h)
      generalize (((w2.setCell ⟨g, i * 10 + 9, none⟩ (.int .u64 x)).setCell ⟨U, 4, none⟩ (.int .i64 0)).setCell ⟨U, 0, none⟩ (.int .i64 0)) = w3 at hs ho hall ⊢
      have hfg := (HT2.out.fpv g rfl).1
      have hfU := HT2.out.fpU
      refine ⟨rfl, HR2.out.keep hall (fun y hy e => ?_), fpu, ?_, HTurn.out.trans ⟨(HO2.out.weaken (fun _ _ h => .inl h)).trans hall (fun y _ h => ?_), fun _ h => .inl h⟩, fun _ h => .inl h⟩
      · rcases e with e | e
        · exact HDm.out y (by rw [e]; exact hfU) hy
        · exact HDm.out y (by rw [e]; exact hfg) hy
      · rw [HE.out, if_pos (.inr (by first | exact trivial | rfl)), if_pos HLL.out]
        exact ⟨_, by have := hp.setOwn hs ho; rw [HQ.out, ← HLL.out]; simpa using this⟩
      · rcases h with h | h
        · rw [h]; exact .inr hfU
        · rw [h]; exact .inr hfg
    · have t3 : ((i : Int) + 1 == 4 * (q : Int)) = false := by simp; omega
      have HLN := Lib.hid hnq
      have HLL := Lib.hid hl
      clear hnq hl
      go_wp2_with fail
      go_end0
      have hp := HT2.out.put (i := i) (j := 9) (by decide) x
      have hpm := (Mod.refl (fun y => y = g) w2).setCell (p := ⟨g, i * 10 + 9, none⟩) (fun _ => rfl) (.int .u64 x)
      have hs := ((Mod.refl (fun y => y = U) (w2.setCell ⟨g, i * 10 + 9, none⟩ (.int .u64 x))).setCell (p := ⟨U, 4, none⟩) (fun _ => rfl) (.int .i64 0))
      have ho := (heap_setCell_same (i := 4) hp.own (.int .i64 0))
      have hall : Mod (fun y => y = U ∨ y = g) w2 ((w2.setCell ⟨g, i * 10 + 9, none⟩ (.int .u64 x)).setCell ⟨U, 4, none⟩ (.int .i64 0)) := (hpm.weaken (fun _ _ h => .inr h)).trans hs (fun _ _ h => .inl h)
      generalize ((w2.setCell ⟨g, i * 10 + 9, none⟩ (.int .u64 x)).setCell ⟨U, 4, none⟩ (.int .i64 0)) = w3 at hs ho hall ⊢
      have hfg := (HT2.out.fpv g rfl).1
      have hfU := HT2.out.fpU
      refine ⟨rfl, HR2.out.keep hall (fun y hy e => ?_), fpu, ?_, HTurn.out.trans ⟨(HO2.out.weaken (fun _ _ h => .inl h)).trans hall (fun y _ h => ?_), fun _ h => .inl h⟩, fun _ h => .inl h⟩
      · rcases e with e | e
        · exact HDm.out y (by rw [e]; exact hfU) hy
        · exact HDm.out y (by rw [e]; exact hfg) hy
      · rw [HE.out, if_pos (.inr (by first | exact trivial | rfl)), if_neg HLL.out]
        exact ⟨_, by have := hp.setOwn hs ho; rw [HQ.out]; simpa using this⟩
      · rcases h with h | h
        · rw [h]; exact .inr hfU
        · rw [h]; exact .inr hfg
end Go.Proofs.Ytjnbkpklcmkdlaa
