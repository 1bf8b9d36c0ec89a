/- The document's taker: a word of a row: words 0, 1, 2, 3. -/
import Derived.Test.YtjnbkpklcmkdlaaSJ
namespace Go.Proofs.Ytjnbkpklcmkdlaa
open Go.RowKit

set_option maxHeartbeats 4000000 in
set_option maxRecDepth 100000 in
theorem ron_0 {fp fpu : Nat → Prop} {R N U n i : Nat} {f : Adr → Int} {s x : Int} {L : Acc} {Rw : Nat → Nat → Int} {w : World} (h : RefAt fp R N f s L w) (hN : N ≤ 99999) (ht : RTis fpu U (.on n i 0 Rw) w) (hd : ∀ x, fpu x → ¬ fp x) (hok : (TSt.on n i 0 Rw).ok) (hfr : (TSt.on n i 0 Rw).fresh) (hx : f (tAdr i 0) = x) :
    Calls Try.prog 23 #[.pointer (some ⟨U, 0, none⟩), .pointer (some ⟨R, 0, none⟩)] w (RStpPost fp fpu R N U f s (tAdr i 0) (tNext f (.on n i 0 Rw)) w) := by
  have he := tNext_on (n := n) (i := i) (j := 0) (R := Rw) hx
  obtain ⟨t', ht'⟩ : ∃ t', tNext f (.on n i 0 Rw) = t' := ⟨_, rfl⟩
  rw [ht'] at he ⊢
  have HE := Lib.hid he
  clear he ht'
  obtain ⟨hin, hn16, _⟩ := hok
  obtain ⟨hn4, hz⟩ := hfr
  obtain ⟨v, hT⟩ := ht
  obtain ⟨q, hq⟩ : ∃ q, n / 4 = q := ⟨_, rfl⟩
  rw [hq] at hT
  have hnq : n = 4 * q := by omega
  have hq4 : q ≤ 4 := by omega
  replace hT : RTk fpu U v 2 i Rw (q : Int) 0 w := hT
  have c0 : w.cell? ⟨U, 0, none⟩ = some (.int .i64 2) := cell_of hT.own rfl
  have c1 : w.cell? ⟨U, 1, none⟩ = some v := cell_of hT.own rfl
  have c4 : w.cell? ⟨U, 4, none⟩ = some (.int .i64 0) := cell_of hT.own rfl
  have g1 := free_of (i := 1) hT.own
  have hlt := lt_of_block hT.own
  have hUR : ¬ R = U := fun e => hd _ hT.fpU (e ▸ h.fpR)
  obtain ⟨a0, cap, rfl⟩ : ∃ a cap, v = .slice a i cap := by
    rcases hT.row.2 with ⟨rfl, h0⟩ | ⟨g, cap, cur, rfl, _⟩
    · exact ⟨none, 0, by rw [h0]⟩
    · exact ⟨_, cap, rfl⟩
  obtain ⟨i0, hi, hz0, hz1, hz2⟩ := info_parts infoT
  have HH := Lib.hid h
  have HT := Lib.hid hT
  have HD := Lib.hid hd
  have HX := Lib.hid hx
  have HZ := Lib.hid hz
  have HQ := Lib.hid hq
  clear h hT hd hx hz hq
  go_enter Try.func23, Try.ntmps23
  go_wp2_with (at_builtin; refine wpList_append_lies _ rfl _ _ 46 rfl 0 52 i0 _ 10 80 Try.underlying46 hi hz0 hz1 hz2 rfl (by decide) (.slice a0 i cap) i (flatR i Rw) rfl (by exact HT.out.row.alloc _) ⟨w.heap.size, 0, none⟩ 1 1 [.int .u64 0, .int .u64 0, .int .u64 0, .int .u64 0, .int .u64 0, .int .u64 0, .int .u64 0, .int .u64 0, .int .u64 0, .int .u64 0] rfl rfl (by exact World.news_of_block (heap_alloc_at _ _)) (by simp [Value.oneCell']) (by decide) (by unfold maxLen; omega) (by omega) (Nat.zero_le _) _ rfl ?_)
  intro g cp w1 hown hgrow hat hgl
  rw [← flatR_zero (fun j _ => HZ.out i j (.inr ⟨rfl, Nat.zero_le _⟩))] at hown
  have hgU : g ≠ U := by
    rcases hat with h | h
    · exact (HT.out.fpv g h).2
    · have := lt_of_block HT.out.own
      first | omega | (simp at h; omega)
  have hUg : ¬ U = g := fun e => hgU e.symm
  have hm1 : Mod fpu w w1 := ((Mod.refl fpu w).alloc _).grown hgrow (fun k hk _ => (HT.out.fpv k hk).1)
  have hU1 := (hgrow.block U (by simp; omega) (fun e => (HT.out.fpv U e.symm).2 rfl)).trans (heap_alloc_keep HT.out.own _)
  have hms := (Mod.refl (fun x => x = U) w1).setCell (p := ⟨U, 1, none⟩) (fun _ => rfl) (.slice (some ⟨g, 0, none⟩) (i + 1) cp)
  have hgu : g < w.heap.size → fpu g := fun h => by
    rcases hat with h2 | h2
    · exact (HT.out.fpv g h2).1
    · first | omega | (simp at h2; omega)
  have hT1 : RTk (fun y => fpu y ∨ y = g) U (.slice (some ⟨g, 0, none⟩) (i + 1) cp) 2 (i + 1) Rw q 0 (w1.setCell ⟨U, 1, none⟩ (.slice (some ⟨g, 0, none⟩) (i + 1) cp)) := by
    refine ⟨heap_setCell_same hU1 _, hms.ownsRow hown (fun k hk => by cases hk; exact hgU), .inl HT.out.fpU, (fun k hk => by cases hk; exact ⟨.inr rfl, hgU⟩), fun y hy => ?_⟩
    rcases hy with h | h
    · have := HT.out.lt y h
      have := hm1.size
      simp
      omega
    · rw [h]
      simpa using hgl
  have d1 : w1.cell? ⟨U, 1, none⟩ = some (.slice a0 i cap) := cell_of hU1 rfl
  have e1 := free_of (i := 1) hU1
  have d4 : w1.cell? ⟨U, 4, none⟩ = some (.int .i64 0) := cell_of hU1 rfl
  have hltU := lt_of_block hU1
  have HT1 := Lib.hid hT1
  have HO1 := Lib.hid (hm1.trans hms (fun y _ h => by rw [h]; exact HT.out.fpU))
  have HG := Lib.hid hgu
  clear hT1 hm1 hms hU1 hown hgrow hat hgu c0 c1 c4 g1 hi hz0 hz1 hz2
  go_wp2_with fail
  have HTa : Hid (RTk (fun y => fpu y ∨ y = g) U (.slice (some ⟨g, 0, none⟩) (i + 1) cp) 2 (i + 1) Rw q 0 _) := HT1.out
  have HDm : Hid (∀ y, (fpu y ∨ y = g) → ¬ fp y) := fun y hy hf => by
    rcases hy with h | h
    · exact HD.out y h hf
    · have := HH.out.lt y hf
      exact HD.out y (by rw [h]; exact HG.out (by omega)) hf
  have HTurn : Hid (Turn (fun y => y = R ∨ fpu y) (fun y => y = R ∨ (fpu y ∨ y = g)) w (w1.setCell ⟨U, 1, none⟩ (.slice (some ⟨g, 0, none⟩) (i + 1) cp))) := ⟨HO1.out.weaken (fun _ _ h => .inr h), fun y hy => by
    rcases hy with h | h | h
    · exact .inl (.inl h)
    · exact .inl (.inr h)
    · by_cases hg : g < w.heap.size
      · exact .inl (.inr (by rw [h]; exact HG.out hg))
      · exact .inr (by omega)⟩
  have HRa := Lib.hid (HH.out.keep HO1.out (fun y hy h => HD.out y h hy))
  clear d1 e1 d4 hltU hgl
  generalize w1.setCell ⟨U, 1, none⟩ (.slice (some ⟨g, 0, none⟩) (i + 1) cp) = wa at HTa HTurn HRa ⊢
  refine (rload_any HRa.out hN (tAdr i 0)).mono ?_
  rintro _ w2 ⟨rfl, hR2, hm2⟩
  have HR2 := Lib.hid hR2
  have HO2 := Lib.hid hm2
  have HT2 := Lib.hid (HTa.out.keep hm2 (fun y hy e => HDm.out y hy (e ▸ HRa.out.fpR)))
  clear hR2 hm2
  rw [HX.out]
  have c0 : w2.cell? ⟨U, 0, none⟩ = some (.int .i64 2) := cell_of HT2.out.own rfl
  have c1 : w2.cell? ⟨U, 1, none⟩ = some (.slice (some ⟨g, 0, none⟩) (i + 1) cp) := cell_of HT2.out.own rfl
  have c3 : w2.cell? ⟨U, 3, none⟩ = some (.int .i64 q) := cell_of HT2.out.own rfl
  have c4 : w2.cell? ⟨U, 4, none⟩ = some (.int .i64 0) := cell_of HT2.out.own rfl
  have f0 := free_of (i := 0) HT2.out.own
  have f4 := free_of (i := 4) HT2.out.own
  obtain ⟨k0, k1⟩ := HT2.out.cell (i := i) (j := 0) (by omega) (by decide)
  simp only [Nat.add_zero] at k0 k1
  have HOW : Hid (updR Rw i 0 x i 0 = x) := by unfold Hid updR; simp
  have hi1 : (i : Int) < ((i + 1 : Nat) : Int) := by omega
  have hi0 : (0 : Int) ≤ (i : Int) := by omega
  have hgl2 : g < w2.heap.size := HT2.out.lt g (HT2.out.fpv g rfl).1
  have hUl2 : U < w2.heap.size := lt_of_block HT2.out.own
  have dbl : (((w2.setCell ⟨g, i * 10, none⟩ (.int .u64 x)).setCell ⟨U, 4, none⟩ (.int .i64 1)).setCell ⟨U, 4, none⟩ (.int .i64 0)).cell? ⟨U, 4, none⟩ = some (.int .i64 0) := cell_of (heap_setCell_same (i := 4) (heap_setCell_same (i := 4) (heap_setCell_other HT2.out.own (fun e => hUg e) _) _) _) rfl
  by_cases h0 : x = 0
  · have t1 : (x == 0) = true := by simpa using h0
    have H0 := Lib.hid h0
    clear h0
    by_cases hl : i + 1 = n
    · have t3 : ((i : Int) + 1 == 4 * (q : Int)) = true := by simp; omega
      have HLN := Lib.hid hnq
      have HLL := Lib.hid hl
      clear hnq hl
      go_wp2_with fail
      go_end0
      have hp := HT2.out.put (i := i) (j := 0) (by decide) x
      have hpm := (Mod.refl (fun y => y = g) w2).setCell (p := ⟨g, i * 10 + 0, none⟩) (fun _ => rfl) (.int .u64 x)
      simp only [Nat.add_zero] at hp hpm
      have hs := ((((Mod.refl (fun y => y = U) (w2.setCell ⟨g, i * 10, none⟩ (.int .u64 x))).setCell (p := ⟨U, 4, none⟩) (fun _ => rfl) (.int .i64 1)).setCell (p := ⟨U, 4, none⟩) (fun _ => rfl) (.int .i64 0)).setCell (p := ⟨U, 0, none⟩) (fun _ => rfl) (.int .i64 0))
      have ho := (heap_setCell_same (i := 0) (heap_setCell_same (i := 4) (heap_setCell_same (i := 4) hp.own (.int .i64 1)) (.int .i64 0)) (.int .i64 0))
      have hall : Mod (fun y => y = U ∨ y = g) w2 ((((w2.setCell ⟨g, i * 10, none⟩ (.int .u64 x)).setCell ⟨U, 4, none⟩ (.int .i64 1)).setCell ⟨U, 4, none⟩ (.int .i64 0)).setCell ⟨U, 0, none⟩ (.int .i64 0)) := (hpm.weaken (fun _ _ h => .inr h)).trans hs (fun _ _ h => .inl h)
      generalize ((((w2.setCell ⟨g, i * 10, none⟩ (.int .u64 x)).setCell ⟨U, 4, none⟩ (.int .i64 1)).setCell ⟨U, 4, none⟩ (.int .i64 0)).setCell ⟨U, 0, none⟩ (.int .i64 0)) = w3 at hs ho hall ⊢
      have hfg := (HT2.out.fpv g rfl).1
      have hfU := HT2.out.fpU
      refine ⟨rfl, HR2.out.keep hall (fun y hy e => ?_), (fun y => fpu y ∨ y = g), ?_, HTurn.out.trans ⟨(HO2.out.weaken (fun _ _ h => .inl h)).trans hall (fun y _ h => ?_), fun _ h => .inl h⟩, (fun y hy => hy.elim .inl (fun e => by by_cases hg : g < w.heap.size; exact .inl (e ▸ HG.out hg); exact .inr (by omega)))⟩
      · rcases e with e | e
        · exact HDm.out y (by rw [e]; exact hfU) hy
        · exact HDm.out y (by rw [e]; exact hfg) hy
      · rw [HE.out, if_pos (.inl (HOW.out.trans H0.out)), if_pos HLL.out]
        exact ⟨_, by have := hp.setOwn hs ho; rw [HQ.out, ← HLL.out]; simpa using this⟩
      · rcases h with h | h
        · rw [h]; exact .inr hfU
        · rw [h]; exact .inr hfg
    · have t3 : ((i : Int) + 1 == 4 * (q : Int)) = false := by simp; omega
      have HLN := Lib.hid hnq
      have HLL := Lib.hid hl
      clear hnq hl
      go_wp2_with fail
      go_end0
      have hp := HT2.out.put (i := i) (j := 0) (by decide) x
      have hpm := (Mod.refl (fun y => y = g) w2).setCell (p := ⟨g, i * 10 + 0, none⟩) (fun _ => rfl) (.int .u64 x)
      simp only [Nat.add_zero] at hp hpm
      have hs := (((Mod.refl (fun y => y = U) (w2.setCell ⟨g, i * 10, none⟩ (.int .u64 x))).setCell (p := ⟨U, 4, none⟩) (fun _ => rfl) (.int .i64 1)).setCell (p := ⟨U, 4, none⟩) (fun _ => rfl) (.int .i64 0))
      have ho := (heap_setCell_same (i := 4) (heap_setCell_same (i := 4) hp.own (.int .i64 1)) (.int .i64 0))
      have hall : Mod (fun y => y = U ∨ y = g) w2 (((w2.setCell ⟨g, i * 10, none⟩ (.int .u64 x)).setCell ⟨U, 4, none⟩ (.int .i64 1)).setCell ⟨U, 4, none⟩ (.int .i64 0)) := (hpm.weaken (fun _ _ h => .inr h)).trans hs (fun _ _ h => .inl h)
      generalize (((w2.setCell ⟨g, i * 10, none⟩ (.int .u64 x)).setCell ⟨U, 4, none⟩ (.int .i64 1)).setCell ⟨U, 4, none⟩ (.int .i64 0)) = w3 at hs ho hall ⊢
      have hfg := (HT2.out.fpv g rfl).1
      have hfU := HT2.out.fpU
      refine ⟨rfl, HR2.out.keep hall (fun y hy e => ?_), (fun y => fpu y ∨ y = g), ?_, HTurn.out.trans ⟨(HO2.out.weaken (fun _ _ h => .inl h)).trans hall (fun y _ h => ?_), fun _ h => .inl h⟩, (fun y hy => hy.elim .inl (fun e => by by_cases hg : g < w.heap.size; exact .inl (e ▸ HG.out hg); exact .inr (by omega)))⟩
      · rcases e with e | e
        · exact HDm.out y (by rw [e]; exact hfU) hy
        · exact HDm.out y (by rw [e]; exact hfg) hy
      · rw [HE.out, if_pos (.inl (HOW.out.trans H0.out)), if_neg HLL.out]
        exact ⟨_, by have := hp.setOwn hs ho; rw [HQ.out]; simpa using this⟩
      · rcases h with h | h
        · rw [h]; exact .inr hfU
        · rw [h]; exact .inr hfg
  · have t1 : (x == 0) = false := by simpa using h0
    have H0 := Lib.hid h0
    clear h0
    have HLN := Lib.hid hnq
    clear hnq
    go_wp2_with fail
    go_end0
    have hp := HT2.out.put (i := i) (j := 0) (by decide) x
    have hpm := (Mod.refl (fun y => y = g) w2).setCell (p := ⟨g, i * 10 + 0, none⟩) (fun _ => rfl) (.int .u64 x)
    simp only [Nat.add_zero] at hp hpm
    have hs := ((Mod.refl (fun y => y = U) (w2.setCell ⟨g, i * 10, none⟩ (.int .u64 x))).setCell (p := ⟨U, 4, none⟩) (fun _ => rfl) (.int .i64 1))
    have ho := (heap_setCell_same (i := 4) hp.own (.int .i64 1))
    have hall : Mod (fun y => y = U ∨ y = g) w2 ((w2.setCell ⟨g, i * 10, none⟩ (.int .u64 x)).setCell ⟨U, 4, none⟩ (.int .i64 1)) := (hpm.weaken (fun _ _ h => .inr h)).trans hs (fun _ _ h => .inl h)
    generalize ((w2.setCell ⟨g, i * 10, none⟩ (.int .u64 x)).setCell ⟨U, 4, none⟩ (.int .i64 1)) = w3 at hs ho hall ⊢
    have hfg := (HT2.out.fpv g rfl).1
    have hfU := HT2.out.fpU
    refine ⟨rfl, HR2.out.keep hall (fun y hy e => ?_), (fun y => fpu y ∨ y = g), ?_, HTurn.out.trans ⟨(HO2.out.weaken (fun _ _ h => .inl h)).trans hall (fun y _ h => ?_), fun _ h => .inl h⟩, (fun y hy => hy.elim .inl (fun e => by by_cases hg : g < w.heap.size; exact .inl (e ▸ HG.out hg); exact .inr (by omega)))⟩
    · rcases e with e | e
      · exact HDm.out y (by rw [e]; exact hfU) hy
      · exact HDm.out y (by rw [e]; exact hfg) hy
    · rw [HE.out, if_neg (fun h => h.elim (fun h => H0.out (HOW.out.symm.trans h)) (by decide))]
      exact ⟨_, by have := hp.setOwn hs ho; rw [HQ.out]; simpa using this⟩
    · rcases h with h | h
      · rw [h]; exact .inr hfU
      · rw [h]; exact .inr hfg
set_option maxHeartbeats 4000000 in
set_option maxRecDepth 100000 in
theorem ron_1 {fp fpu : Nat → Prop} {R N U n i : Nat} {f : Adr → Int} {s x : Int} {L : Acc} {Rw : Nat → Nat → Int} {w : World} (h : RefAt fp R N f s L w) (hN : N ≤ 99999) (ht : RTis fpu U (.on n i 1 Rw) w) (hd : ∀ x, fpu x → ¬ fp x) (hok : (TSt.on n i 1 Rw).ok) (hfr : (TSt.on n i 1 Rw).fresh) (hx : f (tAdr i 1) = x) :
    Calls Try.prog 23 #[.pointer (some ⟨U, 0, none⟩), .pointer (some ⟨R, 0, none⟩)] w (RStpPost fp fpu R N U f s (tAdr i 1) (tNext f (.on n i 1 Rw)) w) := by
  have he := tNext_on (n := n) (i := i) (j := 1) (R := Rw) hx
  obtain ⟨t', ht'⟩ : ∃ t', tNext f (.on n i 1 Rw) = t' := ⟨_, rfl⟩
  rw [ht'] at he ⊢
  have HE := Lib.hid he
  clear he ht'
  obtain ⟨hin, hn16, _⟩ := hok
  obtain ⟨hn4, hz⟩ := hfr
  obtain ⟨v, hT⟩ := ht
  obtain ⟨q, hq⟩ : ∃ q, n / 4 = q := ⟨_, rfl⟩
  rw [hq] at hT
  have hnq : n = 4 * q := by omega
  have hq4 : q ≤ 4 := by omega
  replace hT : RTk fpu U v 2 (i + 1) Rw (q : Int) 1 w := hT
  obtain ⟨g, cp, rfl⟩ : ∃ g cp, v = .slice (some ⟨g, 0, none⟩) (i + 1) cp := by
    rcases hT.row.2 with ⟨rfl, h0⟩ | ⟨g, cp, cur, rfl, _⟩
    · omega
    · exact ⟨g, cp, rfl⟩
  have c0 : w.cell? ⟨U, 0, none⟩ = some (.int .i64 2) := cell_of hT.own rfl
  have c1 : w.cell? ⟨U, 1, none⟩ = some (.slice (some ⟨g, 0, none⟩) (i + 1) cp) := cell_of hT.own rfl
  have c4 : w.cell? ⟨U, 4, none⟩ = some (.int .i64 1) := cell_of hT.own rfl
  have hlt := lt_of_block hT.own
  have hUR : ¬ R = U := fun e => hd _ hT.fpU (e ▸ h.fpR)
  have hgU : g ≠ U := (hT.fpv g rfl).2
  have hUg : ¬ U = g := fun e => hgU e.symm
  have HTa := Lib.hid hT
  have HRa := Lib.hid h
  have HDm := Lib.hid hd
  have HX := Lib.hid hx
  have HQ := Lib.hid hq
  have HTurn : Hid (Turn (fun y => y = R ∨ fpu y) (fun y => y = R ∨ fpu y) w w) := Turn.refl _ _
  clear h hT hd hx hz hq
  obtain ⟨wa, hwa⟩ : ∃ wa, wa = w := ⟨_, rfl⟩
  go_enter Try.func23, Try.ntmps23
  go_wp2_with fail
  clear c0 c1 c4
  refine (rload_any HRa.out hN (tAdr i 1)).mono ?_
  rintro _ w2 ⟨rfl, hR2, hm2⟩
  have HR2 := Lib.hid hR2
  have HO2 := Lib.hid hm2
  have HT2 := Lib.hid (HTa.out.keep hm2 (fun y hy e => HDm.out y hy (e ▸ HRa.out.fpR)))
  clear hR2 hm2
  rw [HX.out]
  have c0 : w2.cell? ⟨U, 0, none⟩ = some (.int .i64 2) := cell_of HT2.out.own rfl
  have c1 : w2.cell? ⟨U, 1, none⟩ = some (.slice (some ⟨g, 0, none⟩) (i + 1) cp) := cell_of HT2.out.own rfl
  have c3 : w2.cell? ⟨U, 3, none⟩ = some (.int .i64 q) := cell_of HT2.out.own rfl
  have c4 : w2.cell? ⟨U, 4, none⟩ = some (.int .i64 1) := cell_of HT2.out.own rfl
  have f0 := free_of (i := 0) HT2.out.own
  have f4 := free_of (i := 4) HT2.out.own
  obtain ⟨k0, k1⟩ := HT2.out.cell (i := i) (j := 1) (by omega) (by decide)
  obtain ⟨k2, _⟩ := HT2.out.cell (i := i) (j := 0) (by omega) (by decide)
  simp only [Nat.add_zero] at k2
  have HOW : Hid (updR Rw i 1 x i 0 = Rw i 0) := by unfold Hid updR; simp
  have hi1 : (i : Int) < ((i + 1 : Nat) : Int) := by omega
  have hi0 : (0 : Int) ≤ (i : Int) := by omega
  have hgl2 : g < w2.heap.size := HT2.out.lt g (HT2.out.fpv g rfl).1
  have hUl2 : U < w2.heap.size := lt_of_block HT2.out.own
  have dbl : (((w2.setCell ⟨g, i * 10 + 1, none⟩ (.int .u64 x)).setCell ⟨U, 4, none⟩ (.int .i64 2)).setCell ⟨U, 4, none⟩ (.int .i64 0)).cell? ⟨U, 4, none⟩ = some (.int .i64 0) := cell_of (heap_setCell_same (i := 4) (heap_setCell_same (i := 4) (heap_setCell_other HT2.out.own (fun e => hUg e) _) _) _) rfl
  by_cases h0 : (Rw i 0) = 0
  · have t1 : ((Rw i 0) == 0) = true := by simpa using h0
    have H0 := Lib.hid h0
    clear h0
    by_cases hl : i + 1 = n
    · have t3 : ((i : Int) + 1 == 4 * (q : Int)) = true := by simp; omega
      have HLN := Lib.hid hnq
      have HLL := Lib.hid hl
      clear hnq hl
      go_wp2_with fail
      go_end0
      have hp := HT2.out.put (i := i) (j := 1) (by decide) x
      have hpm := (Mod.refl (fun y => y = g) w2).setCell (p := ⟨g, i * 10 + 1, none⟩) (fun _ => rfl) (.int .u64 x)
      have hs := ((((Mod.refl (fun y => y = U) (w2.setCell ⟨g, i * 10 + 1, none⟩ (.int .u64 x))).setCell (p := ⟨U, 4, none⟩) (fun _ => rfl) (.int .i64 2)).setCell (p := ⟨U, 4, none⟩) (fun _ => rfl) (.int .i64 0)).setCell (p := ⟨U, 0, none⟩) (fun _ => rfl) (.int .i64 0))
      have ho := (heap_setCell_same (i := 0) (heap_setCell_same (i := 4) (heap_setCell_same (i := 4) hp.own (.int .i64 2)) (.int .i64 0)) (.int .i64 0))
      have hall : Mod (fun y => y = U ∨ y = g) w2 ((((w2.setCell ⟨g, i * 10 + 1, none⟩ (.int .u64 x)).setCell ⟨U, 4, none⟩ (.int .i64 2)).setCell ⟨U, 4, none⟩ (.int .i64 0)).setCell ⟨U, 0, none⟩ (.int .i64 0)) := (hpm.weaken (fun _ _ h => .inr h)).trans hs (fun _ _ h => .inl h)
      generalize ((((w2.setCell ⟨g, i * 10 + 1, none⟩ (.int .u64 x)).setCell ⟨U, 4, none⟩ (.int .i64 2)).setCell ⟨U, 4, none⟩ (.int .i64 0)).setCell ⟨U, 0, none⟩ (.int .i64 0)) = w3 at hs ho hall ⊢
      have hfg := (HT2.out.fpv g rfl).1
      have hfU := HT2.out.fpU
      refine ⟨rfl, HR2.out.keep hall (fun y hy e => ?_), fpu, ?_, HTurn.out.trans ⟨(HO2.out.weaken (fun _ _ h => .inl h)).trans hall (fun y _ h => ?_), fun _ h => .inl h⟩, fun _ h => .inl h⟩
      · rcases e with e | e
        · exact HDm.out y (by rw [e]; exact hfU) hy
        · exact HDm.out y (by rw [e]; exact hfg) hy
      · rw [HE.out, if_pos (.inl (HOW.out.trans H0.out)), if_pos HLL.out]
        exact ⟨_, by have := hp.setOwn hs ho; rw [HQ.out, ← HLL.out]; simpa using this⟩
      · rcases h with h | h
        · rw [h]; exact .inr hfU
        · rw [h]; exact .inr hfg
    · have t3 : ((i : Int) + 1 == 4 * (q : Int)) = false := by simp; omega
      have HLN := Lib.hid hnq
      have HLL := Lib.hid hl
      clear hnq hl
      go_wp2_with fail
      go_end0
      have hp := HT2.out.put (i := i) (j := 1) (by decide) x
      have hpm := (Mod.refl (fun y => y = g) w2).setCell (p := ⟨g, i * 10 + 1, none⟩) (fun _ => rfl) (.int .u64 x)
      have hs := (((Mod.refl (fun y => y = U) (w2.setCell ⟨g, i * 10 + 1, none⟩ (.int .u64 x))).setCell (p := ⟨U, 4, none⟩) (fun _ => rfl) (.int .i64 2)).setCell (p := ⟨U, 4, none⟩) (fun _ => rfl) (.int .i64 0))
      have ho := (heap_setCell_same (i := 4) (heap_setCell_same (i := 4) hp.own (.int .i64 2)) (.int .i64 0))
      have hall : Mod (fun y => y = U ∨ y = g) w2 (((w2.setCell ⟨g, i * 10 + 1, none⟩ (.int .u64 x)).setCell ⟨U, 4, none⟩ (.int .i64 2)).setCell ⟨U, 4, none⟩ (.int .i64 0)) := (hpm.weaken (fun _ _ h => .inr h)).trans hs (fun _ _ h => .inl h)
      generalize (((w2.setCell ⟨g, i * 10 + 1, none⟩ (.int .u64 x)).setCell ⟨U, 4, none⟩ (.int .i64 2)).setCell ⟨U, 4, none⟩ (.int .i64 0)) = w3 at hs ho hall ⊢
      have hfg := (HT2.out.fpv g rfl).1
      have hfU := HT2.out.fpU
      refine ⟨rfl, HR2.out.keep hall (fun y hy e => ?_), fpu, ?_, HTurn.out.trans ⟨(HO2.out.weaken (fun _ _ h => .inl h)).trans hall (fun y _ h => ?_), fun _ h => .inl h⟩, fun _ h => .inl h⟩
      · rcases e with e | e
        · exact HDm.out y (by rw [e]; exact hfU) hy
        · exact HDm.out y (by rw [e]; exact hfg) hy
      · rw [HE.out, if_pos (.inl (HOW.out.trans H0.out)), if_neg HLL.out]
        exact ⟨_, by have := hp.setOwn hs ho; rw [HQ.out]; simpa using this⟩
      · rcases h with h | h
        · rw [h]; exact .inr hfU
        · rw [h]; exact .inr hfg
  · have t1 : ((Rw i 0) == 0) = false := by simpa using h0
    have H0 := Lib.hid h0
    clear h0
    have HLN := Lib.hid hnq
    clear hnq
    go_wp2_with fail
    go_end0
    have hp := HT2.out.put (i := i) (j := 1) (by decide) x
    have hpm := (Mod.refl (fun y => y = g) w2).setCell (p := ⟨g, i * 10 + 1, none⟩) (fun _ => rfl) (.int .u64 x)
    have hs := ((Mod.refl (fun y => y = U) (w2.setCell ⟨g, i * 10 + 1, none⟩ (.int .u64 x))).setCell (p := ⟨U, 4, none⟩) (fun _ => rfl) (.int .i64 2))
    have ho := (heap_setCell_same (i := 4) hp.own (.int .i64 2))
    have hall : Mod (fun y => y = U ∨ y = g) w2 ((w2.setCell ⟨g, i * 10 + 1, none⟩ (.int .u64 x)).setCell ⟨U, 4, none⟩ (.int .i64 2)) := (hpm.weaken (fun _ _ h => .inr h)).trans hs (fun _ _ h => .inl h)
    generalize ((w2.setCell ⟨g, i * 10 + 1, none⟩ (.int .u64 x)).setCell ⟨U, 4, none⟩ (.int .i64 2)) = w3 at hs ho hall ⊢
    have hfg := (HT2.out.fpv g rfl).1
    have hfU := HT2.out.fpU
    refine ⟨rfl, HR2.out.keep hall (fun y hy e => ?_), fpu, ?_, HTurn.out.trans ⟨(HO2.out.weaken (fun _ _ h => .inl h)).trans hall (fun y _ h => ?_), fun _ h => .inl h⟩, fun _ h => .inl h⟩
    · rcases e with e | e
      · exact HDm.out y (by rw [e]; exact hfU) hy
      · exact HDm.out y (by rw [e]; exact hfg) hy
    · rw [HE.out, if_neg (fun h => h.elim (fun h => H0.out (HOW.out.symm.trans h)) (by decide))]
      exact ⟨_, by have := hp.setOwn hs ho; rw [HQ.out]; simpa using this⟩
    · rcases h with h | h
      · rw [h]; exact .inr hfU
      · rw [h]; exact .inr hfg
set_option maxHeartbeats 4000000 in
set_option maxRecDepth 100000 in
theorem ron_2 {fp fpu : Nat → Prop} {R N U n i : Nat} {f : Adr → Int} {s x : Int} {L : Acc} {Rw : Nat → Nat → Int} {w : World} (h : RefAt fp R N f s L w) (hN : N ≤ 99999) (ht : RTis fpu U (.on n i 2 Rw) w) (hd : ∀ x, fpu x → ¬ fp x) (hok : (TSt.on n i 2 Rw).ok) (hfr : (TSt.on n i 2 Rw).fresh) (hx : f (tAdr i 2) = x) :
    Calls Try.prog 23 #[.pointer (some ⟨U, 0, none⟩), .pointer (some ⟨R, 0, none⟩)] w (RStpPost fp fpu R N U f s (tAdr i 2) (tNext f (.on n i 2 Rw)) w) := by
  have he := tNext_on (n := n) (i := i) (j := 2) (R := Rw) hx
  obtain ⟨t', ht'⟩ : ∃ t', tNext f (.on n i 2 Rw) = t' := ⟨_, rfl⟩
  rw [ht'] at he ⊢
  have HE := Lib.hid he
  clear he ht'
  obtain ⟨hin, hn16, _⟩ := hok
  obtain ⟨hn4, hz⟩ := hfr
  obtain ⟨v, hT⟩ := ht
  obtain ⟨q, hq⟩ : ∃ q, n / 4 = q := ⟨_, rfl⟩
  rw [hq] at hT
  have hnq : n = 4 * q := by omega
  have hq4 : q ≤ 4 := by omega
  replace hT : RTk fpu U v 2 (i + 1) Rw (q : Int) 2 w := hT
  obtain ⟨g, cp, rfl⟩ : ∃ g cp, v = .slice (some ⟨g, 0, none⟩) (i + 1) cp := by
    rcases hT.row.2 with ⟨rfl, h0⟩ | ⟨g, cp, cur, rfl, _⟩
    · omega
    · exact ⟨g, cp, rfl⟩
  have c0 : w.cell? ⟨U, 0, none⟩ = some (.int .i64 2) := cell_of hT.own rfl
  have c1 : w.cell? ⟨U, 1, none⟩ = some (.slice (some ⟨g, 0, none⟩) (i + 1) cp) := cell_of hT.own rfl
  have c4 : w.cell? ⟨U, 4, none⟩ = some (.int .i64 2) := cell_of hT.own rfl
  have hlt := lt_of_block hT.own
  have hUR : ¬ R = U := fun e => hd _ hT.fpU (e ▸ h.fpR)
  have hgU : g ≠ U := (hT.fpv g rfl).2
  have hUg : ¬ U = g := fun e => hgU e.symm
  have HTa := Lib.hid hT
  have HRa := Lib.hid h
  have HDm := Lib.hid hd
  have HX := Lib.hid hx
  have HQ := Lib.hid hq
  have HTurn : Hid (Turn (fun y => y = R ∨ fpu y) (fun y => y = R ∨ fpu y) w w) := Turn.refl _ _
  clear h hT hd hx hz hq
  obtain ⟨wa, hwa⟩ : ∃ wa, wa = w := ⟨_, rfl⟩
  go_enter Try.func23, Try.ntmps23
  go_wp2_with fail
  clear c0 c1 c4
  refine (rload_any HRa.out hN (tAdr i 2)).mono ?_
  rintro _ w2 ⟨rfl, hR2, hm2⟩
  have HR2 := Lib.hid hR2
  have HO2 := Lib.hid hm2
  have HT2 := Lib.hid (HTa.out.keep hm2 (fun y hy e => HDm.out y hy (e ▸ HRa.out.fpR)))
  clear hR2 hm2
  rw [HX.out]
  have c0 : w2.cell? ⟨U, 0, none⟩ = some (.int .i64 2) := cell_of HT2.out.own rfl
  have c1 : w2.cell? ⟨U, 1, none⟩ = some (.slice (some ⟨g, 0, none⟩) (i + 1) cp) := cell_of HT2.out.own rfl
  have c3 : w2.cell? ⟨U, 3, none⟩ = some (.int .i64 q) := cell_of HT2.out.own rfl
  have c4 : w2.cell? ⟨U, 4, none⟩ = some (.int .i64 2) := cell_of HT2.out.own rfl
  have f0 := free_of (i := 0) HT2.out.own
  have f4 := free_of (i := 4) HT2.out.own
  obtain ⟨k0, k1⟩ := HT2.out.cell (i := i) (j := 2) (by omega) (by decide)
  obtain ⟨k2, _⟩ := HT2.out.cell (i := i) (j := 0) (by omega) (by decide)
  simp only [Nat.add_zero] at k2
  have HOW : Hid (updR Rw i 2 x i 0 = Rw i 0) := by unfold Hid updR; simp
  have hi1 : (i : Int) < ((i + 1 : Nat) : Int) := by omega
  have hi0 : (0 : Int) ≤ (i : Int) := by omega
  have hgl2 : g < w2.heap.size := HT2.out.lt g (HT2.out.fpv g rfl).1
  have hUl2 : U < w2.heap.size := lt_of_block HT2.out.own
  have dbl : (((w2.setCell ⟨g, i * 10 + 2, none⟩ (.int .u64 x)).setCell ⟨U, 4, none⟩ (.int .i64 3)).setCell ⟨U, 4, none⟩ (.int .i64 0)).cell? ⟨U, 4, none⟩ = some (.int .i64 0) := cell_of (heap_setCell_same (i := 4) (heap_setCell_same (i := 4) (heap_setCell_other HT2.out.own (fun e => hUg e) _) _) _) rfl
  by_cases h0 : (Rw i 0) = 0
  · have t1 : ((Rw i 0) == 0) = true := by simpa using h0
    have H0 := Lib.hid h0
    clear h0
    by_cases hl : i + 1 = n
    · have t3 : ((i : Int) + 1 == 4 * (q : Int)) = true := by simp; omega
      have HLN := Lib.hid hnq
      have HLL := Lib.hid hl
      clear hnq hl
      go_wp2_with fail
      go_end0
      have hp := HT2.out.put (i := i) (j := 2) (by decide) x
      have hpm := (Mod.refl (fun y => y = g) w2).setCell (p := ⟨g, i * 10 + 2, none⟩) (fun _ => rfl) (.int .u64 x)
      have hs := ((((Mod.refl (fun y => y = U) (w2.setCell ⟨g, i * 10 + 2, none⟩ (.int .u64 x))).setCell (p := ⟨U, 4, none⟩) (fun _ => rfl) (.int .i64 3)).setCell (p := ⟨U, 4, none⟩) (fun _ => rfl) (.int .i64 0)).setCell (p := ⟨U, 0, none⟩) (fun _ => rfl) (.int .i64 0))
      have ho := (heap_setCell_same (i := 0) (heap_setCell_same (i := 4) (heap_setCell_same (i := 4) hp.own (.int .i64 3)) (.int .i64 0)) (.int .i64 0))
      have hall : Mod (fun y => y = U ∨ y = g) w2 ((((w2.setCell ⟨g, i * 10 + 2, none⟩ (.int .u64 x)).setCell ⟨U, 4, none⟩ (.int .i64 3)).setCell ⟨U, 4, none⟩ (.int .i64 0)).setCell ⟨U, 0, none⟩ (.int .i64 0)) := (hpm.weaken (fun _ _ h => .inr h)).trans hs (fun _ _ h => .inl h)
      generalize ((((w2.setCell ⟨g, i * 10 + 2, none⟩ (.int .u64 x)).setCell ⟨U, 4, none⟩ (.int .i64 3)).setCell ⟨U, 4, none⟩ (.int .i64 0)).setCell ⟨U, 0, none⟩ (.int .i64 0)) = w3 at hs ho hall ⊢
      have hfg := (HT2.out.fpv g rfl).1
      have hfU := HT2.out.fpU
      refine ⟨rfl, HR2.out.keep hall (fun y hy e => ?_), fpu, ?_, HTurn.out.trans ⟨(HO2.out.weaken (fun _ _ h => .inl h)).trans hall (fun y _ h => ?_), fun _ h => .inl h⟩, fun _ h => .inl h⟩
      · rcases e with e | e
        · exact HDm.out y (by rw [e]; exact hfU) hy
        · exact HDm.out y (by rw [e]; exact hfg) hy
      · rw [HE.out, if_pos (.inl (HOW.out.trans H0.out)), if_pos HLL.out]
        exact ⟨_, by have := hp.setOwn hs ho; rw [HQ.out, ← HLL.out]; simpa using this⟩
      · rcases h with h | h
        · rw [h]; exact .inr hfU
        · rw [h]; exact .inr hfg
    · have t3 : ((i : Int) + 1 == 4 * (q : Int)) = false := by simp; omega
      have HLN := Lib.hid hnq
      have HLL := Lib.hid hl
      clear hnq hl
      go_wp2_with fail
      go_end0
      have hp := HT2.out.put (i := i) (j := 2) (by decide) x
      have hpm := (Mod.refl (fun y => y = g) w2).setCell (p := ⟨g, i * 10 + 2, none⟩) (fun _ => rfl) (.int .u64 x)
      have hs := (((Mod.refl (fun y => y = U) (w2.setCell ⟨g, i * 10 + 2, none⟩ (.int .u64 x))).setCell (p := ⟨U, 4, none⟩) (fun _ => rfl) (.int .i64 3)).setCell (p := ⟨U, 4, none⟩) (fun _ => rfl) (.int .i64 0))
      have ho := (heap_setCell_same (i := 4) (heap_setCell_same (i := 4) hp.own (.int .i64 3)) (.int .i64 0))
      have hall : Mod (fun y => y = U ∨ y = g) w2 (((w2.setCell ⟨g, i * 10 + 2, none⟩ (.int .u64 x)).setCell ⟨U, 4, none⟩ (.int .i64 3)).setCell ⟨U, 4, none⟩ (.int .i64 0)) := (hpm.weaken (fun _ _ h => .inr h)).trans hs (fun _ _ h => .inl h)
      generalize (((w2.setCell ⟨g, i * 10 + 2, none⟩ (.int .u64 x)).setCell ⟨U, 4, none⟩ (.int .i64 3)).setCell ⟨U, 4, none⟩ (.int .i64 0)) = w3 at hs ho hall ⊢
      have hfg := (HT2.out.fpv g rfl).1
      have hfU := HT2.out.fpU
      refine ⟨rfl, HR2.out.keep hall (fun y hy e => ?_), fpu, ?_, HTurn.out.trans ⟨(HO2.out.weaken (fun _ _ h => .inl h)).trans hall (fun y _ h => ?_), fun _ h => .inl h⟩, fun _ h => .inl h⟩
      · rcases e with e | e
        · exact HDm.out y (by rw [e]; exact hfU) hy
        · exact HDm.out y (by rw [e]; exact hfg) hy
      · rw [HE.out, if_pos (.inl (HOW.out.trans H0.out)), if_neg HLL.out]
        exact ⟨_, by have := hp.setOwn hs ho; rw [HQ.out]; simpa using this⟩
      · rcases h with h | h
        · rw [h]; exact .inr hfU
        · rw [h]; exact .inr hfg
  · have t1 : ((Rw i 0) == 0) = false := by simpa using h0
    have H0 := Lib.hid h0
    clear h0
    have HLN := Lib.hid hnq
    clear hnq
    go_wp2_with fail
    go_end0
    have hp := HT2.out.put (i := i) (j := 2) (by decide) x
    have hpm := (Mod.refl (fun y => y = g) w2).setCell (p := ⟨g, i * 10 + 2, none⟩) (fun _ => rfl) (.int .u64 x)
    have hs := ((Mod.refl (fun y => y = U) (w2.setCell ⟨g, i * 10 + 2, none⟩ (.int .u64 x))).setCell (p := ⟨U, 4, none⟩) (fun _ => rfl) (.int .i64 3))
    have ho := (heap_setCell_same (i := 4) hp.own (.int .i64 3))
    have hall : Mod (fun y => y = U ∨ y = g) w2 ((w2.setCell ⟨g, i * 10 + 2, none⟩ (.int .u64 x)).setCell ⟨U, 4, none⟩ (.int .i64 3)) := (hpm.weaken (fun _ _ h => .inr h)).trans hs (fun _ _ h => .inl h)
    generalize ((w2.setCell ⟨g, i * 10 + 2, none⟩ (.int .u64 x)).setCell ⟨U, 4, none⟩ (.int .i64 3)) = w3 at hs ho hall ⊢
    have hfg := (HT2.out.fpv g rfl).1
    have hfU := HT2.out.fpU
    refine ⟨rfl, HR2.out.keep hall (fun y hy e => ?_), fpu, ?_, HTurn.out.trans ⟨(HO2.out.weaken (fun _ _ h => .inl h)).trans hall (fun y _ h => ?_), fun _ h => .inl h⟩, fun _ h => .inl h⟩
    · rcases e with e | e
      · exact HDm.out y (by rw [e]; exact hfU) hy
      · exact HDm.out y (by rw [e]; exact hfg) hy
    · rw [HE.out, if_neg (fun h => h.elim (fun h => H0.out (HOW.out.symm.trans h)) (by decide))]
      exact ⟨_, by have := hp.setOwn hs ho; rw [HQ.out]; simpa using this⟩
    · rcases h with h | h
      · rw [h]; exact .inr hfU
      · rw [h]; exact .inr hfg
set_option maxHeartbeats 4000000 in
set_option maxRecDepth 100000 in
theorem ron_3 {fp fpu : Nat → Prop} {R N U n i : Nat} {f : Adr → Int} {s x : Int} {L : Acc} {Rw : Nat → Nat → Int} {w : World} (h : RefAt fp R N f s L w) (hN : N ≤ 99999) (ht : RTis fpu U (.on n i 3 Rw) w) (hd : ∀ x, fpu x → ¬ fp x) (hok : (TSt.on n i 3 Rw).ok) (hfr : (TSt.on n i 3 Rw).fresh) (hx : f (tAdr i 3) = x) :
    Calls Try.prog 23 #[.pointer (some ⟨U, 0, none⟩), .pointer (some ⟨R, 0, none⟩)] w (RStpPost fp fpu R N U f s (tAdr i 3) (tNext f (.on n i 3 Rw)) w) := by
  have he := tNext_on (n := n) (i := i) (j := 3) (R := Rw) hx
  obtain ⟨t', ht'⟩ : ∃ t', tNext f (.on n i 3 Rw) = t' := ⟨_, rfl⟩
  rw [ht'] at he ⊢
  have HE := Lib.hid he
  clear he ht'
  obtain ⟨hin, hn16, _⟩ := hok
  obtain ⟨hn4, hz⟩ := hfr
  obtain ⟨v, hT⟩ := ht
  obtain ⟨q, hq⟩ : ∃ q, n / 4 = q := ⟨_, rfl⟩
  rw [hq] at hT
  have hnq : n = 4 * q := by omega
  have hq4 : q ≤ 4 := by omega
  replace hT : RTk fpu U v 2 (i + 1) Rw (q : Int) 3 w := hT
  obtain ⟨g, cp, rfl⟩ : ∃ g cp, v = .slice (some ⟨g, 0, none⟩) (i + 1) cp := by
    rcases hT.row.2 with ⟨rfl, h0⟩ | ⟨g, cp, cur, rfl, _⟩
    · omega
    · exact ⟨g, cp, rfl⟩
  have c0 : w.cell? ⟨U, 0, none⟩ = some (.int .i64 2) := cell_of hT.own rfl
  have c1 : w.cell? ⟨U, 1, none⟩ = some (.slice (some ⟨g, 0, none⟩) (i + 1) cp) := cell_of hT.own rfl
  have c4 : w.cell? ⟨U, 4, none⟩ = some (.int .i64 3) := cell_of hT.own rfl
  have hlt := lt_of_block hT.own
  have hUR : ¬ R = U := fun e => hd _ hT.fpU (e ▸ h.fpR)
  have hgU : g ≠ U := (hT.fpv g rfl).2
  have hUg : ¬ U = g := fun e => hgU e.symm
  have HTa := Lib.hid hT
  have HRa := Lib.hid h
  have HDm := Lib.hid hd
  have HX := Lib.hid hx
  have HQ := Lib.hid hq
  have HTurn : Hid (Turn (fun y => y = R ∨ fpu y) (fun y => y = R ∨ fpu y) w w) := Turn.refl _ _
  clear h hT hd hx hz hq
  obtain ⟨wa, hwa⟩ : ∃ wa, wa = w := ⟨_, rfl⟩
  go_enter Try.func23, Try.ntmps23
  go_wp2_with fail
  clear c0 c1 c4
  refine (rload_any HRa.out hN (tAdr i 3)).mono ?_
  rintro _ w2 ⟨rfl, hR2, hm2⟩
  have HR2 := Lib.hid hR2
  have HO2 := Lib.hid hm2
  have HT2 := Lib.hid (HTa.out.keep hm2 (fun y hy e => HDm.out y hy (e ▸ HRa.out.fpR)))
  clear hR2 hm2
  rw [HX.out]
  have c0 : w2.cell? ⟨U, 0, none⟩ = some (.int .i64 2) := cell_of HT2.out.own rfl
  have c1 : w2.cell? ⟨U, 1, none⟩ = some (.slice (some ⟨g, 0, none⟩) (i + 1) cp) := cell_of HT2.out.own rfl
  have c3 : w2.cell? ⟨U, 3, none⟩ = some (.int .i64 q) := cell_of HT2.out.own rfl
  have c4 : w2.cell? ⟨U, 4, none⟩ = some (.int .i64 3) := cell_of HT2.out.own rfl
  have f0 := free_of (i := 0) HT2.out.own
  have f4 := free_of (i := 4) HT2.out.own
  obtain ⟨k0, k1⟩ := HT2.out.cell (i := i) (j := 3) (by omega) (by decide)
  obtain ⟨k2, _⟩ := HT2.out.cell (i := i) (j := 0) (by omega) (by decide)
  simp only [Nat.add_zero] at k2
  have HOW : Hid (updR Rw i 3 x i 0 = Rw i 0) := by unfold Hid updR; simp
  have hi1 : (i : Int) < ((i + 1 : Nat) : Int) := by omega
  have hi0 : (0 : Int) ≤ (i : Int) := by omega
  have hgl2 : g < w2.heap.size := HT2.out.lt g (HT2.out.fpv g rfl).1
  have hUl2 : U < w2.heap.size := lt_of_block HT2.out.own
  have dbl : (((w2.setCell ⟨g, i * 10 + 3, none⟩ (.int .u64 x)).setCell ⟨U, 4, none⟩ (.int .i64 4)).setCell ⟨U, 4, none⟩ (.int .i64 0)).cell? ⟨U, 4, none⟩ = some (.int .i64 0) := cell_of (heap_setCell_same (i := 4) (heap_setCell_same (i := 4) (heap_setCell_other HT2.out.own (fun e => hUg e) _) _) _) rfl
  by_cases h0 : (Rw i 0) = 0
  · have t1 : ((Rw i 0) == 0) = true := by simpa using h0
    have H0 := Lib.hid h0
    clear h0
    by_cases hl : i + 1 = n
    · have t3 : ((i : Int) + 1 == 4 * (q : Int)) = true := by simp; omega
      have HLN := Lib.hid hnq
      have HLL := Lib.hid hl
      clear hnq hl
      go_wp2_with fail
      go_end0
      have hp := HT2.out.put (i := i) (j := 3) (by decide) x
      have hpm := (Mod.refl (fun y => y = g) w2).setCell (p := ⟨g, i * 10 + 3, none⟩) (fun _ => rfl) (.int .u64 x)
      have hs := ((((Mod.refl (fun y => y = U) (w2.setCell ⟨g, i * 10 + 3, none⟩ (.int .u64 x))).setCell (p := ⟨U, 4, none⟩) (fun _ => rfl) (.int .i64 4)).setCell (p := ⟨U, 4, none⟩) (fun _ => rfl) (.int .i64 0)).setCell (p := ⟨U, 0, none⟩) (fun _ => rfl) (.int .i64 0))
      have ho := (heap_setCell_same (i := 0) (heap_setCell_same (i := 4) (heap_setCell_same (i := 4) hp.own (.int .i64 4)) (.int .i64 0)) (.int .i64 0))
      have hall : Mod (fun y => y = U ∨ y = g) w2 ((((w2.setCell ⟨g, i * 10 + 3, none⟩ (.int .u64 x)).setCell ⟨U, 4, none⟩ (.int .i64 4)).setCell ⟨U, 4, none⟩ (.int .i64 0)).setCell ⟨U, 0, none⟩ (.int .i64 0)) := (hpm.weaken (fun _ _ h => .inr h)).trans hs (fun _ _ h => .inl h)
      generalize ((((w2.setCell ⟨g, i * 10 + 3, none⟩ (.int .u64 x)).setCell ⟨U, 4, none⟩ (.int .i64 4)).setCell ⟨U, 4, none⟩ (.int .i64 0)).setCell ⟨U, 0, none⟩ (.int .i64 0)) = w3 at hs ho hall ⊢
      have hfg := (HT2.out.fpv g rfl).1
      have hfU := HT2.out.fpU
      refine ⟨rfl, HR2.out.keep hall (fun y hy e => ?_), fpu, ?_, HTurn.out.trans ⟨(HO2.out.weaken (fun _ _ h => .inl h)).trans hall (fun y _ h => ?_), fun _ h => .inl h⟩, fun _ h => .inl h⟩
      · rcases e with e | e
        · exact HDm.out y (by rw [e]; exact hfU) hy
        · exact HDm.out y (by rw [e]; exact hfg) hy
      · rw [HE.out, if_pos (.inl (HOW.out.trans H0.out)), if_pos HLL.out]
        exact ⟨_, by have := hp.setOwn hs ho; rw [HQ.out, ← HLL.out]; simpa using this⟩
      · rcases h with h | h
        · rw [h]; exact .inr hfU
        · rw [h]; exact .inr hfg
    · have t3 : ((i : Int) + 1 == 4 * (q : Int)) = false := by simp; omega
      have HLN := Lib.hid hnq
      have HLL := Lib.hid hl
      clear hnq hl
      go_wp2_with fail
      go_end0
      have hp := HT2.out.put (i := i) (j := 3) (by decide) x
      have hpm := (Mod.refl (fun y => y = g) w2).setCell (p := ⟨g, i * 10 + 3, none⟩) (fun _ => rfl) (.int .u64 x)
      have hs := (((Mod.refl (fun y => y = U) (w2.setCell ⟨g, i * 10 + 3, none⟩ (.int .u64 x))).setCell (p := ⟨U, 4, none⟩) (fun _ => rfl) (.int .i64 4)).setCell (p := ⟨U, 4, none⟩) (fun _ => rfl) (.int .i64 0))
      have ho := (heap_setCell_same (i := 4) (heap_setCell_same (i := 4) hp.own (.int .i64 4)) (.int .i64 0))
      have hall : Mod (fun y => y = U ∨ y = g) w2 (((w2.setCell ⟨g, i * 10 + 3, none⟩ (.int .u64 x)).setCell ⟨U, 4, none⟩ (.int .i64 4)).setCell ⟨U, 4, none⟩ (.int .i64 0)) := (hpm.weaken (fun _ _ h => .inr h)).trans hs (fun _ _ h => .inl h)
      generalize (((w2.setCell ⟨g, i * 10 + 3, none⟩ (.int .u64 x)).setCell ⟨U, 4, none⟩ (.int .i64 4)).setCell ⟨U, 4, none⟩ (.int .i64 0)) = w3 at hs ho hall ⊢
      have hfg := (HT2.out.fpv g rfl).1
      have hfU := HT2.out.fpU
      refine ⟨rfl, HR2.out.keep hall (fun y hy e => ?_), fpu, ?_, HTurn.out.trans ⟨(HO2.out.weaken (fun _ _ h => .inl h)).trans hall (fun y _ h => ?_), fun _ h => .inl h⟩, fun _ h => .inl h⟩
      · rcases e with e | e
        · exact HDm.out y (by rw [e]; exact hfU) hy
        · exact HDm.out y (by rw [e]; exact hfg) hy
      · rw [HE.out, if_pos (.inl (HOW.out.trans H0.out)), if_neg HLL.out]
        exact ⟨_, by have := hp.setOwn hs ho; rw [HQ.out]; simpa using this⟩
      · rcases h with h | h
        · rw [h]; exact .inr hfU
        · rw [h]; exact .inr hfg
  · have t1 : ((Rw i 0) == 0) = false := by simpa using h0
    have H0 := Lib.hid h0
    clear h0
    have HLN := Lib.hid hnq
    clear hnq
    go_wp2_with fail
    go_end0
    have hp := HT2.out.put (i := i) (j := 3) (by decide) x
    have hpm := (Mod.refl (fun y => y = g) w2).setCell (p := ⟨g, i * 10 + 3, none⟩) (fun _ => rfl) (.int .u64 x)
    have hs := ((Mod.refl (fun y => y = U) (w2.setCell ⟨g, i * 10 + 3, none⟩ (.int .u64 x))).setCell (p := ⟨U, 4, none⟩) (fun _ => rfl) (.int .i64 4))
    have ho := (heap_setCell_same (i := 4) hp.own (.int .i64 4))
    have hall : Mod (fun y => y = U ∨ y = g) w2 ((w2.setCell ⟨g, i * 10 + 3, none⟩ (.int .u64 x)).setCell ⟨U, 4, none⟩ (.int .i64 4)) := (hpm.weaken (fun _ _ h => .inr h)).trans hs (fun _ _ h => .inl h)
    generalize ((w2.setCell ⟨g, i * 10 + 3, none⟩ (.int .u64 x)).setCell ⟨U, 4, none⟩ (.int .i64 4)) = w3 at hs ho hall ⊢
    have hfg := (HT2.out.fpv g rfl).1
    have hfU := HT2.out.fpU
    refine ⟨rfl, HR2.out.keep hall (fun y hy e => ?_), fpu, ?_, HTurn.out.trans ⟨(HO2.out.weaken (fun _ _ h => .inl h)).trans hall (fun y _ h => ?_), fun _ h => .inl h⟩, fun _ h => .inl h⟩
    · rcases e with e | e
      · exact HDm.out y (by rw [e]; exact hfU) hy
      · exact HDm.out y (by rw [e]; exact hfg) hy
    · rw [HE.out, if_neg (fun h => h.elim (fun h => H0.out (HOW.out.symm.trans h)) (by decide))]
      exact ⟨_, by have := hp.setOwn hs ho; rw [HQ.out]; simpa using this⟩
    · rcases h with h | h
      · rw [h]; exact .inr hfU
      · rw [h]; exact .inr hfg
end Go.Proofs.Ytjnbkpklcmkdlaa
