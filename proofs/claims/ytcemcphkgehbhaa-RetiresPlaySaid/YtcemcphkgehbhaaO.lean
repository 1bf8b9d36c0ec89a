/- The law RetiresPlay, walked. -/
import Derived.Test.YtcemcphkgehbhaaN
namespace Go.Proofs.Ytcemcphkgehbhaa
open Go.RowKit

set_option maxHeartbeats 4000000 in
set_option maxRecDepth 100000 in
theorem play_walk (w : World) (av : Value) (acts : List ActR) (ha : Acts w av acts) (hal : acts.length ≤ 9223372036854775807) :
    Calls Try.prog 3 #[av] w fun e w' => e = .returned (.bool true) ∧ Below w.heap.size w w' := by
  obtain ⟨a, acap, rfl, ha0⟩ := ha
  by_cases h1 : 100 < acts.length
  · go_enter Try.func3, Try.ntmps3
    go_wp2_with (go_at_call 5; refine (lives_any _).mono ?_; rintro e w' ⟨rfl, hb⟩)
    go_ret
    exact ⟨rfl, hb⟩
  have HA0 := Lib.hid ha0
  clear ha0
  go_enter Try.func3, Try.ntmps3
  go_wp2_with fail
  refine (st_new w w (Mod.refl _ _)).mono ?_
  rintro _ w1 ⟨rfl, s1⟩
  obtain ⟨L, hL⟩ : ∃ L, L = w.heap.size := ⟨_, rfl⟩
  rw [← hL] at s1 ⊢
  clear hL
  generalize [L] = fp1 at s1
  go_wp2_with fail
  have t1 : Two w (w1.alloc (.cells #[.slice none 0 0] 28)) L w1.heap.size [] [] 0 fp1 [w1.heap.size] :=
    ⟨s1.alloc _, ⟨.slice none 0 0, heap_alloc_at _ _, World.ownsRow_nil _ _ _ _, by simp [Value.ownBlock], by simp⟩, by simp; exact s1.mod.size, fun b hb h => by
      have := s1.ret.ltfp b hb; simp at h; omega⟩
  generalize w1.alloc (.cells #[.slice none 0 0] 28) = w2 at t1 ⊢
  generalize w1.heap.size = R at t1 ⊢
  clear s1
  go_loopw [5] (fun i wr => ∃ k : Nat, k ≤ acts.length ∧ i = .int .i64 k ∧ ∃ es fp fr, es.length ≤ k ∧ Two w wr L R es es k fp fr) (fun i wr => acts.length - (intOf i).toNat)
  case atStart => exact ⟨0, Nat.zero_le _, rfl, [], fp1, _, Nat.le_refl _, t1⟩
  case round =>
    obtain ⟨k, hk, rfl, es, fp, fr, hes, ht⟩ := hrel
    clear t1
    by_cases hlt : k < acts.length
    · obtain ⟨b, off, rfl, D0⟩ := HA0.out.resolve_left (fun h => by rw [h] at hlt; simp at hlt)
      obtain ⟨ga, gcap, hAct, hG, hGb, hwf, hgl⟩ := D0 k hlt
      replace hAct := hAct.keep ht.st.mod (fun h => h)
      obtain ⟨c0, c1, c2, c3, c4, c5, c6, c7, c8⟩ := hAct
      clear D0
      generalize acts[k] = x at *
      have HG := Lib.hid hG
      have HGb := Lib.hid hGb
      clear hG hGb
      have hblt := World.block_lt_of_cell? _ _ c0
      simp only at hblt
      by_cases hgn : 100 < x.gone.length
      · go_wp2_with (go_at_call 5; refine (lives_any _).mono ?_; rintro e w' ⟨rfl, hb⟩)
        go_ret
        refine ⟨rfl, ?_⟩
        exact (((ht.st.alloc _).below hb).mod).below (fun _ _ h => h)
      · obtain ⟨sw, xe, gone, before⟩ := x
        simp only at *
        have hbox0 := heap_alloc_at wr (.cells #[.bool sw, .int .i64 xe.slot, .int .u32 xe.gen, .bool xe.mark, .int .u64 xe.birth, .int .u64 xe.epoch, .int .u64 xe.era, .slice ga gone.length gcap, .int .u64 before] 37)
        have HT := Lib.hid (ht.below ((Below.refl _ _).alloc (Nat.le_refl _) (.cells #[.bool sw, .int .i64 xe.slot, .int .u32 xe.gen, .bool xe.mark, .int .u64 xe.birth, .int .u64 xe.epoch, .int .u64 xe.era, .slice ga gone.length gcap, .int .u64 before] 37)))
        have hxo : wr.heap.size ∉ fp ∧ wr.heap.size ∉ fr := ⟨fun h => absurd (ht.st.ret.ltfp _ h) (by omega), fun h => absurd (ht.ref.ltfp _ h) (by omega)⟩
        have HX := Lib.hid hxo
        have hbox1 := Lib.hid hbox0
        clear hbox0 ht hxo
        cases sw with
        | true =>
          have hgv := HG.out
          go_wp2_with (at_builtin; refine wpList_append_bools rfl _ _ rfl rfl _ gone rfl (HG.out.keep HT.out.st.mod (fun _ _ h => h)) (by omega) ?_; intro v7 w7 hrow7 hm7)
          have hxlt : wr.heap.size < (wr.alloc (.cells #[.bool true, .int .i64 xe.slot, .int .u32 xe.gen, .bool xe.mark, .int .u64 xe.birth, .int .u64 xe.epoch, .int .u64 xe.era, .slice ga gone.length gcap, .int .u64 before] 37)).heap.size := by simp
          have ht := HT.out
          have hbx := hbox1.out
          have hx := HX.out
          clear HT hbox1 HX c0 c1 c2 c3 c4 c5 c6 c7 c8 hblt hgv
          generalize wr.alloc (.cells #[.bool true, .int .i64 xe.slot, .int .u32 xe.gen, .bool xe.mark, .int .u64 xe.birth, .int .u64 xe.epoch, .int .u64 xe.era, .slice ga gone.length gcap, .int .u64 before] 37) = wa at ht hbx hm7 hrow7 hxlt
          generalize wr.heap.size = xb at hbx hx hxlt ⊢
          obtain ⟨hb7, hblk7⟩ := bools_made hrow7
          have hfpa := ht.st.ret.ltfp
          have hfra := ht.ref.ltfp
          have ht7 := ht.mod0 hm7
          have hbx7 := hm7.keep hbx (fun h => h)
          have hw07 := ht7.st.mod.size
          have ha7 := hm7.size
          obtain ⟨a7, cap7, rfl, -⟩ := id hb7
          clear hrow7 ht hbx hm7
          refine (st_sweep ht7.st _ gone hb7 (fun _ b hb h => by have h1 := (hblk7 b hb).1; have h2 := hfpa b h; omega) (by omega) (by omega)).mono ?_
          rintro _ w8 ⟨v8, fp8, rfl, hc8, hst8, ht8, hn8⟩
          have h8 := ht7.left hst8 ht8
          have hbx8 := ht8.mod.keep hbx7 hx.1
          have hb78 := hb7.keep ht8.mod (fun b hb h => by have h1 := (hblk7 b hb).1; have h2 := hfpa b h; omega)
          have hw78 := ht8.mod.size
          have hoff8 : ∀ b, Value.blk v8 = some b → b < w8.heap.size ∧ w7.heap.size ≤ b ∧ b ∉ fp8 := fun b hb => ⟨hc8.lt b hb, hc8.blk_ge b hb, hn8 b (by rw [hc8.own_blk]; exact hb)⟩
          have H8 := Lib.hid h8
          have HB8 := Lib.hid hbx8
          have HB78 := Lib.hid hb78
          have HC8 := Lib.hid hc8
          have HOFF8 := Lib.hid hoff8
          have HX := Lib.hid hx
          have HBLK := Lib.hid hblk7
          have HFRA := Lib.hid hfra
          have HSZ : Hid (w.heap.size ≤ w7.heap.size ∧ wa.heap.size ≤ w7.heap.size ∧ w7.heap.size ≤ w8.heap.size ∧ xb < wa.heap.size) := ⟨hw07, ha7, hw78, hxlt⟩
          have g8 := cell_of hbx8 (i := 7) rfl
          clear ht7 hbx7 hb7 hc8 hst8 ht8 hn8 h8 hbx8 hb78 hoff8 hx hblk7 hfra hfpa hw07 ha7 hw78 hxlt
          go_wp2_with fail
          refine (rsweep_any w8 R es fr _ gone H8.out.ref (HG.out.keep H8.out.st.mod (fun _ _ h => h)) (by omega) (by omega)).mono ?_
          rintro _ w9 ⟨v9, fr9, rfl, hE9, hr9, ht9⟩
          have H9 := Lib.hid (H8.out.right hr9 ht9)
          have HB9 := Lib.hid (ht9.mod.keep HB8.out HX.out.2)
          have HB79 := Lib.hid (HB78.out.keep ht9.mod (fun b hb h => by have h1 := (HBLK.out b hb).1; have h2 := HFRA.out b h; omega))
          have HC9 := Lib.hid (HC8.out.keep ht9.mod (fun b hb h => by have h1 := HOFF8.out b hb; have h2 := HFRA.out b h; have h3 := HSZ.out; omega))
          have HF9 : Hid (∀ b, Value.blk v8 = some b → b ∉ fr9) := fun b hb h => by
            have h1 := HOFF8.out b hb
            rcases ht9.fresh b h with h4 | h4
            · have h2 := HFRA.out b h4; have h3 := HSZ.out; omega
            · omega
          have HE9 := Lib.hid hE9
          clear hE9 hr9 ht9 g8
          go_wp2_with fail
          have hol := outK_le es gone es.length
          refine (same_true _ _ (outK es gone es.length) _ (by omega) HC9.out.ents HE9.out).mono ?_
          rintro _ w10 ⟨rfl, n10, hw10⟩
          have H10 : Hid (Two w w10 L R (leftK es gone es.length) (leftK es gone es.length) k fp8 fr9) := by unfold Hid; rw [hw10]; exact H9.out.below (below_drewN (Below.refl _ _) _)
          have HB10 : Hid (w10.heap[xb]? = some (.cells #[.bool true, .int .i64 xe.slot, .int .u32 xe.gen, .bool xe.mark, .int .u64 xe.birth, .int .u64 xe.epoch, .int .u64 xe.era, .slice ga gone.length gcap, .int .u64 before] 37 (0, 0))) := by unfold Hid; rw [hw10]; exact HB9.out
          have HB710 : Hid (Bools w10 (.slice a7 gone.length cap7) gone) := by unfold Hid; rw [hw10]; exact HB79.out
          have HC10 : Hid (Cut w10 w7.heap.size v8 (outK es gone es.length)) := by unfold Hid; rw [hw10]; exact HC9.out
          have g10 := cell_of HB10.out (i := 7) rfl
          have HG10 := Lib.hid (HG.out.keep H10.out.st.mod (fun _ _ h => h))
          clear hw10 H9 HB9 HB79 HC9
          go_wp2_with fail
          go_loopw [9] (fun i wx => ∃ j : Nat, j ≤ gone.length ∧ i = .int .i64 j ∧ ∃ n, wx = w10.drewN n) (fun i wx => gone.length - (intOf i).toNat)
          case atStart => exact ⟨0, Nat.zero_le _, rfl, 0, rfl⟩
          case round =>
            obtain ⟨j, hj, rfl, nn, rfl⟩ := hrel
            by_cases hjl : j < gone.length
            · obtain ⟨_, _, e1, q1⟩ := id HB710.out
              cases e1
              obtain ⟨b7, o7, rfl, p1⟩ := q1.resolve_left (fun h => by rw [h] at hjl; simp at hjl)
              obtain ⟨_, _, e2, q2⟩ := id HG10.out
              cases e2
              obtain ⟨b8, o8, rfl, p2⟩ := q2.resolve_left (fun h => by rw [h] at hjl; simp at hjl)
              have y1 := p1 j hjl
              have y2 := p2 j hjl
              clear q1 q2 p1 p2
              generalize gone[j] = gj at y1 y2
              go_wp2_with fail
              go_quiet (fail)
              go_wp2_with fail
              go_roundw
              case rel => exact ⟨j + 1, by omega, by go_num, _, rfl⟩
              case measure => simp [intOf]; omega
            · have hz : Two w (w10.drewN nn) L R (leftK es gone es.length) (leftK es gone es.length) k fp8 fr9 := H10.out.below (below_drewN (Below.refl _ _) _)
              have hbz : (w10.drewN nn).heap[xb]? = some (.cells #[.bool true, .int .i64 xe.slot, .int .u32 xe.gen, .bool xe.mark, .int .u64 xe.birth, .int .u64 xe.epoch, .int .u64 xe.era, .slice ga gone.length gcap, .int .u64 before] 37 (0, 0)) := HB10.out
              have hcz : Cut (w10.drewN nn) w7.heap.size v8 (outK es gone es.length) := HC10.out
              have g11 := cell_of hbz (i := 7) rfl
              generalize w10.drewN nn = w11 at hz hbz hcz g11 ⊢
              go_wp2_with fail
              refine (spoil_any _ v8 _ _ hcz (by omega)).mono ?_
              rintro _ w12 ⟨rfl, hm12⟩
              have hz12 := hz.mods hm12 (fun b hb h => (HOFF8.out b (by rw [← hcz.own_blk]; exact h)).2.2 hb) (fun b hb h => HF9.out b (by rw [← hcz.own_blk]; exact h) hb)
                (fun b h => by have h1 := (HOFF8.out b (by rw [← hcz.own_blk]; exact h)).2.1; have h3 := HSZ.out; omega)
              have H12 := Lib.hid (hz12.mono (Nat.le_succ k))
              have HB12 := Lib.hid (hm12.keep hbz (fun h => by have h1 := (HOFF8.out xb (by rw [← hcz.own_blk]; exact h)).2.1; have h3 := HSZ.out; omega))
              clear hz hbz hcz hz12 hm12 g10 g11 H10 HB10
              go_wp2_with fail
              have HZ0 := Lib.hid (H12.out)
              have hesz : (leftK es gone es.length).length ≤ k + 1 := Nat.le_trans (leftK_le es gone es.length) (by omega)
              have x0 := cell_of HB12.out (i := 8) rfl
              obtain ⟨rv, r0, hrE⟩ := HZ0.out.ref.ents
              obtain ⟨ra, rcap, rfl, hrE'⟩ := hrE
              have HRE : Hid (Ents w12 (.slice ra (leftK es gone es.length).length rcap) (leftK es gone es.length)) := ⟨ra, rcap, rfl, hrE'⟩
              clear hrE'
              generalize hEZ : leftK es gone es.length = ez at *
              have HEZ := Lib.hid hEZ
              clear hEZ
              go_wp2_with fail
              have rb : ∀ (wq : World), Below w12.heap.size w12 wq → wq.cell? ⟨R, 0, none⟩ = some (.slice ra ez.length rcap) ∧ wq.cell? ⟨xb, 8, none⟩ = some (.int .u64 before) := fun wq hb =>
                ⟨by rw [hb.cell (World.block_lt_of_cell? _ _ r0)]; exact r0, by rw [hb.cell (World.block_lt_of_cell? _ _ x0)]; exact x0⟩
              have RB := Lib.hid rb
              clear rb
              go_region_held3 (fun w' => w'.cell? ⟨R, 0, none⟩ = some (.slice ra ez.length rcap) ∧ w'.cell? ⟨xb, 8, none⟩ = some (.int .u64 before)) (first | exact ⟨r0, x0⟩ | exact qA | exact qB | exact qC | exact qD)
                (first
                  | (go_at_call 13; refine (all_any _ L ez (k + 1) fp8 (HZ0.out.mod0 (Mod.refl _ _).drew).st.ret (by omega)).mono ?_; rintro _ wA ⟨vA, rfl, hcA, hbA⟩
                     have HA := Lib.hid ((Below.refl _ w12).drew.trans hbA)
                     have HEA := Lib.hid hcA.ents
                     have qA := RB.out _ HA.out
                     clear hcA hbA)
                  | (go_at_call 8; refine (same_true _ _ ez _ (by omega) HEA.out (HRE.out.keep (Mod.ofBelow HA.out (fun _ => False)) (fun _ _ h => h))).mono ?_; rintro _ wB ⟨rfl, nB, hwB⟩
                     have HB : Hid (Below w12.heap.size w12 wB) := by unfold Hid; rw [hwB]; exact below_drewN HA.out nB
                     have qB := RB.out _ HB.out
                     clear hwB)
                  | (go_at_call 14; refine (len_any _ L ez (k + 1) fp8 (HZ0.out.below HB.out).st.ret).mono ?_; rintro _ _ ⟨rfl, rfl⟩)
                  | (go_at_call 15; refine (born_any _ L ez (k + 1) fp8 before (HZ0.out.below HB.out).st.ret (by omega)).mono ?_; rintro _ wC ⟨rfl, hbC⟩
                     have HC := Lib.hid (HB.out.trans (hbC.mono HB.out.size))
                     have qC := RB.out _ HC.out
                     clear hbC)
                  | (go_at_call 16; refine (rborn_any _ R ez fr9 before (HZ0.out.below HC.out).ref (by omega)).mono ?_; rintro _ wD ⟨rfl, nD, hwD⟩
                     have HD : Hid (Below w12.heap.size w12 wD) := by unfold Hid; rw [hwD]; exact below_drewN HC.out nD
                     have qD := RB.out _ HD.out
                     clear hwD))
              go_wp2_with fail
              have HTD := Lib.hid (HZ0.out.below HD.out)
              refine (all_any _ L ez (k + 1) fp8 HTD.out.st.ret (by omega)).mono ?_
              rintro _ wE ⟨vE, rfl, hcE, hbE⟩
              have HTE := Lib.hid (HTD.out.below hbE)
              have HCE := Lib.hid hcE
              have hoff := hcE.off HTD.out.st.ret
              have hoffr : ∀ b, Value.blk vE = some b → b ∉ fr9 := fun b hb hf => by
                have h1 := hcE.blk_ge b hb
                have h2 := HTD.out.ref.ltfp b hf
                omega
              have HOFF := Lib.hid hoff
              have HOFFR := Lib.hid hoffr
              have HSZ := Lib.hid HTD.out.st.mod.size
              clear hcE hbE hoff hoffr
              go_wp2_with fail
              refine (spoil_any _ vE ez _ HCE.out (by omega)).mono ?_
              rintro _ wF ⟨rfl, hmF⟩
              have HTF := Lib.hid (HTE.out.mods hmF (fun b hb h => (HOFF.out b (by rw [← HCE.out.own_blk]; exact h)).2 hb) (fun b hb h => HOFFR.out b (by rw [← HCE.out.own_blk]; exact h) hb)
                (fun b h => Nat.le_trans HSZ.out (HCE.out.blk_ge b (by rw [← HCE.out.own_blk]; exact h))))
              clear hmF
              go_wp2_with fail
              go_roundw
              case rel => exact ⟨k + 1, by omega, by go_num, ez, fp8, fr9, by omega, HTF.out⟩
              case measure => simp [intOf]; omega
        | false =>
          go_wp2_with fail
          have ht := HT.out
          have hbx := hbox1.out
          have hx := HX.out
          clear HT hbox1 HX HG HGb c0 c1 c2 c3 c4 c5 c6 c7 c8 hblt
          generalize wr.alloc (.cells #[.bool false, .int .i64 xe.slot, .int .u32 xe.gen, .bool xe.mark, .int .u64 xe.birth, .int .u64 xe.epoch, .int .u64 xe.era, .slice ga gone.length gcap, .int .u64 before] 37) = wa at ht hbx ⊢
          generalize wr.heap.size = xb at hbx hx ⊢
          have HT := Lib.hid ht
          have HBX := Lib.hid hbx
          have HX := Lib.hid hx
          have c1 := cell_of hbx (i := 1) rfl
          have c2 := cell_of hbx (i := 2) rfl
          have c3 := cell_of hbx (i := 3) rfl
          have c4 := cell_of hbx (i := 4) rfl
          have c5 := cell_of hbx (i := 5) rfl
          have c6 := cell_of hbx (i := 6) rfl
          clear ht hbx hx
          go_region_held3 (fun w' => w'.cell? ⟨xb, 1, none⟩ = some (.int .i64 xe.slot) ∧ w'.cell? ⟨xb, 2, none⟩ = some (.int .u32 xe.gen) ∧ w'.cell? ⟨xb, 3, none⟩ = some (.bool xe.mark) ∧ w'.cell? ⟨xb, 4, none⟩ = some (.int .u64 xe.birth) ∧ w'.cell? ⟨xb, 5, none⟩ = some (.int .u64 xe.epoch) ∧ w'.cell? ⟨xb, 6, none⟩ = some (.int .u64 xe.era)) (first | exact ⟨c1, c2, c3, c4, c5, c6⟩ | exact ⟨d1, d2, d3, d4, d5, d6⟩ | exact ⟨e1, e2, e3, e4, e5, e6⟩)
            (first
              | (go_at_call 11; refine (st_add (HT.out.mod0 (Mod.refl _ _).drew).st xe hwf (by omega) (by omega)).mono ?_; rintro _ w8 ⟨rfl, fp8, hst8, ht8⟩
                 have H8 := Lib.hid ((HT.out.mod0 (Mod.refl _ _).drew).left hst8 ht8)
                 have HB8 := Lib.hid (ht8.mod.keep (show wa.drew.heap[xb]? = some _ from HBX.out) HX.out.1)
                 have d1 := cell_of HB8.out (i := 1) rfl
                 have d2 := cell_of HB8.out (i := 2) rfl
                 have d3 := cell_of HB8.out (i := 3) rfl
                 have d4 := cell_of HB8.out (i := 4) rfl
                 have d5 := cell_of HB8.out (i := 5) rfl
                 have d6 := cell_of HB8.out (i := 6) rfl)
              | (go_at_call 12; refine (radd_any w8 R es xe fr H8.out.ref (by omega)).mono ?_; rintro _ w9 ⟨rfl, fr9, hr9, ht9⟩
                 have H9 := Lib.hid (H8.out.right hr9 ht9)
                 have HB9 := Lib.hid (ht9.mod.keep HB8.out HX.out.2)
                 have e1 := cell_of HB9.out (i := 1) rfl
                 have e2 := cell_of HB9.out (i := 2) rfl
                 have e3 := cell_of HB9.out (i := 3) rfl
                 have e4 := cell_of HB9.out (i := 4) rfl
                 have e5 := cell_of HB9.out (i := 5) rfl
                 have e6 := cell_of HB9.out (i := 6) rfl))
          go_wp2_with fail
          clear c1 c2 c3 c4 c5 c6 d1 d2 d3 d4 d5 d6 e1 e2 e3 e4 e5 e6
          have HZ0 := Lib.hid (H9.out)
          have hesz : (addL es xe).length ≤ k + 1 := Nat.le_trans (addL_le es xe) (by omega)
          have x0 := cell_of HB9.out (i := 8) rfl
          obtain ⟨rv, r0, hrE⟩ := HZ0.out.ref.ents
          obtain ⟨ra, rcap, rfl, hrE'⟩ := hrE
          have HRE : Hid (Ents w9 (.slice ra (addL es xe).length rcap) (addL es xe)) := ⟨ra, rcap, rfl, hrE'⟩
          clear hrE'
          generalize hEZ : addL es xe = ez at *
          have HEZ := Lib.hid hEZ
          clear hEZ
          go_wp2_with fail
          have rb : ∀ (wq : World), Below w9.heap.size w9 wq → wq.cell? ⟨R, 0, none⟩ = some (.slice ra ez.length rcap) ∧ wq.cell? ⟨xb, 8, none⟩ = some (.int .u64 before) := fun wq hb =>
            ⟨by rw [hb.cell (World.block_lt_of_cell? _ _ r0)]; exact r0, by rw [hb.cell (World.block_lt_of_cell? _ _ x0)]; exact x0⟩
          have RB := Lib.hid rb
          clear rb
          go_region_held3 (fun w' => w'.cell? ⟨R, 0, none⟩ = some (.slice ra ez.length rcap) ∧ w'.cell? ⟨xb, 8, none⟩ = some (.int .u64 before)) (first | exact ⟨r0, x0⟩ | exact qA | exact qB | exact qC | exact qD)
            (first
              | (go_at_call 13; refine (all_any _ L ez (k + 1) fp8 (HZ0.out.mod0 (Mod.refl _ _).drew).st.ret (by omega)).mono ?_; rintro _ wA ⟨vA, rfl, hcA, hbA⟩
                 have HA := Lib.hid ((Below.refl _ w9).drew.trans hbA)
                 have HEA := Lib.hid hcA.ents
                 have qA := RB.out _ HA.out
                 clear hcA hbA)
              | (go_at_call 8; refine (same_true _ _ ez _ (by omega) HEA.out (HRE.out.keep (Mod.ofBelow HA.out (fun _ => False)) (fun _ _ h => h))).mono ?_; rintro _ wB ⟨rfl, nB, hwB⟩
                 have HB : Hid (Below w9.heap.size w9 wB) := by unfold Hid; rw [hwB]; exact below_drewN HA.out nB
                 have qB := RB.out _ HB.out
                 clear hwB)
              | (go_at_call 14; refine (len_any _ L ez (k + 1) fp8 (HZ0.out.below HB.out).st.ret).mono ?_; rintro _ _ ⟨rfl, rfl⟩)
              | (go_at_call 15; refine (born_any _ L ez (k + 1) fp8 before (HZ0.out.below HB.out).st.ret (by omega)).mono ?_; rintro _ wC ⟨rfl, hbC⟩
                 have HC := Lib.hid (HB.out.trans (hbC.mono HB.out.size))
                 have qC := RB.out _ HC.out
                 clear hbC)
              | (go_at_call 16; refine (rborn_any _ R ez fr9 before (HZ0.out.below HC.out).ref (by omega)).mono ?_; rintro _ wD ⟨rfl, nD, hwD⟩
                 have HD : Hid (Below w9.heap.size w9 wD) := by unfold Hid; rw [hwD]; exact below_drewN HC.out nD
                 have qD := RB.out _ HD.out
                 clear hwD))
          go_wp2_with fail
          have HTD := Lib.hid (HZ0.out.below HD.out)
          refine (all_any _ L ez (k + 1) fp8 HTD.out.st.ret (by omega)).mono ?_
          rintro _ wE ⟨vE, rfl, hcE, hbE⟩
          have HTE := Lib.hid (HTD.out.below hbE)
          have HCE := Lib.hid hcE
          have hoff := hcE.off HTD.out.st.ret
          have hoffr : ∀ b, Value.blk vE = some b → b ∉ fr9 := fun b hb hf => by
            have h1 := hcE.blk_ge b hb
            have h2 := HTD.out.ref.ltfp b hf
            omega
          have HOFF := Lib.hid hoff
          have HOFFR := Lib.hid hoffr
          have HSZ := Lib.hid HTD.out.st.mod.size
          clear hcE hbE hoff hoffr
          go_wp2_with fail
          refine (spoil_any _ vE ez _ HCE.out (by omega)).mono ?_
          rintro _ wF ⟨rfl, hmF⟩
          have HTF := Lib.hid (HTE.out.mods hmF (fun b hb h => (HOFF.out b (by rw [← HCE.out.own_blk]; exact h)).2 hb) (fun b hb h => HOFFR.out b (by rw [← HCE.out.own_blk]; exact h) hb)
            (fun b h => Nat.le_trans HSZ.out (HCE.out.blk_ge b (by rw [← HCE.out.own_blk]; exact h))))
          clear hmF
          go_wp2_with fail
          go_roundw
          case rel => exact ⟨k + 1, by omega, by go_num, ez, fp8, fr9, by omega, HTF.out⟩
          case measure => simp [intOf]; omega
    · obtain rfl : k = acts.length := by omega
      have HZ0 := Lib.hid ht
      obtain ⟨rv, r0, hrE⟩ := ht.ref.ents
      obtain ⟨ra, rcap, rfl, hrE'⟩ := hrE
      have HRE : Hid (Ents wr (.slice ra es.length rcap) es) := ⟨ra, rcap, rfl, hrE'⟩
      clear hrE' ht HA0
      have rb : ∀ (wq : World), Below wr.heap.size wr wq → wq.cell? ⟨R, 0, none⟩ = some (.slice ra es.length rcap) := fun wq hb => by
        rw [hb.cell (World.block_lt_of_cell? _ _ r0)]; exact r0
      have RB := Lib.hid rb
      clear rb
      go_wp2_with fail
      go_region_held3 (fun w' => w'.cell? ⟨R, 0, none⟩ = some (.slice ra es.length rcap)) (first | exact r0 | exact qA | exact qB | exact qC)
        (first
          | (go_at_call 13; refine (all_any _ L es _ fp (HZ0.out.mod0 (Mod.refl _ _).drew).st.ret (by omega)).mono ?_; rintro _ wA ⟨vA, rfl, hcA, hbA⟩
             have HA := Lib.hid ((Below.refl _ wr).drew.trans hbA)
             have HEA := Lib.hid hcA.ents
             have qA := RB.out _ HA.out
             clear hcA hbA)
          | (go_at_call 8; refine (same_true _ _ es _ (by omega) HEA.out (HRE.out.keep (Mod.ofBelow HA.out (fun _ => False)) (fun _ _ h => h))).mono ?_; rintro _ wB ⟨rfl, nB, hwB⟩
             have HB : Hid (Below wr.heap.size wr wB) := by unfold Hid; rw [hwB]; exact below_drewN HA.out nB
             have qB := RB.out _ HB.out
             clear hwB)
          | (go_at_call 5; refine (lives_any _).mono ?_; rintro _ wC ⟨rfl, hbC⟩
             have HC := Lib.hid (HB.out.trans (hbC.mono HB.out.size))
             have qC := RB.out _ HC.out
             clear hbC))
      go_wp2_with fail
      go_ret
      exact ⟨rfl, (HZ0.out.below HC.out).st.mod.below (fun _ _ h => h)⟩
end Go.Proofs.Ytcemcphkgehbhaa
