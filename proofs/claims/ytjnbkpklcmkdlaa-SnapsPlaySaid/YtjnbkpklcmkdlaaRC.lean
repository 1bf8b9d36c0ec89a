/- The document's memory: a word put. -/
import Derived.Test.YtjnbkpklcmkdlaaRB

namespace Go.Proofs.Ytjnbkpklcmkdlaa
open Go.RowKit

theorem flatW_set {ws : Ws} {k : Nat} (hk : k < ws.length) {a : Adr} (ha : ws[k].1 = a) (nv : Int) : (flatW ws).set (k * 4 + 3) (.int .u64 nv) = flatW (ws.set k (a, nv)) := by
  induction ws generalizing k with
  | nil => simp at hk
  | cons e r ih =>
    cases k with
    | zero =>
      simp only [List.getElem_cons_zero] at ha
      subst ha
      simp [flatW, wCells]
    | succ k =>
      simp only [List.getElem_cons_succ] at ha
      have := ih (by simpa using hk) ha
      simp only [flatW, List.flatMap_cons, List.set_cons_succ] at *
      rw [← this, List.set_append_right _ _ (by simp [wCells]; omega)]
      congr 2
      simp [wCells]
      omega
theorem RefIs.hit {fp : Nat → Prop} {R : Nat} {g n cap : Nat} {ws : Ws} {s : Int} {L : Acc} {w : World} (h : RefIs fp R (.slice (some ⟨g, 0, none⟩) n cap) ws s L w) {k : Nat} (hk : k < ws.length) {a : Adr} (ha : ws[k].1 = a) (nv : Int) :
    RefIs fp R (.slice (some ⟨g, 0, none⟩) n cap) (ws.set k (a, nv)) s L (w.setCell ⟨g, k * 4 + 3, none⟩ (.int .u64 nv)) := by
  obtain ⟨hf, hne⟩ := h.fpv g rfl
  refine ⟨heap_setCell_other h.own (fun e => hne e.symm) _, ⟨?_, ?_⟩, h.fpR, h.fpv, fun x hx => by simpa using h.lt x hx⟩
  · rw [flatW_len]
  · rcases h.row.2 with ⟨h1, _⟩ | ⟨g', cap', cur, h1, hb, hg, hnc, hcm, hcs, ht⟩
    · cases h1
    · cases h1
      rw [List.length_set]
      refine .inr ⟨g, cap, _, rfl, hb, heap_setCell_same hg _, hnc, hcm, by simpa using hcs, ?_⟩
      rw [Array.toList_setIfInBounds, List.take_set, ht, flatW_set hk ha]

def RPutPost (R : Nat) (ws : Ws) (s : Int) (L : Acc) (fp : Nat → Prop) (w : World) (e : Ending) (w' : World) : Prop :=
  e = .returned (.tuple #[]) ∧ ∃ fp' v', RefIs fp' R v' ws s L w' ∧ Turn fp fp' w w'
set_option maxHeartbeats 1000000 in
theorem rput_no {fp : Nat → Prop} {R : Nat} {v : Value} {ws : Ws} {s : Int} {L : Acc} {w : World} (h : RefIs fp R v ws s L w) {a : Adr} (ha : AdrWf a) (hm : mayB a = false) (nv : Int) :
    Calls Try.prog 59 #[.pointer (some ⟨R, 0, none⟩), adrVal a, .int .u64 nv] w (RPutPost R ws s L fp w) := by
  have HA := Lib.hid ha
  have HM := Lib.hid hm
  have HH := Lib.hid h
  clear ha hm h
  obtain ⟨ka, aa, fa⟩ := a
  simp only [adrVal]
  go_enter Try.func59, Try.ntmps59
  go_wp2_with fail
  refine (may2_any HA.out _).mono ?_
  rintro _ w1 ⟨rfl, hb⟩
  rw [HM.out]
  have HB := Lib.hid hb
  clear hb
  go_wp2_with fail
  go_end0
  have hm : Mod (fun _ => False) w w1 := ((Mod.refl _ _).alloc _).trans (Mod.ofBelow HB.out _) (fun _ _ h => h)
  exact ⟨rfl, fp, v, HH.out.keep hm (fun _ _ h => h), (Turn.refl fp w).on hm⟩

theorem infoW : (Try.prog.info? 126).map (fun i => (i.zero, i.size, i.bytes)) = some (some (.agg #[.int .u8 0, .int .i64 0, .int .i64 0, .int .u64 0]), 4, 32) := by kernel_rfl
set_option maxHeartbeats 2000000 in
theorem rput_yes {fp : Nat → Prop} {R : Nat} {v : Value} {ws : Ws} {s : Int} {L : Acc} {w : World} (h : RefIs fp R v ws s L w) (hn : ws.length ≤ 100000) {a : Adr} (ha : AdrWf a) (hm : mayB a = true) (nv : Int) :
    Calls Try.prog 59 #[.pointer (some ⟨R, 0, none⟩), adrVal a, .int .u64 nv] w (RPutPost R (wput ws a nv) s L fp w) := by
  obtain ⟨sa, cap, rfl, hw⟩ := h.words
  have hlt := lt_of_block h.own
  have HW := Lib.hid hw
  have HA := Lib.hid ha
  have HMy := Lib.hid hm
  have HH := Lib.hid h
  obtain ⟨i0, hi, hz0, hz1, hz2⟩ := info_parts infoW
  have HI0 := Lib.hid hi
  have HI1 := Lib.hid hz0
  have HI2 := Lib.hid hz1
  have HI3 := Lib.hid hz2
  clear ha hm h hw hi hz0 hz1 hz2
  obtain ⟨ka, aa, fa⟩ := a
  simp only [adrVal]
  go_enter Try.func59, Try.ntmps59
  go_wp2_with fail
  refine (may2_any HA.out _).mono ?_
  rintro _ w1 ⟨rfl, hb⟩
  rw [HMy.out]
  have hb0 : Mod (fun _ => False) w w1 := ((Mod.refl _ _).alloc _).trans (Mod.ofBelow hb _) (fun _ _ h => h)
  have hs0 := (Mod.ofBelow hb (fun _ => False)).keep (heap_alloc_at w (.cells #[.int .u8 ka, .int .i64 aa, .int .i64 fa] 30)) (fun h => h)
  have HB0 := Lib.hid hb0
  have HS0 := Lib.hid hs0
  clear hb hb0 hs0
  go_wp2_with fail
  go_loopw [6] (fun i wr => WRel ws (ka, aa, fa) w1 i wr) (fun i _ => ws.length - (intOf i).toNat)
  case atStart => exact ⟨0, Nat.zero_le _, rfl, fun j h hj => by omega, Mod.refl _ _⟩
  case round =>
    obtain ⟨k, hk, rfl, hpre, hmk⟩ := hrel
    have HP := Lib.hid hpre
    have HM := Lib.hid hmk
    clear hpre hmk
    have HR : Hid (RefIs fp R (.slice sa ws.length cap) ws s L _) := HH.out.keep (HB0.out.trans HM.out (fun _ _ h => h)) (fun _ _ h => h)
    have c0 : (_ : World).cell? ⟨R, 0, none⟩ = some (.slice sa ws.length cap) := cell_of HR.out.own rfl
    have HS := Lib.hid (HM.out.keep HS0.out (fun h => h))
    have b0 := cell_of (i := 0) HS.out rfl
    have b1 := cell_of (i := 1) HS.out rfl
    have b2 := cell_of (i := 2) HS.out rfl
    by_cases hkl : k < ws.length
    · obtain ⟨g, rfl, D0⟩ := HW.out.resolve_left (fun h => by rw [h] at hkl; simp at hkl)
      have hwr : Mod (fun _ => False) w _ := HB0.out.trans HM.out (fun _ _ h => h)
      obtain ⟨x0, x1, x2, x3⟩ := D0 k hkl
      have hg := World.block_lt_of_cell? _ _ x0
      have y0 := (cell_mod hwr hg (fun h => h)).trans x0
      have y1 := (cell_mod hwr hg (fun h => h)).trans x1
      have y2 := (cell_mod hwr hg (fun h => h)).trans x2
      have y3 := (cell_mod hwr hg (fun h => h)).trans x3
      clear D0 x0 x1 x2 x3 hwr
      obtain ⟨⟨⟨k1, a1, f1⟩, vv⟩, he⟩ : ∃ e, ws[k] = e := ⟨_, rfl⟩
      rw [he] at y0 y1 y2 y3
      simp only at y0 y1 y2 y3
      have HE := Lib.hid he
      clear he
      by_cases hit : ((k1, a1, f1) : Adr) = (ka, aa, fa)
      · have q1 : ∀ w, (Op.equalIn 10000 30 (.agg #[.int .u8 k1, .int .i64 a1, .int .i64 f1]) (.agg #[.int .u8 ka, .int .i64 aa, .int .i64 fa])).run Try.prog w = .ok true w := fun w => by
          have := eq_adr (k1, a1, f1) (ka, aa, fa) w
          rw [decide_eq_true hit] at this
          exact this
        have HI := Lib.hid hit
        clear hit
        go_wp2_with fail
        go_quiet (fail)
        have HMq : Hid (Mod (fun _ => False) wr (wr.drewN nq)) := (Mod.refl (fun _ => False) wr).drewN nq
        clear b0 b1 b2 y0 y1 y2 q1
        have c0' : (wr.drewN nq).cell? ⟨R, 0, none⟩ = some (.slice (some ⟨g, 0, none⟩) ws.length cap) := c0
        have y3' : (wr.drewN nq).cell? ⟨g, k * 4 + 3, none⟩ = some (.int .u64 vv) := y3
        have HRq := Lib.hid (HR.out.keep HMq.out (fun _ _ h => h))
        clear c0 y3
        generalize wr.drewN nq = wq at HMq c0' y3' HRq ⊢
        have f3 : wq.frozen? ⟨g, k * 4 + 3, none⟩ = false := by
          rcases HRq.out.row.2 with ⟨h1, _⟩ | ⟨g', cap', cur, h1, hb, hg, _⟩
          · cases h1
          · cases h1
            exact free_of hg
        go_wp2_with fail
        go_end0
        have hl : wput ws (ka, aa, fa) nv = ws.set k ((ka, aa, fa), nv) := wput_hit hkl (fun j h hj => HP.out j h hj) (by rw [HE.out]; exact HI.out)
        obtain ⟨hfg, _⟩ := HRq.out.fpv g rfl
        refine ⟨rfl, fp, .slice (some ⟨g, 0, none⟩) ws.length cap, ?_, ((HB0.out.trans HM.out (fun _ _ h => h)).trans HMq.out (fun _ _ h => h)).weaken (fun _ _ h => h.elim) |>.setCell (fun _ => hfg) _, fun _ h => .inl h⟩
        rw [hl]
        exact HRq.out.hit hkl (by rw [HE.out]; exact HI.out) nv
      · have q1 : ∀ w, (Op.equalIn 10000 30 (.agg #[.int .u8 k1, .int .i64 a1, .int .i64 f1]) (.agg #[.int .u8 ka, .int .i64 aa, .int .i64 fa])).run Try.prog w = .ok false w := fun w => by
          have := eq_adr (k1, a1, f1) (ka, aa, fa) w
          rw [decide_eq_false hit] at this
          exact this
        have HI := Lib.hid hit
        clear hit
        go_wp2_with fail
        go_quiet (fail)
        have HMq : Hid (Mod (fun _ => False) wr (wr.drewN nq)) := (Mod.refl (fun _ => False) wr).drewN nq
        clear b0 b1 b2 y0 y1 y2 y3 q1 c0
        generalize wr.drewN nq = wq at HMq ⊢
        go_wp2_with fail
        go_roundw
        case rel => exact ⟨k + 1, by omega, by go_num, fun j h hj => by
          by_cases e : j = k
          · subst e
            rw [HE.out]
            exact HI.out
          · exact HP.out j h (by omega), HM.out.trans HMq.out (fun _ _ h => h)⟩
        case measure => simp [intOf]; omega
    · have hl : wput ws (ka, aa, fa) nv = ws ++ [((ka, aa, fa), nv)] := wput_miss (fun j h => HP.out j h (by omega))
      have HL := Lib.hid hl
      clear hl
      have f0 := free_of (i := 0) HR.out.own
      have hltR := lt_of_block HR.out.own
      go_wp2_with fail
      have hi := HI0.out
      have hz0 := HI1.out
      have hz1 := HI2.out
      have hz2 := HI3.out
      go_region_law (
        refine step_append_lies _ rfl _ _ 102 rfl 0 126 i0 _ 4 32 Try.underlying102 hi hz0 hz1 hz2 rfl (by decide) (.slice sa ws.length cap) ws.length (flatW ws) rfl (by exact HR.out.row.alloc _) ⟨(_ : World).heap.size, 0, none⟩ 1 1 (wCells ((ka, aa, fa), nv)) rfl rfl (by exact World.news_of_block (heap_alloc_at _ _)) (wCells_one _) (by decide) (by unfold maxLen; omega) (by omega) (Nat.zero_le _) _ rfl ?_
        intro g' cap' wc hown4 hg4 hat4 hlt4
        have hRc := (hg4.block R (by simp; omega) (fun e => (HR.out.fpv _ e.symm).2 rfl)).trans (heap_alloc_keep HR.out.own _)
        have c4 : wc.cell? ⟨R, 0, none⟩ = some (.slice sa ws.length cap) := cell_of hRc rfl
        have f4 : wc.frozen? ⟨R, 0, none⟩ = false := free_of hRc)
      all_goals
        go_end0
        have hgR : g' ≠ R := by
          rcases hat4 with h | h
          · exact (HR.out.fpv _ h).2
          · have := lt_of_block HR.out.own
            simp at h
            omega
        have hm4 : Mod fp w wc := ((((HB0.out.trans HM.out (fun _ _ h => h)).weaken (fun _ _ h => h.elim)).alloc _).drew).grown hg4 (fun k hk _ => (HR.out.fpv k hk).1)
        have hs4 := (Mod.refl (fun x => x = R) wc).setCell (p := ⟨R, 0, none⟩) (fun _ => rfl) (.slice (some ⟨g', 0, none⟩) (ws.length + 1) cap')
        have hrow := hs4.ownsRow hown4 (fun k hk => by cases hk; exact hgR)
        rw [flatW_snoc] at hrow
        refine ⟨rfl, fun x => fp x ∨ x = g', .slice (some ⟨g', 0, none⟩) (ws.length + 1) cap', ?_, hm4.trans hs4 (fun _ _ h => by rw [h]; exact HR.out.fpR), fun x hx => ?_⟩
        · rw [HL.out]
          refine ⟨heap_setCell_same hRc _, ?_, .inl HR.out.fpR, (fun g hg => by cases hg; exact ⟨.inr rfl, hgR⟩), fun x hx => ?_⟩
          · rw [List.length_append]
            exact hrow
          · rcases hx with hx | hx
            · exact Nat.lt_of_lt_of_le (HH.out.lt x hx) (Nat.le_trans hm4.size hs4.size)
            · rw [hx]
              exact Nat.lt_of_lt_of_le hlt4 hs4.size
        · rcases hx with h | h
          · exact .inl h
          · rcases hat4 with h2 | h2
            · exact .inl (by rw [h]; exact (HR.out.fpv _ h2).1)
            · right
              have h3 := HB0.out.size
              have h4 := HM.out.size
              simp at h2
              omega
end Go.Proofs.Ytjnbkpklcmkdlaa
