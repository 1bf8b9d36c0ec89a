/- A memory of shared words: a step that compares and swaps. -/
import Derived.Test.YtjnbkpklcmkdlaaME
namespace Go.Proofs.Ytjnbkpklcmkdlaa
open Go.RowKit
open Go.ChangeMaps (setBlock heap_setBlock_same heap_setBlock_other)

set_option maxHeartbeats 4000000 in
theorem step_cas {M mb N : Nat} {f : Adr → Int} {s : Int} {L : Acc} {w : World} (h : MemAt M mb N f s L w) (hN : N < maxLen) {a : Adr} (ha : AdrWf a) {ov nv : Int} (hv : (Lit.int .u64 nv).wf = true)
    {B C : Nat} (hB : w.cell? ⟨B, 0, none⟩ = some (.int .u64 nv)) (hBM : B ≠ M) (hBm : B ≠ mb) (hC : w.cell? ⟨C, 0, none⟩ = some (.int .u64 ov)) (hCM : C ≠ M) (hCm : C ≠ mb) :
    Calls Try.prog 29 #[.pointer (some ⟨M, 0, none⟩), .int .u8 3, adrVal a, .func (.func 62) #[] #[.pointer (some ⟨B, 0, none⟩), .pointer (some ⟨C, 0, none⟩)]] w (StepPost M mb N f s 3 a nv (decide (f a = ov)) w) := by
  have hva : adrVal a = .agg #[.int .u8 a.1, .int .i64 a.2.1, .int .i64 a.2.2] := rfl
  rw [hva]
  go_enter Try.func29, Try.ntmps29
  go_wp2_with fail
  refine (there_any (MemAt.mod (((Mod.refl (fun _ => False) w).alloc _).alloc _) h (fun h => h) (fun h => h))).mono ?_
  rintro _ _ ⟨rfl, rfl⟩
  have hst := Stage.begin h a
  have hltB : B < w.heap.size := World.block_lt_of_cell? _ _ hB
  have hltC : C < w.heap.size := World.block_lt_of_cell? _ _ hC
  generalize ((w.alloc (.cells #[.int .u8 a.1, .int .i64 a.2.1, .int .i64 a.2.2] 30)).alloc (.cells #[.int .u8 0, .int .u8 0, .int .i64 0, .int .i64 0, .int .u64 0, .int .u64 0, .bool false] 85)) = wa at hst ⊢
  generalize he : w.heap.size = ez at hst hltB hltC ⊢
  clear h
  have hc1 : wa.cell? ⟨M, 1, none⟩ = some (.int .i64 s) := cell_of hst.mem rfl
  have hf := free_of hst.mem (i := 1)
  go_wp2_with fail
  have hst := hst.set (i := 1) (v := .int .i64 (wrap64 (s + 1))) (s' := wrap64 (s + 1)) (L' := L) rfl
  generalize wa.setCell ⟨M, 1, none⟩ (.int .i64 (wrap64 (s + 1))) = wb at hst ⊢
  have hc0 : wb.cell? ⟨M, 0, none⟩ = some (.map (some mb)) := cell_of hst.mem rfl
  have hb0 : wb.cell? ⟨ez, 0, none⟩ = some (.int .u8 a.1) := cell_of hst.box rfl
  have hb1 : wb.cell? ⟨ez, 1, none⟩ = some (.int .i64 a.2.1) := cell_of hst.box rfl
  have hb2 : wb.cell? ⟨ez, 2, none⟩ = some (.int .i64 a.2.2) := cell_of hst.box rfl
  have hk' : ∀ n, (Instr.lookup 82 (.map (some mb)) (.agg #[.int .u8 a.1, .int .i64 a.2.1, .int .i64 a.2.2]) false).run Try.prog (wb.drewN n) = .ok (.int .u64 (f a)) (wb.drewN n) := fun n => (WordsAt.look (w := wb.drewN n) (hst.words.mod ((Mod.refl (fun _ => False) wb).drewN n) (fun h => h)) ha).1
  go_quiet (fail)
  have hst : Stage M mb N f (wrap64 (s + 1)) L a ez w (wb.drewN nq) := ⟨hst.mod.drewN nq, hst.mem, hst.words.mod ((Mod.refl (fun _ => False) wb).drewN nq) (fun h => h), hst.box, hst.res, hst.size, hst.ne, hst.ltM, hst.ltm⟩
  generalize wb.drewN nq = wc at hst ⊢
  clear hc0 hb0 hb1 hb2 hk'
  have hb0 : wc.cell? ⟨ez, 0, none⟩ = some (.int .u8 a.1) := cell_of hst.box rfl
  have hb1 : wc.cell? ⟨ez, 1, none⟩ = some (.int .i64 a.2.1) := cell_of hst.box rfl
  have hb2 : wc.cell? ⟨ez, 2, none⟩ = some (.int .i64 a.2.2) := cell_of hst.box rfl
  have hm2 : wc.cell? ⟨M, 2, none⟩ = some (.int .u8 L.kind) := cell_of hst.mem rfl
  have hm3 : wc.cell? ⟨M, 3, none⟩ = some (.int .u8 L.addr.1) := cell_of hst.mem rfl
  have hm4 : wc.cell? ⟨M, 4, none⟩ = some (.int .i64 L.addr.2.1) := cell_of hst.mem rfl
  have hm5 : wc.cell? ⟨M, 5, none⟩ = some (.int .i64 L.addr.2.2) := cell_of hst.mem rfl
  have hm6 : wc.cell? ⟨M, 6, none⟩ = some (.int .u64 L.was) := cell_of hst.mem rfl
  have hm7 : wc.cell? ⟨M, 7, none⟩ = some (.int .u64 L.now) := cell_of hst.mem rfl
  have hm8 : wc.cell? ⟨M, 8, none⟩ = some (.bool L.done) := cell_of hst.mem rfl
  have hf2 := free_of hst.mem (i := 2)
  have hf3 := free_of hst.mem (i := 3)
  have hf4 := free_of hst.mem (i := 4)
  have hf5 := free_of hst.mem (i := 5)
  have hf6 := free_of hst.mem (i := 6)
  have hf7 := free_of hst.mem (i := 7)
  have hf8 := free_of hst.mem (i := 8)
  go_wp2_with fail
  have hst := hst.setAcc ⟨3, a, f a, f a, false⟩
  clear hb0 hb1 hb2 hm2 hm3 hm4 hm5 hm6 hm7 hm8 hf2 hf3 hf4 hf5 hf6 hf7 hf8
  simp only at hst
  generalize (((((((wc.setCell ⟨M, 2, none⟩ (.int .u8 3)).setCell ⟨M, 3, none⟩ (.int .u8 a.1)).setCell ⟨M, 4, none⟩ (.int .i64 a.2.1)).setCell ⟨M, 5, none⟩ (.int .i64 a.2.2)).setCell ⟨M, 6, none⟩ (.int .u64 (f a))).setCell
      ⟨M, 7, none⟩ (.int .u64 (f a))).setCell ⟨M, 8, none⟩ (.bool false)) = wd at hst ⊢
  have hBd : wd.cell? ⟨B, 0, none⟩ = some (.int .u64 nv) := (World.cell?_of_block (hst.mod.block B (by omega) (fun h => h.elim hBM hBm))).trans hB
  have hCd : wd.cell? ⟨C, 0, none⟩ = some (.int .u64 ov) := (World.cell?_of_block (hst.mod.block C (by omega) (fun h => h.elim hCM hCm))).trans hC
  refine (cas1_any (f a) ov nv B C wd hBd hCd).mono ?_
  rintro _ wd2 ⟨rfl, n, rfl⟩
  have hst := hst.on ((Mod.refl (fun _ => False) wd).drewN n)
  clear hBd hCd
  generalize wd.drewN n = wd at hst ⊢
  by_cases hov : f a = ov
  · have hdec : decide (f a = ov) = true := decide_eq_true hov
    rw [hdec]
    have HD := Lib.hid hdec
    clear hdec hov
    have hb0 : wd.cell? ⟨ez, 0, none⟩ = some (.int .u8 a.1) := cell_of hst.box rfl
    have hb1 : wd.cell? ⟨ez, 1, none⟩ = some (.int .i64 a.2.1) := cell_of hst.box rfl
    have hb2 : wd.cell? ⟨ez, 2, none⟩ = some (.int .i64 a.2.2) := cell_of hst.box rfl
    go_wp2_with fail
    refine (may_any a wd).mono ?_
    rintro _ we ⟨rfl, hbl⟩
    have hst := hst.on (Mod.ofBelow hbl (fun _ => False))
    clear hb0 hb1 hb2 hbl
    by_cases hmay : mayB a = true
    · rw [hmay]
      go_wp2_with fail
      have hst := hst.on (Mod.refl (fun _ => False) we).drew
      obtain ⟨st, es1, ck1, v0, hE, ⟨es0, ck0, hmb0⟩, hS⟩ := hst.words.entry hN ha hv
      have hE' : (Instr.mapEntry 82 (.map (some mb)) (.agg #[.int .u8 a.1, .int .i64 a.2.1, .int .i64 a.2.2])).run Try.prog we.drew = .ok (.tuple #[v0, .int .i64 st]) (setBlock we.drew mb (.map es1 ck1)) := hE
      have hc0 : we.drew.cell? ⟨M, 0, none⟩ = some (.map (some mb)) := cell_of hst.mem rfl
      have hb0 : we.drew.cell? ⟨ez, 0, none⟩ = some (.int .u8 a.1) := cell_of hst.box rfl
      have hb1 : we.drew.cell? ⟨ez, 1, none⟩ = some (.int .i64 a.2.1) := cell_of hst.box rfl
      have hb2 : we.drew.cell? ⟨ez, 2, none⟩ = some (.int .i64 a.2.2) := cell_of hst.box rfl
      have h1 : (setBlock we.drew mb (.map es1 ck1)).heap[mb]? = some (.map es1 ck1) := heap_setBlock_same hmb0 _
      obtain ⟨w3, hS', hW3, es2, ck2, h3⟩ := hS _ h1
      have hm3 : Mod (fun b => b = mb) we.drew w3 := by
        rw [h3]
        exact ((Mod.refl (fun b => b = mb) _).setBlock hmb0 (fun _ => rfl)).setBlock h1 (fun _ => rfl)
      clear h3 h1 hE hS hmb0
      generalize setBlock we.drew mb (.map es1 ck1) = w2 at hE' hS'
      have hM3 := hm3.keep hst.mem hst.ne
      have hm7 : w3.cell? ⟨M, 7, none⟩ = some (.int .u64 (f a)) := cell_of hM3 rfl
      have hm8 : w3.cell? ⟨M, 8, none⟩ = some (.bool false) := cell_of hM3 rfl
      have hf7 := free_of hM3 (i := 7)
      have hf8 := free_of hM3 (i := 8)
      go_region
      have hst : Stage M mb (N + 1) (upd f a nv) (wrap64 (s + 1)) ⟨3, a, f a, f a, false⟩ a ez w w3 :=
        ⟨hst.mod.trans hm3 (fun _ _ h => .inr h), hM3, hW3, hm3.keep hst.box (by have := hst.ltm; omega), hm3.keep hst.res (by have := hst.ltm; omega), hst.size, hst.ne, hst.ltM, hst.ltm⟩
      have hst := (hst.set (i := 7) (v := .int .u64 nv) (s' := wrap64 (s + 1)) (L' := ⟨3, a, f a, nv, false⟩) rfl).set (i := 8) (v := .bool true) (s' := wrap64 (s + 1)) (L' := ⟨3, a, f a, nv, true⟩) rfl
      generalize (w3.setCell ⟨M, 7, none⟩ (.int .u64 nv)).setCell ⟨M, 8, none⟩ (.bool true) = wf at hst ⊢
      clear hm7 hm8 hf7 hf8 hM3 hW3 hm3 hS' hE' hc0 hb0 hb1 hb2
      have hm2 : wf.cell? ⟨M, 2, none⟩ = some (.int .u8 3) := cell_of hst.mem rfl
      have hm3 : wf.cell? ⟨M, 3, none⟩ = some (.int .u8 a.1) := cell_of hst.mem rfl
      have hm4 : wf.cell? ⟨M, 4, none⟩ = some (.int .i64 a.2.1) := cell_of hst.mem rfl
      have hm5 : wf.cell? ⟨M, 5, none⟩ = some (.int .i64 a.2.2) := cell_of hst.mem rfl
      have hm6 : wf.cell? ⟨M, 6, none⟩ = some (.int .u64 (f a)) := cell_of hst.mem rfl
      have hm7 : wf.cell? ⟨M, 7, none⟩ = some (.int .u64 nv) := cell_of hst.mem rfl
      have hm8 : wf.cell? ⟨M, 8, none⟩ = some (.bool true) := cell_of hst.mem rfl
      have hr0 : wf.cell? ⟨ez + 1, 0, none⟩ = some (.int .u8 0) := cell_of hst.res rfl
      have hr1 : wf.cell? ⟨ez + 1, 1, none⟩ = some (.int .u8 0) := cell_of hst.res rfl
      have hr2 : wf.cell? ⟨ez + 1, 2, none⟩ = some (.int .i64 0) := cell_of hst.res rfl
      have hr3 : wf.cell? ⟨ez + 1, 3, none⟩ = some (.int .i64 0) := cell_of hst.res rfl
      have hr4 : wf.cell? ⟨ez + 1, 4, none⟩ = some (.int .u64 0) := cell_of hst.res rfl
      have hr5 : wf.cell? ⟨ez + 1, 5, none⟩ = some (.int .u64 0) := cell_of hst.res rfl
      have hr6 : wf.cell? ⟨ez + 1, 6, none⟩ = some (.bool false) := cell_of hst.res rfl
      have hf0 := free_of hst.res (i := 0)
      have hf1 := free_of hst.res (i := 1)
      have hf2 := free_of hst.res (i := 2)
      have hf3 := free_of hst.res (i := 3)
      have hf4 := free_of hst.res (i := 4)
      have hf5 := free_of hst.res (i := 5)
      have hf6 := free_of hst.res (i := 6)
      go_wp2_with fail
      obtain ⟨ho1, ho2, ho3⟩ := hst.out ⟨3, a, f a, nv, true⟩
      change bodyPost _ _ _ _ _ (resW wf (ez + 1) ⟨3, a, f a, nv, true⟩)
      generalize resW wf (ez + 1) ⟨3, a, f a, nv, true⟩ = wz at ho1 ho2 ho3 ⊢
      have hz0 : wz.cell? ⟨ez + 1, 0, none⟩ = some (.int .u8 3) := cell_of ho3 rfl
      have hz1 : wz.cell? ⟨ez + 1, 1, none⟩ = some (.int .u8 a.1) := cell_of ho3 rfl
      have hz2 : wz.cell? ⟨ez + 1, 2, none⟩ = some (.int .i64 a.2.1) := cell_of ho3 rfl
      have hz3 : wz.cell? ⟨ez + 1, 3, none⟩ = some (.int .i64 a.2.2) := cell_of ho3 rfl
      have hz4 : wz.cell? ⟨ez + 1, 4, none⟩ = some (.int .u64 (f a)) := cell_of ho3 rfl
      have hz5 : wz.cell? ⟨ez + 1, 5, none⟩ = some (.int .u64 nv) := cell_of ho3 rfl
      have hz6 : wz.cell? ⟨ez + 1, 6, none⟩ = some (.bool true) := cell_of ho3 rfl
      have hacc : accOf f 3 a nv (decide (f a = ov)) = ⟨3, a, f a, nv, true⟩ := by rw [HD.out]; simp [accOf, acts, hmay]
      have hwords : wordsOf f a nv (decide (f a = ov)) = upd f a nv := by rw [HD.out]; simp [wordsOf, acts, hmay]
      exact bodyPost_ret (v := accVal ⟨3, a, f a, nv, true⟩) (by simp [results, Try.results29, go_sem, accVal, hz0, hz1, hz2, hz3, hz4, hz5, hz6]) rfl ⟨by rw [hacc], by rw [hacc, hwords]; exact ho1, ho2⟩
    · have hmay : mayB a = false := by simpa using hmay
      rw [hmay]
      generalize we = wf at hst ⊢
      have hm2 : wf.cell? ⟨M, 2, none⟩ = some (.int .u8 3) := cell_of hst.mem rfl
      have hm3 : wf.cell? ⟨M, 3, none⟩ = some (.int .u8 a.1) := cell_of hst.mem rfl
      have hm4 : wf.cell? ⟨M, 4, none⟩ = some (.int .i64 a.2.1) := cell_of hst.mem rfl
      have hm5 : wf.cell? ⟨M, 5, none⟩ = some (.int .i64 a.2.2) := cell_of hst.mem rfl
      have hm6 : wf.cell? ⟨M, 6, none⟩ = some (.int .u64 (f a)) := cell_of hst.mem rfl
      have hm7 : wf.cell? ⟨M, 7, none⟩ = some (.int .u64 (f a)) := cell_of hst.mem rfl
      have hm8 : wf.cell? ⟨M, 8, none⟩ = some (.bool false) := cell_of hst.mem rfl
      have hr0 : wf.cell? ⟨ez + 1, 0, none⟩ = some (.int .u8 0) := cell_of hst.res rfl
      have hr1 : wf.cell? ⟨ez + 1, 1, none⟩ = some (.int .u8 0) := cell_of hst.res rfl
      have hr2 : wf.cell? ⟨ez + 1, 2, none⟩ = some (.int .i64 0) := cell_of hst.res rfl
      have hr3 : wf.cell? ⟨ez + 1, 3, none⟩ = some (.int .i64 0) := cell_of hst.res rfl
      have hr4 : wf.cell? ⟨ez + 1, 4, none⟩ = some (.int .u64 0) := cell_of hst.res rfl
      have hr5 : wf.cell? ⟨ez + 1, 5, none⟩ = some (.int .u64 0) := cell_of hst.res rfl
      have hr6 : wf.cell? ⟨ez + 1, 6, none⟩ = some (.bool false) := cell_of hst.res rfl
      have hf0 := free_of hst.res (i := 0)
      have hf1 := free_of hst.res (i := 1)
      have hf2 := free_of hst.res (i := 2)
      have hf3 := free_of hst.res (i := 3)
      have hf4 := free_of hst.res (i := 4)
      have hf5 := free_of hst.res (i := 5)
      have hf6 := free_of hst.res (i := 6)
      go_wp2_with fail
      obtain ⟨ho1, ho2, ho3⟩ := hst.out ⟨3, a, f a, (f a), false⟩
      change bodyPost _ _ _ _ _ (resW wf (ez + 1) ⟨3, a, f a, (f a), false⟩)
      generalize resW wf (ez + 1) ⟨3, a, f a, (f a), false⟩ = wz at ho1 ho2 ho3 ⊢
      have hz0 : wz.cell? ⟨ez + 1, 0, none⟩ = some (.int .u8 3) := cell_of ho3 rfl
      have hz1 : wz.cell? ⟨ez + 1, 1, none⟩ = some (.int .u8 a.1) := cell_of ho3 rfl
      have hz2 : wz.cell? ⟨ez + 1, 2, none⟩ = some (.int .i64 a.2.1) := cell_of ho3 rfl
      have hz3 : wz.cell? ⟨ez + 1, 3, none⟩ = some (.int .i64 a.2.2) := cell_of ho3 rfl
      have hz4 : wz.cell? ⟨ez + 1, 4, none⟩ = some (.int .u64 (f a)) := cell_of ho3 rfl
      have hz5 : wz.cell? ⟨ez + 1, 5, none⟩ = some (.int .u64 (f a)) := cell_of ho3 rfl
      have hz6 : wz.cell? ⟨ez + 1, 6, none⟩ = some (.bool false) := cell_of ho3 rfl
      have hacc : accOf f 3 a nv (decide (f a = ov)) = ⟨3, a, f a, (f a), false⟩ := by rw [HD.out]; simp [accOf, acts, hmay]
      have hwords : wordsOf f a nv (decide (f a = ov)) = f := by rw [HD.out]; simp [wordsOf, acts, hmay]
      exact bodyPost_ret (v := accVal ⟨3, a, f a, (f a), false⟩) (by simp [results, Try.results29, go_sem, accVal, hz0, hz1, hz2, hz3, hz4, hz5, hz6]) rfl ⟨by rw [hacc], by rw [hacc, hwords]; exact ho1.grow, ho2⟩
  · have hdec : decide (f a = ov) = false := decide_eq_false hov
    rw [hdec]
    have HD := Lib.hid hdec
    clear hdec hov
    generalize wd = wf at hst ⊢
    have hm2 : wf.cell? ⟨M, 2, none⟩ = some (.int .u8 3) := cell_of hst.mem rfl
    have hm3 : wf.cell? ⟨M, 3, none⟩ = some (.int .u8 a.1) := cell_of hst.mem rfl
    have hm4 : wf.cell? ⟨M, 4, none⟩ = some (.int .i64 a.2.1) := cell_of hst.mem rfl
    have hm5 : wf.cell? ⟨M, 5, none⟩ = some (.int .i64 a.2.2) := cell_of hst.mem rfl
    have hm6 : wf.cell? ⟨M, 6, none⟩ = some (.int .u64 (f a)) := cell_of hst.mem rfl
    have hm7 : wf.cell? ⟨M, 7, none⟩ = some (.int .u64 (f a)) := cell_of hst.mem rfl
    have hm8 : wf.cell? ⟨M, 8, none⟩ = some (.bool false) := cell_of hst.mem rfl
    have hr0 : wf.cell? ⟨ez + 1, 0, none⟩ = some (.int .u8 0) := cell_of hst.res rfl
    have hr1 : wf.cell? ⟨ez + 1, 1, none⟩ = some (.int .u8 0) := cell_of hst.res rfl
    have hr2 : wf.cell? ⟨ez + 1, 2, none⟩ = some (.int .i64 0) := cell_of hst.res rfl
    have hr3 : wf.cell? ⟨ez + 1, 3, none⟩ = some (.int .i64 0) := cell_of hst.res rfl
    have hr4 : wf.cell? ⟨ez + 1, 4, none⟩ = some (.int .u64 0) := cell_of hst.res rfl
    have hr5 : wf.cell? ⟨ez + 1, 5, none⟩ = some (.int .u64 0) := cell_of hst.res rfl
    have hr6 : wf.cell? ⟨ez + 1, 6, none⟩ = some (.bool false) := cell_of hst.res rfl
    have hf0 := free_of hst.res (i := 0)
    have hf1 := free_of hst.res (i := 1)
    have hf2 := free_of hst.res (i := 2)
    have hf3 := free_of hst.res (i := 3)
    have hf4 := free_of hst.res (i := 4)
    have hf5 := free_of hst.res (i := 5)
    have hf6 := free_of hst.res (i := 6)
    go_wp2_with fail
    obtain ⟨ho1, ho2, ho3⟩ := hst.out ⟨3, a, f a, (f a), false⟩
    change bodyPost _ _ _ _ _ (resW wf (ez + 1) ⟨3, a, f a, (f a), false⟩)
    generalize resW wf (ez + 1) ⟨3, a, f a, (f a), false⟩ = wz at ho1 ho2 ho3 ⊢
    have hz0 : wz.cell? ⟨ez + 1, 0, none⟩ = some (.int .u8 3) := cell_of ho3 rfl
    have hz1 : wz.cell? ⟨ez + 1, 1, none⟩ = some (.int .u8 a.1) := cell_of ho3 rfl
    have hz2 : wz.cell? ⟨ez + 1, 2, none⟩ = some (.int .i64 a.2.1) := cell_of ho3 rfl
    have hz3 : wz.cell? ⟨ez + 1, 3, none⟩ = some (.int .i64 a.2.2) := cell_of ho3 rfl
    have hz4 : wz.cell? ⟨ez + 1, 4, none⟩ = some (.int .u64 (f a)) := cell_of ho3 rfl
    have hz5 : wz.cell? ⟨ez + 1, 5, none⟩ = some (.int .u64 (f a)) := cell_of ho3 rfl
    have hz6 : wz.cell? ⟨ez + 1, 6, none⟩ = some (.bool false) := cell_of ho3 rfl
    have hacc : accOf f 3 a nv (decide (f a = ov)) = ⟨3, a, f a, (f a), false⟩ := by rw [HD.out]; simp [accOf, acts]
    have hwords : wordsOf f a nv (decide (f a = ov)) = f := by rw [HD.out]; simp [wordsOf, acts]
    exact bodyPost_ret (v := accVal ⟨3, a, f a, (f a), false⟩) (by simp [results, Try.results29, go_sem, accVal, hz0, hz1, hz2, hz3, hz4, hz5, hz6]) rfl ⟨by rw [hacc], by rw [hacc, hwords]; exact ho1.grow, ho2⟩
end Go.Proofs.Ytjnbkpklcmkdlaa
