/- A memory of shared words: a step that stores. -/
import Derived.Test.YtjnbkpklcmkdlaaMD
namespace Go.Proofs.Ytjnbkpklcmkdlaa
open Go.RowKit
open Go.ChangeMaps (setBlock heap_setBlock_same heap_setBlock_other)

/-- What a step leaves. -/
def StepPost (M mb N : Nat) (f : Adr → Int) (s : Int) (k : Int) (a : Adr) (nv : Int) (dn : Bool) (w : World) (e : Ending) (w' : World) : Prop :=
  e = .returned (accVal (accOf f k a nv dn)) ∧ MemAt M mb (N + 1) (wordsOf f a nv dn) (wrap64 (s + 1)) (accOf f k a nv dn) w' ∧ Mod (fun b => b = M ∨ b = mb) w w'

theorem heap_alloc2 (w : World) (o1 o2 : Obj) : ((w.alloc o1).alloc o2).heap[w.heap.size]? = some o1 ∧ ((w.alloc o1).alloc o2).heap[w.heap.size + 1]? = some o2 ∧ ((w.alloc o1).alloc o2).heap.size = w.heap.size + 2 := by
  refine ⟨heap_alloc_keep (heap_alloc_at w o1) o2, ?_, by simp⟩
  have h1 := heap_alloc_at (w.alloc o1) o2
  have h2 : (w.alloc o1).heap.size = w.heap.size + 1 := by simp
  rw [h2] at h1
  exact h1

/-- Where a step stands: w the world it began in, wx the world now. -/
structure Stage (M mb N : Nat) (f : Adr → Int) (s : Int) (L : Acc) (a : Adr) (ez : Nat) (w wx : World) : Prop where
  mod : Mod (fun b => b = M ∨ b = mb) w wx
  mem : wx.heap[M]? = some (.cells (memCells mb s L) 87)
  words : WordsAt mb N f wx
  box : wx.heap[ez]? = some (.cells #[.int .u8 a.1, .int .i64 a.2.1, .int .i64 a.2.2] 30)
  res : wx.heap[ez + 1]? = some (.cells #[.int .u8 0, .int .u8 0, .int .i64 0, .int .i64 0, .int .u64 0, .int .u64 0, .bool false] 85)
  size : w.heap.size = ez
  ne : M ≠ mb
  ltM : M < ez
  ltm : mb < ez

theorem Stage.begin {M mb N : Nat} {f : Adr → Int} {s : Int} {L : Acc} {w : World} (h : MemAt M mb N f s L w) (a : Adr) : Stage M mb N f s L a w.heap.size w
    ((w.alloc (.cells #[.int .u8 a.1, .int .i64 a.2.1, .int .i64 a.2.2] 30)).alloc (.cells #[.int .u8 0, .int .u8 0, .int .i64 0, .int .i64 0, .int .u64 0, .int .u64 0, .bool false] 85)) := by
  have hmA := ((Mod.refl (fun _ => False) w).alloc (.cells #[.int .u8 a.1, .int .i64 a.2.1, .int .i64 a.2.2] 30)).alloc (.cells #[.int .u8 0, .int .u8 0, .int .i64 0, .int .i64 0, .int .u64 0, .int .u64 0, .bool false] 85)
  obtain ⟨hbA, hrA, hszA⟩ := heap_alloc2 w (.cells #[.int .u8 a.1, .int .i64 a.2.1, .int .i64 a.2.2] 30) (.cells #[.int .u8 0, .int .u8 0, .int .i64 0, .int .i64 0, .int .u64 0, .int .u64 0, .bool false] 85)
  exact ⟨hmA.weaken (fun _ _ h => h.elim), hmA.keep h.1 (fun h => h), h.2.1.mod hmA (fun h => h), hbA, hrA, rfl, h.2.2, lt_of_block h.1, h.2.1.lt⟩

theorem MemAt.grow {M mb N : Nat} {f : Adr → Int} {s : Int} {L : Acc} {w : World} (h : MemAt M mb N f s L w) : MemAt M mb (N + 1) f s L w := by
  obtain ⟨h1, ⟨D, h2, h3⟩, h4⟩ := h
  exact ⟨h1, ⟨D, h2.mono (Nat.le_succ _), h3⟩, h4⟩

theorem Stage.set {M mb N : Nat} {f : Adr → Int} {s s' : Int} {L L' : Acc} {a : Adr} {ez : Nat} {w wx : World} (h : Stage M mb N f s L a ez w wx) {i : Nat} {v : Value} (he : (memCells mb s L).setIfInBounds i v = memCells mb s' L') :
    Stage M mb N f s' L' a ez w (wx.setCell ⟨M, i, none⟩ v) := by
  have hm := (Mod.refl (fun b => b = M) wx).setCell (p := ⟨M, i, none⟩) (fun _ => rfl) v
  have h1 := h.ltM
  have h2 := h.ltm
  have h3 := h.ne
  exact ⟨h.mod.trans hm (fun _ _ h => .inl h), he ▸ heap_setCell_same h.mem v, h.words.mod hm (fun e => h3 e.symm), hm.keep h.box (by omega), hm.keep h.res (by omega), h.size, h3, h1, h2⟩

theorem Stage.on {M mb N : Nat} {f : Adr → Int} {s : Int} {L : Acc} {a : Adr} {ez : Nat} {w wx wy : World} (h : Stage M mb N f s L a ez w wx) (hm : Mod (fun _ => False) wx wy) : Stage M mb N f s L a ez w wy :=
  ⟨h.mod.trans hm (fun _ _ h => h.elim), hm.keep h.mem (fun h => h), h.words.mod hm (fun h => h), hm.keep h.box (fun h => h), hm.keep h.res (fun h => h), h.size, h.ne, h.ltM, h.ltm⟩

theorem Stage.setAcc {M mb N : Nat} {f : Adr → Int} {s : Int} {L : Acc} {a : Adr} {ez : Nat} {w wx : World} (h : Stage M mb N f s L a ez w wx) (L' : Acc) :
    Stage M mb N f s L' a ez w (((((((wx.setCell ⟨M, 2, none⟩ (.int .u8 L'.kind)).setCell ⟨M, 3, none⟩ (.int .u8 L'.addr.1)).setCell ⟨M, 4, none⟩ (.int .i64 L'.addr.2.1)).setCell ⟨M, 5, none⟩ (.int .i64 L'.addr.2.2)).setCell ⟨M, 6, none⟩ (.int .u64 L'.was)).setCell
      ⟨M, 7, none⟩ (.int .u64 L'.now)).setCell ⟨M, 8, none⟩ (.bool L'.done)) :=
  ((((((h.set (i := 2) (s' := s) (L' := { L with kind := L'.kind }) rfl).set (i := 3) (s' := s) (L' := { L with kind := L'.kind, addr := (L'.addr.1, L.addr.2) }) rfl).set (i := 4) (s' := s)
    (L' := { L with kind := L'.kind, addr := (L'.addr.1, L'.addr.2.1, L.addr.2.2) }) rfl).set (i := 5) (s' := s) (L' := { L with kind := L'.kind, addr := L'.addr }) rfl).set (i := 6) (s' := s)
    (L' := { L with kind := L'.kind, addr := L'.addr, was := L'.was }) rfl).set (i := 7) (s' := s) (L' := { L' with done := L.done }) rfl).set (i := 8) (s' := s) (L' := L') rfl

/-- The result's cell, written. -/
def resW (wx : World) (r : Nat) (L : Acc) : World :=
  ((((((wx.setCell ⟨r, 0, none⟩ (.int .u8 L.kind)).setCell ⟨r, 1, none⟩ (.int .u8 L.addr.1)).setCell ⟨r, 2, none⟩ (.int .i64 L.addr.2.1)).setCell ⟨r, 3, none⟩ (.int .i64 L.addr.2.2)).setCell ⟨r, 4, none⟩ (.int .u64 L.was)).setCell
      ⟨r, 5, none⟩ (.int .u64 L.now)).setCell ⟨r, 6, none⟩ (.bool L.done)

theorem Stage.out {M mb N : Nat} {f : Adr → Int} {s : Int} {L : Acc} {a : Adr} {ez : Nat} {w wx : World} (h : Stage M mb N f s L a ez w wx) (L' : Acc) :
    MemAt M mb N f s L (resW wx (ez + 1) L') ∧ Mod (fun b => b = M ∨ b = mb) w (resW wx (ez + 1) L') ∧
    (resW wx (ez + 1) L').heap[ez + 1]? = some (.cells #[.int .u8 L'.kind, .int .u8 L'.addr.1, .int .i64 L'.addr.2.1, .int .i64 L'.addr.2.2, .int .u64 L'.was, .int .u64 L'.now, .bool L'.done] 85) := by
  have hm : Mod (fun b => b = ez + 1) wx (resW wx (ez + 1) L') := by
    unfold resW
    exact ((((((((Mod.refl (fun b => b = ez + 1) wx).setCell (fun _ => rfl) _).setCell (fun _ => rfl) _).setCell (fun _ => rfl) _).setCell (fun _ => rfl) _).setCell (fun _ => rfl) _).setCell (fun _ => rfl) _).setCell (fun _ => rfl) _)
  have h1 := h.ltM
  have h2 := h.ltm
  have h3 := h.size
  refine ⟨⟨hm.keep h.mem (by omega), h.words.mod hm (by omega), h.ne⟩, h.mod.trans hm (fun i hi e => by omega), ?_⟩
  unfold resW
  exact heap_setCell_same (heap_setCell_same (heap_setCell_same (heap_setCell_same (heap_setCell_same (heap_setCell_same (heap_setCell_same h.res _) _) _) _) _) _) _

set_option maxHeartbeats 4000000 in
theorem step_store {M mb N : Nat} {f : Adr → Int} {s : Int} {L : Acc} {w : World} (h : MemAt M mb N f s L w) (hN : N < maxLen) {a : Adr} (ha : AdrWf a) {nv : Int} (hv : (Lit.int .u64 nv).wf = true)
    {B : Nat} (hB : w.cell? ⟨B, 0, none⟩ = some (.int .u64 nv)) (hBM : B ≠ M) (hBm : B ≠ mb) :
    Calls Try.prog 29 #[.pointer (some ⟨M, 0, none⟩), .int .u8 2, adrVal a, .func (.func 30) #[] #[.pointer (some ⟨B, 0, none⟩)]] w (StepPost M mb N f s 2 a nv true w) := by
  have hva : adrVal a = .agg #[.int .u8 a.1, .int .i64 a.2.1, .int .i64 a.2.2] := rfl
  rw [hva]
  go_enter Try.func29, Try.ntmps29
  go_wp2_with fail
  refine (there_any (MemAt.mod (((Mod.refl (fun _ => False) w).alloc _).alloc _) h (fun h => h) (fun h => h))).mono ?_
  rintro _ _ ⟨rfl, rfl⟩
  have hst := Stage.begin h a
  have hltB : B < w.heap.size := World.block_lt_of_cell? _ _ hB
  generalize ((w.alloc (.cells #[.int .u8 a.1, .int .i64 a.2.1, .int .i64 a.2.2] 30)).alloc (.cells #[.int .u8 0, .int .u8 0, .int .i64 0, .int .i64 0, .int .u64 0, .int .u64 0, .bool false] 85)) = wa at hst ⊢
  generalize he : w.heap.size = ez at hst hltB ⊢
  clear h
  have hc1 : wa.cell? ⟨M, 1, none⟩ = some (.int .i64 s) := cell_of hst.mem rfl
  have hf := free_of hst.mem (i := 1)
  go_wp2_with fail
  have hst := hst.set (i := 1) (v := .int .i64 (wrap64 (s + 1))) (s' := wrap64 (s + 1)) (L' := L) rfl
  generalize wa.setCell ⟨M, 1, none⟩ (.int .i64 (wrap64 (s + 1))) = wb at hst ⊢
  have hc0 : wb.cell? ⟨M, 0, none⟩ = some (.map (some mb)) := cell_of hst.mem rfl
  have hb0 : wb.cell? ⟨ez, 0, none⟩ = some (.int .u8 a.1) := cell_of hst.box rfl
  have hb1 : wb.cell? ⟨ez, 1, none⟩ = some (.int .i64 a.2.1) := cell_of hst.box rfl
  have hb2 : wb.cell? ⟨ez, 2, none⟩ = some (.int .i64 a.2.2) := cell_of hst.box rfl
  have hk' : ∀ n, (Instr.lookup 82 (.map (some mb)) (.agg #[.int .u8 a.1, .int .i64 a.2.1, .int .i64 a.2.2]) false).run Try.prog (wb.drewN n) = .ok (.int .u64 (f a)) (wb.drewN n) := fun n => (WordsAt.look (w := wb.drewN n) (hst.words.mod ((Mod.refl (fun _ => False) wb).drewN n) (fun h => h)) ha).1
  go_quiet (fail)
  have hst : Stage M mb N f (wrap64 (s + 1)) L a ez w (wb.drewN nq) := ⟨hst.mod.drewN nq, hst.mem, hst.words.mod ((Mod.refl (fun _ => False) wb).drewN nq) (fun h => h), hst.box, hst.res, hst.size, hst.ne, hst.ltM, hst.ltm⟩
  generalize wb.drewN nq = wc at hst ⊢
  clear hc0 hb0 hb1 hb2 hk'
  have hb0 : wc.cell? ⟨ez, 0, none⟩ = some (.int .u8 a.1) := cell_of hst.box rfl
  have hb1 : wc.cell? ⟨ez, 1, none⟩ = some (.int .i64 a.2.1) := cell_of hst.box rfl
  have hb2 : wc.cell? ⟨ez, 2, none⟩ = some (.int .i64 a.2.2) := cell_of hst.box rfl
  have hm2 : wc.cell? ⟨M, 2, none⟩ = some (.int .u8 L.kind) := cell_of hst.mem rfl
  have hm3 : wc.cell? ⟨M, 3, none⟩ = some (.int .u8 L.addr.1) := cell_of hst.mem rfl
  have hm4 : wc.cell? ⟨M, 4, none⟩ = some (.int .i64 L.addr.2.1) := cell_of hst.mem rfl
  have hm5 : wc.cell? ⟨M, 5, none⟩ = some (.int .i64 L.addr.2.2) := cell_of hst.mem rfl
  have hm6 : wc.cell? ⟨M, 6, none⟩ = some (.int .u64 L.was) := cell_of hst.mem rfl
  have hm7 : wc.cell? ⟨M, 7, none⟩ = some (.int .u64 L.now) := cell_of hst.mem rfl
  have hm8 : wc.cell? ⟨M, 8, none⟩ = some (.bool L.done) := cell_of hst.mem rfl
  have hf2 := free_of hst.mem (i := 2)
  have hf3 := free_of hst.mem (i := 3)
  have hf4 := free_of hst.mem (i := 4)
  have hf5 := free_of hst.mem (i := 5)
  have hf6 := free_of hst.mem (i := 6)
  have hf7 := free_of hst.mem (i := 7)
  have hf8 := free_of hst.mem (i := 8)
  go_wp2_with fail
  have hst := hst.setAcc ⟨2, a, f a, f a, false⟩
  clear hb0 hb1 hb2 hm2 hm3 hm4 hm5 hm6 hm7 hm8 hf2 hf3 hf4 hf5 hf6 hf7 hf8
  simp only at hst
  generalize (((((((wc.setCell ⟨M, 2, none⟩ (.int .u8 2)).setCell ⟨M, 3, none⟩ (.int .u8 a.1)).setCell ⟨M, 4, none⟩ (.int .i64 a.2.1)).setCell ⟨M, 5, none⟩ (.int .i64 a.2.2)).setCell ⟨M, 6, none⟩ (.int .u64 (f a))).setCell
      ⟨M, 7, none⟩ (.int .u64 (f a))).setCell ⟨M, 8, none⟩ (.bool false)) = wd at hst ⊢
  have hBd : wd.cell? ⟨B, 0, none⟩ = some (.int .u64 nv) := (World.cell?_of_block (hst.mod.block B (by omega) (fun h => h.elim hBM hBm))).trans hB
  refine (store1_any (f a) nv B wd hBd).mono ?_
  rintro _ wd ⟨rfl, rfl⟩
  clear hBd
  have hb0 : wd.cell? ⟨ez, 0, none⟩ = some (.int .u8 a.1) := cell_of hst.box rfl
  have hb1 : wd.cell? ⟨ez, 1, none⟩ = some (.int .i64 a.2.1) := cell_of hst.box rfl
  have hb2 : wd.cell? ⟨ez, 2, none⟩ = some (.int .i64 a.2.2) := cell_of hst.box rfl
  go_wp2_with fail
  refine (may_any a wd).mono ?_
  rintro _ we ⟨rfl, hbl⟩
  have hst := hst.on (Mod.ofBelow hbl (fun _ => False))
  clear hb0 hb1 hb2 hbl
  by_cases hmay : mayB a = true
  · rw [hmay]
    go_wp2_with fail
    have hst := hst.on (Mod.refl (fun _ => False) we).drew
    obtain ⟨st, es1, ck1, v0, hE, ⟨es0, ck0, hmb0⟩, hS⟩ := hst.words.entry hN ha hv
    have hE' : (Instr.mapEntry 82 (.map (some mb)) (.agg #[.int .u8 a.1, .int .i64 a.2.1, .int .i64 a.2.2])).run Try.prog we.drew = .ok (.tuple #[v0, .int .i64 st]) (setBlock we.drew mb (.map es1 ck1)) := hE
    have hc0 : we.drew.cell? ⟨M, 0, none⟩ = some (.map (some mb)) := cell_of hst.mem rfl
    have hb0 : we.drew.cell? ⟨ez, 0, none⟩ = some (.int .u8 a.1) := cell_of hst.box rfl
    have hb1 : we.drew.cell? ⟨ez, 1, none⟩ = some (.int .i64 a.2.1) := cell_of hst.box rfl
    have hb2 : we.drew.cell? ⟨ez, 2, none⟩ = some (.int .i64 a.2.2) := cell_of hst.box rfl
    have h1 : (setBlock we.drew mb (.map es1 ck1)).heap[mb]? = some (.map es1 ck1) := heap_setBlock_same hmb0 _
    obtain ⟨w3, hS', hW3, es2, ck2, h3⟩ := hS _ h1
    have hm3 : Mod (fun b => b = mb) we.drew w3 := by
      rw [h3]
      exact ((Mod.refl (fun b => b = mb) _).setBlock hmb0 (fun _ => rfl)).setBlock h1 (fun _ => rfl)
    clear h3 h1 hE hS hmb0
    generalize setBlock we.drew mb (.map es1 ck1) = w2 at hE' hS'
    have hM3 := hm3.keep hst.mem hst.ne
    have hm7 : w3.cell? ⟨M, 7, none⟩ = some (.int .u64 (f a)) := cell_of hM3 rfl
    have hm8 : w3.cell? ⟨M, 8, none⟩ = some (.bool false) := cell_of hM3 rfl
    have hf7 := free_of hM3 (i := 7)
    have hf8 := free_of hM3 (i := 8)
    go_region
    have hst : Stage M mb (N + 1) (upd f a nv) (wrap64 (s + 1)) ⟨2, a, f a, f a, false⟩ a ez w w3 :=
      ⟨hst.mod.trans hm3 (fun _ _ h => .inr h), hM3, hW3, hm3.keep hst.box (by have := hst.ltm; omega), hm3.keep hst.res (by have := hst.ltm; omega), hst.size, hst.ne, hst.ltM, hst.ltm⟩
    have hst := (hst.set (i := 7) (v := .int .u64 nv) (s' := wrap64 (s + 1)) (L' := ⟨2, a, f a, nv, false⟩) rfl).set (i := 8) (v := .bool false) (s' := wrap64 (s + 1)) (L' := ⟨2, a, f a, nv, false⟩) rfl
    generalize (w3.setCell ⟨M, 7, none⟩ (.int .u64 nv)).setCell ⟨M, 8, none⟩ (.bool false) = wf at hst ⊢
    clear hm7 hm8 hf7 hf8 hM3 hW3 hm3 hS' hE' hc0 hb0 hb1 hb2
    have hm2 : wf.cell? ⟨M, 2, none⟩ = some (.int .u8 2) := cell_of hst.mem rfl
    have hm3 : wf.cell? ⟨M, 3, none⟩ = some (.int .u8 a.1) := cell_of hst.mem rfl
    have hm4 : wf.cell? ⟨M, 4, none⟩ = some (.int .i64 a.2.1) := cell_of hst.mem rfl
    have hm5 : wf.cell? ⟨M, 5, none⟩ = some (.int .i64 a.2.2) := cell_of hst.mem rfl
    have hm6 : wf.cell? ⟨M, 6, none⟩ = some (.int .u64 (f a)) := cell_of hst.mem rfl
    have hm7 : wf.cell? ⟨M, 7, none⟩ = some (.int .u64 nv) := cell_of hst.mem rfl
    have hm8 : wf.cell? ⟨M, 8, none⟩ = some (.bool false) := cell_of hst.mem rfl
    have hr0 : wf.cell? ⟨ez + 1, 0, none⟩ = some (.int .u8 0) := cell_of hst.res rfl
    have hr1 : wf.cell? ⟨ez + 1, 1, none⟩ = some (.int .u8 0) := cell_of hst.res rfl
    have hr2 : wf.cell? ⟨ez + 1, 2, none⟩ = some (.int .i64 0) := cell_of hst.res rfl
    have hr3 : wf.cell? ⟨ez + 1, 3, none⟩ = some (.int .i64 0) := cell_of hst.res rfl
    have hr4 : wf.cell? ⟨ez + 1, 4, none⟩ = some (.int .u64 0) := cell_of hst.res rfl
    have hr5 : wf.cell? ⟨ez + 1, 5, none⟩ = some (.int .u64 0) := cell_of hst.res rfl
    have hr6 : wf.cell? ⟨ez + 1, 6, none⟩ = some (.bool false) := cell_of hst.res rfl
    have hf0 := free_of hst.res (i := 0)
    have hf1 := free_of hst.res (i := 1)
    have hf2 := free_of hst.res (i := 2)
    have hf3 := free_of hst.res (i := 3)
    have hf4 := free_of hst.res (i := 4)
    have hf5 := free_of hst.res (i := 5)
    have hf6 := free_of hst.res (i := 6)
    go_wp2_with fail
    obtain ⟨ho1, ho2, ho3⟩ := hst.out ⟨2, a, f a, nv, false⟩
    change bodyPost _ _ _ _ _ (resW wf (ez + 1) ⟨2, a, f a, nv, false⟩)
    generalize resW wf (ez + 1) ⟨2, a, f a, nv, false⟩ = wz at ho1 ho2 ho3 ⊢
    have hz0 : wz.cell? ⟨ez + 1, 0, none⟩ = some (.int .u8 2) := cell_of ho3 rfl
    have hz1 : wz.cell? ⟨ez + 1, 1, none⟩ = some (.int .u8 a.1) := cell_of ho3 rfl
    have hz2 : wz.cell? ⟨ez + 1, 2, none⟩ = some (.int .i64 a.2.1) := cell_of ho3 rfl
    have hz3 : wz.cell? ⟨ez + 1, 3, none⟩ = some (.int .i64 a.2.2) := cell_of ho3 rfl
    have hz4 : wz.cell? ⟨ez + 1, 4, none⟩ = some (.int .u64 (f a)) := cell_of ho3 rfl
    have hz5 : wz.cell? ⟨ez + 1, 5, none⟩ = some (.int .u64 nv) := cell_of ho3 rfl
    have hz6 : wz.cell? ⟨ez + 1, 6, none⟩ = some (.bool false) := cell_of ho3 rfl
    have hacc : accOf f 2 a nv true = ⟨2, a, f a, nv, false⟩ := by simp [accOf, acts, hmay]
    have hwords : wordsOf f a nv true = upd f a nv := by simp [wordsOf, acts, hmay]
    exact bodyPost_ret (v := accVal ⟨2, a, f a, nv, false⟩) (by simp [results, Try.results29, go_sem, accVal, hz0, hz1, hz2, hz3, hz4, hz5, hz6]) rfl ⟨by rw [hacc], by rw [hacc, hwords]; exact ho1, ho2⟩
  · have hmay : mayB a = false := by simpa using hmay
    rw [hmay]
    generalize we = wf at hst ⊢
    have hm2 : wf.cell? ⟨M, 2, none⟩ = some (.int .u8 2) := cell_of hst.mem rfl
    have hm3 : wf.cell? ⟨M, 3, none⟩ = some (.int .u8 a.1) := cell_of hst.mem rfl
    have hm4 : wf.cell? ⟨M, 4, none⟩ = some (.int .i64 a.2.1) := cell_of hst.mem rfl
    have hm5 : wf.cell? ⟨M, 5, none⟩ = some (.int .i64 a.2.2) := cell_of hst.mem rfl
    have hm6 : wf.cell? ⟨M, 6, none⟩ = some (.int .u64 (f a)) := cell_of hst.mem rfl
    have hm7 : wf.cell? ⟨M, 7, none⟩ = some (.int .u64 (f a)) := cell_of hst.mem rfl
    have hm8 : wf.cell? ⟨M, 8, none⟩ = some (.bool false) := cell_of hst.mem rfl
    have hr0 : wf.cell? ⟨ez + 1, 0, none⟩ = some (.int .u8 0) := cell_of hst.res rfl
    have hr1 : wf.cell? ⟨ez + 1, 1, none⟩ = some (.int .u8 0) := cell_of hst.res rfl
    have hr2 : wf.cell? ⟨ez + 1, 2, none⟩ = some (.int .i64 0) := cell_of hst.res rfl
    have hr3 : wf.cell? ⟨ez + 1, 3, none⟩ = some (.int .i64 0) := cell_of hst.res rfl
    have hr4 : wf.cell? ⟨ez + 1, 4, none⟩ = some (.int .u64 0) := cell_of hst.res rfl
    have hr5 : wf.cell? ⟨ez + 1, 5, none⟩ = some (.int .u64 0) := cell_of hst.res rfl
    have hr6 : wf.cell? ⟨ez + 1, 6, none⟩ = some (.bool false) := cell_of hst.res rfl
    have hf0 := free_of hst.res (i := 0)
    have hf1 := free_of hst.res (i := 1)
    have hf2 := free_of hst.res (i := 2)
    have hf3 := free_of hst.res (i := 3)
    have hf4 := free_of hst.res (i := 4)
    have hf5 := free_of hst.res (i := 5)
    have hf6 := free_of hst.res (i := 6)
    go_wp2_with fail
    obtain ⟨ho1, ho2, ho3⟩ := hst.out ⟨2, a, f a, (f a), false⟩
    change bodyPost _ _ _ _ _ (resW wf (ez + 1) ⟨2, a, f a, (f a), false⟩)
    generalize resW wf (ez + 1) ⟨2, a, f a, (f a), false⟩ = wz at ho1 ho2 ho3 ⊢
    have hz0 : wz.cell? ⟨ez + 1, 0, none⟩ = some (.int .u8 2) := cell_of ho3 rfl
    have hz1 : wz.cell? ⟨ez + 1, 1, none⟩ = some (.int .u8 a.1) := cell_of ho3 rfl
    have hz2 : wz.cell? ⟨ez + 1, 2, none⟩ = some (.int .i64 a.2.1) := cell_of ho3 rfl
    have hz3 : wz.cell? ⟨ez + 1, 3, none⟩ = some (.int .i64 a.2.2) := cell_of ho3 rfl
    have hz4 : wz.cell? ⟨ez + 1, 4, none⟩ = some (.int .u64 (f a)) := cell_of ho3 rfl
    have hz5 : wz.cell? ⟨ez + 1, 5, none⟩ = some (.int .u64 (f a)) := cell_of ho3 rfl
    have hz6 : wz.cell? ⟨ez + 1, 6, none⟩ = some (.bool false) := cell_of ho3 rfl
    have hacc : accOf f 2 a nv true = ⟨2, a, f a, (f a), false⟩ := by simp [accOf, acts, hmay]
    have hwords : wordsOf f a nv true = f := by simp [wordsOf, acts, hmay]
    exact bodyPost_ret (v := accVal ⟨2, a, f a, (f a), false⟩) (by simp [results, Try.results29, go_sem, accVal, hz0, hz1, hz2, hz3, hz4, hz5, hz6]) rfl ⟨by rw [hacc], by rw [hacc, hwords]; exact ho1.grow, ho2⟩

set_option maxHeartbeats 4000000 in
theorem step_load {M mb N : Nat} {f : Adr → Int} {s : Int} {L : Acc} {w : World} (h : MemAt M mb N f s L w) {a : Adr} (ha : AdrWf a) :
    Calls Try.prog 29 #[.pointer (some ⟨M, 0, none⟩), .int .u8 1, adrVal a, .func (.func 45) #[] #[]] w (StepPost M mb N f s 1 a 0 false w) := by
  have hva : adrVal a = .agg #[.int .u8 a.1, .int .i64 a.2.1, .int .i64 a.2.2] := rfl
  rw [hva]
  go_enter Try.func29, Try.ntmps29
  go_wp2_with fail
  refine (there_any (MemAt.mod (((Mod.refl (fun _ => False) w).alloc _).alloc _) h (fun h => h) (fun h => h))).mono ?_
  rintro _ _ ⟨rfl, rfl⟩
  have hst := Stage.begin h a
  generalize ((w.alloc (.cells #[.int .u8 a.1, .int .i64 a.2.1, .int .i64 a.2.2] 30)).alloc (.cells #[.int .u8 0, .int .u8 0, .int .i64 0, .int .i64 0, .int .u64 0, .int .u64 0, .bool false] 85)) = wa at hst ⊢
  generalize he : w.heap.size = ez at hst  ⊢
  clear h
  have hc1 : wa.cell? ⟨M, 1, none⟩ = some (.int .i64 s) := cell_of hst.mem rfl
  have hf := free_of hst.mem (i := 1)
  go_wp2_with fail
  have hst := hst.set (i := 1) (v := .int .i64 (wrap64 (s + 1))) (s' := wrap64 (s + 1)) (L' := L) rfl
  generalize wa.setCell ⟨M, 1, none⟩ (.int .i64 (wrap64 (s + 1))) = wb at hst ⊢
  have hc0 : wb.cell? ⟨M, 0, none⟩ = some (.map (some mb)) := cell_of hst.mem rfl
  have hb0 : wb.cell? ⟨ez, 0, none⟩ = some (.int .u8 a.1) := cell_of hst.box rfl
  have hb1 : wb.cell? ⟨ez, 1, none⟩ = some (.int .i64 a.2.1) := cell_of hst.box rfl
  have hb2 : wb.cell? ⟨ez, 2, none⟩ = some (.int .i64 a.2.2) := cell_of hst.box rfl
  have hk' : ∀ n, (Instr.lookup 82 (.map (some mb)) (.agg #[.int .u8 a.1, .int .i64 a.2.1, .int .i64 a.2.2]) false).run Try.prog (wb.drewN n) = .ok (.int .u64 (f a)) (wb.drewN n) := fun n => (WordsAt.look (w := wb.drewN n) (hst.words.mod ((Mod.refl (fun _ => False) wb).drewN n) (fun h => h)) ha).1
  go_quiet (fail)
  have hst : Stage M mb N f (wrap64 (s + 1)) L a ez w (wb.drewN nq) := ⟨hst.mod.drewN nq, hst.mem, hst.words.mod ((Mod.refl (fun _ => False) wb).drewN nq) (fun h => h), hst.box, hst.res, hst.size, hst.ne, hst.ltM, hst.ltm⟩
  generalize wb.drewN nq = wc at hst ⊢
  clear hc0 hb0 hb1 hb2 hk'
  have hb0 : wc.cell? ⟨ez, 0, none⟩ = some (.int .u8 a.1) := cell_of hst.box rfl
  have hb1 : wc.cell? ⟨ez, 1, none⟩ = some (.int .i64 a.2.1) := cell_of hst.box rfl
  have hb2 : wc.cell? ⟨ez, 2, none⟩ = some (.int .i64 a.2.2) := cell_of hst.box rfl
  have hm2 : wc.cell? ⟨M, 2, none⟩ = some (.int .u8 L.kind) := cell_of hst.mem rfl
  have hm3 : wc.cell? ⟨M, 3, none⟩ = some (.int .u8 L.addr.1) := cell_of hst.mem rfl
  have hm4 : wc.cell? ⟨M, 4, none⟩ = some (.int .i64 L.addr.2.1) := cell_of hst.mem rfl
  have hm5 : wc.cell? ⟨M, 5, none⟩ = some (.int .i64 L.addr.2.2) := cell_of hst.mem rfl
  have hm6 : wc.cell? ⟨M, 6, none⟩ = some (.int .u64 L.was) := cell_of hst.mem rfl
  have hm7 : wc.cell? ⟨M, 7, none⟩ = some (.int .u64 L.now) := cell_of hst.mem rfl
  have hm8 : wc.cell? ⟨M, 8, none⟩ = some (.bool L.done) := cell_of hst.mem rfl
  have hf2 := free_of hst.mem (i := 2)
  have hf3 := free_of hst.mem (i := 3)
  have hf4 := free_of hst.mem (i := 4)
  have hf5 := free_of hst.mem (i := 5)
  have hf6 := free_of hst.mem (i := 6)
  have hf7 := free_of hst.mem (i := 7)
  have hf8 := free_of hst.mem (i := 8)
  go_wp2_with fail
  have hst := hst.setAcc ⟨1, a, f a, f a, false⟩
  clear hb0 hb1 hb2 hm2 hm3 hm4 hm5 hm6 hm7 hm8 hf2 hf3 hf4 hf5 hf6 hf7 hf8
  simp only at hst
  generalize (((((((wc.setCell ⟨M, 2, none⟩ (.int .u8 1)).setCell ⟨M, 3, none⟩ (.int .u8 a.1)).setCell ⟨M, 4, none⟩ (.int .i64 a.2.1)).setCell ⟨M, 5, none⟩ (.int .i64 a.2.2)).setCell ⟨M, 6, none⟩ (.int .u64 (f a))).setCell
      ⟨M, 7, none⟩ (.int .u64 (f a))).setCell ⟨M, 8, none⟩ (.bool false)) = wd at hst ⊢
  refine (load1_any (f a) wd).mono ?_
  rintro _ wf ⟨rfl, rfl⟩
  have hm2 : wf.cell? ⟨M, 2, none⟩ = some (.int .u8 1) := cell_of hst.mem rfl
  have hm3 : wf.cell? ⟨M, 3, none⟩ = some (.int .u8 a.1) := cell_of hst.mem rfl
  have hm4 : wf.cell? ⟨M, 4, none⟩ = some (.int .i64 a.2.1) := cell_of hst.mem rfl
  have hm5 : wf.cell? ⟨M, 5, none⟩ = some (.int .i64 a.2.2) := cell_of hst.mem rfl
  have hm6 : wf.cell? ⟨M, 6, none⟩ = some (.int .u64 (f a)) := cell_of hst.mem rfl
  have hm7 : wf.cell? ⟨M, 7, none⟩ = some (.int .u64 (f a)) := cell_of hst.mem rfl
  have hm8 : wf.cell? ⟨M, 8, none⟩ = some (.bool false) := cell_of hst.mem rfl
  have hr0 : wf.cell? ⟨ez + 1, 0, none⟩ = some (.int .u8 0) := cell_of hst.res rfl
  have hr1 : wf.cell? ⟨ez + 1, 1, none⟩ = some (.int .u8 0) := cell_of hst.res rfl
  have hr2 : wf.cell? ⟨ez + 1, 2, none⟩ = some (.int .i64 0) := cell_of hst.res rfl
  have hr3 : wf.cell? ⟨ez + 1, 3, none⟩ = some (.int .i64 0) := cell_of hst.res rfl
  have hr4 : wf.cell? ⟨ez + 1, 4, none⟩ = some (.int .u64 0) := cell_of hst.res rfl
  have hr5 : wf.cell? ⟨ez + 1, 5, none⟩ = some (.int .u64 0) := cell_of hst.res rfl
  have hr6 : wf.cell? ⟨ez + 1, 6, none⟩ = some (.bool false) := cell_of hst.res rfl
  have hf0 := free_of hst.res (i := 0)
  have hf1 := free_of hst.res (i := 1)
  have hf2 := free_of hst.res (i := 2)
  have hf3 := free_of hst.res (i := 3)
  have hf4 := free_of hst.res (i := 4)
  have hf5 := free_of hst.res (i := 5)
  have hf6 := free_of hst.res (i := 6)
  go_wp2_with fail
  obtain ⟨ho1, ho2, ho3⟩ := hst.out ⟨1, a, f a, (f a), false⟩
  change bodyPost _ _ _ _ _ (resW wf (ez + 1) ⟨1, a, f a, (f a), false⟩)
  generalize resW wf (ez + 1) ⟨1, a, f a, (f a), false⟩ = wz at ho1 ho2 ho3 ⊢
  have hz0 : wz.cell? ⟨ez + 1, 0, none⟩ = some (.int .u8 1) := cell_of ho3 rfl
  have hz1 : wz.cell? ⟨ez + 1, 1, none⟩ = some (.int .u8 a.1) := cell_of ho3 rfl
  have hz2 : wz.cell? ⟨ez + 1, 2, none⟩ = some (.int .i64 a.2.1) := cell_of ho3 rfl
  have hz3 : wz.cell? ⟨ez + 1, 3, none⟩ = some (.int .i64 a.2.2) := cell_of ho3 rfl
  have hz4 : wz.cell? ⟨ez + 1, 4, none⟩ = some (.int .u64 (f a)) := cell_of ho3 rfl
  have hz5 : wz.cell? ⟨ez + 1, 5, none⟩ = some (.int .u64 (f a)) := cell_of ho3 rfl
  have hz6 : wz.cell? ⟨ez + 1, 6, none⟩ = some (.bool false) := cell_of ho3 rfl
  have hacc : accOf f 1 a 0 false = ⟨1, a, f a, (f a), false⟩ := by simp [accOf, acts]
  have hwords : wordsOf f a 0 false = f := by simp [wordsOf, acts]
  exact bodyPost_ret (v := accVal ⟨1, a, f a, (f a), false⟩) (by simp [results, Try.results29, go_sem, accVal, hz0, hz1, hz2, hz3, hz4, hz5, hz6]) rfl ⟨by rw [hacc], by rw [hacc, hwords]; exact ho1.grow, ho2⟩
end Go.Proofs.Ytjnbkpklcmkdlaa
