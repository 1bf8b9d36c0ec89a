/- A taker of snapshots: its first step. -/
import Derived.Test.YtjnbkpklcmkdlaaSA
namespace Go.Proofs.Ytjnbkpklcmkdlaa
open Go.RowKit

def BlocksPost (M mb N K n : Nat) (f : Adr → Int) (s : Int) (w : World) (e : Ending) (w' : World) : Prop :=
  e = .returned (.tuple #[]) ∧ MemAt M mb (N + 1) f (wrap64 (s + 1)) (ldAcc bAdr (f bAdr)) w' ∧ (∃ RB, w.heap.size ≤ RB ∧ TakB K (if n = 0 then .nilFunc else nxWord K) (.slice (some ⟨RB, 0, none⟩) n n) 0 0 n w' ∧ TRow RB n (fun _ _ => 0) w') ∧ Mod (fun x => mfoot M mb x ∨ x = K) w w'
theorem made_0 (w : World) : (Instr.makeSlice 46 (.int .i64 0) (.int .i64 0)).run Try.prog w = .ok (.slice (some ⟨w.heap.size, 0, none⟩) 0 0) (w.alloc (.cells ⟨flatR 0 (fun _ _ => 0)⟩ 52)) := by kernel_rfl
set_option maxHeartbeats 2000000 in
set_option maxRecDepth 100000 in
theorem blocks_0 {M mb N K : Nat} {f : Adr → Int} {s : Int} {L : Acc} {w : World} (hM : MemAt M mb N f s L w) (hK : TakB K (nxBlocks K) (.slice none 0 0) 0 0 0 w) (hKM : K ≠ M) (hKm : K ≠ mb) (hb : f bAdr = 0) :
    Calls Try.prog 39 #[.pointer (some ⟨K, 0, none⟩), .pointer (some ⟨M, 0, none⟩)] w (BlocksPost M mb N K 0 f s w) := by
  have HB := Lib.hid hb
  clear hb
  have hmk := made_0
  have HM := Lib.hid hM
  have HK := Lib.hid hK
  have hlt := lt_of_block hK
  clear hM hK
  go_enter Try.func39, Try.ntmps39
  go_wp2_with fail
  refine (loadAt (a := bAdr) HM.out bWf HB.out).mono ?_
  rintro _ w1 ⟨rfl, hM1, hm1⟩
  have HM1 := Lib.hid hM1
  have HO1 := Lib.hid hm1
  have hK1 := hm1.keep HK.out (fun h => h.elim hKM hKm)
  have c0 : w1.cell? ⟨K, 0, none⟩ = some (nxBlocks K) := cell_of hK1 rfl
  have c1 : w1.cell? ⟨K, 1, none⟩ = some (.slice none 0 0) := cell_of hK1 rfl
  have c5 : w1.cell? ⟨K, 5, none⟩ = some (.int .i64 0) := cell_of hK1 rfl
  have f0 := free_of (i := 0) hK1
  have f1 := free_of (i := 1) hK1
  have f5 := free_of (i := 5) hK1
  have hlt1 := lt_of_block hK1
  have HK1 := Lib.hid hK1
  clear hM1 hm1 hK1
  go_wp2_with fail
  go_end0
  have hs := ((((Mod.refl (fun x => x = K) w1).setCell (p := ⟨K, 5, none⟩) (fun _ => rfl) (.int .i64 0)).setCell (p := ⟨K, 1, none⟩) (fun _ => rfl) (.slice (some ⟨w1.heap.size, 0, none⟩) 0 0)).setCell (p := ⟨K, 0, none⟩) (fun _ => rfl) (nxWord K)).setCell (p := ⟨K, 0, none⟩) (fun _ => rfl) .nilFunc
  have hT := (heap_setCell_same (i := 0) (heap_setCell_same (i := 0) (heap_setCell_same (i := 1) (heap_setCell_same (i := 5) HK1.out (.int .i64 0)) (.slice (some ⟨w1.heap.size, 0, none⟩) 0 0)) (nxWord K)) .nilFunc)
  have hz : ((((w1.setCell ⟨K, 5, none⟩ (.int .i64 0)).setCell ⟨K, 1, none⟩ (.slice (some ⟨w1.heap.size, 0, none⟩) 0 0)).setCell ⟨K, 0, none⟩ (nxWord K)).setCell ⟨K, 0, none⟩ .nilFunc).heap.size = w1.heap.size := by simp
  generalize ((((w1.setCell ⟨K, 5, none⟩ (.int .i64 0)).setCell ⟨K, 1, none⟩ (.slice (some ⟨w1.heap.size, 0, none⟩) 0 0)).setCell ⟨K, 0, none⟩ (nxWord K)).setCell ⟨K, 0, none⟩ .nilFunc) = w2 at hs hT hz ⊢
  have ha := hs.alloc (.cells ⟨flatR 0 (fun _ _ => 0)⟩ 52)
  refine ⟨rfl, HM1.out.mod ha (fun e => hKM e.symm) (fun e => hKm e.symm), ⟨w1.heap.size, HO1.out.size, heap_alloc_keep hT _, ?_⟩, (HO1.out.weaken (fun _ _ h => .inl h)).trans ha (fun _ _ h => .inr h)⟩
  have := heap_alloc_at w2 (.cells ⟨flatR 0 (fun _ _ => 0)⟩ 52)
  rw [hz] at this
  exact this
theorem made_4 (w : World) : (Instr.makeSlice 46 (.int .i64 4) (.int .i64 4)).run Try.prog w = .ok (.slice (some ⟨w.heap.size, 0, none⟩) 4 4) (w.alloc (.cells ⟨flatR 4 (fun _ _ => 0)⟩ 52)) := by kernel_rfl
set_option maxHeartbeats 2000000 in
set_option maxRecDepth 100000 in
theorem blocks_1 {M mb N K : Nat} {f : Adr → Int} {s : Int} {L : Acc} {w : World} (hM : MemAt M mb N f s L w) (hK : TakB K (nxBlocks K) (.slice none 0 0) 0 0 0 w) (hKM : K ≠ M) (hKm : K ≠ mb) (hb : f bAdr = 1) :
    Calls Try.prog 39 #[.pointer (some ⟨K, 0, none⟩), .pointer (some ⟨M, 0, none⟩)] w (BlocksPost M mb N K 4 f s w) := by
  have HB := Lib.hid hb
  clear hb
  have hmk := made_4
  have HM := Lib.hid hM
  have HK := Lib.hid hK
  have hlt := lt_of_block hK
  clear hM hK
  go_enter Try.func39, Try.ntmps39
  go_wp2_with fail
  refine (loadAt (a := bAdr) HM.out bWf HB.out).mono ?_
  rintro _ w1 ⟨rfl, hM1, hm1⟩
  have HM1 := Lib.hid hM1
  have HO1 := Lib.hid hm1
  have hK1 := hm1.keep HK.out (fun h => h.elim hKM hKm)
  have c0 : w1.cell? ⟨K, 0, none⟩ = some (nxBlocks K) := cell_of hK1 rfl
  have c1 : w1.cell? ⟨K, 1, none⟩ = some (.slice none 0 0) := cell_of hK1 rfl
  have c5 : w1.cell? ⟨K, 5, none⟩ = some (.int .i64 0) := cell_of hK1 rfl
  have f0 := free_of (i := 0) hK1
  have f1 := free_of (i := 1) hK1
  have f5 := free_of (i := 5) hK1
  have hlt1 := lt_of_block hK1
  have HK1 := Lib.hid hK1
  clear hM1 hm1 hK1
  go_wp2_with fail
  go_end0
  have hs := (((Mod.refl (fun x => x = K) w1).setCell (p := ⟨K, 5, none⟩) (fun _ => rfl) (.int .i64 4)).setCell (p := ⟨K, 1, none⟩) (fun _ => rfl) (.slice (some ⟨w1.heap.size, 0, none⟩) 4 4)).setCell (p := ⟨K, 0, none⟩) (fun _ => rfl) (nxWord K)
  have hT := (heap_setCell_same (i := 0) (heap_setCell_same (i := 1) (heap_setCell_same (i := 5) HK1.out (.int .i64 4)) (.slice (some ⟨w1.heap.size, 0, none⟩) 4 4)) (nxWord K))
  have hz : (((w1.setCell ⟨K, 5, none⟩ (.int .i64 4)).setCell ⟨K, 1, none⟩ (.slice (some ⟨w1.heap.size, 0, none⟩) 4 4)).setCell ⟨K, 0, none⟩ (nxWord K)).heap.size = w1.heap.size := by simp
  generalize (((w1.setCell ⟨K, 5, none⟩ (.int .i64 4)).setCell ⟨K, 1, none⟩ (.slice (some ⟨w1.heap.size, 0, none⟩) 4 4)).setCell ⟨K, 0, none⟩ (nxWord K)) = w2 at hs hT hz ⊢
  have ha := hs.alloc (.cells ⟨flatR 4 (fun _ _ => 0)⟩ 52)
  refine ⟨rfl, HM1.out.mod ha (fun e => hKM e.symm) (fun e => hKm e.symm), ⟨w1.heap.size, HO1.out.size, heap_alloc_keep hT _, ?_⟩, (HO1.out.weaken (fun _ _ h => .inl h)).trans ha (fun _ _ h => .inr h)⟩
  have := heap_alloc_at w2 (.cells ⟨flatR 4 (fun _ _ => 0)⟩ 52)
  rw [hz] at this
  exact this
theorem made_8 (w : World) : (Instr.makeSlice 46 (.int .i64 8) (.int .i64 8)).run Try.prog w = .ok (.slice (some ⟨w.heap.size, 0, none⟩) 8 8) (w.alloc (.cells ⟨flatR 8 (fun _ _ => 0)⟩ 52)) := by kernel_rfl
set_option maxHeartbeats 2000000 in
set_option maxRecDepth 100000 in
theorem blocks_2 {M mb N K : Nat} {f : Adr → Int} {s : Int} {L : Acc} {w : World} (hM : MemAt M mb N f s L w) (hK : TakB K (nxBlocks K) (.slice none 0 0) 0 0 0 w) (hKM : K ≠ M) (hKm : K ≠ mb) (hb : f bAdr = 2) :
    Calls Try.prog 39 #[.pointer (some ⟨K, 0, none⟩), .pointer (some ⟨M, 0, none⟩)] w (BlocksPost M mb N K 8 f s w) := by
  have HB := Lib.hid hb
  clear hb
  have hmk := made_8
  have HM := Lib.hid hM
  have HK := Lib.hid hK
  have hlt := lt_of_block hK
  clear hM hK
  go_enter Try.func39, Try.ntmps39
  go_wp2_with fail
  refine (loadAt (a := bAdr) HM.out bWf HB.out).mono ?_
  rintro _ w1 ⟨rfl, hM1, hm1⟩
  have HM1 := Lib.hid hM1
  have HO1 := Lib.hid hm1
  have hK1 := hm1.keep HK.out (fun h => h.elim hKM hKm)
  have c0 : w1.cell? ⟨K, 0, none⟩ = some (nxBlocks K) := cell_of hK1 rfl
  have c1 : w1.cell? ⟨K, 1, none⟩ = some (.slice none 0 0) := cell_of hK1 rfl
  have c5 : w1.cell? ⟨K, 5, none⟩ = some (.int .i64 0) := cell_of hK1 rfl
  have f0 := free_of (i := 0) hK1
  have f1 := free_of (i := 1) hK1
  have f5 := free_of (i := 5) hK1
  have hlt1 := lt_of_block hK1
  have HK1 := Lib.hid hK1
  clear hM1 hm1 hK1
  go_wp2_with fail
  go_end0
  have hs := (((Mod.refl (fun x => x = K) w1).setCell (p := ⟨K, 5, none⟩) (fun _ => rfl) (.int .i64 8)).setCell (p := ⟨K, 1, none⟩) (fun _ => rfl) (.slice (some ⟨w1.heap.size, 0, none⟩) 8 8)).setCell (p := ⟨K, 0, none⟩) (fun _ => rfl) (nxWord K)
  have hT := (heap_setCell_same (i := 0) (heap_setCell_same (i := 1) (heap_setCell_same (i := 5) HK1.out (.int .i64 8)) (.slice (some ⟨w1.heap.size, 0, none⟩) 8 8)) (nxWord K))
  have hz : (((w1.setCell ⟨K, 5, none⟩ (.int .i64 8)).setCell ⟨K, 1, none⟩ (.slice (some ⟨w1.heap.size, 0, none⟩) 8 8)).setCell ⟨K, 0, none⟩ (nxWord K)).heap.size = w1.heap.size := by simp
  generalize (((w1.setCell ⟨K, 5, none⟩ (.int .i64 8)).setCell ⟨K, 1, none⟩ (.slice (some ⟨w1.heap.size, 0, none⟩) 8 8)).setCell ⟨K, 0, none⟩ (nxWord K)) = w2 at hs hT hz ⊢
  have ha := hs.alloc (.cells ⟨flatR 8 (fun _ _ => 0)⟩ 52)
  refine ⟨rfl, HM1.out.mod ha (fun e => hKM e.symm) (fun e => hKm e.symm), ⟨w1.heap.size, HO1.out.size, heap_alloc_keep hT _, ?_⟩, (HO1.out.weaken (fun _ _ h => .inl h)).trans ha (fun _ _ h => .inr h)⟩
  have := heap_alloc_at w2 (.cells ⟨flatR 8 (fun _ _ => 0)⟩ 52)
  rw [hz] at this
  exact this
theorem made_12 (w : World) : (Instr.makeSlice 46 (.int .i64 12) (.int .i64 12)).run Try.prog w = .ok (.slice (some ⟨w.heap.size, 0, none⟩) 12 12) (w.alloc (.cells ⟨flatR 12 (fun _ _ => 0)⟩ 52)) := by kernel_rfl
set_option maxHeartbeats 2000000 in
set_option maxRecDepth 100000 in
theorem blocks_3 {M mb N K : Nat} {f : Adr → Int} {s : Int} {L : Acc} {w : World} (hM : MemAt M mb N f s L w) (hK : TakB K (nxBlocks K) (.slice none 0 0) 0 0 0 w) (hKM : K ≠ M) (hKm : K ≠ mb) (hb : f bAdr = 3) :
    Calls Try.prog 39 #[.pointer (some ⟨K, 0, none⟩), .pointer (some ⟨M, 0, none⟩)] w (BlocksPost M mb N K 12 f s w) := by
  have HB := Lib.hid hb
  clear hb
  have hmk := made_12
  have HM := Lib.hid hM
  have HK := Lib.hid hK
  have hlt := lt_of_block hK
  clear hM hK
  go_enter Try.func39, Try.ntmps39
  go_wp2_with fail
  refine (loadAt (a := bAdr) HM.out bWf HB.out).mono ?_
  rintro _ w1 ⟨rfl, hM1, hm1⟩
  have HM1 := Lib.hid hM1
  have HO1 := Lib.hid hm1
  have hK1 := hm1.keep HK.out (fun h => h.elim hKM hKm)
  have c0 : w1.cell? ⟨K, 0, none⟩ = some (nxBlocks K) := cell_of hK1 rfl
  have c1 : w1.cell? ⟨K, 1, none⟩ = some (.slice none 0 0) := cell_of hK1 rfl
  have c5 : w1.cell? ⟨K, 5, none⟩ = some (.int .i64 0) := cell_of hK1 rfl
  have f0 := free_of (i := 0) hK1
  have f1 := free_of (i := 1) hK1
  have f5 := free_of (i := 5) hK1
  have hlt1 := lt_of_block hK1
  have HK1 := Lib.hid hK1
  clear hM1 hm1 hK1
  go_wp2_with fail
  go_end0
  have hs := (((Mod.refl (fun x => x = K) w1).setCell (p := ⟨K, 5, none⟩) (fun _ => rfl) (.int .i64 12)).setCell (p := ⟨K, 1, none⟩) (fun _ => rfl) (.slice (some ⟨w1.heap.size, 0, none⟩) 12 12)).setCell (p := ⟨K, 0, none⟩) (fun _ => rfl) (nxWord K)
  have hT := (heap_setCell_same (i := 0) (heap_setCell_same (i := 1) (heap_setCell_same (i := 5) HK1.out (.int .i64 12)) (.slice (some ⟨w1.heap.size, 0, none⟩) 12 12)) (nxWord K))
  have hz : (((w1.setCell ⟨K, 5, none⟩ (.int .i64 12)).setCell ⟨K, 1, none⟩ (.slice (some ⟨w1.heap.size, 0, none⟩) 12 12)).setCell ⟨K, 0, none⟩ (nxWord K)).heap.size = w1.heap.size := by simp
  generalize (((w1.setCell ⟨K, 5, none⟩ (.int .i64 12)).setCell ⟨K, 1, none⟩ (.slice (some ⟨w1.heap.size, 0, none⟩) 12 12)).setCell ⟨K, 0, none⟩ (nxWord K)) = w2 at hs hT hz ⊢
  have ha := hs.alloc (.cells ⟨flatR 12 (fun _ _ => 0)⟩ 52)
  refine ⟨rfl, HM1.out.mod ha (fun e => hKM e.symm) (fun e => hKm e.symm), ⟨w1.heap.size, HO1.out.size, heap_alloc_keep hT _, ?_⟩, (HO1.out.weaken (fun _ _ h => .inl h)).trans ha (fun _ _ h => .inr h)⟩
  have := heap_alloc_at w2 (.cells ⟨flatR 12 (fun _ _ => 0)⟩ 52)
  rw [hz] at this
  exact this
theorem made_16 (w : World) : (Instr.makeSlice 46 (.int .i64 16) (.int .i64 16)).run Try.prog w = .ok (.slice (some ⟨w.heap.size, 0, none⟩) 16 16) (w.alloc (.cells ⟨flatR 16 (fun _ _ => 0)⟩ 52)) := by kernel_rfl
set_option maxHeartbeats 2000000 in
set_option maxRecDepth 100000 in
theorem blocks_4 {M mb N K : Nat} {f : Adr → Int} {s : Int} {L : Acc} {w : World} (hM : MemAt M mb N f s L w) (hK : TakB K (nxBlocks K) (.slice none 0 0) 0 0 0 w) (hKM : K ≠ M) (hKm : K ≠ mb) (hb : f bAdr = 4) :
    Calls Try.prog 39 #[.pointer (some ⟨K, 0, none⟩), .pointer (some ⟨M, 0, none⟩)] w (BlocksPost M mb N K 16 f s w) := by
  have HB := Lib.hid hb
  clear hb
  have hmk := made_16
  have HM := Lib.hid hM
  have HK := Lib.hid hK
  have hlt := lt_of_block hK
  clear hM hK
  go_enter Try.func39, Try.ntmps39
  go_wp2_with fail
  refine (loadAt (a := bAdr) HM.out bWf HB.out).mono ?_
  rintro _ w1 ⟨rfl, hM1, hm1⟩
  have HM1 := Lib.hid hM1
  have HO1 := Lib.hid hm1
  have hK1 := hm1.keep HK.out (fun h => h.elim hKM hKm)
  have c0 : w1.cell? ⟨K, 0, none⟩ = some (nxBlocks K) := cell_of hK1 rfl
  have c1 : w1.cell? ⟨K, 1, none⟩ = some (.slice none 0 0) := cell_of hK1 rfl
  have c5 : w1.cell? ⟨K, 5, none⟩ = some (.int .i64 0) := cell_of hK1 rfl
  have f0 := free_of (i := 0) hK1
  have f1 := free_of (i := 1) hK1
  have f5 := free_of (i := 5) hK1
  have hlt1 := lt_of_block hK1
  have HK1 := Lib.hid hK1
  clear hM1 hm1 hK1
  go_wp2_with fail
  go_end0
  have hs := (((Mod.refl (fun x => x = K) w1).setCell (p := ⟨K, 5, none⟩) (fun _ => rfl) (.int .i64 16)).setCell (p := ⟨K, 1, none⟩) (fun _ => rfl) (.slice (some ⟨w1.heap.size, 0, none⟩) 16 16)).setCell (p := ⟨K, 0, none⟩) (fun _ => rfl) (nxWord K)
  have hT := (heap_setCell_same (i := 0) (heap_setCell_same (i := 1) (heap_setCell_same (i := 5) HK1.out (.int .i64 16)) (.slice (some ⟨w1.heap.size, 0, none⟩) 16 16)) (nxWord K))
  have hz : (((w1.setCell ⟨K, 5, none⟩ (.int .i64 16)).setCell ⟨K, 1, none⟩ (.slice (some ⟨w1.heap.size, 0, none⟩) 16 16)).setCell ⟨K, 0, none⟩ (nxWord K)).heap.size = w1.heap.size := by simp
  generalize (((w1.setCell ⟨K, 5, none⟩ (.int .i64 16)).setCell ⟨K, 1, none⟩ (.slice (some ⟨w1.heap.size, 0, none⟩) 16 16)).setCell ⟨K, 0, none⟩ (nxWord K)) = w2 at hs hT hz ⊢
  have ha := hs.alloc (.cells ⟨flatR 16 (fun _ _ => 0)⟩ 52)
  refine ⟨rfl, HM1.out.mod ha (fun e => hKM e.symm) (fun e => hKm e.symm), ⟨w1.heap.size, HO1.out.size, heap_alloc_keep hT _, ?_⟩, (HO1.out.weaken (fun _ _ h => .inl h)).trans ha (fun _ _ h => .inr h)⟩
  have := heap_alloc_at w2 (.cells ⟨flatR 16 (fun _ _ => 0)⟩ 52)
  rw [hz] at this
  exact this
set_option maxHeartbeats 2000000 in
set_option maxRecDepth 100000 in
theorem blocks_5 {M mb N K : Nat} {f : Adr → Int} {s : Int} {L : Acc} {w : World} (hM : MemAt M mb N f s L w) (hK : TakB K (nxBlocks K) (.slice none 0 0) 0 0 0 w) (hKM : K ≠ M) (hKm : K ≠ mb) (hb : 4 < f bAdr) :
    Calls Try.prog 39 #[.pointer (some ⟨K, 0, none⟩), .pointer (some ⟨M, 0, none⟩)] w (BlocksPost M mb N K 16 f s w) := by
  obtain ⟨b, hbe⟩ : ∃ b, f bAdr = b := ⟨_, rfl⟩
  rw [hbe] at hb
  have HB := Lib.hid hbe
  clear hbe
  have hmk := made_16
  have HM := Lib.hid hM
  have HK := Lib.hid hK
  have hlt := lt_of_block hK
  clear hM hK
  go_enter Try.func39, Try.ntmps39
  go_wp2_with fail
  refine (loadAt (a := bAdr) HM.out bWf HB.out).mono ?_
  rintro _ w1 ⟨rfl, hM1, hm1⟩
  have HM1 := Lib.hid hM1
  have HO1 := Lib.hid hm1
  have hK1 := hm1.keep HK.out (fun h => h.elim hKM hKm)
  have c0 : w1.cell? ⟨K, 0, none⟩ = some (nxBlocks K) := cell_of hK1 rfl
  have c1 : w1.cell? ⟨K, 1, none⟩ = some (.slice none 0 0) := cell_of hK1 rfl
  have c5 : w1.cell? ⟨K, 5, none⟩ = some (.int .i64 0) := cell_of hK1 rfl
  have f0 := free_of (i := 0) hK1
  have f1 := free_of (i := 1) hK1
  have f5 := free_of (i := 5) hK1
  have hlt1 := lt_of_block hK1
  have HK1 := Lib.hid hK1
  clear hM1 hm1 hK1
  go_wp2_with fail
  go_end0
  have hs := (((Mod.refl (fun x => x = K) w1).setCell (p := ⟨K, 5, none⟩) (fun _ => rfl) (.int .i64 16)).setCell (p := ⟨K, 1, none⟩) (fun _ => rfl) (.slice (some ⟨w1.heap.size, 0, none⟩) 16 16)).setCell (p := ⟨K, 0, none⟩) (fun _ => rfl) (nxWord K)
  have hT := (heap_setCell_same (i := 0) (heap_setCell_same (i := 1) (heap_setCell_same (i := 5) HK1.out (.int .i64 16)) (.slice (some ⟨w1.heap.size, 0, none⟩) 16 16)) (nxWord K))
  have hz : (((w1.setCell ⟨K, 5, none⟩ (.int .i64 16)).setCell ⟨K, 1, none⟩ (.slice (some ⟨w1.heap.size, 0, none⟩) 16 16)).setCell ⟨K, 0, none⟩ (nxWord K)).heap.size = w1.heap.size := by simp
  generalize (((w1.setCell ⟨K, 5, none⟩ (.int .i64 16)).setCell ⟨K, 1, none⟩ (.slice (some ⟨w1.heap.size, 0, none⟩) 16 16)).setCell ⟨K, 0, none⟩ (nxWord K)) = w2 at hs hT hz ⊢
  have ha := hs.alloc (.cells ⟨flatR 16 (fun _ _ => 0)⟩ 52)
  refine ⟨rfl, HM1.out.mod ha (fun e => hKM e.symm) (fun e => hKm e.symm), ⟨w1.heap.size, HO1.out.size, heap_alloc_keep hT _, ?_⟩, (HO1.out.weaken (fun _ _ h => .inl h)).trans ha (fun _ _ h => .inr h)⟩
  have := heap_alloc_at w2 (.cells ⟨flatR 16 (fun _ _ => 0)⟩ 52)
  rw [hz] at this
  exact this
/-- How many threads so many blocks have, as a snapshot sees them. -/
def all4 (b : Int) : Nat := if 4 ≤ b then 16 else 4 * b.toNat
theorem blocks_any {M mb N K : Nat} {f : Adr → Int} {s : Int} {L : Acc} {w : World} (hM : MemAt M mb N f s L w) (hK : TakB K (nxBlocks K) (.slice none 0 0) 0 0 0 w) (hKM : K ≠ M) (hKm : K ≠ mb) (hb : 0 ≤ f bAdr) :
    Calls Try.prog 39 #[.pointer (some ⟨K, 0, none⟩), .pointer (some ⟨M, 0, none⟩)] w (BlocksPost M mb N K (all4 (f bAdr)) f s w) := by
  by_cases h5 : 4 < f bAdr
  · have e : all4 (f bAdr) = 16 := if_pos (by omega)
    rw [e]
    exact blocks_5 hM hK hKM hKm h5
  · have h5 : f bAdr = 0 ∨ f bAdr = 1 ∨ f bAdr = 2 ∨ f bAdr = 3 ∨ f bAdr = 4 := by omega
    rcases h5 with h | h | h | h | h
    · rw [show all4 (f bAdr) = 0 by rw [h]; rfl]; exact blocks_0 hM hK hKM hKm h
    · rw [show all4 (f bAdr) = 4 by rw [h]; rfl]; exact blocks_1 hM hK hKM hKm h
    · rw [show all4 (f bAdr) = 8 by rw [h]; rfl]; exact blocks_2 hM hK hKM hKm h
    · rw [show all4 (f bAdr) = 12 by rw [h]; rfl]; exact blocks_3 hM hK hKM hKm h
    · rw [show all4 (f bAdr) = 16 by rw [h]; rfl]; exact blocks_4 hM hK hKM hKm h
end Go.Proofs.Ytjnbkpklcmkdlaa
