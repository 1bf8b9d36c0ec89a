/- Epochs: one step of an Enter, of an Exit. -/
import Derived.Test.YtjnbkpklcmkdlaaEA
namespace Go.Proofs.Ytjnbkpklcmkdlaa
open Go.RowKit

def entCells (pc at' i : Int) : Array Value := #[.int .i64 pc, .int .u64 at', .int .i64 i]
def EntAt (E : Nat) (pc at' i : Int) (w : World) : Prop := w.heap[E]? = some (.cells (entCells pc at' i) 116)
def ExtAt (E : Nat) (pc at' i : Int) (w : World) : Prop := w.heap[E]? = some (.cells (entCells pc at' i) 115)
/-- What a step may change: the memory's two blocks and its own. -/
abbrev foot (M mb E : Nat) : Nat → Prop := fun b => (b = M ∨ b = mb) ∨ b = E
/-- Some memory whose words are f. -/
def MemOf (M mb N : Nat) (f : Adr → Int) (w : World) : Prop := ∃ s L, MemAt M mb N f s L w

def NewEntPost (i : Int) (w : World) (e : Ending) (w' : World) : Prop :=
  ∃ E, e = .returned (.pointer (some ⟨E, 0, none⟩)) ∧ EntAt E 1 0 i w' ∧ w.heap.size ≤ E ∧ Below w.heap.size w w'
theorem newEnter_any {i : Int} (h0 : 0 ≤ i) (h1 : i < 16) (w : World) : Calls Try.prog 33 #[.int .i64 i] w (NewEntPost i w) := by
  go_enter Try.func33, Try.ntmps33
  go_wp2_with fail
  refine (first_any h0 h1 _).mono ?_
  rintro _ w1 ⟨rfl, hb⟩
  go_wp2_with fail
  go_ret
  exact ⟨_, rfl, heap_alloc_at _ _, hb.size, hb.alloc hb.size _⟩
def NewExtPost (i : Int) (w : World) (e : Ending) (w' : World) : Prop :=
  ∃ E, e = .returned (.pointer (some ⟨E, 0, none⟩)) ∧ ExtAt E 1 0 i w' ∧ w.heap.size ≤ E ∧ Below w.heap.size w w'
theorem newExit_any {i : Int} (h0 : 0 ≤ i) (h1 : i < 16) (w : World) : Calls Try.prog 32 #[.int .i64 i] w (NewExtPost i w) := by
  go_enter Try.func32, Try.ntmps32
  go_wp2_with fail
  refine (first_any h0 h1 _).mono ?_
  rintro _ w1 ⟨rfl, hb⟩
  go_wp2_with fail
  go_ret
  exact ⟨_, rfl, heap_alloc_at _ _, hb.size, hb.alloc hb.size _⟩
def advCells (pc at' pos cnt : Int) (g : Bool) : Array Value := #[.int .i64 pc, .int .u64 at', .int .i64 pos, .int .i64 cnt, .bool g]
def AdvAt (E : Nat) (pc at' pos cnt : Int) (g : Bool) (w : World) : Prop := w.heap[E]? = some (.cells (advCells pc at' pos cnt g) 112)
def NewAdvPost (w : World) (e : Ending) (w' : World) : Prop :=
  ∃ E, e = .returned (.pointer (some ⟨E, 0, none⟩)) ∧ AdvAt E 1 0 0 0 false w' ∧ w.heap.size ≤ E ∧ Below w.heap.size w w'
theorem newAdv_any (w : World) : Calls Try.prog 31 #[] w (NewAdvPost w) := by
  go_enter Try.func31, Try.ntmps31
  go_wp2_with fail
  go_ret
  exact ⟨_, rfl, heap_alloc_at _ _, Nat.le_refl _, (Below.refl _ _).alloc (Nat.le_refl _) _⟩

theorem oWf {i : Int} (h0 : 0 ≤ i) (h1 : i < 16) : AdrWf (oAdr i) := by
  refine ⟨(by decide : (Lit.int .u8 8).wf = true), ?_, (by decide : (Lit.int .i64 3).wf = true)⟩
  have e1 : IntKind.i64.min = -9223372036854775808 := by decide
  have e2 : IntKind.i64.max = 9223372036854775807 := by decide
  show (decide (IntKind.i64.min ≤ i) && decide (i ≤ IntKind.i64.max)) = true
  rw [e1, e2]
  simp
  omega
theorem gWf : AdrWf gAdr := ⟨by decide, by decide, by decide⟩
theorem nWf : AdrWf nAdr := ⟨by decide, by decide, by decide⟩
theorem oMay {i : Int} (h0 : 0 ≤ i) (h1 : i < 16) : mayB (oAdr i) = true := by
  show (decide (0 ≤ i) && decide (i < 16) && decide ((0 : Int) ≤ 3) && decide ((3 : Int) < 10)) = true
  simp
  omega

/-- A step of an Exit. -/
def ExtStepPost (M mb N E : Nat) (f : Adr → Int) (i : Int) (at' : Int) (w : World) (e : Ending) (w' : World) : Prop :=
  e = .returned (.bool true) ∧ MemOf M mb (N + 1) (upd f (oAdr i) 0) w' ∧ ExtAt E 0 at' i w' ∧ Mod (foot M mb E) w w'
set_option maxHeartbeats 1000000 in
theorem exit_step {M mb N E : Nat} {f : Adr → Int} {at' i : Int} {w : World} (hM : MemOf M mb N f w) (hN : N < maxLen) (h0 : 0 ≤ i) (h1 : i < 16) (hE : ExtAt E 1 at' i w) (hEM : E ≠ M) (hEm : E ≠ mb) :
    Calls Try.prog 35 #[.pointer (some ⟨E, 0, none⟩), .pointer (some ⟨M, 0, none⟩)] w (ExtStepPost M mb N E f i at' w) := by
  obtain ⟨s, L, hM⟩ := hM
  have hc0 : w.cell? ⟨E, 0, none⟩ = some (.int .i64 1) := cell_of hE rfl
  have hc2 : w.cell? ⟨E, 2, none⟩ = some (.int .i64 i) := cell_of hE rfl
  have hlt := lt_of_block hE
  have HM := Lib.hid hM
  have HE := Lib.hid hE
  clear hM hE
  go_enter Try.func35, Try.ntmps35
  go_wp2_with fail
  refine (exit_over hc0).mono ?_
  rintro _ w ⟨rfl, rfl⟩
  go_wp2_with fail
  refine (own_any i w).mono ?_
  rintro _ w1 ⟨rfl, hb⟩
  have hm1 := Mod.ofBelow hb (fun _ => False)
  go_wp2_with fail
  refine (store_any (HM.out.mod hm1 (fun h => h) (fun h => h)) hN (oWf h0 h1) (nv := 0) (by decide)).mono ?_
  rintro _ w2 ⟨rfl, hM2, hm2⟩
  have hE2 := hm2.keep (hm1.keep HE.out (fun h => h)) (fun h => h.elim hEM hEm)
  have HM2 := Lib.hid hM2
  have HB := Lib.hid hb
  have HM3 := Lib.hid hm2
  have HM4 := Lib.hid hm1
  clear hc0 hc2 hM2 hb hm2 hm1
  have hc0 : w2.cell? ⟨E, 0, none⟩ = some (.int .i64 1) := cell_of hE2 rfl
  have hf0 := free_of hE2 (i := 0)
  have HE2 := Lib.hid hE2
  clear hE2
  go_wp2_with fail
  go_ret
  have e1 : wordsOf f (oAdr i) 0 true = upd f (oAdr i) 0 := by simp [wordsOf, acts, oMay h0 h1]
  have hM2 := HM2.out
  rw [e1] at hM2
  have hs := (Mod.refl (fun b => b = E) w2).setCell (p := ⟨E, 0, none⟩) (fun _ => rfl) (.int .i64 0)
  exact ⟨rfl, ⟨_, _, hM2.mod hs (fun e => hEM e.symm) (fun e => hEm e.symm)⟩, heap_setCell_same HE2.out _,
    (((HM4.out.weaken (fun _ _ h => h.elim)).trans HM3.out (fun _ _ h => .inl h)).trans hs (fun _ _ h => .inr h))⟩

/-- A step of an Enter: the first reads, the second writes. -/
def EntStep1Post (M mb N E : Nat) (f : Adr → Int) (i : Int) (w : World) (e : Ending) (w' : World) : Prop :=
  e = .returned (.bool false) ∧ MemOf M mb (N + 1) f w' ∧ EntAt E 4 (f gAdr) i w' ∧ Mod (foot M mb E) w w'
set_option maxHeartbeats 1000000 in
theorem enter_step1 {M mb N E : Nat} {f : Adr → Int} {at' i : Int} {w : World} (hM : MemOf M mb N f w) (hE : EntAt E 1 at' i w) (hEM : E ≠ M) (hEm : E ≠ mb) :
    Calls Try.prog 36 #[.pointer (some ⟨E, 0, none⟩), .pointer (some ⟨M, 0, none⟩)] w (EntStep1Post M mb N E f i w) := by
  obtain ⟨s, L, hM⟩ := hM
  have hc0 : w.cell? ⟨E, 0, none⟩ = some (.int .i64 1) := cell_of hE rfl
  have hlt := lt_of_block hE
  have HM := Lib.hid hM
  have HE := Lib.hid hE
  clear hM hE
  go_enter Try.func36, Try.ntmps36
  go_wp2_with fail
  refine (enter_over hc0).mono ?_
  rintro _ w ⟨rfl, rfl⟩
  go_wp2_with fail
  refine (global_any w).mono ?_
  rintro _ w1 ⟨rfl, hb⟩
  have hm1 := Mod.ofBelow hb (fun _ => False)
  go_wp2_with fail
  refine (load_any (HM.out.mod hm1 (fun h => h) (fun h => h)) gWf).mono ?_
  rintro _ w2 ⟨rfl, hM2, hm2⟩
  have hE2 := hm2.keep (hm1.keep HE.out (fun h => h)) (fun h => h.elim hEM hEm)
  have HM2 := Lib.hid hM2
  have HM3 := Lib.hid hm2
  have HM4 := Lib.hid hm1
  clear hc0 hM2 hb hm2 hm1
  have hc0 : w2.cell? ⟨E, 0, none⟩ = some (.int .i64 1) := cell_of hE2 rfl
  have hc1 : w2.cell? ⟨E, 1, none⟩ = some (.int .u64 at') := cell_of hE2 rfl
  have hf0 := free_of hE2 (i := 0)
  have hf1 := free_of hE2 (i := 1)
  have HE2 := Lib.hid hE2
  clear hE2
  go_wp2_with fail
  have hs := ((Mod.refl (fun b => b = E) w2).setCell (p := ⟨E, 1, none⟩) (fun _ => rfl) (.int .u64 (f gAdr))).setCell (p := ⟨E, 0, none⟩) (fun _ => rfl) (.int .i64 4)
  have hE3 := heap_setCell_same (i := 0) (heap_setCell_same (i := 1) HE2.out (.int .u64 (f gAdr))) (.int .i64 4)
  generalize (w2.setCell ⟨E, 1, none⟩ (.int .u64 (f gAdr))).setCell ⟨E, 0, none⟩ (.int .i64 4) = w3 at hs hE3 ⊢
  have hd0 : w3.cell? ⟨E, 0, none⟩ = some (.int .i64 4) := cell_of hE3 rfl
  refine (enter_over hd0).mono ?_
  rintro _ w3 ⟨rfl, rfl⟩
  clear hd0
  go_wp2_with fail
  go_ret
  exact ⟨rfl, ⟨_, _, HM2.out.mod hs (fun e => hEM e.symm) (fun e => hEm e.symm)⟩, hE3,
    (((HM4.out.weaken (fun _ _ h => h.elim)).trans HM3.out (fun _ _ h => .inl h)).trans hs (fun _ _ h => .inr h))⟩
end Go.Proofs.Ytjnbkpklcmkdlaa
