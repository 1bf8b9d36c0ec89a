/- Epochs: one step of a thread. -/
import Derived.Test.YtjnbkpklcmkdlaaEH
namespace Go.Proofs.Ytjnbkpklcmkdlaa
open Go.RowKit

/-- Five cells of a block, from o on; the others are as in c0. -/
def TAt (ty T o : Nat) (c0 : Array Value) (v0 v1 v2 v3 v4 : Value) (w : World) : Prop :=
  ∃ c, w.heap[T]? = some (.cells c ty) ∧ c.size = c0.size ∧ c[o]? = some v0 ∧ c[o + 1]? = some v1 ∧ c[o + 2]? = some v2 ∧ c[o + 3]? = some v3 ∧ c[o + 4]? = some v4 ∧ ∀ j, (j < o ∨ o + 5 ≤ j) → c[j]? = c0[j]?
theorem lt_of_some {c : Array Value} {i : Nat} {v : Value} (h : c[i]? = some v) : i < c.size := by
  have := Array.getElem?_eq_some_iff.1 h
  exact this.1
section
variable {ty T o : Nat} {c0 : Array Value} {v0 v1 v2 v3 v4 x : Value} {w w' : World}
theorem TAt.cells (h : TAt ty T o c0 v0 v1 v2 v3 v4 w) : w.cell? ⟨T, o, none⟩ = some v0 ∧ w.cell? ⟨T, o + 1, none⟩ = some v1 ∧ w.cell? ⟨T, o + 2, none⟩ = some v2 ∧ w.cell? ⟨T, o + 3, none⟩ = some v3 ∧ w.cell? ⟨T, o + 4, none⟩ = some v4 := by
  obtain ⟨c, h, _, a, b, d, e, f, _⟩ := h
  exact ⟨cell_of h a, cell_of h b, cell_of h d, cell_of h e, cell_of h f⟩
theorem TAt.free (h : TAt ty T o c0 v0 v1 v2 v3 v4 w) (i : Nat) : w.frozen? ⟨T, i, none⟩ = false := by
  obtain ⟨c, h, _⟩ := h
  exact free_of h
theorem TAt.lt (h : TAt ty T o c0 v0 v1 v2 v3 v4 w) : T < w.heap.size := by
  obtain ⟨c, h, _⟩ := h
  exact lt_of_block h
theorem TAt.mod {S : Nat → Prop} (h : TAt ty T o c0 v0 v1 v2 v3 v4 w) (hm : Mod S w w') (hn : ¬ S T) : TAt ty T o c0 v0 v1 v2 v3 v4 w' := by
  obtain ⟨c, h, r⟩ := h
  exact ⟨c, hm.keep h hn, r⟩
theorem TAt.set0 (h : TAt ty T o c0 v0 v1 v2 v3 v4 w) : TAt ty T o c0 x v1 v2 v3 v4 (w.setCell ⟨T, o, none⟩ x) := by
  obtain ⟨c, h, hs, a0, a1, a2, a3, a4, r⟩ := h
  refine ⟨c.setIfInBounds (o) x, heap_setCell_same h x, by simp [hs], by rw [Array.getElem?_setIfInBounds_self_of_lt (lt_of_some a0)], by rw [Array.getElem?_setIfInBounds_ne (by omega)]; exact a1, by rw [Array.getElem?_setIfInBounds_ne (by omega)]; exact a2, by rw [Array.getElem?_setIfInBounds_ne (by omega)]; exact a3, by rw [Array.getElem?_setIfInBounds_ne (by omega)]; exact a4, fun j hj => ?_⟩
  rw [Array.getElem?_setIfInBounds_ne (by omega)]
  exact r j hj
theorem TAt.set1 (h : TAt ty T o c0 v0 v1 v2 v3 v4 w) : TAt ty T o c0 v0 x v2 v3 v4 (w.setCell ⟨T, o + 1, none⟩ x) := by
  obtain ⟨c, h, hs, a0, a1, a2, a3, a4, r⟩ := h
  refine ⟨c.setIfInBounds (o + 1) x, heap_setCell_same h x, by simp [hs], by rw [Array.getElem?_setIfInBounds_ne (by omega)]; exact a0, by rw [Array.getElem?_setIfInBounds_self_of_lt (lt_of_some a1)], by rw [Array.getElem?_setIfInBounds_ne (by omega)]; exact a2, by rw [Array.getElem?_setIfInBounds_ne (by omega)]; exact a3, by rw [Array.getElem?_setIfInBounds_ne (by omega)]; exact a4, fun j hj => ?_⟩
  rw [Array.getElem?_setIfInBounds_ne (by omega)]
  exact r j hj
theorem TAt.set2 (h : TAt ty T o c0 v0 v1 v2 v3 v4 w) : TAt ty T o c0 v0 v1 x v3 v4 (w.setCell ⟨T, o + 2, none⟩ x) := by
  obtain ⟨c, h, hs, a0, a1, a2, a3, a4, r⟩ := h
  refine ⟨c.setIfInBounds (o + 2) x, heap_setCell_same h x, by simp [hs], by rw [Array.getElem?_setIfInBounds_ne (by omega)]; exact a0, by rw [Array.getElem?_setIfInBounds_ne (by omega)]; exact a1, by rw [Array.getElem?_setIfInBounds_self_of_lt (lt_of_some a2)], by rw [Array.getElem?_setIfInBounds_ne (by omega)]; exact a3, by rw [Array.getElem?_setIfInBounds_ne (by omega)]; exact a4, fun j hj => ?_⟩
  rw [Array.getElem?_setIfInBounds_ne (by omega)]
  exact r j hj
theorem TAt.set3 (h : TAt ty T o c0 v0 v1 v2 v3 v4 w) : TAt ty T o c0 v0 v1 v2 x v4 (w.setCell ⟨T, o + 3, none⟩ x) := by
  obtain ⟨c, h, hs, a0, a1, a2, a3, a4, r⟩ := h
  refine ⟨c.setIfInBounds (o + 3) x, heap_setCell_same h x, by simp [hs], by rw [Array.getElem?_setIfInBounds_ne (by omega)]; exact a0, by rw [Array.getElem?_setIfInBounds_ne (by omega)]; exact a1, by rw [Array.getElem?_setIfInBounds_ne (by omega)]; exact a2, by rw [Array.getElem?_setIfInBounds_self_of_lt (lt_of_some a3)], by rw [Array.getElem?_setIfInBounds_ne (by omega)]; exact a4, fun j hj => ?_⟩
  rw [Array.getElem?_setIfInBounds_ne (by omega)]
  exact r j hj
theorem TAt.set4 (h : TAt ty T o c0 v0 v1 v2 v3 v4 w) : TAt ty T o c0 v0 v1 v2 v3 x (w.setCell ⟨T, o + 4, none⟩ x) := by
  obtain ⟨c, h, hs, a0, a1, a2, a3, a4, r⟩ := h
  refine ⟨c.setIfInBounds (o + 4) x, heap_setCell_same h x, by simp [hs], by rw [Array.getElem?_setIfInBounds_ne (by omega)]; exact a0, by rw [Array.getElem?_setIfInBounds_ne (by omega)]; exact a1, by rw [Array.getElem?_setIfInBounds_ne (by omega)]; exact a2, by rw [Array.getElem?_setIfInBounds_ne (by omega)]; exact a3, by rw [Array.getElem?_setIfInBounds_self_of_lt (lt_of_some a4)], fun j hj => ?_⟩
  rw [Array.getElem?_setIfInBounds_ne (by omega)]
  exact r j hj
end
/-- What is under way. -/
inductive EOp where
  | idle | ent1 | ent2 (e : Int) | ext | adv1 | adv2 (e : Int) | adv3 (e pos : Int) | adv4 (e : Int)
structure Th where
  inn : Bool
  at' : Int
  op : EOp
abbrev pE (E : Nat) : Value := .pointer (some ⟨E, 0, none⟩)
abbrev pN : Value := .pointer none
def OpAt (op : EOp) (E : Nat) (i : Int) (w : World) : Prop := match op with
  | .idle => True
  | .ent1 => EntAt E 1 0 i w
  | .ent2 e => EntAt E 4 e i w
  | .ext => ExtAt E 1 0 i w
  | .adv1 => AdvAt E 1 0 0 0 false w
  | .adv2 e => AdvAt E 2 e 0 0 false w
  | .adv3 e pos => AdvAt E 3 e pos 8 false w
  | .adv4 e => AdvAt E 4 e 8 8 false w
def ThAt (ty T o : Nat) (c0 : Array Value) (t : Th) (E : Nat) (w : World) : Prop := match t.op with
  | .idle => TAt ty T o c0 (.bool t.inn) (.int .u64 t.at') pN pN pN w
  | .ent1 => TAt ty T o c0 (.bool t.inn) (.int .u64 t.at') (pE E) pN pN w
  | .ent2 _ => TAt ty T o c0 (.bool t.inn) (.int .u64 t.at') (pE E) pN pN w
  | .ext => TAt ty T o c0 (.bool t.inn) (.int .u64 t.at') pN (pE E) pN w
  | .adv1 => TAt ty T o c0 (.bool t.inn) (.int .u64 t.at') pN pN (pE E) w
  | .adv2 _ => TAt ty T o c0 (.bool t.inn) (.int .u64 t.at') pN pN (pE E) w
  | .adv3 _ _ => TAt ty T o c0 (.bool t.inn) (.int .u64 t.at') pN pN (pE E) w
  | .adv4 _ => TAt ty T o c0 (.bool t.inn) (.int .u64 t.at') pN pN (pE E) w
/-- What a step of a thread may change. -/
abbrev foot2 (M mb T E : Nat) : Nat → Prop := fun b => (b = M ∨ b = mb ∨ b = T) ∨ b = E
def StepsTo (ty M mb T o N : Nat) (c0 : Array Value) (i : Int) (E : Nat) (f' : Adr → Int) (t' : Th) (w : World) (e : Ending) (w' : World) : Prop :=
  e = .returned (.tuple #[]) ∧ ∃ E', (E' = E ∨ w.heap.size ≤ E') ∧ MemOf M mb (N + 2) f' w' ∧ ThAt ty T o c0 t' E' w' ∧ OpAt t'.op E' i w' ∧ Mod (foot2 M mb T E) w w'
theorem MemOf.grow {M mb N : Nat} {f : Adr → Int} {w : World} (h : MemOf M mb N f w) : MemOf M mb (N + 1) f w := by
  obtain ⟨s, L, h⟩ := h
  exact ⟨s, L, h.grow⟩
def adv_on_post (ty M mb N T o E : Nat) (c0 : Array Value) (f' : Adr → Int) (a : Int) (n : Bool) (pc at' pos cnt : Int) (g : Bool) (w : World) : Ending → World → Prop := fun e w' => e = .returned (.tuple #[]) ∧ MemOf M mb (N + 2) f' w' ∧ TAt ty T o c0 (.bool n) (.int .u64 a) pN pN (pE E) w' ∧ AdvAt E pc at' pos cnt g w' ∧ Mod (foot2 M mb T E) w w'
set_option maxHeartbeats 2000000 in
set_option maxRecDepth 100000 in
theorem adv_on {ty M mb N T o E : Nat} {c0 : Array Value} {f : Adr → Int} {i a : Int} {n b : Bool} {w : World} (hM : MemOf M mb N f w) (hTM : T ≠ M) (hTm : T ≠ mb) (hT : TAt ty T o c0 (.bool n) (.int .u64 a) pN pN (pE E) w) (hET : E ≠ T) {f' : Adr → Int} {pc at' pos cnt : Int} {g : Bool} (hC : ∀ wa, Mod (fun _ => False) w wa → Calls Try.prog 34 #[pE E, .pointer (some ⟨M, 0, none⟩)] wa (AdvPost M mb N E false f' pc at' pos cnt g wa)) :
    Calls Try.prog 9 #[.pointer (some ⟨T, o, none⟩), .pointer (some ⟨M, 0, none⟩), .int .i64 i, .bool b] w (adv_on_post ty M mb N T o E c0 f' a n pc at' pos cnt g w) := by
  obtain ⟨hc0, hc1, hc2, hc3, hc4⟩ := TAt.cells hT
  have HT := Lib.hid hT
  have HC := Lib.hid hC
  have HM := Lib.hid hM
  clear hT hC hM
  go_enter Try.func9, Try.ntmps9
  go_wp2_with fail
  refine (HC.out _ (Mod.refl _ _)).mono ?_
  rintro _ w1 ⟨rfl, hM1, hE1, hm1⟩
  have HM1 := Lib.hid hM1
  have HE1 := Lib.hid hE1
  have HO1 := Lib.hid hm1
  have HT1 := Lib.hid (HT.out.mod hm1 (fun h => h.elim (fun h => h.elim hTM hTm) (fun h => hET h.symm)))
  clear hM1 hE1 hm1 hc0 hc1 hc2 hc3 hc4
  obtain ⟨hc0, hc1, hc2, hc3, hc4⟩ := TAt.cells HT1.out
  have hf0 : w1.frozen? ⟨T, o, none⟩ = false := TAt.free HT1.out _
  have hf1 : w1.frozen? ⟨T, o + 1, none⟩ = false := TAt.free HT1.out _
  have hf2 : w1.frozen? ⟨T, o + 2, none⟩ = false := TAt.free HT1.out _
  have hf3 : w1.frozen? ⟨T, o + 3, none⟩ = false := TAt.free HT1.out _
  have hf4 : w1.frozen? ⟨T, o + 4, none⟩ = false := TAt.free HT1.out _
  go_wp2_with fail
  go_end0
  exact ⟨rfl, HM1.out.grow, HT1.out, HE1.out, HO1.out.weaken (fun x _ h => h.elim (fun h => .inl (h.elim .inl (fun h => .inr (.inl h)))) .inr)⟩
def adv_end_post (ty M mb N T o E : Nat) (c0 : Array Value) (f' : Adr → Int) (a : Int) (n : Bool) (pc at' pos cnt : Int) (g : Bool) (w : World) : Ending → World → Prop := fun e w' => e = .returned (.tuple #[]) ∧ MemOf M mb (N + 2) f' w' ∧ TAt ty T o c0 (.bool n) (.int .u64 a) pN pN pN w' ∧ AdvAt E pc at' pos cnt g w' ∧ Mod (foot2 M mb T E) w w'
set_option maxHeartbeats 2000000 in
set_option maxRecDepth 100000 in
theorem adv_end {ty M mb N T o E : Nat} {c0 : Array Value} {f : Adr → Int} {i a : Int} {n b : Bool} {w : World} (hM : MemOf M mb N f w) (hTM : T ≠ M) (hTm : T ≠ mb) (hT : TAt ty T o c0 (.bool n) (.int .u64 a) pN pN (pE E) w) (hET : E ≠ T) {f' : Adr → Int} {pc at' pos cnt : Int} {g : Bool} (hC : ∀ wa, Mod (fun _ => False) w wa → Calls Try.prog 34 #[pE E, .pointer (some ⟨M, 0, none⟩)] wa (AdvPost M mb N E true f' pc at' pos cnt g wa)) :
    Calls Try.prog 9 #[.pointer (some ⟨T, o, none⟩), .pointer (some ⟨M, 0, none⟩), .int .i64 i, .bool b] w (adv_end_post ty M mb N T o E c0 f' a n pc at' pos cnt g w) := by
  obtain ⟨hc0, hc1, hc2, hc3, hc4⟩ := TAt.cells hT
  have HT := Lib.hid hT
  have HC := Lib.hid hC
  have HM := Lib.hid hM
  clear hT hC hM
  go_enter Try.func9, Try.ntmps9
  go_wp2_with fail
  refine (HC.out _ (Mod.refl _ _)).mono ?_
  rintro _ w1 ⟨rfl, hM1, hE1, hm1⟩
  have HM1 := Lib.hid hM1
  have HE1 := Lib.hid hE1
  have HO1 := Lib.hid hm1
  have HT1 := Lib.hid (HT.out.mod hm1 (fun h => h.elim (fun h => h.elim hTM hTm) (fun h => hET h.symm)))
  clear hM1 hE1 hm1 hc0 hc1 hc2 hc3 hc4
  obtain ⟨hc0, hc1, hc2, hc3, hc4⟩ := TAt.cells HT1.out
  have hf0 : w1.frozen? ⟨T, o, none⟩ = false := TAt.free HT1.out _
  have hf1 : w1.frozen? ⟨T, o + 1, none⟩ = false := TAt.free HT1.out _
  have hf2 : w1.frozen? ⟨T, o + 2, none⟩ = false := TAt.free HT1.out _
  have hf3 : w1.frozen? ⟨T, o + 3, none⟩ = false := TAt.free HT1.out _
  have hf4 : w1.frozen? ⟨T, o + 4, none⟩ = false := TAt.free HT1.out _
  go_wp2_with fail
  have hs := (Mod.refl (fun b => b = T) w1).setCell (p := ⟨T, o + 4, none⟩) (fun _ => rfl) pN
  go_end0
  exact ⟨rfl, (HM1.out.mod hs (fun e => hTM e.symm) (fun e => hTm e.symm)).grow, HT1.out.set4, hs.keep HE1.out (fun e => hET e), (HO1.out.weaken (fun x _ h => h.elim (fun h => .inl (h.elim .inl (fun h => .inr (.inl h)))) .inr)).trans hs (fun x _ h => .inl (.inr (.inr h)))⟩
def ext_end_post (ty M mb N T o E : Nat) (c0 : Array Value) (f : Adr → Int) (i a : Int) (n : Bool) (w : World) : Ending → World → Prop := fun e w' => e = .returned (.tuple #[]) ∧ MemOf M mb (N + 2) (upd f (oAdr i) 0) w' ∧ TAt ty T o c0 (.bool n) (.int .u64 a) pN pN pN w' ∧ True ∧ Mod (foot2 M mb T E) w w'
set_option maxHeartbeats 2000000 in
set_option maxRecDepth 100000 in
theorem ext_end {ty M mb N T o E : Nat} {c0 : Array Value} {f : Adr → Int} {i a : Int} {n b : Bool} {w : World} (hM : MemOf M mb N f w) (hTM : T ≠ M) (hTm : T ≠ mb) (hT : TAt ty T o c0 (.bool n) (.int .u64 a) pN (pE E) pN w) (hEM : E ≠ M) (hEm : E ≠ mb) (hET : E ≠ T) (hE : ExtAt E 1 0 i w) (h0 : 0 ≤ i) (h1 : i < 16) (hN : N < maxLen) :
    Calls Try.prog 9 #[.pointer (some ⟨T, o, none⟩), .pointer (some ⟨M, 0, none⟩), .int .i64 i, .bool b] w (ext_end_post ty M mb N T o E c0 f i a n w) := by
  obtain ⟨hc0, hc1, hc2, hc3, hc4⟩ := TAt.cells hT
  have HT := Lib.hid hT
  have HE := Lib.hid hE
  have HM := Lib.hid hM
  clear hT hE hM
  go_enter Try.func9, Try.ntmps9
  go_wp2_with fail
  refine (exit_step HM.out hN h0 h1 HE.out hEM hEm).mono ?_
  rintro _ w1 ⟨rfl, hM1, hE1, hm1⟩
  have HM1 := Lib.hid hM1
  have HE1 := Lib.hid hE1
  have HO1 := Lib.hid hm1
  have HT1 := Lib.hid (HT.out.mod hm1 (fun h => h.elim (fun h => h.elim hTM hTm) (fun h => hET h.symm)))
  clear hM1 hE1 hm1 hc0 hc1 hc2 hc3 hc4
  obtain ⟨hc0, hc1, hc2, hc3, hc4⟩ := TAt.cells HT1.out
  have hf0 : w1.frozen? ⟨T, o, none⟩ = false := TAt.free HT1.out _
  have hf1 : w1.frozen? ⟨T, o + 1, none⟩ = false := TAt.free HT1.out _
  have hf2 : w1.frozen? ⟨T, o + 2, none⟩ = false := TAt.free HT1.out _
  have hf3 : w1.frozen? ⟨T, o + 3, none⟩ = false := TAt.free HT1.out _
  have hf4 : w1.frozen? ⟨T, o + 4, none⟩ = false := TAt.free HT1.out _
  go_wp2_with fail
  have hs := (Mod.refl (fun b => b = T) w1).setCell (p := ⟨T, o + 3, none⟩) (fun _ => rfl) pN
  go_end0
  exact ⟨rfl, (HM1.out.mod hs (fun e => hTM e.symm) (fun e => hTm e.symm)).grow, HT1.out.set3, trivial, (HO1.out.weaken (fun x _ h => h.elim (fun h => .inl (h.elim .inl (fun h => .inr (.inl h)))) .inr)).trans hs (fun x _ h => .inl (.inr (.inr h)))⟩
def ent1_on_post (ty M mb N T o E : Nat) (c0 : Array Value) (f : Adr → Int) (i a : Int) (n : Bool) (w : World) : Ending → World → Prop := fun e w' => e = .returned (.tuple #[]) ∧ MemOf M mb (N + 2) (f) w' ∧ TAt ty T o c0 (.bool n) (.int .u64 a) (pE E) pN pN w' ∧ EntAt E 4 (f gAdr) i w' ∧ Mod (foot2 M mb T E) w w'
set_option maxHeartbeats 2000000 in
set_option maxRecDepth 100000 in
theorem ent1_on {ty M mb N T o E : Nat} {c0 : Array Value} {f : Adr → Int} {i a : Int} {n b : Bool} {w : World} (hM : MemOf M mb N f w) (hTM : T ≠ M) (hTm : T ≠ mb) (hT : TAt ty T o c0 (.bool n) (.int .u64 a) (pE E) pN pN w) (hEM : E ≠ M) (hEm : E ≠ mb) (hET : E ≠ T) (hE : EntAt E 1 0 i w) :
    Calls Try.prog 9 #[.pointer (some ⟨T, o, none⟩), .pointer (some ⟨M, 0, none⟩), .int .i64 i, .bool b] w (ent1_on_post ty M mb N T o E c0 f i a n w) := by
  obtain ⟨hc0, hc1, hc2, hc3, hc4⟩ := TAt.cells hT
  have HT := Lib.hid hT
  have HE := Lib.hid hE
  have HM := Lib.hid hM
  clear hT hE hM
  go_enter Try.func9, Try.ntmps9
  go_wp2_with fail
  refine (enter_step1 HM.out HE.out hEM hEm).mono ?_
  rintro _ w1 ⟨rfl, hM1, hE1, hm1⟩
  have HM1 := Lib.hid hM1
  have HE1 := Lib.hid hE1
  have HO1 := Lib.hid hm1
  have HT1 := Lib.hid (HT.out.mod hm1 (fun h => h.elim (fun h => h.elim hTM hTm) (fun h => hET h.symm)))
  clear hM1 hE1 hm1 hc0 hc1 hc2 hc3 hc4
  obtain ⟨hc0, hc1, hc2, hc3, hc4⟩ := TAt.cells HT1.out
  have hf0 : w1.frozen? ⟨T, o, none⟩ = false := TAt.free HT1.out _
  have hf1 : w1.frozen? ⟨T, o + 1, none⟩ = false := TAt.free HT1.out _
  have hf2 : w1.frozen? ⟨T, o + 2, none⟩ = false := TAt.free HT1.out _
  have hf3 : w1.frozen? ⟨T, o + 3, none⟩ = false := TAt.free HT1.out _
  have hf4 : w1.frozen? ⟨T, o + 4, none⟩ = false := TAt.free HT1.out _
  go_wp2_with fail
  go_end0
  exact ⟨rfl, HM1.out.grow, HT1.out, HE1.out, HO1.out.weaken (fun x _ h => h.elim (fun h => .inl (h.elim .inl (fun h => .inr (.inl h)))) .inr)⟩
def ent2_end_post (ty M mb N T o E : Nat) (c0 : Array Value) (f : Adr → Int) (i x : Int) (w : World) : Ending → World → Prop := fun e w' => e = .returned (.tuple #[]) ∧ MemOf M mb (N + 2) (upd f (oAdr i) (2 * x + 1)) w' ∧ TAt ty T o c0 (.bool true) (.int .u64 (f gAdr)) pN pN pN w' ∧ True ∧ Mod (foot2 M mb T E) w w'
set_option maxHeartbeats 2000000 in
set_option maxRecDepth 100000 in
theorem ent2_end {ty M mb N T o E : Nat} {c0 : Array Value} {f : Adr → Int} {i a : Int} {n b : Bool} {w : World} (hM : MemOf M mb N f w) (hTM : T ≠ M) (hTm : T ≠ mb) {x : Int} (ha0 : 0 ≤ x) (ha1 : x < 1152921504606846976) (hT : TAt ty T o c0 (.bool n) (.int .u64 a) (pE E) pN pN w) (hEM : E ≠ M) (hEm : E ≠ mb) (hET : E ≠ T) (hE : EntAt E 4 x i w) (h0 : 0 ≤ i) (h1 : i < 16) (hN : N < maxLen) :
    Calls Try.prog 9 #[.pointer (some ⟨T, o, none⟩), .pointer (some ⟨M, 0, none⟩), .int .i64 i, .bool b] w (ent2_end_post ty M mb N T o E c0 f i x w) := by
  obtain ⟨hc0, hc1, hc2, hc3, hc4⟩ := TAt.cells hT
  have HT := Lib.hid hT
  have HE := Lib.hid hE
  have HM := Lib.hid hM
  clear hT hE hM
  go_enter Try.func9, Try.ntmps9
  go_wp2_with fail
  refine (enter_step2 HM.out hN h0 h1 ha0 ha1 HE.out hEM hEm).mono ?_
  rintro _ w1 ⟨rfl, hM1, hE1, hm1⟩
  have HM1 := Lib.hid hM1
  have HE1 := Lib.hid hE1
  have HO1 := Lib.hid hm1
  have HT1 := Lib.hid (HT.out.mod hm1 (fun h => h.elim (fun h => h.elim hTM hTm) (fun h => hET h.symm)))
  clear hM1 hE1 hm1 hc0 hc1 hc2 hc3 hc4
  obtain ⟨hc0, hc1, hc2, hc3, hc4⟩ := TAt.cells HT1.out
  have hf0 : w1.frozen? ⟨T, o, none⟩ = false := TAt.free HT1.out _
  have hf1 : w1.frozen? ⟨T, o + 1, none⟩ = false := TAt.free HT1.out _
  have hf2 : w1.frozen? ⟨T, o + 2, none⟩ = false := TAt.free HT1.out _
  have hf3 : w1.frozen? ⟨T, o + 3, none⟩ = false := TAt.free HT1.out _
  have hf4 : w1.frozen? ⟨T, o + 4, none⟩ = false := TAt.free HT1.out _
  go_wp2_with fail
  have hs := ((Mod.refl (fun b => b = T) w1).setCell (p := ⟨T, o + 2, none⟩) (fun _ => rfl) pN).setCell (p := ⟨T, o, none⟩) (fun _ => rfl) (.bool true)
  have hT2 : TAt ty T o c0 (.bool true) (.int .u64 a) pN pN pN _ := (HT1.out.set2 (x := pN)).set0 (x := .bool true)
  have HS2 := Lib.hid hs
  have HT2 := Lib.hid hT2
  clear hc0 hc1 hc2 hc3 hc4 hf0 hf1 hf2 hf3 hf4 hs hT2
  generalize (w1.setCell ⟨T, o + 2, none⟩ pN).setCell ⟨T, o, none⟩ (.bool true) = w2 at HS2 HT2 ⊢
  have HM2 := Lib.hid (HM1.out.mod HS2.out (fun e => hTM e.symm) (fun e => hTm e.symm))
  refine (word_any HM2.out (k := 1) gWf).mono ?_
  rintro _ w3 ⟨rfl, hM3, hm3⟩
  have hw : upd f (oAdr i) (2 * x + 1) (1, 0, 0) = f gAdr := rfl
  rw [hw]
  clear hw
  have HM3 := Lib.hid hM3
  have HO3 := Lib.hid hm3
  have HT3 := Lib.hid (HT2.out.mod hm3 (fun h => h.elim hTM hTm))
  clear hM3 hm3
  obtain ⟨hc0, hc1, hc2, hc3, hc4⟩ := TAt.cells HT3.out
  have hf1 : w3.frozen? ⟨T, o + 1, none⟩ = false := TAt.free HT3.out _
  go_wp2_with fail
  have hs3 := (Mod.refl (fun b => b = T) w3).setCell (p := ⟨T, o + 1, none⟩) (fun _ => rfl) (.int .u64 (f gAdr))
  go_end0
  refine ⟨rfl, HM3.out.mod hs3 (fun e => hTM e.symm) (fun e => hTm e.symm), HT3.out.set1, trivial, (((HO1.out.weaken (fun x _ h => h.elim (fun h => .inl (h.elim .inl (fun h => .inr (.inl h)))) .inr)).trans HS2.out (fun x _ h => .inl (.inr (.inr h)))).trans HO3.out (fun x _ h => .inl (h.elim .inl (fun h => .inr (.inl h))))).trans hs3 (fun x _ h => .inl (.inr (.inr h)))⟩
end Go.Proofs.Ytjnbkpklcmkdlaa
