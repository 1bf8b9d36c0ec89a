/- The pair of memories: a store in both, the last step of both. -/
import Derived.Test.YtjnbkpklcmkdlaaRD
namespace Go.Proofs.Ytjnbkpklcmkdlaa
open Go.RowKit

/-- Both memories hold the same words, and had the same steps. -/
structure PairAt (fp : Nat → Prop) (M mb R N : Nat) (f : Adr → Int) (s : Int) (L : Acc) (w : World) : Prop where
  mem : MemAt M mb N f s L w
  ref : RefAt fp R N f s L w
  noM : ¬ fp M
  nom : ¬ fp mb
abbrev pfoot (M mb : Nat) (fp : Nat → Prop) : Nat → Prop := fun x => mfoot M mb x ∨ fp x
theorem PairAt.keep {fp S : Nat → Prop} {M mb R N : Nat} {f : Adr → Int} {s : Int} {L : Acc} {w w' : World} (h : PairAt fp M mb R N f s L w) (hm : Mod S w w') (h1 : ¬ S M) (h2 : ¬ S mb) (h3 : ∀ x, fp x → ¬ S x) : PairAt fp M mb R N f s L w' :=
  ⟨h.mem.mod hm h1 h2, h.ref.keep hm h3, h.noM, h.nom⟩
theorem PairAt.sep {fp : Nat → Prop} {M mb R N : Nat} {f : Adr → Int} {s : Int} {L : Acc} {w : World} (h : PairAt fp M mb R N f s L w) : ∀ x, fp x → ¬ mfoot M mb x := fun x hx hm => by
  rcases hm with e | e
  · exact h.noM (e ▸ hx)
  · exact h.nom (e ▸ hx)
theorem RefAt.grow {fp : Nat → Prop} {R N : Nat} {f : Adr → Int} {s : Int} {L : Acc} {w : World} (h : RefAt fp R N f s L w) : RefAt fp R (N + 1) f s L w := by
  obtain ⟨v, ws, h, hl, r⟩ := h
  exact ⟨v, ws, h, by omega, r⟩
theorem RefAt.fpR {fp : Nat → Prop} {R N : Nat} {f : Adr → Int} {s : Int} {L : Acc} {w : World} (h : RefAt fp R N f s L w) : fp R := by
  obtain ⟨v, ws, h, _⟩ := h
  exact h.fpR
theorem RefAt.lt {fp : Nat → Prop} {R N : Nat} {f : Adr → Int} {s : Int} {L : Acc} {w : World} (h : RefAt fp R N f s L w) : ∀ x, fp x → x < w.heap.size := by
  obtain ⟨v, ws, h, _⟩ := h
  exact h.lt
theorem RefAt.own {fp : Nat → Prop} {R N : Nat} {f : Adr → Int} {s : Int} {L : Acc} {w : World} (h : RefAt fp R N f s L w) : ∃ v, w.heap[R]? = some (.cells (refCells v s L) 104) := by
  obtain ⟨v, ws, h, _⟩ := h
  exact ⟨v, h.own⟩
abbrev pairV (M R : Nat) : Value := .agg #[.pointer (some ⟨M, 0, none⟩), .pointer (some ⟨R, 0, none⟩)]
abbrev storeV (a : Adr) (v : Int) : Value := .agg #[.int .u8 a.1, .int .i64 a.2.1, .int .i64 a.2.2, .int .u64 v]
def PStorePost (fp : Nat → Prop) (M mb R N : Nat) (f : Adr → Int) (s : Int) (a : Adr) (nv : Int) (w : World) (e : Ending) (w' : World) : Prop :=
  e = .returned (.tuple #[]) ∧ ∃ fp', PairAt fp' M mb R (N + 1) (wordsOf f a nv true) (wrap64 (s + 1)) (accOf f 2 a nv true) w' ∧ Turn (pfoot M mb fp) (pfoot M mb fp') w w'
set_option maxHeartbeats 1000000 in
theorem pstore_any {fp : Nat → Prop} {M mb R N : Nat} {f : Adr → Int} {s : Int} {L : Acc} {w : World} (h : PairAt fp M mb R N f s L w) (hN : N ≤ 99999) {a : Adr} (ha : AdrWf a) {nv : Int} (hv : (Lit.int .u64 nv).wf = true) :
    Calls Try.prog 21 #[pairV M R, storeV a nv] w (PStorePost fp M mb R N f s a nv w) := by
  have hmx : N < maxLen := by unfold maxLen; omega
  have HMX := Lib.hid hmx
  have HA := Lib.hid ha
  have HV := Lib.hid hv
  have HH := Lib.hid h
  obtain ⟨hl1, hl2⟩ := h.mem.lt
  have HL1 := Lib.hid hl1
  have HL2 := Lib.hid hl2
  obtain ⟨ka, aa, fa⟩ := a
  clear ha hv h hmx hl1 hl2
  go_enter Try.func21, Try.ntmps21
  go_wp2_with fail
  have hb0 := ((Mod.refl (fun _ => False) w).alloc (.cells #[.pointer (some ⟨M, 0, none⟩), .pointer (some ⟨R, 0, none⟩)] 65)).alloc (.cells #[.int .u8 ka, .int .i64 aa, .int .i64 fa, .int .u64 nv] 73)
  obtain ⟨hs1, hs2, hz⟩ := heap_alloc2 w (.cells #[.pointer (some ⟨M, 0, none⟩), .pointer (some ⟨R, 0, none⟩)] 65) (.cells #[.int .u8 ka, .int .i64 aa, .int .i64 fa, .int .u64 nv] 73)
  generalize (w.alloc (.cells #[.pointer (some ⟨M, 0, none⟩), .pointer (some ⟨R, 0, none⟩)] 65)).alloc (.cells #[.int .u8 ka, .int .i64 aa, .int .i64 fa, .int .u64 nv] 73) = w1 at hb0 hs1 hs2 hz ⊢
  have HB0 := Lib.hid hb0
  have HS1 := Lib.hid hs1
  have HS2 := Lib.hid hs2
  have hP1 := HH.out.keep hb0 (fun h => h) (fun h => h) (fun _ _ h => h)
  have HP1 := Lib.hid hP1
  clear hb0 hs1 hs2 hz hP1
  refine (storeAt HP1.out.mem HMX.out (a := (ka, aa, fa)) HA.out HV.out).mono ?_
  rintro _ w2 ⟨rfl, hM2, hm2⟩
  have HM2 := Lib.hid hM2
  have HO2 := Lib.hid hm2
  have HR2 := Lib.hid (HP1.out.ref.keep hm2 HP1.out.sep)
  have HT1 := Lib.hid (hm2.keep HS1.out (fun h => by have := HL1.out; have := HL2.out; rcases h with h | h <;> omega))
  have HT2 := Lib.hid (hm2.keep HS2.out (fun h => by have := HL1.out; have := HL2.out; rcases h with h | h <;> omega))
  have p1 : w2.cell? ⟨w.heap.size, 1, none⟩ = some (.pointer (some ⟨R, 0, none⟩)) := cell_of HT1.out rfl
  have q0 : w2.cell? ⟨w.heap.size + 1, 0, none⟩ = some (.int .u8 ka) := cell_of HT2.out rfl
  have q1 : w2.cell? ⟨w.heap.size + 1, 1, none⟩ = some (.int .i64 aa) := cell_of HT2.out rfl
  have q2 : w2.cell? ⟨w.heap.size + 1, 2, none⟩ = some (.int .i64 fa) := cell_of HT2.out rfl
  have q3 : w2.cell? ⟨w.heap.size + 1, 3, none⟩ = some (.int .u64 nv) := cell_of HT2.out rfl
  clear hM2 hm2
  go_wp2_with fail
  refine (rstore_any HR2.out hN (a := (ka, aa, fa)) HA.out nv).mono ?_
  rintro _ w3 ⟨rfl, fp', hR3, hT3⟩
  have HR3 := Lib.hid hR3
  have HT3 := Lib.hid hT3
  clear hR3 hT3 p1 q0 q1 q2 q3
  go_wp2_with fail
  go_end0
  obtain ⟨hl1, hl2⟩ := HM2.out.lt
  have hn1 : ¬ fp' M := fun h => (HT3.out.new M h).elim HP1.out.noM (fun h => by omega)
  have hn2 : ¬ fp' mb := fun h => (HT3.out.new mb h).elim HP1.out.nom (fun h => by omega)
  refine ⟨rfl, fp', ⟨HM2.out.mod HT3.out.mod HP1.out.noM HP1.out.nom, HR3.out, hn1, hn2⟩, ⟨((HB0.out.weaken (fun _ _ h => h.elim)).trans HO2.out (fun _ _ h => .inl h)).trans HT3.out.mod (fun _ _ h => .inr h), fun x hx => ?_⟩⟩
  rcases hx with h | h
  · exact .inl (.inl h)
  · rcases HT3.out.new x h with h2 | h2
    · exact .inl (.inr h2)
    · exact .inr (Nat.le_trans (Nat.le_trans HB0.out.size HO2.out.size) h2)

set_option maxHeartbeats 1000000 in
theorem eq_acc (L : Acc) (w : World) : (Op.equalIn 10000 85 (accVal L) (accVal L)).run Try.prog w = .ok true w := by
  obtain ⟨k, ⟨a, b, c⟩, x, y, d⟩ := L
  simp only [accVal]
  go_simp
abbrev accA (k a b c x y : Int) (d : Bool) : Value := .agg #[.int .u8 k, .int .u8 a, .int .i64 b, .int .i64 c, .int .u64 x, .int .u64 y, .bool d]
theorem last_agg {M mb N : Nat} {f : Adr → Int} {s : Int} {k a b c x y : Int} {d : Bool} {w : World} (h : MemAt M mb N f s ⟨k, (a, b, c), x, y, d⟩ w) :
    Calls Try.prog 44 #[.pointer (some ⟨M, 0, none⟩)] w (fun e w' => e = .returned (accA k a b c x y d) ∧ Below w.heap.size w w') := last_any h
def PSamePost (w : World) (e : Ending) (w' : World) : Prop := e = .returned (.bool true) ∧ Mod (fun _ => False) w w'
set_option maxHeartbeats 2000000 in
set_option maxRecDepth 100000 in
theorem psame_any {fp : Nat → Prop} {M mb R N : Nat} {f : Adr → Int} {s : Int} {L : Acc} {w : World} (h : PairAt fp M mb R N f s L w) : Calls Try.prog 24 #[pairV M R] w (PSamePost w) := by
  have HH := Lib.hid h
  obtain ⟨v, hown⟩ := h.ref.own
  have hlt := lt_of_block hown
  have HO := Lib.hid hown
  obtain ⟨hl1, hl2⟩ := h.mem.lt
  have he := eq_acc L
  clear h hown
  go_enter Try.func24, Try.ntmps24
  go_wp2_with fail
  have hb0 := ((Mod.refl (fun _ => False) w).alloc (.cells #[.pointer (some ⟨M, 0, none⟩), .pointer (some ⟨R, 0, none⟩)] 65))
  have hs1 := heap_alloc_at w (.cells #[.pointer (some ⟨M, 0, none⟩), .pointer (some ⟨R, 0, none⟩)] 65)
  generalize w.alloc (.cells #[.pointer (some ⟨M, 0, none⟩), .pointer (some ⟨R, 0, none⟩)] 65) = w1 at hb0 hs1 ⊢
  have HB0 := Lib.hid hb0
  have HS1 := Lib.hid hs1
  have HO1 := Lib.hid (hb0.keep HO.out (fun h => h))
  have HM1 := Lib.hid (HH.out.mem.mod hb0 (fun h => h) (fun h => h))
  clear hb0 hs1
  obtain ⟨k, ⟨a1, a2, a3⟩, x, y, d⟩ := L
  simp only [accVal] at he
  have FACTS : ∀ wa, Mod (fun _ => False) w1 wa → (wa.cell? ⟨w.heap.size, 0, none⟩ = some (.pointer (some ⟨M, 0, none⟩)) ∧ wa.cell? ⟨w.heap.size, 1, none⟩ = some (.pointer (some ⟨R, 0, none⟩)) ∧ wa.cell? ⟨R, 1, none⟩ = some (.int .i64 s) ∧ wa.cell? ⟨R, 2, none⟩ = some (.int .u8 k) ∧ wa.cell? ⟨R, 3, none⟩ = some (.int .u8 a1) ∧ wa.cell? ⟨R, 4, none⟩ = some (.int .i64 a2) ∧ wa.cell? ⟨R, 5, none⟩ = some (.int .i64 a3) ∧ wa.cell? ⟨R, 6, none⟩ = some (.int .u64 x) ∧ wa.cell? ⟨R, 7, none⟩ = some (.int .u64 y) ∧ wa.cell? ⟨R, 8, none⟩ = some (.bool d)) := fun wa hm => by
    have h1 := hm.keep HS1.out (fun h => h)
    have h2 := hm.keep HO1.out (fun h => h)
    exact ⟨cell_of h1 rfl, cell_of h1 rfl, cell_of h2 rfl, cell_of h2 rfl, cell_of h2 rfl, cell_of h2 rfl, cell_of h2 rfl, cell_of h2 rfl, cell_of h2 rfl, cell_of h2 rfl⟩
  have HF := Lib.hid FACTS
  have F1 := FACTS w1 (Mod.refl _ _)
  clear FACTS
  go_region_held3 (fun wa => wa.cell? ⟨w.heap.size, 0, none⟩ = some (.pointer (some ⟨M, 0, none⟩)) ∧ wa.cell? ⟨w.heap.size, 1, none⟩ = some (.pointer (some ⟨R, 0, none⟩)) ∧ wa.cell? ⟨R, 1, none⟩ = some (.int .i64 s) ∧ wa.cell? ⟨R, 2, none⟩ = some (.int .u8 k) ∧ wa.cell? ⟨R, 3, none⟩ = some (.int .u8 a1) ∧ wa.cell? ⟨R, 4, none⟩ = some (.int .i64 a2) ∧ wa.cell? ⟨R, 5, none⟩ = some (.int .i64 a3) ∧ wa.cell? ⟨R, 6, none⟩ = some (.int .u64 x) ∧ wa.cell? ⟨R, 7, none⟩ = some (.int .u64 y) ∧ wa.cell? ⟨R, 8, none⟩ = some (.bool d)) (first | exact F1 | exact F2 | exact F3)
    (first
      | (go_at_call 44; refine (last_agg (HM1.out.mod (Mod.refl (fun _ => False) w1).drew (fun h => h) (fun h => h))).mono ?_; rintro _ w2 ⟨rfl, hb2⟩
         have HB2 : Hid (Mod (fun _ => False) w1 w2) := ((Mod.refl (fun _ => False) w1).drew).trans (Mod.ofBelow hb2 (fun _ => False)) (fun _ _ h => h)
         have F2 := HF.out w2 HB2.out
         clear hb2)
      | (go_at_call 37; refine (steps_any (HM1.out.mod HB2.out (fun h => h) (fun h => h))).mono ?_; rintro _ _ ⟨rfl, rfl⟩))
  go_wp2_with fail
  go_ret
  exact ⟨rfl, HB0.out.trans HB2.out (fun _ _ h => h)⟩

/-- A slice of stores. -/
def Sts (w : World) (v : Value) (l : Ws) : Prop :=
  ∃ a cap, v = .slice a l.length cap ∧ (l = [] ∨ ∃ b off, a = some ⟨b, off, none⟩ ∧ b < w.heap.size ∧ ∀ k (h : k < l.length), w.cell? ⟨b, off + k * 4, none⟩ = some (.int .u8 l[k].1.1) ∧ w.cell? ⟨b, off + k * 4 + 1, none⟩ = some (.int .i64 l[k].1.2.1) ∧ w.cell? ⟨b, off + k * 4 + 2, none⟩ = some (.int .i64 l[k].1.2.2) ∧ w.cell? ⟨b, off + k * 4 + 3, none⟩ = some (.int .u64 l[k].2))
def StsWf (l : Ws) : Prop := ∀ k (h : k < l.length), AdrWf l[k].1 ∧ (Lit.int .u64 l[k].2).wf = true
/-- A pair made since B. -/
structure PairNew (B : Nat) (fp : Nat → Prop) (M mb R N : Nat) (f : Adr → Int) (s : Int) (L : Acc) (w : World) : Prop where
  at' : PairAt fp M mb R N f s L w
  geM : B ≤ M
  gem : B ≤ mb
  gef : ∀ x, fp x → B ≤ x
  s0 : 0 ≤ s
  s1 : s ≤ N
theorem PairNew.stored {B : Nat} {fp fp' : Nat → Prop} {M mb R N : Nat} {f f' : Adr → Int} {s : Int} {L L' : Acc} {w w' : World} (h : PairNew B fp M mb R N f s L w) (hN : N ≤ 99999) (hB : B ≤ w.heap.size) (h' : PairAt fp' M mb R (N + 1) f' (wrap64 (s + 1)) L' w') (ht : Turn (pfoot M mb fp) (pfoot M mb fp') w w') : PairNew B fp' M mb R (N + 1) f' (s + 1) L' w' := by
  have hs0 := h.s0
  have hs1 := h.s1
  have e : wrap64 (s + 1) = s + 1 := by unfold wrap64; omega
  rw [e] at h'
  refine ⟨h', h.geM, h.gem, fun x hx => ?_, by omega, by omega⟩
  rcases ht.new x (.inr hx) with (h1 | h1) | h1
  · rcases h1 with e | e <;> rw [e]
    · exact h.geM
    · exact h.gem
  · exact h.gef x h1
  · omega
theorem PairNew.below {B : Nat} {fp fp' : Nat → Prop} {M mb R N : Nat} {f : Adr → Int} {s : Int} {L : Acc} {w w' : World} (h : PairNew B fp M mb R N f s L w) (hB : B ≤ w.heap.size) (ht : Turn (pfoot M mb fp) (pfoot M mb fp') w w') : Below B w w' :=
  ⟨ht.mod.os, ht.mod.tape, ht.mod.output, ht.mod.size, fun i hi => ht.mod.block i (by omega) (fun hf => by
    rcases hf with (e | e) | e
    · have := h.geM; omega
    · have := h.gem; omega
    · have := h.gef i e; omega)⟩
theorem Mod.belowAt {S : Nat → Prop} {w w' : World} (h : Mod S w w') {B : Nat} (hB : B ≤ w.heap.size) (hs : ∀ i, i < B → ¬ S i) : Below B w w' :=
  ⟨h.os, h.tape, h.output, h.size, fun i hi => h.block i (by omega) (hs i hi)⟩
def BeginPost (w : World) (e : Ending) (w' : World) : Prop :=
  ∃ M mb R fp f s L, e = .returned (pairV M R) ∧ PairNew w.heap.size fp M mb R 300 f s L w' ∧ Below w.heap.size w w'
def BegRel (B n M mb R PB : Nat) (w0 : World) (i : Value) (wr : World) : Prop :=
  ∃ k : Nat, k ≤ n ∧ i = .int .i64 k ∧ wr.heap[PB]? = some (.cells #[.pointer (some ⟨M, 0, none⟩), .pointer (some ⟨R, 0, none⟩)] 65) ∧ wr.heap[B]? = some (.cells #[.pointer none, .pointer none] 65) ∧ (∃ fp f s L, PairNew B fp M mb R k f s L wr ∧ ¬ fp PB ∧ ¬ fp B) ∧ B ≠ M ∧ B ≠ mb ∧ PB ≠ M ∧ PB ≠ mb ∧ Below B w0 wr
theorem PairNew.grow {B : Nat} {fp : Nat → Prop} {M mb R N N' : Nat} {f : Adr → Int} {s : Int} {L : Acc} {w : World} (h : PairNew B fp M mb R N f s L w) (hn : N ≤ N') : PairNew B fp M mb R N' f s L w := by
  obtain ⟨d, rfl⟩ : ∃ d, N' = N + d := ⟨N' - N, by omega⟩
  induction d with
  | zero => exact h
  | succ d ih =>
    have h2 := ih (by omega)
    exact ⟨⟨h2.at'.mem.grow, h2.at'.ref.grow, h2.at'.noM, h2.at'.nom⟩, h2.geM, h2.gem, h2.gef, h2.s0, by have := h2.s1; omega⟩
set_option maxHeartbeats 2000000 in
set_option maxRecDepth 100000 in
theorem begin_any {l : Ws} {v : Value} {w : World} (hl : Sts w v l) (hw : StsWf l) (hn : l.length ≤ 300) : Calls Try.prog 19 #[v] w (BeginPost w) := by
  obtain ⟨a, cap, rfl, hv⟩ := hl
  have HV := Lib.hid hv
  have HW := Lib.hid hw
  clear hv hw
  go_enter Try.func19, Try.ntmps19
  go_wp2_with fail
  have hb0 := (Below.refl w.heap.size w).alloc (Nat.le_refl _) (.cells #[.pointer none, .pointer none] 65)
  have hs0 := heap_alloc_at w (.cells #[.pointer none, .pointer none] 65)
  have hz0 : (w.alloc (.cells #[.pointer none, .pointer none] 65)).heap.size = w.heap.size + 1 := by simp
  generalize w.alloc (.cells #[.pointer none, .pointer none] 65) = wa at hb0 hs0 hz0 ⊢
  have HB0 := Lib.hid hb0
  have HS0 := Lib.hid hs0
  have HZ0 := Lib.hid hz0
  clear hb0 hs0 hz0
  refine (new_any wa).mono ?_
  rintro _ w1 ⟨rfl, hM, hb, hz⟩
  have HM := Lib.hid hM
  have HB := Lib.hid hb
  have HZ := Lib.hid hz
  clear hM hb hz
  go_wp2_with fail
  have hb2 := ((Mod.refl (fun _ => False) w1).alloc (.cells #[.slice none 0 0, .int .i64 0, .int .u8 0, .int .u8 0, .int .i64 0, .int .i64 0, .int .u64 0, .int .u64 0, .bool false] 104)).alloc (.cells #[.pointer (some ⟨wa.heap.size + 1, 0, none⟩), .pointer (some ⟨w1.heap.size, 0, none⟩)] 65)
  obtain ⟨hr2, hp2, hz2⟩ := heap_alloc2 w1 (.cells #[.slice none 0 0, .int .i64 0, .int .u8 0, .int .u8 0, .int .i64 0, .int .i64 0, .int .u64 0, .int .u64 0, .bool false] 104) (.cells #[.pointer (some ⟨wa.heap.size + 1, 0, none⟩), .pointer (some ⟨w1.heap.size, 0, none⟩)] 65)
  generalize (w1.alloc (.cells #[.slice none 0 0, .int .i64 0, .int .u8 0, .int .u8 0, .int .i64 0, .int .i64 0, .int .u64 0, .int .u64 0, .bool false] 104)).alloc (.cells #[.pointer (some ⟨wa.heap.size + 1, 0, none⟩), .pointer (some ⟨w1.heap.size, 0, none⟩)] 65) = w2 at hb2 hr2 hp2 hz2 ⊢
  have hpn : Hid (PairNew w.heap.size (fun x => x = w1.heap.size) (wa.heap.size + 1) wa.heap.size w1.heap.size 0 (fun _ => 0) 0 acc0 w2) := by
    have h1 := HB.out.size
    have h2 := HZ.out
    have h3 := HZ0.out
    refine ⟨⟨HM.out.mod hb2 (fun h => h) (fun h => h), ⟨.slice none 0 0, [], ⟨hr2, ⟨rfl, .inl ⟨rfl, rfl⟩⟩, rfl, (fun g hg => by cases hg), fun x hx => ?_⟩, Nat.le_refl _, fun _ => rfl⟩, ?_, ?_⟩, by omega, by omega, fun x hx => ?_, Int.le_refl _, Int.le_refl _⟩
    · rw [hx, hz2]; omega
    · intro h
      rw [h2] at h
      omega
    · intro h
      rw [h2] at h
      omega
    · rw [hx, h2]
      omega
  have HB2 := Lib.hid hb2
  have HP2 := Lib.hid hp2
  have HZ2 := Lib.hid hz2
  clear hb2 hr2 hp2 hz2
  go_loopw [4] (fun i wr => BegRel w.heap.size l.length (wa.heap.size + 1) wa.heap.size w1.heap.size (w1.heap.size + 1) w i wr) (fun i _ => l.length - (intOf i).toNat)
  case atStart =>
    have h1 := HB.out.size
    have h2 := HZ.out
    have h3 := HZ0.out
    exact ⟨0, Nat.zero_le _, rfl, HP2.out, HB2.out.keep ((Mod.ofBelow HB.out (fun _ => False)).keep HS0.out (fun h => h)) (fun h => h), ⟨_, _, _, _, hpn.out, fun h => by omega, fun h => by omega⟩, by omega, by omega, by omega, by omega, (HB0.out.trans (HB.out.mono (by omega))).trans ((HB2.out.below (fun _ _ h => h)).mono (by omega))⟩
  case round =>
    obtain ⟨k, hk, rfl, hpb, hrb, ⟨fp, f, s, L, hpk, hnpb, hnrb⟩, hr1, hr2, hn1, hn2, hbl⟩ := hrel
    have HRB := Lib.hid hrb
    have HNR := Lib.hid hnrb
    have HPB := Lib.hid hpb
    have HPK := Lib.hid hpk
    have HNP := Lib.hid hnpb
    have HBL := Lib.hid hbl
    clear hpb hpk hnpb hbl hrb hnrb
    by_cases hkl : k < l.length
    · obtain ⟨b, off, rfl, hbs, D0⟩ := HV.out.resolve_left (fun h => by rw [h] at hkl; simp at hkl)
      obtain ⟨x0, x1, x2, x3⟩ := D0 k hkl
      obtain ⟨ha, hv⟩ := HW.out k hkl
      obtain ⟨⟨⟨ka, aa, fa⟩, nv⟩, he⟩ : ∃ e, l[k] = e := ⟨_, rfl⟩
      rw [he] at x0 x1 x2 x3 ha hv
      simp only at x0 x1 x2 x3 ha hv
      have y0 := ((bcell HBL.out).1 b (off + k * 4) hbs).trans x0
      have y1 := ((bcell HBL.out).1 b (off + k * 4 + 1) hbs).trans x1
      have y2 := ((bcell HBL.out).1 b (off + k * 4 + 2) hbs).trans x2
      have y3 := ((bcell HBL.out).1 b (off + k * 4 + 3) hbs).trans x3
      have p0 := cell_of (i := 0) HPB.out rfl
      have p1 := cell_of (i := 1) HPB.out rfl
      have HA := Lib.hid ha
      have HVW := Lib.hid hv
      have hk300 : decide ((k : Int) < 300) = true := decide_eq_true (by omega)
      clear D0 x0 x1 x2 x3 he ha hv
      go_wp2_with fail
      go_still_tail 5, (by kernel_rfl)
      change wpList _ _ _ _ _ wr.drew
      have HD : Hid (Mod (fun _ => False) wr wr.drew) := (Mod.refl _ _).drew
      clear y0 y1 y2 y3 p0 p1
      generalize wr.drew = wd at HD ⊢
      have HPD : Hid (PairNew w.heap.size fp (wa.heap.size + 1) wa.heap.size w1.heap.size k f s L wd) := ⟨HPK.out.at'.keep HD.out (fun h => h) (fun h => h) (fun _ _ h => h), HPK.out.geM, HPK.out.gem, HPK.out.gef, HPK.out.s0, HPK.out.s1⟩
      go_wp2_with fail
      refine (pstore_any HPD.out.at' (by omega) (a := (ka, aa, fa)) HA.out HVW.out).mono ?_
      rintro _ w5 ⟨rfl, fp', hp5, ht5⟩
      have hsz : w.heap.size ≤ wd.heap.size := Nat.le_trans HBL.out.size HD.out.size
      have HP5 := Lib.hid (HPD.out.stored (by omega) hsz hp5 ht5)
      have HB5 := Lib.hid (HPD.out.below hsz ht5)
      have hpbd := HD.out.keep HPB.out (fun h => h)
      have hnf : ¬ pfoot (wa.heap.size + 1) wa.heap.size fp (w1.heap.size + 1) := fun h => by
        rcases h with (h | h) | h
        · exact hn1 h
        · exact hn2 h
        · exact HNP.out h
      have HPB5 := Lib.hid (ht5.mod.keep hpbd hnf)
      have HNP5 : Hid (¬ fp' (w1.heap.size + 1)) := fun h => by
        rcases ht5.new _ (.inr h) with h1 | h1
        · exact hnf h1
        · have := lt_of_block hpbd
          omega
      have hrbd := HD.out.keep HRB.out (fun h => h)
      have hnf2 : ¬ pfoot (wa.heap.size + 1) wa.heap.size fp w.heap.size := fun h => by
        rcases h with (h | h) | h
        · exact hr1 h
        · exact hr2 h
        · exact HNR.out h
      have HRB5 := Lib.hid (ht5.mod.keep hrbd hnf2)
      have HNR5 : Hid (¬ fp' w.heap.size) := fun h => by
        rcases ht5.new _ (.inr h) with h1 | h1
        · exact hnf2 h1
        · have := lt_of_block hrbd
          omega
      clear hp5 ht5 hpbd hnf hsz hrbd hnf2
      go_wp2_with fail
      go_roundw
      case rel => exact ⟨k + 1, by omega, by go_num, HPB5.out, HRB5.out, ⟨_, _, _, _, HP5.out, HNP5.out, HNR5.out⟩, hr1, hr2, hn1, hn2, (HBL.out.trans ((HD.out.below (fun _ _ h => h)).mono HBL.out.size)).trans HB5.out⟩
      case measure => simp [intOf]; omega
    · have p0 := cell_of (i := 0) HPB.out rfl
      have p1 := cell_of (i := 1) HPB.out rfl
      have r0 : wr.cell? ⟨w.heap.size, 0, none⟩ = some (.pointer none) := cell_of HRB.out rfl
      have r1 : wr.cell? ⟨w.heap.size, 1, none⟩ = some (.pointer none) := cell_of HRB.out rfl
      have s0 := free_of (i := 0) HRB.out
      have s1 := free_of (i := 1) HRB.out
      go_wp2_with fail
      have hs := ((Mod.refl (fun x => x = w.heap.size) wr).setCell (p := ⟨w.heap.size, 0, none⟩) (fun _ => rfl) (.pointer (some ⟨wa.heap.size + 1, 0, none⟩))).setCell (p := ⟨w.heap.size, 1, none⟩) (fun _ => rfl) (.pointer (some ⟨w1.heap.size, 0, none⟩))
      have hp := HPK.out.grow (N' := 300) (by omega)
      refine bodyPost_ret (v := pairV (wa.heap.size + 1) w1.heap.size) (by simp [results, Try.results19, go_sem, r0, r1]) rfl ⟨_, _, _, fp, f, s, L, rfl, ⟨hp.at'.keep hs (fun h => hr1 h.symm) (fun h => hr2 h.symm) (fun x hx h => HNR.out (h ▸ hx)), hp.geM, hp.gem, hp.gef, hp.s0, hp.s1⟩, HBL.out.trans (hs.belowAt HBL.out.size (fun i hi h => by omega))⟩
end Go.Proofs.Ytjnbkpklcmkdlaa
