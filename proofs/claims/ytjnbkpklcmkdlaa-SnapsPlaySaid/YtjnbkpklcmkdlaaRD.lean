/- The document's memory: a store, a load. -/
import Derived.Test.YtjnbkpklcmkdlaaRC
namespace Go.Proofs.Ytjnbkpklcmkdlaa
open Go.RowKit

def RefAt (fp : Nat → Prop) (R N : Nat) (f : Adr → Int) (s : Int) (L : Acc) (w : World) : Prop :=
  ∃ v ws, RefIs fp R v ws s L w ∧ ws.length ≤ N ∧ ∀ a, look ws a = f a
theorem RefAt.keep {fp S : Nat → Prop} {R N : Nat} {f : Adr → Int} {s : Int} {L : Acc} {w w' : World} (h : RefAt fp R N f s L w) (hm : Mod S w w') (hd : ∀ x, fp x → ¬ S x) : RefAt fp R N f s L w' := by
  obtain ⟨v, ws, h, r⟩ := h
  exact ⟨v, ws, h.keep hm hd, r⟩
theorem RefIs.setOwn {fp : Nat → Prop} {R : Nat} {v : Value} {ws : Ws} {s s' : Int} {L L' : Acc} {w w' : World} (h : RefIs fp R v ws s L w) (hm : Mod (fun x => x = R) w w') (ho : w'.heap[R]? = some (.cells (refCells v s' L') 104)) : RefIs fp R v ws s' L' w' :=
  ⟨ho, hm.ownsRow h.row (fun k hk => (h.fpv k hk).2), h.fpR, h.fpv, fun x hx => Nat.lt_of_lt_of_le (h.lt x hx) hm.size⟩
theorem wput_len (ws : Ws) (a : Adr) (v : Int) : (wput ws a v).length ≤ ws.length + 1 := by
  induction ws with
  | nil => simp [wput]
  | cons e r ih =>
    simp only [wput]
    split
    · simp
    · simp only [List.length_cons]; omega
/-- The last step noted in a document's memory. -/
def noteW (w : World) (R : Nat) (L : Acc) : World :=
  ((((((w.setCell ⟨R, 2, none⟩ (.int .u8 L.kind)).setCell ⟨R, 3, none⟩ (.int .u8 L.addr.1)).setCell ⟨R, 4, none⟩ (.int .i64 L.addr.2.1)).setCell ⟨R, 5, none⟩ (.int .i64 L.addr.2.2)).setCell ⟨R, 6, none⟩ (.int .u64 L.was)).setCell ⟨R, 7, none⟩ (.int .u64 L.now)).setCell ⟨R, 8, none⟩ (.bool L.done)
theorem noteW_mod (w : World) (R : Nat) (L : Acc) : Mod (fun x => x = R) w (noteW w R L) :=
  (((((((Mod.refl (fun x => x = R) w).setCell (p := ⟨R, 2, none⟩) (fun _ => rfl) _).setCell (p := ⟨R, 3, none⟩) (fun _ => rfl) _).setCell (p := ⟨R, 4, none⟩) (fun _ => rfl) _).setCell (p := ⟨R, 5, none⟩) (fun _ => rfl) _).setCell (p := ⟨R, 6, none⟩) (fun _ => rfl) _).setCell (p := ⟨R, 7, none⟩) (fun _ => rfl) _).setCell (p := ⟨R, 8, none⟩) (fun _ => rfl) _
theorem noteW_at {w : World} {R : Nat} {v : Value} {s : Int} {L L' : Acc} (h : w.heap[R]? = some (.cells (refCells v s L) 104)) : (noteW w R L').heap[R]? = some (.cells (refCells v s L') 104) := by
  have e0 : w.heap[R]? = some (.cells #[v, .int .i64 s, .int .u8 L.kind, .int .u8 L.addr.1, .int .i64 L.addr.2.1, .int .i64 L.addr.2.2, .int .u64 L.was, .int .u64 L.now, .bool L.done] 104) := h
  have e1 : (w.setCell ⟨R, 2, none⟩ (.int .u8 L'.kind)).heap[R]? = some (.cells #[v, .int .i64 s, .int .u8 L'.kind, .int .u8 L.addr.1, .int .i64 L.addr.2.1, .int .i64 L.addr.2.2, .int .u64 L.was, .int .u64 L.now, .bool L.done] 104) := heap_setCell_same (i := 2) e0 _
  have e2 : ((w.setCell ⟨R, 2, none⟩ (.int .u8 L'.kind)).setCell ⟨R, 3, none⟩ (.int .u8 L'.addr.1)).heap[R]? = some (.cells #[v, .int .i64 s, .int .u8 L'.kind, .int .u8 L'.addr.1, .int .i64 L.addr.2.1, .int .i64 L.addr.2.2, .int .u64 L.was, .int .u64 L.now, .bool L.done] 104) := heap_setCell_same (i := 3) e1 _
  have e3 : (((w.setCell ⟨R, 2, none⟩ (.int .u8 L'.kind)).setCell ⟨R, 3, none⟩ (.int .u8 L'.addr.1)).setCell ⟨R, 4, none⟩ (.int .i64 L'.addr.2.1)).heap[R]? = some (.cells #[v, .int .i64 s, .int .u8 L'.kind, .int .u8 L'.addr.1, .int .i64 L'.addr.2.1, .int .i64 L.addr.2.2, .int .u64 L.was, .int .u64 L.now, .bool L.done] 104) := heap_setCell_same (i := 4) e2 _
  have e4 : ((((w.setCell ⟨R, 2, none⟩ (.int .u8 L'.kind)).setCell ⟨R, 3, none⟩ (.int .u8 L'.addr.1)).setCell ⟨R, 4, none⟩ (.int .i64 L'.addr.2.1)).setCell ⟨R, 5, none⟩ (.int .i64 L'.addr.2.2)).heap[R]? = some (.cells #[v, .int .i64 s, .int .u8 L'.kind, .int .u8 L'.addr.1, .int .i64 L'.addr.2.1, .int .i64 L'.addr.2.2, .int .u64 L.was, .int .u64 L.now, .bool L.done] 104) := heap_setCell_same (i := 5) e3 _
  have e5 : (((((w.setCell ⟨R, 2, none⟩ (.int .u8 L'.kind)).setCell ⟨R, 3, none⟩ (.int .u8 L'.addr.1)).setCell ⟨R, 4, none⟩ (.int .i64 L'.addr.2.1)).setCell ⟨R, 5, none⟩ (.int .i64 L'.addr.2.2)).setCell ⟨R, 6, none⟩ (.int .u64 L'.was)).heap[R]? = some (.cells #[v, .int .i64 s, .int .u8 L'.kind, .int .u8 L'.addr.1, .int .i64 L'.addr.2.1, .int .i64 L'.addr.2.2, .int .u64 L'.was, .int .u64 L.now, .bool L.done] 104) := heap_setCell_same (i := 6) e4 _
  have e6 : ((((((w.setCell ⟨R, 2, none⟩ (.int .u8 L'.kind)).setCell ⟨R, 3, none⟩ (.int .u8 L'.addr.1)).setCell ⟨R, 4, none⟩ (.int .i64 L'.addr.2.1)).setCell ⟨R, 5, none⟩ (.int .i64 L'.addr.2.2)).setCell ⟨R, 6, none⟩ (.int .u64 L'.was)).setCell ⟨R, 7, none⟩ (.int .u64 L'.now)).heap[R]? = some (.cells #[v, .int .i64 s, .int .u8 L'.kind, .int .u8 L'.addr.1, .int .i64 L'.addr.2.1, .int .i64 L'.addr.2.2, .int .u64 L'.was, .int .u64 L'.now, .bool L.done] 104) := heap_setCell_same (i := 7) e5 _
  have e7 : (((((((w.setCell ⟨R, 2, none⟩ (.int .u8 L'.kind)).setCell ⟨R, 3, none⟩ (.int .u8 L'.addr.1)).setCell ⟨R, 4, none⟩ (.int .i64 L'.addr.2.1)).setCell ⟨R, 5, none⟩ (.int .i64 L'.addr.2.2)).setCell ⟨R, 6, none⟩ (.int .u64 L'.was)).setCell ⟨R, 7, none⟩ (.int .u64 L'.now)).setCell ⟨R, 8, none⟩ (.bool L'.done)).heap[R]? = some (.cells #[v, .int .i64 s, .int .u8 L'.kind, .int .u8 L'.addr.1, .int .i64 L'.addr.2.1, .int .i64 L'.addr.2.2, .int .u64 L'.was, .int .u64 L'.now, .bool L'.done] 104) := heap_setCell_same (i := 8) e6 _
  exact e7
def RLoadPost (fp : Nat → Prop) (R N : Nat) (f : Adr → Int) (s : Int) (a : Adr) (w : World) (e : Ending) (w' : World) : Prop :=
  e = .returned (.int .u64 (f a)) ∧ RefAt fp R N f (wrap64 (s + 1)) (ldAcc a (f a)) w' ∧ Mod (fun x => x = R) w w'
set_option maxHeartbeats 2000000 in
theorem rload_any {fp : Nat → Prop} {R N : Nat} {f : Adr → Int} {s : Int} {L : Acc} {w : World} (h : RefAt fp R N f s L w) (hN : N ≤ 99999) (a : Adr) :
    Calls Try.prog 43 #[.pointer (some ⟨R, 0, none⟩), adrVal a] w (RLoadPost fp R N f s a w) := by
  obtain ⟨v, ws, h, hlen, hl⟩ := h
  have hn : ws.length ≤ 100000 := by omega
  obtain ⟨x, hx⟩ : ∃ x, f a = x := ⟨_, rfl⟩
  have hx2 : look ws a = x := by rw [hl, hx]
  unfold RLoadPost
  rw [hx]
  have HX2 := Lib.hid hx2
  have HL := Lib.hid hl
  have HH := Lib.hid h
  have hlt := lt_of_block h.own
  obtain ⟨ka, aa, fa⟩ := a
  simp only [adrVal]
  clear h hl hx hx2
  go_enter Try.func43, Try.ntmps43
  go_wp2_with fail
  have hb0 := (Mod.refl (fun _ => False) w).alloc (.cells #[.int .u8 ka, .int .i64 aa, .int .i64 fa] 30)
  have hs0 := heap_alloc_at w (.cells #[.int .u8 ka, .int .i64 aa, .int .i64 fa] 30)
  generalize w.alloc (.cells #[.int .u8 ka, .int .i64 aa, .int .i64 fa] 30) = w1 at hb0 hs0 ⊢
  have HB0 := Lib.hid hb0
  have HS0 := Lib.hid hs0
  have HR1 := Lib.hid (HH.out.keep hb0 (fun _ _ h => h))
  clear hb0 hs0
  refine (rword_any HR1.out hn (ka, aa, fa)).mono ?_
  rintro _ w2 ⟨rfl, hb2⟩
  rw [HX2.out]
  have HB2 := Lib.hid (Mod.ofBelow hb2 (fun _ => False))
  have hR2 := HR1.out.keep HB2.out (fun _ _ h => h)
  have HR2 := Lib.hid hR2
  have HS2 := Lib.hid (HB2.out.keep HS0.out (fun h => h))
  have c1 : w2.cell? ⟨R, 1, none⟩ = some (.int .i64 s) := cell_of hR2.own rfl
  have c2 : w2.cell? ⟨R, 2, none⟩ = some (.int .u8 L.kind) := cell_of hR2.own rfl
  have c3 : w2.cell? ⟨R, 3, none⟩ = some (.int .u8 L.addr.1) := cell_of hR2.own rfl
  have c4 : w2.cell? ⟨R, 4, none⟩ = some (.int .i64 L.addr.2.1) := cell_of hR2.own rfl
  have c5 : w2.cell? ⟨R, 5, none⟩ = some (.int .i64 L.addr.2.2) := cell_of hR2.own rfl
  have c6 : w2.cell? ⟨R, 6, none⟩ = some (.int .u64 L.was) := cell_of hR2.own rfl
  have c7 : w2.cell? ⟨R, 7, none⟩ = some (.int .u64 L.now) := cell_of hR2.own rfl
  have c8 : w2.cell? ⟨R, 8, none⟩ = some (.bool L.done) := cell_of hR2.own rfl
  have g1 := free_of (i := 1) hR2.own
  have g2 := free_of (i := 2) hR2.own
  have g3 := free_of (i := 3) hR2.own
  have g4 := free_of (i := 4) hR2.own
  have g5 := free_of (i := 5) hR2.own
  have g6 := free_of (i := 6) hR2.own
  have g7 := free_of (i := 7) hR2.own
  have g8 := free_of (i := 8) hR2.own
  have b0 : w2.cell? ⟨w.heap.size, 0, none⟩ = some (.int .u8 ka) := cell_of HS2.out rfl
  have b1 : w2.cell? ⟨w.heap.size, 1, none⟩ = some (.int .i64 aa) := cell_of HS2.out rfl
  have b2 : w2.cell? ⟨w.heap.size, 2, none⟩ = some (.int .i64 fa) := cell_of HS2.out rfl
  have hRB : R ≠ w.heap.size := by omega
  have hRB' : w.heap.size ≠ R := by omega
  clear hb2 hR2
  go_wp2_with fail
  go_ret
  have hst := heap_setCell_same (i := 1) HR2.out.own (.int .i64 (wrap64 (s + 1)))
  have hms := ((Mod.refl (fun x => x = R) w2).setCell (p := ⟨R, 1, none⟩) (fun _ => rfl) (.int .i64 (wrap64 (s + 1))))
  have hst2 := noteW_at (L' := ldAcc (ka, aa, fa) x) hst
  have hms2 := hms.trans (noteW_mod _ R (ldAcc (ka, aa, fa) x)) (fun _ _ h => h)
  exact ⟨rfl, ⟨v, ws, HR2.out.setOwn hms2 hst2, hlen, HL.out⟩, (((HB0.out.trans HB2.out (fun _ _ h => h)).weaken (fun _ _ h => h.elim)).trans hms2 (fun _ _ h => h))⟩

def RStorePost (fp : Nat → Prop) (R N : Nat) (f : Adr → Int) (s : Int) (a : Adr) (nv : Int) (w : World) (e : Ending) (w' : World) : Prop :=
  e = .returned (.tuple #[]) ∧ ∃ fp', RefAt fp' R (N + 1) (wordsOf f a nv true) (wrap64 (s + 1)) (accOf f 2 a nv true) w' ∧ Turn fp fp' w w'
set_option maxHeartbeats 2000000 in
theorem rstore_any {fp : Nat → Prop} {R N : Nat} {f : Adr → Int} {s : Int} {L : Acc} {w : World} (h : RefAt fp R N f s L w) (hN : N ≤ 99999) {a : Adr} (ha : AdrWf a) (nv : Int) :
    Calls Try.prog 42 #[.pointer (some ⟨R, 0, none⟩), adrVal a, .int .u64 nv] w (RStorePost fp R N f s a nv w) := by
  obtain ⟨v, ws, h, hlen, hl⟩ := h
  obtain ⟨x, hx⟩ : ∃ x, f a = x := ⟨_, rfl⟩
  obtain ⟨y, hy⟩ : ∃ y, wordsOf f a nv true a = y := ⟨_, rfl⟩
  obtain ⟨ws', hws'⟩ : ∃ ws', ws' = (if mayB a then wput ws a nv else ws) := ⟨_, rfl⟩
  have hx2 : look ws a = x := by rw [hl, hx]
  have hl' : ∀ b, look ws' b = wordsOf f a nv true b := fun b => by
    rw [hws']
    cases hm : mayB a
    · simp [wordsOf, acts, hm, hl]
    · simp [wordsOf, acts, hm, look_wput, upd, hl]
  have hy2 : look ws' a = y := by rw [hl', hy]
  have hacc : accOf f 2 a nv true = ⟨2, a, x, y, false⟩ := by
    rw [← hx, ← hy]
    cases hm : mayB a
    · simp [accOf, wordsOf, acts, hm]
    · simp [accOf, wordsOf, acts, hm, upd]
  have hlen' : ws'.length ≤ N + 1 := by
    rw [hws']
    split
    · have := wput_len ws a nv
      omega
    · omega
  have hput : ∀ {fp : Nat → Prop} {v : Value} {w : World}, RefIs fp R v ws s L w → Calls Try.prog 59 #[.pointer (some ⟨R, 0, none⟩), adrVal a, .int .u64 nv] w (RPutPost R ws' s L fp w) := by
    intro fp v w h
    rw [hws']
    cases hm : mayB a
    · exact rput_no h ha hm nv
    · exact rput_yes h (by omega) ha hm nv
  unfold RStorePost
  rw [hacc]
  have HPut : Hid (∀ (fp : Nat → Prop) (v : Value) (w : World), RefIs fp R v ws s L w → Calls Try.prog 59 #[.pointer (some ⟨R, 0, none⟩), adrVal a, .int .u64 nv] w (RPutPost R ws' s L fp w)) := fun fp v w h => hput h
  have HX2 := Lib.hid hx2
  have HY2 := Lib.hid hy2
  have HL := Lib.hid hl'
  have HLen := Lib.hid hlen'
  have HH := Lib.hid h
  have hlt := lt_of_block h.own
  have hn : ws.length ≤ 100000 := by omega
  have hn' : ws'.length ≤ 100000 := by omega
  obtain ⟨ka, aa, fa⟩ := a
  simp only [adrVal] at HPut ⊢
  clear h hl hx hy hx2 hy2 hacc hlen' hl' hput hws'
  go_enter Try.func42, Try.ntmps42
  go_wp2_with fail
  have hb0 := (Mod.refl (fun _ => False) w).alloc (.cells #[.int .u8 ka, .int .i64 aa, .int .i64 fa] 30)
  have hs0 := heap_alloc_at w (.cells #[.int .u8 ka, .int .i64 aa, .int .i64 fa] 30)
  generalize w.alloc (.cells #[.int .u8 ka, .int .i64 aa, .int .i64 fa] 30) = w1 at hb0 hs0 ⊢
  have HB0 := Lib.hid hb0
  have HS0 := Lib.hid hs0
  have HR1 := Lib.hid (HH.out.keep hb0 (fun _ _ h => h))
  clear hb0 hs0
  refine (rword_any HR1.out hn (ka, aa, fa)).mono ?_
  rintro _ w2 ⟨rfl, hb2⟩
  rw [HX2.out]
  have HB2 := Lib.hid (Mod.ofBelow hb2 (fun _ => False))
  have HR2 := Lib.hid (HR1.out.keep HB2.out (fun _ _ h => h))
  have HS2 := Lib.hid (HB2.out.keep HS0.out (fun h => h))
  have b0 : w2.cell? ⟨w.heap.size, 0, none⟩ = some (.int .u8 ka) := cell_of HS2.out rfl
  have b1 : w2.cell? ⟨w.heap.size, 1, none⟩ = some (.int .i64 aa) := cell_of HS2.out rfl
  have b2 : w2.cell? ⟨w.heap.size, 2, none⟩ = some (.int .i64 fa) := cell_of HS2.out rfl
  clear hb2
  go_wp2_with fail
  refine (HPut.out fp v _ HR2.out).mono ?_
  rintro _ w3 ⟨rfl, fp', v', hR3, hT3⟩
  have HR3 := Lib.hid hR3
  have HT3 := Lib.hid hT3
  have hnb : ¬ fp w.heap.size := fun h => by have := HH.out.lt _ h; omega
  have HS3 := Lib.hid (hT3.mod.keep HS2.out hnb)
  have hRB : R ≠ w.heap.size := by omega
  have hRB' : w.heap.size ≠ R := by omega
  clear hR3 hT3 b0 b1 b2 hnb
  have c1 : w3.cell? ⟨R, 1, none⟩ = some (.int .i64 s) := cell_of HR3.out.own rfl
  have g1 := free_of (i := 1) HR3.out.own
  go_wp2_with fail
  have hst := heap_setCell_same (i := 1) HR3.out.own (.int .i64 (wrap64 (s + 1)))
  have hms := ((Mod.refl (fun x => x = R) w3).setCell (p := ⟨R, 1, none⟩) (fun _ => rfl) (.int .i64 (wrap64 (s + 1))))
  generalize w3.setCell ⟨R, 1, none⟩ (.int .i64 (wrap64 (s + 1))) = w4 at hst hms ⊢
  have HR4 : Hid (RefIs fp' R v' ws' (wrap64 (s + 1)) L w4) := HR3.out.setOwn hms hst
  have HM4 := Lib.hid hms
  have HS4 := Lib.hid (hms.keep HS3.out (fun h => hRB' h))
  clear c1 g1 hst hms
  have b0 : w4.cell? ⟨w.heap.size, 0, none⟩ = some (.int .u8 ka) := cell_of HS4.out rfl
  have b1 : w4.cell? ⟨w.heap.size, 1, none⟩ = some (.int .i64 aa) := cell_of HS4.out rfl
  have b2 : w4.cell? ⟨w.heap.size, 2, none⟩ = some (.int .i64 fa) := cell_of HS4.out rfl
  go_region_held3 (fun w' => w'.cell? ⟨w.heap.size, 0, none⟩ = some (.int .u8 ka) ∧ w'.cell? ⟨w.heap.size, 1, none⟩ = some (.int .i64 aa) ∧ w'.cell? ⟨w.heap.size, 2, none⟩ = some (.int .i64 fa)) (first | (with_reducible exact ⟨b0, b1, b2⟩) | (with_reducible exact ⟨d0, d1, d2⟩) | exact ⟨N5.out.1, N5.out.2.1, N5.out.2.2⟩ | (refine ⟨?_, ?_, ?_⟩ <;> simp [b0, b1, b2]))
    (first
      | (go_at_call 58; refine (rword_any (HR4.out.keep (Mod.refl (fun _ => False) w4).drew (fun _ _ h => h)) hn' (ka, aa, fa)).mono ?_; rintro _ w5 ⟨rfl, hb5⟩
         rw [HY2.out]
         have HB5 : Hid (Mod (fun _ => False) w4 w5) := ((Mod.refl (fun _ => False) w4).drew).trans (Mod.ofBelow hb5 (fun _ => False)) (fun _ _ h => h)
         have HR5 := Lib.hid (HR4.out.keep HB5.out (fun _ _ h => h))
         have HS5 := Lib.hid (HB5.out.keep HS4.out (fun h => h))
         have d0 : w5.cell? ⟨w.heap.size, 0, none⟩ = some (.int .u8 ka) := cell_of HS5.out rfl
         have d1 : w5.cell? ⟨w.heap.size, 1, none⟩ = some (.int .i64 aa) := cell_of HS5.out rfl
         have d2 : w5.cell? ⟨w.heap.size, 2, none⟩ = some (.int .i64 fa) := cell_of HS5.out rfl
         have c2 : w5.cell? ⟨R, 2, none⟩ = some (.int .u8 L.kind) := cell_of HR5.out.own rfl
         have c3 : w5.cell? ⟨R, 3, none⟩ = some (.int .u8 L.addr.1) := cell_of HR5.out.own rfl
         have c4 : w5.cell? ⟨R, 4, none⟩ = some (.int .i64 L.addr.2.1) := cell_of HR5.out.own rfl
         have c5 : w5.cell? ⟨R, 5, none⟩ = some (.int .i64 L.addr.2.2) := cell_of HR5.out.own rfl
         have c6 : w5.cell? ⟨R, 6, none⟩ = some (.int .u64 L.was) := cell_of HR5.out.own rfl
         have c7 : w5.cell? ⟨R, 7, none⟩ = some (.int .u64 L.now) := cell_of HR5.out.own rfl
         have c8 : w5.cell? ⟨R, 8, none⟩ = some (.bool L.done) := cell_of HR5.out.own rfl
         have g2 := free_of (i := 2) HR5.out.own
         have g3 := free_of (i := 3) HR5.out.own
         have g4 := free_of (i := 4) HR5.out.own
         have g5 := free_of (i := 5) HR5.out.own
         have g6 := free_of (i := 6) HR5.out.own
         have g7 := free_of (i := 7) HR5.out.own
         have g8 := free_of (i := 8) HR5.out.own
         have N5 : Hid ((noteW w5 R ⟨2, (ka, aa, fa), x, y, false⟩).cell? ⟨w.heap.size, 0, none⟩ = some (.int .u8 ka) ∧ (noteW w5 R ⟨2, (ka, aa, fa), x, y, false⟩).cell? ⟨w.heap.size, 1, none⟩ = some (.int .i64 aa) ∧ (noteW w5 R ⟨2, (ka, aa, fa), x, y, false⟩).cell? ⟨w.heap.size, 2, none⟩ = some (.int .i64 fa)) :=
           ⟨(cell_mod (noteW_mod _ _ _) (lt_of_block HS5.out) hRB').trans d0, (cell_mod (noteW_mod _ _ _) (lt_of_block HS5.out) hRB').trans d1, (cell_mod (noteW_mod _ _ _) (lt_of_block HS5.out) hRB').trans d2⟩
         clear hb5))
  go_wp2_with fail
  go_end0
  have hst := noteW_at (L' := ⟨2, (ka, aa, fa), x, y, false⟩) HR5.out.own
  have hms := noteW_mod w5 R ⟨2, (ka, aa, fa), x, y, false⟩
  have hfR : fp R := HH.out.fpR
  have h1 : Turn fp fp' w w5 := ((HT3.out.pre (HB0.out.trans HB2.out (fun _ _ h => h))).trans ⟨HM4.out.weaken (fun x _ h => by rw [h]; exact HR3.out.fpR), fun _ h => .inl h⟩).on HB5.out
  exact ⟨rfl, fp', ⟨v', ws', HR5.out.setOwn hms hst, HLen.out, HL.out⟩, h1.trans ⟨hms.weaken (fun x _ h => by rw [h]; exact HR3.out.fpR), fun _ h => .inl h⟩⟩
end Go.Proofs.Ytjnbkpklcmkdlaa
