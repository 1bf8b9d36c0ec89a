/- The document's taker: made; its first step. -/
import Derived.Test.YtjnbkpklcmkdlaaRE
import Derived.Test.YtjnbkpklcmkdlaaSH
namespace Go.Proofs.Ytjnbkpklcmkdlaa
open Go.RowKit

def rtCells (line : Int) (v : Value) (b fld : Int) : Array Value := #[.int .i64 line, v, .int .u64 0, .int .i64 b, .int .i64 fld]
/-- The document's taker at U: its line, n rows that read as R. -/
structure RTk (fp : Nat → Prop) (U : Nat) (v : Value) (line : Int) (n : Nat) (R : Nat → Nat → Int) (b fld : Int) (w : World) : Prop where
  own : w.heap[U]? = some (.cells (rtCells line v b fld) 70)
  row : w.ownsRow 0 52 10 v n (flatR n R)
  fpU : fp U
  fpv : ∀ g, v.ownBlock = some g → fp g ∧ g ≠ U
  lt : ∀ x, fp x → x < w.heap.size
theorem RTk.keep {fp S : Nat → Prop} {U : Nat} {v : Value} {line : Int} {n : Nat} {R : Nat → Nat → Int} {b fld : Int} {w w' : World} (h : RTk fp U v line n R b fld w) (hm : Mod S w w') (hd : ∀ x, fp x → ¬ S x) : RTk fp U v line n R b fld w' :=
  ⟨hm.keep h.own (hd _ h.fpU), hm.ownsRow h.row (fun k hk => hd _ (h.fpv k hk).1), h.fpU, h.fpv, fun x hx => Nat.lt_of_lt_of_le (h.lt x hx) hm.size⟩
theorem RTk.setOwn {fp : Nat → Prop} {U : Nat} {v : Value} {line line' : Int} {n : Nat} {R : Nat → Nat → Int} {b b' fld fld' : Int} {w w' : World} (h : RTk fp U v line n R b fld w) (hm : Mod (fun x => x = U) w w') (ho : w'.heap[U]? = some (.cells (rtCells line' v b' fld') 70)) : RTk fp U v line' n R b' fld' w' :=
  ⟨ho, hm.ownsRow h.row (fun k hk => (h.fpv k hk).2), h.fpU, h.fpv, fun x hx => Nat.lt_of_lt_of_le (h.lt x hx) hm.size⟩
theorem RTk.cell {fp : Nat → Prop} {U : Nat} {g n0 cap : Nat} {line : Int} {n : Nat} {R : Nat → Nat → Int} {b fld : Int} {w : World} (h : RTk fp U (.slice (some ⟨g, 0, none⟩) n0 cap) line n R b fld w) {i j : Nat} (hi : i < n) (hj : j < 10) :
    w.cell? ⟨g, i * 10 + j, none⟩ = some (.int .u64 (R i j)) ∧ w.frozen? ⟨g, i * 10 + j, none⟩ = false := by
  rcases h.row.2 with ⟨h1, _⟩ | ⟨g', cap', cur, h1, hb, hg, hnc, hcm, hcs, ht⟩
  · cases h1
  · cases h1
    have h2 := flatR_at (R := R) hi hj
    rw [← ht, List.getElem?_take, if_pos (by omega)] at h2
    exact ⟨cell_of hg (by simpa using h2), free_of hg⟩
theorem flatR_set {n : Nat} {R : Nat → Nat → Int} {i j : Nat} (hj : j < 10) (x : Int) : (flatR n R).set (i * 10 + j) (.int .u64 x) = flatR n (updR R i j x) := by
  have := congrArg Array.toList (flatR_upd (n := n) (R := R) (i := i) hj x)
  rw [Array.toList_setIfInBounds] at this
  exact this
theorem RTk.put {fp : Nat → Prop} {U : Nat} {g n0 cap : Nat} {line : Int} {n : Nat} {R : Nat → Nat → Int} {b fld : Int} {w : World} (h : RTk fp U (.slice (some ⟨g, 0, none⟩) n0 cap) line n R b fld w) {i j : Nat} (hj : j < 10) (x : Int) :
    RTk fp U (.slice (some ⟨g, 0, none⟩) n0 cap) line n (updR R i j x) b fld (w.setCell ⟨g, i * 10 + j, none⟩ (.int .u64 x)) := by
  obtain ⟨hf, hne⟩ := h.fpv g rfl
  refine ⟨heap_setCell_other h.own (fun e => hne e.symm) _, ⟨by rw [flatR_len], ?_⟩, h.fpU, h.fpv, fun y hy => by simpa using h.lt y hy⟩
  rcases h.row.2 with ⟨h1, _⟩ | ⟨g', cap', cur, h1, hb, hg, hnc, hcm, hcs, ht⟩
  · cases h1
  · cases h1
    refine .inr ⟨g, cap, _, rfl, hb, heap_setCell_same hg _, hnc, hcm, by simpa using hcs, ?_⟩
    rw [Array.toList_setIfInBounds, List.take_set, ht, flatR_set hj]
theorem flatR_zero {n : Nat} {R : Nat → Nat → Int} (h : ∀ j, j < 10 → R n j = 0) : flatR (n + 1) R = flatR n R ++ [.int .u64 0, .int .u64 0, .int .u64 0, .int .u64 0, .int .u64 0, .int .u64 0, .int .u64 0, .int .u64 0, .int .u64 0, .int .u64 0] := by
  have e : (n + 1) * 10 = n * 10 + 10 := by omega
  unfold flatR
  rw [e, List.range_add, List.map_append]
  congr 1
  have hk : ∀ j, j < 10 → R ((n * 10 + j) / 10) ((n * 10 + j) % 10) = 0 := fun j hj => by
    rw [show (n * 10 + j) / 10 = n by omega, show (n * 10 + j) % 10 = j by omega]
    exact h j hj
  have e0 := h 0 (by decide)
  have e1 := hk 1 (by decide)
  have e2 := hk 2 (by decide)
  have e3 := hk 3 (by decide)
  have e4 := hk 4 (by decide)
  have e5 := hk 5 (by decide)
  have e6 := hk 6 (by decide)
  have e7 := hk 7 (by decide)
  have e8 := hk 8 (by decide)
  have e9 := hk 9 (by decide)
  simp [List.range_succ_eq_map] at *
  exact ⟨e0, e1, e2, e3, e4, e5, e6, e7, e8, e9⟩

def RNewPost (w : World) (e : Ending) (w' : World) : Prop :=
  ∃ U, e = .returned (.pointer (some ⟨U, 0, none⟩)) ∧ RTk (fun x => x = U) U (.slice none 0 0) 1 0 (fun _ _ => 0) 0 0 w' ∧ w.heap.size ≤ U ∧ Below w.heap.size w w'
theorem rnew_any (w : World) : Calls Try.prog 20 #[] w (RNewPost w) := by
  go_enter Try.func20, Try.ntmps20
  go_wp2_with fail
  go_ret
  exact ⟨_, rfl, ⟨heap_alloc_at _ _, ⟨rfl, .inl ⟨rfl, rfl⟩⟩, rfl, (fun g hg => by cases hg), fun x hx => by rw [hx]; simp⟩, Nat.le_refl _, (Below.refl _ _).alloc (Nat.le_refl _) _⟩

/-- Where the document's taker is, where the program's is at t. -/
def RTis (fp : Nat → Prop) (U : Nat) (t : TSt) (w : World) : Prop := match t with
  | .start => RTk fp U (.slice none 0 0) 1 0 (fun _ _ => 0) 0 0 w
  | .on n i j R => ∃ v, RTk fp U v 2 (if j = 0 then i else i + 1) R ((n / 4 : Nat) : Int) j w
  | .fin n R => ∃ v, RTk fp U v 0 n R ((n / 4 : Nat) : Int) 0 w
/-- What has not been read is 0. -/
def TSt.fresh : TSt → Prop
  | .on n i j R => n % 4 = 0 ∧ ∀ a b, (i < a ∨ (a = i ∧ j ≤ b)) → R a b = 0
  | .fin n _ => n % 4 = 0
  | _ => True
theorem TSt.fresh_next {f : Adr → Int} {t : TSt} (h : t.fresh) : (tNext f t).fresh := by
  cases t with
  | start =>
    have h4 : all4 (f bAdr) % 4 = 0 := by
      unfold all4
      split <;> omega
    rw [tNext_start]
    split
    · rfl
    · exact ⟨h4, fun _ _ _ => rfl⟩
  | on n i j R =>
    obtain ⟨h1, h2⟩ := h
    rw [tNext_on rfl]
    split
    · split
      · exact h1
      · refine ⟨h1, fun a b hab => ?_⟩
        unfold updR
        rw [if_neg (by omega)]
        exact h2 a b (by omega)
    · refine ⟨h1, fun a b hab => ?_⟩
      unfold updR
      rw [if_neg (by omega)]
      exact h2 a b (by omega)
  | fin n R => exact h

def RStpPost (fp fpu : Nat → Prop) (R N U : Nat) (f : Adr → Int) (s : Int) (a : Adr) (t' : TSt) (w : World) (e : Ending) (w' : World) : Prop :=
  e = .returned (.tuple #[]) ∧ RefAt fp R N f (wrap64 (s + 1)) (ldAcc a (f a)) w' ∧ ∃ fpu', RTis fpu' U t' w' ∧ Turn (fun x => x = R ∨ fpu x) (fun x => x = R ∨ fpu' x) w w' ∧ ∀ x, fpu' x → fpu x ∨ w.heap.size ≤ x
set_option maxHeartbeats 2000000 in
set_option maxRecDepth 100000 in
theorem rstart_small {fp fpu : Nat → Prop} {R N U q : Nat} {f : Adr → Int} {s : Int} {L : Acc} {w : World} (h : RefAt fp R N f s L w) (hN : N ≤ 99999) (ht : RTis fpu U .start w) (hd : ∀ x, fpu x → ¬ fp x) (hq : f bAdr = (q : Int)) (hq4 : q ≤ 4) (hq0 : 0 < q) :
    Calls Try.prog 23 #[.pointer (some ⟨U, 0, none⟩), .pointer (some ⟨R, 0, none⟩)] w (RStpPost fp fpu R N U f s bAdr (.on (4 * q) 0 0 (fun _ _ => 0)) w) := by
  have hT : RTk fpu U (.slice none 0 0) 1 0 (fun _ _ => 0) 0 0 w := ht
  have c0 : w.cell? ⟨U, 0, none⟩ = some (.int .i64 1) := cell_of hT.own rfl
  have hRU : ¬ R = U := fun e => hd _ hT.fpU (e ▸ h.fpR)
  have HH := Lib.hid h
  have HT := Lib.hid hT
  have HD := Lib.hid hd
  have HQ := Lib.hid hq
  clear h ht hT hd hq
  go_enter Try.func23, Try.ntmps23
  go_wp2_with fail
  refine (rload_any HH.out hN bAdr).mono ?_
  rintro _ w2 ⟨rfl, hR2, hm2⟩
  have HR2 := Lib.hid hR2
  have HO2 := Lib.hid hm2
  have HT2 := Lib.hid (HT.out.keep hm2 (fun x hx e => HD.out x hx (e ▸ HH.out.fpR)))
  clear hR2 hm2 c0
  rw [HQ.out]
  have c0 : w2.cell? ⟨U, 0, none⟩ = some (.int .i64 1) := cell_of HT2.out.own rfl
  have c3 : w2.cell? ⟨U, 3, none⟩ = some (.int .i64 0) := cell_of HT2.out.own rfl
  have g0 := free_of (i := 0) HT2.out.own
  have g3 := free_of (i := 3) HT2.out.own
  have d1 : decide ((q : Int) > 4) = false := decide_eq_false (p := 4 < (q : Int)) (by omega)
  have d2 : ((q : Int) == 0) = false := by simp; omega
  have d3 : IntKind.i64.wrap (q : Int) = (q : Int) := IntWalk.i64_in _ (by omega)
  go_wp2_with fail
  go_end0
  have hs := ((Mod.refl (fun x => x = U) w2).setCell (p := ⟨U, 3, none⟩) (fun _ => rfl) (.int .i64 q)).setCell (p := ⟨U, 0, none⟩) (fun _ => rfl) (.int .i64 2)
  have ho := (heap_setCell_same (i := 0) (heap_setCell_same (i := 3) HT2.out.own (.int .i64 q)) (.int .i64 2))
  generalize ((w2.setCell ⟨U, 3, none⟩ (.int .i64 q)).setCell ⟨U, 0, none⟩ (.int .i64 2)) = w3 at hs ho ⊢
  refine ⟨rfl, HR2.out.keep hs (fun x hx e => HD.out _ HT.out.fpU (e ▸ hx)), fpu, ⟨.slice none 0 0, by rw [show 4 * q / 4 = q by omega]; exact HT2.out.setOwn hs ho⟩, ⟨HO2.out.weaken (fun _ _ h => .inl h) |>.trans hs (fun x _ h => .inr (h ▸ HT.out.fpU)), fun _ h => .inl h⟩, fun _ h => .inl h⟩
set_option maxHeartbeats 2000000 in
set_option maxRecDepth 100000 in
theorem rstart_none {fp fpu : Nat → Prop} {R N U : Nat} {f : Adr → Int} {s : Int} {L : Acc} {w : World} (h : RefAt fp R N f s L w) (hN : N ≤ 99999) (ht : RTis fpu U .start w) (hd : ∀ x, fpu x → ¬ fp x) (hq : f bAdr = 0) :
    Calls Try.prog 23 #[.pointer (some ⟨U, 0, none⟩), .pointer (some ⟨R, 0, none⟩)] w (RStpPost fp fpu R N U f s bAdr (.fin 0 (fun _ _ => 0)) w) := by
  have hT : RTk fpu U (.slice none 0 0) 1 0 (fun _ _ => 0) 0 0 w := ht
  have c0 : w.cell? ⟨U, 0, none⟩ = some (.int .i64 1) := cell_of hT.own rfl
  have hRU : ¬ R = U := fun e => hd _ hT.fpU (e ▸ h.fpR)
  have HH := Lib.hid h
  have HT := Lib.hid hT
  have HD := Lib.hid hd
  have HQ := Lib.hid hq
  clear h ht hT hd hq
  go_enter Try.func23, Try.ntmps23
  go_wp2_with fail
  refine (rload_any HH.out hN bAdr).mono ?_
  rintro _ w2 ⟨rfl, hR2, hm2⟩
  have HR2 := Lib.hid hR2
  have HO2 := Lib.hid hm2
  have HT2 := Lib.hid (HT.out.keep hm2 (fun x hx e => HD.out x hx (e ▸ HH.out.fpR)))
  clear hR2 hm2 c0
  rw [HQ.out]
  have c0 : w2.cell? ⟨U, 0, none⟩ = some (.int .i64 1) := cell_of HT2.out.own rfl
  have c3 : w2.cell? ⟨U, 3, none⟩ = some (.int .i64 0) := cell_of HT2.out.own rfl
  have g0 := free_of (i := 0) HT2.out.own
  have g3 := free_of (i := 3) HT2.out.own
  go_wp2_with fail
  go_end0
  have hs := (((Mod.refl (fun x => x = U) w2).setCell (p := ⟨U, 3, none⟩) (fun _ => rfl) (.int .i64 0)).setCell (p := ⟨U, 0, none⟩) (fun _ => rfl) (.int .i64 2)).setCell (p := ⟨U, 0, none⟩) (fun _ => rfl) (.int .i64 0)
  have ho := (heap_setCell_same (i := 0) (heap_setCell_same (i := 0) (heap_setCell_same (i := 3) HT2.out.own (.int .i64 0)) (.int .i64 2)) (.int .i64 0))
  generalize (((w2.setCell ⟨U, 3, none⟩ (.int .i64 0)).setCell ⟨U, 0, none⟩ (.int .i64 2)).setCell ⟨U, 0, none⟩ (.int .i64 0)) = w3 at hs ho ⊢
  refine ⟨rfl, HR2.out.keep hs (fun x hx e => HD.out _ HT.out.fpU (e ▸ hx)), fpu, ⟨.slice none 0 0, HT2.out.setOwn hs ho⟩, ⟨HO2.out.weaken (fun _ _ h => .inl h) |>.trans hs (fun x _ h => .inr (h ▸ HT.out.fpU)), fun _ h => .inl h⟩, fun _ h => .inl h⟩
set_option maxHeartbeats 2000000 in
set_option maxRecDepth 100000 in
theorem rstart_many {fp fpu : Nat → Prop} {R N U : Nat} {f : Adr → Int} {s : Int} {L : Acc} {w : World} (h : RefAt fp R N f s L w) (hN : N ≤ 99999) (ht : RTis fpu U .start w) (hd : ∀ x, fpu x → ¬ fp x) {x : Int} (hq : f bAdr = x) (hx : 4 < x) :
    Calls Try.prog 23 #[.pointer (some ⟨U, 0, none⟩), .pointer (some ⟨R, 0, none⟩)] w (RStpPost fp fpu R N U f s bAdr (.on 16 0 0 (fun _ _ => 0)) w) := by
  have hT : RTk fpu U (.slice none 0 0) 1 0 (fun _ _ => 0) 0 0 w := ht
  have c0 : w.cell? ⟨U, 0, none⟩ = some (.int .i64 1) := cell_of hT.own rfl
  have hRU : ¬ R = U := fun e => hd _ hT.fpU (e ▸ h.fpR)
  have HH := Lib.hid h
  have HT := Lib.hid hT
  have HD := Lib.hid hd
  have HQ := Lib.hid hq
  clear h ht hT hd hq
  go_enter Try.func23, Try.ntmps23
  go_wp2_with fail
  refine (rload_any HH.out hN bAdr).mono ?_
  rintro _ w2 ⟨rfl, hR2, hm2⟩
  have HR2 := Lib.hid hR2
  have HO2 := Lib.hid hm2
  have HT2 := Lib.hid (HT.out.keep hm2 (fun x hx e => HD.out x hx (e ▸ HH.out.fpR)))
  clear hR2 hm2 c0
  rw [HQ.out]
  have c0 : w2.cell? ⟨U, 0, none⟩ = some (.int .i64 1) := cell_of HT2.out.own rfl
  have c3 : w2.cell? ⟨U, 3, none⟩ = some (.int .i64 0) := cell_of HT2.out.own rfl
  have g0 := free_of (i := 0) HT2.out.own
  have g3 := free_of (i := 3) HT2.out.own
  have d1 : decide (x > 4) = true := decide_eq_true (p := 4 < x) hx
  go_wp2_with fail
  go_end0
  have hs := ((Mod.refl (fun x => x = U) w2).setCell (p := ⟨U, 3, none⟩) (fun _ => rfl) (.int .i64 4)).setCell (p := ⟨U, 0, none⟩) (fun _ => rfl) (.int .i64 2)
  have ho := (heap_setCell_same (i := 0) (heap_setCell_same (i := 3) HT2.out.own (.int .i64 4)) (.int .i64 2))
  generalize ((w2.setCell ⟨U, 3, none⟩ (.int .i64 4)).setCell ⟨U, 0, none⟩ (.int .i64 2)) = w3 at hs ho ⊢
  refine ⟨rfl, HR2.out.keep hs (fun x hx e => HD.out _ HT.out.fpU (e ▸ hx)), fpu, ⟨.slice none 0 0, HT2.out.setOwn hs ho⟩, ⟨HO2.out.weaken (fun _ _ h => .inl h) |>.trans hs (fun x _ h => .inr (h ▸ HT.out.fpU)), fun _ h => .inl h⟩, fun _ h => .inl h⟩
theorem rstart_any {fp fpu : Nat → Prop} {R N U : Nat} {f : Adr → Int} {s : Int} {L : Acc} {w : World} (h : RefAt fp R N f s L w) (hN : N ≤ 99999) (ht : RTis fpu U .start w) (hd : ∀ x, fpu x → ¬ fp x) (hb : 0 ≤ f bAdr) :
    Calls Try.prog 23 #[.pointer (some ⟨U, 0, none⟩), .pointer (some ⟨R, 0, none⟩)] w (RStpPost fp fpu R N U f s bAdr (tNext f .start) w) := by
  rw [tNext_start]
  by_cases h4 : 4 < f bAdr
  · have e : all4 (f bAdr) = 16 := if_pos (by omega)
    rw [e, if_neg (by decide)]
    exact rstart_many h hN ht hd rfl h4
  · obtain ⟨q, hq⟩ := Int.eq_ofNat_of_zero_le hb
    have e : all4 (f bAdr) = 4 * q := by
      unfold all4
      split <;> omega
    rw [e]
    by_cases h0 : q = 0
    · rw [if_pos (by omega)]
      exact rstart_none h hN ht hd (by omega)
    · rw [if_neg (by omega)]
      exact rstart_small h hN ht hd hq (by omega) (by omega)
end Go.Proofs.Ytjnbkpklcmkdlaa
