/- The document's memory: a list of words; a word read. -/
import Derived.Test.YtjnbkpklcmkdlaaRA
namespace Go.Proofs.Ytjnbkpklcmkdlaa
open Go.RowKit

/-- A block's own footprint turns into another one. -/
structure Turn (fp fp' : Nat → Prop) (w w' : World) : Prop where
  mod : Mod fp w w'
  new : ∀ x, fp' x → fp x ∨ w.heap.size ≤ x
theorem Turn.refl (fp : Nat → Prop) (w : World) : Turn fp fp w w := ⟨Mod.refl _ _, fun _ h => .inl h⟩
theorem Turn.trans {a b c : Nat → Prop} {w1 w2 w3 : World} (h : Turn a b w1 w2) (k : Turn b c w2 w3) : Turn a c w1 w3 :=
  ⟨h.mod.trans k.mod (fun i hi hb => (h.new i hb).resolve_right (by omega)), fun x hx => by
    rcases k.new x hx with h1 | h1
    · exact h.new x h1
    · exact .inr (Nat.le_trans h.mod.size h1)⟩
theorem Turn.on {fp fp' : Nat → Prop} {w w' w'' : World} (h : Turn fp fp' w w') (k : Mod (fun _ => False) w' w'') : Turn fp fp' w w'' :=
  ⟨h.mod.trans k (fun _ _ h => h.elim), h.new⟩
theorem Turn.pre {fp fp' : Nat → Prop} {w w' w'' : World} (k : Mod (fun _ => False) w w') (h : Turn fp fp' w' w'') : Turn fp fp' w w'' :=
  ⟨(k.weaken (fun _ _ h => h.elim)).trans h.mod (fun _ _ h => h), fun x hx => (h.new x hx).imp id (fun h => Nat.le_trans k.size h)⟩

/-- Words as a list: what stands at an address; a word put. -/
abbrev Ws := List (Adr × Int)
def look (ws : Ws) (a : Adr) : Int := match ws with
  | [] => 0
  | e :: r => if e.1 = a then e.2 else look r a
def wput (ws : Ws) (a : Adr) (v : Int) : Ws := match ws with
  | [] => [(a, v)]
  | e :: r => if e.1 = a then (e.1, v) :: r else e :: wput r a v
theorem look_wput (ws : Ws) (a b : Adr) (v : Int) : look (wput ws a v) b = if b = a then v else look ws b := by
  induction ws with
  | nil =>
    simp only [wput, look]
    by_cases h : a = b
    · rw [if_pos h, if_pos h.symm]
    · rw [if_neg h, if_neg (fun e => h e.symm)]
  | cons e r ih =>
    simp only [wput]
    by_cases h : e.1 = a
    · rw [if_pos h]
      simp only [look]
      by_cases h2 : e.1 = b
      · rw [if_pos h2, if_pos (h2.symm.trans h)]
      · rw [if_neg h2, if_neg h2, if_neg (fun e2 => h2 (h.trans e2.symm))]
    · rw [if_neg h]
      simp only [look]
      by_cases h2 : e.1 = b
      · rw [if_pos h2, if_pos h2, if_neg (fun e2 => h (h2.trans e2))]
      · rw [if_neg h2, if_neg h2]
        exact ih
theorem look_hit {ws : Ws} {a : Adr} {k : Nat} (hk : k < ws.length) (hpre : ∀ j (h : j < ws.length), j < k → ws[j].1 ≠ a) (hit : ws[k].1 = a) : look ws a = ws[k].2 := by
  induction ws generalizing k with
  | nil => simp at hk
  | cons e r ih =>
    cases k with
    | zero => simp only [look, List.getElem_cons_zero] at *; rw [if_pos hit]
    | succ k =>
      have h0 := hpre 0 (by simp) (by omega)
      simp only [List.getElem_cons_zero] at h0
      simp only [look, List.getElem_cons_succ] at *
      rw [if_neg h0]
      exact ih (by simpa using hk) (fun j h hj => by
        have := hpre (j + 1) (by simpa using h) (by omega)
        simpa using this) hit
theorem look_miss {ws : Ws} {a : Adr} (hpre : ∀ j (h : j < ws.length), ws[j].1 ≠ a) : look ws a = 0 := by
  induction ws with
  | nil => rfl
  | cons e r ih =>
    have h0 := hpre 0 (by simp)
    simp only [List.getElem_cons_zero] at h0
    simp only [look]
    rw [if_neg h0]
    exact ih (fun j h => by
      have := hpre (j + 1) (by simpa using h)
      simpa using this)
theorem wput_hit {ws : Ws} {a : Adr} {v : Int} {k : Nat} (hk : k < ws.length) (hpre : ∀ j (h : j < ws.length), j < k → ws[j].1 ≠ a) (hit : ws[k].1 = a) : wput ws a v = ws.set k (a, v) := by
  induction ws generalizing k with
  | nil => simp at hk
  | cons e r ih =>
    cases k with
    | zero =>
      simp only [List.getElem_cons_zero] at hit
      simp only [wput, List.set_cons_zero]
      rw [if_pos hit, hit]
    | succ k =>
      have h0 := hpre 0 (by simp) (by omega)
      simp only [List.getElem_cons_zero] at h0
      simp only [List.getElem_cons_succ] at hit
      simp only [wput, if_neg h0, List.set_cons_succ]
      rw [ih (by simpa using hk) (fun j h hj => by
        have := hpre (j + 1) (by simpa using h) (by omega)
        simpa using this) hit]
theorem wput_miss {ws : Ws} {a : Adr} {v : Int} (hpre : ∀ j (h : j < ws.length), ws[j].1 ≠ a) : wput ws a v = ws ++ [(a, v)] := by
  induction ws with
  | nil => rfl
  | cons e r ih =>
    have h0 := hpre 0 (by simp)
    simp only [List.getElem_cons_zero] at h0
    simp only [wput, if_neg h0, List.cons_append]
    rw [ih (fun j h => by
      have := hpre (j + 1) (by simpa using h)
      simpa using this)]

/-- Their cells. -/
def wCells (e : Adr × Int) : List Value := [.int .u8 e.1.1, .int .i64 e.1.2.1, .int .i64 e.1.2.2, .int .u64 e.2]
def flatW (ws : Ws) : List Value := ws.flatMap wCells
theorem flatW_len (ws : Ws) : (flatW ws).length = ws.length * 4 := by
  induction ws with
  | nil => rfl
  | cons e r ih => simp only [flatW, List.flatMap_cons, List.length_append, List.length_cons] at *; rw [ih]; simp [wCells]; omega
theorem flatW_at {ws : Ws} {k c : Nat} (hk : k < ws.length) (hc : c < 4) : (flatW ws)[k * 4 + c]? = some ((wCells ws[k])[c]'(by simpa [wCells] using hc)) := by
  induction ws generalizing k with
  | nil => simp at hk
  | cons e r ih =>
    simp only [flatW, List.flatMap_cons]
    cases k with
    | zero =>
      rw [List.getElem?_append_left (by simp [wCells]; omega)]
      simp only [Nat.zero_mul, Nat.zero_add, List.getElem_cons_zero]
      rw [List.getElem?_eq_getElem]
    | succ k =>
      rw [List.getElem?_append_right (by simp [wCells]; omega)]
      have := ih (k := k) (by simpa using hk)
      simp only [flatW] at this
      rw [show (k + 1) * 4 + c - (wCells e).length = k * 4 + c from by simp [wCells]; omega, this]
      simp only [List.getElem_cons_succ]
theorem flatW_snoc (ws : Ws) (e : Adr × Int) : flatW ws ++ wCells e = flatW (ws ++ [e]) := by
  simp [flatW, List.flatMap_append]
theorem wCells_one (e : Adr × Int) : ∀ u ∈ wCells e, u.oneCell' = true := by
  intro u hu
  simp only [wCells, List.mem_cons, List.not_mem_nil, or_false] at hu
  rcases hu with rfl | rfl | rfl | rfl <;> rfl

set_option maxHeartbeats 1000000 in
theorem eq_adr (x y : Adr) (w : World) : (Op.equalIn 10000 30 (adrVal x) (adrVal y)).run Try.prog w = .ok (decide (x = y)) w := by
  obtain ⟨a, b, c⟩ := x
  obtain ⟨a', b', c'⟩ := y
  simp only [adrVal]
  go_simp
  by_cases h1 : a = a' <;> by_cases h2 : b = b' <;> by_cases h3 : c = c' <;> simp [h1, h2, h3]

def refCells (v : Value) (s : Int) (L : Acc) : Array Value :=
  #[v, .int .i64 s, .int .u8 L.kind, .int .u8 L.addr.1, .int .i64 L.addr.2.1, .int .i64 L.addr.2.2, .int .u64 L.was, .int .u64 L.now, .bool L.done]
structure RefIs (fp : Nat → Prop) (R : Nat) (v : Value) (ws : Ws) (s : Int) (L : Acc) (w : World) : Prop where
  own : w.heap[R]? = some (.cells (refCells v s L) 104)
  row : w.ownsRow 0 126 4 v ws.length (flatW ws)
  fpR : fp R
  fpv : ∀ g, v.ownBlock = some g → fp g ∧ g ≠ R
  lt : ∀ x, fp x → x < w.heap.size
/-- The words of a slice that is kept so. -/
theorem RefIs.words {fp : Nat → Prop} {R : Nat} {v : Value} {ws : Ws} {s : Int} {L : Acc} {w : World} (h : RefIs fp R v ws s L w) :
    ∃ a cap, v = .slice a ws.length cap ∧ (ws = [] ∨ ∃ g, a = some ⟨g, 0, none⟩ ∧ ∀ k (h : k < ws.length), w.cell? ⟨g, k * 4, none⟩ = some (.int .u8 ws[k].1.1) ∧ w.cell? ⟨g, k * 4 + 1, none⟩ = some (.int .i64 ws[k].1.2.1) ∧ w.cell? ⟨g, k * 4 + 2, none⟩ = some (.int .i64 ws[k].1.2.2) ∧ w.cell? ⟨g, k * 4 + 3, none⟩ = some (.int .u64 ws[k].2)) := by
  rcases h.row.2 with ⟨rfl, hn⟩ | ⟨g, cap, cur, rfl, hb, hg, hnc, hcm, hcs, ht⟩
  · have hw : ws = [] := by
      cases ws with
      | nil => rfl
      | cons => simp at hn
    subst hw
    exact ⟨none, 0, rfl, .inl rfl⟩
  · refine ⟨_, cap, rfl, .inr ⟨g, rfl, fun k hk => ?_⟩⟩
    have key : ∀ c (hc : c < 4), cur[k * 4 + c]? = some ((wCells ws[k])[c]'(by simpa [wCells] using hc)) := by
      intro c hc
      have h1 := flatW_at hk hc
      rw [← ht, List.getElem?_take, if_pos (by omega)] at h1
      simpa using h1
    exact ⟨cell_of hg (key 0 (by decide)), cell_of hg (key 1 (by decide)), cell_of hg (key 2 (by decide)), cell_of hg (key 3 (by decide))⟩
theorem RefIs.keep {fp S : Nat → Prop} {R : Nat} {v : Value} {ws : Ws} {s : Int} {L : Acc} {w w' : World} (h : RefIs fp R v ws s L w) (hm : Mod S w w') (hd : ∀ x, fp x → ¬ S x) : RefIs fp R v ws s L w' :=
  ⟨hm.keep h.own (hd _ h.fpR), hm.ownsRow h.row (fun k hk => hd _ (h.fpv k hk).1), h.fpR, h.fpv, fun x hx => Nat.lt_of_lt_of_le (h.lt x hx) hm.size⟩

def RWordPost (v : Int) (w : World) (e : Ending) (w' : World) : Prop := e = .returned (.int .u64 v) ∧ Below w.heap.size w w'
def WRel (ws : Ws) (a : Adr) (w1 : World) (i : Value) (wr : World) : Prop :=
  ∃ k : Nat, k ≤ ws.length ∧ i = .int .i64 k ∧ (∀ j (_ : j < ws.length), j < k → ws[j].1 ≠ a) ∧ Mod (fun _ => False) w1 wr
set_option maxHeartbeats 1000000 in
theorem rword_any {fp : Nat → Prop} {R : Nat} {v : Value} {ws : Ws} {s : Int} {L : Acc} {w : World} (h : RefIs fp R v ws s L w) (hn : ws.length ≤ 100000) (a : Adr) :
    Calls Try.prog 58 #[.pointer (some ⟨R, 0, none⟩), adrVal a] w (RWordPost (look ws a) w) := by
  obtain ⟨sa, cap, rfl, hw⟩ := h.words
  have c0 : w.cell? ⟨R, 0, none⟩ = some (.slice sa ws.length cap) := cell_of h.own rfl
  have hlt := lt_of_block h.own
  have HW := Lib.hid hw
  have HH := Lib.hid h
  obtain ⟨ka, aa, fa⟩ := a
  simp only [adrVal]
  clear hw h
  go_enter Try.func58, Try.ntmps58
  go_wp2_with fail
  have hb0 := (Mod.refl (fun _ => False) w).alloc (.cells #[.int .u8 ka, .int .i64 aa, .int .i64 fa] 30)
  have hs0 := heap_alloc_at w (.cells #[.int .u8 ka, .int .i64 aa, .int .i64 fa] 30)
  generalize w.alloc (.cells #[.int .u8 ka, .int .i64 aa, .int .i64 fa] 30) = w1 at hb0 hs0 ⊢
  have HB0 := Lib.hid hb0
  have HS0 := Lib.hid hs0
  clear hb0 hs0 c0
  go_loopw [5] (fun i wr => WRel ws (ka, aa, fa) w1 i wr) (fun i _ => ws.length - (intOf i).toNat)
  case atStart => exact ⟨0, Nat.zero_le _, rfl, fun j h hj => by omega, Mod.refl _ _⟩
  case round =>
    obtain ⟨k, hk, rfl, hpre, hmk⟩ := hrel
    have HP := Lib.hid hpre
    have HM := Lib.hid hmk
    clear hpre hmk
    have c0 : (_ : World).cell? ⟨R, 0, none⟩ = some (.slice sa ws.length cap) := cell_of (HM.out.keep (HB0.out.keep HH.out.own (fun h => h)) (fun h => h)) rfl
    by_cases hkl : k < ws.length
    · obtain ⟨g, rfl, D0⟩ := HW.out.resolve_left (fun h => by rw [h] at hkl; simp at hkl)
      have hwr : Mod (fun _ => False) w _ := HB0.out.trans HM.out (fun _ _ h => h)
      obtain ⟨x0, x1, x2, x3⟩ := D0 k hkl
      have hg := World.block_lt_of_cell? _ _ x0
      have y0 := (cell_mod hwr hg (fun h => h)).trans x0
      have y1 := (cell_mod hwr hg (fun h => h)).trans x1
      have y2 := (cell_mod hwr hg (fun h => h)).trans x2
      have y3 := (cell_mod hwr hg (fun h => h)).trans x3
      have hs := HM.out.keep HS0.out (fun h => h)
      have b0 := cell_of (i := 0) hs rfl
      have b1 := cell_of (i := 1) hs rfl
      have b2 := cell_of (i := 2) hs rfl
      clear D0 x0 x1 x2 x3 hwr hs
      obtain ⟨⟨⟨k1, a1, f1⟩, vv⟩, he⟩ : ∃ e, ws[k] = e := ⟨_, rfl⟩
      rw [he] at y0 y1 y2 y3
      simp only at y0 y1 y2 y3
      have HE := Lib.hid he
      clear he
      by_cases hit : ((k1, a1, f1) : Adr) = (ka, aa, fa)
      · have q1 : ∀ w, (Op.equalIn 10000 30 (.agg #[.int .u8 k1, .int .i64 a1, .int .i64 f1]) (.agg #[.int .u8 ka, .int .i64 aa, .int .i64 fa])).run Try.prog w = .ok true w := fun w => by
          have := eq_adr (k1, a1, f1) (ka, aa, fa) w
          rw [decide_eq_true hit] at this
          exact this
        have HI := Lib.hid hit
        clear hit
        go_wp2_with fail
        go_quiet (fail)
        have HMq : Hid (Mod (fun _ => False) wr (wr.drewN nq)) := (Mod.refl (fun _ => False) wr).drewN nq
        clear b0 b1 b2 y0 y1 y2 q1
        have c0' : (wr.drewN nq).cell? ⟨R, 0, none⟩ = some (.slice (some ⟨g, 0, none⟩) ws.length cap) := c0
        have y3' : (wr.drewN nq).cell? ⟨g, k * 4 + 3, none⟩ = some (.int .u64 vv) := y3
        clear c0 y3
        generalize wr.drewN nq = wq at HMq c0' y3' ⊢
        go_wp2_with fail
        go_ret
        have hl : look ws (ka, aa, fa) = vv := by
          have h1 := look_hit hkl (fun j h hj => HP.out j h hj) (by rw [HE.out]; exact HI.out)
          rw [h1, HE.out]
        exact ⟨ret_int hl.symm, ((HB0.out.trans HM.out (fun _ _ h => h)).trans HMq.out (fun _ _ h => h)).below (fun _ _ h => h)⟩
      · have q1 : ∀ w, (Op.equalIn 10000 30 (.agg #[.int .u8 k1, .int .i64 a1, .int .i64 f1]) (.agg #[.int .u8 ka, .int .i64 aa, .int .i64 fa])).run Try.prog w = .ok false w := fun w => by
          have := eq_adr (k1, a1, f1) (ka, aa, fa) w
          rw [decide_eq_false hit] at this
          exact this
        have HI := Lib.hid hit
        clear hit
        go_wp2_with fail
        go_quiet (fail)
        have HMq : Hid (Mod (fun _ => False) wr (wr.drewN nq)) := (Mod.refl (fun _ => False) wr).drewN nq
        clear b0 b1 b2 y0 y1 y2 y3 q1 c0
        generalize wr.drewN nq = wq at HMq ⊢
        go_wp2_with fail
        go_roundw
        case rel => exact ⟨k + 1, by omega, by go_num, fun j h hj => by
          by_cases e : j = k
          · subst e
            rw [HE.out]
            exact HI.out
          · exact HP.out j h (by omega), HM.out.trans HMq.out (fun _ _ h => h)⟩
        case measure => simp [intOf]; omega
    · go_wp2_with fail
      go_ret
      have hl : look ws (ka, aa, fa) = 0 := look_miss (fun j h => HP.out j h (by omega))
      exact ⟨ret_int hl.symm, (HB0.out.trans HM.out (fun _ _ h => h)).below (fun _ _ h => h)⟩
end Go.Proofs.Ytjnbkpklcmkdlaa
