/- Slices of entries: cloned, clipped. -/
import Derived.Test.YtcemcphkgehbhaaB
namespace Go.Proofs.Ytcemcphkgehbhaa
open Go.RowKit

theorem info34 : (Try.prog.info? 34).map (fun i => (i.zero, i.size, i.bytes)) = some (some (.agg #[.int .i64 0, .int .u32 0, .bool false, .int .u64 0, .int .u64 0, .int .u64 0]), 6, 40) := by kernel_rfl

def NewRow (w : World) (n : Nat) (xs : List Value) (e : Ending) (w' : World) : Prop := ∃ v', e = .returned v' ∧ w'.ownsRow w.heap.size 34 6 v' n xs ∧ Below w.heap.size w w'

theorem flat_one (es : List Ent) : ∀ u ∈ flat es, u.oneCell' = true := by
  intro u hu
  simp only [flat, List.mem_flatMap] at hu
  obtain ⟨e, _, he⟩ := hu
  simp only [Ent.cells, List.mem_cons, List.not_mem_nil, or_false] at he
  rcases he with rfl | rfl | rfl | rfl | rfl | rfl <;> rfl

theorem nil26 (w : World) (a : Option Addr) (n c : Nat) : (binOp .eql 26 (.slice a n c) (.slice none 0 0)).run Try.prog w = .ok (.bool a.isNone) w := Lib.run_eql_slice_nil w _ _ _ _ _ _ _ Try.underlying26
theorem nil49 (w : World) (r : Option Nat) : (binOp .eql 49 (.map r) (.map none)).run Try.prog w = .ok (.bool r.isNone) w := run_eql_map_nil w _ _ _ r Try.underlying49

set_option maxHeartbeats 400000 in
theorem clone_any (base : Nat) (v : Value) (n : Nat) (es : List Ent) (w : World) (h : w.ownsRow base 34 6 v n (flat es)) (hn : n ≤ 1000) :
    Calls Try.prog 21 #[v] w (NewRow w n (flat es)) := by
  have h' := h
  have q := nil26
  rcases h'.2 with ⟨rfl, rfl⟩ | ⟨g, cap, cur, rfl, hb, hg, hnc, hcm, hcs, ht⟩
  · go_enter Try.func21, Try.ntmps21
    go_wp2
    go_ret
    exact ⟨_, rfl, ⟨h.1, .inl ⟨rfl, rfl⟩⟩, Below.refl _ _⟩
  · obtain ⟨i0, hi, hz0, hz1, hz2⟩ := info_parts info34
    have hxs := h.1
    go_enter Try.func21, Try.ntmps21
    go_wp2_with (at_builtin; refine wpList_append_own _ rfl _ _ 26 rfl w.heap.size 34 i0 _ 6 40 Try.underlying26 hi hz0 hz1 hz2 rfl (by decide) _ 0 [] rfl ?c1 ⟨g, 0, none⟩ n cap (flat es) rfl hxs ?c2 (flat_one es) ?c3 ?c4 ?c5 ?_)
    case c1 => exact World.ownsRow_made _ #[] 0 (Nat.le_refl _) (by unfold maxLen; omega) rfl
    case c2 => exact (h.alloc _).cells rfl
    case c3 => unfold maxLen; omega
    case c4 => omega
    case c5 => simp
    intro v' w1 hown hgrow hnil
    clear hnil
    go_wp2
    go_ret
    refine ⟨_, rfl, hown, ((Below.refl _ _).alloc (Nat.le_refl _) _).grown hgrow (by simp) (fun k hk => ?_)⟩
    cases hk
    exact Nat.le_refl _

/-- A slice value that is cut to its length, and the block that it lies in. -/
def clipV : Value → Value
  | .slice a n _ => .slice a n n
  | v => v

/-- Clipped: a row of its own of just n entries, whatever stands behind them. -/
def Cut (w : World) (base : Nat) (v : Value) (es : List Ent) : Prop :=
  (v = .slice none 0 0 ∧ es = []) ∨ ∃ g cur, v = .slice (some ⟨g, 0, none⟩) es.length es.length ∧ base ≤ g ∧ w.heap[g]? = some (.cells cur 34 (0, 0)) ∧ cur.toList.take (es.length * 6) = flat es

theorem length_flat (es : List Ent) : (flat es).length = es.length * 6 := by
  induction es with
  | nil => rfl
  | cons e r ih => simp only [flat, List.flatMap_cons, List.length_append, List.length_cons] at *; rw [ih]; simp [Ent.cells]; omega

theorem Cut.of {w : World} {base : Nat} {v : Value} {es : List Ent} (h : w.ownsRow base 34 6 v es.length (flat es)) : Cut w base (clipV v) es := by
  rcases h.2 with ⟨rfl, hn⟩ | ⟨g, cap, cur, rfl, hb, hg, hnc, hcm, hcs, ht⟩
  · refine .inl ⟨by simp [clipV], ?_⟩
    cases es with
    | nil => rfl
    | cons => simp at hn
  · refine .inr ⟨g, cur, rfl, hb, hg, ?_⟩
    exact ht

theorem entAt_of {w : World} {g k : Nat} {cur : Array Value} {es : List Ent} (hg : w.heap[g]? = some (.cells cur 34 (0, 0))) (ht : cur.toList.take (es.length * 6) = flat es) (h : k < es.length) : EntAt w g (0 + k * 6) es[k] := by
  have key : ∀ c (hc : c < 6), cur[k * 6 + c]? = some ((es[k].cells)[c]'(by simpa [Ent.cells] using hc)) := by
    intro c hc
    have h1 : (flat es)[k * 6 + c]? = some ((es[k].cells)[c]'(by simpa [Ent.cells] using hc)) := by
      clear ht
      induction es generalizing k with
      | nil => simp at h
      | cons e r ih =>
        simp only [flat, List.flatMap_cons]
        cases k with
        | zero =>
          rw [List.getElem?_append_left (by simp [Ent.cells]; omega)]
          simp only [Nat.zero_mul, Nat.zero_add, List.getElem_cons_zero]
          rw [List.getElem?_eq_getElem]
        | succ k =>
          rw [List.getElem?_append_right (by simp [Ent.cells]; omega)]
          have := ih (k := k) (by simpa using h)
          simp only [flat] at this
          rw [show (k + 1) * 6 + c - e.cells.length = k * 6 + c from by simp [Ent.cells]; omega, this]
          simp only [List.getElem_cons_succ]
    rw [← ht, List.getElem?_take] at h1
    rw [if_pos (by omega)] at h1
    simpa using h1
  refine ⟨?_, ?_, ?_, ?_, ?_, ?_⟩
  · have := key 0 (by omega); simp only [Nat.add_zero] at this; rw [Nat.zero_add]; exact cell_of hg this
  · rw [Nat.zero_add]; exact cell_of hg (key 1 (by omega))
  · rw [Nat.zero_add]; exact cell_of hg (key 2 (by omega))
  · rw [Nat.zero_add]; exact cell_of hg (key 3 (by omega))
  · rw [Nat.zero_add]; exact cell_of hg (key 4 (by omega))
  · rw [Nat.zero_add]; exact cell_of hg (key 5 (by omega))

theorem Cut.ents {w : World} {base : Nat} {v : Value} {es : List Ent} (h : Cut w base v es) : Ents w v es := by
  rcases h with ⟨rfl, rfl⟩ | ⟨g, cur, rfl, _, hg, ht⟩
  · exact ⟨none, 0, rfl, .inl rfl⟩
  · exact ⟨_, _, rfl, .inr ⟨g, 0, rfl, fun k hk => entAt_of hg ht hk⟩⟩

theorem ents_of_owns {w : World} {base : Nat} {v : Value} {es : List Ent} (h : w.ownsRow base 34 6 v es.length (flat es)) : Ents w v es := by
  rcases h.2 with ⟨rfl, hn⟩ | ⟨g, cap, cur, rfl, hb, hg, hnc, hcm, hcs, ht⟩
  · have : es = [] := by
      cases es with
      | nil => rfl
      | cons => simp at hn
    subst this
    exact ⟨none, 0, rfl, .inl rfl⟩
  · exact ⟨_, _, rfl, .inr ⟨g, 0, rfl, fun k hk => entAt_of hg ht hk⟩⟩

set_option maxHeartbeats 400000 in
theorem clip_any (a : Option Addr) (n cap : Nat) (w : World) (hn : n ≤ 1000) (hc : n ≤ cap) (hm : cap ≤ maxLen) (ha : a = none → n = 0 ∧ cap = 0) :
    Calls Try.prog 18 #[.slice a n cap] w fun e w' => e = .returned (.slice a n n) ∧ w' = w := by
  unfold maxLen at hm
  cases a with
  | none =>
    obtain ⟨rfl, rfl⟩ := ha rfl
    go_enter Try.func18, Try.ntmps18
    go_wp2
    go_ret
    exact ⟨rfl, rfl⟩
  | some p =>
    go_enter Try.func18, Try.ntmps18
    go_wp2
    go_ret
    exact ⟨rfl, rfl⟩
end Go.Proofs.Ytcemcphkgehbhaa
