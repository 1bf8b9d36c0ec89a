/- How the arguments of this seat's laws read: slices of entries, slices of bools. -/
import Derived.Test.YtcemcphkgehbhaaL
import Derived.ProofKit
import Derived.ChangeOld
import Derived.Deep.Slices
namespace Go.Proofs.Ytcemcphkgehbhaa
open Go.ChangeShapes Go.WideShapes Go.ChangeAt Go.RowKit Go.Deep

theorem own : ownKnob Try.prog.godebug = none := by kernel_rfl
theorem laidOut : laidOutB Try.prog = true := by kernel_rfl
theorem cells34 : Try.prog.cellsOf 34 = 6 := by kernel_rfl
theorem cells31 : Try.prog.cellsOf 31 = 3 := by kernel_rfl
theorem cells32 : Try.prog.cellsOf 32 = 1 := by kernel_rfl
theorem cells29 : Try.prog.cellsOf 29 = 1 := by kernel_rfl
theorem cells3 : Try.prog.cellsOf 3 = 1 := by kernel_rfl
theorem cells4 : Try.prog.cellsOf 4 = 1 := by kernel_rfl

section
variable {H : Type} {enc : TypeId × Value → H} {w : World} {base : Nat} {spare : Nat → Bool} {held : Bool}

theorem ref_of_trod {fuel : Nat} {cs : List Value} {x : DataW H × List MemPlace} (h : DataW.trod enc Try.prog w base spare held fuel 31 cs = some x) :
    ∃ s g m, cs = [.int .i64 s, .int .u32 g, .bool m] ∧ (Lit.int .i64 s).wf = true ∧ (Lit.int .u32 g).wf = true := by
  obtain ⟨xs, n, rfl, _, hl, hxl, hf⟩ := DataW.trod_struct Try.underlying31 h
  rw [cells31] at hl
  match cs, hl with
  | [c0, c1, c2], _ =>
    simp only [List.size_toArray, List.length_cons, List.length_nil] at hxl
    match xs, hxl with
    | [x0, x1, x2], _ =>
      have f0 : DataW.trod enc Try.prog w base spare held n 3 (([c0, c1, c2].drop 0).take (Try.prog.cellsOf 3)) = some x0 := hf 0 _ rfl
      have f1 : DataW.trod enc Try.prog w base spare held n 29 (([c0, c1, c2].drop 1).take (Try.prog.cellsOf 29)) = some x1 := hf 1 _ rfl
      have f2 : DataW.trod enc Try.prog w base spare held n 4 (([c0, c1, c2].drop 2).take (Try.prog.cellsOf 4)) = some x2 := hf 2 _ rfl
      rw [cells3] at f0
      rw [cells29] at f1
      rw [cells4] at f2
      obtain ⟨s, e0, _, w0⟩ := DataW.trod_int Try.underlying3 f0
      obtain ⟨g, e1, _, w1⟩ := DataW.trod_int Try.underlying29 f1
      obtain ⟨m, e2, _⟩ := DataW.trod_bool Try.underlying4 f2
      simp only [List.drop_zero, List.drop_succ_cons, List.take_succ_cons, List.take_zero, List.cons.injEq, and_true] at e0 e1 e2
      subst e0 e1 e2
      exact ⟨s, g, m, rfl, w0, w1⟩

theorem ent_of_trod {fuel : Nat} {cs : List Value} {x : DataW H × List MemPlace} (h : DataW.trod enc Try.prog w base spare held fuel 34 cs = some x) :
    ∃ e : Ent, cs = e.cells ∧ e.wf := by
  obtain ⟨xs, n, rfl, _, hl, hxl, hf⟩ := DataW.trod_struct Try.underlying34 h
  rw [cells34] at hl
  match cs, hl with
  | [c0, c1, c2, c3, c4, c5], _ =>
    simp only [List.size_toArray, List.length_cons, List.length_nil] at hxl
    match xs, hxl with
    | [x0, x1, x2, x3], _ =>
      have f0 : DataW.trod enc Try.prog w base spare held n 31 (([c0, c1, c2, c3, c4, c5].drop 0).take (Try.prog.cellsOf 31)) = some x0 := hf 0 _ rfl
      have f1 : DataW.trod enc Try.prog w base spare held n 32 (([c0, c1, c2, c3, c4, c5].drop 3).take (Try.prog.cellsOf 32)) = some x1 := hf 1 _ rfl
      have f2 : DataW.trod enc Try.prog w base spare held n 32 (([c0, c1, c2, c3, c4, c5].drop 4).take (Try.prog.cellsOf 32)) = some x2 := hf 2 _ rfl
      have f3 : DataW.trod enc Try.prog w base spare held n 32 (([c0, c1, c2, c3, c4, c5].drop 5).take (Try.prog.cellsOf 32)) = some x3 := hf 3 _ rfl
      rw [cells31] at f0
      rw [cells32] at f1 f2 f3
      obtain ⟨s, g, m, e0, w0, w1⟩ := ref_of_trod f0
      obtain ⟨b, e1, _, w2⟩ := DataW.trod_int Try.underlying32 f1
      obtain ⟨p, e2, _, w3⟩ := DataW.trod_int Try.underlying32 f2
      obtain ⟨r, e3, _, w4⟩ := DataW.trod_int Try.underlying32 f3
      simp only [List.drop_zero, List.drop_succ_cons, List.take_succ_cons, List.take_zero, List.cons.injEq, and_true] at e0 e1 e2 e3
      obtain ⟨rfl, rfl, rfl⟩ := e0
      subst e1 e2 e3
      exact ⟨⟨s, g, m, b, p, r⟩, rfl, w0, w1, w2, w3, w4⟩

theorem cellsAt {a : Addr} {n i : Nat} {cs : List Value} (h : w.cells? base (a.add i) n = some cs) (hn : 0 < n) : a.spot = none ∨ i ≠ 0 := by
  obtain ⟨_, hl, hc⟩ := World.cells?_some h
  rcases Nat.eq_zero_or_pos i with rfl | hi
  · left
    have h0 := hc 0 hn
    have e : (a.add 0).add 0 = a := by simp [Addr.add]
    rw [e, List.getElem?_eq_getElem (by omega)] at h0
    cases hs : a.spot with
    | none => rfl
    | some x =>
      simp only [World.cell?, hs] at h0
      split at h0 <;> simp at h0
  · right; omega

/-- A slice of entries that came in. -/
theorem open_ents {fuel : Nat} {a : Option Addr} {len cap : Nat} {x : DataW H × List MemPlace} (h : DataW.trod enc Try.prog w base spare held fuel 26 [.slice a len cap] = some x) :
    ∃ es : List Ent, es.length = len ∧ (∀ e ∈ es, e.wf) ∧ Ents w (.slice a len cap) es ∧ len ≤ maxLen := by
  rcases open_slice Try.underlying26 h with ⟨hcs, _⟩ | ⟨p, l, c, m, n, D, Pl, hcs, _, hl, hm, hmm, _, hel⟩
  · simp only [List.cons.injEq, Value.slice.injEq, and_true] at hcs
    obtain ⟨rfl, rfl, rfl⟩ := hcs
    exact ⟨[], rfl, by simp, ⟨none, 0, rfl, .inl rfl⟩, Nat.zero_le _⟩
  · simp only [List.cons.injEq, Value.slice.injEq, and_true] at hcs
    obtain ⟨rfl, rfl, rfl⟩ := hcs
    rw [cells34] at hel
    have hle : len ≤ m := by rw [hmm]; split <;> omega
    have hch : ∃ f : Nat → Ent, ∀ i, i < len → (w.cells? base (p.add (i * 6)) 6 = some (f i).cells ∧ (f i).wf) := choose_lt (n := len) (p := fun i (e : Ent) => w.cells? base (p.add (i * 6)) 6 = some e.cells ∧ e.wf) (fun i hi => by
      obtain ⟨cs', h1, h2⟩ := hel i (by omega)
      obtain ⟨e, rfl, he⟩ := ent_of_trod h2
      exact ⟨e, h1, he⟩)
    obtain ⟨f, hf⟩ := hch
    refine ⟨(List.range len).map f, by simp, ?_, ?_, Nat.le_trans hl hm⟩
    · intro e he
      obtain ⟨i, hi, rfl⟩ := List.mem_map.1 he
      exact (hf i (by simpa using hi)).2
    · refine ⟨some p, cap, by simp, ?_⟩
      rcases Nat.eq_zero_or_pos len with rfl | hpos
      · exact .inl rfl
      · have hsp : p.spot = none := by
          rcases cellsAt (hf 0 hpos).1 (by omega) with h | h
          · exact h
          · simp at h
        obtain ⟨b, off, spot⟩ := p
        simp only at hsp
        subst hsp
        refine .inr ⟨b, off, rfl, fun k hk => ?_⟩
        have hk' : k < len := by simpa using hk
        obtain ⟨_, _, hc⟩ := World.cells?_some (hf k hk').1
        simp only [List.getElem_map, List.getElem_range]
        have key : ∀ j, j < 6 → w.cell? ⟨b, off + k * 6 + j, none⟩ = (f k).cells[j]? := fun j hj => by
          rw [← hc j hj]
          congr 1
          unfold Addr.add
          by_cases h1 : k * 6 = 0 <;> by_cases h2 : j = 0 <;> simp [h1, h2, Nat.add_assoc]
        refine ⟨?_, key 1 (by omega), key 2 (by omega), key 3 (by omega), key 4 (by omega), key 5 (by omega)⟩
        have := key 0 (by omega)
        rw [Nat.add_zero] at this
        exact this

/-- A slice of bools that came in. -/
theorem open_bools {fuel : Nat} {a : Option Addr} {len cap : Nat} {x : DataW H × List MemPlace} (h : DataW.trod enc Try.prog w base spare held fuel 35 [.slice a len cap] = some x) :
    ∃ l : List Bool, l.length = len ∧ Bools w (.slice a len cap) l ∧ len ≤ maxLen ∧ (l ≠ [] → ∀ b, Value.blk (.slice a len cap) = some b → b < w.heap.size) := by
  rcases open_slice Try.underlying35 h with ⟨hcs, _⟩ | ⟨p, l, c, m, n, D, Pl, hcs, _, hl, hm, hmm, _, hel⟩
  · simp only [List.cons.injEq, Value.slice.injEq, and_true] at hcs
    obtain ⟨rfl, rfl, rfl⟩ := hcs
    exact ⟨[], rfl, ⟨none, 0, rfl, .inl rfl⟩, Nat.zero_le _, fun h => absurd rfl h⟩
  · simp only [List.cons.injEq, Value.slice.injEq, and_true] at hcs
    obtain ⟨rfl, rfl, rfl⟩ := hcs
    rw [cells4] at hel
    have hle : len ≤ m := by rw [hmm]; split <;> omega
    have hch : ∃ f : Nat → Bool, ∀ i, i < len → w.cells? base (p.add (i * 1)) 1 = some [.bool (f i)] := choose_lt (n := len) (p := fun i b => w.cells? base (p.add (i * 1)) 1 = some [.bool b]) (fun i hi => by
      obtain ⟨cs', h1, h2⟩ := hel i (by omega)
      obtain ⟨b, rfl, _⟩ := DataW.trod_bool Try.underlying4 h2
      exact ⟨b, h1⟩)
    obtain ⟨f, hf⟩ := hch
    have hb : Bools w (.slice (some p) len cap) ((List.range len).map f) := by
      refine ⟨some p, cap, by simp, ?_⟩
      rcases Nat.eq_zero_or_pos len with rfl | hpos
      · exact .inl rfl
      · have hsp : p.spot = none := by
          rcases cellsAt (hf 0 hpos) (by omega) with h | h
          · exact h
          · simp at h
        obtain ⟨b, off, spot⟩ := p
        simp only at hsp
        subst hsp
        refine .inr ⟨b, off, rfl, fun k hk => ?_⟩
        have hk' : k < len := by simpa using hk
        have := cell_of_cells?_one (hf k hk')
        rw [Nat.mul_one] at this
        simp only [List.getElem_map, List.getElem_range]
        rw [← this]
        congr 1
        unfold Addr.add
        by_cases h1 : k = 0 <;> simp [h1]
    exact ⟨_, by simp, hb, Nat.le_trans hl hm, fun hne => hb.lt hne⟩
end
end Go.Proofs.Ytcemcphkgehbhaa
