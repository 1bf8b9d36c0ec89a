/- How the arguments of SnapsPlay read; the ways out ahead of the play. -/
import Derived.Test.YtjnbkpklcmkdlaaSQ
import Derived.Test.YtjnbkpklcmkdlaaSI
namespace Go.Proofs.Ytjnbkpklcmkdlaa
open Go.ChangeShapes Go.WideShapes Go.ChangeAt Go.RowKit Go.Deep

theorem cellsSt : Try.prog.cellsOf 73 = 4 := by kernel_rfl
theorem cellsAd : Try.prog.cellsOf 30 = 3 := by kernel_rfl
theorem cellsIn : Try.prog.cellsOf 3 = 1 := by kernel_rfl
theorem cellsKd : Try.prog.cellsOf 28 = 1 := by kernel_rfl
section
variable {H : Type} {enc : TypeId × Value → H} {w : World} {base : Nat} {spare : Nat → Bool} {held : Bool}
set_option maxRecDepth 100000 in
theorem adr_of {fuel : Nat} {cs : List Value} {x : DataW H × List MemPlace} (h : DataW.trod enc Try.prog w base spare held fuel 30 cs = some x) :
    ∃ a : Adr, cs = [.int .u8 a.1, .int .i64 a.2.1, .int .i64 a.2.2] ∧ AdrWf a := by
  obtain ⟨xs, n, rfl, _, hl, hxl, hf⟩ := DataW.trod_struct Try.underlying30 h
  rw [cellsAd] at hl
  match cs, hl with
  | [c0, c1, c2], _ =>
    simp only [List.size_toArray, List.length_cons, List.length_nil] at hxl
    match xs, hxl with
    | [x0, x1, x2], _ =>
      have f0 : DataW.trod enc Try.prog w base spare held n 28 (([c0, c1, c2].drop 0).take (Try.prog.cellsOf 28)) = some x0 := hf 0 _ rfl
      have f1 : DataW.trod enc Try.prog w base spare held n 3 (([c0, c1, c2].drop 1).take (Try.prog.cellsOf 3)) = some x1 := hf 1 _ rfl
      have f2 : DataW.trod enc Try.prog w base spare held n 3 (([c0, c1, c2].drop 2).take (Try.prog.cellsOf 3)) = some x2 := hf 2 _ rfl
      rw [cellsKd] at f0
      rw [cellsIn] at f1 f2
      simp only [List.drop_zero, List.drop_succ_cons, List.take_succ_cons, List.take_zero] at f0 f1 f2
      obtain ⟨k, e0, _, w0⟩ := DataW.trod_int Try.underlying28 f0
      obtain ⟨a, e1, _, w1⟩ := DataW.trod_int Try.underlying3 f1
      obtain ⟨b, e2, _, w2⟩ := DataW.trod_int Try.underlying3 f2
      simp only [List.cons.injEq, and_true] at e0 e1 e2
      subst e0 e1 e2
      exact ⟨(k, a, b), rfl, w0, w1, w2⟩
set_option maxRecDepth 100000 in
theorem sto_of {fuel : Nat} {cs : List Value} {x : DataW H × List MemPlace} (h : DataW.trod enc Try.prog w base spare held fuel 73 cs = some x) :
    ∃ e : Adr × Int, cs = [.int .u8 e.1.1, .int .i64 e.1.2.1, .int .i64 e.1.2.2, .int .u64 e.2] ∧ AdrWf e.1 ∧ (Lit.int .u64 e.2).wf = true := by
  obtain ⟨xs, n, rfl, _, hl, hxl, hf⟩ := DataW.trod_struct Try.underlying73 h
  rw [cellsSt] at hl
  match cs, hl with
  | [c0, c1, c2, c3], _ =>
    simp only [List.size_toArray, List.length_cons, List.length_nil] at hxl
    match xs, hxl with
    | [x0, x1], _ =>
      have f0 : DataW.trod enc Try.prog w base spare held n 30 (([c0, c1, c2, c3].drop 0).take (Try.prog.cellsOf 30)) = some x0 := hf 0 _ rfl
      have f1 : DataW.trod enc Try.prog w base spare held n 22 (([c0, c1, c2, c3].drop 3).take (Try.prog.cellsOf 22)) = some x1 := hf 1 _ rfl
      rw [cellsAd] at f0
      rw [cellsU64] at f1
      simp only [List.drop_zero, List.drop_succ_cons, List.take_succ_cons, List.take_zero] at f0 f1
      obtain ⟨a, e0, ha⟩ := adr_of f0
      obtain ⟨v, e1, _, w1⟩ := DataW.trod_int Try.underlying22 f1
      simp only [List.cons.injEq, and_true] at e0 e1
      obtain ⟨rfl, rfl, rfl⟩ := e0
      subst e1
      exact ⟨(a, v), rfl, ha, w1⟩
/-- A slice of stores that came in. -/
theorem open_sts {fuel : Nat} {a : Option Addr} {len cap : Nat} {x : DataW H × List MemPlace} (h : DataW.trod enc Try.prog w base spare held fuel 62 [.slice a len cap] = some x) :
    ∃ l : Ws, l.length = len ∧ Sts w (.slice a len cap) l ∧ StsWf l ∧ len ≤ maxLen := by
  rcases open_slice Try.underlying62 h with ⟨hcs, _⟩ | ⟨p, l, c, m, n, D, Pl, hcs, _, hl, hm, hmm, _, hel⟩
  · simp only [List.cons.injEq, Value.slice.injEq, and_true] at hcs
    obtain ⟨rfl, rfl, rfl⟩ := hcs
    exact ⟨[], rfl, ⟨none, 0, rfl, .inl rfl⟩, fun k hk => by simp at hk, Nat.zero_le _⟩
  · simp only [List.cons.injEq, Value.slice.injEq, and_true] at hcs
    obtain ⟨rfl, rfl, rfl⟩ := hcs
    rw [cellsSt] at hel
    have hle : len ≤ m := by rw [hmm]; split <;> omega
    have hch : ∃ f : Nat → (Adr × Int), ∀ i, i < len → (w.cell? ((p.add (i * 4)).add 0) = some (.int .u8 (f i).1.1) ∧ w.cell? ((p.add (i * 4)).add 1) = some (.int .i64 (f i).1.2.1) ∧ w.cell? ((p.add (i * 4)).add 2) = some (.int .i64 (f i).1.2.2) ∧ w.cell? ((p.add (i * 4)).add 3) = some (.int .u64 (f i).2)) ∧ AdrWf (f i).1 ∧ (Lit.int .u64 (f i).2).wf = true :=
      choose_lt (n := len) (p := fun i (e : Adr × Int) => (w.cell? ((p.add (i * 4)).add 0) = some (.int .u8 e.1.1) ∧ w.cell? ((p.add (i * 4)).add 1) = some (.int .i64 e.1.2.1) ∧ w.cell? ((p.add (i * 4)).add 2) = some (.int .i64 e.1.2.2) ∧ w.cell? ((p.add (i * 4)).add 3) = some (.int .u64 e.2)) ∧ AdrWf e.1 ∧ (Lit.int .u64 e.2).wf = true) (fun i hi => by
        obtain ⟨cs', h1, h2⟩ := hel i (by omega)
        obtain ⟨e, rfl, ha, hv⟩ := sto_of h2
        obtain ⟨_, hcl, hat⟩ := World.cells?_some h1
        exact ⟨e, ⟨by rw [hat 0 (by decide)]; rfl, by rw [hat 1 (by decide)]; rfl, by rw [hat 2 (by decide)]; rfl, by rw [hat 3 (by decide)]; rfl⟩, ha, hv⟩)
    obtain ⟨f, hf⟩ := hch
    have hwf : StsWf ((List.range len).map f) := fun k hk => by
      have hk' : k < len := by simpa using hk
      simp only [List.getElem_map, List.getElem_range]
      exact (hf k hk').2
    refine ⟨(List.range len).map f, by simp, ⟨some p, cap, by simp, ?_⟩, hwf, Nat.le_trans hl hm⟩
    rcases Nat.eq_zero_or_pos len with hz | hpos
    · left
      rw [hz]
      rfl
    · have hsp : p.spot = none := by
        obtain ⟨cs', h1, _⟩ := hel 0 (by omega)
        rcases cellsAt h1 (by omega) with h | h
        · exact h
        · simp at h
      obtain ⟨b, off, spot⟩ := p
      simp only at hsp
      subst hsp
      have key : ∀ k j, ((⟨b, off, none⟩ : Addr).add (k * 4)).add j = ⟨b, off + k * 4 + j, none⟩ := fun k j => by
        unfold Addr.add
        by_cases h1 : k * 4 = 0 <;> by_cases h2 : j = 0 <;> simp [h1, h2]
      refine .inr ⟨b, off, rfl, ?_, fun k hk => ?_⟩
      · have := (hf 0 hpos).1.1
        rw [key] at this
        exact World.block_lt_of_cell? _ _ this
      · have hk' : k < len := by simpa using hk
        have h1 := (hf k hk').1
        rw [key, key, key, key] at h1
        simp only [List.getElem_map, List.getElem_range]
        exact h1
end

set_option maxHeartbeats 1000000 in
set_option maxRecDepth 100000 in
theorem play_long1 (w : World) {a1 a2 : Option Addr} {n1 n2 c1 c2 : Nat} (hn : 300 < n1) (hm : n1 ≤ maxLen) : Calls Try.prog 5 #[.slice a1 n1 c1, .slice a2 n2 c2] w (LivesPost w) := by
  unfold maxLen at hm
  have hd1 : decide ((n1 : Int) > 300) = true := decide_eq_true (p := 300 < (n1 : Int)) (by omega)
  go_enter Try.func5, Try.ntmps5
  go_wp2_with fail
  refine (lives14_any _).mono ?_
  rintro _ w1 ⟨rfl, hb⟩
  have HB := Lib.hid hb
  clear hb
  go_wp2_with fail
  go_ret
  exact ⟨rfl, HB.out⟩
set_option maxHeartbeats 1000000 in
set_option maxRecDepth 100000 in
theorem play_long2 (w : World) {a1 a2 : Option Addr} {n1 n2 c1 c2 : Nat} (hn : n1 ≤ 300) (hn2 : 400 < n2) (hm : n2 ≤ maxLen) : Calls Try.prog 5 #[.slice a1 n1 c1, .slice a2 n2 c2] w (LivesPost w) := by
  unfold maxLen at hm
  have hd1 : decide ((n1 : Int) > 300) = false := decide_eq_false (p := 300 < (n1 : Int)) (by omega)
  have hd2 : decide ((n2 : Int) > 400) = true := decide_eq_true (p := 400 < (n2 : Int)) (by omega)
  go_enter Try.func5, Try.ntmps5
  go_wp2_with fail
  refine (lives14_any _).mono ?_
  rintro _ w1 ⟨rfl, hb⟩
  have HB := Lib.hid hb
  clear hb
  go_wp2_with fail
  go_ret
  exact ⟨rfl, HB.out⟩
end Go.Proofs.Ytjnbkpklcmkdlaa
