/- RetiresPlay: whatever is added to a list and swept from it, behind each act the answer, all entries, how many there are and how many were born before an era are the document's list's: the call returns true, and its argument reads afterwards as before. No condition. -/
import Derived.Test.YtcemcphkgehbhaaO
import Derived.OpenShut
namespace Go.Proofs.Ytcemcphkgehbhaa
open Go.ChangeShapes Go.WideShapes Go.ChangeAt Go.RowKit Go.Deep

instance : Inhabited ActR := ⟨⟨false, default, [], 0⟩⟩
theorem cells37 : Try.prog.cellsOf 37 = 9 := by kernel_rfl
theorem cells35 : Try.prog.cellsOf 35 = 1 := by kernel_rfl

section
variable {H : Type} {enc : TypeId × Value → H} {w : World} {base : Nat} {spare : Nat → Bool} {held : Bool}

theorem slice_cell {fuel : Nat} {c : Value} {x : DataW H × List MemPlace} (h : DataW.trod enc Try.prog w base spare held fuel 35 [c] = some x) : ∃ a len cap, c = .slice a len cap := by
  rcases DataW.trod_slice Try.underlying35 h with ⟨h1, _⟩ | ⟨a, len, cap, _, _, _, _, h1, _⟩
  · simp only [List.cons.injEq, and_true] at h1
    exact ⟨_, _, _, h1⟩
  · simp only [List.cons.injEq, and_true] at h1
    exact ⟨_, _, _, h1⟩

/-- What an act's cells tell. -/
def ActCells (w : World) (cs : List Value) (x : ActR) : Prop :=
  ∃ ga gcap, cs = [.bool x.sweep] ++ x.e.cells ++ [.slice ga x.gone.length gcap, .int .u64 x.before] ∧ Bools w (.slice ga x.gone.length gcap) x.gone ∧
    (x.gone ≠ [] → ∀ g, Value.blk (.slice ga x.gone.length gcap) = some g → g < w.heap.size) ∧ x.e.wf ∧ x.gone.length ≤ 9223372036854775807

theorem act_of_trod {fuel : Nat} {cs : List Value} {x : DataW H × List MemPlace} (h : DataW.trod enc Try.prog w base spare held fuel 37 cs = some x) : ∃ x : ActR, ActCells w cs x := by
  obtain ⟨xs, n, rfl, _, hl, hxl, hf⟩ := DataW.trod_struct Try.underlying37 h
  rw [cells37] at hl
  match cs, hl with
  | [c0, c1, c2, c3, c4, c5, c6, c7, c8], _ =>
    simp only [List.size_toArray, List.length_cons, List.length_nil] at hxl
    match xs, hxl with
    | [x0, x1, x2, x3], _ =>
      have f0 : DataW.trod enc Try.prog w base spare held n 4 (([c0, c1, c2, c3, c4, c5, c6, c7, c8].drop 0).take (Try.prog.cellsOf 4)) = some x0 := hf 0 _ rfl
      have f1 : DataW.trod enc Try.prog w base spare held n 34 (([c0, c1, c2, c3, c4, c5, c6, c7, c8].drop 1).take (Try.prog.cellsOf 34)) = some x1 := hf 1 _ rfl
      have f2 : DataW.trod enc Try.prog w base spare held n 35 (([c0, c1, c2, c3, c4, c5, c6, c7, c8].drop 7).take (Try.prog.cellsOf 35)) = some x2 := hf 2 _ rfl
      have f3 : DataW.trod enc Try.prog w base spare held n 32 (([c0, c1, c2, c3, c4, c5, c6, c7, c8].drop 8).take (Try.prog.cellsOf 32)) = some x3 := hf 3 _ rfl
      rw [cells4] at f0
      rw [cells34] at f1
      rw [cells35] at f2
      rw [cells32] at f3
      simp only [List.drop_zero, List.drop_succ_cons, List.take_succ_cons, List.take_zero] at f0 f1 f2 f3
      obtain ⟨s, e0, _⟩ := DataW.trod_bool Try.underlying4 f0
      obtain ⟨e, e1, we⟩ := ent_of_trod f1
      obtain ⟨ga, glen, gcap, rfl⟩ := slice_cell f2
      obtain ⟨l, rfl, hB, hm, hb⟩ := open_bools f2
      obtain ⟨r, e3, _, _⟩ := DataW.trod_int Try.underlying32 f3
      simp only [List.cons.injEq, and_true] at e0 e3
      subst e0 e3
      unfold maxLen at hm
      refine ⟨⟨s, e, l, r⟩, ga, gcap, ?_, hB, hb, we, by simp only; omega⟩
      simp only [List.cons_append]
      rw [← e1]
      rfl

theorem open_acts {fuel : Nat} {a : Option Addr} {len cap : Nat} {x : DataW H × List MemPlace} (h : DataW.trod enc Try.prog w base spare held fuel 22 [.slice a len cap] = some x) :
    ∃ l : List ActR, l.length = len ∧ Acts w (.slice a len cap) l ∧ len ≤ maxLen := by
  rcases open_slice Try.underlying22 h with ⟨hcs, _⟩ | ⟨p, l, c, m, n, D, Pl, hcs, _, hl, hm, hmm, _, hel⟩
  · simp only [List.cons.injEq, Value.slice.injEq, and_true] at hcs
    obtain ⟨rfl, rfl, rfl⟩ := hcs
    exact ⟨[], rfl, ⟨none, 0, rfl, .inl rfl⟩, Nat.zero_le _⟩
  · simp only [List.cons.injEq, Value.slice.injEq, and_true] at hcs
    obtain ⟨rfl, rfl, rfl⟩ := hcs
    rw [cells37] at hel
    have hle : len ≤ m := by rw [hmm]; split <;> omega
    obtain ⟨f, hf⟩ := choose_lt (n := len) (p := fun i (x : ActR) => ∃ cs, w.cells? base (p.add (i * 9)) 9 = some cs ∧ ActCells w cs x) (fun i hi => by
      obtain ⟨cs', h1, h2⟩ := hel i (by omega)
      obtain ⟨x, hx⟩ := act_of_trod h2
      exact ⟨x, cs', h1, hx⟩)
    refine ⟨(List.range len).map f, by simp, ⟨some p, cap, by simp, ?_⟩, Nat.le_trans hl hm⟩
    rcases Nat.eq_zero_or_pos len with rfl | hpos
    · exact .inl rfl
    · have hsp : p.spot = none := by
        obtain ⟨cs, h1, _⟩ := hf 0 hpos
        rcases cellsAt h1 (by omega) with h | h
        · exact h
        · simp at h
      obtain ⟨b, off, spot⟩ := p
      simp only at hsp
      subst hsp
      refine .inr ⟨b, off, rfl, fun k hk => ?_⟩
      have hk' : k < len := by simpa using hk
      obtain ⟨cs, h1, ga, gcap, rfl, hB, hb, hw, hgl⟩ := hf k hk'
      obtain ⟨_, _, hc⟩ := World.cells?_some h1
      simp only [List.getElem_map, List.getElem_range]
      have key : ∀ j, j < 9 → w.cell? ⟨b, off + k * 9 + j, none⟩ = ([.bool (f k).sweep] ++ (f k).e.cells ++ [.slice ga (f k).gone.length gcap, .int .u64 (f k).before])[j]? := fun j hj => by
        rw [← hc j hj]
        congr 1
        unfold Addr.add
        by_cases h1 : k * 9 = 0 <;> by_cases h2 : j = 0 <;> simp [h1, h2, Nat.add_assoc]
      refine ⟨ga, gcap, ⟨?_, key 1 (by omega), key 2 (by omega), key 3 (by omega), key 4 (by omega), key 5 (by omega), key 6 (by omega), key 7 (by omega), key 8 (by omega)⟩, hB, hb, hw, hgl⟩
      have := key 0 (by omega)
      rw [Nat.add_zero] at this
      exact this
end

set_option maxRecDepth 100000 in
theorem play_lifted (os : Os) (started : os.Started) (H : Type) (enc : TypeId × Value → H) :
    ReturnsInHanded {} Try.checked os 3 .any (Rows.retiresPlaySpec.pre6 enc Try.prog Try.f3 Rows.retiresPlayRow.domain false) (Rows.retiresPlaySpec.post enc Try.prog Try.f3 false true false false) := by
  refine returnsInHanded_of_change (C := Try.checked) own started (by kernel_rfl) Try.func3
    (ChangeSpec.witness6 (enc := enc) (C := Try.checked) false ⟨#[], #[.slice none 0 0], []⟩ 8 (by kernel_rfl) (by kernel_rfl) (by kernel_rfl) (by kernel_rfl)) ?_
  intro W base args ds gs before hval0 hW hcnd _
  have hval : ∀ (j : Nat) t v, Try.f3.params[j]? = some t → args[j]? = some v → Value.okWide Try.prog W .any base t v := hval0
  have hW' := hW
  obtain ⟨p, q, hA0, hV, rfl, hfz, hnd⟩ := hW
  have hA : DataW.TrodAll enc Try.prog W 0 (fun _ => true) true Try.f3.params.toList args.toList ds p := hA0
  rw [Try.params3] at hA hval
  obtain ⟨v0, vs0, d0, ds0, p0, q0, hargs, rfl, rfl, h0, r0⟩ := trodAll_cons hA
  obtain ⟨rfl, rfl, rfl⟩ := trodAll_nil r0
  obtain rfl : args = #[v0] := by cases args; simp_all
  obtain ⟨rfl, rfl⟩ := trodVars_none hV
  obtain ⟨a0, len0, cap0, rfl⟩ := okWide_slice Try.underlying22 (hval 0 22 v0 rfl rfl)
  have k0 := h0
  have lt0 : ∀ x ∈ p0, x.block < W.heap.size := by obtain ⟨m, hm⟩ := k0; exact DataW.trod_lt m _ _ _ hm
  obtain ⟨l, e0, hl, hm⟩ : ∃ l : List ActR, l.length = len0 ∧ Acts W (.slice a0 len0 cap0) l ∧ len0 ≤ maxLen := by
    obtain ⟨fuel, hf⟩ := h0
    exact open_acts hf
  unfold maxLen at hm
  clear hA0 hval0
  refine (play_walk W _ l hl (by omega)).mono fun e W' ⟨he, bel⟩ => ?_
  subst he
  exact ⟨_, rfl, _, _, _, [], _, [], hW', trodAll_mk1 (shut_bool Try.underlying4 _), (trodAll_cons_mk (Below.trod laidOut (by kernel_rfl) (of_decide_eq_true (by kernel_rfl)) k0 bel lt0) trodAll_mk0), rfl, bel.frame _, fun h => by cases h⟩

theorem play_holds : Rows.RetiresPlaySaid :=
  OpenClaim.holds_of_wide 3 Try.f3 rfl rfl rfl rfl rfl rfl rfl ⟨rfl, rfl, rfl, rfl, rfl⟩ rfl rfl rfl rfl rfl (by kernel_rfl) Try.func3 (by kernel_rfl)
    (of_decide_eq_true (by kernel_rfl)) (by unfold Func.isWrapper; first | (rw [if_pos (by decide +kernel)]; kernel_rfl) | (rw [if_neg (by decide +kernel)]; exact ⟨rfl, rfl⟩))
    (fun os started H enc _ => play_lifted os started H enc)
#print axioms play_holds
end Go.Proofs.Ytcemcphkgehbhaa
