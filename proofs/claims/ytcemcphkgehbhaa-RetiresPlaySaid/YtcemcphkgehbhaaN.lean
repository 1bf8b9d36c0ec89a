/- Two lists, the program's and the document's, side by side; an act as it lies in memory. -/
import Derived.Test.YtcemcphkgehbhaaM
import Derived.Deep.RegionHeld3
namespace Go.Proofs.Ytcemcphkgehbhaa
open Go.RowKit

/-- L: the program's list; R: the document's; both made since w0, apart from each other. -/
structure Two (w0 w : World) (L R : Nat) (es es2 : List Ent) (N : Nat) (fp fr : List Nat) : Prop where
  st : St w0 w L es N fp
  ref : RefAt w R es2 fr
  new : ∀ b ∈ fr, w0.heap.size ≤ b
  dis : ∀ b ∈ fp, b ∉ fr

theorem Two.mods {w0 w w' : World} {S : Nat → Prop} {L R : Nat} {es es2 : List Ent} {N : Nat} {fp fr : List Nat} (h : Two w0 w L R es es2 N fp fr) (hm : Mod S w w') (h1 : ∀ b ∈ fp, ¬ S b) (h2 : ∀ b ∈ fr, ¬ S b) (h3 : ∀ b, S b → w0.heap.size ≤ b) : Two w0 w' L R es es2 N fp fr :=
  ⟨h.st.mods hm h1 h3, h.ref.keep hm h2, h.new, h.dis⟩
theorem Two.below {w0 w w' : World} {L R : Nat} {es es2 : List Ent} {N : Nat} {fp fr : List Nat} (h : Two w0 w L R es es2 N fp fr) (hb : Below w.heap.size w w') : Two w0 w' L R es es2 N fp fr :=
  h.mods (Mod.ofBelow hb (fun _ => False)) (fun _ _ h => h) (fun _ _ h => h) (fun _ h => h.elim)
theorem Two.mod0 {w0 w w' : World} {L R : Nat} {es es2 : List Ent} {N : Nat} {fp fr : List Nat} (h : Two w0 w L R es es2 N fp fr) (hb : Mod (fun _ => False) w w') : Two w0 w' L R es es2 N fp fr :=
  h.mods hb (fun _ _ h => h) (fun _ _ h => h) (fun _ h => h.elim)

theorem Two.left {w0 w w' : World} {L R : Nat} {es es' es2 : List Ent} {N N' : Nat} {fp fp' fr : List Nat} (h : Two w0 w L R es es2 N fp fr) (hs : St w0 w' L es' N' fp') (ht : Turn fp fp' w w') : Two w0 w' L R es' es2 N' fp' fr :=
  ⟨hs, h.ref.keep ht.mod (fun b hb hf => h.dis b hf hb), h.new, fun b hb hf => by
    rcases ht.fresh b hb with h1 | h1
    · exact h.dis b h1 hf
    · have := h.ref.ltfp b hf; omega⟩
theorem Two.right {w0 w w' : World} {L R : Nat} {es es2 es2' : List Ent} {N : Nat} {fp fr fr' : List Nat} (h : Two w0 w L R es es2 N fp fr) (hr : RefAt w' R es2' fr') (ht : Turn fr fr' w w') : Two w0 w' L R es es2' N fp fr' :=
  ⟨h.st.mods ht.mod (fun b hb hf => h.dis b hb hf) h.new, hr, fun b hb => by
    rcases ht.fresh b hb with h1 | h1
    · exact h.new b h1
    · have := h.st.mod.size; omega, fun b hb hf => by
    rcases ht.fresh b hf with h1 | h1
    · exact h.dis b hb h1
    · have := h.st.ret.ltfp b hb; omega⟩

theorem Two.mono {w0 w : World} {L R : Nat} {es es2 : List Ent} {N M : Nat} {fp fr : List Nat} (h : Two w0 w L R es es2 N fp fr) (hM : N ≤ M) : Two w0 w L R es es2 M fp fr :=
  ⟨⟨h.st.ret.mono hM, h.st.mod, h.st.new⟩, h.ref, h.new, h.dis⟩
theorem Cut.keep {S : Nat → Prop} {w w' : World} {base : Nat} {v : Value} {es : List Ent} (h : Cut w base v es) (hm : Mod S w w') (hs : ∀ b, Value.blk v = some b → ¬ S b) : Cut w' base v es := by
  rcases h with h | ⟨g, cur, rfl, a2, a3, a4⟩
  · exact .inl h
  · exact .inr ⟨g, cur, rfl, a2, hm.keep a3 (hs g rfl), a4⟩

structure ActR where
  sweep : Bool
  e : Ent
  gone : List Bool
  before : Int

/-- An act's nine cells; gv: its slice of bools. -/
def ActAt (w : World) (b o : Nat) (x : ActR) (gv : Value) : Prop :=
  w.cell? ⟨b, o, none⟩ = some (.bool x.sweep) ∧ w.cell? ⟨b, o + 1, none⟩ = some (.int .i64 x.e.slot) ∧ w.cell? ⟨b, o + 2, none⟩ = some (.int .u32 x.e.gen) ∧ w.cell? ⟨b, o + 3, none⟩ = some (.bool x.e.mark) ∧
  w.cell? ⟨b, o + 4, none⟩ = some (.int .u64 x.e.birth) ∧ w.cell? ⟨b, o + 5, none⟩ = some (.int .u64 x.e.epoch) ∧ w.cell? ⟨b, o + 6, none⟩ = some (.int .u64 x.e.era) ∧ w.cell? ⟨b, o + 7, none⟩ = some gv ∧
  w.cell? ⟨b, o + 8, none⟩ = some (.int .u64 x.before)

theorem ActAt.keep {S : Nat → Prop} {w w' : World} {b o : Nat} {x : ActR} {gv : Value} (h : ActAt w b o x gv) (hm : Mod S w w') (hb : ¬ S b) : ActAt w' b o x gv := by
  obtain ⟨h0, h1, h2, h3, h4, h5, h6, h7, h8⟩ := h
  have hk : ∀ j u, w.cell? ⟨b, j, none⟩ = some u → w'.cell? ⟨b, j, none⟩ = some u := fun j u hu => by
    rw [World.cell?_of_block (w := w) (hm.block b (World.block_lt_of_cell? _ _ hu) hb)]; exact hu
  exact ⟨hk _ _ h0, hk _ _ h1, hk _ _ h2, hk _ _ h3, hk _ _ h4, hk _ _ h5, hk _ _ h6, hk _ _ h7, hk _ _ h8⟩

/-- A slice value that reads as acts. -/
def Acts (w : World) (v : Value) (l : List ActR) : Prop :=
  ∃ a cap, v = .slice a l.length cap ∧ (l = [] ∨ ∃ b off, a = some ⟨b, off, none⟩ ∧ ∀ k (h : k < l.length), ∃ ga gcap, ActAt w b (off + k * 9) l[k] (.slice ga l[k].gone.length gcap) ∧ Bools w (.slice ga l[k].gone.length gcap) l[k].gone ∧
    (l[k].gone ≠ [] → ∀ g, Value.blk (.slice ga l[k].gone.length gcap) = some g → g < w.heap.size) ∧ l[k].e.wf ∧ l[k].gone.length ≤ 9223372036854775807)

def stepL (es : List Ent) (x : ActR) : List Ent := if x.sweep = true then leftK es x.gone es.length else addL es x.e
theorem stepL_le (es : List Ent) (x : ActR) : (stepL es x).length ≤ es.length + 1 := by
  unfold stepL
  split
  · have := leftK_le es x.gone es.length; omega
  · exact addL_le es x.e

/-- 'append([]bool(nil), gone...)'. -/
theorem bools_made {w : World} {base : Nat} {v : Value} {l : List Bool} (h : w.ownsRow base 4 1 v l.length (l.map .bool)) : Bools w v l ∧ ∀ b, Value.blk v = some b → base ≤ b ∧ b < w.heap.size := by
  rcases h.2 with ⟨rfl, hn⟩ | ⟨g, cap, cur, rfl, hb, hg, hnc, hcm, hcs, ht⟩
  · have : l = [] := List.eq_nil_of_length_eq_zero hn
    subst this
    exact ⟨⟨none, 0, rfl, .inl rfl⟩, fun b hb => by cases hb⟩
  · refine ⟨⟨some ⟨g, 0, none⟩, cap, rfl, .inr ⟨g, 0, rfl, fun k hk => ?_⟩⟩, fun b hb' => by cases hb'; exact ⟨hb, lt_of_block hg⟩⟩
    rw [Nat.zero_add]
    refine cell_of hg ?_
    have h1 : (l.map Value.bool)[k]? = some (.bool l[k]) := by rw [List.getElem?_map, List.getElem?_eq_getElem hk]; rfl
    rw [← ht, List.getElem?_take] at h1
    split at h1
    · simpa using h1
    · cases h1

theorem run_append_nil_any {w : World} {gv : Value} {l : List Bool} (hb : Bools w gv l) (hl : l.length ≤ 1000) (ty : TypeId) :
    ∃ v' w', (Builtin.append_ #[35, 35] ty #[.slice none 0 0, gv]).run Try.prog w = .ok v' w' ∧ w'.ownsRow w.heap.size 4 1 v' l.length (l.map .bool) ∧ Mod (fun _ => False) w w' := by
  obtain ⟨a, cap, rfl, hb⟩ := hb
  obtain ⟨i4, hi4, hy0, hy1, hy2⟩ := info_parts info4
  have h0 : w.ownsRow w.heap.size 4 1 (.slice none 0 0) 0 [] := World.ownsRow_nil _ _ _ _
  cases a with
  | none =>
    have hl0 : l = [] := by
      rcases hb with h | ⟨b, off, h, _⟩
      · exact h
      · cases h
    subst hl0
    exact ⟨.slice none 0 0, w, by simp [Builtin.append_, run_underlying Try.underlying35, sizeOf, typeInfo, hi4, Builtin.lenOf, Builtin.firstCells], h0, Mod.refl _ _⟩
  | some p =>
    have hnews : ∀ j u, (l.map Value.bool)[j]? = some u → w.cell? (p.add j) = some u := by
      intro j u hu
      rcases hb with h | ⟨b, off, h, hc⟩
      · subst h; simp at hu
      · cases h
        have hj : j < l.length := by
          rcases Nat.lt_or_ge j l.length with h | h
          · exact h
          · rw [List.getElem?_eq_none (by simpa using h)] at hu; cases hu
        rw [List.getElem?_map, List.getElem?_eq_getElem hj] at hu
        simp only [Option.map_some, Option.some.injEq] at hu
        subst hu
        rw [← hc j hj]
        congr 1
        unfold Addr.add
        by_cases h : j = 0 <;> simp [h]
    obtain ⟨v', w', hr, h1, h2, _⟩ := run_append_own (P := Try.prog) w w.heap.size 35 ty 4 i4 _ 1 1 Try.underlying35 hi4 hy0 hy1 hy2 rfl (by decide) (.slice none 0 0) 0 [] h0 p l.length cap (l.map .bool) (by simp) hnews (fun u hu => by obtain ⟨b, _, rfl⟩ := List.mem_map.1 hu; rfl) (by unfold maxLen; omega) (by omega) (Nat.le_refl _)
    refine ⟨v', w', hr, by simpa using h1, (Mod.refl _ w).grown h2 (fun b hb _ => by cases hb)⟩

theorem wpList_append_bools {w : World} {ops : Array Oper} {rest : List Oper} {o : Oper} {a : Act} {Q : Exit → Act → World → Prop} (hgd : o.guard = none) (s x : Operand)
    (ho : o.op = .call { callee := .builtin .append, args := #[s, x], argTypes := #[35, 35] }) (hs : a.eval s = .slice none 0 0) (gv : Value) (l : List Bool) (hx : a.eval x = gv) (hb : Bools w gv l) (hl : l.length ≤ 1000)
    (h : ∀ v' w', w'.ownsRow w.heap.size 4 1 v' l.length (l.map .bool) → Mod (fun _ => False) w w' → wpList Try.prog ops Q rest (a.put o.dst v') w') : wpList Try.prog ops Q (o :: rest) a w := by
  refine wpList_plain hgd fun K hK => ?_
  obtain ⟨v', w', hr, h1, h2⟩ := run_append_nil_any hb hl o.type
  unfold Oper.wp execOp
  simp only [ho, resolve, invoke, builtin, Sem.run_bind, Sem.run_pure, Result.andThen_ok, List.map_toArray, List.map_cons, List.map_nil, hs, hx, hr]
  exact hK _ _ (h v' w' h1 h2)
end Go.Proofs.Ytcemcphkgehbhaa
