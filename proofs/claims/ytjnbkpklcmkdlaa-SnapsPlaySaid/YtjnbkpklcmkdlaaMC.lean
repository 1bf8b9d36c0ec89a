/- A memory of shared words: what stands in it; the two halves of a store into its map. -/
import Derived.Test.YtjnbkpklcmkdlaaMB
import Derived.WideKeyEntry
namespace Go.Proofs.Ytjnbkpklcmkdlaa
open Go.RowKit
open Go.Maps (Keyed)
open Go.ChangeMaps (setBlock heap_setBlock_same heap_setBlock_other)
open Go.WideElems (Fit rg)

abbrev u64 (n : Int) : DataW Unit := .lit (.int .u64 n)
/-- An access: kind, address, was, is, done. -/
structure Acc where
  kind : Int
  addr : Adr
  was : Int
  now : Int
  done : Bool
def accVal (L : Acc) : Value := .agg #[.int .u8 L.kind, .int .u8 L.addr.1, .int .i64 L.addr.2.1, .int .i64 L.addr.2.2, .int .u64 L.was, .int .u64 L.now, .bool L.done]
def memCells (mb : Nat) (s : Int) (L : Acc) : Array Value :=
  #[.map (some mb), .int .i64 s, .int .u8 L.kind, .int .u8 L.addr.1, .int .i64 L.addr.2.1, .int .i64 L.addr.2.2, .int .u64 L.was, .int .u64 L.now, .bool L.done]
/-- The map in block mb reads as the function f. -/
def WordsAt (mb N : Nat) (f : Adr → Int) (w : World) : Prop :=
  ∃ D : DataW Unit, w.ownsMap Try.prog 30 (plainElem Try.prog 22) mb N D ∧ ∀ a, AdrWf a → D.atKey (keyL a) (u64 0) = u64 (f a)
def MemAt (M mb N : Nat) (f : Adr → Int) (s : Int) (L : Acc) (w : World) : Prop :=
  w.heap[M]? = some (.cells (memCells mb s L) 87) ∧ WordsAt mb N f w ∧ M ≠ mb

def upd (f : Adr → Int) (a : Adr) (v : Int) : Adr → Int := fun b => if b = a then v else f b
def acts (a : Adr) (dn : Bool) : Bool := dn && mayB a
def accOf (f : Adr → Int) (k : Int) (a : Adr) (nv : Int) (dn : Bool) : Acc := if acts a dn then ⟨k, a, f a, nv, k == 3⟩ else ⟨k, a, f a, f a, false⟩
def wordsOf (f : Adr → Int) (a : Adr) (nv : Int) (dn : Bool) : Adr → Int := if acts a dn then upd f a nv else f

theorem World.ownsMap.mod {S : Nat → Prop} {w w' : World} (h : Mod S w w') {b n : Nat} {D : DataW Unit} (ho : w.ownsMap Try.prog 30 (plainElem Try.prog 22) b n D) (hn : ¬ S b) : w'.ownsMap Try.prog 30 (plainElem Try.prog 22) b n D := by
  obtain ⟨es, clock, hb, F, hs, hD⟩ := ho
  exact ⟨es, clock, h.keep hb hn, F, hs, hD⟩
theorem WordsAt.mod {S : Nat → Prop} {w w' : World} (h : Mod S w w') {mb N : Nat} {f : Adr → Int} (ho : WordsAt mb N f w) (hn : ¬ S mb) : WordsAt mb N f w' := by
  obtain ⟨D, h1, h2⟩ := ho
  exact ⟨D, World.ownsMap.mod h h1 hn, h2⟩
theorem MemAt.mod {S : Nat → Prop} {w w' : World} (h : Mod S w w') {M mb N : Nat} {f : Adr → Int} {s : Int} {L : Acc} (ho : MemAt M mb N f s L w) (hM : ¬ S M) (hm : ¬ S mb) : MemAt M mb N f s L w' :=
  ⟨h.keep ho.1 hM, ho.2.1.mod h hm, ho.2.2⟩
theorem WordsAt.lt {mb N : Nat} {f : Adr → Int} {w : World} (h : WordsAt mb N f w) : mb < w.heap.size := by
  obtain ⟨D, h1, h2⟩ := h
  exact h1.lt

theorem wf0 : (Lit.int .u64 0).wf = true := by decide

/-- What a look-up gives. -/
theorem WordsAt.look {mb N : Nat} {f : Adr → Int} {w : World} (h : WordsAt mb N f w) {a : Adr} (ha : AdrWf a) :
    (Instr.lookup 82 (.map (some mb)) (adrVal a) false).run Try.prog w = .ok (.int .u64 (f a)) w ∧ (Lit.int .u64 (f a)).wf = true := by
  obtain ⟨D, h1, h2⟩ := h
  obtain ⟨c, hrun, hat, hwc⟩ := h1.lookup_int lawK Try.underlying82 Try.underlying22 (by kernel_rfl) (keyL_some a ha)
  have := h2 a ha
  rw [hat] at this
  simp only [DataW.lit.injEq, Lit.int.injEq] at this
  obtain ⟨_, rfl⟩ := this
  exact ⟨hrun, hwc⟩

theorem lawK0 : Go.WideMaps.KeyLaw Try.prog 30 := deep_law_laid (m := Try.prog.types.size + 1) (by kernel_rfl) (by exact of_decide_eq_true (by kernel_rfl)) (of_decide_eq_true (by kernel_rfl)) (by kernel_rfl) (by kernel_rfl)

set_option maxRecDepth 100000 in
theorem keyL_isKey {a : Adr} (ha : AdrWf a) : Go.WideAt.IsKeyLit (keyL a) := Keyed.key (P := Try.prog) (k := 30) lawK (keyL_some a ha)

set_option maxRecDepth 100000 in
/-- An element held, then stored. -/
theorem WordsAt.entry {mb N : Nat} {f : Adr → Int} {w : World} (h : WordsAt mb N f w) (hN : N < maxLen) {a : Adr} (ha : AdrWf a) {nv : Int} (hv : (Lit.int .u64 nv).wf = true) :
    ∃ (st : Nat) (es1 : Array MapEntry) (ck1 : Nat) (v0 : Value), (Instr.mapEntry 82 (.map (some mb)) (adrVal a)).run Try.prog w = .ok (.tuple #[v0, .int .i64 st]) (setBlock w mb (.map es1 ck1)) ∧ (∃ es ck, w.heap[mb]? = some (.map es ck)) ∧
      ∀ w2 : World, w2.heap[mb]? = some (.map es1 ck1) → ∃ w3, (Instr.entryStore 82 (.map (some mb)) (.int .i64 st) (.int .u64 nv)).run Try.prog w2 = .ok () w3 ∧ WordsAt mb (N + 1) (upd f a nv) w3 ∧ ∃ es2 ck2, w3 = setBlock w2 mb (.map es2 ck2) := by
  obtain ⟨D, h1, h2⟩ := h
  obtain ⟨w', hrun', hown', _⟩ := h1.update lawK Try.underlying82 hN (keyL_some a ha) (plainElem_int Try.underlying22 hv)
  have hmap := h1.isMap
  obtain ⟨es, clock, hb, F, hs, hD⟩ := h1
  obtain ⟨v0, st, es1, clock1, hE, _, hS⟩ := WideElems.entry_then_store lawK0 Try.underlying82 (z := .int .u64 0) (fun u => by kernel_rfl) hb F (keyL_some a ha)
  refine ⟨st, es1, clock1, v0, hE, ⟨_, _, hb⟩, fun w2 hw2 => ?_⟩
  obtain ⟨es', clock', r1, r2⟩ := hS w2 (.int .u64 nv) hw2
  refine ⟨_, r1, ⟨D.put (keyL a) (u64 nv), ?_, ?_⟩, _, _, rfl⟩
  · rw [hrun'] at r2
    simp only [Result.ok.injEq] at r2
    obtain ⟨_, rfl⟩ := r2
    obtain ⟨es2, clock2, hb2, F2, hs2, hD2⟩ := hown'
    rw [heap_setBlock_same hb] at hb2
    simp only [Option.some.injEq, Obj.map.injEq] at hb2
    obtain ⟨rfl, rfl⟩ := hb2
    exact ⟨_, _, heap_setBlock_same hw2 _, F2, hs2, hD2⟩
  · intro b hb'
    unfold upd
    by_cases e : b = a
    · subst e
      rw [if_pos rfl]
      exact Maps.atKey_put_same hmap (keyL_isKey ha) _ _
    · rw [if_neg e, Maps.atKey_put_other (fun h' => e (keyL_inj hb' ha h')), h2 b hb']

theorem Mod.setBlock {S : Nat → Prop} {a w : World} (h : Mod S a w) {b : Nat} {es : Array MapEntry} {ck : Nat} {o' : Obj} (hb : w.heap[b]? = some (.map es ck)) (hp : b < a.heap.size → S b) : Mod S a (setBlock w b o') :=
  ⟨h.os, h.tape, h.output, by have := h.size; simp [Go.ChangeMaps.setBlock]; omega, fun i hi hn => by
    rw [heap_setBlock_other hb _ (fun e => hn (by rw [e]; exact hp (by rw [← e]; exact hi)))]; exact h.block i hi hn⟩
end Go.Proofs.Ytjnbkpklcmkdlaa
