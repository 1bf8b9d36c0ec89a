/- Epochs: eight threads over a memory. -/
import Derived.Test.YtjnbkpklcmkdlaaEM
namespace Go.Proofs.Ytjnbkpklcmkdlaa
open Go.RowKit

def zero5 : List Value := [.bool false, .int .u64 0, .pointer none, .pointer none, .pointer none]
def made8 : Array Value := ⟨zero5 ++ zero5 ++ zero5 ++ zero5 ++ zero5 ++ zero5 ++ zero5 ++ zero5⟩
theorem made8_run (w : World) : (Instr.makeSlice 31 (.int .i64 8) (.int .i64 8)).run Try.prog w = .ok (.slice (some ⟨w.heap.size, 0, none⟩) 8 8) (w.alloc (.cells made8 36)) := by kernel_rfl
theorem made8_at (k : Nat) (hk : k < 8) : made8[k * 5]? = some (.bool false) ∧ made8[k * 5 + 1]? = some (.int .u64 0) ∧ made8[k * 5 + 2]? = some (.pointer none) ∧ made8[k * 5 + 3]? = some (.pointer none) ∧ made8[k * 5 + 4]? = some (.pointer none) := by
  obtain rfl | rfl | rfl | rfl | rfl | rfl | rfl | rfl : k = 0 ∨ k = 1 ∨ k = 2 ∨ k = 3 ∨ k = 4 ∨ k = 5 ∨ k = 6 ∨ k = 7 := by omega
  all_goals exact ⟨rfl, rfl, rfl, rfl, rfl⟩

/-- The five cells as a thread has them. -/
def q2 (op : EOp) (E : Nat) : Value := match op with
  | .ent1 => pE E
  | .ent2 _ => pE E
  | _ => pN
def q3 (op : EOp) (E : Nat) : Value := match op with
  | .ext => pE E
  | _ => pN
def q4 (op : EOp) (E : Nat) : Value := match op with
  | .adv1 => pE E
  | .adv2 _ => pE E
  | .adv3 _ _ => pE E
  | .adv4 _ => pE E
  | _ => pN
theorem thAt_iff {ty T o E : Nat} {c0 : Array Value} {t : Th} {w : World} : ThAt ty T o c0 t E w ↔ TAt ty T o c0 (.bool t.inn) (.int .u64 t.at') (q2 t.op E) (q3 t.op E) (q4 t.op E) w := by
  obtain ⟨n, a, op⟩ := t
  cases op <;> exact Iff.rfl
theorem TAt.carry {ty T o : Nat} {c c' : Array Value} {v0 v1 v2 v3 v4 : Value} {w w' : World} (h : TAt ty T o c v0 v1 v2 v3 v4 w) (hc : w.heap[T]? = some (.cells c ty)) (hc' : w'.heap[T]? = some (.cells c' ty)) (hf : ∀ j, o ≤ j → j < o + 5 → c'[j]? = c[j]?) : TAt ty T o c' v0 v1 v2 v3 v4 w' := by
  obtain ⟨d, hd, _, a0, a1, a2, a3, a4, _⟩ := h
  have e : d = c := by
    rw [hc] at hd
    simpa using hd.symm
  subst e
  exact ⟨c', hc', rfl, by rw [hf _ (by omega) (by omega)]; exact a0, by rw [hf _ (by omega) (by omega)]; exact a1, by rw [hf _ (by omega) (by omega)]; exact a2, by rw [hf _ (by omega) (by omega)]; exact a3, by rw [hf _ (by omega) (by omega)]; exact a4, fun _ _ => rfl⟩
theorem TAt.renew {ty T o : Nat} {c : Array Value} {v0 v1 v2 v3 v4 : Value} {w : World} (h : TAt ty T o c v0 v1 v2 v3 v4 w) : ∃ c', w.heap[T]? = some (.cells c' ty) ∧ TAt ty T o c' v0 v1 v2 v3 v4 w ∧ ∀ j, (j < o ∨ o + 5 ≤ j) → c'[j]? = c[j]? := by
  obtain ⟨d, hd, hs, a0, a1, a2, a3, a4, r⟩ := h
  exact ⟨d, hd, ⟨d, hd, rfl, a0, a1, a2, a3, a4, fun _ _ => rfl⟩, r⟩

/-- Eight threads over a memory, all made since B. -/
structure HeldBy (B M mb T N : Nat) (f : Adr → Int) (th : Nat → Th) (Es : Nat → Nat) (c : Array Value) (w : World) : Prop where
  mem : MemOf M mb N f w
  row : w.heap[T]? = some (.cells c 36)
  ths : ∀ k : Nat, k < 8 → TAt 36 T (k * 5) c (.bool (th k).inn) (.int .u64 (th k).at') (q2 (th k).op (Es k)) (q3 (th k).op (Es k)) (q4 (th k).op (Es k)) w
  ops : ∀ k : Nat, k < 8 → OpAt (th k).op (Es k) k w
  own : ∀ k : Nat, k < 8 → (th k).op.idleB = false → Es k ≠ M ∧ Es k ≠ mb ∧ Es k ≠ T ∧ B ≤ Es k ∧ Es k < w.heap.size
  apart : ∀ j k : Nat, j < 8 → k < 8 → j ≠ k → (th j).op.idleB = false → (th k).op.idleB = false → Es j ≠ Es k
theorem OpAt.kept {op : EOp} {E : Nat} {i : Int} {w w' : World} (h : OpAt op E i w) (hm : Mod (fun _ => False) w w') : OpAt op E i w' := by
  cases op <;> first | trivial | exact hm.keep h (fun h => h)
theorem HeldBy.kept {B M mb T N : Nat} {f : Adr → Int} {th : Nat → Th} {Es : Nat → Nat} {c : Array Value} {w w' : World} (h : HeldBy B M mb T N f th Es c w) (hm : Mod (fun _ => False) w w') : HeldBy B M mb T N f th Es c w' :=
  ⟨h.mem.mod hm (fun h => h) (fun h => h), hm.keep h.row (fun h => h), fun k hk => (h.ths k hk).mod hm (fun h => h), fun k hk => (h.ops k hk).kept hm, fun k hk hi => by
    obtain ⟨a, b, c, d, e⟩ := h.own k hk hi
    exact ⟨a, b, c, d, Nat.lt_of_lt_of_le e hm.size⟩, h.apart⟩
theorem HeldBy.drawn {B M mb T N : Nat} {f : Adr → Int} {th : Nat → Th} {Es : Nat → Nat} {c : Array Value} {w : World} (h : HeldBy B M mb T N f th Es c w) : HeldBy B M mb T N f th Es c w.drew := h.kept (Mod.refl _ _).drew
theorem Mod.belowAt {S : Nat → Prop} {w w' : World} (h : Mod S w w') {B : Nat} (hB : B ≤ w.heap.size) (hs : ∀ i, i < B → ¬ S i) : Below B w w' :=
  ⟨h.os, h.tape, h.output, h.size, fun i hi => h.block i (by omega) (hs i hi)⟩
def Held (B M mb T N : Nat) (f : Adr → Int) (th : Nat → Th) (w : World) : Prop := ∃ Es c, HeldBy B M mb T N f th Es c w
theorem OpAt.keep {op : EOp} {E : Nat} {i : Int} {S : Nat → Prop} {w w' : World} (h : OpAt op E i w) (hm : Mod S w w') (hn : op.idleB = false → ¬ S E) : OpAt op E i w' := by
  cases op with
  | idle => trivial
  | ent1 => exact hm.keep h (hn rfl)
  | ent2 e => exact hm.keep h (hn rfl)
  | ext => exact hm.keep h (hn rfl)
  | adv1 => exact hm.keep h (hn rfl)
  | adv2 e => exact hm.keep h (hn rfl)
  | adv3 e p => exact hm.keep h (hn rfl)
  | adv4 e => exact hm.keep h (hn rfl)
theorem OpAt.lt {op : EOp} {E : Nat} {i : Int} {w : World} (h : OpAt op E i w) (hn : op.idleB = false) : E < w.heap.size := by
  cases op with
  | idle => cases hn
  | ent1 => exact lt_of_block h
  | ent2 e => exact lt_of_block h
  | ext => exact lt_of_block h
  | adv1 => exact lt_of_block h
  | adv2 e => exact lt_of_block h
  | adv3 e p => exact lt_of_block h
  | adv4 e => exact lt_of_block h
/-- The memory alone was walked. -/
theorem Held.mod {B M mb T N N' : Nat} {f : Adr → Int} {th : Nat → Th} {w w' : World} (h : Held B M mb T N f th w) (hm : Mod (fun x => x = M ∨ x = mb) w w') (hM : MemOf M mb N' f w') (hTM : T ≠ M) (hTm : T ≠ mb) : Held B M mb T N' f th w' := by
  obtain ⟨Es, c, h⟩ := h
  refine ⟨Es, c, hM, hm.keep h.row (fun e => e.elim hTM hTm), fun k hk => (h.ths k hk).mod hm (fun e => e.elim hTM hTm), fun k hk => (h.ops k hk).keep hm (fun hi e => ?_), fun k hk hi => ?_, h.apart⟩
  · obtain ⟨a, b, _⟩ := h.own k hk hi
    exact e.elim a b
  · obtain ⟨a, b, c, d, e⟩ := h.own k hk hi
    exact ⟨a, b, c, d, Nat.lt_of_lt_of_le e hm.size⟩
/-- One thread stepped. -/
theorem HeldBy.stepped {B M mb T N : Nat} {f f' : Adr → Int} {th : Nat → Th} {Es : Nat → Nat} {c : Array Value} {w w' : World} {e : Ending} (h : HeldBy B M mb T N f th Es c w) {k : Nat} (hk : k < 8) {t' : Th} (hBw : B ≤ w.heap.size) (hMB : B ≤ M) (hmB : B ≤ mb) (hTB : B ≤ T)
    (hs : StepsOn 36 M mb T (k * 5) N c k (Es k) (th k).op f' t' w e w') : Held B M mb T (N + 2) f' (setTh th k t') w' ∧ Below B w w' := by
  obtain ⟨_, E', hE', hM', hT', hO', hmod⟩ := hs
  obtain ⟨c', hc', hT2, hfr⟩ := (thAt_iff.1 hT').renew
  have hoth : ∀ j : Nat, j < 8 → j ≠ k → (th j).op.idleB = false → ¬ foot3 M mb T (Es k) (th k).op (Es j) := by
    intro j hj hne hi hf
    obtain ⟨a, b, d, _⟩ := h.own j hj hi
    rcases hf with (h1 | h1 | h1) | ⟨h2, h3⟩
    · exact a h1
    · exact b h1
    · exact d h1
    · exact h.apart j k hj hk hne hi h2 h3
  refine ⟨⟨fun j => if j = k then E' else Es j, c', hM', hc', fun j hj => ?_, fun j hj => ?_, fun j hj hi => ?_, fun i j hi hj hne h1 h2 => ?_⟩, ?_⟩
  · by_cases e : j = k
    · subst e; rw [setTh_same]; simpa using hT2
    · rw [setTh_other _ e]
      simp only [if_neg e]
      exact (h.ths j hj).carry h.row hc' (fun x h1 h2 => hfr x (by omega))
  · by_cases e : j = k
    · subst e; rw [setTh_same]; simpa using hO'
    · rw [setTh_other _ e]
      simp only [if_neg e]
      exact (h.ops j hj).keep hmod (fun hi => hoth j hj e hi)
  · by_cases e : j = k
    · subst e
      rw [setTh_same] at hi
      simp only [if_true]
      have hl := hO'.lt hi
      rcases hE' hi with ⟨e1, e2⟩ | e1
      · obtain ⟨a, b, d, g, _⟩ := h.own j hj e2
        rw [e1] at hl ⊢
        exact ⟨a, b, d, g, hl⟩
      · obtain ⟨m1, m2⟩ := h.mem.lt
        have := lt_of_block h.row
        exact ⟨by omega, by omega, by omega, by omega, hl⟩
    · rw [setTh_other _ e] at hi
      simp only [if_neg e]
      obtain ⟨a, b, d, g, x⟩ := h.own j hj hi
      exact ⟨a, b, d, g, Nat.lt_of_lt_of_le x hmod.size⟩
  · have key : ∀ j : Nat, j < 8 → j ≠ k → (th j).op.idleB = false → t'.op.idleB = false → E' ≠ Es j := by
      intro j hj hne h1 h2 he
      rcases hE' h2 with ⟨e1, e2⟩ | e1
      · exact h.apart j k hj hk hne h1 e2 (by rw [← he, e1])
      · obtain ⟨_, _, _, _, x⟩ := h.own j hj h1
        omega
    by_cases e : i = k
    · subst e
      rw [setTh_same] at h1
      rw [setTh_other _ (Ne.symm hne)] at h2
      simp only [if_true, if_neg (Ne.symm hne)]
      exact key j hj (Ne.symm hne) h2 h1
    · rw [setTh_other _ e] at h1
      by_cases e2 : j = k
      · subst e2
        rw [setTh_same] at h2
        simp only [if_true, if_neg e]
        exact (key i hi e h1 h2).symm
      · rw [setTh_other _ e2] at h2
        simp only [if_neg e, if_neg e2]
        exact h.apart i j hi hj hne h1 h2
  · refine ⟨hmod.os, hmod.tape, hmod.output, hmod.size, fun i hi => hmod.block i (by omega) ?_⟩
    rintro ((h1 | h1 | h1) | ⟨h2, h3⟩)
    · omega
    · omega
    · omega
    · obtain ⟨_, _, _, g, _⟩ := h.own k hk h2
      omega

end Go.Proofs.Ytjnbkpklcmkdlaa
