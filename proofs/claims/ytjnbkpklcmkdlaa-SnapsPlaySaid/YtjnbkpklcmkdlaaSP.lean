/- Snapshots: the play's state. -/
import Derived.Test.YtjnbkpklcmkdlaaSO
namespace Go.Proofs.Ytjnbkpklcmkdlaa
open Go.RowKit

/-- The pair, both takers, and where the pair is kept. -/
structure PlayAt (B M mb R K U PB N : Nat) (fp fpu : Nat → Prop) (RB : Nat) (f : Adr → Int) (sm : Int) (Lm : Acc) (sr : Int) (Lr : Acc) (tp tr : TSt) (w : World) : Prop where
  mem : MemAt M mb N f sm Lm w
  ref : RefAt fp R N f sr Lr w
  tak : TakIs K RB tp w
  rtk : RTis fpu U tr w
  pb : w.heap[PB]? = some (.cells #[.pointer (some ⟨M, 0, none⟩), .pointer (some ⟨R, 0, none⟩)] 65)
  dM : ¬ fp M ∧ ¬ fp mb
  dT : ∀ x, (x = K ∨ x = RB) → ¬ pfoot M mb fp x ∧ ¬ fpu x ∧ x ≠ PB ∧ B ≤ x
  dU : ∀ x, fpu x → ¬ pfoot M mb fp x ∧ x ≠ PB ∧ B ≤ x
  dP : ¬ pfoot M mb fp PB ∧ B ≤ PB
  ge : ∀ x, pfoot M mb fp x → B ≤ x
theorem TakIs.lt {K RB : Nat} {t : TSt} {w : World} (h : TakIs K RB t w) : K < w.heap.size ∧ RB < w.heap.size := by
  cases t with
  | start =>
    obtain ⟨h, rfl⟩ := h
    exact ⟨lt_of_block h, lt_of_block h⟩
  | on n i j R =>
    have h : TakOn K RB n i j R w := h
    exact ⟨lt_of_block h.own, lt_of_block h.rows⟩
  | fin n R =>
    have h : TakEnd K RB n R w := h
    exact ⟨lt_of_block h.own, lt_of_block h.rows⟩
theorem RTis.lt {fp : Nat → Prop} {U : Nat} {t : TSt} {w : World} (h : RTis fp U t w) : ∀ x, fp x → x < w.heap.size := by
  cases t with
  | start => exact RTk.lt h
  | on n i j Rw =>
    obtain ⟨v, h⟩ := h
    exact h.lt
  | fin n Rw =>
    obtain ⟨v, h⟩ := h
    exact h.lt
theorem RTis.fpU {fp : Nat → Prop} {U : Nat} {t : TSt} {w : World} (h : RTis fp U t w) : fp U := by
  cases t with
  | start => exact RTk.fpU h
  | on n i j Rw =>
    obtain ⟨v, h⟩ := h
    exact h.fpU
  | fin n Rw =>
    obtain ⟨v, h⟩ := h
    exact h.fpU
section
variable {B M mb R K U PB N : Nat} {fp fpu : Nat → Prop} {RB : Nat} {f : Adr → Int} {sm sr : Int} {Lm Lr : Acc} {tp tr : TSt} {w : World}
theorem PlayAt.foot_lt (h : PlayAt B M mb R K U PB N fp fpu RB f sm Lm sr Lr tp tr w) : ∀ x, pfoot M mb fp x → x < w.heap.size := fun x hx => by
  obtain ⟨h1, h2⟩ := h.mem.lt
  rcases hx with (e | e) | e
  · rw [e]; exact h1
  · rw [e]; exact h2
  · exact h.ref.lt x e
/-- Nothing of ours was touched. -/
theorem PlayAt.keep {S : Nat → Prop} {w' : World} (h : PlayAt B M mb R K U PB N fp fpu RB f sm Lm sr Lr tp tr w) (hm : Mod S w w') (h1 : ∀ x, B ≤ x → x < w.heap.size → ¬ S x) : PlayAt B M mb R K U PB N fp fpu RB f sm Lm sr Lr tp tr w' := by
  have a1 : ∀ x, pfoot M mb fp x → ¬ S x := fun x hx => h1 x (h.ge x hx) (h.foot_lt x hx)
  obtain ⟨l1, l2⟩ := h.tak.lt
  exact ⟨h.mem.mod hm (a1 M (.inl (.inl rfl))) (a1 mb (.inl (.inr rfl))), h.ref.keep hm (fun x hx => a1 x (.inr hx)), h.tak.keep hm (h1 K (h.dT K (.inl rfl)).2.2.2 l1) (h1 RB (h.dT RB (.inr rfl)).2.2.2 l2),
    h.rtk.keep hm (fun x hx => h1 x (h.dU x hx).2.2 (h.rtk.lt x hx)), hm.keep h.pb (h1 PB h.dP.2 (lt_of_block h.pb)), h.dM, h.dT, h.dU, h.dP, h.ge⟩
theorem PlayAt.grow (h : PlayAt B M mb R K U PB N fp fpu RB f sm Lm sr Lr tp tr w) : PlayAt B M mb R K U PB (N + 1) fp fpu RB f sm Lm sr Lr tp tr w :=
  ⟨h.mem.grow, h.ref.grow, h.tak, h.rtk, h.pb, h.dM, h.dT, h.dU, h.dP, h.ge⟩
/-- Others stored in both. -/
theorem PlayAt.stored {fp' : Nat → Prop} {f' : Adr → Int} {s' : Int} {L' : Acc} {w' : World} (h : PlayAt B M mb R K U PB N fp fpu RB f sm Lm sm Lm tp tr w) (hB : B ≤ w.heap.size) (hp : PairAt fp' M mb R (N + 1) f' s' L' w') (ht : Turn (pfoot M mb fp) (pfoot M mb fp') w w') :
    PlayAt B M mb R K U PB (N + 1) fp' fpu RB f' s' L' s' L' tp tr w' ∧ Below B w w' := by
  obtain ⟨l1, l2⟩ := h.tak.lt
  have n1 : ∀ x, x < w.heap.size → ¬ pfoot M mb fp x → ¬ pfoot M mb fp' x := fun x hx hn hf => (ht.new x hf).elim hn (fun e => by omega)
  refine ⟨⟨hp.mem, hp.ref, h.tak.keep ht.mod (h.dT K (.inl rfl)).1 (h.dT RB (.inr rfl)).1, h.rtk.keep ht.mod (fun x hx => (h.dU x hx).1), ht.mod.keep h.pb h.dP.1, ⟨hp.noM, hp.nom⟩, fun x hx => ?_, fun x hx => ?_, ⟨n1 PB (lt_of_block h.pb) h.dP.1, h.dP.2⟩, fun x hx => ?_⟩, ⟨ht.mod.os, ht.mod.tape, ht.mod.output, ht.mod.size, fun i hi => ht.mod.block i (by omega) (fun hf => by have := h.ge i hf; omega)⟩⟩
  · obtain ⟨a, b, c, d⟩ := h.dT x hx
    exact ⟨n1 x (by rcases hx with e | e <;> rw [e] <;> assumption) a, b, c, d⟩
  · obtain ⟨a, b, c⟩ := h.dU x hx
    exact ⟨n1 x (h.rtk.lt x hx) a, b, c⟩
  · rcases ht.new x hx with e | e
    · exact h.ge x e
    · omega
/-- The document's taker took a step. -/
theorem PlayAt.refStep {s' : Int} {L' : Acc} {t' : TSt} {fpu' : Nat → Prop} {w' : World} (h : PlayAt B M mb R K U PB N fp fpu RB f sm Lm sr Lr tp tr w) (hB : B ≤ w.heap.size) (hr : RefAt fp R N f s' L' w') (hu : RTis fpu' U t' w') (ht : Turn (fun x => x = R ∨ fpu x) (fun x => x = R ∨ fpu' x) w w') (hn : ∀ x, fpu' x → fpu x ∨ w.heap.size ≤ x) :
    PlayAt B M mb R K U PB N fp fpu' RB f sm Lm s' L' tp t' w' ∧ Below B w w' := by
  have hR := h.ref.fpR
  obtain ⟨l1, l2⟩ := h.tak.lt
  have nM : ¬ (M = R ∨ fpu M) := fun e => e.elim (fun e => h.dM.1 (e ▸ hR)) (fun e => (h.dU M e).1 (.inl (.inl rfl)))
  have nm : ¬ (mb = R ∨ fpu mb) := fun e => e.elim (fun e => h.dM.2 (e ▸ hR)) (fun e => (h.dU mb e).1 (.inl (.inr rfl)))
  have nT : ∀ x, (x = K ∨ x = RB) → ¬ (x = R ∨ fpu x) := fun x hx e => e.elim (fun e => (h.dT x hx).1 (.inr (e ▸ hR))) (h.dT x hx).2.1
  have nP : ¬ (PB = R ∨ fpu PB) := fun e => e.elim (fun e => h.dP.1 (.inr (e ▸ hR))) (fun e => (h.dU PB e).2.1 rfl)
  refine ⟨⟨h.mem.mod ht.mod nM nm, hr, h.tak.keep ht.mod (nT K (.inl rfl)) (nT RB (.inr rfl)), hu, ht.mod.keep h.pb nP, h.dM, fun x hx => ?_, fun x hx => ?_, h.dP, h.ge⟩, ⟨ht.mod.os, ht.mod.tape, ht.mod.output, ht.mod.size, fun i hi => ht.mod.block i (by omega) (fun hf => ?_)⟩⟩
  · obtain ⟨a, b, c, d⟩ := h.dT x hx
    exact ⟨a, fun hf => (hn x hf).elim b (fun e => by rcases hx with g | g <;> omega), c, d⟩
  · rcases hn x hx with e | e
    · exact h.dU x e
    · exact ⟨fun g => by have := h.foot_lt x g; omega, fun g => by have := lt_of_block h.pb; omega, by omega⟩
  · rcases hf with e | e
    · have := h.ge i (.inr (e ▸ hR)); omega
    · have := (h.dU i e).2.2; omega
/-- The program's taker took a step. -/
theorem PlayAt.progStep {s' : Int} {L' : Acc} {t' : TSt} {RB' : Nat} {w' : World} (h : PlayAt B M mb R K U PB N fp fpu RB f sm Lm sr Lr tp tr w) (hB : B ≤ w.heap.size) (hm : MemAt M mb (N + 1) f s' L' w') (hu : TakIs K RB' t' w') (hR : RB' = RB ∨ w.heap.size ≤ RB') (ht : Mod (tfoot M mb K RB) w w') :
    PlayAt B M mb R K U PB (N + 1) fp fpu RB' f s' L' sr Lr t' tr w' ∧ Below B w w' := by
  have nF : ∀ x, fp x → ¬ tfoot M mb K RB x := fun x hx e => by
    rcases e with (e | e) | e
    · exact h.dM.1 (e ▸ hx)
    · exact h.dM.2 (e ▸ hx)
    · exact (h.dT x e).1 (.inr hx)
  have nU : ∀ x, fpu x → ¬ tfoot M mb K RB x := fun x hx e => by
    rcases e with e | e
    · exact (h.dU x hx).1 (.inl e)
    · exact (h.dT x e).2.1 hx
  have nP : ¬ tfoot M mb K RB PB := fun e => by
    rcases e with e | e
    · exact h.dP.1 (.inl e)
    · exact (h.dT PB e).2.2.1 rfl
  refine ⟨⟨hm, (h.ref.keep ht nF).grow, hu, h.rtk.keep ht nU, ht.keep h.pb nP, h.dM, fun x hx => ?_, h.dU, h.dP, h.ge⟩, ⟨ht.os, ht.tape, ht.output, ht.size, fun i hi => ht.block i (by omega) (fun hf => ?_)⟩⟩
  · rcases hx with e | e
    · exact h.dT x (.inl e)
    · rcases hR with g | g
      · exact h.dT x (.inr (e.trans g))
      · exact ⟨fun q => by have := h.foot_lt x q; omega, fun q => by have := h.rtk.lt x q; omega, fun q => by have := lt_of_block h.pb; omega, by omega⟩
  · rcases hf with e | e
    · have := h.ge i (.inl e); omega
    · have := (h.dT i e).2.2.2; omega
end
/-- How many steps lead there. -/
def TSt.count : TSt → Nat → Prop
  | .start, k => k = 0
  | .on _ i j R, k => k = stepsOf R i + j ∧ (0 < j → R i 0 ≠ 0)
  | .fin n R, k => k = stepsOf R n
theorem stepsOf_congr {R R' : Nat → Nat → Int} {n : Nat} (h : ∀ a, a < n → R a 0 = R' a 0) : stepsOf R n = stepsOf R' n := by
  induction n with
  | zero => rfl
  | succ n ih =>
    simp only [stepsOf]
    rw [ih (fun a ha => h a (by omega)), h n (by omega)]
theorem TSt.count_next {f : Adr → Int} {t : TSt} {k : Nat} (h : t.count k) (hok : t.ok) (hno : t.over = false) : (tNext f t).count (k + 1) := by
  cases t with
  | start =>
    have h : k = 0 := h
    rw [tNext_start]
    split
    · show k + 1 = 1
      omega
    · refine ⟨?_, fun h => by omega⟩
      show k + 1 = 1 + 0
      omega
  | on n i j R =>
    obtain ⟨h1, h2⟩ := h
    obtain ⟨_, _, h3⟩ := hok
    obtain ⟨x, hx⟩ : ∃ x, f (tAdr i j) = x := ⟨_, rfl⟩
    rw [tNext_on hx]
    have hs : stepsOf (updR R i j x) i = stepsOf R i := stepsOf_congr (fun a ha => by unfold updR; rw [if_neg (by omega)])
    have hown : 0 < j → updR R i j x i 0 = R i 0 := fun hj => by unfold updR; rw [if_neg (by omega)]
    have hrow : stepsOf (updR R i j x) (i + 1) = stepsOf R i + (if updR R i j x i 0 = 0 then 1 else 10) := by
      simp only [stepsOf]
      rw [hs]
    split
    · rename_i hD
      have hk : k + 1 = stepsOf (updR R i j x) (i + 1) := by
        rw [hrow]
        by_cases h0 : updR R i j x i 0 = 0
        · rw [if_pos h0]
          have : j = 0 := by
            by_cases hj : 0 < j
            · exact absurd ((hown hj).symm.trans h0) (h2 hj)
            · omega
          omega
        · rw [if_neg h0]
          have := hD.resolve_left h0
          omega
      split
      · rename_i hl
        show k + 1 = stepsOf (updR R i j x) n
        rw [← hl]
        exact hk
      · exact ⟨by omega, fun h => by omega⟩
    · rename_i hD
      refine ⟨by rw [hs]; omega, fun _ h => hD (.inl h)⟩
  | fin n R => cases hno
theorem TSt.count_lt {t : TSt} {k : Nat} (h : t.count k) (hok : t.ok) : k < 170 := by
  cases t with
  | start =>
    have h : k = 0 := h
    omega
  | on n i j R =>
    obtain ⟨h1, _⟩ := h
    obtain ⟨h3, h4, h5⟩ := hok
    have := stepsOf_le R i
    omega
  | fin n R =>
    have h : k = stepsOf R n := h
    have hn : n ≤ 16 := hok
    have := stepsOf_le R n
    omega
end Go.Proofs.Ytjnbkpklcmkdlaa
