/- Epochs: a thread's step, whatever it has under way. -/
import Derived.Test.YtjnbkpklcmkdlaaEK
namespace Go.Proofs.Ytjnbkpklcmkdlaa
open Go.RowKit

abbrev foot3 (M mb T E : Nat) (op : EOp) : Nat → Prop := fun b => (b = M ∨ b = mb ∨ b = T) ∨ (op.idleB = false ∧ b = E)
def StepsOn (ty M mb T o N : Nat) (c0 : Array Value) (i : Int) (E : Nat) (op : EOp) (f' : Adr → Int) (t' : Th) (w : World) (e : Ending) (w' : World) : Prop :=
  e = .returned (.tuple #[]) ∧ ∃ E', (t'.op.idleB = false → (E' = E ∧ op.idleB = false) ∨ w.heap.size ≤ E') ∧ MemOf M mb (N + 2) f' w' ∧ ThAt ty T o c0 t' E' w' ∧ OpAt t'.op E' i w' ∧ Mod (foot3 M mb T E op) w w'
theorem foot_on {M mb T E : Nat} {op : EOp} {w w' : World} (h : Mod (foot2 M mb T E) w w') (ho : op.idleB = false) : Mod (foot3 M mb T E op) w w' :=
  h.weaken (fun _ _ h => h.elim .inl (fun h => .inr ⟨ho, h⟩))
theorem thread_step {ty M mb N T o E : Nat} {c0 : Array Value} {f : Adr → Int} {k : Nat} (hk : k < 8) {b : Bool} {w : World} (t : Th) (hM : MemOf M mb N f w) (hTM : T ≠ M) (hTm : T ≠ mb) (hN : N < maxLen)
    (hn : f nAdr = 2) (hg0 : 0 ≤ f gAdr) (hg1 : f gAdr < 1152921504606846976) (hw : ∀ p : Nat, p < 8 → 0 ≤ f (oAdr p) ∧ f (oAdr p) < 18446744073709551616) (hok : OpOk (f gAdr) t.op)
    (hT : ThAt ty T o c0 t E w) (hO : OpAt t.op E k w) (hd : t.op.idleB = false → E ≠ M ∧ E ≠ mb ∧ E ≠ T) :
    Calls Try.prog 9 #[.pointer (some ⟨T, o, none⟩), .pointer (some ⟨M, 0, none⟩), .int .i64 k, .bool b] w
      (StepsOn ty M mb T o N c0 k E t.op (run k f (begin' b t)).1 (run k f (begin' b t)).2 w) := by
  have hk0 : (0 : Int) ≤ k := by omega
  have hk1 : (k : Int) < 16 := by omega
  obtain ⟨n, a, op⟩ := t
  cases op with
  | idle =>
    cases b with
    | true =>
      refine (begin_adv hM hTM hTm hT (i := k)).mono ?_
      rintro e w' ⟨he, E', hs, hM', hT', hE', hm⟩
      exact ⟨he, E', fun _ => .inr hs, hM', hT', hE', hm.weaken (fun _ _ h => .inl h)⟩
    | false =>
      cases n with
      | true =>
        refine (begin_ext hM hTM hTm hT hk0 hk1 hN).mono ?_
        rintro e w' ⟨he, E', hs, hM', hT', _, hm⟩
        exact ⟨he, E', fun _ => .inr hs, hM', hT', trivial, hm.weaken (fun _ _ h => .inl h)⟩
      | false =>
        refine (begin_ent hM hTM hTm hT hk0 hk1).mono ?_
        rintro e w' ⟨he, E', hs, hM', hT', hE', hm⟩
        exact ⟨he, E', fun _ => .inr hs, hM', hT', hE', hm.weaken (fun _ _ h => .inl h)⟩
  | ent1 =>
    obtain ⟨d1, d2, d3⟩ := hd rfl
    refine (ent1_on hM hTM hTm hT d1 d2 d3 hO).mono ?_
    rintro e w' ⟨he, hM', hT', hE', hm⟩
    exact ⟨he, E, fun _ => .inl ⟨rfl, rfl⟩, hM', hT', hE', foot_on hm rfl⟩
  | ent2 x =>
    obtain ⟨d1, d2, d3⟩ := hd rfl
    obtain ⟨o1, o2⟩ := hok
    refine (ent2_end hM hTM hTm o1 (by omega) hT d1 d2 d3 hO hk0 hk1 hN).mono ?_
    rintro e w' ⟨he, hM', hT', hE', hm⟩
    exact ⟨he, E, (fun h => by cases h), hM', hT', trivial, foot_on hm rfl⟩
  | ext =>
    obtain ⟨d1, d2, d3⟩ := hd rfl
    refine (ext_end hM hTM hTm hT d1 d2 d3 hO hk0 hk1 hN).mono ?_
    rintro e w' ⟨he, hM', hT', hE', hm⟩
    exact ⟨he, E, (fun h => by cases h), hM', hT', trivial, foot_on hm rfl⟩
  | adv1 =>
    obtain ⟨d1, d2, d3⟩ := hd rfl
    refine (adv_on hM hTM hTm hT d3 (fun wa hm => adv_step1 (hM.mod hm (fun h => h) (fun h => h)) (hm.keep hO (fun h => h)) d1 d2)).mono ?_
    rintro e w' ⟨he, hM', hT', hE', hm⟩
    exact ⟨he, E, fun _ => .inl ⟨rfl, rfl⟩, hM', hT', hE', foot_on hm rfl⟩
  | adv2 x =>
    obtain ⟨d1, d2, d3⟩ := hd rfl
    refine (adv_on hM hTM hTm hT d3 (fun wa hm => adv_step2 (hM.mod hm (fun h => h) (fun h => h)) hn (by decide) (hm.keep hO (fun h => h)) d1 d2)).mono ?_
    rintro e w' ⟨he, hM', hT', hE', hm⟩
    exact ⟨he, E, fun _ => .inl ⟨rfl, rfl⟩, hM', hT', hE', foot_on hm rfl⟩
  | adv3 x p =>
    obtain ⟨d1, d2, d3⟩ := hd rfl
    obtain ⟨o1, o2, o3, o4⟩ := hok
    obtain ⟨q, rfl⟩ := Int.eq_ofNat_of_zero_le o3
    obtain ⟨w0, w1⟩ := hw q (by omega)
    by_cases hf : f (oAdr q) % 2 = 1 ∧ f (oAdr q) ≠ 2 * x + 1
    · have hr : run k f (begin' b ⟨n, a, .adv3 x q⟩) = (f, ⟨n, a, .idle⟩) := by
        show (f, (⟨n, a, if f (oAdr q) % 2 = 1 ∧ f (oAdr q) ≠ 2 * x + 1 then _ else _⟩ : Th)) = _
        rw [if_pos hf]
      rw [hr]
      refine (adv_end hM hTM hTm hT d3 (fun wa hm => adv_step3_fail (hM.mod hm (fun h => h) (fun h => h)) rfl o3 o4 w0 w1 hf.1 hf.2 o1 (by omega) (hm.keep hO (fun h => h)) d1 d2)).mono ?_
      rintro e w' ⟨he, hM', hT', hE', hm⟩
      exact ⟨he, E, (fun h => by cases h), hM', hT', trivial, foot_on hm rfl⟩
    · have hor : f (oAdr q) % 2 = 0 ∨ f (oAdr q) = 2 * x + 1 := by omega
      by_cases hc : 8 ≤ (q : Int) + 1
      · have hr : run k f (begin' b ⟨n, a, .adv3 x q⟩) = (f, ⟨n, a, .adv4 x⟩) := by
          show (f, (⟨n, a, if f (oAdr q) % 2 = 1 ∧ f (oAdr q) ≠ 2 * x + 1 then _ else if 8 ≤ (q : Int) + 1 then _ else _⟩ : Th)) = _
          rw [if_neg hf, if_pos hc]
        rw [hr]
        refine (adv_on hM hTM hTm hT d3 (fun wa hm => adv_step3_on (pc' := 4) (hM.mod hm (fun h => h) (fun h => h)) rfl o3 o4 w0 w1 hor o1 (by omega) ⟨fun _ => rfl, fun h => absurd hc h⟩ (hm.keep hO (fun h => h)) d1 d2)).mono ?_
        rintro e w' ⟨he, hM', hT', hE', hm⟩
        have h8 : (q : Int) + 1 = 8 := by omega
        rw [h8] at hE'
        exact ⟨he, E, fun _ => .inl ⟨rfl, rfl⟩, hM', hT', hE', foot_on hm rfl⟩
      · have hr : run k f (begin' b ⟨n, a, .adv3 x q⟩) = (f, ⟨n, a, .adv3 x (q + 1)⟩) := by
          show (f, (⟨n, a, if f (oAdr q) % 2 = 1 ∧ f (oAdr q) ≠ 2 * x + 1 then _ else if 8 ≤ (q : Int) + 1 then _ else _⟩ : Th)) = _
          rw [if_neg hf, if_neg hc]
        rw [hr]
        refine (adv_on hM hTM hTm hT d3 (fun wa hm => adv_step3_on (pc' := 3) (hM.mod hm (fun h => h) (fun h => h)) rfl o3 o4 w0 w1 hor o1 (by omega) ⟨fun h => absurd h hc, fun _ => rfl⟩ (hm.keep hO (fun h => h)) d1 d2)).mono ?_
        rintro e w' ⟨he, hM', hT', hE', hm⟩
        exact ⟨he, E, fun _ => .inl ⟨rfl, rfl⟩, hM', hT', hE', foot_on hm rfl⟩
  | adv4 x =>
    obtain ⟨d1, d2, d3⟩ := hd rfl
    obtain ⟨o1, o2⟩ := hok
    refine (adv_end hM hTM hTm hT d3 (fun wa hm => adv_step4 (f' := if f gAdr = x then upd f gAdr (x + 1) else f) (hM.mod hm (fun h => h) (fun h => h)) hN rfl (by simp) o1 (by omega) (hm.keep hO (fun h => h)) d1 d2)).mono ?_
    rintro e w' ⟨he, hM', hT', hE', hm⟩
    exact ⟨he, E, (fun h => by cases h), hM', hT', trivial, foot_on hm rfl⟩
end Go.Proofs.Ytjnbkpklcmkdlaa
