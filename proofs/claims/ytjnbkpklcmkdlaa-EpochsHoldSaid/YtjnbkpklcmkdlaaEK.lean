/- Epochs: the plain machine of eight threads, and what holds of it. -/
import Derived.Test.YtjnbkpklcmkdlaaEJ
namespace Go.Proofs.Ytjnbkpklcmkdlaa

def EOp.idleB : EOp → Bool
  | .idle => true
  | _ => false
def begin' (b : Bool) (t : Th) : Th := if t.op.idleB then (if b then { t with op := .adv1 } else if t.inn then { t with inn := false, op := .ext } else { t with op := .ent1 }) else t
def run (i : Int) (f : Adr → Int) (t : Th) : (Adr → Int) × Th := match t.op with
  | .idle => (f, t)
  | .ent1 => (f, { t with op := .ent2 (f gAdr) })
  | .ent2 e => (upd f (oAdr i) (2 * e + 1), { inn := true, at' := f gAdr, op := .idle })
  | .ext => (upd f (oAdr i) 0, { t with op := .idle })
  | .adv1 => (f, { t with op := .adv2 (f gAdr) })
  | .adv2 e => (f, { t with op := .adv3 e 0 })
  | .adv3 e p => (f, { t with op := if f (oAdr p) % 2 = 1 ∧ f (oAdr p) ≠ 2 * e + 1 then .idle else if 8 ≤ p + 1 then .adv4 e else .adv3 e (p + 1) })
  | .adv4 e => (if f gAdr = e then upd f gAdr (e + 1) else f, { t with op := .idle })

theorem upd_same (f : Adr → Int) (a : Adr) (v : Int) : upd f a v a = v := by simp [upd]
theorem upd_other (f : Adr → Int) {a b : Adr} (h : b ≠ a) (v : Int) : upd f a v b = f b := by simp [upd, h]
theorem g_ne_o (i : Int) : gAdr ≠ oAdr i := by simp [gAdr, oAdr]
theorem o_ne_g (i : Int) : oAdr i ≠ gAdr := by simp [gAdr, oAdr]
theorem n_ne_g : nAdr ≠ gAdr := by simp [gAdr, nAdr]
theorem n_ne_o (i : Int) : nAdr ≠ oAdr i := by simp [nAdr, oAdr]
theorem o_inj {i j : Int} (h : i ≠ j) : oAdr i ≠ oAdr j := by simp [oAdr, h]

/-- What a thread's operation knows, i its place, now the epoch. -/
def OpOk (now : Int) : EOp → Prop
  | .ent2 e => 0 ≤ e ∧ e ≤ now
  | .adv2 e => 0 ≤ e ∧ e ≤ now
  | .adv3 e p => 0 ≤ e ∧ e ≤ now ∧ 0 ≤ p ∧ p < 8
  | .adv4 e => 0 ≤ e ∧ e ≤ now
  | _ => True
def Outside : EOp → Prop
  | .ent1 => False
  | .ent2 _ => False
  | .ext => False
  | _ => True
/-- An Advance of the epoch now has not yet gone past the place i. -/
def Behind (now : Int) (i : Int) : EOp → Prop
  | .adv3 e p => e = now → p ≤ i
  | .adv4 e => e ≠ now
  | _ => True
structure Inv (f : Adr → Int) (th : Nat → Th) : Prop where
  blocks : f nAdr = 2
  now0 : 0 ≤ f gAdr
  words : ∀ i : Nat, i < 8 → f (oAdr i) = 0 ∨ ∃ e, 0 ≤ e ∧ e ≤ f gAdr ∧ f (oAdr i) = 2 * e + 1
  ops : ∀ i : Nat, i < 8 → OpOk (f gAdr) (th i).op
  out : ∀ i : Nat, i < 8 → (th i).inn = true → Outside (th i).op
  at0 : ∀ i : Nat, i < 8 → (th i).inn = true → (∃ e, 0 ≤ e ∧ e ≤ (th i).at' ∧ f (oAdr i) = 2 * e + 1) ∧ (f gAdr = (th i).at' ∨ f gAdr = (th i).at' + 1)
  behind : ∀ i : Nat, i < 8 → (th i).inn = true → f gAdr = (th i).at' + 1 → ∀ j : Nat, j < 8 → Behind (f gAdr) i (th j).op

def setTh (th : Nat → Th) (k : Nat) (t : Th) : Nat → Th := fun i => if i = k then t else th i
theorem setTh_same (th : Nat → Th) (k : Nat) (t : Th) : setTh th k t k = t := by simp [setTh]
theorem setTh_other (th : Nat → Th) {k i : Nat} (h : i ≠ k) (t : Th) : setTh th k t i = th i := by simp [setTh, h]

/-- An operation turned, the words as they were. -/
theorem Inv.turn {f : Adr → Int} {th : Nat → Th} (h : Inv f th) {k : Nat} (t : Th) (hin : t.inn = true → (th k).inn = true) (hat : t.at' = (th k).at')
    (hok : OpOk (f gAdr) t.op) (hout : t.inn = true → Outside t.op)
    (hb : ∀ i : Nat, i < 8 → (th i).inn = true → f gAdr = (th i).at' + 1 → Behind (f gAdr) i t.op) : Inv f (setTh th k t) := by
  refine ⟨h.blocks, h.now0, h.words, fun i hi => ?_, fun i hi => ?_, fun i hi => ?_, fun i hi => ?_⟩
  · by_cases e : i = k
    · subst e; rw [setTh_same]; exact hok
    · rw [setTh_other _ e]; exact h.ops i hi
  · by_cases e : i = k
    · subst e; rw [setTh_same]; exact hout
    · rw [setTh_other _ e]; exact h.out i hi
  · by_cases e : i = k
    · subst e; rw [setTh_same, hat]; exact fun hi' => h.at0 i hi (hin hi')
    · rw [setTh_other _ e]; exact h.at0 i hi
  · have key : ∀ j : Nat, j < 8 → (th i).inn = true → f gAdr = (th i).at' + 1 → Behind (f gAdr) i (setTh th k t j).op := fun j hj h1 h2 => by
      by_cases e : j = k
      · subst e; rw [setTh_same]; exact hb i hi h1 h2
      · rw [setTh_other _ e]; exact h.behind i hi h1 h2 j hj
    by_cases e : i = k
    · subst e; rw [setTh_same, hat]; exact fun h1 h2 j hj => key j hj (hin h1) h2
    · rw [setTh_other _ e]; exact fun h1 h2 j hj => key j hj h1 h2

theorem Inv.begin {f : Adr → Int} {th : Nat → Th} (h : Inv f th) {k : Nat} (hk : k < 8) (b : Bool) : Inv f (setTh th k (begin' b (th k))) := by
  unfold begin'
  by_cases hi : (th k).op.idleB = true
  · rw [if_pos hi]
    by_cases hb : b = true
    · rw [if_pos hb]
      exact h.turn _ (fun h => h) rfl trivial (fun _ => trivial) (fun _ _ _ _ => trivial)
    · rw [if_neg hb]
      by_cases hn : (th k).inn = true
      · rw [if_pos hn]
        exact h.turn _ (fun h => by cases h) rfl trivial (fun h => by cases h) (fun _ _ _ _ => trivial)
      · rw [if_neg hn]
        exact h.turn _ (fun h => h) rfl trivial (fun h => absurd h hn) (fun _ _ _ _ => trivial)
  · rw [if_neg hi]
    exact h.turn _ (fun h => h) rfl (h.ops k hk) (h.out k hk) (fun i hi h1 h2 => h.behind i hi h1 h2 k hk)

theorem Inv.run {f : Adr → Int} {th : Nat → Th} (h : Inv f th) {k : Nat} (hk : k < 8) : Inv (run k f (th k)).1 (setTh th k (run k f (th k)).2) ∧ (f gAdr ≤ (Proofs.Ytjnbkpklcmkdlaa.run k f (th k)).1 gAdr ∧ (Proofs.Ytjnbkpklcmkdlaa.run k f (th k)).1 gAdr ≤ f gAdr + 1) := by
  have hop := h.ops k hk
  have hbe := fun i hi h1 h2 => h.behind i hi h1 h2 k hk
  have hou := h.out k hk
  unfold Proofs.Ytjnbkpklcmkdlaa.run
  cases hq : (th k).op with
  | idle =>
    exact ⟨h.turn _ (fun h => h) rfl (by rw [hq]; trivial) (fun _ => by rw [hq]; trivial) (fun _ _ _ _ => by rw [hq]; trivial), by dsimp only; omega, by dsimp only; omega⟩
  | ent1 => 
    rw [hq] at hou
    exact ⟨h.turn _ (fun h => h) rfl ⟨h.now0, Int.le_refl _⟩ (fun h => (hou h).elim) (fun _ _ _ _ => trivial), by dsimp only; omega, by dsimp only; omega⟩
  | ent2 e =>
    rw [hq] at hop hou
    dsimp only
    have hg : upd f (oAdr k) (2 * e + 1) gAdr = f gAdr := upd_other f (g_ne_o _) _
    refine ⟨⟨by rw [upd_other f (n_ne_o _)]; exact h.blocks, by rw [hg]; exact h.now0, fun i hi => ?_, fun i hi => ?_, fun i hi => ?_, fun i hi => ?_, fun i hi => ?_⟩, by rw [hg]; omega, by rw [hg]; omega⟩
    · rw [hg]
      by_cases c : i = k
      · subst c; rw [upd_same]; exact .inr ⟨e, hop.1, hop.2, rfl⟩
      · rw [upd_other f (o_inj (by omega))]; exact h.words i hi
    · rw [hg]
      by_cases c : i = k
      · subst c; rw [setTh_same]; trivial
      · rw [setTh_other _ c]; exact h.ops i hi
    · by_cases c : i = k
      · subst c; rw [setTh_same]; exact fun _ => trivial
      · rw [setTh_other _ c]; exact h.out i hi
    · rw [hg]
      by_cases c : i = k
      · subst c; rw [setTh_same, upd_same]; exact fun _ => ⟨⟨e, hop.1, hop.2, rfl⟩, .inl rfl⟩
      · rw [setTh_other _ c, upd_other f (o_inj (by omega))]; exact h.at0 i hi
    · rw [hg]
      by_cases c : i = k
      · subst c; rw [setTh_same]; exact fun _ h2 => by simp only at h2; omega
      · rw [setTh_other _ c]
        intro h1 h2 j hj
        by_cases d : j = k
        · subst d; rw [setTh_same]; trivial
        · rw [setTh_other _ d]; exact h.behind i hi h1 h2 j hj
  | ext =>
    rw [hq] at hou
    dsimp only
    have hg : upd f (oAdr k) 0 gAdr = f gAdr := upd_other f (g_ne_o _) _
    refine ⟨⟨by rw [upd_other f (n_ne_o _)]; exact h.blocks, by rw [hg]; exact h.now0, fun i hi => ?_, fun i hi => ?_, fun i hi => ?_, fun i hi => ?_, fun i hi => ?_⟩, by rw [hg]; omega, by rw [hg]; omega⟩
    · rw [hg]
      by_cases c : i = k
      · subst c; rw [upd_same]; exact .inl rfl
      · rw [upd_other f (o_inj (by omega))]; exact h.words i hi
    · rw [hg]
      by_cases c : i = k
      · subst c; rw [setTh_same]; trivial
      · rw [setTh_other _ c]; exact h.ops i hi
    · by_cases c : i = k
      · subst c; rw [setTh_same]; exact fun _ => trivial
      · rw [setTh_other _ c]; exact h.out i hi
    · rw [hg]
      by_cases c : i = k
      · subst c; rw [setTh_same]; exact fun h => (hou h).elim
      · rw [setTh_other _ c, upd_other f (o_inj (by omega))]; exact h.at0 i hi
    · rw [hg]
      by_cases c : i = k
      · subst c; rw [setTh_same]; exact fun h => (hou h).elim
      · rw [setTh_other _ c]
        intro h1 h2 j hj
        by_cases d : j = k
        · subst d; rw [setTh_same]; trivial
        · rw [setTh_other _ d]; exact h.behind i hi h1 h2 j hj
  | adv1 => exact ⟨h.turn _ (fun h => h) rfl ⟨h.now0, Int.le_refl _⟩ (fun _ => trivial) (fun _ _ _ _ => trivial), by dsimp only; omega, by dsimp only; omega⟩
  | adv2 e =>
    rw [hq] at hop
    exact ⟨h.turn _ (fun h => h) rfl ⟨hop.1, hop.2, Int.le_refl _, by decide⟩ (fun _ => trivial) (fun i _ _ _ _ => by omega), by dsimp only; omega, by dsimp only; omega⟩
  | adv3 e p =>
    rw [hq] at hop
    obtain ⟨e0, e1, p0, p1⟩ := hop
    have hb2 : ∀ i : Nat, i < 8 → (th i).inn = true → f gAdr = (th i).at' + 1 → e = f gAdr → p ≤ i := fun i hi h1 h2 => by have := hbe i hi h1 h2; rw [hq] at this; exact this
    have hread : ∀ i : Nat, i < 8 → (th i).inn = true → f gAdr = (th i).at' + 1 → e = f gAdr → p = i → (f (oAdr p) % 2 = 1 ∧ f (oAdr p) ≠ 2 * e + 1) := fun i hi h1 h2 h3 h4 => by
      obtain ⟨⟨e', a, b, c⟩, _⟩ := h.at0 i hi h1
      rw [h4, c]
      omega
    refine ⟨h.turn _ (fun h => h) rfl ?_ (fun _ => ?_) (fun i hi h1 h2 => ?_), by dsimp only; omega, by dsimp only; omega⟩
    · show OpOk _ (if _ then _ else _)
      split
      · trivial
      · split
        · exact ⟨e0, e1⟩
        · exact ⟨e0, e1, by omega, by omega⟩
    · show Outside (if _ then _ else _)
      split
      · trivial
      · split <;> trivial
    · show Behind _ _ (if _ then _ else _)
      have hb3 := hb2 i hi h1 h2
      have hr3 := hread i hi h1 h2
      split
      · trivial
      · rename_i hn
        split
        · intro h3
          have := hb3 h3
          exact hn (hr3 h3 (by omega))
        · intro h3
          have := hb3 h3
          have : p ≠ i := fun h4 => hn (hr3 h3 h4)
          omega
  | adv4 e =>
    rw [hq] at hop
    dsimp only
    by_cases hc : f gAdr = e
    · simp only [if_pos hc]
      have hg : upd f gAdr (e + 1) gAdr = f gAdr + 1 := by rw [upd_same]; omega
      refine ⟨⟨by rw [upd_other f n_ne_g]; exact h.blocks, by rw [hg]; have := h.now0; omega, fun i hi => ?_, fun i hi => ?_, fun i hi => ?_, fun i hi => ?_, fun i hi => ?_⟩, by rw [hg]; omega, by rw [hg]; omega⟩
      · rw [hg, upd_other f (o_ne_g _)]
        rcases h.words i hi with h1 | ⟨e', a, b, c⟩
        · exact .inl h1
        · exact .inr ⟨e', a, by omega, c⟩
      · rw [hg]
        have key : ∀ q : EOp, OpOk (f gAdr) q → OpOk (f gAdr + 1) q := fun q => by
          cases q <;> simp only [OpOk] <;> intro h' <;> first | trivial | omega
        by_cases c : i = k
        · subst c; rw [setTh_same]; trivial
        · rw [setTh_other _ c]; exact key _ (h.ops i hi)
      · by_cases c : i = k
        · subst c; rw [setTh_same]; exact fun _ => trivial
        · rw [setTh_other _ c]; exact h.out i hi
      · have key : (th i).inn = true → (∃ e, 0 ≤ e ∧ e ≤ (th i).at' ∧ f (oAdr i) = 2 * e + 1) ∧ (f gAdr + 1 = (th i).at' ∨ f gAdr + 1 = (th i).at' + 1) := fun h1 => by
          obtain ⟨a, b⟩ := h.at0 i hi h1
          refine ⟨a, ?_⟩
          rcases b with b | b
          · right; omega
          · have := hbe i hi h1 b
            rw [hq] at this
            exact absurd hc.symm this
        rw [hg, upd_other f (o_ne_g _)]
        by_cases c : i = k
        · subst c; rw [setTh_same]; exact key
        · rw [setTh_other _ c]; exact key
      · rw [hg]
        intro h1 h2 j hj
        have key : ∀ q : EOp, OpOk (f gAdr) q → Behind (f gAdr + 1) i q := fun q => by
          cases q <;> simp only [OpOk, Behind] <;> intro h' <;> first | trivial | omega
        by_cases d : j = k
        · subst d; rw [setTh_same]; trivial
        · rw [setTh_other _ d]; exact key _ (h.ops j hj)
    · simp only [if_neg hc]
      exact ⟨h.turn _ (fun h => h) rfl trivial (fun _ => trivial) (fun _ _ _ _ => trivial), by omega, by omega⟩
end Go.Proofs.Ytjnbkpklcmkdlaa
