/- A taker of snapshots: one step, whatever is under way. -/
import Derived.Test.YtjnbkpklcmkdlaaSC
namespace Go.Proofs.Ytjnbkpklcmkdlaa
open Go.RowKit

theorem stpBlocks_on {K : Nat} {M : Nat} {w : World} {Q : World → Prop} (c0 : w.cell? ⟨K, 0, none⟩ = some (nxBlocks K))
    (hC : Calls Try.prog 39 #[.pointer (some ⟨K, 0, none⟩), .pointer (some ⟨M, 0, none⟩)] w (fun e w' => e = .returned (.tuple #[]) ∧ Q w'))
    (hQ : ∀ w', Q w' → ∃ fn fi ca, w'.cell? ⟨K, 0, none⟩ = some (.func fn fi ca)) :
    Calls Try.prog 16 #[.pointer (some ⟨K, 0, none⟩), .pointer (some ⟨M, 0, none⟩)] w (fun e w' => e = .returned (.bool false) ∧ Q w') := by
  have HC := Lib.hid hC
  have HQ := Lib.hid hQ
  clear hC hQ
  go_enter Try.func16, Try.ntmps16
  go_wp2_with fail
  refine (takOver_no c0).mono ?_
  rintro _ w ⟨rfl, rfl⟩
  go_wp2_with fail
  refine HC.out.mono ?_
  rintro _ w1 ⟨rfl, hq⟩
  have HW := Lib.hid hq
  obtain ⟨fn, fi, ca, c1⟩ := HQ.out w1 hq
  clear c0 hq
  go_wp2_with fail
  refine (takOver_no c1).mono ?_
  rintro _ w1 ⟨rfl, rfl⟩
  go_wp2_with fail
  go_ret
  exact ⟨rfl, HW.out⟩
theorem stpBlocks_off {K : Nat} {M : Nat} {w : World} {Q : World → Prop} (c0 : w.cell? ⟨K, 0, none⟩ = some (nxBlocks K))
    (hC : Calls Try.prog 39 #[.pointer (some ⟨K, 0, none⟩), .pointer (some ⟨M, 0, none⟩)] w (fun e w' => e = .returned (.tuple #[]) ∧ Q w'))
    (hQ : ∀ w', Q w' → w'.cell? ⟨K, 0, none⟩ = some .nilFunc) :
    Calls Try.prog 16 #[.pointer (some ⟨K, 0, none⟩), .pointer (some ⟨M, 0, none⟩)] w (fun e w' => e = .returned (.bool true) ∧ Q w') := by
  have HC := Lib.hid hC
  have HQ := Lib.hid hQ
  clear hC hQ
  go_enter Try.func16, Try.ntmps16
  go_wp2_with fail
  refine (takOver_no c0).mono ?_
  rintro _ w ⟨rfl, rfl⟩
  go_wp2_with fail
  refine HC.out.mono ?_
  rintro _ w1 ⟨rfl, hq⟩
  have HW := Lib.hid hq
  have c1 := HQ.out w1 hq
  clear c0 hq
  go_wp2_with fail
  refine (takOver_yes c1).mono ?_
  rintro _ w1 ⟨rfl, rfl⟩
  go_wp2_with fail
  go_ret
  exact ⟨rfl, HW.out⟩
theorem stpWord_on {K : Nat} {M : Nat} {w : World} {Q : World → Prop} (c0 : w.cell? ⟨K, 0, none⟩ = some (nxWord K))
    (hC : Calls Try.prog 57 #[.pointer (some ⟨K, 0, none⟩), .pointer (some ⟨M, 0, none⟩)] w (fun e w' => e = .returned (.tuple #[]) ∧ Q w'))
    (hQ : ∀ w', Q w' → ∃ fn fi ca, w'.cell? ⟨K, 0, none⟩ = some (.func fn fi ca)) :
    Calls Try.prog 16 #[.pointer (some ⟨K, 0, none⟩), .pointer (some ⟨M, 0, none⟩)] w (fun e w' => e = .returned (.bool false) ∧ Q w') := by
  have HC := Lib.hid hC
  have HQ := Lib.hid hQ
  clear hC hQ
  go_enter Try.func16, Try.ntmps16
  go_wp2_with fail
  refine (takOver_no c0).mono ?_
  rintro _ w ⟨rfl, rfl⟩
  go_wp2_with fail
  refine HC.out.mono ?_
  rintro _ w1 ⟨rfl, hq⟩
  have HW := Lib.hid hq
  obtain ⟨fn, fi, ca, c1⟩ := HQ.out w1 hq
  clear c0 hq
  go_wp2_with fail
  refine (takOver_no c1).mono ?_
  rintro _ w1 ⟨rfl, rfl⟩
  go_wp2_with fail
  go_ret
  exact ⟨rfl, HW.out⟩
theorem stpWord_off {K : Nat} {M : Nat} {w : World} {Q : World → Prop} (c0 : w.cell? ⟨K, 0, none⟩ = some (nxWord K))
    (hC : Calls Try.prog 57 #[.pointer (some ⟨K, 0, none⟩), .pointer (some ⟨M, 0, none⟩)] w (fun e w' => e = .returned (.tuple #[]) ∧ Q w'))
    (hQ : ∀ w', Q w' → w'.cell? ⟨K, 0, none⟩ = some .nilFunc) :
    Calls Try.prog 16 #[.pointer (some ⟨K, 0, none⟩), .pointer (some ⟨M, 0, none⟩)] w (fun e w' => e = .returned (.bool true) ∧ Q w') := by
  have HC := Lib.hid hC
  have HQ := Lib.hid hQ
  clear hC hQ
  go_enter Try.func16, Try.ntmps16
  go_wp2_with fail
  refine (takOver_no c0).mono ?_
  rintro _ w ⟨rfl, rfl⟩
  go_wp2_with fail
  refine HC.out.mono ?_
  rintro _ w1 ⟨rfl, hq⟩
  have HW := Lib.hid hq
  have c1 := HQ.out w1 hq
  clear c0 hq
  go_wp2_with fail
  refine (takOver_yes c1).mono ?_
  rintro _ w1 ⟨rfl, rfl⟩
  go_wp2_with fail
  go_ret
  exact ⟨rfl, HW.out⟩
theorem stp_none {K M : Nat} {w : World} (c0 : w.cell? ⟨K, 0, none⟩ = some .nilFunc) : Calls Try.prog 16 #[.pointer (some ⟨K, 0, none⟩), .pointer (some ⟨M, 0, none⟩)] w (fun e w' => e = .returned (.bool true) ∧ w' = w) := by
  go_enter Try.func16, Try.ntmps16
  go_wp2_with fail
  refine (takOver_yes c0).mono ?_
  rintro _ w ⟨rfl, rfl⟩
  go_wp2_with fail
  refine (takOver_yes c0).mono ?_
  rintro _ w ⟨rfl, rfl⟩
  go_wp2_with fail
  go_ret
  exact ⟨rfl, rfl⟩

/-- Where a taker is. -/
inductive TSt where
  | start
  | on (n i j : Nat) (R : Nat → Nat → Int)
  | fin (n : Nat) (R : Nat → Nat → Int)
def TakIs (K RB : Nat) (t : TSt) (w : World) : Prop := match t with
  | .start => TakB K (nxBlocks K) (.slice none 0 0) 0 0 0 w ∧ RB = K
  | .on n i j R => TakOn K RB n i j R w
  | .fin n R => TakEnd K RB n R w
def TSt.ok : TSt → Prop
  | .on n i j _ => i < n ∧ n ≤ 16 ∧ j < 10
  | .fin n _ => n ≤ 16
  | _ => True
def TSt.over : TSt → Bool
  | .fin _ _ => true
  | _ => false
def tNext (f : Adr → Int) : TSt → TSt
  | .start => if all4 (f bAdr) = 0 then .fin 0 (fun _ _ => 0) else .on (all4 (f bAdr)) 0 0 (fun _ _ => 0)
  | .on n i j R => if updR R i j (f (tAdr i j)) i 0 = 0 ∨ j + 1 = 10 then (if i + 1 = n then .fin n (updR R i j (f (tAdr i j))) else .on n (i + 1) 0 (updR R i j (f (tAdr i j)))) else .on n i (j + 1) (updR R i j (f (tAdr i j)))
  | .fin n R => .fin n R
theorem tNext_start (f : Adr → Int) : tNext f .start = if all4 (f bAdr) = 0 then .fin 0 (fun _ _ => 0) else .on (all4 (f bAdr)) 0 0 (fun _ _ => 0) := rfl
theorem tNext_on {f : Adr → Int} {n i j : Nat} {R : Nat → Nat → Int} {v : Int} (hv : f (tAdr i j) = v) : tNext f (.on n i j R) = if updR R i j v i 0 = 0 ∨ j + 1 = 10 then (if i + 1 = n then .fin n (updR R i j v) else .on n (i + 1) 0 (updR R i j v)) else .on n i (j + 1) (updR R i j v) := by
  subst hv
  rfl
theorem all4_le (b : Int) : all4 b ≤ 16 := by
  unfold all4
  split
  · exact Nat.le_refl _
  · omega
theorem TSt.ok_next {f : Adr → Int} {t : TSt} (h : t.ok) : (tNext f t).ok := by
  cases t with
  | start =>
    rw [tNext_start]
    split
    · exact Nat.zero_le _
    · exact ⟨by omega, all4_le _, by decide⟩
  | on n i j R =>
    obtain ⟨h1, h2, h3⟩ := h
    rw [tNext_on rfl]
    split
    · split
      · exact h2
      · exact ⟨by omega, h2, by decide⟩
    · exact ⟨h1, h2, by omega⟩
  | fin n R => exact h
/-- What the next step asks for. -/
def tAsk : TSt → Adr
  | .start => bAdr
  | .on _ i j _ => tAdr i j
  | .fin _ _ => bAdr
def StpPost (M mb N K RB : Nat) (f : Adr → Int) (s : Int) (a : Adr) (t : TSt) (w : World) (e : Ending) (w' : World) : Prop :=
  e = .returned (.bool t.over) ∧ MemAt M mb (N + 1) f (wrap64 (s + 1)) (ldAcc a (f a)) w' ∧ (∃ RB', (RB' = RB ∨ w.heap.size ≤ RB') ∧ TakIs K RB' t w') ∧ Mod (tfoot M mb K RB) w w'
theorem stp_any {M mb N K RB : Nat} {f : Adr → Int} {s : Int} {L : Acc} {t : TSt} {w : World} (hM : MemAt M mb N f s L w) (hT : TakIs K RB t w) (hok : t.ok) (hno : t.over = false) (hKM : K ≠ M) (hKm : K ≠ mb) (hRM : RB ≠ M) (hRm : RB ≠ mb) (hb : 0 ≤ f bAdr) :
    Calls Try.prog 16 #[.pointer (some ⟨K, 0, none⟩), .pointer (some ⟨M, 0, none⟩)] w (StpPost M mb N K RB f s (tAsk t) (tNext f t) w) := by
  obtain ⟨hlM, hlm⟩ := hM.lt
  cases t with
  | start =>
    obtain ⟨hT, rfl⟩ := hT
    have c0 : w.cell? ⟨RB, 0, none⟩ = some (nxBlocks RB) := cell_of hT rfl
    have hlK := lt_of_block hT
    have hall := blocks_any hM hT hKM hKm hb
    rw [tNext_start]
    by_cases hz : all4 (f bAdr) = 0
    · rw [if_pos hz]
      rw [hz] at hall
      refine (stpBlocks_off c0 (hall.mono fun e w' h => h) (fun w' h => ?_)).mono ?_
      · obtain ⟨_, ⟨R2, _, h2, _⟩, _⟩ := h
        exact cell_of h2 rfl
      · rintro e w' ⟨he, hM', ⟨R2, hs, h2, h3⟩, hm⟩
        exact ⟨he, hM', ⟨R2, .inr hs, ⟨h2, h3, by omega⟩⟩, hm.weaken (fun _ _ h => h.imp id .inl)⟩
    · rw [if_neg hz]
      refine (stpBlocks_on c0 (hall.mono fun e w' h => h) (fun w' h => ?_)).mono ?_
      · obtain ⟨_, ⟨R2, _, h2, _⟩, _⟩ := h
        rw [if_neg hz] at h2
        exact ⟨_, _, _, cell_of h2 rfl⟩
      · rintro e w' ⟨he, hM', ⟨R2, hs, h2, h3⟩, hm⟩
        rw [if_neg hz] at h2
        exact ⟨he, hM', ⟨R2, .inr hs, ⟨h2, h3, by omega⟩⟩, hm.weaken (fun _ _ h => h.imp id .inl)⟩
  | on n i j R =>
    obtain ⟨h1, h2, h3⟩ := hok
    have c0 : w.cell? ⟨K, 0, none⟩ = some (nxWord K) := cell_of (show TakOn K RB n i j R w from hT).own rfl
    obtain ⟨v, hv⟩ : ∃ v, f (tAdr i j) = v := ⟨_, rfl⟩
    rw [tNext_on hv]
    by_cases hD : updR R i j v i 0 = 0 ∨ j + 1 = 10
    · rw [if_pos hD]
      by_cases hL : i + 1 = n
      · rw [if_pos hL]
        have hall : Calls Try.prog 57 #[.pointer (some ⟨K, 0, none⟩), .pointer (some ⟨M, 0, none⟩)] w (WordPost M mb N K RB f s (tAdr i j) (TakEnd K RB n (updR R i j v)) w) := by
          by_cases h0 : updR R i j v i 0 = 0
          · exact word_last0 hM hT hKM hKm hRM hRm h1 h2 h3 hv h0 hL
          · exact word_last9 hM hT hKM hKm hRM hRm h1 h2 h3 hv h0 (hD.resolve_left h0) hL
        refine (stpWord_off c0 (hall.mono fun e w' h => h) (fun w' h => ?_)).mono ?_
        · exact cell_of h.2.1.own rfl
        · rintro e w' ⟨he, hM', hT', hm⟩
          exact ⟨he, hM', ⟨RB, .inl rfl, hT'⟩, hm⟩
      · rw [if_neg hL]
        have hall : Calls Try.prog 57 #[.pointer (some ⟨K, 0, none⟩), .pointer (some ⟨M, 0, none⟩)] w (WordPost M mb N K RB f s (tAdr i j) (TakOn K RB n (i + 1) 0 (updR R i j v)) w) := by
          by_cases h0 : updR R i j v i 0 = 0
          · exact word_next0 hM hT hKM hKm hRM hRm h1 h2 h3 hv h0 (by omega)
          · exact word_next9 hM hT hKM hKm hRM hRm h1 h2 h3 hv h0 (hD.resolve_left h0) (by omega)
        refine (stpWord_on c0 (hall.mono fun e w' h => h) (fun w' h => ?_)).mono ?_
        · exact ⟨_, _, _, cell_of h.2.1.own rfl⟩
        · rintro e w' ⟨he, hM', hT', hm⟩
          exact ⟨he, hM', ⟨RB, .inl rfl, hT'⟩, hm⟩
    · rw [if_neg hD]
      have h0 : updR R i j v i 0 ≠ 0 := fun h => hD (.inl h)
      have h9 : j + 1 ≠ 10 := fun h => hD (.inr h)
      refine (stpWord_on c0 ((word_on hM hT hKM hKm hRM hRm h1 h2 h3 hv h0 (by omega)).mono fun e w' h => h) (fun w' h => ?_)).mono ?_
      · exact ⟨_, _, _, cell_of h.2.1.own rfl⟩
      · rintro e w' ⟨he, hM', hT', hm⟩
        exact ⟨he, hM', ⟨RB, .inl rfl, hT'⟩, hm⟩
  | fin n R => cases hno
theorem TakIs.no {K RB : Nat} {t : TSt} {w : World} (h : TakIs K RB t w) (ho : t.over = false) : ∃ fn fi ca, w.cell? ⟨K, 0, none⟩ = some (.func fn fi ca) := by
  cases t with
  | start => exact ⟨_, _, _, cell_of h.1 rfl⟩
  | on n i j R => exact ⟨_, _, _, cell_of (show TakOn K RB n i j R w from h).own rfl⟩
  | fin n R => cases ho
theorem TakIs.keep {S : Nat → Prop} {K RB : Nat} {t : TSt} {w w' : World} (h : TakIs K RB t w) (hm : Mod S w w') (h1 : ¬ S K) (h2 : ¬ S RB) : TakIs K RB t w' := by
  cases t with
  | start => exact ⟨hm.keep h.1 h1, h.2⟩
  | on n i j R =>
    have h : TakOn K RB n i j R w := h
    exact ⟨hm.keep h.own h1, hm.keep h.rows h2, h.ne⟩
  | fin n R =>
    have h : TakEnd K RB n R w := h
    exact ⟨hm.keep h.own h1, hm.keep h.rows h2, h.ne⟩
end Go.Proofs.Ytjnbkpklcmkdlaa
