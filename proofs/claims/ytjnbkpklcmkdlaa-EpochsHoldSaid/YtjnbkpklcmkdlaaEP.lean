/- How the arguments of EpochsHold read: a slice of bytes. -/
import Derived.Test.YtjnbkpklcmkdlaaEO
import Derived.ProofKit
import Derived.ChangeOld
import Derived.Deep.Slices
namespace Go.Proofs.Ytjnbkpklcmkdlaa
open Go.ChangeShapes Go.WideShapes Go.ChangeAt Go.RowKit Go.Deep

theorem own : ownKnob Try.prog.godebug = none := by kernel_rfl
theorem laidOut : laidOutB Try.prog = true := by kernel_rfl
theorem cells5 : Try.prog.cellsOf 5 = 1 := by kernel_rfl

section
variable {H : Type} {enc : TypeId × Value → H} {w : World} {base : Nat} {spare : Nat → Bool} {held : Bool}
theorem cellsAt {a : Addr} {n i : Nat} {cs : List Value} (h : w.cells? base (a.add i) n = some cs) (hn : 0 < n) : a.spot = none ∨ i ≠ 0 := by
  obtain ⟨_, hl, hc⟩ := World.cells?_some h
  rcases Nat.eq_zero_or_pos i with rfl | hi
  · left
    have h0 := hc 0 hn
    have e : (a.add 0).add 0 = a := by simp [Addr.add]
    rw [e, List.getElem?_eq_getElem (by omega)] at h0
    cases hs : a.spot with
    | none => rfl
    | some x =>
      simp only [World.cell?, hs] at h0
      split at h0 <;> simp at h0
  · right; omega
/-- A slice of bytes that came in. -/
theorem open_u8s {fuel : Nat} {a : Option Addr} {len cap : Nat} {x : DataW H × List MemPlace} (h : DataW.trod enc Try.prog w base spare held fuel 23 [.slice a len cap] = some x) :
    ∃ l : List Nat, l.length = len ∧ U8s w (.slice a len cap) l ∧ len ≤ maxLen := by
  rcases open_slice Try.underlying23 h with ⟨hcs, _⟩ | ⟨p, l, c, m, n, D, Pl, hcs, _, hl, hm, hmm, _, hel⟩
  · simp only [List.cons.injEq, Value.slice.injEq, and_true] at hcs
    obtain ⟨rfl, rfl, rfl⟩ := hcs
    exact ⟨[], rfl, ⟨none, 0, rfl, .inl rfl⟩, Nat.zero_le _⟩
  · simp only [List.cons.injEq, Value.slice.injEq, and_true] at hcs
    obtain ⟨rfl, rfl, rfl⟩ := hcs
    rw [cells5] at hel
    have hle : len ≤ m := by rw [hmm]; split <;> omega
    have hch : ∃ f : Nat → Nat, ∀ i, i < len → w.cells? base (p.add (i * 1)) 1 = some [.int .u8 (f i : Nat)] ∧ f i < 256 := choose_lt (n := len) (p := fun i b => w.cells? base (p.add (i * 1)) 1 = some [.int .u8 (b : Nat)] ∧ b < 256) (fun i hi => by
      obtain ⟨cs', h1, h2⟩ := hel i (by omega)
      obtain ⟨b, rfl, _, hw⟩ := DataW.trod_int Try.underlying5 h2
      have e1 : IntKind.u8.min = 0 := by decide
      have e2 : IntKind.u8.max = 255 := by decide
      have hw' : (decide (IntKind.u8.min ≤ b) && decide (b ≤ IntKind.u8.max)) = true := hw
      rw [e1, e2] at hw'
      simp only [Bool.and_eq_true, decide_eq_true_eq] at hw'
      obtain ⟨q, rfl⟩ := Int.eq_ofNat_of_zero_le hw'.1
      exact ⟨q, h1, by omega⟩)
    obtain ⟨f, hf⟩ := hch
    have hb : U8s w (.slice (some p) len cap) ((List.range len).map f) := by
      refine ⟨some p, cap, by simp, ?_⟩
      rcases Nat.eq_zero_or_pos len with rfl | hpos
      · exact .inl rfl
      · have hsp : p.spot = none := by
          rcases cellsAt (hf 0 hpos).1 (by omega) with h | h
          · exact h
          · simp at h
        obtain ⟨b, off, spot⟩ := p
        simp only at hsp
        subst hsp
        refine .inr ⟨b, off, rfl, fun k hk => ?_⟩
        have hk' : k < len := by simpa using hk
        obtain ⟨h1, h2⟩ := hf k hk'
        have := cell_of_cells?_one h1
        rw [Nat.mul_one] at this
        simp only [List.getElem_map, List.getElem_range]
        refine ⟨?_, h2⟩
        rw [← this]
        congr 1
        unfold Addr.add
        by_cases h1 : k = 0 <;> simp [h1]
    exact ⟨_, by simp, hb, Nat.le_trans hl hm⟩
end

set_option maxHeartbeats 1000000 in
theorem holds_long (w : World) (first : Int) (a : Option Addr) (n cap : Nat) (hn : 800 < n) (hm : n ≤ maxLen) :
    Calls Try.prog 3 #[.int .u64 first, .slice a n cap] w (LivesPost w) := by
  unfold maxLen at hm
  have hd : decide ((n : Int) > 800) = true := decide_eq_true (p := 800 < (n : Int)) (by omega)
  go_enter Try.func3, Try.ntmps3
  go_wp2_with fail
  refine (lives_any _).mono ?_
  rintro _ w1 ⟨rfl, hb⟩
  have HB := Lib.hid hb
  clear hb
  go_wp2_with fail
  go_ret
  exact ⟨rfl, HB.out⟩
end Go.Proofs.Ytjnbkpklcmkdlaa
