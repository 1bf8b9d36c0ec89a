/- How the argument of SnapsMoved reads; the ways out ahead of the play. -/
import Derived.Test.YtjnbkpklcmkdlaaSH
import Derived.ProofKit
import Derived.ChangeOld
import Derived.OpenShut
import Derived.Deep.Slices
namespace Go.Proofs.Ytjnbkpklcmkdlaa
open Go.ChangeShapes Go.WideShapes Go.ChangeAt Go.RowKit Go.Deep

theorem own : ownKnob Try.prog.godebug = none := by kernel_rfl
theorem laidOut : laidOutB Try.prog = true := by kernel_rfl
theorem cellsThr : Try.prog.cellsOf 52 = 10 := by kernel_rfl
theorem cellsMov : Try.prog.cellsOf 49 = 5 := by kernel_rfl
theorem cellsU64 : Try.prog.cellsOf 22 = 1 := by kernel_rfl
theorem cellsU8 : Try.prog.cellsOf 5 = 1 := by kernel_rfl
theorem cellsA3 : Try.prog.cellsOf 50 = 3 := by kernel_rfl
theorem cellsA2 : Try.prog.cellsOf 47 = 2 := by kernel_rfl
theorem cellsTs : Try.prog.cellsOf 46 = 1 := by kernel_rfl

section
variable {H : Type} {enc : TypeId × Value → H} {w : World} {base : Nat} {spare : Nat → Bool} {held : Bool}
theorem cellsAt {a : Addr} {n i : Nat} {cs : List Value} (h : w.cells? base (a.add i) n = some cs) (hn : 0 < n) : a.spot = none ∨ i ≠ 0 := by
  obtain ⟨_, hl, hc⟩ := World.cells?_some h
  rcases Nat.eq_zero_or_pos i with rfl | hi
  · left
    have h0 := hc 0 hn
    have e : (a.add 0).add 0 = a := by simp [Addr.add]
    rw [e, List.getElem?_eq_getElem (by omega)] at h0
    cases hs : a.spot with
    | none => rfl
    | some x =>
      simp only [World.cell?, hs] at h0
      split at h0 <;> simp at h0
  · right; omega

theorem u64_of {fuel : Nat} {c : Value} {x : DataW H × List MemPlace} (h : DataW.trod enc Try.prog w base spare held fuel 22 [c] = some x) : ∃ n : Int, c = .int .u64 n ∧ (Lit.int .u64 n).wf = true := by
  obtain ⟨n, hc, _, hw⟩ := DataW.trod_int Try.underlying22 h
  simp only [List.cons.injEq, and_true] at hc
  exact ⟨n, hc, hw⟩
theorem u8_of {fuel : Nat} {c : Value} {x : DataW H × List MemPlace} (h : DataW.trod enc Try.prog w base spare held fuel 5 [c] = some x) : ∃ n : Nat, c = .int .u8 n ∧ n < 256 := by
  obtain ⟨n, hc, _, hw⟩ := DataW.trod_int Try.underlying5 h
  simp only [List.cons.injEq, and_true] at hc
  have e1 : IntKind.u8.min = 0 := by decide
  have e2 : IntKind.u8.max = 255 := by decide
  have hw' : (decide (IntKind.u8.min ≤ n) && decide (n ≤ IntKind.u8.max)) = true := hw
  rw [e1, e2] at hw'
  simp only [Bool.and_eq_true, decide_eq_true_eq] at hw'
  obtain ⟨q, rfl⟩ := Int.eq_ofNat_of_zero_le hw'.1
  exact ⟨q, hc, by omega⟩
set_option maxRecDepth 100000 in
theorem thr_of {fuel : Nat} {cs : List Value} {x : DataW H × List MemPlace} (h : DataW.trod enc Try.prog w base spare held fuel 52 cs = some x) :
    ∃ r : Nat → Int, (∀ j, j < 10 → cs[j]? = some (.int .u64 (r j))) ∧ (∀ j, j < 10 → (Lit.int .u64 (r j)).wf = true) := by
  obtain ⟨xs, n, rfl, _, hl, hxl, hf⟩ := DataW.trod_struct Try.underlying52 h
  rw [cellsThr] at hl
  match cs, hl with
  | [c0, c1, c2, c3, c4, c5, c6, c7, c8, c9], _ =>
    simp only [List.size_toArray, List.length_cons, List.length_nil] at hxl
    match xs, hxl with
    | [x0, x1, x2, x3, x4, x5, x6, x7], _ =>
      have f0 : DataW.trod enc Try.prog w base spare held n 22 (([c0, c1, c2, c3, c4, c5, c6, c7, c8, c9].drop 0).take (Try.prog.cellsOf 22)) = some x0 := hf 0 _ rfl
      have f1 : DataW.trod enc Try.prog w base spare held n 22 (([c0, c1, c2, c3, c4, c5, c6, c7, c8, c9].drop 1).take (Try.prog.cellsOf 22)) = some x1 := hf 1 _ rfl
      have f2 : DataW.trod enc Try.prog w base spare held n 22 (([c0, c1, c2, c3, c4, c5, c6, c7, c8, c9].drop 2).take (Try.prog.cellsOf 22)) = some x2 := hf 2 _ rfl
      have f3 : DataW.trod enc Try.prog w base spare held n 22 (([c0, c1, c2, c3, c4, c5, c6, c7, c8, c9].drop 3).take (Try.prog.cellsOf 22)) = some x3 := hf 3 _ rfl
      have f4 : DataW.trod enc Try.prog w base spare held n 22 (([c0, c1, c2, c3, c4, c5, c6, c7, c8, c9].drop 4).take (Try.prog.cellsOf 22)) = some x4 := hf 4 _ rfl
      have f5 : DataW.trod enc Try.prog w base spare held n 22 (([c0, c1, c2, c3, c4, c5, c6, c7, c8, c9].drop 5).take (Try.prog.cellsOf 22)) = some x5 := hf 5 _ rfl
      have f6 : DataW.trod enc Try.prog w base spare held n 22 (([c0, c1, c2, c3, c4, c5, c6, c7, c8, c9].drop 6).take (Try.prog.cellsOf 22)) = some x6 := hf 6 _ rfl
      have f7 : DataW.trod enc Try.prog w base spare held n 50 (([c0, c1, c2, c3, c4, c5, c6, c7, c8, c9].drop 7).take (Try.prog.cellsOf 50)) = some x7 := hf 7 _ rfl
      rw [cellsU64] at f0 f1 f2 f3 f4 f5 f6
      rw [cellsA3] at f7
      simp only [List.drop_zero, List.drop_succ_cons, List.take_succ_cons, List.take_zero] at f0 f1 f2 f3 f4 f5 f6 f7
      obtain ⟨ys, m, rfl, _, _, hyl, hg⟩ := DataW.trod_array Try.underlying50 f7
      match ys, hyl with
      | [y0, y1, y2], _ =>
        have g0 : DataW.trod enc Try.prog w base spare held m 22 (([c7, c8, c9].drop (0 * Try.prog.cellsOf 22)).take (Try.prog.cellsOf 22)) = some y0 := hg 0 (by decide)
        have g1 : DataW.trod enc Try.prog w base spare held m 22 (([c7, c8, c9].drop (1 * Try.prog.cellsOf 22)).take (Try.prog.cellsOf 22)) = some y1 := hg 1 (by decide)
        have g2 : DataW.trod enc Try.prog w base spare held m 22 (([c7, c8, c9].drop (2 * Try.prog.cellsOf 22)).take (Try.prog.cellsOf 22)) = some y2 := hg 2 (by decide)
        rw [cellsU64] at g0 g1 g2
        simp only [Nat.mul_one, List.drop_zero, List.drop_succ_cons, List.take_succ_cons, List.take_zero] at g0 g1 g2
        obtain ⟨n0, rfl, w0⟩ := u64_of f0
        obtain ⟨n1, rfl, w1⟩ := u64_of f1
        obtain ⟨n2, rfl, w2⟩ := u64_of f2
        obtain ⟨n3, rfl, w3⟩ := u64_of f3
        obtain ⟨n4, rfl, w4⟩ := u64_of f4
        obtain ⟨n5, rfl, w5⟩ := u64_of f5
        obtain ⟨n6, rfl, w6⟩ := u64_of f6
        obtain ⟨n7, rfl, w7⟩ := u64_of g0
        obtain ⟨n8, rfl, w8⟩ := u64_of g1
        obtain ⟨n9, rfl, w9⟩ := u64_of g2
        refine ⟨fun j => match j with | 0 => n0 | 1 => n1 | 2 => n2 | 3 => n3 | 4 => n4 | 5 => n5 | 6 => n6 | 7 => n7 | 8 => n8 | _ => n9, fun j hj => ?_, fun j hj => ?_⟩
        · obtain rfl | rfl | rfl | rfl | rfl | rfl | rfl | rfl | rfl | rfl : j = 0 ∨ j = 1 ∨ j = 2 ∨ j = 3 ∨ j = 4 ∨ j = 5 ∨ j = 6 ∨ j = 7 ∨ j = 8 ∨ j = 9 := by omega
          all_goals rfl
        · obtain rfl | rfl | rfl | rfl | rfl | rfl | rfl | rfl | rfl | rfl : j = 0 ∨ j = 1 ∨ j = 2 ∨ j = 3 ∨ j = 4 ∨ j = 5 ∨ j = 6 ∨ j = 7 ∨ j = 8 ∨ j = 9 := by omega
          all_goals assumption

/-- A slice of threads that came in. -/
theorem open_thrs {fuel : Nat} {a : Option Addr} {len cap : Nat} {x : DataW H × List MemPlace} (h : DataW.trod enc Try.prog w base spare held fuel 46 [.slice a len cap] = some x) :
    ∃ R : Nat → Nat → Int, Thrs w (.slice a len cap) len R ∧ (∀ k, k < len → ∀ j, j < 10 → (Lit.int .u64 (R k j)).wf = true) ∧ len ≤ maxLen := by
  rcases open_slice Try.underlying46 h with ⟨hcs, _⟩ | ⟨p, l, c, m, n, D, Pl, hcs, _, hl, hm, hmm, _, hel⟩
  · simp only [List.cons.injEq, Value.slice.injEq, and_true] at hcs
    obtain ⟨rfl, rfl, rfl⟩ := hcs
    exact ⟨fun _ _ => 0, ⟨none, 0, rfl, .inl rfl⟩, fun k hk => by omega, Nat.zero_le _⟩
  · simp only [List.cons.injEq, Value.slice.injEq, and_true] at hcs
    obtain ⟨rfl, rfl, rfl⟩ := hcs
    rw [cellsThr] at hel
    have hle : len ≤ m := by rw [hmm]; split <;> omega
    have hch : ∃ f : Nat → (Nat → Int), ∀ i, i < len → (∀ j, j < 10 → w.cell? ((p.add (i * 10)).add j) = some (.int .u64 (f i j))) ∧ ∀ j, j < 10 → (Lit.int .u64 (f i j)).wf = true := choose_lt (n := len) (p := fun i (r : Nat → Int) => (∀ j, j < 10 → w.cell? ((p.add (i * 10)).add j) = some (.int .u64 (r j))) ∧ ∀ j, j < 10 → (Lit.int .u64 (r j)).wf = true) (fun i hi => by
      obtain ⟨cs', h1, h2⟩ := hel i (by omega)
      obtain ⟨r, hr, hw⟩ := thr_of h2
      obtain ⟨_, hcl, hat⟩ := World.cells?_some h1
      exact ⟨r, fun j hj => by rw [hat j hj]; exact hr j hj, hw⟩)
    obtain ⟨R, hR⟩ := hch
    refine ⟨R, ⟨some p, cap, rfl, ?_⟩, fun k hk => (hR k hk).2, Nat.le_trans hl hm⟩
    rcases Nat.eq_zero_or_pos len with hz | hpos
    · exact .inl hz
    · have hsp : p.spot = none := by
        obtain ⟨cs', h1, _⟩ := hel 0 (by omega)
        rcases cellsAt h1 (by omega) with h | h
        · exact h
        · simp at h
      obtain ⟨b, off, spot⟩ := p
      simp only at hsp
      subst hsp
      have hcell : ∀ k, k < len → ∀ j, j < 10 → w.cell? ⟨b, off + k * 10 + j, none⟩ = some (.int .u64 (R k j)) := fun k hk j hj => by
        have := (hR k hk).1 j hj
        rw [← this]
        congr 1
        unfold Addr.add
        by_cases h1 : k * 10 = 0 <;> by_cases h2 : j = 0 <;> simp [h1, h2]
      exact .inr ⟨b, off, rfl, World.block_lt_of_cell? _ _ (hcell 0 hpos 0 (by decide)), hcell⟩
set_option maxRecDepth 100000 in
/-- The argument of SnapsMoved. -/
theorem open_mov {r : Reach} {b0 : Nat} {v : Value} {d : DataW H} {ps : List MemPlace} (hv : Value.okWide Try.prog w r b0 49 v) (h : DataW.Trod enc Try.prog w base spare held 49 v d ps) :
    ∃ a n c z0 z1 vv at' R, v = movV a n c z0 z1 vv at' ∧ Thrs w (.slice a n c) n R ∧ (∀ k, k < n → ∀ j, j < 10 → (Lit.int .u64 (R k j)).wf = true) ∧ n ≤ maxLen ∧ z0 < 256 ∧ z1 < 256 ∧ at' < 256 ∧ (Lit.int .u64 vv).wf = true := by
  obtain ⟨cs, rfl, hsz⟩ := okWide_struct Try.underlying49 hv
  rw [cellsMov] at hsz
  obtain ⟨l⟩ := cs
  match l, hsz with
  | [c0, c1, c2, c3, c4], _ =>
    obtain ⟨fuel, hf⟩ := h
    obtain ⟨xs, n, rfl, _, hl, hxl, hg⟩ := DataW.trod_struct Try.underlying49 hf
    simp only [List.size_toArray, List.length_cons, List.length_nil] at hxl
    match xs, hxl with
    | [x0, x1, x2, x3], _ =>
      have f0 : DataW.trod enc Try.prog w base spare held n 46 (([c0, c1, c2, c3, c4].drop 0).take (Try.prog.cellsOf 46)) = some x0 := hg 0 _ rfl
      have f1 : DataW.trod enc Try.prog w base spare held n 47 (([c0, c1, c2, c3, c4].drop 1).take (Try.prog.cellsOf 47)) = some x1 := hg 1 _ rfl
      have f2 : DataW.trod enc Try.prog w base spare held n 22 (([c0, c1, c2, c3, c4].drop 3).take (Try.prog.cellsOf 22)) = some x2 := hg 2 _ rfl
      have f3 : DataW.trod enc Try.prog w base spare held n 5 (([c0, c1, c2, c3, c4].drop 4).take (Try.prog.cellsOf 5)) = some x3 := hg 3 _ rfl
      rw [cellsTs] at f0
      rw [cellsA2] at f1
      rw [cellsU64] at f2
      rw [cellsU8] at f3
      simp only [List.drop_zero, List.drop_succ_cons, List.take_succ_cons, List.take_zero] at f0 f1 f2 f3
      obtain ⟨ys, m, rfl, _, _, hyl, hk⟩ := DataW.trod_array Try.underlying47 f1
      match ys, hyl with
      | [y0, y1], _ =>
        have g0 : DataW.trod enc Try.prog w base spare held m 5 (([c1, c2].drop (0 * Try.prog.cellsOf 5)).take (Try.prog.cellsOf 5)) = some y0 := hk 0 (by decide)
        have g1 : DataW.trod enc Try.prog w base spare held m 5 (([c1, c2].drop (1 * Try.prog.cellsOf 5)).take (Try.prog.cellsOf 5)) = some y1 := hk 1 (by decide)
        rw [cellsU8] at g0 g1
        simp only [Nat.mul_one, List.drop_zero, List.drop_succ_cons, List.take_succ_cons, List.take_zero] at g0 g1
        obtain ⟨z0, rfl, hz0⟩ := u8_of g0
        obtain ⟨z1, rfl, hz1⟩ := u8_of g1
        obtain ⟨vv, rfl, hvv⟩ := u64_of f2
        obtain ⟨at', rfl, hat⟩ := u8_of f3
        obtain ⟨a, len, cap, rfl⟩ : ∃ a len cap, c0 = .slice a len cap := by
          rcases open_slice Try.underlying46 f0 with ⟨hcs, _⟩ | ⟨p, l, c, m, n, D, Pl, hcs, _⟩
          · simp only [List.cons.injEq, and_true] at hcs
            exact ⟨_, _, _, hcs⟩
          · simp only [List.cons.injEq, and_true] at hcs
            exact ⟨_, _, _, hcs⟩
        obtain ⟨R, hR, hw, hm⟩ := open_thrs f0
        exact ⟨a, len, cap, z0, z1, vv, at', R, rfl, hR, hw, hm, hz0, hz1, hat, hvv⟩
end

set_option maxHeartbeats 1000000 in
set_option maxRecDepth 100000 in
theorem moved_none (w : World) {a : Option Addr} {c z0 z1 at' : Nat} {v : Int} : Calls Try.prog 4 #[movV a 0 c z0 z1 v at'] w (LivesPost w) := by
  go_enter Try.func4, Try.ntmps4
  go_wp2_with fail
  refine (lives14_any _).mono ?_
  rintro _ w1 ⟨rfl, hb⟩
  have HB := Lib.hid hb
  clear hb
  go_wp2_with fail
  go_ret
  exact ⟨rfl, ((Below.refl _ _).alloc (Nat.le_refl _) _).trans (HB.out.mono (by simp))⟩
set_option maxHeartbeats 1000000 in
set_option maxRecDepth 100000 in
theorem moved_many (w : World) {a : Option Addr} {n c z0 z1 at' : Nat} {v : Int} (hn : 16 < n) (hm : n ≤ maxLen) : Calls Try.prog 4 #[movV a n c z0 z1 v at'] w (LivesPost w) := by
  unfold maxLen at hm
  have hd1 : decide ((n : Int) > 16) = true := decide_eq_true (p := 16 < (n : Int)) (by omega)
  have hd2 : ((n : Int) == 0) = false := by simp; omega
  go_enter Try.func4, Try.ntmps4
  go_wp2_with fail
  refine (lives14_any _).mono ?_
  rintro _ w1 ⟨rfl, hb⟩
  have HB := Lib.hid hb
  clear hb
  go_wp2_with fail
  go_ret
  exact ⟨rfl, ((Below.refl _ _).alloc (Nat.le_refl _) _).trans (HB.out.mono (by simp))⟩
def RelZ (k0 : Nat) (w1 : World) (i : Value) (wr : World) : Prop := ∃ k : Nat, k ≤ k0 ∧ i = .int .i64 k ∧ wr = w1
set_option maxHeartbeats 1000000 in
set_option maxRecDepth 100000 in
theorem moved_free (w : World) {a : Option Addr} {n c z0 z1 at' k0 : Nat} {v : Int} {R : Nat → Nat → Int} (hT : Thrs w (.slice a n c) n R) (h16 : n ≤ 16) (hk0 : k0 < n) (hz : R k0 0 = 0) (hpre : ∀ k, k < k0 → R k 0 ≠ 0) :
    Calls Try.prog 4 #[movV a n c z0 z1 v at'] w (LivesPost w) := by
  obtain ⟨a', c', hac, hT⟩ := hT
  cases hac
  obtain ⟨b, off, rfl, hbs, D0⟩ := hT.resolve_left (by omega)
  have HD := Lib.hid D0
  have HZ := Lib.hid hz
  have HP := Lib.hid hpre
  clear hT D0 hz hpre
  have hd1 : decide ((n : Int) > 16) = false := decide_eq_false (p := 16 < (n : Int)) (by omega)
  have hd2 : ((n : Int) == 0) = false := by simp; omega
  go_enter Try.func4, Try.ntmps4
  go_wp2_with fail
  have hb0 := (Mod.refl (fun _ => False) w).alloc (.cells #[.slice (some ⟨b, off, none⟩) n c, .int .u8 z0, .int .u8 z1, .int .u64 v, .int .u8 at'] 49)
  generalize w.alloc (.cells #[.slice (some ⟨b, off, none⟩) n c, .int .u8 z0, .int .u8 z1, .int .u64 v, .int .u8 at'] 49) = wa at hb0 ⊢
  have HB0 := Lib.hid hb0
  clear hb0
  go_loopw [5] (fun i wr => RelZ k0 wa i wr) (fun i _ => n - (intOf i).toNat)
  case atStart => exact ⟨0, Nat.zero_le _, rfl, rfl⟩
  case round =>
    obtain ⟨k, hk, rfl, rfl⟩ := hrel
    have c0 : (_ : World).cell? ⟨b, off + k * 10, none⟩ = some (.int .u64 (R k 0)) := (cell_mod HB0.out hbs (fun h => h)).trans (HD.out k (by omega) 0 (by decide))
    have hkn : k < n := by omega
    by_cases hlt : k < k0
    · have t0 : (R k 0 == 0) = false := by simpa using HP.out k hlt
      go_wp2_with fail
      go_roundw
      case rel => exact ⟨k + 1, by omega, by go_num, rfl⟩
      case measure => simp [intOf]; omega
    · obtain rfl : k = k0 := by omega
      rw [HZ.out] at c0
      go_wp2_with fail
      refine (lives14_any _).mono ?_
      rintro _ w1 ⟨rfl, hb⟩
      have HB := Lib.hid hb
      clear hb
      go_wp2_with fail
      go_ret
      exact ⟨rfl, (HB0.out.below (fun _ _ h => h)).trans (HB.out.mono HB0.out.size)⟩
theorem first_zero (R : Nat → Nat → Int) (n : Nat) : (∀ k, k < n → R k 0 ≠ 0) ∨ ∃ k0, k0 < n ∧ R k0 0 = 0 ∧ ∀ k, k < k0 → R k 0 ≠ 0 := by
  induction n with
  | zero => exact .inl (fun k hk => by omega)
  | succ n ih =>
    rcases ih with h | ⟨k0, h1, h2, h3⟩
    · by_cases hz : R n 0 = 0
      · exact .inr ⟨n, by omega, hz, h⟩
      · refine .inl (fun k hk => ?_)
        by_cases e : k = n
        · rw [e]; exact hz
        · exact h k (by omega)
    · exact .inr ⟨k0, by omega, h2, h3⟩
theorem moved_all (w : World) {a : Option Addr} {n c z0 z1 at' : Nat} {v : Int} {R : Nat → Nat → Int} (hT : Thrs w (.slice a n c) n R) (hm : n ≤ maxLen) (hR : ∀ k, k < n → ∀ j, j < 10 → (Lit.int .u64 (R k j)).wf = true) (hz0 : z0 < 256) (hz1 : z1 < 256) (ha : at' < 256) (hv : (Lit.int .u64 v).wf = true) :
    Calls Try.prog 4 #[movV a n c z0 z1 v at'] w (LivesPost w) := by
  by_cases h0 : n = 0
  · subst h0
    exact moved_none w
  · by_cases h16 : n ≤ 16
    · rcases first_zero R n with h | ⟨k0, h1, h2, h3⟩
      · exact moved_walk w hT (by omega) h16 h hR hz0 hz1 ha hv
      · exact moved_free w hT h16 h1 h2 h3
    · exact moved_many w (by omega) hm
end Go.Proofs.Ytjnbkpklcmkdlaa
