/- Threads' words: one word of a thread; all laid into a memory. -/
import Derived.Test.YtjnbkpklcmkdlaaMH
namespace Go.Proofs.Ytjnbkpklcmkdlaa
open Go.RowKit

abbrev thrV (r : Nat → Int) : Value := .agg #[.int .u64 (r 0), .int .u64 (r 1), .int .u64 (r 2), .int .u64 (r 3), .int .u64 (r 4), .int .u64 (r 5), .int .u64 (r 6), .int .u64 (r 7), .int .u64 (r 8), .int .u64 (r 9)]
def WordOfPost (v : Int) (w : World) (e : Ending) (w' : World) : Prop := e = .returned (.int .u64 v) ∧ Below w.heap.size w w'
set_option maxHeartbeats 2000000 in
theorem wordOf_any (r : Nat → Int) {j : Nat} (hj : j < 10) (w : World) : Calls Try.prog 18 #[thrV r, .int .i64 j] w (WordOfPost (r j) w) := by
  obtain rfl | rfl | rfl | rfl | rfl | rfl | rfl | rfl | rfl | rfl : j = 0 ∨ j = 1 ∨ j = 2 ∨ j = 3 ∨ j = 4 ∨ j = 5 ∨ j = 6 ∨ j = 7 ∨ j = 8 ∨ j = 9 := by omega
  all_goals
    clear hj
    go_enter Try.func18, Try.ntmps18
    go_wp2_with fail
    go_ret
    exact ⟨rfl, ((Below.refl _ _).alloc (Nat.le_refl _) _).alloc (by simp) _⟩

/-- Addresses of a thread's words; of the blocks. -/
def tAdr (i j : Nat) : Adr := (8, i, j)
def bAdr : Adr := (5, 0, 0)
theorem tWf {i j : Nat} (hi : i < 16) (hj : j < 10) : AdrWf (tAdr i j) := by
  have e1 : IntKind.i64.min = -9223372036854775808 := by decide
  have e2 : IntKind.i64.max = 9223372036854775807 := by decide
  refine ⟨(by decide : (Lit.int .u8 8).wf = true), ?_, ?_⟩
  · show (decide (IntKind.i64.min ≤ (i : Int)) && decide ((i : Int) ≤ IntKind.i64.max)) = true
    rw [e1, e2]
    simp
    omega
  · show (decide (IntKind.i64.min ≤ (j : Int)) && decide ((j : Int) ≤ IntKind.i64.max)) = true
    rw [e1, e2]
    simp
    omega
theorem bWf : AdrWf bAdr := ⟨by decide, by decide, by decide⟩
theorem tMay {i j : Nat} (hi : i < 16) (hj : j < 10) : mayB (tAdr i j) = true := by
  show (decide ((0 : Int) ≤ (i : Int)) && decide ((i : Int) < 16) && decide ((0 : Int) ≤ (j : Int)) && decide ((j : Int) < 10)) = true
  simp
  omega
theorem bMay : mayB bAdr = true := by decide
theorem t_ne_b (i j : Nat) : tAdr i j ≠ bAdr := by simp [tAdr, bAdr]
theorem t_inj {i j i' j' : Nat} (h : tAdr i j = tAdr i' j') : i = i' ∧ j = j' := by
  simp only [tAdr, Prod.mk.injEq] at h
  omega
theorem u64Wf' {n : Int} (h : 0 ≤ n) (h2 : n < 18446744073709551616) : (Lit.int .u64 n).wf = true := by
  have e1 : IntKind.u64.min = 0 := by decide
  have e2 : IntKind.u64.max = 18446744073709551615 := by decide
  show (decide (IntKind.u64.min ≤ n) && decide (n ≤ IntKind.u64.max)) = true
  rw [e1, e2]
  simp
  omega
theorem wfU64 {n : Int} (h : (Lit.int .u64 n).wf = true) : 0 ≤ n ∧ n < 18446744073709551616 := by
  have e1 : IntKind.u64.min = 0 := by decide
  have e2 : IntKind.u64.max = 18446744073709551615 := by decide
  have h' : (decide (IntKind.u64.min ≤ n) && decide (n ≤ IntKind.u64.max)) = true := h
  rw [e1, e2] at h'
  simp only [Bool.and_eq_true, decide_eq_true_eq] at h'
  omega

/-- Some memory whose words are f. -/
def MemOf (M mb N : Nat) (f : Adr → Int) (w : World) : Prop := ∃ s L, MemAt M mb N f s L w
abbrev mfoot (M mb : Nat) : Nat → Prop := fun x => x = M ∨ x = mb
theorem MemOf.mod {S : Nat → Prop} {w w' : World} {M mb N : Nat} {f : Adr → Int} (hM : MemOf M mb N f w) (h : Mod S w w') (h1 : ¬ S M) (h2 : ¬ S mb) : MemOf M mb N f w' := by
  obtain ⟨s, L, hM⟩ := hM
  exact ⟨s, L, hM.mod h h1 h2⟩
theorem MemOf.lt {M mb N : Nat} {f : Adr → Int} {w : World} (h : MemOf M mb N f w) : M < w.heap.size ∧ mb < w.heap.size := by
  obtain ⟨s, L, h⟩ := h
  exact ⟨lt_of_block h.1, h.2.1.lt⟩
def StoreOf (M mb N : Nat) (f' : Adr → Int) (w : World) (e : Ending) (w' : World) : Prop := e = .returned (.tuple #[]) ∧ MemOf M mb N f' w' ∧ Mod (mfoot M mb) w w'
theorem storeOf {M mb N : Nat} {f f' : Adr → Int} {w : World} (h : MemOf M mb N f w) (hN : N < maxLen) {a : Adr} (ha : AdrWf a) {nv : Int} (hv : (Lit.int .u64 nv).wf = true) (hm : mayB a = true) (hf : f' = upd f a nv) :
    Calls Try.prog 8 #[.pointer (some ⟨M, 0, none⟩), adrVal a, .int .u64 nv] w (StoreOf M mb (N + 1) f' w) := by
  obtain ⟨s, L, h⟩ := h
  refine (store_any h hN ha hv).mono ?_
  rintro e w' ⟨he, hM, hm'⟩
  have e1 : wordsOf f a nv true = f' := by rw [hf]; simp [wordsOf, acts, hm]
  rw [e1] at hM
  exact ⟨he, ⟨_, _, hM⟩, hm'⟩
def LoadOf (M mb N : Nat) (f : Adr → Int) (v : Int) (w : World) (e : Ending) (w' : World) : Prop := e = .returned (.int .u64 v) ∧ MemOf M mb N f w' ∧ Mod (mfoot M mb) w w'
theorem loadOf {M mb N : Nat} {f : Adr → Int} {w : World} (h : MemOf M mb N f w) {a : Adr} (ha : AdrWf a) {v : Int} (hv : f a = v) :
    Calls Try.prog 27 #[.pointer (some ⟨M, 0, none⟩), adrVal a] w (LoadOf M mb (N + 1) f v w) := by
  obtain ⟨s, L, h⟩ := h
  refine (load_any h ha).mono ?_
  rintro e w' ⟨he, hM, hm'⟩
  exact ⟨by rw [he, hv], ⟨_, _, hM⟩, hm'⟩

theorem MemAt.lt {M mb N : Nat} {f : Adr → Int} {s : Int} {L : Acc} {w : World} (h : MemAt M mb N f s L w) : M < w.heap.size ∧ mb < w.heap.size := ⟨lt_of_block h.1, h.2.1.lt⟩
abbrev ldAcc (a : Adr) (v : Int) : Acc := ⟨1, a, v, v, false⟩
def LoadAt (M mb N : Nat) (f : Adr → Int) (s : Int) (a : Adr) (v : Int) (w : World) (e : Ending) (w' : World) : Prop := e = .returned (.int .u64 v) ∧ MemAt M mb N f (wrap64 (s + 1)) (ldAcc a (f a)) w' ∧ Mod (mfoot M mb) w w'
theorem loadAt {M mb N : Nat} {f : Adr → Int} {s : Int} {L : Acc} {w : World} (h : MemAt M mb N f s L w) {a : Adr} (ha : AdrWf a) {v : Int} (hv : f a = v) :
    Calls Try.prog 27 #[.pointer (some ⟨M, 0, none⟩), adrVal a] w (LoadAt M mb (N + 1) f s a v w) := by
  refine (load_any h ha).mono ?_
  rintro e w' ⟨he, hM, hm'⟩
  exact ⟨by rw [he, hv], hM, hm'⟩
def StoreAt (M mb N : Nat) (f : Adr → Int) (s : Int) (a : Adr) (nv : Int) (w : World) (e : Ending) (w' : World) : Prop :=
  e = .returned (.tuple #[]) ∧ MemAt M mb N (wordsOf f a nv true) (wrap64 (s + 1)) (accOf f 2 a nv true) w' ∧ Mod (mfoot M mb) w w'
theorem storeAt {M mb N : Nat} {f : Adr → Int} {s : Int} {L : Acc} {w : World} (h : MemAt M mb N f s L w) (hN : N < maxLen) {a : Adr} (ha : AdrWf a) {nv : Int} (hv : (Lit.int .u64 nv).wf = true) :
    Calls Try.prog 8 #[.pointer (some ⟨M, 0, none⟩), adrVal a, .int .u64 nv] w (StoreAt M mb (N + 1) f s a nv w) := store_any h hN ha hv

/-- A slice of threads that reads as n rows. -/
def Thrs (w : World) (v : Value) (n : Nat) (R : Nat → Nat → Int) : Prop :=
  ∃ a cap, v = .slice a n cap ∧ (n = 0 ∨ ∃ b off, a = some ⟨b, off, none⟩ ∧ b < w.heap.size ∧ ∀ k, k < n → ∀ j, j < 10 → w.cell? ⟨b, off + k * 10 + j, none⟩ = some (.int .u64 (R k j)))
theorem Thrs.cells {w : World} {b off n k : Nat} {R : Nat → Nat → Int} (h : ∀ k, k < n → ∀ j, j < 10 → w.cell? ⟨b, off + k * 10 + j, none⟩ = some (.int .u64 (R k j))) (hk : k < n) :
    w.cell? ⟨b, off + k * 10, none⟩ = some (.int .u64 (R k 0)) ∧ w.cell? ⟨b, off + k * 10 + 1, none⟩ = some (.int .u64 (R k 1)) ∧ w.cell? ⟨b, off + k * 10 + 2, none⟩ = some (.int .u64 (R k 2)) ∧ w.cell? ⟨b, off + k * 10 + 3, none⟩ = some (.int .u64 (R k 3)) ∧ w.cell? ⟨b, off + k * 10 + 4, none⟩ = some (.int .u64 (R k 4)) ∧ w.cell? ⟨b, off + k * 10 + 5, none⟩ = some (.int .u64 (R k 5)) ∧ w.cell? ⟨b, off + k * 10 + 6, none⟩ = some (.int .u64 (R k 6)) ∧ w.cell? ⟨b, off + k * 10 + 7, none⟩ = some (.int .u64 (R k 7)) ∧ w.cell? ⟨b, off + k * 10 + 8, none⟩ = some (.int .u64 (R k 8)) ∧ w.cell? ⟨b, off + k * 10 + 9, none⟩ = some (.int .u64 (R k 9)) :=
  ⟨h k hk 0 (by decide), h k hk 1 (by decide), h k hk 2 (by decide), h k hk 3 (by decide), h k hk 4 (by decide), h k hk 5 (by decide), h k hk 6 (by decide), h k hk 7 (by decide), h k hk 8 (by decide), h k hk 9 (by decide)⟩
theorem cell_mod {S : Nat → Prop} {w w' : World} (hm : Mod S w w') {b o : Nat} (hb : b < w.heap.size) (hn : ¬ S b) : w'.cell? ⟨b, o, none⟩ = w.cell? ⟨b, o, none⟩ := by
  simp only [World.cell?, hm.block b hb hn]
theorem Thrs.mod {S : Nat → Prop} {w w' : World} {v : Value} {n : Nat} {R : Nat → Nat → Int} (h : Thrs w v n R) (hm : Mod S w w') (hn : ∀ b, b < w.heap.size → (∃ o, v = .slice (some ⟨b, o, none⟩) n (match v with | .slice _ _ c => c | _ => 0)) → ¬ S b) : Thrs w' v n R := by
  obtain ⟨a, cap, rfl, h⟩ := h
  refine ⟨a, cap, rfl, h.imp id ?_⟩
  rintro ⟨b, off, rfl, hb, h⟩
  exact ⟨b, off, rfl, Nat.lt_of_lt_of_le hb hm.size, fun k hk j hj => by rw [cell_mod hm hb (hn b hb ⟨off, rfl⟩)]; exact h k hk j hj⟩

def laid (f : Adr → Int) (b : Int) (R : Nat → Nat → Int) : Nat → Adr → Int
  | 0 => upd f bAdr b
  | q + 1 => upd (laid f b R q) (tAdr (q / 10) (q % 10)) (R (q / 10) (q % 10))
theorem laid_row (f : Adr → Int) (b : Int) (R : Nat → Nat → Int) (k j : Nat) (hj : j < 10) : laid f b R (10 * k + (j + 1)) = upd (laid f b R (10 * k + j)) (tAdr k j) (R k j) := by
  show upd (laid f b R (10 * k + j)) (tAdr ((10 * k + j) / 10) ((10 * k + j) % 10)) (R ((10 * k + j) / 10) ((10 * k + j) % 10)) = _
  have e1 : (10 * k + j) / 10 = k := by omega
  have e2 : (10 * k + j) % 10 = j := by omega
  rw [e1, e2]
theorem laid_b (f : Adr → Int) (b : Int) (R : Nat → Nat → Int) (q : Nat) : laid f b R q bAdr = b := by
  induction q with
  | zero => simp [laid, upd]
  | succ q ih => simp only [laid, upd]; rw [if_neg (Ne.symm (t_ne_b _ _))]; exact ih
theorem laid_t (f : Adr → Int) (b : Int) (R : Nat → Nat → Int) (q i j : Nat) (hj : j < 10) : laid f b R q (tAdr i j) = if 10 * i + j < q then R i j else f (tAdr i j) := by
  induction q with
  | zero => simp [laid, upd, t_ne_b]
  | succ q ih =>
    simp only [laid, upd]
    by_cases h : tAdr i j = tAdr (q / 10) (q % 10)
    · obtain ⟨e1, e2⟩ := t_inj h
      rw [if_pos h, if_pos (by omega), e1, e2]
    · rw [if_neg h, ih]
      by_cases h2 : 10 * i + j < q
      · rw [if_pos h2, if_pos (by omega)]
      · rw [if_neg h2, if_neg]
        intro h3
        apply h
        have e1 : q / 10 = i := by omega
        have e2 : q % 10 = j := by omega
        rw [e1, e2]

def LayPost (M mb N : Nat) (f' : Adr → Int) (w : World) (e : Ending) (w' : World) : Prop := e = .returned (.tuple #[]) ∧ MemOf M mb N f' w' ∧ Mod (mfoot M mb) w w'
def LayRel (M mb N n : Nat) (f : Adr → Int) (b : Int) (R : Nat → Nat → Int) (w : World) (i : Value) (wr : World) : Prop :=
  ∃ k : Nat, k ≤ n ∧ i = .int .i64 k ∧ MemOf M mb (N + 10 * k) (laid f b R (10 * k)) wr ∧ Mod (mfoot M mb) w wr
def LayRel2 (M mb N k : Nat) (f : Adr → Int) (b : Int) (R : Nat → Nat → Int) (w : World) (i : Value) (wr : World) : Prop :=
  ∃ j : Nat, j ≤ 10 ∧ i = .int .i64 j ∧ MemOf M mb (N + (10 * k + j)) (laid f b R (10 * k + j)) wr ∧ Mod (mfoot M mb) w wr
set_option maxHeartbeats 2000000 in
theorem lay_any {M mb N n : Nat} {f : Adr → Int} {b : Int} {R : Nat → Nat → Int} {v : Value} {w : World} (hM : MemOf M mb N f w) (hN : N + 200 < maxLen) (hT : Thrs w v n R) (hb : ∀ x o c, v = .slice (some ⟨x, o, none⟩) n c → x ≠ M ∧ x ≠ mb) (hn : n ≤ 16) (hR : ∀ k, k < n → ∀ j, j < 10 → (Lit.int .u64 (R k j)).wf = true) (hb0 : 0 ≤ b) (hb1 : b < 1000000) :
    Calls Try.prog 13 #[.pointer (some ⟨M, 0, none⟩), v, .int .i64 b] w (LayPost M mb (N + 1 + 10 * n) (laid f b R (10 * n)) w) := by
  obtain ⟨a, cap, rfl, hv⟩ := hT
  have HV := Lib.hid hv
  have HM := Lib.hid hM
  have HR := Lib.hid hR
  have HB := Lib.hid hb
  have HN := Lib.hid hN
  clear hv hM hR hb hN
  go_enter Try.func13, Try.ntmps13
  go_wp2_with fail
  refine (storeOf (a := bAdr) (f' := laid f b R 0) HM.out (Nat.lt_of_le_of_lt (Nat.le_add_right _ _) HN.out) bWf (u64Wf' (by omega) (by omega)) bMay rfl).mono ?_
  rintro _ w1 ⟨rfl, hM1, hm1⟩
  have HM1 := Lib.hid hM1
  have HO1 := Lib.hid hm1
  clear hM1 hm1
  go_wp2_with fail
  go_loopw [6] (fun i wr => LayRel M mb (N + 1) n f b R w i wr) (fun i _ => n - (intOf i).toNat)
  case atStart => exact ⟨0, Nat.zero_le _, rfl, HM1.out, HO1.out⟩
  case round =>
    obtain ⟨k, hk, rfl, hMk, hmk⟩ := hrel
    have HMk := Lib.hid hMk
    have HOk := Lib.hid hmk
    clear hMk hmk
    by_cases hlt : k < n
    · obtain ⟨x, off, rfl, hx, D0⟩ := HV.out.resolve_left (by omega)
      obtain ⟨hxM, hxm⟩ := HB.out x off cap rfl
      have hk16 : k < 16 := by omega
      have hk16d : decide ((k : Int) < 16) = true := decide_eq_true (by omega)
      go_wp2_with fail
      go_loopw [7] (fun i wi => LayRel2 M mb (N + 1) k f b R w i wi) (fun i _ => 10 - (intOf i).toNat)
      case atStart => exact ⟨0, Nat.zero_le _, rfl, HMk.out, HOk.out⟩
      case round =>
        obtain ⟨j, hj, rfl, hMj, hmj⟩ := hrel
        have HMj := Lib.hid hMj
        have HOj := Lib.hid hmj
        clear hMj hmj
        by_cases hj10 : j < 10
        · have D1 : ∀ k, k < n → ∀ j, j < 10 → (_ : World).cell? ⟨x, off + k * 10 + j, none⟩ = some (.int .u64 (R k j)) := fun k hk j hj => (cell_mod HOj.out hx (fun h => h.elim hxM hxm)).trans (D0 k hk j hj)
          obtain ⟨c0, c1, c2, c3, c4, c5, c6, c7, c8, c9⟩ := Thrs.cells D1 hlt
          have HD := Lib.hid D0
          clear D0 D1
          go_wp2_with fail
          refine (wordOf_any (R k) hj10 _).mono ?_
          rintro _ w3 ⟨rfl, hb3⟩
          have HO3 := Lib.hid (Mod.ofBelow hb3 (fun _ => False))
          clear hb3 c0 c1 c2 c3 c4 c5 c6 c7 c8 c9
          go_wp2_with fail
          refine (storeOf (a := tAdr k j) (f' := laid f b R (10 * k + (j + 1))) (HMj.out.mod HO3.out (fun h => h) (fun h => h)) (Nat.lt_of_le_of_lt (by omega) HN.out) (tWf hk16 hj10) (HR.out k hlt j hj10) (tMay hk16 hj10) (laid_row f b R k j hj10)).mono ?_
          rintro _ w4 ⟨rfl, hM4, hm4⟩
          have HM4 := Lib.hid hM4
          have HO4 := Lib.hid hm4
          clear hM4 hm4
          go_wp2_with fail
          go_roundw
          case rel => exact ⟨j + 1, by omega, by go_num, HM4.out, (HOj.out.trans HO3.out (fun _ _ h => h.elim)).trans HO4.out (fun _ _ h => h)⟩
          case measure => simp [intOf]; omega
        · have e10 : 10 * k + j = 10 * (k + 1) := by omega
          have HE := Lib.hid e10
          have HD := Lib.hid D0
          clear e10 D0
          go_wp2_with fail
          have hMz := HMj.out
          rw [HE.out] at hMz
          refine ⟨⟨k + 1, by omega, by go_num, hMz, HOj.out⟩, by simp [intOf]; omega⟩
    · have e : k = n := by omega
      have HE := Lib.hid e
      clear e
      have hdk : decide ((k : Int) < (n : Int)) = false := decide_eq_false (by omega)
      go_wp2_with fail
      go_end0
      have hMz := HMk.out
      rw [HE.out] at hMz
      exact ⟨rfl, hMz, HOk.out⟩
end Go.Proofs.Ytjnbkpklcmkdlaa
