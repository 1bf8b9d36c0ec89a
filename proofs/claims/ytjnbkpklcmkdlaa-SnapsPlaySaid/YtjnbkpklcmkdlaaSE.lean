/- A taker of snapshots: what it got. -/
import Derived.Test.YtjnbkpklcmkdlaaSD
namespace Go.Proofs.Ytjnbkpklcmkdlaa
open Go.RowKit

theorem neqF (w : World) (fn : Fn) (fi ca : Array Value) : (binOp .neq 97 (.func fn fi ca) .nilFunc).run Try.prog w = .ok (.bool true) w := by
  kernel_rfl
theorem neqN (w : World) : (binOp .neq 97 .nilFunc .nilFunc).run Try.prog w = .ok (.bool false) w := by
  kernel_rfl
theorem infoT : (Try.prog.info? 52).map (fun i => (i.zero, i.size, i.bytes)) = some (some (.agg #[.int .u64 0, .int .u64 0, .int .u64 0, .int .u64 0, .int .u64 0, .int .u64 0, .int .u64 0, .int .u64 0, .int .u64 0, .int .u64 0]), 10, 80) := by kernel_rfl
theorem nilT (w : World) (a : Option Addr) (n c : Nat) : (binOp .eql 46 (.slice a n c) (.slice none 0 0)).run Try.prog w = .ok (.bool a.isNone) w := Lib.run_eql_slice_nil w _ _ _ _ _ _ _ Try.underlying46

/-- A slice of n rows in a block made since B. -/
def Got (B : Nat) (v : Value) (n : Nat) (R : Nat → Nat → Int) (w : World) : Prop :=
  ∃ a cap, v = .slice a n cap ∧ n ≤ cap ∧ cap ≤ maxLen ∧ ((a = none ∧ n = 0 ∧ cap = 0) ∨ ∃ g cur, a = some ⟨g, 0, none⟩ ∧ B ≤ g ∧ w.heap[g]? = some (.cells cur 52) ∧ ∀ k, k < n → ∀ j, j < 10 → cur[k * 10 + j]? = some (.int .u64 (R k j)))
def ClonePost (n : Nat) (R : Nat → Nat → Int) (w : World) (e : Ending) (w' : World) : Prop := ∃ v, e = .returned v ∧ Got w.heap.size v n R w' ∧ Below w.heap.size w w'
theorem got_of_row {B : Nat} {v : Value} {n : Nat} {R : Nat → Nat → Int} {w : World} (h : w.ownsRow B 52 10 v n (flatR n R)) : Got B v n R w := by
  rcases h.2 with ⟨rfl, rfl⟩ | ⟨g, cap, cur, rfl, hb, hg, hnc, hcm, hcs, ht⟩
  · exact ⟨none, 0, rfl, Nat.le_refl _, Nat.zero_le _, .inl ⟨rfl, rfl, rfl⟩⟩
  · refine ⟨_, cap, rfl, hnc, hcm, .inr ⟨g, cur, rfl, hb, hg, fun k hk j hj => ?_⟩⟩
    have h1 := flatR_at (R := R) hk hj
    rw [← ht, List.getElem?_take] at h1
    rw [if_pos (by omega)] at h1
    simpa using h1
set_option maxHeartbeats 1000000 in
theorem clone_any {RB n : Nat} {R : Nat → Nat → Int} {w : World} (h : TRow RB n R w) (hn : n ≤ 16) :
    Calls Try.prog 41 #[.slice (some ⟨RB, 0, none⟩) n n] w (ClonePost n R w) := by
  have q := nilT
  have hlt := lt_of_block h
  have hxs := flatR_len n R
  have ho : w.ownsRow 0 52 10 (.slice (some ⟨RB, 0, none⟩) n n) n (flatR n R) := ⟨hxs, .inr ⟨RB, n, _, rfl, Nat.zero_le _, h, Nat.le_refl _, by unfold maxLen; omega, by simp [hxs], by simp [← hxs]⟩⟩
  obtain ⟨i0, hi, hz0, hz1, hz2⟩ := info_parts infoT
  have HX := Lib.hid hxs
  have HO := Lib.hid ho
  clear ho hxs h
  go_enter Try.func41, Try.ntmps41
  go_wp2_with (at_builtin; refine wpList_append_own _ rfl _ _ 46 rfl w.heap.size 52 i0 _ 10 80 Try.underlying46 hi hz0 hz1 hz2 rfl (by decide) _ 0 [] rfl ?c1 ⟨RB, 0, none⟩ n n (flatR n R) rfl HX.out ?c2 (flatR_one n R) ?c3 ?c4 ?c5 ?_)
  case c1 => exact World.ownsRow_made _ #[] 0 (Nat.le_refl _) (by unfold maxLen; omega) rfl
  case c2 => exact (HO.out.alloc _).cells rfl
  case c3 => unfold maxLen; omega
  case c4 => omega
  case c5 => simp
  intro v' w1 hown hgrow hnil
  have HG := Lib.hid (got_of_row hown)
  have HW := Lib.hid hgrow
  clear hnil hown hgrow
  go_wp2
  go_ret
  refine ⟨_, rfl, HG.out, ((Below.refl _ _).alloc (Nat.le_refl _) _).grown HW.out (by simp) (fun k hk => ?_)⟩
  cases hk
  exact Nat.le_refl _
set_option maxHeartbeats 400000 in
theorem clip_any (a : Option Addr) (n cap : Nat) (w : World) (hn : n ≤ 16) (hc : n ≤ cap) (hm : cap ≤ maxLen) (ha : a = none → n = 0 ∧ cap = 0) :
    Calls Try.prog 40 #[.slice a n cap] w fun e w' => e = .returned (.slice a n n) ∧ w' = w := by
  unfold maxLen at hm
  cases a with
  | none =>
    obtain ⟨rfl, rfl⟩ := ha rfl
    go_enter Try.func40, Try.ntmps40
    go_wp2
    go_ret
    exact ⟨rfl, rfl⟩
  | some p =>
    go_enter Try.func40, Try.ntmps40
    go_wp2
    go_ret
    exact ⟨rfl, rfl⟩

abbrev snapV (a : Option Addr) (n c : Nat) : Value := .agg #[.slice a n c, .int .u64 0]
def GotNone (w : World) (e : Ending) (w' : World) : Prop := e = .returned (snapV none 0 0) ∧ Below w.heap.size w w'
theorem got_no {K : Nat} {w : World} {fn : Fn} {fi ca : Array Value} (h : w.cell? ⟨K, 0, none⟩ = some (.func fn fi ca)) : Calls Try.prog 17 #[.pointer (some ⟨K, 0, none⟩)] w (GotNone w) := by
  have q1 := neqF
  have hlt := World.block_lt_of_cell? _ _ h
  have hK : K < w.heap.size := hlt
  go_enter Try.func17, Try.ntmps17
  go_wp2_with fail
  exact bodyPost_ret (v := snapV none 0 0) (by simp [results, Try.results17, go_sem]) rfl ⟨rfl, (Below.refl _ _).alloc (Nat.le_refl _) _⟩
def GotPost (n : Nat) (R : Nat → Nat → Int) (w : World) (e : Ending) (w' : World) : Prop :=
  ∃ a, e = .returned (snapV a n n) ∧ ((a = none ∧ n = 0) ∨ ∃ g cur, a = some ⟨g, 0, none⟩ ∧ w.heap.size ≤ g ∧ w'.heap[g]? = some (.cells cur 52) ∧ ∀ k, k < n → ∀ j, j < 10 → cur[k * 10 + j]? = some (.int .u64 (R k j))) ∧ Below w.heap.size w w'
set_option maxHeartbeats 1000000 in
theorem got_yes {K RB n : Nat} {R : Nat → Nat → Int} {w : World} (h : TakEnd K RB n R w) (hn : n ≤ 16) : Calls Try.prog 17 #[.pointer (some ⟨K, 0, none⟩)] w (GotPost n R w) := by
  have q1 := neqN
  have c0 : w.cell? ⟨K, 0, none⟩ = some .nilFunc := cell_of h.own rfl
  have c1 : w.cell? ⟨K, 1, none⟩ = some (.slice (some ⟨RB, 0, none⟩) n n) := cell_of h.own rfl
  have c2 : w.cell? ⟨K, 2, none⟩ = some (.int .u64 0) := cell_of h.own rfl
  have hlt := lt_of_block h.own
  have HT := Lib.hid h
  clear h
  go_enter Try.func17, Try.ntmps17
  go_wp2_with fail
  have hb2 : Below w.heap.size w ((w.alloc (.cells #[.slice none 0 0, .int .u64 0] 58)).alloc (.cells #[.slice (some ⟨RB, 0, none⟩) n n, .int .u64 0] 58)) := ((Below.refl _ _).alloc (Nat.le_refl _) _).alloc (by simp) _
  obtain ⟨h1, h2, hz⟩ := heap_alloc2 w (.cells #[.slice none 0 0, .int .u64 0] 58) (.cells #[.slice (some ⟨RB, 0, none⟩) n n, .int .u64 0] 58)
  generalize ((w.alloc (.cells #[.slice none 0 0, .int .u64 0] 58)).alloc (.cells #[.slice (some ⟨RB, 0, none⟩) n n, .int .u64 0] 58)) = wb at hb2 h1 h2 hz ⊢
  have HB := Lib.hid hb2
  have H1 := Lib.hid h1
  have H2 := Lib.hid h2
  have HZ := Lib.hid hz
  have HR : Hid (TRow RB n R wb) := (Mod.ofBelow hb2 (fun _ => False)).keep HT.out.rows (fun h => h)
  clear hb2 h1 h2 hz c0 c1 c2 q1 hlt
  refine (clone_any HR.out hn).mono ?_
  rintro _ w3 ⟨v, rfl, ⟨a, cap, rfl, hcap, hcm, hg⟩, hb3⟩
  have HG := Lib.hid hg
  have HO3 := Lib.hid (Mod.ofBelow hb3 (fun _ => False))
  have ha : a = none → n = 0 ∧ cap = 0 := fun h => by
    rcases HG.out with ⟨_, h1, h2⟩ | ⟨g, cur, h1, _⟩
    · exact ⟨h1, h2⟩
    · rw [h1] at h; cases h
  have HA := Lib.hid ha
  clear hg hb3 ha
  go_wp2_with fail
  refine (clip_any a n cap _ hn hcap hcm HA.out).mono ?_
  rintro _ w3 ⟨rfl, rfl⟩
  have k1 := HO3.out.keep H1.out (fun h => h)
  have k2 := HO3.out.keep H2.out (fun h => h)
  have K1 := Lib.hid k1
  have K2 := Lib.hid k2
  have e0 : w3.cell? ⟨w.heap.size + 1, 0, none⟩ = some (.slice (some ⟨RB, 0, none⟩) n n) := cell_of k2 rfl
  have e1 : w3.cell? ⟨w.heap.size + 1, 1, none⟩ = some (.int .u64 0) := cell_of k2 rfl
  have g0 := free_of (i := 0) k2
  have r0 : w3.cell? ⟨w.heap.size, 0, none⟩ = some (.slice none 0 0) := cell_of k1 rfl
  have r1 : w3.cell? ⟨w.heap.size, 1, none⟩ = some (.int .u64 0) := cell_of k1 rfl
  have s0 := free_of (i := 0) k1
  have s1 := free_of (i := 1) k1
  have hsz : w.heap.size + 1 < w3.heap.size := lt_of_block k2
  clear k1 k2
  go_wp2_with fail
  have hs := (((Mod.refl (fun x => x = w.heap.size ∨ x = w.heap.size + 1) w3).setCell (p := ⟨w.heap.size + 1, 0, none⟩) (fun _ => .inr rfl) (.slice a n n)).setCell (p := ⟨w.heap.size, 0, none⟩) (fun _ => .inl rfl) (.slice a n n)).setCell (p := ⟨w.heap.size, 1, none⟩) (fun _ => .inl rfl) (.int .u64 0)
  have HS := Lib.hid hs
  clear hs
  refine bodyPost_ret (v := snapV a n n) (by simp [results, Try.results17, go_sem, r0, r1]) rfl ⟨a, rfl, ?_, ?_⟩
  · rcases HG.out with ⟨h1, h2, _⟩ | ⟨g, cur, h1, h2, h3, h4⟩
    · exact .inl ⟨h1, h2⟩
    · have := HZ.out
      exact .inr ⟨g, cur, h1, by omega, HS.out.keep h3 (fun h => by omega), h4⟩
  · have := HZ.out
    have hsz := HO3.out.size
    exact (HB.out.trans (HO3.out.below (fun _ _ h => h) |>.mono (by omega))).trans ⟨HS.out.os, HS.out.tape, HS.out.output, HS.out.size, fun i hi => HS.out.block i (by omega) (by omega)⟩
end Go.Proofs.Ytjnbkpklcmkdlaa
