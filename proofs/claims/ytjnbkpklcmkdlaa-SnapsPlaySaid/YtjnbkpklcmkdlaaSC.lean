/- A taker of snapshots: a step that reads a word. -/
import Derived.Test.YtjnbkpklcmkdlaaSB
namespace Go.Proofs.Ytjnbkpklcmkdlaa
open Go.RowKit

/-- Under way: row i, word j of it. -/
structure TakOn (K RB n i j : Nat) (R : Nat → Nat → Int) (w : World) : Prop where
  own : TakB K (nxWord K) (.slice (some ⟨RB, 0, none⟩) n n) i j n w
  rows : TRow RB n R w
  ne : RB ≠ K
structure TakEnd (K RB n : Nat) (R : Nat → Nat → Int) (w : World) : Prop where
  own : TakB K .nilFunc (.slice (some ⟨RB, 0, none⟩) n n) n 0 n w
  rows : TRow RB n R w
  ne : RB ≠ K
abbrev tfoot (M mb K RB : Nat) : Nat → Prop := fun x => mfoot M mb x ∨ (x = K ∨ x = RB)
def WordPost (M mb N K RB : Nat) (f : Adr → Int) (s : Int) (a : Adr) (P : World → Prop) (w : World) (e : Ending) (w' : World) : Prop :=
  e = .returned (.tuple #[]) ∧ MemAt M mb (N + 1) f (wrap64 (s + 1)) (ldAcc a (f a)) w' ∧ P w' ∧ Mod (tfoot M mb K RB) w w'
set_option maxHeartbeats 2000000 in
set_option maxRecDepth 100000 in
theorem word_on {M mb N K RB n i j : Nat} {R : Nat → Nat → Int} {f : Adr → Int} {s : Int} {L : Acc} {v : Int} {w : World} (hM : MemAt M mb N f s L w) (hT : TakOn K RB n i j R w) (hKM : K ≠ M) (hKm : K ≠ mb) (hRM : RB ≠ M) (hRm : RB ≠ mb) (hi : i < n) (hn : n ≤ 16) (hj : j < 10) (hv : f (tAdr i j) = v) (ho : updR R i j v i 0 ≠ 0) (hj9 : j + 1 < 10) :
    Calls Try.prog 57 #[.pointer (some ⟨K, 0, none⟩), .pointer (some ⟨M, 0, none⟩)] w (WordPost M mb N K RB f s (tAdr i j) (TakOn K RB n i (j + 1) (updR R i j v)) w) := by
  have hi16 : i < 16 := by omega
  have hRK := hT.ne
  have c1 : w.cell? ⟨K, 1, none⟩ = some (.slice (some ⟨RB, 0, none⟩) n n) := cell_of hT.own rfl
  have c3 : w.cell? ⟨K, 3, none⟩ = some (.int .i64 i) := cell_of hT.own rfl
  have c4 : w.cell? ⟨K, 4, none⟩ = some (.int .i64 j) := cell_of hT.own rfl
  have hiI : (i : Int) < n := by omega
  have hi0 : (0 : Int) ≤ (i : Int) := by omega
  have HM := Lib.hid hM
  have HT := Lib.hid hT
  have HV := Lib.hid hv
  have HX := Lib.hid ho
  clear ho
  clear hM hT hv
  go_enter Try.func57, Try.ntmps57
  go_wp2_with fail
  go_quiet (fail)
  have HMq : Hid (Mod (fun _ => False) w (w.drewN nq)) := (Mod.refl (fun _ => False) w).drewN nq
  have HTq : Hid (TakOn K RB n i j R (w.drewN nq)) := ⟨HMq.out.keep HT.out.own (fun h => h), HMq.out.keep HT.out.rows (fun h => h), HT.out.ne⟩
  have HMM := Lib.hid (HM.out.mod HMq.out (fun h => h) (fun h => h))
  clear c1 c3 c4
  generalize w.drewN nq = wq at HMq HTq HMM ⊢
  have c3 : wq.cell? ⟨K, 3, none⟩ = some (.int .i64 i) := cell_of HTq.out.own rfl
  have c4 : wq.cell? ⟨K, 4, none⟩ = some (.int .i64 j) := cell_of HTq.out.own rfl
  go_wp2_with fail
  go_region_held3 (fun w' => w'.cell? ⟨K, 3, none⟩ = some (.int .i64 i) ∧ w'.cell? ⟨K, 4, none⟩ = some (.int .i64 j)) (first | exact ⟨c3, c4⟩ | exact ⟨d3, d4⟩ | exact ⟨e3, e4⟩)
    (first
      | (go_at_call 27; refine (loadAt (a := tAdr i j) (HMM.out.mod (Mod.refl (fun _ => False) wq).drew (fun h => h) (fun h => h)) (tWf hi16 hj) HV.out).mono ?_; rintro _ w1 ⟨rfl, hM1, hm1⟩
         have HM1 := Lib.hid hM1
         have HO1 : Hid (Mod (mfoot M mb) wq w1) := ((Mod.refl (mfoot M mb) wq).drew).trans hm1 (fun _ _ h => h)
         have HT1 : Hid (TakOn K RB n i j R w1) := ⟨HO1.out.keep HTq.out.own (fun h => h.elim hKM hKm), HO1.out.keep HTq.out.rows (fun h => h.elim hRM hRm), HTq.out.ne⟩
         have d3 : w1.cell? ⟨K, 3, none⟩ = some (.int .i64 i) := cell_of HT1.out.own rfl
         have d4 : w1.cell? ⟨K, 4, none⟩ = some (.int .i64 j) := cell_of HT1.out.own rfl
         clear hM1 hm1)
      | (go_at_call 63; refine (put_any hj (HT1.out.rows.cell hi hj) (free_of HT1.out.rows)).mono ?_; rintro _ w2 ⟨rfl, hw2⟩
         have ho2 := (Mod.refl (fun x => x = RB) w1).setCell (p := ⟨RB, i * 10 + j, none⟩) (fun _ => rfl) (.int .u64 v)
         rw [← hw2] at ho2
         have HO2 := Lib.hid ho2
         have hr2 := heap_setCell_same (i := i * 10 + j) HT1.out.rows (.int .u64 v)
         rw [← hw2, flatR_upd hj] at hr2
         have HT2 : Hid (TakOn K RB n i j (updR R i j v) w2) := ⟨HO2.out.keep HT1.out.own (fun h => hRK h.symm), hr2, HT1.out.ne⟩
         have HM2 := Lib.hid (HM1.out.mod HO2.out (fun h => hRM h.symm) (fun h => hRm h.symm))
         have e3 : w2.cell? ⟨K, 3, none⟩ = some (.int .i64 i) := cell_of HT2.out.own rfl
         have e4 : w2.cell? ⟨K, 4, none⟩ = some (.int .i64 j) := cell_of HT2.out.own rfl
         clear hw2 hr2 ho2))
  clear c3 c4 d3 d4 e3 e4
  have c0 : w2.cell? ⟨RB, i * 10, none⟩ = some (.int .u64 (updR R i j v i 0)) := HT2.out.rows.cell (j := 0) hi (by decide)
  have c3 : w2.cell? ⟨K, 3, none⟩ = some (.int .i64 i) := cell_of HT2.out.own rfl
  have c4 : w2.cell? ⟨K, 4, none⟩ = some (.int .i64 j) := cell_of HT2.out.own rfl
  have c5 : w2.cell? ⟨K, 5, none⟩ = some (.int .i64 n) := cell_of HT2.out.own rfl
  have f3 := free_of (i := 3) HT2.out.own
  have f4 := free_of (i := 4) HT2.out.own
  obtain ⟨oo, hoo⟩ : ∃ oo, updR R i j v i 0 = oo := ⟨_, rfl⟩
  rw [hoo] at c0
  have HOO := Lib.hid hoo
  clear hoo
  have t1 : (oo == 0) = false := by have := HX.out; rw [HOO.out] at this; simpa using this
  have t2 : (((j : Int) + 1) == 10) = false := by simp; omega
  have t3 : ((i : Int) == (n : Int)) = false := by simp; omega
  go_wp2_with fail
  have ho3 := (Mod.refl (fun x => x = K) w2).setCell (p := ⟨K, 4, none⟩) (fun _ => rfl) (.int .i64 (j + 1))
  have ht3 := (heap_setCell_same (i := 4) HT2.out.own (.int .i64 (j + 1)))
  have hr3 := ho3.keep HT2.out.rows (fun h => hRK h)
  clear c0 c3 c4 c5 f3 f4
  generalize (w2.setCell ⟨K, 4, none⟩ (.int .i64 (j + 1))) = w3 at ho3 ht3 hr3 ⊢
  have HO3 := Lib.hid ho3
  have HT3 : Hid (TakB K (nxWord K) (.slice (some ⟨RB, 0, none⟩) n n) i (j + 1) n w3) := ht3
  have HR3 : Hid (TRow RB n (updR R i j v) w3) := hr3
  clear ho3 ht3 hr3
  have d3 : w3.cell? ⟨K, 3, none⟩ = some (.int .i64 i) := cell_of HT3.out rfl
  have d5 : w3.cell? ⟨K, 5, none⟩ = some (.int .i64 n) := cell_of HT3.out rfl
  go_quiet (fail)
  have HMz : Hid (Mod (fun _ => False) w3 (w3.drewN nq)) := (Mod.refl (fun _ => False) w3).drewN nq
  clear d3 d5
  generalize w3.drewN nq = wz at HMz ⊢
  have hall : Mod (tfoot M mb K RB) w wz := ((((HMq.out.weaken (fun _ _ h => h.elim)).trans HO1.out (fun _ _ h => .inl h)).trans HO2.out (fun _ _ h => .inr (.inr h))).trans HO3.out (fun _ _ h => .inr (.inl h))).trans HMz.out (fun _ _ h => h.elim)
  have HALL := Lib.hid hall
  have HMZ := Lib.hid ((HM2.out.mod HO3.out (fun h => hKM h.symm) (fun h => hKm h.symm)).mod HMz.out (fun h => h) (fun h => h))
  have HTZ : Hid (TakB K (nxWord K) (.slice (some ⟨RB, 0, none⟩) n n) i (j + 1) n wz) := HMz.out.keep HT3.out (fun h => h)
  have HRZ : Hid (TRow RB n (updR R i j v) wz) := HMz.out.keep HR3.out (fun h => h)
  clear hall
  go_wp2_with fail
  go_end0
  exact ⟨rfl, HMZ.out, ⟨by simpa using HTZ.out, HRZ.out, hRK⟩, HALL.out⟩
set_option maxHeartbeats 2000000 in
set_option maxRecDepth 100000 in
theorem word_next0 {M mb N K RB n i j : Nat} {R : Nat → Nat → Int} {f : Adr → Int} {s : Int} {L : Acc} {v : Int} {w : World} (hM : MemAt M mb N f s L w) (hT : TakOn K RB n i j R w) (hKM : K ≠ M) (hKm : K ≠ mb) (hRM : RB ≠ M) (hRm : RB ≠ mb) (hi : i < n) (hn : n ≤ 16) (hj : j < 10) (hv : f (tAdr i j) = v) (ho : updR R i j v i 0 = 0) (hin : i + 1 < n) :
    Calls Try.prog 57 #[.pointer (some ⟨K, 0, none⟩), .pointer (some ⟨M, 0, none⟩)] w (WordPost M mb N K RB f s (tAdr i j) (TakOn K RB n (i + 1) 0 (updR R i j v)) w) := by
  have hi16 : i < 16 := by omega
  have hRK := hT.ne
  have c1 : w.cell? ⟨K, 1, none⟩ = some (.slice (some ⟨RB, 0, none⟩) n n) := cell_of hT.own rfl
  have c3 : w.cell? ⟨K, 3, none⟩ = some (.int .i64 i) := cell_of hT.own rfl
  have c4 : w.cell? ⟨K, 4, none⟩ = some (.int .i64 j) := cell_of hT.own rfl
  have hiI : (i : Int) < n := by omega
  have hi0 : (0 : Int) ≤ (i : Int) := by omega
  have HM := Lib.hid hM
  have HT := Lib.hid hT
  have HV := Lib.hid hv
  have HX := Lib.hid ho
  clear ho
  clear hM hT hv
  go_enter Try.func57, Try.ntmps57
  go_wp2_with fail
  go_quiet (fail)
  have HMq : Hid (Mod (fun _ => False) w (w.drewN nq)) := (Mod.refl (fun _ => False) w).drewN nq
  have HTq : Hid (TakOn K RB n i j R (w.drewN nq)) := ⟨HMq.out.keep HT.out.own (fun h => h), HMq.out.keep HT.out.rows (fun h => h), HT.out.ne⟩
  have HMM := Lib.hid (HM.out.mod HMq.out (fun h => h) (fun h => h))
  clear c1 c3 c4
  generalize w.drewN nq = wq at HMq HTq HMM ⊢
  have c3 : wq.cell? ⟨K, 3, none⟩ = some (.int .i64 i) := cell_of HTq.out.own rfl
  have c4 : wq.cell? ⟨K, 4, none⟩ = some (.int .i64 j) := cell_of HTq.out.own rfl
  go_wp2_with fail
  go_region_held3 (fun w' => w'.cell? ⟨K, 3, none⟩ = some (.int .i64 i) ∧ w'.cell? ⟨K, 4, none⟩ = some (.int .i64 j)) (first | exact ⟨c3, c4⟩ | exact ⟨d3, d4⟩ | exact ⟨e3, e4⟩)
    (first
      | (go_at_call 27; refine (loadAt (a := tAdr i j) (HMM.out.mod (Mod.refl (fun _ => False) wq).drew (fun h => h) (fun h => h)) (tWf hi16 hj) HV.out).mono ?_; rintro _ w1 ⟨rfl, hM1, hm1⟩
         have HM1 := Lib.hid hM1
         have HO1 : Hid (Mod (mfoot M mb) wq w1) := ((Mod.refl (mfoot M mb) wq).drew).trans hm1 (fun _ _ h => h)
         have HT1 : Hid (TakOn K RB n i j R w1) := ⟨HO1.out.keep HTq.out.own (fun h => h.elim hKM hKm), HO1.out.keep HTq.out.rows (fun h => h.elim hRM hRm), HTq.out.ne⟩
         have d3 : w1.cell? ⟨K, 3, none⟩ = some (.int .i64 i) := cell_of HT1.out.own rfl
         have d4 : w1.cell? ⟨K, 4, none⟩ = some (.int .i64 j) := cell_of HT1.out.own rfl
         clear hM1 hm1)
      | (go_at_call 63; refine (put_any hj (HT1.out.rows.cell hi hj) (free_of HT1.out.rows)).mono ?_; rintro _ w2 ⟨rfl, hw2⟩
         have ho2 := (Mod.refl (fun x => x = RB) w1).setCell (p := ⟨RB, i * 10 + j, none⟩) (fun _ => rfl) (.int .u64 v)
         rw [← hw2] at ho2
         have HO2 := Lib.hid ho2
         have hr2 := heap_setCell_same (i := i * 10 + j) HT1.out.rows (.int .u64 v)
         rw [← hw2, flatR_upd hj] at hr2
         have HT2 : Hid (TakOn K RB n i j (updR R i j v) w2) := ⟨HO2.out.keep HT1.out.own (fun h => hRK h.symm), hr2, HT1.out.ne⟩
         have HM2 := Lib.hid (HM1.out.mod HO2.out (fun h => hRM h.symm) (fun h => hRm h.symm))
         have e3 : w2.cell? ⟨K, 3, none⟩ = some (.int .i64 i) := cell_of HT2.out.own rfl
         have e4 : w2.cell? ⟨K, 4, none⟩ = some (.int .i64 j) := cell_of HT2.out.own rfl
         clear hw2 hr2 ho2))
  clear c3 c4 d3 d4 e3 e4
  have c0 : w2.cell? ⟨RB, i * 10, none⟩ = some (.int .u64 (updR R i j v i 0)) := HT2.out.rows.cell (j := 0) hi (by decide)
  have c3 : w2.cell? ⟨K, 3, none⟩ = some (.int .i64 i) := cell_of HT2.out.own rfl
  have c4 : w2.cell? ⟨K, 4, none⟩ = some (.int .i64 j) := cell_of HT2.out.own rfl
  have c5 : w2.cell? ⟨K, 5, none⟩ = some (.int .i64 n) := cell_of HT2.out.own rfl
  have f3 := free_of (i := 3) HT2.out.own
  have f4 := free_of (i := 4) HT2.out.own
  obtain ⟨oo, hoo⟩ : ∃ oo, updR R i j v i 0 = oo := ⟨_, rfl⟩
  rw [hoo] at c0
  have HOO := Lib.hid hoo
  clear hoo
  have t1 : (oo == 0) = true := by have := HX.out; rw [HOO.out] at this; simpa using this
  have t3 : (((i : Int) + 1 : Int) == (n : Int)) = false := by simp; omega
  go_wp2_with fail
  have ho3 := (((Mod.refl (fun x => x = K) w2).setCell (p := ⟨K, 4, none⟩) (fun _ => rfl) (.int .i64 (j + 1))).setCell (p := ⟨K, 3, none⟩) (fun _ => rfl) (.int .i64 (i + 1))).setCell (p := ⟨K, 4, none⟩) (fun _ => rfl) (.int .i64 0)
  have ht3 := (heap_setCell_same (i := 4) (heap_setCell_same (i := 3) (heap_setCell_same (i := 4) HT2.out.own (.int .i64 (j + 1))) (.int .i64 (i + 1))) (.int .i64 0))
  have hr3 := ho3.keep HT2.out.rows (fun h => hRK h)
  clear c0 c3 c4 c5 f3 f4
  generalize (((w2.setCell ⟨K, 4, none⟩ (.int .i64 (j + 1))).setCell ⟨K, 3, none⟩ (.int .i64 (i + 1))).setCell ⟨K, 4, none⟩ (.int .i64 0)) = w3 at ho3 ht3 hr3 ⊢
  have HO3 := Lib.hid ho3
  have HT3 : Hid (TakB K (nxWord K) (.slice (some ⟨RB, 0, none⟩) n n) (i + 1) 0 n w3) := ht3
  have HR3 : Hid (TRow RB n (updR R i j v) w3) := hr3
  clear ho3 ht3 hr3
  have d3 : w3.cell? ⟨K, 3, none⟩ = some (.int .i64 (i + 1)) := cell_of HT3.out rfl
  have d5 : w3.cell? ⟨K, 5, none⟩ = some (.int .i64 n) := cell_of HT3.out rfl
  go_quiet (fail)
  have HMz : Hid (Mod (fun _ => False) w3 (w3.drewN nq)) := (Mod.refl (fun _ => False) w3).drewN nq
  clear d3 d5
  generalize w3.drewN nq = wz at HMz ⊢
  have hall : Mod (tfoot M mb K RB) w wz := ((((HMq.out.weaken (fun _ _ h => h.elim)).trans HO1.out (fun _ _ h => .inl h)).trans HO2.out (fun _ _ h => .inr (.inr h))).trans HO3.out (fun _ _ h => .inr (.inl h))).trans HMz.out (fun _ _ h => h.elim)
  have HALL := Lib.hid hall
  have HMZ := Lib.hid ((HM2.out.mod HO3.out (fun h => hKM h.symm) (fun h => hKm h.symm)).mod HMz.out (fun h => h) (fun h => h))
  have HTZ : Hid (TakB K (nxWord K) (.slice (some ⟨RB, 0, none⟩) n n) (i + 1) 0 n wz) := HMz.out.keep HT3.out (fun h => h)
  have HRZ : Hid (TRow RB n (updR R i j v) wz) := HMz.out.keep HR3.out (fun h => h)
  clear hall
  go_wp2_with fail
  go_end0
  exact ⟨rfl, HMZ.out, ⟨by simpa using HTZ.out, HRZ.out, hRK⟩, HALL.out⟩
set_option maxHeartbeats 2000000 in
set_option maxRecDepth 100000 in
theorem word_last0 {M mb N K RB n i j : Nat} {R : Nat → Nat → Int} {f : Adr → Int} {s : Int} {L : Acc} {v : Int} {w : World} (hM : MemAt M mb N f s L w) (hT : TakOn K RB n i j R w) (hKM : K ≠ M) (hKm : K ≠ mb) (hRM : RB ≠ M) (hRm : RB ≠ mb) (hi : i < n) (hn : n ≤ 16) (hj : j < 10) (hv : f (tAdr i j) = v) (ho : updR R i j v i 0 = 0) (hin : i + 1 = n) :
    Calls Try.prog 57 #[.pointer (some ⟨K, 0, none⟩), .pointer (some ⟨M, 0, none⟩)] w (WordPost M mb N K RB f s (tAdr i j) (TakEnd K RB n (updR R i j v)) w) := by
  have hi16 : i < 16 := by omega
  have hRK := hT.ne
  have c1 : w.cell? ⟨K, 1, none⟩ = some (.slice (some ⟨RB, 0, none⟩) n n) := cell_of hT.own rfl
  have c3 : w.cell? ⟨K, 3, none⟩ = some (.int .i64 i) := cell_of hT.own rfl
  have c4 : w.cell? ⟨K, 4, none⟩ = some (.int .i64 j) := cell_of hT.own rfl
  have hiI : (i : Int) < n := by omega
  have hi0 : (0 : Int) ≤ (i : Int) := by omega
  have HM := Lib.hid hM
  have HT := Lib.hid hT
  have HV := Lib.hid hv
  have HX := Lib.hid ho
  clear ho
  clear hM hT hv
  go_enter Try.func57, Try.ntmps57
  go_wp2_with fail
  go_quiet (fail)
  have HMq : Hid (Mod (fun _ => False) w (w.drewN nq)) := (Mod.refl (fun _ => False) w).drewN nq
  have HTq : Hid (TakOn K RB n i j R (w.drewN nq)) := ⟨HMq.out.keep HT.out.own (fun h => h), HMq.out.keep HT.out.rows (fun h => h), HT.out.ne⟩
  have HMM := Lib.hid (HM.out.mod HMq.out (fun h => h) (fun h => h))
  clear c1 c3 c4
  generalize w.drewN nq = wq at HMq HTq HMM ⊢
  have c3 : wq.cell? ⟨K, 3, none⟩ = some (.int .i64 i) := cell_of HTq.out.own rfl
  have c4 : wq.cell? ⟨K, 4, none⟩ = some (.int .i64 j) := cell_of HTq.out.own rfl
  go_wp2_with fail
  go_region_held3 (fun w' => w'.cell? ⟨K, 3, none⟩ = some (.int .i64 i) ∧ w'.cell? ⟨K, 4, none⟩ = some (.int .i64 j)) (first | exact ⟨c3, c4⟩ | exact ⟨d3, d4⟩ | exact ⟨e3, e4⟩)
    (first
      | (go_at_call 27; refine (loadAt (a := tAdr i j) (HMM.out.mod (Mod.refl (fun _ => False) wq).drew (fun h => h) (fun h => h)) (tWf hi16 hj) HV.out).mono ?_; rintro _ w1 ⟨rfl, hM1, hm1⟩
         have HM1 := Lib.hid hM1
         have HO1 : Hid (Mod (mfoot M mb) wq w1) := ((Mod.refl (mfoot M mb) wq).drew).trans hm1 (fun _ _ h => h)
         have HT1 : Hid (TakOn K RB n i j R w1) := ⟨HO1.out.keep HTq.out.own (fun h => h.elim hKM hKm), HO1.out.keep HTq.out.rows (fun h => h.elim hRM hRm), HTq.out.ne⟩
         have d3 : w1.cell? ⟨K, 3, none⟩ = some (.int .i64 i) := cell_of HT1.out.own rfl
         have d4 : w1.cell? ⟨K, 4, none⟩ = some (.int .i64 j) := cell_of HT1.out.own rfl
         clear hM1 hm1)
      | (go_at_call 63; refine (put_any hj (HT1.out.rows.cell hi hj) (free_of HT1.out.rows)).mono ?_; rintro _ w2 ⟨rfl, hw2⟩
         have ho2 := (Mod.refl (fun x => x = RB) w1).setCell (p := ⟨RB, i * 10 + j, none⟩) (fun _ => rfl) (.int .u64 v)
         rw [← hw2] at ho2
         have HO2 := Lib.hid ho2
         have hr2 := heap_setCell_same (i := i * 10 + j) HT1.out.rows (.int .u64 v)
         rw [← hw2, flatR_upd hj] at hr2
         have HT2 : Hid (TakOn K RB n i j (updR R i j v) w2) := ⟨HO2.out.keep HT1.out.own (fun h => hRK h.symm), hr2, HT1.out.ne⟩
         have HM2 := Lib.hid (HM1.out.mod HO2.out (fun h => hRM h.symm) (fun h => hRm h.symm))
         have e3 : w2.cell? ⟨K, 3, none⟩ = some (.int .i64 i) := cell_of HT2.out.own rfl
         have e4 : w2.cell? ⟨K, 4, none⟩ = some (.int .i64 j) := cell_of HT2.out.own rfl
         clear hw2 hr2 ho2))
  clear c3 c4 d3 d4 e3 e4
  have c0 : w2.cell? ⟨RB, i * 10, none⟩ = some (.int .u64 (updR R i j v i 0)) := HT2.out.rows.cell (j := 0) hi (by decide)
  have c3 : w2.cell? ⟨K, 3, none⟩ = some (.int .i64 i) := cell_of HT2.out.own rfl
  have c4 : w2.cell? ⟨K, 4, none⟩ = some (.int .i64 j) := cell_of HT2.out.own rfl
  have c5 : w2.cell? ⟨K, 5, none⟩ = some (.int .i64 n) := cell_of HT2.out.own rfl
  have f3 := free_of (i := 3) HT2.out.own
  have f4 := free_of (i := 4) HT2.out.own
  obtain ⟨oo, hoo⟩ : ∃ oo, updR R i j v i 0 = oo := ⟨_, rfl⟩
  rw [hoo] at c0
  have HOO := Lib.hid hoo
  clear hoo
  have t1 : (oo == 0) = true := by have := HX.out; rw [HOO.out] at this; simpa using this
  have t3 : (((i : Int) + 1 : Int) == (n : Int)) = true := by simp; omega
  go_wp2_with fail
  have ho3 := (((Mod.refl (fun x => x = K) w2).setCell (p := ⟨K, 4, none⟩) (fun _ => rfl) (.int .i64 (j + 1))).setCell (p := ⟨K, 3, none⟩) (fun _ => rfl) (.int .i64 (i + 1))).setCell (p := ⟨K, 4, none⟩) (fun _ => rfl) (.int .i64 0)
  have ht3 := (heap_setCell_same (i := 4) (heap_setCell_same (i := 3) (heap_setCell_same (i := 4) HT2.out.own (.int .i64 (j + 1))) (.int .i64 (i + 1))) (.int .i64 0))
  have hr3 := ho3.keep HT2.out.rows (fun h => hRK h)
  clear c0 c3 c4 c5 f3 f4
  generalize (((w2.setCell ⟨K, 4, none⟩ (.int .i64 (j + 1))).setCell ⟨K, 3, none⟩ (.int .i64 (i + 1))).setCell ⟨K, 4, none⟩ (.int .i64 0)) = w3 at ho3 ht3 hr3 ⊢
  have HO3 := Lib.hid ho3
  have HT3 : Hid (TakB K (nxWord K) (.slice (some ⟨RB, 0, none⟩) n n) (i + 1) 0 n w3) := ht3
  have HR3 : Hid (TRow RB n (updR R i j v) w3) := hr3
  clear ho3 ht3 hr3
  have d3 : w3.cell? ⟨K, 3, none⟩ = some (.int .i64 (i + 1)) := cell_of HT3.out rfl
  have d5 : w3.cell? ⟨K, 5, none⟩ = some (.int .i64 n) := cell_of HT3.out rfl
  go_quiet (fail)
  have HMz : Hid (Mod (fun _ => False) w3 (w3.drewN nq)) := (Mod.refl (fun _ => False) w3).drewN nq
  clear d3 d5
  generalize w3.drewN nq = wz at HMz ⊢
  have hall : Mod (tfoot M mb K RB) w wz := ((((HMq.out.weaken (fun _ _ h => h.elim)).trans HO1.out (fun _ _ h => .inl h)).trans HO2.out (fun _ _ h => .inr (.inr h))).trans HO3.out (fun _ _ h => .inr (.inl h))).trans HMz.out (fun _ _ h => h.elim)
  have HALL := Lib.hid hall
  have HMZ := Lib.hid ((HM2.out.mod HO3.out (fun h => hKM h.symm) (fun h => hKm h.symm)).mod HMz.out (fun h => h) (fun h => h))
  have HTZ : Hid (TakB K (nxWord K) (.slice (some ⟨RB, 0, none⟩) n n) (i + 1) 0 n wz) := HMz.out.keep HT3.out (fun h => h)
  have HRZ : Hid (TRow RB n (updR R i j v) wz) := HMz.out.keep HR3.out (fun h => h)
  clear hall
  have c0 : wz.cell? ⟨K, 0, none⟩ = some (nxWord K) := cell_of HTZ.out rfl
  have f0 := free_of (i := 0) HTZ.out
  go_wp2_with fail
  go_end0
  have ho5 := (Mod.refl (fun x => x = K) wz).setCell (p := ⟨K, 0, none⟩) (fun _ => rfl) .nilFunc
  have ht5 := heap_setCell_same (i := 0) HTZ.out .nilFunc
  have hN : ((i : Int) + 1) = (n : Int) := by omega
  rw [hN] at ht5
  exact ⟨rfl, HMZ.out.mod ho5 (fun h => hKM h.symm) (fun h => hKm h.symm), ⟨ht5, ho5.keep HRZ.out (fun h => hRK h), hRK⟩, HALL.out.trans ho5 (fun _ _ h => .inr (.inl h))⟩
set_option maxHeartbeats 2000000 in
set_option maxRecDepth 100000 in
theorem word_next9 {M mb N K RB n i j : Nat} {R : Nat → Nat → Int} {f : Adr → Int} {s : Int} {L : Acc} {v : Int} {w : World} (hM : MemAt M mb N f s L w) (hT : TakOn K RB n i j R w) (hKM : K ≠ M) (hKm : K ≠ mb) (hRM : RB ≠ M) (hRm : RB ≠ mb) (hi : i < n) (hn : n ≤ 16) (hj : j < 10) (hv : f (tAdr i j) = v) (ho : updR R i j v i 0 ≠ 0) (hj9 : j + 1 = 10) (hin : i + 1 < n) :
    Calls Try.prog 57 #[.pointer (some ⟨K, 0, none⟩), .pointer (some ⟨M, 0, none⟩)] w (WordPost M mb N K RB f s (tAdr i j) (TakOn K RB n (i + 1) 0 (updR R i j v)) w) := by
  have hi16 : i < 16 := by omega
  have hRK := hT.ne
  have c1 : w.cell? ⟨K, 1, none⟩ = some (.slice (some ⟨RB, 0, none⟩) n n) := cell_of hT.own rfl
  have c3 : w.cell? ⟨K, 3, none⟩ = some (.int .i64 i) := cell_of hT.own rfl
  have c4 : w.cell? ⟨K, 4, none⟩ = some (.int .i64 j) := cell_of hT.own rfl
  have hiI : (i : Int) < n := by omega
  have hi0 : (0 : Int) ≤ (i : Int) := by omega
  have HM := Lib.hid hM
  have HT := Lib.hid hT
  have HV := Lib.hid hv
  have HX := Lib.hid ho
  clear ho
  clear hM hT hv
  go_enter Try.func57, Try.ntmps57
  go_wp2_with fail
  go_quiet (fail)
  have HMq : Hid (Mod (fun _ => False) w (w.drewN nq)) := (Mod.refl (fun _ => False) w).drewN nq
  have HTq : Hid (TakOn K RB n i j R (w.drewN nq)) := ⟨HMq.out.keep HT.out.own (fun h => h), HMq.out.keep HT.out.rows (fun h => h), HT.out.ne⟩
  have HMM := Lib.hid (HM.out.mod HMq.out (fun h => h) (fun h => h))
  clear c1 c3 c4
  generalize w.drewN nq = wq at HMq HTq HMM ⊢
  have c3 : wq.cell? ⟨K, 3, none⟩ = some (.int .i64 i) := cell_of HTq.out.own rfl
  have c4 : wq.cell? ⟨K, 4, none⟩ = some (.int .i64 j) := cell_of HTq.out.own rfl
  go_wp2_with fail
  go_region_held3 (fun w' => w'.cell? ⟨K, 3, none⟩ = some (.int .i64 i) ∧ w'.cell? ⟨K, 4, none⟩ = some (.int .i64 j)) (first | exact ⟨c3, c4⟩ | exact ⟨d3, d4⟩ | exact ⟨e3, e4⟩)
    (first
      | (go_at_call 27; refine (loadAt (a := tAdr i j) (HMM.out.mod (Mod.refl (fun _ => False) wq).drew (fun h => h) (fun h => h)) (tWf hi16 hj) HV.out).mono ?_; rintro _ w1 ⟨rfl, hM1, hm1⟩
         have HM1 := Lib.hid hM1
         have HO1 : Hid (Mod (mfoot M mb) wq w1) := ((Mod.refl (mfoot M mb) wq).drew).trans hm1 (fun _ _ h => h)
         have HT1 : Hid (TakOn K RB n i j R w1) := ⟨HO1.out.keep HTq.out.own (fun h => h.elim hKM hKm), HO1.out.keep HTq.out.rows (fun h => h.elim hRM hRm), HTq.out.ne⟩
         have d3 : w1.cell? ⟨K, 3, none⟩ = some (.int .i64 i) := cell_of HT1.out.own rfl
         have d4 : w1.cell? ⟨K, 4, none⟩ = some (.int .i64 j) := cell_of HT1.out.own rfl
         clear hM1 hm1)
      | (go_at_call 63; refine (put_any hj (HT1.out.rows.cell hi hj) (free_of HT1.out.rows)).mono ?_; rintro _ w2 ⟨rfl, hw2⟩
         have ho2 := (Mod.refl (fun x => x = RB) w1).setCell (p := ⟨RB, i * 10 + j, none⟩) (fun _ => rfl) (.int .u64 v)
         rw [← hw2] at ho2
         have HO2 := Lib.hid ho2
         have hr2 := heap_setCell_same (i := i * 10 + j) HT1.out.rows (.int .u64 v)
         rw [← hw2, flatR_upd hj] at hr2
         have HT2 : Hid (TakOn K RB n i j (updR R i j v) w2) := ⟨HO2.out.keep HT1.out.own (fun h => hRK h.symm), hr2, HT1.out.ne⟩
         have HM2 := Lib.hid (HM1.out.mod HO2.out (fun h => hRM h.symm) (fun h => hRm h.symm))
         have e3 : w2.cell? ⟨K, 3, none⟩ = some (.int .i64 i) := cell_of HT2.out.own rfl
         have e4 : w2.cell? ⟨K, 4, none⟩ = some (.int .i64 j) := cell_of HT2.out.own rfl
         clear hw2 hr2 ho2))
  clear c3 c4 d3 d4 e3 e4
  have c0 : w2.cell? ⟨RB, i * 10, none⟩ = some (.int .u64 (updR R i j v i 0)) := HT2.out.rows.cell (j := 0) hi (by decide)
  have c3 : w2.cell? ⟨K, 3, none⟩ = some (.int .i64 i) := cell_of HT2.out.own rfl
  have c4 : w2.cell? ⟨K, 4, none⟩ = some (.int .i64 j) := cell_of HT2.out.own rfl
  have c5 : w2.cell? ⟨K, 5, none⟩ = some (.int .i64 n) := cell_of HT2.out.own rfl
  have f3 := free_of (i := 3) HT2.out.own
  have f4 := free_of (i := 4) HT2.out.own
  obtain ⟨oo, hoo⟩ : ∃ oo, updR R i j v i 0 = oo := ⟨_, rfl⟩
  rw [hoo] at c0
  have HOO := Lib.hid hoo
  clear hoo
  have t1 : (oo == 0) = false := by have := HX.out; rw [HOO.out] at this; simpa using this
  have t2 : (((j : Int) + 1) == 10) = true := by simp; omega
  have t3 : (((i : Int) + 1 : Int) == (n : Int)) = false := by simp; omega
  go_wp2_with fail
  have ho3 := (((Mod.refl (fun x => x = K) w2).setCell (p := ⟨K, 4, none⟩) (fun _ => rfl) (.int .i64 (j + 1))).setCell (p := ⟨K, 3, none⟩) (fun _ => rfl) (.int .i64 (i + 1))).setCell (p := ⟨K, 4, none⟩) (fun _ => rfl) (.int .i64 0)
  have ht3 := (heap_setCell_same (i := 4) (heap_setCell_same (i := 3) (heap_setCell_same (i := 4) HT2.out.own (.int .i64 (j + 1))) (.int .i64 (i + 1))) (.int .i64 0))
  have hr3 := ho3.keep HT2.out.rows (fun h => hRK h)
  clear c0 c3 c4 c5 f3 f4
  generalize (((w2.setCell ⟨K, 4, none⟩ (.int .i64 (j + 1))).setCell ⟨K, 3, none⟩ (.int .i64 (i + 1))).setCell ⟨K, 4, none⟩ (.int .i64 0)) = w3 at ho3 ht3 hr3 ⊢
  have HO3 := Lib.hid ho3
  have HT3 : Hid (TakB K (nxWord K) (.slice (some ⟨RB, 0, none⟩) n n) (i + 1) 0 n w3) := ht3
  have HR3 : Hid (TRow RB n (updR R i j v) w3) := hr3
  clear ho3 ht3 hr3
  have d3 : w3.cell? ⟨K, 3, none⟩ = some (.int .i64 (i + 1)) := cell_of HT3.out rfl
  have d5 : w3.cell? ⟨K, 5, none⟩ = some (.int .i64 n) := cell_of HT3.out rfl
  go_quiet (fail)
  have HMz : Hid (Mod (fun _ => False) w3 (w3.drewN nq)) := (Mod.refl (fun _ => False) w3).drewN nq
  clear d3 d5
  generalize w3.drewN nq = wz at HMz ⊢
  have hall : Mod (tfoot M mb K RB) w wz := ((((HMq.out.weaken (fun _ _ h => h.elim)).trans HO1.out (fun _ _ h => .inl h)).trans HO2.out (fun _ _ h => .inr (.inr h))).trans HO3.out (fun _ _ h => .inr (.inl h))).trans HMz.out (fun _ _ h => h.elim)
  have HALL := Lib.hid hall
  have HMZ := Lib.hid ((HM2.out.mod HO3.out (fun h => hKM h.symm) (fun h => hKm h.symm)).mod HMz.out (fun h => h) (fun h => h))
  have HTZ : Hid (TakB K (nxWord K) (.slice (some ⟨RB, 0, none⟩) n n) (i + 1) 0 n wz) := HMz.out.keep HT3.out (fun h => h)
  have HRZ : Hid (TRow RB n (updR R i j v) wz) := HMz.out.keep HR3.out (fun h => h)
  clear hall
  go_wp2_with fail
  go_end0
  exact ⟨rfl, HMZ.out, ⟨by simpa using HTZ.out, HRZ.out, hRK⟩, HALL.out⟩
set_option maxHeartbeats 2000000 in
set_option maxRecDepth 100000 in
theorem word_last9 {M mb N K RB n i j : Nat} {R : Nat → Nat → Int} {f : Adr → Int} {s : Int} {L : Acc} {v : Int} {w : World} (hM : MemAt M mb N f s L w) (hT : TakOn K RB n i j R w) (hKM : K ≠ M) (hKm : K ≠ mb) (hRM : RB ≠ M) (hRm : RB ≠ mb) (hi : i < n) (hn : n ≤ 16) (hj : j < 10) (hv : f (tAdr i j) = v) (ho : updR R i j v i 0 ≠ 0) (hj9 : j + 1 = 10) (hin : i + 1 = n) :
    Calls Try.prog 57 #[.pointer (some ⟨K, 0, none⟩), .pointer (some ⟨M, 0, none⟩)] w (WordPost M mb N K RB f s (tAdr i j) (TakEnd K RB n (updR R i j v)) w) := by
  have hi16 : i < 16 := by omega
  have hRK := hT.ne
  have c1 : w.cell? ⟨K, 1, none⟩ = some (.slice (some ⟨RB, 0, none⟩) n n) := cell_of hT.own rfl
  have c3 : w.cell? ⟨K, 3, none⟩ = some (.int .i64 i) := cell_of hT.own rfl
  have c4 : w.cell? ⟨K, 4, none⟩ = some (.int .i64 j) := cell_of hT.own rfl
  have hiI : (i : Int) < n := by omega
  have hi0 : (0 : Int) ≤ (i : Int) := by omega
  have HM := Lib.hid hM
  have HT := Lib.hid hT
  have HV := Lib.hid hv
  have HX := Lib.hid ho
  clear ho
  clear hM hT hv
  go_enter Try.func57, Try.ntmps57
  go_wp2_with fail
  go_quiet (fail)
  have HMq : Hid (Mod (fun _ => False) w (w.drewN nq)) := (Mod.refl (fun _ => False) w).drewN nq
  have HTq : Hid (TakOn K RB n i j R (w.drewN nq)) := ⟨HMq.out.keep HT.out.own (fun h => h), HMq.out.keep HT.out.rows (fun h => h), HT.out.ne⟩
  have HMM := Lib.hid (HM.out.mod HMq.out (fun h => h) (fun h => h))
  clear c1 c3 c4
  generalize w.drewN nq = wq at HMq HTq HMM ⊢
  have c3 : wq.cell? ⟨K, 3, none⟩ = some (.int .i64 i) := cell_of HTq.out.own rfl
  have c4 : wq.cell? ⟨K, 4, none⟩ = some (.int .i64 j) := cell_of HTq.out.own rfl
  go_wp2_with fail
  go_region_held3 (fun w' => w'.cell? ⟨K, 3, none⟩ = some (.int .i64 i) ∧ w'.cell? ⟨K, 4, none⟩ = some (.int .i64 j)) (first | exact ⟨c3, c4⟩ | exact ⟨d3, d4⟩ | exact ⟨e3, e4⟩)
    (first
      | (go_at_call 27; refine (loadAt (a := tAdr i j) (HMM.out.mod (Mod.refl (fun _ => False) wq).drew (fun h => h) (fun h => h)) (tWf hi16 hj) HV.out).mono ?_; rintro _ w1 ⟨rfl, hM1, hm1⟩
         have HM1 := Lib.hid hM1
         have HO1 : Hid (Mod (mfoot M mb) wq w1) := ((Mod.refl (mfoot M mb) wq).drew).trans hm1 (fun _ _ h => h)
         have HT1 : Hid (TakOn K RB n i j R w1) := ⟨HO1.out.keep HTq.out.own (fun h => h.elim hKM hKm), HO1.out.keep HTq.out.rows (fun h => h.elim hRM hRm), HTq.out.ne⟩
         have d3 : w1.cell? ⟨K, 3, none⟩ = some (.int .i64 i) := cell_of HT1.out.own rfl
         have d4 : w1.cell? ⟨K, 4, none⟩ = some (.int .i64 j) := cell_of HT1.out.own rfl
         clear hM1 hm1)
      | (go_at_call 63; refine (put_any hj (HT1.out.rows.cell hi hj) (free_of HT1.out.rows)).mono ?_; rintro _ w2 ⟨rfl, hw2⟩
         have ho2 := (Mod.refl (fun x => x = RB) w1).setCell (p := ⟨RB, i * 10 + j, none⟩) (fun _ => rfl) (.int .u64 v)
         rw [← hw2] at ho2
         have HO2 := Lib.hid ho2
         have hr2 := heap_setCell_same (i := i * 10 + j) HT1.out.rows (.int .u64 v)
         rw [← hw2, flatR_upd hj] at hr2
         have HT2 : Hid (TakOn K RB n i j (updR R i j v) w2) := ⟨HO2.out.keep HT1.out.own (fun h => hRK h.symm), hr2, HT1.out.ne⟩
         have HM2 := Lib.hid (HM1.out.mod HO2.out (fun h => hRM h.symm) (fun h => hRm h.symm))
         have e3 : w2.cell? ⟨K, 3, none⟩ = some (.int .i64 i) := cell_of HT2.out.own rfl
         have e4 : w2.cell? ⟨K, 4, none⟩ = some (.int .i64 j) := cell_of HT2.out.own rfl
         clear hw2 hr2 ho2))
  clear c3 c4 d3 d4 e3 e4
  have c0 : w2.cell? ⟨RB, i * 10, none⟩ = some (.int .u64 (updR R i j v i 0)) := HT2.out.rows.cell (j := 0) hi (by decide)
  have c3 : w2.cell? ⟨K, 3, none⟩ = some (.int .i64 i) := cell_of HT2.out.own rfl
  have c4 : w2.cell? ⟨K, 4, none⟩ = some (.int .i64 j) := cell_of HT2.out.own rfl
  have c5 : w2.cell? ⟨K, 5, none⟩ = some (.int .i64 n) := cell_of HT2.out.own rfl
  have f3 := free_of (i := 3) HT2.out.own
  have f4 := free_of (i := 4) HT2.out.own
  obtain ⟨oo, hoo⟩ : ∃ oo, updR R i j v i 0 = oo := ⟨_, rfl⟩
  rw [hoo] at c0
  have HOO := Lib.hid hoo
  clear hoo
  have t1 : (oo == 0) = false := by have := HX.out; rw [HOO.out] at this; simpa using this
  have t2 : (((j : Int) + 1) == 10) = true := by simp; omega
  have t3 : (((i : Int) + 1 : Int) == (n : Int)) = true := by simp; omega
  go_wp2_with fail
  have ho3 := (((Mod.refl (fun x => x = K) w2).setCell (p := ⟨K, 4, none⟩) (fun _ => rfl) (.int .i64 (j + 1))).setCell (p := ⟨K, 3, none⟩) (fun _ => rfl) (.int .i64 (i + 1))).setCell (p := ⟨K, 4, none⟩) (fun _ => rfl) (.int .i64 0)
  have ht3 := (heap_setCell_same (i := 4) (heap_setCell_same (i := 3) (heap_setCell_same (i := 4) HT2.out.own (.int .i64 (j + 1))) (.int .i64 (i + 1))) (.int .i64 0))
  have hr3 := ho3.keep HT2.out.rows (fun h => hRK h)
  clear c0 c3 c4 c5 f3 f4
  generalize (((w2.setCell ⟨K, 4, none⟩ (.int .i64 (j + 1))).setCell ⟨K, 3, none⟩ (.int .i64 (i + 1))).setCell ⟨K, 4, none⟩ (.int .i64 0)) = w3 at ho3 ht3 hr3 ⊢
  have HO3 := Lib.hid ho3
  have HT3 : Hid (TakB K (nxWord K) (.slice (some ⟨RB, 0, none⟩) n n) (i + 1) 0 n w3) := ht3
  have HR3 : Hid (TRow RB n (updR R i j v) w3) := hr3
  clear ho3 ht3 hr3
  have d3 : w3.cell? ⟨K, 3, none⟩ = some (.int .i64 (i + 1)) := cell_of HT3.out rfl
  have d5 : w3.cell? ⟨K, 5, none⟩ = some (.int .i64 n) := cell_of HT3.out rfl
  go_quiet (fail)
  have HMz : Hid (Mod (fun _ => False) w3 (w3.drewN nq)) := (Mod.refl (fun _ => False) w3).drewN nq
  clear d3 d5
  generalize w3.drewN nq = wz at HMz ⊢
  have hall : Mod (tfoot M mb K RB) w wz := ((((HMq.out.weaken (fun _ _ h => h.elim)).trans HO1.out (fun _ _ h => .inl h)).trans HO2.out (fun _ _ h => .inr (.inr h))).trans HO3.out (fun _ _ h => .inr (.inl h))).trans HMz.out (fun _ _ h => h.elim)
  have HALL := Lib.hid hall
  have HMZ := Lib.hid ((HM2.out.mod HO3.out (fun h => hKM h.symm) (fun h => hKm h.symm)).mod HMz.out (fun h => h) (fun h => h))
  have HTZ : Hid (TakB K (nxWord K) (.slice (some ⟨RB, 0, none⟩) n n) (i + 1) 0 n wz) := HMz.out.keep HT3.out (fun h => h)
  have HRZ : Hid (TRow RB n (updR R i j v) wz) := HMz.out.keep HR3.out (fun h => h)
  clear hall
  have c0 : wz.cell? ⟨K, 0, none⟩ = some (nxWord K) := cell_of HTZ.out rfl
  have f0 := free_of (i := 0) HTZ.out
  go_wp2_with fail
  go_end0
  have ho5 := (Mod.refl (fun x => x = K) wz).setCell (p := ⟨K, 0, none⟩) (fun _ => rfl) .nilFunc
  have ht5 := heap_setCell_same (i := 0) HTZ.out .nilFunc
  have hN : ((i : Int) + 1) = (n : Int) := by omega
  rw [hN] at ht5
  exact ⟨rfl, HMZ.out.mod ho5 (fun h => hKM h.symm) (fun h => hKm h.symm), ⟨ht5, ho5.keep HRZ.out (fun h => hRK h), hRK⟩, HALL.out.trans ho5 (fun _ _ h => .inr (.inl h))⟩
end Go.Proofs.Ytjnbkpklcmkdlaa
