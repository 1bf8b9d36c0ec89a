/- A memory of shared words: Store, Load, Steps, Last, New. -/
import Derived.Test.YtjnbkpklcmkdlaaME
namespace Go.Proofs.Ytjnbkpklcmkdlaa
open Go.RowKit

/-- Two fields of an access. -/
theorem field_now (c0 c1 c2 c3 c4 c5 c6 : Value) (w : World) : (Instr.field 85 (.agg #[c0, c1, c2, c3, c4, c5, c6]) 3).run Try.prog w = .ok c5 w := by
  unfold Instr.field
  simp [run_underlying Try.underlying85, part, asAgg, Result.andThen]
  done
theorem field_done (c0 c1 c2 c3 c4 c5 c6 : Value) (w : World) : (Instr.field 85 (.agg #[c0, c1, c2, c3, c4, c5, c6]) 4).run Try.prog w = .ok c6 w := by
  unfold Instr.field
  simp [run_underlying Try.underlying85, part, asAgg, Result.andThen]
  done

def StorePost (M mb N : Nat) (f : Adr → Int) (s : Int) (a : Adr) (nv : Int) (w : World) (e : Ending) (w' : World) : Prop :=
  e = .returned (.tuple #[]) ∧ MemAt M mb (N + 1) (wordsOf f a nv true) (wrap64 (s + 1)) (accOf f 2 a nv true) w' ∧ Mod (fun b => b = M ∨ b = mb) w w'
def LoadPost (M mb N : Nat) (f : Adr → Int) (s : Int) (a : Adr) (w : World) (e : Ending) (w' : World) : Prop :=
  e = .returned (.int .u64 (f a)) ∧ MemAt M mb (N + 1) f (wrap64 (s + 1)) ⟨1, a, f a, f a, false⟩ w' ∧ Mod (fun b => b = M ∨ b = mb) w w'

set_option maxHeartbeats 1000000 in
theorem store_any {M mb N : Nat} {f : Adr → Int} {s : Int} {L : Acc} {w : World} (h : MemAt M mb N f s L w) (hN : N < maxLen) {a : Adr} (ha : AdrWf a) {nv : Int} (hv : (Lit.int .u64 nv).wf = true) :
    Calls Try.prog 8 #[.pointer (some ⟨M, 0, none⟩), adrVal a, .int .u64 nv] w (StorePost M mb N f s a nv w) := by
  have hva : adrVal a = .agg #[.int .u8 a.1, .int .i64 a.2.1, .int .i64 a.2.2] := rfl
  rw [hva]
  go_enter Try.func8, Try.ntmps8
  go_wp2_with fail
  have hm := ((Mod.refl (fun _ => False) w).alloc (.cells #[.int .u8 a.1, .int .i64 a.2.1, .int .i64 a.2.2] 30)).alloc (.cells #[.int .u64 nv] 22)
  obtain ⟨h1, h2, h3⟩ := heap_alloc2 w (.cells #[.int .u8 a.1, .int .i64 a.2.1, .int .i64 a.2.2] 30) (.cells #[.int .u64 nv] 22)
  have l1 := lt_of_block h.1
  have l2 := h.2.1.lt
  have h := h.mod hm (fun h => h) (fun h => h)
  refine (step_store h hN ha hv (cell_of h2 rfl) (by omega) (by omega)).mono ?_
  rintro _ w2 ⟨rfl, hM, hmod⟩
  go_wp2_with fail
  go_end0
  exact ⟨rfl, hM, (hm.weaken (fun _ _ h => h.elim)).trans hmod (fun _ _ h => h)⟩

set_option maxRecDepth 100000 in
set_option maxHeartbeats 1000000 in
theorem load_any {M mb N : Nat} {f : Adr → Int} {s : Int} {L : Acc} {w : World} (h : MemAt M mb N f s L w) {a : Adr} (ha : AdrWf a) :
    Calls Try.prog 27 #[.pointer (some ⟨M, 0, none⟩), adrVal a] w (LoadPost M mb N f s a w) := by
  have hva : adrVal a = .agg #[.int .u8 a.1, .int .i64 a.2.1, .int .i64 a.2.2] := rfl
  rw [hva]
  go_enter Try.func27, Try.ntmps27
  go_wp2_with fail
  have hm := (Mod.refl (fun _ => False) w).alloc (.cells #[.int .u8 a.1, .int .i64 a.2.1, .int .i64 a.2.2] 30)
  have h := h.mod hm (fun h => h) (fun h => h)
  refine (step_load h ha).mono ?_
  rintro _ w2 ⟨rfl, hM, hmod⟩
  have e1 : wordsOf f a 0 false = f := by simp [wordsOf, acts]
  have e2 : accOf f 1 a 0 false = ⟨1, a, f a, f a, false⟩ := by simp [accOf, acts]
  rw [e1, e2] at hM
  rw [e2]
  have hacc : accVal ⟨1, a, f a, f a, false⟩ = .agg #[.int .u8 1, .int .u8 a.1, .int .i64 a.2.1, .int .i64 a.2.2, .int .u64 (f a), .int .u64 (f a), .bool false] := rfl
  rw [hacc]
  have HM := Lib.hid hM
  have HH := Lib.hid hmod
  have HA := Lib.hid hm
  clear hM hmod hm hacc e1 e2 h hva ha
  have hfi := field_now
  go_wp2_with fail
  go_ret
  have hM := HM.out
  have hmod := HH.out
  have hm := HA.out
  exact ⟨rfl, hM, (hm.weaken (fun _ _ h => h.elim)).trans hmod (fun _ _ h => h)⟩

theorem steps_any {M mb N : Nat} {f : Adr → Int} {s : Int} {L : Acc} {w : World} (h : MemAt M mb N f s L w) :
    Calls Try.prog 37 #[.pointer (some ⟨M, 0, none⟩)] w fun e w' => e = .returned (.int .i64 s) ∧ w' = w := by
  have hc1 : w.cell? ⟨M, 1, none⟩ = some (.int .i64 s) := cell_of h.1 rfl
  clear h
  go_enter Try.func37, Try.ntmps37
  go_wp2
  go_ret
  exact ⟨rfl, rfl⟩

/-- Nothing yet. -/
def acc0 : Acc := ⟨0, (0, 0, 0), 0, 0, false⟩
def NewPost (w : World) (e : Ending) (w' : World) : Prop :=
  e = .returned (.pointer (some ⟨w.heap.size + 1, 0, none⟩)) ∧ MemAt (w.heap.size + 1) w.heap.size 0 (fun _ => 0) 0 acc0 w' ∧ Below w.heap.size w w' ∧ w'.heap.size = w.heap.size + 2

theorem new_any (w : World) : Calls Try.prog 7 #[] w (NewPost w) := by
  go_enter Try.func7, Try.ntmps7
  have hmk := @run_makeMap Try.prog
  go_wp2_with fail
  obtain ⟨h1, h2, h3⟩ := heap_alloc2 w (.map #[] 0) (.cells (memCells w.heap.size 0 acc0) 87)
  have hw : WordsAt w.heap.size 0 (fun _ => 0) (w.alloc (.map #[] 0)) := ⟨_, World.ownsMap_made w Try.prog 30 _, fun a _ => rfl⟩
  exact bodyPost_ret (v := .pointer (some ⟨w.heap.size + 1, 0, none⟩)) (by simp [results, Try.results7, go_sem]) rfl
    ⟨rfl, ⟨h2, hw.mod ((Mod.refl (fun _ => False) _).alloc _) (fun h => h), by omega⟩, ((Below.refl _ _).alloc (Nat.le_refl _) _).alloc (by simp) _, h3⟩
end Go.Proofs.Ytjnbkpklcmkdlaa
