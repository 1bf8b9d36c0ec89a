/- A memory of shared words: CAS, Last. -/
import Derived.Test.YtjnbkpklcmkdlaaMF
import Derived.Test.YtjnbkpklcmkdlaaMG
namespace Go.Proofs.Ytjnbkpklcmkdlaa
open Go.RowKit

def CASPost (M mb N : Nat) (f : Adr → Int) (s : Int) (a : Adr) (ov nv : Int) (w : World) (e : Ending) (w' : World) : Prop :=
  e = .returned (.bool (accOf f 3 a nv (decide (f a = ov))).done) ∧ MemAt M mb (N + 1) (wordsOf f a nv (decide (f a = ov))) (wrap64 (s + 1)) (accOf f 3 a nv (decide (f a = ov))) w' ∧ Mod (fun b => b = M ∨ b = mb) w w'

theorem heap_alloc3 (w : World) (o1 o2 o3 : Obj) : (((w.alloc o1).alloc o2).alloc o3).heap[w.heap.size + 1]? = some o2 ∧ (((w.alloc o1).alloc o2).alloc o3).heap[w.heap.size + 2]? = some o3 := by
  obtain ⟨h1, h2, h3⟩ := heap_alloc2 w o1 o2
  refine ⟨heap_alloc_keep h2 o3, ?_⟩
  rw [← h3]
  exact heap_alloc_at _ _

set_option maxRecDepth 100000 in
set_option maxHeartbeats 1000000 in
theorem cas_any {M mb N : Nat} {f : Adr → Int} {s : Int} {L : Acc} {w : World} (h : MemAt M mb N f s L w) (hN : N < maxLen) {a : Adr} (ha : AdrWf a) {ov nv : Int} (hv : (Lit.int .u64 nv).wf = true) :
    Calls Try.prog 54 #[.pointer (some ⟨M, 0, none⟩), adrVal a, .int .u64 ov, .int .u64 nv] w (CASPost M mb N f s a ov nv w) := by
  have hva : adrVal a = .agg #[.int .u8 a.1, .int .i64 a.2.1, .int .i64 a.2.2] := rfl
  rw [hva]
  go_enter Try.func54, Try.ntmps54
  go_wp2_with fail
  have hm := (((Mod.refl (fun _ => False) w).alloc (.cells #[.int .u8 a.1, .int .i64 a.2.1, .int .i64 a.2.2] 30)).alloc (.cells #[.int .u64 ov] 22)).alloc (.cells #[.int .u64 nv] 22)
  obtain ⟨h1, h2⟩ := heap_alloc3 w (.cells #[.int .u8 a.1, .int .i64 a.2.1, .int .i64 a.2.2] 30) (.cells #[.int .u64 ov] 22) (.cells #[.int .u64 nv] 22)
  have l1 := lt_of_block h.1
  have l2 := h.2.1.lt
  have h := h.mod hm (fun h => h) (fun h => h)
  refine (step_cas h hN ha hv (cell_of h2 rfl) (by omega) (by omega) (cell_of h1 rfl) (by omega) (by omega)).mono ?_
  rintro _ w2 ⟨rfl, hM, hmod⟩
  generalize hac : accOf f 3 a nv (decide (f a = ov)) = A at hM ⊢
  have HC := Lib.hid hac
  have hacc : accVal A = .agg #[.int .u8 A.kind, .int .u8 A.addr.1, .int .i64 A.addr.2.1, .int .i64 A.addr.2.2, .int .u64 A.was, .int .u64 A.now, .bool A.done] := rfl
  rw [hacc]
  have HM := Lib.hid hM
  have HH := Lib.hid hmod
  have HA := Lib.hid hm
  clear hM hmod hm hacc h hva ha h1 h2 hac
  have hfi := field_done
  go_wp2_with fail
  go_ret
  have hM := HM.out
  have hmod := HH.out
  have hm := HA.out
  have hac := HC.out
  subst hac
  exact ⟨rfl, hM, (hm.weaken (fun _ _ h => h.elim)).trans hmod (fun _ _ h => h)⟩

def LastPost (L : Acc) (w : World) (e : Ending) (w' : World) : Prop := e = .returned (accVal L) ∧ Below w.heap.size w w'

set_option maxHeartbeats 1000000 in
theorem last_any {M mb N : Nat} {f : Adr → Int} {s : Int} {L : Acc} {w : World} (h : MemAt M mb N f s L w) :
    Calls Try.prog 44 #[.pointer (some ⟨M, 0, none⟩)] w (LastPost L w) := by
  have hm2 : w.cell? ⟨M, 2, none⟩ = some (.int .u8 L.kind) := cell_of h.1 rfl
  have hm3 : w.cell? ⟨M, 3, none⟩ = some (.int .u8 L.addr.1) := cell_of h.1 rfl
  have hm4 : w.cell? ⟨M, 4, none⟩ = some (.int .i64 L.addr.2.1) := cell_of h.1 rfl
  have hm5 : w.cell? ⟨M, 5, none⟩ = some (.int .i64 L.addr.2.2) := cell_of h.1 rfl
  have hm6 : w.cell? ⟨M, 6, none⟩ = some (.int .u64 L.was) := cell_of h.1 rfl
  have hm7 : w.cell? ⟨M, 7, none⟩ = some (.int .u64 L.now) := cell_of h.1 rfl
  have hm8 : w.cell? ⟨M, 8, none⟩ = some (.bool L.done) := cell_of h.1 rfl
  have hlt := lt_of_block h.1
  clear h
  go_enter Try.func44, Try.ntmps44
  go_wp2_with fail
  exact bodyPost_ret (v := accVal L) (by simp [results, Try.results44, go_sem, accVal]) rfl ⟨rfl, (Below.refl _ _).alloc (Nat.le_refl _) _⟩
end Go.Proofs.Ytjnbkpklcmkdlaa
