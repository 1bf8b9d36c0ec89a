/- The document's list: added, counted; entries that are spoilt. -/
import Derived.Test.YtcemcphkgehbhaaF
namespace Go.Proofs.Ytcemcphkgehbhaa
open Go.RowKit

def RefAt (w : World) (R : Nat) (es : List Ent) (fp : List Nat) : Prop :=
  ∃ v, w.heap[R]? = some (.cells #[v] 28 (0, 0)) ∧ w.ownsRow 0 34 6 v es.length (flat es) ∧ fp = R :: v.ownBlock.toList ∧ fp.Nodup

theorem RefAt.keep {w w' : World} {S : Nat → Prop} {L : Nat} {es : List Ent} {fp : List Nat} (h : RefAt w L es fp) (hm : Mod S w w') (hs : ∀ b ∈ fp, ¬ S b) : RefAt w' L es fp := by
  obtain ⟨v, hL, hv, rfl, hnd⟩ := h
  exact ⟨v, hm.keep hL (hs L (by simp)), hm.ownsRow hv (fun k hk => hs k (by simp [hk])), rfl, hnd⟩
theorem RefAt.ltfp {w : World} {L : Nat} {es : List Ent} {fp : List Nat} (h : RefAt w L es fp) : ∀ b ∈ fp, b < w.heap.size := by
  obtain ⟨v, hL, hv, rfl, hnd⟩ := h
  intro b hb
  simp only [List.mem_cons, Option.mem_toList] at hb
  rcases hb with rfl | hb
  · exact lt_of_block hL
  · exact (hv.lt b hb).2
theorem RefAt.ents {w : World} {L : Nat} {es : List Ent} {fp : List Nat} (h : RefAt w L es fp) : ∃ v, w.cell? ⟨L, 0, none⟩ = some v ∧ Ents w v es := by
  obtain ⟨v, hL, hv, rfl, hnd⟩ := h
  exact ⟨v, cell_of hL rfl, ents_of_owns hv⟩

def RAddPost (w : World) (L : Nat) (es : List Ent) (e : Ent) (fp : List Nat) (r : Ending) (w' : World) : Prop :=
  r = .returned (.int .i64 (addCode es e)) ∧ ∃ fp', RefAt w' L (addL es e) fp' ∧ Turn fp fp' w w'

theorem rmay_below (e : Ent) (w : World) : Calls Try.prog 20 #[e.val] w fun r w' => r = .returned (.bool e.may) ∧ Below w.heap.size w w' :=
  (rmay_any e w).mono fun _ _ ⟨h, h'⟩ => ⟨h, by rw [h']; exact (Below.refl _ _).alloc (Nat.le_refl _) _⟩

set_option maxHeartbeats 400000 in
theorem radd_arg (w : World) (L : Nat) (es : List Ent) (e : Ent) (fp : List Nat) (h : RefAt w L es fp) (he : e.may = false) :
    Calls Try.prog 12 #[.pointer (some ⟨L, 0, none⟩), e.val] w (RAddPost w L es e fp) := by
  have hq : RAddPost w L es e fp = fun r w' => r = .returned (.int .i64 1) ∧ ∃ fp', RefAt w' L es fp' ∧ Turn fp fp' w w' := by
    unfold RAddPost addCode addL; simp [he]
  rw [hq]
  have HE := Lib.hid he
  clear he hq
  obtain ⟨s, g, m, b, p, r⟩ := e
  simp only [Ent.val]
  go_enter Try.func12, Try.ntmps12
  go_wp2_with fail
  refine (rmay_below ⟨s, g, m, b, p, r⟩ _).mono ?_
  rintro _ w1 ⟨rfl, hb⟩
  rw [HE.out]
  go_wp2_with fail
  go_ret
  have hm : Mod (· ∈ fp) w w1 := Mod.trans (Mod.alloc (Mod.refl _ w) _) (Mod.ofBelow hb (fun _ => False)) (fun _ _ h => h.elim)
  have hm0 : Mod (fun _ => False) w w1 := Mod.trans (Mod.alloc (Mod.refl _ w) _) (Mod.ofBelow hb (fun _ => False)) (fun _ _ h => h.elim)
  exact ⟨rfl, fp, (h.keep hm0 (fun _ _ h => h)), hm, fun _ h => .inl h⟩

/-- Is a ref among the first k? -/
def seen (es : List Ent) (r : Ref) (k : Nat) : Prop := r ∈ (es.take k).map Ent.ref
theorem seen_succ (es : List Ent) (r : Ref) (k : Nat) (h : k < es.length) : seen es r (k + 1) ↔ seen es r k ∨ r = es[k].ref := by
  unfold seen
  rw [List.take_succ_eq_append_getElem h, List.map_append, List.mem_append]
  simp

set_option maxHeartbeats 1000000 in
theorem radd_some (w : World) (L : Nat) (es : List Ent) (e : Ent) (fp : List Nat) (h : RefAt w L es fp) (he : e.may = true) (hn : es.length ≤ 1000) :
    Calls Try.prog 12 #[.pointer (some ⟨L, 0, none⟩), e.val] w (RAddPost w L es e fp) := by
  have h0 := h
  obtain ⟨v, hL, hv, rfl, hnd⟩ := h
  have hents := ents_of_owns hv
  obtain ⟨a, cap, rfl, hv0⟩ := hents
  have HV0 := Lib.hid hv0
  have HE := Lib.hid he
  have H0 := Lib.hid h0
  clear he hv0 h0
  obtain ⟨i0, hi0, hz0, hz1, hz2⟩ := info_parts info34
  obtain ⟨s, g, m, b, p, r⟩ := e
  simp only [Ent.val]
  go_enter Try.func12, Try.ntmps12
  go_wp2_with fail
  refine (rmay_below ⟨s, g, m, b, p, r⟩ _).mono ?_
  rintro _ w1 ⟨rfl, hb⟩
  rw [HE.out]
  have hm0 : Mod (fun _ => False) w w1 := Mod.trans (Mod.alloc (Mod.refl _ w) _) (Mod.ofBelow hb (fun _ => False)) (fun _ _ h => h.elim)
  have hL1 := hm0.keep hL (fun h => h)
  have hv1 := hm0.ownsRow hv (fun _ _ h => h)
  have hbox : w1.heap[w.heap.size]? = some (.cells #[.int .i64 s, .int .u32 g, .bool m, .int .u64 b, .int .u64 p, .int .u64 r] 34 (0, 0)) := by
    rw [hb.block _ (by simp)]; exact heap_alloc_at _ _
  clear hb hL hv
  obtain ⟨eb, heb⟩ : ∃ eb, eb = w.heap.size := ⟨_, rfl⟩
  rw [← heb] at hbox ⊢
  have HEB := Lib.hid heb
  clear heb
  have c0 := cell_of hL1 (i := 0) rfl
  have e0 := cell_of hbox (i := 0) rfl
  have e1 := cell_of hbox (i := 1) rfl
  have e2 := cell_of hbox (i := 2) rfl
  have e3 := cell_of hbox (i := 3) rfl
  have e4 := cell_of hbox (i := 4) rfl
  have e5 := cell_of hbox (i := 5) rfl
  have f0 : w1.frozen? ⟨L, 0, none⟩ = false := free_of hL1
  go_wp2_with fail
  go_loopw [5] (fun i wr => ∃ k : Nat, k ≤ es.length ∧ i = .int .i64 k ∧ Hid (¬ seen es (s, g, m) k) ∧ (∃ n, wr = w1.drewN n)) (fun i wr => es.length - (intOf i).toNat)
  case atStart => exact ⟨0, Nat.zero_le _, rfl, by unfold Hid seen; simp, 0, rfl⟩
  case round =>
    obtain ⟨k, hk, rfl, HS, nn, rfl⟩ := hrel
    by_cases hlt : k < es.length
    · obtain ⟨bb, off, rfl, D0⟩ := HV0.out.resolve_left (fun h => by rw [h] at hlt; simp at hlt)
      obtain ⟨a0, a1, a2, a3, a4, a5⟩ := (D0 k hlt).keep hm0 (fun h => h)
      have HSS := Lib.hid (seen_succ es (s, g, m) k hlt)
      clear D0
      generalize es[k] = x at *
      by_cases hxy : x.ref = (s, g, m)
      · have hr : ∀ w, (Op.equalIn 10000 31 (refVal x.ref) (refVal (s, g, m))).run Try.prog w = .ok true w := fun w => by rw [eq_ref, decide_eq_true hxy]
        simp only [refVal, Ent.ref] at hr
        have HX := Lib.hid hxy
        clear hxy
        go_wp2_with fail
        go_quiet (fail)
        go_wp2_with fail
        go_ret
        have hin : (⟨s, g, m, b, p, r⟩ : Ent).ref ∈ es.map Ent.ref := by
          have h1 := HSS.out.2 (.inr HX.out.symm)
          unfold seen at h1
          exact (List.Sublist.map _ (List.take_sublist _ _)).subset h1
        refine ⟨?_, _, ?_, ((hm0.drewN _).drewN _).weaken (fun _ _ h => h.elim), fun _ h => .inl h⟩
        · unfold addCode; rw [if_pos HE.out, if_pos hin]; rfl
        · unfold addL; rw [if_pos HE.out, if_pos hin]; exact (H0.out.keep ((hm0.drewN _).drewN _) (fun _ _ h => h))
      · have hr : ∀ w, (Op.equalIn 10000 31 (refVal x.ref) (refVal (s, g, m))).run Try.prog w = .ok false w := fun w => by rw [eq_ref, decide_eq_false hxy]
        simp only [refVal, Ent.ref] at hr
        have HX := Lib.hid hxy
        clear hxy
        go_wp2_with fail
        go_quiet (fail)
        go_wp2_with fail
        go_roundw
        case rel => exact ⟨k + 1, by omega, by go_num, fun h => (HSS.out.1 h).elim HS.out (fun h' => HX.out h'.symm), _, rfl⟩
        case measure => simp [intOf]; omega
    · have hk' : k = es.length := by omega
      have hno : ¬ (⟨s, g, m, b, p, r⟩ : Ent).ref ∈ es.map Ent.ref := by
        have h1 := HS.out
        unfold seen at h1
        rw [hk', List.take_length] at h1
        exact h1
      have HN := Lib.hid hno
      clear hno hk'
      have hnd' : (Value.slice a es.length cap).ownBlock ≠ some L := by
        simp only [List.nodup_cons, Option.mem_toList] at hnd
        exact hnd.1
      go_wp2_with fail
      have hMa : Mod (fun k => k ∈ L :: (Value.slice a es.length cap).ownBlock.toList) w (w1.drewN nn) := (hm0.drewN nn).weaken (fun _ _ h => h.elim)
      have hLa : (w1.drewN nn).heap[L]? = some (.cells #[.slice a es.length cap] 28 (0, 0)) := hL1
      have hva : (w1.drewN nn).ownsRow 0 34 6 (.slice a es.length cap) es.length (flat es) := hv1
      have hboxa : (w1.drewN nn).heap[eb]? = some (.cells #[.int .i64 s, .int .u32 g, .bool m, .int .u64 b, .int .u64 p, .int .u64 r] 34 (0, 0)) := hbox
      clear hL1 hv1 hbox c0 e0 e1 e2 e3 e4 e5 f0 hm0
      generalize w1.drewN nn = wb at hMa hLa hva hboxa ⊢
      have c0 := cell_of hLa (i := 0) rfl
      have f0 : wb.frozen? ⟨L, 0, none⟩ = false := free_of hLa
      have e0 := cell_of hboxa (i := 0) rfl
      have e1 := cell_of hboxa (i := 1) rfl
      have e2 := cell_of hboxa (i := 2) rfl
      have e3 := cell_of hboxa (i := 3) rfl
      have e4 := cell_of hboxa (i := 4) rfl
      have e5 := cell_of hboxa (i := 5) rfl
      have hLlt := lt_of_block hLa
      have hBlt := lt_of_block hboxa
      go_region_law (
        refine step_append_lies _ rfl _ _ 26 rfl 0 34 i0 _ 6 40 Try.underlying26 hi0 hz0 hz1 hz2 rfl (by decide) (.slice a es.length cap) es.length (flat es) rfl (by exact hva.alloc _) ⟨wb.heap.size, 0, none⟩ 1 1 (Ent.cells ⟨s, g, m, b, p, r⟩) rfl rfl (by exact World.news_of_block (heap_alloc_at _ _)) (one_cells _) (by decide) (by unfold maxLen; omega) (by omega) (Nat.zero_le _) _ rfl ?_
        intro g' cp w4 hown4 hg4 hat4 hlt4
        have hL4 : w4.heap[L]? = some (.cells #[.slice a es.length cap] 28 (0, 0)) := (hg4.block L (by simp; omega) (fun e => hnd' e.symm)).trans (heap_alloc_keep hLa _)
        have c4 := cell_of hL4 (i := 0) rfl
        have f4 : w4.frozen? ⟨L, 0, none⟩ = false := free_of hL4)
      go_wp2_with fail
      all_goals
        go_ret
        have hm4 : Mod (fun k => k ∈ L :: (Value.slice a es.length cap).ownBlock.toList) w w4 := (hMa.alloc _).drew.grown hg4 (fun k hk _ => by simp [hk])
        have hgne : g' ≠ L := by
          rcases hat4 with h | h
          · exact fun e => hnd' (by rw [h, e])
          · simp at h; omega
        have hfl : flat es ++ Ent.cells ⟨s, g, m, b, p, r⟩ = flat (es ++ [⟨s, g, m, b, p, r⟩]) := flat_snoc es ⟨s, g, m, b, p, r⟩
        rw [hfl] at hown4
        refine ⟨?_, [L, g'], ?_, ?_, ?_⟩
        · unfold addCode; rw [if_pos HE.out, if_neg HN.out]; rfl
        · unfold addL
          rw [if_pos HE.out, if_neg HN.out]
          refine ⟨_, heap_setCell_same hL4 _, ?_, rfl, by simp [Ne.symm hgne]⟩
          rw [show (es ++ [(⟨s, g, m, b, p, r⟩ : Ent)]).length = es.length + 1 from by simp]
          exact ownsRow_setCell_other hown4 (by simp [Value.ownBlock]; exact hgne) _
        · exact hm4.setCell (fun _ => by simp) _
        · intro k hk
          simp only [List.mem_cons, List.not_mem_nil, or_false] at hk
          rcases hk with rfl | rfl
          · simp
          · rcases hat4 with h | h
            · left; simp [h]
            · right; have := hMa.size; simp at h; omega
theorem radd_any (w : World) (L : Nat) (es : List Ent) (e : Ent) (fp : List Nat) (h : RefAt w L es fp) (hn : es.length ≤ 1000) :
    Calls Try.prog 12 #[.pointer (some ⟨L, 0, none⟩), e.val] w (RAddPost w L es e fp) := by
  cases he : e.may with
  | false => exact radd_arg w L es e fp h he
  | true => exact radd_some w L es e fp h he hn
end Go.Proofs.Ytcemcphkgehbhaa
