/- A list that a call makes and works on; the chapter's example. -/
import Derived.Test.YtcemcphkgehbhaaI
namespace Go.Proofs.Ytcemcphkgehbhaa
open Go.RowKit

/-- A list that was made since the world w0, of whose blocks nothing has changed. -/
structure St (w0 w : World) (L : Nat) (es : List Ent) (N : Nat) (fp : List Nat) : Prop where
  ret : RetAt w L es N fp
  mod : Mod (fun _ => False) w0 w
  new : ∀ b ∈ fp, w0.heap.size ≤ b

theorem St.turn {w0 w w' : World} {L : Nat} {es es' : List Ent} {N N' : Nat} {fp fp' : List Nat} (h : St w0 w L es N fp) (hr : RetAt w' L es' N' fp') (ht : Turn fp fp' w w') : St w0 w' L es' N' fp' :=
  ⟨hr, h.mod.trans ht.mod (fun i hi hm => absurd (h.new i hm) (by omega)), fun b hb => by
    rcases ht.fresh b hb with h' | h'
    · exact h.new b h'
    · have := h.mod.size; omega⟩
theorem St.mods {w0 w w' : World} {S : Nat → Prop} {L : Nat} {es : List Ent} {N : Nat} {fp : List Nat} (h : St w0 w L es N fp) (hm : Mod S w w') (hs : ∀ b ∈ fp, ¬ S b) (hn : ∀ b, S b → w0.heap.size ≤ b) : St w0 w' L es N fp :=
  ⟨h.ret.keep hm hs, h.mod.trans hm (fun i hi hm => absurd (hn i hm) (by omega)), h.new⟩
theorem St.below {w0 w w' : World} {L : Nat} {es : List Ent} {N : Nat} {fp : List Nat} (h : St w0 w L es N fp) (hb : Below w.heap.size w w') : St w0 w' L es N fp :=
  h.mods (Mod.ofBelow hb (fun _ => False)) (fun _ _ h => h) (fun _ h => h.elim)
theorem St.alloc {w0 w : World} {L : Nat} {es : List Ent} {N : Nat} {fp : List Nat} (h : St w0 w L es N fp) (o : Obj) : St w0 (w.alloc o) L es N fp :=
  h.below ((Below.refl _ _).alloc (Nat.le_refl _) o)
theorem St.drewN {w0 w : World} {L : Nat} {es : List Ent} {N : Nat} {fp : List Nat} (h : St w0 w L es N fp) (n : Nat) : St w0 (w.drewN n) L es N fp :=
  h.below (below_drewN (Below.refl _ _) n)

theorem st_new (w0 w : World) (hm : Mod (fun _ => False) w0 w) : Calls Try.prog 6 #[] w fun e w' => e = .returned (.pointer (some ⟨w.heap.size, 0, none⟩)) ∧ St w0 w' w.heap.size [] 0 [w.heap.size] :=
  (new_any w).mono fun _ _ ⟨h, h'⟩ => ⟨h, by subst h'; exact ⟨new_ret w, hm.alloc _, by simp; exact hm.size⟩⟩

def StPost (w0 w : World) (fp : List Nat) (L : Nat) (es : List Ent) (N : Nat) (c : Int) (e : Ending) (w' : World) : Prop := e = .returned (.int .i64 c) ∧ ∃ fp', St w0 w' L es N fp' ∧ Turn fp fp' w w'

theorem st_add {w0 w : World} {L : Nat} {es : List Ent} {N : Nat} {fp : List Nat} (h : St w0 w L es N fp) (e : Ent) (hw : e.wf) (hn : es.length ≤ 1000) (hN : N ≤ 100000) :
    Calls Try.prog 11 #[.pointer (some ⟨L, 0, none⟩), e.val] w (StPost w0 w fp L (addL es e) (N + 1) (addCode es e)) :=
  (add_any w L es e N fp h.ret hw hn hN).mono fun _ _ ⟨h1, fp', h2, h3⟩ => ⟨h1, fp', h.turn h2 h3, h3⟩

def StSweep (w0 w : World) (fp : List Nat) (L : Nat) (es outs : List Ent) (N : Nat) (e : Ending) (w' : World) : Prop :=
  ∃ v' fp', e = .returned v' ∧ Cut w' w.heap.size v' outs ∧ St w0 w' L es N fp' ∧ Turn fp fp' w w' ∧ ∀ b, v'.ownBlock = some b → b ∉ fp'

theorem st_sweep {w0 w : World} {L : Nat} {es : List Ent} {N : Nat} {fp : List Nat} (h : St w0 w L es N fp) (gv : Value) (gone : List Bool) (hgv : Bools w gv gone) (hgb : gone ≠ [] → ∀ b, Value.blk gv = some b → b ∉ fp) (hn : es.length ≤ 1000) (hgn : gone.length ≤ 1000) :
    Calls Try.prog 7 #[.pointer (some ⟨L, 0, none⟩), gv] w (StSweep w0 w fp L (leftK es gone es.length) (outK es gone es.length) N) :=
  (sweep_any w L es N fp gv gone h.ret hgv hgb hn hgn).mono fun _ _ ⟨v', fp', h1, h2, h3, h4, h5⟩ => ⟨v', fp', h1, h2, h.turn h3 h4, h4, h5⟩

theorem same_true (v v' : Value) (es : List Ent) (w : World) (hn : es.length ≤ 1000) (c0 : Ents w v es) (c1 : Ents w v' es) :
    Calls Try.prog 8 #[v, v'] w fun e w' => e = .returned (.bool true) ∧ ∃ n, w' = w.drewN n :=
  (same_any v v' es es w hn hn c0 c1).mono fun _ _ ⟨h, h'⟩ => ⟨by rw [h]; simp, h'⟩

theorem Ents.keep {S : Nat → Prop} {w w' : World} {v : Value} {es : List Ent} (h : Ents w v es) (hm : Mod S w w') (hs : ∀ b, Value.blk v = some b → ¬ S b) : Ents w' v es := by
  obtain ⟨a, cap, rfl, h⟩ := h
  refine ⟨a, cap, rfl, ?_⟩
  rcases h with h | ⟨b, off, rfl, h⟩
  · exact .inl h
  · exact .inr ⟨b, off, rfl, fun k hk => (h k hk).keep hm (hs b rfl)⟩

theorem Cut.base {w : World} {base : Nat} {v : Value} {es : List Ent} (h : Cut w base v es) : Cut w 0 v es := by
  rcases h with h | ⟨g, cur, a1, a2, a3, a4⟩
  · exact .inl h
  · exact .inr ⟨g, cur, a1, Nat.zero_le _, a3, a4⟩

theorem ents_block {w : World} {b : Nat} (es : List Ent) (cap : Nat) (h : w.heap[b]? = some (.cells (flat es).toArray 34 (0, 0))) : Ents w (.slice (some ⟨b, 0, none⟩) es.length cap) es :=
  ⟨_, cap, rfl, .inr ⟨b, 0, rfl, fun k hk => entAt_of h (by simp [← length_flat]) hk⟩⟩

def ofE (s : Int) : Ent := ⟨s, 4, false, 0, 0, 0⟩
theorem ofE_wf1 : (ofE 1).wf := ⟨by decide, by decide, by decide, by decide, by decide⟩
theorem ofE_wf2 : (ofE 2).wf := ⟨by decide, by decide, by decide, by decide, by decide⟩
theorem ofE_wf3 : (ofE 3).wf := ⟨by decide, by decide, by decide, by decide, by decide⟩
def otherE : Ent := ⟨2, 5, false, 0, 0, 0⟩
theorem otherE_wf : otherE.wf := ⟨by decide, by decide, by decide, by decide, by decide⟩

theorem of_below (s : Int) (w : World) : Calls Try.prog 17 #[.int .i64 s] w fun e w' => e = .returned (.agg #[.int .i64 s, .int .u32 4, .bool false, .int .u64 0, .int .u64 0, .int .u64 0]) ∧ Below w.heap.size w w' :=
  (of_any s w).mono fun _ _ ⟨h, h'⟩ => ⟨h, by rw [h']; exact (Below.refl _ _).alloc (Nat.le_refl _) _⟩

set_option maxHeartbeats 1000000 in
theorem lives_any (w : World) : Calls Try.prog 5 #[] w fun e w' => e = .returned (.bool true) ∧ Below w.heap.size w w' := by
  go_enter Try.func5, Try.ntmps5
  go_wp2_with fail
  refine (st_new w w (Mod.refl _ _)).mono ?_
  rintro _ w1 ⟨rfl, h1⟩
  obtain ⟨L, hL⟩ : ∃ L, L = w.heap.size := ⟨_, rfl⟩
  rw [← hL] at h1 ⊢
  clear hL
  generalize [L] = fp at h1
  go_wp2_with fail
  refine (of_below 1 _).mono ?_
  rintro _ w2 ⟨rfl, hb⟩
  replace h1 := h1.below hb
  clear hb
  go_wp2_with fail
  refine (st_add h1 (ofE 1) ofE_wf1 (by decide) (by decide)).mono ?_
  rintro _ w3 ⟨rfl, fp3, h3, -⟩
  replace h3 : St w w3 L [ofE 1] 1 fp3 := h3
  clear h1
  go_wp2_with fail
  refine (of_below 2 _).mono ?_
  rintro _ w4 ⟨rfl, hb⟩
  replace h3 := h3.below hb
  clear hb
  go_wp2_with fail
  refine (st_add h3 (ofE 2) ofE_wf2 (by decide) (by decide)).mono ?_
  rintro _ w5 ⟨rfl, fp5, h5, -⟩
  replace h5 : St w w5 L [ofE 1, ofE 2] 2 fp5 := h5
  clear h3
  go_wp2_with fail
  refine (of_below 3 _).mono ?_
  rintro _ w6 ⟨rfl, hb⟩
  replace h5 := h5.below hb
  clear hb
  go_wp2_with fail
  refine (st_add h5 (ofE 3) ofE_wf3 (by decide) (by decide)).mono ?_
  rintro _ w7 ⟨rfl, fp7, h7, -⟩
  replace h7 : St w w7 L [ofE 1, ofE 2, ofE 3] 3 fp7 := h7
  clear h5
  go_wp2_with fail
  have hbl : Bools (w7.alloc (.cells #[.bool true, .bool false, .bool true, .bool true] 4)) (.slice (some ⟨w7.heap.size, 0, none⟩) 4 4) [true, false, true, true] :=
    ⟨_, 4, rfl, .inr ⟨_, 0, rfl, fun k hk => by
      have h := heap_alloc_at w7 (.cells #[.bool true, .bool false, .bool true, .bool true] 4)
      refine cell_of h ?_
      match k, hk with
      | 0, _ => rfl
      | 1, _ => rfl
      | 2, _ => rfl
      | 3, _ => rfl⟩⟩
  have hnf : ([true, false, true, true] : List Bool) ≠ [] → ∀ b, Value.blk (.slice (some ⟨w7.heap.size, 0, none⟩) 4 4) = some b → b ∉ fp7 := fun _ b hb hm => by
    cases hb
    exact absurd (h7.ret.ltfp _ hm) (by simp)
  refine (st_sweep (h7.alloc _) _ _ hbl hnf (by decide) (by decide)).mono ?_
  rintro _ w8 ⟨v8, fp8, rfl, hcut, h8, -, hnv⟩
  replace h8 : St w w8 L [ofE 2] 3 fp8 := h8
  replace hcut : Cut w8 0 v8 [ofE 1, ofE 3] := hcut.base
  replace hcut := hcut.ents
  clear h7 hbl hnf hnv
  go_wp2_with fail
  have hbox := heap_alloc_at w8 (.cells #[.int .i64 2, .int .u32 5, .bool false, .int .u64 0, .int .u64 0, .int .u64 0] 34)
  have hebn : w8.heap.size ∉ fp8 := fun h => absurd (h8.ret.ltfp _ h) (by simp)
  have hB : Below w8.heap.size w8 (w8.alloc (.cells #[.int .i64 2, .int .u32 5, .bool false, .int .u64 0, .int .u64 0, .int .u64 0] 34)) := (Below.refl _ _).alloc (Nat.le_refl _) _
  replace h8 := h8.below hB
  replace hcut := hcut.keep (Mod.ofBelow hB (fun _ => False)) (fun _ _ h => h)
  clear hB
  generalize w8.alloc (.cells #[.int .i64 2, .int .u32 5, .bool false, .int .u64 0, .int .u64 0, .int .u64 0] 34) = w9 at *
  generalize w8.heap.size = eb at *
  refine (of_below 1 _).mono ?_
  rintro _ w10 ⟨rfl, hb⟩
  replace h8 := h8.below hb
  replace hcut := hcut.keep (Mod.ofBelow hb (fun _ => False)) (fun _ _ h => h)
  replace hbox := (Mod.ofBelow hb (fun _ => False)).keep hbox (fun h => h)
  clear hb
  go_wp2_with fail
  refine (of_below 3 _).mono ?_
  rintro _ w11 ⟨rfl, hb⟩
  replace h8 := h8.below hb
  replace hcut := hcut.keep (Mod.ofBelow hb (fun _ => False)) (fun _ _ h => h)
  replace hbox := (Mod.ofBelow hb (fun _ => False)).keep hbox (fun h => h)
  clear hb
  go_wp2_with fail
  have hnew : Ents (w11.alloc (.cells #[.int .i64 1, .int .u32 4, .bool false, .int .u64 0, .int .u64 0, .int .u64 0, .int .i64 3, .int .u32 4, .bool false, .int .u64 0, .int .u64 0, .int .u64 0] 34)) (.slice (some ⟨w11.heap.size, 0, none⟩) 2 2) [ofE 1, ofE 3] :=
    ents_block [ofE 1, ofE 3] 2 (heap_alloc_at _ _)
  have hB : Below w11.heap.size w11 (w11.alloc (.cells #[.int .i64 1, .int .u32 4, .bool false, .int .u64 0, .int .u64 0, .int .u64 0, .int .i64 3, .int .u32 4, .bool false, .int .u64 0, .int .u64 0, .int .u64 0] 34)) := (Below.refl _ _).alloc (Nat.le_refl _) _
  refine (same_true _ _ [ofE 1, ofE 3] _ (by decide) (hcut.keep (Mod.ofBelow hB (fun _ => False)) (fun _ _ h => h)) hnew).mono ?_
  rintro _ w12 ⟨rfl, n12, hw12⟩
  replace hB : Below w11.heap.size w11 w12 := by rw [hw12]; exact below_drewN hB n12
  replace h8 := h8.below hB
  replace hbox := (Mod.ofBelow hB (fun _ => False)).keep hbox (fun h => h)
  clear hw12 hnew hB hcut
  go_wp2_with fail
  refine (all_any _ L _ 3 fp8 h8.ret (by decide)).mono ?_
  rintro _ w13 ⟨v13, rfl, hc13, hb⟩
  replace h8 := h8.below hb
  replace hbox := (Mod.ofBelow hb (fun _ => False)).keep hbox (fun h => h)
  have hcut := hc13.base.ents
  clear hc13 hb
  go_wp2_with fail
  refine (of_below 2 _).mono ?_
  rintro _ w14 ⟨rfl, hb⟩
  replace h8 := h8.below hb
  replace hcut := hcut.keep (Mod.ofBelow hb (fun _ => False)) (fun _ _ h => h)
  replace hbox := (Mod.ofBelow hb (fun _ => False)).keep hbox (fun h => h)
  clear hb
  go_wp2_with fail
  have hnew : Ents (w14.alloc (.cells #[.int .i64 2, .int .u32 4, .bool false, .int .u64 0, .int .u64 0, .int .u64 0] 34)) (.slice (some ⟨w14.heap.size, 0, none⟩) 1 1) [ofE 2] :=
    ents_block [ofE 2] 1 (heap_alloc_at _ _)
  have hB : Below w14.heap.size w14 (w14.alloc (.cells #[.int .i64 2, .int .u32 4, .bool false, .int .u64 0, .int .u64 0, .int .u64 0] 34)) := (Below.refl _ _).alloc (Nat.le_refl _) _
  refine (same_true _ _ [ofE 2] _ (by decide) (hcut.keep (Mod.ofBelow hB (fun _ => False)) (fun _ _ h => h)) hnew).mono ?_
  rintro _ w15 ⟨rfl, n15, hw15⟩
  replace hB : Below w14.heap.size w14 w15 := by rw [hw15]; exact below_drewN hB n15
  replace h8 := h8.below hB
  replace hbox := (Mod.ofBelow hB (fun _ => False)).keep hbox (fun h => h)
  clear hw15 hnew hB hcut
  go_wp2_with fail
  refine (of_below 2 _).mono ?_
  rintro _ w16 ⟨rfl, hb⟩
  replace h8 := h8.below hb
  replace hbox := (Mod.ofBelow hb (fun _ => False)).keep hbox (fun h => h)
  clear hb
  go_wp2_with fail
  refine (st_add h8 (ofE 2) ofE_wf2 (by decide) (by decide)).mono ?_
  rintro _ w17 ⟨rfl, fp17, h17, ht17⟩
  rw [show addCode [ofE 2] (ofE 2) = 8 from by decide]
  replace h17 : St w w17 L [ofE 2] 4 fp17 := h17
  replace hbox := ht17.mod.keep hbox hebn
  clear ht17 h8 hebn
  have e0 := cell_of hbox (i := 0) rfl
  have e1 := cell_of hbox (i := 1) rfl
  have e2 := cell_of hbox (i := 2) rfl
  have e3 := cell_of hbox (i := 3) rfl
  have e4 := cell_of hbox (i := 4) rfl
  have e5 := cell_of hbox (i := 5) rfl
  go_wp2_with fail
  refine (st_add h17 otherE otherE_wf (by decide) (by decide)).mono ?_
  rintro _ w18 ⟨rfl, fp18, h18, -⟩
  rw [show addCode [ofE 2] otherE = 0 from by decide]
  go_wp2_with fail
  go_ret
  exact ⟨rfl, h18.mod.below (fun _ _ h => h)⟩
end Go.Proofs.Ytcemcphkgehbhaa
