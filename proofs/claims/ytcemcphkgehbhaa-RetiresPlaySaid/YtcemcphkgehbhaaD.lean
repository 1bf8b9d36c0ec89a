/- A list of what was retired, in memory; what is added. -/
import Derived.Test.YtcemcphkgehbhaaC
import Derived.Deep.AppendLies
import Derived.Deep.RegionLaw
import Derived.StillTailTactics
import Derived.Maps.RangeWalk
namespace Go.Proofs.Ytcemcphkgehbhaa
open Go.RowKit

theorem Mod.ownsMap {S : Nat → Prop} {w w' : World} (h : Mod S w w') {b n : Nat} {D : DataW Unit} (ho : w.ownsMap Try.prog 31 (plainElem Try.prog 3) b n D) (hn : ¬ S b) : w'.ownsMap Try.prog 31 (plainElem Try.prog 3) b n D := by
  have hlt := ho.lt
  obtain ⟨es, clock, hb, F, hs, hD⟩ := ho
  exact ⟨es, clock, h.keep hb hn, F, hs, hD⟩

def i64 (n : Int) : DataW Unit := .lit (.int .i64 n)
def mapBlk : Value → List Nat
  | .map (some b) => [b]
  | _ => []

/-- The map of a list's refs. -/
def HadAt (w : World) (m : Value) (es : List Ent) (N : Nat) : Prop :=
  (m = .map none ∧ es = []) ∨ ∃ mb D, m = .map (some mb) ∧ w.ownsMap Try.prog 31 (plainElem Try.prog 3) mb N D ∧ ∀ r, RefWf r → D.atKey (keyL r) (i64 0) = i64 (if r ∈ es.map Ent.ref then 1 else 0)

structure Good (es : List Ent) : Prop where
  wf : ∀ e ∈ es, e.wf
  may : ∀ e ∈ es, e.may = true
  nodup : (es.map Ent.ref).Nodup

/-- Block L is a list of these entries; fp: the blocks that it lies in. -/
def RetAt (w : World) (L : Nat) (es : List Ent) (N : Nat) (fp : List Nat) : Prop :=
  ∃ v m, w.heap[L]? = some (.cells #[v, m] 51 (0, 0)) ∧ w.ownsRow 0 34 6 v es.length (flat es) ∧ HadAt w m es N ∧ fp = L :: (v.ownBlock.toList ++ mapBlk m) ∧ fp.Nodup ∧ Good es

/-- What a call on a structure does to memory: its own blocks may change, and new ones come. -/
structure Turn (fp fp' : List Nat) (w w' : World) : Prop where
  mod : Mod (· ∈ fp) w w'
  fresh : ∀ b ∈ fp', b ∈ fp ∨ w.heap.size ≤ b

theorem RetAt.keep {w w' : World} {S : Nat → Prop} {L : Nat} {es : List Ent} {N : Nat} {fp : List Nat} (h : RetAt w L es N fp) (hm : Mod S w w') (hs : ∀ b ∈ fp, ¬ S b) : RetAt w' L es N fp := by
  obtain ⟨v, m, hL, hv, hh, rfl, hnd, hg⟩ := h
  refine ⟨v, m, hm.keep hL (hs L (by simp)), hm.ownsRow hv (fun k hk => hs k (by simp [hk])), ?_, rfl, hnd, hg⟩
  rcases hh with h | ⟨mb, D, rfl, ho, hD⟩
  · exact .inl h
  · exact .inr ⟨mb, D, rfl, hm.ownsMap ho (hs mb (by simp [mapBlk])), hD⟩

def addCode (es : List Ent) (e : Ent) : Int := if e.may = true then (if e.ref ∈ es.map Ent.ref then 8 else 0) else 1
def addL (es : List Ent) (e : Ent) : List Ent := if e.may = true then (if e.ref ∈ es.map Ent.ref then es else es ++ [e]) else es

theorem may_below (e : Ent) (w : World) : Calls Try.prog 19 #[e.val] w fun r w' => r = .returned (.bool e.may) ∧ Below w.heap.size w w' :=
  (may_any e w).mono fun _ _ ⟨h, h'⟩ => ⟨h, by rw [h']; exact (Below.refl _ _).alloc (Nat.le_refl _) _⟩

def AddPost (w : World) (L : Nat) (es : List Ent) (e : Ent) (N : Nat) (fp : List Nat) (r : Ending) (w' : World) : Prop :=
  r = .returned (.int .i64 (addCode es e)) ∧ ∃ fp', RetAt w' L (addL es e) (N + 1) fp' ∧ Turn fp fp' w w'

theorem RetAt.mono {w : World} {L : Nat} {es : List Ent} {N : Nat} {fp : List Nat} (h : RetAt w L es N fp) {M : Nat} (hM : N ≤ M) : RetAt w L es M fp := by
  obtain ⟨v, m, hL, hv, hh, rest⟩ := h
  refine ⟨v, m, hL, hv, ?_, rest⟩
  rcases hh with h | ⟨mb, D, rfl, ho, hD⟩
  · exact .inl h
  · exact .inr ⟨mb, D, rfl, ho.mono hM, hD⟩

theorem RetAt.ltfp {w : World} {L : Nat} {es : List Ent} {N : Nat} {fp : List Nat} (h : RetAt w L es N fp) : ∀ b ∈ fp, b < w.heap.size := by
  obtain ⟨v, m, hL, hv, hh, rfl, hnd, hg⟩ := h
  intro b hb
  simp only [List.mem_cons, List.mem_append, Option.mem_toList] at hb
  rcases hb with rfl | hb | hb
  · exact lt_of_block hL
  · exact (hv.lt b hb).2
  · rcases hh with ⟨rfl, _⟩ | ⟨mb, D, rfl, ho, _⟩
    · simp [mapBlk] at hb
    · simp only [mapBlk, List.mem_singleton] at hb
      subst hb
      exact ho.lt

set_option maxHeartbeats 400000 in
theorem add_arg (w : World) (L : Nat) (es : List Ent) (e : Ent) (N : Nat) (fp : List Nat) (h : RetAt w L es N fp) (he : e.may = false) :
    Calls Try.prog 11 #[.pointer (some ⟨L, 0, none⟩), e.val] w (AddPost w L es e N fp) := by
  have hq : AddPost w L es e N fp = fun r w' => r = .returned (.int .i64 1) ∧ ∃ fp', RetAt w' L es (N + 1) fp' ∧ Turn fp fp' w w' := by
    unfold AddPost addCode addL; simp [he]
  rw [hq]
  have HE := Lib.hid he
  clear he hq
  obtain ⟨s, g, m, b, p, r⟩ := e
  simp only [Ent.val]
  go_enter Try.func11, Try.ntmps11
  go_wp2_with fail
  refine (may_below ⟨s, g, m, b, p, r⟩ _).mono ?_
  rintro _ w1 ⟨rfl, hb⟩
  rw [HE.out]
  go_wp2_with fail
  go_ret
  have hm : Mod (· ∈ fp) w w1 := Mod.trans (Mod.alloc (Mod.refl _ w) _) (Mod.ofBelow hb (fun _ => False)) (fun _ _ h => h.elim)
  have hm0 : Mod (fun _ => False) w w1 := Mod.trans (Mod.alloc (Mod.refl _ w) _) (Mod.ofBelow hb (fun _ => False)) (fun _ _ h => h.elim)
  exact ⟨rfl, fp, (h.keep hm0 (fun _ _ h => h)).mono (Nat.le_succ _), hm, fun _ h => .inl h⟩

theorem zero3 (w : World) : (zeroValue 3).run Try.prog w = .ok (.int .i64 0) w := by kernel_rfl
theorem Ent.refWf {e : Ent} (h : e.wf) : RefWf e.ref := ⟨h.1, h.2.1⟩

/-- What a list's map answers of a ref. -/
theorem look_had {w : World} {m : Value} {es : List Ent} {N : Nat} (h : HadAt w m es N) (r : Ref) (hr : RefWf r) :
    (Instr.lookup 49 m (refVal r) false).run Try.prog w = .ok (.int .i64 (if r ∈ es.map Ent.ref then 1 else 0)) w := by
  rcases h with ⟨rfl, rfl⟩ | ⟨mb, D, rfl, ho, hD⟩
  · have := Maps.look_nil (w := w) false law31 Try.underlying49 (zero3 _) (keyL_some r hr)
    simpa using this
  · obtain ⟨c, hrun, hat, _⟩ := ho.lookup_int law31 Try.underlying49 Try.underlying3 (zero3 _) (keyL_some r hr)
    have h1 := hD r hr
    rw [show (i64 0 : DataW Unit) = .lit (.int .i64 0) from rfl, hat] at h1
    rw [hrun]
    simp only [i64, DataW.lit.injEq, Lit.int.injEq, true_and] at h1
    rw [h1]

theorem HadAt.keep {w w' : World} {S : Nat → Prop} {m : Value} {es : List Ent} {N : Nat} (h : HadAt w m es N) (hm : Mod S w w') (hs : ∀ b ∈ mapBlk m, ¬ S b) : HadAt w' m es N := by
  rcases h with h | ⟨mb, D, rfl, ho, hD⟩
  · exact .inl h
  · exact .inr ⟨mb, D, rfl, hm.ownsMap ho (hs mb (by simp [mapBlk])), hD⟩

theorem bcell {W w1 : World} (hb : Below W.heap.size W w1) : (∀ b o, b < W.heap.size → w1.cell? ⟨b, o, none⟩ = W.cell? ⟨b, o, none⟩) ∧ (∀ b o, b < W.heap.size → w1.frozen? ⟨b, o, none⟩ = W.frozen? ⟨b, o, none⟩) :=
  ⟨fun b o h => hb.cell (p := ⟨b, o, none⟩) h, fun b o h => hb.frozen (p := ⟨b, o, none⟩) h⟩

set_option maxHeartbeats 400000 in
theorem add_same (w : World) (L : Nat) (es : List Ent) (e : Ent) (N : Nat) (fp : List Nat) (h : RetAt w L es N fp) (he : e.may = true) (hw : e.wf) (hs : e.ref ∈ es.map Ent.ref) :
    Calls Try.prog 11 #[.pointer (some ⟨L, 0, none⟩), e.val] w (AddPost w L es e N fp) := by
  have hq : AddPost w L es e N fp = fun r w' => r = .returned (.int .i64 8) ∧ ∃ fp', RetAt w' L es (N + 1) fp' ∧ Turn fp fp' w w' := by
    unfold AddPost addCode addL; simp [he, hs]
  rw [hq]
  have HE := Lib.hid he
  have HS := Lib.hid hs
  clear he hq hs
  have h0 := h
  obtain ⟨v, mv, hL, hv, hh, rfl, hnd, hg⟩ := h
  have hr := Ent.refWf hw
  obtain ⟨s, g, m, b, p, r⟩ := e
  simp only [Ent.val]
  have hlt := lt_of_block hL
  have c0 := cell_of hL (i := 0) rfl
  have c1 := cell_of hL (i := 1) rfl
  go_enter Try.func11, Try.ntmps11
  go_wp2_with fail
  refine (may_below ⟨s, g, m, b, p, r⟩ _).mono ?_
  rintro _ w1 ⟨rfl, hb⟩
  rw [HE.out]
  have hm0 : Mod (fun _ => False) w w1 := Mod.trans (Mod.alloc (Mod.refl _ w) _) (Mod.ofBelow hb (fun _ => False)) (fun _ _ h => h.elim)
  obtain ⟨hc, hf⟩ := bcell hb
  have hk' : ∀ n, (Instr.lookup 49 mv (.agg #[.int .i64 s, .int .u32 g, .bool m]) false).run Try.prog (w1.drewN n) = .ok (.int .i64 1) (w1.drewN n) := by
    intro n
    have := look_had (w := w1.drewN n) (hh.keep (hm0.drewN n) (fun _ _ h => h)) _ hr
    rw [if_pos HS.out] at this
    exact this
  go_wp2_with fail
  go_quiet (fail)
  go_wp2_with fail
  go_ret
  refine ⟨rfl, _, (h0.keep (hm0.drewN _) (fun _ _ h => h)).mono (Nat.le_succ _), ?_, fun _ h => .inl h⟩
  exact (hm0.drewN _).weaken (fun _ _ h => h.elim)

/-- The refs of a list with one more. -/
theorem had_put {es : List Ent} {e : Ent} {D : DataW Unit} (hm : Maps.IsMap D) (hw : e.wf) (hD : ∀ r, RefWf r → D.atKey (keyL r) (i64 0) = i64 (if r ∈ es.map Ent.ref then 1 else 0)) :
    ∀ r, RefWf r → (D.put (keyL e.ref) (i64 1)).atKey (keyL r) (i64 0) = i64 (if r ∈ (es ++ [e]).map Ent.ref then 1 else 0) := by
  intro r hr
  have he := Ent.refWf hw
  by_cases h : r = e.ref
  · subst h
    rw [Maps.atKey_put_same hm (law31.key (keyL_some _ he))]
    simp
  · rw [Maps.atKey_put_other (fun h' => h (keyL_inj hr he h')), hD r hr]
    simp [h]

theorem good_snoc {es : List Ent} {e : Ent} (hg : Good es) (hw : e.wf) (hm : e.may = true) (hn : ¬ e.ref ∈ es.map Ent.ref) : Good (es ++ [e]) := by
  refine ⟨fun x hx => ?_, fun x hx => ?_, ?_⟩
  · rcases List.mem_append.1 hx with h | h
    · exact hg.wf x h
    · simp only [List.mem_singleton] at h; subst h; exact hw
  · rcases List.mem_append.1 hx with h | h
    · exact hg.may x h
    · simp only [List.mem_singleton] at h; subst h; exact hm
  · rw [List.map_append, List.nodup_append]
    refine ⟨hg.nodup, by simp, fun a ha b hb => ?_⟩
    simp only [List.map_cons, List.map_nil, List.mem_singleton] at hb
    subst hb
    exact fun h => hn (h ▸ ha)

theorem flat_snoc (es : List Ent) (e : Ent) : flat es ++ e.cells = flat (es ++ [e]) := by simp [flat]

set_option maxHeartbeats 400000 in
theorem add_new (w : World) (L : Nat) (es : List Ent) (e : Ent) (N : Nat) (fp : List Nat) (h : RetAt w L es N fp) (he : e.may = true) (hw : e.wf) (hs : ¬ e.ref ∈ es.map Ent.ref) (hn : es.length ≤ 1000) (hN : N ≤ 100000) :
    Calls Try.prog 11 #[.pointer (some ⟨L, 0, none⟩), e.val] w (AddPost w L es e N fp) := by
  have hq : AddPost w L es e N fp = fun r w' => r = .returned (.int .i64 0) ∧ ∃ fp', RetAt w' L (es ++ [e]) (N + 1) fp' ∧ Turn fp fp' w w' := by
    unfold AddPost addCode addL; simp [he, hs]
  rw [hq]
  have HG : Hid (Good es → Good (es ++ [e])) := fun hg => good_snoc hg hw he hs
  have HE := Lib.hid he
  have HS := Lib.hid hs
  have HW := Lib.hid hw
  have hr := Ent.refWf hw
  clear he hq hs hw
  obtain ⟨v, mv0, hL, hv, hh, rfl, hnd, hg⟩ := h
  have HG' := Lib.hid (HG.out hg)
  clear HG hg
  have hlt := lt_of_block hL
  obtain ⟨i0, hi, hz0, hz1, hz2⟩ := info_parts info34
  obtain ⟨s, g, m, b, p, r⟩ := e
  simp only [Ent.val]
  rcases hh with ⟨rfl, hes'⟩ | ⟨mb, D, rfl, ho, hD⟩
  · have hh : HadAt w (.map none) es N := .inl ⟨rfl, hes'⟩
    have hes := Lib.hid hes'
    clear hes'
    have hnd2 : v.ownBlock ≠ some L := by
      simp only [mapBlk, List.append_nil, List.nodup_cons, Option.mem_toList] at hnd
      exact hnd.1
    have c0 := cell_of hL (i := 0) rfl
    have c1 := cell_of hL (i := 1) rfl
    have f1 : w.frozen? ⟨L, 1, none⟩ = false := free_of hL
    have hmk := @run_makeMap Try.prog
    go_enter Try.func11, Try.ntmps11
    go_wp2_with fail
    refine (may_below ⟨s, g, m, b, p, r⟩ _).mono ?_
    rintro _ w1 ⟨rfl, hb⟩
    rw [HE.out]
    have hm0 : Mod (fun _ => False) w w1 := Mod.trans (Mod.alloc (Mod.refl _ w) _) (Mod.ofBelow hb (fun _ => False)) (fun _ _ h => h.elim)
    obtain ⟨hc, hf⟩ := bcell hb
    have hk' : ∀ n, (Instr.lookup 49 (.map none) (.agg #[.int .i64 s, .int .u32 g, .bool m]) false).run Try.prog (w1.drewN n) = .ok (.int .i64 0) (w1.drewN n) := by
      intro n
      have := look_had (w := w1.drewN n) (hh.keep (hm0.drewN n) (fun _ _ h => h)) _ hr
      rw [if_neg HS.out] at this
      exact this
    go_wp2_with fail
    go_quiet (fail)
    have hne : ∀ w, (binOp .eql 49 (.map none) (.map none)).run Try.prog w = .ok (.bool true) w := fun w => nil49 w _
    have hm1 : Mod (fun _ => False) w (w1.drewN nq) := hm0.drewN nq
    have hbox : (w1.drewN nq).heap[w.heap.size]? = some (.cells #[.int .i64 s, .int .u32 g, .bool m, .int .u64 b, .int .u64 p, .int .u64 r] 34 (0, 0)) := by
      rw [show (w1.drewN nq).heap = w1.heap from rfl, hb.block _ (by simp)]
      exact heap_alloc_at _ _
    clear hb hc hf hk' hm0 c0 c1 f1
    generalize w1.drewN nq = w2 at *
    clear w1
    have hL2 := hm1.keep hL (fun h => h)
    have c0 := cell_of hL2 (i := 0) rfl
    have c1 := cell_of hL2 (i := 1) rfl
    have f1 : w2.frozen? ⟨L, 1, none⟩ = false := free_of hL2
    have hlt2 : L < w2.heap.size := lt_of_block hL2
    have hv2 := hm1.ownsRow hv (fun _ _ h => h)
    go_wp2_with fail
    obtain ⟨mb, hmb⟩ : ∃ mb, mb = w2.heap.size := ⟨_, rfl⟩
    obtain ⟨wa, hwa⟩ : ∃ wa, wa = (w2.setCell ⟨L, 1, none⟩ (.map (some w2.heap.size))).alloc (.map #[] 0) := ⟨_, rfl⟩
    rw [← hwa, ← hmb]
    have hmge : w.heap.size < mb := by rw [hmb]; exact lt_of_block hbox
    have hbm : ¬ w.heap.size = mb := by omega
    have hmf : mb < w.heap.size → mb ∈ L :: (v.ownBlock.toList ++ mapBlk (.map none)) := fun h => by omega
    have hvlt : ∀ k, v.ownBlock = some k → k < w.heap.size := fun k hk => (hv.lt k hk).2
    have hnd' : L ≠ mb ∧ v.ownBlock ≠ some mb ∧ v.ownBlock ≠ some L := ⟨by omega, fun h => by have := hvlt _ h; omega, hnd2⟩
    have hLa : wa.heap[L]? = some (.cells #[v, .map (some mb)] 51 (0, 0)) := by
      rw [hwa, hmb]; exact heap_alloc_keep (heap_setCell_same hL2 _) _
    have hboxa : wa.heap[w.heap.size]? = some (.cells #[.int .i64 s, .int .u32 g, .bool m, .int .u64 b, .int .u64 p, .int .u64 r] 34 (0, 0)) := by
      rw [hwa]; exact heap_alloc_keep (heap_setCell_other hbox (by simp; omega) _) _
    have hoa : wa.ownsMap Try.prog 31 (plainElem Try.prog 3) mb N (.map [] : DataW Unit) := by
      rw [hwa, hmb]
      have := World.ownsMap_made (H := Unit) (w2.setCell ⟨L, 1, none⟩ (.map (some w2.heap.size))) Try.prog 31 (plainElem Try.prog 3)
      rw [World.size_setCell] at this
      exact this.mono (Nat.zero_le _)
    have hva : wa.ownsRow 0 34 6 v es.length (flat es) := by
      rw [hwa]; exact (ownsRow_setCell_other hv2 (by simpa using hnd2) _).alloc _
    have hMa : Mod (fun k => k ∈ L :: (v.ownBlock.toList ++ mapBlk (.map none))) w wa := by
      rw [hwa]; exact ((hm1.weaken (fun _ _ h => h.elim)).setCell (fun _ => by simp) _).alloc _
    have HD : Hid (∀ r, RefWf r → (DataW.map [] : DataW Unit).atKey (keyL r) (i64 0) = i64 (if r ∈ es.map Ent.ref then 1 else 0)) := fun r _ => by rw [hes.out]; simp [DataW.atKey]
    clear hwa hmb hm1 hbox hL2 c0 c1 f1 hlt2 hv2 hvlt hmk hne
    clear w2
    have ho0 := hoa
    obtain ⟨D, hDD⟩ : ∃ D : DataW Unit, D = .map [] := ⟨_, rfl⟩
    rw [← hDD] at HD ho0 hoa
    clear hDD
    clear hes hv hh
    have f0 : wa.frozen? ⟨L, 0, none⟩ = false := free_of hLa
    have c0 := cell_of hLa (i := 0) rfl
    have c1 := cell_of hLa (i := 1) rfl
    have e0 := cell_of hboxa (i := 0) rfl
    have e1 := cell_of hboxa (i := 1) rfl
    have e2 := cell_of hboxa (i := 2) rfl
    have hsz : w.heap.size < wa.heap.size := lt_of_block hboxa
    go_still_tail 6, (by kernel_rfl)
    change wpList _ _ _ _ _ wa.drew
    have hkey : keyOf Try.prog 31 (.agg #[.int .i64 s, .int .u32 g, .bool m]) = some (keyL (s, g, m)) := keyL_some (s, g, m) hr
    have hel : plainElem (H := Unit) Try.prog 3 (.int .i64 1) = some (i64 1, []) := plainElem_int Try.underlying3 (by decide)
    have hN' : N < maxLen := by unfold maxLen; omega
    refine wpList_mapUpdate_own _ rfl _ _ _ 49 rfl 31 3 law31 Try.underlying49 _ mb N D rfl hoa.drew hN' _ _ _ rfl rfl hkey _ [] hel ?_
    intro wb hob hg3
    have hMb : Mod (fun k => k ∈ L :: (v.ownBlock.toList ++ mapBlk (.map none))) w wb := hMa.drew.grown hg3 (fun k hk hk' => by cases hk; exact hmf hk')
    have hLb : wb.heap[L]? = some (.cells #[v, .map (some mb)] 51 (0, 0)) := (hg3.block L (lt_of_block hLa) (by simpa using hnd'.1)).trans hLa
    have hboxb : wb.heap[w.heap.size]? = some (.cells #[.int .i64 s, .int .u32 g, .bool m, .int .u64 b, .int .u64 p, .int .u64 r] 34 (0, 0)) := by
      rw [hg3.block _ hsz (by simpa using hbm)]; exact hboxa
    have hvb : wb.ownsRow 0 34 6 v es.length (flat es) := hva.drew.kept hg3 (.inr hnd'.2.1)
    have hsz3 : w.heap.size < wb.heap.size := lt_of_block hboxb
    clear hboxa hLa c0 c1 f0 e0 e1 e2 hoa hMa
    clear hsz
    have c0 := cell_of hLb (i := 0) rfl
    have c1 := cell_of hLb (i := 1) rfl
    have f0 : wb.frozen? ⟨L, 0, none⟩ = false := free_of hLb
    have e0 := cell_of hboxb (i := 0) rfl
    have e1 := cell_of hboxb (i := 1) rfl
    have e2 := cell_of hboxb (i := 2) rfl
    have e3 := cell_of hboxb (i := 3) rfl
    have e4 := cell_of hboxb (i := 4) rfl
    have e5 := cell_of hboxb (i := 5) rfl
    go_wp2_with fail
    go_frame
    have one : ∀ u ∈ Ent.cells ⟨s, g, m, b, p, r⟩, u.oneCell' = true := by
      intro u hu; simp only [Ent.cells, List.mem_cons, List.not_mem_nil, or_false] at hu
      rcases hu with rfl | rfl | rfl | rfl | rfl | rfl <;> rfl
    have hlt3 : L < wb.heap.size := lt_of_block hLb
    go_region_law (
      refine step_append_lies _ rfl _ _ 26 rfl 0 34 i0 _ 6 40 Try.underlying26 hi hz0 hz1 hz2 rfl (by decide) v es.length (flat es) rfl (by exact hvb.alloc _) ⟨wb.heap.size, 0, none⟩ 1 1 (Ent.cells ⟨s, g, m, b, p, r⟩) rfl rfl (by exact World.news_of_block (heap_alloc_at _ _)) one (by decide) (by unfold maxLen; omega) (by omega) (Nat.zero_le _) _ rfl ?_
      intro g' cap wc hown4 hg4 hat4 hlt4
      have hLc : wc.heap[L]? = some (.cells #[v, .map (some mb)] 51 (0, 0)) := (hg4.block L (by simp; omega) (fun e => hnd'.2.2 e.symm)).trans (heap_alloc_keep hLb _)
      have c4 := cell_of hLc (i := 0) rfl
      have f4 : wc.frozen? ⟨L, 0, none⟩ = false := free_of hLc)
    go_wp2_with fail
    all_goals
      go_ret
      have hm4 : Mod (fun k => k ∈ L :: (v.ownBlock.toList ++ mapBlk (.map none))) w wc := (hMb.alloc _).drew.grown hg4 (fun k hk _ => by simp [hk])
      have hgne : g' ≠ L ∧ g' ≠ mb := by
        rcases hat4 with h | h
        · exact ⟨fun e => hnd'.2.2 (by rw [h, e]), fun e => hnd'.2.1 (by rw [h, e])⟩
        · have := hob.lt
          simp at h; omega
      have hfl : flat es ++ Ent.cells ⟨s, g, m, b, p, r⟩ = flat (es ++ [⟨s, g, m, b, p, r⟩]) := flat_snoc es ⟨s, g, m, b, p, r⟩
      rw [hfl] at hown4
      refine ⟨rfl, [L, g', mb], ⟨_, _, heap_setCell_same hLc _, ?_, .inr ⟨mb, _, rfl, ?_, had_put (World.ownsMap.isMap ho0) HW.out HD.out⟩, rfl, ?_, HG'.out⟩, ?_, ?_⟩
      · rw [show (es ++ [(⟨s, g, m, b, p, r⟩ : Ent)]).length = es.length + 1 from by simp]
        exact ownsRow_setCell_other hown4 (by simp [Value.ownBlock]; exact hgne.1) _
      · refine World.ownsMap.setCell ?_ (by simp; exact fun e => hnd'.1 e.symm) _
        exact ((hob.alloc _).drew).kept hg4 (fun e => hnd'.2.1 e.symm)
      · simp [hnd'.1, hgne.2, Ne.symm hgne.1]
      · exact hm4.setCell (fun _ => by simp) _
      · intro k hk
        simp only [List.mem_cons, List.not_mem_nil, or_false] at hk
        rcases hk with rfl | rfl | rfl
        · simp
        · rcases hat4 with h | h
          · left; simp [h]
          · right; simp at h; omega
        · rcases Nat.lt_or_ge k w.heap.size with h | h
          · exact .inl (hmf h)
          · exact .inr h
  · have hmlt : mb < w.heap.size := ho.lt
    have HD := Lib.hid hD
    have ho0 := ho
    have hh : HadAt w (.map (some mb)) es N := .inr ⟨mb, D, rfl, ho, hD⟩
    clear hD
    have hmf : mb < w.heap.size → mb ∈ L :: (v.ownBlock.toList ++ mapBlk (.map (some mb))) := fun _ => by simp [mapBlk]
    have hnd' : L ≠ mb ∧ v.ownBlock ≠ some mb ∧ v.ownBlock ≠ some L := by
      simp only [mapBlk, List.nodup_cons, List.mem_append, Option.mem_toList, List.mem_singleton, not_or, List.nodup_append] at hnd
      refine ⟨hnd.1.2, fun h => ?_, fun h => hnd.1.1 h⟩
      exact hnd.2.2.2 mb h mb rfl rfl
    have hbm : ¬ w.heap.size = mb := by omega
    have c0 := cell_of hL (i := 0) rfl
    have c1 := cell_of hL (i := 1) rfl
    go_enter Try.func11, Try.ntmps11
    go_wp2_with fail
    refine (may_below ⟨s, g, m, b, p, r⟩ _).mono ?_
    rintro _ w1 ⟨rfl, hb⟩
    rw [HE.out]
    have hm0 : Mod (fun _ => False) w w1 := Mod.trans (Mod.alloc (Mod.refl _ w) _) (Mod.ofBelow hb (fun _ => False)) (fun _ _ h => h.elim)
    obtain ⟨hc, hf⟩ := bcell hb
    have hk' : ∀ n, (Instr.lookup 49 (.map (some mb)) (.agg #[.int .i64 s, .int .u32 g, .bool m]) false).run Try.prog (w1.drewN n) = .ok (.int .i64 0) (w1.drewN n) := by
      intro n
      have := look_had (w := w1.drewN n) (hh.keep (hm0.drewN n) (fun _ _ h => h)) _ hr
      rw [if_neg HS.out] at this
      exact this
    go_wp2_with fail
    go_quiet (fail)
    have hne : ∀ w, (binOp .eql 49 (.map (some mb)) (.map none)).run Try.prog w = .ok (.bool false) w := fun w => nil49 w _
    go_wp2_with fail
    have hm1 : Mod (fun _ => False) w (w1.drewN nq) := hm0.drewN nq
    have hboxa : (w1.drewN nq).heap[w.heap.size]? = some (.cells #[.int .i64 s, .int .u32 g, .bool m, .int .u64 b, .int .u64 p, .int .u64 r] 34 (0, 0)) := by
      rw [show (w1.drewN nq).heap = w1.heap from rfl, hb.block _ (by simp)]
      exact heap_alloc_at _ _
    clear hb hc hf hk' hm0 c0 c1
    generalize w1.drewN nq = wa at *
    clear w1
    have hLa := hm1.keep hL (fun h => h)
    have hoa := hm1.ownsMap ho (fun h => h)
    have hva := hm1.ownsRow hv (fun _ _ h => h)
    have hMa : Mod (fun k => k ∈ L :: (v.ownBlock.toList ++ mapBlk (.map (some mb)))) w wa := hm1.weaken (fun _ _ h => h.elim)
    clear hm1 ho
    have f0 : wa.frozen? ⟨L, 0, none⟩ = false := free_of hLa
    have c0 := cell_of hLa (i := 0) rfl
    have c1 := cell_of hLa (i := 1) rfl
    have e0 := cell_of hboxa (i := 0) rfl
    have e1 := cell_of hboxa (i := 1) rfl
    have e2 := cell_of hboxa (i := 2) rfl
    have hsz : w.heap.size < wa.heap.size := lt_of_block hboxa
    go_still_tail 6, (by kernel_rfl)
    change wpList _ _ _ _ _ wa.drew
    have hkey : keyOf Try.prog 31 (.agg #[.int .i64 s, .int .u32 g, .bool m]) = some (keyL (s, g, m)) := keyL_some (s, g, m) hr
    have hel : plainElem (H := Unit) Try.prog 3 (.int .i64 1) = some (i64 1, []) := plainElem_int Try.underlying3 (by decide)
    have hN' : N < maxLen := by unfold maxLen; omega
    refine wpList_mapUpdate_own _ rfl _ _ _ 49 rfl 31 3 law31 Try.underlying49 _ mb N D rfl hoa.drew hN' _ _ _ rfl rfl hkey _ [] hel ?_
    intro wb hob hg3
    have hMb : Mod (fun k => k ∈ L :: (v.ownBlock.toList ++ mapBlk (.map (some mb)))) w wb := hMa.drew.grown hg3 (fun k hk hk' => by cases hk; exact hmf hk')
    have hLb : wb.heap[L]? = some (.cells #[v, .map (some mb)] 51 (0, 0)) := (hg3.block L (lt_of_block hLa) (by simpa using hnd'.1)).trans hLa
    have hboxb : wb.heap[w.heap.size]? = some (.cells #[.int .i64 s, .int .u32 g, .bool m, .int .u64 b, .int .u64 p, .int .u64 r] 34 (0, 0)) := by
      rw [hg3.block _ hsz (by simpa using hbm)]; exact hboxa
    have hvb : wb.ownsRow 0 34 6 v es.length (flat es) := hva.drew.kept hg3 (.inr hnd'.2.1)
    have hsz3 : w.heap.size < wb.heap.size := lt_of_block hboxb
    clear hboxa hLa c0 c1 f0 e0 e1 e2 hoa hMa
    clear hsz
    have c0 := cell_of hLb (i := 0) rfl
    have c1 := cell_of hLb (i := 1) rfl
    have f0 : wb.frozen? ⟨L, 0, none⟩ = false := free_of hLb
    have e0 := cell_of hboxb (i := 0) rfl
    have e1 := cell_of hboxb (i := 1) rfl
    have e2 := cell_of hboxb (i := 2) rfl
    have e3 := cell_of hboxb (i := 3) rfl
    have e4 := cell_of hboxb (i := 4) rfl
    have e5 := cell_of hboxb (i := 5) rfl
    go_wp2_with fail
    go_frame
    have one : ∀ u ∈ Ent.cells ⟨s, g, m, b, p, r⟩, u.oneCell' = true := by
      intro u hu; simp only [Ent.cells, List.mem_cons, List.not_mem_nil, or_false] at hu
      rcases hu with rfl | rfl | rfl | rfl | rfl | rfl <;> rfl
    have hlt3 : L < wb.heap.size := lt_of_block hLb
    go_region_law (
      refine step_append_lies _ rfl _ _ 26 rfl 0 34 i0 _ 6 40 Try.underlying26 hi hz0 hz1 hz2 rfl (by decide) v es.length (flat es) rfl (by exact hvb.alloc _) ⟨wb.heap.size, 0, none⟩ 1 1 (Ent.cells ⟨s, g, m, b, p, r⟩) rfl rfl (by exact World.news_of_block (heap_alloc_at _ _)) one (by decide) (by unfold maxLen; omega) (by omega) (Nat.zero_le _) _ rfl ?_
      intro g' cap wc hown4 hg4 hat4 hlt4
      have hLc : wc.heap[L]? = some (.cells #[v, .map (some mb)] 51 (0, 0)) := (hg4.block L (by simp; omega) (fun e => hnd'.2.2 e.symm)).trans (heap_alloc_keep hLb _)
      have c4 := cell_of hLc (i := 0) rfl
      have f4 : wc.frozen? ⟨L, 0, none⟩ = false := free_of hLc)
    go_wp2_with fail
    all_goals
      go_ret
      have hm4 : Mod (fun k => k ∈ L :: (v.ownBlock.toList ++ mapBlk (.map (some mb)))) w wc := (hMb.alloc _).drew.grown hg4 (fun k hk _ => by simp [hk])
      have hgne : g' ≠ L ∧ g' ≠ mb := by
        rcases hat4 with h | h
        · exact ⟨fun e => hnd'.2.2 (by rw [h, e]), fun e => hnd'.2.1 (by rw [h, e])⟩
        · have := hob.lt
          simp at h; omega
      have hfl : flat es ++ Ent.cells ⟨s, g, m, b, p, r⟩ = flat (es ++ [⟨s, g, m, b, p, r⟩]) := flat_snoc es ⟨s, g, m, b, p, r⟩
      rw [hfl] at hown4
      refine ⟨rfl, [L, g', mb], ⟨_, _, heap_setCell_same hLc _, ?_, .inr ⟨mb, _, rfl, ?_, had_put (World.ownsMap.isMap ho0) HW.out HD.out⟩, rfl, ?_, HG'.out⟩, ?_, ?_⟩
      · rw [show (es ++ [(⟨s, g, m, b, p, r⟩ : Ent)]).length = es.length + 1 from by simp]
        exact ownsRow_setCell_other hown4 (by simp [Value.ownBlock]; exact hgne.1) _
      · refine World.ownsMap.setCell ?_ (by simp; exact fun e => hnd'.1 e.symm) _
        exact ((hob.alloc _).drew).kept hg4 (fun e => hnd'.2.1 e.symm)
      · simp [hnd'.1, hgne.2, Ne.symm hgne.1]
      · exact hm4.setCell (fun _ => by simp) _
      · intro k hk
        simp only [List.mem_cons, List.not_mem_nil, or_false] at hk
        rcases hk with rfl | rfl | rfl
        · simp
        · rcases hat4 with h | h
          · left; simp [h]
          · right; simp at h; omega
        · rcases Nat.lt_or_ge k w.heap.size with h | h
          · exact .inl (hmf h)
          · exact .inr h
end Go.Proofs.Ytcemcphkgehbhaa
