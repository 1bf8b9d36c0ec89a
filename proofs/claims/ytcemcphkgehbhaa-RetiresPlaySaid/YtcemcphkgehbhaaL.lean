/- The law RetiresParts, walked. -/
import Derived.Test.YtcemcphkgehbhaaK
namespace Go.Proofs.Ytcemcphkgehbhaa
open Go.RowKit

theorem Bools.keep {S : Nat → Prop} {w w' : World} {v : Value} {l : List Bool} (h : Bools w v l) (hm : Mod S w w') (hs : ∀ b, Value.blk v = some b → ¬ S b) : Bools w' v l := by
  obtain ⟨a, cap, rfl, h⟩ := h
  refine ⟨a, cap, rfl, ?_⟩
  rcases h with h | ⟨b, off, rfl, h⟩
  · exact .inl h
  · refine .inr ⟨b, off, rfl, fun k hk => ?_⟩
    have h1 := h k hk
    rw [World.cell?_of_block (w := w) (hm.block b (World.block_lt_of_cell? _ _ h1) (hs b rfl))]
    exact h1
theorem Bools.lt {w : World} {v : Value} {l : List Bool} (h : Bools w v l) (hl : l ≠ []) : ∀ b, Value.blk v = some b → b < w.heap.size := by
  obtain ⟨a, cap, rfl, h⟩ := h
  rcases h with h | ⟨b, off, rfl, h⟩
  · exact absurd h hl
  · intro b' hb
    cases hb
    cases l with
    | nil => exact absurd rfl hl
    | cons x r => exact World.block_lt_of_cell? _ _ (h 0 (by simp))

theorem Cut.blk_ge {w : World} {base : Nat} {v : Value} {es : List Ent} (h : Cut w base v es) : ∀ b, Value.blk v = some b → base ≤ b := by
  rcases h with ⟨rfl, _⟩ | ⟨g, cur, rfl, a2, _, _⟩
  · intro b hb; cases hb
  · intro b hb; cases hb; exact a2
theorem Cut.own_blk {w : World} {base : Nat} {v : Value} {es : List Ent} (h : Cut w base v es) : v.ownBlock = Value.blk v := by
  rcases h with ⟨rfl, _⟩ | ⟨g, cur, rfl, a2, _, _⟩ <;> rfl

/-- A value's block is there, and is none of a list's. -/
def Off (w : World) (v : Value) (fp : List Nat) : Prop := ∀ b, Value.blk v = some b → b < w.heap.size ∧ b ∉ fp
theorem Off.turn {w w' : World} {v : Value} {fp fp' : List Nat} (h : Off w v fp) (ht : Turn fp fp' w w') : Off w' v fp' := fun b hb => by
  obtain ⟨h1, h2⟩ := h b hb
  refine ⟨Nat.lt_of_lt_of_le h1 ht.mod.size, fun hm => ?_⟩
  rcases ht.fresh b hm with h3 | h3
  · exact h2 h3
  · omega
theorem Off.mod {S : Nat → Prop} {w w' : World} {v : Value} {fp : List Nat} (h : Off w v fp) (hm : Mod S w w') : Off w' v fp := fun b hb => ⟨Nat.lt_of_lt_of_le (h b hb).1 hm.size, (h b hb).2⟩
theorem Off.not {w : World} {v : Value} {fp : List Nat} (h : Off w v fp) : ∀ b, Value.blk v = some b → ¬ b ∈ fp := fun b hb => (h b hb).2
theorem Cut.lt {w : World} {base : Nat} {v : Value} {es : List Ent} (h : Cut w base v es) : ∀ b, Value.blk v = some b → b < w.heap.size := by
  rcases h with ⟨rfl, _⟩ | ⟨g, cur, rfl, a2, a3, _⟩
  · intro b hb; cases hb
  · intro b hb; cases hb; exact lt_of_block a3
theorem Cut.off {w w' : World} {v : Value} {es : List Ent} {L N : Nat} {es' : List Ent} {fp : List Nat} (h : Cut w' w.heap.size v es) (hr : RetAt w L es' N fp) : Off w' v fp := fun b hb =>
  ⟨h.lt b hb, fun hm => by have h1 := h.blk_ge b hb; have h2 := hr.ltfp b hm; omega⟩
theorem Cut.off' {w : World} {base : Nat} {v : Value} {es : List Ent} {fp : List Nat} (h : Cut w base v es) (hn : ∀ b, v.ownBlock = some b → b ∉ fp) : Off w v fp := fun b hb =>
  ⟨h.lt b hb, hn b (by rw [h.own_blk]; exact hb)⟩

theorem and_not_of {p q : Prop} (h : p) : ¬ (¬ p ∨ False ∧ q) := by simp [h]

theorem info4 : (Try.prog.info? 4).map (fun i => (i.zero, i.size, i.bytes)) = some (some (.bool false), 1, 1) := by kernel_rfl
theorem rep_snoc (k : Nat) : List.replicate k (Value.bool true) ++ [.bool true] = List.replicate (k + 1) (.bool true) := by rw [List.replicate_succ']
theorem bools_rep {w : World} {base : Nat} {v : Value} {n : Nat} (h : w.ownsRow base 4 1 v n (List.replicate n (.bool true))) : Bools w v (List.replicate n true) ∧ ∀ b, Value.blk v = some b → base ≤ b := by
  rcases h.2 with ⟨rfl, hn⟩ | ⟨g, cap, cur, rfl, hb, hg, hnc, hcm, hcs, ht⟩
  · subst hn
    exact ⟨⟨none, 0, rfl, .inl rfl⟩, fun b hb => by cases hb⟩
  · refine ⟨⟨some ⟨g, 0, none⟩, cap, by rw [List.length_replicate], .inr ⟨g, 0, rfl, fun k hk => ?_⟩⟩, fun b hb' => by cases hb'; exact hb⟩
    rw [List.length_replicate] at hk
    rw [Nat.zero_add]
    refine cell_of hg ?_
    have h1 : (List.replicate n (Value.bool true))[k]? = some (.bool true) := by rw [List.getElem?_replicate]; simp [hk]
    rw [← ht, List.getElem?_take] at h1
    split at h1
    · simpa using h1
    · cases h1

set_option maxHeartbeats 4000000 in
set_option maxRecDepth 100000 in
theorem parts_walk (w : World) (av gv : Value) (all : List Ent) (gone : List Bool) (ha : Ents w av all) (hwf : ∀ e ∈ all, e.wf) (hg : Bools w gv gone) (hal : all.length ≤ 9223372036854775807) (hgl : gone.length ≤ 9223372036854775807)
    (hgb : gone ≠ [] → ∀ b, Value.blk gv = some b → b < w.heap.size) :
    Calls Try.prog 4 #[av, gv] w fun e w' => e = .returned (.bool true) ∧ Below w.heap.size w w' := by
  obtain ⟨a, acap, rfl, ha0⟩ := ha
  have hA : Ents w (.slice a all.length acap) all := ⟨a, acap, rfl, ha0⟩
  obtain ⟨ga, gcap, rfl, hg0⟩ := hg
  have hG : Bools w (.slice ga gone.length gcap) gone := ⟨ga, gcap, rfl, hg0⟩
  clear hg0
  by_cases h1 : 100 < all.length
  · go_enter Try.func4, Try.ntmps4
    go_wp2_with (go_at_call 5; refine (lives_any _).mono ?_; rintro e w' ⟨rfl, hb⟩)
    go_ret
    exact ⟨rfl, hb⟩
  by_cases h2 : 200 < gone.length
  · have h1' : decide (100 < all.length) = false := by simpa using h1
    go_enter Try.func4, Try.ntmps4
    go_wp2_with (go_at_call 5; refine (lives_any _).mono ?_; rintro e w' ⟨rfl, hb⟩)
    go_ret
    exact ⟨rfl, hb⟩
  have h1' : decide (100 < all.length) = false := by simpa using h1
  have h2' : decide (200 < gone.length) = false := by simpa using h2
  have h1 : all.length ≤ 100 := by omega
  have h2 : gone.length ≤ 200 := by omega
  have HA := Lib.hid hA
  have HA0 := Lib.hid ha0
  have HG := Lib.hid hG
  have HGB := Lib.hid hgb
  have HWF := Lib.hid hwf
  clear hA ha0 hG hgb hwf
  go_enter Try.func4, Try.ntmps4
  go_wp2_with fail
  refine (st_new w w (Mod.refl _ _)).mono ?_
  rintro _ w1 ⟨rfl, s1⟩
  obtain ⟨L, hL⟩ : ∃ L, L = w.heap.size := ⟨_, rfl⟩
  rw [← hL] at s1 ⊢
  clear hL
  generalize [L] = fp1 at s1
  clear h1' h2'
  go_wp2_with fail
  go_loopw [6] (fun i wr => ∃ k : Nat, k ≤ all.length ∧ i = .int .i64 k ∧ ∃ fp, St w wr L (adds all k) k fp) (fun i wr => all.length - (intOf i).toNat)
  case atStart => exact ⟨0, Nat.zero_le _, rfl, fp1, s1⟩
  case round =>
    obtain ⟨k, hk, rfl, fp, hst⟩ := hrel
    by_cases hlt : k < all.length
    · obtain ⟨b, off, rfl, D0⟩ := HA0.out.resolve_left (fun h => by rw [h] at hlt; simp at hlt)
      obtain ⟨a0, a1, a2, a3, a4, a5⟩ := (D0 k hlt).keep hst.mod (fun h => h)
      have hxw := HWF.out all[k] (List.getElem_mem _)
      have hle := adds_le all k (by omega)
      have HS := Lib.hid (adds_succ all k hlt)
      clear D0
      generalize all[k] = x at *
      have hc := st_add hst x hxw (by omega) (by omega)
      simp only [Ent.val] at hc
      have HC := Lib.hid hc
      clear hc
      go_wp2_with (go_at_call 11; refine HC.out.mono ?_; rintro e w' ⟨rfl, fp', hst', -⟩)
      go_roundw
      case rel => exact ⟨k + 1, by omega, by go_num, fp', by rw [HS.out]; exact hst'⟩
      case measure => simp [intOf]; omega
    · obtain rfl : k = all.length := by omega
      have hle := adds_le all all.length (Nat.le_refl _)
      generalize hes : adds all all.length = es at *
      clear hes
      go_wp2_with fail
      refine (all_any _ L es _ fp hst.ret (by omega)).mono ?_
      rintro _ w2 ⟨v2, rfl, hc2, hb2⟩
      have off2 := hc2.off hst.ret
      have hst2 := hst.below hb2
      have hE2 := hc2.base.ents
      clear hc2 hb2 hst
      go_wp2_with fail
      refine (st_sweep hst2 (.slice none 0 0) [] ⟨none, 0, rfl, .inl rfl⟩ (fun _ b hb => by cases hb) (by omega) (by simp)).mono ?_
      rintro _ w3 ⟨v3, fp3, rfl, hc3, hst3, ht3, -⟩
      rw [outK_nil] at hc3
      rw [leftK_nil es es.length (Nat.le_refl _), List.take_length] at hst3
      have hE3 := hE2.keep ht3.mod off2.not
      have off3 := off2.turn ht3
      obtain ⟨a3, cap3, rfl, -⟩ := hc3.ents
      clear hc3 hE2 off2 ht3 hst2
      go_wp2_with fail
      refine (all_any _ L es _ fp3 hst3.ret (by omega)).mono ?_
      rintro _ w4 ⟨v4, rfl, hc4, hb4⟩
      have hst4 := hst3.below hb4
      have hE4 := hE3.keep (Mod.ofBelow hb4 (fun _ => False)) (fun _ _ h => h)
      have off4 := off3.mod (Mod.ofBelow hb4 (fun _ => False))
      have hEv4 := hc4.ents
      clear hc4 hb4 hst3 hE3 off3
      go_wp2_with fail
      refine (same_true _ _ es _ (by omega) hEv4 hE4).mono ?_
      rintro _ w5 ⟨rfl, n5, hw5⟩
      have hst5 : St w w5 L es all.length fp3 := by rw [hw5]; exact hst4.drewN n5
      have hE5 : Ents w5 v2 es := by rw [hw5]; exact hE4
      have off5 : Off w5 v2 fp3 := by rw [hw5]; exact off4
      clear hw5 hst4 hE4 off4 hEv4
      go_wp2_with fail
      have hG5 := HG.out.keep hst5.mod (fun _ _ h => h)
      refine (st_sweep hst5 _ gone hG5 (fun hne b hb hm => by have h3 := HGB.out hne b hb; have h4 := hst5.new b hm; omega) (by omega) (by omega)).mono ?_
      rintro _ w6 ⟨v6, fp6, rfl, hc6, hst6, ht6, hn6⟩
      have hE6 := hE5.keep ht6.mod off5.not
      have off6 := off5.turn ht6
      have offo6 := hc6.off' hn6
      have ho6 := hc6.base.ents
      have hgood := hst5.ret.good
      clear hc6 hn6 hst5 hE5 off5 ht6 hG5
      go_wp2_with fail
      have hol := outK_le es gone es.length
      have hll := leftK_le es gone es.length
      refine (all_any _ L _ _ fp6 hst6.ret (by omega)).mono ?_
      rintro _ w7 ⟨v7, rfl, hc7, hb7⟩
      have hst7 := hst6.below hb7
      have hE7 := hE6.keep (Mod.ofBelow hb7 (fun _ => False)) (fun _ _ h => h)
      have ho7 := ho6.keep (Mod.ofBelow hb7 (fun _ => False)) (fun _ _ h => h)
      have off7 := off6.mod (Mod.ofBelow hb7 (fun _ => False))
      have offo7 := offo6.mod (Mod.ofBelow hb7 (fun _ => False))
      have hl7 := hc7.base.ents
      clear hc7 hb7 hst6 hE6 ho6 off6 offo6
      obtain ⟨a2, cap2, rfl, hE7⟩ := hE7
      obtain ⟨a6, cap6, rfl, ho7⟩ := ho7
      obtain ⟨a7, cap7, rfl, hl7⟩ := hl7
      have HE7 := Lib.hid hE7
      have HO7 := Lib.hid ho7
      have HL7 := Lib.hid hl7
      have hG7 := HG.out.keep hst7.mod (fun _ _ h => h)
      obtain ⟨_, _, e7, hG7⟩ := hG7
      cases e7
      have HG7 := Lib.hid hG7
      clear hE7 ho7 hl7 hG7
      have hLN : Hid ((leftK es gone es.length).length + (outK es gone es.length).length = es.length) := by
        have := (perm_parts es gone es.length (Nat.le_refl _)).length_eq
        rw [List.take_length, List.length_append] at this
        exact this
      go_wp2_with fail
      go_loopw [10, 11, 12] (fun x y i wx => ∃ k : Nat, k ≤ es.length ∧ i = .int .i64 k ∧ x = .int .i64 (outK es gone k).length ∧ y = .int .i64 (leftK es gone k).length ∧ ∃ n, wx = w7.drewN n) (fun _ _ i wx => es.length - (intOf i).toNat)
      case atStart => exact ⟨0, Nat.zero_le _, rfl, rfl, rfl, 0, rfl⟩
      case round =>
        obtain ⟨k, hk, rfl, rfl, rfl, nn, rfl⟩ := hrel
        by_cases hlt : k < es.length
        · obtain ⟨b2, o2, rfl, E2⟩ := HE7.out.resolve_left (fun h => by rw [h] at hlt; simp at hlt)
          obtain ⟨a0, a1, a2, a3, a4, a5⟩ := E2 k hlt
          clear E2
          have hko := outK_le es gone k
          have hkl := leftK_le es gone k
          have HLo := Lib.hid (outK_len es gone k)
          have HLl := Lib.hid (leftK_len es gone k)
          by_cases hg1 : gone.getD k false = true
          · have hkg : k < gone.length := by
              rcases Nat.lt_or_ge k gone.length with h | h
              · exact h
              · rw [List.getD_eq_getElem?_getD, List.getElem?_eq_none h] at hg1; simp at hg1
            obtain ⟨b8, o8, rfl, G8⟩ := HG7.out.resolve_left (fun h => by rw [h] at hkg; simp at hkg)
            have g0 := G8 k hkg
            have hgk : gone[k] = true := by
              rw [List.getD_eq_getElem?_getD, List.getElem?_eq_getElem hkg] at hg1; exact hg1
            rw [hgk] at g0
            obtain ⟨hl, he⟩ := outK_at es gone k es.length hlt hlt hg1
            obtain ⟨b6, o6, rfl, O6⟩ := HO7.out.resolve_left (fun h => by rw [h] at hl; simp at hl)
            obtain ⟨c0, c1, c2, c3, c4, c5⟩ := O6 _ hl
            rw [he] at c0 c1 c2 c3 c4 c5
            have hd : decide ((outK es gone es.length).length ≤ (outK es gone k).length) = false := by simpa using hl
            rw [if_pos hg1] at HLo HLl
            clear O6 G8 he hgk hg1
            generalize es[k] = x at *
            have heq : ∀ w, (Op.equalIn 10000 34 x.val x.val).run Try.prog w = .ok true w := fun w => by rw [eq_ent, decide_eq_true rfl]
            simp only [Ent.val] at heq
            go_wp2_with fail
            go_quiet (fail)
            go_wp2_with fail
            go_roundw
            case rel => exact ⟨k + 1, by omega, by go_num, by rw [HLo.out]; go_num, by rw [HLl.out]; rfl, _, rfl⟩
            case measure => simp [intOf]; omega
          · obtain ⟨hl, he⟩ := leftK_at es gone k es.length hlt hlt hg1
            obtain ⟨b6, o6, rfl, O6⟩ := HL7.out.resolve_left (fun h => by rw [h] at hl; simp at hl)
            obtain ⟨c0, c1, c2, c3, c4, c5⟩ := O6 _ hl
            rw [he] at c0 c1 c2 c3 c4 c5
            have hd : decide ((leftK es gone es.length).length ≤ (leftK es gone k).length) = false := by simpa using hl
            have HX : Hid (¬ gone.getD k false = true) := hg1
            rw [if_neg hg1] at HLo HLl
            clear O6 he hg1
            generalize es[k] = x at *
            have heq : ∀ w, (Op.equalIn 10000 34 x.val x.val).run Try.prog w = .ok true w := fun w => by rw [eq_ent, decide_eq_true rfl]
            simp only [Ent.val] at heq
            by_cases hkg : k < gone.length
            · obtain ⟨b8, o8, rfl, G8⟩ := HG7.out.resolve_left (fun h => by rw [h] at hkg; simp at hkg)
              have g0 := G8 k hkg
              have hgk : gone[k] = false := by
                have hg1 := HX.out
                rw [List.getD_eq_getElem?_getD, List.getElem?_eq_getElem hkg] at hg1; simpa using hg1
              rw [hgk] at g0
              clear G8 hgk
              go_wp2_with fail
              go_quiet (fail)
              go_wp2_with fail
              go_roundw
              case rel => exact ⟨k + 1, by omega, by go_num, by rw [HLo.out]; rfl, by rw [HLl.out]; go_num, _, rfl⟩
              case measure => simp [intOf]; omega
            · have hdec : decide (k < gone.length) = false := by simpa using hkg
              go_wp2_with fail
              go_quiet (fail)
              go_wp2_with fail
              go_roundw
              case rel => exact ⟨k + 1, by omega, by go_num, by rw [HLo.out]; rfl, by rw [HLl.out]; go_num, _, rfl⟩
              case measure => simp [intOf]; omega
        · obtain rfl : k = es.length := by omega
          have hst8 := hst7.drewN nn
          have ho8 : Ents (w7.drewN nn) (.slice a6 (outK es gone es.length).length cap6) (outK es gone es.length) := ⟨_, _, rfl, HO7.out⟩
          have off8 : Off (w7.drewN nn) (.slice a6 (outK es gone es.length).length cap6) fp6 := offo7
          clear hst7
          generalize w7.drewN nn = w8 at hst8 ho8 off8 ⊢
          go_wp2_with fail
          refine (len_any w8 L _ _ fp6 hst8.ret).mono ?_
          rintro _ w9 ⟨rfl, rfl⟩
          go_wp2_with fail
          go_loopw [13] (fun i wx => ∃ k : Nat, k ≤ (outK es gone es.length).length ∧ i = .int .i64 k ∧ ∃ fp N, N ≤ all.length + 2 * k ∧ St w wx L (leftK es gone es.length ++ (outK es gone es.length).take k) N fp ∧
              Off wx (.slice a6 (outK es gone es.length).length cap6) fp ∧ Ents wx (.slice a6 (outK es gone es.length).length cap6) (outK es gone es.length)) (fun i wx => (outK es gone es.length).length - (intOf i).toNat)
          case atStart => exact ⟨0, Nat.zero_le _, rfl, fp6, all.length, by omega, by simpa using hst8, off8, ho8⟩
          case round =>
            obtain ⟨k, hk, rfl, fp, N, hN, hst, hoff, hE⟩ := hrel
            by_cases hlt : k < (outK es gone es.length).length
            · obtain ⟨q1, q2, q3, q4, q5⟩ := back_new hgood gone k hlt
              have hE' := hE
              obtain ⟨_, _, e7, hE'⟩ := hE'
              cases e7
              obtain ⟨b6, o6, rfl, O6⟩ := hE'.resolve_left (fun h => by rw [h] at hlt; simp at hlt)
              have hlk : (leftK es gone es.length ++ (outK es gone es.length).take k).length ≤ 1000 := by
                rw [List.length_append, List.length_take]; have := hLN.out; omega
              have hlk' : (leftK es gone es.length ++ (outK es gone es.length).take (k + 1)).length ≤ 1000 := by
                rw [List.length_append, List.length_take]; have := hLN.out; omega
              have hc := st_add hst (outK es gone es.length)[k] q5 hlk (by omega)
              rw [q1, q2] at hc
              have HC := Lib.hid hc
              have hc2 : ∀ wy fp', St w wy L (leftK es gone es.length ++ (outK es gone es.length).take (k + 1)) (N + 1) fp' → Calls Try.prog 11 #[.pointer (some ⟨L, 0, none⟩), (outK es gone es.length)[k].val] wy (StPost w wy fp' L (leftK es gone es.length ++ (outK es gone es.length).take (k + 1)) (N + 1 + 1) 8) := fun wy fp' h => by
                have := st_add h (outK es gone es.length)[k] q5 hlk' (by omega)
                rwa [q3, q4] at this
              have HC2 := Lib.hid hc2
              have HE := Lib.hid hE
              have HOff := Lib.hid hoff
              obtain ⟨a0, a1, a2, a3, a4, a5⟩ := O6 k hlt
              have hK : Hid (∀ wy fp', Turn fp fp' wr wy → EntAt wy b6 (o6 + k * 6) (outK es gone es.length)[k]) := fun wy fp' ht => (O6 k hlt).keep ht.mod (hoff.not b6 rfl)
              clear O6 hE' hc hc2 hE hoff q1 q2 q3 q4 q5
              generalize (outK es gone es.length)[k] = x at *
              simp only [Ent.val] at HC HC2
              go_wp2_with fail
              refine HC.out.mono ?_
              rintro _ wy ⟨rfl, fp', hst', ht'⟩
              obtain ⟨c0, c1, c2, c3, c4, c5⟩ := hK.out wy fp' ht'
              have HE' := Lib.hid (HE.out.keep ht'.mod HOff.out.not)
              have HOff' := Lib.hid (HOff.out.turn ht')
              clear a0 a1 a2 a3 a4 a5 HE HOff
              go_wp2_with fail
              refine (HC2.out wy fp' hst').mono ?_
              rintro _ wz ⟨rfl, fp2, hst2', ht2⟩
              have HE2 := Lib.hid (HE'.out.keep ht2.mod HOff'.out.not)
              have HOff2 := Lib.hid (HOff'.out.turn ht2)
              clear HE' HOff'
              go_wp2_with fail
              go_roundw
              case rel => exact ⟨k + 1, by omega, by go_num, fp2, N + 1 + 1, by omega, hst2', HOff2.out, HE2.out⟩
              case measure => simp [intOf]; omega
            · obtain rfl : k = (outK es gone es.length).length := by omega
              rw [List.take_length] at hst
              have hlen : (leftK es gone es.length ++ outK es gone es.length).length = es.length := by rw [List.length_append]; exact hLN.out
              generalize leftK es gone es.length ++ outK es gone es.length = lst at hst hlen
              have HLEN := Lib.hid hlen
              clear hlen hE hoff
              obtain ⟨i4, hi4, hy0, hy1, hy2⟩ := info_parts info4
              have HB := Lib.hid hst.ret.ltfp
              have hnil : wr.ownsRow wr.heap.size 4 1 (.slice none 0 0) 0 (List.replicate 0 (.bool true)) := World.ownsRow_nil _ _ _ _
              obtain ⟨w10, hw10⟩ : ∃ w10, w10 = wr := ⟨_, rfl⟩
              rw [← hw10] at hst HB hnil ⊢
              clear hw10
              go_wp2_with fail
              go_loopw [14, 15] (fun v i wx => ∃ k : Nat, k ≤ es.length ∧ i = .int .i64 k ∧ wx.ownsRow w10.heap.size 4 1 v k (List.replicate k (.bool true)) ∧ Mod (fun _ => False) w10 wx) (fun _ i wx => es.length - (intOf i).toNat)
              case atStart => exact ⟨0, Nat.zero_le _, rfl, hnil, Mod.refl _ _⟩
              case round =>
                obtain ⟨k, hk, rfl, hrow, hmr⟩ := hrel
                by_cases hlt : k < es.length
                · go_wp2_with (at_builtin; refine wpList_append_own _ rfl _ _ 35 rfl w10.heap.size 4 i4 _ 1 1 Try.underlying35 hi4 hy0 hy1 hy2 rfl (by decide) _ k (List.replicate k (.bool true)) rfl (by exact hrow.alloc _) ⟨wr.heap.size, 0, none⟩ 1 1 [.bool true] rfl rfl (by exact cell_one_new _ _ _) (by simp [Value.oneCell']) (by unfold maxLen; omega) (by omega) (by have := hmr.size; simp; omega) ?_; intro v' w4 hown4 hg4 _)
                  go_roundw
                  case rel => exact ⟨k + 1, by omega, by go_num, by rw [← rep_snoc]; exact hown4, (hmr.alloc _).grown hg4 (fun b hb hb' => by have := (hrow.lt b hb).1; omega)⟩
                  case measure => simp [intOf]; omega
                · obtain rfl : k = es.length := by omega
                  obtain ⟨hbl, hge⟩ := bools_rep hrow
                  have hst2 := hst.mods hmr (fun _ _ h => h) (fun _ h => h.elim)
                  have hsw := st_sweep hst2 _ _ hbl (fun _ b hb hm => by have h3 := hge b hb; have h4 := HB.out b hm; omega) (by rw [HLEN.out]; omega) (by rw [List.length_replicate]; omega)
                  rw [outK_all lst es.length lst.length (Nat.le_refl _) (by rw [HLEN.out]; omega), leftK_all lst es.length lst.length (by rw [HLEN.out]; omega), List.take_length] at hsw
                  have HSW := Lib.hid hsw
                  clear hsw hbl hge hrow
                  go_wp2_with fail
                  refine HSW.out.mono ?_
                  rintro _ w11 ⟨v11, fp11, rfl, hc11, hst11, -, -⟩
                  obtain ⟨a11, cap11, rfl, -⟩ := hc11.ents
                  rw [HLEN.out]
                  clear hc11
                  go_wp2_with fail
                  refine (len_any _ L _ _ fp11 hst11.ret).mono ?_
                  rintro _ w12 ⟨rfl, rfl⟩
                  go_wp2_with fail
                  refine (born_any _ L _ _ fp11 _ hst11.ret (by simp)).mono ?_
                  rintro _ w13 ⟨rfl, hb13⟩
                  have hst13 := hst11.below hb13
                  rw [show bornN [] 9223372036854775808 = 0 from rfl]
                  go_wp2_with fail
                  refine (lives_any _).mono ?_
                  rintro _ w14 ⟨rfl, hb14⟩
                  have hst14 := hst13.below hb14
                  go_wp2_with fail
                  go_ret
                  exact ⟨rfl, hst14.mod.below (fun _ _ h => h)⟩
end Go.Proofs.Ytcemcphkgehbhaa
