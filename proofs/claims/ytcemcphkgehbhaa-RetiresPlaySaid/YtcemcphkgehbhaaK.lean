/- Plain facts on what is swept and what stays. -/
import Derived.Test.YtcemcphkgehbhaaJ
namespace Go.Proofs.Ytcemcphkgehbhaa
open Go.RowKit

def adds (all : List Ent) (k : Nat) : List Ent := (all.take k).foldl addL []
theorem addL_le (es : List Ent) (e : Ent) : (addL es e).length ≤ es.length + 1 := by
  unfold addL; split
  · split <;> simp
  · omega
theorem adds_succ (all : List Ent) (k : Nat) (h : k < all.length) : adds all (k + 1) = addL (adds all k) all[k] := by
  unfold adds
  rw [List.take_succ_eq_append_getElem h, List.foldl_append]
  rfl
theorem adds_le (all : List Ent) : ∀ k, k ≤ all.length → (adds all k).length ≤ k
  | 0, _ => by simp [adds]
  | k + 1, h => by
    rw [adds_succ all k (by omega)]
    have h1 := adds_le all k (by omega)
    have h2 := addL_le (adds all k) all[k]
    omega

theorem outK_nil (es : List Ent) : ∀ k, outK es [] k = []
  | 0 => rfl
  | k + 1 => by simp [outK, outK_nil es k]
theorem leftK_nil (es : List Ent) : ∀ k, k ≤ es.length → leftK es [] k = es.take k
  | 0, _ => by simp [leftK]
  | k + 1, h => by
    rw [leftK, leftK_nil es k (by omega), List.take_succ_eq_append_getElem (by omega), getD_of_lt (by omega)]
    simp

theorem getD_rep (n k : Nat) (h : k < n) : (List.replicate n true).getD k false = true := by
  rw [List.getD_eq_getElem?_getD, List.getElem?_replicate]; simp [h]
theorem outK_all (es : List Ent) (n : Nat) : ∀ k, k ≤ es.length → k ≤ n → outK es (List.replicate n true) k = es.take k
  | 0, _, _ => by simp [outK]
  | k + 1, h, hn => by
    rw [outK, outK_all es n k (by omega) (by omega), getD_rep n k (by omega), List.take_succ_eq_append_getElem (by omega), getD_of_lt (by omega)]
    simp
theorem leftK_all (es : List Ent) (n : Nat) : ∀ k, k ≤ n → leftK es (List.replicate n true) k = []
  | 0, _ => rfl
  | k + 1, hn => by rw [leftK, leftK_all es n k (by omega), getD_rep n k (by omega)]; simp

theorem perm_parts (es : List Ent) (gone : List Bool) : ∀ k, k ≤ es.length → (leftK es gone k ++ outK es gone k).Perm (es.take k)
  | 0, _ => by simp [leftK, outK]
  | k + 1, h => by
    have ih := perm_parts es gone k (by omega)
    rw [leftK, outK, List.take_succ_eq_append_getElem (by omega), getD_of_lt (by omega)]
    split
    · rw [List.append_nil, ← List.append_assoc]
      exact ih.append_right _
    · rw [List.append_nil, List.append_assoc]
      refine (List.Perm.append_left _ List.perm_append_comm).trans ?_
      rw [← List.append_assoc]
      exact ih.append_right _

theorem outK_pre (es : List Ent) (gone : List Bool) (k : Nat) : ∀ n, k ≤ n → outK es gone k <+: outK es gone n
  | 0, h => by have : k = 0 := by omega
               subst this; exact List.prefix_refl _
  | n + 1, h => by
    by_cases e : k = n + 1
    · subst e; exact List.prefix_refl _
    · exact (outK_pre es gone k n (by omega)).trans (by rw [outK]; exact List.prefix_append _ _)
theorem leftK_pre (es : List Ent) (gone : List Bool) (k : Nat) : ∀ n, k ≤ n → leftK es gone k <+: leftK es gone n
  | 0, h => by have : k = 0 := by omega
               subst this; exact List.prefix_refl _
  | n + 1, h => by
    by_cases e : k = n + 1
    · subst e; exact List.prefix_refl _
    · exact (leftK_pre es gone k n (by omega)).trans (by rw [leftK]; exact List.prefix_append _ _)

theorem outK_at (es : List Ent) (gone : List Bool) (k n : Nat) (h : k < es.length) (hn : k < n) (hg : gone.getD k false = true) :
    ∃ hl : (outK es gone k).length < (outK es gone n).length, (outK es gone n)[(outK es gone k).length] = es[k] := by
  obtain ⟨t, ht⟩ := outK_pre es gone (k + 1) n (by omega)
  rw [outK, if_pos hg, getD_of_lt h] at ht
  refine ⟨by rw [← ht]; simp, ?_⟩
  simp only [← ht, List.append_assoc]
  simp
theorem leftK_at (es : List Ent) (gone : List Bool) (k n : Nat) (h : k < es.length) (hn : k < n) (hg : ¬ gone.getD k false = true) :
    ∃ hl : (leftK es gone k).length < (leftK es gone n).length, (leftK es gone n)[(leftK es gone k).length] = es[k] := by
  obtain ⟨t, ht⟩ := leftK_pre es gone (k + 1) n (by omega)
  rw [leftK, if_neg hg, getD_of_lt h] at ht
  refine ⟨by rw [← ht]; simp, ?_⟩
  simp only [← ht, List.append_assoc]
  simp
theorem outK_len (es : List Ent) (gone : List Bool) (k : Nat) : (outK es gone (k + 1)).length = (outK es gone k).length + if gone.getD k false = true then 1 else 0 := by
  rw [outK]; split <;> simp
theorem leftK_len (es : List Ent) (gone : List Bool) (k : Nat) : (leftK es gone (k + 1)).length = (leftK es gone k).length + if gone.getD k false = true then 0 else 1 := by
  rw [leftK]; split <;> simp

/-- What was swept can be added again: one by one. -/
theorem back_new {es : List Ent} (hg : Good es) (gone : List Bool) (k : Nat) (hk : k < (outK es gone es.length).length) :
    addCode (leftK es gone es.length ++ (outK es gone es.length).take k) (outK es gone es.length)[k] = 0 ∧
    addL (leftK es gone es.length ++ (outK es gone es.length).take k) (outK es gone es.length)[k] = leftK es gone es.length ++ (outK es gone es.length).take (k + 1) ∧
    addCode (leftK es gone es.length ++ (outK es gone es.length).take (k + 1)) (outK es gone es.length)[k] = 8 ∧
    addL (leftK es gone es.length ++ (outK es gone es.length).take (k + 1)) (outK es gone es.length)[k] = leftK es gone es.length ++ (outK es gone es.length).take (k + 1) ∧ (outK es gone es.length)[k].wf := by
  have hp := perm_parts es gone es.length (Nat.le_refl _)
  rw [List.take_length] at hp
  have hmem : (outK es gone es.length)[k] ∈ es := hp.subset (List.mem_append_right _ (List.getElem_mem _))
  have hm := hg.may _ hmem
  have hnd : ((leftK es gone es.length ++ outK es gone es.length).map Ent.ref).Nodup := (hp.map Ent.ref).nodup_iff.2 hg.nodup
  have hno : ¬ (outK es gone es.length)[k].ref ∈ (leftK es gone es.length ++ (outK es gone es.length).take k).map Ent.ref := by
    generalize outK es gone es.length = o at *
    generalize leftK es gone es.length = l at *
    intro hin
    have hs : (l ++ o) = (l ++ o.take k) ++ o[k] :: o.drop (k + 1) := by
      rw [List.append_assoc, ← List.drop_eq_getElem_cons hk, List.take_append_drop]
    rw [hs, List.map_append, List.nodup_append] at hnd
    exact hnd.2.2 _ hin _ (List.mem_map_of_mem List.mem_cons_self) rfl
  have hyes : (outK es gone es.length)[k].ref ∈ (leftK es gone es.length ++ (outK es gone es.length).take (k + 1)).map Ent.ref := by
    refine List.mem_map_of_mem (List.mem_append_right _ ?_)
    rw [List.take_succ_eq_append_getElem hk]
    exact List.mem_append_right _ List.mem_cons_self
  refine ⟨?_, ?_, ?_, ?_, hg.wf _ hmem⟩
  · unfold addCode; rw [if_pos hm, if_neg hno]
  · unfold addL; rw [if_pos hm, if_neg hno, List.append_assoc, ← List.take_succ_eq_append_getElem hk]
  · unfold addCode; rw [if_pos hm, if_pos hyes]
  · unfold addL; rw [if_pos hm, if_pos hyes]
end Go.Proofs.Ytcemcphkgehbhaa
