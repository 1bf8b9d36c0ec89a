/- Slices of entries: read, compared, cloned, clipped. -/
import Derived.Test.YtcemcphkgehbhaaA
import Derived.Deep.DeepCutAuto
import Derived.Lib.Hide
namespace Go.Proofs.Ytcemcphkgehbhaa
open Go.RowKit

/-- A slice value of n elements whose cells read as xs. -/
def Rd (w : World) (size : Nat) (v : Value) (n : Nat) (xs : List Value) : Prop :=
  xs.length = n * size ∧ ((v = .slice none 0 0 ∧ n = 0) ∨ ∃ b off cap, v = .slice (some ⟨b, off, none⟩) n cap ∧ ∀ j u, xs[j]? = some u → w.cell? ⟨b, off + j, none⟩ = some u)

def flat (es : List Ent) : List Value := es.flatMap Ent.cells


theorem ret_bool {a b : Bool} (h : a = b) : Ending.returned (.bool a) = .returned (.bool b) := by rw [h]
theorem ret_int {k : IntKind} {a b : Int} (h : a = b) : Ending.returned (.int k a) = .returned (.int k b) := by rw [h]
def EntAt (w : World) (b o : Nat) (e : Ent) : Prop :=
  w.cell? ⟨b, o, none⟩ = some (.int .i64 e.slot) ∧ w.cell? ⟨b, o + 1, none⟩ = some (.int .u32 e.gen) ∧ w.cell? ⟨b, o + 2, none⟩ = some (.bool e.mark) ∧
  w.cell? ⟨b, o + 3, none⟩ = some (.int .u64 e.birth) ∧ w.cell? ⟨b, o + 4, none⟩ = some (.int .u64 e.epoch) ∧ w.cell? ⟨b, o + 5, none⟩ = some (.int .u64 e.era)


set_option maxHeartbeats 1000000 in
theorem eq_ref (x y : Ref) (w : World) : (Op.equalIn 10000 31 (refVal x) (refVal y)).run Try.prog w = .ok (decide (x = y)) w := by
  obtain ⟨a, b, c⟩ := x
  obtain ⟨a', b', c'⟩ := y
  simp only [refVal]
  go_simp
  by_cases h1 : a = a' <;> by_cases h2 : b = b' <;> by_cases h3 : c = c' <;> simp [h1, h2, h3]
set_option maxHeartbeats 1000000 in
theorem eq_ent (x y : Ent) (w : World) : (Op.equalIn 10000 34 x.val y.val).run Try.prog w = .ok (decide (x = y)) w := by
  obtain ⟨a, b, c, d, e, f⟩ := x
  obtain ⟨a', b', c', d', e', f'⟩ := y
  simp only [Ent.val]
  go_simp
  by_cases h1 : a = a'
  · by_cases h2 : b = b'
    · by_cases h3 : c = c'
      · by_cases h4 : d = d'
        · by_cases h5 : e = e'
          · by_cases h6 : f = f' <;> simp [h1, h2, h3, h4, h5, h6]
          · simp [h5]
        · simp [h4]
      · simp [h3]
    · simp [h2]
  · simp [h1]

/-- A slice value that reads as entries. -/
def Ents (w : World) (v : Value) (es : List Ent) : Prop :=
  ∃ a cap, v = .slice a es.length cap ∧ (es = [] ∨ ∃ b off, a = some ⟨b, off, none⟩ ∧ ∀ k (h : k < es.length), EntAt w b (off + k * 6) es[k])

set_option maxHeartbeats 400000 in
theorem same_any (v v' : Value) (es es' : List Ent) (w : World) (hn : es.length ≤ 1000) (hn' : es'.length ≤ 1000) (c0 : Ents w v es) (c1 : Ents w v' es') :
    Calls Try.prog 8 #[v, v'] w fun e w' => e = .returned (.bool (decide (es = es'))) ∧ ∃ n, w' = w.drewN n := by
  obtain ⟨a, cap, rfl, c0⟩ := c0
  obtain ⟨a', cap', rfl, c1⟩ := c1
  have C0 := Lib.hid c0
  have C1 := Lib.hid c1
  clear c0 c1
  by_cases hl : es.length = es'.length
  · have hb : ((es.length : Int) != (es'.length : Int)) = false := by rw [bne_eq_false_iff_eq]; omega
    have HL := Lib.hid hl
    clear hl
    go_enter Try.func8, Try.ntmps8
    go_wp2
    go_loopw [5] (fun i wr => ∃ k : Nat, k ≤ es.length ∧ i = .int .i64 k ∧ es.take k = es'.take k ∧ (∃ n, wr = w.drewN n)) (fun i wr => es.length - (intOf i).toNat)
    case atStart => exact ⟨0, Nat.zero_le _, rfl, rfl, 0, rfl⟩
    case round =>
      obtain ⟨k, hk, rfl, htk, nn, rfl⟩ := hrel
      have HT := Lib.hid htk
      clear htk
      by_cases hlt : k < es.length
      · have hlt' : k < es'.length := by rw [← HL.out]; exact hlt
        obtain ⟨b, off, rfl, D0⟩ := C0.out.resolve_left (fun h => by rw [h] at hlt; simp at hlt)
        obtain ⟨b', off', rfl, D1⟩ := C1.out.resolve_left (fun h => by rw [h] at hlt'; simp at hlt')
        obtain ⟨a0, a1, a2, a3, a4, a5⟩ := D0 k hlt
        obtain ⟨b0, b1, b2, b3, b4, b5⟩ := D1 k hlt'
        clear D0 D1 C0 C1
        by_cases hxy : es[k] = es'[k]
        · have HT' : Hid (es.take (k + 1) = es'.take (k + 1)) := by
            unfold Hid
            rw [List.take_succ_eq_append_getElem hlt, List.take_succ_eq_append_getElem hlt', HT.out, hxy]
          have HX := Lib.hid hxy
          clear hxy
          generalize hx : es[k] = x at *
          generalize hy : es'[k] = y at *
          have he : ∀ w, (Op.equalIn 10000 34 x.val y.val).run Try.prog w = .ok true w := fun w => by rw [eq_ent, decide_eq_true HX.out]
          simp only [Ent.val] at he
          go_wp2
          go_quiet (fail)
          go_wp2
          go_roundw
          case rel => exact ⟨k + 1, by omega, by go_num, HT'.out, _, rfl⟩
          case measure => simp [intOf]; omega
        · have HN : Hid (¬ es = es') := fun e => hxy (by subst e; rfl)
          have HX := Lib.hid hxy
          clear hxy
          generalize hx : es[k] = x at *
          generalize hy : es'[k] = y at *
          have he : ∀ w, (Op.equalIn 10000 34 x.val y.val).run Try.prog w = .ok false w := fun w => by rw [eq_ent, decide_eq_false HX.out]
          simp only [Ent.val] at he
          go_wp2
          go_quiet (fail)
          go_wp2
          go_ret
          exact ⟨ret_bool (decide_eq_false HN.out).symm, _, World.drewN_drewN _ _ _⟩
      · have HE : Hid (es = es') := by
          unfold Hid
          have h := HT.out
          rwa [List.take_of_length_le (by omega), List.take_of_length_le (by have := HL.out; omega)] at h
        go_wp2
        go_ret
        exact ⟨ret_bool (decide_eq_true HE.out).symm, _, rfl⟩
  · have hb : ((es.length : Int) != (es'.length : Int)) = true := by rw [bne_iff_ne]; omega
    have HN : Hid (¬ es = es') := fun e => hl (by rw [e])
    clear hl
    go_enter Try.func8, Try.ntmps8
    go_wp2
    go_ret
    exact ⟨ret_bool (decide_eq_false HN.out).symm, 0, rfl⟩
end Go.Proofs.Ytcemcphkgehbhaa
