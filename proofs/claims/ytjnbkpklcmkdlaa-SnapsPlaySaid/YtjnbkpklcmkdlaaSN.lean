/- The document's taker: one step. -/
import Derived.Test.YtjnbkpklcmkdlaaSK
import Derived.Test.YtjnbkpklcmkdlaaSL
import Derived.Test.YtjnbkpklcmkdlaaSM
namespace Go.Proofs.Ytjnbkpklcmkdlaa
open Go.RowKit

theorem rstp_any {fp fpu : Nat → Prop} {R N U : Nat} {f : Adr → Int} {s : Int} {L : Acc} {t : TSt} {w : World} (h : RefAt fp R N f s L w) (hN : N ≤ 99999) (ht : RTis fpu U t w) (hd : ∀ x, fpu x → ¬ fp x) (hok : t.ok) (hfr : t.fresh) (hno : t.over = false) (hb : 0 ≤ f bAdr) :
    Calls Try.prog 23 #[.pointer (some ⟨U, 0, none⟩), .pointer (some ⟨R, 0, none⟩)] w (RStpPost fp fpu R N U f s (tAsk t) (tNext f t) w) := by
  cases t with
  | start => exact rstart_any h hN ht hd hb
  | on n i j Rw =>
    have hj : j < 10 := hok.2.2
    obtain rfl | rfl | rfl | rfl | rfl | rfl | rfl | rfl | rfl | rfl : j = 0 ∨ j = 1 ∨ j = 2 ∨ j = 3 ∨ j = 4 ∨ j = 5 ∨ j = 6 ∨ j = 7 ∨ j = 8 ∨ j = 9 := by omega
    · exact ron_0 h hN ht hd hok hfr rfl
    · exact ron_1 h hN ht hd hok hfr rfl
    · exact ron_2 h hN ht hd hok hfr rfl
    · exact ron_3 h hN ht hd hok hfr rfl
    · exact ron_4 h hN ht hd hok hfr rfl
    · exact ron_5 h hN ht hd hok hfr rfl
    · exact ron_6 h hN ht hd hok hfr rfl
    · exact ron_7 h hN ht hd hok hfr rfl
    · exact ron_8 h hN ht hd hok hfr rfl
    · exact ron_9 h hN ht hd hok hfr rfl
  | fin n Rw => cases hno
theorem RTis.keep {fp S : Nat → Prop} {U : Nat} {t : TSt} {w w' : World} (h : RTis fp U t w) (hm : Mod S w w') (hd : ∀ x, fp x → ¬ S x) : RTis fp U t w' := by
  cases t with
  | start => exact RTk.keep h hm hd
  | on n i j Rw =>
    obtain ⟨v, h⟩ := h
    exact ⟨v, h.keep hm hd⟩
  | fin n Rw =>
    obtain ⟨v, h⟩ := h
    exact ⟨v, h.keep hm hd⟩
/-- The line, as it is compared with 0. -/
theorem RTis.line {fp : Nat → Prop} {U : Nat} {t : TSt} {w : World} (h : RTis fp U t w) : ∃ l : Int, w.cell? ⟨U, 0, none⟩ = some (.int .i64 l) ∧ (l == 0) = t.over ∧ decide (l > 0) = !t.over := by
  cases t with
  | start => exact ⟨1, cell_of (RTk.own h) rfl, rfl, rfl⟩
  | on n i j Rw =>
    obtain ⟨v, h⟩ := h
    exact ⟨2, cell_of h.own rfl, rfl, rfl⟩
  | fin n Rw =>
    obtain ⟨v, h⟩ := h
    exact ⟨0, cell_of h.own rfl, rfl, rfl⟩
end Go.Proofs.Ytjnbkpklcmkdlaa
