/- Plain arithmetic: the children of the common node of two different devices. No program. -/
import Derived.Test.YtidlnaanldccfaaMath2
namespace Go.Proofs.Ytidlnaanldccfaa
open Go.RowKit

theorem dist_pos (a b : Int) (h0 : 0 ≤ a) (h1 : a < 512) (h2 : 0 ≤ b) (h3 : b < 512) (hne : a ≠ b) : 1 ≤ dist a b := by
  rcases Nat.eq_zero_or_pos (dist a b) with h | h
  · have := (nd_eq_iff a b 0 h0 h1 h2 h3).2 (by omega)
    rw [nd_zero, nd_zero] at this
    omega
  · exact h

theorem nd_mono (a b : Int) (k : Nat) (h : a ≤ b) : nd a k ≤ nd b k := by
  unfold nd
  exact Int.ediv_le_ediv (Int.pow_pos (by omega)) (by omega)

/-- Below their common node the lesser device is under the left child, the greater one under the right child. -/
theorem com_children (a b : Int) (h0 : 0 ≤ a) (h3 : b < 512) (hab : a < b) :
    1 ≤ com a b ∧ com a b < 512 ∧ till (2 * com a b) = fr (2 * com a b + 1) ∧ fr (2 * com a b) ≤ a ∧ a < till (2 * com a b) ∧ till (2 * com a b) ≤ b ∧ b < till (2 * com a b + 1) := by
  have hp := dist_pos a b h0 (by omega) (by omega) h3 (by omega)
  have hl := dist_le a b h0 (by omega) (by omega) h3
  obtain ⟨k, hk⟩ : ∃ k, dist a b = k + 1 := ⟨dist a b - 1, by omega⟩
  have hne : nd a k ≠ nd b k := fun h => by
    have := (nd_eq_iff a b k h0 (by omega) (by omega) h3).1 h
    omega
  have heq : nd a (k + 1) = nd b (k + 1) := (nd_eq_iff a b (k + 1) h0 (by omega) (by omega) h3).2 (by omega)
  have hm := nd_mono a b k (by omega)
  have hc : com a b = nd a (k + 1) := by unfold com; rw [hk]
  have ea := nd_succ a k
  have eb := nd_succ b k
  have x1 : nd a k = 2 * com a b := by omega
  have x2 : nd b k = 2 * com a b + 1 := by omega
  have la := lev_nd a k h0 (by omega) (by omega)
  have lb := lev_nd b k (by omega) h3 (by omega)
  rw [x1] at la
  rw [x2] at lb
  have ua := (under_iff (2 * com a b) a).2 (by rw [la, x1])
  have ub := (under_iff (2 * com a b + 1) b).2 (by rw [lb, x2])
  have pa := nd_pos a k h0 (by omega) (by omega)
  have pb := nd_pos b k (by omega) h3 (by omega)
  have et : till (2 * com a b) = fr (2 * com a b + 1) := by unfold till fr; rw [la, lb]
  omega

theorem meet_iff (a b : Int) (h0 : 0 ≤ a) (h1 : a < 512) (h2 : 0 ≤ b) (h3 : b < 512) (k : Nat) : (nd a (k + 1) == nd b (k + 1)) = decide ((dist a b : Int) - 1 ≤ k) := by
  have h := nd_eq_iff a b (k + 1) h0 h1 h2 h3
  by_cases hd : dist a b ≤ k + 1
  · rw [decide_eq_true (by omega), beq_iff_eq]
    exact h.2 hd
  · rw [decide_eq_false (by omega), beq_eq_false_iff_ne]
    exact fun e => hd (h.1 e)
end Go.Proofs.Ytidlnaanldccfaa
