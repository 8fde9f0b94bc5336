/- Plain arithmetic of the nodes of the tree, continued: levels of the nodes of a path, what lies under a node. No program. -/
import Derived.Test.YtidlnaanldccfaaMath
namespace Go.Proofs.Ytidlnaanldccfaa
open Go.RowKit

theorem pow_cast (k : Nat) : ((2 ^ k : Nat) : Int) = 2 ^ k := by push_cast; rfl

theorem bitLen_eq (x m : Nat) (hm : 1 ≤ m) (h0 : 2 ^ (m - 1) ≤ x) (h1 : x < 2 ^ m) (hx : x < 2 ^ 64) : Lib.bitLen x = m := by
  have a := (bitLen_le_iff x m hx).2 h1
  have b : ¬ Lib.bitLen x ≤ m - 1 := fun h => by
    have := (bitLen_le_iff x (m - 1) hx).1 h
    omega
  omega

theorem lev_of_bounds (n : Int) (k : Nat) (hk : k ≤ 9) (h0 : 2 ^ (9 - k) ≤ n) (h1 : n < 2 ^ (10 - k)) : lev n = k := by
  have hp := Nat.two_pow_pos (9 - k)
  have e0 := pow_cast (9 - k)
  have e1 := pow_cast (10 - k)
  have hle : (2 : Nat) ^ (10 - k) ≤ 2 ^ 10 := Nat.pow_le_pow_right (by omega) (by omega)
  have hb : Lib.bitLen n.toNat = 10 - k := bitLen_eq n.toNat (10 - k) (by omega) (by rw [show 10 - k - 1 = 9 - k by omega]; omega) (by omega) (by omega)
  unfold lev
  omega

theorem lev_nd (d : Int) (k : Nat) (h0 : 0 ≤ d) (h1 : d < 512) (hk : k ≤ 9) : lev (nd d k) = k := by
  have h := nd_bounds d k h0 h1 hk
  exact lev_of_bounds _ k hk h.1 h.2

theorem nd_pos (d : Int) (k : Nat) (h0 : 0 ≤ d) (h1 : d < 512) (hk : k ≤ 9) : 1 ≤ nd d k ∧ nd d k < 1024 := by
  have h := nd_bounds d k h0 h1 hk
  have e0 := pow_cast (9 - k)
  have e1 := pow_cast (10 - k)
  have hp := Nat.two_pow_pos (9 - k)
  have hle : (2 : Nat) ^ (10 - k) ≤ 2 ^ 10 := Nat.pow_le_pow_right (by omega) (by omega)
  omega

/-- The devices under a node are those on whose path it is. -/
theorem under_iff (n d : Int) : (fr n ≤ d ∧ d < till n) ↔ nd d (lev n) = n := by
  have hp : (0 : Int) < 2 ^ lev n := Int.pow_pos (by omega)
  unfold fr till nd
  generalize (2 : Int) ^ lev n = p at *
  have e1 : (n + 1) * p = n * p + p := by rw [Int.add_mul, Int.one_mul]
  constructor
  · rintro ⟨a, b⟩
    have h1 : n ≤ (512 + d) / p := (Int.le_ediv_iff_mul_le hp).2 (by omega)
    have h2 : (512 + d) / p < n + 1 := (Int.ediv_lt_iff_lt_mul hp).2 (by omega)
    omega
  · intro h
    have h1 := (Int.le_ediv_iff_mul_le (a := n) (b := 512 + d) hp).1 (by omega)
    have h2 := (Int.ediv_lt_iff_lt_mul (a := 512 + d) (b := n + 1) hp).1 (by omega)
    omega

theorem lev_com (a b : Int) (h0 : 0 ≤ a) (h1 : a < 512) (h2 : 0 ≤ b) (h3 : b < 512) : lev (com a b) = dist a b := by
  unfold com
  exact lev_nd a _ h0 h1 (dist_le a b h0 h1 h2 h3)

theorem com_pos (a b : Int) (h0 : 0 ≤ a) (h1 : a < 512) (h2 : 0 ≤ b) (h3 : b < 512) : 1 ≤ com a b ∧ com a b < 1024 := by
  unfold com
  exact nd_pos a _ h0 h1 (dist_le a b h0 h1 h2 h3)

theorem com_self (a : Int) : com a a = 512 + a := by
  unfold com dist
  rw [Nat.xor_self, show Lib.bitLen 0 = 0 by decide, nd_zero]

theorem com_least (a b n : Int) (h0 : 0 ≤ a) (h1 : a < 512) (h2 : 0 ≤ b) (h3 : b < 512) (ha : fr n ≤ a) (ha' : a < till n) (hb : fr n ≤ b) (hb' : b < till n) : lev (com a b) ≤ lev n := by
  rw [lev_com a b h0 h1 h2 h3, ← nd_eq_iff a b _ h0 h1 h2 h3, (under_iff n a).1 ⟨ha, ha'⟩, (under_iff n b).1 ⟨hb, hb'⟩]

/-! ### Siblings -/
theorem sib_half (n : Int) : sib n / 2 = n / 2 := by unfold sib; split <;> omega
theorem sib_ne (n : Int) : n ≠ sib n := by unfold sib; split <;> omega
theorem sib_max (n : Int) : max n (sib n) = 2 * (n / 2) + 1 := by unfold sib; split <;> omega
theorem sib_bounds (d : Int) (k : Nat) (h0 : 0 ≤ d) (h1 : d < 512) (hk : k < 9) : 2 ^ (9 - k) ≤ sib (nd d k) ∧ sib (nd d k) < 2 ^ (10 - k) := by
  have h := nd_bounds d k h0 h1 (by omega)
  have e0 : (2 : Int) ^ (9 - k) = 2 * 2 ^ (8 - k) := by rw [show 9 - k = (8 - k) + 1 by omega, Int.pow_succ]; omega
  have e1 : (2 : Int) ^ (10 - k) = 2 * 2 ^ (9 - k) := by rw [show 10 - k = (9 - k) + 1 by omega, Int.pow_succ]; omega
  unfold sib
  split <;> omega
theorem lev_sib (d : Int) (k : Nat) (h0 : 0 ≤ d) (h1 : d < 512) (hk : k < 9) : lev (sib (nd d k)) = k := by
  have h := sib_bounds d k h0 h1 hk
  exact lev_of_bounds _ k (by omega) h.1 h.2
theorem sib_pos (d : Int) (k : Nat) (h0 : 0 ≤ d) (h1 : d < 512) (hk : k < 9) : 1 ≤ sib (nd d k) ∧ sib (nd d k) < 1024 := by
  have h := sib_bounds d k h0 h1 hk
  have e0 := pow_cast (9 - k)
  have e1 := pow_cast (10 - k)
  have hp := Nat.two_pow_pos (9 - k)
  have hle : (2 : Nat) ^ (10 - k) ≤ 2 ^ 10 := Nat.pow_le_pow_right (by omega) (by omega)
  omega
end Go.Proofs.Ytidlnaanldccfaa
