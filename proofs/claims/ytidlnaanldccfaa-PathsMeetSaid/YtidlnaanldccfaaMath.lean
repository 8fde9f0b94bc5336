/- Plain arithmetic of the nodes of the tree: levels, ranges of devices, common nodes. No program. -/
import Derived.Lib.Small
import Derived.Lib.BitFns
import Derived.Lib.ItoaNum
import Derived.RowKit
namespace Go.Proofs.Ytidlnaanldccfaa
open Go.RowKit

/-- The level of a node. -/
def lev (n : Int) : Nat := 10 - Lib.bitLen n.toNat
/-- The first device under a node, and the one after the last. -/
def fr (n : Int) : Int := n * 2 ^ lev n - 512
def till (n : Int) : Int := (n + 1) * 2 ^ lev n - 512
/-- The node above the leaf of a device, k levels up. -/
def nd (d : Int) (k : Nat) : Int := (512 + d) / 2 ^ k
/-- The sibling of a node. -/
def sib (n : Int) : Int := if n % 2 = 0 then n + 1 else n - 1
/-- The common node of two devices: the first place at which their paths meet. -/
def dist (a b : Int) : Nat := Lib.bitLen ((512 + a).toNat ^^^ (512 + b).toNat)
def com (a b : Int) : Int := nd a (dist a b)

theorem bitLen_bounds (x : Nat) (h0 : x ≠ 0) (h : x < 2 ^ 64) : 1 ≤ Lib.bitLen x ∧ 2 ^ (Lib.bitLen x - 1) ≤ x ∧ x < 2 ^ Lib.bitLen x := Lib.bitLenAux_bounds 64 x h h0

theorem bitLen_10 (m : Nat) (h : 512 ≤ m) (h1 : m < 1024) : Lib.bitLen m = 10 := by
  have h2 : ∀ k : Fin 512, Lib.bitLen (512 + k.val) = 10 := by decide +kernel
  have := h2 ⟨m - 512, by omega⟩
  simp only at this
  rwa [show 512 + (m - 512) = m by omega] at this

theorem bitLen_lt (n : Nat) (h : n < 1024) : Lib.bitLen n ≤ 10 := Lib.bitLen_le n 10 (by omega) (by simpa using h)

theorem lev_le (n : Int) : lev n ≤ 10 := by unfold lev; omega

theorem lev_lt (n : Int) (h0 : 1 ≤ n) (h1 : n < 1024) : lev n ≤ 9 := by
  have := (bitLen_bounds n.toNat (by omega) (by omega)).1
  unfold lev
  omega

/-- Doubled k times a node lies among the leaves: k is its level. -/
theorem lev_of (n : Nat) (k : Nat) (h0 : 512 ≤ n * 2 ^ k) (h1 : n * 2 ^ k < 1024) (hn : 1 ≤ n) : lev (n : Int) = k := by
  have hk : k ≤ 10 := by
    rcases Nat.lt_or_ge 10 k with h | h
    · have : 2 ^ 11 ≤ 2 ^ k := Nat.pow_le_pow_right (by omega) (by omega)
      have : 1 * 2 ^ k ≤ n * 2 ^ k := Nat.mul_le_mul_right _ hn
      omega
    · exact h
  have h2 : 2 ^ k ≤ n * 2 ^ k := by
    have : 1 * 2 ^ k ≤ n * 2 ^ k := Nat.mul_le_mul_right _ hn
    omega
  have h3 := Lib.bitLen_shift k (n * 2 ^ k) h2 (by omega)
  rw [bitLen_10 _ h0 h1, Nat.mul_div_cancel _ (Nat.two_pow_pos k)] at h3
  unfold lev
  rw [Int.toNat_natCast]
  omega

/-- A node doubled as often as its level says lies among the leaves. -/
theorem lev_leaf (n : Nat) (h0 : 1 ≤ n) (h1 : n < 1024) : 512 ≤ n * 2 ^ lev (n : Int) ∧ (n + 1) * 2 ^ lev (n : Int) ≤ 1024 := by
  have h2 : ∀ k : Fin 1023, 512 ≤ (k.val + 1) * 2 ^ lev ((k.val + 1 : Nat) : Int) ∧ (k.val + 1 + 1) * 2 ^ lev ((k.val + 1 : Nat) : Int) ≤ 1024 := by decide +kernel
  have := h2 ⟨n - 1, by omega⟩
  simp only at this
  rwa [show n - 1 + 1 = n by omega] at this

theorem leaf_bounds (n : Int) (h0 : 1 ≤ n) (h1 : n < 1024) : 512 ≤ n * 2 ^ lev n ∧ (n + 1) * 2 ^ lev n ≤ 1024 ∧ n * 2 ^ lev n < (n + 1) * 2 ^ lev n := by
  obtain ⟨m, rfl⟩ : ∃ m : Nat, n = m := ⟨n.toNat, by omega⟩
  have h := lev_leaf m (by omega) (by omega)
  have hp := Nat.two_pow_pos (lev (m : Int))
  have e1 : ((m * 2 ^ lev (m : Int) : Nat) : Int) = (m : Int) * 2 ^ lev (m : Int) := by push_cast; rfl
  have e2 : (((m + 1) * 2 ^ lev (m : Int) : Nat) : Int) = ((m : Int) + 1) * 2 ^ lev (m : Int) := by push_cast; rfl
  have e3 : (m + 1) * 2 ^ lev (m : Int) = m * 2 ^ lev (m : Int) + 2 ^ lev (m : Int) := by rw [Nat.add_mul, Nat.one_mul]
  omega

theorem wrap_small {x : Int} (h0 : -9223372036854775808 ≤ x) (h1 : x ≤ 9223372036854775807) : wrap64 x = x := by unfold wrap64; omega

theorem wrap_fr (n : Int) (h0 : 1 ≤ n) (h1 : n < 1024) : wrap64 (wrap64 (n * 2 ^ lev n) - 512) = fr n := by
  have h := leaf_bounds n h0 h1
  unfold fr
  rw [wrap_small (x := n * 2 ^ lev n) (by omega) (by omega), wrap_small (by omega) (by omega)]
theorem wrap_till (n : Int) (h0 : 1 ≤ n) (h1 : n < 1024) : wrap64 (wrap64 ((n + 1) * 2 ^ lev n) - 512) = till n := by
  have h := leaf_bounds n h0 h1
  unfold till
  rw [wrap_small (x := (n + 1) * 2 ^ lev n) (by omega) (by omega), wrap_small (by omega) (by omega)]

theorem fr_bounds (n : Int) (h0 : 1 ≤ n) (h1 : n < 1024) : 0 ≤ fr n ∧ fr n < till n ∧ till n ≤ 512 := by
  have h := leaf_bounds n h0 h1
  unfold fr till
  omega

theorem till_fr (n : Int) : till n - fr n = 2 ^ lev n := by
  unfold fr till
  rw [Int.add_mul]
  omega

theorem bitLen_le_iff (x k : Nat) (h : x < 2 ^ 64) : Lib.bitLen x ≤ k ↔ x < 2 ^ k := by
  by_cases h0 : x = 0
  · subst h0
    have : Lib.bitLen 0 = 0 := by decide
    rw [this]
    exact ⟨fun _ => Nat.two_pow_pos k, fun _ => Nat.zero_le _⟩
  · obtain ⟨h1, h2, h3⟩ := bitLen_bounds x h0 h
    constructor
    · intro hk
      exact Nat.lt_of_lt_of_le h3 (Nat.pow_le_pow_right (by omega) hk)
    · intro hk
      refine Classical.byContradiction fun hn => ?_
      have : 2 ^ k ≤ 2 ^ (Lib.bitLen x - 1) := Nat.pow_le_pow_right (by omega) (by omega)
      omega

theorem xor_zero_iff (a b : Nat) : a ^^^ b = 0 ↔ a = b := by
  constructor
  · intro h
    have : a ^^^ b ^^^ b = 0 ^^^ b := by rw [h]
    rwa [Nat.xor_assoc, Nat.xor_self, Nat.xor_zero, Nat.zero_xor] at this
  · rintro rfl
    exact Nat.xor_self a

theorem div_eq_iff (a b k : Nat) (ha : a < 1024) (hb : b < 1024) : a / 2 ^ k = b / 2 ^ k ↔ Lib.bitLen (a ^^^ b) ≤ k := by
  have hx : a ^^^ b < 1024 := Nat.xor_lt_two_pow (n := 10) (by omega) (by omega)
  rw [bitLen_le_iff _ _ (by omega), ← xor_zero_iff, ← Nat.shiftRight_eq_div_pow, ← Nat.shiftRight_eq_div_pow, ← Nat.shiftRight_xor_distrib, Nat.shiftRight_eq_div_pow,
    Nat.div_eq_zero_iff]
  have := Nat.two_pow_pos k
  omega

theorem nd_nat (d : Int) (k : Nat) (h0 : 0 ≤ d) : nd d k = (((512 + d).toNat / 2 ^ k : Nat) : Int) := by
  unfold nd
  rw [Int.natCast_ediv, Int.toNat_of_nonneg (by omega), Int.natCast_pow]
  rfl

theorem nd_eq_iff (a b : Int) (k : Nat) (h0 : 0 ≤ a) (h1 : a < 512) (h2 : 0 ≤ b) (h3 : b < 512) : nd a k = nd b k ↔ dist a b ≤ k := by
  rw [nd_nat a k h0, nd_nat b k h2]
  unfold dist
  rw [← div_eq_iff _ _ _ (by omega) (by omega)]
  omega

theorem dist_le (a b : Int) (h0 : 0 ≤ a) (h1 : a < 512) (h2 : 0 ≤ b) (h3 : b < 512) : dist a b ≤ 9 := by
  rw [← nd_eq_iff a b 9 h0 h1 h2 h3]
  unfold nd
  omega

theorem dist_comm (a b : Int) : dist a b = dist b a := by unfold dist; rw [Nat.xor_comm]

theorem com_comm (a b : Int) (h0 : 0 ≤ a) (h1 : a < 512) (h2 : 0 ≤ b) (h3 : b < 512) : com a b = com b a := by
  unfold com
  rw [dist_comm b a]
  exact (nd_eq_iff a b _ h0 h1 h2 h3).2 (Nat.le_refl _)

theorem nd_succ (d : Int) (k : Nat) : nd d (k + 1) = nd d k / 2 := by
  unfold nd
  rw [Int.ediv_ediv_of_nonneg (Int.le_of_lt (Int.pow_pos (by omega))), Int.pow_succ]

theorem nd_zero (d : Int) : nd d 0 = 512 + d := by unfold nd; simp

theorem nd_bounds (d : Int) (k : Nat) (h0 : 0 ≤ d) (h1 : d < 512) (hk : k ≤ 9) : 2 ^ (9 - k) ≤ nd d k ∧ nd d k < 2 ^ (10 - k) := by
  unfold nd
  have hc : k = 0 ∨ k = 1 ∨ k = 2 ∨ k = 3 ∨ k = 4 ∨ k = 5 ∨ k = 6 ∨ k = 7 ∨ k = 8 ∨ k = 9 := by omega
  rcases hc with rfl | rfl | rfl | rfl | rfl | rfl | rfl | rfl | rfl | rfl <;> simp <;> omega
end Go.Proofs.Ytidlnaanldccfaa
