/- The plain law of the values of polynomials: sums, and products with x - r. No program in sight. -/
import Derived.Test.YtanheijppjpbjaaLaw2
namespace Go.Proofs.Ytanheijppjpbjaa
open Go Go.RowKit Go.Shelf

theorem pol_congr {f g : Nat → Int} {x : Int} : ∀ n, (∀ j, j < n → f j % 2305843009213688669 = g j % 2305843009213688669) → pol f x n % 2305843009213688669 = pol g x n % 2305843009213688669
  | 0, _ => rfl
  | n + 1, h => by
    have ih := pol_congr (x := x) n fun j hj => h j (by omega)
    show (pol f x n + f n * x ^ n) % _ = (pol g x n + g n * x ^ n) % _
    rw [Int.add_emod, ih, Int.mul_emod, h n (by omega), ← Int.mul_emod, ← Int.add_emod]
theorem pol_sum (f g : Nat → Int) (x : Int) : ∀ n, pol (fun j => f j + g j) x n = pol f x n + pol g x n
  | 0 => rfl
  | n + 1 => by
    show pol (fun j => f j + g j) x n + (f n + g n) * x ^ n = (pol f x n + f n * x ^ n) + (pol g x n + g n * x ^ n)
    rw [pol_sum f g x n, Int.add_mul]
    omega
/-- The coefficients of the product with x + m. -/
def raw (m : Int) (P : Nat → Int) (j : Nat) : Int := (if j = 0 then 0 else P (j - 1)) + m * P j
theorem pol_raw (m : Int) (P : Nat → Int) (x : Int) : ∀ k, pol (raw m P) x (k + 1) = pol P x k * (x + m) + m * P k * x ^ k
  | 0 => by
    show 0 + raw m P 0 * x ^ 0 = 0 * (x + m) + m * P 0 * x ^ 0
    simp [raw]
  | k + 1 => by
    show pol (raw m P) x (k + 1) + raw m P (k + 1) * x ^ (k + 1) = (pol P x k + P k * x ^ k) * (x + m) + m * P (k + 1) * x ^ (k + 1)
    rw [pol_raw m P x k]
    have e : raw m P (k + 1) = P k + m * P (k + 1) := by simp [raw]
    rw [e, Int.pow_succ]
    generalize pol P x k = A
    generalize P k = B
    generalize P (k + 1) = C
    generalize x ^ k = D
    grind
/-- The coefficients as the law computes them. -/
def prd (m : Int) (P : Nat → Int) (j : Nat) : Int := ((if j = 0 then 0 else P (j - 1)) + m * P j % 2305843009213688669) % 2305843009213688669
def sm (P R : Nat → Int) (j : Nat) : Int := (P j + R j) % 2305843009213688669
theorem val_sum (P R : Nat → Int) (x : Int) (n : Nat) : pol (sm P R) x n % 2305843009213688669 = (pol P x n % 2305843009213688669 + pol R x n % 2305843009213688669) % 2305843009213688669 := by
  rw [mod_add_l, mod_add_r, ← pol_sum]
  exact pol_congr n fun j _ => Int.emod_emod ..
theorem val_prd (m : Int) (P : Nat → Int) (x : Int) (n : Nat) (h : P n = 0) : pol (prd m P) x (n + 1) % 2305843009213688669 = pol P x n * (x + m) % 2305843009213688669 := by
  have e : pol (raw m P) x (n + 1) = pol P x n * (x + m) := by rw [pol_raw, h, Int.mul_zero, Int.zero_mul, Int.add_zero]
  rw [← e]
  refine pol_congr _ fun j _ => ?_
  unfold prd raw
  rw [Int.emod_emod, mod_add_r]
theorem val_prd_mod (m : Int) (P : Nat → Int) (x : Int) (n : Nat) (h : P n = 0) : pol (prd m P) x (n + 1) % 2305843009213688669 = pol P x n % 2305843009213688669 * ((x + m) % 2305843009213688669) % 2305843009213688669 := by
  rw [val_prd m P x n h, mod_mul_l, mod_mul_r]
theorem val_root (P : Nat → Int) (r : Int) (n : Nat) (h : P n = 0) : pol (prd ((0 - r) % 2305843009213688669) P) r (n + 1) % 2305843009213688669 = 0 := by
  rw [val_prd_mod _ P r n h, mod_add_r, show r + (0 - r) = 0 by omega]
  simp
#print axioms val_root
#print axioms val_prd
end Go.Proofs.Ytanheijppjpbjaa
