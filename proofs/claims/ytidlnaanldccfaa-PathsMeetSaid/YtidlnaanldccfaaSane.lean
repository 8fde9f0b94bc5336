/- The examples of the chapter: sane returns true. -/
import Derived.Test.YtidlnaanldccfaaPaths
namespace Go.Proofs.Ytidlnaanldccfaa
open Go Go.RowKit Go.Shelf

theorem Nine.congr {n : Nat} {W : World} {g : Nat} {x y : Nat → Int} (h : Nine n W g x) (he : ∀ j, j < 9 → x j = y j) : Nine n W g y :=
  ⟨h.new, h.lt, fun j hj => by rw [← he j hj]; exact h.at' j hj⟩

theorem Nine.lit (W : World) (a0 a1 a2 a3 a4 a5 a6 a7 a8 : Int) :
    Nine W.heap.size (W.alloc (.cells #[.int .i64 a0, .int .i64 a1, .int .i64 a2, .int .i64 a3, .int .i64 a4, .int .i64 a5, .int .i64 a6, .int .i64 a7, .int .i64 a8] 3)) W.heap.size (fun j => [a0, a1, a2, a3, a4, a5, a6, a7, a8].getD j 0) := by
  refine ⟨Nat.le_refl _, by simp, fun j hj => ?_⟩
  have hc : j = 0 ∨ j = 1 ∨ j = 2 ∨ j = 3 ∨ j = 4 ∨ j = 5 ∨ j = 6 ∨ j = 7 ∨ j = 8 := by omega
  rcases hc with rfl | rfl | rfl | rfl | rfl | rfl | rfl | rfl | rfl <;> simp

theorem below_drewN2 {B : Nat} {a w : World} (h : Below B a w) (q : Nat) : Below B a (w.drewN q) := ⟨h.os, h.tape, h.output, h.size, h.block⟩

set_option maxHeartbeats 2000000 in
set_option maxRecDepth 100000 in
theorem sane_true (w : World) : Calls Try.prog 10 #[] w fun e W' => e = .returned (.bool true) ∧ Below w.heap.size w W' := by
  have e1 : com 2 3 = 257 := by decide +kernel
  have e2 : com 0 511 = 1 := by decide +kernel
  have e3 : com 7 7 = 519 := by decide +kernel
  have e4 : (lev 2 : Int) = 8 := by decide +kernel
  have e5 : fr 257 = 2 := by decide +kernel
  have e6 : till 257 = 4 := by decide +kernel
  go_enter Try.func10, Try.ntmps10
  go_wp2_with fail
  refine (path_yes 3 _ (by omega) (by omega)).mono ?_
  rintro e W1 ⟨g1, c1, rfl, hn1, hB1⟩
  have N1 := Lib.hid hn1; clear hn1
  go_wp2_with fail
  refine (copath_yes 3 _ (by omega) (by omega)).mono ?_
  rintro e W2 ⟨g2, c2, rfl, hn2, hB2⟩
  have N2 := Lib.hid hn2; clear hn2
  go_wp2_with fail
  refine (leaf_yes 3 _ (by omega) (by omega)).mono ?_
  rintro e w' ⟨rfl, rfl⟩
  go_wp2_with fail
  refine (level_yes 2 _ (by omega) (by omega)).mono ?_
  rintro e w' ⟨rfl, rfl⟩
  go_wp2_with fail
  refine (under_yes 257 _ (by omega) (by omega)).mono ?_
  rintro e w' ⟨rfl, q, rfl⟩
  go_wp2_with fail
  refine (common_yes 2 3 _ (by omega) (by omega) (by omega) (by omega)).mono ?_
  rintro e w' ⟨rfl, rfl⟩
  go_wp2_with fail
  refine (common_yes 0 511 _ (by omega) (by omega) (by omega) (by omega)).mono ?_
  rintro e w' ⟨rfl, rfl⟩
  go_wp2_with fail
  refine (common_yes 7 7 _ (by omega) (by omega) (by omega) (by omega)).mono ?_
  rintro e w' ⟨rfl, rfl⟩
  go_wp2_with fail
  refine (leaf_no 512 _ (by omega)).mono ?_
  rintro e w' ⟨rfl, rfl⟩
  go_wp2_with fail
  refine (level_no 0 _ (by omega)).mono ?_
  rintro e w' ⟨rfl, rfl⟩
  go_wp2_with fail
  refine (under_no 1024 _ (by omega)).mono ?_
  rintro e w' ⟨rfl, rfl⟩
  go_wp2_with fail
  refine (common_no 0 (-1) _ (by omega)).mono ?_
  rintro e w' ⟨rfl, rfl⟩
  go_wp2_with fail
  have M1 := Lib.hid ((((N1.out.below hB2).below (below_drewN2 (Below.refl _ _) q)).below ((Below.refl _ _).alloc (Nat.le_refl _) (.cells #[.int .i64 257, .int .i64 128, .int .i64 64, .int .i64 32, .int .i64 16, .int .i64 8, .int .i64 4, .int .i64 2, .int .i64 1] 3))).congr (y := fun j => [257, 128, 64, 32, 16, 8, 4, 2, 1].getD j 0) (by decide +kernel))
  refine (same_nine _ _ _ _ _ _ _ _ M1.out (Nine.lit (W2.drewN q) 257 128 64 32 16 8 4 2 1)).mono ?_
  rintro e w' ⟨rfl, q', rfl⟩
  have M2 := Lib.hid (((((N2.out.below (below_drewN2 (Below.refl _ _) q)).below ((Below.refl _ _).alloc (Nat.le_refl _) (.cells #[.int .i64 257, .int .i64 128, .int .i64 64, .int .i64 32, .int .i64 16, .int .i64 8, .int .i64 4, .int .i64 2, .int .i64 1] 3))).below (below_drewN2 (Below.refl _ _) q')).below ((Below.refl _ _).alloc (Nat.le_refl _) (.cells #[.int .i64 514, .int .i64 256, .int .i64 129, .int .i64 65, .int .i64 33, .int .i64 17, .int .i64 9, .int .i64 5, .int .i64 3] 3))).congr (y := fun j => [514, 256, 129, 65, 33, 17, 9, 5, 3].getD j 0) (by decide +kernel))
  have L2 := Lib.hid (Nine.lit (((W2.drewN q).alloc (.cells #[.int .i64 257, .int .i64 128, .int .i64 64, .int .i64 32, .int .i64 16, .int .i64 8, .int .i64 4, .int .i64 2, .int .i64 1] 3)).drewN q') 514 256 129 65 33 17 9 5 3)
  have hz : (((W2.drewN q).alloc (.cells #[.int .i64 257, .int .i64 128, .int .i64 64, .int .i64 32, .int .i64 16, .int .i64 8, .int .i64 4, .int .i64 2, .int .i64 1] 3)).drewN q').heap.size = W2.heap.size + 1 := by simp
  rw [hz] at L2
  clear hz
  go_wp2_with fail
  refine (same_nine _ _ _ _ _ _ _ _ M2.out L2.out).mono ?_
  rintro e w' ⟨rfl, q2, rfl⟩
  go_wp2
  go_ret
  refine ⟨rfl, ?_⟩
  refine hB1.trans ?_
  have hB3 := hB2.mono hB1.size
  refine hB3.trans ?_
  have h1 := hB1.size
  have h2 := hB2.size
  refine below_drewN2 ((below_drewN2 ((below_drewN2 (Below.refl _ _) q).alloc (by simp; omega) _) q').alloc (by simp; omega) _) q2
end Go.Proofs.Ytidlnaanldccfaa
