/- The examples of the chapter: sane returns true. -/
import Derived.Test.YtanheijppjpbjaaEval
namespace Go.Proofs.Ytanheijppjpbjaa
open Go Go.RowKit Go.Shelf

theorem ipow_nat (a n : Nat) (f : Nat) (hf : n < 2 ^ f) : ipow (a : Int) (n : Int) = ((Num.pm 2305843009213688669 f a n : Nat) : Int) := by
  unfold ipow
  rw [Num.pm_eq _ f a n hf, Int.toNat_natCast, Int.natCast_emod, Int.natCast_pow]
  rfl
theorem ex_inv : ipow 2 2305843009213688667 = 1152921504606844335 := by
  have h := ipow_nat 2 2305843009213688667 62 (by decide)
  have e : Num.pm 2305843009213688669 62 2 2305843009213688667 = 1152921504606844335 := by decide +kernel
  rw [e] at h
  exact h
theorem ex_pow : ipow 2 61 = 5283 := by
  have h := ipow_nat 2 61 62 (by decide)
  have e : Num.pm 2305843009213688669 62 2 61 = 5283 := by decide +kernel
  rw [e] at h
  exact h
theorem ex_one : ipow 0 0 = 1 := by decide

theorem row_three (w : World) (a b c : Int) : Reads (w.alloc (.cells #[.int .i64 a, .int .i64 b, .int .i64 c] 3)) (.slice (some ⟨w.heap.size, 0, none⟩) 3 3) 3 (fun j => if j = 0 then a else if j = 1 then b else c) := by
  refine .inl ⟨_, _, _, rfl, fun j hj => ?_, fun _ => by simp⟩
  have : j = 0 ∨ j = 1 ∨ j = 2 := by omega
  rcases this with rfl | rfl | rfl <;> simp

set_option maxHeartbeats 4000000 in
set_option maxRecDepth 100000 in
theorem sane_true (w : World) : Calls Try.prog 10 #[] w fun e W' => e = .returned (.bool true) ∧ Below w.heap.size w W' := by
  have hadd : ∀ w, Calls Try.prog 17 #[.int .i64 2305843009213688668, .int .i64 2] w fun e w' => e = .returned (.tuple #[.int .i64 1, .int .i64 0]) ∧ Below w.heap.size w w' := fun w => add_yes 2305843009213688668 2 w ⟨by omega, by omega⟩ ⟨by omega, by omega⟩
  have hsub : ∀ w, Calls Try.prog 14 #[.int .i64 0, .int .i64 1] w fun e w' => e = .returned (.tuple #[.int .i64 2305843009213688668, .int .i64 0]) ∧ Below w.heap.size w w' := fun w => sub_yes 0 1 w ⟨by omega, by omega⟩ ⟨by omega, by omega⟩
  have hmul : ∀ w, Calls Try.prog 20 #[.int .i64 2305843009213688668, .int .i64 2305843009213688668] w fun e w' => e = .returned (.tuple #[.int .i64 1, .int .i64 0]) ∧ Below w.heap.size w w' := fun w => mul_yes _ _ w ⟨by omega, by omega⟩ ⟨by omega, by omega⟩
  have hinv : ∀ w, Calls Try.prog 24 #[.int .i64 2] w fun e w' => e = .returned (.tuple #[.int .i64 1152921504606844335, .int .i64 0]) ∧ Below w.heap.size w w' := fun w => by
    have := inv_yes 2 w ⟨by omega, by omega⟩ (by omega)
    rwa [ex_inv] at this
  have hpow : ∀ w, Calls Try.prog 12 #[.int .i64 2, .int .i64 61] w fun e w' => e = .returned (.tuple #[.int .i64 5283, .int .i64 0]) ∧ Below w.heap.size w w' := fun w => by
    have := pow_yes 2 61 w ⟨by omega, by omega⟩ (by omega) (by omega)
    rwa [ex_pow] at this
  have heval : ∀ w v, Reads w v 3 (fun j => if j = 0 then 3 else if j = 1 then 0 else 1) → Calls Try.prog 16 #[v, .int .i64 5] w fun e w' => e = .returned (.tuple #[.int .i64 28, .int .i64 0]) ∧ Below w.heap.size w w' := fun w v h =>
    eval_yes v 3 _ 5 w ⟨by omega, by omega⟩ h (by omega) (fun j hj => by
      have : j = 0 ∨ j = 1 ∨ j = 2 := by omega
      rcases this with rfl | rfl | rfl <;> exact ⟨by decide, by decide⟩)
  have hnil : ∀ w, Calls Try.prog 16 #[.slice none 0 0, .int .i64 5] w fun e w' => e = .returned (.tuple #[.int .i64 0, .int .i64 0]) ∧ Below w.heap.size w w' := fun w =>
    eval_yes (.slice none 0 0) 0 (fun _ => 0) 5 w ⟨by omega, by omega⟩ (.inr ⟨_, _, rfl, rfl⟩) (by omega) (fun j hj => by omega)
  have hone : ∀ w, Calls Try.prog 12 #[.int .i64 0, .int .i64 0] w fun e w' => e = .returned (.tuple #[.int .i64 1, .int .i64 0]) ∧ Below w.heap.size w w' := fun w => by
    have := pow_yes 0 0 w ⟨by omega, by omega⟩ (by omega) (by omega)
    rwa [ex_one] at this
  have K1 := Lib.hid hadd; have K2 := Lib.hid hsub; have K3 := Lib.hid hmul; have K4 := Lib.hid hinv; have K5 := Lib.hid hpow; have K6 := Lib.hid heval; have K7 := Lib.hid hnil; have K8 := Lib.hid hone
  clear hadd hsub hmul hinv hpow heval hnil hone
  go_enter Try.func10, Try.ntmps10
  go_wp2_with fail
  refine (K1.out _).mono ?_
  rintro e W1 ⟨rfl, hB1⟩
  go_wp2_with fail
  refine (K2.out _).mono ?_
  rintro e W2 ⟨rfl, hB2⟩
  go_wp2_with fail
  refine (K3.out _).mono ?_
  rintro e W3 ⟨rfl, hB3⟩
  go_wp2_with fail
  refine (K4.out _).mono ?_
  rintro e W4 ⟨rfl, hB4⟩
  go_wp2_with fail
  refine (K5.out _).mono ?_
  rintro e W5 ⟨rfl, hB5⟩
  have hE5 := (((hB1.trans (hB2.mono hB1.size)).trans (hB3.mono (by have := hB1.size; have := hB2.size; omega))).trans (hB4.mono (by have := hB1.size; have := hB2.size; have := hB3.size; omega))).trans (hB5.mono (by have := hB1.size; have := hB2.size; have := hB3.size; have := hB4.size; omega))
  clear hB1 hB2 hB3 hB4 hB5
  go_wp2_with fail
  refine (K6.out _ _ (row_three W5 3 0 1)).mono ?_
  rintro e W6 ⟨rfl, hB6⟩
  have hE6 := (hE5.alloc hE5.size (.cells #[.int .i64 3, .int .i64 0, .int .i64 1] 3)).trans (hB6.mono (by have := hE5.size; simp; omega))
  clear hE5 hB6
  go_wp2_with fail
  refine (K7.out _).mono ?_
  rintro e W7 ⟨rfl, hB7⟩
  have hE7 := hE6.trans (hB7.mono hE6.size)
  clear hE6 hB7
  go_wp2_with fail
  refine (K8.out _).mono ?_
  rintro e W8 ⟨rfl, hB8⟩
  have hE8 := hE7.trans (hB8.mono hE7.size)
  clear hE7 hB8
  go_wp2_with fail
  refine (add_no 2305843009213688669 0 _ (fun h => by have := h.1.bd; omega)).mono ?_
  rintro e W9 ⟨rfl, hB9⟩
  have hE9 := hE8.trans (hB9.mono hE8.size)
  clear hE8 hB9
  go_wp2_with fail
  refine (inv_zero _).mono ?_
  rintro e W10 ⟨rfl, hB10⟩
  have hE10 := hE9.trans (hB10.mono hE9.size)
  clear hE9 hB10
  go_wp2_with fail
  refine (pow_no 2 (-1) _ (.inr (by omega))).mono ?_
  rintro e W11 ⟨rfl, hB11⟩
  have hE11 := hE10.trans (hB11.mono hE10.size)
  clear hE10 hB11
  go_wp2_with fail
  refine (is_yes _ _).mono ?_
  rintro e w' ⟨rfl, rfl⟩
  go_wp2_with fail
  refine (is_yes _ _).mono ?_
  rintro e w' ⟨rfl, rfl⟩
  go_wp2_with fail
  refine (is_yes _ _).mono ?_
  rintro e w' ⟨rfl, rfl⟩
  go_wp2_with fail
  refine (is_yes _ _).mono ?_
  rintro e w' ⟨rfl, rfl⟩
  go_wp2_with fail
  refine (is_yes _ _).mono ?_
  rintro e w' ⟨rfl, rfl⟩
  go_wp2_with fail
  refine (is_yes _ _).mono ?_
  rintro e w' ⟨rfl, rfl⟩
  go_wp2_with fail
  refine (is_yes _ _).mono ?_
  rintro e w' ⟨rfl, rfl⟩
  go_wp2_with fail
  refine (is_yes _ _).mono ?_
  rintro e w' ⟨rfl, rfl⟩
  go_wp2_with fail
  refine (check_yes 2305843009213688668 _ ⟨by omega, by omega⟩).mono ?_
  rintro e W12 ⟨rfl, hB12⟩
  have hE12 := hE11.trans (hB12.mono hE11.size)
  clear hE11 hB12
  go_wp2_with fail
  refine (check_no 2305843009213688669 _ (fun h => by have := h.bd; omega)).mono ?_
  rintro e W13 ⟨rfl, hB13⟩
  have hE13 := hE12.trans (hB13.mono hE12.size)
  clear hE12 hB13
  go_wp2_with fail
  go_ret
  exact ⟨rfl, hE13⟩
end Go.Proofs.Ytanheijppjpbjaa
