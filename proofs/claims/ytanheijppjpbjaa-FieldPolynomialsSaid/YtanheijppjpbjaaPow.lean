/- The contracts of Inv and Pow of package field and of the reference, and of the statements' small functions. -/
import Derived.Test.YtanheijppjpbjaaPower
import Derived.Test.YtanheijppjpbjaaNum
namespace Go.Proofs.Ytanheijppjpbjaa
open Go Go.RowKit Go.Shelf

/-- A power modulo Q. -/
def ipow (a n : Int) : Int := a ^ n.toNat % 2305843009213688669
theorem ipow_sc (a n : Int) : Sc (ipow a n) := sc_mod _

theorem power_i (a n : Int) (w : World) (h : Sc a) (h0 : 0 ≤ n) (h1 : n ≤ 9223372036854775807) :
    Calls Try.prog 30 #[.int .i64 a, .int .i64 n] w fun e W' => e = .returned (.int .i64 (ipow a n)) ∧ Below w.heap.size w W' := by
  obtain ⟨m, rfl⟩ : ∃ m : Nat, n = m := ⟨n.toNat, by omega⟩
  exact callsIn_wide.1 (power_any a m w h (by omega))
theorem rpower_i (a n : Int) (w : World) (h : Sc a) (h0 : 0 ≤ n) (h1 : n ≤ 9223372036854775807) :
    Calls Try.prog 36 #[.int .i64 a, .int .i64 n] w fun e W' => e = .returned (.int .i64 (ipow a n)) ∧ w = W' := by
  obtain ⟨m, rfl⟩ : ∃ m : Nat, n = m := ⟨n.toNat, by omega⟩
  exact rpower a m w h (by omega)

theorem pow_yes (a n : Int) (w : World) (h : Sc a) (h0 : 0 ≤ n) (h1 : n ≤ 9223372036854775807) :
    Calls Try.prog 12 #[.int .i64 a, .int .i64 n] w fun e W' => e = .returned (.tuple #[.int .i64 (ipow a n), .int .i64 0]) ∧ Below w.heap.size w W' := by
  go_enter Try.func12, Try.ntmps12
  go_wp2_with fail
  refine (one_good _ a h).mono ?_
  rintro e W1 ⟨rfl, hB⟩
  go_wp2_with fail
  refine (power_i a n _ h h0 h1).mono ?_
  rintro e W2 ⟨rfl, hB2⟩
  go_wp2
  go_ret2
  exact ⟨rfl, hB.trans (hB2.mono hB.size)⟩
theorem pow_no (a n : Int) (w : World) (h : ¬ Sc a ∨ n < 0) :
    Calls Try.prog 12 #[.int .i64 a, .int .i64 n] w fun e W' => e = .returned (.tuple #[.int .i64 0, .int .i64 1]) ∧ Below w.heap.size w W' := by
  by_cases ha : Sc a
  · have hn : n < 0 := by rcases h with h | h; exact absurd ha h; exact h
    clear h
    go_enter Try.func12, Try.ntmps12
    go_wp2_with fail
    refine (one_good _ a ha).mono ?_
    rintro e W1 ⟨rfl, hB⟩
    go_wp2
    go_ret2
    exact ⟨rfl, hB⟩
  · have H := Lib.hid ha
    clear h ha
    go_enter Try.func12, Try.ntmps12
    go_wp2_with fail
    refine (one_bad _ a H.out).mono ?_
    rintro e W1 ⟨rfl, hB⟩
    go_wp2
    go_ret2
    exact ⟨rfl, hB⟩
theorem inv_yes (a : Int) (w : World) (h : Sc a) (h0 : a ≠ 0) :
    Calls Try.prog 24 #[.int .i64 a] w fun e W' => e = .returned (.tuple #[.int .i64 (ipow a 2305843009213688667), .int .i64 0]) ∧ Below w.heap.size w W' := by
  have hz : (a == 0) = false := by simpa using h0
  clear h0
  go_enter Try.func24, Try.ntmps24
  go_wp2_with fail
  refine (one_good _ a h).mono ?_
  rintro e W1 ⟨rfl, hB⟩
  go_wp2_with fail
  refine (power_i a 2305843009213688667 _ h (by omega) (by omega)).mono ?_
  rintro e W2 ⟨rfl, hB2⟩
  go_wp2
  go_ret2
  exact ⟨rfl, hB.trans (hB2.mono hB.size)⟩
theorem inv_zero (w : World) :
    Calls Try.prog 24 #[.int .i64 0] w fun e W' => e = .returned (.tuple #[.int .i64 0, .int .i64 30]) ∧ Below w.heap.size w W' := by
  go_enter Try.func24, Try.ntmps24
  go_wp2_with fail
  refine (one_good _ 0 ⟨by omega, by omega⟩).mono ?_
  rintro e W1 ⟨rfl, hB⟩
  go_wp2
  go_ret2
  exact ⟨rfl, hB⟩
theorem inv_no (a : Int) (w : World) (h : ¬ Sc a) :
    Calls Try.prog 24 #[.int .i64 a] w fun e W' => e = .returned (.tuple #[.int .i64 0, .int .i64 1]) ∧ Below w.heap.size w W' := by
  have H := Lib.hid h
  clear h
  go_enter Try.func24, Try.ntmps24
  go_wp2_with fail
  refine (one_bad _ a H.out).mono ?_
  rintro e W1 ⟨rfl, hB⟩
  go_wp2
  go_ret2
  exact ⟨rfl, hB⟩
theorem rpow_yes (a n : Int) (w : World) (h : Sc a) (h0 : 0 ≤ n) (h1 : n ≤ 9223372036854775807) :
    Calls Try.prog 26 #[.int .i64 a, .int .i64 n] w fun e W' => e = .returned (.tuple #[.int .i64 (ipow a n), .int .i64 0]) ∧ w = W' := by
  go_enter Try.func26, Try.ntmps26
  go_wp2_with fail
  refine (scalar_yes a _ h).mono ?_
  rintro e w' ⟨rfl, rfl⟩
  go_wp2_with fail
  refine (rpower_i a n _ h h0 h1).mono ?_
  rintro e w' ⟨rfl, rfl⟩
  go_wp2
  go_ret2
  exact ⟨rfl, rfl⟩
theorem rpow_no (a n : Int) (w : World) (h : ¬ Sc a ∨ n < 0) :
    Calls Try.prog 26 #[.int .i64 a, .int .i64 n] w fun e W' => e = .returned (.tuple #[.int .i64 0, .int .i64 1]) ∧ w = W' := by
  by_cases ha : Sc a
  · have hn : n < 0 := by rcases h with h | h; exact absurd ha h; exact h
    clear h
    go_enter Try.func26, Try.ntmps26
    go_wp2_with fail
    refine (scalar_yes a _ ha).mono ?_
    rintro e w' ⟨rfl, rfl⟩
    go_wp2
    go_ret2
    exact ⟨rfl, rfl⟩
  · have H := Lib.hid ha
    clear h ha
    go_enter Try.func26, Try.ntmps26
    go_wp2_with fail
    refine (scalar_no a _ H.out).mono ?_
    rintro e w' ⟨rfl, rfl⟩
    go_wp2
    go_ret2
    exact ⟨rfl, rfl⟩
theorem rinv_yes (a : Int) (w : World) (h : Sc a) (h0 : a ≠ 0) :
    Calls Try.prog 25 #[.int .i64 a] w fun e W' => e = .returned (.tuple #[.int .i64 (ipow a 2305843009213688667), .int .i64 0]) ∧ w = W' := by
  have hz : (a == 0) = false := by simpa using h0
  clear h0
  go_enter Try.func25, Try.ntmps25
  go_wp2_with fail
  refine (scalar_yes a _ h).mono ?_
  rintro e w' ⟨rfl, rfl⟩
  go_wp2_with fail
  refine (rpower_i a 2305843009213688667 _ h (by omega) (by omega)).mono ?_
  rintro e w' ⟨rfl, rfl⟩
  go_wp2
  go_ret2
  exact ⟨rfl, rfl⟩
theorem rinv_zero (w : World) :
    Calls Try.prog 25 #[.int .i64 0] w fun e W' => e = .returned (.tuple #[.int .i64 0, .int .i64 30]) ∧ w = W' := by
  go_enter Try.func25, Try.ntmps25
  go_wp2_with fail
  refine (scalar_yes 0 _ ⟨by omega, by omega⟩).mono ?_
  rintro e w' ⟨rfl, rfl⟩
  go_wp2
  go_ret2
  exact ⟨rfl, rfl⟩
theorem rinv_no (a : Int) (w : World) (h : ¬ Sc a) :
    Calls Try.prog 25 #[.int .i64 a] w fun e W' => e = .returned (.tuple #[.int .i64 0, .int .i64 1]) ∧ w = W' := by
  have H := Lib.hid h
  clear h
  go_enter Try.func25, Try.ntmps25
  go_wp2_with fail
  refine (scalar_no a _ H.out).mono ?_
  rintro e w' ⟨rfl, rfl⟩
  go_wp2
  go_ret2
  exact ⟨rfl, rfl⟩

/-! ### The statements' small functions -/
theorem lawAdd (a b : Int) (w : World) (h : Sc a) (h' : Sc b) : Calls Try.prog 15 #[.int .i64 a, .int .i64 b] w fun e W' => e = .returned (.int .i64 ((a + b) % 2305843009213688669)) ∧ Below w.heap.size w W' := by
  have hm := sc_mod (a + b)
  have C := Lib.hid (add_yes a b w h h')
  generalize (a + b) % 2305843009213688669 = r at *
  clear h h' hm
  go_enter Try.func15, Try.ntmps15
  go_wp2_with fail
  refine C.out.mono ?_
  rintro e W1 ⟨rfl, hB⟩
  go_wp2
  go_ret
  exact ⟨rfl, hB⟩
theorem lawMul (a b : Int) (w : World) (h : Sc a) (h' : Sc b) : Calls Try.prog 13 #[.int .i64 a, .int .i64 b] w fun e W' => e = .returned (.int .i64 (a * b % 2305843009213688669)) ∧ Below w.heap.size w W' := by
  have hm := sc_mod (a * b)
  have C := Lib.hid (mul_yes a b w h h')
  generalize a * b % 2305843009213688669 = r at *
  clear h h' hm
  go_enter Try.func13, Try.ntmps13
  go_wp2_with fail
  refine C.out.mono ?_
  rintro e W1 ⟨rfl, hB⟩
  go_wp2
  go_ret
  exact ⟨rfl, hB⟩
theorem is_yes (c : Int) (w : World) : Calls Try.prog 28 #[.int .i64 c, .int .i64 0, .int .i64 c] w fun e W' => e = .returned (.bool true) ∧ w = W' := by
  go_enter Try.func28, Try.ntmps28
  go_wp2
  go_ret
  exact ⟨rfl, rfl⟩
theorem and_mask (n : Int) : 0 ≤ bits .and .i64 n 4611686018427387903 ∧ bits .and .i64 n 4611686018427387903 ≤ 4611686018427387903 := by
  show 0 ≤ IntKind.i64.wrap ((BitVec.ofInt 64 n &&& BitVec.ofInt 64 4611686018427387903).toNat : Int) ∧ IntKind.i64.wrap ((BitVec.ofInt 64 n &&& BitVec.ofInt 64 4611686018427387903).toNat : Int) ≤ 4611686018427387903
  have h1 : (BitVec.ofInt 64 n &&& BitVec.ofInt 64 4611686018427387903).toNat ≤ 4611686018427387903 := by
    rw [BitVec.toNat_and]
    exact Nat.and_le_right
  generalize (BitVec.ofInt 64 n &&& BitVec.ofInt 64 4611686018427387903).toNat = m at *
  rw [IntKind.wrap_i64]
  omega
theorem of_any (n : Int) (w : World) : Calls Try.prog 11 #[.int .i64 n] w fun e W' => (∃ a, Sc a ∧ e = .returned (.int .i64 a)) ∧ w = W' := by
  obtain ⟨h0, h1⟩ := and_mask n
  go_enter Try.func11, Try.ntmps11
  go_wp2
  go_ret
  exact ⟨⟨_, sc_mod _, rfl⟩, rfl⟩
end Go.Proofs.Ytanheijppjpbjaa
