/- The contracts of Check, Add, Sub and Mul of package field, of the reference's Scalar, sum, Check, Add and Sub, and of the statements' small functions. -/
import Derived.Test.YtanheijppjpbjaaOutside
namespace Go.Proofs.Ytanheijppjpbjaa
open Go.RowKit

theorem Sc.bd {a : Int} (h : Sc a) : 0 ≤ a ∧ a < 2305843009213688669 := h
theorem ret2 {a b x y : Int} (h : a = b) (h' : x = y) : Ending.returned (.tuple #[.int .i64 a, .int .i64 x]) = .returned (.tuple #[.int .i64 b, .int .i64 y]) := by rw [h, h']

theorem check_yes (a : Int) (w : World) (h : Sc a) : Calls Try.prog 22 #[.int .i64 a] w fun e w' => e = .returned (.int .i64 0) ∧ Below w.heap.size w w' := by
  go_enter Try.func22, Try.ntmps22
  go_wp2_with fail
  refine (one_good _ a h).mono ?_
  rintro e W1 ⟨rfl, hB⟩
  go_wp2
  go_ret
  exact ⟨rfl, hB⟩
theorem check_no (a : Int) (w : World) (h : ¬ Sc a) : Calls Try.prog 22 #[.int .i64 a] w fun e w' => e = .returned (.int .i64 1) ∧ Below w.heap.size w w' := by
  have H := Lib.hid h; clear h
  go_enter Try.func22, Try.ntmps22
  go_wp2_with fail
  refine (one_bad _ a H.out).mono ?_
  rintro e W1 ⟨rfl, hB⟩
  go_wp2
  go_ret
  exact ⟨rfl, hB⟩
theorem add_yes (a b : Int) (w : World) (h : Sc a) (h' : Sc b) : Calls Try.prog 17 #[.int .i64 a, .int .i64 b] w fun e w' => e = .returned (.tuple #[.int .i64 ((a + b) % 2305843009213688669), .int .i64 0]) ∧ Below w.heap.size w w' := by
  obtain ⟨a0, a1⟩ := h.bd
  obtain ⟨b0, b1⟩ := h'.bd
  go_enter Try.func17, Try.ntmps17
  go_wp2_with fail
  refine (two_good _ a b h h').mono ?_
  rintro e W1 ⟨rfl, hB⟩
  go_wp2
  go_ret2
  exact ⟨rfl, hB⟩
theorem add_no (a b : Int) (w : World) (h : ¬ (Sc a ∧ Sc b)) : Calls Try.prog 17 #[.int .i64 a, .int .i64 b] w fun e w' => e = .returned (.tuple #[.int .i64 0, .int .i64 1]) ∧ Below w.heap.size w w' := by
  have H := Lib.hid h; clear h
  go_enter Try.func17, Try.ntmps17
  go_wp2_with fail
  refine (two_bad _ a b H.out).mono ?_
  rintro e W1 ⟨rfl, hB⟩
  go_wp2
  go_ret2
  exact ⟨rfl, hB⟩
theorem sub_yes (a b : Int) (w : World) (h : Sc a) (h' : Sc b) : Calls Try.prog 14 #[.int .i64 a, .int .i64 b] w fun e w' => e = .returned (.tuple #[.int .i64 ((a - b) % 2305843009213688669), .int .i64 0]) ∧ Below w.heap.size w w' := by
  obtain ⟨a0, a1⟩ := h.bd
  obtain ⟨b0, b1⟩ := h'.bd
  by_cases hlt : a < b
  · go_enter Try.func14, Try.ntmps14
    go_wp2_with fail
    refine (two_good _ a b h h').mono ?_
    rintro e W1 ⟨rfl, hB⟩
    go_wp2
    go_ret2
    exact ⟨ret2 (by omega) rfl, hB⟩
  · have hle : b ≤ a := by omega
    go_enter Try.func14, Try.ntmps14
    go_wp2_with fail
    refine (two_good _ a b h h').mono ?_
    rintro e W1 ⟨rfl, hB⟩
    go_wp2
    go_ret2
    exact ⟨ret2 (by omega) rfl, hB⟩
theorem sub_no (a b : Int) (w : World) (h : ¬ (Sc a ∧ Sc b)) : Calls Try.prog 14 #[.int .i64 a, .int .i64 b] w fun e w' => e = .returned (.tuple #[.int .i64 0, .int .i64 1]) ∧ Below w.heap.size w w' := by
  have H := Lib.hid h; clear h
  go_enter Try.func14, Try.ntmps14
  go_wp2_with fail
  refine (two_bad _ a b H.out).mono ?_
  rintro e W1 ⟨rfl, hB⟩
  go_wp2
  go_ret2
  exact ⟨rfl, hB⟩
theorem below_drewN3 {B : Nat} {a w : World} (h : Below B a w) (q : Nat) : Below B a (w.drewN q) := ⟨h.os, h.tape, h.output, h.size, h.block⟩
theorem mul_yes (a b : Int) (w : World) (h : Sc a) (h' : Sc b) : Calls Try.prog 20 #[.int .i64 a, .int .i64 b] w fun e w' => e = .returned (.tuple #[.int .i64 (a * b % 2305843009213688669), .int .i64 0]) ∧ Below w.heap.size w w' := by
  obtain ⟨a0, a1⟩ := h.bd
  obtain ⟨b0, b1⟩ := h'.bd
  go_enter Try.func20, Try.ntmps20
  go_wp2_with fail
  refine (two_good _ a b h h').mono ?_
  rintro e W1 ⟨rfl, hB⟩
  go_wp2_with fail
  refine (product a b a0 a1 b0 b1 _).mono ?_
  rintro e w' ⟨rfl, q, rfl⟩
  go_wp2
  go_ret2
  exact ⟨rfl, below_drewN3 hB q⟩
theorem mul_no (a b : Int) (w : World) (h : ¬ (Sc a ∧ Sc b)) : Calls Try.prog 20 #[.int .i64 a, .int .i64 b] w fun e w' => e = .returned (.tuple #[.int .i64 0, .int .i64 1]) ∧ Below w.heap.size w w' := by
  have H := Lib.hid h; clear h
  go_enter Try.func20, Try.ntmps20
  go_wp2_with fail
  refine (two_bad _ a b H.out).mono ?_
  rintro e W1 ⟨rfl, hB⟩
  go_wp2
  go_ret2
  exact ⟨rfl, hB⟩

/-! ### The reference -/
theorem scalar_yes (a : Int) (w : World) (h : Sc a) : Calls Try.prog 33 #[.int .i64 a] w fun e w' => e = .returned (.bool true) ∧ w = w' := by
  obtain ⟨a0, a1⟩ := h.bd
  go_enter Try.func33, Try.ntmps33
  go_wp2
  go_ret
  exact ⟨rfl, rfl⟩
theorem scalar_no (a : Int) (w : World) (h : ¬ Sc a) : Calls Try.prog 33 #[.int .i64 a] w fun e w' => e = .returned (.bool false) ∧ w = w' := by
  rcases not_sc h with h | h
  · go_enter Try.func33, Try.ntmps33
    go_wp2
    go_ret
    exact ⟨rfl, rfl⟩
  · have h2 : 0 ≤ a := by omega
    have h3 : decide (a < 2305843009213688669) = false := by simpa using h
    go_enter Try.func33, Try.ntmps33
    go_wp2
    go_ret
    exact ⟨rfl, rfl⟩
theorem rsum (a b : Int) (w : World) (h : Sc a) (b0 : 0 ≤ b) (b1 : b ≤ 2305843009213688669) : Calls Try.prog 34 #[.int .i64 a, .int .i64 b] w fun e w' => e = .returned (.int .i64 ((a + b) % 2305843009213688669)) ∧ w = w' := by
  obtain ⟨a0, a1⟩ := h.bd
  go_enter Try.func34, Try.ntmps34
  go_wp2
  go_ret
  exact ⟨rfl, rfl⟩
theorem rcheck_yes (a : Int) (w : World) (h : Sc a) : Calls Try.prog 23 #[.int .i64 a] w fun e w' => e = .returned (.int .i64 0) ∧ w = w' := by
  go_enter Try.func23, Try.ntmps23
  go_wp2_with (go_at_call 33; refine (scalar_yes _ _ h).mono ?_; rintro e w' ⟨rfl, rfl⟩)
  go_ret
  exact ⟨rfl, rfl⟩
theorem rcheck_no (a : Int) (w : World) (h : ¬ Sc a) : Calls Try.prog 23 #[.int .i64 a] w fun e w' => e = .returned (.int .i64 1) ∧ w = w' := by
  have H := Lib.hid h; clear h
  go_enter Try.func23, Try.ntmps23
  go_wp2_with (go_at_call 33; refine (scalar_no _ _ H.out).mono ?_; rintro e w' ⟨rfl, rfl⟩)
  go_ret
  exact ⟨rfl, rfl⟩
/-- The three functions of two numbers of the reference, where one of them is no scalar. -/
theorem radd_no (a b : Int) (w : World) (h : ¬ (Sc a ∧ Sc b)) : Calls Try.prog 18 #[.int .i64 a, .int .i64 b] w fun e w' => e = .returned (.tuple #[.int .i64 0, .int .i64 1]) ∧ w = w' := by
  by_cases ha : Sc a
  · have hb := Lib.hid (show ¬ Sc b from fun hb => h ⟨ha, hb⟩)
    clear h
    go_enter Try.func18, Try.ntmps18
    go_wp2_with fail
    refine (scalar_yes _ _ ha).mono ?_
    rintro e w' ⟨rfl, rfl⟩
    go_wp2_with fail
    refine (scalar_no _ _ hb.out).mono ?_
    rintro e w' ⟨rfl, rfl⟩
    go_wp2
    go_ret2
    exact ⟨rfl, rfl⟩
  · have H := Lib.hid ha; clear h ha
    go_enter Try.func18, Try.ntmps18
    go_wp2_with fail
    refine (scalar_no _ _ H.out).mono ?_
    rintro e w' ⟨rfl, rfl⟩
    go_wp2
    go_ret2
    exact ⟨rfl, rfl⟩
theorem rsub_no (a b : Int) (w : World) (h : ¬ (Sc a ∧ Sc b)) : Calls Try.prog 19 #[.int .i64 a, .int .i64 b] w fun e w' => e = .returned (.tuple #[.int .i64 0, .int .i64 1]) ∧ w = w' := by
  by_cases ha : Sc a
  · have hb := Lib.hid (show ¬ Sc b from fun hb => h ⟨ha, hb⟩)
    clear h
    go_enter Try.func19, Try.ntmps19
    go_wp2_with fail
    refine (scalar_yes _ _ ha).mono ?_
    rintro e w' ⟨rfl, rfl⟩
    go_wp2_with fail
    refine (scalar_no _ _ hb.out).mono ?_
    rintro e w' ⟨rfl, rfl⟩
    go_wp2
    go_ret2
    exact ⟨rfl, rfl⟩
  · have H := Lib.hid ha; clear h ha
    go_enter Try.func19, Try.ntmps19
    go_wp2_with fail
    refine (scalar_no _ _ H.out).mono ?_
    rintro e w' ⟨rfl, rfl⟩
    go_wp2
    go_ret2
    exact ⟨rfl, rfl⟩
theorem rmul_no (a b : Int) (w : World) (h : ¬ (Sc a ∧ Sc b)) : Calls Try.prog 21 #[.int .i64 a, .int .i64 b] w fun e w' => e = .returned (.tuple #[.int .i64 0, .int .i64 1]) ∧ w = w' := by
  by_cases ha : Sc a
  · have hb := Lib.hid (show ¬ Sc b from fun hb => h ⟨ha, hb⟩)
    clear h
    go_enter Try.func21, Try.ntmps21
    go_wp2_with fail
    refine (scalar_yes _ _ ha).mono ?_
    rintro e w' ⟨rfl, rfl⟩
    go_wp2_with fail
    refine (scalar_no _ _ hb.out).mono ?_
    rintro e w' ⟨rfl, rfl⟩
    go_wp2
    go_ret2
    exact ⟨rfl, rfl⟩
  · have H := Lib.hid ha; clear h ha
    go_enter Try.func21, Try.ntmps21
    go_wp2_with fail
    refine (scalar_no _ _ H.out).mono ?_
    rintro e w' ⟨rfl, rfl⟩
    go_wp2
    go_ret2
    exact ⟨rfl, rfl⟩
theorem radd_yes (a b : Int) (w : World) (h : Sc a) (h' : Sc b) : Calls Try.prog 18 #[.int .i64 a, .int .i64 b] w fun e w' => e = .returned (.tuple #[.int .i64 ((a + b) % 2305843009213688669), .int .i64 0]) ∧ w = w' := by
  obtain ⟨b0, b1⟩ := h'.bd
  go_enter Try.func18, Try.ntmps18
  go_wp2_with fail
  refine (scalar_yes _ _ h).mono ?_
  rintro e w' ⟨rfl, rfl⟩
  go_wp2_with fail
  refine (scalar_yes _ _ h').mono ?_
  rintro e w' ⟨rfl, rfl⟩
  go_wp2_with fail
  refine (rsum a b _ h b0 (by omega)).mono ?_
  rintro e w' ⟨rfl, rfl⟩
  go_wp2
  go_ret2
  exact ⟨rfl, rfl⟩
theorem rsub_yes (a b : Int) (w : World) (h : Sc a) (h' : Sc b) : Calls Try.prog 19 #[.int .i64 a, .int .i64 b] w fun e w' => e = .returned (.tuple #[.int .i64 ((a - b) % 2305843009213688669), .int .i64 0]) ∧ w = w' := by
  obtain ⟨b0, b1⟩ := h'.bd
  obtain ⟨a0, a1⟩ := h.bd
  go_enter Try.func19, Try.ntmps19
  go_wp2_with fail
  refine (scalar_yes _ _ h).mono ?_
  rintro e w' ⟨rfl, rfl⟩
  go_wp2_with fail
  refine (scalar_yes _ _ h').mono ?_
  rintro e w' ⟨rfl, rfl⟩
  go_wp2_with fail
  refine (rsum a _ _ h (by omega) (by omega)).mono ?_
  rintro e w' ⟨rfl, rfl⟩
  rw [show (a + (2305843009213688669 - b)) % 2305843009213688669 = (a - b) % 2305843009213688669 by omega]
  go_wp2
  go_ret2
  exact ⟨rfl, rfl⟩

/-! ### The reference's product and power -/
theorem emod_of {x y t : Int} (h : x = y + 2305843009213688669 * t) : x % 2305843009213688669 = y % 2305843009213688669 := by
  rw [h, Int.add_mul_emod_self_left]
theorem emod_ex (x : Int) : ∃ t, x % 2305843009213688669 = x + 2305843009213688669 * t := ⟨-(x / 2305843009213688669), by omega⟩

/-- What the loop of the reference's product keeps. -/
def PInv (r a b c : Int) : Prop := (c + a * b) % 2305843009213688669 = r
theorem PInv.odd {r a b c : Int} (h : PInv r a b c) (hb : b % 2 = 1) : PInv r ((a + a) % 2305843009213688669) (b / 2) ((c + a) % 2305843009213688669) := by
  unfold PInv at *
  rw [← h]
  obtain ⟨t, ht⟩ := emod_ex (a + a)
  obtain ⟨u, hu⟩ := emod_ex (c + a)
  obtain ⟨m, rfl⟩ : ∃ m, b = 2 * m + 1 := ⟨b / 2, by omega⟩
  rw [ht, hu, show (2 * m + 1) / 2 = m by omega]
  refine emod_of (t := u + t * m) ?_
  rw [Int.add_mul, Int.mul_add, Int.mul_add, Int.mul_one, Int.mul_assoc _ t m, Int.add_mul, Int.mul_left_comm a 2 m]
  omega
theorem PInv.even {r a b c : Int} (h : PInv r a b c) (hb : ¬ b % 2 = 1) : PInv r ((a + a) % 2305843009213688669) (b / 2) c := by
  unfold PInv at *
  rw [← h]
  obtain ⟨t, ht⟩ := emod_ex (a + a)
  obtain ⟨m, rfl⟩ : ∃ m, b = 2 * m := ⟨b / 2, by omega⟩
  rw [ht, show 2 * m / 2 = m by omega]
  refine emod_of (t := t * m) ?_
  rw [Int.add_mul, Int.mul_assoc _ t m, Int.add_mul, Int.mul_left_comm a 2 m]
  omega
theorem sc_mod (x : Int) : Sc (x % 2305843009213688669) := by unfold Sc; omega

set_option maxHeartbeats 1000000 in
set_option maxRecDepth 100000 in
theorem rproduct (a b : Int) (w : World) (h : Sc a) (h' : Sc b) : Calls Try.prog 35 #[.int .i64 a, .int .i64 b] w fun e w' => e = .returned (.int .i64 (a * b % 2305843009213688669)) ∧ w = w' := by
  have hs := Lib.hid (show PInv (a * b % 2305843009213688669) a b 0 by unfold PInv; rw [Int.zero_add])
  generalize a * b % 2305843009213688669 = r at *
  obtain ⟨b0, b1⟩ := h'.bd
  have HA := Lib.hid h
  clear h h'
  go_enter Try.func35, Try.ntmps35
  go_wp2
  go_loop [0, 1, 5] (fun s0 s1 s5 => ∃ a b c : Int, s0 = .int .i64 a ∧ s1 = .int .i64 b ∧ s5 = .int .i64 c ∧ Sc a ∧ Sc c ∧ 0 ≤ b ∧ b < 2305843009213688669 ∧ PInv r a b c) (fun _ s1 _ => (intOf s1).toNat)
  case atStart => exact ⟨_, _, _, rfl, rfl, rfl, HA.out, ⟨by omega, by omega⟩, b0, b1, hs.out⟩
  case round =>
    clear b0 b1
    obtain ⟨a, b, c, rfl, rfl, rfl, ha, hc, b0, b1, hi⟩ := hrel
    obtain ⟨a0, a1⟩ := ha.bd
    have A := Lib.hid ha; have C := Lib.hid hc; have I := Lib.hid hi
    clear ha hc hi
    by_cases hz : 0 < b
    · by_cases ho : b % 2 = 1
      · have hob : (b % 2 == 1) = true := beq_iff_eq.2 ho
        have O := Lib.hid ho; clear ho
        go_wp2_with fail
        refine (rsum c a _ C.out a0 (by omega)).mono ?_
        rintro e w' ⟨rfl, rfl⟩
        go_wp2_with fail
        refine (rsum a a _ A.out a0 (by omega)).mono ?_
        rintro e w' ⟨rfl, rfl⟩
        go_wp2
        go_round
        case rel => exact ⟨_, _, _, rfl, rfl, rfl, sc_mod _, sc_mod _, by omega, by omega, I.out.odd O.out⟩
        case measure => simp [intOf]; omega
      · have hob : (b % 2 == 1) = false := beq_eq_false_iff_ne.2 ho
        have O := Lib.hid ho; clear ho
        go_wp2_with fail
        refine (rsum a a _ A.out a0 (by omega)).mono ?_
        rintro e w' ⟨rfl, rfl⟩
        go_wp2
        go_round
        case rel => exact ⟨_, _, _, rfl, rfl, rfl, sc_mod _, C.out, by omega, by omega, I.out.even O.out⟩
        case measure => simp [intOf]; omega
    · obtain rfl : b = 0 := by omega
      go_wp2
      go_ret
      refine ⟨ret_int ?_, rfl⟩
      have := I.out
      obtain ⟨c0, c1⟩ := C.out.bd
      unfold PInv at this
      rw [Int.mul_zero] at this
      omega
theorem rmul_yes (a b : Int) (w : World) (h : Sc a) (h' : Sc b) : Calls Try.prog 21 #[.int .i64 a, .int .i64 b] w fun e w' => e = .returned (.tuple #[.int .i64 (a * b % 2305843009213688669), .int .i64 0]) ∧ w = w' := by
  go_enter Try.func21, Try.ntmps21
  go_wp2_with fail
  refine (scalar_yes _ _ h).mono ?_
  rintro e w' ⟨rfl, rfl⟩
  go_wp2_with fail
  refine (scalar_yes _ _ h').mono ?_
  rintro e w' ⟨rfl, rfl⟩
  go_wp2_with fail
  refine (rproduct a b _ h h').mono ?_
  rintro e w' ⟨rfl, rfl⟩
  go_wp2
  go_ret2
  exact ⟨rfl, rfl⟩

/-- What the loop of the reference's power keeps. -/
def WInv (r a : Int) (n : Nat) (c : Int) : Prop := c * a ^ n % 2305843009213688669 = r
theorem pow_mod (x : Int) (n : Nat) : (x % 2305843009213688669) ^ n % 2305843009213688669 = x ^ n % 2305843009213688669 := by
  induction n with
  | zero => simp
  | succ n ih => rw [Int.pow_succ, Int.pow_succ, Int.mul_emod, ih, Int.emod_emod, ← Int.mul_emod]
theorem WInv.odd {r a : Int} {n : Nat} {c : Int} (h : WInv r a n c) (hb : n % 2 = 1) : WInv r (a * a % 2305843009213688669) (n / 2) (c * a % 2305843009213688669) := by
  unfold WInv at *
  obtain ⟨m, rfl⟩ : ∃ m, n = 2 * m + 1 := ⟨n / 2, by omega⟩
  rw [← h, show (2 * m + 1) / 2 = m by omega, Int.mul_emod, pow_mod, Int.emod_emod, ← Int.mul_emod, Int.pow_succ, Int.pow_mul, Int.pow_succ, Int.pow_succ, Int.pow_zero, Int.one_mul,
    Int.mul_assoc c a, Int.mul_comm a]
theorem WInv.even {r a : Int} {n : Nat} {c : Int} (h : WInv r a n c) (hb : ¬ n % 2 = 1) : WInv r (a * a % 2305843009213688669) (n / 2) c := by
  unfold WInv at *
  obtain ⟨m, rfl⟩ : ∃ m, n = 2 * m := ⟨n / 2, by omega⟩
  rw [← h, show 2 * m / 2 = m by omega, Int.mul_emod, pow_mod, ← Int.mul_emod, Int.pow_mul, Int.pow_succ, Int.pow_succ, Int.pow_zero, Int.one_mul]

set_option maxHeartbeats 1000000 in
set_option maxRecDepth 100000 in
theorem rpower (a : Int) (n : Nat) (w : World) (h : Sc a) (hn : n ≤ 9223372036854775807) : Calls Try.prog 36 #[.int .i64 a, .int .i64 n] w fun e w' => e = .returned (.int .i64 (a ^ n % 2305843009213688669)) ∧ w = w' := by
  have hs := Lib.hid (show WInv (a ^ n % 2305843009213688669) a n 1 by unfold WInv; rw [Int.one_mul])
  generalize a ^ n % 2305843009213688669 = r at *
  have HA := Lib.hid h
  clear h
  go_enter Try.func36, Try.ntmps36
  go_wp2
  go_loop [0, 1, 5] (fun s0 s1 s5 => ∃ (a : Int) (n : Nat) (c : Int), s0 = .int .i64 a ∧ s1 = .int .i64 n ∧ s5 = .int .i64 c ∧ Sc a ∧ Sc c ∧ n ≤ 9223372036854775807 ∧ WInv r a n c) (fun _ s1 _ => (intOf s1).toNat)
  case atStart => exact ⟨_, _, _, rfl, rfl, rfl, HA.out, ⟨by omega, by omega⟩, hn, hs.out⟩
  case round =>
    clear hn
    obtain ⟨a, n, c, rfl, rfl, rfl, ha, hc, hn, hi⟩ := hrel
    have A := Lib.hid ha; have C := Lib.hid hc; have I := Lib.hid hi
    clear ha hc hi
    by_cases hz : 0 < n
    · have hzz : (0 : Int) < (n : Int) := by omega
      by_cases ho : n % 2 = 1
      · have hob : ((n : Int) % 2 == 1) = true := beq_iff_eq.2 (by omega)
        have O := Lib.hid ho; clear ho
        go_wp2_with fail
        refine (rproduct c a _ C.out A.out).mono ?_
        rintro e w' ⟨rfl, rfl⟩
        go_wp2_with fail
        refine (rproduct a a _ A.out A.out).mono ?_
        rintro e w' ⟨rfl, rfl⟩
        go_wp2
        go_round
        case rel => exact ⟨_, n / 2, _, rfl, rfl, rfl, sc_mod _, sc_mod _, by omega, I.out.odd O.out⟩
        case measure => simp [intOf]; omega
      · have hob : ((n : Int) % 2 == 1) = false := beq_eq_false_iff_ne.2 (by omega)
        have O := Lib.hid ho; clear ho
        go_wp2_with fail
        refine (rproduct a a _ A.out A.out).mono ?_
        rintro e w' ⟨rfl, rfl⟩
        go_wp2
        go_round
        case rel => exact ⟨_, n / 2, _, rfl, rfl, rfl, sc_mod _, C.out, by omega, I.out.even O.out⟩
        case measure => simp [intOf]; omega
    · obtain rfl : n = 0 := by omega
      go_wp2
      go_ret
      refine ⟨ret_int ?_, rfl⟩
      have := I.out
      obtain ⟨c0, c1⟩ := C.out.bd
      unfold WInv at this
      rw [Int.pow_zero, Int.mul_one] at this
      omega
end Go.Proofs.Ytanheijppjpbjaa
