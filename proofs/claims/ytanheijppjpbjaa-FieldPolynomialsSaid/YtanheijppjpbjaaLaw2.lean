/- The walks of the statements FieldRing, FieldInverse and FieldPowers: they return true for every input. -/
import Derived.Test.YtanheijppjpbjaaLaw1
namespace Go.Proofs.Ytanheijppjpbjaa
open Go Go.RowKit Go.Shelf

theorem mod_add_l (x y : Int) : (x % 2305843009213688669 + y) % 2305843009213688669 = (x + y) % 2305843009213688669 := Int.emod_add_emod ..
theorem mod_add_r (x y : Int) : (x + y % 2305843009213688669) % 2305843009213688669 = (x + y) % 2305843009213688669 := Int.add_emod_emod ..
theorem mod_sub_l (x y : Int) : (x % 2305843009213688669 - y) % 2305843009213688669 = (x - y) % 2305843009213688669 := Int.emod_sub_emod ..
theorem mod_mul_l (x y : Int) : (x % 2305843009213688669 * y) % 2305843009213688669 = (x * y) % 2305843009213688669 := by rw [Int.mul_emod, Int.emod_emod, ← Int.mul_emod]
theorem mod_mul_r (x y : Int) : (x * (y % 2305843009213688669)) % 2305843009213688669 = (x * y) % 2305843009213688669 := by rw [Int.mul_emod, Int.emod_emod, ← Int.mul_emod]
theorem mod_sc {a : Int} (h : Sc a) : a % 2305843009213688669 = a := Int.emod_eq_of_lt h.1 h.2

set_option maxHeartbeats 4000000 in
set_option maxRecDepth 100000 in
theorem ring_true (x y z : Int) (w : World) : Calls Try.prog 8 #[.int .i64 x, .int .i64 y, .int .i64 z] w fun e W' => e = .returned (.bool true) ∧ Below w.heap.size w W' := by
  go_enter Try.func8, Try.ntmps8
  go_wp2_with fail
  refine (sane_true _).mono ?_
  rintro e W1 ⟨rfl, hB1⟩
  go_wp2_with fail
  refine (of_any x _).mono ?_
  rintro e w' ⟨⟨a, ha, rfl⟩, rfl⟩
  have HA := Lib.hid ha; clear ha
  go_wp2_with fail
  refine (of_any y _).mono ?_
  rintro e w' ⟨⟨b, hb, rfl⟩, rfl⟩
  have HB := Lib.hid hb; clear hb
  go_wp2_with fail
  refine (of_any z _).mono ?_
  rintro e w' ⟨⟨c, hc, rfl⟩, rfl⟩
  have HC := Lib.hid hc; clear hc
  go_wp2_with fail
  refine (lawAdd a b _ HA.out HB.out).mono ?_
  rintro e W2 ⟨rfl, hB2⟩
  have hE2 := hB1.trans (hB2.mono hB1.size); clear hB1 hB2
  go_wp2_with fail
  refine (sub_yes _ b _ (sc_mod _) HB.out).mono ?_
  rintro e W3 ⟨rfl, hB3⟩
  have hE3 := hE2.trans (hB3.mono hE2.size); clear hE2 hB3
  rw [show ((a + b) % 2305843009213688669 - b) % 2305843009213688669 = a by rw [mod_sub_l, show a + b - b = a by omega, mod_sc HA.out]]
  go_wp2_with fail
  refine (lawAdd a b _ HA.out HB.out).mono ?_
  rintro e W4 ⟨rfl, hB4⟩
  have hE4 := hE3.trans (hB4.mono hE3.size); clear hE3 hB4
  go_wp2_with fail
  refine (lawAdd b a _ HB.out HA.out).mono ?_
  rintro e W5 ⟨rfl, hB5⟩
  have hE5 := hE4.trans (hB5.mono hE4.size); clear hE4 hB5
  rw [show (b + a) = a + b by omega]
  go_wp2_with fail
  refine (lawAdd a b _ HA.out HB.out).mono ?_
  rintro e W6 ⟨rfl, hB6⟩
  have hE6 := hE5.trans (hB6.mono hE5.size); clear hE5 hB6
  go_wp2_with fail
  refine (lawAdd _ c _ (sc_mod _) HC.out).mono ?_
  rintro e W7 ⟨rfl, hB7⟩
  have hE7 := hE6.trans (hB7.mono hE6.size); clear hE6 hB7
  rw [mod_add_l]
  go_wp2_with fail
  refine (lawAdd b c _ HB.out HC.out).mono ?_
  rintro e W8 ⟨rfl, hB8⟩
  have hE8 := hE7.trans (hB8.mono hE7.size); clear hE7 hB8
  go_wp2_with fail
  refine (lawAdd a _ _ HA.out (sc_mod _)).mono ?_
  rintro e W9 ⟨rfl, hB9⟩
  have hE9 := hE8.trans (hB9.mono hE8.size); clear hE8 hB9
  rw [mod_add_r, ← Int.add_assoc]
  go_wp2_with fail
  refine (lawMul a b _ HA.out HB.out).mono ?_
  rintro e W10 ⟨rfl, hB10⟩
  have hE10 := hE9.trans (hB10.mono hE9.size); clear hE9 hB10
  go_wp2_with fail
  refine (lawMul b a _ HB.out HA.out).mono ?_
  rintro e W11 ⟨rfl, hB11⟩
  have hE11 := hE10.trans (hB11.mono hE10.size); clear hE10 hB11
  rw [Int.mul_comm b a]
  go_wp2_with fail
  refine (lawMul a b _ HA.out HB.out).mono ?_
  rintro e W12 ⟨rfl, hB12⟩
  have hE12 := hE11.trans (hB12.mono hE11.size); clear hE11 hB12
  go_wp2_with fail
  refine (lawMul _ c _ (sc_mod _) HC.out).mono ?_
  rintro e W13 ⟨rfl, hB13⟩
  have hE13 := hE12.trans (hB13.mono hE12.size); clear hE12 hB13
  rw [mod_mul_l]
  go_wp2_with fail
  refine (lawMul b c _ HB.out HC.out).mono ?_
  rintro e W14 ⟨rfl, hB14⟩
  have hE14 := hE13.trans (hB14.mono hE13.size); clear hE13 hB14
  go_wp2_with fail
  refine (lawMul a _ _ HA.out (sc_mod _)).mono ?_
  rintro e W15 ⟨rfl, hB15⟩
  have hE15 := hE14.trans (hB15.mono hE14.size); clear hE14 hB15
  rw [mod_mul_r, ← Int.mul_assoc]
  go_wp2_with fail
  refine (lawAdd b c _ HB.out HC.out).mono ?_
  rintro e W16 ⟨rfl, hB16⟩
  have hE16 := hE15.trans (hB16.mono hE15.size); clear hE15 hB16
  go_wp2_with fail
  refine (lawMul a _ _ HA.out (sc_mod _)).mono ?_
  rintro e W17 ⟨rfl, hB17⟩
  have hE17 := hE16.trans (hB17.mono hE16.size); clear hE16 hB17
  rw [mod_mul_r, Int.mul_add]
  go_wp2_with fail
  refine (lawMul a b _ HA.out HB.out).mono ?_
  rintro e W18 ⟨rfl, hB18⟩
  have hE18 := hE17.trans (hB18.mono hE17.size); clear hE17 hB18
  go_wp2_with fail
  refine (lawMul a c _ HA.out HC.out).mono ?_
  rintro e W19 ⟨rfl, hB19⟩
  have hE19 := hE18.trans (hB19.mono hE18.size); clear hE18 hB19
  go_wp2_with fail
  refine (lawAdd _ _ _ (sc_mod _) (sc_mod _)).mono ?_
  rintro e W20 ⟨rfl, hB20⟩
  have hE20 := hE19.trans (hB20.mono hE19.size); clear hE19 hB20
  rw [mod_add_l, mod_add_r]
  go_wp2_with fail
  refine (is_yes _ _).mono ?_
  rintro e w' ⟨rfl, rfl⟩
  go_wp2_with fail
  refine (lawAdd a 0 _ HA.out ⟨by omega, by omega⟩).mono ?_
  rintro e W21 ⟨rfl, hB21⟩
  have hE21 := hE20.trans (hB21.mono hE20.size); clear hE20 hB21
  rw [Int.add_zero, mod_sc HA.out]
  go_wp2_with fail
  refine (lawMul a 1 _ HA.out ⟨by omega, by omega⟩).mono ?_
  rintro e W22 ⟨rfl, hB22⟩
  have hE22 := hE21.trans (hB22.mono hE21.size); clear hE21 hB22
  rw [Int.mul_one, mod_sc HA.out]
  go_wp2_with fail
  refine (lawMul a 0 _ HA.out ⟨by omega, by omega⟩).mono ?_
  rintro e W23 ⟨rfl, hB23⟩
  have hE23 := hE22.trans (hB23.mono hE22.size); clear hE22 hB23
  rw [Int.mul_zero]
  go_wp2
  go_ret
  exact ⟨rfl, hE23⟩

/-- Fermat's little theorem at the field's prime, in integers. -/
theorem fermat_i {a : Int} (h : Sc a) (h0 : a ≠ 0) : ipow a 2305843009213688668 = 1 := by
  obtain ⟨n, rfl⟩ : ∃ n : Nat, a = n := ⟨a.toNat, by have := h.1; omega⟩
  have h1 : n < 2305843009213688669 := by have := h.2; omega
  have h2 : 0 < n := by omega
  have hf := Num.fermat_q Num.prime_q h2 h1
  have key : ∀ k : Nat, n ^ k % 2305843009213688669 = 1 → (n : Int) ^ k % 2305843009213688669 = 1 := fun k h => by
    have := congrArg (Nat.cast : Nat → Int) h
    rw [Int.natCast_emod, Int.natCast_pow] at this
    exact this
  have e : (2305843009213688668 : Int).toNat = 2305843009213688669 - 1 := rfl
  have := key _ hf
  unfold ipow
  rw [e]
  generalize 2305843009213688669 - 1 = k at this ⊢
  exact this
theorem ipow_add (a m n : Int) (hm : 0 ≤ m) (hn : 0 ≤ n) : ipow a m * ipow a n % 2305843009213688669 = ipow a (m + n) := by
  unfold ipow
  rw [mod_mul_l, mod_mul_r, ← Int.pow_add, Int.toNat_add hm hn]
theorem ipow_mul (a m n : Int) (hm : 0 ≤ m) (hn : 0 ≤ n) : ipow (ipow a m) n = ipow a (m * n) := by
  unfold ipow
  rw [pow_mod, ← Int.pow_mul, Int.toNat_mul hm hn]
theorem ipow_one {a : Int} (h : Sc a) : ipow a 1 = a := by
  unfold ipow
  rw [show (1 : Int).toNat = 1 from rfl, Int.pow_one, mod_sc h]
theorem inv_mul {a : Int} (h : Sc a) (h0 : a ≠ 0) : a * ipow a 2305843009213688667 % 2305843009213688669 = 1 := by
  have := ipow_add a 1 2305843009213688667 (by omega) (by omega)
  rw [ipow_one h] at this
  exact this.trans (fermat_i h h0)
theorem inv_uniq {a x y : Int} (hx : Sc x) (hy : Sc y) (h1 : a * x % 2305843009213688669 = 1) (h2 : a * y % 2305843009213688669 = 1) : x = y := by
  have e1 : x * (a * y % 2305843009213688669) % 2305843009213688669 = x := by rw [h2, Int.mul_one, mod_sc hx]
  have e2 : (a * x % 2305843009213688669) * y % 2305843009213688669 = y := by rw [h1, Int.one_mul, mod_sc hy]
  rw [mod_mul_r] at e1
  rw [mod_mul_l] at e2
  refine e1.symm.trans (Eq.trans ?_ e2)
  rw [← Int.mul_assoc, Int.mul_comm x a]
theorem inv_ne {a : Int} (h : Sc a) (h0 : a ≠ 0) : ipow a 2305843009213688667 ≠ 0 := fun h' => by
  have := inv_mul h h0
  rw [h', Int.mul_zero] at this
  simp at this
theorem inv_inv {a : Int} (h : Sc a) (h0 : a ≠ 0) : ipow (ipow a 2305843009213688667) 2305843009213688667 = a := by
  refine inv_uniq (a := ipow a 2305843009213688667) (ipow_sc _ _) h (inv_mul (ipow_sc _ _) (inv_ne h h0)) ?_
  rw [Int.mul_comm, inv_mul h h0]
theorem mul_ne {a b : Int} (ha : Sc a) (hb : Sc b) (h0 : a ≠ 0) (h1 : b ≠ 0) : a * b % 2305843009213688669 ≠ 0 := fun h => h1 (by
  have e : ipow a 2305843009213688667 * (a * b % 2305843009213688669) % 2305843009213688669 = 0 := by rw [h, Int.mul_zero]; rfl
  rw [mod_mul_r, ← Int.mul_assoc, Int.mul_comm _ a, ← mod_mul_l, inv_mul ha h0, Int.one_mul, mod_sc hb] at e
  exact e)

set_option maxHeartbeats 4000000 in
set_option maxRecDepth 100000 in
theorem inverse_true (x y : Int) (w : World) : Calls Try.prog 9 #[.int .i64 x, .int .i64 y] w fun e W' => e = .returned (.bool true) ∧ Below w.heap.size w W' := by
  go_enter Try.func9, Try.ntmps9
  go_wp2_with fail
  refine (sane_true _).mono ?_
  rintro e W1 ⟨rfl, hB1⟩
  go_wp2_with fail
  refine (of_any x _).mono ?_
  rintro e w' ⟨⟨a, ha, rfl⟩, rfl⟩
  go_wp2_with fail
  refine (of_any y _).mono ?_
  rintro e w' ⟨⟨b, hb, rfl⟩, rfl⟩
  by_cases h0 : a = 0
  · subst h0
    clear ha hb
    go_wp2
    go_ret
    exact ⟨rfl, hB1⟩
  by_cases h1 : b = 0
  · subst h1
    have ht : (a == 0) = false := by simpa using h0
    clear ha hb h0
    go_wp2
    go_ret
    exact ⟨rfl, hB1⟩
  have ht0 : (a == 0) = false := by simpa using h0
  have ht1 : (b == 0) = false := by simpa using h1
  have hc1 : (ipow a 2305843009213688667 : Int) > 0 := by have := (ipow_sc a 2305843009213688667).1; have := inv_ne ha h0; omega
  have hc2 : (ipow a 2305843009213688667 : Int) < 2305843009213688669 := (ipow_sc a 2305843009213688667).2
  have hm0 : (a * b % 2305843009213688669 == 0) = false := by simpa using mul_ne ha hb h0 h1
  have M0 := Lib.hid hm0; clear hm0
  have I1 := Lib.hid (inv_mul ha h0)
  have I2 := Lib.hid (inv_inv ha h0)
  have I3 := Lib.hid (inv_ne ha h0)
  have HA := Lib.hid ha; have HB := Lib.hid hb; have HN := Lib.hid h0
  have HU := Lib.hid (fun h => inv_uniq (a := a) hb (ipow_sc a 2305843009213688667) h (inv_mul ha h0))
  clear ha hb h0 h1
  go_wp2_with fail
  refine (inv_yes a _ HA.out HN.out).mono ?_
  rintro e W2 ⟨rfl, hB2⟩
  have hE2 := hB1.trans (hB2.mono hB1.size); clear hB1 hB2
  have S1 := Lib.hid (ipow_sc a 2305843009213688667)
  generalize ipow a 2305843009213688667 = c at *
  go_wp2_with fail
  refine (inv_yes c _ S1.out I3.out).mono ?_
  rintro e W3 ⟨rfl, hB3⟩
  have hE3 := hE2.trans (hB3.mono hE2.size); clear hE2 hB3
  rw [I2.out]
  go_wp2_with fail
  refine (lawMul a c _ HA.out S1.out).mono ?_
  rintro e W4 ⟨rfl, hB4⟩
  have hE4 := hE3.trans (hB4.mono hE3.size); clear hE3 hB4
  rw [I1.out]
  go_wp2_with fail
  refine (is_yes _ _).mono ?_
  rintro e w' ⟨rfl, rfl⟩
  go_wp2_with fail
  refine (lawMul a b _ HA.out HB.out).mono ?_
  rintro e W5 ⟨rfl, hB5⟩
  have hE5 := hE4.trans (hB5.mono hE4.size); clear hE4 hB5
  by_cases hbc : b = c
  · subst hbc
    rw [I1.out]
    go_wp2_with fail
    refine (lawMul a b _ HA.out HB.out).mono ?_
    rintro e W6 ⟨rfl, hB6⟩
    have hE6 := hE5.trans (hB6.mono hE5.size); clear hE5 hB6
    rw [I1.out]
    go_wp2
    go_ret
    exact ⟨rfl, hE6⟩
  · have t1 : (b == c) = false := by simpa using hbc
    have t2 : (a * b % 2305843009213688669 == 1) = false := by simpa using fun h => hbc (HU.out h)
    clear hbc
    go_wp2_with fail
    refine (lawMul a b _ HA.out HB.out).mono ?_
    rintro e W6 ⟨rfl, hB6⟩
    have hE6 := hE5.trans (hB6.mono hE5.size); clear hE5 hB6
    have M1 : (a * b % 2305843009213688669 != 0) = true := by have := M0.out; simpa using this
    go_wp2
    go_ret
    exact ⟨rfl, hE6⟩

set_option maxHeartbeats 4000000 in
set_option maxRecDepth 100000 in
theorem powers_true (x m n : Int) (w : World) (hm : 0 ≤ m ∧ m ≤ 65535) (hn : 0 ≤ n ∧ n ≤ 65535) : Calls Try.prog 3 #[.int .i64 x, .int .u16 m, .int .u16 n] w fun e W' => e = .returned (.bool true) ∧ Below w.heap.size w W' := by
  have hmn : 0 ≤ m * n := Int.mul_nonneg hm.1 hn.1
  have hmn2 : m * n ≤ 65535 * 65535 := Int.mul_le_mul hm.2 hn.2 hn.1 (by omega)
  obtain ⟨hm0, hm1⟩ := hm
  obtain ⟨hn0, hn1⟩ := hn
  go_enter Try.func3, Try.ntmps3
  go_wp2_with fail
  refine (sane_true _).mono ?_
  rintro e W1 ⟨rfl, hB1⟩
  go_wp2_with fail
  refine (of_any x _).mono ?_
  rintro e w' ⟨⟨a, ha, rfl⟩, rfl⟩
  have HA := Lib.hid ha; clear ha
  go_wp2_with fail
  refine (pow_yes a m _ HA.out hm0 (by omega)).mono ?_
  rintro e W2 ⟨rfl, hB2⟩
  have hE2 := hB1.trans (hB2.mono hB1.size); clear hB1 hB2
  go_wp2_with fail
  refine (pow_yes a n _ HA.out hn0 (by omega)).mono ?_
  rintro e W3 ⟨rfl, hB3⟩
  have hE3 := hE2.trans (hB3.mono hE2.size); clear hE2 hB3
  go_wp2_with fail
  refine (pow_yes a (m + n) _ HA.out (by omega) (by omega)).mono ?_
  rintro e W4 ⟨rfl, hB4⟩
  have hE4 := hE3.trans (hB4.mono hE3.size); clear hE3 hB4
  go_wp2_with fail
  refine (pow_yes (ipow a m) n _ (ipow_sc _ _) (by omega) (by omega)).mono ?_
  rintro e W5 ⟨rfl, hB5⟩
  have hE5 := hE4.trans (hB5.mono hE4.size); clear hE4 hB5
  rw [ipow_mul a m n hm0 hn0]
  go_wp2_with fail
  refine (pow_yes a (m * n) _ HA.out hmn (by omega)).mono ?_
  rintro e W6 ⟨rfl, hB6⟩
  have hE6 := hE5.trans (hB6.mono hE5.size); clear hE5 hB6
  go_wp2_with fail
  refine (pow_yes a 2305843009213688668 _ HA.out (by omega) (by omega)).mono ?_
  rintro e W7 ⟨rfl, hB7⟩
  have hE7 := hE6.trans (hB7.mono hE6.size); clear hE6 hB7
  go_wp2_with fail
  refine (lawMul (ipow a m) (ipow a n) _ (ipow_sc _ _) (ipow_sc _ _)).mono ?_
  rintro e W8 ⟨rfl, hB8⟩
  have hE8 := hE7.trans (hB8.mono hE7.size); clear hE7 hB8
  rw [ipow_add a m n hm0 hn0]
  by_cases h0 : a = 0
  · subst h0
    have hu : ipow 0 2305843009213688668 = 0 := by
      unfold ipow
      rw [Int.zero_pow (by decide)]; rfl
    rw [hu]
    go_wp2
    go_ret
    exact ⟨rfl, hE8⟩
  · rw [fermat_i HA.out h0]
    have ht0 : (a != 0) = true := by simpa using h0
    clear h0
    go_wp2
    go_ret
    exact ⟨rfl, hE8⟩
end Go.Proofs.Ytanheijppjpbjaa
