/- The contracts of Mul64, LeadingZeros64 and Div64 of package math/bits, the last one at the divisor Q: what each call returns. -/
import Derived.Test.YtanheijppjpbjaaRows
import Derived.WalkKit
import Derived.WalkSpells
import Derived.WalkLawsBesides
import Derived.Lib.Mul64
import Derived.Laws.Bits64b
import Derived.Laws.BitsAllLaws
import Derived.Lib.Hide
import Derived.Lib.BitFns
import Derived.Deep.QuietTactic
import Derived.BigQuiet
namespace Go.Proofs.Ytanheijppjpbjaa
open Go.RowKit

theorem maskN (a : Nat) (ha : a < 18446744073709551616) : bits .and .u64 (a : Int) 4294967295 = ((a % 4294967296 : Nat) : Int) := by
  have h := bits_and_u64_nat a 4294967295 ha (by omega)
  have e : a &&& 4294967295 = a % 4294967296 := Nat.and_two_pow_sub_one_eq_mod a 32
  rw [e] at h
  exact h
theorem divN (a : Nat) : (a : Int) / 4294967296 = ((a / 4294967296 : Nat) : Int) := by omega
theorem mulN (a b : Nat) : (a : Int) * (b : Int) = ((a * b : Nat) : Int) := (Int.natCast_mul a b).symm
theorem addN (a b : Nat) : (a : Int) + (b : Int) = ((a + b : Nat) : Int) := (Int.natCast_add a b).symm
theorem wrapN (a : Nat) (ha : a < 18446744073709551616) : IntKind.u64.wrap (a : Int) = (a : Int) := by rw [IntKind.wrap_u64]; omega
theorem wrapM (a : Nat) : IntKind.u64.wrap (a : Int) = ((a % 18446744073709551616 : Nat) : Int) := by rw [IntKind.wrap_u64]; omega

set_option maxHeartbeats 1000000 in
theorem mul64 (x y : Nat) (hx : x < 18446744073709551616) (hy : y < 18446744073709551616) (w : World) :
    Calls Try.prog 42 #[.int .u64 x, .int .u64 y] w fun e w' => e = .returned (.tuple #[.int .u64 ((x * y / 18446744073709551616 : Nat) : Int), .int .u64 ((x * y % 18446744073709551616 : Nat) : Int)]) ∧ w = w' := by
  obtain ⟨bd, bt, bw, hhi⟩ := Lib.mul64_hi x y hx hy
  have ba := Lib.half_mul_le (a := x / 4294967296) (b := y / 4294967296) (by omega) (by omega)
  have bb := Lib.half_mul_le (a := x / 4294967296) (b := y % 4294967296) (by omega) (by omega)
  have bc := Lib.half_mul_le (a := x % 4294967296) (b := y / 4294967296) (by omega) (by omega)
  have ba' : x / 4294967296 * (y / 4294967296) < 18446744073709551616 := by omega
  have bb' : x / 4294967296 * (y % 4294967296) < 18446744073709551616 := by omega
  have bc' : x % 4294967296 * (y / 4294967296) < 18446744073709551616 := by omega
  have bh1 : x / 4294967296 * (y / 4294967296) + (x / 4294967296 * (y % 4294967296) + x % 4294967296 * (y % 4294967296) / 4294967296) / 4294967296 < 18446744073709551616 := by omega
  have bh : x / 4294967296 * (y / 4294967296) + (x / 4294967296 * (y % 4294967296) + x % 4294967296 * (y % 4294967296) / 4294967296) / 4294967296 + ((x / 4294967296 * (y % 4294967296) + x % 4294967296 * (y % 4294967296) / 4294967296) % 4294967296 + x % 4294967296 * (y / 4294967296)) / 4294967296 < 18446744073709551616 := by omega
  go_enter Try.func42, Try.ntmps42
  go_wp2
  simp only [maskN x hx, maskN y hy, divN, mulN, addN, wrapN _ bd, wrapN _ bb', wrapN _ bt, maskN _ bt, wrapN _ bc', wrapN _ bw, wrapN _ ba', wrapN _ bh1, wrapN _ bh, wrapM (x * y)]
  rw [hhi]
  go_ret2
  exact ⟨rfl, rfl⟩

theorem lead_num : wrap64 (64 - wrap64 (56 + wrap64 (Lib.len8 31))) = 3 := by
  rw [Lib.len8_of 31 (by omega) (by omega), show Lib.bitLen (31 : Int).toNat = 5 by decide]
  unfold wrap64
  omega

set_option maxHeartbeats 1000000 in
set_option maxRecDepth 100000 in
theorem lead (w : World) : Calls Try.prog 47 #[.int .u64 2305843009213688669] w fun e w' => e = .returned (.int .i64 3) ∧ w = w' := by
  go_enter Try.func47, Try.ntmps47
  go_wp2
  go_ret
  exact ⟨congrArg Ending.returned (congrArg (Value.int .i64) lead_num), rfl⟩

/-! ### Div64 at the divisor Q -/
theorem or_eq (hi lo : Int) (h0 : 0 < hi) (h1 : hi < 2305843009213688669) (h2 : 0 ≤ lo) (h3 : lo < 18446744073709551616) :
    bits .or .u64 (hi * 8) (lo / 2305843009213693952) = hi * 8 + lo / 2305843009213693952 := by
  have h := bits_or_u64_nat (hi * 8).toNat (lo / 2305843009213693952).toNat (by omega) (by omega)
  rw [Int.toNat_of_nonneg (by omega), Int.toNat_of_nonneg (by omega)] at h
  rw [h]
  have e : (hi * 8).toNat ||| (lo / 2305843009213693952).toNat = (hi * 8).toNat + (lo / 2305843009213693952).toNat := by
    have e2 : (hi * 8).toNat = 2 ^ 3 * hi.toNat := by omega
    rw [e2]
    exact (Nat.two_pow_add_eq_or_of_lt (i := 3) (by omega) _).symm
  rw [e]
  omega
theorem and_const : bits .and .u64 18446744073709509352 4294967295 = 4294925032 := by decide
theorem and_low (x : Int) (h0 : 0 ≤ x) (h1 : x < 18446744073709551616) : bits .and .u64 x 4294967295 = x % 4294967296 := by
  have h := maskN x.toNat (by omega)
  rw [Int.toNat_of_nonneg h0] at h
  rw [h]
  omega

theorem digit_wrap {U X d : Int} (h0 : d * 18446744073709509352 ≤ U * 4294967296 + X) (h1 : U * 4294967296 + X < (d + 1) * 18446744073709509352) :
    IntKind.u64.wrap (IntKind.u64.wrap (IntKind.u64.wrap (U * 4294967296) + X) - IntKind.u64.wrap (d * 18446744073709509352)) = U * 4294967296 + X - d * 18446744073709509352 := by
  simp only [IntKind.wrap_u64]
  omega

theorem div_end {hi lo U X Y d R d0 S : Int} (ha : U * 18446744073709551616 + X * 4294967296 + Y = (hi * 18446744073709551616 + lo) * 8) (hr : R = U * 4294967296 + X - d * 18446744073709509352) (hs : S = R * 4294967296 + Y - d0 * 18446744073709509352) (s0 : 0 ≤ S) (s1 : S < 18446744073709509352) :
    S / 8 = (hi * 18446744073709551616 + lo) % 2305843009213688669 := by
  omega

theorem tuple_snd {q x y : Int} (h : x = y) : Value.tuple #[.int .u64 q, .int .u64 x] = .tuple #[.int .u64 q, .int .u64 y] := by rw [h]

set_option maxHeartbeats 4000000 in
set_option maxRecDepth 100000 in
theorem div64 (hi lo : Int) (h0 : 0 < hi) (h1 : hi < 2305843009213688669) (h2 : 0 ≤ lo) (h3 : lo < 18446744073709551616) (w : World) :
    Calls Try.prog 43 #[.int .u64 hi, .int .u64 lo, .int .u64 2305843009213688669] w fun e w' => (∃ q, e = .returned (.tuple #[.int .u64 q, .int .u64 ((hi * 18446744073709551616 + lo) % 2305843009213688669)])) ∧ w = w' := by
  have e1 := and_const
  obtain ⟨U, hU⟩ : ∃ U, U = hi * 8 + lo / 2305843009213693952 := ⟨_, rfl⟩
  have e2 : bits .or .u64 (hi * 8) (lo / 2305843009213693952) = U := by rw [hU]; exact or_eq hi lo h0 h1 h2 h3
  obtain ⟨L, hL⟩ : ∃ L, L = lo * 8 % 18446744073709551616 := ⟨_, rfl⟩
  have e3 : IntKind.u64.wrap (lo * 8) = L := by rw [IntKind.wrap_u64, hL]
  have l0 : 0 ≤ L := by omega
  have l1 : L < 18446744073709551616 := by omega
  obtain ⟨Y, hY⟩ : ∃ Y, Y = L % 4294967296 := ⟨_, rfl⟩
  have e4 : bits .and .u64 L 4294967295 = Y := by rw [hY]; exact and_low L l0 l1
  obtain ⟨X, hX⟩ : ∃ X, X = L / 4294967296 := ⟨_, rfl⟩
  have e5 : L / 4294967296 = X := hX.symm
  have u0 : 0 ≤ U := by omega
  have u1 : U < 18446744073709509352 := by omega
  have x0 : 0 ≤ X := by omega
  have x1 : X < 4294967296 := by omega
  have y0 : 0 ≤ Y := by omega
  have y1 : Y < 4294967296 := by omega
  have hall : U * 18446744073709551616 + X * 4294967296 + Y = (hi * 18446744073709551616 + lo) * 8 := by omega
  have HA := Lib.hid hall
  clear hU hL hY hX hall
  go_enter Try.func43, Try.ntmps43
  go_wp2_with (go_at_call 47; refine (lead _).mono ?_; rintro e w' ⟨rfl, rfl⟩)
  clear e1 e2 e3 e4 e5 l0 l1 h0 h1 h2 h3
  go_loop [15, 16] (fun s15 s16 => ∃ q r : Int, s15 = .int .u64 q ∧ s16 = .int .u64 r ∧ 0 ≤ q ∧ 0 ≤ r ∧ r < 4294967296 ∧ q ≤ 4294967298 ∧ q * 4294967295 + r = U ∧ U * 4294967296 + X < (q + 1) * 18446744073709509352) (fun s15 _ => (intOf s15).toNat)
  case atStart => exact ⟨_, _, rfl, rfl, by omega, by omega, by omega, by omega, by omega, by omega⟩
  case round =>
    obtain ⟨q, r, rfl, rfl, q0, r0, r1, q2, hq, hv⟩ := hrel
    have HQ := Lib.hid hq; have HV := Lib.hid hv
    clear hq hv
    by_cases c1 : 4294967296 ≤ q
    · by_cases c3 : 4294967296 ≤ r + 4294967295
      · have f0 : (q - 1) * 18446744073709509352 ≤ U * 4294967296 + X := by have := HQ.out; omega
        have f1 : U * 4294967296 + X < (q - 1 + 1) * 18446744073709509352 := by have := HQ.out; have := HV.out; omega
        obtain ⟨p, hp⟩ : ∃ p, p = q - 1 := ⟨_, rfl⟩
        have e7 : q - 1 = p := hp.symm
        rw [e7] at f0 f1
        have p0 : 0 ≤ p := by omega
        clear hp HQ HV
        obtain ⟨R, hR⟩ : ∃ R, R = U * 4294967296 + X - p * 18446744073709509352 := ⟨_, rfl⟩
        have e6 : IntKind.u64.wrap (IntKind.u64.wrap (IntKind.u64.wrap (U * 4294967296) + X) - IntKind.u64.wrap (p * 18446744073709509352)) = R := by rw [hR]; exact digit_wrap f0 f1
        have r2 : 0 ≤ R := by omega
        have r3 : R < 18446744073709509352 := by omega
        have HR := Lib.hid hR
        clear hR
        go_wp2
        clear e6 e7
        go_loop [18, 16] (fun s18 s16 => ∃ q r : Int, s18 = .int .u64 q ∧ s16 = .int .u64 r ∧ 0 ≤ q ∧ 0 ≤ r ∧ r < 4294967296 ∧ q ≤ 4294967298 ∧ q * 4294967295 + r = R ∧ R * 4294967296 + Y < (q + 1) * 18446744073709509352) (fun s18 _ => (intOf s18).toNat)
        case atStart => exact ⟨_, _, rfl, rfl, by omega, by omega, by omega, by omega, by omega, by omega⟩
        case round =>
          obtain ⟨q, r, rfl, rfl, q0, r0, r1, q2, hq, hv⟩ := hrel
          have HQ := Lib.hid hq; have HV := Lib.hid hv
          clear hq hv
          by_cases c1 : 4294967296 ≤ q
          · by_cases c3 : 4294967296 ≤ r + 4294967295
            · have f0 : (q - 1) * 18446744073709509352 ≤ R * 4294967296 + Y := by have := HQ.out; omega
              have f1 : R * 4294967296 + Y < (q - 1 + 1) * 18446744073709509352 := by have := HQ.out; have := HV.out; omega
              obtain ⟨p, hp⟩ : ∃ p, p = q - 1 := ⟨_, rfl⟩
              have e7 : q - 1 = p := hp.symm
              rw [e7] at f0 f1
              have p0 : 0 ≤ p := by omega
              clear hp HQ HV
              obtain ⟨S, hS⟩ : ∃ S, S = R * 4294967296 + Y - p * 18446744073709509352 := ⟨_, rfl⟩
              have e8 : IntKind.u64.wrap (IntKind.u64.wrap (IntKind.u64.wrap (R * 4294967296) + Y) - IntKind.u64.wrap (p * 18446744073709509352)) = S := by rw [hS]; exact digit_wrap f0 f1
              have s0 : 0 ≤ S := by omega
              have s1 : S < 18446744073709509352 := by omega
              have HF := Lib.hid (div_end HA.out HR.out hS s0 s1)
              clear hS
              go_wp2
              go_ret2
              exact ⟨⟨_, congrArg Ending.returned (tuple_snd HF.out)⟩, rfl⟩
            · have c4 : r + 4294967295 < 4294967296 := by omega
              go_wp2
              go_round
              case rel => exact ⟨q - 1, r + 4294967295, rfl, rfl, by omega, by omega, by omega, by omega, by have := HQ.out; omega, by have := HV.out; have := HQ.out; omega⟩
              case measure => simp [intOf]; omega
          · have c1' : q < 4294967296 := by omega
            by_cases c2 : 4294967296 * r + Y < q * 4294925032
            · by_cases c3 : 4294967296 ≤ r + 4294967295
              · have f0 : (q - 1) * 18446744073709509352 ≤ R * 4294967296 + Y := by have := HQ.out; omega
                have f1 : R * 4294967296 + Y < (q - 1 + 1) * 18446744073709509352 := by have := HQ.out; have := HV.out; omega
                obtain ⟨p, hp⟩ : ∃ p, p = q - 1 := ⟨_, rfl⟩
                have e7 : q - 1 = p := hp.symm
                rw [e7] at f0 f1
                have p0 : 0 ≤ p := by omega
                clear hp HQ HV
                obtain ⟨S, hS⟩ : ∃ S, S = R * 4294967296 + Y - p * 18446744073709509352 := ⟨_, rfl⟩
                have e8 : IntKind.u64.wrap (IntKind.u64.wrap (IntKind.u64.wrap (R * 4294967296) + Y) - IntKind.u64.wrap (p * 18446744073709509352)) = S := by rw [hS]; exact digit_wrap f0 f1
                have s0 : 0 ≤ S := by omega
                have s1 : S < 18446744073709509352 := by omega
                have HF := Lib.hid (div_end HA.out HR.out hS s0 s1)
                clear hS
                go_wp2
                go_ret2
                exact ⟨⟨_, congrArg Ending.returned (tuple_snd HF.out)⟩, rfl⟩
              · have c4 : r + 4294967295 < 4294967296 := by omega
                go_wp2
                go_round
                case rel => exact ⟨q - 1, r + 4294967295, rfl, rfl, by omega, by omega, by omega, by omega, by have := HQ.out; omega, by have := HV.out; have := HQ.out; omega⟩
                case measure => simp [intOf]; omega
            · have c2' : q * 4294925032 ≤ 4294967296 * r + Y := by omega
              have f0 : q * 18446744073709509352 ≤ R * 4294967296 + Y := by have := HQ.out; omega
              have f1 : R * 4294967296 + Y < (q + 1) * 18446744073709509352 := HV.out
              clear HQ HV
              obtain ⟨S, hS⟩ : ∃ S, S = R * 4294967296 + Y - q * 18446744073709509352 := ⟨_, rfl⟩
              have e8 : IntKind.u64.wrap (IntKind.u64.wrap (IntKind.u64.wrap (R * 4294967296) + Y) - IntKind.u64.wrap (q * 18446744073709509352)) = S := by rw [hS]; exact digit_wrap f0 f1
              have s0 : 0 ≤ S := by omega
              have s1 : S < 18446744073709509352 := by omega
              have HF := Lib.hid (div_end HA.out HR.out hS s0 s1)
              clear hS
              go_wp2
              go_ret2
              exact ⟨⟨_, congrArg Ending.returned (tuple_snd HF.out)⟩, rfl⟩

      · have c4 : r + 4294967295 < 4294967296 := by omega
        go_wp2
        go_round
        case rel => exact ⟨q - 1, r + 4294967295, rfl, rfl, by omega, by omega, by omega, by omega, by have := HQ.out; omega, by have := HV.out; have := HQ.out; omega⟩
        case measure => simp [intOf]; omega
    · have c1' : q < 4294967296 := by omega
      by_cases c2 : 4294967296 * r + X < q * 4294925032
      · by_cases c3 : 4294967296 ≤ r + 4294967295
        · have f0 : (q - 1) * 18446744073709509352 ≤ U * 4294967296 + X := by have := HQ.out; omega
          have f1 : U * 4294967296 + X < (q - 1 + 1) * 18446744073709509352 := by have := HQ.out; have := HV.out; omega
          obtain ⟨p, hp⟩ : ∃ p, p = q - 1 := ⟨_, rfl⟩
          have e7 : q - 1 = p := hp.symm
          rw [e7] at f0 f1
          have p0 : 0 ≤ p := by omega
          clear hp HQ HV
          obtain ⟨R, hR⟩ : ∃ R, R = U * 4294967296 + X - p * 18446744073709509352 := ⟨_, rfl⟩
          have e6 : IntKind.u64.wrap (IntKind.u64.wrap (IntKind.u64.wrap (U * 4294967296) + X) - IntKind.u64.wrap (p * 18446744073709509352)) = R := by rw [hR]; exact digit_wrap f0 f1
          have r2 : 0 ≤ R := by omega
          have r3 : R < 18446744073709509352 := by omega
          have HR := Lib.hid hR
          clear hR
          go_wp2
          clear e6 e7
          go_loop [18, 16] (fun s18 s16 => ∃ q r : Int, s18 = .int .u64 q ∧ s16 = .int .u64 r ∧ 0 ≤ q ∧ 0 ≤ r ∧ r < 4294967296 ∧ q ≤ 4294967298 ∧ q * 4294967295 + r = R ∧ R * 4294967296 + Y < (q + 1) * 18446744073709509352) (fun s18 _ => (intOf s18).toNat)
          case atStart => exact ⟨_, _, rfl, rfl, by omega, by omega, by omega, by omega, by omega, by omega⟩
          case round =>
            obtain ⟨q, r, rfl, rfl, q0, r0, r1, q2, hq, hv⟩ := hrel
            have HQ := Lib.hid hq; have HV := Lib.hid hv
            clear hq hv
            by_cases c1 : 4294967296 ≤ q
            · by_cases c3 : 4294967296 ≤ r + 4294967295
              · have f0 : (q - 1) * 18446744073709509352 ≤ R * 4294967296 + Y := by have := HQ.out; omega
                have f1 : R * 4294967296 + Y < (q - 1 + 1) * 18446744073709509352 := by have := HQ.out; have := HV.out; omega
                obtain ⟨p, hp⟩ : ∃ p, p = q - 1 := ⟨_, rfl⟩
                have e7 : q - 1 = p := hp.symm
                rw [e7] at f0 f1
                have p0 : 0 ≤ p := by omega
                clear hp HQ HV
                obtain ⟨S, hS⟩ : ∃ S, S = R * 4294967296 + Y - p * 18446744073709509352 := ⟨_, rfl⟩
                have e8 : IntKind.u64.wrap (IntKind.u64.wrap (IntKind.u64.wrap (R * 4294967296) + Y) - IntKind.u64.wrap (p * 18446744073709509352)) = S := by rw [hS]; exact digit_wrap f0 f1
                have s0 : 0 ≤ S := by omega
                have s1 : S < 18446744073709509352 := by omega
                have HF := Lib.hid (div_end HA.out HR.out hS s0 s1)
                clear hS
                go_wp2
                go_ret2
                exact ⟨⟨_, congrArg Ending.returned (tuple_snd HF.out)⟩, rfl⟩
              · have c4 : r + 4294967295 < 4294967296 := by omega
                go_wp2
                go_round
                case rel => exact ⟨q - 1, r + 4294967295, rfl, rfl, by omega, by omega, by omega, by omega, by have := HQ.out; omega, by have := HV.out; have := HQ.out; omega⟩
                case measure => simp [intOf]; omega
            · have c1' : q < 4294967296 := by omega
              by_cases c2 : 4294967296 * r + Y < q * 4294925032
              · by_cases c3 : 4294967296 ≤ r + 4294967295
                · have f0 : (q - 1) * 18446744073709509352 ≤ R * 4294967296 + Y := by have := HQ.out; omega
                  have f1 : R * 4294967296 + Y < (q - 1 + 1) * 18446744073709509352 := by have := HQ.out; have := HV.out; omega
                  obtain ⟨p, hp⟩ : ∃ p, p = q - 1 := ⟨_, rfl⟩
                  have e7 : q - 1 = p := hp.symm
                  rw [e7] at f0 f1
                  have p0 : 0 ≤ p := by omega
                  clear hp HQ HV
                  obtain ⟨S, hS⟩ : ∃ S, S = R * 4294967296 + Y - p * 18446744073709509352 := ⟨_, rfl⟩
                  have e8 : IntKind.u64.wrap (IntKind.u64.wrap (IntKind.u64.wrap (R * 4294967296) + Y) - IntKind.u64.wrap (p * 18446744073709509352)) = S := by rw [hS]; exact digit_wrap f0 f1
                  have s0 : 0 ≤ S := by omega
                  have s1 : S < 18446744073709509352 := by omega
                  have HF := Lib.hid (div_end HA.out HR.out hS s0 s1)
                  clear hS
                  go_wp2
                  go_ret2
                  exact ⟨⟨_, congrArg Ending.returned (tuple_snd HF.out)⟩, rfl⟩
                · have c4 : r + 4294967295 < 4294967296 := by omega
                  go_wp2
                  go_round
                  case rel => exact ⟨q - 1, r + 4294967295, rfl, rfl, by omega, by omega, by omega, by omega, by have := HQ.out; omega, by have := HV.out; have := HQ.out; omega⟩
                  case measure => simp [intOf]; omega
              · have c2' : q * 4294925032 ≤ 4294967296 * r + Y := by omega
                have f0 : q * 18446744073709509352 ≤ R * 4294967296 + Y := by have := HQ.out; omega
                have f1 : R * 4294967296 + Y < (q + 1) * 18446744073709509352 := HV.out
                clear HQ HV
                obtain ⟨S, hS⟩ : ∃ S, S = R * 4294967296 + Y - q * 18446744073709509352 := ⟨_, rfl⟩
                have e8 : IntKind.u64.wrap (IntKind.u64.wrap (IntKind.u64.wrap (R * 4294967296) + Y) - IntKind.u64.wrap (q * 18446744073709509352)) = S := by rw [hS]; exact digit_wrap f0 f1
                have s0 : 0 ≤ S := by omega
                have s1 : S < 18446744073709509352 := by omega
                have HF := Lib.hid (div_end HA.out HR.out hS s0 s1)
                clear hS
                go_wp2
                go_ret2
                exact ⟨⟨_, congrArg Ending.returned (tuple_snd HF.out)⟩, rfl⟩

        · have c4 : r + 4294967295 < 4294967296 := by omega
          go_wp2
          go_round
          case rel => exact ⟨q - 1, r + 4294967295, rfl, rfl, by omega, by omega, by omega, by omega, by have := HQ.out; omega, by have := HV.out; have := HQ.out; omega⟩
          case measure => simp [intOf]; omega
      · have c2' : q * 4294925032 ≤ 4294967296 * r + X := by omega
        have f0 : q * 18446744073709509352 ≤ U * 4294967296 + X := by have := HQ.out; omega
        have f1 : U * 4294967296 + X < (q + 1) * 18446744073709509352 := HV.out
        clear HQ HV
        obtain ⟨R, hR⟩ : ∃ R, R = U * 4294967296 + X - q * 18446744073709509352 := ⟨_, rfl⟩
        have e6 : IntKind.u64.wrap (IntKind.u64.wrap (IntKind.u64.wrap (U * 4294967296) + X) - IntKind.u64.wrap (q * 18446744073709509352)) = R := by rw [hR]; exact digit_wrap f0 f1
        have r2 : 0 ≤ R := by omega
        have r3 : R < 18446744073709509352 := by omega
        have HR := Lib.hid hR
        clear hR
        go_wp2
        clear e6 
        go_loop [18, 16] (fun s18 s16 => ∃ q r : Int, s18 = .int .u64 q ∧ s16 = .int .u64 r ∧ 0 ≤ q ∧ 0 ≤ r ∧ r < 4294967296 ∧ q ≤ 4294967298 ∧ q * 4294967295 + r = R ∧ R * 4294967296 + Y < (q + 1) * 18446744073709509352) (fun s18 _ => (intOf s18).toNat)
        case atStart => exact ⟨_, _, rfl, rfl, by omega, by omega, by omega, by omega, by omega, by omega⟩
        case round =>
          obtain ⟨q, r, rfl, rfl, q0, r0, r1, q2, hq, hv⟩ := hrel
          have HQ := Lib.hid hq; have HV := Lib.hid hv
          clear hq hv
          by_cases c1 : 4294967296 ≤ q
          · by_cases c3 : 4294967296 ≤ r + 4294967295
            · have f0 : (q - 1) * 18446744073709509352 ≤ R * 4294967296 + Y := by have := HQ.out; omega
              have f1 : R * 4294967296 + Y < (q - 1 + 1) * 18446744073709509352 := by have := HQ.out; have := HV.out; omega
              obtain ⟨p, hp⟩ : ∃ p, p = q - 1 := ⟨_, rfl⟩
              have e7 : q - 1 = p := hp.symm
              rw [e7] at f0 f1
              have p0 : 0 ≤ p := by omega
              clear hp HQ HV
              obtain ⟨S, hS⟩ : ∃ S, S = R * 4294967296 + Y - p * 18446744073709509352 := ⟨_, rfl⟩
              have e8 : IntKind.u64.wrap (IntKind.u64.wrap (IntKind.u64.wrap (R * 4294967296) + Y) - IntKind.u64.wrap (p * 18446744073709509352)) = S := by rw [hS]; exact digit_wrap f0 f1
              have s0 : 0 ≤ S := by omega
              have s1 : S < 18446744073709509352 := by omega
              have HF := Lib.hid (div_end HA.out HR.out hS s0 s1)
              clear hS
              go_wp2
              go_ret2
              exact ⟨⟨_, congrArg Ending.returned (tuple_snd HF.out)⟩, rfl⟩
            · have c4 : r + 4294967295 < 4294967296 := by omega
              go_wp2
              go_round
              case rel => exact ⟨q - 1, r + 4294967295, rfl, rfl, by omega, by omega, by omega, by omega, by have := HQ.out; omega, by have := HV.out; have := HQ.out; omega⟩
              case measure => simp [intOf]; omega
          · have c1' : q < 4294967296 := by omega
            by_cases c2 : 4294967296 * r + Y < q * 4294925032
            · by_cases c3 : 4294967296 ≤ r + 4294967295
              · have f0 : (q - 1) * 18446744073709509352 ≤ R * 4294967296 + Y := by have := HQ.out; omega
                have f1 : R * 4294967296 + Y < (q - 1 + 1) * 18446744073709509352 := by have := HQ.out; have := HV.out; omega
                obtain ⟨p, hp⟩ : ∃ p, p = q - 1 := ⟨_, rfl⟩
                have e7 : q - 1 = p := hp.symm
                rw [e7] at f0 f1
                have p0 : 0 ≤ p := by omega
                clear hp HQ HV
                obtain ⟨S, hS⟩ : ∃ S, S = R * 4294967296 + Y - p * 18446744073709509352 := ⟨_, rfl⟩
                have e8 : IntKind.u64.wrap (IntKind.u64.wrap (IntKind.u64.wrap (R * 4294967296) + Y) - IntKind.u64.wrap (p * 18446744073709509352)) = S := by rw [hS]; exact digit_wrap f0 f1
                have s0 : 0 ≤ S := by omega
                have s1 : S < 18446744073709509352 := by omega
                have HF := Lib.hid (div_end HA.out HR.out hS s0 s1)
                clear hS
                go_wp2
                go_ret2
                exact ⟨⟨_, congrArg Ending.returned (tuple_snd HF.out)⟩, rfl⟩
              · have c4 : r + 4294967295 < 4294967296 := by omega
                go_wp2
                go_round
                case rel => exact ⟨q - 1, r + 4294967295, rfl, rfl, by omega, by omega, by omega, by omega, by have := HQ.out; omega, by have := HV.out; have := HQ.out; omega⟩
                case measure => simp [intOf]; omega
            · have c2' : q * 4294925032 ≤ 4294967296 * r + Y := by omega
              have f0 : q * 18446744073709509352 ≤ R * 4294967296 + Y := by have := HQ.out; omega
              have f1 : R * 4294967296 + Y < (q + 1) * 18446744073709509352 := HV.out
              clear HQ HV
              obtain ⟨S, hS⟩ : ∃ S, S = R * 4294967296 + Y - q * 18446744073709509352 := ⟨_, rfl⟩
              have e8 : IntKind.u64.wrap (IntKind.u64.wrap (IntKind.u64.wrap (R * 4294967296) + Y) - IntKind.u64.wrap (q * 18446744073709509352)) = S := by rw [hS]; exact digit_wrap f0 f1
              have s0 : 0 ≤ S := by omega
              have s1 : S < 18446744073709509352 := by omega
              have HF := Lib.hid (div_end HA.out HR.out hS s0 s1)
              clear hS
              go_wp2
              go_ret2
              exact ⟨⟨_, congrArg Ending.returned (tuple_snd HF.out)⟩, rfl⟩


set_option maxHeartbeats 1000000 in
set_option maxRecDepth 100000 in
theorem div64_zero (lo : Int) (h2 : 0 ≤ lo) (h3 : lo < 18446744073709551616) (w : World) :
    Calls Try.prog 43 #[.int .u64 0, .int .u64 lo, .int .u64 2305843009213688669] w fun e w' => (∃ q, e = .returned (.tuple #[.int .u64 q, .int .u64 (lo % 2305843009213688669)])) ∧ ∃ n, w' = w.drewN n := by
  go_enter Try.func43, Try.ntmps43
  go_wp2
  go_quiet (fail)
  go_wp2
  go_ret2
  exact ⟨⟨_, rfl⟩, _, rfl⟩

theorem mul64i (x y : Int) (hx0 : 0 ≤ x) (hx : x < 18446744073709551616) (hy0 : 0 ≤ y) (hy : y < 18446744073709551616) (w : World) :
    Calls Try.prog 42 #[.int .u64 x, .int .u64 y] w fun e w' => e = .returned (.tuple #[.int .u64 (x * y / 18446744073709551616), .int .u64 (x * y % 18446744073709551616)]) ∧ w = w' := by
  have h := mul64 x.toNat y.toNat (by omega) (by omega) w
  have e : ((x.toNat * y.toNat : Nat) : Int) = x * y := by rw [Int.natCast_mul, Int.toNat_of_nonneg hx0, Int.toNat_of_nonneg hy0]
  rw [Int.natCast_ediv, Int.natCast_emod, e, Int.toNat_of_nonneg hx0, Int.toNat_of_nonneg hy0] at h
  exact h

theorem mul_bound {a b : Int} (h0 : 0 ≤ a) (h1 : a < 2305843009213688669) (h2 : 0 ≤ b) (h3 : b < 2305843009213688669) : 0 ≤ a * b ∧ a * b ≤ 2305843009213688668 * 2305843009213688668 :=
  ⟨Int.mul_nonneg h0 h2, Int.mul_le_mul (by omega) (by omega) h2 (by omega)⟩

theorem ret_int {k : IntKind} {a b : Int} (h : a = b) : Ending.returned (.int k a) = .returned (.int k b) := by rw [h]

set_option maxHeartbeats 1000000 in
set_option maxRecDepth 100000 in
/-- The product of two scalars. -/
theorem product (a b : Int) (h0 : 0 ≤ a) (h1 : a < 2305843009213688669) (h2 : 0 ≤ b) (h3 : b < 2305843009213688669) (w : World) :
    Calls Try.prog 32 #[.int .i64 a, .int .i64 b] w fun e w' => e = .returned (.int .i64 (a * b % 2305843009213688669)) ∧ ∃ n, w' = w.drewN n := by
  obtain ⟨b0, b1⟩ := mul_bound h0 h1 h2 h3
  have M := Lib.hid (mul64i a b h0 (by omega) h2 (by omega) w)
  obtain ⟨p, hp⟩ : ∃ p, p = a * b := ⟨_, rfl⟩
  rw [← hp] at b0 b1
  have HP := Lib.hid hp
  clear hp
  by_cases hz : p / 18446744073709551616 = 0
  · go_enter Try.func32, Try.ntmps32
    go_wp2_with fail
    refine M.out.mono ?_
    rintro e w' ⟨rfl, rfl⟩
    rw [← HP.out, hz]
    have hm := Lib.hid (show p % 18446744073709551616 % 2305843009213688669 = p % 2305843009213688669 by omega)
    have g0 : 0 ≤ p % 18446744073709551616 := by omega
    have g1 : p % 18446744073709551616 < 18446744073709551616 := by omega
    clear hz
    generalize p % 18446744073709551616 = l at *
    go_wp2_with fail
    refine (div64_zero l g0 g1 _).mono ?_
    rintro e w' ⟨⟨q, rfl⟩, n, rfl⟩
    rw [hm.out]
    go_wp2
    go_ret
    exact ⟨ret_int (by rw [HP.out]), n, rfl⟩
  · have hpos : 0 < p / 18446744073709551616 := by omega
    have hlt : p / 18446744073709551616 < 2305843009213688669 := by omega
    go_enter Try.func32, Try.ntmps32
    go_wp2_with fail
    refine M.out.mono ?_
    rintro e w' ⟨rfl, rfl⟩
    rw [← HP.out]
    have hm := Lib.hid (show (p / 18446744073709551616 * 18446744073709551616 + p % 18446744073709551616) = p by omega)
    have g0 : 0 ≤ p % 18446744073709551616 := by omega
    have g1 : p % 18446744073709551616 < 18446744073709551616 := by omega
    clear hz
    generalize p % 18446744073709551616 = l at *
    generalize p / 18446744073709551616 = h at *
    go_wp2_with fail
    refine (div64 h l hpos hlt g0 g1 _).mono ?_
    rintro e w' ⟨⟨q, rfl⟩, rfl⟩
    rw [hm.out]
    go_wp2
    go_ret
    exact ⟨ret_int (by rw [HP.out]), 0, rfl⟩
end Go.Proofs.Ytanheijppjpbjaa
