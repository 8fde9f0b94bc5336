/- The contracts of the reference's loops over numbers (Level, Under, Common), and of paths.Common. -/
import Derived.Test.YtidlnaanldccfaaInts
import Derived.Deep.LoopGhost
namespace Go.Proofs.Ytidlnaanldccfaa
open Go.RowKit

/-- k times doubled, the node n has come to m. -/
def Dbl (n k m : Nat) : Prop := m = n * 2 ^ k
theorem Dbl.start (n : Nat) : Dbl n 0 n := by simp [Dbl]
theorem Dbl.next {n k m : Nat} (h : Dbl n k m) : Dbl n (k + 1) (2 * m) := by
  unfold Dbl at *
  rw [h, Nat.pow_succ, Nat.mul_comm 2, Nat.mul_assoc]
theorem Dbl.lev {n k m : Nat} (h : Dbl n k m) (h0 : 512 ≤ m) (h1 : m < 1024) (hn : 1 ≤ n) : lev (n : Int) = k := by
  unfold Dbl at h
  subst h
  exact lev_of n k h0 h1 hn

set_option maxHeartbeats 1000000 in
set_option maxRecDepth 100000 in
theorem rlevel_yes (n : Int) (w : World) (h0 : 1 ≤ n) (h1 : n < 1024) :
    Calls Try.prog 14 #[.int .i64 n] w fun e w' => e = .returned (.tuple #[.int .i64 (lev n), .int .i64 0]) ∧ w = w' := by
  obtain ⟨N, rfl⟩ : ∃ N : Nat, n = N := ⟨n.toNat, by omega⟩
  go_enter Try.func14, Try.ntmps14
  go_wp2_with (go_at_call 27; refine (rnode_yes _ _ h0 h1).mono ?_; rintro e w' ⟨rfl, rfl⟩)
  go_loop [0, 4] (fun s0 s3 => ∃ k m : Nat, Dbl N k m ∧ 1 ≤ m ∧ m < 1024 ∧ k < m ∧ s0 = .int .i64 m ∧ s3 = .int .i64 k) (fun s0 _ => 1024 - (intOf s0).toNat)
  case atStart => exact ⟨0, N, Dbl.start N, by omega, by omega, by omega, rfl, rfl⟩
  case round =>
    obtain ⟨k, m, hd0, hm0, hm1, hk, rfl, rfl⟩ := hrel
    have hd := Lib.hid hd0; clear hd0
    by_cases hlt : m < 512
    · go_wp2
      go_round
      case rel => exact ⟨k + 1, 2 * m, hd.out.next, by omega, by omega, by omega, by go_num, by go_num⟩
      case measure => simp [intOf]; omega
    · go_wp2
      go_ret2
      refine ⟨?_, rfl⟩
      rw [hd.out.lev (by omega) hm1 (by omega)]
      rfl
theorem rlevel_no (n : Int) (w : World) (h : n < 1 ∨ 1024 ≤ n) :
    Calls Try.prog 14 #[.int .i64 n] w fun e w' => e = .returned (.tuple #[.int .i64 0, .int .i64 200]) ∧ w = w' := by
  have H := Lib.hid h; clear h
  go_enter Try.func14, Try.ntmps14
  go_wp2_with (go_at_call 27; refine (rnode_no _ _ H.out).mono ?_; rintro e w' ⟨rfl, rfl⟩)
  go_ret2
  exact ⟨rfl, rfl⟩

theorem fr_dbl {n k m : Nat} (h : Dbl n k m) (h0 : 512 ≤ m) (h1 : m < 1024) (hn : 1 ≤ n) : (m : Int) - 512 = fr n := by
  have hl := h.lev h0 h1 hn
  unfold Dbl at h
  unfold fr
  rw [hl, h]
  push_cast
  rfl
theorem till_dbl {n k m l : Nat} (h : Dbl n k m) (g : Dbl (n + 1) k (l + 1)) (h0 : 512 ≤ m) (h1 : m < 1024) (hn : 1 ≤ n) : (l : Int) - 512 + 1 = till n := by
  have hl := h.lev h0 h1 hn
  unfold Dbl at g
  have e : ((l + 1 : Nat) : Int) = ((n : Int) + 1) * 2 ^ k := by rw [g]; push_cast; rfl
  unfold till
  rw [hl, ← e]
  push_cast
  omega
theorem Dbl.last {n k l : Nat} (h : Dbl (n + 1) k (l + 1)) : Dbl (n + 1) (k + 1) (2 * l + 1 + 1) := by
  have := h.next
  rwa [show 2 * (l + 1) = 2 * l + 1 + 1 by omega] at this

set_option maxHeartbeats 1000000 in
set_option maxRecDepth 100000 in
theorem runder_yes (n : Int) (w : World) (h0 : 1 ≤ n) (h1 : n < 1024) :
    Calls Try.prog 21 #[.int .i64 n] w fun e w' => e = .returned (.tuple #[.int .i64 (fr n), .int .i64 (till n), .int .i64 0]) ∧ w = w' := by
  obtain ⟨N, rfl⟩ : ∃ N : Nat, n = N := ⟨n.toNat, by omega⟩
  go_enter Try.func21, Try.ntmps21
  go_wp2_with (go_at_call 27; refine (rnode_yes _ _ h0 h1).mono ?_; rintro e w' ⟨rfl, rfl⟩)
  go_loop [5, 6] (fun s5 s6 => ∃ k m l : Nat, Dbl N k m ∧ Dbl (N + 1) k (l + 1) ∧ 1 ≤ m ∧ m < 1024 ∧ m ≤ l ∧ l < 2 * m ∧ s5 = .int .i64 m ∧ s6 = .int .i64 l) (fun s5 _ => 1024 - (intOf s5).toNat)
  case atStart => exact ⟨0, N, N, Dbl.start N, Dbl.start (N + 1), by omega, by omega, by omega, by omega, rfl, rfl⟩
  case round =>
    obtain ⟨k, m, l, hd0, hl0, hm0, hm1, hm2, hm3, rfl, rfl⟩ := hrel
    have hd := Lib.hid hd0; clear hd0
    have hl := Lib.hid hl0; clear hl0
    by_cases hlt : m < 512
    · go_wp2
      go_round
      case rel => exact ⟨k + 1, 2 * m, 2 * l + 1, hd.out.next, hl.out.last, by omega, by omega, by omega, by omega, by go_num, by go_num⟩
      case measure => simp [intOf]; omega
    · go_wp2
      go_ret3
      refine ⟨?_, rfl⟩
      rw [← fr_dbl hd.out (by omega) hm1 (by omega), ← till_dbl hd.out hl.out (by omega) hm1 (by omega)]
      rfl
theorem runder_no (n : Int) (w : World) (h : n < 1 ∨ 1024 ≤ n) :
    Calls Try.prog 21 #[.int .i64 n] w fun e w' => e = .returned (.tuple #[.int .i64 0, .int .i64 0, .int .i64 200]) ∧ w = w' := by
  have H := Lib.hid h; clear h
  go_enter Try.func21, Try.ntmps21
  go_wp2_with (go_at_call 27; refine (rnode_no _ _ H.out).mono ?_; rintro e w' ⟨rfl, rfl⟩)
  go_ret3
  exact ⟨rfl, rfl⟩

theorem com_min (a b : Int) (h0 : 0 ≤ a) (h1 : a < 512) (h2 : 0 ≤ b) (h3 : b < 512) : com a b = (512 + a) / 2 ^ min (Lib.bitLen ((512 + a).toNat ^^^ (512 + b).toNat)) 64 := by
  have h := dist_le a b h0 h1 h2 h3
  unfold dist at h
  rw [Nat.min_eq_left (by omega)]
  rfl
theorem common_yes (a b : Int) (w : World) (h0 : 0 ≤ a) (h1 : a < 512) (h2 : 0 ≤ b) (h3 : b < 512) :
    Calls Try.prog 22 #[.int .i64 a, .int .i64 b] w fun e w' => e = .returned (.tuple #[.int .i64 (com a b), .int .i64 0]) ∧ w = w' := by
  go_enter Try.func22, Try.ntmps22
  go_wp2_with (first | (go_at_call 11; refine (leaf_yes _ _ (by omega) (by omega)).mono ?_; rintro e w' ⟨rfl, rfl⟩))
  rw [xor_arg a b h0 h1 h2 h3]
  refine (len _ _ (by omega) (by have := xor_lt (512 + a).toNat (512 + b).toNat (by omega) (by omega); omega)).mono ?_
  rintro e w' ⟨rfl, rfl⟩
  go_wp2
  go_ret2
  refine ⟨?_, rfl⟩
  rw [com_min a b h0 h1 h2 h3]
  rfl
theorem common_no (a b : Int) (w : World) (h : a < 0 ∨ 512 ≤ a ∨ b < 0 ∨ 512 ≤ b) :
    Calls Try.prog 22 #[.int .i64 a, .int .i64 b] w fun e w' => e = .returned (.tuple #[.int .i64 0, .int .i64 200]) ∧ w = w' := by
  have H := Lib.hid h; clear h
  by_cases ha : 0 ≤ a ∧ a < 512
  · obtain ⟨h0, h1⟩ := ha
    have hb : b < 0 ∨ 512 ≤ b := by have := H.out; omega
    have B := Lib.hid hb; clear hb
    go_enter Try.func22, Try.ntmps22
    go_wp2_with fail
    refine (leaf_yes _ _ h0 h1).mono ?_
    rintro e w' ⟨rfl, rfl⟩
    go_wp2_with fail
    refine (leaf_no _ _ B.out).mono ?_
    rintro e w' ⟨rfl, rfl⟩
    go_wp2
    go_ret2
    exact ⟨rfl, rfl⟩
  · have hb : a < 0 ∨ 512 ≤ a := by omega
    have B := Lib.hid hb; clear hb ha
    go_enter Try.func22, Try.ntmps22
    go_wp2_with fail
    refine (leaf_no _ _ B.out).mono ?_
    rintro e w' ⟨rfl, rfl⟩
    go_wp2
    go_ret2
    exact ⟨rfl, rfl⟩

/-- Behind k rounds both nodes stand k levels up, and have not met before. -/
def Up (a b : Int) (k : Nat) (x y : Int) : Prop := x = nd a k ∧ y = nd b k ∧ k ≤ dist a b
theorem Up.start (a b : Int) : Up a b 0 (512 + a) (512 + b) := ⟨(nd_zero a).symm, (nd_zero b).symm, Nat.zero_le _⟩
theorem Up.next {a b : Int} {k : Nat} {x y : Int} (h : Up a b k x y) (hne : ¬ x = y) (h0 : 0 ≤ a) (h1 : a < 512) (h2 : 0 ≤ b) (h3 : b < 512) : Up a b (k + 1) (x / 2) (y / 2) := by
  obtain ⟨rfl, rfl, hk⟩ := h
  rw [nd_eq_iff a b k h0 h1 h2 h3] at hne
  exact ⟨(nd_succ a k).symm, (nd_succ b k).symm, by omega⟩
theorem Up.stop {a b : Int} {k : Nat} {x y : Int} (h : Up a b k x y) (he : x = y) (h0 : 0 ≤ a) (h1 : a < 512) (h2 : 0 ≤ b) (h3 : b < 512) : x = com a b := by
  obtain ⟨rfl, rfl, hk⟩ := h
  rw [nd_eq_iff a b k h0 h1 h2 h3] at he
  unfold com
  rw [show dist a b = k by omega]
theorem Up.low {a b : Int} {k : Nat} {x y : Int} (h : Up a b k x y) (h0 : 0 ≤ a) (h1 : a < 512) (h2 : 0 ≤ b) (h3 : b < 512) : 1 ≤ x ∧ x < 1024 ∧ 1 ≤ y ∧ y < 1024 := by
  obtain ⟨rfl, rfl, hk⟩ := h
  have hd := dist_le a b h0 h1 h2 h3
  have ha := nd_bounds a k h0 h1 (by omega)
  have hb := nd_bounds b k h2 h3 (by omega)
  have e1 : (1 : Int) ≤ 2 ^ (9 - k) := by have := Int.pow_pos (n := 2) (m := 9 - k) (by omega); omega
  have e2 : (2 : Int) ^ (10 - k) ≤ 1024 := by
    have : (2 : Nat) ^ (10 - k) ≤ 2 ^ 10 := Nat.pow_le_pow_right (by omega) (by omega)
    have e3 : ((2 ^ (10 - k) : Nat) : Int) = 2 ^ (10 - k) := by push_cast; rfl
    omega
  omega

set_option maxHeartbeats 1000000 in
set_option maxRecDepth 100000 in
theorem rcommon_yes (a b : Int) (w : World) (h0 : 0 ≤ a) (h1 : a < 512) (h2 : 0 ≤ b) (h3 : b < 512) :
    Calls Try.prog 23 #[.int .i64 a, .int .i64 b] w fun e w' => e = .returned (.tuple #[.int .i64 (com a b), .int .i64 0]) ∧ w = w' := by
  go_enter Try.func23, Try.ntmps23
  go_wp2_with (first | (go_at_call 12; refine (rleaf_yes _ _ (by omega) (by omega)).mono ?_; rintro e w' ⟨rfl, rfl⟩))
  go_loop [6, 8] (fun s6 s8 => ∃ (k : Nat) (x y : Int), Up a b k x y ∧ s6 = .int .i64 x ∧ s8 = .int .i64 y) (fun s6 _ => (intOf s6).toNat)
  case atStart => exact ⟨0, _, _, Up.start a b, rfl, rfl⟩
  case round =>
    obtain ⟨k, x, y, hu0, rfl, rfl⟩ := hrel
    obtain ⟨hx0, hx1, hy0, hy1⟩ := hu0.low h0 h1 h2 h3
    have hu := Lib.hid hu0; clear hu0
    by_cases he : x = y
    · have hb : (x != y) = false := by simp [he]
      have E := Lib.hid he; clear he
      go_wp2
      go_ret2
      refine ⟨?_, rfl⟩
      rw [← hu.out.stop E.out h0 h1 h2 h3]
      rfl
    · have hb : (x != y) = true := by simp [he]
      have E := Lib.hid he; clear he
      go_wp2
      go_round
      case rel => exact ⟨k + 1, x / 2, y / 2, hu.out.next E.out h0 h1 h2 h3, rfl, rfl⟩
      case measure => simp [intOf]; omega
theorem rcommon_no (a b : Int) (w : World) (h : a < 0 ∨ 512 ≤ a ∨ b < 0 ∨ 512 ≤ b) :
    Calls Try.prog 23 #[.int .i64 a, .int .i64 b] w fun e w' => e = .returned (.tuple #[.int .i64 0, .int .i64 200]) ∧ w = w' := by
  have H := Lib.hid h; clear h
  by_cases ha : 0 ≤ a ∧ a < 512
  · obtain ⟨h0, h1⟩ := ha
    have hb : b < 0 ∨ 512 ≤ b := by have := H.out; omega
    have B := Lib.hid hb; clear hb
    go_enter Try.func23, Try.ntmps23
    go_wp2_with fail
    refine (rleaf_yes _ _ h0 h1).mono ?_
    rintro e w' ⟨rfl, rfl⟩
    go_wp2_with fail
    refine (rleaf_no _ _ B.out).mono ?_
    rintro e w' ⟨rfl, rfl⟩
    go_wp2
    go_ret2
    exact ⟨rfl, rfl⟩
  · have hb : a < 0 ∨ 512 ≤ a := by omega
    have B := Lib.hid hb; clear hb ha
    go_enter Try.func23, Try.ntmps23
    go_wp2_with fail
    refine (rleaf_no _ _ B.out).mono ?_
    rintro e w' ⟨rfl, rfl⟩
    go_wp2
    go_ret2
    exact ⟨rfl, rfl⟩
end Go.Proofs.Ytidlnaanldccfaa
