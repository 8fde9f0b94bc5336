/- The contracts of the functions of package paths and of its reference that only compute with numbers: what each call returns, for every number. -/
import Derived.Test.YtidlnaanldccfaaRows
import Derived.Test.YtidlnaanldccfaaMath
import Derived.WalkKit
import Derived.WalkSpells
import Derived.WalkLawsBesides
import Derived.Deep.QuietTactic
import Derived.BigQuiet
import Derived.Laws.Bits64
import Derived.Laws.BitsAllLaws
import Derived.Lib.Hide
namespace Go.Proofs.Ytidlnaanldccfaa
open Go.RowKit

/-! ### Bits -/
theorem xor_i64 (a b : Nat) (ha : a < 1024) (hb : b < 1024) : bits .xor .i64 (a : Int) (b : Int) = ((a ^^^ b : Nat) : Int) := by
  have hx : a ^^^ b < 2 ^ 10 := Nat.xor_lt_two_pow (by omega) (by omega)
  show IntKind.i64.wrap ((BitVec.ofInt 64 (a : Int) ^^^ BitVec.ofInt 64 (b : Int)).toNat : Int) = _
  rw [BitVec.toNat_xor, ofInt_u64 a (by omega), ofInt_u64 b (by omega)]
  simp [IntKind.wrap, IntKind.bits, IntKind.signed]
  omega

theorem xor_lt (a b : Nat) (ha : a < 1024) (hb : b < 1024) : a ^^^ b < 1024 := Nat.xor_lt_two_pow (n := 10) (by omega) (by omega)

theorem xor_arg (a b : Int) (h0 : 0 ≤ a) (h1 : a < 512) (h2 : 0 ≤ b) (h3 : b < 512) :
    IntKind.u64.wrap (bits .xor .i64 (512 + a) (512 + b)) = (((512 + a).toNat ^^^ (512 + b).toNat : Nat) : Int) := by
  have e := xor_i64 (512 + a).toNat (512 + b).toNat (by omega) (by omega)
  have l := xor_lt (512 + a).toNat (512 + b).toNat (by omega) (by omega)
  rw [Int.toNat_of_nonneg (by omega), Int.toNat_of_nonneg (by omega)] at e
  rw [e, IntKind.wrap_u64]
  omega

theorem xor_one (n : Int) (h0 : 0 ≤ n) (h1 : n < 1024) : bits .xor .i64 n 1 = sib n := by
  have h2 : ∀ k : Fin 1024, ((k.val ^^^ 1 : Nat) : Int) = sib (k.val : Int) := by decide +kernel
  have e := xor_i64 n.toNat 1 (by omega) (by omega)
  rw [Int.toNat_of_nonneg h0] at e
  have h3 := h2 ⟨n.toNat, by omega⟩
  simp only [Int.toNat_of_nonneg h0] at h3
  exact e.trans h3

theorem tab_size : Lib.len8tab.size = 256 := by decide +kernel
theorem tab_at (k : Nat) (h : k < Lib.len8tab.size) : wrap64 (Lib.len8tab[k].toNat : Int) = (Lib.bitLen k : Int) := by
  have h1 : ∀ k : Fin 256, (Lib.len8tab.data[k.val]!).toNat = Lib.bitLen k.val := by decide +kernel
  have h2 := h1 ⟨k, by rw [tab_size] at h; exact h⟩
  have h3 : Lib.len8tab[k] = Lib.len8tab.data[k]! := by
    rw [getElem!_pos Lib.len8tab.data k (by simpa using h)]
    rfl
  have h4 := Lib.bitLen_le8 ⟨k, by rw [tab_size] at h; exact h⟩
  rw [h3]
  simp only at h2 h4
  rw [h2]
  unfold wrap64
  omega

set_option maxHeartbeats 1000000 in
set_option maxRecDepth 100000 in
theorem len64 (n : Int) (w : World) (h0 : 0 ≤ n) (h1 : n < 1024) :
    Calls Try.prog 35 #[.int .u64 n] w fun e w' => e = .returned (.int .i64 (Lib.bitLen n.toNat)) ∧ w' = w := by
  have hs := tab_size
  go_enter Try.func35, Try.ntmps35
  go_wp2
  all_goals (go_ret; refine ⟨congrArg Ending.returned (congrArg (Value.int IntKind.i64) ?_), rfl⟩; rw [tab_at])
  · have e : (n / 256).toNat = n.toNat / 256 := by omega
    have l := Lib.bitLen_le8' (n / 256) (by omega) (by omega)
    have s := Lib.bitLen_shift8 n.toNat (by omega) (by omega)
    rw [e] at l ⊢
    unfold wrap64
    omega
  · have l := Lib.bitLen_le8' n (by omega) (by omega)
    unfold wrap64
    omega
theorem len (n : Int) (w : World) (h0 : 0 ≤ n) (h1 : n < 1024) :
    Calls Try.prog 32 #[.int .u64 n] w fun e w' => e = .returned (.int .i64 (Lib.bitLen n.toNat)) ∧ w = w' := by
  go_enter Try.func32, Try.ntmps32
  go_wp2_with (go_at_call 35; refine (len64 _ _ (by omega) (by omega)).mono ?_; rintro e w' ⟨rfl, rfl⟩)
  go_ret
  exact ⟨rfl, rfl⟩

/-! ### Leaf, nodes, devices -/
theorem leaf_yes (d : Int) (w : World) (h0 : 0 ≤ d) (h1 : d < 512) :
    Calls Try.prog 11 #[.int .i64 d] w fun e w' => e = .returned (.tuple #[.int .i64 (512 + d), .int .i64 0]) ∧ w = w' := by
  go_enter Try.func11, Try.ntmps11
  go_wp2
  go_ret2
  exact ⟨rfl, rfl⟩
theorem leaf_no (d : Int) (w : World) (h : d < 0 ∨ 512 ≤ d) :
    Calls Try.prog 11 #[.int .i64 d] w fun e w' => e = .returned (.tuple #[.int .i64 0, .int .i64 200]) ∧ w = w' := by
  rcases h with h | h
  · go_enter Try.func11, Try.ntmps11
    go_wp2
    go_ret2
    exact ⟨rfl, rfl⟩
  · have h2 : 0 ≤ d := by omega
    go_enter Try.func11, Try.ntmps11
    go_wp2
    go_ret2
    exact ⟨rfl, rfl⟩
theorem isDev_yes (d : Int) (w : World) (h0 : 0 ≤ d) (h1 : d < 512) :
    Calls Try.prog 24 #[.int .i64 d] w fun e w' => e = .returned (.bool true) ∧ w = w' := by
  go_enter Try.func24, Try.ntmps24
  go_wp2
  go_ret
  exact ⟨rfl, rfl⟩
theorem isDev_no (d : Int) (w : World) (h : d < 0 ∨ 512 ≤ d) :
    Calls Try.prog 24 #[.int .i64 d] w fun e w' => e = .returned (.bool false) ∧ w = w' := by
  rcases h with h | h
  · go_enter Try.func24, Try.ntmps24
    go_wp2
    go_ret
    exact ⟨rfl, rfl⟩
  · have h2 : 0 ≤ d := by omega
    have h3 : decide (d < 512) = false := by simpa using h
    go_enter Try.func24, Try.ntmps24
    go_wp2
    go_ret
    exact ⟨rfl, rfl⟩
theorem isNode_yes (n : Int) (w : World) (h0 : 1 ≤ n) (h1 : n < 1024) :
    Calls Try.prog 25 #[.int .i64 n] w fun e w' => e = .returned (.bool true) ∧ w = w' := by
  go_enter Try.func25, Try.ntmps25
  go_wp2
  go_ret
  exact ⟨rfl, rfl⟩
theorem isNode_no (n : Int) (w : World) (h : n < 1 ∨ 1024 ≤ n) :
    Calls Try.prog 25 #[.int .i64 n] w fun e w' => e = .returned (.bool false) ∧ w = w' := by
  rcases h with h | h
  · go_enter Try.func25, Try.ntmps25
    go_wp2
    go_ret
    exact ⟨rfl, rfl⟩
  · have h2 : 1 ≤ n := by omega
    have h3 : decide (n < 1024) = false := by simpa using h
    go_enter Try.func25, Try.ntmps25
    go_wp2
    go_ret
    exact ⟨rfl, rfl⟩
theorem rnode_yes (n : Int) (w : World) (h0 : 1 ≤ n) (h1 : n < 1024) :
    Calls Try.prog 27 #[.int .i64 n] w fun e w' => e = .returned (.bool true) ∧ w = w' := by
  go_enter Try.func27, Try.ntmps27
  go_wp2
  go_ret
  exact ⟨rfl, rfl⟩
theorem rnode_no (n : Int) (w : World) (h : n < 1 ∨ 1024 ≤ n) :
    Calls Try.prog 27 #[.int .i64 n] w fun e w' => e = .returned (.bool false) ∧ w = w' := by
  rcases h with h | h
  · go_enter Try.func27, Try.ntmps27
    go_wp2
    go_ret
    exact ⟨rfl, rfl⟩
  · have h2 : 1 ≤ n := by omega
    have h3 : decide (n < 1024) = false := by simpa using h
    go_enter Try.func27, Try.ntmps27
    go_wp2
    go_ret
    exact ⟨rfl, rfl⟩
theorem rleaf_yes (d : Int) (w : World) (h0 : 0 ≤ d) (h1 : d < 512) :
    Calls Try.prog 12 #[.int .i64 d] w fun e w' => e = .returned (.tuple #[.int .i64 (512 + d), .int .i64 0]) ∧ w = w' := by
  go_enter Try.func12, Try.ntmps12
  go_wp2_with (go_at_call 24; refine (isDev_yes _ _ h0 h1).mono ?_; rintro e w' ⟨rfl, rfl⟩)
  go_ret2
  exact ⟨rfl, rfl⟩
theorem rleaf_no (d : Int) (w : World) (h : d < 0 ∨ 512 ≤ d) :
    Calls Try.prog 12 #[.int .i64 d] w fun e w' => e = .returned (.tuple #[.int .i64 0, .int .i64 200]) ∧ w = w' := by
  have H := Lib.hid h; clear h
  go_enter Try.func12, Try.ntmps12
  go_wp2_with (go_at_call 24; refine (isDev_no _ _ H.out).mono ?_; rintro e w' ⟨rfl, rfl⟩)
  go_ret2
  exact ⟨rfl, rfl⟩

/-! ### Levels, parents, siblings -/
theorem parent (n : Int) (w : World) (h0 : 1 ≤ n) (h1 : n < 1024) :
    Calls Try.prog 29 #[.int .i64 n] w fun e w' => e = .returned (.int .i64 (n / 2)) ∧ w = w' := by
  go_enter Try.func29, Try.ntmps29
  go_wp2
  go_ret
  exact ⟨rfl, rfl⟩
theorem ret_int {k : IntKind} {a b : Int} (h : a = b) : Ending.returned (.int k a) = .returned (.int k b) := by rw [h]
theorem sibling (n : Int) (w : World) (h0 : 1 ≤ n) (h1 : n < 1024) :
    Calls Try.prog 30 #[.int .i64 n] w fun e w' => e = .returned (.int .i64 (sib n)) ∧ w = w' := by
  go_enter Try.func30, Try.ntmps30
  go_wp2
  go_ret
  exact ⟨ret_int (xor_one n (by omega) h1), rfl⟩
theorem rsibling (n : Int) (w : World) (h0 : 1 ≤ n) (h1 : n < 1024) :
    Calls Try.prog 31 #[.int .i64 n] w fun e w' => e = .returned (.int .i64 (sib n)) ∧ w = w' := by
  go_enter Try.func31, Try.ntmps31
  by_cases h : n % 2 = 0
  · have H : Hid (sib n = n + 1) := Lib.hid (by unfold sib; rw [if_pos h])
    have hb : (n % 2 == 0) = true := beq_iff_eq.2 h
    clear h
    go_wp2
    go_ret
    exact ⟨ret_int H.out.symm, rfl⟩
  · have H : Hid (sib n = n - 1) := Lib.hid (by unfold sib; rw [if_neg h])
    have hb : (n % 2 == 0) = false := beq_eq_false_iff_ne.2 h
    clear h
    go_wp2
    go_ret
    exact ⟨ret_int H.out.symm, rfl⟩

theorem ten_sub (n : Int) (h0 : 1 ≤ n) (h1 : n < 1024) : (10 : Int) - (Lib.bitLen n.toNat : Int) = (lev n : Int) := by
  have := bitLen_lt n.toNat (by omega)
  unfold lev
  omega
theorem lev26 (n : Int) (w : World) (h0 : 1 ≤ n) (h1 : n < 1024) :
    Calls Try.prog 26 #[.int .i64 n] w fun e w' => e = .returned (.int .i64 (lev n)) ∧ w = w' := by
  have hb := bitLen_lt n.toNat (by omega)
  go_enter Try.func26, Try.ntmps26
  go_wp2_with (go_at_call 32; refine (len _ _ (by omega) (by omega)).mono ?_; rintro e w' ⟨rfl, rfl⟩)
  go_ret
  exact ⟨ret_int (ten_sub n h0 h1), rfl⟩
theorem level_yes (n : Int) (w : World) (h0 : 1 ≤ n) (h1 : n < 1024) :
    Calls Try.prog 13 #[.int .i64 n] w fun e w' => e = .returned (.tuple #[.int .i64 (lev n), .int .i64 0]) ∧ w = w' := by
  go_enter Try.func13, Try.ntmps13
  go_wp2_with (first | (go_at_call 25; refine (isNode_yes _ _ h0 h1).mono ?_; rintro e w' ⟨rfl, rfl⟩) | (go_at_call 26; refine (lev26 _ _ h0 h1).mono ?_; rintro e w' ⟨rfl, rfl⟩))
  go_ret2
  exact ⟨rfl, rfl⟩
theorem level_no (n : Int) (w : World) (h : n < 1 ∨ 1024 ≤ n) :
    Calls Try.prog 13 #[.int .i64 n] w fun e w' => e = .returned (.tuple #[.int .i64 0, .int .i64 200]) ∧ w = w' := by
  have H := Lib.hid h; clear h
  go_enter Try.func13, Try.ntmps13
  go_wp2_with (go_at_call 25; refine (isNode_no _ _ H.out).mono ?_; rintro e w' ⟨rfl, rfl⟩)
  go_ret2
  exact ⟨rfl, rfl⟩

/-! ### Under -/
theorem under_yes (n : Int) (w : World) (h0 : 1 ≤ n) (h1 : n < 1024) :
    Calls Try.prog 20 #[.int .i64 n] w fun e w' => e = .returned (.tuple #[.int .i64 (fr n), .int .i64 (till n), .int .i64 0]) ∧ ∃ q, w' = w.drewN q := by
  have hl := lev_le n
  have e1 := Lib.hid (wrap_fr n h0 h1)
  have e2 := Lib.hid (wrap_till n h0 h1)
  go_enter Try.func20, Try.ntmps20
  go_wp2_with (first | (go_at_call 25; refine (isNode_yes _ _ h0 h1).mono ?_; rintro e w' ⟨rfl, rfl⟩) | (go_at_call 26; refine (lev26 _ _ h0 h1).mono ?_; rintro e w' ⟨rfl, rfl⟩))
  go_quiet (fail)
  go_wp2
  go_ret3
  refine ⟨?_, _, rfl⟩
  rw [← e1.out, ← e2.out]
  rfl
theorem under_no (n : Int) (w : World) (h : n < 1 ∨ 1024 ≤ n) :
    Calls Try.prog 20 #[.int .i64 n] w fun e w' => e = .returned (.tuple #[.int .i64 0, .int .i64 0, .int .i64 200]) ∧ w = w' := by
  have H := Lib.hid h; clear h
  go_enter Try.func20, Try.ntmps20
  go_wp2_with (go_at_call 25; refine (isNode_no _ _ H.out).mono ?_; rintro e w' ⟨rfl, rfl⟩)
  go_ret3
  exact ⟨rfl, rfl⟩

end Go.Proofs.Ytidlnaanldccfaa
