/- The contracts of outside of package field and of the library's functions under it: is one of some numbers no scalar? -/
import Derived.Test.YtanheijppjpbjaaBits
import Derived.Deep.LoopGhost
namespace Go.Proofs.Ytanheijppjpbjaa
open Go.RowKit

theorem bad_no (n : Int) (w : World) (h0 : 0 ≤ n) (h1 : n < 2305843009213688669) :
    Calls Try.prog 38 #[.int .i64 n] w fun e w' => e = .returned (.bool false) ∧ w = w' := by
  have h2 : decide (2305843009213688669 ≤ n) = false := by simpa using h1
  have h3 : decide (n < 0) = false := by simpa using h0
  go_enter Try.func38, Try.ntmps38
  go_wp2
  go_ret
  exact ⟨rfl, rfl⟩
theorem bad_yes (n : Int) (w : World) (h : n < 0 ∨ 2305843009213688669 ≤ n) :
    Calls Try.prog 38 #[.int .i64 n] w fun e w' => e = .returned (.bool true) ∧ w = w' := by
  rcases h with h | h
  · go_enter Try.func38, Try.ntmps38
    go_wp2
    go_ret
    exact ⟨rfl, rfl⟩
  · have h2 : 0 ≤ n := by omega
    go_enter Try.func38, Try.ntmps38
    go_wp2
    go_ret
    exact ⟨rfl, rfl⟩

/-- Numbers in memory, one a cell. -/
def Row (w : World) (b off n : Nat) (z : Nat → Int) : Prop := ∀ j, j < n → w.cell? ⟨b, off + j, none⟩ = some (.int .i64 (z j))

set_option maxHeartbeats 2000000 in
set_option maxRecDepth 100000 in
theorem index_good (b off n c : Nat) (z : Nat → Int) (w : World) (hc : Row w b off n z) (hn : n ≤ 9223372036854775807) (hz : ∀ j, j < n → 0 ≤ z j ∧ z j < 2305843009213688669) :
    Calls Try.prog 44 #[.slice (some ⟨b, off, none⟩) n c, .func (.func 38) #[] #[]] w fun e w' => e = .returned (.int .i64 (-1)) ∧ ∃ q, w' = w.drewN q := by
  have HC := Lib.hid hc; have HZ := Lib.hid hz
  clear hc hz
  go_enter Try.func44, Try.ntmps44
  go_wp2
  go_loopw [5, 8] (fun _ s8 wr => ∃ k q : Nat, k ≤ n ∧ s8 = .int .i64 k ∧ wr = w.drewN q) (fun _ s8 _ => n - (intOf s8).toNat)
  case atStart => exact ⟨0, 0, Nat.zero_le _, rfl, rfl⟩
  case round =>
    obtain ⟨k, q, hk, rfl, rfl⟩ := hrel
    by_cases hlt : k < n
    · have hltz : (k : Int) < (n : Int) := by omega
      have hcell := HC.out k hlt
      obtain ⟨g0, g1⟩ := HZ.out k hlt
      go_wp2_with (go_at_call 38; refine (bad_no _ _ g0 g1).mono ?_; rintro e w' ⟨rfl, rfl⟩)
      go_roundw
      case rel => exact ⟨k + 1, q, by omega, by go_num, rfl⟩
      case measure => simp [intOf]; omega
    · obtain rfl : k = n := by omega
      go_wp2
      go_ret
      exact ⟨rfl, _, rfl⟩

set_option maxHeartbeats 2000000 in
set_option maxRecDepth 100000 in
theorem index_bad (b off n c k0 : Nat) (z : Nat → Int) (w : World) (hc : Row w b off n z) (hn : n ≤ 9223372036854775807) (hk0 : k0 < n) (hz : ∀ j, j < k0 → 0 ≤ z j ∧ z j < 2305843009213688669) (hb : z k0 < 0 ∨ 2305843009213688669 ≤ z k0) :
    Calls Try.prog 44 #[.slice (some ⟨b, off, none⟩) n c, .func (.func 38) #[] #[]] w fun e w' => e = .returned (.int .i64 k0) ∧ ∃ q, w' = w.drewN q := by
  have HC := Lib.hid hc; have HZ := Lib.hid hz; have HB := Lib.hid hb
  clear hc hz hb
  go_enter Try.func44, Try.ntmps44
  go_wp2
  go_loopw [5, 8] (fun _ s8 wr => ∃ k q : Nat, k ≤ k0 ∧ s8 = .int .i64 k ∧ wr = w.drewN q) (fun _ s8 _ => n - (intOf s8).toNat)
  case atStart => exact ⟨0, 0, Nat.zero_le _, rfl, rfl⟩
  case round =>
    obtain ⟨k, q, hk, rfl, rfl⟩ := hrel
    have hltz : (k : Int) < (n : Int) := by omega
    have hcell := HC.out k (by omega)
    by_cases hlt : k < k0
    · obtain ⟨g0, g1⟩ := HZ.out k hlt
      go_wp2_with (go_at_call 38; refine (bad_no _ _ g0 g1).mono ?_; rintro e w' ⟨rfl, rfl⟩)
      go_roundw
      case rel => exact ⟨k + 1, q, by omega, by go_num, rfl⟩
      case measure => simp [intOf]; omega
    · obtain rfl : k = k0 := by omega
      go_wp2_with (go_at_call 38; refine (bad_yes _ _ HB.out).mono ?_; rintro e w' ⟨rfl, rfl⟩)
      go_ret
      exact ⟨rfl, _, rfl⟩

set_option maxHeartbeats 2000000 in
theorem index_empty (a : Option Addr) (c : Nat) (w : World) :
    Calls Try.prog 44 #[.slice a 0 c, .func (.func 38) #[] #[]] w fun e w' => e = .returned (.int .i64 (-1)) ∧ ∃ q, w' = w.drewN q := by
  go_enter Try.func44, Try.ntmps44
  go_wp2
  go_loopw [5, 8] (fun _ s8 wr => s8 = .int .i64 0 ∧ wr = w) (fun _ _ _ => 0)
  case atStart => exact ⟨rfl, rfl⟩
  case round =>
    obtain ⟨rfl, rfl⟩ := hrel
    go_wp2
    go_ret
    exact ⟨rfl, 0, rfl⟩

/-! ### outside -/
theorem contains_of (v : Value) (r : Int) (w : World)
    (h : Calls Try.prog 44 #[v, .func (.func 38) #[] #[]] w fun e w' => e = .returned (.int .i64 r) ∧ ∃ q, w' = w.drewN q) :
    Calls Try.prog 37 #[v, .func (.func 38) #[] #[]] w fun e w' => e = .returned (.bool (decide (0 ≤ r))) ∧ ∃ q, w' = w.drewN q := by
  have H := Lib.hid h
  clear h
  go_enter Try.func37, Try.ntmps37
  go_wp2_with fail
  refine H.out.mono ?_
  rintro e w' ⟨rfl, q, rfl⟩
  go_wp2
  go_ret
  exact ⟨rfl, q, rfl⟩
theorem outside_of (v : Value) (b : Bool) (w : World)
    (h : Calls Try.prog 37 #[v, .func (.func 38) #[] #[]] w fun e w' => e = .returned (.bool b) ∧ ∃ q, w' = w.drewN q) :
    Calls Try.prog 29 #[v] w fun e w' => e = .returned (.bool b) ∧ ∃ q, w' = w.drewN q := by
  have H := Lib.hid h
  clear h
  go_enter Try.func29, Try.ntmps29
  go_wp2_with fail
  refine H.out.mono ?_
  rintro e w' ⟨rfl, q, rfl⟩
  go_wp2
  go_ret
  exact ⟨rfl, q, rfl⟩

theorem outside_good (b off n c : Nat) (z : Nat → Int) (w : World) (hc : Row w b off n z) (hn : n ≤ 9223372036854775807) (hz : ∀ j, j < n → 0 ≤ z j ∧ z j < 2305843009213688669) :
    Calls Try.prog 29 #[.slice (some ⟨b, off, none⟩) n c] w fun e w' => e = .returned (.bool false) ∧ ∃ q, w' = w.drewN q :=
  outside_of _ _ w (contains_of _ _ w (index_good b off n c z w hc hn hz))
theorem outside_bad (b off n c k0 : Nat) (z : Nat → Int) (w : World) (hc : Row w b off n z) (hn : n ≤ 9223372036854775807) (hk0 : k0 < n) (hz : ∀ j, j < k0 → 0 ≤ z j ∧ z j < 2305843009213688669) (hb : z k0 < 0 ∨ 2305843009213688669 ≤ z k0) :
    Calls Try.prog 29 #[.slice (some ⟨b, off, none⟩) n c] w fun e w' => e = .returned (.bool true) ∧ ∃ q, w' = w.drewN q := by
  have h := contains_of _ _ w (index_bad b off n c k0 z w hc hn hk0 hz hb)
  rw [decide_eq_true (by omega)] at h
  exact outside_of _ _ w h
theorem outside_empty (a : Option Addr) (c : Nat) (w : World) :
    Calls Try.prog 29 #[.slice a 0 c] w fun e w' => e = .returned (.bool false) ∧ ∃ q, w' = w.drewN q :=
  outside_of _ _ w (contains_of _ _ w (index_empty a c w))

theorem row_one (w : World) (a : Int) : Row (w.alloc (.cells #[.int .i64 a] 3)) w.heap.size 0 1 (fun _ => a) := by
  intro j hj
  obtain rfl : j = 0 := by omega
  simp
theorem row_two (w : World) (a b : Int) : Row (w.alloc (.cells #[.int .i64 a, .int .i64 b] 3)) w.heap.size 0 2 (fun j => if j = 0 then a else b) := by
  intro j hj
  have : j = 0 ∨ j = 1 := by omega
  rcases this with rfl | rfl <;> simp

/-- A scalar. -/
def Sc (a : Int) : Prop := 0 ≤ a ∧ a < 2305843009213688669
theorem not_sc {a : Int} (h : ¬ Sc a) : a < 0 ∨ 2305843009213688669 ≤ a := by unfold Sc at h; omega

/-- outside at one number, and at two, in the blocks that a call lays for them. -/
theorem one_good (w : World) (a : Int) (h : Sc a) : Calls Try.prog 29 #[.slice (some ⟨w.heap.size, 0, none⟩) 1 1] (w.alloc (.cells #[.int .i64 a] 3)) fun e w' => e = .returned (.bool false) ∧ Below w.heap.size w w' :=
  (outside_good _ _ _ _ _ _ (row_one w a) (by omega) (fun _ _ => h)).mono fun e w' ⟨he, q, hw⟩ => ⟨he, by rw [hw]; exact ((Below.refl _ w).alloc (Nat.le_refl _) _).trans ⟨rfl, rfl, rfl, Nat.le_refl _, fun _ _ => rfl⟩⟩
theorem one_bad (w : World) (a : Int) (h : ¬ Sc a) : Calls Try.prog 29 #[.slice (some ⟨w.heap.size, 0, none⟩) 1 1] (w.alloc (.cells #[.int .i64 a] 3)) fun e w' => e = .returned (.bool true) ∧ Below w.heap.size w w' :=
  (outside_bad _ _ _ _ 0 _ _ (row_one w a) (by omega) (by omega) (fun j hj => by omega) (not_sc h)).mono fun e w' ⟨he, q, hw⟩ => ⟨he, by rw [hw]; exact ((Below.refl _ w).alloc (Nat.le_refl _) _).trans ⟨rfl, rfl, rfl, Nat.le_refl _, fun _ _ => rfl⟩⟩
theorem two_good (w : World) (a b : Int) (h : Sc a) (h' : Sc b) : Calls Try.prog 29 #[.slice (some ⟨w.heap.size, 0, none⟩) 2 2] (w.alloc (.cells #[.int .i64 a, .int .i64 b] 3)) fun e w' => e = .returned (.bool false) ∧ Below w.heap.size w w' :=
  (outside_good _ _ _ _ _ _ (row_two w a b) (by omega) (fun j _ => by by_cases e : j = 0 <;> simp [e] <;> assumption)).mono fun e w' ⟨he, q, hw⟩ => ⟨he, by rw [hw]; exact ((Below.refl _ w).alloc (Nat.le_refl _) _).trans ⟨rfl, rfl, rfl, Nat.le_refl _, fun _ _ => rfl⟩⟩
theorem two_bad (w : World) (a b : Int) (h : ¬ (Sc a ∧ Sc b)) : Calls Try.prog 29 #[.slice (some ⟨w.heap.size, 0, none⟩) 2 2] (w.alloc (.cells #[.int .i64 a, .int .i64 b] 3)) fun e w' => e = .returned (.bool true) ∧ Below w.heap.size w w' := by
  have fin : ∀ {e : Ending} {w' : World}, (e = .returned (.bool true) ∧ ∃ q, w' = (w.alloc (.cells #[.int .i64 a, .int .i64 b] 3)).drewN q) → e = .returned (.bool true) ∧ Below w.heap.size w w' := by
    rintro e w' ⟨he, q, hw⟩
    exact ⟨he, by rw [hw]; exact ((Below.refl _ w).alloc (Nat.le_refl _) _).trans ⟨rfl, rfl, rfl, Nat.le_refl _, fun _ _ => rfl⟩⟩
  by_cases ha : Sc a
  · have hb : ¬ Sc b := fun hb => h ⟨ha, hb⟩
    exact (outside_bad _ _ _ _ 1 _ _ (row_two w a b) (by omega) (by omega) (fun j hj => by rw [show j = 0 from (by omega)]; exact ha) (by simpa using not_sc hb)).mono fun e w' => fin
  · exact (outside_bad _ _ _ _ 0 _ _ (row_two w a b) (by omega) (by omega) (fun j hj => by omega) (by simpa using not_sc ha)).mono fun e w' => fin
end Go.Proofs.Ytanheijppjpbjaa
