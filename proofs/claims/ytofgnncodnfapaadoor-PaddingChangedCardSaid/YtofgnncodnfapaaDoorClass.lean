/- The contracts of Class and Length of package padding and of the reference. -/
import Derived.Test.YtofgnncodnfapaaDoorRows
import Derived.WalkKit
import Derived.ProofKit
import Derived.Below
import Derived.Lib.Hide
import Derived.Deep.QuietTactic
import Derived.BigQuiet
namespace Go.Proofs.YtofgnncodnfapaaDoor
open Go Go.RowKit

/-- The lengths of the classes. -/
def len6 (k : Nat) : Int := if k = 0 then 64 else if k = 1 then 256 else if k = 2 then 1024 else if k = 3 then 4096 else if k = 4 then 16384 else 65536
/-- The table's cells. -/
structure Tab (w : World) : Prop where
  c : ∀ k, k < 6 → w.cell? ⟨0, k, none⟩ = some (.int .i64 (len6 k))
theorem cell_in {w : World} {a : Addr} {v : Value} (h : w.cell? a = some v) : a.block < w.heap.size := by
  rcases Nat.lt_or_ge a.block w.heap.size with h' | h'
  · exact h'
  · simp [World.cell?, h'] at h
theorem Tab.size {w : World} (h : Tab w) : 0 < w.heap.size := cell_in (h.c 0 (by omega))
theorem Tab.below {w w' : World} (h : Tab w) (hB : Below w.heap.size w w') : Tab w' := ⟨fun k hk => (hB.cell (p := ⟨0, k, none⟩) h.size).trans (h.c k hk)⟩

/-- The least class. -/
def cls (n : Int) : Nat := if n ≤ 60 then 0 else if n ≤ 252 then 1 else if n ≤ 1020 then 2 else if n ≤ 4092 then 3 else if n ≤ 16380 then 4 else 5
theorem cls_lt (n : Int) : cls n < 6 := by
  unfold cls
  repeat' (first | omega | split)
theorem cls_le (n : Int) (h : Nat) (hh : h < 6) (h1 : n ≤ 65532) : n + 4 ≤ len6 h ↔ cls n ≤ h := by
  have : h = 0 ∨ h = 1 ∨ h = 2 ∨ h = 3 ∨ h = 4 ∨ h = 5 := by omega
  unfold cls
  rcases this with rfl | rfl | rfl | rfl | rfl | rfl <;> simp only [len6] <;> simp <;> repeat' (first | omega | split)

set_option maxRecDepth 100000 in
theorem closure (n : Int) (h bx : Nat) (w : World) (hh : h < 6) (h0 : 0 ≤ n) (h1 : n ≤ 65532) (ht : Tab w) (hb : w.cell? ⟨bx, 0, none⟩ = some (.int .i64 n)) :
    Calls Tryd.prog 20 #[.int .i64 h, .pointer (some ⟨bx, 0, none⟩)] w fun e w' => e = .returned (.bool (decide (cls n ≤ h))) ∧ ∃ q, w' = w.drewN q := by
  have hc := ht.c h hh
  clear ht
  have hi : (h : Int) < 6 := by omega
  have hi0 : (0 : Int) ≤ (h : Int) := by omega
  have hs : IntKind.i64.wrap (n + 4) = n + 4 := IntWalk.i64_in _ ⟨by omega, by omega⟩
  have hd : decide (cls n ≤ h) = decide (n + 4 ≤ len6 h) := decide_eq_decide.2 (cls_le n h hh h1).symm
  rw [hd]
  clear hd
  go_enter Tryd.func20, Tryd.ntmps20
  go_wp2
  go_quiet (fail)
  go_wp2
  go_ret
  exact ⟨rfl, _, rfl⟩

set_option maxRecDepth 100000 in
theorem search (k bx : Nat) (w : World) (hk : k < 6) (hf : ∀ q h : Nat, h < 6 → Calls Tryd.prog 20 #[.int .i64 h, .pointer (some ⟨bx, 0, none⟩)] (w.drewN q) fun e w' => e = .returned (.bool (decide (k ≤ h))) ∧ ∃ q', w' = w.drewN q') :
    Calls Tryd.prog 19 #[.int .i64 6, .func (.func 20) #[] #[.pointer (some ⟨bx, 0, none⟩)]] w fun e w' => e = .returned (.int .i64 k) ∧ ∃ q, w' = w.drewN q := by
  have HF := Lib.hid hf
  clear hf
  go_enter Tryd.func19, Tryd.ntmps19
  go_wp2
  go_loopw [5, 6] (fun a b wr => ∃ i j q : Nat, a = .int .i64 i ∧ b = .int .i64 j ∧ i ≤ k ∧ k ≤ j ∧ j ≤ 6 ∧ wr = w.drewN q) (fun a b _ => (intOf b - intOf a).toNat)
  case atStart => exact ⟨0, 6, 0, rfl, rfl, by omega, by omega, by omega, rfl⟩
  case round =>
    obtain ⟨i, j, q, rfl, rfl, hik, hkj, hj6, rfl⟩ := hrel
    by_cases hij : i < j
    · have hij' : (i : Int) < j := by omega
      obtain ⟨m, hm⟩ : ∃ m : Nat, m = (i + j) / 2 := ⟨_, rfl⟩
      go_wp2_with fail
      rw [show ((i : Int) + j) / 2 = (m : Int) by omega]
      refine (HF.out q m (by omega)).mono ?_
      rintro e w' ⟨rfl, q', rfl⟩
      by_cases hkm : k ≤ m
      · rw [decide_eq_true hkm]
        go_wp2
        go_roundw
        case rel => exact ⟨i, m, q', rfl, by go_num, hik, hkm, by omega, rfl⟩
        case measure => simp [intOf]; omega
      · rw [decide_eq_false hkm]
        go_wp2
        go_roundw
        case rel => exact ⟨m + 1, j, q', by go_num, rfl, by omega, hkj, hj6, rfl⟩
        case measure => simp [intOf]; omega
    · obtain rfl : i = j := by omega
      obtain rfl : i = k := by omega
      go_wp2
      go_ret
      exact ⟨rfl, q, rfl⟩

theorem box_below (w : World) (o : Obj) : Below w.heap.size w (w.alloc o) := (Below.refl _ _).alloc (Nat.le_refl _) o
theorem below_drewN2 {B : Nat} {a w : World} (h : Below B a w) (q : Nat) : Below B a (w.drewN q) := ⟨h.os, h.tape, h.output, h.size, h.block⟩
theorem Tab.alloc {w : World} (h : Tab w) (o : Obj) : Tab (w.alloc o) := h.below (box_below w o)
theorem Tab.drew {w : World} (h : Tab w) (q : Nat) : Tab (w.drewN q) := ⟨h.c⟩

set_option maxRecDepth 100000 in
theorem class_yes (n : Int) (w : World) (h0 : 0 ≤ n) (h1 : n ≤ 65532) (ht : Tab w) : Calls Tryd.prog 11 #[.int .i64 n] w fun e w' => e = .returned (.tuple #[.int .i64 (cls n), .int .i64 0]) ∧ Below w.heap.size w w' := by
  have hS := search (cls n) w.heap.size (w.alloc (.cells #[.int .i64 n] 3)) (cls_lt n) (fun q h hh => (closure n h w.heap.size _ hh h0 h1 ((ht.alloc _).drew q) (by simp)).mono fun e w' ⟨he, q', hq⟩ => ⟨he, q + q', by rw [hq, World.drewN_drewN]⟩)
  have HS := Lib.hid hS
  have c5 : (w.alloc (.cells #[.int .i64 n] 3)).cell? ⟨0, 5, none⟩ = some (.int .i64 65536) := (ht.alloc _).c 5 (by omega)
  clear ht hS
  go_enter Tryd.func11, Tryd.ntmps11
  go_wp2_with fail
  refine HS.out.mono ?_
  rintro e w' ⟨rfl, q, rfl⟩
  go_wp2
  go_ret2
  exact ⟨rfl, below_drewN2 (box_below _ _) q⟩
set_option maxRecDepth 100000 in
theorem class_no (n : Int) (w : World) (h : n < 0 ∨ 65532 < n) (ht : Tab w) : Calls Tryd.prog 11 #[.int .i64 n] w fun e w' => e = .returned (.tuple #[.int .i64 0, .int .i64 280]) ∧ Below w.heap.size w w' := by
  have c5 : (w.alloc (.cells #[.int .i64 n] 3)).cell? ⟨0, 5, none⟩ = some (.int .i64 65536) := (ht.alloc _).c 5 (by omega)
  clear ht
  by_cases h0 : n < 0
  · clear h
    go_enter Tryd.func11, Tryd.ntmps11
    go_wp2
    go_ret2
    exact ⟨rfl, box_below _ _⟩
  · have h1 : 65532 < n := by omega
    clear h
    go_enter Tryd.func11, Tryd.ntmps11
    go_wp2
    go_ret2
    exact ⟨rfl, box_below _ _⟩
set_option maxRecDepth 100000 in
theorem length_yes (k : Nat) (w : World) (hk : k < 6) (ht : Tab w) : Calls Tryd.prog 13 #[.int .i64 k] w fun e w' => e = .returned (.tuple #[.int .i64 (len6 k), .int .i64 0]) ∧ w = w' := by
  have hc := ht.c k hk
  clear ht
  have h0 : (0 : Int) ≤ (k : Int) := by omega
  have h1 : (k : Int) < 6 := by omega
  go_enter Tryd.func13, Tryd.ntmps13
  go_wp2
  go_ret2
  exact ⟨rfl, rfl⟩
set_option maxRecDepth 100000 in
theorem length_no (n : Int) (w : World) (h : n < 0 ∨ 6 ≤ n) : Calls Tryd.prog 13 #[.int .i64 n] w fun e w' => e = .returned (.tuple #[.int .i64 0, .int .i64 280]) ∧ w = w' := by
  by_cases h0 : n < 0
  · clear h
    go_enter Tryd.func13, Tryd.ntmps13
    go_wp2
    go_ret2
    exact ⟨rfl, rfl⟩
  · have h1 : 6 ≤ n := by omega
    clear h
    go_enter Tryd.func13, Tryd.ntmps13
    go_wp2
    go_ret2
    exact ⟨rfl, rfl⟩
set_option maxRecDepth 100000 in
theorem rlength_no (n : Int) (w : World) (h : n < 0 ∨ 6 ≤ n) : Calls Tryd.prog 14 #[.int .i64 n] w fun e w' => e = .returned (.tuple #[.int .i64 0, .int .i64 280]) ∧ w = w' := by
  by_cases h0 : n < 0
  · clear h
    go_enter Tryd.func14, Tryd.ntmps14
    go_wp2
    go_ret2
    exact ⟨rfl, rfl⟩
  · have h1 : 6 ≤ n := by omega
    clear h
    go_enter Tryd.func14, Tryd.ntmps14
    go_wp2
    go_ret2
    exact ⟨rfl, rfl⟩
theorem len6_step (k : Nat) (hk : k < 5) : 4 * len6 k = len6 (k + 1) := by
  have : k = 0 ∨ k = 1 ∨ k = 2 ∨ k = 3 ∨ k = 4 := by omega
  rcases this with rfl | rfl | rfl | rfl | rfl <;> rfl
theorem len6_bd (k : Nat) : 64 ≤ len6 k ∧ len6 k ≤ 65536 := by
  unfold len6
  repeat' (first | omega | split)
set_option maxRecDepth 100000 in
theorem rlength_yes (k : Nat) (w : World) (hk : k < 6) : Calls Tryd.prog 14 #[.int .i64 k] w fun e w' => e = .returned (.tuple #[.int .i64 (len6 k), .int .i64 0]) ∧ w = w' := by
  have h0 : (0 : Int) ≤ (k : Int) := by omega
  have h1 : (k : Int) < 6 := by omega
  go_enter Tryd.func14, Tryd.ntmps14
  go_wp2
  go_loop [4, 5] (fun a b => ∃ i : Nat, i ≤ k ∧ a = .int .i64 (len6 i) ∧ b = .int .i64 i) (fun _ b => k - (intOf b).toNat)
  case atStart => exact ⟨0, by omega, rfl, rfl⟩
  case round =>
    obtain ⟨i, hi, rfl, rfl⟩ := hrel
    by_cases hik : i < k
    · have hik' : (i : Int) < k := by omega
      have hl := len6_bd i
      obtain ⟨hl0, hl1⟩ := hl
      have e := len6_step i (by omega)
      obtain ⟨l, hle⟩ : ∃ l, l = len6 i := ⟨_, rfl⟩
      rw [← hle] at hl0 hl1 e ⊢
      have HE := Lib.hid e
      clear e hle
      go_wp2
      go_round
      case rel => exact ⟨i + 1, by omega, by rw [HE.out], by go_num⟩
      case measure => simp [intOf]; omega
    · obtain rfl : i = k := by omega
      go_wp2
      go_ret2
      exact ⟨rfl, rfl⟩
set_option maxRecDepth 100000 in
theorem rclass_neg (n : Int) (w : World) (h : n < 0) : Calls Tryd.prog 12 #[.int .i64 n] w fun e w' => e = .returned (.tuple #[.int .i64 0, .int .i64 280]) ∧ w = w' := by
  go_enter Tryd.func12, Tryd.ntmps12
  go_wp2
  go_ret2
  exact ⟨rfl, rfl⟩
set_option maxRecDepth 100000 in
theorem rclass_go (n : Int) (w : World) (h0 : 0 ≤ n) (h9 : n ≤ 9223372036854775807) : Calls Tryd.prog 12 #[.int .i64 n] w fun e w' => e = .returned (if n ≤ 65532 then .tuple #[.int .i64 (cls n), .int .i64 0] else .tuple #[.int .i64 0, .int .i64 280]) ∧ w = w' := by
  go_enter Tryd.func12, Tryd.ntmps12
  go_wp2
  go_loop [4] (fun a => ∃ i : Nat, i ≤ 6 ∧ a = .int .i64 i ∧ (n ≤ 65532 → i ≤ cls n)) (fun a => 6 - (intOf a).toNat)
  case atStart => exact ⟨0, by omega, rfl, fun _ => Nat.zero_le _⟩
  case round =>
    obtain ⟨i, hi, rfl, hc⟩ := hrel
    have HC := Lib.hid hc; clear hc
    by_cases hi6 : i < 6
    · have hi6' : (i : Int) < 6 := by omega
      obtain ⟨l, hle⟩ : ∃ l, l = len6 i := ⟨_, rfl⟩
      have HR := Lib.hid (rlength_yes i w hi6)
      rw [← hle] at HR
      have hl := len6_bd i
      rw [← hle] at hl
      obtain ⟨hl0, hl1⟩ := hl
      have HL := Lib.hid hle; clear hle
      go_wp2_with fail
      refine HR.out.mono ?_
      rintro e w' ⟨rfl, rfl⟩
      by_cases hn : n ≤ l - 4
      · have hlast : cls n = i ∧ n ≤ 65532 := by
          have h2 : n ≤ 65532 := by omega
          have := (cls_le n i hi6 h2).1 (by rw [← HL.out]; omega)
          have := HC.out h2
          omega
        obtain ⟨rfl, h2⟩ := hlast
        go_wp2
        go_ret2
        exact ⟨rfl, rfl⟩
      · have hn' : l - 4 < n := by omega
        have hnext : n ≤ 65532 → i + 1 ≤ cls n := fun h2 => by
          have h3 : ¬ cls n ≤ i := fun h => hn (by have := (cls_le n i hi6 h2).2 h; rw [← HL.out] at this; omega)
          omega
        have HN := Lib.hid hnext; clear hnext
        go_wp2
        go_round
        case rel => exact ⟨i + 1, by omega, by go_num, HN.out⟩
        case measure => simp [intOf]; omega
    · obtain rfl : i = 6 := by omega
      have hbig : ¬ n ≤ 65532 := fun h2 => by have := HC.out h2; have := cls_lt n; omega
      go_wp2
      go_ret2
      exact ⟨rfl, rfl⟩
theorem rclass_yes (n : Int) (w : World) (h0 : 0 ≤ n) (h1 : n ≤ 65532) : Calls Tryd.prog 12 #[.int .i64 n] w fun e w' => e = .returned (.tuple #[.int .i64 (cls n), .int .i64 0]) ∧ w = w' := by
  have := rclass_go n w h0 (by omega)
  rwa [if_pos h1] at this
theorem rclass_no (n : Int) (w : World) (h : n < 0 ∨ 65532 < n) (h9 : n ≤ 9223372036854775807) : Calls Tryd.prog 12 #[.int .i64 n] w fun e w' => e = .returned (.tuple #[.int .i64 0, .int .i64 280]) ∧ w = w' := by
  by_cases h0 : n < 0
  · exact rclass_neg n w h0
  · have := rclass_go n w (by omega) h9
    rwa [if_neg (by omega)] at this
end Go.Proofs.YtofgnncodnfapaaDoor
