/- The contracts of slices.Contains over the table of lengths and of slices.ContainsFunc over bytes. -/
import Derived.Test.YtofgnncodnfapaaDoorRef
namespace Go.Proofs.YtofgnncodnfapaaDoor
open Go Go.RowKit

set_option maxRecDepth 100000 in
theorem index6_no (n : Int) (w : World) (ht : Tab w) (hn : ∀ k, k < 6 → len6 k ≠ n) : Calls Tryd.prog 24 #[.slice (some ⟨0, 0, none⟩) 6 6, .int .i64 n] w fun e w' => e = .returned (.int .i64 (-1)) ∧ w = w' := by
  have HT := Lib.hid ht; have HN := Lib.hid hn
  clear ht hn
  go_enter Tryd.func24, Tryd.ntmps24
  go_wp2
  go_loop [5, 8] (fun _ s8 => ∃ k : Nat, k ≤ 6 ∧ s8 = .int .i64 k) (fun _ s8 => 6 - (intOf s8).toNat)
  case atStart => exact ⟨0, Nat.zero_le _, rfl⟩
  case round =>
    obtain ⟨k, hk, rfl⟩ := hrel
    by_cases hlt : k < 6
    · have hltz : (k : Int) < 6 := by omega
      have hcell := HT.out.c k hlt
      have hne : (n == len6 k) = false := by have := HN.out k hlt; simpa using fun h => this h.symm
      go_wp2
      go_round
      case rel => exact ⟨k + 1, by omega, by go_num⟩
      case measure => simp [intOf]; omega
    · obtain rfl : k = 6 := by omega
      go_wp2
      go_ret
      exact ⟨rfl, rfl⟩
theorem len6_inj {j k : Nat} (hj : j < 6) (hk : k < 6) (h : len6 j = len6 k) : j = k := by
  have h1 : j = 0 ∨ j = 1 ∨ j = 2 ∨ j = 3 ∨ j = 4 ∨ j = 5 := by omega
  have h2 : k = 0 ∨ k = 1 ∨ k = 2 ∨ k = 3 ∨ k = 4 ∨ k = 5 := by omega
  rcases h1 with rfl | rfl | rfl | rfl | rfl | rfl <;> rcases h2 with rfl | rfl | rfl | rfl | rfl | rfl <;> first | rfl | (simp [len6] at h)
set_option maxRecDepth 100000 in
theorem index6_yes (k0 : Nat) (w : World) (ht : Tab w) (hk0 : k0 < 6) : Calls Tryd.prog 24 #[.slice (some ⟨0, 0, none⟩) 6 6, .int .i64 (len6 k0)] w fun e w' => e = .returned (.int .i64 k0) ∧ w = w' := by
  have HT := Lib.hid ht
  obtain ⟨n, hn⟩ : ∃ n, n = len6 k0 := ⟨_, rfl⟩
  rw [← hn]
  have HN := Lib.hid hn
  clear ht hn
  go_enter Tryd.func24, Tryd.ntmps24
  go_wp2
  go_loop [5, 8] (fun _ s8 => ∃ k : Nat, k ≤ k0 ∧ s8 = .int .i64 k) (fun _ s8 => 6 - (intOf s8).toNat)
  case atStart => exact ⟨0, Nat.zero_le _, rfl⟩
  case round =>
    obtain ⟨k, hk, rfl⟩ := hrel
    have hltz : (k : Int) < 6 := by omega
    have hcell := HT.out.c k (by omega)
    by_cases hlt : k < k0
    · have hne : (n == len6 k) = false := by
        rw [HN.out]
        simpa using fun h => by have := len6_inj hk0 (by omega) h; omega
      go_wp2
      go_round
      case rel => exact ⟨k + 1, by omega, by go_num⟩
      case measure => simp [intOf]; omega
    · obtain rfl : k = k0 := by omega
      rw [← HN.out] at hcell
      go_wp2
      go_ret
      exact ⟨rfl, rfl⟩
theorem contains6 (v : Value) (n r : Int) (w : World) (h : Calls Tryd.prog 24 #[v, .int .i64 n] w fun e w' => e = .returned (.int .i64 r) ∧ w = w') :
    Calls Tryd.prog 21 #[v, .int .i64 n] w fun e w' => e = .returned (.bool (decide (0 ≤ r))) ∧ w = w' := by
  have H := Lib.hid h
  clear h
  go_enter Tryd.func21, Tryd.ntmps21
  go_wp2_with fail
  refine H.out.mono ?_
  rintro e w' ⟨rfl, rfl⟩
  go_wp2
  go_ret
  exact ⟨rfl, rfl⟩
theorem contains_no (n : Int) (w : World) (ht : Tab w) (hn : ∀ k, k < 6 → len6 k ≠ n) : Calls Tryd.prog 21 #[.slice (some ⟨0, 0, none⟩) 6 6, .int .i64 n] w fun e w' => e = .returned (.bool false) ∧ w = w' :=
  contains6 _ _ _ w (index6_no n w ht hn)
theorem contains_yes (k : Nat) (w : World) (ht : Tab w) (hk : k < 6) : Calls Tryd.prog 21 #[.slice (some ⟨0, 0, none⟩) 6 6, .int .i64 (len6 k)] w fun e w' => e = .returned (.bool true) ∧ w = w' := by
  have := contains6 _ _ _ w (index6_yes k w ht hk)
  rwa [decide_eq_true (by omega)] at this

theorem nonzero_no (w : World) : Calls Tryd.prog 23 #[.int .u8 0] w fun e w' => e = .returned (.bool false) ∧ w = w' := by
  go_enter Tryd.func23, Tryd.ntmps23
  go_wp2
  go_ret
  exact ⟨rfl, rfl⟩
theorem nonzero_yes (n : Int) (w : World) (h : n ≠ 0) : Calls Tryd.prog 23 #[.int .u8 n] w fun e w' => e = .returned (.bool true) ∧ w = w' := by
  have h0 : (n == 0) = false := by simpa using h
  have h1 : (n != 0) = true := by simpa using h
  clear h
  go_enter Tryd.func23, Tryd.ntmps23
  go_wp2
  go_ret
  exact ⟨by first | rfl | rw [h1] | simp [h1], rfl⟩

def RowB (w : World) (b off n : Nat) (z : Nat → Int) : Prop := ∀ j, j < n → w.cell? ⟨b, off + j, none⟩ = some (.int .u8 (z j))
set_option maxHeartbeats 2000000 in
set_option maxRecDepth 100000 in
theorem find_no (b off n c : Nat) (z : Nat → Int) (w : World) (hc : RowB w b off n z) (hn : n ≤ 9223372036854775807) (hz : ∀ j, j < n → z j = 0) :
    Calls Tryd.prog 25 #[.slice (some ⟨b, off, none⟩) n c, .func (.func 23) #[] #[]] w fun e w' => e = .returned (.int .i64 (-1)) ∧ ∃ q, w' = w.drewN q := by
  have HC := Lib.hid hc; have HZ := Lib.hid hz
  clear hc hz
  go_enter Tryd.func25, Tryd.ntmps25
  go_wp2
  go_loopw [5, 8] (fun _ s8 wr => ∃ k q : Nat, k ≤ n ∧ s8 = .int .i64 k ∧ wr = w.drewN q) (fun _ s8 _ => n - (intOf s8).toNat)
  case atStart => exact ⟨0, 0, Nat.zero_le _, rfl, rfl⟩
  case round =>
    obtain ⟨k, q, hk, rfl, rfl⟩ := hrel
    by_cases hlt : k < n
    · have hltz : (k : Int) < (n : Int) := by omega
      have hcell := HC.out k hlt
      rw [HZ.out k hlt] at hcell
      go_wp2_with (go_at_call 23; refine (nonzero_no _).mono ?_; rintro e w' ⟨rfl, rfl⟩)
      go_roundw
      case rel => exact ⟨k + 1, q, by omega, by go_num, rfl⟩
      case measure => simp [intOf]; omega
    · obtain rfl : k = n := by omega
      go_wp2
      go_ret
      exact ⟨rfl, _, rfl⟩
set_option maxHeartbeats 2000000 in
set_option maxRecDepth 100000 in
theorem find_yes (b off n c k0 : Nat) (z : Nat → Int) (w : World) (hc : RowB w b off n z) (hn : n ≤ 9223372036854775807) (hk0 : k0 < n) (hz : ∀ j, j < k0 → z j = 0) (hb : z k0 ≠ 0) :
    Calls Tryd.prog 25 #[.slice (some ⟨b, off, none⟩) n c, .func (.func 23) #[] #[]] w fun e w' => e = .returned (.int .i64 k0) ∧ ∃ q, w' = w.drewN q := by
  have HC := Lib.hid hc; have HZ := Lib.hid hz; have HB := Lib.hid hb
  clear hc hz hb
  go_enter Tryd.func25, Tryd.ntmps25
  go_wp2
  go_loopw [5, 8] (fun _ s8 wr => ∃ k q : Nat, k ≤ k0 ∧ s8 = .int .i64 k ∧ wr = w.drewN q) (fun _ s8 _ => n - (intOf s8).toNat)
  case atStart => exact ⟨0, 0, Nat.zero_le _, rfl, rfl⟩
  case round =>
    obtain ⟨k, q, hk, rfl, rfl⟩ := hrel
    have hltz : (k : Int) < (n : Int) := by omega
    have hcell := HC.out k (by omega)
    by_cases hlt : k < k0
    · rw [HZ.out k hlt] at hcell
      go_wp2_with (go_at_call 23; refine (nonzero_no _).mono ?_; rintro e w' ⟨rfl, rfl⟩)
      go_roundw
      case rel => exact ⟨k + 1, q, by omega, by go_num, rfl⟩
      case measure => simp [intOf]; omega
    · obtain rfl : k = k0 := by omega
      go_wp2_with (go_at_call 23; refine (nonzero_yes _ _ HB.out).mono ?_; rintro e w' ⟨rfl, rfl⟩)
      go_ret
      exact ⟨rfl, _, rfl⟩
set_option maxHeartbeats 2000000 in
theorem find_empty (a : Option Addr) (c : Nat) (w : World) :
    Calls Tryd.prog 25 #[.slice a 0 c, .func (.func 23) #[] #[]] w fun e w' => e = .returned (.int .i64 (-1)) ∧ ∃ q, w' = w.drewN q := by
  go_enter Tryd.func25, Tryd.ntmps25
  go_wp2
  go_loopw [5, 8] (fun _ s8 wr => s8 = .int .i64 0 ∧ wr = w) (fun _ _ _ => 0)
  case atStart => exact ⟨rfl, rfl⟩
  case round =>
    obtain ⟨rfl, rfl⟩ := hrel
    go_wp2
    go_ret
    exact ⟨rfl, 0, rfl⟩
theorem containsf (v : Value) (r : Int) (w : World)
    (h : Calls Tryd.prog 25 #[v, .func (.func 23) #[] #[]] w fun e w' => e = .returned (.int .i64 r) ∧ ∃ q, w' = w.drewN q) :
    Calls Tryd.prog 22 #[v, .func (.func 23) #[] #[]] w fun e w' => e = .returned (.bool (decide (0 ≤ r))) ∧ ∃ q, w' = w.drewN q := by
  have H := Lib.hid h
  clear h
  go_enter Tryd.func22, Tryd.ntmps22
  go_wp2_with fail
  refine H.out.mono ?_
  rintro e w' ⟨rfl, q, rfl⟩
  go_wp2
  go_ret
  exact ⟨rfl, q, rfl⟩
theorem tail_no (v : Value) (n : Nat) (z : Nat → Int) (w : World) (hb : Bytes w v n z) (hn : n ≤ 9223372036854775807) (hz : ∀ j, j < n → z j = 0) :
    Calls Tryd.prog 22 #[v, .func (.func 23) #[] #[]] w fun e w' => e = .returned (.bool false) ∧ ∃ q, w' = w.drewN q := by
  rcases hb.rep with ⟨b, off, c, rfl, hr, _⟩ | ⟨a, c, rfl, rfl, _⟩
  · exact containsf _ _ w (find_no b off n c z w hr hn hz)
  · exact containsf _ _ w (find_empty a c w)
theorem tail_yes (v : Value) (n : Nat) (z : Nat → Int) (w : World) (hb : Bytes w v n z) (hn : n ≤ 9223372036854775807) (hz : ∃ j, j < n ∧ z j ≠ 0) :
    Calls Tryd.prog 22 #[v, .func (.func 23) #[] #[]] w fun e w' => e = .returned (.bool true) ∧ ∃ q, w' = w.drewN q := by
  obtain ⟨k, hk, hkz, hmin⟩ : ∃ k, k < n ∧ z k ≠ 0 ∧ ∀ j, j < k → z j = 0 := by
    obtain ⟨j, hj, hjz⟩ := hz
    clear hb hn
    induction j using Nat.strongRecOn with
    | _ j ih =>
      by_cases h : ∃ i, i < j ∧ z i ≠ 0
      · obtain ⟨i, hi, hiz⟩ := h
        exact ih i hi (by omega) hiz
      · exact ⟨j, hj, hjz, fun i hi => Classical.byContradiction fun hiz => h ⟨i, hi, hiz⟩⟩
  rcases hb.rep with ⟨b, off, c, rfl, hr, _⟩ | ⟨a, c, rfl, rfl, _⟩
  · have := containsf _ _ w (find_yes b off n c k z w hr hn hk hmin hkz)
    rwa [decide_eq_true (by omega)] at this
  · omega
end Go.Proofs.YtofgnncodnfapaaDoor
