/- The walk of the statement PathsMeet: it returns true for every input. -/
import Derived.Test.YtidlnaanldccfaaSane
import Derived.Test.YtidlnaanldccfaaMath3
namespace Go.Proofs.Ytidlnaanldccfaa
open Go Go.RowKit Go.Shelf

set_option maxHeartbeats 2000000 in
set_option maxRecDepth 100000 in
theorem meet_out (a b : Int) (w : World) (h : a < 0 ∨ 512 ≤ a ∨ b < 0 ∨ 512 ≤ b ∨ a = b) : Calls Try.prog 8 #[.int .i64 a, .int .i64 b] w fun e W' => e = .returned (.bool true) ∧ Below w.heap.size w W' := by
  have key : a < 0 ∨ (0 ≤ a ∧ 512 ≤ a) ∨ (0 ≤ a ∧ a < 512 ∧ b < 0) ∨ (0 ≤ a ∧ a < 512 ∧ 0 ≤ b ∧ 512 ≤ b) ∨ (0 ≤ a ∧ a < 512 ∧ 0 ≤ b ∧ b < 512 ∧ (a == b) = true) := by
    rcases h with h | h | h | h | h
    all_goals simp only [beq_iff_eq]
    all_goals omega
  clear h
  rcases key with h | ⟨h, h'⟩ | ⟨h, h', h''⟩ | ⟨h, h', h'', h3⟩ | ⟨h, h', h'', h3, h4⟩
  all_goals
    go_enter Try.func8, Try.ntmps8
    go_wp2_with fail
    refine (sane_true _).mono ?_
    rintro e W1 ⟨rfl, hB1⟩
    go_wp2
    go_ret
    exact ⟨rfl, hB1⟩

set_option maxHeartbeats 2000000 in
set_option maxRecDepth 100000 in
theorem meet_in (a b : Int) (w : World) (h0 : 0 ≤ a) (h1 : a < 512) (h2 : 0 ≤ b) (h3 : b < 512) (hne : a ≠ b) : Calls Try.prog 8 #[.int .i64 a, .int .i64 b] w fun e W' => e = .returned (.bool true) ∧ Below w.heap.size w W' := by
  have hb : (a == b) = false := by simpa using hne
  have hd1 := dist_pos a b h0 h1 h2 h3 hne
  have hd9 := dist_le a b h0 h1 h2 h3
  obtain ⟨m0, m1⟩ := com_pos a b h0 h1 h2 h3
  have V : ∀ w, Calls Try.prog 13 #[.int .i64 (com a b)] w fun e w' => e = .returned (.tuple #[.int .i64 (dist a b), .int .i64 0]) ∧ w = w' := fun w => by
    have := level_yes (com a b) w m0 m1
    rwa [lev_com a b h0 h1 h2 h3] at this
  have VV := Lib.hid V
  have MI := Lib.hid (meet_iff a b h0 h1 h2 h3)
  have hcn : com a b = nd a (dist a b) := rfl
  have CN := Lib.hid hcn
  have hch : (a < b ∧ 1 ≤ com a b ∧ com a b < 512 ∧ till (2 * com a b) = fr (2 * com a b + 1) ∧ fr (2 * com a b) ≤ a ∧ a < till (2 * com a b) ∧ till (2 * com a b) ≤ b ∧ b < till (2 * com a b + 1)) ∨
      (b < a ∧ 1 ≤ com a b ∧ com a b < 512 ∧ till (2 * com a b) = fr (2 * com a b + 1) ∧ fr (2 * com a b) ≤ b ∧ b < till (2 * com a b) ∧ till (2 * com a b) ≤ a ∧ a < till (2 * com a b + 1)) := by
    rcases Int.lt_or_gt_of_ne hne with h | h
    · exact .inl ⟨h, com_children a b h0 h3 h⟩
    · refine .inr ⟨h, ?_⟩
      rw [com_comm a b h0 h1 h2 h3]
      exact com_children b a h2 h1 h
  have HC := Lib.hid hch
  have C := Lib.hid (common_yes a b · h0 h1 h2 h3)
  clear V hcn hne hch
  generalize dist a b = L at *
  generalize com a b = m at *
  go_enter Try.func8, Try.ntmps8
  go_wp2_with fail
  refine (sane_true _).mono ?_
  rintro e W1 ⟨rfl, hB1⟩
  go_wp2_with fail
  refine (path_yes a _ h0 h1).mono ?_
  rintro e W2 ⟨g2, c2, rfl, hn2, hB2⟩
  have N2 := Lib.hid hn2; clear hn2
  go_wp2_with fail
  refine (path_yes b _ h2 h3).mono ?_
  rintro e W3 ⟨g3, c3, rfl, hn3, hB3⟩
  have N3 := Lib.hid hn3; clear hn3
  have hB := (hB1.trans (hB2.mono hB1.size)).trans (hB3.mono (Nat.le_trans hB1.size hB2.size))
  have P := Lib.hid (N2.out.below hB3)
  clear hB1 hB2 hB3 N2
  go_wp2_with fail
  refine (C.out _).mono ?_
  rintro e w' ⟨rfl, rfl⟩
  go_wp2_with fail
  refine (VV.out _).mono ?_
  rintro e w' ⟨rfl, rfl⟩
  have c1 : W3.cell? ⟨g2, L - 1, none⟩ = some (.int .i64 m) := by
    have := P.out.at' (L - 1) (by omega)
    rw [show L - 1 + 1 = L by omega, ← CN.out] at this
    exact this
  go_wp2_with fail
  go_loopw [13] (fun i wr => ∃ k q : Nat, k ≤ 9 ∧ i = .int .i64 k ∧ wr = W3.drewN q) (fun i _ => 9 - (intOf i).toNat)
  case atStart => exact ⟨0, 0, by omega, rfl, rfl⟩
  case round =>
    obtain ⟨k, q, hk, rfl, rfl⟩ := hrel
    by_cases hlt : k < 9
    · have hlt' : (k : Int) < 9 := by omega
      have p1 := P.out.at' k hlt
      have p2 := N3.out.at' k hlt
      have hmi := MI.out k
      by_cases hL : (L : Int) - 1 ≤ k
      · rw [decide_eq_true hL] at hmi
        clear c1
        go_wp2
        go_quiet (fail)
        go_wp2
        go_roundw
        case rel => exact ⟨k + 1, _, by omega, by go_num, rfl⟩
        case measure => simp [intOf]; omega
      · rw [decide_eq_false hL] at hmi
        have hL' : (k : Int) < (L : Int) - 1 := by omega
        clear c1 hL
        go_wp2
        go_quiet (fail)
        go_wp2
        go_roundw
        case rel => exact ⟨k + 1, _, by omega, by go_num, rfl⟩
        case measure => simp [intOf]; omega
    · obtain rfl : k = 9 := by omega
      clear c1
      rcases HC.out with ⟨hab, e1, e2, e3, e4, e5, e6, e7⟩ | ⟨hab, e1, e2, e3, e4, e5, e6, e7⟩
      all_goals
        have T := Lib.hid e3; clear e3
        go_wp2_with fail
        refine (under_yes (2 * m) _ (by omega) (by omega)).mono ?_
        rintro e w' ⟨rfl, q1, rfl⟩
        go_wp2_with fail
        refine (under_yes (2 * m + 1) _ (by omega) (by omega)).mono ?_
        rintro e w' ⟨rfl, q2, rfl⟩
        have tt : (till (2 * m) == fr (2 * m + 1)) = true := by simpa using T.out
        go_wp2
        go_ret
        exact ⟨rfl, below_drewN2 hB _⟩
theorem meet_true (a b : Int) (w : World) : Calls Try.prog 8 #[.int .i64 a, .int .i64 b] w fun e W' => e = .returned (.bool true) ∧ Below w.heap.size w W' := by
  by_cases h : a < 0 ∨ 512 ≤ a ∨ b < 0 ∨ 512 ≤ b ∨ a = b
  · exact meet_out a b w h
  · exact meet_in a b w (by omega) (by omega) (by omega) (by omega) (by omega)
end Go.Proofs.Ytidlnaanldccfaa
