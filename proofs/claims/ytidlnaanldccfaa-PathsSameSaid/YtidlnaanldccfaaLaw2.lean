/- The walk of the statement PathsSame: it returns true for every input. -/
import Derived.Test.YtidlnaanldccfaaSane
import Derived.Test.YtidlnaanldccfaaMath2
namespace Go.Proofs.Ytidlnaanldccfaa
open Go Go.RowKit Go.Shelf

theorem ret_bool {a b : Bool} (h : a = b) : Ending.returned (.bool a) = .returned (.bool b) := by rw [h]

set_option maxHeartbeats 2000000 in
set_option maxRecDepth 100000 in
theorem same_true (a b n : Int) (w : World) : Calls Try.prog 9 #[.int .i64 a, .int .i64 b, .int .i64 n] w fun e W' => e = .returned (.bool true) ∧ Below w.heap.size w W' := by
  by_cases hab : 0 ≤ a ∧ a < 512 ∧ 0 ≤ b ∧ b < 512
  · obtain ⟨h0, h1, h2, h3⟩ := hab
    have hcm := Lib.hid (com_comm a b h0 h1 h2 h3)
    obtain ⟨hm0, hm1⟩ := com_pos a b h0 h1 h2 h3
    have hleast := Lib.hid (com_least a b n h0 h1 h2 h3)
    obtain ⟨leaf, hleaf⟩ : ∃ l, l = 512 + a := ⟨_, rfl⟩
    have hself : Hid (a = b → com a b = leaf) := Lib.hid fun h => by rw [hleaf, ← h, com_self]
    have hl : ∀ w, Calls Try.prog 11 #[.int .i64 a] w fun e w' => e = .returned (.tuple #[.int .i64 leaf, .int .i64 0]) ∧ w = w' := fun w => by rw [hleaf]; exact leaf_yes a w h0 h1
    have L := Lib.hid hl
    clear hl hleaf
    have hc1 := Lib.hid (common_yes a b · h0 h1 h2 h3)
    have hc2 : ∀ w, Calls Try.prog 22 #[.int .i64 b, .int .i64 a] w fun e w' => e = .returned (.tuple #[.int .i64 (com a b), .int .i64 0]) ∧ w = w' := fun w => by rw [hcm.out]; exact common_yes b a w h2 h3 h0 h1
    have C2 := Lib.hid hc2
    have hv := Lib.hid (level_yes (com a b) · hm0 hm1)
    clear hc2
    generalize com a b = m at *
    have key : ((a == b) = true ∧ (m != leaf) = false) ∨ (a == b) = false := by
      by_cases hab : a = b
      · exact .inl ⟨by simp [hab], by simp [hself.out hab]⟩
      · exact .inr (by simp [hab])
    rcases key with ⟨hy, hx⟩ | hy
    all_goals
      go_enter Try.func9, Try.ntmps9
      go_wp2_with fail
      refine (sane_true _).mono ?_
      rintro e W1 ⟨rfl, hB1⟩
      go_wp2_with fail
      refine (hc1.out _).mono ?_
      rintro e w' ⟨rfl, rfl⟩
      go_wp2_with fail
      refine (C2.out _).mono ?_
      rintro e w' ⟨rfl, rfl⟩
      go_wp2_with fail
      refine (L.out _).mono ?_
      rintro e w' ⟨rfl, rfl⟩
      go_wp2_with fail
      refine (hv.out _).mono ?_
      rintro e w' ⟨rfl, rfl⟩
      go_wp2_with fail
      by_cases hnode : 1 ≤ n ∧ n < 1024
      · obtain ⟨n0, n1⟩ := hnode
        refine (under_yes n _ n0 n1).mono ?_
        rintro e w' ⟨rfl, q, rfl⟩
        go_wp2_with fail
        refine (level_yes n _ n0 n1).mono ?_
        rintro e w' ⟨rfl, rfl⟩
        have hB2 := below_drewN2 hB1 q
        clear hB1
        go_wp2
        all_goals go_ret
        all_goals first
          | exact ⟨rfl, hB2⟩
          | exact ⟨ret_bool (decide_eq_true (hleast.out (by assumption) (by assumption) (by assumption) (by assumption))), hB2⟩
      · have hn : n < 1 ∨ 1024 ≤ n := by omega
        have HN := Lib.hid hn; clear hn hnode
        refine (under_no n _ HN.out).mono ?_
        rintro e w' ⟨rfl, rfl⟩
        go_wp2_with fail
        refine (level_no n _ HN.out).mono ?_
        rintro e w' ⟨rfl, rfl⟩
        go_wp2
        go_ret
        exact ⟨rfl, hB1⟩
  · have hn : a < 0 ∨ 512 ≤ a ∨ b < 0 ∨ 512 ≤ b := by omega
    have hm : b < 0 ∨ 512 ≤ b ∨ a < 0 ∨ 512 ≤ a := by omega
    have HN := Lib.hid hn; have HM := Lib.hid hm; clear hn hm hab
    go_enter Try.func9, Try.ntmps9
    go_wp2_with fail
    refine (sane_true _).mono ?_
    rintro e W1 ⟨rfl, hB1⟩
    go_wp2_with fail
    refine (common_no a b _ HN.out).mono ?_
    rintro e w' ⟨rfl, rfl⟩
    go_wp2_with fail
    refine (common_no b a _ HM.out).mono ?_
    rintro e w' ⟨rfl, rfl⟩
    go_wp2
    go_ret
    exact ⟨rfl, hB1⟩
end Go.Proofs.Ytidlnaanldccfaa
