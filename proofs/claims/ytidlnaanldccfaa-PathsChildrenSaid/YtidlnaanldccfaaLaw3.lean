/- The walk of the statement PathsChildren: it returns true for every input. -/
import Derived.Test.YtidlnaanldccfaaSane
import Derived.Test.YtidlnaanldccfaaMath2
namespace Go.Proofs.Ytidlnaanldccfaa
open Go Go.RowKit Go.Shelf

theorem ret_bool3 {a b : Bool} (h : a = b) : Ending.returned (.bool a) = .returned (.bool b) := by rw [h]

set_option maxHeartbeats 2000000 in
set_option maxRecDepth 100000 in
theorem children_true (d k : Int) (hk0 : 0 ≤ k) (hk1 : k ≤ 255) (w : World) : Calls Try.prog 6 #[.int .i64 d, .int .u8 k] w fun e W' => e = .returned (.bool true) ∧ Below w.heap.size w W' := by
  by_cases hd : 0 ≤ d ∧ d < 512
  · obtain ⟨h0, h1⟩ := hd
    go_enter Try.func6, Try.ntmps6
    go_wp2_with fail
    refine (sane_true _).mono ?_
    rintro e W1 ⟨rfl, hB1⟩
    go_wp2_with fail
    refine (path_yes d _ h0 h1).mono ?_
    rintro e W2 ⟨g2, c2, rfl, hn2, hB2⟩
    have N2 := Lib.hid hn2; clear hn2
    go_wp2_with fail
    refine (copath_yes d _ h0 h1).mono ?_
    rintro e W3 ⟨g3, c3, rfl, hn3, hB3⟩
    have N3 := Lib.hid hn3; clear hn3
    go_wp2_with fail
    refine (leaf_yes d _ h0 h1).mono ?_
    rintro e w' ⟨rfl, rfl⟩
    have hB := (hB1.trans (hB2.mono hB1.size)).trans (hB3.mono (Nat.le_trans hB1.size hB2.size))
    clear hB1
    have hj9 : (k % 9).toNat < 9 := by omega
    have P := (N2.out.below hB3).at' (k % 9).toNat hj9
    have C := N3.out.at' (k % 9).toNat hj9
    have R := (N2.out.below hB3).at' 8 (by omega)
    rw [nd_nine d h0 h1] at R
    obtain ⟨x0, x1⟩ := nd_pos d ((k % 9).toNat + 1) h0 h1 (by omega)
    have V : ∀ w, Calls Try.prog 13 #[.int .i64 (nd d ((k % 9).toNat + 1))] w fun e w' => e = .returned (.tuple #[.int .i64 (k % 9 + 1), .int .i64 0]) ∧ w = w' := fun w => by
      have := level_yes (nd d ((k % 9).toNat + 1)) w x0 x1
      rw [lev_nd d ((k % 9).toNat + 1) h0 h1 (by omega), show (((k % 9).toNat + 1 : Nat) : Int) = k % 9 + 1 by omega] at this
      exact this
    have VV := Lib.hid V
    have hs1 : (sib (nd d (k % 9).toNat) / 2 == nd d ((k % 9).toNat + 1)) = true := by rw [sib_half, nd_succ]; simp
    have hs2 : (nd d (k % 9).toNat / 2 == nd d ((k % 9).toNat + 1)) = true := by rw [nd_succ]; simp
    have hs3 : (nd d (k % 9).toNat != sib (nd d (k % 9).toNat)) = true := by simpa using sib_ne (nd d (k % 9).toNat)
    have hs4 : decide (max (nd d (k % 9).toNat) (sib (nd d (k % 9).toNat)) = 2 * nd d ((k % 9).toNat + 1) + 1) = true := by rw [nd_succ, sib_max]; simp
    obtain ⟨y0, y1⟩ := sib_pos d (k % 9).toNat h0 h1 hj9
    clear V
    generalize nd d ((k % 9).toNat + 1) = x at *
    generalize sib (nd d (k % 9).toNat) = s at *
    by_cases hz : k % 9 = 0
    · have hle : k % 9 ≤ 0 := by omega
      rw [show (k % 9).toNat = 0 by omega, nd_zero] at hs2 hs3 hs4
      have Z := Lib.hid hz; clear hz
      go_wp2_with (go_at_call 13; refine (VV.out _).mono ?_; rintro e w' ⟨rfl, rfl⟩)
      have M := Lib.hid (of_decide_eq_true hs4); clear hs4
      go_quiet (fail)
      go_wp2
      all_goals
        go_ret
        exact ⟨ret_bool3 (by have := M.out; simp; omega), below_drewN2 hB _⟩
    · have hlt : 0 < k % 9 := by omega
      have Bl := (N2.out.below hB3).at' ((k % 9).toNat - 1) (by omega)
      rw [show (k % 9).toNat - 1 + 1 = (k % 9).toNat by omega] at Bl
      obtain ⟨z0, z1⟩ := nd_pos d (k % 9).toNat h0 h1 (by omega)
      have Z := Lib.hid hz; clear hz
      generalize nd d (k % 9).toNat = y at *
      go_wp2_with (go_at_call 13; refine (VV.out _).mono ?_; rintro e w' ⟨rfl, rfl⟩)
      have M := Lib.hid (of_decide_eq_true hs4); clear hs4
      go_quiet (fail)
      go_wp2
      all_goals
        go_ret
        exact ⟨ret_bool3 (by have := M.out; simp; omega), below_drewN2 hB _⟩
  · by_cases hneg : d < 0
    · go_enter Try.func6, Try.ntmps6
      go_wp2_with fail
      refine (sane_true _).mono ?_
      rintro e W1 ⟨rfl, hB1⟩
      go_wp2
      go_ret
      exact ⟨rfl, hB1⟩
    · have h2 : 0 ≤ d := by omega
      have h3 : 512 ≤ d := by omega
      go_enter Try.func6, Try.ntmps6
      go_wp2_with fail
      refine (sane_true _).mono ?_
      rintro e W1 ⟨rfl, hB1⟩
      go_wp2
      go_ret
      exact ⟨rfl, hB1⟩
end Go.Proofs.Ytidlnaanldccfaa
