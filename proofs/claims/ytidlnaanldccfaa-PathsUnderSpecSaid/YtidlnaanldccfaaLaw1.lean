/- The walks of the statements PathsSpec and PathsUnderSpec: they return true for every input. -/
import Derived.Test.YtidlnaanldccfaaSane
namespace Go.Proofs.Ytidlnaanldccfaa
open Go Go.RowKit Go.Shelf

/-- Level of the program and of the reference return the same two numbers. -/
theorem levels (n : Int) : ∃ l e : Int, (∀ w, Calls Try.prog 13 #[.int .i64 n] w fun r w' => r = .returned (.tuple #[.int .i64 l, .int .i64 e]) ∧ w = w') ∧ (∀ w, Calls Try.prog 14 #[.int .i64 n] w fun r w' => r = .returned (.tuple #[.int .i64 l, .int .i64 e]) ∧ w = w') := by
  by_cases h : 1 ≤ n ∧ n < 1024
  · exact ⟨_, _, fun w => level_yes n w h.1 h.2, fun w => rlevel_yes n w h.1 h.2⟩
  · exact ⟨_, _, fun w => level_no n w (by omega), fun w => rlevel_no n w (by omega)⟩
theorem leaves (d : Int) : ∃ l e : Int, (∀ w, Calls Try.prog 11 #[.int .i64 d] w fun r w' => r = .returned (.tuple #[.int .i64 l, .int .i64 e]) ∧ w = w') ∧ (∀ w, Calls Try.prog 12 #[.int .i64 d] w fun r w' => r = .returned (.tuple #[.int .i64 l, .int .i64 e]) ∧ w = w') := by
  by_cases h : 0 ≤ d ∧ d < 512
  · exact ⟨_, _, fun w => leaf_yes d w h.1 h.2, fun w => rleaf_yes d w h.1 h.2⟩
  · exact ⟨_, _, fun w => leaf_no d w (by omega), fun w => rleaf_no d w (by omega)⟩
theorem unders (n : Int) : ∃ f t e : Int, (∀ w, Calls Try.prog 20 #[.int .i64 n] w fun r w' => r = .returned (.tuple #[.int .i64 f, .int .i64 t, .int .i64 e]) ∧ ∃ q, w' = w.drewN q) ∧ (∀ w, Calls Try.prog 21 #[.int .i64 n] w fun r w' => r = .returned (.tuple #[.int .i64 f, .int .i64 t, .int .i64 e]) ∧ w = w') := by
  by_cases h : 1 ≤ n ∧ n < 1024
  · exact ⟨_, _, _, fun w => under_yes n w h.1 h.2, fun w => runder_yes n w h.1 h.2⟩
  · exact ⟨_, _, _, fun w => (under_no n w (by omega)).mono fun r w' h => ⟨h.1, 0, h.2.symm⟩, fun w => runder_no n w (by omega)⟩
theorem commons (a b : Int) : ∃ n e : Int, (∀ w, Calls Try.prog 22 #[.int .i64 a, .int .i64 b] w fun r w' => r = .returned (.tuple #[.int .i64 n, .int .i64 e]) ∧ w = w') ∧ (∀ w, Calls Try.prog 23 #[.int .i64 a, .int .i64 b] w fun r w' => r = .returned (.tuple #[.int .i64 n, .int .i64 e]) ∧ w = w') := by
  by_cases h : 0 ≤ a ∧ a < 512 ∧ 0 ≤ b ∧ b < 512
  · exact ⟨_, _, fun w => common_yes a b w h.1 h.2.1 h.2.2.1 h.2.2.2, fun w => rcommon_yes a b w h.1 h.2.1 h.2.2.1 h.2.2.2⟩
  · exact ⟨_, _, fun w => common_no a b w (by omega), fun w => rcommon_no a b w (by omega)⟩

set_option maxHeartbeats 2000000 in
set_option maxRecDepth 100000 in
theorem underSpec_true (n a b : Int) (w : World) : Calls Try.prog 4 #[.int .i64 n, .int .i64 a, .int .i64 b] w fun e W' => e = .returned (.bool true) ∧ Below w.heap.size w W' := by
  obtain ⟨f, t, e0, hu, hru⟩ := unders n
  obtain ⟨c, e1, hc, hrc⟩ := commons a b
  have U := Lib.hid hu; have RU := Lib.hid hru; have C := Lib.hid hc; have RC := Lib.hid hrc
  clear hu hru hc hrc
  go_enter Try.func4, Try.ntmps4
  go_wp2_with fail
  refine (sane_true _).mono ?_
  rintro e W1 ⟨rfl, hB1⟩
  go_wp2_with fail
  refine (U.out _).mono ?_
  rintro e w' ⟨rfl, q, rfl⟩
  go_wp2_with fail
  refine (RU.out _).mono ?_
  rintro e w' ⟨rfl, rfl⟩
  go_wp2_with fail
  refine (C.out _).mono ?_
  rintro e w' ⟨rfl, rfl⟩
  go_wp2_with fail
  refine (RC.out _).mono ?_
  rintro e w' ⟨rfl, rfl⟩
  go_wp2
  go_ret
  exact ⟨rfl, below_drewN2 hB1 q⟩

set_option maxHeartbeats 2000000 in
set_option maxRecDepth 100000 in
theorem spec_true (d n : Int) (w : World) : Calls Try.prog 3 #[.int .i64 d, .int .i64 n] w fun e W' => e = .returned (.bool true) ∧ Below w.heap.size w W' := by
  obtain ⟨l, e0, hl, hrl⟩ := leaves d
  obtain ⟨v, e1, hv, hrv⟩ := levels n
  have L := Lib.hid hl; have RL := Lib.hid hrl; have V := Lib.hid hv; have RV := Lib.hid hrv
  clear hl hrl hv hrv
  by_cases hd : 0 ≤ d ∧ d < 512
  · obtain ⟨h0, h1⟩ := hd
    go_enter Try.func3, Try.ntmps3
    go_wp2_with fail
    refine (sane_true _).mono ?_
    rintro e W1 ⟨rfl, hB1⟩
    go_wp2_with fail
    refine (L.out _).mono ?_
    rintro e w' ⟨rfl, rfl⟩
    go_wp2_with fail
    refine (RL.out _).mono ?_
    rintro e w' ⟨rfl, rfl⟩
    go_wp2_with fail
    refine (V.out _).mono ?_
    rintro e w' ⟨rfl, rfl⟩
    go_wp2_with fail
    refine (RV.out _).mono ?_
    rintro e w' ⟨rfl, rfl⟩
    go_wp2_with fail
    refine (path_yes d _ h0 h1).mono ?_
    rintro e W2 ⟨g2, c2, rfl, hn2, hB2⟩
    have N2 := Lib.hid hn2; clear hn2
    go_wp2_with fail
    refine (rpath_yes d _ h0 h1).mono ?_
    rintro e W3 ⟨g3, c3, rfl, hn3, hB3⟩
    have N3 := Lib.hid hn3; clear hn3
    go_wp2_with fail
    refine (copath_yes d _ h0 h1).mono ?_
    rintro e W4 ⟨g4, c4, rfl, hn4, hB4⟩
    have N4 := Lib.hid hn4; clear hn4
    go_wp2_with fail
    refine (rcopath_yes d _ h0 h1).mono ?_
    rintro e W5 ⟨g5, c5, rfl, hn5, hB5⟩
    have N5 := Lib.hid hn5; clear hn5
    go_wp2_with fail
    refine (same_nine _ _ _ _ _ _ _ _ (((N2.out.below hB3).below hB4).below hB5) ((N3.out.below hB4).below hB5)).mono ?_
    rintro e w' ⟨rfl, q, rfl⟩
    go_wp2_with fail
    refine (same_nine _ _ _ _ _ _ _ _ ((N4.out.below hB5).below (below_drewN2 (Below.refl _ _) q)) (N5.out.below (below_drewN2 (Below.refl _ _) q))).mono ?_
    rintro e w' ⟨rfl, q2, rfl⟩
    go_wp2
    go_ret
    have s1 := hB1.size; have s2 := hB2.size; have s3 := hB3.size; have s4 := hB4.size
    exact ⟨rfl, below_drewN2 ((((hB1.trans (hB2.mono (by omega))).trans (hB3.mono (by omega))).trans (hB4.mono (by omega))).trans (hB5.mono (by omega))) (q + q2)⟩
  · have hd' : d < 0 ∨ 512 ≤ d := by omega
    have D := Lib.hid hd'; clear hd hd'
    go_enter Try.func3, Try.ntmps3
    go_wp2_with fail
    refine (sane_true _).mono ?_
    rintro e W1 ⟨rfl, hB1⟩
    go_wp2_with fail
    refine (L.out _).mono ?_
    rintro e w' ⟨rfl, rfl⟩
    go_wp2_with fail
    refine (RL.out _).mono ?_
    rintro e w' ⟨rfl, rfl⟩
    go_wp2_with fail
    refine (V.out _).mono ?_
    rintro e w' ⟨rfl, rfl⟩
    go_wp2_with fail
    refine (RV.out _).mono ?_
    rintro e w' ⟨rfl, rfl⟩
    go_wp2_with fail
    refine (path_no d _ D.out).mono ?_
    rintro e W2 ⟨rfl, hB2⟩
    go_wp2_with fail
    refine (rpath_no d _ D.out).mono ?_
    rintro e W3 ⟨rfl, hB3⟩
    go_wp2_with fail
    refine (copath_no d _ D.out).mono ?_
    rintro e W4 ⟨rfl, hB4⟩
    go_wp2_with fail
    refine (rcopath_no d _ D.out).mono ?_
    rintro e W5 ⟨rfl, hB5⟩
    go_wp2_with fail
    refine (same_nil _).mono ?_
    rintro e W6 ⟨rfl, hB6⟩
    go_wp2_with fail
    refine (same_nil _).mono ?_
    rintro e W7 ⟨rfl, hB7⟩
    go_wp2
    go_ret
    have s1 := hB1.size; have s2 := hB2.size; have s3 := hB3.size; have s4 := hB4.size; have s5 := hB5.size; have s6 := hB6.size
    exact ⟨rfl, (((((hB1.trans (hB2.mono (by omega))).trans (hB3.mono (by omega))).trans (hB4.mono (by omega))).trans (hB5.mono (by omega))).trans (hB6.mono (by omega))).trans (hB7.mono (by omega))⟩
end Go.Proofs.Ytidlnaanldccfaa
