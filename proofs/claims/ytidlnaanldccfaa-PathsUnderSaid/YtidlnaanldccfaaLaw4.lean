/- The walk of the statement PathsUnder: it returns true for every input. -/
import Derived.Test.YtidlnaanldccfaaSane
import Derived.Test.YtidlnaanldccfaaMath2
namespace Go.Proofs.Ytidlnaanldccfaa
open Go Go.RowKit Go.Shelf

/-- Is the node n among the first k + 1 nodes from the leaf of d up? -/
def onPath (d n : Int) : Nat → Bool
  | 0 => 512 + d == n
  | k + 1 => onPath d n k || nd d (k + 1) == n
theorem onPath_iff (d n : Int) : ∀ k, onPath d n k = true ↔ ∃ j, j ≤ k ∧ nd d j = n
  | 0 => by
    simp only [onPath, beq_iff_eq]
    constructor
    · intro h
      exact ⟨0, by omega, by rw [nd_zero]; exact h⟩
    · rintro ⟨j, hj, h⟩
      obtain rfl : j = 0 := by omega
      rw [nd_zero] at h
      exact h
  | k + 1 => by
    simp only [onPath, Bool.or_eq_true, beq_iff_eq, onPath_iff d n k]
    constructor
    · rintro (⟨j, hj, h⟩ | h)
      · exact ⟨j, by omega, h⟩
      · exact ⟨k + 1, by omega, h⟩
    · rintro ⟨j, hj, h⟩
      by_cases e : j = k + 1
      · subst e
        exact .inr h
      · exact .inl ⟨j, by omega, h⟩
theorem onPath_nine (d n : Int) (h0 : 0 ≤ d) (h1 : d < 512) (n0 : 1 ≤ n) (n1 : n < 1024) : onPath d n 9 = true ↔ fr n ≤ d ∧ d < till n := by
  rw [under_iff, onPath_iff]
  constructor
  · rintro ⟨j, hj, h⟩
    rw [← h, lev_nd d j h0 h1 hj, h]
  · intro h
    exact ⟨lev n, lev_lt n n0 n1, h⟩
theorem ret_bool4 {a b : Bool} (h : a = b) : Ending.returned (.bool a) = .returned (.bool b) := by rw [h]

set_option maxHeartbeats 2000000 in
set_option maxRecDepth 100000 in
theorem underLaw_true (n d : Int) (w : World) : Calls Try.prog 7 #[.int .i64 n, .int .i64 d] w fun e W' => e = .returned (.bool true) ∧ Below w.heap.size w W' := by
  by_cases hn : 1 ≤ n ∧ n < 1024
  · obtain ⟨n0, n1⟩ := hn
    have hfb := fr_bounds n n0 n1
    have hll := lev_lt n n0 n1
    have htf := till_fr n
    by_cases hd : 0 ≤ d ∧ d < 512
    · obtain ⟨h0, h1⟩ := hd
      go_enter Try.func7, Try.ntmps7
      go_wp2_with fail
      refine (sane_true _).mono ?_
      rintro e W1 ⟨rfl, hB1⟩
      go_wp2_with fail
      refine (under_yes n _ n0 n1).mono ?_
      rintro e w' ⟨rfl, q, rfl⟩
      go_wp2_with fail
      refine (level_yes n _ n0 n1).mono ?_
      rintro e w' ⟨rfl, rfl⟩
      go_wp2_with fail
      refine (path_yes d _ h0 h1).mono ?_
      rintro e W2 ⟨g2, c2, rfl, hn2, hB2⟩
      have N2 := Lib.hid hn2; clear hn2
      go_wp2_with fail
      refine (leaf_yes d _ h0 h1).mono ?_
      rintro e w' ⟨rfl, rfl⟩
      go_wp2_with fail
      have hB := (below_drewN2 hB1 q).trans (hB2.mono hB1.size)
      clear hB1 hB2
      go_loop [14, 15] (fun on i => ∃ k : Nat, k ≤ 9 ∧ on = .bool (onPath d n k) ∧ i = .int .i64 k) (fun _ i => 9 - (intOf i).toNat)
      case atStart => exact ⟨0, by omega, rfl, rfl⟩
      case round =>
        obtain ⟨k, hk, rfl, rfl⟩ := hrel
        by_cases hlt : k < 9
        · have hlt' : (k : Int) < 9 := by omega
          have c1 := N2.out.at' k hlt
          have HS : Hid (onPath d n (k + 1) = (onPath d n k || nd d (k + 1) == n)) := Lib.hid rfl
          cases hb : onPath d n k with
          | true =>
            have HB := Lib.hid hb; clear hb
            go_wp2
            go_round
            case rel => exact ⟨k + 1, by omega, by rw [HS.out, HB.out]; rfl, by go_num⟩
            case measure => simp [intOf]; omega
          | false =>
            have HB := Lib.hid hb; clear hb
            go_wp2
            go_round
            case rel => exact ⟨k + 1, by omega, by rw [HS.out, HB.out]; rfl, by go_num⟩
            case measure => simp [intOf]; omega
        · obtain rfl : k = 9 := by omega
          have hnine := onPath_nine d n h0 h1 n0 n1
          by_cases hf : fr n ≤ d
          · by_cases ht : d < till n
            · have hb : onPath d n 9 = true := hnine.2 ⟨hf, ht⟩
              clear hnine
              go_wp2
              go_ret
              exact ⟨rfl, hB⟩
            · have hb : onPath d n 9 = false := by
                cases hx : onPath d n 9 with
                | false => rfl
                | true => exact absurd (hnine.1 hx).2 ht
              clear hnine
              go_wp2
              go_ret
              exact ⟨ret_bool4 (by simp), hB⟩
          · have hb : onPath d n 9 = false := by
              cases hx : onPath d n 9 with
              | false => rfl
              | true => exact absurd (hnine.1 hx).1 hf
            clear hnine
            go_wp2
            go_ret
            exact ⟨ret_bool4 (by simp), hB⟩
    · have hd' : d < 0 ∨ 512 ≤ d := by omega
      have HD := Lib.hid hd'
      clear hd
      rcases hd' with hx | hx
      · go_enter Try.func7, Try.ntmps7
        go_wp2_with fail
        refine (sane_true _).mono ?_
        rintro e W1 ⟨rfl, hB1⟩
        go_wp2_with fail
        refine (under_yes n _ n0 n1).mono ?_
        rintro e w' ⟨rfl, q, rfl⟩
        go_wp2_with fail
        refine (level_yes n _ n0 n1).mono ?_
        rintro e w' ⟨rfl, rfl⟩
        go_wp2_with fail
        refine (path_no d _ HD.out).mono ?_
        rintro e W2 ⟨rfl, hB2⟩
        go_wp2_with fail
        refine (leaf_no d _ HD.out).mono ?_
        rintro e w' ⟨rfl, rfl⟩
        go_wp2
        go_ret
        exact ⟨rfl, (below_drewN2 hB1 q).trans (hB2.mono hB1.size)⟩
      · have hx2 : 0 ≤ d := by omega
        go_enter Try.func7, Try.ntmps7
        go_wp2_with fail
        refine (sane_true _).mono ?_
        rintro e W1 ⟨rfl, hB1⟩
        go_wp2_with fail
        refine (under_yes n _ n0 n1).mono ?_
        rintro e w' ⟨rfl, q, rfl⟩
        go_wp2_with fail
        refine (level_yes n _ n0 n1).mono ?_
        rintro e w' ⟨rfl, rfl⟩
        go_wp2_with fail
        refine (path_no d _ HD.out).mono ?_
        rintro e W2 ⟨rfl, hB2⟩
        go_wp2_with fail
        refine (leaf_no d _ HD.out).mono ?_
        rintro e w' ⟨rfl, rfl⟩
        go_wp2
        go_ret
        exact ⟨rfl, (below_drewN2 hB1 q).trans (hB2.mono hB1.size)⟩
  · have hn' : n < 1 ∨ 1024 ≤ n := by omega
    have HN := Lib.hid hn'
    clear hn
    rcases hn' with hx | hx
    · go_enter Try.func7, Try.ntmps7
      go_wp2_with fail
      refine (sane_true _).mono ?_
      rintro e W1 ⟨rfl, hB1⟩
      go_wp2_with fail
      refine (under_no n _ HN.out).mono ?_
      rintro e w' ⟨rfl, rfl⟩
      go_wp2_with fail
      refine (level_no n _ HN.out).mono ?_
      rintro e w' ⟨rfl, rfl⟩
      go_wp2
      go_ret
      exact ⟨rfl, hB1⟩
    · have hx2 : 1 ≤ n := by omega
      go_enter Try.func7, Try.ntmps7
      go_wp2_with fail
      refine (sane_true _).mono ?_
      rintro e W1 ⟨rfl, hB1⟩
      go_wp2_with fail
      refine (under_no n _ HN.out).mono ?_
      rintro e w' ⟨rfl, rfl⟩
      go_wp2_with fail
      refine (level_no n _ HN.out).mono ?_
      rintro e w' ⟨rfl, rfl⟩
      go_wp2
      go_ret
      exact ⟨rfl, hB1⟩
end Go.Proofs.Ytidlnaanldccfaa
