/- Path and Copath of package paths and of its reference: what they return for every device; Same at two lists of nine. -/
import Derived.Test.YtidlnaanldccfaaAlong
namespace Go.Proofs.Ytidlnaanldccfaa
open Go Go.RowKit Go.Shelf

/-- Block g, new since the heap was of size n, holds nine numbers. -/
structure Nine (n : Nat) (W : World) (g : Nat) (x : Nat → Int) : Prop where
  new : n ≤ g
  lt : g < W.heap.size
  at' : ∀ j, j < 9 → W.cell? ⟨g, j, none⟩ = some (.int .i64 (x j))

theorem Nine.of_row {n : Nat} {W : World} {v : Value} {f : Int → Int} {d : Int} (h : W.ownsRow n 3 1 v 9 (rowOf f d 9)) : ∃ g cap, v = .slice (some ⟨g, 0, none⟩) 9 cap ∧ Nine n W g (fun j => f (nd d j)) := by
  obtain ⟨g, cap, rfl⟩ := ownsRow_succ (k := 8) h
  refine ⟨g, cap, rfl, ?_, ?_, ?_⟩
  · rcases h.2 with ⟨h', _⟩ | ⟨g', cap', cur, h', hb, _⟩
    · simp at h'
    · simp only [Value.slice.injEq, Option.some.injEq, Addr.mk.injEq, and_true, true_and] at h'
      omega
  · rcases h.2 with ⟨h', _⟩ | ⟨g', cap', cur, h', _, hg, _⟩
    · simp at h'
    · simp only [Value.slice.injEq, Option.some.injEq, Addr.mk.injEq, and_true, true_and] at h'
      obtain ⟨rfl, rfl⟩ := h'
      exact (Array.getElem?_eq_some_iff.1 hg).1
  · intro j hj
    rw [h.cellAt j (by omega)]
    simp [rowOf, hj]

theorem Nine.below {n : Nat} {W W' : World} {g : Nat} {x : Nat → Int} (h : Nine n W g x) (hB : Below W.heap.size W W') : Nine n W' g x :=
  ⟨h.new, Nat.lt_of_lt_of_le h.lt hB.size, fun j hj => (hB.cell (p := ⟨g, j, none⟩) h.lt).trans (h.at' j hj)⟩
theorem Nine.weak {n m : Nat} {W : World} {g : Nat} {x : Nat → Int} (h : Nine n W g x) (hm : m ≤ n) : Nine m W g x := ⟨Nat.le_trans hm h.new, h.lt, h.at'⟩

set_option maxHeartbeats 1000000 in
set_option maxRecDepth 100000 in
theorem along_no (d : Int) (w : World) (v : Value) (h : d < 0 ∨ 512 ≤ d) (hv : v = .func (.func 29) #[] #[] ∨ v = .func (.func 30) #[] #[]) :
    CallsIn Fence.wide 6 Try.prog 28 #[.int .i64 d, v] w fun e W' => e = .returned (.tuple #[.slice none 0 0, .int .i64 200]) ∧ Below w.heap.size w W' := by
  have H := Lib.hid h; clear h
  rcases hv with rfl | rfl
  all_goals
    refine callsIn_of_wp_marks Try.func28 rfl trivial ?_ rfl
    simp only [Try.ntmps28, List.size_toArray, List.length_cons, List.length_nil, Nat.reduceAdd, Nat.reduceSub, Array.replicate_succ, Array.replicate_zero, List.push_toArray, List.append_toArray, List.nil_append, List.cons_append]
    gi_wp2_with (refine ⟨trivial, ?_⟩; gi_at_call 11; refine (callsIn_wide.2 (leaf_no _ _ H.out)).mono ?_; rintro e w' ⟨rfl, rfl⟩)
    refine ⟨.tuple #[.slice none 0 0, .int .i64 200], ?_, rfl, ((Below.refl _ _).alloc (Nat.le_refl _) _).alloc (by simp) _⟩
    simp [results, Try.results28, go_sem]

theorem path_yes (d : Int) (w : World) (h0 : 0 ≤ d) (h1 : d < 512) :
    Calls Try.prog 15 #[.int .i64 d] w fun e W' => ∃ g cap, e = .returned (.tuple #[.slice (some ⟨g, 0, none⟩) 9 cap, .int .i64 0]) ∧ Nine w.heap.size W' g (fun j => nd d (j + 1)) ∧ Below w.heap.size w W' := by
  go_enter Try.func15, Try.ntmps15
  go_wp2_with fail
  refine (callsIn_wide.1 (along_yes d w 29 (· / 2) h0 h1 (enters_of Try.func29 (by kernel_rfl) rfl) (fun n w a b => parent n w a b))).mono ?_
  rintro e W' ⟨v, rfl, hr, hB⟩
  obtain ⟨g, cap, rfl, hn⟩ := Nine.of_row hr
  have hn' : Nine w.heap.size W' g (fun j => nd d (j + 1)) := ⟨hn.new, hn.lt, fun j hj => by rw [nd_succ]; exact hn.at' j hj⟩
  have HN := Lib.hid hn'
  clear hn hr hn'
  go_wp2
  go_ret2
  exact ⟨g, cap, rfl, HN.out, hB⟩
theorem path_no (d : Int) (w : World) (h : d < 0 ∨ 512 ≤ d) :
    Calls Try.prog 15 #[.int .i64 d] w fun e W' => e = .returned (.tuple #[.slice none 0 0, .int .i64 200]) ∧ Below w.heap.size w W' := by
  have H := Lib.hid h; clear h
  go_enter Try.func15, Try.ntmps15
  go_wp2_with fail
  refine (callsIn_wide.1 (along_no d w _ H.out (.inl rfl))).mono ?_
  rintro e W' ⟨rfl, hB⟩
  go_wp2
  go_ret2
  exact ⟨rfl, hB⟩
theorem copath_yes (d : Int) (w : World) (h0 : 0 ≤ d) (h1 : d < 512) :
    Calls Try.prog 17 #[.int .i64 d] w fun e W' => ∃ g cap, e = .returned (.tuple #[.slice (some ⟨g, 0, none⟩) 9 cap, .int .i64 0]) ∧ Nine w.heap.size W' g (fun j => sib (nd d j)) ∧ Below w.heap.size w W' := by
  go_enter Try.func17, Try.ntmps17
  go_wp2_with fail
  refine (callsIn_wide.1 (along_yes d w 30 sib h0 h1 (enters_of Try.func30 (by kernel_rfl) rfl) (fun n w a b => sibling n w a b))).mono ?_
  rintro e W' ⟨v, rfl, hr, hB⟩
  obtain ⟨g, cap, rfl, hn⟩ := Nine.of_row hr
  have HN := Lib.hid hn
  clear hn hr
  go_wp2
  go_ret2
  exact ⟨g, cap, rfl, HN.out, hB⟩
theorem copath_no (d : Int) (w : World) (h : d < 0 ∨ 512 ≤ d) :
    Calls Try.prog 17 #[.int .i64 d] w fun e W' => e = .returned (.tuple #[.slice none 0 0, .int .i64 200]) ∧ Below w.heap.size w W' := by
  have H := Lib.hid h; clear h
  go_enter Try.func17, Try.ntmps17
  go_wp2_with fail
  refine (callsIn_wide.1 (along_no d w _ H.out (.inr rfl))).mono ?_
  rintro e W' ⟨rfl, hB⟩
  go_wp2
  go_ret2
  exact ⟨rfl, hB⟩

/-- Behind an append to a row of the call's own, all that lay before the call lies as it lay. -/
theorem row_below {w wr w1 : World} {v : Value} {k : Nat} {xs : List Value} {o : Obj} (hrow : wr.ownsRow w.heap.size 3 1 v k xs) (hB : Below w.heap.size w wr) (hg : (wr.alloc o).grownBy w1 v.ownBlock) : Below w.heap.size w w1 := by
  refine (hB.alloc hB.size o).grown hg (by have := hB.size; simp; omega) fun j ej => ?_
  rcases hrow.2 with ⟨rfl, _⟩ | ⟨g, cap, cur, rfl, hb, _, _⟩
  · simp [Value.ownBlock] at ej
  · obtain rfl : g = j := by simpa [Value.ownBlock] using ej
    exact hb

set_option maxHeartbeats 1000000 in
set_option maxRecDepth 100000 in
theorem rpath_yes (d : Int) (w : World) (h0 : 0 ≤ d) (h1 : d < 512) :
    Calls Try.prog 16 #[.int .i64 d] w fun e W' => ∃ g cap, e = .returned (.tuple #[.slice (some ⟨g, 0, none⟩) 9 cap, .int .i64 0]) ∧ Nine w.heap.size W' g (fun j => nd d (j + 1)) ∧ Below w.heap.size w W' := by
  obtain ⟨i0, hi, hz0, hz1, hz2⟩ := info_parts info3
  go_enter Try.func16, Try.ntmps16
  go_wp2_with (first | (go_at_call 12; refine (rleaf_yes _ _ h0 h1).mono ?_; rintro e w' ⟨rfl, rfl⟩))
  go_loopw [4, 6] (fun n l wr => ∃ k : Nat, k ≤ 9 ∧ n = .int .i64 (nd d k) ∧ wr.ownsRow w.heap.size 3 1 l k (rowOf (· / 2) d k) ∧ Below w.heap.size w wr) (fun n _ _ => (intOf n).toNat)
  case atStart => exact ⟨0, by omega, by rw [nd_zero], World.ownsRow_nil _ _ _ _, Below.refl _ _⟩
  case round =>
    obtain ⟨k, hk, rfl, hrow, hB⟩ := hrel
    by_cases hlt : k < 9
    · have hn1 : 1 < nd d k := nd_gt d k h0 h1 hlt
      have hn2 : nd d k < 1024 := nd_lt d k h0 h1
      go_wp2_with (at_builtin; refine wpList_append_own _ rfl _ _ 26 rfl w.heap.size 3 i0 (.int .i64 0) 1 8 Try.underlying26 hi hz0 hz1 hz2 rfl (by decide) _ _ _ rfl (hrow.alloc _) ⟨wr.heap.size, 0, none⟩ 1 1 [.int .i64 (nd d k / 2)] rfl rfl (cell_one_new _ _ _) (by simp [Value.oneCell']) (by unfold maxLen; omega) (by omega) (by have := hB.size; simp; omega) ?_; intro v' w1 hown' hgrow _; have hB1 := row_below hrow hB hgrow)
      go_roundw
      case rel => exact ⟨k + 1, by omega, by rw [nd_succ], by rw [rowOf_succ]; exact hown', hB1⟩
      case measure => rw [← nd_succ]; have := nd_succ d k; simp [intOf]; omega
    · obtain rfl : k = 9 := by omega
      have he : nd d 9 = 1 := nd_nine d h0 h1
      obtain ⟨g, cap, rfl, hn⟩ := Nine.of_row hrow
      have hn' : Nine w.heap.size wr g (fun j => nd d (j + 1)) := ⟨hn.new, hn.lt, fun j hj => by rw [nd_succ]; exact hn.at' j hj⟩
      have HN := Lib.hid hn'
      clear hn hrow hn'
      go_wp2
      go_ret2
      exact ⟨g, cap, rfl, HN.out, hB⟩
theorem rpath_no (d : Int) (w : World) (h : d < 0 ∨ 512 ≤ d) :
    Calls Try.prog 16 #[.int .i64 d] w fun e W' => e = .returned (.tuple #[.slice none 0 0, .int .i64 200]) ∧ Below w.heap.size w W' := by
  have H := Lib.hid h; clear h
  go_enter Try.func16, Try.ntmps16
  go_wp2_with fail
  refine (rleaf_no d w H.out).mono ?_
  rintro e W' ⟨rfl, rfl⟩
  go_wp2
  go_ret2
  exact ⟨rfl, Below.refl _ _⟩
set_option maxHeartbeats 1000000 in
set_option maxRecDepth 100000 in
theorem rcopath_yes (d : Int) (w : World) (h0 : 0 ≤ d) (h1 : d < 512) :
    Calls Try.prog 18 #[.int .i64 d] w fun e W' => ∃ g cap, e = .returned (.tuple #[.slice (some ⟨g, 0, none⟩) 9 cap, .int .i64 0]) ∧ Nine w.heap.size W' g (fun j => sib (nd d j)) ∧ Below w.heap.size w W' := by
  obtain ⟨i0, hi, hz0, hz1, hz2⟩ := info_parts info3
  go_enter Try.func18, Try.ntmps18
  go_wp2_with (first | (go_at_call 12; refine (rleaf_yes _ _ h0 h1).mono ?_; rintro e w' ⟨rfl, rfl⟩))
  go_loopw [4, 6] (fun n l wr => ∃ k : Nat, k ≤ 9 ∧ n = .int .i64 (nd d k) ∧ wr.ownsRow w.heap.size 3 1 l k (rowOf sib d k) ∧ Below w.heap.size w wr) (fun n _ _ => (intOf n).toNat)
  case atStart => exact ⟨0, by omega, by rw [nd_zero], World.ownsRow_nil _ _ _ _, Below.refl _ _⟩
  case round =>
    obtain ⟨k, hk, rfl, hrow, hB⟩ := hrel
    by_cases hlt : k < 9
    · have hn1 : 1 < nd d k := nd_gt d k h0 h1 hlt
      have hn2 : nd d k < 1024 := nd_lt d k h0 h1
      go_wp2_with (first | (go_at_call 31; refine (rsibling _ _ (by omega) hn2).mono ?_; rintro e w' ⟨rfl, rfl⟩) | (at_builtin; refine wpList_append_own _ rfl _ _ 26 rfl w.heap.size 3 i0 (.int .i64 0) 1 8 Try.underlying26 hi hz0 hz1 hz2 rfl (by decide) _ _ _ rfl (hrow.alloc _) ⟨wr.heap.size, 0, none⟩ 1 1 [.int .i64 (sib (nd d k))] rfl rfl (cell_one_new _ _ _) (by simp [Value.oneCell']) (by unfold maxLen; omega) (by omega) (by have := hB.size; simp; omega) ?_; intro v' w1 hown' hgrow _; have hB1 := row_below hrow hB hgrow))
      go_roundw
      case rel => exact ⟨k + 1, by omega, by rw [nd_succ], by rw [rowOf_succ]; exact hown', hB1⟩
      case measure => rw [← nd_succ]; have := nd_succ d k; simp [intOf]; omega
    · obtain rfl : k = 9 := by omega
      have he : nd d 9 = 1 := nd_nine d h0 h1
      obtain ⟨g, cap, rfl, hn⟩ := Nine.of_row hrow
      have HN := Lib.hid hn
      clear hn hrow
      go_wp2
      go_ret2
      exact ⟨g, cap, rfl, HN.out, hB⟩
theorem rcopath_no (d : Int) (w : World) (h : d < 0 ∨ 512 ≤ d) :
    Calls Try.prog 18 #[.int .i64 d] w fun e W' => e = .returned (.tuple #[.slice none 0 0, .int .i64 200]) ∧ Below w.heap.size w W' := by
  have H := Lib.hid h; clear h
  go_enter Try.func18, Try.ntmps18
  go_wp2_with fail
  refine (rleaf_no d w H.out).mono ?_
  rintro e W' ⟨rfl, rfl⟩
  go_wp2
  go_ret2
  exact ⟨rfl, Below.refl _ _⟩
set_option maxHeartbeats 1000000 in
theorem same_nil (w : World) :
    Calls Try.prog 19 #[.slice none 0 0, .slice none 0 0] w fun e W' => e = .returned (.bool true) ∧ Below w.heap.size w W' := by
  go_enter Try.func19, Try.ntmps19
  go_wp2
  go_loopw [5] (fun i wr => i = .int .i64 0 ∧ wr = w) (fun _ _ => 0)
  case atStart => exact ⟨rfl, rfl⟩
  case round =>
    obtain ⟨rfl, rfl⟩ := hrel
    go_wp2
    go_ret
    exact ⟨rfl, Below.refl _ _⟩
set_option maxHeartbeats 1000000 in
theorem same_nine (w : World) (g g' c c' n n' : Nat) (x : Nat → Int) (hg : Nine n w g x) (hg' : Nine n' w g' x) :
    Calls Try.prog 19 #[.slice (some ⟨g, 0, none⟩) 9 c, .slice (some ⟨g', 0, none⟩) 9 c'] w fun e W' => e = .returned (.bool true) ∧ ∃ q, W' = w.drewN q := by
  have G := Lib.hid hg
  have G' := Lib.hid hg'
  clear hg hg'
  go_enter Try.func19, Try.ntmps19
  go_wp2
  go_loopw [5] (fun i wr => ∃ k q : Nat, k ≤ 9 ∧ i = .int .i64 k ∧ wr = w.drewN q) (fun i _ => 9 - (intOf i).toNat)
  case atStart => exact ⟨0, 0, by omega, rfl, rfl⟩
  case round =>
    obtain ⟨k, q, hk, rfl, rfl⟩ := hrel
    by_cases hlt : k < 9
    · have hlt' : (k : Int) < 9 := by omega
      have c1 := G.out.at' k hlt
      have c2 := G'.out.at' k hlt
      go_wp2
      go_quiet (fail)
      go_wp2
      go_roundw
      case rel => exact ⟨k + 1, _, by omega, by go_num, rfl⟩
      case measure => simp [intOf]; omega
    · obtain rfl : k = 9 := by omega
      go_wp2
      go_ret
      exact ⟨rfl, _, rfl⟩
end Go.Proofs.Ytidlnaanldccfaa
