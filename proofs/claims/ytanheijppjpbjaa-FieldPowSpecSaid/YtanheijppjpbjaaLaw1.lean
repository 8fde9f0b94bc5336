/- The walks of the statements FieldAddSpec, FieldPowSpec and FieldEvalSpec: they return true for every input. -/
import Derived.Test.YtanheijppjpbjaaSane
namespace Go.Proofs.Ytanheijppjpbjaa
open Go Go.RowKit Go.Shelf

theorem scd (a : Int) : Sc a ∨ ¬ Sc a := Classical.em _
theorem checks (a : Int) : ∃ e : Int, (∀ w, Calls Try.prog 22 #[.int .i64 a] w fun r w' => r = .returned (.int .i64 e) ∧ Below w.heap.size w w') ∧ (∀ w, Calls Try.prog 23 #[.int .i64 a] w fun r w' => r = .returned (.int .i64 e) ∧ w = w') := by
  rcases scd a with h | h
  · exact ⟨_, fun w => check_yes a w h, fun w => rcheck_yes a w h⟩
  · exact ⟨_, fun w => check_no a w h, fun w => rcheck_no a w h⟩
theorem adds (a b : Int) : ∃ c e : Int, (∀ w, Calls Try.prog 17 #[.int .i64 a, .int .i64 b] w fun r w' => r = .returned (.tuple #[.int .i64 c, .int .i64 e]) ∧ Below w.heap.size w w') ∧ (∀ w, Calls Try.prog 18 #[.int .i64 a, .int .i64 b] w fun r w' => r = .returned (.tuple #[.int .i64 c, .int .i64 e]) ∧ w = w') := by
  rcases Classical.em (Sc a ∧ Sc b) with h | h
  · exact ⟨_, _, fun w => add_yes a b w h.1 h.2, fun w => radd_yes a b w h.1 h.2⟩
  · exact ⟨_, _, fun w => add_no a b w h, fun w => radd_no a b w h⟩
theorem subs (a b : Int) : ∃ c e : Int, (∀ w, Calls Try.prog 14 #[.int .i64 a, .int .i64 b] w fun r w' => r = .returned (.tuple #[.int .i64 c, .int .i64 e]) ∧ Below w.heap.size w w') ∧ (∀ w, Calls Try.prog 19 #[.int .i64 a, .int .i64 b] w fun r w' => r = .returned (.tuple #[.int .i64 c, .int .i64 e]) ∧ w = w') := by
  rcases Classical.em (Sc a ∧ Sc b) with h | h
  · exact ⟨_, _, fun w => sub_yes a b w h.1 h.2, fun w => rsub_yes a b w h.1 h.2⟩
  · exact ⟨_, _, fun w => sub_no a b w h, fun w => rsub_no a b w h⟩
theorem muls (a b : Int) : ∃ c e : Int, (∀ w, Calls Try.prog 20 #[.int .i64 a, .int .i64 b] w fun r w' => r = .returned (.tuple #[.int .i64 c, .int .i64 e]) ∧ Below w.heap.size w w') ∧ (∀ w, Calls Try.prog 21 #[.int .i64 a, .int .i64 b] w fun r w' => r = .returned (.tuple #[.int .i64 c, .int .i64 e]) ∧ w = w') := by
  rcases Classical.em (Sc a ∧ Sc b) with h | h
  · exact ⟨_, _, fun w => mul_yes a b w h.1 h.2, fun w => rmul_yes a b w h.1 h.2⟩
  · exact ⟨_, _, fun w => mul_no a b w h, fun w => rmul_no a b w h⟩
theorem invs (a : Int) : ∃ c e : Int, (∀ w, Calls Try.prog 24 #[.int .i64 a] w fun r w' => r = .returned (.tuple #[.int .i64 c, .int .i64 e]) ∧ Below w.heap.size w w') ∧ (∀ w, Calls Try.prog 25 #[.int .i64 a] w fun r w' => r = .returned (.tuple #[.int .i64 c, .int .i64 e]) ∧ w = w') := by
  rcases scd a with h | h
  · by_cases h0 : a = 0
    · subst h0; exact ⟨_, _, fun w => inv_zero w, fun w => rinv_zero w⟩
    · exact ⟨_, _, fun w => inv_yes a w h h0, fun w => rinv_yes a w h h0⟩
  · exact ⟨_, _, fun w => inv_no a w h, fun w => rinv_no a w h⟩
theorem pows (a n : Int) (hn : n ≤ 9223372036854775807) : ∃ c e : Int, (∀ w, Calls Try.prog 12 #[.int .i64 a, .int .i64 n] w fun r w' => r = .returned (.tuple #[.int .i64 c, .int .i64 e]) ∧ Below w.heap.size w w') ∧ (∀ w, Calls Try.prog 26 #[.int .i64 a, .int .i64 n] w fun r w' => r = .returned (.tuple #[.int .i64 c, .int .i64 e]) ∧ w = w') := by
  rcases Classical.em (Sc a ∧ 0 ≤ n) with h | h
  · exact ⟨_, _, fun w => pow_yes a n w h.1 h.2 hn, fun w => rpow_yes a n w h.1 h.2 hn⟩
  · have h' : ¬ Sc a ∨ n < 0 := by
      rcases scd a with g | g
      · exact .inr (by have : ¬ 0 ≤ n := fun k => h ⟨g, k⟩; omega)
      · exact .inl g
    exact ⟨_, _, fun w => pow_no a n w h', fun w => rpow_no a n w h'⟩

set_option maxHeartbeats 2000000 in
set_option maxRecDepth 100000 in
theorem addSpec_true (a b : Int) (w : World) : Calls Try.prog 5 #[.int .i64 a, .int .i64 b] w fun e W' => e = .returned (.bool true) ∧ Below w.heap.size w W' := by
  obtain ⟨c1, e1, h1, g1⟩ := adds a b
  obtain ⟨c2, e2, h2, g2⟩ := subs a b
  obtain ⟨c3, e3, h3, g3⟩ := muls a b
  obtain ⟨e4, h4, g4⟩ := checks a
  have H1 := Lib.hid h1; have H2 := Lib.hid h2; have H3 := Lib.hid h3; have H4 := Lib.hid h4
  have G1 := Lib.hid g1; have G2 := Lib.hid g2; have G3 := Lib.hid g3; have G4 := Lib.hid g4
  clear h1 h2 h3 h4 g1 g2 g3 g4
  go_enter Try.func5, Try.ntmps5
  go_wp2_with fail
  refine (sane_true _).mono ?_
  rintro e W1 ⟨rfl, hB1⟩
  go_wp2_with fail
  refine (H1.out _).mono ?_
  rintro e W2 ⟨rfl, hB2⟩
  have hE2 := hB1.trans (hB2.mono hB1.size); clear hB1 hB2
  go_wp2_with fail
  refine (G1.out _).mono ?_
  rintro e w' ⟨rfl, rfl⟩
  go_wp2_with fail
  refine (H2.out _).mono ?_
  rintro e W3 ⟨rfl, hB3⟩
  have hE3 := hE2.trans (hB3.mono hE2.size); clear hE2 hB3
  go_wp2_with fail
  refine (G2.out _).mono ?_
  rintro e w' ⟨rfl, rfl⟩
  go_wp2_with fail
  refine (H3.out _).mono ?_
  rintro e W4 ⟨rfl, hB4⟩
  have hE4 := hE3.trans (hB4.mono hE3.size); clear hE3 hB4
  go_wp2_with fail
  refine (G3.out _).mono ?_
  rintro e w' ⟨rfl, rfl⟩
  go_wp2_with fail
  refine (H4.out _).mono ?_
  rintro e W5 ⟨rfl, hB5⟩
  have hE5 := hE4.trans (hB5.mono hE4.size); clear hE4 hB5
  go_wp2_with fail
  refine (G4.out _).mono ?_
  rintro e w' ⟨rfl, rfl⟩
  go_wp2
  go_ret
  exact ⟨rfl, hE5⟩

set_option maxHeartbeats 2000000 in
set_option maxRecDepth 100000 in
theorem powSpec_true (a n : Int) (w : World) (hn : n ≤ 9223372036854775807) : Calls Try.prog 6 #[.int .i64 a, .int .i64 n] w fun e W' => e = .returned (.bool true) ∧ Below w.heap.size w W' := by
  obtain ⟨c1, e1, h1, g1⟩ := invs a
  obtain ⟨c2, e2, h2, g2⟩ := pows a n hn
  have H1 := Lib.hid h1; have H2 := Lib.hid h2
  have G1 := Lib.hid g1; have G2 := Lib.hid g2
  clear h1 h2 g1 g2 hn
  go_enter Try.func6, Try.ntmps6
  go_wp2_with fail
  refine (sane_true _).mono ?_
  rintro e W1 ⟨rfl, hB1⟩
  go_wp2_with fail
  refine (H1.out _).mono ?_
  rintro e W2 ⟨rfl, hB2⟩
  have hE2 := hB1.trans (hB2.mono hB1.size); clear hB1 hB2
  go_wp2_with fail
  refine (G1.out _).mono ?_
  rintro e w' ⟨rfl, rfl⟩
  go_wp2_with fail
  refine (H2.out _).mono ?_
  rintro e W3 ⟨rfl, hB3⟩
  have hE3 := hE2.trans (hB3.mono hE2.size); clear hE2 hB3
  go_wp2_with fail
  refine (G2.out _).mono ?_
  rintro e w' ⟨rfl, rfl⟩
  go_wp2
  go_ret
  exact ⟨rfl, hE3⟩

set_option maxHeartbeats 2000000 in
set_option maxRecDepth 100000 in
theorem evalSpec_true (b : Option Addr) (n c : Nat) (z : Nat → Int) (x : Int) (w : World) (hr : Reads w (.slice b n c) n z) (hn : n ≤ 9223372036854775807) : Calls Try.prog 7 #[.slice b n c, .int .i64 x] w fun e W' => e = .returned (.bool true) ∧ Below w.heap.size w W' := by
  by_cases hl : n ≤ 200
  · obtain ⟨y, e, h1, g1⟩ := evals _ n z x w hr hn
    have H1 := Lib.hid h1; have G1 := Lib.hid g1
    clear h1 g1 hr hn
    have hT : ¬ (200 : Int) < n := by omega
    go_enter Try.func7, Try.ntmps7
    go_wp2_with fail
    refine (sane_true _).mono ?_
    rintro e W1 ⟨rfl, hB1⟩
    go_wp2_with fail
    refine (H1.out _ hB1).mono ?_
    rintro e2 W2 ⟨rfl, hB2⟩
    have hE2 := hB1.trans (hB2.mono hB1.size); clear hB1 hB2
    go_wp2_with fail
    refine (G1.out _ hE2).mono ?_
    rintro e2 w' ⟨rfl, q, rfl⟩
    go_wp2
    go_ret
    exact ⟨rfl, below_drewN3 hE2 q⟩
  · have hT : (200 : Int) < n := by omega
    clear hr hn
    go_enter Try.func7, Try.ntmps7
    go_wp2_with fail
    refine (sane_true _).mono ?_
    rintro e W1 ⟨rfl, hB1⟩
    go_wp2
    go_ret
    exact ⟨rfl, hB1⟩
/-- What a walk is told of a slice of integers that came in. -/
def IsRow (k : IntKind) (w : World) (a : Option Addr) (len cap : Nat) (zs : List Int) : Prop :=
  (a = none ∧ len = 0 ∧ cap = 0 ∧ zs = []) ∨
  ∃ x, a = some x ∧ len ≤ cap ∧ cap ≤ maxLen ∧ zs.length = cap ∧ (∀ i, i < zs.length → w.cell? (x.add i) = some (.int k (zs.getD i 0))) ∧ ∀ n ∈ zs, (Lit.int k n).wf = true
theorem cell_in {w : World} {a : Addr} {v : Value} (h : w.cell? a = some v) : a.block < w.heap.size := by
  rcases Nat.lt_or_ge a.block w.heap.size with h' | h'
  · exact h'
  · simp [World.cell?, h'] at h
theorem IsRow.reads {w : World} {a : Option Addr} {len cap : Nat} {zs : List Int} (h : IsRow .i64 w a len cap zs) : Reads w (.slice a len cap) len (fun j => zs.getD j 0) ∧ len ≤ 9223372036854775807 := by
  rcases h with ⟨rfl, rfl, rfl, rfl⟩ | ⟨⟨b, off, spot⟩, rfl, hl, hm, hz, hcell, hwz⟩
  · exact ⟨.inr ⟨_, _, rfl, rfl⟩, by omega⟩
  · have h9 : len ≤ 9223372036854775807 := by have : cap ≤ 9223372036854775807 := hm; omega
    rcases Nat.eq_zero_or_pos len with h0 | h0
    · subst h0
      exact ⟨.inr ⟨_, _, rfl, rfl⟩, by omega⟩
    · have hc := hcell 0 (by omega)
      have hspot : spot = none := by simpa [Addr.add] using World.cell?_spot hc
      subst hspot
      have hx : ∀ j, j < len → w.cell? ⟨b, off + j, none⟩ = some (.int .i64 (zs.getD j 0)) := fun j hj => by
        have := hcell j (by omega)
        by_cases h : j = 0
        · subst h; simpa [Addr.add] using this
        · simpa [Addr.add, h] using this
      refine ⟨.inl ⟨b, off, cap, rfl, hx, fun h => ?_⟩, h9⟩
      exact cell_in (hx 0 h)
theorem evalSpec_row (a : Option Addr) (len cap : Nat) (zs : List Int) (x : Int) (w : World) (h : IsRow .i64 w a len cap zs) (_hx : (Lit.int .i64 x).wf = true) : Calls Try.prog 7 #[.slice a len cap, .int .i64 x] w fun e W' => e = .returned (.bool true) ∧ Below w.heap.size w W' :=
  evalSpec_true a len cap _ x w h.reads.1 h.reads.2
end Go.Proofs.Ytanheijppjpbjaa
