/- The walks of PaddingSpec and PaddingLeast. -/
import Derived.Test.YtofgnncodnfapaaDoorSane
namespace Go.Proofs.YtofgnncodnfapaaDoor
open Go Go.RowKit

theorem nat_of (n : Int) (h : 0 ≤ n) (h6 : n < 6) : ∃ k : Nat, n = k ∧ k < 6 := ⟨n.toNat, by omega, by omega⟩
def sizeV (n : Int) : Int := if 0 ≤ n ∧ n < 6 then len6 n.toNat else 0
def sizeE (n : Int) : Int := if 0 ≤ n ∧ n < 6 then 0 else 280
def clsV (n : Int) : Int := if 0 ≤ n ∧ n ≤ 65532 then cls n else 0
def clsE (n : Int) : Int := if 0 ≤ n ∧ n ≤ 65532 then 0 else 280
theorem length_any (n : Int) (w : World) (ht : Tab w) : Calls Tryd.prog 13 #[.int .i64 n] w fun e w' => e = .returned (.tuple #[.int .i64 (sizeV n), .int .i64 (sizeE n)]) ∧ w = w' := by
  unfold sizeV sizeE
  by_cases h : 0 ≤ n ∧ n < 6
  · rw [if_pos h, if_pos h]
    obtain ⟨k, rfl, hk⟩ := nat_of n h.1 h.2
    exact length_yes k w hk ht
  · rw [if_neg h, if_neg h]
    exact length_no n w (by omega)
theorem rlength_any (n : Int) (w : World) : Calls Tryd.prog 14 #[.int .i64 n] w fun e w' => e = .returned (.tuple #[.int .i64 (sizeV n), .int .i64 (sizeE n)]) ∧ w = w' := by
  unfold sizeV sizeE
  by_cases h : 0 ≤ n ∧ n < 6
  · rw [if_pos h, if_pos h]
    obtain ⟨k, rfl, hk⟩ := nat_of n h.1 h.2
    exact rlength_yes k w hk
  · rw [if_neg h, if_neg h]
    exact rlength_no n w (by omega)
theorem class_any (n : Int) (w : World) (ht : Tab w) : Calls Tryd.prog 11 #[.int .i64 n] w fun e w' => e = .returned (.tuple #[.int .i64 (clsV n), .int .i64 (clsE n)]) ∧ Below w.heap.size w w' := by
  unfold clsV clsE
  by_cases h : 0 ≤ n ∧ n ≤ 65532
  · rw [if_pos h, if_pos h]
    exact class_yes n w h.1 h.2 ht
  · rw [if_neg h, if_neg h]
    exact class_no n w (by omega) ht
theorem rclass_any (n : Int) (w : World) (h9 : n ≤ 9223372036854775807) : Calls Tryd.prog 12 #[.int .i64 n] w fun e w' => e = .returned (.tuple #[.int .i64 (clsV n), .int .i64 (clsE n)]) ∧ w = w' := by
  unfold clsV clsE
  by_cases h : 0 ≤ n ∧ n ≤ 65532
  · rw [if_pos h, if_pos h]
    exact rclass_yes n w h.1 h.2
  · rw [if_neg h, if_neg h]
    exact rclass_no n w (by omega) h9

set_option maxRecDepth 100000 in
theorem spec_walk (n size : Int) (w : World) (ht : Tab w) (h9 : n ≤ 9223372036854775807) :
    Calls Tryd.prog 3 #[.int .i64 n, .int .i64 size] w fun e w' => e = .returned (.bool true) ∧ Below w.heap.size w w' := by
  have T0 := Lib.hid ht; have H9 := Lib.hid h9; clear ht h9
  go_enter Tryd.func3, Tryd.ntmps3
  go_wp2_with fail
  refine (sane_true _ T0.out).mono ?_
  rintro e W1 ⟨rfl, hB1⟩
  have B1 := Lib.hid hB1; have T1 := Lib.hid (T0.out.below hB1)
  clear hB1
  go_wp2_with fail
  refine (class_any n _ T1.out).mono ?_
  rintro e W2 ⟨rfl, hB2⟩
  have B2 := Lib.hid (B1.out.trans (hB2.mono B1.out.size)); have T2 := Lib.hid (T1.out.below hB2)
  clear hB2 B1 T1
  go_wp2_with fail
  refine (rclass_any n _ H9.out).mono ?_
  rintro e w' ⟨rfl, rfl⟩
  go_wp2_with fail
  refine (length_any size _ T2.out).mono ?_
  rintro e w' ⟨rfl, rfl⟩
  go_wp2_with fail
  refine (rlength_any size _).mono ?_
  rintro e w' ⟨rfl, rfl⟩
  go_wp2
  go_ret
  exact ⟨rfl, B2.out⟩

theorem cls_step (n : Int) (h1 : n ≤ 65532) : n + 4 ≤ len6 (cls n) ∧ ∀ k, cls n = k + 1 → len6 k < n + 4 := by
  refine ⟨(cls_le n (cls n) (cls_lt n) h1).2 (Nat.le_refl _), fun k hk => ?_⟩
  have := cls_lt n
  have := cls_le n k (by omega) h1
  omega
theorem cls_mono (n m : Int) (h : n ≤ m) (h1 : m ≤ 65532) : cls n ≤ cls m := by
  have := (cls_le m (cls m) (cls_lt m) h1).2 (Nat.le_refl _)
  exact (cls_le n (cls m) (cls_lt m) (by omega)).1 (by omega)

set_option maxHeartbeats 2000000 in
set_option maxRecDepth 100000 in
theorem least_walk (n m : Int) (w : World) (ht : Tab w) :
    Calls Tryd.prog 6 #[.int .i64 n, .int .i64 m] w fun e w' => e = .returned (.bool true) ∧ Below w.heap.size w w' := by
  have T0 := Lib.hid ht; clear ht
  by_cases hn : 0 ≤ n ∧ n ≤ 65532
  · obtain ⟨h0, h1⟩ := hn
    have hN1 : ¬ n < 0 := by omega
    have hN2 : ¬ 65532 < n := by omega
    obtain ⟨hc1, hc2⟩ := cls_step n h1
    have hk := cls_lt n
    have hm := cls_mono n m
    have hkb := len6_bd (cls n)
    obtain ⟨k, hke⟩ : ∃ k, k = cls n := ⟨_, rfl⟩
    have KE := Lib.hid hke
    have C2 := Lib.hid hc2; have HM := Lib.hid hm
    rw [← hke] at hc1 hk hkb
    have hcv : clsV n = k := by unfold clsV; rw [if_pos ⟨h0, h1⟩, hke]
    have hce : clsE n = 0 := if_pos ⟨h0, h1⟩
    have K := Lib.hid hk
    have hw4 : IntKind.i64.wrap (n + 4) = n + 4 := IntWalk.i64_in _ ⟨by omega, by omega⟩
    have hlt : ¬ (len6 k < n + 4) := by omega
    have KB := Lib.hid hkb
    clear hke hc2 hm hc1 hk hkb
    go_enter Tryd.func6, Tryd.ntmps6
    go_wp2_with fail
    refine (sane_true _ T0.out).mono ?_
    rintro e W1 ⟨rfl, hB1⟩
    have B1 := Lib.hid hB1; have T1 := Lib.hid (T0.out.below hB1)
    clear hB1
    go_wp2_with fail
    refine (class_any n _ T1.out).mono ?_
    rw [hcv, hce]
    clear hcv hce
    rintro e W2 ⟨rfl, hB2⟩
    have B2 := Lib.hid (B1.out.trans (hB2.mono B1.out.size)); have T2 := Lib.hid (T1.out.below hB2)
    clear hB2 B1 T1
    go_wp2_with fail
    refine (class_any m _ T2.out).mono ?_
    rintro e W3 ⟨rfl, hB3⟩
    have B3 := Lib.hid (B2.out.trans (hB3.mono B2.out.size)); have T3 := Lib.hid (T2.out.below hB3)
    clear hB3 B2 T2
    go_wp2_with fail
    refine (length_yes k _ K.out T3.out).mono ?_
    rintro e w' ⟨rfl, rfl⟩
    have hlast : ¬ (clsE m = 0 ∧ n ≤ m ∧ clsV m < (k : Int)) := by
      rintro ⟨a, b, c⟩
      unfold clsE at a
      unfold clsV at c
      by_cases hmm : 0 ≤ m ∧ m ≤ 65532
      · rw [if_pos hmm] at c
        have := HM.out b hmm.2
        have := KE.out
        omega
      · rw [if_neg hmm] at a
        cases a
    have hk0 : k = 0 ∨ ∃ j, k = j + 1 := by cases k with
      | zero => exact .inl rfl
      | succ j => exact .inr ⟨j, rfl⟩
    have fin : k ≠ 0 → ∃ j : Nat, j < 6 ∧ wrap64 ((k : Int) - 1) = j ∧ len6 j < n + 4 := by
      intro h
      obtain ⟨j, rfl⟩ : ∃ j, k = j + 1 := hk0.resolve_left h
      have := K.out
      refine ⟨j, by omega, ?_, C2.out j KE.out.symm⟩
      rw [show ((j + 1 : Nat) : Int) - 1 = j by omega]
      unfold wrap64
      omega
    clear hk0
    have FIN := Lib.hid fin
    clear fin
    by_cases hk0 : k = 0
    · subst hk0
      by_cases e1 : clsE m = 0
      · by_cases e2 : n ≤ m
        · have e3 : ¬ clsV m < ((0 : Nat) : Int) := fun h => hlast ⟨e1, e2, h⟩
          clear hlast
          go_wp2
          go_ret
          exact ⟨rfl, B3.out⟩
        · clear hlast
          go_wp2
          go_ret
          exact ⟨rfl, B3.out⟩
      · clear hlast
        go_wp2
        go_ret
        exact ⟨rfl, B3.out⟩
    · obtain ⟨j, hj6, hwr, hle⟩ := FIN.out hk0
      have hk0' : ((k : Int) == 0) = false := by simp; omega
      have J6 := Lib.hid hj6
      have go : ∀ w0, Tab w0 → _ := fun w0 h => length_yes j w0 hj6 h
      have GO := Lib.hid go
      clear go hk0 hj6 FIN
      by_cases e1 : clsE m = 0
      · by_cases e2 : n ≤ m
        · have e3 : ¬ clsV m < (k : Int) := fun h => hlast ⟨e1, e2, h⟩
          clear hlast
          go_wp2_with fail
          refine (GO.out _ T3.out).mono ?_
          rintro e w' ⟨rfl, rfl⟩
          go_wp2
          go_ret
          exact ⟨rfl, B3.out⟩
        · clear hlast
          go_wp2_with fail
          refine (GO.out _ T3.out).mono ?_
          rintro e w' ⟨rfl, rfl⟩
          go_wp2
          go_ret
          exact ⟨rfl, B3.out⟩
      · clear hlast
        go_wp2_with fail
        refine (GO.out _ T3.out).mono ?_
        rintro e w' ⟨rfl, rfl⟩
        go_wp2
        go_ret
        exact ⟨rfl, B3.out⟩
  · have hcv : clsV n = 0 := if_neg hn
    have hce : clsE n = 280 := if_neg hn
    have hor : n < 0 ∨ 65532 < n := by omega
    clear hn
    go_enter Tryd.func6, Tryd.ntmps6
    go_wp2_with fail
    refine (sane_true _ T0.out).mono ?_
    rintro e W1 ⟨rfl, hB1⟩
    have B1 := Lib.hid hB1; have T1 := Lib.hid (T0.out.below hB1)
    clear hB1
    go_wp2_with fail
    refine (class_any n _ T1.out).mono ?_
    rw [hcv, hce]
    clear hcv hce
    rintro e W2 ⟨rfl, hB2⟩
    have B2 := Lib.hid (B1.out.trans (hB2.mono B1.out.size)); have T2 := Lib.hid (T1.out.below hB2)
    clear hB2 B1 T1
    go_wp2_with fail
    refine (class_any m _ T2.out).mono ?_
    rintro e W3 ⟨rfl, hB3⟩
    have B3 := Lib.hid (B2.out.trans (hB3.mono B2.out.size))
    clear hB3 B2 T2
    rcases hor with h | h
    · go_wp2
      go_ret
      exact ⟨rfl, B3.out⟩
    · have h0 : ¬ n < 0 := by omega
      go_wp2
      go_ret
      exact ⟨rfl, B3.out⟩
/-- What a walk is told of a slice of integers that came in. -/
def IsRow (k : IntKind) (w : World) (a : Option Addr) (len cap : Nat) (zs : List Int) : Prop :=
  (a = none ∧ len = 0 ∧ cap = 0 ∧ zs = []) ∨
  ∃ x, a = some x ∧ len ≤ cap ∧ cap ≤ maxLen ∧ zs.length = cap ∧ (∀ i, i < zs.length → w.cell? (x.add i) = some (.int k (zs.getD i 0))) ∧ ∀ n ∈ zs, (Lit.int k n).wf = true
theorem IsRow.bytes {w : World} {a : Option Addr} {len cap : Nat} {zs : List Int} (h : IsRow .u8 w a len cap zs) : Bytes w (.slice a len cap) len (fun j => zs.getD j 0) ∧ len ≤ 9223372036854775807 := by
  rcases h with ⟨rfl, rfl, rfl, rfl⟩ | ⟨⟨b, off, spot⟩, rfl, hl, hm, hz, hcell, hwz⟩
  · exact ⟨none_bytes _ _, by omega⟩
  · have h9 : len ≤ 9223372036854775807 := by have : cap ≤ 9223372036854775807 := hm; omega
    have hbyt : Byt len (fun j => zs.getD j 0) := fun j hj => by
      have hj' : j < zs.length := by omega
      have := hwz _ (List.getElem_mem hj')
      simp only [Lit.wf, Bool.and_eq_true, decide_eq_true_eq] at this
      have e : zs.getD j 0 = zs[j] := by simp [List.getD, hj']
      show 0 ≤ zs.getD j 0 ∧ zs.getD j 0 < 256
      rw [e]
      have h1 : (0 : Int) ≤ zs[j] := this.1
      have h2 : zs[j] ≤ (255 : Int) := this.2
      omega
    rcases Nat.eq_zero_or_pos len with h0 | h0
    · subst h0
      exact ⟨⟨.inr ⟨_, _, rfl, rfl, fun h => by cases h⟩, hbyt⟩, by omega⟩
    · have hc := hcell 0 (by omega)
      have hspot : spot = none := by simpa [Addr.add] using World.cell?_spot hc
      subst hspot
      have hx : ∀ j, j < len → w.cell? ⟨b, off + j, none⟩ = some (.int .u8 (zs.getD j 0)) := fun j hj => by
        have := hcell j (by omega)
        by_cases h : j = 0
        · subst h; simpa [Addr.add] using this
        · simpa [Addr.add, h] using this
      exact ⟨⟨.inl ⟨b, off, cap, rfl, hx, fun h => cell_in (hx 0 h), hl⟩, hbyt⟩, h9⟩
theorem wf_bd {n : Int} (h : (Lit.int .i64 n).wf = true) : n ≤ 9223372036854775807 := by
  simp only [Lit.wf, Bool.and_eq_true, decide_eq_true_eq] at h
  exact h.2
theorem spec_row (n size : Int) (w : World) (ht : Tab w) (hn : (Lit.int .i64 n).wf = true) (_ : (Lit.int .i64 size).wf = true) :
    Calls Tryd.prog 3 #[.int .i64 n, .int .i64 size] w fun e w' => e = .returned (.bool true) ∧ Below w.heap.size w w' :=
  spec_walk n size w ht (wf_bd hn)
theorem least_row (n m : Int) (w : World) (ht : Tab w) (_ : (Lit.int .i64 n).wf = true) (_ : (Lit.int .i64 m).wf = true) :
    Calls Tryd.prog 6 #[.int .i64 n, .int .i64 m] w fun e w' => e = .returned (.bool true) ∧ Below w.heap.size w w' := least_walk n m w ht
end Go.Proofs.YtofgnncodnfapaaDoor
