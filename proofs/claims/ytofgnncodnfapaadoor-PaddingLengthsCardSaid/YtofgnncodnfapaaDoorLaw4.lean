/- The walk of PaddingLengths. -/
import Derived.Test.YtofgnncodnfapaaDoorLaw2
namespace Go.Proofs.YtofgnncodnfapaaDoor
open Go Go.RowKit

theorem pad_u (a : Option Addr) (n c : Nat) (z : Nat → Int) (w : World) (hb : Bytes w (.slice a n c) n z) (h9 : n ≤ 9223372036854775807) (ht : Tab w) :
    Calls Tryd.prog 15 #[.slice a n c] w fun e w' => ∃ a' L c', e = .returned (.tuple #[.slice a' L c', .int .i64 (clsE n)]) ∧ (n ≤ 65532 → L = lenc n) ∧ Below w.heap.size w w' := by
  unfold clsE
  by_cases h : n ≤ 65532
  · rw [if_pos ⟨by omega, by omega⟩]
    refine (pad_yes a n c z w hb h ht).mono ?_
    rintro e w' ⟨g, rfl, _, _, hB⟩
    exact ⟨_, _, _, rfl, fun _ => rfl, hB⟩
  · rw [if_neg (by omega)]
    refine (pad_no a n c w (by omega) h9 ht).mono ?_
    rintro e w' ⟨rfl, hB⟩
    exact ⟨_, _, _, rfl, fun h' => absurd h' h, hB⟩
theorem clsE_yes (n : Nat) (h : n ≤ 65532) : clsE n = 0 ∧ clsV n = cls n := ⟨if_pos ⟨by omega, by omega⟩, if_pos ⟨by omega, by omega⟩⟩
theorem clsE_no (n : Nat) (h : 65532 < n) : clsE n = 280 := if_neg (by omega)
theorem lenc_iff (n m : Nat) : lenc n = lenc m ↔ cls n = cls m := by
  have a := lenc_eq n; have b := lenc_eq m
  refine ⟨fun h => len6_inj (cls_lt n) (cls_lt m) (by rw [← a, ← b, h]), fun h => ?_⟩
  rw [h] at a
  omega

set_option maxHeartbeats 4000000 in
set_option maxRecDepth 100000 in
theorem lengths_walk (a : Option Addr) (n c : Nat) (z : Nat → Int) (a2 : Option Addr) (m d : Nat) (y : Nat → Int) (w : World) (ht : Tab w) (hb : Bytes w (.slice a n c) n z) (hn9 : n ≤ 9223372036854775807) (hb2 : Bytes w (.slice a2 m d) m y) (hm9 : m ≤ 9223372036854775807) :
    Calls Tryd.prog 7 #[.slice a n c, .slice a2 m d] w fun e w' => e = .returned (.bool true) ∧ Below w.heap.size w w' := by
  have T0 := Lib.hid ht; have H0 := Lib.hid hb; have J0 := Lib.hid hb2; clear ht hb hb2
  have HN9 := Lib.hid hn9; have HM9 := Lib.hid hm9; clear hn9 hm9
  go_enter Tryd.func7, Tryd.ntmps7
  go_wp2_with fail
  refine (sane_true _ T0.out).mono ?_
  rintro e W1 ⟨rfl, hB1⟩
  have B1 := Lib.hid hB1; have T1 := Lib.hid (T0.out.below hB1); have H1 := Lib.hid (H0.out.below hB1); have J1 := Lib.hid (J0.out.below hB1)
  clear hB1 T0 H0 J0
  by_cases hbig : 70000 < n
  · have hbig' : (70000 : Int) < n := by omega
    go_wp2
    go_ret
    exact ⟨rfl, B1.out⟩
  have hsm' : ¬ (70000 : Int) < n := by omega
  clear hbig
  by_cases hbig : 70000 < m
  · have hbig' : (70000 : Int) < m := by omega
    go_wp2
    go_ret
    exact ⟨rfl, B1.out⟩
  have hsm2 : ¬ (70000 : Int) < m := by omega
  clear hbig
  go_wp2_with fail
  refine (pad_u a n c z _ H1.out HN9.out T1.out).mono ?_
  rintro e W2 ⟨x2, L2, y2, rfl, hL2, hB2⟩
  have HL2 := Lib.hid hL2; have T2 := Lib.hid (T1.out.below hB2); have J2 := Lib.hid (J1.out.below hB2); have B2 := Lib.hid (B1.out.trans (hB2.mono B1.out.size))
  clear hL2 hB2 T1 J1 B1 H1
  go_wp2_with fail
  refine (pad_u a2 m d y _ J2.out HM9.out T2.out).mono ?_
  rintro e W3 ⟨x3, L3, y3, rfl, hL3, hB3⟩
  have HL3 := Lib.hid hL3; have T3 := Lib.hid (T2.out.below hB3); have B3 := Lib.hid (B2.out.trans (hB3.mono B2.out.size))
  clear hL3 hB3 T2 J2 B2
  go_wp2_with fail
  refine (class_any n _ T3.out).mono ?_
  rintro e W4 ⟨rfl, hB4⟩
  have T4 := Lib.hid (T3.out.below hB4); have B4 := Lib.hid (B3.out.trans (hB4.mono B3.out.size))
  clear hB4 T3 B3
  go_wp2_with fail
  refine (class_any m _ T4.out).mono ?_
  rintro e W5 ⟨rfl, hB5⟩
  have T5 := Lib.hid (T4.out.below hB5); have B5 := Lib.hid (B4.out.trans (hB5.mono B4.out.size))
  clear hB5 T4 B4
  by_cases hn : n ≤ 65532
  · by_cases hm : m ≤ 65532
    · rw [(clsE_yes n hn).1, (clsE_yes m hm).1, (clsE_yes n hn).2, (clsE_yes m hm).2]
      obtain rfl := HL2.out hn
      obtain rfl := HL3.out hm
      have HI := Lib.hid (lenc_iff n m)
      have hLY := fun w0 (h : Tab w0) => length_yes (cls n) w0 (cls_lt n) h
      rw [← lenc_eq] at hLY
      have LY := Lib.hid hLY
      clear HL2 HL3 hLY
      generalize lenc n = P at *
      generalize lenc m = Q at *
      generalize cls n = i at *
      generalize cls m = j at *
      go_wp2_with fail
      refine (LY.out _ T5.out).mono ?_
      rintro e w' ⟨rfl, rfl⟩
      by_cases hij : i = j
      · have hPQ := HI.out.2 hij
        subst hij hPQ
        clear HI
        go_wp2
        go_ret
        exact ⟨rfl, B5.out⟩
      · have hPQ : ¬ P = Q := fun h => hij (HI.out.1 h)
        have f1 : ((i : Int) == j) = false := by simp; omega
        have f2 : ((P : Int) == Q) = false := by simp; omega
        clear HI hij hPQ
        go_wp2
        go_ret
        exact ⟨rfl, B5.out⟩
    · have hm' : (65532 : Int) < m := by omega
      rw [clsE_no m (by omega), (clsE_yes n hn).1]
      have hn' : ¬ (65532 : Int) < n := by omega
      clear hm hn HL2 HL3
      generalize clsV n = i at *
      generalize clsV m = j at *
      go_wp2
      go_ret
      exact ⟨rfl, B5.out⟩
  · have hn' : (65532 : Int) < n := by omega
    rw [clsE_no n (by omega)]
    clear hn HL2 HL3
    generalize clsV n = i at *
    generalize clsV m = j at *
    generalize clsE m = k at *
    go_wp2
    go_ret
    exact ⟨rfl, B5.out⟩
theorem lengths_row (a : Option Addr) (n c : Nat) (zs : List Int) (a2 : Option Addr) (m d : Nat) (ys : List Int) (w : World) (ht : Tab w) (h : IsRow .u8 w a n c zs) (h2 : IsRow .u8 w a2 m d ys) :
    Calls Tryd.prog 7 #[.slice a n c, .slice a2 m d] w fun e w' => e = .returned (.bool true) ∧ Below w.heap.size w w' :=
  lengths_walk a n c _ a2 m d _ w ht h.bytes.1 h.bytes.2 h2.bytes.1 h2.bytes.2
end Go.Proofs.YtofgnncodnfapaaDoor
