/- The walk of PaddingBack. -/
import Derived.Test.YtofgnncodnfapaaDoorLaw2
namespace Go.Proofs.YtofgnncodnfapaaDoor
open Go Go.RowKit

set_option maxHeartbeats 4000000 in
set_option maxRecDepth 100000 in
theorem back_walk (a : Option Addr) (n c : Nat) (z : Nat → Int) (q : Nat) (w : World) (ht : Tab w) (hb : Bytes w (.slice a n c) n z) (hn9 : n ≤ 9223372036854775807) (hq : q < 65536) :
    Calls Tryd.prog 5 #[.slice a n c, .int .u16 q] w fun e w' => e = .returned (.bool true) ∧ Below w.heap.size w w' := by
  have T0 := Lib.hid ht; have H0 := Lib.hid hb; clear ht hb
  go_enter Tryd.func5, Tryd.ntmps5
  go_wp2_with fail
  refine (sane_true _ T0.out).mono ?_
  rintro e W1 ⟨rfl, hB1⟩
  have B1 := Lib.hid hB1; have T1 := Lib.hid (T0.out.below hB1); have H1 := Lib.hid (H0.out.below hB1)
  clear hB1 T0 H0
  by_cases hbig : 70000 < n
  · have hbig' : (70000 : Int) < n := by omega
    go_wp2
    go_ret
    exact ⟨rfl, B1.out⟩
  have hsm : n ≤ 70000 := by omega
  have hsm' : ¬ (70000 : Int) < n := by omega
  obtain ⟨k, hk⟩ : ∃ k, k = q % 3000 := ⟨_, rfl⟩
  have hk9 : k ≤ 1000000 := by omega
  have HK := Lib.hid hk; have HQ := Lib.hid hq
  clear hk hq hbig
  by_cases hfit : n ≤ 65532
  · go_wp2_with fail
    refine (pad_yes a n c z _ H1.out hfit T1.out).mono ?_
    rintro e W2 ⟨g2, rfl, hO2, _, hB2⟩
    have O2 := Lib.hid hO2; have H2 := Lib.hid (H1.out.below hB2); have T2 := Lib.hid (T1.out.below hB2); have B2 := Lib.hid (B1.out.trans (hB2.mono B1.out.size))
    clear hO2 hB2 H1 T1 B1
    have hPn := padded_pad n z hfit
    have PN := Lib.hid (up_yes hPn)
    have hPB := O2.out.bytes (padz_byt H2.out.byt _) (lenc n) (Nat.le_refl _)
    have hUP := unpad_u _ _ _ _ T2.out hPB
    rw [PN.out.1, PN.out.2] at hUP
    have UP := Lib.hid hUP
    clear hPn hPB hUP PN
    go_wp2_with fail
    refine UP.out.mono ?_
    rintro e W3 ⟨a3, c3, rfl, hU3, hB3⟩
    clear UP
    have U3 := hU3.congr (z' := z) fun j hj => padz_list n z j hj
    have h1 := str_run U3
    have h2 := str_run (H2.out.below hB3)
    have H3 := Lib.hid (H2.out.below hB3); have T3 := Lib.hid (T2.out.below hB3); have B3 := Lib.hid (B2.out.trans (hB3.mono B2.out.size))
    clear hU3 U3 hB3 H2 T2 B2 O2
    generalize str n z = S at h1 h2
    go_upto_region 10 with fail
    clear h1 h2
    have S3 := Lib.hid (H3.out.below (box_below W3 (.cells #[] 5)))
    have N3 : Hid (Mine W3.heap.size (W3.alloc (.cells #[] 5)) (.slice (some ⟨W3.heap.size, 0, none⟩) 0 0) 0 z) := Lib.hid (Mine.made (B := W3.heap.size) W3 0 z (Nat.le_refl _) (by omega))
    have A3 := Lib.hid (box_below W3 (.cells #[] 5))
    have e1 : wrap64 (q : Int) = q := by unfold wrap64; have := HQ.out; omega
    have e2 : (q : Int).tmod 3000 = (k : Int) := by rw [Int.tmod_eq_emod_of_nonneg (by omega)]; have := HK.out; omega
    go_wp2_with (first | (at_builtin; refine wp_app W3 rfl _ _ rfl _ 0 z rfl N3.out A3.out _ n z rfl S3.out (by omega) (by omega) ?_; intro v4 W4 hM4 hB4
                          obtain ⟨a4, c4, rfl⟩ := hM4.copied.any
                          have M4 := Lib.hid hM4.copied; have B4 := Lib.hid hB4
                          clear hM4 hB4) |
      (at_builtin; refine wp_zeros W3 rfl _ _ rfl _ n z rfl M4.out B4.out _ k rfl rfl (by omega) hk9 ?_; intro v5 W5 hM5 hB5
       obtain ⟨a5, c5, rfl⟩ := hM5.any
       have M5 := Lib.hid hM5; have B5 := Lib.hid hB5
       clear hM5 hB5 M4 B4) | fail)
    have Y5 := Lib.hid (M5.out.bytes (cat_byt H3.out.byt fun _ _ => ⟨Int.le_refl _, (by decide : (0 : Int) < 256)⟩))
    obtain ⟨N, hN⟩ : ∃ N, N = n + k := ⟨_, rfl⟩
    rw [← hN] at Y5 ⊢
    generalize cat n z (fun _ => 0) = y at Y5
    have T5 := Lib.hid (T3.out.below B5.out); have E5 := Lib.hid (B3.out.trans (B5.out.mono B3.out.size))
    clear hN M5 B5 T3 H3 S3 N3 A3 e1 e2 B3 HK HQ
    refine (unpad_any _ N y _ T5.out Y5.out).mono ?_
    rintro e W6 (⟨m, hm, u, rfl, hU, hB6⟩ | ⟨_, rfl, hB6⟩)
    · obtain ⟨a6, c6, rfl⟩ := hU.form
      have U6 := Lib.hid hU; have Y6 := Lib.hid (Y5.out.below hB6); have T6 := Lib.hid (T5.out.below hB6); have E6 := Lib.hid (E5.out.trans (hB6.mono E5.out.size))
      have HM := Lib.hid hm
      clear hU Y5 T5 E5 hB6 hm
      go_wp2_with fail
      refine (pad_yes a6 m c6 _ _ U6.out HM.out.1 T6.out).mono ?_
      rintro e W7 ⟨g7, rfl, hO7, _, hB7⟩
      rw [HM.out.2.1] at hO7 ⊢
      have hO7' : Owned W7 g7 N y := hO7.congr fun j hj => (HM.out.2.2 j hj).symm
      have h1 := str_run (hO7'.bytes Y6.out.byt N (Nat.le_refl _))
      have h2 := str_run (Y6.out.below hB7)
      have E7 := Lib.hid (E6.out.trans (hB7.mono E6.out.size))
      clear hO7 hO7' hB7 U6 Y6 T6 E6 HM
      generalize str N y = S at h1 h2
      go_wp2
      go_ret
      exact ⟨rfl, E7.out⟩
    · have E6 := Lib.hid (E5.out.trans (hB6.mono E5.out.size))
      clear hB6 E5 T5 Y5
      go_wp2
      go_ret
      exact ⟨rfl, E6.out⟩
  · have hfit' : 65532 < n := by omega
    go_wp2_with fail
    refine (pad_no a n c _ hfit' hn9 T1.out).mono ?_
    rintro e W3 ⟨rfl, hB3⟩
    have H3 := Lib.hid (H1.out.below hB3); have T3 := Lib.hid (T1.out.below hB3); have B3 := Lib.hid (B1.out.trans (hB3.mono B1.out.size))
    clear hB3 H1 T1 B1
    go_upto_region 10 with fail
    have S3 := Lib.hid (H3.out.below (box_below W3 (.cells #[] 5)))
    have N3 : Hid (Mine W3.heap.size (W3.alloc (.cells #[] 5)) (.slice (some ⟨W3.heap.size, 0, none⟩) 0 0) 0 z) := Lib.hid (Mine.made (B := W3.heap.size) W3 0 z (Nat.le_refl _) (by omega))
    have A3 := Lib.hid (box_below W3 (.cells #[] 5))
    have e1 : wrap64 (q : Int) = q := by unfold wrap64; have := HQ.out; omega
    have e2 : (q : Int).tmod 3000 = (k : Int) := by rw [Int.tmod_eq_emod_of_nonneg (by omega)]; have := HK.out; omega
    go_wp2_with (first | (at_builtin; refine wp_app W3 rfl _ _ rfl _ 0 z rfl N3.out A3.out _ n z rfl S3.out (by omega) (by omega) ?_; intro v4 W4 hM4 hB4
                          obtain ⟨a4, c4, rfl⟩ := hM4.copied.any
                          have M4 := Lib.hid hM4.copied; have B4 := Lib.hid hB4
                          clear hM4 hB4) |
      (at_builtin; refine wp_zeros W3 rfl _ _ rfl _ n z rfl M4.out B4.out _ k rfl rfl (by omega) hk9 ?_; intro v5 W5 hM5 hB5
       obtain ⟨a5, c5, rfl⟩ := hM5.any
       have M5 := Lib.hid hM5; have B5 := Lib.hid hB5
       clear hM5 hB5 M4 B4) | fail)
    have Y5 := Lib.hid (M5.out.bytes (cat_byt H3.out.byt fun _ _ => ⟨Int.le_refl _, (by decide : (0 : Int) < 256)⟩))
    obtain ⟨N, hN⟩ : ∃ N, N = n + k := ⟨_, rfl⟩
    rw [← hN] at Y5 ⊢
    generalize cat n z (fun _ => 0) = y at Y5
    have T5 := Lib.hid (T3.out.below B5.out); have E5 := Lib.hid (B3.out.trans (B5.out.mono B3.out.size))
    clear hN M5 B5 T3 H3 S3 N3 A3 e1 e2 B3 HK HQ
    refine (unpad_any _ N y _ T5.out Y5.out).mono ?_
    rintro e W6 (⟨m, hm, u, rfl, hU, hB6⟩ | ⟨_, rfl, hB6⟩)
    · obtain ⟨a6, c6, rfl⟩ := hU.form
      have U6 := Lib.hid hU; have Y6 := Lib.hid (Y5.out.below hB6); have T6 := Lib.hid (T5.out.below hB6); have E6 := Lib.hid (E5.out.trans (hB6.mono E5.out.size))
      have HM := Lib.hid hm
      clear hU Y5 T5 E5 hB6 hm
      go_wp2_with fail
      refine (pad_yes a6 m c6 _ _ U6.out HM.out.1 T6.out).mono ?_
      rintro e W7 ⟨g7, rfl, hO7, _, hB7⟩
      rw [HM.out.2.1] at hO7 ⊢
      have hO7' : Owned W7 g7 N y := hO7.congr fun j hj => (HM.out.2.2 j hj).symm
      have h1 := str_run (hO7'.bytes Y6.out.byt N (Nat.le_refl _))
      have h2 := str_run (Y6.out.below hB7)
      have E7 := Lib.hid (E6.out.trans (hB7.mono E6.out.size))
      clear hO7 hO7' hB7 U6 Y6 T6 E6 HM
      generalize str N y = S at h1 h2
      go_wp2
      go_ret
      exact ⟨rfl, E7.out⟩
    · have E6 := Lib.hid (E5.out.trans (hB6.mono E5.out.size))
      clear hB6 E5 T5 Y5
      go_wp2
      go_ret
      exact ⟨rfl, E6.out⟩
theorem back_row (a : Option Addr) (n c : Nat) (zs : List Int) (q : Int) (w : World) (ht : Tab w) (h : IsRow .u8 w a n c zs) (hq : (Lit.int .u16 q).wf = true) :
    Calls Tryd.prog 5 #[.slice a n c, .int .u16 q] w fun e w' => e = .returned (.bool true) ∧ Below w.heap.size w w' := by
  obtain ⟨k, rfl, hk⟩ := q_nat hq
  exact back_walk a n c _ k w ht h.bytes.1 h.bytes.2 hk
end Go.Proofs.YtofgnncodnfapaaDoor
