/- The contract of sane of the laws of padding: it is true. -/
import Derived.Test.YtofgnncodnfapaaDoorOwn
import Derived.Deep.DeepCutAuto
import Derived.Deep.DrawnRows
namespace Go.Proofs.YtofgnncodnfapaaDoor
open Go Go.RowKit
attribute [local go_sem ↓] Go.wp_at_zero Go.wp_at_succ

theorem seven (W : World) : Bytes (W.alloc (.cells #[.int .u8 7] 5)) (.slice (some ⟨W.heap.size, 0, none⟩) 1 1) 1 (fun _ => 7) :=
  (owned_made W 1 fun _ => 7).bytes (fun j _ => ⟨(by decide : (0 : Int) ≤ 7), (by decide : (7 : Int) < 256)⟩) 1 (Nat.le_refl _)
theorem five (W : World) : W.alloc (.cells #[.int .u8 0, .int .u8 0, .int .u8 0, .int .u8 1, .int .u8 7] 5) = W.alloc (.cells (rowL 5 ex1).toArray 5) := rfl
theorem none_bytes (W : World) (z : Nat → Int) : Bytes W (.slice none 0 0) 0 z := ⟨.inr ⟨_, _, rfl, rfl, fun _ => rfl⟩, fun j hj => by omega⟩

def pairs : Array Value := #[.int .i64 0, .int .i64 0, .int .i64 60, .int .i64 0, .int .i64 61, .int .i64 1, .int .i64 252, .int .i64 1, .int .i64 253, .int .i64 2, .int .i64 65532, .int .i64 5]
def pA (i : Nat) : Int := if i = 0 then 0 else if i = 1 then 60 else if i = 2 then 61 else if i = 3 then 252 else if i = 4 then 253 else 65532
def pB (i : Nat) : Int := if i = 0 then 0 else if i = 1 then 0 else if i = 2 then 1 else if i = 3 then 1 else if i = 4 then 2 else 5
theorem pA_bd (i : Nat) : 0 ≤ pA i ∧ pA i ≤ 65532 := by
  unfold pA
  repeat' (first | omega | split)
theorem pB_cls (i : Nat) (h : i < 6) : (cls (pA i) : Int) = pB i := by
  have : i = 0 ∨ i = 1 ∨ i = 2 ∨ i = 3 ∨ i = 4 ∨ i = 5 := by omega
  rcases this with rfl | rfl | rfl | rfl | rfl | rfl <;> rfl
theorem pairs_cells (W W' : World) (h : Below (W.alloc (.cells pairs 36)).heap.size (W.alloc (.cells pairs 36)) W') (i : Nat) (hi : i < 6) :
    W'.cell? ⟨W.heap.size, i * 2, none⟩ = some (.int .i64 (pA i)) ∧ W'.cell? ⟨W.heap.size, i * 2 + 1, none⟩ = some (.int .i64 (pB i)) := by
  have hs : W.heap.size < (W.alloc (.cells pairs 36)).heap.size := by simp
  have hb : (W.alloc (.cells pairs 36)).heap[W.heap.size]? = some (.cells pairs 36 (0, 0)) := heap_alloc_new W _
  have : i = 0 ∨ i = 1 ∨ i = 2 ∨ i = 3 ∨ i = 4 ∨ i = 5 := by omega
  refine ⟨(h.cell (p := ⟨W.heap.size, i * 2, none⟩) hs).trans ?_, (h.cell (p := ⟨W.heap.size, i * 2 + 1, none⟩) hs).trans ?_⟩
  · simp only [World.cell?, hb]
    rcases this with rfl | rfl | rfl | rfl | rfl | rfl <;> rfl
  · simp only [World.cell?, hb]
    rcases this with rfl | rfl | rfl | rfl | rfl | rfl <;> rfl

set_option maxHeartbeats 2000000 in
set_option maxRecDepth 100000 in
theorem sane_true (w : World) (ht : Tab w) : Calls Tryd.prog 10 #[] w fun e w' => e = .returned (.bool true) ∧ Below w.heap.size w w' := by
  have T0 := Lib.hid ht; clear ht
  go_enter Tryd.func10, Tryd.ntmps10
  have P1 := Lib.hid (pad_yes _ 1 1 _ _ (seven w) (by omega) (T0.out.alloc _))
  have B0 := Lib.hid (box_below w (.cells #[.int .u8 7] 5))
  go_wp2_with fail
  refine P1.out.mono ?_
  rintro e W1 ⟨g1, rfl, hO1, hg1, hB1⟩
  clear P1
  rw [lenc1] at hO1 ⊢
  have B1 := Lib.hid (B0.out.trans (hB1.mono B0.out.size))
  have O1 := Lib.hid hO1; have T1 := Lib.hid (T0.out.below B1.out)
  clear B0 hO1 hB1
  have M2 : Hid (Mine W1.heap.size (W1.alloc (.cells #[.int .u8 0, .int .u8 0, .int .u8 0, .int .u8 1, .int .u8 7] 5)) (.slice (some ⟨W1.heap.size, 0, none⟩) 5 5) 5 ex1) := Lib.hid (Mine.made (B := W1.heap.size) W1 5 ex1 (Nat.le_refl _) (by omega))
  have B2 := Lib.hid (box_below W1 (.cells #[.int .u8 0, .int .u8 0, .int .u8 0, .int .u8 1, .int .u8 7] 5))
  go_wp2_with (first | (at_builtin; refine wp_zeros W1 rfl _ _ rfl _ 5 ex1 rfl M2.out B2.out _ 59 rfl rfl (by omega) (by omega) ?_; intro v3 W3 hM3 hB3) | fail)
  have hM3 : Mine W1.heap.size W3 v3 64 ex1 := hM3.congr (f' := ex1) fun j _ => by
    unfold cat
    by_cases h : j < 5
    · rw [if_pos h]
    · rw [if_neg h]; exact (padz_tail 1 _ j (by omega)).symm
  obtain ⟨g3, c3, rfl⟩ := hM3.slice (by omega)
  clear M2 B2
  have M3 := Lib.hid hM3
  have B3 := Lib.hid (B1.out.trans (hB3.mono B1.out.size)); have T3 := Lib.hid (T1.out.below hB3); have O3 := Lib.hid (O1.out.below hB3)
  clear hM3 hB3 O1 T1 B1
  have P3 := Lib.hid (pad_yes _ 0 0 _ _ (none_bytes W3 fun _ => 0) (by omega) T3.out)
  go_wp2_with fail
  refine P3.out.mono ?_
  rintro e W4 ⟨g4, rfl, hO4, hg4, hB4⟩
  clear P3
  rw [lenc0] at hO4 ⊢
  have X4 := Lib.hid hO4
  have M4 := Lib.hid (M3.out.below hB4)
  have B4 := Lib.hid (B3.out.trans (hB4.mono B3.out.size)); have T4 := Lib.hid (T3.out.below hB4); have O4 := Lib.hid (O3.out.below hB4)
  clear hO4 hB4 O3 T3 B3 M3
  have S4 := Lib.hid ((M4.out.bytes (ex1_byt 64)).below (box_below W4 (.cells #[] 5)))
  have M5 : Hid (Mine W4.heap.size (W4.alloc (.cells #[] 5)) (.slice (some ⟨W4.heap.size, 0, none⟩) 0 0) 0 ex1) := Lib.hid (Mine.made (B := W4.heap.size) W4 0 ex1 (Nat.le_refl _) (by omega))
  have B5 := Lib.hid (box_below W4 (.cells #[] 5))
  go_wp2_with (first | (at_builtin; refine wp_app W4 rfl _ _ rfl _ 0 ex1 rfl M5.out B5.out _ 64 ex1 rfl S4.out (by omega) (by omega) ?_; intro v6 W6 hM6 hB6
                        have hM6 : Mine W4.heap.size W6 v6 64 ex1 := hM6.congr (f' := ex1) fun j _ => congrArg ex1 (Nat.sub_zero j)
                        obtain ⟨g6, c6, rfl⟩ := hM6.slice (by omega)
                        have hf6 := hM6.free 63
                        have hc6 := hM6.cell 63 (by omega)
                        obtain ⟨hg6, hc6'⟩ := hM6.old
                        have M7 := Lib.hid (hM6.set 63 (by omega) 1)
                        have B7 := Lib.hid (below_set hB6 ⟨g6, 63, none⟩ (.int .u8 1) hg6)
                        clear hM6 hB6 hg6) | fail)
  clear S4 M5 B5
  generalize W6.setCell ⟨g6, 63, none⟩ (.int .u8 1) = W7 at *
  have B7' := Lib.hid (B4.out.trans (B7.out.mono B4.out.size)); have T7 := Lib.hid (T4.out.below B7.out); have O7 := Lib.hid (O4.out.below B7.out); have X7 := Lib.hid (X4.out.below B7.out); have M7' := Lib.hid (M4.out.below B7.out)
  clear B4 T4 O4 X4 M4 B7 hf6 hc6 hM3 hM6 hg1 hg4
  refine (unpad_any _ 64 _ W7 T7.out (M7.out.bytes (upd_byt (ex1_byt 64) 63 1 (by omega)))).mono ?_
  rintro e W8 (⟨m, hm, _⟩ | ⟨_, rfl, hB8⟩)
  · exact (no_odd m hm).elim
  have B8 := Lib.hid (B7'.out.trans (hB8.mono B7'.out.size)); have T8 := Lib.hid (T7.out.below hB8); have O8 := Lib.hid (O7.out.below hB8); have X8 := Lib.hid (X7.out.below hB8); have M8 := Lib.hid (M7'.out.below hB8)
  clear B7' T7 O7 X7 M7' hB8 M7
  have S8 := Lib.hid ((M8.out.bytes (ex1_byt 64)).below (box_below W8 (.cells #[] 5)))
  have N8 : Hid (Mine W8.heap.size (W8.alloc (.cells #[] 5)) (.slice (some ⟨W8.heap.size, 0, none⟩) 0 0) 0 ex1) := Lib.hid (Mine.made (B := W8.heap.size) W8 0 ex1 (Nat.le_refl _) (by omega))
  have A8 := Lib.hid (box_below W8 (.cells #[] 5))
  go_wp2_with (first | (at_builtin; refine wp_app W8 rfl _ _ rfl _ 0 ex1 rfl N8.out A8.out _ 64 ex1 rfl S8.out (by omega) (by omega) ?_; intro v9 W9 hM9 hB9
                        obtain ⟨g9, c9, rfl⟩ := hM9.slice (by omega)
                        have M9 := Lib.hid hM9; have B9 := Lib.hid hB9
                        clear hM9 hB9) |
    (at_builtin; refine wp_zeros W8 rfl _ _ rfl _ (0 + 64) (cat 0 ex1 ex1) rfl M9.out B9.out _ 192 rfl rfl (by omega) (by omega) ?_; intro v10 W10 hM10 hB10
     obtain ⟨g10, c10, rfl⟩ := hM10.slice (by omega)
     have M10 := Lib.hid hM10; have B10 := Lib.hid hB10
     clear hM10 hB10 M9 B9) | fail)
  have M10' : Mine W8.heap.size W10 (.slice (some ⟨g10, 0, none⟩) 256 c10) 256 (cat 64 ex1 fun _ => 0) := M10.out.congr fun j _ => by
    show cat 64 (cat 0 ex1 ex1) _ j = _
    unfold cat
    by_cases h : j < 64
    · rw [if_pos h, if_pos h, if_neg (by omega), Nat.sub_zero]
    · rw [if_neg h, if_neg h]
  have Y10 := Lib.hid (M10'.bytes (cat_byt (n := 64) (m := 192) (ex1_byt 64) fun _ _ => by omega))
  have B10' := Lib.hid (B8.out.trans (B10.out.mono B8.out.size)); have T10 := Lib.hid (T8.out.below B10.out); have O10 := Lib.hid (O8.out.below B10.out); have X10 := Lib.hid (X8.out.below B10.out); have M11 := Lib.hid (M8.out.below B10.out)
  clear B8 T8 O8 X8 M8 B10 M10 M10' S8 N8 A8
  refine (unpad_any _ 256 _ W10 T10.out Y10.out).mono ?_
  rintro e W11 (⟨m, hm, _⟩ | ⟨_, rfl, hB11⟩)
  · exact (no_long m hm).elim
  have B11 := Lib.hid (B10'.out.trans (hB11.mono B10'.out.size)); have T11 := Lib.hid (T10.out.below hB11); have O11 := Lib.hid (O10.out.below hB11); have X11 := Lib.hid (X10.out.below hB11); have M12 := Lib.hid (M11.out.below hB11)
  clear B10' T10 O10 X10 M11 hB11 Y10
  go_wp2_with fail
  refine (unpad_any _ 0 (fun _ => 0) W11 T11.out (none_bytes W11 _)).mono ?_
  rintro e W12 (⟨m, hm, _⟩ | ⟨_, rfl, hB12⟩)
  · exact (no_empty _ m hm).elim
  have B12 := Lib.hid (B11.out.trans (hB12.mono B11.out.size)); have T12 := Lib.hid (T11.out.below hB12); have O12 := Lib.hid (O11.out.below hB12); have X12 := Lib.hid (X11.out.below hB12); have M13 := Lib.hid (M12.out.below hB12)
  clear B11 T11 O11 X11 M12 hB12
  go_wp2_with fail
  refine (unpad_any _ 64 ex1 W12 T12.out (M13.out.bytes (ex1_byt 64))).mono ?_
  rintro e W13 (⟨m, hm, u, rfl, hU, hB13⟩ | ⟨hno, _⟩)
  case inr => exact (hno 1 ex1_padded).elim
  obtain rfl : m = 1 := padded_unique hm ex1_padded
  have U13 := Lib.hid (hU.congr (z' := fun _ => 7) fun j hj => by obtain rfl : j = 0 := by omega
                                                                  rfl)
  have B13 := Lib.hid (B12.out.trans (hB13.mono B12.out.size)); have T13 := Lib.hid (T12.out.below hB13); have O13 := Lib.hid (O12.out.below hB13); have X13 := Lib.hid (X12.out.below hB13); have M14 := Lib.hid (M13.out.below hB13)
  clear B12 T12 O12 X12 M13 hB13 hU hm
  go_upto_region 10 with fail
  go_wp2
  go_loopw [73] (fun c wr => ∃ i : Nat, i ≤ 6 ∧ c = .int .i64 i ∧ Below (W13.alloc (.cells pairs 36)).heap.size (W13.alloc (.cells pairs 36)) wr) (fun c _ => 6 - (intOf c).toNat)
  case atStart => exact ⟨0, by omega, rfl, Below.refl _ _⟩
  case round =>
    obtain ⟨i, hi, rfl, hB⟩ := hrel
    obtain ⟨wo, rfl⟩ : ∃ wo : World, wo = wr := ⟨_, rfl⟩
    have HB := Lib.hid hB; clear hB
    by_cases hlt : i < 6
    · have hlt' : (i : Int) < 6 := by omega
      obtain ⟨hc0, hc1⟩ := pairs_cells W13 wo HB.out i hlt
      have T14 := Lib.hid ((((T13.out.alloc (.cells pairs 36)).below HB.out).alloc (.cells #[.int .i64 (pA i), .int .i64 (pB i)] 36)))
      have HB14 := Lib.hid (HB.out.alloc HB.out.size (.cells #[.int .i64 (pA i), .int .i64 (pB i)] 36))
      have C14 : Hid ((wo.alloc (.cells #[.int .i64 (pA i), .int .i64 (pB i)] 36)).cell? ⟨wo.heap.size, 1, none⟩ = some (.int .i64 (pB i))) := Lib.hid (by simp)
      have L14 : wo.heap.size < (wo.alloc (.cells #[.int .i64 (pA i), .int .i64 (pB i)] 36)).heap.size := by simp
      obtain ⟨a0, a1⟩ := pA_bd i
      have HC := Lib.hid (class_yes (pA i) _ a0 a1 T14.out)
      rw [pB_cls i hlt] at HC
      go_wp2_with fail
      refine HC.out.mono ?_
      rintro e W15 ⟨rfl, hB15⟩
      have c15 := (hB15.cell (p := ⟨wo.heap.size, 1, none⟩) L14).trans C14.out
      have HB15 := Lib.hid (HB14.out.trans (hB15.mono HB14.out.size))
      clear HC hc0 hc1 hB15 HB14 T14 C14 L14 a0 a1
      go_wp2
      go_roundw
      case rel => exact ⟨i + 1, by omega, by go_num, HB15.out⟩
      case measure => simp [intOf]; omega
    · obtain rfl : i = 6 := by omega
      have E1 := Lib.hid ((box_below W13 (.cells pairs 36)).trans (HB.out.mono (box_below W13 (.cells pairs 36)).size))
      have B16 := Lib.hid (B13.out.trans (E1.out.mono B13.out.size)); have T16 := Lib.hid (T13.out.below E1.out); have O16 := Lib.hid (O13.out.below E1.out); have X16 := Lib.hid (X13.out.below E1.out); have M16 := Lib.hid (M14.out.below E1.out); have U16 := Lib.hid (U13.out.below E1.out)
      clear B13 T13 O13 X13 M14 U13 E1 HB
      go_wp2_with fail
      refine (class_no 65533 _ (by omega) T16.out).mono ?_
      rintro e W17 ⟨rfl, hB17⟩
      have B17 := Lib.hid (B16.out.trans (hB17.mono B16.out.size)); have T17 := Lib.hid (T16.out.below hB17); have O17 := Lib.hid (O16.out.below hB17); have X17 := Lib.hid (X16.out.below hB17); have M17 := Lib.hid (M16.out.below hB17); have U17 := Lib.hid (U16.out.below hB17)
      clear B16 T16 O16 X16 M16 U16 hB17
      go_wp2_with fail
      refine (class_no (-1) _ (by omega) T17.out).mono ?_
      rintro e W18 ⟨rfl, hB18⟩
      have B18 := Lib.hid (B17.out.trans (hB18.mono B17.out.size)); have O18 := Lib.hid (O17.out.below hB18); have X18 := Lib.hid (X17.out.below hB18); have M18 := Lib.hid (M17.out.below hB18); have U18 := Lib.hid (U17.out.below hB18)
      clear B17 T17 O17 X17 M17 U17 hB18
      go_wp2_with fail
      refine (length_no 6 _ (by omega)).mono ?_
      rintro e w' ⟨rfl, rfl⟩
      go_wp2_with fail
      refine (length_no (-1) _ (by omega)).mono ?_
      rintro e w' ⟨rfl, rfl⟩
      go_upto_region 23 with fail
      obtain ⟨au, cu, rfl⟩ : ∃ a c, u = .slice a 1 c := by
        rcases U18.out.rep with ⟨b, off, c, h, _⟩ | ⟨a, c, _, h, _⟩
        · exact ⟨_, _, h⟩
        · omega
      obtain ⟨zs, hzs⟩ : ∃ zs, zs = (rowL 64 fun _ => 0).toArray := ⟨_, rfl⟩
      have hmk : ∀ W, (Instr.makeSlice 27 (.int .i64 64) (.int .i64 64)).run Tryd.prog W = .ok (.slice (some ⟨W.heap.size, 0, none⟩) 64 64) (W.alloc (.cells zs 5)) := by
        rw [hzs]; exact make_run 64 (by omega)
      obtain ⟨S, hS⟩ : ∃ S, S = str 64 ex1 := ⟨_, rfl⟩
      obtain ⟨S0, hS0⟩ : ∃ S0, S0 = str 64 fun _ => 0 := ⟨_, rfl⟩
      have hA : Below W18.heap.size W18.drew (W18.alloc (.cells zs 5)).drew := box_below W18.drew _
      have hD : Below W18.heap.size W18 W18.drew := below_drewN2 (Below.refl _ W18) 1
      have O18' : Owned W18.drew g1 64 ex1 := O18.out.drew 1
      have h1 := str_run (O18'.bytes (ex1_byt 64) 64 (Nat.le_refl _))
      have h3 := str_run ((M18.out.below hD).bytes (ex1_byt 64))
      have hz0 : ∀ j, j < 64 → padz 0 (fun _ => 0) j = 0 := by
        intro j hj
        by_cases h : j < 4
        · have : j = 0 ∨ j = 1 ∨ j = 2 ∨ j = 3 := by omega
          rcases this with rfl | rfl | rfl | rfl <;> rfl
        · exact padz_tail 0 _ j (by omega)
      have zbyt : ∀ n, Byt n (fun _ => 0) := fun n j _ => ⟨Int.le_refl _, (by decide : (0 : Int) < 256)⟩
      have hO0 : Owned W18.drew g4 64 (fun _ => 0) := (X18.out.drew 1).congr hz0
      have h4 := str_run (hO0.bytes (zbyt 64) 64 (Nat.le_refl _))
      have h4b := str_run ((hO0.below hA).bytes (zbyt 64) 64 (Nat.le_refl _))
      have hOn : Owned (W18.alloc (.cells zs 5)).drew W18.heap.size 64 (fun _ => 0) := by rw [hzs]; exact owned_made W18.drew 64 _
      have h5 := str_run (hOn.bytes (zbyt 64) 64 (Nat.le_refl _))
      have h6 := str_run ((U18.out.below hD).below hA)
      have e7 : str 1 (fun _ => 7) = { data := #[7] } := by rfl
      rw [← hS] at h1 h3
      rw [← hS0] at h4 h4b h5
      rw [e7] at h6
      have BE : Hid (Below w.heap.size w W18.drew) := Lib.hid (below_drewN2 B18.out 1)
      have BF : Hid (Below w.heap.size w (W18.alloc (.cells zs 5)).drew) := Lib.hid (BE.out.alloc BE.out.size (.cells zs 5))
      clear hzs hS hS0 hA hD O18' hz0 zbyt hO0 hOn e7 O18 X18 M18 U18 B18 BE
      go_region_law (fail)
      all_goals
        go_wp2
        go_ret
        exact ⟨rfl, BF.out⟩
end Go.Proofs.YtofgnncodnfapaaDoor
