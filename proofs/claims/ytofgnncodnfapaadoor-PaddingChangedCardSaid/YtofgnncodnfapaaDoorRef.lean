/- The contract of Pad of the reference. -/
import Derived.Test.YtofgnncodnfapaaDoorApp
import Derived.Deep.DeepCutAuto
namespace Go.Proofs.YtofgnncodnfapaaDoor
open Go Go.RowKit

theorem four (W : World) (n : Nat) : W.alloc (.cells #[.int .u8 (hdr n 0), .int .u8 (hdr n 1), .int .u8 (hdr n 2), .int .u8 (hdr n 3)] 5) = W.alloc (.cells (rowL 4 (hdr n)).toArray 5) := rfl
theorem one (W : World) : Bytes (W.alloc (.cells #[.int .u8 0] 5)) (.slice (some ⟨W.heap.size, 0, none⟩) 1 1) 1 (fun _ => 0) :=
  (owned_made W 1 fun _ => 0).bytes (fun j _ => ⟨Int.le_refl _, (by decide : (0 : Int) < 256)⟩) 1 (Nat.le_refl _)

set_option maxHeartbeats 2000000 in
set_option maxRecDepth 100000 in
theorem rpad_yes (a : Option Addr) (n c : Nat) (z : Nat → Int) (w : World) (hb : Bytes w (.slice a n c) n z) (hn : n ≤ 65532) :
    Calls Tryd.prog 16 #[.slice a n c] w fun e w' => ∃ v, e = .returned (.tuple #[v, .int .i64 0]) ∧ Bytes w' v (lenc n) (padz n z) ∧ Below w.heap.size w w' := by
  have HC := Lib.hid (rclass_yes n w (by omega) (by omega))
  have HR := Lib.hid (rlength_yes (cls n) w (cls_lt n))
  have hl := lenc_bd n
  have hfit := lenc_fit n hn
  have HL := Lib.hid (lenc_eq n)
  rw [← HL.out] at HR
  have HB := Lib.hid hb
  clear hb
  obtain ⟨hl0, hl1⟩ := hl
  obtain ⟨L, hLe⟩ : ∃ L, L = lenc n := ⟨_, rfl⟩
  rw [← hLe] at hl0 hl1 hfit HL HR ⊢
  clear hLe
  have H0 := Lib.hid (hdr0 n hn); have H1 := Lib.hid (hdr1 n hn); have H2 := Lib.hid (hdr2 n hn); have H3 := Lib.hid (hdr3 n)
  go_enter Tryd.func16, Tryd.ntmps16
  go_wp2_with fail
  refine HC.out.mono ?_
  rintro e w' ⟨rfl, rfl⟩
  go_wp2_with fail
  refine HR.out.mono ?_
  rintro e w' ⟨rfl, rfl⟩
  go_upto_region 7 with fail
  have e4 : w.alloc (.cells #[.int .u8 ((n : Int) / 16777216), .int .u8 ((n : Int) / 65536), .int .u8 ((n : Int) / 256), .int .u8 ((n : Int) % 256)] 5) = w.alloc (.cells (rowL 4 (hdr n)).toArray 5) := by
    rw [H0.out, H1.out, H2.out, H3.out]; rfl
  rw [e4]
  have M1 := Lib.hid (Mine.made (B := w.heap.size) w 4 (hdr n) (Nat.le_refl _) (by omega))
  have B1 := Lib.hid (box_below w (.cells (rowL 4 (hdr n)).toArray 5))
  have S1 := Lib.hid (HB.out.below B1.out)
  clear e4 H0 H1 H2 H3 HC HR
  generalize w.alloc (.cells (rowL 4 (hdr n)).toArray 5) = W1 at *
  go_wp2_with (at_builtin; refine wp_app w rfl _ _ rfl _ 4 (hdr n) rfl M1.out B1.out _ n z rfl S1.out (by omega) (by omega) ?_; intro v2 W2 hM2 hB2)
  have hM3 := hM2.congr (f' := padz n z) fun j hj => by
    unfold cat padz
    by_cases h1 : j < 4
    · rw [if_pos h1, if_pos h1]
    · rw [if_neg h1, if_neg h1, if_pos hj]
  have HM3 := Lib.hid hM3; have HB2 := Lib.hid hB2
  obtain ⟨g2, cap2, rfl⟩ : ∃ g cap, v2 = .slice (some ⟨g, 0, none⟩) (4 + n) cap := by
    rcases hM2.form with ⟨_, h⟩ | ⟨g, cap, h, _⟩
    · omega
    · exact ⟨g, cap, h⟩
  clear hM2 hM3 hB2 M1 B1 S1
  go_loopw [9] (fun p wr => ∃ m g cap, p = .slice (some ⟨g, 0, none⟩) m cap ∧ 4 + n ≤ m ∧ m ≤ L ∧ Mine w.heap.size wr p m (padz n z) ∧ Below w.heap.size w wr) (fun p _ => L - (match p with | .slice _ m _ => m | _ => 0))
  case atStart => exact ⟨4 + n, g2, cap2, rfl, by omega, by omega, HM3.out, HB2.out⟩
  case round =>
    obtain ⟨m, g, cap, rfl, hm1, hm2, hM, hB⟩ := hrel
    clear HM3 HB2
    obtain ⟨wo, rfl⟩ : ∃ wo : World, wo = wr := ⟨_, rfl⟩
    have M := Lib.hid hM; have B := Lib.hid hB
    clear hM hB
    by_cases hlt : m < L
    · have hlt' : (m : Int) < L := by omega
      have MA := Lib.hid (M.out.below (box_below wo (.cells #[.int .u8 0] 5)))
      have BA := Lib.hid (B.out.alloc B.out.size (.cells #[.int .u8 0] 5))
      go_wp2_with (at_builtin; refine wp_app w rfl _ _ rfl _ m (padz n z) rfl MA.out BA.out _ 1 (fun _ => 0) rfl (one wo) (by omega) (by omega) ?_; intro v3 W3 hM3 hB3)
      obtain ⟨g3, cap3, rfl⟩ : ∃ g cap, v3 = .slice (some ⟨g, 0, none⟩) (m + 1) cap := by
        rcases hM3.form with ⟨_, h⟩ | ⟨g, cap, h, _⟩
        · omega
        · exact ⟨g, cap, h⟩
      have hM4 := hM3.congr (f' := padz n z) fun j hj => by
        unfold cat
        by_cases h1 : j < m
        · rw [if_pos h1]
        · rw [if_neg h1]
          unfold padz
          rw [if_neg (by omega), if_neg (by omega)]
      go_roundw
      case rel => exact ⟨m + 1, g3, cap3, rfl, by omega, by omega, hM4, hB3⟩
      case measure => simp; omega
    · obtain rfl : m = L := by omega
      go_wp2
      go_ret2
      exact ⟨_, rfl, M.out.bytes (padz_byt HB.out.byt _), B.out⟩
theorem rpad_no (a : Option Addr) (n c : Nat) (w : World) (hn : 65532 < n) (h9 : n ≤ 9223372036854775807) :
    Calls Tryd.prog 16 #[.slice a n c] w fun e w' => e = .returned (.tuple #[.slice none 0 0, .int .i64 280]) ∧ w = w' := by
  have HC := Lib.hid (rclass_no n w (by omega) (by omega))
  go_enter Tryd.func16, Tryd.ntmps16
  go_wp2_with fail
  refine HC.out.mono ?_
  rintro e w' ⟨rfl, rfl⟩
  go_wp2
  go_ret2
  exact ⟨rfl, rfl⟩
end Go.Proofs.YtofgnncodnfapaaDoor
