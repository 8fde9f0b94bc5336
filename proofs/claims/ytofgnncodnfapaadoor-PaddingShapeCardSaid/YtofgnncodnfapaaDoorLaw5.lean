/- The walk of PaddingShape. -/
import Derived.Test.YtofgnncodnfapaaDoorLaw2
namespace Go.Proofs.YtofgnncodnfapaaDoor
open Go Go.RowKit

theorem wrap_in (x : Int) (h0 : 0 ≤ x) (h1 : x < 9223372036854775808) : wrap64 x = x := by unfold wrap64; omega

set_option maxHeartbeats 4000000 in
set_option maxRecDepth 100000 in
theorem shape_walk (a : Option Addr) (n c : Nat) (z : Nat → Int) (w : World) (ht : Tab w) (hb : Bytes w (.slice a n c) n z) (hn9 : n ≤ 9223372036854775807) :
    Calls Tryd.prog 8 #[.slice a n c] w fun e w' => e = .returned (.bool true) ∧ Below w.heap.size w w' := by
  have T0 := Lib.hid ht; have H0 := Lib.hid hb; clear ht hb
  go_enter Tryd.func8, Tryd.ntmps8
  go_wp2_with fail
  refine (sane_true _ T0.out).mono ?_
  rintro e W1 ⟨rfl, hB1⟩
  have B1 := Lib.hid hB1; have T1 := Lib.hid (T0.out.below hB1); have H1 := Lib.hid (H0.out.below hB1)
  clear hB1 T0 H0
  by_cases hbig : 65532 < n
  · have hbig' : (65532 : Int) < n := by omega
    go_wp2
    go_ret
    exact ⟨rfl, B1.out⟩
  have hsm' : ¬ (65532 : Int) < n := by omega
  have hfit : n ≤ 65532 := by omega
  have HF := Lib.hid hfit
  clear hbig
  go_wp2_with fail
  refine (pad_yes a n c z _ H1.out hfit T1.out).mono ?_
  rintro e W2 ⟨g2, rfl, hO2, _, hB2⟩
  have O2 := Lib.hid hO2; have H2 := Lib.hid (H1.out.below hB2); have B2 := Lib.hid (B1.out.trans (hB2.mono B1.out.size))
  clear hO2 hB2 H1 T1 B1 hfit
  have hlb := lenc_bd n
  have hlf := lenc_fit n HF.out
  obtain ⟨L, hL⟩ : ∃ L, L = lenc n := ⟨_, rfl⟩
  rw [← hL] at O2 hlb hlf ⊢
  clear hL
  have hcell : ∀ j, j < L → W2.cell? ⟨g2, j, none⟩ = some (.int .u8 (padz n z j)) := O2.out.cell
  have hA0 : ((n / 256 : Nat) : Int) < 256 := by have := HF.out; omega
  obtain ⟨A, hA⟩ : ∃ A : Nat, A = n / 256 := ⟨_, rfl⟩
  obtain ⟨B, hB⟩ : ∃ B : Nat, B = n % 256 := ⟨_, rfl⟩
  have hc0 : W2.cell? ⟨g2, 0, none⟩ = some (.int .u8 0) := by
    rw [hcell 0 (by omega), padz_hdr _ _ _ (by omega), ← hdr0 n HF.out]
    have : (n : Int) / 16777216 = 0 := by omega
    rw [this]
  have hc1 : W2.cell? ⟨g2, 1, none⟩ = some (.int .u8 0) := by
    rw [hcell 1 (by omega), padz_hdr _ _ _ (by omega)]
    have : hdr n 1 = 0 := by show ((n / 65536 % 256 : Nat) : Int) = 0; omega
    rw [this]
  have hc2 : W2.cell? ⟨g2, 2, none⟩ = some (.int .u8 A) := by
    rw [hcell 2 (by omega), padz_hdr _ _ _ (by omega)]
    have : hdr n 2 = A := by show ((n / 256 % 256 : Nat) : Int) = A; omega
    rw [this]
  have hc3 : W2.cell? ⟨g2, 3, none⟩ = some (.int .u8 B) := by
    rw [hcell 3 (by omega), padz_hdr _ _ _ (by omega)]
    have : hdr n 3 = B := by show ((n / 1 % 256 : Nat) : Int) = B; omega
    rw [this]
  have hor : bits .or .i64 ((A : Int) * 256) B = n := by
    rw [or_byte A B (by omega) (by omega) (by omega) (by omega)]
    omega
  have hor0 : bits .or .i64 0 ((A : Int) * 256) = (A : Int) * 256 := by
    show IntKind.i64.wrap ((BitVec.ofInt 64 0 ||| BitVec.ofInt 64 ((A : Int) * 256)).toNat : Int) = _
    have e : BitVec.ofInt 64 0 = 0#64 := rfl
    rw [e, BitVec.zero_or, BitVec.toNat_ofInt, IntKind.wrap_i64]
    omega
  have hAB : (A : Int) ≤ 256 ∧ (B : Int) ≤ 256 := by omega
  have hor1 : bits .or .i64 0 0 = 0 := by decide
  have HC := Lib.hid hcell
  have i0 : (0 : Int) < L := by omega
  have i1 : (1 : Int) < L := by omega
  have i2 : (2 : Int) < L := by omega
  have i3 : (3 : Int) < L := by omega
  have l4 : ¬ ((L : Int) < 4 + n) := by omega
  have l5 : 4 + (n : Int) ≤ L := by omega
  clear hcell hA0 hA hB
  have hSub : ∀ q, RowB (W2.drewN q) g2 0 L (padz n z) := fun q j hj => by rw [Nat.zero_add]; exact HC.out j hj
  have hs1 : ∀ q, (convert 27 9 (.slice (some ⟨g2, 4, none⟩) n (L - 4))).run Tryd.prog (W2.drewN q) = .ok (.string (str n z)) (W2.drewN q) := fun q => by
    have h := (sub_bytes (m := n) (l := n) (c' := L - 4) rfl (hSub q) (padz_byt H2.out.byt L) (by omega) (by omega)).congr (z' := z) fun j hj => padz_list n z j hj
    rw [Nat.zero_add] at h
    exact str_run h
  have hs2 : ∀ q, (convert 27 9 (.slice a n c)).run Tryd.prog (W2.drewN q) = .ok (.string (str n z)) (W2.drewN q) := fun q => str_run (H2.out.below (below_drewN2 (Below.refl _ _) q))
  clear hSub
  generalize str n z = S at hs1 hs2
  go_wp2
  have wA : wrap64 (A : Int) = A := wrap_in _ (by omega) (by omega)
  have wB : wrap64 (B : Int) = B := wrap_in _ (by omega) (by omega)
  have wC : wrap64 ((A : Int) * 256) = (A : Int) * 256 := wrap_in _ (by omega) (by omega)
  clear hAB
  have d1 : decide ((L : Int) < 4 + n) = false := decide_eq_false (by omega)
  go_quiet (fail)
  have BQ := Lib.hid (below_drewN2 B2.out nq)
  have CQ : Hid (∀ j, 4 + n ≤ j → j < L → (W2.drewN nq).cell? ⟨g2, j, none⟩ = some (.int .u8 0)) := Lib.hid fun j h1 h2 => by rw [← padz_tail n z j h1]; exact HC.out j h2
  clear wA wB wC hs1 hs2 hc0 hc1 hc2 hc3 hor hor0 hor1 HC i0 i1 i2 i3 d1 O2 H2 B2
  go_wp2
  generalize W2.drewN nq = W3 at *
  go_loop [6] (fun s6 => ∃ i : Nat, 4 + n ≤ i ∧ i ≤ L ∧ s6 = .int .i64 i) (fun s6 => L - (intOf s6).toNat)
  case atStart => exact ⟨4 + n, by omega, by omega, by go_num⟩
  case round =>
    obtain ⟨i, hi, hiL, rfl⟩ := hrel
    by_cases hlt : i < L
    · have hlt' : (i : Int) < L := by omega
      have hcell := CQ.out i hi hlt
      go_wp2
      exact ⟨⟨i + 1, by omega, by omega, by go_num⟩, by simp [intOf]; omega⟩
    · obtain rfl : i = L := by omega
      go_wp2
      go_ret
      exact ⟨rfl, BQ.out⟩
theorem shape_row (a : Option Addr) (n c : Nat) (zs : List Int) (w : World) (ht : Tab w) (h : IsRow .u8 w a n c zs) :
    Calls Tryd.prog 8 #[.slice a n c] w fun e w' => e = .returned (.bool true) ∧ Below w.heap.size w w' :=
  shape_walk a n c _ w ht h.bytes.1 h.bytes.2
end Go.Proofs.YtofgnncodnfapaaDoor
