/- The walk of PaddingChanged. -/
import Derived.Test.YtofgnncodnfapaaDoorLaw2
namespace Go.Proofs.YtofgnncodnfapaaDoor
open Go Go.RowKit

theorem xor_byte (x y : Int) (x0 : 0 ≤ x) (x1 : x < 256) (y0 : 0 < y) (y1 : y < 256) : bits .xor .u8 x y ≠ x ∧ 0 ≤ bits .xor .u8 x y ∧ bits .xor .u8 x y < 256 := by
  obtain ⟨m, rfl⟩ : ∃ m : Nat, x = m := ⟨x.toNat, by omega⟩
  obtain ⟨k, rfl⟩ : ∃ k : Nat, y = k := ⟨y.toNat, by omega⟩
  have hr : bits .xor .u8 (m : Int) (k : Int) = ((m ^^^ k : Nat) : Int) := by
    show IntKind.u8.wrap ((BitVec.ofInt 8 (m : Int) ^^^ BitVec.ofInt 8 (k : Int)).toNat : Int) = _
    have e : (BitVec.ofInt 8 (m : Int) ^^^ BitVec.ofInt 8 (k : Int)).toNat = m ^^^ k := by
      rw [BitVec.toNat_xor, BitVec.toNat_ofInt, BitVec.toNat_ofInt]
      congr 1 <;> omega
    rw [e]
    have hlt : m ^^^ k < 2 ^ 8 := Nat.xor_lt_two_pow (by omega) (by omega)
    rw [IntKind.wrap_u8]
    omega
  have hlt : m ^^^ k < 2 ^ 8 := Nat.xor_lt_two_pow (by omega) (by omega)
  rw [hr]
  refine ⟨fun h => ?_, by omega, by omega⟩
  have h' : m ^^^ k = m := by omega
  have : k = 0 := by
    have := congrArg (fun t => m ^^^ t) h'
    simp only [← Nat.xor_assoc, Nat.xor_self, Nat.zero_xor] at this
    exact this
  omega

/-- A byte of the list is another one: padded bytes of another list. -/
theorem changed_in (n : Nat) (z : Nat → Int) (i : Nat) (v : Int) (hn : n ≤ 65532) (h1 : 4 ≤ i) (h2 : i < 4 + n) : Padded (lenc n) (upd (padz n z) i v) n := by
  refine ⟨hn, rfl, fun j _ => ?_⟩
  by_cases h3 : j < 4
  · rw [upd_ne (by omega), padz_hdr _ _ _ h3, padz_hdr _ _ _ h3]
  · by_cases h4 : j < 4 + n
    · have e := padz_list n (fun j => upd (padz n z) i v (j + 4)) (j - 4) (by omega)
      rw [show j - 4 + 4 = j by omega] at e
      exact e.symm
    · rw [upd_ne (by omega), padz_tail _ _ _ (by omega), padz_tail _ _ _ (by omega)]
theorem changed_yes (n : Nat) (z : Nat → Int) (i m : Nat) (v : Int) (hn : n ≤ 65532) (hz : Byt n z) (hi : i < lenc n) (hv : v ≠ padz n z i) (hv0 : 0 ≤ v ∧ v < 256) (h : Padded (lenc n) (upd (padz n z) i v) m) :
    i < 4 + n ∧ str m (fun j => upd (padz n z) i v (j + 4)) ≠ str n z := by
  have hlb := lenc_bd n
  have hf := lenc_fit n hn
  have hP := padded_val (padded_pad n z hn) (by omega)
  have hM := padded_val h (by omega)
  have hbz := padz_byt hz (lenc n)
  have hbu := upd_byt hbz i v hv0
  by_cases h4 : i < 4
  · refine ⟨by omega, fun he => ?_⟩
    obtain ⟨rfl, _⟩ := str_inj (fun j hj => hbu (j + 4) (by have := lenc_fit m h.1; have := h.2.1; omega)) hz he
    have e1 := hdr_of m _ _ hbu (by omega) hM i h4
    rw [upd_self] at e1
    rw [padz_hdr _ _ _ h4] at hv
    exact hv e1
  · have hsame : acc (upd (padz n z) i v) 4 = acc (padz n z) 4 := by
      simp only [acc]
      rw [upd_ne (by omega), upd_ne (by omega), upd_ne (by omega), upd_ne (by omega)]
    obtain rfl : m = n := by rw [hsame, hP] at hM; omega
    have hlt : i < 4 + m := by
      refine Classical.byContradiction fun hge => ?_
      have e1 := h.2.2 i hi
      rw [upd_self, padz_tail _ _ _ (by omega)] at e1
      rw [padz_tail _ _ _ (by omega)] at hv
      exact hv e1
    refine ⟨hlt, fun he => ?_⟩
    obtain ⟨_, e1⟩ := str_inj (fun j hj => hbu (j + 4) (by omega)) hz he
    have e2 := e1 (i - 4) (by omega)
    have e3 := padz_list m z (i - 4) (by omega)
    rw [show i - 4 + 4 = i by omega] at e2 e3
    rw [upd_self] at e2
    exact hv (e2.trans e3.symm)
theorem changed_no (n : Nat) (z : Nat → Int) (i : Nat) (v : Int) (hn : n ≤ 65532) (h : ∀ m, ¬ Padded (lenc n) (upd (padz n z) i v) m) : i < 4 ∨ 4 + n ≤ i := by
  refine Classical.byContradiction fun hc => h n (changed_in n z i v hn (by omega) (by omega))

set_option maxHeartbeats 4000000 in
set_option maxRecDepth 100000 in
theorem changed_walk (a : Option Addr) (n c : Nat) (z : Nat → Int) (q : Nat) (by' : Int) (w : World) (ht : Tab w) (hb : Bytes w (.slice a n c) n z) (hq : q < 18446744073709551616) (hy0 : 0 ≤ by') (hy1 : by' < 256) :
    Calls Tryd.prog 9 #[.slice a n c, .int .u64 q, .int .u8 by'] w fun e w' => e = .returned (.bool true) ∧ Below w.heap.size w w' := by
  have T0 := Lib.hid ht; have H0 := Lib.hid hb; clear ht hb
  have Y0 := Lib.hid hy0; have Y1 := Lib.hid hy1; have HQ := Lib.hid hq; clear hy0 hy1 hq
  go_enter Tryd.func9, Tryd.ntmps9
  go_wp2_with fail
  refine (sane_true _ T0.out).mono ?_
  rintro e W1 ⟨rfl, hB1⟩
  have B1 := Lib.hid hB1; have T1 := Lib.hid (T0.out.below hB1); have H1 := Lib.hid (H0.out.below hB1)
  clear hB1 T0 H0
  by_cases hbig : 5000 < n
  · have hbig' : (5000 : Int) < n := by omega
    go_wp2
    go_ret
    exact ⟨rfl, B1.out⟩
  have hsm' : ¬ (5000 : Int) < n := by omega
  have hfit : n ≤ 65532 := by omega
  have HF := Lib.hid hfit
  have HS := Lib.hid hbig
  clear hbig
  by_cases hzero : by' = 0
  · subst hzero
    go_wp2
    go_ret
    exact ⟨rfl, B1.out⟩
  have hnz : (by' == 0) = false := by simpa using hzero
  have NZ := Lib.hid hzero
  clear hzero
  go_wp2_with fail
  refine (pad_yes a n c z _ H1.out hfit T1.out).mono ?_
  rintro e W2 ⟨g2, rfl, hO2, _, hB2⟩
  have O2 := Lib.hid hO2; have H2 := Lib.hid (H1.out.below hB2); have T2 := Lib.hid (T1.out.below hB2); have B2 := Lib.hid (B1.out.trans (hB2.mono B1.out.size))
  clear hO2 hB2 H1 T1 B1 hfit
  have hlb := lenc_bd n
  have hlf := lenc_fit n HF.out
  obtain ⟨L, hL⟩ : ∃ L, L = lenc n := ⟨_, rfl⟩
  rw [← hL] at O2 hlb hlf ⊢
  have HL := Lib.hid hL
  clear hL
  obtain ⟨i, hi⟩ : ∃ i, i = q % L := ⟨_, rfl⟩
  have hiL : i < L := hi ▸ Nat.mod_lt _ (by omega)
  have hie : (q : Int) % (L : Int) = (i : Int) := by rw [hi]; omega
  have S2 := Lib.hid ((O2.out.bytes (padz_byt H2.out.byt L) L (Nat.le_refl _)).below (box_below W2 (.cells #[] 5)))
  have N2 : Hid (Mine W2.heap.size (W2.alloc (.cells #[] 5)) (.slice (some ⟨W2.heap.size, 0, none⟩) 0 0) 0 z) := Lib.hid (Mine.made (B := W2.heap.size) W2 0 z (Nat.le_refl _) (by omega))
  have A2 := Lib.hid (box_below W2 (.cells #[] 5))
  obtain ⟨x0, x1⟩ := padz_byt H2.out.byt L i hiL
  obtain ⟨v, hv⟩ : ∃ v, v = bits .xor .u8 (padz n z i) by' := ⟨_, rfl⟩
  have XB := Lib.hid (xor_byte (padz n z i) by' x0 x1 (by have := Y0.out; have := NZ.out; omega) Y1.out)
  rw [← hv] at XB
  have hv' := hv.symm
  have hLi : (i : Int) < L := by omega
  have HIL := Lib.hid hiL
  clear hi hv x0 x1 Y0 Y1 HQ NZ
  go_wp2_with (first | (at_builtin; refine wp_app W2 rfl _ _ rfl _ 0 z rfl N2.out A2.out _ L (padz n z) rfl S2.out (by omega) (by omega) ?_; intro v3 W3 hM3 hB3
                        have hM3' := hM3.copied
                        obtain ⟨g3, c3, rfl⟩ := hM3'.slice (by omega)
                        have hf3 := hM3'.free i
                        have hc3 := hM3'.cell i HIL.out
                        have hg3 := hM3'.old.1
                        have M4 := Lib.hid (hM3'.set i HIL.out v)
                        have B4 := Lib.hid (below_set hB3 ⟨g3, i, none⟩ (.int .u8 v) hg3)
                        clear hM3 hM3' hB3 hg3 S2 N2 A2) | fail)
  generalize W3.setCell ⟨g3, i, none⟩ (.int .u8 v) = W4 at *
  have T4 := Lib.hid (T2.out.below B4.out); have H4 := Lib.hid (H2.out.below B4.out); have E4 := Lib.hid (B2.out.trans (B4.out.mono B2.out.size))
  have V4 := Lib.hid (M4.out.bytes (upd_byt (padz_byt H2.out.byt L) i v XB.out.2))
  clear M4 B4 T2 H2 B2 O2 hf3 hc3 hv' hnz hie
  refine (unpad_any _ L _ _ T4.out V4.out).mono ?_
  rintro e W5 (⟨m, hm, u, rfl, hU, hB5⟩ | ⟨hno, rfl, hB5⟩)
  · obtain ⟨a5, c5, rfl⟩ := hU.form
    have hm' := hm
    rw [HL.out] at hm'
    obtain ⟨hlt, hne⟩ := changed_yes n z i m v HF.out H4.out.byt (HL.out ▸ HIL.out) XB.out.1 XB.out.2 hm'
    have hs1 := str_run hU
    have hs2 := str_run (H4.out.below hB5)
    have hlt' : (i : Int) < 4 + n := by omega
    have E5 := Lib.hid (E4.out.trans (hB5.mono E4.out.size))
    clear hm hm' hU hB5 E4 H4 T4 V4 HL HIL XB HF HS
    generalize str m (fun j => upd (padz n z) i v (j + 4)) = X at *
    generalize str n z = Z at *
    have hnel : (X.toList == Z.toList) = false := by simpa using fun h => hne (str_list h)
    clear hne
    go_wp2
    go_ret
    exact ⟨rfl, E5.out⟩
  · rw [HL.out] at hno
    have hor := changed_no n z i v HF.out hno
    have E5 := Lib.hid (E4.out.trans (hB5.mono E4.out.size))
    clear hno hB5 E4 H4 T4 V4 HL HIL XB HF HS
    by_cases h4 : i < 4
    · have h4' : (i : Int) < 4 := by omega
      go_wp2
      go_ret
      exact ⟨rfl, E5.out⟩
    · have h4' : ¬ (i : Int) < 4 := by omega
      have h5 : 4 + (n : Int) ≤ i := by omega
      go_wp2
      go_ret
      exact ⟨rfl, E5.out⟩
theorem q64_nat {q : Int} (h : (Lit.int .u64 q).wf = true) : ∃ k : Nat, q = k ∧ k < 18446744073709551616 := by
  simp only [Lit.wf, Bool.and_eq_true, decide_eq_true_eq] at h
  have h1 : (0 : Int) ≤ q := h.1
  have h2 : q ≤ (18446744073709551615 : Int) := h.2
  exact ⟨q.toNat, by omega, by omega⟩
theorem changed_row (a : Option Addr) (n c : Nat) (zs : List Int) (q by' : Int) (w : World) (ht : Tab w) (h : IsRow .u8 w a n c zs) (hq : (Lit.int .u64 q).wf = true) (hy : (Lit.int .u8 by').wf = true) :
    Calls Tryd.prog 9 #[.slice a n c, .int .u64 q, .int .u8 by'] w fun e w' => e = .returned (.bool true) ∧ Below w.heap.size w w' := by
  obtain ⟨k, rfl, hk⟩ := q64_nat hq
  simp only [Lit.wf, Bool.and_eq_true, decide_eq_true_eq] at hy
  have h1 : (0 : Int) ≤ by' := hy.1
  have h2 : by' ≤ (255 : Int) := hy.2
  exact changed_walk a n c _ k by' w ht h.bytes.1 hk h1 (by omega)
end Go.Proofs.YtofgnncodnfapaaDoor
