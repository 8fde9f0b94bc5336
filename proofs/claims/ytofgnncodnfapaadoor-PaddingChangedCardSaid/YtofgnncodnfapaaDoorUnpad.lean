/- The contract of Unpad of package padding. -/
import Derived.Test.YtofgnncodnfapaaDoorFind
namespace Go.Proofs.YtofgnncodnfapaaDoor
open Go Go.RowKit

/-- The four bytes as a number. -/
def val4 (z : Nat → Int) : Int := ((z 0 * 256 + z 1) * 256 + z 2) * 256 + z 3
def acc (z : Nat → Int) : Nat → Int
  | 0 => 0
  | k + 1 => acc z k * 256 + z k
theorem acc4 (z : Nat → Int) : acc z 4 = val4 z := by simp [acc, val4]

set_option maxRecDepth 100000 in
theorem unpad_len (a : Option Addr) (n c : Nat) (w : World) (ht : Tab w) (hn : ∀ k, k < 6 → len6 k ≠ n) :
    Calls Tryd.prog 17 #[.slice a n c] w fun e w' => e = .returned (.tuple #[.slice none 0 0, .int .i64 280]) ∧ w = w' := by
  have HC := Lib.hid (contains_no n w ht hn)
  have hc := ht.c 0 (by omega)
  clear ht hn
  go_enter Tryd.func17, Tryd.ntmps17
  go_wp2_with fail
  refine HC.out.mono ?_
  rintro e w' ⟨rfl, rfl⟩
  go_wp2
  go_ret2
  exact ⟨rfl, rfl⟩

theorem or_byte (A x : Int) (h0 : 0 ≤ A) (h1 : A ≤ 16777216) (x0 : 0 ≤ x) (x1 : x < 256) : bits .or .i64 (A * 256) x = A * 256 + x := by
  obtain ⟨m, rfl⟩ : ∃ m : Nat, A = m := ⟨A.toNat, by omega⟩
  obtain ⟨k, rfl⟩ : ∃ k : Nat, x = k := ⟨x.toNat, by omega⟩
  show IntKind.i64.wrap ((BitVec.ofInt 64 ((m : Int) * 256) ||| BitVec.ofInt 64 (k : Int)).toNat : Int) = _
  have e : (BitVec.ofInt 64 ((m : Int) * 256) ||| BitVec.ofInt 64 (k : Int)).toNat = m * 256 + k := by
    rw [BitVec.toNat_or, BitVec.toNat_ofInt, BitVec.toNat_ofInt]
    have e1 : ((m : Int) * 256 % ((2 ^ 64 : Nat) : Int)).toNat = 2 ^ 8 * m := by omega
    have e2 : ((k : Int) % ((2 ^ 64 : Nat) : Int)).toNat = k := by omega
    rw [e1, e2, ← Nat.two_pow_add_eq_or_of_lt (by omega) m]
    omega
  rw [e, IntKind.wrap_i64]
  omega
theorem acc_bd (z : Nat → Int) (n : Nat) (hz : Byt n z) (hn : 4 ≤ n) : (0 ≤ acc z 0 ∧ acc z 0 ≤ 0) ∧ (0 ≤ acc z 1 ∧ acc z 1 < 256) ∧ (0 ≤ acc z 2 ∧ acc z 2 < 65536) ∧ (0 ≤ acc z 3 ∧ acc z 3 < 16777216) ∧ (0 ≤ acc z 4 ∧ acc z 4 < 4294967296) := by
  have h0 := hz 0 (by omega); have h1 := hz 1 (by omega); have h2 := hz 2 (by omega); have h3 := hz 3 (by omega)
  simp only [acc]
  omega
theorem acc_at (z : Nat → Int) (n : Nat) (hz : Byt n z) (hn : 4 ≤ n) (k : Nat) (hk : k < 4) : 0 ≤ acc z k ∧ acc z k ≤ 16777216 := by
  obtain ⟨a, b, c, d, _⟩ := acc_bd z n hz hn
  have : k = 0 ∨ k = 1 ∨ k = 2 ∨ k = 3 := by omega
  rcases this with rfl | rfl | rfl | rfl <;> omega

/-- The bytes are padded ones, of a list of m. -/
def Padded (n : Nat) (z : Nat → Int) (m : Nat) : Prop := m ≤ 65532 ∧ lenc m = n ∧ ∀ j, j < n → z j = padz m (fun j => z (j + 4)) j

theorem padz_hdr (m : Nat) (z : Nat → Int) (j : Nat) (hj : j < 4) : padz m z j = hdr m j := if_pos hj
theorem hdr_val (m : Nat) (h : m < 4294967296) : ((hdr m 0 * 256 + hdr m 1) * 256 + hdr m 2) * 256 + hdr m 3 = m := by
  show ((((m / 16777216 % 256 : Nat) : Int) * 256 + ((m / 65536 % 256 : Nat) : Int)) * 256 + ((m / 256 % 256 : Nat) : Int)) * 256 + ((m / 1 % 256 : Nat) : Int) = m
  omega
theorem padded_val {n m : Nat} {z : Nat → Int} (h : Padded n z m) (hn : 4 ≤ n) : acc z 4 = m := by
  obtain ⟨h1, _, h2⟩ := h
  have e0 := h2 0 (by omega); have e1 := h2 1 (by omega); have e2 := h2 2 (by omega); have e3 := h2 3 (by omega)
  rw [padz_hdr _ _ _ (by omega)] at e0 e1 e2 e3
  have := hdr_val m (by omega)
  rw [acc4]
  unfold val4
  rw [e0, e1, e2, e3]
  exact this
theorem hdr_of (m : Nat) (z : Nat → Int) (n : Nat) (hz : Byt n z) (hn : 4 ≤ n) (h : acc z 4 = m) (j : Nat) (hj : j < 4) : z j = hdr m j := by
  have h0 := hz 0 (by omega); have h1 := hz 1 (by omega); have h2 := hz 2 (by omega); have h3 := hz 3 (by omega)
  rw [acc4] at h
  unfold val4 at h
  have : j = 0 ∨ j = 1 ∨ j = 2 ∨ j = 3 := by omega
  rcases this with rfl | rfl | rfl | rfl
  · show z 0 = ((m / 16777216 % 256 : Nat) : Int); omega
  · show z 1 = ((m / 65536 % 256 : Nat) : Int); omega
  · show z 2 = ((m / 256 % 256 : Nat) : Int); omega
  · show z 3 = ((m / 1 % 256 : Nat) : Int); omega

theorem padded_of {L m : Nat} {z : Nat → Int} (hm : m ≤ 65532) (hl : L = lenc m) (hz : Byt L z) (hv : acc z 4 = m) (ht : ∀ j, j < L - (4 + m) → z (4 + m + j) = 0) : Padded L z m := by
  refine ⟨hm, hl.symm, fun j hj => ?_⟩
  have hbd := lenc_bd m
  unfold padz
  by_cases h1 : j < 4
  · rw [if_pos h1]
    exact hdr_of m z L hz (by omega) hv j h1
  · rw [if_neg h1]
    by_cases h2 : j < 4 + m
    · rw [if_pos h2]
      show z j = z (j - 4 + 4)
      rw [show j - 4 + 4 = j by omega]
    · rw [if_neg h2]
      have := ht (j - (4 + m)) (by omega)
      rwa [show 4 + m + (j - (4 + m)) = j by omega] at this
theorem sub_bytes {W : World} {b off L m c' l : Nat} {z : Nat → Int} (hl : l = m) (hr : RowB W b off L z) (hz : Byt L z) (hm : 4 + m ≤ L) (hc : l ≤ c') : Bytes W (.slice (some ⟨b, off + 4, none⟩) l c') m (fun j => z (j + 4)) := by
  subst hl
  refine ⟨.inl ⟨b, off + 4, c', rfl, fun j hj => ?_, fun h => ?_, hc⟩, fun j hj => hz (j + 4) (by omega)⟩
  · have := hr (j + 4) (by omega)
    rwa [show off + (j + 4) = off + 4 + j by omega] at this
  · exact cell_in (hr 0 (by omega))
theorem tail_bytes {W : World} {b off L m c' : Nat} {z : Nat → Int} (hr : RowB W b off L z) (hz : Byt L z) (hm : 4 + m ≤ L) (hc : L - (4 + m) ≤ c') : Bytes W (.slice (some ⟨b, off + (4 + m), none⟩) (L - (4 + m)) c') (L - (4 + m)) (fun j => z (4 + m + j)) := by
  refine ⟨.inl ⟨b, off + (4 + m), c', rfl, fun j hj => ?_, fun h => ?_, hc⟩, fun j hj => hz (4 + m + j) (by omega)⟩
  · have := hr (4 + m + j) (by omega)
    rwa [show off + (4 + m + j) = off + (4 + m) + j by omega] at this
  · exact cell_in (hr (4 + m) (by omega))
theorem RowB.below {W W' : World} {b off L : Nat} {z : Nat → Int} (hr : RowB W b off L z) (hB : Below W.heap.size W W') : RowB W' b off L z := fun j hj => (hB.cell (p := ⟨b, off + j, none⟩) (cell_in (hr j hj))).trans (hr j hj)
theorem no_bytes (W : World) (a : Addr) (c : Nat) (z : Nat → Int) : Bytes W (.slice (some a) 0 c) 0 z := ⟨.inr ⟨_, _, rfl, rfl, fun h => by cases h⟩, fun j hj => by omega⟩

set_option maxHeartbeats 4000000 in
set_option maxRecDepth 100000 in
theorem unpad_go (b off n k c : Nat) (z : Nat → Int) (w : World) (ht : Tab w) (hk : k < 6) (hn' : (n : Int) = len6 k) (hb : RowB w b off n z) (hz : Byt n z) (hc : n ≤ c) :
    Calls Tryd.prog 17 #[.slice (some ⟨b, off, none⟩) n c] w fun e w' => (∃ m, Padded n z m ∧ ∃ v, e = .returned (.tuple #[v, .int .i64 0]) ∧ Bytes w' v m (fun j => z (j + 4)) ∧ Below w.heap.size w w') ∨ ((∀ m, ¬ Padded n z m) ∧ e = .returned (.tuple #[.slice none 0 0, .int .i64 280]) ∧ Below w.heap.size w w') := by
  have hl := len6_bd k
  have HC := Lib.hid (contains_yes k w ht hk)
  rw [← hn'] at HC
  have hnb : 64 ≤ n := by omega
  have hnc : (64 : Int) ≤ n := by omega
  have hn9 : n ≤ 65536 := by omega
  have h4c : (4 : Int) ≤ c := by omega
  have c0 := ht.c 0 (by omega)
  have HN := Lib.hid hn'
  have HR := Lib.hid hb; have HZ := Lib.hid hz; have HT := Lib.hid ht
  clear hl hn' ht hb hz
  go_enter Tryd.func17, Tryd.ntmps17
  go_wp2_with fail
  refine HC.out.mono ?_
  rintro e w' ⟨rfl, rfl⟩
  go_wp2
  clear c0 HC
  go_loop [4, 16] (fun s4 s16 => ∃ i : Nat, i ≤ 4 ∧ s16 = .int .i64 i ∧ s4 = .int .i64 (acc z i)) (fun _ s16 => 4 - (intOf s16).toNat)
  case atStart => exact ⟨0, by omega, rfl, rfl⟩
  case round =>
    obtain ⟨i, hi, rfl, rfl⟩ := hrel
    by_cases hlt : i < 4
    · have hlt' : (i : Int) < 4 := by omega
      have hcell := HR.out i (by omega)
      obtain ⟨a0, a1⟩ := acc_at z n HZ.out (by omega) i hlt
      obtain ⟨z0, z1⟩ := HZ.out i (by omega)
      have hor := or_byte (acc z i) (z i) a0 a1 z0 z1
      go_wp2
      exact ⟨⟨i + 1, by omega, by go_num, rfl⟩, by simp [intOf]; omega⟩
    · obtain rfl : i = 4 := by omega
      obtain ⟨_, _, _, _, v0, v1⟩ := acc_bd z n HZ.out (by omega)
      obtain ⟨m, hm⟩ : ∃ m : Nat, acc z 4 = m := ⟨(acc z 4).toNat, by omega⟩
      rw [hm]
      have HM := Lib.hid hm
      have hm9 : m < 4294967296 := by omega
      clear v0 v1 hm
      by_cases hbig : 65532 < m
      · have HK := Lib.hid (class_no m w (.inr (by omega)) HT.out)
        go_wp2_with fail
        refine HK.out.mono ?_
        rintro e W1 ⟨rfl, hB1⟩
        go_wp2
        go_ret2
        refine .inr ⟨fun m' h => ?_, rfl, hB1⟩
        have := padded_val h (by omega)
        have := HM.out
        have := h.1
        omega
      · have hsm : m ≤ 65532 := by omega
        have HK := Lib.hid (class_yes m w (by omega) (by omega) HT.out)
        have hcm := cls_lt m
        have hcm' : (cls m : Int) < 6 := by omega
        have hlm := lenc_eq m
        go_wp2_with fail
        refine HK.out.mono ?_
        rintro e W1 ⟨rfl, hB1⟩
        have T1 := Lib.hid (HT.out.below hB1)
        have hcell := T1.out.c (cls m) hcm
        rw [← hlm] at hcell
        have hfit := lenc_fit m hsm
        obtain ⟨L, hL⟩ : ∃ L, L = lenc m := ⟨_, rfl⟩
        rw [← hL] at hcell hfit
        have HL := Lib.hid hL
        clear hlm hL
        by_cases hne : L = n
        · subst hne
          have hfit' : 4 + (m : Int) ≤ L := by omega
          have hfit2 : 4 + (m : Int) ≤ c := by omega
          have R1 := Lib.hid (HR.out.below hB1)
          by_cases hcap : c = 4 + m
          · subst hcap
            have hLm : L = 4 + m := by omega
            subst hLm
            go_wp2_with fail
            refine (tail_no _ 0 (fun _ => 0) _ (no_bytes _ _ _ _) (by omega) (fun j hj => rfl)).mono ?_
            rintro e w' ⟨rfl, q, rfl⟩
            have PD := Lib.hid (padded_of hsm HL.out HZ.out HM.out (fun j hj => by omega))
            by_cases hm0 : m = 0
            · subst hm0
              go_wp2
              go_ret2
              exact .inl ⟨0, PD.out, _, rfl, no_bytes _ _ _ _, below_drewN2 hB1 q⟩
            · have hm1 : (0 : Int) < m := by omega
              go_wp2
              go_ret2
              exact .inl ⟨m, PD.out, _, rfl, sub_bytes (W := W1.drewN q) (l := 4 + m - 4) (c' := 4 + m - 4) (by omega) R1.out HZ.out (by omega) (Nat.le_refl _), below_drewN2 hB1 q⟩
          · have hcap' : ¬ ((c : Int) = 4 + m) := by omega
            by_cases htail : ∃ j, j < L - (4 + m) ∧ z (4 + m + j) ≠ 0
            · have HA := Lib.hid htail; clear htail
              go_wp2_with fail
              refine (tail_yes _ (L - (4 + m)) (fun j => z (4 + m + j)) _ (tail_bytes R1.out HZ.out (by omega) (by omega)) (by omega) HA.out).mono ?_
              rintro e w' ⟨rfl, q, rfl⟩
              go_wp2
              go_ret2
              refine .inr ⟨fun m' h => ?_, rfl, below_drewN2 hB1 q⟩
              have h1 := padded_val h (by omega)
              have h2 := HM.out
              obtain rfl : m' = m := by omega
              obtain ⟨j, hj, hjz⟩ := HA.out
              refine hjz ?_
              rw [h.2.2 (4 + m' + j) (by omega)]
              unfold padz
              rw [if_neg (by omega), if_neg (by omega)]
            · have hz0 : ∀ j, j < L - (4 + m) → z (4 + m + j) = 0 := fun j hj => Classical.byContradiction fun h => htail ⟨j, hj, h⟩
              have HA := Lib.hid hz0; clear htail hz0
              go_wp2_with fail
              refine (tail_no _ (L - (4 + m)) (fun j => z (4 + m + j)) _ (tail_bytes R1.out HZ.out (by omega) (by omega)) (by omega) HA.out).mono ?_
              rintro e w' ⟨rfl, q, rfl⟩
              have PD := Lib.hid (padded_of hsm HL.out HZ.out HM.out HA.out)
              by_cases hm0 : m = 0
              · subst hm0
                go_wp2
                go_ret2
                exact .inl ⟨0, PD.out, _, rfl, no_bytes _ _ _ _, below_drewN2 hB1 q⟩
              · have hm1 : (0 : Int) < m := by omega
                go_wp2
                go_ret2
                exact .inl ⟨m, PD.out, _, rfl, sub_bytes (W := W1.drewN q) (l := 4 + m - 4) (c' := 4 + m - 4) (by omega) R1.out HZ.out (by omega) (Nat.le_refl _), below_drewN2 hB1 q⟩
        · have hne' : ((L : Int) != n) = true := by simp; omega
          have hne2 : ((L : Int) == n) = false := by simp; omega
          go_wp2
          go_ret2
          refine .inr ⟨fun m' h => ?_, rfl, hB1⟩
          have h1 := padded_val h (by omega)
          have h2 := HM.out
          obtain rfl : m' = m := by omega
          exact hne (HL.out.trans h.2.1)

theorem unpad_any (v : Value) (n : Nat) (z : Nat → Int) (w : World) (ht : Tab w) (hb : Bytes w v n z) :
    Calls Tryd.prog 17 #[v] w fun e w' => (∃ m, Padded n z m ∧ ∃ u, e = .returned (.tuple #[u, .int .i64 0]) ∧ Bytes w' u m (fun j => z (j + 4)) ∧ Below w.heap.size w w') ∨ ((∀ m, ¬ Padded n z m) ∧ e = .returned (.tuple #[.slice none 0 0, .int .i64 280]) ∧ Below w.heap.size w w') := by
  by_cases hk : ∃ k, k < 6 ∧ (n : Int) = len6 k
  · obtain ⟨k, hk, hn⟩ := hk
    have hl := len6_bd k
    rcases hb.rep with ⟨b, off, c, rfl, hr, _, hc⟩ | ⟨a, c, rfl, rfl, _⟩
    · exact unpad_go b off n k c z w ht hk hn hr hb.byt hc
    · omega
  · have hno : ∀ k, k < 6 → len6 k ≠ n := fun k h6 e => hk ⟨k, h6, e.symm⟩
    have hnp : ∀ m, ¬ Padded n z m := fun m h => hk ⟨cls m, cls_lt m, by rw [← h.2.1, lenc_eq]⟩
    rcases hb.rep with ⟨b, off, c, rfl, hr, _, hc⟩ | ⟨a, c, rfl, rfl, _⟩
    · exact (unpad_len _ n c w ht hno).mono fun e w' h => .inr ⟨hnp, h.1, h.2 ▸ Below.refl _ _⟩
    · exact (unpad_len _ 0 c w ht hno).mono fun e w' h => .inr ⟨hnp, h.1, h.2 ▸ Below.refl _ _⟩
end Go.Proofs.YtofgnncodnfapaaDoor
