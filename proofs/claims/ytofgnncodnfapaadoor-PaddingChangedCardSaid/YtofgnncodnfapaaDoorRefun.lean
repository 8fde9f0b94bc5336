/- The contract of Unpad of the reference. -/
import Derived.Test.YtofgnncodnfapaaDoorStr
namespace Go.Proofs.YtofgnncodnfapaaDoor
open Go Go.RowKit

theorem str_list {a b : ByteArray} (h : a.toList = b.toList) : a = b := Go.WideShapes.bytes_inj (by rw [← ByteArray.toList_eq, ← ByteArray.toList_eq, h])
theorem runpad_short (a : Option Addr) (n c : Nat) (w : World) (hn : n < 4) : Calls Tryd.prog 18 #[.slice a n c] w fun e w' => e = .returned (.tuple #[.slice none 0 0, .int .i64 280]) ∧ w = w' := by
  have h : (n : Int) < 4 := by omega
  go_enter Tryd.func18, Tryd.ntmps18
  go_wp2
  go_ret2
  exact ⟨rfl, rfl⟩

set_option maxHeartbeats 4000000 in
set_option maxRecDepth 100000 in
theorem runpad_go (b off n c : Nat) (z : Nat → Int) (w : World) (hb : RowB w b off n z) (hz : Byt n z) (hc : n ≤ c) (hn : 4 ≤ n) (hn9 : n ≤ 1000000) :
    Calls Tryd.prog 18 #[.slice (some ⟨b, off, none⟩) n c] w fun e w' => (∃ m, Padded n z m ∧ ∃ v, e = .returned (.tuple #[v, .int .i64 0]) ∧ Bytes w' v m (fun j => z (j + 4)) ∧ Below w.heap.size w w') ∨ ((∀ m, ¬ Padded n z m) ∧ e = .returned (.tuple #[.slice none 0 0, .int .i64 280]) ∧ Below w.heap.size w w') := by
  have c0 : w.cell? ⟨b, off, none⟩ = some (.int .u8 (z 0)) := hb 0 (by omega)
  have c1 := hb 1 (by omega); have c2 := hb 2 (by omega); have c3 := hb 3 (by omega)
  obtain ⟨z00, z01⟩ := hz 0 (by omega); obtain ⟨z10, z11⟩ := hz 1 (by omega); obtain ⟨z20, z21⟩ := hz 2 (by omega); obtain ⟨z30, z31⟩ := hz 3 (by omega)
  have w1 : IntKind.i64.wrap (z 0 * 256) = z 0 * 256 := IntWalk.i64_in _ ⟨by omega, by omega⟩
  have w2 : IntKind.i64.wrap (z 0 * 256 + z 1) = z 0 * 256 + z 1 := IntWalk.i64_in _ ⟨by omega, by omega⟩
  have w3 : IntKind.i64.wrap ((z 0 * 256 + z 1) * 256) = (z 0 * 256 + z 1) * 256 := IntWalk.i64_in _ ⟨by omega, by omega⟩
  have w4 : IntKind.i64.wrap ((z 0 * 256 + z 1) * 256 + z 2) = (z 0 * 256 + z 1) * 256 + z 2 := IntWalk.i64_in _ ⟨by omega, by omega⟩
  have w5 : IntKind.i64.wrap (((z 0 * 256 + z 1) * 256 + z 2) * 256) = ((z 0 * 256 + z 1) * 256 + z 2) * 256 := IntWalk.i64_in _ ⟨by omega, by omega⟩
  have w6 : IntKind.i64.wrap (((z 0 * 256 + z 1) * 256 + z 2) * 256 + z 3) = ((z 0 * 256 + z 1) * 256 + z 2) * 256 + z 3 := IntWalk.i64_in _ ⟨by omega, by omega⟩
  have hnc : (4 : Int) ≤ n := by omega
  have k0 : IntKind.i64.wrap (z 0) = z 0 := IntWalk.i64_in _ ⟨by omega, by omega⟩
  have k1 : IntKind.i64.wrap (z 1) = z 1 := IntWalk.i64_in _ ⟨by omega, by omega⟩
  have k2 : IntKind.i64.wrap (z 2) = z 2 := IntWalk.i64_in _ ⟨by omega, by omega⟩
  have k3 : IntKind.i64.wrap (z 3) = z 3 := IntWalk.i64_in _ ⟨by omega, by omega⟩
  have i0 : (0 : Int) < n := by omega
  have i1 : (1 : Int) < n := by omega
  have i2 : (2 : Int) < n := by omega
  have i3 : (3 : Int) < n := by omega
  go_enter Tryd.func18, Tryd.ntmps18
  go_wp2
  go_quiet (fail)
  have HV : Hid (acc z 4 = ((z 0 * 256 + z 1) * 256 + z 2) * 256 + z 3) := Lib.hid (acc4 z)
  obtain ⟨m, hm⟩ : ∃ m : Nat, ((z 0 * 256 + z 1) * 256 + z 2) * 256 + z 3 = m := ⟨(((z 0 * 256 + z 1) * 256 + z 2) * 256 + z 3).toNat, by omega⟩
  rw [hm] at HV ⊢
  have hm9 : m < 4294967296 := by omega
  have HR := Lib.hid hb; have HZ := Lib.hid hz
  clear w1 w2 w3 w4 w5 w6 k0 k1 k2 k3 c0 c1 c2 c3 z00 z01 z10 z11 z20 z21 z30 z31 hm hb hz i0 i1 i2 i3
  have B0 := Lib.hid (below_drewN2 (Below.refl w.heap.size w) nq)
  by_cases hbig : n < m + 4
  · have hbig' : (n : Int) - 4 < m := by omega
    go_wp2
    go_ret2
    refine .inr ⟨fun m' h => ?_, rfl, B0.out⟩
    have h1 := padded_val h (by omega)
    have h2 := HV.out
    have h3 := lenc_fit m' h.1
    have h4 := h.2.1
    omega
  · have hbig' : ¬ ((n : Int) - 4 < m) := by omega
    have hb1 : (m : Int) ≤ (n : Int) - 4 := by omega
    have hb2 : 4 + (m : Int) ≤ c := by omega
    by_cases hc4 : c = 4
    · subst hc4
      obtain rfl : n = 4 := by omega
      obtain rfl : m = 0 := by omega
      have ME : Hid (Mine w.heap.size ((w.drewN nq).alloc (.cells #[] 5)) (.slice (some ⟨w.heap.size, 0, none⟩) 0 0) 0 z) := Lib.hid (Mine.made (B := w.heap.size) (w.drewN nq) 0 z (by simp) (by omega))
      have BE := Lib.hid (B0.out.alloc B0.out.size (.cells #[] 5))
      go_wp2_with (at_builtin; refine wp_app w rfl _ _ rfl _ 0 z rfl ME.out BE.out _ 0 (fun j => z (j + 4)) rfl (no_bytes _ _ _ _) (by omega) (by omega) ?_; intro v2 W2 hM2 hB2)
      have hM3 : Mine w.heap.size W2 v2 0 (fun j => z (j + 4)) := by
        have := hM2.congr (f' := fun j => z (j + 4)) fun j hj => by unfold cat; rw [if_neg (by omega), Nat.sub_zero]
        rwa [Nat.zero_add] at this
      have S2 := Lib.hid (hM3.bytes fun j hj => HZ.out (j + 4) (by omega))
      obtain ⟨a2, c2, rfl⟩ : ∃ a2 c2, v2 = .slice a2 0 c2 := by
        rcases hM3.form with ⟨h, _⟩ | ⟨g, cap, h, _⟩
        · exact ⟨_, _, h⟩
        · exact ⟨_, _, h⟩
      have B2 := Lib.hid hB2
      clear hM2 hM3 hB2 ME BE
      by_cases hov : 65532 < 0
      · refine (rpad_no a2 0 c2 _ hov (by omega)).mono ?_
        rintro e w' ⟨rfl, rfl⟩
        go_wp2
        go_ret2
        refine .inr ⟨fun m' h => ?_, rfl, B2.out⟩
        have h1 := padded_val h (by omega)
        have h2 := HV.out
        have := h.1
        omega
      · refine (rpad_yes a2 0 c2 _ _ S2.out (by omega)).mono ?_
        rintro e W3 ⟨v3, rfl, hb3, hB3⟩
        obtain ⟨a3, l3, c3, rfl⟩ : ∃ a3 l3 c3, v3 = .slice a3 l3 c3 := by
          rcases hb3.rep with ⟨b', o', c', h, _⟩ | ⟨a', c', h, _⟩
          · exact ⟨_, _, _, h⟩
          · exact ⟨_, _, _, h⟩
        have hs2 := str_run hb3
        have B3 := Lib.hid (B2.out.trans (hB3.mono B2.out.size))
        have hs1 := str_run (w := W3) (a := some ⟨b, off, none⟩) (l := 4) (c := 4) (n := 4) (z := z) ⟨.inl ⟨b, off, 4, rfl, HR.out.below B3.out, fun h => cell_in (HR.out.below B3.out 0 h), hc⟩, HZ.out⟩
        have S3 := Lib.hid (S2.out.below hB3)
        have Z3 := Lib.hid hb3.byt
        clear hb3 hB3
        by_cases hpd : str 4 z = str (lenc 0) (padz 0 fun j => z (j + 4))
        · have ht : ((str 4 z).toList == (str (lenc 0) (padz 0 fun j => z (j + 4))).toList) = true := by rw [hpd]; simp
          have PD : Hid (Padded 4 z 0) := by
            obtain ⟨e1, e2⟩ := str_inj HZ.out Z3.out hpd
            exact Lib.hid ⟨by omega, e1.symm, e2⟩
          clear hpd
          go_wp2
          go_ret2
          exact .inl ⟨0, PD.out, _, rfl, S3.out, B3.out⟩
        · have ht : ((str 4 z).toList == (str (lenc 0) (padz 0 fun j => z (j + 4))).toList) = false := by
            simpa using fun h => hpd (str_list h)
          have NP := Lib.hid hpd
          clear hpd
          go_wp2
          go_ret2
          refine .inr ⟨fun m' h => ?_, rfl, B3.out⟩
          have h1 := padded_val h (by omega)
          have h2 := HV.out
          obtain rfl : m' = 0 := by omega
          obtain ⟨_, e1, e2⟩ := h
          have := (lenc_bd 0).1
          omega
    · have hc4' : ¬ ((c : Int) = 4) := by omega
      have ME : Hid (Mine w.heap.size ((w.drewN nq).alloc (.cells #[] 5)) (.slice (some ⟨w.heap.size, 0, none⟩) 0 0) 0 z) := Lib.hid (Mine.made (B := w.heap.size) (w.drewN nq) 0 z (by simp) (by omega))
      have BE := Lib.hid (B0.out.alloc B0.out.size (.cells #[] 5))
      go_wp2_with (at_builtin; refine wp_app w rfl _ _ rfl _ 0 z rfl ME.out BE.out _ m (fun j => z (j + 4)) rfl ((sub_bytes (l := 4 + m - 4) (c' := c - 4) (by omega) HR.out HZ.out (by omega) (by omega)).below BE.out) (by omega) (by omega) ?_; intro v2 W2 hM2 hB2)
      have hM3 : Mine w.heap.size W2 v2 m (fun j => z (j + 4)) := by
        have := hM2.congr (f' := fun j => z (j + 4)) fun j hj => by unfold cat; rw [if_neg (by omega), Nat.sub_zero]
        rwa [Nat.zero_add] at this
      have S2 := Lib.hid (hM3.bytes fun j hj => HZ.out (j + 4) (by omega))
      obtain ⟨a2, c2, rfl⟩ : ∃ a2 c2, v2 = .slice a2 m c2 := by
        rcases hM3.form with ⟨h, rfl⟩ | ⟨g, cap, h, _⟩
        · exact ⟨_, _, h⟩
        · exact ⟨_, _, h⟩
      have B2 := Lib.hid hB2
      clear hM2 hM3 hB2 ME BE
      by_cases hov : 65532 < m
      · refine (rpad_no a2 m c2 _ hov (by omega)).mono ?_
        rintro e w' ⟨rfl, rfl⟩
        go_wp2
        go_ret2
        refine .inr ⟨fun m' h => ?_, rfl, B2.out⟩
        have h1 := padded_val h (by omega)
        have h2 := HV.out
        have := h.1
        omega
      · refine (rpad_yes a2 m c2 _ _ S2.out (by omega)).mono ?_
        rintro e W3 ⟨v3, rfl, hb3, hB3⟩
        obtain ⟨a3, l3, c3, rfl⟩ : ∃ a3 l3 c3, v3 = .slice a3 l3 c3 := by
          rcases hb3.rep with ⟨b', o', c', h, _⟩ | ⟨a', c', h, _⟩
          · exact ⟨_, _, _, h⟩
          · exact ⟨_, _, _, h⟩
        have hs2 := str_run hb3
        have B3 := Lib.hid (B2.out.trans (hB3.mono B2.out.size))
        have hs1 := str_run (w := W3) (a := some ⟨b, off, none⟩) (l := n) (c := c) (n := n) (z := z) ⟨.inl ⟨b, off, c, rfl, HR.out.below B3.out, fun h => cell_in (HR.out.below B3.out 0 h), hc⟩, HZ.out⟩
        have S3 := Lib.hid (S2.out.below hB3)
        have Z3 := Lib.hid hb3.byt
        clear hb3 hB3
        by_cases hpd : str n z = str (lenc m) (padz m fun j => z (j + 4))
        · have ht : ((str n z).toList == (str (lenc m) (padz m fun j => z (j + 4))).toList) = true := by rw [hpd]; simp
          have PD : Hid (Padded n z m) := by
            obtain ⟨e1, e2⟩ := str_inj HZ.out Z3.out hpd
            exact Lib.hid ⟨by omega, e1.symm, e2⟩
          clear hpd
          go_wp2
          go_ret2
          exact .inl ⟨m, PD.out, _, rfl, S3.out, B3.out⟩
        · have ht : ((str n z).toList == (str (lenc m) (padz m fun j => z (j + 4))).toList) = false := by
            simpa using fun h => hpd (str_list h)
          have NP := Lib.hid hpd
          clear hpd
          go_wp2
          go_ret2
          refine .inr ⟨fun m' h => ?_, rfl, B3.out⟩
          have h1 := padded_val h (by omega)
          have h2 := HV.out
          obtain rfl : m' = m := by omega
          obtain ⟨_, e1, e2⟩ := h
          subst e1
          exact NP.out (str_congr e2)

theorem runpad_any (v : Value) (n : Nat) (z : Nat → Int) (w : World) (hb : Bytes w v n z) (hn9 : n ≤ 1000000) :
    Calls Tryd.prog 18 #[v] w fun e w' => (∃ m, Padded n z m ∧ ∃ u, e = .returned (.tuple #[u, .int .i64 0]) ∧ Bytes w' u m (fun j => z (j + 4)) ∧ Below w.heap.size w w') ∨ ((∀ m, ¬ Padded n z m) ∧ e = .returned (.tuple #[.slice none 0 0, .int .i64 280]) ∧ Below w.heap.size w w') := by
  by_cases hn : 4 ≤ n
  · rcases hb.rep with ⟨b, off, c, rfl, hr, _, hc⟩ | ⟨a, c, rfl, rfl, _⟩
    · exact runpad_go b off n c z w hr hb.byt hc hn hn9
    · omega
  · have hnp : ∀ m, ¬ Padded n z m := fun m h => by have := h.2.1; have := (lenc_bd m).1; omega
    rcases hb.rep with ⟨b, off, c, rfl, hr, _, hc⟩ | ⟨a, c, rfl, rfl, _⟩
    · exact (runpad_short _ n c w (by omega)).mono fun e w' h => .inr ⟨hnp, h.1, h.2 ▸ Below.refl _ _⟩
    · exact (runpad_short _ 0 c w (by omega)).mono fun e w' h => .inr ⟨hnp, h.1, h.2 ▸ Below.refl _ _⟩
end Go.Proofs.YtofgnncodnfapaaDoor
