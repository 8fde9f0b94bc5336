/- The walk of the statement PathsCover: it returns true for every input. -/
import Derived.Test.YtidlnaanldccfaaSane
import Derived.Test.YtidlnaanldccfaaMath2
namespace Go.Proofs.Ytidlnaanldccfaa
open Go Go.RowKit Go.Shelf

/-- The block of counts: a number for each device. -/
structure Met (W : World) (g : Nat) (m : Nat → Int) : Prop where
  cell : ∀ j, j < 512 → W.cell? ⟨g, j, none⟩ = some (.int .i64 (m j))
  free : ∀ j, j < 512 → W.frozen? ⟨g, j, none⟩ = false

theorem Met.made {w w' : World} {z : Nat} (h : w'.ownsRow z 3 1 (.slice (some ⟨w.heap.size, 0, none⟩) 512 512) 512 (madeCells (Value.int .i64 0).cells (512 * 1)).toList) : Met w' w.heap.size (fun _ => 0) := by
  refine ⟨fun j hj => ?_, fun j hj => h.frozenAt j⟩
  rw [h.cellAt j (by omega)]
  have e : (madeCells (Value.int .i64 0).cells (512 * 1)).toList = List.replicate (512 * 1) (.int .i64 0) := toList_madeCells_one _ _
  rw [e, List.getElem?_replicate, if_pos (by omega)]

theorem Met.set {W : World} {g : Nat} {m : Nat → Int} (h : Met W g m) (k : Nat) (hk : k < 512) (v : Int) : Met (W.setCell ⟨g, k, none⟩ (.int .i64 v)) g (fun j => if j = k then v else m j) := by
  refine ⟨fun j hj => ?_, fun j hj => by rw [World.frozen?_setCell]; exact h.free j hj⟩
  by_cases e : j = k
  · subst e
    simp only [if_pos]
    exact World.cell?_setCell_same' _ _ _ (by rw [h.cell j hk]; rfl)
  · simp only [if_neg e]
    exact (World.cell?_setCell_other _ _ _ _ (by intro he; cases he; exact e rfl)).trans (h.cell j hj)
theorem Met.drew {W : World} {g : Nat} {m : Nat → Int} (h : Met W g m) (q : Nat) : Met (W.drewN q) g m := ⟨h.cell, h.free⟩
theorem Met.congr {W : World} {g : Nat} {m m' : Nat → Int} (h : Met W g m) (he : ∀ j, j < 512 → m j = m' j) : Met W g m' := ⟨fun j hj => by rw [← he j hj]; exact h.cell j hj, h.free⟩

/-- Behind k nodes of the copath the devices are counted that have their k-th node in common with d. -/
def Cov (d : Int) (k : Nat) (m : Nat → Int) : Prop := ∀ j, j < 512 → m j = if nd j k = nd d k then 1 else 0
/-- And within the next node those up to e. -/
def CovIn (d : Int) (k : Nat) (n e : Int) (m : Nat → Int) : Prop := ∀ j, j < 512 → m j = if nd j k = nd d k ∨ (fr n ≤ j ∧ (j : Int) < e) then 1 else 0

theorem Cov.start (d : Int) (h0 : 0 ≤ d) : Cov d 0 (fun j => if j = d.toNat then 1 else 0) := by
  intro j hj
  rw [nd_zero, nd_zero]
  by_cases h : j = d.toNat
  · show (if j = d.toNat then (1 : Int) else 0) = _
    rw [if_pos h, if_pos (by omega)]
  · show (if j = d.toNat then (1 : Int) else 0) = _
    rw [if_neg h, if_neg (by omega)]
theorem Cov.into {d : Int} {k : Nat} {n : Int} {m : Nat → Int} (h : Cov d k m) : CovIn d k n (fr n) m := by
  intro j hj
  rw [h j hj]
  by_cases e : nd j k = nd d k
  · rw [if_pos e, if_pos (.inl e)]
  · rw [if_neg e, if_neg (by omega)]
theorem under_sib (d : Int) (k j : Nat) (h0 : 0 ≤ d) (h1 : d < 512) (hk : k < 9) : (fr (sib (nd d k)) ≤ j ∧ (j : Int) < till (sib (nd d k))) ↔ nd j k = sib (nd d k) := by
  rw [under_iff, lev_sib d k h0 h1 hk]
theorem CovIn.value {d : Int} {k : Nat} {e : Nat} {m : Nat → Int} (h : CovIn d k (sib (nd d k)) e m) (h0 : 0 ≤ d) (h1 : d < 512) (hk : k < 9) (he0 : fr (sib (nd d k)) ≤ e) (he1 : (e : Int) < till (sib (nd d k))) (he : e < 512) : m e = 0 := by
  rw [h e he, if_neg]
  have hu := (under_sib d k e h0 h1 hk).1 ⟨he0, he1⟩
  have hne := sib_ne (nd d k)
  omega
theorem CovIn.next {d : Int} {k : Nat} {e : Nat} {n : Int} {m : Nat → Int} (h : CovIn d k n e m) (he0 : fr n ≤ e) : CovIn d k n ((e : Int) + 1) (fun j => if j = e then 1 else m j) := by
  intro j hj
  by_cases hje : j = e
  · subst hje
    simp only [if_pos]
    rw [if_pos (.inr ⟨he0, by omega⟩)]
  · simp only [if_neg hje]
    rw [h j hj]
    by_cases c : nd j k = nd d k ∨ (fr n ≤ j ∧ (j : Int) < e)
    · rw [if_pos c, if_pos (by omega)]
    · rw [if_neg c, if_neg (by omega)]
theorem half_iff (x y : Int) : x / 2 = y / 2 ↔ x = y ∨ x = sib y := by unfold sib; split <;> omega
theorem CovIn.done {d : Int} {k : Nat} {m : Nat → Int} (h : CovIn d k (sib (nd d k)) (till (sib (nd d k))) m) (h0 : 0 ≤ d) (h1 : d < 512) (hk : k < 9) : Cov d (k + 1) m := by
  intro j hj
  rw [h j hj]
  have hu := under_sib d k j h0 h1 hk
  have hh := half_iff (nd j k) (nd d k)
  rw [← nd_succ, ← nd_succ] at hh
  by_cases c : nd j (k + 1) = nd d (k + 1)
  · rw [if_pos c, if_pos]
    rcases hh.1 c with c | c
    · exact .inl c
    · exact .inr (hu.2 c)
  · rw [if_neg c, if_neg]
    rintro (c' | c')
    · exact c (hh.2 (.inl c'))
    · exact c (hh.2 (.inr (hu.1 c')))
theorem Cov.all {d : Int} {m : Nat → Int} (h : Cov d 9 m) (h0 : 0 ≤ d) (h1 : d < 512) (j : Nat) (hj : j < 512) : m j = 1 := by
  rw [h j hj, if_pos]
  rw [nd_nine d h0 h1, nd_nine j (by omega) (by omega)]

set_option maxHeartbeats 2000000 in
set_option maxRecDepth 100000 in
theorem cover_out (d : Int) (w : World) (h : d < 0 ∨ 512 ≤ d) : Calls Try.prog 5 #[.int .i64 d] w fun e W' => e = .returned (.bool true) ∧ Below w.heap.size w W' := by
  have H := Lib.hid h
  rcases h with h | h
  · go_enter Try.func5, Try.ntmps5
    go_wp2_with fail
    refine (sane_true _).mono ?_
    rintro e W1 ⟨rfl, hB1⟩
    go_wp2_with fail
    refine (copath_no d _ H.out).mono ?_
    rintro e W2 ⟨rfl, hB2⟩
    go_wp2
    go_ret
    exact ⟨rfl, hB1.trans (hB2.mono hB1.size)⟩
  · have h2 : 0 ≤ d := by omega
    go_enter Try.func5, Try.ntmps5
    go_wp2_with fail
    refine (sane_true _).mono ?_
    rintro e W1 ⟨rfl, hB1⟩
    go_wp2_with fail
    refine (copath_no d _ H.out).mono ?_
    rintro e W2 ⟨rfl, hB2⟩
    go_wp2
    go_ret
    exact ⟨rfl, hB1.trans (hB2.mono hB1.size)⟩

set_option maxHeartbeats 2000000 in
set_option maxRecDepth 100000 in
theorem cover_in (d : Int) (w : World) (h0 : 0 ≤ d) (h1 : d < 512) : Calls Try.prog 5 #[.int .i64 d] w fun e W' => e = .returned (.bool true) ∧ Below w.heap.size w W' := by
  obtain ⟨i0, hi, hz0, hz1, hz2⟩ := info_parts info3
  go_enter Try.func5, Try.ntmps5
  go_wp2_with fail
  refine (sane_true _).mono ?_
  rintro e W1 ⟨rfl, hB1⟩
  go_wp2_with fail
  refine (copath_yes d _ h0 h1).mono ?_
  rintro e W2 ⟨g2, c2, rfl, hn2, hB2⟩
  have N2 := Lib.hid hn2; clear hn2
  go_wp2_with (at_make; refine wpList_make_full _ rfl _ _ 26 rfl W2.heap.size 3 i0 (.int .i64 0) 1 Try.underlying26 hi hz0 hz1 .i64 .i64 512 512 512 rfl rfl rfl rfl (by rw [hz2]; omega) (by unfold maxLen; omega) (Nat.le_refl _) ?_; intro W3 hown hgrow; have MET := Lib.hid (Met.made hown); have HB3 := Lib.hid ((Below.refl W2.heap.size W2).grown hgrow (Nat.le_refl _) (fun k e => by cases e)); clear hown hgrow; have hc := MET.out.cell d.toNat (by omega); have hf := MET.out.free d.toNat (by omega))
  clear hc hf
  go_loopw [6] (fun i wr => ∃ (k : Nat) (m : Nat → Int), k ≤ 9 ∧ i = .int .i64 k ∧ Met wr W2.heap.size m ∧ Cov d k m ∧ Below W2.heap.size W2 wr) (fun i _ => 9 - (intOf i).toNat)
  case atStart => exact ⟨0, _, by omega, rfl, MET.out.set d.toNat (by omega) 1, Cov.start d h0, HB3.out.setCell (p := ⟨W2.heap.size, d.toNat, none⟩) (Nat.le_refl _) _⟩
  case round =>
    obtain ⟨k, m, hk, rfl, hmet, hcov, hbel⟩ := hrel
    obtain ⟨wo, rfl⟩ : ∃ wo : World, wo = wr := ⟨_, rfl⟩
    have M := Lib.hid hmet; have V := Lib.hid hcov; have BB := Lib.hid hbel
    clear hmet hcov hbel
    by_cases hlt : k < 9
    · have hlt' : (k : Int) < 9 := by omega
      have c1 := (N2.out.below BB.out).at' k hlt
      obtain ⟨y0, y1⟩ := sib_pos d k h0 h1 hlt
      obtain ⟨f0, f1, f2⟩ := fr_bounds (sib (nd d k)) y0 y1
      go_wp2_with (go_at_call 20; refine (under_yes _ _ y0 y1).mono ?_; rintro e w' ⟨rfl, q, rfl⟩)
      go_loopw [10] (fun s wq => ∃ (e : Nat) (m' : Nat → Int), s = .int .i64 e ∧ fr (sib (nd d k)) ≤ e ∧ (e : Int) ≤ till (sib (nd d k)) ∧ Met wq W2.heap.size m' ∧ CovIn d k (sib (nd d k)) e m' ∧ Below W2.heap.size W2 wq) (fun s _ => (till (sib (nd d k)) - intOf s).toNat)
      case atStart =>
        refine ⟨(fr (sib (nd d k))).toNat, m, by rw [Int.toNat_of_nonneg f0], by omega, by omega, M.out.drew q, ?_, below_drewN2 BB.out q⟩
        rw [Int.toNat_of_nonneg f0]
        exact V.out.into
      case round =>
        obtain ⟨e, m', rfl, he0, he1, hmet, hcov, hbel⟩ := hrel
        by_cases hlt2 : (e : Int) < till (sib (nd d k))
        · have he : e < 512 := by omega
          have cc : wr.cell? ⟨W2.heap.size, e, none⟩ = some (.int .i64 0) := by
            rw [hmet.cell e he, hcov.value h0 h1 hlt he0 hlt2 he]
          have cf := hmet.free e he
          have M2 := Lib.hid (hmet.set e he 1)
          have V2 := Lib.hid (hcov.next he0)
          have B2 := Lib.hid (hbel.setCell (p := ⟨W2.heap.size, e, none⟩) (Nat.le_refl _) (.int .i64 1))
          clear hmet hcov hbel c1
          go_wp2
          go_roundw
          case rel => exact ⟨e + 1, _, by go_num, by omega, by omega, M2.out, by have := V2.out; rwa [show ((e + 1 : Nat) : Int) = (e : Int) + 1 by omega], B2.out⟩
          case measure => simp [intOf]; omega
        · have hee : (e : Int) = till (sib (nd d k)) := by omega
          have V2 : Hid (Cov d (k + 1) m') := by
            rw [hee] at hcov
            exact hcov.done h0 h1 hlt
          have M2 := Lib.hid hmet
          have B2 := Lib.hid hbel
          clear hmet hcov hbel hee c1
          go_wp2
          go_roundw
          case rel => exact ⟨k + 1, m', by omega, by go_num, M2.out, V2.out, B2.out⟩
          case measure => simp [intOf]; omega
    · obtain rfl : k = 9 := by omega
      have hend := hB1.trans ((hB2.mono hB1.size).trans (BB.out.mono (Nat.le_trans hB1.size hB2.size)))
      have HE := Lib.hid hend; clear hend
      go_wp2
      go_loop [11] (fun i => ∃ e : Nat, e ≤ 512 ∧ i = .int .i64 e) (fun i => 512 - (intOf i).toNat)
      case atStart => exact ⟨0, by omega, rfl⟩
      case round =>
        obtain ⟨e, he, rfl⟩ := hrel
        by_cases hlt : e < 512
        · have hlt' : (e : Int) < 512 := by omega
          have cc := M.out.cell e hlt
          rw [V.out.all h0 h1 e hlt] at cc
          go_wp2
          go_round
          case rel => exact ⟨e + 1, by omega, by go_num⟩
          case measure => simp [intOf]; omega
        · obtain rfl : e = 512 := by omega
          go_wp2
          go_ret
          exact ⟨rfl, HE.out⟩
theorem cover_true (d : Int) (w : World) : Calls Try.prog 5 #[.int .i64 d] w fun e W' => e = .returned (.bool true) ∧ Below w.heap.size w W' := by
  by_cases h : d < 0 ∨ 512 ≤ d
  · exact cover_out d w h
  · exact cover_in d w (by omega) (by omega)
end Go.Proofs.Ytidlnaanldccfaa
