/- The walk of PaddingBytesSpec. -/
import Derived.Test.YtofgnncodnfapaaDoorLaw1
namespace Go.Proofs.YtofgnncodnfapaaDoor
open Go Go.RowKit

theorem Bytes.form {W : World} {v : Value} {n : Nat} {z : Nat → Int} (h : Bytes W v n z) : ∃ a c, v = .slice a n c := by
  rcases h.rep with ⟨b, off, c, rfl, _⟩ | ⟨a, c, rfl, rfl, _⟩
  · exact ⟨_, _, rfl⟩
  · exact ⟨_, _, rfl⟩
theorem Mine.any {B : Nat} {W : World} {v : Value} {n : Nat} {f : Nat → Int} (h : Mine B W v n f) : ∃ a c, v = .slice a n c := by
  rcases h.form with ⟨rfl, rfl⟩ | ⟨g, cap, rfl, _⟩
  · exact ⟨_, _, rfl⟩
  · exact ⟨_, _, rfl⟩

theorem Mine.copied {B : Nat} {W : World} {v : Value} {n : Nat} {f z : Nat → Int} (h : Mine B W v (0 + n) (cat 0 f z)) : Mine B W v n z := by
  have := h.congr (f' := z) fun j _ => congrArg z (Nat.sub_zero j)
  rwa [Nat.zero_add] at this

open Classical in
/-- How many bytes Unpad returns. -/
noncomputable def upN (n : Nat) (z : Nat → Int) : Nat := if h : ∃ m, Padded n z m then h.choose else 0
open Classical in
/-- The error of Unpad. -/
noncomputable def upE (n : Nat) (z : Nat → Int) : Int := if ∃ m, Padded n z m then 0 else 280
theorem up_yes {n m : Nat} {z : Nat → Int} (h : Padded n z m) : upN n z = m ∧ upE n z = 0 := by
  have he : ∃ m, Padded n z m := ⟨m, h⟩
  refine ⟨?_, if_pos he⟩
  unfold upN
  rw [dif_pos he]
  exact padded_unique he.choose_spec h
theorem up_no {n : Nat} {z : Nat → Int} (h : ∀ m, ¬ Padded n z m) : upN n z = 0 ∧ upE n z = 280 := by
  have he : ¬ ∃ m, Padded n z m := fun ⟨m, hm⟩ => h m hm
  exact ⟨dif_neg he, if_neg he⟩
theorem unpad_u (v : Value) (n : Nat) (z : Nat → Int) (w : World) (ht : Tab w) (hb : Bytes w v n z) :
    Calls Tryd.prog 17 #[v] w fun e w' => ∃ a c, e = .returned (.tuple #[.slice a (upN n z) c, .int .i64 (upE n z)]) ∧ Bytes w' (.slice a (upN n z) c) (upN n z) (fun j => z (j + 4)) ∧ Below w.heap.size w w' := by
  refine (unpad_any v n z w ht hb).mono ?_
  rintro e w' (⟨m, hm, u, rfl, hU, hB⟩ | ⟨hno, rfl, hB⟩)
  · rw [(up_yes hm).1, (up_yes hm).2]
    obtain ⟨a, c, rfl⟩ := hU.form
    exact ⟨a, c, rfl, hU, hB⟩
  · rw [(up_no hno).1, (up_no hno).2]
    exact ⟨_, _, rfl, none_bytes _ _, hB⟩
theorem runpad_u (v : Value) (n : Nat) (z : Nat → Int) (w : World) (hb : Bytes w v n z) (hn : n ≤ 1000000) :
    Calls Tryd.prog 18 #[v] w fun e w' => ∃ a c, e = .returned (.tuple #[.slice a (upN n z) c, .int .i64 (upE n z)]) ∧ Bytes w' (.slice a (upN n z) c) (upN n z) (fun j => z (j + 4)) ∧ Below w.heap.size w w' := by
  refine (runpad_any v n z w hb hn).mono ?_
  rintro e w' (⟨m, hm, u, rfl, hU, hB⟩ | ⟨hno, rfl, hB⟩)
  · rw [(up_yes hm).1, (up_yes hm).2]
    obtain ⟨a, c, rfl⟩ := hU.form
    exact ⟨a, c, rfl, hU, hB⟩
  · rw [(up_no hno).1, (up_no hno).2]
    exact ⟨_, _, rfl, none_bytes _ _, hB⟩

set_option maxHeartbeats 2000000 in
set_option maxRecDepth 100000 in
theorem bytes_walk (a : Option Addr) (n c : Nat) (z : Nat → Int) (q : Nat) (w : World) (ht : Tab w) (hb : Bytes w (.slice a n c) n z) (hn9 : n ≤ 9223372036854775807) (hq : q < 65536) :
    Calls Tryd.prog 4 #[.slice a n c, .int .u16 q] w fun e w' => e = .returned (.bool true) ∧ Below w.heap.size w w' := by
  have T0 := Lib.hid ht; have H0 := Lib.hid hb; clear ht hb
  go_enter Tryd.func4, Tryd.ntmps4
  go_wp2_with fail
  refine (sane_true _ T0.out).mono ?_
  rintro e W1 ⟨rfl, hB1⟩
  have B1 := Lib.hid hB1; have T1 := Lib.hid (T0.out.below hB1); have H1 := Lib.hid (H0.out.below hB1)
  clear hB1 T0 H0
  by_cases hbig : 5000 < n
  · have hbig' : (5000 : Int) < n := by omega
    go_wp2
    go_ret
    exact ⟨rfl, B1.out⟩
  have hsm : n ≤ 5000 := by omega
  have hsm' : ¬ (5000 : Int) < n := by omega
  obtain ⟨k, hk⟩ : ∃ k, k = q % 3000 := ⟨_, rfl⟩
  have hk9 : k ≤ 1000000 := by omega
  have HK := Lib.hid hk; have HQ := Lib.hid hq
  clear hk hq hbig
  have S1 := Lib.hid (H1.out.below (box_below W1 (.cells #[] 5)))
  have N1 : Hid (Mine W1.heap.size (W1.alloc (.cells #[] 5)) (.slice (some ⟨W1.heap.size, 0, none⟩) 0 0) 0 z) := Lib.hid (Mine.made (B := W1.heap.size) W1 0 z (Nat.le_refl _) (by omega))
  have A1 := Lib.hid (box_below W1 (.cells #[] 5))
  have e1 : wrap64 (q : Int) = q := by unfold wrap64; have := HQ.out; omega
  have e2 : (q : Int).tmod 3000 = (k : Int) := by rw [Int.tmod_eq_emod_of_nonneg (by omega)]; have := HK.out; omega
  go_wp2_with (first | (at_builtin; refine wp_app W1 rfl _ _ rfl _ 0 z rfl N1.out A1.out _ n z rfl S1.out (by omega) (by omega) ?_; intro v2 W2 hM2 hB2
                        obtain ⟨a2, c2, rfl⟩ := hM2.copied.any
                        have M2 := Lib.hid hM2.copied; have B2 := Lib.hid hB2
                        clear hM2 hB2) |
    (at_builtin; refine wp_zeros W1 rfl _ _ rfl _ n z rfl M2.out B2.out _ k rfl rfl (by omega) hk9 ?_; intro v3 W3 hM3 hB3
     obtain ⟨a3, c3, rfl⟩ := hM3.any
     have M3 := Lib.hid hM3; have B3 := Lib.hid hB3
     clear hM3 hB3 M2 B2) | fail)
  have Y3 := Lib.hid (M3.out.bytes (cat_byt H1.out.byt fun _ _ => ⟨Int.le_refl _, (by decide : (0 : Int) < 256)⟩))
  obtain ⟨N, hN⟩ : ∃ N, N = n + k := ⟨_, rfl⟩
  have hN9 : N ≤ 65532 := by have := HK.out; omega
  rw [← hN] at Y3 ⊢
  generalize cat n z (fun _ => 0) = y at Y3
  have T3 := Lib.hid (T1.out.below B3.out); have E3 := Lib.hid (B1.out.trans (B3.out.mono B1.out.size))
  clear hN M3 B3 T1 H1 S1 N1 A1 e1 e2 B1 HK HQ
  refine (pad_yes a3 N c3 y _ Y3.out hN9 T3.out).mono ?_
  rintro e W4 ⟨g4, rfl, hO4, _, hB4⟩
  have O4 := Lib.hid hO4; have Y4 := Lib.hid (Y3.out.below hB4); have T4 := Lib.hid (T3.out.below hB4); have E4 := Lib.hid (E3.out.trans (hB4.mono E3.out.size))
  clear hO4 hB4 Y3 T3 E3
  go_wp2_with fail
  refine (rpad_yes a3 N c3 y _ Y4.out hN9).mono ?_
  rintro e W5 ⟨v5, rfl, hP5, hB5⟩
  obtain ⟨a5, c5, rfl⟩ := hP5.form
  have P5 := Lib.hid hP5; have O5 := Lib.hid (O4.out.below hB5); have Y5 := Lib.hid (Y4.out.below hB5); have T5 := Lib.hid (T4.out.below hB5); have E5 := Lib.hid (E4.out.trans (hB5.mono E4.out.size))
  clear hP5 hB5 Y4 T4 E4 O4
  go_wp2_with fail
  refine (unpad_u _ N y _ T5.out Y5.out).mono ?_
  rintro e W6 ⟨a6, c6, rfl, hU6, hB6⟩
  have U6 := Lib.hid hU6; have P6 := Lib.hid (P5.out.below hB6); have O6 := Lib.hid (O5.out.below hB6); have Y6 := Lib.hid (Y5.out.below hB6); have E6 := Lib.hid (E5.out.trans (hB6.mono E5.out.size))
  clear hU6 hB6 Y5 T5 E5 O5 P5
  go_wp2_with fail
  refine (runpad_u _ N y _ Y6.out (by omega)).mono ?_
  rintro e W7 ⟨a7, c7, rfl, hU7, hB7⟩
  have h7 := str_run hU7; have h6 := str_run (U6.out.below hB7); have h5 := str_run (P6.out.below hB7)
  have hbyt := padz_byt Y6.out.byt (lenc N)
  have h4 := str_run ((O6.out.below hB7).bytes hbyt (lenc N) (Nat.le_refl _))
  have E7 := Lib.hid (E6.out.trans (hB7.mono E6.out.size))
  clear hU7 U6 P6 O6 Y6 E6 hB7 hbyt
  generalize str (lenc N) (padz N y) = S at *
  generalize str (upN N y) (fun j => y (j + 4)) = U at *
  generalize lenc N = L at *
  generalize upN N y = M at *
  generalize upE N y = G at *
  go_wp2
  go_ret
  exact ⟨rfl, E7.out⟩

theorem q_nat {q : Int} (h : (Lit.int .u16 q).wf = true) : ∃ k : Nat, q = k ∧ k < 65536 := by
  simp only [Lit.wf, Bool.and_eq_true, decide_eq_true_eq] at h
  have h1 : (0 : Int) ≤ q := h.1
  have h2 : q ≤ (65535 : Int) := h.2
  exact ⟨q.toNat, by omega, by omega⟩
theorem bytes_row (a : Option Addr) (n c : Nat) (zs : List Int) (q : Int) (w : World) (ht : Tab w) (h : IsRow .u8 w a n c zs) (hq : (Lit.int .u16 q).wf = true) :
    Calls Tryd.prog 4 #[.slice a n c, .int .u16 q] w fun e w' => e = .returned (.bool true) ∧ Below w.heap.size w w' := by
  obtain ⟨k, rfl, hk⟩ := q_nat hq
  exact bytes_walk a n c _ k w ht h.bytes.1 h.bytes.2 hk
end Go.Proofs.YtofgnncodnfapaaDoor
