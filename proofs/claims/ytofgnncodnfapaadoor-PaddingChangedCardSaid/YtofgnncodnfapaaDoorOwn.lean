/- A store into a slice of bytes of the call's own; which bytes are padded ones, and which are not. -/
import Derived.Test.YtofgnncodnfapaaDoorZeros
import Derived.Test.YtofgnncodnfapaaDoorRefun
namespace Go.Proofs.YtofgnncodnfapaaDoor
open Go Go.RowKit

theorem Mine.free {B : Nat} {W : World} {g n cap : Nat} {f : Nat → Int} (h : Mine B W (.slice (some ⟨g, 0, none⟩) n cap) n f) (j : Nat) : W.frozen? ⟨g, j, none⟩ = false := by
  rcases h.2 with ⟨h, _⟩ | ⟨g', cap', cur, he, _, hg, _⟩
  · cases h
  · cases he
    simp [World.frozen?, hg]
theorem Mine.cell {B : Nat} {W : World} {g n cap : Nat} {f : Nat → Int} (h : Mine B W (.slice (some ⟨g, 0, none⟩) n cap) n f) (j : Nat) (hj : j < n) : W.cell? ⟨g, j, none⟩ = some (.int .u8 (f j)) := by
  rcases h.form with ⟨h, _⟩ | ⟨g', cap', he, _, _, _, hc⟩
  · cases h
  · cases he
    exact hc j hj
theorem Mine.old {B : Nat} {W : World} {g n cap : Nat} {f : Nat → Int} (h : Mine B W (.slice (some ⟨g, 0, none⟩) n cap) n f) : B ≤ g ∧ n ≤ cap := by
  rcases h.form with ⟨h, _⟩ | ⟨g', cap', he, hb, _, hc, _⟩
  · cases h
  · cases he
    exact ⟨hb, hc⟩
theorem Mine.slice {B : Nat} {W : World} {v : Value} {n : Nat} {f : Nat → Int} (h : Mine B W v n f) (hn : 0 < n) : ∃ g cap, v = .slice (some ⟨g, 0, none⟩) n cap := by
  rcases h.form with ⟨_, h⟩ | ⟨g, cap, h, _⟩
  · omega
  · exact ⟨g, cap, h⟩
theorem Mine.set {B : Nat} {W : World} {g n cap : Nat} {f : Nat → Int} (h : Mine B W (.slice (some ⟨g, 0, none⟩) n cap) n f) (k : Nat) (hk : k < n) (v : Int) : Mine B (W.setCell ⟨g, k, none⟩ (.int .u8 v)) (.slice (some ⟨g, 0, none⟩) n cap) n (upd f k v) := by
  rcases h.2 with ⟨h, _⟩ | ⟨g', cap', cur, he, hb, hg, hn, hm, hs, ht⟩
  · cases h
  · cases he
    refine ⟨by rw [rowL_length, Nat.mul_one], .inr ⟨g, cap, cur.setIfInBounds k (.int .u8 v), rfl, hb, ?_, hn, hm, by simpa using hs, ?_⟩⟩
    · simp only [World.setCell, Array.getElem?_modify, hg]
      simp
    · refine List.ext_getElem? fun j => ?_
      have e := congrArg (fun l => l[j]?) ht
      simp only [List.getElem?_take, rowL_at, Nat.mul_one] at e
      simp only [List.getElem?_take, rowL_at, Nat.mul_one, Array.toList_setIfInBounds]
      by_cases hj : j < n
      · rw [if_pos hj] at e ⊢
        rw [if_pos hj] at e ⊢
        by_cases hjk : j = k
        · subst hjk
          rw [List.getElem?_set_self (by simp; omega), upd_self]
        · rw [List.getElem?_set_ne (Ne.symm hjk), upd_ne hjk, e]
      · rw [if_neg hj, if_neg hj]
theorem below_set {B : Nat} {w W : World} (h : Below B w W) (a : Addr) (v : Value) (ha : B ≤ a.block) : Below B w (W.setCell a v) := by
  refine ⟨h.os, h.tape, h.output, by simpa [World.setCell] using h.size, fun i hi => ?_⟩
  have : a.block ≠ i := by omega
  simp only [World.setCell, Array.getElem?_modify, if_neg this]
  exact h.block i hi
theorem upd_byt {n : Nat} {f : Nat → Int} (h : Byt n f) (k : Nat) (v : Int) (hv : 0 ≤ v ∧ v < 256) : Byt n (upd f k v) := by
  intro j hj
  unfold upd
  by_cases e : j = k
  · rw [if_pos e]; exact hv
  · rw [if_neg e]; exact h j hj

theorem padded_pad (n : Nat) (z : Nat → Int) (h : n ≤ 65532) : Padded (lenc n) (padz n z) n := by
  refine ⟨h, rfl, fun j _ => ?_⟩
  unfold padz
  by_cases h1 : j < 4
  · rw [if_pos h1, if_pos h1]
  · rw [if_neg h1, if_neg h1]
    by_cases h2 : j < 4 + n
    · rw [if_pos h2, if_pos h2]
      show z (j - 4) = if j - 4 + 4 < 4 then _ else if j - 4 + 4 < 4 + n then z (j - 4 + 4 - 4) else 0
      rw [if_neg (by omega), if_pos (by omega)]
      exact congrArg z (by omega)
    · rw [if_neg h2, if_neg h2]
theorem padded_unique {n m m' : Nat} {z : Nat → Int} (h : Padded n z m) (h' : Padded n z m') : m = m' := by
  have hb := lenc_bd m
  have h1 := padded_val h (by rw [← h.2.1]; omega)
  have h2 := padded_val h' (by rw [← h.2.1]; omega)
  omega
theorem padded_congr {n m : Nat} {z z' : Nat → Int} (h : Padded n z m) (he : ∀ j, j < n → z j = z' j) : Padded n z' m := by
  refine ⟨h.1, h.2.1, fun j hj => ?_⟩
  have hf := lenc_fit m h.1
  rw [← he j hj, h.2.2 j hj]
  unfold padz
  by_cases h1 : j < 4
  · rw [if_pos h1, if_pos h1]
  · rw [if_neg h1, if_neg h1]
    by_cases h2 : j < 4 + m
    · rw [if_pos h2, if_pos h2]
      exact he _ (by have := h.2.1; omega)
    · rw [if_neg h2, if_neg h2]
theorem padz_list (n : Nat) (z : Nat → Int) (j : Nat) (hj : j < n) : padz n z (j + 4) = z j := by
  unfold padz
  rw [if_neg (by omega), if_pos (by omega)]
  exact congrArg z (by omega)
theorem padz_tail (n : Nat) (z : Nat → Int) (j : Nat) (hj : 4 + n ≤ j) : padz n z j = 0 := by
  unfold padz
  rw [if_neg (by omega), if_neg (by omega)]

theorem no_empty (z : Nat → Int) (m : Nat) : ¬ Padded 0 z m := fun h => by have := lenc_bd m; have := h.2.1; omega
theorem lenc1 : lenc 1 = 64 := by decide
theorem lenc0 : lenc 0 = 64 := by decide
/-- The bytes of the example. -/
def ex1 : Nat → Int := padz 1 fun _ => 7
theorem ex1_byt (n : Nat) : Byt n ex1 := padz_byt (fun _ _ => by omega) n
theorem no_odd (m : Nat) : ¬ Padded 64 (upd ex1 63 1) m := fun h => by
  have h4 := padded_val h (by omega)
  rw [acc4] at h4
  have e : val4 (upd ex1 63 1) = 1 := by decide
  rw [e] at h4
  obtain rfl : m = 1 := by omega
  have h63 := h.2.2 63 (by omega)
  rw [upd_self, padz_tail _ _ _ (by omega)] at h63
  cases h63
theorem no_long (m : Nat) : ¬ Padded (64 + 192) (cat 64 ex1 fun _ => 0) m := fun h => by
  have h4 := padded_val h (by omega)
  rw [acc4] at h4
  have e : val4 (cat 64 ex1 fun _ => 0) = 1 := by decide
  rw [e] at h4
  obtain rfl : m = 1 := by omega
  have := h.2.1
  rw [lenc1] at this
  omega
theorem ex1_padded : Padded 64 ex1 1 := lenc1 ▸ padded_pad 1 (fun _ => 7) (by omega)
end Go.Proofs.YtofgnncodnfapaaDoor
