/- Slices of bytes in memory: what a slice value reads as, a block of bytes of the call's own, and what a store and a copy leave. -/
import Derived.Test.YtofgnncodnfapaaDoorClass
import Derived.OwnWalk
import Derived.Laws.CopyOwn
import Derived.KernelRfl
namespace Go.Proofs.YtofgnncodnfapaaDoor
open Go Go.RowKit

theorem info5 : (Tryd.prog.info? 5).map (fun i => (i.zero, i.size, i.bytes)) = some (some (.int .u8 0), 1, 1) := by kernel_rfl

/-- A row of bytes. -/
def rowL (L : Nat) (f : Nat → Int) : List Value := (List.range L).map fun j => .int .u8 (f j)
theorem rowL_length (L : Nat) (f : Nat → Int) : (rowL L f).length = L := by simp [rowL]
theorem rowL_at (L : Nat) (f : Nat → Int) (j : Nat) : (rowL L f)[j]? = if j < L then some (.int .u8 (f j)) else none := by
  unfold rowL
  by_cases h : j < L
  · simp [h]
  · simp [h]
theorem rowL_congr {L : Nat} {f g : Nat → Int} (h : ∀ j, j < L → f j = g j) : rowL L f = rowL L g := by
  refine List.ext_getElem? fun j => ?_
  rw [rowL_at, rowL_at]
  by_cases hj : j < L
  · rw [if_pos hj, if_pos hj, h j hj]
  · rw [if_neg hj, if_neg hj]
theorem rowL_zero (L : Nat) : rowL L (fun _ => 0) = List.replicate L (.int .u8 0) := by
  refine List.ext_getElem? fun j => ?_
  rw [rowL_at, List.getElem?_replicate]

def upd (f : Nat → Int) (i : Nat) (v : Int) (j : Nat) : Int := if j = i then v else f j
theorem upd_self (f : Nat → Int) (i : Nat) (v : Int) : upd f i v i = v := if_pos rfl
theorem upd_ne {f : Nat → Int} {i j : Nat} (h : j ≠ i) (v : Int) : upd f i v j = f j := if_neg h

/-- Bytes. -/
def Byt (n : Nat) (z : Nat → Int) : Prop := ∀ j, j < n → 0 ≤ z j ∧ z j < 256

/-- The block g is a row of L bytes, none of it frozen. -/
def Owned (W : World) (g L : Nat) (f : Nat → Int) : Prop := W.heap[g]? = some (.cells (rowL L f).toArray 5 (0, 0))
theorem Owned.lt {W : World} {g L : Nat} {f : Nat → Int} (h : Owned W g L f) : g < W.heap.size := (Array.getElem?_eq_some_iff.1 h).1
theorem Owned.cell {W : World} {g L : Nat} {f : Nat → Int} (h : Owned W g L f) (j : Nat) (hj : j < L) : W.cell? ⟨g, j, none⟩ = some (.int .u8 (f j)) := by
  unfold Owned at h
  simp only [World.cell?, h]
  simp [rowL_at, hj]
theorem Owned.free {W : World} {g L : Nat} {f : Nat → Int} (h : Owned W g L f) (j : Nat) : W.frozen? ⟨g, j, none⟩ = false := by
  unfold Owned at h
  simp [World.frozen?, h]
theorem Owned.congr {W : World} {g L : Nat} {f f' : Nat → Int} (h : Owned W g L f) (he : ∀ j, j < L → f j = f' j) : Owned W g L f' := by
  unfold Owned at h ⊢
  rw [h, rowL_congr he]
theorem Owned.set {W : World} {g L : Nat} {f : Nat → Int} (h : Owned W g L f) (k : Nat) (hk : k < L) (v : Int) : Owned (W.setCell ⟨g, k, none⟩ (.int .u8 v)) g L (upd f k v) := by
  have hl : (W.setCell ⟨g, k, none⟩ (.int .u8 v)).heap[g]? = some (.cells ((rowL L f).toArray.setIfInBounds k (.int .u8 v)) 5 (0, 0)) := by
    unfold Owned at h
    simp only [World.setCell, Array.getElem?_modify, h]
    simp
  unfold Owned
  rw [hl]
  refine congrArg some (congrArg (fun x => Obj.cells x 5 (0, 0)) ?_)
  rw [List.setIfInBounds_toArray]
  refine congrArg _ (List.ext_getElem? fun j => ?_)
  rw [List.getElem?_set, rowL_at, rowL_at, rowL_length]
  by_cases hj : k = j
  · subst hj
    rw [if_pos rfl, if_pos hk, if_pos hk, upd_self]
  · rw [if_neg hj]
    unfold upd
    rw [if_neg (Ne.symm hj)]
theorem Owned.below {W W' : World} {g L : Nat} {f : Nat → Int} (h : Owned W g L f) (hB : Below W.heap.size W W') : Owned W' g L f := (hB.block g h.lt).trans h
theorem Owned.drew {W : World} {g L : Nat} {f : Nat → Int} (h : Owned W g L f) (q : Nat) : Owned (W.drewN q) g L f := h
theorem Owned.other {W : World} {g L : Nat} {f : Nat → Int} (h : Owned W g L f) {a : Addr} (hne : g ≠ a.block) (v : Value) : Owned (W.setCell a v) g L f := by
  unfold Owned
  simp only [World.setCell, Array.getElem?_modify]
  rw [if_neg (Ne.symm hne)]
  exact h

/-- The cells of a new slice of L bytes. -/
def zeros (L : Nat) : Array Value := madeCells (Value.int .u8 0).cells (L * 1)
theorem zeros_row (L : Nat) : zeros L = (rowL L (fun _ => 0)).toArray := by
  have e : (madeCells (Value.int .u8 0).cells (L * 1)).toList = List.replicate (L * 1) (.int .u8 0) := toList_madeCells_one _ _
  rw [Nat.mul_one] at e
  unfold zeros
  rw [Nat.mul_one, rowL_zero, ← e, Array.toArray_toList]
theorem make_run (L : Nat) (hL : L ≤ 281474976710656) (W : World) : (Instr.makeSlice 27 (.int .i64 (L : Int)) (.int .i64 (L : Int))).run Tryd.prog W = .ok (.slice (some ⟨W.heap.size, 0, none⟩) L L) (W.alloc (.cells (rowL L (fun _ => 0)).toArray 5)) := by
  obtain ⟨i0, hi, hz0, hz1, hz2⟩ := info_parts info5
  have hr := run_make (P := Tryd.prog) W 27 5 i0 (.int .u8 0) Tryd.underlying27 hi hz0 .i64 .i64 L L (by omega) (Int.le_refl _) (by rw [hz2]; omega) (by omega)
  simp only [Int.toNat_natCast, hz1] at hr
  rw [hr]
  exact congrArg (fun x => Result.ok _ (W.alloc (.cells x 5))) (zeros_row L)
theorem owned_made (W : World) (L : Nat) (f : Nat → Int) : Owned (W.alloc (.cells (rowL L f).toArray 5)) W.heap.size L f := by
  show (W.heap.push _)[W.heap.size]? = _
  simp

/-- A slice value that reads as n bytes. -/
structure Bytes (W : World) (v : Value) (n : Nat) (z : Nat → Int) : Prop where
  rep : (∃ b off c, v = .slice (some ⟨b, off, none⟩) n c ∧ (∀ j, j < n → W.cell? ⟨b, off + j, none⟩ = some (.int .u8 (z j))) ∧ (0 < n → b < W.heap.size) ∧ n ≤ c) ∨ (∃ a c, v = .slice a 0 c ∧ n = 0 ∧ (a = none → c = 0))
  byt : Byt n z
theorem Bytes.below {W W' : World} {v : Value} {n : Nat} {z : Nat → Int} (h : Bytes W v n z) (hB : Below W.heap.size W W') : Bytes W' v n z := by
  refine ⟨?_, h.byt⟩
  rcases h.rep with ⟨b, off, c, rfl, hr, hb⟩ | h
  · refine .inl ⟨b, off, c, rfl, fun j hj => ?_, fun hn => Nat.lt_of_lt_of_le (hb.1 hn) hB.size, hb.2⟩
    exact (hB.cell (p := ⟨b, off + j, none⟩) (hb.1 (by omega))).trans (hr j hj)
  · exact .inr h
theorem Owned.bytes {W : World} {g L : Nat} {f : Nat → Int} (h : Owned W g L f) (hf : Byt L f) (c : Nat) (hc : L ≤ c) : Bytes W (.slice (some ⟨g, 0, none⟩) L c) L f :=
  ⟨.inl ⟨g, 0, c, rfl, fun j hj => by rw [Nat.zero_add]; exact h.cell j hj, fun _ => h.lt, hc⟩, hf⟩
theorem Bytes.congr {W : World} {v : Value} {n : Nat} {z z' : Nat → Int} (h : Bytes W v n z) (he : ∀ j, j < n → z j = z' j) : Bytes W v n z' := by
  refine ⟨?_, fun j hj => he j hj ▸ h.byt j hj⟩
  rcases h.rep with ⟨b, off, c, rfl, hr, hb⟩ | h
  · exact .inl ⟨b, off, c, rfl, fun j hj => by rw [hr j hj, he j hj], hb⟩
  · exact .inr h
/-- A copied row. -/
theorem splice_row (L off n : Nat) (f z : Nat → Int) (h : off + n ≤ L) : splice (rowL L f) off (rowL n z) = rowL L (fun j => if off ≤ j ∧ j < off + n then z (j - off) else f j) := by
  refine List.ext_getElem? fun j => ?_
  unfold splice
  rw [rowL_length, rowL_at, List.getElem?_append, List.length_take, rowL_length, Nat.min_eq_left (by omega)]
  by_cases h1 : j < off
  · rw [if_pos h1, List.getElem?_take, if_pos h1, rowL_at]
    by_cases hj : j < L
    · rw [if_pos hj, if_pos hj, if_neg (by omega)]
    · omega
  · rw [if_neg h1, List.getElem?_append, rowL_length]
    by_cases h2 : j - off < n
    · rw [if_pos h2, rowL_at, if_pos h2, if_pos (by omega), if_pos (by omega)]
    · rw [if_neg h2, List.getElem?_drop, rowL_at, show off + n + (j - off - n) = j by omega]
      by_cases hj : j < L
      · rw [if_pos hj, if_pos hj, if_neg (by omega)]
      · rw [if_neg hj, if_neg hj]
end Go.Proofs.YtofgnncodnfapaaDoor
