/- A slice of bytes of the call's own, and append to it of bytes that came from wherever. -/
import Derived.Test.YtofgnncodnfapaaDoorPad
import Derived.Laws.AppendOwnNone
namespace Go.Proofs.YtofgnncodnfapaaDoor
open Go Go.RowKit

def cat (n : Nat) (f z : Nat → Int) (j : Nat) : Int := if j < n then f j else z (j - n)
theorem rowL_cat (n m : Nat) (f z : Nat → Int) : rowL n f ++ rowL m z = rowL (n + m) (cat n f z) := by
  refine List.ext_getElem? fun j => ?_
  rw [List.getElem?_append, rowL_length, rowL_at, rowL_at, rowL_at]
  unfold cat
  by_cases h1 : j < n
  · rw [if_pos h1, if_pos h1, if_pos (by omega), if_pos h1]
  · rw [if_neg h1, if_neg h1]
    by_cases h2 : j - n < m
    · rw [if_pos h2, if_pos (by omega)]
    · rw [if_neg h2, if_neg (by omega)]
theorem cat_byt {n m : Nat} {f z : Nat → Int} (h : Byt n f) (h' : Byt m z) : Byt (n + m) (cat n f z) := by
  intro j hj
  unfold cat
  by_cases h1 : j < n
  · rw [if_pos h1]; exact h j h1
  · rw [if_neg h1]; exact h' (j - n) (by omega)
theorem rowL_byt {W : World} {v : Value} {n : Nat} {z : Nat → Int} (h : Bytes W v n z) : Byt n z := h.byt

/-- A slice of n bytes in a block not older than B, of the call's own. -/
def Mine (B : Nat) (W : World) (v : Value) (n : Nat) (f : Nat → Int) : Prop := W.ownsRow B 5 1 v n (rowL n f)
theorem Mine.form {B : Nat} {W : World} {v : Value} {n : Nat} {f : Nat → Int} (h : Mine B W v n f) : (v = .slice none 0 0 ∧ n = 0) ∨ ∃ g cap, v = .slice (some ⟨g, 0, none⟩) n cap ∧ B ≤ g ∧ g < W.heap.size ∧ n ≤ cap ∧ ∀ j, j < n → W.cell? ⟨g, j, none⟩ = some (.int .u8 (f j)) := by
  rcases h.2 with h | ⟨g, cap, cur, rfl, hb, hg, hn, hm, hs, ht⟩
  · exact .inl h
  · refine .inr ⟨g, cap, rfl, hb, (Array.getElem?_eq_some_iff.1 hg).1, hn, fun j hj => ?_⟩
    have e := rowL_at n f j
    rw [if_pos hj, ← ht, List.getElem?_take, if_pos (by omega)] at e
    simp only [World.cell?, hg]
    simpa using e
theorem Mine.bytes {B : Nat} {W : World} {v : Value} {n : Nat} {f : Nat → Int} (h : Mine B W v n f) (hf : Byt n f) : Bytes W v n f := by
  rcases h.form with ⟨rfl, rfl⟩ | ⟨g, cap, rfl, _, hlt, hnc, hc⟩
  · exact ⟨.inr ⟨_, _, rfl, rfl, fun _ => rfl⟩, hf⟩
  · exact ⟨.inl ⟨g, 0, cap, rfl, fun j hj => by rw [Nat.zero_add]; exact hc j hj, fun _ => hlt, hnc⟩, hf⟩
theorem Mine.congr {B : Nat} {W : World} {v : Value} {n : Nat} {f f' : Nat → Int} (h : Mine B W v n f) (he : ∀ j, j < n → f j = f' j) : Mine B W v n f' := by
  unfold Mine at h ⊢
  rwa [← rowL_congr he]
theorem Mine.nil (B : Nat) (W : World) (f : Nat → Int) : Mine B W (.slice none 0 0) 0 f := World.ownsRow_nil W _ _ _
theorem Mine.made {B : Nat} (W : World) (n : Nat) (f : Nat → Int) (hB : B ≤ W.heap.size) (hn : n ≤ 1000000) : Mine B (W.alloc (.cells (rowL n f).toArray 5)) (.slice (some ⟨W.heap.size, 0, none⟩) n n) n f := by
  have := World.ownsRow_lit (base := B) (e := 5) (size := 1) W (rowL n f).toArray n hB (by unfold maxLen; omega) (by simp [rowL_length])
  exact this
theorem Mine.below {B : Nat} {W W' : World} {v : Value} {n : Nat} {f : Nat → Int} (h : Mine B W v n f) (hB : Below W.heap.size W W') : Mine B W' v n f := by
  refine ⟨h.1, ?_⟩
  rcases h.2 with h | ⟨g, cap, cur, rfl, hb, hg, r⟩
  · exact .inl h
  · exact .inr ⟨g, cap, cur, rfl, hb, (hB.block g (Array.getElem?_eq_some_iff.1 hg).1).trans hg, r⟩
theorem Mine.grown {w W W' : World} {v : Value} {n : Nat} {f : Nat → Int} (h : Mine w.heap.size W v n f) (hB : Below w.heap.size w W) (hg : W.grownBy W' v.ownBlock) : Below w.heap.size w W' := by
  refine hB.grown hg (Nat.le_trans hB.size (Nat.le_refl _)) fun j ej => ?_
  rcases h.2 with ⟨rfl, _⟩ | ⟨g, cap, cur, rfl, hb, _, _⟩
  · simp [Value.ownBlock] at ej
  · obtain rfl : g = j := by simpa [Value.ownBlock] using ej
    exact hb

theorem wp_app {ops : Array Oper} {rest : List Oper} {o : Oper} {a : Act} {Q : Exit → Act → World → Prop} {W : World} (w : World) (hgd : o.guard = none) (s x : Operand)
    (ho : o.op = .call { callee := .builtin .append, args := #[s, x], argTypes := #[27, 27] })
    (v : Value) (n : Nat) (f : Nat → Int) (hs : a.eval s = v) (hown : Mine w.heap.size W v n f) (hB : Below w.heap.size w W)
    (xv : Value) (m : Nat) (z : Nat → Int) (hx : a.eval x = xv) (hsrc : Bytes W xv m z) (hn : n ≤ 1000000) (hm : m ≤ 1000000)
    (h : ∀ v' w', Mine w.heap.size w' v' (n + m) (cat n f z) → Below w.heap.size w w' → wpList Tryd.prog ops Q rest (a.put o.dst v') w') : wpList Tryd.prog ops Q (o :: rest) a W := by
  obtain ⟨i0, hi, hz0, hz1, hz2⟩ := info_parts info5
  have hstep : ∀ v' w', w'.ownsRow w.heap.size 5 1 v' (n + m) (rowL n f ++ rowL m z) → W.grownBy w' v.ownBlock → wpList Tryd.prog ops Q rest (a.put o.dst v') w' := fun v' w' h2 h3 => h v' w' (by unfold Mine; rw [← rowL_cat]; exact h2) (hown.grown hB h3)
  have hlen : (rowL m z).length = m * 1 := by rw [rowL_length, Nat.mul_one]
  rcases hsrc.rep with ⟨b, off, c, rfl, hr, _⟩ | ⟨xa, c, rfl, rfl, hnone⟩
  · refine wpList_append_own W hgd s x 27 ho w.heap.size 5 i0 (.int .u8 0) 1 1 Tryd.underlying27 hi hz0 hz1 hz2 rfl (by decide) v n _ hs hown ⟨b, off, none⟩ m c (rowL m z) hx hlen (fun j u hu => ?_) (rowL_one m z) (by unfold maxLen; omega) (by omega) hB.size (fun v' w' h2 h3 _ => hstep v' w' h2 h3)
    rw [rowL_at] at hu
    by_cases hj : j < m
    · rw [if_pos hj] at hu
      rw [← hu, ← hr j hj]
      by_cases e : j = 0
      · subst e; simp [Addr.add]
      · simp [Addr.add, e]
    · rw [if_neg hj] at hu
      cases hu
  · cases xa with
    | none =>
      obtain rfl := hnone rfl
      refine wpList_append_own_none hgd s x 27 ho w.heap.size 5 i0 1 Tryd.underlying27 hi v n _ hs hown hx (hstep v W ?_ ⟨rfl, rfl, rfl, Nat.le_refl _, fun _ _ _ => rfl⟩)
      have e : rowL n f ++ rowL 0 z = rowL n f := by simp [rowL]
      rw [e]
      exact hown
    | some ad =>
      refine wpList_append_own W hgd s x 27 ho w.heap.size 5 i0 (.int .u8 0) 1 1 Tryd.underlying27 hi hz0 hz1 hz2 rfl (by decide) v n _ hs hown ad 0 c (rowL 0 z) hx (by simp [rowL]) (fun j u hu => by simp [rowL] at hu) (rowL_one 0 z) (by unfold maxLen; omega) (by omega) hB.size (fun v' w' h2 h3 _ => hstep v' w' h2 h3)
end Go.Proofs.YtofgnncodnfapaaDoor
