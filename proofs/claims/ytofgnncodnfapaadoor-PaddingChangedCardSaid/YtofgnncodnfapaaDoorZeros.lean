/- append of a number of zeros (append of a made slice) to a slice of bytes of the call's own. -/
import Derived.Test.YtofgnncodnfapaaDoorApp
import Derived.Lib.AppendZerosOnto
namespace Go.Proofs.YtofgnncodnfapaaDoor
open Go Go.RowKit

theorem zero_cells (k : Nat) : Builtin.zeroCells (Value.int .u8 0).cells k = (rowL k (fun _ => 0)).toArray := by
  have hc : (Value.int .u8 0).cells = #[.int .u8 0] := rfl
  rw [rowL_zero, hc]
  apply Array.toList_inj.1
  refine List.ext_getElem? fun j => ?_
  simp only [Builtin.zeroCells, Array.toList_map, Array.toList_range, List.getElem?_map, List.getElem?_replicate]
  by_cases h : j < k
  · simp [h, Nat.mod_one]
  · simp [h]

theorem run_zeros_room (W : World) (ty : TypeId) (g n cap k : Nat) (cur : Array Value) (hg : W.heap[g]? = some (.cells cur 5 (0, 0))) (hk : k ≤ 1000000) (hroom : n + k ≤ cap) (hfit : n + k ≤ cur.size) :
    (Builtin.append_ #[27, 3] ty #[.slice (some ⟨g, 0, none⟩) n cap, .int .i64 k]).run Tryd.prog W =
      .ok (.slice (some ⟨g, 0, none⟩) (n + k) cap) (W.setRow g (cur.toList.take n ++ rowL k (fun _ => 0) ++ cur.toList.drop (n + k)).toArray) := by
  obtain ⟨i, hi, hz0, hz1, hz2⟩ := info_parts info5
  have hw : IntKind.i64.wrap (k : Int) = k := by rw [IntKind.wrap_i64]; omega
  have hneg : ¬ ((k : Int) < 0) := by omega
  have h48i : ¬ (281474976710656 < (k : Int)) := by omega
  have hst := run_storeCells_at Tryd.prog g n 5 (rowL k (fun _ => 0)) 0 cur W hg (by simpa [rowL_length] using hfit) (rowL_one k (fun _ => 0))
  simp only [Nat.add_zero, rowL_length] at hst
  by_cases hk0 : k = 0
  · subst hk0
    have e : rowL 0 (fun _ => 0) = [] := rfl
    rw [e] at hst ⊢
    have hw0 : IntKind.i64.wrap 0 = 0 := by decide
    have hroom' : n ≤ cap := by omega
    simp at hst
    simp [Builtin.append_, run_underlying Tryd.underlying27, run_underlying Tryd.underlying3, sizeOf, typeInfo, hi, hz1, hz2, asInt, asIntOf, hw0, Addr.add_lit, hroom', hst]
  · simp [Builtin.append_, run_underlying Tryd.underlying27, run_underlying Tryd.underlying3, sizeOf, typeInfo, zeroValue, hi, hz0, hz1, hz2, asInt, asIntOf, hw, hneg, h48i, hk0, hroom, zero_cells, Addr.add_lit, hst]

theorem run_zeros (B : Nat) (W : World) (ty : TypeId) (v : Value) (n : Nat) (f : Nat → Int) (hown : Mine B W v n f) (hB : B ≤ W.heap.size) (k : Nat) (hn : n ≤ 1000000) (hk : k ≤ 1000000) :
    ∃ v' w', (Builtin.append_ #[27, 3] ty #[v, .int .i64 k]).run Tryd.prog W = .ok v' w' ∧ Mine B w' v' (n + k) (cat n f (fun _ => 0)) ∧ W.grownBy w' v.ownBlock := by
  obtain ⟨i, hi, hz0, hz1, hz2⟩ := info_parts info5
  have hlen : (rowL n f ++ rowL k (fun _ => 0)).length = n + k := by rw [List.length_append, rowL_length, rowL_length]
  have grown : ∀ (old : Nat) (row : Option Nat),
      Mine B (W.drew.alloc (.cells ((rowL n f).toArray ++ Builtin.zeroCells (Value.int .u8 0).cells k ++ Builtin.zeroCells (Value.int .u8 0).cells (grownCap W (n + k) old 5 - (n + k))) 5))
        (.slice (some ⟨W.heap.size, 0, none⟩) (n + k) (grownCap W (n + k) old 5)) (n + k) (cat n f (fun _ => 0)) ∧
      W.grownBy (W.drew.alloc (.cells ((rowL n f).toArray ++ Builtin.zeroCells (Value.int .u8 0).cells k ++ Builtin.zeroCells (Value.int .u8 0).cells (grownCap W (n + k) old 5 - (n + k))) 5)) row := by
    intro old row
    have hge := grownCap_ge W (n + k) old 5
    have hcm : grownCap W (n + k) old 5 ≤ maxLen := grownCap_le_maxLen W (n + k) old 5 (by unfold maxLen; omega)
    rw [zero_cells, zero_cells]
    refine ⟨?_, ⟨rfl, rfl, rfl, by simp, fun j hj _ => heap_alloc_old W.drew _ hj⟩⟩
    unfold Mine
    rw [← rowL_cat]
    refine ⟨by rw [hlen, Nat.mul_one], .inr ⟨W.heap.size, _, _, rfl, hB, heap_alloc_new W.drew _, hge, hcm, ?_, ?_⟩⟩
    · simp only [Array.size_append, List.size_toArray, rowL_length]
      omega
    · simp only [Array.toList_append, List.append_assoc]
      rw [← List.append_assoc, Nat.mul_one, ← hlen]
      exact List.take_left
  rcases hown.2 with ⟨rfl, rfl⟩ | ⟨g, cap, cur, rfl, hbg, hg, hnc, hcm, hcs, htake⟩
  · by_cases hk0 : k = 0
    · subst hk0
      refine ⟨.slice none 0 0, W, ?_, Mine.nil _ _ _, ⟨rfl, rfl, rfl, Nat.le_refl _, fun _ _ _ => rfl⟩⟩
      have hw : IntKind.i64.wrap (0 : Int) = 0 := by decide
      simp [Builtin.append_, run_underlying Tryd.underlying27, run_underlying Tryd.underlying3, sizeOf, typeInfo, hi, hz2, asInt, asIntOf, hw]
    · have hr := Lib.run_append_grow_zeros (P := Tryd.prog) W 27 3 ty 5 i (.int .u8 0) .i64 .i64 Tryd.underlying27 Tryd.underlying3 hi hz0 none 0 0 (rowL 0 f) (by simp [rowL, Builtin.firstCells]) k (by omega) (by omega) (by omega) (by omega) (by rw [hz2]; omega) (by rw [hz2, nextslicecap_zero (by omega)]; omega)
      have hgr := grown 0 (Value.ownBlock (.slice none 0 0))
      exact ⟨_, _, hr, hgr.1, hgr.2⟩
  · rw [Nat.mul_one] at hcs htake
    by_cases hroom : n + k ≤ cap
    · have hr := run_zeros_room W ty g n cap k cur hg hk hroom (by omega)
      refine ⟨_, _, hr, ?_, ⟨rfl, rfl, rfl, by simp, fun k _ hk => setRow_other W g k _ (fun e => hk (by simp [Value.ownBlock, e]))⟩⟩
      unfold Mine
      rw [← rowL_cat]
      refine ⟨by rw [hlen, Nat.mul_one], .inr ⟨g, cap, _, rfl, hbg, setRow_heap W g cur _ 5 _ hg, hroom, hcm, ?_, ?_⟩⟩
      · simp only [List.size_toArray, List.length_append, List.length_take, List.length_drop, Array.length_toList, rowL_length]
        omega
      · rw [htake, Nat.mul_one, ← hlen]
        exact List.take_left
    · have holds : ∀ j u, (rowL n f)[j]? = some u → W.cell? ((⟨g, 0, none⟩ : Addr).add j) = some u := hown.cells (g := g) rfl
      have hf := run_firstCells_some (P := Tryd.prog) W.drew i.size n ⟨g, 0, none⟩ n cap (rowL n f) (by rw [rowL_length, hz1, Nat.mul_one]) holds
      have hfit : Builtin.nextslicecap (n + k) cap * 1 ≤ 281474976710656 := growslice_fits (by omega) (by omega)
      have hr := Lib.run_append_grow_zeros (P := Tryd.prog) W 27 3 ty 5 i (.int .u8 0) .i64 .i64 Tryd.underlying27 Tryd.underlying3 hi hz0 (some ⟨g, 0, none⟩) n cap (rowL n f) hf k (by omega) (by omega) (by omega) (by omega) (by rw [hz2]; omega) (by rw [hz2]; exact hfit)
      have hgr := grown cap (Value.ownBlock (.slice (some ⟨g, 0, none⟩) n cap))
      exact ⟨_, _, hr, hgr.1, hgr.2⟩

theorem wp_zeros {ops : Array Oper} {rest : List Oper} {o : Oper} {a : Act} {Q : Exit → Act → World → Prop} {W : World} (w : World) (hgd : o.guard = none) (s x : Operand)
    (ho : o.op = .call { callee := .builtin .append, args := #[s, x], argTypes := #[27, 3] })
    (v : Value) (n : Nat) (f : Nat → Int) (hs : a.eval s = v) (hown : Mine w.heap.size W v n f) (hB : Below w.heap.size w W)
    (xv : Value) (k : Nat) (hx : a.eval x = xv) (he : xv = .int .i64 k) (hn : n ≤ 1000000) (hk : k ≤ 1000000)
    (h : ∀ v' w', Mine w.heap.size w' v' (n + k) (cat n f (fun _ => 0)) → Below w.heap.size w w' → wpList Tryd.prog ops Q rest (a.put o.dst v') w') : wpList Tryd.prog ops Q (o :: rest) a W := by
  subst he
  obtain ⟨v', w', hr, h2, h3⟩ := run_zeros w.heap.size W o.type v n f hown hB.size k hn hk
  exact Lib.wpList_append_run W hgd s x 27 3 ho v _ hs hx v' w' hr (h v' w' h2 (hown.grown hB h3))
end Go.Proofs.YtofgnncodnfapaaDoor
