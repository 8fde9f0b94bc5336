/- The iterator up of package paths, the function along over it, and Path and Copath: what they return for every device. -/
import Derived.Test.YtidlnaanldccfaaRefs
import Derived.Test.YtidlnaanldccfaaRange
import Derived.Test.YtidlnaanldccfaaOrders
import Derived.RangeFuncNested
import Derived.RangeFuncBound
import Derived.RangeFuncCalls
import Derived.RangeFuncLeaves
import Derived.Shelf.Abstract
import Derived.Shelf.AbstractIn
import Derived.Shelf.RegionOpen
import Derived.OwnWalkIn
import Derived.TacticsInMore
import Derived.LoopNIn
import Derived.LoopIn
import Derived.Maps.AppendAt
namespace Go.Proofs.Ytidlnaanldccfaa
open Go Go.RowKit Go.Shelf
attribute [local go_sem] Oper.semAt_some

theorem nd_lt (d : Int) (k : Nat) (h0 : 0 ≤ d) (h1 : d < 512) : nd d k < 1024 := by
  unfold nd
  have : (512 + d) / 2 ^ k ≤ 512 + d := Int.ediv_le_self _ (by omega)
  omega
theorem nd_gt (d : Int) (k : Nat) (h0 : 0 ≤ d) (h1 : d < 512) (hk : k < 9) : 1 < nd d k := by
  have h := (nd_bounds d k h0 h1 (by omega)).1
  have : (2 : Nat) ^ 1 ≤ 2 ^ (9 - k) := Nat.pow_le_pow_right (by omega) (by omega)
  have e : ((2 ^ (9 - k) : Nat) : Int) = 2 ^ (9 - k) := by push_cast; rfl
  omega
theorem nd_nine (d : Int) (h0 : 0 ≤ d) (h1 : d < 512) : nd d 9 = 1 := by
  unfold nd
  omega

theorem up_any (n : Int) (w : World) :
    CallsIn Fence.wide 9 Try.prog 33 #[.int .i64 n] w fun e w' => e = .returned (.func (.func 36) #[] #[.pointer (some ⟨w.heap.size, 0, none⟩)]) ∧ w' = w.alloc (.cells #[.int .i64 n] 37) := by
  refine callsIn_of_wp Try.func33 rfl trivial ?_ rfl
  simp only [Try.ntmps33, List.size_toArray, List.length_cons, List.length_nil, Nat.reduceAdd, Nat.reduceSub, Array.replicate_succ, Array.replicate_zero, List.push_toArray, List.append_toArray, List.nil_append, List.cons_append]
  gi_wp2
  go_ret
  exact ⟨rfl, rfl⟩

set_option maxHeartbeats 1000000 in
set_option maxRecDepth 100000 in
theorem up1_on (d : Int) (h0 : 0 ≤ d) (h1 : d < 512) (n B l Bn : Nat) (I J : Nat × Nat → World → Prop) (W : World) (hJ : Carries B I J)
    (hcell : ∀ i j V, I (i, j) V → Boxed V Bn 37 (.int .i64 (nd d j)))
    (hstep : ∀ i j V, I (i, j) V → I (i, j + 1) (V.setCell ⟨Bn, 0, none⟩ (.int .i64 (nd d (j + 1)))))
    (hY : ∀ s V, s.1 = s.2 ∧ s.1 < 9 → J s V → YieldAt Fence.wide n Try.prog l #[.int .i64 (nd d s.2)] V fun e V' => e = .returned (.bool true) ∧ J (s.1 + 1, s.2) V')
    (hW : J (0, 0) W) :
    CallsIn Fence.wide (n + 1) Try.prog 36 #[.func (.yield l) #[] #[], .pointer (some ⟨Bn, 0, none⟩)] W fun e W' => (∃ v, e = .returned v) ∧ J (9, 9) W' := by
  refine callsIn_of_wp Try.func36 rfl trivial ?_ rfl
  simp only [Try.ntmps36, List.size_toArray, List.length_cons, List.length_nil, Nat.reduceAdd, Nat.reduceSub, Array.replicate_succ, Array.replicate_zero, List.push_toArray, List.append_toArray, List.nil_append, List.cons_append]
  gi_wp2
  gi_loopw [] (fun wr => ∃ k, k ≤ 9 ∧ J (k, k) wr) (fun wr => (intOf ((wr.cell? ⟨Bn, 0, none⟩).getD undef)).toNat)
  case atStart => exact ⟨0, by omega, hW⟩
  case round =>
    obtain ⟨k, hk, hj⟩ := hrel
    have hb := hcell k k wr (hJ.says _ _ hj)
    have hc := hb.cell
    have hn := nd_bounds d k h0 h1 hk
    by_cases hlt : k < 9
    · obtain ⟨fn, tmps, assign, body, hy, hR⟩ := hY (k, k) wr ⟨rfl, hlt⟩ hj
      have hp : 1 < nd d k := nd_gt d k h0 h1 hlt
      have hq : nd d k < 1024 := nd_lt d k h0 h1
      clear hn
      have HR := Lib.hid hR; clear hR
      dsimp only at hy
      gi_wp2
      refine HR.out.mono ?_
      rintro e W3 ⟨rfl, hJ3⟩
      replace hJ3 : J (k + 1, k) W3 := hJ3
      have hI3 := hJ.says _ _ hJ3
      have hb3 := hcell _ _ _ hI3
      have hc3 := hb3.cell
      have hf3 := hb3.frozen
      gi_wp2_with (refine ⟨trivial, ?_⟩; gi_at_call 29; refine (callsIn_wide.2 (parent _ _ (by omega) hq)).mono ?_; rintro e w' ⟨rfl, rfl⟩)
      have hb4 := (Boxed.set (.int .i64 (nd d k / 2)) hb3).cell
      go_roundw
      case rel => 
        refine ⟨k + 1, by omega, hJ.goes _ _ _ _ hJ3 ?_ ((KeepsOthers.setCell _ _ _).from _)⟩
        rw [← nd_succ]
        exact hstep _ _ _ hI3
      case measure =>
        rw [hc, hb4]
        simp [intOf]
        omega
    · obtain rfl : k = 9 := by omega
      have he : nd d 9 = 1 := nd_nine d h0 h1
      gi_wp2
      all_goals (refine ⟨fun _ _ => trivial, ?_⟩; gi_wp2)
      go_end0
      exact ⟨⟨_, rfl⟩, hj⟩

theorem info3 : (Try.prog.info? 3).map (fun i => (i.zero, i.size, i.bytes)) = some (some (.int .i64 0), 1, 8) := by kernel_rfl

/-- What the first k nodes above a leaf give. -/
def rowOf (f : Int → Int) (d : Int) (k : Nat) : List Value := (List.range k).map fun j => Value.int .i64 (f (nd d j))
theorem rowOf_length (f : Int → Int) (d : Int) (k : Nat) : (rowOf f d k).length = k := by simp [rowOf]
theorem rowOf_succ (f : Int → Int) (d : Int) (k : Nat) : rowOf f d (k + 1) = rowOf f d k ++ [.int .i64 (f (nd d k))] := by simp [rowOf, List.range_succ]

/-- What a round that has come to this place knows: the iterator's node, the function, the list so far. -/
def Along (d : Int) (f : Int → Int) (g : Nat) (w : World) (s : Nat × Nat) (W : World) : Prop :=
  Boxed W (w.heap.size + 2) 37 (.int .i64 (nd d s.2)) ∧ Boxed W w.heap.size 40 (.func (.func g) #[] #[]) ∧
    (∃ v, Boxed W (w.heap.size + 1) 26 v ∧ W.ownsRow w.heap.size 3 1 v s.1 (rowOf f d s.1)) ∧ Below w.heap.size w W

theorem Along.put {d : Int} {f : Int → Int} {g : Nat} {w : World} {s : Nat × Nat} {W : World} (h : Along d f g w s W) {l : Nat} {o o' : Obj} (hl : w.heap.size + 3 ≤ l) (ho : W.heap[l]? = some o) (hc : o.isCells = false) : Along d f g w s (W.putObj l o') := by
  obtain ⟨h1, h2, ⟨v, h3, h4⟩, h5⟩ := h
  have hg := grownBy_putObj' W l o'
  refine ⟨h1.kept hg (fun e => by cases e; omega), h2.kept hg (fun e => by cases e; omega), ⟨v, h3.kept hg (fun e => by cases e; omega), ownsRow_putObj h4 _ ho hc⟩, ?_⟩
  exact h5.grown hg h5.size (fun k e => by cases e; omega)

theorem Along.step {d : Int} {f : Int → Int} {g : Nat} {w : World} {i j : Nat} {W : World} (h : Along d f g w (i, j) W) (x : Int) (hx : x = nd d (j + 1)) : Along d f g w (i, j + 1) (W.setCell ⟨w.heap.size + 2, 0, none⟩ (.int .i64 x)) := by
  obtain ⟨h1, h2, ⟨v, h3, h4⟩, h5⟩ := h
  subst hx
  refine ⟨h1.set _, h2.other (by omega) _, ⟨v, h3.other (by omega) _, ?_⟩, h5.setCell (p := ⟨w.heap.size + 2, 0, none⟩) (by simp) _⟩
  exact h4.kept (grownBy_setCell' W _ _) (.inr (h1.not_row (by decide) h4).symm)

set_option maxHeartbeats 2000000 in
set_option maxRecDepth 100000 in
theorem along_yes (d : Int) (w : World) (g : Nat) (f : Int → Int) (h0 : 0 ≤ d) (h1 : d < 512) (eg : ∀ args w, (callFunc g args).run Try.prog w = .ok (.enter g args) w)
    (hg : ∀ n w, 1 ≤ n → n < 1024 → Calls Try.prog g #[.int .i64 n] w fun e w' => e = .returned (.int .i64 (f n)) ∧ w = w') :
    CallsIn Fence.wide 6 Try.prog 28 #[.int .i64 d, .func (.func g) #[] #[]] w fun e W' => ∃ v, e = .returned (.tuple #[v, .int .i64 0]) ∧ W'.ownsRow w.heap.size 3 1 v 9 (rowOf f d 9) ∧ Below w.heap.size w W' := by
  obtain ⟨i0, hi, hz0, hz1, hz2⟩ := info_parts info3
  refine callsIn_of_wp_marks Try.func28 rfl trivial ?_ rfl
  simp only [Try.ntmps28, List.size_toArray, List.length_cons, List.length_nil, Nat.reduceAdd, Nat.reduceSub, Array.replicate_succ, Array.replicate_zero, List.push_toArray, List.append_toArray, List.nil_append, List.cons_append]
  gi_wp2_with (first
    | (refine ⟨trivial, ?_⟩; gi_at_call 11; refine (callsIn_wide.2 (leaf_yes _ _ h0 h1)).mono ?_; rintro e w' ⟨rfl, rfl⟩)
    | (refine ⟨trivial, ?_⟩; gi_at_call 33; refine (callsIn_wide.2 (callsIn_wide.1 (up_any _ _))).mono ?_; rintro e w' ⟨rfl, rfl⟩))
  have b1 := Boxed.new w 40 (.func (.func g) #[] #[])
  have b2 := Boxed.new (w.alloc (.cells #[.func (.func g) #[] #[]] 40)) 26 (.slice none 0 0)
  have b3 := Boxed.new ((w.alloc (.cells #[.func (.func g) #[] #[]] 40)).alloc (.cells #[.slice none 0 0] 26)) 37 (.int .i64 (512 + d))
  simp only [World.size_alloc] at b2 b3
  have hmix : Try.prog.follows .mixedOrders = true := by kernel_rfl
  refine range_on (n := 4) (gf := 36) (lb := #[.pointer (some ⟨w.heap.size + 2, 0, none⟩)]) rfl (enters_of Try.func36 (by kernel_rfl) rfl)
    (fun s : Nat × Nat => #[.int .i64 (nd d s.2)]) (fun _ => rfl) (fun s => (s.1 + 1, s.2)) (fun s => s.1 = s.2 ∧ s.1 < 9) (0, 0) (9, 9) (Along d f g w) ?put ?start
    (fun s => { tmps := #[.int .i64 d, .func (.func g) #[] #[], undef, .pointer (some ⟨w.heap.size, 0, none⟩), .pointer (some ⟨w.heap.size + 1, 0, none⟩), .int .i64 0, .int .i64 (512 + d), .int .i64 (nd d s.2),
      .tuple #[.int .i64 (512 + d), .int .i64 0], .int .i64 d, .tuple #[.int .i64 (512 + d), .int .i64 0], .int .i64 (512 + d), .int .i64 0, .int .i64 0, .bool false, undef, .int .i64 (512 + d),
      .func (.func 36) #[] #[.pointer (some ⟨w.heap.size + 1 + 1, 0, none⟩)], .int .i64 (nd d s.2), undef, undef, undef, undef, undef, undef, undef], defers := [] }) ?assign ?body ?iter ?done
  case put =>
    intro s W l o o' h hl ho hc
    simp only [World.size_alloc] at hl
    exact Along.put h (by omega) ho hc
  case start =>
    intro o o'
    refine ⟨?_, (((b1.alloc _).alloc _).alloc _).alloc _, ⟨_, ((b2.alloc _).alloc _).alloc _, World.ownsRow_nil _ _ _ _⟩, ?_⟩
    · rw [nd_zero]
      exact (b3.alloc _).alloc _
    · exact (((((Below.refl _ w).alloc (Nat.le_refl _) _).alloc (by simp) _).alloc (by simp; omega) _).alloc (by simp; omega) _).alloc (by simp; omega) _
  case assign =>
    intro l s W K hK
    gi_wp2
    exact hK
  case body =>
    rintro l ⟨i, j⟩ W ⟨hij, hlt⟩ ⟨h1', h2', ⟨v, hv, hrow⟩, hB⟩
    obtain rfl : i = j := hij
    have hcv := hv.cell
    have hcg := h2'.cell
    replace hlt : i < 9 := hlt
    have hn1 : 1 < nd d i := nd_gt d i h0 h1 hlt
    have hn2 : nd d i < 1024 := nd_lt d i h0 h1
    gi_wp2_with fail
    refine wpIn_region_orders [[0, 1, 2, 3, 4, 5, 6], [0, 2, 1, 3, 4, 5, 6], [1, 0, 2, 3, 4, 5, 6], [1, 2, 0, 3, 4, 5, 6], [1, 2, 3, 0, 4, 5, 6], [1, 2, 3, 4, 0, 5, 6], [2, 0, 1, 3, 4, 5, 6], [2, 1, 0, 3, 4, 5, 6], [2, 1, 3, 0, 4, 5, 6], [2, 1, 3, 4, 0, 5, 6]]
      hmix (by kernel_rfl) (by kernel_rfl) ?_
    have k0 : KeepsOthers W W.drew := KeepsOthers.drew W
    have hB0 : Below w.heap.size w W.drew := hB.drew
    have x1 : Boxed W.drew (w.heap.size + 2) 37 (.int .i64 (nd d i)) := h1'
    have x2 : Boxed W.drew w.heap.size 40 (.func (.func g) #[] #[]) := h2'
    have x3 : Boxed W.drew (w.heap.size + 1) 26 v := hv
    have x4 : W.drew.ownsRow w.heap.size 3 1 v i (rowOf f d i) := hrow.drew
    clear hcv hcg h1' h2' hv hrow hB
    generalize W.drew = V at *
    have hcv := x3.cell
    have hcg := x2.cell
    have l2 := x2.lt
    have l3 := x3.lt
    have hil : (rowOf f d i).length = i := rowOf_length f d i
    have HIL := Lib.hid hil; clear hil
    intro os hos
    simp only [List.mem_cons, List.not_mem_nil, or_false] at hos
    have hend : ∀ (w1 : World) (g' cap' : Nat), (V.alloc (.cells #[.int .i64 (f (nd d i))] 3)).grownBy w1 v.ownBlock → w1.ownsRow w.heap.size 3 1 (.slice (some ⟨g', 0, none⟩) (i + 1) cap') (i + 1) (rowOf f d i ++ [.int .i64 (f (nd d i))]) →
        KeepsFrom (w.heap.size + 1 + 1 + 1) W (w1.setCell ⟨w.heap.size + 1, 0, none⟩ (.slice (some ⟨g', 0, none⟩) (i + 1) cap')) ∧ Along d f g w (i + 1, i) (w1.setCell ⟨w.heap.size + 1, 0, none⟩ (.slice (some ⟨g', 0, none⟩) (i + 1) cap')) := by
      intro w1 g' cap' hgrow hown'
      obtain ⟨_, hv2, hr2, hk2, hb2⟩ := x3.appended (by decide) x4 hB0.size (by omega) hown' hgrow
      refine ⟨(k0.trans hk2).from _, ((x1.alloc _).kept hgrow (x1.not_row (by decide) x4)).other (by omega) _, ((x2.alloc _).kept hgrow (x2.not_row (by decide) x4)).other (by omega) _, ⟨_, hv2, ?_⟩, hB0.trans hb2⟩
      rw [rowOf_succ]
      exact hr2
    have HE := Lib.hid hend; clear hend
    rcases hos with rfl | rfl | rfl | rfl | rfl | rfl | rfl | rfl | rfl | rfl
    all_goals
      simp only [List.map_cons, List.map_nil, pick]
      gi_wp2_with (first
        | (refine ⟨trivial, ?_⟩; gi_at_fn g; refine (CallsIn.inRound l (callsIn_wide.2 (hg _ _ (by omega) hn2))).mono ?_; rintro e w' ⟨rfl, rfl⟩)
        | (gi_at_builtin; refine wpListIn_append_own _ rfl _ _ 26 rfl w.heap.size 3 i0 (.int .i64 0) 1 8 Try.underlying26 hi hz0 hz1 hz2 rfl (by decide) _ _ _ rfl (x4.alloc _) ⟨V.heap.size, 0, none⟩ 1 1 [.int .i64 (f (nd d i))] rfl rfl (cell_one_new _ _ _) (by simp [Value.oneCell']) (by unfold maxLen; omega) (by omega) (by have := hB0.size; simp; omega) ?_; intro v' w1 hown' hgrow _; obtain ⟨g', cap', rfl⟩ := ownsRow_succ hown'; have hv1 := ((x3.alloc _).kept hgrow (x3.not_row (by decide) x4)); have hc1 := hv1.cell; have hf1 := hv1.frozen))
      exact HE.out _ _ _ hgrow hown'
  case iter =>
    intro l J W hJ hY h
    refine up1_on d h0 h1 4 _ l (w.heap.size + 2) (Along d f g w) J W hJ (fun i j V h => h.1) (fun i j V h => h.step _ rfl) hY h
  case done =>
    rintro D W ⟨_, _, ⟨v, hv, hrow⟩, hB⟩ hD hK
    simp only [World.size_alloc] at hD
    obtain ⟨g', cap', rfl⟩ := ownsRow_succ (k := 8) hrow
    have hc := hv.cell
    have hf := hv.frozen
    have hr2 := hrow.kept (grownBy_setCell' W (w.heap.size + 1) (.slice (some ⟨g', 0, none⟩) (8 + 1) cap')) (.inr (hv.not_row (by decide) hrow).symm)
    have hv2 := hv.set (.slice (some ⟨g', 0, none⟩) (8 + 1) cap')
    have hc2 := hv2.cell
    have hB2 : Below w.heap.size w (W.setCell ⟨w.heap.size + 1, 0, none⟩ (.slice (some ⟨g', 0, none⟩) (8 + 1) cap')) := hB.setCell (p := ⟨w.heap.size + 1, 0, none⟩) (by simp) _
    have hK2 := (KeepsOthers.setCell W ⟨w.heap.size + 1, 0, none⟩ (.slice (some ⟨g', 0, none⟩) (8 + 1) cap')).same D _ hK rfl
    have hv3 := hv2.kept (grownBy_putObj' (W.setCell ⟨w.heap.size + 1, 0, none⟩ (.slice (some ⟨g', 0, none⟩) (8 + 1) cap')) D (.deferred none)) (fun e => by cases e; omega)
    have hc3 := hv3.cell
    have hr3 := ownsRow_putObj hr2 (.deferred none) hK2 rfl
    have hB3 : Below w.heap.size w ((W.setCell ⟨w.heap.size + 1, 0, none⟩ (.slice (some ⟨g', 0, none⟩) (8 + 1) cap')).putObj D (.deferred none)) := hB2.grown (grownBy_putObj' _ D _) hB2.size (fun k e => by cases e; omega)
    gi_wp2
    refine ⟨by simp, .inl ⟨_, _, rfl, run_takeDeferred hK2, ?_⟩⟩
    refine ⟨.tuple #[.slice (some ⟨g', 0, none⟩) (8 + 1) cap', .int .i64 0], ?_, _, rfl, hr3, hB3⟩
    simp [results, Try.results28, go_sem, hc3]

end Go.Proofs.Ytidlnaanldccfaa
