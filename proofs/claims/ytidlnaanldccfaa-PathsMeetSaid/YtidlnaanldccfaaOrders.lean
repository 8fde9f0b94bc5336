/- A region that draws its order, inside a fence, walked once for each order that its edges allow: for a round of a loop over an iterator, where the kit's tactics that take an operation first do not go. -/
import Derived.OrdersIn
import Derived.TacticsIn
import Derived.KernelRfl
namespace Go.Proofs.Ytidlnaanldccfaa
open Go

/-- Every order in which a region's operations may come up. -/
def allOrders (md : Region.Mode) (ops : Array Oper) : Nat → Array Bool → List (List Nat)
  | 0, _ => [[]]
  | fuel + 1, listed =>
    match Region.ready md ops listed with
    | [] => [[]]
    | r :: rs => (r :: rs).flatMap fun i => (allOrders md ops fuel (listed.setIfInBounds i true)).map (i :: ·)

theorem go_mem_allOrders (md : Region.Mode) (ops : Array Oper) : ∀ (fuel t : Nat) (listed : Array Bool), Region.linearise.go md ops fuel t listed [] ∈ allOrders md ops fuel listed := by
  intro fuel
  induction fuel with
  | zero => intro t listed; simp [Region.linearise.go, allOrders]
  | succ fuel ih =>
    intro t listed
    simp only [Region.linearise.go, allOrders]
    change (match (Region.ready md ops listed)[t % (Region.ready md ops listed).length]? with
      | some i => Region.linearise.go md ops fuel (t / (Region.ready md ops listed).length) (listed.setIfInBounds i true) [i]
      | none => [].reverse) ∈ _
    cases hr : Region.ready md ops listed with
    | nil => simp
    | cons r rs =>
      have hlt : t % (r :: rs).length < (r :: rs).length := Nat.mod_lt _ (by simp)
      rw [List.getElem?_eq_getElem hlt]
      simp only []
      rw [linearise_go_acc, List.reverse_singleton, List.singleton_append]
      exact List.mem_flatMap.2 ⟨_, List.getElem_mem hlt, List.mem_map.2 ⟨_, ih _ _, rfl⟩⟩

variable {F : Fence} {n : Nat} {P : Program} {Q : Exit → Act → World → Prop} {a : Act} {w : World}

theorem wpOpsIn_map (ops : Array Oper) : ∀ (l : List Nat), (∀ i ∈ l, i < ops.size) → wpListIn F n P ops Q (l.map fun i => ops.getD i default) a w → wpOpsIn F n P ops Q l a w := by
  intro l
  have : (∀ i ∈ l, i < ops.size) → wpOpsIn F n P ops Q l = wpListIn F n P ops Q (l.map fun i => ops.getD i default) := by
    induction l with
    | nil => intro _; funext a w; simp [wpOpsIn, wpListIn]
    | cons i l ih =>
      intro h
      have h0 : ops[i]? = some (ops.getD i default) := by
        have := h i (by simp)
        simp [this]
      have ih' := ih (fun j hj => h j (by simp [hj]))
      funext a w
      simp only [wpOpsIn, h0, wpListIn, List.map_cons, ih']
  intro h hw
  rw [this h]
  exact hw

/-- The operation at a place of a list. -/
def pick : List Oper → Nat → Oper
  | [], _ => default
  | o :: _, 0 => o
  | _ :: l, i + 1 => pick l i

theorem pick_getD : ∀ (l : List Oper) (i : Nat), l.toArray.getD i default = pick l i
  | [], _ => by simp [pick]
  | o :: l, 0 => by simp [pick]
  | o :: l, i + 1 => by rw [pick, ← pick_getD l i]; simp [Array.getD]

/-- A region that draws: it is enough to walk each of its orders. -/
theorem wpIn_region_orders {id : Nat} {ops : List Oper} (ls : List (List Nat)) (hm : P.follows .mixedOrders = true)
    (ho : allOrders .any ops.toArray ops.toArray.size (Array.replicate ops.toArray.size false) = ls)
    (hs : ls.all (fun l => l.all fun i => decide (i < ops.length)) = true)
    (h : ∀ l ∈ ls, wpListIn F n P ops.toArray Q (l.map (pick ops)) a w.drew) : (Code.region id ops.toArray true).wpIn F n P Q a w := by
  refine wpIn_region_draw fun t => ?_
  simp only [Region.schedule, hm, Bool.true_or, if_true]
  have hmem := go_mem_allOrders .any ops.toArray ops.toArray.size t (Array.replicate ops.toArray.size false)
  rw [ho] at hmem
  refine wpOpsIn_map ops.toArray _ ?_ ?_
  · intro i hi
    have := List.all_eq_true.1 (List.all_eq_true.1 hs _ hmem) i hi
    simpa using this
  · have e : (fun i => ops.toArray.getD i default) = pick ops := funext fun i => pick_getD ops i
    rw [e]
    exact h _ hmem

end Go.Proofs.Ytidlnaanldccfaa
