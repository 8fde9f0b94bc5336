/- The contracts of slices.Backward, of Eval of package field and of the reference. -/
import Derived.Test.YtanheijppjpbjaaPow
namespace Go.Proofs.Ytanheijppjpbjaa
open Go Go.RowKit Go.Shelf
attribute [local go_sem] Oper.semAt_some

/-- The value of a polynomial, the constant first. -/
def pol (z : Nat → Int) (x : Int) : Nat → Int
  | 0 => 0
  | n + 1 => pol z x n + z n * x ^ n
theorem pol_shift (z : Nat → Int) (x : Int) : ∀ n, pol z x (n + 1) = z 0 + x * pol (fun i => z (i + 1)) x n
  | 0 => by simp [pol]
  | n + 1 => by
    rw [pol, pol_shift z x n, pol, Int.mul_add, Int.pow_succ, Int.mul_left_comm x, Int.mul_comm x (x ^ n)]
    omega
/-- Behind k rounds from above. -/
def ev (z : Nat → Int) (x : Int) (n k : Nat) : Int := pol (fun i => z (n - k + i)) x k % 2305843009213688669
theorem ev_step (z : Nat → Int) (x : Int) (n k : Nat) (hk : k < n) : (ev z x n k * x % 2305843009213688669 + z (n - 1 - k)) % 2305843009213688669 = ev z x n (k + 1) := by
  unfold ev
  rw [pol_shift]
  have e1 : (fun i => z (n - (k + 1) + (i + 1))) = fun i => z (n - k + i) := funext fun i => by rw [show n - (k + 1) + (i + 1) = n - k + i by omega]
  rw [e1, show n - (k + 1) + 0 = n - 1 - k by omega]
  generalize pol (fun i => z (n - k + i)) x k = p
  rw [Int.emod_add_emod, Int.add_comm, Int.mul_comm x]
  rw [← Int.add_emod_emod, Int.mul_emod, Int.emod_emod, ← Int.mul_emod, Int.add_emod_emod]
theorem ev_end (z : Nat → Int) (x : Int) (n : Nat) : ev z x n n = pol z x n % 2305843009213688669 := by
  unfold ev
  rw [show (fun i => z (n - n + i)) = z from funext fun i => by rw [show n - n + i = i by omega]]
theorem ev_sc (z : Nat → Int) (x : Int) (n k : Nat) : Sc (ev z x n k) := sc_mod _

/-- A slice value that reads as n numbers. -/
def Reads (W : World) (v : Value) (n : Nat) (z : Nat → Int) : Prop :=
  (∃ b off c, v = .slice (some ⟨b, off, none⟩) n c ∧ Row W b off n z ∧ (0 < n → b < W.heap.size)) ∨ (∃ a c, v = .slice a 0 c ∧ n = 0)
theorem Reads.below {W W' : World} {v : Value} {n : Nat} {z : Nat → Int} (h : Reads W v n z) (hB : Below W.heap.size W W') : Reads W' v n z := by
  rcases h with ⟨b, off, c, rfl, hr, hb⟩ | h
  · refine .inl ⟨b, off, c, rfl, fun j hj => ?_, fun hn => Nat.lt_of_lt_of_le (hb hn) hB.size⟩
    exact (hB.cell (p := ⟨b, off + j, none⟩) (hb (by omega))).trans (hr j hj)
  · exact .inr h
theorem Reads.out_good {W : World} {v : Value} {n : Nat} {z : Nat → Int} (h : Reads W v n z) (hn : n ≤ 9223372036854775807) (hz : ∀ j, j < n → Sc (z j)) :
    Calls Try.prog 29 #[v] W fun e w' => e = .returned (.bool false) ∧ ∃ q, w' = W.drewN q := by
  rcases h with ⟨b, off, c, rfl, hr, _⟩ | ⟨a, c, rfl, rfl⟩
  · exact outside_good b off n c z W hr hn hz
  · exact outside_empty _ _ _
theorem Reads.out_bad {W : World} {v : Value} {n k0 : Nat} {z : Nat → Int} (h : Reads W v n z) (hn : n ≤ 9223372036854775807) (hk : k0 < n) (hz : ∀ j, j < k0 → Sc (z j)) (hb : ¬ Sc (z k0)) :
    Calls Try.prog 29 #[v] W fun e w' => e = .returned (.bool true) ∧ ∃ q, w' = W.drewN q := by
  rcases h with ⟨b, off, c, rfl, hr, _⟩ | ⟨a, c, rfl, rfl⟩
  · exact outside_bad b off n c k0 z W hr hn hk hz (not_sc hb)
  · omega

theorem back_any (a : Option Addr) (n c : Nat) (w : World) :
    CallsIn Fence.wide 9 Try.prog 31 #[.slice a n c] w fun e w' => e = .returned (.func (.func 41) #[] #[.pointer (some ⟨w.heap.size, 0, none⟩)]) ∧ w' = w.alloc (.cells #[.slice a n c] 30) := by
  refine callsIn_of_wp Try.func31 rfl trivial ?_ rfl
  simp only [Try.ntmps31, List.size_toArray, List.length_cons, List.length_nil, Nat.reduceAdd, Nat.reduceSub, Array.replicate_succ, Array.replicate_zero, List.push_toArray, List.append_toArray, List.nil_append, List.cons_append]
  gi_wp2
  go_ret
  exact ⟨rfl, rfl⟩
theorem Reads.back {W : World} {v : Value} {n : Nat} {z : Nat → Int} (h : Reads W v n z) :
    Calls Try.prog 31 #[v] W fun e w' => e = .returned (.func (.func 41) #[] #[.pointer (some ⟨W.heap.size, 0, none⟩)]) ∧ w' = W.alloc (.cells #[v] 30) := by
  rcases h with ⟨b, off, c, rfl, hr, _⟩ | ⟨a, c, rfl, rfl⟩
  · exact callsIn_wide.1 (back_any _ _ _ _)
  · exact callsIn_wide.1 (back_any _ _ _ _)

set_option maxHeartbeats 1000000 in
set_option maxRecDepth 100000 in
theorem backward1_on (v : Value) (n : Nat) (z : Nat → Int) (hn : n ≤ 9223372036854775807) (m B l Bn : Nat) (I J : Nat → World → Prop) (W : World) (hJ : Carries B I J)
    (hcell : ∀ k V, I k V → Boxed V Bn 30 v ∧ Reads V v n z)
    (hY : ∀ k V, k < n → J k V → YieldAt Fence.wide m Try.prog l #[.int .i64 ((n - 1 - k : Nat) : Int), .int .i64 (z (n - 1 - k))] V fun e V' => e = .returned (.bool true) ∧ J (k + 1) V')
    (hW : J 0 W) :
    CallsIn Fence.wide (m + 1) Try.prog 41 #[.func (.yield l) #[] #[], .pointer (some ⟨Bn, 0, none⟩)] W fun e W' => (∃ v, e = .returned v) ∧ J n W' := by
  have hc0 := (hcell 0 W (hJ.says _ _ hW)).1.cell
  rcases (hcell 0 W (hJ.says _ _ hW)).2 with ⟨b, off, c, rfl, _, _⟩ | ⟨a, c, rfl, rfl⟩
  all_goals
    refine callsIn_of_wp Try.func41 rfl trivial ?_ rfl
    simp only [Try.ntmps41, List.size_toArray, List.length_cons, List.length_nil, Nat.reduceAdd, Nat.reduceSub, Array.replicate_succ, Array.replicate_zero, List.push_toArray, List.append_toArray, List.nil_append, List.cons_append]
    gi_wp2
    clear hc0
  · gi_loopw [3] (fun s3 wr => ∃ k, k ≤ n ∧ s3 = .int .i64 ((n : Int) - 1 - k) ∧ J k wr) (fun s3 _ => (intOf s3 + 1).toNat)
    case atStart => exact ⟨0, by omega, by simp, hW⟩
    case round =>
      obtain ⟨k, hk, rfl, hj⟩ := hrel
      obtain ⟨hb, hr⟩ := hcell k wr (hJ.says _ _ hj)
      have hc := hb.cell
      by_cases hlt : k < n
      · obtain ⟨j, hjj⟩ : ∃ j, j = n - 1 - k := ⟨_, rfl⟩
        rw [show (n : Int) - 1 - k = (j : Int) by omega]
        have hjn : (j : Int) < n := by omega
        obtain ⟨fn, tmps, assign, body, hy, hR⟩ := hY k wr hlt hj
        rw [← hjj] at hy
        have hcell2 : wr.cell? ⟨b, off + j, none⟩ = some (.int .i64 (z j)) := by
          rcases hr with ⟨b', off', c', he, hr, _⟩ | ⟨_, _, he, h0⟩
          · cases he
            exact hr j (by omega)
          · omega
        have HR := Lib.hid hR
        have HJ := Lib.hid hjj
        clear hR hjj hr
        gi_wp2
        refine HR.out.mono ?_
        rintro e W3 ⟨rfl, hJ3⟩
        gi_wp2
        go_roundw
        case rel => exact ⟨k + 1, by omega, by have := HJ.out; go_num, hJ3⟩
        case measure => simp [intOf]
      · obtain rfl : k = n := by omega
        have hneg : (k : Int) - 1 - k < 0 := by omega
        clear hr
        gi_wp2
        go_end0
        exact ⟨⟨_, rfl⟩, hj⟩
  · gi_loopw [3] (fun s3 wr => s3 = .int .i64 (-1) ∧ J 0 wr) (fun _ _ => 0)
    case atStart => exact ⟨rfl, hW⟩
    case round =>
      obtain ⟨rfl, hj⟩ := hrel
      gi_wp2
      go_end0
      exact ⟨⟨_, rfl⟩, hj⟩
end Go.Proofs.Ytanheijppjpbjaa
