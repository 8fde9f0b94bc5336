/- The contracts of Len of package math/bits, of the iterator binary of package field and of the power over it. -/
import Derived.Test.YtanheijppjpbjaaBasic
import Derived.Test.YtanheijppjpbjaaRange
import Derived.Lib.Small
import Derived.Lib.ItoaNum
import Derived.Lib.RabinKarpLaws
import Derived.RangeFuncNested
import Derived.RangeFuncBound
import Derived.RangeFuncCalls
import Derived.RangeFuncLeaves
import Derived.Shelf.Abstract
import Derived.Shelf.AbstractIn
import Derived.Shelf.RegionOpen
import Derived.OwnWalkIn
import Derived.TacticsInMore
import Derived.LoopNIn
import Derived.LoopIn
import Derived.Maps.AppendAt
import Derived.Laws.EntriesVeiled
namespace Go.Proofs.Ytanheijppjpbjaa
open Go Go.RowKit Go.Shelf
attribute [local go_sem] Oper.semAt_some

theorem tab_size : Lib.len8tab.size = 256 := by decide +kernel
theorem tab_at (k : Nat) (h : k < Lib.len8tab.size) : wrap64 (Lib.len8tab[k].toNat : Int) = (Lib.bitLen k : Int) := by
  have h1 : ∀ k : Fin 256, (Lib.len8tab.data[k.val]!).toNat = Lib.bitLen k.val := by decide +kernel
  have h2 := h1 ⟨k, by rw [tab_size] at h; exact h⟩
  have h3 : Lib.len8tab[k] = Lib.len8tab.data[k]! := by
    rw [getElem!_pos Lib.len8tab.data k (by simpa using h)]
    rfl
  have h4 := Lib.bitLen_le8 ⟨k, by rw [tab_size] at h; exact h⟩
  rw [h3]
  simp only at h2 h4
  rw [h2]
  unfold wrap64
  omega

theorem len_sum (x y : Int) (k : Nat) (hx : 2 ^ k ≤ x.toNat) (h64 : x.toNat < 2 ^ 64) (hy : y.toNat = x.toNat / 2 ^ k) : wrap64 ((k : Int) + (Lib.bitLen y.toNat : Int)) = (Lib.bitLen x.toNat : Int) := by
  have h1 := Lib.bitLen_shift k x.toNat hx h64
  have h2 := Lib.bitLen_le x.toNat 64 (by omega) h64
  rw [hy]
  unfold wrap64
  omega

set_option maxHeartbeats 4000000 in
set_option maxRecDepth 100000 in
theorem len64 (x : Int) (w : World) (h0 : 0 ≤ x) (h1 : x ≤ 18446744073709551615) :
    Calls Try.prog 49 #[.int .u64 x] w fun e w' => e = .returned (.int .i64 (Lib.bitLen x.toNat)) ∧ w' = w := by
  have hs := tab_size
  go_enter Try.func49, Try.ntmps49
  go_wp2
  all_goals (go_ret; refine ⟨congrArg Ending.returned (congrArg (Value.int IntKind.i64) ?_), rfl⟩; rw [tab_at])
  · exact len_sum x _ 56 (by omega) (by omega) (by omega)
  · exact len_sum x _ 48 (by omega) (by omega) (by omega)
  · exact len_sum x _ 40 (by omega) (by omega) (by omega)
  · exact len_sum x _ 32 (by omega) (by omega) (by omega)
  · exact len_sum x _ 24 (by omega) (by omega) (by omega)
  · exact len_sum x _ 16 (by omega) (by omega) (by omega)
  · exact len_sum x _ 8 (by omega) (by omega) (by omega)
  · have := Lib.bitLen_le x.toNat 64 (by omega) (by omega)
    unfold wrap64
    omega
theorem len (n : Int) (w : World) (h0 : 0 ≤ n) (h1 : n ≤ 18446744073709551615) :
    Calls Try.prog 46 #[.int .u64 n] w fun e w' => e = .returned (.int .i64 (Lib.bitLen n.toNat)) ∧ w = w' := by
  go_enter Try.func46, Try.ntmps46
  go_wp2_with (go_at_call 49; refine (len64 _ _ (by omega) (by omega)).mono ?_; rintro e w' ⟨rfl, rfl⟩)
  go_ret
  exact ⟨rfl, rfl⟩

theorem binary_any (n : Int) (w : World) :
    CallsIn Fence.wide 9 Try.prog 40 #[.int .i64 n] w fun e w' => e = .returned (.func (.func 45) #[] #[.pointer (some ⟨w.heap.size, 0, none⟩)]) ∧ w' = w.alloc (.cells #[.int .i64 n] 3) := by
  refine callsIn_of_wp Try.func40 rfl trivial ?_ rfl
  simp only [Try.ntmps40, List.size_toArray, List.length_cons, List.length_nil, Nat.reduceAdd, Nat.reduceSub, Array.replicate_succ, Array.replicate_zero, List.push_toArray, List.append_toArray, List.nil_append, List.cons_append]
  gi_wp2
  go_ret
  exact ⟨rfl, rfl⟩
/-- The closure that multiplies the captured number. -/
theorem times_any (B : Nat) (c b : Int) (w : World) (hb : Boxed w B 3 (.int .i64 c)) (hc : Sc c) (h : Sc b) :
    Calls Try.prog 39 #[.int .i64 b, .pointer (some ⟨B, 0, none⟩)] w fun e w' => (∃ v, e = .returned v) ∧ ∃ q, w' = (w.drewN q).setCell ⟨B, 0, none⟩ (.int .i64 (c * b % 2305843009213688669)) := by
  have h1 := hb.cell
  have h2 := hb.frozen
  obtain ⟨b0, b1⟩ := h.bd
  obtain ⟨c0, c1⟩ := hc.bd
  go_enter Try.func39, Try.ntmps39
  go_wp2_with fail
  refine (product c b c0 c1 b0 b1 _).mono ?_
  rintro e w' ⟨rfl, q, rfl⟩
  go_wp2
  go_end0
  exact ⟨⟨_, rfl⟩, q, rfl⟩

/-- A bit of a number. -/
def bitAt (n i : Nat) : Bool := n / 2 ^ i % 2 == 1
theorem bit_go (n i : Nat) (hn : n ≤ 9223372036854775807) : (bits BinOp.and IntKind.i64 ((n : Int) / 2 ^ i) 1 == 1) = bitAt n i := by
  have e : (n : Int) / 2 ^ i = ((n / 2 ^ i : Nat) : Int) := by push_cast; rfl
  have hle : n / 2 ^ i ≤ n := Nat.div_le_self _ _
  rw [e, and_one (n / 2 ^ i) (by omega)]
  unfold bitAt
  rcases Nat.mod_two_eq_zero_or_one (n / 2 ^ i) with h | h <;> rw [h] <;> rfl

set_option maxHeartbeats 1000000 in
set_option maxRecDepth 100000 in
theorem binary1_on (n N : Nat) (hn : n ≤ 9223372036854775807) (m B l Bn : Nat) (I J : Nat → World → Prop) (W : World) (hN : N = Lib.bitLen n) (hJ : Carries B I J)
    (hcell : ∀ k V, I k V → Boxed V Bn 3 (.int .i64 n))
    (hY : ∀ k V, k < N → J k V → YieldAt Fence.wide m Try.prog l #[.bool (bitAt n (N - 1 - k))] V fun e V' => e = .returned (.bool true) ∧ J (k + 1) V')
    (hW : J 0 W) :
    CallsIn Fence.wide (m + 1) Try.prog 45 #[.func (.yield l) #[] #[], .pointer (some ⟨Bn, 0, none⟩)] W fun e W' => (∃ v, e = .returned v) ∧ J N W' := by
  have hc0 := (hcell 0 W (hJ.says _ _ hW)).cell
  have hlen : ∀ w, Calls Try.prog 46 #[.int .u64 n] w fun e w' => e = .returned (.int .i64 N) ∧ w = w' := fun w => by
    have := len n w (by omega) (by omega)
    rw [hN]
    exact this
  have HL := Lib.hid hlen
  have hN64 : N ≤ 64 := by rw [hN]; exact Lib.bitLen_le n 64 (by omega) (by omega)
  clear hlen hN
  refine callsIn_of_wp Try.func45 rfl trivial ?_ rfl
  simp only [Try.ntmps45, List.size_toArray, List.length_cons, List.length_nil, Nat.reduceAdd, Nat.reduceSub, Array.replicate_succ, Array.replicate_zero, List.push_toArray, List.append_toArray, List.nil_append, List.cons_append]
  gi_wp2_with (refine ⟨trivial, ?_⟩; gi_at_call 46; refine (callsIn_wide.2 (HL.out _)).mono ?_; rintro e w' ⟨rfl, rfl⟩)
  clear hc0
  gi_loopw [3] (fun s3 wr => ∃ k, k ≤ N ∧ s3 = .int .i64 ((N : Int) - 1 - k) ∧ J k wr) (fun s3 _ => (intOf s3 + 1).toNat)
  case atStart => exact ⟨0, by omega, by simp, hW⟩
  case round =>
    obtain ⟨k, hk, rfl, hj⟩ := hrel
    have hb := hcell k wr (hJ.says _ _ hj)
    have hc := hb.cell
    by_cases hlt : k < N
    · obtain ⟨j, hjj⟩ : ∃ j, j = N - 1 - k := ⟨_, rfl⟩
      rw [show (N : Int) - 1 - k = (j : Int) by omega]
      have hj64 : j < 64 := by omega
      obtain ⟨fn, tmps, assign, body, hy, hR⟩ := hY k wr hlt hj
      rw [← hjj] at hy
      have HR := Lib.hid hR
      have HJ := Lib.hid hjj
      clear hR hjj
      have hbit := bit_go n j hn
      gi_wp2
      refine HR.out.mono ?_
      rintro e W3 ⟨rfl, hJ3⟩
      gi_wp2
      go_roundw
      case rel => exact ⟨k + 1, by omega, by have := HJ.out; go_num, hJ3⟩
      case measure => simp [intOf]
    · obtain rfl : k = N := by omega
      have hneg : (k : Int) - 1 - k < 0 := by omega
      gi_wp2
      go_end0
      exact ⟨⟨_, rfl⟩, hj⟩
end Go.Proofs.Ytanheijppjpbjaa
