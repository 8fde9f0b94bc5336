/- The contracts of Eval of package field and of the reference. -/
import Derived.Test.YtanheijppjpbjaaBackward
namespace Go.Proofs.Ytanheijppjpbjaa
open Go Go.RowKit Go.Shelf
attribute [local go_sem] Oper.semAt_some

/-- What a round of Eval's loop knows: Bs: the block that the iterator has captured. -/
def Ev (z : Nat → Int) (x : Int) (n : Nat) (v : Value) (Bs : Nat) (w : World) (k : Nat) (W : World) : Prop :=
  Boxed W Bs 30 v ∧ Boxed W w.heap.size 3 (.int .i64 x) ∧ Boxed W (w.heap.size + 1) 3 (.int .i64 (ev z x n k)) ∧ Below w.heap.size w W

theorem boxed_below {B : Nat} {W W' : World} {b : Nat} {t : TypeId} {v : Value} (h : Boxed W b t v) (hB : Below B W W') (hb : b < B) : Boxed W' b t v := (hB.block b hb).trans h

set_option maxHeartbeats 2000000 in
set_option maxRecDepth 100000 in
theorem eval_yes0 (v : Value) (n : Nat) (z : Nat → Int) (x : Int) (w : World) (hx : Sc x) (hr : Reads w v n z) (hn : n ≤ 9223372036854775807) (hz : ∀ j, j < n → Sc (z j)) :
    CallsIn Fence.wide 6 Try.prog 16 #[v, .int .i64 x] w fun e W' => e = .returned (.tuple #[.int .i64 (pol z x n % 2305843009213688669), .int .i64 0]) ∧ Below w.heap.size w W' := by
  have HR := Lib.hid hr; have HZ := Lib.hid hz; have HX := Lib.hid hx
  clear hr hz hx
  obtain ⟨r, hpol⟩ : ∃ r, r = pol z x n % 2305843009213688669 := ⟨_, rfl⟩
  rw [← hpol]
  have HP := Lib.hid hpol
  clear hpol
  have b1 := Boxed.new w 3 (.int .i64 x)
  have b2 := Boxed.new (w.alloc (.cells #[.int .i64 x] 3)) 3 (.int .i64 0)
  have o1 := one_good ((w.alloc (.cells #[.int .i64 x] 3)).alloc (.cells #[.int .i64 0] 3)) x HX.out
  simp only [World.size_alloc] at b2 o1
  have O1 := Lib.hid o1
  clear o1
  have hB0 : Below w.heap.size w ((w.alloc (.cells #[.int .i64 x] 3)).alloc (.cells #[.int .i64 0] 3)) := ((Below.refl _ w).alloc (Nat.le_refl _) _).alloc (by simp) _
  refine callsIn_of_wp_marks Try.func16 rfl trivial ?_ rfl
  simp only [Try.ntmps16, List.size_toArray, List.length_cons, List.length_nil, Nat.reduceAdd, Nat.reduceSub, Array.replicate_succ, Array.replicate_zero, List.push_toArray, List.append_toArray, List.nil_append, List.cons_append]
  gi_wp2_with fail
  refine ⟨trivial, (callsIn_wide.2 O1.out).mono ?_⟩
  rintro e W1 ⟨rfl, hB1⟩
  have x1 := boxed_below (b1.alloc (.cells #[.int .i64 0] 3)) hB1 (by omega)
  have x2 := boxed_below b2 hB1 (by omega)
  have hBw := hB0.trans (hB1.mono (by omega))
  have R1 := Lib.hid (HR.out.below hBw)
  have hs1 : w.heap.size + 2 ≤ W1.heap.size := by have := hB1.size; simp at this; omega
  clear b1 b2 hB0 hB1 O1
  gi_wp2_with fail
  refine ⟨trivial, (callsIn_wide.2 (R1.out.out_good hn HZ.out)).mono ?_⟩
  rintro e w' ⟨rfl, q, rfl⟩
  have y1 : Boxed (W1.drewN q) w.heap.size 3 (.int .i64 x) := x1
  have y2 : Boxed (W1.drewN q) (w.heap.size + 1) 3 (.int .i64 0) := x2
  have hBy := below_drewN3 hBw q
  have R2 := Lib.hid (R1.out.below (below_drewN3 (Below.refl _ _) q))
  have hs2 : w.heap.size + 2 ≤ (W1.drewN q).heap.size := hs1
  clear x1 x2 hBw R1 hs1
  generalize W1.drewN q = W2 at *
  gi_wp2_with fail
  refine ⟨trivial, (callsIn_wide.2 (R2.out.back)).mono ?_⟩
  rintro e w' ⟨rfl, rfl⟩
  gi_wp2_with fail
  have y3 := Boxed.new W2 30 v
  refine range_on (n := 4) (gf := 41) (lb := #[.pointer (some ⟨W2.heap.size, 0, none⟩)]) rfl (enters_of Try.func41 (by kernel_rfl) rfl)
    (fun k : Nat => #[.int .i64 ((n - 1 - k : Nat) : Int), .int .i64 (z (n - 1 - k))]) (fun _ => rfl) (fun k => k + 1) (fun k => k < n) 0 n (Ev z x n v W2.heap.size w) ?put ?start
    (fun k => { tmps := #[v, .int .i64 x, undef, .pointer (some ⟨w.heap.size, 0, none⟩), .pointer (some ⟨w.heap.size + 1, 0, none⟩), .int .i64 0, undef, .int .i64 (z (n - 1 - k)),
      .int .i64 x, .slice (some ⟨w.heap.size + 1 + 1, 0, none⟩) 1 1, .bool false, .bool false, v, .bool false, .bool false, v, .func (.func 41) #[] #[.pointer (some ⟨W2.heap.size, 0, none⟩)],
      .int .i64 ((n - 1 - k : Nat) : Int), .int .i64 (z (n - 1 - k)), undef, undef, undef, undef, undef, undef, undef], defers := [] }) ?assign ?body ?iter ?done
  case put =>
    rintro s W l o o' ⟨h1, h3, h4, h5⟩ hl ho hc
    simp only [World.size_alloc] at hl
    have hg := grownBy_putObj' W l o'
    exact ⟨h1.kept hg (fun e => by cases e; omega), h3.kept hg (fun e => by cases e; omega), h4.kept hg (fun e => by cases e; omega), h5.grown hg h5.size (fun k e => by cases e; omega)⟩
  case start =>
    intro o o'
    have hBz : Below w.heap.size w (((W2.alloc (.cells #[v] 30)).alloc o).alloc o') := ((hBy.alloc hBy.size _).alloc (by have := hBy.size; simp; omega) _).alloc (by have := hBy.size; simp; omega) _
    refine ⟨(y3.alloc _).alloc _, ((y1.alloc _).alloc _).alloc _, ?_, hBz⟩
    exact ((y2.alloc _).alloc _).alloc _
  case assign =>
    intro l s W K hK
    gi_wp2
    exact hK
  case body =>
    rintro l k W hlt ⟨h1, h3, h4, h5⟩
    have c1 := h3.cell
    have c2 := h4.cell
    have f2 := h4.frozen
    obtain ⟨p0, p1⟩ := (ev_sc z x n k).bd
    obtain ⟨x0, x1⟩ := HX.out.bd
    obtain ⟨z0, z1⟩ := (HZ.out (n - 1 - k) (by omega)).bd
    have e1 := Lib.hid (ev_step z x n k hlt)
    obtain ⟨m0, m1⟩ := (sc_mod (ev z x n k * x)).bd
    have hend : ∀ (q : Nat) (t : Int), t = ev z x n (k + 1) → KeepsFrom (W2.heap.size + 1) W ((W.drewN q).setCell ⟨w.heap.size + 1, 0, none⟩ (.int .i64 t)) ∧ Ev z x n v W2.heap.size w (k + 1) ((W.drewN q).setCell ⟨w.heap.size + 1, 0, none⟩ (.int .i64 t)) := by
      rintro q t rfl
      have kd : KeepsOthers W (W.drewN q) := ⟨Nat.le_refl _, fun _ _ h _ => h⟩
      have g1 : Boxed (W.drewN q) W2.heap.size 30 v := h1
      have g3 : Boxed (W.drewN q) w.heap.size 3 (.int .i64 x) := h3
      have g4 : Boxed (W.drewN q) (w.heap.size + 1) 3 (.int .i64 (ev z x n k)) := h4
      exact ⟨(kd.trans (KeepsOthers.setCell _ _ _)).from _, g1.other (by omega) _, g3.other (by omega) _, g4.set _, (below_drewN3 h5 q).setCell (p := ⟨w.heap.size + 1, 0, none⟩) (by simp) _⟩
    have HE := Lib.hid hend
    clear hend h1 h3 h4 h5
    gi_wp2_with fail
    refine ⟨trivial, (CallsIn.inRound l (callsIn_wide.2 (product _ _ p0 p1 x0 x1 _))).mono ?_⟩
    rintro e w' ⟨rfl, q, rfl⟩
    have H2 := Lib.hid (HE.out q _ e1.out)
    generalize ev z x n k * x % 2305843009213688669 = g at *
    generalize z (n - 1 - k) = y at *
    clear HE e1
    gi_wp2_with fail
    exact H2.out
  case iter =>
    intro l J W hJ hY hW
    exact backward1_on v n z hn 4 _ l W2.heap.size (Ev z x n v W2.heap.size w) J W hJ (fun k V h => ⟨h.1, HR.out.below h.2.2.2⟩) hY hW
  case done =>
    rintro D W ⟨_, _, h4, hB⟩ hD hK
    simp only [World.size_alloc] at hD
    rw [ev_end, ← HP.out] at h4
    have c1 := h4.cell
    have f1 := h4.frozen
    have hv2 := h4.set (.int .i64 r)
    have hc2 := hv2.cell
    have hB2 : Below w.heap.size w (W.setCell ⟨w.heap.size + 1, 0, none⟩ (.int .i64 r)) := hB.setCell (p := ⟨w.heap.size + 1, 0, none⟩) (by simp) _
    have hK2 := (KeepsOthers.setCell W ⟨w.heap.size + 1, 0, none⟩ (.int .i64 r)).same D _ hK rfl
    have hv3 := hv2.kept (grownBy_putObj' (W.setCell ⟨w.heap.size + 1, 0, none⟩ (.int .i64 r)) D (.deferred none)) (fun e => by cases e; omega)
    have hc3 := hv3.cell
    have hB3 : Below w.heap.size w ((W.setCell ⟨w.heap.size + 1, 0, none⟩ (.int .i64 r)).putObj D (.deferred none)) := hB2.grown (grownBy_putObj' _ D _) hB2.size (fun k e => by cases e; omega)
    gi_wp2
    refine ⟨by simp, .inl ⟨_, _, rfl, run_takeDeferred hK2, ?_⟩⟩
    refine ⟨.tuple #[.int .i64 r, .int .i64 0], ?_, rfl, hB3⟩
    simp [results, Try.results16, go_sem, hc3]

theorem eval_yes (v : Value) (n : Nat) (z : Nat → Int) (x : Int) (w : World) (hx : Sc x) (hr : Reads w v n z) (hn : n ≤ 9223372036854775807) (hz : ∀ j, j < n → Sc (z j)) :
    Calls Try.prog 16 #[v, .int .i64 x] w fun e W' => e = .returned (.tuple #[.int .i64 (pol z x n % 2305843009213688669), .int .i64 0]) ∧ Below w.heap.size w W' :=
  callsIn_wide.1 (eval_yes0 v n z x w hx hr hn hz)

set_option maxHeartbeats 1000000 in
set_option maxRecDepth 100000 in
theorem eval_no0 (v : Value) (x : Int) (w : World) (h : ¬ Sc x ∨ (Sc x ∧ ∃ n k0 z, Reads w v n z ∧ n ≤ 9223372036854775807 ∧ k0 < n ∧ (∀ j, j < k0 → Sc (z j)) ∧ ¬ Sc (z k0))) :
    CallsIn Fence.wide 6 Try.prog 16 #[v, .int .i64 x] w fun e W' => e = .returned (.tuple #[.int .i64 0, .int .i64 1]) ∧ Below w.heap.size w W' := by
  have b2 := Boxed.new (w.alloc (.cells #[.int .i64 x] 3)) 3 (.int .i64 0)
  simp only [World.size_alloc] at b2
  have hB0 : Below w.heap.size w ((w.alloc (.cells #[.int .i64 x] 3)).alloc (.cells #[.int .i64 0] 3)) := ((Below.refl _ w).alloc (Nat.le_refl _) _).alloc (by simp) _
  rcases h with h | ⟨hx, n, k0, z, hr, hn, hk, hz, hb⟩
  · have o1 := one_bad ((w.alloc (.cells #[.int .i64 x] 3)).alloc (.cells #[.int .i64 0] 3)) x h
    simp only [World.size_alloc] at o1
    have O1 := Lib.hid o1
    clear o1 h
    refine callsIn_of_wp_marks Try.func16 rfl trivial ?_ rfl
    simp only [Try.ntmps16, List.size_toArray, List.length_cons, List.length_nil, Nat.reduceAdd, Nat.reduceSub, Array.replicate_succ, Array.replicate_zero, List.push_toArray, List.append_toArray, List.nil_append, List.cons_append]
    gi_wp2_with fail
    refine ⟨trivial, (callsIn_wide.2 O1.out).mono ?_⟩
    rintro e W1 ⟨rfl, hB1⟩
    have x2 := boxed_below b2 hB1 (by omega)
    have hBw := hB0.trans (hB1.mono (by omega))
    have c2 := x2.cell
    have f2 := x2.frozen
    have y2 := (x2.set (.int .i64 0)).cell
    have hB3 : Below w.heap.size w (W1.setCell ⟨w.heap.size + 1, 0, none⟩ (.int .i64 0)) := hBw.setCell (p := ⟨w.heap.size + 1, 0, none⟩) (by simp) _
    clear b2 hB0 hB1 O1
    gi_wp2
    refine ⟨trivial, ?_⟩
    gi_wp2
    refine ⟨.tuple #[.int .i64 0, .int .i64 1], ?_, rfl, hB3⟩
    simp [results, Try.results16, go_sem, y2]
  · have o1 := one_good ((w.alloc (.cells #[.int .i64 x] 3)).alloc (.cells #[.int .i64 0] 3)) x hx
    simp only [World.size_alloc] at o1
    have O1 := Lib.hid o1
    have HR := Lib.hid hr; have HZ := Lib.hid hz; have HB := Lib.hid hb
    clear o1 hr hz hb hx
    refine callsIn_of_wp_marks Try.func16 rfl trivial ?_ rfl
    simp only [Try.ntmps16, List.size_toArray, List.length_cons, List.length_nil, Nat.reduceAdd, Nat.reduceSub, Array.replicate_succ, Array.replicate_zero, List.push_toArray, List.append_toArray, List.nil_append, List.cons_append]
    gi_wp2_with fail
    refine ⟨trivial, (callsIn_wide.2 O1.out).mono ?_⟩
    rintro e W1 ⟨rfl, hB1⟩
    have x2 := boxed_below b2 hB1 (by omega)
    have hBw := hB0.trans (hB1.mono (by omega))
    have R1 := Lib.hid (HR.out.below hBw)
    clear b2 hB0 hB1 O1
    gi_wp2_with fail
    refine ⟨trivial, (callsIn_wide.2 (R1.out.out_bad hn hk HZ.out HB.out)).mono ?_⟩
    rintro e w' ⟨rfl, q, rfl⟩
    have x3 : Boxed (W1.drewN q) (w.heap.size + 1) 3 (.int .i64 0) := x2
    have hBq := below_drewN3 hBw q
    clear x2 hBw R1
    generalize W1.drewN q = W2 at *
    have c2 := x3.cell
    have f2 := x3.frozen
    have y2 := (x3.set (.int .i64 0)).cell
    have hB3 : Below w.heap.size w (W2.setCell ⟨w.heap.size + 1, 0, none⟩ (.int .i64 0)) := hBq.setCell (p := ⟨w.heap.size + 1, 0, none⟩) (by simp) _
    gi_wp2
    refine ⟨.tuple #[.int .i64 0, .int .i64 1], ?_, rfl, hB3⟩
    simp [results, Try.results16, go_sem, y2]
theorem eval_no (v : Value) (x : Int) (w : World) (h : ¬ Sc x ∨ (Sc x ∧ ∃ n k0 z, Reads w v n z ∧ n ≤ 9223372036854775807 ∧ k0 < n ∧ (∀ j, j < k0 → Sc (z j)) ∧ ¬ Sc (z k0))) :
    Calls Try.prog 16 #[v, .int .i64 x] w fun e W' => e = .returned (.tuple #[.int .i64 0, .int .i64 1]) ∧ Below w.heap.size w W' := callsIn_wide.1 (eval_no0 v x w h)

/-! ### The reference's Eval -/
theorem pol_step (z : Nat → Int) (x : Int) (k : Nat) : (pol z x k % 2305843009213688669 + z k * (x ^ k % 2305843009213688669) % 2305843009213688669) % 2305843009213688669 = pol z x (k + 1) % 2305843009213688669 := by
  rw [pol, Int.mul_emod, Int.emod_emod, ← Int.mul_emod, ← Int.add_emod]

set_option maxHeartbeats 1000000 in
set_option maxRecDepth 100000 in
theorem reval_x (v : Value) (x : Int) (w : World) (h : ¬ Sc x) :
    Calls Try.prog 27 #[v, .int .i64 x] w fun e W' => e = .returned (.tuple #[.int .i64 0, .int .i64 1]) ∧ ∃ q, W' = w.drewN q := by
  have H := Lib.hid h; clear h
  go_enter Try.func27, Try.ntmps27
  go_wp2_with fail
  refine (scalar_no x _ H.out).mono ?_
  rintro e w' ⟨rfl, rfl⟩
  go_wp2
  go_ret2
  exact ⟨rfl, 0, rfl⟩

set_option maxHeartbeats 2000000 in
set_option maxRecDepth 100000 in
theorem reval_row (b off n c m : Nat) (z : Nat → Int) (x : Int) (w : World) (hx : Sc x) (hr : Row w b off n z) (hn : n ≤ 9223372036854775807) (hm : m ≤ n) (hz : ∀ j, j < m → Sc (z j)) (hb : m < n → ¬ Sc (z m)) :
    Calls Try.prog 27 #[.slice (some ⟨b, off, none⟩) n c, .int .i64 x] w fun e W' => e = .returned (if m = n then .tuple #[.int .i64 (pol z x n % 2305843009213688669), .int .i64 0] else .tuple #[.int .i64 0, .int .i64 1]) ∧ ∃ q, W' = w.drewN q := by
  have HX := Lib.hid hx; have HR := Lib.hid hr; have HZ := Lib.hid hz; have HB := Lib.hid hb
  clear hx hr hz hb
  obtain ⟨v, hv⟩ : ∃ v : Value, v = if m = n then .tuple #[.int .i64 (pol z x n % 2305843009213688669), .int .i64 0] else .tuple #[.int .i64 0, .int .i64 1] := ⟨_, rfl⟩
  rw [← hv]
  have HV := Lib.hid hv
  clear hv
  go_enter Try.func27, Try.ntmps27
  go_wp2_with fail
  refine (scalar_yes x _ HX.out).mono ?_
  rintro e w' ⟨rfl, rfl⟩
  go_wp2
  go_loopw [6, 7, 8] (fun y p i wr => ∃ k q : Nat, k ≤ m ∧ y = .int .i64 (pol z x k % 2305843009213688669) ∧ p = .int .i64 (x ^ k % 2305843009213688669) ∧ i = .int .i64 k ∧ wr = w.drewN q) (fun _ _ i _ => n - (intOf i).toNat)
  case atStart => exact ⟨0, 0, Nat.zero_le _, rfl, by rw [Int.pow_zero]; rfl, rfl, rfl⟩
  case round =>
    obtain ⟨k, q, hk, rfl, rfl, rfl, rfl⟩ := hrel
    have hy := Lib.hid (sc_mod (pol z x k)); have hp := Lib.hid (sc_mod (x ^ k))
    have e1 := Lib.hid (pol_step z x k)
    have e2 := Lib.hid (show x ^ k % 2305843009213688669 * x % 2305843009213688669 = x ^ (k + 1) % 2305843009213688669 by rw [Int.pow_succ, Int.mul_emod, Int.emod_emod, ← Int.mul_emod])
    obtain ⟨Y, hY⟩ : ∃ Y, Y = pol z x k % 2305843009213688669 := ⟨_, rfl⟩
    rw [← hY] at hy e1 ⊢
    have HY := Lib.hid hY
    clear hY
    generalize x ^ k % 2305843009213688669 = P at *
    by_cases hkm : k < m
    · have hlt : (k : Int) < n := by omega
      have hcell := HR.out k (by omega)
      have hzk := Lib.hid (HZ.out k hkm)
      go_wp2_with fail
      refine (scalar_yes _ _ hzk.out).mono ?_
      rintro e w' ⟨rfl, rfl⟩
      go_wp2_with fail
      refine (rproduct _ _ _ hzk.out hp.out).mono ?_
      rintro e w' ⟨rfl, rfl⟩
      have hzp := sc_mod (z k * P)
      obtain ⟨zp0, zp1⟩ := hzp.bd
      clear hzp
      go_wp2_with fail
      refine (rsum _ _ _ hy.out zp0 (by omega)).mono ?_
      rintro e w' ⟨rfl, rfl⟩
      rw [e1.out]
      go_wp2_with fail
      refine (rproduct _ _ _ hp.out HX.out).mono ?_
      rintro e w' ⟨rfl, rfl⟩
      rw [e2.out]
      clear zp0 zp1 hcell
      go_wp2
      go_roundw
      case rel => exact ⟨k + 1, q, by omega, rfl, rfl, by go_num, rfl⟩
      case measure => simp [intOf]; omega
    · obtain rfl : k = m := by omega
      by_cases hlt : k < n
      · have hlt' : (k : Int) < n := by omega
        have hcell := HR.out k (by omega)
        have hne := Lib.hid (show ¬ k = n by omega)
        go_wp2_with fail
        refine (scalar_no _ _ (HB.out hlt)).mono ?_
        rintro e w' ⟨rfl, rfl⟩
        go_wp2
        go_ret2
        exact ⟨by rw [HV.out, if_neg hne.out]; rfl, q, rfl⟩
      · have he := Lib.hid (show k = n by omega)
        have hge : (n : Int) ≤ k := by omega
        go_wp2
        go_ret2
        exact ⟨by rw [HV.out, if_pos he.out, ← he.out, ← HY.out]; rfl, q, rfl⟩
set_option maxHeartbeats 2000000 in
set_option maxRecDepth 100000 in
theorem reval_nil (a : Option Addr) (c : Nat) (x : Int) (w : World) (hx : Sc x) :
    Calls Try.prog 27 #[.slice a 0 c, .int .i64 x] w fun e W' => e = .returned (.tuple #[.int .i64 0, .int .i64 0]) ∧ ∃ q, W' = w.drewN q := by
  have HX := Lib.hid hx
  clear hx
  go_enter Try.func27, Try.ntmps27
  go_wp2_with fail
  refine (scalar_yes x _ HX.out).mono ?_
  rintro e w' ⟨rfl, rfl⟩
  go_wp2
  go_loopw [6, 7, 8] (fun y p i wr => y = .int .i64 0 ∧ p = .int .i64 1 ∧ i = .int .i64 0 ∧ wr = w) (fun _ _ _ _ => 0)
  case atStart => exact ⟨rfl, rfl, rfl, rfl⟩
  case round =>
    obtain ⟨rfl, rfl, rfl, rfl⟩ := hrel
    go_wp2
    go_ret2
    exact ⟨rfl, 0, rfl⟩

/-- Eval of the program and of the reference return the same two numbers. -/
theorem evals (v : Value) (n : Nat) (z : Nat → Int) (x : Int) (w0 : World) (hr : Reads w0 v n z) (hn : n ≤ 9223372036854775807) :
    ∃ y e : Int, (∀ w, Below w0.heap.size w0 w → Calls Try.prog 16 #[v, .int .i64 x] w fun r W' => r = .returned (.tuple #[.int .i64 y, .int .i64 e]) ∧ Below w.heap.size w W') ∧
      (∀ w, Below w0.heap.size w0 w → Calls Try.prog 27 #[v, .int .i64 x] w fun r W' => r = .returned (.tuple #[.int .i64 y, .int .i64 e]) ∧ ∃ q, W' = w.drewN q) := by
  by_cases hx : Sc x
  · obtain ⟨m, hm, hz, hb⟩ : ∃ m, m ≤ n ∧ (∀ j, j < m → Sc (z j)) ∧ (m < n → ¬ Sc (z m)) := by
      clear hr hn
      induction n with
      | zero => exact ⟨0, Nat.le_refl _, fun j hj => by omega, fun h => by omega⟩
      | succ n ih =>
        obtain ⟨m, hm, hz, hb⟩ := ih
        rcases Nat.lt_or_ge m n with h | h
        · exact ⟨m, by omega, hz, fun _ => hb h⟩
        · obtain rfl : m = n := by omega
          by_cases hs : Sc (z m)
          · refine ⟨m + 1, Nat.le_refl _, fun j hj => ?_, fun h => by omega⟩
            rcases Nat.lt_or_ge j m with h' | h'
            · exact hz j h'
            · rw [show j = m by omega]
              exact hs
          · exact ⟨m, by omega, hz, fun _ => hs⟩
    by_cases he : m = n
    · subst he
      refine ⟨_, _, fun w hB => eval_yes v m z x w hx (hr.below hB) hn hz, fun w hB => ?_⟩
      rcases hr.below hB with ⟨b, off, c, rfl, hrow, _⟩ | ⟨a, c, rfl, rfl⟩
      · have := reval_row b off m c m z x w hx hrow hn hm hz hb
        rw [if_pos rfl] at this
        exact this
      · exact reval_nil a c x w hx
    · refine ⟨0, 1, fun w hB => eval_no v x w (.inr ⟨hx, n, m, z, hr.below hB, hn, by omega, hz, hb (by omega)⟩), fun w hB => ?_⟩
      rcases hr.below hB with ⟨b, off, c, rfl, hrow, _⟩ | ⟨a, c, rfl, rfl⟩
      · have := reval_row b off n c m z x w hx hrow hn hm hz hb
        rw [if_neg he] at this
        exact this
      · omega
  · exact ⟨0, 1, fun w _ => eval_no v x w (.inl hx), fun w _ => reval_x v x w hx⟩
end Go.Proofs.Ytanheijppjpbjaa
