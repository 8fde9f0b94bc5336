/- The contracts of power of package field, and of Inv and Pow of the program and of the reference. -/
import Derived.Test.YtanheijppjpbjaaBinary
import Derived.RangeFuncNested
namespace Go.Proofs.Ytanheijppjpbjaa
open Go Go.RowKit Go.Shelf
attribute [local go_sem] Oper.semAt_some

/-- The power at the upper k of the N bits of n. -/
def pw (a : Int) (n N k : Nat) : Int := a ^ (n / 2 ^ (N - k)) % 2305843009213688669
theorem pw_sc (a : Int) (n N k : Nat) : Sc (pw a n N k) := sc_mod _
theorem pw_start (a : Int) (n N : Nat) (hN : N = Lib.bitLen n) (hn : n ≤ 9223372036854775807) : pw a n N 0 = 1 := by
  have hlt : n < 2 ^ N := by
    by_cases h0 : n = 0
    · subst h0
      exact Nat.two_pow_pos N
    · rw [hN]
      exact (Lib.bitLenAux_bounds 64 n (by omega) h0).2.2
  unfold pw
  rw [Nat.sub_zero, Nat.div_eq_of_lt hlt, Int.pow_zero]
  rfl
theorem pw_end (a : Int) (n N : Nat) : pw a n N N = a ^ n % 2305843009213688669 := by
  unfold pw
  rw [Nat.sub_self, Nat.pow_zero, Nat.div_one]
theorem half (n N k : Nat) (hk : k < N) : n / 2 ^ (N - k) = n / 2 ^ (N - 1 - k) / 2 := by
  rw [Nat.div_div_eq_div_mul, ← Nat.pow_succ, show (N - 1 - k).succ = N - k by omega]
theorem sq_mod (x : Int) (e : Nat) : x ^ e % 2305843009213688669 * (x ^ e % 2305843009213688669) % 2305843009213688669 = x ^ (2 * e) % 2305843009213688669 := by
  rw [← Int.mul_emod, ← Int.pow_add, show e + e = 2 * e by omega]
theorem pw_no (a : Int) (n N k : Nat) (hk : k < N) (hb : bitAt n (N - 1 - k) = false) : pw a n N k * pw a n N k % 2305843009213688669 = pw a n N (k + 1) := by
  unfold pw
  rw [sq_mod, half n N k hk, show N - (k + 1) = N - 1 - k by omega]
  unfold bitAt at hb
  have h2 : n / 2 ^ (N - 1 - k) % 2 ≠ 1 := by simpa using hb
  rw [show 2 * (n / 2 ^ (N - 1 - k) / 2) = n / 2 ^ (N - 1 - k) by omega]
theorem pw_yes (a : Int) (n N k : Nat) (hk : k < N) (hb : bitAt n (N - 1 - k) = true) : pw a n N k * pw a n N k % 2305843009213688669 * a % 2305843009213688669 = pw a n N (k + 1) := by
  unfold pw
  rw [sq_mod, half n N k hk, show N - (k + 1) = N - 1 - k by omega]
  unfold bitAt at hb
  have h2 : n / 2 ^ (N - 1 - k) % 2 = 1 := by simpa using hb
  have h3 : n / 2 ^ (N - 1 - k) = 2 * (n / 2 ^ (N - 1 - k) / 2) + 1 := by omega
  generalize n / 2 ^ (N - 1 - k) / 2 = m at *
  rw [h3, Int.mul_emod, Int.emod_emod, ← Int.mul_emod, ← Int.pow_succ]

/-- What a round that has come to this place knows. -/
def Power (a : Int) (n N : Nat) (w : World) (k : Nat) (W : World) : Prop :=
  Boxed W (w.heap.size + 3) 3 (.int .i64 n) ∧ Boxed W w.heap.size 3 (.int .i64 a) ∧ Boxed W (w.heap.size + 1) 3 (.int .i64 (pw a n N k)) ∧
    Boxed W (w.heap.size + 2) 45 (.func (.func 39) #[] #[.pointer (some ⟨w.heap.size + 1, 0, none⟩)]) ∧ Below w.heap.size w W

theorem Power.put {a : Int} {n N : Nat} {w : World} {k : Nat} {W : World} (h : Power a n N w k W) {l : Nat} {o' : Obj} (hl : w.heap.size + 4 ≤ l) : Power a n N w k (W.putObj l o') := by
  obtain ⟨h1, h2, h3, h4, h5⟩ := h
  have hg := grownBy_putObj' W l o'
  exact ⟨h1.kept hg (fun e => by cases e; omega), h2.kept hg (fun e => by cases e; omega), h3.kept hg (fun e => by cases e; omega), h4.kept hg (fun e => by cases e; omega), h5.grown hg h5.size (fun k e => by cases e; omega)⟩
theorem Power.times {a : Int} {n N : Nat} {w : World} {k : Nat} {W : World} (h : Power a n N w k W) (q : Nat) (x : Int) :
    Boxed ((W.drewN q).setCell ⟨w.heap.size + 1, 0, none⟩ (.int .i64 x)) (w.heap.size + 3) 3 (.int .i64 n) ∧ Boxed ((W.drewN q).setCell ⟨w.heap.size + 1, 0, none⟩ (.int .i64 x)) w.heap.size 3 (.int .i64 a) ∧
    Boxed ((W.drewN q).setCell ⟨w.heap.size + 1, 0, none⟩ (.int .i64 x)) (w.heap.size + 1) 3 (.int .i64 x) ∧
    Boxed ((W.drewN q).setCell ⟨w.heap.size + 1, 0, none⟩ (.int .i64 x)) (w.heap.size + 2) 45 (.func (.func 39) #[] #[.pointer (some ⟨w.heap.size + 1, 0, none⟩)]) ∧
    Below w.heap.size w ((W.drewN q).setCell ⟨w.heap.size + 1, 0, none⟩ (.int .i64 x)) ∧ KeepsOthers W ((W.drewN q).setCell ⟨w.heap.size + 1, 0, none⟩ (.int .i64 x)) := by
  obtain ⟨h1, h2, h3, h4, h5⟩ := h
  have g1 : Boxed (W.drewN q) (w.heap.size + 3) 3 (.int .i64 n) := h1
  have g2 : Boxed (W.drewN q) w.heap.size 3 (.int .i64 a) := h2
  have g3 : Boxed (W.drewN q) (w.heap.size + 1) 3 (.int .i64 (pw a n N k)) := h3
  have g4 : Boxed (W.drewN q) (w.heap.size + 2) 45 (.func (.func 39) #[] #[.pointer (some ⟨w.heap.size + 1, 0, none⟩)]) := h4
  have kd : KeepsOthers W (W.drewN q) := ⟨Nat.le_refl _, fun _ _ h _ => h⟩
  exact ⟨g1.other (by omega) _, g2.other (by omega) _, g3.set _, g4.other (by omega) _, (below_drewN3 h5 q).setCell (p := ⟨w.heap.size + 1, 0, none⟩) (by simp) _, kd.trans (KeepsOthers.setCell _ _ _)⟩

set_option maxHeartbeats 2000000 in
set_option maxRecDepth 100000 in
theorem power_any (a : Int) (n : Nat) (w : World) (h : Sc a) (hn : n ≤ 9223372036854775807) :
    CallsIn Fence.wide 6 Try.prog 30 #[.int .i64 a, .int .i64 n] w fun e W' => e = .returned (.int .i64 (a ^ n % 2305843009213688669)) ∧ Below w.heap.size w W' := by
  obtain ⟨N, hN⟩ : ∃ N, N = Lib.bitLen n := ⟨_, rfl⟩
  have HN := Lib.hid hN
  clear hN
  refine callsIn_of_wp_marks Try.func30 rfl trivial ?_ rfl
  simp only [Try.ntmps30, List.size_toArray, List.length_cons, List.length_nil, Nat.reduceAdd, Nat.reduceSub, Array.replicate_succ, Array.replicate_zero, List.push_toArray, List.append_toArray, List.nil_append, List.cons_append]
  gi_wp2_with (refine ⟨trivial, ?_⟩; gi_at_call 40; refine (callsIn_wide.2 (callsIn_wide.1 (binary_any _ _))).mono ?_; rintro e w' ⟨rfl, rfl⟩)
  have b1 := Boxed.new w 3 (.int .i64 a)
  have b2 := Boxed.new (w.alloc (.cells #[.int .i64 a] 3)) 3 (.int .i64 1)
  have b3 := Boxed.new ((w.alloc (.cells #[.int .i64 a] 3)).alloc (.cells #[.int .i64 1] 3)) 45 (.func (.func 39) #[] #[.pointer (some ⟨w.heap.size + 1, 0, none⟩)])
  have b4 := Boxed.new (((w.alloc (.cells #[.int .i64 a] 3)).alloc (.cells #[.int .i64 1] 3)).alloc (.cells #[.func (.func 39) #[] #[.pointer (some ⟨w.heap.size + 1, 0, none⟩)]] 45)) 3 (.int .i64 n)
  simp only [World.size_alloc] at b2 b3 b4
  refine range_on (n := 4) (gf := 45) (lb := #[.pointer (some ⟨w.heap.size + 3, 0, none⟩)]) rfl (enters_of Try.func45 (by kernel_rfl) rfl)
    (fun k : Nat => #[.bool (bitAt n (N - 1 - k))]) (fun _ => rfl) (fun k => k + 1) (fun k => k < N) 0 N (Power a n N w) ?put ?start
    (fun k => { tmps := #[.int .i64 a, .int .i64 n, .pointer (some ⟨w.heap.size, 0, none⟩), undef, .int .i64 0, .pointer (some ⟨w.heap.size + 1, 0, none⟩), .pointer (some ⟨w.heap.size + 1 + 1, 0, none⟩), .bool (bitAt n (N - 1 - k)),
      .func (.func 39) #[] #[.pointer (some ⟨w.heap.size + 1, 0, none⟩)], .int .i64 n, .func (.func 45) #[] #[.pointer (some ⟨w.heap.size + 1 + 1 + 1, 0, none⟩)], .bool (bitAt n (N - 1 - k)), undef, undef, undef, undef, undef, undef, undef, undef], defers := [] }) ?assign ?body ?iter ?done
  case put =>
    intro s W l o o' h hl _ _
    simp only [World.size_alloc] at hl
    exact Power.put h (by omega)
  case start =>
    intro o o'
    refine ⟨(b4.alloc _).alloc _, (((((b1.alloc _).alloc _).alloc _).alloc _)).alloc _, ?_, ((b3.alloc _).alloc _).alloc _, ?_⟩
    · rw [pw_start a n N HN.out hn]
      exact (((b2.alloc _).alloc _).alloc _).alloc _
    · exact ((((((Below.refl _ w).alloc (Nat.le_refl _) _).alloc (by simp) _).alloc (by simp; omega) _).alloc (by simp; omega) _).alloc (by simp; omega) _).alloc (by simp; omega) _
  case assign =>
    intro l s W K hK
    gi_wp2
    exact hK
  case body =>
    intro l k W hlt hP
    have hP' := Lib.hid hP
    obtain ⟨h1', h2', h3', h4', hB⟩ := hP
    have c1 := h3'.cell
    have c2 := h4'.cell
    have hA := Lib.hid h
    have L := Lib.hid hlt
    clear h hlt h1'
    have fin : ∀ (q : Nat) (V : World), V = (W.drewN q).setCell ⟨w.heap.size + 1, 0, none⟩ (.int .i64 (pw a n N k * pw a n N k % 2305843009213688669)) →
        Boxed V (w.heap.size + 3) 3 (.int .i64 n) ∧ Boxed V w.heap.size 3 (.int .i64 a) ∧ Boxed V (w.heap.size + 1) 3 (.int .i64 (pw a n N k * pw a n N k % 2305843009213688669)) ∧
        Boxed V (w.heap.size + 2) 45 (.func (.func 39) #[] #[.pointer (some ⟨w.heap.size + 1, 0, none⟩)]) ∧ Below w.heap.size w V ∧ KeepsOthers W V := by
      rintro q V rfl
      exact hP'.out.times q _
    have FIN := Lib.hid fin
    clear fin
    gi_wp2_with fail
    refine ⟨trivial, (CallsIn.inRound l (callsIn_wide.2 (times_any (w.heap.size + 1) _ _ W h3' (pw_sc a n N k) (pw_sc a n N k)))).mono ?_⟩
    rintro e w' ⟨⟨v, rfl⟩, q, rfl⟩
    obtain ⟨x1, x2, x3, x4, x5, x6⟩ := FIN.out q _ rfl
    clear FIN h2' h3' h4' hB c1 c2
    generalize (W.drewN q).setCell ⟨w.heap.size + 1, 0, none⟩ (.int .i64 (pw a n N k * pw a n N k % 2305843009213688669)) = V at *
    have c1 := x2.cell
    have c2 := x4.cell
    cases hb : bitAt n (N - 1 - k) with
    | false =>
      have e1 := pw_no a n N k L.out hb
      rw [e1] at x3
      clear e1
      gi_wp2_with fail
      exact ⟨x6.from _, x1, x2, x3, x4, x5⟩
    | true =>
      have e1 := Lib.hid (pw_yes a n N k L.out hb)
      gi_wp2_with fail
      refine ⟨trivial, (CallsIn.inRound l (callsIn_wide.2 (times_any (w.heap.size + 1) _ a V x3 (sc_mod _) hA.out))).mono ?_⟩
      rintro e w' ⟨⟨v2, rfl⟩, q2, rfl⟩
      rw [e1.out]
      have kd : KeepsOthers V (V.drewN q2) := ⟨Nat.le_refl _, fun _ _ h _ => h⟩
      have g1 : Boxed (V.drewN q2) (w.heap.size + 3) 3 (.int .i64 n) := x1
      have g2 : Boxed (V.drewN q2) w.heap.size 3 (.int .i64 a) := x2
      have g3 : Boxed (V.drewN q2) (w.heap.size + 1) 3 (.int .i64 (pw a n N k * pw a n N k % 2305843009213688669)) := x3
      have g4 : Boxed (V.drewN q2) (w.heap.size + 2) 45 (.func (.func 39) #[] #[.pointer (some ⟨w.heap.size + 1, 0, none⟩)]) := x4
      have hfin : KeepsFrom (w.heap.size + 1 + 1 + 1 + 1) W ((V.drewN q2).setCell ⟨w.heap.size + 1, 0, none⟩ (.int .i64 (pw a n N (k + 1)))) ∧ Power a n N w (k + 1) ((V.drewN q2).setCell ⟨w.heap.size + 1, 0, none⟩ (.int .i64 (pw a n N (k + 1)))) :=
        ⟨((x6.trans kd).trans (KeepsOthers.setCell _ _ _)).from _, g1.other (by omega) _, g2.other (by omega) _, g3.set _, g4.other (by omega) _, (below_drewN3 x5 q2).setCell (p := ⟨w.heap.size + 1, 0, none⟩) (by simp) _⟩
      have HFIN := Lib.hid hfin
      clear hfin e1 x1 x2 x3 x4 x5 x6 g1 g2 g3 g4 kd
      gi_wp2_with fail
      exact HFIN.out
  case iter =>
    intro l J W hJ hY hW
    exact binary1_on n N hn 4 _ l (w.heap.size + 3) (Power a n N w) J W HN.out hJ (fun k V h => h.1) hY hW
  case done =>
    rintro D W ⟨_, _, h3', _, hB⟩ hD hK
    simp only [World.size_alloc] at hD
    have c1 := h3'.cell
    rw [pw_end] at c1
    have hB3 : Below w.heap.size w (W.putObj D (.deferred none)) := hB.grown (grownBy_putObj' _ D _) hB.size (fun k e => by cases e; omega)
    gi_wp2
    refine ⟨by simp, .inl ⟨_, _, rfl, run_takeDeferred hK, ?_⟩⟩
    exact ⟨_, results_tmp rfl _ _ _, rfl, hB3⟩
end Go.Proofs.Ytanheijppjpbjaa
