/- The walk of the statement FieldPolynomials: it returns true for every input. -/
import Derived.Test.YtanheijppjpbjaaPoly
import Derived.OwnWalk
import Derived.Deep.RegionLaw
import Derived.Deep.RegionHeld3
import Derived.Deep.DrawnRows
import Derived.Deep.DeepCutAuto
import Derived.KernelRfl
namespace Go.Proofs.Ytanheijppjpbjaa
open Go Go.RowKit Go.Shelf

attribute [local go_sem ↓] Go.wp_at_zero Go.wp_at_succ

theorem info3 : (Try.prog.info? 3).map (fun i => (i.zero, i.size, i.bytes)) = some (some (.int .i64 0), 1, 8) := by kernel_rfl

/-- A block of N numbers that the law made. -/
structure Met (W : World) (g N : Nat) (m : Nat → Int) : Prop where
  cell : ∀ j, j < N → W.cell? ⟨g, j, none⟩ = some (.int .i64 (m j))
  free : ∀ j, j < N → W.frozen? ⟨g, j, none⟩ = false
theorem Met.made {w w' : World} {N z : Nat} (h : w'.ownsRow z 3 1 (.slice (some ⟨w.heap.size, 0, none⟩) N N) N (madeCells (Value.int .i64 0).cells (N * 1)).toList) : Met w' w.heap.size N (fun _ => 0) := by
  refine ⟨fun j hj => ?_, fun j hj => h.frozenAt j⟩
  rw [h.cellAt j (by omega)]
  have e : (madeCells (Value.int .i64 0).cells (N * 1)).toList = List.replicate (N * 1) (.int .i64 0) := toList_madeCells_one _ _
  rw [e, List.getElem?_replicate, if_pos (by omega)]
theorem Met.set {W : World} {g N : Nat} {m : Nat → Int} (h : Met W g N m) (k : Nat) (hk : k < N) (v : Int) : Met (W.setCell ⟨g, k, none⟩ (.int .i64 v)) g N (fun j => if j = k then v else m j) := by
  refine ⟨fun j hj => ?_, fun j hj => by rw [World.frozen?_setCell]; exact h.free j hj⟩
  by_cases e : j = k
  · subst e
    simp only [if_pos]
    exact World.cell?_setCell_same' _ _ _ (by rw [h.cell j hk]; rfl)
  · simp only [if_neg e]
    exact (World.cell?_setCell_other _ _ _ _ (by intro he; cases he; exact e rfl)).trans (h.cell j hj)
theorem Met.other {W : World} {g N : Nat} {m : Nat → Int} (h : Met W g N m) {g' k : Nat} (hg : g ≠ g') (v : Value) : Met (W.setCell ⟨g', k, none⟩ v) g N m := by
  refine ⟨fun j hj => ?_, fun j hj => by rw [World.frozen?_setCell]; exact h.free j hj⟩
  exact (World.cell?_setCell_other _ _ _ _ (by intro he; cases he; exact hg rfl)).trans (h.cell j hj)
theorem Met.below {W W' : World} {g N : Nat} {m : Nat → Int} (h : Met W g N m) (hg : g < W.heap.size) (hB : Below W.heap.size W W') : Met W' g N m :=
  ⟨fun j hj => (hB.cell (p := ⟨g, j, none⟩) hg).trans (h.cell j hj), fun j hj => by rw [hB.frozen (p := ⟨g, j, none⟩) hg]; exact h.free j hj⟩
theorem Met.congr {W : World} {g N : Nat} {m m' : Nat → Int} (h : Met W g N m) (he : ∀ j, j < N → m j = m' j) : Met W g N m' := ⟨fun j hj => by rw [← he j hj]; exact h.cell j hj, h.free⟩
theorem Met.reads {W : World} {g N : Nat} {m : Nat → Int} (h : Met W g N m) (hg : g < W.heap.size) : Reads W (.slice (some ⟨g, 0, none⟩) N N) N m :=
  .inl ⟨g, 0, N, rfl, fun j hj => by rw [Nat.zero_add]; exact h.cell j hj, fun _ => hg⟩

/-- The cells of a new slice of N numbers. -/
def zeros (N : Nat) : Array Value := madeCells (Value.int .i64 0).cells (N * 1)
theorem make_run (N : Nat) (hN : N ≤ 41) (W : World) : (Instr.makeSlice 30 (.int .i64 (N : Int)) (.int .i64 (N : Int))).run Try.prog W = .ok (.slice (some ⟨W.heap.size, 0, none⟩) N N) (W.alloc (.cells (zeros N) 3)) := by
  obtain ⟨i0, hi, hz0, hz1, hz2⟩ := info_parts info3
  have hr := run_make (P := Try.prog) W 30 3 i0 (.int .i64 0) Try.underlying30 hi hz0 .i64 .i64 N N (by omega) (Int.le_refl _) (by rw [hz2]; omega) (by omega)
  simp only [Int.toNat_natCast, hz1] at hr
  exact hr
theorem Met.made0 (W : World) (N : Nat) (hN : N ≤ 41) : Met (W.alloc (.cells (zeros N) 3)) W.heap.size N (fun _ => 0) :=
  Met.made (z := 0) (World.ownsRow_lit W _ N (Nat.zero_le _) (by unfold maxLen; omega) (size_madeCells _ _))
theorem Met.alloc {W : World} {g N : Nat} {m : Nat → Int} (h : Met W g N m) (hg : g < W.heap.size) (o : Obj) : Met (W.alloc o) g N m :=
  h.below hg ((Below.refl _ W).alloc (Nat.le_refl _) o)

def upd (f : Nat → Int) (i : Nat) (v : Int) (j : Nat) : Int := if j = i then v else f j
theorem upd_self (f : Nat → Int) (i : Nat) (v : Int) : upd f i v i = v := if_pos rfl
theorem upd_ne {f : Nat → Int} {i j : Nat} (h : j ≠ i) (v : Int) : upd f i v j = f j := if_neg h
/-- The four blocks that the law made, and that nothing of the older memory was written. -/
structure Blocks (W w : World) (gp gq gs gr N : Nat) (p q s r : Nat → Int) : Prop where
  mp : Met W gp N p
  mq : Met W gq N q
  ms : Met W gs N s
  mr : Met W gr (N + 1) r
  bel : Below w.heap.size w W
  lp : gp < W.heap.size
  lq : gq < W.heap.size
  ls : gs < W.heap.size
  lr : gr < W.heap.size
  ap : w.heap.size ≤ gp ∧ w.heap.size ≤ gq ∧ w.heap.size ≤ gs ∧ w.heap.size ≤ gr
  ne : gp ≠ gq ∧ gp ≠ gs ∧ gq ≠ gs ∧ gp ≠ gr ∧ gq ≠ gr ∧ gs ≠ gr
theorem Blocks.below {W W' w : World} {gp gq gs gr N : Nat} {p q s r : Nat → Int} (h : Blocks W w gp gq gs gr N p q s r) (hB : Below W.heap.size W W') : Blocks W' w gp gq gs gr N p q s r :=
  ⟨h.mp.below h.lp hB, h.mq.below h.lq hB, h.ms.below h.ls hB, h.mr.below h.lr hB, h.bel.trans (hB.mono h.bel.size), Nat.lt_of_lt_of_le h.lp hB.size, Nat.lt_of_lt_of_le h.lq hB.size, Nat.lt_of_lt_of_le h.ls hB.size, Nat.lt_of_lt_of_le h.lr hB.size, h.ap, h.ne⟩
theorem Blocks.drew {W w : World} {gp gq gs gr N : Nat} {p q s r : Nat → Int} (h : Blocks W w gp gq gs gr N p q s r) (k : Nat) : Blocks (W.drewN k) w gp gq gs gr N p q s r :=
  h.below (below_drewN3 (Below.refl _ _) k)
theorem Blocks.setP {W w : World} {gp gq gs gr N : Nat} {p q s r : Nat → Int} (h : Blocks W w gp gq gs gr N p q s r) (k : Nat) (hk : k < N) (v : Int) : Blocks (W.setCell ⟨gp, k, none⟩ (.int .i64 v)) w gp gq gs gr N (upd p k v) q s r :=
  ⟨h.mp.set k hk v, h.mq.other (Ne.symm h.ne.1) _, h.ms.other (Ne.symm h.ne.2.1) _, h.mr.other (Ne.symm h.ne.2.2.2.1) _, h.bel.setCell (p := ⟨gp, k, none⟩) h.ap.1 _, by simpa using h.lp, by simpa using h.lq, by simpa using h.ls, by simpa using h.lr, h.ap, h.ne⟩
theorem Blocks.setQ {W w : World} {gp gq gs gr N : Nat} {p q s r : Nat → Int} (h : Blocks W w gp gq gs gr N p q s r) (k : Nat) (hk : k < N) (v : Int) : Blocks (W.setCell ⟨gq, k, none⟩ (.int .i64 v)) w gp gq gs gr N p (upd q k v) s r :=
  ⟨h.mp.other h.ne.1 _, h.mq.set k hk v, h.ms.other (Ne.symm h.ne.2.2.1) _, h.mr.other (Ne.symm h.ne.2.2.2.2.1) _, h.bel.setCell (p := ⟨gq, k, none⟩) h.ap.2.1 _, by simpa using h.lp, by simpa using h.lq, by simpa using h.ls, by simpa using h.lr, h.ap, h.ne⟩
theorem Blocks.setS {W w : World} {gp gq gs gr N : Nat} {p q s r : Nat → Int} (h : Blocks W w gp gq gs gr N p q s r) (k : Nat) (hk : k < N) (v : Int) : Blocks (W.setCell ⟨gs, k, none⟩ (.int .i64 v)) w gp gq gs gr N p q (upd s k v) r :=
  ⟨h.mp.other h.ne.2.1 _, h.mq.other h.ne.2.2.1 _, h.ms.set k hk v, h.mr.other (Ne.symm h.ne.2.2.2.2.2) _, h.bel.setCell (p := ⟨gs, k, none⟩) h.ap.2.2.1 _, by simpa using h.lp, by simpa using h.lq, by simpa using h.ls, by simpa using h.lr, h.ap, h.ne⟩
theorem Blocks.setR {W w : World} {gp gq gs gr N : Nat} {p q s r : Nat → Int} (h : Blocks W w gp gq gs gr N p q s r) (k : Nat) (hk : k < N + 1) (v : Int) : Blocks (W.setCell ⟨gr, k, none⟩ (.int .i64 v)) w gp gq gs gr N p q s (upd r k v) :=
  ⟨h.mp.other h.ne.2.2.2.1 _, h.mq.other h.ne.2.2.2.2.1 _, h.ms.other h.ne.2.2.2.2.2 _, h.mr.set k hk v, h.bel.setCell (p := ⟨gr, k, none⟩) h.ap.2.2.2 _, by simpa using h.lp, by simpa using h.lq, by simpa using h.ls, by simpa using h.lr, h.ap, h.ne⟩
theorem Blocks.congr {W w : World} {gp gq gs gr N : Nat} {p q s r p' q' s' r' : Nat → Int} (h : Blocks W w gp gq gs gr N p q s r) (hp : ∀ j, p j = p' j) (hq : ∀ j, q j = q' j) (hs : ∀ j, s j = s' j) (hr : ∀ j, r j = r' j) : Blocks W w gp gq gs gr N p' q' s' r' :=
  ⟨h.mp.congr fun j _ => hp j, h.mq.congr fun j _ => hq j, h.ms.congr fun j _ => hs j, h.mr.congr fun j _ => hr j, h.bel, h.lp, h.lq, h.ls, h.lr, h.ap, h.ne⟩
/-- Scalars, 0 from the place i on. -/
def Good (i : Nat) (P : Nat → Int) : Prop := (∀ j, Sc (P j)) ∧ ∀ j, i ≤ j → P j = 0
theorem good_zero : Good 0 (fun _ => 0) := ⟨fun _ => ⟨Int.le_refl _, (by decide : (0 : Int) < 2305843009213688669)⟩, fun _ _ => rfl⟩
theorem Good.upd {i : Nat} {P : Nat → Int} (h : Good i P) {v : Int} (hv : Sc v) : Good (i + 1) (upd P i v) := by
  refine ⟨fun j => ?_, fun j hj => ?_⟩
  · by_cases e : j = i
    · rw [e, upd_self]; exact hv
    · rw [upd_ne e]; exact h.1 j
  · rw [upd_ne (by omega)]
    exact h.2 j (by omega)
theorem upd_same {i : Nat} {P : Nat → Int} (h : Good i P) (j : Nat) : P j = upd P i 0 j := by
  unfold upd
  split
  · rename_i e; subst e; exact h.2 _ (Nat.le_refl _)
  · rfl
theorem upd_sm {P R : Nat → Int} {i : Nat} (v u : Int) (j : Nat) : upd (sm P R) i ((v + u) % 2305843009213688669) j = sm (upd P i v) (upd R i u) j := by
  unfold sm upd
  split <;> rfl
theorem upd_prd {P : Nat → Int} {i : Nat} (mn : Int) (h : Good i P) {v : Int} (hv : Sc v) (j : Nat) : upd (upd (prd mn P) i ((prd mn P i + mn * v % 2305843009213688669) % 2305843009213688669)) (i + 1) v j = prd mn (upd P i v) j := by
  by_cases h1 : j = i + 1
  · subst h1
    rw [upd_self]
    unfold prd
    rw [if_neg (by omega), Nat.add_sub_cancel, upd_self, upd_ne (by omega), h.2 (i + 1) (by omega), Int.mul_zero, show (0 : Int) % 2305843009213688669 = 0 from rfl, Int.add_zero, mod_sc hv]
  · rw [upd_ne h1]
    by_cases h2 : j = i
    · subst h2
      rw [upd_self]
      unfold prd
      rw [mod_add_l, h.2 j (Nat.le_refl _), Int.mul_zero, upd_self, show (0 : Int) % 2305843009213688669 = 0 from rfl, Int.add_zero]
      by_cases h3 : j = 0
      · rw [if_pos h3, if_pos h3]
      · rw [if_neg h3, if_neg h3, upd_ne (by omega)]
    · rw [upd_ne h2]
      unfold prd
      rw [upd_ne h2]
      by_cases h3 : j = 0
      · rw [if_pos h3, if_pos h3]
      · rw [if_neg h3, if_neg h3, upd_ne (by omega)]
theorem prd_sc (mn : Int) (P : Nat → Int) (j : Nat) : Sc (prd mn P j) := sc_mod _
theorem prd_start (mn : Int) (j : Nat) : prd mn (fun _ => 0) j = 0 := by
  unfold prd
  rw [Int.mul_zero]
  split <;> rfl

set_option maxHeartbeats 4000000 in
set_option maxRecDepth 100000 in
theorem poly_small (a b : Option Addr) (n c m d : Nat) (zc zd : Nat → Int) (x r : Int) (w : World) (ha : Reads w (.slice a n c) n zc) (hb : Reads w (.slice b m d) m zd) (hn : n ≤ 40) (hm : m ≤ 40) : Calls Try.prog 4 #[.slice a n c, .slice b m d, .int .i64 x, .int .i64 r] w fun e W' => e = .returned (.bool true) ∧ Below w.heap.size w W' := by
  have RA := Lib.hid ha; have RB := Lib.hid hb
  clear ha hb
  go_enter Try.func4, Try.ntmps4
  go_wp2_with fail
  refine (sane_true _).mono ?_
  rintro e W1 ⟨rfl, hB1⟩
  go_wp2_with fail
  refine (of_any x _).mono ?_
  rintro e w' ⟨⟨x, hx, rfl⟩, rfl⟩
  have HX := Lib.hid hx; clear hx
  go_wp2_with fail
  refine (of_any r _).mono ?_
  rintro e w' ⟨⟨r, hr, rfl⟩, rfl⟩
  have HR := Lib.hid hr; clear hr
  go_wp2_with fail
  refine (sub_yes 0 r _ ⟨by omega, by omega⟩ HR.out).mono ?_
  rintro e W2 ⟨rfl, hB2⟩
  have hE2 := hB1.trans (hB2.mono hB1.size); clear hB1 hB2
  have HM := Lib.hid (sc_mod (0 - r))
  obtain ⟨mn, hmn⟩ : ∃ mn, mn = (0 - r) % 2305843009213688669 := ⟨_, rfl⟩
  rw [← hmn] at HM ⊢
  have HMN := Lib.hid hmn; clear hmn
  obtain ⟨N, hN⟩ : ∃ N : Nat, N = max n m := ⟨_, rfl⟩
  have hN40 : N ≤ 40 := by omega
  have hrun := make_run N (by omega)
  have hrun1 : ∀ W : World, (Instr.makeSlice 30 (.int .i64 ((N : Int) + 1)) (.int .i64 ((N : Int) + 1))).run Try.prog W = .ok (.slice (some ⟨W.heap.size, 0, none⟩) (N + 1) (N + 1)) (W.alloc (.cells (zeros (N + 1)) 3)) := make_run (N + 1) (by omega)
  have Z0 := Lib.hid (fun W => Met.made0 W N (by omega)); have Z1 := Lib.hid (fun W => Met.made0 W (N + 1) (by omega))
  generalize zeros N = zs0 at hrun Z0
  generalize zeros (N + 1) = zs1 at hrun1 Z1
  go_upto_region 10 with fail
  rw [show max (n : Int) (m : Int) = (N : Int) by omega]
  have hnN : n ≤ N := by omega
  have hmN : m ≤ N := by omega
  clear hN
  go_cut [14, 15, 16] (fun p q s wx => ∃ gp gq gs : Nat, p = .slice (some ⟨gp, 0, none⟩) N N ∧ q = .slice (some ⟨gq, 0, none⟩) N N ∧ s = .slice (some ⟨gs, 0, none⟩) N N ∧ gp ≠ gq ∧ gp ≠ gs ∧ gq ≠ gs ∧ W2.heap.size ≤ gp ∧ W2.heap.size ≤ gq ∧ W2.heap.size ≤ gs ∧ gp < W2.heap.size + 3 ∧ gq < W2.heap.size + 3 ∧ gs < W2.heap.size + 3 ∧ wx = ((W2.drew.alloc (.cells zs0 3)).alloc (.cells zs0 3)).alloc (.cells zs0 3))
  case first =>
    go_region_law (fail)
    all_goals
      go_wp2
      go_meet
      exact ⟨_, _, _, rfl, rfl, rfl, by omega, by omega, by omega, by omega, by omega, by omega, by omega, by omega, by omega, rfl⟩
  case rest =>
    obtain ⟨gp, gq, gs, rfl, rfl, rfl, d1, d2, d3, p1, q1, s1, p2, q2, s2, rfl⟩ := hcut
    have hE2' : Below w.heap.size w W2.drew := below_drewN3 hE2 1
    have hE3 := ((hE2'.alloc (by have := hE2.size; simp; omega) (.cells zs0 3)).alloc (by have := hE2.size; simp; omega) (.cells zs0 3)).alloc (by have := hE2.size; simp; omega) (.cells zs0 3)
    have hsz : (((W2.drew.alloc (.cells zs0 3)).alloc (.cells zs0 3)).alloc (.cells zs0 3)).heap.size = W2.heap.size + 3 := by simp
    have M0 : ∀ g, W2.heap.size ≤ g → g < W2.heap.size + 3 → Met (((W2.drew.alloc (.cells zs0 3)).alloc (.cells zs0 3)).alloc (.cells zs0 3)) g N (fun _ => 0) := by
      intro g h1 h2
      have : g = W2.heap.size ∨ g = W2.heap.size + 1 ∨ g = W2.heap.size + 2 := by omega
      rcases this with rfl | rfl | rfl
      · exact ((Z0.out W2.drew).alloc (by simp) _).alloc (by simp; omega) _
      · have := (Z0.out (W2.drew.alloc (.cells zs0 3))).alloc (by simp) (.cells zs0 3)
        simpa using this
      · have := (Z0.out ((W2.drew.alloc (.cells zs0 3)).alloc (.cells zs0 3)))
        simpa using this
    have MP := M0 gp p1 p2
    have MQ := M0 gq q1 q2
    have MS := M0 gs s1 s2
    clear M0
    generalize ((W2.drew.alloc (.cells zs0 3)).alloc (.cells zs0 3)).alloc (.cells zs0 3) = W3 at *
    have hw2 := hE2.size
    have hBL : Blocks (W3.alloc (.cells zs1 3)) w gp gq gs (W2.heap.size + 3) N (fun _ => 0) (fun _ => 0) (sm (fun _ => 0) (fun _ => 0)) (prd mn (fun _ => 0)) :=
      ⟨MP.alloc (by omega) _, MQ.alloc (by omega) _, (MS.alloc (by omega) _).congr (fun j _ => rfl), hsz ▸ ((Z1.out W3).congr fun j _ => (prd_start mn j).symm), hE3.alloc (by omega) _, by simp; omega, by simp; omega, by simp; omega, by simp; omega, by omega, by omega⟩
    have BL := Lib.hid hBL
    have D := Lib.hid (And.intro d1 (And.intro d2 d3))
    clear MP MQ MS Z0 Z1 hrun hE3 hBL d1 d2 d3 p1 q1 s1 p2 q2 s2
    go_wp2
    clear hrun1
    generalize W2.heap.size + 3 = gr at *
    clear hsz
    go_loopw [18] (fun s18 wr => ∃ (i : Nat) (P R : Nat → Int), i ≤ N ∧ s18 = .int .i64 i ∧ Blocks wr w gp gq gs gr N P R (sm P R) (prd mn P) ∧ Good i P ∧ Good i R) (fun s18 _ => N - (intOf s18).toNat)
    case atStart => exact ⟨0, _, _, by omega, rfl, BL.out, good_zero, good_zero⟩
    case round =>
      obtain ⟨i, P, R, hi, rfl, hb, hgP, hgR⟩ := hrel
      obtain ⟨wo, rfl⟩ : ∃ wo : World, wo = wr := ⟨_, rfl⟩
      have B1 := Lib.hid hb; have GP := Lib.hid hgP; have GR := Lib.hid hgR
      clear hb hgP hgR
      by_cases hlt : i < N
      · have hlt' : (i : Int) < N := by omega
        go_upto_if 72 with fail
        go_cut [] from 69 to 80 (fun wx => ∃ v, Sc v ∧ Blocks wx w gp gq gs gr N (upd P i v) R (sm P R) (prd mn P))
        case first =>
          by_cases hin : i < n
          · have hin' : (i : Int) < n := by omega
            obtain ⟨b0, o0, hae, hrow⟩ : ∃ b0 o0, a = some ⟨b0, o0, none⟩ ∧ Row wo b0 o0 n zc := by
              rcases RA.out.below B1.out.bel with ⟨b0, o0, c0, he, hr, _⟩ | ⟨_, _, he, h0⟩
              · cases he
                exact ⟨b0, o0, rfl, hr⟩
              · omega
            subst hae
            have hc := hrow i hin
            clear hrow
            have cp := B1.out.mp.cell i hlt
            have fp := B1.out.mp.free i hlt
            go_wp2_with fail
            refine (of_any _ _).mono ?_
            rintro e w' ⟨⟨v, hv, rfl⟩, rfl⟩
            have HV := Lib.hid hv; clear hv
            go_wp2
            go_meet
            exact ⟨v, HV.out, B1.out.setP i hlt v⟩
          · have hin' : ¬ (i : Int) < n := by omega
            go_wp2
            go_meet
            exact ⟨0, ⟨by omega, by omega⟩, B1.out.congr (upd_same GP.out) (fun _ => rfl) (fun _ => rfl) (fun _ => rfl)⟩
        case rest =>
          obtain ⟨v, hv, hb2⟩ := hcut
          have HV := Lib.hid hv; have B2 := Lib.hid hb2
          clear hv hb2 B1
          go_upto_if 84 with fail
          go_cut [] from 81 to 92 (fun wx => ∃ u, Sc u ∧ Blocks wx w gp gq gs gr N (upd P i v) (upd R i u) (sm P R) (prd mn P))
          case first =>
            by_cases him : i < m
            · have him' : (i : Int) < m := by omega
              obtain ⟨b0, o0, hae, hrow⟩ : ∃ b0 o0, b = some ⟨b0, o0, none⟩ ∧ Row wc b0 o0 m zd := by
                rcases RB.out.below B2.out.bel with ⟨b0, o0, c0, he, hr, _⟩ | ⟨_, _, he, h0⟩
                · cases he
                  exact ⟨b0, o0, rfl, hr⟩
                · omega
              subst hae
              have hc := hrow i him
              clear hrow
              have cp := B2.out.mq.cell i hlt
              have fp := B2.out.mq.free i hlt
              go_wp2_with fail
              refine (of_any _ _).mono ?_
              rintro e w' ⟨⟨u, hu, rfl⟩, rfl⟩
              have HU := Lib.hid hu; clear hu
              go_wp2
              go_meet
              exact ⟨u, HU.out, B2.out.setQ i hlt u⟩
            · have him' : ¬ (i : Int) < m := by omega
              go_wp2
              go_meet
              exact ⟨0, ⟨by omega, by omega⟩, B2.out.congr (fun _ => rfl) (upd_same GR.out) (fun _ => rfl) (fun _ => rfl)⟩
          case rest =>
            obtain ⟨u, hu, hb3⟩ := hcut
            have HU := Lib.hid hu; have B3 := Lib.hid hb3
            clear hu hb3 B2
            rename_i wx
            go_upto_region 19 with fail
            have c1 := B3.out.mp.cell i hlt
            have c2 := B3.out.mq.cell i hlt
            rw [upd_self] at c1 c2
            go_region_held3 (fun w' => w'.cell? ⟨gp, i, none⟩ = some (.int .i64 v) ∧ w'.cell? ⟨gq, i, none⟩ = some (.int .i64 u)) (first | (refine ⟨?_, ?_⟩ <;> first | (rw [B5.out.mp.cell i hlt, upd_self]) | (rw [B5.out.mq.cell i hlt, upd_self]) | (rw [(B5.out.setS i hlt _).mp.cell i hlt, upd_self]) | (rw [(B5.out.setS i hlt _).mq.cell i hlt, upd_self])) | go_keep)
              ((go_at_call 15; refine (lawAdd v u _ HV.out HU.out).mono ?_; rintro e W5 ⟨rfl, hB5⟩; have B5 := Lib.hid ((B3.out.drew 1).below hB5); have cs := B5.out.ms.cell i hlt; have fs := B5.out.ms.free i hlt; clear hB5))
            rename_i hHeld
            have B6 := Lib.hid (B5.out.setS i hlt ((v + u) % 2305843009213688669))
            clear hHeld cs fs c1 c2 B3
            generalize W5.setCell ⟨gs, i, none⟩ (.int .i64 ((v + u) % 2305843009213688669)) = W6 at *
            clear B5
            have hlt1 : (i : Int) < (N : Int) + 1 := by omega
            have hlt2 : i < N + 1 := by omega
            go_upto_region 20 with fail
            go_cut [] from 105 to 118 (fun wx => Blocks wx w gp gq gs gr N (upd P i v) (upd R i u) (upd (sm P R) i ((v + u) % 2305843009213688669)) (upd (prd mn P) i ((prd mn P i + mn * v % 2305843009213688669) % 2305843009213688669)))
            case first =>
              have c1 := B6.out.mp.cell i hlt
              have c2 := B6.out.mr.cell i hlt2
              rw [upd_self] at c1
              go_region_with (first
                | (go_at_call 13; refine (lawMul mn v _ HM.out HV.out).mono ?_; rintro e W7 ⟨rfl, hB7⟩; have B7 := Lib.hid ((B6.out.drew 1).below hB7); clear hB7; have c3 := B7.out.mr.cell i hlt2)
                | (go_at_call 15; refine (lawAdd (prd mn P i) (mn * v % 2305843009213688669) _ (prd_sc _ _ _) (sc_mod _)).mono ?_; rintro e W8 ⟨rfl, hB8⟩; have B8 := Lib.hid (B7.out.below hB8); have cs := B8.out.mr.cell i hlt2; have fs := B8.out.mr.free i hlt2; clear hB8))
              all_goals
                go_wp2
                go_meet
                rw [mod_add_r]
                have := B8.out.setR i hlt2 ((prd mn P i + mn * v) % 2305843009213688669)
                exact this
            case rest =>
              have B9 := Lib.hid hcut; clear hcut
              have c1 := B9.out.mp.cell i hlt
              have c2 := B9.out.mr.cell (i + 1) (by omega)
              have f2 := B9.out.mr.free (i + 1) (by omega)
              rw [upd_self] at c1
              go_wp2
              go_roundw
              case rel => exact ⟨i + 1, _, _, by omega, by go_num, (B9.out.setR (i + 1) (by omega) v).congr (fun _ => rfl) (fun _ => rfl) (upd_sm v u) (upd_prd mn GP.out HV.out), GP.out.upd HV.out, GR.out.upd HU.out⟩
              case measure => simp [intOf]; omega
      · obtain rfl : i = N := by omega
        clear BL
        have hw0 := B1.out.bel.size
        obtain ⟨va, hva⟩ : ∃ va, va = pol P x i % 2305843009213688669 := ⟨_, rfl⟩
        obtain ⟨vb, hvb⟩ : ∃ vb, vb = pol R x i % 2305843009213688669 := ⟨_, rfl⟩
        have SA := Lib.hid (show Sc va from hva ▸ sc_mod _)
        have SB := Lib.hid (show Sc vb from hvb ▸ sc_mod _)
        have VA := Lib.hid hva; have VB := Lib.hid hvb
        clear hva hvb
        go_wp2_with fail
        refine (eval_yes _ i P x _ HX.out (B1.out.mp.reads B1.out.lp) (by omega) fun j _ => GP.out.1 j).mono ?_
        rintro e V1 ⟨rfl, hV1⟩
        rw [← VA.out]
        have C1 := Lib.hid (B1.out.below hV1); clear hV1
        go_wp2_with fail
        refine (eval_yes _ i R x _ HX.out (C1.out.mq.reads C1.out.lq) (by omega) fun j _ => GR.out.1 j).mono ?_
        rintro e V2 ⟨rfl, hV2⟩
        rw [← VB.out]
        have C2 := Lib.hid (C1.out.below hV2); clear hV2
        go_wp2_with fail
        refine (eval_yes _ i (sm P R) x _ HX.out (C2.out.ms.reads C2.out.ls) (by omega) fun j _ => sc_mod _).mono ?_
        rintro e V3 ⟨rfl, hV3⟩
        have C3 := Lib.hid (C2.out.below hV3); clear hV3
        rw [val_sum, ← VA.out, ← VB.out]
        go_wp2_with fail
        refine (eval_yes _ (i + 1) (prd mn P) x _ HX.out (C3.out.mr.reads C3.out.lr) (by omega) fun j _ => sc_mod _).mono ?_
        rintro e V4 ⟨rfl, hV4⟩
        have C4 := Lib.hid (C3.out.below hV4); clear hV4
        rw [val_prd_mod mn P x i (GP.out.2 i (Nat.le_refl _)), ← VA.out]
        go_wp2_with fail
        refine (eval_yes _ (i + 1) (prd mn P) r _ HR.out (C4.out.mr.reads C4.out.lr) (by omega) fun j _ => sc_mod _).mono ?_
        rintro e V5 ⟨rfl, hV5⟩
        have C5 := Lib.hid (C4.out.below hV5); clear hV5
        rw [show pol (prd mn P) r (i + 1) % 2305843009213688669 = 0 by rw [HMN.out]; exact val_root P r i (GP.out.2 i (Nat.le_refl _))]
        clear C1 C2 C3 C4 B1
        go_wp2_with fail
        refine (lawAdd va vb _ SA.out SB.out).mono ?_
        rintro e V6 ⟨rfl, hV6⟩
        have C6 := Lib.hid (C5.out.below hV6); clear hV6
        go_wp2_with fail
        refine (lawAdd x mn _ HX.out HM.out).mono ?_
        rintro e V7 ⟨rfl, hV7⟩
        have C7 := Lib.hid (C6.out.below hV7); clear hV7
        go_wp2_with fail
        refine (lawMul va _ _ SA.out (sc_mod _)).mono ?_
        rintro e V8 ⟨rfl, hV8⟩
        have C8 := Lib.hid (C7.out.below hV8); clear hV8
        go_wp2
        go_ret
        exact ⟨rfl, C8.out.bel⟩

set_option maxHeartbeats 4000000 in
set_option maxRecDepth 100000 in
theorem poly_great (a b : Option Addr) (n c m d : Nat) (x r : Int) (w : World) (h : 40 < n ∨ 40 < m) : Calls Try.prog 4 #[.slice a n c, .slice b m d, .int .i64 x, .int .i64 r] w fun e W' => e = .returned (.bool true) ∧ Below w.heap.size w W' := by
  by_cases h1 : 40 < n
  · have h1' : (40 : Int) < n := by omega
    clear h h1
    go_enter Try.func4, Try.ntmps4
    go_wp2_with fail
    refine (sane_true _).mono ?_
    rintro e W1 ⟨rfl, hB1⟩
    go_wp2
    go_ret
    exact ⟨rfl, hB1⟩
  · have h1' : ¬ (40 : Int) < n := by omega
    have h2' : (40 : Int) < m := by omega
    clear h h1
    go_enter Try.func4, Try.ntmps4
    go_wp2_with fail
    refine (sane_true _).mono ?_
    rintro e W1 ⟨rfl, hB1⟩
    go_wp2
    go_ret
    exact ⟨rfl, hB1⟩
theorem poly_row (a : Option Addr) (len cap : Nat) (zs : List Int) (b : Option Addr) (len' cap' : Nat) (zs' : List Int) (x r : Int) (w : World) (h : IsRow .i64 w a len cap zs) (h' : IsRow .i64 w b len' cap' zs') (_hx : (Lit.int .i64 x).wf = true) (_hr : (Lit.int .i64 r).wf = true) : Calls Try.prog 4 #[.slice a len cap, .slice b len' cap', .int .i64 x, .int .i64 r] w fun e W' => e = .returned (.bool true) ∧ Below w.heap.size w W' := by
  by_cases hl : 40 < len ∨ 40 < len'
  · exact poly_great a b len cap len' cap' x r w hl
  · exact poly_small a b len cap len' cap' _ _ x r w h.reads.1 h'.reads.1 (by omega) (by omega)
end Go.Proofs.Ytanheijppjpbjaa
