/- The contract of Pad of package padding. -/
import Derived.Test.YtofgnncodnfapaaDoorMem
namespace Go.Proofs.YtofgnncodnfapaaDoor
open Go Go.RowKit

/-- The four bytes of the length. -/
def hdr (n j : Nat) : Int := (n / 256 ^ (3 - j) % 256 : Nat)
/-- The padded bytes. -/
def padz (n : Nat) (z : Nat → Int) (j : Nat) : Int := if j < 4 then hdr n j else if j < 4 + n then z (j - 4) else 0
theorem padz_byt {n : Nat} {z : Nat → Int} (h : Byt n z) (L : Nat) : Byt L (padz n z) := by
  intro j _
  unfold padz
  by_cases h1 : j < 4
  · rw [if_pos h1]
    unfold hdr
    omega
  · rw [if_neg h1]
    by_cases h2 : j < 4 + n
    · rw [if_pos h2]
      exact h (j - 4) (by omega)
    · rw [if_neg h2]
      omega
/-- The length of the class as a number. -/
def lenc (n : Nat) : Nat := (len6 (cls n)).toNat
theorem lenc_eq (n : Nat) : (lenc n : Int) = len6 (cls n) := Int.toNat_of_nonneg (by have := (len6_bd (cls n)).1; omega)
theorem lenc_bd (n : Nat) : 64 ≤ lenc n ∧ lenc n ≤ 65536 := by have := len6_bd (cls n); have := lenc_eq n; omega
theorem lenc_fit (n : Nat) (h : n ≤ 65532) : n + 4 ≤ lenc n := by
  have := (cls_le n (cls n) (cls_lt n) (by omega)).2 (Nat.le_refl _)
  have := lenc_eq n
  omega

theorem Bytes.source {W : World} {a : Option Addr} {n c : Nat} {z : Nat → Int} (h : Bytes W (.slice a n c) n z) (h0 : 0 < n) : ∃ ad, a = some ad ∧ ∀ j v, (rowL n z)[j]? = some v → W.cell? (ad.add j) = some v := by
  rcases h.rep with ⟨b, off, c', he, hr, _⟩ | ⟨_, _, he, h0'⟩
  · cases he
    refine ⟨_, rfl, fun j v hv => ?_⟩
    rw [rowL_at] at hv
    by_cases hj : j < n
    · rw [if_pos hj] at hv
      have := hr j hj
      rw [← hv, ← this]
      by_cases e : j = 0
      · subst e; simp [Addr.add]
      · simp [Addr.add, e]
    · rw [if_neg hj] at hv
      cases hv
  · omega
theorem rowL_one (n : Nat) (z : Nat → Int) : ∀ v ∈ rowL n z, v.oneCell' = true := by
  intro v hv
  obtain ⟨j, _, rfl⟩ := List.mem_map.1 hv
  rfl
theorem size5 : (Tryd.prog.info? 5).map (·.size) = some 1 := by kernel_rfl
theorem hdr_next {f : Nat → Int} {k n : Nat} {v : Int} (hv : v = hdr n k) (F : ∀ j, j < k → f j = hdr n j) (Z : ∀ j, k ≤ j → f j = 0) : (∀ j, j < k + 1 → upd f k v j = hdr n j) ∧ (∀ j, k + 1 ≤ j → upd f k v j = 0) := by
  refine ⟨fun j hj => ?_, fun j hj => ?_⟩
  · by_cases e : j = k
    · rw [e, upd_self, hv]
    · rw [upd_ne e]; exact F j (by omega)
  · rw [upd_ne (by omega)]; exact Z j (by omega)
theorem hdr0 (n : Nat) (h : n ≤ 65532) : (n : Int) / 16777216 = hdr n 0 := by show (n : Int) / 16777216 = ((n / 16777216 % 256 : Nat) : Int); omega
theorem hdr1 (n : Nat) (h : n ≤ 65532) : (n : Int) / 65536 = hdr n 1 := by show (n : Int) / 65536 = ((n / 65536 % 256 : Nat) : Int); omega
theorem hdr2 (n : Nat) (h : n ≤ 65532) : (n : Int) / 256 = hdr n 2 := by show (n : Int) / 256 = ((n / 256 % 256 : Nat) : Int); omega
theorem hdr3 (n : Nat) : (n : Int) % 256 = hdr n 3 := by show (n : Int) % 256 = ((n / 1 % 256 : Nat) : Int); omega

set_option maxHeartbeats 2000000 in
set_option maxRecDepth 100000 in
theorem pad_yes (a : Option Addr) (n c : Nat) (z : Nat → Int) (w : World) (hb : Bytes w (.slice a n c) n z) (hn : n ≤ 65532) (ht : Tab w) :
    Calls Tryd.prog 15 #[.slice a n c] w fun e w' => ∃ g, e = .returned (.tuple #[.slice (some ⟨g, 0, none⟩) (lenc n) (lenc n), .int .i64 0]) ∧ Owned w' g (lenc n) (padz n z) ∧ w.heap.size ≤ g ∧ Below w.heap.size w w' := by
  have hC := class_yes n w (by omega) (by omega) ht
  have HC := Lib.hid hC
  have hl := lenc_bd n
  have hfit := lenc_fit n hn
  have HL := Lib.hid (lenc_eq n)
  have HT := Lib.hid ht
  have HB := Lib.hid hb
  have hk := cls_lt n
  have hk' : (cls n : Int) < 6 := by omega
  clear hC ht hb
  obtain ⟨hl0, hl1⟩ := hl
  have hrun := make_run (lenc n) (by omega)
  obtain ⟨L, hLe⟩ : ∃ L, L = lenc n := ⟨_, rfl⟩
  rw [← hLe] at hl0 hl1 hfit HL hrun ⊢
  clear hLe
  go_enter Tryd.func15, Tryd.ntmps15
  go_wp2_with fail
  refine HC.out.mono ?_
  rintro e W1 ⟨rfl, hB1⟩
  have T1 := Lib.hid (HT.out.below hB1)
  have c1 := T1.out.c (cls n) hk
  rw [← HL.out] at c1
  go_wp2
  have hE2 := hB1.alloc hB1.size (.cells (rowL L fun _ => 0).toArray 5)
  have O2 := Lib.hid (owned_made W1 L fun _ => 0)
  have hg := hB1.size
  obtain ⟨g, hgg⟩ : ∃ g, g = W1.heap.size := ⟨_, rfl⟩
  rw [← hgg] at O2 hg ⊢
  clear hB1 c1 hrun T1 hgg HT HC
  generalize W1.alloc (.cells (rowL L fun _ => 0).toArray 5) = W2 at *
  go_loopw [19] (fun s wr => ∃ (k : Nat) (f : Nat → Int), k ≤ 4 ∧ s = .int .i64 k ∧ Owned wr g L f ∧ (∀ j, j < k → f j = hdr n j) ∧ (∀ j, k ≤ j → f j = 0) ∧ Below w.heap.size w wr) (fun s _ => 4 - (intOf s).toNat)
  case atStart => exact ⟨0, _, by omega, rfl, O2.out, fun j hj => by omega, fun j _ => rfl, hE2⟩
  case round =>
    obtain ⟨k, f, hk4, rfl, hO, hf, hz, hbel⟩ := hrel
    clear O2 hE2
    obtain ⟨wo, rfl⟩ : ∃ wo : World, wo = wr := ⟨_, rfl⟩
    have O := Lib.hid hO; have F := Lib.hid hf; have Z := Lib.hid hz; have B := Lib.hid hbel
    have G := Lib.hid hg
    clear hO hf hz hbel hg
    by_cases hlt : k < 4
    · have hco := O.out.cell k (by omega)
      have hfr := O.out.free k
      have : k = 0 ∨ k = 1 ∨ k = 2 ∨ k = 3 := by omega
      rcases this with rfl | rfl | rfl | rfl
      · have HN := Lib.hid (hdr_next (hdr0 n hn) F.out Z.out)
        go_wp2
        exact ⟨⟨1, _, by omega, rfl, O.out.set 0 (by omega) _, HN.out.1, HN.out.2, B.out.setCell (p := ⟨g, 0, none⟩) G.out _⟩, by simp [intOf]⟩
      · have HN := Lib.hid (hdr_next (hdr1 n hn) F.out Z.out)
        go_wp2
        exact ⟨⟨2, _, by omega, rfl, O.out.set 1 (by omega) _, HN.out.1, HN.out.2, B.out.setCell (p := ⟨g, 1, none⟩) G.out _⟩, by simp [intOf]⟩
      · have HN := Lib.hid (hdr_next (hdr2 n hn) F.out Z.out)
        go_wp2
        exact ⟨⟨3, _, by omega, rfl, O.out.set 2 (by omega) _, HN.out.1, HN.out.2, B.out.setCell (p := ⟨g, 2, none⟩) G.out _⟩, by simp [intOf]⟩
      · have HN := Lib.hid (hdr_next (hdr3 n) F.out Z.out)
        go_wp2
        exact ⟨⟨4, _, by omega, rfl, O.out.set 3 (by omega) _, HN.out.1, HN.out.2, B.out.setCell (p := ⟨g, 3, none⟩) G.out _⟩, by simp [intOf]⟩
    · obtain rfl : k = 4 := by omega
      have S := Lib.hid (HB.out.below (B.out.mono (Nat.le_refl _)))
      have e4 : (rowL n z).length = Nat.min n (L - 4) := by rw [rowL_length]; exact (Nat.min_eq_left (by omega)).symm
      have hfit2 : 4 + (rowL n z).length ≤ (rowL L f).length := by rw [rowL_length, rowL_length]; omega
      have E4 := Lib.hid e4; have F2 := Lib.hid hfit2
      clear e4 hfit2
      go_wp2_with (refine wpList_copy_splice (o := ⟨some 36, _, _, _, _, _⟩) rfl (.tmp 34) (.tmp 35) 27 27 rfl 5 Tryd.underlying27 size5 (some ⟨g, 4, none⟩) a (L - 4) (L - 4) n c rfl rfl g 4 (rowL L f) 5 O.out (rowL n z) E4.out (fun h => ⟨rfl, S.out.source (by rw [rowL_length] at h; exact h)⟩) F2.out (rowL_one n z) w.heap.size w B.out G.out ?_; intro W3 hO3 hB3)
      have hO4 : Owned W3 g L (padz n z) := by
        have h := hO3.out
        rw [splice_row L 4 n f z (by omega)] at h
        refine Owned.congr h fun j hj => ?_
        unfold padz
        by_cases h1 : j < 4
        · rw [if_neg (by omega), if_pos h1]
          exact F.out j h1
        · rw [if_neg h1]
          by_cases h2 : j < 4 + n
          · rw [if_pos h2, if_pos (by omega)]
          · rw [if_neg h2, if_neg (by omega)]
            exact Z.out j (by omega)
      go_ret2
      exact ⟨g, rfl, hO4, G.out, hB3⟩
set_option maxRecDepth 100000 in
theorem pad_no (a : Option Addr) (n c : Nat) (w : World) (hn : 65532 < n) (h9 : n ≤ 9223372036854775807) (ht : Tab w) :
    Calls Tryd.prog 15 #[.slice a n c] w fun e w' => e = .returned (.tuple #[.slice none 0 0, .int .i64 280]) ∧ Below w.heap.size w w' := by
  have HC := Lib.hid (class_no n w (by omega) ht)
  clear ht
  go_enter Tryd.func15, Tryd.ntmps15
  go_wp2_with fail
  refine HC.out.mono ?_
  rintro e W1 ⟨rfl, hB1⟩
  go_wp2
  go_ret2
  exact ⟨rfl, hB1⟩
end Go.Proofs.YtofgnncodnfapaaDoor
