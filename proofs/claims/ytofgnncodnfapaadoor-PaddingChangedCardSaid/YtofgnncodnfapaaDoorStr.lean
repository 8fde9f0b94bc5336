/- string(b) of bytes, and when two such strings are the same. -/
import Derived.Test.YtofgnncodnfapaaDoorUnpad
import Derived.Laws.BytesArg
namespace Go.Proofs.YtofgnncodnfapaaDoor
open Go Go.RowKit

def ints (n : Nat) (z : Nat → Int) : List Int := (List.range n).map z
theorem ints_length (n : Nat) (z : Nat → Int) : (ints n z).length = n := by simp [ints]
theorem ints_at (n : Nat) (z : Nat → Int) (j : Nat) (hj : j < n) : (ints n z).getD j 0 = z j := by simp [ints, List.getD, hj]
/-- The string of n bytes. -/
def str (n : Nat) (z : Nat → Int) : ByteArray := strOfNums (ints n z)
theorem str_congr {n : Nat} {z z' : Nat → Int} (h : ∀ j, j < n → z j = z' j) : str n z = str n z' := by
  unfold str ints
  rw [List.map_congr_left (fun j hj => h j (List.mem_range.1 hj))]
theorem str_inj {n n' : Nat} {z z' : Nat → Int} (hz : Byt n z) (hz' : Byt n' z') (h : str n z = str n' z') : n = n' ∧ ∀ j, j < n → z j = z' j := by
  have hs := congrArg ByteArray.size h
  unfold str at hs h
  rw [strOfNums_size, strOfNums_size, ints_length, ints_length] at hs
  subst hs
  refine ⟨rfl, fun j hj => ?_⟩
  have hd := congrArg (fun s : ByteArray => s.data.toList[j]?) h
  simp only [strOfNums_data, ints, List.getElem?_map, List.map_map] at hd
  rw [List.getElem?_range hj] at hd
  simp only [Option.map_some, Option.some.injEq, Function.comp] at hd
  have e := congrArg UInt8.toNat hd
  obtain ⟨a0, a1⟩ := hz j hj
  obtain ⟨b0, b1⟩ := hz' j hj
  rw [UInt8.toNat_ofNat', UInt8.toNat_ofNat'] at e
  omega
theorem str_run {w : World} {a : Option Addr} {l c n : Nat} {z : Nat → Int} (h : Bytes w (.slice a l c) n z) : (convert 27 9 (.slice a l c)).run Tryd.prog w = .ok (.string (str n z)) w := by
  rcases h.rep with ⟨b, off, c', he, hr, _, _⟩ | ⟨a', c', he, rfl, hn⟩
  · cases he
    exact run_convert_bytes_arg w 27 5 Tryd.underlying27 Tryd.underlying5 b off l c (ints l z) (ints_length l z) (fun i hi => by rw [ints_at l z i hi]; exact hr i hi) 9 Tryd.underlying9
  · cases he
    cases a with
    | none => exact run_convert_bytes_nil w 27 5 Tryd.underlying27 Tryd.underlying5 0 c 9 Tryd.underlying9
    | some ad =>
      rw [run_convert_bytes_string w 27 9 5 _ 0 c Tryd.underlying27 Tryd.underlying5 Tryd.underlying9, run_bytesToString w ad 0 c [] (by simpa using run_loadCells_list (P := Tryd.prog) w ad [] (fun j v hj => by simp at hj))]
      rfl
end Go.Proofs.YtofgnncodnfapaaDoor
