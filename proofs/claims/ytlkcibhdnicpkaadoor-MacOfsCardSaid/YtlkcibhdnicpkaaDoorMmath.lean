/- Sums with a key, over lists: plain words. -/
import Derived.Test.YtlkcibhdnicpkaaDoorSmath
namespace Go.Proofs.YtlkcibhdnicpkaaDoor
namespace Mc
open Sm
/-- the key of a block -/
def mkey (k : List UInt8) : List UInt8 := if 64 < k.length then sha k else k
/-- the key, with noughts, each byte exclusive-ored -/
def mpad (k : List UInt8) (x : UInt8) : List UInt8 := (List.range 64).map fun i => k.getD i 0 ^^^ x
/-- so far -/
def mpt (k : List UInt8) (x : UInt8) (i : Nat) : List UInt8 := (List.range 64).map fun j => if j < i then k.getD j 0 ^^^ x else k.getD j 0
def hmac (k b : List UInt8) : List UInt8 := sha (mpad (mkey k) 0x5c ++ sha (mpad (mkey k) 0x36 ++ b))
theorem mpad_len (k : List UInt8) (x : UInt8) : (mpad k x).length = 64 := by simp [mpad]
theorem mpt_len (k : List UInt8) (x : UInt8) (i : Nat) : (mpt k x i).length = 64 := by simp [mpt]
theorem mpt_end (k : List UInt8) (x : UInt8) : mpt k x 64 = mpad k x := by
  unfold mpt mpad
  apply List.map_congr_left
  intro j hj
  rw [if_pos (List.mem_range.1 hj)]
theorem mpt_at (k : List UInt8) (x : UInt8) (i j : Nat) (h : j < 64) : (mpt k x i).getD j 0 = if j < i then k.getD j 0 ^^^ x else k.getD j 0 := by
  simp [mpt, List.getD, h]
theorem mpt_zero (k : List UInt8) (x : UInt8) (h : k.length ≤ 64) : mpt k x 0 = k ++ List.replicate (64 - k.length) 0 := by
  apply List.ext_getElem
  · simp [mpt]; omega
  · intro j h1 h2
    have hj : j < 64 := by simpa [mpt] using h1
    simp only [mpt, List.getElem_map, List.getElem_range, Nat.not_lt_zero, if_false]
    by_cases hk : j < k.length
    · rw [List.getElem_append_left hk]; simp [List.getD, hk]
    · rw [List.getElem_append_right (by omega)]; simp [List.getD, List.getElem?_eq_none (by omega : k.length ≤ j)]
theorem mpt_step (k : List UInt8) (x : UInt8) (i : Nat) (h : i < 64) : (mpt k x i).set i (k.getD i 0 ^^^ x) = mpt k x (i + 1) := by
  apply List.ext_getElem
  · simp [mpt]
  · intro j h1 h2
    have hj : j < 64 := by simpa [mpt] using h2
    rw [List.getElem_set]
    simp only [mpt, List.getElem_map, List.getElem_range]
    by_cases e : i = j
    · subst e; rw [if_pos rfl, if_pos (by omega)]
    · rw [if_neg e]
      by_cases l : j < i
      · rw [if_pos l, if_pos (by omega)]
      · rw [if_neg l, if_neg (by omega)]
end Mc
end Go.Proofs.YtlkcibhdnicpkaaDoor
