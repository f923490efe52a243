/- Digits of a sum, as plain functions over lists. -/
import Derived.Test.YtlkcibhdnicpkaaDoorBase
import Derived.Lib.Bytealg
namespace Go.Proofs.YtlkcibhdnicpkaaDoor
namespace Hx
open Ba
set_option linter.unusedVariables false
def dg : List UInt8 := [48, 49, 50, 51, 52, 53, 54, 55, 56, 57, 97, 98, 99, 100, 101, 102]
/-- a digit's number; 16: it is none -/
def dix (c : UInt8) : Nat := if 48 ≤ c.toNat ∧ c.toNat ≤ 57 then c.toNat - 48 else if 97 ≤ c.toNat ∧ c.toNat ≤ 102 then c.toNat - 87 else 16
theorem all_u8 {p : UInt8 → Prop} (h : ∀ n : Fin 256, p (UInt8.ofNat n.val)) (c : UInt8) : p c := by
  have := h ⟨c.toNat, c.toNat_lt⟩
  rwa [UInt8.ofNat_toNat] at this
set_option maxRecDepth 100000 in
theorem idx_dix (c : UInt8) : Lib.indexByte dg c = if dix c < 16 then (dix c : Int) else -1 := all_u8 (p := fun c => Lib.indexByte dg c = if dix c < 16 then (dix c : Int) else -1) (by decide +kernel) c
set_option maxRecDepth 100000 in
theorem dix_dg (c : UInt8) : dix c < 16 → dg.getD (dix c) 0 = c := all_u8 (p := fun c => dix c < 16 → dg.getD (dix c) 0 = c) (by decide +kernel) c
set_option maxRecDepth 100000 in
theorem dg_dix : ∀ n : Fin 16, dix (dg.getD n.val 0) = n.val := by decide +kernel
theorem dix_le (c : UInt8) : dix c ≤ 16 := by unfold dix; split <;> (try split) <;> omega
theorem dix_lt_ascii (c : UInt8) (h : dix c < 16) : c.toNat < 128 := by
  unfold dix at h
  split at h
  · omega
  · split at h
    · omega
    · omega
def dw (s : List UInt8) (i : Nat) : Nat := dix (s.getD i 0)
def full (s : List UInt8) (j : Nat) : UInt8 := UInt8.ofNat (16 * dw s (2 * j) + dw s (2 * j + 1))
def good (s : List UInt8) : Prop := s.length = 64 ∧ ∀ i, i < 64 → dw s i < 16
instance (s : List UInt8) : Decidable (good s) := by unfold good; infer_instance
def pairs (s : List UInt8) : List UInt8 := (List.range 32).map (full s)
/-- what a text is -/
def parse (s : List UInt8) : List UInt8 × Nat := if good s then (pairs s, 0) else (List.replicate 32 0, 4)
/-- .. behind i digits -/
def pp (s : List UInt8) (i : Nat) : List UInt8 := (List.range 32).map fun j => if 2 * j + 1 < i then full s j else if 2 * j < i then UInt8.ofNat (dw s (2 * j)) else 0
theorem pp_len (s : List UInt8) (i : Nat) : (pp s i).length = 32 := by simp [pp]
theorem pp_0 (s : List UInt8) : pp s 0 = List.replicate 32 0 := by
  apply List.ext_getElem?
  intro j
  by_cases hj : j < 32
  · rw [pp, List.getElem?_map, List.getElem?_range hj, List.getElem?_replicate, if_pos hj]
    simp
  · rw [List.getElem?_eq_none (by rw [pp_len]; omega), List.getElem?_eq_none (by simp; omega)]
theorem pp_64 (s : List UInt8) : pp s 64 = pairs s := by
  apply List.ext_getElem?
  intro j
  by_cases hj : j < 32
  · rw [pp, pairs, List.getElem?_map, List.getElem?_map, List.getElem?_range hj]
    simp only [Option.map_some]
    rw [if_pos (by omega)]
  · rw [List.getElem?_eq_none (by rw [pp_len]; omega), List.getElem?_eq_none (by simp [pairs]; omega)]
theorem pp_at (s : List UInt8) (i j : Nat) (hj : j < 32) : (pp s i).getD j 0 = if 2 * j + 1 < i then full s j else if 2 * j < i then UInt8.ofNat (dw s (2 * j)) else 0 := by
  rw [pp, List.getD_eq_getElem?_getD, List.getElem?_map, List.getElem?_range hj]
  rfl
/-- what stands at the place of the digit i, and what will stand there -/
def zat (s : List UInt8) (i : Nat) : Nat := if i % 2 = 0 then 0 else dw s (i - 1)
def vat (s : List UInt8) (i : Nat) : UInt8 := UInt8.ofNat (zat s i * 16 + dw s i)
theorem pp_zat (s : List UInt8) (i : Nat) (h : i < 64) (hd : ∀ k, k < i → dw s k < 16) : ((pp s i).getD (i / 2) 0).toNat = zat s i ∧ zat s i ≤ 15 := by
  rw [pp_at s i (i / 2) (by omega)]
  unfold zat
  by_cases hi : i % 2 = 0
  · rw [if_neg (by omega), if_neg (by omega), if_pos hi]
    exact ⟨rfl, by omega⟩
  · rw [if_neg (by omega), if_pos (by omega), if_neg hi, show 2 * (i / 2) = i - 1 by omega]
    have := hd (i - 1) (by omega)
    refine ⟨?_, by omega⟩
    rw [UInt8.toNat_ofNat', Nat.mod_eq_of_lt (by omega)]
theorem pp_set (s : List UInt8) (i : Nat) (h : i < 64) : (pp s i).set (i / 2) (vat s i) = pp s (i + 1) := by
  apply List.ext_getElem?
  intro j
  by_cases hj : j < 32
  · by_cases hij : j = i / 2
    · rw [hij, List.getElem?_set_self (by rw [pp_len]; omega)]
      rw [pp, List.getElem?_map, List.getElem?_range (by omega)]
      simp only [Option.map_some]
      unfold vat zat full
      by_cases hi : i % 2 = 0
      · rw [if_pos hi, if_neg (by omega), if_pos (by omega), show 2 * (i / 2) = i by omega, Nat.zero_mul, Nat.zero_add]
      · rw [if_neg hi, if_pos (by omega), show 2 * (i / 2) = i - 1 by omega, show i - 1 + 1 = i by omega, Nat.mul_comm]
    · rw [List.getElem?_set_ne (by omega), pp, pp, List.getElem?_map, List.getElem?_map, List.getElem?_range hj]
      simp only [Option.map_some]
      by_cases h1 : 2 * j + 1 < i
      · rw [if_pos h1, if_pos (by omega)]
      · rw [if_neg h1]
        by_cases h2 : 2 * j < i
        · omega
        · rw [if_neg h2, if_neg (by omega), if_neg (by omega)]
  · rw [List.getElem?_eq_none (by rw [List.length_set, pp_len]; omega), List.getElem?_eq_none (by rw [pp_len]; omega)]
theorem vat_nat (s : List UInt8) (i : Nat) (hz : zat s i ≤ 15) (hd : dw s i < 16) : bits .or .u8 ((zat s i : Int) * 16) (dw s i : Int) = ((vat s i).toNat : Int) := by
  have h := u8_or_nat (zat s i * 16) (dw s i) (by omega) (by omega)
  have e1 : ((zat s i * 16 : Nat) : Int) = (zat s i : Int) * 16 := by rw [Int.natCast_mul]; rfl
  rw [e1] at h
  rw [h]
  unfold vat
  rw [UInt8.toNat_ofNat', Nat.mod_eq_of_lt (by omega)]
  have := Nat.two_pow_add_eq_or_of_lt (i := 4) (b := dw s i) (by omega) (zat s i)
  rw [Nat.mul_comm (zat s i) 16, show (16 : Nat) = 2 ^ 4 from rfl, ← this]
theorem parse_good (s : List UInt8) (h : good s) : parse s = (pp s 64, 0) := by unfold parse; rw [if_pos h, pp_64]
theorem parse_bad (s : List UInt8) (h : ¬ good s) : parse s = (List.replicate 32 0, 4) := by unfold parse; rw [if_neg h]
end Hx
end Go.Proofs.YtlkcibhdnicpkaaDoor
