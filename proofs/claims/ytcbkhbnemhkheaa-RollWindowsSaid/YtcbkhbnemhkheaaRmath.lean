/- The checksum that rolls, over lists: plain words. -/
import Derived.Test.YtcbkhbnemhkheaaRflo
namespace Go.Proofs.Ytcbkhbnemhkheaa
namespace Ro
set_option linter.unusedVariables false
def sA : List UInt8 → Nat
  | [] => 0
  | c :: l => c.toNat + sA l
def sB : List UInt8 → Nat
  | [] => 0
  | c :: l => (l.length + 1) * c.toNat + sB l
theorem sA_snoc (l : List UInt8) (x : UInt8) : sA (l ++ [x]) = sA l + x.toNat := by
  induction l with
  | nil => simp [sA]
  | cons c l ih => simp only [List.cons_append, sA, ih]; omega
theorem sB_snoc (l : List UInt8) (x : UInt8) : sB (l ++ [x]) = sB l + (sA l + x.toNat) := by
  induction l with
  | nil => simp [sB, sA]
  | cons c l ih =>
    simp only [List.cons_append, sB, sA, ih, List.length_append, List.length_cons, List.length_nil]
    have : (l.length + (0 + 1) + 1) * c.toNat = (l.length + 1) * c.toNat + c.toNat := by rw [Nat.add_mul (l.length + (0 + 1)) 1, Nat.one_mul]
    omega
/-- the two halves -/
def ha (l : List UInt8) : Nat := sA l % 65536
def hb (l : List UInt8) : Nat := sB l % 65536
def rsum (l : List UInt8) : Nat := hb l * 65536 + ha l
theorem ha_lt (l : List UInt8) : ha l < 65536 := Nat.mod_lt _ (by omega)
theorem hb_lt (l : List UInt8) : hb l < 65536 := Nat.mod_lt _ (by omega)
theorem rsum_lt (l : List UInt8) : rsum l < 4294967296 := by have := ha_lt l; have := hb_lt l; unfold rsum; omega
theorem ha_snoc (l : List UInt8) (x : UInt8) : ha (l ++ [x]) = (ha l + x.toNat) % 65536 := by
  unfold ha; rw [sA_snoc]; omega
theorem hb_snoc (l : List UInt8) (x : UInt8) : hb (l ++ [x]) = (hb l + (ha l + x.toNat)) % 65536 := by
  unfold hb ha; rw [sB_snoc]; omega
/-- the first byte is taken away -/
theorem ha_out (c : UInt8) (l : List UInt8) : ((ha (c :: l) : Int) - (c.toNat : Int)) % 65536 = (ha l : Int) := by
  unfold ha; simp only [sA]; omega
theorem hb_out (c : UInt8) (l : List UInt8) : ((hb (c :: l) : Int) - (c.toNat : Int) * (((l.length + 1) % 65536 : Nat) : Int)) % 65536 = (hb l : Int) := by
  unfold hb
  simp only [sB]
  have e1 : (((((l.length + 1) * c.toNat + sB l) % 65536 : Nat) : Int)) = (((l.length + 1 : Nat) : Int) * (c.toNat : Int) + (sB l : Int)) % 65536 := by
    rw [Int.natCast_emod, Int.natCast_add, Int.natCast_mul]; rfl
  have e2 : (c.toNat : Int) * (((l.length + 1) % 65536 : Nat) : Int) % 65536 = ((l.length + 1 : Nat) : Int) * (c.toNat : Int) % 65536 := by
    rw [Int.natCast_emod, Int.mul_comm ((l.length + 1 : Nat) : Int), Int.mul_emod (c.toNat : Int) (((l.length + 1 : Nat) : Int) % _), Int.mul_emod (c.toNat : Int) ((l.length + 1 : Nat) : Int)]
    congr 2
    exact Int.emod_emod_of_dvd _ (Int.dvd_refl _)
  rw [e1]
  generalize ((l.length + 1 : Nat) : Int) * (c.toNat : Int) = q at *
  generalize (c.toNat : Int) * (((l.length + 1) % 65536 : Nat) : Int) = p at *
  omega
/-- the document's half so far -/
theorem sB_drop (l : List UInt8) (k : Nat) (hk : k < l.length) : sB (l.drop k) = (l.length - k) * (l.getD k 0).toNat + sB (l.drop (k + 1)) := by
  have e : l.drop k = l.getD k 0 :: l.drop (k + 1) := by
    rw [List.drop_eq_getElem_cons hk]
    simp [List.getD, hk]
  rw [e, sB, List.length_drop]
  congr 2
  omega
theorem sB_drop_le (l : List UInt8) : ∀ k, sB (l.drop k) ≤ sB l
  | 0 => Nat.le_refl _
  | k + 1 => by
    rcases Nat.lt_or_ge k l.length with h | h
    · have := sB_drop l k h; have := sB_drop_le l k; omega
    · rw [List.drop_eq_nil_of_le (by omega)]; exact Nat.zero_le _
def yk (l : List UInt8) (k : Nat) : Nat := (sB l - sB (l.drop k)) % 65536
theorem yk_zero (l : List UInt8) : yk l 0 = 0 := by simp [yk]
theorem yk_all (l : List UInt8) : yk l l.length = hb l := by simp [yk, hb, sB]
theorem yk_succ (l : List UInt8) (k : Nat) (hk : k < l.length) : yk l (k + 1) = (yk l k + (l.length - k) % 65536 * (l.getD k 0).toNat) % 65536 := by
  have h1 := sB_drop l k hk
  have h2 := sB_drop_le l k
  unfold yk
  have e : ∀ a b c : Nat, (a % 65536 + b % 65536 * c) % 65536 = (a + b * c) % 65536 := fun a b c => by
    rw [Nat.add_mod, Nat.mod_mod, Nat.mul_mod, Nat.mod_mod, ← Nat.mul_mod, ← Nat.add_mod]
  rw [e]
  congr 1
  omega
theorem ha_take (l : List UInt8) (k : Nat) (hk : k < l.length) : ha (l.take (k + 1)) = (ha (l.take k) + (l.getD k 0).toNat) % 65536 := by
  have e : l.take (k + 1) = l.take k ++ [l.getD k 0] := by
    rw [List.take_succ_eq_append_getElem hk]
    simp [List.getD, hk]
  rw [e, ha_snoc]
theorem hb_take (l : List UInt8) (k : Nat) (hk : k < l.length) : hb (l.take (k + 1)) = (hb (l.take k) + (ha (l.take k) + (l.getD k 0).toNat)) % 65536 := by
  have e : l.take (k + 1) = l.take k ++ [l.getD k 0] := by
    rw [List.take_succ_eq_append_getElem hk]
    simp [List.getD, hk]
  rw [e, hb_snoc]
end Ro
end Go.Proofs.Ytcbkhbnemhkheaa
