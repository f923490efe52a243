/- Whole numbers as floats of 64 bits: sums, differences, products and orders of them are exact. -/
import Derived.Laws.FloatArith
namespace Go.Proofs.Ytcbkhbnemhkheaa
namespace Flo
open Ieee
set_option linter.unusedVariables false
/-- the datum stands for a whole number (a nought is the positive one) -/
def Rep (d : Datum) (a : Int) : Prop := ∃ s m k, d = .number s m (-(k : Nat) : Int) ∧ (m : Int) = a.natAbs * 2 ^ k ∧ s = decide (a < 0)
def FL (a : Int) : Nat := double.write (.number (decide (a < 0)) a.natAbs 0)
theorem shl (m k : Nat) : m <<< k = m * 2 ^ k := Nat.shiftLeft_eq m k
theorem signed_nat (s : Bool) (m e : Nat) : signed s m e = if s then -((m : Int) * 2 ^ e) else (m : Int) * 2 ^ e := by
  unfold signed
  rw [shl, Int.natCast_mul, Int.natCast_pow]
  rfl
theorem signed_eq (a : Int) (m k e : Nat) (hm : (m : Int) = a.natAbs * 2 ^ k) : signed (decide (a < 0)) m e = a * 2 ^ (k + e) := by
  rw [signed_nat, hm, Int.mul_assoc, ← Int.pow_add]
  by_cases h : a < 0
  · simp only [h, decide_true, if_true]
    rw [← Int.neg_mul]
    congr 1
    omega
  · simp only [h, decide_false, Bool.false_eq_true, if_false]
    congr 1
    omega
theorem sign_mul (x : Int) (K : Nat) : (x * 2 ^ K < 0 ↔ x < 0) ∧ (x * 2 ^ K = 0 ↔ x = 0) := by
  have hp : (0 : Int) < 2 ^ K := Int.pow_pos (by omega)
  refine ⟨⟨fun h => ?_, fun h => Int.mul_neg_of_neg_of_pos h hp⟩, ⟨fun h => ?_, fun h => by rw [h, Int.zero_mul]⟩⟩
  · rcases Int.lt_or_le x 0 with h1 | h1
    · exact h1
    · have := Int.mul_nonneg h1 (Int.le_of_lt hp); omega
  · rcases Int.mul_eq_zero.1 h with h | h
    · exact h
    · omega
theorem rep_total {a b : Int} {K : Nat} {z : Bool} (hz : a + b = 0 → z = false) : Rep (.number (if (a + b) * 2 ^ K = 0 then z else decide ((a + b) * 2 ^ K < 0)) ((a + b) * 2 ^ K).natAbs (-(K : Nat) : Int)) (a + b) := by
  refine ⟨_, _, K, rfl, ?_, ?_⟩
  · rw [Int.natAbs_mul, Int.natCast_mul]
    congr 1
  · by_cases h0 : a + b = 0
    · rw [if_pos ((sign_mul _ _).2.2 h0), hz h0, h0]
      rfl
    · rw [if_neg (fun h => h0 ((sign_mul _ _).2.1 h)), decide_eq_decide]
      exact (sign_mul _ _).1
theorem two_places (a b : Int) (m n k j : Nat) (s t : Bool) (hs : ∀ e, signed s m e = a * 2 ^ (k + e)) (ht : ∀ e, signed t n e = b * 2 ^ (j + e)) (hz : a + b = 0 → (s && t) = false) :
    ∃ d'', (Datum.number s m (-(k : Nat) : Int)).sum (.number t n (-(j : Nat) : Int)) = some d'' ∧ Rep d'' (a + b) := by
  refine ⟨_, rfl, ?_⟩
  have hb : min (-(k : Int)) (-(j : Int)) = -((max k j : Nat) : Int) := by omega
  rw [hb]
  have e1 : (-(k : Int) - -((max k j : Nat) : Int)).toNat = max k j - k := by omega
  have e2 : (-(j : Int) - -((max k j : Nat) : Int)).toNat = max k j - j := by omega
  rw [e1, e2, hs, ht, show k + (max k j - k) = max k j by omega, show j + (max k j - j) = max k j by omega, ← Int.add_mul]
  exact rep_total hz
theorem rep_sum {d d' : Datum} {a b : Int} (h : Rep d a) (h' : Rep d' b) : ∃ d'', d.sum d' = some d'' ∧ Rep d'' (a + b) := by
  obtain ⟨s, m, k, rfl, hm, rfl⟩ := h
  obtain ⟨t, n, j, rfl, hn, rfl⟩ := h'
  refine two_places a b m n k j _ _ (signed_eq a m k · hm) (signed_eq b n j · hn) (fun h => ?_)
  by_cases ha : a < 0
  · have : ¬ b < 0 := by omega
    simp [this]
  · simp [ha]
theorem rep_sub {d d' : Datum} {a b : Int} (h : Rep d a) (h' : Rep d' b) : ∃ d'', d.sum d'.opposite = some d'' ∧ Rep d'' (a - b) := by
  obtain ⟨s, m, k, rfl, hm, rfl⟩ := h
  obtain ⟨t, n, j, rfl, hn, rfl⟩ := h'
  have hneg : ∀ e, signed (!decide (b < 0)) n e = -b * 2 ^ (j + e) := fun e => by
    have := signed_eq b n j e hn
    rw [signed_nat] at this ⊢
    rw [Int.neg_mul, ← this]
    by_cases hb : b < 0 <;> simp [hb]
  have := two_places a (-b) m n k j _ _ (signed_eq a m k · hm) hneg (fun h => by
    by_cases ha : a < 0
    · have : b < 0 := by omega
      simp [this]
    · simp [ha])
  rw [Int.sub_eq_add_neg]
  exact this
theorem rep_mul {d d' : Datum} {a b : Int} (h : Rep d a) (h' : Rep d' b) (ha : 0 ≤ a) (hb : 0 ≤ b) : ∃ d'', d.product d' = some d'' ∧ Rep d'' (a * b) := by
  obtain ⟨s, m, k, rfl, hm, rfl⟩ := h
  obtain ⟨t, n, j, rfl, hn, rfl⟩ := h'
  refine ⟨_, rfl, decide (a * b < 0), m * n, k + j, ?_, ?_, rfl⟩
  · congr 1
    · have h1 : ¬ a < 0 := by omega
      have h2 : ¬ b < 0 := by omega
      have h3 : ¬ a * b < 0 := by have := Int.mul_nonneg ha hb; omega
      simp [h1, h2, h3]
    · omega
  · rw [Int.natCast_mul, hm, hn, Int.natAbs_mul, Int.natCast_mul, Int.pow_add]
    simp only [Int.mul_assoc]
    congr 1
    rw [Int.mul_left_comm]
theorem rep_toInt {d : Datum} {a : Int} (h : Rep d a) : d.toInt .zero = some a := by
  obtain ⟨s, m, k, rfl, hm, rfl⟩ := h
  have hm' : m = a.natAbs * 2 ^ k := by have := hm; rw [← Int.natCast_inj, hm, Int.natCast_mul, Int.natCast_pow]; rfl
  have hcut : Toward.cut .zero (decide (a < 0)) m k = a.natAbs := by
    unfold Toward.cut
    have hgap : (1 : Nat) <<< min k (m.log2 + 2) = 2 ^ k ∨ m = 0 := by
      rcases Nat.eq_zero_or_pos m with h0 | h0
      · exact .inr h0
      · left
        have hk : k ≤ m.log2 := by
          rw [Nat.le_log2 (by omega)]
          rw [hm']
          have : 1 ≤ a.natAbs := by
            rcases Nat.eq_zero_or_pos a.natAbs with h1 | h1
            · rw [h1] at hm'; omega
            · exact h1
          calc 2 ^ k = 1 * 2 ^ k := by omega
            _ ≤ a.natAbs * 2 ^ k := Nat.mul_le_mul_right _ this
        rw [show min k (m.log2 + 2) = k by omega, shl, Nat.one_mul]
    rcases hgap with hg | h0
    · simp only [hg, Bool.toNat_false, Nat.add_zero]
      rw [hm', Nat.mul_div_cancel _ (Nat.pow_pos (by omega))]
    · have : a.natAbs = 0 := by
        rw [h0] at hm'
        rcases Nat.mul_eq_zero.1 hm'.symm with h | h
        · exact h
        · have := Nat.pow_pos (n := k) (show 0 < 2 by omega); omega
      simp [h0, this]
  unfold Datum.toInt Datum.integral
  simp only [show ((-(k : Int)).toNat) = 0 by omega, show (-(-(k : Int))).toNat = k by omega]
  rw [shl, Nat.pow_zero, Nat.mul_one, hcut]
  have := signed_eq a a.natAbs 0 0 (by simp)
  rw [this]
  simp
theorem rep_integral {d : Datum} {a : Int} (h : Rep d a) : Rep (d.integral .zero) a := by
  have h1 := rep_toInt h
  obtain ⟨s, m, k, rfl, hm, rfl⟩ := h
  unfold Datum.toInt at h1
  unfold Datum.integral at h1
  simp only [Option.some.injEq] at h1
  show Rep (.number (decide (a < 0)) (Toward.zero.cut (decide (a < 0)) (m <<< (-(k : Int)).toNat) (-(-(k : Int))).toNat) 0) a
  generalize hq : Toward.zero.cut (decide (a < 0)) (m <<< (-(k : Int)).toNat) (-(-(k : Int))).toNat = q at *
  refine ⟨_, q, 0, rfl, ?_, rfl⟩
  rw [signed_nat] at h1
  by_cases ha : a < 0
  · simp only [ha, decide_true, if_true] at h1; omega
  · simp only [ha, decide_false, Bool.false_eq_true, if_false] at h1; omega
theorem rep_order {d d' : Datum} {a b : Int} (h : Rep d a) (h' : Rep d' b) : d.order d' = some (compare a b) := by
  obtain ⟨s, m, k, rfl, hm, rfl⟩ := h
  obtain ⟨t, n, j, rfl, hn, rfl⟩ := h'
  unfold Datum.order
  have hb : min (-(k : Int)) (-(j : Int)) = -((max k j : Nat) : Int) := by omega
  simp only [hb]
  have e1 : (-(k : Int) - -((max k j : Nat) : Int)).toNat = max k j - k := by omega
  have e2 : (-(j : Int) - -((max k j : Nat) : Int)).toNat = max k j - j := by omega
  rw [e1, e2, signed_eq a m k _ hm, signed_eq b n j _ hn, show k + (max k j - k) = max k j by omega, show j + (max k j - j) = max k j by omega]
  generalize max k j = K
  congr 1
  have hs := sign_mul (a - b) K
  rw [Int.sub_mul] at hs
  show compareOfLessAndEq _ _ = compareOfLessAndEq a b
  have i1 : a * 2 ^ K < b * 2 ^ K ↔ a < b := by
    constructor
    · intro h; have := hs.1.1 (by omega); omega
    · intro h; have := hs.1.2 (by omega); omega
  have i2 : a * 2 ^ K = b * 2 ^ K ↔ a = b := by
    constructor
    · intro h; have := hs.2.1 (by omega); omega
    · intro h; rw [h]
  unfold compareOfLessAndEq
  simp only [i1, i2]
theorem log2_shift (m k : Nat) (h : 0 < m) : (m * 2 ^ k).log2 = m.log2 + k := by
  have hp : 0 < 2 ^ k := Nat.pow_pos (by omega)
  have h1 := (Nat.log2_eq_iff (by omega : m ≠ 0)).1 (rfl : m.log2 = m.log2)
  rw [Nat.log2_eq_iff (by have := Nat.mul_pos h hp; omega)]
  constructor
  · rw [Nat.pow_add]; exact Nat.mul_le_mul_right _ h1.1
  · rw [show m.log2 + k + 1 = (m.log2 + 1) + k by omega, Nat.pow_add]
    exact Nat.mul_lt_mul_of_pos_right h1.2 hp
def canon (neg : Bool) (m : Nat) : Nat := double.word neg (if m = 0 then 0 else (m.log2 + 1022) * 4503599627370496 + m * 2 ^ (52 - m.log2))
theorem cut_exact (neg : Bool) (n d : Nat) : Toward.even.cut neg (n * 2 ^ d) d = n := by
  have key : ∀ gap, n * 2 ^ d / gap = n → n * 2 ^ d % gap = 0 → gap ≠ 0 → (n * 2 ^ d / gap + (decide (gap < 2 * (n * 2 ^ d % gap)) || gap == 2 * (n * 2 ^ d % gap) && n * 2 ^ d / gap % 2 == 1).toNat) = n := by
    intro gap h1 h2 h3
    rw [h1, h2]
    simp [h3]
  unfold Toward.cut
  refine key _ ?_ ?_ ?_
  · rcases Nat.eq_zero_or_pos n with h0 | h0
    · subst h0; simp
    · rw [log2_shift n d h0, show min d (n.log2 + d + 2) = d by omega, shl, Nat.one_mul, Nat.mul_div_cancel _ (Nat.pow_pos (by omega))]
  · rcases Nat.eq_zero_or_pos n with h0 | h0
    · subst h0; simp
    · rw [log2_shift n d h0, show min d (n.log2 + d + 2) = d by omega, shl, Nat.one_mul, Nat.mul_mod_left]
  · rw [shl, Nat.one_mul]
    have := Nat.pow_pos (n := min d ((n * 2 ^ d).log2 + 2)) (show 0 < 2 by omega)
    omega
theorem log2_53 (m : Nat) (h0 : 0 < m) (h : m < 9007199254740992) : m.log2 ≤ 52 := by
  have := (Nat.log2_lt (by omega : m ≠ 0) (k := 53)).2 h
  omega
theorem min_lem (L q : Nat) (hL : L ≤ 52) (hq : q < 9007199254740992) : min ((L + 1022) * 4503599627370496 + q) 9218868437227405312 = (L + 1022) * 4503599627370496 + q := by omega
theorem near (neg : Bool) (m k : Nat) (h0 : 0 < m) (h : m < 9007199254740992) : double.nearest neg (m * 2 ^ k) (-(k : Nat) : Int) = canon neg m := by
  have hp : 0 < 2 ^ k := Nat.pow_pos (by omega)
  have hL := log2_53 m h0 h
  have hmk : m * 2 ^ k ≠ 0 := by have := Nat.mul_pos h0 hp; omega
  unfold Format.nearest canon
  rw [if_neg hmk, if_neg (by omega), log2_shift m k h0]
  have hlast : max (-(k : Int) + ((m.log2 + k : Nat) : Int) - ((double.fractionBits : Nat) : Int)) double.leastPlace = (m.log2 : Int) - 52 := by
    show max (-(k : Int) + ((m.log2 + k : Nat) : Int) - (52 : Int)) (-1074) = _
    omega
  simp only [hlast]
  have hfirst : ((m.log2 : Int) - 52 - double.leastPlace).toNat = m.log2 + 1022 := by
    show ((m.log2 : Int) - 52 - (-1074)).toNat = _
    omega
  simp only [hfirst]
  have hkept : Toward.even.cut neg ((m * 2 ^ k) <<< (-(k : Int) - ((m.log2 : Int) - 52)).toNat) ((m.log2 : Int) - 52 - -(k : Int)).toNat = m * 2 ^ (52 - m.log2) := by
    rcases Nat.le_total (m.log2 + k) 52 with hc | hc
    · rw [show ((m.log2 : Int) - 52 - -(k : Int)).toNat = 0 by omega, show (-(k : Int) - ((m.log2 : Int) - 52)).toNat = 52 - m.log2 - k by omega, shl]
      have := cut_exact neg (m * 2 ^ k * 2 ^ (52 - m.log2 - k)) 0
      rw [Nat.pow_zero, Nat.mul_one] at this
      rw [this, Nat.mul_assoc, ← Nat.pow_add, show k + (52 - m.log2 - k) = 52 - m.log2 by omega]
    · rw [show ((m.log2 : Int) - 52 - -(k : Int)).toNat = k - (52 - m.log2) by omega, show (-(k : Int) - ((m.log2 : Int) - 52)).toNat = 0 by omega, shl, Nat.pow_zero, Nat.mul_one]
      have e : m * 2 ^ k = (m * 2 ^ (52 - m.log2)) * 2 ^ (k - (52 - m.log2)) := by
        rw [Nat.mul_assoc, ← Nat.pow_add, show 52 - m.log2 + (k - (52 - m.log2)) = k by omega]
      rw [e, cut_exact]
  simp only [hkept]
  have hb : double.binade = 4503599627370496 := rfl
  have hi : double.infRung = 9218868437227405312 := rfl
  have hm := ((Nat.log2_eq_iff (by omega : m ≠ 0)).1 (rfl : m.log2 = m.log2)).2
  have hk2 : m * 2 ^ (52 - m.log2) < 9007199254740992 := by
    calc m * 2 ^ (52 - m.log2) < 2 ^ (m.log2 + 1) * 2 ^ (52 - m.log2) := Nat.mul_lt_mul_of_pos_right hm (Nat.pow_pos (by omega))
      _ = 9007199254740992 := by rw [← Nat.pow_add, show m.log2 + 1 + (52 - m.log2) = 53 by omega]
  rw [hb, hi, min_lem _ _ hL hk2]
theorem write_rep {d : Datum} {a : Int} (h : Rep d a) (ha : a.natAbs < 9007199254740992) : double.write d = canon (decide (a < 0)) a.natAbs := by
  obtain ⟨s, m, k, rfl, hm, rfl⟩ := h
  have hm' : m = a.natAbs * 2 ^ k := by rw [← Int.natCast_inj, hm, Int.natCast_mul, Int.natCast_pow]; rfl
  rcases Nat.eq_zero_or_pos a.natAbs with h0 | h0
  · have hm0 : m = 0 := by rw [hm', h0, Nat.zero_mul]
    rw [hm0]
    show double.nearest _ _ _ = _
    unfold Format.nearest canon
    rw [if_pos rfl, h0, if_pos rfl]
  · rw [hm']
    exact near _ _ k h0 ha
theorem FL_canon (a : Int) (ha : a.natAbs < 9007199254740992) : FL a = canon (decide (a < 0)) a.natAbs :=
  write_rep ⟨_, _, 0, rfl, by simp, rfl⟩ ha
theorem write_FL {d : Datum} {a : Int} (h : Rep d a) (ha : a.natAbs < 9007199254740992) : double.write d = FL a := by rw [write_rep h ha, FL_canon a ha]
theorem read_FL (a : Int) (ha : a.natAbs < 9007199254740992) : Rep (double.read (FL a)) a := by
  rw [FL_canon a ha]
  rcases Nat.eq_zero_or_pos a.natAbs with h0 | h0
  · have : a = 0 := by omega
    subst this
    exact ⟨false, 0, 1074, rfl, by rw [Int.natAbs_zero]; exact (Int.zero_mul _).symm, rfl⟩
  · generalize hs : decide (a < 0) = s
    generalize hmm : a.natAbs = m at *
    have hL := log2_53 m h0 ha
    have hm := (Nat.log2_eq_iff (by omega : m ≠ 0)).1 (rfl : m.log2 = m.log2)
    have hk2 : m * 2 ^ (52 - m.log2) < 9007199254740992 := by
      calc m * 2 ^ (52 - m.log2) < 2 ^ (m.log2 + 1) * 2 ^ (52 - m.log2) := Nat.mul_lt_mul_of_pos_right hm.2 (Nat.pow_pos (by omega))
        _ = 9007199254740992 := by rw [← Nat.pow_add, show m.log2 + 1 + (52 - m.log2) = 53 by omega]
    have hk1 : 4503599627370496 ≤ m * 2 ^ (52 - m.log2) := by
      calc 4503599627370496 = 2 ^ m.log2 * 2 ^ (52 - m.log2) := by rw [← Nat.pow_add, show m.log2 + (52 - m.log2) = 52 by omega]
        _ ≤ m * 2 ^ (52 - m.log2) := Nat.mul_le_mul_right _ hm.1
    obtain ⟨q, hq⟩ : ∃ q, q = m * 2 ^ (52 - m.log2) := ⟨_, rfl⟩
    obtain ⟨L, hLL⟩ : ∃ L, L = m.log2 := ⟨_, rfl⟩
    have hc : canon s m = double.word s ((L + 1022) * 4503599627370496 + q) := by rw [canon, if_neg (by omega), ← hq, ← hLL]
    have hval : (q : Int) = (m : Int) * 2 ^ (52 - L) := by rw [hq, hLL, Int.natCast_mul, Int.natCast_pow]; rfl
    rw [← hq] at hk1 hk2
    rw [← hLL] at hL
    clear hq hLL hm
    rw [hc]
    have hsw : double.signWeight = 9223372036854775808 := rfl
    have hb : double.binade = 4503599627370496 := rfl
    have hi : double.infRung = 9218868437227405312 := rfl
    have hl : double.leastPlace = -1074 := rfl
    have hword : double.word s ((L + 1022) * 4503599627370496 + q) = (if s then 9223372036854775808 else 0) + ((L + 1022) * 4503599627370496 + q) := by
      unfold Format.word
      rw [hsw]
      cases s <;> simp
    have hlt : (L + 1022) * 4503599627370496 + q < 9223372036854775808 := by omega
    have hdiv : double.word s ((L + 1022) * 4503599627370496 + q) / 9223372036854775808 % 2 = (if s then 1 else 0) := by
      rw [hword]
      cases s
      · simp only [Bool.false_eq_true, if_false]; omega
      · simp only [if_true]; omega
    have hmod : double.word s ((L + 1022) * 4503599627370496 + q) % 9223372036854775808 = (L + 1022) * 4503599627370496 + q := by
      rw [hword]
      cases s
      · simp only [Bool.false_eq_true, if_false]; omega
      · simp only [if_true]; omega
    unfold Format.read
    simp only [hsw, hdiv, hmod, hb, hi, hl]
    rw [if_neg (by omega), if_pos (by omega)]
    have e1 : ((L + 1022) * 4503599627370496 + q) % 4503599627370496 = q - 4503599627370496 := by omega
    have e2 : ((L + 1022) * 4503599627370496 + q) / 4503599627370496 = L + 1023 := by omega
    rw [e1, e2]
    refine ⟨s, 4503599627370496 + (q - 4503599627370496), 52 - L, ?_, ?_, ?_⟩
    · have es : ((if s = true then 1 else 0) == 1) = s := by cases s <;> rfl
      have ep : (-1074 : Int) + ((L + 1023 - 1 : Nat) : Int) = -((52 - L : Nat) : Int) := by omega
      rw [es, ep]
    · rw [hmm, ← hval]; omega
    · rw [hs]
theorem add_FL (a b : Int) (ha : a.natAbs < 9007199254740992) (hb : b.natAbs < 9007199254740992) (hs : (a + b).natAbs < 9007199254740992) : double.add (FL a) (FL b) = some (FL (a + b)) := by
  obtain ⟨d, h1, h2⟩ := rep_sum (read_FL a ha) (read_FL b hb)
  unfold Format.add
  rw [h1, Option.map_some, write_FL h2 hs]
theorem sub_FL (a b : Int) (ha : a.natAbs < 9007199254740992) (hb : b.natAbs < 9007199254740992) (hs : (a - b).natAbs < 9007199254740992) : double.sub (FL a) (FL b) = some (FL (a - b)) := by
  obtain ⟨d, h1, h2⟩ := rep_sub (read_FL a ha) (read_FL b hb)
  unfold Format.sub
  rw [h1, Option.map_some, write_FL h2 hs]
theorem mul_FL (a b : Int) (ha : a.natAbs < 9007199254740992) (hb : b.natAbs < 9007199254740992) (h0 : 0 ≤ a) (h1 : 0 ≤ b) (hs : (a * b).natAbs < 9007199254740992) : double.mul (FL a) (FL b) = some (FL (a * b)) := by
  obtain ⟨d, h2, h3⟩ := rep_mul (read_FL a ha) (read_FL b hb) h0 h1
  unfold Format.mul
  rw [h2, Option.map_some, write_FL h3 hs]
theorem order_FL (a b : Int) (ha : a.natAbs < 9007199254740992) (hb : b.natAbs < 9007199254740992) : double.order (FL a) (FL b) = some (compare a b) := rep_order (read_FL a ha) (read_FL b hb)
theorem trunc_FL (a : Int) (ha : a.natAbs < 9007199254740992) : double.write ((double.read (FL a)).integral .zero) = FL a := write_FL (rep_integral (read_FL a ha)) ha
theorem toInt_FL (a : Int) (ha : a.natAbs < 9007199254740992) : (double.read (FL a)).toInt .zero = some a := rep_toInt (read_FL a ha)
theorem floatOfInt_FL (a : Int) : floatOfInt .f64 a = FL a := rfl
end Flo
end Go.Proofs.Ytcbkhbnemhkheaa
