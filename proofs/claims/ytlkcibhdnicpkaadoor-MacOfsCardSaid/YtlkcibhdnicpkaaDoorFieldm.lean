/- Numbers and texts one behind the other, in plain lists; a reader of them. -/
import Derived.Test.YtlkcibhdnicpkaaDoorVmath2
namespace Go.Proofs.YtlkcibhdnicpkaaDoor
namespace Fm
open Vm
def num (n : Int) : List UInt8 := (put n).1
def text (r : List UInt8) : List UInt8 := num (r.length : Int) ++ r
/-- a reader: what is left, and the first error -/
structure Rd where
  l : List UInt8
  e : Int
def Rd.num (r : Rd) (most : Int) : Rd × Nat :=
  if r.e ≠ 0 then (r, 0) else if (shortest r.l).2.2 ≠ 0 then (⟨r.l, (shortest r.l).2.2⟩, 0) else if most < ((shortest r.l).1 : Int) then (⟨r.l, 5⟩, 0) else (⟨r.l.drop (shortest r.l).2.1, 0⟩, (shortest r.l).1)
def Rd.raw (r : Rd) (n : Int) : Rd × List UInt8 :=
  if r.e ≠ 0 then (r, []) else if n < 0 then (⟨r.l, 2⟩, []) else if (r.l.length : Int) < n then (⟨r.l, 3⟩, []) else (⟨r.l.drop n.toNat, 0⟩, r.l.take n.toNat)
def Rd.text (r : Rd) (most : Int) : Rd × List UInt8 :=
  if r.e ≠ 0 then (r, []) else if (r.num most).1.e ≠ 0 then (⟨r.l, (r.num most).1.e⟩, []) else if (((r.num most).1.raw (r.num most).2).1).e ≠ 0 then (⟨r.l, (((r.num most).1.raw (r.num most).2).1).e⟩, []) else (r.num most).1.raw (r.num most).2
def Rd.byte (r : Rd) : Rd × UInt8 := ((r.raw 1).1, (r.raw 1).2.getD 0 0)
def Rd.done (r : Rd) : Int := if r.e ≠ 0 then r.e else if 0 < r.l.length then 4 else 0

theorem enc_len8 (n w : Nat) (hw : W4 w) : (enc n w).length ≤ 8 := by rw [enc_length]; rcases hw with rfl | rfl | rfl | rfl <;> omega
theorem num_len (n : Int) : (num n).length ≤ 8 := by
  unfold num put
  split
  · simp
  · rename_i h
    rcases len_w4 n with h' | ⟨hw, _, _⟩
    · exact absurd h' h
    · exact enc_len8 _ _ hw
theorem num_none (n : Int) (h : (put n).2 ≠ 0) : num n = [] := by
  unfold num
  unfold put at h ⊢
  split
  · rfl
  · rename_i h2; rw [if_neg h2] at h; simp at h
theorem put_snd (n : Int) : (put n).2 = 0 ∨ (put n).2 = 13 := by unfold put; split <;> simp
theorem shortest_bound (l : List UInt8) : (shortest l).1 < 4611686018427387904 ∧ (shortest l).2.1 ≤ l.length ∧ ((shortest l).2.2 = 0 ∨ (shortest l).2.2 = 3 ∨ (shortest l).2.2 = 4) ∧ (shortest l).2.1 ≤ 8 ∧ ((shortest l).2.2 = 0 → 1 ≤ (shortest l).2.1) := by
  have h := get_bound l
  unfold shortest
  split
  · rename_i h0
    refine ⟨by simp, by simp, ?_, by simp, fun h1 => absurd h1 h0⟩
    rcases h.2.2 with h1 | h1
    · exact absurd h1 h0
    · exact .inr (.inl h1)
  · rename_i h0
    have h0 : (get l).2.2 = 0 := by rcases h.2.2 with h1 | h1 <;> omega
    split
    · exact ⟨by simp, by simp, .inr (.inr rfl), by simp, fun h1 => absurd h1 (by simp)⟩
    · have h1 := h.2.1 h0
      refine ⟨h.1, h1.2, .inl h0, ?_, fun _ => ?_⟩ <;> omega
theorem Rd.text_bad (r : Rd) (most : Int) (he : r.e ≠ 0) : r.text most = (r, []) := by unfold Rd.text; rw [if_pos he]
/-- a text, by what is looked at -/
theorem Rd.text_eq (r : Rd) (most : Int) (n u : Nat) (x : Int) (he : r.e = 0) (hs : shortest r.l = (n, u, x)) :
    r.text most = if x ≠ 0 then (⟨r.l, x⟩, []) else if most < (n : Int) then (⟨r.l, 5⟩, []) else if ((r.l.drop u).length : Int) < (n : Int) then (⟨r.l, 3⟩, []) else (⟨(r.l.drop u).drop n, 0⟩, (r.l.drop u).take n) := by
  have hr : r.num most = if x ≠ 0 then (⟨r.l, x⟩, 0) else if most < (n : Int) then (⟨r.l, 5⟩, 0) else (⟨r.l.drop u, 0⟩, n) := by unfold Rd.num; rw [hs, if_neg (by simpa using he)]
  unfold Rd.text
  rw [if_neg (by simpa using he), hr]
  by_cases hx : x = 0
  · subst hx
    simp only [ne_eq, not_true_eq_false, if_false]
    by_cases hm : most < (n : Int)
    · simp only [if_pos hm]; simp
    · simp only [if_neg hm]
      simp only [Rd.raw, ne_eq, not_true_eq_false, if_false]
      rw [if_neg (show ¬ ((n : Nat) : Int) < 0 by omega)]
      by_cases hc : ((r.l.drop u).length : Int) < (n : Int)
      · simp only [if_pos hc]; simp
      · simp only [if_neg hc]; simp
  · rw [if_pos hx, if_pos hx, if_pos hx]
theorem Rd.raw1_cases (r : Rd) : (∃ b, r.raw 1 = (⟨r.l.drop 1, 0⟩, [b])) ∨ (∃ x, x ≠ 0 ∧ r.raw 1 = (⟨r.l, x⟩, [])) := by
  unfold Rd.raw
  split
  · rename_i h; exact .inr ⟨r.e, h, rfl⟩
  · rw [if_neg (by omega)]
    split
    · exact .inr ⟨3, by omega, rfl⟩
    · rename_i h
      left
      rcases hl : r.l with _ | ⟨b, t⟩
      · rw [hl] at h; simp at h
      · exact ⟨b, by simp⟩
theorem num_some (n : Nat) (h : n < 4611686018427387904) : num (n : Int) = enc n (len n) ∧ W4 (len n) ∧ (n : Int) < lim (len n) := by
  rcases len_w4 (n : Int) with h0 | ⟨hw, h0, hl⟩
  · rw [len_zero] at h0; omega
  · refine ⟨?_, hw, hl⟩
    unfold num put
    rw [if_neg (by rcases hw with h | h | h | h <;> omega)]
    simp
theorem shortest_num (n : Nat) (h : n < 4611686018427387904) (x : List UInt8) : shortest (num (n : Int) ++ x) = (n, (num (n : Int)).length, 0) := by
  obtain ⟨h1, h2, h3⟩ := num_some n h
  have hg := get_enc n (len n) h2 h3 x
  rw [h1, enc_length]
  unfold shortest
  rw [hg]
  simp
theorem shortest_cut (n : Nat) (h : n < 4611686018427387904) (k : Nat) (hk : k < (num (n : Int)).length) : shortest ((num (n : Int)).take k) = (0, 0, 3) := by
  obtain ⟨h1, h2, h3⟩ := num_some n h
  rw [h1] at hk ⊢
  rw [enc_length] at hk
  have hg := get_cut n (len n) k h2 h3 hk
  unfold shortest
  rw [hg]
  simp
theorem num_pos (n : Nat) (h : n < 4611686018427387904) : 1 ≤ (num (n : Int)).length := by
  obtain ⟨h1, h2, h3⟩ := num_some n h
  rw [h1, enc_length]
  rcases h2 with h | h | h | h <;> omega
theorem tx_of (L : List UInt8) (most : Int) (n u : Nat) (x : Int) (hs : shortest L = (n, u, x)) :
    (Rd.mk L 0).text most = if x ≠ 0 then (⟨L, x⟩, []) else if most < (n : Int) then (⟨L, 5⟩, []) else if ((L.drop u).length : Int) < (n : Int) then (⟨L, 3⟩, []) else (⟨(L.drop u).drop n, 0⟩, (L.drop u).take n) := Rd.text_eq ⟨L, 0⟩ most n u x rfl hs
theorem tx_cut (r : List UInt8) (k most : Nat) (hr : r.length ≤ most) (hr2 : r.length < 4611686018427387904) (hk : k < (text r).length) : (Rd.mk ((text r).take k) 0).text (most : Int) = (⟨(text r).take k, 3⟩, []) := by
  unfold Fm.text at hk ⊢
  rw [List.length_append] at hk
  by_cases hw : k < (num (r.length : Int)).length
  · have hs : shortest ((num (r.length : Int) ++ r).take k) = (0, 0, 3) := by
      rw [List.take_append_of_le_length (by omega)]; exact shortest_cut r.length hr2 k hw
    rw [tx_of _ _ 0 0 3 hs]
    rfl
  · have ht : (num (r.length : Int) ++ r).take k = num (r.length : Int) ++ r.take (k - (num (r.length : Int)).length) := by
      rw [List.take_append, List.take_of_length_le (by omega)]
    have hs := shortest_num r.length hr2 (r.take (k - (num (r.length : Int)).length))
    rw [← ht] at hs
    rw [tx_of _ _ _ _ 0 hs]
    simp only [ne_eq, not_true_eq_false, if_false]
    rw [if_neg (by omega), if_pos]
    simp only [List.length_drop, List.length_take, List.length_append]
    omega
theorem tx_all (r x : List UInt8) (most : Int) (hr : (r.length : Int) ≤ most) (hr2 : r.length < 4611686018427387904) : (Rd.mk (text r ++ x) 0).text most = (⟨x, 0⟩, r) := by
  unfold Fm.text
  rw [List.append_assoc]
  have hs := shortest_num r.length hr2 (r ++ x)
  rw [tx_of _ _ _ _ 0 hs]
  simp only [ne_eq, not_true_eq_false, if_false]
  have hd : List.drop (num (r.length : Int)).length (num (r.length : Int) ++ (r ++ x)) = r ++ x := List.drop_left
  rw [hd, if_neg (by omega), if_neg (by simp only [List.length_append]; omega)]
  simp
theorem nm_all (n : Nat) (x : List UInt8) (most : Int) (hn : (n : Int) ≤ most) (h : n < 4611686018427387904) : (Rd.mk (Fm.num (n : Int) ++ x) 0).num most = (⟨x, 0⟩, n) := by
  have hs := shortest_num n h x
  unfold Rd.num
  rw [hs]
  simp only [ne_eq, not_true_eq_false, if_false]
  rw [if_neg (by omega)]
  simp
theorem nm_more (n : Nat) (x : List UInt8) (most : Int) (hn : most < (n : Int)) (h : n < 4611686018427387904) : (Rd.mk (Fm.num (n : Int) ++ x) 0).num most = (⟨Fm.num (n : Int) ++ x, 5⟩, 0) := by
  have hs := shortest_num n h x
  unfold Rd.num
  rw [hs]
  simp only [ne_eq, not_true_eq_false, if_false]
  rw [if_pos hn]
theorem tx_more (r x : List UInt8) (most : Int) (hr : most < (r.length : Int)) (hr2 : r.length < 4611686018427387904) : (Rd.mk (Fm.text r ++ x) 0).text most = (⟨Fm.text r ++ x, 5⟩, []) := by
  unfold Fm.text
  rw [List.append_assoc]
  have hs := shortest_num r.length hr2 (r ++ x)
  rw [tx_of _ _ _ _ 0 hs]
  simp only [ne_eq, not_true_eq_false, if_false]
  rw [if_pos hr]
end Fm
end Go.Proofs.YtlkcibhdnicpkaaDoor
