/- Numbers and texts one behind the other, in plain lists; a reader of them. -/
import Derived.Test.YtiofkhjpknfkgaaK01
import Derived.Test.YtiofkhjpknfkgaaK02
import Derived.Test.YtiofkhjpknfkgaaProg
import Derived.WalkKit
import Derived.KernelRfl
import Derived.RowKit3
import Derived.WalkSpells
import Derived.Lib.Hide
import Derived.Deep.RegionWith
import Derived.Deep.LoopGhost
import Derived.Deep.QuietTactic
import Derived.BigQuiet
namespace Go.Proofs.Ytiofkhjpknfkgaa
namespace Fm
open Vm
def num (n : Int) : List UInt8 := (put n).1
def text (r : List UInt8) : List UInt8 := num (r.length : Int) ++ r
/-- a reader: what is left, and the first error -/
structure Rd where
  l : List UInt8
  e : Int
def Rd.num (r : Rd) (most : Int) : Rd × Nat :=
  if r.e ≠ 0 then (r, 0) else if (shortest r.l).2.2 ≠ 0 then (⟨r.l, (shortest r.l).2.2⟩, 0) else if most < ((shortest r.l).1 : Int) then (⟨r.l, 5⟩, 0) else (⟨r.l.drop (shortest r.l).2.1, 0⟩, (shortest r.l).1)
def Rd.raw (r : Rd) (n : Int) : Rd × List UInt8 :=
  if r.e ≠ 0 then (r, []) else if n < 0 then (⟨r.l, 2⟩, []) else if (r.l.length : Int) < n then (⟨r.l, 3⟩, []) else (⟨r.l.drop n.toNat, 0⟩, r.l.take n.toNat)
def Rd.text (r : Rd) (most : Int) : Rd × List UInt8 :=
  if r.e ≠ 0 then (r, []) else if (r.num most).1.e ≠ 0 then (⟨r.l, (r.num most).1.e⟩, []) else if (((r.num most).1.raw (r.num most).2).1).e ≠ 0 then (⟨r.l, (((r.num most).1.raw (r.num most).2).1).e⟩, []) else (r.num most).1.raw (r.num most).2
def Rd.byte (r : Rd) : Rd × UInt8 := ((r.raw 1).1, (r.raw 1).2.getD 0 0)
def Rd.done (r : Rd) : Int := if r.e ≠ 0 then r.e else if 0 < r.l.length then 4 else 0

theorem enc_len8 (n w : Nat) (hw : W4 w) : (enc n w).length ≤ 8 := by rw [enc_length]; rcases hw with rfl | rfl | rfl | rfl <;> omega
theorem num_len (n : Int) : (num n).length ≤ 8 := by
  unfold num put
  split
  · simp
  · rename_i h
    rcases len_w4 n with h' | ⟨hw, _, _⟩
    · exact absurd h' h
    · exact enc_len8 _ _ hw
theorem num_none (n : Int) (h : (put n).2 ≠ 0) : num n = [] := by
  unfold num
  unfold put at h ⊢
  split
  · rfl
  · rename_i h2; rw [if_neg h2] at h; simp at h
theorem put_snd (n : Int) : (put n).2 = 0 ∨ (put n).2 = 13 := by unfold put; split <;> simp
theorem shortest_bound (l : List UInt8) : (shortest l).1 < 4611686018427387904 ∧ (shortest l).2.1 ≤ l.length ∧ ((shortest l).2.2 = 0 ∨ (shortest l).2.2 = 3 ∨ (shortest l).2.2 = 4) ∧ (shortest l).2.1 ≤ 8 ∧ ((shortest l).2.2 = 0 → 1 ≤ (shortest l).2.1) := by
  have h := get_bound l
  unfold shortest
  split
  · rename_i h0
    refine ⟨by simp, by simp, ?_, by simp, fun h1 => absurd h1 h0⟩
    rcases h.2.2 with h1 | h1
    · exact absurd h1 h0
    · exact .inr (.inl h1)
  · rename_i h0
    have h0 : (get l).2.2 = 0 := by rcases h.2.2 with h1 | h1 <;> omega
    split
    · exact ⟨by simp, by simp, .inr (.inr rfl), by simp, fun h1 => absurd h1 (by simp)⟩
    · have h1 := h.2.1 h0
      refine ⟨h.1, h1.2, .inl h0, ?_, fun _ => ?_⟩ <;> omega
theorem Rd.text_bad (r : Rd) (most : Int) (he : r.e ≠ 0) : r.text most = (r, []) := by unfold Rd.text; rw [if_pos he]
/-- a text, by what is looked at -/
theorem Rd.text_eq (r : Rd) (most : Int) (n u : Nat) (x : Int) (he : r.e = 0) (hs : shortest r.l = (n, u, x)) :
    r.text most = if x ≠ 0 then (⟨r.l, x⟩, []) else if most < (n : Int) then (⟨r.l, 5⟩, []) else if ((r.l.drop u).length : Int) < (n : Int) then (⟨r.l, 3⟩, []) else (⟨(r.l.drop u).drop n, 0⟩, (r.l.drop u).take n) := by
  have hr : r.num most = if x ≠ 0 then (⟨r.l, x⟩, 0) else if most < (n : Int) then (⟨r.l, 5⟩, 0) else (⟨r.l.drop u, 0⟩, n) := by unfold Rd.num; rw [hs, if_neg (by simpa using he)]
  unfold Rd.text
  rw [if_neg (by simpa using he), hr]
  by_cases hx : x = 0
  · subst hx
    simp only [ne_eq, not_true_eq_false, if_false]
    by_cases hm : most < (n : Int)
    · simp only [if_pos hm]; simp
    · simp only [if_neg hm]
      simp only [Rd.raw, ne_eq, not_true_eq_false, if_false]
      rw [if_neg (show ¬ ((n : Nat) : Int) < 0 by omega)]
      by_cases hc : ((r.l.drop u).length : Int) < (n : Int)
      · simp only [if_pos hc]; simp
      · simp only [if_neg hc]; simp
  · rw [if_pos hx, if_pos hx, if_pos hx]
theorem Rd.raw1_cases (r : Rd) : (∃ b, r.raw 1 = (⟨r.l.drop 1, 0⟩, [b])) ∨ (∃ x, x ≠ 0 ∧ r.raw 1 = (⟨r.l, x⟩, [])) := by
  unfold Rd.raw
  split
  · rename_i h; exact .inr ⟨r.e, h, rfl⟩
  · rw [if_neg (by omega)]
    split
    · exact .inr ⟨3, by omega, rfl⟩
    · rename_i h
      left
      rcases hl : r.l with _ | ⟨b, t⟩
      · rw [hl] at h; simp at h
      · exact ⟨b, by simp⟩
theorem num_some (n : Nat) (h : n < 4611686018427387904) : num (n : Int) = enc n (len n) ∧ W4 (len n) ∧ (n : Int) < lim (len n) := by
  rcases len_w4 (n : Int) with h0 | ⟨hw, h0, hl⟩
  · rw [len_zero] at h0; omega
  · refine ⟨?_, hw, hl⟩
    unfold num put
    rw [if_neg (by rcases hw with h | h | h | h <;> omega)]
    simp
theorem shortest_num (n : Nat) (h : n < 4611686018427387904) (x : List UInt8) : shortest (num (n : Int) ++ x) = (n, (num (n : Int)).length, 0) := by
  obtain ⟨h1, h2, h3⟩ := num_some n h
  have hg := get_enc n (len n) h2 h3 x
  rw [h1, enc_length]
  unfold shortest
  rw [hg]
  simp
theorem shortest_cut (n : Nat) (h : n < 4611686018427387904) (k : Nat) (hk : k < (num (n : Int)).length) : shortest ((num (n : Int)).take k) = (0, 0, 3) := by
  obtain ⟨h1, h2, h3⟩ := num_some n h
  rw [h1] at hk ⊢
  rw [enc_length] at hk
  have hg := get_cut n (len n) k h2 h3 hk
  unfold shortest
  rw [hg]
  simp
theorem num_pos (n : Nat) (h : n < 4611686018427387904) : 1 ≤ (num (n : Int)).length := by
  obtain ⟨h1, h2, h3⟩ := num_some n h
  rw [h1, enc_length]
  rcases h2 with h | h | h | h <;> omega
theorem tx_of (L : List UInt8) (most : Int) (n u : Nat) (x : Int) (hs : shortest L = (n, u, x)) :
    (Rd.mk L 0).text most = if x ≠ 0 then (⟨L, x⟩, []) else if most < (n : Int) then (⟨L, 5⟩, []) else if ((L.drop u).length : Int) < (n : Int) then (⟨L, 3⟩, []) else (⟨(L.drop u).drop n, 0⟩, (L.drop u).take n) := Rd.text_eq ⟨L, 0⟩ most n u x rfl hs
theorem tx_cut (r : List UInt8) (k most : Nat) (hr : r.length ≤ most) (hr2 : r.length < 4611686018427387904) (hk : k < (text r).length) : (Rd.mk ((text r).take k) 0).text (most : Int) = (⟨(text r).take k, 3⟩, []) := by
  unfold Fm.text at hk ⊢
  rw [List.length_append] at hk
  by_cases hw : k < (num (r.length : Int)).length
  · have hs : shortest ((num (r.length : Int) ++ r).take k) = (0, 0, 3) := by
      rw [List.take_append_of_le_length (by omega)]; exact shortest_cut r.length hr2 k hw
    rw [tx_of _ _ 0 0 3 hs]
    rfl
  · have ht : (num (r.length : Int) ++ r).take k = num (r.length : Int) ++ r.take (k - (num (r.length : Int)).length) := by
      rw [List.take_append, List.take_of_length_le (by omega)]
    have hs := shortest_num r.length hr2 (r.take (k - (num (r.length : Int)).length))
    rw [← ht] at hs
    rw [tx_of _ _ _ _ 0 hs]
    simp only [ne_eq, not_true_eq_false, if_false]
    rw [if_neg (by omega), if_pos]
    simp only [List.length_drop, List.length_take, List.length_append]
    omega
theorem tx_all (r x : List UInt8) (most : Int) (hr : (r.length : Int) ≤ most) (hr2 : r.length < 4611686018427387904) : (Rd.mk (text r ++ x) 0).text most = (⟨x, 0⟩, r) := by
  unfold Fm.text
  rw [List.append_assoc]
  have hs := shortest_num r.length hr2 (r ++ x)
  rw [tx_of _ _ _ _ 0 hs]
  simp only [ne_eq, not_true_eq_false, if_false]
  have hd : List.drop (num (r.length : Int)).length (num (r.length : Int) ++ (r ++ x)) = r ++ x := List.drop_left
  rw [hd, if_neg (by omega), if_neg (by simp only [List.length_append]; omega)]
  simp
theorem nm_all (n : Nat) (x : List UInt8) (most : Int) (hn : (n : Int) ≤ most) (h : n < 4611686018427387904) : (Rd.mk (Fm.num (n : Int) ++ x) 0).num most = (⟨x, 0⟩, n) := by
  have hs := shortest_num n h x
  unfold Rd.num
  rw [hs]
  simp only [ne_eq, not_true_eq_false, if_false]
  rw [if_neg (by omega)]
  simp
theorem nm_more (n : Nat) (x : List UInt8) (most : Int) (hn : most < (n : Int)) (h : n < 4611686018427387904) : (Rd.mk (Fm.num (n : Int) ++ x) 0).num most = (⟨Fm.num (n : Int) ++ x, 5⟩, 0) := by
  have hs := shortest_num n h x
  unfold Rd.num
  rw [hs]
  simp only [ne_eq, not_true_eq_false, if_false]
  rw [if_pos hn]
theorem tx_more (r x : List UInt8) (most : Int) (hr : most < (r.length : Int)) (hr2 : r.length < 4611686018427387904) : (Rd.mk (Fm.text r ++ x) 0).text most = (⟨Fm.text r ++ x, 5⟩, []) := by
  unfold Fm.text
  rw [List.append_assoc]
  have hs := shortest_num r.length hr2 (r ++ x)
  rw [tx_of _ _ _ _ 0 hs]
  simp only [ne_eq, not_true_eq_false, if_false]
  rw [if_pos hr]
end Fm
end Go.Proofs.Ytiofkhjpknfkgaa
/- Operations as a stream of bytes: plain words and laws. -/
namespace Go.Proofs.Ytiofkhjpknfkgaa
namespace Dm
open Tm
set_option linter.unusedVariables false
def makes (x : O) : Int := if x.copy then x.n else x.data.length
def may (x : O) (old : Int) : Bool := if x.copy then decide (x.data.length = 0) && decide (0 ≤ x.pos) && decide (1 ≤ x.n) && decide (x.pos ≤ old) && decide (x.n ≤ old - x.pos) else decide (0 < x.data.length) && decide (x.pos = 0) && decide (x.n = 0)
def room : List O → Int → Bool
  | [], _ => true
  | x :: t, r => if r - makes x < 0 then false else room t (r - makes x)
def check (l : List O) (old : Int) : Int := if 4096 < l.length then 5 else if l.all (may · old) = false then 4 else if room l 65536 = false then 5 else 0
def piece (old : List UInt8) (x : O) : List UInt8 := if x.copy then (old.drop x.pos.toNat).take x.n.toNat else x.data
def made (old : List UInt8) (l : List O) : List UInt8 := l.flatMap (piece old)
def apply (old : List UInt8) (l : List O) : List UInt8 × Int := if check l old.length ≠ 0 then ([], check l old.length) else (made old l, 0)
def putx (x : O) : List UInt8 := if x.copy then 1 :: (Fm.num x.pos ++ Fm.num x.n) else 0 :: Fm.text x.data
def put (l : List O) : List UInt8 := l.flatMap putx
def cutx (x : O) (n : Int) : O := if x.copy then ⟨true, x.pos + n, x.n - n, x.data⟩ else ⟨false, x.pos, x.n, x.data.drop n.toNat⟩
def from_ : List O → Int → List O
  | [], _ => []
  | x :: t, n => if n ≤ 0 then x :: from_ t n else if makes x ≤ n then from_ t (n - makes x) else cutx x n :: from_ t 0
def none_ : O := ⟨false, 0, 0, []⟩
/-- the operation that bytes begin with, how many it has (0: it is waited for), an error -/
def one (b : List UInt8) (old : Int) : O × Nat × Int :=
  match b with
  | [] => (none_, 0, 0)
  | c :: t =>
    if 1 < c.toNat then (none_, 0, 4) else
    if (Vm.shortest t).2.2 = 4 then (none_, 0, 4) else if (Vm.shortest t).2.2 ≠ 0 then (none_, 0, 0) else
    if c.toNat = 0 then
      if 65536 < (Vm.shortest t).1 then (none_, 0, 5) else if (Vm.shortest t).1 = 0 then (none_, 0, 4) else if (t.drop (Vm.shortest t).2.1).length < (Vm.shortest t).1 then (none_, 0, 0) else
      (lit ((t.drop (Vm.shortest t).2.1).take (Vm.shortest t).1), 1 + (Vm.shortest t).2.1 + (Vm.shortest t).1, 0)
    else
      if (Vm.shortest (t.drop (Vm.shortest t).2.1)).2.2 = 4 then (none_, 0, 4) else if (Vm.shortest (t.drop (Vm.shortest t).2.1)).2.2 ≠ 0 then (none_, 0, 0) else
      if may (cp ((Vm.shortest t).1 : Int) ((Vm.shortest (t.drop (Vm.shortest t).2.1)).1 : Int)) old then (cp ((Vm.shortest t).1 : Int) ((Vm.shortest (t.drop (Vm.shortest t).2.1)).1 : Int), 1 + (Vm.shortest t).2.1 + (Vm.shortest (t.drop (Vm.shortest t).2.1)).2.1, 0) else (none_, 0, 4)
def loop (old : Int) : Nat → List O → Int → List UInt8 → List O × Int × List UInt8 × Int
  | 0, out, m, b => (out, m, b, 0)
  | f + 1, out, m, b =>
    if b.length = 0 then (out, m, b, 0) else
    if (one b old).2.2 ≠ 0 then ([], m, b, (one b old).2.2) else
    if (one b old).2.1 = 0 then (out, m, b, 0) else
    if 65536 - m < makes (one b old).1 then ([], m, b, 5) else
    loop old f (out ++ [(one b old).1]) (m + makes (one b old).1) (b.drop (one b old).2.1)
structure D where
  made : Int
  b : List UInt8
  e : Int
def feed (old : Int) (d : D) (x : List UInt8) : D × List O × Int :=
  if d.e ≠ 0 then (d, [], d.e) else
  if (loop old ((d.b ++ x).length + 1) [] d.made (d.b ++ x)).2.2.2 ≠ 0 then (⟨d.made, d.b, (loop old ((d.b ++ x).length + 1) [] d.made (d.b ++ x)).2.2.2⟩, [], (loop old ((d.b ++ x).length + 1) [] d.made (d.b ++ x)).2.2.2) else
  (⟨(loop old ((d.b ++ x).length + 1) [] d.made (d.b ++ x)).2.1, (loop old ((d.b ++ x).length + 1) [] d.made (d.b ++ x)).2.2.1, 0⟩, (loop old ((d.b ++ x).length + 1) [] d.made (d.b ++ x)).1, 0)
/- operations that may be -/
theorem may_copy {x : O} {old : Int} (hc : x.copy = true) (h : may x old = true) : x.data = [] ∧ 0 ≤ x.pos ∧ 1 ≤ x.n ∧ x.pos + x.n ≤ old := by
  unfold may at h
  rw [if_pos hc] at h
  simp only [Bool.and_eq_true, decide_eq_true_eq] at h
  exact ⟨List.eq_nil_of_length_eq_zero h.1.1.1.1, h.1.1.1.2, h.1.1.2, by omega⟩
theorem may_lit {x : O} {old : Int} (hc : x.copy = false) (h : may x old = true) : 0 < x.data.length ∧ x.pos = 0 ∧ x.n = 0 := by
  unfold may at h
  rw [if_neg (by rw [hc]; simp)] at h
  simp only [Bool.and_eq_true, decide_eq_true_eq] at h
  exact ⟨h.1.1, h.1.2, h.2⟩
theorem may_makes {x : O} {old : Int} (h : may x old = true) : 1 ≤ makes x := by
  unfold makes
  split
  · rename_i hc; exact (may_copy hc h).2.2.1
  · rename_i hc; have := (may_lit (by simpa using hc) h).1; omega
theorem piece_len {x : O} {old : List UInt8} (h : may x old.length = true) : ((piece old x).length : Int) = makes x := by
  unfold piece makes
  split
  · rename_i hc
    have := may_copy hc h
    rw [List.length_take, List.length_drop]
    omega
  · rfl
theorem room_tail {x : O} {t : List O} {r : Int} (h : room (x :: t) r = true) : 0 ≤ r - makes x ∧ room t (r - makes x) = true := by
  unfold room at h
  split at h
  · cases h
  · rename_i h1; exact ⟨by omega, h⟩
theorem room_mono : ∀ (l : List O) (r s : Int), r ≤ s → room l r = true → room l s = true
  | [], _, _, _, _ => rfl
  | x :: t, r, s, h, hr => by
    obtain ⟨h1, h2⟩ := room_tail hr
    unfold room
    rw [if_neg (by omega)]
    exact room_mono t _ _ (by omega) h2
theorem may_cut {x : O} {old : Int} {n : Int} (h : may x old = true) (h0 : 0 < n) (h1 : n < makes x) : may (cutx x n) old = true ∧ makes (cutx x n) = makes x - n := by
  unfold cutx makes at *
  by_cases hc : x.copy = true
  · rw [if_pos hc] at h1 ⊢
    obtain ⟨c1, c2, c3, c4⟩ := may_copy hc h
    refine ⟨?_, by simp [hc]⟩
    unfold may
    simp [c1]
    omega
  · have hc2 : x.copy = false := by simpa using hc
    rw [if_neg hc] at h1 ⊢
    obtain ⟨c1, c2, c3⟩ := may_lit hc2 h
    refine ⟨?_, ?_⟩
    · unfold may
      simp [c2, c3]
      omega
    · simp [hc2]
      omega
theorem piece_cut {x : O} {old : List UInt8} {n : Int} (h : may x old.length = true) (h0 : 0 < n) (h1 : n < makes x) : piece old (cutx x n) = (piece old x).drop n.toNat := by
  unfold cutx piece makes at *
  by_cases hc : x.copy = true
  · rw [if_pos hc] at h1
    obtain ⟨c1, c2, c3, c4⟩ := may_copy hc h
    simp only [hc, if_true]
    rw [List.drop_take, List.drop_drop]
    congr 1
    · omega
    · congr 1; omega
  · simp only [hc, if_false]
    simp
theorem from_ok (old : List UInt8) : ∀ (l : List O) (n r : Int), (∀ x ∈ l, may x old.length = true) → room l r = true →
    (∀ x ∈ from_ l n, may x old.length = true) ∧ room (from_ l n) r = true ∧ (from_ l n).length ≤ l.length ∧ made old (from_ l n) = (made old l).drop n.toNat
  | [], n, r, h, hr => ⟨by simp [from_], by simp [from_, room], Nat.le_refl _, by simp [from_, made]⟩
  | x :: t, n, r, h, hr => by
    have hx := h x (by simp)
    have ht : ∀ y ∈ t, may y old.length = true := fun y hy => h y (by simp [hy])
    obtain ⟨hr1, hr2⟩ := room_tail hr
    have hm := may_makes hx
    have hp := piece_len hx
    unfold from_
    split
    · rename_i hn
      obtain ⟨a1, a2, a3, a4⟩ := from_ok old t n (r - makes x) ht hr2
      refine ⟨fun y hy => ?_, ?_, by simpa using a3, ?_⟩
      · rcases List.mem_cons.1 hy with rfl | hy
        · exact hx
        · exact a1 y hy
      · unfold room; rw [if_neg (by omega)]; exact a2
      · rw [show n.toNat = 0 by omega, List.drop_zero] at a4 ⊢
        simp only [made, List.flatMap_cons] at a4 ⊢
        rw [a4]
    · rename_i hn
      split
      · rename_i hk
        obtain ⟨a1, a2, a3, a4⟩ := from_ok old t (n - makes x) (r - makes x) ht hr2
        refine ⟨a1, room_mono _ _ _ (by omega) a2, by simp only [List.length_cons]; omega, ?_⟩
        rw [a4]
        simp only [made, List.flatMap_cons]
        rw [List.drop_append]
        rw [List.drop_of_length_le (by omega : (piece old x).length ≤ n.toNat), List.nil_append]
        congr 1
        omega
      · rename_i hk
        obtain ⟨c1, c2⟩ := may_cut hx (by omega : 0 < n) (by omega)
        have c3 := piece_cut hx (by omega : 0 < n) (by omega)
        obtain ⟨a1, a2, a3, a4⟩ := from_ok old t 0 (r - makes x) ht hr2
        refine ⟨fun y hy => ?_, ?_, by simpa using a3, ?_⟩
        · rcases List.mem_cons.1 hy with rfl | hy
          · exact c1
          · exact a1 y hy
        · unfold room; rw [if_neg (by omega)]; exact room_mono _ _ _ (by omega) a2
        · have e0 : (0 : Int).toNat = 0 := rfl
          rw [e0, List.drop_zero] at a4
          simp only [made, List.flatMap_cons] at a4 ⊢
          rw [a4, c3, List.drop_append_of_le_length (by omega)]
/-- what is left of operations makes what is left -/
theorem from_law (old : List UInt8) (l : List O) (n : Int) (h : check l old.length = 0) : apply old (from_ l n) = ((made old l).drop n.toNat, 0) := by
  unfold check at h
  split at h
  · omega
  · rename_i h1
    split at h
    · omega
    · rename_i h2
      split at h
      · omega
      · rename_i h3
        have h2' : l.all (may · old.length) = true := by simpa using h2
        obtain ⟨a1, a2, a3, a4⟩ := from_ok old l n 65536 (fun x hx => List.all_eq_true.1 h2' x hx) (by simpa using h3)
        have hc : check (from_ l n) old.length = 0 := by
          unfold check
          rw [if_neg (by omega), if_neg (by rw [List.all_eq_true.2 (fun x hx => a1 x hx)]; simp), if_neg (by rw [a2]; simp)]
        unfold apply
        rw [if_neg (by rw [hc]; simp), a4]
end Dm
end Go.Proofs.Ytiofkhjpknfkgaa
/- Operations, one by one, to the program and to the document: whether they may be, and what they make. -/
namespace Go.Proofs.Ytiofkhjpknfkgaa
namespace Dl
open Go.RowKit Ba Tm Dm Os_
set_option linter.unusedVariables false
/-- an operation by its cells -/
def opA (c : Bool) (p n : Int) (A : Option Addr) (m k : Nat) : Value := .agg #[.bool c, .int .i64 p, .int .i64 n, .slice A m k]
def mayv (c : Bool) (p n : Int) (m : Nat) (old : Int) : Bool := if c then decide (m = 0) && decide (0 ≤ p) && decide (1 ≤ n) && decide (p ≤ old) && decide (n ≤ old - p) else decide (0 < m) && decide (p = 0) && decide (n = 0)
theorem may_v (x : O) (old : Int) : may x old = mayv x.copy x.pos x.n x.data.length old := rfl
set_option maxHeartbeats 2000000 in
theorem may_calls (c : Bool) (p n : Int) (A : Option Addr) (m k : Nat) (old : Int) (hp : -9223372036854775808 ≤ p ∧ p ≤ 9223372036854775807) (hn : -9223372036854775808 ≤ n ∧ n ≤ 9223372036854775807) (ho : -9223372036854775808 ≤ old ∧ old ≤ 9223372036854775807) (hm : m ≤ 9223372036854775807) (w : World) :
    Calls Try.prog 27 #[.agg #[.bool c, .int .i64 p, .int .i64 n, .slice A m k], .int .i64 old] w fun e w' => e = .returned (.bool (mayv c p n m old)) ∧ Below w.heap.size w w' := by
  cases c
  · by_cases h0 : 0 < m
    · by_cases h1 : p = 0
      · by_cases h2 : n = 0
        · have hr : mayv false p n m old = true := by simp [mayv, h0, h1, h2]
          rw [hr]
          clear hr
          go_enter Try.func27, Try.ntmps27
          go_wp2
          go_ret
          exact ⟨by simp [h0, h1, h2], (Below.refl _ _).alloc (Nat.le_refl _) _⟩
        · have hr : mayv false p n m old = false := by simp [mayv, h0, h1, h2]
          rw [hr]
          clear hr
          go_enter Try.func27, Try.ntmps27
          go_wp2
          go_ret
          exact ⟨by simp [h0, h1, h2], (Below.refl _ _).alloc (Nat.le_refl _) _⟩
      · have hr : mayv false p n m old = false := by simp [mayv, h0, h1]
        rw [hr]
        clear hr
        go_enter Try.func27, Try.ntmps27
        go_wp2
        go_ret
        exact ⟨by simp [h0, h1], (Below.refl _ _).alloc (Nat.le_refl _) _⟩
    · have hr : mayv false p n m old = false := by simp [mayv, h0]
      rw [hr]
      clear hr
      go_enter Try.func27, Try.ntmps27
      go_wp2
      go_ret
      exact ⟨by simp [h0], (Below.refl _ _).alloc (Nat.le_refl _) _⟩
  · by_cases h0 : m = 0
    · by_cases h1 : 0 ≤ p
      · by_cases h2 : 1 ≤ n
        · by_cases h3 : p ≤ old
          · by_cases h4 : n ≤ old - p
            · have hr : mayv true p n m old = true := by simp [mayv, h0, h1, h2, h3, h4]
              rw [hr]
              clear hr
              go_enter Try.func27, Try.ntmps27
              go_wp2
              go_ret
              exact ⟨by simp [h0, h1, h2, h3, h4], (Below.refl _ _).alloc (Nat.le_refl _) _⟩
            · have hr : mayv true p n m old = false := by simp [mayv, h0, h1, h2, h3, h4]
              rw [hr]
              clear hr
              go_enter Try.func27, Try.ntmps27
              go_wp2
              go_ret
              exact ⟨by simp [h0, h1, h2, h3, h4], (Below.refl _ _).alloc (Nat.le_refl _) _⟩
          · have hr : mayv true p n m old = false := by simp [mayv, h0, h1, h2, h3]
            rw [hr]
            clear hr
            go_enter Try.func27, Try.ntmps27
            go_wp2
            go_ret
            exact ⟨by simp [h0, h1, h2, h3], (Below.refl _ _).alloc (Nat.le_refl _) _⟩
        · have hr : mayv true p n m old = false := by simp [mayv, h0, h1, h2]
          rw [hr]
          clear hr
          go_enter Try.func27, Try.ntmps27
          go_wp2
          go_ret
          exact ⟨by simp [h0, h1, h2], (Below.refl _ _).alloc (Nat.le_refl _) _⟩
      · have hr : mayv true p n m old = false := by simp [mayv, h0, h1]
        rw [hr]
        clear hr
        go_enter Try.func27, Try.ntmps27
        go_wp2
        go_ret
        exact ⟨by simp [h0, h1], (Below.refl _ _).alloc (Nat.le_refl _) _⟩
    · have hr : mayv true p n m old = false := by simp [mayv, h0]
      rw [hr]
      clear hr
      go_enter Try.func27, Try.ntmps27
      go_wp2
      go_ret
      exact ⟨by simp [h0], (Below.refl _ _).alloc (Nat.le_refl _) _⟩
set_option maxHeartbeats 2000000 in
theorem rmay_calls (c : Bool) (p n : Int) (A : Option Addr) (m k : Nat) (old : Int) (hp : -9223372036854775808 ≤ p ∧ p ≤ 9223372036854775807) (hn : -9223372036854775808 ≤ n ∧ n ≤ 9223372036854775807) (ho : -9223372036854775808 ≤ old ∧ old ≤ 9223372036854775807) (hm : m ≤ 9223372036854775807) (w : World) :
    Calls Try.prog 40 #[.agg #[.bool c, .int .i64 p, .int .i64 n, .slice A m k], .int .i64 old] w fun e w' => e = .returned (.bool (mayv c p n m old)) ∧ Below w.heap.size w w' := by
  cases c
  · by_cases h0 : 0 < m
    · by_cases h1 : p = 0
      · by_cases h2 : n = 0
        · have hr : mayv false p n m old = true := by simp [mayv, h0, h1, h2]
          rw [hr]
          clear hr
          go_enter Try.func40, Try.ntmps40
          go_wp2
          go_ret
          exact ⟨by simp [h0, h1, h2], (Below.refl _ _).alloc (Nat.le_refl _) _⟩
        · have hr : mayv false p n m old = false := by simp [mayv, h0, h1, h2]
          rw [hr]
          clear hr
          go_enter Try.func40, Try.ntmps40
          go_wp2
          go_ret
          exact ⟨by simp [h0, h1, h2], (Below.refl _ _).alloc (Nat.le_refl _) _⟩
      · have hr : mayv false p n m old = false := by simp [mayv, h0, h1]
        rw [hr]
        clear hr
        go_enter Try.func40, Try.ntmps40
        go_wp2
        go_ret
        exact ⟨by simp [h0, h1], (Below.refl _ _).alloc (Nat.le_refl _) _⟩
    · have hr : mayv false p n m old = false := by simp [mayv, h0]
      rw [hr]
      clear hr
      go_enter Try.func40, Try.ntmps40
      go_wp2
      go_ret
      exact ⟨by simp [h0], (Below.refl _ _).alloc (Nat.le_refl _) _⟩
  · by_cases h0 : m = 0
    · by_cases h1 : 0 ≤ p
      · by_cases h2 : p ≤ old
        · by_cases h3 : 1 ≤ n
          · by_cases h4 : n ≤ old - p
            · have hr : mayv true p n m old = true := by simp [mayv, h0, h1, h2, h3, h4]
              rw [hr]
              clear hr
              go_enter Try.func40, Try.ntmps40
              go_wp2
              go_ret
              exact ⟨by simp [h0, h1, h2, h3, h4], (Below.refl _ _).alloc (Nat.le_refl _) _⟩
            · have hr : mayv true p n m old = false := by simp [mayv, h0, h1, h2, h3, h4]
              rw [hr]
              clear hr
              go_enter Try.func40, Try.ntmps40
              go_wp2
              go_ret
              exact ⟨by simp [h0, h1, h2, h3, h4], (Below.refl _ _).alloc (Nat.le_refl _) _⟩
          · have hr : mayv true p n m old = false := by simp [mayv, h0, h1, h2, h3]
            rw [hr]
            clear hr
            go_enter Try.func40, Try.ntmps40
            go_wp2
            go_ret
            exact ⟨by simp [h0, h1, h2, h3], (Below.refl _ _).alloc (Nat.le_refl _) _⟩
        · have hr : mayv true p n m old = false := by simp [mayv, h0, h1, h2]
          rw [hr]
          clear hr
          go_enter Try.func40, Try.ntmps40
          go_wp2
          go_ret
          exact ⟨by simp [h0, h1, h2], (Below.refl _ _).alloc (Nat.le_refl _) _⟩
      · have hr : mayv true p n m old = false := by simp [mayv, h0, h1]
        rw [hr]
        clear hr
        go_enter Try.func40, Try.ntmps40
        go_wp2
        go_ret
        exact ⟨by simp [h0, h1], (Below.refl _ _).alloc (Nat.le_refl _) _⟩
    · have hr : mayv true p n m old = false := by simp [mayv, h0]
      rw [hr]
      clear hr
      go_enter Try.func40, Try.ntmps40
      go_wp2
      go_ret
      exact ⟨by simp [h0], (Below.refl _ _).alloc (Nat.le_refl _) _⟩
set_option maxHeartbeats 400000 in
theorem makes_calls (c : Bool) (p n : Int) (A : Option Addr) (m k : Nat) (w : World) : Calls Try.prog 28 #[.agg #[.bool c, .int .i64 p, .int .i64 n, .slice A m k]] w fun e w' => e = .returned (.int .i64 (if c then n else m)) ∧ Below w.heap.size w w' := by
  cases c
  all_goals
    go_enter Try.func28, Try.ntmps28
    go_wp2
    go_ret
    exact ⟨rfl, (Below.refl _ _).alloc (Nat.le_refl _) _⟩
set_option maxHeartbeats 400000 in
theorem rmakes_calls (c : Bool) (p n : Int) (A : Option Addr) (m k : Nat) (w : World) : Calls Try.prog 32 #[.agg #[.bool c, .int .i64 p, .int .i64 n, .slice A m k]] w fun e w' => e = .returned (.int .i64 (if c then n else m)) ∧ Below w.heap.size w w' := by
  cases c
  all_goals
    go_enter Try.func32, Try.ntmps32
    go_wp2
    go_ret
    exact ⟨rfl, (Below.refl _ _).alloc (Nat.le_refl _) _⟩
end Dl
end Go.Proofs.Ytiofkhjpknfkgaa
/- Operations of the call's own: a row of its own, whose bytes lie in blocks of bytes. -/
namespace Go.Proofs.Ytiofkhjpknfkgaa
namespace Os_
open Go.RowKit Ba Tm
set_option linter.unusedVariables false
/-- bytes that lie in a block of bytes -/
def RT (w : World) (A : Option Addr) (l : List UInt8) : Prop :=
  0 < l.length → ∃ b o cs, A = some ⟨b, o, none⟩ ∧ Blk w b 5 cs ∧ ∀ k, k < l.length → w.cell? ⟨b, o + k, none⟩ = some (.int .u8 ((l.getD k 0).toNat : Int))
section
variable {w w' : World} {A : Option Addr} {l : List UInt8}
theorem RT.nil : RT w A [] := fun h => absurd h (by simp)
theorem RT.readB (h : RT w A l) : ReadB w w.heap.size A l := fun hn => by
  obtain ⟨b, o, cs, e, hb, hc⟩ := h hn
  exact ⟨b, o, e, hb.lt, hc⟩
theorem RT.of_own {base c : Nat} (h : OwnB w base 5 (.slice A l.length c) l) : RT w A l := fun hn => by
  rcases h.2 with ⟨hv, h0⟩ | ⟨g, cap, cur, hv, _, hh, _⟩
  · omega
  · injection hv with hA _ _
    subst hA
    exact ⟨g, 0, cur, rfl, hh, fun k hk => by rw [Nat.zero_add]; exact OwnB.cell (c := c) h hk⟩
theorem RT.below (h : RT w A l) (hb : Below w.heap.size w w') : RT w' A l := fun hn => by
  obtain ⟨b, o, cs, e, hB, hc⟩ := h hn
  exact ⟨b, o, cs, e, hB.below hb hB.lt, fun k hk => (hb.cell (p := ⟨b, o + k, none⟩) hB.lt).trans (hc k hk)⟩
theorem RT.row {row : Option Nat} (h : RT w A l) (hg : w.grownBy w' row) (hB : ∀ g, row = some g → ∃ t cs, Blk w g t cs ∧ 5 ≠ t) : RT w' A l := fun hn => by
  obtain ⟨b, o, cs', e, hb, hc⟩ := h hn
  have hbg : some b ≠ row := fun e2 => by
    obtain ⟨t, cs, h1, h2⟩ := hB b e2.symm
    exact hb.ne_ h1 h2 rfl
  exact ⟨b, o, cs', e, hb.grown hg hbg, fun k hk => (World.cell?_of_block (hg.block b hb.lt hbg)).trans (hc k hk)⟩
theorem RT.drop {b o : Nat} (h : RT w (some ⟨b, o, none⟩) l) (k : Nat) : RT w (some ⟨b, o + k, none⟩) (l.drop k) := fun hn => by
  have hk : k < l.length := by simp at hn; omega
  obtain ⟨b', o', cs, e, hb, hcl⟩ := h (by omega)
  injection e with e
  injection e with e1 e2
  subst e1 e2
  refine ⟨b, o + k, cs, rfl, hb, fun j hj => ?_⟩
  have hj' : k + j < l.length := by simp at hj; omega
  rw [Nat.add_assoc, hcl (k + j) hj']
  simp [List.getD]
end
def WfT (w : World) (x : Ow) : Prop := (-9223372036854775808 ≤ x.1.pos ∧ x.1.pos ≤ 9223372036854775807) ∧ (-9223372036854775808 ≤ x.1.n ∧ x.1.n ≤ 9223372036854775807) ∧ x.1.data.length ≤ x.2.2 ∧ x.2.2 ≤ 9223372036854775807 ∧ RT w x.2.1 x.1.data
theorem WfT.wf {w : World} {x : Ow} (h : WfT w x) : WfO w w.heap.size x := ⟨h.1, h.2.1, h.2.2.1, h.2.2.2.1, h.2.2.2.2.readB⟩
theorem WfT.below {w w' : World} {x : Ow} (h : WfT w x) (hb : Below w.heap.size w w') : WfT w' x := ⟨h.1, h.2.1, h.2.2.1, h.2.2.2.1, h.2.2.2.2.below hb⟩
theorem WfT.row {w w' : World} {x : Ow} {row : Option Nat} (h : WfT w x) (hg : w.grownBy w' row) (hB : ∀ g, row = some g → ∃ t cs, Blk w g t cs ∧ 5 ≠ t) : WfT w' x := ⟨h.1, h.2.1, h.2.2.1, h.2.2.2.1, h.2.2.2.2.row hg hB⟩
/-- operations of the call's own -/
def OwnO (w : World) (base : Nat) (v : Value) (L : List Ow) : Prop := OwnRow opv 4 w base 54 v L ∧ ∀ x ∈ L, WfT w x
section
variable {w w' : World} {base : Nat} {v : Value} {L : List Ow}
theorem op_ne : (5 : TypeId) ≠ 54 := by decide
theorem OwnO.nil : OwnO w base (.slice none 0 0) [] := ⟨OwnRow.nil, by simp⟩
theorem OwnO.keptB (h : OwnO w base v L) (hb : Below w.heap.size w w') : OwnO w' base v L := ⟨h.1.keptB hb, fun x hx => (h.2 x hx).below hb⟩
theorem OwnO.alloc (h : OwnO w base v L) (o : Obj) : OwnO (w.alloc o) base v L := h.keptB ((Below.refl _ _).alloc (Nat.le_refl _) o)
theorem OwnO.weak {b2 : Nat} (h : OwnO w base v L) (hb : b2 ≤ base) : OwnO w b2 v L := ⟨h.1.weak hb, h.2⟩
theorem OwnO.grown {row : Option Nat} (h : OwnO w base v L) (hg : w.grownBy w' row) (hne : v.ownBlock = none ∨ v.ownBlock ≠ row) (hB : ∀ g, row = some g → ∃ t cs, Blk w g t cs ∧ 5 ≠ t) : OwnO w' base v L := ⟨h.1.grown hg hne, fun x hx => (h.2 x hx).row hg hB⟩
theorem own_blk (h : OwnRow opv 4 w base 54 v L) : ∀ g, v.ownBlock = some g → ∃ cs, Blk w g 54 cs := fun g hg => by
  rcases h.2.2 with ⟨rfl, _⟩ | ⟨g2, cap, cur, rfl, hb, hh, _⟩
  · cases hg
  · simp only [Value.ownBlock, Option.some.injEq] at hg
    subst hg
    exact ⟨cur, hh⟩
/-- one more is put behind -/
theorem OwnO.app {v' : Value} {r : List Ow} (h : OwnO w base v L) (h1 : OwnRow opv 4 w' base 54 v' (L ++ r)) (hg : w.grownBy w' v.ownBlock) (hr : ∀ x ∈ r, WfT w x) : OwnO w' base v' (L ++ r) := by
  have hB : ∀ g, v.ownBlock = some g → ∃ t cs, Blk w g t cs ∧ 5 ≠ t := fun g hg => by
    obtain ⟨cs, hcs⟩ := own_blk h.1 g hg
    exact ⟨_, cs, hcs, op_ne⟩
  refine ⟨h1, fun x hx => ?_⟩
  rcases List.mem_append.1 hx with hx | hx
  · exact (h.2 x hx).row hg hB
  · exact (hr x hx).row hg hB
theorem OwnO.opens (h : OwnO w base v L) : ∃ A c, v = .slice A L.length c ∧ L.length ≤ c ∧ c ≤ 9223372036854775807 ∧ ReadO w w.heap.size A L ∧ (∀ ad, A = some ad → base ≤ ad.block ∧ ad.block < w.heap.size) := by
  obtain ⟨A, c, e, h1, h2, h3, h4⟩ := h.1.opens
  exact ⟨A, c, e, h1, h2, ⟨h3, fun x hx => (h.2 x hx).wf⟩, h4⟩
end
/-- the k-th operation -/
def oat (L : List Ow) (k : Nat) : Ow := L.getD k (⟨false, 0, 0, []⟩, none, 0)
theorem oat_get {L : List Ow} {k : Nat} (h : k < L.length) : L[k]? = some (oat L k) := by simp [oat, List.getD, h]
theorem oat_mem {L : List Ow} {k : Nat} (h : k < L.length) : oat L k ∈ L := List.mem_of_getElem? (oat_get h)
theorem opv_mk (c : Bool) (p n : Int) (d : List UInt8) (A : Option Addr) (k : Nat) : opv (⟨c, p, n, d⟩, A, k) = [.bool c, .int .i64 p, .int .i64 n, .slice A d.length k] := rfl
theorem isOp : ∃ i, IsRec Try.prog 54 i 4 48 := isRec_of (by kernel_rfl)
end Os_
end Go.Proofs.Ytiofkhjpknfkgaa
/- Operations: whether they are the same, and whether they are few and small: plain words. -/
namespace Go.Proofs.Ytiofkhjpknfkgaa
namespace Tm
set_option linter.unusedVariables false
def sameO (a b : O) : Bool := (a.copy == b.copy) && (decide (a.pos = b.pos) && (decide (a.n = b.n) && (a.data == b.data)))
def sameK : List O → List O → Bool
  | x :: s, y :: t => if sameO x y then sameK s t else false
  | _, _ => true
def same (a b : List O) : Bool := if a.length = b.length then sameK a b else false
theorem sameO_refl (a : O) : sameO a a = true := by simp [sameO]
theorem sameK_refl : ∀ l : List O, sameK l l = true
  | [] => rfl
  | x :: l => by unfold sameK; rw [if_pos (sameO_refl x)]; exact sameK_refl l
theorem same_refl (l : List O) : same l l = true := by unfold same; rw [if_pos rfl]; exact sameK_refl l
theorem sameK_nil (l m : List O) (k : Nat) (h : l.length ≤ k) : sameK (l.drop k) (m.drop k) = true := by rw [List.drop_of_length_le h]; rfl
def at_ (l : List O) (k : Nat) : O := l.getD k ⟨false, 0, 0, []⟩
theorem drop_at (l : List O) (k : Nat) (h : k < l.length) : l.drop k = at_ l k :: l.drop (k + 1) := by
  rw [List.drop_eq_getElem_cons h]
  simp [at_, List.getD, h]
theorem sameK_step (l m : List O) (k : Nat) (h : k < l.length) (h2 : k < m.length) : sameK (l.drop k) (m.drop k) = if sameO (at_ l k) (at_ m k) then sameK (l.drop (k + 1)) (m.drop (k + 1)) else false := by
  rw [drop_at l k h, drop_at m k h2]
  rfl
def lightK (size : Nat) : List O → Nat → Bool
  | [], _ => true
  | x :: t, n => if size < n + min x.data.length (size + 1) then false else if 1099511627776 < x.n then false else if x.n < -1099511627776 then false else lightK size t (n + min x.data.length (size + 1))
def light (l : List O) (most size : Nat) : Bool := if most < l.length then false else lightK size l 0
def sumD : List O → Nat
  | [] => 0
  | x :: t => x.data.length + sumD t
theorem lightK_sum (size : Nat) : ∀ (l : List O) (n : Nat), n ≤ size → lightK size l n = true → n + sumD l ≤ size ∧ ∀ x ∈ l, -1099511627776 ≤ x.n ∧ x.n ≤ 1099511627776 ∧ x.data.length ≤ size
  | [], n, h0, h => ⟨by simpa [sumD] using h0, by simp⟩
  | x :: t, n, h0, h => by
    unfold lightK at h
    split at h
    · cases h
    rename_i h1
    split at h
    · cases h
    rename_i h2
    split at h
    · cases h
    rename_i h3
    obtain ⟨a1, a2⟩ := lightK_sum size t _ (by omega) h
    refine ⟨by unfold sumD; omega, fun y hy => ?_⟩
    rcases List.mem_cons.1 hy with rfl | hy
    · exact ⟨by omega, by omega, by omega⟩
    · exact a2 y hy
theorem light_facts {l : List O} {most size : Nat} (h : light l most size = true) : l.length ≤ most ∧ sumD l ≤ size ∧ ∀ x ∈ l, -1099511627776 ≤ x.n ∧ x.n ≤ 1099511627776 ∧ x.data.length ≤ size := by
  unfold light at h
  split at h
  · cases h
  · have := lightK_sum size l 0 (Nat.zero_le _) h
    exact ⟨by omega, by omega, this.2⟩
theorem lightK_step (size : Nat) (l : List O) (k n : Nat) (h : k < l.length) : lightK size (l.drop k) n =
    if size < n + min (at_ l k).data.length (size + 1) then false else if 1099511627776 < (at_ l k).n then false else if (at_ l k).n < -1099511627776 then false else lightK size (l.drop (k + 1)) (n + min (at_ l k).data.length (size + 1)) := by
  rw [drop_at l k h]
  rfl
theorem lightK_end (size : Nat) (l : List O) (k n : Nat) (h : l.length ≤ k) : lightK size (l.drop k) n = true := by rw [List.drop_of_length_le h]; rfl
theorem sumD_take (l : List O) (k : Nat) : sumD (l.take k) ≤ sumD l := by
  induction l generalizing k with
  | nil => simp [sumD]
  | cons x l ih =>
    cases k with
    | zero => simp [sumD]
    | succ k => have := ih k; simp only [List.take_succ_cons, sumD]; omega
theorem mem_at (l : List O) (k : Nat) (h : k < l.length) : at_ l k ∈ l := by
  unfold at_
  rw [List.getD_eq_getElem?_getD, List.getElem?_eq_getElem h]
  exact List.getElem_mem h
end Tm
end Go.Proofs.Ytiofkhjpknfkgaa
/- Whether operations may be, to the program. -/
namespace Go.Proofs.Ytiofkhjpknfkgaa
namespace Dm
open Tm
theorem check_long {l : List O} {old : Int} (h : 4096 < l.length) : check l old = 5 := if_pos h
theorem check_form {l : List O} {old : Int} (h : l.length ≤ 4096) {x : O} (hx : x ∈ l) (hm : may x old = false) : check l old = 4 := by
  unfold check
  rw [if_neg (by omega), if_pos]
  exact List.all_eq_false.2 ⟨x, hx, by rw [hm]; simp⟩
theorem check_room {l : List O} {old : Int} (h : l.length ≤ 4096) (hm : ∀ x ∈ l, may x old = true) : check l old = if room l 65536 = false then 5 else 0 := by
  unfold check
  rw [if_neg (by omega), if_neg (by rw [List.all_eq_true.2 hm]; simp)]
theorem room_at (l : List O) (k : Nat) (r : Int) (h : k < l.length) : room (l.drop k) r = if r - makes (at_ l k) < 0 then false else room (l.drop (k + 1)) (r - makes (at_ l k)) := by
  rw [drop_at l k h]
  rfl
theorem room_end (l : List O) (k : Nat) (r : Int) (h : l.length ≤ k) : room (l.drop k) r = true := by rw [List.drop_of_length_le h]; rfl
theorem check_ok {l : List O} {old : Int} (h : check l old = 0) : l.length ≤ 4096 ∧ (∀ x ∈ l, may x old = true) ∧ room l 65536 = true := by
  unfold check at h
  split at h
  · omega
  · split at h
    · omega
    · rename_i h2
      split at h
      · omega
      · rename_i h3
        exact ⟨by omega, List.all_eq_true.1 (by simpa using h2), by simpa using h3⟩
end Dm
namespace Dl
open Go.RowKit Ba Tm Dm Os_
set_option linter.unusedVariables false
theorem ops_at (L : List Ow) (k : Nat) (h : k < L.length) : at_ (ops L) k = (oat L k).1 := by simp [at_, ops, oat, List.getD, h]
theorem op_cells {w : World} {g : Nat} {t : TypeId} {c : Bool} {p n : Int} {A : Option Addr} {m k : Nat} (h : Blk w g t #[.bool c, .int .i64 p, .int .i64 n, .slice A m k]) :
    w.cell? ⟨g, 0, none⟩ = some (.bool c) ∧ w.cell? ⟨g, 1, none⟩ = some (.int .i64 p) ∧ w.cell? ⟨g, 2, none⟩ = some (.int .i64 n) ∧ w.cell? ⟨g, 3, none⟩ = some (.slice A m k) ∧ w.rangeAt g 0 [.bool c, .int .i64 p, .int .i64 n, .slice A m k] := by
  refine ⟨by rw [Blk.cell h]; rfl, by rw [Blk.cell h]; rfl, by rw [Blk.cell h]; rfl, by rw [Blk.cell h]; rfl, fun j v hv => ?_⟩
  rw [Blk.cell h, Nat.zero_add]
  simpa using hv
/-- one operation of a row, opened -/
theorem ReadO.op {w : World} {B : Nat} {A : Option Addr} {L : List Ow} (h : ReadO w B A L) {k : Nat} (hk : k < L.length) : ∃ b o c p n d D e, A = some ⟨b, o, none⟩ ∧ b < B ∧ oat L k = (⟨c, p, n, d⟩, D, e) ∧ w.rangeAt b (o + k * 4) [.bool c, .int .i64 p, .int .i64 n, .slice D d.length e] ∧ (-9223372036854775808 ≤ p ∧ p ≤ 9223372036854775807) ∧ (-9223372036854775808 ≤ n ∧ n ≤ 9223372036854775807) ∧ d.length ≤ e ∧ e ≤ 9223372036854775807 ∧ ReadB w B D d := by
  obtain ⟨b, o, e, hb, hc⟩ := h.1.at_ (oat_get hk)
  have hw := h.2 _ (oat_mem hk)
  generalize oat L k = x at hc hw ⊢
  obtain ⟨⟨c, p, n, d⟩, D, e2⟩ := x
  exact ⟨b, o, _, _, _, _, _, _, e, hb, rfl, hc, hw⟩
set_option maxRecDepth 100000 in
set_option maxHeartbeats 4000000 in
theorem check_calls (L : List Ow) (A : Option Addr) (n c : Nat) (old : Int) (hn : n = L.length) (hl : n ≤ 9223372036854775807) (ho : -9223372036854775808 ≤ old ∧ old ≤ 9223372036854775807) (w : World) (h : ReadO w w.heap.size A L) :
    Calls Try.prog 12 #[.slice A n c, .int .i64 old] w fun e w' => e = .returned (.int .i64 (check (ops L) old)) ∧ Below w.heap.size w w' := by
  have hol : (ops L).length = n := by rw [ops_len, hn]
  by_cases hlong : 4096 < n
  · have hr : check (ops L) old = 5 := check_long (by omega)
    rw [hr]
    clear hr
    go_enter Try.func12, Try.ntmps12
    go_wp2
    go_ret
    exact ⟨rfl, Below.refl _ _⟩
  · have Hh := Lib.hid h
    have Hol := Lib.hid hol
    have Hn := Lib.hid hn
    clear h hol hn
    go_enter Try.func12, Try.ntmps12
    go_wp2_with fail
    go_loopg [15] n (fun q v15 wr => ∃ k : Nat, k ≤ n ∧ q = n - k ∧ v15 = .int .i64 (k : Int) ∧ (∀ j, j < k → may (at_ (ops L) j) old = true) ∧ Below w.heap.size w wr)
    case atStart => exact ⟨0, by omega, rfl, rfl, by omega, Below.refl _ _⟩
    case round =>
      obtain ⟨k, hk, hq, rfl, hall, hb⟩ := hrel
      have Hq := Lib.hid hq
      have Hall := Lib.hid hall
      have HB := Lib.hid hb
      clear hq hall hb
      by_cases hkn : k < n
      · have hkl : k < L.length := by rw [← Hn.out]; exact hkn
        obtain ⟨b, o, x1, x2, x3, x4, D, e, rfl, hbB, hx, hc, w1, w2, w3, w4, w5⟩ := ReadO.op Hh.out hkl
        have hat := ops_at L k hkl
        rw [hx] at hat
        have HC : Hid (wr.rangeAt b (o + k * 4) [.bool x1, .int .i64 x2, .int .i64 x3, .slice D x4.length e]) := Lib.hid fun jj v hv => (HB.out.cell (p := ⟨b, o + k * 4 + jj, none⟩) hbB).trans (hc jj v hv)
        have hmay := fun w => may_calls x1 x2 x3 D x4.length e old w1 w2 ho (by omega) w
        have hmv : may (at_ (ops L) k) old = mayv x1 x2 x3 x4.length old := by rw [hat]; rfl
        have Hmv := Lib.hid hmv
        have Hm := Lib.hid hmay
        clear hx hc w5 hat hmay hmv
        go_wp2_with (refine wpList_load_mid rfl 54 (.tmp 17) rfl b (o + k * 4) rfl [.bool x1, .int .i64 x2, .int .i64 x3, .slice D x4.length e] _ HC.out Try.underlying54 rfl (by kernel_rfl) ?_)
        refine (Hm.out _).mono ?_
        rintro e1 w1' ⟨rfl, hb1⟩
        have HB1 := Lib.hid (HB.out.trans (((Below.refl _ _).alloc (Nat.le_refl _) _).trans (hb1.mono (by simp)) |>.mono HB.out.size))
        clear hb1 Hm HC
        by_cases hv : mayv x1 x2 x3 x4.length old = true
        · rw [hv]
          have Hv := Lib.hid hv
          clear hv
          go_wp2_with fail
          go_roundg (n - (k + 1))
          case rel => exact ⟨k + 1, by omega, rfl, rfl, fun j hj => by
            rcases Nat.lt_or_ge j k with h1 | h1
            · exact Hall.out j h1
            · rw [show j = k by omega, Hmv.out, Hv.out], HB1.out⟩
          case measure => have := Hq.out; omega
        · have hv2 : mayv x1 x2 x3 x4.length old = false := by simpa using hv
          have hr : check (ops L) old = 4 := check_form (by rw [Hol.out]; omega) (mem_at _ k (by rw [Hol.out]; exact hkn)) (by rw [Hmv.out, hv2])
          rw [hv2]
          have HR := Lib.hid hr
          clear hv hv2 hr
          go_wp2
          go_ret
          exact ⟨by rw [HR.out]; rfl, HB1.out⟩
      · have hke : k = n := by omega
        subst hke
        have hmm : ∀ x ∈ ops L, may x old = true := fun x hx => by
          obtain ⟨j, hj, e⟩ := List.getElem_of_mem hx
          have := Hall.out j (by rw [← Hol.out]; exact hj)
          rw [at_, List.getD_eq_getElem?_getD, List.getElem?_eq_getElem hj] at this
          rw [← e]
          exact this
        have hr := check_room (by rw [Hol.out]; omega) hmm
        have HR := Lib.hid hr
        have Hmm := Lib.hid hmm
        clear hr hkn hmm Hq Hall
        go_wp2_with fail
        go_loopg [7, 26] k (fun q v7 v26 wr => ∃ (j : Nat) (r : Int), j ≤ k ∧ q = k - j ∧ v26 = .int .i64 (j : Int) ∧ v7 = .int .i64 r ∧ 0 ≤ r ∧ r ≤ 65536 ∧ room ((ops L).drop j) r = room (ops L) 65536 ∧ Below w.heap.size w wr)
        case atStart => exact ⟨0, 65536, by omega, rfl, rfl, rfl, by omega, by omega, rfl, HB.out⟩
        case round =>
          obtain ⟨j, r, hj, hq, rfl, rfl, hr0, hr1, hrm, hb⟩ := hrel
          have Hq := Lib.hid hq
          have Hrm := Lib.hid hrm
          have HB := Lib.hid hb
          clear hq hrm hb
          by_cases hjk : j < k
          · have hkl : j < L.length := by rw [← Hn.out]; exact hjk
            obtain ⟨b, o, x1, x2, x3, x4, D, e, rfl, hbB, hx, hc, w1, w2, w3, w4, w5⟩ := ReadO.op Hh.out hkl
            have hat := ops_at L j hkl
            rw [hx] at hat
            have HC : Hid (wr.rangeAt b (o + j * 4) [.bool x1, .int .i64 x2, .int .i64 x3, .slice D x4.length e]) := Lib.hid fun jj v hv => (HB.out.cell (p := ⟨b, o + j * 4 + jj, none⟩) hbB).trans (hc jj v hv)
            have hmk := fun w => makes_calls x1 x2 x3 D x4.length e w
            have hmv : makes (at_ (ops L) j) = if x1 then x3 else (x4.length : Int) := by rw [hat]; rfl
            have hra := room_at (ops L) j r (by rw [Hol.out]; exact hjk)
            have hm1 := may_makes (Hmm.out _ (mem_at (ops L) j (by rw [Hol.out]; exact hjk)))
            have hm2 : makes (at_ (ops L) j) ≤ 9223372036854775807 := by rw [hmv]; split <;> omega
            rw [← hmv] at hmk
            generalize makes (at_ (ops L) j) = m at *
            have Hra := Lib.hid hra
            have Hmk := Lib.hid hmk
            clear hx hc w5 hat hmk hmv hra
            go_wp2_with (refine wpList_load_mid rfl 54 (.tmp 28) rfl b (o + j * 4) rfl [.bool x1, .int .i64 x2, .int .i64 x3, .slice D x4.length e] _ HC.out Try.underlying54 rfl (by kernel_rfl) ?_)
            refine (Hmk.out _).mono ?_
            rintro e1 w1' ⟨rfl, hb1⟩
            have HB1 := Lib.hid (HB.out.trans (((Below.refl _ _).alloc (Nat.le_refl _) _).trans (hb1.mono (by simp)) |>.mono HB.out.size))
            clear hb1 Hmk HC
            by_cases hv : r - m < 0
            · have h0 : room (ops L) 65536 = false := by rw [← Hrm.out, Hra.out, if_pos hv]
              have H0 := Lib.hid h0
              clear h0
              go_wp2
              go_ret
              exact ⟨by rw [HR.out, if_pos H0.out]; rfl, HB1.out⟩
            · have h0 : room ((ops L).drop (j + 1)) (r - m) = room (ops L) 65536 := by rw [← Hrm.out, Hra.out, if_neg hv]
              have H0 := Lib.hid h0
              clear h0
              go_wp2_with fail
              go_roundg (k - (j + 1))
              case rel => exact ⟨j + 1, r - m, by omega, rfl, rfl, by go_num, by omega, by omega, H0.out, HB1.out⟩
              case measure => have := Hq.out; omega
          · have hje : j = k := by omega
            have h0 : room (ops L) 65536 = true := by rw [← Hrm.out]; exact room_end _ _ _ (by rw [Hol.out]; omega)
            have H0 := Lib.hid h0
            clear h0
            go_wp2
            go_ret
            exact ⟨by rw [HR.out, if_neg (by rw [H0.out]; simp)]; rfl, HB.out⟩
end Dl
end Go.Proofs.Ytiofkhjpknfkgaa
/- What the program tells of a number of the wire: its width, and what bytes begin with. -/
namespace Go.Proofs.Ytiofkhjpknfkgaa
namespace Vi
open Go.RowKit Ba Vm
set_option linter.unusedVariables false

theorem widths_calls (w : World) : Calls Try.prog 55 #[] w fun e w' => e = .returned (.agg #[.int .i64 1, .int .i64 2, .int .i64 4, .int .i64 8]) ∧ Below w.heap.size w w' := by
  go_enter Try.func55, Try.ntmps55
  go_wp2
  exact bodyPost_ret (v := .agg #[.int .i64 1, .int .i64 2, .int .i64 4, .int .i64 8]) (by simp [results, Try.results55, go_sem]) rfl ⟨rfl, (Below.refl _ _).alloc (Nat.le_refl _) _⟩

theorem ret_bool {a b : Bool} (h : a = b) : Ending.returned (.bool a) = .returned (.bool b) := by rw [h]
theorem ret_int {k : IntKind} {a b : Int} (h : a = b) : Ending.returned (.int k a) = .returned (.int k b) := by rw [h]

theorem fits_yes (n : Int) (k : Nat) (hn : 0 ≤ n) (hk : W4 k) (h : n < lim k) (w : World) : Calls Try.prog 56 #[.int .i64 n, .int .i64 k] w fun e w' => e = .returned (.bool true) ∧ w = w' := by
  rcases hk with rfl | rfl | rfl | rfl
  all_goals
    simp only [lim] at h
    have hn2 : n ≤ 9223372036854775807 := by omega
    go_enter Try.func56, Try.ntmps56
    go_wp2
    go_ret
    exact ⟨ret_bool (by first | (simp; done) | (simp; omega)), rfl⟩
theorem fits_no (n : Int) (k : Nat) (hn2 : n ≤ 9223372036854775807) (hk : W4 k) (h : n < 0 ∨ lim k ≤ n) (w : World) : Calls Try.prog 56 #[.int .i64 n, .int .i64 k] w fun e w' => e = .returned (.bool false) ∧ w = w' := by
  rcases hk with rfl | rfl | rfl | rfl
  all_goals
    simp only [lim] at h
    rcases h with h | h
    · go_enter Try.func56, Try.ntmps56
      go_wp2
      go_ret
      exact ⟨rfl, rfl⟩
    · go_enter Try.func56, Try.ntmps56
      go_wp2
      go_ret
      exact ⟨ret_bool (by simp; omega), rfl⟩

set_option maxRecDepth 100000 in
set_option maxHeartbeats 400000 in
theorem len_calls (n : Int) (hn : n ≤ 9223372036854775807) (w : World) : Calls Try.prog 51 #[.int .i64 n] w fun e w' => e = .returned (.int .i64 (len n : Int)) ∧ Below w.heap.size w w' := by
  go_enter Try.func51, Try.ntmps51
  go_wp2_with (go_at_call 55; refine (widths_calls _).mono ?_; rintro e w1 ⟨rfl, hb1⟩)
  go_loop [6] (fun i => ∃ k : Nat, k ≤ 4 ∧ i = .int .i64 k ∧ (0 < k → n < 0 ∨ lim (2 ^ (k - 1)) ≤ n)) (fun i => 4 - (intOf i).toNat)
  case atStart => exact ⟨0, by omega, rfl, by omega⟩
  case round =>
    obtain ⟨k, hk, rfl, hp⟩ := hrel
    by_cases h4 : k = 4
    · subst h4
      go_wp2
      go_ret
      exact ⟨ret_int (by rw [len_none n (by have := hp (by omega); simpa [lim] using this)]; rfl), hb1⟩
    · have hw : W4 (2 ^ k) := by
        unfold W4
        have : k = 0 ∨ k = 1 ∨ k = 2 ∨ k = 3 := by omega
        rcases this with rfl | rfl | rfl | rfl <;> simp
      have hx : ∀ w : World, (Instr.index 86 (.agg #[.int .i64 1, .int .i64 2, .int .i64 4, .int .i64 8]) (.int .i64 (k : Int))).run Try.prog w = .ok (.int .i64 ((2 ^ k : Nat) : Int)) w := by
        have : k = 0 ∨ k = 1 ∨ k = 2 ∨ k = 3 := by omega
        rcases this with rfl | rfl | rfl | rfl <;> exact fun _ => by kernel_rfl
      by_cases hc : 0 ≤ n ∧ n < lim (2 ^ k)
      · go_wp2_with (go_at_call 56; refine (fits_yes n (2 ^ k) hc.1 hw hc.2 _).mono ?_; rintro e w' ⟨rfl, rfl⟩)
        go_ret
        exact ⟨ret_int (by rw [len_pow n k (by omega) hc.1 hc.2 hp]; rfl), hb1⟩
      · go_wp2_with (go_at_call 56; refine (fits_no n (2 ^ k) hn hw (by omega) _).mono ?_; rintro e w' ⟨rfl, rfl⟩)
        go_round
        case rel => exact ⟨k + 1, by omega, by go_num, fun _ => by simp; omega⟩
        case measure => simp [intOf]; omega

set_option maxRecDepth 100000 in
set_option maxHeartbeats 400000 in
theorem tell_calls (d : Int) (w : World) : Calls Try.prog 57 #[.int .i64 d] w fun e w' => e = .returned (.int .i64 (tell d)) ∧ Below w.heap.size w w' := by
  go_enter Try.func57, Try.ntmps57
  go_wp2_with (go_at_call 55; refine (widths_calls _).mono ?_; rintro e w1 ⟨rfl, hb1⟩)
  go_loop [6] (fun i => ∃ k : Nat, k ≤ 4 ∧ i = .int .i64 k ∧ (∀ j : Nat, j < k → d ≠ ((2 ^ j : Nat) : Int))) (fun i => 4 - (intOf i).toNat)
  case atStart => exact ⟨0, by omega, rfl, by omega⟩
  case round =>
    obtain ⟨k, hk, rfl, hp⟩ := hrel
    by_cases h4 : k = 4
    · subst h4
      have ht := Lib.hid (tell_none d hp)
      clear hp
      go_wp2
      go_ret
      exact ⟨ret_int (by rw [ht.out]), hb1⟩
    · have hx : ∀ w : World, (Instr.index 86 (.agg #[.int .i64 1, .int .i64 2, .int .i64 4, .int .i64 8]) (.int .i64 (k : Int))).run Try.prog w = .ok (.int .i64 ((2 ^ k : Nat) : Int)) w := by
        have : k = 0 ∨ k = 1 ∨ k = 2 ∨ k = 3 := by omega
        rcases this with rfl | rfl | rfl | rfl <;> exact fun _ => by kernel_rfl
      have Hp := Lib.hid hp
      clear hp
      by_cases hc : d = ((2 ^ k : Nat) : Int)
      · subst hc
        go_wp2
        go_ret
        exact ⟨ret_int (by have := tell_pow k (by omega); simpa using this.symm), hb1⟩
      · obtain ⟨x, hX⟩ : ∃ x : Int, x = ((2 ^ k : Nat) : Int) := ⟨_, rfl⟩
        rw [← hX] at hc hx
        have hcb : (x == d) = false := by rw [beq_eq_false_iff_ne]; exact fun h => hc h.symm
        have HX := Lib.hid hX
        clear hX
        go_wp2
        have hk1 : k + 1 ≤ 4 := by clear hcb; omega
        refine ⟨⟨k + 1, hk1, by go_num, fun j hj => ?_⟩, by simp [intOf]; clear hcb; omega⟩
        rcases Nat.lt_or_ge j k with h | h
        · exact Hp.out j h
        · have : j = k := by clear hcb; omega
          subst this; rw [← HX.out]; exact hc

set_option maxHeartbeats 400000 in
theorem get_calls (l : List UInt8) (A : Option Addr) (c B : Nat) (w : World) (h : ReadB w B A l) (hlc : l.length ≤ c) (hcm : c ≤ 9223372036854775807) :
    Calls Try.prog 53 #[.slice A l.length c] w fun e w' => e = .returned (.tuple #[.int .i64 (get l).1, .int .i64 (get l).2.1, .int .i64 (get l).2.2]) ∧ w = w' := by
  rcases l with _ | ⟨b, r⟩
  · go_enter Try.func53, Try.ntmps53
    go_wp2
    go_ret3
    exact ⟨rfl, rfl⟩
  · obtain ⟨ab, ao, rfl, hb, hc0⟩ := h.head (by simp)
    simp only [List.getD_cons_zero] at hc0
    have hb8 := u8_lt b
    have hn : r.length + 1 ≤ c := hlc
    have hq : (b.toNat : Int) / 64 = 0 ∨ (b.toNat : Int) / 64 = 1 ∨ (b.toNat : Int) / 64 = 2 ∨ (b.toNat : Int) / 64 = 3 := by omega
    have hw : w8 b = 2 ^ ((b.toNat : Int) / 64).toNat := by unfold w8; congr 1
    rcases hq with hq | hq | hq | hq
    all_goals
      rw [hq] at hw
      simp at hw
      by_cases hlt : (b :: r).length < w8 b
      · have hg := Lib.hid (get_lt b r hlt)
        rw [hw, List.length_cons] at hlt
        clear hw
        go_enter Try.func53, Try.ntmps53
        go_wp2
        all_goals
          go_ret3
          exact ⟨by rw [hg.out]; rfl, rfl⟩
      · have hg := Lib.hid (get_ge b r hlt)
        rw [hw, List.length_cons] at hlt
        go_enter Try.func53, Try.ntmps53
        by_cases hc1 : c = 1
        all_goals try (exfalso; omega)
        all_goals
          go_wp2
          go_loop [2, 29] (fun n i => ∃ k : Nat, k + 1 ≤ w8 b ∧ i = .int .i64 k ∧ n = .int .i64 (val (b.toNat % 64) (r.take k))) (fun _ i => 8 - (intOf i).toNat)
          case atStart => exact ⟨0, by omega, rfl, by simp [val]⟩
          case round =>
            obtain ⟨k, hk, rfl, rfl⟩ := hrel
            by_cases hkw : k + 1 < w8 b
            · have hce : w.cell? ⟨ab, ao + 1 + k, none⟩ = some (.int .u8 ((r.getD k 0).toNat : Int)) := by
                obtain ⟨_, _, e1, _, h2⟩ := h (by simp)
                injection e1 with e1
                injection e1 with e1 e2
                subst e1 e2
                have := h2 (1 + k) (by simp; omega)
                rw [← Nat.add_assoc, Nat.add_comm 1 k] at this
                exact this
              have hv := val_small b r k (by omega)
              have hvs := Lib.hid (val_snoc (b.toNat % 64) r k (by omega))
              have hc8 := u8_lt (r.getD k 0)
              generalize val (b.toNat % 64) (r.take k) = V at hv hvs
              generalize (r.getD k 0).toNat = Cc at hce hvs hc8
              go_wp2
              all_goals
                refine ⟨⟨k + 1, by omega, by go_num, ?_⟩, by simp [intOf]; omega⟩
                rw [hvs.out, or_byte V Cc hv hc8.1]
            · go_wp2
              all_goals
                go_ret3
                have hk1 : k = w8 b - 1 := by omega
                subst hk1
                exact ⟨by rw [hg.out, hw]; rfl, rfl⟩

end Vi
end Go.Proofs.Ytiofkhjpknfkgaa
