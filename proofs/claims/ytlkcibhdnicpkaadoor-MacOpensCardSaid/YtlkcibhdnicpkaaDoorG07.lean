/- Numbers and texts one behind the other, in plain lists; a reader of them. -/
import Derived.Test.YtlkcibhdnicpkaaDoorG01
import Derived.Test.YtlkcibhdnicpkaaDoorG02
import Derived.Test.YtlkcibhdnicpkaaDoorG03
import Derived.Test.YtlkcibhdnicpkaaDoorG04
import Derived.Test.YtlkcibhdnicpkaaDoorG05
import Derived.Test.YtlkcibhdnicpkaaDoorG06
import Derived.StillTailTactics
import Derived.Deep.RegionWith
import Derived.BigQuiet
namespace Go.Proofs.YtlkcibhdnicpkaaDoor
namespace Fm
open Vm
def num (n : Int) : List UInt8 := (put n).1
def text (r : List UInt8) : List UInt8 := num (r.length : Int) ++ r
/-- a reader: what is left, and the first error -/
structure Rd where
  l : List UInt8
  e : Int
def Rd.num (r : Rd) (most : Int) : Rd × Nat :=
  if r.e ≠ 0 then (r, 0) else if (shortest r.l).2.2 ≠ 0 then (⟨r.l, (shortest r.l).2.2⟩, 0) else if most < ((shortest r.l).1 : Int) then (⟨r.l, 5⟩, 0) else (⟨r.l.drop (shortest r.l).2.1, 0⟩, (shortest r.l).1)
def Rd.raw (r : Rd) (n : Int) : Rd × List UInt8 :=
  if r.e ≠ 0 then (r, []) else if n < 0 then (⟨r.l, 2⟩, []) else if (r.l.length : Int) < n then (⟨r.l, 3⟩, []) else (⟨r.l.drop n.toNat, 0⟩, r.l.take n.toNat)
def Rd.text (r : Rd) (most : Int) : Rd × List UInt8 :=
  if r.e ≠ 0 then (r, []) else if (r.num most).1.e ≠ 0 then (⟨r.l, (r.num most).1.e⟩, []) else if (((r.num most).1.raw (r.num most).2).1).e ≠ 0 then (⟨r.l, (((r.num most).1.raw (r.num most).2).1).e⟩, []) else (r.num most).1.raw (r.num most).2
def Rd.byte (r : Rd) : Rd × UInt8 := ((r.raw 1).1, (r.raw 1).2.getD 0 0)
def Rd.done (r : Rd) : Int := if r.e ≠ 0 then r.e else if 0 < r.l.length then 4 else 0

theorem enc_len8 (n w : Nat) (hw : W4 w) : (enc n w).length ≤ 8 := by rw [enc_length]; rcases hw with rfl | rfl | rfl | rfl <;> omega
theorem num_len (n : Int) : (num n).length ≤ 8 := by
  unfold num put
  split
  · simp
  · rename_i h
    rcases len_w4 n with h' | ⟨hw, _, _⟩
    · exact absurd h' h
    · exact enc_len8 _ _ hw
theorem num_none (n : Int) (h : (put n).2 ≠ 0) : num n = [] := by
  unfold num
  unfold put at h ⊢
  split
  · rfl
  · rename_i h2; rw [if_neg h2] at h; simp at h
theorem put_snd (n : Int) : (put n).2 = 0 ∨ (put n).2 = 13 := by unfold put; split <;> simp
theorem shortest_bound (l : List UInt8) : (shortest l).1 < 4611686018427387904 ∧ (shortest l).2.1 ≤ l.length ∧ ((shortest l).2.2 = 0 ∨ (shortest l).2.2 = 3 ∨ (shortest l).2.2 = 4) ∧ (shortest l).2.1 ≤ 8 ∧ ((shortest l).2.2 = 0 → 1 ≤ (shortest l).2.1) := by
  have h := get_bound l
  unfold shortest
  split
  · rename_i h0
    refine ⟨by simp, by simp, ?_, by simp, fun h1 => absurd h1 h0⟩
    rcases h.2.2 with h1 | h1
    · exact absurd h1 h0
    · exact .inr (.inl h1)
  · rename_i h0
    have h0 : (get l).2.2 = 0 := by rcases h.2.2 with h1 | h1 <;> omega
    split
    · exact ⟨by simp, by simp, .inr (.inr rfl), by simp, fun h1 => absurd h1 (by simp)⟩
    · have h1 := h.2.1 h0
      refine ⟨h.1, h1.2, .inl h0, ?_, fun _ => ?_⟩ <;> omega
theorem Rd.text_bad (r : Rd) (most : Int) (he : r.e ≠ 0) : r.text most = (r, []) := by unfold Rd.text; rw [if_pos he]
/-- a text, by what is looked at -/
theorem Rd.text_eq (r : Rd) (most : Int) (n u : Nat) (x : Int) (he : r.e = 0) (hs : shortest r.l = (n, u, x)) :
    r.text most = if x ≠ 0 then (⟨r.l, x⟩, []) else if most < (n : Int) then (⟨r.l, 5⟩, []) else if ((r.l.drop u).length : Int) < (n : Int) then (⟨r.l, 3⟩, []) else (⟨(r.l.drop u).drop n, 0⟩, (r.l.drop u).take n) := by
  have hr : r.num most = if x ≠ 0 then (⟨r.l, x⟩, 0) else if most < (n : Int) then (⟨r.l, 5⟩, 0) else (⟨r.l.drop u, 0⟩, n) := by unfold Rd.num; rw [hs, if_neg (by simpa using he)]
  unfold Rd.text
  rw [if_neg (by simpa using he), hr]
  by_cases hx : x = 0
  · subst hx
    simp only [ne_eq, not_true_eq_false, if_false]
    by_cases hm : most < (n : Int)
    · simp only [if_pos hm]; simp
    · simp only [if_neg hm]
      simp only [Rd.raw, ne_eq, not_true_eq_false, if_false]
      rw [if_neg (show ¬ ((n : Nat) : Int) < 0 by omega)]
      by_cases hc : ((r.l.drop u).length : Int) < (n : Int)
      · simp only [if_pos hc]; simp
      · simp only [if_neg hc]; simp
  · rw [if_pos hx, if_pos hx, if_pos hx]
theorem Rd.raw1_cases (r : Rd) : (∃ b, r.raw 1 = (⟨r.l.drop 1, 0⟩, [b])) ∨ (∃ x, x ≠ 0 ∧ r.raw 1 = (⟨r.l, x⟩, [])) := by
  unfold Rd.raw
  split
  · rename_i h; exact .inr ⟨r.e, h, rfl⟩
  · rw [if_neg (by omega)]
    split
    · exact .inr ⟨3, by omega, rfl⟩
    · rename_i h
      left
      rcases hl : r.l with _ | ⟨b, t⟩
      · rw [hl] at h; simp at h
      · exact ⟨b, by simp⟩
theorem num_some (n : Nat) (h : n < 4611686018427387904) : num (n : Int) = enc n (len n) ∧ W4 (len n) ∧ (n : Int) < lim (len n) := by
  rcases len_w4 (n : Int) with h0 | ⟨hw, h0, hl⟩
  · rw [len_zero] at h0; omega
  · refine ⟨?_, hw, hl⟩
    unfold num put
    rw [if_neg (by rcases hw with h | h | h | h <;> omega)]
    simp
theorem shortest_num (n : Nat) (h : n < 4611686018427387904) (x : List UInt8) : shortest (num (n : Int) ++ x) = (n, (num (n : Int)).length, 0) := by
  obtain ⟨h1, h2, h3⟩ := num_some n h
  have hg := get_enc n (len n) h2 h3 x
  rw [h1, enc_length]
  unfold shortest
  rw [hg]
  simp
theorem shortest_cut (n : Nat) (h : n < 4611686018427387904) (k : Nat) (hk : k < (num (n : Int)).length) : shortest ((num (n : Int)).take k) = (0, 0, 3) := by
  obtain ⟨h1, h2, h3⟩ := num_some n h
  rw [h1] at hk ⊢
  rw [enc_length] at hk
  have hg := get_cut n (len n) k h2 h3 hk
  unfold shortest
  rw [hg]
  simp
theorem num_pos (n : Nat) (h : n < 4611686018427387904) : 1 ≤ (num (n : Int)).length := by
  obtain ⟨h1, h2, h3⟩ := num_some n h
  rw [h1, enc_length]
  rcases h2 with h | h | h | h <;> omega
theorem tx_of (L : List UInt8) (most : Int) (n u : Nat) (x : Int) (hs : shortest L = (n, u, x)) :
    (Rd.mk L 0).text most = if x ≠ 0 then (⟨L, x⟩, []) else if most < (n : Int) then (⟨L, 5⟩, []) else if ((L.drop u).length : Int) < (n : Int) then (⟨L, 3⟩, []) else (⟨(L.drop u).drop n, 0⟩, (L.drop u).take n) := Rd.text_eq ⟨L, 0⟩ most n u x rfl hs
theorem tx_cut (r : List UInt8) (k most : Nat) (hr : r.length ≤ most) (hr2 : r.length < 4611686018427387904) (hk : k < (text r).length) : (Rd.mk ((text r).take k) 0).text (most : Int) = (⟨(text r).take k, 3⟩, []) := by
  unfold Fm.text at hk ⊢
  rw [List.length_append] at hk
  by_cases hw : k < (num (r.length : Int)).length
  · have hs : shortest ((num (r.length : Int) ++ r).take k) = (0, 0, 3) := by
      rw [List.take_append_of_le_length (by omega)]; exact shortest_cut r.length hr2 k hw
    rw [tx_of _ _ 0 0 3 hs]
    rfl
  · have ht : (num (r.length : Int) ++ r).take k = num (r.length : Int) ++ r.take (k - (num (r.length : Int)).length) := by
      rw [List.take_append, List.take_of_length_le (by omega)]
    have hs := shortest_num r.length hr2 (r.take (k - (num (r.length : Int)).length))
    rw [← ht] at hs
    rw [tx_of _ _ _ _ 0 hs]
    simp only [ne_eq, not_true_eq_false, if_false]
    rw [if_neg (by omega), if_pos]
    simp only [List.length_drop, List.length_take, List.length_append]
    omega
theorem tx_all (r x : List UInt8) (most : Int) (hr : (r.length : Int) ≤ most) (hr2 : r.length < 4611686018427387904) : (Rd.mk (text r ++ x) 0).text most = (⟨x, 0⟩, r) := by
  unfold Fm.text
  rw [List.append_assoc]
  have hs := shortest_num r.length hr2 (r ++ x)
  rw [tx_of _ _ _ _ 0 hs]
  simp only [ne_eq, not_true_eq_false, if_false]
  have hd : List.drop (num (r.length : Int)).length (num (r.length : Int) ++ (r ++ x)) = r ++ x := List.drop_left
  rw [hd, if_neg (by omega), if_neg (by simp only [List.length_append]; omega)]
  simp
theorem nm_all (n : Nat) (x : List UInt8) (most : Int) (hn : (n : Int) ≤ most) (h : n < 4611686018427387904) : (Rd.mk (Fm.num (n : Int) ++ x) 0).num most = (⟨x, 0⟩, n) := by
  have hs := shortest_num n h x
  unfold Rd.num
  rw [hs]
  simp only [ne_eq, not_true_eq_false, if_false]
  rw [if_neg (by omega)]
  simp
theorem nm_more (n : Nat) (x : List UInt8) (most : Int) (hn : most < (n : Int)) (h : n < 4611686018427387904) : (Rd.mk (Fm.num (n : Int) ++ x) 0).num most = (⟨Fm.num (n : Int) ++ x, 5⟩, 0) := by
  have hs := shortest_num n h x
  unfold Rd.num
  rw [hs]
  simp only [ne_eq, not_true_eq_false, if_false]
  rw [if_pos hn]
theorem tx_more (r x : List UInt8) (most : Int) (hr : most < (r.length : Int)) (hr2 : r.length < 4611686018427387904) : (Rd.mk (Fm.text r ++ x) 0).text most = (⟨Fm.text r ++ x, 5⟩, []) := by
  unfold Fm.text
  rw [List.append_assoc]
  have hs := shortest_num r.length hr2 (r ++ x)
  rw [tx_of _ _ _ _ 0 hs]
  simp only [ne_eq, not_true_eq_false, if_false]
  rw [if_pos hr]
end Fm
end Go.Proofs.YtlkcibhdnicpkaaDoor
/- What laying numbers and texts does, of the program. -/
namespace Go.Proofs.YtlkcibhdnicpkaaDoor
namespace Fi
open Go.RowKit Ba Vm Fm Vi
set_option linter.unusedVariables false

set_option maxHeartbeats 400000 in
theorem num_calls (n : Int) (hn : n ≤ 9223372036854775807) (w : World) : Calls Tryd.prog 60 #[.int .i64 n] w
    fun e w' => ∃ v, e = .returned v ∧ OwnB w' w.heap.size 5 v (num n) ∧ Below w.heap.size w w' := by
  have Hn := Lib.hid (num_none n)
  rcases put_snd n with h0 | h0
  · go_enter Tryd.func60, Tryd.ntmps60
    go_wp2_with fail
    refine (put_calls n hn _).mono ?_
    rw [h0]
    rintro e w1 ⟨v1, rfl, ho1, hb1⟩
    go_wp2_with fail
    go_ret
    exact ⟨v1, rfl, ho1, hb1⟩
  · have he : num n = [] := Hn.out (by rw [h0]; simp)
    have He := Lib.hid he
    clear he
    go_enter Tryd.func60, Tryd.ntmps60
    go_wp2_with fail
    refine (put_calls n hn _).mono ?_
    rw [h0]
    rintro e w1 ⟨v1, rfl, ho1, hb1⟩
    go_wp2_with fail
    go_ret
    exact ⟨.slice none 0 0, rfl, by rw [He.out]; exact OwnB.nil, hb1⟩

set_option maxHeartbeats 400000 in
theorem text_calls (r : List UInt8) (hr : r.length ≤ 140737488351232) (w : World) : Calls Tryd.prog 52 #[.string (S r)] w
    fun e w' => ∃ v, e = .returned v ∧ OwnB w' w.heap.size 5 v (text r) ∧ Below w.heap.size w w' := by
  obtain ⟨i0, hi0⟩ := isByte_of info5
  have Hi := Lib.hid hi0
  have hl8 := num_len (r.length : Int)
  clear hi0
  go_enter Tryd.func52, Tryd.ntmps52
  go_wp2_with (first
    | (go_at_call 60; go_must (refine (num_calls _ (by omega) _).mono ?_); rintro e w1 ⟨v1, rfl, ho1, hb1⟩)
    | (at_builtin; go_loud (refine wpList_appS _ rfl (.tmp 5) (.tmp 6) 22 9 rfl w.heap.size 5 i0 Tryd.underlying22 Tryd.underlying9 Hi.out v1 _ rfl ho1 r rfl (by omega) hb1.size ?_); intro v2 w2 hown2 hg2 hbw2))
  go_ret
  exact ⟨v2, rfl, hown2, hb1.trans hbw2⟩

def sumLen : List (List UInt8) → Nat
  | [] => 0
  | p :: ps => p.length + sumLen ps
theorem sumLen_take (ps : List (List UInt8)) (k : Nat) (h : k < ps.length) : sumLen (ps.take (k + 1)) = sumLen (ps.take k) + (ps.getD k []).length := by
  induction ps generalizing k with
  | nil => simp at h
  | cons p ps ih =>
    cases k with
    | zero => simp [sumLen]
    | succ k =>
      have := ih k (by simpa using h)
      simp only [List.take_succ_cons, sumLen, this]
      simp [List.getD]
      omega
theorem sumLen_take_le (ps : List (List UInt8)) (k : Nat) : sumLen (ps.take k) ≤ sumLen ps := by
  induction ps generalizing k with
  | nil => simp
  | cons p ps ih =>
    cases k with
    | zero => simp [sumLen]
    | succ k => have := ih k; simp only [List.take_succ_cons, sumLen]; omega
theorem flatten_len (ps : List (List UInt8)) : ps.flatten.length = sumLen ps := by
  induction ps with
  | nil => rfl
  | cons p ps ih => simp [sumLen, ih]
theorem flatten_take (ps : List (List UInt8)) (k : Nat) (h : k < ps.length) : (ps.take (k + 1)).flatten = (ps.take k).flatten ++ ps.getD k [] := by
  rw [List.take_succ_eq_append_getElem h, List.flatten_append]
  simp [List.getD, h]

end Fi
end Go.Proofs.YtlkcibhdnicpkaaDoor
/- What the reference tells, lays and reads of a number of the wire: the same as the program. -/
namespace Go.Proofs.YtlkcibhdnicpkaaDoor
namespace Vi
open Go.RowKit Ba Vm
set_option linter.unusedVariables false

theorem room_yes (n : Int) (k : Nat) (hn : 0 ≤ n) (hk : W4 k) (h : n < lim k) (w : World) : Calls Tryd.prog 73 #[.int .i64 n, .int .i64 k] w fun e w' => e = .returned (.bool true) ∧ w = w' := by
  rcases hk with rfl | rfl | rfl | rfl
  all_goals
    simp only [lim] at h
    have hn2 : n ≤ 9223372036854775807 := by omega
    go_enter Tryd.func73, Tryd.ntmps73
    go_wp2
    go_ret
    exact ⟨ret_bool (by first | (simp; done) | (simp; omega)), rfl⟩
theorem room_no (n : Int) (k : Nat) (hn2 : n ≤ 9223372036854775807) (hk : W4 k) (h : n < 0 ∨ lim k ≤ n) (w : World) : Calls Tryd.prog 73 #[.int .i64 n, .int .i64 k] w fun e w' => e = .returned (.bool false) ∧ w = w' := by
  rcases hk with rfl | rfl | rfl | rfl
  all_goals
    simp only [lim] at h
    rcases h with h | h
    · go_enter Tryd.func73, Tryd.ntmps73
      go_wp2
      go_ret
      exact ⟨rfl, rfl⟩
    · go_enter Tryd.func73, Tryd.ntmps73
      go_wp2
      go_ret
      exact ⟨ret_bool (by first | (simp; done) | (simp; omega)), rfl⟩

set_option maxHeartbeats 400000 in
theorem rlen_calls (n : Int) (hn : n ≤ 9223372036854775807) (w : World) : Calls Tryd.prog 68 #[.int .i64 n] w fun e w' => e = .returned (.int .i64 (len n : Int)) ∧ w = w' := by
  go_enter Tryd.func68, Tryd.ntmps68
  go_wp2
  go_loop [3] (fun i => ∃ (k : Nat) (x : Int), k ≤ 4 ∧ i = .int .i64 x ∧ Hid (x = ((2 ^ k : Nat) : Int)) ∧ (k ≤ 3 → x ≤ 8) ∧ (k = 4 → x = 16) ∧ 1 ≤ x ∧ x ≤ 16 ∧ (0 < k → n < 0 ∨ lim (2 ^ (k - 1)) ≤ n)) (fun i => 16 - (intOf i).toNat)
  case atStart => exact ⟨0, 1, by omega, rfl, rfl, by omega, by omega, by omega, by omega, by omega⟩
  case round =>
    obtain ⟨k, x, hk, rfl, HX, hx3, hx4, hx1, hx16, hp⟩ := hrel
    by_cases h4 : k = 4
    · have h16 := hx4 h4
      subst h16
      have hz := Lib.hid (len_none n (by have := hp (by omega); rw [h4] at this; simpa [lim] using this))
      clear hx4 hx3 hp
      go_wp2
      go_ret
      exact ⟨ret_int (by rw [hz.out]; rfl), rfl⟩
    · have hx8 := hx3 (by omega)
      clear hx3 hx4
      have hw : W4 (2 ^ k) := by
        unfold W4
        have : k = 0 ∨ k = 1 ∨ k = 2 ∨ k = 3 := by omega
        rcases this with rfl | rfl | rfl | rfl <;> simp
      by_cases hc : 0 ≤ n ∧ n < lim (2 ^ k)
      · have hz := Lib.hid (len_pow n k (by omega) hc.1 hc.2 hp)
        clear hp
        go_wp2_with (go_at_call 73; refine Calls.mono (R := fun e w' => e = .returned (.bool true) ∧ _ = w') (by rw [HX.out]; exact room_yes n (2 ^ k) hc.1 hw hc.2 _) ?_; rintro e w' ⟨rfl, rfl⟩)
        go_ret
        exact ⟨ret_int (by rw [hz.out]; exact HX.out), rfl⟩
      · have hp1 : n < 0 ∨ lim (2 ^ k) ≤ n := by omega
        clear hp
        have Hp1 := Lib.hid hp1
        clear hp1 hc
        go_wp2_with (go_at_call 73; refine Calls.mono (R := fun e w' => e = .returned (.bool false) ∧ _ = w') (by rw [HX.out]; exact room_no n (2 ^ k) hn hw Hp1.out _) ?_; rintro e w' ⟨rfl, rfl⟩)
        all_goals
          refine ⟨⟨k + 1, 2 * x, by omega, by go_num, ?_, ?_, ?_, by omega, by omega, ?_⟩, by simp [intOf]; omega⟩
          · have := HX.out; show 2 * x = _; rw [Nat.pow_succ]; omega
          · intro h3; have h : k = 0 ∨ k = 1 ∨ k = 2 := by omega
            have := HX.out; rcases h with rfl | rfl | rfl <;> simp at this <;> omega
          · intro h3; have h : k = 3 := by omega
            have := HX.out; subst h; simp at this; omega
          · intro _; simpa using Hp1.out

theorem bits_calls (k : Nat) (hk : W4 k) (w : World) : Calls Tryd.prog 74 #[.int .i64 k] w fun e w' => e = .returned (.int .u8 (tag k * 64 : Nat)) ∧ w = w' := by
  rcases hk with rfl | rfl | rfl | rfl
  all_goals
    go_enter Tryd.func74, Tryd.ntmps74
    go_wp2
    go_ret
    exact ⟨rfl, rfl⟩
end Vi
end Go.Proofs.YtlkcibhdnicpkaaDoor
/- What the reference lays of a number of the wire: the same bytes as the program. -/
namespace Go.Proofs.YtlkcibhdnicpkaaDoor
namespace Vi
open Go.RowKit Ba Vm
set_option linter.unusedVariables false

theorem room_reg (N k : Nat) (h : N / 256 ^ k % 256 < 256) : UInt8.ofNat (N / 256 ^ k % 256) = UInt8.ofNat (N / 256 ^ k) := UInt8.toNat_inj.1 (by simp)

set_option maxHeartbeats 400000 in
theorem rputIn_1 (N : Nat) (hN : (N : Int) < lim 1) (w : World) : Calls Tryd.prog 69 #[.int .i64 (N : Int), .int .i64 1] w
    fun e w' => ∃ v, e = .returned (.tuple #[v, .int .i64 0]) ∧ OwnB w' w.heap.size 5 v (enc N 1) ∧ Below w.heap.size w w' := by
  have HN := Lib.hid hN
  simp only [lim] at hN
  have hk : W4 1 := by simp [W4]
  obtain ⟨i0, hi0⟩ := isByte_of info5
  have Hi := Lib.hid hi0
  clear hi0
  go_enter Tryd.func69, Tryd.ntmps69
  go_wp2_with (go_at_call 73; refine (room_yes (N : Int) 1 (by omega) hk HN.out _).mono ?_; rintro e w2 ⟨rfl, rfl⟩)
  go_loopw [6, 7] (fun o i wr => ∃ j : Nat, j ≤ 1 ∧ i = .int .i64 (1 - 1 - (j : Int)) ∧ OwnB wr w.heap.size 5 o ((be 1 N).take j) ∧ Below w.heap.size w wr) (fun _ i _ => (intOf i + 1).toNat)
  case atStart => exact ⟨0, by omega, by simp, OwnB.nil, Below.refl _ _⟩
  case round =>
    obtain ⟨j, hj, rfl, hrj, hbj⟩ := hrel
    by_cases hjk : j = 1
    · have e : (be 1 N).take j = be 1 N := List.take_of_length_le (by rw [be_length]; omega)
      rw [e] at hrj
      clear e
      subst hjk
      have hl8 := be_length 1 N
      obtain ⟨g, c, rfl, hge, hgl, hlc, hcm⟩ := hrj.row (by omega)
      have hc0 := hrj.cell (k := 0) (by omega)
      have hf0 := hrj.frz 0
      rw [be_head N 1 (by omega), UInt8.toNat_ofNat'] at hc0
      obtain ⟨V, hV⟩ : ∃ V : Nat, V = N / 256 ^ (1 - 1) % 256 := ⟨_, rfl⟩
      rw [show (2 : Nat) ^ 8 = 256 from rfl, ← hV] at hc0
      have hV2 : V < 256 := by rw [hV]; exact Nat.mod_lt _ (by omega)
      have HV := Lib.hid hV
      have Hb := Lib.hid hbj
      have Hr := Lib.hid hrj
      rw [hl8] at Hr hlc ⊢
      clear hV hbj hrj hl8
      go_wp2
      go_region_with (go_at_call 74; refine (bits_calls 1 hk _).mono ?_; rintro e w' ⟨rfl, rfl⟩)
      all_goals
        go_wp2
        go_ret2
        have hsum : (V + tag 1 * 64 : Nat) < 256 := by
          have e : V = N / 256 ^ 0 := by rw [HV.out]; exact Nat.mod_eq_of_lt (by simp; omega)
          simp [tag]; simp at e; omega
        have hr2 : OwnB wr w.heap.size 5 (.slice (some ⟨g, 0, none⟩) (be 1 N).length c) (be 1 N) := by rw [be_length]; exact Hr.out
        have hs1 := hr2.put 0 (V + tag 1 * 64) hsum
        have e2 : (be 1 N).set 0 (UInt8.ofNat (V + tag 1 * 64)) = enc N 1 := by rw [HV.out]; exact be_add_enc N 1 hk HN.out
        rw [e2, be_length] at hs1
        have e3 : IntKind.u8.wrap ((V : Int) + (tag 1 : Int) * 64) = ((V + tag 1 * 64 : Nat) : Int) := by rw [IntWalk.u8_in _ (by omega)]; omega
        refine ⟨.slice (some ⟨g, 0, none⟩) 1 c, rfl, ?_, ?_⟩
        · rw [e3]; exact hs1.drew
        · exact (Hb.out.setCell hge _).drew
    · have hjl : j < 1 := by omega
      obtain ⟨m, hm⟩ : ∃ m : Nat, (1 : Int) - 1 - (j : Int) = m := ⟨1 - 1 - j, by omega⟩
      have hm8 : m ≤ 7 := by omega
      rw [hm]
      have Hm := Lib.hid hm
      clear hm
      have hby : UInt8.ofNat (N / 256 ^ m % 256) = UInt8.ofNat (N / 256 ^ (1 - 1 - j)) := by
        have : m = 1 - 1 - j := by have := Hm.out; omega
        rw [this]
        exact UInt8.toNat_inj.1 (by simp)
      have Hby := Lib.hid hby
      have hlen : ((be 1 N).take j).length = j := by simp [be_length]; omega
      have Hlen := Lib.hid hlen
      have Hb := Lib.hid hbj
      have Hr := Lib.hid hrj
      clear hby hlen hbj hrj
      go_wp2_with (at_builtin; go_loud (refine wpList_appB _ rfl (.tmp 32) (.tmp 39) 22 rfl w.heap.size 5 i0 Tryd.underlying22 Hi.out _ _ rfl (Hr.out.alloc _) _ _ 1 1 [UInt8.ofNat (N / 256 ^ m % 256)] rfl rfl (ReadB.lit1 _ _ _ _ (by rw [shr_and N m (by omega)]; simp)) (by rw [Hlen.out]; simp; omega) (by have := Hb.out.size; simp; omega) ?_); intro v' w1 hown1 hg1 hat1 hbw1)
      have hj1 : ((m : Int) - 1) = 1 - 1 - ((j + 1 : Nat) : Int) := by have := Hm.out; omega
      refine ⟨⟨j + 1, by omega, by rw [hj1], ?_, (Hb.out.alloc Hb.out.size _).trans hbw1⟩, by simp [intOf]⟩
      rw [be_take_succ N 1 j hjl, ← Hby.out]
      exact hown1

set_option maxHeartbeats 400000 in
theorem rputIn_2 (N : Nat) (hN : (N : Int) < lim 2) (w : World) : Calls Tryd.prog 69 #[.int .i64 (N : Int), .int .i64 2] w
    fun e w' => ∃ v, e = .returned (.tuple #[v, .int .i64 0]) ∧ OwnB w' w.heap.size 5 v (enc N 2) ∧ Below w.heap.size w w' := by
  have HN := Lib.hid hN
  simp only [lim] at hN
  have hk : W4 2 := by simp [W4]
  obtain ⟨i0, hi0⟩ := isByte_of info5
  have Hi := Lib.hid hi0
  clear hi0
  go_enter Tryd.func69, Tryd.ntmps69
  go_wp2_with (go_at_call 73; refine (room_yes (N : Int) 2 (by omega) hk HN.out _).mono ?_; rintro e w2 ⟨rfl, rfl⟩)
  go_loopw [6, 7] (fun o i wr => ∃ j : Nat, j ≤ 2 ∧ i = .int .i64 (2 - 1 - (j : Int)) ∧ OwnB wr w.heap.size 5 o ((be 2 N).take j) ∧ Below w.heap.size w wr) (fun _ i _ => (intOf i + 1).toNat)
  case atStart => exact ⟨0, by omega, by simp, OwnB.nil, Below.refl _ _⟩
  case round =>
    obtain ⟨j, hj, rfl, hrj, hbj⟩ := hrel
    by_cases hjk : j = 2
    · have e : (be 2 N).take j = be 2 N := List.take_of_length_le (by rw [be_length]; omega)
      rw [e] at hrj
      clear e
      subst hjk
      have hl8 := be_length 2 N
      obtain ⟨g, c, rfl, hge, hgl, hlc, hcm⟩ := hrj.row (by omega)
      have hc0 := hrj.cell (k := 0) (by omega)
      have hf0 := hrj.frz 0
      rw [be_head N 2 (by omega), UInt8.toNat_ofNat'] at hc0
      obtain ⟨V, hV⟩ : ∃ V : Nat, V = N / 256 ^ (2 - 1) % 256 := ⟨_, rfl⟩
      rw [show (2 : Nat) ^ 8 = 256 from rfl, ← hV] at hc0
      have hV2 : V < 256 := by rw [hV]; exact Nat.mod_lt _ (by omega)
      have HV := Lib.hid hV
      have Hb := Lib.hid hbj
      have Hr := Lib.hid hrj
      rw [hl8] at Hr hlc ⊢
      clear hV hbj hrj hl8
      go_wp2
      go_region_with (go_at_call 74; refine (bits_calls 2 hk _).mono ?_; rintro e w' ⟨rfl, rfl⟩)
      all_goals
        go_wp2
        go_ret2
        have hsum : (V + tag 2 * 64 : Nat) < 256 := by
          have e : V = N / 256 ^ 1 := by rw [HV.out]; exact Nat.mod_eq_of_lt (by simp; omega)
          simp [tag]; simp at e; omega
        have hr2 : OwnB wr w.heap.size 5 (.slice (some ⟨g, 0, none⟩) (be 2 N).length c) (be 2 N) := by rw [be_length]; exact Hr.out
        have hs1 := hr2.put 0 (V + tag 2 * 64) hsum
        have e2 : (be 2 N).set 0 (UInt8.ofNat (V + tag 2 * 64)) = enc N 2 := by rw [HV.out]; exact be_add_enc N 2 hk HN.out
        rw [e2, be_length] at hs1
        have e3 : IntKind.u8.wrap ((V : Int) + (tag 2 : Int) * 64) = ((V + tag 2 * 64 : Nat) : Int) := by rw [IntWalk.u8_in _ (by omega)]; omega
        refine ⟨.slice (some ⟨g, 0, none⟩) 2 c, rfl, ?_, ?_⟩
        · rw [e3]; exact hs1.drew
        · exact (Hb.out.setCell hge _).drew
    · have hjl : j < 2 := by omega
      obtain ⟨m, hm⟩ : ∃ m : Nat, (2 : Int) - 1 - (j : Int) = m := ⟨2 - 1 - j, by omega⟩
      have hm8 : m ≤ 7 := by omega
      rw [hm]
      have Hm := Lib.hid hm
      clear hm
      have hby : UInt8.ofNat (N / 256 ^ m % 256) = UInt8.ofNat (N / 256 ^ (2 - 1 - j)) := by
        have : m = 2 - 1 - j := by have := Hm.out; omega
        rw [this]
        exact UInt8.toNat_inj.1 (by simp)
      have Hby := Lib.hid hby
      have hlen : ((be 2 N).take j).length = j := by simp [be_length]; omega
      have Hlen := Lib.hid hlen
      have Hb := Lib.hid hbj
      have Hr := Lib.hid hrj
      clear hby hlen hbj hrj
      go_wp2_with (at_builtin; go_loud (refine wpList_appB _ rfl (.tmp 32) (.tmp 39) 22 rfl w.heap.size 5 i0 Tryd.underlying22 Hi.out _ _ rfl (Hr.out.alloc _) _ _ 1 1 [UInt8.ofNat (N / 256 ^ m % 256)] rfl rfl (ReadB.lit1 _ _ _ _ (by rw [shr_and N m (by omega)]; simp)) (by rw [Hlen.out]; simp; omega) (by have := Hb.out.size; simp; omega) ?_); intro v' w1 hown1 hg1 hat1 hbw1)
      have hj1 : ((m : Int) - 1) = 2 - 1 - ((j + 1 : Nat) : Int) := by have := Hm.out; omega
      refine ⟨⟨j + 1, by omega, by rw [hj1], ?_, (Hb.out.alloc Hb.out.size _).trans hbw1⟩, by simp [intOf]⟩
      rw [be_take_succ N 2 j hjl, ← Hby.out]
      exact hown1

set_option maxHeartbeats 400000 in
theorem rputIn_4 (N : Nat) (hN : (N : Int) < lim 4) (w : World) : Calls Tryd.prog 69 #[.int .i64 (N : Int), .int .i64 4] w
    fun e w' => ∃ v, e = .returned (.tuple #[v, .int .i64 0]) ∧ OwnB w' w.heap.size 5 v (enc N 4) ∧ Below w.heap.size w w' := by
  have HN := Lib.hid hN
  simp only [lim] at hN
  have hk : W4 4 := by simp [W4]
  obtain ⟨i0, hi0⟩ := isByte_of info5
  have Hi := Lib.hid hi0
  clear hi0
  go_enter Tryd.func69, Tryd.ntmps69
  go_wp2_with (go_at_call 73; refine (room_yes (N : Int) 4 (by omega) hk HN.out _).mono ?_; rintro e w2 ⟨rfl, rfl⟩)
  go_loopw [6, 7] (fun o i wr => ∃ j : Nat, j ≤ 4 ∧ i = .int .i64 (4 - 1 - (j : Int)) ∧ OwnB wr w.heap.size 5 o ((be 4 N).take j) ∧ Below w.heap.size w wr) (fun _ i _ => (intOf i + 1).toNat)
  case atStart => exact ⟨0, by omega, by simp, OwnB.nil, Below.refl _ _⟩
  case round =>
    obtain ⟨j, hj, rfl, hrj, hbj⟩ := hrel
    by_cases hjk : j = 4
    · have e : (be 4 N).take j = be 4 N := List.take_of_length_le (by rw [be_length]; omega)
      rw [e] at hrj
      clear e
      subst hjk
      have hl8 := be_length 4 N
      obtain ⟨g, c, rfl, hge, hgl, hlc, hcm⟩ := hrj.row (by omega)
      have hc0 := hrj.cell (k := 0) (by omega)
      have hf0 := hrj.frz 0
      rw [be_head N 4 (by omega), UInt8.toNat_ofNat'] at hc0
      obtain ⟨V, hV⟩ : ∃ V : Nat, V = N / 256 ^ (4 - 1) % 256 := ⟨_, rfl⟩
      rw [show (2 : Nat) ^ 8 = 256 from rfl, ← hV] at hc0
      have hV2 : V < 256 := by rw [hV]; exact Nat.mod_lt _ (by omega)
      have HV := Lib.hid hV
      have Hb := Lib.hid hbj
      have Hr := Lib.hid hrj
      rw [hl8] at Hr hlc ⊢
      clear hV hbj hrj hl8
      go_wp2
      go_region_with (go_at_call 74; refine (bits_calls 4 hk _).mono ?_; rintro e w' ⟨rfl, rfl⟩)
      all_goals
        go_wp2
        go_ret2
        have hsum : (V + tag 4 * 64 : Nat) < 256 := by
          have e : V = N / 256 ^ 3 := by rw [HV.out]; exact Nat.mod_eq_of_lt (by simp; omega)
          simp [tag]; simp at e; omega
        have hr2 : OwnB wr w.heap.size 5 (.slice (some ⟨g, 0, none⟩) (be 4 N).length c) (be 4 N) := by rw [be_length]; exact Hr.out
        have hs1 := hr2.put 0 (V + tag 4 * 64) hsum
        have e2 : (be 4 N).set 0 (UInt8.ofNat (V + tag 4 * 64)) = enc N 4 := by rw [HV.out]; exact be_add_enc N 4 hk HN.out
        rw [e2, be_length] at hs1
        have e3 : IntKind.u8.wrap ((V : Int) + (tag 4 : Int) * 64) = ((V + tag 4 * 64 : Nat) : Int) := by rw [IntWalk.u8_in _ (by omega)]; omega
        refine ⟨.slice (some ⟨g, 0, none⟩) 4 c, rfl, ?_, ?_⟩
        · rw [e3]; exact hs1.drew
        · exact (Hb.out.setCell hge _).drew
    · have hjl : j < 4 := by omega
      obtain ⟨m, hm⟩ : ∃ m : Nat, (4 : Int) - 1 - (j : Int) = m := ⟨4 - 1 - j, by omega⟩
      have hm8 : m ≤ 7 := by omega
      rw [hm]
      have Hm := Lib.hid hm
      clear hm
      have hby : UInt8.ofNat (N / 256 ^ m % 256) = UInt8.ofNat (N / 256 ^ (4 - 1 - j)) := by
        have : m = 4 - 1 - j := by have := Hm.out; omega
        rw [this]
        exact UInt8.toNat_inj.1 (by simp)
      have Hby := Lib.hid hby
      have hlen : ((be 4 N).take j).length = j := by simp [be_length]; omega
      have Hlen := Lib.hid hlen
      have Hb := Lib.hid hbj
      have Hr := Lib.hid hrj
      clear hby hlen hbj hrj
      go_wp2_with (at_builtin; go_loud (refine wpList_appB _ rfl (.tmp 32) (.tmp 39) 22 rfl w.heap.size 5 i0 Tryd.underlying22 Hi.out _ _ rfl (Hr.out.alloc _) _ _ 1 1 [UInt8.ofNat (N / 256 ^ m % 256)] rfl rfl (ReadB.lit1 _ _ _ _ (by rw [shr_and N m (by omega)]; simp)) (by rw [Hlen.out]; simp; omega) (by have := Hb.out.size; simp; omega) ?_); intro v' w1 hown1 hg1 hat1 hbw1)
      have hj1 : ((m : Int) - 1) = 4 - 1 - ((j + 1 : Nat) : Int) := by have := Hm.out; omega
      refine ⟨⟨j + 1, by omega, by rw [hj1], ?_, (Hb.out.alloc Hb.out.size _).trans hbw1⟩, by simp [intOf]⟩
      rw [be_take_succ N 4 j hjl, ← Hby.out]
      exact hown1

set_option maxHeartbeats 400000 in
theorem rputIn_8 (N : Nat) (hN : (N : Int) < lim 8) (w : World) : Calls Tryd.prog 69 #[.int .i64 (N : Int), .int .i64 8] w
    fun e w' => ∃ v, e = .returned (.tuple #[v, .int .i64 0]) ∧ OwnB w' w.heap.size 5 v (enc N 8) ∧ Below w.heap.size w w' := by
  have HN := Lib.hid hN
  simp only [lim] at hN
  have hk : W4 8 := by simp [W4]
  obtain ⟨i0, hi0⟩ := isByte_of info5
  have Hi := Lib.hid hi0
  clear hi0
  go_enter Tryd.func69, Tryd.ntmps69
  go_wp2_with (go_at_call 73; refine (room_yes (N : Int) 8 (by omega) hk HN.out _).mono ?_; rintro e w2 ⟨rfl, rfl⟩)
  go_loopw [6, 7] (fun o i wr => ∃ j : Nat, j ≤ 8 ∧ i = .int .i64 (8 - 1 - (j : Int)) ∧ OwnB wr w.heap.size 5 o ((be 8 N).take j) ∧ Below w.heap.size w wr) (fun _ i _ => (intOf i + 1).toNat)
  case atStart => exact ⟨0, by omega, by simp, OwnB.nil, Below.refl _ _⟩
  case round =>
    obtain ⟨j, hj, rfl, hrj, hbj⟩ := hrel
    by_cases hjk : j = 8
    · have e : (be 8 N).take j = be 8 N := List.take_of_length_le (by rw [be_length]; omega)
      rw [e] at hrj
      clear e
      subst hjk
      have hl8 := be_length 8 N
      obtain ⟨g, c, rfl, hge, hgl, hlc, hcm⟩ := hrj.row (by omega)
      have hc0 := hrj.cell (k := 0) (by omega)
      have hf0 := hrj.frz 0
      rw [be_head N 8 (by omega), UInt8.toNat_ofNat'] at hc0
      obtain ⟨V, hV⟩ : ∃ V : Nat, V = N / 256 ^ (8 - 1) % 256 := ⟨_, rfl⟩
      rw [show (2 : Nat) ^ 8 = 256 from rfl, ← hV] at hc0
      have hV2 : V < 256 := by rw [hV]; exact Nat.mod_lt _ (by omega)
      have HV := Lib.hid hV
      have Hb := Lib.hid hbj
      have Hr := Lib.hid hrj
      rw [hl8] at Hr hlc ⊢
      clear hV hbj hrj hl8
      go_wp2
      go_region_with (go_at_call 74; refine (bits_calls 8 hk _).mono ?_; rintro e w' ⟨rfl, rfl⟩)
      all_goals
        go_wp2
        go_ret2
        have hsum : (V + tag 8 * 64 : Nat) < 256 := by
          have e : V = N / 256 ^ 7 := by rw [HV.out]; exact Nat.mod_eq_of_lt (by simp; omega)
          simp [tag]; simp at e; omega
        have hr2 : OwnB wr w.heap.size 5 (.slice (some ⟨g, 0, none⟩) (be 8 N).length c) (be 8 N) := by rw [be_length]; exact Hr.out
        have hs1 := hr2.put 0 (V + tag 8 * 64) hsum
        have e2 : (be 8 N).set 0 (UInt8.ofNat (V + tag 8 * 64)) = enc N 8 := by rw [HV.out]; exact be_add_enc N 8 hk HN.out
        rw [e2, be_length] at hs1
        have e3 : IntKind.u8.wrap ((V : Int) + (tag 8 : Int) * 64) = ((V + tag 8 * 64 : Nat) : Int) := by rw [IntWalk.u8_in _ (by omega)]; omega
        refine ⟨.slice (some ⟨g, 0, none⟩) 8 c, rfl, ?_, ?_⟩
        · rw [e3]; exact hs1.drew
        · exact (Hb.out.setCell hge _).drew
    · have hjl : j < 8 := by omega
      obtain ⟨m, hm⟩ : ∃ m : Nat, (8 : Int) - 1 - (j : Int) = m := ⟨8 - 1 - j, by omega⟩
      have hm8 : m ≤ 7 := by omega
      rw [hm]
      have Hm := Lib.hid hm
      clear hm
      have hby : UInt8.ofNat (N / 256 ^ m % 256) = UInt8.ofNat (N / 256 ^ (8 - 1 - j)) := by
        have : m = 8 - 1 - j := by have := Hm.out; omega
        rw [this]
        exact UInt8.toNat_inj.1 (by simp)
      have Hby := Lib.hid hby
      have hlen : ((be 8 N).take j).length = j := by simp [be_length]; omega
      have Hlen := Lib.hid hlen
      have Hb := Lib.hid hbj
      have Hr := Lib.hid hrj
      clear hby hlen hbj hrj
      go_wp2_with (at_builtin; go_loud (refine wpList_appB _ rfl (.tmp 32) (.tmp 39) 22 rfl w.heap.size 5 i0 Tryd.underlying22 Hi.out _ _ rfl (Hr.out.alloc _) _ _ 1 1 [UInt8.ofNat (N / 256 ^ m % 256)] rfl rfl (ReadB.lit1 _ _ _ _ (by rw [shr_and N m (by omega)]; simp)) (by rw [Hlen.out]; simp; omega) (by have := Hb.out.size; simp; omega) ?_); intro v' w1 hown1 hg1 hat1 hbw1)
      have hj1 : ((m : Int) - 1) = 8 - 1 - ((j + 1 : Nat) : Int) := by have := Hm.out; omega
      refine ⟨⟨j + 1, by omega, by rw [hj1], ?_, (Hb.out.alloc Hb.out.size _).trans hbw1⟩, by simp [intOf]⟩
      rw [be_take_succ N 8 j hjl, ← Hby.out]
      exact hown1

set_option maxHeartbeats 400000 in
theorem rputIn_calls (n d : Int) (hn : n ≤ 9223372036854775807) (w : World) : Calls Tryd.prog 69 #[.int .i64 n, .int .i64 d] w
    fun e w' => ∃ v, e = .returned (.tuple #[v, .int .i64 (putIn n d).2]) ∧ OwnB w' w.heap.size 5 v (putIn n d).1 ∧ Below w.heap.size w w' := by
  by_cases hd : d = 1 ∨ d = 2 ∨ d = 4 ∨ d = 8
  · obtain ⟨k, rfl, hk⟩ : ∃ k : Nat, d = (k : Int) ∧ W4 k := ⟨d.toNat, by omega, by unfold W4; omega⟩
    have hk8 : 1 ≤ k ∧ k ≤ 8 := by rcases hk with rfl | rfl | rfl | rfl <;> omega
    by_cases hf : n < 0 ∨ lim k ≤ n
    · have hp : putIn n k = ([], 13) := by unfold putIn; rw [if_neg (by rw [Classical.not_not]; exact hd), if_pos (by simpa using hf)]
      have Hp := Lib.hid hp
      clear hp
      rcases hd with hd | hd | hd | hd
      all_goals
        have hkk := hd
        rw [show (k : Int) = _ from hd]
        have hrn : ∀ W, Calls Tryd.prog 73 #[.int .i64 n, .int .i64 (k : Int)] W fun e w' => e = .returned (.bool false) ∧ W = w' := fun W => room_no n k hn hk hf W
        rw [hd] at hrn
        have Hr := Lib.hid hrn
        have Hkk := Lib.hid hkk
        clear hrn hd hkk
        go_enter Tryd.func69, Tryd.ntmps69
        go_wp2_with (go_at_call 73; refine (Hr.out _).mono ?_; rintro e w2 ⟨rfl, rfl⟩)
        go_ret2
        have hp2 := Hp.out
        rw [Hkk.out] at hp2
        exact ⟨.slice none 0 0, by rw [hp2]; rfl, by rw [hp2]; exact OwnB.nil, Below.refl _ _⟩
    · have hp : putIn n k = (enc n.toNat k, 0) := putIn_ok n k hk (by omega) (by omega)
      have Hp := Lib.hid hp
      clear hp
      obtain ⟨i0, hi0⟩ := isByte_of info5
      obtain ⟨N, rfl⟩ : ∃ N : Nat, n = (N : Int) := ⟨n.toNat, by omega⟩
      have hN0 : (N : Int) < lim k := by omega
      rw [Hp.out]
      clear hf hd hn
      rcases hk with rfl | rfl | rfl | rfl
      · exact rputIn_1 N hN0 w
      · exact rputIn_2 N hN0 w
      · exact rputIn_4 N hN0 w
      · exact rputIn_8 N hN0 w
  · have hp : putIn n d = ([], 2) := by unfold putIn; rw [if_pos hd]
    have Hp := Lib.hid hp
    clear hp
    simp only [not_or] at hd
    obtain ⟨d1, d2, d4, d8⟩ := hd
    have b1 : (d != 1) = true := by simpa using d1
    have b2 : (d != 2) = true := by simpa using d2
    have b4 : (d != 4) = true := by simpa using d4
    have b8 : (d != 8) = true := by simpa using d8
    clear d1 d2 d4 d8
    go_enter Tryd.func69, Tryd.ntmps69
    go_wp2
    go_ret2
    exact ⟨.slice none 0 0, by rw [Hp.out]; rfl, by rw [Hp.out]; exact OwnB.nil, Below.refl _ _⟩
end Vi
end Go.Proofs.YtlkcibhdnicpkaaDoor
/- What the reference lays and reads of a number of the wire, in its least width. -/
namespace Go.Proofs.YtlkcibhdnicpkaaDoor
namespace Vi
open Go.RowKit Ba Vm
set_option linter.unusedVariables false

set_option maxHeartbeats 400000 in
theorem rput_calls (n : Int) (hn : n ≤ 9223372036854775807) (w : World) : Calls Tryd.prog 65 #[.int .i64 n] w
    fun e w' => ∃ v, e = .returned (.tuple #[v, .int .i64 (put n).2]) ∧ OwnB w' w.heap.size 5 v (put n).1 ∧ Below w.heap.size w w' := by
  have Hp := Lib.hid (put_eq n)
  rcases Nat.eq_zero_or_pos (len n) with h0 | h0
  · have H0 := Lib.hid h0
    clear h0
    go_enter Tryd.func65, Tryd.ntmps65
    go_wp2_with (go_at_call 68; refine (rlen_calls _ hn _).mono ?_; rw [H0.out]; rintro e w1 ⟨rfl, rfl⟩)
    go_ret2
    exact ⟨.slice none 0 0, by rw [Hp.out, if_pos H0.out]; rfl, by rw [Hp.out, if_pos H0.out]; exact OwnB.nil, Below.refl _ _⟩
  · have hz : ((len n : Int) == 0) = false := by rw [beq_eq_false_iff_ne]; omega
    go_enter Tryd.func65, Tryd.ntmps65
    go_wp2_with (first
      | (go_at_call 68; refine (rlen_calls _ hn _).mono ?_; rintro e w1 ⟨rfl, rfl⟩)
      | (go_at_call 69; refine (rputIn_calls _ _ hn _).mono ?_; rintro e w2 ⟨v, rfl, ho, hb2⟩))
    go_ret2
    have hz : ¬ len n = 0 := by omega
    exact ⟨v, by rw [Hp.out, if_neg hz]; rfl, by rw [Hp.out, if_neg hz]; exact ho, hb2⟩

end Vi
end Go.Proofs.YtlkcibhdnicpkaaDoor
/- What the reference lays and takes off of numbers and texts: the same as the program. -/
namespace Go.Proofs.YtlkcibhdnicpkaaDoor
namespace Fr
open Go.RowKit Ba Vm Fm Vi Fi
set_option linter.unusedVariables false

set_option maxHeartbeats 400000 in
theorem num_calls (n : Int) (hn : n ≤ 9223372036854775807) (w : World) : Calls Tryd.prog 61 #[.int .i64 n] w
    fun e w' => ∃ v, e = .returned v ∧ OwnB w' w.heap.size 5 v (num n) ∧ Below w.heap.size w w' := by
  go_enter Tryd.func61, Tryd.ntmps61
  go_wp2_with fail
  refine (rput_calls n hn _).mono ?_
  rintro e w1 ⟨v1, rfl, ho1, hb1⟩
  go_wp2_with fail
  go_ret
  exact ⟨v1, rfl, ho1, hb1⟩

set_option maxHeartbeats 400000 in
theorem text_calls (r : List UInt8) (hr : r.length ≤ 140737488351232) (w : World) : Calls Tryd.prog 53 #[.string (S r)] w
    fun e w' => ∃ v, e = .returned v ∧ OwnB w' w.heap.size 5 v (text r) ∧ Below w.heap.size w w' := by
  obtain ⟨i0, hi0⟩ := isByte_of info5
  have Hi := Lib.hid hi0
  have hl8 := num_len (r.length : Int)
  clear hi0
  go_enter Tryd.func53, Tryd.ntmps53
  go_wp2_with (first
    | (go_at_call 61; go_must (refine (num_calls _ (by omega) _).mono ?_); rintro e w1 ⟨v1, rfl, ho1, hb1⟩)
    | (at_builtin; go_loud (refine wpList_appS _ rfl (.tmp 5) (.tmp 6) 22 9 rfl w.heap.size 5 i0 Tryd.underlying22 Tryd.underlying9 Hi.out v1 _ rfl ho1 r rfl (by omega) hb1.size ?_); intro v2 w2 hown2 hg2 hbw2))
  go_ret
  exact ⟨v2, rfl, hown2, hb1.trans hbw2⟩

theorem blk_cell {w : World} {g : Nat} {x y : Value} {t : TypeId} (h : w.heap[g]? = some (.cells #[x, y] t (0, 0))) :
    w.cell? ⟨g, 0, none⟩ = some x ∧ w.cell? ⟨g, 1, none⟩ = some y ∧ w.frozen? ⟨g, 0, none⟩ = false ∧ w.frozen? ⟨g, 1, none⟩ = false :=
  ⟨by rw [cell_of_row w g 0 _ t _ h]; rfl, by rw [cell_of_row w g 1 _ t _ h]; rfl, frozen_of_row w g 0 _ t h, frozen_of_row w g 1 _ t h⟩
/-- the reference's reader, as a value -/
theorem strof_take (W : World) (A : Option Addr) (c B m : Nat) (l : List UInt8) (h : ReadB W B A l) (hm : m ≤ l.length) : (convert 22 9 (.slice A m c)).run Tryd.prog W = .ok (.string (S (l.take m))) W := by
  have := run_strof W 22 5 Tryd.underlying22 Tryd.underlying5 A c B (l.take m) (h.take m) 9 Tryd.underlying9
  rw [List.length_take, Nat.min_eq_left hm] at this
  exact this
def IsV (w : World) (B : Nat) (v : Value) (r : Rd) : Prop := ∃ A c, v = .agg #[.slice A r.l.length c, .int .i64 r.e] ∧ r.l.length ≤ c ∧ c ≤ 9223372036854775807 ∧ ReadB w B A r.l
theorem IsV.below {w w' : World} {B : Nat} {v : Value} {r : Rd} (h : IsV w B v r) (hb : Below B w w') : IsV w' B v r := by
  obtain ⟨A, c, h1, h2, h3, h4⟩ := h
  exact ⟨A, c, h1, h2, h3, h4.below hb⟩

end Fr
end Go.Proofs.YtlkcibhdnicpkaaDoor
/- Bytes with a tag, by the program and by the document's answer: the walks of Seal. -/
namespace Go.Proofs.YtlkcibhdnicpkaaDoor
namespace Mc
open Go.RowKit Ba Sm
set_option linter.unusedVariables false
def mtag (k hd b : List UInt8) : List UInt8 := (hmac k (Fm.text hd ++ b)).take 16
theorem mtag_len (k hd b : List UInt8) : (mtag k hd b).length = 16 := by rw [mtag, List.length_take, hmac_len]; rfl
theorem text_len (r : List UInt8) : (Fm.text r).length ≤ r.length + 8 := by
  unfold Fm.text
  rw [List.length_append]
  have := Fm.num_len (r.length : Int)
  omega
theorem tab_drew {w : World} (h : Tab w) : Tab w.drew := ⟨h.1, h.2⟩
set_option maxRecDepth 100000 in
set_option maxHeartbeats 4000000 in
theorem seal_calls {k hd b : List UInt8} (hk : k.length = 32) {Ah Ab : Option Addr} {nh ch nb cb : Nat} {w : World} (hnh : nh = hd.length) (hnb : nb = b.length) (hrh : ReadB w w.heap.size Ah hd) (hrb : ReadB w w.heap.size Ab b) (htab : Tab w)
    (hch : hd.length ≤ ch) (hcb : b.length ≤ cb) (hcm : cb ≤ 9223372036854775807) (hmh : hd.length ≤ 140737488351168) (hmb : b.length ≤ 140737488351168) :
    Calls Tryd.prog 32 #[.agg (bvs k).toArray, .slice Ah nh ch, .slice Ab nb cb] w fun e w' => ∃ v, e = .returned v ∧ OwnB w' w.heap.size 5 v (b ++ mtag k hd b) ∧ Below w.heap.size w w' := by
  obtain ⟨i0, hi0⟩ := isByte_of info5
  have Hi := Lib.hid hi0
  have Hk := Lib.hid hk
  have Hnh := Lib.hid hnh
  have Hnb := Lib.hid hnb
  have hA := (Below.refl w.heap.size w).alloc (Nat.le_refl _) (.cells (bvs k).toArray 26)
  have hR0 : (w.alloc (.cells (bvs k).toArray 26)).rangeAt w.heap.size 0 (bvs k) := Blk.range [] (bvs k) [] (by rw [List.append_nil, List.nil_append]; exact heap_alloc_new w (.cells (bvs k).toArray 26))
  have HRow : Hid ((w.alloc (.cells (bvs k).toArray 26)).drew.rangeAt w.heap.size 0 (bvs k)) := Lib.hid hR0
  have HgB : Hid (w.heap.size < (w.alloc (.cells (bvs k).toArray 26)).drew.heap.size) := Lib.hid (by show _ < (w.alloc _).heap.size; simp)
  have HB := Lib.hid hA.drew
  have HRh := Lib.hid ((hrh.below hA.drew).more hA.drew.size)
  have HRb := Lib.hid ((hrb.below hA.drew).more hA.drew.size)
  have Htab := Lib.hid (htab.below hA.drew)
  clear hi0 hk hrh hrb htab hA hR0 hnh hnb
  go_enter Tryd.func32, Tryd.ntmps32
  go_wp2_with fail
  refine CanB.region 1000 (.op 0 2 (.op 2 1 (.op 3 2 (.op 4 1 (.op 6 2 (.op 1 0 (.op 5 0 (.op 7 0 (.op 8 0 (.op 9 0 (.op 10 2 (.nil)))))))))))) (by kernel_rfl) (by kernel_rfl) ?_
  generalize (w.alloc (.cells (bvs k).toArray 26)).drew = W at *
  repeat (first | (refine CanT.skip rfl ?_ (fun K hK => ?_); (focus (go_simp; done)); go_simp; refine hK _ ?_; clear hK K) | (refine CanT.pur rfl ?_ ?_; (focus (go_simp; done)); refine ⟨?_, ?_, ?_⟩; rotate_left; (focus (intro w'; go_simp; rfl)); (focus (intro K hK; go_simp; refine hK _ ?_; clear hK K))) | (refine CanB.row rfl ?_ _ _ rfl w.heap.size 0 (bvs k) rfl HRow.out HgB.out _ Tryd.underlying26 rfl (by rw [bvs_length, Hk.out]; kernel_rfl) (fun K hK => ?_); (focus (go_simp; done)); go_simp; refine hK _ ?_; clear hK K) | (refine CanB.str rfl ?_ 22 9 5 _ rfl Tryd.underlying22 Tryd.underlying5 Tryd.underlying9 Ah _ ch (hd) rfl (Hnh.out) HRh.out (fun K hK => ?_); (focus (go_simp; done)); go_simp; refine hK _ ?_; clear hK K))
  refine CanT.imp rfl (fun J hJ => ?_)
  go_simp
  refine (cloneN Hnb.out hcb (by omega) HRb.out).mono ?_
  rintro e w1 ⟨v1, rfl, ho1, hb1⟩
  have Ho1 := Lib.hid ho1
  have HF1 := Lib.hid hb1
  clear ho1
  go_simp
  refine hJ.out _ _ hb1 ?_
  clear hJ J hb1
  refine CanT.imp rfl (fun J hJ => ?_)
  go_simp
  refine (Fi.text_calls hd (by omega) _).mono ?_
  rintro e w2 ⟨v2, rfl, ho2, hb2⟩
  have hF2 := bthen HF1.out hb2
  have Ho2 := Lib.hid ho2
  have HF2 := Lib.hid hF2
  have Ho12 := Lib.hid (Ho1.out.keptB hb2)
  clear ho2 hb2
  go_simp
  refine hJ.out _ _ hF2 ?_
  clear hJ J hF2 Ho1 HF1
  obtain ⟨A2, c2, rfl, t1, t2, t3, t4⟩ := Ho2.out.opens
  have htl := text_len hd
  have hnf : [Fm.text hd, b].flatten = Fm.text hd ++ b := by simp
  have hflat : [Fm.text hd, b].flatten.length ≤ 576460752303423487 := by rw [hnf, List.length_append]; omega
  have hbb : ReadBB (w2.alloc (.cells #[.slice A2 (Fm.text hd).length c2, .slice Ab nb cb] 22)) (w2.heap.size + 1) (some ⟨w2.heap.size, 0, none⟩) [Fm.text hd, b] :=
    ReadBB.lit2 w2 22 A2 Ab _ c2 _ cb (Fm.text hd) b w2.heap.size w2.heap.size rfl (Nat.le_refl _) rfl Hnb.out t3 ((HRb.out.below HF2.out).more HF2.out.size) t1 hcb t2 hcm
  have Hbb := Lib.hid hbb
  have Hnf := Lib.hid hnf
  have T3 := Lib.hid t3
  have T4 := Lib.hid t4
  have HF3 := Lib.hid (HF2.out.alloc HF2.out.size (.cells #[.slice A2 (Fm.text hd).length c2, .slice Ab nb cb] 22))
  have Ho3 := Lib.hid (Ho12.out.alloc (.cells #[.slice A2 (Fm.text hd).length c2, .slice Ab nb cb] 22))
  clear hbb hnf t3 t4 Ho12
  refine CanT.imp rfl (fun J hJ => ?_)
  go_simp
  refine hJ.out _ _ HF3.out ?_
  clear hJ J
  refine CanT.imp rfl (fun J hJ => ?_)
  go_simp
  refine (tag_calls k Hk.out [Fm.text hd, b] _ 2 2 _ rfl (by simpa using Hbb.out) (Htab.out.below HF3.out) (by simp) (by omega) (by intro p hp; simp at hp; rcases hp with rfl | rfl <;> omega) hflat).mono ?_
  rw [Hnf.out]
  rintro e w4 ⟨v4, rfl, ho4, hb4⟩
  have hF4 := bthen HF3.out hb4
  have Ho4 := Lib.hid ho4
  have HF4 := Lib.hid hF4
  have Ho14 := Lib.hid (Ho3.out.keptB hb4)
  clear ho4 hb4
  go_simp
  refine hJ.out _ _ hF4 ?_
  clear hJ J hF4 HF3 Ho3 Hbb
  have hml : ((hmac k (Fm.text hd ++ b)).take 16).length = 16 := mtag_len k hd b
  obtain ⟨M, hM⟩ : ∃ M, M = (hmac k (Fm.text hd ++ b)).take 16 := ⟨_, rfl⟩
  rw [← hM] at hml Ho4
  have HM := Lib.hid hM
  obtain ⟨A4, c4, rfl, u1, u2, u3, u4⟩ := Ho4.out.opens
  have U3 := Lib.hid u3
  have HL4 := Lib.hid HF4.out.size
  clear hM u3 u4 hflat
  refine CanT.imp rfl (fun J hJ => ?_)
  refine cstep_appB _ rfl (.tmp 8) (.tmp 15) 22 rfl W.heap.size 5 i0 Tryd.underlying22 Hi.out v1 b rfl Ho14.out w4.heap.size A4 _ c4 M rfl rfl U3.out (by omega) HL4.out ?_
  intro v5 w5 ho5 _ _ hb5
  have Ho5 := Lib.hid ho5
  have hF5 := HF4.out.trans hb5
  have HF5 := Lib.hid hF5
  clear ho5 hb5
  go_simp
  refine hJ.out _ _ hF5 ?_
  clear hJ J hF5
  repeat (first | (refine CanT.skip rfl ?_ (fun K hK => ?_); (focus (go_simp; done)); go_simp; refine hK _ ?_; clear hK K) | (refine CanT.pur rfl ?_ ?_; (focus (go_simp; done)); refine ⟨?_, ?_, ?_⟩; rotate_left; (focus (intro w'; go_simp; rfl)); (focus (intro K hK; go_simp; refine hK _ ?_; clear hK K))))
  refine CanT.done ?_
  go_wp2
  go_ret
  exact ⟨v5, rfl, by rw [mtag, ← HM.out]; exact Ho5.out.weak (Nat.le_of_lt HgB.out), HB.out.trans (HF5.out.mono (Nat.le_of_lt HgB.out))⟩
end Mc
end Go.Proofs.YtlkcibhdnicpkaaDoor
/- Bytes with a tag, by the document's answer: the walk of its Seal. -/
namespace Go.Proofs.YtlkcibhdnicpkaaDoor
namespace Mc
open Go.RowKit Ba Sm
set_option linter.unusedVariables false
set_option maxRecDepth 100000 in
set_option maxHeartbeats 4000000 in
theorem rseal_calls {k hd b : List UInt8} (hk : k.length = 32) {Ah Ab : Option Addr} {nh ch nb cb : Nat} {w : World} (hnh : nh = hd.length) (hnb : nb = b.length) (hrh : ReadB w w.heap.size Ah hd) (hrb : ReadB w w.heap.size Ab b)
    (hmh : hd.length ≤ 70368744170000) (hmb : b.length ≤ 70368744170000) :
    Calls Tryd.prog 33 #[.agg (bvs k).toArray, .slice Ah nh ch, .slice Ab nb cb] w fun e w' => ∃ v, e = .returned v ∧ OwnB w' w.heap.size 5 v (b ++ mtag k hd b) ∧ Below w.heap.size w w' := by
  obtain ⟨i0, hi0⟩ := isByte_of info5
  have Hi := Lib.hid hi0
  have Hk := Lib.hid hk
  have Hnh := Lib.hid hnh
  have Hnb := Lib.hid hnb
  have hA := (Below.refl w.heap.size w).alloc (Nat.le_refl _) (.cells (bvs k).toArray 26)
  have hR0 : (w.alloc (.cells (bvs k).toArray 26)).rangeAt w.heap.size 0 (bvs k) := Blk.range [] (bvs k) [] (by rw [List.append_nil, List.nil_append]; exact heap_alloc_new w (.cells (bvs k).toArray 26))
  have HRow : Hid ((w.alloc (.cells (bvs k).toArray 26)).drew.rangeAt w.heap.size 0 (bvs k)) := Lib.hid hR0
  have HgB : Hid (w.heap.size < (w.alloc (.cells (bvs k).toArray 26)).drew.heap.size) := Lib.hid (by show _ < (w.alloc _).heap.size; simp)
  have HB := Lib.hid hA.drew
  have HRh := Lib.hid ((hrh.below hA.drew).more hA.drew.size)
  have HRb := Lib.hid ((hrb.below hA.drew).more hA.drew.size)
  clear hi0 hk hrh hrb hA hR0 hnh hnb
  go_enter Tryd.func33, Tryd.ntmps33
  go_wp2_with fail
  refine CanB.region 1000 (.op 0 1 (.op 1 2 (.op 2 1 (.op 4 2 (.op 3 0 (.op 5 0 (.op 6 0 (.op 7 2 (.nil))))))))) (by kernel_rfl) (by kernel_rfl) ?_
  generalize (w.alloc (.cells (bvs k).toArray 26)).drew = W at *
  repeat (first | (refine CanT.skip rfl ?_ (fun K hK => ?_); (focus (go_simp; done)); go_simp; refine hK _ ?_; clear hK K) | (refine CanT.pur rfl ?_ ?_; (focus (go_simp; done)); refine ⟨?_, ?_, ?_⟩; rotate_left; (focus (intro w'; go_simp; rfl)); (focus (intro K hK; go_simp; refine hK _ ?_; clear hK K))) | (refine CanB.row rfl ?_ _ _ rfl w.heap.size 0 (bvs k) rfl HRow.out HgB.out _ Tryd.underlying26 rfl (by rw [bvs_length, Hk.out]; kernel_rfl) (fun K hK => ?_); (focus (go_simp; done)); go_simp; refine hK _ ?_; clear hK K) | (refine CanB.str rfl ?_ 22 9 5 _ rfl Tryd.underlying22 Tryd.underlying5 Tryd.underlying9 Ah _ ch (hd) rfl (Hnh.out) HRh.out (fun K hK => ?_); (focus (go_simp; done)); go_simp; refine hK _ ?_; clear hK K))
  refine CanT.imp rfl (fun J hJ => ?_)
  go_simp
  refine (Fr.text_calls hd (by omega) _).mono ?_
  rintro e w2 ⟨v2, rfl, ho2, hb2⟩
  have Ho2 := Lib.hid ho2
  have HF2 := Lib.hid hb2
  clear ho2
  go_simp
  refine hJ.out _ _ hb2 ?_
  clear hJ J hb2
  have htl := text_len hd
  have HL2 := Lib.hid HF2.out.size
  have HRb2 := Lib.hid (HRb.out.below HF2.out)
  refine CanT.imp rfl (fun J hJ => ?_)
  refine cstep_appB _ rfl (.tmp 11) (.tmp 12) 22 rfl W.heap.size 5 i0 Tryd.underlying22 Hi.out v2 (Fm.text hd) rfl Ho2.out W.heap.size Ab _ cb b rfl Hnb.out HRb2.out (by omega) HL2.out ?_
  intro v3 w3 ho3 _ _ hb3
  have Ho3 := Lib.hid ho3
  have hF3 := HF2.out.trans hb3
  have HF3 := Lib.hid hF3
  clear ho3 hb3
  go_simp
  refine hJ.out _ _ hF3 ?_
  clear hJ J hF3
  refine CanT.imp rfl (fun J hJ => ?_)
  go_simp
  refine (rtag_calls k (Fm.text hd ++ b) Hk.out v3 W.heap.size _ Ho3.out HF3.out.size (by rw [List.length_append]; omega)).mono ?_
  rintro e w4 ⟨v4, rfl, ho4, hb4⟩
  have hF4 := bthen HF3.out hb4
  have Ho4 := Lib.hid ho4
  have HF4 := Lib.hid hF4
  have HL3 := Lib.hid HF3.out.size
  clear ho4 hb4
  go_simp
  refine hJ.out _ _ hF4 ?_
  clear hJ J hF4
  repeat (first | (refine CanT.skip rfl ?_ (fun K hK => ?_); (focus (go_simp; done)); go_simp; refine hK _ ?_; clear hK K) | (refine CanT.pur rfl ?_ ?_; (focus (go_simp; done)); refine ⟨?_, ?_, ?_⟩; rotate_left; (focus (intro w'; go_simp; rfl)); (focus (intro K hK; go_simp; refine hK _ ?_; clear hK K))))
  refine CanT.done ?_
  have hml : ((hmac k (Fm.text hd ++ b)).take 16).length = 16 := mtag_len k hd b
  obtain ⟨M, hM⟩ : ∃ M, M = (hmac k (Fm.text hd ++ b)).take 16 := ⟨_, rfl⟩
  rw [← hM] at hml Ho4
  have HM := Lib.hid hM
  have Hml := Lib.hid hml
  obtain ⟨A4, c4, rfl, u1, u2, u3, u4⟩ := Ho4.out.opens
  have U3 := Lib.hid u3
  have HRb4 := Lib.hid (HRb.out.below HF4.out |>.more HF4.out.size)
  clear hM u3 u4 hml
  go_wp2_with (first
    | (at_builtin; (refine wpList_appB _ rfl (.tmp 15) (.tmp 16) 22 rfl w4.heap.size 5 i0 Tryd.underlying22 Hi.out _ [] rfl (OwnB.lit0 w4 5 w4.heap.size w4.heap.size rfl (Nat.le_refl _)) w4.heap.size Ab _ cb b rfl Hnb.out (HRb4.out.alloc (Nat.le_refl _) _) (by simp; omega) (by simp) ?_); intro v5 w5 ho5 _ _ hb5; rw [List.nil_append] at ho5; have Ho5 := Lib.hid ho5; have HB5 := Lib.hid (((Below.refl _ _).alloc (Nat.le_refl _) _).trans hb5); have HU5 := Lib.hid (U3.out.below HB5.out); clear ho5 hb5)
    | (at_builtin; (refine wpList_appB _ rfl (.tmp 17) (.tmp 18) 22 rfl w4.heap.size 5 i0 Tryd.underlying22 Hi.out v5 b rfl Ho5.out w4.heap.size A4 _ c4 M rfl rfl HU5.out (by rw [Hml.out]; omega) HB5.out.size ?_); intro v6 w6 ho6 _ _ hb6))

  go_ret
  exact ⟨v6, rfl, by rw [mtag, ← HM.out]; exact ho6.weak (Nat.le_trans (Nat.le_of_lt HgB.out) HF4.out.size), HB.out.trans ((HF4.out.trans ((HB5.out.trans hb6).mono HF4.out.size)).mono (Nat.le_of_lt HgB.out))⟩
end Mc
end Go.Proofs.YtlkcibhdnicpkaaDoor
