/- What the reference lays and takes off of numbers and texts: the same as the program. -/
import Derived.Test.YtcbkhbnemhkheaaDoorP01
import Derived.Test.YtcbkhbnemhkheaaDoorP02
import Derived.Test.YtcbkhbnemhkheaaDoorP03
import Derived.Test.YtcbkhbnemhkheaaDoorP04
import Derived.Test.YtcbkhbnemhkheaaDoorP05
import Derived.Test.YtcbkhbnemhkheaaDoorP06
import Derived.Test.YtcbkhbnemhkheaaDoorP07
import Derived.Test.YtcbkhbnemhkheaaDoorP08
import Derived.Test.YtcbkhbnemhkheaaDoorP09
import Derived.Test.YtcbkhbnemhkheaaDoorP10
import Derived.Test.YtcbkhbnemhkheaaDoorP11
import Derived.BigQuiet
import Derived.StillTailTactics
namespace Go.Proofs.YtcbkhbnemhkheaaDoor
namespace Fr
open Go.RowKit Ba Vm Fm Vi Fi
set_option linter.unusedVariables false

set_option maxHeartbeats 400000 in
theorem num_calls (n : Int) (hn : n ≤ 9223372036854775807) (w : World) : Calls Tryd.prog 36 #[.int .i64 n] w
    fun e w' => ∃ v, e = .returned v ∧ OwnB w' w.heap.size 5 v (num n) ∧ Below w.heap.size w w' := by
  go_enter Tryd.func36, Tryd.ntmps36
  go_wp2_with fail
  refine (rput_calls n hn _).mono ?_
  rintro e w1 ⟨v1, rfl, ho1, hb1⟩
  go_wp2_with fail
  go_ret
  exact ⟨v1, rfl, ho1, hb1⟩

theorem blk_cell {w : World} {g : Nat} {x y : Value} {t : TypeId} (h : w.heap[g]? = some (.cells #[x, y] t (0, 0))) :
    w.cell? ⟨g, 0, none⟩ = some x ∧ w.cell? ⟨g, 1, none⟩ = some y ∧ w.frozen? ⟨g, 0, none⟩ = false ∧ w.frozen? ⟨g, 1, none⟩ = false :=
  ⟨by rw [cell_of_row w g 0 _ t _ h]; rfl, by rw [cell_of_row w g 1 _ t _ h]; rfl, frozen_of_row w g 0 _ t h, frozen_of_row w g 1 _ t h⟩
/-- the reference's reader, as a value -/
theorem strof_take (W : World) (A : Option Addr) (c B m : Nat) (l : List UInt8) (h : ReadB W B A l) (hm : m ≤ l.length) : (convert 22 9 (.slice A m c)).run Tryd.prog W = .ok (.string (S (l.take m))) W := by
  have := run_strof W 22 5 Tryd.underlying22 Tryd.underlying5 A c B (l.take m) (h.take m) 9 Tryd.underlying9
  rw [List.length_take, Nat.min_eq_left hm] at this
  exact this
def IsV (w : World) (B : Nat) (v : Value) (r : Rd) : Prop := ∃ A c, v = .agg #[.slice A r.l.length c, .int .i64 r.e] ∧ r.l.length ≤ c ∧ c ≤ 9223372036854775807 ∧ ReadB w B A r.l
theorem IsV.below {w w' : World} {B : Nat} {v : Value} {r : Rd} (h : IsV w B v r) (hb : Below B w w') : IsV w' B v r := by
  obtain ⟨A, c, h1, h2, h3, h4⟩ := h
  exact ⟨A, c, h1, h2, h3, h4.below hb⟩

theorem fail_calls (B : Nat) (v : Value) (r : Rd) (d : Int) (w : World) (h : IsV w B v r) (hB : B ≤ w.heap.size) :
    Calls Tryd.prog 61 #[v, .int .i64 d] w fun e w' => ∃ v', e = .returned v' ∧ IsV w' B v' ⟨r.l, d⟩ ∧ Below w.heap.size w w' := by
  obtain ⟨A, c, rfl, h2, h3, h4⟩ := h
  go_enter Tryd.func61, Tryd.ntmps61
  go_wp2
  refine bodyPost_ret (v := .agg #[.slice A r.l.length c, .int .i64 d]) (by simp [results, Tryd.results61, go_sem]) rfl ?_
  exact ⟨_, rfl, ⟨A, c, rfl, h2, h3, h4.below (Below.mono (by repeat (first | exact Below.refl _ _ | (refine Below.alloc ?_ (by first | (simp; done) | (simp; omega)) _) | (refine Below.setCell ?_ (by first | (simp; done) | (simp; omega)) _) | refine Below.drew ?_)) hB)⟩, (by repeat (first | exact Below.refl _ _ | (refine Below.alloc ?_ (by first | (simp; done) | (simp; omega)) _) | (refine Below.setCell ?_ (by first | (simp; done) | (simp; omega)) _) | refine Below.drew ?_))⟩

set_option maxHeartbeats 800000 in
theorem rnum_calls (B : Nat) (v : Value) (r : Rd) (most : Int) (w : World) (h : IsV w B v r) (hB : B ≤ w.heap.size) :
    Calls Tryd.prog 43 #[v, .int .i64 most] w fun e w' => ∃ v', e = .returned (.tuple #[v', .int .i64 ((r.num most).2 : Int)]) ∧ IsV w' B v' (r.num most).1 ∧ Below w.heap.size w w' := by
  have hsb := shortest_bound r.l
  obtain ⟨n, u, x, hs⟩ : ∃ n u x, shortest r.l = (n, u, x) := ⟨_, _, _, rfl⟩
  have hr : r.num most = if r.e ≠ 0 then (r, 0) else if x ≠ 0 then (⟨r.l, x⟩, 0) else if most < (n : Int) then (⟨r.l, 5⟩, 0) else (⟨r.l.drop u, 0⟩, n) := by unfold Rd.num; rw [hs]
  rw [hs] at hsb
  simp only at hsb
  obtain ⟨_, hul, hx, hu8, hu1⟩ := hsb
  have Hs := Lib.hid hs
  clear hs
  have Hh := Lib.hid h
  obtain ⟨A, c, rfl, h2, h3, h4⟩ := h
  by_cases he : r.e = 0
  · have hd0 : (r.e != 0) = false := by rw [bne_eq_false_iff_eq]; exact he
    rw [if_neg (by simpa using he)] at hr
    have He := Lib.hid he
    clear he
    have hcall : ∀ W, Below w.heap.size w W → Calls Tryd.prog 60 #[.slice A r.l.length c] W fun e w' => e = .returned (.tuple #[.int .i64 n, .int .i64 u, .int .i64 x]) ∧ W = w' := fun W hW => by
      have := rshortest_calls r.l A c B W (h4.below (hW.mono hB)) h2 h3
      rw [Hs.out] at this
      exact this
    have Hc := Lib.hid hcall
    clear hcall
    by_cases hx0 : x = 0
    · rw [if_neg (by simpa using hx0)] at hr
      subst hx0
      have hu1 := hu1 rfl
      clear hx
      by_cases hmo : most < (n : Int)
      · rw [if_pos hmo] at hr
        have Hr := Lib.hid hr
        clear hr
        go_enter Tryd.func43, Tryd.ntmps43
        go_wp2_with (first
        | (go_at_call 60; go_must (refine (Hc.out _ (by repeat (first | exact Below.refl _ _ | (refine Below.alloc ?_ (by first | (simp; done) | (simp; omega)) _) | (refine Below.setCell ?_ (by first | (simp; done) | (simp; omega)) _) | refine Below.drew ?_))).mono ?_); rintro e w1 ⟨rfl, rfl⟩)
        | (go_at_call 61; go_must (refine (fail_calls B _ r 5 _ (Hh.out.below (Below.mono (by repeat (first | exact Below.refl _ _ | (refine Below.alloc ?_ (by first | (simp; done) | (simp; omega)) _) | (refine Below.setCell ?_ (by first | (simp; done) | (simp; omega)) _) | refine Below.drew ?_)) hB)) (Nat.le_trans hB (by first | (simp; done) | (simp; omega)))).mono ?_); rintro e w2 ⟨v2, rfl, hv2, hb2⟩; obtain ⟨A2, c2, rfl, k2, k3, k4⟩ := hv2; obtain ⟨q1, q2⟩ := bcell hb2; have Hb2 := Lib.hid hb2; have K4 := Lib.hid k4; clear hb2 k4))
        refine bodyPost_ret (v := .tuple #[.agg #[.slice A2 r.l.length c2, .int .i64 5], .int .i64 0]) (by simp [results, Tryd.results43, go_sem, q1, q2]) rfl ?_
        have hbw : Below w.heap.size w w2 := Below.trans (b := _) (by repeat (first | exact Below.refl _ _ | (refine Below.alloc ?_ (by first | (simp; done) | (simp; omega)) _) | (refine Below.setCell ?_ (by first | (simp; done) | (simp; omega)) _) | refine Below.drew ?_)) (Hb2.out.mono (by first | (simp; done) | (simp; omega)))
        exact ⟨_, by rw [Hr.out]; rfl, by rw [Hr.out]; exact ⟨A2, c2, rfl, k2, k3, K4.out.setFar (Nat.le_trans hB (by first | (simp; done) | (simp; omega))) _ |>.setFar (Nat.le_trans hB (by first | (simp; done) | (simp; omega))) _⟩, (by repeat (first | exact hbw | exact Below.refl _ _ | (refine Below.alloc ?_ (by have := hbw.size; simp; omega) _) | (refine Below.setCell ?_ (by first | (simp; done) | (simp; omega)) _) | refine Below.drew ?_))⟩
      · rw [if_neg hmo] at hr
        have Hr := Lib.hid hr
        have hL : (r.l.drop u).length = r.l.length - u := List.length_drop
        have HL := Lib.hid hL
        clear hr hL
        obtain ⟨ab, ao, rfl, hab, hcell⟩ := h4 (by omega)
        have H4 := Lib.hid h4
        clear h4 hcell
        by_cases hcu : c = u
        · subst hcu
          have e0 : r.l.length - c = 0 := by omega
          have E0 := Lib.hid e0
          clear e0
          go_enter Tryd.func43, Tryd.ntmps43
          go_wp2_with (go_at_call 60; go_must (refine (Hc.out _ (by repeat (first | exact Below.refl _ _ | (refine Below.alloc ?_ (by first | (simp; done) | (simp; omega)) _) | (refine Below.setCell ?_ (by first | (simp; done) | (simp; omega)) _) | refine Below.drew ?_))).mono ?_); rintro e w1 ⟨rfl, rfl⟩)
          refine bodyPost_ret (v := .tuple #[.agg #[.slice (some ⟨ab, ao, none⟩) 0 0, .int .i64 0], .int .i64 n]) (by simp [results, Tryd.results43, go_sem]) rfl ?_
          refine ⟨_, by rw [Hr.out], ?_, (by repeat (first | exact Below.refl _ _ | (refine Below.alloc ?_ (by first | (simp; done) | (simp; omega)) _) | (refine Below.setCell ?_ (by first | (simp; done) | (simp; omega)) _) | refine Below.drew ?_))⟩
          rw [Hr.out]
          refine ⟨_, _, by rw [HL.out, E0.out], by rw [HL.out, E0.out]; omega, by omega, ?_⟩
          have e : r.l.drop c = [] := List.drop_eq_nil_of_le (by omega)
          show ReadB _ _ _ (r.l.drop c)
          rw [e]; exact ReadB.nil
        · go_enter Tryd.func43, Tryd.ntmps43
          go_wp2_with (go_at_call 60; go_must (refine (Hc.out _ (by repeat (first | exact Below.refl _ _ | (refine Below.alloc ?_ (by first | (simp; done) | (simp; omega)) _) | (refine Below.setCell ?_ (by first | (simp; done) | (simp; omega)) _) | refine Below.drew ?_))).mono ?_); rintro e w1 ⟨rfl, rfl⟩)
          refine bodyPost_ret (v := .tuple #[.agg #[.slice (some ⟨ab, ao + u, none⟩) (r.l.length - u) (c - u), .int .i64 0], .int .i64 n]) (by simp [results, Tryd.results43, go_sem]) rfl ?_
          refine ⟨_, by rw [Hr.out], ?_, (by repeat (first | exact Below.refl _ _ | (refine Below.alloc ?_ (by first | (simp; done) | (simp; omega)) _) | (refine Below.setCell ?_ (by first | (simp; done) | (simp; omega)) _) | refine Below.drew ?_))⟩
          rw [Hr.out]
          exact ⟨_, _, by rw [HL.out], by rw [HL.out]; omega, by omega, (H4.out.drop u).below (Below.mono (by repeat (first | exact Below.refl _ _ | (refine Below.alloc ?_ (by first | (simp; done) | (simp; omega)) _) | (refine Below.setCell ?_ (by first | (simp; done) | (simp; omega)) _) | refine Below.drew ?_)) hB)⟩
    · rw [if_pos hx0] at hr
      have Hr := Lib.hid hr
      have hxb : (x != 0) = true := by rw [bne_iff_ne]; exact hx0
      clear hr hx hu1 hx0
      go_enter Tryd.func43, Tryd.ntmps43
      go_wp2_with (first
        | (go_at_call 60; go_must (refine (Hc.out _ (by repeat (first | exact Below.refl _ _ | (refine Below.alloc ?_ (by first | (simp; done) | (simp; omega)) _) | (refine Below.setCell ?_ (by first | (simp; done) | (simp; omega)) _) | refine Below.drew ?_))).mono ?_); rintro e w1 ⟨rfl, rfl⟩)
        | (go_at_call 61; go_must (refine (fail_calls B _ r x _ (Hh.out.below (Below.mono (by repeat (first | exact Below.refl _ _ | (refine Below.alloc ?_ (by first | (simp; done) | (simp; omega)) _) | (refine Below.setCell ?_ (by first | (simp; done) | (simp; omega)) _) | refine Below.drew ?_)) hB)) (Nat.le_trans hB (by first | (simp; done) | (simp; omega)))).mono ?_); rintro e w2 ⟨v2, rfl, hv2, hb2⟩; obtain ⟨A2, c2, rfl, k2, k3, k4⟩ := hv2; obtain ⟨q1, q2⟩ := bcell hb2; have Hb2 := Lib.hid hb2; have K4 := Lib.hid k4; clear hb2 k4))
      refine bodyPost_ret (v := .tuple #[.agg #[.slice A2 r.l.length c2, .int .i64 x], .int .i64 0]) (by simp [results, Tryd.results43, go_sem, q1, q2]) rfl ?_
      have hbw : Below w.heap.size w w2 := Below.trans (b := _) (by repeat (first | exact Below.refl _ _ | (refine Below.alloc ?_ (by first | (simp; done) | (simp; omega)) _) | (refine Below.setCell ?_ (by first | (simp; done) | (simp; omega)) _) | refine Below.drew ?_)) (Hb2.out.mono (by first | (simp; done) | (simp; omega)))
      exact ⟨_, by rw [Hr.out]; rfl, by rw [Hr.out]; exact ⟨A2, c2, rfl, k2, k3, K4.out.setFar (Nat.le_trans hB (by first | (simp; done) | (simp; omega))) _ |>.setFar (Nat.le_trans hB (by first | (simp; done) | (simp; omega))) _⟩, (by repeat (first | exact hbw | exact Below.refl _ _ | (refine Below.alloc ?_ (by have := hbw.size; simp; omega) _) | (refine Below.setCell ?_ (by first | (simp; done) | (simp; omega)) _) | refine Below.drew ?_))⟩
  · have hd0 : (r.e != 0) = true := by rw [bne_iff_ne]; exact he
    rw [if_pos he] at hr
    have Hr := Lib.hid hr
    clear he hr
    go_enter Tryd.func43, Tryd.ntmps43
    go_wp2
    refine bodyPost_ret (v := .tuple #[.agg #[.slice A r.l.length c, .int .i64 r.e], .int .i64 0]) (by simp [results, Tryd.results43, go_sem]) rfl ?_
    exact ⟨_, by rw [Hr.out]; rfl, by rw [Hr.out]; exact ⟨A, c, rfl, h2, h3, h4.below (Below.mono (by repeat (first | exact Below.refl _ _ | (refine Below.alloc ?_ (by first | (simp; done) | (simp; omega)) _) | (refine Below.setCell ?_ (by first | (simp; done) | (simp; omega)) _) | refine Below.drew ?_)) hB)⟩, (by repeat (first | exact Below.refl _ _ | (refine Below.alloc ?_ (by first | (simp; done) | (simp; omega)) _) | (refine Below.setCell ?_ (by first | (simp; done) | (simp; omega)) _) | refine Below.drew ?_))⟩

set_option maxHeartbeats 1600000 in
theorem rraw_calls (B : Nat) (v : Value) (r : Rd) (n : Int) (w : World) (h : IsV w B v r) (hB : B ≤ w.heap.size) :
    Calls Tryd.prog 44 #[v, .int .i64 n] w fun e w' => ∃ v', e = .returned (.tuple #[v', .string (S (r.raw n).2)]) ∧ IsV w' B v' (r.raw n).1 ∧ Below w.heap.size w w' := by
  have hr : r.raw n = if r.e ≠ 0 then (r, []) else if n < 0 then (⟨r.l, 2⟩, []) else if (r.l.length : Int) < n then (⟨r.l, 3⟩, []) else (⟨r.l.drop n.toNat, 0⟩, r.l.take n.toNat) := rfl
  have Hh := Lib.hid h
  obtain ⟨A, c, rfl, h2, h3, h4⟩ := h
  by_cases he : r.e = 0
  · have hd0 : (r.e != 0) = false := by rw [bne_eq_false_iff_eq]; exact he
    rw [if_neg (by simpa using he)] at hr
    have He := Lib.hid he
    clear he
    by_cases hn : n < 0
    · rw [if_pos hn] at hr
      have Hr := Lib.hid hr
      clear hr
      go_enter Tryd.func44, Tryd.ntmps44
      go_wp2_with (go_at_call 61; go_must (refine (fail_calls B _ r 2 _ (Hh.out.below (Below.mono (by repeat (first | exact Below.refl _ _ | (refine Below.alloc ?_ (by first | (simp; done) | (simp; omega)) _) | (refine Below.setCell ?_ (by first | (simp; done) | (simp; omega)) _) | refine Below.drew ?_)) hB)) (Nat.le_trans hB (by first | (simp; done) | (simp; omega)))).mono ?_); rintro e w2 ⟨v2, rfl, hv2, hb2⟩; obtain ⟨A2, c2, rfl, k2, k3, k4⟩ := hv2; obtain ⟨q1, q2⟩ := bcell hb2; have Hb2 := Lib.hid hb2; have K4 := Lib.hid k4; clear hb2 k4)
      refine bodyPost_ret (v := .tuple #[.agg #[.slice A2 r.l.length c2, .int .i64 2], .string (S [])]) (by simp [results, Tryd.results44, go_sem, q1, q2]; rfl) rfl ?_
      have hbw : Below w.heap.size w w2 := Below.trans (b := _) (by repeat (first | exact Below.refl _ _ | (refine Below.alloc ?_ (by first | (simp; done) | (simp; omega)) _) | (refine Below.setCell ?_ (by first | (simp; done) | (simp; omega)) _) | refine Below.drew ?_)) (Hb2.out.mono (by first | (simp; done) | (simp; omega)))
      exact ⟨_, by rw [Hr.out], by rw [Hr.out]; exact ⟨A2, c2, rfl, k2, k3, K4.out.setFar (Nat.le_trans hB (by first | (simp; done) | (simp; omega))) _ |>.setFar (Nat.le_trans hB (by first | (simp; done) | (simp; omega))) _⟩, (by repeat (first | exact hbw | exact Below.refl _ _ | (refine Below.alloc ?_ (by have := hbw.size; simp; omega) _) | (refine Below.setCell ?_ (by first | (simp; done) | (simp; omega)) _) | refine Below.drew ?_))⟩
    · rw [if_neg hn] at hr
      by_cases hl : (r.l.length : Int) < n
      · rw [if_pos hl] at hr
        have Hr := Lib.hid hr
        clear hr
        go_enter Tryd.func44, Tryd.ntmps44
        go_wp2_with (go_at_call 61; go_must (refine (fail_calls B _ r 3 _ (Hh.out.below (Below.mono (by repeat (first | exact Below.refl _ _ | (refine Below.alloc ?_ (by first | (simp; done) | (simp; omega)) _) | (refine Below.setCell ?_ (by first | (simp; done) | (simp; omega)) _) | refine Below.drew ?_)) hB)) (Nat.le_trans hB (by first | (simp; done) | (simp; omega)))).mono ?_); rintro e w2 ⟨v2, rfl, hv2, hb2⟩; obtain ⟨A2, c2, rfl, k2, k3, k4⟩ := hv2; obtain ⟨q1, q2⟩ := bcell hb2; have Hb2 := Lib.hid hb2; have K4 := Lib.hid k4; clear hb2 k4)
        refine bodyPost_ret (v := .tuple #[.agg #[.slice A2 r.l.length c2, .int .i64 3], .string (S [])]) (by simp [results, Tryd.results44, go_sem, q1, q2]; rfl) rfl ?_
        have hbw : Below w.heap.size w w2 := Below.trans (b := _) (by repeat (first | exact Below.refl _ _ | (refine Below.alloc ?_ (by first | (simp; done) | (simp; omega)) _) | (refine Below.setCell ?_ (by first | (simp; done) | (simp; omega)) _) | refine Below.drew ?_)) (Hb2.out.mono (by first | (simp; done) | (simp; omega)))
        exact ⟨_, by rw [Hr.out], by rw [Hr.out]; exact ⟨A2, c2, rfl, k2, k3, K4.out.setFar (Nat.le_trans hB (by first | (simp; done) | (simp; omega))) _ |>.setFar (Nat.le_trans hB (by first | (simp; done) | (simp; omega))) _⟩, (by repeat (first | exact hbw | exact Below.refl _ _ | (refine Below.alloc ?_ (by have := hbw.size; simp; omega) _) | (refine Below.setCell ?_ (by first | (simp; done) | (simp; omega)) _) | refine Below.drew ?_))⟩
      · rw [if_neg hl] at hr
        obtain ⟨m, rfl⟩ : ∃ m : Nat, n = (m : Int) := ⟨n.toNat, by omega⟩
        rw [Int.toNat_natCast] at hr
        have hm : m ≤ r.l.length := by omega
        have Hr := Lib.hid hr
        clear hr hn hl
        rcases Nat.eq_zero_or_pos r.l.length with hl0 | hl0
        · obtain ⟨rl, re⟩ := r
          have hl1 : rl = [] := List.eq_nil_of_length_eq_zero hl0
          subst hl1
          have hm0 : m = 0 := by simpa using hm
          subst hm0
          obtain rfl : re = 0 := He.out
          simp only at h4
          have hm : 0 ≤ ([] : List UInt8).length := Nat.le_refl _
          clear hm hl0 h2 h4
          rcases A with _ | ad
          · by_cases hcu : c = 0
            · subst hcu
              have hbw : Below w.heap.size w ((w.alloc (.cells #[.slice none 0 0, .int .i64 0] 85)).alloc (.cells #[.slice none 0 0, .int .i64 0] 85)) := (((Below.refl w.heap.size w).alloc (Nat.le_refl _) (.cells #[.slice none 0 0, .int .i64 0] 85)).alloc (by simp) (.cells #[.slice none 0 0, .int .i64 0] 85))
              have hg0 := heap_alloc2_old w (.cells #[.slice none 0 0, .int .i64 0] 85) (.cells #[.slice none 0 0, .int .i64 0] 85)
              have hg1 := heap_alloc2_new w (.cells #[.slice none 0 0, .int .i64 0] 85) (.cells #[.slice none 0 0, .int .i64 0] 85)
              go_enter Tryd.func44, Tryd.ntmps44
              go_wp2
              generalize ((w.alloc (.cells #[.slice none 0 0, .int .i64 0] 85)).alloc (.cells #[.slice none 0 0, .int .i64 0] 85)) = W at *
              obtain ⟨c0, c1, f0, f1⟩ := blk_cell hg0
              obtain ⟨d0, d1, e0, e1⟩ := blk_cell hg1
              have hs0 : (convert 22 9 (.slice none 0 0)).run Tryd.prog W.drew = .ok (.string (S [])) W.drew := strof_take W.drew none 0 0 0 [] ReadB.nil (by simp)
              have hs1 : (convert 22 9 (.slice none 0 0)).run Tryd.prog (((W.setCell ⟨w.heap.size + 1, 0, none⟩ (.slice none 0 0)).setCell ⟨w.heap.size + 1, 1, none⟩ (.int .i64 0)).drew) = .ok (.string (S [])) _ := strof_take (((W.setCell ⟨w.heap.size + 1, 0, none⟩ (.slice none 0 0)).setCell ⟨w.heap.size + 1, 1, none⟩ (.int .i64 0)).drew) none 0 0 0 [] ReadB.nil (by simp)
              have Hg1 := Lib.hid hg1
              have Hbw := Lib.hid hbw
              clear hg0 hg1 hbw
              go_region
              go_wp2
              refine bodyPost_ret (v := .tuple #[.agg #[(.slice none 0 0), .int .i64 0], .string (S [])]) (by simp [results, Tryd.results44, go_sem, d0, d1]) rfl ?_
              refine ⟨_, by rw [Hr.out]; rfl, ?_, ((Hbw.out.setCell (by first | (simp; done) | (simp; omega)) _).setCell (by first | (simp; done) | (simp; omega)) _).drew⟩
              rw [Hr.out]
              exact ⟨_, _, rfl, by simp, by omega, ReadB.nil⟩
            · have hbw : Below w.heap.size w ((w.alloc (.cells #[.slice none 0 c, .int .i64 0] 85)).alloc (.cells #[.slice none 0 0, .int .i64 0] 85)) := (((Below.refl w.heap.size w).alloc (Nat.le_refl _) (.cells #[.slice none 0 c, .int .i64 0] 85)).alloc (by simp) (.cells #[.slice none 0 0, .int .i64 0] 85))
              have hg0 := heap_alloc2_old w (.cells #[.slice none 0 c, .int .i64 0] 85) (.cells #[.slice none 0 0, .int .i64 0] 85)
              have hg1 := heap_alloc2_new w (.cells #[.slice none 0 c, .int .i64 0] 85) (.cells #[.slice none 0 0, .int .i64 0] 85)
              go_enter Tryd.func44, Tryd.ntmps44
              go_wp2
              generalize ((w.alloc (.cells #[.slice none 0 c, .int .i64 0] 85)).alloc (.cells #[.slice none 0 0, .int .i64 0] 85)) = W at *
              obtain ⟨c0, c1, f0, f1⟩ := blk_cell hg0
              obtain ⟨d0, d1, e0, e1⟩ := blk_cell hg1
              have hs0 : (convert 22 9 (.slice none 0 c)).run Tryd.prog W.drew = .ok (.string (S [])) W.drew := strof_take W.drew none c 0 0 [] ReadB.nil (by simp)
              have hs1 : (convert 22 9 (.slice none 0 c)).run Tryd.prog (((W.setCell ⟨w.heap.size + 1, 0, none⟩ (.slice none 0 c)).setCell ⟨w.heap.size + 1, 1, none⟩ (.int .i64 0)).drew) = .ok (.string (S [])) _ := strof_take (((W.setCell ⟨w.heap.size + 1, 0, none⟩ (.slice none 0 c)).setCell ⟨w.heap.size + 1, 1, none⟩ (.int .i64 0)).drew) none c 0 0 [] ReadB.nil (by simp)
              have Hg1 := Lib.hid hg1
              have Hbw := Lib.hid hbw
              clear hg0 hg1 hbw
              go_region
              go_wp2
              refine bodyPost_ret (v := .tuple #[.agg #[(.slice none 0 c), .int .i64 0], .string (S [])]) (by simp [results, Tryd.results44, go_sem, d0, d1]) rfl ?_
              refine ⟨_, by rw [Hr.out]; rfl, ?_, ((Hbw.out.setCell (by first | (simp; done) | (simp; omega)) _).setCell (by first | (simp; done) | (simp; omega)) _).drew⟩
              rw [Hr.out]
              exact ⟨_, _, rfl, by simp, by omega, ReadB.nil⟩
          · by_cases hcu : c = 0
            · subst hcu
              have hbw : Below w.heap.size w ((w.alloc (.cells #[.slice (some ad) 0 0, .int .i64 0] 85)).alloc (.cells #[.slice none 0 0, .int .i64 0] 85)) := (((Below.refl w.heap.size w).alloc (Nat.le_refl _) (.cells #[.slice (some ad) 0 0, .int .i64 0] 85)).alloc (by simp) (.cells #[.slice none 0 0, .int .i64 0] 85))
              have hg0 := heap_alloc2_old w (.cells #[.slice (some ad) 0 0, .int .i64 0] 85) (.cells #[.slice none 0 0, .int .i64 0] 85)
              have hg1 := heap_alloc2_new w (.cells #[.slice (some ad) 0 0, .int .i64 0] 85) (.cells #[.slice none 0 0, .int .i64 0] 85)
              go_enter Tryd.func44, Tryd.ntmps44
              go_wp2
              generalize ((w.alloc (.cells #[.slice (some ad) 0 0, .int .i64 0] 85)).alloc (.cells #[.slice none 0 0, .int .i64 0] 85)) = W at *
              obtain ⟨c0, c1, f0, f1⟩ := blk_cell hg0
              obtain ⟨d0, d1, e0, e1⟩ := blk_cell hg1
              have hs0 : (convert 22 9 (.slice (some ad) 0 0)).run Tryd.prog W.drew = .ok (.string (S [])) W.drew := strof_take W.drew (some ad) 0 0 0 [] ReadB.nil (by simp)
              have hs1 : (convert 22 9 (.slice (some ad) 0 0)).run Tryd.prog (((W.setCell ⟨w.heap.size + 1, 0, none⟩ (.slice (some ad) 0 0)).setCell ⟨w.heap.size + 1, 1, none⟩ (.int .i64 0)).drew) = .ok (.string (S [])) _ := strof_take (((W.setCell ⟨w.heap.size + 1, 0, none⟩ (.slice (some ad) 0 0)).setCell ⟨w.heap.size + 1, 1, none⟩ (.int .i64 0)).drew) (some ad) 0 0 0 [] ReadB.nil (by simp)
              have Hg1 := Lib.hid hg1
              have Hbw := Lib.hid hbw
              clear hg0 hg1 hbw
              go_region
              go_wp2
              refine bodyPost_ret (v := .tuple #[.agg #[(.slice (some ad) 0 0), .int .i64 0], .string (S [])]) (by simp [results, Tryd.results44, go_sem, d0, d1]) rfl ?_
              refine ⟨_, by rw [Hr.out]; rfl, ?_, ((Hbw.out.setCell (by first | (simp; done) | (simp; omega)) _).setCell (by first | (simp; done) | (simp; omega)) _).drew⟩
              rw [Hr.out]
              exact ⟨_, _, rfl, by simp, by omega, ReadB.nil⟩
            · have hbw : Below w.heap.size w ((w.alloc (.cells #[.slice (some ad) 0 c, .int .i64 0] 85)).alloc (.cells #[.slice none 0 0, .int .i64 0] 85)) := (((Below.refl w.heap.size w).alloc (Nat.le_refl _) (.cells #[.slice (some ad) 0 c, .int .i64 0] 85)).alloc (by simp) (.cells #[.slice none 0 0, .int .i64 0] 85))
              have hg0 := heap_alloc2_old w (.cells #[.slice (some ad) 0 c, .int .i64 0] 85) (.cells #[.slice none 0 0, .int .i64 0] 85)
              have hg1 := heap_alloc2_new w (.cells #[.slice (some ad) 0 c, .int .i64 0] 85) (.cells #[.slice none 0 0, .int .i64 0] 85)
              go_enter Tryd.func44, Tryd.ntmps44
              go_wp2
              generalize ((w.alloc (.cells #[.slice (some ad) 0 c, .int .i64 0] 85)).alloc (.cells #[.slice none 0 0, .int .i64 0] 85)) = W at *
              obtain ⟨c0, c1, f0, f1⟩ := blk_cell hg0
              obtain ⟨d0, d1, e0, e1⟩ := blk_cell hg1
              have hs0 : (convert 22 9 (.slice (some ad) 0 c)).run Tryd.prog W.drew = .ok (.string (S [])) W.drew := strof_take W.drew (some ad) c 0 0 [] ReadB.nil (by simp)
              have hs1 : (convert 22 9 (.slice (some ad) 0 c)).run Tryd.prog (((W.setCell ⟨w.heap.size + 1, 0, none⟩ (.slice (some ad) 0 c)).setCell ⟨w.heap.size + 1, 1, none⟩ (.int .i64 0)).drew) = .ok (.string (S [])) _ := strof_take (((W.setCell ⟨w.heap.size + 1, 0, none⟩ (.slice (some ad) 0 c)).setCell ⟨w.heap.size + 1, 1, none⟩ (.int .i64 0)).drew) (some ad) c 0 0 [] ReadB.nil (by simp)
              have Hg1 := Lib.hid hg1
              have Hbw := Lib.hid hbw
              clear hg0 hg1 hbw
              go_region
              go_wp2
              refine bodyPost_ret (v := .tuple #[.agg #[(.slice (some ad) 0 c), .int .i64 0], .string (S [])]) (by simp [results, Tryd.results44, go_sem, d0, d1]) rfl ?_
              refine ⟨_, by rw [Hr.out]; rfl, ?_, ((Hbw.out.setCell (by first | (simp; done) | (simp; omega)) _).setCell (by first | (simp; done) | (simp; omega)) _).drew⟩
              rw [Hr.out]
              exact ⟨_, _, rfl, by simp, by omega, ReadB.nil⟩
        · obtain ⟨ab, ao, rfl, hab, hcell⟩ := h4 hl0
          clear hcell hl0
          have hL : (r.l.drop m).length = r.l.length - m := List.length_drop
          have HL := Lib.hid hL
          clear hL
          by_cases hcu : c = m
          · subst hcu
            have e0 : r.l.length - c = 0 := by omega
            have EE0 := Lib.hid e0
            clear e0
            have hbw : Below w.heap.size w ((w.alloc (.cells #[.slice (some ⟨ab, ao, none⟩) r.l.length c, .int .i64 r.e] 85)).alloc (.cells #[.slice none 0 0, .int .i64 0] 85)) := (((Below.refl w.heap.size w).alloc (Nat.le_refl _) (.cells #[.slice (some ⟨ab, ao, none⟩) r.l.length c, .int .i64 r.e] 85)).alloc (by simp) (.cells #[.slice none 0 0, .int .i64 0] 85))
            have hrb := h4.below (hbw.mono hB)
            have hg0 := heap_alloc2_old w (.cells #[.slice (some ⟨ab, ao, none⟩) r.l.length c, .int .i64 r.e] 85) (.cells #[.slice none 0 0, .int .i64 0] 85)
            have hg1 := heap_alloc2_new w (.cells #[.slice (some ⟨ab, ao, none⟩) r.l.length c, .int .i64 r.e] 85) (.cells #[.slice none 0 0, .int .i64 0] 85)
            go_enter Tryd.func44, Tryd.ntmps44
            go_wp2
            generalize ((w.alloc (.cells #[.slice (some ⟨ab, ao, none⟩) r.l.length c, .int .i64 r.e] 85)).alloc (.cells #[.slice none 0 0, .int .i64 0] 85)) = W at *
            obtain ⟨c0, c1, f0, f1⟩ := blk_cell hg0
            obtain ⟨d0, d1, e0, e1⟩ := blk_cell hg1
            have hs0 := strof_take W.drew _ c B c _ hrb hm
            have hs1 := strof_take (((W.setCell ⟨w.heap.size + 1, 0, none⟩ (.slice (some ⟨ab, ao, none⟩) 0 0)).setCell ⟨w.heap.size + 1, 1, none⟩ (.int .i64 0)).drew) _ c B c _ ((hrb.setFar (by simp; omega) _).setFar (by simp; omega) _) hm
            have Hg1 := Lib.hid hg1
            have Hrb := Lib.hid hrb
            have Hbw := Lib.hid hbw
            clear hg0 hg1 hrb hbw
            go_region
            go_wp2
            refine bodyPost_ret (v := .tuple #[.agg #[(.slice (some ⟨ab, ao, none⟩) 0 0), .int .i64 0], .string (S (r.l.take c))]) (by simp [results, Tryd.results44, go_sem, d0, d1]) rfl ?_
            have hfr := (Hrb.out.setFar (p := ⟨w.heap.size + 1, 0, none⟩) (Nat.le_trans hB (by first | (simp; done) | (simp; omega))) (.slice (some ⟨ab, ao, none⟩) 0 0)).setFar (p := ⟨w.heap.size + 1, 1, none⟩) (Nat.le_trans hB (by first | (simp; done) | (simp; omega))) (.int .i64 0)
            refine ⟨_, by rw [Hr.out], ?_, ((Hbw.out.setCell (by first | (simp; done) | (simp; omega)) _).setCell (by first | (simp; done) | (simp; omega)) _).drew⟩
            rw [Hr.out]
            refine ⟨_, _, by rw [HL.out, EE0.out], by rw [HL.out, EE0.out]; omega, by omega, ?_⟩
            have e : r.l.drop c = [] := List.drop_eq_nil_of_le (by omega)
            show ReadB _ _ _ (r.l.drop c)
            rw [e]; exact ReadB.nil
          · have hbw : Below w.heap.size w ((w.alloc (.cells #[.slice (some ⟨ab, ao, none⟩) r.l.length c, .int .i64 r.e] 85)).alloc (.cells #[.slice none 0 0, .int .i64 0] 85)) := (((Below.refl w.heap.size w).alloc (Nat.le_refl _) (.cells #[.slice (some ⟨ab, ao, none⟩) r.l.length c, .int .i64 r.e] 85)).alloc (by simp) (.cells #[.slice none 0 0, .int .i64 0] 85))
            have hrb := h4.below (hbw.mono hB)
            have hg0 := heap_alloc2_old w (.cells #[.slice (some ⟨ab, ao, none⟩) r.l.length c, .int .i64 r.e] 85) (.cells #[.slice none 0 0, .int .i64 0] 85)
            have hg1 := heap_alloc2_new w (.cells #[.slice (some ⟨ab, ao, none⟩) r.l.length c, .int .i64 r.e] 85) (.cells #[.slice none 0 0, .int .i64 0] 85)
            go_enter Tryd.func44, Tryd.ntmps44
            go_wp2
            generalize ((w.alloc (.cells #[.slice (some ⟨ab, ao, none⟩) r.l.length c, .int .i64 r.e] 85)).alloc (.cells #[.slice none 0 0, .int .i64 0] 85)) = W at *
            obtain ⟨c0, c1, f0, f1⟩ := blk_cell hg0
            obtain ⟨d0, d1, e0, e1⟩ := blk_cell hg1
            have hs0 := strof_take W.drew _ c B m _ hrb hm
            have hs1 := strof_take (((W.setCell ⟨w.heap.size + 1, 0, none⟩ (.slice (some ⟨ab, ao + m, none⟩) (r.l.length - m) (c - m))).setCell ⟨w.heap.size + 1, 1, none⟩ (.int .i64 0)).drew) _ c B m _ ((hrb.setFar (by simp; omega) _).setFar (by simp; omega) _) hm
            have Hg1 := Lib.hid hg1
            have Hrb := Lib.hid hrb
            have Hbw := Lib.hid hbw
            clear hg0 hg1 hrb hbw
            go_region
            go_wp2
            refine bodyPost_ret (v := .tuple #[.agg #[(.slice (some ⟨ab, ao + m, none⟩) (r.l.length - m) (c - m)), .int .i64 0], .string (S (r.l.take m))]) (by simp [results, Tryd.results44, go_sem, d0, d1]) rfl ?_
            have hfr := (Hrb.out.setFar (p := ⟨w.heap.size + 1, 0, none⟩) (Nat.le_trans hB (by first | (simp; done) | (simp; omega))) (.slice (some ⟨ab, ao + m, none⟩) (r.l.length - m) (c - m))).setFar (p := ⟨w.heap.size + 1, 1, none⟩) (Nat.le_trans hB (by first | (simp; done) | (simp; omega))) (.int .i64 0)
            refine ⟨_, by rw [Hr.out], ?_, ((Hbw.out.setCell (by first | (simp; done) | (simp; omega)) _).setCell (by first | (simp; done) | (simp; omega)) _).drew⟩
            rw [Hr.out]
            exact ⟨_, _, by rw [HL.out], by rw [HL.out]; omega, by omega, hfr.drop m⟩
  · have hd0 : (r.e != 0) = true := by rw [bne_iff_ne]; exact he
    rw [if_pos he] at hr
    have Hr := Lib.hid hr
    clear he hr
    go_enter Tryd.func44, Tryd.ntmps44
    go_wp2
    refine bodyPost_ret (v := .tuple #[.agg #[.slice A r.l.length c, .int .i64 r.e], .string (S [])]) (by simp [results, Tryd.results44, go_sem]; rfl) rfl ?_
    exact ⟨_, by rw [Hr.out], by rw [Hr.out]; exact ⟨A, c, rfl, h2, h3, h4.below (Below.mono (by repeat (first | exact Below.refl _ _ | (refine Below.alloc ?_ (by first | (simp; done) | (simp; omega)) _) | (refine Below.setCell ?_ (by first | (simp; done) | (simp; omega)) _) | refine Below.drew ?_)) hB)⟩, (by repeat (first | exact Below.refl _ _ | (refine Below.alloc ?_ (by first | (simp; done) | (simp; omega)) _) | (refine Below.setCell ?_ (by first | (simp; done) | (simp; omega)) _) | refine Below.drew ?_))⟩
end Fr
end Go.Proofs.YtcbkhbnemhkheaaDoor
/- What the reference's reader takes off: texts, bytes; whether all is done. -/
namespace Go.Proofs.YtcbkhbnemhkheaaDoor
namespace Fr
open Go.RowKit Ba Vm Fm Vi Fi
set_option linter.unusedVariables false

theorem rdone_calls (B : Nat) (v : Value) (r : Rd) (w : World) (h : IsV w B v r) :
    Calls Tryd.prog 45 #[v] w fun e w' => e = .returned (.int .i64 r.done) ∧ Below w.heap.size w w' := by
  obtain ⟨A, c, rfl, h2, h3, h4⟩ := h
  by_cases he : r.e = 0
  · have hd0 : (r.e == 0) = true := by rw [beq_iff_eq]; exact he
    by_cases hl : 0 < r.l.length
    · have hd : r.done = 4 := by unfold Rd.done; rw [if_neg (by simpa using he), if_pos hl]
      have Hd := Lib.hid hd
      clear he hd
      go_enter Tryd.func45, Tryd.ntmps45
      go_wp2
      go_ret
      exact ⟨by rw [Hd.out]; rfl, (by repeat (first | exact Below.refl _ _ | (refine Below.alloc ?_ (by first | (simp; done) | (simp; omega)) _) | (refine Below.setCell ?_ (by first | (simp; done) | (simp; omega)) _) | refine Below.drew ?_))⟩
    · have hd : r.done = 0 := by unfold Rd.done; rw [if_neg (by simpa using he), if_neg hl]
      have Hd := Lib.hid hd
      have He := Lib.hid he
      clear he hd
      go_enter Tryd.func45, Tryd.ntmps45
      go_wp2
      go_ret
      exact ⟨by rw [Hd.out]; exact congrArg (fun x => Ending.returned (.int .i64 x)) He.out, (by repeat (first | exact Below.refl _ _ | (refine Below.alloc ?_ (by first | (simp; done) | (simp; omega)) _) | (refine Below.setCell ?_ (by first | (simp; done) | (simp; omega)) _) | refine Below.drew ?_))⟩
  · have hd0 : (r.e == 0) = false := by rw [beq_eq_false_iff_ne]; exact he
    have hd : r.done = r.e := by unfold Rd.done; rw [if_pos he]
    have Hd := Lib.hid hd
    clear he hd
    go_enter Tryd.func45, Tryd.ntmps45
    go_wp2
    go_ret
    exact ⟨by rw [Hd.out]; rfl, (by repeat (first | exact Below.refl _ _ | (refine Below.alloc ?_ (by first | (simp; done) | (simp; omega)) _) | (refine Below.setCell ?_ (by first | (simp; done) | (simp; omega)) _) | refine Below.drew ?_))⟩

end Fr
end Go.Proofs.YtcbkhbnemhkheaaDoor
/- Sums as bytes, of the document's answer. -/
namespace Go.Proofs.YtcbkhbnemhkheaaDoor
namespace Bk
open Go.RowKit Ba Sm Ro
set_option linter.unusedVariables false
theorem step_store_row {P : Program} {ops : Array Oper} {o : Oper} {a : Act} {w : World} {K : Act → World → Prop} {Q : Exit → Act → World → Prop} {R : Prop} (hgd : Region.wanted o (yielded ops a.tmps) = true) (ty : TypeId) (x y : Operand) (ho : o.op = .store ty x y)
    (g : Nat) (cells : Array Value) (hx : a.eval x = .pointer (some ⟨g, 0, none⟩)) (hy : a.eval y = .agg cells) (t : TypeId) (old : Array Value) (hg : Blk w g t old) (hi : (P.info? ty).map (·.size) = some cells.size) (hold : old.size = cells.size) (h1 : cells.all (·.oneCell') = true)
    (h : ∀ w', Blk w' g t cells → w.grownBy w' (some g) → K (a.put o.dst undef) w') : if Region.wanted o (yielded ops a.tmps) = true then Oper.wp P o a w K Q else R := by
  rw [if_pos hgd]
  exact wp_store_row ty x y ho g cells hx hy t old hg hi hold h1 (h _ (setRow_heap w g _ _ t _ hg) ⟨rfl, rfl, rfl, by simp, fun k hk hne => setRow_other w g k _ (fun e => hne (by rw [e]))⟩)
theorem blkB_read {w : World} {g : Nat} {t : TypeId} {l : List UInt8} (h : Blk w g t (bvs l).toArray) : ReadB w w.heap.size (some ⟨g, 0, none⟩) l := fun hn => ⟨g, 0, rfl, h.lt, fun k hk => by
  rw [Nat.zero_add, Blk.cell h, List.getElem?_toArray]
  exact bvs_get l k hk⟩
theorem be4_vals (N : Nat) : [Value.int .u8 ((N : Int) / 16777216 % 256), .int .u8 ((N : Int) / 65536 % 256), .int .u8 ((N : Int) / 256 % 256), .int .u8 ((N : Int) % 256)] = bvs (Vm.be 4 N) := by
  have h : ∀ m : Nat, Value.int .u8 ((N : Int) / ((256 ^ m : Nat) : Int) % 256) = bv (UInt8.ofNat (N / 256 ^ m)) := fun m => by
    unfold bv
    rw [UInt8.toNat_ofNat']
    rfl
  have h3 := h 3
  have h2 := h 2
  have h1 := h 1
  have h0 := h 0
  simp only [Vm.be, bvs, List.map_cons, List.map_nil]
  rw [← h3, ← h2, ← h1, ← h0]
  simp
set_option maxRecDepth 100000 in
set_option maxHeartbeats 4000000 in
theorem rput_calls (size n : Int) (l : List Sg) (L : Option Addr) (d : Nat) (hs : -9223372036854775808 ≤ size ∧ size ≤ 9223372036854775807) (hn : -9223372036854775808 ≤ n ∧ n ≤ 9223372036854775807) (hld : l.length ≤ 9223372036854775807) (w : World) (hL : ReadRow sgv 33 w w.heap.size L l) :
    Calls Tryd.prog 24 #[.int .i64 size, .int .i64 n, .slice L l.length d] w
      fun e w' => ∃ v, e = .returned (.tuple #[v, .int .i64 (put size n l).2]) ∧ OwnB w' w.heap.size 5 v (put size n l).1 ∧ Below w.heap.size w w' := by
  have hc := fun w => rcheck_calls size n L l.length d hs hn hld w
  by_cases hq : check size n l.length = 0
  · have hp : put size n l = (Fm.num size ++ Fm.num n ++ sgsB l, 0) := by unfold put; rw [if_neg (by simpa using hq)]
    rw [hp]
    rw [hq] at hc
    have hb0 : l.length ≤ 4096 := by
      unfold check at hq
      split at hq
      · omega
      · split at hq
        · omega
        · split at hq <;> omega
    obtain ⟨i0, hi0⟩ := isByte_of info5
    have Hi := Lib.hid hi0
    have hl1 := Fm.num_len size
    have hl2 := Fm.num_len n
    obtain ⟨P1, hP1⟩ : ∃ P, Fm.num size = P := ⟨_, rfl⟩
    obtain ⟨P2, hP2⟩ : ∃ P, Fm.num n = P := ⟨_, rfl⟩
    have hn1 := fun w => Fr.num_calls size hs.2 w
    have hn2 := fun w => Fr.num_calls n hn.2 w
    rw [hP1] at hn1 hl1 ⊢
    rw [hP2] at hn2 hl2 ⊢
    obtain ⟨P, hP⟩ : ∃ P, P = P1 ++ P2 := ⟨_, rfl⟩
    rw [← hP]
    have HP := Lib.hid hP
    have hPl : P.length ≤ 16 := by rw [hP, List.length_append]; omega
    clear hP
    obtain ⟨N, hN⟩ : ∃ N, N = l.length := ⟨_, rfl⟩
    rw [← hN] at hc hb0 ⊢
    have HN := Lib.hid hN
    have Hc := Lib.hid hc
    have HL := Lib.hid hL
    have H1 := Lib.hid hn1
    have H2 := Lib.hid hn2
    have hwl : ∀ s ∈ l, s.2.length = 32 := fun s hs => by
      have := (hL.1 s hs).1
      simpa [sgv, bvs_length] using this
    have Hwl := Lib.hid hwl
    clear hN hc hL hn1 hn2 hP1 hP2 hq hp hi0 hwl
    go_enter Tryd.func24, Tryd.ntmps24
    go_wp2_with (go_at_call 16; refine (Hc.out _).mono ?_; rintro e w1 ⟨rfl, rfl⟩)
    refine Calls.mono (H1.out _) ?_
    rintro e w1 ⟨v1, rfl, ho1, hb1⟩
    have HO1 := Lib.hid ho1
    have HB1 := Lib.hid hb1
    clear ho1 hb1
    go_wp2_with fail
    refine Calls.mono (H2.out _) ?_
    rintro e w2 ⟨v2, rfl, ho2, hb2⟩
    obtain ⟨A2, c2, rfl, q1, q2, q3, q4⟩ := ho2.opens
    have HB2 := Lib.hid (HB1.out.trans (hb2.mono HB1.out.size))
    have HO2 := Lib.hid (HO1.out.keptB hb2)
    have HR2 := Lib.hid q3
    clear ho2 hb2 q3 q4 HO1 HB1
    go_wp2_with (at_builtin; go_loud (refine wpList_appB _ rfl (.tmp 21) (.tmp 23) 22 rfl w.heap.size 5 i0 Tryd.underlying22 Hi.out _ P1 rfl HO2.out w2.heap.size A2 P2.length c2 P2 rfl rfl HR2.out (by omega) HB2.out.size ?_); intro v3 w3 ho3 _ _ hb3; have HO3 := Lib.hid ho3; have HB3 := Lib.hid (HB2.out.trans hb3); clear ho3 hb3)
    rw [← HP.out] at HO3
    go_loopg [9, 10] N (fun q v9 v10 wr => ∃ k : Nat, k ≤ N ∧ q = N - k ∧ v10 = .int .i64 (k : Int) ∧ OwnB wr w.heap.size 5 v9 (P ++ sgsB (l.take k)) ∧ Below w.heap.size w wr)
    case atStart => exact ⟨0, by omega, rfl, rfl, by rw [List.take_zero]; simpa [sgsB] using HO3.out, HB3.out⟩
    case round =>
      obtain ⟨k, hk, hq, rfl, ho, hB⟩ := hrel
      have Hq := Lib.hid hq
      have HO := Lib.hid ho
      have HB := Lib.hid hB
      clear hq ho hB HO3 HB3
      by_cases hkn : k < N
      · have t1 : decide ((k : Int) < (N : Int)) = true := decide_eq_true (by omega)
        have hkl : k < l.length := by rw [← HN.out]; exact hkn
        obtain ⟨b1, o1, rfl, hb1, hc1⟩ := HL.out.at_ (sg_get (l := l) (k := k) hkl)
        obtain ⟨x1, x2, hx⟩ : ∃ x1 x2, sg l k = (x1, x2) := ⟨_, _, rfl⟩
        have hl2 := rw_len HL.out.1 hkl
        have hst := sgsB_take l k hkl
        have hsl := sgsB_len (l.take k) (fun s hs => Hwl.out s (List.mem_of_mem_take hs))
        rw [hx] at hc1 hl2 hst
        simp only at hl2 hst
        obtain ⟨q, hq⟩ : ∃ q, q = P ++ sgsB (l.take k) := ⟨_, rfl⟩
        have hql : q.length ≤ 16 + 36 * 4096 := by
          rw [hq, List.length_append, hsl, List.length_take]
          omega
        rw [← hq] at HO
        obtain ⟨hca, hcb⟩ := sgv_row hc1
        have HCa : Hid (wr.drew.cell? ⟨b1, o1 + k * 33, none⟩ = some (.int .u32 (x1 : Int))) := Lib.hid ((HB.out.cell (p := ⟨b1, o1 + k * 33, none⟩) hb1).trans hca)
        have HCb : Hid (wr.drew.rangeAt b1 (o1 + k * 33 + 1) (bvs x2)) := Lib.hid fun j u hu => (HB.out.cell (p := ⟨b1, o1 + k * 33 + 1 + j, none⟩) hb1).trans (hcb j u hu)
        have Hb1 : Hid (b1 < wr.drew.heap.size) := Lib.hid (Nat.lt_of_lt_of_le hb1 HB.out.size)
        have Hl2 := Lib.hid hl2
        have Hst := Lib.hid hst
        have Hqq := Lib.hid hq
        have HOd : Hid (OwnB wr.drew w.heap.size 5 u9 q) := HO
        have HBd := Lib.hid HB.out.drew
        clear hc1 hb1 hl2 hx hst hsl hq hkl hca hcb HO HB
        go_wp2_with fail
        refine CanB.region 12 (.op 0 2 (.op 1 2 (.op 2 2 (.op 3 2 (.op 4 1 (.op 5 2 (.op 6 2 (.op 7 2 (.op 8 2 (.op 9 1 (.op 10 0 (.op 11 2 (.op 12 0 (.nil)))))))))))))) (by kernel_rfl) (by kernel_rfl) ?_
        generalize wr.drew = W at *
        repeat (first | (refine CanT.skip rfl ?_ (fun K hK => ?_); (focus (go_simp; done)); go_simp; refine hK _ ?_; clear hK K) | (refine CanT.pur rfl ?_ ?_; (focus (go_simp; done)); refine ⟨?_, ?_, ?_⟩; rotate_left; (focus (intro w'; go_simp; rfl)); (focus (intro K hK; go_simp; refine hK _ ?_; clear hK K))) | (refine CanB.cell rfl ?_ (.int .u32 (x1 : Int)) (.int .u32 (x1 : Int)) ⟨b1, o1 + k * 33, none⟩ HCa.out Hb1.out ?_ (fun K hK => ?_); (focus (go_simp; done)); (focus (intro w' hc'; go_simp; (try rfl))); go_simp; refine hK _ ?_; clear hK K) | (refine CanB.row rfl ?_ 47 _ rfl b1 (o1 + k * 33 + 1) (bvs x2) rfl HCb.out Hb1.out _ Tryd.underlying47 rfl (by rw [bvs_length, Hl2.out]; kernel_rfl) (fun K hK => ?_); (focus (go_simp; done)); go_simp; refine hK _ ?_; clear hK K))
        refine CanT.imp rfl (fun K hK => ?_)
        go_simp
        refine hK.out _ _ ((Below.refl _ _).alloc (Nat.le_refl _) _) ?_
        clear hK K
        repeat (first | (refine CanT.skip rfl ?_ (fun K hK => ?_); (focus (go_simp; done)); go_simp; refine hK _ ?_; clear hK K) | (refine CanT.pur rfl ?_ ?_; (focus (go_simp; done)); refine ⟨?_, ?_, ?_⟩; rotate_left; (focus (intro w'; go_simp; rfl)); (focus (intro K hK; go_simp; refine hK _ ?_; clear hK K))) | (refine CanB.cell rfl ?_ (.int .u32 (x1 : Int)) (.int .u32 (x1 : Int)) ⟨b1, o1 + k * 33, none⟩ HCa.out Hb1.out ?_ (fun K hK => ?_); (focus (go_simp; done)); (focus (intro w' hc'; go_simp; (try rfl))); go_simp; refine hK _ ?_; clear hK K) | (refine CanB.row rfl ?_ 47 _ rfl b1 (o1 + k * 33 + 1) (bvs x2) rfl HCb.out Hb1.out _ Tryd.underlying47 rfl (by rw [bvs_length, Hl2.out]; kernel_rfl) (fun K hK => ?_); (focus (go_simp; done)); go_simp; refine hK _ ?_; clear hK K))
        refine CanT.last rfl (fun K hK => ?_)
        refine step_store_row ?_ 47 (.tmp 12) (.tmp 40) rfl W.heap.size (bvs x2).toArray rfl rfl 47 _ (by exact heap_alloc_new _ _) (by rw [List.size_toArray, bvs_length, Hl2.out]; kernel_rfl) (by simp [bvs_length, Hl2.out]) (all_oneCell_toArray (bvs_one _)) ?_
        focus (go_simp; done)
        intro w4 hS4 hg4
        (try go_simp)
        refine hK.out _ _ ?_
        clear hK K
        refine CanT.done ?_
        have hb4 : Below W.heap.size W w4 := only_after ((Below.refl _ _).alloc (Nat.le_refl _) _) hg4 (Nat.le_refl _)
        have HS4 := Lib.hid hS4
        have HO4 := Lib.hid (HOd.out.keptB hb4)
        have HB4 := Lib.hid (HBd.out.trans (hb4.mono HBd.out.size))
        have hrd : ReadB w4 w4.heap.size (some ⟨W.heap.size, 0, none⟩) x2 := blkB_read hS4
        have HRd := Lib.hid hrd
        generalize W.heap.size = gs at *
        clear hS4 hg4 hb4 hrd HOd HBd
        go_wp2_with (first
          | (at_builtin; (refine wpList_appB _ rfl (.tmp 41) (.tmp 53) 22 rfl w.heap.size 5 i0 Tryd.underlying22 Hi.out _ _ rfl (HO4.out.alloc _) _ _ 4 4 (Vm.be 4 x1) rfl (by rw [Vm.be_length]) (ReadB.litN w4 5 _ (Vm.be 4 x1) w4.heap.size rfl (be4_vals x1)) (by rw [Vm.be_length]; omega) (by have := HB4.out.size; simp; omega) ?_); intro v5 w5 ho5 hg5 _ hb5; have HO5 := Lib.hid ho5; have HB5 := Lib.hid ((HB4.out.alloc HB4.out.size _).trans hb5); have hne5 := own_blk_ne HO4.out HS4.out (by decide); have HR5 := Lib.hid (blkB_read ((HS4.out.alloc _).grown hg5 (Ne.symm hne5))); clear ho5 hg5 hb5 hne5)
          | (at_builtin; (refine wpList_appB _ rfl (.tmp 55) (.tmp 56) 22 rfl w.heap.size 5 i0 Tryd.underlying22 Hi.out _ _ rfl HO5.out w5.heap.size (some ⟨gs, 0, none⟩) 32 32 x2 rfl Hl2.out.symm HR5.out (by rw [List.length_append, Vm.be_length, Hl2.out]; omega) HB5.out.size ?_); intro v6 w6 ho6 _ _ hb6; have HO6 := Lib.hid ho6; have HB6 := Lib.hid (HB5.out.trans hb6); clear ho6 hb6))
        go_roundg (N - (k + 1))
        case rel =>
          refine ⟨k + 1, by omega, rfl, rfl, ?_, HB6.out⟩
          rw [Hst.out, ← List.append_assoc, ← Hqq.out, ← List.append_assoc]
          exact HO6.out
        case measure => have := Hq.out; omega
      · have hkn2 : k = N := by omega
        have t1 : decide ((k : Int) < (N : Int)) = false := decide_eq_false (by omega)
        have t2 : ¬ k < N := by omega
        go_wp2_with fail
        go_ret2
        refine ⟨_, rfl, ?_, HB.out⟩
        have ho := HO.out
        rw [hkn2, HN.out, List.take_length] at ho
        exact ho
  · obtain ⟨q, hq0⟩ : ∃ q, check size n l.length = q := ⟨_, rfl⟩
    have hp : put size n l = ([], q) := by unfold put; rw [if_pos (by simpa using hq), hq0]
    rw [hp]
    rw [hq0] at hc hq
    have Hc := Lib.hid hc
    clear hc hL hp hq0
    go_enter Tryd.func24, Tryd.ntmps24
    go_wp2_with (go_at_call 16; refine (Hc.out _).mono ?_; rintro e w1 ⟨rfl, rfl⟩)
    go_ret2
    exact ⟨_, rfl, OwnB.nil, Below.refl _ _⟩
end Bk
end Go.Proofs.YtcbkhbnemhkheaaDoor
