/- What the reference's reader takes off: texts, bytes; whether all is done. -/
import Derived.Test.YtldhplanpnddbaaFref
namespace Go.Proofs.Ytldhplanpnddbaa
namespace Fr
open Go.RowKit Ba Vm Fm Vi Fi
set_option linter.unusedVariables false

theorem rdone_calls (B : Nat) (v : Value) (r : Rd) (w : World) (h : IsV w B v r) :
    Calls Try.prog 44 #[v] w fun e w' => e = .returned (.int .i64 r.done) ∧ Below w.heap.size w w' := by
  obtain ⟨A, c, rfl, h2, h3, h4⟩ := h
  by_cases he : r.e = 0
  · have hd0 : (r.e == 0) = true := by rw [beq_iff_eq]; exact he
    by_cases hl : 0 < r.l.length
    · have hd : r.done = 4 := by unfold Rd.done; rw [if_neg (by simpa using he), if_pos hl]
      have Hd := Lib.hid hd
      clear he hd
      go_enter Try.func44, Try.ntmps44
      go_wp2
      go_ret
      exact ⟨by rw [Hd.out]; rfl, (by repeat (first | exact Below.refl _ _ | (refine Below.alloc ?_ (by first | (simp; done) | (simp; omega)) _) | (refine Below.setCell ?_ (by first | (simp; done) | (simp; omega)) _) | refine Below.drew ?_))⟩
    · have hd : r.done = 0 := by unfold Rd.done; rw [if_neg (by simpa using he), if_neg hl]
      have Hd := Lib.hid hd
      have He := Lib.hid he
      clear he hd
      go_enter Try.func44, Try.ntmps44
      go_wp2
      go_ret
      exact ⟨by rw [Hd.out]; exact congrArg (fun x => Ending.returned (.int .i64 x)) He.out, (by repeat (first | exact Below.refl _ _ | (refine Below.alloc ?_ (by first | (simp; done) | (simp; omega)) _) | (refine Below.setCell ?_ (by first | (simp; done) | (simp; omega)) _) | refine Below.drew ?_))⟩
  · have hd0 : (r.e == 0) = false := by rw [beq_eq_false_iff_ne]; exact he
    have hd : r.done = r.e := by unfold Rd.done; rw [if_pos he]
    have Hd := Lib.hid hd
    clear he hd
    go_enter Try.func44, Try.ntmps44
    go_wp2
    go_ret
    exact ⟨by rw [Hd.out]; rfl, (by repeat (first | exact Below.refl _ _ | (refine Below.alloc ?_ (by first | (simp; done) | (simp; omega)) _) | (refine Below.setCell ?_ (by first | (simp; done) | (simp; omega)) _) | refine Below.drew ?_))⟩

set_option maxHeartbeats 800000 in
theorem rbyte_calls (B : Nat) (v : Value) (r : Rd) (w : World) (h : IsV w B v r) (hB : B ≤ w.heap.size) :
    Calls Try.prog 39 #[v] w fun e w' => ∃ v', e = .returned (.tuple #[v', .int .u8 (r.byte.2.toNat : Int)]) ∧ IsV w' B v' r.byte.1 ∧ Below w.heap.size w w' := by
  have hr : r.byte = ((r.raw 1).1, (r.raw 1).2.getD 0 0) := rfl
  have Hr := Lib.hid hr
  clear hr
  have Hh := Lib.hid h
  obtain ⟨A, c, rfl, h2, h3, h4⟩ := h
  rcases Rd.raw1_cases r with ⟨b, hx⟩ | ⟨x, hx0, hx⟩
  · have Hx := Lib.hid hx
    clear hx
    go_enter Try.func39, Try.ntmps39
    go_wp2_with (go_at_call 37; go_must (refine (rraw_calls B _ r 1 _ (Hh.out.below (Below.mono (by repeat (first | exact Below.refl _ _ | (refine Below.alloc ?_ (by first | (simp; done) | (simp; omega)) _) | (refine Below.setCell ?_ (by first | (simp; done) | (simp; omega)) _) | refine Below.drew ?_)) hB)) (Nat.le_trans hB (by first | (simp; done) | (simp; omega)))).mono ?_); rw [Hx.out]; rintro e w2 ⟨v2, rfl, hv2, hb2⟩; obtain ⟨A2, c2, rfl, k2, k3, k4⟩ := hv2; have hz : w.heap.size + 1 < w2.heap.size := (by have := hb2.size; simp at this; omega); obtain ⟨q1, q2⟩ := bcell hb2; have Hb2 := Lib.hid hb2; have K4 := Lib.hid k4; clear hb2 k4)
    go_region
    go_wp2
    refine bodyPost_ret (v := .tuple #[.agg #[.slice A2 (r.l.drop 1).length c2, .int .i64 0], .int .u8 (b.toNat : Int)]) (by simp [results, Try.results39, go_sem, q1, q2, hz] <;> rfl) rfl ?_
    have hbw : Below w.heap.size w w2 := Below.trans (b := _) (by repeat (first | exact Below.refl _ _ | (refine Below.alloc ?_ (by first | (simp; done) | (simp; omega)) _) | (refine Below.setCell ?_ (by first | (simp; done) | (simp; omega)) _) | refine Below.drew ?_)) (Hb2.out.mono (by first | (simp; done) | (simp; omega)))
    refine ⟨_, by rw [Hr.out, Hx.out]; rfl, ?_, (by repeat (first | exact hbw | exact Below.refl _ _ | (refine Below.alloc ?_ (by have := hbw.size; simp; omega) _) | (refine Below.setCell ?_ (by first | (simp; done) | (simp; omega)) _) | refine Below.drew ?_))⟩
    rw [Hr.out, Hx.out]
    exact ⟨A2, c2, rfl, k2, k3, by repeat (first | exact K4.out | (refine ReadB.setFar ?_ (Nat.le_trans hB (by first | (simp; done) | (simp; omega))) _) | (refine ReadB.alloc ?_ (Nat.le_trans hB (by have := hbw.size; simp; omega)) _) | refine ReadB.drew ?_)⟩
  · have Hx := Lib.hid hx
    have hxb : (x != 0) = true := by rw [bne_iff_ne]; exact hx0
    clear hx
    go_enter Try.func39, Try.ntmps39
    go_wp2_with (go_at_call 37; go_must (refine (rraw_calls B _ r 1 _ (Hh.out.below (Below.mono (by repeat (first | exact Below.refl _ _ | (refine Below.alloc ?_ (by first | (simp; done) | (simp; omega)) _) | (refine Below.setCell ?_ (by first | (simp; done) | (simp; omega)) _) | refine Below.drew ?_)) hB)) (Nat.le_trans hB (by first | (simp; done) | (simp; omega)))).mono ?_); rw [Hx.out]; rintro e w2 ⟨v2, rfl, hv2, hb2⟩; obtain ⟨A2, c2, rfl, k2, k3, k4⟩ := hv2; have hz : w.heap.size + 1 < w2.heap.size := (by have := hb2.size; simp at this; omega); obtain ⟨q1, q2⟩ := bcell hb2; have Hb2 := Lib.hid hb2; have K4 := Lib.hid k4; clear hb2 k4)
    refine bodyPost_ret (v := .tuple #[.agg #[.slice A2 r.l.length c2, .int .i64 x], .int .u8 0]) (by simp [results, Try.results39, go_sem, q1, q2, hz] <;> rfl) rfl ?_
    have hbw : Below w.heap.size w w2 := Below.trans (b := _) (by repeat (first | exact Below.refl _ _ | (refine Below.alloc ?_ (by first | (simp; done) | (simp; omega)) _) | (refine Below.setCell ?_ (by first | (simp; done) | (simp; omega)) _) | refine Below.drew ?_)) (Hb2.out.mono (by first | (simp; done) | (simp; omega)))
    refine ⟨_, by rw [Hr.out, Hx.out]; rfl, ?_, (by repeat (first | exact hbw | exact Below.refl _ _ | (refine Below.alloc ?_ (by have := hbw.size; simp; omega) _) | (refine Below.setCell ?_ (by first | (simp; done) | (simp; omega)) _) | refine Below.drew ?_))⟩
    rw [Hr.out, Hx.out]
    exact ⟨A2, c2, rfl, k2, k3, by repeat (first | exact K4.out | (refine ReadB.setFar ?_ (Nat.le_trans hB (by first | (simp; done) | (simp; omega))) _) | (refine ReadB.alloc ?_ (Nat.le_trans hB (by have := hbw.size; simp; omega)) _) | refine ReadB.drew ?_)⟩

set_option maxHeartbeats 1600000 in
theorem rtext_calls (B : Nat) (v : Value) (r : Rd) (most : Int) (w : World) (h : IsV w B v r) (hB : B ≤ w.heap.size) :
    Calls Try.prog 35 #[v, .int .i64 most] w fun e w' => ∃ v', e = .returned (.tuple #[v', .string (S (r.text most).2)]) ∧ IsV w' B v' (r.text most).1 ∧ Below w.heap.size w w' := by
  have Hh := Lib.hid h
  obtain ⟨A, c, rfl, h2, h3, h4⟩ := h
  obtain ⟨x, n, hx⟩ : ∃ x n, r.num most = (x, n) := ⟨_, _, rfl⟩
  obtain ⟨y, s, hy⟩ : ∃ y s, x.raw (n : Int) = (y, s) := ⟨_, _, rfl⟩
  have hr : r.text most = if y.e ≠ 0 then (⟨r.l, y.e⟩, []) else (y, s) := by
    unfold Rd.text
    rw [hx]
    simp only
    rw [hy]
    simp only
    by_cases he : r.e = 0
    · rw [if_neg (by simpa using he)]
      by_cases hxe : x.e = 0
      · rw [if_neg (by simpa using hxe)]
      · have hyy : (y, s) = (x, []) := by rw [← hy]; unfold Rd.raw; rw [if_pos hxe]
        simp only [Prod.mk.injEq] at hyy
        rw [if_pos hxe, hyy.1, if_pos hxe]
    · have hxx : (x, n) = (r, 0) := by rw [← hx]; unfold Rd.num; rw [if_pos he]
      simp only [Prod.mk.injEq] at hxx
      have hyy : (y, s) = (x, []) := by rw [← hy]; unfold Rd.raw; rw [hxx.1, if_pos he]
      simp only [Prod.mk.injEq] at hyy
      rw [if_pos he, hyy.1, hxx.1, if_pos he]
  have Hr := Lib.hid hr
  have Hx := Lib.hid hx
  have Hy := Lib.hid hy
  clear hr hx hy
  by_cases hye : y.e = 0
  · have hb : (y.e != 0) = false := by rw [bne_eq_false_iff_eq]; exact hye
    have Hye := Lib.hid hye
    clear hye
    go_enter Try.func35, Try.ntmps35
    go_wp2_with (first
      | (go_at_call 33; go_must (refine (rnum_calls B _ r most _ (Hh.out.below (Below.mono (by repeat (first | exact Below.refl _ _ | (refine Below.alloc ?_ (by first | (simp; done) | (simp; omega)) _) | (refine Below.setCell ?_ (by first | (simp; done) | (simp; omega)) _) | refine Below.drew ?_)) hB)) (Nat.le_trans hB (by first | (simp; done) | (simp; omega)))).mono ?_); rw [Hx.out]; rintro e w1 ⟨v1, rfl, hv1, hb1⟩; go_loud (have hbw1 : Below w.heap.size w w1 := Below.trans (b := _) (by repeat (first | exact Below.refl _ _ | (refine Below.alloc ?_ (by first | (simp; done) | (simp; omega)) _) | (refine Below.setCell ?_ (by first | (simp; done) | (simp; omega)) _) | refine Below.drew ?_)) (hb1.mono (by first | (simp; done) | (simp; omega)))); have Hv1 := Lib.hid hv1; obtain ⟨A1, c1, rfl, k2, k3, k4⟩ := hv1; have hz : w.heap.size + 1 < w1.heap.size := (by have := hb1.size; simp at this; omega); have hz0 : w.heap.size < w1.heap.size := (by omega); obtain ⟨q1, q2⟩ := bcell hb1; have Hbw1 := Lib.hid hbw1; clear hb1 k4)
      | (go_at_call 37; go_must (refine (rraw_calls B _ x n _ (Hv1.out.below ((Below.refl B w1).alloc (Nat.le_trans hB Hbw1.out.size) _)) (Nat.le_trans hB (by have := Hbw1.out.size; simp; omega))).mono ?_); rw [Hy.out]; rintro e w2 ⟨v2, rfl, hv2, hb2⟩; have Hv2 := Lib.hid hv2; obtain ⟨A2, c2, rfl, m2, m3, m4⟩ := hv2; have hz2 : w1.heap.size < w2.heap.size := (by have := hb2.size; simp at this; omega); have hz3 : w.heap.size + 1 < w2.heap.size := (by omega); have hz4 : w.heap.size < w2.heap.size := (by omega); obtain ⟨p1, p2⟩ := bcell hb2; have hbw2 : Below w.heap.size w w2 := (Below.alloc Hbw1.out Hbw1.out.size _).trans (hb2.mono (by have := Hbw1.out.size; simp; omega)); have Hbw2 := Lib.hid hbw2; clear hb2 m4 hbw2))
    refine bodyPost_ret (v := .tuple #[.agg #[.slice A2 y.l.length c2, .int .i64 y.e], .string (S s)]) (by simp [results, Try.results35, go_sem, q1, q2, p1, p2, hz, hz0, hz3, hz4] <;> rfl) rfl ?_
    have hbw := Hbw2.out
    obtain ⟨A3, c3, e3, _, _, K⟩ := Hv2.out
    obtain ⟨rfl, rfl⟩ : A2 = A3 ∧ c2 = c3 := by simpa using e3
    refine ⟨_, by rw [Hr.out, if_neg (by simpa using Hye.out)], ?_, (by repeat (first | exact hbw | exact Below.refl _ _ | (refine Below.alloc ?_ (by have := hbw.size; simp; omega) _) | (refine Below.setCell ?_ (by have := hbw.size; simp <;> omega) _) | refine Below.drew ?_))⟩
    rw [Hr.out, if_neg (by simpa using Hye.out)]
    exact ⟨A2, c2, rfl, m2, m3, (by repeat (first | exact K | (refine ReadB.setFar ?_ (Nat.le_trans hB (by have := Hbw1.out.size; have := hbw.size; simp <;> omega)) _) | (refine ReadB.alloc ?_ (Nat.le_trans hB (by have := hbw.size; simp; omega)) _) | refine ReadB.drew ?_))⟩
  · have hb : (y.e != 0) = true := by rw [bne_iff_ne]; exact hye
    have hr := Hr.out
    rw [if_pos hye] at hr
    clear Hr
    have Hr := Lib.hid hr
    clear hr hye
    go_enter Try.func35, Try.ntmps35
    go_wp2_with (first
      | (go_at_call 33; go_must (refine (rnum_calls B _ r most _ (Hh.out.below (Below.mono (by repeat (first | exact Below.refl _ _ | (refine Below.alloc ?_ (by first | (simp; done) | (simp; omega)) _) | (refine Below.setCell ?_ (by first | (simp; done) | (simp; omega)) _) | refine Below.drew ?_)) hB)) (Nat.le_trans hB (by first | (simp; done) | (simp; omega)))).mono ?_); rw [Hx.out]; rintro e w1 ⟨v1, rfl, hv1, hb1⟩; go_loud (have hbw1 : Below w.heap.size w w1 := Below.trans (b := _) (by repeat (first | exact Below.refl _ _ | (refine Below.alloc ?_ (by first | (simp; done) | (simp; omega)) _) | (refine Below.setCell ?_ (by first | (simp; done) | (simp; omega)) _) | refine Below.drew ?_)) (hb1.mono (by first | (simp; done) | (simp; omega)))); have Hv1 := Lib.hid hv1; obtain ⟨A1, c1, rfl, k2, k3, k4⟩ := hv1; have hz : w.heap.size + 1 < w1.heap.size := (by have := hb1.size; simp at this; omega); have hz0 : w.heap.size < w1.heap.size := (by omega); obtain ⟨q1, q2⟩ := bcell hb1; have Hbw1 := Lib.hid hbw1; clear hb1 k4)
      | (go_at_call 37; go_must (refine (rraw_calls B _ x n _ (Hv1.out.below ((Below.refl B w1).alloc (Nat.le_trans hB Hbw1.out.size) _)) (Nat.le_trans hB (by have := Hbw1.out.size; simp; omega))).mono ?_); rw [Hy.out]; rintro e w2 ⟨v2, rfl, hv2, hb2⟩; have Hv2 := Lib.hid hv2; obtain ⟨A2, c2, rfl, m2, m3, m4⟩ := hv2; have hz2 : w1.heap.size < w2.heap.size := (by have := hb2.size; simp at this; omega); have hz3 : w.heap.size + 1 < w2.heap.size := (by omega); have hz4 : w.heap.size < w2.heap.size := (by omega); obtain ⟨p1, p2⟩ := bcell hb2; have hbw2 : Below w.heap.size w w2 := (Below.alloc Hbw1.out Hbw1.out.size _).trans (hb2.mono (by have := Hbw1.out.size; simp; omega)); have Hbw2 := Lib.hid hbw2; clear hb2 m4 hbw2))
    have h3 : IsV (w2.alloc (.cells #[.slice A2 y.l.length c2, .int .i64 y.e] 52)) B (.agg #[.slice A r.l.length c, .int .i64 r.e]) r := Hh.out.below (Below.mono (Below.alloc Hbw2.out Hbw2.out.size _) hB)
    refine (fail_calls B _ r y.e _ h3 (Nat.le_trans hB (by have := Hbw2.out.size; simp; omega))).mono ?_
    rintro e w3 ⟨v3, rfl, hv3, hb3⟩
    have Hv3 := Lib.hid hv3
    obtain ⟨A3, c3, rfl, n2, n3, n4⟩ := hv3
    have hz5 : w2.heap.size < w3.heap.size := by have := hb3.size; simp at this; omega
    have hz6 : w.heap.size + 1 < w3.heap.size := by omega
    have hbw : Below w.heap.size w w3 := (Below.alloc Hbw2.out Hbw2.out.size _).trans (hb3.mono (by have := Hbw2.out.size; simp; omega))
    obtain ⟨r1, r2⟩ := bcell hb3
    have Hbw := Lib.hid hbw
    clear hb3 n4 hbw
    go_wp2_with fail
    refine bodyPost_ret (v := .tuple #[.agg #[.slice A3 r.l.length c3, .int .i64 y.e], .string (S [])]) (by simp [results, Try.results35, go_sem, q1, q2, p1, p2, r1, r2, hz, hz0, hz3, hz4, hz5, hz6] <;> rfl) rfl ?_
    have hbw := Hbw.out
    obtain ⟨A4, c4, e4, _, _, K⟩ := Hv3.out
    obtain ⟨rfl, rfl⟩ : A3 = A4 ∧ c3 = c4 := by simpa using e4
    refine ⟨_, by rw [Hr.out], ?_, (by repeat (first | exact hbw | exact Below.refl _ _ | (refine Below.alloc ?_ (by have := hbw.size; simp; omega) _) | (refine Below.setCell ?_ (by have := hbw.size; simp <;> omega) _) | refine Below.drew ?_))⟩
    rw [Hr.out]
    exact ⟨A3, c3, rfl, n2, n3, (by repeat (first | exact K | (refine ReadB.setFar ?_ (Nat.le_trans hB (by have := Hbw1.out.size; have := hbw.size; simp <;> omega)) _) | (refine ReadB.alloc ?_ (Nat.le_trans hB (by have := hbw.size; simp; omega)) _) | refine ReadB.drew ?_))⟩
end Fr
end Go.Proofs.Ytldhplanpnddbaa
