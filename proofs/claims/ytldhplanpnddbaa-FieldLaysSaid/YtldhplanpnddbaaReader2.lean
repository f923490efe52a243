/- What the reader does that takes bytes and texts off, of the program. -/
import Derived.Test.YtldhplanpnddbaaReader
namespace Go.Proofs.Ytldhplanpnddbaa
namespace Re
open Go.RowKit Ba Vm Fm Vi
set_option linter.unusedVariables false

theorem strof_take (W : World) (A : Option Addr) (c B m : Nat) (l : List UInt8) (h : ReadB W B A l) (hm : m ≤ l.length) : (convert 25 9 (.slice A m c)).run Try.prog W = .ok (.string (S (l.take m))) W := by
  have := run_strof W 25 5 Try.underlying25 Try.underlying5 A c B (l.take m) (h.take m) 9 Try.underlying9
  rw [List.length_take, Nat.min_eq_left hm] at this
  exact this

theorem raw_bad (g B : Nat) (r : Rd) (n : Int) (w : World) (h : IsR w g B r) (he : r.e ≠ 0) :
    Calls Try.prog 38 #[.pointer (some ⟨g, 0, none⟩), .int .i64 n] w fun e w' => e = .returned (.string (S [])) ∧ w = w' := by
  obtain ⟨A, c, h1, h2, h3, h4, h5⟩ := h
  obtain ⟨hc0, hc1, hf0, hf1⟩ := blk_cell h1
  have hd1 : (r.e != 0) = true := by rw [bne_iff_ne]; exact he
  have hd0 : (r.e == 0) = false := by rw [beq_eq_false_iff_ne]; exact he
  clear h1 he
  go_enter Try.func38, Try.ntmps38
  go_wp2
  go_ret
  exact ⟨rfl, rfl⟩

set_option maxHeartbeats 800000 in
theorem raw_good (g B : Nat) (r : Rd) (n : Int) (w : World) (h : IsR w g B r) (he : r.e = 0) :
    Calls Try.prog 38 #[.pointer (some ⟨g, 0, none⟩), .int .i64 n] w fun e w' => e = .returned (.string (S (r.raw n).2)) ∧ IsR w' g B (r.raw n).1 ∧ w.grownBy w' (some g) := by
  have hr : r.raw n = if n < 0 then (⟨r.l, 2⟩, []) else if (r.l.length : Int) < n then (⟨r.l, 3⟩, []) else (⟨r.l.drop n.toNat, 0⟩, r.l.take n.toNat) := by unfold Rd.raw; rw [if_neg (by simpa using he)]
  have hlt := h.lt
  have Hh := Lib.hid h
  have He := Lib.hid he
  obtain ⟨A, c, h1, h2, h3, h4, h5⟩ := h
  rw [he] at h1
  have H1 := Lib.hid h1
  obtain ⟨hc0, hc1, hf0, hf1⟩ := blk_cell h1
  clear h1 he
  by_cases hn : n < 0
  · rw [if_pos hn] at hr
    have Hr := Lib.hid hr
    clear hr
    go_enter Try.func38, Try.ntmps38
    go_wp2_with (go_at_call 53; go_must (refine (fail_set g B r 2 _ Hh.out He.out (by omega)).mono ?_); rintro e w2 ⟨rfl, hr2, hg2⟩)
    go_ret
    rw [Hr.out]
    exact ⟨rfl, hr2, hg2⟩
  · rw [if_neg hn] at hr
    by_cases hl : (r.l.length : Int) < n
    · rw [if_pos hl] at hr
      have Hr := Lib.hid hr
      clear hr
      go_enter Try.func38, Try.ntmps38
      go_wp2_with (go_at_call 53; go_must (refine (fail_set g B r 3 _ Hh.out He.out (by omega)).mono ?_); rintro e w2 ⟨rfl, hr2, hg2⟩)
      go_ret
      rw [Hr.out]
      exact ⟨rfl, hr2, hg2⟩
    · rw [if_neg hl] at hr
      obtain ⟨m, rfl⟩ : ∃ m : Nat, n = (m : Int) := ⟨n.toNat, by omega⟩
      rw [Int.toNat_natCast] at hr
      have hm : m ≤ r.l.length := by omega
      have hst := strof_take w A c B m r.l h4 hm
      have Hr := Lib.hid hr
      have hL : (r.l.drop m).length = r.l.length - m := List.length_drop
      have HL := Lib.hid hL
      have H4 := Lib.hid h4
      clear hr hn hl hL h4
      rcases Nat.eq_zero_or_pos r.l.length with hl0 | hl0
      · have hm0 : m = 0 := by omega
        subst hm0
        have Hl0 := Lib.hid hl0
        clear hl0
        rcases A with _ | ad
        all_goals
          by_cases hcu : c = 0
          all_goals
            try subst hcu
            go_enter Try.func38, Try.ntmps38
            go_wp2
            go_ret
            rw [Hr.out]
            refine ⟨rfl, ⟨_, _, by rw [HL.out, Hl0.out]; exact set0 H1.out, ?_, ?_, ?_, h5⟩, only_set _ g 0 _⟩
            · rw [HL.out, Hl0.out]; omega
            · omega
            · refine ReadB.setFar ?_ (by simpa using h5) _
              have e : r.l.drop 0 = [] := List.drop_eq_nil_of_le (by have := Hl0.out; omega)
              show ReadB _ _ _ (r.l.drop 0)
              rw [e]; exact ReadB.nil
      · obtain ⟨ab, ao, rfl, hab, hcell⟩ := H4.out hl0
        clear hcell hl0
        by_cases hcu : c = m
        · subst hcu
          have e0 : r.l.length - c = 0 := by omega
          have E0 := Lib.hid e0
          clear e0
          go_enter Try.func38, Try.ntmps38
          go_wp2
          go_ret
          rw [Hr.out]
          refine ⟨rfl, ⟨_, _, by rw [HL.out, E0.out]; exact set0 H1.out, ?_, ?_, ?_, h5⟩, only_set _ g 0 _⟩
          · rw [HL.out, E0.out]; omega
          · omega
          · refine ReadB.setFar ?_ (by simpa using h5) _
            have e : r.l.drop c = [] := List.drop_eq_nil_of_le (by omega)
            show ReadB _ _ _ (r.l.drop c)
            rw [e]; exact ReadB.nil
        · go_enter Try.func38, Try.ntmps38
          go_wp2
          go_ret
          rw [Hr.out]
          refine ⟨rfl, ⟨_, _, by rw [HL.out]; exact set0 H1.out, ?_, ?_, ?_, h5⟩, only_set _ g 0 _⟩
          · rw [HL.out]; omega
          · omega
          · exact (H4.out.drop m).setFar (by simpa using h5) _

theorem raw_calls (g B : Nat) (r : Rd) (n : Int) (w : World) (h : IsR w g B r) :
    Calls Try.prog 38 #[.pointer (some ⟨g, 0, none⟩), .int .i64 n] w fun e w' => e = .returned (.string (S (r.raw n).2)) ∧ IsR w' g B (r.raw n).1 ∧ w.grownBy w' (some g) := by
  by_cases he : r.e = 0
  · exact raw_good g B r n w h he
  · refine (raw_bad g B r n w h he).mono fun e w' ⟨h1, h2⟩ => ?_
    subst h2
    have : r.raw n = (r, []) := by unfold Rd.raw; rw [if_pos he]
    rw [this]
    exact ⟨h1, h, World.grownBy.refl _ _⟩
theorem num_calls (g B : Nat) (r : Rd) (most : Int) (w : World) (h : IsR w g B r) :
    Calls Try.prog 34 #[.pointer (some ⟨g, 0, none⟩), .int .i64 most] w fun e w' => e = .returned (.int .i64 ((r.num most).2 : Int)) ∧ IsR w' g B (r.num most).1 ∧ w.grownBy w' (some g) := by
  by_cases he : r.e = 0
  · exact num_good g B r most w h he
  · refine (num_bad g B r most w h he).mono fun e w' ⟨h1, h2⟩ => ?_
    subst h2
    have : r.num most = (r, 0) := by unfold Rd.num; rw [if_pos he]
    rw [this]
    exact ⟨h1, h, World.grownBy.refl _ _⟩

set_option maxHeartbeats 400000 in
theorem byte_calls (g B : Nat) (r : Rd) (w : World) (h : IsR w g B r) :
    Calls Try.prog 40 #[.pointer (some ⟨g, 0, none⟩)] w fun e w' => e = .returned (.int .u8 (r.byte.2.toNat : Int)) ∧ IsR w' g B r.byte.1 ∧ w.grownBy w' (some g) := by
  have hr : r.byte = ((r.raw 1).1, (r.raw 1).2.getD 0 0) := rfl
  have Hr := Lib.hid hr
  clear hr
  rcases hx : (r.raw 1).2 with _ | ⟨b, t⟩
  · have Hx := Lib.hid hx
    clear hx
    go_enter Try.func40, Try.ntmps40
    go_wp2_with fail
    refine (raw_calls g B r 1 _ h).mono ?_
    rw [Hx.out]
    rintro e w1 ⟨rfl, h1, hg1⟩
    go_wp2_with fail
    go_ret
    exact ⟨by rw [Hr.out, Hx.out]; rfl, by rw [Hr.out]; exact h1, hg1⟩
  · have Hx := Lib.hid hx
    clear hx
    go_enter Try.func40, Try.ntmps40
    go_wp2_with fail
    refine (raw_calls g B r 1 _ h).mono ?_
    rw [Hx.out]
    rintro e w1 ⟨rfl, h1, hg1⟩
    go_wp2_with fail
    go_ret
    exact ⟨by rw [Hr.out, Hx.out]; rfl, by rw [Hr.out]; exact h1, hg1⟩

theorem text_bad (g B : Nat) (r : Rd) (most : Int) (w : World) (h : IsR w g B r) (he : r.e ≠ 0) :
    Calls Try.prog 36 #[.pointer (some ⟨g, 0, none⟩), .int .i64 most] w fun e w' => e = .returned (.string (S [])) ∧ w = w' := by
  obtain ⟨A, c, h1, h2, h3, h4, h5⟩ := h
  obtain ⟨hc0, hc1, hf0, hf1⟩ := blk_cell h1
  have hd1 : (r.e != 0) = true := by rw [bne_iff_ne]; exact he
  have hd0 : (r.e == 0) = false := by rw [beq_eq_false_iff_ne]; exact he
  clear h1 he
  go_enter Try.func36, Try.ntmps36
  go_wp2
  go_ret
  exact ⟨rfl, rfl⟩

set_option maxHeartbeats 1600000 in
theorem text_good (g B : Nat) (r : Rd) (most : Int) (w : World) (h : IsR w g B r) (he : r.e = 0) :
    Calls Try.prog 36 #[.pointer (some ⟨g, 0, none⟩), .int .i64 most] w fun e w' => e = .returned (.string (S (r.text most).2)) ∧ IsR w' g B (r.text most).1 ∧ w.grownBy w' (some g) := by
  have hsb := shortest_bound r.l
  obtain ⟨n, u, x, hs⟩ : ∃ n u x, shortest r.l = (n, u, x) := ⟨_, _, _, rfl⟩
  have hm : lookM r.l most = if x = 0 ∧ most < (n : Int) then (0, 0, 5) else (n, u, x) := by unfold lookM; rw [hs]
  have hr := Rd.text_eq r most n u x he hs
  rw [hs] at hsb
  simp only at hsb
  obtain ⟨hn62, hul, hx, hu8, hu1⟩ := hsb
  have hlt := h.lt
  have Hh := Lib.hid h
  have He := Lib.hid he
  obtain ⟨A, c, h1, h2, h3, h4, h5⟩ := h
  rw [he] at h1
  have H1 := Lib.hid h1
  obtain ⟨hc0, hc1, hf0, hf1⟩ := blk_cell h1
  clear h1 hs he
  by_cases hok : x = 0 ∧ ¬ most < (n : Int)
  · obtain ⟨rfl, hmo⟩ := hok
    rw [if_neg (by simp), if_neg hmo] at hr
    rw [if_neg (fun h => hmo h.2)] at hm
    have Hm := Lib.hid hm
    have hu1 := hu1 rfl
    have hL : (r.l.drop u).length = r.l.length - u := List.length_drop
    rw [hL] at hr
    clear hm hmo hx
    by_cases hcut : ((r.l.length - u : Nat) : Int) < (n : Int)
    · rw [if_pos hcut] at hr
      have Hr := Lib.hid hr
      have HL := Lib.hid hL
      have hcut2 : (r.l.length : Int) - (u : Int) < (n : Int) := by omega
      clear hr hL hcut
      go_enter Try.func36, Try.ntmps36
      go_wp2_with (first
        | (go_at_call 52; go_must (refine (look_calls g B r most _ Hh.out).mono ?_); rw [Hm.out]; rintro e w1 ⟨rfl, hb1⟩
           have Hb1 := Lib.hid hb1
           obtain ⟨k0, k1, f0, f1⟩ := blk_cell ((hb1.block g hlt).trans H1.out)
           clear hb1)
        | (go_at_call 53; go_must (refine (fail_set g B r 3 _ (Hh.out.below Hb1.out) He.out (by omega)).mono ?_); rintro e w2 ⟨rfl, hr2, hg2⟩))
      go_ret
      rw [Hr.out]
      exact ⟨rfl, hr2, only_trans (only_of_below Hb1.out _) hg2⟩
    · rw [if_neg hcut] at hr
      have hraw : (Rd.mk (r.l.drop u) 0).raw (n : Int) = (⟨(r.l.drop u).drop n, 0⟩, (r.l.drop u).take n) := by
        simp only [Rd.raw, ne_eq, not_true_eq_false, if_false]
        rw [if_neg (show ¬ ((n : Nat) : Int) < 0 by omega), if_neg (by rw [hL]; exact hcut)]
        simp
      rw [← hraw] at hr
      have Hr := Lib.hid hr
      have HL := Lib.hid hL
      have hcut2 : ¬ (r.l.length : Int) - (u : Int) < (n : Int) := by omega
      clear hr hL hcut hraw
      obtain ⟨ab, ao, rfl, hab, hcell⟩ := h4 (by omega)
      have H4 := Lib.hid h4
      clear h4 hcell
      have hfin : ∀ W, IsR W g B ⟨r.l.drop u, 0⟩ → w.grownBy W (some g) → Calls Try.prog 38 #[.pointer (some ⟨g, 0, none⟩), .int .i64 (n : Int)] W fun e w' => e = .returned (.string (S (r.text most).2)) ∧ IsR w' g B (r.text most).1 ∧ w.grownBy w' (some g) := fun W h1 h2 => by
        rw [Hr.out]
        exact (raw_calls g B ⟨r.l.drop u, 0⟩ n W h1).mono fun e w' ⟨a, b, c⟩ => ⟨a, b, only_trans h2 c⟩
      have Hfin := Lib.hid hfin
      clear hfin
      by_cases hcu : c = u
      · subst hcu
        have e0 : r.l.length - c = 0 := by omega
        have E0 := Lib.hid e0
        clear e0
        go_enter Try.func36, Try.ntmps36
        go_wp2_with (first
          | (go_at_call 52; go_must (refine (look_calls g B r most _ Hh.out).mono ?_); rw [Hm.out]; rintro e w1 ⟨rfl, hb1⟩
             have Hb1 := Lib.hid hb1
             obtain ⟨k0, k1, f0, f1⟩ := blk_cell ((hb1.block g hlt).trans H1.out)
             clear hb1)
          | (go_at_call 53; go_must (refine (fail_ok g B r _ (Hh.out.below Hb1.out) He.out).mono ?_); rintro e w2 ⟨rfl, rfl⟩)
          | (go_at_call 38; go_must (refine (Hfin.out _ ⟨_, _, by rw [HL.out, E0.out]; exact set0 ((Hb1.out.block g hlt).trans H1.out), by rw [HL.out, E0.out]; omega, by omega, ?_, h5⟩ (only_trans (only_of_below Hb1.out _) (only_set _ g 0 _))).mono ?_)
             · refine ReadB.setFar ?_ (by simpa using h5) _
               have e : r.l.drop c = [] := List.drop_eq_nil_of_le (by omega)
               show ReadB _ _ _ (r.l.drop c)
               rw [e]; exact ReadB.nil
             rintro e w3 ⟨rfl, h6, h7⟩))
        go_ret
        exact ⟨rfl, h6, h7⟩
      · go_enter Try.func36, Try.ntmps36
        go_wp2_with (first
          | (go_at_call 52; go_must (refine (look_calls g B r most _ Hh.out).mono ?_); rw [Hm.out]; rintro e w1 ⟨rfl, hb1⟩
             have Hb1 := Lib.hid hb1
             obtain ⟨k0, k1, f0, f1⟩ := blk_cell ((hb1.block g hlt).trans H1.out)
             clear hb1)
          | (go_at_call 53; go_must (refine (fail_ok g B r _ (Hh.out.below Hb1.out) He.out).mono ?_); rintro e w2 ⟨rfl, rfl⟩)
          | (go_at_call 38; go_must (refine (Hfin.out _ ⟨_, _, by rw [HL.out]; exact set0 ((Hb1.out.block g hlt).trans H1.out), by rw [HL.out]; omega, by omega, ?_, h5⟩ (only_trans (only_of_below Hb1.out _) (only_set _ g 0 _))).mono ?_)
             · exact ((H4.out.drop u).below (Hb1.out.mono (by omega))).setFar (by simpa using h5) _
             rintro e w3 ⟨rfl, h6, h7⟩))
        go_ret
        exact ⟨rfl, h6, h7⟩
  · obtain ⟨p, q, d, hd, hm2, hr2⟩ : ∃ (p q : Nat) (d : Int), d ≠ 0 ∧ lookM r.l most = (p, q, d) ∧ r.text most = (⟨r.l, d⟩, []) := by
      by_cases hx0 : x = 0
      · have hmo : most < (n : Int) := by
          by_cases h : most < (n : Int)
          · exact h
          · exact absurd ⟨hx0, h⟩ hok
        rw [if_pos ⟨hx0, hmo⟩] at hm
        rw [if_neg (by simpa using hx0), if_pos hmo] at hr
        exact ⟨0, 0, 5, by omega, hm, hr⟩
      · rw [if_neg (fun h => hx0 h.1)] at hm
        rw [if_pos hx0] at hr
        exact ⟨n, u, x, hx0, hm, hr⟩
    have Hr := Lib.hid hr2
    have Hm := Lib.hid hm2
    have hd0 : (d == 0) = false := by rw [beq_eq_false_iff_ne]; exact hd
    have Hd := Lib.hid hd
    clear hr hm hr2 hm2 hd hok hx hu1
    go_enter Try.func36, Try.ntmps36
    go_wp2_with (first
      | (go_at_call 52; go_must (refine (look_calls g B r most _ Hh.out).mono ?_); rw [Hm.out]; rintro e w1 ⟨rfl, hb1⟩
         have Hb1 := Lib.hid hb1
         clear hb1)
      | (go_at_call 53; go_must (refine (fail_set g B r d _ (Hh.out.below Hb1.out) He.out Hd.out).mono ?_); rintro e w2 ⟨rfl, hr2, hg2⟩))
    go_ret
    rw [Hr.out]
    exact ⟨rfl, hr2, only_trans (only_of_below Hb1.out _) hg2⟩

theorem text_calls (g B : Nat) (r : Rd) (most : Int) (w : World) (h : IsR w g B r) :
    Calls Try.prog 36 #[.pointer (some ⟨g, 0, none⟩), .int .i64 most] w fun e w' => e = .returned (.string (S (r.text most).2)) ∧ IsR w' g B (r.text most).1 ∧ w.grownBy w' (some g) := by
  by_cases he : r.e = 0
  · exact text_good g B r most w h he
  · refine (text_bad g B r most w h he).mono fun e w' ⟨h1, h2⟩ => ?_
    subst h2
    rw [Rd.text_bad r most he]
    exact ⟨h1, h, World.grownBy.refl _ _⟩
end Re
end Go.Proofs.Ytldhplanpnddbaa
