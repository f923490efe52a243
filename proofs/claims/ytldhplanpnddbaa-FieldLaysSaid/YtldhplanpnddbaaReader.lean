/- What the reader of numbers and texts does, of the program. -/
import Derived.Test.YtldhplanpnddbaaField
namespace Go.Proofs.Ytldhplanpnddbaa
namespace Re
open Go.RowKit Ba Vm Fm Vi
set_option linter.unusedVariables false

/-- block g is a reader: what is left, and the first error -/
def IsR (w : World) (g B : Nat) (r : Rd) : Prop :=
  ∃ A c, w.heap[g]? = some (.cells #[.slice A r.l.length c, .int .i64 r.e] 75 (0, 0)) ∧ r.l.length ≤ c ∧ c ≤ 9223372036854775807 ∧ ReadB w B A r.l ∧ B ≤ g
theorem IsR.lt {w : World} {g B : Nat} {r : Rd} (h : IsR w g B r) : g < w.heap.size := by
  obtain ⟨A, c, h, _⟩ := h
  rcases Nat.lt_or_ge g w.heap.size with hlt | hge
  · exact hlt
  · rw [Array.getElem?_eq_none hge] at h; cases h
theorem IsR.below {w w' : World} {g B : Nat} {r : Rd} (h : IsR w g B r) (hb : Below w.heap.size w w') : IsR w' g B r := by
  have hlt := h.lt
  obtain ⟨A, c, h1, h2, h3, h4, h5⟩ := h
  exact ⟨A, c, (hb.block g hlt).trans h1, h2, h3, h4.below (hb.mono (by omega)), h5⟩
theorem IsR.other {w w' : World} {g B k : Nat} {r : Rd} (h : IsR w g B r) (hg : w.grownBy w' (some k)) (hk : g < k) : IsR w' g B r := by
  have hlt := h.lt
  obtain ⟨A, c, h1, h2, h3, h4, h5⟩ := h
  exact ⟨A, c, (hg.block g hlt (by simp; omega)).trans h1, h2, h3, h4.only hg (by omega) (by omega), h5⟩
theorem blk_cell {w : World} {g : Nat} {x y : Value} {t : TypeId} (h : w.heap[g]? = some (.cells #[x, y] t (0, 0))) :
    w.cell? ⟨g, 0, none⟩ = some x ∧ w.cell? ⟨g, 1, none⟩ = some y ∧ w.frozen? ⟨g, 0, none⟩ = false ∧ w.frozen? ⟨g, 1, none⟩ = false :=
  ⟨by rw [cell_of_row w g 0 _ t _ h]; rfl, by rw [cell_of_row w g 1 _ t _ h]; rfl, frozen_of_row w g 0 _ t h, frozen_of_row w g 1 _ t h⟩
theorem set0 {w : World} {g : Nat} {x y u : Value} {t : TypeId} (h : w.heap[g]? = some (.cells #[x, y] t (0, 0))) : (w.setCell ⟨g, 0, none⟩ u).heap[g]? = some (.cells #[u, y] t (0, 0)) := by
  rw [heap_setCell_same w g 0 _ t u h]; rfl
theorem set1 {w : World} {g : Nat} {x y u : Value} {t : TypeId} (h : w.heap[g]? = some (.cells #[x, y] t (0, 0))) : (w.setCell ⟨g, 1, none⟩ u).heap[g]? = some (.cells #[x, u] t (0, 0)) := by
  rw [heap_setCell_same w g 1 _ t u h]; rfl

theorem new_calls (l : List UInt8) (A : Option Addr) (c : Nat) (w : World) (h : ReadB w w.heap.size A l) (hlc : l.length ≤ c) (hcm : c ≤ 9223372036854775807) :
    Calls Try.prog 32 #[.slice A l.length c] w fun e w' => e = .returned (.pointer (some ⟨w.heap.size, 0, none⟩)) ∧ IsR w' w.heap.size w.heap.size ⟨l, 0⟩ ∧ Below w.heap.size w w' := by
  go_enter Try.func32, Try.ntmps32
  go_wp2
  go_ret
  refine ⟨rfl, ⟨A, c, heap_alloc_new w _, hlc, hcm, h.below ((Below.refl _ _).alloc (Nat.le_refl _) _), Nat.le_refl _⟩, (Below.refl _ _).alloc (Nat.le_refl _) _⟩

theorem new_at (l : List UInt8) (A : Option Addr) (c : Nat) (w : World) (g : Nat) (hg : g = w.heap.size) (h : ReadB w g A l) (hlc : l.length ≤ c) (hcm : c ≤ 9223372036854775807) :
    Calls Try.prog 32 #[.slice A l.length c] w fun e w' => e = .returned (.pointer (some ⟨g, 0, none⟩)) ∧ IsR w' g g ⟨l, 0⟩ ∧ Below w.heap.size w w' := by
  subst hg
  exact new_calls l A c w h hlc hcm
theorem fail_ok (g B : Nat) (r : Rd) (w : World) (h : IsR w g B r) (he : r.e = 0) :
    Calls Try.prog 53 #[.pointer (some ⟨g, 0, none⟩), .int .i64 0] w fun e w' => e = .returned (.bool false) ∧ w = w' := by
  obtain ⟨A, c, h1, h2, h3, h4, h5⟩ := h
  rw [he] at h1
  obtain ⟨hc0, hc1, hf0, hf1⟩ := blk_cell h1
  have H1 := Lib.hid h1
  clear h1 he
  go_enter Try.func53, Try.ntmps53
  go_wp2
  go_ret
  exact ⟨rfl, rfl⟩

theorem fail_set (g B : Nat) (r : Rd) (d : Int) (w : World) (h : IsR w g B r) (he : r.e = 0) (hd : d ≠ 0) :
    Calls Try.prog 53 #[.pointer (some ⟨g, 0, none⟩), .int .i64 d] w fun e w' => e = .returned (.bool true) ∧ IsR w' g B ⟨r.l, d⟩ ∧ w.grownBy w' (some g) := by
  have hlt := h.lt
  obtain ⟨A, c, h1, h2, h3, h4, h5⟩ := h
  rw [he] at h1
  obtain ⟨hc0, hc1, hf0, hf1⟩ := blk_cell h1
  have H1 := Lib.hid h1
  have hd0 : (d == 0) = false := by rw [beq_eq_false_iff_ne]; exact hd
  have hd1 : (d != 0) = true := by rw [bne_iff_ne]; exact hd
  clear h1 he hd
  go_enter Try.func53, Try.ntmps53
  go_wp2
  go_ret
  refine ⟨rfl, ⟨A, c, set1 H1.out, h2, h3, h4.setFar (by simpa using h5) _, h5⟩, only_set w g 1 _⟩

def lookM (l : List UInt8) (most : Int) : Nat × Nat × Int := if (shortest l).2.2 = 0 ∧ most < ((shortest l).1 : Int) then (0, 0, 5) else shortest l

set_option maxHeartbeats 400000 in
theorem look_calls (g B : Nat) (r : Rd) (most : Int) (w : World) (h : IsR w g B r) :
    Calls Try.prog 52 #[.pointer (some ⟨g, 0, none⟩), .int .i64 most] w fun e w' => e = .returned (.tuple #[.int .i64 (lookM r.l most).1, .int .i64 (lookM r.l most).2.1, .int .i64 (lookM r.l most).2.2]) ∧ Below w.heap.size w w' := by
  have hlt := h.lt
  obtain ⟨A, c, h1, h2, h3, h4, h5⟩ := h
  obtain ⟨hc0, hc1, hf0, hf1⟩ := blk_cell h1
  have H1 := Lib.hid h1
  have hsb := shortest_bound r.l
  obtain ⟨n, u, x, hs⟩ : ∃ n u x, shortest r.l = (n, u, x) := ⟨_, _, _, rfl⟩
  have hm : lookM r.l most = if x = 0 ∧ most < (n : Int) then (0, 0, 5) else (n, u, x) := by unfold lookM; rw [hs]
  rw [hs] at hsb
  simp only at hsb
  have Hs := Lib.hid hs
  clear h1 hs
  obtain ⟨_, _, hx, _⟩ := hsb
  rcases hx with rfl | rfl | rfl
  · by_cases hmo : most < (n : Int)
    · rw [if_pos ⟨rfl, hmo⟩] at hm
      have Hm := Lib.hid hm
      clear hm
      go_enter Try.func52, Try.ntmps52
      go_wp2_with (go_at_call 23; go_must (refine (shortest_calls r.l A c B _ h4 h2 h3).mono ?_); rw [Hs.out]; rintro e w1 ⟨rfl, hb1⟩)
      go_ret3
      exact ⟨by rw [Hm.out]; rfl, hb1⟩
    · rw [if_neg (fun h => hmo h.2)] at hm
      have Hm := Lib.hid hm
      clear hm
      go_enter Try.func52, Try.ntmps52
      go_wp2_with (go_at_call 23; go_must (refine (shortest_calls r.l A c B _ h4 h2 h3).mono ?_); rw [Hs.out]; rintro e w1 ⟨rfl, hb1⟩)
      go_ret3
      exact ⟨by rw [Hm.out]; rfl, hb1⟩
  all_goals
    rw [if_neg (fun h => absurd h.1 (by omega))] at hm
    have Hm := Lib.hid hm
    clear hm
    go_enter Try.func52, Try.ntmps52
    go_wp2_with (go_at_call 23; go_must (refine (shortest_calls r.l A c B _ h4 h2 h3).mono ?_); rw [Hs.out]; rintro e w1 ⟨rfl, hb1⟩)
    go_ret3
    exact ⟨by rw [Hm.out]; rfl, hb1⟩

/-- at a reader that has failed, nothing is taken -/
theorem num_bad (g B : Nat) (r : Rd) (most : Int) (w : World) (h : IsR w g B r) (he : r.e ≠ 0) :
    Calls Try.prog 34 #[.pointer (some ⟨g, 0, none⟩), .int .i64 most] w fun e w' => e = .returned (.int .i64 0) ∧ w = w' := by
  obtain ⟨A, c, h1, h2, h3, h4, h5⟩ := h
  obtain ⟨hc0, hc1, hf0, hf1⟩ := blk_cell h1
  have hd1 : (r.e != 0) = true := by rw [bne_iff_ne]; exact he
  have hd0 : (r.e == 0) = false := by rw [beq_eq_false_iff_ne]; exact he
  clear h1 he
  go_enter Try.func34, Try.ntmps34
  go_wp2
  go_ret
  exact ⟨rfl, rfl⟩

set_option maxHeartbeats 800000 in
theorem num_good (g B : Nat) (r : Rd) (most : Int) (w : World) (h : IsR w g B r) (he : r.e = 0) :
    Calls Try.prog 34 #[.pointer (some ⟨g, 0, none⟩), .int .i64 most] w fun e w' => e = .returned (.int .i64 ((r.num most).2 : Int)) ∧ IsR w' g B (r.num most).1 ∧ w.grownBy w' (some g) := by
  have hsb := shortest_bound r.l
  obtain ⟨n, u, x, hs⟩ : ∃ n u x, shortest r.l = (n, u, x) := ⟨_, _, _, rfl⟩
  have hm : lookM r.l most = if x = 0 ∧ most < (n : Int) then (0, 0, 5) else (n, u, x) := by unfold lookM; rw [hs]
  have hr : r.num most = if x ≠ 0 then (⟨r.l, x⟩, 0) else if most < (n : Int) then (⟨r.l, 5⟩, 0) else (⟨r.l.drop u, 0⟩, n) := by unfold Rd.num; rw [hs, if_neg (by simpa using he)]
  rw [hs] at hsb
  simp only at hsb
  obtain ⟨_, hul, hx, hu8, hu1⟩ := hsb
  have hlt := h.lt
  have Hh := Lib.hid h
  have He := Lib.hid he
  obtain ⟨A, c, h1, h2, h3, h4, h5⟩ := h
  rw [he] at h1
  have H1 := Lib.hid h1
  obtain ⟨hc0, hc1, hf0, hf1⟩ := blk_cell h1
  clear h1 hs he
  by_cases hok : x = 0 ∧ ¬ most < (n : Int)
  · obtain ⟨rfl, hmo⟩ := hok
    rw [if_neg (by simp), if_neg hmo] at hr
    rw [if_neg (fun h => hmo h.2)] at hm
    have Hr := Lib.hid hr
    have Hm := Lib.hid hm
    have hu1 := hu1 rfl
    clear hr hm hmo hx
    obtain ⟨ab, ao, rfl, hab, hcell⟩ := h4 (by omega)
    have H4 := Lib.hid h4
    clear h4 hcell
    by_cases hcu : c = u
    all_goals
      have Hcu := Lib.hid hcu
      go_enter Try.func34, Try.ntmps34
      go_wp2_with (first
        | (go_at_call 52; go_must (refine (look_calls g B r most _ Hh.out).mono ?_); rw [Hm.out]; rintro e w1 ⟨rfl, hb1⟩
           have Hb1 := Lib.hid hb1
           obtain ⟨k0, k1, f0, f1⟩ := blk_cell ((hb1.block g hlt).trans H1.out)
           clear hb1)
        | (go_at_call 53; go_must (refine (fail_ok g B r _ (Hh.out.below Hb1.out) He.out).mono ?_); rintro e w2 ⟨rfl, rfl⟩))
      go_ret
      rw [Hr.out]
      have hb1 := Hb1.out
      have hL : (r.l.drop u).length = r.l.length - u := List.length_drop
      refine ⟨rfl, ⟨_, _, by rw [hL]; exact set0 ((hb1.block g hlt).trans H1.out), ?_, ?_, ?_, h5⟩, only_trans (only_of_below hb1 _) (only_set _ g 0 _)⟩
      · rw [hL]; omega
      · omega
      · refine ReadB.setFar ?_ (by simpa using h5) _
        first
          | exact (H4.out.drop u).below (hb1.mono (by omega))
          | (have e : r.l.drop u = [] := List.drop_eq_nil_of_le (by omega)
             show ReadB _ _ _ (r.l.drop u)
             rw [e]; exact ReadB.nil)
  · obtain ⟨p, q, d, hd, hm2, hr2⟩ : ∃ (p q : Nat) (d : Int), d ≠ 0 ∧ lookM r.l most = (p, q, d) ∧ r.num most = (⟨r.l, d⟩, 0) := by
      by_cases hx0 : x = 0
      · have hmo : most < (n : Int) := by
          by_cases h : most < (n : Int)
          · exact h
          · exact absurd ⟨hx0, h⟩ hok
        rw [if_pos ⟨hx0, hmo⟩] at hm
        rw [if_neg (by simpa using hx0), if_pos hmo] at hr
        exact ⟨0, 0, 5, by omega, hm, hr⟩
      · rw [if_neg (fun h => hx0 h.1)] at hm
        rw [if_pos hx0] at hr
        exact ⟨n, u, x, hx0, hm, hr⟩
    have Hr := Lib.hid hr2
    have Hm := Lib.hid hm2
    have Hd := Lib.hid hd
    clear hr hm hr2 hm2 hd hok hx hu1
    go_enter Try.func34, Try.ntmps34
    go_wp2_with (first
      | (go_at_call 52; go_must (refine (look_calls g B r most _ Hh.out).mono ?_); rw [Hm.out]; rintro e w1 ⟨rfl, hb1⟩
         have Hb1 := Lib.hid hb1
         clear hb1)
      | (go_at_call 53; go_must (refine (fail_set g B r d _ (Hh.out.below Hb1.out) He.out Hd.out).mono ?_); rintro e w2 ⟨rfl, hr2, hg2⟩))
    go_ret
    rw [Hr.out]
    exact ⟨rfl, hr2, only_trans (only_of_below Hb1.out _) hg2⟩

theorem left_calls (g B : Nat) (r : Rd) (w : World) (h : IsR w g B r) :
    Calls Try.prog 41 #[.pointer (some ⟨g, 0, none⟩)] w fun e w' => e = .returned (.int .i64 (r.l.length : Int)) ∧ w = w' := by
  obtain ⟨A, c, h1, h2, h3, h4, h5⟩ := h
  obtain ⟨hc0, hc1, hf0, hf1⟩ := blk_cell h1
  clear h1
  go_enter Try.func41, Try.ntmps41
  go_wp2
  go_ret
  exact ⟨rfl, rfl⟩
theorem err_calls (g B : Nat) (r : Rd) (w : World) (h : IsR w g B r) :
    Calls Try.prog 42 #[.pointer (some ⟨g, 0, none⟩)] w fun e w' => e = .returned (.int .i64 r.e) ∧ w = w' := by
  obtain ⟨A, c, h1, h2, h3, h4, h5⟩ := h
  obtain ⟨hc0, hc1, hf0, hf1⟩ := blk_cell h1
  clear h1
  go_enter Try.func42, Try.ntmps42
  go_wp2
  go_ret
  exact ⟨rfl, rfl⟩
theorem done_calls (g B : Nat) (r : Rd) (w : World) (h : IsR w g B r) :
    Calls Try.prog 43 #[.pointer (some ⟨g, 0, none⟩)] w fun e w' => e = .returned (.int .i64 r.done) ∧ w = w' := by
  have Hh := Lib.hid h
  obtain ⟨A, c, h1, h2, h3, h4, h5⟩ := h
  obtain ⟨hc0, hc1, hf0, hf1⟩ := blk_cell h1
  clear h1
  by_cases he : r.e = 0
  · have hd0 : (r.e != 0) = false := by rw [bne_eq_false_iff_eq]; exact he
    by_cases hl : 0 < r.l.length
    · have hd : r.done = 4 := by unfold Rd.done; rw [if_neg (by simpa using he), if_pos hl]
      have Hd := Lib.hid hd
      clear he hd
      go_enter Try.func43, Try.ntmps43
      go_wp2_with (go_at_call 42; go_must (refine (err_calls g B r _ Hh.out).mono ?_); rintro e w2 ⟨rfl, rfl⟩)
      go_ret
      exact ⟨by rw [Hd.out]; rfl, rfl⟩
    · have hd : r.done = 0 := by unfold Rd.done; rw [if_neg (by simpa using he), if_neg hl]
      have Hd := Lib.hid hd
      clear he hd
      go_enter Try.func43, Try.ntmps43
      go_wp2_with (go_at_call 42; go_must (refine (err_calls g B r _ Hh.out).mono ?_); rintro e w2 ⟨rfl, rfl⟩)
      go_ret
      exact ⟨by rw [Hd.out]; rfl, rfl⟩
  · have hd0 : (r.e != 0) = true := by rw [bne_iff_ne]; exact he
    have hd : r.done = r.e := by unfold Rd.done; rw [if_pos he]
    have Hd := Lib.hid hd
    clear he hd
    go_enter Try.func43, Try.ntmps43
    go_wp2_with (go_at_call 42; go_must (refine (err_calls g B r _ Hh.out).mono ?_); rintro e w2 ⟨rfl, rfl⟩)
    go_ret
    exact ⟨by rw [Hd.out]; rfl, rfl⟩

/-! ### a reader that is not there -/
theorem nil_left (w : World) : Calls Try.prog 41 #[.pointer none] w fun e w' => e = .returned (.int .i64 0) ∧ w = w' := by
  go_enter Try.func41, Try.ntmps41
  go_wp2
  go_ret
  exact ⟨rfl, rfl⟩
theorem nil_err (w : World) : Calls Try.prog 42 #[.pointer none] w fun e w' => e = .returned (.int .i64 1) ∧ w = w' := by
  go_enter Try.func42, Try.ntmps42
  go_wp2
  go_ret
  exact ⟨rfl, rfl⟩
theorem nil_done (w : World) : Calls Try.prog 43 #[.pointer none] w fun e w' => e = .returned (.int .i64 1) ∧ w = w' := by
  go_enter Try.func43, Try.ntmps43
  go_wp2_with (go_at_call 42; refine (nil_err _).mono ?_; rintro e w2 ⟨rfl, rfl⟩)
  go_ret
  exact ⟨rfl, rfl⟩
theorem nil_num (most : Int) (w : World) : Calls Try.prog 34 #[.pointer none, .int .i64 most] w fun e w' => e = .returned (.int .i64 0) ∧ w = w' := by
  go_enter Try.func34, Try.ntmps34
  go_wp2
  go_ret
  exact ⟨rfl, rfl⟩
theorem nil_text (most : Int) (w : World) : Calls Try.prog 36 #[.pointer none, .int .i64 most] w fun e w' => e = .returned (.string ⟨#[]⟩) ∧ w = w' := by
  go_enter Try.func36, Try.ntmps36
  go_wp2
  go_ret
  exact ⟨rfl, rfl⟩
theorem nil_raw (n : Int) (w : World) : Calls Try.prog 38 #[.pointer none, .int .i64 n] w fun e w' => e = .returned (.string ⟨#[]⟩) ∧ w = w' := by
  go_enter Try.func38, Try.ntmps38
  go_wp2
  go_ret
  exact ⟨rfl, rfl⟩
theorem nil_byte (w : World) : Calls Try.prog 40 #[.pointer none] w fun e w' => e = .returned (.int .u8 0) ∧ w = w' := by
  go_enter Try.func40, Try.ntmps40
  go_wp2_with (go_at_call 38; refine (nil_raw _ _).mono ?_; rintro e w2 ⟨rfl, rfl⟩)
  go_ret
  exact ⟨rfl, rfl⟩
end Re
end Go.Proofs.Ytldhplanpnddbaa
