/- What the reader of numbers and texts does, of the program. -/
import Derived.Test.YtcbkhbnemhkheaaDoorP01
import Derived.Test.YtcbkhbnemhkheaaDoorP02
import Derived.Test.YtcbkhbnemhkheaaDoorP03
import Derived.Test.YtcbkhbnemhkheaaDoorP04
import Derived.Test.YtcbkhbnemhkheaaDoorP05
import Derived.Test.YtcbkhbnemhkheaaDoorP06
import Derived.Test.YtcbkhbnemhkheaaDoorP07
import Derived.Test.YtcbkhbnemhkheaaDoorP08
namespace Go.Proofs.YtcbkhbnemhkheaaDoor
namespace Re
open Go.RowKit Ba Vm Fm Vi
set_option linter.unusedVariables false

/-- block g is a reader: what is left, and the first error -/
def IsR (w : World) (g B : Nat) (r : Rd) : Prop :=
  ∃ A c, w.heap[g]? = some (.cells #[.slice A r.l.length c, .int .i64 r.e] 110 (0, 0)) ∧ r.l.length ≤ c ∧ c ≤ 9223372036854775807 ∧ ReadB w B A r.l ∧ B ≤ g
theorem IsR.lt {w : World} {g B : Nat} {r : Rd} (h : IsR w g B r) : g < w.heap.size := by
  obtain ⟨A, c, h, _⟩ := h
  rcases Nat.lt_or_ge g w.heap.size with hlt | hge
  · exact hlt
  · rw [Array.getElem?_eq_none hge] at h; cases h
theorem IsR.below {w w' : World} {g B : Nat} {r : Rd} (h : IsR w g B r) (hb : Below w.heap.size w w') : IsR w' g B r := by
  have hlt := h.lt
  obtain ⟨A, c, h1, h2, h3, h4, h5⟩ := h
  exact ⟨A, c, (hb.block g hlt).trans h1, h2, h3, h4.below (hb.mono (by omega)), h5⟩
theorem IsR.other {w w' : World} {g B k : Nat} {r : Rd} (h : IsR w g B r) (hg : w.grownBy w' (some k)) (hk : g < k) : IsR w' g B r := by
  have hlt := h.lt
  obtain ⟨A, c, h1, h2, h3, h4, h5⟩ := h
  exact ⟨A, c, (hg.block g hlt (by simp; omega)).trans h1, h2, h3, h4.only hg (by omega) (by omega), h5⟩
theorem blk_cell {w : World} {g : Nat} {x y : Value} {t : TypeId} (h : w.heap[g]? = some (.cells #[x, y] t (0, 0))) :
    w.cell? ⟨g, 0, none⟩ = some x ∧ w.cell? ⟨g, 1, none⟩ = some y ∧ w.frozen? ⟨g, 0, none⟩ = false ∧ w.frozen? ⟨g, 1, none⟩ = false :=
  ⟨by rw [cell_of_row w g 0 _ t _ h]; rfl, by rw [cell_of_row w g 1 _ t _ h]; rfl, frozen_of_row w g 0 _ t h, frozen_of_row w g 1 _ t h⟩
theorem set0 {w : World} {g : Nat} {x y u : Value} {t : TypeId} (h : w.heap[g]? = some (.cells #[x, y] t (0, 0))) : (w.setCell ⟨g, 0, none⟩ u).heap[g]? = some (.cells #[u, y] t (0, 0)) := by
  rw [heap_setCell_same w g 0 _ t u h]; rfl
theorem set1 {w : World} {g : Nat} {x y u : Value} {t : TypeId} (h : w.heap[g]? = some (.cells #[x, y] t (0, 0))) : (w.setCell ⟨g, 1, none⟩ u).heap[g]? = some (.cells #[x, u] t (0, 0)) := by
  rw [heap_setCell_same w g 1 _ t u h]; rfl

theorem new_calls (l : List UInt8) (A : Option Addr) (c : Nat) (w : World) (h : ReadB w w.heap.size A l) (hlc : l.length ≤ c) (hcm : c ≤ 9223372036854775807) :
    Calls Tryd.prog 37 #[.slice A l.length c] w fun e w' => e = .returned (.pointer (some ⟨w.heap.size, 0, none⟩)) ∧ IsR w' w.heap.size w.heap.size ⟨l, 0⟩ ∧ Below w.heap.size w w' := by
  go_enter Tryd.func37, Tryd.ntmps37
  go_wp2
  go_ret
  refine ⟨rfl, ⟨A, c, heap_alloc_new w _, hlc, hcm, h.below ((Below.refl _ _).alloc (Nat.le_refl _) _), Nat.le_refl _⟩, (Below.refl _ _).alloc (Nat.le_refl _) _⟩

theorem new_at (l : List UInt8) (A : Option Addr) (c : Nat) (w : World) (g : Nat) (hg : g = w.heap.size) (h : ReadB w g A l) (hlc : l.length ≤ c) (hcm : c ≤ 9223372036854775807) :
    Calls Tryd.prog 37 #[.slice A l.length c] w fun e w' => e = .returned (.pointer (some ⟨g, 0, none⟩)) ∧ IsR w' g g ⟨l, 0⟩ ∧ Below w.heap.size w w' := by
  subst hg
  exact new_calls l A c w h hlc hcm
theorem fail_ok (g B : Nat) (r : Rd) (w : World) (h : IsR w g B r) (he : r.e = 0) :
    Calls Tryd.prog 59 #[.pointer (some ⟨g, 0, none⟩), .int .i64 0] w fun e w' => e = .returned (.bool false) ∧ w = w' := by
  obtain ⟨A, c, h1, h2, h3, h4, h5⟩ := h
  rw [he] at h1
  obtain ⟨hc0, hc1, hf0, hf1⟩ := blk_cell h1
  have H1 := Lib.hid h1
  clear h1 he
  go_enter Tryd.func59, Tryd.ntmps59
  go_wp2
  go_ret
  exact ⟨rfl, rfl⟩

theorem fail_set (g B : Nat) (r : Rd) (d : Int) (w : World) (h : IsR w g B r) (he : r.e = 0) (hd : d ≠ 0) :
    Calls Tryd.prog 59 #[.pointer (some ⟨g, 0, none⟩), .int .i64 d] w fun e w' => e = .returned (.bool true) ∧ IsR w' g B ⟨r.l, d⟩ ∧ w.grownBy w' (some g) := by
  have hlt := h.lt
  obtain ⟨A, c, h1, h2, h3, h4, h5⟩ := h
  rw [he] at h1
  obtain ⟨hc0, hc1, hf0, hf1⟩ := blk_cell h1
  have H1 := Lib.hid h1
  have hd0 : (d == 0) = false := by rw [beq_eq_false_iff_ne]; exact hd
  have hd1 : (d != 0) = true := by rw [bne_iff_ne]; exact hd
  clear h1 he hd
  go_enter Tryd.func59, Tryd.ntmps59
  go_wp2
  go_ret
  refine ⟨rfl, ⟨A, c, set1 H1.out, h2, h3, h4.setFar (by simpa using h5) _, h5⟩, only_set w g 1 _⟩

def lookM (l : List UInt8) (most : Int) : Nat × Nat × Int := if (shortest l).2.2 = 0 ∧ most < ((shortest l).1 : Int) then (0, 0, 5) else shortest l

set_option maxHeartbeats 400000 in
theorem look_calls (g B : Nat) (r : Rd) (most : Int) (w : World) (h : IsR w g B r) :
    Calls Tryd.prog 58 #[.pointer (some ⟨g, 0, none⟩), .int .i64 most] w fun e w' => e = .returned (.tuple #[.int .i64 (lookM r.l most).1, .int .i64 (lookM r.l most).2.1, .int .i64 (lookM r.l most).2.2]) ∧ Below w.heap.size w w' := by
  have hlt := h.lt
  obtain ⟨A, c, h1, h2, h3, h4, h5⟩ := h
  obtain ⟨hc0, hc1, hf0, hf1⟩ := blk_cell h1
  have H1 := Lib.hid h1
  have hsb := shortest_bound r.l
  obtain ⟨n, u, x, hs⟩ : ∃ n u x, shortest r.l = (n, u, x) := ⟨_, _, _, rfl⟩
  have hm : lookM r.l most = if x = 0 ∧ most < (n : Int) then (0, 0, 5) else (n, u, x) := by unfold lookM; rw [hs]
  rw [hs] at hsb
  simp only at hsb
  have Hs := Lib.hid hs
  clear h1 hs
  obtain ⟨_, _, hx, _⟩ := hsb
  rcases hx with rfl | rfl | rfl
  · by_cases hmo : most < (n : Int)
    · rw [if_pos ⟨rfl, hmo⟩] at hm
      have Hm := Lib.hid hm
      clear hm
      go_enter Tryd.func58, Tryd.ntmps58
      go_wp2_with (go_at_call 74; go_must (refine (shortest_calls r.l A c B _ h4 h2 h3).mono ?_); rw [Hs.out]; rintro e w1 ⟨rfl, hb1⟩)
      go_ret3
      exact ⟨by rw [Hm.out]; rfl, hb1⟩
    · rw [if_neg (fun h => hmo h.2)] at hm
      have Hm := Lib.hid hm
      clear hm
      go_enter Tryd.func58, Tryd.ntmps58
      go_wp2_with (go_at_call 74; go_must (refine (shortest_calls r.l A c B _ h4 h2 h3).mono ?_); rw [Hs.out]; rintro e w1 ⟨rfl, hb1⟩)
      go_ret3
      exact ⟨by rw [Hm.out]; rfl, hb1⟩
  all_goals
    rw [if_neg (fun h => absurd h.1 (by omega))] at hm
    have Hm := Lib.hid hm
    clear hm
    go_enter Tryd.func58, Tryd.ntmps58
    go_wp2_with (go_at_call 74; go_must (refine (shortest_calls r.l A c B _ h4 h2 h3).mono ?_); rw [Hs.out]; rintro e w1 ⟨rfl, hb1⟩)
    go_ret3
    exact ⟨by rw [Hm.out]; rfl, hb1⟩

/-- at a reader that has failed, nothing is taken -/
theorem num_bad (g B : Nat) (r : Rd) (most : Int) (w : World) (h : IsR w g B r) (he : r.e ≠ 0) :
    Calls Tryd.prog 38 #[.pointer (some ⟨g, 0, none⟩), .int .i64 most] w fun e w' => e = .returned (.int .i64 0) ∧ w = w' := by
  obtain ⟨A, c, h1, h2, h3, h4, h5⟩ := h
  obtain ⟨hc0, hc1, hf0, hf1⟩ := blk_cell h1
  have hd1 : (r.e != 0) = true := by rw [bne_iff_ne]; exact he
  have hd0 : (r.e == 0) = false := by rw [beq_eq_false_iff_ne]; exact he
  clear h1 he
  go_enter Tryd.func38, Tryd.ntmps38
  go_wp2
  go_ret
  exact ⟨rfl, rfl⟩

set_option maxHeartbeats 800000 in
theorem num_good (g B : Nat) (r : Rd) (most : Int) (w : World) (h : IsR w g B r) (he : r.e = 0) :
    Calls Tryd.prog 38 #[.pointer (some ⟨g, 0, none⟩), .int .i64 most] w fun e w' => e = .returned (.int .i64 ((r.num most).2 : Int)) ∧ IsR w' g B (r.num most).1 ∧ w.grownBy w' (some g) := by
  have hsb := shortest_bound r.l
  obtain ⟨n, u, x, hs⟩ : ∃ n u x, shortest r.l = (n, u, x) := ⟨_, _, _, rfl⟩
  have hm : lookM r.l most = if x = 0 ∧ most < (n : Int) then (0, 0, 5) else (n, u, x) := by unfold lookM; rw [hs]
  have hr : r.num most = if x ≠ 0 then (⟨r.l, x⟩, 0) else if most < (n : Int) then (⟨r.l, 5⟩, 0) else (⟨r.l.drop u, 0⟩, n) := by unfold Rd.num; rw [hs, if_neg (by simpa using he)]
  rw [hs] at hsb
  simp only at hsb
  obtain ⟨_, hul, hx, hu8, hu1⟩ := hsb
  have hlt := h.lt
  have Hh := Lib.hid h
  have He := Lib.hid he
  obtain ⟨A, c, h1, h2, h3, h4, h5⟩ := h
  rw [he] at h1
  have H1 := Lib.hid h1
  obtain ⟨hc0, hc1, hf0, hf1⟩ := blk_cell h1
  clear h1 hs he
  by_cases hok : x = 0 ∧ ¬ most < (n : Int)
  · obtain ⟨rfl, hmo⟩ := hok
    rw [if_neg (by simp), if_neg hmo] at hr
    rw [if_neg (fun h => hmo h.2)] at hm
    have Hr := Lib.hid hr
    have Hm := Lib.hid hm
    have hu1 := hu1 rfl
    clear hr hm hmo hx
    obtain ⟨ab, ao, rfl, hab, hcell⟩ := h4 (by omega)
    have H4 := Lib.hid h4
    clear h4 hcell
    by_cases hcu : c = u
    all_goals
      have Hcu := Lib.hid hcu
      go_enter Tryd.func38, Tryd.ntmps38
      go_wp2_with (first
        | (go_at_call 58; go_must (refine (look_calls g B r most _ Hh.out).mono ?_); rw [Hm.out]; rintro e w1 ⟨rfl, hb1⟩
           have Hb1 := Lib.hid hb1
           obtain ⟨k0, k1, f0, f1⟩ := blk_cell ((hb1.block g hlt).trans H1.out)
           clear hb1)
        | (go_at_call 59; go_must (refine (fail_ok g B r _ (Hh.out.below Hb1.out) He.out).mono ?_); rintro e w2 ⟨rfl, rfl⟩))
      go_ret
      rw [Hr.out]
      have hb1 := Hb1.out
      have hL : (r.l.drop u).length = r.l.length - u := List.length_drop
      refine ⟨rfl, ⟨_, _, by rw [hL]; exact set0 ((hb1.block g hlt).trans H1.out), ?_, ?_, ?_, h5⟩, only_trans (only_of_below hb1 _) (only_set _ g 0 _)⟩
      · rw [hL]; omega
      · omega
      · refine ReadB.setFar ?_ (by simpa using h5) _
        first
          | exact (H4.out.drop u).below (hb1.mono (by omega))
          | (have e : r.l.drop u = [] := List.drop_eq_nil_of_le (by omega)
             show ReadB _ _ _ (r.l.drop u)
             rw [e]; exact ReadB.nil)
  · obtain ⟨p, q, d, hd, hm2, hr2⟩ : ∃ (p q : Nat) (d : Int), d ≠ 0 ∧ lookM r.l most = (p, q, d) ∧ r.num most = (⟨r.l, d⟩, 0) := by
      by_cases hx0 : x = 0
      · have hmo : most < (n : Int) := by
          by_cases h : most < (n : Int)
          · exact h
          · exact absurd ⟨hx0, h⟩ hok
        rw [if_pos ⟨hx0, hmo⟩] at hm
        rw [if_neg (by simpa using hx0), if_pos hmo] at hr
        exact ⟨0, 0, 5, by omega, hm, hr⟩
      · rw [if_neg (fun h => hx0 h.1)] at hm
        rw [if_pos hx0] at hr
        exact ⟨n, u, x, hx0, hm, hr⟩
    have Hr := Lib.hid hr2
    have Hm := Lib.hid hm2
    have Hd := Lib.hid hd
    clear hr hm hr2 hm2 hd hok hx hu1
    go_enter Tryd.func38, Tryd.ntmps38
    go_wp2_with (first
      | (go_at_call 58; go_must (refine (look_calls g B r most _ Hh.out).mono ?_); rw [Hm.out]; rintro e w1 ⟨rfl, hb1⟩
         have Hb1 := Lib.hid hb1
         clear hb1)
      | (go_at_call 59; go_must (refine (fail_set g B r d _ (Hh.out.below Hb1.out) He.out Hd.out).mono ?_); rintro e w2 ⟨rfl, hr2, hg2⟩))
    go_ret
    rw [Hr.out]
    exact ⟨rfl, hr2, only_trans (only_of_below Hb1.out _) hg2⟩

theorem left_calls (g B : Nat) (r : Rd) (w : World) (h : IsR w g B r) :
    Calls Tryd.prog 40 #[.pointer (some ⟨g, 0, none⟩)] w fun e w' => e = .returned (.int .i64 (r.l.length : Int)) ∧ w = w' := by
  obtain ⟨A, c, h1, h2, h3, h4, h5⟩ := h
  obtain ⟨hc0, hc1, hf0, hf1⟩ := blk_cell h1
  clear h1
  go_enter Tryd.func40, Tryd.ntmps40
  go_wp2
  go_ret
  exact ⟨rfl, rfl⟩
theorem err_calls (g B : Nat) (r : Rd) (w : World) (h : IsR w g B r) :
    Calls Tryd.prog 39 #[.pointer (some ⟨g, 0, none⟩)] w fun e w' => e = .returned (.int .i64 r.e) ∧ w = w' := by
  obtain ⟨A, c, h1, h2, h3, h4, h5⟩ := h
  obtain ⟨hc0, hc1, hf0, hf1⟩ := blk_cell h1
  clear h1
  go_enter Tryd.func39, Tryd.ntmps39
  go_wp2
  go_ret
  exact ⟨rfl, rfl⟩
/-! ### a reader that is not there -/
theorem nil_left (w : World) : Calls Tryd.prog 40 #[.pointer none] w fun e w' => e = .returned (.int .i64 0) ∧ w = w' := by
  go_enter Tryd.func40, Tryd.ntmps40
  go_wp2
  go_ret
  exact ⟨rfl, rfl⟩
theorem nil_err (w : World) : Calls Tryd.prog 39 #[.pointer none] w fun e w' => e = .returned (.int .i64 1) ∧ w = w' := by
  go_enter Tryd.func39, Tryd.ntmps39
  go_wp2
  go_ret
  exact ⟨rfl, rfl⟩
theorem nil_num (most : Int) (w : World) : Calls Tryd.prog 38 #[.pointer none, .int .i64 most] w fun e w' => e = .returned (.int .i64 0) ∧ w = w' := by
  go_enter Tryd.func38, Tryd.ntmps38
  go_wp2
  go_ret
  exact ⟨rfl, rfl⟩
theorem nil_raw (n : Int) (w : World) : Calls Tryd.prog 42 #[.pointer none, .int .i64 n] w fun e w' => e = .returned (.string ⟨#[]⟩) ∧ w = w' := by
  go_enter Tryd.func42, Tryd.ntmps42
  go_wp2
  go_ret
  exact ⟨rfl, rfl⟩
end Re
end Go.Proofs.YtcbkhbnemhkheaaDoor
/- What the reader does that takes bytes and texts off, of the program. -/
namespace Go.Proofs.YtcbkhbnemhkheaaDoor
namespace Re
open Go.RowKit Ba Vm Fm Vi
set_option linter.unusedVariables false

theorem strof_take (W : World) (A : Option Addr) (c B m : Nat) (l : List UInt8) (h : ReadB W B A l) (hm : m ≤ l.length) : (convert 22 9 (.slice A m c)).run Tryd.prog W = .ok (.string (S (l.take m))) W := by
  have := run_strof W 22 5 Tryd.underlying22 Tryd.underlying5 A c B (l.take m) (h.take m) 9 Tryd.underlying9
  rw [List.length_take, Nat.min_eq_left hm] at this
  exact this

theorem raw_bad (g B : Nat) (r : Rd) (n : Int) (w : World) (h : IsR w g B r) (he : r.e ≠ 0) :
    Calls Tryd.prog 42 #[.pointer (some ⟨g, 0, none⟩), .int .i64 n] w fun e w' => e = .returned (.string (S [])) ∧ w = w' := by
  obtain ⟨A, c, h1, h2, h3, h4, h5⟩ := h
  obtain ⟨hc0, hc1, hf0, hf1⟩ := blk_cell h1
  have hd1 : (r.e != 0) = true := by rw [bne_iff_ne]; exact he
  have hd0 : (r.e == 0) = false := by rw [beq_eq_false_iff_ne]; exact he
  clear h1 he
  go_enter Tryd.func42, Tryd.ntmps42
  go_wp2
  go_ret
  exact ⟨rfl, rfl⟩

set_option maxRecDepth 100000 in
set_option maxHeartbeats 800000 in
theorem raw_good (g B : Nat) (r : Rd) (n : Int) (w : World) (h : IsR w g B r) (he : r.e = 0) :
    Calls Tryd.prog 42 #[.pointer (some ⟨g, 0, none⟩), .int .i64 n] w fun e w' => e = .returned (.string (S (r.raw n).2)) ∧ IsR w' g B (r.raw n).1 ∧ w.grownBy w' (some g) := by
  have hr : r.raw n = if n < 0 then (⟨r.l, 2⟩, []) else if (r.l.length : Int) < n then (⟨r.l, 3⟩, []) else (⟨r.l.drop n.toNat, 0⟩, r.l.take n.toNat) := by unfold Rd.raw; rw [if_neg (by simpa using he)]
  have hlt := h.lt
  have Hh := Lib.hid h
  have He := Lib.hid he
  obtain ⟨A, c, h1, h2, h3, h4, h5⟩ := h
  rw [he] at h1
  have H1 := Lib.hid h1
  obtain ⟨hc0, hc1, hf0, hf1⟩ := blk_cell h1
  clear h1 he
  by_cases hn : n < 0
  · rw [if_pos hn] at hr
    have Hr := Lib.hid hr
    clear hr
    go_enter Tryd.func42, Tryd.ntmps42
    go_wp2_with (go_at_call 59; go_must (refine (fail_set g B r 2 _ Hh.out He.out (by omega)).mono ?_); rintro e w2 ⟨rfl, hr2, hg2⟩)
    go_ret
    rw [Hr.out]
    exact ⟨rfl, hr2, hg2⟩
  · rw [if_neg hn] at hr
    by_cases hl : (r.l.length : Int) < n
    · rw [if_pos hl] at hr
      have Hr := Lib.hid hr
      clear hr
      go_enter Tryd.func42, Tryd.ntmps42
      go_wp2_with (go_at_call 59; go_must (refine (fail_set g B r 3 _ Hh.out He.out (by omega)).mono ?_); rintro e w2 ⟨rfl, hr2, hg2⟩)
      go_ret
      rw [Hr.out]
      exact ⟨rfl, hr2, hg2⟩
    · rw [if_neg hl] at hr
      obtain ⟨m, rfl⟩ : ∃ m : Nat, n = (m : Int) := ⟨n.toNat, by omega⟩
      rw [Int.toNat_natCast] at hr
      have hm : m ≤ r.l.length := by omega
      have hst := strof_take w A c B m r.l h4 hm
      have Hr := Lib.hid hr
      have hL : (r.l.drop m).length = r.l.length - m := List.length_drop
      have HL := Lib.hid hL
      have H4 := Lib.hid h4
      clear hr hn hl hL h4
      rcases Nat.eq_zero_or_pos r.l.length with hl0 | hl0
      · have hm0 : m = 0 := by omega
        subst hm0
        have Hl0 := Lib.hid hl0
        clear hl0
        rcases A with _ | ad
        all_goals
          by_cases hcu : c = 0
          all_goals
            try subst hcu
            go_enter Tryd.func42, Tryd.ntmps42
            go_wp2
            go_ret
            rw [Hr.out]
            refine ⟨rfl, ⟨_, _, by rw [HL.out, Hl0.out]; exact set0 H1.out, ?_, ?_, ?_, h5⟩, only_set _ g 0 _⟩
            · rw [HL.out, Hl0.out]; omega
            · omega
            · refine ReadB.setFar ?_ (by simpa using h5) _
              have e : r.l.drop 0 = [] := List.drop_eq_nil_of_le (by have := Hl0.out; omega)
              show ReadB _ _ _ (r.l.drop 0)
              rw [e]; exact ReadB.nil
      · obtain ⟨ab, ao, rfl, hab, hcell⟩ := H4.out hl0
        clear hcell hl0
        by_cases hcu : c = m
        · subst hcu
          have e0 : r.l.length - c = 0 := by omega
          have E0 := Lib.hid e0
          clear e0
          go_enter Tryd.func42, Tryd.ntmps42
          go_wp2
          go_ret
          rw [Hr.out]
          refine ⟨rfl, ⟨_, _, by rw [HL.out, E0.out]; exact set0 H1.out, ?_, ?_, ?_, h5⟩, only_set _ g 0 _⟩
          · rw [HL.out, E0.out]; omega
          · omega
          · refine ReadB.setFar ?_ (by simpa using h5) _
            have e : r.l.drop c = [] := List.drop_eq_nil_of_le (by omega)
            show ReadB _ _ _ (r.l.drop c)
            rw [e]; exact ReadB.nil
        · go_enter Tryd.func42, Tryd.ntmps42
          go_wp2
          go_ret
          rw [Hr.out]
          refine ⟨rfl, ⟨_, _, by rw [HL.out]; exact set0 H1.out, ?_, ?_, ?_, h5⟩, only_set _ g 0 _⟩
          · rw [HL.out]; omega
          · omega
          · exact (H4.out.drop m).setFar (by simpa using h5) _

theorem raw_calls (g B : Nat) (r : Rd) (n : Int) (w : World) (h : IsR w g B r) :
    Calls Tryd.prog 42 #[.pointer (some ⟨g, 0, none⟩), .int .i64 n] w fun e w' => e = .returned (.string (S (r.raw n).2)) ∧ IsR w' g B (r.raw n).1 ∧ w.grownBy w' (some g) := by
  by_cases he : r.e = 0
  · exact raw_good g B r n w h he
  · refine (raw_bad g B r n w h he).mono fun e w' ⟨h1, h2⟩ => ?_
    subst h2
    have : r.raw n = (r, []) := by unfold Rd.raw; rw [if_pos he]
    rw [this]
    exact ⟨h1, h, World.grownBy.refl _ _⟩
theorem num_calls (g B : Nat) (r : Rd) (most : Int) (w : World) (h : IsR w g B r) :
    Calls Tryd.prog 38 #[.pointer (some ⟨g, 0, none⟩), .int .i64 most] w fun e w' => e = .returned (.int .i64 ((r.num most).2 : Int)) ∧ IsR w' g B (r.num most).1 ∧ w.grownBy w' (some g) := by
  by_cases he : r.e = 0
  · exact num_good g B r most w h he
  · refine (num_bad g B r most w h he).mono fun e w' ⟨h1, h2⟩ => ?_
    subst h2
    have : r.num most = (r, 0) := by unfold Rd.num; rw [if_pos he]
    rw [this]
    exact ⟨h1, h, World.grownBy.refl _ _⟩

end Re
end Go.Proofs.YtcbkhbnemhkheaaDoor
/- Sums are read off bytes, by the program. -/
namespace Go.Proofs.YtcbkhbnemhkheaaDoor
namespace Bk
open Go.RowKit Ba Sm Ro
set_option linter.unusedVariables false
theorem sigsK_wf (x : List UInt8) (k : Nat) (h : 36 * k ≤ x.length) : ∀ s ∈ sigsK x k, WfS s := by
  intro s hs
  unfold sigsK at hs
  obtain ⟨i, hi, rfl⟩ := List.mem_map.1 hs
  have hi2 : i < k := by simpa using hi
  have hl : ((x.drop (i * 36)).take 36).length = 36 := by rw [List.length_take, List.length_drop]; omega
  refine ⟨?_, ?_⟩
  · have := Vm.val_lt 0 (((x.drop (i * 36)).take 36).take 4)
    rw [show (((x.drop (i * 36)).take 36).take 4).length = 4 by rw [List.length_take]; omega] at this
    simpa [ofB] using this
  · show (((x.drop (i * 36)).take 36).drop 4).length = 32
    rw [List.length_drop, hl]
theorem isR_blk {w : World} {g B : Nat} {r : Fm.Rd} (h : Re.IsR w g B r) : ∃ cs, Blk w g 110 cs := by
  obtain ⟨A, c, h1, _⟩ := h
  exact ⟨_, h1⟩
theorem isR_grown {w w' : World} {g B : Nat} {r : Fm.Rd} {row : Option Nat} (h : Re.IsR w g B r) (hg : w.grownBy w' row) (hne : some g ≠ row) (hb : Below B w w') : Re.IsR w' g B r := by
  have hlt := h.lt
  obtain ⟨A, c, h1, h2, h3, h4, h5⟩ := h
  exact ⟨A, c, (hg.block g hlt hne).trans h1, h2, h3, h4.below hb, h5⟩
theorem num_most (r : Fm.Rd) (most : Int) (h : 0 ≤ most) : ((r.num most).2 : Int) ≤ most := by
  unfold Fm.Rd.num
  split
  · exact h
  · split
    · exact h
    · split
      · exact h
      · rename_i h1; simp only; omega
theorem ofB_wf (x : List UInt8) (h : x.length = 36) : WfS (ofB x) := by
  refine ⟨?_, ?_⟩
  · have := Vm.val_lt 0 (x.take 4)
    rw [show (x.take 4).length = 4 by rw [List.length_take]; omega] at this
    simpa [ofB] using this
  · show (x.drop 4).length = 32
    rw [List.length_drop, h]
theorem results_tmp4 {fn : Func} {t u v x : Tmp} (h : fn.results = #[.tmp t, .tmp u, .tmp v, .tmp x]) (tmps : Array Value) (P : Program) (w : World) :
    (results fn tmps).run P w = .ok (.tuple #[tmps.getD t undef, tmps.getD u undef, tmps.getD v undef, tmps.getD x undef]) w := by
  simp [results, h]
set_option maxRecDepth 100000 in
set_option maxHeartbeats 8000000 in
theorem get_calls (raw : List UInt8) (A : Option Addr) (c : Nat) (w : World) (hr : ReadB w w.heap.size A raw) (hrc : raw.length ≤ c) (hcm : c ≤ 9223372036854775807) :
    Calls Tryd.prog 25 #[.slice A raw.length c] w
      fun e w' => ∃ v, e = .returned (.tuple #[.int .i64 (get raw).1, .int .i64 (get raw).2.1, v, .int .i64 (get raw).2.2.2]) ∧ OwnRow sgv 33 w' w.heap.size 49 v (get raw).2.2.1 ∧ Below w.heap.size w w' := by
  have hnw := Re.new_calls raw A c w hr hrc hcm
  have Hnw := Lib.hid hnw
  obtain ⟨a, s, ha⟩ : ∃ a s, (Fm.Rd.mk raw 0).num 4096 = (a, s) := ⟨_, _, rfl⟩
  obtain ⟨b, n, hb⟩ : ∃ b n, a.num 65536 = (b, n) := ⟨_, _, rfl⟩
  have hge : get raw = if b.e ≠ 0 ∨ s < 1 ∨ 4096 < s ∨ b.l.length ≠ n / s * 36 then none4 else if check (s : Int) (n : Int) (n / s) ≠ 0 then none4 else ((s : Int), (n : Int), sigsK b.l (n / s), 0) := by
    unfold get; simp only [ha, hb]
  have Hge := Lib.hid hge
  have Ha := Lib.hid ha
  have Hb := Lib.hid hb
  clear hr hnw hge ha hb
  have Herr : Hid (∀ w' , Re.IsR w' w.heap.size w.heap.size b → Calls Tryd.prog 39 #[.pointer (some ⟨w.heap.size, 0, none⟩)] w' fun e w1 => e = .returned (.int .i64 b.e) ∧ w' = w1) := Lib.hid (fun w' h => Re.err_calls _ _ b w' h)
  have Hleft : Hid (∀ w' , Re.IsR w' w.heap.size w.heap.size b → Calls Tryd.prog 40 #[.pointer (some ⟨w.heap.size, 0, none⟩)] w' fun e w1 => e = .returned (.int .i64 (b.l.length : Int)) ∧ w' = w1) := Lib.hid (fun w' h => Re.left_calls _ _ b w' h)
  have Hn1 : Hid (∀ w', Re.IsR w' w.heap.size w.heap.size ⟨raw, 0⟩ → Calls Tryd.prog 38 #[.pointer (some ⟨w.heap.size, 0, none⟩), .int .i64 4096] w' fun e w1 => e = .returned (.int .i64 (s : Int)) ∧ Re.IsR w1 w.heap.size w.heap.size a ∧ w'.grownBy w1 (some w.heap.size)) := Lib.hid (fun w' h => by
    have := Re.num_calls _ _ ⟨raw, 0⟩ 4096 w' h
    rw [Ha.out] at this
    exact this)
  have Hn2 : Hid (∀ w', Re.IsR w' w.heap.size w.heap.size a → Calls Tryd.prog 38 #[.pointer (some ⟨w.heap.size, 0, none⟩), .int .i64 65536] w' fun e w1 => e = .returned (.int .i64 (n : Int)) ∧ Re.IsR w1 w.heap.size w.heap.size b ∧ w'.grownBy w1 (some w.heap.size)) := Lib.hid (fun w' h => by
    have := Re.num_calls _ _ a 65536 w' h
    rw [Hb.out] at this
    exact this)
  have hse : (s : Int) ≤ 4096 := by
    have := num_most ⟨raw, 0⟩ 4096 (by omega)
    rw [Ha.out] at this
    exact this
  have hne : (n : Int) ≤ 65536 := by
    have := num_most a 65536 (by omega)
    rw [Hb.out] at this
    exact this
  by_cases hbe : b.e = 0
  · by_cases hs1 : 1 ≤ s
    · have hmay := may_calls (s : Int) true (by simp; omega)
      have Hmay := Lib.hid hmay
      obtain ⟨m, hm⟩ : ∃ m, m = n / s := ⟨_, rfl⟩
      have hmn : m ≤ 65536 := by rw [hm]; have : n / s ≤ n := Nat.div_le_self _ _; omega
      have hdiv : (n : Int).tdiv (s : Int) = (m : Int) := by rw [hm]; exact Int.ofNat_tdiv _ _ |>.symm
      have hz0 : ¬ (s : Int) = 0 := by omega
      have hz1 : ¬ s = 0 := by omega
      have Hbe := Lib.hid hbe
      have hge := Hge.out
      rw [← hm] at hge
      have Hge := Lib.hid hge
      have hb0 : (b.e != 0) = false := by rw [hbe]; rfl
      have hwm : IntKind.i64.wrap (m : Int) = (m : Int) := by rw [IntKind.wrap_i64]; omega
      have hw36 : IntKind.i64.wrap ((m : Int) * 36) = (m : Int) * 36 := by rw [IntKind.wrap_i64]; omega
      clear hmay hm hge
      by_cases hlm : b.l.length = m * 36
      · have Hlm := Lib.hid hlm
        have hl1 : ¬ (b.l.length : Int) ≠ (m : Int) * 36 := by omega
        clear hbe
        rw [Hbe.out] at Herr
        rw [Hlm.out] at Hleft
        obtain ⟨r1, r2, r3, r4, hgr⟩ : ∃ r1 r2 r3 r4, get raw = (r1, r2, r3, r4) := ⟨_, _, _, _, rfl⟩
        rw [hgr]
        simp only
        have Hgr := Lib.hid hgr
        clear hgr
        go_enter Tryd.func25, Tryd.ntmps25
        go_wp2_with fail
        refine Calls.mono Hnw.out ?_
        rintro e w1 ⟨rfl, hI1, hb1⟩
        have HI1 := Lib.hid hI1
        have HB1 := Lib.hid hb1
        clear hI1 hb1
        go_wp2_with fail
        refine Calls.mono (Hn1.out _ HI1.out) ?_
        rintro e w2 ⟨rfl, hI2, hg2⟩
        have HI2 := Lib.hid hI2
        have HB2 := Lib.hid (HB1.out.trans (below_of_only hg2 (Nat.le_refl _) HB1.out.size))
        clear hI2 hg2 HI1 HB1
        go_wp2_with fail
        refine Calls.mono (Hn2.out _ HI2.out) ?_
        rintro e w3 ⟨rfl, hI3, hg3⟩
        have HI3 := Lib.hid hI3
        have HB3 := Lib.hid (HB2.out.trans (below_of_only hg3 (Nat.le_refl _) HB2.out.size))
        clear hI3 hg3 HI2 HB2
        go_wp2_with fail
        have HIW : Hid (Re.IsR w3.drew w.heap.size w.heap.size b) := HI3
        have HBW := Lib.hid HB3.out.drew
        clear HI3 HB3
        refine CanT.region (fun _ => True) 1000 (.op 0 2 (.op 1 0 (.op 2 2 (.op 3 2 (.op 4 2 (.op 5 0 (.op 6 2 (.op 7 2 (.op 8 2 (.op 9 2 (.op 11 2 (.op 12 2 (.op 13 2 (.op 14 2 (.op 10 0 (.op 15 2 (.op 16 2 (.nil)))))))))))))))))) (by kernel_rfl) (by kernel_rfl) trivial ?_
        generalize w3.drew = W at *
        repeat (first | (refine CanT.skip rfl ?_ (fun K hK => ?_); (focus (go_simp; done)); go_simp; refine hK _ ?_; clear hK K) | (refine CanT.pur rfl ?_ ?_; (focus (go_simp; done)); refine ⟨?_, ?_, ?_⟩; rotate_left; (focus (intro w'; go_simp; rfl)); (focus (intro K hK; go_simp; refine hK _ ?_; clear hK K))))
        refine CanT.imp rfl (fun K hK => ?_)
        go_simp
        refine Calls.mono (Herr.out W HIW.out) ?_
        rintro e w5 ⟨rfl, rfl⟩
        (try go_simp)
        refine hK.out _ _ (trivial) ?_
        clear hK K
        repeat (first | (refine CanT.skip rfl ?_ (fun K hK => ?_); (focus (go_simp; done)); go_simp; refine hK _ ?_; clear hK K) | (refine CanT.pur rfl ?_ ?_; (focus (go_simp; done)); refine ⟨?_, ?_, ?_⟩; rotate_left; (focus (intro w'; go_simp; rfl)); (focus (intro K hK; go_simp; refine hK _ ?_; clear hK K))))
        refine CanT.imp rfl (fun K hK => ?_)
        go_simp
        refine Calls.mono (Hmay.out W) ?_
        rintro e w5 ⟨rfl, rfl⟩
        (try go_simp)
        refine hK.out _ _ (trivial) ?_
        clear hK K
        repeat (first | (refine CanT.skip rfl ?_ (fun K hK => ?_); (focus (go_simp; done)); go_simp; refine hK _ ?_; clear hK K) | (refine CanT.pur rfl ?_ ?_; (focus (go_simp; done)); refine ⟨?_, ?_, ?_⟩; rotate_left; (focus (intro w'; go_simp; rfl)); (focus (intro K hK; go_simp; refine hK _ ?_; clear hK K))))
        refine CanT.imp rfl (fun K hK => ?_)
        go_simp
        refine Calls.mono (Hleft.out W HIW.out) ?_
        rintro e w5 ⟨rfl, rfl⟩
        (try go_simp)
        refine hK.out _ _ (trivial) ?_
        clear hK K
        repeat (first | (refine CanT.skip rfl ?_ (fun K hK => ?_); (focus (go_simp; done)); go_simp; refine hK _ ?_; clear hK K) | (refine CanT.pur rfl ?_ ?_; (focus (go_simp; done)); refine ⟨?_, ?_, ?_⟩; rotate_left; (focus (intro w'; go_simp; rfl)); (focus (intro K hK; go_simp; refine hK _ ?_; clear hK K))))
        refine CanT.done ?_
        go_wp2_with fail
        have HIL : Hid (Re.IsR W w.heap.size w.heap.size ⟨b.l.drop (36 * 0), 0⟩) := Lib.hid (by have := HIW.out; rw [Nat.mul_zero, List.drop_zero, ← Hbe.out]; exact this)
        go_loopg [4] m (fun q v4 wr => ∃ k : Nat, k ≤ m ∧ q = m - k ∧ OwnRow sgv 33 wr w.heap.size 49 v4 (sigsK b.l k) ∧ Re.IsR wr w.heap.size w.heap.size ⟨b.l.drop (36 * k), 0⟩ ∧ Below w.heap.size w wr)
        case atStart => exact ⟨0, by omega, rfl, OwnRow.nil, HIL.out, HBW.out⟩
        case round =>
          obtain ⟨k, hk, hq, ho, hI, hB⟩ := hrel
          have Hq := Lib.hid hq
          have HO := Lib.hid ho
          have HI := Lib.hid hI
          have HB := Lib.hid hB
          clear hq ho hI hB HIL HBW
          obtain ⟨x, hx⟩ : ∃ x, x = b.l.drop (36 * k) := ⟨_, rfl⟩
          rw [← hx] at HI
          have hxl : x.length = 36 * (m - k) := by rw [hx, List.length_drop, Hlm.out]; omega
          have hlc := Re.left_calls _ _ ⟨x, 0⟩ wr HI.out
          simp only at hlc
          have Hlc := Lib.hid hlc
          by_cases hkm : k < m
          · have t1 : decide (0 < (x.length : Int)) = true := decide_eq_true (by omega)
            have t2 : 0 < x.length := by omega
            have hrw : (Fm.Rd.mk x 0).raw 36 = (⟨x.drop 36, 0⟩, x.take 36) := by
              unfold Fm.Rd.raw
              rw [if_neg (by simp), if_neg (by omega), if_neg (by simp only; omega)]
              rfl
            have hra := Re.raw_calls _ _ ⟨x, 0⟩ 36 wr HI.out
            rw [hrw] at hra
            have h36 : (x.take 36).length = 36 := by rw [List.length_take]; omega
            have hsk := sigsK_succ b.l k
            rw [Nat.mul_comm k 36, ← hx] at hsk
            have hofw := ofB_wf (x.take 36) h36
            obtain ⟨y, hy⟩ : ∃ y, y = ofB (x.take 36) := ⟨_, rfl⟩
            have hsc := fun w' => sig_calls (x.take 36) h36 w'
            rw [← hy] at hsk hofw hsc
            have hdr : x.drop 36 = b.l.drop (36 * (k + 1)) := by rw [hx, List.drop_drop, Nat.mul_add]
            have Hra := Lib.hid hra
            have Hsc := Lib.hid hsc
            have Hsk := Lib.hid hsk
            have Hdr := Lib.hid hdr
            have Hof := Lib.hid hofw
            have hne := own_blk_ne HO.out.2 (isR_blk HI.out).choose_spec (by decide)
            have hne' : (u4.ownBlock = none ∨ u4.ownBlock ≠ some w.heap.size) := .inr hne
            have Hne := Lib.hid hne
            have Hne' := Lib.hid hne'
            obtain ⟨i0, hi0⟩ := isRec_of infoSig
            have Hi := Lib.hid hi0
            clear hx hxl hlc hrw hra h36 hsk hofw hy hsc hdr hne hne' hi0
            go_wp2_with (first
              | (go_at_call 40; refine Calls.mono Hlc.out ?_; rintro e w5 ⟨rfl, rfl⟩)
              | (go_at_call 42; refine Calls.mono Hra.out ?_; rintro e w5 ⟨rfl, hI5, hg5⟩; have HI5 := Lib.hid hI5; have HO5 := Lib.hid (HO.out.grown hg5 Hne'.out); have HB5 := Lib.hid (HB.out.trans (below_of_only hg5 (Nat.le_refl _) HB.out.size)); clear hI5 hg5)
              | (go_at_call 41; refine Calls.mono (Hsc.out _) ?_; rintro e w6 ⟨rfl, hb6⟩; have HI6 := Lib.hid (Re.IsR.below HI5.out hb6); have HO6 := Lib.hid (HO5.out.keptB hb6); have HB6 := Lib.hid (HB5.out.trans (hb6.mono HB5.out.size)); clear hb6)
              | (refine wpList_bslice _ rfl 24 49 1 _ rfl Tryd.underlying24 i0 33 36 Hi.out (by omega) (by omega) [(0, .agg (sgv y).toArray)] rfl (sgv y) (fun Z hZ => fill_one 33 (.agg (sgv y).toArray) (sgv_len Hof.out.2) Z hZ) ?_)
              | (at_builtin; refine wpList_appR _ rfl (.tmp 33) (.tmp 37) 24 rfl w.heap.size 49 i0 36 Tryd.underlying24 Hi.out (by omega) _ _ rfl (HO6.out.alloc _) _ _ 1 1 [y] rfl rfl (ReadRow.lit1 w6 49 _ y rfl (sgv_len Hof.out.2) (sgv_one _)) (by rw [sigsK_len]; simp; omega) (by rw [sigsK_len]; simp; omega) (by have := HB6.out.size; simp; omega) ?_; intro v7 w7 ho7 hg7 _ hb7; have HO7 := Lib.hid ho7; have HB7 := Lib.hid ((HB6.out.alloc HB6.out.size _).trans hb7); have HI7 := Lib.hid (isR_grown (Re.IsR.below HI6.out ((Below.refl _ _).alloc (Nat.le_refl _) _)) hg7 (Ne.symm Hne.out) hb7); clear ho7 hg7 hb7))
            go_roundg (m - (k + 1))
            case rel => exact ⟨k + 1, by omega, rfl, by rw [Hsk.out]; exact HO7.out, by rw [← Hdr.out]; exact HI7.out, HB7.out⟩
            case measure => have := Hq.out; omega
          · have hkm2 : k = m := by omega
            have t1 : decide (0 < (x.length : Int)) = false := decide_eq_false (by omega)
            have t2 : ¬ 0 < x.length := by omega
            obtain ⟨A4, c4, rfl, p1, p2, p3, p4⟩ := HO.out.opens
            have hck := fun w' => check_calls (s : Int) (n : Int) A4 (sigsK b.l k).length c4 (by omega) (by omega) (by omega) w'
            rw [sigsK_len, hkm2] at hck
            have hsl : (sigsK b.l k).length = m := by rw [sigsK_len, hkm2]
            obtain ⟨ck, hck0⟩ : ∃ ck, ck = check (s : Int) (n : Int) m := ⟨_, rfl⟩
            rw [← hck0] at hck
            have Hck := Lib.hid hck
            have Hck0 := Lib.hid hck0
            rw [hsl]
            clear hx hxl hlc hck hck0 p3 p4 hsl p1
            by_cases hc0 : ck = 0
            · have hgv : get raw = ((s : Int), (n : Int), sigsK b.l m, 0) := by
                rw [Hge.out, if_neg (by rw [Hbe.out, Hlm.out]; omega), if_neg (by rw [← Hck0.out]; simpa using hc0)]
              have Hgv := Lib.hid hgv
              have hc1 : (ck != 0) = false := by rw [hc0]; rfl
              clear hgv
              go_wp2_with (first
                | (go_at_call 40; refine Calls.mono Hlc.out ?_; rintro e w5 ⟨rfl, rfl⟩)
                | (go_at_call 31; refine Calls.mono (Hck.out _) ?_; rintro e w5 ⟨rfl, rfl⟩))
              refine bodyPost_ret (results_tmp4 rfl _ _ _) rfl ?_
              have hr := Hgr.out
              rw [Hgv.out] at hr
              simp only [Prod.mk.injEq] at hr
              obtain ⟨rfl, rfl, rfl, rfl⟩ := hr
              refine ⟨_, rfl, ?_, HB.out⟩
              have ho := HO.out
              rw [hkm2, sigsK_len] at ho
              exact ho
            · have hgv : get raw = none4 := by
                rw [Hge.out, if_neg (by rw [Hbe.out, Hlm.out]; omega), if_pos (by rw [← Hck0.out]; exact hc0)]
              have Hgv := Lib.hid hgv
              have hc1 : (ck != 0) = true := by rw [bne_iff_ne]; exact hc0
              clear hgv
              go_wp2_with (first
                | (go_at_call 40; refine Calls.mono Hlc.out ?_; rintro e w5 ⟨rfl, rfl⟩)
                | (go_at_call 31; refine Calls.mono (Hck.out _) ?_; rintro e w5 ⟨rfl, rfl⟩))
              refine bodyPost_ret (results_tmp4 rfl _ _ _) rfl ?_
              have hr := Hgr.out
              rw [Hgv.out] at hr
              simp only [none4, Prod.mk.injEq] at hr
              obtain ⟨rfl, rfl, rfl, rfl⟩ := hr
              exact ⟨_, rfl, OwnRow.nil, HB.out⟩
      · have hgn : get raw = none4 := by rw [Hge.out, if_pos (.inr (.inr (.inr (by omega))))]
        rw [hgn]
        have hl1 : ¬ (b.l.length : Int) = (m : Int) * 36 := by omega
        have hl2 : ¬ b.l.length = m * 36 := hlm
        rw [hbe] at Herr
        clear hgn hbe
        go_enter Tryd.func25, Tryd.ntmps25
        go_wp2_with fail
        refine Calls.mono Hnw.out ?_
        rintro e w1 ⟨rfl, hI1, hb1⟩
        have HI1 := Lib.hid hI1
        have HB1 := Lib.hid hb1
        clear hI1 hb1
        go_wp2_with fail
        refine Calls.mono (Hn1.out _ HI1.out) ?_
        rintro e w2 ⟨rfl, hI2, hg2⟩
        have HI2 := Lib.hid hI2
        have HB2 := Lib.hid (HB1.out.trans (below_of_only hg2 (Nat.le_refl _) HB1.out.size))
        clear hI2 hg2 HI1 HB1
        go_wp2_with fail
        refine Calls.mono (Hn2.out _ HI2.out) ?_
        rintro e w3 ⟨rfl, hI3, hg3⟩
        have HI3 := Lib.hid hI3
        have HB3 := Lib.hid (HB2.out.trans (below_of_only hg3 (Nat.le_refl _) HB2.out.size))
        clear hI3 hg3 HI2 HB2
        go_wp2_with fail
        have HIW : Hid (Re.IsR w3.drew w.heap.size w.heap.size b) := HI3
        have HBW := Lib.hid HB3.out.drew
        clear HI3 HB3
        refine CanT.region (fun _ => True) 1000 (.op 0 2 (.op 1 0 (.op 2 2 (.op 3 2 (.op 4 2 (.op 5 0 (.op 6 2 (.op 7 2 (.op 8 2 (.op 9 2 (.op 11 2 (.op 12 2 (.op 13 2 (.op 14 2 (.op 10 0 (.op 15 2 (.op 16 2 (.nil)))))))))))))))))) (by kernel_rfl) (by kernel_rfl) trivial ?_
        generalize w3.drew = W at *
        repeat (first | (refine CanT.skip rfl ?_ (fun K hK => ?_); (focus (go_simp; done)); go_simp; refine hK _ ?_; clear hK K) | (refine CanT.pur rfl ?_ ?_; (focus (go_simp; done)); refine ⟨?_, ?_, ?_⟩; rotate_left; (focus (intro w'; go_simp; rfl)); (focus (intro K hK; go_simp; refine hK _ ?_; clear hK K))))
        refine CanT.imp rfl (fun K hK => ?_)
        go_simp
        refine Calls.mono (Herr.out W HIW.out) ?_
        rintro e w5 ⟨rfl, rfl⟩
        (try go_simp)
        refine hK.out _ _ (trivial) ?_
        clear hK K
        repeat (first | (refine CanT.skip rfl ?_ (fun K hK => ?_); (focus (go_simp; done)); go_simp; refine hK _ ?_; clear hK K) | (refine CanT.pur rfl ?_ ?_; (focus (go_simp; done)); refine ⟨?_, ?_, ?_⟩; rotate_left; (focus (intro w'; go_simp; rfl)); (focus (intro K hK; go_simp; refine hK _ ?_; clear hK K))))
        refine CanT.imp rfl (fun K hK => ?_)
        go_simp
        refine Calls.mono (Hmay.out W) ?_
        rintro e w5 ⟨rfl, rfl⟩
        (try go_simp)
        refine hK.out _ _ (trivial) ?_
        clear hK K
        repeat (first | (refine CanT.skip rfl ?_ (fun K hK => ?_); (focus (go_simp; done)); go_simp; refine hK _ ?_; clear hK K) | (refine CanT.pur rfl ?_ ?_; (focus (go_simp; done)); refine ⟨?_, ?_, ?_⟩; rotate_left; (focus (intro w'; go_simp; rfl)); (focus (intro K hK; go_simp; refine hK _ ?_; clear hK K))))
        refine CanT.imp rfl (fun K hK => ?_)
        go_simp
        refine Calls.mono (Hleft.out W HIW.out) ?_
        rintro e w5 ⟨rfl, rfl⟩
        (try go_simp)
        refine hK.out _ _ (trivial) ?_
        clear hK K
        repeat (first | (refine CanT.skip rfl ?_ (fun K hK => ?_); (focus (go_simp; done)); go_simp; refine hK _ ?_; clear hK K) | (refine CanT.pur rfl ?_ ?_; (focus (go_simp; done)); refine ⟨?_, ?_, ?_⟩; rotate_left; (focus (intro w'; go_simp; rfl)); (focus (intro K hK; go_simp; refine hK _ ?_; clear hK K))))
        refine CanT.done ?_
        go_wp2_with fail
        refine bodyPost_ret (results_tmp4 rfl _ _ _) rfl ?_
        exact ⟨_, rfl, OwnRow.nil, HBW.out⟩
    · have hgn : get raw = none4 := by rw [Hge.out, if_pos (.inr (.inl (by omega)))]
      rw [hgn]
      have hmay := may_calls (s : Int) false (by simp; omega)
      have Hmay := Lib.hid hmay
      rw [hbe] at Herr
      clear hgn hmay hbe
      go_enter Tryd.func25, Tryd.ntmps25
      go_wp2_with fail
      refine Calls.mono Hnw.out ?_
      rintro e w1 ⟨rfl, hI1, hb1⟩
      have HI1 := Lib.hid hI1
      have HB1 := Lib.hid hb1
      clear hI1 hb1
      go_wp2_with fail
      refine Calls.mono (Hn1.out _ HI1.out) ?_
      rintro e w2 ⟨rfl, hI2, hg2⟩
      have HI2 := Lib.hid hI2
      have HB2 := Lib.hid (HB1.out.trans (below_of_only hg2 (Nat.le_refl _) HB1.out.size))
      clear hI2 hg2 HI1 HB1
      go_wp2_with fail
      refine Calls.mono (Hn2.out _ HI2.out) ?_
      rintro e w3 ⟨rfl, hI3, hg3⟩
      have HI3 := Lib.hid hI3
      have HB3 := Lib.hid (HB2.out.trans (below_of_only hg3 (Nat.le_refl _) HB2.out.size))
      clear hI3 hg3 HI2 HB2
      go_wp2_with fail
      have HIW : Hid (Re.IsR w3.drew w.heap.size w.heap.size b) := HI3
      have HBW := Lib.hid HB3.out.drew
      clear HI3 HB3
      refine CanT.region (fun _ => True) 1000 (.op 0 2 (.op 1 0 (.op 2 2 (.op 3 2 (.op 4 2 (.op 5 0 (.op 6 2 (.op 7 2 (.op 8 2 (.op 9 2 (.op 11 2 (.op 12 2 (.op 13 2 (.op 14 2 (.op 10 0 (.op 15 2 (.op 16 2 (.nil)))))))))))))))))) (by kernel_rfl) (by kernel_rfl) trivial ?_
      generalize w3.drew = W at *
      repeat (first | (refine CanT.skip rfl ?_ (fun K hK => ?_); (focus (go_simp; done)); go_simp; refine hK _ ?_; clear hK K) | (refine CanT.pur rfl ?_ ?_; (focus (go_simp; done)); refine ⟨?_, ?_, ?_⟩; rotate_left; (focus (intro w'; go_simp; rfl)); (focus (intro K hK; go_simp; refine hK _ ?_; clear hK K))))
      refine CanT.imp rfl (fun K hK => ?_)
      go_simp
      refine Calls.mono (Herr.out W HIW.out) ?_
      rintro e w5 ⟨rfl, rfl⟩
      (try go_simp)
      refine hK.out _ _ (trivial) ?_
      clear hK K
      repeat (first | (refine CanT.skip rfl ?_ (fun K hK => ?_); (focus (go_simp; done)); go_simp; refine hK _ ?_; clear hK K) | (refine CanT.pur rfl ?_ ?_; (focus (go_simp; done)); refine ⟨?_, ?_, ?_⟩; rotate_left; (focus (intro w'; go_simp; rfl)); (focus (intro K hK; go_simp; refine hK _ ?_; clear hK K))))
      refine CanT.imp rfl (fun K hK => ?_)
      go_simp
      refine Calls.mono (Hmay.out W) ?_
      rintro e w5 ⟨rfl, rfl⟩
      (try go_simp)
      refine hK.out _ _ (trivial) ?_
      clear hK K
      repeat (first | (refine CanT.skip rfl ?_ (fun K hK => ?_); (focus (go_simp; done)); go_simp; refine hK _ ?_; clear hK K) | (refine CanT.pur rfl ?_ ?_; (focus (go_simp; done)); refine ⟨?_, ?_, ?_⟩; rotate_left; (focus (intro w'; go_simp; rfl)); (focus (intro K hK; go_simp; refine hK _ ?_; clear hK K))))
      refine CanT.done ?_
      go_wp2_with fail
      refine bodyPost_ret (results_tmp4 rfl _ _ _) rfl ?_
      exact ⟨_, rfl, OwnRow.nil, HBW.out⟩
  · have hgn : get raw = none4 := by rw [Hge.out, if_pos (.inl hbe)]
    rw [hgn]
    have hb0 : (b.e != 0) = true := by rw [bne_iff_ne]; exact hbe
    have hb1 : ¬ b.e = 0 := hbe
    clear hgn
    go_enter Tryd.func25, Tryd.ntmps25
    go_wp2_with fail
    refine Calls.mono Hnw.out ?_
    rintro e w1 ⟨rfl, hI1, hb1⟩
    have HI1 := Lib.hid hI1
    have HB1 := Lib.hid hb1
    clear hI1 hb1
    go_wp2_with fail
    refine Calls.mono (Hn1.out _ HI1.out) ?_
    rintro e w2 ⟨rfl, hI2, hg2⟩
    have HI2 := Lib.hid hI2
    have HB2 := Lib.hid (HB1.out.trans (below_of_only hg2 (Nat.le_refl _) HB1.out.size))
    clear hI2 hg2 HI1 HB1
    go_wp2_with fail
    refine Calls.mono (Hn2.out _ HI2.out) ?_
    rintro e w3 ⟨rfl, hI3, hg3⟩
    have HI3 := Lib.hid hI3
    have HB3 := Lib.hid (HB2.out.trans (below_of_only hg3 (Nat.le_refl _) HB2.out.size))
    clear hI3 hg3 HI2 HB2
    go_wp2_with fail
    have HIW : Hid (Re.IsR w3.drew w.heap.size w.heap.size b) := HI3
    have HBW := Lib.hid HB3.out.drew
    clear HI3 HB3
    refine CanT.region (fun _ => True) 1000 (.op 0 2 (.op 1 0 (.op 2 2 (.op 3 2 (.op 4 2 (.op 5 0 (.op 6 2 (.op 7 2 (.op 8 2 (.op 9 2 (.op 11 2 (.op 12 2 (.op 13 2 (.op 14 2 (.op 10 0 (.op 15 2 (.op 16 2 (.nil)))))))))))))))))) (by kernel_rfl) (by kernel_rfl) trivial ?_
    generalize w3.drew = W at *
    repeat (first | (refine CanT.skip rfl ?_ (fun K hK => ?_); (focus (go_simp; done)); go_simp; refine hK _ ?_; clear hK K) | (refine CanT.pur rfl ?_ ?_; (focus (go_simp; done)); refine ⟨?_, ?_, ?_⟩; rotate_left; (focus (intro w'; go_simp; rfl)); (focus (intro K hK; go_simp; refine hK _ ?_; clear hK K))))
    refine CanT.imp rfl (fun K hK => ?_)
    go_simp
    refine Calls.mono (Herr.out W HIW.out) ?_
    rintro e w5 ⟨rfl, rfl⟩
    (try go_simp)
    refine hK.out _ _ (trivial) ?_
    clear hK K
    repeat (first | (refine CanT.skip rfl ?_ (fun K hK => ?_); (focus (go_simp; done)); go_simp; refine hK _ ?_; clear hK K) | (refine CanT.pur rfl ?_ ?_; (focus (go_simp; done)); refine ⟨?_, ?_, ?_⟩; rotate_left; (focus (intro w'; go_simp; rfl)); (focus (intro K hK; go_simp; refine hK _ ?_; clear hK K))))
    refine CanT.done ?_
    go_wp2_with fail
    refine bodyPost_ret (results_tmp4 rfl _ _ _) rfl ?_
    exact ⟨_, rfl, OwnRow.nil, HBW.out⟩
end Bk
end Go.Proofs.YtcbkhbnemhkheaaDoor
/- Sums as bytes, of the program. -/
namespace Go.Proofs.YtcbkhbnemhkheaaDoor
namespace Bk
open Go.RowKit Ba Sm Ro
set_option linter.unusedVariables false
theorem shr_u8 (N m : Nat) : (N : Int) / 2 ^ (8 * m) % 256 = ((UInt8.ofNat (N / 256 ^ m % 256)).toNat : Int) := by
  have e : (N : Int) / 2 ^ (8 * m) = ((N / 256 ^ m : Nat) : Int) := by rw [Int.pow_mul]; simp
  rw [e, UInt8.toNat_ofNat']
  omega
theorem sig_read {w : World} {g : Nat} {t : TypeId} {x1 : Nat} {x2 : List UInt8} (h : Blk w g t (sgv (x1, x2)).toArray) : w.cell? ⟨g, 0, none⟩ = some (.int .u32 (x1 : Int)) ∧ ReadB w w.heap.size (some ⟨g, 1, none⟩) x2 := by
  refine ⟨by rw [Blk.cell h]; rfl, fun hn => ⟨g, 1, rfl, h.lt, fun k hk => ?_⟩⟩
  rw [Blk.cell h, List.getElem?_toArray, Nat.add_comm 1 k]
  show (bvs x2)[k]? = _
  exact bvs_get x2 k hk
theorem sgsB_take (l : List Sg) (k : Nat) (hk : k < l.length) : sgsB (l.take (k + 1)) = sgsB (l.take k) ++ (Vm.be 4 (sg l k).1 ++ (sg l k).2) := by
  unfold sgsB
  have e : l.take (k + 1) = l.take k ++ [sg l k] := by
    rw [List.take_succ_eq_append_getElem hk]
    simp [sg, List.getD, hk]
  rw [e, List.flatMap_append]
  simp [sgB]
theorem sgsB_len (l : List Sg) (h : ∀ s ∈ l, s.2.length = 32) : (sgsB l).length = 36 * l.length := by
  induction l with
  | nil => rfl
  | cons s l ih =>
    have h1 := h s (by simp)
    have h2 := ih (fun x hx => h x (by simp [hx]))
    unfold sgsB at h2 ⊢
    rw [List.flatMap_cons, List.length_append, h2, sgB, List.length_append, Vm.be_length, h1, List.length_cons]
    omega
set_option maxRecDepth 100000 in
set_option maxHeartbeats 4000000 in
theorem put_calls (size n : Int) (l : List Sg) (L : Option Addr) (d : Nat) (hs : -9223372036854775808 ≤ size ∧ size ≤ 9223372036854775807) (hn : -9223372036854775808 ≤ n ∧ n ≤ 9223372036854775807) (hld : l.length ≤ 9223372036854775807) (w : World) (hL : ReadRow sgv 33 w w.heap.size L l) :
    Calls Tryd.prog 23 #[.int .i64 size, .int .i64 n, .slice L l.length d] w
      fun e w' => ∃ v, e = .returned (.tuple #[v, .int .i64 (put size n l).2]) ∧ OwnB w' w.heap.size 5 v (put size n l).1 ∧ Below w.heap.size w w' := by
  have hc := fun w => check_calls size n L l.length d hs hn hld w
  by_cases hq : check size n l.length = 0
  · have hp : put size n l = (Fm.num size ++ Fm.num n ++ sgsB l, 0) := by unfold put; rw [if_neg (by simpa using hq)]
    rw [hp]
    rw [hq] at hc
    have hb0 : l.length ≤ 4096 := by
      unfold check at hq
      split at hq
      · omega
      · split at hq
        · omega
        · split at hq <;> omega
    obtain ⟨i0, hi0⟩ := isByte_of info5
    have Hi := Lib.hid hi0
    have hl1 := Fm.num_len size
    have hl2 := Fm.num_len n
    obtain ⟨P1, hP1⟩ : ∃ P, Fm.num size = P := ⟨_, rfl⟩
    obtain ⟨P2, hP2⟩ : ∃ P, Fm.num n = P := ⟨_, rfl⟩
    have hn1 := fun w => Fi.num_calls size hs.2 w
    have hn2 := fun w => Fi.num_calls n hn.2 w
    rw [hP1] at hn1 hl1 ⊢
    rw [hP2] at hn2 hl2 ⊢
    obtain ⟨P, hP⟩ : ∃ P, P = P1 ++ P2 := ⟨_, rfl⟩
    rw [← hP]
    have HP := Lib.hid hP
    have hPl : P.length ≤ 16 := by rw [hP, List.length_append]; omega
    clear hP
    obtain ⟨N, hN⟩ : ∃ N, N = l.length := ⟨_, rfl⟩
    rw [← hN] at hc hb0 ⊢
    have HN := Lib.hid hN
    have Hc := Lib.hid hc
    have HL := Lib.hid hL
    have H1 := Lib.hid hn1
    have H2 := Lib.hid hn2
    clear hN hc hL hn1 hn2 hP1 hP2 hq hp hi0
    go_enter Tryd.func23, Tryd.ntmps23
    go_wp2_with (go_at_call 31; refine (Hc.out _).mono ?_; rintro e w1 ⟨rfl, rfl⟩)
    refine Calls.mono (H1.out _) ?_
    rintro e w1 ⟨v1, rfl, ho1, hb1⟩
    have HO1 := Lib.hid ho1
    have HB1 := Lib.hid hb1
    clear ho1 hb1
    go_wp2_with fail
    refine Calls.mono (H2.out _) ?_
    rintro e w2 ⟨v2, rfl, ho2, hb2⟩
    obtain ⟨A1, c1, rfl, p1, p2, p3, p4⟩ := (HO1.out.keptB hb2).opens
    obtain ⟨A2, c2, rfl, q1, q2, q3, q4⟩ := ho2.opens
    have HB2 := Lib.hid (HB1.out.trans (hb2.mono HB1.out.size))
    have hbb : ReadBB (w2.alloc (.cells #[.slice A1 P1.length c1, .slice A2 P2.length c2] 22)) (w2.alloc (.cells #[.slice A1 P1.length c1, .slice A2 P2.length c2] 22)).heap.size (some ⟨w2.heap.size, 0, none⟩) [P1, P2] :=
      (ReadBB.lit2 w2 22 A1 A2 P1.length c1 P2.length c2 P1 P2 w2.heap.size w2.heap.size rfl (Nat.le_refl _) rfl rfl p3 q3 p1 q1 p2 q2).more (by simp)
    have hjn := Fi.join_calls [P1, P2] (some ⟨w2.heap.size, 0, none⟩) 2 _ hbb (by simp) (by simp [Fi.sumLen]; omega)
    have Hjn := Lib.hid hjn
    clear ho2 hb2 p3 p4 q3 q4 hbb hjn HO1 HB1
    go_wp2_with fail
    refine Calls.mono Hjn.out ?_
    rintro e w3 ⟨v3, rfl, ho3, hb3⟩
    have hs0 : w2.heap.size ≤ (w2.alloc (.cells #[.slice A1 P1.length c1, .slice A2 P2.length c2] 22)).heap.size := by simp
    have HB3 := Lib.hid (HB2.out.trans (((Below.refl _ _).alloc (Nat.le_refl _) _).trans (hb3.mono hs0) |>.mono HB2.out.size))
    have hfl : [P1, P2].flatten = P := by rw [HP.out]; simp
    rw [hfl] at ho3
    have HO3 := Lib.hid (ho3.weak (Nat.le_trans HB2.out.size hs0))
    have hwl : ∀ s ∈ l, s.2.length = 32 := fun s hs => by
      have := (HL.out.1 s hs).1
      simpa [sgv, bvs_length] using this
    have Hwl := Lib.hid hwl
    clear ho3 hb3 hs0 hfl HB2 Hjn hwl
    go_wp2_with fail
    go_loopg [9, 28] N (fun q v9 v28 wr => ∃ k : Nat, k ≤ N ∧ q = N - k ∧ v28 = .int .i64 (k : Int) ∧ OwnB wr w.heap.size 5 v9 (P ++ sgsB (l.take k)) ∧ Below w.heap.size w wr)
    case atStart => exact ⟨0, by omega, rfl, rfl, by rw [List.take_zero]; simpa [sgsB] using HO3.out, HB3.out⟩
    case round =>
      obtain ⟨k, hk, hq, rfl, ho, hB⟩ := hrel
      have Hq := Lib.hid hq
      have HO := Lib.hid ho
      have HB := Lib.hid hB
      clear hq ho hB HO3 HB3
      by_cases hkn : k < N
      · have t1 : decide ((k : Int) < (N : Int)) = true := decide_eq_true (by omega)
        have hkl : k < l.length := by rw [← HN.out]; exact hkn
        obtain ⟨b1, o1, rfl, hb1, hc1⟩ := HL.out.at_ (sg_get (l := l) (k := k) hkl)
        obtain ⟨x1, x2, hx⟩ : ∃ x1 x2, sg l k = (x1, x2) := ⟨_, _, rfl⟩
        have hl2 := rw_len HL.out.1 hkl
        have hst := sgsB_take l k hkl
        have hsl := sgsB_len (l.take k) (fun s hs => Hwl.out s (List.mem_of_mem_take hs))
        rw [hx] at hc1 hl2 hst
        simp only at hl2 hst
        obtain ⟨q, hq⟩ : ∃ q, q = P ++ sgsB (l.take k) := ⟨_, rfl⟩
        have hql : q.length ≤ 16 + 36 * 4096 := by
          rw [hq, List.length_append, hsl, List.length_take]
          omega
        rw [← hq] at HO
        have HC1 : Hid (wr.rangeAt b1 (o1 + k * 33) (sgv (x1, x2))) := Lib.hid fun j v hv => (HB.out.cell (p := ⟨b1, o1 + k * 33 + j, none⟩) hb1).trans (hc1 j v hv)
        have Hl2 := Lib.hid hl2
        have Hst := Lib.hid hst
        have Hqq := Lib.hid hq
        clear hc1 hb1 hl2 hx hst hsl hq hkl
        go_wp2_with (first
          | (refine wpList_load_mid rfl 49 (.tmp 30) rfl b1 (o1 + k * 33) rfl (sgv (x1, x2)) _ HC1.out Tryd.underlying49 rfl (by rw [sgv_len Hl2.out]; kernel_rfl) ?_)
          | (refine wpList_store_blk rfl 49 (.tmp 11) (.tmp 31) rfl wr.heap.size 0 49 [] (Value.int .u32 0 :: List.replicate 32 (.int .u8 0)) [] (sgv (x1, x2)) rfl rfl (heap_alloc_new _ _) rfl (by rw [sgv_len Hl2.out]; rfl) (by rw [sgv_len Hl2.out]; kernel_rfl) (sgv_one _) ?_; intro w4 hS4 hg4))
        have hb4 : Below wr.heap.size wr w4 := only_after ((Below.refl _ _).alloc (Nat.le_refl _) _) hg4 (Nat.le_refl _)
        have HS4 : Hid (Blk w4 wr.heap.size 49 (sgv (x1, x2)).toArray) := Lib.hid (by simpa using hS4)
        have HO4 := Lib.hid (HO.out.keptB hb4)
        have HB4 := Lib.hid (HB.out.trans (hb4.mono HB.out.size))
        generalize wr.heap.size = gs at *
        clear hS4 hg4 hb4 HC1 HO HB
        go_loopw [9, 12] (fun v9 v12 wx => ∃ j : Nat, j ≤ 4 ∧ v12 = .int .i64 (8 * (3 - (j : Int))) ∧ OwnB wx w.heap.size 5 v9 (q ++ (Vm.be 4 x1).take j) ∧ Blk wx gs 49 (sgv (x1, x2)).toArray ∧ Below w.heap.size w wx) (fun _ v12 _ => (intOf v12 + 8).toNat)
        case atStart => exact ⟨0, by omega, rfl, by rw [List.take_zero, List.append_nil]; exact HO4.out, HS4.out, HB4.out⟩
        case round =>
          obtain ⟨j, hj, rfl, hoj, hSj, hBj⟩ := hrel
          have HOj := Lib.hid hoj
          have HSj := Lib.hid hSj
          have HBj := Lib.hid hBj
          have hnj := own_blk_ne hoj hSj (by decide)
          have Hnj := Lib.hid hnj
          obtain ⟨hcw, hrd⟩ := sig_read hSj
          have HRd := Lib.hid hrd
          have hlj : ((Vm.be 4 x1).take j).length = j := by rw [List.length_take, Vm.be_length]; omega
          have Hlj := Lib.hid hlj
          clear hoj hSj hBj hnj hrd hlj HO4 HS4 HB4
          by_cases hj4 : j < 4
          · obtain ⟨m, hm⟩ : ∃ m : Nat, m = 3 - j := ⟨_, rfl⟩
            have hm7 : m ≤ 3 := by omega
            have e8 : 8 * (3 - (j : Int)) = 8 * (m : Int) := by omega
            rw [e8]
            have hby : UInt8.ofNat (x1 / 256 ^ m % 256) = UInt8.ofNat (x1 / 256 ^ (4 - 1 - j)) := by
              rw [hm]
              exact UInt8.toNat_inj.1 (by simp)
            have Hby := Lib.hid hby
            have Hm := Lib.hid hm
            clear hby hm e8
            go_wp2_with (at_builtin; go_loud (refine wpList_appB _ rfl (.tmp 36) (.tmp 42) 22 rfl w.heap.size 5 i0 Tryd.underlying22 Hi.out _ _ rfl (HOj.out.alloc _) _ _ 1 1 [UInt8.ofNat (x1 / 256 ^ m % 256)] rfl rfl (ReadB.lit1 _ _ _ _ (by first | exact shr_u8 x1 m | (rw [← shr_u8 x1 m]; rfl))) (by rw [List.length_append, Hlj.out]; simp; omega) (by have := HBj.out.size; simp; omega) ?_); intro v' w5 ho5 hg5 _ hb5)
            refine ⟨⟨j + 1, by omega, by congr 1; have := Hm.out; omega, ?_, Blk.grown (HSj.out.alloc _) hg5 (Ne.symm Hnj.out), (HBj.out.alloc HBj.out.size _).trans hb5⟩, by simp [intOf]; omega⟩
            rw [Vm.be_take_succ x1 4 j hj4, ← Hby.out, ← List.append_assoc]
            exact ho5
          · have hj5 : j = 4 := by omega
            subst hj5
            have hq4 : q ++ (Vm.be 4 x1).take 4 = q ++ Vm.be 4 x1 := by rw [List.take_of_length_le (by rw [Vm.be_length]; exact Nat.le_refl _)]
            rw [hq4] at HOj
            have Hq4 := Lib.hid hq4
            clear hq4
            go_wp2_with (at_builtin; go_loud (refine wpList_appB _ rfl (.tmp 44) (.tmp 46) 22 rfl w.heap.size 5 i0 Tryd.underlying22 Hi.out _ _ rfl HOj.out wr.heap.size (some ⟨gs, 1, none⟩) 32 32 x2 rfl Hl2.out.symm HRd.out (by rw [List.length_append, Vm.be_length, Hl2.out]; omega) HBj.out.size ?_); intro v' w5 ho5 hg5 _ hb5)
            have Ho5 := Lib.hid ho5
            have Hb5 := Lib.hid (HBj.out.trans hb5)
            clear ho5 hg5 hb5
            go_roundg (N - (k + 1))
            case rel =>
              refine ⟨k + 1, by omega, rfl, rfl, ?_, Hb5.out⟩
              rw [Hst.out, ← List.append_assoc, ← Hqq.out, ← List.append_assoc]
              exact Ho5.out
            case measure => have := Hq.out; omega
      · have hkn2 : k = N := by omega
        have t1 : decide ((k : Int) < (N : Int)) = false := decide_eq_false (by omega)
        have t2 : ¬ k < N := by omega
        go_wp2_with fail
        go_ret2
        refine ⟨_, rfl, ?_, HB.out⟩
        have ho := HO.out
        rw [hkn2, HN.out, List.take_length] at ho
        exact ho
  · obtain ⟨q, hq0⟩ : ∃ q, check size n l.length = q := ⟨_, rfl⟩
    have hp : put size n l = ([], q) := by unfold put; rw [if_pos (by simpa using hq), hq0]
    rw [hp]
    rw [hq0] at hc hq
    have Hc := Lib.hid hc
    clear hc hL hp hq0
    go_enter Tryd.func23, Tryd.ntmps23
    go_wp2_with (go_at_call 31; refine (Hc.out _).mono ?_; rintro e w1 ⟨rfl, rfl⟩)
    go_ret2
    exact ⟨_, rfl, OwnB.nil, Below.refl _ _⟩
end Bk
end Go.Proofs.YtcbkhbnemhkheaaDoor
/- Halves, Sum, Pack of the document's answer. -/
namespace Go.Proofs.YtcbkhbnemhkheaaDoor
namespace Ro
open Go.RowKit Flo Ba
set_option linter.unusedVariables false
set_option maxRecDepth 100000 in
set_option maxHeartbeats 1000000 in
theorem halves_calls {l : List UInt8} {A : Option Addr} {n c B : Nat} {w : World} (hn : n = l.length) (hr : ReadB w B A l) (hm : l.length ≤ 140737488355328) : Calls Tryd.prog 49 #[.slice A n c] w fun e w' => e = .returned (.tuple #[.int .i64 (ha l : Nat), .int .i64 (hb l : Nat)]) ∧ w = w' := by
  subst hn
  have Hr := Lib.hid hr
  clear hr
  go_enter Tryd.func49, Tryd.ntmps49
  go_wp2_with fail
  go_loop [4, 5, 6] (fun x y i => ∃ k : Nat, k ≤ l.length ∧ i = .int .i64 k ∧ x = .int .i64 (ha (l.take k) : Nat) ∧ y = .int .i64 (yk l k : Nat)) (fun _ _ i => l.length - (intOf i).toNat)
  case atStart => exact ⟨0, Nat.zero_le _, rfl, rfl, by rw [yk_zero]; rfl⟩
  case round =>
    obtain ⟨k, hk, rfl, rfl, rfl⟩ := hrel
    by_cases hlt : k < l.length
    · obtain ⟨b, o, rfl, _, hc⟩ := Hr.out (by omega)
      have hck := hc k hlt
      have h1 := ha_take l k hlt
      have h2 := yk_succ l k hlt
      have h3 := ha_lt (l.take k)
      have h4 : yk l k < 65536 := Nat.mod_lt _ (by omega)
      have h5 := (l.getD k 0).toNat_lt
      generalize (l.getD k 0).toNat = x at *
      generalize ha (l.take k) = a at *
      generalize yk l k = y at *
      have H1 := Lib.hid h1
      have H2 := Lib.hid h2
      have m1 : ((l.length - k) % 65536 : Nat) < 65536 := Nat.mod_lt _ (by omega)
      have m2 : ((l.length : Int) - (k : Int)) % 65536 = (((l.length - k) % 65536 : Nat) : Int) := by omega
      obtain ⟨q, hq⟩ : ∃ q : Nat, q = (l.length - k) % 65536 := ⟨_, rfl⟩
      rw [← hq] at m1 m2
      have m3 : q * x < 65536 * 256 := Nat.mul_lt_mul_of_lt_of_lt m1 h5
      have m4 : (q : Int) * (x : Int) = ((q * x : Nat) : Int) := by rw [Int.natCast_mul]
      obtain ⟨p, hp⟩ : ∃ p : Nat, p = q * x := ⟨_, rfl⟩
      rw [← hp] at m3 m4
      have HP := Lib.hid hp
      have HQ := Lib.hid hq
      have hkk : (k : Int) ≤ (l.length : Int) := by omega
      clear hc h1 h2 hq hp
      go_wp2_with fail
      go_round
      case rel =>
        refine ⟨k + 1, by omega, by go_num, ?_, ?_⟩
        · rw [H1.out]; simp
        · rw [H2.out, ← HQ.out, ← HP.out]; simp
      case measure => simp [intOf]; omega
    · have hkk : k = l.length := by omega
      subst hkk
      rw [List.take_length, yk_all]
      go_wp2_with fail
      go_ret2
      exact ⟨rfl, rfl⟩
set_option maxRecDepth 100000 in
set_option maxHeartbeats 1000000 in
theorem rsum_calls {l : List UInt8} {A : Option Addr} {n c B : Nat} {w : World} (hn : n = l.length) (hr : ReadB w B A l) (hm : l.length ≤ 140737488355328) : Calls Tryd.prog 29 #[.slice A n c] w fun e w' => e = .returned (.int .u32 (rsum l : Nat)) ∧ w = w' := by
  have h1 := ha_lt l
  have h2 := hb_lt l
  have he : ((65536 : Int) * (hb l : Int) + (ha l : Int)) = ((rsum l : Nat) : Int) := by unfold rsum; omega
  have He := Lib.hid he
  have Hq := Lib.hid (halves_calls (c := c) hn hr hm)
  generalize ha l = a at *
  generalize hb l = b at *
  clear hr he hn
  go_enter Tryd.func29, Tryd.ntmps29
  go_wp2_with fail
  refine Hq.out.mono ?_
  rintro e w1 ⟨rfl, rfl⟩
  go_wp2_with fail
  go_ret
  exact ⟨by rw [← He.out]; rfl, rfl⟩
/-- what is packed -/
def pk (x y : Int) : Int := if x < -1125899906842624 ∨ 1125899906842624 < x ∨ y < -1125899906842624 ∨ 1125899906842624 < y then 0 else y % 65536 * 65536 + x % 65536
end Ro
end Go.Proofs.YtcbkhbnemhkheaaDoor
