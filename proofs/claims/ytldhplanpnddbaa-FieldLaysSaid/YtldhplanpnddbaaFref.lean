/- What the reference lays and takes off of numbers and texts: the same as the program. -/
import Derived.Test.YtldhplanpnddbaaVref3
import Derived.Test.YtldhplanpnddbaaField
import Derived.BigQuiet
import Derived.StillTailTactics
namespace Go.Proofs.Ytldhplanpnddbaa
namespace Fr
open Go.RowKit Ba Vm Fm Vi Fi
set_option linter.unusedVariables false

set_option maxHeartbeats 400000 in
theorem num_calls (n : Int) (hn : n ≤ 9223372036854775807) (w : World) : Calls Try.prog 29 #[.int .i64 n] w
    fun e w' => ∃ v, e = .returned v ∧ OwnB w' w.heap.size 5 v (num n) ∧ Below w.heap.size w w' := by
  go_enter Try.func29, Try.ntmps29
  go_wp2_with fail
  refine (rput_calls n hn _).mono ?_
  rintro e w1 ⟨v1, rfl, ho1, hb1⟩
  go_wp2_with fail
  go_ret
  exact ⟨v1, rfl, ho1, hb1⟩

set_option maxHeartbeats 400000 in
theorem text_calls (r : List UInt8) (hr : r.length ≤ 140737488351232) (w : World) : Calls Try.prog 27 #[.string (S r)] w
    fun e w' => ∃ v, e = .returned v ∧ OwnB w' w.heap.size 5 v (text r) ∧ Below w.heap.size w w' := by
  obtain ⟨i0, hi0⟩ := isByte_of info5
  have Hi := Lib.hid hi0
  have hl8 := num_len (r.length : Int)
  clear hi0
  go_enter Try.func27, Try.ntmps27
  go_wp2_with (first
    | (go_at_call 29; go_must (refine (num_calls _ (by omega) _).mono ?_); rintro e w1 ⟨v1, rfl, ho1, hb1⟩)
    | (at_builtin; go_loud (refine wpList_appS _ rfl (.tmp 5) (.tmp 6) 25 9 rfl w.heap.size 5 i0 Try.underlying25 Try.underlying9 Hi.out v1 _ rfl ho1 r rfl (by omega) hb1.size ?_); intro v2 w2 hown2 hg2 hbw2))
  go_ret
  exact ⟨v2, rfl, hown2, hb1.trans hbw2⟩

set_option maxHeartbeats 800000 in
theorem join_calls (ps : List (List UInt8)) (A : Option Addr) (c : Nat) (w : World) (h : ReadBB w w.heap.size A ps) (hps : ps.length ≤ 140737488351232) (hsum : sumLen ps ≤ 140737488355328) :
    Calls Try.prog 31 #[.slice A ps.length c] w
    fun e w' => ∃ v, e = .returned v ∧ OwnB w' w.heap.size 5 v ps.flatten ∧ Below w.heap.size w w' := by
  obtain ⟨i0, hi0⟩ := isByte_of info5
  have Hi := Lib.hid hi0
  have Hh := Lib.hid h
  clear hi0 h
  go_enter Try.func31, Try.ntmps31
  go_wp2_with fail
  go_loopw [3, 4] (fun s i wr => ∃ k : Nat, k ≤ ps.length ∧ i = .int .i64 k ∧ OwnB wr w.heap.size 5 s ((ps.take k).flatten) ∧ Below w.heap.size w wr) (fun _ i _ => ps.length - (intOf i).toNat)
  case atStart => exact ⟨0, Nat.zero_le _, rfl, OwnB.nil, Below.refl _ _⟩
  case round =>
    obtain ⟨k, hk, rfl, hok, hbk⟩ := hrel
    have hl1 := flatten_len (ps.take k)
    by_cases hkl : k < ps.length
    · obtain ⟨b, o, rfl, hb, hc⟩ := Hh.out.below hbk (by omega)
      obtain ⟨Ak, ck, h1, h2, h3, h4⟩ := hc k hkl
      have Hc := Lib.hid hc
      have hst := sumLen_take ps k hkl
      have hle := sumLen_take_le ps (k + 1)
      have hfl := flatten_take ps k hkl
      clear hc
      obtain ⟨p, hp⟩ : ∃ p, p = ps.getD k [] := ⟨_, rfl⟩
      rw [← hp] at h1 h2 h4 hst hfl
      rw [hst, ← hl1] at hle
      have Hfl := Lib.hid hfl
      have Hok := Lib.hid hok
      have Hbk := Lib.hid hbk
      clear hp hst hl1 hfl hok hbk
      go_wp2_with (at_builtin; go_loud (refine wpList_appB _ rfl (.tmp 11) (.tmp 15) 25 rfl w.heap.size 5 i0 Try.underlying25 Hi.out _ _ rfl Hok.out w.heap.size Ak _ ck p rfl rfl h4 (by omega) Hbk.out.size ?_); intro v2 w2 hown2 hg2 hat2 hbw2)
      all_goals
        refine ⟨⟨k + 1, by omega, by go_num, by rw [Hfl.out]; exact hown2, Hbk.out.trans hbw2⟩, by simp [intOf]; omega⟩
    · have hke : k = ps.length := by omega
      subst hke
      rw [List.take_length] at hok
      have Hok := Lib.hid hok
      clear hok
      go_wp2
      go_ret
      exact ⟨_, rfl, Hok.out, hbk⟩

theorem blk_cell {w : World} {g : Nat} {x y : Value} {t : TypeId} (h : w.heap[g]? = some (.cells #[x, y] t (0, 0))) :
    w.cell? ⟨g, 0, none⟩ = some x ∧ w.cell? ⟨g, 1, none⟩ = some y ∧ w.frozen? ⟨g, 0, none⟩ = false ∧ w.frozen? ⟨g, 1, none⟩ = false :=
  ⟨by rw [cell_of_row w g 0 _ t _ h]; rfl, by rw [cell_of_row w g 1 _ t _ h]; rfl, frozen_of_row w g 0 _ t h, frozen_of_row w g 1 _ t h⟩
/-- the reference's reader, as a value -/
theorem strof_take (W : World) (A : Option Addr) (c B m : Nat) (l : List UInt8) (h : ReadB W B A l) (hm : m ≤ l.length) : (convert 25 9 (.slice A m c)).run Try.prog W = .ok (.string (S (l.take m))) W := by
  have := run_strof W 25 5 Try.underlying25 Try.underlying5 A c B (l.take m) (h.take m) 9 Try.underlying9
  rw [List.length_take, Nat.min_eq_left hm] at this
  exact this
def IsV (w : World) (B : Nat) (v : Value) (r : Rd) : Prop := ∃ A c, v = .agg #[.slice A r.l.length c, .int .i64 r.e] ∧ r.l.length ≤ c ∧ c ≤ 9223372036854775807 ∧ ReadB w B A r.l
theorem IsV.below {w w' : World} {B : Nat} {v : Value} {r : Rd} (h : IsV w B v r) (hb : Below B w w') : IsV w' B v r := by
  obtain ⟨A, c, h1, h2, h3, h4⟩ := h
  exact ⟨A, c, h1, h2, h3, h4.below hb⟩

theorem fail_calls (B : Nat) (v : Value) (r : Rd) (d : Int) (w : World) (h : IsV w B v r) (hB : B ≤ w.heap.size) :
    Calls Try.prog 51 #[v, .int .i64 d] w fun e w' => ∃ v', e = .returned v' ∧ IsV w' B v' ⟨r.l, d⟩ ∧ Below w.heap.size w w' := by
  obtain ⟨A, c, rfl, h2, h3, h4⟩ := h
  go_enter Try.func51, Try.ntmps51
  go_wp2
  refine bodyPost_ret (v := .agg #[.slice A r.l.length c, .int .i64 d]) (by simp [results, Try.results51, go_sem]) rfl ?_
  exact ⟨_, rfl, ⟨A, c, rfl, h2, h3, h4.below (Below.mono (by repeat (first | exact Below.refl _ _ | (refine Below.alloc ?_ (by first | (simp; done) | (simp; omega)) _) | (refine Below.setCell ?_ (by first | (simp; done) | (simp; omega)) _) | refine Below.drew ?_)) hB)⟩, (by repeat (first | exact Below.refl _ _ | (refine Below.alloc ?_ (by first | (simp; done) | (simp; omega)) _) | (refine Below.setCell ?_ (by first | (simp; done) | (simp; omega)) _) | refine Below.drew ?_))⟩

set_option maxHeartbeats 800000 in
theorem rnum_calls (B : Nat) (v : Value) (r : Rd) (most : Int) (w : World) (h : IsV w B v r) (hB : B ≤ w.heap.size) :
    Calls Try.prog 33 #[v, .int .i64 most] w fun e w' => ∃ v', e = .returned (.tuple #[v', .int .i64 ((r.num most).2 : Int)]) ∧ IsV w' B v' (r.num most).1 ∧ Below w.heap.size w w' := by
  have hsb := shortest_bound r.l
  obtain ⟨n, u, x, hs⟩ : ∃ n u x, shortest r.l = (n, u, x) := ⟨_, _, _, rfl⟩
  have hr : r.num most = if r.e ≠ 0 then (r, 0) else if x ≠ 0 then (⟨r.l, x⟩, 0) else if most < (n : Int) then (⟨r.l, 5⟩, 0) else (⟨r.l.drop u, 0⟩, n) := by unfold Rd.num; rw [hs]
  rw [hs] at hsb
  simp only at hsb
  obtain ⟨_, hul, hx, hu8, hu1⟩ := hsb
  have Hs := Lib.hid hs
  clear hs
  have Hh := Lib.hid h
  obtain ⟨A, c, rfl, h2, h3, h4⟩ := h
  by_cases he : r.e = 0
  · have hd0 : (r.e != 0) = false := by rw [bne_eq_false_iff_eq]; exact he
    rw [if_neg (by simpa using he)] at hr
    have He := Lib.hid he
    clear he
    have hcall : ∀ W, Below w.heap.size w W → Calls Try.prog 24 #[.slice A r.l.length c] W fun e w' => e = .returned (.tuple #[.int .i64 n, .int .i64 u, .int .i64 x]) ∧ W = w' := fun W hW => by
      have := rshortest_calls r.l A c B W (h4.below (hW.mono hB)) h2 h3
      rw [Hs.out] at this
      exact this
    have Hc := Lib.hid hcall
    clear hcall
    by_cases hx0 : x = 0
    · rw [if_neg (by simpa using hx0)] at hr
      subst hx0
      have hu1 := hu1 rfl
      clear hx
      by_cases hmo : most < (n : Int)
      · rw [if_pos hmo] at hr
        have Hr := Lib.hid hr
        clear hr
        go_enter Try.func33, Try.ntmps33
        go_wp2_with (first
        | (go_at_call 24; go_must (refine (Hc.out _ (by repeat (first | exact Below.refl _ _ | (refine Below.alloc ?_ (by first | (simp; done) | (simp; omega)) _) | (refine Below.setCell ?_ (by first | (simp; done) | (simp; omega)) _) | refine Below.drew ?_))).mono ?_); rintro e w1 ⟨rfl, rfl⟩)
        | (go_at_call 51; go_must (refine (fail_calls B _ r 5 _ (Hh.out.below (Below.mono (by repeat (first | exact Below.refl _ _ | (refine Below.alloc ?_ (by first | (simp; done) | (simp; omega)) _) | (refine Below.setCell ?_ (by first | (simp; done) | (simp; omega)) _) | refine Below.drew ?_)) hB)) (Nat.le_trans hB (by first | (simp; done) | (simp; omega)))).mono ?_); rintro e w2 ⟨v2, rfl, hv2, hb2⟩; obtain ⟨A2, c2, rfl, k2, k3, k4⟩ := hv2; obtain ⟨q1, q2⟩ := bcell hb2; have Hb2 := Lib.hid hb2; have K4 := Lib.hid k4; clear hb2 k4))
        refine bodyPost_ret (v := .tuple #[.agg #[.slice A2 r.l.length c2, .int .i64 5], .int .i64 0]) (by simp [results, Try.results33, go_sem, q1, q2]) rfl ?_
        have hbw : Below w.heap.size w w2 := Below.trans (b := _) (by repeat (first | exact Below.refl _ _ | (refine Below.alloc ?_ (by first | (simp; done) | (simp; omega)) _) | (refine Below.setCell ?_ (by first | (simp; done) | (simp; omega)) _) | refine Below.drew ?_)) (Hb2.out.mono (by first | (simp; done) | (simp; omega)))
        exact ⟨_, by rw [Hr.out]; rfl, by rw [Hr.out]; exact ⟨A2, c2, rfl, k2, k3, K4.out.setFar (Nat.le_trans hB (by first | (simp; done) | (simp; omega))) _ |>.setFar (Nat.le_trans hB (by first | (simp; done) | (simp; omega))) _⟩, (by repeat (first | exact hbw | exact Below.refl _ _ | (refine Below.alloc ?_ (by have := hbw.size; simp; omega) _) | (refine Below.setCell ?_ (by first | (simp; done) | (simp; omega)) _) | refine Below.drew ?_))⟩
      · rw [if_neg hmo] at hr
        have Hr := Lib.hid hr
        have hL : (r.l.drop u).length = r.l.length - u := List.length_drop
        have HL := Lib.hid hL
        clear hr hL
        obtain ⟨ab, ao, rfl, hab, hcell⟩ := h4 (by omega)
        have H4 := Lib.hid h4
        clear h4 hcell
        by_cases hcu : c = u
        · subst hcu
          have e0 : r.l.length - c = 0 := by omega
          have E0 := Lib.hid e0
          clear e0
          go_enter Try.func33, Try.ntmps33
          go_wp2_with (go_at_call 24; go_must (refine (Hc.out _ (by repeat (first | exact Below.refl _ _ | (refine Below.alloc ?_ (by first | (simp; done) | (simp; omega)) _) | (refine Below.setCell ?_ (by first | (simp; done) | (simp; omega)) _) | refine Below.drew ?_))).mono ?_); rintro e w1 ⟨rfl, rfl⟩)
          refine bodyPost_ret (v := .tuple #[.agg #[.slice (some ⟨ab, ao, none⟩) 0 0, .int .i64 0], .int .i64 n]) (by simp [results, Try.results33, go_sem]) rfl ?_
          refine ⟨_, by rw [Hr.out], ?_, (by repeat (first | exact Below.refl _ _ | (refine Below.alloc ?_ (by first | (simp; done) | (simp; omega)) _) | (refine Below.setCell ?_ (by first | (simp; done) | (simp; omega)) _) | refine Below.drew ?_))⟩
          rw [Hr.out]
          refine ⟨_, _, by rw [HL.out, E0.out], by rw [HL.out, E0.out]; omega, by omega, ?_⟩
          have e : r.l.drop c = [] := List.drop_eq_nil_of_le (by omega)
          show ReadB _ _ _ (r.l.drop c)
          rw [e]; exact ReadB.nil
        · go_enter Try.func33, Try.ntmps33
          go_wp2_with (go_at_call 24; go_must (refine (Hc.out _ (by repeat (first | exact Below.refl _ _ | (refine Below.alloc ?_ (by first | (simp; done) | (simp; omega)) _) | (refine Below.setCell ?_ (by first | (simp; done) | (simp; omega)) _) | refine Below.drew ?_))).mono ?_); rintro e w1 ⟨rfl, rfl⟩)
          refine bodyPost_ret (v := .tuple #[.agg #[.slice (some ⟨ab, ao + u, none⟩) (r.l.length - u) (c - u), .int .i64 0], .int .i64 n]) (by simp [results, Try.results33, go_sem]) rfl ?_
          refine ⟨_, by rw [Hr.out], ?_, (by repeat (first | exact Below.refl _ _ | (refine Below.alloc ?_ (by first | (simp; done) | (simp; omega)) _) | (refine Below.setCell ?_ (by first | (simp; done) | (simp; omega)) _) | refine Below.drew ?_))⟩
          rw [Hr.out]
          exact ⟨_, _, by rw [HL.out], by rw [HL.out]; omega, by omega, (H4.out.drop u).below (Below.mono (by repeat (first | exact Below.refl _ _ | (refine Below.alloc ?_ (by first | (simp; done) | (simp; omega)) _) | (refine Below.setCell ?_ (by first | (simp; done) | (simp; omega)) _) | refine Below.drew ?_)) hB)⟩
    · rw [if_pos hx0] at hr
      have Hr := Lib.hid hr
      have hxb : (x != 0) = true := by rw [bne_iff_ne]; exact hx0
      clear hr hx hu1 hx0
      go_enter Try.func33, Try.ntmps33
      go_wp2_with (first
        | (go_at_call 24; go_must (refine (Hc.out _ (by repeat (first | exact Below.refl _ _ | (refine Below.alloc ?_ (by first | (simp; done) | (simp; omega)) _) | (refine Below.setCell ?_ (by first | (simp; done) | (simp; omega)) _) | refine Below.drew ?_))).mono ?_); rintro e w1 ⟨rfl, rfl⟩)
        | (go_at_call 51; go_must (refine (fail_calls B _ r x _ (Hh.out.below (Below.mono (by repeat (first | exact Below.refl _ _ | (refine Below.alloc ?_ (by first | (simp; done) | (simp; omega)) _) | (refine Below.setCell ?_ (by first | (simp; done) | (simp; omega)) _) | refine Below.drew ?_)) hB)) (Nat.le_trans hB (by first | (simp; done) | (simp; omega)))).mono ?_); rintro e w2 ⟨v2, rfl, hv2, hb2⟩; obtain ⟨A2, c2, rfl, k2, k3, k4⟩ := hv2; obtain ⟨q1, q2⟩ := bcell hb2; have Hb2 := Lib.hid hb2; have K4 := Lib.hid k4; clear hb2 k4))
      refine bodyPost_ret (v := .tuple #[.agg #[.slice A2 r.l.length c2, .int .i64 x], .int .i64 0]) (by simp [results, Try.results33, go_sem, q1, q2]) rfl ?_
      have hbw : Below w.heap.size w w2 := Below.trans (b := _) (by repeat (first | exact Below.refl _ _ | (refine Below.alloc ?_ (by first | (simp; done) | (simp; omega)) _) | (refine Below.setCell ?_ (by first | (simp; done) | (simp; omega)) _) | refine Below.drew ?_)) (Hb2.out.mono (by first | (simp; done) | (simp; omega)))
      exact ⟨_, by rw [Hr.out]; rfl, by rw [Hr.out]; exact ⟨A2, c2, rfl, k2, k3, K4.out.setFar (Nat.le_trans hB (by first | (simp; done) | (simp; omega))) _ |>.setFar (Nat.le_trans hB (by first | (simp; done) | (simp; omega))) _⟩, (by repeat (first | exact hbw | exact Below.refl _ _ | (refine Below.alloc ?_ (by have := hbw.size; simp; omega) _) | (refine Below.setCell ?_ (by first | (simp; done) | (simp; omega)) _) | refine Below.drew ?_))⟩
  · have hd0 : (r.e != 0) = true := by rw [bne_iff_ne]; exact he
    rw [if_pos he] at hr
    have Hr := Lib.hid hr
    clear he hr
    go_enter Try.func33, Try.ntmps33
    go_wp2
    refine bodyPost_ret (v := .tuple #[.agg #[.slice A r.l.length c, .int .i64 r.e], .int .i64 0]) (by simp [results, Try.results33, go_sem]) rfl ?_
    exact ⟨_, by rw [Hr.out]; rfl, by rw [Hr.out]; exact ⟨A, c, rfl, h2, h3, h4.below (Below.mono (by repeat (first | exact Below.refl _ _ | (refine Below.alloc ?_ (by first | (simp; done) | (simp; omega)) _) | (refine Below.setCell ?_ (by first | (simp; done) | (simp; omega)) _) | refine Below.drew ?_)) hB)⟩, (by repeat (first | exact Below.refl _ _ | (refine Below.alloc ?_ (by first | (simp; done) | (simp; omega)) _) | (refine Below.setCell ?_ (by first | (simp; done) | (simp; omega)) _) | refine Below.drew ?_))⟩

set_option maxHeartbeats 1600000 in
theorem rraw_calls (B : Nat) (v : Value) (r : Rd) (n : Int) (w : World) (h : IsV w B v r) (hB : B ≤ w.heap.size) :
    Calls Try.prog 37 #[v, .int .i64 n] w fun e w' => ∃ v', e = .returned (.tuple #[v', .string (S (r.raw n).2)]) ∧ IsV w' B v' (r.raw n).1 ∧ Below w.heap.size w w' := by
  have hr : r.raw n = if r.e ≠ 0 then (r, []) else if n < 0 then (⟨r.l, 2⟩, []) else if (r.l.length : Int) < n then (⟨r.l, 3⟩, []) else (⟨r.l.drop n.toNat, 0⟩, r.l.take n.toNat) := rfl
  have Hh := Lib.hid h
  obtain ⟨A, c, rfl, h2, h3, h4⟩ := h
  by_cases he : r.e = 0
  · have hd0 : (r.e != 0) = false := by rw [bne_eq_false_iff_eq]; exact he
    rw [if_neg (by simpa using he)] at hr
    have He := Lib.hid he
    clear he
    by_cases hn : n < 0
    · rw [if_pos hn] at hr
      have Hr := Lib.hid hr
      clear hr
      go_enter Try.func37, Try.ntmps37
      go_wp2_with (go_at_call 51; go_must (refine (fail_calls B _ r 2 _ (Hh.out.below (Below.mono (by repeat (first | exact Below.refl _ _ | (refine Below.alloc ?_ (by first | (simp; done) | (simp; omega)) _) | (refine Below.setCell ?_ (by first | (simp; done) | (simp; omega)) _) | refine Below.drew ?_)) hB)) (Nat.le_trans hB (by first | (simp; done) | (simp; omega)))).mono ?_); rintro e w2 ⟨v2, rfl, hv2, hb2⟩; obtain ⟨A2, c2, rfl, k2, k3, k4⟩ := hv2; obtain ⟨q1, q2⟩ := bcell hb2; have Hb2 := Lib.hid hb2; have K4 := Lib.hid k4; clear hb2 k4)
      refine bodyPost_ret (v := .tuple #[.agg #[.slice A2 r.l.length c2, .int .i64 2], .string (S [])]) (by simp [results, Try.results37, go_sem, q1, q2]; rfl) rfl ?_
      have hbw : Below w.heap.size w w2 := Below.trans (b := _) (by repeat (first | exact Below.refl _ _ | (refine Below.alloc ?_ (by first | (simp; done) | (simp; omega)) _) | (refine Below.setCell ?_ (by first | (simp; done) | (simp; omega)) _) | refine Below.drew ?_)) (Hb2.out.mono (by first | (simp; done) | (simp; omega)))
      exact ⟨_, by rw [Hr.out], by rw [Hr.out]; exact ⟨A2, c2, rfl, k2, k3, K4.out.setFar (Nat.le_trans hB (by first | (simp; done) | (simp; omega))) _ |>.setFar (Nat.le_trans hB (by first | (simp; done) | (simp; omega))) _⟩, (by repeat (first | exact hbw | exact Below.refl _ _ | (refine Below.alloc ?_ (by have := hbw.size; simp; omega) _) | (refine Below.setCell ?_ (by first | (simp; done) | (simp; omega)) _) | refine Below.drew ?_))⟩
    · rw [if_neg hn] at hr
      by_cases hl : (r.l.length : Int) < n
      · rw [if_pos hl] at hr
        have Hr := Lib.hid hr
        clear hr
        go_enter Try.func37, Try.ntmps37
        go_wp2_with (go_at_call 51; go_must (refine (fail_calls B _ r 3 _ (Hh.out.below (Below.mono (by repeat (first | exact Below.refl _ _ | (refine Below.alloc ?_ (by first | (simp; done) | (simp; omega)) _) | (refine Below.setCell ?_ (by first | (simp; done) | (simp; omega)) _) | refine Below.drew ?_)) hB)) (Nat.le_trans hB (by first | (simp; done) | (simp; omega)))).mono ?_); rintro e w2 ⟨v2, rfl, hv2, hb2⟩; obtain ⟨A2, c2, rfl, k2, k3, k4⟩ := hv2; obtain ⟨q1, q2⟩ := bcell hb2; have Hb2 := Lib.hid hb2; have K4 := Lib.hid k4; clear hb2 k4)
        refine bodyPost_ret (v := .tuple #[.agg #[.slice A2 r.l.length c2, .int .i64 3], .string (S [])]) (by simp [results, Try.results37, go_sem, q1, q2]; rfl) rfl ?_
        have hbw : Below w.heap.size w w2 := Below.trans (b := _) (by repeat (first | exact Below.refl _ _ | (refine Below.alloc ?_ (by first | (simp; done) | (simp; omega)) _) | (refine Below.setCell ?_ (by first | (simp; done) | (simp; omega)) _) | refine Below.drew ?_)) (Hb2.out.mono (by first | (simp; done) | (simp; omega)))
        exact ⟨_, by rw [Hr.out], by rw [Hr.out]; exact ⟨A2, c2, rfl, k2, k3, K4.out.setFar (Nat.le_trans hB (by first | (simp; done) | (simp; omega))) _ |>.setFar (Nat.le_trans hB (by first | (simp; done) | (simp; omega))) _⟩, (by repeat (first | exact hbw | exact Below.refl _ _ | (refine Below.alloc ?_ (by have := hbw.size; simp; omega) _) | (refine Below.setCell ?_ (by first | (simp; done) | (simp; omega)) _) | refine Below.drew ?_))⟩
      · rw [if_neg hl] at hr
        obtain ⟨m, rfl⟩ : ∃ m : Nat, n = (m : Int) := ⟨n.toNat, by omega⟩
        rw [Int.toNat_natCast] at hr
        have hm : m ≤ r.l.length := by omega
        have Hr := Lib.hid hr
        clear hr hn hl
        rcases Nat.eq_zero_or_pos r.l.length with hl0 | hl0
        · obtain ⟨rl, re⟩ := r
          have hl1 : rl = [] := List.eq_nil_of_length_eq_zero hl0
          subst hl1
          have hm0 : m = 0 := by simpa using hm
          subst hm0
          obtain rfl : re = 0 := He.out
          simp only at h4
          have hm : 0 ≤ ([] : List UInt8).length := Nat.le_refl _
          clear hm hl0 h2 h4
          rcases A with _ | ad
          · by_cases hcu : c = 0
            · subst hcu
              have hbw : Below w.heap.size w ((w.alloc (.cells #[.slice none 0 0, .int .i64 0] 52)).alloc (.cells #[.slice none 0 0, .int .i64 0] 52)) := (((Below.refl w.heap.size w).alloc (Nat.le_refl _) (.cells #[.slice none 0 0, .int .i64 0] 52)).alloc (by simp) (.cells #[.slice none 0 0, .int .i64 0] 52))
              have hg0 := heap_alloc2_old w (.cells #[.slice none 0 0, .int .i64 0] 52) (.cells #[.slice none 0 0, .int .i64 0] 52)
              have hg1 := heap_alloc2_new w (.cells #[.slice none 0 0, .int .i64 0] 52) (.cells #[.slice none 0 0, .int .i64 0] 52)
              go_enter Try.func37, Try.ntmps37
              go_wp2
              generalize ((w.alloc (.cells #[.slice none 0 0, .int .i64 0] 52)).alloc (.cells #[.slice none 0 0, .int .i64 0] 52)) = W at *
              obtain ⟨c0, c1, f0, f1⟩ := blk_cell hg0
              obtain ⟨d0, d1, e0, e1⟩ := blk_cell hg1
              have hs0 : (convert 25 9 (.slice none 0 0)).run Try.prog W.drew = .ok (.string (S [])) W.drew := strof_take W.drew none 0 0 0 [] ReadB.nil (by simp)
              have hs1 : (convert 25 9 (.slice none 0 0)).run Try.prog (((W.setCell ⟨w.heap.size + 1, 0, none⟩ (.slice none 0 0)).setCell ⟨w.heap.size + 1, 1, none⟩ (.int .i64 0)).drew) = .ok (.string (S [])) _ := strof_take (((W.setCell ⟨w.heap.size + 1, 0, none⟩ (.slice none 0 0)).setCell ⟨w.heap.size + 1, 1, none⟩ (.int .i64 0)).drew) none 0 0 0 [] ReadB.nil (by simp)
              have Hg1 := Lib.hid hg1
              have Hbw := Lib.hid hbw
              clear hg0 hg1 hbw
              go_region
              go_wp2
              refine bodyPost_ret (v := .tuple #[.agg #[(.slice none 0 0), .int .i64 0], .string (S [])]) (by simp [results, Try.results37, go_sem, d0, d1]) rfl ?_
              refine ⟨_, by rw [Hr.out]; rfl, ?_, ((Hbw.out.setCell (by first | (simp; done) | (simp; omega)) _).setCell (by first | (simp; done) | (simp; omega)) _).drew⟩
              rw [Hr.out]
              exact ⟨_, _, rfl, by simp, by omega, ReadB.nil⟩
            · have hbw : Below w.heap.size w ((w.alloc (.cells #[.slice none 0 c, .int .i64 0] 52)).alloc (.cells #[.slice none 0 0, .int .i64 0] 52)) := (((Below.refl w.heap.size w).alloc (Nat.le_refl _) (.cells #[.slice none 0 c, .int .i64 0] 52)).alloc (by simp) (.cells #[.slice none 0 0, .int .i64 0] 52))
              have hg0 := heap_alloc2_old w (.cells #[.slice none 0 c, .int .i64 0] 52) (.cells #[.slice none 0 0, .int .i64 0] 52)
              have hg1 := heap_alloc2_new w (.cells #[.slice none 0 c, .int .i64 0] 52) (.cells #[.slice none 0 0, .int .i64 0] 52)
              go_enter Try.func37, Try.ntmps37
              go_wp2
              generalize ((w.alloc (.cells #[.slice none 0 c, .int .i64 0] 52)).alloc (.cells #[.slice none 0 0, .int .i64 0] 52)) = W at *
              obtain ⟨c0, c1, f0, f1⟩ := blk_cell hg0
              obtain ⟨d0, d1, e0, e1⟩ := blk_cell hg1
              have hs0 : (convert 25 9 (.slice none 0 c)).run Try.prog W.drew = .ok (.string (S [])) W.drew := strof_take W.drew none c 0 0 [] ReadB.nil (by simp)
              have hs1 : (convert 25 9 (.slice none 0 c)).run Try.prog (((W.setCell ⟨w.heap.size + 1, 0, none⟩ (.slice none 0 c)).setCell ⟨w.heap.size + 1, 1, none⟩ (.int .i64 0)).drew) = .ok (.string (S [])) _ := strof_take (((W.setCell ⟨w.heap.size + 1, 0, none⟩ (.slice none 0 c)).setCell ⟨w.heap.size + 1, 1, none⟩ (.int .i64 0)).drew) none c 0 0 [] ReadB.nil (by simp)
              have Hg1 := Lib.hid hg1
              have Hbw := Lib.hid hbw
              clear hg0 hg1 hbw
              go_region
              go_wp2
              refine bodyPost_ret (v := .tuple #[.agg #[(.slice none 0 c), .int .i64 0], .string (S [])]) (by simp [results, Try.results37, go_sem, d0, d1]) rfl ?_
              refine ⟨_, by rw [Hr.out]; rfl, ?_, ((Hbw.out.setCell (by first | (simp; done) | (simp; omega)) _).setCell (by first | (simp; done) | (simp; omega)) _).drew⟩
              rw [Hr.out]
              exact ⟨_, _, rfl, by simp, by omega, ReadB.nil⟩
          · by_cases hcu : c = 0
            · subst hcu
              have hbw : Below w.heap.size w ((w.alloc (.cells #[.slice (some ad) 0 0, .int .i64 0] 52)).alloc (.cells #[.slice none 0 0, .int .i64 0] 52)) := (((Below.refl w.heap.size w).alloc (Nat.le_refl _) (.cells #[.slice (some ad) 0 0, .int .i64 0] 52)).alloc (by simp) (.cells #[.slice none 0 0, .int .i64 0] 52))
              have hg0 := heap_alloc2_old w (.cells #[.slice (some ad) 0 0, .int .i64 0] 52) (.cells #[.slice none 0 0, .int .i64 0] 52)
              have hg1 := heap_alloc2_new w (.cells #[.slice (some ad) 0 0, .int .i64 0] 52) (.cells #[.slice none 0 0, .int .i64 0] 52)
              go_enter Try.func37, Try.ntmps37
              go_wp2
              generalize ((w.alloc (.cells #[.slice (some ad) 0 0, .int .i64 0] 52)).alloc (.cells #[.slice none 0 0, .int .i64 0] 52)) = W at *
              obtain ⟨c0, c1, f0, f1⟩ := blk_cell hg0
              obtain ⟨d0, d1, e0, e1⟩ := blk_cell hg1
              have hs0 : (convert 25 9 (.slice (some ad) 0 0)).run Try.prog W.drew = .ok (.string (S [])) W.drew := strof_take W.drew (some ad) 0 0 0 [] ReadB.nil (by simp)
              have hs1 : (convert 25 9 (.slice (some ad) 0 0)).run Try.prog (((W.setCell ⟨w.heap.size + 1, 0, none⟩ (.slice (some ad) 0 0)).setCell ⟨w.heap.size + 1, 1, none⟩ (.int .i64 0)).drew) = .ok (.string (S [])) _ := strof_take (((W.setCell ⟨w.heap.size + 1, 0, none⟩ (.slice (some ad) 0 0)).setCell ⟨w.heap.size + 1, 1, none⟩ (.int .i64 0)).drew) (some ad) 0 0 0 [] ReadB.nil (by simp)
              have Hg1 := Lib.hid hg1
              have Hbw := Lib.hid hbw
              clear hg0 hg1 hbw
              go_region
              go_wp2
              refine bodyPost_ret (v := .tuple #[.agg #[(.slice (some ad) 0 0), .int .i64 0], .string (S [])]) (by simp [results, Try.results37, go_sem, d0, d1]) rfl ?_
              refine ⟨_, by rw [Hr.out]; rfl, ?_, ((Hbw.out.setCell (by first | (simp; done) | (simp; omega)) _).setCell (by first | (simp; done) | (simp; omega)) _).drew⟩
              rw [Hr.out]
              exact ⟨_, _, rfl, by simp, by omega, ReadB.nil⟩
            · have hbw : Below w.heap.size w ((w.alloc (.cells #[.slice (some ad) 0 c, .int .i64 0] 52)).alloc (.cells #[.slice none 0 0, .int .i64 0] 52)) := (((Below.refl w.heap.size w).alloc (Nat.le_refl _) (.cells #[.slice (some ad) 0 c, .int .i64 0] 52)).alloc (by simp) (.cells #[.slice none 0 0, .int .i64 0] 52))
              have hg0 := heap_alloc2_old w (.cells #[.slice (some ad) 0 c, .int .i64 0] 52) (.cells #[.slice none 0 0, .int .i64 0] 52)
              have hg1 := heap_alloc2_new w (.cells #[.slice (some ad) 0 c, .int .i64 0] 52) (.cells #[.slice none 0 0, .int .i64 0] 52)
              go_enter Try.func37, Try.ntmps37
              go_wp2
              generalize ((w.alloc (.cells #[.slice (some ad) 0 c, .int .i64 0] 52)).alloc (.cells #[.slice none 0 0, .int .i64 0] 52)) = W at *
              obtain ⟨c0, c1, f0, f1⟩ := blk_cell hg0
              obtain ⟨d0, d1, e0, e1⟩ := blk_cell hg1
              have hs0 : (convert 25 9 (.slice (some ad) 0 c)).run Try.prog W.drew = .ok (.string (S [])) W.drew := strof_take W.drew (some ad) c 0 0 [] ReadB.nil (by simp)
              have hs1 : (convert 25 9 (.slice (some ad) 0 c)).run Try.prog (((W.setCell ⟨w.heap.size + 1, 0, none⟩ (.slice (some ad) 0 c)).setCell ⟨w.heap.size + 1, 1, none⟩ (.int .i64 0)).drew) = .ok (.string (S [])) _ := strof_take (((W.setCell ⟨w.heap.size + 1, 0, none⟩ (.slice (some ad) 0 c)).setCell ⟨w.heap.size + 1, 1, none⟩ (.int .i64 0)).drew) (some ad) c 0 0 [] ReadB.nil (by simp)
              have Hg1 := Lib.hid hg1
              have Hbw := Lib.hid hbw
              clear hg0 hg1 hbw
              go_region
              go_wp2
              refine bodyPost_ret (v := .tuple #[.agg #[(.slice (some ad) 0 c), .int .i64 0], .string (S [])]) (by simp [results, Try.results37, go_sem, d0, d1]) rfl ?_
              refine ⟨_, by rw [Hr.out]; rfl, ?_, ((Hbw.out.setCell (by first | (simp; done) | (simp; omega)) _).setCell (by first | (simp; done) | (simp; omega)) _).drew⟩
              rw [Hr.out]
              exact ⟨_, _, rfl, by simp, by omega, ReadB.nil⟩
        · obtain ⟨ab, ao, rfl, hab, hcell⟩ := h4 hl0
          clear hcell hl0
          have hL : (r.l.drop m).length = r.l.length - m := List.length_drop
          have HL := Lib.hid hL
          clear hL
          by_cases hcu : c = m
          · subst hcu
            have e0 : r.l.length - c = 0 := by omega
            have EE0 := Lib.hid e0
            clear e0
            have hbw : Below w.heap.size w ((w.alloc (.cells #[.slice (some ⟨ab, ao, none⟩) r.l.length c, .int .i64 r.e] 52)).alloc (.cells #[.slice none 0 0, .int .i64 0] 52)) := (((Below.refl w.heap.size w).alloc (Nat.le_refl _) (.cells #[.slice (some ⟨ab, ao, none⟩) r.l.length c, .int .i64 r.e] 52)).alloc (by simp) (.cells #[.slice none 0 0, .int .i64 0] 52))
            have hrb := h4.below (hbw.mono hB)
            have hg0 := heap_alloc2_old w (.cells #[.slice (some ⟨ab, ao, none⟩) r.l.length c, .int .i64 r.e] 52) (.cells #[.slice none 0 0, .int .i64 0] 52)
            have hg1 := heap_alloc2_new w (.cells #[.slice (some ⟨ab, ao, none⟩) r.l.length c, .int .i64 r.e] 52) (.cells #[.slice none 0 0, .int .i64 0] 52)
            go_enter Try.func37, Try.ntmps37
            go_wp2
            generalize ((w.alloc (.cells #[.slice (some ⟨ab, ao, none⟩) r.l.length c, .int .i64 r.e] 52)).alloc (.cells #[.slice none 0 0, .int .i64 0] 52)) = W at *
            obtain ⟨c0, c1, f0, f1⟩ := blk_cell hg0
            obtain ⟨d0, d1, e0, e1⟩ := blk_cell hg1
            have hs0 := strof_take W.drew _ c B c _ hrb hm
            have hs1 := strof_take (((W.setCell ⟨w.heap.size + 1, 0, none⟩ (.slice (some ⟨ab, ao, none⟩) 0 0)).setCell ⟨w.heap.size + 1, 1, none⟩ (.int .i64 0)).drew) _ c B c _ ((hrb.setFar (by simp; omega) _).setFar (by simp; omega) _) hm
            have Hg1 := Lib.hid hg1
            have Hrb := Lib.hid hrb
            have Hbw := Lib.hid hbw
            clear hg0 hg1 hrb hbw
            go_region
            go_wp2
            refine bodyPost_ret (v := .tuple #[.agg #[(.slice (some ⟨ab, ao, none⟩) 0 0), .int .i64 0], .string (S (r.l.take c))]) (by simp [results, Try.results37, go_sem, d0, d1]) rfl ?_
            have hfr := (Hrb.out.setFar (p := ⟨w.heap.size + 1, 0, none⟩) (Nat.le_trans hB (by first | (simp; done) | (simp; omega))) (.slice (some ⟨ab, ao, none⟩) 0 0)).setFar (p := ⟨w.heap.size + 1, 1, none⟩) (Nat.le_trans hB (by first | (simp; done) | (simp; omega))) (.int .i64 0)
            refine ⟨_, by rw [Hr.out], ?_, ((Hbw.out.setCell (by first | (simp; done) | (simp; omega)) _).setCell (by first | (simp; done) | (simp; omega)) _).drew⟩
            rw [Hr.out]
            refine ⟨_, _, by rw [HL.out, EE0.out], by rw [HL.out, EE0.out]; omega, by omega, ?_⟩
            have e : r.l.drop c = [] := List.drop_eq_nil_of_le (by omega)
            show ReadB _ _ _ (r.l.drop c)
            rw [e]; exact ReadB.nil
          · have hbw : Below w.heap.size w ((w.alloc (.cells #[.slice (some ⟨ab, ao, none⟩) r.l.length c, .int .i64 r.e] 52)).alloc (.cells #[.slice none 0 0, .int .i64 0] 52)) := (((Below.refl w.heap.size w).alloc (Nat.le_refl _) (.cells #[.slice (some ⟨ab, ao, none⟩) r.l.length c, .int .i64 r.e] 52)).alloc (by simp) (.cells #[.slice none 0 0, .int .i64 0] 52))
            have hrb := h4.below (hbw.mono hB)
            have hg0 := heap_alloc2_old w (.cells #[.slice (some ⟨ab, ao, none⟩) r.l.length c, .int .i64 r.e] 52) (.cells #[.slice none 0 0, .int .i64 0] 52)
            have hg1 := heap_alloc2_new w (.cells #[.slice (some ⟨ab, ao, none⟩) r.l.length c, .int .i64 r.e] 52) (.cells #[.slice none 0 0, .int .i64 0] 52)
            go_enter Try.func37, Try.ntmps37
            go_wp2
            generalize ((w.alloc (.cells #[.slice (some ⟨ab, ao, none⟩) r.l.length c, .int .i64 r.e] 52)).alloc (.cells #[.slice none 0 0, .int .i64 0] 52)) = W at *
            obtain ⟨c0, c1, f0, f1⟩ := blk_cell hg0
            obtain ⟨d0, d1, e0, e1⟩ := blk_cell hg1
            have hs0 := strof_take W.drew _ c B m _ hrb hm
            have hs1 := strof_take (((W.setCell ⟨w.heap.size + 1, 0, none⟩ (.slice (some ⟨ab, ao + m, none⟩) (r.l.length - m) (c - m))).setCell ⟨w.heap.size + 1, 1, none⟩ (.int .i64 0)).drew) _ c B m _ ((hrb.setFar (by simp; omega) _).setFar (by simp; omega) _) hm
            have Hg1 := Lib.hid hg1
            have Hrb := Lib.hid hrb
            have Hbw := Lib.hid hbw
            clear hg0 hg1 hrb hbw
            go_region
            go_wp2
            refine bodyPost_ret (v := .tuple #[.agg #[(.slice (some ⟨ab, ao + m, none⟩) (r.l.length - m) (c - m)), .int .i64 0], .string (S (r.l.take m))]) (by simp [results, Try.results37, go_sem, d0, d1]) rfl ?_
            have hfr := (Hrb.out.setFar (p := ⟨w.heap.size + 1, 0, none⟩) (Nat.le_trans hB (by first | (simp; done) | (simp; omega))) (.slice (some ⟨ab, ao + m, none⟩) (r.l.length - m) (c - m))).setFar (p := ⟨w.heap.size + 1, 1, none⟩) (Nat.le_trans hB (by first | (simp; done) | (simp; omega))) (.int .i64 0)
            refine ⟨_, by rw [Hr.out], ?_, ((Hbw.out.setCell (by first | (simp; done) | (simp; omega)) _).setCell (by first | (simp; done) | (simp; omega)) _).drew⟩
            rw [Hr.out]
            exact ⟨_, _, by rw [HL.out], by rw [HL.out]; omega, by omega, hfr.drop m⟩
  · have hd0 : (r.e != 0) = true := by rw [bne_iff_ne]; exact he
    rw [if_pos he] at hr
    have Hr := Lib.hid hr
    clear he hr
    go_enter Try.func37, Try.ntmps37
    go_wp2
    refine bodyPost_ret (v := .tuple #[.agg #[.slice A r.l.length c, .int .i64 r.e], .string (S [])]) (by simp [results, Try.results37, go_sem]; rfl) rfl ?_
    exact ⟨_, by rw [Hr.out], by rw [Hr.out]; exact ⟨A, c, rfl, h2, h3, h4.below (Below.mono (by repeat (first | exact Below.refl _ _ | (refine Below.alloc ?_ (by first | (simp; done) | (simp; omega)) _) | (refine Below.setCell ?_ (by first | (simp; done) | (simp; omega)) _) | refine Below.drew ?_)) hB)⟩, (by repeat (first | exact Below.refl _ _ | (refine Below.alloc ?_ (by first | (simp; done) | (simp; omega)) _) | (refine Below.setCell ?_ (by first | (simp; done) | (simp; omega)) _) | refine Below.drew ?_))⟩
end Fr
end Go.Proofs.Ytldhplanpnddbaa
