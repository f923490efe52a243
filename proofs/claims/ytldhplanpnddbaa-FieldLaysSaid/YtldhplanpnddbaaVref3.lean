/- What the reference lays and reads of a number of the wire, in its least width. -/
import Derived.Test.YtldhplanpnddbaaVref2
namespace Go.Proofs.Ytldhplanpnddbaa
namespace Vi
open Go.RowKit Ba Vm
set_option linter.unusedVariables false

set_option maxHeartbeats 400000 in
theorem rput_calls (n : Int) (hn : n ≤ 9223372036854775807) (w : World) : Calls Try.prog 18 #[.int .i64 n] w
    fun e w' => ∃ v, e = .returned (.tuple #[v, .int .i64 (put n).2]) ∧ OwnB w' w.heap.size 5 v (put n).1 ∧ Below w.heap.size w w' := by
  have Hp := Lib.hid (put_eq n)
  rcases Nat.eq_zero_or_pos (len n) with h0 | h0
  · have H0 := Lib.hid h0
    clear h0
    go_enter Try.func18, Try.ntmps18
    go_wp2_with (go_at_call 15; refine (rlen_calls _ hn _).mono ?_; rw [H0.out]; rintro e w1 ⟨rfl, rfl⟩)
    go_ret2
    exact ⟨.slice none 0 0, by rw [Hp.out, if_pos H0.out]; rfl, by rw [Hp.out, if_pos H0.out]; exact OwnB.nil, Below.refl _ _⟩
  · have hz : ((len n : Int) == 0) = false := by rw [beq_eq_false_iff_ne]; omega
    go_enter Try.func18, Try.ntmps18
    go_wp2_with (first
      | (go_at_call 15; refine (rlen_calls _ hn _).mono ?_; rintro e w1 ⟨rfl, rfl⟩)
      | (go_at_call 20; refine (rputIn_calls _ _ hn _).mono ?_; rintro e w2 ⟨v, rfl, ho, hb2⟩))
    go_ret2
    have hz : ¬ len n = 0 := by omega
    exact ⟨v, by rw [Hp.out, if_neg hz]; rfl, by rw [Hp.out, if_neg hz]; exact ho, hb2⟩

set_option maxHeartbeats 800000 in
theorem rget_calls (l : List UInt8) (A : Option Addr) (c B : Nat) (w : World) (h : ReadB w B A l) (hlc : l.length ≤ c) (hcm : c ≤ 9223372036854775807) :
    Calls Try.prog 22 #[.slice A l.length c] w fun e w' => e = .returned (.tuple #[.int .i64 (get l).1, .int .i64 (get l).2.1, .int .i64 (get l).2.2]) ∧ w = w' := by
  rcases l with _ | ⟨b, r⟩
  · go_enter Try.func22, Try.ntmps22
    go_wp2
    go_ret3
    exact ⟨rfl, rfl⟩
  · obtain ⟨ab, ao, rfl, hb, hc0⟩ := h.head (by simp)
    simp only [List.getD_cons_zero] at hc0
    have hb8 := u8_lt b
    have hn : r.length + 1 ≤ c := hlc
    go_enter Try.func22, Try.ntmps22
    go_wp2
    go_loop [5, 6] (fun x i => ∃ (k : Nat) (X : Int), k ≤ b.toNat / 64 ∧ i = .int .i64 k ∧ x = .int .i64 X ∧ Hid (X = ((2 ^ k : Nat) : Int)) ∧ 1 ≤ X ∧ X ≤ 8 ∧ (k < b.toNat / 64 → X ≤ 4)) (fun _ i => 4 - (intOf i).toNat)
    case atStart => exact ⟨0, 1, by omega, rfl, rfl, rfl, by omega, by omega, by omega⟩
    case round =>
      obtain ⟨k, X, hk, rfl, rfl, HX, hx1, hx8, hx4⟩ := hrel
      by_cases hkk : k < b.toNat / 64
      · have hx4 := hx4 hkk
        go_wp2
        refine ⟨⟨k + 1, 2 * X, by omega, by go_num, rfl, ?_, by omega, by omega, ?_⟩, by simp [intOf]; omega⟩
        · have := HX.out; show 2 * X = _; rw [Nat.pow_succ]; omega
        · intro h3
          have : k = 0 ∨ k = 1 := by omega
          have := HX.out
          rcases ‹k = 0 ∨ k = 1› with rfl | rfl <;> simp at this <;> omega
      · clear hx4
        have hke : k = b.toNat / 64 := by omega
        have hw8 : X = ((w8 b : Nat) : Int) := by rw [HX.out, hke]; rfl
        by_cases hlt : (b :: r).length < w8 b
        · have hg := Lib.hid (get_lt b r hlt)
          rw [List.length_cons] at hlt
          have hlt2 : (r.length : Int) + 1 < X := by omega
          clear hke
          have HW := Lib.hid hw8
          clear hw8
          go_wp2
          go_ret3
          exact ⟨by rw [hg.out]; rfl, rfl⟩
        · have hg := Lib.hid (get_ge b r hlt)
          rw [List.length_cons] at hlt
          have hlt2 : X ≤ (r.length : Int) + 1 := by omega
          clear hke
          have HW := Lib.hid hw8
          clear hw8
          go_wp2
          go_loop [7, 8] (fun n i => ∃ j : Nat, (j : Int) + 1 ≤ X ∧ i = .int .i64 ((j : Int) + 1) ∧ n = .int .i64 (val (b.toNat % 64) (r.take j))) (fun _ i => 9 - (intOf i).toNat)
          case atStart => exact ⟨0, by omega, rfl, by simp [val]⟩
          case round =>
            obtain ⟨j, hj, rfl, rfl⟩ := hrel
            by_cases hjx : (j : Int) + 1 < X
            · have hce : w.cell? ⟨ab, ao + (j + 1), none⟩ = some (.int .u8 ((r.getD j 0).toNat : Int)) := by
                obtain ⟨_, _, e1, _, h2⟩ := h (by simp)
                injection e1 with e1
                injection e1 with e1 e2
                subst e1 e2
                exact h2 (j + 1) (by simp; omega)
              have hv := val_small b r j (by omega)
              have hvs := Lib.hid (val_snoc (b.toNat % 64) r j (by omega))
              have hc8 := u8_lt (r.getD j 0)
              generalize val (b.toNat % 64) (r.take j) = V at hv hvs
              generalize (r.getD j 0).toNat = Cc at hce hvs hc8
              go_wp2
              refine ⟨⟨j + 1, by omega, by go_num, ?_⟩, by simp [intOf]; omega⟩
              rw [hvs.out]
              go_num
            · go_wp2
              go_ret3
              have hj1 : j = w8 b - 1 := by have := HW.out; omega
              subst hj1
              have hX := HW.out
              exact ⟨by rw [hg.out, ← hX]; rfl, rfl⟩

set_option maxHeartbeats 400000 in
theorem rshortest_calls (l : List UInt8) (A : Option Addr) (c B : Nat) (w : World) (h : ReadB w B A l) (hlc : l.length ≤ c) (hcm : c ≤ 9223372036854775807) :
    Calls Try.prog 24 #[.slice A l.length c] w fun e w' => e = .returned (.tuple #[.int .i64 (shortest l).1, .int .i64 (shortest l).2.1, .int .i64 (shortest l).2.2]) ∧ w = w' := by
  have hbd := get_bound l
  have hg : ∃ n u e, get l = (n, u, e) := ⟨_, _, _, rfl⟩
  obtain ⟨n, u, e0, hg⟩ := hg
  rw [hg] at hbd
  simp only at hbd
  obtain ⟨h1, h2, h3⟩ := hbd
  have Hg := Lib.hid hg
  clear hg
  have hsh : shortest l = if e0 ≠ 0 then (0, 0, e0) else if len n < u then (0, 0, 4) else (n, u, e0) := by
    have e := Hg.out
    unfold shortest
    rw [e]
  have Hs := Lib.hid hsh
  clear hsh
  rcases h3 with rfl | rfl
  · obtain ⟨hu, hul⟩ := h2 rfl
    clear h2
    by_cases hlt : len n < u
    · have hlt' : decide ((len n : Int) < (u : Int)) = true := by simpa using hlt
      go_enter Try.func24, Try.ntmps24
      go_wp2_with (first
        | (go_at_call 22; refine (rget_calls l A c B _ h hlc hcm).mono ?_; rw [Hg.out]; rintro e w1 ⟨rfl, rfl⟩)
        | (go_at_call 15; refine (rlen_calls _ (by omega) _).mono ?_; rintro e w1 ⟨rfl, rfl⟩))
      go_ret3
      exact ⟨by rw [Hs.out, if_neg (by simp), if_pos hlt]; rfl, rfl⟩
    · have hlt' : decide ((len n : Int) < (u : Int)) = false := by simpa using hlt
      go_enter Try.func24, Try.ntmps24
      go_wp2_with (first
        | (go_at_call 22; refine (rget_calls l A c B _ h hlc hcm).mono ?_; rw [Hg.out]; rintro e w1 ⟨rfl, rfl⟩)
        | (go_at_call 15; refine (rlen_calls _ (by omega) _).mono ?_; rintro e w1 ⟨rfl, rfl⟩))
      go_ret3
      exact ⟨by rw [Hs.out, if_neg (by simp), if_neg hlt]; rfl, rfl⟩
  · go_enter Try.func24, Try.ntmps24
    go_wp2_with (go_at_call 22; refine (rget_calls l A c B _ h hlc hcm).mono ?_; rw [Hg.out]; rintro e w1 ⟨rfl, rfl⟩)
    go_ret3
    exact ⟨by rw [Hs.out, if_pos (by simp)]; rfl, rfl⟩
end Vi
end Go.Proofs.Ytldhplanpnddbaa
