/- The walks of two statements on numbers of the wire: a number that is cut off is none; a number is read as it was put. -/
import Derived.Test.YtldhplanpnddbaaVlaws
import Derived.Test.YtldhplanpnddbaaVmath2
namespace Go.Proofs.Ytldhplanpnddbaa
namespace Vi
open Go.RowKit Ba Vm
set_option linter.unusedVariables false

set_option maxHeartbeats 800000 in
theorem cuts_calls (n d : Int) (hn : n ≤ 9223372036854775807) (hd : 0 ≤ d ∧ d ≤ 255) (w : World) : Calls Try.prog 7 #[.int .i64 n, .int .u8 d] w fun e w' => e = .returned (.bool true) ∧ Below w.heap.size w w' := by
  have fin : ∀ W, Below w.heap.size w W → Calls Try.prog 16 #[] W fun e w' => e = .returned (.bool true) ∧ Below w.heap.size w w' := fun W hW => (awake1_calls W).mono fun e w' ⟨h1, h2⟩ => ⟨h1, bthen hW h2⟩
  have Hf := Lib.hid fin
  clear fin
  rcases len_w4 n with hn0 | ⟨hwn, hn0, hln⟩
  · have hp : put n = ([], 13) := by unfold put; rw [if_pos hn0]
    have Hp := Lib.hid hp
    have Hn0 := Lib.hid hn0
    clear hp hn0
    go_enter Try.func7, Try.ntmps7
    go_wp2_with fail
    refine (put_calls n hn _).mono ?_
    rw [Hp.out]
    rintro e w1 ⟨v1, rfl, ho1, hb1⟩
    go_wp2_with fail
    refine (len_calls n hn _).mono ?_
    rw [Hn0.out]
    rintro e w2 ⟨rfl, hb2⟩
    go_wp2_with (go_at_call 16; refine (Hf.out _ (bthen hb1 hb2)).mono ?_; rintro e w5 ⟨rfl, hb5⟩)
    go_ret
    exact ⟨rfl, hb5⟩
  · have hp : put n = (enc n.toNat (len n), 0) := by unfold put; rw [if_neg (by rcases hwn with h | h | h | h <;> omega)]
    have hl1 := enc_length n.toNat (len n)
    have hpos : 0 < len n := by rcases hwn with h | h | h | h <;> omega
    have hcut : ∀ m, m < len n → get ((enc n.toNat (len n)).take m) = (0, 0, 3) := fun m hm => get_cut _ _ m hwn (by omega) hm
    obtain ⟨la, hla⟩ : ∃ x, x = enc n.toNat (len n) := ⟨_, rfl⟩
    rw [← hla] at hp hl1 hcut
    rw [← hl1] at hcut hpos
    obtain ⟨m, hm⟩ : ∃ m : Nat, d % (la.length : Int) = (m : Int) := ⟨(d % (la.length : Int)).toNat, by rw [Int.toNat_of_nonneg (Int.emod_nonneg _ (by omega))]⟩
    have hm2 : m < la.length := by have := Int.emod_lt_of_pos d (show (0 : Int) < la.length by omega); omega
    have hg : ∀ W B A c, ReadB W B A la → la.length ≤ c → c ≤ 9223372036854775807 → Calls Try.prog 21 #[.slice A m c] W fun e w' => e = .returned (.tuple #[.int .i64 0, .int .i64 0, .int .i64 3]) ∧ W = w' := fun W B A c h1 h2 h3 => by
      have := get_calls (la.take m) A c B W (h1.take m) (by simp; omega) h3
      rw [hcut m hm2, List.length_take, Nat.min_eq_left (by omega)] at this
      exact this
    have Hp := Lib.hid hp
    have Hg := Lib.hid hg
    have hne : ((la.length : Int) == 0) = false := by rw [beq_eq_false_iff_ne]; omega
    have hne2 : ¬ la = [] := by rintro rfl; simp at hpos
    clear hp hg hl1 hcut hla hln hwn
    go_enter Try.func7, Try.ntmps7
    go_wp2_with fail
    refine (put_calls n hn _).mono ?_
    rw [Hp.out]
    rintro e w1 ⟨v1, rfl, ho1, hb1⟩
    obtain ⟨A1, c1, rfl, hlc1, hcm1, hr1, _⟩ := ho1.opens
    go_wp2_with (first
      | (go_at_call 21; go_must (refine (Hg.out _ _ A1 c1 hr1 hlc1 hcm1).mono ?_); rintro e w2 ⟨rfl, rfl⟩)
      | (go_at_call 16; refine (Hf.out _ hb1).mono ?_; rintro e w5 ⟨rfl, hb5⟩))
    go_ret
    exact ⟨rfl, hb5⟩

theorem pow_w4 (k X : Nat) (hk : k ≤ 3) (h : X = 2 ^ k) : W4 X := by
  subst h
  have : k = 0 ∨ k = 1 ∨ k = 2 ∨ k = 3 := by omega
  rcases this with rfl | rfl | rfl | rfl <;> simp [W4]

set_option maxHeartbeats 1600000 in
theorem back_calls (n : Int) (bh : List UInt8) (A : Option Addr) (c : Nat) (hn : n ≤ 9223372036854775807) (w : World) (h : ReadB w w.heap.size A bh) (hlc : bh.length ≤ c) (hcm : c ≤ 9223372036854775807) (hbig : bh.length ≤ 140737488351232) :
    Calls Try.prog 6 #[.int .i64 n, .slice A bh.length c] w fun e w' => e = .returned (.bool true) ∧ Below w.heap.size w w' := by
  have fin : ∀ W, Below w.heap.size w W → Calls Try.prog 16 #[] W fun e w' => e = .returned (.bool true) ∧ Below w.heap.size w w' := fun W hW => (awake1_calls W).mono fun e w' ⟨h1, h2⟩ => ⟨h1, bthen hW h2⟩
  have Hf := Lib.hid fin
  clear fin
  obtain ⟨i0, hi0⟩ := isByte_of info5
  have Hi := Lib.hid hi0
  clear hi0
  go_enter Try.func6, Try.ntmps6
  go_wp2_with fail
  go_loopw [5] (fun x wr => ∃ k X : Nat, k ≤ 4 ∧ x = .int .i64 (X : Int) ∧ Hid (X = 2 ^ k) ∧ X ≤ 16 ∧ 1 ≤ X ∧ Below w.heap.size w wr) (fun x _ => 16 - (intOf x).toNat)
  case atStart => exact ⟨0, 1, by omega, rfl, rfl, by omega, by omega, Below.refl _ _⟩
  case round =>
    obtain ⟨k, X, hk, rfl, HX, hx16, hx1, hbr⟩ := hrel
    by_cases h4 : k = 4
    · have hX : ¬ X ≤ 8 := by have := HX.out; rw [h4] at this; omega
      have Hb := Lib.hid hbr
      clear hbr h4
      go_wp2_with (go_at_call 16; refine (Hf.out _ Hb.out).mono ?_; rintro e w5 ⟨rfl, hb5⟩)
      go_ret
      exact ⟨rfl, hb5⟩
    · have hx8 : X ≤ 8 := by
        have e := HX.out
        have h2 : k = 0 ∨ k = 1 ∨ k = 2 ∨ k = 3 := by omega
        rcases h2 with rfl | rfl | rfl | rfl <;> omega
      have hw4 := pow_w4 k X (by omega) HX.out
      have hk1 : k + 1 ≤ 4 := by omega
      have HX2 : Hid (2 * X = 2 ^ (k + 1)) := by have := HX.out; show _ = _; rw [Nat.pow_succ]; omega
      by_cases hfit : 0 ≤ n ∧ n < lim X
      · obtain ⟨N, rfl⟩ : ∃ N : Nat, n = (N : Int) := ⟨n.toNat, by omega⟩
        have hp : putIn (N : Int) X = (enc N X, 0) := putIn_ok _ X hw4 hfit.1 hfit.2
        have hl1 := enc_length N X
        have hget := get_enc N X hw4 hfit.2 bh
        have hsh := shortest_enc N X hw4 hfit.2
        have hmin := len_min N X hw4 hfit.1 hfit.2
        obtain ⟨la, hla⟩ : ∃ x, x = enc N X := ⟨_, rfl⟩
        rw [← hla] at hp hl1 hget hsh
        have Hp := Lib.hid hp
        have hg : ∀ W B A c, ReadB W B A (la ++ bh) → la.length + bh.length ≤ c → c ≤ 9223372036854775807 → Calls Try.prog 21 #[.slice A (la.length + bh.length) c] W fun e w' => e = .returned (.tuple #[.int .i64 N, .int .i64 X, .int .i64 0]) ∧ W = w' := fun W B A c h1 h2 h3 => by
          have := get_calls (la ++ bh) A c B W h1 (by rw [List.length_append]; exact h2) h3
          rw [hget, List.length_append] at this
          exact this
        have Hg := Lib.hid hg
        have hl2 : la.length ≤ 8 := by omega
        have hl3 : ((la.length : Int) != (X : Int)) = false := by rw [bne_eq_false_iff_eq]; omega
        have hl4 : (la.length == X) = true := by rw [beq_iff_eq]; omega
        have Hl1 := Lib.hid hl1
        have Hb := Lib.hid hbr
        have Hfit := Lib.hid hfit
        have Hh := Lib.hid h
        clear hp hg hla hget hl1 hbr hfit h
        rcases Nat.lt_or_ge (len N) X with hlt | hge
        · rw [if_pos hlt] at hsh
          have Hs := Lib.hid hsh
          have hq : ((X : Int) == (len N : Int)) = false := by rw [beq_eq_false_iff_ne]; omega
          clear hsh hmin
          go_wp2_with (first
            | (go_at_call 19; go_must (refine (putIn_calls _ _ hn _).mono ?_); rw [Hp.out]; rintro e w1 ⟨v1, rfl, ho1, hb1⟩; obtain ⟨A1, c1, rfl, hlc1, hcm1, hr1, _⟩ := ho1.opens
               have hbw1 : Below w.heap.size w w1 := Hb.out.trans (hb1.mono Hb.out.size)
               have Ho1 := Lib.hid ho1
               clear ho1)
            | (at_builtin; refine wpList_appB _ rfl (.tmp 30) (.tmp 31) 25 rfl w1.heap.size 5 i0 Try.underlying25 Hi.out _ [] rfl (OwnB.lit0 w1 _ _ _ rfl (Nat.le_refl _)) w1.heap.size A1 la.length c1 la rfl rfl (hr1.below ((Below.refl _ _).alloc (Nat.le_refl _) _)) (by simp; omega) (by simp) ?_; intro v2 w2 hown2 hg2 hat2 hbw2)
            | (at_builtin; refine wpList_appB _ rfl (.tmp 32) (.tmp 33) 25 rfl w1.heap.size 5 i0 Try.underlying25 Hi.out v2 ([] ++ la) rfl hown2 w.heap.size A bh.length c bh rfl rfl (Hh.out.below (hbw1.trans (((Below.refl _ _).alloc hbw1.size _).trans (hbw2.mono hbw1.size)))) (by simp; omega) (Nat.le_trans (by simp) hbw2.size) ?_; intro v3 w3 hown3 hg3 hat3 hbw3; obtain ⟨A3, c3, rfl, hlc3, hcm3, hr3, _⟩ := hown3.opens)
            | (go_at_call 21; go_must (refine (Hg.out _ _ A3 c3 (by simpa using hr3) (by simpa using hlc3) hcm3).mono ?_); rintro e w4 ⟨rfl, rfl⟩
               have hb13 : Below w1.heap.size w1 w3 := (((Below.refl _ _).alloc (Nat.le_refl _) _).trans hbw2).trans hbw3)
            | (go_at_call 23; go_must (refine (shortest_calls la A1 c1 _ _ (hr1.below hb13) hlc1 hcm1).mono ?_); rw [Hs.out]; rintro e w5 ⟨rfl, hb5⟩)
            | (go_at_call 14; go_must (refine (len_calls _ hn _).mono ?_); rintro e w6 ⟨rfl, hb6⟩))
          all_goals
            refine ⟨⟨k + 1, 2 * X, hk1, by go_num, HX2, by omega, by omega, ?_⟩, by simp [intOf]; omega⟩
            exact bthen (bthen (hbw1.trans (hb13.mono hbw1.size)) hb5) hb6
        · have he : len N = X := by have := hmin.1; omega
          rw [if_neg (by omega)] at hsh
          have Hs := Lib.hid hsh
          have hq : ((X : Int) == (len N : Int)) = true := by rw [beq_iff_eq]; omega
          clear hsh hmin he
          go_wp2_with (first
            | (go_at_call 19; go_must (refine (putIn_calls _ _ hn _).mono ?_); rw [Hp.out]; rintro e w1 ⟨v1, rfl, ho1, hb1⟩; obtain ⟨A1, c1, rfl, hlc1, hcm1, hr1, _⟩ := ho1.opens
               have hbw1 : Below w.heap.size w w1 := Hb.out.trans (hb1.mono Hb.out.size)
               have Ho1 := Lib.hid ho1
               clear ho1)
            | (at_builtin; refine wpList_appB _ rfl (.tmp 30) (.tmp 31) 25 rfl w1.heap.size 5 i0 Try.underlying25 Hi.out _ [] rfl (OwnB.lit0 w1 _ _ _ rfl (Nat.le_refl _)) w1.heap.size A1 la.length c1 la rfl rfl (hr1.below ((Below.refl _ _).alloc (Nat.le_refl _) _)) (by simp; omega) (by simp) ?_; intro v2 w2 hown2 hg2 hat2 hbw2)
            | (at_builtin; refine wpList_appB _ rfl (.tmp 32) (.tmp 33) 25 rfl w1.heap.size 5 i0 Try.underlying25 Hi.out v2 ([] ++ la) rfl hown2 w.heap.size A bh.length c bh rfl rfl (Hh.out.below (hbw1.trans (((Below.refl _ _).alloc hbw1.size _).trans (hbw2.mono hbw1.size)))) (by simp; omega) (Nat.le_trans (by simp) hbw2.size) ?_; intro v3 w3 hown3 hg3 hat3 hbw3; obtain ⟨A3, c3, rfl, hlc3, hcm3, hr3, _⟩ := hown3.opens)
            | (go_at_call 21; go_must (refine (Hg.out _ _ A3 c3 (by simpa using hr3) (by simpa using hlc3) hcm3).mono ?_); rintro e w4 ⟨rfl, rfl⟩
               have hb13 : Below w1.heap.size w1 w3 := (((Below.refl _ _).alloc (Nat.le_refl _) _).trans hbw2).trans hbw3)
            | (go_at_call 23; go_must (refine (shortest_calls la A1 c1 _ _ (hr1.below hb13) hlc1 hcm1).mono ?_); rw [Hs.out]; rintro e w5 ⟨rfl, hb5⟩)
            | (go_at_call 14; go_must (refine (len_calls _ hn _).mono ?_); rintro e w6 ⟨rfl, hb6⟩))
          all_goals
            refine ⟨⟨k + 1, 2 * X, hk1, by go_num, HX2, by omega, by omega, ?_⟩, by simp [intOf]; omega⟩
            exact bthen (bthen (hbw1.trans (hb13.mono hbw1.size)) hb5) hb6
      · have hp : putIn n X = ([], 13) := by
          unfold putIn
          rw [if_neg (by rw [Classical.not_not]; unfold W4 at hw4; omega), if_pos (by simp; omega)]
        have Hp := Lib.hid hp
        have Hb := Lib.hid hbr
        clear hp hbr
        go_wp2_with fail
        refine (putIn_calls _ _ hn _).mono ?_
        rw [Hp.out]
        rintro e w1 ⟨v1, rfl, ho1, hb1⟩
        obtain ⟨A1, c1, rfl, hlc1, hcm1, hr1, _⟩ := ho1.opens
        go_wp2_with fail
        all_goals
          refine ⟨⟨k + 1, 2 * X, hk1, by go_num, HX2, by omega, by omega, ?_⟩, by simp [intOf]; omega⟩
          exact Hb.out.trans (hb1.mono Hb.out.size)
end Vi
end Go.Proofs.Ytldhplanpnddbaa
