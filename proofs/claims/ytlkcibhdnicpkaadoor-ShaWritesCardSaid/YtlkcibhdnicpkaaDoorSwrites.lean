/- Bytes that are written in any pieces have, behind each one, the sum of all that was written: the walk of the statement. -/
import Derived.Test.YtlkcibhdnicpkaaDoorSforks
namespace Go.Proofs.YtlkcibhdnicpkaaDoor
namespace Sk
open Go.RowKit Ba Sm Hx
set_option linter.unusedVariables false
/-- the sum of one part -/
theorem of1_calls (a : List UInt8) (A1 : Option Addr) (c1 B : Nat) (W : World) (hB : B ≤ W.heap.size) (htab : Tab W) (h1 : ReadB W B A1 a) (l1 : a.length ≤ c1) (m1 : c1 ≤ 9223372036854775807) (s1 : a.length ≤ 140737488351232) :
    Calls Tryd.prog 14 #[.slice (some ⟨W.heap.size, 0, none⟩) 1 1] (W.alloc (.cells #[.slice A1 a.length c1] 22)) fun e w' => e = .returned (.agg (bvs (sha a)).toArray) ∧ Below W.heap.size W w' := by
  have hbb : ReadBB (W.alloc (.cells #[.slice A1 a.length c1] 22)) (W.heap.size + 1) (some ⟨W.heap.size, 0, none⟩) [a] :=
    ReadBB.lit1 W 22 A1 _ c1 a B W.heap.size rfl hB rfl h1 l1 m1
  refine (of_calls [a] (some ⟨W.heap.size, 0, none⟩) 1 _ (by simpa using hbb) (htab.below ((Below.refl _ _).alloc (Nat.le_refl _) _)) (by simp) (by omega) (by intro p hp; simp at hp; rcases hp with rfl; omega) (by simp; omega)).mono ?_
  rintro e w' ⟨h, hb⟩
  refine ⟨by simpa using h, ((Below.refl _ _).alloc (Nat.le_refl _) _).trans (hb.mono (by simp))⟩
set_option maxRecDepth 100000 in
set_option maxHeartbeats 2000000 in
theorem shaWrites_calls (ps : List (List UInt8)) (A : Option Addr) (c : Nat) (hpc : ps.length ≤ c) (hcm : c ≤ 9223372036854775807) (w : World) (htab : Tab w) (h : ReadBB w w.heap.size A ps) :
    Calls Tryd.prog 4 #[.slice A ps.length c] w fun e w' => e = .returned (.bool true) ∧ Below w.heap.size w w' := by
  have hw := awake_calls
  have Hw := Lib.hid hw
  have Hh := Lib.hid h
  have Htab := Lib.hid htab
  obtain ⟨i0, hi0⟩ := isByte_of info5
  have Hi := Lib.hid hi0
  clear hw h htab hi0
  by_cases h60 : 60 < ps.length
  · go_enter Tryd.func4, Tryd.ntmps4
    go_wp2_with (go_at_call 13; refine (Hw.out _ Htab.out).mono ?_; rintro e w5 ⟨rfl, hb5⟩)
    go_ret
    exact ⟨rfl, hb5⟩
  · go_enter Tryd.func4, Tryd.ntmps4
    go_wp2_with fail
    refine (new_calls w).mono ?_
    rintro e w1 ⟨g, rfl, hg, hI, hb⟩
    have HI1 := Lib.hid hI
    have Hb1 := Lib.hid hb
    have Hgw := Lib.hid hg
    have Hg0 : Hid (0 < g) := Lib.hid (Nat.lt_of_lt_of_le Htab.out.1 hg)
    have HL1 : Hid (∃ lo, IsGL w1 g (st []) (rs []) ([] : List UInt8).length lo ∧ ∀ a, (Value.slice none 0 0).ownBlock = some a → a < lo) := Lib.hid (by
      obtain ⟨A, c, h1, h2, h3, h4, h5⟩ := hI
      refine ⟨0, ⟨A, c, h1, h2, h3, h4, h5, fun _ _ => Nat.zero_le _⟩, fun a ha => by simp [Value.ownBlock] at ha⟩)
    clear hI hb hg
    go_wp2_with fail
    go_loopw [4, 5] (fun v i wr => ∃ (k : Nat) (l : List UInt8), k ≤ ps.length ∧ l.length ≤ 2000 + 2000 ∧ i = .int .i64 k ∧ OwnB wr (g + 1) 5 v l ∧ (∃ lo, IsGL wr g (st l) (rs l) l.length lo ∧ ∀ a, v.ownBlock = some a → a < lo) ∧ Below w.heap.size w wr) (fun _ i _ => ps.length - (intOf i).toNat)
    case atStart => exact ⟨0, [], Nat.zero_le _, by simp, rfl, OwnB.nil, HL1.out, Hb1.out⟩
    case round =>
      obtain ⟨k, l, hk, hll, rfl, ho, ⟨lo, hI, hlo⟩, hb⟩ := hrel
      obtain ⟨Al, cl, rfl, u1, u2, u3, u4⟩ := ho.opens
      have Hu3 := Lib.hid u3
      have Hlo := Lib.hid hlo
      have HI := Lib.hid hI
      have Hb := Lib.hid hb
      have Ho := Lib.hid ho
      clear u3 u4 hI hb ho hlo
      by_cases hkl : k < ps.length
      · obtain ⟨b, o, rfl, hbb, hc⟩ := Hh.out (by omega)
        obtain ⟨Ak, ck, q1, q2, q3, q4⟩ := hc k hkl
        have hq1 := (Hb.out.cell (p := ⟨b, o + k, none⟩) hbb).trans q1
        generalize ps.getD k [] = pk at *
        have Hq1 := Lib.hid q1
        have Hq4 := Lib.hid q4
        have Hhb := Lib.hid hbb
        clear q4 hc q1 hbb
        by_cases hbig : 2000 < pk.length ∨ 2000 < l.length
        · by_cases x0 : 2000 < pk.length <;> by_cases x1 : 2000 < l.length
          all_goals first | (exfalso; omega) | skip
          all_goals
            clear hbig
            go_wp2_with (go_at_call 13; refine (Hw.out _ (Htab.out.below Hb.out)).mono ?_; rintro e w5 ⟨rfl, hb5⟩)
            go_ret
            exact ⟨rfl, bthen Hb.out hb5⟩
        · have x0 : ¬ 2000 < pk.length := by omega
          have x1 : ¬ 2000 < l.length := by omega
          clear hbig
          have hgl := (HI.out.g).lt
          have Hgl := Lib.hid hgl
          clear hgl
          go_wp2_with ((at_builtin; go_loud (refine wpList_appB _ rfl (.tmp 29) (.tmp 33) 22 rfl (g + 1) 5 i0 Tryd.underlying22 Hi.out _ l rfl Ho.out w.heap.size Ak _ ck pk rfl rfl (Hq4.out.below Hb.out) (by omega) (by have := Hgl.out; omega) ?_); intro v3 w3 ho3 hg3 hv3 hb3; obtain ⟨A3, c3, rfl, y1, y2, y3, y4⟩ := ho3.opens; have Ho3 := Lib.hid ho3; have HI3 := Lib.hid (HI.out.rowed hg3 (fun a ha => ⟨by have := Ho.out.ge a ha; omega, Hlo.out a ha⟩)); have Hb3 := Lib.hid (Hb.out.trans (hb3.mono (by have := Hgw.out; omega))); have Hy3 := Lib.hid y3; have Hv3 := Lib.hid hv3; have hq3 := (Hb3.out.cell (p := ⟨b, o + k, none⟩) Hhb.out).trans Hq1.out; clear ho3 hg3 hb3 y3 y4 hv3))
          refine (writeL_calls w3 g w.heap.size l pk Ak ck HI3.out.g Hg0.out (Htab.out.below Hb3.out) (Hq4.out.below Hb3.out) Hgw.out q2 q3 (by omega) (by omega)).mono ?_
          rintro e w4 ⟨rfl, hI, hg⟩
          obtain ⟨m, hm⟩ : ∃ m, m = l ++ pk := ⟨_, rfl⟩
          rw [← hm] at hI
          have hml : m.length = l.length + pk.length := by rw [hm, List.length_append]
          have ho4 := Ho3.out.grown hg (.inr (fun e => by have := Ho3.out.ge g e; omega))
          have hlo4 : ∀ a, (Value.slice A3 (l ++ pk).length c3).ownBlock = some a → a < w3.heap.size := fun a ha => (World.ownsRow.lt Ho3.out a ha).2
          rw [← hm] at ho4 hlo4
          have Hb4 := Lib.hid (Hb3.out.trans (below_of_only hg Hgw.out Hb3.out.size))
          have HI4 := Lib.hid hI
          have Ho4 := Lib.hid ho4
          have Hlo4 := Lib.hid hlo4
          obtain ⟨A4, c4, hv4, z1, z2, z3, z4⟩ := ho4.opens
          have Hz3 := Lib.hid z3
          have Hm := Lib.hid hm
          have Hml := Lib.hid hml
          injection hv4 with e1 e2 e3
          subst e1 e3
          rw [show l.length + pk.length = m.length from hml.symm]
          have hh := hash_len m
          obtain ⟨H, hH⟩ : ∃ H, H = sha m := ⟨_, rfl⟩
          rw [← hH] at hh
          have e0 : ∀ w', (binOp .neq 26 (.agg (bvs H).toArray) (.agg (bvs H).toArray)).run Tryd.prog w' = .ok (.bool false) w' := fun w' => by rw [run_neB H H hh hh w', beq_self_eq_true]; rfl
          have HH := Lib.hid hH
          have hm4 : m.length ≤ 4000 := by omega
          clear hI hg ho4 hlo4 z3 z4 hm hml hH hh hq3 hq1 x0 x1 e2 y1 y2
          go_wp2_with fail
          refine (sum_calls w4 g m HI4.out.g Hg0.out (Htab.out.below Hb4.out) (by omega)).mono ?_
          rw [← HH.out]
          rintro e w5 ⟨rfl, hb⟩
          have Hb5 := Lib.hid (bthen Hb4.out hb)
          have HI5 := Lib.hid (HI4.out.below hb)
          have Ho5 := Lib.hid (Ho4.out.keptB hb)
          have Hz5 := Lib.hid ((Hz3.out.below hb).more hb.size)
          clear hb
          go_wp2_with fail
          refine (of1_calls m A3 c3 w5.heap.size w5 (Nat.le_refl _) (Htab.out.below Hb5.out) Hz5.out z1 z2 (by omega)).mono ?_
          rw [← HH.out]
          rintro e w6 ⟨rfl, hb⟩
          have Hb6 := Lib.hid (bthen Hb5.out hb)
          have HI6 := Lib.hid (HI5.out.below hb)
          have Ho6 := Lib.hid (Ho5.out.keptB hb)
          have Hz6 := Lib.hid ((Hz5.out.below hb).more hb.size)
          clear hb
          go_wp2_with fail
          refine (sum_calls w6 g m HI6.out.g Hg0.out (Htab.out.below Hb6.out) (by omega)).mono ?_
          rw [← HH.out]
          rintro e w7 ⟨rfl, hb⟩
          have Hb7 := Lib.hid (bthen Hb6.out hb)
          have HI7 := Lib.hid (HI6.out.below hb)
          have Ho7 := Lib.hid (Ho6.out.keptB hb)
          have Hz7 := Lib.hid ((Hz6.out.below hb).more hb.size)
          clear hb
          go_wp2_with fail
          refine (of1_calls m A3 c3 w7.heap.size w7 (Nat.le_refl _) (Htab.out.below Hb7.out) Hz7.out z1 z2 (by omega)).mono ?_
          rw [← HH.out]
          rintro e w8 ⟨rfl, hb⟩
          have Hb8 := Lib.hid (bthen Hb7.out hb)
          have HI8 := Lib.hid (HI7.out.below hb)
          have Ho8 := Lib.hid (Ho7.out.keptB hb)
          clear hb
          go_wp2_with fail
          refine (len_calls w8 g m HI8.out.g).mono ?_
          rintro e w9 ⟨rfl, rfl⟩
          go_wp2
          go_roundw
          case rel => exact ⟨k + 1, m, by omega, by omega, by go_num, Ho8.out, ⟨_, HI8.out, Hlo4.out⟩, Hb8.out⟩
          case measure => simp [intOf]; omega
      · go_wp2_with (go_at_call 13; refine (Hw.out _ (Htab.out.below Hb.out)).mono ?_; rintro e w5 ⟨rfl, hb5⟩)
        go_ret
        exact ⟨rfl, bthen Hb.out hb5⟩
end Sk
end Go.Proofs.YtlkcibhdnicpkaaDoor
