/- The walk of the statement that any numbers and texts have the bytes that the document says. -/
import Derived.Test.YtldhplanpnddbaaFlaws
import Derived.Test.YtldhplanpnddbaaSlc
import Derived.Test.YtldhplanpnddbaaCanM
import Derived.Test.YtldhplanpnddbaaAcc
namespace Go.Proofs.Ytldhplanpnddbaa
namespace Fl
open Go.RowKit Ba Vm Fm Vi
set_option linter.unusedVariables false

theorem info25 : (Try.prog.info? 25).map (fun i => (i.zero, i.size, i.bytes)) = some (some (.slice none 0 0), 1, 24) := by kernel_rfl
theorem sum_texts (ts : List (List UInt8)) (h : ∀ j, j < ts.length → (ts.getD j []).length ≤ 1000) : Fi.sumLen (ts.map Fm.text) ≤ ts.length * 1008 := by
  induction ts with
  | nil => simp [Fi.sumLen]
  | cons a l ih =>
    have h0 := h 0 (by simp)
    have h1 := ih fun j hj => by have := h (j + 1) (by simpa using hj); simpa [List.getD] using this
    have h2 := num_len a.length
    simp only [List.map_cons, Fi.sumLen, List.length_cons, Fm.text, List.length_append]
    simp [List.getD] at h0
    omega
theorem map_take (ts : List (List UInt8)) (k : Nat) (h : k < ts.length) : (ts.take (k + 1)).map Fm.text = (ts.take k).map Fm.text ++ [Fm.text (ts.getD k [])] := by
  rw [List.take_succ_eq_append_getElem h, List.map_append]
  simp [List.getD, h]
theorem strof_inn (W : World) (B : Nat) (A : Option Addr) (c : Nat) (l : List UInt8) (h : ReadB W B A l) : (convert 25 9 (.slice A l.length c)).run Try.prog W = .ok (.string (S l)) W :=
  run_strof W 25 5 Try.underlying25 Try.underlying5 A c B l h 9 Try.underlying9
theorem text_le2 (r : List UInt8) : (Fm.text r).length ≤ r.length + 8 := by
  have := num_len r.length
  unfold Fm.text
  rw [List.length_append]; omega

set_option maxHeartbeats 6400000 in
theorem lays_calls (n : Int) (hn : n ≤ 9223372036854775807) (ts : List (List UInt8)) (A : Option Addr) (c : Nat) (hlc : ts.length ≤ c) (hcm : c ≤ 9223372036854775807) (hts : ∀ r ∈ ts, r.length ≤ 9223372036854775807) (w : World) (hr : ReadS w w.heap.size A ts) :
    Calls Try.prog 9 #[.int .i64 n, .slice A ts.length c] w fun e w' => e = .returned (.bool true) ∧ Below w.heap.size w w' := by
  have fin : ∀ W, Below w.heap.size w W → Calls Try.prog 25 #[] W fun e w' => e = .returned (.bool true) ∧ Below w.heap.size w w' := fun W hW => (awake2_calls W).mono fun e w' ⟨h1, h2⟩ => ⟨h1, bthen hW h2⟩
  have Hf := Lib.hid fin
  have Hr := Lib.hid hr
  have Hts := Lib.hid hts
  obtain ⟨i25, q1, q2, q3, q4⟩ := info_parts info25
  have Hi := Lib.hid (And.intro q1 (And.intro q2 (And.intro q3 q4)))
  clear fin hr hts q1 q2 q3 q4
  by_cases hs : 60 < ts.length
  · go_enter Try.func9, Try.ntmps9
    go_wp2_with (go_at_call 25; refine (Hf.out _ (Below.refl _ _)).mono ?_; rintro e w5 ⟨rfl, hb5⟩)
    go_ret
    exact ⟨rfl, hb5⟩
  · go_enter Try.func9, Try.ntmps9
    go_wp2_with fail
    go_loopw [5, 6, 7] (fun a b i wr => ∃ (k : Nat) (va vb : Value), k ≤ ts.length ∧ i = .int .i64 k ∧ va = a ∧ vb = b ∧ AccB wr w.heap.size 25 va vb.ownBlock ((ts.take k).map Fm.text) ∧ AccB wr w.heap.size 25 vb va.ownBlock ((ts.take k).map Fm.text) ∧ Below w.heap.size w wr ∧ ∀ j, j < k → (ts.getD j []).length ≤ 1000) (fun _ _ i _ => ts.length - (intOf i).toNat)
    case atStart => exact ⟨0, _, _, Nat.zero_le _, rfl, rfl, rfl, AccB.nil, AccB.nil, Below.refl _ _, by omega⟩
    case round =>
      obtain ⟨k, va, vb, hk, rfl, rfl, rfl, ha, hb, hB, hall⟩ := hrel
      by_cases hkl : k < ts.length
      · have HB := Lib.hid hB
        obtain ⟨b, o, rfl, hbl, hc⟩ := Hr.out (by omega)
        have hc0 := hc k hkl
        have Hbl := Lib.hid hbl
        have hq := (hB.cell (p := ⟨b, o + k, none⟩) hbl).trans hc0
        have Hc0 := Lib.hid hc0
        have hmt := map_take ts k hkl
        have hmx : (ts.getD k []).length ≤ 9223372036854775807 := Hts.out _ (by simp [List.getD, hkl])
        have Hext := Lib.hid (fun (h : (ts.getD k []).length ≤ 1000) (j : Nat) (hj : j < k + 1) => show (ts.getD j []).length ≤ 1000 from by
          rcases Nat.lt_or_ge j k with h1 | h1
          · exact hall j h1
          · rw [show j = k by omega]; exact h)
        obtain ⟨r, hrr⟩ : ∃ r, r = ts.getD k [] := ⟨_, rfl⟩
        rw [← hrr] at hq Hc0 hmt hmx Hext
        have Hmt := Lib.hid hmt
        have Ha := Lib.hid ha
        have Hb := Lib.hid hb
        clear hc hc0 hbl hmt hall hrr ha hb hB
        by_cases hrs : r.length ≤ 1000
        · have hTl := text_le2 r
          obtain ⟨T, hT⟩ : ∃ T, T = Fm.text r := ⟨_, rfl⟩
          rw [← hT] at hTl
          have HT := Lib.hid hT
          clear hT
          go_wp2_with fail
          refine CanM.region (fun w' => w'.cell? ⟨b, o + k, none⟩ = some (.string (S r))) 1000 [(0, 2), (1, 2), (2, 2), (3, 2), (4, 1), (8, 2), (9, 2), (10, 2), (11, 2), (12, 1), (5, 0), (6, 0), (7, 0), (13, 0), (14, 0), (15, 0), (16, 2), (17, 2)] (by kernel_rfl) (by kernel_rfl) hq ?_
          have HBd := Lib.hid (HB.out.drew)
          have Had : Hid (AccB wr.drew w.heap.size 25 va vb.ownBlock ((ts.take k).map Fm.text)) := Ha.out
          have Hbd : Hid (AccB wr.drew w.heap.size 25 vb va.ownBlock ((ts.take k).map Fm.text)) := Hb.out
          generalize wr.drew = W at *
          clear hq HB Ha Hb
          repeat (first | (refine CanM.skip rfl ?_ (fun K hK => ?_); (focus (go_simp; done)); go_simp; refine hK _ ?_; clear hK K) | (refine CanM.pur rfl ?_ ?_; (focus (go_simp; done)); refine ⟨?_, ?_, ?_⟩; rotate_left; (focus (intro w'; go_simp; rfl)); (focus (intro K hK; go_simp; refine hK _ ?_; clear hK K))) | (refine CanM.held rfl ?_ ?_; (focus (go_simp; done)); refine ⟨?_, ?_, ?_⟩; rotate_left; (focus (intro w' hS'; (try dsimp only at hS'); go_simp; rfl)); (focus (intro K hK; go_simp; refine hK _ ?_; clear hK K))) | (refine CanM.last rfl (fun K hK => ?_); go_simp; refine hK.out _ _ ?_; clear hK K))
          refine CanM.imp rfl (fun K hK => ?_)
          go_simp
          refine (Fi.text_calls r (by omega) _).mono ?_
          rw [← HT.out]
          rintro e w1 ⟨v1, rfl, ho1, hb1⟩
          obtain ⟨A1, c1, rfl, hl1, hm1, k1, hlo1⟩ := ho1.opens
          have HB1 := Lib.hid (bthen HBd.out hb1)
          have Ha1 := Lib.hid (Had.out.below hb1)
          have Hb1 := Lib.hid (Hbd.out.below hb1)
          have hla := Had.out.lt
          have hlb := Hbd.out.lt
          have X1 : Hid (ReadX w1 A1 T (fun q => some q ≠ va.ownBlock ∧ some q ≠ vb.ownBlock)) := fun hp => by
            obtain ⟨q, oq, rfl, hq1, hq2⟩ := k1 hp
            have := hlo1 _ rfl
            exact ⟨q, oq, rfl, ⟨fun e => (by have := (hla q e.symm).2; simp at *; omega), fun e => (by have := (hlb q e.symm).2; simp at *; omega)⟩, hq1, hq2⟩
          have hq1 := (HB1.out.cell (p := ⟨b, o + k, none⟩) Hbl.out).trans Hc0.out
          clear ho1 k1 hlo1 hla hlb hb1
          go_simp
          refine hK.out _ _ hq1 ?_
          clear hK K hq1
          have hbw : Below w1.heap.size w1 (w1.alloc (.cells #[.slice A1 T.length c1] 25)) := (Below.refl _ _).alloc (Nat.le_refl _) _
          have HB2 := Lib.hid (bthen HB1.out hbw)
          have Ha2 := Lib.hid (Ha1.out.below hbw)
          have Hb2 := Lib.hid (Hb1.out.below hbw)
          have X2 := Lib.hid (X1.out.grown (only_of_below hbw none) (by simp) (fun _ _ h => h))
          have hx2 := Lib.hid (cell_of_row _ w1.heap.size 0 #[.slice A1 T.length c1] 25 (0, 0) (heap_alloc_new w1 _))
          have hs2 : w1.heap.size < (w1.alloc (.cells #[.slice A1 T.length c1] 25)).heap.size := by simp
          have hq2 := (HB2.out.cell (p := ⟨b, o + k, none⟩) Hbl.out).trans Hc0.out
          refine CanM.imp rfl (fun K hK => ?_)
          go_simp
          refine hK.out _ _ hq2 ?_
          clear hK K hq2 hbw
          generalize (w1.alloc (.cells #[.slice A1 T.length c1] 25)) = w2 at *
          obtain ⟨va', w3, hrun, hA3, hg3, hn3⟩ := AccB.append (P := Try.prog) Ha2.out 42 42 i25 Try.underlying42 Hi.out.1 Hi.out.2.1 Hi.out.2.2.1 Hi.out.2.2.2 T A1 c1 w2.heap.size ⟨w1.heap.size, 0, none⟩ 1 hs2 (Nat.le_refl _) hx2.out hl1 hm1 X2.out (fun k hk => (Hb2.out.lt k hk).2) (by simp; omega) HB2.out.size
          have Ha3 := Lib.hid hA3
          have Hb3 := Lib.hid (Hb2.out.other hg3 hn3)
          have HB3 := Lib.hid (HB2.out.trans ((Below.refl w.heap.size w2).grown hg3 HB2.out.size (fun j hj => (Ha2.out.lt j hj).1)))
          have hq3 := (HB3.out.cell (p := ⟨b, o + k, none⟩) Hbl.out).trans Hc0.out
          clear hA3 hg3 hn3
          refine CanM.imp rfl (fun K hK => ?_)
          rw [if_pos (by rfl)]
          refine Lib.wp_append_run _ (.tmp 25) (.tmp 31) 42 42 rfl _ _ rfl rfl _ _ hrun ?_
          go_simp
          refine hK.out _ _ hq3 ?_
          clear hK K hq3 hrun
          refine CanM.imp rfl (fun K hK => ?_)
          go_simp
          refine (Fr.text_calls r (by omega) _).mono ?_
          rw [← HT.out]
          rintro e w4 ⟨v4, rfl, ho4, hb4⟩
          obtain ⟨A4, c4, rfl, hl4, hm4, k4, hlo4⟩ := ho4.opens
          have HB4 := Lib.hid (bthen HB3.out hb4)
          have Ha4 := Lib.hid (Ha3.out.below hb4)
          have Hb4 := Lib.hid (Hb3.out.below hb4)
          have hla := Ha3.out.lt
          have hlb := Hb3.out.lt
          have X4 : Hid (ReadX w4 A4 T (fun q => some q ≠ vb.ownBlock ∧ some q ≠ va'.ownBlock)) := fun hp => by
            obtain ⟨q, oq, rfl, hq1, hq2⟩ := k4 hp
            have := hlo4 _ rfl
            exact ⟨q, oq, rfl, ⟨fun e => (by have := (hlb q e.symm).2; simp at *; omega), fun e => (by have := (hla q e.symm).2; simp at *; omega)⟩, hq1, hq2⟩
          have hq4 := (HB4.out.cell (p := ⟨b, o + k, none⟩) Hbl.out).trans Hc0.out
          clear ho4 k4 hlo4 hla hlb hb4
          go_simp
          refine hK.out _ _ hq4 ?_
          clear hK K hq4
          have hbw : Below w4.heap.size w4 (w4.alloc (.cells #[.slice A4 T.length c4] 25)) := (Below.refl _ _).alloc (Nat.le_refl _) _
          have HB5 := Lib.hid (bthen HB4.out hbw)
          have Ha5 := Lib.hid (Ha4.out.below hbw)
          have Hb5 := Lib.hid (Hb4.out.below hbw)
          have X5 := Lib.hid (X4.out.grown (only_of_below hbw none) (by simp) (fun _ _ h => h))
          have hx5 := Lib.hid (cell_of_row _ w4.heap.size 0 #[.slice A4 T.length c4] 25 (0, 0) (heap_alloc_new w4 _))
          have hs5 : w4.heap.size < (w4.alloc (.cells #[.slice A4 T.length c4] 25)).heap.size := by simp
          have hq5 := (HB5.out.cell (p := ⟨b, o + k, none⟩) Hbl.out).trans Hc0.out
          refine CanM.imp rfl (fun K hK => ?_)
          go_simp
          refine hK.out _ _ hq5 ?_
          clear hK K hq5 hbw
          generalize (w4.alloc (.cells #[.slice A4 T.length c4] 25)) = w5 at *
          obtain ⟨vb', w6, hrun, hA6, hg6, hn6⟩ := AccB.append (P := Try.prog) Hb5.out 42 42 i25 Try.underlying42 Hi.out.1 Hi.out.2.1 Hi.out.2.2.1 Hi.out.2.2.2 T A4 c4 w5.heap.size ⟨w4.heap.size, 0, none⟩ 1 hs5 (Nat.le_refl _) hx5.out hl4 hm4 X5.out (fun k hk => (Ha5.out.lt k hk).2) (by simp; omega) HB5.out.size
          have Hb6 := Lib.hid hA6
          have Ha6 := Lib.hid (Ha5.out.other hg6 hn6)
          have HB6 := Lib.hid (HB5.out.trans ((Below.refl w.heap.size w5).grown hg6 HB5.out.size (fun j hj => (Hb5.out.lt j hj).1)))
          have hq6 := (HB6.out.cell (p := ⟨b, o + k, none⟩) Hbl.out).trans Hc0.out
          clear hA6 hg6 hn6
          refine CanM.imp rfl (fun K hK => ?_)
          rw [if_pos (by rfl)]
          refine Lib.wp_append_run _ (.tmp 33) (.tmp 39) 42 42 rfl _ _ rfl rfl _ _ hrun ?_
          go_simp
          refine hK.out _ _ hq6 ?_
          clear hK K hq6 hrun
          repeat (first | (refine CanM.skip rfl ?_ (fun K hK => ?_); (focus (go_simp; done)); go_simp; refine hK _ ?_; clear hK K) | (refine CanM.pur rfl ?_ ?_; (focus (go_simp; done)); refine ⟨?_, ?_, ?_⟩; rotate_left; (focus (intro w'; go_simp; rfl)); (focus (intro K hK; go_simp; refine hK _ ?_; clear hK K))) | (refine CanM.held rfl ?_ ?_; (focus (go_simp; done)); refine ⟨?_, ?_, ?_⟩; rotate_left; (focus (intro w' hS'; (try dsimp only at hS'); go_simp; rfl)); (focus (intro K hK; go_simp; refine hK _ ?_; clear hK K))) | (refine CanM.last rfl (fun K hK => ?_); go_simp; refine hK.out _ _ ?_; clear hK K))
          refine CanM.done ?_
          go_wp2
          all_goals
            exact ⟨⟨k + 1, _, _, by omega, by go_num, rfl, rfl, by rw [Hmt.out, ← HT.out]; exact Ha6.out, by rw [Hmt.out, ← HT.out]; exact Hb6.out, HB6.out, Hext.out hrs⟩, by simp [intOf]; omega⟩
        · go_wp2_with (go_at_call 25; refine (Hf.out _ HB.out).mono ?_; rintro e w5 ⟨rfl, hb5⟩)
          go_ret
          exact ⟨rfl, hb5⟩
      · have hke : k = ts.length := by omega
        subst hke
        rw [List.take_length] at ha hb
        have hsum := sum_texts ts hall
        obtain ⟨Aa, ca, rfl, hra⟩ := ha.opens
        obtain ⟨Ab, cb, rfl, hrb⟩ := hb.opens
        have hlm : (ts.map Fm.text).length = ts.length := List.length_map ..
        obtain ⟨PS, hPS⟩ : ∃ x, x = ts.map Fm.text := ⟨_, rfl⟩
        rw [← hPS] at hsum hra hrb hlm
        rw [← hPS]
        obtain ⟨N, hN⟩ : ∃ x, x = Fm.num n := ⟨_, rfl⟩
        obtain ⟨J, hJ⟩ : ∃ x, x = PS.flatten := ⟨_, rfl⟩
        have Hlm := Lib.hid hlm
        clear hlm
        have HN := Lib.hid hN
        have HJ := Lib.hid hJ
        have HB0 := Lib.hid (hB.drew)
        have Hra0 : Hid (ReadBB wr.drew wr.drew.heap.size Aa PS) := hra
        have Hrb0 : Hid (ReadBB wr.drew wr.drew.heap.size Ab PS) := hrb
        clear ha hb hra hrb hall hN hJ hPS hB
        go_wp2_with fail
        refine CanM.region (fun _ => True) 1000 [(0, 2), (3, 2), (1, 0), (2, 1), (4, 0), (5, 1), (6, 2), (7, 2), (8, 2), (11, 2), (9, 0), (10, 1), (12, 0), (13, 1), (14, 2), (15, 2), (16, 2), (17, 0), (18, 2), (19, 2)] (by kernel_rfl) (by kernel_rfl) trivial ?_
        generalize wr.drew = W at *
        repeat (first | (refine CanM.skip rfl ?_ (fun K hK => ?_); (focus (go_simp; done)); go_simp; refine hK _ ?_; clear hK K) | (refine CanM.pur rfl ?_ ?_; (focus (go_simp; done)); refine ⟨?_, ?_, ?_⟩; rotate_left; (focus (intro w'; go_simp; rfl)); (focus (intro K hK; go_simp; refine hK _ ?_; clear hK K))) | (refine CanM.held rfl ?_ ?_; (focus (go_simp; done)); refine ⟨?_, ?_, ?_⟩; rotate_left; (focus (intro w' hS'; (try dsimp only at hS'); go_simp; rfl)); (focus (intro K hK; go_simp; refine hK _ ?_; clear hK K))) | (refine CanM.last rfl (fun K hK => ?_); go_simp; refine hK.out _ _ ?_; clear hK K))
        refine CanM.impF rfl (fun K hK => ?_)
        go_simp
        refine (Fi.num_calls n hn _).mono ?_
        rw [← HN.out]
        rintro e w1 ⟨v1, rfl, ho1, hb1⟩
        obtain ⟨A1, c1, rfl, hl1, hm1, k1, _⟩ := ho1.opens
        have HB1 := Lib.hid (bthen HB0.out hb1)
        have Hra1 := Lib.hid ((Hra0.out.below hb1).more hb1.size)
        have Hrb1 := Lib.hid ((Hrb0.out.below hb1).more hb1.size)
        have R1 := Lib.hid k1
        clear ho1 k1 hb1
        go_simp
        refine hK.out (fun w' => True ∧ (convert 25 9 (.slice A1 N.length c1)).run Try.prog w' = .ok (.string (S N)) w') _ _ (fun _ h => trivial) ⟨trivial, strof_inn w1 _ A1 c1 _ R1.out⟩ ?_
        clear hK K
        repeat (first | (refine CanM.skip rfl ?_ (fun K hK => ?_); (focus (go_simp; done)); go_simp; refine hK _ ?_; clear hK K) | (refine CanM.pur rfl ?_ ?_; (focus (go_simp; done)); refine ⟨?_, ?_, ?_⟩; rotate_left; (focus (intro w'; go_simp; rfl)); (focus (intro K hK; go_simp; refine hK _ ?_; clear hK K))) | (refine CanM.held rfl ?_ ?_; (focus (go_simp; done)); refine ⟨?_, ?_, ?_⟩; rotate_left; (focus (intro w' hS'; (try dsimp only at hS'); go_simp; rfl)); (focus (intro K hK; go_simp; refine hK _ ?_; clear hK K))) | (refine CanM.last rfl (fun K hK => ?_); go_simp; refine hK.out _ _ ?_; clear hK K))
        refine CanM.impF rfl (fun K hK => ?_)
        go_simp
        refine (Fr.num_calls n hn _).mono ?_
        rw [← HN.out]
        rintro e w2 ⟨v2, rfl, ho2, hb2⟩
        obtain ⟨A2, c2, rfl, hl2, hm2, k2, _⟩ := ho2.opens
        have HB2 := Lib.hid (bthen HB1.out hb2)
        have Hra2 := Lib.hid ((Hra1.out.below hb2).more hb2.size)
        have Hrb2 := Lib.hid ((Hrb1.out.below hb2).more hb2.size)
        have R1 := Lib.hid ((R1.out.below hb2).more hb2.size)
        have R2 := Lib.hid k2
        clear ho2 k2 hb2
        go_simp
        refine hK.out (fun w' => True ∧ (convert 25 9 (.slice A1 N.length c1)).run Try.prog w' = .ok (.string (S N)) w' ∧ (convert 25 9 (.slice A2 N.length c2)).run Try.prog w' = .ok (.string (S N)) w') _ _ (fun _ h => ⟨h.1, h.2.1⟩) ⟨trivial, strof_inn w2 _ A1 c1 _ R1.out, strof_inn w2 _ A2 c2 _ R2.out⟩ ?_
        clear hK K
        repeat (first | (refine CanM.skip rfl ?_ (fun K hK => ?_); (focus (go_simp; done)); go_simp; refine hK _ ?_; clear hK K) | (refine CanM.pur rfl ?_ ?_; (focus (go_simp; done)); refine ⟨?_, ?_, ?_⟩; rotate_left; (focus (intro w'; go_simp; rfl)); (focus (intro K hK; go_simp; refine hK _ ?_; clear hK K))) | (refine CanM.held rfl ?_ ?_; (focus (go_simp; done)); refine ⟨?_, ?_, ?_⟩; rotate_left; (focus (intro w' hS'; (try dsimp only at hS'); go_simp; rfl)); (focus (intro K hK; go_simp; refine hK _ ?_; clear hK K))) | (refine CanM.last rfl (fun K hK => ?_); go_simp; refine hK.out _ _ ?_; clear hK K))
        refine CanM.impF rfl (fun K hK => ?_)
        go_simp
        refine (Fi.join_calls PS Aa ca _ Hra2.out (by have := Hlm.out; omega) (by have := Hlm.out; omega)).mono ?_
        rw [← HJ.out]
        rintro e w3 ⟨v3, rfl, ho3, hb3⟩
        obtain ⟨A3, c3, rfl, hl3, hm3, k3, _⟩ := ho3.opens
        have HB3 := Lib.hid (bthen HB2.out hb3)
        have Hra3 := Lib.hid ((Hra2.out.below hb3).more hb3.size)
        have Hrb3 := Lib.hid ((Hrb2.out.below hb3).more hb3.size)
        have R1 := Lib.hid ((R1.out.below hb3).more hb3.size)
        have R2 := Lib.hid ((R2.out.below hb3).more hb3.size)
        have R3 := Lib.hid k3
        clear ho3 k3 hb3
        go_simp
        refine hK.out (fun w' => True ∧ (convert 25 9 (.slice A1 N.length c1)).run Try.prog w' = .ok (.string (S N)) w' ∧ (convert 25 9 (.slice A2 N.length c2)).run Try.prog w' = .ok (.string (S N)) w' ∧ (convert 25 9 (.slice A3 J.length c3)).run Try.prog w' = .ok (.string (S J)) w') _ _ (fun _ h => ⟨h.1, h.2.1, h.2.2.1⟩) ⟨trivial, strof_inn w3 _ A1 c1 _ R1.out, strof_inn w3 _ A2 c2 _ R2.out, strof_inn w3 _ A3 c3 _ R3.out⟩ ?_
        clear hK K
        repeat (first | (refine CanM.skip rfl ?_ (fun K hK => ?_); (focus (go_simp; done)); go_simp; refine hK _ ?_; clear hK K) | (refine CanM.pur rfl ?_ ?_; (focus (go_simp; done)); refine ⟨?_, ?_, ?_⟩; rotate_left; (focus (intro w'; go_simp; rfl)); (focus (intro K hK; go_simp; refine hK _ ?_; clear hK K))) | (refine CanM.held rfl ?_ ?_; (focus (go_simp; done)); refine ⟨?_, ?_, ?_⟩; rotate_left; (focus (intro w' hS'; (try dsimp only at hS'); go_simp; rfl)); (focus (intro K hK; go_simp; refine hK _ ?_; clear hK K))) | (refine CanM.last rfl (fun K hK => ?_); go_simp; refine hK.out _ _ ?_; clear hK K))
        refine CanM.impF rfl (fun K hK => ?_)
        go_simp
        refine (Fr.join_calls PS Ab cb _ Hrb3.out (by have := Hlm.out; omega) (by have := Hlm.out; omega)).mono ?_
        rw [← HJ.out]
        rintro e w4 ⟨v4, rfl, ho4, hb4⟩
        obtain ⟨A4, c4, rfl, hl4, hm4, k4, _⟩ := ho4.opens
        have HB4 := Lib.hid (bthen HB3.out hb4)
        have Hra4 := Lib.hid ((Hra3.out.below hb4).more hb4.size)
        have Hrb4 := Lib.hid ((Hrb3.out.below hb4).more hb4.size)
        have R1 := Lib.hid ((R1.out.below hb4).more hb4.size)
        have R2 := Lib.hid ((R2.out.below hb4).more hb4.size)
        have R3 := Lib.hid ((R3.out.below hb4).more hb4.size)
        have R4 := Lib.hid k4
        clear ho4 k4 hb4
        go_simp
        refine hK.out (fun w' => True ∧ (convert 25 9 (.slice A1 N.length c1)).run Try.prog w' = .ok (.string (S N)) w' ∧ (convert 25 9 (.slice A2 N.length c2)).run Try.prog w' = .ok (.string (S N)) w' ∧ (convert 25 9 (.slice A3 J.length c3)).run Try.prog w' = .ok (.string (S J)) w' ∧ (convert 25 9 (.slice A4 J.length c4)).run Try.prog w' = .ok (.string (S J)) w') _ _ (fun _ h => ⟨h.1, h.2.1, h.2.2.1, h.2.2.2.1⟩) ⟨trivial, strof_inn w4 _ A1 c1 _ R1.out, strof_inn w4 _ A2 c2 _ R2.out, strof_inn w4 _ A3 c3 _ R3.out, strof_inn w4 _ A4 c4 _ R4.out⟩ ?_
        clear hK K
        repeat (first | (refine CanM.skip rfl ?_ (fun K hK => ?_); (focus (go_simp; done)); go_simp; refine hK _ ?_; clear hK K) | (refine CanM.pur rfl ?_ ?_; (focus (go_simp; done)); refine ⟨?_, ?_, ?_⟩; rotate_left; (focus (intro w'; go_simp; rfl)); (focus (intro K hK; go_simp; refine hK _ ?_; clear hK K))) | (refine CanM.held rfl ?_ ?_; (focus (go_simp; done)); refine ⟨?_, ?_, ?_⟩; rotate_left; (focus (intro w' hS'; (try dsimp only at hS'); go_simp; rfl)); (focus (intro K hK; go_simp; refine hK _ ?_; clear hK K))) | (refine CanM.last rfl (fun K hK => ?_); go_simp; refine hK.out _ _ ?_; clear hK K))
        refine CanM.imp rfl (fun K hK => ?_)
        go_simp
        refine (awake2_calls w4).mono ?_
        rintro e w5 ⟨rfl, hb45⟩
        have hb5 := Lib.hid (bthen HB4.out hb45)
        go_simp
        refine hK.out _ _ ⟨trivial, strof_inn w5 _ A1 c1 _ (R1.out.below hb45), strof_inn w5 _ A2 c2 _ (R2.out.below hb45), strof_inn w5 _ A3 c3 _ (R3.out.below hb45), strof_inn w5 _ A4 c4 _ (R4.out.below hb45)⟩ ?_
        clear hK K
        repeat (first | (refine CanM.skip rfl ?_ (fun K hK => ?_); (focus (go_simp; done)); go_simp; refine hK _ ?_; clear hK K) | (refine CanM.pur rfl ?_ ?_; (focus (go_simp; done)); refine ⟨?_, ?_, ?_⟩; rotate_left; (focus (intro w'; go_simp; rfl)); (focus (intro K hK; go_simp; refine hK _ ?_; clear hK K))) | (refine CanM.held rfl ?_ ?_; (focus (go_simp; done)); refine ⟨?_, ?_, ?_⟩; rotate_left; (focus (intro w' hS'; (try dsimp only at hS'); go_simp; rfl)); (focus (intro K hK; go_simp; refine hK _ ?_; clear hK K))) | (refine CanM.last rfl (fun K hK => ?_); go_simp; refine hK.out _ _ ?_; clear hK K))
        refine CanM.done ?_
        go_wp2
        go_ret
        exact ⟨rfl, hb5.out⟩
end Fl
end Go.Proofs.Ytldhplanpnddbaa
