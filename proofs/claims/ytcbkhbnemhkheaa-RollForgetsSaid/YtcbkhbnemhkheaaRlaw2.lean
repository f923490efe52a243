/- A window that is rolled along bytes; a window through which other bytes went: the walks of the statements. -/
import Derived.Test.YtcbkhbnemhkheaaRlaw1
namespace Go.Proofs.Ytcbkhbnemhkheaa
namespace Ro
open Go.RowKit Flo Ba
set_option linter.unusedVariables false
theorem seg_cons (l : List UInt8) (j n : Nat) (hn : 0 < n) (h : j < l.length) : (l.drop j).take n = l.getD j 0 :: (l.drop (j + 1)).take (n - 1) := by
  rw [List.drop_eq_getElem_cons h]
  obtain ⟨m, rfl⟩ : ∃ m, n = m + 1 := ⟨n - 1, by omega⟩
  rw [List.take_succ_cons]
  simp [List.getD, h]
theorem seg_snoc (l : List UInt8) (j n : Nat) (hn : 0 < n) (h : j + n < l.length) : (l.drop (j + 1)).take (n - 1) ++ [l.getD (j + n) 0] = (l.drop (j + 1)).take n := by
  obtain ⟨m, rfl⟩ : ∃ m, n = m + 1 := ⟨n - 1, by omega⟩
  rw [Nat.add_sub_cancel, List.take_succ_eq_append_getElem (by rw [List.length_drop]; omega), List.getElem_drop]
  congr 2
  have : j + 1 + m = j + (m + 1) := by omega
  simp [List.getD, this, h]
set_option maxRecDepth 100000 in
set_option maxHeartbeats 4000000 in
theorem rollAlong_calls (l : List UInt8) (A : Option Addr) (c : Nat) (x : Int) (hx0 : 0 ≤ x) (hx1 : x ≤ 255) (hc : l.length ≤ c) (hcm : c ≤ 9223372036854775807) (w : World) (hr : ReadB w w.heap.size A l) : Calls Try.prog 5 #[.slice A l.length c, .int .u8 x] w fun e w' => e = .returned (.bool true) ∧ Below w.heap.size w w' := by
  have Hr := Lib.hid hr
  clear hr
  obtain ⟨n, hn⟩ : ∃ n : Nat, (1 : Int) + x % 64 = (n : Int) := ⟨(1 + x % 64).toNat, by omega⟩
  have hn1 : 1 ≤ n := by omega
  have hn2 : n ≤ 64 := by omega
  have Hn := Lib.hid hn
  clear hn
  by_cases h1 : 1000 < l.length
  · have g1 : decide (1000 < (l.length : Int)) = true := by rw [decide_eq_true_eq]; omega
    go_enter Try.func5, Try.ntmps5
    go_wp2_with fail
    refine (awake_calls w).mono ?_
    rintro e w1 ⟨rfl, hb⟩
    have Hb := Lib.hid hb
    clear hb
    go_wp2_with fail
    go_ret
    exact ⟨rfl, Hb.out⟩
  have g1 : decide (1000 < (l.length : Int)) = false := by rw [decide_eq_false_iff_not]; omega
  by_cases h2 : l.length < n
  · have g2 : decide ((l.length : Int) < 1 + x % 64) = true := by rw [decide_eq_true_eq, Hn.out]; omega
    go_enter Try.func5, Try.ntmps5
    go_wp2_with fail
    refine (awake_calls w).mono ?_
    rintro e w1 ⟨rfl, hb⟩
    have Hb := Lib.hid hb
    clear hb
    go_wp2_with fail
    go_ret
    exact ⟨rfl, Hb.out⟩
  have g2 : decide ((l.length : Int) < 1 + x % 64) = false := by rw [decide_eq_false_iff_not, Hn.out]; omega
  have z1 : (0 : Int) ≤ 1 + x % 64 := by omega
  have z2 : (1 : Int) + x % 64 ≤ (c : Int) := by have := Hn.out; omega
  have z3 : ((1 : Int) + x % 64).toNat = n := by have := Hn.out; omega
  go_enter Try.func5, Try.ntmps5
  go_wp2_with fail
  rw [Hn.out]
  clear z1 z2 z3 g2
  refine (new_calls (l := l.take n) (by rw [List.length_take]; omega) (by rw [List.length_take]; omega) (Hr.out.take n) (by rw [List.length_take]; omega)).mono ?_
  rintro e w1 ⟨g, rfl, hW, hb⟩
  have HW := Lib.hid hW
  have Hb := Lib.hid hb
  clear hW hb
  go_wp2_with fail
  go_loopw [7] (fun i wr => ∃ j : Nat, j + n ≤ l.length ∧ i = .int .i64 ((j + n : Nat) : Int) ∧ IsW wr w.heap.size g ((l.drop j).take n) ∧ Below w.heap.size w wr) (fun i _ => l.length + 1 - (intOf i).toNat)
  case atStart => exact ⟨0, by omega, by rw [Nat.zero_add], by rw [List.drop_zero]; exact HW.out, Hb.out⟩
  case round =>
    obtain ⟨j, hj, rfl, hW, hB⟩ := hrel
    have hls : ((l.drop j).take n).length = n := by rw [List.length_take, List.length_drop]; omega
    have HW := Lib.hid hW
    have HB := Lib.hid hB
    obtain ⟨k, hk⟩ : ∃ k, k = j + n := ⟨_, rfl⟩
    rw [← hk]
    have s1 : (k : Int) - (n : Int) = (j : Int) := by omega
    have s9 : IntKind.i64.wrap (j : Int) = (j : Int) := IntWalk.i64_in _ (by omega)
    have s2 : IntKind.i64.wrap ((k : Int) - (n : Int)) = (j : Int) := by rw [IntWalk.i64_in _ (by omega)]; exact s1
    have s3 : (0 : Int) ≤ (j : Int) := by omega
    have s4 : (j : Int) ≤ (k : Int) := by omega
    have s5 : (k : Int) ≤ (c : Int) := by omega
    have s6 : ¬ c = j := by omega
    have s7 : k - j = n := by omega
    have s8 : (k : Int) - (j : Int) = (n : Int) := by omega
    have S7 := Lib.hid s7
    have Hk := Lib.hid hk
    have hkb : k ≤ 1000 := by omega
    have hkl : k ≤ l.length := by omega
    have hkn : n ≤ k := by omega
    have hjk : j ≤ k := by omega
    have HLS := Lib.hid hls
    have Hj := Lib.hid hj
    clear hls hW hB hk hj s7
    go_wp2_with fail
    refine CanF.region 1000 (.op 0 2 (.op 2 2 (.op 3 2 (.op 4 2 (.op 5 2 (.op 6 2 (.op 7 2 (.op 1 0 (.op 8 0 (.op 9 2 (.op 10 2 (.op 11 2 (.op 13 2 (.op 12 0 (.op 14 2 (.op 15 2 (.nil))))))))))))))))) (by kernel_rfl) (by kernel_rfl) ?_
    have HWd : Hid (IsW wr.drew w.heap.size g ((l.drop j).take n)) := HW
    have HBd := Lib.hid HB.out.drew
    clear HW HB
    generalize wr.drew = W at *
    have hws := wsum_calls HWd.out
    have hwl := wlen_calls HWd.out
    rw [HLS.out] at hwl
    have hcut : ReadB W w.heap.size (A.map (·.add j)) ((l.drop j).take n) := by
      have := ((Hr.out.below HBd.out).cut (k := j) hc).take n
      rw [if_neg s6] at this
      exact this
    have hsum := sum_calls (n := n) (c := c - j) HLS.out.symm hcut (by rw [HLS.out]; omega)
    obtain ⟨q, hq⟩ : ∃ q, q = rsum ((l.drop j).take n) := ⟨_, rfl⟩
    rw [← hq] at hws hsum
    have Hws := Lib.hid hws
    have Hwl := Lib.hid hwl
    have Hsum := Lib.hid hsum
    clear hws hwl hsum hcut hq
    repeat (first | (refine CanT.skip rfl ?_ (fun K hK => ?_); (focus (go_simp; done)); go_simp; refine hK _ ?_; clear hK K) | (refine CanT.pur rfl ?_ ?_; (focus (go_simp; done)); refine ⟨?_, ?_, ?_⟩; rotate_left; (focus (intro w'; go_simp; rfl)); (focus (intro K hK; go_simp; refine hK _ ?_; clear hK K))))
    refine CanT.imp rfl (fun J hJ => ?_)
    go_simp
    refine Hws.out.mono ?_
    rintro e w3 ⟨rfl, rfl⟩
    go_simp
    refine hJ.out _ _ (World.grownBy.refl _ _) ?_
    clear hJ J
    refine CanT.imp rfl (fun J hJ => ?_)
    go_simp
    try rw [S7.out]
    refine Hsum.out.mono ?_
    rintro e w3 ⟨rfl, rfl⟩
    go_simp
    refine hJ.out _ _ (World.grownBy.refl _ _) ?_
    clear hJ J
    repeat (first | (refine CanT.skip rfl ?_ (fun K hK => ?_); (focus (go_simp; done)); go_simp; refine hK _ ?_; clear hK K) | (refine CanT.pur rfl ?_ ?_; (focus (go_simp; done)); refine ⟨?_, ?_, ?_⟩; rotate_left; (focus (intro w'; go_simp; rfl)); (focus (intro K hK; go_simp; refine hK _ ?_; clear hK K))))
    refine CanT.imp rfl (fun J hJ => ?_)
    go_simp
    refine Hwl.out.mono ?_
    rintro e w3 ⟨rfl, rfl⟩
    go_simp
    refine hJ.out _ _ (World.grownBy.refl _ _) ?_
    clear hJ J
    repeat (first | (refine CanT.skip rfl ?_ (fun K hK => ?_); (focus (go_simp; done)); go_simp; refine hK _ ?_; clear hK K) | (refine CanT.pur rfl ?_ ?_; (focus (go_simp; done)); refine ⟨?_, ?_, ?_⟩; rotate_left; (focus (intro w'; go_simp; rfl)); (focus (intro K hK; go_simp; refine hK _ ?_; clear hK K))))
    refine CanT.done ?_
    by_cases hend : l.length ≤ k
    · have gd : decide ((l.length : Int) ≤ (k : Int)) = true := by rw [decide_eq_true_eq]; omega
      go_wp2_with fail
      refine (awake_calls W).mono ?_
      rintro e w4 ⟨rfl, hb4⟩
      have Hb4 := Lib.hid hb4
      clear hb4
      go_wp2_with fail
      go_ret
      exact ⟨rfl, HBd.out.trans (Hb4.out.mono HBd.out.size)⟩
    · have gd : decide ((l.length : Int) ≤ (k : Int)) = false := by rw [decide_eq_false_iff_not]; omega
      have hkl2 : k < l.length := by omega
      obtain ⟨b, o, rfl, hbl, hcs⟩ := (Hr.out.below HBd.out) (by omega)
      have hcell := hcs k hkl2
      obtain ⟨y, hy⟩ : ∃ y, y = l.getD k 0 := ⟨_, rfl⟩
      rw [← hy] at hcell
      have e1 := seg_cons l j n (by omega) (by have := Hk.out; omega)
      have e2 := seg_snoc l j n (by omega) (by have := Hk.out; omega)
      rw [← Hk.out, ← hy] at e2
      have hW2 := HWd.out
      rw [e1] at hW2
      have Hroll := Lib.hid (roll_calls hW2 y (by rw [List.length_take]; omega))
      rw [e2] at Hroll
      clear e1 e2 hW2 hcs hy
      go_wp2_with fail
      refine Hroll.out.mono ?_
      rintro e w4 ⟨rfl, hW4, hb4⟩
      have HW4 := Lib.hid hW4
      have HB4 := Lib.hid (HBd.out.trans hb4)
      clear hW4 hb4
      go_wp2_with fail
      go_roundw
      case rel => exact ⟨j + 1, by have := Hk.out; omega, by have := Hk.out; rw [show ((j + 1 + n : Nat) : Int) = (k : Int) + 1 by omega], HW4.out, HB4.out⟩
      case measure => simp [intOf]; omega
set_option maxRecDepth 100000 in
set_option maxHeartbeats 4000000 in
theorem rollForgets_calls (a b : List UInt8) (A B : Option Addr) (c d : Nat) (hc : a.length ≤ c) (hcm : c ≤ 9223372036854775807) (hd : b.length ≤ d) (hdm : d ≤ 9223372036854775807) (w : World) (hr : ReadB w w.heap.size A a) (hrb : ReadB w w.heap.size B b) : Calls Try.prog 7 #[.slice A a.length c, .slice B b.length d] w fun e w' => e = .returned (.bool true) ∧ Below w.heap.size w w' := by
  have Hr := Lib.hid hr
  have Hb := Lib.hid hrb
  clear hr hrb
  by_cases h1 : 1000 < a.length
  · have g1 : decide (1000 < (a.length : Int)) = true := by rw [decide_eq_true_eq]; omega
    go_enter Try.func7, Try.ntmps7
    go_wp2_with fail
    refine (awake_calls w).mono ?_
    rintro e w1 ⟨rfl, hb⟩
    have Hbb := Lib.hid hb
    clear hb
    go_wp2_with fail
    go_ret
    exact ⟨rfl, Hbb.out⟩
  have g1 : decide (1000 < (a.length : Int)) = false := by rw [decide_eq_false_iff_not]; omega
  by_cases h2 : 1000 < b.length
  · have g2 : decide (1000 < (b.length : Int)) = true := by rw [decide_eq_true_eq]; omega
    go_enter Try.func7, Try.ntmps7
    go_wp2_with fail
    refine (awake_calls w).mono ?_
    rintro e w1 ⟨rfl, hb⟩
    have Hbb := Lib.hid hb
    clear hb
    go_wp2_with fail
    go_ret
    exact ⟨rfl, Hbb.out⟩
  have g2 : decide (1000 < (b.length : Int)) = false := by rw [decide_eq_false_iff_not]; omega
  go_enter Try.func7, Try.ntmps7
  go_wp2_with fail
  refine (new_calls (l := a) rfl hc Hr.out (by omega)).mono ?_
  rintro e w1 ⟨g, rfl, hW, hbl⟩
  have HW := Lib.hid hW
  have HB := Lib.hid hbl
  clear hW hbl
  go_wp2_with fail
  go_loopw [6] (fun i wr => ∃ k : Nat, k ≤ b.length ∧ i = .int .i64 k ∧ IsW wr w.heap.size g (a ++ b.take k) ∧ Below w.heap.size w wr) (fun i _ => b.length - (intOf i).toNat)
  case atStart => exact ⟨0, by omega, rfl, by simpa using HW.out, HB.out⟩
  case round =>
    obtain ⟨k, hk, rfl, hW, hB⟩ := hrel
    clear HW HB
    have HB := Lib.hid hB
    by_cases hlt : k < b.length
    · obtain ⟨b1, o1, rfl, _, hcs⟩ := (Hb.out.below hB) (by omega)
      have hcell := hcs k hlt
      obtain ⟨y, hy⟩ : ∃ y, y = b.getD k 0 := ⟨_, rfl⟩
      rw [← hy] at hcell
      have e : a ++ b.take k ++ [y] = a ++ b.take (k + 1) := by
        rw [List.append_assoc, List.take_succ_eq_append_getElem hlt, hy]
        simp [List.getD, hlt]
      have Hin := Lib.hid (in_calls hW y (by rw [List.length_append, List.length_take]; omega))
      rw [e] at Hin
      clear hcs hy e hW hB
      go_wp2_with fail
      refine Hin.out.mono ?_
      rintro e w3 ⟨rfl, hW3, hb3⟩
      have HW3 := Lib.hid hW3
      have HB3 := Lib.hid (HB.out.trans hb3)
      clear hW3 hb3
      go_wp2_with fail
      go_roundw
      case rel => exact ⟨k + 1, by omega, by go_num, HW3.out, HB3.out⟩
      case measure => simp [intOf]; omega
    · have hkk : k = b.length := by omega
      rw [hkk, List.take_length] at hW
      have HW := Lib.hid hW
      clear hW hB hkk hk
      go_wp2_with fail
      go_loopw [7, 8, 9] (fun i _ _ wx => ∃ j : Nat, j ≤ a.length ∧ i = .int .i64 j ∧ IsW wx w.heap.size g (a.drop j ++ b) ∧ Below w.heap.size w wx) (fun i _ _ _ => a.length - (intOf i).toNat)
      case atStart => exact ⟨0, by omega, rfl, by simpa using HW.out, HB.out⟩
      case round =>
        obtain ⟨j, hj, rfl, hW, hB⟩ := hrel
        clear HW HB
        have HB := Lib.hid hB
        by_cases hlt2 : j < a.length
        · obtain ⟨b1, o1, rfl, hbl, hcs⟩ := (Hr.out.below hB) (by omega)
          have hcell := hcs j hlt2
          obtain ⟨y, hy⟩ : ∃ y, y = a.getD j 0 := ⟨_, rfl⟩
          rw [← hy] at hcell
          have e0 : a.getD j 0 = a[j] := by simp [List.getD, hlt2]
          have e : a.drop j ++ b = y :: (a.drop (j + 1) ++ b) := by
            rw [List.drop_eq_getElem_cons hlt2, hy, e0]
            rfl
          rw [e] at hW
          have Hout := Lib.hid (out_calls hW (by rw [List.length_append, List.length_drop]; omega))
          have Hcell := Lib.hid hcell
          have Hbl := Lib.hid hbl
          clear hcs hy e e0 hW hB hcell hbl
          go_wp2_with fail
          refine Hout.out.mono ?_
          rintro e w3 ⟨rfl, hW3, hb3⟩
          have HW3 := Lib.hid hW3
          have HB3 := Lib.hid (HB.out.trans hb3)
          have hcell3 := (hb3.cell (p := ⟨b1, o1 + j, none⟩) Hbl.out).trans Hcell.out
          clear hW3 hb3
          go_wp2_with fail
          go_roundw
          case rel => exact ⟨j + 1, by omega, by go_num, HW3.out, HB3.out⟩
          case measure => simp [intOf]; omega
        · have hjj : j = a.length := by omega
          rw [hjj, List.drop_length, List.nil_append] at hW
          have HW := Lib.hid hW
          clear hW hB hjj hj
          go_wp2_with fail
          refine CanF.region 1000 (.op 0 2 (.op 2 2 (.op 1 0 (.op 3 0 (.op 4 2 (.op 5 2 (.op 6 2 (.op 9 2 (.op 10 1 (.op 7 0 (.op 8 1 (.op 11 2 (.op 12 2 (.op 13 2 (.op 14 0 (.op 15 2 (.op 16 2 (.nil)))))))))))))))))) (by kernel_rfl) (by kernel_rfl) ?_
          have HWd : Hid (IsW wr.drew w.heap.size g b) := HW
          have HBd := Lib.hid HB.out.drew
          clear HW HB
          generalize wr.drew = W at *
          have HRb := Lib.hid (Hb.out.below HBd.out)
          have HF0 : Hid (∀ w', W.grownBy w' none → Below W.heap.size W w') := Lib.hid (fun w' h => ⟨h.os, h.tape, h.output, h.size, fun i hi => h.block i hi (by simp)⟩)
          have Hws := Lib.hid (wsum_calls HWd.out)
          have Hsum := Lib.hid (sum_calls (n := b.length) (c := d) rfl HRb.out (by omega))
          have Hbytes := Lib.hid (bytes_calls HWd.out (by omega))
          have HRbW := Lib.hid (HRb.out.more HBd.out.size)
          generalize rsum b = q at *
          repeat (first | (refine CanT.skip rfl ?_ (fun K hK => ?_); (focus (go_simp; done)); go_simp; refine hK _ ?_; clear hK K) | (refine CanT.pur rfl ?_ ?_; (focus (go_simp; done)); refine ⟨?_, ?_, ?_⟩; rotate_left; (focus (intro w'; go_simp; rfl)); (focus (intro K hK; go_simp; refine hK _ ?_; clear hK K))))
          refine CanT.imp rfl (fun J hJ => ?_)
          go_simp
          refine Hws.out.mono ?_
          rintro e w3 ⟨rfl, rfl⟩
          go_simp
          refine hJ.out _ _ (World.grownBy.refl _ _) ?_
          clear hJ J
          refine CanT.imp rfl (fun J hJ => ?_)
          go_simp
          refine Hsum.out.mono ?_
          rintro e w3 ⟨rfl, rfl⟩
          go_simp
          refine hJ.out _ _ (World.grownBy.refl _ _) ?_
          clear hJ J
          repeat (first | (refine CanT.skip rfl ?_ (fun K hK => ?_); (focus (go_simp; done)); go_simp; refine hK _ ?_; clear hK K) | (refine CanT.pur rfl ?_ ?_; (focus (go_simp; done)); refine ⟨?_, ?_, ?_⟩; rotate_left; (focus (intro w'; go_simp; rfl)); (focus (intro K hK; go_simp; refine hK _ ?_; clear hK K))) | (refine CanF.str rfl ?_ 22 9 5 _ rfl Try.underlying22 Try.underlying5 Try.underlying9 B _ d (b) rfl (rfl) HF0.out HRbW.out (fun K hK => ?_); (focus (go_simp; done)); go_simp; refine hK _ ?_; clear hK K))
          refine CanT.impF rfl (fun J hJ => ?_)
          go_simp
          refine Hbytes.out.mono ?_
          rintro e w4 ⟨v4, rfl, ho4, hb4⟩
          obtain ⟨A4, c4, rfl, u1, u2, u3, u4⟩ := ho4.opens
          have U3 := Lib.hid u3
          have HB4 := Lib.hid (HBd.out.trans (hb4.mono HBd.out.size))
          go_simp
          refine hJ.out (fun w' => w4.grownBy w' none) _ _ (fun w' h => only_trans (only_of_below hb4 none) h) (World.grownBy.refl _ _) ?_
          clear hJ J hb4 ho4 u3 u4
          refine CanF.strF rfl ?_ 22 9 5 _ rfl Try.underlying22 Try.underlying5 Try.underlying9 A4 _ c4 (b) rfl (rfl) (fun w' h => CanF.none_read U3.out h) (fun K hK => ?_); (focus (go_simp; done)); go_simp; refine hK _ ?_; clear hK K
          repeat (first | (refine CanT.skip rfl ?_ (fun K hK => ?_); (focus (go_simp; done)); go_simp; refine hK _ ?_; clear hK K) | (refine CanT.pur rfl ?_ ?_; (focus (go_simp; done)); refine ⟨?_, ?_, ?_⟩; rotate_left; (focus (intro w'; go_simp; rfl)); (focus (intro K hK; go_simp; refine hK _ ?_; clear hK K))))
          refine CanT.imp rfl (fun J hJ => ?_)
          go_simp
          refine (awake_calls w4).mono ?_
          rintro e w5 ⟨rfl, hb5⟩
          have HB5 := Lib.hid (HB4.out.trans (hb5.mono HB4.out.size))
          go_simp
          refine hJ.out _ _ (only_of_below hb5 none) ?_
          clear hJ J hb5
          repeat (first | (refine CanT.skip rfl ?_ (fun K hK => ?_); (focus (go_simp; done)); go_simp; refine hK _ ?_; clear hK K) | (refine CanT.pur rfl ?_ ?_; (focus (go_simp; done)); refine ⟨?_, ?_, ?_⟩; rotate_left; (focus (intro w'; go_simp; rfl)); (focus (intro K hK; go_simp; refine hK _ ?_; clear hK K))))
          refine CanT.done ?_
          go_wp2_with fail
          go_ret
          exact ⟨rfl, HB5.out⟩
end Ro
end Go.Proofs.Ytcbkhbnemhkheaa
