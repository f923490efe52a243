/- Where any bytes are found by any sums, and which weak sums there are, is told as the document says: the walk of the statement. -/
import Derived.Test.YtcbkhbnemhkheaaDoorF01
import Derived.Test.YtcbkhbnemhkheaaDoorF02
import Derived.Test.YtcbkhbnemhkheaaDoorF03
import Derived.Test.YtcbkhbnemhkheaaDoorF04
import Derived.Test.YtcbkhbnemhkheaaDoorF05
import Derived.Test.YtcbkhbnemhkheaaDoorF06
import Derived.Test.YtcbkhbnemhkheaaDoorF07
import Derived.Test.YtcbkhbnemhkheaaDoorF08
import Derived.ProofKit
import Derived.OpenShut
import Derived.ShutString
import Derived.ChangeOld
import Derived.SizedLaws
import Derived.ChangeSlices
import Derived.Deep.Slices
import Derived.Test.YtcbkhbnemhkheaaDoorRows
import Derived.LaidMore
import Derived.Stop.Joined
import Derived.Lib.LaidTab
namespace Go.Proofs.YtcbkhbnemhkheaaDoor
namespace Bk
open Go.RowKit Ba Sm Ro
set_option linter.unusedVariables false
def weakK (l : List Sg) (x k : Nat) : Bool := (List.range k).any fun i => (sg l i).1 == x
theorem weakK_succ (l : List Sg) (x k : Nat) : weakK l x (k + 1) = (weakK l x k || (sg l k).1 == x) := by
  unfold weakK
  rw [List.range_succ, List.any_append]
  simp
theorem weakK_all (l : List Sg) (x : Nat) : weakK l x l.length = hasWeak l x := rfl
set_option maxRecDepth 100000 in
set_option maxHeartbeats 8000000 in
theorem blockFinds_calls (size n : Int) (l : List Sg) (L : Option Addr) (d : Nat) (b : List UInt8) (A : Option Addr) (c : Nat) (x : Int) (hs : -9223372036854775808 ≤ size ∧ size ≤ 9223372036854775807) (hn : -9223372036854775808 ≤ n ∧ n ≤ 9223372036854775807)
    (hld : l.length ≤ d) (hdm : d ≤ 9223372036854775807) (hbc : b.length ≤ c) (hcm : c ≤ 9223372036854775807) (hx : 0 ≤ x ∧ x < 4294967296) (w : World) (htab : Tab w) (hL : ReadRow sgv 33 w w.heap.size L l) (hwf : ∀ s ∈ l, WfS s) (hr : ReadB w w.heap.size A b) :
    Calls Tryd.prog 5 #[.agg #[.int .i64 size, .int .i64 n, .slice L l.length d], .slice A b.length c, .int .u32 x] w fun e w' => e = .returned (.bool true) ∧ Below w.heap.size w w' := by
  have Hw := Lib.hid awake_calls
  have hA := (Below.refl w.heap.size w).alloc (Nat.le_refl _) (.cells #[.int .i64 size, .int .i64 n, .slice L l.length d] 36)
  have HA := Lib.hid hA
  have Htab := Lib.hid (htab.below hA)
  have Htab0 := Lib.hid htab
  have HL := Lib.hid (hL.below hA)
  have Hr := Lib.hid (hr.below hA)
  have Hwf := Lib.hid hwf
  have hbx : Blk (w.alloc (.cells #[.int .i64 size, .int .i64 n, .slice L l.length d] 36)) w.heap.size 36 #[.int .i64 size, .int .i64 n, .slice L l.length d] := heap_alloc_new w _
  have HBx := Lib.hid hbx
  clear hA htab hL hr hwf hbx
  by_cases h1 : 200 < l.length
  · have g1 : decide (200 < (l.length : Int)) = true := decide_eq_true (by omega)
    go_enter Tryd.func5, Tryd.ntmps5
    go_wp2_with (go_at_call 9; refine (Hw.out _ Htab.out).mono ?_; rintro e w5 ⟨rfl, hb5⟩)
    go_ret
    exact ⟨rfl, HA.out.trans (hb5.mono HA.out.size)⟩
  have g1 : decide (200 < (l.length : Int)) = false := decide_eq_false (by omega)
  by_cases h2 : 200 < b.length
  · have g2 : decide (200 < (b.length : Int)) = true := decide_eq_true (by omega)
    go_enter Tryd.func5, Tryd.ntmps5
    go_wp2_with (go_at_call 9; refine (Hw.out _ Htab.out).mono ?_; rintro e w5 ⟨rfl, hb5⟩)
    go_ret
    exact ⟨rfl, HA.out.trans (hb5.mono HA.out.size)⟩
  have g2 : decide (200 < (b.length : Int)) = false := decide_eq_false (by omega)
  by_cases hq : check size n l.length = 0
  · have hb0 : 1 ≤ size ∧ size ≤ 4096 := by
      unfold check at hq
      split at hq
      · omega
      · omega
    obtain ⟨z, rfl⟩ : ∃ z : Nat, size = (z : Int) := ⟨size.toNat, by omega⟩
    obtain ⟨y, rfl⟩ : ∃ y : Nat, x = (y : Int) := ⟨x.toNat, by omega⟩
    have hy : y < 4294967296 := by omega
    have hrc := fun w => rcheck_calls (z : Int) n L l.length d hs hn (by omega) w
    rw [hq] at hrc
    have Hrc := Lib.hid hrc
    obtain ⟨N, hN⟩ : ∃ N, N = l.length := ⟨_, rfl⟩
    have Hnew := Lib.hid (fun w1 h => new_good z n l L d hn w1 hq h Hwf.out)
    obtain ⟨fa, fo, hfb⟩ : ∃ fa fo, findB z l b = (fa, fo) := ⟨_, _, rfl⟩
    have Hfb := Lib.hid hfb
    obtain ⟨hwk, hwk0⟩ : ∃ r, r = hasWeak l y := ⟨_, rfl⟩
    have Hwk := Lib.hid hwk0
    rw [← hN] at Hrc Hnew HL h1 g1 hld ⊢
    have HN := Lib.hid hN
    have HBx' : Hid (Blk (w.alloc (.cells #[.int .i64 (z : Int), .int .i64 n, .slice L N d] 36)) w.heap.size 36 #[.int .i64 (z : Int), .int .i64 n, .slice L N d]) := Lib.hid (heap_alloc_new w _)
    rw [← hN] at HA Htab Hr
    clear hrc hN hq hfb hwk0 HBx
    have hcx := HBx'.out.cell 0
    have hcy := HBx'.out.cell 1
    have hcz := HBx'.out.cell 2
    go_enter Tryd.func5, Tryd.ntmps5
    go_wp2_with fail
    refine Calls.mono (Hnew.out _ (HL.out.more (by simp))) ?_
    rintro e w3 ⟨g, rfl, hg3, hX3, hb3⟩
    have hbx3 := HBx'.out.below hb3 HBx'.out.lt
    have hs0 : w.heap.size ≤ (w.alloc (.cells #[.int .i64 (z : Int), .int .i64 n, .slice L N d] 36)).heap.size := by simp
    have HB3 := Lib.hid (HA.out.trans (hb3.mono hs0))
    have HL3 := Lib.hid (HL.out.below (hb3.mono hs0))
    have Hr3 := Lib.hid (Hr.out.below (hb3.mono hs0))
    have HT3 := Lib.hid (Htab.out.below hb3)
    have HX3 := Lib.hid hX3
    have HBx3 := Lib.hid hbx3
    have hfc := find_calls w3 g z l hX3 (by omega) (by rw [← HN.out]; omega) Hwf.out b A c (Hr3.out.more HB3.out.size) hbc hcm (by omega) HT3.out
    rw [Hfb.out] at hfc
    have Hfc := Lib.hid hfc
    have hrf := fun w' h1 h2 => rfind_calls w' z l (by omega) (by rw [← HN.out]; omega) L d h1 b A c h2 hbc (by omega)
    rw [Hfb.out, ← HN.out] at hrf
    have Hrf := Lib.hid hrf
    clear hcx hcy hcz hX3 hb3 hbx3 hs0 hfc hrf HBx' HA HL Hr Htab Hnew hg3
    have hcx := HBx3.out.cell 0
    have hcy := HBx3.out.cell 1
    have hcz := HBx3.out.cell 2
    go_wp2_with (go_at_call 16; refine (Hrc.out _).mono ?_; rintro e w4 ⟨rfl, rfl⟩)
    refine Calls.mono Hfc.out ?_
    rintro e w5 ⟨rfl, hb5⟩
    have hbx5 := HBx3.out.below hb5 HBx3.out.lt
    have HB5 := Lib.hid (HB3.out.trans (hb5.mono HB3.out.size))
    have HL5 := Lib.hid (HL3.out.below (hb5.mono HB3.out.size))
    have Hr5 := Lib.hid (Hr3.out.below (hb5.mono HB3.out.size))
    have HX5 := Lib.hid (HX3.out.below hb5)
    have HBx5 := Lib.hid hbx5
    clear hcx hcy hcz hb5 hbx5 HBx3 HB3 HL3 Hr3 HX3
    have hcx := HBx5.out.cell 0
    have hcz := HBx5.out.cell 2
    go_wp2_with fail
    refine Calls.mono (Hrf.out w5 (HL5.out.more HB5.out.size) (Hr5.out.more HB5.out.size)) ?_
    rintro e w6 ⟨rfl, hb6⟩
    have hbx6 := HBx5.out.below hb6 HBx5.out.lt
    have HB6 := Lib.hid (HB5.out.trans (hb6.mono HB5.out.size))
    have HL6 := Lib.hid (HL5.out.below (hb6.mono HB5.out.size))
    have HX6 := Lib.hid (HX5.out.below hb6)
    have HBx6 := Lib.hid hbx6
    clear hcx hcz hb6 hbx6 HBx5 HB5 HL5 Hr5 HX5 Hrf Hfc
    have hcx := HBx6.out.cell 0
    have hcz := HBx6.out.cell 2
    go_wp2_with fail
    go_loopg [14, 15] N (fun q v14 v15 wr => ∃ (k : Nat), k ≤ N ∧ q = N - k ∧ v15 = .int .i64 (k : Int) ∧ v14 = .bool (weakK l y k) ∧ w6 = wr)
    case atStart => exact ⟨0, by omega, rfl, rfl, rfl, rfl⟩
    case round =>
      obtain ⟨k, hk, hq, rfl, rfl, rfl⟩ := hrel
      have Hq := Lib.hid hq
      have hks := weakK_succ l y k
      clear hq
      obtain ⟨wk, hwk1⟩ : ∃ wk, wk = weakK l y k := ⟨_, rfl⟩
      rw [← hwk1] at hks ⊢
      by_cases hkn : k < N
      · have t1 : decide ((k : Int) < (N : Int)) = true := decide_eq_true (by omega)
        obtain ⟨b1, o1, rfl, hb1, hc1⟩ := HL6.out.at_ (sg_get (l := l) (k := k) (by rw [← HN.out]; exact hkn))
        obtain ⟨x1, x2, hx⟩ : ∃ x1 x2, sg l k = (x1, x2) := ⟨_, _, rfl⟩
        rw [hx] at hc1 hks
        have hca := (sgv_row hc1).1
        obtain ⟨eb, heb⟩ : ∃ eb, eb = (x1 == y) := ⟨_, rfl⟩
        have hxe : ((x1 : Int) == (y : Int)) = eb := by
          rw [heb, Bool.eq_iff_iff, beq_iff_eq, beq_iff_eq]
          omega
        simp only at hks
        rw [← heb] at hks
        have Hks := Lib.hid hks
        clear hc1 hx heb hb1 hks hwk1
        cases wk with
        | true =>
          go_wp2_with fail
          go_roundg (N - (k + 1))
          case rel => exact ⟨k + 1, by omega, rfl, rfl, by rw [Hks.out]; rfl, rfl⟩
          case measure => have := Hq.out; omega
        | false =>
          cases eb with
          | true =>
            go_wp2_with fail
            go_roundg (N - (k + 1))
            case rel => exact ⟨k + 1, by omega, rfl, rfl, by rw [Hks.out]; rfl, rfl⟩
            case measure => have := Hq.out; omega
          | false =>
            go_wp2_with fail
            go_roundg (N - (k + 1))
            case rel => exact ⟨k + 1, by omega, rfl, rfl, by rw [Hks.out]; rfl, rfl⟩
            case measure => have := Hq.out; omega
      · have hkn2 : k = N := by omega
        have t1 : decide ((k : Int) < (N : Int)) = false := decide_eq_false (by omega)
        have t2 : ¬ k < N := by omega
        have hwf1 : wk = hwk := by rw [hwk1, hkn2, HN.out, Hwk.out]; rfl
        have hwc := fun w' h => weak_calls w' g z l h y hy
        rw [← Hwk.out, ← hwf1] at hwc
        have Hwc := Lib.hid hwc
        have hlc := fun w' h => xlen_calls w' g z l h
        rw [← HN.out] at hlc
        have Hlc := Lib.hid hlc
        clear hks hwc hlc hwk1 hwf1
        go_wp2_with fail
        have HXd : Hid (IsX w6.drew g z l) := HX6
        have HBd := Lib.hid HB6.out.drew
        have hcxd : w6.drew.cell? ⟨w.heap.size, 0, none⟩ = some (.int .i64 (z : Int)) := hcx
        have hczd : w6.drew.cell? ⟨w.heap.size, 2, none⟩ = some (.slice L N d) := hcz
        have Hlt : Hid (w.heap.size < w6.drew.heap.size) := Lib.hid HBx6.out.lt
        have Hcx := Lib.hid hcxd
        have Hcz := Lib.hid hczd
        have Htd : Hid (Tab w6.drew) := Lib.hid (Htab0.out.below HBd.out)
        clear hcx hcz hcxd hczd HX6 HB6
        refine CanB.region 1000 (.op 0 2 (.op 1 2 (.op 2 2 (.op 3 2 (.op 4 2 (.op 5 2 (.op 6 2 (.op 7 2 (.op 8 2 (.op 9 2 (.op 10 2 (.op 12 2 (.op 11 0 (.op 13 2 (.op 14 2 (.op 15 2 (.op 16 2 (.op 18 2 (.op 19 1 (.op 17 0 (.op 20 2 (.op 21 2 (.op 22 2 (.op 23 2 (.op 25 2 (.op 26 1 (.op 27 2 (.op 24 0 (.op 28 2 (.op 29 2 (.op 30 2 (.op 31 0 (.op 32 2 (.op 33 2 (.nil))))))))))))))))))))))))))))))))))) (by kernel_rfl) (by kernel_rfl) ?_
        generalize w6.drew = W at *
        repeat (first | (refine CanT.skip rfl ?_ (fun K hK => ?_); (focus (go_simp; done)); go_simp; refine hK _ ?_; clear hK K) | (refine CanT.pur rfl ?_ ?_; (focus (go_simp; done)); refine ⟨?_, ?_, ?_⟩; rotate_left; (focus (intro w'; go_simp; rfl)); (focus (intro K hK; go_simp; refine hK _ ?_; clear hK K))) | (refine CanB.cell rfl ?_ (.int .i64 (z : Int)) (.int .i64 (z : Int)) ⟨w.heap.size, 0, none⟩ Hcx.out Hlt.out ?_ (fun K hK => ?_); (focus (go_simp; done)); (focus (intro w' hc'; go_simp; (try rfl))); go_simp; refine hK _ ?_; clear hK K) | (refine CanB.cell rfl ?_ (.slice L N d) (.slice L N d) ⟨w.heap.size, 2, none⟩ Hcz.out Hlt.out ?_ (fun K hK => ?_); (focus (go_simp; done)); (focus (intro w' hc'; go_simp; (try rfl))); go_simp; refine hK _ ?_; clear hK K))
        refine CanT.imp rfl (fun K hK => ?_)
        go_simp
        refine Calls.mono (Hwc.out W HXd.out) ?_
        rintro e w7 ⟨rfl, rfl⟩
        (try go_simp)
        refine hK.out _ _ (Below.refl _ _) ?_
        clear hK K
        repeat (first | (refine CanT.skip rfl ?_ (fun K hK => ?_); (focus (go_simp; done)); go_simp; refine hK _ ?_; clear hK K) | (refine CanT.pur rfl ?_ ?_; (focus (go_simp; done)); refine ⟨?_, ?_, ?_⟩; rotate_left; (focus (intro w'; go_simp; rfl)); (focus (intro K hK; go_simp; refine hK _ ?_; clear hK K))) | (refine CanB.cell rfl ?_ (.int .i64 (z : Int)) (.int .i64 (z : Int)) ⟨w.heap.size, 0, none⟩ Hcx.out Hlt.out ?_ (fun K hK => ?_); (focus (go_simp; done)); (focus (intro w' hc'; go_simp; (try rfl))); go_simp; refine hK _ ?_; clear hK K) | (refine CanB.cell rfl ?_ (.slice L N d) (.slice L N d) ⟨w.heap.size, 2, none⟩ Hcz.out Hlt.out ?_ (fun K hK => ?_); (focus (go_simp; done)); (focus (intro w' hc'; go_simp; (try rfl))); go_simp; refine hK _ ?_; clear hK K))
        refine CanT.imp rfl (fun K hK => ?_)
        go_simp
        refine Calls.mono (xsize_calls W g z l HXd.out) ?_
        rintro e w7 ⟨rfl, rfl⟩
        (try go_simp)
        refine hK.out _ _ (Below.refl _ _) ?_
        clear hK K
        repeat (first | (refine CanT.skip rfl ?_ (fun K hK => ?_); (focus (go_simp; done)); go_simp; refine hK _ ?_; clear hK K) | (refine CanT.pur rfl ?_ ?_; (focus (go_simp; done)); refine ⟨?_, ?_, ?_⟩; rotate_left; (focus (intro w'; go_simp; rfl)); (focus (intro K hK; go_simp; refine hK _ ?_; clear hK K))) | (refine CanB.cell rfl ?_ (.int .i64 (z : Int)) (.int .i64 (z : Int)) ⟨w.heap.size, 0, none⟩ Hcx.out Hlt.out ?_ (fun K hK => ?_); (focus (go_simp; done)); (focus (intro w' hc'; go_simp; (try rfl))); go_simp; refine hK _ ?_; clear hK K) | (refine CanB.cell rfl ?_ (.slice L N d) (.slice L N d) ⟨w.heap.size, 2, none⟩ Hcz.out Hlt.out ?_ (fun K hK => ?_); (focus (go_simp; done)); (focus (intro w' hc'; go_simp; (try rfl))); go_simp; refine hK _ ?_; clear hK K))
        refine CanT.imp rfl (fun K hK => ?_)
        go_simp
        refine Calls.mono (Hlc.out W HXd.out) ?_
        rintro e w7 ⟨rfl, rfl⟩
        (try go_simp)
        refine hK.out _ _ (Below.refl _ _) ?_
        clear hK K
        repeat (first | (refine CanT.skip rfl ?_ (fun K hK => ?_); (focus (go_simp; done)); go_simp; refine hK _ ?_; clear hK K) | (refine CanT.pur rfl ?_ ?_; (focus (go_simp; done)); refine ⟨?_, ?_, ?_⟩; rotate_left; (focus (intro w'; go_simp; rfl)); (focus (intro K hK; go_simp; refine hK _ ?_; clear hK K))) | (refine CanB.cell rfl ?_ (.int .i64 (z : Int)) (.int .i64 (z : Int)) ⟨w.heap.size, 0, none⟩ Hcx.out Hlt.out ?_ (fun K hK => ?_); (focus (go_simp; done)); (focus (intro w' hc'; go_simp; (try rfl))); go_simp; refine hK _ ?_; clear hK K) | (refine CanB.cell rfl ?_ (.slice L N d) (.slice L N d) ⟨w.heap.size, 2, none⟩ Hcz.out Hlt.out ?_ (fun K hK => ?_); (focus (go_simp; done)); (focus (intro w' hc'; go_simp; (try rfl))); go_simp; refine hK _ ?_; clear hK K))
        refine CanT.imp rfl (fun K hK => ?_)
        go_simp
        refine Calls.mono (Hw.out W Htd.out) ?_
        rintro e w7 ⟨rfl, hb7⟩
        (try go_simp)
        refine hK.out _ _ (hb7) ?_
        clear hK K
        repeat (first | (refine CanT.skip rfl ?_ (fun K hK => ?_); (focus (go_simp; done)); go_simp; refine hK _ ?_; clear hK K) | (refine CanT.pur rfl ?_ ?_; (focus (go_simp; done)); refine ⟨?_, ?_, ?_⟩; rotate_left; (focus (intro w'; go_simp; rfl)); (focus (intro K hK; go_simp; refine hK _ ?_; clear hK K))) | (refine CanB.cell rfl ?_ (.int .i64 (z : Int)) (.int .i64 (z : Int)) ⟨w.heap.size, 0, none⟩ Hcx.out Hlt.out ?_ (fun K hK => ?_); (focus (go_simp; done)); (focus (intro w' hc'; go_simp; (try rfl))); go_simp; refine hK _ ?_; clear hK K) | (refine CanB.cell rfl ?_ (.slice L N d) (.slice L N d) ⟨w.heap.size, 2, none⟩ Hcz.out Hlt.out ?_ (fun K hK => ?_); (focus (go_simp; done)); (focus (intro w' hc'; go_simp; (try rfl))); go_simp; refine hK _ ?_; clear hK K))
        refine CanT.done ?_
        go_wp2_with fail
        go_ret
        exact ⟨rfl, HBd.out.trans (hb7.mono HBd.out.size)⟩
  · obtain ⟨q, hq0⟩ : ∃ q, check size n l.length = q := ⟨_, rfl⟩
    have hnb := fun w => new_bad size n L l.length d hs hn (by omega) w q hq0 (by rw [← hq0]; exact hq)
    have hrc := fun w => rcheck_calls size n L l.length d hs hn (by omega) w
    rw [hq0] at hrc hq
    have Hnb := Lib.hid hnb
    have Hrc := Lib.hid hrc
    clear hnb hrc hq0
    go_enter Tryd.func5, Tryd.ntmps5
    go_wp2_with (first
      | (go_at_call 15; refine (Hnb.out _).mono ?_; rintro e w3 ⟨rfl, rfl⟩)
      | (go_at_call 16; refine (Hrc.out _).mono ?_; rintro e w3 ⟨rfl, rfl⟩)
      | (go_at_call 17; refine (weak_nil _ _).mono ?_; rintro e w3 ⟨rfl, rfl⟩)
      | (go_at_call 18; refine (xsize_nil _).mono ?_; rintro e w3 ⟨rfl, rfl⟩)
      | (go_at_call 19; refine (xlen_nil _).mono ?_; rintro e w3 ⟨rfl, rfl⟩)
      | (go_at_call 9; refine (Hw.out _ Htab.out).mono ?_; rintro e w5 ⟨rfl, hb5⟩))
    go_ret
    exact ⟨rfl, HA.out.trans (hb5.mono HA.out.size)⟩
end Bk
end Go.Proofs.YtcbkhbnemhkheaaDoor
/- How a row's arguments are opened: bytes that came in, read as a list of bytes; how many there may be. -/
namespace Go.Proofs.YtcbkhbnemhkheaaDoor
namespace Rk
open Go.ChangeShapes Go.WideShapes Go.ChangeAt Go.RowKit Ba
set_option linter.unusedVariables false

theorem bd_i64 {n : Int} (h : (Lit.int .i64 n).wf = true) : -9223372036854775808 ≤ n ∧ n ≤ 9223372036854775807 := by
  simpa [Lit.wf, IntKind.min, IntKind.max, IntKind.signed, IntKind.bits] using h
theorem bd_u8 {n : Int} (h : (Lit.int .u8 n).wf = true) : 0 ≤ n ∧ n ≤ 255 := by
  simpa [Lit.wf, IntKind.min, IntKind.max, IntKind.signed, IntKind.bits] using h
theorem bd_u16 {n : Int} (h : (Lit.int .u16 n).wf = true) : 0 ≤ n ∧ n ≤ 65535 := by
  simpa [Lit.wf, IntKind.min, IntKind.max, IntKind.signed, IntKind.bits] using h
theorem bd_u32 {n : Int} (h : (Lit.int .u32 n).wf = true) : 0 ≤ n ∧ n ≤ 4294967295 := by
  simpa [Lit.wf, IntKind.min, IntKind.max, IntKind.signed, IntKind.bits] using h

theorem bytes_open {H : Type} {enc : TypeId × Value → H} {P : Program} {W : World} {base : Nat} {spare : Nat → Bool} {held : Bool} {t e : TypeId} {a : Option Addr} {len cap : Nat} {d : DataW H} {ps : List MemPlace}
    (hu : P.underlying t = some (.slice e)) (he : P.underlying e = some (.int .u8)) (hc : P.cellsOf e = 1) (h : DataW.Trod enc P W base spare held t (.slice a len cap) d ps) :
    ∃ l : List UInt8, len = l.length ∧ l.length ≤ cap ∧ cap ≤ 9223372036854775807 ∧ ReadB W W.heap.size a l := by
  obtain ⟨fuel, hf⟩ := h
  rcases open_ints hu he hc hf with ⟨hcs, _⟩ | ⟨x, l, c, zs, hcs, _, hl, hm, hz, hx, hcell, hwz⟩
  · simp [Value.cells] at hcs
    obtain ⟨rfl, rfl, rfl⟩ := hcs
    exact ⟨[], rfl, by simp, by omega, ReadB.nil⟩
  · simp [Value.cells] at hcs
    obtain ⟨rfl, rfl, rfl⟩ := hcs
    have hl2 : len ≤ zs.length := by
      rw [hz]
      split
      · exact hl
      · exact Nat.le_refl _
    have hb : ∀ k, k < zs.length → ((UInt8.ofNat (zs.getD k 0).toNat).toNat : Int) = zs.getD k 0 := fun k hk => by
      have hmem : zs.getD k 0 ∈ zs := by simp [List.getD, hk]
      have := bd_u8 (hwz _ hmem)
      rw [UInt8.toNat_ofNat']
      omega
    refine ⟨(zs.take len).map fun z => UInt8.ofNat z.toNat, by simp; omega, by simp; omega, by simpa [maxLen] using hm, ?_⟩
    intro hn
    have hn2 : 0 < len := by simp at hn; omega
    have h0 : W.cell? x = some (.int .u8 (zs.getD 0 0)) := by
      have := hcell 0 (by omega)
      rwa [add_zero_] at this
    have hs : x.spot = none := by
      unfold World.cell? at h0
      split at h0
      · split at h0
        · cases h0
        · rename_i hs; simpa using hs
      · cases h0
    have hblk := block_lt_of_cell h0
    obtain ⟨b, o, s⟩ := x
    simp only at hs
    subst hs
    refine ⟨b, o, rfl, hblk, fun k hk => ?_⟩
    have hk2 : k < len := by simp at hk; omega
    have := hcell k (by omega)
    rw [add_lit_] at this
    rw [this]
    have e : (((zs.take len).map fun z => UInt8.ofNat z.toNat).getD k 0) = UInt8.ofNat (zs.getD k 0).toNat := by
      simp [List.getD, hk2, show k < zs.length by omega]
    rw [e, hb k (by omega)]

theorem sized_ints {H : Type} {enc : TypeId × Value → H} {P : Program} {W : World} {base : Nat} {spare : Nat → Bool} {held : Bool} {t e : TypeId} {k : IntKind} {a : Option Addr} {len cap : Nat} {d : DataW H} {ps : List MemPlace} {ts : List TypeId} {ds : List (DataW H)} {j : Nat}
    (hsz : (DataW.weightsEach P ts ds).all (· ≤ reachBytes) = true) (ht : ts[j]? = some t) (hd : ds[j]? = some d) (hu : P.underlying t = some (.slice e)) (he : P.underlying e = some (.int k)) (hc : P.cellsOf e = 1) {B : Nat} (hB : P.bytesOf e = B)
    (h : DataW.Trod enc P W base spare held t (.slice a len cap) d ps) : len * B ≤ 140737488351232 := by
  obtain ⟨fuel, hf⟩ := h
  rcases open_ints hu he hc hf with ⟨hcs, _⟩ | ⟨x, l, c, zs, hcs, _, hl, _, hz, hx, _, _⟩
  · simp [Value.cells] at hcs
    obtain ⟨rfl, rfl, rfl⟩ := hcs
    simp
  · simp [Value.cells] at hcs
    obtain ⟨rfl, rfl, rfl⟩ := hcs
    obtain ⟨hx, _⟩ := Prod.mk.inj hx
    subst hx
    have z := sized_slice hsz ht hd hu
    rw [hB] at z
    have hl2 : len ≤ zs.length := by
      rw [hz]
      split
      · exact hl
      · exact Nat.le_refl _
    have h1 : (lits (H := H) k (zs.take len)).length + (lits (H := H) k (zs.drop len)).length = zs.length := by
      simp [lits]
      omega
    rw [h1] at z
    exact Nat.le_trans (Nat.mul_le_mul_right _ hl2) z
end Rk
end Go.Proofs.YtcbkhbnemhkheaaDoor
/- Arguments: slices of records, structs, arrays of bytes: opened from what they read as, cell by cell. -/
namespace Go.Proofs.YtcbkhbnemhkheaaDoor
namespace Rk
open Go.ChangeShapes Go.WideShapes Go.ChangeAt Go.RowKit Ba
set_option linter.unusedVariables false
section
variable {H : Type} {enc : TypeId × Value → H} {P : Program} {W : World} {base : Nat} {spare : Nat → Bool} {held : Bool}
theorem cells_plain {x : Addr} {v : Value} (h0 : W.cell? x = some v) : ∃ b o, x = ⟨b, o, none⟩ ∧ b < W.heap.size := by
  have hs : x.spot = none := by
    unfold World.cell? at h0
    split at h0
    · split at h0
      · cases h0
      · rename_i hs; simpa using hs
    · cases h0
  have hblk := block_lt_of_cell h0
  obtain ⟨b, o, s⟩ := x
  simp only at hs
  subst hs
  exact ⟨b, o, rfl, hblk⟩
/-- a slice of records -/
theorem open_rows {α : Type} {f : α → List Value} {sz : Nat} (Wf : α → Prop) {t e : TypeId} {fuel : Nat} {cs : List Value} {x : DataW H × List MemPlace} (hu : P.underlying t = some (.slice e)) (ce : P.cellsOf e = sz) (hsz : 0 < sz)
    (hel : ∀ fuel cs x, DataW.trod enc P W base spare held fuel e cs = some x → ∃ y, cs = f y ∧ Wf y) (h1 : ∀ y, Wf y → ∀ u ∈ f y, u.oneCell' = true) (hln : ∀ y, Wf y → (f y).length = sz)
    (h : DataW.trod enc P W base spare held fuel t cs = some x) :
    ∃ (A : Option Addr) (l : List α) (c : Nat), cs = [.slice A l.length c] ∧ l.length ≤ c ∧ c ≤ 9223372036854775807 ∧ ReadRow f sz W W.heap.size A l ∧ ∀ y ∈ l, Wf y := by
  rcases Deep.open_slice hu h with ⟨hcs, _⟩ | ⟨a, len, cap, m, n, D, Pl, hcs, _, hl, hm, hmm, hx0, hcell⟩
  · exact ⟨none, [], 0, hcs, by simp, by omega, ReadRow.nil, by simp⟩
  · have hl2 : len ≤ m := by rw [hmm]; split <;> omega
    have key : ∀ i, i < len → ∃ y, Wf y ∧ ∀ j u, (f y)[j]? = some u → W.cell? (a.add (i * sz + j)) = some u := fun i hi => by
      obtain ⟨cs', q1, q2⟩ := hcell i (by omega)
      obtain ⟨y, rfl, hy⟩ := hel _ _ _ q2
      obtain ⟨_, q3, q4⟩ := World.cells?_some q1
      rw [ce] at q3 q4
      refine ⟨y, hy, fun j u hj => ?_⟩
      have hjs : j < sz := by
        rcases Nat.lt_or_ge j sz with h | h
        · exact h
        · rw [List.getElem?_eq_none (by omega)] at hj; cases hj
      rw [← add_of_add, q4 j hjs]
      exact hj
    have hex : ∃ l : List α, l.length = len ∧ ∀ i y, l[i]? = some y → Wf y ∧ ∀ j u, (f y)[j]? = some u → W.cell? (a.add (i * sz + j)) = some u := by
      clear hcs hl hm hmm hcell hl2 hx0
      induction len with
      | zero => exact ⟨[], rfl, by simp⟩
      | succ k ih =>
        obtain ⟨l, h1, h2⟩ := ih (fun i hi => key i (by omega))
        obtain ⟨y, h3, h4⟩ := key k (by omega)
        refine ⟨l ++ [y], by simp [h1], fun i z hz => ?_⟩
        rcases Nat.lt_or_ge i l.length with h | h
        · rw [List.getElem?_append_left h] at hz
          exact h2 i z hz
        · rw [List.getElem?_append_right h] at hz
          have h0 : i - l.length = 0 := by
            rcases Nat.eq_zero_or_pos (i - l.length) with h | h
            · exact h
            · rw [List.getElem?_eq_none (by simp; omega)] at hz; cases hz
          rw [h0] at hz
          simp at hz
          subst hz
          have : i = k := by omega
          subst this
          exact ⟨h3, h4⟩
    obtain ⟨l, hl3, hl4⟩ := hex
    have hwf : ∀ y ∈ l, Wf y := fun y hy => by
      obtain ⟨i, hi⟩ := List.getElem?_of_mem hy
      exact (hl4 i y hi).1
    have hR : RWf f sz l := fun y hy => ⟨hln y (hwf y hy), h1 y (hwf y hy)⟩
    subst hl3
    refine ⟨some a, l, cap, hcs, hl, by simpa [maxLen] using hm, ⟨hR, fun hn => ?_⟩, hwf⟩
    have hc0 : ∀ j u, (rows f l)[j]? = some u → W.cell? (a.add j) = some u := fun j u hu => by
      have hj : j < l.length * sz := by
        rcases Nat.lt_or_ge j (l.length * sz) with h | h
        · exact h
        · rw [List.getElem?_eq_none (by rw [rows_len hR]; exact h)] at hu; cases hu
      have hd : j / sz < l.length := Nat.div_lt_of_lt_mul (by rw [Nat.mul_comm]; exact hj)
      have e : j = j / sz * sz + j % sz := by rw [Nat.mul_comm]; exact (Nat.div_add_mod j sz).symm
      have hg := rows_get hR (List.getElem?_eq_getElem hd) (j % sz) (Nat.mod_lt _ hsz)
      rw [← e, hu] at hg
      have := (hl4 _ _ (List.getElem?_eq_getElem hd)).2 (j % sz) u hg.symm
      rwa [← e] at this
    obtain ⟨u0, hu0⟩ : ∃ u, (rows f l)[0]? = some u := by
      have : 0 < (rows f l).length := by rw [rows_len hR]; exact Nat.mul_pos hn hsz
      exact ⟨_, List.getElem?_eq_getElem this⟩
    have h00 := hc0 0 u0 hu0
    rw [add_zero_] at h00
    obtain ⟨b, o, rfl, hb⟩ := cells_plain h00
    exact ⟨b, o, rfl, hb, fun j u hu => by rw [← add_lit_]; exact hc0 j u hu⟩
/-- an array of bytes -/
theorem open_arr {t e : TypeId} {n fuel : Nat} {cs : List Value} {x : DataW H × List MemPlace} (hu : P.underlying t = some (.array n e)) (he : P.underlying e = some (.int .u8)) (ce : P.cellsOf e = 1) (ct : P.cellsOf t = n)
    (h : DataW.trod enc P W base spare held fuel t cs = some x) : ∃ l : List UInt8, cs = bvs l ∧ l.length = n := by
  obtain ⟨xs, m, rfl, _, hl, hxs, hi⟩ := DataW.trod_array hu h
  have hcl : cs.length = n := by omega
  have key : ∀ i, i < n → ∃ b : UInt8, cs[i]? = some (bv b) := fun i hin => by
    have h1 := hi i hin
    rw [ce, Nat.mul_one, List.getElem?_eq_getElem (show i < xs.length by omega)] at h1
    obtain ⟨z, e0, _, w0⟩ := DataW.trod_int he h1
    have hb := bd_u8 w0
    have hil : i < cs.length := by omega
    have e1 : (cs.drop i).take 1 = [cs[i]] := by
      rw [List.drop_eq_getElem_cons hil]; rfl
    rw [e1] at e0
    injection e0 with e0
    refine ⟨UInt8.ofNat z.toNat, ?_⟩
    rw [List.getElem?_eq_getElem hil, e0]
    unfold bv
    rw [UInt8.toNat_ofNat']
    congr 2
    omega
  refine ⟨(List.range n).map fun i => if hin : i < n then (key i hin).choose else 0, ?_, by simp⟩
  refine List.ext_getElem? fun i => ?_
  by_cases hin : i < n
  · rw [(key i hin).choose_spec]
    simp [bvs, hin]
  · rw [List.getElem?_eq_none (by omega), List.getElem?_eq_none (by simp [bvs]; omega)]
/-- a struct's field -/
theorem open_field {t : TypeId} {fs : Array Field} {fuel : Nat} {cs : List Value} {x : DataW H × List MemPlace} (ht : P.underlying t = some (.struct fs)) (h : DataW.trod enc P W base spare held fuel t cs = some x) :
    cs.length = P.cellsOf t ∧ ∀ (i : Nat) (f : Field), fs[i]? = some f → ∃ m y, DataW.trod enc P W base spare held m f.type ((cs.drop f.offset).take (P.cellsOf f.type)) = some y := by
  obtain ⟨xs, m, rfl, _, hl, hxs, hi⟩ := DataW.trod_struct ht h
  refine ⟨hl, fun i f hf => ?_⟩
  have hil : i < xs.length := by
    rw [hxs]
    exact (Array.getElem?_eq_some_iff.1 hf).1
  have := hi i f hf
  rw [List.getElem?_eq_getElem hil] at this
  exact ⟨m, _, this⟩
/-- a struct by value has its cells -/
theorem agg_of {b2 : Nat} {t : TypeId} {fs : Array Field} {v : Value} (ht : P.underlying t = some (.struct fs)) (hv : Value.okWide P W .any b2 t v) : ∃ cs, v = .agg cs := by
  unfold Value.okWide at hv
  simp only [ht] at hv
  obtain ⟨cs, h1, _⟩ := hv
  exact ⟨cs, h1⟩
end
end Rk
end Go.Proofs.YtcbkhbnemhkheaaDoor
/- Arguments: sums. -/
namespace Go.Proofs.YtcbkhbnemhkheaaDoor
namespace Rk
open Go.ChangeShapes Go.WideShapes Go.ChangeAt Go.RowKit Ba Bk
set_option linter.unusedVariables false
theorem sigF : (Tryd.prog.fieldsOf 49).toList.map (fun f => (f.type, f.offset)) = [(33, 0), (47, 1)] := by kernel_rfl
theorem sumsF : (Tryd.prog.fieldsOf 36).toList.map (fun f => (f.type, f.offset)) = [(3, 0), (3, 1), (24, 2)] := by kernel_rfl
theorem fields_at {P : Program} {t : TypeId} {l : List (TypeId × Nat)} (h : (P.fieldsOf t).toList.map (fun f => (f.type, f.offset)) = l) (i : Nat) (a : TypeId) (o : Nat) (hi : l[i]? = some (a, o)) : ∃ f, (P.fieldsOf t)[i]? = some f ∧ f.type = a ∧ f.offset = o := by
  subst h
  rw [List.getElem?_map] at hi
  obtain ⟨f, hf, e⟩ := Option.map_eq_some_iff.1 hi
  simp only [Prod.mk.injEq] at e
  exact ⟨f, by rw [← Array.getElem?_toList]; exact hf, e.1, e.2⟩
section
variable {H : Type} {enc : TypeId × Value → H} {W : World} {base : Nat} {spare : Nat → Bool} {held : Bool}
theorem open_sig {fuel : Nat} {cs : List Value} {x : DataW H × List MemPlace} (h : DataW.trod enc Tryd.prog W base spare held fuel 49 cs = some x) : ∃ s : Sg, cs = sgv s ∧ WfS s := by
  obtain ⟨hl, hf⟩ := open_field (t := 49) (fs := Tryd.prog.fieldsOf 49) (by kernel_rfl) h
  obtain ⟨f0, g0, t0, o0⟩ := fields_at sigF 0 33 0 rfl
  obtain ⟨f1, g1, t1, o1⟩ := fields_at sigF 1 47 1 rfl
  obtain ⟨m0, y0, h0⟩ := hf 0 f0 g0
  obtain ⟨m1, y1, h1⟩ := hf 1 f1 g1
  rw [t0, o0, show Tryd.prog.cellsOf 33 = 1 by kernel_rfl] at h0
  rw [t1, o1, show Tryd.prog.cellsOf 47 = 32 by kernel_rfl] at h1
  rw [show Tryd.prog.cellsOf 49 = 33 by kernel_rfl] at hl
  obtain ⟨z, e0, _, w0⟩ := DataW.trod_int Tryd.underlying33 h0
  obtain ⟨b, e1, hb⟩ := open_arr Tryd.underlying47 Tryd.underlying5 (by kernel_rfl) (by kernel_rfl) h1
  have hz := bd_u32 w0
  refine ⟨(z.toNat, b), ?_, by simp only; omega, hb⟩
  unfold sgv
  have e : cs = cs.take 1 ++ (cs.drop 1).take 32 := by
    rw [List.take_of_length_le (l := cs.drop 1) (by rw [List.length_drop]; omega), List.take_append_drop]
  rw [List.drop_zero] at e0
  rw [e, e0, e1]
  have : ((z.toNat : Nat) : Int) = z := by omega
  simp [this]
set_option maxRecDepth 100000 in
theorem sums_open {b2 : Nat} {v : Value} {d : DataW H} {ps : List MemPlace} (hv : Value.okWide Tryd.prog W .any b2 36 v) (h : DataW.Trod enc Tryd.prog W base spare held 36 v d ps) :
    ∃ (size n : Int) (l : List Sg) (A : Option Addr) (c : Nat), v = .agg #[.int .i64 size, .int .i64 n, .slice A l.length c] ∧ (-9223372036854775808 ≤ size ∧ size ≤ 9223372036854775807) ∧ (-9223372036854775808 ≤ n ∧ n ≤ 9223372036854775807) ∧
      l.length ≤ c ∧ c ≤ 9223372036854775807 ∧ ReadRow sgv 33 W W.heap.size A l ∧ ∀ s ∈ l, WfS s := by
  obtain ⟨cs, rfl⟩ := agg_of (t := 36) (fs := Tryd.prog.fieldsOf 36) (by kernel_rfl) hv
  obtain ⟨fuel, h⟩ := h
  have hcs : (Value.agg cs).cells.toList = cs.toList := rfl
  rw [hcs] at h
  obtain ⟨hl, hf⟩ := open_field (t := 36) (fs := Tryd.prog.fieldsOf 36) (by kernel_rfl) h
  obtain ⟨f0, g0, t0, o0⟩ := fields_at sumsF 0 3 0 rfl
  obtain ⟨f1, g1, t1, o1⟩ := fields_at sumsF 1 3 1 rfl
  obtain ⟨f2, g2, t2, o2⟩ := fields_at sumsF 2 24 2 rfl
  obtain ⟨m0, y0, h0⟩ := hf 0 f0 g0
  obtain ⟨m1, y1, h1⟩ := hf 1 f1 g1
  obtain ⟨m2, y2, h2⟩ := hf 2 f2 g2
  rw [t0, o0, show Tryd.prog.cellsOf 3 = 1 by kernel_rfl] at h0
  rw [t1, o1, show Tryd.prog.cellsOf 3 = 1 by kernel_rfl] at h1
  rw [t2, o2, show Tryd.prog.cellsOf 24 = 1 by kernel_rfl] at h2
  rw [show Tryd.prog.cellsOf 36 = 3 by kernel_rfl] at hl
  obtain ⟨z0, e0, _, w0⟩ := DataW.trod_int Tryd.underlying3 h0
  obtain ⟨z1, e1, _, w1⟩ := DataW.trod_int Tryd.underlying3 h1
  obtain ⟨A, l, c, e2, q1, q2, q3, q4⟩ := open_rows (f := sgv) (sz := 33) WfS Tryd.underlying24 (by kernel_rfl) (by omega) (fun fuel cs x hx => open_sig hx) (fun y _ => sgv_one y) (fun y hy => sgv_len hy.2) h2
  refine ⟨z0, z1, l, A, c, ?_, bd_i64 w0, bd_i64 w1, q1, q2, q3, q4⟩
  congr 1
  apply Array.ext'
  generalize cs.toList = L at *
  match L, hl with
  | [x, y, z], _ =>
    simp at e0 e1 e2
    rw [e0, e1, e2]
end
end Rk
end Go.Proofs.YtcbkhbnemhkheaaDoor
/- What the listed variable gives the walks: the round words lie in it; and the start's own heap meets the condition. -/
namespace Go.Proofs.YtcbkhbnemhkheaaDoor
namespace Ld
open Go.ChangeShapes Go.WideShapes Go.ChangeAt Go.RowKit Sm Ba
set_option linter.unusedVariables false
def laid1 : List (String × DataW Unit) := [("sumpter/sha.rounds", Rows.laid_sumpter_sha_rounds)]
theorem gN : Tryd.prog.globalNamed "sumpter/sha.rounds" = some 0 := by kernel_rfl
theorem gT : (Tryd.prog.globals[0]?).map (·.type) = some 100 := by kernel_rfl
def zs : List Int := rounds.map U
set_option maxRecDepth 100000 in
theorem datum_eq : (Rows.laid_sumpter_sha_rounds : DataW Unit) = Lib.tabData .u32 zs := by rfl
set_option maxRecDepth 100000 in
theorem door_met (os : Os) (args : Array Value) : laidMetH Tryd.prog laid1 ((World.doorLaid Tryd.prog 14 os).forCall (fun _ _ => 0) ⟨#[], args, []⟩).memory :=
  laidMetH_of_parts3 (fuel := 8) (laidMet_of_run' 8 (by kernel_rfl) (by kernel_rfl)) (by kernel_rfl) (by kernel_rfl)
set_option maxRecDepth 100000 in
theorem tab_of_laid {W : World} (h : laidMetH Tryd.prog laid1 W) : Tab W := by
  rw [MakeChecks.laidMetH_plain _ _ _ (by kernel_rfl)] at h
  unfold laid1 at h
  rw [datum_eq] at h
  have hT := Lib.tabIs_of_head gN gT Tryd.underlying100 Tryd.underlying33 (by kernel_rfl) (by kernel_rfl) h
  have hc : ∀ j, j < 64 → W.cell? ⟨0, j, none⟩ = some (.int .u32 (U (Sm.g rounds j))) := fun j hj => by
    have := hT.cell gN j hj
    rw [this]
    congr 2
    unfold zs Sm.g
    have hl : rounds.length = 64 := rfl
    simp only [List.getD_eq_getElem?_getD, List.getElem?_map]
    rw [List.getElem?_eq_getElem (by omega)]
    rfl
  refine ⟨block_lt_of_cell (hc 0 (by omega)), fun j v hv => ?_⟩
  have hj : j < 64 := by
    rcases Nat.lt_or_ge j 64 with h1 | h1
    · exact h1
    · rw [List.getElem?_eq_none (by rw [wvs_len]; exact h1)] at hv; cases hv
  rw [Nat.zero_add, hc j hj, ← hv]
  have hl : rounds.length = 64 := rfl
  unfold wvs Sm.g
  rw [List.getElem?_map, List.getElem?_eq_getElem (by omega), List.getD_eq_getElem?_getD, List.getElem?_eq_getElem (by omega)]
  rfl
end Ld
end Go.Proofs.YtcbkhbnemhkheaaDoor
