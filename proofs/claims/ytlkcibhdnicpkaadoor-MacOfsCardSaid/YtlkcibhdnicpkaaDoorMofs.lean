/- Any key and bytes, in any two parts, have the sum that the document says: the walk of the statement. -/
import Derived.Test.YtlkcibhdnicpkaaDoorMawk
import Derived.Test.YtlkcibhdnicpkaaDoorSk
namespace Go.Proofs.YtlkcibhdnicpkaaDoor
namespace Mc
open Go.RowKit Ba Sm
set_option linter.unusedVariables false
set_option maxRecDepth 100000 in
set_option maxHeartbeats 4000000 in
theorem macOfs_calls (k b : List UInt8) (A B : Option Addr) (c d : Nat) (cut : Int) (hc0 : 0 ≤ cut) (hc1 : cut ≤ 65535) (hkc : k.length ≤ c) (hkm : c ≤ 9223372036854775807) (hbd : b.length ≤ d) (hbm : d ≤ 9223372036854775807) (w : World) (htab : Tab w) (hr : ReadB w w.heap.size A k) (hrb : ReadB w w.heap.size B b) :
    Calls Tryd.prog 8 #[.slice A k.length c, .slice B b.length d, .int .u16 cut] w fun e w' => e = .returned (.bool true) ∧ Below w.heap.size w w' := by
  have hw := awake_calls
  have Hw := Lib.hid hw
  have Hr := Lib.hid hr
  have Hb := Lib.hid hrb
  have Htab := Lib.hid htab
  clear hw hr htab hrb
  by_cases h1 : 200 < k.length
  · have g1 : decide (200 < (k.length : Int)) = true := by rw [decide_eq_true_eq]; omega
    go_enter Tryd.func8, Tryd.ntmps8
    go_wp2_with (go_at_call 27; refine (Hw.out _ Htab.out).mono ?_; rintro e w5 ⟨rfl, hb5⟩)
    go_ret
    exact ⟨rfl, hb5⟩
  by_cases h2 : 200 < b.length
  · have g1 : decide (200 < (b.length : Int)) = true := by rw [decide_eq_true_eq]; omega
    have g2 : decide (200 < (k.length : Int)) = false := by rw [decide_eq_false_iff_not]; omega
    go_enter Tryd.func8, Tryd.ntmps8
    go_wp2_with (go_at_call 27; refine (Hw.out _ Htab.out).mono ?_; rintro e w5 ⟨rfl, hb5⟩)
    go_ret
    exact ⟨rfl, hb5⟩
  have g1 : decide (200 < (b.length : Int)) = false := by rw [decide_eq_false_iff_not]; omega
  have g2 : decide (200 < (k.length : Int)) = false := by rw [decide_eq_false_iff_not]; omega
  obtain ⟨j, hj⟩ : ∃ j : Nat, cut % ((b.length : Int) + 1) = (j : Int) := ⟨(cut % ((b.length : Int) + 1)).toNat, by rw [Int.toNat_of_nonneg (Int.emod_nonneg _ (by omega))]⟩
  have hjl : j ≤ b.length := by have := Int.emod_lt_of_pos cut (show (0 : Int) < (b.length : Int) + 1 by omega); omega
  have hjd : j ≤ d := by omega
  have z1 : (0 : Int) ≤ (j : Int) := by omega
  have z2 : (j : Int) ≤ (b.length : Int) := by omega
  have z3 : (j : Int) ≤ (d : Int) := by omega
  have Hj := Lib.hid hj
  clear hj
  go_enter Tryd.func8, Tryd.ntmps8
  go_wp2_with fail
  rw [Hj.out]
  have HB := Lib.hid (Below.refl w.heap.size w).drew
  have Hr1 : Hid (ReadB w.drew w.drew.heap.size A k) := Hr
  have Hb1 : Hid (ReadB w.drew w.drew.heap.size B b) := Hb
  have Ht1 : Hid (Tab w.drew) := Lib.hid (tab_drew Htab.out)
  have hlo := hmac_len k b
  obtain ⟨H, hH⟩ : ∃ H, H = hmac k b := ⟨_, rfl⟩
  rw [← hH] at hlo
  have heq : ∀ w', (binOp .eql 26 (.agg (bvs H).toArray) (.agg (bvs H).toArray)).run Tryd.prog w' = .ok (.bool true) w' := fun w' => by rw [Sk.run_eqB H H hlo hlo w', beq_self_eq_true]
  have HH := Lib.hid hH
  clear hH hlo Hr Hb Htab
  refine CanB.region 1000 (.op 0 2 (.op 1 2 (.op 2 2 (.op 3 2 (.op 4 2 (.op 5 2 (.op 6 2 (.op 9 2 (.op 10 2 (.op 7 0 (.op 8 0 (.op 11 0 (.op 12 2 (.op 13 2 (.op 14 0 (.op 15 2 (.op 16 2 (.nil)))))))))))))))))) (by kernel_rfl) (by kernel_rfl) ?_
  generalize w.drew = W at *
  repeat (first | (refine CanT.skip rfl ?_ (fun K hK => ?_); (focus (go_simp; done)); go_simp; refine hK _ ?_; clear hK K) | (refine CanT.pur rfl ?_ ?_; (focus (go_simp; done)); refine ⟨?_, ?_, ?_⟩; rotate_left; (focus (intro w'; go_simp; rfl)); (focus (intro K hK; go_simp; refine hK _ ?_; clear hK K))))
  have hflat : [b.take j, b.drop j].flatten = b := by simp
  have Hflat := Lib.hid hflat
  have hcut : ReadB W W.heap.size (if d = j then B else B.map (·.add j)) (b.drop j) := Hb1.out.cut (k := j) hbd
  have hbb : ReadBB (W.alloc (.cells #[.slice B j d, .slice (if d = j then B else B.map (·.add j)) (b.length - j) (d - j)] 22)) (W.heap.size + 1) (some ⟨W.heap.size, 0, none⟩) [b.take j, b.drop j] :=
    ReadBB.lit2 W 22 B _ j d (b.length - j) (d - j) (b.take j) (b.drop j) W.heap.size W.heap.size rfl (Nat.le_refl _) (by rw [List.length_take]; omega) (by rw [List.length_drop]) (Hb1.out.take j) hcut (by rw [List.length_take]; omega) (by rw [List.length_drop]; omega) hbm (by omega)
  have Hbb := Lib.hid hbb
  have HF2 := Lib.hid ((Below.refl W.heap.size W).alloc (Nat.le_refl _) (.cells #[.slice B j d, .slice (if d = j then B else B.map (·.add j)) (b.length - j) (d - j)] 22))
  clear hbb hflat hcut
  refine CanT.imp rfl (fun J hJ => ?_)
  go_simp
  refine hJ.out _ _ HF2.out ?_
  clear hJ J
  refine CanT.imp rfl (fun J hJ => ?_)
  go_simp
  refine (mofN (ps := [b.take j, b.drop j]) rfl rfl ((Hr1.out.below HF2.out).more HF2.out.size) (by simpa using Hbb.out) (Ht1.out.below HF2.out) hkc hkm (by omega) (by simp) (by omega) (by intro p hp; simp at hp; rcases hp with rfl | rfl <;> simp <;> omega) (by rw [Hflat.out]; omega)).mono ?_
  rw [Hflat.out, ← HH.out]
  rintro e w3 ⟨rfl, hb3⟩
  have hF3 := bthen HF2.out hb3
  have HF3 := Lib.hid hF3
  clear hb3
  go_simp
  refine hJ.out _ _ hF3 ?_
  clear hJ J hF3
  refine CanT.imp rfl (fun J hJ => ?_)
  go_simp
  refine (rmof_calls k b A B c d w3 ((Hr1.out.below HF3.out).more HF3.out.size) ((Hb1.out.below HF3.out).more HF3.out.size) hkc (by omega) (by omega)).mono ?_
  rw [← HH.out]
  rintro e w4 ⟨rfl, hb4⟩
  have hF4 := bthen HF3.out hb4
  have HF4 := Lib.hid hF4
  clear hb4
  go_simp
  refine hJ.out _ _ hF4 ?_
  clear hJ J hF4
  repeat (first | (refine CanT.skip rfl ?_ (fun K hK => ?_); (focus (go_simp; done)); go_simp; refine hK _ ?_; clear hK K) | (refine CanT.pur rfl ?_ ?_; (focus (go_simp; done)); refine ⟨?_, ?_, ?_⟩; rotate_left; (focus (intro w'; go_simp; rfl)); (focus (intro K hK; go_simp; refine hK _ ?_; clear hK K))))
  refine CanT.imp rfl (fun J hJ => ?_)
  go_simp
  refine (Hw.out w4 (Ht1.out.below HF4.out)).mono ?_
  rintro e w5 ⟨rfl, hb5⟩
  have hF5 := bthen HF4.out hb5
  have HF5 := Lib.hid hF5
  clear hb5
  go_simp
  refine hJ.out _ _ hF5 ?_
  clear hJ J hF5
  repeat (first | (refine CanT.skip rfl ?_ (fun K hK => ?_); (focus (go_simp; done)); go_simp; refine hK _ ?_; clear hK K) | (refine CanT.pur rfl ?_ ?_; (focus (go_simp; done)); refine ⟨?_, ?_, ?_⟩; rotate_left; (focus (intro w'; go_simp; rfl)); (focus (intro K hK; go_simp; refine hK _ ?_; clear hK K))))
  refine CanT.done ?_
  go_wp2
  all_goals
    go_ret
    exact ⟨rfl, HB.out.trans (HF5.out.mono HB.out.size)⟩
end Mc
end Go.Proofs.YtlkcibhdnicpkaaDoor
