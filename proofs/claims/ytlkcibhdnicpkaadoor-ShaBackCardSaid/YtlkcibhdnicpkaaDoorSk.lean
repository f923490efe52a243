/- The closed case: the sum that everybody knows. -/
import Derived.Test.YtlkcibhdnicpkaaDoorSk0
import Derived.Test.YtlkcibhdnicpkaaDoorHp2
import Derived.Stop.BytesEq
import Derived.Test.YtlkcibhdnicpkaaDoorCanT
import Derived.Test.YtlkcibhdnicpkaaDoorLit
namespace Go.Proofs.YtlkcibhdnicpkaaDoor
namespace Sk
open Go.RowKit Ba Sm Hx
set_option linter.unusedVariables false
def abcText : List UInt8 := [98, 97, 55, 56, 49, 54, 98, 102, 56, 102, 48, 49, 99, 102, 101, 97, 52, 49, 52, 49, 52, 48, 100, 101, 53, 100, 97, 101, 50, 50, 50, 51, 98, 48, 48, 51, 54, 49, 97, 51, 57, 54, 49, 55, 55, 97, 57, 99, 98, 52, 49, 48, 102, 102, 54, 49, 102, 50, 48, 48, 49, 53, 97, 100]
set_option maxRecDepth 100000 in
theorem abc_parse : parse abcText = (sha [97, 98, 99], 0) := by rw [Sm.abc]; decide +kernel
theorem run_eqB (a b : List UInt8) (ha : a.length = 32) (hb : b.length = 32) (w : World) : (binOp .eql 26 (.agg (bvs a).toArray) (.agg (bvs b).toArray)).run Tryd.prog w = .ok (.bool (a == b)) w :=
  run_eql_bytes w 26 5 32 Tryd.underlying26 Tryd.underlying5 (fun w => by kernel_rfl) a b ha hb
theorem run_neB (a b : List UInt8) (ha : a.length = 32) (hb : b.length = 32) (w : World) : (binOp .neq 26 (.agg (bvs a).toArray) (.agg (bvs b).toArray)).run Tryd.prog w = .ok (.bool (!(a == b))) w := by
  rw [run_neq_struct]
  have := run_eqB a b ha hb w
  rw [run_eql_struct] at this
  cases h : (Op.equalIn 10000 26 (.agg (bvs a).toArray) (.agg (bvs b).toArray)).run Tryd.prog w with
  | ok r w1 =>
    rw [h] at this
    simp only [Result.andThen_ok, Result.ok.injEq, Value.bool.injEq] at this
    obtain ⟨h1, h2⟩ := this
    simp only [Result.andThen_ok]
    rw [h1, h2]
  | halt x w1 =>
    rw [h] at this
    simp [Result.andThen] at this
theorem range_below {w w' : World} {B g o : Nat} {cs : List Value} (h : w.rangeAt g o cs) (hb : Below B w w') (hg : g < B) : w'.rangeAt g o cs := fun j v hv => (hb.cell (p := ⟨g, o + j, none⟩) hg).trans (h j v hv)
set_option maxRecDepth 100000 in
set_option maxHeartbeats 4000000 in
theorem awake_calls (w : World) (htab : Tab w) : Calls Tryd.prog 13 #[] w fun e w' => e = .returned (.bool true) ∧ Below w.heap.size w w' := by
  have hpc := parse_calls abcText w
  rw [abc_parse] at hpc
  have hsl := hash_len [97, 98, 99]
  have hne : (sha [97, 98, 99] == List.replicate 32 0) = false := by rw [Sm.abc]; decide +kernel
  have hoc1 := fun W h => abc_1 W h
  have hoc2 := fun W h => abc_2 W h
  have hoc3 := fun W h => abc_3 W h
  have hoc4 := fun W h => abc_4 W h
  have hoc5 := fun W h => abc_5 W h
  have hoc6 := fun W h => abc_6 W h
  generalize hH : sha [97, 98, 99] = H at *
  have heq : ∀ w', (binOp .eql 26 (.agg (bvs H).toArray) (.agg (bvs H).toArray)).run Tryd.prog w' = .ok (.bool true) w' := fun w' => by rw [run_eqB H H hsl hsl w', beq_self_eq_true]
  have hneq : ∀ w', (binOp .neq 26 (.agg (bvs H).toArray) (.agg (bvs (List.replicate 32 0)).toArray)).run Tryd.prog w' = .ok (.bool true) w' := fun w' => by rw [run_neB H _ hsl rfl w', hne]; rfl
  rw [← rep32] at hneq
  have Hpc := Lib.hid hpc
  have Hoc1 := Lib.hid hoc1
  have Hoc2 := Lib.hid hoc2
  have Hoc3 := Lib.hid hoc3
  have Hoc4 := Lib.hid hoc4
  have Hoc5 := Lib.hid hoc5
  have Hoc6 := Lib.hid hoc6
  have Hsl := Lib.hid hsl
  have Htab := Lib.hid htab
  clear hpc hoc1 hoc2 hoc3 hoc4 hoc5 hoc6 hsl htab hH hne
  go_enter Tryd.func13, Tryd.ntmps13
  go_wp2_with (first
    | (go_at_call 21; refine Hpc.out.mono ?_; rintro e w1 ⟨rfl, hb1⟩; have Hb1 := Lib.hid hb1; clear hb1)
    | (refine wpList_store_blk rfl 26 (.tmp 1) (.tmp 5) rfl w1.heap.size 0 26 [] (bvs (List.replicate 32 0)) [] (bvs H) rfl rfl (by rw [rep32]; exact heap_alloc_new _ _) rfl (by rw [bvs_length, bvs_length, Hsl.out]; rfl) (by rw [bvs_length, Hsl.out]; kernel_rfl) (bvs_one _) ?_; intro w2 hX2 hg2))
  have hX : w2.rangeAt w1.heap.size 0 (bvs H) := Blk.range [] (bvs H) [] hX2
  have hXB : Blk w2 w1.heap.size 26 (bvs H).toArray := by simpa using hX2
  have hbw : Below w.heap.size w w2 := (Hb1.out.alloc Hb1.out.size _).trans (below_of_only hg2 Hb1.out.size (by have := Hb1.out.size; simp; omega))
  have htab2 : Tab w2 := Htab.out.below hbw
  have HXB := Lib.hid hXB
  have Hbw := Lib.hid hbw
  have Htab2 := Lib.hid htab2
  have hu := Tryd.underlying26
  have hi : (Tryd.prog.info? 26).map (·.size) = some (bvs H).length := by rw [bvs_length, Hsl.out]; kernel_rfl
  have hone := bvs_one H
  clear hX2 hXB hg2 hbw htab2 Hpc
  generalize w1.heap.size = gx at *
  have HX := Lib.hid hX
  have hgx := HXB.out.lt
  have Hgx := Lib.hid hgx
  clear hgx
  have hcv := fun (g n c : Nat) (w' : World) => Li.conv_run (P := Tryd.prog) 22 5 Tryd.underlying22 Tryd.underlying5 g n c w'
  have hms := Li.mkB_size
  go_wp2_with fail
  refine CanT.region (fun w' => w'.rangeAt gx 0 (bvs H)) 1000 (.op 6 1 (.fork (.op 0 0 (.fork (.op 1 0 (.op 2 0 (.op 3 0 (.op 4 0 (.op 5 0 (.op 7 2 (.op 8 2 (.op 9 2 (.op 10 2 (.op 11 2 (.op 12 2 (.op 13 1 (.op 14 2 (.op 15 2 (.op 16 2 (.op 17 2 (.op 18 2 (.op 19 2 (.nil))))))))))))))))))) (.op 2 0 (.fork (.op 1 0 (.op 3 0 (.op 4 0 (.op 5 0 (.op 7 2 (.op 8 2 (.op 9 2 (.op 10 2 (.op 11 2 (.op 12 2 (.op 13 1 (.op 14 2 (.op 15 2 (.op 16 2 (.op 17 2 (.op 18 2 (.op 19 2 (.nil)))))))))))))))))) (.op 3 0 (.op 1 0 (.op 4 0 (.op 5 0 (.op 7 2 (.op 8 2 (.op 9 2 (.op 10 2 (.op 11 2 (.op 12 2 (.op 13 1 (.op 14 2 (.op 15 2 (.op 16 2 (.op 17 2 (.op 18 2 (.op 19 2 (.nil)))))))))))))))))))))) (.op 2 0 (.fork (.op 0 0 (.fork (.op 1 0 (.op 3 0 (.op 4 0 (.op 5 0 (.op 7 2 (.op 8 2 (.op 9 2 (.op 10 2 (.op 11 2 (.op 12 2 (.op 13 1 (.op 14 2 (.op 15 2 (.op 16 2 (.op 17 2 (.op 18 2 (.op 19 2 (.nil)))))))))))))))))) (.op 3 0 (.op 1 0 (.op 4 0 (.op 5 0 (.op 7 2 (.op 8 2 (.op 9 2 (.op 10 2 (.op 11 2 (.op 12 2 (.op 13 1 (.op 14 2 (.op 15 2 (.op 16 2 (.op 17 2 (.op 18 2 (.op 19 2 (.nil)))))))))))))))))))) (.op 3 0 (.op 0 0 (.op 1 0 (.op 4 0 (.op 5 0 (.op 7 2 (.op 8 2 (.op 9 2 (.op 10 2 (.op 11 2 (.op 12 2 (.op 13 1 (.op 14 2 (.op 15 2 (.op 16 2 (.op 17 2 (.op 18 2 (.op 19 2 (.nil))))))))))))))))))))))) (by kernel_rfl) (by kernel_rfl) HX.out ?_
  have HXd : Hid (w2.drew.rangeAt gx 0 (bvs H)) := HX
  have HtabW : Hid (Tab w2.drew) := Lib.hid ⟨Htab2.out.1, Htab2.out.2⟩
  have HgxW : Hid (gx < w2.drew.heap.size) := Hgx
  have HbW : Hid (Below w.heap.size w w2.drew) := Lib.hid Hbw.out.drew
  clear HX Htab2 Hgx Hbw HXB
  generalize w2.drew = W at *
  refine CanT.heldR rfl ?_ 26 (.tmp 1) rfl gx 0 (bvs H) rfl (fun w' h => h) _ Tryd.underlying26 rfl (by rw [bvs_length, Hsl.out]; kernel_rfl) (fun K hK => ?_); (focus (go_simp; done)); go_simp; refine hK _ ?_; clear hK K
  repeat (any_goals (first | (refine CanT.both ?_ ?_) | (refine CanT.heldR rfl ?_ 26 (.tmp 1) rfl gx 0 (bvs H) rfl (fun w' h => h) _ Tryd.underlying26 rfl (by rw [bvs_length, Hsl.out]; kernel_rfl) (fun K hK => ?_); (focus (go_simp; done)); go_simp; refine hK _ ?_; clear hK K) | (refine CanT.skip rfl ?_ (fun K hK => ?_); (focus (go_simp; done)); go_simp; refine hK _ ?_; clear hK K) | (refine CanT.pur rfl ?_ ?_; (focus (go_simp; done)); refine ⟨?_, ?_, ?_⟩; rotate_left; (focus (intro w'; go_simp; rfl)); (focus (intro K hK; go_simp; refine hK _ ?_; clear hK K))) | (refine CanT.held rfl ?_ ?_; (focus (go_simp; done)); refine ⟨?_, ?_, ?_⟩; rotate_left; (focus (intro w' hS'; (try dsimp only at hS'); go_simp; rfl)); (focus (intro K hK; go_simp; refine hK _ ?_; clear hK K))) | (refine CanT.last rfl (fun K hK => ?_); go_simp; refine hK.out _ _ ?_; clear hK K) | (refine CanT.imp rfl (fun K hK => ?_); go_simp; (first | (go_at_call 14; (first | (with_reducible refine Calls.mono (Hoc1.out W HtabW.out) ?_) | (with_reducible refine Calls.mono (Hoc2.out W HtabW.out) ?_) | (with_reducible refine Calls.mono (Hoc3.out W HtabW.out) ?_) | (with_reducible refine Calls.mono (Hoc4.out W HtabW.out) ?_) | (with_reducible refine Calls.mono (Hoc5.out W HtabW.out) ?_) | (with_reducible refine Calls.mono (Hoc6.out W HtabW.out) ?_)); rintro e w5 ⟨rfl, hb5⟩; have hX5 := range_below HXd.out hb5 HgxW.out) | skip); (try go_simp); refine hK.out _ _ ((by first | exact hX5 | exact range_below HXd.out (by repeat (first | with_reducible exact Below.refl _ _ | (with_reducible refine Below.alloc ?_ (by first | (simp [Li.mkB_size]; done) | (simp [Li.mkB_size]; omega) | omega) _) | (with_reducible refine Li.mkB_below ?_ (by first | (simp [Li.mkB_size]; done) | (simp [Li.mkB_size]; omega) | omega) (by first | (simp [Li.mkB_size]; done) | (simp [Li.mkB_size]; omega) | omega)))) HgxW.out)) ?_; clear hK K)))
  all_goals
    refine CanT.done ?_
    go_wp2
    go_ret
    exact ⟨rfl, HbW.out.trans (hb5.mono HbW.out.size)⟩
end Sk
end Go.Proofs.YtlkcibhdnicpkaaDoor
