/- Any sum has the digits, any text is the sum, and any two sums stand, as the document says: the walk of the statement. -/
import Derived.Test.YtlkcibhdnicpkaaDoorLess
import Derived.Test.YtlkcibhdnicpkaaDoorRparse
import Derived.Test.YtlkcibhdnicpkaaDoorSofs
namespace Go.Proofs.YtlkcibhdnicpkaaDoor
namespace Sk
open Go.RowKit Ba Sm Hx
set_option linter.unusedVariables false
theorem four {w w' : World} {T : TypeId} {g1 g2 g3 g4 : Nat} {c1 c2 c3 c4 : Array Value} (h : Blk w g1 T c1 ∧ Blk w g2 T c2 ∧ Blk w g3 T c3 ∧ Blk w g4 T c4) (hb : Below w.heap.size w w') : Blk w' g1 T c1 ∧ Blk w' g2 T c2 ∧ Blk w' g3 T c3 ∧ Blk w' g4 T c4 :=
  ⟨h.1.below hb h.1.lt, h.2.1.below hb h.2.1.lt, h.2.2.1.below hb h.2.2.1.lt, h.2.2.2.below hb h.2.2.2.lt⟩
theorem kept_store {W w1 w2 : World} {o : Obj} (hb : Below W.heap.size W w1) (hg : (w1.alloc o).grownBy w2 (some w1.heap.size)) : Below W.heap.size W w2 ∧ w1.heap.size < w2.heap.size :=
  ⟨(hb.alloc hb.size _).trans (below_of_only hg hb.size (by have := hb.size; simp; omega)), by have := hg.size; simp at this; omega⟩
theorem parse_len (r : List UInt8) : (parse r).1.length = 32 := by unfold parse; split <;> simp [pairs]
set_option maxRecDepth 100000 in
set_option maxHeartbeats 4000000 in
theorem shaHexes_calls (a b s : List UInt8) (ha : a.length = 32) (hb : b.length = 32) (w : World) (htab : Tab w) :
    Calls Tryd.prog 6 #[.agg (bvs a).toArray, .agg (bvs b).toArray, .string (S s)] w fun e w' => e = .returned (.bool true) ∧ Below w.heap.size w w' := by
  have Hw := Lib.hid awake_calls
  have Htab := Lib.hid htab
  clear htab
  obtain ⟨hbw, hA, hB⟩ := two_start (w := w) (C1 := (bvs a).toArray) (C2 := (bvs b).toArray) (t1 := 26) (t2 := 26)
  have Hh := Lib.hid (hex_calls a ha)
  have Hr := Lib.hid (rhex_calls a ha)
  have Hl := Lib.hid (less_calls a b ha hb)
  have Hm := Lib.hid (rless_calls a b ha hb)
  have Hp := Lib.hid (parse_calls s)
  have Hq := Lib.hid (rparse_calls s)
  have hxl := parse_len s
  have heq : ∀ w', (binOp .eql 26 (.agg (bvs (parse s).1).toArray) (.agg (bvs (parse s).1).toArray)).run Tryd.prog w' = .ok (.bool true) w' := fun w' => by rw [run_eqB _ _ hxl hxl w', beq_self_eq_true]
  have hone := bvs_one (parse s).1
  have Lca : Hid ((bvs a).length = 32) := Lib.hid (by rw [bvs_length, ha])
  have Lcb : Hid ((bvs b).length = 32) := Lib.hid (by rw [bvs_length, hb])
  have Lcx : Hid ((bvs (parse s).1).length = 32) := Lib.hid (by rw [bvs_length, hxl])
  have hz : (S s).size = s.length := S_size s
  generalize S (hexd a) = hx at *
  generalize lt a b = lb at *
  generalize (parse s).2 = nx at *
  clear hxl ha hb
  generalize bvs (parse s).1 = cx at *
  generalize bvs a = ca at *
  generalize bvs b = cb at *
  generalize S s = ss at *
  have Hone := Lib.hid hone
  clear hone
  by_cases h200 : 200 < s.length
  · have Hbw := Lib.hid hbw
    clear hbw hA hB
    go_enter Tryd.func6, Tryd.ntmps6
    go_wp2_with (go_at_call 13; refine Calls.mono (Hw.out _ (Htab.out.below Hbw.out)) ?_; rintro e w5 ⟨rfl, hb5⟩)
    go_ret
    exact ⟨rfl, Hbw.out.trans (hb5.mono Hbw.out.size)⟩
  · have HAB := Lib.hid (And.intro hA hB)
    have Hbw := Lib.hid hbw
    clear hbw hA hB
    go_enter Tryd.func6, Tryd.ntmps6
    go_wp2_with (first
      | (go_at_call 21; refine (Hp.out _).mono ?_; rintro e w1 ⟨rfl, hb1⟩; have Hb1 := Lib.hid hb1; clear hb1)
      | (go_at_call 22; refine (Hq.out _).mono ?_; rintro e w3 ⟨rfl, hb3⟩; have Hb3 := Lib.hid hb3; clear hb3)
      | (refine wpList_store_blk rfl 26 (.tmp 7) (.tmp 18) rfl w1.heap.size 0 26 [] (bvs (List.replicate 32 0)) [] cx rfl rfl (by rw [rep32]; exact heap_alloc_new _ _) rfl (by rw [bvs_length, Lcx.out]; rfl) (by rw [Lcx.out]; kernel_rfl) Hone.out ?_; intro w2 hX2 hg2)
      | (refine wpList_store_blk rfl 26 (.tmp 9) (.tmp 23) rfl w3.heap.size 0 26 [] (bvs (List.replicate 32 0)) [] cx rfl rfl (by rw [rep32]; exact heap_alloc_new _ _) rfl (by rw [bvs_length, Lcx.out]; rfl) (by rw [Lcx.out]; kernel_rfl) Hone.out ?_; intro w4 hY4 hg4))
    have hk2 := kept_store Hb1.out hg2
    have hk4 := kept_store Hb3.out hg4
    have hA2 := HAB.out.1.below hk2.1 (by simp; omega)
    have hB2 := HAB.out.2.below hk2.1 (by simp)
    have hX2' : Blk w2 w1.heap.size 26 cx.toArray := by simpa using hX2
    have hY4' : Blk w4 w3.heap.size 26 cx.toArray := by simpa using hY4
    have hF := And.intro (hA2.below hk4.1 hA2.lt) (And.intro (hB2.below hk4.1 hB2.lt) (And.intro (hX2'.below hk4.1 hX2'.lt) hY4'))
    have hbw4 : Below w.heap.size w w4 := (Hbw.out.trans (hk2.1.mono Hbw.out.size)).trans (hk4.1.mono (Nat.le_trans Hbw.out.size hk2.1.size))
    clear hX2 hY4 hX2' hY4' hA2 hB2 hg2 hg4 Hb1 Hb3 HAB Hbw hk2 hk4 Hp Hq
    generalize w1.heap.size = gx at *
    generalize w3.heap.size = gy at *
    have HF : Hid (Blk w4.drew w.heap.size 26 ca.toArray ∧ Blk w4.drew (w.heap.size + 1) 26 cb.toArray ∧ Blk w4.drew gx 26 cx.toArray ∧ Blk w4.drew gy 26 cx.toArray) := Lib.hid hF
    have Hbw := Lib.hid hbw4.drew
    clear hF hbw4
    go_wp2_with fail
    refine CanT.region (fun w' => Blk w' w.heap.size 26 ca.toArray ∧ Blk w' (w.heap.size + 1) 26 cb.toArray ∧ Blk w' gx 26 cx.toArray ∧ Blk w' gy 26 cx.toArray) 1000 (.op 0 1 (.op 2 1 (.op 1 0 (.op 3 0 (.op 4 2 (.op 5 2 (.op 6 1 (.op 7 1 (.op 8 2 (.op 9 2 (.op 10 2 (.op 11 2 (.op 12 2 (.op 13 2 (.op 14 2 (.op 15 2 (.op 16 1 (.op 17 1 (.op 19 1 (.op 20 1 (.op 18 0 (.op 21 0 (.op 22 2 (.op 23 2 (.op 24 2 (.op 25 0 (.op 26 2 (.op 27 2 (.nil))))))))))))))))))))))))))))) (by kernel_rfl) (by kernel_rfl) HF.out ?_
    generalize w4.drew = W at *
    repeat (first | (refine CanT.heldR rfl ?_ 26 (.tmp 3) rfl w.heap.size 0 ca rfl (fun w' h => Blk.range [] ca [] (by simpa using h.1)) _ Tryd.underlying26 rfl (by rw [Lca.out]; kernel_rfl) (fun K hK => ?_); (focus (go_simp; done)); go_simp; refine hK _ ?_; clear hK K) | (refine CanT.heldR rfl ?_ 26 (.tmp 4) rfl (w.heap.size + 1) 0 cb rfl (fun w' h => Blk.range [] cb [] (by simpa using h.2.1)) _ Tryd.underlying26 rfl (by rw [Lcb.out]; kernel_rfl) (fun K hK => ?_); (focus (go_simp; done)); go_simp; refine hK _ ?_; clear hK K) | (refine CanT.heldR rfl ?_ 26 (.tmp 7) rfl gx 0 cx rfl (fun w' h => Blk.range [] cx [] (by simpa using h.2.2.1)) _ Tryd.underlying26 rfl (by rw [Lcx.out]; kernel_rfl) (fun K hK => ?_); (focus (go_simp; done)); go_simp; refine hK _ ?_; clear hK K) | (refine CanT.heldR rfl ?_ 26 (.tmp 9) rfl gy 0 cx rfl (fun w' h => Blk.range [] cx [] (by simpa using h.2.2.2)) _ Tryd.underlying26 rfl (by rw [Lcx.out]; kernel_rfl) (fun K hK => ?_); (focus (go_simp; done)); go_simp; refine hK _ ?_; clear hK K) | (refine CanT.skip rfl ?_ (fun K hK => ?_); (focus (go_simp; done)); go_simp; refine hK _ ?_; clear hK K) | (refine CanT.pur rfl ?_ ?_; (focus (go_simp; done)); refine ⟨?_, ?_, ?_⟩; rotate_left; (focus (intro w'; go_simp; rfl)); (focus (intro K hK; go_simp; refine hK _ ?_; clear hK K))) | (refine CanT.held rfl ?_ ?_; (focus (go_simp; done)); refine ⟨?_, ?_, ?_⟩; rotate_left; (focus (intro w' hS'; (try dsimp only at hS'); go_simp; rfl)); (focus (intro K hK; go_simp; refine hK _ ?_; clear hK K))) | (refine CanT.last rfl (fun K hK => ?_); go_simp; refine hK.out _ _ ?_; clear hK K))
    refine CanT.imp rfl (fun K hK => ?_)
    go_simp
    refine Calls.mono (Hh.out _) ?_
    rintro e u1 ⟨rfl, hb1⟩
    have HF1 := Lib.hid (four HF.out hb1)
    have Hbw1 := Lib.hid (Hbw.out.trans (hb1.mono Hbw.out.size))
    clear hb1
    go_simp
    refine hK.out _ _ HF1.out ?_
    clear hK K
    repeat (first | (refine CanT.heldR rfl ?_ 26 (.tmp 3) rfl w.heap.size 0 ca rfl (fun w' h => Blk.range [] ca [] (by simpa using h.1)) _ Tryd.underlying26 rfl (by rw [Lca.out]; kernel_rfl) (fun K hK => ?_); (focus (go_simp; done)); go_simp; refine hK _ ?_; clear hK K) | (refine CanT.heldR rfl ?_ 26 (.tmp 4) rfl (w.heap.size + 1) 0 cb rfl (fun w' h => Blk.range [] cb [] (by simpa using h.2.1)) _ Tryd.underlying26 rfl (by rw [Lcb.out]; kernel_rfl) (fun K hK => ?_); (focus (go_simp; done)); go_simp; refine hK _ ?_; clear hK K) | (refine CanT.heldR rfl ?_ 26 (.tmp 7) rfl gx 0 cx rfl (fun w' h => Blk.range [] cx [] (by simpa using h.2.2.1)) _ Tryd.underlying26 rfl (by rw [Lcx.out]; kernel_rfl) (fun K hK => ?_); (focus (go_simp; done)); go_simp; refine hK _ ?_; clear hK K) | (refine CanT.heldR rfl ?_ 26 (.tmp 9) rfl gy 0 cx rfl (fun w' h => Blk.range [] cx [] (by simpa using h.2.2.2)) _ Tryd.underlying26 rfl (by rw [Lcx.out]; kernel_rfl) (fun K hK => ?_); (focus (go_simp; done)); go_simp; refine hK _ ?_; clear hK K) | (refine CanT.skip rfl ?_ (fun K hK => ?_); (focus (go_simp; done)); go_simp; refine hK _ ?_; clear hK K) | (refine CanT.pur rfl ?_ ?_; (focus (go_simp; done)); refine ⟨?_, ?_, ?_⟩; rotate_left; (focus (intro w'; go_simp; rfl)); (focus (intro K hK; go_simp; refine hK _ ?_; clear hK K))) | (refine CanT.held rfl ?_ ?_; (focus (go_simp; done)); refine ⟨?_, ?_, ?_⟩; rotate_left; (focus (intro w' hS'; (try dsimp only at hS'); go_simp; rfl)); (focus (intro K hK; go_simp; refine hK _ ?_; clear hK K))) | (refine CanT.last rfl (fun K hK => ?_); go_simp; refine hK.out _ _ ?_; clear hK K))
    refine CanT.imp rfl (fun K hK => ?_)
    go_simp
    refine Calls.mono (Hr.out _) ?_
    rintro e u2 ⟨rfl, hb2⟩
    have HF2 := Lib.hid (four HF1.out hb2)
    have Hbw2 := Lib.hid (Hbw1.out.trans (hb2.mono Hbw1.out.size))
    clear hb2
    go_simp
    refine hK.out _ _ HF2.out ?_
    clear hK K
    repeat (first | (refine CanT.heldR rfl ?_ 26 (.tmp 3) rfl w.heap.size 0 ca rfl (fun w' h => Blk.range [] ca [] (by simpa using h.1)) _ Tryd.underlying26 rfl (by rw [Lca.out]; kernel_rfl) (fun K hK => ?_); (focus (go_simp; done)); go_simp; refine hK _ ?_; clear hK K) | (refine CanT.heldR rfl ?_ 26 (.tmp 4) rfl (w.heap.size + 1) 0 cb rfl (fun w' h => Blk.range [] cb [] (by simpa using h.2.1)) _ Tryd.underlying26 rfl (by rw [Lcb.out]; kernel_rfl) (fun K hK => ?_); (focus (go_simp; done)); go_simp; refine hK _ ?_; clear hK K) | (refine CanT.heldR rfl ?_ 26 (.tmp 7) rfl gx 0 cx rfl (fun w' h => Blk.range [] cx [] (by simpa using h.2.2.1)) _ Tryd.underlying26 rfl (by rw [Lcx.out]; kernel_rfl) (fun K hK => ?_); (focus (go_simp; done)); go_simp; refine hK _ ?_; clear hK K) | (refine CanT.heldR rfl ?_ 26 (.tmp 9) rfl gy 0 cx rfl (fun w' h => Blk.range [] cx [] (by simpa using h.2.2.2)) _ Tryd.underlying26 rfl (by rw [Lcx.out]; kernel_rfl) (fun K hK => ?_); (focus (go_simp; done)); go_simp; refine hK _ ?_; clear hK K) | (refine CanT.skip rfl ?_ (fun K hK => ?_); (focus (go_simp; done)); go_simp; refine hK _ ?_; clear hK K) | (refine CanT.pur rfl ?_ ?_; (focus (go_simp; done)); refine ⟨?_, ?_, ?_⟩; rotate_left; (focus (intro w'; go_simp; rfl)); (focus (intro K hK; go_simp; refine hK _ ?_; clear hK K))) | (refine CanT.held rfl ?_ ?_; (focus (go_simp; done)); refine ⟨?_, ?_, ?_⟩; rotate_left; (focus (intro w' hS'; (try dsimp only at hS'); go_simp; rfl)); (focus (intro K hK; go_simp; refine hK _ ?_; clear hK K))) | (refine CanT.last rfl (fun K hK => ?_); go_simp; refine hK.out _ _ ?_; clear hK K))
    refine CanT.imp rfl (fun K hK => ?_)
    go_simp
    refine Calls.mono (Hl.out _) ?_
    rintro e u3 ⟨rfl, hb3⟩
    have HF3 := Lib.hid (four HF2.out hb3)
    have Hbw3 := Lib.hid (Hbw2.out.trans (hb3.mono Hbw2.out.size))
    clear hb3
    go_simp
    refine hK.out _ _ HF3.out ?_
    clear hK K
    repeat (first | (refine CanT.heldR rfl ?_ 26 (.tmp 3) rfl w.heap.size 0 ca rfl (fun w' h => Blk.range [] ca [] (by simpa using h.1)) _ Tryd.underlying26 rfl (by rw [Lca.out]; kernel_rfl) (fun K hK => ?_); (focus (go_simp; done)); go_simp; refine hK _ ?_; clear hK K) | (refine CanT.heldR rfl ?_ 26 (.tmp 4) rfl (w.heap.size + 1) 0 cb rfl (fun w' h => Blk.range [] cb [] (by simpa using h.2.1)) _ Tryd.underlying26 rfl (by rw [Lcb.out]; kernel_rfl) (fun K hK => ?_); (focus (go_simp; done)); go_simp; refine hK _ ?_; clear hK K) | (refine CanT.heldR rfl ?_ 26 (.tmp 7) rfl gx 0 cx rfl (fun w' h => Blk.range [] cx [] (by simpa using h.2.2.1)) _ Tryd.underlying26 rfl (by rw [Lcx.out]; kernel_rfl) (fun K hK => ?_); (focus (go_simp; done)); go_simp; refine hK _ ?_; clear hK K) | (refine CanT.heldR rfl ?_ 26 (.tmp 9) rfl gy 0 cx rfl (fun w' h => Blk.range [] cx [] (by simpa using h.2.2.2)) _ Tryd.underlying26 rfl (by rw [Lcx.out]; kernel_rfl) (fun K hK => ?_); (focus (go_simp; done)); go_simp; refine hK _ ?_; clear hK K) | (refine CanT.skip rfl ?_ (fun K hK => ?_); (focus (go_simp; done)); go_simp; refine hK _ ?_; clear hK K) | (refine CanT.pur rfl ?_ ?_; (focus (go_simp; done)); refine ⟨?_, ?_, ?_⟩; rotate_left; (focus (intro w'; go_simp; rfl)); (focus (intro K hK; go_simp; refine hK _ ?_; clear hK K))) | (refine CanT.held rfl ?_ ?_; (focus (go_simp; done)); refine ⟨?_, ?_, ?_⟩; rotate_left; (focus (intro w' hS'; (try dsimp only at hS'); go_simp; rfl)); (focus (intro K hK; go_simp; refine hK _ ?_; clear hK K))) | (refine CanT.last rfl (fun K hK => ?_); go_simp; refine hK.out _ _ ?_; clear hK K))
    refine CanT.imp rfl (fun K hK => ?_)
    go_simp
    refine Calls.mono (Hm.out _) ?_
    rintro e u4 ⟨rfl, hb4⟩
    have HF4 := Lib.hid (four HF3.out hb4)
    have Hbw4 := Lib.hid (Hbw3.out.trans (hb4.mono Hbw3.out.size))
    clear hb4
    go_simp
    refine hK.out _ _ HF4.out ?_
    clear hK K
    repeat (first | (refine CanT.heldR rfl ?_ 26 (.tmp 3) rfl w.heap.size 0 ca rfl (fun w' h => Blk.range [] ca [] (by simpa using h.1)) _ Tryd.underlying26 rfl (by rw [Lca.out]; kernel_rfl) (fun K hK => ?_); (focus (go_simp; done)); go_simp; refine hK _ ?_; clear hK K) | (refine CanT.heldR rfl ?_ 26 (.tmp 4) rfl (w.heap.size + 1) 0 cb rfl (fun w' h => Blk.range [] cb [] (by simpa using h.2.1)) _ Tryd.underlying26 rfl (by rw [Lcb.out]; kernel_rfl) (fun K hK => ?_); (focus (go_simp; done)); go_simp; refine hK _ ?_; clear hK K) | (refine CanT.heldR rfl ?_ 26 (.tmp 7) rfl gx 0 cx rfl (fun w' h => Blk.range [] cx [] (by simpa using h.2.2.1)) _ Tryd.underlying26 rfl (by rw [Lcx.out]; kernel_rfl) (fun K hK => ?_); (focus (go_simp; done)); go_simp; refine hK _ ?_; clear hK K) | (refine CanT.heldR rfl ?_ 26 (.tmp 9) rfl gy 0 cx rfl (fun w' h => Blk.range [] cx [] (by simpa using h.2.2.2)) _ Tryd.underlying26 rfl (by rw [Lcx.out]; kernel_rfl) (fun K hK => ?_); (focus (go_simp; done)); go_simp; refine hK _ ?_; clear hK K) | (refine CanT.skip rfl ?_ (fun K hK => ?_); (focus (go_simp; done)); go_simp; refine hK _ ?_; clear hK K) | (refine CanT.pur rfl ?_ ?_; (focus (go_simp; done)); refine ⟨?_, ?_, ?_⟩; rotate_left; (focus (intro w'; go_simp; rfl)); (focus (intro K hK; go_simp; refine hK _ ?_; clear hK K))) | (refine CanT.held rfl ?_ ?_; (focus (go_simp; done)); refine ⟨?_, ?_, ?_⟩; rotate_left; (focus (intro w' hS'; (try dsimp only at hS'); go_simp; rfl)); (focus (intro K hK; go_simp; refine hK _ ?_; clear hK K))) | (refine CanT.last rfl (fun K hK => ?_); go_simp; refine hK.out _ _ ?_; clear hK K))
    refine CanT.imp rfl (fun K hK => ?_)
    go_simp
    refine Calls.mono (Hw.out _ (Htab.out.below Hbw4.out)) ?_
    rintro e u5 ⟨rfl, hb5⟩
    have HF5 := Lib.hid (four HF4.out hb5)
    have Hbw5 := Lib.hid (Hbw4.out.trans (hb5.mono Hbw4.out.size))
    clear hb5
    go_simp
    refine hK.out _ _ HF5.out ?_
    clear hK K
    repeat (first | (refine CanT.heldR rfl ?_ 26 (.tmp 3) rfl w.heap.size 0 ca rfl (fun w' h => Blk.range [] ca [] (by simpa using h.1)) _ Tryd.underlying26 rfl (by rw [Lca.out]; kernel_rfl) (fun K hK => ?_); (focus (go_simp; done)); go_simp; refine hK _ ?_; clear hK K) | (refine CanT.heldR rfl ?_ 26 (.tmp 4) rfl (w.heap.size + 1) 0 cb rfl (fun w' h => Blk.range [] cb [] (by simpa using h.2.1)) _ Tryd.underlying26 rfl (by rw [Lcb.out]; kernel_rfl) (fun K hK => ?_); (focus (go_simp; done)); go_simp; refine hK _ ?_; clear hK K) | (refine CanT.heldR rfl ?_ 26 (.tmp 7) rfl gx 0 cx rfl (fun w' h => Blk.range [] cx [] (by simpa using h.2.2.1)) _ Tryd.underlying26 rfl (by rw [Lcx.out]; kernel_rfl) (fun K hK => ?_); (focus (go_simp; done)); go_simp; refine hK _ ?_; clear hK K) | (refine CanT.heldR rfl ?_ 26 (.tmp 9) rfl gy 0 cx rfl (fun w' h => Blk.range [] cx [] (by simpa using h.2.2.2)) _ Tryd.underlying26 rfl (by rw [Lcx.out]; kernel_rfl) (fun K hK => ?_); (focus (go_simp; done)); go_simp; refine hK _ ?_; clear hK K) | (refine CanT.skip rfl ?_ (fun K hK => ?_); (focus (go_simp; done)); go_simp; refine hK _ ?_; clear hK K) | (refine CanT.pur rfl ?_ ?_; (focus (go_simp; done)); refine ⟨?_, ?_, ?_⟩; rotate_left; (focus (intro w'; go_simp; rfl)); (focus (intro K hK; go_simp; refine hK _ ?_; clear hK K))) | (refine CanT.held rfl ?_ ?_; (focus (go_simp; done)); refine ⟨?_, ?_, ?_⟩; rotate_left; (focus (intro w' hS'; (try dsimp only at hS'); go_simp; rfl)); (focus (intro K hK; go_simp; refine hK _ ?_; clear hK K))) | (refine CanT.last rfl (fun K hK => ?_); go_simp; refine hK.out _ _ ?_; clear hK K))
    refine CanT.done ?_
    go_wp2
    all_goals
      go_ret
      exact ⟨rfl, Hbw5.out⟩
end Sk
end Go.Proofs.YtlkcibhdnicpkaaDoor
