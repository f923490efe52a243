/- The first state and the round words, of the document's answer. -/
import Derived.Test.YtlkcibhdnicpkaaDoorSf
namespace Go.Proofs.YtlkcibhdnicpkaaDoor
namespace Sm
open Go.RowKit Ba
set_option linter.unusedVariables false
attribute [local go_sem] U_add U_add' U_xor U_and U_or U_of_u8 U_shr3 U_shr10 U_shl8 U_shl16 U_shl24 U_not U_not'
set_option maxRecDepth 100000 in
set_option maxHeartbeats 1000000 in
theorem rfirst_calls (w : World) : Calls Tryd.prog 39 #[] w fun e w' => e = .returned (.agg (wvs first).toArray) ∧ Below w.heap.size w w' := by
  go_enter Tryd.func39, Tryd.ntmps39
  go_wp2_with (refine wpList_storeW rfl 62 (.tmp 0) (.tmp 1) rfl w.heap.size 62 (List.replicate 8 0) first rfl rfl (BlkW.new_ _ _ _ _ _ (by rfl) (by rfl)) (by rfl) (by kernel_rfl) ?_; intro w2 hW2 hg2)
  refine bodyPost_ret (results_cell_row (p := 0) (ty := 62) (by kernel_rfl) _ w2 w.heap.size 62 (wvs first).toArray (0, 0) _ rfl hW2 Tryd.underlying62 rfl (by kernel_rfl)) rfl ⟨rfl, ?_⟩
  exact only_after ((Below.refl _ _).alloc (Nat.le_refl _) _) hg2 (Nat.le_refl _)
set_option maxRecDepth 100000 in
set_option maxHeartbeats 1000000 in
theorem rwords_calls (w : World) : Calls Tryd.prog 40 #[] w fun e w' => e = .returned (.agg (wvs rounds).toArray) ∧ Below w.heap.size w w' := by
  go_enter Tryd.func40, Tryd.ntmps40
  go_wp2_with (refine wpList_storeW rfl 65 (.tmp 0) (.tmp 1) rfl w.heap.size 65 (List.replicate 64 0) rounds rfl rfl (BlkW.new_ _ _ _ _ _ (by rfl) (by rfl)) (by rfl) (by kernel_rfl) ?_; intro w2 hW2 hg2)
  refine bodyPost_ret (results_cell_row (p := 0) (ty := 65) (by kernel_rfl) _ w2 w.heap.size 65 (wvs rounds).toArray (0, 0) _ rfl hW2 Tryd.underlying65 rfl (by kernel_rfl)) rfl ⟨rfl, ?_⟩
  exact only_after ((Below.refl _ _).alloc (Nat.le_refl _) _) hg2 (Nat.le_refl _)
end Sm
end Go.Proofs.YtlkcibhdnicpkaaDoor
