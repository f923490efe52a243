/- A whole array is read in a region that draws its order. -/
import Derived.Test.YtlkcibhdnicpkaaDoorCanL
import Derived.Test.YtlkcibhdnicpkaaDoorSbase
namespace Go.Proofs.YtlkcibhdnicpkaaDoor
namespace CanL
open Go.RowKit Ba Sm
set_option linter.unusedVariables false
theorem heldW {P : Program} {ops : Array Oper} {Q : Exit → Act → World → Prop} {F : World → Prop} {k i : Nat} {rest : List (Nat × Nat)} {o : Oper} {a : Act} {w : World} (hi : ops[i]? = some o) (hg : Region.wanted o (yielded ops a.tmps) = true)
    (ty : TypeId) (x : Operand) (ho : o.op = .load ty x) (g : Nat) (t : TypeId) (l : List UInt32) (hx : a.eval x = .pointer (some ⟨g, 0, none⟩)) (hF : ∀ w', F w' → BlkW w' g t l) (d : TypeDesc) (hu : P.underlying ty = some d) (hd : d.isRow = true)
    (hs : (P.info? ty).map (·.size) = some l.length) (h : ∀ K : Act → Prop, (∀ a, wpCan P ops Q F k rest a w → K a) → K (a.put o.dst (.agg (wvs l).toArray))) : wpCan P ops Q F k ((i, 1) :: rest) a w := by
  refine held hi hg ⟨.agg (wvs l).toArray, fun w' hF' => ?_, h⟩
  have hb := hF w' hF'
  have hr : w'.rangeAt g 0 (wvs l) := Blk.range [] (wvs l) [] (by unfold BlkW at hb; simpa using hb)
  unfold execOp
  simp only [ho, hx, Instr.loadAt, Instr.sureAddr, Sem.run_bind, Sem.run_pure, Result.andThen_ok, run_loadVar_mid w' g 0 ty (wvs l) d hr hu hd (by rw [wvs_len]; exact hs)]
theorem lastW {P : Program} {ops : Array Oper} {Q : Exit → Act → World → Prop} {F : World → Prop} {k : Nat} {rest : List (Nat × Nat)} {o : Oper} {a : Act} {w : World} (hi : ops[k]? = some o) (hg : Region.wanted o (yielded ops a.tmps) = true)
    (ty : TypeId) (x y : Operand) (ho : o.op = .store ty x y) (g : Nat) (t : TypeId) (l0 l : List UInt32) (hx : a.eval x = .pointer (some ⟨g, 0, none⟩)) (hy : a.eval y = .agg (wvs l).toArray) (hb : BlkW w g t l0) (hl : l0.length = l.length)
    (hs : (P.info? ty).map (·.size) = some l.length) (h : ∀ w', BlkW w' g t l → w.grownBy w' (some g) → wpCan P ops Q F k rest (a.put o.dst undef) w') : wpCan P ops Q F k ((k, 0) :: rest) a w := by
  refine last hi (fun K hK => ?_)
  rw [if_pos hg]
  have hb' : Blk w g t ([] ++ (wvs l0 ++ [])).toArray := by unfold BlkW at hb; simpa using hb
  refine wp_store_mid ty x y ho g 0 (wvs l).toArray hx hy ?_ (by rw [List.size_toArray, wvs_len]; exact hs) (all_oneCell_toArray (wvs_one l)) (hK.out _ _ (h _ ?_ (only_setCells _ _ _ _)))
  · refine Blk.there hb' 0 _ ?_
    simp [wvs_len, hl]
  · have := Blk.setCells (wvs l) [] (wvs l0) [] hb' (by rw [wvs_len, wvs_len]; exact hl)
    unfold BlkW
    simpa using this
end CanL
end Go.Proofs.YtlkcibhdnicpkaaDoor
