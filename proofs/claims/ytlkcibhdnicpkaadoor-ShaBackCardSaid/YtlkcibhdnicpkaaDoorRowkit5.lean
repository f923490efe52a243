/- Arguments: an array of bytes by value. -/
import Derived.Test.YtlkcibhdnicpkaaDoorRowkit
import Derived.OpenShut
namespace Go.Proofs.YtlkcibhdnicpkaaDoor
namespace Rk
open Go.ChangeShapes Go.WideShapes Go.ChangeAt Go.RowKit Ba
set_option linter.unusedVariables false
theorem hash_open {H : Type} {enc : TypeId × Value → H} {P : Program} {W : World} {base b2 : Nat} {spare : Nat → Bool} {held : Bool} {t e : TypeId} {n : Nat} {v : Value} {d : DataW H} {ps : List MemPlace}
    (hu : P.underlying t = some (.array n e)) (he : P.underlying e = some (.int .u8)) (ce : P.cellsOf e = 1) (ct : P.cellsOf t = n) (hv : Value.okWide P W .any b2 t v) (h : DataW.Trod enc P W base spare held t v d ps) :
    ∃ l : List UInt8, v = .agg (bvs l).toArray ∧ l.length = n := by
  obtain ⟨cs, rfl⟩ : ∃ cs, v = .agg cs := by
    unfold Value.okWide at hv
    simp only [hu] at hv
    obtain ⟨cs, h1, _⟩ := hv
    exact ⟨cs, h1⟩
  obtain ⟨fuel, hf⟩ := h
  obtain ⟨xs, m, rfl, _, hl, hxs, hi⟩ := DataW.trod_array hu hf
  have hcl : cs.toList.length = n := by
    have : (Value.agg cs).cells.toList = cs.toList := rfl
    rw [this] at hl
    omega
  rw [show (Value.agg cs).cells.toList = cs.toList from rfl] at hi
  have key : ∀ i, i < n → ∃ b : UInt8, cs.toList[i]? = some (bv b) := fun i hin => by
    have h1 := hi i hin
    rw [ce, Nat.mul_one, List.getElem?_eq_getElem (show i < xs.length by omega)] at h1
    obtain ⟨z, e0, _, w0⟩ := DataW.trod_int he h1
    have hb := bd_u8 w0
    have hil : i < cs.toList.length := by omega
    have e1 : (cs.toList.drop i).take 1 = [cs.toList[i]] := by
      rw [List.drop_eq_getElem_cons hil]; rfl
    rw [e1] at e0
    injection e0 with e0
    refine ⟨UInt8.ofNat z.toNat, ?_⟩
    rw [List.getElem?_eq_getElem hil, e0]
    unfold bv
    rw [UInt8.toNat_ofNat']
    congr 2
    omega
  refine ⟨(List.range n).map fun i => if hin : i < n then (key i hin).choose else 0, ?_, by simp⟩
  congr 1
  apply Array.ext'
  refine List.ext_getElem? fun i => ?_
  by_cases hin : i < n
  · rw [(key i hin).choose_spec]
    simp [bvs, hin]
  · rw [List.getElem?_eq_none (by omega), List.getElem?_eq_none (by simp [bvs]; omega)]
end Rk
end Go.Proofs.YtlkcibhdnicpkaaDoor
