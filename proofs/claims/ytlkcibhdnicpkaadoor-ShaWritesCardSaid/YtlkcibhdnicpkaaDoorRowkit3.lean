/- How a row's arguments are opened: pairs of a byte and a number that came in. -/
import Derived.Test.YtlkcibhdnicpkaaDoorRowkit2
namespace Go.Proofs.YtlkcibhdnicpkaaDoor
namespace Rk
open Go.ChangeShapes Go.WideShapes Go.ChangeAt Go.RowKit Go.Deep Ba
set_option linter.unusedVariables false

theorem pairs_open {H : Type} {enc : TypeId × Value → H} {P : Program} {W : World} {base : Nat} {spare : Nat → Bool} {held : Bool} {t e : TypeId} {f0 f1 : Field} {a : Option Addr} {len cap : Nat} {d : DataW H} {ps : List MemPlace}
    (hu : P.underlying t = some (.slice e)) (he : P.underlying e = some (.struct #[f0, f1])) (ce : P.cellsOf e = 2) (o0 : f0.offset = 0) (o1 : f1.offset = 1) (c0 : P.cellsOf f0.type = 1) (c1 : P.cellsOf f1.type = 1)
    (h0 : P.underlying f0.type = some (.int .u8)) (h1 : P.underlying f1.type = some (.int .i64)) (h : DataW.Trod enc P W base spare held t (.slice a len cap) d ps) :
    ∃ l : List (Int × Int), len = l.length ∧ l.length ≤ cap ∧ cap ≤ 9223372036854775807 ∧ ReadP W W.heap.size a l ∧ ∀ p ∈ l, (0 ≤ p.1 ∧ p.1 ≤ 255) ∧ -9223372036854775808 ≤ p.2 ∧ p.2 ≤ 9223372036854775807 := by
  obtain ⟨fuel, hf⟩ := h
  rcases open_slice_pairs hu he ce o0 o1 c0 c1 hf with ⟨hcs, _⟩ | ⟨x, len', cap', m, n, V0, V1, D0, D1, P0, P1, hcs, _, hl, hm, hmm, hx, hcell⟩
  · simp [Value.cells] at hcs
    obtain ⟨rfl, rfl, rfl⟩ := hcs
    exact ⟨[], rfl, by simp, by omega, fun h => absurd h (by simp), by simp⟩
  · simp [Value.cells] at hcs
    obtain ⟨rfl, rfl, rfl⟩ := hcs
    have hl2 : len ≤ m := by rw [hmm]; split <;> omega
    have key : ∀ i, i < len → ∃ z0 z1 : Int, W.cell? (x.add (i * 2)) = some (.int .u8 z0) ∧ W.cell? (x.add (i * 2 + 1)) = some (.int .i64 z1) ∧ (0 ≤ z0 ∧ z0 ≤ 255) ∧ -9223372036854775808 ≤ z1 ∧ z1 ≤ 9223372036854775807 := fun i hi => by
      obtain ⟨q0, q1, q2, q3⟩ := hcell i (by omega)
      obtain ⟨z0, e0, _, w0⟩ := DataW.trod_int h0 q2
      obtain ⟨z1, e1, _, w1⟩ := DataW.trod_int h1 q3
      simp only [List.cons.injEq, and_true] at e0 e1
      rw [e0] at q0
      rw [e1] at q1
      exact ⟨z0, z1, q0, q1, bd_u8 w0, bd_i64 w1⟩
    refine ⟨(List.range len).map fun i => if hi : i < len then ((key i hi).choose, (key i hi).choose_spec.choose) else (0, 0), by simp, by simp; omega, by simpa [maxLen] using hm, ?_, ?_⟩
    · intro hn
      have hn2 : 0 < len := by simpa using hn
      obtain ⟨b, o, rfl, hblk⟩ := plain_of_cell (key 0 hn2).choose_spec.choose_spec.1
      refine ⟨b, o, by simp [Addr.add], hblk, fun k hk => ?_⟩
      have hk2 : k < len := by simpa using hk
      have := (key k hk2).choose_spec.choose_spec
      have e : ((List.range len).map fun i => if hi : i < len then ((key i hi).choose, (key i hi).choose_spec.choose) else (0, 0)).getD k (0, 0) = ((key k hk2).choose, (key k hk2).choose_spec.choose) := by
        simp [List.getD, hk2]
      rw [e]
      obtain ⟨q0, q1, _⟩ := this
      have e2 := add_lit_ b o (k * 2)
      have e3 : (⟨b, o, none⟩ : Addr).add (k * 2 + 1) = ⟨b, o + k * 2 + 1, none⟩ := by rw [add_lit_, Nat.add_assoc]
      exact ⟨(congrArg W.cell? e2).symm.trans q0, (congrArg W.cell? e3).symm.trans q1⟩
    · intro p hp
      simp only [List.mem_map, List.mem_range] at hp
      obtain ⟨k, hk, rfl⟩ := hp
      rw [dif_pos hk]
      exact (key k hk).choose_spec.choose_spec.2.2
end Rk
end Go.Proofs.YtlkcibhdnicpkaaDoor
