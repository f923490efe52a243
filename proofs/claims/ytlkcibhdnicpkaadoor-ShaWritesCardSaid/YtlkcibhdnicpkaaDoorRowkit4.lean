/- Arguments: a slice of slices of bytes. -/
import Derived.Test.YtlkcibhdnicpkaaDoorRowkit3
import Derived.Test.YtlkcibhdnicpkaaDoorRowkit2
import Derived.Deep.Slices
namespace Go.Proofs.YtlkcibhdnicpkaaDoor
namespace Rk
open Go.ChangeShapes Go.WideShapes Go.ChangeAt Go.RowKit Ba
set_option linter.unusedVariables false
theorem bytess_open {H : Type} {enc : TypeId × Value → H} {P : Program} {W : World} {base : Nat} {spare : Nat → Bool} {held : Bool} {t e q : TypeId} {a : Option Addr} {len cap : Nat} {d : DataW H} {ps : List MemPlace}
    (hu : P.underlying t = some (.slice e)) (he : P.underlying e = some (.slice q)) (hq : P.underlying q = some (.int .u8)) (ce : P.cellsOf e = 1) (cq : P.cellsOf q = 1) (h : DataW.Trod enc P W base spare held t (.slice a len cap) d ps) :
    ∃ l : List (List UInt8), len = l.length ∧ l.length ≤ cap ∧ cap ≤ 9223372036854775807 ∧ ReadBB W W.heap.size a l ∧ True := by
  obtain ⟨fuel, hf⟩ := h
  rcases Deep.open_slice1 hu ce hf with ⟨hcs, _⟩ | ⟨x, len', cap', m, n, V, D, Pl, hcs, _, hl, hm, hmm, hx, hcell⟩
  · simp [Value.cells] at hcs
    obtain ⟨rfl, rfl, rfl⟩ := hcs
    exact ⟨[], rfl, by simp, by omega, fun h => absurd h (by simp), trivial⟩
  · simp [Value.cells] at hcs
    obtain ⟨rfl, rfl, rfl⟩ := hcs
    have hl2 : len ≤ m := by rw [hmm]; split <;> omega
    have key : ∀ i, i < len → ∃ (y : Option Addr × List UInt8 × Nat), W.cell? (x.add i) = some (.slice y.1 y.2.1.length y.2.2) ∧ y.2.1.length ≤ y.2.2 ∧ y.2.2 ≤ 9223372036854775807 ∧ ReadB W W.heap.size y.1 y.2.1 := fun i hi => by
      obtain ⟨q0, q1⟩ := hcell i (by omega)
      have hv : ∃ A l c, V i = .slice A l c := by
        rcases open_ints he hq cq q1 with ⟨hcs, _⟩ | ⟨x', l', c', zs, hcs, _⟩
        · simp only [List.cons.injEq, and_true] at hcs
          exact ⟨_, _, _, hcs⟩
        · simp only [List.cons.injEq, and_true] at hcs
          exact ⟨_, _, _, hcs⟩
      obtain ⟨A, l, c, hv⟩ := hv
      rw [hv] at q0 q1
      obtain ⟨r, rfl, h1, h2, h3⟩ := bytes_open (d := D i) (ps := Pl i) he hq cq ⟨n, q1⟩
      exact ⟨(A, r, c), q0, h1, h2, h3⟩
    refine ⟨(List.range len).map fun i => if hi : i < len then (key i hi).choose.2.1 else [], by simp, by simp; omega, by simpa [maxLen] using hm, ?_, trivial⟩
    intro hn
    have hn2 : 0 < len := by simpa using hn
    have h0 := (key 0 hn2).choose_spec.1
    obtain ⟨b, o, hx0, hblk⟩ := plain_of_cell h0
    rw [add_zero_] at hx0
    subst hx0
    refine ⟨b, o, rfl, hblk, fun k hk => ?_⟩
    have hk2 : k < len := by simpa using hk
    obtain ⟨q0, q1, q2, q3⟩ := (key k hk2).choose_spec
    have e : ((List.range len).map fun i => if hi : i < len then (key i hi).choose.2.1 else []).getD k [] = (key k hk2).choose.2.1 := by
      simp [List.getD, hk2]
    rw [e]
    exact ⟨_, _, (congrArg W.cell? (add_lit_ b o k)).symm.trans q0, q1, q2, q3⟩
end Rk
end Go.Proofs.YtlkcibhdnicpkaaDoor
