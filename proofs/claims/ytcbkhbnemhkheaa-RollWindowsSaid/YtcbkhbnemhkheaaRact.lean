/- A slice of pairs of bytes: what it reads as, and how a row's argument of that kind is opened. -/
import Derived.Test.YtcbkhbnemhkheaaRowkit
import Derived.Test.YtcbkhbnemhkheaaRwinU
import Derived.Deep.SlicePairs
namespace Go.Proofs.Ytcbkhbnemhkheaa
namespace Ba
open Go.RowKit
/-- a slice of pairs of bytes -/
def ReadA (w : World) (B : Nat) (A : Option Addr) (l : List (UInt8 × UInt8)) : Prop :=
  0 < l.length → ∃ b o, A = some ⟨b, o, none⟩ ∧ b < B ∧ ∀ k, k < l.length → w.cell? ⟨b, o + k * 2, none⟩ = some (.int .u8 ((l.getD k (0, 0)).1.toNat : Int)) ∧ w.cell? ⟨b, o + k * 2 + 1, none⟩ = some (.int .u8 ((l.getD k (0, 0)).2.toNat : Int))
theorem ReadA.below {w w' : World} {B : Nat} {A : Option Addr} {l : List (UInt8 × UInt8)} (h : ReadA w B A l) (hb : Below B w w') : ReadA w' B A l := fun hn => by
  obtain ⟨b, o, e, hbB, hc⟩ := h hn
  exact ⟨b, o, e, hbB, fun k hk => ⟨(hb.cell (p := ⟨b, o + k * 2, none⟩) hbB).trans (hc k hk).1, (hb.cell (p := ⟨b, o + k * 2 + 1, none⟩) hbB).trans (hc k hk).2⟩⟩
end Ba
namespace Rk
open Go.ChangeShapes Go.WideShapes Go.ChangeAt Go.RowKit Go.Deep Ba
set_option linter.unusedVariables false
theorem plain_of_cell {W : World} {x : Addr} {v : Value} (h0 : W.cell? x = some v) : ∃ b o, x = ⟨b, o, none⟩ ∧ b < W.heap.size := by
  have hs : x.spot = none := by
    unfold World.cell? at h0
    split at h0
    · split at h0
      · cases h0
      · rename_i hs; simpa using hs
    · cases h0
  have hblk := block_lt_of_cell h0
  obtain ⟨b, o, s⟩ := x
  simp only at hs
  subst hs
  exact ⟨b, o, rfl, hblk⟩
theorem acts_open {H : Type} {enc : TypeId × Value → H} {P : Program} {W : World} {base : Nat} {spare : Nat → Bool} {held : Bool} {t e : TypeId} {f0 f1 : Field} {a : Option Addr} {len cap : Nat} {d : DataW H} {ps : List MemPlace}
    (hu : P.underlying t = some (.slice e)) (he : P.underlying e = some (.struct #[f0, f1])) (ce : P.cellsOf e = 2) (o0 : f0.offset = 0) (o1 : f1.offset = 1) (c0 : P.cellsOf f0.type = 1) (c1 : P.cellsOf f1.type = 1)
    (h0 : P.underlying f0.type = some (.int .u8)) (h1 : P.underlying f1.type = some (.int .u8)) (h : DataW.Trod enc P W base spare held t (.slice a len cap) d ps) :
    ∃ l : List (UInt8 × UInt8), len = l.length ∧ l.length ≤ cap ∧ cap ≤ 9223372036854775807 ∧ ReadA W W.heap.size a l := by
  obtain ⟨fuel, hf⟩ := h
  rcases open_slice_pairs hu he ce o0 o1 c0 c1 hf with ⟨hcs, _⟩ | ⟨x, len', cap', m, n, V0, V1, D0, D1, P0, P1, hcs, _, hl, hm, hmm, hx, hcell⟩
  · simp [Value.cells] at hcs
    obtain ⟨rfl, rfl, rfl⟩ := hcs
    exact ⟨[], rfl, by simp, by omega, fun h => absurd h (by simp)⟩
  · simp [Value.cells] at hcs
    obtain ⟨rfl, rfl, rfl⟩ := hcs
    have hl2 : len ≤ m := by rw [hmm]; split <;> omega
    have key : ∀ i, i < len → ∃ z0 z1 : UInt8, W.cell? (x.add (i * 2)) = some (.int .u8 (z0.toNat : Int)) ∧ W.cell? (x.add (i * 2 + 1)) = some (.int .u8 (z1.toNat : Int)) := fun i hi => by
      obtain ⟨q0, q1, q2, q3⟩ := hcell i (by omega)
      obtain ⟨z0, e0, _, w0⟩ := DataW.trod_int h0 q2
      obtain ⟨z1, e1, _, w1⟩ := DataW.trod_int h1 q3
      simp only [List.cons.injEq, and_true] at e0 e1
      rw [e0] at q0
      rw [e1] at q1
      have b0 := bd_u8 w0
      have b1 := bd_u8 w1
      refine ⟨UInt8.ofNat z0.toNat, UInt8.ofNat z1.toNat, ?_, ?_⟩
      · rw [q0, UInt8.toNat_ofNat']; congr 2; omega
      · rw [q1, UInt8.toNat_ofNat']; congr 2; omega
    refine ⟨(List.range len).map fun i => if hi : i < len then ((key i hi).choose, (key i hi).choose_spec.choose) else (0, 0), by simp, by simp; omega, by simpa [maxLen] using hm, ?_⟩
    intro hn
    have hn2 : 0 < len := by simpa using hn
    obtain ⟨b, o, rfl, hblk⟩ := plain_of_cell (key 0 hn2).choose_spec.choose_spec.1
    refine ⟨b, o, by simp, hblk, fun k hk => ?_⟩
    have hk2 : k < len := by simpa using hk
    have := (key k hk2).choose_spec.choose_spec
    have e : ((List.range len).map fun i => if hi : i < len then ((key i hi).choose, (key i hi).choose_spec.choose) else (0, 0)).getD k (0, 0) = ((key k hk2).choose, (key k hk2).choose_spec.choose) := by
      simp [List.getD, hk2]
    rw [e]
    obtain ⟨q0, q1⟩ := this
    have e2 := add_lit_ b o (k * 2)
    have e3 : (⟨b, o, none⟩ : Addr).add (k * 2 + 1) = ⟨b, o + k * 2 + 1, none⟩ := by rw [add_lit_, Nat.add_assoc]
    exact ⟨(congrArg W.cell? e2).symm.trans q0, (congrArg W.cell? e3).symm.trans q1⟩
end Rk
end Go.Proofs.Ytcbkhbnemhkheaa
