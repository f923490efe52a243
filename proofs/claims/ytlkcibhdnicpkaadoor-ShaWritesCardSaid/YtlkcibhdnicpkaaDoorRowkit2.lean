/- How a row's arguments are opened: strings that came in, pairs that came in. -/
import Derived.Test.YtlkcibhdnicpkaaDoorRowkit
import Derived.Test.YtlkcibhdnicpkaaDoorSlc
import Derived.Deep.SlicePairs
import Derived.Deep.Strs
namespace Go.Proofs.YtlkcibhdnicpkaaDoor
namespace Rk
open Go.ChangeShapes Go.WideShapes Go.ChangeAt Go.RowKit Go.Deep Ba
set_option linter.unusedVariables false

theorem plain_of_cell {W : World} {x : Addr} {v : Value} (h0 : W.cell? x = some v) : ∃ b o, x = ⟨b, o, none⟩ ∧ b < W.heap.size := by
  have hs : x.spot = none := by
    unfold World.cell? at h0
    split at h0
    · split at h0
      · cases h0
      · rename_i hs; simpa using hs
    · cases h0
  have hblk := block_lt_of_cell h0
  obtain ⟨b, o, s⟩ := x
  simp only at hs
  subst hs
  exact ⟨b, o, rfl, hblk⟩

theorem strs_open {H : Type} {enc : TypeId × Value → H} {P : Program} {W : World} {base : Nat} {spare : Nat → Bool} {held : Bool} {t e : TypeId} {a : Option Addr} {len cap : Nat} {d : DataW H} {ps : List MemPlace}
    (hu : P.underlying t = some (.slice e)) (he : P.underlying e = some .string) (hc : P.cellsOf e = 1) (h : DataW.Trod enc P W base spare held t (.slice a len cap) d ps) :
    ∃ l : List (List UInt8), len = l.length ∧ l.length ≤ cap ∧ cap ≤ 9223372036854775807 ∧ ReadS W W.heap.size a l ∧ ∀ r ∈ l, r.length ≤ 9223372036854775807 := by
  obtain ⟨fuel, hf⟩ := h
  rcases open_strs hu he hc hf with ⟨hcs, _⟩ | ⟨x, len', cap', m, Sx, hcs, _, hl, hm, hmm, hx, hcell⟩
  · simp [Value.cells] at hcs
    obtain ⟨rfl, rfl, rfl⟩ := hcs
    exact ⟨[], rfl, by simp, by omega, fun h => absurd h (by simp), by simp⟩
  · simp [Value.cells] at hcs
    obtain ⟨rfl, rfl, rfl⟩ := hcs
    have hl2 : len ≤ m := by rw [hmm]; split <;> omega
    refine ⟨(List.range len).map fun k => (Sx k).data.toList, by simp, by simp; omega, by simpa [maxLen] using hm, ?_, ?_⟩
    · intro hn
      have hn2 : 0 < len := by simpa using hn
      have h0 := (hcell 0 (by omega)).1
      rw [add_zero_] at h0
      obtain ⟨b, o, rfl, hblk⟩ := plain_of_cell h0
      refine ⟨b, o, rfl, hblk, fun k hk => ?_⟩
      have hk2 : k < len := by simpa using hk
      have := (hcell k (by omega)).1
      rw [add_lit_] at this
      rw [this]
      simp [List.getD, hk2, S_data]
    · intro r hr
      simp only [List.mem_map, List.mem_range] at hr
      obtain ⟨k, hk, rfl⟩ := hr
      have := (hcell k (by omega)).2
      rw [Array.length_toList]
      exact this
end Rk
end Go.Proofs.YtlkcibhdnicpkaaDoor
