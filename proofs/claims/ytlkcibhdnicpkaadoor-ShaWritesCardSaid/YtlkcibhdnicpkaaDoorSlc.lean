/- Slices of strings, slices of pairs of numbers: what they read as. -/
import Derived.Test.YtlkcibhdnicpkaaDoorBase2
namespace Go.Proofs.YtlkcibhdnicpkaaDoor
namespace Ba
open Go.RowKit
set_option linter.unusedVariables false

/-- a slice of strings -/
def ReadS (w : World) (B : Nat) (A : Option Addr) (l : List (List UInt8)) : Prop :=
  0 < l.length → ∃ b o, A = some ⟨b, o, none⟩ ∧ b < B ∧ ∀ k, k < l.length → w.cell? ⟨b, o + k, none⟩ = some (.string (S (l.getD k [])))
/-- a slice of pairs (a byte, a number) -/
def ReadP (w : World) (B : Nat) (A : Option Addr) (l : List (Int × Int)) : Prop :=
  0 < l.length → ∃ b o, A = some ⟨b, o, none⟩ ∧ b < B ∧ ∀ k, k < l.length → w.cell? ⟨b, o + k * 2, none⟩ = some (.int .u8 (l.getD k (0, 0)).1) ∧ w.cell? ⟨b, o + k * 2 + 1, none⟩ = some (.int .i64 (l.getD k (0, 0)).2)
section
variable {w w' : World} {B B' : Nat} {A : Option Addr}
theorem ReadS.below {l : List (List UInt8)} (h : ReadS w B A l) (hb : Below B w w') : ReadS w' B A l := fun hn => by
  obtain ⟨b, o, e, hbB, hc⟩ := h hn
  exact ⟨b, o, e, hbB, fun k hk => (hb.cell (p := ⟨b, o + k, none⟩) hbB).trans (hc k hk)⟩
theorem ReadP.below {l : List (Int × Int)} (h : ReadP w B A l) (hb : Below B w w') : ReadP w' B A l := fun hn => by
  obtain ⟨b, o, e, hbB, hc⟩ := h hn
  exact ⟨b, o, e, hbB, fun k hk => ⟨(hb.cell (p := ⟨b, o + k * 2, none⟩) hbB).trans (hc k hk).1, (hb.cell (p := ⟨b, o + k * 2 + 1, none⟩) hbB).trans (hc k hk).2⟩⟩
end
end Ba
end Go.Proofs.YtlkcibhdnicpkaaDoor
