/-
  No cell of these rows narrows 'for every input' (looked for: loops, veiled, ifaces, maps, wideKeys, modest, calm, conditions, laid).
  DERIVED. THE GIVEN ROWS OF THIS SEAT. 5 by the template 'for every input the law returns true; each argument reads behind the call as it read before'; 0 by the template 'total and deterministic' (their statements: YtiofkhjpknfkgaaTotals.lean).
  GIVEN WITH THE SEED: the statements are not yours to turn. If you find one false, say at which input.
  Laid BY PROGRAM, IN A SANDBOX (cutbox-rows.mjs): the forced cells as the released guide's own fill.sh prints them over the translation a2224909e85eb617… (all of the seat's roots in one cut). By AI agents, Wed Nov 11 2026. No macro, syntax, notation, axiom, sorry.
-/
import Derived.Test.YtiofkhjpknfkgaaChecked
import GoSem.Claim
import GoSem.ClaimJoined
import GoSem.ClaimMapViews
import Derived.JoinedTies
import Derived.KernelRfl
namespace Go.Proofs.Ytiofkhjpknfkgaa
/- THE CELL 'sum', in the pinned program and in every row, IS THE sha256 OF THE DUMP (.gsa) THAT YtiofkhjpknfkgaaProg.lean LOADS. Nothing in Lean hashes anything: it is a label: what it is worth is what the hold of that sum in a sandbox is worth. -/
noncomputable def Try.pinned : Pinned := { name := "ytiofkhjpknfkgaa", sum := "a2224909e85eb617c6dc700f030f09dfaea5f6a0a9fffdbc637ad25be1681c18", checked := Try.checked }
namespace Rows
def none {H : Type} : Left H := { results := [], args := [] }

/-- 'sumpterlaw13.DeltaApplies': WHATEVER THE INPUT: true; the input reads as it did. -/
def deltaAppliesSpec : ChangeSpec := { name := "deltaApplies", fn := fun _ => fun
  | [d1, d2] => { results := [.lit (.bool true)], args := [d1, d2] }
  | _ => none }
def deltaAppliesRow : OpenClaim := { program := "ytiofkhjpknfkgaa", sum := "a2224909e85eb617c6dc700f030f09dfaea5f6a0a9fffdbc637ad25be1681c18", func := "sumpter/sumpterlaw13.DeltaApplies", spec := "deltaApplies", unfollowed := true, recurses := true, apart := false }
def DeltaAppliesSaid : Prop := deltaAppliesRow.holds Try.pinned (OpenSpec.ofChange deltaAppliesSpec)

/-- ITS FALSE NEIGHBOUR: 'it returns false'. Refute it at one input. -/
def deltaAppliesWrong : ChangeSpec := { name := "deltaApplies", fn := fun _ => fun
  | [d1, d2] => { results := [.lit (.bool false)], args := [d1, d2] }
  | _ => none }
def DeltaAppliesWrongFalsely : Prop := deltaAppliesRow.holds Try.pinned (OpenSpec.ofChange deltaAppliesWrong)

/-- 'sumpterlaw13.DeltaFeeds': WHATEVER THE INPUT: true; the input reads as it did. -/
def deltaFeedsSpec : ChangeSpec := { name := "deltaFeeds", fn := fun _ => fun
  | [d1, d2] => { results := [.lit (.bool true)], args := [d1, d2] }
  | _ => none }
def deltaFeedsRow : OpenClaim := { program := "ytiofkhjpknfkgaa", sum := "a2224909e85eb617c6dc700f030f09dfaea5f6a0a9fffdbc637ad25be1681c18", func := "sumpter/sumpterlaw13.DeltaFeeds", spec := "deltaFeeds", unfollowed := true, recurses := true, apart := false }
def DeltaFeedsSaid : Prop := deltaFeedsRow.holds Try.pinned (OpenSpec.ofChange deltaFeedsSpec)

/-- ITS FALSE NEIGHBOUR: 'it returns false'. Refute it at one input. -/
def deltaFeedsWrong : ChangeSpec := { name := "deltaFeeds", fn := fun _ => fun
  | [d1, d2] => { results := [.lit (.bool false)], args := [d1, d2] }
  | _ => none }
def DeltaFeedsWrongFalsely : Prop := deltaFeedsRow.holds Try.pinned (OpenSpec.ofChange deltaFeedsWrong)

/-- 'sumpterlaw13.DeltaFrom': WHATEVER THE INPUT: true; the input reads as it did. -/
def deltaFromSpec : ChangeSpec := { name := "deltaFrom", fn := fun _ => fun
  | [d1, d2, d3] => { results := [.lit (.bool true)], args := [d1, d2, d3] }
  | _ => none }
def deltaFromRow : OpenClaim := { program := "ytiofkhjpknfkgaa", sum := "a2224909e85eb617c6dc700f030f09dfaea5f6a0a9fffdbc637ad25be1681c18", func := "sumpter/sumpterlaw13.DeltaFrom", spec := "deltaFrom", unfollowed := true, recurses := true, apart := false }
def DeltaFromSaid : Prop := deltaFromRow.holds Try.pinned (OpenSpec.ofChange deltaFromSpec)

/-- ITS FALSE NEIGHBOUR: 'it returns false'. Refute it at one input. -/
def deltaFromWrong : ChangeSpec := { name := "deltaFrom", fn := fun _ => fun
  | [d1, d2, d3] => { results := [.lit (.bool false)], args := [d1, d2, d3] }
  | _ => none }
def DeltaFromWrongFalsely : Prop := deltaFromRow.holds Try.pinned (OpenSpec.ofChange deltaFromWrong)

/-- 'sumpterlaw13.DeltaForks': WHATEVER THE INPUT: true; the input reads as it did. -/
def deltaForksSpec : ChangeSpec := { name := "deltaForks", fn := fun _ => fun
  | [d1, d2, d3] => { results := [.lit (.bool true)], args := [d1, d2, d3] }
  | _ => none }
def deltaForksRow : OpenClaim := { program := "ytiofkhjpknfkgaa", sum := "a2224909e85eb617c6dc700f030f09dfaea5f6a0a9fffdbc637ad25be1681c18", func := "sumpter/sumpterlaw13.DeltaForks", spec := "deltaForks", unfollowed := true, recurses := true, apart := false }
def DeltaForksSaid : Prop := deltaForksRow.holds Try.pinned (OpenSpec.ofChange deltaForksSpec)

/-- ITS FALSE NEIGHBOUR: 'it returns false'. Refute it at one input. -/
def deltaForksWrong : ChangeSpec := { name := "deltaForks", fn := fun _ => fun
  | [d1, d2, d3] => { results := [.lit (.bool false)], args := [d1, d2, d3] }
  | _ => none }
def DeltaForksWrongFalsely : Prop := deltaForksRow.holds Try.pinned (OpenSpec.ofChange deltaForksWrong)

/-- 'sumpterlaw13.DeltaBack': WHATEVER THE INPUT: true; the input reads as it did. -/
def deltaBackSpec : ChangeSpec := { name := "deltaBack", fn := fun _ => fun
  | [d1, d2, d3] => { results := [.lit (.bool true)], args := [d1, d2, d3] }
  | _ => none }
def deltaBackRow : OpenClaim := { program := "ytiofkhjpknfkgaa", sum := "a2224909e85eb617c6dc700f030f09dfaea5f6a0a9fffdbc637ad25be1681c18", func := "sumpter/sumpterlaw13.DeltaBack", spec := "deltaBack", unfollowed := true, recurses := true, apart := false }
def DeltaBackSaid : Prop := deltaBackRow.holds Try.pinned (OpenSpec.ofChange deltaBackSpec)

/-- ITS FALSE NEIGHBOUR: 'it returns false'. Refute it at one input. -/
def deltaBackWrong : ChangeSpec := { name := "deltaBack", fn := fun _ => fun
  | [d1, d2, d3] => { results := [.lit (.bool false)], args := [d1, d2, d3] }
  | _ => none }
def DeltaBackWrongFalsely : Prop := deltaBackRow.holds Try.pinned (OpenSpec.ofChange deltaBackWrong)

/- THE SECOND FORM. 'bulk': how many values and letters a reading holds, each counted each time it is reached (what is shared counts as often as it is met; a slice's spare places count too). A statement '..UptoSaid' is the law's where the arguments, and the package variables that the reading takes, are together of bulk at most 1048576: NARROWER than '..Said'. Prove '..Said' where nothing that the law and all that it calls make is longer than what came in: it says more and counts as full. Else prove '..UptoSaid'. A law counts once. -/
mutual
def uptoBulk {H : Type} : DataW H → Nat
  | .lit (.string bytes) => bytes.length + 1
  | .lit _ => 1
  | .nil => 1
  | .ptr d => uptoBulk d + 1
  | .slice elems spare => uptoBulkAll elems + uptoBulkAll spare + 1
  | .agg parts => uptoBulkAll parts + 1
  | .iface _ d => uptoBulk d + 1
  | .map entries => uptoBulkEntries entries + 1
  | .held _ => 1
def uptoBulkAll {H : Type} : List (DataW H) → Nat
  | [] => 0
  | d :: r => uptoBulk d + uptoBulkAll r
def uptoBulkEntries {H : Type} : List (Lit × DataW H) → Nat
  | [] => 0
  | x :: r => uptoBulkEntry x + uptoBulkEntries r
def uptoBulkEntry {H : Type} : Lit × DataW H → Nat
  | (.string bytes, d) => bytes.length + uptoBulk d + 1
  | (_, d) => uptoBulk d + 1
 end
def uptoSmall : (H : Type) → List (DataW H) → Bool := fun _ ds => decide (uptoBulkAll ds ≤ 1048576)
def OpenSpec.upto (s : _root_.Go.ChangeSpec) : _root_.Go.OpenSpec := { _root_.Go.OpenSpec.ofChange s with cond := some uptoSmall }

/-- 'sumpterlaw13.DeltaApplies', WHERE WHAT IT READS IS OF BULK AT MOST 1048576: true; the input reads as it did. -/
def deltaAppliesUptoRow : OpenClaim := { program := "ytiofkhjpknfkgaa", sum := "a2224909e85eb617c6dc700f030f09dfaea5f6a0a9fffdbc637ad25be1681c18", func := "sumpter/sumpterlaw13.DeltaApplies", spec := "deltaApplies", unfollowed := true, recurses := true, apart := false, narrowed := true }
def DeltaAppliesUptoSaid : Prop := deltaAppliesUptoRow.holds Try.pinned (OpenSpec.upto deltaAppliesSpec)

/-- 'sumpterlaw13.DeltaFeeds', WHERE WHAT IT READS IS OF BULK AT MOST 1048576: true; the input reads as it did. -/
def deltaFeedsUptoRow : OpenClaim := { program := "ytiofkhjpknfkgaa", sum := "a2224909e85eb617c6dc700f030f09dfaea5f6a0a9fffdbc637ad25be1681c18", func := "sumpter/sumpterlaw13.DeltaFeeds", spec := "deltaFeeds", unfollowed := true, recurses := true, apart := false, narrowed := true }
def DeltaFeedsUptoSaid : Prop := deltaFeedsUptoRow.holds Try.pinned (OpenSpec.upto deltaFeedsSpec)

/-- 'sumpterlaw13.DeltaFrom', WHERE WHAT IT READS IS OF BULK AT MOST 1048576: true; the input reads as it did. -/
def deltaFromUptoRow : OpenClaim := { program := "ytiofkhjpknfkgaa", sum := "a2224909e85eb617c6dc700f030f09dfaea5f6a0a9fffdbc637ad25be1681c18", func := "sumpter/sumpterlaw13.DeltaFrom", spec := "deltaFrom", unfollowed := true, recurses := true, apart := false, narrowed := true }
def DeltaFromUptoSaid : Prop := deltaFromUptoRow.holds Try.pinned (OpenSpec.upto deltaFromSpec)

/-- 'sumpterlaw13.DeltaForks', WHERE WHAT IT READS IS OF BULK AT MOST 1048576: true; the input reads as it did. -/
def deltaForksUptoRow : OpenClaim := { program := "ytiofkhjpknfkgaa", sum := "a2224909e85eb617c6dc700f030f09dfaea5f6a0a9fffdbc637ad25be1681c18", func := "sumpter/sumpterlaw13.DeltaForks", spec := "deltaForks", unfollowed := true, recurses := true, apart := false, narrowed := true }
def DeltaForksUptoSaid : Prop := deltaForksUptoRow.holds Try.pinned (OpenSpec.upto deltaForksSpec)

/-- 'sumpterlaw13.DeltaBack', WHERE WHAT IT READS IS OF BULK AT MOST 1048576: true; the input reads as it did. -/
def deltaBackUptoRow : OpenClaim := { program := "ytiofkhjpknfkgaa", sum := "a2224909e85eb617c6dc700f030f09dfaea5f6a0a9fffdbc637ad25be1681c18", func := "sumpter/sumpterlaw13.DeltaBack", spec := "deltaBack", unfollowed := true, recurses := true, apart := false, narrowed := true }
def DeltaBackUptoSaid : Prop := deltaBackUptoRow.holds Try.pinned (OpenSpec.upto deltaBackSpec)

end Rows
end Go.Proofs.Ytiofkhjpknfkgaa
