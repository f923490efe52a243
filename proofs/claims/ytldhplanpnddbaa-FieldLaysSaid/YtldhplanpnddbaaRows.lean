/-
  No cell of these rows narrows 'for every input' (looked for: loops, veiled, ifaces, maps, wideKeys, modest, calm, conditions, laid).
  DERIVED. THE GIVEN ROWS OF THIS SEAT. 11 by the template 'for every input the law returns true; each argument reads behind the call as it read before'; 0 by the template 'total and deterministic' (their statements: YtldhplanpnddbaaTotals.lean).
  GIVEN WITH THE SEED: the statements are not yours to turn. If you find one false, say at which input.
  Laid BY PROGRAM, IN A SANDBOX (cutbox-rows.mjs): the forced cells as the released guide's own fill.sh prints them over the translation e9880d2ceee8bacf… (all of the seat's roots in one cut). By AI agents, Wed Nov 11 2026. No macro, syntax, notation, axiom, sorry.
-/
import Derived.Test.YtldhplanpnddbaaChecked
import GoSem.Claim
import GoSem.ClaimJoined
import GoSem.ClaimMapViews
import Derived.JoinedTies
import Derived.KernelRfl
namespace Go.Proofs.Ytldhplanpnddbaa
/- THE CELL 'sum', in the pinned program and in every row, IS THE sha256 OF THE DUMP (.gsa) THAT YtldhplanpnddbaaProg.lean LOADS. Nothing in Lean hashes anything: it is a label: what it is worth is what the hold of that sum in a sandbox is worth. -/
noncomputable def Try.pinned : Pinned := { name := "ytldhplanpnddbaa", sum := "e9880d2ceee8bacf7b636ff546985f8d91d2e7f790315f1190b916ca62758f55", checked := Try.checked }
namespace Rows
def none {H : Type} : Left H := { results := [], args := [] }

/-- 'sumpterlaw01.VarintLens': WHATEVER THE INPUT: true; the input reads as it did. -/
def varintLensSpec : ChangeSpec := { name := "varintLens", fn := fun _ => fun
  | [d] => { results := [.lit (.bool true)], args := [d] }
  | _ => none }
def varintLensRow : OpenClaim := { program := "ytldhplanpnddbaa", sum := "e9880d2ceee8bacf7b636ff546985f8d91d2e7f790315f1190b916ca62758f55", func := "sumpter/sumpterlaw01.VarintLens", spec := "varintLens", apart := false }
def VarintLensSaid : Prop := varintLensRow.holds Try.pinned (OpenSpec.ofChange varintLensSpec)

/-- ITS FALSE NEIGHBOUR: 'it returns false'. Refute it at one input. -/
def varintLensWrong : ChangeSpec := { name := "varintLens", fn := fun _ => fun
  | [d] => { results := [.lit (.bool false)], args := [d] }
  | _ => none }
def VarintLensWrongFalsely : Prop := varintLensRow.holds Try.pinned (OpenSpec.ofChange varintLensWrong)

/-- 'sumpterlaw01.VarintPuts': WHATEVER THE INPUT: true; the input reads as it did. -/
def varintPutsSpec : ChangeSpec := { name := "varintPuts", fn := fun _ => fun
  | [d1, d2] => { results := [.lit (.bool true)], args := [d1, d2] }
  | _ => none }
def varintPutsRow : OpenClaim := { program := "ytldhplanpnddbaa", sum := "e9880d2ceee8bacf7b636ff546985f8d91d2e7f790315f1190b916ca62758f55", func := "sumpter/sumpterlaw01.VarintPuts", spec := "varintPuts", apart := false }
def VarintPutsSaid : Prop := varintPutsRow.holds Try.pinned (OpenSpec.ofChange varintPutsSpec)

/-- ITS FALSE NEIGHBOUR: 'it returns false'. Refute it at one input. -/
def varintPutsWrong : ChangeSpec := { name := "varintPuts", fn := fun _ => fun
  | [d1, d2] => { results := [.lit (.bool false)], args := [d1, d2] }
  | _ => none }
def VarintPutsWrongFalsely : Prop := varintPutsRow.holds Try.pinned (OpenSpec.ofChange varintPutsWrong)

/-- 'sumpterlaw01.VarintGets': WHATEVER THE INPUT: true; the input reads as it did. -/
def varintGetsSpec : ChangeSpec := { name := "varintGets", fn := fun _ => fun
  | [d] => { results := [.lit (.bool true)], args := [d] }
  | _ => none }
def varintGetsRow : OpenClaim := { program := "ytldhplanpnddbaa", sum := "e9880d2ceee8bacf7b636ff546985f8d91d2e7f790315f1190b916ca62758f55", func := "sumpter/sumpterlaw01.VarintGets", spec := "varintGets", apart := false }
def VarintGetsSaid : Prop := varintGetsRow.holds Try.pinned (OpenSpec.ofChange varintGetsSpec)

/-- ITS FALSE NEIGHBOUR: 'it returns false'. Refute it at one input. -/
def varintGetsWrong : ChangeSpec := { name := "varintGets", fn := fun _ => fun
  | [d] => { results := [.lit (.bool false)], args := [d] }
  | _ => none }
def VarintGetsWrongFalsely : Prop := varintGetsRow.holds Try.pinned (OpenSpec.ofChange varintGetsWrong)

/-- 'sumpterlaw01.VarintBack': WHATEVER THE INPUT: true; the input reads as it did. -/
def varintBackSpec : ChangeSpec := { name := "varintBack", fn := fun _ => fun
  | [d1, d2] => { results := [.lit (.bool true)], args := [d1, d2] }
  | _ => none }
def varintBackRow : OpenClaim := { program := "ytldhplanpnddbaa", sum := "e9880d2ceee8bacf7b636ff546985f8d91d2e7f790315f1190b916ca62758f55", func := "sumpter/sumpterlaw01.VarintBack", spec := "varintBack", apart := false }
def VarintBackSaid : Prop := varintBackRow.holds Try.pinned (OpenSpec.ofChange varintBackSpec)

/-- ITS FALSE NEIGHBOUR: 'it returns false'. Refute it at one input. -/
def varintBackWrong : ChangeSpec := { name := "varintBack", fn := fun _ => fun
  | [d1, d2] => { results := [.lit (.bool false)], args := [d1, d2] }
  | _ => none }
def VarintBackWrongFalsely : Prop := varintBackRow.holds Try.pinned (OpenSpec.ofChange varintBackWrong)

/-- 'sumpterlaw01.VarintCuts': WHATEVER THE INPUT: true; the input reads as it did. -/
def varintCutsSpec : ChangeSpec := { name := "varintCuts", fn := fun _ => fun
  | [d1, d2] => { results := [.lit (.bool true)], args := [d1, d2] }
  | _ => none }
def varintCutsRow : OpenClaim := { program := "ytldhplanpnddbaa", sum := "e9880d2ceee8bacf7b636ff546985f8d91d2e7f790315f1190b916ca62758f55", func := "sumpter/sumpterlaw01.VarintCuts", spec := "varintCuts", apart := false }
def VarintCutsSaid : Prop := varintCutsRow.holds Try.pinned (OpenSpec.ofChange varintCutsSpec)

/-- ITS FALSE NEIGHBOUR: 'it returns false'. Refute it at one input. -/
def varintCutsWrong : ChangeSpec := { name := "varintCuts", fn := fun _ => fun
  | [d1, d2] => { results := [.lit (.bool false)], args := [d1, d2] }
  | _ => none }
def VarintCutsWrongFalsely : Prop := varintCutsRow.holds Try.pinned (OpenSpec.ofChange varintCutsWrong)

/-- 'sumpterlaw01.VarintOrder': WHATEVER THE INPUT: true; the input reads as it did. -/
def varintOrderSpec : ChangeSpec := { name := "varintOrder", fn := fun _ => fun
  | [d1, d2] => { results := [.lit (.bool true)], args := [d1, d2] }
  | _ => none }
def varintOrderRow : OpenClaim := { program := "ytldhplanpnddbaa", sum := "e9880d2ceee8bacf7b636ff546985f8d91d2e7f790315f1190b916ca62758f55", func := "sumpter/sumpterlaw01.VarintOrder", spec := "varintOrder", apart := false }
def VarintOrderSaid : Prop := varintOrderRow.holds Try.pinned (OpenSpec.ofChange varintOrderSpec)

/-- ITS FALSE NEIGHBOUR: 'it returns false'. Refute it at one input. -/
def varintOrderWrong : ChangeSpec := { name := "varintOrder", fn := fun _ => fun
  | [d1, d2] => { results := [.lit (.bool false)], args := [d1, d2] }
  | _ => none }
def VarintOrderWrongFalsely : Prop := varintOrderRow.holds Try.pinned (OpenSpec.ofChange varintOrderWrong)

/-- 'sumpterlaw02.FieldLays': WHATEVER THE INPUT: true; the input reads as it did. -/
def fieldLaysSpec : ChangeSpec := { name := "fieldLays", fn := fun _ => fun
  | [d1, d2] => { results := [.lit (.bool true)], args := [d1, d2] }
  | _ => none }
def fieldLaysRow : OpenClaim := { program := "ytldhplanpnddbaa", sum := "e9880d2ceee8bacf7b636ff546985f8d91d2e7f790315f1190b916ca62758f55", func := "sumpter/sumpterlaw02.FieldLays", spec := "fieldLays", apart := false }
def FieldLaysSaid : Prop := fieldLaysRow.holds Try.pinned (OpenSpec.ofChange fieldLaysSpec)

/-- ITS FALSE NEIGHBOUR: 'it returns false'. Refute it at one input. -/
def fieldLaysWrong : ChangeSpec := { name := "fieldLays", fn := fun _ => fun
  | [d1, d2] => { results := [.lit (.bool false)], args := [d1, d2] }
  | _ => none }
def FieldLaysWrongFalsely : Prop := fieldLaysRow.holds Try.pinned (OpenSpec.ofChange fieldLaysWrong)

/-- 'sumpterlaw02.FieldTakes': WHATEVER THE INPUT: true; the input reads as it did. -/
def fieldTakesSpec : ChangeSpec := { name := "fieldTakes", fn := fun _ => fun
  | [d1, d2] => { results := [.lit (.bool true)], args := [d1, d2] }
  | _ => none }
def fieldTakesRow : OpenClaim := { program := "ytldhplanpnddbaa", sum := "e9880d2ceee8bacf7b636ff546985f8d91d2e7f790315f1190b916ca62758f55", func := "sumpter/sumpterlaw02.FieldTakes", spec := "fieldTakes", apart := false }
def FieldTakesSaid : Prop := fieldTakesRow.holds Try.pinned (OpenSpec.ofChange fieldTakesSpec)

/-- ITS FALSE NEIGHBOUR: 'it returns false'. Refute it at one input. -/
def fieldTakesWrong : ChangeSpec := { name := "fieldTakes", fn := fun _ => fun
  | [d1, d2] => { results := [.lit (.bool false)], args := [d1, d2] }
  | _ => none }
def FieldTakesWrongFalsely : Prop := fieldTakesRow.holds Try.pinned (OpenSpec.ofChange fieldTakesWrong)

/-- 'sumpterlaw02.FieldBack': WHATEVER THE INPUT: true; the input reads as it did. -/
def fieldBackSpec : ChangeSpec := { name := "fieldBack", fn := fun _ => fun
  | [d1, d2, d3] => { results := [.lit (.bool true)], args := [d1, d2, d3] }
  | _ => none }
def fieldBackRow : OpenClaim := { program := "ytldhplanpnddbaa", sum := "e9880d2ceee8bacf7b636ff546985f8d91d2e7f790315f1190b916ca62758f55", func := "sumpter/sumpterlaw02.FieldBack", spec := "fieldBack", apart := false }
def FieldBackSaid : Prop := fieldBackRow.holds Try.pinned (OpenSpec.ofChange fieldBackSpec)

/-- ITS FALSE NEIGHBOUR: 'it returns false'. Refute it at one input. -/
def fieldBackWrong : ChangeSpec := { name := "fieldBack", fn := fun _ => fun
  | [d1, d2, d3] => { results := [.lit (.bool false)], args := [d1, d2, d3] }
  | _ => none }
def FieldBackWrongFalsely : Prop := fieldBackRow.holds Try.pinned (OpenSpec.ofChange fieldBackWrong)

/-- 'sumpterlaw02.FieldBounds': WHATEVER THE INPUT: true; the input reads as it did. -/
def fieldBoundsSpec : ChangeSpec := { name := "fieldBounds", fn := fun _ => fun
  | [d1, d2] => { results := [.lit (.bool true)], args := [d1, d2] }
  | _ => none }
def fieldBoundsRow : OpenClaim := { program := "ytldhplanpnddbaa", sum := "e9880d2ceee8bacf7b636ff546985f8d91d2e7f790315f1190b916ca62758f55", func := "sumpter/sumpterlaw02.FieldBounds", spec := "fieldBounds", apart := false }
def FieldBoundsSaid : Prop := fieldBoundsRow.holds Try.pinned (OpenSpec.ofChange fieldBoundsSpec)

/-- ITS FALSE NEIGHBOUR: 'it returns false'. Refute it at one input. -/
def fieldBoundsWrong : ChangeSpec := { name := "fieldBounds", fn := fun _ => fun
  | [d1, d2] => { results := [.lit (.bool false)], args := [d1, d2] }
  | _ => none }
def FieldBoundsWrongFalsely : Prop := fieldBoundsRow.holds Try.pinned (OpenSpec.ofChange fieldBoundsWrong)

/-- 'sumpterlaw02.FieldCuts': WHATEVER THE INPUT: true; the input reads as it did. -/
def fieldCutsSpec : ChangeSpec := { name := "fieldCuts", fn := fun _ => fun
  | [d1, d2] => { results := [.lit (.bool true)], args := [d1, d2] }
  | _ => none }
def fieldCutsRow : OpenClaim := { program := "ytldhplanpnddbaa", sum := "e9880d2ceee8bacf7b636ff546985f8d91d2e7f790315f1190b916ca62758f55", func := "sumpter/sumpterlaw02.FieldCuts", spec := "fieldCuts", apart := false }
def FieldCutsSaid : Prop := fieldCutsRow.holds Try.pinned (OpenSpec.ofChange fieldCutsSpec)

/-- ITS FALSE NEIGHBOUR: 'it returns false'. Refute it at one input. -/
def fieldCutsWrong : ChangeSpec := { name := "fieldCuts", fn := fun _ => fun
  | [d1, d2] => { results := [.lit (.bool false)], args := [d1, d2] }
  | _ => none }
def FieldCutsWrongFalsely : Prop := fieldCutsRow.holds Try.pinned (OpenSpec.ofChange fieldCutsWrong)

/- THE SECOND FORM. 'bulk': how many values and letters a reading holds, each counted each time it is reached (what is shared counts as often as it is met; a slice's spare places count too). A statement '..UptoSaid' is the law's where the arguments, and the package variables that the reading takes, are together of bulk at most 1048576: NARROWER than '..Said'. Prove '..Said' where nothing that the law and all that it calls make is longer than what came in: it says more and counts as full. Else prove '..UptoSaid'. A law counts once. -/
mutual
def uptoBulk {H : Type} : DataW H → Nat
  | .lit (.string bytes) => bytes.length + 1
  | .lit _ => 1
  | .nil => 1
  | .ptr d => uptoBulk d + 1
  | .slice elems spare => uptoBulkAll elems + uptoBulkAll spare + 1
  | .agg parts => uptoBulkAll parts + 1
  | .iface _ d => uptoBulk d + 1
  | .map entries => uptoBulkEntries entries + 1
  | .held _ => 1
def uptoBulkAll {H : Type} : List (DataW H) → Nat
  | [] => 0
  | d :: r => uptoBulk d + uptoBulkAll r
def uptoBulkEntries {H : Type} : List (Lit × DataW H) → Nat
  | [] => 0
  | x :: r => uptoBulkEntry x + uptoBulkEntries r
def uptoBulkEntry {H : Type} : Lit × DataW H → Nat
  | (.string bytes, d) => bytes.length + uptoBulk d + 1
  | (_, d) => uptoBulk d + 1
 end
def uptoSmall : (H : Type) → List (DataW H) → Bool := fun _ ds => decide (uptoBulkAll ds ≤ 1048576)
def OpenSpec.upto (s : _root_.Go.ChangeSpec) : _root_.Go.OpenSpec := { _root_.Go.OpenSpec.ofChange s with cond := some uptoSmall }

/-- 'sumpterlaw01.VarintLens', WHERE WHAT IT READS IS OF BULK AT MOST 1048576: true; the input reads as it did. -/
def varintLensUptoRow : OpenClaim := { program := "ytldhplanpnddbaa", sum := "e9880d2ceee8bacf7b636ff546985f8d91d2e7f790315f1190b916ca62758f55", func := "sumpter/sumpterlaw01.VarintLens", spec := "varintLens", apart := false, narrowed := true }
def VarintLensUptoSaid : Prop := varintLensUptoRow.holds Try.pinned (OpenSpec.upto varintLensSpec)

/-- 'sumpterlaw01.VarintPuts', WHERE WHAT IT READS IS OF BULK AT MOST 1048576: true; the input reads as it did. -/
def varintPutsUptoRow : OpenClaim := { program := "ytldhplanpnddbaa", sum := "e9880d2ceee8bacf7b636ff546985f8d91d2e7f790315f1190b916ca62758f55", func := "sumpter/sumpterlaw01.VarintPuts", spec := "varintPuts", apart := false, narrowed := true }
def VarintPutsUptoSaid : Prop := varintPutsUptoRow.holds Try.pinned (OpenSpec.upto varintPutsSpec)

/-- 'sumpterlaw01.VarintGets', WHERE WHAT IT READS IS OF BULK AT MOST 1048576: true; the input reads as it did. -/
def varintGetsUptoRow : OpenClaim := { program := "ytldhplanpnddbaa", sum := "e9880d2ceee8bacf7b636ff546985f8d91d2e7f790315f1190b916ca62758f55", func := "sumpter/sumpterlaw01.VarintGets", spec := "varintGets", apart := false, narrowed := true }
def VarintGetsUptoSaid : Prop := varintGetsUptoRow.holds Try.pinned (OpenSpec.upto varintGetsSpec)

/-- 'sumpterlaw01.VarintBack', WHERE WHAT IT READS IS OF BULK AT MOST 1048576: true; the input reads as it did. -/
def varintBackUptoRow : OpenClaim := { program := "ytldhplanpnddbaa", sum := "e9880d2ceee8bacf7b636ff546985f8d91d2e7f790315f1190b916ca62758f55", func := "sumpter/sumpterlaw01.VarintBack", spec := "varintBack", apart := false, narrowed := true }
def VarintBackUptoSaid : Prop := varintBackUptoRow.holds Try.pinned (OpenSpec.upto varintBackSpec)

/-- 'sumpterlaw01.VarintCuts', WHERE WHAT IT READS IS OF BULK AT MOST 1048576: true; the input reads as it did. -/
def varintCutsUptoRow : OpenClaim := { program := "ytldhplanpnddbaa", sum := "e9880d2ceee8bacf7b636ff546985f8d91d2e7f790315f1190b916ca62758f55", func := "sumpter/sumpterlaw01.VarintCuts", spec := "varintCuts", apart := false, narrowed := true }
def VarintCutsUptoSaid : Prop := varintCutsUptoRow.holds Try.pinned (OpenSpec.upto varintCutsSpec)

/-- 'sumpterlaw01.VarintOrder', WHERE WHAT IT READS IS OF BULK AT MOST 1048576: true; the input reads as it did. -/
def varintOrderUptoRow : OpenClaim := { program := "ytldhplanpnddbaa", sum := "e9880d2ceee8bacf7b636ff546985f8d91d2e7f790315f1190b916ca62758f55", func := "sumpter/sumpterlaw01.VarintOrder", spec := "varintOrder", apart := false, narrowed := true }
def VarintOrderUptoSaid : Prop := varintOrderUptoRow.holds Try.pinned (OpenSpec.upto varintOrderSpec)

/-- 'sumpterlaw02.FieldLays', WHERE WHAT IT READS IS OF BULK AT MOST 1048576: true; the input reads as it did. -/
def fieldLaysUptoRow : OpenClaim := { program := "ytldhplanpnddbaa", sum := "e9880d2ceee8bacf7b636ff546985f8d91d2e7f790315f1190b916ca62758f55", func := "sumpter/sumpterlaw02.FieldLays", spec := "fieldLays", apart := false, narrowed := true }
def FieldLaysUptoSaid : Prop := fieldLaysUptoRow.holds Try.pinned (OpenSpec.upto fieldLaysSpec)

/-- 'sumpterlaw02.FieldTakes', WHERE WHAT IT READS IS OF BULK AT MOST 1048576: true; the input reads as it did. -/
def fieldTakesUptoRow : OpenClaim := { program := "ytldhplanpnddbaa", sum := "e9880d2ceee8bacf7b636ff546985f8d91d2e7f790315f1190b916ca62758f55", func := "sumpter/sumpterlaw02.FieldTakes", spec := "fieldTakes", apart := false, narrowed := true }
def FieldTakesUptoSaid : Prop := fieldTakesUptoRow.holds Try.pinned (OpenSpec.upto fieldTakesSpec)

/-- 'sumpterlaw02.FieldBack', WHERE WHAT IT READS IS OF BULK AT MOST 1048576: true; the input reads as it did. -/
def fieldBackUptoRow : OpenClaim := { program := "ytldhplanpnddbaa", sum := "e9880d2ceee8bacf7b636ff546985f8d91d2e7f790315f1190b916ca62758f55", func := "sumpter/sumpterlaw02.FieldBack", spec := "fieldBack", apart := false, narrowed := true }
def FieldBackUptoSaid : Prop := fieldBackUptoRow.holds Try.pinned (OpenSpec.upto fieldBackSpec)

/-- 'sumpterlaw02.FieldBounds', WHERE WHAT IT READS IS OF BULK AT MOST 1048576: true; the input reads as it did. -/
def fieldBoundsUptoRow : OpenClaim := { program := "ytldhplanpnddbaa", sum := "e9880d2ceee8bacf7b636ff546985f8d91d2e7f790315f1190b916ca62758f55", func := "sumpter/sumpterlaw02.FieldBounds", spec := "fieldBounds", apart := false, narrowed := true }
def FieldBoundsUptoSaid : Prop := fieldBoundsUptoRow.holds Try.pinned (OpenSpec.upto fieldBoundsSpec)

/-- 'sumpterlaw02.FieldCuts', WHERE WHAT IT READS IS OF BULK AT MOST 1048576: true; the input reads as it did. -/
def fieldCutsUptoRow : OpenClaim := { program := "ytldhplanpnddbaa", sum := "e9880d2ceee8bacf7b636ff546985f8d91d2e7f790315f1190b916ca62758f55", func := "sumpter/sumpterlaw02.FieldCuts", spec := "fieldCuts", apart := false, narrowed := true }
def FieldCutsUptoSaid : Prop := fieldCutsUptoRow.holds Try.pinned (OpenSpec.upto fieldCutsSpec)

end Rows
end Go.Proofs.Ytldhplanpnddbaa
