/-
  No cell of these rows narrows 'for every input' (looked for: loops, veiled, ifaces, maps, wideKeys, modest, calm, conditions, laid).
  DERIVED. THE GIVEN ROWS OF THIS SEAT. 6 by the template 'for every input the law returns true; each argument reads behind the call as it read before'; 0 by the template 'total and deterministic' (their statements: YtcbkhbnemhkheaaTotals.lean).
  GIVEN WITH THE SEED: the statements are not yours to turn. If you find one false, say at which input.
  Laid BY PROGRAM, IN A SANDBOX (cutbox-rows.mjs): the forced cells as the released guide's own fill.sh prints them over the translation d2a1dc874e6814f4… (all of the seat's roots in one cut). By AI agents, Wed Nov 11 2026. No macro, syntax, notation, axiom, sorry.
-/
import Derived.Test.YtcbkhbnemhkheaaChecked
import GoSem.Claim
import GoSem.ClaimJoined
import GoSem.ClaimMapViews
import Derived.JoinedTies
import Derived.KernelRfl
namespace Go.Proofs.Ytcbkhbnemhkheaa
/- THE CELL 'sum', in the pinned program and in every row, IS THE sha256 OF THE DUMP (.gsa) THAT YtcbkhbnemhkheaaProg.lean LOADS. Nothing in Lean hashes anything: it is a label: what it is worth is what the hold of that sum in a sandbox is worth. -/
noncomputable def Try.pinned : Pinned := { name := "ytcbkhbnemhkheaa", sum := "d2a1dc874e6814f44235d01c6647e48a1cc5753acd8c0f404e8284121fe7b984", checked := Try.checked }
namespace Rows
def none {H : Type} : Left H := { results := [], args := [] }

/-- 'sumpterlaw06.RollSums': WHATEVER THE INPUT: true; the input reads as it did. -/
def rollSumsSpec : ChangeSpec := { name := "rollSums", fn := fun _ => fun
  | [d] => { results := [.lit (.bool true)], args := [d] }
  | _ => none }
def rollSumsRow : OpenClaim := { program := "ytcbkhbnemhkheaa", sum := "d2a1dc874e6814f44235d01c6647e48a1cc5753acd8c0f404e8284121fe7b984", func := "sumpter/sumpterlaw06.RollSums", spec := "rollSums", inPlace := ["math.archTrunc", "math.Float64bits", "math.Float64frombits"], apart := false }
def RollSumsSaid : Prop := rollSumsRow.holds Try.pinned (OpenSpec.ofChange rollSumsSpec)

/-- ITS FALSE NEIGHBOUR: 'it returns false'. Refute it at one input. -/
def rollSumsWrong : ChangeSpec := { name := "rollSums", fn := fun _ => fun
  | [d] => { results := [.lit (.bool false)], args := [d] }
  | _ => none }
def RollSumsWrongFalsely : Prop := rollSumsRow.holds Try.pinned (OpenSpec.ofChange rollSumsWrong)

/-- 'sumpterlaw06.RollPacks': WHATEVER THE INPUT: true; the input reads as it did. -/
def rollPacksSpec : ChangeSpec := { name := "rollPacks", fn := fun _ => fun
  | [d1, d2] => { results := [.lit (.bool true)], args := [d1, d2] }
  | _ => none }
def rollPacksRow : OpenClaim := { program := "ytcbkhbnemhkheaa", sum := "d2a1dc874e6814f44235d01c6647e48a1cc5753acd8c0f404e8284121fe7b984", func := "sumpter/sumpterlaw06.RollPacks", spec := "rollPacks", inPlace := ["math.archTrunc", "math.Float64bits", "math.Float64frombits"], apart := false }
def RollPacksSaid : Prop := rollPacksRow.holds Try.pinned (OpenSpec.ofChange rollPacksSpec)

/-- ITS FALSE NEIGHBOUR: 'it returns false'. Refute it at one input. -/
def rollPacksWrong : ChangeSpec := { name := "rollPacks", fn := fun _ => fun
  | [d1, d2] => { results := [.lit (.bool false)], args := [d1, d2] }
  | _ => none }
def RollPacksWrongFalsely : Prop := rollPacksRow.holds Try.pinned (OpenSpec.ofChange rollPacksWrong)

/-- 'sumpterlaw06.RollAlong': WHATEVER THE INPUT: true; the input reads as it did. -/
def rollAlongSpec : ChangeSpec := { name := "rollAlong", fn := fun _ => fun
  | [d1, d2] => { results := [.lit (.bool true)], args := [d1, d2] }
  | _ => none }
def rollAlongRow : OpenClaim := { program := "ytcbkhbnemhkheaa", sum := "d2a1dc874e6814f44235d01c6647e48a1cc5753acd8c0f404e8284121fe7b984", func := "sumpter/sumpterlaw06.RollAlong", spec := "rollAlong", inPlace := ["math.archTrunc", "math.Float64bits", "math.Float64frombits"], apart := false }
def RollAlongSaid : Prop := rollAlongRow.holds Try.pinned (OpenSpec.ofChange rollAlongSpec)

/-- ITS FALSE NEIGHBOUR: 'it returns false'. Refute it at one input. -/
def rollAlongWrong : ChangeSpec := { name := "rollAlong", fn := fun _ => fun
  | [d1, d2] => { results := [.lit (.bool false)], args := [d1, d2] }
  | _ => none }
def RollAlongWrongFalsely : Prop := rollAlongRow.holds Try.pinned (OpenSpec.ofChange rollAlongWrong)

/-- 'sumpterlaw06.RollWindows': WHATEVER THE INPUT: true; the input reads as it did. -/
def rollWindowsSpec : ChangeSpec := { name := "rollWindows", fn := fun _ => fun
  | [d1, d2] => { results := [.lit (.bool true)], args := [d1, d2] }
  | _ => none }
def rollWindowsRow : OpenClaim := { program := "ytcbkhbnemhkheaa", sum := "d2a1dc874e6814f44235d01c6647e48a1cc5753acd8c0f404e8284121fe7b984", func := "sumpter/sumpterlaw06.RollWindows", spec := "rollWindows", inPlace := ["math.archTrunc", "math.Float64bits", "math.Float64frombits"], apart := false }
def RollWindowsSaid : Prop := rollWindowsRow.holds Try.pinned (OpenSpec.ofChange rollWindowsSpec)

/-- ITS FALSE NEIGHBOUR: 'it returns false'. Refute it at one input. -/
def rollWindowsWrong : ChangeSpec := { name := "rollWindows", fn := fun _ => fun
  | [d1, d2] => { results := [.lit (.bool false)], args := [d1, d2] }
  | _ => none }
def RollWindowsWrongFalsely : Prop := rollWindowsRow.holds Try.pinned (OpenSpec.ofChange rollWindowsWrong)

/-- 'sumpterlaw06.RollForgets': WHATEVER THE INPUT: true; the input reads as it did. -/
def rollForgetsSpec : ChangeSpec := { name := "rollForgets", fn := fun _ => fun
  | [d1, d2] => { results := [.lit (.bool true)], args := [d1, d2] }
  | _ => none }
def rollForgetsRow : OpenClaim := { program := "ytcbkhbnemhkheaa", sum := "d2a1dc874e6814f44235d01c6647e48a1cc5753acd8c0f404e8284121fe7b984", func := "sumpter/sumpterlaw06.RollForgets", spec := "rollForgets", inPlace := ["math.archTrunc", "math.Float64bits", "math.Float64frombits"], apart := false }
def RollForgetsSaid : Prop := rollForgetsRow.holds Try.pinned (OpenSpec.ofChange rollForgetsSpec)

/-- ITS FALSE NEIGHBOUR: 'it returns false'. Refute it at one input. -/
def rollForgetsWrong : ChangeSpec := { name := "rollForgets", fn := fun _ => fun
  | [d1, d2] => { results := [.lit (.bool false)], args := [d1, d2] }
  | _ => none }
def RollForgetsWrongFalsely : Prop := rollForgetsRow.holds Try.pinned (OpenSpec.ofChange rollForgetsWrong)

/-- 'sumpterlaw06.RollForks': WHATEVER THE INPUT: true; the input reads as it did. -/
def rollForksSpec : ChangeSpec := { name := "rollForks", fn := fun _ => fun
  | [d1, d2] => { results := [.lit (.bool true)], args := [d1, d2] }
  | _ => none }
def rollForksRow : OpenClaim := { program := "ytcbkhbnemhkheaa", sum := "d2a1dc874e6814f44235d01c6647e48a1cc5753acd8c0f404e8284121fe7b984", func := "sumpter/sumpterlaw06.RollForks", spec := "rollForks", inPlace := ["math.archTrunc", "math.Float64bits", "math.Float64frombits"], apart := false }
def RollForksSaid : Prop := rollForksRow.holds Try.pinned (OpenSpec.ofChange rollForksSpec)

/-- ITS FALSE NEIGHBOUR: 'it returns false'. Refute it at one input. -/
def rollForksWrong : ChangeSpec := { name := "rollForks", fn := fun _ => fun
  | [d1, d2] => { results := [.lit (.bool false)], args := [d1, d2] }
  | _ => none }
def RollForksWrongFalsely : Prop := rollForksRow.holds Try.pinned (OpenSpec.ofChange rollForksWrong)

/- THE SECOND FORM. 'bulk': how many values and letters a reading holds, each counted each time it is reached (what is shared counts as often as it is met; a slice's spare places count too). A statement '..UptoSaid' is the law's where the arguments, and the package variables that the reading takes, are together of bulk at most 1048576: NARROWER than '..Said'. Prove '..Said' where nothing that the law and all that it calls make is longer than what came in: it says more and counts as full. Else prove '..UptoSaid'. A law counts once. -/
mutual
def uptoBulk {H : Type} : DataW H → Nat
  | .lit (.string bytes) => bytes.length + 1
  | .lit _ => 1
  | .nil => 1
  | .ptr d => uptoBulk d + 1
  | .slice elems spare => uptoBulkAll elems + uptoBulkAll spare + 1
  | .agg parts => uptoBulkAll parts + 1
  | .iface _ d => uptoBulk d + 1
  | .map entries => uptoBulkEntries entries + 1
  | .held _ => 1
def uptoBulkAll {H : Type} : List (DataW H) → Nat
  | [] => 0
  | d :: r => uptoBulk d + uptoBulkAll r
def uptoBulkEntries {H : Type} : List (Lit × DataW H) → Nat
  | [] => 0
  | x :: r => uptoBulkEntry x + uptoBulkEntries r
def uptoBulkEntry {H : Type} : Lit × DataW H → Nat
  | (.string bytes, d) => bytes.length + uptoBulk d + 1
  | (_, d) => uptoBulk d + 1
 end
def uptoSmall : (H : Type) → List (DataW H) → Bool := fun _ ds => decide (uptoBulkAll ds ≤ 1048576)
def OpenSpec.upto (s : _root_.Go.ChangeSpec) : _root_.Go.OpenSpec := { _root_.Go.OpenSpec.ofChange s with cond := some uptoSmall }

/-- 'sumpterlaw06.RollSums', WHERE WHAT IT READS IS OF BULK AT MOST 1048576: true; the input reads as it did. -/
def rollSumsUptoRow : OpenClaim := { program := "ytcbkhbnemhkheaa", sum := "d2a1dc874e6814f44235d01c6647e48a1cc5753acd8c0f404e8284121fe7b984", func := "sumpter/sumpterlaw06.RollSums", spec := "rollSums", inPlace := ["math.archTrunc", "math.Float64bits", "math.Float64frombits"], apart := false, narrowed := true }
def RollSumsUptoSaid : Prop := rollSumsUptoRow.holds Try.pinned (OpenSpec.upto rollSumsSpec)

/-- 'sumpterlaw06.RollPacks', WHERE WHAT IT READS IS OF BULK AT MOST 1048576: true; the input reads as it did. -/
def rollPacksUptoRow : OpenClaim := { program := "ytcbkhbnemhkheaa", sum := "d2a1dc874e6814f44235d01c6647e48a1cc5753acd8c0f404e8284121fe7b984", func := "sumpter/sumpterlaw06.RollPacks", spec := "rollPacks", inPlace := ["math.archTrunc", "math.Float64bits", "math.Float64frombits"], apart := false, narrowed := true }
def RollPacksUptoSaid : Prop := rollPacksUptoRow.holds Try.pinned (OpenSpec.upto rollPacksSpec)

/-- 'sumpterlaw06.RollAlong', WHERE WHAT IT READS IS OF BULK AT MOST 1048576: true; the input reads as it did. -/
def rollAlongUptoRow : OpenClaim := { program := "ytcbkhbnemhkheaa", sum := "d2a1dc874e6814f44235d01c6647e48a1cc5753acd8c0f404e8284121fe7b984", func := "sumpter/sumpterlaw06.RollAlong", spec := "rollAlong", inPlace := ["math.archTrunc", "math.Float64bits", "math.Float64frombits"], apart := false, narrowed := true }
def RollAlongUptoSaid : Prop := rollAlongUptoRow.holds Try.pinned (OpenSpec.upto rollAlongSpec)

/-- 'sumpterlaw06.RollWindows', WHERE WHAT IT READS IS OF BULK AT MOST 1048576: true; the input reads as it did. -/
def rollWindowsUptoRow : OpenClaim := { program := "ytcbkhbnemhkheaa", sum := "d2a1dc874e6814f44235d01c6647e48a1cc5753acd8c0f404e8284121fe7b984", func := "sumpter/sumpterlaw06.RollWindows", spec := "rollWindows", inPlace := ["math.archTrunc", "math.Float64bits", "math.Float64frombits"], apart := false, narrowed := true }
def RollWindowsUptoSaid : Prop := rollWindowsUptoRow.holds Try.pinned (OpenSpec.upto rollWindowsSpec)

/-- 'sumpterlaw06.RollForgets', WHERE WHAT IT READS IS OF BULK AT MOST 1048576: true; the input reads as it did. -/
def rollForgetsUptoRow : OpenClaim := { program := "ytcbkhbnemhkheaa", sum := "d2a1dc874e6814f44235d01c6647e48a1cc5753acd8c0f404e8284121fe7b984", func := "sumpter/sumpterlaw06.RollForgets", spec := "rollForgets", inPlace := ["math.archTrunc", "math.Float64bits", "math.Float64frombits"], apart := false, narrowed := true }
def RollForgetsUptoSaid : Prop := rollForgetsUptoRow.holds Try.pinned (OpenSpec.upto rollForgetsSpec)

/-- 'sumpterlaw06.RollForks', WHERE WHAT IT READS IS OF BULK AT MOST 1048576: true; the input reads as it did. -/
def rollForksUptoRow : OpenClaim := { program := "ytcbkhbnemhkheaa", sum := "d2a1dc874e6814f44235d01c6647e48a1cc5753acd8c0f404e8284121fe7b984", func := "sumpter/sumpterlaw06.RollForks", spec := "rollForks", inPlace := ["math.archTrunc", "math.Float64bits", "math.Float64frombits"], apart := false, narrowed := true }
def RollForksUptoSaid : Prop := rollForksUptoRow.holds Try.pinned (OpenSpec.upto rollForksSpec)

end Rows
end Go.Proofs.Ytcbkhbnemhkheaa
