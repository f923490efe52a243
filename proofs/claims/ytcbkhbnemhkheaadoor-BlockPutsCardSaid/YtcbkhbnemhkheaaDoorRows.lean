/-
  NARROWER THAN 'FOR EVERY INPUT', by the rows' own cells (each row's printed sentence says how): BlockSigns: laid · BlockSizes: laid · BlockFinds: laid · BlockWhole: laid · BlockPuts: laid · BlockBack: laid.
  DERIVED. THE GIVEN ROWS OF THIS SEAT. 6 by the template 'for every input the law returns true; each argument reads behind the call as it read before'; 0 by the template 'total and deterministic' (their statements: YtcbkhbnemhkheaaDoorTotals.lean).
  GIVEN WITH THE SEED: the statements are not yours to turn. If you find one false, say at which input.
  Laid BY PROGRAM, IN A SANDBOX (cutbox-rows.mjs): the forced cells as the released guide's own fill.sh prints them over the translation 10d9a1eb04fea574… (all of the seat's roots in one cut). By AI agents, Wed Nov 11 2026. No macro, syntax, notation, axiom, sorry.
-/
import Derived.Test.YtcbkhbnemhkheaaDoorChecked
import GoSem.Claim
import GoSem.ClaimJoined
import GoSem.ClaimMapViews
import Derived.JoinedTies
import Derived.KernelRfl
namespace Go.Proofs.YtcbkhbnemhkheaaDoor
/- THE CELL 'sum', in the pinned program and in every row, IS THE sha256 OF THE DUMP (.gsa) THAT YtcbkhbnemhkheaaDoorProg.lean LOADS. Nothing in Lean hashes anything: it is a label: what it is worth is what the hold of that sum in a sandbox is worth. -/
noncomputable def Tryd.pinned : Pinned := { name := "ytcbkhbnemhkheaadoor", sum := "10d9a1eb04fea574a91e45402b113235190efa4ba981cae22305eaa1a7ed3255", checked := Tryd.checked }
namespace Rows
def none {H : Type} : Left H := { results := [], args := [] }

/- WHAT THE LISTED PACKAGE-LEVEL VARIABLES READ AS WHEN THE CALL BEGINS. Each datum BY PROGRAM (the guide's laid-datum.mjs) off the statement by which the dump's own 'gosem.cut.vars' lays the variable. In a bare row this is a premise. The card (YtcbkhbnemhkheaaDoorCards.lean) ties it to the program's text. -/
def laid_sumpter_sha_rounds {H : Type} : DataW H := .agg [.lit (.int .u32 1116352408), .lit (.int .u32 1899447441), .lit (.int .u32 3049323471), .lit (.int .u32 3921009573), .lit (.int .u32 961987163), .lit (.int .u32 1508970993), .lit (.int .u32 2453635748), .lit (.int .u32 2870763221), .lit (.int .u32 3624381080), .lit (.int .u32 310598401), .lit (.int .u32 607225278), .lit (.int .u32 1426881987), .lit (.int .u32 1925078388), .lit (.int .u32 2162078206), .lit (.int .u32 2614888103), .lit (.int .u32 3248222580), .lit (.int .u32 3835390401), .lit (.int .u32 4022224774), .lit (.int .u32 264347078), .lit (.int .u32 604807628), .lit (.int .u32 770255983), .lit (.int .u32 1249150122), .lit (.int .u32 1555081692), .lit (.int .u32 1996064986), .lit (.int .u32 2554220882), .lit (.int .u32 2821834349), .lit (.int .u32 2952996808), .lit (.int .u32 3210313671), .lit (.int .u32 3336571891), .lit (.int .u32 3584528711), .lit (.int .u32 113926993), .lit (.int .u32 338241895), .lit (.int .u32 666307205), .lit (.int .u32 773529912), .lit (.int .u32 1294757372), .lit (.int .u32 1396182291), .lit (.int .u32 1695183700), .lit (.int .u32 1986661051), .lit (.int .u32 2177026350), .lit (.int .u32 2456956037), .lit (.int .u32 2730485921), .lit (.int .u32 2820302411), .lit (.int .u32 3259730800), .lit (.int .u32 3345764771), .lit (.int .u32 3516065817), .lit (.int .u32 3600352804), .lit (.int .u32 4094571909), .lit (.int .u32 275423344), .lit (.int .u32 430227734), .lit (.int .u32 506948616), .lit (.int .u32 659060556), .lit (.int .u32 883997877), .lit (.int .u32 958139571), .lit (.int .u32 1322822218), .lit (.int .u32 1537002063), .lit (.int .u32 1747873779), .lit (.int .u32 1955562222), .lit (.int .u32 2024104815), .lit (.int .u32 2227730452), .lit (.int .u32 2361852424), .lit (.int .u32 2428436474), .lit (.int .u32 2756734187), .lit (.int .u32 3204031479), .lit (.int .u32 3329325298)]

/-- 'sumpterlaw11.BlockSigns': WHATEVER THE INPUT: true; the input reads as it did. -/
def blockSignsSpec : ChangeSpec := { name := "blockSigns", fn := fun _ => fun
  | [d1, d2, d3] => { results := [.lit (.bool true)], args := [d1, d2, d3] }
  | _ => none }
def blockSignsRow : OpenClaim := { program := "ytcbkhbnemhkheaadoor", sum := "10d9a1eb04fea574a91e45402b113235190efa4ba981cae22305eaa1a7ed3255", func := "sumpter/sumpterlaw11.BlockSigns", spec := "blockSigns", inPlace := ["math.archTrunc", "math.Float64bits", "math.Float64frombits"], named := ["sumpter/sha.rounds"], apart := false, laid := [("sumpter/sha.rounds", laid_sumpter_sha_rounds)] }
def BlockSignsSaid : Prop := blockSignsRow.holds Tryd.pinned (OpenSpec.ofChange blockSignsSpec)

/-- ITS FALSE NEIGHBOUR: 'it returns false'. Refute it at one input. -/
def blockSignsWrong : ChangeSpec := { name := "blockSigns", fn := fun _ => fun
  | [d1, d2, d3] => { results := [.lit (.bool false)], args := [d1, d2, d3] }
  | _ => none }
def BlockSignsWrongFalsely : Prop := blockSignsRow.holds Tryd.pinned (OpenSpec.ofChange blockSignsWrong)

/-- 'sumpterlaw11.BlockSizes': WHATEVER THE INPUT: true; the input reads as it did. -/
def blockSizesSpec : ChangeSpec := { name := "blockSizes", fn := fun _ => fun
  | [d1, d2] => { results := [.lit (.bool true)], args := [d1, d2] }
  | _ => none }
def blockSizesRow : OpenClaim := { program := "ytcbkhbnemhkheaadoor", sum := "10d9a1eb04fea574a91e45402b113235190efa4ba981cae22305eaa1a7ed3255", func := "sumpter/sumpterlaw11.BlockSizes", spec := "blockSizes", inPlace := ["math.archTrunc", "math.Float64bits", "math.Float64frombits"], named := ["sumpter/sha.rounds"], apart := false, laid := [("sumpter/sha.rounds", laid_sumpter_sha_rounds)] }
def BlockSizesSaid : Prop := blockSizesRow.holds Tryd.pinned (OpenSpec.ofChange blockSizesSpec)

/-- ITS FALSE NEIGHBOUR: 'it returns false'. Refute it at one input. -/
def blockSizesWrong : ChangeSpec := { name := "blockSizes", fn := fun _ => fun
  | [d1, d2] => { results := [.lit (.bool false)], args := [d1, d2] }
  | _ => none }
def BlockSizesWrongFalsely : Prop := blockSizesRow.holds Tryd.pinned (OpenSpec.ofChange blockSizesWrong)

/-- 'sumpterlaw11.BlockFinds': WHATEVER THE INPUT: true; the input reads as it did. -/
def blockFindsSpec : ChangeSpec := { name := "blockFinds", fn := fun _ => fun
  | [d1, d2, d3] => { results := [.lit (.bool true)], args := [d1, d2, d3] }
  | _ => none }
def blockFindsRow : OpenClaim := { program := "ytcbkhbnemhkheaadoor", sum := "10d9a1eb04fea574a91e45402b113235190efa4ba981cae22305eaa1a7ed3255", func := "sumpter/sumpterlaw11.BlockFinds", spec := "blockFinds", inPlace := ["math.archTrunc", "math.Float64bits", "math.Float64frombits"], named := ["sumpter/sha.rounds"], apart := false, laid := [("sumpter/sha.rounds", laid_sumpter_sha_rounds)] }
def BlockFindsSaid : Prop := blockFindsRow.holds Tryd.pinned (OpenSpec.ofChange blockFindsSpec)

/-- ITS FALSE NEIGHBOUR: 'it returns false'. Refute it at one input. -/
def blockFindsWrong : ChangeSpec := { name := "blockFinds", fn := fun _ => fun
  | [d1, d2, d3] => { results := [.lit (.bool false)], args := [d1, d2, d3] }
  | _ => none }
def BlockFindsWrongFalsely : Prop := blockFindsRow.holds Tryd.pinned (OpenSpec.ofChange blockFindsWrong)

/-- 'sumpterlaw11.BlockWhole': WHATEVER THE INPUT: true; the input reads as it did. -/
def blockWholeSpec : ChangeSpec := { name := "blockWhole", fn := fun _ => fun
  | [d1, d2] => { results := [.lit (.bool true)], args := [d1, d2] }
  | _ => none }
def blockWholeRow : OpenClaim := { program := "ytcbkhbnemhkheaadoor", sum := "10d9a1eb04fea574a91e45402b113235190efa4ba981cae22305eaa1a7ed3255", func := "sumpter/sumpterlaw11.BlockWhole", spec := "blockWhole", inPlace := ["math.archTrunc", "math.Float64bits", "math.Float64frombits"], named := ["sumpter/sha.rounds"], apart := false, laid := [("sumpter/sha.rounds", laid_sumpter_sha_rounds)] }
def BlockWholeSaid : Prop := blockWholeRow.holds Tryd.pinned (OpenSpec.ofChange blockWholeSpec)

/-- ITS FALSE NEIGHBOUR: 'it returns false'. Refute it at one input. -/
def blockWholeWrong : ChangeSpec := { name := "blockWhole", fn := fun _ => fun
  | [d1, d2] => { results := [.lit (.bool false)], args := [d1, d2] }
  | _ => none }
def BlockWholeWrongFalsely : Prop := blockWholeRow.holds Tryd.pinned (OpenSpec.ofChange blockWholeWrong)

/-- 'sumpterlaw11.BlockPuts': WHATEVER THE INPUT: true; the input reads as it did. -/
def blockPutsSpec : ChangeSpec := { name := "blockPuts", fn := fun _ => fun
  | [d1, d2] => { results := [.lit (.bool true)], args := [d1, d2] }
  | _ => none }
def blockPutsRow : OpenClaim := { program := "ytcbkhbnemhkheaadoor", sum := "10d9a1eb04fea574a91e45402b113235190efa4ba981cae22305eaa1a7ed3255", func := "sumpter/sumpterlaw11.BlockPuts", spec := "blockPuts", inPlace := ["math.archTrunc", "math.Float64bits", "math.Float64frombits"], named := ["sumpter/sha.rounds"], apart := false, laid := [("sumpter/sha.rounds", laid_sumpter_sha_rounds)] }
def BlockPutsSaid : Prop := blockPutsRow.holds Tryd.pinned (OpenSpec.ofChange blockPutsSpec)

/-- ITS FALSE NEIGHBOUR: 'it returns false'. Refute it at one input. -/
def blockPutsWrong : ChangeSpec := { name := "blockPuts", fn := fun _ => fun
  | [d1, d2] => { results := [.lit (.bool false)], args := [d1, d2] }
  | _ => none }
def BlockPutsWrongFalsely : Prop := blockPutsRow.holds Tryd.pinned (OpenSpec.ofChange blockPutsWrong)

/-- 'sumpterlaw11.BlockBack': WHATEVER THE INPUT: true; the input reads as it did. -/
def blockBackSpec : ChangeSpec := { name := "blockBack", fn := fun _ => fun
  | [d1, d2] => { results := [.lit (.bool true)], args := [d1, d2] }
  | _ => none }
def blockBackRow : OpenClaim := { program := "ytcbkhbnemhkheaadoor", sum := "10d9a1eb04fea574a91e45402b113235190efa4ba981cae22305eaa1a7ed3255", func := "sumpter/sumpterlaw11.BlockBack", spec := "blockBack", inPlace := ["math.archTrunc", "math.Float64bits", "math.Float64frombits"], named := ["sumpter/sha.rounds"], apart := false, laid := [("sumpter/sha.rounds", laid_sumpter_sha_rounds)] }
def BlockBackSaid : Prop := blockBackRow.holds Tryd.pinned (OpenSpec.ofChange blockBackSpec)

/-- ITS FALSE NEIGHBOUR: 'it returns false'. Refute it at one input. -/
def blockBackWrong : ChangeSpec := { name := "blockBack", fn := fun _ => fun
  | [d1, d2] => { results := [.lit (.bool false)], args := [d1, d2] }
  | _ => none }
def BlockBackWrongFalsely : Prop := blockBackRow.holds Tryd.pinned (OpenSpec.ofChange blockBackWrong)

/- THE SECOND FORM. 'bulk': how many values and letters a reading holds, each counted each time it is reached (what is shared counts as often as it is met; a slice's spare places count too). A statement '..UptoSaid' is the law's where the arguments, and the package variables that the reading takes, are together of bulk at most 1048576: NARROWER than '..Said'. Prove '..Said' where nothing that the law and all that it calls make is longer than what came in: it says more and counts as full. Else prove '..UptoSaid'. A law counts once. -/
mutual
def uptoBulk {H : Type} : DataW H → Nat
  | .lit (.string bytes) => bytes.length + 1
  | .lit _ => 1
  | .nil => 1
  | .ptr d => uptoBulk d + 1
  | .slice elems spare => uptoBulkAll elems + uptoBulkAll spare + 1
  | .agg parts => uptoBulkAll parts + 1
  | .iface _ d => uptoBulk d + 1
  | .map entries => uptoBulkEntries entries + 1
  | .held _ => 1
def uptoBulkAll {H : Type} : List (DataW H) → Nat
  | [] => 0
  | d :: r => uptoBulk d + uptoBulkAll r
def uptoBulkEntries {H : Type} : List (Lit × DataW H) → Nat
  | [] => 0
  | x :: r => uptoBulkEntry x + uptoBulkEntries r
def uptoBulkEntry {H : Type} : Lit × DataW H → Nat
  | (.string bytes, d) => bytes.length + uptoBulk d + 1
  | (_, d) => uptoBulk d + 1
 end
def uptoSmall : (H : Type) → List (DataW H) → Bool := fun _ ds => decide (uptoBulkAll ds ≤ 1048576)
def OpenSpec.upto (s : _root_.Go.ChangeSpec) : _root_.Go.OpenSpec := { _root_.Go.OpenSpec.ofChange s with cond := some uptoSmall }

/-- 'sumpterlaw11.BlockSigns', WHERE WHAT IT READS IS OF BULK AT MOST 1048576: true; the input reads as it did. -/
def blockSignsUptoRow : OpenClaim := { program := "ytcbkhbnemhkheaadoor", sum := "10d9a1eb04fea574a91e45402b113235190efa4ba981cae22305eaa1a7ed3255", func := "sumpter/sumpterlaw11.BlockSigns", spec := "blockSigns", inPlace := ["math.archTrunc", "math.Float64bits", "math.Float64frombits"], named := ["sumpter/sha.rounds"], apart := false, laid := [("sumpter/sha.rounds", laid_sumpter_sha_rounds)], narrowed := true }
def BlockSignsUptoSaid : Prop := blockSignsUptoRow.holds Tryd.pinned (OpenSpec.upto blockSignsSpec)

/-- 'sumpterlaw11.BlockSizes', WHERE WHAT IT READS IS OF BULK AT MOST 1048576: true; the input reads as it did. -/
def blockSizesUptoRow : OpenClaim := { program := "ytcbkhbnemhkheaadoor", sum := "10d9a1eb04fea574a91e45402b113235190efa4ba981cae22305eaa1a7ed3255", func := "sumpter/sumpterlaw11.BlockSizes", spec := "blockSizes", inPlace := ["math.archTrunc", "math.Float64bits", "math.Float64frombits"], named := ["sumpter/sha.rounds"], apart := false, laid := [("sumpter/sha.rounds", laid_sumpter_sha_rounds)], narrowed := true }
def BlockSizesUptoSaid : Prop := blockSizesUptoRow.holds Tryd.pinned (OpenSpec.upto blockSizesSpec)

/-- 'sumpterlaw11.BlockFinds', WHERE WHAT IT READS IS OF BULK AT MOST 1048576: true; the input reads as it did. -/
def blockFindsUptoRow : OpenClaim := { program := "ytcbkhbnemhkheaadoor", sum := "10d9a1eb04fea574a91e45402b113235190efa4ba981cae22305eaa1a7ed3255", func := "sumpter/sumpterlaw11.BlockFinds", spec := "blockFinds", inPlace := ["math.archTrunc", "math.Float64bits", "math.Float64frombits"], named := ["sumpter/sha.rounds"], apart := false, laid := [("sumpter/sha.rounds", laid_sumpter_sha_rounds)], narrowed := true }
def BlockFindsUptoSaid : Prop := blockFindsUptoRow.holds Tryd.pinned (OpenSpec.upto blockFindsSpec)

/-- 'sumpterlaw11.BlockWhole', WHERE WHAT IT READS IS OF BULK AT MOST 1048576: true; the input reads as it did. -/
def blockWholeUptoRow : OpenClaim := { program := "ytcbkhbnemhkheaadoor", sum := "10d9a1eb04fea574a91e45402b113235190efa4ba981cae22305eaa1a7ed3255", func := "sumpter/sumpterlaw11.BlockWhole", spec := "blockWhole", inPlace := ["math.archTrunc", "math.Float64bits", "math.Float64frombits"], named := ["sumpter/sha.rounds"], apart := false, laid := [("sumpter/sha.rounds", laid_sumpter_sha_rounds)], narrowed := true }
def BlockWholeUptoSaid : Prop := blockWholeUptoRow.holds Tryd.pinned (OpenSpec.upto blockWholeSpec)

/-- 'sumpterlaw11.BlockPuts', WHERE WHAT IT READS IS OF BULK AT MOST 1048576: true; the input reads as it did. -/
def blockPutsUptoRow : OpenClaim := { program := "ytcbkhbnemhkheaadoor", sum := "10d9a1eb04fea574a91e45402b113235190efa4ba981cae22305eaa1a7ed3255", func := "sumpter/sumpterlaw11.BlockPuts", spec := "blockPuts", inPlace := ["math.archTrunc", "math.Float64bits", "math.Float64frombits"], named := ["sumpter/sha.rounds"], apart := false, laid := [("sumpter/sha.rounds", laid_sumpter_sha_rounds)], narrowed := true }
def BlockPutsUptoSaid : Prop := blockPutsUptoRow.holds Tryd.pinned (OpenSpec.upto blockPutsSpec)

/-- 'sumpterlaw11.BlockBack', WHERE WHAT IT READS IS OF BULK AT MOST 1048576: true; the input reads as it did. -/
def blockBackUptoRow : OpenClaim := { program := "ytcbkhbnemhkheaadoor", sum := "10d9a1eb04fea574a91e45402b113235190efa4ba981cae22305eaa1a7ed3255", func := "sumpter/sumpterlaw11.BlockBack", spec := "blockBack", inPlace := ["math.archTrunc", "math.Float64bits", "math.Float64frombits"], named := ["sumpter/sha.rounds"], apart := false, laid := [("sumpter/sha.rounds", laid_sumpter_sha_rounds)], narrowed := true }
def BlockBackUptoSaid : Prop := blockBackUptoRow.holds Tryd.pinned (OpenSpec.upto blockBackSpec)

end Rows
end Go.Proofs.YtcbkhbnemhkheaaDoor
