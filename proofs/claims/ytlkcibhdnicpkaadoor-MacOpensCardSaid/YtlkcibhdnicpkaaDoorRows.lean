/-
  NARROWER THAN 'FOR EVERY INPUT', by the rows' own cells (each row's printed sentence says how): ShaOfs: laid · ShaWrites: laid · ShaForks: laid · ShaHexes: laid · ShaBack: laid · MacOfs: laid · MacOpens: laid · MacBack: laid · MacKeys: laid · MacLabels: laid.
  DERIVED. THE GIVEN ROWS OF THIS SEAT. 10 by the template 'for every input the law returns true; each argument reads behind the call as it read before'; 0 by the template 'total and deterministic' (their statements: YtlkcibhdnicpkaaDoorTotals.lean).
  GIVEN WITH THE SEED: the statements are not yours to turn. If you find one false, say at which input.
  Laid BY PROGRAM, IN A SANDBOX (cutbox-rows.mjs): the forced cells as the released guide's own fill.sh prints them over the translation 23bbce6e7c23cf33… (all of the seat's roots in one cut). By AI agents, Wed Nov 11 2026. No macro, syntax, notation, axiom, sorry.
-/
import Derived.Test.YtlkcibhdnicpkaaDoorChecked
import GoSem.Claim
import GoSem.ClaimJoined
import GoSem.ClaimMapViews
import Derived.JoinedTies
import Derived.KernelRfl
namespace Go.Proofs.YtlkcibhdnicpkaaDoor
/- THE CELL 'sum', in the pinned program and in every row, IS THE sha256 OF THE DUMP (.gsa) THAT YtlkcibhdnicpkaaDoorProg.lean LOADS. Nothing in Lean hashes anything: it is a label: what it is worth is what the hold of that sum in a sandbox is worth. -/
noncomputable def Tryd.pinned : Pinned := { name := "ytlkcibhdnicpkaadoor", sum := "23bbce6e7c23cf338889a641006d0194b3cb799ee63f23f4f9c5bafca6eca389", checked := Tryd.checked }
namespace Rows
def none {H : Type} : Left H := { results := [], args := [] }

/- WHAT THE LISTED PACKAGE-LEVEL VARIABLES READ AS WHEN THE CALL BEGINS. Each datum BY PROGRAM (the guide's laid-datum.mjs) off the statement by which the dump's own 'gosem.cut.vars' lays the variable. In a bare row this is a premise. The card (YtlkcibhdnicpkaaDoorCards.lean) ties it to the program's text. -/
def laid_sumpter_sha_rounds {H : Type} : DataW H := .agg [.lit (.int .u32 1116352408), .lit (.int .u32 1899447441), .lit (.int .u32 3049323471), .lit (.int .u32 3921009573), .lit (.int .u32 961987163), .lit (.int .u32 1508970993), .lit (.int .u32 2453635748), .lit (.int .u32 2870763221), .lit (.int .u32 3624381080), .lit (.int .u32 310598401), .lit (.int .u32 607225278), .lit (.int .u32 1426881987), .lit (.int .u32 1925078388), .lit (.int .u32 2162078206), .lit (.int .u32 2614888103), .lit (.int .u32 3248222580), .lit (.int .u32 3835390401), .lit (.int .u32 4022224774), .lit (.int .u32 264347078), .lit (.int .u32 604807628), .lit (.int .u32 770255983), .lit (.int .u32 1249150122), .lit (.int .u32 1555081692), .lit (.int .u32 1996064986), .lit (.int .u32 2554220882), .lit (.int .u32 2821834349), .lit (.int .u32 2952996808), .lit (.int .u32 3210313671), .lit (.int .u32 3336571891), .lit (.int .u32 3584528711), .lit (.int .u32 113926993), .lit (.int .u32 338241895), .lit (.int .u32 666307205), .lit (.int .u32 773529912), .lit (.int .u32 1294757372), .lit (.int .u32 1396182291), .lit (.int .u32 1695183700), .lit (.int .u32 1986661051), .lit (.int .u32 2177026350), .lit (.int .u32 2456956037), .lit (.int .u32 2730485921), .lit (.int .u32 2820302411), .lit (.int .u32 3259730800), .lit (.int .u32 3345764771), .lit (.int .u32 3516065817), .lit (.int .u32 3600352804), .lit (.int .u32 4094571909), .lit (.int .u32 275423344), .lit (.int .u32 430227734), .lit (.int .u32 506948616), .lit (.int .u32 659060556), .lit (.int .u32 883997877), .lit (.int .u32 958139571), .lit (.int .u32 1322822218), .lit (.int .u32 1537002063), .lit (.int .u32 1747873779), .lit (.int .u32 1955562222), .lit (.int .u32 2024104815), .lit (.int .u32 2227730452), .lit (.int .u32 2361852424), .lit (.int .u32 2428436474), .lit (.int .u32 2756734187), .lit (.int .u32 3204031479), .lit (.int .u32 3329325298)]

/-- 'sumpterlaw04.ShaOfs': WHATEVER THE INPUT: true; the input reads as it did. -/
def shaOfsSpec : ChangeSpec := { name := "shaOfs", fn := fun _ => fun
  | [d1, d2] => { results := [.lit (.bool true)], args := [d1, d2] }
  | _ => none }
def shaOfsRow : OpenClaim := { program := "ytlkcibhdnicpkaadoor", sum := "23bbce6e7c23cf338889a641006d0194b3cb799ee63f23f4f9c5bafca6eca389", func := "sumpter/sumpterlaw04.ShaOfs", spec := "shaOfs", inPlace := ["internal/bytealg.IndexByteString"], named := ["sumpter/sha.rounds"], apart := false, laid := [("sumpter/sha.rounds", laid_sumpter_sha_rounds)] }
def ShaOfsSaid : Prop := shaOfsRow.holds Tryd.pinned (OpenSpec.ofChange shaOfsSpec)

/-- ITS FALSE NEIGHBOUR: 'it returns false'. Refute it at one input. -/
def shaOfsWrong : ChangeSpec := { name := "shaOfs", fn := fun _ => fun
  | [d1, d2] => { results := [.lit (.bool false)], args := [d1, d2] }
  | _ => none }
def ShaOfsWrongFalsely : Prop := shaOfsRow.holds Tryd.pinned (OpenSpec.ofChange shaOfsWrong)

/-- 'sumpterlaw04.ShaWrites': WHATEVER THE INPUT: true; the input reads as it did. -/
def shaWritesSpec : ChangeSpec := { name := "shaWrites", fn := fun _ => fun
  | [d] => { results := [.lit (.bool true)], args := [d] }
  | _ => none }
def shaWritesRow : OpenClaim := { program := "ytlkcibhdnicpkaadoor", sum := "23bbce6e7c23cf338889a641006d0194b3cb799ee63f23f4f9c5bafca6eca389", func := "sumpter/sumpterlaw04.ShaWrites", spec := "shaWrites", inPlace := ["internal/bytealg.IndexByteString"], named := ["sumpter/sha.rounds"], apart := false, laid := [("sumpter/sha.rounds", laid_sumpter_sha_rounds)] }
def ShaWritesSaid : Prop := shaWritesRow.holds Tryd.pinned (OpenSpec.ofChange shaWritesSpec)

/-- ITS FALSE NEIGHBOUR: 'it returns false'. Refute it at one input. -/
def shaWritesWrong : ChangeSpec := { name := "shaWrites", fn := fun _ => fun
  | [d] => { results := [.lit (.bool false)], args := [d] }
  | _ => none }
def ShaWritesWrongFalsely : Prop := shaWritesRow.holds Tryd.pinned (OpenSpec.ofChange shaWritesWrong)

/-- 'sumpterlaw04.ShaForks': WHATEVER THE INPUT: true; the input reads as it did. -/
def shaForksSpec : ChangeSpec := { name := "shaForks", fn := fun _ => fun
  | [d1, d2, d3] => { results := [.lit (.bool true)], args := [d1, d2, d3] }
  | _ => none }
def shaForksRow : OpenClaim := { program := "ytlkcibhdnicpkaadoor", sum := "23bbce6e7c23cf338889a641006d0194b3cb799ee63f23f4f9c5bafca6eca389", func := "sumpter/sumpterlaw04.ShaForks", spec := "shaForks", inPlace := ["internal/bytealg.IndexByteString"], named := ["sumpter/sha.rounds"], apart := false, laid := [("sumpter/sha.rounds", laid_sumpter_sha_rounds)] }
def ShaForksSaid : Prop := shaForksRow.holds Tryd.pinned (OpenSpec.ofChange shaForksSpec)

/-- ITS FALSE NEIGHBOUR: 'it returns false'. Refute it at one input. -/
def shaForksWrong : ChangeSpec := { name := "shaForks", fn := fun _ => fun
  | [d1, d2, d3] => { results := [.lit (.bool false)], args := [d1, d2, d3] }
  | _ => none }
def ShaForksWrongFalsely : Prop := shaForksRow.holds Tryd.pinned (OpenSpec.ofChange shaForksWrong)

/-- 'sumpterlaw04.ShaHexes': WHATEVER THE INPUT: true; the input reads as it did. -/
def shaHexesSpec : ChangeSpec := { name := "shaHexes", fn := fun _ => fun
  | [d1, d2, d3] => { results := [.lit (.bool true)], args := [d1, d2, d3] }
  | _ => none }
def shaHexesRow : OpenClaim := { program := "ytlkcibhdnicpkaadoor", sum := "23bbce6e7c23cf338889a641006d0194b3cb799ee63f23f4f9c5bafca6eca389", func := "sumpter/sumpterlaw04.ShaHexes", spec := "shaHexes", inPlace := ["internal/bytealg.IndexByteString", "internal/abi.NoEscape", "internal/bytealg.Compare"], named := ["sumpter/sha.rounds"], apart := false, laid := [("sumpter/sha.rounds", laid_sumpter_sha_rounds)] }
def ShaHexesSaid : Prop := shaHexesRow.holds Tryd.pinned (OpenSpec.ofChange shaHexesSpec)

/-- ITS FALSE NEIGHBOUR: 'it returns false'. Refute it at one input. -/
def shaHexesWrong : ChangeSpec := { name := "shaHexes", fn := fun _ => fun
  | [d1, d2, d3] => { results := [.lit (.bool false)], args := [d1, d2, d3] }
  | _ => none }
def ShaHexesWrongFalsely : Prop := shaHexesRow.holds Tryd.pinned (OpenSpec.ofChange shaHexesWrong)

/-- 'sumpterlaw04.ShaBack': WHATEVER THE INPUT: true; the input reads as it did. -/
def shaBackSpec : ChangeSpec := { name := "shaBack", fn := fun _ => fun
  | [d1, d2, d3] => { results := [.lit (.bool true)], args := [d1, d2, d3] }
  | _ => none }
def shaBackRow : OpenClaim := { program := "ytlkcibhdnicpkaadoor", sum := "23bbce6e7c23cf338889a641006d0194b3cb799ee63f23f4f9c5bafca6eca389", func := "sumpter/sumpterlaw04.ShaBack", spec := "shaBack", inPlace := ["internal/bytealg.IndexByteString", "internal/abi.NoEscape", "internal/bytealg.Compare"], named := ["sumpter/sha.rounds"], apart := false, laid := [("sumpter/sha.rounds", laid_sumpter_sha_rounds)] }
def ShaBackSaid : Prop := shaBackRow.holds Tryd.pinned (OpenSpec.ofChange shaBackSpec)

/-- ITS FALSE NEIGHBOUR: 'it returns false'. Refute it at one input. -/
def shaBackWrong : ChangeSpec := { name := "shaBack", fn := fun _ => fun
  | [d1, d2, d3] => { results := [.lit (.bool false)], args := [d1, d2, d3] }
  | _ => none }
def ShaBackWrongFalsely : Prop := shaBackRow.holds Tryd.pinned (OpenSpec.ofChange shaBackWrong)

/-- 'sumpterlaw05.MacOfs': WHATEVER THE INPUT: true; the input reads as it did. -/
def macOfsSpec : ChangeSpec := { name := "macOfs", fn := fun _ => fun
  | [d1, d2, d3] => { results := [.lit (.bool true)], args := [d1, d2, d3] }
  | _ => none }
def macOfsRow : OpenClaim := { program := "ytlkcibhdnicpkaadoor", sum := "23bbce6e7c23cf338889a641006d0194b3cb799ee63f23f4f9c5bafca6eca389", func := "sumpter/sumpterlaw05.MacOfs", spec := "macOfs", named := ["sumpter/sha.rounds"], apart := false, laid := [("sumpter/sha.rounds", laid_sumpter_sha_rounds)] }
def MacOfsSaid : Prop := macOfsRow.holds Tryd.pinned (OpenSpec.ofChange macOfsSpec)

/-- ITS FALSE NEIGHBOUR: 'it returns false'. Refute it at one input. -/
def macOfsWrong : ChangeSpec := { name := "macOfs", fn := fun _ => fun
  | [d1, d2, d3] => { results := [.lit (.bool false)], args := [d1, d2, d3] }
  | _ => none }
def MacOfsWrongFalsely : Prop := macOfsRow.holds Tryd.pinned (OpenSpec.ofChange macOfsWrong)

/-- 'sumpterlaw05.MacOpens': WHATEVER THE INPUT: true; the input reads as it did. -/
def macOpensSpec : ChangeSpec := { name := "macOpens", fn := fun _ => fun
  | [d1, d2, d3] => { results := [.lit (.bool true)], args := [d1, d2, d3] }
  | _ => none }
def macOpensRow : OpenClaim := { program := "ytlkcibhdnicpkaadoor", sum := "23bbce6e7c23cf338889a641006d0194b3cb799ee63f23f4f9c5bafca6eca389", func := "sumpter/sumpterlaw05.MacOpens", spec := "macOpens", named := ["sumpter/sha.rounds"], apart := false, laid := [("sumpter/sha.rounds", laid_sumpter_sha_rounds)] }
def MacOpensSaid : Prop := macOpensRow.holds Tryd.pinned (OpenSpec.ofChange macOpensSpec)

/-- ITS FALSE NEIGHBOUR: 'it returns false'. Refute it at one input. -/
def macOpensWrong : ChangeSpec := { name := "macOpens", fn := fun _ => fun
  | [d1, d2, d3] => { results := [.lit (.bool false)], args := [d1, d2, d3] }
  | _ => none }
def MacOpensWrongFalsely : Prop := macOpensRow.holds Tryd.pinned (OpenSpec.ofChange macOpensWrong)

/-- 'sumpterlaw05.MacBack': WHATEVER THE INPUT: true; the input reads as it did. -/
def macBackSpec : ChangeSpec := { name := "macBack", fn := fun _ => fun
  | [d1, d2, d3] => { results := [.lit (.bool true)], args := [d1, d2, d3] }
  | _ => none }
def macBackRow : OpenClaim := { program := "ytlkcibhdnicpkaadoor", sum := "23bbce6e7c23cf338889a641006d0194b3cb799ee63f23f4f9c5bafca6eca389", func := "sumpter/sumpterlaw05.MacBack", spec := "macBack", named := ["sumpter/sha.rounds"], apart := false, laid := [("sumpter/sha.rounds", laid_sumpter_sha_rounds)] }
def MacBackSaid : Prop := macBackRow.holds Tryd.pinned (OpenSpec.ofChange macBackSpec)

/-- ITS FALSE NEIGHBOUR: 'it returns false'. Refute it at one input. -/
def macBackWrong : ChangeSpec := { name := "macBack", fn := fun _ => fun
  | [d1, d2, d3] => { results := [.lit (.bool false)], args := [d1, d2, d3] }
  | _ => none }
def MacBackWrongFalsely : Prop := macBackRow.holds Tryd.pinned (OpenSpec.ofChange macBackWrong)

/-- 'sumpterlaw05.MacKeys': WHATEVER THE INPUT: true; the input reads as it did. -/
def macKeysSpec : ChangeSpec := { name := "macKeys", fn := fun _ => fun
  | [d1, d2] => { results := [.lit (.bool true)], args := [d1, d2] }
  | _ => none }
def macKeysRow : OpenClaim := { program := "ytlkcibhdnicpkaadoor", sum := "23bbce6e7c23cf338889a641006d0194b3cb799ee63f23f4f9c5bafca6eca389", func := "sumpter/sumpterlaw05.MacKeys", spec := "macKeys", named := ["sumpter/sha.rounds"], apart := false, laid := [("sumpter/sha.rounds", laid_sumpter_sha_rounds)] }
def MacKeysSaid : Prop := macKeysRow.holds Tryd.pinned (OpenSpec.ofChange macKeysSpec)

/-- ITS FALSE NEIGHBOUR: 'it returns false'. Refute it at one input. -/
def macKeysWrong : ChangeSpec := { name := "macKeys", fn := fun _ => fun
  | [d1, d2] => { results := [.lit (.bool false)], args := [d1, d2] }
  | _ => none }
def MacKeysWrongFalsely : Prop := macKeysRow.holds Tryd.pinned (OpenSpec.ofChange macKeysWrong)

/-- 'sumpterlaw05.MacLabels': WHATEVER THE INPUT: true; the input reads as it did. -/
def macLabelsSpec : ChangeSpec := { name := "macLabels", fn := fun _ => fun
  | [d1, d2, d3] => { results := [.lit (.bool true)], args := [d1, d2, d3] }
  | _ => none }
def macLabelsRow : OpenClaim := { program := "ytlkcibhdnicpkaadoor", sum := "23bbce6e7c23cf338889a641006d0194b3cb799ee63f23f4f9c5bafca6eca389", func := "sumpter/sumpterlaw05.MacLabels", spec := "macLabels", named := ["sumpter/sha.rounds"], apart := false, laid := [("sumpter/sha.rounds", laid_sumpter_sha_rounds)] }
def MacLabelsSaid : Prop := macLabelsRow.holds Tryd.pinned (OpenSpec.ofChange macLabelsSpec)

/-- ITS FALSE NEIGHBOUR: 'it returns false'. Refute it at one input. -/
def macLabelsWrong : ChangeSpec := { name := "macLabels", fn := fun _ => fun
  | [d1, d2, d3] => { results := [.lit (.bool false)], args := [d1, d2, d3] }
  | _ => none }
def MacLabelsWrongFalsely : Prop := macLabelsRow.holds Tryd.pinned (OpenSpec.ofChange macLabelsWrong)

/- THE SECOND FORM. 'bulk': how many values and letters a reading holds, each counted each time it is reached (what is shared counts as often as it is met; a slice's spare places count too). A statement '..UptoSaid' is the law's where the arguments, and the package variables that the reading takes, are together of bulk at most 1048576: NARROWER than '..Said'. Prove '..Said' where nothing that the law and all that it calls make is longer than what came in: it says more and counts as full. Else prove '..UptoSaid'. A law counts once. -/
mutual
def uptoBulk {H : Type} : DataW H → Nat
  | .lit (.string bytes) => bytes.length + 1
  | .lit _ => 1
  | .nil => 1
  | .ptr d => uptoBulk d + 1
  | .slice elems spare => uptoBulkAll elems + uptoBulkAll spare + 1
  | .agg parts => uptoBulkAll parts + 1
  | .iface _ d => uptoBulk d + 1
  | .map entries => uptoBulkEntries entries + 1
  | .held _ => 1
def uptoBulkAll {H : Type} : List (DataW H) → Nat
  | [] => 0
  | d :: r => uptoBulk d + uptoBulkAll r
def uptoBulkEntries {H : Type} : List (Lit × DataW H) → Nat
  | [] => 0
  | x :: r => uptoBulkEntry x + uptoBulkEntries r
def uptoBulkEntry {H : Type} : Lit × DataW H → Nat
  | (.string bytes, d) => bytes.length + uptoBulk d + 1
  | (_, d) => uptoBulk d + 1
 end
def uptoSmall : (H : Type) → List (DataW H) → Bool := fun _ ds => decide (uptoBulkAll ds ≤ 1048576)
def OpenSpec.upto (s : _root_.Go.ChangeSpec) : _root_.Go.OpenSpec := { _root_.Go.OpenSpec.ofChange s with cond := some uptoSmall }

/-- 'sumpterlaw04.ShaOfs', WHERE WHAT IT READS IS OF BULK AT MOST 1048576: true; the input reads as it did. -/
def shaOfsUptoRow : OpenClaim := { program := "ytlkcibhdnicpkaadoor", sum := "23bbce6e7c23cf338889a641006d0194b3cb799ee63f23f4f9c5bafca6eca389", func := "sumpter/sumpterlaw04.ShaOfs", spec := "shaOfs", inPlace := ["internal/bytealg.IndexByteString"], named := ["sumpter/sha.rounds"], apart := false, laid := [("sumpter/sha.rounds", laid_sumpter_sha_rounds)], narrowed := true }
def ShaOfsUptoSaid : Prop := shaOfsUptoRow.holds Tryd.pinned (OpenSpec.upto shaOfsSpec)

/-- 'sumpterlaw04.ShaWrites', WHERE WHAT IT READS IS OF BULK AT MOST 1048576: true; the input reads as it did. -/
def shaWritesUptoRow : OpenClaim := { program := "ytlkcibhdnicpkaadoor", sum := "23bbce6e7c23cf338889a641006d0194b3cb799ee63f23f4f9c5bafca6eca389", func := "sumpter/sumpterlaw04.ShaWrites", spec := "shaWrites", inPlace := ["internal/bytealg.IndexByteString"], named := ["sumpter/sha.rounds"], apart := false, laid := [("sumpter/sha.rounds", laid_sumpter_sha_rounds)], narrowed := true }
def ShaWritesUptoSaid : Prop := shaWritesUptoRow.holds Tryd.pinned (OpenSpec.upto shaWritesSpec)

/-- 'sumpterlaw04.ShaForks', WHERE WHAT IT READS IS OF BULK AT MOST 1048576: true; the input reads as it did. -/
def shaForksUptoRow : OpenClaim := { program := "ytlkcibhdnicpkaadoor", sum := "23bbce6e7c23cf338889a641006d0194b3cb799ee63f23f4f9c5bafca6eca389", func := "sumpter/sumpterlaw04.ShaForks", spec := "shaForks", inPlace := ["internal/bytealg.IndexByteString"], named := ["sumpter/sha.rounds"], apart := false, laid := [("sumpter/sha.rounds", laid_sumpter_sha_rounds)], narrowed := true }
def ShaForksUptoSaid : Prop := shaForksUptoRow.holds Tryd.pinned (OpenSpec.upto shaForksSpec)

/-- 'sumpterlaw04.ShaHexes', WHERE WHAT IT READS IS OF BULK AT MOST 1048576: true; the input reads as it did. -/
def shaHexesUptoRow : OpenClaim := { program := "ytlkcibhdnicpkaadoor", sum := "23bbce6e7c23cf338889a641006d0194b3cb799ee63f23f4f9c5bafca6eca389", func := "sumpter/sumpterlaw04.ShaHexes", spec := "shaHexes", inPlace := ["internal/bytealg.IndexByteString", "internal/abi.NoEscape", "internal/bytealg.Compare"], named := ["sumpter/sha.rounds"], apart := false, laid := [("sumpter/sha.rounds", laid_sumpter_sha_rounds)], narrowed := true }
def ShaHexesUptoSaid : Prop := shaHexesUptoRow.holds Tryd.pinned (OpenSpec.upto shaHexesSpec)

/-- 'sumpterlaw04.ShaBack', WHERE WHAT IT READS IS OF BULK AT MOST 1048576: true; the input reads as it did. -/
def shaBackUptoRow : OpenClaim := { program := "ytlkcibhdnicpkaadoor", sum := "23bbce6e7c23cf338889a641006d0194b3cb799ee63f23f4f9c5bafca6eca389", func := "sumpter/sumpterlaw04.ShaBack", spec := "shaBack", inPlace := ["internal/bytealg.IndexByteString", "internal/abi.NoEscape", "internal/bytealg.Compare"], named := ["sumpter/sha.rounds"], apart := false, laid := [("sumpter/sha.rounds", laid_sumpter_sha_rounds)], narrowed := true }
def ShaBackUptoSaid : Prop := shaBackUptoRow.holds Tryd.pinned (OpenSpec.upto shaBackSpec)

/-- 'sumpterlaw05.MacOfs', WHERE WHAT IT READS IS OF BULK AT MOST 1048576: true; the input reads as it did. -/
def macOfsUptoRow : OpenClaim := { program := "ytlkcibhdnicpkaadoor", sum := "23bbce6e7c23cf338889a641006d0194b3cb799ee63f23f4f9c5bafca6eca389", func := "sumpter/sumpterlaw05.MacOfs", spec := "macOfs", named := ["sumpter/sha.rounds"], apart := false, laid := [("sumpter/sha.rounds", laid_sumpter_sha_rounds)], narrowed := true }
def MacOfsUptoSaid : Prop := macOfsUptoRow.holds Tryd.pinned (OpenSpec.upto macOfsSpec)

/-- 'sumpterlaw05.MacOpens', WHERE WHAT IT READS IS OF BULK AT MOST 1048576: true; the input reads as it did. -/
def macOpensUptoRow : OpenClaim := { program := "ytlkcibhdnicpkaadoor", sum := "23bbce6e7c23cf338889a641006d0194b3cb799ee63f23f4f9c5bafca6eca389", func := "sumpter/sumpterlaw05.MacOpens", spec := "macOpens", named := ["sumpter/sha.rounds"], apart := false, laid := [("sumpter/sha.rounds", laid_sumpter_sha_rounds)], narrowed := true }
def MacOpensUptoSaid : Prop := macOpensUptoRow.holds Tryd.pinned (OpenSpec.upto macOpensSpec)

/-- 'sumpterlaw05.MacBack', WHERE WHAT IT READS IS OF BULK AT MOST 1048576: true; the input reads as it did. -/
def macBackUptoRow : OpenClaim := { program := "ytlkcibhdnicpkaadoor", sum := "23bbce6e7c23cf338889a641006d0194b3cb799ee63f23f4f9c5bafca6eca389", func := "sumpter/sumpterlaw05.MacBack", spec := "macBack", named := ["sumpter/sha.rounds"], apart := false, laid := [("sumpter/sha.rounds", laid_sumpter_sha_rounds)], narrowed := true }
def MacBackUptoSaid : Prop := macBackUptoRow.holds Tryd.pinned (OpenSpec.upto macBackSpec)

/-- 'sumpterlaw05.MacKeys', WHERE WHAT IT READS IS OF BULK AT MOST 1048576: true; the input reads as it did. -/
def macKeysUptoRow : OpenClaim := { program := "ytlkcibhdnicpkaadoor", sum := "23bbce6e7c23cf338889a641006d0194b3cb799ee63f23f4f9c5bafca6eca389", func := "sumpter/sumpterlaw05.MacKeys", spec := "macKeys", named := ["sumpter/sha.rounds"], apart := false, laid := [("sumpter/sha.rounds", laid_sumpter_sha_rounds)], narrowed := true }
def MacKeysUptoSaid : Prop := macKeysUptoRow.holds Tryd.pinned (OpenSpec.upto macKeysSpec)

/-- 'sumpterlaw05.MacLabels', WHERE WHAT IT READS IS OF BULK AT MOST 1048576: true; the input reads as it did. -/
def macLabelsUptoRow : OpenClaim := { program := "ytlkcibhdnicpkaadoor", sum := "23bbce6e7c23cf338889a641006d0194b3cb799ee63f23f4f9c5bafca6eca389", func := "sumpter/sumpterlaw05.MacLabels", spec := "macLabels", named := ["sumpter/sha.rounds"], apart := false, laid := [("sumpter/sha.rounds", laid_sumpter_sha_rounds)], narrowed := true }
def MacLabelsUptoSaid : Prop := macLabelsUptoRow.holds Tryd.pinned (OpenSpec.upto macLabelsSpec)

end Rows
end Go.Proofs.YtlkcibhdnicpkaaDoor
