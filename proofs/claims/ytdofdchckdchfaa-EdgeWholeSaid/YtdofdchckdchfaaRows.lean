/-
  No cell of these rows narrows 'for every input' (looked for: loops, veiled, ifaces, maps, wideKeys, modest, calm, conditions, laid).
  DERIVED. THE GIVEN ROWS OF THIS SEAT. 5 by the template 'for every input the law returns true; each argument reads behind the call as it read before'; 0 by the template 'total and deterministic' (their statements: YtdofdchckdchfaaTotals.lean).
  GIVEN WITH THE SEED: the statements are not yours to turn. If you find one false, say at which input.
  Laid BY PROGRAM, IN A SANDBOX (cutbox-rows.mjs): the forced cells as the released guide's own fill.sh prints them over the translation f6b96bcdaca21860… (all of the seat's roots in one cut). By AI agents, Wed Nov 11 2026. No macro, syntax, notation, axiom, sorry.
-/
import Derived.Test.YtdofdchckdchfaaChecked
import GoSem.Claim
import GoSem.ClaimJoined
import GoSem.ClaimMapViews
import Derived.JoinedTies
import Derived.KernelRfl
namespace Go.Proofs.Ytdofdchckdchfaa
/- THE CELL 'sum', in the pinned program and in every row, IS THE sha256 OF THE DUMP (.gsa) THAT YtdofdchckdchfaaProg.lean LOADS. Nothing in Lean hashes anything: it is a label: what it is worth is what the hold of that sum in a sandbox is worth. -/
noncomputable def Try.pinned : Pinned := { name := "ytdofdchckdchfaa", sum := "f6b96bcdaca21860c95623225088aea4aa025027ab296c4f87b7b3781d662939", checked := Try.checked }
namespace Rows
def none {H : Type} : Left H := { results := [], args := [] }

/-- 'drawbridgelaw1.EdgeBytes': WHATEVER THE INPUT: true; the input reads as it did. -/
def edgeBytesSpec : ChangeSpec := { name := "edgeBytes", fn := fun _ => fun
  | [d] => { results := [.lit (.bool true)], args := [d] }
  | _ => none }
def edgeBytesRow : OpenClaim := { program := "ytdofdchckdchfaa", sum := "f6b96bcdaca21860c95623225088aea4aa025027ab296c4f87b7b3781d662939", func := "drawbridge/drawbridgelaw1.EdgeBytes", spec := "edgeBytes", inPlace := ["math.Float64bits", "math.Float64frombits", "math.archTrunc"], apart := false }
def EdgeBytesSaid : Prop := edgeBytesRow.holds Try.pinned (OpenSpec.ofChange edgeBytesSpec)

/-- ITS FALSE NEIGHBOUR: 'it returns false'. Refute it at one input. -/
def edgeBytesWrong : ChangeSpec := { name := "edgeBytes", fn := fun _ => fun
  | [d] => { results := [.lit (.bool false)], args := [d] }
  | _ => none }
def EdgeBytesWrongFalsely : Prop := edgeBytesRow.holds Try.pinned (OpenSpec.ofChange edgeBytesWrong)

/-- 'drawbridgelaw1.EdgeKinds': WHATEVER THE INPUT: true; the input reads as it did. -/
def edgeKindsSpec : ChangeSpec := { name := "edgeKinds", fn := fun _ => fun
  | [d1, d2] => { results := [.lit (.bool true)], args := [d1, d2] }
  | _ => none }
def edgeKindsRow : OpenClaim := { program := "ytdofdchckdchfaa", sum := "f6b96bcdaca21860c95623225088aea4aa025027ab296c4f87b7b3781d662939", func := "drawbridge/drawbridgelaw1.EdgeKinds", spec := "edgeKinds", inPlace := ["math.Float64bits", "math.Float64frombits", "math.archTrunc", "math.archFloor"], apart := false }
def EdgeKindsSaid : Prop := edgeKindsRow.holds Try.pinned (OpenSpec.ofChange edgeKindsSpec)

/-- ITS FALSE NEIGHBOUR: 'it returns false'. Refute it at one input. -/
def edgeKindsWrong : ChangeSpec := { name := "edgeKinds", fn := fun _ => fun
  | [d1, d2] => { results := [.lit (.bool false)], args := [d1, d2] }
  | _ => none }
def EdgeKindsWrongFalsely : Prop := edgeKindsRow.holds Try.pinned (OpenSpec.ofChange edgeKindsWrong)

/-- 'drawbridgelaw1.EdgeSums': WHATEVER THE INPUT: true; the input reads as it did. -/
def edgeSumsSpec : ChangeSpec := { name := "edgeSums", fn := fun _ => fun
  | [d1, d2] => { results := [.lit (.bool true)], args := [d1, d2] }
  | _ => none }
def edgeSumsRow : OpenClaim := { program := "ytdofdchckdchfaa", sum := "f6b96bcdaca21860c95623225088aea4aa025027ab296c4f87b7b3781d662939", func := "drawbridge/drawbridgelaw1.EdgeSums", spec := "edgeSums", inPlace := ["math.Float64bits", "math.Float64frombits", "math.archTrunc", "math.archFloor"], apart := false }
def EdgeSumsSaid : Prop := edgeSumsRow.holds Try.pinned (OpenSpec.ofChange edgeSumsSpec)

/-- ITS FALSE NEIGHBOUR: 'it returns false'. Refute it at one input. -/
def edgeSumsWrong : ChangeSpec := { name := "edgeSums", fn := fun _ => fun
  | [d1, d2] => { results := [.lit (.bool false)], args := [d1, d2] }
  | _ => none }
def EdgeSumsWrongFalsely : Prop := edgeSumsRow.holds Try.pinned (OpenSpec.ofChange edgeSumsWrong)

/-- 'drawbridgelaw1.EdgeWhole': WHATEVER THE INPUT: true; the input reads as it did. -/
def edgeWholeSpec : ChangeSpec := { name := "edgeWhole", fn := fun _ => fun
  | [d1, d2] => { results := [.lit (.bool true)], args := [d1, d2] }
  | _ => none }
def edgeWholeRow : OpenClaim := { program := "ytdofdchckdchfaa", sum := "f6b96bcdaca21860c95623225088aea4aa025027ab296c4f87b7b3781d662939", func := "drawbridge/drawbridgelaw1.EdgeWhole", spec := "edgeWhole", inPlace := ["math.Float64bits", "math.Float64frombits", "math.archTrunc"], apart := false }
def EdgeWholeSaid : Prop := edgeWholeRow.holds Try.pinned (OpenSpec.ofChange edgeWholeSpec)

/-- ITS FALSE NEIGHBOUR: 'it returns false'. Refute it at one input. -/
def edgeWholeWrong : ChangeSpec := { name := "edgeWhole", fn := fun _ => fun
  | [d1, d2] => { results := [.lit (.bool false)], args := [d1, d2] }
  | _ => none }
def EdgeWholeWrongFalsely : Prop := edgeWholeRow.holds Try.pinned (OpenSpec.ofChange edgeWholeWrong)

/-- 'drawbridgelaw1.EdgeOrder': WHATEVER THE INPUT: true; the input reads as it did. -/
def edgeOrderSpec : ChangeSpec := { name := "edgeOrder", fn := fun _ => fun
  | [d] => { results := [.lit (.bool true)], args := [d] }
  | _ => none }
def edgeOrderRow : OpenClaim := { program := "ytdofdchckdchfaa", sum := "f6b96bcdaca21860c95623225088aea4aa025027ab296c4f87b7b3781d662939", func := "drawbridge/drawbridgelaw1.EdgeOrder", spec := "edgeOrder", inPlace := ["math.Float64bits", "math.Float64frombits", "math.archTrunc"], apart := false }
def EdgeOrderSaid : Prop := edgeOrderRow.holds Try.pinned (OpenSpec.ofChange edgeOrderSpec)

/-- ITS FALSE NEIGHBOUR: 'it returns false'. Refute it at one input. -/
def edgeOrderWrong : ChangeSpec := { name := "edgeOrder", fn := fun _ => fun
  | [d] => { results := [.lit (.bool false)], args := [d] }
  | _ => none }
def EdgeOrderWrongFalsely : Prop := edgeOrderRow.holds Try.pinned (OpenSpec.ofChange edgeOrderWrong)

/- THE SECOND FORM. 'bulk': how many values and letters a reading holds, each counted each time it is reached (what is shared counts as often as it is met; a slice's spare places count too). A statement '..UptoSaid' is the law's where the arguments, and the package variables that the reading takes, are together of bulk at most 1048576: NARROWER than '..Said'. Prove '..Said' where nothing that the law and all that it calls make is longer than what came in: it says more and counts as full. Else prove '..UptoSaid'. A law counts once. -/
mutual
def uptoBulk {H : Type} : DataW H → Nat
  | .lit (.string bytes) => bytes.length + 1
  | .lit _ => 1
  | .nil => 1
  | .ptr d => uptoBulk d + 1
  | .slice elems spare => uptoBulkAll elems + uptoBulkAll spare + 1
  | .agg parts => uptoBulkAll parts + 1
  | .iface _ d => uptoBulk d + 1
  | .map entries => uptoBulkEntries entries + 1
  | .held _ => 1
def uptoBulkAll {H : Type} : List (DataW H) → Nat
  | [] => 0
  | d :: r => uptoBulk d + uptoBulkAll r
def uptoBulkEntries {H : Type} : List (Lit × DataW H) → Nat
  | [] => 0
  | x :: r => uptoBulkEntry x + uptoBulkEntries r
def uptoBulkEntry {H : Type} : Lit × DataW H → Nat
  | (.string bytes, d) => bytes.length + uptoBulk d + 1
  | (_, d) => uptoBulk d + 1
 end
def uptoSmall : (H : Type) → List (DataW H) → Bool := fun _ ds => decide (uptoBulkAll ds ≤ 1048576)
def OpenSpec.upto (s : _root_.Go.ChangeSpec) : _root_.Go.OpenSpec := { _root_.Go.OpenSpec.ofChange s with cond := some uptoSmall }

/-- 'drawbridgelaw1.EdgeBytes', WHERE WHAT IT READS IS OF BULK AT MOST 1048576: true; the input reads as it did. -/
def edgeBytesUptoRow : OpenClaim := { program := "ytdofdchckdchfaa", sum := "f6b96bcdaca21860c95623225088aea4aa025027ab296c4f87b7b3781d662939", func := "drawbridge/drawbridgelaw1.EdgeBytes", spec := "edgeBytes", inPlace := ["math.Float64bits", "math.Float64frombits", "math.archTrunc"], apart := false, narrowed := true }
def EdgeBytesUptoSaid : Prop := edgeBytesUptoRow.holds Try.pinned (OpenSpec.upto edgeBytesSpec)

/-- 'drawbridgelaw1.EdgeKinds', WHERE WHAT IT READS IS OF BULK AT MOST 1048576: true; the input reads as it did. -/
def edgeKindsUptoRow : OpenClaim := { program := "ytdofdchckdchfaa", sum := "f6b96bcdaca21860c95623225088aea4aa025027ab296c4f87b7b3781d662939", func := "drawbridge/drawbridgelaw1.EdgeKinds", spec := "edgeKinds", inPlace := ["math.Float64bits", "math.Float64frombits", "math.archTrunc", "math.archFloor"], apart := false, narrowed := true }
def EdgeKindsUptoSaid : Prop := edgeKindsUptoRow.holds Try.pinned (OpenSpec.upto edgeKindsSpec)

/-- 'drawbridgelaw1.EdgeSums', WHERE WHAT IT READS IS OF BULK AT MOST 1048576: true; the input reads as it did. -/
def edgeSumsUptoRow : OpenClaim := { program := "ytdofdchckdchfaa", sum := "f6b96bcdaca21860c95623225088aea4aa025027ab296c4f87b7b3781d662939", func := "drawbridge/drawbridgelaw1.EdgeSums", spec := "edgeSums", inPlace := ["math.Float64bits", "math.Float64frombits", "math.archTrunc", "math.archFloor"], apart := false, narrowed := true }
def EdgeSumsUptoSaid : Prop := edgeSumsUptoRow.holds Try.pinned (OpenSpec.upto edgeSumsSpec)

/-- 'drawbridgelaw1.EdgeWhole', WHERE WHAT IT READS IS OF BULK AT MOST 1048576: true; the input reads as it did. -/
def edgeWholeUptoRow : OpenClaim := { program := "ytdofdchckdchfaa", sum := "f6b96bcdaca21860c95623225088aea4aa025027ab296c4f87b7b3781d662939", func := "drawbridge/drawbridgelaw1.EdgeWhole", spec := "edgeWhole", inPlace := ["math.Float64bits", "math.Float64frombits", "math.archTrunc"], apart := false, narrowed := true }
def EdgeWholeUptoSaid : Prop := edgeWholeUptoRow.holds Try.pinned (OpenSpec.upto edgeWholeSpec)

/-- 'drawbridgelaw1.EdgeOrder', WHERE WHAT IT READS IS OF BULK AT MOST 1048576: true; the input reads as it did. -/
def edgeOrderUptoRow : OpenClaim := { program := "ytdofdchckdchfaa", sum := "f6b96bcdaca21860c95623225088aea4aa025027ab296c4f87b7b3781d662939", func := "drawbridge/drawbridgelaw1.EdgeOrder", spec := "edgeOrder", inPlace := ["math.Float64bits", "math.Float64frombits", "math.archTrunc"], apart := false, narrowed := true }
def EdgeOrderUptoSaid : Prop := edgeOrderUptoRow.holds Try.pinned (OpenSpec.upto edgeOrderSpec)

end Rows
end Go.Proofs.Ytdofdchckdchfaa
