/-
  No cell of these rows narrows 'for every input' (looked for: loops, veiled, ifaces, maps, wideKeys, modest, calm, conditions, laid).
  DERIVED. THE GIVEN ROWS OF THIS SEAT. 5 by the template 'for every input the law returns true; each argument reads behind the call as it read before'; 0 by the template 'total and deterministic' (their statements: YtjpgginmdnbmdaaTotals.lean).
  GIVEN WITH THE SEED: the statements are not yours to turn. If you find one false, say at which input.
  Laid BY PROGRAM, IN A SANDBOX (cutbox-rows.mjs): the forced cells as the released guide's own fill.sh prints them over the translation e89f19dcaf393942… (all of the seat's roots in one cut). By AI agents, Wed Nov 11 2026. No macro, syntax, notation, axiom, sorry.
-/
import Derived.Test.YtjpgginmdnbmdaaChecked
import GoSem.Claim
import GoSem.ClaimJoined
import GoSem.ClaimMapViews
import Derived.JoinedTies
import Derived.KernelRfl
namespace Go.Proofs.Ytjpgginmdnbmdaa
/- THE CELL 'sum', in the pinned program and in every row, IS THE sha256 OF THE DUMP (.gsa) THAT YtjpgginmdnbmdaaProg.lean LOADS. Nothing in Lean hashes anything: it is a label: what it is worth is what the hold of that sum in a sandbox is worth. -/
noncomputable def Try.pinned : Pinned := { name := "ytjpgginmdnbmdaa", sum := "e89f19dcaf393942d3ae034ad2f94c639584d186eca7dfa7532ac91979d0b437", checked := Try.checked }
namespace Rows
def none {H : Type} : Left H := { results := [], args := [] }

/-- 'drawbridgelaw2.MoneyGuards': WHATEVER THE INPUT: true; the input reads as it did. -/
def moneyGuardsSpec : ChangeSpec := { name := "moneyGuards", fn := fun _ => fun
  | [d1, d2] => { results := [.lit (.bool true)], args := [d1, d2] }
  | _ => none }
def moneyGuardsRow : OpenClaim := { program := "ytjpgginmdnbmdaa", sum := "e89f19dcaf393942d3ae034ad2f94c639584d186eca7dfa7532ac91979d0b437", func := "drawbridge/drawbridgelaw2.MoneyGuards", spec := "moneyGuards", unfollowed := true, recurses := true, apart := false }
def MoneyGuardsSaid : Prop := moneyGuardsRow.holds Try.pinned (OpenSpec.ofChange moneyGuardsSpec)

/-- ITS FALSE NEIGHBOUR: 'it returns false'. Refute it at one input. -/
def moneyGuardsWrong : ChangeSpec := { name := "moneyGuards", fn := fun _ => fun
  | [d1, d2] => { results := [.lit (.bool false)], args := [d1, d2] }
  | _ => none }
def MoneyGuardsWrongFalsely : Prop := moneyGuardsRow.holds Try.pinned (OpenSpec.ofChange moneyGuardsWrong)

/-- 'drawbridgelaw2.MoneyReckons': WHATEVER THE INPUT: true; the input reads as it did. -/
def moneyReckonsSpec : ChangeSpec := { name := "moneyReckons", fn := fun _ => fun
  | [d1, d2] => { results := [.lit (.bool true)], args := [d1, d2] }
  | _ => none }
def moneyReckonsRow : OpenClaim := { program := "ytjpgginmdnbmdaa", sum := "e89f19dcaf393942d3ae034ad2f94c639584d186eca7dfa7532ac91979d0b437", func := "drawbridge/drawbridgelaw2.MoneyReckons", spec := "moneyReckons", unfollowed := true, recurses := true, apart := false }
def MoneyReckonsSaid : Prop := moneyReckonsRow.holds Try.pinned (OpenSpec.ofChange moneyReckonsSpec)

/-- ITS FALSE NEIGHBOUR: 'it returns false'. Refute it at one input. -/
def moneyReckonsWrong : ChangeSpec := { name := "moneyReckons", fn := fun _ => fun
  | [d1, d2] => { results := [.lit (.bool false)], args := [d1, d2] }
  | _ => none }
def MoneyReckonsWrongFalsely : Prop := moneyReckonsRow.holds Try.pinned (OpenSpec.ofChange moneyReckonsWrong)

/-- 'drawbridgelaw2.MoneyBack': WHATEVER THE INPUT: true; the input reads as it did. -/
def moneyBackSpec : ChangeSpec := { name := "moneyBack", fn := fun _ => fun
  | [d1, d2] => { results := [.lit (.bool true)], args := [d1, d2] }
  | _ => none }
def moneyBackRow : OpenClaim := { program := "ytjpgginmdnbmdaa", sum := "e89f19dcaf393942d3ae034ad2f94c639584d186eca7dfa7532ac91979d0b437", func := "drawbridge/drawbridgelaw2.MoneyBack", spec := "moneyBack", unfollowed := true, recurses := true, apart := false }
def MoneyBackSaid : Prop := moneyBackRow.holds Try.pinned (OpenSpec.ofChange moneyBackSpec)

/-- ITS FALSE NEIGHBOUR: 'it returns false'. Refute it at one input. -/
def moneyBackWrong : ChangeSpec := { name := "moneyBack", fn := fun _ => fun
  | [d1, d2] => { results := [.lit (.bool false)], args := [d1, d2] }
  | _ => none }
def MoneyBackWrongFalsely : Prop := moneyBackRow.holds Try.pinned (OpenSpec.ofChange moneyBackWrong)

/-- 'drawbridgelaw2.MoneySums': WHATEVER THE INPUT: true; the input reads as it did. -/
def moneySumsSpec : ChangeSpec := { name := "moneySums", fn := fun _ => fun
  | [d1, d2] => { results := [.lit (.bool true)], args := [d1, d2] }
  | _ => none }
def moneySumsRow : OpenClaim := { program := "ytjpgginmdnbmdaa", sum := "e89f19dcaf393942d3ae034ad2f94c639584d186eca7dfa7532ac91979d0b437", func := "drawbridge/drawbridgelaw2.MoneySums", spec := "moneySums", unfollowed := true, recurses := true, apart := false }
def MoneySumsSaid : Prop := moneySumsRow.holds Try.pinned (OpenSpec.ofChange moneySumsSpec)

/-- ITS FALSE NEIGHBOUR: 'it returns false'. Refute it at one input. -/
def moneySumsWrong : ChangeSpec := { name := "moneySums", fn := fun _ => fun
  | [d1, d2] => { results := [.lit (.bool false)], args := [d1, d2] }
  | _ => none }
def MoneySumsWrongFalsely : Prop := moneySumsRow.holds Try.pinned (OpenSpec.ofChange moneySumsWrong)

/-- 'drawbridgelaw2.MoneyKnown': WHATEVER THE INPUT: true; the input reads as it did. -/
def moneyKnownSpec : ChangeSpec := { name := "moneyKnown", fn := fun _ => fun
  | [] => { results := [.lit (.bool true)], args := [] }
  | _ => none }
def moneyKnownRow : OpenClaim := { program := "ytjpgginmdnbmdaa", sum := "e89f19dcaf393942d3ae034ad2f94c639584d186eca7dfa7532ac91979d0b437", func := "drawbridge/drawbridgelaw2.MoneyKnown", spec := "moneyKnown", unfollowed := true, recurses := true, apart := false }
def MoneyKnownSaid : Prop := moneyKnownRow.holds Try.pinned (OpenSpec.ofChange moneyKnownSpec)

/-- ITS FALSE NEIGHBOUR: 'it returns false'. Refute it at one input. -/
def moneyKnownWrong : ChangeSpec := { name := "moneyKnown", fn := fun _ => fun
  | [] => { results := [.lit (.bool false)], args := [] }
  | _ => none }
def MoneyKnownWrongFalsely : Prop := moneyKnownRow.holds Try.pinned (OpenSpec.ofChange moneyKnownWrong)

/- THE SECOND FORM. 'bulk': how many values and letters a reading holds, each counted each time it is reached (what is shared counts as often as it is met; a slice's spare places count too). A statement '..UptoSaid' is the law's where the arguments, and the package variables that the reading takes, are together of bulk at most 1048576: NARROWER than '..Said'. Prove '..Said' where nothing that the law and all that it calls make is longer than what came in: it says more and counts as full. Else prove '..UptoSaid'. A law counts once. -/
mutual
def uptoBulk {H : Type} : DataW H → Nat
  | .lit (.string bytes) => bytes.length + 1
  | .lit _ => 1
  | .nil => 1
  | .ptr d => uptoBulk d + 1
  | .slice elems spare => uptoBulkAll elems + uptoBulkAll spare + 1
  | .agg parts => uptoBulkAll parts + 1
  | .iface _ d => uptoBulk d + 1
  | .map entries => uptoBulkEntries entries + 1
  | .held _ => 1
def uptoBulkAll {H : Type} : List (DataW H) → Nat
  | [] => 0
  | d :: r => uptoBulk d + uptoBulkAll r
def uptoBulkEntries {H : Type} : List (Lit × DataW H) → Nat
  | [] => 0
  | x :: r => uptoBulkEntry x + uptoBulkEntries r
def uptoBulkEntry {H : Type} : Lit × DataW H → Nat
  | (.string bytes, d) => bytes.length + uptoBulk d + 1
  | (_, d) => uptoBulk d + 1
 end
def uptoSmall : (H : Type) → List (DataW H) → Bool := fun _ ds => decide (uptoBulkAll ds ≤ 1048576)
def OpenSpec.upto (s : _root_.Go.ChangeSpec) : _root_.Go.OpenSpec := { _root_.Go.OpenSpec.ofChange s with cond := some uptoSmall }

/-- 'drawbridgelaw2.MoneyGuards', WHERE WHAT IT READS IS OF BULK AT MOST 1048576: true; the input reads as it did. -/
def moneyGuardsUptoRow : OpenClaim := { program := "ytjpgginmdnbmdaa", sum := "e89f19dcaf393942d3ae034ad2f94c639584d186eca7dfa7532ac91979d0b437", func := "drawbridge/drawbridgelaw2.MoneyGuards", spec := "moneyGuards", unfollowed := true, recurses := true, apart := false, narrowed := true }
def MoneyGuardsUptoSaid : Prop := moneyGuardsUptoRow.holds Try.pinned (OpenSpec.upto moneyGuardsSpec)

/-- 'drawbridgelaw2.MoneyReckons', WHERE WHAT IT READS IS OF BULK AT MOST 1048576: true; the input reads as it did. -/
def moneyReckonsUptoRow : OpenClaim := { program := "ytjpgginmdnbmdaa", sum := "e89f19dcaf393942d3ae034ad2f94c639584d186eca7dfa7532ac91979d0b437", func := "drawbridge/drawbridgelaw2.MoneyReckons", spec := "moneyReckons", unfollowed := true, recurses := true, apart := false, narrowed := true }
def MoneyReckonsUptoSaid : Prop := moneyReckonsUptoRow.holds Try.pinned (OpenSpec.upto moneyReckonsSpec)

/-- 'drawbridgelaw2.MoneyBack', WHERE WHAT IT READS IS OF BULK AT MOST 1048576: true; the input reads as it did. -/
def moneyBackUptoRow : OpenClaim := { program := "ytjpgginmdnbmdaa", sum := "e89f19dcaf393942d3ae034ad2f94c639584d186eca7dfa7532ac91979d0b437", func := "drawbridge/drawbridgelaw2.MoneyBack", spec := "moneyBack", unfollowed := true, recurses := true, apart := false, narrowed := true }
def MoneyBackUptoSaid : Prop := moneyBackUptoRow.holds Try.pinned (OpenSpec.upto moneyBackSpec)

/-- 'drawbridgelaw2.MoneySums', WHERE WHAT IT READS IS OF BULK AT MOST 1048576: true; the input reads as it did. -/
def moneySumsUptoRow : OpenClaim := { program := "ytjpgginmdnbmdaa", sum := "e89f19dcaf393942d3ae034ad2f94c639584d186eca7dfa7532ac91979d0b437", func := "drawbridge/drawbridgelaw2.MoneySums", spec := "moneySums", unfollowed := true, recurses := true, apart := false, narrowed := true }
def MoneySumsUptoSaid : Prop := moneySumsUptoRow.holds Try.pinned (OpenSpec.upto moneySumsSpec)

/-- 'drawbridgelaw2.MoneyKnown', WHERE WHAT IT READS IS OF BULK AT MOST 1048576: true; the input reads as it did. -/
def moneyKnownUptoRow : OpenClaim := { program := "ytjpgginmdnbmdaa", sum := "e89f19dcaf393942d3ae034ad2f94c639584d186eca7dfa7532ac91979d0b437", func := "drawbridge/drawbridgelaw2.MoneyKnown", spec := "moneyKnown", unfollowed := true, recurses := true, apart := false, narrowed := true }
def MoneyKnownUptoSaid : Prop := moneyKnownUptoRow.holds Try.pinned (OpenSpec.upto moneyKnownSpec)

end Rows
end Go.Proofs.Ytjpgginmdnbmdaa
