/-
  No cell of these rows narrows 'for every input' (looked for: loops, veiled, ifaces, maps, wideKeys, modest, calm, conditions, laid).
  DERIVED. THE GIVEN ROWS OF THIS SEAT. 9 by the template 'for every input the law returns true; each argument reads behind the call as it read before'; 0 by the template 'total and deterministic' (their statements: YthiiigbifimckaaTotals.lean).
  GIVEN WITH THE SEED: the statements are not yours to turn. If you find one false, say at which input.
  Laid BY PROGRAM, IN A SANDBOX (cutbox-rows.mjs): the forced cells as the released guide's own fill.sh prints them over the translation 5d4e6a366154f5ba… (all of the seat's roots in one cut). By AI agents, Wed Nov 11 2026. No macro, syntax, notation, axiom, sorry.
-/
import Derived.Test.YthiiigbifimckaaChecked
import GoSem.Claim
import GoSem.ClaimJoined
import GoSem.ClaimMapViews
import Derived.JoinedTies
import Derived.KernelRfl
namespace Go.Proofs.Ythiiigbifimckaa
/- THE CELL 'sum', in the pinned program and in every row, IS THE sha256 OF THE DUMP (.gsa) THAT YthiiigbifimckaaProg.lean LOADS. Nothing in Lean hashes anything: it is a label: what it is worth is what the hold of that sum in a sandbox is worth. -/
noncomputable def Try.pinned : Pinned := { name := "ythiiigbifimckaa", sum := "5d4e6a366154f5ba62382abcf4c07e103dd8e8ebc175714d7eaf58614b7de837", checked := Try.checked }
namespace Rows
def none {H : Type} : Left H := { results := [], args := [] }

/-- 'quoinlaw01.TextBehind': WHATEVER THE INPUT: true; the input reads as it did. -/
def textBehindSpec : ChangeSpec := { name := "textBehind", fn := fun _ => fun
  | [d1, d2, d3] => { results := [.lit (.bool true)], args := [d1, d2, d3] }
  | _ => none }
def textBehindRow : OpenClaim := { program := "ythiiigbifimckaa", sum := "5d4e6a366154f5ba62382abcf4c07e103dd8e8ebc175714d7eaf58614b7de837", func := "quoin/quoinlaw01.TextBehind", spec := "textBehind", inPlace := ["internal/abi.NoEscape"], apart := false }
def TextBehindSaid : Prop := textBehindRow.holds Try.pinned (OpenSpec.ofChange textBehindSpec)

/-- ITS FALSE NEIGHBOUR: 'it returns false'. Refute it at one input. -/
def textBehindWrong : ChangeSpec := { name := "textBehind", fn := fun _ => fun
  | [d1, d2, d3] => { results := [.lit (.bool false)], args := [d1, d2, d3] }
  | _ => none }
def TextBehindWrongFalsely : Prop := textBehindRow.holds Try.pinned (OpenSpec.ofChange textBehindWrong)

/-- 'quoinlaw01.TextEncodes': WHATEVER THE INPUT: true; the input reads as it did. -/
def textEncodesSpec : ChangeSpec := { name := "textEncodes", fn := fun _ => fun
  | [d1, d2] => { results := [.lit (.bool true)], args := [d1, d2] }
  | _ => none }
def textEncodesRow : OpenClaim := { program := "ythiiigbifimckaa", sum := "5d4e6a366154f5ba62382abcf4c07e103dd8e8ebc175714d7eaf58614b7de837", func := "quoin/quoinlaw01.TextEncodes", spec := "textEncodes", inPlace := ["internal/abi.NoEscape"], apart := false }
def TextEncodesSaid : Prop := textEncodesRow.holds Try.pinned (OpenSpec.ofChange textEncodesSpec)

/-- ITS FALSE NEIGHBOUR: 'it returns false'. Refute it at one input. -/
def textEncodesWrong : ChangeSpec := { name := "textEncodes", fn := fun _ => fun
  | [d1, d2] => { results := [.lit (.bool false)], args := [d1, d2] }
  | _ => none }
def TextEncodesWrongFalsely : Prop := textEncodesRow.holds Try.pinned (OpenSpec.ofChange textEncodesWrong)

/-- 'quoinlaw01.TextPieces': WHATEVER THE INPUT: true; the input reads as it did. -/
def textPiecesSpec : ChangeSpec := { name := "textPieces", fn := fun _ => fun
  | [d1, d2] => { results := [.lit (.bool true)], args := [d1, d2] }
  | _ => none }
def textPiecesRow : OpenClaim := { program := "ythiiigbifimckaa", sum := "5d4e6a366154f5ba62382abcf4c07e103dd8e8ebc175714d7eaf58614b7de837", func := "quoin/quoinlaw01.TextPieces", spec := "textPieces", inPlace := ["internal/abi.NoEscape"], apart := false }
def TextPiecesSaid : Prop := textPiecesRow.holds Try.pinned (OpenSpec.ofChange textPiecesSpec)

/-- ITS FALSE NEIGHBOUR: 'it returns false'. Refute it at one input. -/
def textPiecesWrong : ChangeSpec := { name := "textPieces", fn := fun _ => fun
  | [d1, d2] => { results := [.lit (.bool false)], args := [d1, d2] }
  | _ => none }
def TextPiecesWrongFalsely : Prop := textPiecesRow.holds Try.pinned (OpenSpec.ofChange textPiecesWrong)

/-- 'quoinlaw01.TextBack': WHATEVER THE INPUT: true; the input reads as it did. -/
def textBackSpec : ChangeSpec := { name := "textBack", fn := fun _ => fun
  | [d1, d2] => { results := [.lit (.bool true)], args := [d1, d2] }
  | _ => none }
def textBackRow : OpenClaim := { program := "ythiiigbifimckaa", sum := "5d4e6a366154f5ba62382abcf4c07e103dd8e8ebc175714d7eaf58614b7de837", func := "quoin/quoinlaw01.TextBack", spec := "textBack", inPlace := ["internal/abi.NoEscape"], apart := false }
def TextBackSaid : Prop := textBackRow.holds Try.pinned (OpenSpec.ofChange textBackSpec)

/-- ITS FALSE NEIGHBOUR: 'it returns false'. Refute it at one input. -/
def textBackWrong : ChangeSpec := { name := "textBack", fn := fun _ => fun
  | [d1, d2] => { results := [.lit (.bool false)], args := [d1, d2] }
  | _ => none }
def TextBackWrongFalsely : Prop := textBackRow.holds Try.pinned (OpenSpec.ofChange textBackWrong)

/-- 'quoinlaw01.TextOwn': WHATEVER THE INPUT: true; the input reads as it did. -/
def textOwnSpec : ChangeSpec := { name := "textOwn", fn := fun _ => fun
  | [d1, d2] => { results := [.lit (.bool true)], args := [d1, d2] }
  | _ => none }
def textOwnRow : OpenClaim := { program := "ythiiigbifimckaa", sum := "5d4e6a366154f5ba62382abcf4c07e103dd8e8ebc175714d7eaf58614b7de837", func := "quoin/quoinlaw01.TextOwn", spec := "textOwn", inPlace := ["internal/abi.NoEscape"], apart := false }
def TextOwnSaid : Prop := textOwnRow.holds Try.pinned (OpenSpec.ofChange textOwnSpec)

/-- ITS FALSE NEIGHBOUR: 'it returns false'. Refute it at one input. -/
def textOwnWrong : ChangeSpec := { name := "textOwn", fn := fun _ => fun
  | [d1, d2] => { results := [.lit (.bool false)], args := [d1, d2] }
  | _ => none }
def TextOwnWrongFalsely : Prop := textOwnRow.holds Try.pinned (OpenSpec.ofChange textOwnWrong)

/-- 'quoinlaw01.TextQuotes': WHATEVER THE INPUT: true; the input reads as it did. -/
def textQuotesSpec : ChangeSpec := { name := "textQuotes", fn := fun _ => fun
  | [d1, d2, d3] => { results := [.lit (.bool true)], args := [d1, d2, d3] }
  | _ => none }
def textQuotesRow : OpenClaim := { program := "ythiiigbifimckaa", sum := "5d4e6a366154f5ba62382abcf4c07e103dd8e8ebc175714d7eaf58614b7de837", func := "quoin/quoinlaw01.TextQuotes", spec := "textQuotes", inPlace := ["internal/abi.NoEscape", "internal/bytealg.IndexByteString"], apart := false }
def TextQuotesSaid : Prop := textQuotesRow.holds Try.pinned (OpenSpec.ofChange textQuotesSpec)

/-- ITS FALSE NEIGHBOUR: 'it returns false'. Refute it at one input. -/
def textQuotesWrong : ChangeSpec := { name := "textQuotes", fn := fun _ => fun
  | [d1, d2, d3] => { results := [.lit (.bool false)], args := [d1, d2, d3] }
  | _ => none }
def TextQuotesWrongFalsely : Prop := textQuotesRow.holds Try.pinned (OpenSpec.ofChange textQuotesWrong)

/-- 'quoinlaw01.TextAgain': WHATEVER THE INPUT: true; the input reads as it did. -/
def textAgainSpec : ChangeSpec := { name := "textAgain", fn := fun _ => fun
  | [d1, d2] => { results := [.lit (.bool true)], args := [d1, d2] }
  | _ => none }
def textAgainRow : OpenClaim := { program := "ythiiigbifimckaa", sum := "5d4e6a366154f5ba62382abcf4c07e103dd8e8ebc175714d7eaf58614b7de837", func := "quoin/quoinlaw01.TextAgain", spec := "textAgain", inPlace := ["internal/abi.NoEscape", "internal/bytealg.IndexByteString"], apart := false }
def TextAgainSaid : Prop := textAgainRow.holds Try.pinned (OpenSpec.ofChange textAgainSpec)

/-- ITS FALSE NEIGHBOUR: 'it returns false'. Refute it at one input. -/
def textAgainWrong : ChangeSpec := { name := "textAgain", fn := fun _ => fun
  | [d1, d2] => { results := [.lit (.bool false)], args := [d1, d2] }
  | _ => none }
def TextAgainWrongFalsely : Prop := textAgainRow.holds Try.pinned (OpenSpec.ofChange textAgainWrong)

/-- 'quoinlaw01.TextPlaces': WHATEVER THE INPUT: true; the input reads as it did. -/
def textPlacesSpec : ChangeSpec := { name := "textPlaces", fn := fun _ => fun
  | [d1, d2, d3] => { results := [.lit (.bool true)], args := [d1, d2, d3] }
  | _ => none }
def textPlacesRow : OpenClaim := { program := "ythiiigbifimckaa", sum := "5d4e6a366154f5ba62382abcf4c07e103dd8e8ebc175714d7eaf58614b7de837", func := "quoin/quoinlaw01.TextPlaces", spec := "textPlaces", inPlace := ["internal/bytealg.CountString", "internal/bytealg.IndexByteString", "internal/bytealg.IndexString", "internal/abi.NoEscape"], named := ["internal/bytealg.MaxLen"], apart := false }
def TextPlacesSaid : Prop := textPlacesRow.holds Try.pinned (OpenSpec.ofChange textPlacesSpec)

/-- ITS FALSE NEIGHBOUR: 'it returns false'. Refute it at one input. -/
def textPlacesWrong : ChangeSpec := { name := "textPlaces", fn := fun _ => fun
  | [d1, d2, d3] => { results := [.lit (.bool false)], args := [d1, d2, d3] }
  | _ => none }
def TextPlacesWrongFalsely : Prop := textPlacesRow.holds Try.pinned (OpenSpec.ofChange textPlacesWrong)

/-- 'quoinlaw01.TextThere': WHATEVER THE INPUT: true; the input reads as it did. -/
def textThereSpec : ChangeSpec := { name := "textThere", fn := fun _ => fun
  | [d1, d2] => { results := [.lit (.bool true)], args := [d1, d2] }
  | _ => none }
def textThereRow : OpenClaim := { program := "ythiiigbifimckaa", sum := "5d4e6a366154f5ba62382abcf4c07e103dd8e8ebc175714d7eaf58614b7de837", func := "quoin/quoinlaw01.TextThere", spec := "textThere", inPlace := ["internal/bytealg.CountString", "internal/bytealg.IndexByteString", "internal/bytealg.IndexString", "internal/abi.NoEscape"], named := ["internal/bytealg.MaxLen"], apart := false }
def TextThereSaid : Prop := textThereRow.holds Try.pinned (OpenSpec.ofChange textThereSpec)

/-- ITS FALSE NEIGHBOUR: 'it returns false'. Refute it at one input. -/
def textThereWrong : ChangeSpec := { name := "textThere", fn := fun _ => fun
  | [d1, d2] => { results := [.lit (.bool false)], args := [d1, d2] }
  | _ => none }
def TextThereWrongFalsely : Prop := textThereRow.holds Try.pinned (OpenSpec.ofChange textThereWrong)

/- THE SECOND FORM. 'bulk': how many values and letters a reading holds, each counted each time it is reached (what is shared counts as often as it is met; a slice's spare places count too). A statement '..UptoSaid' is the law's where the arguments, and the package variables that the reading takes, are together of bulk at most 1048576: NARROWER than '..Said'. Prove '..Said' where nothing that the law and all that it calls make is longer than what came in: it says more and counts as full. Else prove '..UptoSaid'. A law counts once. -/
mutual
def uptoBulk {H : Type} : DataW H → Nat
  | .lit (.string bytes) => bytes.length + 1
  | .lit _ => 1
  | .nil => 1
  | .ptr d => uptoBulk d + 1
  | .slice elems spare => uptoBulkAll elems + uptoBulkAll spare + 1
  | .agg parts => uptoBulkAll parts + 1
  | .iface _ d => uptoBulk d + 1
  | .map entries => uptoBulkEntries entries + 1
  | .held _ => 1
def uptoBulkAll {H : Type} : List (DataW H) → Nat
  | [] => 0
  | d :: r => uptoBulk d + uptoBulkAll r
def uptoBulkEntries {H : Type} : List (Lit × DataW H) → Nat
  | [] => 0
  | x :: r => uptoBulkEntry x + uptoBulkEntries r
def uptoBulkEntry {H : Type} : Lit × DataW H → Nat
  | (.string bytes, d) => bytes.length + uptoBulk d + 1
  | (_, d) => uptoBulk d + 1
 end
def uptoSmall : (H : Type) → List (DataW H) → Bool := fun _ ds => decide (uptoBulkAll ds ≤ 1048576)
def OpenSpec.upto (s : _root_.Go.ChangeSpec) : _root_.Go.OpenSpec := { _root_.Go.OpenSpec.ofChange s with cond := some uptoSmall }

/-- 'quoinlaw01.TextBehind', WHERE WHAT IT READS IS OF BULK AT MOST 1048576: true; the input reads as it did. -/
def textBehindUptoRow : OpenClaim := { program := "ythiiigbifimckaa", sum := "5d4e6a366154f5ba62382abcf4c07e103dd8e8ebc175714d7eaf58614b7de837", func := "quoin/quoinlaw01.TextBehind", spec := "textBehind", inPlace := ["internal/abi.NoEscape"], apart := false, narrowed := true }
def TextBehindUptoSaid : Prop := textBehindUptoRow.holds Try.pinned (OpenSpec.upto textBehindSpec)

/-- 'quoinlaw01.TextEncodes', WHERE WHAT IT READS IS OF BULK AT MOST 1048576: true; the input reads as it did. -/
def textEncodesUptoRow : OpenClaim := { program := "ythiiigbifimckaa", sum := "5d4e6a366154f5ba62382abcf4c07e103dd8e8ebc175714d7eaf58614b7de837", func := "quoin/quoinlaw01.TextEncodes", spec := "textEncodes", inPlace := ["internal/abi.NoEscape"], apart := false, narrowed := true }
def TextEncodesUptoSaid : Prop := textEncodesUptoRow.holds Try.pinned (OpenSpec.upto textEncodesSpec)

/-- 'quoinlaw01.TextPieces', WHERE WHAT IT READS IS OF BULK AT MOST 1048576: true; the input reads as it did. -/
def textPiecesUptoRow : OpenClaim := { program := "ythiiigbifimckaa", sum := "5d4e6a366154f5ba62382abcf4c07e103dd8e8ebc175714d7eaf58614b7de837", func := "quoin/quoinlaw01.TextPieces", spec := "textPieces", inPlace := ["internal/abi.NoEscape"], apart := false, narrowed := true }
def TextPiecesUptoSaid : Prop := textPiecesUptoRow.holds Try.pinned (OpenSpec.upto textPiecesSpec)

/-- 'quoinlaw01.TextBack', WHERE WHAT IT READS IS OF BULK AT MOST 1048576: true; the input reads as it did. -/
def textBackUptoRow : OpenClaim := { program := "ythiiigbifimckaa", sum := "5d4e6a366154f5ba62382abcf4c07e103dd8e8ebc175714d7eaf58614b7de837", func := "quoin/quoinlaw01.TextBack", spec := "textBack", inPlace := ["internal/abi.NoEscape"], apart := false, narrowed := true }
def TextBackUptoSaid : Prop := textBackUptoRow.holds Try.pinned (OpenSpec.upto textBackSpec)

/-- 'quoinlaw01.TextOwn', WHERE WHAT IT READS IS OF BULK AT MOST 1048576: true; the input reads as it did. -/
def textOwnUptoRow : OpenClaim := { program := "ythiiigbifimckaa", sum := "5d4e6a366154f5ba62382abcf4c07e103dd8e8ebc175714d7eaf58614b7de837", func := "quoin/quoinlaw01.TextOwn", spec := "textOwn", inPlace := ["internal/abi.NoEscape"], apart := false, narrowed := true }
def TextOwnUptoSaid : Prop := textOwnUptoRow.holds Try.pinned (OpenSpec.upto textOwnSpec)

/-- 'quoinlaw01.TextQuotes', WHERE WHAT IT READS IS OF BULK AT MOST 1048576: true; the input reads as it did. -/
def textQuotesUptoRow : OpenClaim := { program := "ythiiigbifimckaa", sum := "5d4e6a366154f5ba62382abcf4c07e103dd8e8ebc175714d7eaf58614b7de837", func := "quoin/quoinlaw01.TextQuotes", spec := "textQuotes", inPlace := ["internal/abi.NoEscape", "internal/bytealg.IndexByteString"], apart := false, narrowed := true }
def TextQuotesUptoSaid : Prop := textQuotesUptoRow.holds Try.pinned (OpenSpec.upto textQuotesSpec)

/-- 'quoinlaw01.TextAgain', WHERE WHAT IT READS IS OF BULK AT MOST 1048576: true; the input reads as it did. -/
def textAgainUptoRow : OpenClaim := { program := "ythiiigbifimckaa", sum := "5d4e6a366154f5ba62382abcf4c07e103dd8e8ebc175714d7eaf58614b7de837", func := "quoin/quoinlaw01.TextAgain", spec := "textAgain", inPlace := ["internal/abi.NoEscape", "internal/bytealg.IndexByteString"], apart := false, narrowed := true }
def TextAgainUptoSaid : Prop := textAgainUptoRow.holds Try.pinned (OpenSpec.upto textAgainSpec)

/-- 'quoinlaw01.TextPlaces', WHERE WHAT IT READS IS OF BULK AT MOST 1048576: true; the input reads as it did. -/
def textPlacesUptoRow : OpenClaim := { program := "ythiiigbifimckaa", sum := "5d4e6a366154f5ba62382abcf4c07e103dd8e8ebc175714d7eaf58614b7de837", func := "quoin/quoinlaw01.TextPlaces", spec := "textPlaces", inPlace := ["internal/bytealg.CountString", "internal/bytealg.IndexByteString", "internal/bytealg.IndexString", "internal/abi.NoEscape"], named := ["internal/bytealg.MaxLen"], apart := false, narrowed := true }
def TextPlacesUptoSaid : Prop := textPlacesUptoRow.holds Try.pinned (OpenSpec.upto textPlacesSpec)

/-- 'quoinlaw01.TextThere', WHERE WHAT IT READS IS OF BULK AT MOST 1048576: true; the input reads as it did. -/
def textThereUptoRow : OpenClaim := { program := "ythiiigbifimckaa", sum := "5d4e6a366154f5ba62382abcf4c07e103dd8e8ebc175714d7eaf58614b7de837", func := "quoin/quoinlaw01.TextThere", spec := "textThere", inPlace := ["internal/bytealg.CountString", "internal/bytealg.IndexByteString", "internal/bytealg.IndexString", "internal/abi.NoEscape"], named := ["internal/bytealg.MaxLen"], apart := false, narrowed := true }
def TextThereUptoSaid : Prop := textThereUptoRow.holds Try.pinned (OpenSpec.upto textThereSpec)

end Rows
end Go.Proofs.Ythiiigbifimckaa
