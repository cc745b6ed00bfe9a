/-
  NARROWER THAN 'FOR EVERY INPUT', by the rows' own cells (each row's printed sentence says how): PullParses: loops · PullAhead: loops · PullNexts: loops · PullOwn: loops.
  DERIVED. THE GIVEN ROWS OF THIS SEAT. 4 by the template 'for every input the law returns true; each argument reads behind the call as it read before'; 0 by the template 'total and deterministic' (their statements: YtbbdljhpjomclaaTotals.lean).
  GIVEN WITH THE SEED: the statements are not yours to turn. If you find one false, say at which input.
  Laid BY PROGRAM, IN A SANDBOX (cutbox-rows.mjs): the forced cells as the released guide's own fill.sh prints them over the translation e2b323a01e0e9db9… (all of the seat's roots in one cut). By AI agents, Wed Nov 11 2026. No macro, syntax, notation, axiom, sorry.
-/
import Derived.Test.YtbbdljhpjomclaaChecked
import GoSem.Claim
import GoSem.ClaimJoined
import GoSem.ClaimMapViews
import Derived.JoinedTies
import Derived.KernelRfl
namespace Go.Proofs.Ytbbdljhpjomclaa
/- THE CELL 'sum', in the pinned program and in every row, IS THE sha256 OF THE DUMP (.gsa) THAT YtbbdljhpjomclaaProg.lean LOADS. Nothing in Lean hashes anything: it is a label: what it is worth is what the hold of that sum in a sandbox is worth. -/
noncomputable def Try.pinned : Pinned := { name := "ytbbdljhpjomclaa", sum := "e2b323a01e0e9db980c0b03e244f69bdb41538da10e63a1eca5624422f3791b0", checked := Try.checked }
namespace Rows
def none {H : Type} : Left H := { results := [], args := [] }

/-- 'quoinlaw18.PullParses': WHATEVER THE INPUT: true; the input reads as it did. -/
def pullParsesSpec : ChangeSpec := { name := "pullParses", fn := fun _ => fun
  | [d1, d2, d3] => { results := [.lit (.bool true)], args := [d1, d2, d3] }
  | _ => none }
def pullParsesRow : OpenClaim := { program := "ytbbdljhpjomclaa", sum := "e2b323a01e0e9db980c0b03e244f69bdb41538da10e63a1eca5624422f3791b0", func := "quoin/quoinlaw18.PullParses", spec := "pullParses", recurses := true, loops := true, apart := false }
def PullParsesSaid : Prop := pullParsesRow.holds Try.pinned (OpenSpec.ofChange pullParsesSpec)

/-- ITS FALSE NEIGHBOUR: 'it returns false'. Refute it at one input. -/
def pullParsesWrong : ChangeSpec := { name := "pullParses", fn := fun _ => fun
  | [d1, d2, d3] => { results := [.lit (.bool false)], args := [d1, d2, d3] }
  | _ => none }
def PullParsesWrongFalsely : Prop := pullParsesRow.holds Try.pinned (OpenSpec.ofChange pullParsesWrong)

/-- 'quoinlaw18.PullAhead': WHATEVER THE INPUT: true; the input reads as it did. -/
def pullAheadSpec : ChangeSpec := { name := "pullAhead", fn := fun _ => fun
  | [d1, d2, d3, d4] => { results := [.lit (.bool true)], args := [d1, d2, d3, d4] }
  | _ => none }
def pullAheadRow : OpenClaim := { program := "ytbbdljhpjomclaa", sum := "e2b323a01e0e9db980c0b03e244f69bdb41538da10e63a1eca5624422f3791b0", func := "quoin/quoinlaw18.PullAhead", spec := "pullAhead", recurses := true, loops := true, apart := false }
def PullAheadSaid : Prop := pullAheadRow.holds Try.pinned (OpenSpec.ofChange pullAheadSpec)

/-- ITS FALSE NEIGHBOUR: 'it returns false'. Refute it at one input. -/
def pullAheadWrong : ChangeSpec := { name := "pullAhead", fn := fun _ => fun
  | [d1, d2, d3, d4] => { results := [.lit (.bool false)], args := [d1, d2, d3, d4] }
  | _ => none }
def PullAheadWrongFalsely : Prop := pullAheadRow.holds Try.pinned (OpenSpec.ofChange pullAheadWrong)

/-- 'quoinlaw18.PullNexts': WHATEVER THE INPUT: true; the input reads as it did. -/
def pullNextsSpec : ChangeSpec := { name := "pullNexts", fn := fun _ => fun
  | [d1, d2, d3] => { results := [.lit (.bool true)], args := [d1, d2, d3] }
  | _ => none }
def pullNextsRow : OpenClaim := { program := "ytbbdljhpjomclaa", sum := "e2b323a01e0e9db980c0b03e244f69bdb41538da10e63a1eca5624422f3791b0", func := "quoin/quoinlaw18.PullNexts", spec := "pullNexts", recurses := true, loops := true, apart := false }
def PullNextsSaid : Prop := pullNextsRow.holds Try.pinned (OpenSpec.ofChange pullNextsSpec)

/-- ITS FALSE NEIGHBOUR: 'it returns false'. Refute it at one input. -/
def pullNextsWrong : ChangeSpec := { name := "pullNexts", fn := fun _ => fun
  | [d1, d2, d3] => { results := [.lit (.bool false)], args := [d1, d2, d3] }
  | _ => none }
def PullNextsWrongFalsely : Prop := pullNextsRow.holds Try.pinned (OpenSpec.ofChange pullNextsWrong)

/-- 'quoinlaw18.PullOwn': WHATEVER THE INPUT: true; the input reads as it did. -/
def pullOwnSpec : ChangeSpec := { name := "pullOwn", fn := fun _ => fun
  | [d1, d2] => { results := [.lit (.bool true)], args := [d1, d2] }
  | _ => none }
def pullOwnRow : OpenClaim := { program := "ytbbdljhpjomclaa", sum := "e2b323a01e0e9db980c0b03e244f69bdb41538da10e63a1eca5624422f3791b0", func := "quoin/quoinlaw18.PullOwn", spec := "pullOwn", recurses := true, loops := true, apart := false }
def PullOwnSaid : Prop := pullOwnRow.holds Try.pinned (OpenSpec.ofChange pullOwnSpec)

/-- ITS FALSE NEIGHBOUR: 'it returns false'. Refute it at one input. -/
def pullOwnWrong : ChangeSpec := { name := "pullOwn", fn := fun _ => fun
  | [d1, d2] => { results := [.lit (.bool false)], args := [d1, d2] }
  | _ => none }
def PullOwnWrongFalsely : Prop := pullOwnRow.holds Try.pinned (OpenSpec.ofChange pullOwnWrong)

/- THE SECOND FORM. 'bulk': how many values and letters a reading holds, each counted each time it is reached (what is shared counts as often as it is met; a slice's spare places count too). A statement '..UptoSaid' is the law's where the arguments, and the package variables that the reading takes, are together of bulk at most 1048576: NARROWER than '..Said'. Prove '..Said' where nothing that the law and all that it calls make is longer than what came in: it says more and counts as full. Else prove '..UptoSaid'. A law counts once. -/
mutual
def uptoBulk {H : Type} : DataW H → Nat
  | .lit (.string bytes) => bytes.length + 1
  | .lit _ => 1
  | .nil => 1
  | .ptr d => uptoBulk d + 1
  | .slice elems spare => uptoBulkAll elems + uptoBulkAll spare + 1
  | .agg parts => uptoBulkAll parts + 1
  | .iface _ d => uptoBulk d + 1
  | .map entries => uptoBulkEntries entries + 1
  | .held _ => 1
def uptoBulkAll {H : Type} : List (DataW H) → Nat
  | [] => 0
  | d :: r => uptoBulk d + uptoBulkAll r
def uptoBulkEntries {H : Type} : List (Lit × DataW H) → Nat
  | [] => 0
  | x :: r => uptoBulkEntry x + uptoBulkEntries r
def uptoBulkEntry {H : Type} : Lit × DataW H → Nat
  | (.string bytes, d) => bytes.length + uptoBulk d + 1
  | (_, d) => uptoBulk d + 1
 end
def uptoSmall : (H : Type) → List (DataW H) → Bool := fun _ ds => decide (uptoBulkAll ds ≤ 1048576)
def OpenSpec.upto (s : _root_.Go.ChangeSpec) : _root_.Go.OpenSpec := { _root_.Go.OpenSpec.ofChange s with cond := some uptoSmall }

/-- 'quoinlaw18.PullParses', WHERE WHAT IT READS IS OF BULK AT MOST 1048576: true; the input reads as it did. -/
def pullParsesUptoRow : OpenClaim := { program := "ytbbdljhpjomclaa", sum := "e2b323a01e0e9db980c0b03e244f69bdb41538da10e63a1eca5624422f3791b0", func := "quoin/quoinlaw18.PullParses", spec := "pullParses", recurses := true, loops := true, apart := false, narrowed := true }
def PullParsesUptoSaid : Prop := pullParsesUptoRow.holds Try.pinned (OpenSpec.upto pullParsesSpec)

/-- 'quoinlaw18.PullAhead', WHERE WHAT IT READS IS OF BULK AT MOST 1048576: true; the input reads as it did. -/
def pullAheadUptoRow : OpenClaim := { program := "ytbbdljhpjomclaa", sum := "e2b323a01e0e9db980c0b03e244f69bdb41538da10e63a1eca5624422f3791b0", func := "quoin/quoinlaw18.PullAhead", spec := "pullAhead", recurses := true, loops := true, apart := false, narrowed := true }
def PullAheadUptoSaid : Prop := pullAheadUptoRow.holds Try.pinned (OpenSpec.upto pullAheadSpec)

/-- 'quoinlaw18.PullNexts', WHERE WHAT IT READS IS OF BULK AT MOST 1048576: true; the input reads as it did. -/
def pullNextsUptoRow : OpenClaim := { program := "ytbbdljhpjomclaa", sum := "e2b323a01e0e9db980c0b03e244f69bdb41538da10e63a1eca5624422f3791b0", func := "quoin/quoinlaw18.PullNexts", spec := "pullNexts", recurses := true, loops := true, apart := false, narrowed := true }
def PullNextsUptoSaid : Prop := pullNextsUptoRow.holds Try.pinned (OpenSpec.upto pullNextsSpec)

/-- 'quoinlaw18.PullOwn', WHERE WHAT IT READS IS OF BULK AT MOST 1048576: true; the input reads as it did. -/
def pullOwnUptoRow : OpenClaim := { program := "ytbbdljhpjomclaa", sum := "e2b323a01e0e9db980c0b03e244f69bdb41538da10e63a1eca5624422f3791b0", func := "quoin/quoinlaw18.PullOwn", spec := "pullOwn", recurses := true, loops := true, apart := false, narrowed := true }
def PullOwnUptoSaid : Prop := pullOwnUptoRow.holds Try.pinned (OpenSpec.upto pullOwnSpec)

end Rows
end Go.Proofs.Ytbbdljhpjomclaa
