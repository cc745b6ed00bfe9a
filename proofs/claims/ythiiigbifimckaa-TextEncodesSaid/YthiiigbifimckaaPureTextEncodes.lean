/-
  The plain law of TextEncodes: any numbers are written as the runes that they are, or the first that is none is told. For every number and every row of numbers that takes at most 2^47 - 4096 bytes.
-/
import Derived.Test.YthiiigbifimckaaPtx3
import Derived.Test.YthiiigbifimckaaTxf
namespace Go.Proofs.Ythiiigbifimckaa.Pure
open Go.RowKit Go.Proofs.Ythiiigbifimckaa.Pt Go.Proofs.YthiiigbifimckaaW.PrintWords Go.Proofs.YthiiigbifimckaaW.PrintLast Go.Proofs.Ythiiigbifimckaa.Tx
theorem TextEncodes : quoinlaw01_TextEncodes.Pure := by
  intro r l _ _ hl _
  have hl' : l.length ≤ 35184372087808 := by omega
  unfold quoinlaw01_TextEncodes.f
  refine Ev.rounds ?_
  refine Ev.some_bind (encode_eq r) ?_
  refine Ev.some_bind ((rencode_eq r).trans (encode_eq r)) ?_
  refine Ev.some_bind (join_eq l hl') ?_
  refine Ev.bind (rjoin_ev l hl') ?_
  refine Ev.pos rfl (Ev.pos rfl (Ev.pos rfl (Ev.pos rfl (Ev.pos rfl ?_))))
  rw [alive_true]
  exact Ev.now _
end Go.Proofs.Ythiiigbifimckaa.Pure
