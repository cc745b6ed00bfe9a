/-
  The plain law of TextQuotes: any value is quoted, and any text unquoted, as the document says, from any byte on. For every two texts of at most 2^47 - 4096 bytes and every number.
-/
import Derived.Test.YthiiigbifimckaaPtx13
import Derived.Test.YthiiigbifimckaaTxo
import Derived.Test.YthiiigbifimckaaTxe
namespace Go.Proofs.Ythiiigbifimckaa.Pure
open Go.RowKit Go.Proofs.Ythiiigbifimckaa.Pt Go.Proofs.YthiiigbifimckaaW.PrintWords Go.Proofs.YthiiigbifimckaaW.PrintLast Go.Proofs.Ythiiigbifimckaa.Tx
set_option linter.unusedVariables false

theorem TextQuotes : quoinlaw01_TextQuotes.Pure := by
  intro v s a hv hs ha
  refine Ev.rounds (g := fun k => quoinlaw01_TextQuotes.f k v s a) ?_
  unfold quoinlaw01_TextQuotes.f
  refine Ev.some_bind (quote_eq v) ?_
  refine Ev.bind (rquote_ev v) ?_
  refine Ev.some_bind (unquote_eq s hs) ?_
  refine Ev.bind (runquote_ev s hs) ?_
  refine Ev.some_bind (quoted_eq s a hs) ?_
  refine Ev.bind (rquoted_ev s a hs) ?_
  rw [qu_rq]
  have fin : Ev (fun _ => (quoinlaw01_alive.f).bind fun t => some t) true := Ev.some_bind alive_true (Ev.now _)
  by_cases h : (rquF s a).2.2 = 0
  · exact Ev.pos h (Ev.pos rfl (Ev.pos rfl (Ev.pos rfl (Ev.pos rfl (Ev.pos rfl (Ev.pos rfl (Ev.pos (by simp [h]) fin)))))))
  · exact Ev.neg h (Ev.pos rfl (Ev.pos rfl (Ev.pos rfl (Ev.pos rfl (Ev.pos rfl (Ev.pos rfl (Ev.pos (by simp [h]) fin)))))))

end Go.Proofs.Ythiiigbifimckaa.Pure
