/-
  The plain law of TextPieces: the piece of any text from any byte on is the document's, and its runes, or the first byte that is none's, are told. For texts of at most 1048576 bytes.
-/
import Derived.Test.YthiiigbifimckaaPtx5
import Derived.Test.YthiiigbifimckaaTxg
namespace Go.Proofs.Ythiiigbifimckaa.Pure
open Go.RowKit Go.Proofs.Ythiiigbifimckaa.Pt Go.Proofs.YthiiigbifimckaaW.PrintWords Go.Proofs.YthiiigbifimckaaW.PrintLast Go.Proofs.Ythiiigbifimckaa.Tx
theorem TextPieces_upto (s : ByteArray) (a : Int) (hs : s.size ≤ 1048576) (_ha : (Lit.int .i64 a).wf = true) : ∃ k, quoinlaw01_TextPieces.f k s a = some true := by
  have hs' : s.size ≤ 35184372087808 := by omega
  have hlen := runesP_len s s.size 0 [] (Nat.zero_le _) (Nat.zero_le _)
  unfold quoinlaw01_TextPieces.f
  refine Ev.rounds ?_
  refine Ev.some_bind (next_eq s a) ?_
  refine Ev.bind (rnext_ev s a (by omega)) ?_
  refine Ev.some_bind (runes_eq s hs') ?_
  refine Ev.bind (rrunes_ev s hs') ?_
  refine Ev.some_bind (valid_eq s) ?_
  refine Ev.pos rfl (Ev.pos rfl (Ev.pos (by simp) ?_))
  refine Ev.bind (same_ev _ (by omega)) ?_
  refine Ev.pos rfl (Ev.pos rfl (Ev.pos rfl (Ev.pos (by simp) ?_)))
  rw [alive_true]
  exact Ev.now _
end Go.Proofs.Ythiiigbifimckaa.Pure
