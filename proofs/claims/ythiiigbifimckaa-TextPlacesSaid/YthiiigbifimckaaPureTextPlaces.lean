/-
  The plain law of TextPlaces: any byte of any text has the document's line and column, and any line and column the document's byte. For every text of at most 2^47 - 4096 bytes and every three numbers.
-/
import Derived.Test.YthiiigbifimckaaPtx16
import Derived.Test.YthiiigbifimckaaTxi
namespace Go.Proofs.Ythiiigbifimckaa.Pure
open Go.RowKit Go.Proofs.Ythiiigbifimckaa.Pt Go.Proofs.YthiiigbifimckaaW.PrintWords Go.Proofs.YthiiigbifimckaaW.PrintLast Go.Proofs.Ythiiigbifimckaa.Tx
set_option linter.unusedVariables false

theorem places_ev (s : ByteArray) (a l c : Int) (hs : s.size ≤ 140737488351232) : Ev (fun k => quoinlaw01_TextPlaces.f k s a l c) true := by
  have key : ∀ x y z : Int, text_At.f s a = some (x, y, z) → Ev (fun k => quoinref01_At.f k s a) (x, y, z) → Ev (fun k => quoinlaw01_TextPlaces.f k s a l c) true := by
    intro x y z h1 h2
    unfold quoinlaw01_TextPlaces.f
    refine Ev.some_bind h1 ?_
    refine Ev.bind h2 ?_
    refine Ev.some_bind (by_eq s l c hs) ?_
    refine Ev.bind (rby_ev s l c hs) ?_
    refine Ev.pos (by simp) (Ev.pos rfl (Ev.pos rfl (Ev.pos rfl ?_)))
    exact Ev.some_bind alive_true (Ev.now _)
  by_cases h : a < 0 ∨ (s.size : Int) < a
  · exact key _ _ _ (at_no s a h) (rat_no s a h)
  · obtain ⟨n, rfl⟩ : ∃ n : Nat, a = n := ⟨a.toNat, by omega⟩
    exact key _ _ _ (at_eq s n hs (by omega)) (rat_ev s n hs (by omega))

theorem TextPlaces (s : ByteArray) (a l c : Int) (hs : s.size ≤ 140737488351232) : ∃ k, quoinlaw01_TextPlaces.f k s a l c = some true := Ev.rounds (places_ev s a l c hs)

end Go.Proofs.Ythiiigbifimckaa.Pure
