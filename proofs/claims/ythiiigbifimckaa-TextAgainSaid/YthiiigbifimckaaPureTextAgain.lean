/-
  The plain law of TextAgain: what is quoted is read as the same value, and what is read is quoted so that it is read as the same. For every two texts of at most 2^47 - 4096 bytes.
-/
import Derived.Test.YthiiigbifimckaaPtx14
import Derived.Test.YthiiigbifimckaaTxm
import Derived.Test.YthiiigbifimckaaTxe
namespace Go.Proofs.Ythiiigbifimckaa.Pure
open Go.RowKit Go.Proofs.Ythiiigbifimckaa.Pt Go.Proofs.YthiiigbifimckaaW.PrintWords Go.Proofs.YthiiigbifimckaaW.PrintLast Go.Proofs.Ythiiigbifimckaa.Tx
set_option linter.unusedVariables false

theorem again_j (s : ByteArray) (hs : s.size ≤ 140737488351232) : Ev (fun k => quoinlaw01_TextAgain.j0 k s) true := by
  have fin : ∀ k : Nat, ((quoinlaw01_alive.f).bind fun t => some t) = some true := fun _ => by rw [alive_true]; rfl
  refine Ev.step (f := fun _ => some true) (fun k => ?_) (Ev.now _)
  simp only [quoinlaw01_TextAgain.j0]
  rw [unquote_eq s hs, Option.bind_some]
  rcases unq_cases s with h | ⟨w, h, hw⟩
  · rw [h, if_neg (by decide), if_pos (by simp [ByteArray.toList_eq])]
    exact fin k
  · obtain ⟨b1, b2, b3⟩ := back_quote w hw
    rw [h, if_pos rfl, quote_eq, Option.bind_some, unquote_eq _ (by show (quoF w).1.size ≤ 140737488351232; omega), Option.bind_some, b1, if_pos b2, if_pos rfl, if_pos rfl]
    exact fin k

theorem TextAgain : quoinlaw01_TextAgain.Pure := by
  intro v s hv hs
  refine Ev.rounds (g := fun k => quoinlaw01_TextAgain.f k v s) ?_
  unfold quoinlaw01_TextAgain.f
  refine Ev.some_bind (quote_eq v) ?_
  by_cases h : v.size > 4096
  · have e : quoF v = (⟨#[]⟩, 3) := if_pos h
    rw [e]
    exact Ev.neg (by decide) (Ev.pos rfl (Ev.neg (by omega) (again_j s hs)))
  · obtain ⟨b1, b2, b3⟩ := back_quote v (by omega)
    refine Ev.pos b2 ?_
    refine Ev.some_bind (unquote_eq _ (by omega)) ?_
    rw [b1]
    exact Ev.pos rfl (Ev.pos rfl (again_j s hs))

end Go.Proofs.Ythiiigbifimckaa.Pure
