/-
  The plain law of TextThere: the place of a byte at which a piece begins leads back to that byte. For every text of at most 2^47 - 4096 bytes and every number.
-/
import Derived.Test.YthiiigbifimckaaPtx16
import Derived.Test.YthiiigbifimckaaTxi
namespace Go.Proofs.Ythiiigbifimckaa.Pure
open Go.RowKit Go.Proofs.Ythiiigbifimckaa.Pt Go.Proofs.YthiiigbifimckaaW.PrintWords Go.Proofs.YthiiigbifimckaaW.PrintLast Go.Proofs.Ythiiigbifimckaa.Tx
set_option linter.unusedVariables false

theorem there_all (s : ByteArray) (fr : Int) (hs : s.size ≤ 140737488351232) (hf : fr ≤ s.size) (d : Nat) : ∀ (i : Nat), i ≤ s.size → s.size - i = d → (∀ a, Rch s a i → Rch s a 0) → Ev (fun k => quoinlaw01_TextThere.l0 k s fr i) true := by
  induction d using Nat.strongRecOn with
  | _ d ih =>
    intro i h1 h2 h3
    by_cases h : (i : Int) < fr
    · obtain ⟨p1, p2, p3⟩ := pc_size s i (by omega)
      rw [wd_pc] at p1 p2 p3
      refine Ev.step (f := fun k => quoinlaw01_TextThere.l0 k s fr ((i + wd s i : Nat) : Int)) (fun k => ?_) (ih (s.size - (i + wd s i)) (by omega) (i + wd s i) (by omega) rfl (fun a hr => h3 a (Rch.on (by omega) hr)))
      simp only [quoinlaw01_TextThere.l0]
      rw [if_pos h, next_eq, Option.bind_some, nx_in s i (by omega), wd_pc, if_neg (by omega), if_neg (by omega), w64 (by omega) (by omega)]
      congr 1
    · refine Ev.step (f := fun _ => some true) (fun k => ?_) (Ev.now _)
      simp only [quoinlaw01_TextThere.l0]
      rw [if_neg h, at_eq s i hs h1, Option.bind_some, by_eq s _ _ hs, Option.bind_some, back_at s i h1 (h3 i Rch.here)]
      rw [if_pos (by omega), if_pos rfl, if_pos rfl, if_pos rfl, alive_true]
      rfl

theorem TextThere : quoinlaw01_TextThere.Pure := by
  intro s a hs ha
  refine Ev.rounds (there_all s (mn (mx a 0) (s.size : Int)) hs ?_ s.size 0 (Nat.zero_le _) rfl (fun _ h => h))
  unfold mn mx
  repeat' split
  all_goals omega

end Go.Proofs.Ythiiigbifimckaa.Pure
