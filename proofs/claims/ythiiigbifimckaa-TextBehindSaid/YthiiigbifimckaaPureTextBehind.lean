/-
  The plain law of TextBehind: what stands ahead of a byte at which a piece begins has no part in the pieces behind it. For every two texts of at most 2^47 - 4096 bytes and every number.
-/
import Derived.Test.YthiiigbifimckaaPtx3
import Derived.Test.YthiiigbifimckaaTxe
namespace Go.Proofs.Ythiiigbifimckaa.Pure
open Go.RowKit Go.Proofs.Ythiiigbifimckaa.Pt Go.Proofs.YthiiigbifimckaaW.PrintWords Go.Proofs.YthiiigbifimckaaW.PrintLast Go.Proofs.Ythiiigbifimckaa.Tx

theorem behind_append (a s : ByteArray) (i : Nat) (hi : i ≤ s.size) : nx (a ++ s.extract i s.size) a.size = nx s i := by
  have hsz : (a ++ s.extract i s.size).size = a.size + (s.size - i) := by simp
  by_cases h : i < s.size
  · rw [nx_in s i h, nx_in _ _ (by rw [hsz]; omega)]
    rw [← pc_extract (a ++ s.extract i s.size) a.size, ← pc_extract s i]
    congr 1
    have : (a ++ s.extract i s.size).extract a.size (a ++ s.extract i s.size).size = s.extract i s.size := by
      apply ByteArray.ext
      apply Array.ext'
      rw [ext_list, List.take_of_length_le (by rw [List.length_drop, data_length]; exact Nat.le_refl _)]
      rw [ByteArray.data_append, Array.toList_append]
      exact List.drop_left' (data_length a)
    exact this
  · unfold nx
    rw [if_neg (by rw [hsz]; omega), if_neg (by omega)]

theorem behind_cut (s : ByteArray) (i : Nat) (hi : i ≤ s.size) : nx (s.extract i s.size) 0 = nx s i := by
  have hsz : (s.extract i s.size).size = s.size - i := by simp
  by_cases h : i < s.size
  · rw [nx_in s i h]
    have := nx_in (s.extract i s.size) 0 (by omega)
    rw [show ((0 : Nat) : Int) = 0 from rfl] at this
    rw [this, pc_extract]
  · unfold nx
    rw [if_neg (by omega), if_neg (by omega)]

theorem behind_end (s a : ByteArray) (n : Int) (hs : s.size ≤ 140737488351232) (ha : a.size ≤ 140737488351232) (i : Int) (at_ : Nat) (h : at_ ≤ s.size) : Ev (fun k => quoinlaw01_TextBehind.j1 k s a n at_ i false) true := by
  have e1 := behind_cut s at_ h
  have e2 := behind_append a s at_ h
  refine Ev.step (f := fun _ => some true) (fun k => ?_) (Ev.now _)
  simp only [quoinlaw01_TextBehind.j1]
  rw [if_neg (by simp), next_eq, Option.bind_some, if_pos (by omega), if_pos (by omega), Int.toNat_natCast, next_eq, Option.bind_some, if_pos (by simp; omega), next_eq, Option.bind_some, e1, e2]
  rw [if_pos rfl, if_pos rfl, if_pos (by simp), if_pos rfl, if_pos rfl, if_pos (by simp), alive_true]
  rfl

theorem behind_all (s a : ByteArray) (n : Int) (hs : s.size ≤ 140737488351232) (ha : a.size ≤ 140737488351232) (hn : n ≤ 9223372036854775807) (d : Nat) : ∀ (at_ : Nat) (i : Int), at_ ≤ s.size → s.size - at_ = d → 0 ≤ i → Ev (fun k => quoinlaw01_TextBehind.l0 k s a n at_ i) true := by
  induction d using Nat.strongRecOn with
  | _ d ih =>
    intro at_ i h hd hi
    by_cases h1 : i < n
    · by_cases h2 : at_ < s.size
      · refine Ev.step (f := fun k => quoinlaw01_TextBehind.j1 k s a n at_ i true) (fun k => ?_) ?_
        · simp only [quoinlaw01_TextBehind.l0]
          rw [if_pos h1, decide_eq_true (by omega)]
        obtain ⟨p1, p2, p3⟩ := pc_size s at_ h2
        obtain ⟨m, hm⟩ : ∃ m : Nat, (pc s at_).2.1 = m := ⟨(pc s at_).2.1.toNat, by omega⟩
        refine Ev.step (f := fun k => quoinlaw01_TextBehind.l0 k s a n ((at_ + m : Nat) : Int) (i + 1)) (fun k => ?_) (ih (s.size - (at_ + m)) (by omega) (at_ + m) (i + 1) (by omega) rfl (by omega))
        simp only [quoinlaw01_TextBehind.j1]
        rw [if_pos trivial, next_eq, Option.bind_some, nx_in s at_ h2, if_neg (by omega), hm, w64 (by omega) (by omega), w64 (by omega) (by omega)]
        rfl
      · refine Ev.step (f := fun k => quoinlaw01_TextBehind.j1 k s a n at_ i false) (fun k => ?_) (behind_end s a n hs ha i at_ h)
        simp only [quoinlaw01_TextBehind.l0]
        rw [if_pos h1, decide_eq_false (by omega)]
    · refine Ev.step (f := fun k => quoinlaw01_TextBehind.j1 k s a n at_ i false) (fun k => ?_) (behind_end s a n hs ha i at_ h)
      simp only [quoinlaw01_TextBehind.l0]
      rw [if_neg h1]

theorem TextBehind : quoinlaw01_TextBehind.Pure := by
  intro s a n hs ha hn
  obtain ⟨_, h2⟩ := wf64 hn
  exact Ev.rounds (behind_all s a n hs ha h2 s.size 0 0 (Nat.zero_le _) rfl (Int.le_refl _))

end Go.Proofs.Ythiiigbifimckaa.Pure
