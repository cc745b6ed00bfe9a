/-
  The plain law of TextBack: runes are joined to the text that they are of, and read of the text that they make. For a text of at most 1048576 bytes and a row of at most 1048576 numbers.
-/
import Derived.Test.YthiiigbifimckaaPtx6
import Derived.Test.YthiiigbifimckaaTxh
namespace Go.Proofs.Ythiiigbifimckaa.Pure
open Go.RowKit Go.Proofs.Ythiiigbifimckaa.Pt Go.Proofs.YthiiigbifimckaaW.PrintWords Go.Proofs.YthiiigbifimckaaW.PrintLast Go.Proofs.Ythiiigbifimckaa.Tx
set_option linter.unusedVariables false
theorem back_list (l : List Int) (hl : l.length ≤ 1048576) : Ev (fun k => quoinlaw01_TextBack.j0 k l) true := by
  have hl' : l.length ≤ 35184372087808 := by omega
  rcases joinP_cases l 0 [] with hv | ⟨h1, h2⟩
  · have hj := joinP_all l 0 [] hv
    have hje := join_eq l hl'
    rw [hj] at hje
    simp only [List.nil_append] at hje
    obtain ⟨t, ht⟩ : ∃ t : ByteArray, t = ⟨(flat l).toArray⟩ := ⟨_, rfl⟩
    rw [← ht] at hje
    have htl : t.data.toList = [] ++ flat l := by rw [ht]; simp
    have hflat : ∀ l : List Int, (flat l).length ≤ 4 * l.length := by
      intro l
      induction l with
      | nil => simp [flat]
      | cons r rs ih =>
        have := encode_le4 r
        have e : (flat (r :: rs)) = (Utf8.encode r).data.toList ++ flat rs := by simp [flat]
        rw [e, List.length_append, data_length, List.length_cons]
        omega
    have hts : t.size ≤ 35184372087808 := by
      have := hflat l
      have e : t.size = (flat l).length := by rw [← data_length, htl]; simp
      omega
    have hrb := read_back t l [] t.size [] hv htl (by simp)
    simp only [List.length_nil, List.nil_append] at hrb
    have hru := runes_eq t hts
    have hva := valid_eq t
    rw [hrb] at hru hva
    refine Ev.step (f := fun k => (quoinref01_Same.f k l l).bind fun t215 => some true) (fun k => ?_) (Ev.bind (same_ev l (by omega)) (Ev.now _))
    simp only [quoinlaw01_TextBack.j0]
    rw [hje, Option.bind_some, if_neg (by simp), hru, Option.bind_some, if_pos (by simp)]
    cases hc : quoinref01_Same.f k l l with
    | none => rfl
    | some b =>
      rw [Option.bind_some, Option.bind_some]
      cases b with
      | true => rw [if_pos rfl, hva, Option.bind_some, if_pos (by simp), alive_true]; rfl
      | false =>
        exfalso
        have e1 := same_ev l (show l.length ≤ 9223372036854775806 by omega)
        obtain ⟨K, hK⟩ := e1
        have m1 := at_rounds (g := fun k => quoinref01_Same.f k l l) (fun k => quoinref01_Same.mono l l k) (Nat.le_max_left k K) hc
        have m2 : quoinref01_Same.f (max k K) l l = some true := hK _ (Nat.le_max_right k K)
        rw [m2] at m1
        simp at m1
  · refine Ev.step (f := fun _ => some true) (fun k => ?_) (Ev.now _)
    simp only [quoinlaw01_TextBack.j0]
    rw [join_eq l hl', Option.bind_some, h1, h2, if_pos (by simp), if_pos (by rw [ByteArray.toList_mk]), alive_true]
    rfl
theorem TextBack_upto (s : ByteArray) (l : List Int) (hs : s.size ≤ 1048576) (hl : l.length ≤ 1048576) (_hw : ∀ x ∈ l, (Lit.int .i32 x).wf = true) : ∃ k, quoinlaw01_TextBack.f k s l = some true := by
  have hs' : s.size ≤ 35184372087808 := by omega
  have hlen := runesP_len s s.size 0 [] (Nat.zero_le _) (Nat.zero_le _)
  unfold quoinlaw01_TextBack.f
  refine Ev.rounds ?_
  refine Ev.some_bind (runes_eq s hs') ?_
  by_cases h : (runesP s s.size 0 []).2.1 = 0
  · have h2 := runesP_none s _ _ _ h
    have hb := join_back s s.size 0 0 [] (Nat.zero_le _) (Nat.le_refl _) h
    refine Ev.pos (by rw [h, h2]; rfl) ?_
    refine Ev.some_bind (join_eq _ (by omega)) ?_
    rw [hb]
    refine Ev.pos (by rw [ByteArray.toList_mk, ByteArray.toList_eq]; simp) (Ev.neg (by simp) (back_list l hl))
  · have h2 := runesP_bad s _ _ _ h
    refine Ev.neg (by simp [h]) (Ev.pos (by rw [h2.1]; rfl) (back_list l hl))
end Go.Proofs.Ythiiigbifimckaa.Pure
