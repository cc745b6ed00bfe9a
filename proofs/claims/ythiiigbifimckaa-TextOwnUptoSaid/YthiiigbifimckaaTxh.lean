/-
  Plain facts: runes joined are the text that they were read of, and what is joined is read as the runes.
-/
import Derived.Test.YthiiigbifimckaaTxg
namespace Go.Proofs.Ythiiigbifimckaa.Tx
open Go.RowKit Go.Proofs.YthiiigbifimckaaW.PrintWords Go.Proofs.YthiiigbifimckaaW.PrintLast Go.Proofs.YthiiigbifimckaaW.PrintMore Go.Proofs.Ythiiigbifimckaa.Pt
set_option linter.unusedVariables false
set_option linter.unusedSimpArgs false

/-- a valid piece's bytes are its rune's -/
theorem good_bytes {s : ByteArray} {i : Nat} (hi : i < s.size) (h : ¬ Utf8.decode s i = (65533, 1)) :
    Utf8.valid ((Utf8.decode s i).1 : Int) = true ∧ (Utf8.encode ((Utf8.decode s i).1 : Int)).data.toList = (s.data.toList.drop i).take (Utf8.decode s i).2 := by
  rcases dec_cases s i hi with ⟨hp, hl⟩ | hb
  · have hr := hp.1
    refine ⟨(valid_iff _).2 hr, ?_⟩
    rw [encode_list _ hr, hl]
    exact (((pre_iff s i _ hr).1 hp).2).symm
  · exact absurd hb h

theorem runesP_snd (s : ByteArray) : ∀ (d i : Nat) (a b : List Int), (runesP s d i a).2 = (runesP s d i b).2 := by
  intro d
  induction d with
  | zero => intro i a b; rfl
  | succ d ih =>
    intro i a b
    simp only [runesP]
    by_cases h1 : i < s.size
    · rw [if_pos h1, if_pos h1]
      by_cases h2 : Utf8.decode s i = (65533, 1)
      · rw [if_pos h2, if_pos h2]
      · rw [if_neg h2, if_neg h2]; exact ih _ _ _
    · rw [if_neg h1, if_neg h1]
theorem runesP_acc (s : ByteArray) : ∀ (d i : Nat) (acc : List Int), (runesP s d i []).2.1 = 0 → runesP s d i acc = (acc ++ (runesP s d i []).1, 0, 0) := by
  intro d
  induction d with
  | zero => intro i acc _; simp [runesP]
  | succ d ih =>
    intro i acc h
    simp only [runesP] at h ⊢
    by_cases h1 : i < s.size
    · rw [if_pos h1] at h
      rw [if_pos h1, if_pos h1]
      by_cases h2 : Utf8.decode s i = (65533, 1)
      · rw [if_pos h2] at h; simp at h
      · rw [if_neg h2] at h
        rw [if_neg h2, if_neg h2]
        have h0 : (runesP s d (i + (Utf8.decode s i).2) []).2.1 = 0 := by
          rw [runesP_snd s d _ [] ([] ++ [((Utf8.decode s i).1 : Int)])]; exact h
        rw [ih _ (acc ++ _) h0, ih _ ([] ++ _) h0]
        simp
    · rw [if_neg h1, if_neg h1]
      simp

theorem join_back (s : ByteArray) : ∀ (d i j : Nat) (out : List UInt8), i ≤ s.size → s.size - i ≤ d → (runesP s d i []).2.1 = 0 →
    joinP (runesP s d i []).1 j out = (out ++ s.data.toList.drop i, 0, 0) := by
  intro d
  induction d with
  | zero =>
    intro i j out hi hd _
    simp only [runesP, joinP]
    rw [List.drop_eq_nil_of_le (by rw [data_length]; omega), List.append_nil]
  | succ d ih =>
    intro i j out hi hd h
    by_cases h1 : i < s.size
    · obtain ⟨hw, hw2⟩ := dec_pos s i h1
      simp only [runesP] at h ⊢
      rw [if_pos h1] at h ⊢
      by_cases h2 : Utf8.decode s i = (65533, 1)
      · rw [if_pos h2] at h; simp at h
      · rw [if_neg h2] at h ⊢
        have h0 : (runesP s d (i + (Utf8.decode s i).2) []).2.1 = 0 := by
          rw [runesP_snd s d _ [] ([] ++ [((Utf8.decode s i).1 : Int)])]; exact h
        obtain ⟨g1, g2⟩ := good_bytes h1 h2
        rw [runesP_acc s d _ _ h0]
        simp only [List.nil_append, List.cons_append, joinP]
        have e : (s.data.toList.drop i).take (Utf8.decode s i).2 ++ s.data.toList.drop (i + (Utf8.decode s i).2) = s.data.toList.drop i := by
          have e2 : s.data.toList.drop (i + (Utf8.decode s i).2) = (s.data.toList.drop i).drop (Utf8.decode s i).2 := (List.drop_drop ..).symm
          rw [e2, List.take_append_drop]
        rw [if_pos g1, g2, ih _ _ _ hw2 (by omega) h0, List.append_assoc, e]
    · simp only [runesP]
      rw [if_neg h1]
      simp only [joinP]
      rw [List.drop_eq_nil_of_le (by rw [data_length]; omega), List.append_nil]

def flat (l : List Int) : List UInt8 := l.flatMap fun r => (Utf8.encode r).data.toList
theorem joinP_all : ∀ (l : List Int) (j : Nat) (out : List UInt8), (∀ r ∈ l, Utf8.valid r = true) → joinP l j out = (out ++ flat l, 0, 0) := by
  intro l
  induction l with
  | nil => intro j out _; simp [joinP, flat]
  | cons r rs ih =>
    intro j out h
    simp only [joinP]
    rw [if_pos (h r (by simp)), ih _ _ (fun x hx => h x (by simp [hx]))]
    simp [flat]
theorem joinP_cases : ∀ (l : List Int) (j : Nat) (out : List UInt8), (∀ r ∈ l, Utf8.valid r = true) ∨ ((joinP l j out).1 = [] ∧ (joinP l j out).2.1 = 11) := by
  intro l
  induction l with
  | nil => intro j out; exact .inl (by simp)
  | cons r rs ih =>
    intro j out
    simp only [joinP]
    by_cases h : Utf8.valid r = true
    · rw [if_pos h]
      rcases ih (j + 1) (out ++ (Utf8.encode r).data.toList) with h2 | h2
      · exact .inl (by intro x hx; rcases List.mem_cons.1 hx with rfl | hx; exact h; exact h2 x hx)
      · exact .inr h2
    · rw [if_neg h]; exact .inr ⟨rfl, rfl⟩

theorem read_back (s : ByteArray) : ∀ (l : List Int) (pre : List UInt8) (d : Nat) (acc : List Int), (∀ r ∈ l, Utf8.valid r = true) → s.data.toList = pre ++ flat l → s.size - pre.length ≤ d →
    runesP s d pre.length acc = (acc ++ l, 0, 0) := by
  intro l
  induction l with
  | nil =>
    intro pre d acc _ h hd
    have hz : s.size = pre.length := by rw [← data_length, h]; simp [flat]
    cases d with
    | zero => simp [runesP]
    | succ d => simp only [runesP]; rw [if_neg (by omega), List.append_nil]
  | cons r rs ih =>
    intro pre d acc hv h hd
    obtain ⟨v, rfl, hr⟩ := valid_nat (hv r (by simp))
    have he := encode_list v hr
    have hlen := enc_len v
    have hs : s.data.toList = pre ++ ((enc v).map UInt8.ofNat ++ flat rs) := by rw [h]; simp [flat, he]
    have hz : s.size = pre.length + ((enc v).length + (flat rs).length) := by rw [← data_length, hs]; simp
    have hp : Pre s pre.length v := by
      rw [pre_iff s _ v hr]
      refine ⟨by omega, ?_⟩
      rw [hs, List.drop_left, List.take_left' (by simp)]
    have hdec := dec_of hp
    obtain ⟨d, rfl⟩ : ∃ m, d = m + 1 := ⟨d - 1, by omega⟩
    simp only [runesP]
    rw [if_pos (by omega), if_neg (fun e => no_pre e hp), hdec]
    have := ih (pre ++ (enc v).map UInt8.ofNat) d (acc ++ [(v : Int)]) (fun x hx => hv x (by simp [hx])) (by rw [hs, List.append_assoc]) (by simp; omega)
    rw [List.length_append, List.length_map] at this
    rw [this]
    simp
end Go.Proofs.Ythiiigbifimckaa.Tx
