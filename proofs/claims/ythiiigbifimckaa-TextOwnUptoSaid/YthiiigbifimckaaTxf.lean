/-
 Plain facts: runes joined, by the program and by the document's answer.
-/
import Derived.Test.YthiiigbifimckaaPtx3
import Derived.Test.YthiiigbifimckaaPtx4
import Derived.Test.YthiiigbifimckaaTxe
namespace Go.Proofs.Ythiiigbifimckaa.Tx
open Go.RowKit Go.Proofs.YthiiigbifimckaaW.PrintWords Go.Proofs.YthiiigbifimckaaW.PrintLast Go.Proofs.YthiiigbifimckaaW.PrintMore Go.Proofs.Ythiiigbifimckaa.Pt
set_option linter.unusedVariables false
set_option linter.unusedSimpArgs false

theorem valid_nat {r : Int} (h : Utf8.valid r = true) : ∃ v : Nat, r = v ∧ Rn v := by
 simp only [Utf8.valid, Bool.or_eq_true, Bool.and_eq_true, decide_eq_true_eq] at h
 refine ⟨r.toNat, by omega, by unfold Rn; omega⟩

/-- the bytes of runes, behind acc; the first that is none *)-/
def joinP : List Int → Nat → List UInt8 → List UInt8 × Int × Int
 | [], _, acc => (acc, 0, 0)
 | r :: rs, i, acc => if Utf8.valid r = true then joinP rs (i + 1) (acc ++ (Utf8.encode r).data.toList) else ([], 11, (i : Int))

theorem drop_cons {l rs : List Int} {i : Nat} {r : Int} (h : l.drop i = r :: rs) : i < l.length ∧ rd l i = r ∧ l.drop (i + 1) = rs := by
 have hi : i < l.length := by
  rcases Nat.lt_or_ge i l.length with h1 | h1
  ·exact h1
  ·rw [List.drop_eq_nil_of_le h1] at h; cases h
 rw [List.drop_eq_getElem_cons hi] at h
 injection h with h1 h2
 refine ⟨hi, ?_, h2⟩
 simp [rd, hi, h1]
theorem encode_le4 (r : Int) : (Utf8.encode r).size ≤ 4 := by
 unfold Utf8.encode
 simp only
 repeat' split
 all_goals simp [ByteArray.size]

theorem join_l (l : List Int) (hl : l.length ≤ 35184372087808) : ∀ (rs : List Int) (k i : Nat) (acc : List UInt8), l.drop i = rs → i ≤ l.length → acc.length ≤ 4 * i → rs.length < k →
  text_Join.l l k i acc = some (⟨(joinP rs i acc).1.toArray⟩, (joinP rs i acc).2.1, (joinP rs i acc).2.2) := by
 intro rs
 induction rs with
 | nil =>
  intro k i acc h hi ha hk
  obtain ⟨k, rfl⟩ : ∃ m, k = m + 1 := ⟨k - 1, by omega⟩
  have : l.length ≤ i := by
   have := congrArg List.length h
   rw [List.length_drop, List.length_nil] at this; omega
  simp only [text_Join.l, joinP]
  rw [if_neg (by omega)]
 | cons r rs ih =>
  intro k i acc h hi ha hk
  obtain ⟨k, rfl⟩ : ∃ m, k = m + 1 := ⟨k - 1, by omega⟩
  obtain ⟨h1, h2, h3⟩ := drop_cons h
  have h4 := encode_le4 r
  simp only [text_Join.l, joinP]
  rw [if_pos h1, h2, isRune_eq, Option.bind_some]
  cases hv : Utf8.valid r with
  | true =>
   rw [if_pos rfl, if_pos (by omega), if_pos rfl]
   exact ih k (i + 1) _ h3 (by omega) (by rw [List.length_append, data_length]; omega) (by simp at hk; omega)
  | false =>
   rw [if_neg (by simp), if_neg (by simp)]
theorem join_eq (l : List Int) (hl : l.length ≤ 35184372087808) : text_Join.f l = some (⟨(joinP l 0 []).1.toArray⟩, (joinP l 0 []).2.1, (joinP l 0 []).2.2) := by
 unfold text_Join.f
 exact join_l l hl l (l.length + 1) 0 [] rfl (Nat.zero_le _) (by simp) (by omega)

def ints (l : List UInt8) : List Int := l.map fun b => (b.toNat : Int)
theorem strOf_ints (l : List UInt8) : strOfNums (ints l) = ⟨l.toArray⟩ := by
 unfold strOfNums ints
 rw [List.map_map]
 congr 2
 conv => rhs; rw [← List.map_id l]
 apply List.map_congr_left
 intro b _
 simp
theorem enc_ints (v : Nat) (h : Rn v) : ((enc v).map fun x : Nat => (x : Int)) = ints (Utf8.encode (v : Int)).data.toList := by
 rw [encode_list v h]
 unfold ints
 rw [List.map_map]
 apply List.map_congr_left
 intro x hx
 have := enc_byte v h x hx
 simp
 omega
theorem ints_append (a b : List UInt8) : ints (a ++ b) = ints a ++ ints b := by simp [ints]
theorem ints_length (a : List UInt8) : (ints a).length = a.length := by simp [ints]

theorem rjoin_one (l : List Int) {v : Nat} (hv : Utf8.valid (v : Int) = true) (hr : Rn v) {i : Nat} (h1 : i < l.length) (h2 : rd l i = v) (acc : List UInt8) (k : Nat) :
  quoinref01_Join.l0 (k + 1) l (ints acc) i = if (ints acc).length + (ints (Utf8.encode (v : Int)).data.toList).length < 140737488355328 then quoinref01_Join.l0 k l (ints acc ++ ints (Utf8.encode (v : Int)).data.toList) (wrap64 ((i : Int) + 1)) else none := by
 simp only [quoinref01_Join.l0]
 rw [if_pos (by omega), if_pos (by omega), h2, rune_eq, Option.bind_some, hv, if_pos rfl, bytes_eq v hr, Option.bind_some, enc_ints v hr]
theorem rjoin_l (l : List Int) (hl : l.length ≤ 35184372087808) : ∀ (rs : List Int) (i : Nat) (acc : List UInt8), l.drop i = rs → i ≤ l.length → acc.length ≤ 4 * i →
  Ev (fun k => quoinref01_Join.l0 k l (ints acc) i) ((⟨(joinP rs i acc).1.toArray⟩ : ByteArray), (joinP rs i acc).2.1, (joinP rs i acc).2.2) := by
 intro rs
 induction rs with
 | nil =>
  intro i acc h hi ha
  have : l.length ≤ i := by
   have := congrArg List.length h
   rw [List.length_drop, List.length_nil] at this; omega
  refine Ev.step (f := fun _ => some ((⟨acc.toArray⟩ : ByteArray), 0, 0)) (fun k => ?_) (Ev.now _)
  simp only [quoinref01_Join.l0]
  rw [if_neg (by omega), strOf_ints]
 | cons r rs ih =>
  intro i acc h hi ha
  obtain ⟨h1, h2, h3⟩ := drop_cons h
  have h4 := encode_le4 r
  have e1 : wrap64 ((i : Int) + 1) = ((i + 1 : Nat) : Int) := by rw [w64] <;> omega
  simp only [joinP]
  cases hv : Utf8.valid r with
  | true =>
   rw [if_pos rfl]
   refine Ev.step (f := fun k => quoinref01_Join.l0 k l (ints (acc ++ (Utf8.encode r).data.toList)) ((i + 1 : Nat) : Int)) (fun k => ?_) (ih (i + 1) _ h3 (by omega) (by rw [List.length_append, data_length]; omega))
   obtain ⟨v, rfl, hr⟩ := valid_nat hv
   have hb : (ints acc).length + (ints (Utf8.encode (v : Int)).data.toList).length < 140737488355328 := by rw [ints_length, ints_length, data_length]; omega
   rw [show quoinref01_Join.l0 (k + 1) l (ints acc) i = _ from rjoin_one l hv hr h1 h2 acc k]
   rw [if_pos hb, e1, ints_append]
  | false =>
   rw [if_neg (by simp)]
   refine Ev.step (f := fun _ => some ((⟨#[]⟩ : ByteArray), 11, (i : Int))) (fun k => ?_) (Ev.now _)
   simp only [quoinref01_Join.l0]
   rw [if_pos (by omega), if_pos (by omega), h2, rune_eq, Option.bind_some, hv, if_neg (by simp)]
theorem rjoin_zero (l : List Int) (hl : l.length ≤ 35184372087808) : Ev (fun k => quoinref01_Join.l0 k l (ints []) ((0 : Nat) : Int)) ((⟨(joinP l 0 []).1.toArray⟩ : ByteArray), (joinP l 0 []).2.1, (joinP l 0 []).2.2) :=
 rjoin_l l hl l 0 [] rfl (Nat.zero_le _) (Nat.zero_le _)
theorem rjoin_f (k : Nat) (l : List Int) : quoinref01_Join.f k l = quoinref01_Join.l0 k l (ints []) ((0 : Nat) : Int) := by
 rw [show ints [] = ([] : List Int) from rfl, show ((0 : Nat) : Int) = 0 from rfl]
 rfl
theorem rjoin_ev (l : List Int) (hl : l.length ≤ 35184372087808) : Ev (fun k => quoinref01_Join.f k l) ((⟨(joinP l 0 []).1.toArray⟩ : ByteArray), (joinP l 0 []).2.1, (joinP l 0 []).2.2) :=
 Ev.congr (fun k => rjoin_f k l) (rjoin_zero l hl)

theorem encode_eq (r : Int) : text_Encode.f r = some (if Utf8.valid r = true then (Utf8.encode r, 0) else (⟨#[]⟩, 11)) := by
 unfold text_Encode.f
 rw [isRune_eq, Option.bind_some]
 cases Utf8.valid r <;> rfl
theorem bmk (s : ByteArray) : (⟨s.data.toList.toArray⟩ : ByteArray) = s := by obtain ⟨d⟩ := s; simp
theorem rencode_eq (r : Int) : quoinref01_Encode.f r = text_Encode.f r := by
 rw [encode_eq]
 unfold quoinref01_Encode.f
 rw [rune_eq, Option.bind_some]
 cases hv : Utf8.valid r with
 | true =>
  obtain ⟨v, rfl, hr⟩ := valid_nat hv
  rw [if_pos rfl, if_pos rfl, bytes_eq v hr, Option.bind_some, enc_ints v hr, strOf_ints, bmk]
 | false => rw [if_neg (by simp), if_neg (by simp)]
end Go.Proofs.Ythiiigbifimckaa.Tx
