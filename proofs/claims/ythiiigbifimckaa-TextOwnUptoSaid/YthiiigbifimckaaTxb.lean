/-
 Plain facts on texts as lists of bytes: cutting a text, its runes' bytes, and the decoder behind a cut.
-/
import Derived.Test.YthiiigbifimckaaTxa
import Derived.Test.YthiiigbifimckaaWWords
import Derived.Laws.Strings
import Derived.Lib.Strings
namespace Go.Proofs.Ythiiigbifimckaa.Tx
open Go.RowKit Go.Proofs.YthiiigbifimckaaW.PrintWords

theorem byt_list (s : ByteArray) (i : Nat) : byt s i = (s.data.toList.getD i 0).toNat := by
 have h : s.get! i = s.data.toList.getD i 0 := by
  show s.data[i]! = _
  rw [List.getD_eq_getElem?_getD, Array.getElem?_toList]
  simp only [getElem!_def]
  cases s.data[i]? <;> rfl
 rw [byt, h]
theorem byt_out (s : ByteArray) (i : Nat) (h : s.size ≤ i) : byt s i = 0 := by
 rw [byt_list, List.getD_eq_getElem?_getD, List.getElem?_eq_none (by rw [data_length]; exact h)]
 rfl
theorem ext_list (s : ByteArray) (i j : Nat) : (s.extract i j).data.toList = (s.data.toList.drop i).take (j - i) := Lib.extract_data s i j
theorem byt_extract (s : ByteArray) (i k : Nat) : byt (s.extract i s.size) k = byt s (i + k) := by
 rw [byt_list, byt_list, ext_list, List.take_of_length_le (by rw [List.length_drop, data_length]; exact Nat.le_refl _), List.getD_eq_getElem?_getD, List.getElem?_drop, List.getD_eq_getElem?_getD]
theorem dec_extract (s : ByteArray) (i : Nat) : Utf8.decode (s.extract i s.size) 0 = Utf8.decode s i := by
 rw [decode_eq, decode_eq]
 have hs : (s.extract i s.size).size = s.size - i := by simp
 simp only [hs, Nat.zero_add, byt_extract s i _, Nat.add_zero]
 have e : ∀ k, (decide (k < s.size - i)) = decide (i + k < s.size) := fun k => by
  by_cases h : i + k < s.size
  ·rw [decide_eq_true h, decide_eq_true (by omega)]
  ·rw [decide_eq_false h, decide_eq_false (by omega)]
 rw [e 1, e 2, e 3]
theorem bt_byt (s : ByteArray) (i : Nat) (h : i < s.size) : bt s (i : Int) = (byt s i : Int) := by
 have hl : i < s.data.toList.length := by rw [data_length]; exact h
 rw [byt_list, List.getD_eq_getElem?_getD, List.getElem?_eq_getElem hl]
 simp [bt, h]
 rfl
end Go.Proofs.Ythiiigbifimckaa.Tx
