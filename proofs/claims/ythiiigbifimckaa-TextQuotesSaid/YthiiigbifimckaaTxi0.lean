/-
 Plain facts: the pieces of a text.
-/
import Derived.Test.YthiiigbifimckaaTxd
namespace Go.Proofs.Ythiiigbifimckaa.Tx
open Go.RowKit Go.Proofs.YthiiigbifimckaaW.PrintWords Go.Proofs.YthiiigbifimckaaW.PrintLast Go.Proofs.YthiiigbifimckaaW.PrintMore Go.Proofs.Ythiiigbifimckaa.Pt
set_option linter.unusedVariables false
set_option linter.unusedSimpArgs false

theorem dec_pos' (s : ByteArray) (i : Nat) (h : i < s.size) : 1 ≤ (Utf8.decode s i).2 ∧ i + (Utf8.decode s i).2 ≤ s.size := by
 rcases dec_cases s i h with ⟨hp, hl⟩ | hb
 ·have := enc_len (Utf8.decode s i).1
  have := hp.2.1
  omega
 ·rw [hb]; simp only; omega
theorem pc_bad' {s : ByteArray} {i : Nat} (h : Utf8.decode s i = (65533, 1)) : pc s i = (0, 1, false) := by unfold pc; rw [if_pos h]
theorem pc_good' {s : ByteArray} {i : Nat} (h : ¬ Utf8.decode s i = (65533, 1)) : pc s i = (((Utf8.decode s i).1 : Int), ((Utf8.decode s i).2 : Int), true) := by unfold pc; rw [if_neg h]
/-- the width of the piece at byte i -/
def wd (s : ByteArray) (i : Nat) : Nat := (Utf8.decode s i).2
/-- n pieces on -/
def st (s : ByteArray) : Nat → Nat → Nat
 | i, 0 => i
 | i, n + 1 => st s (i + wd s i) n
theorem wd_pos (s : ByteArray) (i : Nat) (h : i < s.size) : 1 ≤ wd s i ∧ i + wd s i ≤ s.size := dec_pos' s i h
theorem dec_cut (s : ByteArray) (b p : Nat) : Utf8.decode (s.extract b s.size) p = Utf8.decode s (b + p) := by
 have h := dec_extract (s.extract b s.size) p
 rw [← h, ← dec_extract s (b + p)]
 congr 1
 apply ByteArray.ext
 apply Array.ext'
 rw [ext_list, ext_list, ext_list, List.drop_take, List.drop_drop, List.take_take]
 congr 1
 simp
 omega
theorem wd_pc (s : ByteArray) (i : Nat) : (pc s i).2.1 = (wd s i : Int) := by
 unfold pc wd
 by_cases h : Utf8.decode s i = (65533, 1)
 ·rw [if_pos h, h]; rfl
 ·rw [if_neg h]
/-- inside a piece no newline stands -/
theorem no_nl (s : ByteArray) (i j : Nat) (hi : i < s.size) (h1 : i < j) (h2 : j < i + wd s i) : byt s j ≠ 10 := by
 rcases dec_cases s i hi with ⟨hp, hl⟩ | hb
 ·have hw : wd s i = (enc (Utf8.decode s i).1).length := hl
  obtain ⟨_, _, hb⟩ := hp
  have e := hb (j - i) (by omega)
  rw [show i + (j - i) = j by omega] at e
  rw [e]
  have hlt : j - i < (enc (Utf8.decode s i).1).length := by omega
  revert hlt
  generalize (Utf8.decode s i).1 = v
  have hk : 1 ≤ j - i := by omega
  generalize j - i = k at hk
  unfold enc
  repeat' split
  ·intro hlt; simp at hlt; omega
  all_goals
   intro hlt
   simp at hlt
   rcases k with _ | _ | _ | _ | k
   all_goals (simp at hk hlt ⊢)
   all_goals omega
 ·have : wd s i = 1 := by unfold wd; rw [hb]
  omega
theorem byt_get (s : ByteArray) (i : Nat) (h : i < s.data.toList.length) : byt s i = (s.data.toList[i]).toNat := by
 rw [byt_list, List.getD_eq_getElem?_getD, List.getElem?_eq_getElem h, Option.getD_some]
end Go.Proofs.Ythiiigbifimckaa.Tx
