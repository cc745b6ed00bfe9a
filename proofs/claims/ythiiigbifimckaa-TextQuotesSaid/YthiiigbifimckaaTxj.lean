/-
 Plain facts: what an escape stands for, by the program.
-/
import Derived.Test.YthiiigbifimckaaPtx9
import Derived.Test.YthiiigbifimckaaTxf
import Derived.Test.YthiiigbifimckaaTxi0
namespace Go.Proofs.Ythiiigbifimckaa.Tx
open Go.RowKit Go.Proofs.YthiiigbifimckaaW.PrintWords Go.Proofs.YthiiigbifimckaaW.PrintLast Go.Proofs.YthiiigbifimckaaW.PrintMore Go.Proofs.Ythiiigbifimckaa.Pt
set_option linter.unusedVariables false
set_option linter.unusedSimpArgs false

instance (v : Nat) : Decidable (Rn v) := by unfold Rn; infer_instance
/-- a digit's number, or -1 -/
def hx (b : Nat) : Int := if 48 ≤ b ∧ b ≤ 57 then (b : Int) - 48 else if 97 ≤ b ∧ b ≤ 102 then (b : Int) - 87 else -1
theorem hx_lt (b : Nat) : -1 ≤ hx b ∧ hx b ≤ 15 := by unfold hx; split; omega; split <;> omega
theorem hx_tbl : ∀ b : Fin 256, Lib.indexByte [48, 49, 50, 51, 52, 53, 54, 55, 56, 57, 97, 98, 99, 100, 101, 102] b.val.toUInt8 = hx b.val := by decide +kernel
theorem idx_hx (s : ByteArray) (i : Nat) (h : i < s.size) : strings_IndexByte.f (⟨#[48, 49, 50, 51, 52, 53, 54, 55, 56, 57, 97, 98, 99, 100, 101, 102]⟩ : ByteArray) (bt s i) = some (hx (byt s i)) := by
 unfold strings_IndexByte.f
 rw [bt_byt s i h, Int.toNat_natCast]
 exact congrArg some (hx_tbl ⟨byt s i, byt_lt s i⟩)
/-- at most m digits from byte i on: their number, and how many -/
def dgs (s : ByteArray) : Nat → Nat → Nat → Nat → Nat × Nat
 | 0, _, n, k => (n, k)
 | m + 1, i, n, k => if i < s.size ∧ 0 ≤ hx (byt s i) then dgs s m (i + 1) (16 * n + (hx (byt s i)).toNat) (k + 1) else (n, k)
theorem dgs_count (s : ByteArray) : ∀ m i n k, k ≤ (dgs s m i n k).2 ∧ (dgs s m i n k).2 ≤ k + m
 | 0, i, n, k => by simp [dgs]
 | m + 1, i, n, k => by
  unfold dgs
  split
  ·have := dgs_count s m (i + 1) (16 * n + (hx (byt s i)).toNat) (k + 1); omega
  ·simp
theorem dgs_lt (s : ByteArray) : ∀ m i n k c, n < c → (dgs s m i n k).1 < 16 ^ m * c
 | 0, i, n, k, c, h => by simpa [dgs] using h
 | m + 1, i, n, k, c, h => by
  unfold dgs
  split
  ·have h2 := hx_lt (byt s i)
   have := dgs_lt s m (i + 1) (16 * n + (hx (byt s i)).toNat) (k + 1) (16 * c) (by omega)
   rw [Nat.pow_succ, Nat.mul_assoc]
   exact this
  ·have : 1 ≤ 16 ^ (m + 1) := Nat.pow_pos (by omega)
   calc n < c := h
    _ = 1 * c := (Nat.one_mul c).symm
    _ ≤ 16 ^ (m + 1) * c := Nat.mul_le_mul_right c this
theorem dgs_inside (s : ByteArray) : ∀ m i n k, i ≤ s.size → i + ((dgs s m i n k).2 - k) ≤ s.size
 | 0, i, n, k, h => by simp [dgs]; exact h
 | m + 1, i, n, k, h => by
  unfold dgs
  split
  ·rename_i h2
   have := dgs_inside s m (i + 1) (16 * n + (hx (byt s i)).toNat) (k + 1) (by omega)
   have := dgs_count s m (i + 1) (16 * n + (hx (byt s i)).toNat) (k + 1)
   omega
  ·simp; exact h
theorem dgs_cut (s : ByteArray) (b : Nat) : ∀ m i n k, dgs (s.extract b s.size) m i n k = dgs s m (b + i) n k
 | 0, i, n, k => rfl
 | m + 1, i, n, k => by
  unfold dgs
  have hsz : (s.extract b s.size).size = s.size - b := by simp
  rw [byt_extract, dgs_cut s b m (i + 1)]
  by_cases h : i < (s.extract b s.size).size ∧ 0 ≤ hx (byt s (b + i))
  ·rw [if_pos h, if_pos ⟨by omega, h.2⟩]; rfl
  ·rw [if_neg h, if_neg (fun h2 => h ⟨by omega, h2.2⟩)]
theorem digits_l (s : ByteArray) (most : Nat) (hm : most ≤ 6) : ∀ (d i n k c : Nat), i + d = most → 2 * d + 2 ≤ k → n < 16 ^ i * 1 →
  text_digits.l0 k s most n i = some (((dgs s d i n i).1 : Int), ((dgs s d i n i).2 : Int)) := by
 intro d
 induction d with
 | zero =>
  intro i n k c h1 h2 h3
  obtain ⟨k, rfl⟩ : ∃ k', k = k' + 2 := ⟨k - 2, by omega⟩
  simp only [text_digits.l0]
  rw [if_neg (by omega)]
  simp only [text_digits.j1]
  rw [if_neg (by simp)]
  rfl
 | succ d ih =>
  intro i n k c h1 h2 h3
  obtain ⟨k, rfl⟩ : ∃ k', k = k' + 2 := ⟨k - 2, by omega⟩
  simp only [text_digits.l0]
  rw [if_pos (by omega)]
  simp only [text_digits.j1]
  unfold dgs
  by_cases hi : i < s.size
  ·rw [if_pos (by simp; omega), if_pos (by omega), if_pos (by omega), idx_hx s i hi, Option.bind_some]
   have hlt := hx_lt (byt s i)
   by_cases hh : hx (byt s i) < 0
   ·rw [if_pos hh, if_neg (by omega)]
   ·rw [if_neg hh, if_pos ⟨hi, by omega⟩]
    have hp : 16 ^ i ≤ 16 ^ 6 := Nat.pow_le_pow_right (by omega) (by omega)
    have e6 : 16 ^ 6 = 16777216 := by rfl
    rw [w64 (x := 16 * (n : Int)) (by omega) (by omega), w64 (by omega) (by omega), w64 (by omega) (by omega)]
    have := ih (i + 1) (16 * n + (hx (byt s i)).toNat) k c (by omega) (by omega) (by rw [Nat.pow_succ]; omega)
    rw [show 16 * (n : Int) + hx (byt s i) = ((16 * n + (hx (byt s i)).toNat : Nat) : Int) by omega]
    exact this
  ·rw [if_neg (by simp; omega), if_neg (fun h => hi h.1)]
theorem digits_eq (s : ByteArray) (most : Nat) (hm : most ≤ 6) (k : Nat) (hk : 14 ≤ k) : text_digits.f k s most = some (((dgs s most 0 0 0).1 : Int), ((dgs s most 0 0 0).2 : Int)) :=
 digits_l s most hm most 0 0 k 0 (by omega) (by omega) (by simp)
def escU (s : ByteArray) (i : Nat) : Option (List UInt8 × Nat) :=
 (if i + 2 < s.size ∧ byt s (i + 2) = 123 ∧ (dgs s 6 (i + 3) 0 0).2 ≠ 0 ∧ i + 3 + (dgs s 6 (i + 3) 0 0).2 < s.size ∧ byt s (i + 3 + (dgs s 6 (i + 3) 0 0).2) = 125 ∧ ¬ (byt s (i + 3) = 48 ∧ 1 < (dgs s 6 (i + 3) 0 0).2) ∧ Rn (dgs s 6 (i + 3) 0 0).1
  then some ((Utf8.encode ((dgs s 6 (i + 3) 0 0).1 : Int)).data.toList, (dgs s 6 (i + 3) 0 0).2 + 4) else none)
/-- what an escape at byte i stands for, and how many bytes it has -/
def esc (s : ByteArray) (i : Nat) : Option (List UInt8 × Nat) :=
 if s.size ≤ i + 1 then none else
 if byt s (i + 1) = 110 then some ([10], 2) else
 if byt s (i + 1) = 116 then some ([9], 2) else
 if byt s (i + 1) = 114 then some ([13], 2) else
 if byt s (i + 1) = 34 ∨ byt s (i + 1) = 92 then some ([(byt s (i + 1)).toUInt8], 2) else
 if byt s (i + 1) = 120 then (if (dgs s 2 (i + 2) 0 0).2 = 2 then some ([((dgs s 2 (i + 2) 0 0).1 % 256).toUInt8], 4) else none) else
 if byt s (i + 1) = 117 then escU s i else none
theorem bt_cut (s : ByteArray) (i j : Nat) (h : i + j < s.size) : bt (s.extract i s.size) (j : Int) = (byt s (i + j) : Int) := by
 have hsz : (s.extract i s.size).size = s.size - i := by simp
 rw [bt_byt _ j (by omega), byt_extract]
theorem ext_ext (s : ByteArray) (i j : Nat) : (s.extract i s.size).extract j (s.extract i s.size).size = s.extract (i + j) s.size := by
 apply ByteArray.ext
 apply Array.ext'
 rw [ext_list, ext_list, ext_list, List.drop_take, List.drop_drop, List.take_take]
 congr 1
 simp
 omega
theorem one_list (s : ByteArray) (i : Nat) (h : i < s.size) : (s.extract i (i + 1)).data.toList = [(byt s i).toUInt8] := by
 have hl : i < s.data.toList.length := by rw [data_length]; exact h
 rw [ext_list, show i + 1 - i = 1 by omega, List.drop_eq_getElem_cons hl, List.take_succ_cons, List.take_zero, byt_get s i hl]
 simp
theorem strOf_one (n : Int) (h : 0 ≤ n) (h2 : n < 256) : (strOfNums [n]).data.toList = [n.toNat.toUInt8] := by
 have := strOf_ints [n.toNat.toUInt8]
 have e : ints [n.toNat.toUInt8] = [n] := by
  simp [ints]
  omega
 rw [e] at this
 rw [this]
/-- what an escape's answer reads as -/
def escP (r : Option (List UInt8 × Nat)) : ByteArray × Int := r.elim (⟨#[]⟩, 0) fun t => (⟨t.1.toArray⟩, (t.2 : Int))
theorem mk_eq {b : ByteArray} {l : List UInt8} (h : b.data.toList = l) : b = ⟨l.toArray⟩ := by subst h; exact (bmk b).symm
theorem escP_some (l : List UInt8) (k : Nat) : escP (some (l, k)) = (⟨l.toArray⟩, (k : Int)) := rfl
theorem escP_enc (n k : Nat) : (some (Utf8.encode (n : Int), (k : Int) + 4) : Option (ByteArray × Int)) = some (escP (some ((Utf8.encode (n : Int)).data.toList, k + 4))) := by
 rw [escP_some, bmk]
 generalize Utf8.encode (n : Int) = b
 have e : ((k + 4 : Nat) : Int) = (k : Int) + 4 := by omega
 rw [e]
theorem rn_valid (n : Nat) : Utf8.valid (n : Int) = decide (Rn n) := by
 by_cases h : Rn n
 ·rw [(valid_iff n).2 h, decide_eq_true h]
 ·rw [decide_eq_false h]
  cases e : Utf8.valid (n : Int) with
  | false => rfl
  | true => exact absurd ((valid_iff n).1 e) h
def escUp (t : ByteArray) : Option (ByteArray × Int) := if (t.size : Int) < 3 then (text_escape.j1 19 t true) else (if 2 < (t.size : Int) then (text_escape.j1 19 t ((bt t 2) != 123)) else (none))
theorem escape_u (s : ByteArray) (i : Nat) (hs : s.size ≤ 140737488355328) (hi : i + 1 < s.size) : escUp (s.extract i s.size) = some (escP (escU s i)) := by
 have hsz : (s.extract i s.size).size = s.size - i := by simp
 unfold escUp escU
 have hlt := dgs_lt s 6 (i + 3) 0 0 1 (by omega)
 rw [Nat.mul_one, show 16 ^ 6 = 16777216 by rfl] at hlt
 have hcn := dgs_count s 6 (i + 3) 0 0
 by_cases d1 : i + 2 < s.size
 ·rw [if_neg (by omega), if_pos (by omega)]
  have b2 : bt (s.extract i s.size) 2 = (byt s (i + 2) : Int) := bt_cut s i 2 (by omega)
  rw [b2]
  simp only [text_escape.j1]
  by_cases d2 : byt s (i + 2) = 123
  ·rw [if_neg (by simp; omega), if_pos (by omega)]
   have e : (s.extract i s.size).extract 3 (s.extract i s.size).size = s.extract (i + 3) s.size := ext_ext s i 3
   rw [e]
   have := digits_eq (s.extract (i + 3) s.size) 6 (by omega) 18 (by omega)
   rw [dgs_cut] at this
   rw [show ((6 : Nat) : Int) = 6 from rfl, Nat.add_zero] at this
   rw [this, Option.bind_some]
   generalize dgs s 6 (i + 3) 0 0 = D at *
   obtain ⟨n, k⟩ := D
   simp only at hlt hcn ⊢
   by_cases d3 : k = 0
   ·rw [if_pos (by omega), if_neg (fun h => h.2.2.1 d3)]; rfl
   ·rw [if_neg (by omega), w64 (by omega) (by omega)]
    by_cases d4 : i + 3 + k < s.size
    ·rw [if_neg (by omega), if_pos (by omega), if_pos (by omega)]
     have b3 : bt (s.extract i s.size) (3 + (k : Int)) = (byt s (i + 3 + k) : Int) := by
      have := bt_cut s i (3 + k) (by omega)
      rw [show ((3 + k : Nat) : Int) = 3 + (k : Int) by omega, show i + (3 + k) = i + 3 + k by omega] at this
      exact this
     rw [b3]
     by_cases d5 : byt s (i + 3 + k) = 125
     ·rw [if_pos (by omega), if_pos (by omega)]
      have b4 : bt (s.extract i s.size) 3 = (byt s (i + 3) : Int) := bt_cut s i 3 (by omega)
      rw [b4, w32 (by omega) (by omega), isRune_eq, rn_valid, Option.bind_some, w64 (by omega) (by omega)]
      by_cases d6 : byt s (i + 3) = 48
      ·rw [if_pos (by omega)]
       by_cases d7 : 1 < k
       ·rw [if_pos (by omega), if_neg (fun h => h.2.2.2.2.2.1 ⟨d6, d7⟩)]; rfl
       ·rw [if_neg (by omega)]
        by_cases d8 : Rn n
        ·rw [if_pos (by simpa using d8), if_pos ⟨d1, d2, d3, d4, d5, fun h => d7 h.2, d8⟩]
         exact escP_enc n k
        ·rw [if_neg (by simpa using d8), if_neg (fun h => d8 h.2.2.2.2.2.2)]; rfl
      ·rw [if_neg (by omega)]
       by_cases d8 : Rn n
       ·rw [if_pos (by simpa using d8), if_pos ⟨d1, d2, d3, d4, d5, fun h => d6 h.1, d8⟩]
        exact escP_enc n k
       ·rw [if_neg (by simpa using d8), if_neg (fun h => d8 h.2.2.2.2.2.2)]; rfl
     ·rw [if_neg (by omega), if_neg (fun h => d5 h.2.2.2.2.1)]; rfl
    ·rw [if_pos (by omega), if_neg (fun h => d4 h.2.2.2.1)]; rfl
  ·rw [if_pos (by simp; omega), if_neg (fun h => d2 h.2.1)]; rfl
 ·rw [if_pos (by omega), if_neg (fun h => d1 h.1)]
  simp only [text_escape.j1]
  rw [if_pos trivial]
  rfl
theorem escape_eq (s : ByteArray) (i : Nat) (hs : s.size ≤ 140737488355328) (hi : i < s.size) : text_escape.f 20 (s.extract i s.size) = some (escP (esc s i)) := by
 have hsz : (s.extract i s.size).size = s.size - i := by simp
 have t0 : ∀ m, dgs (s.extract i s.size) m 0 0 0 = dgs s m (i + 0) 0 0 := fun m => dgs_cut s i m 0 0 0
 unfold text_escape.f esc
 by_cases h1 : s.size ≤ i + 1
 ·rw [if_pos (by omega), if_pos h1]; rfl
 ·rw [if_neg (by omega), if_pos (by omega), if_neg h1]
  have b1 : bt (s.extract i s.size) 1 = (byt s (i + 1) : Int) := bt_cut s i 1 (by omega)
  rw [b1]
  by_cases c1 : byt s (i + 1) = 110
  ·rw [if_pos (by omega), if_pos c1]; rfl
  ·rw [if_neg (by omega), if_neg c1]
   by_cases c2 : byt s (i + 1) = 116
   ·rw [if_pos (by omega), if_pos c2]; rfl
   ·rw [if_neg (by omega), if_neg c2]
    by_cases c3 : byt s (i + 1) = 114
    ·rw [if_pos (by omega), if_pos c3]; rfl
    ·rw [if_neg (by omega), if_neg c3]
     have two : (s.extract i s.size).extract 1 2 = ⟨[(byt s (i + 1)).toUInt8].toArray⟩ := by
      apply mk_eq
      rw [one_list _ 1 (by omega), byt_extract]
     by_cases c4 : byt s (i + 1) = 34
     ·rw [if_pos (by omega), if_pos (Or.inl c4)]
      simp only [text_escape.j0]
      rw [if_pos (by simp; omega), if_pos (by omega), if_pos (by omega), two]
      rfl
     ·rw [if_neg (by omega)]
      by_cases c5 : byt s (i + 1) = 92
      ·rw [if_pos (Or.inr c5)]
       simp only [text_escape.j0]
       rw [if_pos (by simp; omega), if_pos (by omega), if_pos (by omega), two]
       rfl
      ·rw [if_neg (by omega)]
       simp only [text_escape.j0]
       rw [if_neg (by simp; omega)]
       by_cases c6 : byt s (i + 1) = 120
       ·rw [if_pos (by omega), if_pos c6, if_pos (by omega)]
        have e : (s.extract i s.size).extract 2 (s.extract i s.size).size = s.extract (i + 2) s.size := ext_ext s i 2
        rw [e]
        have := digits_eq (s.extract (i + 2) s.size) 2 (by omega) 19 (by omega)
        rw [dgs_cut] at this
        rw [show ((2 : Nat) : Int) = 2 from rfl, Nat.add_zero] at this
        rw [this, Option.bind_some]
        by_cases c7 : (dgs s 2 (i + 2) 0 0).2 = 2
        ·rw [if_pos (by omega), if_pos c7]
         have : strOfNums (([((dgs s 2 (i + 2) 0 0).1 : Int) % 256] : List Int)) = ⟨[((dgs s 2 (i + 2) 0 0).1 % 256).toUInt8].toArray⟩ := by
          apply mk_eq
          rw [strOf_one _ (by omega) (by omega)]
          congr 1
         rw [this]
         rfl
        ·rw [if_neg (by omega), if_neg c7]; rfl
       ·rw [if_neg (by omega), if_neg c6]
        by_cases c7 : byt s (i + 1) = 117
        ·rw [if_pos (by omega), if_pos c7]
         exact escape_u s i hs (by omega)
        ·rw [if_neg (by omega), if_neg c7]; rfl
end Go.Proofs.Ythiiigbifimckaa.Tx
