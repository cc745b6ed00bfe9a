/-
 Plain facts: a quoted text's parts, by the document's answer.
-/
import Derived.Test.YthiiigbifimckaaPtx11
import Derived.Test.YthiiigbifimckaaPtx12
import Derived.Test.YthiiigbifimckaaTxl
namespace Go.Proofs.Ythiiigbifimckaa.Tx
open Go.RowKit Go.Proofs.YthiiigbifimckaaW.PrintWords Go.Proofs.YthiiigbifimckaaW.PrintLast Go.Proofs.YthiiigbifimckaaW.PrintMore Go.Proofs.Ythiiigbifimckaa.Pt
set_option linter.unusedVariables false
set_option linter.unusedSimpArgs false

theorem rdigit_ev (s : ByteArray) (i : Nat) (h : i < s.size) : Ev (fun k => quoinref01_digit.f k (bt s i)) (hx (byt s i)) := by
 rw [bt_byt s i h]
 have hb := byt_lt s i
 generalize byt s i = b at hb ⊢
 unfold quoinref01_digit.f hx
 by_cases h1 : 48 ≤ b
 ·refine Ev.pos (by omega) ?_
  by_cases h2 : b ≤ 57
  ·refine Ev.step (f := fun _ => some (((b : Int) - 48) % 256)) (fun k => ?_) (Ev.ret ?_)
   ·simp only [quoinref01_digit.j0]; rw [if_pos (by simp; omega)]
   ·rw [if_pos ⟨h1, h2⟩]; omega
  ·by_cases h3 : 97 ≤ b ∧ b ≤ 102
   ·refine Ev.step (f := fun _ => some ((((b : Int) - 97) % 256) + 10)) (fun k => ?_) (Ev.ret ?_)
    ·simp only [quoinref01_digit.j0]; rw [if_neg (by simp; omega), if_pos (by omega), if_pos (by omega)]
    ·rw [if_neg (by omega), if_pos h3]; omega
   ·refine Ev.step (f := fun _ => some (-1)) (fun k => ?_) (Ev.ret ?_)
    ·simp only [quoinref01_digit.j0]; rw [if_neg (by simp; omega)]
     by_cases h4 : (b : Int) ≥ 97
     ·rw [if_pos h4, if_neg (by omega)]
     ·rw [if_neg h4]
    ·rw [if_neg (by omega), if_neg h3]
 ·refine Ev.neg (by omega) ?_
  refine Ev.step (f := fun _ => some (-1)) (fun k => ?_) (Ev.ret ?_)
  ·simp only [quoinref01_digit.j0]; rw [if_neg (by simp), if_neg (by omega)]
  ·rw [if_neg (by omega), if_neg (by omega)]
/-! the document's answer -/
theorem ok1 (n : Nat) (h : n < 16777216) : wrap32 (n : Int) = n := w32 (by omega) (by omega)
def finU (s : ByteArray) (i : Nat) (D : Nat × Nat) : Option (List UInt8 × Nat) :=
 if i + 2 < s.size ∧ byt s (i + 2) = 123 ∧ D.2 ≠ 0 ∧ i + 3 + D.2 < s.size ∧ byt s (i + 3 + D.2) = 125 ∧ ¬ (byt s (i + 3) = 48 ∧ 1 < D.2) ∧ Rn D.1 then some ((Utf8.encode (D.1 : Int)).data.toList, D.2 + 4) else none
theorem rn_le {n : Nat} (h : Rn n) : n ≤ 1114111 := by unfold Rn at h; omega
theorem num_end (s : ByteArray) (i v n : Nat) (hs : s.size ≤ 140737488351232) (hv : v < 16777216) (h0 : i + 1 < s.size) (hn : n ≤ 6) (hin : n ≠ 0 → i + 3 + n ≤ s.size) :
  Ev (fun k => quoinref01_number.j1 k s i ((i + 3 + n : Nat) : Int) v) (escP (finU s i (v, n))) := by
 have rune : ∀ (c : Prop), (n ≠ 0 ∧ i + 2 < s.size ∧ byt s (i + 2) = 123 ∧ i + 3 + n < s.size ∧ byt s (i + 3 + n) = 125 ∧ ¬ (byt s (i + 3) = 48 ∧ 1 < n)) →
   (if (v : Int) > 1114111 then (some ((⟨#[]⟩ : ByteArray), 0)) else ((quoinref01_Rune.f (wrap32 (v : Int))).bind fun t290 => (if t290 = true then ((quoinref01_bytes.f (wrap32 (v : Int))).bind fun t291 => (some (strOfNums t291, wrap64 ((wrap64 (((i + 3 + n : Nat) : Int) + 1)) - i)))) else (some ((⟨#[]⟩ : ByteArray), 0))))) = some (escP (finU s i (v, n))) := by
  intro _ ⟨g1, g2, g3, g4, g5, g6⟩
  by_cases hr : Rn v
  ·have := rn_le hr
   have hf : finU s i (v, n) = some ((Utf8.encode (v : Int)).data.toList, n + 4) := by
    unfold finU
    rw [if_pos ⟨g2, g3, g1, g4, g5, g6, hr⟩]
   rw [hf, if_neg (by omega), ok1 v hv, rune_eq, rn_valid, Option.bind_some, if_pos (by simpa using hr), bytes_eq v hr, Option.bind_some, enc_ints v hr, strOf_ints, escP_some, w64 (x := ((i + 3 + n : Nat) : Int) + 1) (by omega) (by omega), w64 (by omega) (by omega)]
   have e : ((i + 3 + n : Nat) : Int) + 1 - i = ((n + 4 : Nat) : Int) := by omega
   rw [e]
  ·have hf : finU s i (v, n) = none := by
    unfold finU
    rw [if_neg (fun h => hr h.2.2.2.2.2.2)]
   rw [hf]
   by_cases h1 : (v : Int) > 1114111
   ·rw [if_pos h1]; rfl
   ·rw [if_neg h1, ok1 v hv, rune_eq, rn_valid, Option.bind_some, if_neg (by simpa using hr)]; rfl
 have no : ∀ (c : Prop), (¬ (i + 2 < s.size ∧ byt s (i + 2) = 123 ∧ n ≠ 0 ∧ i + 3 + n < s.size ∧ byt s (i + 3 + n) = 125 ∧ ¬ (byt s (i + 3) = 48 ∧ 1 < n))) → some ((⟨#[]⟩ : ByteArray), (0 : Int)) = some (escP (finU s i (v, n))) := by
  intro _ h
  unfold finU
  rw [if_neg (fun h2 => h ⟨h2.1, h2.2.1, h2.2.2.1, h2.2.2.2.1, h2.2.2.2.2.1, h2.2.2.2.2.2.1⟩)]
  rfl
 refine Ev.step (f := fun _ => some (escP (finU s i (v, n)))) (fun k => ?_) (Ev.now _)
 simp only [quoinref01_number.j1]
 rw [w64 (x := (i : Int) + 2) (by omega) (by omega), w64 (x := (i : Int) + 3) (by omega) (by omega)]
 by_cases d1 : i + 2 < s.size
 ·rw [if_neg (by omega), if_pos (by omega), if_pos (by omega)]
  have b2 : bt s ((i : Int) + 2) = (byt s (i + 2) : Int) := bt_byt s (i + 2) d1
  rw [b2]
  by_cases d2 : byt s (i + 2) = 123
  ·rw [if_pos (by omega)]
   have e3 : wrap64 ((wrap64 (((i + 3 + n : Nat) : Int) - i)) - 3) = (n : Int) := by
    rw [w64 (x := ((i + 3 + n : Nat) : Int) - i) (by omega) (by omega), w64 (by omega) (by omega)]; omega
   rw [e3]
   by_cases d3 : n = 0
   ·rw [if_pos (by omega)]
    exact no True (fun h => h.2.2.1 d3)
   ·rw [if_neg (by omega)]
    have hin := hin d3
    have tail : (if ((i + 3 + n : Nat) : Int) ≥ (s.size : Int) then (some ((⟨#[]⟩ : ByteArray), 0)) else (if 0 ≤ ((i + 3 + n : Nat) : Int) then (if ((i + 3 + n : Nat) : Int) < (s.size : Int) then (if (bt s ((i + 3 + n : Nat) : Int)) = 125 then (if (v : Int) > 1114111 then (some ((⟨#[]⟩ : ByteArray), 0)) else ((quoinref01_Rune.f (wrap32 (v : Int))).bind fun t290 => (if t290 = true then ((quoinref01_bytes.f (wrap32 (v : Int))).bind fun t291 => (some (strOfNums t291, wrap64 ((wrap64 (((i + 3 + n : Nat) : Int) + 1)) - i)))) else (some ((⟨#[]⟩ : ByteArray), 0))))) else (some ((⟨#[]⟩ : ByteArray), 0))) else (none)) else (none)))
      = if i + 3 + n < s.size ∧ byt s (i + 3 + n) = 125 then (if (v : Int) > 1114111 then (some ((⟨#[]⟩ : ByteArray), 0)) else ((quoinref01_Rune.f (wrap32 (v : Int))).bind fun t290 => (if t290 = true then ((quoinref01_bytes.f (wrap32 (v : Int))).bind fun t291 => (some (strOfNums t291, wrap64 ((wrap64 (((i + 3 + n : Nat) : Int) + 1)) - i)))) else (some ((⟨#[]⟩ : ByteArray), 0))))) else some ((⟨#[]⟩ : ByteArray), 0) := by
     by_cases d4 : i + 3 + n < s.size
     ·rw [if_neg (by omega), if_pos (by omega), if_pos (by omega), bt_byt s (i + 3 + n) d4]
      by_cases d5 : byt s (i + 3 + n) = 125
      ·rw [if_pos (show ((byt s (i + 3 + n) : Nat) : Int) = 125 by omega)]
       exact (if_pos (show i + 3 + n < s.size ∧ byt s (i + 3 + n) = 125 from ⟨d4, d5⟩)).symm
      ·rw [if_neg (show ¬ ((byt s (i + 3 + n) : Nat) : Int) = 125 by omega)]
       exact (if_neg (show ¬ (i + 3 + n < s.size ∧ byt s (i + 3 + n) = 125) from fun h => d5 h.2)).symm
     ·rw [if_pos (by omega), if_neg (fun h => d4 h.1)]
    have last : ¬ (byt s (i + 3) = 48 ∧ 1 < n) → (if i + 3 + n < s.size ∧ byt s (i + 3 + n) = 125 then (if (v : Int) > 1114111 then (some ((⟨#[]⟩ : ByteArray), 0)) else ((quoinref01_Rune.f (wrap32 (v : Int))).bind fun t290 => (if t290 = true then ((quoinref01_bytes.f (wrap32 (v : Int))).bind fun t291 => (some (strOfNums t291, wrap64 ((wrap64 (((i + 3 + n : Nat) : Int) + 1)) - i)))) else (some ((⟨#[]⟩ : ByteArray), 0))))) else some ((⟨#[]⟩ : ByteArray), 0)) = some (escP (finU s i (v, n))) := by
     intro d6
     by_cases d4 : i + 3 + n < s.size ∧ byt s (i + 3 + n) = 125
     ·rw [if_pos d4]
      exact rune True ⟨d3, d1, d2, d4.1, d4.2, d6⟩
     ·rw [if_neg d4]
      exact no True (fun h => d4 ⟨h.2.2.2.1, h.2.2.2.2.1⟩)
    by_cases d7 : 1 < n
    ·have b3 : bt s ((i : Int) + 3) = (byt s (i + 3) : Int) := bt_byt s (i + 3) (by omega)
     rw [if_pos (by omega), if_pos (by omega), if_pos (by omega), b3]
     by_cases d8 : byt s (i + 3) = 48
     ·rw [if_pos (by omega)]
      exact no True (fun h => h.2.2.2.2.2 ⟨d8, d7⟩)
     ·rw [if_neg (by omega)]
      exact tail.trans (last (fun h => d8 h.1))
    ·rw [if_neg (by omega)]
     exact tail.trans (last (fun h => d7 h.2))
  ·rw [if_neg (by omega)]
   exact no True (fun h => d2 h.2.1)
 ·rw [if_pos (by omega)]
  exact no True (fun h => d1 h.1)
theorem num_l (s : ByteArray) (i : Nat) (hs : s.size ≤ 140737488351232) (h0 : i + 1 < s.size) : ∀ (d n v : Nat), n + d = 6 → v < 16 ^ n → (n ≠ 0 → i + 3 + n ≤ s.size) →
  Ev (fun k => quoinref01_number.l0 k s i ((i + 3 + n : Nat) : Int) v) (escP (finU s i (dgs s d (i + 3 + n) v n))) := by
 intro d
 induction d with
 | zero =>
  intro n v h1 h2 h3
  obtain rfl : n = 6 := by omega
  have e6 : 16 ^ 6 = 16777216 := by rfl
  refine Ev.step (f := fun k => quoinref01_number.j1 k s i ((i + 3 + 6 : Nat) : Int) v) (fun k => ?_) (num_end s i v 6 hs (by omega) h0 (by omega) h3)
  simp only [quoinref01_number.l0]
  rw [w64 (x := (i : Int) + 9) (by omega) (by omega), if_neg (show ¬ (((i + 3 + 6 : Nat) : Int) < (i : Int) + 9) by omega)]
  split <;> rfl
 | succ d ih =>
  intro n v h1 h2 h3
  have e6 : 16 ^ 6 = 16777216 := by rfl
  have hp : 16 ^ n ≤ 16 ^ 6 := Nat.pow_le_pow_right (by omega) (by omega)
  unfold dgs
  by_cases hi : i + 3 + n < s.size
  ·by_cases hh : 0 ≤ hx (byt s (i + 3 + n))
   ·rw [if_pos ⟨hi, hh⟩]
    have hlt := hx_lt (byt s (i + 3 + n))
    refine Ev.step (f := fun k => (quoinref01_digit.f k (bt s ((i + 3 + n : Nat) : Int))).bind fun t288 => if t288 ≥ 0 then (quoinref01_digit.f k (bt s ((i + 3 + n : Nat) : Int))).bind fun t289 => quoinref01_number.l0 k s i (wrap64 (((i + 3 + n : Nat) : Int) + 1)) (wrap64 ((wrap64 (16 * (v : Int))) + t289)) else quoinref01_number.j1 k s i ((i + 3 + n : Nat) : Int) v) (fun k => ?_) ?_
    ·simp only [quoinref01_number.l0]
     rw [w64 (x := (i : Int) + 9) (by omega) (by omega), if_pos (by omega), if_pos (by omega), if_pos (by omega)]
    ·refine Ev.bind (rdigit_ev s (i + 3 + n) hi) ?_
     refine Ev.pos hh ?_
     refine Ev.bind (rdigit_ev s (i + 3 + n) hi) ?_
     have h16 : 16 ^ (n + 1) = 16 ^ n * 16 := Nat.pow_succ ..
     have := ih (n + 1) (16 * v + (hx (byt s (i + 3 + n))).toNat) (by omega) (by omega) (fun _ => by omega)
     rw [w64 (x := ((i + 3 + n : Nat) : Int) + 1) (by omega) (by omega), w64 (x := 16 * (v : Int)) (by omega) (by omega), w64 (by omega) (by omega)]
     rw [show ((i + 3 + n : Nat) : Int) + 1 = ((i + 3 + (n + 1) : Nat) : Int) by omega, show 16 * (v : Int) + hx (byt s (i + 3 + n)) = ((16 * v + (hx (byt s (i + 3 + n))).toNat : Nat) : Int) by omega]
     exact this
   ·rw [if_neg (fun h => hh h.2)]
    refine Ev.step (f := fun k => (quoinref01_digit.f k (bt s ((i + 3 + n : Nat) : Int))).bind fun t288 => if t288 ≥ 0 then (quoinref01_digit.f k (bt s ((i + 3 + n : Nat) : Int))).bind fun t289 => quoinref01_number.l0 k s i (wrap64 (((i + 3 + n : Nat) : Int) + 1)) (wrap64 ((wrap64 (16 * (v : Int))) + t289)) else quoinref01_number.j1 k s i ((i + 3 + n : Nat) : Int) v) (fun k => ?_) ?_
    ·simp only [quoinref01_number.l0]
     rw [w64 (x := (i : Int) + 9) (by omega) (by omega), if_pos (by omega), if_pos (by omega), if_pos (by omega)]
    ·refine Ev.bind (rdigit_ev s (i + 3 + n) hi) ?_
     refine Ev.neg hh ?_
     exact num_end s i v n hs (by omega) h0 (by omega) h3
  ·rw [if_neg (fun h => hi h.1)]
   refine Ev.step (f := fun k => quoinref01_number.j1 k s i ((i + 3 + n : Nat) : Int) v) (fun k => ?_) (num_end s i v n hs (by omega) h0 (by omega) h3)
   simp only [quoinref01_number.l0]
   rw [if_neg (by omega)]
theorem escU_fin (s : ByteArray) (i : Nat) : escU s i = finU s i (dgs s 6 (i + 3) 0 0) := by
 unfold escU finU
 rfl
theorem number_ev (s : ByteArray) (i : Nat) (hs : s.size ≤ 140737488351232) (h0 : i + 1 < s.size) : Ev (fun k => quoinref01_number.f k s i) (escP (escU s i)) := by
 have := num_l s i hs h0 6 0 0 (by omega) (by simp) (fun h => absurd rfl h)
 rw [Nat.add_zero, ← escU_fin] at this
 refine Ev.congr (f := fun k => quoinref01_number.l0 k s i ((i + 3 : Nat) : Int) ((0 : Nat) : Int)) (fun k => ?_) this
 unfold quoinref01_number.f
 rw [w64 (by omega) (by omega)]
 congr 1
theorem ext_mk (s : ByteArray) (i j : Nat) : s.extract i j = ⟨(s.extract i j).data.toList.toArray⟩ := (bmk _).symm
theorem part_hex (s : ByteArray) (i : Nat) (hs : s.size ≤ 140737488351232) (hi : i + 1 < s.size) : Ev (fun k => if (i : Int) + 3 < (s.size : Int) then (if 0 ≤ (i : Int) + 2 then (if (i : Int) + 2 < (s.size : Int) then ((quoinref01_digit.f k (bt s ((i : Int) + 2))).bind fun t301 => (if t301 ≥ 0 then (if 0 ≤ (i : Int) + 3 then ((quoinref01_digit.f k (bt s ((i : Int) + 3))).bind fun t302 => (quoinref01_part.j2 k s i (decide (t302 ≥ 0)))) else (none)) else (quoinref01_part.j2 k s i false))) else (none)) else (none)) else (quoinref01_part.j2 k s i false))
  (escP (if (dgs s 2 (i + 2) 0 0).2 = 2 then some ([((dgs s 2 (i + 2) 0 0).1 % 256).toUInt8], 4) else none)) := by
 have d2 := fun (h : i + 2 < s.size) => rdigit_ev s (i + 2) h
 have d3 := fun (h : i + 3 < s.size) => rdigit_ev s (i + 3) h
 have nope : ¬ (dgs s 2 (i + 2) 0 0).2 = 2 → Ev (fun k => quoinref01_part.j2 k s i false) (escP (if (dgs s 2 (i + 2) 0 0).2 = 2 then some ([((dgs s 2 (i + 2) 0 0).1 % 256).toUInt8], 4) else none)) := by
  intro h
  rw [if_neg h]
  refine Ev.step (f := fun _ => some ((⟨#[]⟩ : ByteArray), 0)) (fun k => ?_) (Ev.now _)
  simp only [quoinref01_part.j2]
  rw [if_neg (by simp)]
 have hd := dgs2 s (i + 2)
 by_cases h3 : i + 3 < s.size
 ·refine Ev.pos (by omega) (Ev.pos (by omega) (Ev.pos (by omega) ?_))
  refine Ev.bind (d2 (by omega)) ?_
  by_cases h4 : 0 ≤ hx (byt s (i + 2))
  ·refine Ev.pos h4 (Ev.pos (by omega) ?_)
   refine Ev.bind (d3 h3) ?_
   by_cases h5 : 0 ≤ hx (byt s (i + 3))
   ·rw [decide_eq_true h5]
    have hv := dgs2v s (i + 2) ⟨h3, h4, h5⟩
    rw [if_pos (hd.2 ⟨h3, h4, h5⟩), escP_some]
    have l2 := hx_lt (byt s (i + 2))
    have l3 := hx_lt (byt s (i + 3))
    refine Ev.step (f := fun k => (quoinref01_digit.f k (bt s ((i : Int) + 2))).bind fun t303 => if 0 ≤ (i : Int) + 3 then (if (i : Int) + 3 < (s.size : Int) then (quoinref01_digit.f k (bt s ((i : Int) + 3))).bind fun t304 => some (strOfNums (([(wrap64 ((wrap64 (16 * t303)) + t304)) % 256] : List Int)), 4) else none) else none) (fun k => ?_) ?_
    ·simp only [quoinref01_part.j2]
     rw [if_pos trivial, w64 (x := (i : Int) + 2) (by omega) (by omega), w64 (x := (i : Int) + 3) (by omega) (by omega), if_pos (by omega), if_pos (by omega)]
    ·refine Ev.bind (d2 (by omega)) (Ev.pos (by omega) (Ev.pos (by omega) (Ev.bind (d3 h3) (Ev.ret ?_))))
     rw [w64 (x := 16 * hx (byt s (i + 2))) (by omega) (by omega), w64 (by omega) (by omega)]
     have e : strOfNums (([(16 * hx (byt s (i + 2)) + hx (byt s (i + 3))) % 256] : List Int)) = ⟨[((dgs s 2 (i + 2) 0 0).1 % 256).toUInt8].toArray⟩ := by
      apply mk_eq
      rw [strOf_one _ (by omega) (by omega)]
      rw [show i + 3 = i + 2 + 1 by omega, ← hv]
      congr 1
     rw [e]
     rfl
   ·rw [decide_eq_false h5]
    exact nope (fun h => h5 (hd.1 h).2.2)
  ·refine Ev.neg h4 ?_
   exact nope (fun h => h4 (hd.1 h).2.1)
 ·refine Ev.neg (by omega) ?_
  exact nope (fun h => h3 (by have := (hd.1 h).1; omega))
theorem part_ev (s : ByteArray) (i : Nat) (hs : s.size ≤ 140737488351232) (hi : i < s.size) : Ev (fun k => quoinref01_part.f k s i) (escP (prt s i)) := by
 have bad : ∀ (r n : Int), prt s i = none → Ev (fun k => quoinref01_part.j0 k s i r n true) (escP (prt s i)) := by
  intro r n h
  rw [h]
  refine Ev.step (f := fun _ => some ((⟨#[]⟩ : ByteArray), 0)) (fun k => ?_) (Ev.now _)
  simp only [quoinref01_part.j0]
  rw [if_pos trivial]
 unfold quoinref01_part.f
 refine Ev.bind (rnext_ev s i hs) ?_
 rw [nx_in s i hi]
 by_cases hb : Utf8.decode s i = (65533, 1)
 ·rw [pc_bad' hb]
  refine Ev.neg (by simp) (bad _ _ ?_)
  unfold prt; rw [if_pos (Or.inl hb)]
 ·rw [pc_good' hb]
  refine Ev.pos rfl ?_
  by_cases h1 : (Utf8.decode s i).1 < 32
  ·refine Ev.pos (by show ((Utf8.decode s i).1 : Int) < 32; omega) (bad _ _ ?_)
   unfold prt; rw [if_pos (Or.inr (Or.inl h1))]
  ·refine Ev.neg (by show ¬ ((Utf8.decode s i).1 : Int) < 32; omega) ?_
   by_cases h2 : (Utf8.decode s i).1 = 127
   ·refine Ev.pos (by show ((Utf8.decode s i).1 : Int) = 127; omega) (bad _ _ ?_)
    unfold prt; rw [if_pos (Or.inr (Or.inr (Or.inl h2)))]
   ·refine Ev.neg (by show ¬ ((Utf8.decode s i).1 : Int) = 127; omega) ?_
    by_cases h3 : (Utf8.decode s i).1 = 34
    ·have : (((Utf8.decode s i).1 : Int) == 34) = true := by simp; omega
     show Ev (fun k => quoinref01_part.j0 k s i ((Utf8.decode s i).1 : Int) ((Utf8.decode s i).2 : Int) (((Utf8.decode s i).1 : Int) == 34)) _
     rw [this]
     refine bad _ _ ?_
     unfold prt; rw [if_pos (Or.inr (Or.inr (Or.inr h3)))]
    ·have : (((Utf8.decode s i).1 : Int) == 34) = false := by simp; omega
     show Ev (fun k => quoinref01_part.j0 k s i ((Utf8.decode s i).1 : Int) ((Utf8.decode s i).2 : Int) (((Utf8.decode s i).1 : Int) == 34)) _
     rw [this]
     have hp : prt s i = if (Utf8.decode s i).1 = 92 then esc s i else some ((s.extract i (i + wd s i)).data.toList, wd s i) := by
      unfold prt; rw [if_neg (by intro h; rcases h with h | h | h | h; exact hb h; omega; omega; omega)]
     rw [hp]
     obtain ⟨w1, w2⟩ := wd_pos s i hi
     by_cases h92 : (Utf8.decode s i).1 = 92
     ·rw [if_pos h92]
      have e1 : bt s ((i : Int) + 1) = if i + 1 < s.size then ((byt s (i + 1) : Nat) : Int) else bt s ((i : Int) + 1) := by
       split
       ·rename_i h; exact bt_byt s (i + 1) h
       ·rfl
      unfold esc
      by_cases h0 : s.size ≤ i + 1
      ·rw [if_pos h0]
       refine Ev.step (f := fun _ => some ((⟨#[]⟩ : ByteArray), 0)) (fun k => ?_) (Ev.now _)
       simp only [quoinref01_part.j0]
       rw [if_neg (by simp), if_pos (by omega), w64 (x := (i : Int) + 1) (by omega) (by omega), if_pos (by omega)]
      ·rw [if_neg h0]
       rw [if_pos (by omega)] at e1
       have key : ∀ (g : Nat → Option (ByteArray × Int)) (r : ByteArray × Int), Ev g r →
         (∀ k, (if (bt s ((i : Int) + 1)) = 110 then (some ((⟨#[10]⟩ : ByteArray), 2)) else (if (bt s ((i : Int) + 1)) = 116 then (some ((⟨#[9]⟩ : ByteArray), 2)) else (if (bt s ((i : Int) + 1)) = 114 then (some ((⟨#[13]⟩ : ByteArray), 2)) else (if (bt s ((i : Int) + 1)) = 34 then (quoinref01_part.j1 k s i (bt s ((i : Int) + 1)) ((bt s ((i : Int) + 1)) == 34)) else (quoinref01_part.j1 k s i (bt s ((i : Int) + 1)) ((bt s ((i : Int) + 1)) == 92)))))) = g k) →
         Ev (fun k => quoinref01_part.j0 k s i ((Utf8.decode s i).1 : Int) ((Utf8.decode s i).2 : Int) false) r := by
        intro g r hg he
        refine Ev.step (fun k => ?_) hg
        simp only [quoinref01_part.j0]
        rw [if_neg (by simp), if_pos (by omega), w64 (x := (i : Int) + 1) (by omega) (by omega), if_neg (by omega), if_pos (by omega), if_pos (by omega)]
        exact he k
       by_cases c1 : byt s (i + 1) = 110
       ·rw [if_pos c1]
        refine key (fun _ => some ((⟨#[10]⟩ : ByteArray), 2)) _ (Ev.now _) (fun k => ?_)
        rw [e1, if_pos (by omega)]
       ·rw [if_neg c1]
        by_cases c2 : byt s (i + 1) = 116
        ·rw [if_pos c2]
         refine key (fun _ => some ((⟨#[9]⟩ : ByteArray), 2)) _ (Ev.now _) (fun k => ?_)
         rw [e1, if_neg (by omega), if_pos (by omega)]
        ·rw [if_neg c2]
         by_cases c3 : byt s (i + 1) = 114
         ·rw [if_pos c3]
          refine key (fun _ => some ((⟨#[13]⟩ : ByteArray), 2)) _ (Ev.now _) (fun k => ?_)
          rw [e1, if_neg (by omega), if_neg (by omega), if_pos (by omega)]
         ·rw [if_neg c3]
          by_cases c4 : byt s (i + 1) = 34 ∨ byt s (i + 1) = 92
          ·rw [if_pos c4]
           refine key (fun k => quoinref01_part.j1 k s i ((byt s (i + 1) : Nat) : Int) true) _ ?_ (fun k => ?_)
           ·refine Ev.step (f := fun _ => some (s.extract (i + 1) (i + 2), 2)) (fun k => ?_) (Ev.ret ?_)
            ·simp only [quoinref01_part.j1]
             rw [if_pos trivial, w64 (x := (i : Int) + 1) (by omega) (by omega), w64 (x := (i : Int) + 2) (by omega) (by omega), if_pos (by omega), if_pos (by omega), if_pos (by omega)]
             congr 1
            ·rw [escP_some, ← one_list s (i + 1) (by omega), bmk]
             rfl
           ·rw [e1, if_neg (by omega), if_neg (by omega), if_neg (by omega)]
            by_cases c5 : byt s (i + 1) = 34
            ·rw [if_pos (by omega)]
             congr 1
             simp; omega
            ·rw [if_neg (by omega)]
             congr 1
             simp; omega
          ·rw [if_neg c4]
           refine key (fun k => quoinref01_part.j1 k s i ((byt s (i + 1) : Nat) : Int) false) _ ?_ (fun k => ?_)
           ·by_cases c6 : byt s (i + 1) = 120
            ·rw [if_pos c6]
             refine Ev.step (fun k => ?_) (part_hex s i hs (by omega))
             simp only [quoinref01_part.j1]
             rw [if_neg (by simp), if_pos (by omega), w64 (x := (i : Int) + 2) (by omega) (by omega), w64 (x := (i : Int) + 3) (by omega) (by omega)]
            ·rw [if_neg c6]
             by_cases c7 : byt s (i + 1) = 117
             ·rw [if_pos c7]
              refine Ev.step (f := fun k => (quoinref01_number.f k s i).bind fun bt308 => some (bt308.1, bt308.2)) (fun k => ?_) (Ev.bind (number_ev s i hs (by omega)) (Ev.now _))
              simp only [quoinref01_part.j1]
              rw [if_neg (by simp), if_neg (by omega), if_pos (by omega)]
             ·rw [if_neg c7]
              refine Ev.step (f := fun _ => some ((⟨#[]⟩ : ByteArray), 0)) (fun k => ?_) (Ev.now _)
              simp only [quoinref01_part.j1]
              rw [if_neg (by simp), if_neg (by omega), if_neg (by omega)]
           ·rw [e1, if_neg (by omega), if_neg (by omega), if_neg (by omega), if_neg (by omega)]
            congr 1
            simp; omega
     ·rw [if_neg h92, escP_some]
      refine Ev.step (f := fun _ => some (s.extract i (i + wd s i), ((wd s i : Nat) : Int))) (fun k => ?_) (Ev.ret (by rw [bmk]))
      simp only [quoinref01_part.j0]
      have e : (Utf8.decode s i).2 = wd s i := rfl
      rw [if_neg (by simp), if_neg (by omega), e, w64 (x := (i : Int) + (wd s i : Int)) (by omega) (by omega), if_pos (by omega), if_pos (by omega), if_pos (by omega)]
      congr 1
end Go.Proofs.Ythiiigbifimckaa.Tx
