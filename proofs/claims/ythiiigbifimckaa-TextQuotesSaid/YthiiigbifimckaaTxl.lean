/-
 Plain facts: a quoted text's value and how a value is quoted, by the program.
-/
import Derived.Test.YthiiigbifimckaaTxk
import Derived.Test.YthiiigbifimckaaPtx3
namespace Go.Proofs.Ythiiigbifimckaa.Tx
open Go.RowKit Go.Proofs.YthiiigbifimckaaW.PrintWords Go.Proofs.YthiiigbifimckaaW.PrintLast Go.Proofs.YthiiigbifimckaaW.PrintMore Go.Proofs.Ythiiigbifimckaa.Pt
set_option linter.unusedVariables false
set_option linter.unusedSimpArgs false

theorem dgs2 (s : ByteArray) (i : Nat) : (dgs s 2 i 0 0).2 = 2 ↔ (i + 1 < s.size ∧ 0 ≤ hx (byt s i) ∧ 0 ≤ hx (byt s (i + 1))) := by
 unfold dgs
 by_cases h1 : i < s.size ∧ 0 ≤ hx (byt s i)
 ·rw [if_pos h1]
  unfold dgs
  by_cases h2 : i + 1 < s.size ∧ 0 ≤ hx (byt s (i + 1))
  ·rw [if_pos h2]; simp [dgs]; omega
  ·rw [if_neg h2]; simp; omega
 ·rw [if_neg h1]; simp; omega
theorem dgs2v (s : ByteArray) (i : Nat) (h : i + 1 < s.size ∧ 0 ≤ hx (byt s i) ∧ 0 ≤ hx (byt s (i + 1))) : ((dgs s 2 i 0 0).1 : Int) = 16 * hx (byt s i) + hx (byt s (i + 1)) := by
 unfold dgs
 rw [if_pos ⟨by omega, h.2.1⟩]
 unfold dgs
 rw [if_pos ⟨h.1, h.2.2⟩]
 simp [dgs]
 omega
def rqP (r : Option (List UInt8 × Nat)) : ByteArray × Int × Int := r.elim (⟨#[]⟩, 0, 12) fun t => if t.1.length > 4096 then (⟨#[]⟩, 0, 12) else (⟨t.1.toArray⟩, (t.2 : Int), 0)
theorem qd_len (s : ByteArray) : ∀ (d i : Nat) (acc v : List UInt8) (e : Nat), qd s d i acc = some (v, e) → acc.length ≤ v.length ∧ e ≤ s.size
 | 0, i, acc, v, e, h => by simp [qd] at h
 | d + 1, i, acc, v, e, h => by
  unfold qd at h
  split at h
  ·split at h
   ·simp only [Option.some.injEq, Prod.mk.injEq] at h
    obtain ⟨rfl, rfl⟩ := h
    exact ⟨Nat.le_refl _, by omega⟩
   ·cases hp : prt s i with
    | none => rw [hp] at h; simp at h
    | some t =>
     rw [hp, Option.bind_some] at h
     have := qd_len s d (i + t.2) (acc ++ t.1) v e h
     rw [List.length_append] at this
     omega
  ·simp at h
def rquF (s : ByteArray) (a : Int) : ByteArray × Int × Int :=
 if a < 0 ∨ (s.size : Int) ≤ a then (⟨#[]⟩, 0, 13) else if byt s a.toNat = 34 then rqP (qd s s.size (a.toNat + 1) []) else (⟨#[]⟩, 0, 12)
theorem quP_rqP (a : Int) (r : Option (List UInt8 × Nat)) : quP a r = ((rqP r).1, (rqP r).2.1, (rqP r).2.2, if (rqP r).2.2 = 0 then 0 else a) := by
 cases r with
 | none => rfl
 | some t =>
  by_cases hl : t.1.length > 4096
  ·have e1 : quP a (some t) = (⟨#[]⟩, 0, 12, a) := if_pos hl
   have e2 : rqP (some t) = (⟨#[]⟩, 0, 12) := if_pos hl
   rw [e1, e2]; rfl
  ·have e1 : quP a (some t) = (⟨t.1.toArray⟩, (t.2 : Int), 0, 0) := if_neg hl
   have e2 : rqP (some t) = (⟨t.1.toArray⟩, (t.2 : Int), 0) := if_neg hl
   rw [e1, e2]; rfl
/-- the two answers side by side -/
theorem qu_rq (s : ByteArray) (a : Int) : quF s a = ((rquF s a).1, (rquF s a).2.1, (rquF s a).2.2, if (rquF s a).2.2 = 0 then 0 else a) := by
 unfold quF rquF
 by_cases h : a < 0 ∨ (s.size : Int) ≤ a
 ·rw [if_pos h, if_pos h]; rfl
 ·rw [if_neg h, if_neg h]
  by_cases h3 : byt s a.toNat = 34
  ·rw [if_pos h3, if_pos h3]
   exact quP_rqP a _
  ·rw [if_neg h3, if_neg h3]; rfl
def unq (s : ByteArray) : ByteArray × Int := if (rquF s 0).2.2 = 0 ∧ (rquF s 0).2.1 = (s.size : Int) then ((rquF s 0).1, 0) else (⟨#[]⟩, 12)
theorem unquote_eq (s : ByteArray) (hs : s.size ≤ 140737488351232) : text_Unquote.f s = some (unq s) := by
 unfold text_Unquote.f unq
 rw [quoted_eq s 0 hs, Option.bind_some, qu_rq]
 simp only
 by_cases h1 : (rquF s 0).2.2 = 0
 ·rw [if_neg (by simp [h1])]
  by_cases h2 : (rquF s 0).2.1 = (s.size : Int)
  ·rw [if_pos h2, if_pos ⟨h1, h2⟩]
  ·rw [if_neg h2, if_neg (fun h => h2 h.2)]
 ·rw [if_pos (by simp [h1]), if_neg (fun h => h1 h.1)]
/-! how a value is quoted -/
def pq (v : ByteArray) (i : Nat) : List UInt8 := text_Quote.piece v i (pc v i).1 (pc v i).2.1 (pc v i).2.2
def quo (v : ByteArray) : Nat → Nat → List UInt8 → List UInt8
 | 0, _, acc => acc
 | d + 1, i, acc => if i < v.size then quo v d (i + wd v i) (acc ++ pq v i) else acc
theorem pq_len (v : ByteArray) (i : Nat) (hi : i < v.size) : (pq v i).length ≤ 4 * wd v i := by
 have h := pc_size v i hi
 have e := wd_pc v i
 unfold pq text_Quote.piece
 repeat' split
 all_goals simp
 all_goals omega
theorem tquote_l (v : ByteArray) (hs : v.size ≤ 140737488351232) : ∀ (d i : Nat) (acc : List UInt8), i ≤ v.size → v.size < i + d → acc.length ≤ 4 * i + 1 → text_Quote.l v d i acc = some (quo v d i acc) ∧ (quo v d i acc).length ≤ 4 * v.size + 1 := by
 intro d
 induction d with
 | zero => intro i acc h0 h1 h2; omega
 | succ d ih =>
  intro i acc h0 h1 h2
  unfold text_Quote.l quo
  by_cases hi : i < v.size
  ·have hp := pc_size v i hi
   have hl := pq_len v i hi
   have hw := wd_pos v i hi
   have e : (pc v i).2.1 = (wd v i : Int) := wd_pc v i
   rw [if_pos hi, if_pos hi, next_eq, Option.bind_some, nx_in v i hi, if_pos ⟨by omega, by omega, h2⟩]
   have := ih (i + wd v i) (acc ++ pq v i) (by omega) (by omega) (by rw [List.length_append]; omega)
   rw [e, Int.toNat_natCast]
   unfold pq at this ⊢
   rw [e] at this ⊢
   exact this
  ·rw [if_neg hi, if_neg hi]
   exact ⟨rfl, by omega⟩
def quoF (v : ByteArray) : ByteArray × Int := if v.size > 4096 then (⟨#[]⟩, 3) else (⟨(quo v (v.size + 1) 0 [34] ++ [34]).toArray⟩, 0)
theorem quote_eq (v : ByteArray) : text_Quote.f v = some (quoF v) := by
 unfold text_Quote.f quoF
 by_cases h : v.size > 4096
 ·rw [if_pos (by omega), if_pos h]
 ·rw [if_neg (by omega), if_neg h]
  obtain ⟨e1, e2⟩ := tquote_l v (by omega) (v.size + 1) 0 [34] (by omega) (by omega) (by simp)
  rw [e1, Option.bind_some, if_pos (by omega)]
end Go.Proofs.Ythiiigbifimckaa.Tx
