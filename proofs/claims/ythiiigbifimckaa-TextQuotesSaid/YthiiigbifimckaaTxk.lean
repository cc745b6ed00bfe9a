/-
 Plain facts: a quoted text's parts and its value, by the program.
-/
import Derived.Test.YthiiigbifimckaaPtx10
import Derived.Test.YthiiigbifimckaaTxj
namespace Go.Proofs.Ythiiigbifimckaa.Tx
open Go.RowKit Go.Proofs.YthiiigbifimckaaW.PrintWords Go.Proofs.YthiiigbifimckaaW.PrintLast Go.Proofs.YthiiigbifimckaaW.PrintMore Go.Proofs.Ythiiigbifimckaa.Pt
set_option linter.unusedVariables false
set_option linter.unusedSimpArgs false

theorem dec_ascii (s : ByteArray) (i c : Nat) (hi : i < s.size) (hc : c < 128) : ((Utf8.decode s i).1 = c ↔ byt s i = c) ∧ (byt s i = c → Utf8.decode s i = (c, 1)) := by
 have two : byt s i = c → Utf8.decode s i = (c, 1) := by
  intro h
  rw [decode_eq, Nat.add_zero, h]
  unfold decB
  rw [if_pos hc]
 refine ⟨⟨?_, fun h => by rw [two h]⟩, two⟩
 intro h
 rcases dec_cases s i hi with ⟨hp, hl⟩ | hb
 ·rw [h] at hp
  have := hp.2.2 0 (enc_len c).1
  unfold enc at this
  rw [if_pos hc] at this
  simpa using this
 ·rw [hb] at h; simp at h; omega
/-- what the part at byte i stands for, and how many bytes it has -/
def prt (s : ByteArray) (i : Nat) : Option (List UInt8 × Nat) :=
 if Utf8.decode s i = (65533, 1) ∨ (Utf8.decode s i).1 < 32 ∨ (Utf8.decode s i).1 = 127 ∨ (Utf8.decode s i).1 = 34 then none
 else if (Utf8.decode s i).1 = 92 then esc s i else some ((s.extract i (i + wd s i)).data.toList, wd s i)
theorem esc_len {s : ByteArray} {i : Nat} {p : List UInt8} {n : Nat} (h : esc s i = some (p, n)) : p.length ≤ n ∧ 1 ≤ n ∧ n ≤ 10 ∧ i + n ≤ s.size := by
 unfold esc at h
 by_cases h1 : s.size ≤ i + 1
 ·rw [if_pos h1] at h; simp at h
 ·rw [if_neg h1] at h
  split at h
  ·simp only [Option.some.injEq, Prod.mk.injEq] at h; obtain ⟨rfl, rfl⟩ := h; simp; omega
  ·split at h
   ·simp only [Option.some.injEq, Prod.mk.injEq] at h; obtain ⟨rfl, rfl⟩ := h; simp; omega
   ·split at h
    ·simp only [Option.some.injEq, Prod.mk.injEq] at h; obtain ⟨rfl, rfl⟩ := h; simp; omega
    ·split at h
     ·simp only [Option.some.injEq, Prod.mk.injEq] at h; obtain ⟨rfl, rfl⟩ := h; simp; omega
     ·split at h
      ·split at h
       ·rename_i h2
        have := dgs_inside s 2 (i + 2) 0 0 (by omega)
        simp only [Option.some.injEq, Prod.mk.injEq] at h; obtain ⟨rfl, rfl⟩ := h; simp; omega
       ·simp at h
      ·split at h
       ·unfold escU at h
        have hc := dgs_count s 6 (i + 3) 0 0
        split at h
        ·rename_i h2
         simp only [Option.some.injEq, Prod.mk.injEq] at h
         obtain ⟨rfl, rfl⟩ := h
         have := encode_le4 (((dgs s 6 (i + 3) 0 0).1 : Nat) : Int)
         rw [data_length]
         omega
        ·simp at h
       ·simp at h
theorem prt_len {s : ByteArray} {i : Nat} {p : List UInt8} {n : Nat} (hi : i < s.size) (h : prt s i = some (p, n)) : p.length ≤ n ∧ 1 ≤ n ∧ n ≤ 10 ∧ i + n ≤ s.size := by
 unfold prt at h
 split at h
 ·simp at h
 ·split at h
  ·exact esc_len h
  ·simp only [Option.some.injEq, Prod.mk.injEq] at h
   obtain ⟨rfl, rfl⟩ := h
   have hw := wd_pos s i hi
   have hp := pc_size s i hi
   rw [wd_pc] at hp
   rw [ext_list, List.length_take, List.length_drop, data_length]
   omega
/-- the value of a quoted text from byte i on, and the byte behind it -/
def qd (s : ByteArray) : Nat → Nat → List UInt8 → Option (List UInt8 × Nat)
 | 0, _, _ => none
 | d + 1, i, acc => if i < s.size then (if byt s i = 34 then some (acc, i + 1) else (prt s i).bind fun t => qd s d (i + t.2) (acc ++ t.1)) else none
def quP (a : Int) (r : Option (List UInt8 × Nat)) : ByteArray × Int × Int × Int := r.elim (⟨#[]⟩, 0, 12, a) fun t => if t.1.length > 4096 then (⟨#[]⟩, 0, 12, a) else (⟨t.1.toArray⟩, (t.2 : Int), 0, 0)
theorem quoted_l (s : ByteArray) (a : Int) (hs : s.size ≤ 140737488351232) : ∀ (d i : Nat) (acc : List UInt8), i ≤ s.size → s.size < i + d → acc.length ≤ i → text_Quoted.l s a d i acc = some (quP a (qd s d i acc)) := by
 intro d
 induction d with
 | zero => intro i acc h0 h1 h2; omega
 | succ d ih =>
  intro i acc h0 h1 h2
  unfold text_Quoted.l qd
  by_cases hi : i < s.size
  ·rw [if_pos hi, if_pos hi, next_eq, Option.bind_some, nx_in s i hi]
   obtain ⟨a34, a34b⟩ := dec_ascii s i 34 hi (by omega)
   by_cases hb : Utf8.decode s i = (65533, 1)
   ·have hne : byt s i ≠ 34 := fun h => by rw [a34b h] at hb; simp at hb
    rw [pc_bad' hb, if_neg hne]
    rw [if_neg (by omega), if_pos (by simp)]
    have : prt s i = none := by unfold prt; rw [if_pos (Or.inl hb)]
    rw [this]; rfl
   ·rw [pc_good' hb]
    simp only
    by_cases h34 : byt s i = 34
    ·rw [if_pos (by have := a34.2 h34; omega), if_pos h34, if_pos (by omega)]
     by_cases h3 : (acc.length : Int) > 4096
     ·rw [if_pos h3]
      show _ = some (if acc.length > 4096 then _ else _)
      rw [if_pos (by omega)]
     ·rw [if_neg h3, w64 (by omega) (by omega)]
      show _ = some (if acc.length > 4096 then _ else _)
      rw [if_neg (by omega)]
      rfl
    ·have hn34 : (Utf8.decode s i).1 ≠ 34 := fun h => h34 (a34.1 h)
     rw [if_neg (by omega), if_neg h34]
     by_cases h4 : (Utf8.decode s i).1 < 32 ∨ (Utf8.decode s i).1 = 127
     ·rw [if_pos (by right; omega)]
      have : prt s i = none := by unfold prt; rw [if_pos (by omega)]
      rw [this]; rfl
     ·rw [if_neg (by intro h; rcases h with h | h | h; simp at h; omega; omega)]
      have hp : prt s i = if (Utf8.decode s i).1 = 92 then esc s i else some ((s.extract i (i + wd s i)).data.toList, wd s i) := by
       unfold prt; rw [if_neg (by intro h; rcases h with h | h | h | h; exact hb h; omega; omega; omega)]
      have hlen := @prt_len s i
      by_cases h92 : (Utf8.decode s i).1 = 92
      ·rw [if_pos h92] at hp
       rw [if_pos (by omega), escape_eq s i (by omega) hi, Option.bind_some, hp]
       rw [hp] at hlen
       cases e : esc s i with
       | none => rw [show escP (none : Option (List UInt8 × Nat)) = (⟨#[]⟩, 0) from rfl]; rw [if_pos rfl]; rfl
       | some t =>
        obtain ⟨p, n⟩ := t
        obtain ⟨l1, l2, l3, l4⟩ := hlen hi e
        rw [escP_some]
        simp only
        have hsz : (⟨p.toArray⟩ : ByteArray).size = p.length := by simp [ByteArray.size]
        rw [if_neg (by omega), hsz, if_pos ⟨by omega, by omega, by omega⟩, Option.bind_some, Int.toNat_natCast]
        exact ih (i + n) (acc ++ p) (by omega) (by omega) (by rw [List.length_append]; omega)
      ·rw [if_neg h92] at hp
       have hw := wd_pos s i hi
       have hpz := pc_size s i hi
       rw [wd_pc] at hpz
       rw [if_neg (by omega), hp, Option.bind_some]
       have e : (Utf8.decode s i).2 = wd s i := rfl
       rw [e, Int.toNat_natCast, if_pos ⟨by omega, by omega, by omega, by omega⟩]
       refine ih (i + wd s i) (acc ++ (s.extract i (i + wd s i)).data.toList) (by omega) (by omega) ?_
       rw [List.length_append, ext_list, List.length_take, List.length_drop, data_length]
       omega
  ·rw [if_neg hi, if_neg hi]; rfl
/-- the value of the quoted text at byte a, and the byte behind it, or the error -/
def quF (s : ByteArray) (a : Int) : ByteArray × Int × Int × Int :=
 if a < 0 ∨ (s.size : Int) ≤ a then (⟨#[]⟩, 0, 13, a) else if byt s a.toNat = 34 then quP a (qd s s.size (a.toNat + 1) []) else (⟨#[]⟩, 0, 12, a)
theorem qd_fuel (s : ByteArray) : ∀ (d e i : Nat) (acc : List UInt8), s.size ≤ i + d → s.size ≤ i + e → qd s d i acc = qd s e i acc := by
 intro d
 induction d with
 | zero =>
  intro e i acc h1 h2
  cases e with
  | zero => rfl
  | succ e => unfold qd; rw [if_neg (by omega)]
 | succ d ih =>
  intro e i acc h1 h2
  cases e with
  | zero => unfold qd; rw [if_neg (by omega)]
  | succ e =>
   unfold qd
   by_cases hi : i < s.size
   ·rw [if_pos hi, if_pos hi]
    by_cases h34 : byt s i = 34
    ·rw [if_pos h34, if_pos h34]
    ·rw [if_neg h34, if_neg h34]
     cases hp : prt s i with
     | none => rfl
     | some t =>
      obtain ⟨p, n⟩ := t
      have := prt_len hi hp
      exact ih e (i + n) (acc ++ p) (by omega) (by omega)
   ·rw [if_neg hi, if_neg hi]
theorem quoted_eq (s : ByteArray) (a : Int) (hs : s.size ≤ 140737488351232) : text_Quoted.f s a = some (quF s a) := by
 unfold text_Quoted.f quF
 by_cases h1 : a < 0
 ·rw [if_pos h1, if_pos (Or.inl h1)]
 ·rw [if_neg h1]
  by_cases h2 : a ≥ (s.size : Int)
  ·rw [if_pos h2, if_pos (Or.inr h2)]
  ·rw [if_neg h2, if_pos (show s.size ≤ 140737488355328 by omega), if_neg (show ¬ (a < 0 ∨ (s.size : Int) ≤ a) by omega)]
   obtain ⟨n, rfl⟩ : ∃ n : Nat, a = n := ⟨a.toNat, by omega⟩
   rw [bt_byt s n (by omega), Int.toNat_natCast]
   by_cases h3 : byt s n = 34
   ·rw [if_pos (by omega), if_pos h3, quoted_l s n hs (s.size + 1) (n + 1) [] (by omega) (by omega) (by simp)]
    rw [qd_fuel s (s.size + 1) s.size (n + 1) [] (by omega) (by omega)]
   ·rw [if_neg (by omega), if_neg h3]
end Go.Proofs.Ythiiigbifimckaa.Tx
