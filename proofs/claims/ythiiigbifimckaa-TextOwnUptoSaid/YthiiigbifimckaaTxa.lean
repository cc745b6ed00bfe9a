/-
 Plain facts on UTF-8: what Utf8.decode answers is the one rune whose bytes stand there, or (65533, 1) where no rune's bytes stand.
-/
import Derived.Laws.RangeAny
namespace Go.Proofs.Ythiiigbifimckaa.Tx

/-- a rune -/
def Rn (v : Nat) : Prop := v < 55296 ∨ (57344 ≤ v ∧ v ≤ 1114111)
/-- its bytes -/
def enc (v : Nat) : List Nat :=
 if v < 128 then [v] else if v < 2048 then [192 + v / 64, 128 + v % 64] else if v < 65536 then [224 + v / 4096, 128 + v / 64 % 64, 128 + v % 64]
 else [240 + v / 262144, 128 + v / 4096 % 64, 128 + v / 64 % 64, 128 + v % 64]
def byt (s : ByteArray) (i : Nat) : Nat := (s.get! i).toNat
/-- the bytes of v stand at i -/
def Pre (s : ByteArray) (i v : Nat) : Prop := Rn v ∧ i + (enc v).length ≤ s.size ∧ ∀ k, k < (enc v).length → byt s (i + k) = (enc v).getD k 0

def decB (b0 b1 b2 b3 : Nat) (c1 c2 c3 : Bool) : Nat × Nat :=
 if b0 < 0x80 then (b0, 1)
 else if b0 / 32 == 6 && c1 then (if (b0 % 32) * 64 + b1 % 64 ≥ 0x80 then ((b0 % 32) * 64 + b1 % 64, 2) else (65533, 1))
 else if b0 / 16 == 14 && c1 && c2 then
  (if ((b0 % 16) * 4096 + (b1 % 64) * 64 + b2 % 64 ≥ 0x800 && Utf8.valid (((b0 % 16) * 4096 + (b1 % 64) * 64 + b2 % 64 : Nat) : Int)) = true then ((b0 % 16) * 4096 + (b1 % 64) * 64 + b2 % 64, 3) else (65533, 1))
 else if b0 / 8 == 30 && c1 && c2 && c3 then
  (if ((b0 % 8) * 262144 + (b1 % 64) * 4096 + (b2 % 64) * 64 + b3 % 64 ≥ 0x10000 && Utf8.valid (((b0 % 8) * 262144 + (b1 % 64) * 4096 + (b2 % 64) * 64 + b3 % 64 : Nat) : Int)) = true then ((b0 % 8) * 262144 + (b1 % 64) * 4096 + (b2 % 64) * 64 + b3 % 64, 4) else (65533, 1))
 else (65533, 1)
theorem decode_eq (s : ByteArray) (i : Nat) : Utf8.decode s i = decB (byt s (i + 0)) (byt s (i + 1)) (byt s (i + 2)) (byt s (i + 3))
  (decide (i + 1 < s.size) && byt s (i + 1) / 64 == 2) (decide (i + 2 < s.size) && byt s (i + 2) / 64 == 2) (decide (i + 3 < s.size) && byt s (i + 3) / 64 == 2) := by
 rfl

theorem valid_iff (v : Nat) : Utf8.valid (v : Int) = true ↔ Rn v := by
 simp only [Utf8.valid, Rn, Bool.or_eq_true, Bool.and_eq_true, decide_eq_true_eq]
 omega
theorem enc_len (v : Nat) : 1 ≤ (enc v).length ∧ (enc v).length ≤ 4 := by
 unfold enc
 repeat' split
 all_goals simp

theorem dec_of {s : ByteArray} {i v : Nat} (h : Pre s i v) : Utf8.decode s i = (v, (enc v).length) := by
 obtain ⟨hr, hl, hb⟩ := h
 rw [decode_eq]
 unfold enc at hl hb ⊢
 by_cases h1 : v < 128
 ·simp only [h1, if_true, List.length_cons, List.length_nil] at hl hb ⊢
  have b0 := hb 0 (by omega)
  simp at b0
  simp only [decB, Nat.add_zero, b0, h1, if_true]
 ·by_cases h2 : v < 2048
  ·simp only [h1, h2, if_true, if_false, List.length_cons, List.length_nil] at hl hb ⊢
   have b0 := hb 0 (by omega)
   have b1 := hb 1 (by omega)
   simp at b0 b1
   simp only [decB, Nat.add_zero, b0, b1]
   rw [if_neg (by omega), if_pos (by simp; omega), if_pos (by omega)]
   congr 1
   omega
  ·by_cases h3 : v < 65536
   ·simp only [h1, h2, h3, if_true, if_false, List.length_cons, List.length_nil] at hl hb ⊢
    have b0 := hb 0 (by omega)
    have b1 := hb 1 (by omega)
    have b2 := hb 2 (by omega)
    simp at b0 b1 b2
    simp only [decB, Nat.add_zero, b0, b1, b2]
    have e : (224 + v / 4096) % 16 * 4096 + (128 + v / 64 % 64) % 64 * 64 + (128 + v % 64) % 64 = v := by omega
    rw [if_neg (by omega), if_neg (by simp; omega), if_pos (by simp; omega), e, if_pos (by
     rw [Bool.and_eq_true, valid_iff]; exact ⟨by simp; omega, hr⟩)]
   ·have hv : v ≤ 1114111 := by unfold Rn at hr; omega
    simp only [h1, h2, h3, if_false, List.length_cons, List.length_nil] at hl hb ⊢
    have b0 := hb 0 (by omega)
    have b1 := hb 1 (by omega)
    have b2 := hb 2 (by omega)
    have b3 := hb 3 (by omega)
    simp at b0 b1 b2 b3
    simp only [decB, Nat.add_zero, b0, b1, b2, b3]
    have e : (240 + v / 262144) % 8 * 262144 + (128 + v / 4096 % 64) % 64 * 4096 + (128 + v / 64 % 64) % 64 * 64 + (128 + v % 64) % 64 = v := by omega
    rw [if_neg (by omega), if_neg (by simp; omega), if_neg (by simp; omega), if_pos (by simp; omega), e, if_pos (by
     rw [Bool.and_eq_true, valid_iff]; exact ⟨by simp; omega, hr⟩)]

theorem byt_lt (s : ByteArray) (i : Nat) : byt s i < 256 := (s.get! i).toNat_lt

theorem dec_cases (s : ByteArray) (i : Nat) (hi : i < s.size) : (Pre s i (Utf8.decode s i).1 ∧ (Utf8.decode s i).2 = (enc (Utf8.decode s i).1).length) ∨ Utf8.decode s i = (65533, 1) := by
 have k0 := byt_lt s (i + 0); have k1 := byt_lt s (i + 1); have k2 := byt_lt s (i + 2); have k3 := byt_lt s (i + 3)
 rw [decode_eq]
 generalize e0 : byt s (i + 0) = b0 at *
 generalize e1 : byt s (i + 1) = b1 at *
 generalize e2 : byt s (i + 2) = b2 at *
 generalize e3 : byt s (i + 3) = b3 at *
 unfold decB
 split
 ·rename_i h
  left
  refine ⟨⟨by unfold Rn; omega, ?_, ?_⟩, ?_⟩
  ·simp [enc, h]; omega
  ·intro k hk
   simp [enc, h] at hk
   subst hk
   simpa [enc, h] using e0
  ·simp [enc, h]
 ·split
  ·rename_i h0 h
   simp only [Bool.and_eq_true, beq_iff_eq, decide_eq_true_eq] at h
   obtain ⟨h1, h2, h3⟩ := h
   split
   ·rename_i h4
    left
    have n1 : ¬ b0 % 32 * 64 + b1 % 64 < 128 := by omega
    have n2 : b0 % 32 * 64 + b1 % 64 < 2048 := by omega
    have hE : enc (b0 % 32 * 64 + b1 % 64) = [b0, b1] := by
     simp only [enc, n1, n2, if_true, if_false]
     congr 1
     ·omega
     ·congr 1; omega
    refine ⟨⟨by unfold Rn; simp only; omega, ?_, ?_⟩, ?_⟩
    ·simp only; rw [hE]; simp; omega
    ·simp only; rw [hE]
     intro k hk
     simp at hk
     match k, hk with
     | 0, _ => simpa using e0
     | 1, _ => simpa using e1
    ·simp only; rw [hE]; rfl
   ·exact .inr rfl
  ·split
   ·rename_i h0 hx h
    simp only [Bool.and_eq_true, beq_iff_eq, decide_eq_true_eq] at h
    obtain ⟨⟨h1, h2, h3⟩, h4, h5⟩ := h
    split
    ·rename_i h6
     simp only [Bool.and_eq_true, decide_eq_true_eq, valid_iff] at h6
     obtain ⟨h6, h7⟩ := h6
     left
     have n1 : ¬ b0 % 16 * 4096 + b1 % 64 * 64 + b2 % 64 < 128 := by omega
     have n2 : ¬ b0 % 16 * 4096 + b1 % 64 * 64 + b2 % 64 < 2048 := by omega
     have n3 : b0 % 16 * 4096 + b1 % 64 * 64 + b2 % 64 < 65536 := by omega
     have hE : enc (b0 % 16 * 4096 + b1 % 64 * 64 + b2 % 64) = [b0, b1, b2] := by
      simp only [enc, n1, n2, n3, if_true, if_false]
      congr 1
      ·omega
      ·congr 1
       ·omega
       ·congr 1; omega
     refine ⟨⟨h7, ?_, ?_⟩, ?_⟩
     ·simp only; rw [hE]; simp; omega
     ·simp only; rw [hE]
      intro k hk
      simp at hk
      match k, hk with
      | 0, _ => simpa using e0
      | 1, _ => simpa using e1
      | 2, _ => simpa using e2
     ·simp only; rw [hE]; rfl
    ·exact .inr rfl
   ·split
    ·rename_i h0 hx hy h
     simp only [Bool.and_eq_true, beq_iff_eq, decide_eq_true_eq] at h
     obtain ⟨⟨⟨h1, h2, h3⟩, h4, h5⟩, h8, h9⟩ := h
     split
     ·rename_i h6
      simp only [Bool.and_eq_true, decide_eq_true_eq, valid_iff] at h6
      obtain ⟨h6, h7⟩ := h6
      left
      have n1 : ¬ b0 % 8 * 262144 + b1 % 64 * 4096 + b2 % 64 * 64 + b3 % 64 < 128 := by omega
      have n2 : ¬ b0 % 8 * 262144 + b1 % 64 * 4096 + b2 % 64 * 64 + b3 % 64 < 2048 := by omega
      have n3 : ¬ b0 % 8 * 262144 + b1 % 64 * 4096 + b2 % 64 * 64 + b3 % 64 < 65536 := by omega
      have hE : enc (b0 % 8 * 262144 + b1 % 64 * 4096 + b2 % 64 * 64 + b3 % 64) = [b0, b1, b2, b3] := by
       simp only [enc, n1, n2, n3, if_false]
       congr 1
       ·omega
       ·congr 1
        ·omega
        ·congr 1
         ·omega
         ·congr 1; omega
      refine ⟨⟨h7, ?_, ?_⟩, ?_⟩
      ·simp only; rw [hE]; simp; omega
      ·simp only; rw [hE]
       intro k hk
       simp at hk
       match k, hk with
       | 0, _ => simpa using e0
       | 1, _ => simpa using e1
       | 2, _ => simpa using e2
       | 3, _ => simpa using e3
      ·simp only; rw [hE]; rfl
     ·exact .inr rfl
    ·exact .inr rfl
/-- where the decoder tells (65533, 1) no rune's bytes stand -/
theorem no_pre {s : ByteArray} {i v : Nat} (h : Utf8.decode s i = (65533, 1)) : ¬ Pre s i v := by
 intro hp
 rw [dec_of hp] at h
 simp only [Prod.mk.injEq] at h
 obtain ⟨rfl, h⟩ := h
 simp [enc] at h
end Go.Proofs.Ythiiigbifimckaa.Tx
