/-
 Plain facts: the piece at a byte, by the program and by the document's answer.
-/
import Derived.Test.YthiiigbifimckaaPtx3
import Derived.Test.YthiiigbifimckaaTxb
namespace Go.Proofs.Ythiiigbifimckaa.Tx
open Go.RowKit Go.Proofs.YthiiigbifimckaaW.PrintWords Go.Proofs.YthiiigbifimckaaW.PrintLast Go.Proofs.YthiiigbifimckaaW.PrintMore Go.Proofs.Ythiiigbifimckaa.Pt
set_option linter.unusedVariables false
set_option linter.unusedSimpArgs false

/-- the piece at byte i -/
def pc (s : ByteArray) (i : Nat) : Int × Int × Bool := if Utf8.decode s i = (65533, 1) then (0, 1, false) else (((Utf8.decode s i).1 : Int), ((Utf8.decode s i).2 : Int), true)
def nx (s : ByteArray) (a : Int) : Int × Int × Bool := if 0 ≤ a ∧ a < (s.size : Int) then pc s a.toNat else (0, 0, false)

theorem encode_list (v : Nat) (h : Rn v) : (Utf8.encode (v : Int)).data.toList = (enc v).map UInt8.ofNat := by
 have hv := (valid_iff v).2 h
 unfold Utf8.encode enc
 simp only [hv, if_true, Int.toNat_natCast]
 by_cases h1 : v < 128
 ·simp [h1]
 ·by_cases h2 : v < 2048
  ·simp [h1, h2]
  ·by_cases h3 : v < 65536
   ·simp [h1, h2, h3]
   ·simp [h1, h2, h3]
theorem encode_size (v : Nat) (h : Rn v) : (Utf8.encode (v : Int)).size = (enc v).length := by
 rw [← data_length, encode_list v h, List.length_map]
theorem enc_byte (v : Nat) (h : Rn v) : ∀ x ∈ enc v, x < 256 := by
 have hv : v ≤ 1114111 := by unfold Rn at h; omega
 unfold enc
 repeat' split
 all_goals simp
 all_goals omega

/-- a run of bytes, told by the places -/
theorem slice_iff (s : ByteArray) (i : Nat) (l : List Nat) (hl : ∀ x ∈ l, x < 256) (hi : i + l.length ≤ s.size) :
  (s.data.toList.drop i).take l.length = l.map UInt8.ofNat ↔ ∀ k, k < l.length → byt s (i + k) = l.getD k 0 := by
 have hlen : ((s.data.toList.drop i).take l.length).length = l.length := by
  rw [List.length_take, List.length_drop, data_length]; omega
 constructor
 ·intro h k hk
  have h1 : ((s.data.toList.drop i).take l.length)[k]? = (l.map UInt8.ofNat)[k]? := by rw [h]
  rw [List.getElem?_take, if_pos hk, List.getElem?_drop, List.getElem?_map, List.getElem?_eq_getElem hk] at h1
  rw [byt_list, List.getD_eq_getElem?_getD, h1, List.getD_eq_getElem?_getD, List.getElem?_eq_getElem hk]
  have := hl _ (List.getElem_mem hk)
  simp
  omega
 ·intro h
  apply List.ext_getElem?
  intro k
  by_cases hk : k < l.length
  ·have h1 := h k hk
   rw [List.getElem?_take, if_pos hk, List.getElem?_drop, List.getElem?_map, List.getElem?_eq_getElem hk]
   rw [byt_list, List.getD_eq_getElem?_getD, List.getD_eq_getElem?_getD, List.getElem?_eq_getElem hk] at h1
   have hx : i + k < s.data.toList.length := by rw [data_length]; omega
   rw [List.getElem?_eq_getElem hx] at h1 ⊢
   simp only [Option.getD_some] at h1
   simp only [Option.map_some, Option.some.injEq]
   rw [← h1]
   simp
  ·rw [List.getElem?_eq_none (by omega), List.getElem?_eq_none (by rw [List.length_map]; omega)]

theorem pre_iff (s : ByteArray) (i v : Nat) (h : Rn v) : Pre s i v ↔ i + (enc v).length ≤ s.size ∧ (s.data.toList.drop i).take (enc v).length = (enc v).map UInt8.ofNat := by
 constructor
 ·rintro ⟨_, h1, h2⟩
  exact ⟨h1, (slice_iff s i (enc v) (enc_byte v h) h1).2 h2⟩
 ·rintro ⟨h1, h2⟩
  exact ⟨h, h1, (slice_iff s i (enc v) (enc_byte v h) h1).1 h2⟩

theorem hasPrefix_eq (s p : ByteArray) : strings_HasPrefix.f s p = some (decide (p.size ≤ s.size) && (s.data.toList.take p.size == p.data.toList)) := by
 unfold strings_HasPrefix.f stringslite_HasPrefix.f
 by_cases h : (s.size : Int) ≥ (p.size : Int)
 ·have h' : p.size ≤ s.size := by omega
  rw [if_pos h, if_pos (by omega), if_pos (by omega)]
  simp [h', ByteArray.toList_eq, ext_list]
 ·have h' : ¬ p.size ≤ s.size := by omega
  rw [if_neg h]
  simp [h']

theorem hp_fffd (s : ByteArray) (i : Nat) (hi : i < s.size) : ∃ b, strings_HasPrefix.f (s.extract i s.size) ⟨#[239, 191, 189]⟩ = some b ∧ (b = true ↔ Pre s i 65533) := by
 have hr : Rn 65533 := by unfold Rn; omega
 have he : enc 65533 = [239, 191, 189] := by decide
 rw [hasPrefix_eq]
 refine ⟨_, rfl, ?_⟩
 rw [pre_iff s i 65533 hr, he]
 have hs : (s.extract i s.size).size = s.size - i := by simp
 have h3 : (⟨#[239, 191, 189]⟩ : ByteArray).size = 3 := rfl
 rw [hs, h3, ext_list, List.take_of_length_le (l := List.drop i s.data.toList) (by rw [List.length_drop, data_length]; exact Nat.le_refl _)]
 simp only [Bool.and_eq_true, decide_eq_true_eq, beq_iff_eq, List.length_cons, List.length_nil]
 constructor
 ·rintro ⟨h1, h2⟩; exact ⟨by omega, h2⟩
 ·rintro ⟨h1, h2⟩; exact ⟨by omega, h2⟩

theorem next_eq (s : ByteArray) (a : Int) : text_Next.f s a = some (nx s a) := by
 unfold text_Next.f nx
 by_cases h0 : a < 0
 ·rw [if_pos h0, if_neg (by omega)]
 ·rw [if_neg h0]
  by_cases h1 : a ≥ (s.size : Int)
  ·rw [if_pos h1, if_neg (by omega)]
  ·rw [if_neg h1, if_pos (show 0 ≤ a ∧ a < (s.size : Int) by omega), dec_extract]
   have hi : a.toNat < s.size := by omega
   generalize a.toNat = i at hi
   unfold pc
   rcases dec_cases s i hi with ⟨hp, hl⟩ | hb
   ·have hr := hp.1
    have hne : Utf8.decode s i ≠ (65533, 1) := fun e => no_pre e hp
    rw [if_neg hne, encode_size _ hr, ← hl]
    by_cases h2 : ((Utf8.decode s i).1 : Int) = 65533
    ·rw [if_pos h2]
     obtain ⟨b, hb, hb2⟩ := hp_fffd s i hi
     have e : (Utf8.decode s i).1 = 65533 := by omega
     rw [e] at hp
     rw [hb, hb2.2 hp]
     simp
    ·rw [if_neg h2]
   ·rw [if_pos hb, hb]
    simp only
    rw [if_pos (by omega)]
    obtain ⟨b, hb1, hb2⟩ := hp_fffd s i hi
    rw [hb1]
    have : b = false := by
     cases b with
     | false => rfl
     | true => exact absurd (hb2.1 rfl) (no_pre hb)
    subst this
    rfl

theorem nx_in (s : ByteArray) (i : Nat) (h : i < s.size) : nx s i = pc s i := by
 unfold nx
 rw [if_pos (by omega), Int.toNat_natCast]
theorem pc_size (s : ByteArray) (i : Nat) (h : i < s.size) : 1 ≤ (pc s i).2.1 ∧ (pc s i).2.1 ≤ 4 ∧ (i : Int) + (pc s i).2.1 ≤ s.size := by
 unfold pc
 rcases dec_cases s i h with ⟨hp, hl⟩ | hb
 ·have hne : Utf8.decode s i ≠ (65533, 1) := fun e => no_pre e hp
  have := enc_len (Utf8.decode s i).1
  have := hp.2.1
  rw [if_neg hne]
  simp only
  omega
 ·rw [if_pos hb]
  simp only
  omega
/-- the piece is that of the text from there on -/
theorem pc_extract (s : ByteArray) (i : Nat) : pc (s.extract i s.size) 0 = pc s i := by
 unfold pc; rw [dec_extract]
end Go.Proofs.Ythiiigbifimckaa.Tx
