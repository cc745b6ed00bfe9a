/-
  Plain facts: a text's runes, by the program and by the document's answer.
-/
import Derived.Test.YthiiigbifimckaaPtx3
import Derived.Test.YthiiigbifimckaaPtx5
import Derived.Test.YthiiigbifimckaaPtx6
import Derived.Test.YthiiigbifimckaaTxf
namespace Go.Proofs.Ythiiigbifimckaa.Tx
open Go.RowKit Go.Proofs.YthiiigbifimckaaW.PrintWords Go.Proofs.YthiiigbifimckaaW.PrintLast Go.Proofs.YthiiigbifimckaaW.PrintMore Go.Proofs.Ythiiigbifimckaa.Pt
set_option linter.unusedVariables false
set_option linter.unusedSimpArgs false

/-- the runes from byte i on; the first byte that is none's -/
def runesP (s : ByteArray) : Nat → Nat → List Int → List Int × Int × Int
  | 0, i, acc => (acc, 0, 0)
  | d + 1, i, acc => if i < s.size then (if Utf8.decode s i = (65533, 1) then ([], 10, (i : Int)) else runesP s d (i + (Utf8.decode s i).2) (acc ++ [((Utf8.decode s i).1 : Int)])) else (acc, 0, 0)

theorem dec_pos (s : ByteArray) (i : Nat) (h : i < s.size) : 1 ≤ (Utf8.decode s i).2 ∧ i + (Utf8.decode s i).2 ≤ s.size := by
  rcases dec_cases s i h with ⟨hp, hl⟩ | hb
  · have := enc_len (Utf8.decode s i).1
    have := hp.2.1
    omega
  · rw [hb]; simp only; omega

theorem bad_iff (s : ByteArray) (i : Nat) (h : i < s.size) : Utf8.decode s i = (65533, 1) ↔ (((Utf8.decode s i).1 : Int) = 65533 ∧ strings_HasPrefix.f (s.extract i s.size) ⟨#[239, 191, 189]⟩ = some false) := by
  obtain ⟨b, hb, hb2⟩ := hp_fffd s i h
  rw [hb]
  constructor
  · intro e
    rw [e]
    refine ⟨rfl, ?_⟩
    cases b with
    | false => rfl
    | true => exact absurd (hb2.1 rfl) (no_pre e)
  · rintro ⟨e1, e2⟩
    rcases dec_cases s i h with ⟨hp, hl⟩ | hb3
    · have e : (Utf8.decode s i).1 = 65533 := by omega
      rw [e] at hp
      rw [hb2.2 hp] at e2
      simp at e2
    · exact hb3

theorem valid_l (s : ByteArray) : ∀ (d i k : Nat), i ≤ s.size → s.size - i ≤ d → d < k → text_Valid.l s k i = some ((runesP s d i []).2.1, (runesP s d i []).2.2) ∧ ∀ acc, (runesP s d i acc).2 = (runesP s d i []).2 := by
  intro d
  induction d with
  | zero =>
    intro i k hi hd hk
    obtain ⟨k, rfl⟩ : ∃ m, k = m + 1 := ⟨k - 1, by omega⟩
    refine ⟨?_, fun acc => rfl⟩
    simp only [text_Valid.l, runesP]
    rw [if_neg (by omega)]
  | succ d ih =>
    intro i k hi hd hk
    obtain ⟨k, rfl⟩ : ∃ m, k = m + 1 := ⟨k - 1, by omega⟩
    by_cases h : i < s.size
    · obtain ⟨hw, hw2⟩ := dec_pos s i h
      have hrec := ih (i + (Utf8.decode s i).2) k hw2 (by omega) (by omega)
      obtain ⟨b, hb, hb2⟩ := hp_fffd s i h
      simp only [text_Valid.l, runesP]
      rw [if_pos h, if_pos h]
      by_cases hbad : Utf8.decode s i = (65533, 1)
      · obtain ⟨e1, e2⟩ := (bad_iff s i h).1 hbad
        rw [if_pos e1, e2, Option.bind_some, if_neg (by simp), if_pos hbad]
        refine ⟨rfl, fun acc => ?_⟩
        rw [if_pos h, if_pos hbad]
      · rw [if_neg hbad]
        have hk2 : (if ((Utf8.decode s i).1 : Int) = 65533 then (strings_HasPrefix.f (s.extract i s.size) ⟨#[239, 191, 189]⟩).bind fun b => if b = true then text_Valid.l s k (i + (Utf8.decode s i).2) else some (10, (i : Int)) else text_Valid.l s k (i + (Utf8.decode s i).2)) = text_Valid.l s k (i + (Utf8.decode s i).2) := by
          by_cases e1 : ((Utf8.decode s i).1 : Int) = 65533
          · have hbt : b = true := by
              cases b with
              | true => rfl
              | false => exact absurd ((bad_iff s i h).2 ⟨e1, hb⟩) hbad
            rw [if_pos e1, hb, hbt, Option.bind_some, if_pos rfl]
          · rw [if_neg e1]
        rw [hk2, hrec.1]
        have h2 := hrec.2 ([] ++ [((Utf8.decode s i).1 : Int)])
        refine ⟨by rw [h2], fun acc => ?_⟩
        rw [if_pos h, if_neg hbad, hrec.2, h2]
    · simp only [text_Valid.l, runesP]
      rw [if_neg h, if_neg h]
      refine ⟨rfl, fun acc => ?_⟩
      rw [if_neg h]

theorem valid_eq (s : ByteArray) : text_Valid.f s = some ((runesP s s.size 0 []).2.1, (runesP s s.size 0 []).2.2) := (valid_l s s.size 0 (s.size + 1) (Nat.zero_le _) (Nat.le_refl _) (Nat.lt_succ_self _)).1

theorem runesP_none (s : ByteArray) : ∀ (d i : Nat) (acc : List Int), (runesP s d i acc).2.1 = 0 → (runesP s d i acc).2.2 = 0 := by
  intro d
  induction d with
  | zero => intro i acc _; rfl
  | succ d ih =>
    intro i acc h
    simp only [runesP] at h ⊢
    by_cases h1 : i < s.size
    · rw [if_pos h1] at h ⊢
      by_cases h2 : Utf8.decode s i = (65533, 1)
      · rw [if_pos h2] at h; simp at h
      · rw [if_neg h2] at h ⊢; exact ih _ _ h
    · rw [if_neg h1]
theorem runesP_bad (s : ByteArray) : ∀ (d i : Nat) (acc : List Int), (runesP s d i acc).2.1 ≠ 0 → (runesP s d i acc).1 = [] ∧ (runesP s d i acc).2.1 = 10 := by
  intro d
  induction d with
  | zero => intro i acc h; exact absurd rfl h
  | succ d ih =>
    intro i acc h
    simp only [runesP] at h ⊢
    by_cases h1 : i < s.size
    · rw [if_pos h1] at h ⊢
      by_cases h2 : Utf8.decode s i = (65533, 1)
      · rw [if_pos h2]; exact ⟨rfl, rfl⟩
      · rw [if_neg h2] at h ⊢; exact ih _ _ h
    · rw [if_neg h1] at h; exact absurd rfl h

theorem runes_l (s : ByteArray) (hs : s.size ≤ 35184372087808) : ∀ (d i k : Nat) (acc : List Int), i ≤ s.size → s.size - i ≤ d → d < k → acc.length ≤ i → (runesP s d i acc).2.1 = 0 →
    text_Runes.l s k i acc = some ((runesP s d i acc).1, 0, 0) := by
  intro d
  induction d with
  | zero =>
    intro i k acc hi hd hk ha h0
    obtain ⟨k, rfl⟩ : ∃ m, k = m + 1 := ⟨k - 1, by omega⟩
    simp only [text_Runes.l, runesP]
    rw [if_neg (by omega)]
  | succ d ih =>
    intro i k acc hi hd hk ha h0
    obtain ⟨k, rfl⟩ : ∃ m, k = m + 1 := ⟨k - 1, by omega⟩
    simp only [text_Runes.l, runesP] at h0 ⊢
    by_cases h : i < s.size
    · obtain ⟨hw, hw2⟩ := dec_pos s i h
      rw [if_pos h] at h0 ⊢
      rw [if_pos h, if_pos (by omega)]
      by_cases hbad : Utf8.decode s i = (65533, 1)
      · rw [if_pos hbad] at h0; simp at h0
      · rw [if_neg hbad] at h0 ⊢
        exact ih _ k _ hw2 (by omega) (by omega) (by simp; omega) h0
    · rw [if_neg h, if_neg h]

theorem runes_eq (s : ByteArray) (hs : s.size ≤ 35184372087808) : text_Runes.f s = some (runesP s s.size 0 []) := by
  unfold text_Runes.f
  rw [valid_eq, Option.bind_some]
  by_cases h : (runesP s s.size 0 []).2.1 = 0
  · have h2 := runesP_none s _ _ _ h
    rw [if_pos ⟨h, h2⟩, runes_l s hs s.size 0 (s.size + 1) [] (Nat.zero_le _) (Nat.le_refl _) (Nat.lt_succ_self _) (Nat.zero_le _) h]
    congr 1
    exact Prod.ext rfl (Prod.ext h.symm h2.symm)
  · have h2 := runesP_bad s _ _ _ h
    rw [if_neg (fun e => h e.1)]
    congr 1
    exact Prod.ext h2.1.symm rfl

theorem pc_bad {s : ByteArray} {i : Nat} (h : Utf8.decode s i = (65533, 1)) : pc s i = (0, 1, false) := by unfold pc; rw [if_pos h]
theorem pc_good {s : ByteArray} {i : Nat} (h : ¬ Utf8.decode s i = (65533, 1)) : pc s i = (((Utf8.decode s i).1 : Int), ((Utf8.decode s i).2 : Int), true) := by unfold pc; rw [if_neg h]

theorem rrunes_l (s : ByteArray) (hs : s.size ≤ 35184372087808) : ∀ (d i : Nat) (acc : List Int), i ≤ s.size → s.size - i ≤ d → acc.length ≤ i →
    Ev (fun k => quoinref01_Runes.l0 k s acc i) (runesP s d i acc) := by
  intro d
  induction d with
  | zero =>
    intro i acc hi hd ha
    refine Ev.step (f := fun _ => some (acc, 0, 0)) (fun k => ?_) (Ev.now _)
    simp only [quoinref01_Runes.l0]
    rw [if_neg (by omega)]
  | succ d ih =>
    intro i acc hi hd ha
    simp only [runesP]
    by_cases h : i < s.size
    · obtain ⟨hw, hw2⟩ := dec_pos s i h
      rw [if_pos h]
      have hn := rnext_ev s i (by omega)
      rw [nx_in s i h] at hn
      by_cases hbad : Utf8.decode s i = (65533, 1)
      · rw [if_pos hbad]
        rw [pc_bad hbad] at hn
        refine Ev.step (f := fun k => (quoinref01_Next.f k s i).bind fun t => if t.2.2 = true then (if acc.length < 35184372088832 then quoinref01_Runes.l0 k s (acc ++ [t.1]) (wrap64 ((i : Int) + t.2.1)) else none) else some (([] : List Int), 10, (i : Int))) (fun k => ?_) (Ev.bind hn (Ev.neg (by simp) (Ev.now _)))
        simp only [quoinref01_Runes.l0]
        rw [if_pos (by omega)]
      · rw [if_neg hbad]
        rw [pc_good hbad] at hn
        refine Ev.step (f := fun k => (quoinref01_Next.f k s i).bind fun t => if t.2.2 = true then (if acc.length < 35184372088832 then quoinref01_Runes.l0 k s (acc ++ [t.1]) (wrap64 ((i : Int) + t.2.1)) else none) else some (([] : List Int), 10, (i : Int))) (fun k => ?_) (Ev.bind hn (Ev.pos rfl (Ev.pos (by omega) ?_)))
        · simp only [quoinref01_Runes.l0]
          rw [if_pos (by omega)]
        · have e : wrap64 ((i : Int) + ((Utf8.decode s i).2 : Int)) = ((i + (Utf8.decode s i).2 : Nat) : Int) := by rw [w64] <;> omega
          have := ih (i + (Utf8.decode s i).2) (acc ++ [((Utf8.decode s i).1 : Int)]) hw2 (by omega) (by simp; omega)
          rw [← e] at this
          exact this
    · rw [if_neg h]
      refine Ev.step (f := fun _ => some (acc, 0, 0)) (fun k => ?_) (Ev.now _)
      simp only [quoinref01_Runes.l0]
      rw [if_neg (by omega)]
theorem rrunes_zero (s : ByteArray) (hs : s.size ≤ 35184372087808) : Ev (fun k => quoinref01_Runes.l0 k s [] ((0 : Nat) : Int)) (runesP s s.size 0 []) := rrunes_l s hs s.size 0 [] (Nat.zero_le _) (Nat.le_refl _) (Nat.zero_le _)
theorem rrunes_f (k : Nat) (s : ByteArray) : quoinref01_Runes.f k s = quoinref01_Runes.l0 k s [] ((0 : Nat) : Int) := by
  rw [show ((0 : Nat) : Int) = 0 from rfl]
  rfl
theorem rrunes_ev (s : ByteArray) (hs : s.size ≤ 35184372087808) : Ev (fun k => quoinref01_Runes.f k s) (runesP s s.size 0 []) := Ev.congr (fun k => rrunes_f k s) (rrunes_zero s hs)

theorem runesP_len (s : ByteArray) : ∀ (d i : Nat) (acc : List Int), i ≤ s.size → acc.length ≤ i → (runesP s d i acc).1.length ≤ s.size := by
  intro d
  induction d with
  | zero => intro i acc hi h; simp only [runesP]; omega
  | succ d ih =>
    intro i acc hi h
    simp only [runesP]
    by_cases h1 : i < s.size
    · obtain ⟨hw, hw2⟩ := dec_pos s i h1
      rw [if_pos h1]
      by_cases h2 : Utf8.decode s i = (65533, 1)
      · rw [if_pos h2]; simp
      · rw [if_neg h2]; exact ih _ _ hw2 (by simp; omega)
    · rw [if_neg h1]; simp only; omega

theorem same_l (a b : List Int) (hl : a.length = b.length) (hn : a.length ≤ 9223372036854775806) (he : a = b) : ∀ (d i : Nat), i ≤ a.length → a.length - i = d → Ev (fun k => quoinref01_Same.l0 k a b i) true := by
  subst he
  intro d
  induction d with
  | zero =>
    intro i hi hd
    refine Ev.step (f := fun _ => some true) (fun k => ?_) (Ev.now _)
    simp only [quoinref01_Same.l0]
    rw [if_neg (by omega)]
  | succ d ih =>
    intro i hi hd
    have e : wrap64 ((i : Int) + 1) = ((i + 1 : Nat) : Int) := by rw [w64] <;> omega
    refine Ev.step (f := fun k => quoinref01_Same.l0 k a a ((i + 1 : Nat) : Int)) (fun k => ?_) (ih (i + 1) (by omega) (by omega))
    simp only [quoinref01_Same.l0]
    rw [if_pos (by omega), if_pos (by omega), if_pos (by omega), if_pos trivial, e]
theorem same_zero (a : List Int) (hn : a.length ≤ 9223372036854775806) : Ev (fun k => quoinref01_Same.l0 k a a ((0 : Nat) : Int)) true := same_l a a rfl hn rfl a.length 0 (Nat.zero_le _) rfl
theorem same_f (k : Nat) (a : List Int) : quoinref01_Same.f k a a = quoinref01_Same.l0 k a a ((0 : Nat) : Int) := by
  unfold quoinref01_Same.f
  rw [if_pos rfl, show ((0 : Nat) : Int) = 0 from rfl]
theorem same_ev (a : List Int) (hn : a.length ≤ 9223372036854775806) : Ev (fun k => quoinref01_Same.f k a a) true := Ev.congr (fun k => same_f k a) (same_zero a hn)
end Go.Proofs.Ythiiigbifimckaa.Tx
