/-
  Plain facts: lines and columns. The pieces of a text never have a newline inside, so a line's beginning is a byte at which a piece begins.
-/
import Derived.Test.YthiiigbifimckaaPtx14
import Derived.Test.YthiiigbifimckaaPtx15
import Derived.Test.YthiiigbifimckaaTxe
import Derived.Test.YthiiigbifimckaaTxg
namespace Go.Proofs.Ythiiigbifimckaa.Tx
open Go.RowKit Go.Proofs.YthiiigbifimckaaW.PrintWords Go.Proofs.YthiiigbifimckaaW.PrintLast Go.Proofs.YthiiigbifimckaaW.PrintMore Go.Proofs.Ythiiigbifimckaa.Pt
set_option linter.unusedVariables false
set_option linter.unusedSimpArgs false

/-- the width of the piece at byte i -/
def wd (s : ByteArray) (i : Nat) : Nat := (Utf8.decode s i).2
/-- n pieces on -/
def st (s : ByteArray) : Nat → Nat → Nat
  | i, 0 => i
  | i, n + 1 => st s (i + wd s i) n
theorem wd_pos (s : ByteArray) (i : Nat) (h : i < s.size) : 1 ≤ wd s i ∧ i + wd s i ≤ s.size := dec_pos s i h
theorem dec_cut (s : ByteArray) (b p : Nat) : Utf8.decode (s.extract b s.size) p = Utf8.decode s (b + p) := by
  have h := dec_extract (s.extract b s.size) p
  rw [← h, ← dec_extract s (b + p)]
  congr 1
  apply ByteArray.ext
  apply Array.ext'
  rw [ext_list, ext_list, ext_list, List.drop_take, List.drop_drop, List.take_take]
  congr 1
  simp
  omega
theorem wd_pc (s : ByteArray) (i : Nat) : (pc s i).2.1 = (wd s i : Int) := by
  unfold pc wd
  by_cases h : Utf8.decode s i = (65533, 1)
  · rw [if_pos h, h]; rfl
  · rw [if_neg h]

/-- inside a piece no newline stands -/
theorem no_nl (s : ByteArray) (i j : Nat) (hi : i < s.size) (h1 : i < j) (h2 : j < i + wd s i) : byt s j ≠ 10 := by
  rcases dec_cases s i hi with ⟨hp, hl⟩ | hb
  · have hw : wd s i = (enc (Utf8.decode s i).1).length := hl
    obtain ⟨_, _, hb⟩ := hp
    have e := hb (j - i) (by omega)
    rw [show i + (j - i) = j by omega] at e
    rw [e]
    have hlt : j - i < (enc (Utf8.decode s i).1).length := by omega
    revert hlt
    generalize (Utf8.decode s i).1 = v
    have hk : 1 ≤ j - i := by omega
    generalize j - i = k at hk
    unfold enc
    repeat' split
    · intro hlt; simp at hlt; omega
    all_goals
      intro hlt
      simp at hlt
      rcases k with _ | _ | _ | _ | k
      all_goals (simp at hk hlt ⊢)
      all_goals omega
  · have : wd s i = 1 := by unfold wd; rw [hb]
    omega

/-- the number of newlines ahead of byte i -/
def nl (s : ByteArray) : Nat → Nat
  | 0 => 0
  | i + 1 => if byt s i = 10 then nl s i + 1 else nl s i
/-- the line's beginning of byte i -/
def lb (s : ByteArray) : Nat → Nat
  | 0 => 0
  | i + 1 => if byt s i = 10 then i + 1 else lb s i
theorem lb_le (s : ByteArray) : ∀ i, lb s i ≤ i
  | 0 => Nat.le_refl _
  | i + 1 => by unfold lb; split; exact Nat.le_refl _; exact Nat.le_succ_of_le (lb_le s i)
theorem nl_le (s : ByteArray) : ∀ i, nl s i ≤ i
  | 0 => Nat.le_refl _
  | i + 1 => by unfold nl; split; exact Nat.succ_le_succ (nl_le s i); exact Nat.le_succ_of_le (nl_le s i)
theorem lb_no (s : ByteArray) : ∀ i j, lb s i ≤ j → j < i → byt s j ≠ 10
  | 0, j, _, h => by omega
  | i + 1, j, h1, h2 => by
    unfold lb at h1
    split at h1
    · omega
    · rename_i hne
      by_cases e : j = i
      · subst e; exact hne
      · exact lb_no s i j h1 (by omega)
theorem nl_lb (s : ByteArray) : ∀ i, nl s (lb s i) = nl s i
  | 0 => rfl
  | i + 1 => by
    unfold lb
    split
    · rfl
    · rename_i hne
      rw [nl_lb s i]
      show nl s i = nl s (i + 1)
      rw [show nl s (i + 1) = if byt s i = 10 then nl s i + 1 else nl s i from rfl, if_neg hne]
theorem lb_nl (s : ByteArray) : ∀ i, 0 < lb s i → byt s (lb s i - 1) = 10
  | 0, h => by simp [lb] at h
  | i + 1, h => by
    unfold lb at h ⊢
    split
    · rename_i e; simpa using e
    · rename_i e; rw [if_neg e] at h; exact lb_nl s i h

theorem data_get (s : ByteArray) (j : Nat) (a : Nat) (h : j < a) : (s.extract 0 a).data[j]!.toNat = byt s j := by
  show byt (s.extract 0 a) j = _
  rw [byt_list, byt_list, ext_list, List.drop_zero, Nat.sub_zero, List.getD_eq_getElem?_getD, List.getD_eq_getElem?_getD, List.getElem?_take, if_pos h]
theorem lastIdx_lb (s : ByteArray) (a : Nat) : ∀ k, k ≤ a → Lib.lastIdx (s.extract 0 a) 10 k + 1 = (lb s k : Int)
  | 0, _ => rfl
  | k + 1, h => by
    unfold Lib.lastIdx lb
    rw [data_get s k a (by omega)]
    by_cases e : byt s k = 10
    · rw [if_pos e, if_pos (by omega)]; simp
    · rw [if_neg e, if_neg (by omega)]
      exact lastIdx_lb s a k (by omega)
theorem last_lb (s : ByteArray) (a : Nat) (h : a ≤ s.size) : Lib.lastIndexByte (s.extract 0 a) 10 + 1 = (lb s a : Int) := by
  have hs : (s.extract 0 a).size = a := by simp; omega
  unfold Lib.lastIndexByte
  rw [hs]
  exact lastIdx_lb s a a (Nat.le_refl _)
theorem byt_get (s : ByteArray) (i : Nat) (h : i < s.data.toList.length) : byt s i = (s.data.toList[i]).toNat := by
  rw [byt_list, List.getD_eq_getElem?_getD, List.getElem?_eq_getElem h, Option.getD_some]
theorem count_nl (s : ByteArray) : ∀ a, a ≤ s.size → Lib.countByte (s.extract 0 a).data.toList 10 = nl s a
  | 0, _ => by simp [ext_list, Lib.countByte, nl]
  | a + 1, h => by
    have ih := count_nl s a (by omega)
    unfold Lib.countByte at ih ⊢
    rw [ext_list, List.drop_zero, Nat.sub_zero] at ih ⊢
    have hl : a < s.data.toList.length := by rw [data_length]; omega
    rw [List.take_succ_eq_append_getElem hl, List.count_append, ih]
    rw [show nl s (a + 1) = if byt s a = 10 then nl s a + 1 else nl s a from rfl]
    have e := byt_get s a hl
    by_cases h10 : byt s a = 10
    · rw [if_pos h10]
      have : s.data.toList[a] = 10 := UInt8.toNat_inj.1 (by rw [← e, h10]; rfl)
      rw [this]; rfl
    · rw [if_neg h10]
      have : s.data.toList[a] ≠ 10 := fun hh => h10 (by rw [e, hh]; rfl)
      rw [List.count_singleton, if_neg (by simpa using this), Nat.add_zero]

/-- the columns of the pieces that begin ahead of byte a, from byte i on -/
def cols (s : ByteArray) (a : Nat) : Nat → Nat → Nat
  | 0, _ => 0
  | d + 1, i => if i < a then cols s a d (i + wd s i) + 1 else 0

theorem at_l (s : ByteArray) (b a : Nat) (hs : s.size ≤ 140737488351232) (ha : a ≤ s.size) : ∀ (d p k : Nat) (c : Nat), b + p ≤ s.size → s.size - (b + p) ≤ d → d < k → c + d ≤ 140737488351233 →
    text_At.l (s.extract b s.size) b a k p c = some ((c + cols s a d (b + p) : Nat) : Int) := by
  intro d
  induction d with
  | zero =>
    intro p k c h1 h2 h3 h4
    obtain ⟨k, rfl⟩ : ∃ k', k = k' + 1 := ⟨k - 1, by omega⟩
    unfold text_At.l
    have hsz : (s.extract b s.size).size = s.size - b := by simp
    rw [if_neg (by rw [hsz]; omega)]
    simp [cols]
  | succ d ih =>
    intro p k c h1 h2 h3 h4
    obtain ⟨k, rfl⟩ : ∃ k', k = k' + 1 := ⟨k - 1, by omega⟩
    unfold text_At.l
    have hsz : (s.extract b s.size).size = s.size - b := by simp
    unfold cols
    by_cases hp : b + p < s.size
    · rw [if_pos (by rw [hsz]; omega), w64 (by omega) (by omega)]
      by_cases hc : b + p < a
      · rw [if_neg (by omega), if_pos hc, dec_cut, w64 (by omega) (by omega)]
        obtain ⟨w1, w2⟩ := wd_pos s (b + p) hp
        have := ih (p + wd s (b + p)) k (c + 1) (by omega) (by omega) (by omega) (by omega)
        rw [show ((c : Int) + 1) = ((c + 1 : Nat) : Int) by omega]
        refine this.trans ?_
        rw [show b + (p + wd s (b + p)) = b + p + wd s (b + p) by omega]
        congr 2
        omega
      · rw [if_pos (by omega), if_neg hc]; rfl
    · rw [if_neg (by rw [hsz]; omega), if_neg (by omega)]; rfl

theorem at_eq (s : ByteArray) (a : Nat) (hs : s.size ≤ 140737488351232) (ha : a ≤ s.size) :
    text_At.f s a = some (((1 + nl s a : Nat) : Int), ((1 + cols s a s.size (lb s a) : Nat) : Int), (0 : Int)) := by
  unfold text_At.f
  have hl := lb_le s a
  have hn := nl_le s a
  rw [if_neg (by omega), if_neg (by omega), if_pos (by omega), Int.toNat_natCast, last_lb s a ha, w64 (by omega) (by omega), if_pos (by omega), Int.toNat_natCast, count_nl s a ha]
  have := at_l s (lb s a) a hs ha s.size 0 (s.size + 1) 1 (by omega) (by omega) (by omega) (by omega)
  rw [Nat.add_zero] at this
  rw [show ((1 : Nat) : Int) = 1 from rfl] at this
  rw [this, Option.bind_some, w64 (by omega) (by omega)]
  simp
theorem at_no (s : ByteArray) (a : Int) (h : a < 0 ∨ (s.size : Int) < a) : text_At.f s a = some (0, 0, 13) := by
  unfold text_At.f
  by_cases h1 : a < 0
  · rw [if_pos h1]
  · rw [if_neg h1, if_pos (by omega)]

/-- enough pieces are enough -/
theorem cols_fuel (s : ByteArray) (a : Nat) (ha : a ≤ s.size) : ∀ (d e i : Nat), a - i ≤ d → a - i ≤ e → cols s a d i = cols s a e i := by
  intro d
  induction d with
  | zero =>
    intro e i h1 h2
    cases e with
    | zero => rfl
    | succ e => unfold cols; rw [if_neg (by omega)]
  | succ d ih =>
    intro e i h1 h2
    unfold cols
    by_cases h : i < a
    · obtain ⟨w1, w2⟩ := wd_pos s i (by omega)
      cases e with
      | zero => omega
      | succ e => simp only [if_pos h]; rw [ih e (i + wd s i) (by omega) (by omega)]
    · rw [if_neg h]
      cases e with
      | zero => rfl
      | succ e => simp only [if_neg h]

/-! the document's answer -/
theorem rat_l1 (s : ByteArray) (a : Nat) (hs : s.size ≤ 140737488351232) (ha : a ≤ s.size) (ln : Int) : ∀ (d i c : Nat), i ≤ s.size → a - i ≤ d → c ≤ i + 1 →
    Ev (fun k => quoinref01_At.l1 k s a ln c i) (ln, ((c + cols s a d i : Nat) : Int), 0) := by
  intro d
  induction d with
  | zero =>
    intro i c h1 h2 h3
    refine Ev.step (f := fun _ => some (ln, ((c : Nat) : Int), 0)) (fun k => ?_) (Ev.ret (by simp [cols]))
    simp only [quoinref01_At.l1]
    rw [if_neg (by omega)]
  | succ d ih =>
    intro i c h1 h2 h3
    by_cases h : i < a
    · obtain ⟨w1, w2⟩ := wd_pos s i (by omega)
      refine Ev.step (f := fun k => (quoinref01_Next.f k s i).bind fun t => quoinref01_At.l1 k s a ln (wrap64 (c + 1)) (wrap64 (i + t.2.1))) (fun k => ?_) ?_
      · simp only [quoinref01_At.l1]
        rw [if_pos (by omega)]
      · refine Ev.bind (rnext_ev s i hs) ?_
        rw [nx_in s i (by omega), wd_pc, w64 (by omega) (by omega), w64 (by omega) (by omega)]
        have := ih (i + wd s i) (c + 1) (by omega) (by omega) (by omega)
        rw [show ((c : Int) + 1) = ((c + 1 : Nat) : Int) by omega, show ((i : Int) + (wd s i : Int)) = ((i + wd s i : Nat) : Int) by omega]
        have e : c + cols s a (d + 1) i = c + 1 + cols s a d (i + wd s i) := by
          rw [show cols s a (d + 1) i = if i < a then cols s a d (i + wd s i) + 1 else 0 from rfl, if_pos h]; omega
        rw [e]
        exact this
    · refine Ev.step (f := fun _ => some (ln, ((c : Nat) : Int), 0)) (fun k => ?_) (Ev.ret (by simp [cols, h]))
      simp only [quoinref01_At.l1]
      rw [if_neg (by omega)]
theorem rat_l0 (s : ByteArray) (a : Nat) (hs : s.size ≤ 140737488351232) (ha : a ≤ s.size) : ∀ (d i : Nat), i ≤ a → a - i = d →
    Ev (fun k => quoinref01_At.l0 k s a ((1 + nl s i : Nat) : Int) (lb s i : Int) i) (((1 + nl s a : Nat) : Int), ((1 + cols s a s.size (lb s a) : Nat) : Int), (0 : Int)) := by
  intro d
  induction d with
  | zero =>
    intro i h1 h2
    obtain rfl : i = a := by omega
    refine Ev.step (f := fun k => quoinref01_At.l1 k s i ((1 + nl s i : Nat) : Int) 1 (lb s i : Int)) (fun k => ?_) ?_
    · simp only [quoinref01_At.l0]
      rw [if_neg (by omega)]
    · have hl := lb_le s i
      exact rat_l1 s i hs ha ((1 + nl s i : Nat) : Int) s.size (lb s i) 1 (by omega) (by omega) (by omega)
  | succ d ih =>
    intro i h1 h2
    have hn := nl_le s i
    have := ih (i + 1) (by omega) (by omega)
    refine Ev.step (fun k => ?_) this
    simp only [quoinref01_At.l0]
    rw [if_pos (by omega), if_pos (by omega), if_pos (by omega), bt_byt s i (by omega)]
    rw [show nl s (i + 1) = if byt s i = 10 then nl s i + 1 else nl s i from rfl, show lb s (i + 1) = if byt s i = 10 then i + 1 else lb s i from rfl]
    by_cases h : byt s i = 10
    · rw [if_pos (by omega), if_pos h, if_pos h, w64 (by omega) (by omega), w64 (by omega) (by omega)]
      congr 1
    · rw [if_neg (by omega), if_neg h, if_neg h, w64 (by omega) (by omega)]
      congr 1
theorem rat_ev (s : ByteArray) (a : Nat) (hs : s.size ≤ 140737488351232) (ha : a ≤ s.size) :
    Ev (fun k => quoinref01_At.f k s a) (((1 + nl s a : Nat) : Int), ((1 + cols s a s.size (lb s a) : Nat) : Int), (0 : Int)) := by
  refine Ev.congr (g := fun k => quoinref01_At.f k s a) (f := fun k => quoinref01_At.j0 k s a false) (fun k => ?_) ?_
  · unfold quoinref01_At.f
    rw [if_neg (by omega), decide_eq_false (by omega)]
  · refine Ev.step (fun k => ?_) (rat_l0 s a hs ha a 0 (Nat.zero_le _) rfl)
    simp only [quoinref01_At.j0]
    rw [if_neg (by simp)]
    rfl
theorem rat_no (s : ByteArray) (a : Int) (h : a < 0 ∨ (s.size : Int) < a) : Ev (fun k => quoinref01_At.f k s a) (0, 0, 13) := by
  refine Ev.congr (g := fun k => quoinref01_At.f k s a) (f := fun k => quoinref01_At.j0 k s a true) (fun k => ?_) ?_
  · unfold quoinref01_At.f
    by_cases h1 : a < 0
    · rw [if_pos h1]
    · rw [if_neg h1, decide_eq_true (by omega)]
  · refine Ev.step (f := fun _ => some (0, 0, 13)) (fun k => ?_) (Ev.now _)
    simp only [quoinref01_At.j0]
    rw [if_pos trivial]

/-! the byte of a place -/
/-- the beginning of a line, counted from byte p, in line n -/
def lA (line : Int) : List UInt8 → Nat → Int → Option Nat
  | [], p, n => if n = line ∧ 1 ≤ line then some p else none
  | b :: l, p, n => if n < line then lA line l (p + 1) (if b = 10 then n + 1 else n) else if n = line ∧ 1 ≤ line then some p else none
def cB (s : ByteArray) (col : Int) : Nat → Nat → Int → Option Nat
  | 0, i, c => if c = col then some i else none
  | d + 1, i, c => if c = col then some i else if i < s.size ∧ byt s i ≠ 10 then cB s col d (i + wd s i) (c + 1) else none
def byP (s : ByteArray) (line col : Int) : Int × Int := ((lA line s.data.toList 0 1).bind fun b => cB s col s.size b 1).elim (0, 13) fun i => ((i : Int), 0)

theorem lA_miss (line : Int) : ∀ (l : List UInt8) (p : Nat) (n : Int), n < line → Lib.indexByte l 10 < 0 → lA line l p n = none
  | [], p, n, h, _ => by unfold lA; rw [if_neg (by omega)]
  | b :: l, p, n, h, hi => by
    unfold lA
    rw [if_pos h]
    have hge := Lib.indexByte_ge l 10
    unfold Lib.indexByte at hi
    by_cases hb : (b == 10) = true
    · rw [if_pos hb] at hi; omega
    · rw [if_neg hb] at hi
      rw [if_neg (by simpa using hb)]
      refine lA_miss line l (p + 1) n h ?_
      by_cases h1 : (Lib.indexByte l 10 == -1) = true
      · have : Lib.indexByte l 10 = -1 := by simpa using h1
        omega
      · rw [if_neg h1] at hi
        have : Lib.indexByte l 10 ≠ -1 := by simpa using h1
        omega
theorem lA_hit (line : Int) : ∀ (l : List UInt8) (p : Nat) (n : Int) (j : Nat), n < line → Lib.indexByte l 10 = j → lA line l p n = lA line (l.drop (j + 1)) (p + j + 1) (n + 1) ∧ j < l.length
  | [], p, n, j, h, hi => by simp [Lib.indexByte] at hi
  | b :: l, p, n, j, h, hi => by
    have hge := Lib.indexByte_ge l 10
    unfold Lib.indexByte at hi
    rw [show lA line (b :: l) p n = if n < line then lA line l (p + 1) (if b = 10 then n + 1 else n) else if n = line ∧ 1 ≤ line then some p else none from rfl, if_pos h]
    by_cases hb : (b == 10) = true
    · rw [if_pos hb] at hi
      obtain rfl : j = 0 := by omega
      rw [if_pos (by simpa using hb)]
      exact ⟨rfl, by simp⟩
    · rw [if_neg hb] at hi
      rw [if_neg (by simpa using hb)]
      by_cases h1 : (Lib.indexByte l 10 == -1) = true
      · rw [if_pos h1] at hi; omega
      · rw [if_neg h1] at hi
        have : Lib.indexByte l 10 ≠ -1 := by simpa using h1
        obtain ⟨j', rfl⟩ : ∃ j', j = j' + 1 := ⟨j - 1, by omega⟩
        obtain ⟨e, e2⟩ := lA_hit line l (p + 1) n j' h (by omega)
        rw [e]
        refine ⟨?_, by simp; omega⟩
        rw [List.drop_succ_cons]
        congr 1
        omega
theorem dec_nl (s : ByteArray) (i : Nat) (hi : i < s.size) : (((Utf8.decode s i).1 : Int) = 10 ↔ byt s i = 10) ∧ (byt s i = 10 → wd s i = 1) := by
  constructor
  · constructor
    · intro h
      have h : (Utf8.decode s i).1 = 10 := by omega
      rcases dec_cases s i hi with ⟨hp, hl⟩ | hb
      · rw [h] at hp
        have := hp.2.2 0 (enc_len 10).1
        simpa [enc] using this
      · rw [hb] at h; simp at h
    · intro h
      rw [decode_eq, Nat.add_zero, h]
      rfl
  · intro h
    unfold wd
    rw [decode_eq, Nat.add_zero, h]
    rfl
theorem by_l1 (s : ByteArray) (col : Int) (b : Nat) (hs : s.size ≤ 140737488351232) : ∀ (d p k : Nat) (c : Int), b + p ≤ s.size → s.size - (b + p) ≤ d → d < k → 1 ≤ c → c + d ≤ 140737488351233 →
    text_Byte.l1 (s.extract b s.size) b s.size col k p c = some ((cB s col d (b + p) c).elim (0, 13) fun i => ((i : Int), 0)) := by
  intro d
  induction d with
  | zero =>
    intro p k c h1 h2 h3 h4 h5
    obtain ⟨k, rfl⟩ : ∃ k', k = k' + 1 := ⟨k - 1, by omega⟩
    have hsz : (s.extract b s.size).size = s.size - b := by simp
    unfold text_Byte.l1 cB
    rw [if_neg (by rw [hsz]; omega)]
    by_cases hc : c = col
    · rw [if_pos hc, if_pos hc, show b + p = s.size by omega]; rfl
    · rw [if_neg hc, if_neg hc]; rfl
  | succ d ih =>
    intro p k c h1 h2 h3 h4 h5
    obtain ⟨k, rfl⟩ : ∃ k', k = k' + 1 := ⟨k - 1, by omega⟩
    have hsz : (s.extract b s.size).size = s.size - b := by simp
    unfold text_Byte.l1 cB
    by_cases hp : b + p < s.size
    · rw [if_pos (by rw [hsz]; omega), dec_cut]
      by_cases hc : c = col
      · rw [if_pos hc, if_pos hc, w64 (by omega) (by omega)]; rfl
      · rw [if_neg hc, if_neg hc]
        obtain ⟨e, _⟩ := dec_nl s (b + p) hp
        obtain ⟨w1, w2⟩ := wd_pos s (b + p) hp
        by_cases h10 : byt s (b + p) = 10
        · rw [if_pos (e.2 h10), if_neg (fun h => h.2 h10)]; rfl
        · rw [if_neg (fun h => h10 (e.1 h)), if_pos ⟨hp, h10⟩, w64 (by omega) (by omega)]
          have := ih (p + wd s (b + p)) k (c + 1) (by omega) (by omega) (by omega) (by omega) (by omega)
          rw [show b + (p + wd s (b + p)) = b + p + wd s (b + p) by omega] at this
          exact this
    · rw [if_neg (by rw [hsz]; omega)]
      by_cases hc : c = col
      · rw [if_pos hc, if_pos hc, show b + p = s.size by omega]; rfl
      · rw [if_neg hc, if_neg hc, if_neg (fun h => hp h.1)]; rfl
theorem cB_none (s : ByteArray) (col : Int) : ∀ (d i : Nat) (c : Int), col < c → cB s col d i c = none
  | 0, i, c, h => by unfold cB; rw [if_neg (by omega)]
  | d + 1, i, c, h => by
    unfold cB
    rw [if_neg (by omega), cB_none s col d _ _ (by omega)]
    split <;> rfl
theorem by_l0 (s : ByteArray) (line col : Int) (hs : s.size ≤ 140737488351232) : ∀ (d b k : Nat) (n : Int), b ≤ s.size → s.size - b ≤ d → d + 1 < k → 1 ≤ n → n + d ≤ 140737488351233 → (n ≤ line ∨ n = 1) →
    text_Byte.l0 s line col k b n = some (((lA line (s.data.toList.drop b) b n).bind fun b => cB s col s.size b 1).elim (0, 13) fun i => ((i : Int), 0)) := by
  intro d
  induction d using Nat.strongRecOn with
  | _ d ih =>
    intro b k n h1 h2 h3 h4 h5 h6
    obtain ⟨k, rfl⟩ : ∃ k', k = k' + 1 := ⟨k - 1, by omega⟩
    unfold text_Byte.l0
    by_cases hn : n < line
    · rw [if_pos hn, if_pos ⟨by omega, by omega⟩, Int.toNat_natCast]
      have el : (s.extract b s.size).data.toList = s.data.toList.drop b := by
        rw [ext_list, List.take_of_length_le (by rw [List.length_drop, data_length]; exact Nat.le_refl _)]
      rw [el]
      by_cases hi : Lib.indexByte (s.data.toList.drop b) 10 < 0
      · rw [if_pos hi, lA_miss line _ b n hn hi]; rfl
      · rw [if_neg hi]
        obtain ⟨j, hj⟩ : ∃ j : Nat, Lib.indexByte (s.data.toList.drop b) 10 = j := ⟨(Lib.indexByte (s.data.toList.drop b) 10).toNat, by omega⟩
        obtain ⟨e1, e2⟩ := lA_hit line _ b n j hn hj
        rw [List.length_drop, data_length] at e2
        rw [hj, w64 (x := (j : Int) + 1) (by omega) (by omega), w64 (x := (b : Int) + ((j : Int) + 1)) (by omega) (by omega), w64 (x := n + 1) (by omega) (by omega), e1, List.drop_drop]
        have := ih (s.size - (b + j + 1)) (by omega) (b + j + 1) k (n + 1) (by omega) (by omega) (by omega) (by omega) (by omega) (Or.inl (by omega))
        rw [show (b : Int) + ((j : Int) + 1) = ((b + j + 1 : Nat) : Int) by omega, show b + (j + 1) = b + j + 1 by omega]
        exact this
    · rw [if_neg hn]
      unfold text_Byte.e
      have e : lA line (s.data.toList.drop b) b n = if n = line ∧ 1 ≤ line then some b else none := by
        cases s.data.toList.drop b with
        | nil => rfl
        | cons x l => unfold lA; rw [if_neg hn]
      rw [e]
      by_cases hl : line < 1
      · rw [if_pos hl, if_neg (by omega)]; rfl
      · rw [if_neg hl, if_pos (show n = line ∧ 1 ≤ line from ⟨by omega, by omega⟩)]
        show _ = some ((cB s col s.size b 1).elim (0, 13) fun i => ((i : Int), 0))
        by_cases hc : col < 1
        · rw [if_pos hc, cB_none s col _ _ _ hc]; rfl
        · rw [if_neg hc, if_pos ⟨by omega, by omega⟩, Int.toNat_natCast]
          have := by_l1 s col b hs s.size 0 (s.size + 1) 1 (by omega) (by omega) (by omega) (by omega) (by omega)
          rw [Nat.add_zero] at this
          exact this
theorem by_eq (s : ByteArray) (line col : Int) (hs : s.size ≤ 140737488351232) : text_Byte.f s line col = some (byP s line col) := by
  unfold text_Byte.f
  have := by_l0 s line col hs s.size 0 (s.size + 2) 1 (Nat.zero_le _) (by omega) (by omega) (by omega) (by omega) (Or.inr rfl)
  rw [List.drop_zero] at this
  exact this

theorem drop_byt (s : ByteArray) (i : Nat) (h : i < s.size) : ∃ b l, s.data.toList.drop i = b :: l ∧ s.data.toList.drop (i + 1) = l ∧ (b = 10 ↔ byt s i = 10) := by
  have hl : i < s.data.toList.length := by rw [data_length]; exact h
  refine ⟨s.data.toList[i], s.data.toList.drop (i + 1), List.drop_eq_getElem_cons hl, rfl, ?_⟩
  rw [byt_get s i hl]
  constructor
  · intro e; rw [e]; rfl
  · intro e; exact UInt8.toNat_inj.1 (by rw [e]; rfl)
theorem rby_l1 (s : ByteArray) (col : Int) (hs : s.size ≤ 140737488351232) : ∀ (d i : Nat) (c : Int), i ≤ s.size → s.size - i ≤ d → 1 ≤ c → c + d ≤ 140737488351233 →
    Ev (fun k => quoinref01_Byte.l1 k s col i c) ((cB s col d i c).elim (0, 13) fun i => ((i : Int), 0)) := by
  intro d
  induction d with
  | zero =>
    intro i c h1 h2 h3 h4
    unfold cB
    by_cases hc : c = col
    · refine Ev.step (f := fun _ => some ((i : Int), 0)) (fun k => ?_) (Ev.ret (by rw [if_pos hc]; rfl))
      simp only [quoinref01_Byte.l1]
      rw [if_pos hc]
    · refine Ev.step (f := fun _ => some (0, 13)) (fun k => ?_) (Ev.ret (by rw [if_neg hc]; rfl))
      simp only [quoinref01_Byte.l1]
      rw [if_neg hc, if_pos (by omega)]
  | succ d ih =>
    intro i c h1 h2 h3 h4
    unfold cB
    by_cases hc : c = col
    · refine Ev.step (f := fun _ => some ((i : Int), 0)) (fun k => ?_) (Ev.ret (by rw [if_pos hc]; rfl))
      simp only [quoinref01_Byte.l1]
      rw [if_pos hc]
    · by_cases hi : i < s.size
      · by_cases h10 : byt s i = 10
        · refine Ev.step (f := fun _ => some (0, 13)) (fun k => ?_) (Ev.ret (by rw [if_neg hc, if_neg (fun h => h.2 h10)]; rfl))
          simp only [quoinref01_Byte.l1]
          rw [if_neg hc, if_neg (by omega), if_pos (by omega), if_pos (by omega), bt_byt s i hi, if_pos (by omega)]
        · obtain ⟨w1, w2⟩ := wd_pos s i hi
          rw [if_neg hc, if_pos ⟨hi, h10⟩]
          refine Ev.step (f := fun k => (quoinref01_Next.f k s i).bind fun t => quoinref01_Byte.l1 k s col (wrap64 (i + t.2.1)) (wrap64 (c + 1))) (fun k => ?_) ?_
          · simp only [quoinref01_Byte.l1]
            rw [if_neg hc, if_neg (by omega), if_pos (by omega), if_pos (by omega), bt_byt s i hi, if_neg (by omega)]
          · refine Ev.bind (rnext_ev s i hs) ?_
            rw [nx_in s i hi, wd_pc, w64 (by omega) (by omega), w64 (by omega) (by omega)]
            exact ih (i + wd s i) (c + 1) (by omega) (by omega) (by omega) (by omega)
      · refine Ev.step (f := fun _ => some (0, 13)) (fun k => ?_) (Ev.ret (by rw [if_neg hc, if_neg (fun h => hi h.1)]; rfl))
        simp only [quoinref01_Byte.l1]
        rw [if_neg hc, if_pos (by omega)]
theorem rby_end (s : ByteArray) (line col : Int) (hs : s.size ≤ 140737488351232) (i : Nat) (n : Int) (h : i ≤ s.size) :
    Ev (fun k => quoinref01_Byte.j1 k s line col i n false) (((if n = line ∧ 1 ≤ line then some i else none).bind fun b => cB s col s.size b 1).elim (0, 13) fun i => ((i : Int), 0)) := by
  by_cases hn : n = line
  · by_cases hl : line < 1
    · rw [if_neg (by omega)]
      refine Ev.step (f := fun k => quoinref01_Byte.j2 k s col i true) (fun k => ?_) ?_
      · simp only [quoinref01_Byte.j1]
        rw [if_neg (by simp), if_pos hn, decide_eq_true hl]
      · refine Ev.step (f := fun _ => some (0, 13)) (fun k => ?_) (Ev.now _)
        simp only [quoinref01_Byte.j2]
        rw [if_pos trivial]
    · rw [if_pos ⟨hn, by omega⟩]
      refine Ev.step (f := fun k => quoinref01_Byte.j2 k s col i false) (fun k => ?_) ?_
      · simp only [quoinref01_Byte.j1]
        rw [if_neg (by simp), if_pos hn, decide_eq_false hl]
      · refine Ev.step (f := fun k => quoinref01_Byte.l1 k s col i 1) (fun k => ?_) (rby_l1 s col hs s.size i 1 h (by omega) (by omega) (by omega))
        simp only [quoinref01_Byte.j2]
        rw [if_neg (by simp)]
  · rw [if_neg (fun h => hn h.1)]
    refine Ev.step (f := fun k => quoinref01_Byte.j2 k s col i true) (fun k => ?_) ?_
    · simp only [quoinref01_Byte.j1]
      rw [if_neg (by simp), if_neg hn]
    · refine Ev.step (f := fun _ => some (0, 13)) (fun k => ?_) (Ev.now _)
      simp only [quoinref01_Byte.j2]
      rw [if_pos trivial]
theorem rby_l0 (s : ByteArray) (line col : Int) (hs : s.size ≤ 140737488351232) : ∀ (d i : Nat) (n : Int), i ≤ s.size → s.size - i = d → 1 ≤ n → n + d ≤ 140737488351233 →
    Ev (fun k => quoinref01_Byte.l0 k s line col i n) (((lA line (s.data.toList.drop i) i n).bind fun b => cB s col s.size b 1).elim (0, 13) fun i => ((i : Int), 0)) := by
  intro d
  induction d with
  | zero =>
    intro i n h1 h2 h3 h4
    rw [List.drop_of_length_le (by rw [data_length]; omega)]
    unfold lA
    refine Ev.step (f := fun k => quoinref01_Byte.j1 k s line col i n false) (fun k => ?_) (rby_end s line col hs i n h1)
    simp only [quoinref01_Byte.l0]
    rw [if_neg (by omega)]
  | succ d ih =>
    intro i n h1 h2 h3 h4
    obtain ⟨b, l, e1, e2, e3⟩ := drop_byt s i (by omega)
    rw [e1]
    unfold lA
    by_cases hn : n < line
    · rw [if_pos hn]
      refine Ev.step (f := fun k => quoinref01_Byte.j1 k s line col i n true) (fun k => ?_) ?_
      · simp only [quoinref01_Byte.l0]
        rw [if_pos (by omega), decide_eq_true hn]
      · have := ih (i + 1) (if b = 10 then n + 1 else n) (by omega) (by omega) (by split <;> omega) (by split <;> omega)
        rw [e2] at this
        refine Ev.step (fun k => ?_) this
        simp only [quoinref01_Byte.j1]
        rw [if_pos trivial, if_pos (by omega), if_pos (by omega), bt_byt s i (by omega), w64 (x := (i : Int) + 1) (by omega) (by omega)]
        by_cases h10 : byt s i = 10
        · rw [if_pos (by omega), if_pos (e3.2 h10), w64 (by omega) (by omega)]
          congr 1
        · rw [if_neg (by omega), if_neg (fun h => h10 (e3.1 h))]
          congr 1
    · rw [if_neg hn]
      refine Ev.step (f := fun k => quoinref01_Byte.j1 k s line col i n false) (fun k => ?_) (rby_end s line col hs i n h1)
      simp only [quoinref01_Byte.l0]
      rw [if_pos (by omega), decide_eq_false hn]
theorem rby_ev (s : ByteArray) (line col : Int) (hs : s.size ≤ 140737488351232) : Ev (fun k => quoinref01_Byte.f k s line col) (byP s line col) := by
  have := rby_l0 s line col hs s.size 0 1 (Nat.zero_le _) rfl (by omega) (by omega)
  rw [List.drop_zero] at this
  exact this

/-! the place of a byte at which a piece begins leads back -/
inductive Rch (s : ByteArray) (a : Nat) : Nat → Prop
  | here : Rch s a a
  | on {i : Nat} : i < s.size → Rch s a (i + wd s i) → Rch s a i
theorem Rch.le {s : ByteArray} {a i : Nat} (h : Rch s a i) : i ≤ a := by
  induction h with
  | here => exact Nat.le_refl _
  | on hi _ ih => have := wd_pos s _ hi; omega
theorem Rch.line {s : ByteArray} {a i : Nat} (h : Rch s a i) : ∀ j, i ≤ j → j ≤ a → (j = 0 ∨ byt s (j - 1) = 10) → Rch s a j := by
  induction h with
  | here => intro j h1 h2 _; obtain rfl : a = j := by omega
            exact Rch.here
  | @on i hi hr ih =>
    intro j h1 h2 h3
    by_cases e : j = i
    · subst e; exact Rch.on hi hr
    · refine ih j ?_ h2 h3
      have hb : byt s (j - 1) = 10 := h3.resolve_left (by omega)
      by_cases e2 : j - 1 = i
      · have := (dec_nl s i hi).2 (by rw [← e2]; exact hb)
        omega
      · by_cases h4 : j < i + wd s i
        · exact absurd hb (no_nl s i (j - 1) hi (by omega) (by omega))
        · omega
theorem cB_at {s : ByteArray} {a : Nat} (ha : a ≤ s.size) {i : Nat} (h : Rch s a i) : ∀ (D d : Nat) (c : Int), lb s a ≤ i → a - i ≤ D → s.size - i ≤ d → cB s (c + cols s a D i) d i c = some a := by
  induction h with
  | here =>
    intro D d c h1 h2 h3
    have e : cols s a D a = 0 := by cases D with
      | zero => rfl
      | succ D => unfold cols; rw [if_neg (by omega)]
    rw [e]
    cases d with
    | zero => unfold cB; rw [if_pos (by simp)]
    | succ d => unfold cB; rw [if_pos (by simp)]
  | @on i hi hr ih =>
    intro D d c h1 h2 h3
    have hle := hr.le
    obtain ⟨w1, w2⟩ := wd_pos s i hi
    obtain ⟨D, rfl⟩ : ∃ D', D = D' + 1 := ⟨D - 1, by omega⟩
    obtain ⟨d, rfl⟩ : ∃ d', d = d' + 1 := ⟨d - 1, by omega⟩
    have e : cols s a (D + 1) i = cols s a D (i + wd s i) + 1 := by
      rw [show cols s a (D + 1) i = if i < a then cols s a D (i + wd s i) + 1 else 0 from rfl, if_pos (by omega)]
    rw [e]
    unfold cB
    rw [if_neg (by omega), if_pos ⟨hi, lb_no s a i h1 (by omega)⟩]
    have := ih D d (c + 1) (by omega) (by omega) (by omega)
    rw [show c + ((cols s a D (i + wd s i) + 1 : Nat) : Int) = c + 1 + (cols s a D (i + wd s i) : Int) by omega]
    exact this
theorem nl_mono (s : ByteArray) (i : Nat) : ∀ d, nl s i ≤ nl s (i + d)
  | 0 => Nat.le_refl _
  | d + 1 => by
    have := nl_mono s i d
    rw [show i + (d + 1) = (i + d) + 1 by omega, show nl s (i + d + 1) = if byt s (i + d) = 10 then nl s (i + d) + 1 else nl s (i + d) from rfl]
    split <;> omega
theorem nl_lt (s : ByteArray) (a i : Nat) (h : i < lb s a) : nl s i < nl s a := by
  have hb := lb_nl s a (by omega)
  have e : nl s (lb s a) = nl s (lb s a - 1) + 1 := by
    have : nl s (lb s a - 1 + 1) = if byt s (lb s a - 1) = 10 then nl s (lb s a - 1) + 1 else nl s (lb s a - 1) := rfl
    rw [if_pos hb, show lb s a - 1 + 1 = lb s a by omega] at this
    exact this
  have := nl_mono s i (lb s a - 1 - i)
  rw [show i + (lb s a - 1 - i) = lb s a - 1 by omega] at this
  rw [← nl_lb s a, e]
  omega
theorem lA_at (s : ByteArray) (a : Nat) (ha : a ≤ s.size) : ∀ (d i : Nat), i ≤ lb s a → lb s a - i = d → lA ((1 + nl s a : Nat) : Int) (s.data.toList.drop i) i ((1 + nl s i : Nat) : Int) = some (lb s a) := by
  have hl := lb_le s a
  intro d
  induction d with
  | zero =>
    intro i h1 h2
    obtain rfl : i = lb s a := by omega
    rw [nl_lb]
    cases s.data.toList.drop (lb s a) with
    | nil => unfold lA; rw [if_pos ⟨rfl, by omega⟩]
    | cons b l => unfold lA; rw [if_neg (by omega), if_pos ⟨rfl, by omega⟩]
  | succ d ih =>
    intro i h1 h2
    obtain ⟨b, l, e1, e2, e3⟩ := drop_byt s i (by omega)
    have hlt := nl_lt s a i (by omega)
    rw [e1]
    unfold lA
    rw [if_pos (by omega)]
    have := ih (i + 1) (by omega) (by omega)
    rw [e2, show nl s (i + 1) = if byt s i = 10 then nl s i + 1 else nl s i from rfl] at this
    by_cases h10 : byt s i = 10
    · rw [if_pos h10] at this
      rw [if_pos (e3.2 h10)]
      exact this
    · rw [if_neg h10] at this
      rw [if_neg (fun h => h10 (e3.1 h))]
      exact this
theorem back_at (s : ByteArray) (a : Nat) (ha : a ≤ s.size) (h : Rch s a 0) : byP s ((1 + nl s a : Nat) : Int) ((1 + cols s a s.size (lb s a) : Nat) : Int) = ((a : Int), 0) := by
  unfold byP
  have e := lA_at s a ha (lb s a) 0 (Nat.zero_le _) rfl
  rw [List.drop_zero] at e
  rw [show ((1 + nl s 0 : Nat) : Int) = 1 from rfl] at e
  rw [e]
  have hl := lb_le s a
  have hr : Rch s a (lb s a) := h.line (lb s a) (Nat.zero_le _) hl (by
    by_cases e0 : lb s a = 0
    · exact Or.inl e0
    · exact Or.inr (lb_nl s a (by omega)))
  have := cB_at ha hr s.size s.size 1 (Nat.le_refl _) (by omega) (by omega)
  rw [show ((1 + cols s a s.size (lb s a) : Nat) : Int) = 1 + (cols s a s.size (lb s a) : Int) by omega, Option.bind_some, this]
  rfl
end Go.Proofs.Ythiiigbifimckaa.Tx
