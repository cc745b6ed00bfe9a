/-
  Plain facts: what is quoted is read as the same value.
-/
import Derived.Test.YthiiigbifimckaaTxl
namespace Go.Proofs.Ythiiigbifimckaa.Tx
open Go.RowKit Go.Proofs.YthiiigbifimckaaW.PrintWords Go.Proofs.YthiiigbifimckaaW.PrintLast Go.Proofs.YthiiigbifimckaaW.PrintMore Go.Proofs.Ythiiigbifimckaa.Pt
set_option linter.unusedVariables false
set_option linter.unusedSimpArgs false

theorem quo_acc (v : ByteArray) : ∀ (d i : Nat) (acc : List UInt8), quo v d i acc = acc ++ quo v d i []
  | 0, i, acc => by simp [quo]
  | d + 1, i, acc => by
    unfold quo
    by_cases h : i < v.size
    · rw [if_pos h, if_pos h, quo_acc v d _ (acc ++ pq v i), quo_acc v d _ ([] ++ pq v i), List.nil_append, List.append_assoc]
    · rw [if_neg h, if_neg h, List.append_nil]
theorem byt_of_drop {q : ByteArray} {j : Nat} {l : List UInt8} (h : q.data.toList.drop j = l) (k : Nat) : byt q (j + k) = (l.getD k 0).toNat := by
  rw [byt_list, List.getD_eq_getElem?_getD, List.getD_eq_getElem?_getD, ← h, List.getElem?_drop]
theorem size_of_drop {q : ByteArray} {j : Nat} {x : UInt8} {l : List UInt8} (h : q.data.toList.drop j = x :: l) : j + (l.length + 1) = q.size := by
  have := congrArg List.length h
  rw [List.length_drop, data_length, List.length_cons] at this
  omega
theorem hx_hex : ∀ n : Fin 16, hx (hexByte (n.val : Int)).toNat = (n.val : Int) := by decide +kernel
theorem u8_of (n : Nat) (h : n < 256) : (n.toUInt8).toNat = n := by
  show n % 256 = n
  omega
/-- the part that a piece's quoted form is -/
theorem prt_pq (v q : ByteArray) (i j : Nat) (rest : List UInt8) (hi : i < v.size) (h : q.data.toList.drop j = pq v i ++ rest) :
    byt q j ≠ 34 ∧ j < q.size ∧ prt q j = some ((v.extract i (i + wd v i)).data.toList, (pq v i).length) := by
  have hbt : bt v i = (byt v i : Int) := bt_byt v i hi
  have hby := byt_lt v i
  have esc92 : ∀ (c : UInt8) (l : List UInt8), pq v i = 92 :: c :: l → byt q j = 92 ∧ j + 1 < q.size ∧ byt q (j + 1) = c.toNat ∧ prt q j = esc q j := by
    intro c l e
    rw [e] at h
    have b0 : byt q j = 92 := by have := byt_of_drop h 0; rw [Nat.add_zero] at this; rw [this]; rfl
    have b1 : byt q (j + 1) = c.toNat := byt_of_drop h 1
    have hs := size_of_drop (x := 92) (l := c :: (l ++ rest)) h
    rw [List.length_cons] at hs
    have hd : Utf8.decode q j = (92, 1) := (dec_ascii q j 92 (by omega) (by omega)).2 b0
    refine ⟨b0, by omega, b1, ?_⟩
    unfold prt
    rw [hd]
    rw [if_neg (by simp), if_pos rfl]
  have hex : (pq v i = [92, 120, hexByte (bt v i / 16), hexByte (bt v i % 16)]) → wd v i = 1 → byt q j ≠ 34 ∧ j < q.size ∧ prt q j = some ((v.extract i (i + wd v i)).data.toList, (pq v i).length) := by
    intro e hw
    obtain ⟨b0, hs1, b1, hp⟩ := esc92 120 [hexByte (bt v i / 16), hexByte (bt v i % 16)] e
    have b1 : byt q (j + 1) = 120 := b1
    refine ⟨by omega, by omega, ?_⟩
    rw [hp, hw, one_list v i hi, e]
    rw [e] at h
    have hs := size_of_drop (x := 92) (l := 120 :: hexByte (bt v i / 16) :: hexByte (bt v i % 16) :: rest) h
    simp only [List.length_cons] at hs
    have b2 : byt q (j + 2) = (hexByte (bt v i / 16)).toNat := byt_of_drop h 2
    have b3 : byt q (j + 3) = (hexByte (bt v i % 16)).toNat := byt_of_drop h 3
    rw [hbt, show ((byt v i : Nat) : Int) / 16 = ((byt v i / 16 : Nat) : Int) by omega] at b2
    rw [hbt, show ((byt v i : Nat) : Int) % 16 = ((byt v i % 16 : Nat) : Int) by omega] at b3
    have h2 := hx_hex ⟨byt v i / 16, by omega⟩
    have h3 := hx_hex ⟨byt v i % 16, by omega⟩
    simp only at h2 h3
    rw [← b2] at h2
    rw [← b3] at h3
    have dd : j + 2 + 1 < q.size ∧ 0 ≤ hx (byt q (j + 2)) ∧ 0 ≤ hx (byt q (j + 2 + 1)) := ⟨by omega, by omega, by rw [show j + 2 + 1 = j + 3 by omega]; omega⟩
    have d1 := (dgs2 q (j + 2)).2 dd
    have d2 := dgs2v q (j + 2) dd
    rw [h2, show j + 2 + 1 = j + 3 by omega, h3] at d2
    unfold esc
    rw [if_neg (by omega), if_neg (by omega), if_neg (by omega), if_neg (by omega), if_neg (by omega), if_pos b1, if_pos d1]
    have : (dgs q 2 (j + 2) 0 0).1 % 256 = byt v i := by omega
    rw [this]
    rfl
  have one : ∀ c : Nat, c < 128 → (Utf8.decode v i).1 = c → byt v i = c ∧ wd v i = 1 := by
    intro c hc hd
    obtain ⟨a1, a2⟩ := dec_ascii v i c hi hc
    have hb := a1.1 hd
    refine ⟨hb, ?_⟩
    unfold wd
    rw [a2 hb]
  have let_ : ∀ (c : UInt8) (n : Nat), pq v i = [92, c] → n < 128 → (Utf8.decode v i).1 = n → esc q j = some ([n.toUInt8], 2) → byt q j ≠ 34 ∧ j < q.size ∧ prt q j = some ((v.extract i (i + wd v i)).data.toList, (pq v i).length) := by
    intro c n e hn hd he
    obtain ⟨b0, hs1, b1, hp⟩ := esc92 c [] e
    obtain ⟨o1, o2⟩ := one n hn hd
    refine ⟨by omega, by omega, ?_⟩
    rw [hp, he, o2, one_list v i hi, e, o1]
    rfl
  by_cases hb : Utf8.decode v i = (65533, 1)
  · refine hex ?_ (by unfold wd; rw [hb])
    unfold pq text_Quote.piece
    rw [pc_bad' hb]
    rfl
  · have hpq : pq v i = text_Quote.piece v i ((Utf8.decode v i).1 : Int) (wd v i : Int) true := by
      unfold pq
      rw [pc_good' hb]
      rfl
    unfold text_Quote.piece at hpq
    by_cases c1 : (Utf8.decode v i).1 = 10
    · rw [if_pos (by omega)] at hpq
      obtain ⟨b0, hs1, b1, hp⟩ := esc92 110 [] hpq
      have b1 : byt q (j + 1) = 110 := b1
      refine let_ 110 10 hpq (by omega) c1 ?_
      unfold esc
      rw [if_neg (by omega), if_pos b1]; rfl
    · rw [if_neg (by omega)] at hpq
      by_cases c2 : (Utf8.decode v i).1 = 9
      · rw [if_pos (by omega)] at hpq
        obtain ⟨b0, hs1, b1, hp⟩ := esc92 116 [] hpq
        have b1 : byt q (j + 1) = 116 := b1
        refine let_ 116 9 hpq (by omega) c2 ?_
        unfold esc
        rw [if_neg (by omega), if_neg (by omega), if_pos b1]; rfl
      · rw [if_neg (by omega)] at hpq
        by_cases c3 : (Utf8.decode v i).1 = 13
        · rw [if_pos (by omega)] at hpq
          obtain ⟨b0, hs1, b1, hp⟩ := esc92 114 [] hpq
          have b1 : byt q (j + 1) = 114 := b1
          refine let_ 114 13 hpq (by omega) c3 ?_
          unfold esc
          rw [if_neg (by omega), if_neg (by omega), if_neg (by omega), if_pos b1]; rfl
        · rw [if_neg (by omega)] at hpq
          by_cases c4 : (Utf8.decode v i).1 = 34
          · rw [if_pos (by omega)] at hpq
            obtain ⟨b0, hs1, b1, hp⟩ := esc92 34 [] hpq
            have b1 : byt q (j + 1) = 34 := b1
            refine let_ 34 34 hpq (by omega) c4 ?_
            unfold esc
            rw [if_neg (by omega), if_neg (by omega), if_neg (by omega), if_neg (by omega), if_pos (Or.inl b1), b1]
          · rw [if_neg (by omega)] at hpq
            by_cases c5 : (Utf8.decode v i).1 = 92
            · rw [if_pos (by omega)] at hpq
              obtain ⟨b0, hs1, b1, hp⟩ := esc92 92 [] hpq
              have b1 : byt q (j + 1) = 92 := b1
              refine let_ 92 92 hpq (by omega) c5 ?_
              unfold esc
              rw [if_neg (by omega), if_neg (by omega), if_neg (by omega), if_neg (by omega), if_pos (Or.inr b1), b1]
            · rw [if_neg (by omega)] at hpq
              by_cases c6 : (Utf8.decode v i).1 < 32 ∨ (Utf8.decode v i).1 = 127
              · rw [if_pos (by right; omega)] at hpq
                exact hex hpq (one (Utf8.decode v i).1 (by omega) rfl).2
              · rw [if_neg (by intro h; rcases h with h | h | h; simp at h; omega; omega), Int.toNat_natCast] at hpq
                rcases dec_cases v i hi with ⟨hpre, hl⟩ | hbad
                · have hw := wd_pos v i hi
                  have hwl : wd v i = (enc (Utf8.decode v i).1).length := hl
                  have plen : (pq v i).length = wd v i := by
                    rw [hpq, ext_list, List.length_take, List.length_drop, data_length]; omega
                  have hsz : j + (wd v i + rest.length) = q.size ∨ q.size < j := by
                    have := congrArg List.length h
                    rw [List.length_drop, data_length, List.length_append, plen] at this
                    omega
                  have hsz : j + (wd v i + rest.length) = q.size := by
                    have := congrArg List.length h
                    rw [List.length_drop, data_length, List.length_append, plen] at this
                    omega
                  have hbk : ∀ k, k < wd v i → byt q (j + k) = byt v (i + k) := by
                    intro k hk
                    rw [byt_of_drop h k, byt_list, List.getD_eq_getElem?_getD, List.getD_eq_getElem?_getD, List.getElem?_append_left (by omega), hpq, ext_list, List.getElem?_take, if_pos (by omega), List.getElem?_drop]
                  have hq : Pre q j (Utf8.decode v i).1 := ⟨hpre.1, by omega, fun k hk => by rw [hbk k (by omega)]; exact hpre.2.2 k hk⟩
                  have hdq := dec_of hq
                  have hn34 : byt q j ≠ 34 := by
                    have := hbk 0 (by omega)
                    rw [Nat.add_zero, Nat.add_zero] at this
                    rw [this]
                    intro h34
                    exact c4 ((dec_ascii v i 34 hi (by omega)).1.2 h34)
                  refine ⟨hn34, by omega, ?_⟩
                  have hwq : wd q j = wd v i := by unfold wd; rw [hdq]; exact hl.symm
                  unfold prt
                  rw [hwq, hdq, if_neg (by
                    intro h; rcases h with h | h | h | h
                    · rw [← hl] at h; exact hb h
                    · exact c6 (Or.inl h)
                    · exact c6 (Or.inr h)
                    · exact c4 h), if_neg c5, plen, ← hpq]
                  congr 2
                  rw [ext_list, h, show j + wd v i - j = wd v i by omega, List.take_append_of_le_length (by omega), List.take_of_length_le (by omega)]
                · exact absurd hbad hb
theorem qd_quo (v q : ByteArray) : ∀ (d i j D : Nat) (acc : List UInt8), i ≤ v.size → v.size < i + d → j ≤ q.size → q.size < j + D → q.data.toList.drop j = quo v d i [] ++ [34] → qd q D j acc = some (acc ++ v.data.toList.drop i, q.size) := by
  intro d
  induction d with
  | zero => intro i j D acc h1 h2; omega
  | succ d ih =>
    intro i j D acc h1 h2 h3 h4 h
    obtain ⟨D, rfl⟩ : ∃ D', D = D' + 1 := ⟨D - 1, by
      have := congrArg List.length h
      rw [List.length_drop, data_length, List.length_append] at this
      simp at this
      omega⟩
    unfold quo at h
    by_cases hi : i < v.size
    · rw [if_pos hi, quo_acc, List.nil_append, List.append_assoc] at h
      obtain ⟨p1, p2, p3⟩ := prt_pq v q i j _ hi h
      have hl := prt_len p2 p3
      have hw := wd_pos v i hi
      unfold qd
      rw [if_pos p2, if_neg p1, p3, Option.bind_some]
      have := ih (i + wd v i) (j + (pq v i).length) D (acc ++ (v.extract i (i + wd v i)).data.toList) (by omega) (by omega) (by omega) (by omega) (by
        rw [← List.drop_drop, h, List.drop_left])
      rw [this, List.append_assoc]
      congr 3
      rw [ext_list, show i + wd v i - i = wd v i by omega, ← List.drop_drop, List.take_append_drop]
    · rw [if_neg hi, List.nil_append] at h
      have hs := size_of_drop h
      have hb : byt q j = 34 := by have := byt_of_drop h 0; rw [Nat.add_zero] at this; rw [this]; rfl
      unfold qd
      rw [if_pos (by simp at hs; omega), if_pos hb, List.drop_of_length_le (by rw [data_length]; omega), List.append_nil]
      simp at hs
      rw [hs]
theorem back_quote (v : ByteArray) (hv : v.size ≤ 4096) : unq (quoF v).1 = (v, 0) ∧ (quoF v).2 = 0 ∧ (quoF v).1.size ≤ 20000 := by
  have e : quoF v = (⟨(quo v (v.size + 1) 0 [34] ++ [34]).toArray⟩, 0) := if_neg (by omega)
  rw [e]
  have hlen := (tquote_l v (by omega) (v.size + 1) 0 [34] (by omega) (by omega) (by simp)).2
  generalize hq : (⟨(quo v (v.size + 1) 0 [34] ++ [34]).toArray⟩ : ByteArray) = q
  have hl : q.data.toList = 34 :: (quo v (v.size + 1) 0 [] ++ [34]) := by
    rw [← hq, quo_acc]
    simp
  have hsz : q.size = (quo v (v.size + 1) 0 [34]).length + 1 := by
    rw [← data_length, ← hq]
    simp
  have hb : byt q 0 = 34 := by rw [byt_list, hl]; rfl
  have hqd : qd q q.size (0 + 1) [] = some (v.data.toList, q.size) := by
    have := qd_quo v q (v.size + 1) 0 1 q.size [] (by omega) (by omega) (by omega) (by omega) (by rw [hl]; rfl)
    rw [List.drop_zero, List.nil_append] at this
    exact this
  have hr : rquF q 0 = (v, (q.size : Int), 0) := by
    unfold rquF
    rw [if_neg (by omega), show (0 : Int).toNat = 0 from rfl, if_pos hb, hqd]
    show (if v.data.toList.length > 4096 then _ else _) = _
    rw [data_length, if_neg (by omega), bmk]
  refine ⟨?_, rfl, by show q.size ≤ 20000; omega⟩
  show unq q = _
  unfold unq
  rw [hr, if_pos ⟨rfl, rfl⟩]
theorem unq_cases (s : ByteArray) : unq s = (⟨#[]⟩, 12) ∨ ∃ w : ByteArray, unq s = (w, 0) ∧ w.size ≤ 4096 := by
  unfold unq
  by_cases h : (rquF s 0).2.2 = 0 ∧ (rquF s 0).2.1 = (s.size : Int)
  · rw [if_pos h]
    refine Or.inr ⟨_, rfl, ?_⟩
    have h1 := h.1
    unfold rquF at h1 ⊢
    by_cases c : (0 : Int) < 0 ∨ (s.size : Int) ≤ 0
    · rw [if_pos c]; decide
    · rw [if_neg c] at h1 ⊢
      by_cases c2 : byt s (0 : Int).toNat = 34
      · rw [if_pos c2] at h1 ⊢
        cases e : qd s s.size ((0 : Int).toNat + 1) [] with
        | none => decide
        | some t =>
          show (if t.1.length > 4096 then ((⟨#[]⟩ : ByteArray), (0 : Int), (12 : Int)) else (⟨t.1.toArray⟩, (t.2 : Int), 0)).1.size ≤ 4096
          by_cases c3 : t.1.length > 4096
          · rw [if_pos c3]; decide
          · rw [if_neg c3]
            simp [ByteArray.size]
            omega
      · rw [if_neg c2]; decide
  · rw [if_neg h]
    exact Or.inl rfl
end Go.Proofs.Ythiiigbifimckaa.Tx
