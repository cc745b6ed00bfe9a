/-
 Plain facts: a quoted text's value and how a value is quoted, by the document's answer.
-/
import Derived.Test.YthiiigbifimckaaPtx8
import Derived.Test.YthiiigbifimckaaPtx13
import Derived.Test.YthiiigbifimckaaTxn
namespace Go.Proofs.Ythiiigbifimckaa.Tx
open Go.RowKit Go.Proofs.YthiiigbifimckaaW.PrintWords Go.Proofs.YthiiigbifimckaaW.PrintLast Go.Proofs.YthiiigbifimckaaW.PrintMore Go.Proofs.Ythiiigbifimckaa.Pt
set_option linter.unusedVariables false
set_option linter.unusedSimpArgs false

theorem bytesOf_ints (b : ByteArray) : bytesOf b = ints b.data.toList := rfl
theorem rqP_long (s : ByteArray) (d i : Nat) (acc : List UInt8) (h : 4096 < acc.length) : rqP (qd s d i acc) = (⟨#[]⟩, 0, 12) := by
 cases e : qd s d i acc with
 | none => rfl
 | some t =>
  obtain ⟨v, n⟩ := t
  have := (qd_len s d i acc v n e).1
  show (if v.length > 4096 then _ else _) = _
  rw [if_pos (by omega)]
theorem rquoted_l (s : ByteArray) (hs : s.size ≤ 140737488351232) : ∀ (d i : Nat) (acc : List UInt8), i ≤ s.size → s.size < i + d → acc.length ≤ 4096 → Ev (fun k => quoinref01_Quoted.l0 k s (ints acc) i) (rqP (qd s d i acc)) := by
 intro d
 induction d with
 | zero => intro i acc h0 h1 h2; omega
 | succ d ih =>
  intro i acc h0 h1 h2
  unfold qd
  by_cases hi : i < s.size
  ·rw [if_pos hi]
   by_cases h34 : byt s i = 34
   ·rw [if_pos h34]
    refine Ev.step (f := fun k => quoinref01_Quoted.j2 k s (ints acc) i false) (fun k => ?_) ?_
    ·simp only [quoinref01_Quoted.l0]
     rw [if_pos (by omega), if_pos (by omega), bt_byt s i hi]
     congr 1
     simp; omega
    ·refine Ev.step (f := fun _ => some (strOfNums (ints acc), (i : Int) + 1, 0)) (fun k => ?_) (Ev.ret ?_)
     ·simp only [quoinref01_Quoted.j2]
      rw [if_neg (by simp), if_neg (by omega), w64 (by omega) (by omega)]
     ·rw [strOf_ints]
      show _ = if acc.length > 4096 then _ else _
      rw [if_neg (by omega)]
      rfl
   ·rw [if_neg h34]
    refine Ev.step (f := fun k => quoinref01_Quoted.j2 k s (ints acc) i true) (fun k => ?_) ?_
    ·simp only [quoinref01_Quoted.l0]
     rw [if_pos (by omega), if_pos (by omega), bt_byt s i hi]
     congr 1
     simp; omega
    ·refine Ev.step (f := fun k => (quoinref01_part.f k s i).bind fun bt310 => (if bt310.2 = 0 then (some ((⟨#[]⟩ : ByteArray), 0, 12)) else (if (wrap64 (((ints acc).length : Int) + (bt310.1.size : Int))) > 4096 then (some ((⟨#[]⟩ : ByteArray), 0, 12)) else (if (ints acc).length + bt310.1.size < 140737488355328 then (quoinref01_Quoted.l0 k s (ints acc ++ bytesOf bt310.1) (wrap64 ((i : Int) + bt310.2))) else (none))))) (fun k => ?_) ?_
     ·simp only [quoinref01_Quoted.j2]
      rw [if_pos trivial]
     ·refine Ev.bind (part_ev s i hs hi) ?_
      cases hp : prt s i with
      | none => exact Ev.pos rfl (Ev.now _)
      | some t =>
       obtain ⟨p, n⟩ := t
       obtain ⟨l1, l2, l3, l4⟩ := prt_len hi hp
       rw [escP_some, Option.bind_some]
       refine Ev.neg (by show ¬ (n : Int) = 0; omega) ?_
       have hsz : (⟨p.toArray⟩ : ByteArray).size = p.length := by simp [ByteArray.size]
       have hb : bytesOf (⟨p.toArray⟩ : ByteArray) = ints p := by rw [bytesOf_ints]
       show Ev (fun k => if (wrap64 (((ints acc).length : Int) + ((⟨p.toArray⟩ : ByteArray).size : Int))) > 4096 then (some ((⟨#[]⟩ : ByteArray), 0, 12)) else (if (ints acc).length + (⟨p.toArray⟩ : ByteArray).size < 140737488355328 then (quoinref01_Quoted.l0 k s (ints acc ++ bytesOf (⟨p.toArray⟩ : ByteArray)) (wrap64 ((i : Int) + (n : Int)))) else (none))) (rqP (qd s d (i + n) (acc ++ p)))
       rw [hsz, ints_length, hb, ← ints_append, w64 (x := (acc.length : Int) + p.length) (by omega) (by omega), w64 (x := (i : Int) + n) (by omega) (by omega)]
       by_cases hl : acc.length + p.length ≤ 4096
       ·exact Ev.neg (by omega) (Ev.pos (by omega) (ih (i + n) (acc ++ p) (by omega) (by omega) (by rw [List.length_append]; exact hl)))
       ·rw [rqP_long s d (i + n) (acc ++ p) (by rw [List.length_append]; omega)]
        exact Ev.pos (by omega) (Ev.now _)
  ·rw [if_neg hi]
   refine Ev.step (f := fun k => quoinref01_Quoted.j2 k s (ints acc) i false) (fun k => ?_) ?_
   ·simp only [quoinref01_Quoted.l0]
    rw [if_neg (by omega)]
   ·refine Ev.step (f := fun _ => some ((⟨#[]⟩ : ByteArray), 0, 12)) (fun k => ?_) (Ev.now _)
    simp only [quoinref01_Quoted.j2]
    rw [if_neg (by simp), if_pos (by omega)]
theorem rquoted_ev (s : ByteArray) (a : Int) (hs : s.size ≤ 140737488351232) : Ev (fun k => quoinref01_Quoted.f k s a) (rquF s a) := by
 unfold quoinref01_Quoted.f rquF
 have no : Ev (fun k => quoinref01_Quoted.j0 k s a true) ((⟨#[]⟩ : ByteArray), 0, 13) := by
  refine Ev.step (f := fun _ => some ((⟨#[]⟩ : ByteArray), 0, 13)) (fun k => ?_) (Ev.now _)
  simp only [quoinref01_Quoted.j0]
  rw [if_pos trivial]
 by_cases h1 : a < 0
 ·rw [if_pos (Or.inl h1)]
  exact Ev.pos h1 no
 ·refine Ev.neg h1 ?_
  by_cases h2 : a ≥ (s.size : Int)
  ·rw [if_pos (Or.inr h2), decide_eq_true h2]
   exact no
  ·rw [if_neg (show ¬ (a < 0 ∨ (s.size : Int) ≤ a) by omega), decide_eq_false h2]
   obtain ⟨n, rfl⟩ : ∃ n : Nat, a = n := ⟨a.toNat, by omega⟩
   rw [Int.toNat_natCast]
   by_cases h3 : byt s n = 34
   ·rw [if_pos h3]
    have := rquoted_l s hs (s.size) (n + 1) [] (by omega) (by omega) (by simp)
    refine Ev.step (fun k => ?_) this
    simp only [quoinref01_Quoted.j0]
    rw [if_neg (by simp), if_pos (by omega), if_pos (by omega), bt_byt s n (by omega), if_pos (by omega), w64 (by omega) (by omega)]
    congr 1
   ·rw [if_neg h3]
    refine Ev.step (f := fun _ => some ((⟨#[]⟩ : ByteArray), 0, 12)) (fun k => ?_) (Ev.now _)
    simp only [quoinref01_Quoted.j0]
    rw [if_neg (by simp), if_pos (by omega), if_pos (by omega), bt_byt s n (by omega), if_neg (by omega)]
theorem runquote_ev (s : ByteArray) (hs : s.size ≤ 140737488351232) : Ev (fun k => quoinref01_Unquote.f k s) (unq s) := by
 unfold quoinref01_Unquote.f
 refine Ev.bind (rquoted_ev s 0 hs) ?_
 by_cases h1 : (rquF s 0).2.2 = 0
 ·refine Ev.pos h1 ?_
  by_cases h2 : (rquF s 0).2.1 = (s.size : Int)
  ·have hu : unq s = ((rquF s 0).1, 0) := if_pos ⟨h1, h2⟩
   rw [hu]
   exact Ev.pos h2 (Ev.now _)
  ·have hu : unq s = (⟨#[]⟩, 12) := if_neg (fun h => h2 h.2)
   rw [hu]
   exact Ev.neg h2 (Ev.now _)
 ·have hu : unq s = (⟨#[]⟩, 12) := if_neg (fun h => h1 h.1)
  rw [hu]
  exact Ev.neg h1 (Ev.now _)
theorem hexByte_bt : ∀ n : Fin 16, bt (⟨#[48, 49, 50, 51, 52, 53, 54, 55, 56, 57, 97, 98, 99, 100, 101, 102]⟩ : ByteArray) (n.val : Int) = ((hexByte (n.val : Int)).toNat : Int) := by decide +kernel
theorem rquote_l (v : ByteArray) (hs : v.size ≤ 4096) : ∀ (d i : Nat) (acc : List UInt8), i ≤ v.size → v.size < i + d → acc.length ≤ 4 * i + 1 →
  Ev (fun k => quoinref01_Quote.l0 k v (⟨#[48, 49, 50, 51, 52, 53, 54, 55, 56, 57, 97, 98, 99, 100, 101, 102]⟩ : ByteArray) (ints acc) i) ((⟨(quo v d i acc ++ [34]).toArray⟩ : ByteArray), 0) := by
 intro d
 induction d with
 | zero => intro i acc h0 h1 h2; omega
 | succ d ih =>
  intro i acc h0 h1 h2
  generalize hT : (⟨#[48, 49, 50, 51, 52, 53, 54, 55, 56, 57, 97, 98, 99, 100, 101, 102]⟩ : ByteArray) = T at *
  have hTs : T.size = 16 := by rw [← hT]; rfl
  unfold quo
  by_cases hi : i < v.size
  ·rw [if_pos hi]
   have hp := pc_size v i hi
   have hl := pq_len v i hi
   have hw := wd_pos v i hi
   have e : (pc v i).2.1 = (wd v i : Int) := wd_pc v i
   have next := ih (i + wd v i) (acc ++ pq v i) (by omega) (by omega) (by rw [List.length_append]; omega)
   have e64 : wrap64 ((i : Int) + (wd v i : Int)) = ((i + wd v i : Nat) : Int) := w64 (by omega) (by omega)
   have fin : ∀ y : List Int, ints (pq v i) = y → Ev (fun k => if (ints acc).length + y.length < 140737488355328 then quoinref01_Quote.l0 k v T (ints acc ++ y) (wrap64 ((i : Int) + (wd v i : Int))) else none) ((⟨(quo v d (i + wd v i) (acc ++ pq v i) ++ [34]).toArray⟩ : ByteArray), 0) := by
    intro y hy
    subst hy
    refine Ev.pos (by rw [ints_length, ints_length]; omega) ?_
    rw [← ints_append, e64]
    exact next
   have hbt : bt v i = (byt v i : Int) := bt_byt v i hi
   have hby := byt_lt v i
   have hexE : pq v i = [92, 120, hexByte (bt v i / 16), hexByte (bt v i % 16)] → Ev (fun k => (if 0 ≤ (i : Int) then (if (i : Int) < (v.size : Int) then (if 0 ≤ ((Int.tdiv (bt v i) 16) % 256) then (if ((Int.tdiv (bt v i) 16) % 256) < (T.size : Int) then (if 0 ≤ (Int.tmod (bt v i) 16) then (if (Int.tmod (bt v i) 16) < (T.size : Int) then ((some (([92, 120, bt T ((Int.tdiv (bt v i) 16) % 256), bt T (Int.tmod (bt v i) 16)] : List Int) : List Int)).bind fun y252 => (if (ints acc).length + y252.length < 140737488355328 then (quoinref01_Quote.l0 k v T (ints acc ++ y252) (wrap64 ((i : Int) + (wd v i : Int)))) else (none))) else (none)) else (none)) else (none)) else (none)) else (none)) else (none))) ((⟨(quo v d (i + wd v i) (acc ++ pq v i) ++ [34]).toArray⟩ : ByteArray), 0) := by
    intro hpq
    have q1 : (Int.tdiv (bt v i) 16) % 256 = ((byt v i / 16 : Nat) : Int) := by
     rw [hbt, Int.tdiv_eq_ediv_of_nonneg (by omega)]; omega
    have q2 : Int.tmod (bt v i) 16 = ((byt v i % 16 : Nat) : Int) := by
     rw [hbt, Int.tmod_eq_emod_of_nonneg (by omega)]; omega
    have q3 := hexByte_bt ⟨byt v i / 16, by omega⟩
    have q4 := hexByte_bt ⟨byt v i % 16, by omega⟩
    simp only at q3 q4
    rw [hT] at q3 q4
    rw [q1, q2, q3, q4]
    refine Ev.pos (by omega) (Ev.pos (by omega) (Ev.pos (by omega) (Ev.pos (by omega) (Ev.pos (by omega) (Ev.pos (by omega) ?_)))))
    refine Ev.some_bind rfl (fin _ ?_)
    rw [hpq, hbt, show ((byt v i : Nat) : Int) / 16 = ((byt v i / 16 : Nat) : Int) by omega, show ((byt v i : Nat) : Int) % 16 = ((byt v i % 16 : Nat) : Int) by omega]
    rfl
   by_cases hb : Utf8.decode v i = (65533, 1)
   ·have hpc := pc_bad' hb
    have hw1 : (wd v i : Int) = 1 := by rw [← e, hpc]
    have hpq : pq v i = [92, 120, hexByte (bt v i / 16), hexByte (bt v i % 16)] := by
     unfold pq text_Quote.piece
     rw [hpc]
     rfl
    have hx := hexE hpq
    rw [hw1] at hx
    refine Ev.step (f := fun k => (quoinref01_Next.f k v i).bind fun bt225 => (if bt225.2.2 = true then (quoinref01_Quote.j1 k v T (ints acc) i bt225.1 bt225.2.1 bt225.2.2 (bt225.1 == 10)) else (quoinref01_Quote.j1 k v T (ints acc) i bt225.1 bt225.2.1 bt225.2.2 false))) (fun k => ?_) ?_
    ·simp only [quoinref01_Quote.l0]
     rw [if_pos (by omega)]
    ·refine Ev.bind (rnext_ev v i (by omega)) ?_
     rw [nx_in v i hi, hpc]
     refine Ev.neg (by simp) ?_
     refine Ev.step (f := fun k => quoinref01_Quote.j2 k v T (ints acc) i 0 1 false false) (fun k => ?_) ?_
     ·simp only [quoinref01_Quote.j1]
      rw [if_neg (by simp), if_neg (by simp)]
     ·refine Ev.step (f := fun k => quoinref01_Quote.j3 k v T (ints acc) i 0 1 false false) (fun k => ?_) ?_
      ·simp only [quoinref01_Quote.j2]
       rw [if_neg (by simp), if_neg (by simp)]
      ·refine Ev.step (f := fun k => quoinref01_Quote.j4 k v T (ints acc) i 0 1 false false) (fun k => ?_) ?_
       ·simp only [quoinref01_Quote.j3]
        rw [if_neg (by simp), if_neg (by simp)]
       ·refine Ev.step (fun k => ?_) hx
        simp only [quoinref01_Quote.j4]
        rw [if_neg (by simp), if_neg (by simp)]
   ·have hpc := pc_good' hb
    obtain ⟨r, hr⟩ : ∃ r : Nat, (Utf8.decode v i).1 = r := ⟨_, rfl⟩
    have hd2 : (Utf8.decode v i).2 = wd v i := rfl
    rw [hr, hd2] at hpc
    have hpq : pq v i = text_Quote.piece v i (r : Int) (wd v i : Int) true := by
     unfold pq
     rw [hpc]
    unfold text_Quote.piece at hpq
    refine Ev.step (f := fun k => (quoinref01_Next.f k v i).bind fun bt225 => (if bt225.2.2 = true then (quoinref01_Quote.j1 k v T (ints acc) i bt225.1 bt225.2.1 bt225.2.2 (bt225.1 == 10)) else (quoinref01_Quote.j1 k v T (ints acc) i bt225.1 bt225.2.1 bt225.2.2 false))) (fun k => ?_) ?_
    ·simp only [quoinref01_Quote.l0]
     rw [if_pos (by omega)]
    ·refine Ev.bind (rnext_ev v i (by omega)) ?_
     rw [nx_in v i hi, hpc]
     refine Ev.pos rfl ?_
     show Ev (fun k => quoinref01_Quote.j1 k v T (ints acc) i (r : Int) (wd v i : Int) true ((r : Int) == 10)) _
     by_cases c1 : (r : Int) = 10
     ·rw [if_pos c1] at hpq
      have hx := fin [92, 110] (by rw [hpq]; rfl)
      refine Ev.step (fun k => ?_) hx
      simp only [quoinref01_Quote.j1]
      rw [if_pos (by simpa using c1)]
      rfl
     ·rw [if_neg c1] at hpq
      refine Ev.step (f := fun k => quoinref01_Quote.j2 k v T (ints acc) i (r : Int) (wd v i : Int) true ((r : Int) == 9)) (fun k => ?_) ?_
      ·simp only [quoinref01_Quote.j1]
       rw [if_neg (by simpa using c1), if_pos trivial]
      ·by_cases c2 : (r : Int) = 9
       ·rw [if_pos c2] at hpq
        have hx := fin [92, 116] (by rw [hpq]; rfl)
        refine Ev.step (fun k => ?_) hx
        simp only [quoinref01_Quote.j2]
        rw [if_pos (by simpa using c2)]
        rfl
       ·rw [if_neg c2] at hpq
        refine Ev.step (f := fun k => quoinref01_Quote.j3 k v T (ints acc) i (r : Int) (wd v i : Int) true ((r : Int) == 13)) (fun k => ?_) ?_
        ·simp only [quoinref01_Quote.j2]
         rw [if_neg (by simpa using c2), if_pos trivial]
        ·by_cases c3 : (r : Int) = 13
         ·rw [if_pos c3] at hpq
          have hx := fin [92, 114] (by rw [hpq]; rfl)
          refine Ev.step (fun k => ?_) hx
          simp only [quoinref01_Quote.j3]
          rw [if_pos (by simpa using c3)]
          rfl
         ·rw [if_neg c3] at hpq
          by_cases c4 : (r : Int) = 34
          ·rw [if_pos c4] at hpq
           have hx := fin [92, (r : Int) % 256] (by rw [hpq, c4]; rfl)
           refine Ev.step (f := fun k => quoinref01_Quote.j4 k v T (ints acc) i (r : Int) (wd v i : Int) true true) (fun k => ?_) ?_
           ·simp only [quoinref01_Quote.j3]
            rw [if_neg (by simpa using c3), if_pos trivial, if_pos c4]
           ·refine Ev.step (fun k => ?_) hx
            simp only [quoinref01_Quote.j4]
            rw [if_pos trivial]
            rfl
          ·rw [if_neg c4] at hpq
           refine Ev.step (f := fun k => quoinref01_Quote.j4 k v T (ints acc) i (r : Int) (wd v i : Int) true ((r : Int) == 92)) (fun k => ?_) ?_
           ·simp only [quoinref01_Quote.j3]
            rw [if_neg (by simpa using c3), if_pos trivial, if_neg c4]
           ·by_cases c5 : (r : Int) = 92
            ·rw [if_pos c5] at hpq
             have hx := fin [92, (r : Int) % 256] (by rw [hpq, c5]; rfl)
             refine Ev.step (fun k => ?_) hx
             simp only [quoinref01_Quote.j4]
             rw [if_pos (by simpa using c5)]
             rfl
            ·rw [if_neg c5] at hpq
             by_cases c6 : (r : Int) < 32
             ·rw [if_pos (Or.inr (Or.inl c6))] at hpq
              refine Ev.step (fun k => ?_) (hexE hpq)
              simp only [quoinref01_Quote.j4]
              rw [if_neg (by simpa using c5), if_pos trivial, if_pos c6]
             ·by_cases c7 : (r : Int) = 127
              ·rw [if_pos (Or.inr (Or.inr c7))] at hpq
               refine Ev.step (fun k => ?_) (hexE hpq)
               simp only [quoinref01_Quote.j4]
               rw [if_neg (by simpa using c5), if_pos trivial, if_neg c6, if_pos c7]
              ·rw [if_neg (by intro h; rcases h with h | h | h; simp at h; exact c6 h; exact c7 h), Int.toNat_natCast] at hpq
               have hx := fin (bytesOf (v.extract i (i + wd v i))) (by rw [hpq]; rfl)
               refine Ev.step (fun k => ?_) hx
               simp only [quoinref01_Quote.j4]
               rw [if_neg (by simpa using c5), if_pos trivial, if_neg c6, if_neg c7, e64, if_pos (by omega), if_pos (by omega), if_pos (by omega), Int.toNat_natCast, Int.toNat_natCast, bytesOf_length]
  ·rw [if_neg hi]
   refine Ev.step (f := fun _ => some (strOfNums (ints acc ++ [34]), 0)) (fun k => ?_) (Ev.ret ?_)
   ·simp only [quoinref01_Quote.l0]
    rw [if_neg (by omega), if_pos (by rw [ints_length]; omega)]
   ·have : (ints acc ++ [34]) = ints (acc ++ [34]) := by rw [ints_append]; rfl
    rw [this, strOf_ints]
theorem rquote_ev (v : ByteArray) : Ev (fun k => quoinref01_Quote.f k v) (quoF v) := by
 unfold quoinref01_Quote.f quoF
 by_cases h : v.size > 4096
 ·rw [if_pos h]
  exact Ev.pos (by omega) (Ev.now _)
 ·rw [if_neg h]
  exact Ev.neg (by omega) (rquote_l v (by omega) (v.size + 1) 0 [34] (by omega) (by omega) (by simp))
end Go.Proofs.Ythiiigbifimckaa.Tx
