/-
 Plain facts: the document's answer to the piece at a byte is the same piece.
-/
import Derived.Test.YthiiigbifimckaaPtx3
import Derived.Test.YthiiigbifimckaaPtx4
import Derived.Test.YthiiigbifimckaaPtx5
import Derived.Test.YthiiigbifimckaaTxc
namespace Go.Proofs.Ythiiigbifimckaa.Tx
open Go.RowKit Go.Proofs.YthiiigbifimckaaW.PrintWords Go.Proofs.YthiiigbifimckaaW.PrintLast Go.Proofs.YthiiigbifimckaaW.PrintMore Go.Proofs.Ythiiigbifimckaa.Pt
set_option linter.unusedVariables false
set_option linter.unusedSimpArgs false

theorem Ev.pos {α : Type} {c : Prop} [Decidable c] {f g : Nat → Option α} {r : α} (h : c) (k : Ev f r) : Ev (fun n => if c then f n else g n) r := Ev.congr (fun _ => if_pos h) k
theorem Ev.neg {α : Type} {c : Prop} [Decidable c] {f g : Nat → Option α} {r : α} (h : ¬ c) (k : Ev g r) : Ev (fun n => if c then f n else g n) r := Ev.congr (fun _ => if_neg h) k
theorem Ev.some_bind {α β : Type} {a : Option α} {f : Nat → α → Option β} {x : α} {r : β} (h : a = some x) (k : Ev (fun n => f n x) r) : Ev (fun n => a.bind (f n)) r := by
 subst h; exact k
theorem Ev.ret {α : Type} {a r : α} (h : a = r) : Ev (fun _ => some a) r := by subst h; exact Ev.now _

theorem isRune_eq (r : Int) : text_isRune.f r = some (Utf8.valid r) := by
 unfold text_isRune.f Utf8.valid
 by_cases h1 : r ≥ 0
 ·rw [if_pos h1]
  by_cases h2 : r ≤ 1114111
  ·rw [if_pos h2]
   by_cases h3 : r < 55296
   ·rw [if_pos h3]; congr 1; rw [Bool.eq_iff_iff]; simp; omega
   ·rw [if_neg h3]; congr 1; rw [Bool.eq_iff_iff]; simp; omega
  ·rw [if_neg h2]; congr 1; rw [Bool.eq_iff_iff]; simp; omega
 ·rw [if_neg h1]; congr 1; rw [Bool.eq_iff_iff]; simp; omega
theorem rune_eq (r : Int) : quoinref01_Rune.f r = some (Utf8.valid r) := isRune_eq r
theorem bytes_eq (v : Nat) (h : Rn v) : quoinref01_bytes.f v = some ((enc v).map fun x : Nat => (x : Int)) := by
 have hv : v ≤ 1114111 := by unfold Rn at h; omega
 have e : ((v : Int) % 4294967296) = v := by omega
 unfold quoinref01_bytes.f enc
 rw [e]
 by_cases h1 : v < 128
 ·rw [if_pos (by omega), if_pos h1]; simp; omega
 ·rw [if_neg (by omega), if_neg h1]
  by_cases h2 : v < 2048
  ·rw [if_pos (by omega), if_pos h2]; simp; omega
  ·rw [if_neg (by omega), if_neg h2]
   by_cases h3 : v < 65536
   ·rw [if_pos (by omega), if_pos h3]; simp; omega
   ·rw [if_neg (by omega), if_neg h3]; simp; omega
theorem strOf_enc (l : List Nat) : (strOfNums (l.map fun x : Nat => (x : Int))).data.toList = l.map UInt8.ofNat := by
 rw [strOfNums_data, List.map_map]
 apply List.map_congr_left
 intro x _
 simp

/-- the value that the first n bytes tell -/
def vn (s : ByteArray) (i n : Nat) : Nat :=
 if n = 1 then byt s i else if n = 2 then byt s i % 32 * 64 + byt s (i + 1) % 64 else if n = 3 then (byt s i % 16 * 64 + byt s (i + 1) % 64) * 64 + byt s (i + 2) % 64
 else ((byt s i % 8 * 64 + byt s (i + 1) % 64) * 64 + byt s (i + 2) % 64) * 64 + byt s (i + 3) % 64
theorem vn_lt (s : ByteArray) (i n : Nat) : vn s i n < 2097152 := by
 have := byt_lt s i
 unfold vn
 repeat' split
 all_goals omega
theorem vn_of {s : ByteArray} {i v : Nat} (h : Pre s i v) : vn s i (enc v).length = v := by
 obtain ⟨hr, hl, hb⟩ := h
 have hv : v ≤ 1114111 := by unfold Rn at hr; omega
 unfold enc at hl hb ⊢
 unfold vn
 by_cases h1 : v < 128
 ·simp only [h1, if_true, List.length_cons, List.length_nil] at hl hb ⊢
  have b0 := hb 0 (by omega)
  simpa using b0
 ·by_cases h2 : v < 2048
  ·simp only [h1, h2, if_true, if_false, List.length_cons, List.length_nil] at hl hb ⊢
   have b0 := hb 0 (by omega)
   have b1 := hb 1 (by omega)
   simp at b0 b1
   simp [b0, b1]
   omega
  ·by_cases h3 : v < 65536
   ·simp only [h1, h2, h3, if_true, if_false, List.length_cons, List.length_nil] at hl hb ⊢
    have b0 := hb 0 (by omega)
    have b1 := hb 1 (by omega)
    have b2 := hb 2 (by omega)
    simp at b0 b1 b2
    simp [b0, b1, b2]
    omega
   ·simp only [h1, h2, h3, if_false, List.length_cons, List.length_nil] at hl hb ⊢
    have b0 := hb 0 (by omega)
    have b1 := hb 1 (by omega)
    have b2 := hb 2 (by omega)
    have b3 := hb 3 (by omega)
    simp at b0 b1 b2 b3
    simp [b0, b1, b2, b3]
    omega

section
variable {s : ByteArray} {i : Nat} {r : Int × Int × Bool}
theorem w64 {x : Int} (h0 : -9223372036854775808 ≤ x) (h1 : x ≤ 9223372036854775807) : wrap64 x = x := by unfold wrap64; omega
theorem w32 {x : Int} (h0 : 0 ≤ x) (h1 : x ≤ 2147483647) : wrap32 x = x := by unfold wrap32; omega

/-- the test behind the loop -/
theorem tail_yes (hs : s.size ≤ 140737488351232) {n v : Nat} (hn : n ≤ 4) (hv : v < 2097152) (hp : Pre s i v) (hl : (enc v).length = n) :
  Ev (fun k => quoinref01_Next.l1 k s i n v n) ((v : Int), (n : Int), true) := by
 have hr := hp.1
 have hv2 : v ≤ 1114111 := by unfold Rn at hr; omega
 have hsz := hp.2.1
 rw [hl] at hsz
 refine Ev.step (f := fun k => _) (fun k => ?_) (Ev.now _)
 simp only [quoinref01_Next.l1]
 rw [if_neg (by omega), if_pos (by omega), w32 (by omega) (by omega), rune_eq, (valid_iff v).2 hr]
 simp only [Option.bind_some, if_true]
 rw [bytes_eq v hr, Option.bind_some]
 have e1 : wrap64 ((i : Int) + n) = ((i + n : Nat) : Int) := by rw [w64] <;> omega
 rw [e1, if_pos (by omega), if_pos (by omega), if_pos (by omega), if_pos]
 rw [ByteArray.toList_eq, ByteArray.toList_eq, strOf_enc, Int.toNat_natCast, Int.toNat_natCast, ext_list]
 have := ((pre_iff s i v hr).1 hp).2
 rw [hl] at this
 rw [← this]
 congr 1
 omega
theorem tail_no (hs : s.size ≤ 140737488351232) {n v : Nat} (hn : n ≤ 4) (hin : i + n ≤ s.size) (hv : v < 2097152) (hp : ¬ (Pre s i v ∧ (enc v).length = n)) (h : Ev (fun k => quoinref01_Next.l0 k s i ((n + 1 : Nat) : Int)) r) :
  Ev (fun k => quoinref01_Next.l1 k s i n v n) r := by
 have e0 : wrap64 ((n : Int) + 1) = ((n + 1 : Nat) : Int) := by rw [w64] <;> omega
 by_cases h1 : (v : Int) ≤ 1114111
 ·by_cases hr : Rn v
  ·refine Ev.step (f := fun k => quoinref01_Next.l0 k s i ((n + 1 : Nat) : Int)) (fun k => ?_) h
   simp only [quoinref01_Next.l1]
   rw [if_neg (by omega), if_pos h1, w32 (by omega) (by omega), rune_eq, (valid_iff v).2 hr]
   simp only [Option.bind_some, if_true]
   rw [bytes_eq v hr, Option.bind_some]
   have e1 : wrap64 ((i : Int) + n) = ((i + n : Nat) : Int) := by rw [w64] <;> omega
   rw [e1, if_pos (by omega), if_pos (by omega), if_pos (by omega), if_neg, e0]
   intro he
   rw [ByteArray.toList_eq, ByteArray.toList_eq, strOf_enc, Int.toNat_natCast, Int.toNat_natCast, ext_list] at he
   have hlen := congrArg List.length he
   rw [List.length_map, List.length_take, List.length_drop, data_length] at hlen
   have hl : (enc v).length = n := by omega
   refine hp ⟨(pre_iff s i v hr).2 ⟨by omega, ?_⟩, hl⟩
   rw [he, hl]
   congr 1
   omega
  ·refine Ev.step (f := fun k => quoinref01_Next.l0 k s i ((n + 1 : Nat) : Int)) (fun k => ?_) h
   simp only [quoinref01_Next.l1]
   have hb : Utf8.valid (v : Int) = false := by
    cases hc : Utf8.valid (v : Int) with
    | false => rfl
    | true => exact absurd ((valid_iff v).1 hc) hr
   rw [if_neg (by omega), if_pos h1, w32 (by omega) (by omega), rune_eq, hb]
   simp only [Option.bind_some, Bool.false_eq_true, if_false]
   rw [e0]
 ·refine Ev.step (f := fun k => quoinref01_Next.l0 k s i ((n + 1 : Nat) : Int)) (fun k => ?_) h
  simp only [quoinref01_Next.l1]
  rw [if_neg (by omega), if_neg h1, e0]

theorem l1_step (hs : s.size ≤ 140737488351232) {n v j : Nat} (hn : n ≤ 4) (hj : j < n) (hin : i + n ≤ s.size) (hv : v < 2097152) (h : Ev (fun k => quoinref01_Next.l1 k s i n ((v * 64 + byt s (i + j) % 64 : Nat) : Int) ((j + 1 : Nat) : Int)) r) :
  Ev (fun k => quoinref01_Next.l1 k s i n v j) r := by
 refine Ev.step (f := fun k => quoinref01_Next.l1 k s i n ((v * 64 + byt s (i + j) % 64 : Nat) : Int) ((j + 1 : Nat) : Int)) (fun k => ?_) h
 have e1 : wrap64 ((i : Int) + j) = ((i + j : Nat) : Int) := by rw [w64] <;> omega
 have e2 : wrap64 ((j : Int) + 1) = ((j + 1 : Nat) : Int) := by rw [w64] <;> omega
 rw [show quoinref01_Next.l1 (k + 1) s i n v j = _ from rfl]
 conv => lhs; unfold quoinref01_Next.l1
 rw [if_pos (by omega), e1, if_pos (by omega), if_pos (by omega), e2, bt_byt s (i + j) (by omega)]
 have := byt_lt s (i + j)
 congr 1
 omega

/-- the loop over the bytes behind the first -/
theorem l1_all (hs : s.size ≤ 140737488351232) {n : Nat} (hn : 1 ≤ n) (hn4 : n ≤ 4) (hin : i + n ≤ s.size)
  (h : Ev (fun k => quoinref01_Next.l1 k s i n (vn s i n) n) r) :
  Ev (fun k => quoinref01_Next.l1 k s i n ((if n = 1 then byt s i else byt s i % 2 ^ (7 - n) : Nat) : Int) 1) r := by
 have hb := byt_lt s i
 have k1 := byt_lt s (i + 1); have k2 := byt_lt s (i + 2); have k3 := byt_lt s (i + 3)
 match n, hn, hn4 with
 | 1, _, _ => simpa [vn] using h
 | 2, _, _ =>
  refine l1_step hs (j := 1) (by omega) (by omega) hin (by simp; omega) ?_
  simpa [vn] using h
 | 3, _, _ =>
  refine l1_step hs (j := 1) (by omega) (by omega) hin (by simp; omega) ?_
  refine l1_step hs (j := 2) (by omega) (by omega) hin (by simp; omega) ?_
  simpa [vn] using h
 | 4, _, _ =>
  refine l1_step hs (j := 1) (by omega) (by omega) hin (by simp; omega) ?_
  refine l1_step hs (j := 2) (by omega) (by omega) hin (by simp; omega) ?_
  refine l1_step hs (j := 3) (by omega) (by omega) hin (by simp; omega) ?_
  simpa [vn] using h

theorem shl_eq (n : Nat) (h : 2 ≤ n) (h4 : n ≤ 4) : shl .u32 1 (7 - (n : Int)) = ((2 ^ (7 - n) : Nat) : Int) := by
 match n, h, h4 with
 | 2, _, _ => decide
 | 3, _, _ => decide
 | 4, _, _ => decide

theorem l0_in (hs : s.size ≤ 140737488351232) {n : Nat} (hn : 1 ≤ n) (hn4 : n ≤ 4) (hin : i + n ≤ s.size) (h : Ev (fun k => quoinref01_Next.l1 k s i n (vn s i n) n) r) :
  Ev (fun k => quoinref01_Next.l0 k s i n) r := by
 have hq := l1_all hs hn hn4 hin h
 have e1 : wrap64 ((s.size : Int) - i) = (s.size : Int) - i := by rw [w64] <;> omega
 have hb := byt_lt s i
 refine Ev.step (f := fun k => quoinref01_Next.j2 k s i n true) (fun k => ?_) ?_
 ·conv => lhs; unfold quoinref01_Next.l0
  rw [if_pos (by omega), e1, decide_eq_true (by omega)]
 by_cases h1 : n = 1
 ·refine Ev.step (f := fun k => quoinref01_Next.j3 k s i n ((byt s i : Nat) : Int)) (fun k => ?_) ?_
  ·conv => lhs; unfold quoinref01_Next.j2
   rw [if_pos rfl, if_pos (by omega), if_pos (by omega), if_neg (by omega), bt_byt s i (by omega)]
   congr 1
   omega
  refine Ev.step (f := fun k => quoinref01_Next.l1 k s i n ((byt s i : Nat) : Int) 1) (fun k => ?_) ?_
  ·conv => lhs; unfold quoinref01_Next.j3
  rw [if_pos h1] at hq
  exact hq
 ·refine Ev.step (f := fun k => quoinref01_Next.j3 k s i n ((byt s i % 2 ^ (7 - n) : Nat) : Int)) (fun k => ?_) ?_
  ·conv => lhs; unfold quoinref01_Next.j2
   have e3 : wrap64 (7 - (n : Int)) = 7 - (n : Int) := by rw [w64] <;> omega
   rw [if_pos rfl, if_pos (by omega), if_pos (by omega), if_pos (by omega), e3, if_pos (by omega), shl_eq n (by omega) hn4, bt_byt s i (by omega)]
   have hpos : 0 < 2 ^ (7 - n) := Nat.two_pow_pos _
   rw [if_neg (by omega)]
   congr 1
   rw [Int.emod_eq_of_lt (a := (byt s i : Int)) (b := 4294967296) (by omega) (by omega)]
   exact (Int.natCast_emod _ _).symm
  refine Ev.step (f := fun k => quoinref01_Next.l1 k s i n ((byt s i % 2 ^ (7 - n) : Nat) : Int) 1) (fun k => ?_) ?_
  ·conv => lhs; unfold quoinref01_Next.j3
  rw [if_neg h1] at hq
  exact hq

theorem l0_out (hs : s.size ≤ 140737488351232) (hi : i < s.size) {n : Nat} (h : ¬ (n ≤ 4 ∧ i + n ≤ s.size)) (hn : n ≤ 5) : Ev (fun k => quoinref01_Next.l0 k s i n) (0, 1, false) := by
 have e1 : wrap64 ((s.size : Int) - i) = (s.size : Int) - i := by rw [w64] <;> omega
 refine Ev.step (f := fun k => quoinref01_Next.j2 k s i n false) (fun k => ?_) ?_
 ·conv => lhs; unfold quoinref01_Next.l0
  by_cases h4 : n ≤ 4
  ·rw [if_pos (by omega), e1, decide_eq_false (by omega)]
  ·rw [if_neg (by omega)]
 refine Ev.step (f := fun k => some (0, 1, false)) (fun k => ?_) (Ev.now _)
 conv => lhs; unfold quoinref01_Next.j2
 rw [if_neg (by simp)]

theorem pc_of {v : Nat} (hp : Pre s i v) : pc s i = ((v : Int), ((enc v).length : Int), true) := by
 unfold pc
 rw [if_neg (fun e => no_pre e hp), dec_of hp]
theorem pc_none (hi : i < s.size) (hp : ∀ v, ¬ Pre s i v) : pc s i = (0, 1, false) := by
 unfold pc
 rcases dec_cases s i hi with ⟨h, _⟩ | h
 ·exact absurd h (hp _)
 ·rw [if_pos h]

theorem l0_pc (hs : s.size ≤ 140737488351232) (hi : i < s.size) : ∀ d n : Nat, n + d = 5 → 1 ≤ n → (∀ v, Pre s i v → n ≤ (enc v).length) → Ev (fun k => quoinref01_Next.l0 k s i n) (pc s i) := by
 intro d
 induction d with
 | zero =>
  intro n hn h1 hp
  rw [pc_none hi (fun v hv => by have := hp v hv; have := enc_len v; omega)]
  exact l0_out hs hi (by omega) (by omega)
 | succ d ih =>
  intro n hn h1 hp
  by_cases hin : i + n ≤ s.size
  ·refine l0_in hs h1 (by omega) hin ?_
   by_cases hc : Pre s i (vn s i n) ∧ (enc (vn s i n)).length = n
   ·rw [pc_of hc.1, hc.2]
    exact tail_yes hs (by omega) (vn_lt s i n) hc.1 hc.2
   ·refine tail_no hs (by omega) hin (vn_lt s i n) hc (ih (n + 1) (by omega) (by omega) (fun v hv => ?_))
    have h2 := hp v hv
    rcases Nat.lt_or_ge n (enc v).length with h3 | h3
    ·exact h3
    ·have h4 : (enc v).length = n := by omega
     have h5 := vn_of hv
     rw [h4] at h5
     rw [h5] at hc
     exact absurd ⟨hv, h4⟩ hc
  ·rw [pc_none hi (fun v hv => by have := hp v hv; have := hv.2.1; omega)]
   exact l0_out hs hi (by omega) (by omega)
end
theorem rnext_ev (s : ByteArray) (a : Int) (hs : s.size ≤ 140737488351232) : Ev (fun k => quoinref01_Next.f k s a) (nx s a) := by
 have e0 : ∀ b : Bool, b = decide (¬ (0 ≤ a ∧ a < (s.size : Int))) → Ev (fun k => quoinref01_Next.j0 k s a b) (nx s a) := by
  rintro b rfl
  by_cases h : 0 ≤ a ∧ a < (s.size : Int)
  ·refine Ev.step (f := fun k => quoinref01_Next.l0 k s a 1) (fun k => ?_) ?_
   ·simp only [quoinref01_Next.j0]
    rw [if_neg (by simpa using h)]
   obtain ⟨i, rfl⟩ := Int.eq_ofNat_of_zero_le h.1
   have hi : i < s.size := by omega
   show Ev (fun k => quoinref01_Next.l0 k s (i : Int) 1) (nx s (i : Int))
   rw [nx_in s i hi]
   exact l0_pc hs hi 4 1 rfl (by omega) (fun v _ => (enc_len v).1)
  ·refine Ev.step (f := fun k => some (0, 0, false)) (fun k => ?_) ?_
   ·simp only [quoinref01_Next.j0]
    rw [if_pos (decide_eq_true h)]
   unfold nx
   rw [if_neg h]
   exact Ev.now _
 unfold quoinref01_Next.f
 by_cases h : a < 0
 ·exact Ev.pos h (e0 true (by simp; omega))
 ·refine Ev.neg h (e0 _ ?_)
  simp
  omega
end Go.Proofs.Ythiiigbifimckaa.Tx
