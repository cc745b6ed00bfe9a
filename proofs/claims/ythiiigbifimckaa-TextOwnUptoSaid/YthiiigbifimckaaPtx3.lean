/- Functions of the program as plain Lean functions, each with the proof that its call comes to the same answer, and the row of the statement: written by a program of this session out of the translation. No condition beyond those in the texts. -/
import Derived.Test.YthiiigbifimckaaPtx0
namespace Go.Proofs.Ythiiigbifimckaa.Pt
open Go.RowKit Go.Proofs.YthiiigbifimckaaW.PrintWords Go.Proofs.YthiiigbifimckaaW.PrintLast Go.Proofs.YthiiigbifimckaaW.PrintMore
attribute [local go_sem] max2_int min2_int max_two min_two max_three min_three max_four min_four   -- for this text's walks alone
set_option linter.unusedVariables false
set_option linter.unusedSimpArgs false

/-! ### stringslite_HasPrefix: function 46 -/
def stringslite_HasPrefix.f (a0 : ByteArray) (a1 : ByteArray) : Option (Bool) := if (a0.size : Int) ≥ (a1.size : Int) then (if 0 ≤ (a1.size : Int) then (if (a1.size : Int) ≤ (a0.size : Int) then (some ((a0.extract 0 ((a1.size : Int) : Int).toNat).toList == a1.toList)) else (none)) else (none)) else (some false)
set_option maxHeartbeats 8000000 in
set_option maxRecDepth 100000 in
theorem stringslite_HasPrefix.calls (a0 : ByteArray) (a1 : ByteArray) (r : Bool) (w : World) (h : stringslite_HasPrefix.f a0 a1 = some r) :
  Calls Try.prog 46 #[.string a0, .string a1] w fun e w' => e = .returned (.bool r) ∧ Drawn0 w w' := by
 have H : (if (a0.size : Int) ≥ (a1.size : Int) then (if 0 ≤ (a1.size : Int) then (if (a1.size : Int) ≤ (a0.size : Int) then (some ((a0.extract 0 ((a1.size : Int) : Int).toNat).toList == a1.toList)) else (none)) else (none)) else (some false)) = some r := h
 clear h
 by_cases c3 : (a0.size : Int) ≥ (a1.size : Int)
 ·rw [if_pos c3] at H
  have c3b0 : decide ((a1.size : Int) ≤ (a0.size : Int)) = true := decide_eq_true c3
  have c3b1 : decide (a1.size ≤ a0.size) = true := decide_eq_true (Int.ofNat_le.mp c3)
  clear c3
  by_cases c4 : 0 ≤ (a1.size : Int)
  ·rw [if_pos c4] at H
   have c4b0 := eq_true c4
   have c4b1 : decide (0 ≤ (a1.size : Int)) = true := decide_eq_true c4
   clear c4
   by_cases c5 : (a1.size : Int) ≤ (a0.size : Int)
   ·rw [if_pos c5] at H
    have c5b0 := eq_true c5
    have c5b1 : decide ((a1.size : Int) ≤ (a0.size : Int)) = true := decide_eq_true c5
    clear c5
    obtain rfl := Option.some.inj H
    go_enter Try.func46, Try.ntmps46
    go_wp2
    go_ret
    exact ⟨by first | rfl | (simp; done) | (simp [*]; done), by repeat (first | exact Drawn0.refl _ | apply Drawn0.step)⟩
   ·rw [if_neg c5] at H
    exact absurd H (by simp)
  ·rw [if_neg c4] at H
   exact absurd H (by simp)
 ·rw [if_neg c3] at H
  have c3b0 : decide ((a1.size : Int) ≤ (a0.size : Int)) = false := decide_eq_false c3
  have c3b1 : decide (a1.size ≤ a0.size) = false := decide_eq_false (fun h => c3 (Int.ofNat_le.mpr h))
  clear c3
  obtain rfl := Option.some.inj H
  go_enter Try.func46, Try.ntmps46
  go_wp2
  go_ret
  exact ⟨by first | rfl | (simp; done) | (simp [*]; done), by repeat (first | exact Drawn0.refl _ | apply Drawn0.step)⟩

/-! ### strings_HasPrefix: function 33 -/
def strings_HasPrefix.f (a0 : ByteArray) (a1 : ByteArray) : Option (Bool) := (stringslite_HasPrefix.f a0 a1).bind fun t101 => (some t101)
set_option maxHeartbeats 8000000 in
set_option maxRecDepth 100000 in
theorem strings_HasPrefix.calls (a0 : ByteArray) (a1 : ByteArray) (r : Bool) (w : World) (h : strings_HasPrefix.f a0 a1 = some r) :
  Calls Try.prog 33 #[.string a0, .string a1] w fun e w' => e = .returned (.bool r) ∧ Drawn0 w w' := by
 have H : ((stringslite_HasPrefix.f a0 a1).bind fun t101 => (some t101)) = some r := h
 clear h
 replace H := Option.bind_eq_some_iff.mp H
 obtain ⟨t101, A30, H⟩ := H
 replace H : (some t101) = some r := H
 have A3 := Aside0.mk A30
 clear A30
 obtain rfl := Option.some.inj H
 go_enter Try.func33, Try.ntmps33
 go_wp2_with (first | ((with_reducible refine gate_callee (f := 46) rfl ?_); refine goesL_ (some 7) rfl rfl Try.func46 (by kernel_rfl) rfl #[.string a0, .string a1] rfl (by (try simp only [List.map_toArray, List.map_cons, List.map_nil]); first | done | rfl | (simp only [List.length_drop, List.length_take]; rfl)) ?_; (with_reducible refine (stringslite_HasPrefix.calls a0 a1 t101 _ A3.out).mono ?_); rintro e w' ⟨rfl, ⟨nd, rfl⟩⟩; refine ⟨_, rfl, ?_⟩))
 go_ret
 exact ⟨by first | rfl | (simp; done) | (simp [*]; done), by repeat (first | exact Drawn0.refl _ | apply Drawn0.step)⟩

/-! ### text_Next: function 12 -/
section
open Go.Proofs.Ythiiigbifimckaa.Hw
def text_Next.f (a0 : ByteArray) (a1 : Int) : Option (Int × Int × Bool) :=
 if a1 < 0 then some (0, 0, false) else if a1 ≥ (a0.size : Int) then some (0, 0, false) else
 if ((Utf8.decode (a0.extract a1.toNat a0.size) 0).1 : Int) = 65533 then
  (strings_HasPrefix.f (a0.extract a1.toNat a0.size) ⟨#[239, 191, 189]⟩).bind fun b =>
   if b = true then some (((Utf8.decode (a0.extract a1.toNat a0.size) 0).1 : Int), ((Utf8.encode ((Utf8.decode (a0.extract a1.toNat a0.size) 0).1 : Int)).size : Int), true) else some (0, 1, false)
 else some (((Utf8.decode (a0.extract a1.toNat a0.size) 0).1 : Int), ((Utf8.encode ((Utf8.decode (a0.extract a1.toNat a0.size) 0).1 : Int)).size : Int), true)

set_option maxHeartbeats 1000000 in
set_option maxRecDepth 100000 in
theorem text_Next.calls (a0 : ByteArray) (a1 : Int) (r1 r2 : Int) (r3 : Bool) (w : World) (h : text_Next.f a0 a1 = some (r1, r2, r3)) :
  Calls Try.prog 12 #[.string a0, .int .i64 a1] w fun e w' => e = .returned (.tuple #[.int .i32 r1, .int .i64 r2, .bool r3]) ∧ Below w.heap.size w w' := by
 unfold text_Next.f at h
 by_cases c1 : a1 < 0
 ·rw [if_pos c1] at h
  simp only [Option.some.injEq, Prod.mk.injEq] at h
  obtain ⟨rfl, rfl, rfl⟩ := h
  have c1b : decide (a1 < 0) = true := decide_eq_true c1
  go_enter Try.func12, Try.ntmps12
  go_wp2
  go_ret3
  exact ⟨rfl, Below.refl _ _⟩
 ·rw [if_neg c1] at h
  have c1b : decide (a1 < 0) = false := decide_eq_false c1
  by_cases c2 : a1 ≥ (a0.size : Int)
  ·rw [if_pos c2] at h
   simp only [Option.some.injEq, Prod.mk.injEq] at h
   obtain ⟨rfl, rfl, rfl⟩ := h
   have c2b : decide ((a0.size : Int) ≤ a1) = true := decide_eq_true c2
   go_enter Try.func12, Try.ntmps12
   go_wp2
   go_ret3
   exact ⟨rfl, Below.refl _ _⟩
  ·rw [if_neg c2] at h
   have c2b : decide ((a0.size : Int) ≤ a1) = false := decide_eq_false c2
   have c0 : 0 ≤ a1 := by omega
   have c3 : a1 ≤ (a0.size : Int) := by omega
   clear c1
   have hp : 0 < (a0.extract a1.toNat a0.size).size := by simp; omega
   go_enter Try.func12, Try.ntmps12
   go_wp2
   go_loopw [4] (fun v w' => v = .int .i32 0 ∧ w' = w.iter (a0.extract a1.toNat a0.size) 0) (fun _ _ => 0)
   case atStart => exact ⟨rfl, rfl⟩
   case round =>
    obtain ⟨rfl, rfl⟩ := hrel
    have hnx : ∀ ty, (Instr.next (.pointer (some ⟨w.heap.size, 0, none⟩)) true ty).run Try.prog (w.iter (a0.extract a1.toNat a0.size) 0) = _ := fun ty => run_next_any w (a0.extract a1.toNat a0.size) 0 ty hp
    generalize Utf8.decode (a0.extract a1.toNat a0.size) 0 = d at h hnx
    have hb := below_iter w (a0.extract a1.toNat a0.size) d.2
    by_cases c4 : (d.1 : Int) = 65533
    ·rw [if_pos c4] at h
     have c4b : ((d.1 : Int) == 65533) = true := beq_iff_eq.mpr c4
     replace h := Option.bind_eq_some_iff.mp h
     obtain ⟨b, hb1, h⟩ := h
     have Hb := Lib.hid hb1
     have Hc := Lib.hid c4
     clear hb1 c4
     go_wp2_with fail
     refine (strings_HasPrefix.calls _ _ b _ Hb.out).mono ?_
     rintro e w' ⟨rfl, hd⟩
     cases b with
     | true =>
      simp only [if_true, Option.some.injEq, Prod.mk.injEq] at h
      obtain ⟨rfl, rfl, rfl⟩ := h
      go_wp2
      go_ret3
      exact ⟨rfl, below_then hb (by have := hb.size; omega) hd.below⟩
     | false =>
      simp only [Bool.false_eq_true, if_false, Option.some.injEq, Prod.mk.injEq] at h
      obtain ⟨rfl, rfl, rfl⟩ := h
      go_wp2
      go_ret3
      exact ⟨rfl, below_then hb (by have := hb.size; omega) hd.below⟩
    ·rw [if_neg c4] at h
     have c4b : ((d.1 : Int) == 65533) = false := beq_eq_false_iff_ne.mpr c4
     simp only [Option.some.injEq, Prod.mk.injEq] at h
     obtain ⟨rfl, rfl, rfl⟩ := h
     go_wp2_with fail
     go_ret3
     exact ⟨rfl, hb⟩

end

/-! ### text_isRune: function 34 -/
def text_isRune.f (a0 : Int) : Option (Bool) := if a0 ≥ 0 then (if a0 ≤ 1114111 then (if a0 < 55296 then (some true) else (some (decide (a0 > 57343)))) else (some false)) else (some false)
set_option maxHeartbeats 8000000 in
set_option maxRecDepth 100000 in
theorem text_isRune.calls (a0 : Int) (r : Bool) (w : World) (h : text_isRune.f a0 = some r) :
  Calls Try.prog 34 #[.int .i32 a0] w fun e w' => e = .returned (.bool r) ∧ Drawn0 w w' := by
 have H : (if a0 ≥ 0 then (if a0 ≤ 1114111 then (if a0 < 55296 then (some true) else (some (decide (a0 > 57343)))) else (some false)) else (some false)) = some r := h
 clear h
 by_cases c2 : a0 ≥ 0
 ·rw [if_pos c2] at H
  have c2b0 : decide (0 ≤ a0) = true := decide_eq_true c2
  clear c2
  by_cases c3 : a0 ≤ 1114111
  ·rw [if_pos c3] at H
   have c3b0 : decide (a0 ≤ 1114111) = true := decide_eq_true c3
   clear c3
   by_cases c4 : a0 < 55296
   ·rw [if_pos c4] at H
    have c4b0 : decide (a0 < 55296) = true := decide_eq_true c4
    clear c4
    obtain rfl := Option.some.inj H
    go_enter Try.func34, Try.ntmps34
    go_wp2
    go_ret
    exact ⟨by first | rfl | (simp; done) | (simp [*]; done), by repeat (first | exact Drawn0.refl _ | apply Drawn0.step)⟩
   ·rw [if_neg c4] at H
    have c4b0 : decide (a0 < 55296) = false := decide_eq_false c4
    clear c4
    obtain rfl := Option.some.inj H
    go_enter Try.func34, Try.ntmps34
    go_wp2
    go_ret
    exact ⟨by first | rfl | (simp; done) | (simp [*]; done), by repeat (first | exact Drawn0.refl _ | apply Drawn0.step)⟩
  ·rw [if_neg c3] at H
   have c3b0 : decide (a0 ≤ 1114111) = false := decide_eq_false c3
   clear c3
   obtain rfl := Option.some.inj H
   go_enter Try.func34, Try.ntmps34
   go_wp2
   go_ret
   exact ⟨by first | rfl | (simp; done) | (simp [*]; done), by repeat (first | exact Drawn0.refl _ | apply Drawn0.step)⟩
 ·rw [if_neg c2] at H
  have c2b0 : decide (0 ≤ a0) = false := decide_eq_false c2
  clear c2
  obtain rfl := Option.some.inj H
  go_enter Try.func34, Try.ntmps34
  go_wp2
  go_ret
  exact ⟨by first | rfl | (simp; done) | (simp [*]; done), by repeat (first | exact Drawn0.refl _ | apply Drawn0.step)⟩

/-! ### text_Encode: function 14 -/
def text_Encode.f (a0 : Int) : Option (ByteArray × Int) := (text_isRune.f a0).bind fun t102 => (if t102 = true then (some (Utf8.encode a0, 0)) else (some ((⟨#[]⟩ : ByteArray), 11)))
set_option maxHeartbeats 8000000 in
set_option maxRecDepth 100000 in
theorem text_Encode.calls (a0 : Int) (r1 : ByteArray) (r2 : Int) (w : World) (h : text_Encode.f a0 = some (r1, r2)) :
  Calls Try.prog 14 #[.int .i32 a0] w fun e w' => e = .returned (.tuple #[.string r1, .int .i64 r2]) ∧ Drawn0 w w' := by
 have H : ((text_isRune.f a0).bind fun t102 => (if t102 = true then (some (Utf8.encode a0, 0)) else (some ((⟨#[]⟩ : ByteArray), 11)))) = some (r1, r2) := h
 clear h
 replace H := Option.bind_eq_some_iff.mp H
 obtain ⟨t102, A20, H⟩ := H
 replace H : (if t102 = true then (some (Utf8.encode a0, 0)) else (some ((⟨#[]⟩ : ByteArray), 11))) = some (r1, r2) := H
 have A2 := Aside0.mk A20
 clear A20
 by_cases c3 : t102 = true
 ·subst c3
  have H1 : (some (Utf8.encode a0, 0)) = some (r1, r2) := by rw [if_pos rfl] at H; exact H
  clear H
  have H := H1
  clear H1
  simp only [Option.some.injEq, Prod.mk.injEq] at H
  obtain ⟨rfl, rfl⟩ := H
  go_enter Try.func14, Try.ntmps14
  go_wp2_with (first | ((with_reducible refine gate_callee (f := 34) rfl ?_); refine goesL_ (some 5) rfl rfl Try.func34 (by kernel_rfl) rfl #[.int .i32 a0] rfl (by (try simp only [List.map_toArray, List.map_cons, List.map_nil]); first | done | rfl | (simp only [List.length_drop, List.length_take]; rfl)) ?_; (with_reducible refine (text_isRune.calls a0 true _ A2.out).mono ?_); rintro e w' ⟨rfl, ⟨nd, rfl⟩⟩; refine ⟨_, rfl, ?_⟩))
  go_ret2
  exact ⟨by first | rfl | (simp; done) | (simp [*]; done), by repeat (first | exact Drawn0.refl _ | apply Drawn0.step)⟩
 ·replace c3 := Bool.eq_false_iff.mpr c3
  subst c3
  have H1 : (some ((⟨#[]⟩ : ByteArray), 11)) = some (r1, r2) := by rw [if_neg (show ¬ (false = true) by decide)] at H; exact H
  clear H
  have H := H1
  clear H1
  simp only [Option.some.injEq, Prod.mk.injEq] at H
  obtain ⟨rfl, rfl⟩ := H
  go_enter Try.func14, Try.ntmps14
  go_wp2_with (first | ((with_reducible refine gate_callee (f := 34) rfl ?_); refine goesL_ (some 5) rfl rfl Try.func34 (by kernel_rfl) rfl #[.int .i32 a0] rfl (by (try simp only [List.map_toArray, List.map_cons, List.map_nil]); first | done | rfl | (simp only [List.length_drop, List.length_take]; rfl)) ?_; (with_reducible refine (text_isRune.calls a0 false _ A2.out).mono ?_); rintro e w' ⟨rfl, ⟨nd, rfl⟩⟩; refine ⟨_, rfl, ?_⟩))
  go_ret2
  exact ⟨by first | rfl | (simp; done) | (simp [*]; done), by repeat (first | exact Drawn0.refl _ | apply Drawn0.step)⟩

-- NOT PRINTED: function 56 (abi_NoEscape)

-- NOT PRINTED: function 47 (strings_Builder_copyCheck)

-- NOT PRINTED: function 37 (strings_Builder_WriteString)

-- NOT PRINTED: function 38 (strings_Builder_String)

-- NOT PRINTED: function 39 (strings_Builder_WriteByte)

/-! ### text_Quote: function 23 -/
section
open Go.Proofs.Ythiiigbifimckaa.Hw
def hexTable : ByteArray := ⟨#[48, 49, 50, 51, 52, 53, 54, 55, 56, 57, 97, 98, 99, 100, 101, 102]⟩
def hexByte (n : Int) : UInt8 := hexTable.data.getD n.toNat 0
def text_Quote.piece (v : ByteArray) (i : Nat) (r size : Int) (ok : Bool) : List UInt8 :=
 if r = 10 then [92, 110] else if r = 9 then [92, 116] else if r = 13 then [92, 114]
 else if r = 34 then [92, 34] else if r = 92 then [92, 92]
 else if ok = false ∨ r < 32 ∨ r = 127 then [92, 120, hexByte (bt v i / 16), hexByte (bt v i % 16)]
 else (v.extract i (i + size.toNat)).data.toList
def text_Quote.l (v : ByteArray) : Nat → Nat → List UInt8 → Option (List UInt8)
 | 0, _, _ => none
 | k + 1, i, acc => if i < v.size then ((text_Next.f v i).bind fun t => if 1 ≤ t.2.1 ∧ (i : Int) + t.2.1 ≤ v.size ∧ acc.length ≤ 4 * i + 1 then text_Quote.l v k (i + t.2.1.toNat) (acc ++ text_Quote.piece v i t.1 t.2.1 t.2.2) else none)
   else some acc
def text_Quote.f (a0 : ByteArray) : Option (ByteArray × Int) :=
 if (a0.size : Int) > 4096 then some (⟨#[]⟩, 3) else (text_Quote.l a0 (a0.size + 1) 0 [34]).bind fun acc => if acc.length ≤ 20000 then some (⟨(acc ++ [34]).toArray⟩, 0) else none

theorem hexb_all : ∀ n : Fin 16, ((⟨#[48, 49, 50, 51, 52, 53, 54, 55, 56, 57, 97, 98, 99, 100, 101, 102]⟩ : ByteArray)[n.val]'(n.isLt)).toNat = (hexTable.data.getD n.val 0).toNat := by decide
theorem hexb1 (v : ByteArray) (i : Nat) (hp : i < v.size) (h : (v[i]'hp).toNat / 16 < 16) :
  [Value.int IntKind.u8 (((⟨#[48, 49, 50, 51, 52, 53, 54, 55, 56, 57, 97, 98, 99, 100, 101, 102]⟩ : ByteArray)[(v[i]'hp).toNat / 16]'h).toNat : Int)] = Lib.byteCells [hexByte (bt v i / 16)] := by
 have e : bt v i = ((v[i]'hp).toNat : Int) := by simp [bt, hp]
 have this := hexb_all ⟨(v[i]'hp).toNat / 16, h⟩
 simp only [Lib.byteCells, List.map_cons, List.map_nil, hexByte, e]
 rw [this]
 congr 3
theorem hexb2 (v : ByteArray) (i : Nat) (hp : i < v.size) (h : (v[i]'hp).toNat % 16 < 16) :
  [Value.int IntKind.u8 (((⟨#[48, 49, 50, 51, 52, 53, 54, 55, 56, 57, 97, 98, 99, 100, 101, 102]⟩ : ByteArray)[(v[i]'hp).toNat % 16]'h).toNat : Int)] = Lib.byteCells [hexByte (bt v i % 16)] := by
 have e : bt v i = ((v[i]'hp).toNat : Int) := by simp [bt, hp]
 have this := hexb_all ⟨(v[i]'hp).toNat % 16, h⟩
 simp only [Lib.byteCells, List.map_cons, List.map_nil, hexByte, e]
 rw [this]
 congr 3

set_option maxHeartbeats 8000000 in
set_option maxRecDepth 100000 in
theorem text_Quote.calls (a0 : ByteArray) (r1 : ByteArray) (r2 : Int) (w : World) (h : text_Quote.f a0 = some (r1, r2)) :
  Calls Try.prog 23 #[.string a0] w fun e w' => e = .returned (.tuple #[.string r1, .int .i64 r2]) ∧ Below w.heap.size w w' := by
 unfold text_Quote.f at h
 by_cases c1 : (a0.size : Int) > 4096
 ·rw [if_pos c1] at h
  simp only [Option.some.injEq, Prod.mk.injEq] at h
  obtain ⟨rfl, rfl⟩ := h
  have c1b : decide ((4096 : Int) < (a0.size : Int)) = true := decide_eq_true c1
  have c1c : decide (4096 < a0.size) = true := decide_eq_true (by omega)
  go_enter Try.func23, Try.ntmps23
  go_wp2
  go_ret2
  exact ⟨rfl, Below.refl _ _⟩
 ·rw [if_neg c1] at h
  have c1b : decide ((4096 : Int) < (a0.size : Int)) = false := decide_eq_false c1
  have c1c : decide (4096 < a0.size) = false := decide_eq_false (by omega)
  obtain ⟨out, H', h⟩ := Option.bind_eq_some_iff.mp h
  by_cases hout : out.length ≤ 20000
  case neg => rw [if_neg hout] at h; exact absurd h (by simp)
  rw [if_pos hout] at h
  simp only [Option.some.injEq, Prod.mk.injEq] at h
  obtain ⟨rfl, rfl⟩ := h
  have H' := Aside0.mk H'
  have C1 := Aside0.mk c1
  have HL := Aside0.mk hout
  clear c1 hout
  have hu69 := Try.underlying69
  go_enter Try.func23, Try.ntmps23
  go_wp2_with fail
  refine (Bld.WriteByte_k w.heap.size w.heap.size [] 34 _ (Lib.IsBuilderF.of (Lib.fresh_isBuilder 69 5 w)) (by simp) (by simp)).mono ?_
  rintro e w1 ⟨rfl, h1, hb1, hk1⟩
  have hb2 := (below_alloc (Below.refl w.heap.size w) (.cells #[.pointer none, .slice none 0 0] 69)).trans hb1
  have h1' : Lib.BuilderAtF 69 5 w.heap.size w.heap.size (.pointer (some ⟨w.heap.size, 0, none⟩)) (Lib.byteCells [34]) w1 := h1
  have HI := Aside0.mk (show Lib.IsBuilderF 69 5 w.heap.size w.heap.size (Lib.byteCells [34]) w1 from Or.inr h1')
  have HB := Aside0.mk hb2
  have HS := Aside0.mk (show w.heap.size < w1.heap.size by have := hb1.size; simp at this; omega)
  clear h1 h1' hb1 hk1 hb2
  go_wp2
  go_loopg [5] (a0.size + 1) (fun kq v5 w' => ∃ (i : Nat) (acc : List UInt8), v5 = .int .i64 i ∧ Aside0 (text_Quote.l a0 kq i acc = some out) ∧ Aside0 (kq ≤ a0.size + 1) ∧ Aside0 (Lib.IsBuilderF 69 5 w.heap.size w.heap.size (Lib.byteCells acc) w') ∧ Aside0 (Below w.heap.size w w') ∧ Aside0 (w.heap.size < w'.heap.size))
  case atStart => exact ⟨0, [34], rfl, H', ⟨Nat.le_refl _⟩, HI, HB, HS⟩
  case round =>
   clear H' HI HB HS
   obtain ⟨i, acc, rfl, HA, HK, HI, HB, HS⟩ := hrel
   cases gk with
   | zero => exact absurd HA.out (by simp [text_Quote.l])
   | succ k1 =>
    have H := HA.out
    clear HA
    simp only [text_Quote.l] at H
    by_cases hp : i < a0.size
    ·rw [if_pos hp] at H
     replace H := Option.bind_eq_some_iff.mp H
     obtain ⟨⟨t1, t2, t3⟩, hn, H⟩ := H
     replace H : (if 1 ≤ t2 ∧ (i : Int) + t2 ≤ a0.size ∧ acc.length ≤ 4 * i + 1 then text_Quote.l a0 k1 (i + t2.toNat) (acc ++ text_Quote.piece a0 i t1 t2 t3) else none) = some out := H
     by_cases hg : 1 ≤ t2 ∧ (i : Int) + t2 ≤ a0.size ∧ acc.length ≤ 4 * i + 1
     ·rw [if_pos hg] at H
      obtain ⟨g1, g2, g3⟩ := hg
      have Hn := Aside0.mk hn
      have G3 := Aside0.mk g3
      clear hn g3
      have hd1 : decide ((i : Int) < (a0.size : Int)) = true := decide_eq_true (by omega)
      have hd2 : decide (i < a0.size) = true := decide_eq_true (by omega)
      have C1' := C1.out
      obtain ⟨m, rfl⟩ : ∃ m : Nat, t2 = m := ⟨t2.toNat, by omega⟩
      have HA := Aside0.mk (show acc.length ≤ 17000 by have := G3.out; omega)
      obtain ⟨out2, HO⟩ : ∃ o : List UInt8, o = text_Quote.piece a0 i t1 m t3 := ⟨_, rfl⟩
      rw [← HO] at H
      rw [Int.toNat_natCast] at H
      have H := Aside0.mk H
      have HO := Aside0.mk HO
      by_cases c10 : t1 = 10
      ·subst c10
       go_wp2_with fail
       refine (text_Next.calls _ _ _ _ _ _ Hn.out).mono ?_
       rintro e w1 ⟨rfl, hbn⟩
       have HI1 := Aside0.mk (isB_below HI.out hbn)
       have HB1 := Aside0.mk (below_then HB.out HB.out.size hbn)
       have HS1 := Aside0.mk (Nat.lt_of_lt_of_le HS.out hbn.size)
       clear HI HB HS hbn
       go_wp2_with fail
       refine (Bld.WriteString_k w.heap.size w.heap.size _ _ _ HI1.out (by have := HA.out; simp [Lib.byteCells_length, ByteArray.size] <;> omega) (by have := HS1.out; omega)).mono ?_
       rintro e w2 ⟨rfl, h1, hb1, hk1⟩
       have HI2 := Aside0.mk (isB_step (acc := _) (p := [92, 110]) h1 (by rfl))
       have HB2 := Aside0.mk (HB1.out.trans hb1)
       have HS2 := Aside0.mk (Nat.lt_of_lt_of_le HS1.out hb1.size)
       clear h1 hb1 hk1
       go_wp2
       go_roundg k1
       case measure => have := HK.out; omega
       case rel => exact ⟨i + m, _, by go_num, H, ⟨by have := HK.out; omega⟩, ⟨by rw [HO.out]; simpa [text_Quote.piece] using HI2.out⟩, HB2, HS2⟩
      ·skip
       by_cases c9 : t1 = 9
       ·subst c9
        go_wp2_with fail
        refine (text_Next.calls _ _ _ _ _ _ Hn.out).mono ?_
        rintro e w1 ⟨rfl, hbn⟩
        have HI1 := Aside0.mk (isB_below HI.out hbn)
        have HB1 := Aside0.mk (below_then HB.out HB.out.size hbn)
        have HS1 := Aside0.mk (Nat.lt_of_lt_of_le HS.out hbn.size)
        clear HI HB HS hbn
        go_wp2_with fail
        refine (Bld.WriteString_k w.heap.size w.heap.size _ _ _ HI1.out (by have := HA.out; simp [Lib.byteCells_length, ByteArray.size] <;> omega) (by have := HS1.out; omega)).mono ?_
        rintro e w2 ⟨rfl, h1, hb1, hk1⟩
        have HI2 := Aside0.mk (isB_step (acc := _) (p := [92, 116]) h1 (by rfl))
        have HB2 := Aside0.mk (HB1.out.trans hb1)
        have HS2 := Aside0.mk (Nat.lt_of_lt_of_le HS1.out hb1.size)
        clear h1 hb1 hk1
        go_wp2
        go_roundg k1
        case measure => have := HK.out; omega
        case rel => exact ⟨i + m, _, by go_num, H, ⟨by have := HK.out; omega⟩, ⟨by rw [HO.out]; simpa [text_Quote.piece] using HI2.out⟩, HB2, HS2⟩
       ·skip
        by_cases c13 : t1 = 13
        ·subst c13
         go_wp2_with fail
         refine (text_Next.calls _ _ _ _ _ _ Hn.out).mono ?_
         rintro e w1 ⟨rfl, hbn⟩
         have HI1 := Aside0.mk (isB_below HI.out hbn)
         have HB1 := Aside0.mk (below_then HB.out HB.out.size hbn)
         have HS1 := Aside0.mk (Nat.lt_of_lt_of_le HS.out hbn.size)
         clear HI HB HS hbn
         go_wp2_with fail
         refine (Bld.WriteString_k w.heap.size w.heap.size _ _ _ HI1.out (by have := HA.out; simp [Lib.byteCells_length, ByteArray.size] <;> omega) (by have := HS1.out; omega)).mono ?_
         rintro e w2 ⟨rfl, h1, hb1, hk1⟩
         have HI2 := Aside0.mk (isB_step (acc := _) (p := [92, 114]) h1 (by rfl))
         have HB2 := Aside0.mk (HB1.out.trans hb1)
         have HS2 := Aside0.mk (Nat.lt_of_lt_of_le HS1.out hb1.size)
         clear h1 hb1 hk1
         go_wp2
         go_roundg k1
         case measure => have := HK.out; omega
         case rel => exact ⟨i + m, _, by go_num, H, ⟨by have := HK.out; omega⟩, ⟨by rw [HO.out]; simpa [text_Quote.piece] using HI2.out⟩, HB2, HS2⟩
        ·skip
         by_cases c34 : t1 = 34
         ·subst c34
          go_wp2_with fail
          refine (text_Next.calls _ _ _ _ _ _ Hn.out).mono ?_
          rintro e w1 ⟨rfl, hbn⟩
          have HI1 := Aside0.mk (isB_below HI.out hbn)
          have HB1 := Aside0.mk (below_then HB.out HB.out.size hbn)
          have HS1 := Aside0.mk (Nat.lt_of_lt_of_le HS.out hbn.size)
          clear HI HB HS hbn
          go_wp2_with fail
          refine (Bld.WriteByte_k w.heap.size w.heap.size _ _ _ HI1.out (by have := HA.out; simp [Lib.byteCells_length, ByteArray.size] <;> omega) (by have := HS1.out; omega)).mono ?_
          rintro e w2 ⟨rfl, h1, hb1, hk1⟩
          have HI2 := Aside0.mk (isB_step (acc := _) (p := [92]) h1 (by rfl))
          have HB2 := Aside0.mk (HB1.out.trans hb1)
          have HS2 := Aside0.mk (Nat.lt_of_lt_of_le HS1.out hb1.size)
          clear h1 hb1 hk1
          go_wp2_with fail
          refine (Bld.WriteByte_k w.heap.size w.heap.size _ _ _ HI2.out (by have := HA.out; simp [Lib.byteCells_length, ByteArray.size] <;> omega) (by have := HS2.out; omega)).mono ?_
          rintro e w3 ⟨rfl, h1, hb1, hk1⟩
          have HI3 := Aside0.mk (isB_step (acc := _) (p := [34]) h1 (by rfl))
          have HB3 := Aside0.mk (HB2.out.trans hb1)
          have HS3 := Aside0.mk (Nat.lt_of_lt_of_le HS2.out hb1.size)
          clear h1 hb1 hk1
          go_wp2
          go_roundg k1
          case measure => have := HK.out; omega
          case rel => exact ⟨i + m, _, by go_num, H, ⟨by have := HK.out; omega⟩, ⟨by rw [HO.out]; simpa [text_Quote.piece] using HI3.out⟩, HB3, HS3⟩
         ·by_cases c92 : t1 = 92
          ·subst c92
           go_wp2_with fail
           refine (text_Next.calls _ _ _ _ _ _ Hn.out).mono ?_
           rintro e w1 ⟨rfl, hbn⟩
           have HI1 := Aside0.mk (isB_below HI.out hbn)
           have HB1 := Aside0.mk (below_then HB.out HB.out.size hbn)
           have HS1 := Aside0.mk (Nat.lt_of_lt_of_le HS.out hbn.size)
           clear HI HB HS hbn
           go_wp2_with fail
           refine (Bld.WriteByte_k w.heap.size w.heap.size _ _ _ HI1.out (by have := HA.out; simp [Lib.byteCells_length, ByteArray.size] <;> omega) (by have := HS1.out; omega)).mono ?_
           rintro e w2 ⟨rfl, h1, hb1, hk1⟩
           have HI2 := Aside0.mk (isB_step (acc := _) (p := [92]) h1 (by rfl))
           have HB2 := Aside0.mk (HB1.out.trans hb1)
           have HS2 := Aside0.mk (Nat.lt_of_lt_of_le HS1.out hb1.size)
           clear h1 hb1 hk1
           go_wp2_with fail
           refine (Bld.WriteByte_k w.heap.size w.heap.size _ _ _ HI2.out (by have := HA.out; simp [Lib.byteCells_length, ByteArray.size] <;> omega) (by have := HS2.out; omega)).mono ?_
           rintro e w3 ⟨rfl, h1, hb1, hk1⟩
           have HI3 := Aside0.mk (isB_step (acc := _) (p := [92]) h1 (by rfl))
           have HB3 := Aside0.mk (HB2.out.trans hb1)
           have HS3 := Aside0.mk (Nat.lt_of_lt_of_le HS2.out hb1.size)
           clear h1 hb1 hk1
           go_wp2
           go_roundg k1
           case measure => have := HK.out; omega
           case rel => exact ⟨i + m, _, by go_num, H, ⟨by have := HK.out; omega⟩, ⟨by rw [HO.out]; simpa [text_Quote.piece] using HI3.out⟩, HB3, HS3⟩
          ·by_cases ce : t3 = false ∨ t1 < 32 ∨ t1 = 127
           ·have CP := Aside0.mk (show text_Quote.piece a0 i t1 m t3 = [92, 120, hexByte (bt a0 i / 16), hexByte (bt a0 i % 16)] by unfold text_Quote.piece; rw [if_neg c10, if_neg c9, if_neg c13, if_neg c34, if_neg c92, if_pos ce])
            by_cases c3 : t3 = false
            ·subst c3
             have hq1 : (a0[i]'hp).toNat / 16 < 16 := by have := (a0[i]'hp).toNat_lt; omega
             have hq2 : (a0[i]'hp).toNat % 16 < 16 := by omega
             have b34 : (t1 == (34 : Int)) = false := beq_eq_false_iff_ne.mpr c34
             have b92 : (t1 == (92 : Int)) = false := beq_eq_false_iff_ne.mpr c92
             go_wp2_with fail
             refine (text_Next.calls _ _ _ _ _ _ Hn.out).mono ?_
             rintro e w1 ⟨rfl, hbn⟩
             have HI1 := Aside0.mk (isB_below HI.out hbn)
             have HB1 := Aside0.mk (below_then HB.out HB.out.size hbn)
             have HS1 := Aside0.mk (Nat.lt_of_lt_of_le HS.out hbn.size)
             clear HI HB HS hbn
             go_wp2_with fail
             refine (Bld.WriteString_k w.heap.size w.heap.size _ _ _ HI1.out (by have := HA.out; simp [Lib.byteCells_length, ByteArray.size] <;> omega) (by have := HS1.out; omega)).mono ?_
             rintro e w2 ⟨rfl, h1, hb1, hk1⟩
             have HI2 := Aside0.mk (isB_step (acc := _) (p := [92, 120]) h1 (by rfl))
             have HB2 := Aside0.mk (HB1.out.trans hb1)
             have HS2 := Aside0.mk (Nat.lt_of_lt_of_le HS1.out hb1.size)
             clear h1 hb1 hk1
             go_wp2_with fail
             refine (Bld.WriteByte_k w.heap.size w.heap.size _ _ _ HI2.out (by have := HA.out; simp [Lib.byteCells_length] <;> omega) (by have := HS2.out; omega)).mono ?_
             rintro e w3 ⟨rfl, h1, hb1, hk1⟩
             have HI3 := Aside0.mk (isB_step (acc := _) (p := [hexByte (bt a0 i / 16)]) h1 (hexb1 a0 i hp hq1))
             have HB3 := Aside0.mk (HB2.out.trans hb1)
             have HS3 := Aside0.mk (Nat.lt_of_lt_of_le HS2.out hb1.size)
             clear h1 hb1 hk1
             go_wp2_with fail
             refine (Bld.WriteByte_k w.heap.size w.heap.size _ _ _ HI3.out (by have := HA.out; simp [Lib.byteCells_length] <;> omega) (by have := HS3.out; omega)).mono ?_
             rintro e w4 ⟨rfl, h1, hb1, hk1⟩
             have HI4 := Aside0.mk (isB_step (acc := _) (p := [hexByte (bt a0 i % 16)]) h1 (hexb2 a0 i hp hq2))
             have HB4 := Aside0.mk (HB3.out.trans hb1)
             have HS4 := Aside0.mk (Nat.lt_of_lt_of_le HS3.out hb1.size)
             clear h1 hb1 hk1
             go_wp2
             go_roundg k1
             case measure => have := HK.out; omega
             case rel => exact ⟨i + m, _, by go_num, H, ⟨by have := HK.out; omega⟩, ⟨by rw [HO.out, CP.out]; simpa using HI4.out⟩, HB4, HS4⟩
            ·by_cases c32 : t1 < 32
             ·obtain rfl : t3 = true := by simpa using c3
              have b32 : decide (t1 < 32) = true := decide_eq_true c32
              have hq1 : (a0[i]'hp).toNat / 16 < 16 := by have := (a0[i]'hp).toNat_lt; omega
              have hq2 : (a0[i]'hp).toNat % 16 < 16 := by omega
              have b34 : (t1 == (34 : Int)) = false := beq_eq_false_iff_ne.mpr c34
              have b92 : (t1 == (92 : Int)) = false := beq_eq_false_iff_ne.mpr c92
              go_wp2_with fail
              refine (text_Next.calls _ _ _ _ _ _ Hn.out).mono ?_
              rintro e w1 ⟨rfl, hbn⟩
              have HI1 := Aside0.mk (isB_below HI.out hbn)
              have HB1 := Aside0.mk (below_then HB.out HB.out.size hbn)
              have HS1 := Aside0.mk (Nat.lt_of_lt_of_le HS.out hbn.size)
              clear HI HB HS hbn
              go_wp2_with fail
              refine (Bld.WriteString_k w.heap.size w.heap.size _ _ _ HI1.out (by have := HA.out; simp [Lib.byteCells_length, ByteArray.size] <;> omega) (by have := HS1.out; omega)).mono ?_
              rintro e w2 ⟨rfl, h1, hb1, hk1⟩
              have HI2 := Aside0.mk (isB_step (acc := _) (p := [92, 120]) h1 (by rfl))
              have HB2 := Aside0.mk (HB1.out.trans hb1)
              have HS2 := Aside0.mk (Nat.lt_of_lt_of_le HS1.out hb1.size)
              clear h1 hb1 hk1
              go_wp2_with fail
              refine (Bld.WriteByte_k w.heap.size w.heap.size _ _ _ HI2.out (by have := HA.out; simp [Lib.byteCells_length] <;> omega) (by have := HS2.out; omega)).mono ?_
              rintro e w3 ⟨rfl, h1, hb1, hk1⟩
              have HI3 := Aside0.mk (isB_step (acc := _) (p := [hexByte (bt a0 i / 16)]) h1 (hexb1 a0 i hp hq1))
              have HB3 := Aside0.mk (HB2.out.trans hb1)
              have HS3 := Aside0.mk (Nat.lt_of_lt_of_le HS2.out hb1.size)
              clear h1 hb1 hk1
              go_wp2_with fail
              refine (Bld.WriteByte_k w.heap.size w.heap.size _ _ _ HI3.out (by have := HA.out; simp [Lib.byteCells_length] <;> omega) (by have := HS3.out; omega)).mono ?_
              rintro e w4 ⟨rfl, h1, hb1, hk1⟩
              have HI4 := Aside0.mk (isB_step (acc := _) (p := [hexByte (bt a0 i % 16)]) h1 (hexb2 a0 i hp hq2))
              have HB4 := Aside0.mk (HB3.out.trans hb1)
              have HS4 := Aside0.mk (Nat.lt_of_lt_of_le HS3.out hb1.size)
              clear h1 hb1 hk1
              go_wp2
              go_roundg k1
              case measure => have := HK.out; omega
              case rel => exact ⟨i + m, _, by go_num, H, ⟨by have := HK.out; omega⟩, ⟨by rw [HO.out, CP.out]; simpa using HI4.out⟩, HB4, HS4⟩
             ·obtain rfl : t3 = true := by simpa using c3
              obtain rfl : t1 = 127 := by simp at ce; omega
              have hq1 : (a0[i]'hp).toNat / 16 < 16 := by have := (a0[i]'hp).toNat_lt; omega
              have hq2 : (a0[i]'hp).toNat % 16 < 16 := by omega
              go_wp2_with fail
              refine (text_Next.calls _ _ _ _ _ _ Hn.out).mono ?_
              rintro e w1 ⟨rfl, hbn⟩
              have HI1 := Aside0.mk (isB_below HI.out hbn)
              have HB1 := Aside0.mk (below_then HB.out HB.out.size hbn)
              have HS1 := Aside0.mk (Nat.lt_of_lt_of_le HS.out hbn.size)
              clear HI HB HS hbn
              go_wp2_with fail
              refine (Bld.WriteString_k w.heap.size w.heap.size _ _ _ HI1.out (by have := HA.out; simp [Lib.byteCells_length, ByteArray.size] <;> omega) (by have := HS1.out; omega)).mono ?_
              rintro e w2 ⟨rfl, h1, hb1, hk1⟩
              have HI2 := Aside0.mk (isB_step (acc := _) (p := [92, 120]) h1 (by rfl))
              have HB2 := Aside0.mk (HB1.out.trans hb1)
              have HS2 := Aside0.mk (Nat.lt_of_lt_of_le HS1.out hb1.size)
              clear h1 hb1 hk1
              go_wp2_with fail
              refine (Bld.WriteByte_k w.heap.size w.heap.size _ _ _ HI2.out (by have := HA.out; simp [Lib.byteCells_length] <;> omega) (by have := HS2.out; omega)).mono ?_
              rintro e w3 ⟨rfl, h1, hb1, hk1⟩
              have HI3 := Aside0.mk (isB_step (acc := _) (p := [hexByte (bt a0 i / 16)]) h1 (hexb1 a0 i hp hq1))
              have HB3 := Aside0.mk (HB2.out.trans hb1)
              have HS3 := Aside0.mk (Nat.lt_of_lt_of_le HS2.out hb1.size)
              clear h1 hb1 hk1
              go_wp2_with fail
              refine (Bld.WriteByte_k w.heap.size w.heap.size _ _ _ HI3.out (by have := HA.out; simp [Lib.byteCells_length] <;> omega) (by have := HS3.out; omega)).mono ?_
              rintro e w4 ⟨rfl, h1, hb1, hk1⟩
              have HI4 := Aside0.mk (isB_step (acc := _) (p := [hexByte (bt a0 i % 16)]) h1 (hexb2 a0 i hp hq2))
              have HB4 := Aside0.mk (HB3.out.trans hb1)
              have HS4 := Aside0.mk (Nat.lt_of_lt_of_le HS3.out hb1.size)
              clear h1 hb1 hk1
              go_wp2
              go_roundg k1
              case measure => have := HK.out; omega
              case rel => exact ⟨i + m, _, by go_num, H, ⟨by have := HK.out; omega⟩, ⟨by rw [HO.out, CP.out]; simpa using HI4.out⟩, HB4, HS4⟩
           ·obtain ⟨c3, c32, c127⟩ : t3 = true ∧ ¬ t1 < 32 ∧ t1 ≠ 127 := by simpa using ce
            have CP := Aside0.mk (show text_Quote.piece a0 i t1 m t3 = (a0.extract i (i + m)).data.toList by unfold text_Quote.piece; rw [if_neg c10, if_neg c9, if_neg c13, if_neg c34, if_neg c92, if_neg ce, Int.toNat_natCast])
            subst c3
            have b32 : decide (t1 < 32) = false := decide_eq_false c32
            have b127 : (t1 == (127 : Int)) = false := beq_eq_false_iff_ne.mpr c127
            have b10 : (t1 == (10 : Int)) = false := beq_eq_false_iff_ne.mpr c10
            have b9 : (t1 == (9 : Int)) = false := beq_eq_false_iff_ne.mpr c9
            have b13 : (t1 == (13 : Int)) = false := beq_eq_false_iff_ne.mpr c13
            have b34 : (t1 == (34 : Int)) = false := beq_eq_false_iff_ne.mpr c34
            have b92 : (t1 == (92 : Int)) = false := beq_eq_false_iff_ne.mpr c92
            clear ce
            go_wp2_with fail
            refine (text_Next.calls _ _ _ _ _ _ Hn.out).mono ?_
            rintro e w1 ⟨rfl, hbn⟩
            have HI1 := Aside0.mk (isB_below HI.out hbn)
            have HB1 := Aside0.mk (below_then HB.out HB.out.size hbn)
            have HS1 := Aside0.mk (Nat.lt_of_lt_of_le HS.out hbn.size)
            clear HI HB HS hbn
            have hsl : ∀ W : World, (Instr.slice 9 (.string a0) (some (.int .i64 (i : Int))) (some (.int .i64 ((i : Int) + (m : Int)))) none).run Try.prog W = .ok (.string (a0.extract i (i + m))) W := fun W => (run_slice_string (P := Try.prog) W 9 a0 .i64 .i64 (i : Int) ((i : Int) + (m : Int)) Try.underlying9 (by omega) (by omega) (by omega)).trans (by rw [Int.toNat_natCast, show ((i : Int) + (m : Int)).toNat = i + m by omega])
            go_wp2_with fail
            refine (Bld.WriteString_k w.heap.size w.heap.size _ _ _ HI1.out (by have := HA.out; simp [Lib.byteCells_length] <;> omega) (by have := HS1.out; omega)).mono ?_
            rintro e w2 ⟨rfl, h1, hb1, hk1⟩
            have HI2 := Aside0.mk (isB_step (acc := _) (p := (a0.extract i (i + m)).data.toList) h1 (by rw [Lib.strCells_eq]))
            have HB2 := Aside0.mk (HB1.out.trans hb1)
            have HS2 := Aside0.mk (Nat.lt_of_lt_of_le HS1.out hb1.size)
            clear h1 hb1 hk1
            go_wp2
            go_roundg k1
            case measure => have := HK.out; omega
            case rel => exact ⟨i + m, _, by go_num, H, ⟨by have := HK.out; omega⟩, ⟨by rw [HO.out, CP.out]; exact HI2.out⟩, HB2, HS2⟩
     ·rw [if_neg hg] at H
      exact absurd H (by simp)
    ·rw [if_neg hp] at H
     obtain rfl := Option.some.inj H
     have hd1 : decide ((i : Int) < (a0.size : Int)) = false := decide_eq_false (by omega)
     have hd2 : decide (i < a0.size) = false := decide_eq_false (by omega)
     go_wp2_with fail
     refine (Bld.WriteByte_k w.heap.size w.heap.size _ 34 _ HI.out (by have := HL.out; simp [Lib.byteCells_length] <;> omega) (by have := HS.out; omega)).mono ?_
     rintro e w2 ⟨rfl, h1, hb1, hk1⟩
     have HI2 := Aside0.mk (isB_step (acc := _) (p := [34]) h1 (by rfl))
     have HB2 := Aside0.mk (HB.out.trans hb1)
     have HS2 := Aside0.mk (Nat.lt_of_lt_of_le HS.out hb1.size)
     clear h1 hb1 hk1
     go_wp2_with fail
     refine (Try.Builder_String_any_k w.heap.size w.heap.size _ _ HI2.out (by have := HS2.out; omega)).mono ?_
     rintro e w3 ⟨rfl, h1, hb1, hk1⟩
     go_wp2
     go_ret2
     exact ⟨rfl, HB2.out.trans hb1⟩

end

/-! ### quoinlaw01_alive: function 13 -/
def quoinlaw01_alive.f  : Option (Bool) := (text_Next.f (⟨#[97, 195, 169]⟩ : ByteArray) 1).bind fun bt103 => ((text_Encode.f 233).bind fun bt106 => ((text_Quote.f (⟨#[10]⟩ : ByteArray)).bind fun bt108 => (if bt103.1 = 233 then (if bt103.2.1 = 2 then (if bt103.2.2 = true then (if bt106.1.toList = ([195, 169] : List UInt8) then (if bt106.2 = 0 then (if bt108.1.toList = ([34, 92, 110, 34] : List UInt8) then (some (bt108.2 == 0)) else (some false)) else (some false)) else (some false)) else (some false)) else (some false)) else (some false))))
set_option maxHeartbeats 8000000 in
set_option maxRecDepth 100000 in
theorem quoinlaw01_alive.calls  (r : Bool) (w : World) (h : quoinlaw01_alive.f  = some r) :
  Calls Try.prog 13 #[] w fun e w' => e = .returned (.bool r) ∧ Below w.heap.size w w' := by
 have HB := Aside0.mk (Below.refl w.heap.size w)
 have H : ((text_Next.f (⟨#[97, 195, 169]⟩ : ByteArray) 1).bind fun bt103 => ((text_Encode.f 233).bind fun bt106 => ((text_Quote.f (⟨#[10]⟩ : ByteArray)).bind fun bt108 => (if bt103.1 = 233 then (if bt103.2.1 = 2 then (if bt103.2.2 = true then (if bt106.1.toList = ([195, 169] : List UInt8) then (if bt106.2 = 0 then (if bt108.1.toList = ([34, 92, 110, 34] : List UInt8) then (some (bt108.2 == 0)) else (some false)) else (some false)) else (some false)) else (some false)) else (some false)) else (some false))))) = some r := h
 clear h
 replace H := Option.bind_eq_some_iff.mp H
 obtain ⟨⟨t103, t104, t105⟩, A10, H⟩ := H
 replace H : ((text_Encode.f 233).bind fun bt106 => ((text_Quote.f (⟨#[10]⟩ : ByteArray)).bind fun bt108 => (if t103 = 233 then (if t104 = 2 then (if t105 = true then (if bt106.1.toList = ([195, 169] : List UInt8) then (if bt106.2 = 0 then (if bt108.1.toList = ([34, 92, 110, 34] : List UInt8) then (some (bt108.2 == 0)) else (some false)) else (some false)) else (some false)) else (some false)) else (some false)) else (some false)))) = some r := H
 have A1 := Aside0.mk A10
 clear A10
 replace H := Option.bind_eq_some_iff.mp H
 obtain ⟨⟨t106, t107⟩, A20, H⟩ := H
 replace H : ((text_Quote.f (⟨#[10]⟩ : ByteArray)).bind fun bt108 => (if t103 = 233 then (if t104 = 2 then (if t105 = true then (if t106.toList = ([195, 169] : List UInt8) then (if t107 = 0 then (if bt108.1.toList = ([34, 92, 110, 34] : List UInt8) then (some (bt108.2 == 0)) else (some false)) else (some false)) else (some false)) else (some false)) else (some false)) else (some false))) = some r := H
 have A2 := Aside0.mk A20
 clear A20
 replace H := Option.bind_eq_some_iff.mp H
 obtain ⟨⟨t108, t109⟩, A30, H⟩ := H
 replace H : (if t103 = 233 then (if t104 = 2 then (if t105 = true then (if t106.toList = ([195, 169] : List UInt8) then (if t107 = 0 then (if t108.toList = ([34, 92, 110, 34] : List UInt8) then (some (t109 == 0)) else (some false)) else (some false)) else (some false)) else (some false)) else (some false)) else (some false)) = some r := H
 have A3 := Aside0.mk A30
 clear A30
 by_cases c4 : t103 = 233
 ·rw [if_pos c4] at H
  have c4b0 : (t103 == 233) = true := beq_iff_eq.mpr c4
  have c4b1 : (t103 != 233) = false := bne_eq_false_iff_eq.mpr c4
  clear c4
  by_cases c5 : t104 = 2
  ·rw [if_pos c5] at H
   have c5b0 : (t104 == 2) = true := beq_iff_eq.mpr c5
   have c5b1 : (t104 != 2) = false := bne_eq_false_iff_eq.mpr c5
   clear c5
   by_cases c6 : t105 = true
   ·subst c6
    have H1 : (if t106.toList = ([195, 169] : List UInt8) then (if t107 = 0 then (if t108.toList = ([34, 92, 110, 34] : List UInt8) then (some (t109 == 0)) else (some false)) else (some false)) else (some false)) = some r := by rw [if_pos rfl] at H; exact H
    clear H
    have H := H1
    clear H1
    by_cases c7 : t106.toList = ([195, 169] : List UInt8)
    ·rw [if_pos c7] at H
     have c7b0 : (t106.toList == ([195, 169] : List UInt8)) = true := beq_iff_eq.mpr c7
     have c7b1 : (t106.toList != ([195, 169] : List UInt8)) = false := bne_eq_false_iff_eq.mpr c7
     clear c7
     by_cases c8 : t107 = 0
     ·rw [if_pos c8] at H
      have c8b0 : (t107 == 0) = true := beq_iff_eq.mpr c8
      have c8b1 : (t107 != 0) = false := bne_eq_false_iff_eq.mpr c8
      clear c8
      by_cases c9 : t108.toList = ([34, 92, 110, 34] : List UInt8)
      ·rw [if_pos c9] at H
       have c9b0 : (t108.toList == ([34, 92, 110, 34] : List UInt8)) = true := beq_iff_eq.mpr c9
       have c9b1 : (t108.toList != ([34, 92, 110, 34] : List UInt8)) = false := bne_eq_false_iff_eq.mpr c9
       clear c9
       obtain rfl := Option.some.inj H
       go_enter Try.func13, Try.ntmps13
       go_wp2_with (first | ((with_reducible refine gate_callee (f := 12) rfl ?_); refine goesL_ (some 9) rfl rfl Try.func12 (by kernel_rfl) rfl #[.string (⟨#[97, 195, 169]⟩ : ByteArray), .int .i64 1] rfl (by (try simp only [List.map_toArray, List.map_cons, List.map_nil]); first | done | rfl | (simp only [List.length_drop, List.length_take]; rfl)) ?_; (with_reducible refine (text_Next.calls (⟨#[97, 195, 169]⟩ : ByteArray) 1 t103 t104 true _ A1.out).mono ?_); rintro e w10 ⟨rfl, hb⟩; refine ⟨_, rfl, ?_⟩; have n0_ := Aside0.mk (below_step (by repeat (first | (with_reducible first | exact HB.out | apply below_alloc | apply pw_below_drewN | apply below_drew1) | exact HB.out)) hb); clear HB; have HB := n0_; clear n0_; (try clear hb); (try clear hb2); (try clear hk); (try clear hi)) | ((with_reducible refine gate_callee (f := 14) rfl ?_); refine goesL_ (some 14) rfl rfl Try.func14 (by kernel_rfl) rfl #[.int .i32 233] rfl (by (try simp only [List.map_toArray, List.map_cons, List.map_nil]); first | done | rfl | (simp only [List.length_drop, List.length_take]; rfl)) ?_; (with_reducible refine (text_Encode.calls 233 t106 t107 _ A2.out).mono ?_); rintro e w' ⟨rfl, ⟨nd, rfl⟩⟩; refine ⟨_, rfl, ?_⟩) | ((with_reducible refine gate_callee (f := 23) rfl ?_); refine goesL_ (some 18) rfl rfl Try.func23 (by kernel_rfl) rfl #[.string (⟨#[10]⟩ : ByteArray)] rfl (by (try simp only [List.map_toArray, List.map_cons, List.map_nil]); first | done | rfl | (simp only [List.length_drop, List.length_take]; rfl)) ?_; (with_reducible refine (text_Quote.calls (⟨#[10]⟩ : ByteArray) t108 t109 _ A3.out).mono ?_); rintro e w11 ⟨rfl, hb⟩; refine ⟨_, rfl, ?_⟩; have n0_ := Aside0.mk (below_step (by repeat (first | (with_reducible first | exact HB.out | apply below_alloc | apply pw_below_drewN | apply below_drew1) | exact HB.out)) hb); clear HB; have HB := n0_; clear n0_; (try clear hb); (try clear hb2); (try clear hk); (try clear hi)))
       go_ret
       exact ⟨by first | rfl | (simp [errW_none, errW_some] <;> rfl) | (simp [*, errW_none, errW_some] <;> rfl), by repeat (first | (with_reducible first | exact HB.out | apply below_alloc | apply pw_below_drewN | apply below_drew1) | exact HB.out)⟩
      ·rw [if_neg c9] at H
       have c9b0 : (t108.toList == ([34, 92, 110, 34] : List UInt8)) = false := beq_eq_false_iff_ne.mpr c9
       have c9b1 : (t108.toList != ([34, 92, 110, 34] : List UInt8)) = true := bne_iff_ne.mpr c9
       obtain rfl := Option.some.inj H
       go_enter Try.func13, Try.ntmps13
       go_wp2_with (first | ((with_reducible refine gate_callee (f := 12) rfl ?_); refine goesL_ (some 9) rfl rfl Try.func12 (by kernel_rfl) rfl #[.string (⟨#[97, 195, 169]⟩ : ByteArray), .int .i64 1] rfl (by (try simp only [List.map_toArray, List.map_cons, List.map_nil]); first | done | rfl | (simp only [List.length_drop, List.length_take]; rfl)) ?_; (with_reducible refine (text_Next.calls (⟨#[97, 195, 169]⟩ : ByteArray) 1 t103 t104 true _ A1.out).mono ?_); rintro e w12 ⟨rfl, hb⟩; refine ⟨_, rfl, ?_⟩; have n0_ := Aside0.mk (below_step (by repeat (first | (with_reducible first | exact HB.out | apply below_alloc | apply pw_below_drewN | apply below_drew1) | exact HB.out)) hb); clear HB; have HB := n0_; clear n0_; (try clear hb); (try clear hb2); (try clear hk); (try clear hi)) | ((with_reducible refine gate_callee (f := 14) rfl ?_); refine goesL_ (some 14) rfl rfl Try.func14 (by kernel_rfl) rfl #[.int .i32 233] rfl (by (try simp only [List.map_toArray, List.map_cons, List.map_nil]); first | done | rfl | (simp only [List.length_drop, List.length_take]; rfl)) ?_; (with_reducible refine (text_Encode.calls 233 t106 t107 _ A2.out).mono ?_); rintro e w' ⟨rfl, ⟨nd, rfl⟩⟩; refine ⟨_, rfl, ?_⟩) | ((with_reducible refine gate_callee (f := 23) rfl ?_); refine goesL_ (some 18) rfl rfl Try.func23 (by kernel_rfl) rfl #[.string (⟨#[10]⟩ : ByteArray)] rfl (by (try simp only [List.map_toArray, List.map_cons, List.map_nil]); first | done | rfl | (simp only [List.length_drop, List.length_take]; rfl)) ?_; (with_reducible refine (text_Quote.calls (⟨#[10]⟩ : ByteArray) t108 t109 _ A3.out).mono ?_); rintro e w13 ⟨rfl, hb⟩; refine ⟨_, rfl, ?_⟩; have n0_ := Aside0.mk (below_step (by repeat (first | (with_reducible first | exact HB.out | apply below_alloc | apply pw_below_drewN | apply below_drew1) | exact HB.out)) hb); clear HB; have HB := n0_; clear n0_; (try clear hb); (try clear hb2); (try clear hk); (try clear hi)))
       go_ret
       exact ⟨by first | rfl | (simp [errW_none, errW_some] <;> rfl) | (simp [*, errW_none, errW_some] <;> rfl), by repeat (first | (with_reducible first | exact HB.out | apply below_alloc | apply pw_below_drewN | apply below_drew1) | exact HB.out)⟩
     ·rw [if_neg c8] at H
      have c8b0 : (t107 == 0) = false := beq_eq_false_iff_ne.mpr c8
      have c8b1 : (t107 != 0) = true := bne_iff_ne.mpr c8
      obtain rfl := Option.some.inj H
      go_enter Try.func13, Try.ntmps13
      go_wp2_with (first | ((with_reducible refine gate_callee (f := 12) rfl ?_); refine goesL_ (some 9) rfl rfl Try.func12 (by kernel_rfl) rfl #[.string (⟨#[97, 195, 169]⟩ : ByteArray), .int .i64 1] rfl (by (try simp only [List.map_toArray, List.map_cons, List.map_nil]); first | done | rfl | (simp only [List.length_drop, List.length_take]; rfl)) ?_; (with_reducible refine (text_Next.calls (⟨#[97, 195, 169]⟩ : ByteArray) 1 t103 t104 true _ A1.out).mono ?_); rintro e w14 ⟨rfl, hb⟩; refine ⟨_, rfl, ?_⟩; have n0_ := Aside0.mk (below_step (by repeat (first | (with_reducible first | exact HB.out | apply below_alloc | apply pw_below_drewN | apply below_drew1) | exact HB.out)) hb); clear HB; have HB := n0_; clear n0_; (try clear hb); (try clear hb2); (try clear hk); (try clear hi)) | ((with_reducible refine gate_callee (f := 14) rfl ?_); refine goesL_ (some 14) rfl rfl Try.func14 (by kernel_rfl) rfl #[.int .i32 233] rfl (by (try simp only [List.map_toArray, List.map_cons, List.map_nil]); first | done | rfl | (simp only [List.length_drop, List.length_take]; rfl)) ?_; (with_reducible refine (text_Encode.calls 233 t106 t107 _ A2.out).mono ?_); rintro e w' ⟨rfl, ⟨nd, rfl⟩⟩; refine ⟨_, rfl, ?_⟩) | ((with_reducible refine gate_callee (f := 23) rfl ?_); refine goesL_ (some 18) rfl rfl Try.func23 (by kernel_rfl) rfl #[.string (⟨#[10]⟩ : ByteArray)] rfl (by (try simp only [List.map_toArray, List.map_cons, List.map_nil]); first | done | rfl | (simp only [List.length_drop, List.length_take]; rfl)) ?_; (with_reducible refine (text_Quote.calls (⟨#[10]⟩ : ByteArray) t108 t109 _ A3.out).mono ?_); rintro e w15 ⟨rfl, hb⟩; refine ⟨_, rfl, ?_⟩; have n0_ := Aside0.mk (below_step (by repeat (first | (with_reducible first | exact HB.out | apply below_alloc | apply pw_below_drewN | apply below_drew1) | exact HB.out)) hb); clear HB; have HB := n0_; clear n0_; (try clear hb); (try clear hb2); (try clear hk); (try clear hi)))
      go_ret
      exact ⟨by first | rfl | (simp [errW_none, errW_some] <;> rfl) | (simp [*, errW_none, errW_some] <;> rfl), by repeat (first | (with_reducible first | exact HB.out | apply below_alloc | apply pw_below_drewN | apply below_drew1) | exact HB.out)⟩
    ·rw [if_neg c7] at H
     have c7b0 : (t106.toList == ([195, 169] : List UInt8)) = false := beq_eq_false_iff_ne.mpr c7
     have c7b1 : (t106.toList != ([195, 169] : List UInt8)) = true := bne_iff_ne.mpr c7
     obtain rfl := Option.some.inj H
     go_enter Try.func13, Try.ntmps13
     go_wp2_with (first | ((with_reducible refine gate_callee (f := 12) rfl ?_); refine goesL_ (some 9) rfl rfl Try.func12 (by kernel_rfl) rfl #[.string (⟨#[97, 195, 169]⟩ : ByteArray), .int .i64 1] rfl (by (try simp only [List.map_toArray, List.map_cons, List.map_nil]); first | done | rfl | (simp only [List.length_drop, List.length_take]; rfl)) ?_; (with_reducible refine (text_Next.calls (⟨#[97, 195, 169]⟩ : ByteArray) 1 t103 t104 true _ A1.out).mono ?_); rintro e w16 ⟨rfl, hb⟩; refine ⟨_, rfl, ?_⟩; have n0_ := Aside0.mk (below_step (by repeat (first | (with_reducible first | exact HB.out | apply below_alloc | apply pw_below_drewN | apply below_drew1) | exact HB.out)) hb); clear HB; have HB := n0_; clear n0_; (try clear hb); (try clear hb2); (try clear hk); (try clear hi)) | ((with_reducible refine gate_callee (f := 14) rfl ?_); refine goesL_ (some 14) rfl rfl Try.func14 (by kernel_rfl) rfl #[.int .i32 233] rfl (by (try simp only [List.map_toArray, List.map_cons, List.map_nil]); first | done | rfl | (simp only [List.length_drop, List.length_take]; rfl)) ?_; (with_reducible refine (text_Encode.calls 233 t106 t107 _ A2.out).mono ?_); rintro e w' ⟨rfl, ⟨nd, rfl⟩⟩; refine ⟨_, rfl, ?_⟩) | ((with_reducible refine gate_callee (f := 23) rfl ?_); refine goesL_ (some 18) rfl rfl Try.func23 (by kernel_rfl) rfl #[.string (⟨#[10]⟩ : ByteArray)] rfl (by (try simp only [List.map_toArray, List.map_cons, List.map_nil]); first | done | rfl | (simp only [List.length_drop, List.length_take]; rfl)) ?_; (with_reducible refine (text_Quote.calls (⟨#[10]⟩ : ByteArray) t108 t109 _ A3.out).mono ?_); rintro e w17 ⟨rfl, hb⟩; refine ⟨_, rfl, ?_⟩; have n0_ := Aside0.mk (below_step (by repeat (first | (with_reducible first | exact HB.out | apply below_alloc | apply pw_below_drewN | apply below_drew1) | exact HB.out)) hb); clear HB; have HB := n0_; clear n0_; (try clear hb); (try clear hb2); (try clear hk); (try clear hi)))
     go_ret
     exact ⟨by first | rfl | (simp [errW_none, errW_some] <;> rfl) | (simp [*, errW_none, errW_some] <;> rfl), by repeat (first | (with_reducible first | exact HB.out | apply below_alloc | apply pw_below_drewN | apply below_drew1) | exact HB.out)⟩
   ·replace c6 := Bool.eq_false_iff.mpr c6
    subst c6
    have H1 : (some false) = some r := by rw [if_neg (show ¬ (false = true) by decide)] at H; exact H
    clear H
    have H := H1
    clear H1
    obtain rfl := Option.some.inj H
    go_enter Try.func13, Try.ntmps13
    go_wp2_with (first | ((with_reducible refine gate_callee (f := 12) rfl ?_); refine goesL_ (some 9) rfl rfl Try.func12 (by kernel_rfl) rfl #[.string (⟨#[97, 195, 169]⟩ : ByteArray), .int .i64 1] rfl (by (try simp only [List.map_toArray, List.map_cons, List.map_nil]); first | done | rfl | (simp only [List.length_drop, List.length_take]; rfl)) ?_; (with_reducible refine (text_Next.calls (⟨#[97, 195, 169]⟩ : ByteArray) 1 t103 t104 false _ A1.out).mono ?_); rintro e w18 ⟨rfl, hb⟩; refine ⟨_, rfl, ?_⟩; have n0_ := Aside0.mk (below_step (by repeat (first | (with_reducible first | exact HB.out | apply below_alloc | apply pw_below_drewN | apply below_drew1) | exact HB.out)) hb); clear HB; have HB := n0_; clear n0_; (try clear hb); (try clear hb2); (try clear hk); (try clear hi)) | ((with_reducible refine gate_callee (f := 14) rfl ?_); refine goesL_ (some 14) rfl rfl Try.func14 (by kernel_rfl) rfl #[.int .i32 233] rfl (by (try simp only [List.map_toArray, List.map_cons, List.map_nil]); first | done | rfl | (simp only [List.length_drop, List.length_take]; rfl)) ?_; (with_reducible refine (text_Encode.calls 233 t106 t107 _ A2.out).mono ?_); rintro e w' ⟨rfl, ⟨nd, rfl⟩⟩; refine ⟨_, rfl, ?_⟩) | ((with_reducible refine gate_callee (f := 23) rfl ?_); refine goesL_ (some 18) rfl rfl Try.func23 (by kernel_rfl) rfl #[.string (⟨#[10]⟩ : ByteArray)] rfl (by (try simp only [List.map_toArray, List.map_cons, List.map_nil]); first | done | rfl | (simp only [List.length_drop, List.length_take]; rfl)) ?_; (with_reducible refine (text_Quote.calls (⟨#[10]⟩ : ByteArray) t108 t109 _ A3.out).mono ?_); rintro e w19 ⟨rfl, hb⟩; refine ⟨_, rfl, ?_⟩; have n0_ := Aside0.mk (below_step (by repeat (first | (with_reducible first | exact HB.out | apply below_alloc | apply pw_below_drewN | apply below_drew1) | exact HB.out)) hb); clear HB; have HB := n0_; clear n0_; (try clear hb); (try clear hb2); (try clear hk); (try clear hi)))
    go_ret
    exact ⟨by first | rfl | (simp [errW_none, errW_some] <;> rfl) | (simp [*, errW_none, errW_some] <;> rfl), by repeat (first | (with_reducible first | exact HB.out | apply below_alloc | apply pw_below_drewN | apply below_drew1) | exact HB.out)⟩
  ·rw [if_neg c5] at H
   have c5b0 : (t104 == 2) = false := beq_eq_false_iff_ne.mpr c5
   have c5b1 : (t104 != 2) = true := bne_iff_ne.mpr c5
   obtain rfl := Option.some.inj H
   go_enter Try.func13, Try.ntmps13
   go_wp2_with (first | ((with_reducible refine gate_callee (f := 12) rfl ?_); refine goesL_ (some 9) rfl rfl Try.func12 (by kernel_rfl) rfl #[.string (⟨#[97, 195, 169]⟩ : ByteArray), .int .i64 1] rfl (by (try simp only [List.map_toArray, List.map_cons, List.map_nil]); first | done | rfl | (simp only [List.length_drop, List.length_take]; rfl)) ?_; (with_reducible refine (text_Next.calls (⟨#[97, 195, 169]⟩ : ByteArray) 1 t103 t104 t105 _ A1.out).mono ?_); rintro e w20 ⟨rfl, hb⟩; refine ⟨_, rfl, ?_⟩; have n0_ := Aside0.mk (below_step (by repeat (first | (with_reducible first | exact HB.out | apply below_alloc | apply pw_below_drewN | apply below_drew1) | exact HB.out)) hb); clear HB; have HB := n0_; clear n0_; (try clear hb); (try clear hb2); (try clear hk); (try clear hi)) | ((with_reducible refine gate_callee (f := 14) rfl ?_); refine goesL_ (some 14) rfl rfl Try.func14 (by kernel_rfl) rfl #[.int .i32 233] rfl (by (try simp only [List.map_toArray, List.map_cons, List.map_nil]); first | done | rfl | (simp only [List.length_drop, List.length_take]; rfl)) ?_; (with_reducible refine (text_Encode.calls 233 t106 t107 _ A2.out).mono ?_); rintro e w' ⟨rfl, ⟨nd, rfl⟩⟩; refine ⟨_, rfl, ?_⟩) | ((with_reducible refine gate_callee (f := 23) rfl ?_); refine goesL_ (some 18) rfl rfl Try.func23 (by kernel_rfl) rfl #[.string (⟨#[10]⟩ : ByteArray)] rfl (by (try simp only [List.map_toArray, List.map_cons, List.map_nil]); first | done | rfl | (simp only [List.length_drop, List.length_take]; rfl)) ?_; (with_reducible refine (text_Quote.calls (⟨#[10]⟩ : ByteArray) t108 t109 _ A3.out).mono ?_); rintro e w21 ⟨rfl, hb⟩; refine ⟨_, rfl, ?_⟩; have n0_ := Aside0.mk (below_step (by repeat (first | (with_reducible first | exact HB.out | apply below_alloc | apply pw_below_drewN | apply below_drew1) | exact HB.out)) hb); clear HB; have HB := n0_; clear n0_; (try clear hb); (try clear hb2); (try clear hk); (try clear hi)))
   go_ret
   exact ⟨by first | rfl | (simp [errW_none, errW_some] <;> rfl) | (simp [*, errW_none, errW_some] <;> rfl), by repeat (first | (with_reducible first | exact HB.out | apply below_alloc | apply pw_below_drewN | apply below_drew1) | exact HB.out)⟩
 ·rw [if_neg c4] at H
  have c4b0 : (t103 == 233) = false := beq_eq_false_iff_ne.mpr c4
  have c4b1 : (t103 != 233) = true := bne_iff_ne.mpr c4
  obtain rfl := Option.some.inj H
  go_enter Try.func13, Try.ntmps13
  go_wp2_with (first | ((with_reducible refine gate_callee (f := 12) rfl ?_); refine goesL_ (some 9) rfl rfl Try.func12 (by kernel_rfl) rfl #[.string (⟨#[97, 195, 169]⟩ : ByteArray), .int .i64 1] rfl (by (try simp only [List.map_toArray, List.map_cons, List.map_nil]); first | done | rfl | (simp only [List.length_drop, List.length_take]; rfl)) ?_; (with_reducible refine (text_Next.calls (⟨#[97, 195, 169]⟩ : ByteArray) 1 t103 t104 t105 _ A1.out).mono ?_); rintro e w22 ⟨rfl, hb⟩; refine ⟨_, rfl, ?_⟩; have n0_ := Aside0.mk (below_step (by repeat (first | (with_reducible first | exact HB.out | apply below_alloc | apply pw_below_drewN | apply below_drew1) | exact HB.out)) hb); clear HB; have HB := n0_; clear n0_; (try clear hb); (try clear hb2); (try clear hk); (try clear hi)) | ((with_reducible refine gate_callee (f := 14) rfl ?_); refine goesL_ (some 14) rfl rfl Try.func14 (by kernel_rfl) rfl #[.int .i32 233] rfl (by (try simp only [List.map_toArray, List.map_cons, List.map_nil]); first | done | rfl | (simp only [List.length_drop, List.length_take]; rfl)) ?_; (with_reducible refine (text_Encode.calls 233 t106 t107 _ A2.out).mono ?_); rintro e w' ⟨rfl, ⟨nd, rfl⟩⟩; refine ⟨_, rfl, ?_⟩) | ((with_reducible refine gate_callee (f := 23) rfl ?_); refine goesL_ (some 18) rfl rfl Try.func23 (by kernel_rfl) rfl #[.string (⟨#[10]⟩ : ByteArray)] rfl (by (try simp only [List.map_toArray, List.map_cons, List.map_nil]); first | done | rfl | (simp only [List.length_drop, List.length_take]; rfl)) ?_; (with_reducible refine (text_Quote.calls (⟨#[10]⟩ : ByteArray) t108 t109 _ A3.out).mono ?_); rintro e w23 ⟨rfl, hb⟩; refine ⟨_, rfl, ?_⟩; have n0_ := Aside0.mk (below_step (by repeat (first | (with_reducible first | exact HB.out | apply below_alloc | apply pw_below_drewN | apply below_drew1) | exact HB.out)) hb); clear HB; have HB := n0_; clear n0_; (try clear hb); (try clear hb2); (try clear hk); (try clear hi)))
  go_ret
  exact ⟨by first | rfl | (simp [errW_none, errW_some] <;> rfl) | (simp [*, errW_none, errW_some] <;> rfl), by repeat (first | (with_reducible first | exact HB.out | apply below_alloc | apply pw_below_drewN | apply below_drew1) | exact HB.out)⟩

end Go.Proofs.Ythiiigbifimckaa.Pt
