/- Functions of the program as plain Lean functions, each with the proof that its call comes to the same answer, and the row of the statement: written by a program of this session out of the translation. No condition beyond those in the texts. -/
import Derived.Test.YthiiigbifimckaaPtx0
import Derived.Test.YthiiigbifimckaaPtx4
import Derived.Test.YthiiigbifimckaaPtx10
namespace Go.Proofs.Ythiiigbifimckaa.Pt
open Go.RowKit Go.Proofs.YthiiigbifimckaaW.PrintWords Go.Proofs.YthiiigbifimckaaW.PrintLast Go.Proofs.YthiiigbifimckaaW.PrintMore
attribute [local go_sem] max2_int min2_int max_two min_two max_three min_three max_four min_four   -- for this text's walks alone
set_option linter.unusedVariables false
set_option linter.unusedSimpArgs false

/-! ### quoinref01_number: function 50 -/
mutual
def quoinref01_number.j1 : Nat → ByteArray → Int → Int → Int → Option (ByteArray × Int)
 | 0, _, _, _, _ => none
 | k + 1, x0, x1, x6, x7 => if (wrap64 (x1 + 2)) ≥ (x0.size : Int) then (some ((⟨#[]⟩ : ByteArray), 0)) else (if 0 ≤ (wrap64 (x1 + 2)) then (if (wrap64 (x1 + 2)) < (x0.size : Int) then (if (bt x0 (wrap64 (x1 + 2))) = 123 then (if (wrap64 ((wrap64 (x6 - x1)) - 3)) < 1 then (some ((⟨#[]⟩ : ByteArray), 0)) else (if (wrap64 ((wrap64 (x6 - x1)) - 3)) > 1 then (if 0 ≤ (wrap64 (x1 + 3)) then (if (wrap64 (x1 + 3)) < (x0.size : Int) then (if (bt x0 (wrap64 (x1 + 3))) = 48 then (some ((⟨#[]⟩ : ByteArray), 0)) else (if x6 ≥ (x0.size : Int) then (some ((⟨#[]⟩ : ByteArray), 0)) else (if 0 ≤ x6 then (if x6 < (x0.size : Int) then (if (bt x0 x6) = 125 then (if x7 > 1114111 then (some ((⟨#[]⟩ : ByteArray), 0)) else ((quoinref01_Rune.f (wrap32 (x7))).bind fun t290 => (if t290 = true then ((quoinref01_bytes.f (wrap32 (x7))).bind fun t291 => (some (strOfNums t291, wrap64 ((wrap64 (x6 + 1)) - x1)))) else (some ((⟨#[]⟩ : ByteArray), 0))))) else (some ((⟨#[]⟩ : ByteArray), 0))) else (none)) else (none)))) else (none)) else (none)) else (if x6 ≥ (x0.size : Int) then (some ((⟨#[]⟩ : ByteArray), 0)) else (if 0 ≤ x6 then (if x6 < (x0.size : Int) then (if (bt x0 x6) = 125 then (if x7 > 1114111 then (some ((⟨#[]⟩ : ByteArray), 0)) else ((quoinref01_Rune.f (wrap32 (x7))).bind fun t294 => (if t294 = true then ((quoinref01_bytes.f (wrap32 (x7))).bind fun t295 => (some (strOfNums t295, wrap64 ((wrap64 (x6 + 1)) - x1)))) else (some ((⟨#[]⟩ : ByteArray), 0))))) else (some ((⟨#[]⟩ : ByteArray), 0))) else (none)) else (none))))) else (some ((⟨#[]⟩ : ByteArray), 0))) else (none)) else (none))
def quoinref01_number.l0 : Nat → ByteArray → Int → Int → Int → Option (ByteArray × Int)
 | 0, _, _, _, _ => none
 | k + 1, x0, x1, x6, x7 => if x6 < (x0.size : Int) then (if x6 < (wrap64 (x1 + 9)) then (if 0 ≤ x6 then ((quoinref01_digit.f k (bt x0 x6)).bind fun t288 => (if t288 ≥ 0 then ((quoinref01_digit.f k (bt x0 x6)).bind fun t289 => (quoinref01_number.l0 k x0 x1 (wrap64 (x6 + 1)) (wrap64 ((wrap64 (16 * x7)) + t289)))) else (quoinref01_number.j1 k x0 x1 x6 x7))) else (none)) else (quoinref01_number.j1 k x0 x1 x6 x7)) else (quoinref01_number.j1 k x0 x1 x6 x7)
end
def quoinref01_number.f (k : Nat) (a0 : ByteArray) (a1 : Int) : Option (ByteArray × Int) := quoinref01_number.l0 k a0 a1 (wrap64 (a1 + 3)) 0
theorem quoinref01_number.mono_l : ∀ k, (∀ y0 y1 y2 y3, LeO (quoinref01_number.j1 k y0 y1 y2 y3) (quoinref01_number.j1 (k + 1) y0 y1 y2 y3)) ∧ (∀ y0 y1 y2 y3, LeO (quoinref01_number.l0 k y0 y1 y2 y3) (quoinref01_number.l0 (k + 1) y0 y1 y2 y3))
 | 0 => ⟨fun _ _ _ _ r h => by simp [quoinref01_number.j1] at h, fun _ _ _ _ r h => by simp [quoinref01_number.l0] at h⟩
 | k + 1 => by
  obtain ⟨ih0, ih1⟩ := quoinref01_number.mono_l k
  refine ⟨?_, ?_⟩
  ·intro y0 y1 y2 y3
   unfold quoinref01_number.j1
   repeat' first
   | (with_reducible exact ih0 _ _ _ _)
   | (with_reducible exact ih1 _ _ _ _)
   | (with_reducible exact quoinref01_digit.mono _ _)
   | (with_reducible exact LeO.refl _)
   | (with_reducible exact LeO.none _)
   | (with_reducible refine LeO.ite ?_ ?_)
   | (with_reducible refine LeO.bind ?_ (fun _ => ?_))
   | exact ih0 _ _ _ _
   | exact ih1 _ _ _ _
   | exact quoinref01_digit.mono _ _
   | exact LeO.none _
   | refine LeO.ite ?_ ?_
   | refine LeO.bind ?_ (fun _ => ?_)
  ·intro y0 y1 y2 y3
   unfold quoinref01_number.l0
   repeat' first
   | (with_reducible exact ih0 _ _ _ _)
   | (with_reducible exact ih1 _ _ _ _)
   | (with_reducible exact quoinref01_digit.mono _ _)
   | (with_reducible exact LeO.refl _)
   | (with_reducible exact LeO.none _)
   | (with_reducible refine LeO.ite ?_ ?_)
   | (with_reducible refine LeO.bind ?_ (fun _ => ?_))
   | exact ih0 _ _ _ _
   | exact ih1 _ _ _ _
   | exact quoinref01_digit.mono _ _
   | exact LeO.none _
   | refine LeO.ite ?_ ?_
   | refine LeO.bind ?_ (fun _ => ?_)
theorem quoinref01_number.mono : ∀ a0 a1 k, LeO (quoinref01_number.f k a0 a1) (quoinref01_number.f (k + 1) a0 a1) := by
 intro a0 a1 k
 obtain ⟨ih0, ih1⟩ := quoinref01_number.mono_l k
 unfold quoinref01_number.f
 repeat' first
   | (with_reducible exact ih0 _ _ _ _)
   | (with_reducible exact ih1 _ _ _ _)
   | (with_reducible exact quoinref01_digit.mono _ _)
   | (with_reducible exact LeO.refl _)
   | (with_reducible exact LeO.none _)
   | (with_reducible refine LeO.ite ?_ ?_)
   | (with_reducible refine LeO.bind ?_ (fun _ => ?_))
   | exact ih0 _ _ _ _
   | exact ih1 _ _ _ _
   | exact quoinref01_digit.mono _ _
   | exact LeO.none _
   | refine LeO.ite ?_ ?_
   | refine LeO.bind ?_ (fun _ => ?_)
set_option maxHeartbeats 8000000 in
set_option maxRecDepth 100000 in
theorem quoinref01_number.calls (k : Nat) (a0 : ByteArray) (a1 : Int) (r1 : ByteArray) (r2 : Int) (w : World) (h : quoinref01_number.f k a0 a1 = some (r1, r2)) :
  Calls Try.prog 50 #[.string a0, .int .i64 a1] w fun e w' => e = .returned (.tuple #[.string r1, .int .i64 r2]) ∧ Below w.heap.size w w' := by
 have HB := Aside0.mk (Below.refl w.heap.size w)
 have H : (quoinref01_number.l0 k a0 a1 (wrap64 (a1 + 3)) 0) = some (r1, r2) := h
 clear h
 have HC3 := Aside0.mk H
 clear H
 go_enter Try.func50, Try.ntmps50
 go_upto_block 0 with (fail)
 go_cut [6, 7] (fun v6 v7 wc => ∃ (kq : Nat) (x6_2 : Int) (x7_2 : Int), v6 = .int .i64 x6_2 ∧ v7 = .int .i64 x7_2 ∧ Aside0 (quoinref01_number.j1 kq a0 a1 x6_2 x7_2 = some (r1, r2)) ∧ Aside0 (kq ≤ k) ∧ Aside0 (Below w.heap.size w wc))
 case first =>
  have H := HC3.out
  clear HC3
  have H' := Aside0.mk H
  clear H
  go_wp2
  go_loopg [6, 7] k (fun kq v6 v7 w' => ∃ (x6_1 : Int) (x7_1 : Int), v6 = .int .i64 x6_1 ∧ v7 = .int .i64 x7_1 ∧ Aside0 (quoinref01_number.l0 kq a0 a1 x6_1 x7_1 = some (r1, r2)) ∧ Aside0 (kq ≤ k) ∧ Aside0 (Below w.heap.size w w'))
  case atStart => exact ⟨(wrap64 (a1 + 3)), (0), (by first | rfl | (simp; done) | (simp [*]; done)), (by first | rfl | (simp; done) | (simp [*]; done)), H', ⟨Nat.le_refl _⟩, ⟨by repeat (first | (with_reducible first | exact HB.out | apply below_alloc | apply pw_below_drewN | apply below_drew1) | exact HB.out)⟩⟩
  case round =>
   clear H'
   try clear p2
   obtain ⟨x6_1, x7_1, rfl, rfl, HA, HK1, HB⟩ := hrel
   cases gk with
   | zero => exact absurd HA.out (by simp [quoinref01_number.l0])
   | succ k1 =>
    have H := HA.out
    clear HA
    simp only [quoinref01_number.l0] at H
    by_cases c4 : x6_1 < (a0.size : Int)
    ·rw [if_pos c4] at H
     have c4b0 : decide (x6_1 < (a0.size : Int)) = true := decide_eq_true c4
     clear c4
     (first | rw [c4b0] | (simp only [i64_w, i32_w]; rw [c4b0]) | skip)
     by_cases c5 : x6_1 < (wrap64 (a1 + 9))
     ·rw [if_pos c5] at H
      have c5b0 : decide (x6_1 < (wrap64 (a1 + 9))) = true := decide_eq_true c5
      clear c5
      by_cases c6 : 0 ≤ x6_1
      ·rw [if_pos c6] at H
       have c6b0 : decide (0 ≤ x6_1) = true := decide_eq_true c6
       clear c6
       replace H := Option.bind_eq_some_iff.mp H
       obtain ⟨t288, A80, H⟩ := H
       replace H : (if t288 ≥ 0 then ((quoinref01_digit.f k1 (bt a0 x6_1)).bind fun t289 => (quoinref01_number.l0 k1 a0 a1 (wrap64 (x6_1 + 1)) (wrap64 ((wrap64 (16 * x7_1)) + t289)))) else (quoinref01_number.j1 k1 a0 a1 x6_1 x7_1)) = some (r1, r2) := H
       have A8 := Aside0.mk A80
       clear A80
       by_cases c9 : t288 ≥ 0
       ·rw [if_pos c9] at H
        have c9b0 : decide (0 ≤ t288) = true := decide_eq_true c9
        clear c9
        replace H := Option.bind_eq_some_iff.mp H
        obtain ⟨t289, A110, H⟩ := H
        replace H : (quoinref01_number.l0 k1 a0 a1 (wrap64 (x6_1 + 1)) (wrap64 ((wrap64 (16 * x7_1)) + t289))) = some (r1, r2) := H
        have A11 := Aside0.mk A110
        clear A110
        have H' := Aside0.mk H
        clear H
        have p7 : 0 ≤ (x6_1 : Int) := of_decide_eq_true (by first | (with_reducible assumption) | assumption)
        have q7 : x6_1 < (a0.size : Int) := of_decide_eq_true (by first | (with_reducible assumption) | assumption)
        have hx7 := bt_at a0 x6_1
        replace p7 := eq_true p7
        replace q7 := eq_true q7
        go_wp2_with (first | (go_at_call 49; (with_reducible refine (quoinref01_digit.calls k1 (bt a0 x6_1) t288 _ A8.out).mono ?_); rintro e w' ⟨rfl, ⟨nd, rfl⟩⟩; have p10 : 0 ≤ (x6_1 : Int) := of_decide_eq_true (by first | (with_reducible assumption) | assumption); have q10 : x6_1 < (a0.size : Int) := of_decide_eq_true (by first | (with_reducible assumption) | assumption); have hx10 := bt_at a0 x6_1; replace p10 := eq_true p10; replace q10 := eq_true q10) | ((with_reducible refine gate_callee (f := 49) rfl ?_); refine goesL_ (some 33) rfl rfl Try.func49 (by kernel_rfl) rfl #[.int .u8 (bt a0 x6_1)] rfl (by (try simp only [List.map_toArray, List.map_cons, List.map_nil]); first | done | rfl | (simp only [List.length_drop, List.length_take]; rfl)) ?_; (with_reducible refine (quoinref01_digit.calls k1 (bt a0 x6_1) t289 _ A11.out).mono ?_); rintro e w' ⟨rfl, ⟨nd, rfl⟩⟩; refine ⟨_, rfl, ?_⟩))
        go_roundg k1
        case measure => have := HK1.out; omega
        case rel => exact ⟨(wrap64 (x6_1 + 1)), (wrap64 ((wrap64 (16 * x7_1)) + t289)), (by first | rfl | (simp; done) | (simp [*]; done)), (by first | rfl | (simp; done) | (simp [*]; done)), H', ⟨by have := HK1.out; omega⟩, ⟨by repeat (first | (with_reducible first | exact HB.out | apply below_alloc | apply pw_below_drewN | apply below_drew1) | exact HB.out)⟩⟩
       ·rw [if_neg c9] at H
        have c9b0 : decide (0 ≤ t288) = false := decide_eq_false c9
        clear c9
        have H' := Aside0.mk H
        clear H
        have p7 : 0 ≤ (x6_1 : Int) := of_decide_eq_true (by first | (with_reducible assumption) | assumption)
        have q7 : x6_1 < (a0.size : Int) := of_decide_eq_true (by first | (with_reducible assumption) | assumption)
        have hx7 := bt_at a0 x6_1
        replace p7 := eq_true p7
        replace q7 := eq_true q7
        go_wp2_with (first | (go_at_call 49; (with_reducible refine (quoinref01_digit.calls k1 (bt a0 x6_1) t288 _ A8.out).mono ?_); rintro e w' ⟨rfl, ⟨nd, rfl⟩⟩))
        go_meet
        case rel => exact ⟨_, (x6_1), (x7_1), (by first | rfl | (simp; done) | (simp [*]; done)), (by first | rfl | (simp; done) | (simp [*]; done)), H', ⟨by have := HK1.out; first | omega | exact Nat.le_refl _⟩, ⟨by repeat (first | (with_reducible first | exact HB.out | apply below_alloc | apply pw_below_drewN | apply below_drew1) | exact HB.out)⟩⟩
      ·rw [if_neg c6] at H
       exact absurd H (by simp)
     ·rw [if_neg c5] at H
      have c5b0 : decide (x6_1 < (wrap64 (a1 + 9))) = false := decide_eq_false c5
      clear c5
      have H' := Aside0.mk H
      clear H
      go_wp2
      go_meet
      case rel => exact ⟨_, (x6_1), (x7_1), (by first | rfl | (simp; done) | (simp [*]; done)), (by first | rfl | (simp; done) | (simp [*]; done)), H', ⟨by have := HK1.out; first | omega | exact Nat.le_refl _⟩, ⟨by repeat (first | (with_reducible first | exact HB.out | apply below_alloc | apply pw_below_drewN | apply below_drew1) | exact HB.out)⟩⟩
    ·rw [if_neg c4] at H
     have c4b0 : decide (x6_1 < (a0.size : Int)) = false := decide_eq_false c4
     clear c4
     (first | rw [c4b0] | (simp only [i64_w, i32_w]; rw [c4b0]) | skip)
     have H' := Aside0.mk H
     clear H
     go_wp2
     go_meet
     case rel => exact ⟨_, (x6_1), (x7_1), (by first | rfl | (simp; done) | (simp [*]; done)), (by first | rfl | (simp; done) | (simp [*]; done)), H', ⟨by have := HK1.out; first | omega | exact Nat.le_refl _⟩, ⟨by repeat (first | (with_reducible first | exact HB.out | apply below_alloc | apply pw_below_drewN | apply below_drew1) | exact HB.out)⟩⟩
 case rest =>
  clear HC3
  try clear p1
  try clear q1
  try clear hx1
  try clear p2
  try clear c4
  try clear c4b0
  try clear c5
  try clear c5b0
  try clear c6
  try clear c6b0
  try clear p6
  try clear p7
  try clear q7
  try clear hx7
  try clear c9
  try clear c9b0
  try clear p10
  try clear q10
  try clear hx10
  try clear p10
  try clear p2
  try clear p7
  try clear q10
  try clear q7
  obtain ⟨kq, x6_2, x7_2, rfl, rfl, HA, HJ2, HB⟩ := hcut
  cases kq with
  | zero => exact absurd HA.out (by simp [quoinref01_number.j1])
  | succ kj2 =>
   have H := HA.out
   clear HA
   simp only [quoinref01_number.j1] at H
   by_cases c12 : (wrap64 (a1 + 2)) ≥ (a0.size : Int)
   ·rw [if_pos c12] at H
    have c12b0 : decide ((a0.size : Int) ≤ (wrap64 (a1 + 2))) = true := decide_eq_true c12
    clear c12
    simp only [Option.some.injEq, Prod.mk.injEq] at H
    obtain ⟨rfl, rfl⟩ := H
    go_wp2
    go_ret2
    exact ⟨by first | rfl | (simp [errW_none, errW_some] <;> rfl) | (simp [*, errW_none, errW_some] <;> rfl), by repeat (first | (with_reducible first | exact HB.out | apply below_alloc | apply pw_below_drewN | apply below_drew1) | exact HB.out)⟩
   ·rw [if_neg c12] at H
    have c12b0 : decide ((a0.size : Int) ≤ (wrap64 (a1 + 2))) = false := decide_eq_false c12
    clear c12
    obtain ⟨ji13, hji13⟩ : ∃ j_ : Int, (wrap64 (a1 + 2)) = j_ := ⟨_, rfl⟩
    replace H : (if 0 ≤ (ji13) then (if (ji13) < (a0.size : Int) then (if (bt a0 (ji13)) = 123 then (if (wrap64 ((wrap64 (x6_2 - a1)) - 3)) < 1 then (some ((⟨#[]⟩ : ByteArray), 0)) else (if (wrap64 ((wrap64 (x6_2 - a1)) - 3)) > 1 then (if 0 ≤ (wrap64 (a1 + 3)) then (if (wrap64 (a1 + 3)) < (a0.size : Int) then (if (bt a0 (wrap64 (a1 + 3))) = 48 then (some ((⟨#[]⟩ : ByteArray), 0)) else (if x6_2 ≥ (a0.size : Int) then (some ((⟨#[]⟩ : ByteArray), 0)) else (if 0 ≤ x6_2 then (if x6_2 < (a0.size : Int) then (if (bt a0 x6_2) = 125 then (if x7_2 > 1114111 then (some ((⟨#[]⟩ : ByteArray), 0)) else ((quoinref01_Rune.f (wrap32 (x7_2))).bind fun t290 => (if t290 = true then ((quoinref01_bytes.f (wrap32 (x7_2))).bind fun t291 => (some (strOfNums t291, wrap64 ((wrap64 (x6_2 + 1)) - a1)))) else (some ((⟨#[]⟩ : ByteArray), 0))))) else (some ((⟨#[]⟩ : ByteArray), 0))) else (none)) else (none)))) else (none)) else (none)) else (if x6_2 ≥ (a0.size : Int) then (some ((⟨#[]⟩ : ByteArray), 0)) else (if 0 ≤ x6_2 then (if x6_2 < (a0.size : Int) then (if (bt a0 x6_2) = 125 then (if x7_2 > 1114111 then (some ((⟨#[]⟩ : ByteArray), 0)) else ((quoinref01_Rune.f (wrap32 (x7_2))).bind fun t294 => (if t294 = true then ((quoinref01_bytes.f (wrap32 (x7_2))).bind fun t295 => (some (strOfNums t295, wrap64 ((wrap64 (x6_2 + 1)) - a1)))) else (some ((⟨#[]⟩ : ByteArray), 0))))) else (some ((⟨#[]⟩ : ByteArray), 0))) else (none)) else (none))))) else (some ((⟨#[]⟩ : ByteArray), 0))) else (none)) else (none)) = some (r1, r2) := by first | (rw [hji13] at H; exact H) | (simp only [hji13] at H ⊢; exact H)
    (try rw [hji13] at c12b0)
    have hji13w : (IntKind.i64.wrap (a1 + 2)) = ji13 := (i64_w _).trans hji13
    by_cases c14 : 0 ≤ (ji13)
    ·rw [if_pos c14] at H
     have c14b0 : decide (0 ≤ (ji13)) = true := decide_eq_true c14
     clear c14
     by_cases c15 : (ji13) < (a0.size : Int)
     ·rw [if_pos c15] at H
      have c15b0 : decide ((ji13) < (a0.size : Int)) = true := decide_eq_true c15
      clear c15
      by_cases c17 : (bt a0 (ji13)) = 123
      ·rw [if_pos c17] at H
       have c17b0 : ((bt a0 (ji13)) == 123) = true := beq_iff_eq.mpr c17
       have c17b1 : ((bt a0 (ji13)) != 123) = false := bne_eq_false_iff_eq.mpr c17
       clear c17
       by_cases c18 : (wrap64 ((wrap64 (x6_2 - a1)) - 3)) < 1
       ·rw [if_pos c18] at H
        have c18b0 : decide ((wrap64 ((wrap64 (x6_2 - a1)) - 3)) < 1) = true := decide_eq_true c18
        clear c18
        simp only [Option.some.injEq, Prod.mk.injEq] at H
        obtain ⟨rfl, rfl⟩ := H
        have p16 : 0 ≤ ((ji13) : Int) := of_decide_eq_true (by first | (with_reducible assumption) | assumption)
        have q16 : (ji13) < (a0.size : Int) := of_decide_eq_true (by first | (with_reducible assumption) | assumption)
        have hx16 := bt_at a0 (ji13)
        replace p16 := eq_true p16
        replace q16 := eq_true q16
        go_wp2
        go_ret2
        exact ⟨by first | rfl | (simp [errW_none, errW_some] <;> rfl) | (simp only [← hji13]; first | rfl | (simp [errW_none, errW_some] <;> rfl)) | (simp [*, errW_none, errW_some] <;> rfl), by repeat (first | (with_reducible first | exact HB.out | apply below_alloc | apply pw_below_drewN | apply below_drew1) | exact HB.out)⟩
       ·rw [if_neg c18] at H
        have c18b0 : decide ((wrap64 ((wrap64 (x6_2 - a1)) - 3)) < 1) = false := decide_eq_false c18
        clear c18
        by_cases c19 : (wrap64 ((wrap64 (x6_2 - a1)) - 3)) > 1
        ·rw [if_pos c19] at H
         have c19b0 : decide (1 < (wrap64 ((wrap64 (x6_2 - a1)) - 3))) = true := decide_eq_true c19
         clear c19
         obtain ⟨ji20, hji20⟩ : ∃ j_ : Int, (wrap64 (a1 + 3)) = j_ := ⟨_, rfl⟩
         replace H : (if 0 ≤ (ji20) then (if (ji20) < (a0.size : Int) then (if (bt a0 (ji20)) = 48 then (some ((⟨#[]⟩ : ByteArray), 0)) else (if x6_2 ≥ (a0.size : Int) then (some ((⟨#[]⟩ : ByteArray), 0)) else (if 0 ≤ x6_2 then (if x6_2 < (a0.size : Int) then (if (bt a0 x6_2) = 125 then (if x7_2 > 1114111 then (some ((⟨#[]⟩ : ByteArray), 0)) else ((quoinref01_Rune.f (wrap32 (x7_2))).bind fun t290 => (if t290 = true then ((quoinref01_bytes.f (wrap32 (x7_2))).bind fun t291 => (some (strOfNums t291, wrap64 ((wrap64 (x6_2 + 1)) - a1)))) else (some ((⟨#[]⟩ : ByteArray), 0))))) else (some ((⟨#[]⟩ : ByteArray), 0))) else (none)) else (none)))) else (none)) else (none)) = some (r1, r2) := by first | (rw [hji20] at H; exact H) | (simp only [hji20] at H ⊢; exact H)
         have hji20w : (IntKind.i64.wrap (a1 + 3)) = ji20 := (i64_w _).trans hji20
         by_cases c21 : 0 ≤ (ji20)
         ·rw [if_pos c21] at H
          have c21b0 : decide (0 ≤ (ji20)) = true := decide_eq_true c21
          clear c21
          by_cases c22 : (ji20) < (a0.size : Int)
          ·rw [if_pos c22] at H
           have c22b0 : decide ((ji20) < (a0.size : Int)) = true := decide_eq_true c22
           clear c22
           by_cases c24 : (bt a0 (ji20)) = 48
           ·rw [if_pos c24] at H
            have c24b0 : ((bt a0 (ji20)) == 48) = true := beq_iff_eq.mpr c24
            have c24b1 : ((bt a0 (ji20)) != 48) = false := bne_eq_false_iff_eq.mpr c24
            clear c24
            simp only [Option.some.injEq, Prod.mk.injEq] at H
            obtain ⟨rfl, rfl⟩ := H
            have p16 : 0 ≤ ((ji13) : Int) := of_decide_eq_true (by first | (with_reducible assumption) | assumption)
            have q16 : (ji13) < (a0.size : Int) := of_decide_eq_true (by first | (with_reducible assumption) | assumption)
            have hx16 := bt_at a0 (ji13)
            replace p16 := eq_true p16
            replace q16 := eq_true q16
            have p23 : 0 ≤ ((ji20) : Int) := of_decide_eq_true (by first | (with_reducible assumption) | assumption)
            have q23 : (ji20) < (a0.size : Int) := of_decide_eq_true (by first | (with_reducible assumption) | assumption)
            have hx23 := bt_at a0 (ji20)
            replace p23 := eq_true p23
            replace q23 := eq_true q23
            go_wp2
            go_ret2
            exact ⟨by first | rfl | (simp [errW_none, errW_some] <;> rfl) | (simp only [← hji13, ← hji20]; first | rfl | (simp [errW_none, errW_some] <;> rfl)) | (simp [*, errW_none, errW_some] <;> rfl), by repeat (first | (with_reducible first | exact HB.out | apply below_alloc | apply pw_below_drewN | apply below_drew1) | exact HB.out)⟩
           ·rw [if_neg c24] at H
            have c24b0 : ((bt a0 (ji20)) == 48) = false := beq_eq_false_iff_ne.mpr c24
            have c24b1 : ((bt a0 (ji20)) != 48) = true := bne_iff_ne.mpr c24
            by_cases c25 : x6_2 ≥ (a0.size : Int)
            ·rw [if_pos c25] at H
             have c25b0 : decide ((a0.size : Int) ≤ x6_2) = true := decide_eq_true c25
             clear c25
             simp only [Option.some.injEq, Prod.mk.injEq] at H
             obtain ⟨rfl, rfl⟩ := H
             have p16 : 0 ≤ ((ji13) : Int) := of_decide_eq_true (by first | (with_reducible assumption) | assumption)
             have q16 : (ji13) < (a0.size : Int) := of_decide_eq_true (by first | (with_reducible assumption) | assumption)
             have hx16 := bt_at a0 (ji13)
             replace p16 := eq_true p16
             replace q16 := eq_true q16
             have p23 : 0 ≤ ((ji20) : Int) := of_decide_eq_true (by first | (with_reducible assumption) | assumption)
             have q23 : (ji20) < (a0.size : Int) := of_decide_eq_true (by first | (with_reducible assumption) | assumption)
             have hx23 := bt_at a0 (ji20)
             replace p23 := eq_true p23
             replace q23 := eq_true q23
             go_wp2
             go_ret2
             exact ⟨by first | rfl | (simp [errW_none, errW_some] <;> rfl) | (simp only [← hji13, ← hji20]; first | rfl | (simp [errW_none, errW_some] <;> rfl)) | (simp [*, errW_none, errW_some] <;> rfl), by repeat (first | (with_reducible first | exact HB.out | apply below_alloc | apply pw_below_drewN | apply below_drew1) | exact HB.out)⟩
            ·rw [if_neg c25] at H
             have c25b0 : decide ((a0.size : Int) ≤ x6_2) = false := decide_eq_false c25
             clear c25
             by_cases c26 : 0 ≤ x6_2
             ·rw [if_pos c26] at H
              have c26b0 : decide (0 ≤ x6_2) = true := decide_eq_true c26
              clear c26
              by_cases c27 : x6_2 < (a0.size : Int)
              ·rw [if_pos c27] at H
               have c27b0 : decide (x6_2 < (a0.size : Int)) = true := decide_eq_true c27
               clear c27
               by_cases c29 : (bt a0 x6_2) = 125
               ·rw [if_pos c29] at H
                have c29b0 : ((bt a0 x6_2) == 125) = true := beq_iff_eq.mpr c29
                have c29b1 : ((bt a0 x6_2) != 125) = false := bne_eq_false_iff_eq.mpr c29
                clear c29
                by_cases c30 : x7_2 > 1114111
                ·rw [if_pos c30] at H
                 have c30b0 : decide (1114111 < x7_2) = true := decide_eq_true c30
                 clear c30
                 simp only [Option.some.injEq, Prod.mk.injEq] at H
                 obtain ⟨rfl, rfl⟩ := H
                 have p16 : 0 ≤ ((ji13) : Int) := of_decide_eq_true (by first | (with_reducible assumption) | assumption)
                 have q16 : (ji13) < (a0.size : Int) := of_decide_eq_true (by first | (with_reducible assumption) | assumption)
                 have hx16 := bt_at a0 (ji13)
                 replace p16 := eq_true p16
                 replace q16 := eq_true q16
                 have p23 : 0 ≤ ((ji20) : Int) := of_decide_eq_true (by first | (with_reducible assumption) | assumption)
                 have q23 : (ji20) < (a0.size : Int) := of_decide_eq_true (by first | (with_reducible assumption) | assumption)
                 have hx23 := bt_at a0 (ji20)
                 replace p23 := eq_true p23
                 replace q23 := eq_true q23
                 have p28 : 0 ≤ (x6_2 : Int) := of_decide_eq_true (by first | (with_reducible assumption) | assumption)
                 have q28 : x6_2 < (a0.size : Int) := of_decide_eq_true (by first | (with_reducible assumption) | assumption)
                 have hx28 := bt_at a0 x6_2
                 replace p28 := eq_true p28
                 replace q28 := eq_true q28
                 go_wp2
                 go_ret2
                 exact ⟨by first | rfl | (simp [errW_none, errW_some] <;> rfl) | (simp only [← hji13, ← hji20]; first | rfl | (simp [errW_none, errW_some] <;> rfl)) | (simp [*, errW_none, errW_some] <;> rfl), by repeat (first | (with_reducible first | exact HB.out | apply below_alloc | apply pw_below_drewN | apply below_drew1) | exact HB.out)⟩
                ·rw [if_neg c30] at H
                 have c30b0 : decide (1114111 < x7_2) = false := decide_eq_false c30
                 clear c30
                 replace H := Option.bind_eq_some_iff.mp H
                 obtain ⟨t290, A310, H⟩ := H
                 replace H : (if t290 = true then ((quoinref01_bytes.f (wrap32 (x7_2))).bind fun t291 => (some (strOfNums t291, wrap64 ((wrap64 (x6_2 + 1)) - a1)))) else (some ((⟨#[]⟩ : ByteArray), 0))) = some (r1, r2) := H
                 have A31 := Aside0.mk A310
                 clear A310
                 by_cases c32 : t290 = true
                 ·subst c32
                  have H1 : ((quoinref01_bytes.f (wrap32 (x7_2))).bind fun t291 => (some (strOfNums t291, wrap64 ((wrap64 (x6_2 + 1)) - a1)))) = some (r1, r2) := by rw [if_pos rfl] at H; exact H
                  clear H
                  have H := H1
                  clear H1
                  replace H := Option.bind_eq_some_iff.mp H
                  obtain ⟨t291, A330, H⟩ := H
                  replace H : (some (strOfNums t291, wrap64 ((wrap64 (x6_2 + 1)) - a1))) = some (r1, r2) := H
                  have A33 := Aside0.mk A330
                  clear A330
                  simp only [Option.some.injEq, Prod.mk.injEq] at H
                  obtain ⟨rfl, rfl⟩ := H
                  have p16 : 0 ≤ ((ji13) : Int) := of_decide_eq_true (by first | (with_reducible assumption) | assumption)
                  have q16 : (ji13) < (a0.size : Int) := of_decide_eq_true (by first | (with_reducible assumption) | assumption)
                  have hx16 := bt_at a0 (ji13)
                  replace p16 := eq_true p16
                  replace q16 := eq_true q16
                  have p23 : 0 ≤ ((ji20) : Int) := of_decide_eq_true (by first | (with_reducible assumption) | assumption)
                  have q23 : (ji20) < (a0.size : Int) := of_decide_eq_true (by first | (with_reducible assumption) | assumption)
                  have hx23 := bt_at a0 (ji20)
                  replace p23 := eq_true p23
                  replace q23 := eq_true q23
                  have p28 : 0 ≤ (x6_2 : Int) := of_decide_eq_true (by first | (with_reducible assumption) | assumption)
                  have q28 : x6_2 < (a0.size : Int) := of_decide_eq_true (by first | (with_reducible assumption) | assumption)
                  have hx28 := bt_at a0 x6_2
                  replace p28 := eq_true p28
                  replace q28 := eq_true q28
                  go_wp2_with (first | (go_at_call 35; (with_reducible refine (quoinref01_Rune.calls (wrap32 (x7_2)) true _ A31.out).mono ?_); rintro e w' ⟨rfl, ⟨nd, rfl⟩⟩) | ((with_reducible refine gate_callee (f := 36) rfl ?_); refine goesL_ (some 92) rfl rfl Try.func36 (by kernel_rfl) rfl #[.int .i32 (wrap32 (x7_2))] rfl (by (try simp only [List.map_toArray, List.map_cons, List.map_nil]); first | done | rfl | (simp only [List.length_drop, List.length_take]; rfl)) ?_; (with_reducible refine (quoinref01_bytes.calls (wrap32 (x7_2)) t291 _ A33.out).mono ?_); rintro e w34 ⟨v292, rfl, ho0, hb⟩; refine ⟨_, rfl, ?_⟩; have n0_ := Aside0.mk (Kd.R_lower ho0 (below_size (by repeat (first | (with_reducible first | exact HB.out | apply below_alloc | apply pw_below_drewN | apply below_drew1) | exact HB.out)))); have n1_ := Aside0.mk (below_step (by repeat (first | (with_reducible first | exact HB.out | apply below_alloc | apply pw_below_drewN | apply below_drew1) | exact HB.out)) hb); clear HB; have HO293 := n0_; have HB := n1_; clear n0_ n1_; (try clear hb); (try clear hb2); (try clear hk); (try clear hi); (try clear ho0); have hcv35 := own_string (P := Try.prog) Try.underlying65 Try.underlying5 Try.underlying9 (Kd.own_of_R HO293.out)))
                  go_ret2
                  exact ⟨by first | rfl | (simp [errW_none, errW_some] <;> rfl) | (simp only [← hji13, ← hji20]; first | rfl | (simp [errW_none, errW_some] <;> rfl)) | (simp [*, errW_none, errW_some] <;> rfl), by repeat (first | (with_reducible first | exact HB.out | apply below_alloc | apply pw_below_drewN | apply below_drew1) | exact HB.out)⟩
                 ·replace c32 := Bool.eq_false_iff.mpr c32
                  subst c32
                  have H1 : (some ((⟨#[]⟩ : ByteArray), 0)) = some (r1, r2) := by rw [if_neg (show ¬ (false = true) by decide)] at H; exact H
                  clear H
                  have H := H1
                  clear H1
                  simp only [Option.some.injEq, Prod.mk.injEq] at H
                  obtain ⟨rfl, rfl⟩ := H
                  have p16 : 0 ≤ ((ji13) : Int) := of_decide_eq_true (by first | (with_reducible assumption) | assumption)
                  have q16 : (ji13) < (a0.size : Int) := of_decide_eq_true (by first | (with_reducible assumption) | assumption)
                  have hx16 := bt_at a0 (ji13)
                  replace p16 := eq_true p16
                  replace q16 := eq_true q16
                  have p23 : 0 ≤ ((ji20) : Int) := of_decide_eq_true (by first | (with_reducible assumption) | assumption)
                  have q23 : (ji20) < (a0.size : Int) := of_decide_eq_true (by first | (with_reducible assumption) | assumption)
                  have hx23 := bt_at a0 (ji20)
                  replace p23 := eq_true p23
                  replace q23 := eq_true q23
                  have p28 : 0 ≤ (x6_2 : Int) := of_decide_eq_true (by first | (with_reducible assumption) | assumption)
                  have q28 : x6_2 < (a0.size : Int) := of_decide_eq_true (by first | (with_reducible assumption) | assumption)
                  have hx28 := bt_at a0 x6_2
                  replace p28 := eq_true p28
                  replace q28 := eq_true q28
                  go_wp2_with (first | (go_at_call 35; (with_reducible refine (quoinref01_Rune.calls (wrap32 (x7_2)) false _ A31.out).mono ?_); rintro e w' ⟨rfl, ⟨nd, rfl⟩⟩))
                  go_ret2
                  exact ⟨by first | rfl | (simp [errW_none, errW_some] <;> rfl) | (simp only [← hji13, ← hji20]; first | rfl | (simp [errW_none, errW_some] <;> rfl)) | (simp [*, errW_none, errW_some] <;> rfl), by repeat (first | (with_reducible first | exact HB.out | apply below_alloc | apply pw_below_drewN | apply below_drew1) | exact HB.out)⟩
               ·rw [if_neg c29] at H
                have c29b0 : ((bt a0 x6_2) == 125) = false := beq_eq_false_iff_ne.mpr c29
                have c29b1 : ((bt a0 x6_2) != 125) = true := bne_iff_ne.mpr c29
                simp only [Option.some.injEq, Prod.mk.injEq] at H
                obtain ⟨rfl, rfl⟩ := H
                have p16 : 0 ≤ ((ji13) : Int) := of_decide_eq_true (by first | (with_reducible assumption) | assumption)
                have q16 : (ji13) < (a0.size : Int) := of_decide_eq_true (by first | (with_reducible assumption) | assumption)
                have hx16 := bt_at a0 (ji13)
                replace p16 := eq_true p16
                replace q16 := eq_true q16
                have p23 : 0 ≤ ((ji20) : Int) := of_decide_eq_true (by first | (with_reducible assumption) | assumption)
                have q23 : (ji20) < (a0.size : Int) := of_decide_eq_true (by first | (with_reducible assumption) | assumption)
                have hx23 := bt_at a0 (ji20)
                replace p23 := eq_true p23
                replace q23 := eq_true q23
                have p28 : 0 ≤ (x6_2 : Int) := of_decide_eq_true (by first | (with_reducible assumption) | assumption)
                have q28 : x6_2 < (a0.size : Int) := of_decide_eq_true (by first | (with_reducible assumption) | assumption)
                have hx28 := bt_at a0 x6_2
                replace p28 := eq_true p28
                replace q28 := eq_true q28
                go_wp2
                go_ret2
                exact ⟨by first | rfl | (simp [errW_none, errW_some] <;> rfl) | (simp only [← hji13, ← hji20]; first | rfl | (simp [errW_none, errW_some] <;> rfl)) | (simp [*, errW_none, errW_some] <;> rfl), by repeat (first | (with_reducible first | exact HB.out | apply below_alloc | apply pw_below_drewN | apply below_drew1) | exact HB.out)⟩
              ·rw [if_neg c27] at H
               exact absurd H (by simp)
             ·rw [if_neg c26] at H
              exact absurd H (by simp)
          ·rw [if_neg c22] at H
           exact absurd H (by simp)
         ·rw [if_neg c21] at H
          exact absurd H (by simp)
        ·rw [if_neg c19] at H
         have c19b0 : decide (1 < (wrap64 ((wrap64 (x6_2 - a1)) - 3))) = false := decide_eq_false c19
         clear c19
         by_cases c36 : x6_2 ≥ (a0.size : Int)
         ·rw [if_pos c36] at H
          have c36b0 : decide ((a0.size : Int) ≤ x6_2) = true := decide_eq_true c36
          clear c36
          simp only [Option.some.injEq, Prod.mk.injEq] at H
          obtain ⟨rfl, rfl⟩ := H
          have p16 : 0 ≤ ((ji13) : Int) := of_decide_eq_true (by first | (with_reducible assumption) | assumption)
          have q16 : (ji13) < (a0.size : Int) := of_decide_eq_true (by first | (with_reducible assumption) | assumption)
          have hx16 := bt_at a0 (ji13)
          replace p16 := eq_true p16
          replace q16 := eq_true q16
          go_wp2
          go_ret2
          exact ⟨by first | rfl | (simp [errW_none, errW_some] <;> rfl) | (simp only [← hji13]; first | rfl | (simp [errW_none, errW_some] <;> rfl)) | (simp [*, errW_none, errW_some] <;> rfl), by repeat (first | (with_reducible first | exact HB.out | apply below_alloc | apply pw_below_drewN | apply below_drew1) | exact HB.out)⟩
         ·rw [if_neg c36] at H
          have c36b0 : decide ((a0.size : Int) ≤ x6_2) = false := decide_eq_false c36
          clear c36
          by_cases c37 : 0 ≤ x6_2
          ·rw [if_pos c37] at H
           have c37b0 : decide (0 ≤ x6_2) = true := decide_eq_true c37
           clear c37
           by_cases c38 : x6_2 < (a0.size : Int)
           ·rw [if_pos c38] at H
            have c38b0 : decide (x6_2 < (a0.size : Int)) = true := decide_eq_true c38
            clear c38
            by_cases c40 : (bt a0 x6_2) = 125
            ·rw [if_pos c40] at H
             have c40b0 : ((bt a0 x6_2) == 125) = true := beq_iff_eq.mpr c40
             have c40b1 : ((bt a0 x6_2) != 125) = false := bne_eq_false_iff_eq.mpr c40
             clear c40
             by_cases c41 : x7_2 > 1114111
             ·rw [if_pos c41] at H
              have c41b0 : decide (1114111 < x7_2) = true := decide_eq_true c41
              clear c41
              simp only [Option.some.injEq, Prod.mk.injEq] at H
              obtain ⟨rfl, rfl⟩ := H
              have p16 : 0 ≤ ((ji13) : Int) := of_decide_eq_true (by first | (with_reducible assumption) | assumption)
              have q16 : (ji13) < (a0.size : Int) := of_decide_eq_true (by first | (with_reducible assumption) | assumption)
              have hx16 := bt_at a0 (ji13)
              replace p16 := eq_true p16
              replace q16 := eq_true q16
              have p39 : 0 ≤ (x6_2 : Int) := of_decide_eq_true (by first | (with_reducible assumption) | assumption)
              have q39 : x6_2 < (a0.size : Int) := of_decide_eq_true (by first | (with_reducible assumption) | assumption)
              have hx39 := bt_at a0 x6_2
              replace p39 := eq_true p39
              replace q39 := eq_true q39
              go_wp2
              go_ret2
              exact ⟨by first | rfl | (simp [errW_none, errW_some] <;> rfl) | (simp only [← hji13]; first | rfl | (simp [errW_none, errW_some] <;> rfl)) | (simp [*, errW_none, errW_some] <;> rfl), by repeat (first | (with_reducible first | exact HB.out | apply below_alloc | apply pw_below_drewN | apply below_drew1) | exact HB.out)⟩
             ·rw [if_neg c41] at H
              have c41b0 : decide (1114111 < x7_2) = false := decide_eq_false c41
              clear c41
              replace H := Option.bind_eq_some_iff.mp H
              obtain ⟨t294, A420, H⟩ := H
              replace H : (if t294 = true then ((quoinref01_bytes.f (wrap32 (x7_2))).bind fun t295 => (some (strOfNums t295, wrap64 ((wrap64 (x6_2 + 1)) - a1)))) else (some ((⟨#[]⟩ : ByteArray), 0))) = some (r1, r2) := H
              have A42 := Aside0.mk A420
              clear A420
              by_cases c43 : t294 = true
              ·subst c43
               have H1 : ((quoinref01_bytes.f (wrap32 (x7_2))).bind fun t295 => (some (strOfNums t295, wrap64 ((wrap64 (x6_2 + 1)) - a1)))) = some (r1, r2) := by rw [if_pos rfl] at H; exact H
               clear H
               have H := H1
               clear H1
               replace H := Option.bind_eq_some_iff.mp H
               obtain ⟨t295, A440, H⟩ := H
               replace H : (some (strOfNums t295, wrap64 ((wrap64 (x6_2 + 1)) - a1))) = some (r1, r2) := H
               have A44 := Aside0.mk A440
               clear A440
               simp only [Option.some.injEq, Prod.mk.injEq] at H
               obtain ⟨rfl, rfl⟩ := H
               have p16 : 0 ≤ ((ji13) : Int) := of_decide_eq_true (by first | (with_reducible assumption) | assumption)
               have q16 : (ji13) < (a0.size : Int) := of_decide_eq_true (by first | (with_reducible assumption) | assumption)
               have hx16 := bt_at a0 (ji13)
               replace p16 := eq_true p16
               replace q16 := eq_true q16
               have p39 : 0 ≤ (x6_2 : Int) := of_decide_eq_true (by first | (with_reducible assumption) | assumption)
               have q39 : x6_2 < (a0.size : Int) := of_decide_eq_true (by first | (with_reducible assumption) | assumption)
               have hx39 := bt_at a0 x6_2
               replace p39 := eq_true p39
               replace q39 := eq_true q39
               go_wp2_with (first | (go_at_call 35; (with_reducible refine (quoinref01_Rune.calls (wrap32 (x7_2)) true _ A42.out).mono ?_); rintro e w' ⟨rfl, ⟨nd, rfl⟩⟩) | ((with_reducible refine gate_callee (f := 36) rfl ?_); refine goesL_ (some 92) rfl rfl Try.func36 (by kernel_rfl) rfl #[.int .i32 (wrap32 (x7_2))] rfl (by (try simp only [List.map_toArray, List.map_cons, List.map_nil]); first | done | rfl | (simp only [List.length_drop, List.length_take]; rfl)) ?_; (with_reducible refine (quoinref01_bytes.calls (wrap32 (x7_2)) t295 _ A44.out).mono ?_); rintro e w45 ⟨v296, rfl, ho0, hb⟩; refine ⟨_, rfl, ?_⟩; have n0_ := Aside0.mk (Kd.R_lower ho0 (below_size (by repeat (first | (with_reducible first | exact HB.out | apply below_alloc | apply pw_below_drewN | apply below_drew1) | exact HB.out)))); have n1_ := Aside0.mk (below_step (by repeat (first | (with_reducible first | exact HB.out | apply below_alloc | apply pw_below_drewN | apply below_drew1) | exact HB.out)) hb); clear HB; have HO297 := n0_; have HB := n1_; clear n0_ n1_; (try clear hb); (try clear hb2); (try clear hk); (try clear hi); (try clear ho0); have hcv46 := own_string (P := Try.prog) Try.underlying65 Try.underlying5 Try.underlying9 (Kd.own_of_R HO297.out)))
               go_ret2
               exact ⟨by first | rfl | (simp [errW_none, errW_some] <;> rfl) | (simp only [← hji13]; first | rfl | (simp [errW_none, errW_some] <;> rfl)) | (simp [*, errW_none, errW_some] <;> rfl), by repeat (first | (with_reducible first | exact HB.out | apply below_alloc | apply pw_below_drewN | apply below_drew1) | exact HB.out)⟩
              ·replace c43 := Bool.eq_false_iff.mpr c43
               subst c43
               have H1 : (some ((⟨#[]⟩ : ByteArray), 0)) = some (r1, r2) := by rw [if_neg (show ¬ (false = true) by decide)] at H; exact H
               clear H
               have H := H1
               clear H1
               simp only [Option.some.injEq, Prod.mk.injEq] at H
               obtain ⟨rfl, rfl⟩ := H
               have p16 : 0 ≤ ((ji13) : Int) := of_decide_eq_true (by first | (with_reducible assumption) | assumption)
               have q16 : (ji13) < (a0.size : Int) := of_decide_eq_true (by first | (with_reducible assumption) | assumption)
               have hx16 := bt_at a0 (ji13)
               replace p16 := eq_true p16
               replace q16 := eq_true q16
               have p39 : 0 ≤ (x6_2 : Int) := of_decide_eq_true (by first | (with_reducible assumption) | assumption)
               have q39 : x6_2 < (a0.size : Int) := of_decide_eq_true (by first | (with_reducible assumption) | assumption)
               have hx39 := bt_at a0 x6_2
               replace p39 := eq_true p39
               replace q39 := eq_true q39
               go_wp2_with (first | (go_at_call 35; (with_reducible refine (quoinref01_Rune.calls (wrap32 (x7_2)) false _ A42.out).mono ?_); rintro e w' ⟨rfl, ⟨nd, rfl⟩⟩))
               go_ret2
               exact ⟨by first | rfl | (simp [errW_none, errW_some] <;> rfl) | (simp only [← hji13]; first | rfl | (simp [errW_none, errW_some] <;> rfl)) | (simp [*, errW_none, errW_some] <;> rfl), by repeat (first | (with_reducible first | exact HB.out | apply below_alloc | apply pw_below_drewN | apply below_drew1) | exact HB.out)⟩
            ·rw [if_neg c40] at H
             have c40b0 : ((bt a0 x6_2) == 125) = false := beq_eq_false_iff_ne.mpr c40
             have c40b1 : ((bt a0 x6_2) != 125) = true := bne_iff_ne.mpr c40
             simp only [Option.some.injEq, Prod.mk.injEq] at H
             obtain ⟨rfl, rfl⟩ := H
             have p16 : 0 ≤ ((ji13) : Int) := of_decide_eq_true (by first | (with_reducible assumption) | assumption)
             have q16 : (ji13) < (a0.size : Int) := of_decide_eq_true (by first | (with_reducible assumption) | assumption)
             have hx16 := bt_at a0 (ji13)
             replace p16 := eq_true p16
             replace q16 := eq_true q16
             have p39 : 0 ≤ (x6_2 : Int) := of_decide_eq_true (by first | (with_reducible assumption) | assumption)
             have q39 : x6_2 < (a0.size : Int) := of_decide_eq_true (by first | (with_reducible assumption) | assumption)
             have hx39 := bt_at a0 x6_2
             replace p39 := eq_true p39
             replace q39 := eq_true q39
             go_wp2
             go_ret2
             exact ⟨by first | rfl | (simp [errW_none, errW_some] <;> rfl) | (simp only [← hji13]; first | rfl | (simp [errW_none, errW_some] <;> rfl)) | (simp [*, errW_none, errW_some] <;> rfl), by repeat (first | (with_reducible first | exact HB.out | apply below_alloc | apply pw_below_drewN | apply below_drew1) | exact HB.out)⟩
           ·rw [if_neg c38] at H
            exact absurd H (by simp)
          ·rw [if_neg c37] at H
           exact absurd H (by simp)
      ·rw [if_neg c17] at H
       have c17b0 : ((bt a0 (ji13)) == 123) = false := beq_eq_false_iff_ne.mpr c17
       have c17b1 : ((bt a0 (ji13)) != 123) = true := bne_iff_ne.mpr c17
       simp only [Option.some.injEq, Prod.mk.injEq] at H
       obtain ⟨rfl, rfl⟩ := H
       have p16 : 0 ≤ ((ji13) : Int) := of_decide_eq_true (by first | (with_reducible assumption) | assumption)
       have q16 : (ji13) < (a0.size : Int) := of_decide_eq_true (by first | (with_reducible assumption) | assumption)
       have hx16 := bt_at a0 (ji13)
       replace p16 := eq_true p16
       replace q16 := eq_true q16
       go_wp2
       go_ret2
       exact ⟨by first | rfl | (simp [errW_none, errW_some] <;> rfl) | (simp only [← hji13]; first | rfl | (simp [errW_none, errW_some] <;> rfl)) | (simp [*, errW_none, errW_some] <;> rfl), by repeat (first | (with_reducible first | exact HB.out | apply below_alloc | apply pw_below_drewN | apply below_drew1) | exact HB.out)⟩
     ·rw [if_neg c15] at H
      exact absurd H (by simp)
    ·rw [if_neg c14] at H
     exact absurd H (by simp)

end Go.Proofs.Ythiiigbifimckaa.Pt
