/- Functions of the program as plain Lean functions, each with the proof that its call comes to the same answer, and the row of the statement: written by a program of this session out of the translation. No condition beyond those in the texts. -/
import Derived.Test.YthiiigbifimckaaPtx0
import Derived.Test.YthiiigbifimckaaPtx5
import Derived.Test.YthiiigbifimckaaPtx10
import Derived.Test.YthiiigbifimckaaPtx11
namespace Go.Proofs.Ythiiigbifimckaa.Pt
open Go.RowKit Go.Proofs.YthiiigbifimckaaW.PrintWords Go.Proofs.YthiiigbifimckaaW.PrintLast Go.Proofs.YthiiigbifimckaaW.PrintMore
attribute [local go_sem] max2_int min2_int max_two min_two max_three min_three max_four min_four   -- for this text's walks alone
set_option linter.unusedVariables false
set_option linter.unusedSimpArgs false

/-! ### quoinref01_part: function 42 -/
mutual
def quoinref01_part.j0 : Nat → ByteArray → Int → Int → Int → Bool → Option (ByteArray × Int)
 | 0, _, _, _, _, _ => none
 | k + 1, x0, x1, x6, x7, x29 => if x29 = true then (some ((⟨#[]⟩ : ByteArray), 0)) else (if x6 = 92 then (if (wrap64 (x1 + 1)) ≥ (x0.size : Int) then (some ((⟨#[]⟩ : ByteArray), 0)) else (if 0 ≤ (wrap64 (x1 + 1)) then (if (wrap64 (x1 + 1)) < (x0.size : Int) then (if (bt x0 (wrap64 (x1 + 1))) = 110 then (some ((⟨#[10]⟩ : ByteArray), 2)) else (if (bt x0 (wrap64 (x1 + 1))) = 116 then (some ((⟨#[9]⟩ : ByteArray), 2)) else (if (bt x0 (wrap64 (x1 + 1))) = 114 then (some ((⟨#[13]⟩ : ByteArray), 2)) else (if (bt x0 (wrap64 (x1 + 1))) = 34 then (quoinref01_part.j1 k x0 x1 (bt x0 (wrap64 (x1 + 1))) ((bt x0 (wrap64 (x1 + 1))) == 34)) else (quoinref01_part.j1 k x0 x1 (bt x0 (wrap64 (x1 + 1))) ((bt x0 (wrap64 (x1 + 1))) == 92)))))) else (none)) else (none))) else (if 0 ≤ x1 then (if x1 ≤ (wrap64 (x1 + x7)) then (if (wrap64 (x1 + x7)) ≤ (x0.size : Int) then (some (x0.extract (x1 : Int).toNat ((wrap64 (x1 + x7)) : Int).toNat, x7)) else (none)) else (none)) else (none)))
def quoinref01_part.j1 : Nat → ByteArray → Int → Int → Bool → Option (ByteArray × Int)
 | 0, _, _, _, _ => none
 | k + 1, x0, x1, x47, x54 => if x54 = true then (if 0 ≤ (wrap64 (x1 + 1)) then (if (wrap64 (x1 + 1)) ≤ (wrap64 (x1 + 2)) then (if (wrap64 (x1 + 2)) ≤ (x0.size : Int) then (some (x0.extract ((wrap64 (x1 + 1)) : Int).toNat ((wrap64 (x1 + 2)) : Int).toNat, 2)) else (none)) else (none)) else (none)) else (if x47 = 120 then (if (wrap64 (x1 + 3)) < (x0.size : Int) then (if 0 ≤ (wrap64 (x1 + 2)) then (if (wrap64 (x1 + 2)) < (x0.size : Int) then ((quoinref01_digit.f k (bt x0 (wrap64 (x1 + 2)))).bind fun t301 => (if t301 ≥ 0 then (if 0 ≤ (wrap64 (x1 + 3)) then ((quoinref01_digit.f k (bt x0 (wrap64 (x1 + 3)))).bind fun t302 => (quoinref01_part.j2 k x0 x1 (decide (t302 ≥ 0)))) else (none)) else (quoinref01_part.j2 k x0 x1 false))) else (none)) else (none)) else (quoinref01_part.j2 k x0 x1 false)) else (if x47 = 117 then ((quoinref01_number.f k x0 x1).bind fun bt308 => (some (bt308.1, bt308.2))) else (some ((⟨#[]⟩ : ByteArray), 0))))
def quoinref01_part.j2 : Nat → ByteArray → Int → Bool → Option (ByteArray × Int)
 | 0, _, _, _ => none
 | k + 1, x0, x1, x85 => if x85 = true then (if 0 ≤ (wrap64 (x1 + 2)) then (if (wrap64 (x1 + 2)) < (x0.size : Int) then ((quoinref01_digit.f k (bt x0 (wrap64 (x1 + 2)))).bind fun t303 => (if 0 ≤ (wrap64 (x1 + 3)) then (if (wrap64 (x1 + 3)) < (x0.size : Int) then ((quoinref01_digit.f k (bt x0 (wrap64 (x1 + 3)))).bind fun t304 => (some (strOfNums (([(wrap64 ((wrap64 (16 * t303)) + t304)) % 256] : List Int)), 4))) else (none)) else (none))) else (none)) else (none)) else (some ((⟨#[]⟩ : ByteArray), 0))
end
def quoinref01_part.f (k : Nat) (a0 : ByteArray) (a1 : Int) : Option (ByteArray × Int) := (quoinref01_Next.f k a0 a1).bind fun bt298 => (if bt298.2.2 = true then (if bt298.1 < 32 then (quoinref01_part.j0 k a0 a1 bt298.1 bt298.2.1 true) else (if bt298.1 = 127 then (quoinref01_part.j0 k a0 a1 bt298.1 bt298.2.1 true) else (quoinref01_part.j0 k a0 a1 bt298.1 bt298.2.1 (bt298.1 == 34)))) else (quoinref01_part.j0 k a0 a1 bt298.1 bt298.2.1 true))
theorem quoinref01_part.mono_l : ∀ k, (∀ y0 y1 y2 y3 y4, LeO (quoinref01_part.j0 k y0 y1 y2 y3 y4) (quoinref01_part.j0 (k + 1) y0 y1 y2 y3 y4)) ∧ (∀ y0 y1 y2 y3, LeO (quoinref01_part.j1 k y0 y1 y2 y3) (quoinref01_part.j1 (k + 1) y0 y1 y2 y3)) ∧ (∀ y0 y1 y2, LeO (quoinref01_part.j2 k y0 y1 y2) (quoinref01_part.j2 (k + 1) y0 y1 y2))
 | 0 => ⟨fun _ _ _ _ _ r h => by simp [quoinref01_part.j0] at h, fun _ _ _ _ r h => by simp [quoinref01_part.j1] at h, fun _ _ _ r h => by simp [quoinref01_part.j2] at h⟩
 | k + 1 => by
  obtain ⟨ih0, ih1, ih2⟩ := quoinref01_part.mono_l k
  refine ⟨?_, ?_, ?_⟩
  ·intro y0 y1 y2 y3 y4
   unfold quoinref01_part.j0
   repeat' first
   | (with_reducible exact ih0 _ _ _ _ _)
   | (with_reducible exact ih1 _ _ _ _)
   | (with_reducible exact ih2 _ _ _)
   | (with_reducible exact quoinref01_Next.mono _ _ _)
   | (with_reducible exact quoinref01_digit.mono _ _)
   | (with_reducible exact quoinref01_number.mono _ _ _)
   | (with_reducible exact LeO.refl _)
   | (with_reducible exact LeO.none _)
   | (with_reducible refine LeO.ite ?_ ?_)
   | (with_reducible refine LeO.bind ?_ (fun _ => ?_))
   | exact ih0 _ _ _ _ _
   | exact ih1 _ _ _ _
   | exact ih2 _ _ _
   | exact quoinref01_Next.mono _ _ _
   | exact quoinref01_digit.mono _ _
   | exact quoinref01_number.mono _ _ _
   | exact LeO.none _
   | refine LeO.ite ?_ ?_
   | refine LeO.bind ?_ (fun _ => ?_)
  ·intro y0 y1 y2 y3
   unfold quoinref01_part.j1
   repeat' first
   | (with_reducible exact ih0 _ _ _ _ _)
   | (with_reducible exact ih1 _ _ _ _)
   | (with_reducible exact ih2 _ _ _)
   | (with_reducible exact quoinref01_Next.mono _ _ _)
   | (with_reducible exact quoinref01_digit.mono _ _)
   | (with_reducible exact quoinref01_number.mono _ _ _)
   | (with_reducible exact LeO.refl _)
   | (with_reducible exact LeO.none _)
   | (with_reducible refine LeO.ite ?_ ?_)
   | (with_reducible refine LeO.bind ?_ (fun _ => ?_))
   | exact ih0 _ _ _ _ _
   | exact ih1 _ _ _ _
   | exact ih2 _ _ _
   | exact quoinref01_Next.mono _ _ _
   | exact quoinref01_digit.mono _ _
   | exact quoinref01_number.mono _ _ _
   | exact LeO.none _
   | refine LeO.ite ?_ ?_
   | refine LeO.bind ?_ (fun _ => ?_)
  ·intro y0 y1 y2
   unfold quoinref01_part.j2
   repeat' first
   | (with_reducible exact ih0 _ _ _ _ _)
   | (with_reducible exact ih1 _ _ _ _)
   | (with_reducible exact ih2 _ _ _)
   | (with_reducible exact quoinref01_Next.mono _ _ _)
   | (with_reducible exact quoinref01_digit.mono _ _)
   | (with_reducible exact quoinref01_number.mono _ _ _)
   | (with_reducible exact LeO.refl _)
   | (with_reducible exact LeO.none _)
   | (with_reducible refine LeO.ite ?_ ?_)
   | (with_reducible refine LeO.bind ?_ (fun _ => ?_))
   | exact ih0 _ _ _ _ _
   | exact ih1 _ _ _ _
   | exact ih2 _ _ _
   | exact quoinref01_Next.mono _ _ _
   | exact quoinref01_digit.mono _ _
   | exact quoinref01_number.mono _ _ _
   | exact LeO.none _
   | refine LeO.ite ?_ ?_
   | refine LeO.bind ?_ (fun _ => ?_)
theorem quoinref01_part.mono : ∀ a0 a1 k, LeO (quoinref01_part.f k a0 a1) (quoinref01_part.f (k + 1) a0 a1) := by
 intro a0 a1 k
 obtain ⟨ih0, ih1, ih2⟩ := quoinref01_part.mono_l k
 unfold quoinref01_part.f
 repeat' first
   | (with_reducible exact ih0 _ _ _ _ _)
   | (with_reducible exact ih1 _ _ _ _)
   | (with_reducible exact ih2 _ _ _)
   | (with_reducible exact quoinref01_Next.mono _ _ _)
   | (with_reducible exact quoinref01_digit.mono _ _)
   | (with_reducible exact quoinref01_number.mono _ _ _)
   | (with_reducible exact LeO.refl _)
   | (with_reducible exact LeO.none _)
   | (with_reducible refine LeO.ite ?_ ?_)
   | (with_reducible refine LeO.bind ?_ (fun _ => ?_))
   | exact ih0 _ _ _ _ _
   | exact ih1 _ _ _ _
   | exact ih2 _ _ _
   | exact quoinref01_Next.mono _ _ _
   | exact quoinref01_digit.mono _ _
   | exact quoinref01_number.mono _ _ _
   | exact LeO.none _
   | refine LeO.ite ?_ ?_
   | refine LeO.bind ?_ (fun _ => ?_)
def quoinref01_part.T20 : Bool × List (List Nat × List Nat) := (true, [([], []), ([], []), ([1], [1]), ([0, 2], [0, 2]), ([3], [3]), ([4], [4]), ([], []), ([], []), ([7], [7]), ([6, 8], [6, 8]), ([9, 4], [9]), ([5, 10], [5, 10]), ([11], [11]), ([12], [12]), ([13], [13]), ([14, 10, 0, 1, 2, 3, 4, 5, 6, 7, 8, 9, 10, 11, 12, 13, 14], [14]), ([15, 0, 1, 2, 3, 4, 5, 6, 7, 8, 9, 10, 11, 12, 13, 14, 15], [])])
def quoinref01_part.B20 : List Nat := [0, 0, 2, 7, 15, 31, 0, 0, 128, 448, 991, 2047, 4095, 8191, 16383, 32767, 65535]
theorem quoinref01_part.tab20 : rtab .any (opsOf Try.f42 20) = quoinref01_part.T20 := by kernel_rfl
theorem quoinref01_part.bits20 : waitsOk quoinref01_part.T20.2 quoinref01_part.B20 = true := by kernel_rfl
set_option maxHeartbeats 8000000 in
set_option maxRecDepth 100000 in
theorem quoinref01_part.calls (k : Nat) (a0 : ByteArray) (a1 : Int) (r1 : ByteArray) (r2 : Int) (w : World) (h : quoinref01_part.f k a0 a1 = some (r1, r2)) :
  Calls Try.prog 42 #[.string a0, .int .i64 a1] w fun e w' => e = .returned (.tuple #[.string r1, .int .i64 r2]) ∧ Below w.heap.size w w' := by
 have HB := Aside0.mk (Below.refl w.heap.size w)
 have H : ((quoinref01_Next.f k a0 a1).bind fun bt298 => (if bt298.2.2 = true then (if bt298.1 < 32 then (quoinref01_part.j0 k a0 a1 bt298.1 bt298.2.1 true) else (if bt298.1 = 127 then (quoinref01_part.j0 k a0 a1 bt298.1 bt298.2.1 true) else (quoinref01_part.j0 k a0 a1 bt298.1 bt298.2.1 (bt298.1 == 34)))) else (quoinref01_part.j0 k a0 a1 bt298.1 bt298.2.1 true))) = some (r1, r2) := h
 clear h
 replace H := Option.bind_eq_some_iff.mp H
 obtain ⟨⟨t298, t299, t300⟩, A30, H⟩ := H
 replace H : (if t300 = true then (if t298 < 32 then (quoinref01_part.j0 k a0 a1 t298 t299 true) else (if t298 = 127 then (quoinref01_part.j0 k a0 a1 t298 t299 true) else (quoinref01_part.j0 k a0 a1 t298 t299 (t298 == 34)))) else (quoinref01_part.j0 k a0 a1 t298 t299 true)) = some (r1, r2) := H
 have A3 := Aside0.mk A30
 clear A30
 have HC4 := Aside0.mk H
 clear H
 go_enter Try.func42, Try.ntmps42
 go_upto_region 2 with (first | ((with_reducible refine gate_callee (f := 18) rfl ?_); refine goesL_ (some 12) rfl rfl Try.func18 (by kernel_rfl) rfl #[.string a0, .int .i64 a1] rfl (by (try simp only [List.map_toArray, List.map_cons, List.map_nil]); first | done | rfl | (simp only [List.length_drop, List.length_take]; rfl)) ?_; (with_reducible refine (quoinref01_Next.calls k a0 a1 t298 t299 t300 _ A3.out).mono ?_); rintro e w5 ⟨rfl, hb⟩; refine ⟨_, rfl, ?_⟩; have n0_ := Aside0.mk (below_step (by repeat (first | (with_reducible first | exact HB.out | apply below_alloc | apply pw_below_drewN | apply below_drew1) | exact HB.out)) hb); clear HB; have HB := n0_; clear n0_; (try clear hb); (try clear hb2); (try clear hk); (try clear hi)))
 (try simp only [Act.put, List.setIfInBounds_toArray, List.set_cons_zero, List.set_cons_succ])
 go_cut [29] (fun v29 wc => ∃ (kq : Nat) (x29_3 : Bool), v29 = .bool x29_3 ∧ Aside0 (quoinref01_part.j0 kq a0 a1 t298 t299 x29_3 = some (r1, r2)) ∧ Aside0 (kq ≤ k) ∧ Aside0 (Below w.heap.size w wc))
 case first =>
  have H := HC4.out
  clear HC4
  by_cases c6 : t300 = true
  ·subst c6
   have H1 : (if t298 < 32 then (quoinref01_part.j0 k a0 a1 t298 t299 true) else (if t298 = 127 then (quoinref01_part.j0 k a0 a1 t298 t299 true) else (quoinref01_part.j0 k a0 a1 t298 t299 (t298 == 34)))) = some (r1, r2) := by rw [if_pos rfl] at H; exact H
   clear H
   have H := H1
   clear H1
   by_cases c7 : t298 < 32
   ·rw [if_pos c7] at H
    have c7b0 : decide (t298 < 32) = true := decide_eq_true c7
    clear c7
    (first | rw [c7b0] | (simp only [i64_w, i32_w]; rw [c7b0]) | skip)
    have H' := Aside0.mk H
    clear H
    go_wp2
    go_meet
    case rel => exact ⟨_, (true), (by first | rfl | (simp; done) | (simp [*]; done)), H', ⟨by first | omega | exact Nat.le_refl _⟩, ⟨by repeat (first | (with_reducible first | exact HB.out | apply below_alloc | apply pw_below_drewN | apply below_drew1) | exact HB.out)⟩⟩
   ·rw [if_neg c7] at H
    have c7b0 : decide (t298 < 32) = false := decide_eq_false c7
    clear c7
    (first | rw [c7b0] | (simp only [i64_w, i32_w]; rw [c7b0]) | skip)
    by_cases c8 : t298 = 127
    ·rw [if_pos c8] at H
     have c8b0 : (t298 == 127) = true := beq_iff_eq.mpr c8
     have c8b1 : (t298 != 127) = false := bne_eq_false_iff_eq.mpr c8
     clear c8
     have H' := Aside0.mk H
     clear H
     go_wp2
     go_meet
     case rel => exact ⟨_, (true), (by first | rfl | (simp; done) | (simp [*]; done)), H', ⟨by first | omega | exact Nat.le_refl _⟩, ⟨by repeat (first | (with_reducible first | exact HB.out | apply below_alloc | apply pw_below_drewN | apply below_drew1) | exact HB.out)⟩⟩
    ·rw [if_neg c8] at H
     have c8b0 : (t298 == 127) = false := beq_eq_false_iff_ne.mpr c8
     have c8b1 : (t298 != 127) = true := bne_iff_ne.mpr c8
     have H' := Aside0.mk H
     clear H
     go_wp2
     go_meet
     case rel => exact ⟨_, ((t298 == 34)), (by first | rfl | (simp; done) | (simp [*]; done)), H', ⟨by first | omega | exact Nat.le_refl _⟩, ⟨by repeat (first | (with_reducible first | exact HB.out | apply below_alloc | apply pw_below_drewN | apply below_drew1) | exact HB.out)⟩⟩
  ·replace c6 := Bool.eq_false_iff.mpr c6
   subst c6
   have H1 : (quoinref01_part.j0 k a0 a1 t298 t299 true) = some (r1, r2) := by rw [if_neg (show ¬ (false = true) by decide)] at H; exact H
   clear H
   have H := H1
   clear H1
   have H' := Aside0.mk H
   clear H
   go_wp2
   go_meet
   case rel => exact ⟨_, (true), (by first | rfl | (simp; done) | (simp [*]; done)), H', ⟨by first | omega | exact Nat.le_refl _⟩, ⟨by repeat (first | (with_reducible first | exact HB.out | apply below_alloc | apply pw_below_drewN | apply below_drew1) | exact HB.out)⟩⟩
 case rest =>
  clear HC4
  try clear c1
  try clear p2
  try clear c4
  try clear c6
  try clear c7
  try clear c7b0
  try clear c8
  try clear c8b0
  try clear c8b1
  obtain ⟨kq, x29_3, rfl, HA, HJ3, HB⟩ := hcut
  cases kq with
  | zero => exact absurd HA.out (by simp [quoinref01_part.j0])
  | succ kj3 =>
   have H := HA.out
   clear HA
   simp only [quoinref01_part.j0] at H
   by_cases c9 : x29_3 = true
   ·subst c9
    have H1 : (some ((⟨#[]⟩ : ByteArray), 0)) = some (r1, r2) := by rw [if_pos rfl] at H; exact H
    clear H
    have H := H1
    clear H1
    simp only [Option.some.injEq, Prod.mk.injEq] at H
    obtain ⟨rfl, rfl⟩ := H
    go_wp2
    go_ret2
    exact ⟨by first | rfl | (simp [errW_none, errW_some] <;> rfl) | (simp [*, errW_none, errW_some] <;> rfl), by repeat (first | (with_reducible first | exact HB.out | apply below_alloc | apply pw_below_drewN | apply below_drew1) | exact HB.out)⟩
   ·replace c9 := Bool.eq_false_iff.mpr c9
    subst c9
    have H1 : (if t298 = 92 then (if (wrap64 (a1 + 1)) ≥ (a0.size : Int) then (some ((⟨#[]⟩ : ByteArray), 0)) else (if 0 ≤ (wrap64 (a1 + 1)) then (if (wrap64 (a1 + 1)) < (a0.size : Int) then (if (bt a0 (wrap64 (a1 + 1))) = 110 then (some ((⟨#[10]⟩ : ByteArray), 2)) else (if (bt a0 (wrap64 (a1 + 1))) = 116 then (some ((⟨#[9]⟩ : ByteArray), 2)) else (if (bt a0 (wrap64 (a1 + 1))) = 114 then (some ((⟨#[13]⟩ : ByteArray), 2)) else (if (bt a0 (wrap64 (a1 + 1))) = 34 then (quoinref01_part.j1 kj3 a0 a1 (bt a0 (wrap64 (a1 + 1))) ((bt a0 (wrap64 (a1 + 1))) == 34)) else (quoinref01_part.j1 kj3 a0 a1 (bt a0 (wrap64 (a1 + 1))) ((bt a0 (wrap64 (a1 + 1))) == 92)))))) else (none)) else (none))) else (if 0 ≤ a1 then (if a1 ≤ (wrap64 (a1 + t299)) then (if (wrap64 (a1 + t299)) ≤ (a0.size : Int) then (some (a0.extract (a1 : Int).toNat ((wrap64 (a1 + t299)) : Int).toNat, t299)) else (none)) else (none)) else (none))) = some (r1, r2) := by rw [if_neg (show ¬ (false = true) by decide)] at H; exact H
    clear H
    have H := H1
    clear H1
    by_cases c10 : t298 = 92
    ·rw [if_pos c10] at H
     have c10b0 : (t298 == 92) = true := beq_iff_eq.mpr c10
     have c10b1 : (t298 != 92) = false := bne_eq_false_iff_eq.mpr c10
     clear c10
     by_cases c11 : (wrap64 (a1 + 1)) ≥ (a0.size : Int)
     ·rw [if_pos c11] at H
      have c11b0 : decide ((a0.size : Int) ≤ (wrap64 (a1 + 1))) = true := decide_eq_true c11
      clear c11
      simp only [Option.some.injEq, Prod.mk.injEq] at H
      obtain ⟨rfl, rfl⟩ := H
      go_wp2
      go_ret2
      exact ⟨by first | rfl | (simp [errW_none, errW_some] <;> rfl) | (simp [*, errW_none, errW_some] <;> rfl), by repeat (first | (with_reducible first | exact HB.out | apply below_alloc | apply pw_below_drewN | apply below_drew1) | exact HB.out)⟩
     ·rw [if_neg c11] at H
      have c11b0 : decide ((a0.size : Int) ≤ (wrap64 (a1 + 1))) = false := decide_eq_false c11
      clear c11
      obtain ⟨ji12, hji12⟩ : ∃ j_ : Int, (wrap64 (a1 + 1)) = j_ := ⟨_, rfl⟩
      replace H : (if 0 ≤ (ji12) then (if (ji12) < (a0.size : Int) then (if (bt a0 (ji12)) = 110 then (some ((⟨#[10]⟩ : ByteArray), 2)) else (if (bt a0 (ji12)) = 116 then (some ((⟨#[9]⟩ : ByteArray), 2)) else (if (bt a0 (ji12)) = 114 then (some ((⟨#[13]⟩ : ByteArray), 2)) else (if (bt a0 (ji12)) = 34 then (quoinref01_part.j1 kj3 a0 a1 (bt a0 (ji12)) ((bt a0 (ji12)) == 34)) else (quoinref01_part.j1 kj3 a0 a1 (bt a0 (ji12)) ((bt a0 (ji12)) == 92)))))) else (none)) else (none)) = some (r1, r2) := by first | (rw [hji12] at H; exact H) | (simp only [hji12] at H ⊢; exact H)
      (try rw [hji12] at c11b0)
      have hji12w : (IntKind.i64.wrap (a1 + 1)) = ji12 := (i64_w _).trans hji12
      by_cases c13 : 0 ≤ (ji12)
      ·rw [if_pos c13] at H
       have c13b0 : decide (0 ≤ (ji12)) = true := decide_eq_true c13
       clear c13
       by_cases c14 : (ji12) < (a0.size : Int)
       ·rw [if_pos c14] at H
        have c14b0 : decide ((ji12) < (a0.size : Int)) = true := decide_eq_true c14
        clear c14
        by_cases c16 : (bt a0 (ji12)) = 110
        ·rw [if_pos c16] at H
         have c16b0 : ((bt a0 (ji12)) == 110) = true := beq_iff_eq.mpr c16
         have c16b1 : ((bt a0 (ji12)) != 110) = false := bne_eq_false_iff_eq.mpr c16
         clear c16
         simp only [Option.some.injEq, Prod.mk.injEq] at H
         obtain ⟨rfl, rfl⟩ := H
         have p15 : 0 ≤ ((ji12) : Int) := of_decide_eq_true (by first | (with_reducible assumption) | assumption)
         have q15 : (ji12) < (a0.size : Int) := of_decide_eq_true (by first | (with_reducible assumption) | assumption)
         have hx15 := bt_at a0 (ji12)
         replace p15 := eq_true p15
         replace q15 := eq_true q15
         go_wp2
         go_ret2
         exact ⟨by first | rfl | (simp [errW_none, errW_some] <;> rfl) | (simp only [← hji12]; first | rfl | (simp [errW_none, errW_some] <;> rfl)) | (simp [*, errW_none, errW_some] <;> rfl), by repeat (first | (with_reducible first | exact HB.out | apply below_alloc | apply pw_below_drewN | apply below_drew1) | exact HB.out)⟩
        ·rw [if_neg c16] at H
         have c16b0 : ((bt a0 (ji12)) == 110) = false := beq_eq_false_iff_ne.mpr c16
         have c16b1 : ((bt a0 (ji12)) != 110) = true := bne_iff_ne.mpr c16
         by_cases c17 : (bt a0 (ji12)) = 116
         ·rw [if_pos c17] at H
          have c17b0 : ((bt a0 (ji12)) == 116) = true := beq_iff_eq.mpr c17
          have c17b1 : ((bt a0 (ji12)) != 116) = false := bne_eq_false_iff_eq.mpr c17
          clear c17
          simp only [Option.some.injEq, Prod.mk.injEq] at H
          obtain ⟨rfl, rfl⟩ := H
          have p15 : 0 ≤ ((ji12) : Int) := of_decide_eq_true (by first | (with_reducible assumption) | assumption)
          have q15 : (ji12) < (a0.size : Int) := of_decide_eq_true (by first | (with_reducible assumption) | assumption)
          have hx15 := bt_at a0 (ji12)
          replace p15 := eq_true p15
          replace q15 := eq_true q15
          go_wp2
          go_ret2
          exact ⟨by first | rfl | (simp [errW_none, errW_some] <;> rfl) | (simp only [← hji12]; first | rfl | (simp [errW_none, errW_some] <;> rfl)) | (simp [*, errW_none, errW_some] <;> rfl), by repeat (first | (with_reducible first | exact HB.out | apply below_alloc | apply pw_below_drewN | apply below_drew1) | exact HB.out)⟩
         ·rw [if_neg c17] at H
          have c17b0 : ((bt a0 (ji12)) == 116) = false := beq_eq_false_iff_ne.mpr c17
          have c17b1 : ((bt a0 (ji12)) != 116) = true := bne_iff_ne.mpr c17
          by_cases c18 : (bt a0 (ji12)) = 114
          ·rw [if_pos c18] at H
           have c18b0 : ((bt a0 (ji12)) == 114) = true := beq_iff_eq.mpr c18
           have c18b1 : ((bt a0 (ji12)) != 114) = false := bne_eq_false_iff_eq.mpr c18
           clear c18
           simp only [Option.some.injEq, Prod.mk.injEq] at H
           obtain ⟨rfl, rfl⟩ := H
           have p15 : 0 ≤ ((ji12) : Int) := of_decide_eq_true (by first | (with_reducible assumption) | assumption)
           have q15 : (ji12) < (a0.size : Int) := of_decide_eq_true (by first | (with_reducible assumption) | assumption)
           have hx15 := bt_at a0 (ji12)
           replace p15 := eq_true p15
           replace q15 := eq_true q15
           go_wp2
           go_ret2
           exact ⟨by first | rfl | (simp [errW_none, errW_some] <;> rfl) | (simp only [← hji12]; first | rfl | (simp [errW_none, errW_some] <;> rfl)) | (simp [*, errW_none, errW_some] <;> rfl), by repeat (first | (with_reducible first | exact HB.out | apply below_alloc | apply pw_below_drewN | apply below_drew1) | exact HB.out)⟩
          ·rw [if_neg c18] at H
           have c18b0 : ((bt a0 (ji12)) == 114) = false := beq_eq_false_iff_ne.mpr c18
           have c18b1 : ((bt a0 (ji12)) != 114) = true := bne_iff_ne.mpr c18
           have HC19 := Aside0.mk H
           clear H
           have p15 : 0 ≤ ((ji12) : Int) := of_decide_eq_true (by first | (with_reducible assumption) | assumption)
           have q15 : (ji12) < (a0.size : Int) := of_decide_eq_true (by first | (with_reducible assumption) | assumption)
           have hx15 := bt_at a0 (ji12)
           replace p15 := eq_true p15
           replace q15 := eq_true q15
           go_upto_if 54 with (fail)
           go_cut [54] (fun v54 wc => ∃ (kq : Nat) (x54_18 : Bool), v54 = .bool x54_18 ∧ Aside0 (quoinref01_part.j1 kq a0 a1 (bt a0 (ji12)) x54_18 = some (r1, r2)) ∧ Aside0 (kq ≤ kj3) ∧ Aside0 (Below w.heap.size w wc))
           case first =>
            have H := HC19.out
            clear HC19
            by_cases c20 : (bt a0 (ji12)) = 34
            ·rw [if_pos c20] at H
             have c20b0 : ((bt a0 (ji12)) == 34) = true := beq_iff_eq.mpr c20
             have c20b1 : ((bt a0 (ji12)) != 34) = false := bne_eq_false_iff_eq.mpr c20
             clear c20
             (first | rw [c20b0] | (simp only [i64_w, i32_w]; rw [c20b0]) | skip)
             have H' := Aside0.mk H
             clear H
             go_wp2
             go_meet
             case rel => exact ⟨_, (((bt a0 (ji12)) == 34)), (by first | rfl | (simp; done) | (simp only [← hji12] <;> (first | rfl | (simp; done) | (simp; first | exact Go.Proofs.Ythiiigbifimckaa.Hw.q_u32 _ _ _ | exact Go.Proofs.Ythiiigbifimckaa.Hw.q_tmod _ _ (bt_range _ _).1 (bt_range _ _).2))) | (simp [*]; done)), H', ⟨by have := HJ3.out; first | omega | exact Nat.le_refl _⟩, ⟨by repeat (first | (with_reducible first | exact HB.out | apply below_alloc | apply pw_below_drewN | apply below_drew1) | exact HB.out)⟩⟩
            ·rw [if_neg c20] at H
             have c20b0 : ((bt a0 (ji12)) == 34) = false := beq_eq_false_iff_ne.mpr c20
             have c20b1 : ((bt a0 (ji12)) != 34) = true := bne_iff_ne.mpr c20
             (first | rw [c20b0] | (simp only [i64_w, i32_w]; rw [c20b0]) | skip)
             have H' := Aside0.mk H
             clear H
             go_wp2
             go_meet
             case rel => exact ⟨_, (((bt a0 (ji12)) == 92)), (by first | rfl | (simp; done) | (simp only [← hji12] <;> (first | rfl | (simp; done) | (simp; first | exact Go.Proofs.Ythiiigbifimckaa.Hw.q_u32 _ _ _ | exact Go.Proofs.Ythiiigbifimckaa.Hw.q_tmod _ _ (bt_range _ _).1 (bt_range _ _).2))) | (simp [*]; done)), H', ⟨by have := HJ3.out; first | omega | exact Nat.le_refl _⟩, ⟨by repeat (first | (with_reducible first | exact HB.out | apply below_alloc | apply pw_below_drewN | apply below_drew1) | exact HB.out)⟩⟩
           case rest =>
            clear HC19
            try clear c1
            try clear p1
            try clear q1
            try clear hx1
            try clear c2
            try clear p2
            try clear c4
            try clear c6
            try clear p6
            try clear c7
            try clear c7b0
            try clear c8
            try clear c8b0
            try clear c8b1
            try clear c9
            try clear c10
            try clear c10b0
            try clear c10b1
            try clear c11
            try clear c11b0
            try clear c13
            try clear c13b0
            try clear c14
            try clear c14b0
            try clear p15
            try clear q15
            try clear hx15
            try clear c16
            try clear c16b0
            try clear c16b1
            try clear c17
            try clear c17b0
            try clear c17b1
            try clear c18
            try clear c18b0
            try clear c18b1
            try clear c20
            try clear c20b0
            try clear c20b1
            try clear p15
            try clear p2
            try clear q15
            obtain ⟨kq, x54_18, rfl, HA, HJ18, HB⟩ := hcut
            cases kq with
            | zero => exact absurd HA.out (by simp [quoinref01_part.j1])
            | succ kj18 =>
             have H := HA.out
             clear HA
             simp only [quoinref01_part.j1] at H
             by_cases c21 : x54_18 = true
             ·subst c21
              have H1 : (if 0 ≤ (wrap64 (a1 + 1)) then (if (wrap64 (a1 + 1)) ≤ (wrap64 (a1 + 2)) then (if (wrap64 (a1 + 2)) ≤ (a0.size : Int) then (some (a0.extract ((wrap64 (a1 + 1)) : Int).toNat ((wrap64 (a1 + 2)) : Int).toNat, 2)) else (none)) else (none)) else (none)) = some (r1, r2) := by rw [if_pos rfl] at H; exact H
              clear H
              have H := H1
              clear H1
              obtain ⟨ji22, hji22⟩ : ∃ j_ : Int, (wrap64 (a1 + 1)) = j_ := ⟨_, rfl⟩
              replace H : (if 0 ≤ (ji22) then (if (ji22) ≤ (wrap64 (a1 + 2)) then (if (wrap64 (a1 + 2)) ≤ (a0.size : Int) then (some (a0.extract ((ji22) : Int).toNat ((wrap64 (a1 + 2)) : Int).toNat, 2)) else (none)) else (none)) else (none)) = some (r1, r2) := by first | (rw [hji22] at H; exact H) | (simp only [hji22] at H ⊢; exact H)
              (try rw [hji22] at c11b0)
              have hji22w : (IntKind.i64.wrap (a1 + 1)) = ji22 := (i64_w _).trans hji22
              obtain rfl : ji12 = ji22 := hji12.symm.trans hji22
              by_cases c23 : 0 ≤ (ji12)
              ·rw [if_pos c23] at H
               have c23b0 := eq_true c23
               have c23b1 : decide (0 ≤ (ji12)) = true := decide_eq_true c23
               clear c23
               by_cases c24 : (ji12) ≤ (wrap64 (a1 + 2))
               ·rw [if_pos c24] at H
                have c24b0 := eq_true c24
                have c24b1 : decide ((ji12) ≤ (wrap64 (a1 + 2))) = true := decide_eq_true c24
                by_cases c25 : (wrap64 (a1 + 2)) ≤ (a0.size : Int)
                ·rw [if_pos c25] at H
                 have c25b0 := eq_true c25
                 have c25b1 : decide ((wrap64 (a1 + 2)) ≤ (a0.size : Int)) = true := decide_eq_true c25
                 simp only [Option.some.injEq, Prod.mk.injEq] at H
                 obtain ⟨rfl, rfl⟩ := H
                 go_wp2
                 go_ret2
                 exact ⟨by first | rfl | (simp [errW_none, errW_some] <;> rfl) | (simp only [← hji12, ← hji22]; first | rfl | (simp [errW_none, errW_some] <;> rfl)) | (simp [*, errW_none, errW_some] <;> rfl), by repeat (first | (with_reducible first | exact HB.out | apply below_alloc | apply pw_below_drewN | apply below_drew1) | exact HB.out)⟩
                ·rw [if_neg c25] at H
                 exact absurd H (by simp)
               ·rw [if_neg c24] at H
                exact absurd H (by simp)
              ·rw [if_neg c23] at H
               exact absurd H (by simp)
             ·replace c21 := Bool.eq_false_iff.mpr c21
              subst c21
              have H1 : (if (bt a0 (ji12)) = 120 then (if (wrap64 (a1 + 3)) < (a0.size : Int) then (if 0 ≤ (wrap64 (a1 + 2)) then (if (wrap64 (a1 + 2)) < (a0.size : Int) then ((quoinref01_digit.f kj18 (bt a0 (wrap64 (a1 + 2)))).bind fun t301 => (if t301 ≥ 0 then (if 0 ≤ (wrap64 (a1 + 3)) then ((quoinref01_digit.f kj18 (bt a0 (wrap64 (a1 + 3)))).bind fun t302 => (quoinref01_part.j2 kj18 a0 a1 (decide (t302 ≥ 0)))) else (none)) else (quoinref01_part.j2 kj18 a0 a1 false))) else (none)) else (none)) else (quoinref01_part.j2 kj18 a0 a1 false)) else (if (bt a0 (ji12)) = 117 then ((quoinref01_number.f kj18 a0 a1).bind fun bt308 => (some (bt308.1, bt308.2))) else (some ((⟨#[]⟩ : ByteArray), 0)))) = some (r1, r2) := by rw [if_neg (show ¬ (false = true) by decide)] at H; exact H
              clear H
              have H := H1
              clear H1
              by_cases c26 : (bt a0 (ji12)) = 120
              ·rw [if_pos c26] at H
               have c26b0 : ((bt a0 (ji12)) == 120) = true := beq_iff_eq.mpr c26
               have c26b1 : ((bt a0 (ji12)) != 120) = false := bne_eq_false_iff_eq.mpr c26
               clear c26
               have HC27 := Aside0.mk H
               clear H
               go_upto_region 19 with (fail)
               go_cut [85] (fun v85 wc => ∃ (kq : Nat) (x85_26 : Bool), v85 = .bool x85_26 ∧ Aside0 (quoinref01_part.j2 kq a0 a1 x85_26 = some (r1, r2)) ∧ Aside0 (kq ≤ kj18) ∧ Aside0 (Below w.heap.size w wc))
               case first =>
                have H := HC27.out
                clear HC27
                by_cases c28 : (wrap64 (a1 + 3)) < (a0.size : Int)
                ·rw [if_pos c28] at H
                 have c28b0 : decide ((wrap64 (a1 + 3)) < (a0.size : Int)) = true := decide_eq_true c28
                 clear c28
                 (first | rw [c28b0] | (simp only [i64_w, i32_w]; rw [c28b0]) | skip)
                 obtain ⟨ji29, hji29⟩ : ∃ j_ : Int, (wrap64 (a1 + 2)) = j_ := ⟨_, rfl⟩
                 replace H : (if 0 ≤ (ji29) then (if (ji29) < (a0.size : Int) then ((quoinref01_digit.f kj18 (bt a0 (ji29))).bind fun t301 => (if t301 ≥ 0 then (if 0 ≤ (wrap64 (a1 + 3)) then ((quoinref01_digit.f kj18 (bt a0 (wrap64 (a1 + 3)))).bind fun t302 => (quoinref01_part.j2 kj18 a0 a1 (decide (t302 ≥ 0)))) else (none)) else (quoinref01_part.j2 kj18 a0 a1 false))) else (none)) else (none)) = some (r1, r2) := by first | (rw [hji29] at H; exact H) | (simp only [hji29] at H ⊢; exact H)
                 have hji29w : (IntKind.i64.wrap (a1 + 2)) = ji29 := (i64_w _).trans hji29
                 by_cases c30 : 0 ≤ (ji29)
                 ·rw [if_pos c30] at H
                  have c30b0 : decide (0 ≤ (ji29)) = true := decide_eq_true c30
                  clear c30
                  by_cases c31 : (ji29) < (a0.size : Int)
                  ·rw [if_pos c31] at H
                   have c31b0 : decide ((ji29) < (a0.size : Int)) = true := decide_eq_true c31
                   clear c31
                   replace H := Option.bind_eq_some_iff.mp H
                   obtain ⟨t301, A330, H⟩ := H
                   replace H : (if t301 ≥ 0 then (if 0 ≤ (wrap64 (a1 + 3)) then ((quoinref01_digit.f kj18 (bt a0 (wrap64 (a1 + 3)))).bind fun t302 => (quoinref01_part.j2 kj18 a0 a1 (decide (t302 ≥ 0)))) else (none)) else (quoinref01_part.j2 kj18 a0 a1 false)) = some (r1, r2) := H
                   have A33 := Aside0.mk A330
                   clear A330
                   by_cases c34 : t301 ≥ 0
                   ·rw [if_pos c34] at H
                    have c34b0 : decide (0 ≤ t301) = true := decide_eq_true c34
                    clear c34
                    obtain ⟨ji35, hji35⟩ : ∃ j_ : Int, (wrap64 (a1 + 3)) = j_ := ⟨_, rfl⟩
                    replace H : (if 0 ≤ (ji35) then ((quoinref01_digit.f kj18 (bt a0 (ji35))).bind fun t302 => (quoinref01_part.j2 kj18 a0 a1 (decide (t302 ≥ 0)))) else (none)) = some (r1, r2) := by first | (rw [hji35] at H; exact H) | (simp only [hji35] at H ⊢; exact H)
                    (try rw [hji35] at c28b0)
                    (try rw [hji35] at A33)
                    have hji35w : (IntKind.i64.wrap (a1 + 3)) = ji35 := (i64_w _).trans hji35
                    by_cases c36 : 0 ≤ (ji35)
                    ·rw [if_pos c36] at H
                     have c36b0 : decide (0 ≤ (ji35)) = true := decide_eq_true c36
                     clear c36
                     replace H := Option.bind_eq_some_iff.mp H
                     obtain ⟨t302, A380, H⟩ := H
                     replace H : (quoinref01_part.j2 kj18 a0 a1 (decide (t302 ≥ 0))) = some (r1, r2) := H
                     have A38 := Aside0.mk A380
                     clear A380
                     have H' := Aside0.mk H
                     clear H
                     have p32 : 0 ≤ ((ji29) : Int) := of_decide_eq_true (by first | (with_reducible assumption) | assumption)
                     have q32 : (ji29) < (a0.size : Int) := of_decide_eq_true (by first | (with_reducible assumption) | assumption)
                     have hx32 := bt_at a0 (ji29)
                     replace p32 := eq_true p32
                     replace q32 := eq_true q32
                     go_wp2_with (first | (go_at_call 49; (with_reducible refine (quoinref01_digit.calls kj18 (bt a0 (ji29)) t301 _ A33.out).mono ?_); rintro e w' ⟨rfl, ⟨nd, rfl⟩⟩; have p37 : 0 ≤ ((ji35) : Int) := of_decide_eq_true (by first | (with_reducible assumption) | assumption); have q37 : (ji35) < (a0.size : Int) := of_decide_eq_true (by first | (with_reducible assumption) | assumption); have hx37 := bt_at a0 (ji35); replace p37 := eq_true p37; replace q37 := eq_true q37) | (go_at_call 49; (with_reducible refine (quoinref01_digit.calls kj18 (bt a0 (ji35)) t302 _ A38.out).mono ?_); rintro e w' ⟨rfl, ⟨nd, rfl⟩⟩))
                     go_meet
                     case rel => exact ⟨_, (decide (t302 ≥ 0)), (by first | rfl | (simp; done) | (simp [*]; done)), H', ⟨by have := HJ3.out; have := HJ18.out; first | omega | exact Nat.le_refl _⟩, ⟨by repeat (first | (with_reducible first | exact HB.out | apply below_alloc | apply pw_below_drewN | apply below_drew1) | exact HB.out)⟩⟩
                    ·rw [if_neg c36] at H
                     exact absurd H (by simp)
                   ·rw [if_neg c34] at H
                    have c34b0 : decide (0 ≤ t301) = false := decide_eq_false c34
                    clear c34
                    have H' := Aside0.mk H
                    clear H
                    have p32 : 0 ≤ ((ji29) : Int) := of_decide_eq_true (by first | (with_reducible assumption) | assumption)
                    have q32 : (ji29) < (a0.size : Int) := of_decide_eq_true (by first | (with_reducible assumption) | assumption)
                    have hx32 := bt_at a0 (ji29)
                    replace p32 := eq_true p32
                    replace q32 := eq_true q32
                    go_wp2_with (first | (go_at_call 49; (with_reducible refine (quoinref01_digit.calls kj18 (bt a0 (ji29)) t301 _ A33.out).mono ?_); rintro e w' ⟨rfl, ⟨nd, rfl⟩⟩))
                    go_meet
                    case rel => exact ⟨_, (false), (by first | rfl | (simp; done) | (simp [*]; done)), H', ⟨by have := HJ3.out; have := HJ18.out; first | omega | exact Nat.le_refl _⟩, ⟨by repeat (first | (with_reducible first | exact HB.out | apply below_alloc | apply pw_below_drewN | apply below_drew1) | exact HB.out)⟩⟩
                  ·rw [if_neg c31] at H
                   exact absurd H (by simp)
                 ·rw [if_neg c30] at H
                  exact absurd H (by simp)
                ·rw [if_neg c28] at H
                 have c28b0 : decide ((wrap64 (a1 + 3)) < (a0.size : Int)) = false := decide_eq_false c28
                 clear c28
                 (first | rw [c28b0] | (simp only [i64_w, i32_w]; rw [c28b0]) | skip)
                 have H' := Aside0.mk H
                 clear H
                 go_wp2
                 go_meet
                 case rel => exact ⟨_, (false), (by first | rfl | (simp; done) | (simp [*]; done)), H', ⟨by have := HJ3.out; have := HJ18.out; first | omega | exact Nat.le_refl _⟩, ⟨by repeat (first | (with_reducible first | exact HB.out | apply below_alloc | apply pw_below_drewN | apply below_drew1) | exact HB.out)⟩⟩
               case rest =>
                clear HC27
                try clear c1
                try clear p1
                try clear q1
                try clear hx1
                try clear c2
                try clear p2
                try clear c3
                try clear p3
                try clear q3
                try clear hx3
                try clear c4
                try clear c6
                try clear p6
                try clear c7
                try clear c7b0
                try clear c8
                try clear c8b0
                try clear c8b1
                try clear c9
                try clear c10
                try clear c10b0
                try clear c10b1
                try clear c11
                try clear c11b0
                try clear c13
                try clear c13b0
                try clear c14
                try clear c14b0
                try clear p15
                try clear q15
                try clear hx15
                try clear c16
                try clear c16b0
                try clear c16b1
                try clear c17
                try clear c17b0
                try clear c17b1
                try clear c18
                try clear c18b0
                try clear c18b1
                try clear c20
                try clear c20b0
                try clear c20b1
                try clear c21
                try clear c23
                try clear c23b0
                try clear c23b1
                try clear c24
                try clear c24b0
                try clear c24b1
                try clear c25
                try clear c25b0
                try clear c25b1
                try clear c26
                try clear c26b0
                try clear c26b1
                try clear c28
                try clear c28b0
                try clear c30
                try clear c30b0
                try clear c31
                try clear c31b0
                try clear p32
                try clear q32
                try clear hx32
                try clear c34
                try clear c34b0
                try clear c36
                try clear c36b0
                try clear p37
                try clear q37
                try clear hx37
                try clear p1
                try clear p15
                try clear p2
                try clear p32
                try clear p37
                try clear p6
                try clear q1
                try clear q15
                try clear q32
                try clear q37
                obtain ⟨kq, x85_26, rfl, HA, HJ26, HB⟩ := hcut
                cases kq with
                | zero => exact absurd HA.out (by simp [quoinref01_part.j2])
                | succ kj26 =>
                 have H := HA.out
                 clear HA
                 simp only [quoinref01_part.j2] at H
                 by_cases c39 : x85_26 = true
                 ·subst c39
                  have H1 : (if 0 ≤ (wrap64 (a1 + 2)) then (if (wrap64 (a1 + 2)) < (a0.size : Int) then ((quoinref01_digit.f kj26 (bt a0 (wrap64 (a1 + 2)))).bind fun t303 => (if 0 ≤ (wrap64 (a1 + 3)) then (if (wrap64 (a1 + 3)) < (a0.size : Int) then ((quoinref01_digit.f kj26 (bt a0 (wrap64 (a1 + 3)))).bind fun t304 => (some (strOfNums (([(wrap64 ((wrap64 (16 * t303)) + t304)) % 256] : List Int)), 4))) else (none)) else (none))) else (none)) else (none)) = some (r1, r2) := by rw [if_pos rfl] at H; exact H
                  clear H
                  have H := H1
                  clear H1
                  obtain ⟨ji40, hji40⟩ : ∃ j_ : Int, (wrap64 (a1 + 2)) = j_ := ⟨_, rfl⟩
                  replace H : (if 0 ≤ (ji40) then (if (ji40) < (a0.size : Int) then ((quoinref01_digit.f kj26 (bt a0 (ji40))).bind fun t303 => (if 0 ≤ (wrap64 (a1 + 3)) then (if (wrap64 (a1 + 3)) < (a0.size : Int) then ((quoinref01_digit.f kj26 (bt a0 (wrap64 (a1 + 3)))).bind fun t304 => (some (strOfNums (([(wrap64 ((wrap64 (16 * t303)) + t304)) % 256] : List Int)), 4))) else (none)) else (none))) else (none)) else (none)) = some (r1, r2) := by first | (rw [hji40] at H; exact H) | (simp only [hji40] at H ⊢; exact H)
                  have hji40w : (IntKind.i64.wrap (a1 + 2)) = ji40 := (i64_w _).trans hji40
                  by_cases c41 : 0 ≤ (ji40)
                  ·rw [if_pos c41] at H
                   have c41b0 : decide (0 ≤ (ji40)) = true := decide_eq_true c41
                   clear c41
                   by_cases c42 : (ji40) < (a0.size : Int)
                   ·rw [if_pos c42] at H
                    have c42b0 : decide ((ji40) < (a0.size : Int)) = true := decide_eq_true c42
                    clear c42
                    replace H := Option.bind_eq_some_iff.mp H
                    obtain ⟨t303, A440, H⟩ := H
                    replace H : (if 0 ≤ (wrap64 (a1 + 3)) then (if (wrap64 (a1 + 3)) < (a0.size : Int) then ((quoinref01_digit.f kj26 (bt a0 (wrap64 (a1 + 3)))).bind fun t304 => (some (strOfNums (([(wrap64 ((wrap64 (16 * t303)) + t304)) % 256] : List Int)), 4))) else (none)) else (none)) = some (r1, r2) := H
                    have A44 := Aside0.mk A440
                    clear A440
                    obtain ⟨ji45, hji45⟩ : ∃ j_ : Int, (wrap64 (a1 + 3)) = j_ := ⟨_, rfl⟩
                    replace H : (if 0 ≤ (ji45) then (if (ji45) < (a0.size : Int) then ((quoinref01_digit.f kj26 (bt a0 (ji45))).bind fun t304 => (some (strOfNums (([(wrap64 ((wrap64 (16 * t303)) + t304)) % 256] : List Int)), 4))) else (none)) else (none)) = some (r1, r2) := by first | (rw [hji45] at H; exact H) | (simp only [hji45] at H ⊢; exact H)
                    (try rw [hji45] at A44)
                    have hji45w : (IntKind.i64.wrap (a1 + 3)) = ji45 := (i64_w _).trans hji45
                    by_cases c46 : 0 ≤ (ji45)
                    ·rw [if_pos c46] at H
                     have c46b0 : decide (0 ≤ (ji45)) = true := decide_eq_true c46
                     clear c46
                     by_cases c47 : (ji45) < (a0.size : Int)
                     ·rw [if_pos c47] at H
                      have c47b0 : decide ((ji45) < (a0.size : Int)) = true := decide_eq_true c47
                      clear c47
                      replace H := Option.bind_eq_some_iff.mp H
                      obtain ⟨t304, A490, H⟩ := H
                      replace H : (some (strOfNums (([(wrap64 ((wrap64 (16 * t303)) + t304)) % 256] : List Int)), 4)) = some (r1, r2) := H
                      have A49 := Aside0.mk A490
                      clear A490
                      obtain ⟨y305, hy305⟩ : ∃ y_ : List Int, y_ = (([(wrap64 ((wrap64 (16 * t303)) + t304)) % 256] : List Int)) := ⟨_, rfl⟩
                      replace H : (some (strOfNums y305, 4)) = some (r1, r2) := by first | (rw [hy305]; with_reducible exact H) | (have H2_ := (Option.bind_some _ _).symm.trans H; rw [hy305]; with_reducible exact H2_) | (have H2_ := (Option.bind_some _ _).symm.trans H; with_reducible exact H2_) | with_reducible exact H | (rw [hy305]; exact H) | exact H
                      have Ny305 := Aside0.mk hy305
                      clear hy305
                      simp only [Option.some.injEq, Prod.mk.injEq] at H
                      obtain ⟨rfl, rfl⟩ := H
                      try go_wp2
                      have n0_ := Aside0.mk (below_drew1 HB.out)
                      clear HB
                      have HB := n0_
                      clear n0_
                      have p43 : 0 ≤ ((ji40) : Int) := of_decide_eq_true (by first | (with_reducible assumption) | assumption)
                      have q43 : (ji40) < (a0.size : Int) := of_decide_eq_true (by first | (with_reducible assumption) | assumption)
                      have hx43 := bt_at a0 (ji40)
                      replace p43 := eq_true p43
                      replace q43 := eq_true q43
                      have p48 : 0 ≤ ((ji45) : Int) := of_decide_eq_true (by first | (with_reducible assumption) | assumption)
                      have q48 : (ji45) < (a0.size : Int) := of_decide_eq_true (by first | (with_reducible assumption) | assumption)
                      have hx48 := bt_at a0 (ji45)
                      replace p48 := eq_true p48
                      replace q48 := eq_true q48
                      refine start_ (n := 17) (S := fun w' => True) (ds := []) #[false, false, false, false, false, false, false, false, false, false, false, false, false, false, false, false, false] (by kernel_rfl) rfl rfl trivial (fun hHeld => ?_); refine with_tabW quoinref01_part.tab20 quoinref01_part.bits20 (fun HT_ HW_ => ?_)
                      generalize wc.drew = w50 at HB hHeld ⊢
                      refine pure_ (i := 0) (N := some 86) (v := ?_) (a' := ?_) #[true, false, false, false, false, false, false, false, false, false, false, false, false, false, false, false, false] rfl rfl (any_of HT_.out (by kernel_rfl)) (fun _ _ _ h => h) (Or.inl ⟨by rfl, ?_⟩) ?_ ?_
                      rotate_left
                      ·intro w'
                       go_simp
                       with_reducible rfl
                      rotate_left
                      ·simp only [Act.put, List.setIfInBounds_toArray, List.set_cons_zero, List.set_cons_succ, i64_w, i32_w]
                       rfl
                      refine pure_ (i := 1) (N := some 87) (v := ?_) (a' := ?_) #[true, true, false, false, false, false, false, false, false, false, false, false, false, false, false, false, false] rfl rfl (any_of HT_.out (by kernel_rfl)) (fun _ _ _ h => h) (Or.inl ⟨by rfl, ?_⟩) ?_ ?_
                      rotate_left
                      ·intro w'
                       go_simp
                       with_reducible rfl
                      rotate_left
                      ·simp only [Act.put, List.setIfInBounds_toArray, List.set_cons_zero, List.set_cons_succ, i64_w, i32_w]
                       rfl
                      refine pure_ (i := 2) (N := some 88) (v := ?_) (a' := ?_) #[true, true, true, false, false, false, false, false, false, false, false, false, false, false, false, false, false] rfl rfl (any_of HT_.out (by kernel_rfl)) (fun _ _ _ h => h) (Or.inl ⟨by rfl, ?_⟩) ?_ ?_
                      rotate_left
                      ·intro w'
                       go_simp
                       with_reducible rfl
                      rotate_left
                      ·simp only [Act.put, List.setIfInBounds_toArray, List.set_cons_zero, List.set_cons_succ, i64_w, i32_w]
                       rfl
                      refine pure_ (i := 6) (N := some 92) (v := ?_) (a' := ?_) #[true, true, true, false, false, false, true, false, false, false, false, false, false, false, false, false, false] rfl rfl (any_of HT_.out (by kernel_rfl)) (fun _ _ _ h => h) (Or.inl ⟨by rfl, ?_⟩) ?_ ?_
                      rotate_left
                      ·intro w'
                       go_simp
                       with_reducible rfl
                      rotate_left
                      ·simp only [Act.put, List.setIfInBounds_toArray, List.set_cons_zero, List.set_cons_succ, i64_w, i32_w]
                       rfl
                      refine pure_ (i := 7) (N := some 93) (v := ?_) (a' := ?_) #[true, true, true, false, false, false, true, true, false, false, false, false, false, false, false, false, false] rfl rfl (any_of HT_.out (by kernel_rfl)) (fun _ _ _ h => h) (Or.inl ⟨by rfl, ?_⟩) ?_ ?_
                      rotate_left
                      ·intro w'
                       go_simp
                       with_reducible rfl
                      rotate_left
                      ·simp only [Act.put, List.setIfInBounds_toArray, List.set_cons_zero, List.set_cons_succ, i64_w, i32_w]
                       rfl
                      refine pure_ (i := 8) (N := some 94) (v := ?_) (a' := ?_) #[true, true, true, false, false, false, true, true, true, false, false, false, false, false, false, false, false] rfl rfl (any_of HT_.out (by kernel_rfl)) (fun _ _ _ h => h) (Or.inl ⟨by rfl, ?_⟩) ?_ ?_
                      rotate_left
                      ·intro w'
                       go_simp
                       with_reducible rfl
                      rotate_left
                      ·simp only [Act.put, List.setIfInBounds_toArray, List.set_cons_zero, List.set_cons_succ, i64_w, i32_w]
                       rfl
                      refine take_ (i := 3) (N := some 89) (v := ?_) (a' := ?_) #[true, true, true, true, false, false, true, true, true, false, false, false, false, false, false, false, false] rfl rfl (take_ofW HT_.out HW_.out (by kernel_rfl)) (fun _ _ _ h => h) (Or.inl ⟨by rfl, ?_⟩) hHeld ?_ ?_
                      rotate_left
                      ·intro w' _
                       go_simp
                       with_reducible rfl
                      rotate_left
                      ·simp only [Act.put, List.setIfInBounds_toArray, List.set_cons_zero, List.set_cons_succ, i64_w, i32_w]
                       rfl
                      refine take_ (i := 9) (N := some 95) (v := ?_) (a' := ?_) #[true, true, true, true, false, false, true, true, true, true, false, false, false, false, false, false, false] rfl rfl (take_ofW HT_.out HW_.out (by kernel_rfl)) (fun _ _ _ h => h) (Or.inl ⟨by rfl, ?_⟩) hHeld ?_ ?_
                      rotate_left
                      ·intro w' _
                       go_simp
                       with_reducible rfl
                      rotate_left
                      ·simp only [Act.put, List.setIfInBounds_toArray, List.set_cons_zero, List.set_cons_succ, i64_w, i32_w]
                       rfl
                      refine one_ (i := 4) (N := some 90) #[true, true, true, true, true, false, true, true, true, true, false, false, false, false, false, false, false] rfl rfl (one_of HT_.out (by kernel_rfl)) (by decide) (fun K hK => ?_)
                      refine goes_ Try.func49 (by kernel_rfl) rfl #[.int .u8 (bt a0 (ji40))] (by rfl) rfl rfl (by (try simp only [List.map_toArray, List.map_cons, List.map_nil]); first | done | (simp only [hji40]; rfl) | rfl | (simp only [List.length_drop, List.length_take]; rfl)) ?_
                      with_reducible refine (quoinref01_digit.calls kj26 (bt a0 (ji40)) t303 _ A44.out).mono ?_
                      rintro e w' ⟨rfl, ⟨nd, rfl⟩⟩
                      refine ⟨_, rfl, ?_⟩
                      refine hK.out _ _ trivial (fun hHeld => ?_)
                      clear hK K
                      refine norm_ (a' := ?_) ?_ ?_
                      rotate_left
                      ·show Act.put _ (some 90) _ = _
                       simp only [Act.put, List.setIfInBounds_toArray, List.set_cons_zero, List.set_cons_succ, i64_w, i32_w]
                       rfl
                      refine pure_ (i := 5) (N := some 91) (v := ?_) (a' := ?_) #[true, true, true, true, true, true, true, true, true, true, false, false, false, false, false, false, false] rfl rfl (any_of HT_.out (by kernel_rfl)) (fun _ _ _ h => h) (Or.inl ⟨by rfl, ?_⟩) ?_ ?_
                      rotate_left
                      ·intro w'
                       go_simp
                       with_reducible rfl
                      rotate_left
                      ·simp only [Act.put, List.setIfInBounds_toArray, List.set_cons_zero, List.set_cons_succ, i64_w, i32_w]
                       rfl
                      refine one_ (i := 10) (N := some 96) #[true, true, true, true, true, true, true, true, true, true, true, false, false, false, false, false, false] rfl rfl (one_of HT_.out (by kernel_rfl)) (by decide) (fun K hK => ?_)
                      refine goes_ Try.func49 (by kernel_rfl) rfl #[.int .u8 (bt a0 (ji45))] (by rfl) rfl rfl (by (try simp only [List.map_toArray, List.map_cons, List.map_nil]); first | done | (simp only [hji45]; rfl) | rfl | (simp only [List.length_drop, List.length_take]; rfl)) ?_
                      with_reducible refine (quoinref01_digit.calls kj26 (bt a0 (ji45)) t304 _ A49.out).mono ?_
                      rintro e w' ⟨rfl, ⟨nd, rfl⟩⟩
                      refine ⟨_, rfl, ?_⟩
                      refine hK.out _ _ trivial (fun hHeld => ?_)
                      clear hK K
                      refine norm_ (a' := ?_) ?_ ?_
                      rotate_left
                      ·show Act.put _ (some 96) _ = _
                       simp only [Act.put, List.setIfInBounds_toArray, List.set_cons_zero, List.set_cons_succ, i64_w, i32_w]
                       rfl
                      refine pure_ (i := 11) (N := some 97) (v := ?_) (a' := ?_) #[true, true, true, true, true, true, true, true, true, true, true, true, false, false, false, false, false] rfl rfl (any_of HT_.out (by kernel_rfl)) (fun _ _ _ h => h) (Or.inl ⟨by rfl, ?_⟩) ?_ ?_
                      rotate_left
                      ·intro w'
                       go_simp
                       with_reducible rfl
                      rotate_left
                      ·simp only [Act.put, List.setIfInBounds_toArray, List.set_cons_zero, List.set_cons_succ, i64_w, i32_w]
                       rfl
                      refine pure_ (i := 12) (N := some 98) (v := ?_) (a' := ?_) #[true, true, true, true, true, true, true, true, true, true, true, true, true, false, false, false, false] rfl rfl (any_of HT_.out (by kernel_rfl)) (fun _ _ _ h => h) (Or.inl ⟨by rfl, ?_⟩) ?_ ?_
                      rotate_left
                      ·intro w'
                       go_simp
                       with_reducible rfl
                      rotate_left
                      ·simp only [Act.put, List.setIfInBounds_toArray, List.set_cons_zero, List.set_cons_succ, i64_w, i32_w]
                       rfl
                      refine one_ (i := 13) (N := some 99) #[true, true, true, true, true, true, true, true, true, true, true, true, true, true, false, false, false] rfl rfl (one_of HT_.out (by kernel_rfl)) (by decide) (fun K hK => ?_)
                      refine Kd.R_lit_step (Kd.int .u8) _ 5 ?hg (N := 99) ?hd (xs := ([(wrap64 ((wrap64 (16 * t303)) + t304)) % 256] : List Int)) (inner := [.int .u8 ((wrap64 ((wrap64 (16 * t303)) + t304)) % 256)]) (ok := fun _ => True) (okp := fun _ => True) ?hr ?hp (fun _ hk => hk) trivial (Below.refl _ _) (Nat.le_refl _) (by simp) ?_; (case hd => rfl); (case hg => rfl); (case hr => first | (go_simp; done) | (go_simp; rfl)); (case hp => exact (Reps.one (show Kd.M (Kd.int .u8) _ _ _ ((wrap64 ((wrap64 (16 * t303)) + t304)) % 256) [.int .u8 ((wrap64 ((wrap64 (16 * t303)) + t304)) % 256)] from rfl) (Reps.none _ _)))
                      intro v306 w51 ho52 hb hg_ hnew_
                      clear hg_ hnew_
                      (first | rw [← Ny305.out] at ho52 | (simp only [Int.reduceToNat] at ho52; rw [← Ny305.out] at ho52))
                      have n0_ := Aside0.mk (Kd.R_lower ho52 (below_size (by repeat (first | (with_reducible first | exact HB.out | apply below_alloc | apply pw_below_drewN | apply below_drew1) | exact HB.out))))
                      have n1_ := Aside0.mk (below_step (by repeat (first | (with_reducible first | exact HB.out | apply below_alloc | apply pw_below_drewN | apply below_drew1) | exact HB.out)) hb)
                      clear HB
                      have HO307 := n0_
                      have HB := n1_
                      clear n0_ n1_
                      clear hb ho52
                      refine hK.out _ _ trivial (fun hHeld => ?_)
                      clear hK K
                      refine norm_ (a' := ?_) ?_ ?_
                      rotate_left
                      ·show Act.put _ (some 99) _ = _
                       simp only [Act.put, List.setIfInBounds_toArray, List.set_cons_zero, List.set_cons_succ, i64_w, i32_w]
                       rfl
                      refine one_ (i := 14) (N := some 100) #[true, true, true, true, true, true, true, true, true, true, true, true, true, true, true, false, false] rfl rfl (one_of HT_.out (by kernel_rfl)) (by decide) (fun K hK => ?_)
                      have hcv53 := own_string (P := Try.prog) Try.underlying65 Try.underlying5 Try.underlying9 (Kd.own_of_R HO307.out)
                      refine value_ (w1 := ?_) (v := ?_) (by rfl) rfl ?_ ?_
                      rotate_left 2
                      ·go_simp
                       constructor
                       ·rfl
                       ·rfl
                      clear hcv53
                      refine hK.out _ _ trivial (fun hHeld => ?_)
                      clear hK K
                      refine norm_ (a' := ?_) ?_ ?_
                      rotate_left
                      ·show Act.put _ (some 100) _ = _
                       simp only [Act.put, List.setIfInBounds_toArray, List.set_cons_zero, List.set_cons_succ, i64_w, i32_w]
                       rfl
                      refine pure_ (i := 15) (N := some 4) (v := ?_) (a' := ?_) #[true, true, true, true, true, true, true, true, true, true, true, true, true, true, true, true, false] rfl rfl (any_of HT_.out (by kernel_rfl)) (fun _ _ _ h => h) (Or.inl ⟨by rfl, ?_⟩) ?_ ?_
                      rotate_left
                      ·intro w'
                       go_simp
                       with_reducible rfl
                      rotate_left
                      ·simp only [Act.put, List.setIfInBounds_toArray, List.set_cons_zero, List.set_cons_succ, i64_w, i32_w]
                       rfl
                      refine pure_ (i := 16) (N := some 5) (v := ?_) (a' := ?_) #[true, true, true, true, true, true, true, true, true, true, true, true, true, true, true, true, true] rfl rfl (any_of HT_.out (by kernel_rfl)) (fun _ _ _ h => h) (Or.inl ⟨by rfl, ?_⟩) ?_ ?_
                      rotate_left
                      ·intro w'
                       go_simp
                       with_reducible rfl
                      rotate_left
                      ·simp only [Act.put, List.setIfInBounds_toArray, List.set_cons_zero, List.set_cons_succ, i64_w, i32_w]
                       rfl
                      refine done_ (done_of HT_.out (by kernel_rfl)) ?_
                      try go_wp2
                      go_ret2
                      exact ⟨by first | rfl | (simp [errW_none, errW_some] <;> rfl) | (simp only [← hji12, ← hji40, ← hji45]; first | rfl | (simp [errW_none, errW_some] <;> rfl)) | (simp [*, errW_none, errW_some] <;> rfl), by repeat (first | (with_reducible first | exact HB.out | apply below_alloc | apply pw_below_drewN | apply below_drew1) | exact HB.out)⟩
                     ·rw [if_neg c47] at H
                      exact absurd H (by simp)
                    ·rw [if_neg c46] at H
                     exact absurd H (by simp)
                   ·rw [if_neg c42] at H
                    exact absurd H (by simp)
                  ·rw [if_neg c41] at H
                   exact absurd H (by simp)
                 ·replace c39 := Bool.eq_false_iff.mpr c39
                  subst c39
                  have H1 : (some ((⟨#[]⟩ : ByteArray), 0)) = some (r1, r2) := by rw [if_neg (show ¬ (false = true) by decide)] at H; exact H
                  clear H
                  have H := H1
                  clear H1
                  simp only [Option.some.injEq, Prod.mk.injEq] at H
                  obtain ⟨rfl, rfl⟩ := H
                  go_wp2
                  go_ret2
                  exact ⟨by first | rfl | (simp [errW_none, errW_some] <;> rfl) | (simp only [← hji12]; first | rfl | (simp [errW_none, errW_some] <;> rfl)) | (simp [*, errW_none, errW_some] <;> rfl), by repeat (first | (with_reducible first | exact HB.out | apply below_alloc | apply pw_below_drewN | apply below_drew1) | exact HB.out)⟩
              ·rw [if_neg c26] at H
               have c26b0 : ((bt a0 (ji12)) == 120) = false := beq_eq_false_iff_ne.mpr c26
               have c26b1 : ((bt a0 (ji12)) != 120) = true := bne_iff_ne.mpr c26
               by_cases c54 : (bt a0 (ji12)) = 117
               ·rw [if_pos c54] at H
                have c54b0 : ((bt a0 (ji12)) == 117) = true := beq_iff_eq.mpr c54
                have c54b1 : ((bt a0 (ji12)) != 117) = false := bne_eq_false_iff_eq.mpr c54
                clear c54
                replace H := Option.bind_eq_some_iff.mp H
                obtain ⟨⟨t308, t309⟩, A550, H⟩ := H
                replace H : (some (t308, t309)) = some (r1, r2) := H
                have A55 := Aside0.mk A550
                clear A550
                simp only [Option.some.injEq, Prod.mk.injEq] at H
                obtain ⟨rfl, rfl⟩ := H
                go_wp2_with (first | ((with_reducible refine gate_callee (f := 50) rfl ?_); refine goesL_ (some 105) rfl rfl Try.func50 (by kernel_rfl) rfl #[.string a0, .int .i64 a1] rfl (by (try simp only [List.map_toArray, List.map_cons, List.map_nil]); first | done | rfl | (simp only [List.length_drop, List.length_take]; rfl)) ?_; (with_reducible refine (quoinref01_number.calls kj18 a0 a1 t308 t309 _ A55.out).mono ?_); rintro e w56 ⟨rfl, hb⟩; refine ⟨_, rfl, ?_⟩; have n0_ := Aside0.mk (below_step (by repeat (first | (with_reducible first | exact HB.out | apply below_alloc | apply pw_below_drewN | apply below_drew1) | exact HB.out)) hb); clear HB; have HB := n0_; clear n0_; (try clear hb); (try clear hb2); (try clear hk); (try clear hi)))
                go_ret2
                exact ⟨by first | rfl | (simp [errW_none, errW_some] <;> rfl) | (simp only [← hji12]; first | rfl | (simp [errW_none, errW_some] <;> rfl)) | (simp [*, errW_none, errW_some] <;> rfl), by repeat (first | (with_reducible first | exact HB.out | apply below_alloc | apply pw_below_drewN | apply below_drew1) | exact HB.out)⟩
               ·rw [if_neg c54] at H
                have c54b0 : ((bt a0 (ji12)) == 117) = false := beq_eq_false_iff_ne.mpr c54
                have c54b1 : ((bt a0 (ji12)) != 117) = true := bne_iff_ne.mpr c54
                simp only [Option.some.injEq, Prod.mk.injEq] at H
                obtain ⟨rfl, rfl⟩ := H
                go_wp2
                go_ret2
                exact ⟨by first | rfl | (simp [errW_none, errW_some] <;> rfl) | (simp only [← hji12]; first | rfl | (simp [errW_none, errW_some] <;> rfl)) | (simp [*, errW_none, errW_some] <;> rfl), by repeat (first | (with_reducible first | exact HB.out | apply below_alloc | apply pw_below_drewN | apply below_drew1) | exact HB.out)⟩
       ·rw [if_neg c14] at H
        exact absurd H (by simp)
      ·rw [if_neg c13] at H
       exact absurd H (by simp)
    ·rw [if_neg c10] at H
     have c10b0 : (t298 == 92) = false := beq_eq_false_iff_ne.mpr c10
     have c10b1 : (t298 != 92) = true := bne_iff_ne.mpr c10
     by_cases c57 : 0 ≤ a1
     ·rw [if_pos c57] at H
      have c57b0 := eq_true c57
      have c57b1 : decide (0 ≤ a1) = true := decide_eq_true c57
      clear c57
      by_cases c58 : a1 ≤ (wrap64 (a1 + t299))
      ·rw [if_pos c58] at H
       have c58b0 := eq_true c58
       have c58b1 : decide (a1 ≤ (wrap64 (a1 + t299))) = true := decide_eq_true c58
       by_cases c59 : (wrap64 (a1 + t299)) ≤ (a0.size : Int)
       ·rw [if_pos c59] at H
        have c59b0 := eq_true c59
        have c59b1 : decide ((wrap64 (a1 + t299)) ≤ (a0.size : Int)) = true := decide_eq_true c59
        simp only [Option.some.injEq, Prod.mk.injEq] at H
        obtain ⟨rfl, rfl⟩ := H
        go_wp2
        go_ret2
        exact ⟨by first | rfl | (simp [errW_none, errW_some] <;> rfl) | (simp [*, errW_none, errW_some] <;> rfl), by repeat (first | (with_reducible first | exact HB.out | apply below_alloc | apply pw_below_drewN | apply below_drew1) | exact HB.out)⟩
       ·rw [if_neg c59] at H
        exact absurd H (by simp)
      ·rw [if_neg c58] at H
       exact absurd H (by simp)
     ·rw [if_neg c57] at H
      exact absurd H (by simp)

end Go.Proofs.Ythiiigbifimckaa.Pt
