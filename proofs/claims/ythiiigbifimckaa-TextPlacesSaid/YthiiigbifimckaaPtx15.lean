/- Functions of the program as plain Lean functions, each with the proof that its call comes to the same answer, and the row of the statement: written by a program of this session out of the translation. No condition beyond those in the texts. -/
import Derived.Test.YthiiigbifimckaaPtx0
import Derived.Test.YthiiigbifimckaaPtx5
namespace Go.Proofs.Ythiiigbifimckaa.Pt
open Go.RowKit Go.Proofs.YthiiigbifimckaaW.PrintWords Go.Proofs.YthiiigbifimckaaW.PrintLast Go.Proofs.YthiiigbifimckaaW.PrintMore
attribute [local go_sem] max2_int min2_int max_two min_two max_three min_three max_four min_four   -- for this text's walks alone
set_option linter.unusedVariables false
set_option linter.unusedSimpArgs false

/-! ### quoinref01_At: function 30 -/
mutual
def quoinref01_At.j0 : Nat → ByteArray → Int → Bool → Option (Int × Int × Int)
  | 0, _, _, _ => none
  | k + 1, x0, x1, x22 => if x22 = true then (some (0, 0, 13)) else (quoinref01_At.l0 k x0 x1 1 0 0)
def quoinref01_At.l0 : Nat → ByteArray → Int → Int → Int → Int → Option (Int × Int × Int)
  | 0, _, _, _, _, _ => none
  | k + 1, x0, x1, x7, x8, x9 => if x9 < x1 then (if 0 ≤ x9 then (if x9 < (x0.size : Int) then (if (bt x0 x9) = 10 then (quoinref01_At.l0 k x0 x1 (wrap64 (x7 + 1)) (wrap64 (x9 + 1)) (wrap64 (x9 + 1))) else (quoinref01_At.l0 k x0 x1 x7 x8 (wrap64 (x9 + 1)))) else (none)) else (none)) else (quoinref01_At.l1 k x0 x1 x7 1 x8)
def quoinref01_At.l1 : Nat → ByteArray → Int → Int → Int → Int → Option (Int × Int × Int)
  | 0, _, _, _, _, _ => none
  | k + 1, x0, x1, x7, x10, x11 => if x11 < x1 then ((quoinref01_Next.f k x0 x11).bind fun bt349 => (quoinref01_At.l1 k x0 x1 x7 (wrap64 (x10 + 1)) (wrap64 (x11 + bt349.2.1)))) else (some (x7, x10, 0))
end
def quoinref01_At.f (k : Nat) (a0 : ByteArray) (a1 : Int) : Option (Int × Int × Int) := if a1 < 0 then (quoinref01_At.j0 k a0 a1 true) else (quoinref01_At.j0 k a0 a1 (decide (a1 > (a0.size : Int))))
theorem quoinref01_At.mono_l : ∀ k, (∀ y0 y1 y2, LeO (quoinref01_At.j0 k y0 y1 y2) (quoinref01_At.j0 (k + 1) y0 y1 y2)) ∧ (∀ y0 y1 y2 y3 y4, LeO (quoinref01_At.l0 k y0 y1 y2 y3 y4) (quoinref01_At.l0 (k + 1) y0 y1 y2 y3 y4)) ∧ (∀ y0 y1 y2 y3 y4, LeO (quoinref01_At.l1 k y0 y1 y2 y3 y4) (quoinref01_At.l1 (k + 1) y0 y1 y2 y3 y4))
  | 0 => ⟨fun _ _ _ r h => by simp [quoinref01_At.j0] at h, fun _ _ _ _ _ r h => by simp [quoinref01_At.l0] at h, fun _ _ _ _ _ r h => by simp [quoinref01_At.l1] at h⟩
  | k + 1 => by
    obtain ⟨ih0, ih1, ih2⟩ := quoinref01_At.mono_l k
    refine ⟨?_, ?_, ?_⟩
    · intro y0 y1 y2
      unfold quoinref01_At.j0
      repeat' first
      | (with_reducible exact ih0 _ _ _)
      | (with_reducible exact ih1 _ _ _ _ _)
      | (with_reducible exact ih2 _ _ _ _ _)
      | (with_reducible exact quoinref01_Next.mono _ _ _)
      | (with_reducible exact LeO.refl _)
      | (with_reducible exact LeO.none _)
      | (with_reducible refine LeO.ite ?_ ?_)
      | (with_reducible refine LeO.bind ?_ (fun _ => ?_))
      | exact ih0 _ _ _
      | exact ih1 _ _ _ _ _
      | exact ih2 _ _ _ _ _
      | exact quoinref01_Next.mono _ _ _
      | exact LeO.none _
      | refine LeO.ite ?_ ?_
      | refine LeO.bind ?_ (fun _ => ?_)
    · intro y0 y1 y2 y3 y4
      unfold quoinref01_At.l0
      repeat' first
      | (with_reducible exact ih0 _ _ _)
      | (with_reducible exact ih1 _ _ _ _ _)
      | (with_reducible exact ih2 _ _ _ _ _)
      | (with_reducible exact quoinref01_Next.mono _ _ _)
      | (with_reducible exact LeO.refl _)
      | (with_reducible exact LeO.none _)
      | (with_reducible refine LeO.ite ?_ ?_)
      | (with_reducible refine LeO.bind ?_ (fun _ => ?_))
      | exact ih0 _ _ _
      | exact ih1 _ _ _ _ _
      | exact ih2 _ _ _ _ _
      | exact quoinref01_Next.mono _ _ _
      | exact LeO.none _
      | refine LeO.ite ?_ ?_
      | refine LeO.bind ?_ (fun _ => ?_)
    · intro y0 y1 y2 y3 y4
      unfold quoinref01_At.l1
      repeat' first
      | (with_reducible exact ih0 _ _ _)
      | (with_reducible exact ih1 _ _ _ _ _)
      | (with_reducible exact ih2 _ _ _ _ _)
      | (with_reducible exact quoinref01_Next.mono _ _ _)
      | (with_reducible exact LeO.refl _)
      | (with_reducible exact LeO.none _)
      | (with_reducible refine LeO.ite ?_ ?_)
      | (with_reducible refine LeO.bind ?_ (fun _ => ?_))
      | exact ih0 _ _ _
      | exact ih1 _ _ _ _ _
      | exact ih2 _ _ _ _ _
      | exact quoinref01_Next.mono _ _ _
      | exact LeO.none _
      | refine LeO.ite ?_ ?_
      | refine LeO.bind ?_ (fun _ => ?_)
theorem quoinref01_At.mono : ∀ a0 a1 k, LeO (quoinref01_At.f k a0 a1) (quoinref01_At.f (k + 1) a0 a1) := by
  intro a0 a1 k
  obtain ⟨ih0, ih1, ih2⟩ := quoinref01_At.mono_l k
  unfold quoinref01_At.f
  repeat' first
      | (with_reducible exact ih0 _ _ _)
      | (with_reducible exact ih1 _ _ _ _ _)
      | (with_reducible exact ih2 _ _ _ _ _)
      | (with_reducible exact quoinref01_Next.mono _ _ _)
      | (with_reducible exact LeO.refl _)
      | (with_reducible exact LeO.none _)
      | (with_reducible refine LeO.ite ?_ ?_)
      | (with_reducible refine LeO.bind ?_ (fun _ => ?_))
      | exact ih0 _ _ _
      | exact ih1 _ _ _ _ _
      | exact ih2 _ _ _ _ _
      | exact quoinref01_Next.mono _ _ _
      | exact LeO.none _
      | refine LeO.ite ?_ ?_
      | refine LeO.bind ?_ (fun _ => ?_)
set_option maxHeartbeats 8000000 in
set_option maxRecDepth 100000 in
theorem quoinref01_At.calls (k : Nat) (a0 : ByteArray) (a1 : Int) (r1 : Int) (r2 : Int) (r3 : Int) (w : World) (h : quoinref01_At.f k a0 a1 = some (r1, r2, r3)) :
    Calls Try.prog 30 #[.string a0, .int .i64 a1] w fun e w' => e = .returned (.tuple #[.int .i64 r1, .int .i64 r2, .int .i64 r3]) ∧ Below w.heap.size w w' := by
  have HB := Aside0.mk (Below.refl w.heap.size w)
  have H : (if a1 < 0 then (quoinref01_At.j0 k a0 a1 true) else (quoinref01_At.j0 k a0 a1 (decide (a1 > (a0.size : Int))))) = some (r1, r2, r3) := h
  clear h
  have HC3 := Aside0.mk H
  clear H
  go_enter Try.func30, Try.ntmps30
  go_upto_region 1 with (fail)
  go_cut [22] (fun v22 wc => ∃ (kq : Nat) (x22_2 : Bool), v22 = .bool x22_2 ∧ Aside0 (quoinref01_At.j0 kq a0 a1 x22_2 = some (r1, r2, r3)) ∧ Aside0 (kq ≤ k) ∧ Aside0 (Below w.heap.size w wc))
  case first =>
    have H := HC3.out
    clear HC3
    by_cases c4 : a1 < 0
    · rw [if_pos c4] at H
      have c4b0 : decide (a1 < 0) = true := decide_eq_true c4
      clear c4
      (first | rw [c4b0] | (simp only [i64_w, i32_w]; rw [c4b0]) | skip)
      have H' := Aside0.mk H
      clear H
      go_wp2
      go_meet
      case rel => exact ⟨_, (true), (by first | rfl | (simp; done) | (simp [*]; done)), H', ⟨by first | omega | exact Nat.le_refl _⟩, ⟨by repeat (first | (with_reducible first | exact HB.out | apply below_alloc | apply pw_below_drewN | apply below_drew1) | exact HB.out)⟩⟩
    · rw [if_neg c4] at H
      have c4b0 : decide (a1 < 0) = false := decide_eq_false c4
      clear c4
      (first | rw [c4b0] | (simp only [i64_w, i32_w]; rw [c4b0]) | skip)
      have H' := Aside0.mk H
      clear H
      go_wp2
      go_meet
      case rel => exact ⟨_, (decide (a1 > (a0.size : Int))), (by first | rfl | (simp; done) | (simp [*]; done)), H', ⟨by first | omega | exact Nat.le_refl _⟩, ⟨by repeat (first | (with_reducible first | exact HB.out | apply below_alloc | apply pw_below_drewN | apply below_drew1) | exact HB.out)⟩⟩
  case rest =>
    clear HC3
    try clear p2
    try clear c3
    try clear c4
    try clear c4b0
    obtain ⟨kq, x22_2, rfl, HA, HJ2, HB⟩ := hcut
    cases kq with
    | zero => exact absurd HA.out (by simp [quoinref01_At.j0])
    | succ kj2 =>
      have H := HA.out
      clear HA
      simp only [quoinref01_At.j0] at H
      by_cases c5 : x22_2 = true
      · subst c5
        have H1 : (some (0, 0, 13)) = some (r1, r2, r3) := by rw [if_pos rfl] at H; exact H
        clear H
        have H := H1
        clear H1
        simp only [Option.some.injEq, Prod.mk.injEq] at H
        obtain ⟨rfl, rfl, rfl⟩ := H
        go_wp2
        go_ret3
        exact ⟨by first | rfl | (simp [errW_none, errW_some] <;> rfl) | (simp [*, errW_none, errW_some] <;> rfl), by repeat (first | (with_reducible first | exact HB.out | apply below_alloc | apply pw_below_drewN | apply below_drew1) | exact HB.out)⟩
      · replace c5 := Bool.eq_false_iff.mpr c5
        subst c5
        have H1 : (quoinref01_At.l0 kj2 a0 a1 1 0 0) = some (r1, r2, r3) := by rw [if_neg (show ¬ (false = true) by decide)] at H; exact H
        clear H
        have H := H1
        clear H1
        have H' := Aside0.mk H
        clear H
        go_wp2
        go_loopg [7, 8, 9] kj2 (fun kq v7 v8 v9 w' => ∃ (x7_2 : Int) (x8_2 : Int) (x9_2 : Int), v7 = .int .i64 x7_2 ∧ v8 = .int .i64 x8_2 ∧ v9 = .int .i64 x9_2 ∧ Aside0 (quoinref01_At.l0 kq a0 a1 x7_2 x8_2 x9_2 = some (r1, r2, r3)) ∧ Aside0 (kq ≤ kj2) ∧ Aside0 (Below w.heap.size w w'))
        case atStart => exact ⟨(1), (0), (0), (by first | rfl | (simp; done) | (simp [*]; done)), (by first | rfl | (simp; done) | (simp [*]; done)), (by first | rfl | (simp; done) | (simp [*]; done)), H', ⟨Nat.le_refl _⟩, ⟨by repeat (first | (with_reducible first | exact HB.out | apply below_alloc | apply pw_below_drewN | apply below_drew1) | exact HB.out)⟩⟩
        case round =>
          clear H'
          try clear p2
          try clear c3
          try clear c4
          try clear c4b0
          try clear c5
          try clear p2
          obtain ⟨x7_2, x8_2, x9_2, rfl, rfl, rfl, HA, HK2, HB⟩ := hrel
          cases gk with
          | zero => exact absurd HA.out (by simp [quoinref01_At.l0])
          | succ k2 =>
            have H := HA.out
            clear HA
            simp only [quoinref01_At.l0] at H
            by_cases c6 : x9_2 < a1
            · rw [if_pos c6] at H
              have c6b0 : decide (x9_2 < a1) = true := decide_eq_true c6
              clear c6
              by_cases c7 : 0 ≤ x9_2
              · rw [if_pos c7] at H
                have c7b0 : decide (0 ≤ x9_2) = true := decide_eq_true c7
                clear c7
                by_cases c8 : x9_2 < (a0.size : Int)
                · rw [if_pos c8] at H
                  have c8b0 : decide (x9_2 < (a0.size : Int)) = true := decide_eq_true c8
                  clear c8
                  by_cases c10 : (bt a0 x9_2) = 10
                  · rw [if_pos c10] at H
                    have c10b0 : ((bt a0 x9_2) == 10) = true := beq_iff_eq.mpr c10
                    have c10b1 : ((bt a0 x9_2) != 10) = false := bne_eq_false_iff_eq.mpr c10
                    clear c10
                    have H' := Aside0.mk H
                    clear H
                    have p9 : 0 ≤ (x9_2 : Int) := of_decide_eq_true (by first | (with_reducible assumption) | assumption)
                    have q9 : x9_2 < (a0.size : Int) := of_decide_eq_true (by first | (with_reducible assumption) | assumption)
                    have hx9 := bt_at a0 x9_2
                    replace p9 := eq_true p9
                    replace q9 := eq_true q9
                    go_wp2
                    go_roundg k2
                    case measure => have := HJ2.out; have := HK2.out; omega
                    case rel => exact ⟨(wrap64 (x7_2 + 1)), (wrap64 (x9_2 + 1)), (wrap64 (x9_2 + 1)), (by first | rfl | (simp; done) | (simp [*]; done)), (by first | rfl | (simp; done) | (simp [*]; done)), (by first | rfl | (simp; done) | (simp [*]; done)), H', ⟨by have := HJ2.out; have := HK2.out; omega⟩, ⟨by repeat (first | (with_reducible first | exact HB.out | apply below_alloc | apply pw_below_drewN | apply below_drew1) | exact HB.out)⟩⟩
                  · rw [if_neg c10] at H
                    have c10b0 : ((bt a0 x9_2) == 10) = false := beq_eq_false_iff_ne.mpr c10
                    have c10b1 : ((bt a0 x9_2) != 10) = true := bne_iff_ne.mpr c10
                    have H' := Aside0.mk H
                    clear H
                    have p9 : 0 ≤ (x9_2 : Int) := of_decide_eq_true (by first | (with_reducible assumption) | assumption)
                    have q9 : x9_2 < (a0.size : Int) := of_decide_eq_true (by first | (with_reducible assumption) | assumption)
                    have hx9 := bt_at a0 x9_2
                    replace p9 := eq_true p9
                    replace q9 := eq_true q9
                    go_wp2
                    go_roundg k2
                    case measure => have := HJ2.out; have := HK2.out; omega
                    case rel => exact ⟨(x7_2), (x8_2), (wrap64 (x9_2 + 1)), (by first | rfl | (simp; done) | (simp [*]; done)), (by first | rfl | (simp; done) | (simp [*]; done)), (by first | rfl | (simp; done) | (simp [*]; done)), H', ⟨by have := HJ2.out; have := HK2.out; omega⟩, ⟨by repeat (first | (with_reducible first | exact HB.out | apply below_alloc | apply pw_below_drewN | apply below_drew1) | exact HB.out)⟩⟩
                · rw [if_neg c8] at H
                  exact absurd H (by simp)
              · rw [if_neg c7] at H
                exact absurd H (by simp)
            · rw [if_neg c6] at H
              have c6b0 : decide (x9_2 < a1) = false := decide_eq_false c6
              clear c6
              have H' := Aside0.mk H
              clear H
              go_wp2
              go_loopg [10, 11] k2 (fun kq v10 v11 w' => ∃ (x10_3 : Int) (x11_3 : Int), v10 = .int .i64 x10_3 ∧ v11 = .int .i64 x11_3 ∧ Aside0 (quoinref01_At.l1 kq a0 a1 x7_2 x10_3 x11_3 = some (r1, r2, r3)) ∧ Aside0 (kq ≤ k2) ∧ Aside0 (Below w.heap.size w w'))
              case atStart => exact ⟨(1), (x8_2), (by first | rfl | (simp; done) | (simp [*]; done)), (by first | rfl | (simp; done) | (simp [*]; done)), H', ⟨Nat.le_refl _⟩, ⟨by repeat (first | (with_reducible first | exact HB.out | apply below_alloc | apply pw_below_drewN | apply below_drew1) | exact HB.out)⟩⟩
              case round =>
                clear H'
                try clear c1
                try clear p2
                try clear c3
                try clear c4
                try clear c4b0
                try clear c5
                try clear c6
                try clear c6b0
                try clear p6
                try clear c7
                try clear c7b0
                try clear c8
                try clear c8b0
                try clear p9
                try clear q9
                try clear hx9
                try clear c10
                try clear c10b0
                try clear c10b1
                try clear p2
                try clear p9
                try clear q9
                obtain ⟨x10_3, x11_3, rfl, rfl, HA, HK3, HB⟩ := hrel
                cases gk with
                | zero => exact absurd HA.out (by simp [quoinref01_At.l1])
                | succ k3 =>
                  have H := HA.out
                  clear HA
                  simp only [quoinref01_At.l1] at H
                  by_cases c11 : x11_3 < a1
                  · rw [if_pos c11] at H
                    have c11b0 : decide (x11_3 < a1) = true := decide_eq_true c11
                    clear c11
                    replace H := Option.bind_eq_some_iff.mp H
                    obtain ⟨⟨t349, t350, t351⟩, A120, H⟩ := H
                    replace H : (quoinref01_At.l1 k3 a0 a1 x7_2 (wrap64 (x10_3 + 1)) (wrap64 (x11_3 + t350))) = some (r1, r2, r3) := H
                    have A12 := Aside0.mk A120
                    clear A120
                    have H' := Aside0.mk H
                    clear H
                    go_wp2_with (first | ((with_reducible refine gate_callee (f := 18) rfl ?_); refine goesL_ (some 43) rfl rfl Try.func18 (by kernel_rfl) rfl #[.string a0, .int .i64 x11_3] rfl (by (try simp only [List.map_toArray, List.map_cons, List.map_nil]); first | done | rfl | (simp only [List.length_drop, List.length_take]; rfl)) ?_; (with_reducible refine (quoinref01_Next.calls k3 a0 x11_3 t349 t350 t351 _ A12.out).mono ?_); rintro e w13 ⟨rfl, hb⟩; refine ⟨_, rfl, ?_⟩; have n0_ := Aside0.mk (below_step (by repeat (first | (with_reducible first | exact HB.out | apply below_alloc | apply pw_below_drewN | apply below_drew1) | exact HB.out)) hb); clear HB; have HB := n0_; clear n0_; (try clear hb); (try clear hb2); (try clear hk); (try clear hi)))
                    go_roundg k3
                    case measure => have := HJ2.out; have := HK2.out; have := HK3.out; omega
                    case rel => exact ⟨(wrap64 (x10_3 + 1)), (wrap64 (x11_3 + t350)), (by first | rfl | (simp; done) | (simp [*]; done)), (by first | rfl | (simp; done) | (simp [*]; done)), H', ⟨by have := HJ2.out; have := HK2.out; have := HK3.out; omega⟩, ⟨by repeat (first | (with_reducible first | exact HB.out | apply below_alloc | apply pw_below_drewN | apply below_drew1) | exact HB.out)⟩⟩
                  · rw [if_neg c11] at H
                    have c11b0 : decide (x11_3 < a1) = false := decide_eq_false c11
                    clear c11
                    simp only [Option.some.injEq, Prod.mk.injEq] at H
                    obtain ⟨rfl, rfl, rfl⟩ := H
                    go_wp2
                    go_ret3
                    exact ⟨by first | rfl | (simp [errW_none, errW_some] <;> rfl) | (simp [*, errW_none, errW_some] <;> rfl), by repeat (first | (with_reducible first | exact HB.out | apply below_alloc | apply pw_below_drewN | apply below_drew1) | exact HB.out)⟩

/-! ### text_Byte: function 31 -/
section
open Go.Proofs.Ythiiigbifimckaa.Hw
def text_Byte.l1 (t : ByteArray) (b sz col : Int) : Nat → Nat → Int → Option (Int × Int)
  | 0, _, _ => none
  | k + 1, pos, c => if pos < t.size then (if c = col then some (wrap64 (b + pos), 0) else if ((Utf8.decode t pos).1 : Int) = 10 then some (0, 13) else text_Byte.l1 t b sz col k (pos + (Utf8.decode t pos).2) (wrap64 (c + 1)))
      else if c = col then some (sz, 0) else some (0, 13)
def text_Byte.e (s : ByteArray) (line col b : Int) : Option (Int × Int) :=
  if line < 1 then some (0, 13) else if col < 1 then some (0, 13) else if 0 ≤ b ∧ b ≤ (s.size : Int) then text_Byte.l1 (s.extract b.toNat s.size) b s.size col (s.size + 1) 0 1 else none
def text_Byte.l0 (s : ByteArray) (line col : Int) : Nat → Int → Int → Option (Int × Int)
  | 0, _, _ => none
  | k + 1, b, n => if n < line then (if 0 ≤ b ∧ b ≤ (s.size : Int) then (if Lib.indexByte (s.extract b.toNat s.size).data.toList 10 < 0 then some (0, 13) else text_Byte.l0 s line col k (wrap64 (b + wrap64 (Lib.indexByte (s.extract b.toNat s.size).data.toList 10 + 1))) (wrap64 (n + 1))) else none)
      else text_Byte.e s line col b
def text_Byte.f (a0 : ByteArray) (a1_0 a1_1 : Int) : Option (Int × Int) := text_Byte.l0 a0 a1_0 a1_1 (a0.size + 2) 0 1
set_option maxHeartbeats 8000000 in
set_option maxRecDepth 100000 in
theorem text_Byte.calls (a0 : ByteArray) (a1_0 a1_1 : Int) (r1 r2 : Int) (w : World) (h : text_Byte.f a0 a1_0 a1_1 = some (r1, r2)) :
    Calls Try.prog 31 #[.string a0, .agg #[.int .i64 a1_0, .int .i64 a1_1]] w fun e w' => e = .returned (.tuple #[.int .i64 r1, .int .i64 r2]) ∧ Below w.heap.size w w' := by
  have hu54 := Try.underlying54
  have H' := Aside0.mk (show text_Byte.l0 a0 a1_0 a1_1 (a0.size + 2) 0 1 = some (r1, r2) from h)
  clear h
  have hW : (w.alloc (.cells #[.int .i64 a1_0, .int .i64 a1_1] 54)).heap[w.heap.size]? = some (.cells #[.int .i64 a1_0, .int .i64 a1_1] 54 (0, 0)) := by simpa using heap_alloc_new w _
  have HB := Aside0.mk (below_alloc (Below.refl w.heap.size w) (.cells #[.int .i64 a1_0, .int .i64 a1_1] 54))
  have HW := Aside0.mk hW
  go_enter Try.func31, Try.ntmps31
  go_wp2
  go_loopg [6, 7] (a0.size + 2) (fun kq v6 v7 w' => ∃ (b n : Int), v6 = .int .i64 b ∧ v7 = .int .i64 n ∧ Aside0 (text_Byte.l0 a0 a1_0 a1_1 kq b n = some (r1, r2)) ∧ Aside0 (kq ≤ a0.size + 2) ∧ Aside0 (w'.heap[w.heap.size]? = some (.cells #[.int .i64 a1_0, .int .i64 a1_1] 54 (0, 0))) ∧ Aside0 (Below w.heap.size w w'))
  case atStart => exact ⟨0, 1, rfl, rfl, H', ⟨Nat.le_refl _⟩, HW, HB⟩
  case round =>
    clear H' HW HB hW
    obtain ⟨b, n, rfl, rfl, HA, HK, HW, HB⟩ := hrel
    cases gk with
    | zero => exact absurd HA.out (by simp [text_Byte.l0])
    | succ k1 =>
      have H := HA.out
      clear HA
      simp only [text_Byte.l0] at H
      have x0 := cell_of HW.out (j := 0) rfl
      have x1 := cell_of HW.out (j := 1) rfl
      by_cases c1 : n < a1_0
      · rw [if_pos c1] at H
        have c1b : decide (n < a1_0) = true := decide_eq_true c1
        by_cases c2 : 0 ≤ b ∧ b ≤ (a0.size : Int)
        case neg => rw [if_neg c2] at H; exact absurd H (by simp)
        rw [if_pos c2] at H
        obtain ⟨c2a, c2b⟩ := c2
        generalize hi : Lib.indexByte (a0.extract b.toNat a0.size).data.toList 10 = i at H
        have Hi := Aside0.mk hi
        clear hi
        by_cases c3 : i < 0
        · rw [if_pos c3] at H
          simp only [Option.some.injEq, Prod.mk.injEq] at H
          obtain ⟨rfl, rfl⟩ := H
          have c3b : decide (i < 0) = true := decide_eq_true c3
          go_wp2_with fail
          refine (Try.strings_IndexByte _ 10 _).mono ?_
          rintro e w1 ⟨rfl, rfl⟩
          rw [show ((10 : Int).toNat.toUInt8) = (10 : UInt8) from rfl, Hi.out]
          go_wp2
          go_ret2
          exact ⟨rfl, HB.out⟩
        · rw [if_neg c3] at H
          have c3b : decide (i < 0) = false := decide_eq_false c3
          go_wp2_with fail
          refine (Try.strings_IndexByte _ 10 _).mono ?_
          rintro e w1 ⟨rfl, rfl⟩
          rw [show ((10 : Int).toNat.toUInt8) = (10 : UInt8) from rfl, Hi.out]
          go_wp2
          go_roundg k1
          case measure => have := HK.out; omega
          case rel => exact ⟨_, _, rfl, rfl, ⟨H⟩, ⟨by have := HK.out; omega⟩, HW, HB⟩
      · rw [if_neg c1] at H
        have c1b : decide (n < a1_0) = false := decide_eq_false c1
        unfold text_Byte.e at H
        by_cases c2 : a1_0 < 1
        · rw [if_pos c2] at H
          simp only [Option.some.injEq, Prod.mk.injEq] at H
          obtain ⟨rfl, rfl⟩ := H
          have c2b : decide (a1_0 < 1) = true := decide_eq_true c2
          go_wp2
          go_ret2
          exact ⟨rfl, HB.out⟩
        · rw [if_neg c2] at H
          have c2b : decide (a1_0 < 1) = false := decide_eq_false c2
          by_cases c3 : a1_1 < 1
          · rw [if_pos c3] at H
            simp only [Option.some.injEq, Prod.mk.injEq] at H
            obtain ⟨rfl, rfl⟩ := H
            have c3b : decide (a1_1 < 1) = true := decide_eq_true c3
            go_wp2
            go_ret2
            exact ⟨rfl, HB.out⟩
          · rw [if_neg c3] at H
            have c3b : decide (a1_1 < 1) = false := decide_eq_false c3
            by_cases c4 : 0 ≤ b ∧ b ≤ (a0.size : Int)
            case neg => rw [if_neg c4] at H; exact absurd H (by simp)
            rw [if_pos c4] at H
            obtain ⟨c4a, c4b⟩ := c4
            have H2 := Aside0.mk H
            clear H
            have hit := World.iter_heap wr (a0.extract b.toNat a0.size) 0
            have hbi := below_iter wr (a0.extract b.toNat a0.size) 0
            have HI := Aside0.mk hit
            have HW1 := Aside0.mk (blk_below HW.out hbi)
            have HB1 := Aside0.mk (below_then HB.out HB.out.size hbi)
            have HS := Aside0.mk (blk_lt' HW.out)
            clear hit hbi HB HW
            obtain ⟨wo, hwo⟩ : ∃ wo : World, wo = wr := ⟨_, rfl⟩
            subst hwo
            obtain ⟨t, ht⟩ : ∃ x : ByteArray, x = a0.extract b.toNat a0.size := ⟨_, rfl⟩
            have Ht := Aside0.mk ht
            clear ht
            rw [← Ht.out] at H2 HI HW1 HB1
            go_wp2
            rw [← Ht.out]
            go_loopg [9] (a0.size + 1) (fun kq v9 w' => ∃ (pos : Nat) (c : Int), v9 = .int .i64 c ∧ Aside0 (text_Byte.l1 t b a0.size a1_1 kq pos c = some (r1, r2)) ∧ Aside0 (kq ≤ a0.size + 1) ∧ Aside0 (w'.heap[wo.heap.size]? = some (.stringIter t pos)) ∧ Aside0 (w'.heap[w.heap.size]? = some (.cells #[.int .i64 a1_0, .int .i64 a1_1] 54 (0, 0))) ∧ Aside0 (Below w.heap.size w w'))
            case atStart => exact ⟨0, 1, rfl, H2, ⟨Nat.le_refl _⟩, HI, HW1, HB1⟩
            case round =>
              clear H2 HI HW1 HB1 x0 x1
              obtain ⟨pos, c, rfl, HA, HK2, HI, HW, HB⟩ := hrel
              cases gk with
              | zero => exact absurd HA.out (by simp [text_Byte.l1])
              | succ k2 =>
                have H := HA.out
                clear HA
                simp only [text_Byte.l1] at H
                by_cases hp : pos < t.size
                · rw [if_pos hp] at H
                  have hnx : ∀ ty, (Instr.next (.pointer (some ⟨wo.heap.size, 0, none⟩)) true ty).run Try.prog wr = _ := fun ty => Lib.run_next_any_at wr wo.heap.size t pos ty HI.out hp
                  have HI2 := Aside0.mk (Lib.iterAt_heap wr wo.heap.size t pos (pos + (Utf8.decode t pos).2) HI.out)
                  have HW2 := Aside0.mk (blk_iterAt (s := t) (p := pos + (Utf8.decode t pos).2) HW.out (show w.heap.size ≠ wo.heap.size by have := HS.out; omega))
                  have HB2 := Aside0.mk (Lib.below_iterAt HB.out (k := wo.heap.size) (by have := HS.out; omega) t (pos + (Utf8.decode t pos).2))
                  clear HI HW HB
                  have x1 := cell_of HW2.out (j := 1) rfl
                  generalize Utf8.decode t pos = d at *
                  by_cases c5 : c = a1_1
                  · rw [if_pos c5] at H
                    simp only [Option.some.injEq, Prod.mk.injEq] at H
                    obtain ⟨rfl, rfl⟩ := H
                    subst c5
                    go_wp2
                    go_ret2
                    exact ⟨rfl, HB2.out⟩
                  · rw [if_neg c5] at H
                    have c5b : (c == a1_1) = false := beq_eq_false_iff_ne.mpr c5
                    by_cases c6 : (d.1 : Int) = 10
                    · rw [if_pos c6] at H
                      simp only [Option.some.injEq, Prod.mk.injEq] at H
                      obtain ⟨rfl, rfl⟩ := H
                      have c6b : ((d.1 : Int) == 10) = true := beq_iff_eq.mpr c6
                      clear c6
                      go_wp2
                      go_ret2
                      exact ⟨rfl, HB2.out⟩
                    · rw [if_neg c6] at H
                      have c6b : ((d.1 : Int) == 10) = false := beq_eq_false_iff_ne.mpr c6
                      go_wp2
                      go_roundg k2
                      case measure => have := HK2.out; omega
                      case rel => exact ⟨_, _, rfl, ⟨H⟩, ⟨by have := HK2.out; omega⟩, HI2, HW2, HB2⟩
                · rw [if_neg hp] at H
                  have hnx : ∀ ty, (Instr.next (.pointer (some ⟨wo.heap.size, 0, none⟩)) true ty).run Try.prog wr = _ := fun ty => Lib.run_next_end_at wr wo.heap.size t pos ty HI.out hp
                  have x1 := cell_of HW.out (j := 1) rfl
                  by_cases c5 : c = a1_1
                  · rw [if_pos c5] at H
                    simp only [Option.some.injEq, Prod.mk.injEq] at H
                    obtain ⟨rfl, rfl⟩ := H
                    subst c5
                    go_wp2
                    go_ret2
                    exact ⟨rfl, HB.out⟩
                  · rw [if_neg c5] at H
                    simp only [Option.some.injEq, Prod.mk.injEq] at H
                    obtain ⟨rfl, rfl⟩ := H
                    have c5b : (c == a1_1) = false := beq_eq_false_iff_ne.mpr c5
                    go_wp2
                    go_ret2
                    exact ⟨rfl, HB.out⟩

end

/-! ### quoinref01_Byte: function 32 -/
mutual
def quoinref01_Byte.l0 : Nat → ByteArray → Int → Int → Int → Int → Option (Int × Int)
  | 0, _, _, _, _, _ => none
  | k + 1, x0, x1, x2, x8, x9 => if x8 < (x0.size : Int) then (quoinref01_Byte.j1 k x0 x1 x2 x8 x9 (decide (x9 < x1))) else (quoinref01_Byte.j1 k x0 x1 x2 x8 x9 false)
def quoinref01_Byte.j1 : Nat → ByteArray → Int → Int → Int → Int → Bool → Option (Int × Int)
  | 0, _, _, _, _, _, _ => none
  | k + 1, x0, x1, x2, x8, x9, x22 => if x22 = true then (if 0 ≤ x8 then (if x8 < (x0.size : Int) then (if (bt x0 x8) = 10 then (quoinref01_Byte.l0 k x0 x1 x2 (wrap64 (x8 + 1)) (wrap64 (x9 + 1))) else (quoinref01_Byte.l0 k x0 x1 x2 (wrap64 (x8 + 1)) x9)) else (none)) else (none)) else (if x9 = x1 then (quoinref01_Byte.j2 k x0 x2 x8 (decide (x1 < 1))) else (quoinref01_Byte.j2 k x0 x2 x8 true))
def quoinref01_Byte.j2 : Nat → ByteArray → Int → Int → Bool → Option (Int × Int)
  | 0, _, _, _, _ => none
  | k + 1, x0, x2, x8, x37 => if x37 = true then (some (0, 13)) else (quoinref01_Byte.l1 k x0 x2 x8 1)
def quoinref01_Byte.l1 : Nat → ByteArray → Int → Int → Int → Option (Int × Int)
  | 0, _, _, _, _ => none
  | k + 1, x0, x2, x8, x10 => if x10 = x2 then (some (x8, 0)) else (if x8 ≥ (x0.size : Int) then (some (0, 13)) else (if 0 ≤ x8 then (if x8 < (x0.size : Int) then (if (bt x0 x8) = 10 then (some (0, 13)) else ((quoinref01_Next.f k x0 x8).bind fun bt352 => (quoinref01_Byte.l1 k x0 x2 (wrap64 (x8 + bt352.2.1)) (wrap64 (x10 + 1))))) else (none)) else (none)))
end
def quoinref01_Byte.f (k : Nat) (a0 : ByteArray) (a1 : Int) (a2 : Int) : Option (Int × Int) := quoinref01_Byte.l0 k a0 a1 a2 0 1
theorem quoinref01_Byte.mono_l : ∀ k, (∀ y0 y1 y2 y3 y4, LeO (quoinref01_Byte.l0 k y0 y1 y2 y3 y4) (quoinref01_Byte.l0 (k + 1) y0 y1 y2 y3 y4)) ∧ (∀ y0 y1 y2 y3 y4 y5, LeO (quoinref01_Byte.j1 k y0 y1 y2 y3 y4 y5) (quoinref01_Byte.j1 (k + 1) y0 y1 y2 y3 y4 y5)) ∧ (∀ y0 y1 y2 y3, LeO (quoinref01_Byte.j2 k y0 y1 y2 y3) (quoinref01_Byte.j2 (k + 1) y0 y1 y2 y3)) ∧ (∀ y0 y1 y2 y3, LeO (quoinref01_Byte.l1 k y0 y1 y2 y3) (quoinref01_Byte.l1 (k + 1) y0 y1 y2 y3))
  | 0 => ⟨fun _ _ _ _ _ r h => by simp [quoinref01_Byte.l0] at h, fun _ _ _ _ _ _ r h => by simp [quoinref01_Byte.j1] at h, fun _ _ _ _ r h => by simp [quoinref01_Byte.j2] at h, fun _ _ _ _ r h => by simp [quoinref01_Byte.l1] at h⟩
  | k + 1 => by
    obtain ⟨ih0, ih1, ih2, ih3⟩ := quoinref01_Byte.mono_l k
    refine ⟨?_, ?_, ?_, ?_⟩
    · intro y0 y1 y2 y3 y4
      unfold quoinref01_Byte.l0
      repeat' first
      | (with_reducible exact ih0 _ _ _ _ _)
      | (with_reducible exact ih1 _ _ _ _ _ _)
      | (with_reducible exact ih2 _ _ _ _)
      | (with_reducible exact ih3 _ _ _ _)
      | (with_reducible exact quoinref01_Next.mono _ _ _)
      | (with_reducible exact LeO.refl _)
      | (with_reducible exact LeO.none _)
      | (with_reducible refine LeO.ite ?_ ?_)
      | (with_reducible refine LeO.bind ?_ (fun _ => ?_))
      | exact ih0 _ _ _ _ _
      | exact ih1 _ _ _ _ _ _
      | exact ih2 _ _ _ _
      | exact ih3 _ _ _ _
      | exact quoinref01_Next.mono _ _ _
      | exact LeO.none _
      | refine LeO.ite ?_ ?_
      | refine LeO.bind ?_ (fun _ => ?_)
    · intro y0 y1 y2 y3 y4 y5
      unfold quoinref01_Byte.j1
      repeat' first
      | (with_reducible exact ih0 _ _ _ _ _)
      | (with_reducible exact ih1 _ _ _ _ _ _)
      | (with_reducible exact ih2 _ _ _ _)
      | (with_reducible exact ih3 _ _ _ _)
      | (with_reducible exact quoinref01_Next.mono _ _ _)
      | (with_reducible exact LeO.refl _)
      | (with_reducible exact LeO.none _)
      | (with_reducible refine LeO.ite ?_ ?_)
      | (with_reducible refine LeO.bind ?_ (fun _ => ?_))
      | exact ih0 _ _ _ _ _
      | exact ih1 _ _ _ _ _ _
      | exact ih2 _ _ _ _
      | exact ih3 _ _ _ _
      | exact quoinref01_Next.mono _ _ _
      | exact LeO.none _
      | refine LeO.ite ?_ ?_
      | refine LeO.bind ?_ (fun _ => ?_)
    · intro y0 y1 y2 y3
      unfold quoinref01_Byte.j2
      repeat' first
      | (with_reducible exact ih0 _ _ _ _ _)
      | (with_reducible exact ih1 _ _ _ _ _ _)
      | (with_reducible exact ih2 _ _ _ _)
      | (with_reducible exact ih3 _ _ _ _)
      | (with_reducible exact quoinref01_Next.mono _ _ _)
      | (with_reducible exact LeO.refl _)
      | (with_reducible exact LeO.none _)
      | (with_reducible refine LeO.ite ?_ ?_)
      | (with_reducible refine LeO.bind ?_ (fun _ => ?_))
      | exact ih0 _ _ _ _ _
      | exact ih1 _ _ _ _ _ _
      | exact ih2 _ _ _ _
      | exact ih3 _ _ _ _
      | exact quoinref01_Next.mono _ _ _
      | exact LeO.none _
      | refine LeO.ite ?_ ?_
      | refine LeO.bind ?_ (fun _ => ?_)
    · intro y0 y1 y2 y3
      unfold quoinref01_Byte.l1
      repeat' first
      | (with_reducible exact ih0 _ _ _ _ _)
      | (with_reducible exact ih1 _ _ _ _ _ _)
      | (with_reducible exact ih2 _ _ _ _)
      | (with_reducible exact ih3 _ _ _ _)
      | (with_reducible exact quoinref01_Next.mono _ _ _)
      | (with_reducible exact LeO.refl _)
      | (with_reducible exact LeO.none _)
      | (with_reducible refine LeO.ite ?_ ?_)
      | (with_reducible refine LeO.bind ?_ (fun _ => ?_))
      | exact ih0 _ _ _ _ _
      | exact ih1 _ _ _ _ _ _
      | exact ih2 _ _ _ _
      | exact ih3 _ _ _ _
      | exact quoinref01_Next.mono _ _ _
      | exact LeO.none _
      | refine LeO.ite ?_ ?_
      | refine LeO.bind ?_ (fun _ => ?_)
theorem quoinref01_Byte.mono : ∀ a0 a1 a2 k, LeO (quoinref01_Byte.f k a0 a1 a2) (quoinref01_Byte.f (k + 1) a0 a1 a2) := by
  intro a0 a1 a2 k
  obtain ⟨ih0, ih1, ih2, ih3⟩ := quoinref01_Byte.mono_l k
  unfold quoinref01_Byte.f
  repeat' first
      | (with_reducible exact ih0 _ _ _ _ _)
      | (with_reducible exact ih1 _ _ _ _ _ _)
      | (with_reducible exact ih2 _ _ _ _)
      | (with_reducible exact ih3 _ _ _ _)
      | (with_reducible exact quoinref01_Next.mono _ _ _)
      | (with_reducible exact LeO.refl _)
      | (with_reducible exact LeO.none _)
      | (with_reducible refine LeO.ite ?_ ?_)
      | (with_reducible refine LeO.bind ?_ (fun _ => ?_))
      | exact ih0 _ _ _ _ _
      | exact ih1 _ _ _ _ _ _
      | exact ih2 _ _ _ _
      | exact ih3 _ _ _ _
      | exact quoinref01_Next.mono _ _ _
      | exact LeO.none _
      | refine LeO.ite ?_ ?_
      | refine LeO.bind ?_ (fun _ => ?_)
set_option maxHeartbeats 8000000 in
set_option maxRecDepth 100000 in
theorem quoinref01_Byte.calls (k : Nat) (a0 : ByteArray) (a1 : Int) (a2 : Int) (r1 : Int) (r2 : Int) (w : World) (h : quoinref01_Byte.f k a0 a1 a2 = some (r1, r2)) :
    Calls Try.prog 32 #[.string a0, .int .i64 a1, .int .i64 a2] w fun e w' => e = .returned (.tuple #[.int .i64 r1, .int .i64 r2]) ∧ Below w.heap.size w w' := by
  have HB := Aside0.mk (Below.refl w.heap.size w)
  have H : (quoinref01_Byte.l0 k a0 a1 a2 0 1) = some (r1, r2) := h
  clear h
  have H' := Aside0.mk H
  clear H
  go_enter Try.func32, Try.ntmps32
  go_wp2
  go_loopg [8, 9] k (fun kq v8 v9 w' => ∃ (x8_1 : Int) (x9_1 : Int), v8 = .int .i64 x8_1 ∧ v9 = .int .i64 x9_1 ∧ Aside0 (quoinref01_Byte.l0 kq a0 a1 a2 x8_1 x9_1 = some (r1, r2)) ∧ Aside0 (kq ≤ k) ∧ Aside0 (Below w.heap.size w w'))
  case atStart => exact ⟨(0), (1), (by first | rfl | (simp; done) | (simp [*]; done)), (by first | rfl | (simp; done) | (simp [*]; done)), H', ⟨Nat.le_refl _⟩, ⟨by repeat (first | (with_reducible first | exact HB.out | apply below_alloc | apply pw_below_drewN | apply below_drew1) | exact HB.out)⟩⟩
  case round =>
    clear H'
    try clear p2
    try clear c3
    obtain ⟨x8_1, x9_1, rfl, rfl, HA, HK1, HB⟩ := hrel
    cases gk with
    | zero => exact absurd HA.out (by simp [quoinref01_Byte.l0])
    | succ k1 =>
      have H := HA.out
      clear HA
      simp only [quoinref01_Byte.l0] at H
      have HC4 := Aside0.mk H
      clear H
      go_upto_region 2 with (fail)
      go_cut [22] (fun v22 wc => ∃ (kq : Nat) (x22_3 : Bool), v22 = .bool x22_3 ∧ Aside0 (quoinref01_Byte.j1 kq a0 a1 a2 x8_1 x9_1 x22_3 = some (r1, r2)) ∧ Aside0 (kq ≤ k1) ∧ Aside0 (Below w.heap.size w wc))
      case first =>
        have H := HC4.out
        clear HC4
        by_cases c5 : x8_1 < (a0.size : Int)
        · rw [if_pos c5] at H
          have c5b0 : decide (x8_1 < (a0.size : Int)) = true := decide_eq_true c5
          clear c5
          (first | rw [c5b0] | (simp only [i64_w, i32_w]; rw [c5b0]) | skip)
          have H' := Aside0.mk H
          clear H
          go_wp2
          go_meet
          case rel => exact ⟨_, (decide (x9_1 < a1)), (by first | rfl | (simp; done) | (simp [*]; done)), H', ⟨by have := HK1.out; first | omega | exact Nat.le_refl _⟩, ⟨by repeat (first | (with_reducible first | exact HB.out | apply below_alloc | apply pw_below_drewN | apply below_drew1) | exact HB.out)⟩⟩
        · rw [if_neg c5] at H
          have c5b0 : decide (x8_1 < (a0.size : Int)) = false := decide_eq_false c5
          clear c5
          (first | rw [c5b0] | (simp only [i64_w, i32_w]; rw [c5b0]) | skip)
          have H' := Aside0.mk H
          clear H
          go_wp2
          go_meet
          case rel => exact ⟨_, (false), (by first | rfl | (simp; done) | (simp [*]; done)), H', ⟨by have := HK1.out; first | omega | exact Nat.le_refl _⟩, ⟨by repeat (first | (with_reducible first | exact HB.out | apply below_alloc | apply pw_below_drewN | apply below_drew1) | exact HB.out)⟩⟩
      case rest =>
        clear HC4
        try clear p2
        try clear c3
        try clear c5
        try clear c5b0
        try clear p2
        obtain ⟨kq, x22_3, rfl, HA, HJ3, HB⟩ := hcut
        cases kq with
        | zero => exact absurd HA.out (by simp [quoinref01_Byte.j1])
        | succ kj3 =>
          have H := HA.out
          clear HA
          simp only [quoinref01_Byte.j1] at H
          by_cases c6 : x22_3 = true
          · subst c6
            have H1 : (if 0 ≤ x8_1 then (if x8_1 < (a0.size : Int) then (if (bt a0 x8_1) = 10 then (quoinref01_Byte.l0 kj3 a0 a1 a2 (wrap64 (x8_1 + 1)) (wrap64 (x9_1 + 1))) else (quoinref01_Byte.l0 kj3 a0 a1 a2 (wrap64 (x8_1 + 1)) x9_1)) else (none)) else (none)) = some (r1, r2) := by rw [if_pos rfl] at H; exact H
            clear H
            have H := H1
            clear H1
            by_cases c7 : 0 ≤ x8_1
            · rw [if_pos c7] at H
              have c7b0 : decide (0 ≤ x8_1) = true := decide_eq_true c7
              clear c7
              by_cases c8 : x8_1 < (a0.size : Int)
              · rw [if_pos c8] at H
                have c8b0 : decide (x8_1 < (a0.size : Int)) = true := decide_eq_true c8
                clear c8
                by_cases c10 : (bt a0 x8_1) = 10
                · rw [if_pos c10] at H
                  have c10b0 : ((bt a0 x8_1) == 10) = true := beq_iff_eq.mpr c10
                  have c10b1 : ((bt a0 x8_1) != 10) = false := bne_eq_false_iff_eq.mpr c10
                  clear c10
                  have H' := Aside0.mk H
                  clear H
                  have p9 : 0 ≤ (x8_1 : Int) := of_decide_eq_true (by first | (with_reducible assumption) | assumption)
                  have q9 : x8_1 < (a0.size : Int) := of_decide_eq_true (by first | (with_reducible assumption) | assumption)
                  have hx9 := bt_at a0 x8_1
                  replace p9 := eq_true p9
                  replace q9 := eq_true q9
                  go_wp2
                  go_roundg kj3
                  case measure => have := HK1.out; have := HJ3.out; omega
                  case rel => exact ⟨(wrap64 (x8_1 + 1)), (wrap64 (x9_1 + 1)), (by first | rfl | (simp; done) | (simp [*]; done)), (by first | rfl | (simp; done) | (simp [*]; done)), H', ⟨by have := HK1.out; have := HJ3.out; omega⟩, ⟨by repeat (first | (with_reducible first | exact HB.out | apply below_alloc | apply pw_below_drewN | apply below_drew1) | exact HB.out)⟩⟩
                · rw [if_neg c10] at H
                  have c10b0 : ((bt a0 x8_1) == 10) = false := beq_eq_false_iff_ne.mpr c10
                  have c10b1 : ((bt a0 x8_1) != 10) = true := bne_iff_ne.mpr c10
                  have H' := Aside0.mk H
                  clear H
                  have p9 : 0 ≤ (x8_1 : Int) := of_decide_eq_true (by first | (with_reducible assumption) | assumption)
                  have q9 : x8_1 < (a0.size : Int) := of_decide_eq_true (by first | (with_reducible assumption) | assumption)
                  have hx9 := bt_at a0 x8_1
                  replace p9 := eq_true p9
                  replace q9 := eq_true q9
                  go_wp2
                  go_roundg kj3
                  case measure => have := HK1.out; have := HJ3.out; omega
                  case rel => exact ⟨(wrap64 (x8_1 + 1)), (x9_1), (by first | rfl | (simp; done) | (simp [*]; done)), (by first | rfl | (simp; done) | (simp [*]; done)), H', ⟨by have := HK1.out; have := HJ3.out; omega⟩, ⟨by repeat (first | (with_reducible first | exact HB.out | apply below_alloc | apply pw_below_drewN | apply below_drew1) | exact HB.out)⟩⟩
              · rw [if_neg c8] at H
                exact absurd H (by simp)
            · rw [if_neg c7] at H
              exact absurd H (by simp)
          · replace c6 := Bool.eq_false_iff.mpr c6
            subst c6
            have H1 : (if x9_1 = a1 then (quoinref01_Byte.j2 kj3 a0 a2 x8_1 (decide (a1 < 1))) else (quoinref01_Byte.j2 kj3 a0 a2 x8_1 true)) = some (r1, r2) := by rw [if_neg (show ¬ (false = true) by decide)] at H; exact H
            clear H
            have H := H1
            clear H1
            have HC11 := Aside0.mk H
            clear H
            go_upto_region 6 with (fail)
            go_cut [37] (fun v37 wc => ∃ (kq : Nat) (x37_10 : Bool), v37 = .bool x37_10 ∧ Aside0 (quoinref01_Byte.j2 kq a0 a2 x8_1 x37_10 = some (r1, r2)) ∧ Aside0 (kq ≤ kj3) ∧ Aside0 (Below w.heap.size w wc))
            case first =>
              have H := HC11.out
              clear HC11
              by_cases c12 : x9_1 = a1
              · rw [if_pos c12] at H
                have c12b0 : (x9_1 == a1) = true := beq_iff_eq.mpr c12
                have c12b1 : (x9_1 != a1) = false := bne_eq_false_iff_eq.mpr c12
                clear c12
                (first | rw [c12b0] | (simp only [i64_w, i32_w]; rw [c12b0]) | skip)
                have H' := Aside0.mk H
                clear H
                go_wp2
                go_meet
                case rel => exact ⟨_, (decide (a1 < 1)), (by first | rfl | (simp; done) | (simp [*]; done)), H', ⟨by have := HK1.out; have := HJ3.out; first | omega | exact Nat.le_refl _⟩, ⟨by repeat (first | (with_reducible first | exact HB.out | apply below_alloc | apply pw_below_drewN | apply below_drew1) | exact HB.out)⟩⟩
              · rw [if_neg c12] at H
                have c12b0 : (x9_1 == a1) = false := beq_eq_false_iff_ne.mpr c12
                have c12b1 : (x9_1 != a1) = true := bne_iff_ne.mpr c12
                (first | rw [c12b0] | (simp only [i64_w, i32_w]; rw [c12b0]) | skip)
                have H' := Aside0.mk H
                clear H
                go_wp2
                go_meet
                case rel => exact ⟨_, (true), (by first | rfl | (simp; done) | (simp [*]; done)), H', ⟨by have := HK1.out; have := HJ3.out; first | omega | exact Nat.le_refl _⟩, ⟨by repeat (first | (with_reducible first | exact HB.out | apply below_alloc | apply pw_below_drewN | apply below_drew1) | exact HB.out)⟩⟩
            case rest =>
              clear HC11
              try clear c1
              try clear p2
              try clear c3
              try clear c5
              try clear c5b0
              try clear c6
              try clear p6
              try clear c7
              try clear c7b0
              try clear c8
              try clear c8b0
              try clear p9
              try clear q9
              try clear hx9
              try clear c10
              try clear c10b0
              try clear c10b1
              try clear c12
              try clear c12b0
              try clear c12b1
              try clear p2
              try clear p9
              try clear q9
              obtain ⟨kq, x37_10, rfl, HA, HJ10, HB⟩ := hcut
              cases kq with
              | zero => exact absurd HA.out (by simp [quoinref01_Byte.j2])
              | succ kj10 =>
                have H := HA.out
                clear HA
                simp only [quoinref01_Byte.j2] at H
                by_cases c13 : x37_10 = true
                · subst c13
                  have H1 : (some (0, 13)) = some (r1, r2) := by rw [if_pos rfl] at H; exact H
                  clear H
                  have H := H1
                  clear H1
                  simp only [Option.some.injEq, Prod.mk.injEq] at H
                  obtain ⟨rfl, rfl⟩ := H
                  go_wp2
                  go_ret2
                  exact ⟨by first | rfl | (simp [errW_none, errW_some] <;> rfl) | (simp [*, errW_none, errW_some] <;> rfl), by repeat (first | (with_reducible first | exact HB.out | apply below_alloc | apply pw_below_drewN | apply below_drew1) | exact HB.out)⟩
                · replace c13 := Bool.eq_false_iff.mpr c13
                  subst c13
                  have H1 : (quoinref01_Byte.l1 kj10 a0 a2 x8_1 1) = some (r1, r2) := by rw [if_neg (show ¬ (false = true) by decide)] at H; exact H
                  clear H
                  have H := H1
                  clear H1
                  have H' := Aside0.mk H
                  clear H
                  go_wp2
                  go_loopg [8, 10] kj10 (fun kq v8 v10 w' => ∃ (x8_4 : Int) (x10_4 : Int), v8 = .int .i64 x8_4 ∧ v10 = .int .i64 x10_4 ∧ Aside0 (quoinref01_Byte.l1 kq a0 a2 x8_4 x10_4 = some (r1, r2)) ∧ Aside0 (kq ≤ kj10) ∧ Aside0 (Below w.heap.size w w'))
                  case atStart => exact ⟨(x8_1), (1), (by first | rfl | (simp; done) | (simp [*]; done)), (by first | rfl | (simp; done) | (simp [*]; done)), H', ⟨Nat.le_refl _⟩, ⟨by repeat (first | (with_reducible first | exact HB.out | apply below_alloc | apply pw_below_drewN | apply below_drew1) | exact HB.out)⟩⟩
                  case round =>
                    clear H'
                    try clear c1
                    try clear p2
                    try clear c3
                    try clear c5
                    try clear c5b0
                    try clear c6
                    try clear p6
                    try clear c7
                    try clear c7b0
                    try clear c8
                    try clear c8b0
                    try clear p9
                    try clear q9
                    try clear hx9
                    try clear c10
                    try clear c10b0
                    try clear c10b1
                    try clear c12
                    try clear c12b0
                    try clear c12b1
                    try clear c13
                    try clear p2
                    try clear p6
                    try clear p9
                    try clear q9
                    obtain ⟨x8_4, x10_4, rfl, rfl, HA, HK4, HB⟩ := hrel
                    cases gk with
                    | zero => exact absurd HA.out (by simp [quoinref01_Byte.l1])
                    | succ k4 =>
                      have H := HA.out
                      clear HA
                      simp only [quoinref01_Byte.l1] at H
                      by_cases c14 : x10_4 = a2
                      · rw [if_pos c14] at H
                        have c14b0 : (x10_4 == a2) = true := beq_iff_eq.mpr c14
                        have c14b1 : (x10_4 != a2) = false := bne_eq_false_iff_eq.mpr c14
                        clear c14
                        simp only [Option.some.injEq, Prod.mk.injEq] at H
                        obtain ⟨rfl, rfl⟩ := H
                        go_wp2
                        go_ret2
                        exact ⟨by first | rfl | (simp [errW_none, errW_some] <;> rfl) | (simp [*, errW_none, errW_some] <;> rfl), by repeat (first | (with_reducible first | exact HB.out | apply below_alloc | apply pw_below_drewN | apply below_drew1) | exact HB.out)⟩
                      · rw [if_neg c14] at H
                        have c14b0 : (x10_4 == a2) = false := beq_eq_false_iff_ne.mpr c14
                        have c14b1 : (x10_4 != a2) = true := bne_iff_ne.mpr c14
                        by_cases c15 : x8_4 ≥ (a0.size : Int)
                        · rw [if_pos c15] at H
                          have c15b0 : decide ((a0.size : Int) ≤ x8_4) = true := decide_eq_true c15
                          clear c15
                          simp only [Option.some.injEq, Prod.mk.injEq] at H
                          obtain ⟨rfl, rfl⟩ := H
                          go_wp2
                          go_ret2
                          exact ⟨by first | rfl | (simp [errW_none, errW_some] <;> rfl) | (simp [*, errW_none, errW_some] <;> rfl), by repeat (first | (with_reducible first | exact HB.out | apply below_alloc | apply pw_below_drewN | apply below_drew1) | exact HB.out)⟩
                        · rw [if_neg c15] at H
                          have c15b0 : decide ((a0.size : Int) ≤ x8_4) = false := decide_eq_false c15
                          clear c15
                          by_cases c16 : 0 ≤ x8_4
                          · rw [if_pos c16] at H
                            have c16b0 : decide (0 ≤ x8_4) = true := decide_eq_true c16
                            clear c16
                            by_cases c17 : x8_4 < (a0.size : Int)
                            · rw [if_pos c17] at H
                              have c17b0 : decide (x8_4 < (a0.size : Int)) = true := decide_eq_true c17
                              clear c17
                              by_cases c19 : (bt a0 x8_4) = 10
                              · rw [if_pos c19] at H
                                have c19b0 : ((bt a0 x8_4) == 10) = true := beq_iff_eq.mpr c19
                                have c19b1 : ((bt a0 x8_4) != 10) = false := bne_eq_false_iff_eq.mpr c19
                                clear c19
                                simp only [Option.some.injEq, Prod.mk.injEq] at H
                                obtain ⟨rfl, rfl⟩ := H
                                have p18 : 0 ≤ (x8_4 : Int) := of_decide_eq_true (by first | (with_reducible assumption) | assumption)
                                have q18 : x8_4 < (a0.size : Int) := of_decide_eq_true (by first | (with_reducible assumption) | assumption)
                                have hx18 := bt_at a0 x8_4
                                replace p18 := eq_true p18
                                replace q18 := eq_true q18
                                go_wp2
                                go_ret2
                                exact ⟨by first | rfl | (simp [errW_none, errW_some] <;> rfl) | (simp [*, errW_none, errW_some] <;> rfl), by repeat (first | (with_reducible first | exact HB.out | apply below_alloc | apply pw_below_drewN | apply below_drew1) | exact HB.out)⟩
                              · rw [if_neg c19] at H
                                have c19b0 : ((bt a0 x8_4) == 10) = false := beq_eq_false_iff_ne.mpr c19
                                have c19b1 : ((bt a0 x8_4) != 10) = true := bne_iff_ne.mpr c19
                                replace H := Option.bind_eq_some_iff.mp H
                                obtain ⟨⟨t352, t353, t354⟩, A200, H⟩ := H
                                replace H : (quoinref01_Byte.l1 k4 a0 a2 (wrap64 (x8_4 + t353)) (wrap64 (x10_4 + 1))) = some (r1, r2) := H
                                have A20 := Aside0.mk A200
                                clear A200
                                have H' := Aside0.mk H
                                clear H
                                have p18 : 0 ≤ (x8_4 : Int) := of_decide_eq_true (by first | (with_reducible assumption) | assumption)
                                have q18 : x8_4 < (a0.size : Int) := of_decide_eq_true (by first | (with_reducible assumption) | assumption)
                                have hx18 := bt_at a0 x8_4
                                replace p18 := eq_true p18
                                replace q18 := eq_true q18
                                go_wp2_with (first | ((with_reducible refine gate_callee (f := 18) rfl ?_); refine goesL_ (some 57) rfl rfl Try.func18 (by kernel_rfl) rfl #[.string a0, .int .i64 x8_4] rfl (by (try simp only [List.map_toArray, List.map_cons, List.map_nil]); first | done | rfl | (simp only [List.length_drop, List.length_take]; rfl)) ?_; (with_reducible refine (quoinref01_Next.calls k4 a0 x8_4 t352 t353 t354 _ A20.out).mono ?_); rintro e w21 ⟨rfl, hb⟩; refine ⟨_, rfl, ?_⟩; have n0_ := Aside0.mk (below_step (by repeat (first | (with_reducible first | exact HB.out | apply below_alloc | apply pw_below_drewN | apply below_drew1) | exact HB.out)) hb); clear HB; have HB := n0_; clear n0_; (try clear hb); (try clear hb2); (try clear hk); (try clear hi)))
                                go_roundg k4
                                case measure => have := HK1.out; have := HJ3.out; have := HJ10.out; have := HK4.out; omega
                                case rel => exact ⟨(wrap64 (x8_4 + t353)), (wrap64 (x10_4 + 1)), (by first | rfl | (simp; done) | (simp [*]; done)), (by first | rfl | (simp; done) | (simp [*]; done)), H', ⟨by have := HK1.out; have := HJ3.out; have := HJ10.out; have := HK4.out; omega⟩, ⟨by repeat (first | (with_reducible first | exact HB.out | apply below_alloc | apply pw_below_drewN | apply below_drew1) | exact HB.out)⟩⟩
                            · rw [if_neg c17] at H
                              exact absurd H (by simp)
                          · rw [if_neg c16] at H
                            exact absurd H (by simp)

end Go.Proofs.Ythiiigbifimckaa.Pt
