/- Functions of the program as plain Lean functions, each with the proof that its call comes to the same answer, and the row of the statement: written by a program of this session out of the translation. No condition beyond those in the texts. -/
import Derived.Test.YthiiigbifimckaaPtx0
import Derived.Test.YthiiigbifimckaaPtx1
import Derived.Test.YthiiigbifimckaaPtx3
import Derived.Test.YthiiigbifimckaaPtx9
namespace Go.Proofs.Ythiiigbifimckaa.Pt
open Go.RowKit Go.Proofs.YthiiigbifimckaaW.PrintWords Go.Proofs.YthiiigbifimckaaW.PrintLast Go.Proofs.YthiiigbifimckaaW.PrintMore
attribute [local go_sem] max2_int min2_int max_two min_two max_three min_three max_four min_four   -- for this text's walks alone
set_option linter.unusedVariables false
set_option linter.unusedSimpArgs false

attribute [local go_sem high] eqA33
/-! ### text_Quoted: function 27 -/
section
open Go.Proofs.Ythiiigbifimckaa.Hw
def text_Quoted.l (s : ByteArray) (a : Int) : Nat → Nat → List UInt8 → Option (ByteArray × Int × Int × Int)
 | 0, _, _ => none
 | k + 1, i, acc => if i < s.size then ((text_Next.f s i).bind fun t =>
   if t.1 = 34 then (if acc.length ≤ 140737488355328 then (if (acc.length : Int) > 4096 then some (⟨#[]⟩, 0, 12, a) else some (⟨acc.toArray⟩, wrap64 ((i : Int) + 1), 0, 0)) else none)
   else if t.2.2 = false ∨ t.1 < 32 ∨ t.1 = 127 then some (⟨#[]⟩, 0, 12, a)
   else if t.1 = 92 then ((text_escape.f 20 (s.extract i s.size)).bind fun u => if u.2 = 0 then some (⟨#[]⟩, 0, 12, a) else if 1 ≤ u.2 ∧ u.2 ≤ 100 ∧ acc.length + u.1.size ≤ 140737488355328 then text_Quoted.l s a k (i + u.2.toNat) (acc ++ u.1.data.toList) else none)
   else if 1 ≤ t.2.1 ∧ t.2.1 ≤ 4 ∧ i + t.2.1.toNat ≤ s.size ∧ acc.length + t.2.1.toNat ≤ 140737488355328 then text_Quoted.l s a k (i + t.2.1.toNat) (acc ++ (s.extract i (i + t.2.1.toNat)).data.toList) else none)
   else some (⟨#[]⟩, 0, 12, a)
def text_Quoted.f (a0 : ByteArray) (a1 : Int) : Option (ByteArray × Int × Int × Int) :=
 if a1 < 0 then some (⟨#[]⟩, 0, 13, a1) else if a1 ≥ (a0.size : Int) then some (⟨#[]⟩, 0, 13, a1) else
 if a0.size ≤ 140737488355328 then (if bt a0 a1 = 34 then text_Quoted.l a0 a1 (a0.size + 1) (a1.toNat + 1) [] else some (⟨#[]⟩, 0, 12, a1)) else none
set_option maxHeartbeats 8000000 in
set_option maxRecDepth 100000 in
theorem text_Quoted.calls (a0 : ByteArray) (a1 : Int) (r1 : ByteArray) (r2 r3 r4 : Int) (w : World) (h : text_Quoted.f a0 a1 = some (r1, r2, r3, r4)) :
  Calls Try.prog 27 #[.string a0, .int .i64 a1] w fun e w' => e = .returned (.tuple #[.string r1, .int .i64 r2, .agg #[.int .i64 r3, .int .i64 r4]]) ∧ Below w.heap.size w w' := by
 have hu33 := Try.underlying33
 have hu69 := Try.underlying69
 unfold text_Quoted.f at h
 by_cases c1 : a1 < 0
 ·rw [if_pos c1] at h
  simp only [Option.some.injEq, Prod.mk.injEq] at h
  obtain ⟨rfl, rfl, rfl, rfl⟩ := h
  have c1b : decide (a1 < 0) = true := decide_eq_true c1
  go_enter Try.func27, Try.ntmps27
  go_wp2
  refine bodyPost_ret (results_list (rs := [.tmp 4, .tmp 5, .cell 6 33]) rfl (by simp) (.tmp (.tmp (.cell w.heap.size 33 #[.int .i64 13, .int .i64 a1] (0, 0) _ rfl (by simpa using heap_alloc_new w _) Try.underlying33 rfl (by kernel_rfl) .nil)))) rfl ?_
  exact ⟨rfl, below_alloc (Below.refl _ _) _⟩
 ·rw [if_neg c1] at h
  have c1b : decide (a1 < 0) = false := decide_eq_false c1
  by_cases c2 : a1 ≥ (a0.size : Int)
  ·rw [if_pos c2] at h
   simp only [Option.some.injEq, Prod.mk.injEq] at h
   obtain ⟨rfl, rfl, rfl, rfl⟩ := h
   have c2b : decide ((a0.size : Int) ≤ a1) = true := decide_eq_true c2
   go_enter Try.func27, Try.ntmps27
   go_wp2
   refine bodyPost_ret (results_list (rs := [.tmp 4, .tmp 5, .cell 6 33]) rfl (by simp) (.tmp (.tmp (.cell w.heap.size 33 #[.int .i64 13, .int .i64 a1] (0, 0) _ rfl (by simpa using heap_alloc_new w _) Try.underlying33 rfl (by kernel_rfl) .nil)))) rfl ?_
   exact ⟨rfl, below_alloc (Below.refl _ _) _⟩
  ·rw [if_neg c2] at h
   have c2b : decide ((a0.size : Int) ≤ a1) = false := decide_eq_false c2
   by_cases c3 : a0.size ≤ 140737488355328
   case neg => rw [if_neg c3] at h; exact absurd h (by simp)
   rw [if_pos c3] at h
   obtain ⟨p, rfl⟩ : ∃ p : Nat, a1 = p := ⟨a1.toNat, by omega⟩
   have hp : p < a0.size := by omega
   have hbt : bt a0 p = ((a0[p]'hp).toNat : Int) := by simp [bt, hp]
   rw [hbt] at h
   by_cases c4 : ((a0[p]'hp).toNat : Int) = 34
   case neg =>
    rw [if_neg c4] at h
    simp only [Option.some.injEq, Prod.mk.injEq] at h
    obtain ⟨rfl, rfl, rfl, rfl⟩ := h
    have c4b : (((a0[p]'hp).toNat : Int) != 34) = true := bne_iff_ne.mpr c4
    clear hbt
    go_enter Try.func27, Try.ntmps27
    go_wp2
    go_region
    all_goals
     go_wp2
     refine bodyPost_ret (results_list (rs := [.tmp 4, .tmp 5, .cell 6 33]) rfl (by simp) (.tmp (.tmp (.cell w.heap.size 33 #[.int .i64 12, .int .i64 p] (0, 0) _ rfl (by first | exact blk_below (heap_alloc_new w _) (below_drew (below_alloc (Below.refl _ _) _)) | exact blk_below (heap_alloc_new w _) (below_alloc (Below.refl _ _) _)) Try.underlying33 rfl (by kernel_rfl) .nil)))) rfl ?_
     exact ⟨rfl, by first | exact below_drew (below_alloc (below_alloc (Below.refl _ _) _) _) | exact below_alloc (below_alloc (Below.refl _ _) _) _⟩
   rw [if_pos c4] at h
   have c4b : (((a0[p]'hp).toNat : Int) != 34) = false := by simp [c4]
   clear hbt c4
   go_enter Try.func27, Try.ntmps27
   go_wp2
   have HQ := Aside0.mk (show text_Quoted.l a0 p (a0.size + 1) (p + 1) [] = some (r1, r2, r3, r4) by rw [Int.toNat_natCast] at h; exact h)
   clear h
   have C3 := Aside0.mk c3
   clear c3
   go_loopg [9] (a0.size + 1) (fun kq v9 w' => ∃ (i : Nat) (acc : List UInt8), v9 = .int .i64 i ∧ Aside0 (text_Quoted.l a0 p kq i acc = some (r1, r2, r3, r4)) ∧ Aside0 (kq ≤ a0.size + 1) ∧ Aside0 (Lib.IsBuilderF 69 5 (w.heap.size + 1 + 1) (w.heap.size + 1 + 1) (Lib.byteCells acc) w') ∧ Aside0 (w'.heap[w.heap.size]? = some (.cells #[.int .i64 0, .int .i64 0] 33 (0, 0))) ∧ Aside0 (w'.heap[w.heap.size + 1]? = some (.cells #[.int .i64 12, .int .i64 p] 33 (0, 0))) ∧ Aside0 (Below w.heap.size w w') ∧ Aside0 (w.heap.size + 1 + 1 < w'.heap.size))
   case atStart =>
    refine ⟨p + 1, [], by go_num, HQ, ⟨Nat.le_refl _⟩, ⟨?_⟩, ⟨?_⟩, ⟨?_⟩, ⟨?_⟩, ⟨by simp⟩⟩
    ·have h0 := Lib.IsBuilderF.of (Lib.fresh_isBuilder 69 5 ((w.alloc (.cells #[.int .i64 0, .int .i64 0] 33)).alloc (.cells #[.int .i64 12, .int .i64 p] 33)))
     rw [World.size_alloc, World.size_alloc] at h0
     exact h0
    ·exact blk_below (blk_below (heap_alloc_new w _) (below_alloc (Below.refl _ _) _)) (below_alloc (Below.refl _ _) _)
    ·have h1 := heap_alloc_new (w.alloc (.cells #[.int .i64 0, .int .i64 0] 33)) (.cells #[.int .i64 12, .int .i64 p] 33)
     rw [World.size_alloc] at h1
     exact blk_below h1 (below_alloc (Below.refl _ _) _)
    ·exact below_alloc (below_alloc (below_alloc (Below.refl _ _) _) _) _
   case round =>
    clear HQ
    obtain ⟨i, acc, rfl, HA, HK, HI, H0, H1, HB, HS⟩ := hrel
    cases gk with
    | zero => exact absurd HA.out (by simp [text_Quoted.l])
    | succ k1 =>
     have H := HA.out
     clear HA
     simp only [text_Quoted.l] at H
     by_cases hi : i < a0.size
     case neg =>
      rw [if_neg hi] at H
      have hd1 : decide ((i : Int) < (a0.size : Int)) = false := decide_eq_false (by omega)
      have hd2 : decide (i < a0.size) = false := decide_eq_false (by omega)
      simp only [Option.some.injEq, Prod.mk.injEq] at H
      obtain ⟨rfl, rfl, rfl, rfl⟩ := H
      have z0 := cell_of H0.out (j := 0) rfl
      have z1 := cell_of H0.out (j := 1) rfl
      have y0 := Lib.frozen_of_heap H0.out 0
      have y1 := Lib.frozen_of_heap H0.out 1
      have x0 := cell_of H1.out (j := 0) rfl
      have x1 := cell_of H1.out (j := 1) rfl
      go_wp2
      go_region
      all_goals
       go_wp2
       refine bodyPost_ret (results_list (rs := [.tmp 4, .tmp 5, .cell 6 33]) rfl (by simp) (.tmp (.tmp (.cell w.heap.size 33 #[.int .i64 12, .int .i64 p] (0, 0) _ rfl (by refine blk_put (cs := #[.int .i64 12, .int .i64 0]) ?_ 1 _ rfl; refine blk_put (cs := #[.int .i64 0, .int .i64 0]) ?_ 0 _ rfl; exact H0.out) Try.underlying33 rfl (by kernel_rfl) .nil)))) rfl ?_
       exact ⟨rfl, by first | exact below_set (below_set HB.out (Nat.le_refl _)) (Nat.le_refl _) | exact below_drew (below_set (below_set HB.out (Nat.le_refl _)) (Nat.le_refl _)) | exact below_set (below_set (below_drew HB.out) (Nat.le_refl _)) (Nat.le_refl _)⟩
     rw [if_pos hi] at H
     have hd1 : decide ((i : Int) < (a0.size : Int)) = true := decide_eq_true (by omega)
     have hd2 : decide (i < a0.size) = true := decide_eq_true (by omega)
     replace H := Option.bind_eq_some_iff.mp H
     obtain ⟨⟨t1, t2, t3⟩, hn, H⟩ := H
     have Hn := Aside0.mk hn
     clear hn
     simp only at H
     by_cases c34 : t1 = 34
     ·rw [if_pos c34] at H
      subst c34
      by_cases hl : acc.length ≤ 140737488355328
      case neg => rw [if_neg hl] at H; exact absurd H (by simp)
      rw [if_pos hl] at H
      go_wp2_with fail
      refine (text_Next.calls _ _ _ _ _ _ Hn.out).mono ?_
      rintro e w1 ⟨rfl, hbn⟩
      have HIa := Aside0.mk (isB_below HI.out hbn)
      have H0a := Aside0.mk (blk_below H0.out hbn)
      have H1a := Aside0.mk (blk_below H1.out hbn)
      have HBa := Aside0.mk (below_then HB.out HB.out.size hbn)
      have HSa := Aside0.mk (Nat.lt_of_lt_of_le HS.out hbn.size)
      clear HI H0 H1 HB HS hbn
      go_wp2_with fail
      refine (Try.Builder_Len_f (w.heap.size + 1 + 1) (w.heap.size + 1 + 1) _ _ HIa.out).mono ?_
      rintro e w2 ⟨rfl, rfl⟩
      rw [Lib.byteCells_length]
      by_cases c5 : (acc.length : Int) > 4096
      ·rw [if_pos c5] at H
       have c5b : decide ((4096 : Int) < (acc.length : Int)) = true := decide_eq_true c5
       have c5c : decide (4096 < acc.length) = true := decide_eq_true (by omega)
       simp only [Option.some.injEq, Prod.mk.injEq] at H
       obtain ⟨rfl, rfl, rfl, rfl⟩ := H
       have z0 := cell_of H0a.out (j := 0) rfl
       have z1 := cell_of H0a.out (j := 1) rfl
       have y0 := Lib.frozen_of_heap H0a.out 0
       have y1 := Lib.frozen_of_heap H0a.out 1
       have x0 := cell_of H1a.out (j := 0) rfl
       have x1 := cell_of H1a.out (j := 1) rfl
       go_wp2
       go_region
       all_goals
        go_wp2
        refine bodyPost_ret (results_list (rs := [.tmp 4, .tmp 5, .cell 6 33]) rfl (by simp) (.tmp (.tmp (.cell w.heap.size 33 #[.int .i64 12, .int .i64 p] (0, 0) _ rfl (by refine blk_put (cs := #[.int .i64 12, .int .i64 0]) ?_ 1 _ rfl; refine blk_put (cs := #[.int .i64 0, .int .i64 0]) ?_ 0 _ rfl; exact H0a.out) Try.underlying33 rfl (by kernel_rfl) .nil)))) rfl ?_
        exact ⟨rfl, by first | exact below_set (below_set HBa.out (Nat.le_refl _)) (Nat.le_refl _) | exact below_drew (below_set (below_set HBa.out (Nat.le_refl _)) (Nat.le_refl _)) | exact below_set (below_set (below_drew HBa.out) (Nat.le_refl _)) (Nat.le_refl _)⟩
      ·rw [if_neg c5] at H
       have c5b : decide ((4096 : Int) < (acc.length : Int)) = false := decide_eq_false c5
       have c5c : decide (4096 < acc.length) = false := decide_eq_false (by omega)
       simp only [Option.some.injEq, Prod.mk.injEq] at H
       obtain ⟨rfl, rfl, rfl, rfl⟩ := H
       go_wp2_with fail
       refine (Try.Builder_String_any_k (w.heap.size + 1 + 1) (w.heap.size + 1 + 1) acc _ HIa.out (by have := HSa.out; omega)).mono ?_
       rintro e w3 ⟨rfl, h1, hb1, hk1⟩
       have H0b := Aside0.mk ((hb1.block _ (by omega)).trans H0a.out)
       have H1b := Aside0.mk ((hb1.block _ (by omega)).trans H1a.out)
       have HBb := Aside0.mk (HBa.out.trans (B := w.heap.size) ⟨hb1.os, hb1.tape, hb1.output, hb1.size, fun i hi => hb1.block i (by omega)⟩)
       clear h1 hb1 hk1
       have z0 := cell_of H0b.out (j := 0) rfl
       have z1 := cell_of H0b.out (j := 1) rfl
       have y0 := Lib.frozen_of_heap H0b.out 0
       have y1 := Lib.frozen_of_heap H0b.out 1
       have x0 := cell_of H1b.out (j := 0) rfl
       have x1 := cell_of H1b.out (j := 1) rfl
       go_wp2
       refine bodyPost_ret (results_list (rs := [.tmp 4, .tmp 5, .cell 6 33]) rfl (by simp) (.tmp (.tmp (.cell w.heap.size 33 #[.int .i64 0, .int .i64 0] (0, 0) _ rfl (by refine blk_put (cs := #[.int .i64 0, .int .i64 0]) ?_ 1 _ rfl; refine blk_put (cs := #[.int .i64 0, .int .i64 0]) ?_ 0 _ rfl; exact H0b.out) Try.underlying33 rfl (by kernel_rfl) .nil)))) rfl ?_
       exact ⟨rfl, by first | exact below_set (below_set HBb.out (Nat.le_refl _)) (Nat.le_refl _) | exact below_drew (below_set (below_set HBb.out (Nat.le_refl _)) (Nat.le_refl _)) | exact below_set (below_set (below_drew HBb.out) (Nat.le_refl _)) (Nat.le_refl _)⟩
     rw [if_neg c34] at H
     have b34 : (t1 == (34 : Int)) = false := beq_eq_false_iff_ne.mpr c34
     by_cases ce : t3 = false ∨ t1 < 32 ∨ t1 = 127
     ·rw [if_pos ce] at H
      simp only [Option.some.injEq, Prod.mk.injEq] at H
      obtain ⟨rfl, rfl, rfl, rfl⟩ := H
      by_cases c6 : t3 = false
      ·subst c6
       go_wp2_with fail
       refine (text_Next.calls _ _ _ _ _ _ Hn.out).mono ?_
       rintro e w1 ⟨rfl, hbn⟩
       have HIa := Aside0.mk (isB_below HI.out hbn)
       have H0a := Aside0.mk (blk_below H0.out hbn)
       have H1a := Aside0.mk (blk_below H1.out hbn)
       have HBa := Aside0.mk (below_then HB.out HB.out.size hbn)
       have HSa := Aside0.mk (Nat.lt_of_lt_of_le HS.out hbn.size)
       clear HI H0 H1 HB HS hbn
       have z0 := cell_of H0a.out (j := 0) rfl
       have z1 := cell_of H0a.out (j := 1) rfl
       have y0 := Lib.frozen_of_heap H0a.out 0
       have y1 := Lib.frozen_of_heap H0a.out 1
       have x0 := cell_of H1a.out (j := 0) rfl
       have x1 := cell_of H1a.out (j := 1) rfl
       go_wp2
       go_region
       all_goals
        go_wp2
        refine bodyPost_ret (results_list (rs := [.tmp 4, .tmp 5, .cell 6 33]) rfl (by simp) (.tmp (.tmp (.cell w.heap.size 33 #[.int .i64 12, .int .i64 p] (0, 0) _ rfl (by refine blk_put (cs := #[.int .i64 12, .int .i64 0]) ?_ 1 _ rfl; refine blk_put (cs := #[.int .i64 0, .int .i64 0]) ?_ 0 _ rfl; exact H0a.out) Try.underlying33 rfl (by kernel_rfl) .nil)))) rfl ?_
        exact ⟨rfl, by first | exact below_set (below_set HBa.out (Nat.le_refl _)) (Nat.le_refl _) | exact below_drew (below_set (below_set HBa.out (Nat.le_refl _)) (Nat.le_refl _)) | exact below_set (below_set (below_drew HBa.out) (Nat.le_refl _)) (Nat.le_refl _)⟩
      ·obtain rfl : t3 = true := by simpa using c6
       by_cases c7 : t1 < 32
       ·have b32 : decide (t1 < 32) = true := decide_eq_true c7
        go_wp2_with fail
        refine (text_Next.calls _ _ _ _ _ _ Hn.out).mono ?_
        rintro e w1 ⟨rfl, hbn⟩
        have HIa := Aside0.mk (isB_below HI.out hbn)
        have H0a := Aside0.mk (blk_below H0.out hbn)
        have H1a := Aside0.mk (blk_below H1.out hbn)
        have HBa := Aside0.mk (below_then HB.out HB.out.size hbn)
        have HSa := Aside0.mk (Nat.lt_of_lt_of_le HS.out hbn.size)
        clear HI H0 H1 HB HS hbn
        have z0 := cell_of H0a.out (j := 0) rfl
        have z1 := cell_of H0a.out (j := 1) rfl
        have y0 := Lib.frozen_of_heap H0a.out 0
        have y1 := Lib.frozen_of_heap H0a.out 1
        have x0 := cell_of H1a.out (j := 0) rfl
        have x1 := cell_of H1a.out (j := 1) rfl
        go_wp2
        go_region
        all_goals
         go_wp2
         refine bodyPost_ret (results_list (rs := [.tmp 4, .tmp 5, .cell 6 33]) rfl (by simp) (.tmp (.tmp (.cell w.heap.size 33 #[.int .i64 12, .int .i64 p] (0, 0) _ rfl (by refine blk_put (cs := #[.int .i64 12, .int .i64 0]) ?_ 1 _ rfl; refine blk_put (cs := #[.int .i64 0, .int .i64 0]) ?_ 0 _ rfl; exact H0a.out) Try.underlying33 rfl (by kernel_rfl) .nil)))) rfl ?_
         exact ⟨rfl, by first | exact below_set (below_set HBa.out (Nat.le_refl _)) (Nat.le_refl _) | exact below_drew (below_set (below_set HBa.out (Nat.le_refl _)) (Nat.le_refl _)) | exact below_set (below_set (below_drew HBa.out) (Nat.le_refl _)) (Nat.le_refl _)⟩
       ·obtain rfl : t1 = 127 := by simp at ce; omega
        go_wp2_with fail
        refine (text_Next.calls _ _ _ _ _ _ Hn.out).mono ?_
        rintro e w1 ⟨rfl, hbn⟩
        have HIa := Aside0.mk (isB_below HI.out hbn)
        have H0a := Aside0.mk (blk_below H0.out hbn)
        have H1a := Aside0.mk (blk_below H1.out hbn)
        have HBa := Aside0.mk (below_then HB.out HB.out.size hbn)
        have HSa := Aside0.mk (Nat.lt_of_lt_of_le HS.out hbn.size)
        clear HI H0 H1 HB HS hbn
        have z0 := cell_of H0a.out (j := 0) rfl
        have z1 := cell_of H0a.out (j := 1) rfl
        have y0 := Lib.frozen_of_heap H0a.out 0
        have y1 := Lib.frozen_of_heap H0a.out 1
        have x0 := cell_of H1a.out (j := 0) rfl
        have x1 := cell_of H1a.out (j := 1) rfl
        go_wp2
        go_region
        all_goals
         go_wp2
         refine bodyPost_ret (results_list (rs := [.tmp 4, .tmp 5, .cell 6 33]) rfl (by simp) (.tmp (.tmp (.cell w.heap.size 33 #[.int .i64 12, .int .i64 p] (0, 0) _ rfl (by refine blk_put (cs := #[.int .i64 12, .int .i64 0]) ?_ 1 _ rfl; refine blk_put (cs := #[.int .i64 0, .int .i64 0]) ?_ 0 _ rfl; exact H0a.out) Try.underlying33 rfl (by kernel_rfl) .nil)))) rfl ?_
         exact ⟨rfl, by first | exact below_set (below_set HBa.out (Nat.le_refl _)) (Nat.le_refl _) | exact below_drew (below_set (below_set HBa.out (Nat.le_refl _)) (Nat.le_refl _)) | exact below_set (below_set (below_drew HBa.out) (Nat.le_refl _)) (Nat.le_refl _)⟩
     rw [if_neg ce] at H
     obtain ⟨c6, c7, c8⟩ : t3 = true ∧ ¬ t1 < 32 ∧ t1 ≠ 127 := by simpa using ce
     subst c6
     have b32 : decide (t1 < 32) = false := decide_eq_false c7
     have b127 : (t1 == (127 : Int)) = false := beq_eq_false_iff_ne.mpr c8
     clear ce
     by_cases c92 : t1 = 92
     ·rw [if_pos c92] at H
      subst c92
      clear b34 b32 b127
      replace H := Option.bind_eq_some_iff.mp H
      obtain ⟨⟨u1, u2⟩, hu, H⟩ := H
      have Hu := Aside0.mk hu
      clear hu
      simp only at H
      go_wp2_with fail
      refine (text_Next.calls _ _ _ _ _ _ Hn.out).mono ?_
      rintro e w1 ⟨rfl, hbn⟩
      have HIa := Aside0.mk (isB_below HI.out hbn)
      have H0a := Aside0.mk (blk_below H0.out hbn)
      have H1a := Aside0.mk (blk_below H1.out hbn)
      have HBa := Aside0.mk (below_then HB.out HB.out.size hbn)
      have HSa := Aside0.mk (Nat.lt_of_lt_of_le HS.out hbn.size)
      clear HI H0 H1 HB HS hbn
      go_wp2_with fail
      refine (text_escape.calls 20 _ u1 u2 _ Hu.out).mono ?_
      rintro e w2 ⟨rfl, hbn⟩
      have HIb := Aside0.mk (isB_below HIa.out hbn)
      have H0b := Aside0.mk (blk_below H0a.out hbn)
      have H1b := Aside0.mk (blk_below H1a.out hbn)
      have HBb := Aside0.mk (below_then HBa.out HBa.out.size hbn)
      have HSb := Aside0.mk (Nat.lt_of_lt_of_le HSa.out hbn.size)
      clear HIa H0a H1a HBa HSa hbn
      by_cases c9 : u2 = 0
      ·rw [if_pos c9] at H
       subst c9
       simp only [Option.some.injEq, Prod.mk.injEq] at H
       obtain ⟨rfl, rfl, rfl, rfl⟩ := H
       have z0 := cell_of H0b.out (j := 0) rfl
       have z1 := cell_of H0b.out (j := 1) rfl
       have y0 := Lib.frozen_of_heap H0b.out 0
       have y1 := Lib.frozen_of_heap H0b.out 1
       have x0 := cell_of H1b.out (j := 0) rfl
       have x1 := cell_of H1b.out (j := 1) rfl
       go_wp2
       go_region
       all_goals
        go_wp2
        refine bodyPost_ret (results_list (rs := [.tmp 4, .tmp 5, .cell 6 33]) rfl (by simp) (.tmp (.tmp (.cell w.heap.size 33 #[.int .i64 12, .int .i64 p] (0, 0) _ rfl (by refine blk_put (cs := #[.int .i64 12, .int .i64 0]) ?_ 1 _ rfl; refine blk_put (cs := #[.int .i64 0, .int .i64 0]) ?_ 0 _ rfl; exact H0b.out) Try.underlying33 rfl (by kernel_rfl) .nil)))) rfl ?_
        exact ⟨rfl, by first | exact below_set (below_set HBb.out (Nat.le_refl _)) (Nat.le_refl _) | exact below_drew (below_set (below_set HBb.out (Nat.le_refl _)) (Nat.le_refl _)) | exact below_set (below_set (below_drew HBb.out) (Nat.le_refl _)) (Nat.le_refl _)⟩
      ·rw [if_neg c9] at H
       have b0 : (u2 == (0 : Int)) = false := beq_eq_false_iff_ne.mpr c9
       by_cases cg : 1 ≤ u2 ∧ u2 ≤ 100 ∧ acc.length + u1.size ≤ 140737488355328
       case neg => rw [if_neg cg] at H; exact absurd H (by simp)
       rw [if_pos cg] at H
       obtain ⟨g1, g2, g3⟩ := cg
       obtain ⟨m, rfl⟩ : ∃ m : Nat, u2 = m := ⟨u2.toNat, by omega⟩
       rw [Int.toNat_natCast] at H
       have G3 := Aside0.mk g3
       have H := Aside0.mk H
       clear g3
       go_wp2_with fail
       refine (Bld.WriteString_k (w.heap.size + 1 + 1) (w.heap.size + 1 + 1) _ _ _ HIb.out (by rw [Lib.byteCells_length]; exact G3.out) (by have := HSb.out; omega)).mono ?_
       rintro e w3 ⟨rfl, h1, hb1, hk1⟩
       have HIc := Aside0.mk (isB_step (acc := _) (p := u1.data.toList) h1 (by rw [Lib.strCells_eq]))
       have H0c := Aside0.mk ((hb1.block _ (by omega)).trans H0b.out)
       have H1c := Aside0.mk ((hb1.block _ (by omega)).trans H1b.out)
       have HBc := Aside0.mk (HBb.out.trans (B := w.heap.size) ⟨hb1.os, hb1.tape, hb1.output, hb1.size, fun i hi => hb1.block i (by omega)⟩)
       have HSc := Aside0.mk (Nat.lt_of_lt_of_le HSb.out hb1.size)
       clear h1 hb1 hk1 HIb H0b H1b HBb HSb
       have C3' := C3.out
       go_wp2
       go_roundg k1
       case measure => have := HK.out; omega
       case rel => exact ⟨i + m, _, by go_num, H, ⟨by have := HK.out; omega⟩, HIc, H0c, H1c, HBc, HSc⟩
     rw [if_neg c92] at H
     have b92 : (t1 != (92 : Int)) = true := bne_iff_ne.mpr c92
     by_cases cg : 1 ≤ t2 ∧ t2 ≤ 4 ∧ i + t2.toNat ≤ a0.size ∧ acc.length + t2.toNat ≤ 140737488355328
     case neg => rw [if_neg cg] at H; exact absurd H (by simp)
     rw [if_pos cg] at H
     obtain ⟨g1, g2, g3, g4⟩ := cg
     obtain ⟨m, rfl⟩ : ∃ m : Nat, t2 = m := ⟨t2.toNat, by omega⟩
     rw [Int.toNat_natCast] at H g3 g4
     have G4 := Aside0.mk g4
     have H := Aside0.mk H
     clear g4
     have C3' := C3.out
     have hsl : ∀ W : World, (Instr.slice 9 (.string a0) (some (.int .i64 (i : Int))) (some (.int .i64 ((i : Int) + (m : Int)))) none).run Try.prog W = .ok (.string (a0.extract i (i + m))) W := fun W => (run_slice_string (P := Try.prog) W 9 a0 .i64 .i64 (i : Int) ((i : Int) + (m : Int)) Try.underlying9 (by omega) (by omega) (by omega)).trans (by rw [Int.toNat_natCast, show ((i : Int) + (m : Int)).toNat = i + m by omega])
     go_wp2_with fail
     refine (text_Next.calls _ _ _ _ _ _ Hn.out).mono ?_
     rintro e w1 ⟨rfl, hbn⟩
     have HIa := Aside0.mk (isB_below HI.out hbn)
     have H0a := Aside0.mk (blk_below H0.out hbn)
     have H1a := Aside0.mk (blk_below H1.out hbn)
     have HBa := Aside0.mk (below_then HB.out HB.out.size hbn)
     have HSa := Aside0.mk (Nat.lt_of_lt_of_le HS.out hbn.size)
     clear HI H0 H1 HB HS hbn
     go_wp2_with fail
     refine (Bld.WriteString_k (w.heap.size + 1 + 1) (w.heap.size + 1 + 1) _ _ _ HIa.out (by rw [Lib.byteCells_length]; have := G4.out; simp <;> omega) (by have := HSa.out; omega)).mono ?_
     rintro e w3 ⟨rfl, h1, hb1, hk1⟩
     have HIc := Aside0.mk (isB_step (acc := _) (p := (a0.extract i (i + m)).data.toList) h1 (by rw [Lib.strCells_eq]))
     have H0c := Aside0.mk ((hb1.block _ (by omega)).trans H0a.out)
     have H1c := Aside0.mk ((hb1.block _ (by omega)).trans H1a.out)
     have HBc := Aside0.mk (HBa.out.trans (B := w.heap.size) ⟨hb1.os, hb1.tape, hb1.output, hb1.size, fun i hi => hb1.block i (by omega)⟩)
     have HSc := Aside0.mk (Nat.lt_of_lt_of_le HSa.out hb1.size)
     clear h1 hb1 hk1 HIa H0a H1a HBa HSa
     go_wp2
     go_roundg k1
     case measure => have := HK.out; omega
     case rel => exact ⟨i + m, _, by go_num, H, ⟨by have := HK.out; omega⟩, HIc, H0c, H1c, HBc, HSc⟩

end

/-! ### text_Unquote: function 25 -/
def text_Unquote.f (a0 : ByteArray) : Option (ByteArray × Int) := (text_Quoted.f a0 0).bind fun bt283 => (if (!(bt283.2.2.1 == 0) || (!(bt283.2.2.2 == 0))) = true then (some ((⟨#[]⟩ : ByteArray), 12)) else (if bt283.2.1 = (a0.size : Int) then (some (bt283.1, 0)) else (some ((⟨#[]⟩ : ByteArray), 12))))
set_option maxHeartbeats 8000000 in
set_option maxRecDepth 100000 in
theorem text_Unquote.calls (a0 : ByteArray) (r1 : ByteArray) (r2 : Int) (w : World) (h : text_Unquote.f a0 = some (r1, r2)) :
  Calls Try.prog 25 #[.string a0] w fun e w' => e = .returned (.tuple #[.string r1, .int .i64 r2]) ∧ Below w.heap.size w w' := by
 have hu33 := Try.underlying33
 have HB := Aside0.mk (Below.refl w.heap.size w)
 have H : ((text_Quoted.f a0 0).bind fun bt283 => (if (!(bt283.2.2.1 == 0) || (!(bt283.2.2.2 == 0))) = true then (some ((⟨#[]⟩ : ByteArray), 12)) else (if bt283.2.1 = (a0.size : Int) then (some (bt283.1, 0)) else (some ((⟨#[]⟩ : ByteArray), 12))))) = some (r1, r2) := h
 clear h
 replace H := Option.bind_eq_some_iff.mp H
 obtain ⟨⟨t283, t284, t285, t286⟩, A20, H⟩ := H
 replace H : (if (!(t285 == 0) || (!(t286 == 0))) = true then (some ((⟨#[]⟩ : ByteArray), 12)) else (if t284 = (a0.size : Int) then (some (t283, 0)) else (some ((⟨#[]⟩ : ByteArray), 12)))) = some (r1, r2) := H
 have A2 := Aside0.mk A20
 clear A20
 by_cases c3 : (!(t285 == 0) || (!(t286 == 0))) = true
 ·rw [if_pos c3] at H
  have c3b0 : (!(t285 == 0) || (!(t286 == 0))) = true := c3
  clear c3
  simp only [Option.some.injEq, Prod.mk.injEq] at H
  obtain ⟨rfl, rfl⟩ := H
  go_enter Try.func25, Try.ntmps25
  go_wp2_with (first | ((with_reducible refine gate_callee (f := 27) rfl ?_); refine goesL_ (some 9) rfl rfl Try.func27 (by kernel_rfl) rfl #[.string a0, .int .i64 0] rfl (by (try simp only [List.map_toArray, List.map_cons, List.map_nil]); first | done | rfl | (simp only [List.length_drop, List.length_take]; rfl)) ?_; (with_reducible refine (text_Quoted.calls a0 0 t283 t284 t285 t286 _ A2.out).mono ?_); rintro e w4 ⟨rfl, hb⟩; refine ⟨_, rfl, ?_⟩; have n0_ := Aside0.mk (below_step (by repeat (first | (with_reducible first | exact HB.out | apply below_alloc | apply pw_below_drewN | apply below_drew1) | exact HB.out)) hb); clear HB; have HB := n0_; clear n0_; (try clear hb); (try clear hb2); (try clear hk); (try clear hi)) | ((with_reducible refine gate_dst (N := 6) rfl ?_); (try (refine gate_guard (by rfl) ?_; dsimp only)); refine box_event ?hg (N := 6) ?hd (cs := #[.int .i64 0, .int .i64 0]) (t := 33) ?hr ?_; (case hd => rfl); (case hg => rfl); (case hr => first | (go_simp; done) | (go_simp; rfl)); intro gb287 hg w5 hbox hb; have n0_ := Aside0.mk (below_step (by repeat (first | (with_reducible first | exact HB.out | apply below_alloc | apply pw_below_drewN | apply below_drew1) | exact HB.out)) hb); have n1_ := Aside0.mk (hbox); have n2_ := Aside0.mk ((by rw [hg]; exact (below_size (by repeat (first | (with_reducible first | exact HB.out | apply below_alloc | apply pw_below_drewN | apply below_drew1) | exact HB.out))) : w.heap.size ≤ gb287)); have n3_ := Aside0.mk ((by rw [hg]; exact (below_size (by repeat (first | (with_reducible first | exact HB.out | apply below_alloc | apply pw_below_drewN | apply below_drew1) | exact HB.out))) : w.heap.size ≤ gb287)); clear HB; have HB := n0_; have BK287 := n1_; have GW287 := n2_; have GE287 := n3_; clear n0_ n1_ n2_ n3_; clear hb hbox hg; have hcz6_0 : w5.cell? ⟨gb287, 0, none⟩ = some (.int .i64 0) := (blk_cell BK287.out 0).trans rfl; have hcz6_1 : w5.cell? ⟨gb287, 1, none⟩ = some (.int .i64 0) := (blk_cell BK287.out 1).trans rfl; have hfz6_0 := blk_frozen BK287.out 0; have hfz6_1 := blk_frozen BK287.out 1))
  go_ret2
  exact ⟨by first | rfl | (simp [errW_none, errW_some] <;> rfl) | (simp [*, errW_none, errW_some] <;> rfl), by repeat (first | (with_reducible first | exact HB.out | apply below_alloc | apply pw_below_drewN | apply below_drew1 | refine below_set ?_ GE287.out) | exact HB.out)⟩
 ·rw [if_neg c3] at H
  have c3b0 : (!(t285 == 0) || (!(t286 == 0))) = false := by simpa using c3
  clear c3
  by_cases c7 : t284 = (a0.size : Int)
  ·rw [if_pos c7] at H
   have c7b0 : (t284 == (a0.size : Int)) = true := beq_iff_eq.mpr c7
   have c7b1 : (t284 != (a0.size : Int)) = false := bne_eq_false_iff_eq.mpr c7
   clear c7
   simp only [Option.some.injEq, Prod.mk.injEq] at H
   obtain ⟨rfl, rfl⟩ := H
   go_enter Try.func25, Try.ntmps25
   go_wp2_with (first | ((with_reducible refine gate_callee (f := 27) rfl ?_); refine goesL_ (some 9) rfl rfl Try.func27 (by kernel_rfl) rfl #[.string a0, .int .i64 0] rfl (by (try simp only [List.map_toArray, List.map_cons, List.map_nil]); first | done | rfl | (simp only [List.length_drop, List.length_take]; rfl)) ?_; (with_reducible refine (text_Quoted.calls a0 0 t283 t284 t285 t286 _ A2.out).mono ?_); rintro e w8 ⟨rfl, hb⟩; refine ⟨_, rfl, ?_⟩; have n0_ := Aside0.mk (below_step (by repeat (first | (with_reducible first | exact HB.out | apply below_alloc | apply pw_below_drewN | apply below_drew1) | exact HB.out)) hb); clear HB; have HB := n0_; clear n0_; (try clear hb); (try clear hb2); (try clear hk); (try clear hi)) | ((with_reducible refine gate_dst (N := 6) rfl ?_); (try (refine gate_guard (by rfl) ?_; dsimp only)); refine box_event ?hg (N := 6) ?hd (cs := #[.int .i64 0, .int .i64 0]) (t := 33) ?hr ?_; (case hd => rfl); (case hg => rfl); (case hr => first | (go_simp; done) | (go_simp; rfl)); intro gb287 hg w9 hbox hb; have n0_ := Aside0.mk (below_step (by repeat (first | (with_reducible first | exact HB.out | apply below_alloc | apply pw_below_drewN | apply below_drew1) | exact HB.out)) hb); have n1_ := Aside0.mk (hbox); have n2_ := Aside0.mk ((by rw [hg]; exact (below_size (by repeat (first | (with_reducible first | exact HB.out | apply below_alloc | apply pw_below_drewN | apply below_drew1) | exact HB.out))) : w.heap.size ≤ gb287)); have n3_ := Aside0.mk ((by rw [hg]; exact (below_size (by repeat (first | (with_reducible first | exact HB.out | apply below_alloc | apply pw_below_drewN | apply below_drew1) | exact HB.out))) : w.heap.size ≤ gb287)); clear HB; have HB := n0_; have BK287 := n1_; have GW287 := n2_; have GE287 := n3_; clear n0_ n1_ n2_ n3_; clear hb hbox hg; have hcz10_0 : w9.cell? ⟨gb287, 0, none⟩ = some (.int .i64 0) := (blk_cell BK287.out 0).trans rfl; have hcz10_1 : w9.cell? ⟨gb287, 1, none⟩ = some (.int .i64 0) := (blk_cell BK287.out 1).trans rfl; have hfz10_0 := blk_frozen BK287.out 0; have hfz10_1 := blk_frozen BK287.out 1))
   go_ret2
   exact ⟨by first | rfl | (simp [errW_none, errW_some] <;> rfl) | (simp [*, errW_none, errW_some] <;> rfl), by repeat (first | (with_reducible first | exact HB.out | apply below_alloc | apply pw_below_drewN | apply below_drew1 | refine below_set ?_ GE287.out) | exact HB.out)⟩
  ·rw [if_neg c7] at H
   have c7b0 : (t284 == (a0.size : Int)) = false := beq_eq_false_iff_ne.mpr c7
   have c7b1 : (t284 != (a0.size : Int)) = true := bne_iff_ne.mpr c7
   simp only [Option.some.injEq, Prod.mk.injEq] at H
   obtain ⟨rfl, rfl⟩ := H
   go_enter Try.func25, Try.ntmps25
   go_wp2_with (first | ((with_reducible refine gate_callee (f := 27) rfl ?_); refine goesL_ (some 9) rfl rfl Try.func27 (by kernel_rfl) rfl #[.string a0, .int .i64 0] rfl (by (try simp only [List.map_toArray, List.map_cons, List.map_nil]); first | done | rfl | (simp only [List.length_drop, List.length_take]; rfl)) ?_; (with_reducible refine (text_Quoted.calls a0 0 t283 t284 t285 t286 _ A2.out).mono ?_); rintro e w11 ⟨rfl, hb⟩; refine ⟨_, rfl, ?_⟩; have n0_ := Aside0.mk (below_step (by repeat (first | (with_reducible first | exact HB.out | apply below_alloc | apply pw_below_drewN | apply below_drew1) | exact HB.out)) hb); clear HB; have HB := n0_; clear n0_; (try clear hb); (try clear hb2); (try clear hk); (try clear hi)) | ((with_reducible refine gate_dst (N := 6) rfl ?_); (try (refine gate_guard (by rfl) ?_; dsimp only)); refine box_event ?hg (N := 6) ?hd (cs := #[.int .i64 0, .int .i64 0]) (t := 33) ?hr ?_; (case hd => rfl); (case hg => rfl); (case hr => first | (go_simp; done) | (go_simp; rfl)); intro gb287 hg w12 hbox hb; have n0_ := Aside0.mk (below_step (by repeat (first | (with_reducible first | exact HB.out | apply below_alloc | apply pw_below_drewN | apply below_drew1) | exact HB.out)) hb); have n1_ := Aside0.mk (hbox); have n2_ := Aside0.mk ((by rw [hg]; exact (below_size (by repeat (first | (with_reducible first | exact HB.out | apply below_alloc | apply pw_below_drewN | apply below_drew1) | exact HB.out))) : w.heap.size ≤ gb287)); have n3_ := Aside0.mk ((by rw [hg]; exact (below_size (by repeat (first | (with_reducible first | exact HB.out | apply below_alloc | apply pw_below_drewN | apply below_drew1) | exact HB.out))) : w.heap.size ≤ gb287)); clear HB; have HB := n0_; have BK287 := n1_; have GW287 := n2_; have GE287 := n3_; clear n0_ n1_ n2_ n3_; clear hb hbox hg; have hcz13_0 : w12.cell? ⟨gb287, 0, none⟩ = some (.int .i64 0) := (blk_cell BK287.out 0).trans rfl; have hcz13_1 : w12.cell? ⟨gb287, 1, none⟩ = some (.int .i64 0) := (blk_cell BK287.out 1).trans rfl; have hfz13_0 := blk_frozen BK287.out 0; have hfz13_1 := blk_frozen BK287.out 1))
   go_ret2
   exact ⟨by first | rfl | (simp [errW_none, errW_some] <;> rfl) | (simp [*, errW_none, errW_some] <;> rfl), by repeat (first | (with_reducible first | exact HB.out | apply below_alloc | apply pw_below_drewN | apply below_drew1 | refine below_set ?_ GE287.out) | exact HB.out)⟩

/-! ### quoinref01_digit: function 49 -/
def quoinref01_digit.j0 : Nat → Int → Bool → Option (Int)
 | 0, _, _ => none
 | k + 1, x0, x3 => if x3 = true then (some ((x0 - 48) % 256)) else (if x0 ≥ 97 then (if x0 ≤ 102 then (some (((x0 - 97) % 256) + 10)) else (some (-1))) else (some (-1)))
def quoinref01_digit.f (k : Nat) (a0 : Int) : Option (Int) := if a0 ≥ 48 then (quoinref01_digit.j0 k a0 (decide (a0 ≤ 57))) else (quoinref01_digit.j0 k a0 false)
theorem quoinref01_digit.mono_l : ∀ k, (∀ y0 y1, LeO (quoinref01_digit.j0 k y0 y1) (quoinref01_digit.j0 (k + 1) y0 y1))
 | 0 => fun _ _ r h => by simp [quoinref01_digit.j0] at h
 | k + 1 => by
  have ih0 := quoinref01_digit.mono_l k
  ·intro y0 y1
   unfold quoinref01_digit.j0
   repeat' first
   | (with_reducible exact ih0 _ _)
   | (with_reducible exact LeO.refl _)
   | (with_reducible exact LeO.none _)
   | (with_reducible refine LeO.ite ?_ ?_)
   | (with_reducible refine LeO.bind ?_ (fun _ => ?_))
   | exact ih0 _ _
   | exact LeO.none _
   | refine LeO.ite ?_ ?_
   | refine LeO.bind ?_ (fun _ => ?_)
theorem quoinref01_digit.mono : ∀ a0 k, LeO (quoinref01_digit.f k a0) (quoinref01_digit.f (k + 1) a0) := by
 intro a0 k
 have ih0 := quoinref01_digit.mono_l k
 unfold quoinref01_digit.f
 repeat' first
   | (with_reducible exact ih0 _ _)
   | (with_reducible exact LeO.refl _)
   | (with_reducible exact LeO.none _)
   | (with_reducible refine LeO.ite ?_ ?_)
   | (with_reducible refine LeO.bind ?_ (fun _ => ?_))
   | exact ih0 _ _
   | exact LeO.none _
   | refine LeO.ite ?_ ?_
   | refine LeO.bind ?_ (fun _ => ?_)
set_option maxHeartbeats 8000000 in
set_option maxRecDepth 100000 in
theorem quoinref01_digit.calls (k : Nat) (a0 : Int) (r : Int) (w : World) (h : quoinref01_digit.f k a0 = some r) :
  Calls Try.prog 49 #[.int .u8 a0] w fun e w' => e = .returned (.int .i64 r) ∧ Drawn0 w w' := by
 have H : (if a0 ≥ 48 then (quoinref01_digit.j0 k a0 (decide (a0 ≤ 57))) else (quoinref01_digit.j0 k a0 false)) = some r := h
 clear h
 have HC2 := Aside0.mk H
 clear H
 go_enter Try.func49, Try.ntmps49
 go_upto_region 1 with (fail)
 go_cut [3] (fun v3 wc => ∃ (kq : Nat) (x3_1 : Bool), v3 = .bool x3_1 ∧ Aside0 (quoinref01_digit.j0 kq a0 x3_1 = some r) ∧ Aside0 (kq ≤ k) ∧ Drawn0 w wc)
 case first =>
  have H := HC2.out
  clear HC2
  by_cases c3 : a0 ≥ 48
  ·rw [if_pos c3] at H
   have c3b0 : decide (48 ≤ a0) = true := decide_eq_true c3
   clear c3
   (first | rw [c3b0] | (simp only [i64_w, i32_w]; rw [c3b0]) | skip)
   have H' := Aside0.mk H
   clear H
   go_wp2
   go_meet
   case rel => exact ⟨_, (decide (a0 ≤ 57)), (by first | rfl | (simp; done) | (simp [*]; done)), H', ⟨by first | omega | exact Nat.le_refl _⟩, by repeat (first | exact Drawn0.refl _ | apply Drawn0.step)⟩
  ·rw [if_neg c3] at H
   have c3b0 : decide (48 ≤ a0) = false := decide_eq_false c3
   clear c3
   (first | rw [c3b0] | (simp only [i64_w, i32_w]; rw [c3b0]) | skip)
   have H' := Aside0.mk H
   clear H
   go_wp2
   go_meet
   case rel => exact ⟨_, (false), (by first | rfl | (simp; done) | (simp [*]; done)), H', ⟨by first | omega | exact Nat.le_refl _⟩, by repeat (first | exact Drawn0.refl _ | apply Drawn0.step)⟩
 case rest =>
  clear HC2
  try clear p2
  try clear c3
  try clear c3b0
  obtain ⟨kq, x3_1, rfl, HA, HJ1, ⟨mc1, rfl⟩⟩ := hcut
  cases kq with
  | zero => exact absurd HA.out (by simp [quoinref01_digit.j0])
  | succ kj1 =>
   have H := HA.out
   clear HA
   simp only [quoinref01_digit.j0] at H
   by_cases c4 : x3_1 = true
   ·subst c4
    have H1 : (some ((a0 - 48) % 256)) = some r := by rw [if_pos rfl] at H; exact H
    clear H
    have H := H1
    clear H1
    obtain rfl := Option.some.inj H
    go_wp2
    go_ret
    exact ⟨by first | rfl | (simp; done) | (simp [*]; done), by repeat (first | exact Drawn0.refl _ | apply Drawn0.step)⟩
   ·replace c4 := Bool.eq_false_iff.mpr c4
    subst c4
    have H1 : (if a0 ≥ 97 then (if a0 ≤ 102 then (some (((a0 - 97) % 256) + 10)) else (some (-1))) else (some (-1))) = some r := by rw [if_neg (show ¬ (false = true) by decide)] at H; exact H
    clear H
    have H := H1
    clear H1
    by_cases c5 : a0 ≥ 97
    ·rw [if_pos c5] at H
     have c5b0 : decide (97 ≤ a0) = true := decide_eq_true c5
     clear c5
     by_cases c6 : a0 ≤ 102
     ·rw [if_pos c6] at H
      have c6b0 : decide (a0 ≤ 102) = true := decide_eq_true c6
      clear c6
      obtain rfl := Option.some.inj H
      go_wp2
      go_ret
      exact ⟨by first | rfl | (simp; done) | (simp [*]; done), by repeat (first | exact Drawn0.refl _ | apply Drawn0.step)⟩
     ·rw [if_neg c6] at H
      have c6b0 : decide (a0 ≤ 102) = false := decide_eq_false c6
      clear c6
      obtain rfl := Option.some.inj H
      go_wp2
      go_ret
      exact ⟨by first | rfl | (simp; done) | (simp [*]; done), by repeat (first | exact Drawn0.refl _ | apply Drawn0.step)⟩
    ·rw [if_neg c5] at H
     have c5b0 : decide (97 ≤ a0) = false := decide_eq_false c5
     clear c5
     obtain rfl := Option.some.inj H
     go_wp2
     go_ret
     exact ⟨by first | rfl | (simp; done) | (simp [*]; done), by repeat (first | exact Drawn0.refl _ | apply Drawn0.step)⟩

end Go.Proofs.Ythiiigbifimckaa.Pt
