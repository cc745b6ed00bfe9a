/-
  Small words for the hand-proved contracts: a string's iterator in whatever block, blocks of the call's own beside what a callee changes.
-/
import Derived.Test.YthiiigbifimckaaWWords
import Derived.Test.YthiiigbifimckaaWLast
import Derived.Laws.Runes
import Derived.Laws.RangeAny
import Derived.Laws.RangeString
import Derived.Lib.Hide
import Derived.Lib.OthersKept
import Derived.Outline
namespace Go.Proofs.Ythiiigbifimckaa.Hw
open Go.RowKit Go.Proofs.YthiiigbifimckaaW.PrintWords

theorem below_iter (w : World) (s : ByteArray) (p : Nat) : Below w.heap.size w (w.iter s p) := below_alloc (Below.refl _ _) _
theorem dec_pos (s : ByteArray) (pos : Nat) (h : pos < s.size) : 1 ≤ (Utf8.decode s pos).2 := by
  by_cases ha : (s[pos]'h).toNat < 128
  · rw [decode_ascii s pos h ha]; exact Nat.le_refl _
  · exact (decode_high s pos h (by omega)).2
theorem blk_lt' {w : World} {k : Nat} {o : Obj} (h : w.heap[k]? = some o) : k < w.heap.size := (Array.getElem?_eq_some_iff.1 h).1
theorem blk_iterAt {w : World} {k j : Nat} {o : Obj} {s : ByteArray} {p : Nat} (h : w.heap[k]? = some o) (hne : k ≠ j) : (w.iterAt j s p).heap[k]? = some o := by
  simp only [World.iterAt]
  rw [Array.getElem?_setIfInBounds_ne (fun e => hne e.symm)]
  exact h
theorem cell_of {w : World} {g t j : Nat} {cs : Array Value} {fr : Nat × Nat} {u : Value} (h : w.heap[g]? = some (.cells cs t fr)) (hu : cs[j]? = some u) : w.cell? ⟨g, j, none⟩ = some u := by
  rw [Lib.cell_of_heap h]; exact hu
/-- a builder stands behind new blocks and draws -/
theorem isB_below {B b : Nat} {bs : List Value} {w w1 : World} (h : Lib.IsBuilderF 69 5 B b bs w) (hb : Below w.heap.size w w1) : Lib.IsBuilderF 69 5 B b bs w1 := by
  have go : ∀ p, Lib.BuilderAtF 69 5 B b p bs w → Lib.BuilderAtF 69 5 B b p bs w1 := by
    rintro p ⟨h0, v, hv, ho, hne⟩
    refine ⟨h0, v, blk_below hv hb, ?_, hne⟩
    refine ⟨ho.1, ?_⟩
    rcases ho.2 with ⟨rfl, hn⟩ | ⟨g, cap, cur, fz, rfl, hbg, hg, hfz, hnc, hcm, hcs, htake⟩
    · exact .inl ⟨rfl, hn⟩
    · exact .inr ⟨g, cap, cur, fz, rfl, hbg, blk_below hg hb, hfz, hnc, hcm, hcs, htake⟩
  exact h.elim (fun x => .inl (go _ x)) (fun x => .inr (go _ x))
theorem isB_step {b : Nat} {acc p : List UInt8} {cs : List Value} {w1 : World} (h : Lib.BuilderAtF 69 5 b b (.pointer (some ⟨b, 0, none⟩)) (Lib.byteCells acc ++ cs) w1) (hp : cs = Lib.byteCells p) : Lib.IsBuilderF 69 5 b b (Lib.byteCells (acc ++ p)) w1 := by
  refine Or.inr ?_
  rw [Lib.byteCells_append, ← hp]
  exact h
theorem q_tmod (x y : Int) (h : 0 ≤ x) (h2 : x ≤ 255) : (IntKind.u32.wrap x).tmod y = x % 4294967296 % y := by
  have e : IntKind.u32.wrap x = x := by simp [IntKind.wrap, IntKind.signed, IntKind.bits]; omega
  rw [e, Int.tmod_eq_emod_of_nonneg h, Int.emod_eq_of_lt h (by omega : x < 4294967296)]
theorem q_u32 (x : Int) (s : ByteArray) (i : Int) : x * 64 % 4294967296 + bt s i % 64 = (x * 64 + bt s i % 64) % 4294967296 := by
  have := bt_range s i
  omega
end Go.Proofs.Ythiiigbifimckaa.Hw
