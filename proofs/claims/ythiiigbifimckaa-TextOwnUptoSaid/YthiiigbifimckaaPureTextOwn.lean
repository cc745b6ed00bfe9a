/-
  The plain law of TextOwn: runes that were answered may be written over, and what is handed in is not changed. For a text of at most 1048576 bytes and a row of at most 1048576 numbers.
-/
import Derived.Test.YthiiigbifimckaaPown
import Derived.Test.YthiiigbifimckaaTxh
namespace Go.Proofs.Ythiiigbifimckaa.Pure
open Go.RowKit Go.Proofs.Ythiiigbifimckaa.Pt Go.Proofs.YthiiigbifimckaaW.PrintWords Go.Proofs.YthiiigbifimckaaW.PrintLast Go.Proofs.Ythiiigbifimckaa.Tx
set_option linter.unusedVariables false
theorem own_end (l m : List Int) (hl : l.length ≤ 1048576) (hm : m.length ≤ 1048576) (x5 : List Int) (h5 : x5.length ≤ 1048576) (i : Int) (n : Int) (h : ¬ i < n) :
    Ev (fun k => quoinlaw01_TextOwn.l0 k l x5 m m n i) true := by
  refine Ev.step (f := fun k => (quoinref01_Same.f k m m).bind fun t259 => if t259 = true then ((quoinref01_Same.f k l l).bind fun t264 => if t264 = true then some true else some false) else some false) (fun k => ?_)
    (Ev.bind (same_ev m (by omega)) (Ev.pos rfl (Ev.bind (same_ev l (by omega)) (Ev.pos rfl (Ev.now _)))))
  simp only [quoinlaw01_TextOwn.l0]
  have e0 : ([1, 2, 3] : List Int).length = 3 := rfl
  have e1 : ([] : List Int).length = 0 := rfl
  have e2 : ([-9, -9] : List Int).length = 2 := rfl
  rw [if_neg h, if_pos (by omega), if_pos (by omega), Option.bind_some, Option.bind_some, List.nil_append, if_pos (by omega), Option.bind_some]
  have e3 : (l ++ [-9, -9] : List Int).length = l.length + 2 := by simp
  rw [if_pos (by omega), if_pos (by omega), Int.toNat_natCast, List.take_left, join_eq l (by omega), Option.bind_some]
  have e4 : rd (l ++ [-9, -9]) (l.length : Int) = -9 := by simp [rd]
  rw [if_pos (show (l.length : Int) < ((l ++ [-9, -9] : List Int).length : Int) by omega), e4, if_pos rfl, alive_true]
  rfl
theorem own_loop (l m : List Int) (hl : l.length ≤ 1048576) (hm : m.length ≤ 1048576) : ∀ (d i : Nat) (x5 : List Int), x5.length ≤ 1048576 → i ≤ x5.length → x5.length - i = d →
    Ev (fun k => quoinlaw01_TextOwn.l0 k l x5 m m (x5.length : Int) i) true := by
  intro d
  induction d with
  | zero => intro i x5 h5 hi hd; exact own_end l m hl hm x5 h5 i _ (by omega)
  | succ d ih =>
    intro i x5 h5 hi hd
    have e : wrap64 ((i : Int) + 1) = ((i + 1 : Nat) : Int) := by rw [w64] <;> omega
    have e5 : (x5.set i (-7)).length = x5.length := by simp
    have h2 := ih (i + 1) (x5.set i (-7)) (by omega) (by omega) (by omega)
    rw [e5] at h2
    refine Ev.step (f := fun k => quoinlaw01_TextOwn.l0 k l (x5.set i (-7)) m m (x5.length : Int) ((i + 1 : Nat) : Int)) (fun k => ?_) h2
    simp only [quoinlaw01_TextOwn.l0]
    rw [if_pos (by omega), if_pos (by omega), if_pos (by omega), Int.toNat_natCast, e]
theorem own_zero (l m x5 : List Int) (hl : l.length ≤ 1048576) (hm : m.length ≤ 1048576) (h5 : x5.length ≤ 1048576) : Ev (fun k => quoinlaw01_TextOwn.l0 k l x5 m m (x5.length : Int) 0) true := by
  have h := own_loop l m hl hm x5.length 0 x5 h5 (Nat.zero_le _) rfl
  rw [show ((0 : Nat) : Int) = 0 from rfl] at h
  exact h
theorem TextOwn_upto (s : ByteArray) (l : List Int) (hs : s.size ≤ 1048576) (hl : l.length ≤ 1048576) (_hw : ∀ x ∈ l, (Lit.int .i32 x).wf = true) : ∃ k, quoinlaw01_TextOwn.f k s l = some true := by
  have hs' : s.size ≤ 35184372087808 := by omega
  have hlen := runesP_len s s.size 0 [] (Nat.zero_le _) (Nat.zero_le _)
  unfold quoinlaw01_TextOwn.f
  refine Ev.rounds ?_
  refine Ev.some_bind (runes_eq s hs') ?_
  refine Ev.some_bind (runes_eq s hs') ?_
  refine Ev.bind (rrunes_ev s hs') ?_
  exact own_zero l _ _ hl (by omega) (by omega)
end Go.Proofs.Ythiiigbifimckaa.Pure
