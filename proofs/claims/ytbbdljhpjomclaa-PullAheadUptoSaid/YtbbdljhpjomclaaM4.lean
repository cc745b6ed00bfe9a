/- The texts Pull10, Pull11, Pull12, Pull13, Pull14, Am70, Pull15, Pull16, Pull17 of this proof. -/
import Derived.Test.YtbbdljhpjomclaaM3
section
namespace Go.Am.Pull
open Go Go.Proofs Go.Am
set_option maxRecDepth 100000
set_option maxHeartbeats 4000000
variable {O : List Ent}
def lf (i : Int) : AV := .agg [vi (-1), vi i, .fz 1 0 []]
theorem qf_tr {g : Plain} {t : Table} {st : List Int} {ts : List AV} {tb : Bool} {tr : List Move} {n : Int} (h : tr ≠ []) : PS.qf g t ⟨st, ts, tb, tr, n⟩ = qcv g t (.ow 1 (st.map vi)) (oc 3 tb ts) (.ow 2 (tr.map Move.av)) (vi n) := by
 cases tr with
 | nil => exact absurd rfl h
 | cons => rfl
theorem qf_snoc {g : Plain} {t : Table} {st : List Int} {ts : List AV} {tb : Bool} {tr : List Move} {m : Move} {n : Int} : PS.qf g t ⟨st, ts, tb, tr ++ [m], n⟩ = qcv g t (.ow 1 (st.map vi)) (oc 3 tb ts) (.ow 2 ((tr ++ [m]).map Move.av)) (vi n) := qf_tr (by simp)
theorem last_qf (hO : ∀ e ∈ O, e.f ≠ 56) {g : Plain} {t : Table} {st : List Int} {a b c : AV} (h : st ≠ []) (hl : st.length < 2 ^ 60) : Ans cx O 56 [.fp 2 (frz 2 (qcv g t (.ow 1 (st.map vi)) a b c)) 0] (vi (st.getD (st.length - 1) 0), []) := by
 show Ans cx O 56 [.fp 2 (.agg (.fz 2 1 (frzL 2 (st.map vi)) :: frzL 2 [a, g.kinds.av vs, g.precs.av Prec.av, g.rules.av vs, g.prods.av Prod.av, vi g.start, t.moves.av (Sl.av Move.av), t.goto.av (Sl.av vi), b, c])) 0] _
 rw [frzL_ints]
 exact last_q hO h hl
noncomputable def fn35 : FnS := (mkA Try.f35 ⟨9930117051542186637832225735, [3, 0, 0], false, []⟩).getD ⟨.skip, 0, [], [], 0, [], false, []⟩
theorem F35 : cx.F 35 = some fn35 := by kernel_rfl   -- (*quoin/pull.parse).take
theorem take_q (hO : ∀ e ∈ O, e.f ≠ 35) (hO5 : ∀ e ∈ O, e.f ≠ 58) (hO7 : ∀ e ∈ O, e.f ≠ 57) (hO3 : ∀ e ∈ O, e.f ≠ 37) (hO6 : ∀ e ∈ O, e.f ≠ 56) {g : Plain} {t : Table} (hok : Ok g t) {p : PS} {k at_ : Int} (hk0 : 0 ≤ k) (hk : k < g.kinds.l.length) (hp : p.Fine t) :
  Ans cx O 35 [.bx (p.qf g t), vi k, vi at_] (match takeS ndP g t k (lf at_) p.fuel p with | (_, e, q) => (vi e, [.bx (q.qf g t)])) := by
 refine ans_q [2, 1, 0] (fn := fn35) F35 (orc_none hO) ?_
 show Wq cx O 9930117051542186637832225735 1 [] _ ⟨[(2, (vi at_)), (1, (vi k)), (0, (.ptr ⟨0, []⟩ 0 0))], [(0, .bx (p.qf g t))], [], false⟩ _
 apply Wq.seq
 refine Wq.rg [6, 2, 1, 0] ?_
 refine .p (vi 0) ?_
 refine .done ⟨[(6, (vi 0)), (2, (vi at_)), (1, (vi k)), (0, (.ptr ⟨0, []⟩ 0 0))], [(0, .bx (p.qf g t))], [], false⟩ ?_
 refine Wq.block ?_ -- 0
 refine Wq.weak [2, 1, 0] rfl ?_
 refine Wq.lp (fun m s => ∃ (q : PS) (H7 : Hp), m = q.fuel ∧ (H7 = [] ∨ ∃ x, H7 = [(7, x)]) ∧ (q.Fine t ∧ takeS ndP g t k (lf at_) p.fuel p = takeS ndP g t k (lf at_) q.fuel q) ∧ s = ⟨[(2, (vi at_)), (1, (vi k)), (0, (.ptr ⟨0, []⟩ 0 0))], (0, .bx (q.qf g t)) :: H7, [], false⟩) ?_ ⟨p, [], rfl, .inl rfl, ⟨hp, rfl⟩, rfl⟩
 rintro m s ⟨q, H7, rfl, hH, ⟨hq, hi⟩, rfl⟩
 have hend : ∀ a b c, oneS ndP g t k (lf at_) q = (a, b, c) → (a > 0 ∨ b ≠ 0) → takeS ndP g t k (lf at_) p.fuel p = (a, b, c) := by
  intro a b c ho hab
  obtain ⟨f, hf⟩ : ∃ f, q.fuel = f + 1 := ⟨q.fuel - 1, by have := hq.n; unfold PS.fuel; omega⟩
  rw [hi, hf, takeS]
  simp only [ho]
  rw [if_pos (by rcases hab with h | h <;> simp [h])]
 have hgo : ∀ c, oneS ndP g t k (lf at_) q = (0, 0, c) → c.Fine t ∧ c.fuel < q.fuel ∧ takeS ndP g t k (lf at_) p.fuel p = takeS ndP g t k (lf at_) c.fuel c := by
  intro c ho
  rcases one_fine ndP_tree hok (d := lf at_) rfl hk0 hk hq ho with ⟨_, _, hf, hn, hlt⟩ | ⟨ha, _⟩ | ⟨ha, _⟩ | ⟨_, hb⟩
  ·refine ⟨hf, by have := hq.n; unfold PS.fuel; omega, ?_⟩
   rw [hi, show q.fuel = c.fuel + 1 by have := hq.n; unfold PS.fuel; omega, takeS]
   simp only [ho]
   rfl
  ·exact absurd ha (by decide)
  ·exact absurd ha (by decide)
  ·exact absurd rfl hb
 have htake : ∀ c, oneS ndP g t k (lf at_) q = c → True := fun _ _ => trivial
 obtain ⟨h1, h2, h3', h4, h5, h6, h7⟩ := hq
 obtain ⟨st, ts, tb, tr, ct⟩ := q
 simp only at h1 h2 h3' h4 h5 h6 h7
 have lmst : (st.map vi).length = st.length := List.length_map _
 have nst : (st.map vi).all noLk = true := noLk_ints
 have nts : noLk (oc 3 tb ts) = true := noLk_oc (noLk_tree h4)
 have hst0 : st ≠ [] := fun h => by rw [h] at h1; simp at h1
 rcases Decidable.em (tr = []) with hnil | htr
 ·subst hnil
  refine Wq.cv ⟨[(2, (vi at_)), (1, (vi k)), (0, (.ptr ⟨0, []⟩ 0 0))], (0, .bx (qcv g t (.ow 1 (st.map vi)) (oc 3 tb ts) (.fz 1 0 []) (vi ct))) :: H7, [], false⟩ rfl ?_
  refine Wq.block ?_ -- 1
  apply Wq.seq
  refine Wq.reg [7, 2, 1, 0] (t1 := [(2, (vi at_)), (1, (vi k)), (0, (.ptr ⟨0, []⟩ 0 0))]) (h1 := [(0, .bx (qcv g t (.ow 1 (st.map vi)) (oc 3 tb ts) (.fz 1 0 []) (vi ct)))]) (d1 := []) (by rcases hH with rfl | ⟨x, rfl⟩ <;> rfl) rfl (by kernel_rfl) (by kernel_rfl) ?_
  refine .p (.ptr ⟨0, []⟩ 0 0) ?_
  refine .r (.ptr ⟨0, []⟩ 0 0) ?_
  iterate 2 (refine .r (.ptr ⟨0, []⟩ 0 7) ?_)
  refine .r (Sl.av (Sl.av Move.av) t.moves) ?_
  refine .p (.ptr ⟨0, []⟩ 0 0) ?_
  iterate 2 (refine .r (.ptr ⟨0, []⟩ 0 0) ?_)
  obtain ⟨x18, e18⟩ : ∃ x : Int, x = st.getD (st.length - 1) 0 := ⟨_, rfl⟩
  have b18 := h2 x18 (by have : st.length - 1 < st.length := (by omega); rw [e18, List.getD, List.getElem?_eq_getElem this]; exact List.getElem_mem this)
  refine .cl F56 rfl rfl (e18 ▸ last_qf hO6 hst0 (by omega)) (expArgs_cons rfl rfl rfl) rfl rfl rfl (vi x18) [(0, .bx (qcv g t (.ow 1 (st.map vi)) (oc 3 tb ts) (.fz 1 0 []) (vi ct)))] ?_
  obtain ⟨r19, e19⟩ : ∃ x : _, x = (t.moves.l.getD x18.toNat default) := ⟨_, rfl⟩
  have m19 := getD_mem e19 (by omega) (by omega)
  have q19 := hok.row r19 m19
  refine .po (fun _ => op_ix e19 (by omega) (by omega) hok.moves) (.fp _ ((Sl.av Move.av) r19) 0) rfl ?_
  refine .p (Sl.av Move.av r19) ?_
  refine .p (vi k) ?_
  obtain ⟨r22, e22⟩ : ∃ x : _, x = (r19.l.getD k.toNat default) := ⟨_, rfl⟩
  have m22 := getD_mem e22 (by omega) (by omega)
  have q22 := hok.move r19 m19 r22 m22
  have em : lkM t (PS.last ⟨st, ts, tb, [], ct⟩) k = r22 := by rw [e22, e19, e18]; rfl
  refine .po (fun _ => op_ix e22 (by omega) (by omega) q19.1) (.fp _ (Move.av r22) 0) rfl ?_
  refine .p (Move.av r22) ?_
  refine .e (.ptr ⟨7, []⟩ 0 0) [(0, .bx (qcv g t (.ow 1 (st.map vi)) (oc 3 tb ts) (.fz 1 0 []) (vi ct))), (7, .bx (.agg [(vi 0), (vi 0)]))] ?_
  refine .sq [(0, .bx (qcv g t (.ow 1 (st.map vi)) (oc 3 tb ts) (.fz 1 0 []) (vi ct))), (7, .bx (Move.av r22))] ?_
  refine .done ⟨[(7, (.ptr ⟨7, []⟩ 0 0)), (2, (vi at_)), (1, (vi k)), (0, (.ptr ⟨0, []⟩ 0 0))], [(0, .bx (qcv g t (.ow 1 (st.map vi)) (oc 3 tb ts) (.fz 1 0 []) (vi ct))), (7, .bx (Move.av r22))], [], false⟩ ?_
  apply Wq.seq
  refine Wq.jn (fun s => s = ⟨[(8, (.bool ((r22.act == 1) || (r22.act == 2)))), (7, (.ptr ⟨7, []⟩ 0 0)), (2, (vi at_)), (1, (vi k)), (0, (.ptr ⟨0, []⟩ 0 0))], [(0, .bx (qcv g t (.ow 1 (st.map vi)) (oc 3 tb ts) (.fz 1 0 []) (vi ct))), (7, .bx (Move.av r22))], [], false⟩) ?_ ?_
  ·refine Wq.rg [8, 7, 2, 1, 0] ?_
   refine .r (.ptr ⟨7, []⟩ 0 0) ?_
   refine .r (vi r22.act) ?_
   iterate 2 (refine .p (.bool (r22.act == 1)) ?_)
   refine Rq.split (dg := 27) rfl (fun h3 => ?_) (fun h3 => ?_) rfl
   ·iterate 3 (refine .sk ?_)
    iterate 2 (refine .p (.bool true) ?_)
    refine .done ⟨[(8, (.bool _)), (7, (.ptr ⟨7, []⟩ 0 0)), (2, (vi _)), (1, (vi _)), (0, (.ptr ⟨0, []⟩ 0 0))], [(0, .bx (qcv g t (.ow 1 (st.map vi)) (oc 3 tb ts) (.fz 1 0 []) (vi ct))), (7, .bx (Move.av r22))], [], false⟩ ?_
    show (⟨[(8, (.bool _)), (7, (.ptr ⟨7, []⟩ 0 0)), (2, (vi _)), (1, (vi _)), (0, (.ptr ⟨0, []⟩ 0 0))], [(0, .bx (qcv g t (.ow 1 (st.map vi)) (oc 3 tb ts) (.fz 1 0 []) (vi ct))), (7, .bx (Move.av r22))], [], false⟩ : St) = _
    first | (cases h3; done) | simp [h3]
   ·refine .r (.ptr ⟨7, []⟩ 0 0) ?_
    refine .r (vi r22.act) ?_
    refine .p (.bool (r22.act == 2)) ?_
    iterate 2 (refine .p (.bool (r22.act == 2)) ?_)
    refine .done ⟨[(8, (.bool _)), (7, (.ptr ⟨7, []⟩ 0 0)), (2, (vi _)), (1, (vi _)), (0, (.ptr ⟨0, []⟩ 0 0))], [(0, .bx (qcv g t (.ow 1 (st.map vi)) (oc 3 tb ts) (.fz 1 0 []) (vi ct))), (7, .bx (Move.av r22))], [], false⟩ ?_
    show (⟨[(8, (.bool _)), (7, (.ptr ⟨7, []⟩ 0 0)), (2, (vi _)), (1, (vi _)), (0, (.ptr ⟨0, []⟩ 0 0))], [(0, .bx (qcv g t (.ow 1 (st.map vi)) (oc 3 tb ts) (.fz 1 0 []) (vi ct))), (7, .bx (Move.av r22))], [], false⟩ : St) = _
    first | (cases h3; done) | simp [h3]
  rintro s rfl
  apply Wq.seq
  apply Wq.seq
  refine Wq.jn (fun s => s = ⟨[(39, (.bool (((r22.act == 1) || (r22.act == 2)) && (decide (ct ≥ 65536))))), (7, (.ptr ⟨7, []⟩ 0 0)), (2, (vi at_)), (1, (vi k)), (0, (.ptr ⟨0, []⟩ 0 0))], [(0, .bx (qcv g t (.ow 1 (st.map vi)) (oc 3 tb ts) (.fz 1 0 []) (vi ct))), (7, .bx (Move.av r22))], [], false⟩) ?_ ?_
  ·refine Wq.rg [39, 7, 2, 1, 0] ?_
   iterate 2 (refine .p (.bool ((r22.act == 1) || (r22.act == 2))) ?_)
   refine Rq.split (dg := 33) rfl (fun hg1 => ?_) (fun hg1 => ?_) rfl
   ·refine .p (.ptr ⟨0, []⟩ 0 0) ?_
    refine .r (.ptr ⟨0, []⟩ 0 0) ?_
    refine .r (.ptr ⟨0, []⟩ 0 10) ?_
    refine .r (vi ct) ?_
    refine .p (.bool (decide (ct ≥ 65536))) ?_
    refine .p (.bool (decide (ct ≥ 65536))) ?_
    refine .done ⟨[(39, (.bool _)), (7, (.ptr ⟨7, []⟩ 0 0)), (2, (vi _)), (1, (vi _)), (0, (.ptr ⟨0, []⟩ 0 0))], [(0, .bx (qcv g t (.ow 1 (st.map vi)) (oc 3 tb ts) (.fz 1 0 []) (vi ct))), (7, .bx (Move.av r22))], [], false⟩ ?_
    show (⟨[(39, (.bool _)), (7, (.ptr ⟨7, []⟩ 0 0)), (2, (vi _)), (1, (vi _)), (0, (.ptr ⟨0, []⟩ 0 0))], [(0, .bx (qcv g t (.ow 1 (st.map vi)) (oc 3 tb ts) (.fz 1 0 []) (vi ct))), (7, .bx (Move.av r22))], [], false⟩ : St) = _
    first | (cases hg1; done) | simp [hg1]
   ·iterate 5 (refine .sk ?_)
    refine .p (.bool false) ?_
    refine .done ⟨[(39, (.bool _)), (7, (.ptr ⟨7, []⟩ 0 0)), (2, (vi _)), (1, (vi _)), (0, (.ptr ⟨0, []⟩ 0 0))], [(0, .bx (qcv g t (.ow 1 (st.map vi)) (oc 3 tb ts) (.fz 1 0 []) (vi ct))), (7, .bx (Move.av r22))], [], false⟩ ?_
    show (⟨[(39, (.bool _)), (7, (.ptr ⟨7, []⟩ 0 0)), (2, (vi _)), (1, (vi _)), (0, (.ptr ⟨0, []⟩ 0 0))], [(0, .bx (qcv g t (.ow 1 (st.map vi)) (oc 3 tb ts) (.fz 1 0 []) (vi ct))), (7, .bx (Move.av r22))], [], false⟩ : St) = _
    first | (cases hg1; done) | simp [hg1]
  rintro s rfl
  refine Wq.cond rfl (fun hx => ?_) (fun hx => ?_)
  ·have hx := hx -- (((r22.act == 1) || (r22.act == 2)) && (decide (ct ≥ 65536)))
   apply Wq.seq
   refine Wq.rg [6] ?_
   refine .p (vi 181) ?_
   refine .done ⟨[(6, (vi 181))], [(0, .bx (qcv g t (.ow 1 (st.map vi)) (oc 3 tb ts) (.fz 1 0 []) (vi ct))), (7, .bx (Move.av r22))], [], false⟩ ?_
   refine Wq.ret ?_
   exact Aq.mk rfl (by rw [hend 0 181 ⟨st, ts, tb, [], ct⟩ (by simp only [oneS, em]; rw [if_pos hx]) (.inr (by decide))]; rfl)
  ·have hc := hx -- not (((r22.act == 1) || (r22.act == 2)) && (decide (ct ≥ 65536)))
   refine Wq.skip ?_
   apply Wq.seq
   refine Wq.rg [9, 7, 2, 1, 0] ?_
   refine .p (vi 0) ?_
   refine .done ⟨[(9, (vi 0)), (7, (.ptr ⟨7, []⟩ 0 0)), (2, (vi at_)), (1, (vi k)), (0, (.ptr ⟨0, []⟩ 0 0))], [(0, .bx (qcv g t (.ow 1 (st.map vi)) (oc 3 tb ts) (.fz 1 0 []) (vi ct))), (7, .bx (Move.av r22))], [], false⟩ ?_
   apply Wq.seq
   apply Wq.seq
   refine Wq.rg [41, 9, 7, 2, 1, 0] ?_
   refine .r (.ptr ⟨7, []⟩ 0 0) ?_
   refine .r (vi r22.act) ?_
   refine .done ⟨[(41, (vi r22.act)), (9, (vi 0)), (7, (.ptr ⟨7, []⟩ 0 0)), (2, (vi at_)), (1, (vi k)), (0, (.ptr ⟨0, []⟩ 0 0))], [(0, .bx (qcv g t (.ow 1 (st.map vi)) (oc 3 tb ts) (.fz 1 0 []) (vi ct))), (7, .bx (Move.av r22))], [], false⟩ ?_
   refine Wq.block ?_ -- 2
   apply Wq.seq
   refine Wq.rg [42, 41, 9, 7, 2, 1, 0] ?_
   iterate 2 (refine .p (.bool (r22.act == 1)) ?_)
   refine .done ⟨[(42, (.bool (r22.act == 1))), (41, (vi r22.act)), (9, (vi 0)), (7, (.ptr ⟨7, []⟩ 0 0)), (2, (vi at_)), (1, (vi k)), (0, (.ptr ⟨0, []⟩ 0 0))], [(0, .bx (qcv g t (.ow 1 (st.map vi)) (oc 3 tb ts) (.fz 1 0 []) (vi ct))), (7, .bx (Move.av r22))], [], false⟩ ?_
   refine Wq.jn (fun s => ∃ (x9 : Int) (q : PS), (q.ts.all isTree = true ∧ (x9 ≠ 0 ∧ q = ⟨st, ts, tb, [], ct⟩ ∧ oneS ndP g t k (lf at_) ⟨st, ts, tb, [], ct⟩ = (0, x9, ⟨st, ts, tb, [], ct⟩) ∨ x9 = 0 ∧ oneS ndP g t k (lf at_) ⟨st, ts, tb, [], ct⟩ = (if r22.act = 1 then 1 else if r22.act = 3 then 2 else 0, if r22.act = 0 then 180 else 0, ⟨q.st, q.ts, q.tb, [] ++ [r22], if r22.act = 1 ∨ r22.act = 2 then ct + 1 else ct⟩))) ∧ s = ⟨[(9, (vi x9)), (7, (.ptr ⟨7, []⟩ 0 0)), (2, (vi at_)), (1, (vi k)), (0, (.ptr ⟨0, []⟩ 0 0))], [(0, .bx (qcv g t (.ow 1 (q.st.map vi)) (oc 3 q.tb q.ts) (.fz 1 0 []) (vi ct))), (7, .bx (Move.av r22))], [], false⟩) ?_ ?_
   ·refine Wq.cond rfl (fun hx => ?_) (fun hx => ?_)
    ·have hx : (r22.act = 1) := by simpa using hx
     refine Wq.rg [9, 7, 2, 1, 0] ?_
     refine .p (.ptr ⟨0, []⟩ 0 0) ?_
     iterate 2 (refine .r (.ptr ⟨0, []⟩ 0 0) ?_)
     refine .r (.ptr ⟨7, []⟩ 0 1) ?_
     refine .r (vi r22.n) ?_
     refine .p (vi at_) ?_
     refine .p (.agg [(vi (-1)), (vi at_), (.fz 1 0 [])]) ?_
     have hans : Ans cx O 57 [.bx (.agg [.ow 1 (st.map vi), oc 3 tb ts]), vi r22.n, lf at_] (.tup [], [.bx (.agg [.ow 1 ((st ++ [r22.n]).map vi), .ow 3 (ts ++ [lf at_])])]) := push_q hO7 rfl (by omega) (by omega) h4 h3'
     refine .cl F57 rfl rfl hans (expArgs_cons rfl (expArgs_cons rfl (expArgs_cons rfl rfl rfl) rfl) rfl) rfl (show noLkL [.bx (.agg [.ow 1 (st.map vi), oc 3 tb ts]), vi r22.n, lf at_] = true by simp only [noLkL, noLk, noLkL_all, nst, nts, lf, Bool.and_self]) (zip_ok rfl rfl) (.tup []) [(0, .bx (qcv g t (.ow 1 ((st ++ [r22.n]).map vi)) (.ow 3 (ts ++ [lf at_])) (.fz 1 0 []) (vi ct))), (7, .bx (Move.av r22))] ?_
     refine .fin (S' := ⟨[(9, (vi 0)), (7, (.ptr ⟨7, []⟩ 0 0)), (2, (vi at_)), (1, (vi k)), (0, (.ptr ⟨0, []⟩ 0 0))], [(0, .bx (qcv g t (.ow 1 ((st ++ [r22.n]).map vi)) (.ow 3 (ts ++ [lf at_])) (.fz 1 0 []) (vi ct))), (7, .bx (Move.av r22))], [], false⟩) (fin_nl (nl_call (cs := [.ow 1 ((st ++ [r22.n]).map vi), .ow 3 (ts ++ [lf at_])]) rfl rfl (by rw [List.all_cons, List.all_cons, noLk, noLkL_all, noLk_ints, noLk, noLkL_all, List.all_append, noLk_tree h4]; rfl) rfl) (by kernel_rfl)) ?_
     refine Jq.mk ⟨0, PS.push ⟨st, ts, tb, [], ct⟩ r22.n (lf at_), ⟨by simp only [PS.push, List.all_append, h4]; rfl, .inr ⟨rfl, ?_⟩⟩, rfl⟩
     simp only [oneS, em]; rw [if_neg (by rw [hc]; exact Bool.false_ne_true), if_neg (by omega), if_neg (by omega), if_neg (by omega)]; simp only [hx]; rfl
    ·have hx : ¬ (r22.act = 1) := by simpa using hx
     apply Wq.seq
     refine Wq.rg [52, 41, 9, 7, 2, 1, 0] ?_
     iterate 2 (refine .p (.bool (r22.act == 2)) ?_)
     refine .done ⟨[(52, (.bool (r22.act == 2))), (41, (vi r22.act)), (9, (vi 0)), (7, (.ptr ⟨7, []⟩ 0 0)), (2, (vi at_)), (1, (vi k)), (0, (.ptr ⟨0, []⟩ 0 0))], [(0, .bx (qcv g t (.ow 1 (st.map vi)) (oc 3 tb ts) (.fz 1 0 []) (vi ct))), (7, .bx (Move.av r22))], [], false⟩ ?_
     refine Wq.jn (fun s => ∃ (x9 : Int) (q : PS), (q.ts.all isTree = true ∧ (x9 ≠ 0 ∧ q = ⟨st, ts, tb, [], ct⟩ ∧ oneS ndP g t k (lf at_) ⟨st, ts, tb, [], ct⟩ = (0, x9, ⟨st, ts, tb, [], ct⟩) ∨ x9 = 0 ∧ oneS ndP g t k (lf at_) ⟨st, ts, tb, [], ct⟩ = (if r22.act = 1 then 1 else if r22.act = 3 then 2 else 0, if r22.act = 0 then 180 else 0, ⟨q.st, q.ts, q.tb, [] ++ [r22], if r22.act = 1 ∨ r22.act = 2 then ct + 1 else ct⟩))) ∧ s = ⟨[(9, (vi x9)), (7, (.ptr ⟨7, []⟩ 0 0)), (2, (vi at_)), (1, (vi k)), (0, (.ptr ⟨0, []⟩ 0 0))], [(0, .bx (qcv g t (.ow 1 (q.st.map vi)) (oc 3 q.tb q.ts) (.fz 1 0 []) (vi ct))), (7, .bx (Move.av r22))], [], false⟩) ?_ ?_
     ·refine Wq.cond rfl (fun hx => ?_) (fun hx => ?_)
      ·have hx : (r22.act = 2) := by simpa using hx
       refine Wq.rg [9, 7, 2, 1, 0] ?_
       refine .p (.ptr ⟨0, []⟩ 0 0) ?_
       refine .r (.ptr ⟨7, []⟩ 0 1) ?_
       refine .r (vi r22.n) ?_
       obtain ⟨x57, q, hr, htq, hans⟩ : ∃ x q, (redS ndP g t r22.n ⟨st, ts, tb, [], ct⟩ = none ∧ x = 170 ∧ q = ⟨st, ts, tb, [], ct⟩ ∨ redS ndP g t r22.n ⟨st, ts, tb, [], ct⟩ = some q ∧ x = 0 ∧ q.tr = [] ∧ q.n = ct) ∧ q.ts.all isTree = true ∧ Ans cx O 58 [.bx (qcv g t (.ow 1 (st.map vi)) (oc 3 tb ts) (.fz 1 0 []) (vi ct)), vi r22.n] (vi x, [.bx (qcv g t (.ow 1 (q.st.map vi)) (oc 3 q.tb q.ts) (.fz 1 0 []) (vi ct))]) := by
        have hra := red_q hO5 hO7 hO3 hok (p := ⟨st, ts, tb, [], ct⟩) ⟨h1, h2, h3', h4, h5, h6, h7⟩ (n := r22.n) (by omega) (by omega)
        cases hq : redS ndP g t r22.n ⟨st, ts, tb, [], ct⟩ with
        | none => rw [hq] at hra; exact ⟨170, ⟨st, ts, tb, [], ct⟩, .inl ⟨rfl, rfl, rfl⟩, h4, hra⟩
        | some q => rw [hq] at hra; have hkq := redS_keeps hq; obtain ⟨qst, qts, qtb, qtr, qn⟩ := q; obtain rfl : qtr = [] := hkq.1; obtain rfl : qn = ct := hkq.2; refine ⟨0, _, .inr ⟨rfl, rfl, rfl, rfl⟩, redS_trees ndP_tree h4 hq, ?_⟩; exact hra
       refine .cl F58 rfl rfl hans (expArgs_cons rfl (expArgs_cons rfl rfl rfl) rfl) rfl (show noLkL [.bx (qcv g t (.ow 1 (st.map vi)) (oc 3 tb ts) (.fz 1 0 []) (vi ct)), vi r22.n] = true by simp only [noLkL, noLk, noLk_qcv, noLkL_all, nst, nts, Bool.and_self]) (zip_ok rfl (by rw [qcv_na, nonAgg_oc]; rfl)) (vi x57) [(0, .bx (qcv g t (.ow 1 (q.st.map vi)) (oc 3 q.tb q.ts) (.fz 1 0 []) (vi ct))), (7, .bx (Move.av r22))] ?_
       refine .p (vi x57) ?_
       refine .fin (S' := ⟨[(9, (vi x57)), (7, (.ptr ⟨7, []⟩ 0 0)), (2, (vi at_)), (1, (vi k)), (0, (.ptr ⟨0, []⟩ 0 0))], [(0, .bx (qcv g t (.ow 1 (q.st.map vi)) (oc 3 q.tb q.ts) (.fz 1 0 []) (vi ct))), (7, .bx (Move.av r22))], [], false⟩) (fin_nl (nl_call rfl rfl (qcv_nl (by rw [noLk, noLkL_all]; exact noLk_ints) (noLk_oc (noLk_tree htq)) rfl rfl) rfl) (by kernel_rfl)) ?_
       refine Jq.mk ⟨x57, q, ⟨htq, ?_⟩, rfl⟩
       rcases hr with ⟨hr, ex, eq⟩ | ⟨hr, ex, hq1, hq2⟩
       ·refine .inl ⟨by rw [ex]; decide, eq, ?_⟩
        simp only [oneS, em]; rw [if_neg (by rw [hc]; exact Bool.false_ne_true), if_neg (by omega), if_neg (by omega), if_pos hx, hr, ex]
       ·refine .inr ⟨ex, ?_⟩
        simp only [oneS, em]; rw [if_neg (by rw [hc]; exact Bool.false_ne_true), if_neg (by omega), if_neg (by omega), if_pos hx, hr]; simp only [hq1, hq2, hx]; rfl
      ·have hx : ¬ (r22.act = 2) := by simpa using hx
       apply Wq.seq
       refine Wq.rg [58, 9, 7, 2, 1, 0] ?_
       iterate 2 (refine .p (.bool (r22.act == 3)) ?_)
       refine .done ⟨[(58, (.bool (r22.act == 3))), (9, (vi 0)), (7, (.ptr ⟨7, []⟩ 0 0)), (2, (vi at_)), (1, (vi k)), (0, (.ptr ⟨0, []⟩ 0 0))], [(0, .bx (qcv g t (.ow 1 (st.map vi)) (oc 3 tb ts) (.fz 1 0 []) (vi ct))), (7, .bx (Move.av r22))], [], false⟩ ?_
       refine Wq.jn (fun s => ∃ (x9 : Int) (q : PS), (q.ts.all isTree = true ∧ (x9 ≠ 0 ∧ q = ⟨st, ts, tb, [], ct⟩ ∧ oneS ndP g t k (lf at_) ⟨st, ts, tb, [], ct⟩ = (0, x9, ⟨st, ts, tb, [], ct⟩) ∨ x9 = 0 ∧ oneS ndP g t k (lf at_) ⟨st, ts, tb, [], ct⟩ = (if r22.act = 1 then 1 else if r22.act = 3 then 2 else 0, if r22.act = 0 then 180 else 0, ⟨q.st, q.ts, q.tb, [] ++ [r22], if r22.act = 1 ∨ r22.act = 2 then ct + 1 else ct⟩))) ∧ s = ⟨[(9, (vi x9)), (7, (.ptr ⟨7, []⟩ 0 0)), (2, (vi at_)), (1, (vi k)), (0, (.ptr ⟨0, []⟩ 0 0))], [(0, .bx (qcv g t (.ow 1 (q.st.map vi)) (oc 3 q.tb q.ts) (.fz 1 0 []) (vi ct))), (7, .bx (Move.av r22))], [], false⟩) ?_ ?_
       ·refine Wq.cond rfl (fun hx => ?_) (fun hx => ?_)
        ·have h3 : (r22.act = 3) := by simpa using hx
         apply Wq.seq
         refine Wq.rg [66, 9, 7, 2, 1, 0] ?_
         refine .p (.ptr ⟨0, []⟩ 0 0) ?_
         iterate 3 (refine .r (.ptr ⟨0, []⟩ 0 0) ?_)
         refine .r (.rf _ _ _ _) ?_
         obtain ⟨x65, e65⟩ : ∃ x : Int, x = (st.length : Int) := ⟨_, rfl⟩
         refine .rv _ (vi x65) (ln e65) ?_
         refine .p (.bool (!(x65 == 2))) ?_
         refine .done ⟨[(66, (.bool (!(x65 == 2)))), (9, (vi 0)), (7, (.ptr ⟨7, []⟩ 0 0)), (2, (vi at_)), (1, (vi k)), (0, (.ptr ⟨0, []⟩ 0 0))], [(0, .bx (qcv g t (.ow 1 (st.map vi)) (oc 3 tb ts) (.fz 1 0 []) (vi ct))), (7, .bx (Move.av r22))], [], false⟩ ?_
         refine Wq.jn (fun s => ∃ (x9 : Int) (q : PS), (q.ts.all isTree = true ∧ (x9 ≠ 0 ∧ q = ⟨st, ts, tb, [], ct⟩ ∧ oneS ndP g t k (lf at_) ⟨st, ts, tb, [], ct⟩ = (0, x9, ⟨st, ts, tb, [], ct⟩) ∨ x9 = 0 ∧ oneS ndP g t k (lf at_) ⟨st, ts, tb, [], ct⟩ = (if r22.act = 1 then 1 else if r22.act = 3 then 2 else 0, if r22.act = 0 then 180 else 0, ⟨q.st, q.ts, q.tb, [] ++ [r22], if r22.act = 1 ∨ r22.act = 2 then ct + 1 else ct⟩))) ∧ s = ⟨[(9, (vi x9)), (7, (.ptr ⟨7, []⟩ 0 0)), (2, (vi at_)), (1, (vi k)), (0, (.ptr ⟨0, []⟩ 0 0))], [(0, .bx (qcv g t (.ow 1 (q.st.map vi)) (oc 3 q.tb q.ts) (.fz 1 0 []) (vi ct))), (7, .bx (Move.av r22))], [], false⟩) ?_ ?_
         ·refine Wq.cond rfl (fun hx => ?_) (fun hx => ?_)
          ·have hx : ¬ (x65 = 2) := by simpa using hx
           refine Wq.rg [9, 7, 2, 1, 0] ?_
           refine .p (vi 170) ?_
           refine .done ⟨[(9, (vi 170)), (7, (.ptr ⟨7, []⟩ 0 0)), (2, (vi at_)), (1, (vi k)), (0, (.ptr ⟨0, []⟩ 0 0))], [(0, .bx (qcv g t (.ow 1 (st.map vi)) (oc 3 tb ts) (.fz 1 0 []) (vi ct))), (7, .bx (Move.av r22))], [], false⟩ ?_
           refine Jq.mk ⟨170, ⟨st, ts, tb, [], ct⟩, ⟨h4, .inl ⟨by decide, rfl, ?_⟩⟩, rfl⟩
           simp only [oneS, em]; rw [if_neg (by rw [hc]; exact Bool.false_ne_true), if_neg (by omega), if_pos h3, if_neg (by omega)]
          ·have hx : (x65 = 2) := by simpa using hx
           refine Wq.skipW [9, 7, 2, 1, 0] rfl ?_
           refine Jq.mk ⟨0, ⟨st, ts, tb, [], ct⟩, ⟨h4, .inr ⟨rfl, ?_⟩⟩, rfl⟩
           simp only [oneS, em]; rw [if_neg (by rw [hc]; exact Bool.false_ne_true), if_neg (by omega), if_pos h3, if_pos (by omega)]; simp only [h3]; rfl
         rintro s ⟨x9, q, hg, rfl⟩
         exact Jq.mk ⟨x9, q, hg, rfl⟩
        ·have hx : ¬ (r22.act = 3) := by simpa using hx
         refine Wq.skipW [9, 7, 2, 1, 0] rfl ?_
         have h0 : r22.act = 0 := by omega
         refine Jq.mk ⟨0, ⟨st, ts, tb, [], ct⟩, ⟨h4, .inr ⟨rfl, ?_⟩⟩, rfl⟩
         simp only [oneS, em]; rw [if_neg (by rw [hc]; exact Bool.false_ne_true), if_pos h0]; simp only [h0]; rfl
       rintro s ⟨x9, q, hg, rfl⟩
       exact Jq.mk ⟨x9, q, hg, rfl⟩
     rintro s ⟨x9, q, hg, rfl⟩
     exact Jq.mk ⟨x9, q, hg, rfl⟩
   rintro s ⟨x9, q, hg, rfl⟩
   obtain ⟨htq, hg⟩ := hg
   have nqs : (q.st.map vi).all noLk = true := noLk_ints
   have nqt : noLk (oc 3 q.tb q.ts) = true := noLk_oc (noLk_tree htq)
   apply Wq.seq
   apply Wq.seq
   refine Wq.rg [68, 9, 7, 2, 1, 0] ?_
   refine .p (vi x9) ?_
   refine .p (.bool (!(x9 == 0))) ?_
   refine .done ⟨[(68, (.bool (!(x9 == 0)))), (9, (vi x9)), (7, (.ptr ⟨7, []⟩ 0 0)), (2, (vi at_)), (1, (vi k)), (0, (.ptr ⟨0, []⟩ 0 0))], [(0, .bx (qcv g t (.ow 1 (q.st.map vi)) (oc 3 q.tb q.ts) (.fz 1 0 []) (vi ct))), (7, .bx (Move.av r22))], [], false⟩ ?_
   refine Wq.cond rfl (fun hx => ?_) (fun hx => ?_)
   ·have hx : ¬ (x9 = 0) := by simpa using hx
    apply Wq.seq
    refine Wq.rg [6] ?_
    iterate 2 (refine .p (vi x9) ?_)
    refine .done ⟨[(6, (vi x9))], [(0, .bx (qcv g t (.ow 1 (q.st.map vi)) (oc 3 q.tb q.ts) (.fz 1 0 []) (vi ct))), (7, .bx (Move.av r22))], [], false⟩ ?_
    refine Wq.ret ?_
    exact Aq.mk rfl (by
     rcases hg with ⟨_, hqe, hone⟩ | ⟨hz, _⟩
     ·rw [hend _ _ _ hone (.inr hx), hqe]; rfl
     ·exact absurd hz hx)
   ·have hx9 : (x9 = 0) := by simpa using hx
    refine Wq.skip ?_
    apply Wq.seq
    refine Wq.jn (fun s => s = ⟨[(7, (.ptr ⟨7, []⟩ 0 0)), (2, (vi at_)), (1, (vi k)), (0, (.ptr ⟨0, []⟩ 0 0))], [(0, .bx (qcv g t (.ow 1 (q.st.map vi)) (oc 3 q.tb q.ts) (.ow 2 [(Move.av r22)]) (vi ct))), (7, .bx (Move.av r22))], [], false⟩) ?_ ?_
    ·refine Wq.rg [7, 2, 1, 0] ?_
     iterate 2 (refine .p (.ptr ⟨0, []⟩ 0 0) ?_)
     refine .r (.ptr ⟨0, []⟩ 0 0) ?_
     refine .r (.ptr ⟨0, []⟩ 0 9) ?_
     refine .r (.fz 1 0 []) ?_
     refine .r (Move.av r22) ?_
     refine .e (.rf _ _ _ _) [(0, .bx (qcv g t (.ow 1 (q.st.map vi)) (oc 3 q.tb q.ts) (.fz 1 0 []) (vi ct))), (7, .bx (Move.av r22)), (76, .ow 2 [(Move.av r22)])] ?_
     refine .e (.rf _ _ _ _) [(0, .bx (qcv g t (.ow 1 (q.st.map vi)) (oc 3 q.tb q.ts) (.fz 1 0 []) (vi ct))), (7, .bx (Move.av r22)), (76, .ow 2 [(Move.av r22)]), (77, .ow 2 [(Move.av r22)])] ?_
     refine .r (.ptr ⟨0, []⟩ 0 0) ?_
     refine .r (.ptr ⟨0, []⟩ 0 9) ?_
     refine .sq [(0, .bx (qcv g t (.ow 1 (q.st.map vi)) (oc 3 q.tb q.ts) (.lk 77 2) (vi ct))), (7, .bx (Move.av r22)), (76, .ow 2 [(Move.av r22)]), (77, .ow 2 [(Move.av r22)])] ?_
     refine .fin (fin_of (h1 := [(0, .bx (qcv g t (.ow 1 (q.st.map vi)) (oc 3 q.tb q.ts) (.ow 2 [(Move.av r22)]) (vi ct))), (7, .bx (Move.av r22)), (76, .ow 2 [(Move.av r22)])]) (resolve_lk rfl rfl rfl (by simp) (rfl)) (by simp [noLkH, noLk, noLkL_all, noLk_qcv, nqs, nqt, Move.av]) rfl) ?_
     show (⟨[(7, (.ptr ⟨7, []⟩ 0 0)), (2, (vi at_)), (1, (vi k)), (0, (.ptr ⟨0, []⟩ 0 0))], [(0, .bx (qcv g t (.ow 1 (q.st.map vi)) (oc 3 q.tb q.ts) (.ow 2 [(Move.av r22)]) (vi ct))), (7, .bx (Move.av r22))], [], false⟩ : St) = _
     simp
    rintro s rfl
    apply Wq.seq
    apply Wq.seq
    refine Wq.rg [81, 2, 1, 0] ?_
    refine .r (.ptr ⟨7, []⟩ 0 0) ?_
    refine .r (vi r22.act) ?_
    refine .done ⟨[(81, (vi r22.act)), (2, (vi at_)), (1, (vi k)), (0, (.ptr ⟨0, []⟩ 0 0))], [(0, .bx (qcv g t (.ow 1 (q.st.map vi)) (oc 3 q.tb q.ts) (.ow 2 [(Move.av r22)]) (vi ct))), (7, .bx (Move.av r22))], [], false⟩ ?_
    refine Wq.block ?_ -- 3
    apply Wq.seq
    refine Wq.rg [82, 81, 2, 1, 0] ?_
    iterate 2 (refine .p (.bool (r22.act == 0)) ?_)
    refine .done ⟨[(82, (.bool (r22.act == 0))), (81, (vi r22.act)), (2, (vi at_)), (1, (vi k)), (0, (.ptr ⟨0, []⟩ 0 0))], [(0, .bx (qcv g t (.ow 1 (q.st.map vi)) (oc 3 q.tb q.ts) (.ow 2 [(Move.av r22)]) (vi ct))), (7, .bx (Move.av r22))], [], false⟩ ?_
    refine Wq.cond rfl (fun hx => ?_) (fun hx => ?_)
    ·have hx : (r22.act = 0) := by simpa using hx
     apply Wq.seq
     refine Wq.rg [6] ?_
     refine .p (vi 180) ?_
     refine .done ⟨[(6, (vi 180))], [(0, .bx (qcv g t (.ow 1 (q.st.map vi)) (oc 3 q.tb q.ts) (.ow 2 [(Move.av r22)]) (vi ct))), (7, .bx (Move.av r22))], [], false⟩ ?_
     refine Wq.ret ?_
     exact Aq.mk rfl (by
      have hone : oneS ndP g t k (lf at_) ⟨st, ts, tb, [], ct⟩ = (0, 180, ⟨q.st, q.ts, q.tb, [] ++ [r22], ct⟩) := by
       rcases hg with ⟨hz, _⟩ | ⟨_, hone⟩
       ·exact absurd hx9 hz
       ·rw [hone]; simp only [hx]; rfl
      rw [hend _ _ _ hone (.inr (by decide))]; rfl)
    ·have hx : ¬ (r22.act = 0) := by simpa using hx
     apply Wq.seq
     refine Wq.rg [84, 81, 2, 1, 0] ?_
     iterate 2 (refine .p (.bool (r22.act == 1)) ?_)
     refine .done ⟨[(84, (.bool (r22.act == 1))), (81, (vi r22.act)), (2, (vi at_)), (1, (vi k)), (0, (.ptr ⟨0, []⟩ 0 0))], [(0, .bx (qcv g t (.ow 1 (q.st.map vi)) (oc 3 q.tb q.ts) (.ow 2 [(Move.av r22)]) (vi ct))), (7, .bx (Move.av r22))], [], false⟩ ?_
     refine Wq.cond rfl (fun hx => ?_) (fun hx => ?_)
     ·have hx : (r22.act = 1) := by simpa using hx
      apply Wq.seq
      refine Wq.rg [] ?_
      refine .p (.ptr ⟨0, []⟩ 0 0) ?_
      refine .r (.ptr ⟨0, []⟩ 0 0) ?_
      refine .r (.ptr ⟨0, []⟩ 0 10) ?_
      refine .r (vi ct) ?_
      obtain ⟨x90, e90⟩ : ∃ x : Int, x = (ct + 1) := ⟨_, rfl⟩
      refine .pv _ (vi x90) (wrE e90 (by omega) (by omega)) ?_
      refine .r (.ptr ⟨0, []⟩ 0 0) ?_
      refine .r (.ptr ⟨0, []⟩ 0 10) ?_
      refine .sq [(0, .bx (qcv g t (.ow 1 (q.st.map vi)) (oc 3 q.tb q.ts) (.ow 2 [(Move.av r22)]) (vi x90))), (7, .bx (Move.av r22))] ?_
      refine .done ⟨[], [(0, .bx (qcv g t (.ow 1 (q.st.map vi)) (oc 3 q.tb q.ts) (.ow 2 [(Move.av r22)]) (vi x90))), (7, .bx (Move.av r22))], [], false⟩ ?_
      apply Wq.seq
      refine Wq.rg [6] ?_
      refine .p (vi 0) ?_
      refine .done ⟨[(6, (vi 0))], [(0, .bx (qcv g t (.ow 1 (q.st.map vi)) (oc 3 q.tb q.ts) (.ow 2 [(Move.av r22)]) (vi x90))), (7, .bx (Move.av r22))], [], false⟩ ?_
      refine Wq.ret ?_
      exact Aq.mk rfl (by
      have hone : oneS ndP g t k (lf at_) ⟨st, ts, tb, [], ct⟩ = (1, 0, ⟨q.st, q.ts, q.tb, [] ++ [r22], ct + 1⟩) := by
       rcases hg with ⟨hz, _⟩ | ⟨_, hone⟩
       ·exact absurd hx9 hz
       ·rw [hone]; simp only [hx]; rfl
      subst e90; rw [hend _ _ _ hone (.inl (by decide))]; rfl)
     ·have hx : ¬ (r22.act = 1) := by simpa using hx
      apply Wq.seq
      refine Wq.rg [93, 2, 1, 0] ?_
      iterate 2 (refine .p (.bool (r22.act == 3)) ?_)
      refine .done ⟨[(93, (.bool (r22.act == 3))), (2, (vi at_)), (1, (vi k)), (0, (.ptr ⟨0, []⟩ 0 0))], [(0, .bx (qcv g t (.ow 1 (q.st.map vi)) (oc 3 q.tb q.ts) (.ow 2 [(Move.av r22)]) (vi ct))), (7, .bx (Move.av r22))], [], false⟩ ?_
      refine Wq.cond rfl (fun hx => ?_) (fun hx => ?_)
      ·have hx : (r22.act = 3) := by simpa using hx
       apply Wq.seq
       refine Wq.rg [6] ?_
       refine .p (vi 0) ?_
       refine .done ⟨[(6, (vi 0))], [(0, .bx (qcv g t (.ow 1 (q.st.map vi)) (oc 3 q.tb q.ts) (.ow 2 [(Move.av r22)]) (vi ct))), (7, .bx (Move.av r22))], [], false⟩ ?_
       refine Wq.ret ?_
       exact Aq.mk rfl (by
      have hone : oneS ndP g t k (lf at_) ⟨st, ts, tb, [], ct⟩ = (2, 0, ⟨q.st, q.ts, q.tb, [] ++ [r22], ct⟩) := by
       rcases hg with ⟨hz, _⟩ | ⟨_, hone⟩
       ·exact absurd hx9 hz
       ·rw [hone]; simp only [hx]; rfl
      rw [hend _ _ _ hone (.inl (by decide))]; rfl)
      ·have hx : ¬ (r22.act = 3) := by simpa using hx
       refine Wq.skip ?_
       refine Wq.rg [2, 1, 0] ?_
       refine .p (.ptr ⟨0, []⟩ 0 0) ?_
       refine .r (.ptr ⟨0, []⟩ 0 0) ?_
       refine .r (.ptr ⟨0, []⟩ 0 10) ?_
       refine .r (vi ct) ?_
       obtain ⟨x99, e99⟩ : ∃ x : Int, x = (ct + 1) := ⟨_, rfl⟩
       refine .pv _ (vi x99) (wrE e99 (by omega) (by omega)) ?_
       refine .r (.ptr ⟨0, []⟩ 0 0) ?_
       refine .r (.ptr ⟨0, []⟩ 0 10) ?_
       refine .sq [(0, .bx (qcv g t (.ow 1 (q.st.map vi)) (oc 3 q.tb q.ts) (.ow 2 [(Move.av r22)]) (vi x99))), (7, .bx (Move.av r22))] ?_
       refine .done ⟨[(2, (vi at_)), (1, (vi k)), (0, (.ptr ⟨0, []⟩ 0 0))], [(0, .bx (qcv g t (.ow 1 (q.st.map vi)) (oc 3 q.tb q.ts) (.ow 2 [(Move.av r22)]) (vi x99))), (7, .bx (Move.av r22))], [], false⟩ ?_
       have h2a : r22.act = 2 := by omega
       have hone : oneS ndP g t k (lf at_) ⟨st, ts, tb, [], ct⟩ = (0, 0, ⟨q.st, q.ts, q.tb, [] ++ [r22], ct + 1⟩) := by
        rcases hg with ⟨hz, _⟩ | ⟨_, hone⟩
        ·exact absurd hx9 hz
        ·rw [hone]; simp only [h2a]; rfl
       subst e99
       obtain ⟨hf1, hf2, hf3⟩ := hgo _ hone
       exact Bq.n (Iq.mk _ hf2 ⟨_, [(7, .bx (Move.av r22))], rfl, .inr ⟨_, rfl⟩, ⟨hf1, hf3⟩, rfl⟩)
 ·have ntr : (tr.map Move.av).all noLk = true := noLk_moves
  refine Wq.cv ⟨[(2, (vi at_)), (1, (vi k)), (0, (.ptr ⟨0, []⟩ 0 0))], (0, .bx (qcv g t (.ow 1 (st.map vi)) (oc 3 tb ts) (.ow 2 (tr.map Move.av)) (vi ct))) :: H7, [], false⟩ (by rw [qf_tr htr]) ?_
  refine Wq.block ?_ -- 1
  apply Wq.seq
  refine Wq.reg [7, 2, 1, 0] (t1 := [(2, (vi at_)), (1, (vi k)), (0, (.ptr ⟨0, []⟩ 0 0))]) (h1 := [(0, .bx (qcv g t (.ow 1 (st.map vi)) (oc 3 tb ts) (.ow 2 (tr.map Move.av)) (vi ct)))]) (d1 := []) (by rcases hH with rfl | ⟨x, rfl⟩ <;> rfl) rfl (by kernel_rfl) (by kernel_rfl) ?_
  refine .p (.ptr ⟨0, []⟩ 0 0) ?_
  refine .r (.ptr ⟨0, []⟩ 0 0) ?_
  iterate 2 (refine .r (.ptr ⟨0, []⟩ 0 7) ?_)
  refine .r (Sl.av (Sl.av Move.av) t.moves) ?_
  refine .p (.ptr ⟨0, []⟩ 0 0) ?_
  iterate 2 (refine .r (.ptr ⟨0, []⟩ 0 0) ?_)
  obtain ⟨x18, e18⟩ : ∃ x : Int, x = st.getD (st.length - 1) 0 := ⟨_, rfl⟩
  have b18 := h2 x18 (by have : st.length - 1 < st.length := (by omega); rw [e18, List.getD, List.getElem?_eq_getElem this]; exact List.getElem_mem this)
  refine .cl F56 rfl rfl (e18 ▸ last_qf hO6 hst0 (by omega)) (expArgs_cons rfl rfl rfl) rfl rfl rfl (vi x18) [(0, .bx (qcv g t (.ow 1 (st.map vi)) (oc 3 tb ts) (.ow 2 (tr.map Move.av)) (vi ct)))] ?_
  obtain ⟨r19, e19⟩ : ∃ x : _, x = (t.moves.l.getD x18.toNat default) := ⟨_, rfl⟩
  have m19 := getD_mem e19 (by omega) (by omega)
  have q19 := hok.row r19 m19
  refine .po (fun _ => op_ix e19 (by omega) (by omega) hok.moves) (.fp _ ((Sl.av Move.av) r19) 0) rfl ?_
  refine .p (Sl.av Move.av r19) ?_
  refine .p (vi k) ?_
  obtain ⟨r22, e22⟩ : ∃ x : _, x = (r19.l.getD k.toNat default) := ⟨_, rfl⟩
  have m22 := getD_mem e22 (by omega) (by omega)
  have q22 := hok.move r19 m19 r22 m22
  have em : lkM t (PS.last ⟨st, ts, tb, tr, ct⟩) k = r22 := by rw [e22, e19, e18]; rfl
  refine .po (fun _ => op_ix e22 (by omega) (by omega) q19.1) (.fp _ (Move.av r22) 0) rfl ?_
  refine .p (Move.av r22) ?_
  refine .e (.ptr ⟨7, []⟩ 0 0) [(0, .bx (qcv g t (.ow 1 (st.map vi)) (oc 3 tb ts) (.ow 2 (tr.map Move.av)) (vi ct))), (7, .bx (.agg [(vi 0), (vi 0)]))] ?_
  refine .sq [(0, .bx (qcv g t (.ow 1 (st.map vi)) (oc 3 tb ts) (.ow 2 (tr.map Move.av)) (vi ct))), (7, .bx (Move.av r22))] ?_
  refine .done ⟨[(7, (.ptr ⟨7, []⟩ 0 0)), (2, (vi at_)), (1, (vi k)), (0, (.ptr ⟨0, []⟩ 0 0))], [(0, .bx (qcv g t (.ow 1 (st.map vi)) (oc 3 tb ts) (.ow 2 (tr.map Move.av)) (vi ct))), (7, .bx (Move.av r22))], [], false⟩ ?_
  apply Wq.seq
  refine Wq.jn (fun s => s = ⟨[(8, (.bool ((r22.act == 1) || (r22.act == 2)))), (7, (.ptr ⟨7, []⟩ 0 0)), (2, (vi at_)), (1, (vi k)), (0, (.ptr ⟨0, []⟩ 0 0))], [(0, .bx (qcv g t (.ow 1 (st.map vi)) (oc 3 tb ts) (.ow 2 (tr.map Move.av)) (vi ct))), (7, .bx (Move.av r22))], [], false⟩) ?_ ?_
  ·refine Wq.rg [8, 7, 2, 1, 0] ?_
   refine .r (.ptr ⟨7, []⟩ 0 0) ?_
   refine .r (vi r22.act) ?_
   iterate 2 (refine .p (.bool (r22.act == 1)) ?_)
   refine Rq.split (dg := 27) rfl (fun h3 => ?_) (fun h3 => ?_) rfl
   ·iterate 3 (refine .sk ?_)
    iterate 2 (refine .p (.bool true) ?_)
    refine .done ⟨[(8, (.bool _)), (7, (.ptr ⟨7, []⟩ 0 0)), (2, (vi _)), (1, (vi _)), (0, (.ptr ⟨0, []⟩ 0 0))], [(0, .bx (qcv g t (.ow 1 (st.map vi)) (oc 3 tb ts) (.ow 2 (tr.map Move.av)) (vi ct))), (7, .bx (Move.av r22))], [], false⟩ ?_
    show (⟨[(8, (.bool _)), (7, (.ptr ⟨7, []⟩ 0 0)), (2, (vi _)), (1, (vi _)), (0, (.ptr ⟨0, []⟩ 0 0))], [(0, .bx (qcv g t (.ow 1 (st.map vi)) (oc 3 tb ts) (.ow 2 (tr.map Move.av)) (vi ct))), (7, .bx (Move.av r22))], [], false⟩ : St) = _
    first | (cases h3; done) | simp [h3]
   ·refine .r (.ptr ⟨7, []⟩ 0 0) ?_
    refine .r (vi r22.act) ?_
    refine .p (.bool (r22.act == 2)) ?_
    iterate 2 (refine .p (.bool (r22.act == 2)) ?_)
    refine .done ⟨[(8, (.bool _)), (7, (.ptr ⟨7, []⟩ 0 0)), (2, (vi _)), (1, (vi _)), (0, (.ptr ⟨0, []⟩ 0 0))], [(0, .bx (qcv g t (.ow 1 (st.map vi)) (oc 3 tb ts) (.ow 2 (tr.map Move.av)) (vi ct))), (7, .bx (Move.av r22))], [], false⟩ ?_
    show (⟨[(8, (.bool _)), (7, (.ptr ⟨7, []⟩ 0 0)), (2, (vi _)), (1, (vi _)), (0, (.ptr ⟨0, []⟩ 0 0))], [(0, .bx (qcv g t (.ow 1 (st.map vi)) (oc 3 tb ts) (.ow 2 (tr.map Move.av)) (vi ct))), (7, .bx (Move.av r22))], [], false⟩ : St) = _
    first | (cases h3; done) | simp [h3]
  rintro s rfl
  apply Wq.seq
  apply Wq.seq
  refine Wq.jn (fun s => s = ⟨[(39, (.bool (((r22.act == 1) || (r22.act == 2)) && (decide (ct ≥ 65536))))), (7, (.ptr ⟨7, []⟩ 0 0)), (2, (vi at_)), (1, (vi k)), (0, (.ptr ⟨0, []⟩ 0 0))], [(0, .bx (qcv g t (.ow 1 (st.map vi)) (oc 3 tb ts) (.ow 2 (tr.map Move.av)) (vi ct))), (7, .bx (Move.av r22))], [], false⟩) ?_ ?_
  ·refine Wq.rg [39, 7, 2, 1, 0] ?_
   iterate 2 (refine .p (.bool ((r22.act == 1) || (r22.act == 2))) ?_)
   refine Rq.split (dg := 33) rfl (fun hg1 => ?_) (fun hg1 => ?_) rfl
   ·refine .p (.ptr ⟨0, []⟩ 0 0) ?_
    refine .r (.ptr ⟨0, []⟩ 0 0) ?_
    refine .r (.ptr ⟨0, []⟩ 0 10) ?_
    refine .r (vi ct) ?_
    refine .p (.bool (decide (ct ≥ 65536))) ?_
    refine .p (.bool (decide (ct ≥ 65536))) ?_
    refine .done ⟨[(39, (.bool _)), (7, (.ptr ⟨7, []⟩ 0 0)), (2, (vi _)), (1, (vi _)), (0, (.ptr ⟨0, []⟩ 0 0))], [(0, .bx (qcv g t (.ow 1 (st.map vi)) (oc 3 tb ts) (.ow 2 (tr.map Move.av)) (vi ct))), (7, .bx (Move.av r22))], [], false⟩ ?_
    show (⟨[(39, (.bool _)), (7, (.ptr ⟨7, []⟩ 0 0)), (2, (vi _)), (1, (vi _)), (0, (.ptr ⟨0, []⟩ 0 0))], [(0, .bx (qcv g t (.ow 1 (st.map vi)) (oc 3 tb ts) (.ow 2 (tr.map Move.av)) (vi ct))), (7, .bx (Move.av r22))], [], false⟩ : St) = _
    first | (cases hg1; done) | simp [hg1]
   ·iterate 5 (refine .sk ?_)
    refine .p (.bool false) ?_
    refine .done ⟨[(39, (.bool _)), (7, (.ptr ⟨7, []⟩ 0 0)), (2, (vi _)), (1, (vi _)), (0, (.ptr ⟨0, []⟩ 0 0))], [(0, .bx (qcv g t (.ow 1 (st.map vi)) (oc 3 tb ts) (.ow 2 (tr.map Move.av)) (vi ct))), (7, .bx (Move.av r22))], [], false⟩ ?_
    show (⟨[(39, (.bool _)), (7, (.ptr ⟨7, []⟩ 0 0)), (2, (vi _)), (1, (vi _)), (0, (.ptr ⟨0, []⟩ 0 0))], [(0, .bx (qcv g t (.ow 1 (st.map vi)) (oc 3 tb ts) (.ow 2 (tr.map Move.av)) (vi ct))), (7, .bx (Move.av r22))], [], false⟩ : St) = _
    first | (cases hg1; done) | simp [hg1]
  rintro s rfl
  refine Wq.cond rfl (fun hx => ?_) (fun hx => ?_)
  ·have hx := hx -- (((r22.act == 1) || (r22.act == 2)) && (decide (ct ≥ 65536)))
   apply Wq.seq
   refine Wq.rg [6] ?_
   refine .p (vi 181) ?_
   refine .done ⟨[(6, (vi 181))], [(0, .bx (qcv g t (.ow 1 (st.map vi)) (oc 3 tb ts) (.ow 2 (tr.map Move.av)) (vi ct))), (7, .bx (Move.av r22))], [], false⟩ ?_
   refine Wq.ret ?_
   exact Aq.mk rfl (by rw [hend 0 181 ⟨st, ts, tb, tr, ct⟩ (by simp only [oneS, em]; rw [if_pos hx]) (.inr (by decide))]; (first | rfl | exact congrArg (fun x => ((vi _, [AV.bx x]) : AV × List AV)) (qf_tr htr).symm | exact congrArg (fun x => ((vi _, [AV.bx x]) : AV × List AV)) qf_snoc.symm))
  ·have hc := hx -- not (((r22.act == 1) || (r22.act == 2)) && (decide (ct ≥ 65536)))
   refine Wq.skip ?_
   apply Wq.seq
   refine Wq.rg [9, 7, 2, 1, 0] ?_
   refine .p (vi 0) ?_
   refine .done ⟨[(9, (vi 0)), (7, (.ptr ⟨7, []⟩ 0 0)), (2, (vi at_)), (1, (vi k)), (0, (.ptr ⟨0, []⟩ 0 0))], [(0, .bx (qcv g t (.ow 1 (st.map vi)) (oc 3 tb ts) (.ow 2 (tr.map Move.av)) (vi ct))), (7, .bx (Move.av r22))], [], false⟩ ?_
   apply Wq.seq
   apply Wq.seq
   refine Wq.rg [41, 9, 7, 2, 1, 0] ?_
   refine .r (.ptr ⟨7, []⟩ 0 0) ?_
   refine .r (vi r22.act) ?_
   refine .done ⟨[(41, (vi r22.act)), (9, (vi 0)), (7, (.ptr ⟨7, []⟩ 0 0)), (2, (vi at_)), (1, (vi k)), (0, (.ptr ⟨0, []⟩ 0 0))], [(0, .bx (qcv g t (.ow 1 (st.map vi)) (oc 3 tb ts) (.ow 2 (tr.map Move.av)) (vi ct))), (7, .bx (Move.av r22))], [], false⟩ ?_
   refine Wq.block ?_ -- 2
   apply Wq.seq
   refine Wq.rg [42, 41, 9, 7, 2, 1, 0] ?_
   iterate 2 (refine .p (.bool (r22.act == 1)) ?_)
   refine .done ⟨[(42, (.bool (r22.act == 1))), (41, (vi r22.act)), (9, (vi 0)), (7, (.ptr ⟨7, []⟩ 0 0)), (2, (vi at_)), (1, (vi k)), (0, (.ptr ⟨0, []⟩ 0 0))], [(0, .bx (qcv g t (.ow 1 (st.map vi)) (oc 3 tb ts) (.ow 2 (tr.map Move.av)) (vi ct))), (7, .bx (Move.av r22))], [], false⟩ ?_
   refine Wq.jn (fun s => ∃ (x9 : Int) (q : PS), (q.ts.all isTree = true ∧ (x9 ≠ 0 ∧ q = ⟨st, ts, tb, tr, ct⟩ ∧ oneS ndP g t k (lf at_) ⟨st, ts, tb, tr, ct⟩ = (0, x9, ⟨st, ts, tb, tr, ct⟩) ∨ x9 = 0 ∧ oneS ndP g t k (lf at_) ⟨st, ts, tb, tr, ct⟩ = (if r22.act = 1 then 1 else if r22.act = 3 then 2 else 0, if r22.act = 0 then 180 else 0, ⟨q.st, q.ts, q.tb, tr ++ [r22], if r22.act = 1 ∨ r22.act = 2 then ct + 1 else ct⟩))) ∧ s = ⟨[(9, (vi x9)), (7, (.ptr ⟨7, []⟩ 0 0)), (2, (vi at_)), (1, (vi k)), (0, (.ptr ⟨0, []⟩ 0 0))], [(0, .bx (qcv g t (.ow 1 (q.st.map vi)) (oc 3 q.tb q.ts) (.ow 2 (tr.map Move.av)) (vi ct))), (7, .bx (Move.av r22))], [], false⟩) ?_ ?_
   ·refine Wq.cond rfl (fun hx => ?_) (fun hx => ?_)
    ·have hx : (r22.act = 1) := by simpa using hx
     refine Wq.rg [9, 7, 2, 1, 0] ?_
     refine .p (.ptr ⟨0, []⟩ 0 0) ?_
     iterate 2 (refine .r (.ptr ⟨0, []⟩ 0 0) ?_)
     refine .r (.ptr ⟨7, []⟩ 0 1) ?_
     refine .r (vi r22.n) ?_
     refine .p (vi at_) ?_
     refine .p (.agg [(vi (-1)), (vi at_), (.fz 1 0 [])]) ?_
     have hans : Ans cx O 57 [.bx (.agg [.ow 1 (st.map vi), oc 3 tb ts]), vi r22.n, lf at_] (.tup [], [.bx (.agg [.ow 1 ((st ++ [r22.n]).map vi), .ow 3 (ts ++ [lf at_])])]) := push_q hO7 rfl (by omega) (by omega) h4 h3'
     refine .cl F57 rfl rfl hans (expArgs_cons rfl (expArgs_cons rfl (expArgs_cons rfl rfl rfl) rfl) rfl) rfl (show noLkL [.bx (.agg [.ow 1 (st.map vi), oc 3 tb ts]), vi r22.n, lf at_] = true by simp only [noLkL, noLk, noLkL_all, nst, nts, lf, Bool.and_self]) (zip_ok rfl rfl) (.tup []) [(0, .bx (qcv g t (.ow 1 ((st ++ [r22.n]).map vi)) (.ow 3 (ts ++ [lf at_])) (.ow 2 (tr.map Move.av)) (vi ct))), (7, .bx (Move.av r22))] ?_
     refine .fin (S' := ⟨[(9, (vi 0)), (7, (.ptr ⟨7, []⟩ 0 0)), (2, (vi at_)), (1, (vi k)), (0, (.ptr ⟨0, []⟩ 0 0))], [(0, .bx (qcv g t (.ow 1 ((st ++ [r22.n]).map vi)) (.ow 3 (ts ++ [lf at_])) (.ow 2 (tr.map Move.av)) (vi ct))), (7, .bx (Move.av r22))], [], false⟩) (fin_nl (nl_call (cs := [.ow 1 ((st ++ [r22.n]).map vi), .ow 3 (ts ++ [lf at_])]) rfl rfl (by rw [List.all_cons, List.all_cons, noLk, noLkL_all, noLk_ints, noLk, noLkL_all, List.all_append, noLk_tree h4]; rfl) rfl) (by kernel_rfl)) ?_
     refine Jq.mk ⟨0, PS.push ⟨st, ts, tb, tr, ct⟩ r22.n (lf at_), ⟨by simp only [PS.push, List.all_append, h4]; rfl, .inr ⟨rfl, ?_⟩⟩, rfl⟩
     simp only [oneS, em]; rw [if_neg (by rw [hc]; exact Bool.false_ne_true), if_neg (by omega), if_neg (by omega), if_neg (by omega)]; simp only [hx]; rfl
    ·have hx : ¬ (r22.act = 1) := by simpa using hx
     apply Wq.seq
     refine Wq.rg [52, 41, 9, 7, 2, 1, 0] ?_
     iterate 2 (refine .p (.bool (r22.act == 2)) ?_)
     refine .done ⟨[(52, (.bool (r22.act == 2))), (41, (vi r22.act)), (9, (vi 0)), (7, (.ptr ⟨7, []⟩ 0 0)), (2, (vi at_)), (1, (vi k)), (0, (.ptr ⟨0, []⟩ 0 0))], [(0, .bx (qcv g t (.ow 1 (st.map vi)) (oc 3 tb ts) (.ow 2 (tr.map Move.av)) (vi ct))), (7, .bx (Move.av r22))], [], false⟩ ?_
     refine Wq.jn (fun s => ∃ (x9 : Int) (q : PS), (q.ts.all isTree = true ∧ (x9 ≠ 0 ∧ q = ⟨st, ts, tb, tr, ct⟩ ∧ oneS ndP g t k (lf at_) ⟨st, ts, tb, tr, ct⟩ = (0, x9, ⟨st, ts, tb, tr, ct⟩) ∨ x9 = 0 ∧ oneS ndP g t k (lf at_) ⟨st, ts, tb, tr, ct⟩ = (if r22.act = 1 then 1 else if r22.act = 3 then 2 else 0, if r22.act = 0 then 180 else 0, ⟨q.st, q.ts, q.tb, tr ++ [r22], if r22.act = 1 ∨ r22.act = 2 then ct + 1 else ct⟩))) ∧ s = ⟨[(9, (vi x9)), (7, (.ptr ⟨7, []⟩ 0 0)), (2, (vi at_)), (1, (vi k)), (0, (.ptr ⟨0, []⟩ 0 0))], [(0, .bx (qcv g t (.ow 1 (q.st.map vi)) (oc 3 q.tb q.ts) (.ow 2 (tr.map Move.av)) (vi ct))), (7, .bx (Move.av r22))], [], false⟩) ?_ ?_
     ·refine Wq.cond rfl (fun hx => ?_) (fun hx => ?_)
      ·have hx : (r22.act = 2) := by simpa using hx
       refine Wq.rg [9, 7, 2, 1, 0] ?_
       refine .p (.ptr ⟨0, []⟩ 0 0) ?_
       refine .r (.ptr ⟨7, []⟩ 0 1) ?_
       refine .r (vi r22.n) ?_
       obtain ⟨x57, q, hr, htq, hans⟩ : ∃ x q, (redS ndP g t r22.n ⟨st, ts, tb, tr, ct⟩ = none ∧ x = 170 ∧ q = ⟨st, ts, tb, tr, ct⟩ ∨ redS ndP g t r22.n ⟨st, ts, tb, tr, ct⟩ = some q ∧ x = 0 ∧ q.tr = tr ∧ q.n = ct) ∧ q.ts.all isTree = true ∧ Ans cx O 58 [.bx (qcv g t (.ow 1 (st.map vi)) (oc 3 tb ts) (.ow 2 (tr.map Move.av)) (vi ct)), vi r22.n] (vi x, [.bx (qcv g t (.ow 1 (q.st.map vi)) (oc 3 q.tb q.ts) (.ow 2 (tr.map Move.av)) (vi ct))]) := by
        have hra := red_q hO5 hO7 hO3 hok (p := ⟨st, ts, tb, tr, ct⟩) ⟨h1, h2, h3', h4, h5, h6, h7⟩ (n := r22.n) (by omega) (by omega)
        cases hq : redS ndP g t r22.n ⟨st, ts, tb, tr, ct⟩ with
        | none => rw [hq] at hra; exact ⟨170, ⟨st, ts, tb, tr, ct⟩, .inl ⟨rfl, rfl, rfl⟩, h4, by rw [qf_tr htr] at hra; exact hra⟩
        | some q => rw [hq] at hra; have hkq := redS_keeps hq; obtain ⟨qst, qts, qtb, qtr, qn⟩ := q; obtain rfl : qtr = tr := hkq.1; obtain rfl : qn = ct := hkq.2; refine ⟨0, _, .inr ⟨rfl, rfl, rfl, rfl⟩, redS_trees ndP_tree h4 hq, ?_⟩; simp only [qf_tr htr] at hra; exact hra
       refine .cl F58 rfl rfl hans (expArgs_cons rfl (expArgs_cons rfl rfl rfl) rfl) rfl (show noLkL [.bx (qcv g t (.ow 1 (st.map vi)) (oc 3 tb ts) (.ow 2 (tr.map Move.av)) (vi ct)), vi r22.n] = true by simp only [noLkL, noLk, noLk_qcv, noLkL_all, nst, nts, ntr, Bool.and_self]) (zip_ok rfl (by rw [qcv_na, nonAgg_oc]; rfl)) (vi x57) [(0, .bx (qcv g t (.ow 1 (q.st.map vi)) (oc 3 q.tb q.ts) (.ow 2 (tr.map Move.av)) (vi ct))), (7, .bx (Move.av r22))] ?_
       refine .p (vi x57) ?_
       refine .fin (S' := ⟨[(9, (vi x57)), (7, (.ptr ⟨7, []⟩ 0 0)), (2, (vi at_)), (1, (vi k)), (0, (.ptr ⟨0, []⟩ 0 0))], [(0, .bx (qcv g t (.ow 1 (q.st.map vi)) (oc 3 q.tb q.ts) (.ow 2 (tr.map Move.av)) (vi ct))), (7, .bx (Move.av r22))], [], false⟩) (fin_nl (nl_call rfl rfl (qcv_nl (by rw [noLk, noLkL_all]; exact noLk_ints) (noLk_oc (noLk_tree htq)) (by rw [noLk, noLkL_all]; exact ntr) rfl) rfl) (by kernel_rfl)) ?_
       refine Jq.mk ⟨x57, q, ⟨htq, ?_⟩, rfl⟩
       rcases hr with ⟨hr, ex, eq⟩ | ⟨hr, ex, hq1, hq2⟩
       ·refine .inl ⟨by rw [ex]; decide, eq, ?_⟩
        simp only [oneS, em]; rw [if_neg (by rw [hc]; exact Bool.false_ne_true), if_neg (by omega), if_neg (by omega), if_pos hx, hr, ex]
       ·refine .inr ⟨ex, ?_⟩
        simp only [oneS, em]; rw [if_neg (by rw [hc]; exact Bool.false_ne_true), if_neg (by omega), if_neg (by omega), if_pos hx, hr]; simp only [hq1, hq2, hx]; rfl
      ·have hx : ¬ (r22.act = 2) := by simpa using hx
       apply Wq.seq
       refine Wq.rg [58, 9, 7, 2, 1, 0] ?_
       iterate 2 (refine .p (.bool (r22.act == 3)) ?_)
       refine .done ⟨[(58, (.bool (r22.act == 3))), (9, (vi 0)), (7, (.ptr ⟨7, []⟩ 0 0)), (2, (vi at_)), (1, (vi k)), (0, (.ptr ⟨0, []⟩ 0 0))], [(0, .bx (qcv g t (.ow 1 (st.map vi)) (oc 3 tb ts) (.ow 2 (tr.map Move.av)) (vi ct))), (7, .bx (Move.av r22))], [], false⟩ ?_
       refine Wq.jn (fun s => ∃ (x9 : Int) (q : PS), (q.ts.all isTree = true ∧ (x9 ≠ 0 ∧ q = ⟨st, ts, tb, tr, ct⟩ ∧ oneS ndP g t k (lf at_) ⟨st, ts, tb, tr, ct⟩ = (0, x9, ⟨st, ts, tb, tr, ct⟩) ∨ x9 = 0 ∧ oneS ndP g t k (lf at_) ⟨st, ts, tb, tr, ct⟩ = (if r22.act = 1 then 1 else if r22.act = 3 then 2 else 0, if r22.act = 0 then 180 else 0, ⟨q.st, q.ts, q.tb, tr ++ [r22], if r22.act = 1 ∨ r22.act = 2 then ct + 1 else ct⟩))) ∧ s = ⟨[(9, (vi x9)), (7, (.ptr ⟨7, []⟩ 0 0)), (2, (vi at_)), (1, (vi k)), (0, (.ptr ⟨0, []⟩ 0 0))], [(0, .bx (qcv g t (.ow 1 (q.st.map vi)) (oc 3 q.tb q.ts) (.ow 2 (tr.map Move.av)) (vi ct))), (7, .bx (Move.av r22))], [], false⟩) ?_ ?_
       ·refine Wq.cond rfl (fun hx => ?_) (fun hx => ?_)
        ·have h3 : (r22.act = 3) := by simpa using hx
         apply Wq.seq
         refine Wq.rg [66, 9, 7, 2, 1, 0] ?_
         refine .p (.ptr ⟨0, []⟩ 0 0) ?_
         iterate 3 (refine .r (.ptr ⟨0, []⟩ 0 0) ?_)
         refine .r (.rf _ _ _ _) ?_
         obtain ⟨x65, e65⟩ : ∃ x : Int, x = (st.length : Int) := ⟨_, rfl⟩
         refine .rv _ (vi x65) (ln e65) ?_
         refine .p (.bool (!(x65 == 2))) ?_
         refine .done ⟨[(66, (.bool (!(x65 == 2)))), (9, (vi 0)), (7, (.ptr ⟨7, []⟩ 0 0)), (2, (vi at_)), (1, (vi k)), (0, (.ptr ⟨0, []⟩ 0 0))], [(0, .bx (qcv g t (.ow 1 (st.map vi)) (oc 3 tb ts) (.ow 2 (tr.map Move.av)) (vi ct))), (7, .bx (Move.av r22))], [], false⟩ ?_
         refine Wq.jn (fun s => ∃ (x9 : Int) (q : PS), (q.ts.all isTree = true ∧ (x9 ≠ 0 ∧ q = ⟨st, ts, tb, tr, ct⟩ ∧ oneS ndP g t k (lf at_) ⟨st, ts, tb, tr, ct⟩ = (0, x9, ⟨st, ts, tb, tr, ct⟩) ∨ x9 = 0 ∧ oneS ndP g t k (lf at_) ⟨st, ts, tb, tr, ct⟩ = (if r22.act = 1 then 1 else if r22.act = 3 then 2 else 0, if r22.act = 0 then 180 else 0, ⟨q.st, q.ts, q.tb, tr ++ [r22], if r22.act = 1 ∨ r22.act = 2 then ct + 1 else ct⟩))) ∧ s = ⟨[(9, (vi x9)), (7, (.ptr ⟨7, []⟩ 0 0)), (2, (vi at_)), (1, (vi k)), (0, (.ptr ⟨0, []⟩ 0 0))], [(0, .bx (qcv g t (.ow 1 (q.st.map vi)) (oc 3 q.tb q.ts) (.ow 2 (tr.map Move.av)) (vi ct))), (7, .bx (Move.av r22))], [], false⟩) ?_ ?_
         ·refine Wq.cond rfl (fun hx => ?_) (fun hx => ?_)
          ·have hx : ¬ (x65 = 2) := by simpa using hx
           refine Wq.rg [9, 7, 2, 1, 0] ?_
           refine .p (vi 170) ?_
           refine .done ⟨[(9, (vi 170)), (7, (.ptr ⟨7, []⟩ 0 0)), (2, (vi at_)), (1, (vi k)), (0, (.ptr ⟨0, []⟩ 0 0))], [(0, .bx (qcv g t (.ow 1 (st.map vi)) (oc 3 tb ts) (.ow 2 (tr.map Move.av)) (vi ct))), (7, .bx (Move.av r22))], [], false⟩ ?_
           refine Jq.mk ⟨170, ⟨st, ts, tb, tr, ct⟩, ⟨h4, .inl ⟨by decide, rfl, ?_⟩⟩, rfl⟩
           simp only [oneS, em]; rw [if_neg (by rw [hc]; exact Bool.false_ne_true), if_neg (by omega), if_pos h3, if_neg (by omega)]
          ·have hx : (x65 = 2) := by simpa using hx
           refine Wq.skipW [9, 7, 2, 1, 0] rfl ?_
           refine Jq.mk ⟨0, ⟨st, ts, tb, tr, ct⟩, ⟨h4, .inr ⟨rfl, ?_⟩⟩, rfl⟩
           simp only [oneS, em]; rw [if_neg (by rw [hc]; exact Bool.false_ne_true), if_neg (by omega), if_pos h3, if_pos (by omega)]; simp only [h3]; rfl
         rintro s ⟨x9, q, hg, rfl⟩
         exact Jq.mk ⟨x9, q, hg, rfl⟩
        ·have hx : ¬ (r22.act = 3) := by simpa using hx
         refine Wq.skipW [9, 7, 2, 1, 0] rfl ?_
         have h0 : r22.act = 0 := by omega
         refine Jq.mk ⟨0, ⟨st, ts, tb, tr, ct⟩, ⟨h4, .inr ⟨rfl, ?_⟩⟩, rfl⟩
         simp only [oneS, em]; rw [if_neg (by rw [hc]; exact Bool.false_ne_true), if_pos h0]; simp only [h0]; rfl
       rintro s ⟨x9, q, hg, rfl⟩
       exact Jq.mk ⟨x9, q, hg, rfl⟩
     rintro s ⟨x9, q, hg, rfl⟩
     exact Jq.mk ⟨x9, q, hg, rfl⟩
   rintro s ⟨x9, q, hg, rfl⟩
   obtain ⟨htq, hg⟩ := hg
   have nqs : (q.st.map vi).all noLk = true := noLk_ints
   have nqt : noLk (oc 3 q.tb q.ts) = true := noLk_oc (noLk_tree htq)
   apply Wq.seq
   apply Wq.seq
   refine Wq.rg [68, 9, 7, 2, 1, 0] ?_
   refine .p (vi x9) ?_
   refine .p (.bool (!(x9 == 0))) ?_
   refine .done ⟨[(68, (.bool (!(x9 == 0)))), (9, (vi x9)), (7, (.ptr ⟨7, []⟩ 0 0)), (2, (vi at_)), (1, (vi k)), (0, (.ptr ⟨0, []⟩ 0 0))], [(0, .bx (qcv g t (.ow 1 (q.st.map vi)) (oc 3 q.tb q.ts) (.ow 2 (tr.map Move.av)) (vi ct))), (7, .bx (Move.av r22))], [], false⟩ ?_
   refine Wq.cond rfl (fun hx => ?_) (fun hx => ?_)
   ·have hx : ¬ (x9 = 0) := by simpa using hx
    apply Wq.seq
    refine Wq.rg [6] ?_
    iterate 2 (refine .p (vi x9) ?_)
    refine .done ⟨[(6, (vi x9))], [(0, .bx (qcv g t (.ow 1 (q.st.map vi)) (oc 3 q.tb q.ts) (.ow 2 (tr.map Move.av)) (vi ct))), (7, .bx (Move.av r22))], [], false⟩ ?_
    refine Wq.ret ?_
    exact Aq.mk rfl (by
     rcases hg with ⟨_, hqe, hone⟩ | ⟨hz, _⟩
     ·rw [hend _ _ _ hone (.inr hx), hqe]; (first | rfl | exact congrArg (fun x => ((vi _, [AV.bx x]) : AV × List AV)) (qf_tr htr).symm | exact congrArg (fun x => ((vi _, [AV.bx x]) : AV × List AV)) qf_snoc.symm)
     ·exact absurd hz hx)
   ·have hx9 : (x9 = 0) := by simpa using hx
    refine Wq.skip ?_
    apply Wq.seq
    refine Wq.jn (fun s => s = ⟨[(7, (.ptr ⟨7, []⟩ 0 0)), (2, (vi at_)), (1, (vi k)), (0, (.ptr ⟨0, []⟩ 0 0))], [(0, .bx (qcv g t (.ow 1 (q.st.map vi)) (oc 3 q.tb q.ts) (.ow 2 ((tr ++ [r22]).map Move.av)) (vi ct))), (7, .bx (Move.av r22))], [], false⟩) ?_ ?_
    ·refine Wq.rg [7, 2, 1, 0] ?_
     iterate 2 (refine .p (.ptr ⟨0, []⟩ 0 0) ?_)
     refine .r (.ptr ⟨0, []⟩ 0 0) ?_
     refine .r (.ptr ⟨0, []⟩ 0 9) ?_
     refine .r (.rf _ _ _ _) ?_
     refine .r (Move.av r22) ?_
     refine .e (.rf _ _ _ _) [(0, .bx (qcv g t (.ow 1 (q.st.map vi)) (oc 3 q.tb q.ts) (.ow 2 (tr.map Move.av)) (vi ct))), (7, .bx (Move.av r22)), (76, .ow 2 [(Move.av r22)])] ?_
     refine .eo (fun _ => op_appr rfl rfl rfl rfl rfl rfl rfl rfl rfl rfl (new := [_]) rfl (List.cons_ne_nil _ _) rfl rfl (by simp) (by show (_ + 1) * 16 ≤ 70368744177664; first | omega | (simp; omega)) (by show _ + 1 ≤ 70368744177664; first | omega | (simp; omega)) rfl) [(0, .bx (qcv g t (.ow 1 (q.st.map vi)) (oc 3 q.tb q.ts) _ (vi ct))), (7, .bx (Move.av r22)), (76, .ow 2 [(Move.av r22)]), (77, .ow 2 _)] ?_
     refine .r (.ptr ⟨0, []⟩ 0 0) ?_
     refine .r (.ptr ⟨0, []⟩ 0 9) ?_
     refine .s [(0, .bx (qcv g t (.ow 1 (q.st.map vi)) (oc 3 q.tb q.ts) (.lk 77 _) (vi ct))), (7, .bx (Move.av r22)), (76, .ow 2 [(Move.av r22)]), (77, .ow 2 _)] ?_
     refine .fin (fin_of (h1 := [(0, .bx (qcv g t (.ow 1 (q.st.map vi)) (oc 3 q.tb q.ts) (.ow 2 _) (vi ct))), (7, .bx (Move.av r22)), (76, .ow 2 [(Move.av r22)])]) (resolve_skip rfl (resolve_lk rfl rfl rfl (by simp) (rfl))) (by simp [noLkH, noLk, noLkL_all, take_map_self, take_map_snoc, noLk_qcv, nqs, nqt, ntr, Move.av]) rfl) ?_
     show (⟨[(7, (.ptr ⟨7, []⟩ 0 0)), (2, (vi at_)), (1, (vi k)), (0, (.ptr ⟨0, []⟩ 0 0))], [(0, .bx (qcv g t (.ow 1 (q.st.map vi)) (oc 3 q.tb q.ts) (.ow 2 _) (vi ct))), (7, .bx (Move.av r22))], [], false⟩ : St) = _
     simp [take_map_self, take_map_snoc]
    rintro s rfl
    apply Wq.seq
    apply Wq.seq
    refine Wq.rg [81, 2, 1, 0] ?_
    refine .r (.ptr ⟨7, []⟩ 0 0) ?_
    refine .r (vi r22.act) ?_
    refine .done ⟨[(81, (vi r22.act)), (2, (vi at_)), (1, (vi k)), (0, (.ptr ⟨0, []⟩ 0 0))], [(0, .bx (qcv g t (.ow 1 (q.st.map vi)) (oc 3 q.tb q.ts) (.ow 2 ((tr ++ [r22]).map Move.av)) (vi ct))), (7, .bx (Move.av r22))], [], false⟩ ?_
    refine Wq.block ?_ -- 3
    apply Wq.seq
    refine Wq.rg [82, 81, 2, 1, 0] ?_
    iterate 2 (refine .p (.bool (r22.act == 0)) ?_)
    refine .done ⟨[(82, (.bool (r22.act == 0))), (81, (vi r22.act)), (2, (vi at_)), (1, (vi k)), (0, (.ptr ⟨0, []⟩ 0 0))], [(0, .bx (qcv g t (.ow 1 (q.st.map vi)) (oc 3 q.tb q.ts) (.ow 2 ((tr ++ [r22]).map Move.av)) (vi ct))), (7, .bx (Move.av r22))], [], false⟩ ?_
    refine Wq.cond rfl (fun hx => ?_) (fun hx => ?_)
    ·have hx : (r22.act = 0) := by simpa using hx
     apply Wq.seq
     refine Wq.rg [6] ?_
     refine .p (vi 180) ?_
     refine .done ⟨[(6, (vi 180))], [(0, .bx (qcv g t (.ow 1 (q.st.map vi)) (oc 3 q.tb q.ts) (.ow 2 ((tr ++ [r22]).map Move.av)) (vi ct))), (7, .bx (Move.av r22))], [], false⟩ ?_
     refine Wq.ret ?_
     exact Aq.mk rfl (by
      have hone : oneS ndP g t k (lf at_) ⟨st, ts, tb, tr, ct⟩ = (0, 180, ⟨q.st, q.ts, q.tb, tr ++ [r22], ct⟩) := by
       rcases hg with ⟨hz, _⟩ | ⟨_, hone⟩
       ·exact absurd hx9 hz
       ·rw [hone]; simp only [hx]; rfl
      rw [hend _ _ _ hone (.inr (by decide))]; (first | rfl | exact congrArg (fun x => ((vi _, [AV.bx x]) : AV × List AV)) (qf_tr htr).symm | exact congrArg (fun x => ((vi _, [AV.bx x]) : AV × List AV)) qf_snoc.symm))
    ·have hx : ¬ (r22.act = 0) := by simpa using hx
     apply Wq.seq
     refine Wq.rg [84, 81, 2, 1, 0] ?_
     iterate 2 (refine .p (.bool (r22.act == 1)) ?_)
     refine .done ⟨[(84, (.bool (r22.act == 1))), (81, (vi r22.act)), (2, (vi at_)), (1, (vi k)), (0, (.ptr ⟨0, []⟩ 0 0))], [(0, .bx (qcv g t (.ow 1 (q.st.map vi)) (oc 3 q.tb q.ts) (.ow 2 ((tr ++ [r22]).map Move.av)) (vi ct))), (7, .bx (Move.av r22))], [], false⟩ ?_
     refine Wq.cond rfl (fun hx => ?_) (fun hx => ?_)
     ·have hx : (r22.act = 1) := by simpa using hx
      apply Wq.seq
      refine Wq.rg [] ?_
      refine .p (.ptr ⟨0, []⟩ 0 0) ?_
      refine .r (.ptr ⟨0, []⟩ 0 0) ?_
      refine .r (.ptr ⟨0, []⟩ 0 10) ?_
      refine .r (vi ct) ?_
      obtain ⟨x90, e90⟩ : ∃ x : Int, x = (ct + 1) := ⟨_, rfl⟩
      refine .pv _ (vi x90) (wrE e90 (by omega) (by omega)) ?_
      refine .r (.ptr ⟨0, []⟩ 0 0) ?_
      refine .r (.ptr ⟨0, []⟩ 0 10) ?_
      refine .s [(0, .bx (qcv g t (.ow 1 (q.st.map vi)) (oc 3 q.tb q.ts) (.ow 2 _) (vi x90))), (7, .bx (Move.av r22))] ?_
      refine .done ⟨[], [(0, .bx (qcv g t (.ow 1 (q.st.map vi)) (oc 3 q.tb q.ts) (.ow 2 ((tr ++ [r22]).map Move.av)) (vi x90))), (7, .bx (Move.av r22))], [], false⟩ ?_
      apply Wq.seq
      refine Wq.rg [6] ?_
      refine .p (vi 0) ?_
      refine .done ⟨[(6, (vi 0))], [(0, .bx (qcv g t (.ow 1 (q.st.map vi)) (oc 3 q.tb q.ts) (.ow 2 ((tr ++ [r22]).map Move.av)) (vi x90))), (7, .bx (Move.av r22))], [], false⟩ ?_
      refine Wq.ret ?_
      exact Aq.mk rfl (by
      have hone : oneS ndP g t k (lf at_) ⟨st, ts, tb, tr, ct⟩ = (1, 0, ⟨q.st, q.ts, q.tb, tr ++ [r22], ct + 1⟩) := by
       rcases hg with ⟨hz, _⟩ | ⟨_, hone⟩
       ·exact absurd hx9 hz
       ·rw [hone]; simp only [hx]; rfl
      subst e90; rw [hend _ _ _ hone (.inl (by decide))]; (first | rfl | exact congrArg (fun x => ((vi _, [AV.bx x]) : AV × List AV)) (qf_tr htr).symm | exact congrArg (fun x => ((vi _, [AV.bx x]) : AV × List AV)) qf_snoc.symm))
     ·have hx : ¬ (r22.act = 1) := by simpa using hx
      apply Wq.seq
      refine Wq.rg [93, 2, 1, 0] ?_
      iterate 2 (refine .p (.bool (r22.act == 3)) ?_)
      refine .done ⟨[(93, (.bool (r22.act == 3))), (2, (vi at_)), (1, (vi k)), (0, (.ptr ⟨0, []⟩ 0 0))], [(0, .bx (qcv g t (.ow 1 (q.st.map vi)) (oc 3 q.tb q.ts) (.ow 2 ((tr ++ [r22]).map Move.av)) (vi ct))), (7, .bx (Move.av r22))], [], false⟩ ?_
      refine Wq.cond rfl (fun hx => ?_) (fun hx => ?_)
      ·have hx : (r22.act = 3) := by simpa using hx
       apply Wq.seq
       refine Wq.rg [6] ?_
       refine .p (vi 0) ?_
       refine .done ⟨[(6, (vi 0))], [(0, .bx (qcv g t (.ow 1 (q.st.map vi)) (oc 3 q.tb q.ts) (.ow 2 ((tr ++ [r22]).map Move.av)) (vi ct))), (7, .bx (Move.av r22))], [], false⟩ ?_
       refine Wq.ret ?_
       exact Aq.mk rfl (by
      have hone : oneS ndP g t k (lf at_) ⟨st, ts, tb, tr, ct⟩ = (2, 0, ⟨q.st, q.ts, q.tb, tr ++ [r22], ct⟩) := by
       rcases hg with ⟨hz, _⟩ | ⟨_, hone⟩
       ·exact absurd hx9 hz
       ·rw [hone]; simp only [hx]; rfl
      rw [hend _ _ _ hone (.inl (by decide))]; (first | rfl | exact congrArg (fun x => ((vi _, [AV.bx x]) : AV × List AV)) (qf_tr htr).symm | exact congrArg (fun x => ((vi _, [AV.bx x]) : AV × List AV)) qf_snoc.symm))
      ·have hx : ¬ (r22.act = 3) := by simpa using hx
       refine Wq.skip ?_
       refine Wq.rg [2, 1, 0] ?_
       refine .p (.ptr ⟨0, []⟩ 0 0) ?_
       refine .r (.ptr ⟨0, []⟩ 0 0) ?_
       refine .r (.ptr ⟨0, []⟩ 0 10) ?_
       refine .r (vi ct) ?_
       obtain ⟨x99, e99⟩ : ∃ x : Int, x = (ct + 1) := ⟨_, rfl⟩
       refine .pv _ (vi x99) (wrE e99 (by omega) (by omega)) ?_
       refine .r (.ptr ⟨0, []⟩ 0 0) ?_
       refine .r (.ptr ⟨0, []⟩ 0 10) ?_
       refine .s [(0, .bx (qcv g t (.ow 1 (q.st.map vi)) (oc 3 q.tb q.ts) (.ow 2 _) (vi x99))), (7, .bx (Move.av r22))] ?_
       refine .done ⟨[(2, (vi at_)), (1, (vi k)), (0, (.ptr ⟨0, []⟩ 0 0))], [(0, .bx (qcv g t (.ow 1 (q.st.map vi)) (oc 3 q.tb q.ts) (.ow 2 ((tr ++ [r22]).map Move.av)) (vi x99))), (7, .bx (Move.av r22))], [], false⟩ ?_
       have h2a : r22.act = 2 := by omega
       have hone : oneS ndP g t k (lf at_) ⟨st, ts, tb, tr, ct⟩ = (0, 0, ⟨q.st, q.ts, q.tb, tr ++ [r22], ct + 1⟩) := by
        rcases hg with ⟨hz, _⟩ | ⟨_, hone⟩
        ·exact absurd hx9 hz
        ·rw [hone]; simp only [h2a]; rfl
       subst e99
       obtain ⟨hf1, hf2, hf3⟩ := hgo _ hone
       exact Bq.n (Iq.mk _ hf2 ⟨_, [(7, .bx (Move.av r22))], rfl, .inr ⟨_, rfl⟩, ⟨hf1, hf3⟩, by rw [qf_snoc]⟩)
end Go.Am.Pull
end
section
namespace Go.Am.Pull
open Go Go.Proofs Go.Am
set_option maxRecDepth 100000
set_option maxHeartbeats 4000000
variable {O : List Ent}
def zT : AV := .agg [vi 0, vi 0, .fz 1 0 []]
def Z37 : AV := .agg [vi 0, vi 0, vi 0, vi 0, .fz 1 0 []]
def p0 : PS := ⟨[0], [], false, [], 0⟩
theorem p0_fine {g : Plain} {t : Table} (hok : Ok g t) : p0.Fine t := by
 refine ⟨rfl, ?_, fun _ => rfl, rfl, by decide, by decide, by decide⟩
 intro s hs
 simp only [p0, List.mem_singleton] at hs
 subst hs
 have := hok.pos
 omega
theorem getD_some {α : Type} {l : List α} {n : Nat} {d : α} (h : n < l.length) : l[n]? = some (l.getD n d) := by simp [List.getD, h]
theorem lkM_kind {g : Plain} {t : Table} (hok : Ok g t) {s k : Int} (hs : 0 ≤ s ∧ s < t.moves.l.length) (hk0 : 0 ≤ k) (hk : k < g.kinds.l.length) : ((lkM t s k).act = 1 → k ≠ 0) ∧ ((lkM t s k).act = 3 → k = 0) := by
 have h1 := getD_mem (l := t.moves.l) (n := s) (d := default) rfl hs.1 hs.2
 have h2 : k.toNat < (t.moves.l.getD s.toNat default).l.length := by rw [(hok.row _ h1).2]; omega
 have h3 := hok.acc _ h1 k.toNat (lkM t s k) (getD_some h2)
 exact ⟨fun h => by have := h3.1 h; omega, fun h => by have := h3.2 h; omega⟩
theorem one_kind {nd : Bool → Int → List AV → AV} {g : Plain} {t : Table} (hok : Ok g t) {p q : PS} {k dn e : Int} {d : AV} (hk0 : 0 ≤ k) (hk : k < g.kinds.l.length) (hp : p.Fine t) (h : oneS nd g t k d p = (dn, e, q)) : (dn = 1 → k ≠ 0) ∧ (dn = 2 → k = 0) := by
 have hm := lkM_kind hok (hp.ok _ (last_mem hp)) hk0 hk
 unfold oneS at h
 simp only at h
 split at h
 ·cases h; exact ⟨(fun h => by cases h), (fun h => by cases h)⟩
 ·split at h
  ·cases h; exact ⟨(fun h => by cases h), (fun h => by cases h)⟩
  ·split at h
   ·rename_i h3
    split at h
    ·cases h; exact ⟨(fun h => by cases h), fun _ => hm.2 h3⟩
    ·cases h; exact ⟨(fun h => by cases h), (fun h => by cases h)⟩
   ·split at h
    ·split at h
     ·cases h; exact ⟨(fun h => by cases h), (fun h => by cases h)⟩
     ·cases h; exact ⟨(fun h => by cases h), (fun h => by cases h)⟩
    ·cases h
     refine ⟨fun h => ?_, fun h => ?_⟩
     ·split at h
      ·rename_i h1; exact hm.1 h1
      ·cases h
     ·split at h <;> cases h
theorem take_fine {nd : Bool → Int → List AV → AV} (hnd : ∀ b n l, l.all isTree = true → isTree (nd b n l) = true) {g : Plain} {t : Table} (hok : Ok g t) {k : Int} {d : AV} (hd : isTree d = true) (hk0 : 0 ≤ k) (hk : k < g.kinds.l.length) : ∀ {f : Nat} {p q : PS} {dn e : Int}, p.Fine t → p.fuel ≤ f → takeS nd g t k d f p = (dn, e, q) →
  q.ts.all isTree = true ∧ ((dn = 1 ∧ e = 0 ∧ k ≠ 0 ∧ q.Fine t) ∨ (dn = 2 ∧ e = 0 ∧ k = 0 ∧ q.ts.length = 1 ∧ q.tb = true) ∨ e ≠ 0)
 | 0, p, q, dn, e, hp, hf, h => by have := hp.n; unfold PS.fuel at hf; omega
 | f + 1, p, q, dn, e, hp, hf, h => by
  obtain ⟨a, b, q', ho⟩ : ∃ a b c, oneS nd g t k d p = (a, b, c) := ⟨_, _, _, rfl⟩
  have h1 := one_fine hnd hok hd hk0 hk hp ho
  have h2 := one_isTree hnd hd hp.trees ho
  have h3 := one_kind hok hk0 hk hp ho
  rw [takeS] at h
  simp only [ho] at h
  split at h
  ·rename_i hc
   cases h
   refine ⟨h2, ?_⟩
   rcases h1 with ⟨ha, hb, _⟩ | ⟨ha, hb, hq⟩ | ⟨ha, hb, hl, hts, htb, _⟩ | ⟨ha, hb⟩
   ·rw [ha, hb] at hc; simp at hc
   ·exact .inl ⟨ha, hb, h3.1 ha, hq⟩
   ·refine .inr (.inl ⟨ha, hb, h3.2 ha, ?_, ?_⟩)
    ·have := hp.st; rw [hts]; omega
    ·rw [htb]
     cases hb2 : p.tb with
     | true => rfl
     | false => have := hp.tb hb2; have := hp.st; simp_all
   ·exact .inr (.inr hb)
  ·rename_i hc
   rcases h1 with ⟨ha, hb, hq, hn, hlt⟩ | ⟨ha, hb, hq⟩ | ⟨ha, hb, _⟩ | ⟨ha, hb⟩
   ·exact take_fine hnd hok hd hk0 hk hq (by unfold PS.fuel at *; omega) h
   ·rw [ha] at hc; simp at hc
   ·rw [ha] at hc; simp at hc
   ·simp [hb] at hc
/-- a whole row, by the program: what stands behind, why it ended, where, its tree -/
def runS (nd : Bool → Int → List AV → AV) (g : Plain) (t : Table) (row : List Int) : Nat → Int → PS → PS × Int × Int × AV
 | 0, _, p => (p, 0, 0, p.ts.getD 0 zT)
 | n + 1, i, p =>
  let r := takeS nd g t (if i < row.length then row.getD i.toNat default else 0) (lf i) p.fuel p
  if r.2.1 = 0 then runS nd g t row n (i + 1) r.2.2 else (r.2.2, r.2.1, i, zT)
def outA (w i : Int) (tr : AV) : AV := .agg (vi w :: vi i :: cells tr)
theorem noLk_qf {g : Plain} {t : Table} {p : PS} (h : p.ts.all isTree = true) : noLk (p.qf g t) = true := by
 rw [PS.qf, noLk_qcv, noLk, noLkL_all, noLk_ints, noLk_oc (noLk_tree h), noLk_oc noLk_moves]; rfl
noncomputable def fn34 : FnS := (mkA Try.f34 ⟨31, [0, 0], true, []⟩).getD ⟨.skip, 0, [], [], 0, [], false, []⟩
theorem F34 : cx.F 34 = some fn34 := by kernel_rfl   -- quoin/pull.begin
theorem begin_q (hO : ∀ e ∈ O, e.f ≠ 34) {g : Plain} {t : Table} : Ans cx O 34 [g.av, t.av] (.bx (p0.qf g t), []) := by
 refine ans_q [1, 0] (fn := fn34) F34 (orc_none hO) ?_
 show Wq cx O 31 0 [] _ ⟨[(1, (Table.av t)), (0, (Plain.av g))], [], [], false⟩ _
 apply Wq.seq
 refine Wq.rg [4, 3, 2] ?_
 refine .e (.ptr ⟨2, []⟩ 0 0) [(2, .bx (Plain.av g))] ?_
 refine .e (.ptr ⟨3, []⟩ 0 0) [(2, .bx (Plain.av g)), (3, .bx (Table.av t))] ?_
 refine .p .nilp ?_
 refine .done ⟨[(4, .nilp), (3, (.ptr ⟨3, []⟩ 0 0)), (2, (.ptr ⟨2, []⟩ 0 0))], [(2, .bx (Plain.av g)), (3, .bx (Table.av t))], [], false⟩ ?_
 apply Wq.seq
 refine Wq.rg [4] ?_
 refine .e (.rf 1 ⟨5, []⟩ 0 1) [(2, .bx (Plain.av g)), (3, .bx (Table.av t)), (5, .ow 1 [vi 0])] ?_
 refine .p (.agg [.rf 1 ⟨5, []⟩ 0 1, .fz 1 0 []]) ?_
 refine .r (Plain.av g) ?_
 refine .r (Table.av t) ?_
 refine .p (.agg [.rf 1 ⟨5, []⟩ 0 1, .fz 1 0 [], (Sl.av vs g.kinds), (Sl.av Prec.av g.precs), (Sl.av vs g.rules), (Sl.av Prod.av g.prods), (vi g.start), (Sl.av (Sl.av Move.av) t.moves), (Sl.av (Sl.av vi) t.goto), .fz 1 0 [], vi 0]) ?_
 refine .e (.ptr ⟨10, []⟩ 0 0) [(2, .bx (Plain.av g)), (3, .bx (Table.av t)), (10, .bx (.agg [.ow 1 [vi 0], .fz 1 0 [], (Sl.av vs g.kinds), (Sl.av Prec.av g.precs), (Sl.av vs g.rules), (Sl.av Prod.av g.prods), (vi g.start), (Sl.av (Sl.av Move.av) t.moves), (Sl.av (Sl.av vi) t.goto), .fz 1 0 [], vi 0]))] ?_
 refine .p (.ptr ⟨10, []⟩ 0 0) ?_
 refine .done ⟨[(4, .ptr ⟨4, []⟩ 0 0)], [(2, .bx (Plain.av g)), (3, .bx (Table.av t)), (4, .bx (.agg [.ow 1 [vi 0], .fz 1 0 [], (Sl.av vs g.kinds), (Sl.av Prec.av g.precs), (Sl.av vs g.rules), (Sl.av Prod.av g.prods), (vi g.start), (Sl.av (Sl.av Move.av) t.moves), (Sl.av (Sl.av vi) t.goto), .fz 1 0 [], vi 0]))], [], false⟩ ?_
 refine Wq.ret ?_
 exact Aq.mk rfl rfl
noncomputable def fn24 : FnS := (mkA Try.f24 ⟨17197567967, [0, 0, 0], false, []⟩).getD ⟨.skip, 0, [], [], 0, [], false, []⟩
theorem F24 : cx.F 24 = some fn24 := by kernel_rfl   -- quoin/pull.run
theorem run_q (hO : ∀ e ∈ O, e.f ≠ 24) (hO4 : ∀ e ∈ O, e.f ≠ 34) (hO5 : ∀ e ∈ O, e.f ≠ 35) (hO8 : ∀ e ∈ O, e.f ≠ 58) (hO7 : ∀ e ∈ O, e.f ≠ 57) (hO3 : ∀ e ∈ O, e.f ≠ 37) (hO6 : ∀ e ∈ O, e.f ≠ 56) {g : Plain} {t : Table} (hok : Ok g t) {row : Sl Int} (hr1 : row.ok 1) (hrl : row.l.length < 2 ^ 40) (hrow : ∀ k ∈ row.l, 1 ≤ k ∧ k < g.kinds.l.length) :
  Ans cx O 24 [g.av, t.av, row.av vi] (match runS ndP g t row.l (row.l.length + 1) 0 p0 with | (q, w, i, tr) => (.tup [.bx (q.qf g t), outA w i tr], [])) := by
 refine ans_q [2, 1, 0] (fn := fn24) F24 (orc_none hO) ?_
 show Wq cx O 17197567967 0 [] _ ⟨[(2, (Sl.av vi row)), (1, (Table.av t)), (0, (Plain.av g))], [], [], false⟩ _
 apply Wq.seq
 refine Wq.rg [7, 6, 4, 3, 2] ?_
 refine .e (.ptr ⟨3, []⟩ 0 0) [(3, .bx (Plain.av g))] ?_
 refine .e (.ptr ⟨4, []⟩ 0 0) [(3, .bx (Plain.av g)), (4, .bx (Table.av t))] ?_
 refine .p .nilp ?_
 refine .e (.ptr ⟨7, []⟩ 0 0) [(3, .bx (Plain.av g)), (4, .bx (Table.av t)), (7, .bx Z37)] ?_
 refine .done ⟨[(7, (.ptr ⟨7, []⟩ 0 0)), (6, .nilp), (4, (.ptr ⟨4, []⟩ 0 0)), (3, (.ptr ⟨3, []⟩ 0 0)), (2, (Sl.av vi row))], [(3, .bx (Plain.av g)), (4, .bx (Table.av t)), (7, .bx Z37)], [], false⟩ ?_
 apply Wq.seq
 refine Wq.rg [8, 7, 2] ?_
 refine .r (Plain.av g) ?_
 refine .r (Table.av t) ?_
 refine .cl F34 rfl rfl (begin_q hO4) (expArgs_cons rfl (expArgs_cons rfl rfl rfl) rfl) rfl rfl rfl (.ptr ⟨15360, []⟩ 0 0) [(3, .bx (Plain.av g)), (4, .bx (Table.av t)), (7, .bx Z37), (15360, .bx (p0.qf g t))] ?_
 refine .p (.ptr ⟨15360, []⟩ 0 0) ?_
 refine .done ⟨[(8, .ptr ⟨8, []⟩ 0 0), (7, (.ptr ⟨7, []⟩ 0 0)), (2, (Sl.av vi row))], [(3, .bx (Plain.av g)), (4, .bx (Table.av t)), (7, .bx Z37), (8, .bx (p0.qf g t))], [], false⟩ ?_
 apply Wq.seq
 apply Wq.seq
 refine Wq.rg [18, 17, 8, 7, 2] ?_
 refine .p (Sl.av vi row) ?_
 obtain ⟨x16, e16⟩ : ∃ x : Int, x = (row.l.length : Int) := ⟨_, rfl⟩
 refine .pv _ (vi x16) (ln e16) ?_
 obtain ⟨x17, e17⟩ : ∃ x : Int, x = (x16 + 1) := ⟨_, rfl⟩
 refine .pv _ (vi x17) (wrE e17 (by omega) (by omega)) ?_
 refine .p (vi 0) ?_
 refine .done ⟨[(18, (vi 0)), (17, (vi x17)), (8, .ptr ⟨8, []⟩ 0 0), (7, (.ptr ⟨7, []⟩ 0 0)), (2, (Sl.av vi row))], [(3, .bx (Plain.av g)), (4, .bx (Table.av t)), (7, .bx Z37), (8, .bx (p0.qf g t))], [], false⟩ ?_
 refine Wq.block ?_ -- 0
 refine Wq.lp (fun m s => ∃ (x18 : Int) (q : PS), m = (row.l.length + 1 - x18).toNat ∧ (0 ≤ x18 ∧ x18 ≤ row.l.length + 1 ∧ (x18 ≤ row.l.length → q.Fine t) ∧ (x18 = row.l.length + 1 → q.ts.length = 1 ∧ q.tb = true) ∧ q.ts.all isTree = true ∧ runS ndP g t row.l (row.l.length + 1) 0 p0 = runS ndP g t row.l (row.l.length + 1 - x18).toNat x18 q) ∧ s = ⟨[(18, (vi x18)), (17, (vi x17)), (8, .ptr ⟨8, []⟩ 0 0), (7, (.ptr ⟨7, []⟩ 0 0)), (2, (Sl.av vi row))], [(3, .bx (Plain.av g)), (4, .bx (Table.av t)), (7, .bx Z37), (8, .bx (q.qf g t))], [], false⟩) ?_ ⟨0, p0, rfl, ⟨by omega, by omega, fun _ => p0_fine hok, fun h => by omega, rfl, by simp⟩, rfl⟩
 rintro m s ⟨x18, q, rfl, ⟨hi0, hi1, hq, hqe, hqt, hi⟩, rfl⟩
 show Wq _ _ _ _ _ _ ⟨[(18, (vi x18)), (17, (vi x17)), (8, .ptr ⟨8, []⟩ 0 0), (7, (.ptr ⟨7, []⟩ 0 0)), (2, (Sl.av vi row))], [(3, .bx (Plain.av g)), (4, .bx (Table.av t)), (7, .bx Z37), (8, .bx (q.qf g t))], [], false⟩ _
 apply Wq.seq
 refine Wq.rg [19, 18, 17, 8, 7, 2] ?_
 refine .p (.bool (decide (x18 < x17))) ?_
 refine .done ⟨[(19, (.bool (decide (x18 < x17)))), (18, (vi x18)), (17, (vi x17)), (8, .ptr ⟨8, []⟩ 0 0), (7, (.ptr ⟨7, []⟩ 0 0)), (2, (Sl.av vi row))], [(3, .bx (Plain.av g)), (4, .bx (Table.av t)), (7, .bx Z37), (8, .bx (q.qf g t))], [], false⟩ ?_
 apply Wq.seq
 refine Wq.cond rfl (fun hx => ?_) (fun hx => ?_)
 ·have hx := of_decide_eq_true hx
  refine Wq.skip ?_
  apply Wq.seq
  refine Wq.block ?_ -- 1
  apply Wq.seq
  refine Wq.rg [18, 17, 9, 8, 7, 2] ?_
  iterate 2 (refine .p (vi x18) ?_)
  refine .done ⟨[(18, (vi x18)), (17, (vi x17)), (9, (vi x18)), (8, .ptr ⟨8, []⟩ 0 0), (7, (.ptr ⟨7, []⟩ 0 0)), (2, (Sl.av vi row))], [(3, .bx (Plain.av g)), (4, .bx (Table.av t)), (7, .bx Z37), (8, .bx (q.qf g t))], [], false⟩ ?_
  apply Wq.seq
  refine Wq.rg [18, 17, 10, 9, 8, 7, 2] ?_
  refine .p (vi 0) ?_
  refine .done ⟨[(18, (vi x18)), (17, (vi x17)), (10, (vi 0)), (9, (vi x18)), (8, .ptr ⟨8, []⟩ 0 0), (7, (.ptr ⟨7, []⟩ 0 0)), (2, (Sl.av vi row))], [(3, .bx (Plain.av g)), (4, .bx (Table.av t)), (7, .bx Z37), (8, .bx (q.qf g t))], [], false⟩ ?_
  apply Wq.seq
  apply Wq.seq
  refine Wq.rg [24, 18, 17, 10, 9, 8, 7, 2] ?_
  refine .p (vi x18) ?_
  refine .p (Sl.av vi row) ?_
  obtain ⟨x23, e23⟩ : ∃ x : Int, x = (row.l.length : Int) := ⟨_, rfl⟩
  refine .pv _ (vi x23) (ln e23) ?_
  refine .p (.bool (decide (x18 < x23))) ?_
  refine .done ⟨[(24, (.bool (decide (x18 < x23)))), (18, (vi x18)), (17, (vi x17)), (10, (vi 0)), (9, (vi x18)), (8, .ptr ⟨8, []⟩ 0 0), (7, (.ptr ⟨7, []⟩ 0 0)), (2, (Sl.av vi row))], [(3, .bx (Plain.av g)), (4, .bx (Table.av t)), (7, .bx Z37), (8, .bx (q.qf g t))], [], false⟩ ?_
  refine Wq.jn (fun s => ∃ (x10 : Int), (x10 = if x18 < row.l.length then row.l.getD x18.toNat default else 0) ∧ s = ⟨[(18, (vi x18)), (17, (vi x17)), (10, (vi x10)), (9, (vi x18)), (8, .ptr ⟨8, []⟩ 0 0), (7, (.ptr ⟨7, []⟩ 0 0)), (2, (Sl.av vi row))], [(3, .bx (Plain.av g)), (4, .bx (Table.av t)), (7, .bx Z37), (8, .bx (q.qf g t))], [], false⟩) ?_ ?_
  ·refine Wq.cond rfl (fun hx => ?_) (fun hx => ?_)
   ·have hx := of_decide_eq_true hx
    refine Wq.rg [18, 17, 10, 9, 8, 7, 2] ?_
    refine .p (Sl.av vi row) ?_
    refine .p (vi x18) ?_
    obtain ⟨r27, e27⟩ : ∃ x : _, x = (row.l.getD x18.toNat default) := ⟨_, rfl⟩
    have m27 := getD_mem e27 (by omega) (by omega)
    refine .po (fun _ => op_ix e27 (by omega) (by omega) hr1) (.fp _ (vi r27) 0) rfl ?_
    iterate 2 (refine .p (vi r27) ?_)
    refine .done ⟨[(18, (vi x18)), (17, (vi x17)), (10, (vi r27)), (9, (vi x18)), (8, .ptr ⟨8, []⟩ 0 0), (7, (.ptr ⟨7, []⟩ 0 0)), (2, (Sl.av vi row))], [(3, .bx (Plain.av g)), (4, .bx (Table.av t)), (7, .bx Z37), (8, .bx (q.qf g t))], [], false⟩ ?_
    exact Jq.mk ⟨_, (by rw [if_pos (by omega), e27]), rfl⟩
   ·have hx := of_decide_eq_false hx
    refine Wq.skipW [18, 17, 10, 9, 8, 7, 2] rfl ?_
    exact Jq.mk ⟨_, (by rw [if_neg (by omega)]), rfl⟩
  rintro s ⟨x10, hg, rfl⟩
  apply Wq.seq
  refine Wq.rg [18, 17, 11, 9, 8, 7, 2] ?_
  refine .p (.ptr ⟨8, []⟩ 0 0) ?_
  refine .p (vi x10) ?_
  refine .p (vi x18) ?_
  have hq := hq (by omega)
  have hkr : 0 ≤ x10 ∧ x10 < g.kinds.l.length ∧ (x10 = 0 ↔ x18 = row.l.length) := by
   have := hok.kpos
   rw [hg]; split
   ·have := hrow _ (getD_mem (l := row.l) (n := x18) (d := default) rfl hi0 (by omega)); omega
   ·omega
  obtain ⟨dn, x32, q', ho⟩ : ∃ a b c, takeS ndP g t x10 (lf x18) q.fuel q = (a, b, c) := ⟨_, _, _, rfl⟩
  have hans := take_q hO5 hO8 hO7 hO3 hO6 hok (k := x10) (at_ := x18) hkr.1 hkr.2.1 hq
  rw [ho] at hans
  have hf := take_fine ndP_tree hok (d := lf x18) rfl hkr.1 hkr.2.1 hq (Nat.le_refl _) ho
  have efu : runS ndP g t row.l (row.l.length + 1 - x18).toNat x18 q = if x32 = 0 then runS ndP g t row.l (row.l.length + 1 - (x18 + 1)).toNat (x18 + 1) q' else (q', x32, x18, zT) := by
   rw [show (row.l.length + 1 - x18 : Int).toNat = (row.l.length + 1 - (x18 + 1) : Int).toNat + 1 by omega, runS]
   simp only [← hg, ho]
  refine .cl F35 rfl rfl hans (expArgs_cons rfl (expArgs_cons rfl (expArgs_cons rfl rfl rfl) rfl) rfl) rfl (show noLkL [.bx (q.qf g t), vi x10, vi x18] = true by simp only [noLkL, noLk, noLk_qf hq.trees, Bool.and_self]) (zip_ok rfl (by rw [PS.qf, qcv_na, nonAgg_oc, nonAgg_oc]; rfl)) (vi x32) [(3, .bx (Plain.av g)), (4, .bx (Table.av t)), (7, .bx Z37), (8, .bx (q'.qf g t))] ?_
  refine .p (vi x32) ?_
  refine .fin (S' := ⟨[(18, (vi x18)), (17, (vi x17)), (11, (vi x32)), (9, (vi x18)), (8, .ptr ⟨8, []⟩ 0 0), (7, (.ptr ⟨7, []⟩ 0 0)), (2, (Sl.av vi row))], [(3, .bx (Plain.av g)), (4, .bx (Table.av t)), (7, .bx Z37), (8, .bx (q'.qf g t))], [], false⟩) (fin_nl (nl_call rfl rfl (qcv_nl (by rw [noLk, noLkL_all]; exact noLk_ints) (noLk_oc (noLk_tree hf.1)) (noLk_oc noLk_moves) rfl) rfl) (by kernel_rfl)) ?_
  apply Wq.seq
  refine Wq.rg [34, 18, 17, 11, 9, 8, 7, 2] ?_
  refine .p (vi x32) ?_
  refine .p (.bool (!(x32 == 0))) ?_
  refine .done ⟨[(34, (.bool (!(x32 == 0)))), (18, (vi x18)), (17, (vi x17)), (11, (vi x32)), (9, (vi x18)), (8, .ptr ⟨8, []⟩ 0 0), (7, (.ptr ⟨7, []⟩ 0 0)), (2, (Sl.av vi row))], [(3, .bx (Plain.av g)), (4, .bx (Table.av t)), (7, .bx Z37), (8, .bx (q'.qf g t))], [], false⟩ ?_
  refine Wq.cond rfl (fun hx => ?_) (fun hx => ?_)
  ·have hx : ¬ (x32 = 0) := by simpa using hx
   apply Wq.seq
   refine Wq.rg [7, 6] ?_
   refine .p (.ptr ⟨8, []⟩ 0 0) ?_
   refine .p (vi x32) ?_
   refine .p (vi x18) ?_
   refine .p (.agg [(vi x32), (vi x18), (vi 0), (vi 0), (.fz 1 0 [])]) ?_
   refine .p (.ptr ⟨8, []⟩ 0 0) ?_
   refine .sq [(3, .bx (Plain.av g)), (4, .bx (Table.av t)), (7, .bx (.agg [(vi x32), (vi x18), (vi 0), (vi 0), (.fz 1 0 [])])), (8, .bx (q'.qf g t))] ?_
   refine .done ⟨[(7, (.ptr ⟨7, []⟩ 0 0)), (6, .ptr ⟨8, []⟩ 0 0)], [(3, .bx (Plain.av g)), (4, .bx (Table.av t)), (7, .bx (.agg [(vi x32), (vi x18), (vi 0), (vi 0), (.fz 1 0 [])])), (8, .bx (q'.qf g t))], [], false⟩ ?_
   refine Wq.ret ?_
   exact Aq.mk rfl (by rw [hi, efu, if_neg hx]; rfl)
  ·have hx : (x32 = 0) := by simpa using hx
   refine Wq.skip ?_
   refine Wq.rg [18, 17, 8, 7, 2] ?_
   obtain ⟨x39, e39⟩ : ∃ x : Int, x = (x18 + 1) := ⟨_, rfl⟩
   refine .pv _ (vi x39) (wrE e39 (by omega) (by omega)) ?_
   refine .p (vi x39) ?_
   refine .done ⟨[(18, (vi x39)), (17, (vi x17)), (8, .ptr ⟨8, []⟩ 0 0), (7, (.ptr ⟨7, []⟩ 0 0)), (2, (Sl.av vi row))], [(3, .bx (Plain.av g)), (4, .bx (Table.av t)), (7, .bx Z37), (8, .bx (q'.qf g t))], [], false⟩ ?_
   refine Iq.mk _ (by omega) ⟨x39, q', rfl, ⟨by omega, by omega, fun h => ?_, fun h => ?_, hf.1, by rw [hi, efu, if_pos hx, e39]⟩, rfl⟩
   ·rcases hf.2 with ⟨_, _, _, h⟩ | ⟨_, _, h0, _⟩ | hb
    ·exact h
    ·have := hkr.2.2.1 h0; omega
    ·exact absurd hx hb
   ·rcases hf.2 with ⟨_, _, h0, _⟩ | ⟨_, _, _, h1, h2⟩ | hb
    ·exact absurd (hkr.2.2.2 (by omega)) h0
    ·exact ⟨h1, h2⟩
    ·exact absurd hx hb
 ·have hx := of_decide_eq_false hx
  refine Wq.exit ?_ -- 0
  apply Wq.seq
  have hx18 : x18 = row.l.length + 1 := by omega
  obtain ⟨hq1, hq2⟩ := hqe hx18
  rw [hx18, show ((row.l.length : Int) + 1 - ((row.l.length : Int) + 1)).toNat = 0 by omega, runS] at hi
  rw [hi]
  obtain ⟨st8, ts8, tb8, tr8, n8⟩ := q
  obtain ⟨tr1, rfl⟩ : ∃ a, ts8 = [a] := List.length_eq_one_iff.1 hq1
  obtain rfl : tb8 = true := hq2
  obtain ⟨dp1, dt1, dl1, dz1, ks1, rfl⟩ := isTree_iff (List.all_eq_true.1 hqt _ (List.mem_singleton.2 rfl))
  refine Wq.rg [7, 6] ?_
  iterate 2 (refine .p (.ptr ⟨8, []⟩ 0 0) ?_)
  iterate 2 (refine .r (.ptr ⟨8, []⟩ 0 0) ?_)
  refine .r (.ptr ⟨8, []⟩ 0 1) ?_
  refine .r (.rf _ _ _ _) ?_
  refine .r (.ptr _ _ _) ?_
  refine .r (.agg [vi dp1, vi dt1, .fz dl1 dz1 ks1]) ?_
  refine .p (.agg [vi 0, vi 0, vi dp1, vi dt1, .fz dl1 dz1 ks1]) ?_
  refine .p (.ptr ⟨8, []⟩ 0 0) ?_
  refine .sq [(3, .bx (Plain.av g)), (4, .bx (Table.av t)), (7, .bx (.agg [vi 0, vi 0, vi dp1, vi dt1, .fz dl1 dz1 ks1])), (8, .bx (PS.qf g t ⟨st8, [.agg [vi dp1, vi dt1, .fz dl1 dz1 ks1]], true, tr8, n8⟩))] ?_
  refine .done ⟨[(7, (.ptr ⟨7, []⟩ 0 0)), (6, (.ptr ⟨8, []⟩ 0 0))], [(3, .bx (Plain.av g)), (4, .bx (Table.av t)), (7, .bx (.agg [vi 0, vi 0, vi dp1, vi dt1, .fz dl1 dz1 ks1])), (8, .bx (PS.qf g t ⟨st8, [.agg [vi dp1, vi dt1, .fz dl1 dz1 ks1]], true, tr8, n8⟩))], [], false⟩ ?_
  refine Wq.ret ?_
  exact Aq.mk rfl rfl
end Go.Am.Pull
end
section
namespace Go.Am.Pull
open Go Go.Proofs Go.Am
set_option maxRecDepth 100000
set_option maxHeartbeats 4000000
variable {O : List Ent}
theorem take_isTree {nd : Bool → Int → List AV → AV} (hnd : ∀ b n l, l.all isTree = true → isTree (nd b n l) = true) {g : Plain} {t : Table} {k : Int} {d : AV} (hd : isTree d = true) : ∀ {f : Nat} {p q : PS} {dn e : Int}, p.ts.all isTree = true → takeS nd g t k d f p = (dn, e, q) → q.ts.all isTree = true
 | 0, p, q, dn, e, hp, h => by cases h; exact hp
 | f + 1, p, q, dn, e, hp, h => by
  obtain ⟨a, b, q', ho⟩ : ∃ a b c, oneS nd g t k d p = (a, b, c) := ⟨_, _, _, rfl⟩
  have h2 := one_isTree hnd hd hp ho
  rw [takeS] at h
  simp only [ho] at h
  split at h
  ·cases h; exact h2
  ·exact take_isTree hnd hd h2 h
theorem run_isTree {nd : Bool → Int → List AV → AV} (hnd : ∀ b n l, l.all isTree = true → isTree (nd b n l) = true) {g : Plain} {t : Table} {row : List Int} : ∀ {n : Nat} {i : Int} {p q : PS} {w ix : Int} {tr : AV}, p.ts.all isTree = true → runS nd g t row n i p = (q, w, ix, tr) → q.ts.all isTree = true ∧ isTree tr = true
 | 0, i, p, q, w, ix, tr, hp, h => by
  cases h
  refine ⟨hp, ?_⟩
  cases hts : p.ts with
  | nil => rfl
  | cons a l => rw [hts, List.all_cons, Bool.and_eq_true] at hp; exact hp.1
 | n + 1, i, p, q, w, ix, tr, hp, h => by
  obtain ⟨a, b, q', ho⟩ : ∃ a b c, takeS nd g t (if i < row.length then row.getD i.toNat default else 0) (lf i) p.fuel p = (a, b, c) := ⟨_, _, _, rfl⟩
  have h2 := take_isTree hnd (d := lf i) rfl hp ho
  rw [runS] at h
  simp only [ho] at h
  split at h
  ·exact run_isTree hnd h2 h
  ·cases h; exact ⟨h2, rfl⟩
theorem frzL_moves {lab : Nat} {l : List Move} : frzL lab (l.map Move.av) = l.map Move.av := frzL_id fun a ha => by
 obtain ⟨n, _, rfl⟩ := List.mem_map.1 ha
 intro lab; rfl
/-- the moves that are told -/
def trV (tr : List Move) : AV := if tr = [] then .fz 1 0 [] else .fz 0 2 (tr.map Move.av)
/-- what a row must be, and a grammar, and a table -/
structure RowOk (g : Plain) (t : Table) (row : Sl Int) : Prop where
 ok : Ok g t
 sz : row.ok 1
 len : row.l.length < 2 ^ 40
 kinds : ∀ k ∈ row.l, 1 ≤ k ∧ k < g.kinds.l.length
noncomputable def fn23 : FnS := (mkA Try.f23 ⟨8598078175, [0, 0, 0], false, []⟩).getD ⟨.skip, 0, [], [], 0, [], false, []⟩
theorem F23 : cx.F 23 = some fn23 := by kernel_rfl   -- quoin/pull.refuse
noncomputable def fn7 : FnS := (mkA Try.f7 ⟨67039, [0, 0, 0], false, []⟩).getD ⟨.skip, 0, [], [], 0, [], false, []⟩
theorem F7 : cx.F 7 = some fn7 := by kernel_rfl   -- quoin/pull.Parse
theorem parse_q (hO : ∀ e ∈ O, e.f ≠ 7) (hO3a : ∀ e ∈ O, e.f ≠ 24) (hO4 : ∀ e ∈ O, e.f ≠ 34) (hO5 : ∀ e ∈ O, e.f ≠ 35) (hO8 : ∀ e ∈ O, e.f ≠ 58) (hO7 : ∀ e ∈ O, e.f ≠ 57) (hO3 : ∀ e ∈ O, e.f ≠ 37) (hO6 : ∀ e ∈ O, e.f ≠ 56) {g : Plain} {t : Table} {row : Sl Int} {x14 : Int} (h23 : Ans cx O 23 [g.av, t.av, row.av vi] (vi x14, [])) (hr : x14 = 0 → RowOk g t row) :
  Ans cx O 7 [g.av, t.av, row.av vi] (if x14 = 0 then (match runS ndP g t row.l (row.l.length + 1) 0 p0 with | (q, w, ix, tr) => (.tup [outA w ix tr, vi 0], [])) else (.tup [Z37, vi x14], [])) := by
 refine ans_q [2, 1, 0] (fn := fn7) F7 (orc_none hO) ?_
 show Wq cx O 67039 0 [] _ ⟨[(2, (Sl.av vi row)), (1, (Table.av t)), (0, (Plain.av g))], [], [], false⟩ _
 apply Wq.seq
 refine Wq.rg [7, 6, 4, 3, 2] ?_
 refine .e (.ptr ⟨3, []⟩ 0 0) [(3, .bx (Plain.av g))] ?_
 refine .e (.ptr ⟨4, []⟩ 0 0) [(3, .bx (Plain.av g)), (4, .bx (Table.av t))] ?_
 refine .e (.ptr ⟨6, []⟩ 0 0) [(3, .bx (Plain.av g)), (4, .bx (Table.av t)), (6, .bx Z37)] ?_
 refine .p (vi 0) ?_
 refine .done ⟨[(7, (vi 0)), (6, (.ptr ⟨6, []⟩ 0 0)), (4, (.ptr ⟨4, []⟩ 0 0)), (3, (.ptr ⟨3, []⟩ 0 0)), (2, (Sl.av vi row))], [(3, .bx (Plain.av g)), (4, .bx (Table.av t)), (6, .bx Z37)], [], false⟩ ?_
 apply Wq.seq
 refine Wq.rg [8, 6, 4, 3, 2] ?_
 refine .r (Plain.av g) ?_
 refine .r (Table.av t) ?_
 refine .p (Sl.av vi row) ?_
 refine .cl F23 rfl rfl h23 (expArgs_cons rfl (expArgs_cons rfl (expArgs_cons rfl rfl rfl) rfl) rfl) rfl rfl rfl (vi x14) [(3, .bx (Plain.av g)), (4, .bx (Table.av t)), (6, .bx Z37)] ?_
 refine .p (vi x14) ?_
 refine .done ⟨[(8, (vi x14)), (6, (.ptr ⟨6, []⟩ 0 0)), (4, (.ptr ⟨4, []⟩ 0 0)), (3, (.ptr ⟨3, []⟩ 0 0)), (2, (Sl.av vi row))], [(3, .bx (Plain.av g)), (4, .bx (Table.av t)), (6, .bx Z37)], [], false⟩ ?_
 apply Wq.seq
 apply Wq.seq
 refine Wq.rg [16, 8, 6, 4, 3, 2] ?_
 refine .p (vi x14) ?_
 refine .p (.bool (!(x14 == 0))) ?_
 refine .done ⟨[(16, (.bool (!(x14 == 0)))), (8, (vi x14)), (6, (.ptr ⟨6, []⟩ 0 0)), (4, (.ptr ⟨4, []⟩ 0 0)), (3, (.ptr ⟨3, []⟩ 0 0)), (2, (Sl.av vi row))], [(3, .bx (Plain.av g)), (4, .bx (Table.av t)), (6, .bx Z37)], [], false⟩ ?_
 refine Wq.cond rfl (fun hx => ?_) (fun hx => ?_)
 ·have hx : ¬ (x14 = 0) := by simpa using hx
  apply Wq.seq
  refine Wq.rg [7, 6] ?_
  refine .p Z37 ?_
  refine .p (vi x14) ?_
  refine .sq [(3, .bx (Plain.av g)), (4, .bx (Table.av t)), (6, .bx Z37)] ?_
  refine .p (vi x14) ?_
  refine .done ⟨[(7, (vi x14)), (6, (.ptr ⟨6, []⟩ 0 0))], [(3, .bx (Plain.av g)), (4, .bx (Table.av t)), (6, .bx Z37)], [], false⟩ ?_
  refine Wq.ret ?_
  exact Aq.mk rfl (by rw [if_neg hx]; rfl)
 ·have hx : (x14 = 0) := by simpa using hx
  obtain ⟨hok, hr1, hrl, hrow⟩ := hr hx
  obtain ⟨q, w, ix, tr, hrun⟩ : ∃ a b c d, runS ndP g t row.l (row.l.length + 1) 0 p0 = (a, b, c, d) := ⟨_, _, _, _, rfl⟩
  have hans := run_q hO3a hO4 hO5 hO8 hO7 hO3 hO6 hok hr1 hrl hrow
  rw [hrun] at hans
  obtain ⟨hqt, htr⟩ := run_isTree ndP_tree (p := p0) rfl hrun
  obtain ⟨dp, dt, dl, dz, ks, rfl⟩ := isTree_iff htr
  rw [if_pos hx, hrun]
  refine Wq.skip ?_
  apply Wq.seq
  refine Wq.rg [10, 6] ?_
  refine .r (Plain.av g) ?_
  refine .r (Table.av t) ?_
  refine .p (Sl.av vi row) ?_
  refine .cl F24 rfl rfl hans (expArgs_cons rfl (expArgs_cons rfl (expArgs_cons rfl rfl rfl) rfl) rfl) rfl rfl rfl (.tup [.fp 0 (frz 0 (q.qf g t)) 0, (.agg [vi w, vi ix, vi dp, vi dt, .fz dl dz ks])]) [(3, .bx (Plain.av g)), (4, .bx (Table.av t)), (6, .bx Z37)] ?_
  refine .p (.tup [.fp 0 (frz 0 (q.qf g t)) 0, (.agg [vi w, vi ix, vi dp, vi dt, .fz dl dz ks])]) ?_
  refine .p (.fp 0 (frz 0 (q.qf g t)) 0) ?_
  refine .p (.agg [vi w, vi ix, vi dp, vi dt, .fz dl dz ks]) ?_
  refine .e (.ptr ⟨10, []⟩ 0 0) [(3, .bx (Plain.av g)), (4, .bx (Table.av t)), (6, .bx Z37), (10, .bx Z37)] ?_
  refine .p (.fp 0 (frz 0 (q.qf g t)) 0) ?_
  refine .sq [(3, .bx (Plain.av g)), (4, .bx (Table.av t)), (6, .bx Z37), (10, .bx (.agg [vi w, vi ix, vi dp, vi dt, .fz dl dz ks]))] ?_
  refine .done ⟨[(10, (.ptr ⟨10, []⟩ 0 0)), (6, (.ptr ⟨6, []⟩ 0 0))], [(3, .bx (Plain.av g)), (4, .bx (Table.av t)), (6, .bx Z37), (10, .bx (.agg [vi w, vi ix, vi dp, vi dt, .fz dl dz ks]))], [], false⟩ ?_
  apply Wq.seq
  refine Wq.rg [7, 6] ?_
  refine .r (.agg [vi w, vi ix, vi dp, vi dt, .fz dl dz ks]) ?_
  refine .sq [(3, .bx (Plain.av g)), (4, .bx (Table.av t)), (6, .bx (.agg [vi w, vi ix, vi dp, vi dt, .fz dl dz ks])), (10, .bx (.agg [vi w, vi ix, vi dp, vi dt, .fz dl dz ks]))] ?_
  refine .p (vi 0) ?_
  refine .done ⟨[(7, (vi 0)), (6, (.ptr ⟨6, []⟩ 0 0))], [(3, .bx (Plain.av g)), (4, .bx (Table.av t)), (6, .bx (.agg [vi w, vi ix, vi dp, vi dt, .fz dl dz ks])), (10, .bx (.agg [vi w, vi ix, vi dp, vi dt, .fz dl dz ks]))], [], false⟩ ?_
  refine Wq.ret ?_
  exact Aq.mk rfl rfl
noncomputable def fn9 : FnS := (mkA Try.f9 ⟨66527, [0, 0, 0], false, []⟩).getD ⟨.skip, 0, [], [], 0, [], false, []⟩
theorem F9 : cx.F 9 = some fn9 := by kernel_rfl   -- quoin/pull.Trace
theorem trace_q (hO : ∀ e ∈ O, e.f ≠ 9) (hO3a : ∀ e ∈ O, e.f ≠ 24) (hO4 : ∀ e ∈ O, e.f ≠ 34) (hO5 : ∀ e ∈ O, e.f ≠ 35) (hO8 : ∀ e ∈ O, e.f ≠ 58) (hO7 : ∀ e ∈ O, e.f ≠ 57) (hO3 : ∀ e ∈ O, e.f ≠ 37) (hO6 : ∀ e ∈ O, e.f ≠ 56) {g : Plain} {t : Table} {row : Sl Int} {x14 : Int} (h23 : Ans cx O 23 [g.av, t.av, row.av vi] (vi x14, [])) (hr : x14 = 0 → RowOk g t row) :
  Ans cx O 9 [g.av, t.av, row.av vi] (if x14 = 0 then (match runS ndP g t row.l (row.l.length + 1) 0 p0 with | (q, w, ix, tr) => (.tup [trV q.tr, vi 0], [])) else (.tup [.fz 1 0 [], vi x14], [])) := by
 refine ans_q [2, 1, 0] (fn := fn9) F9 (orc_none hO) ?_
 show Wq cx O 66527 0 [] _ ⟨[(2, (Sl.av vi row)), (1, (Table.av t)), (0, (Plain.av g))], [], [], false⟩ _
 apply Wq.seq
 refine Wq.rg [7, 6, 4, 3, 2] ?_
 refine .e (.ptr ⟨3, []⟩ 0 0) [(3, .bx (Plain.av g))] ?_
 refine .e (.ptr ⟨4, []⟩ 0 0) [(3, .bx (Plain.av g)), (4, .bx (Table.av t))] ?_
 refine .p (.fz 1 0 []) ?_
 refine .p (vi 0) ?_
 refine .done ⟨[(7, (vi 0)), (6, (.fz 1 0 [])), (4, (.ptr ⟨4, []⟩ 0 0)), (3, (.ptr ⟨3, []⟩ 0 0)), (2, (Sl.av vi row))], [(3, .bx (Plain.av g)), (4, .bx (Table.av t))], [], false⟩ ?_
 apply Wq.seq
 refine Wq.rg [8, 4, 3, 2] ?_
 refine .r (Plain.av g) ?_
 refine .r (Table.av t) ?_
 refine .p (Sl.av vi row) ?_
 refine .cl F23 rfl rfl h23 (expArgs_cons rfl (expArgs_cons rfl (expArgs_cons rfl rfl rfl) rfl) rfl) rfl rfl rfl (vi x14) [(3, .bx (Plain.av g)), (4, .bx (Table.av t))] ?_
 refine .p (vi x14) ?_
 refine .done ⟨[(8, (vi x14)), (4, (.ptr ⟨4, []⟩ 0 0)), (3, (.ptr ⟨3, []⟩ 0 0)), (2, (Sl.av vi row))], [(3, .bx (Plain.av g)), (4, .bx (Table.av t))], [], false⟩ ?_
 apply Wq.seq
 apply Wq.seq
 refine Wq.rg [16, 8, 4, 3, 2] ?_
 refine .p (vi x14) ?_
 refine .p (.bool (!(x14 == 0))) ?_
 refine .done ⟨[(16, (.bool (!(x14 == 0)))), (8, (vi x14)), (4, (.ptr ⟨4, []⟩ 0 0)), (3, (.ptr ⟨3, []⟩ 0 0)), (2, (Sl.av vi row))], [(3, .bx (Plain.av g)), (4, .bx (Table.av t))], [], false⟩ ?_
 refine Wq.cond rfl (fun hx => ?_) (fun hx => ?_)
 ·have hx : ¬ (x14 = 0) := by simpa using hx
  apply Wq.seq
  refine Wq.rg [7, 6] ?_
  refine .p (vi x14) ?_
  refine .p (.fz 1 0 []) ?_
  refine .p (vi x14) ?_
  refine .done ⟨[(7, (vi x14)), (6, (.fz 1 0 []))], [(3, .bx (Plain.av g)), (4, .bx (Table.av t))], [], false⟩ ?_
  refine Wq.ret ?_
  exact Aq.mk rfl (by rw [if_neg hx]; rfl)
 ·have hx : (x14 = 0) := by simpa using hx
  obtain ⟨hok, hr1, hrl, hrow⟩ := hr hx
  obtain ⟨q, w, ix, tr, hrun⟩ : ∃ a b c d, runS ndP g t row.l (row.l.length + 1) 0 p0 = (a, b, c, d) := ⟨_, _, _, _, rfl⟩
  have hans := run_q hO3a hO4 hO5 hO8 hO7 hO3 hO6 hok hr1 hrl hrow
  rw [hrun] at hans
  obtain ⟨hqt, htr⟩ := run_isTree ndP_tree (p := p0) rfl hrun
  obtain ⟨dp, dt, dl, dz, ks, rfl⟩ := isTree_iff htr
  rw [if_pos hx, hrun]
  refine Wq.skip ?_
  apply Wq.seq
  refine Wq.rg [9] ?_
  refine .r (Plain.av g) ?_
  refine .r (Table.av t) ?_
  refine .p (Sl.av vi row) ?_
  refine .cl F24 rfl rfl hans (expArgs_cons rfl (expArgs_cons rfl (expArgs_cons rfl rfl rfl) rfl) rfl) rfl rfl rfl (.tup [.fp 0 (frz 0 (q.qf g t)) 0, (.agg [vi w, vi ix, vi dp, vi dt, .fz dl dz ks])]) [(3, .bx (Plain.av g)), (4, .bx (Table.av t))] ?_
  refine .p (.tup [.fp 0 (frz 0 (q.qf g t)) 0, (.agg [vi w, vi ix, vi dp, vi dt, .fz dl dz ks])]) ?_
  refine .p (.fp 0 (frz 0 (q.qf g t)) 0) ?_
  refine .p (.agg [vi w, vi ix, vi dp, vi dt, .fz dl dz ks]) ?_
  refine .e (.ptr ⟨10, []⟩ 0 0) [(3, .bx (Plain.av g)), (4, .bx (Table.av t)), (10, .bx Z37)] ?_
  refine .p (.fp 0 (frz 0 (q.qf g t)) 0) ?_
  refine .sq [(3, .bx (Plain.av g)), (4, .bx (Table.av t)), (10, .bx (.agg [vi w, vi ix, vi dp, vi dt, .fz dl dz ks]))] ?_
  refine .done ⟨[(9, (.fp 0 (frz 0 (q.qf g t)) 0))], [(3, .bx (Plain.av g)), (4, .bx (Table.av t))], [], false⟩ ?_
  apply Wq.seq
  obtain ⟨qst, qts, qtb, qtr, qn⟩ := q
  cases qtr with
  | nil =>
   refine Wq.rg [7, 6] ?_
   iterate 2 (refine .p (.fp 0 (frz 0 (PS.qf g t ⟨qst, qts, qtb, [], qn⟩)) 0) ?_)
   refine .p (.fp 0 (frz 0 (PS.qf g t ⟨qst, qts, qtb, [], qn⟩)) 9) ?_
   iterate 2 (refine .p (.fz 1 0 []) ?_)
   refine .p (vi 0) ?_
   refine .done ⟨[(7, (vi 0)), (6, .fz 1 0 [])], [(3, .bx (Plain.av g)), (4, .bx (Table.av t))], [], false⟩ ?_
   refine Wq.ret ?_
   exact Aq.mk rfl rfl
  | cons m l =>
   refine Wq.rg [7, 6] ?_
   iterate 2 (refine .p (.fp 0 (frz 0 (PS.qf g t ⟨qst, qts, qtb, m :: l, qn⟩)) 0) ?_)
   refine .p (.fp 0 (frz 0 (PS.qf g t ⟨qst, qts, qtb, m :: l, qn⟩)) 9) ?_
   refine .pv (.fz 0 2 (frzL 0 ((m :: l).map Move.av))) (.fz 0 2 ((m :: l).map Move.av)) (by rw [frzL_moves]) ?_
   refine .p (.fz 0 2 ((m :: l).map Move.av)) ?_
   refine .p (vi 0) ?_
   refine .done ⟨[(7, (vi 0)), (6, .fz 0 2 ((m :: l).map Move.av))], [(3, .bx (Plain.av g)), (4, .bx (Table.av t))], [], false⟩ ?_
   refine Wq.ret ?_
   exact Aq.mk rfl rfl
end Go.Am.Pull
end
section
namespace Go.Am.Pull
open Go Go.Proofs Go.Am
set_option maxRecDepth 100000
set_option maxHeartbeats 4000000
variable {O : List Ent}
def moveS (np : Nat) (m : Move) (ns k : Int) : Bool :=
 if m.act = 0 then m.n == 0 else if m.act = 1 then (decide (m.n ≥ 0) && decide (m.n < ns)) && !(k == 0) else if m.act = 2 then decide (m.n ≥ 0) && decide (m.n < np) else if m.act = 3 then (m.n == 0) && (k == 0) else false
def badK (nk : Nat) (k : Int) : Bool := decide (k < 1) || decide (k ≥ nk)
def rowS (nk : Nat) (row : List Int) : Int := if 65536 < row.length then 3 else if row.any (badK nk) then 1 else 0
noncomputable def fn11 : FnS := (mkA Try.f11 ⟨9939826006442155024993782783, [0, 0], false, []⟩).getD ⟨.skip, 0, [], [], 0, [], false, []⟩
theorem F11 : cx.F 11 = some fn11 := by kernel_rfl   -- quoin/pull.Check
noncomputable def fn28 : FnS := (mkA Try.f28 ⟨17594333596991, [0, 0, 0, 0], false, []⟩).getD ⟨.skip, 0, [], [], 0, [], false, []⟩
theorem F28 : cx.F 28 = some fn28 := by kernel_rfl   -- quoin/pull.move
theorem move_q (hO : ∀ e ∈ O, e.f ≠ 28) {g : Plain} {m : Move} {ns k : Int} : Ans cx O 28 [g.av, m.av, vi ns, vi k] (.bool (moveS g.prods.l.length m ns k), []) := by
 refine ans_q [3, 2, 1, 0] (fn := fn28) F28 (orc_none hO) ?_
 show Wq cx O 17594333596991 0 [] _ ⟨[(3, (vi k)), (2, (vi ns)), (1, (Move.av m)), (0, (Plain.av g))], [], [], false⟩ _
 apply Wq.seq
 refine Wq.rg [8, 5, 4, 3, 2] ?_
 refine .e (.ptr ⟨4, []⟩ 0 0) [(4, .bx (Plain.av g))] ?_
 refine .e (.ptr ⟨5, []⟩ 0 0) [(4, .bx (Plain.av g)), (5, .bx (Move.av m))] ?_
 refine .p (.bool false) ?_
 refine .done ⟨[(8, (.bool false)), (5, (.ptr ⟨5, []⟩ 0 0)), (4, (.ptr ⟨4, []⟩ 0 0)), (3, (vi k)), (2, (vi ns))], [(4, .bx (Plain.av g)), (5, .bx (Move.av m))], [], false⟩ ?_
 apply Wq.seq
 apply Wq.seq
 refine Wq.rg [10, 5, 4, 3, 2] ?_
 refine .r (.ptr ⟨5, []⟩ 0 0) ?_
 refine .r (vi m.act) ?_
 refine .done ⟨[(10, (vi m.act)), (5, (.ptr ⟨5, []⟩ 0 0)), (4, (.ptr ⟨4, []⟩ 0 0)), (3, (vi k)), (2, (vi ns))], [(4, .bx (Plain.av g)), (5, .bx (Move.av m))], [], false⟩ ?_
 refine Wq.block ?_ -- 0
 apply Wq.seq
 refine Wq.rg [11, 10, 5, 4, 3, 2] ?_
 iterate 2 (refine .p (.bool (m.act == 0)) ?_)
 refine .done ⟨[(11, (.bool (m.act == 0))), (10, (vi m.act)), (5, (.ptr ⟨5, []⟩ 0 0)), (4, (.ptr ⟨4, []⟩ 0 0)), (3, (vi k)), (2, (vi ns))], [(4, .bx (Plain.av g)), (5, .bx (Move.av m))], [], false⟩ ?_
 refine Wq.cond rfl (fun hx => ?_) (fun hx => ?_)
 ·have c0 : (m.act = 0) := by simpa using hx
  apply Wq.seq
  refine Wq.rg [8] ?_
  refine .r (.ptr ⟨5, []⟩ 0 1) ?_
  refine .r (vi m.n) ?_
  iterate 2 (refine .p (.bool (m.n == 0)) ?_)
  refine .done ⟨[(8, (.bool (m.n == 0)))], [(4, .bx (Plain.av g)), (5, .bx (Move.av m))], [], false⟩ ?_
  refine Wq.ret ?_
  exact Aq.mk rfl (by rw [moveS, if_pos c0]; rfl)
 ·have c0 : ¬ (m.act = 0) := by simpa using hx
  apply Wq.seq
  refine Wq.rg [16, 10, 5, 4, 3, 2] ?_
  iterate 2 (refine .p (.bool (m.act == 1)) ?_)
  refine .done ⟨[(16, (.bool (m.act == 1))), (10, (vi m.act)), (5, (.ptr ⟨5, []⟩ 0 0)), (4, (.ptr ⟨4, []⟩ 0 0)), (3, (vi k)), (2, (vi ns))], [(4, .bx (Plain.av g)), (5, .bx (Move.av m))], [], false⟩ ?_
  refine Wq.cond rfl (fun hx => ?_) (fun hx => ?_)
  ·have c1 : (m.act = 1) := by simpa using hx
   apply Wq.seq
   refine Wq.jn (fun s => s = ⟨[(8, (.bool (((decide (m.n ≥ 0)) && (decide (m.n < ns))) && (!(k == 0)))))], [(4, .bx (Plain.av g)), (5, .bx (Move.av m))], [], false⟩) ?_ ?_
   ·refine Wq.rg [8] ?_
    refine .r (.ptr ⟨5, []⟩ 0 1) ?_
    refine .r (vi m.n) ?_
    iterate 2 (refine .p (.bool (decide (m.n ≥ 0))) ?_)
    refine Rq.split (dg := 21) rfl (fun h3 => ?_) (fun h3 => ?_) rfl
    ·refine .r (.ptr ⟨5, []⟩ 0 1) ?_
     refine .r (vi m.n) ?_
     refine .p (vi ns) ?_
     refine .p (.bool (decide (m.n < ns))) ?_
     iterate 2 (refine .p (.bool (decide (m.n < ns))) ?_)
     refine Rq.split (dg := 27) rfl (fun h9 => ?_) (fun h9 => ?_) rfl
     ·refine .p (vi k) ?_
      refine .p (.bool (!(k == 0))) ?_
      iterate 2 (refine .p (.bool (!(k == 0))) ?_)
      refine .done ⟨[(8, (.bool _))], [(4, .bx (Plain.av g)), (5, .bx (Move.av m))], [], false⟩ ?_
      show (⟨[(8, (.bool _))], [(4, .bx (Plain.av g)), (5, .bx (Move.av m))], [], false⟩ : St) = _
      simp [h3, h9]
     ·iterate 2 (refine .sk ?_)
      iterate 2 (refine .p (.bool false) ?_)
      refine .done ⟨[(8, (.bool _))], [(4, .bx (Plain.av g)), (5, .bx (Move.av m))], [], false⟩ ?_
      show (⟨[(8, (.bool _))], [(4, .bx (Plain.av g)), (5, .bx (Move.av m))], [], false⟩ : St) = _
      simp [h3, h9]
    ·iterate 4 (refine .sk ?_)
     iterate 2 (refine .p (.bool false) ?_)
     refine .sk ?_
     refine .sk ?_
     iterate 2 (refine .p (.bool false) ?_)
     refine .done ⟨[(8, (.bool _))], [(4, .bx (Plain.av g)), (5, .bx (Move.av m))], [], false⟩ ?_
     show (⟨[(8, (.bool _))], [(4, .bx (Plain.av g)), (5, .bx (Move.av m))], [], false⟩ : St) = _
     simp [h3]
   rintro s rfl
   refine Wq.ret ?_
   exact Aq.mk rfl (by rw [moveS, if_neg c0, if_pos c1]; rfl)
  ·have c1 : ¬ (m.act = 1) := by simpa using hx
   apply Wq.seq
   refine Wq.rg [31, 10, 5, 4, 3] ?_
   iterate 2 (refine .p (.bool (m.act == 2)) ?_)
   refine .done ⟨[(31, (.bool (m.act == 2))), (10, (vi m.act)), (5, (.ptr ⟨5, []⟩ 0 0)), (4, (.ptr ⟨4, []⟩ 0 0)), (3, (vi k))], [(4, .bx (Plain.av g)), (5, .bx (Move.av m))], [], false⟩ ?_
   refine Wq.cond rfl (fun hx => ?_) (fun hx => ?_)
   ·have c2 : (m.act = 2) := by simpa using hx
    apply Wq.seq
    obtain ⟨x41, e41⟩ : ∃ x : Int, x = (g.prods.l.length : Int) := ⟨_, rfl⟩
    refine Wq.jn (fun s => s = ⟨[(8, (.bool ((decide (m.n ≥ 0)) && (decide (m.n < x41)))))], [(4, .bx (Plain.av g)), (5, .bx (Move.av m))], [], false⟩) ?_ ?_
    ·refine Wq.rg [8] ?_
     refine .r (.ptr ⟨5, []⟩ 0 1) ?_
     refine .r (vi m.n) ?_
     iterate 2 (refine .p (.bool (decide (m.n ≥ 0))) ?_)
     refine Rq.split (dg := 36) rfl (fun h3 => ?_) (fun h3 => ?_) rfl
     ·refine .r (.ptr ⟨5, []⟩ 0 1) ?_
      refine .r (vi m.n) ?_
      refine .r (.ptr ⟨4, []⟩ 0 3) ?_
      refine .r (Sl.av Prod.av g.prods) ?_
      refine .pv _ (vi x41) (ln e41) ?_
      refine .p (.bool (decide (m.n < x41))) ?_
      iterate 2 (refine .p (.bool (decide (m.n < x41))) ?_)
      refine .done ⟨[(8, (.bool _))], [(4, .bx (Plain.av g)), (5, .bx (Move.av m))], [], false⟩ ?_
      show (⟨[(8, (.bool _))], [(4, .bx (Plain.av g)), (5, .bx (Move.av m))], [], false⟩ : St) = _
      simp [h3]
     ·iterate 6 (refine .sk ?_)
      iterate 2 (refine .p (.bool false) ?_)
      refine .done ⟨[(8, (.bool _))], [(4, .bx (Plain.av g)), (5, .bx (Move.av m))], [], false⟩ ?_
      show (⟨[(8, (.bool _))], [(4, .bx (Plain.av g)), (5, .bx (Move.av m))], [], false⟩ : St) = _
      simp [h3]
    rintro s rfl
    refine Wq.ret ?_
    exact Aq.mk rfl (by rw [moveS, if_neg c0, if_neg c1, if_pos c2, ← e41]; rfl)
   ·have c2 : ¬ (m.act = 2) := by simpa using hx
    apply Wq.seq
    refine Wq.rg [44, 5, 3] ?_
    iterate 2 (refine .p (.bool (m.act == 3)) ?_)
    refine .done ⟨[(44, (.bool (m.act == 3))), (5, (.ptr ⟨5, []⟩ 0 0)), (3, (vi k))], [(4, .bx (Plain.av g)), (5, .bx (Move.av m))], [], false⟩ ?_
    refine Wq.cond rfl (fun hx => ?_) (fun hx => ?_)
    ·have c3 : (m.act = 3) := by simpa using hx
     apply Wq.seq
     refine Wq.jn (fun s => s = ⟨[(8, (.bool ((m.n == 0) && (k == 0))))], [(4, .bx (Plain.av g)), (5, .bx (Move.av m))], [], false⟩) ?_ ?_
     ·refine Wq.rg [8] ?_
      refine .r (.ptr ⟨5, []⟩ 0 1) ?_
      refine .r (vi m.n) ?_
      iterate 2 (refine .p (.bool (m.n == 0)) ?_)
      refine Rq.split (dg := 49) rfl (fun h3 => ?_) (fun h3 => ?_) rfl
      ·refine .p (vi k) ?_
       refine .p (.bool (k == 0)) ?_
       iterate 2 (refine .p (.bool (k == 0)) ?_)
       refine .done ⟨[(8, (.bool _))], [(4, .bx (Plain.av g)), (5, .bx (Move.av m))], [], false⟩ ?_
       show (⟨[(8, (.bool _))], [(4, .bx (Plain.av g)), (5, .bx (Move.av m))], [], false⟩ : St) = _
       simp [h3]
      ·iterate 2 (refine .sk ?_)
       iterate 2 (refine .p (.bool false) ?_)
       refine .done ⟨[(8, (.bool _))], [(4, .bx (Plain.av g)), (5, .bx (Move.av m))], [], false⟩ ?_
       show (⟨[(8, (.bool _))], [(4, .bx (Plain.av g)), (5, .bx (Move.av m))], [], false⟩ : St) = _
       simp [h3]
     rintro s rfl
     refine Wq.ret ?_
     exact Aq.mk rfl (by rw [moveS, if_neg c0, if_neg c1, if_neg c2, if_pos c3]; rfl)
    ·have c3 : ¬ (m.act = 3) := by simpa using hx
     refine Wq.skip ?_
     apply Wq.seq
     refine Wq.rg [8] ?_
     refine .p (.bool false) ?_
     refine .done ⟨[(8, (.bool false))], [(4, .bx (Plain.av g)), (5, .bx (Move.av m))], [], false⟩ ?_
     refine Wq.ret ?_
     exact Aq.mk rfl (by rw [moveS, if_neg c0, if_neg c1, if_neg c2, if_neg c3]; rfl)
theorem refuse_q (hO : ∀ e ∈ O, e.f ≠ 23) {g : Plain} {t : Table} {row : Sl Int} {x12 : Int} (h11 : Ans cx O 11 [g.av, t.av] (vi x12, [])) (hr1 : row.ok 1) (hrl : row.l.length < 2 ^ 40) : Ans cx O 23 [g.av, t.av, row.av vi] (vi (if x12 = 0 then rowS g.kinds.l.length row.l else x12), []) := by
 refine ans_q [2, 1, 0] (fn := fn23) F23 (orc_none hO) ?_
 show Wq cx O 8598078175 0 [] _ ⟨[(2, (Sl.av vi row)), (1, (Table.av t)), (0, (Plain.av g))], [], [], false⟩ _
 apply Wq.seq
 refine Wq.rg [6, 4, 3, 2] ?_
 refine .e (.ptr ⟨3, []⟩ 0 0) [(3, .bx (Plain.av g))] ?_
 refine .e (.ptr ⟨4, []⟩ 0 0) [(3, .bx (Plain.av g)), (4, .bx (Table.av t))] ?_
 refine .p (vi 0) ?_
 refine .done ⟨[(6, (vi 0)), (4, (.ptr ⟨4, []⟩ 0 0)), (3, (.ptr ⟨3, []⟩ 0 0)), (2, (Sl.av vi row))], [(3, .bx (Plain.av g)), (4, .bx (Table.av t))], [], false⟩ ?_
 apply Wq.seq
 refine Wq.rg [7, 3, 2] ?_
 refine .r (Plain.av g) ?_
 refine .r (Table.av t) ?_
 refine .cl F11 rfl rfl h11 (expArgs_cons rfl (expArgs_cons rfl rfl rfl) rfl) rfl rfl rfl (vi x12) [(3, .bx (Plain.av g)), (4, .bx (Table.av t))] ?_
 refine .p (vi x12) ?_
 refine .done ⟨[(7, (vi x12)), (3, (.ptr ⟨3, []⟩ 0 0)), (2, (Sl.av vi row))], [(3, .bx (Plain.av g)), (4, .bx (Table.av t))], [], false⟩ ?_
 apply Wq.seq
 apply Wq.seq
 refine Wq.rg [14, 7, 3, 2] ?_
 refine .p (vi x12) ?_
 refine .p (.bool (!(x12 == 0))) ?_
 refine .done ⟨[(14, (.bool (!(x12 == 0)))), (7, (vi x12)), (3, (.ptr ⟨3, []⟩ 0 0)), (2, (Sl.av vi row))], [(3, .bx (Plain.av g)), (4, .bx (Table.av t))], [], false⟩ ?_
 refine Wq.cond rfl (fun hx => ?_) (fun hx => ?_)
 ·have c0 : ¬ (x12 = 0) := by simpa using hx
  apply Wq.seq
  refine Wq.rg [6] ?_
  iterate 2 (refine .p (vi x12) ?_)
  refine .done ⟨[(6, (vi x12))], [(3, .bx (Plain.av g)), (4, .bx (Table.av t))], [], false⟩ ?_
  refine Wq.ret ?_
  exact Aq.mk rfl (by rw [if_neg c0]; rfl)
 ·have c0 : (x12 = 0) := by simpa using hx
  refine Wq.skip ?_
  apply Wq.seq
  apply Wq.seq
  refine Wq.rg [18, 3, 2] ?_
  refine .p (Sl.av vi row) ?_
  obtain ⟨x17, e17⟩ : ∃ x : Int, x = (row.l.length : Int) := ⟨_, rfl⟩
  refine .pv _ (vi x17) (ln e17) ?_
  refine .p (.bool (decide (x17 > 65536))) ?_
  refine .done ⟨[(18, (.bool (decide (x17 > 65536)))), (3, (.ptr ⟨3, []⟩ 0 0)), (2, (Sl.av vi row))], [(3, .bx (Plain.av g)), (4, .bx (Table.av t))], [], false⟩ ?_
  refine Wq.cond rfl (fun hx => ?_) (fun hx => ?_)
  ·have hx := of_decide_eq_true hx
   apply Wq.seq
   refine Wq.rg [6] ?_
   refine .p (vi 3) ?_
   refine .done ⟨[(6, (vi 3))], [(3, .bx (Plain.av g)), (4, .bx (Table.av t))], [], false⟩ ?_
   refine Wq.ret ?_
   exact Aq.mk rfl (by rw [if_pos c0, rowS, if_pos (by omega)]; rfl)
  ·have c1 := of_decide_eq_false hx
   refine Wq.skip ?_
   apply Wq.seq
   apply Wq.seq
   refine Wq.rg [21, 20, 19, 3] ?_
   refine .p (Sl.av vi row) ?_
   obtain ⟨x20, e20⟩ : ∃ x : Int, x = (row.l.length : Int) := ⟨_, rfl⟩
   refine .pv _ (vi x20) (ln e20) ?_
   refine .p (vi 0) ?_
   refine .done ⟨[(21, (vi 0)), (20, (vi x20)), (19, (Sl.av vi row)), (3, (.ptr ⟨3, []⟩ 0 0))], [(3, .bx (Plain.av g)), (4, .bx (Table.av t))], [], false⟩ ?_
   refine Wq.block ?_ -- 0
   refine Wq.lp (fun m s => ∃ (x21 : Int), m = (row.l.length - x21).toNat ∧ (0 ≤ x21 ∧ x21 ≤ row.l.length ∧ (row.l.take x21.toNat).any (badK g.kinds.l.length) = false) ∧ s = ⟨[(21, (vi x21)), (20, (vi x20)), (19, (Sl.av vi row)), (3, (.ptr ⟨3, []⟩ 0 0))], [(3, .bx (Plain.av g)), (4, .bx (Table.av t))], [], false⟩) ?_ ⟨0, rfl, ⟨by omega, by omega, rfl⟩, rfl⟩
   rintro m s ⟨x21, rfl, ⟨hi0, hi1, hi⟩, rfl⟩
   show Wq _ _ _ _ _ _ ⟨[(21, (vi x21)), (20, (vi x20)), (19, (Sl.av vi row)), (3, (.ptr ⟨3, []⟩ 0 0))], [(3, .bx (Plain.av g)), (4, .bx (Table.av t))], [], false⟩ _
   apply Wq.seq
   refine Wq.rg [22, 21, 20, 19, 3] ?_
   refine .p (.bool (decide (x21 < x20))) ?_
   refine .done ⟨[(22, (.bool (decide (x21 < x20)))), (21, (vi x21)), (20, (vi x20)), (19, (Sl.av vi row)), (3, (.ptr ⟨3, []⟩ 0 0))], [(3, .bx (Plain.av g)), (4, .bx (Table.av t))], [], false⟩ ?_
   apply Wq.seq
   refine Wq.cond rfl (fun hx => ?_) (fun hx => ?_)
   ·have hx := of_decide_eq_true hx
    refine Wq.skip ?_
    apply Wq.seq
    refine Wq.block ?_ -- 1
    apply Wq.seq
    refine Wq.rg [21, 20, 19, 9, 3] ?_
    obtain ⟨r23, e23⟩ : ∃ x : _, x = (row.l.getD x21.toNat default) := ⟨_, rfl⟩
    have m23 := getD_mem e23 (by omega) (by omega)
    refine .po (fun _ => op_ix e23 (by omega) (by omega) hr1) (.fp _ (vi r23) 0) rfl ?_
    iterate 2 (refine .p (vi r23) ?_)
    refine .done ⟨[(21, (vi x21)), (20, (vi x20)), (19, (Sl.av vi row)), (9, (vi r23)), (3, (.ptr ⟨3, []⟩ 0 0))], [(3, .bx (Plain.av g)), (4, .bx (Table.av t))], [], false⟩ ?_
    apply Wq.seq
    obtain ⟨x31, e31⟩ : ∃ x : Int, x = (g.kinds.l.length : Int) := ⟨_, rfl⟩
    refine Wq.jn (fun s => s = ⟨[(33, (.bool ((decide (r23 < 1)) || (decide (r23 ≥ x31))))), (21, (vi x21)), (20, (vi x20)), (19, (Sl.av vi row)), (3, (.ptr ⟨3, []⟩ 0 0))], [(3, .bx (Plain.av g)), (4, .bx (Table.av t))], [], false⟩) ?_ ?_
    ·refine Wq.rg [33, 21, 20, 19, 3] ?_
     refine .p (vi r23) ?_
     iterate 2 (refine .p (.bool (decide (r23 < 1))) ?_)
     refine Rq.split (dg := 27) rfl (fun h2 => ?_) (fun h2 => ?_) rfl
     ·iterate 5 (refine .sk ?_)
      refine .p (.bool true) ?_
      refine .done ⟨[(33, (.bool _)), (21, (vi _)), (20, (vi _)), (19, (Sl.av vi row)), (3, (.ptr ⟨3, []⟩ 0 0))], [(3, .bx (Plain.av g)), (4, .bx (Table.av t))], [], false⟩ ?_
      show (⟨[(33, (.bool _)), (21, (vi _)), (20, (vi _)), (19, (Sl.av vi row)), (3, (.ptr ⟨3, []⟩ 0 0))], [(3, .bx (Plain.av g)), (4, .bx (Table.av t))], [], false⟩ : St) = _
      simp [h2]
     ·refine .p (vi r23) ?_
      refine .r (.ptr ⟨3, []⟩ 0 0) ?_
      refine .r (Sl.av vs g.kinds) ?_
      refine .pv _ (vi x31) (ln e31) ?_
      refine .p (.bool (decide (r23 ≥ x31))) ?_
      refine .p (.bool (decide (r23 ≥ x31))) ?_
      refine .done ⟨[(33, (.bool _)), (21, (vi _)), (20, (vi _)), (19, (Sl.av vi row)), (3, (.ptr ⟨3, []⟩ 0 0))], [(3, .bx (Plain.av g)), (4, .bx (Table.av t))], [], false⟩ ?_
      show (⟨[(33, (.bool _)), (21, (vi _)), (20, (vi _)), (19, (Sl.av vi row)), (3, (.ptr ⟨3, []⟩ 0 0))], [(3, .bx (Plain.av g)), (4, .bx (Table.av t))], [], false⟩ : St) = _
      simp [h2]
    rintro s rfl
    refine Wq.cond rfl (fun hx => ?_) (fun hx => ?_)
    ·have hx := hx -- ((decide (r23 < 1)) || (decide (r23 ≥ x31)))
     apply Wq.seq
     refine Wq.rg [6] ?_
     refine .p (vi 1) ?_
     refine .done ⟨[(6, (vi 1))], [(3, .bx (Plain.av g)), (4, .bx (Table.av t))], [], false⟩ ?_
     refine Wq.ret ?_
     exact Aq.mk rfl (by rw [if_pos c0, rowS, if_neg (by omega), if_pos (List.any_eq_true.2 ⟨r23, m23, by rw [badK, ← e31]; exact hx⟩)]; rfl)
    ·have hx := hx -- not ((decide (r23 < 1)) || (decide (r23 ≥ x31)))
     refine Wq.skip ?_
     refine Wq.rg [21, 20, 19, 3] ?_
     obtain ⟨x34, e34⟩ : ∃ x : Int, x = (x21 + 1) := ⟨_, rfl⟩
     refine .pv _ (vi x34) (wrE e34 (by omega) (by omega)) ?_
     refine .p (vi x34) ?_
     refine .done ⟨[(21, (vi x34)), (20, (vi x20)), (19, (Sl.av vi row)), (3, (.ptr ⟨3, []⟩ 0 0))], [(3, .bx (Plain.av g)), (4, .bx (Table.av t))], [], false⟩ ?_
     exact Iq.mk _ (by omega) ⟨x34, rfl, ⟨by omega, by omega, by
      rw [show x34.toNat = x21.toNat + 1 by omega, List.take_succ_eq_append_getElem (by omega), List.any_append, hi]
      have : row.l[x21.toNat]'(by omega) = r23 := by rw [e23]; simp [List.getD, show x21.toNat < row.l.length by omega]
      rw [this]; simp only [List.any_cons, List.any_nil, Bool.or_false, Bool.false_or, badK, ← e31]; exact hx⟩, rfl⟩
   ·have hx := of_decide_eq_false hx
    refine Wq.exit ?_ -- 0
    apply Wq.seq
    refine Wq.rg [6] ?_
    refine .p (vi 0) ?_
    refine .done ⟨[(6, (vi 0))], [(3, .bx (Plain.av g)), (4, .bx (Table.av t))], [], false⟩ ?_
    refine Wq.ret ?_
    exact Aq.mk rfl (by rw [List.take_of_length_le (by omega)] at hi; rw [if_pos c0, rowS, if_neg (by omega), hi]; rfl)
end Go.Am.Pull
end
section
namespace Go.Am.Pull
open Go Go.Proofs Go.Am
set_option maxRecDepth 100000
set_option maxHeartbeats 4000000
variable {O : List Ent}
/-- what the types say, and that nothing is too large -/
structure Ty (g : Plain) (t : Table) : Prop where
 prods : g.prods.ok 7
 right : ∀ x ∈ g.prods.l, x.right.ok 1
 moves : t.moves.ok 1
 goto : t.goto.ok 1
 row : ∀ r ∈ t.moves.l, r.ok 2
 grow : ∀ r ∈ t.goto.l, r.ok 1
 small : g.kinds.l.length < 2 ^ 40 ∧ g.rules.l.length < 2 ^ 40 ∧ g.prods.l.length < 2 ^ 40 ∧ t.moves.l.length < 2 ^ 40 ∧ t.goto.l.length < 2 ^ 40 ∧ ∀ x ∈ g.prods.l, x.right.l.length < 2 ^ 40
def goS (ns : Int) (x : Int) : Bool := !(decide (x < -1) || decide (x ≥ ns))
def rowOkS (g : Plain) (ns : Int) (r : Sl Move) (q : Sl Int) : Bool :=
 !(!((r.l.length : Int) == g.kinds.l.length) || !((q.l.length : Int) == g.rules.l.length)) && ((List.range r.l.length).all (fun k => moveS g.prods.l.length (r.l.getD k default) ns k) && q.l.all (goS ns))
def checkS (g : Plain) (t : Table) (e : Int) : Int :=
 if ¬ e = 0 then e else
 if ((decide ((t.moves.l.length : Int) < 1) || decide ((t.moves.l.length : Int) > 4096)) || !((t.goto.l.length : Int) == t.moves.l.length)) = true then 170 else
 if (List.range t.moves.l.length).all (fun i => rowOkS g t.moves.l.length (t.moves.l.getD i default) (t.goto.l.getD i default)) = true then 0 else 170
theorem range_false {n i : Nat} {p : Nat → Bool} (hi : i < n) (hp : p i = false) : ¬ (List.range n).all p = true := fun h => by
 have := List.all_eq_true.1 h i (List.mem_range.2 hi)
 rw [hp] at this; cases this
theorem range_succ {n : Nat} {p : Nat → Bool} (h : (List.range n).all p = true) (hp : p n = true) : (List.range (n + 1)).all p = true := by
 rw [List.range_succ, List.all_append, h]; simp [hp]
noncomputable def fn27 : FnS := (mkA Try.f27 ⟨174384079224203105635710220916204138141183, [0], false, []⟩).getD ⟨.skip, 0, [], [], 0, [], false, []⟩
theorem F27 : cx.F 27 = some fn27 := by kernel_rfl   -- quoin/gram.Check
theorem check_q (hO : ∀ e ∈ O, e.f ≠ 11) (hO2 : ∀ e ∈ O, e.f ≠ 28) {g : Plain} {t : Table} (hty : Ty g t) {x13 : Int} (h27 : Ans cx O 27 [g.av] (vi x13, [])) : Ans cx O 11 [g.av, t.av] (vi (checkS g t x13), []) := by
 obtain ⟨s1, s2, s3, s4, s5, s6⟩ := hty.small
 refine ans_q [1, 0] (fn := fn11) F11 (orc_none hO) ?_
 show Wq cx O 9939826006442155024993782783 0 [] _ ⟨[(1, (Table.av t)), (0, (Plain.av g))], [], [], false⟩ _
 apply Wq.seq
 refine Wq.rg [4, 3, 2] ?_
 refine .e (.ptr ⟨2, []⟩ 0 0) [(2, .bx (Plain.av g))] ?_
 refine .e (.ptr ⟨3, []⟩ 0 0) [(2, .bx (Plain.av g)), (3, .bx (Table.av t))] ?_
 refine .p (vi 0) ?_
 refine .done ⟨[(4, (vi 0)), (3, (.ptr ⟨3, []⟩ 0 0)), (2, (.ptr ⟨2, []⟩ 0 0))], [(2, .bx (Plain.av g)), (3, .bx (Table.av t))], [], false⟩ ?_
 apply Wq.seq
 refine Wq.rg [5, 3, 2] ?_
 refine .r (Plain.av g) ?_
 refine .cl F27 rfl rfl h27 (expArgs_cons rfl rfl rfl) rfl rfl rfl (vi x13) [(2, .bx (Plain.av g)), (3, .bx (Table.av t))] ?_
 refine .p (vi x13) ?_
 refine .done ⟨[(5, (vi x13)), (3, (.ptr ⟨3, []⟩ 0 0)), (2, (.ptr ⟨2, []⟩ 0 0))], [(2, .bx (Plain.av g)), (3, .bx (Table.av t))], [], false⟩ ?_
 apply Wq.seq
 apply Wq.seq
 refine Wq.rg [15, 5, 3, 2] ?_
 refine .p (vi x13) ?_
 refine .p (.bool (!(x13 == 0))) ?_
 refine .done ⟨[(15, (.bool (!(x13 == 0)))), (5, (vi x13)), (3, (.ptr ⟨3, []⟩ 0 0)), (2, (.ptr ⟨2, []⟩ 0 0))], [(2, .bx (Plain.av g)), (3, .bx (Table.av t))], [], false⟩ ?_
 refine Wq.cond rfl (fun hx => ?_) (fun hx => ?_)
 ·have c0 : ¬ (x13 = 0) := by simpa using hx
  apply Wq.seq
  refine Wq.rg [4] ?_
  iterate 2 (refine .p (vi x13) ?_)
  refine .done ⟨[(4, (vi x13))], [(2, .bx (Plain.av g)), (3, .bx (Table.av t))], [], false⟩ ?_
  refine Wq.ret ?_
  exact Aq.mk rfl (by rw [checkS, if_pos c0]; rfl)
 ·have c0 : (x13 = 0) := by simpa using hx
  refine Wq.skip ?_
  apply Wq.seq
  refine Wq.rg [6, 3, 2] ?_
  refine .r (.ptr ⟨3, []⟩ 0 0) ?_
  refine .r (Sl.av (Sl.av Move.av) t.moves) ?_
  obtain ⟨x19, e19⟩ : ∃ x : Int, x = (t.moves.l.length : Int) := ⟨_, rfl⟩
  refine .pv _ (vi x19) (ln e19) ?_
  refine .p (vi x19) ?_
  refine .done ⟨[(6, (vi x19)), (3, (.ptr ⟨3, []⟩ 0 0)), (2, (.ptr ⟨2, []⟩ 0 0))], [(2, .bx (Plain.av g)), (3, .bx (Table.av t))], [], false⟩ ?_
  apply Wq.seq
  apply Wq.seq
  obtain ⟨x29, e29⟩ : ∃ x : Int, x = (t.goto.l.length : Int) := ⟨_, rfl⟩
  refine Wq.jn (fun s => s = ⟨[(32, (.bool (((decide (x19 < 1)) || (decide (x19 > 4096))) || (!(x29 == x19))))), (6, (vi x19)), (3, (.ptr ⟨3, []⟩ 0 0)), (2, (.ptr ⟨2, []⟩ 0 0))], [(2, .bx (Plain.av g)), (3, .bx (Table.av t))], [], false⟩) ?_ ?_
  ·refine Wq.rg [32, 6, 3, 2] ?_
   refine .p (vi x19) ?_
   iterate 2 (refine .p (.bool (decide (x19 < 1))) ?_)
   refine Rq.split (dg := 22) rfl (fun h2 => ?_) (fun h2 => ?_) rfl
   ·iterate 2 (refine .sk ?_)
    iterate 2 (refine .p (.bool true) ?_)
    refine .sk ?_
    refine .sk ?_
    refine .sk ?_
    refine .sk ?_
    refine .sk ?_
    refine .p (.bool true) ?_
    refine .done ⟨[(32, (.bool _)), (6, (vi _)), (3, (.ptr ⟨3, []⟩ 0 0)), (2, (.ptr ⟨2, []⟩ 0 0))], [(2, .bx (Plain.av g)), (3, .bx (Table.av t))], [], false⟩ ?_
    show (⟨[(32, (.bool _)), (6, (vi _)), (3, (.ptr ⟨3, []⟩ 0 0)), (2, (.ptr ⟨2, []⟩ 0 0))], [(2, .bx (Plain.av g)), (3, .bx (Table.av t))], [], false⟩ : St) = _
    simp [h2]
   ·refine .p (vi x19) ?_
    refine .p (.bool (decide (x19 > 4096))) ?_
    iterate 2 (refine .p (.bool (decide (x19 > 4096))) ?_)
    refine Rq.split (dg := 26) rfl (fun h6 => ?_) (fun h6 => ?_) rfl
    ·iterate 5 (refine .sk ?_)
     refine .p (.bool true) ?_
     refine .done ⟨[(32, (.bool _)), (6, (vi _)), (3, (.ptr ⟨3, []⟩ 0 0)), (2, (.ptr ⟨2, []⟩ 0 0))], [(2, .bx (Plain.av g)), (3, .bx (Table.av t))], [], false⟩ ?_
     show (⟨[(32, (.bool _)), (6, (vi _)), (3, (.ptr ⟨3, []⟩ 0 0)), (2, (.ptr ⟨2, []⟩ 0 0))], [(2, .bx (Plain.av g)), (3, .bx (Table.av t))], [], false⟩ : St) = _
     simp [h2, h6]
    ·refine .r (.ptr ⟨3, []⟩ 0 1) ?_
     refine .r (Sl.av (Sl.av vi) t.goto) ?_
     refine .pv _ (vi x29) (ln e29) ?_
     refine .p (vi x19) ?_
     refine .p (.bool (!(x29 == x19))) ?_
     refine .p (.bool (!(x29 == x19))) ?_
     refine .done ⟨[(32, (.bool _)), (6, (vi _)), (3, (.ptr ⟨3, []⟩ 0 0)), (2, (.ptr ⟨2, []⟩ 0 0))], [(2, .bx (Plain.av g)), (3, .bx (Table.av t))], [], false⟩ ?_
     show (⟨[(32, (.bool _)), (6, (vi _)), (3, (.ptr ⟨3, []⟩ 0 0)), (2, (.ptr ⟨2, []⟩ 0 0))], [(2, .bx (Plain.av g)), (3, .bx (Table.av t))], [], false⟩ : St) = _
     simp [h2, h6]
  rintro s rfl
  refine Wq.cond rfl (fun hx => ?_) (fun hx => ?_)
  ·have hx := hx -- (((decide (x19 < 1)) || (decide (x19 > 4096))) || (!(x29 == x19)))
   apply Wq.seq
   refine Wq.rg [4] ?_
   refine .p (vi 170) ?_
   refine .done ⟨[(4, (vi 170))], [(2, .bx (Plain.av g)), (3, .bx (Table.av t))], [], false⟩ ?_
   refine Wq.ret ?_
   exact Aq.mk rfl (by rw [checkS, if_neg (fun h => h c0), if_pos (by rw [← e19, ← e29]; exact hx)]; rfl)
  ·have hc := hx
   have hcc : checkS g t x13 = if (List.range t.moves.l.length).all (fun i => rowOkS g t.moves.l.length (t.moves.l.getD i default) (t.goto.l.getD i default)) = true then 0 else 170 := by
    rw [checkS, if_neg (fun h => h c0), if_neg (by rw [← e19, ← e29, hc]; exact Bool.false_ne_true)]
   have hl1 : x19 ≤ 4096 ∧ x29 = x19 := by simp at hc; omega
   have hxx := hc -- not (((decide (x19 < 1)) || (decide (x19 > 4096))) || (!(x29 == x19)))
   refine Wq.skip ?_
   apply Wq.seq
   apply Wq.seq
   refine Wq.rg [34, 33, 6, 3, 2] ?_
   refine .p (vi x19) ?_
   refine .p (vi 0) ?_
   refine .done ⟨[(34, (vi 0)), (33, (vi x19)), (6, (vi x19)), (3, (.ptr ⟨3, []⟩ 0 0)), (2, (.ptr ⟨2, []⟩ 0 0))], [(2, .bx (Plain.av g)), (3, .bx (Table.av t))], [], false⟩ ?_
   refine Wq.block ?_ -- 0
   refine Wq.lp (fun m s => ∃ (x34 : Int) (H9 : Hp), m = (x19 - x34).toNat ∧ (H9 = [] ∨ ∃ x, H9 = [(9, x)]) ∧ (0 ≤ x34 ∧ x34 ≤ x19 ∧ (List.range x34.toNat).all (fun i => rowOkS g t.moves.l.length (t.moves.l.getD i default) (t.goto.l.getD i default)) = true) ∧ s = ⟨[(34, (vi x34)), (33, (vi x19)), (6, (vi x19)), (3, (.ptr ⟨3, []⟩ 0 0)), (2, (.ptr ⟨2, []⟩ 0 0))], (2, .bx (Plain.av g)) :: (3, .bx (Table.av t)) :: H9, [], false⟩) ?_ ⟨0, [], rfl, .inl rfl, ⟨by omega, by omega, rfl⟩, rfl⟩
   rintro m s ⟨x34, H9, rfl, hH, ⟨hi0_x34, hi1_x34, hi_x34⟩, rfl⟩
   show Wq _ _ _ _ _ _ ⟨[(34, (vi x34)), (33, (vi x19)), (6, (vi x19)), (3, (.ptr ⟨3, []⟩ 0 0)), (2, (.ptr ⟨2, []⟩ 0 0))], (2, .bx (Plain.av g)) :: (3, .bx (Table.av t)) :: H9, [], false⟩ _
   apply Wq.seq
   refine Wq.rgK [35, 34, 33, 6, 3, 2] (by rcases hH with rfl | ⟨x, rfl⟩ <;> rfl) ?_
   refine .p (.bool (decide (x34 < x19))) ?_
   refine .fin (S' := ⟨[(35, (.bool (decide (x34 < x19)))), (34, (vi x34)), (33, (vi x19)), (6, (vi x19)), (3, (.ptr ⟨3, []⟩ 0 0)), (2, (.ptr ⟨2, []⟩ 0 0))], (2, .bx (Plain.av g)) :: (3, .bx (Table.av t)) :: H9, [], false⟩) (by rcases hH with rfl | ⟨x, rfl⟩ <;> rfl) ?_
   apply Wq.seq
   refine Wq.cond rfl (fun hx => ?_) (fun hx => ?_)
   ·have hx := of_decide_eq_true hx
    refine Wq.skip ?_
    apply Wq.seq
    refine Wq.block ?_ -- 1
    apply Wq.seq
    refine Wq.rgK [34, 33, 7, 6, 3, 2] (by rcases hH with rfl | ⟨x, rfl⟩ <;> rfl) ?_
    iterate 2 (refine .p (vi x34) ?_)
    refine .fin (S' := ⟨[(34, (vi x34)), (33, (vi x19)), (7, (vi x34)), (6, (vi x19)), (3, (.ptr ⟨3, []⟩ 0 0)), (2, (.ptr ⟨2, []⟩ 0 0))], (2, .bx (Plain.av g)) :: (3, .bx (Table.av t)) :: H9, [], false⟩) (by rcases hH with rfl | ⟨x, rfl⟩ <;> rfl) ?_
    apply Wq.seq
    apply Wq.seq
    obtain ⟨r40, e40⟩ : ∃ x : _, x = (t.moves.l.getD x34.toNat default) := ⟨_, rfl⟩
    obtain ⟨x42, e42⟩ : ∃ x : Int, x = (r40.l.length : Int) := ⟨_, rfl⟩
    obtain ⟨x45, e45⟩ : ∃ x : Int, x = (g.kinds.l.length : Int) := ⟨_, rfl⟩
    obtain ⟨r51, e51⟩ : ∃ x : _, x = (t.goto.l.getD x34.toNat default) := ⟨_, rfl⟩
    obtain ⟨x53, e53⟩ : ∃ x : Int, x = (r51.l.length : Int) := ⟨_, rfl⟩
    obtain ⟨x56, e56⟩ : ∃ x : Int, x = (g.rules.l.length : Int) := ⟨_, rfl⟩
    refine Wq.jn (fun s => s = ⟨[(58, (.bool ((!(x42 == x45)) || (!(x53 == x56))))), (34, (vi x34)), (33, (vi x19)), (7, (vi x34)), (6, (vi x19)), (3, (.ptr ⟨3, []⟩ 0 0)), (2, (.ptr ⟨2, []⟩ 0 0))], (2, .bx (Plain.av g)) :: (3, .bx (Table.av t)) :: H9, [], false⟩) ?_ ?_
    ·refine Wq.rgK [58, 34, 33, 7, 6, 3, 2] (by rcases hH with rfl | ⟨x, rfl⟩ <;> rfl) ?_
     refine .r (.ptr ⟨3, []⟩ 0 0) ?_
     refine .r (Sl.av (Sl.av Move.av) t.moves) ?_
     refine .p (vi x34) ?_
     have m40 := getD_mem e40 (by omega) (by omega)
     refine .po (fun _ => op_ix e40 (by omega) (by omega) hty.moves) (.fp _ ((Sl.av Move.av) r40) 0) rfl ?_
     refine .p (Sl.av Move.av r40) ?_
     refine .pv _ (vi x42) (ln e42) ?_
     refine .r (.ptr ⟨2, []⟩ 0 0) ?_
     refine .r (Sl.av vs g.kinds) ?_
     refine .pv _ (vi x45) (ln e45) ?_
     iterate 2 (refine .p (.bool (!(x42 == x45))) ?_)
     refine Rq.split (dg := 47) rfl (fun h10 => ?_) (fun h10 => ?_) rfl
     ·iterate 10 (refine .sk ?_)
      refine .p (.bool true) ?_
      refine .fin (S' := ⟨[(58, (.bool _)), (34, (vi _)), (33, (vi _)), (7, (vi _)), (6, (vi _)), (3, (.ptr ⟨3, []⟩ 0 0)), (2, (.ptr ⟨2, []⟩ 0 0))], (2, .bx (Plain.av g)) :: (3, .bx (Table.av t)) :: H9, [], false⟩) (by rcases hH with rfl | ⟨x, rfl⟩ <;> rfl) ?_
      show (⟨[(58, (.bool _)), (34, (vi _)), (33, (vi _)), (7, (vi _)), (6, (vi _)), (3, (.ptr ⟨3, []⟩ 0 0)), (2, (.ptr ⟨2, []⟩ 0 0))], (2, .bx (Plain.av g)) :: (3, .bx (Table.av t)) :: H9, [], false⟩ : St) = _
      simp [h10]
     ·refine .r (.ptr ⟨3, []⟩ 0 1) ?_
      refine .r (Sl.av (Sl.av vi) t.goto) ?_
      refine .p (vi x34) ?_
      have m51 := getD_mem e51 (by omega) (by omega)
      refine .po (fun _ => op_ix e51 (by omega) (by omega) hty.goto) (.fp _ ((Sl.av vi) r51) 0) rfl ?_
      refine .p (Sl.av vi r51) ?_
      refine .pv _ (vi x53) (ln e53) ?_
      refine .r (.ptr ⟨2, []⟩ 0 2) ?_
      refine .r (Sl.av vs g.rules) ?_
      refine .pv _ (vi x56) (ln e56) ?_
      refine .p (.bool (!(x53 == x56))) ?_
      refine .p (.bool (!(x53 == x56))) ?_
      refine .fin (S' := ⟨[(58, (.bool _)), (34, (vi _)), (33, (vi _)), (7, (vi _)), (6, (vi _)), (3, (.ptr ⟨3, []⟩ 0 0)), (2, (.ptr ⟨2, []⟩ 0 0))], (2, .bx (Plain.av g)) :: (3, .bx (Table.av t)) :: H9, [], false⟩) (by rcases hH with rfl | ⟨x, rfl⟩ <;> rfl) ?_
      show (⟨[(58, (.bool _)), (34, (vi _)), (33, (vi _)), (7, (vi _)), (6, (vi _)), (3, (.ptr ⟨3, []⟩ 0 0)), (2, (.ptr ⟨2, []⟩ 0 0))], (2, .bx (Plain.av g)) :: (3, .bx (Table.av t)) :: H9, [], false⟩ : St) = _
      simp [h10]
    rintro s rfl
    refine Wq.cond rfl (fun hx => ?_) (fun hx => ?_)
    ·have hx := hx -- ((!(x42 == x45)) || (!(x53 == x56)))
     apply Wq.seq
     refine Wq.rgK [4] (by rcases hH with rfl | ⟨x, rfl⟩ <;> rfl) ?_
     refine .p (vi 170) ?_
     refine .fin (S' := ⟨[(4, (vi 170))], (2, .bx (Plain.av g)) :: (3, .bx (Table.av t)) :: H9, [], false⟩) (by rcases hH with rfl | ⟨x, rfl⟩ <;> rfl) ?_
     refine Wq.ret ?_
     exact Aq.mk rfl (by rw [hcc, if_neg (range_false (i := x34.toNat) (by omega) (by show rowOkS _ _ _ _ = false; rw [← e40, ← e51, rowOkS, ← e42, ← e45, ← e53, ← e56, hx]; rfl))]; rfl)
    ·have hrow := hx -- not ((!(x42 == x45)) || (!(x53 == x56)))
     refine Wq.skip ?_
     apply Wq.seq
     apply Wq.seq
     refine Wq.rgK [65, 64, 63, 34, 33, 7, 6, 3, 2] (by rcases hH with rfl | ⟨x, rfl⟩ <;> rfl) ?_
     refine .r (.ptr ⟨3, []⟩ 0 0) ?_
     refine .r (Sl.av (Sl.av Move.av) t.moves) ?_
     refine .p (vi x34) ?_
     obtain ⟨r62, e62⟩ : ∃ x : _, x = (t.moves.l.getD x34.toNat default) := ⟨_, rfl⟩
     have q62 : r62.l.length = r40.l.length := by rw [e62, e40]
     have hlen : x42 = x45 ∧ x53 = x56 := by simpa using hrow
     have m62 := getD_mem e62 (by omega) (by omega)
     refine .po (fun _ => op_ix e62 (by omega) (by omega) hty.moves) (.fp _ ((Sl.av Move.av) r62) 0) rfl ?_
     refine .p (Sl.av Move.av r62) ?_
     obtain ⟨x64, e64⟩ : ∃ x : Int, x = (r62.l.length : Int) := ⟨_, rfl⟩
     refine .pv _ (vi x64) (ln e64) ?_
     refine .p (vi 0) ?_
     refine .fin (S' := ⟨[(65, (vi 0)), (64, (vi x64)), (63, (Sl.av Move.av r62)), (34, (vi x34)), (33, (vi x19)), (7, (vi x34)), (6, (vi x19)), (3, (.ptr ⟨3, []⟩ 0 0)), (2, (.ptr ⟨2, []⟩ 0 0))], (2, .bx (Plain.av g)) :: (3, .bx (Table.av t)) :: H9, [], false⟩) (by rcases hH with rfl | ⟨x, rfl⟩ <;> rfl) ?_
     refine Wq.block ?_ -- 2
     refine Wq.lp (fun m s => ∃ (x65 : Int) (H9 : Hp), m = (x64 - x65).toNat ∧ (H9 = [] ∨ ∃ x, H9 = [(9, x)]) ∧ (0 ≤ x65 ∧ x65 ≤ x64 ∧ (List.range x65.toNat).all (fun k => moveS g.prods.l.length (r62.l.getD k default) x19 k) = true) ∧ s = ⟨[(65, (vi x65)), (64, (vi x64)), (63, (Sl.av Move.av r62)), (34, (vi x34)), (33, (vi x19)), (7, (vi x34)), (6, (vi x19)), (3, (.ptr ⟨3, []⟩ 0 0)), (2, (.ptr ⟨2, []⟩ 0 0))], (2, .bx (Plain.av g)) :: (3, .bx (Table.av t)) :: H9, [], false⟩) ?_ ⟨0, H9, rfl, hH, ⟨by omega, by omega, rfl⟩, rfl⟩
     rintro m s ⟨x65, H9, rfl, hH, ⟨hi0_x65, hi1_x65, hi_x65⟩, rfl⟩
     show Wq _ _ _ _ _ _ ⟨[(65, (vi x65)), (64, (vi x64)), (63, (Sl.av Move.av r62)), (34, (vi x34)), (33, (vi x19)), (7, (vi x34)), (6, (vi x19)), (3, (.ptr ⟨3, []⟩ 0 0)), (2, (.ptr ⟨2, []⟩ 0 0))], (2, .bx (Plain.av g)) :: (3, .bx (Table.av t)) :: H9, [], false⟩ _
     apply Wq.seq
     refine Wq.rgK [66, 65, 64, 63, 34, 33, 7, 6, 3, 2] (by rcases hH with rfl | ⟨x, rfl⟩ <;> rfl) ?_
     refine .p (.bool (decide (x65 < x64))) ?_
     refine .fin (S' := ⟨[(66, (.bool (decide (x65 < x64)))), (65, (vi x65)), (64, (vi x64)), (63, (Sl.av Move.av r62)), (34, (vi x34)), (33, (vi x19)), (7, (vi x34)), (6, (vi x19)), (3, (.ptr ⟨3, []⟩ 0 0)), (2, (.ptr ⟨2, []⟩ 0 0))], (2, .bx (Plain.av g)) :: (3, .bx (Table.av t)) :: H9, [], false⟩) (by rcases hH with rfl | ⟨x, rfl⟩ <;> rfl) ?_
     apply Wq.seq
     refine Wq.cond rfl (fun hx => ?_) (fun hx => ?_)
     ·have hx := of_decide_eq_true hx
      refine Wq.skip ?_
      apply Wq.seq
      refine Wq.block ?_ -- 3
      apply Wq.seq
      refine Wq.reg [65, 64, 63, 34, 33, 9, 8, 7, 6, 3, 2] (t1 := (66, .bool (decide (x65 < x64))) :: [(65, (vi x65)), (64, (vi x64)), (63, (Sl.av Move.av r62)), (34, (vi x34)), (33, (vi x19)), (7, (vi x34)), (6, (vi x19)), (3, (.ptr ⟨3, []⟩ 0 0)), (2, (.ptr ⟨2, []⟩ 0 0))]) (h1 := [(2, .bx (Plain.av g)), (3, .bx (Table.av t))]) (d1 := []) (by rcases hH with rfl | ⟨x, rfl⟩ <;> rfl) rfl (by kernel_rfl) (by kernel_rfl) ?_
      refine .p (vi x65) ?_
      obtain ⟨r68, e68⟩ : ∃ x : _, x = (r62.l.getD x65.toNat default) := ⟨_, rfl⟩
      have m68 := getD_mem e68 (by omega) (by omega)
      refine .po (fun _ => op_ix e68 (by omega) (by omega) (hty.row _ m62)) (.fp _ (Move.av r68) 0) rfl ?_
      refine .p (Move.av r68) ?_
      refine .e (.ptr ⟨9, []⟩ 0 0) [(2, .bx (Plain.av g)), (3, .bx (Table.av t)), (9, .bx (.agg [(vi 0), (vi 0)]))] ?_
      refine .p (vi x65) ?_
      refine .sq [(2, .bx (Plain.av g)), (3, .bx (Table.av t)), (9, .bx (Move.av r68))] ?_
      refine .done ⟨[(65, (vi x65)), (64, (vi x64)), (63, (Sl.av Move.av r62)), (34, (vi x34)), (33, (vi x19)), (9, (.ptr ⟨9, []⟩ 0 0)), (8, (vi x65)), (7, (vi x34)), (6, (vi x19)), (3, (.ptr ⟨3, []⟩ 0 0)), (2, (.ptr ⟨2, []⟩ 0 0))], [(2, .bx (Plain.av g)), (3, .bx (Table.av t)), (9, .bx (Move.av r68))], [], false⟩ ?_
      apply Wq.seq
      refine Wq.rg [75, 65, 64, 63, 34, 33, 7, 6, 3, 2] ?_
      refine .r (Plain.av g) ?_
      refine .r (Move.av r68) ?_
      refine .p (vi x19) ?_
      refine .p (vi x65) ?_
      obtain ⟨x74, e74⟩ : ∃ b, b = moveS g.prods.l.length r68 x19 x65 := ⟨_, rfl⟩
      refine .cl F28 rfl rfl (e74 ▸ move_q hO2) (expArgs_cons rfl (expArgs_cons rfl (expArgs_cons rfl (expArgs_cons rfl rfl rfl) rfl) rfl) rfl) rfl rfl rfl (.bool x74) [(2, .bx (Plain.av g)), (3, .bx (Table.av t)), (9, .bx (Move.av r68))] ?_
      refine .p (.bool (!x74)) ?_
      refine .done ⟨[(75, (.bool (!x74))), (65, (vi x65)), (64, (vi x64)), (63, (Sl.av Move.av r62)), (34, (vi x34)), (33, (vi x19)), (7, (vi x34)), (6, (vi x19)), (3, (.ptr ⟨3, []⟩ 0 0)), (2, (.ptr ⟨2, []⟩ 0 0))], [(2, .bx (Plain.av g)), (3, .bx (Table.av t)), (9, .bx (Move.av r68))], [], false⟩ ?_
      refine Wq.cond rfl (fun hx => ?_) (fun hx => ?_)
      ·have hx := hx -- (!x74)
       apply Wq.seq
       refine Wq.rg [4] ?_
       refine .p (vi 170) ?_
       refine .done ⟨[(4, (vi 170))], [(2, .bx (Plain.av g)), (3, .bx (Table.av t)), (9, .bx (Move.av r68))], [], false⟩ ?_
       refine Wq.ret ?_
       exact Aq.mk rfl (by
        have hb : (List.range r62.l.length).all (fun k => moveS g.prods.l.length (r62.l.getD k default) t.moves.l.length k) = false := Bool.eq_false_iff.2 (range_false (i := x65.toNat) (by omega) (by show moveS _ _ _ _ = false; rw [← e68, show ((x65.toNat : Nat) : Int) = x65 by omega, ← e19, ← e74]; simpa using hx))
        rw [hcc, if_neg (range_false (i := x34.toNat) (by omega) (by show rowOkS _ _ _ _ = false; rw [← e62, rowOkS, hb]; simp))]; rfl)
      ·have hx := hx -- not (!x74)
       refine Wq.skip ?_
       refine Wq.rg [65, 64, 63, 34, 33, 7, 6, 3, 2] ?_
       obtain ⟨x76, e76⟩ : ∃ x : Int, x = (x65 + 1) := ⟨_, rfl⟩
       refine .pv _ (vi x76) (wrE e76 (by omega) (by omega)) ?_
       refine .p (vi x76) ?_
       refine .done ⟨[(65, (vi x76)), (64, (vi x64)), (63, (Sl.av Move.av r62)), (34, (vi x34)), (33, (vi x19)), (7, (vi x34)), (6, (vi x19)), (3, (.ptr ⟨3, []⟩ 0 0)), (2, (.ptr ⟨2, []⟩ 0 0))], [(2, .bx (Plain.av g)), (3, .bx (Table.av t)), (9, .bx (Move.av r68))], [], false⟩ ?_
       exact Iq.mk _ (by omega) ⟨x76, [(9, .bx (Move.av r68))], rfl, .inr ⟨_, rfl⟩, ⟨by omega, by omega, by rw [show x76.toNat = x65.toNat + 1 by omega]; exact range_succ hi_x65 (by rw [← e68, show ((x65.toNat : Nat) : Int) = x65 by omega, ← e74]; simpa using hx)⟩, rfl⟩
     ·have hx := of_decide_eq_false hx
      refine Wq.exit ?_ -- 2
      apply Wq.seq
      refine Wq.rgK [83, 82, 81, 34, 33, 6, 3, 2] (by rcases hH with rfl | ⟨x, rfl⟩ <;> rfl) ?_
      refine .r (.ptr ⟨3, []⟩ 0 1) ?_
      refine .r (Sl.av (Sl.av vi) t.goto) ?_
      refine .p (vi x34) ?_
      obtain ⟨r80, e80⟩ : ∃ x : _, x = (t.goto.l.getD x34.toNat default) := ⟨_, rfl⟩
      have q80 : r80.l.length = r51.l.length := by rw [e80, e51]
      have m80 := getD_mem e80 (by omega) (by omega)
      refine .po (fun _ => op_ix e80 (by omega) (by omega) hty.goto) (.fp _ ((Sl.av vi) r80) 0) rfl ?_
      refine .p (Sl.av vi r80) ?_
      obtain ⟨x82, e82⟩ : ∃ x : Int, x = (r80.l.length : Int) := ⟨_, rfl⟩
      refine .pv _ (vi x82) (ln e82) ?_
      refine .p (vi 0) ?_
      refine .fin (S' := ⟨[(83, (vi 0)), (82, (vi x82)), (81, (Sl.av vi r80)), (34, (vi x34)), (33, (vi x19)), (6, (vi x19)), (3, (.ptr ⟨3, []⟩ 0 0)), (2, (.ptr ⟨2, []⟩ 0 0))], (2, .bx (Plain.av g)) :: (3, .bx (Table.av t)) :: H9, [], false⟩) (by rcases hH with rfl | ⟨x, rfl⟩ <;> rfl) ?_
      refine Wq.block ?_ -- 4
      refine Wq.lp (fun m s => ∃ (x83 : Int) (H9 : Hp), m = (x82 - x83).toNat ∧ (H9 = [] ∨ ∃ x, H9 = [(9, x)]) ∧ (0 ≤ x83 ∧ x83 ≤ x82 ∧ (r80.l.take x83.toNat).all (goS x19) = true) ∧ s = ⟨[(83, (vi x83)), (82, (vi x82)), (81, (Sl.av vi r80)), (34, (vi x34)), (33, (vi x19)), (6, (vi x19)), (3, (.ptr ⟨3, []⟩ 0 0)), (2, (.ptr ⟨2, []⟩ 0 0))], (2, .bx (Plain.av g)) :: (3, .bx (Table.av t)) :: H9, [], false⟩) ?_ ⟨0, H9, rfl, hH, ⟨by omega, by omega, rfl⟩, rfl⟩
      rintro m s ⟨x83, H9, rfl, hH, ⟨hi0_x83, hi1_x83, hi_x83⟩, rfl⟩
      show Wq _ _ _ _ _ _ ⟨[(83, (vi x83)), (82, (vi x82)), (81, (Sl.av vi r80)), (34, (vi x34)), (33, (vi x19)), (6, (vi x19)), (3, (.ptr ⟨3, []⟩ 0 0)), (2, (.ptr ⟨2, []⟩ 0 0))], (2, .bx (Plain.av g)) :: (3, .bx (Table.av t)) :: H9, [], false⟩ _
      apply Wq.seq
      refine Wq.rgK [84, 83, 82, 81, 34, 33, 6, 3, 2] (by rcases hH with rfl | ⟨x, rfl⟩ <;> rfl) ?_
      refine .p (.bool (decide (x83 < x82))) ?_
      refine .fin (S' := ⟨[(84, (.bool (decide (x83 < x82)))), (83, (vi x83)), (82, (vi x82)), (81, (Sl.av vi r80)), (34, (vi x34)), (33, (vi x19)), (6, (vi x19)), (3, (.ptr ⟨3, []⟩ 0 0)), (2, (.ptr ⟨2, []⟩ 0 0))], (2, .bx (Plain.av g)) :: (3, .bx (Table.av t)) :: H9, [], false⟩) (by rcases hH with rfl | ⟨x, rfl⟩ <;> rfl) ?_
      apply Wq.seq
      refine Wq.cond rfl (fun hx => ?_) (fun hx => ?_)
      ·have hx := of_decide_eq_true hx
       refine Wq.skip ?_
       apply Wq.seq
       refine Wq.block ?_ -- 5
       apply Wq.seq
       refine Wq.rgK [83, 82, 81, 34, 33, 11, 6, 3, 2] (by rcases hH with rfl | ⟨x, rfl⟩ <;> rfl) ?_
       obtain ⟨r85, e85⟩ : ∃ x : _, x = (r80.l.getD x83.toNat default) := ⟨_, rfl⟩
       have m85 := getD_mem e85 (by omega) (by omega)
       refine .po (fun _ => op_ix e85 (by omega) (by omega) (hty.grow _ m80)) (.fp _ (vi r85) 0) rfl ?_
       iterate 2 (refine .p (vi r85) ?_)
       refine .fin (S' := ⟨[(83, (vi x83)), (82, (vi x82)), (81, (Sl.av vi r80)), (34, (vi x34)), (33, (vi x19)), (11, (vi r85)), (6, (vi x19)), (3, (.ptr ⟨3, []⟩ 0 0)), (2, (.ptr ⟨2, []⟩ 0 0))], (2, .bx (Plain.av g)) :: (3, .bx (Table.av t)) :: H9, [], false⟩) (by rcases hH with rfl | ⟨x, rfl⟩ <;> rfl) ?_
       apply Wq.seq
       refine Wq.jn (fun s => s = ⟨[(93, (.bool ((decide (r85 < (-1))) || (decide (r85 ≥ x19))))), (83, (vi x83)), (82, (vi x82)), (81, (Sl.av vi r80)), (34, (vi x34)), (33, (vi x19)), (6, (vi x19)), (3, (.ptr ⟨3, []⟩ 0 0)), (2, (.ptr ⟨2, []⟩ 0 0))], (2, .bx (Plain.av g)) :: (3, .bx (Table.av t)) :: H9, [], false⟩) ?_ ?_
       ·refine Wq.rgK [93, 83, 82, 81, 34, 33, 6, 3, 2] (by rcases hH with rfl | ⟨x, rfl⟩ <;> rfl) ?_
        refine .p (vi r85) ?_
        iterate 2 (refine .p (.bool (decide (r85 < (-1)))) ?_)
        refine Rq.split (dg := 89) rfl (fun h2 => ?_) (fun h2 => ?_) rfl
        ·iterate 3 (refine .sk ?_)
         refine .p (.bool true) ?_
         refine .fin (S' := ⟨[(93, (.bool _)), (83, (vi _)), (82, (vi _)), (81, (Sl.av vi r80)), (34, (vi _)), (33, (vi _)), (6, (vi _)), (3, (.ptr ⟨3, []⟩ 0 0)), (2, (.ptr ⟨2, []⟩ 0 0))], (2, .bx (Plain.av g)) :: (3, .bx (Table.av t)) :: H9, [], false⟩) (by rcases hH with rfl | ⟨x, rfl⟩ <;> rfl) ?_
         show (⟨[(93, (.bool _)), (83, (vi _)), (82, (vi _)), (81, (Sl.av vi r80)), (34, (vi _)), (33, (vi _)), (6, (vi _)), (3, (.ptr ⟨3, []⟩ 0 0)), (2, (.ptr ⟨2, []⟩ 0 0))], (2, .bx (Plain.av g)) :: (3, .bx (Table.av t)) :: H9, [], false⟩ : St) = _
         simp [h2]
        ·refine .p (vi r85) ?_
         refine .p (vi x19) ?_
         refine .p (.bool (decide (r85 ≥ x19))) ?_
         refine .p (.bool (decide (r85 ≥ x19))) ?_
         refine .fin (S' := ⟨[(93, (.bool _)), (83, (vi _)), (82, (vi _)), (81, (Sl.av vi r80)), (34, (vi _)), (33, (vi _)), (6, (vi _)), (3, (.ptr ⟨3, []⟩ 0 0)), (2, (.ptr ⟨2, []⟩ 0 0))], (2, .bx (Plain.av g)) :: (3, .bx (Table.av t)) :: H9, [], false⟩) (by rcases hH with rfl | ⟨x, rfl⟩ <;> rfl) ?_
         show (⟨[(93, (.bool _)), (83, (vi _)), (82, (vi _)), (81, (Sl.av vi r80)), (34, (vi _)), (33, (vi _)), (6, (vi _)), (3, (.ptr ⟨3, []⟩ 0 0)), (2, (.ptr ⟨2, []⟩ 0 0))], (2, .bx (Plain.av g)) :: (3, .bx (Table.av t)) :: H9, [], false⟩ : St) = _
         simp [h2]
       rintro s rfl
       refine Wq.cond rfl (fun hx => ?_) (fun hx => ?_)
       ·have hx := hx -- ((decide (r85 < (-1))) || (decide (r85 ≥ x19)))
        apply Wq.seq
        refine Wq.rgK [4] (by rcases hH with rfl | ⟨x, rfl⟩ <;> rfl) ?_
        refine .p (vi 170) ?_
        refine .fin (S' := ⟨[(4, (vi 170))], (2, .bx (Plain.av g)) :: (3, .bx (Table.av t)) :: H9, [], false⟩) (by rcases hH with rfl | ⟨x, rfl⟩ <;> rfl) ?_
        refine Wq.ret ?_
        exact Aq.mk rfl (by
         have hb : r80.l.all (goS t.moves.l.length) = false := List.all_eq_false.2 ⟨r85, m85, by rw [← e19, goS, hx]; decide⟩
         rw [hcc, if_neg (range_false (i := x34.toNat) (by omega) (by show rowOkS _ _ _ _ = false; rw [← e80, rowOkS, hb]; simp))]; rfl)
       ·have hx := hx -- not ((decide (r85 < (-1))) || (decide (r85 ≥ x19)))
        refine Wq.skip ?_
        refine Wq.rgK [83, 82, 81, 34, 33, 6, 3, 2] (by rcases hH with rfl | ⟨x, rfl⟩ <;> rfl) ?_
        obtain ⟨x94, e94⟩ : ∃ x : Int, x = (x83 + 1) := ⟨_, rfl⟩
        refine .pv _ (vi x94) (wrE e94 (by omega) (by omega)) ?_
        refine .p (vi x94) ?_
        refine .fin (S' := ⟨[(83, (vi x94)), (82, (vi x82)), (81, (Sl.av vi r80)), (34, (vi x34)), (33, (vi x19)), (6, (vi x19)), (3, (.ptr ⟨3, []⟩ 0 0)), (2, (.ptr ⟨2, []⟩ 0 0))], (2, .bx (Plain.av g)) :: (3, .bx (Table.av t)) :: H9, [], false⟩) (by rcases hH with rfl | ⟨x, rfl⟩ <;> rfl) ?_
        exact Iq.mk _ (by omega) ⟨x94, H9, rfl, hH, ⟨by omega, by omega, by
         rw [show x94.toNat = x83.toNat + 1 by omega, List.take_succ_eq_append_getElem (by omega), List.all_append, hi_x83]
         have : r80.l[x83.toNat]'(by omega) = r85 := by rw [e85]; simp [List.getD, show x83.toNat < r80.l.length by omega]
         rw [this]; simp only [List.all_cons, List.all_nil, Bool.and_true, Bool.true_and, goS, hx]; rfl⟩, rfl⟩
      ·have hx := of_decide_eq_false hx
       refine Wq.exit ?_ -- 4
       refine Wq.rgK [34, 33, 6, 3, 2] (by rcases hH with rfl | ⟨x, rfl⟩ <;> rfl) ?_
       obtain ⟨x95, e95⟩ : ∃ x : Int, x = (x34 + 1) := ⟨_, rfl⟩
       refine .pv _ (vi x95) (wrE e95 (by omega) (by omega)) ?_
       refine .p (vi x95) ?_
       refine .fin (S' := ⟨[(34, (vi x95)), (33, (vi x19)), (6, (vi x19)), (3, (.ptr ⟨3, []⟩ 0 0)), (2, (.ptr ⟨2, []⟩ 0 0))], (2, .bx (Plain.av g)) :: (3, .bx (Table.av t)) :: H9, [], false⟩) (by rcases hH with rfl | ⟨x, rfl⟩ <;> rfl) ?_
       have hrt : rowOkS g t.moves.l.length (t.moves.l.getD x34.toNat default) (t.goto.l.getD x34.toNat default) = true := by
        have ha : (List.range r62.l.length).all (fun k => moveS g.prods.l.length (r62.l.getD k default) t.moves.l.length k) = true := by rw [← e19]; have := hi_x65; rwa [show x65.toNat = r62.l.length by omega] at this
        have hb : r80.l.all (goS t.moves.l.length) = true := by rw [← e19]; have := hi_x83; rwa [List.take_of_length_le (by omega)] at this
        have hc : (!((r62.l.length : Int) == g.kinds.l.length) || !((r80.l.length : Int) == g.rules.l.length)) = false := by
         rw [show r62 = r40 from e62.trans e40.symm, show r80 = r51 from e80.trans e51.symm, ← e42, ← e45, ← e53, ← e56]; exact hrow
        rw [← e62, ← e80, rowOkS, hc, ha, hb]; rfl
       exact Iq.mk _ (by omega) ⟨x95, H9, rfl, hH, ⟨by omega, by omega, by rw [show x95.toNat = x34.toNat + 1 by omega]; exact range_succ hi_x34 hrt⟩, rfl⟩
   ·have hx := of_decide_eq_false hx
    refine Wq.exit ?_ -- 0
    apply Wq.seq
    refine Wq.rgK [4] (by rcases hH with rfl | ⟨x, rfl⟩ <;> rfl) ?_
    refine .p (vi 0) ?_
    refine .fin (S' := ⟨[(4, (vi 0))], (2, .bx (Plain.av g)) :: (3, .bx (Table.av t)) :: H9, [], false⟩) (by rcases hH with rfl | ⟨x, rfl⟩ <;> rfl) ?_
    refine Wq.ret ?_
    exact Aq.mk rfl (by rw [hcc, if_pos (by have := hi_x34; rwa [show x34.toNat = t.moves.l.length by omega] at this)]; rfl)
end Go.Am.Pull
end
section
namespace Go.Am
variable {cx : Cx} {keep : Nat} {call : CallF} {t h : Hp} {d : List Up} {al : Bool} {o : Oper}
/-- a map from texts to true -/
def mset (l : List ByteArray) : AV := .mp (l.map vs) (l.map fun _ => .bool true)
def hasK (l : List ByteArray) (k : ByteArray) : Bool := l.any fun x => k.toList == x.toList
def kput : List ByteArray → ByteArray → List ByteArray
  | [], k => [k]
  | x :: l, k => if (k.toList == x.toList) = true then k :: l else x :: kput l k
theorem mlook_set {k : ByteArray} : ∀ {l : List ByteArray}, mlook .str (l.map vs) (l.map fun _ => .bool true) (vs k) = some (if hasK l k = true then some (.bool true) else none)
  | [] => rfl
  | x :: l => by
    simp only [List.map_cons, mlook, cellEq, hasK, List.any_cons]
    by_cases hx : (k.toList == x.toList) = true
    · simp only [hx, Bool.true_or, if_true]
    · rw [Bool.not_eq_true] at hx
      simp only [hx, Bool.false_or, mlook_set, hasK]; rfl
theorem mput_set {k : ByteArray} : ∀ {l : List ByteArray}, mput .str (l.map vs) (l.map fun _ => .bool true) (vs k) (.bool true) = ((kput l k).map vs, (kput l k).map fun _ => .bool true)
  | [] => rfl
  | x :: l => by
    simp only [List.map_cons, mput, cellEq, kput]
    by_cases hx : (k.toList == x.toList) = true
    · simp only [hx, if_true, List.map_cons]
    · rw [Bool.not_eq_true] at hx
      simp only [hx, mput_set, Bool.false_eq_true, if_false, List.map_cons]
theorem op_lkS {ty kt e r : Nat} {x y : Operand} {ei : TyI} {l : List ByteArray} {k : ByteArray} (h0 : o.op = .lookup ty x y false) (h1 : cx.kind ty = some (.map kt e)) (h2 : cx.kind kt = some .str) (h3 : cx.T e = some ei) (hz : ei.zero = some (.bool false)) (hx : ev ⟨t, h, d, al⟩ x = .mrf r) (hy : ev ⟨t, h, d, al⟩ y = vs k) (hl : look ⟨t, h, d, al⟩ true ⟨r, []⟩ = some (mset l)) :
    opX cx call keep ⟨t, h, d, al⟩ o = some { val := .bool (hasK l k), rd := [⟨⟨r, []⟩, true⟩], up := [] } := by
  simp only [opX, h0, oLookup, hx, hy, h1, h2, h3, hl, mset, mlook_set, hz]
  cases hasK l k <;> rfl
theorem op_muS {ty kt e r : Nat} {x y z : Operand} {l : List ByteArray} {k : ByteArray} (h0 : o.op = .mapUpdate ty x y z) (h1 : cx.kind ty = some (.map kt e)) (h2 : cx.kind kt = some .str) (hx : ev ⟨t, h, d, al⟩ x = .mrf r) (hy : ev ⟨t, h, d, al⟩ y = vs k) (hz : ev ⟨t, h, d, al⟩ z = .bool true) (hl : look ⟨t, h, d, al⟩ true ⟨r, []⟩ = some (mset l)) :
    opX cx call keep ⟨t, h, d, al⟩ o = some { val := .tup [], rd := [⟨⟨r, []⟩, true⟩], up := [.inn ⟨r, []⟩ (mset (kput l k))] } := by
  simp only [opX, h0, oMapUpdate, hx, hy, hz, h1, h2, hl, mset, mlook_set, mput_set]
  rfl
/-- a byte of a text -/
def byteAt (s : ByteArray) (n : Int) : Int := ((s.data.toList.getD n.toNat 0).toNat : Int)
theorem op_sidx {ty : Nat} {x y : Operand} {s : ByteArray} {ik : IntKind} {n : Int} (h0 : o.op = .index ty x y) (h1 : cx.kind ty = some .str) (hx : ev ⟨t, h, d, al⟩ x = .str s) (hy : ev ⟨t, h, d, al⟩ y = .int ik n) (hn0 : 0 ≤ n) (hn : n < s.size) :
    opX cx call keep ⟨t, h, d, al⟩ o = some ⟨.int .u8 (byteAt s n), [], []⟩ := by
  have hl : n.toNat < s.data.toList.length := by
    have : s.data.toList.length = s.size := by rw [Array.length_toList]; rfl
    omega
  simp only [opX, h0, oIndex, h1, hx, hy, if_pos hn0, List.getElem?_eq_getElem hl, pureE, byteAt, List.getD, Option.getD_some]
end Go.Am
end
section
namespace Go.Am.Pull
open Go Go.Proofs Go.Am
set_option maxRecDepth 100000
set_option maxHeartbeats 4000000
variable {O : List Ent}
def nameB (c i : Int) : Bool := (((((decide (c ≥ 97)) && (decide (c ≤ 122))) || ((decide (c ≥ 65)) && (decide (c ≤ 90)))) || (c == 95)) || (((decide (i > 0)) && (decide (c ≥ 48))) && (decide (c ≤ 57))))
def namedS (s : ByteArray) : Bool := (List.range s.size).all (fun i => nameB (byteAt s i) i) && (decide ((s.size : Int) ≥ 1) && decide ((s.size : Int) ≤ 64))
def kindsL : List ByteArray → List ByteArray → Int
 | _, [] => 0
 | kl, r :: l => if ((!namedS r) || hasK kl r) = true then 70 else kindsL (kput kl r) l
def bEnd : ByteArray := ⟨#[101, 110, 100]⟩
def bErr : ByteArray := ⟨#[101, 114, 114, 111, 114]⟩
def kindsS (ks : Sl ByteArray) : Int :=
 if ((((decide ((ks.l.length : Int) < 2)) || (decide ((ks.l.length : Int) > 1024))) || (!((ks.l.getD 0 default).toList == bEnd.toList))) || (!((ks.l.getD 1 default).toList == bErr.toList))) = true then 70 else kindsL [] ks.l
noncomputable def fn72 : FnS := (mkA Try.f72 ⟨8796093022493, [0], false, []⟩).getD ⟨.skip, 0, [], [], 0, [], false, []⟩
theorem F72 : cx.F 72 = some fn72 := by kernel_rfl   -- quoin/token.named
theorem named_q (hO : ∀ e ∈ O, e.f ≠ 72) {str : ByteArray} (hs : str.size < 2 ^ 40) : Ans cx O 72 [(vs str)] (.bool (namedS str), []) := by
 refine ans_q [0] (fn := fn72) F72 (orc_none hO) ?_
 show Wq cx O 8796093022493 0 [] _ ⟨[(0, (vs str))], [], [], false⟩ _
 apply Wq.seq
 refine Wq.rg [2, 0] ?_
 refine .p (.bool false) ?_
 refine .done ⟨[(2, (.bool false)), (0, (vs str))], [], [], false⟩ ?_
 apply Wq.seq
 apply Wq.seq
 refine Wq.rg [3, 0] ?_
 refine .p (vi 0) ?_
 refine .done ⟨[(3, (vi 0)), (0, (vs str))], [], [], false⟩ ?_
 refine Wq.block ?_ -- 0
 refine Wq.lp (fun m s => ∃ (x3 : Int), m = ((str.size : Int) - x3).toNat ∧ (0 ≤ x3 ∧ x3 ≤ (str.size : Int) ∧ (List.range x3.toNat).all (fun i => nameB (byteAt str i) i) = true) ∧ s = ⟨[(3, (vi x3)), (0, (vs str))], [], [], false⟩) ?_ ⟨0, rfl, ⟨by omega, by omega, rfl⟩, rfl⟩
 rintro m s ⟨x3, rfl, ⟨hi0, hi1, hi⟩, rfl⟩
 show Wq _ _ _ _ _ _ ⟨[(3, (vi x3)), (0, (vs str))], [], [], false⟩ _
 apply Wq.seq
 apply Wq.seq
 refine Wq.rg [8, 3, 0] ?_
 refine .p (vi x3) ?_
 refine .p (vs str) ?_
 obtain ⟨x7, e7⟩ : ∃ x : Int, x = (str.size : Int) := ⟨_, rfl⟩
 refine .pv _ (vi x7) (by rw [e7]) ?_
 refine .p (.bool (decide (x3 < x7))) ?_
 refine .done ⟨[(8, (.bool (decide (x3 < x7)))), (3, (vi x3)), (0, (vs str))], [], [], false⟩ ?_
 refine Wq.cond rfl (fun hx => ?_) (fun hx => ?_)
 ·have hx := of_decide_eq_true hx
  refine Wq.skip ?_
  apply Wq.seq
  refine Wq.block ?_ -- 1
  apply Wq.seq
  refine Wq.rg [4, 3, 0] ?_
  refine .p (vs str) ?_
  refine .p (vi x3) ?_
  obtain ⟨x13, e13⟩ : ∃ x : Int, x = (byteAt str x3) := ⟨_, rfl⟩
  refine .po (fun _ => op_sidx rfl rfl rfl rfl (by omega) (by omega)) (.int .u8 x13) (congrArg (AV.int .u8) e13.symm) ?_
  refine .p (.int .u8 x13) ?_
  refine .done ⟨[(4, (.int .u8 x13)), (3, (vi x3)), (0, (vs str))], [], [], false⟩ ?_
  apply Wq.seq
  apply Wq.seq
  refine Wq.jn (fun s => s = ⟨[(43, (.bool (((((decide (x13 ≥ 97)) && (decide (x13 ≤ 122))) || ((decide (x13 ≥ 65)) && (decide (x13 ≤ 90)))) || (x13 == 95)) || (((decide (x3 > 0)) && (decide (x13 ≥ 48))) && (decide (x13 ≤ 57)))))), (3, (vi x3)), (0, (vs str))], [], [], false⟩) ?_ ?_
  ·refine Wq.rg [43, 3, 0] ?_
   refine .p (.int .u8 x13) ?_
   iterate 2 (refine .p (.bool (decide (x13 ≥ 97))) ?_)
   refine Rq.split (dg := 16) rfl (fun h2 => ?_) (fun h2 => ?_) rfl
   ·refine .p (.int .u8 x13) ?_
    refine .p (.bool (decide (x13 ≤ 122))) ?_
    iterate 2 (refine .p (.bool (decide (x13 ≤ 122))) ?_)
    refine Rq.split (dg := 20) rfl (fun h6 => ?_) (fun h6 => ?_) rfl
    ·iterate 6 (refine .sk ?_)
     iterate 2 (refine .p (.bool true) ?_)
     iterate 2 (refine .sk ?_)
     iterate 2 (refine .p (.bool true) ?_)
     iterate 10 (refine .sk ?_)
     refine .p (.bool true) ?_
     refine .done ⟨[(43, (.bool _)), (3, (vi _)), (0, (vs str))], [], [], false⟩ ?_
     show (⟨[(43, (.bool _)), (3, (vi _)), (0, (vs str))], [], [], false⟩ : St) = _
     simp [h2, h6]
    ·refine .p (.int .u8 x13) ?_
     refine .p (.bool (decide (x13 ≥ 65))) ?_
     refine .p (.bool (decide (x13 ≥ 65))) ?_
     refine Rq.split (dg := 23) rfl (fun h9 => ?_) (fun h9 => ?_) rfl
     ·refine .p (.int .u8 x13) ?_
      refine .p (.bool (decide (x13 ≤ 90))) ?_
      refine .p (.bool (decide (x13 ≤ 90))) ?_
      iterate 2 (refine .p (.bool (decide (x13 ≤ 90))) ?_)
      refine Rq.split (dg := 28) rfl (fun h14 => ?_) (fun h14 => ?_) rfl
      ·iterate 2 (refine .sk ?_)
       iterate 2 (refine .p (.bool true) ?_)
       iterate 10 (refine .sk ?_)
       refine .p (.bool true) ?_
       refine .done ⟨[(43, (.bool _)), (3, (vi _)), (0, (vs str))], [], [], false⟩ ?_
       show (⟨[(43, (.bool _)), (3, (vi _)), (0, (vs str))], [], [], false⟩ : St) = _
       simp [h2, h6, h9, h14]
      ·refine .p (.int .u8 x13) ?_
       refine .p (.bool (x13 == 95)) ?_
       iterate 2 (refine .p (.bool (x13 == 95)) ?_)
       refine Rq.split (dg := 32) rfl (fun h18 => ?_) (fun h18 => ?_) rfl
       ·iterate 10 (refine .sk ?_)
        refine .p (.bool true) ?_
        refine .done ⟨[(43, (.bool _)), (3, (vi _)), (0, (vs str))], [], [], false⟩ ?_
        show (⟨[(43, (.bool _)), (3, (vi _)), (0, (vs str))], [], [], false⟩ : St) = _
        simp [h2, h6, h9, h14, h18]
       ·refine .p (vi x3) ?_
        refine .p (.bool (decide (x3 > 0))) ?_
        refine .p (.bool (decide (x3 > 0))) ?_
        refine Rq.split (dg := 35) rfl (fun h21 => ?_) (fun h21 => ?_) rfl
        ·refine .p (.int .u8 x13) ?_
         refine .p (.bool (decide (x13 ≥ 48))) ?_
         refine .p (.bool (decide (x13 ≥ 48))) ?_
         refine .p (.bool (decide (x13 ≥ 48))) ?_
         refine Rq.split (dg := 39) rfl (fun h25 => ?_) (fun h25 => ?_) rfl
         ·refine .p (.int .u8 x13) ?_
          refine .p (.bool (decide (x13 ≤ 57))) ?_
          refine .p (.bool (decide (x13 ≤ 57))) ?_
          refine .p (.bool (decide (x13 ≤ 57))) ?_
          refine .done ⟨[(43, (.bool _)), (3, (vi _)), (0, (vs str))], [], [], false⟩ ?_
          show (⟨[(43, (.bool _)), (3, (vi _)), (0, (vs str))], [], [], false⟩ : St) = _
          simp [h2, h6, h9, h14, h18, h21, h25]
         ·iterate 2 (refine .sk ?_)
          refine .p (.bool false) ?_
          refine .p (.bool false) ?_
          refine .done ⟨[(43, (.bool _)), (3, (vi _)), (0, (vs str))], [], [], false⟩ ?_
          show (⟨[(43, (.bool _)), (3, (vi _)), (0, (vs str))], [], [], false⟩ : St) = _
          simp [h2, h6, h9, h14, h18, h21, h25]
        ·iterate 2 (refine .sk ?_)
         refine .p (.bool false) ?_
         refine .p (.bool false) ?_
         iterate 2 (refine .sk ?_)
         refine .p (.bool false) ?_
         refine .p (.bool false) ?_
         refine .done ⟨[(43, (.bool _)), (3, (vi _)), (0, (vs str))], [], [], false⟩ ?_
         show (⟨[(43, (.bool _)), (3, (vi _)), (0, (vs str))], [], [], false⟩ : St) = _
         simp [h2, h6, h9, h14, h18, h21]
     ·iterate 2 (refine .sk ?_)
      refine .p (.bool false) ?_
      iterate 2 (refine .p (.bool false) ?_)
      refine .p (.int .u8 x13) ?_
      refine .p (.bool (x13 == 95)) ?_
      iterate 2 (refine .p (.bool (x13 == 95)) ?_)
      refine Rq.split (dg := 32) rfl (fun h18 => ?_) (fun h18 => ?_) rfl
      ·iterate 10 (refine .sk ?_)
       refine .p (.bool true) ?_
       refine .done ⟨[(43, (.bool _)), (3, (vi _)), (0, (vs str))], [], [], false⟩ ?_
       show (⟨[(43, (.bool _)), (3, (vi _)), (0, (vs str))], [], [], false⟩ : St) = _
       simp [h2, h6, h9, h18]
      ·refine .p (vi x3) ?_
       refine .p (.bool (decide (x3 > 0))) ?_
       refine .p (.bool (decide (x3 > 0))) ?_
       refine Rq.split (dg := 35) rfl (fun h21 => ?_) (fun h21 => ?_) rfl
       ·refine .p (.int .u8 x13) ?_
        refine .p (.bool (decide (x13 ≥ 48))) ?_
        refine .p (.bool (decide (x13 ≥ 48))) ?_
        refine .p (.bool (decide (x13 ≥ 48))) ?_
        refine Rq.split (dg := 39) rfl (fun h25 => ?_) (fun h25 => ?_) rfl
        ·refine .p (.int .u8 x13) ?_
         refine .p (.bool (decide (x13 ≤ 57))) ?_
         refine .p (.bool (decide (x13 ≤ 57))) ?_
         refine .p (.bool (decide (x13 ≤ 57))) ?_
         refine .done ⟨[(43, (.bool _)), (3, (vi _)), (0, (vs str))], [], [], false⟩ ?_
         show (⟨[(43, (.bool _)), (3, (vi _)), (0, (vs str))], [], [], false⟩ : St) = _
         simp [h2, h6, h9, h18, h21, h25]
        ·iterate 2 (refine .sk ?_)
         refine .p (.bool false) ?_
         refine .p (.bool false) ?_
         refine .done ⟨[(43, (.bool _)), (3, (vi _)), (0, (vs str))], [], [], false⟩ ?_
         show (⟨[(43, (.bool _)), (3, (vi _)), (0, (vs str))], [], [], false⟩ : St) = _
         simp [h2, h6, h9, h18, h21, h25]
       ·iterate 2 (refine .sk ?_)
        refine .p (.bool false) ?_
        refine .p (.bool false) ?_
        iterate 2 (refine .sk ?_)
        refine .p (.bool false) ?_
        refine .p (.bool false) ?_
        refine .done ⟨[(43, (.bool _)), (3, (vi _)), (0, (vs str))], [], [], false⟩ ?_
        show (⟨[(43, (.bool _)), (3, (vi _)), (0, (vs str))], [], [], false⟩ : St) = _
        simp [h2, h6, h9, h18, h21]
   ·iterate 2 (refine .sk ?_)
    iterate 2 (refine .p (.bool false) ?_)
    refine .p (.int .u8 x13) ?_
    refine .p (.bool (decide (x13 ≥ 65))) ?_
    refine .p (.bool (decide (x13 ≥ 65))) ?_
    refine Rq.split (dg := 23) rfl (fun h9 => ?_) (fun h9 => ?_) rfl
    ·refine .p (.int .u8 x13) ?_
     refine .p (.bool (decide (x13 ≤ 90))) ?_
     refine .p (.bool (decide (x13 ≤ 90))) ?_
     iterate 2 (refine .p (.bool (decide (x13 ≤ 90))) ?_)
     refine Rq.split (dg := 28) rfl (fun h14 => ?_) (fun h14 => ?_) rfl
     ·iterate 2 (refine .sk ?_)
      iterate 2 (refine .p (.bool true) ?_)
      iterate 10 (refine .sk ?_)
      refine .p (.bool true) ?_
      refine .done ⟨[(43, (.bool _)), (3, (vi _)), (0, (vs str))], [], [], false⟩ ?_
      show (⟨[(43, (.bool _)), (3, (vi _)), (0, (vs str))], [], [], false⟩ : St) = _
      simp [h2, h9, h14]
     ·refine .p (.int .u8 x13) ?_
      refine .p (.bool (x13 == 95)) ?_
      iterate 2 (refine .p (.bool (x13 == 95)) ?_)
      refine Rq.split (dg := 32) rfl (fun h18 => ?_) (fun h18 => ?_) rfl
      ·iterate 10 (refine .sk ?_)
       refine .p (.bool true) ?_
       refine .done ⟨[(43, (.bool _)), (3, (vi _)), (0, (vs str))], [], [], false⟩ ?_
       show (⟨[(43, (.bool _)), (3, (vi _)), (0, (vs str))], [], [], false⟩ : St) = _
       simp [h2, h9, h14, h18]
      ·refine .p (vi x3) ?_
       refine .p (.bool (decide (x3 > 0))) ?_
       refine .p (.bool (decide (x3 > 0))) ?_
       refine Rq.split (dg := 35) rfl (fun h21 => ?_) (fun h21 => ?_) rfl
       ·refine .p (.int .u8 x13) ?_
        refine .p (.bool (decide (x13 ≥ 48))) ?_
        refine .p (.bool (decide (x13 ≥ 48))) ?_
        refine .p (.bool (decide (x13 ≥ 48))) ?_
        refine Rq.split (dg := 39) rfl (fun h25 => ?_) (fun h25 => ?_) rfl
        ·refine .p (.int .u8 x13) ?_
         refine .p (.bool (decide (x13 ≤ 57))) ?_
         refine .p (.bool (decide (x13 ≤ 57))) ?_
         refine .p (.bool (decide (x13 ≤ 57))) ?_
         refine .done ⟨[(43, (.bool _)), (3, (vi _)), (0, (vs str))], [], [], false⟩ ?_
         show (⟨[(43, (.bool _)), (3, (vi _)), (0, (vs str))], [], [], false⟩ : St) = _
         simp [h2, h9, h14, h18, h21, h25]
        ·iterate 2 (refine .sk ?_)
         refine .p (.bool false) ?_
         refine .p (.bool false) ?_
         refine .done ⟨[(43, (.bool _)), (3, (vi _)), (0, (vs str))], [], [], false⟩ ?_
         show (⟨[(43, (.bool _)), (3, (vi _)), (0, (vs str))], [], [], false⟩ : St) = _
         simp [h2, h9, h14, h18, h21, h25]
       ·iterate 2 (refine .sk ?_)
        refine .p (.bool false) ?_
        refine .p (.bool false) ?_
        iterate 2 (refine .sk ?_)
        refine .p (.bool false) ?_
        refine .p (.bool false) ?_
        refine .done ⟨[(43, (.bool _)), (3, (vi _)), (0, (vs str))], [], [], false⟩ ?_
        show (⟨[(43, (.bool _)), (3, (vi _)), (0, (vs str))], [], [], false⟩ : St) = _
        simp [h2, h9, h14, h18, h21]
    ·iterate 2 (refine .sk ?_)
     refine .p (.bool false) ?_
     iterate 2 (refine .p (.bool false) ?_)
     refine .p (.int .u8 x13) ?_
     refine .p (.bool (x13 == 95)) ?_
     iterate 2 (refine .p (.bool (x13 == 95)) ?_)
     refine Rq.split (dg := 32) rfl (fun h18 => ?_) (fun h18 => ?_) rfl
     ·iterate 10 (refine .sk ?_)
      refine .p (.bool true) ?_
      refine .done ⟨[(43, (.bool _)), (3, (vi _)), (0, (vs str))], [], [], false⟩ ?_
      show (⟨[(43, (.bool _)), (3, (vi _)), (0, (vs str))], [], [], false⟩ : St) = _
      simp [h2, h9, h18]
     ·refine .p (vi x3) ?_
      refine .p (.bool (decide (x3 > 0))) ?_
      refine .p (.bool (decide (x3 > 0))) ?_
      refine Rq.split (dg := 35) rfl (fun h21 => ?_) (fun h21 => ?_) rfl
      ·refine .p (.int .u8 x13) ?_
       refine .p (.bool (decide (x13 ≥ 48))) ?_
       refine .p (.bool (decide (x13 ≥ 48))) ?_
       refine .p (.bool (decide (x13 ≥ 48))) ?_
       refine Rq.split (dg := 39) rfl (fun h25 => ?_) (fun h25 => ?_) rfl
       ·refine .p (.int .u8 x13) ?_
        refine .p (.bool (decide (x13 ≤ 57))) ?_
        refine .p (.bool (decide (x13 ≤ 57))) ?_
        refine .p (.bool (decide (x13 ≤ 57))) ?_
        refine .done ⟨[(43, (.bool _)), (3, (vi _)), (0, (vs str))], [], [], false⟩ ?_
        show (⟨[(43, (.bool _)), (3, (vi _)), (0, (vs str))], [], [], false⟩ : St) = _
        simp [h2, h9, h18, h21, h25]
       ·iterate 2 (refine .sk ?_)
        refine .p (.bool false) ?_
        refine .p (.bool false) ?_
        refine .done ⟨[(43, (.bool _)), (3, (vi _)), (0, (vs str))], [], [], false⟩ ?_
        show (⟨[(43, (.bool _)), (3, (vi _)), (0, (vs str))], [], [], false⟩ : St) = _
        simp [h2, h9, h18, h21, h25]
      ·iterate 2 (refine .sk ?_)
       refine .p (.bool false) ?_
       refine .p (.bool false) ?_
       iterate 2 (refine .sk ?_)
       refine .p (.bool false) ?_
       refine .p (.bool false) ?_
       refine .done ⟨[(43, (.bool _)), (3, (vi _)), (0, (vs str))], [], [], false⟩ ?_
       show (⟨[(43, (.bool _)), (3, (vi _)), (0, (vs str))], [], [], false⟩ : St) = _
       simp [h2, h9, h18, h21]
  rintro s rfl
  refine Wq.cond rfl (fun hx => ?_) (fun hx => ?_)
  ·have hx := hx -- (((((decide (x13 ≥ 97)) && (decide (x13 ≤ 122))) || ((decide (x13 ≥ 65)) && (decide (x13 ≤ 90)))) || (x13 == 95)) || (((decide (x3 > 0)) && (decide (x13 ≥ 48))) && (decide (x13 ≤ 57))))
   refine Wq.exit ?_ -- 1
   refine Wq.rg [3, 0] ?_
   refine .p (vi x3) ?_
   obtain ⟨x10, e10⟩ : ∃ x : Int, x = (x3 + 1) := ⟨_, rfl⟩
   refine .pv _ (vi x10) (wrE e10 (by omega) (by omega)) ?_
   refine .p (vi x10) ?_
   refine .done ⟨[(3, (vi x10)), (0, (vs str))], [], [], false⟩ ?_
   exact Iq.mk _ (by omega) ⟨x10, rfl, ⟨by omega, by omega, by rw [show x10.toNat = x3.toNat + 1 by omega]; exact range_succ hi (by rw [show ((x3.toNat : Nat) : Int) = x3 by omega, ← e13, nameB]; exact hx)⟩, rfl⟩
  ·have hx := hx -- not (((((decide (x13 ≥ 97)) && (decide (x13 ≤ 122))) || ((decide (x13 ≥ 65)) && (decide (x13 ≤ 90)))) || (x13 == 95)) || (((decide (x3 > 0)) && (decide (x13 ≥ 48))) && (decide (x13 ≤ 57))))
   refine Wq.skip ?_
   apply Wq.seq
   refine Wq.rg [2] ?_
   refine .p (.bool false) ?_
   refine .done ⟨[(2, (.bool false))], [], [], false⟩ ?_
   refine Wq.ret ?_
   exact Aq.mk rfl (by rw [namedS, Bool.eq_false_iff.2 (range_false (n := str.size) (i := x3.toNat) (p := fun i => nameB (byteAt str i) i) (by omega) (by show nameB _ _ = false; rw [show ((x3.toNat : Nat) : Int) = x3 by omega, ← e13, nameB]; exact hx))]; rfl)
 ·have hx := of_decide_eq_false hx
  refine Wq.exit ?_ -- 0
  apply Wq.seq
  obtain ⟨x45, e45⟩ : ∃ x : Int, x = (str.size : Int) := ⟨_, rfl⟩
  obtain ⟨x49, e49⟩ : ∃ x : Int, x = (str.size : Int) := ⟨_, rfl⟩
  refine Wq.jn (fun s => s = ⟨[(2, (.bool ((decide (x45 ≥ 1)) && (decide (x49 ≤ 64)))))], [], [], false⟩) ?_ ?_
  ·refine Wq.rg [2] ?_
   refine .p (vs str) ?_
   refine .pv _ (vi x45) (by rw [e45]) ?_
   iterate 2 (refine .p (.bool (decide (x45 ≥ 1))) ?_)
   refine Rq.split (dg := 47) rfl (fun h3 => ?_) (fun h3 => ?_) rfl
   ·refine .p (vs str) ?_
    refine .pv _ (vi x49) (by rw [e49]) ?_
    refine .p (.bool (decide (x49 ≤ 64))) ?_
    iterate 2 (refine .p (.bool (decide (x49 ≤ 64))) ?_)
    refine .done ⟨[(2, (.bool _))], [], [], false⟩ ?_
    show (⟨[(2, (.bool _))], [], [], false⟩ : St) = _
    simp [h3]
   ·iterate 3 (refine .sk ?_)
    iterate 2 (refine .p (.bool false) ?_)
    refine .done ⟨[(2, (.bool _))], [], [], false⟩ ?_
    show (⟨[(2, (.bool _))], [], [], false⟩ : St) = _
    simp [h3]
  rintro s rfl
  refine Wq.ret ?_
  exact Aq.mk rfl (by rw [namedS, ← e45, show x49 = x45 by omega, show (List.range str.size).all (fun i => nameB (byteAt str i) i) = true by rwa [show x3.toNat = str.size by omega] at hi, Bool.true_and]; rfl)
noncomputable def fn50 : FnS := (mkA Try.f50 ⟨1101558448173, [0], false, []⟩).getD ⟨.skip, 0, [], [], 0, [], false, []⟩
theorem F50 : cx.F 50 = some fn50 := by kernel_rfl   -- quoin/token.Kinds
theorem kinds_q (hO : ∀ e ∈ O, e.f ≠ 50) (hO2 : ∀ e ∈ O, e.f ≠ 72) {ks : Sl ByteArray} (hk : ks.ok 1) (hs : ∀ x ∈ ks.l, x.size < 2 ^ 40) (hl : ks.l.length < 2 ^ 40) : Ans cx O 50 [(Sl.av vs ks)] (vi (kindsS ks), []) := by
 refine ans_q [0] (fn := fn50) F50 (orc_none hO) ?_
 show Wq cx O 1101558448173 0 [] _ ⟨[(0, (Sl.av vs ks))], [], [], false⟩ _
 apply Wq.seq
 refine Wq.rg [2, 0] ?_
 refine .p (vi 0) ?_
 refine .done ⟨[(2, (vi 0)), (0, (Sl.av vs ks))], [], [], false⟩ ?_
 apply Wq.seq
 apply Wq.seq
 obtain ⟨x7, e7⟩ : ∃ x : Int, x = (ks.l.length : Int) := ⟨_, rfl⟩
 obtain ⟨x11, e11⟩ : ∃ x : Int, x = (ks.l.length : Int) := ⟨_, rfl⟩
 obtain ⟨r16, e16⟩ : ∃ x : _, x = (ks.l.getD (0 : Int).toNat default) := ⟨_, rfl⟩
 obtain ⟨r22, e22⟩ : ∃ x : _, x = (ks.l.getD (1 : Int).toNat default) := ⟨_, rfl⟩
 refine Wq.jn (fun s => s = ⟨[(25, (.bool ((((decide (x7 < 2)) || (decide (x11 > 1024))) || (!(r16.toList == bEnd.toList))) || (!(r22.toList == bErr.toList))))), (0, (Sl.av vs ks))], [], [], false⟩) ?_ ?_
 ·refine Wq.rg [25, 0] ?_
  refine .p (Sl.av vs ks) ?_
  refine .pv _ (vi x7) (ln e7) ?_
  iterate 2 (refine .p (.bool (decide (x7 < 2))) ?_)
  refine Rq.split (dg := 9) rfl (fun h3 => ?_) (fun h3 => ?_) rfl
  ·iterate 3 (refine .sk ?_)
   iterate 2 (refine .p (.bool true) ?_)
   iterate 4 (refine .sk ?_)
   iterate 2 (refine .p (.bool true) ?_)
   iterate 4 (refine .sk ?_)
   refine .p (.bool true) ?_
   refine .done ⟨[(25, (.bool _)), (0, (Sl.av vs ks))], [], [], false⟩ ?_
   show (⟨[(25, (.bool _)), (0, (Sl.av vs ks))], [], [], false⟩ : St) = _
   simp [h3]
  ·refine .p (Sl.av vs ks) ?_
   refine .pv _ (vi x11) (ln e11) ?_
   refine .p (.bool (decide (x11 > 1024))) ?_
   iterate 2 (refine .p (.bool (decide (x11 > 1024))) ?_)
   refine Rq.split (dg := 14) rfl (fun h8 => ?_) (fun h8 => ?_) rfl
   ·iterate 4 (refine .sk ?_)
    iterate 2 (refine .p (.bool true) ?_)
    iterate 4 (refine .sk ?_)
    refine .p (.bool true) ?_
    refine .done ⟨[(25, (.bool _)), (0, (Sl.av vs ks))], [], [], false⟩ ?_
    show (⟨[(25, (.bool _)), (0, (Sl.av vs ks))], [], [], false⟩ : St) = _
    simp [h3, h8]
   ·refine .p (Sl.av vs ks) ?_
    have q3 : 2 ≤ x7 := by simpa using h3
    have m16 := getD_mem e16 (by omega) (by omega)
    refine .po (fun _ => op_ix e16 (by omega) (by omega) hk) (.fp _ (vs r16) 0) rfl ?_
    refine .p (vs r16) ?_
    refine .p (.bool (!(r16.toList == bEnd.toList))) ?_
    iterate 2 (refine .p (.bool (!(r16.toList == bEnd.toList))) ?_)
    refine Rq.split (dg := 20) rfl (fun h14 => ?_) (fun h14 => ?_) rfl
    ·iterate 4 (refine .sk ?_)
     refine .p (.bool true) ?_
     refine .done ⟨[(25, (.bool _)), (0, (Sl.av vs ks))], [], [], false⟩ ?_
     show (⟨[(25, (.bool _)), (0, (Sl.av vs ks))], [], [], false⟩ : St) = _
     simp [h3, h8, h14]
    ·refine .p (Sl.av vs ks) ?_
     have m22 := getD_mem e22 (by omega) (by omega)
     refine .po (fun _ => op_ix e22 (by omega) (by omega) hk) (.fp _ (vs r22) 0) rfl ?_
     refine .p (vs r22) ?_
     refine .p (.bool (!(r22.toList == bErr.toList))) ?_
     refine .p (.bool (!(r22.toList == bErr.toList))) ?_
     refine .done ⟨[(25, (.bool _)), (0, (Sl.av vs ks))], [], [], false⟩ ?_
     show (⟨[(25, (.bool _)), (0, (Sl.av vs ks))], [], [], false⟩ : St) = _
     simp [h3, h8, h14]
 rintro s rfl
 refine Wq.cond rfl (fun hx => ?_) (fun hx => ?_)
 ·have hx := hx -- ((((decide (x7 < 2)) || (decide (x11 > 1024))) || (!(r16.toList == bEnd.toList))) || (!(r22.toList == bErr.toList)))
  apply Wq.seq
  refine Wq.rg [2] ?_
  refine .p (vi 70) ?_
  refine .done ⟨[(2, (vi 70))], [], [], false⟩ ?_
  refine Wq.ret ?_
  exact Aq.mk rfl (by rw [kindsS, if_pos (by rw [← e7]; rw [e11, ← e7, e16, e22] at hx; exact hx)]; rfl)
 ·have hc := hx
  have hcc : kindsS ks = kindsL [] ks.l := by rw [kindsS, if_neg (by rw [← e7]; rw [e11, ← e7, e16, e22] at hc; rw [show ((ks.l.getD 0 default).toList == bEnd.toList) = ((ks.l.getD (0 : Int).toNat default).toList == bEnd.toList) from rfl, show ((ks.l.getD 1 default).toList == bErr.toList) = ((ks.l.getD (1 : Int).toNat default).toList == bErr.toList) from rfl, hc]; exact Bool.false_ne_true)]
  have hl1 : 2 ≤ x7 := by simp at hc; omega
  have hxx := hc -- ((((decide (x7 < 2)) || (decide (x11 > 1024))) || (!(r16.toList == bEnd.toList))) || (!(r22.toList == bErr.toList)))
  refine Wq.skip ?_
  apply Wq.seq
  refine Wq.rg [3, 0] ?_
  refine .e (.mrf 26) [(26, mset [])] ?_
  refine .p (.mrf 26) ?_
  refine .done ⟨[(3, (.mrf 3)), (0, (Sl.av vs ks))], [(3, mset [])], [], false⟩ ?_
  apply Wq.seq
  apply Wq.seq
  refine Wq.rg [29, 28, 27, 3] ?_
  refine .p (Sl.av vs ks) ?_
  obtain ⟨x28, e28⟩ : ∃ x : Int, x = (ks.l.length : Int) := ⟨_, rfl⟩
  refine .pv _ (vi x28) (ln e28) ?_
  refine .p (vi 0) ?_
  refine .done ⟨[(29, (vi 0)), (28, (vi x28)), (27, (Sl.av vs ks)), (3, (.mrf 3))], [(3, mset [])], [], false⟩ ?_
  refine Wq.block ?_ -- 0
  refine Wq.lp (fun m s => ∃ (x29 : Int) (kl : List ByteArray), m = (x28 - x29).toNat ∧ (0 ≤ x29 ∧ x29 ≤ x28 ∧ kindsL kl (ks.l.drop x29.toNat) = kindsL [] ks.l) ∧ s = ⟨[(29, (vi x29)), (28, (vi x28)), (27, (Sl.av vs ks)), (3, (.mrf 3))], [(3, mset kl)], [], false⟩) ?_ ⟨0, [], rfl, ⟨by omega, by omega, rfl⟩, rfl⟩
  rintro m s ⟨x29, kl, rfl, ⟨hi0, hi1, hi⟩, rfl⟩
  show Wq _ _ _ _ _ _ ⟨[(29, (vi x29)), (28, (vi x28)), (27, (Sl.av vs ks)), (3, (.mrf 3))], [(3, mset kl)], [], false⟩ _
  apply Wq.seq
  refine Wq.rg [30, 29, 28, 27, 3] ?_
  refine .p (.bool (decide (x29 < x28))) ?_
  refine .done ⟨[(30, (.bool (decide (x29 < x28)))), (29, (vi x29)), (28, (vi x28)), (27, (Sl.av vs ks)), (3, (.mrf 3))], [(3, mset kl)], [], false⟩ ?_
  apply Wq.seq
  refine Wq.cond rfl (fun hx => ?_) (fun hx => ?_)
  ·have hx := of_decide_eq_true hx
   refine Wq.skip ?_
   apply Wq.seq
   refine Wq.block ?_ -- 1
   apply Wq.seq
   refine Wq.rg [29, 28, 27, 5, 3] ?_
   obtain ⟨r31, e31⟩ : ∃ x : _, x = (ks.l.getD x29.toNat default) := ⟨_, rfl⟩
   have m31 := getD_mem e31 (by omega) (by omega)
   have hkl : ks.l.drop x29.toNat = r31 :: ks.l.drop (x29.toNat + 1) := by
    rw [List.drop_eq_getElem_cons (by omega)]; congr 1
    rw [e31]; simp [List.getD, show x29.toNat < ks.l.length by omega]
   have hkl : kindsL kl (ks.l.drop x29.toNat) = if ((!namedS r31) || hasK kl r31) = true then 70 else kindsL (kput kl r31) (ks.l.drop (x29.toNat + 1)) := by rw [hkl, kindsL]
   obtain ⟨x34, e34⟩ : ∃ b, b = namedS r31 := ⟨_, rfl⟩
   refine .po (fun _ => op_ix e31 (by omega) (by omega) hk) (.fp _ (vs r31) 0) rfl ?_
   iterate 2 (refine .p (vs r31) ?_)
   refine .done ⟨[(29, (vi x29)), (28, (vi x28)), (27, (Sl.av vs ks)), (5, (vs r31)), (3, (.mrf 3))], [(3, mset kl)], [], false⟩ ?_
   apply Wq.seq
   apply Wq.seq
   refine Wq.jn (fun s => s = ⟨[(40, (.bool ((!x34) || (hasK kl r31)))), (29, (vi x29)), (28, (vi x28)), (27, (Sl.av vs ks)), (5, (vs r31)), (3, (.mrf 3))], [(3, mset kl)], [], false⟩) ?_ ?_
   ·refine Wq.rg [40, 29, 28, 27, 5, 3] ?_
    refine .p (vs r31) ?_
    refine .cl F72 rfl rfl (e34 ▸ named_q hO2 (hs _ m31)) (expArgs_cons rfl rfl rfl) rfl rfl rfl (.bool x34) [(3, mset kl)] ?_
    iterate 2 (refine .p (.bool (!x34)) ?_)
    refine Rq.split (dg := 36) rfl (fun h3 => ?_) (fun h3 => ?_) rfl
    ·iterate 3 (refine .sk ?_)
     refine .p (.bool true) ?_
     refine .done ⟨[(40, (.bool _)), (29, (vi _)), (28, (vi _)), (27, (Sl.av vs ks)), (5, (vs r31)), (3, (.mrf 3))], [(3, mset kl)], [], false⟩ ?_
     show (⟨[(40, (.bool _)), (29, (vi _)), (28, (vi _)), (27, (Sl.av vs ks)), (5, (vs r31)), (3, (.mrf 3))], [(3, mset kl)], [], false⟩ : St) = _
     simp [h3]
    ·refine .p (.mrf 3) ?_
     refine .p (vs r31) ?_
     refine .ro (fun _ => op_lkS rfl rfl rfl rfl rfl rfl rfl rfl) (.bool (hasK kl r31)) rfl ?_
     refine .p (.bool (hasK kl r31)) ?_
     refine .done ⟨[(40, (.bool _)), (29, (vi _)), (28, (vi _)), (27, (Sl.av vs ks)), (5, (vs r31)), (3, (.mrf 3))], [(3, mset kl)], [], false⟩ ?_
     show (⟨[(40, (.bool _)), (29, (vi _)), (28, (vi _)), (27, (Sl.av vs ks)), (5, (vs r31)), (3, (.mrf 3))], [(3, mset kl)], [], false⟩ : St) = _
     simp [h3]
   rintro s rfl
   refine Wq.cond rfl (fun hx => ?_) (fun hx => ?_)
   ·have hx := hx -- ((!x34) || (hasK kl r31))
    apply Wq.seq
    refine Wq.rg [2] ?_
    refine .p (vi 70) ?_
    refine .done ⟨[(2, (vi 70))], [(3, mset kl)], [], false⟩ ?_
    refine Wq.ret ?_
    exact Aq.mk rfl (by rw [hcc, ← hi, hkl, if_pos (by rw [← e34]; exact hx)]; rfl)
   ·have hx := hx -- not ((!x34) || (hasK kl r31))
    refine Wq.skip ?_
    refine Wq.rg [29, 28, 27, 3] ?_
    refine .p (.mrf 3) ?_
    refine .p (vs r31) ?_
    refine .so (fun _ => op_muS rfl rfl rfl rfl rfl rfl rfl) [(3, mset (kput kl r31))] rfl ?_
    refine .done ⟨[(29, (vi x29)), (28, (vi x28)), (27, (Sl.av vs ks)), (3, (.mrf 3))], [(3, mset (kput kl r31))], [], false⟩ ?_
    refine Wq.rg [29, 28, 27, 3] ?_
    obtain ⟨x43, e43⟩ : ∃ x : Int, x = (x29 + 1) := ⟨_, rfl⟩
    refine .pv _ (vi x43) (wrE e43 (by omega) (by omega)) ?_
    refine .p (vi x43) ?_
    refine .done ⟨[(29, (vi x43)), (28, (vi x28)), (27, (Sl.av vs ks)), (3, (.mrf 3))], [(3, mset (kput kl r31))], [], false⟩ ?_
    exact Iq.mk _ (by omega) ⟨x43, kput kl r31, rfl, ⟨by omega, by omega, by rw [hkl, if_neg (by rw [← e34, hx]; exact Bool.false_ne_true)] at hi; rw [show x43.toNat = x29.toNat + 1 by omega]; exact hi⟩, rfl⟩
  ·have hx := of_decide_eq_false hx
   refine Wq.exit ?_ -- 0
   apply Wq.seq
   refine Wq.rg [2] ?_
   refine .p (vi 0) ?_
   refine .done ⟨[(2, (vi 0))], [(3, mset kl)], [], false⟩ ?_
   refine Wq.ret ?_
   exact Aq.mk rfl (by rw [hcc, ← hi, List.drop_of_length_le (by omega)]; rfl)
end Go.Am.Pull
end
section
namespace Go.Am.Pull
open Go Go.Proofs Go.Am
set_option maxRecDepth 100000
set_option maxHeartbeats 4000000
variable {O : List Ent}
def actV (a : Act) : AV := .agg [vi a.kind, vi a.ix, vs a.name, .fz a.lab a.sz (vActs a.kids)]
theorem vAct_eq : ∀ a, vAct a = actV a
 | .mk _ _ _ _ _ _ => by rw [vAct]; rfl
def Act.ks (a : Act) : Sl Act := ⟨a.lab, a.sz, a.kids⟩
theorem ksE (a : Act) : AV.fz a.lab a.sz (vActs a.kids) = Sl.av actV a.ks := by
 rw [vActs_map, show vAct = actV from funext vAct_eq]; rfl
instance : Inhabited Act := ⟨.mk 0 0 .empty 0 0 []⟩
mutual
def Act.good : Act → Prop
 | .mk _ _ _ _ sz kids => (kids = [] ∨ sz = 4) ∧ kids.length < 2 ^ 40 ∧ goodL kids
def goodL : List Act → Prop
 | [] => True
 | a :: l => a.good ∧ goodL l
end
theorem goodL_mem : ∀ {l : List Act} {a : Act}, goodL l → a ∈ l → a.good
 | [], _, _, h => absurd h List.not_mem_nil
 | b :: l, a, h, hm => by
  rw [goodL] at h
  rcases List.mem_cons.1 hm with rfl | hm
  ·exact h.1
  ·exact goodL_mem h.2 hm
def okA (a : Act) (syms : Int) : Bool :=
 if a.kind = 0 then ((a.kids.length : Int) == 0 && a.ix == 0) && (a.name.toList == ByteArray.empty.toList)
 else if a.kind = 1 then (((a.kids.length : Int) == 0 && decide (a.ix ≥ 0)) && decide (a.ix < syms)) && (a.name.toList == ByteArray.empty.toList)
 else if a.kind = 3 then ((a.kids.length : Int) == 0 && a.ix == 0) && decide ((a.name.size : Int) ≤ 4096)
 else if a.kind = 2 then (a.ix == 0 && decide ((a.name.size : Int) ≥ 1)) && decide ((a.name.size : Int) ≤ 32)
 else false
mutual
def partsS (syms : Int) : Act → Int → Bool × Int
 | .mk kind ix name lab sz kids, n => let r := kidsS syms kids (okA (.mk kind ix name lab sz kids) syms, n + 1); (r.1 && decide (r.2 ≤ 256), r.2)
def kidsS (syms : Int) : List Act → Bool × Int → Bool × Int
 | [], r => r
 | k :: l, r => kidsS syms l (if (r.1 && decide (r.2 ≤ 256)) = true then partsS syms k r.2 else (false, r.2))
end
def kstep (syms : Int) (r : Bool × Int) (k : Act) : Bool × Int := if (r.1 && decide (r.2 ≤ 256)) = true then partsS syms k r.2 else (false, r.2)
mutual
theorem parts_le {syms : Int} : ∀ (a : Act) (n : Int), 0 ≤ n → n ≤ 256 → 0 ≤ (partsS syms a n).2 ∧ (partsS syms a n).2 ≤ 257
 | .mk kind ix name lab sz kids, n, h0, h1 => by
  rw [partsS]
  exact kids_le kids _ (by show 0 ≤ n + 1; omega) (by show n + 1 ≤ 257; omega)
theorem kids_le {syms : Int} : ∀ (l : List Act) (r : Bool × Int), 0 ≤ r.2 → r.2 ≤ 257 → 0 ≤ (kidsS syms l r).2 ∧ (kidsS syms l r).2 ≤ 257
 | [], r, h0, h1 => by rw [kidsS]; exact ⟨h0, h1⟩
 | k :: l, r, h0, h1 => by
  rw [kidsS]
  by_cases hc : (r.1 && decide (r.2 ≤ 256)) = true
  ·rw [if_pos hc]
   have hle : r.2 ≤ 256 := by simp at hc; exact hc.2
   exact kids_le l _ (parts_le k r.2 h0 hle).1 (parts_le k r.2 h0 hle).2
  ·rw [if_neg hc]; exact kids_le l _ h0 h1
end
theorem partsS_eq (syms : Int) (a : Act) (n : Int) : partsS syms a n = ((kidsS syms a.kids (okA a syms, n + 1)).1 && decide ((kidsS syms a.kids (okA a syms, n + 1)).2 ≤ 256), (kidsS syms a.kids (okA a syms, n + 1)).2) := by
 cases a; rw [partsS]; rfl
noncomputable def fn73 : FnS := (mkA Try.f73 ⟨1160569081995963619946268111, [0, 0, 3], false, []⟩).getD ⟨.skip, 0, [], [], 0, [], false, []⟩
theorem F73 : cx.F 73 = some fn73 := by kernel_rfl   -- quoin/gram.parts
theorem parts_q (hO : ∀ e ∈ O, e.f ≠ 73) {syms : Int} : ∀ (N : Nat) (a : Act), SizeOf.sizeOf a < N → a.good → ∀ n : Int, 0 ≤ n → n ≤ 256 → Ans cx O 73 [actV a, vi syms, .bx (vi n)] (.bool (partsS syms a n).1, [.bx (vi (partsS syms a n).2)]) := by
 intro N
 induction N
 ·exact fun a h => absurd h (Nat.not_lt_zero _)
 rename_i N IH
 intro a hN hgood n hn0 hn1
 have hks : a.ks.ok 4 ∧ a.ks.l.length < 2 ^ 40 ∧ goodL a.ks.l := by cases a; rw [Act.good] at hgood; exact hgood
 have hsz : ∀ k ∈ a.ks.l, SizeOf.sizeOf k < N := by
  intro k hk
  cases a with
  | mk kind ix name lab sz kids =>
   have := List.sizeOf_lt_of_mem (show k ∈ kids from hk)
   simp at hN; omega
 refine ans_q [2, 1, 0] (fn := fn73) F73 (orc_none hO) ?_
 show Wq cx O 1160569081995963619946268111 4 [] _ ⟨[(2, (.ptr ⟨2, []⟩ 0 0)), (1, (vi syms)), (0, (actV a))], [(2, .bx (vi n))], [], false⟩ _
 apply Wq.seq
 refine Wq.rg [6, 3, 2, 1] ?_
 refine .e (.ptr ⟨3, []⟩ 0 0) [(2, .bx (vi n)), (3, .bx (actV a))] ?_
 refine .p (.bool false) ?_
 refine .done ⟨[(6, (.bool false)), (3, (.ptr ⟨3, []⟩ 0 0)), (2, (.ptr ⟨2, []⟩ 0 0)), (1, (vi syms))], [(2, .bx (vi n)), (3, .bx (actV a))], [], false⟩ ?_
 apply Wq.seq
 refine Wq.rg [3, 2, 1] ?_
 refine .p (.ptr ⟨2, []⟩ 0 0) ?_
 refine .r (.ptr ⟨2, []⟩ 0 0) ?_
 refine .r (vi n) ?_
 obtain ⟨x14, e14⟩ : ∃ x : Int, x = (n + 1) := ⟨_, rfl⟩
 refine .pv _ (vi x14) (wrE e14 (by omega) (by omega)) ?_
 refine .r (.ptr ⟨2, []⟩ 0 0) ?_
 refine .sq [(2, .bx (vi x14)), (3, .bx (actV a))] ?_
 refine .done ⟨[(3, (.ptr ⟨3, []⟩ 0 0)), (2, (.ptr ⟨2, []⟩ 0 0)), (1, (vi syms))], [(2, .bx (vi x14)), (3, .bx (actV a))], [], false⟩ ?_
 apply Wq.seq
 refine Wq.rg [7, 3, 2, 1] ?_
 refine .r (.ptr ⟨3, []⟩ 0 3) ?_
 refine .rv _ (Sl.av actV a.ks) (ksE a) ?_
 obtain ⟨x18, e18⟩ : ∃ x : Int, x = (a.ks.l.length : Int) := ⟨_, rfl⟩
 refine .pv _ (vi x18) (ln e18) ?_
 iterate 2 (refine .p (.bool (x18 == 0)) ?_)
 refine .done ⟨[(7, (.bool (x18 == 0))), (3, (.ptr ⟨3, []⟩ 0 0)), (2, (.ptr ⟨2, []⟩ 0 0)), (1, (vi syms))], [(2, .bx (vi x14)), (3, .bx (actV a))], [], false⟩ ?_
 apply Wq.seq
 refine Wq.rg [8, 7, 3, 2, 1] ?_
 refine .p (.bool false) ?_
 refine .done ⟨[(8, (.bool false)), (7, (.bool (x18 == 0))), (3, (.ptr ⟨3, []⟩ 0 0)), (2, (.ptr ⟨2, []⟩ 0 0)), (1, (vi syms))], [(2, .bx (vi x14)), (3, .bx (actV a))], [], false⟩ ?_
 apply Wq.seq
 apply Wq.seq
 refine Wq.rg [21, 8, 7, 3, 2, 1] ?_
 refine .r (.ptr ⟨3, []⟩ 0 0) ?_
 refine .r (vi a.kind) ?_
 refine .done ⟨[(21, (vi a.kind)), (8, (.bool false)), (7, (.bool (x18 == 0))), (3, (.ptr ⟨3, []⟩ 0 0)), (2, (.ptr ⟨2, []⟩ 0 0)), (1, (vi syms))], [(2, .bx (vi x14)), (3, .bx (actV a))], [], false⟩ ?_
 refine Wq.block ?_ -- 0
 apply Wq.seq
 refine Wq.rg [22, 21, 8, 7, 3, 2, 1] ?_
 iterate 2 (refine .p (.bool (a.kind == 0)) ?_)
 refine .done ⟨[(22, (.bool (a.kind == 0))), (21, (vi a.kind)), (8, (.bool false)), (7, (.bool (x18 == 0))), (3, (.ptr ⟨3, []⟩ 0 0)), (2, (.ptr ⟨2, []⟩ 0 0)), (1, (vi syms))], [(2, .bx (vi x14)), (3, .bx (actV a))], [], false⟩ ?_
 refine Wq.jn (fun s => ∃ (x8 : Bool), x8 = okA a syms ∧ s = ⟨[(8, (.bool x8)), (3, (.ptr ⟨3, []⟩ 0 0)), (2, (.ptr ⟨2, []⟩ 0 0)), (1, (vi syms))], [(2, .bx (vi x14)), (3, .bx (actV a))], [], false⟩) ?_ ?_
 ·refine Wq.cond rfl (fun hx => ?_) (fun hx => ?_)
  ·have c0 : (a.kind = 0) := by simpa using hx
   refine Wq.jn (fun s => s = ⟨[(8, (.bool (((x18 == 0) && (a.ix == 0)) && (a.name.toList == ByteArray.empty.toList)))), (3, (.ptr ⟨3, []⟩ 0 0)), (2, (.ptr ⟨2, []⟩ 0 0)), (1, (vi syms))], [(2, .bx (vi x14)), (3, .bx (actV a))], [], false⟩) ?_ ?_
   ·refine Wq.rg [8, 3, 2, 1] ?_
    iterate 2 (refine .p (.bool (x18 == 0)) ?_)
    refine Rq.split (dg := 25) rfl (fun h1 => ?_) (fun h1 => ?_) rfl
    ·refine .r (.ptr ⟨3, []⟩ 0 1) ?_
     refine .r (vi a.ix) ?_
     refine .p (.bool (a.ix == 0)) ?_
     iterate 2 (refine .p (.bool (a.ix == 0)) ?_)
     refine Rq.split (dg := 30) rfl (fun h6 => ?_) (fun h6 => ?_) rfl
     ·refine .r (.ptr ⟨3, []⟩ 0 2) ?_
      refine .r (vs a.name) ?_
      refine .p (.bool (a.name.toList == ByteArray.empty.toList)) ?_
      iterate 2 (refine .p (.bool (a.name.toList == ByteArray.empty.toList)) ?_)
      refine .done ⟨[(8, (.bool _)), (3, (.ptr ⟨3, []⟩ 0 0)), (2, (.ptr ⟨2, []⟩ 0 0)), (1, (vi _))], [(2, .bx (vi x14)), (3, .bx (actV a))], [], false⟩ ?_
      show (⟨[(8, (.bool _)), (3, (.ptr ⟨3, []⟩ 0 0)), (2, (.ptr ⟨2, []⟩ 0 0)), (1, (vi _))], [(2, .bx (vi x14)), (3, .bx (actV a))], [], false⟩ : St) = _
      simp [h1, h6]
     ·iterate 3 (refine .sk ?_)
      iterate 2 (refine .p (.bool false) ?_)
      refine .done ⟨[(8, (.bool _)), (3, (.ptr ⟨3, []⟩ 0 0)), (2, (.ptr ⟨2, []⟩ 0 0)), (1, (vi _))], [(2, .bx (vi x14)), (3, .bx (actV a))], [], false⟩ ?_
      show (⟨[(8, (.bool _)), (3, (.ptr ⟨3, []⟩ 0 0)), (2, (.ptr ⟨2, []⟩ 0 0)), (1, (vi _))], [(2, .bx (vi x14)), (3, .bx (actV a))], [], false⟩ : St) = _
      simp [h1, h6]
    ·iterate 3 (refine .sk ?_)
     iterate 2 (refine .p (.bool false) ?_)
     iterate 3 (refine .sk ?_)
     iterate 2 (refine .p (.bool false) ?_)
     refine .done ⟨[(8, (.bool _)), (3, (.ptr ⟨3, []⟩ 0 0)), (2, (.ptr ⟨2, []⟩ 0 0)), (1, (vi _))], [(2, .bx (vi x14)), (3, .bx (actV a))], [], false⟩ ?_
     show (⟨[(8, (.bool _)), (3, (.ptr ⟨3, []⟩ 0 0)), (2, (.ptr ⟨2, []⟩ 0 0)), (1, (vi _))], [(2, .bx (vi x14)), (3, .bx (actV a))], [], false⟩ : St) = _
     simp [h1]
   rintro s rfl
   exact Jq.mk ⟨_, by rw [okA, if_pos c0, e18]; rfl, rfl⟩
  ·have c0 : ¬ (a.kind = 0) := by simpa using hx
   apply Wq.seq
   refine Wq.rg [35, 21, 8, 7, 3, 2, 1] ?_
   iterate 2 (refine .p (.bool (a.kind == 1)) ?_)
   refine .done ⟨[(35, (.bool (a.kind == 1))), (21, (vi a.kind)), (8, (.bool false)), (7, (.bool (x18 == 0))), (3, (.ptr ⟨3, []⟩ 0 0)), (2, (.ptr ⟨2, []⟩ 0 0)), (1, (vi syms))], [(2, .bx (vi x14)), (3, .bx (actV a))], [], false⟩ ?_
   refine Wq.jn (fun s => ∃ (x8 : Bool), x8 = okA a syms ∧ s = ⟨[(8, (.bool x8)), (3, (.ptr ⟨3, []⟩ 0 0)), (2, (.ptr ⟨2, []⟩ 0 0)), (1, (vi syms))], [(2, .bx (vi x14)), (3, .bx (actV a))], [], false⟩) ?_ ?_
   ·refine Wq.cond rfl (fun hx => ?_) (fun hx => ?_)
    ·have c1 : (a.kind = 1) := by simpa using hx
     refine Wq.jn (fun s => s = ⟨[(8, (.bool ((((x18 == 0) && (decide (a.ix ≥ 0))) && (decide (a.ix < syms))) && (a.name.toList == ByteArray.empty.toList)))), (3, (.ptr ⟨3, []⟩ 0 0)), (2, (.ptr ⟨2, []⟩ 0 0)), (1, (vi syms))], [(2, .bx (vi x14)), (3, .bx (actV a))], [], false⟩) ?_ ?_
     ·refine Wq.rg [8, 3, 2, 1] ?_
      iterate 2 (refine .p (.bool (x18 == 0)) ?_)
      refine Rq.split (dg := 38) rfl (fun h1 => ?_) (fun h1 => ?_) rfl
      ·refine .r (.ptr ⟨3, []⟩ 0 1) ?_
       refine .r (vi a.ix) ?_
       refine .p (.bool (decide (a.ix ≥ 0))) ?_
       iterate 2 (refine .p (.bool (decide (a.ix ≥ 0))) ?_)
       refine Rq.split (dg := 43) rfl (fun h6 => ?_) (fun h6 => ?_) rfl
       ·refine .r (.ptr ⟨3, []⟩ 0 1) ?_
        refine .r (vi a.ix) ?_
        refine .p (vi syms) ?_
        refine .p (.bool (decide (a.ix < syms))) ?_
        iterate 2 (refine .p (.bool (decide (a.ix < syms))) ?_)
        refine Rq.split (dg := 49) rfl (fun h12 => ?_) (fun h12 => ?_) rfl
        ·refine .r (.ptr ⟨3, []⟩ 0 2) ?_
         refine .r (vs a.name) ?_
         refine .p (.bool (a.name.toList == ByteArray.empty.toList)) ?_
         iterate 2 (refine .p (.bool (a.name.toList == ByteArray.empty.toList)) ?_)
         refine .done ⟨[(8, (.bool _)), (3, (.ptr ⟨3, []⟩ 0 0)), (2, (.ptr ⟨2, []⟩ 0 0)), (1, (vi _))], [(2, .bx (vi x14)), (3, .bx (actV a))], [], false⟩ ?_
         show (⟨[(8, (.bool _)), (3, (.ptr ⟨3, []⟩ 0 0)), (2, (.ptr ⟨2, []⟩ 0 0)), (1, (vi _))], [(2, .bx (vi x14)), (3, .bx (actV a))], [], false⟩ : St) = _
         simp [h1, h6, h12]
        ·iterate 3 (refine .sk ?_)
         iterate 2 (refine .p (.bool false) ?_)
         refine .done ⟨[(8, (.bool _)), (3, (.ptr ⟨3, []⟩ 0 0)), (2, (.ptr ⟨2, []⟩ 0 0)), (1, (vi _))], [(2, .bx (vi x14)), (3, .bx (actV a))], [], false⟩ ?_
         show (⟨[(8, (.bool _)), (3, (.ptr ⟨3, []⟩ 0 0)), (2, (.ptr ⟨2, []⟩ 0 0)), (1, (vi _))], [(2, .bx (vi x14)), (3, .bx (actV a))], [], false⟩ : St) = _
         simp [h1, h6, h12]
       ·iterate 4 (refine .sk ?_)
        iterate 2 (refine .p (.bool false) ?_)
        iterate 3 (refine .sk ?_)
        iterate 2 (refine .p (.bool false) ?_)
        refine .done ⟨[(8, (.bool _)), (3, (.ptr ⟨3, []⟩ 0 0)), (2, (.ptr ⟨2, []⟩ 0 0)), (1, (vi _))], [(2, .bx (vi x14)), (3, .bx (actV a))], [], false⟩ ?_
        show (⟨[(8, (.bool _)), (3, (.ptr ⟨3, []⟩ 0 0)), (2, (.ptr ⟨2, []⟩ 0 0)), (1, (vi _))], [(2, .bx (vi x14)), (3, .bx (actV a))], [], false⟩ : St) = _
        simp [h1, h6]
      ·iterate 3 (refine .sk ?_)
       iterate 2 (refine .p (.bool false) ?_)
       iterate 4 (refine .sk ?_)
       iterate 2 (refine .p (.bool false) ?_)
       iterate 3 (refine .sk ?_)
       iterate 2 (refine .p (.bool false) ?_)
       refine .done ⟨[(8, (.bool _)), (3, (.ptr ⟨3, []⟩ 0 0)), (2, (.ptr ⟨2, []⟩ 0 0)), (1, (vi _))], [(2, .bx (vi x14)), (3, .bx (actV a))], [], false⟩ ?_
       show (⟨[(8, (.bool _)), (3, (.ptr ⟨3, []⟩ 0 0)), (2, (.ptr ⟨2, []⟩ 0 0)), (1, (vi _))], [(2, .bx (vi x14)), (3, .bx (actV a))], [], false⟩ : St) = _
       simp [h1]
     rintro s rfl
     exact Jq.mk ⟨_, by rw [okA, if_neg c0, if_pos c1, e18]; rfl, rfl⟩
    ·have c1 : ¬ (a.kind = 1) := by simpa using hx
     apply Wq.seq
     refine Wq.rg [54, 21, 8, 7, 3, 2, 1] ?_
     iterate 2 (refine .p (.bool (a.kind == 3)) ?_)
     refine .done ⟨[(54, (.bool (a.kind == 3))), (21, (vi a.kind)), (8, (.bool false)), (7, (.bool (x18 == 0))), (3, (.ptr ⟨3, []⟩ 0 0)), (2, (.ptr ⟨2, []⟩ 0 0)), (1, (vi syms))], [(2, .bx (vi x14)), (3, .bx (actV a))], [], false⟩ ?_
     refine Wq.jn (fun s => ∃ (x8 : Bool), x8 = okA a syms ∧ s = ⟨[(8, (.bool x8)), (3, (.ptr ⟨3, []⟩ 0 0)), (2, (.ptr ⟨2, []⟩ 0 0)), (1, (vi syms))], [(2, .bx (vi x14)), (3, .bx (actV a))], [], false⟩) ?_ ?_
     ·refine Wq.cond rfl (fun hx => ?_) (fun hx => ?_)
      ·have c3 : (a.kind = 3) := by simpa using hx
       obtain ⟨x65, e65⟩ : ∃ x : Int, x = (a.name.size : Int) := ⟨_, rfl⟩
       refine Wq.jn (fun s => s = ⟨[(8, (.bool (((x18 == 0) && (a.ix == 0)) && (decide (x65 ≤ 4096))))), (3, (.ptr ⟨3, []⟩ 0 0)), (2, (.ptr ⟨2, []⟩ 0 0)), (1, (vi syms))], [(2, .bx (vi x14)), (3, .bx (actV a))], [], false⟩) ?_ ?_
       ·refine Wq.rg [8, 3, 2, 1] ?_
        iterate 2 (refine .p (.bool (x18 == 0)) ?_)
        refine Rq.split (dg := 57) rfl (fun h1 => ?_) (fun h1 => ?_) rfl
        ·refine .r (.ptr ⟨3, []⟩ 0 1) ?_
         refine .r (vi a.ix) ?_
         refine .p (.bool (a.ix == 0)) ?_
         iterate 2 (refine .p (.bool (a.ix == 0)) ?_)
         refine Rq.split (dg := 62) rfl (fun h6 => ?_) (fun h6 => ?_) rfl
         ·refine .r (.ptr ⟨3, []⟩ 0 2) ?_
          refine .r (vs a.name) ?_
          refine .pv _ (vi x65) (by rw [e65]) ?_
          refine .p (.bool (decide (x65 ≤ 4096))) ?_
          iterate 2 (refine .p (.bool (decide (x65 ≤ 4096))) ?_)
          refine .done ⟨[(8, (.bool _)), (3, (.ptr ⟨3, []⟩ 0 0)), (2, (.ptr ⟨2, []⟩ 0 0)), (1, (vi _))], [(2, .bx (vi x14)), (3, .bx (actV a))], [], false⟩ ?_
          show (⟨[(8, (.bool _)), (3, (.ptr ⟨3, []⟩ 0 0)), (2, (.ptr ⟨2, []⟩ 0 0)), (1, (vi _))], [(2, .bx (vi x14)), (3, .bx (actV a))], [], false⟩ : St) = _
          simp [h1, h6]
         ·iterate 4 (refine .sk ?_)
          iterate 2 (refine .p (.bool false) ?_)
          refine .done ⟨[(8, (.bool _)), (3, (.ptr ⟨3, []⟩ 0 0)), (2, (.ptr ⟨2, []⟩ 0 0)), (1, (vi _))], [(2, .bx (vi x14)), (3, .bx (actV a))], [], false⟩ ?_
          show (⟨[(8, (.bool _)), (3, (.ptr ⟨3, []⟩ 0 0)), (2, (.ptr ⟨2, []⟩ 0 0)), (1, (vi _))], [(2, .bx (vi x14)), (3, .bx (actV a))], [], false⟩ : St) = _
          simp [h1, h6]
        ·iterate 3 (refine .sk ?_)
         iterate 2 (refine .p (.bool false) ?_)
         iterate 4 (refine .sk ?_)
         iterate 2 (refine .p (.bool false) ?_)
         refine .done ⟨[(8, (.bool _)), (3, (.ptr ⟨3, []⟩ 0 0)), (2, (.ptr ⟨2, []⟩ 0 0)), (1, (vi _))], [(2, .bx (vi x14)), (3, .bx (actV a))], [], false⟩ ?_
         show (⟨[(8, (.bool _)), (3, (.ptr ⟨3, []⟩ 0 0)), (2, (.ptr ⟨2, []⟩ 0 0)), (1, (vi _))], [(2, .bx (vi x14)), (3, .bx (actV a))], [], false⟩ : St) = _
         simp [h1]
       rintro s rfl
       exact Jq.mk ⟨_, by rw [okA, if_neg c0, if_neg c1, if_pos c3, e18, e65]; rfl, rfl⟩
      ·have c3 : ¬ (a.kind = 3) := by simpa using hx
       apply Wq.seq
       refine Wq.rg [68, 8, 3, 2, 1] ?_
       iterate 2 (refine .p (.bool (a.kind == 2)) ?_)
       refine .done ⟨[(68, (.bool (a.kind == 2))), (8, (.bool false)), (3, (.ptr ⟨3, []⟩ 0 0)), (2, (.ptr ⟨2, []⟩ 0 0)), (1, (vi syms))], [(2, .bx (vi x14)), (3, .bx (actV a))], [], false⟩ ?_
       refine Wq.jn (fun s => ∃ (x8 : Bool), x8 = okA a syms ∧ s = ⟨[(8, (.bool x8)), (3, (.ptr ⟨3, []⟩ 0 0)), (2, (.ptr ⟨2, []⟩ 0 0)), (1, (vi syms))], [(2, .bx (vi x14)), (3, .bx (actV a))], [], false⟩) ?_ ?_
       ·refine Wq.cond rfl (fun hx => ?_) (fun hx => ?_)
        ·have c2 : (a.kind = 2) := by simpa using hx
         obtain ⟨x76, e76⟩ : ∃ x : Int, x = (a.name.size : Int) := ⟨_, rfl⟩
         obtain ⟨x82, e82⟩ : ∃ x : Int, x = (a.name.size : Int) := ⟨_, rfl⟩
         refine Wq.jn (fun s => s = ⟨[(8, (.bool (((a.ix == 0) && (decide (x76 ≥ 1))) && (decide (x82 ≤ 32))))), (3, (.ptr ⟨3, []⟩ 0 0)), (2, (.ptr ⟨2, []⟩ 0 0)), (1, (vi syms))], [(2, .bx (vi x14)), (3, .bx (actV a))], [], false⟩) ?_ ?_
         ·refine Wq.rg [8, 3, 2, 1] ?_
          refine .r (.ptr ⟨3, []⟩ 0 1) ?_
          refine .r (vi a.ix) ?_
          iterate 2 (refine .p (.bool (a.ix == 0)) ?_)
          refine Rq.split (dg := 73) rfl (fun h3 => ?_) (fun h3 => ?_) rfl
          ·refine .r (.ptr ⟨3, []⟩ 0 2) ?_
           refine .r (vs a.name) ?_
           refine .pv _ (vi x76) (by rw [e76]) ?_
           refine .p (.bool (decide (x76 ≥ 1))) ?_
           iterate 2 (refine .p (.bool (decide (x76 ≥ 1))) ?_)
           refine Rq.split (dg := 79) rfl (fun h9 => ?_) (fun h9 => ?_) rfl
           ·refine .r (.ptr ⟨3, []⟩ 0 2) ?_
            refine .r (vs a.name) ?_
            refine .pv _ (vi x82) (by rw [e82]) ?_
            refine .p (.bool (decide (x82 ≤ 32))) ?_
            iterate 2 (refine .p (.bool (decide (x82 ≤ 32))) ?_)
            refine .done ⟨[(8, (.bool _)), (3, (.ptr ⟨3, []⟩ 0 0)), (2, (.ptr ⟨2, []⟩ 0 0)), (1, (vi _))], [(2, .bx (vi x14)), (3, .bx (actV a))], [], false⟩ ?_
            show (⟨[(8, (.bool _)), (3, (.ptr ⟨3, []⟩ 0 0)), (2, (.ptr ⟨2, []⟩ 0 0)), (1, (vi _))], [(2, .bx (vi x14)), (3, .bx (actV a))], [], false⟩ : St) = _
            simp [h3, h9]
           ·iterate 4 (refine .sk ?_)
            iterate 2 (refine .p (.bool false) ?_)
            refine .done ⟨[(8, (.bool _)), (3, (.ptr ⟨3, []⟩ 0 0)), (2, (.ptr ⟨2, []⟩ 0 0)), (1, (vi _))], [(2, .bx (vi x14)), (3, .bx (actV a))], [], false⟩ ?_
            show (⟨[(8, (.bool _)), (3, (.ptr ⟨3, []⟩ 0 0)), (2, (.ptr ⟨2, []⟩ 0 0)), (1, (vi _))], [(2, .bx (vi x14)), (3, .bx (actV a))], [], false⟩ : St) = _
            simp [h3, h9]
          ·iterate 4 (refine .sk ?_)
           iterate 2 (refine .p (.bool false) ?_)
           iterate 4 (refine .sk ?_)
           iterate 2 (refine .p (.bool false) ?_)
           refine .done ⟨[(8, (.bool _)), (3, (.ptr ⟨3, []⟩ 0 0)), (2, (.ptr ⟨2, []⟩ 0 0)), (1, (vi _))], [(2, .bx (vi x14)), (3, .bx (actV a))], [], false⟩ ?_
           show (⟨[(8, (.bool _)), (3, (.ptr ⟨3, []⟩ 0 0)), (2, (.ptr ⟨2, []⟩ 0 0)), (1, (vi _))], [(2, .bx (vi x14)), (3, .bx (actV a))], [], false⟩ : St) = _
           simp [h3]
         rintro s rfl
         exact Jq.mk ⟨_, by rw [okA, if_neg c0, if_neg c1, if_neg c3, if_pos c2, e76, e82], rfl⟩
        ·have c2 : ¬ (a.kind = 2) := by simpa using hx
         refine Wq.skipW [8, 3, 2, 1] rfl ?_
         exact Jq.mk ⟨_, by rw [okA, if_neg c0, if_neg c1, if_neg c3, if_neg c2], rfl⟩
       rintro s ⟨x8, hg, rfl⟩
       exact Jq.mk ⟨_, hg, rfl⟩
     rintro s ⟨x8, hg, rfl⟩
     exact Jq.mk ⟨_, hg, rfl⟩
   rintro s ⟨x8, hg, rfl⟩
   exact Jq.mk ⟨_, hg, rfl⟩
 rintro s ⟨x8, hg, rfl⟩
 apply Wq.seq
 apply Wq.seq
 refine Wq.rg [88, 87, 86, 8, 2, 1] ?_
 refine .r (.ptr ⟨3, []⟩ 0 3) ?_
 refine .rv _ (Sl.av actV a.ks) (ksE a) ?_
 obtain ⟨x87, e87⟩ : ∃ x : Int, x = (a.ks.l.length : Int) := ⟨_, rfl⟩
 refine .pv _ (vi x87) (ln e87) ?_
 refine .p (vi 0) ?_
 refine .done ⟨[(88, (vi 0)), (87, (vi x87)), (86, (Sl.av actV a.ks)), (8, (.bool x8)), (2, (.ptr ⟨2, []⟩ 0 0)), (1, (vi syms))], [(2, .bx (vi x14)), (3, .bx (actV a))], [], false⟩ ?_
 refine Wq.block ?_ -- 1
 refine Wq.lp (fun m s => ∃ (x88 : Int) (x8 : Bool) (xn : Int) (H9 : Hp), m = (x87 - x88).toNat ∧ (H9 = [] ∨ ∃ x, H9 = [(10, x)]) ∧ (0 ≤ x88 ∧ x88 ≤ x87 ∧ 0 ≤ xn ∧ xn ≤ 257 ∧ kidsS syms (a.ks.l.drop x88.toNat) (x8, xn) = kidsS syms a.kids (okA a syms, n + 1)) ∧ s = ⟨[(88, (vi x88)), (87, (vi x87)), (86, (Sl.av actV a.ks)), (8, (.bool x8)), (2, (.ptr ⟨2, []⟩ 0 0)), (1, (vi syms))], (2, .bx (vi xn)) :: (3, .bx (actV a)) :: H9, [], false⟩) ?_ ⟨0, x8, _, [], rfl, .inl rfl, ⟨by omega, by omega, by omega, by omega, by rw [hg, e14]; rfl⟩, rfl⟩
 clear hg
 rintro m s ⟨x88, x8, xn, H9, rfl, hH, ⟨hi0, hi1, hn2, hn3, hi⟩, rfl⟩
 show Wq _ _ _ _ _ _ ⟨[(88, (vi x88)), (87, (vi x87)), (86, (Sl.av actV a.ks)), (8, (.bool x8)), (2, (.ptr ⟨2, []⟩ 0 0)), (1, (vi syms))], (2, .bx (vi xn)) :: (3, .bx (actV a)) :: H9, [], false⟩ _
 apply Wq.seq
 refine Wq.rgK [89, 88, 87, 86, 8, 2, 1] (by rcases hH with rfl | ⟨x, rfl⟩ <;> rfl) ?_
 refine .p (.bool (decide (x88 < x87))) ?_
 refine .fin (S' := ⟨[(89, (.bool (decide (x88 < x87)))), (88, (vi x88)), (87, (vi x87)), (86, (Sl.av actV a.ks)), (8, (.bool x8)), (2, (.ptr ⟨2, []⟩ 0 0)), (1, (vi syms))], (2, .bx (vi xn)) :: (3, .bx (actV a)) :: H9, [], false⟩) (by rcases hH with rfl | ⟨x, rfl⟩ <;> rfl) ?_
 apply Wq.seq
 refine Wq.cond rfl (fun hx => ?_) (fun hx => ?_)
 ·have hx := of_decide_eq_true hx
  refine Wq.skip ?_
  apply Wq.seq
  refine Wq.block ?_ -- 2
  apply Wq.seq
  refine Wq.reg [88, 87, 86, 10, 8, 2, 1] (t1 := (89, .bool (decide (x88 < x87))) :: [(88, (vi x88)), (87, (vi x87)), (86, (Sl.av actV a.ks)), (8, (.bool x8)), (2, (.ptr ⟨2, []⟩ 0 0)), (1, (vi syms))]) (h1 := [(2, .bx (vi xn)), (3, .bx (actV a))]) (d1 := []) (by rcases hH with rfl | ⟨x, rfl⟩ <;> rfl) rfl (by kernel_rfl) (by kernel_rfl) ?_
  obtain ⟨r90, e90⟩ : ∃ x : _, x = (a.ks.l.getD x88.toNat default) := ⟨_, rfl⟩
  have m90 := getD_mem e90 (by omega) (by omega)
  refine .po (fun _ => op_ix e90 (by omega) (by omega) hks.1) (.fp _ (actV r90) 0) rfl ?_
  refine .p (actV r90) ?_
  refine .e (.ptr ⟨10, []⟩ 0 0) [(2, .bx (vi xn)), (3, .bx (actV a)), (10, .bx (.agg [(vi 0), (vi 0), (vs ByteArray.empty), (.fz 1 0 [])]))] ?_
  refine .sq [(2, .bx (vi xn)), (3, .bx (actV a)), (10, .bx (actV r90))] ?_
  refine .done ⟨[(88, (vi x88)), (87, (vi x87)), (86, (Sl.av actV a.ks)), (10, (.ptr ⟨10, []⟩ 0 0)), (8, (.bool x8)), (2, (.ptr ⟨2, []⟩ 0 0)), (1, (vi syms))], [(2, .bx (vi xn)), (3, .bx (actV a)), (10, .bx (actV r90))], [], false⟩ ?_
  obtain ⟨b', n', es⟩ : ∃ b' n', (b', n') = kstep syms (x8, xn) r90 := ⟨_, _, rfl⟩
  have hn' : 0 ≤ n' ∧ n' ≤ 257 := by
   rw [kstep] at es
   by_cases hc : (x8 && decide (xn ≤ 256)) = true
   ·rw [if_pos hc] at es
    have := parts_le (syms := syms) r90 xn hn2 (by simp at hc; exact hc.2)
    rw [← es] at this; exact this
   ·rw [if_neg hc] at es
    obtain ⟨rfl, rfl⟩ := _root_.Prod.mk.inj es
    exact ⟨hn2, hn3⟩
  have hdrop : a.ks.l.drop x88.toNat = r90 :: a.ks.l.drop (x88.toNat + 1) := by
   rw [List.drop_eq_getElem_cons (by omega)]; congr 1
   rw [e90]; simp [List.getD, show x88.toNat < a.ks.l.length by omega]
  have hi2 : kidsS syms (a.ks.l.drop (x88.toNat + 1)) (b', n') = kidsS syms a.kids (okA a syms, n + 1) := by rw [← hi, hdrop, kidsS, es]; rfl
  refine Wq.jn (fun s => s = ⟨[(88, (vi x88)), (87, (vi x87)), (86, (Sl.av actV a.ks)), (8, (.bool b')), (2, (.ptr ⟨2, []⟩ 0 0)), (1, (vi syms))], [(2, .bx (vi n')), (3, .bx (actV a)), (10, .bx (actV r90))], [], false⟩) ?_ ?_
  ·refine Wq.rg [88, 87, 86, 8, 2, 1] ?_
   iterate 2 (refine .p (.bool x8) ?_)
   refine Rq.split (dg := 93) rfl (fun h1 => ?_) (fun h1 => ?_) rfl
   ·refine .p (.ptr ⟨2, []⟩ 0 0) ?_
    refine .r (.ptr ⟨2, []⟩ 0 0) ?_
    refine .r (vi xn) ?_
    refine .p (.bool (decide (xn ≤ 256))) ?_
    iterate 2 (refine .p (.bool (decide (xn ≤ 256))) ?_)
    refine Rq.split (dg := 99) rfl (fun h7 => ?_) (fun h7 => ?_) rfl
    ·refine .r (actV r90) ?_
     refine .p (vi syms) ?_
     refine .p (.ptr ⟨2, []⟩ 0 0) ?_
     have es2 : (b', n') = partsS syms r90 xn := by rw [es, kstep, if_pos (by show (x8 && decide (xn ≤ 256)) = true; rw [h1, h7]; rfl)]
     have hans : Ans cx O 73 [actV r90, vi syms, .bx (vi xn)] (.bool b', [.bx (vi n')]) := by
      have := IH r90 (hsz _ m90) (goodL_mem hks.2.2 m90) xn hn2 (of_decide_eq_true h7)
      rw [← es2] at this; exact this
     refine .cl F73 rfl rfl hans (expArgs_cons rfl (expArgs_cons rfl (expArgs_cons rfl rfl rfl) rfl) rfl) rfl rfl (zip_ok rfl rfl) (.bool b') [(2, .bx (vi n')), (3, .bx (actV a)), (10, .bx (actV r90))] ?_
     iterate 2 (refine .p (.bool b') ?_)
     refine .done ⟨[(88, (vi _)), (87, (vi _)), (86, (Sl.av actV a.ks)), (8, (.bool _)), (2, (.ptr ⟨2, []⟩ 0 0)), (1, (vi _))], [(2, .bx (vi n')), (3, .bx (actV a)), (10, .bx (actV r90))], [], false⟩ ?_
     show (⟨[(88, (vi _)), (87, (vi _)), (86, (Sl.av actV a.ks)), (8, (.bool _)), (2, (.ptr ⟨2, []⟩ 0 0)), (1, (vi _))], [(2, .bx (vi n')), (3, .bx (actV a)), (10, .bx (actV r90))], [], false⟩ : St) = _
     simp
    ·rw [kstep, if_neg (by show ¬ (x8 && decide (xn ≤ 256)) = true; rw [h1, h7]; decide)] at es
     obtain ⟨rfl, rfl⟩ := _root_.Prod.mk.inj es
     iterate 4 (refine .sk ?_)
     iterate 2 (refine .p (.bool false) ?_)
     refine .done ⟨[(88, (vi _)), (87, (vi _)), (86, (Sl.av actV a.ks)), (8, (.bool _)), (2, (.ptr ⟨2, []⟩ 0 0)), (1, (vi _))], [(2, .bx (vi n')), (3, .bx (actV a)), (10, .bx (actV r90))], [], false⟩ ?_
     show (⟨[(88, (vi _)), (87, (vi _)), (86, (Sl.av actV a.ks)), (8, (.bool _)), (2, (.ptr ⟨2, []⟩ 0 0)), (1, (vi _))], [(2, .bx (vi n')), (3, .bx (actV a)), (10, .bx (actV r90))], [], false⟩ : St) = _
     simp
   ·rw [kstep, if_neg (by show ¬ (x8 && decide (xn ≤ 256)) = true; rw [h1, Bool.false_and]; decide)] at es
    obtain ⟨rfl, rfl⟩ := _root_.Prod.mk.inj es
    iterate 4 (refine .sk ?_)
    iterate 2 (refine .p (.bool false) ?_)
    iterate 4 (refine .sk ?_)
    iterate 2 (refine .p (.bool false) ?_)
    refine .done ⟨[(88, (vi _)), (87, (vi _)), (86, (Sl.av actV a.ks)), (8, (.bool _)), (2, (.ptr ⟨2, []⟩ 0 0)), (1, (vi _))], [(2, .bx (vi n')), (3, .bx (actV a)), (10, .bx (actV r90))], [], false⟩ ?_
    show (⟨[(88, (vi _)), (87, (vi _)), (86, (Sl.av actV a.ks)), (8, (.bool _)), (2, (.ptr ⟨2, []⟩ 0 0)), (1, (vi _))], [(2, .bx (vi n')), (3, .bx (actV a)), (10, .bx (actV r90))], [], false⟩ : St) = _
    simp
  rintro s rfl
  refine Wq.rg [88, 87, 86, 8, 2, 1] ?_
  obtain ⟨x105, e105⟩ : ∃ x : Int, x = (x88 + 1) := ⟨_, rfl⟩
  refine .pv _ (vi x105) (wrE e105 (by omega) (by omega)) ?_
  refine .p (vi x105) ?_
  refine .done ⟨[(88, (vi x105)), (87, (vi x87)), (86, (Sl.av actV a.ks)), (8, (.bool b')), (2, (.ptr ⟨2, []⟩ 0 0)), (1, (vi syms))], [(2, .bx (vi n')), (3, .bx (actV a)), (10, .bx (actV r90))], [], false⟩ ?_
  exact Iq.mk _ (by omega) ⟨x105, b', n', [(10, .bx (actV r90))], rfl, .inr ⟨_, rfl⟩, ⟨by omega, by omega, by omega, by omega, by rw [show x105.toNat = x88.toNat + 1 by omega]; exact hi2⟩, rfl⟩
 ·have hx := of_decide_eq_false hx
  refine Wq.exit ?_ -- 1
  apply Wq.seq
  refine Wq.jn (fun s => s = ⟨[(6, (.bool (x8 && (decide (xn ≤ 256)))))], (2, .bx (vi xn)) :: (3, .bx (actV a)) :: H9, [], false⟩) ?_ ?_
  ·refine Wq.rgK [6] (by rcases hH with rfl | ⟨x, rfl⟩ <;> rfl) ?_
   iterate 2 (refine .p (.bool x8) ?_)
   refine Rq.split (dg := 107) rfl (fun h1 => ?_) (fun h1 => ?_) rfl
   ·refine .p (.ptr ⟨2, []⟩ 0 0) ?_
    refine .r (.ptr ⟨2, []⟩ 0 0) ?_
    refine .r (vi xn) ?_
    refine .p (.bool (decide (xn ≤ 256))) ?_
    iterate 2 (refine .p (.bool (decide (xn ≤ 256))) ?_)
    refine .fin (S' := ⟨[(6, (.bool _))], (2, .bx (vi xn)) :: (3, .bx (actV a)) :: H9, [], false⟩) (by rcases hH with rfl | ⟨x, rfl⟩ <;> rfl) ?_
    show (⟨[(6, (.bool _))], (2, .bx (vi xn)) :: (3, .bx (actV a)) :: H9, [], false⟩ : St) = _
    simp [h1]
   ·iterate 4 (refine .sk ?_)
    iterate 2 (refine .p (.bool false) ?_)
    refine .fin (S' := ⟨[(6, (.bool _))], (2, .bx (vi xn)) :: (3, .bx (actV a)) :: H9, [], false⟩) (by rcases hH with rfl | ⟨x, rfl⟩ <;> rfl) ?_
    show (⟨[(6, (.bool _))], (2, .bx (vi xn)) :: (3, .bx (actV a)) :: H9, [], false⟩ : St) = _
    simp [h1]
  rintro s rfl
  refine Wq.ret ?_
  exact Aq.mk rfl (by rw [partsS_eq, show kidsS syms a.kids (okA a syms, n + 1) = (x8, xn) by rw [← hi, List.drop_of_length_le (by omega), kidsS]]; rcases hH with rfl | ⟨x, rfl⟩ <;> rfl)
end Go.Am.Pull
end
section
namespace Go.Am.Pull
open Go Go.Proofs Go.Am
set_option maxRecDepth 100000
set_option maxHeartbeats 4000000
variable {O : List Ent}
theorem op_eql2 {cx : Cx} {keep : Nat} {call : CallF} {t h : Hp} {d : List Up} {al : Bool} {o : Oper} {ty : Nat} {x y : Operand} {p : Nat} {a b c e : Int} (hk : cx.flat ty = some [.int .i64, .int .i64]) (h0 : o.op = .binOp .eql ty x y p) (hx : ev ⟨t, h, d, al⟩ x = .agg [vi a, vi b]) (hy : ev ⟨t, h, d, al⟩ y = .agg [vi c, vi e]) :
  opX cx call keep ⟨t, h, d, al⟩ o = some ⟨.bool (a == c && b == e), [], []⟩ := by
 simp only [opX, h0, oBin, binX, hx, hy, eqX, hk, cellsEq, cellEq, if_true]
 cases (a == c) <;> cases (b == e) <;> rfl
def prodS (g : Plain) (p : Prod) : Bool :=
 !((((decide (p.left < 0)) || (decide (p.left ≥ (g.rules.l.length : Int)))) || (decide ((p.right.l.length : Int) > 64))) || (decide (p.level < 0))) &&
 (p.right.l.all (fun x => !((decide (x < 1)) || (decide (x ≥ (g.kinds.l.length : Int) + (g.rules.l.length : Int))))) && (partsS p.right.l.length p.act 0).1)
def precS (p : Prec) (i : Int) : Bool := (p.level == 0 && p.assoc == 0) || ((((decide (p.level ≥ 1)) && (decide (p.assoc ≥ 1))) && (decide (p.assoc ≤ 3))) && (decide (i ≥ 2)))
def gOk0 (g : Plain) : Bool := (kindsS g.kinds == 0) && ((g.precs.l.length : Int) == (g.kinds.l.length : Int))
def gOk1 (g : Plain) : Bool := gOk0 g && (List.range g.precs.l.length).all (fun i => precS (g.precs.l.getD i default) i)
def gOk2 (g : Plain) : Bool := (((((gOk1 g && (decide ((g.rules.l.length : Int) ≥ 1))) && (decide ((g.rules.l.length : Int) ≤ 2048))) && (decide (g.start ≥ 0))) && (decide (g.start < (g.rules.l.length : Int)))) && (decide ((g.prods.l.length : Int) ≤ 4096)))
def rulesL : List ByteArray → Bool → List ByteArray → Bool
 | _, b, [] => b
 | kl, b, r :: l => rulesL (kput kl r) (((b && (decide ((r.size : Int) ≥ 1))) && (decide ((r.size : Int) ≤ 4096))) && (!(hasK kl r))) l
def gOk3 (g : Plain) : Bool := rulesL [] (gOk2 g) g.rules.l
def gOk (g : Plain) : Bool := gOk3 g && g.prods.l.all (prodS g)
def gcheckS (g : Plain) : Int := if gOk g = true then 0 else 130
/-- what the types say of a grammar, and that nothing is too large -/
structure GTy (g : Plain) : Prop where
 kinds : g.kinds.ok 1
 precs : g.precs.ok 2
 rules : g.rules.ok 1
 prods : g.prods.ok 7
 right : ∀ x ∈ g.prods.l, x.right.ok 1 ∧ x.right.l.length < 2 ^ 40 ∧ x.act.good
 small : g.kinds.l.length < 2 ^ 40 ∧ g.precs.l.length < 2 ^ 40 ∧ g.rules.l.length < 2 ^ 40 ∧ g.prods.l.length < 2 ^ 40
 names : ∀ x ∈ g.kinds.l, x.size < 2 ^ 40
theorem take_all_succ {α : Type} {l : List α} {f : α → Bool} {n : Nat} {a : α} (h : n < l.length) (ha : a = l.getD n a) : (l.take (n + 1)).all f = ((l.take n).all f && f a) := by
 rw [List.take_succ_eq_append_getElem h, List.all_append]
 simp [show l[n] = a by rw [ha]; simp [List.getD, h]]
theorem range_all_succ {f : Nat → Bool} {n : Nat} : (List.range (n + 1)).all f = ((List.range n).all f && f n) := by
 rw [List.range_succ, List.all_append]; simp
noncomputable def fn51 : FnS := (mkA Try.f51 ⟨562982702547167, [0, 0], false, []⟩).getD ⟨.skip, 0, [], [], 0, [], false, []⟩
theorem F51 : cx.F 51 = some fn51 := by kernel_rfl   -- quoin/gram.prod
theorem prod_q (hO : ∀ e ∈ O, e.f ≠ 51) (hO2 : ∀ e ∈ O, e.f ≠ 73) {g : Plain} {pr : Prod} (hr : pr.right.ok 1) (hr2 : pr.right.l.length < 2 ^ 40) (hact : pr.act.good) (s1 : g.kinds.l.length < 2 ^ 40) (s2 : g.rules.l.length < 2 ^ 40) : Ans cx O 51 [(Plain.av g), (Prod.av pr)] (.bool (prodS g pr), []) := by
 refine ans_q [1, 0] (fn := fn51) F51 (orc_none hO) ?_
 show Wq cx O 562982702547167 0 [] _ ⟨[(1, (Prod.av pr)), (0, (Plain.av g))], [], [], false⟩ _
 apply Wq.seq
 refine Wq.rg [4, 3, 2] ?_
 refine .e (.ptr ⟨2, []⟩ 0 0) [(2, .bx (Plain.av g))] ?_
 refine .e (.ptr ⟨3, []⟩ 0 0) [(2, .bx (Plain.av g)), (3, .bx (Prod.av pr))] ?_
 refine .p (.bool false) ?_
 refine .done ⟨[(4, (.bool false)), (3, (.ptr ⟨3, []⟩ 0 0)), (2, (.ptr ⟨2, []⟩ 0 0))], [(2, .bx (Plain.av g)), (3, .bx (Prod.av pr))], [], false⟩ ?_
 apply Wq.seq
 apply Wq.seq
 obtain ⟨x16, e16⟩ : ∃ x : Int, x = (g.rules.l.length : Int) := ⟨_, rfl⟩
 obtain ⟨x22, e22⟩ : ∃ x : Int, x = (pr.right.l.length : Int) := ⟨_, rfl⟩
 refine Wq.jn (fun s => s = ⟨[(29, (.bool ((((decide (pr.left < 0)) || (decide (pr.left ≥ x16))) || (decide (x22 > 64))) || (decide (pr.level < 0))))), (3, (.ptr ⟨3, []⟩ 0 0)), (2, (.ptr ⟨2, []⟩ 0 0))], [(2, .bx (Plain.av g)), (3, .bx (Prod.av pr))], [], false⟩) ?_ ?_
 ·refine Wq.rg [29, 3, 2] ?_
  refine .r (.ptr ⟨3, []⟩ 0 0) ?_
  refine .r (vi pr.left) ?_
  iterate 2 (refine .p (.bool (decide (pr.left < 0))) ?_)
  refine Rq.split (dg := 11) rfl (fun h3 => ?_) (fun h3 => ?_) rfl
  ·iterate 6 (refine .sk ?_)
   iterate 2 (refine .p (.bool true) ?_)
   iterate 4 (refine .sk ?_)
   iterate 2 (refine .p (.bool true) ?_)
   iterate 3 (refine .sk ?_)
   refine .p (.bool true) ?_
   refine .done ⟨[(29, (.bool _)), (3, (.ptr ⟨3, []⟩ 0 0)), (2, (.ptr ⟨2, []⟩ 0 0))], [(2, .bx (Plain.av g)), (3, .bx (Prod.av pr))], [], false⟩ ?_
   show (⟨[(29, (.bool _)), (3, (.ptr ⟨3, []⟩ 0 0)), (2, (.ptr ⟨2, []⟩ 0 0))], [(2, .bx (Plain.av g)), (3, .bx (Prod.av pr))], [], false⟩ : St) = _
   simp [h3]
  ·refine .r (.ptr ⟨3, []⟩ 0 0) ?_
   refine .r (vi pr.left) ?_
   refine .r (.ptr ⟨2, []⟩ 0 2) ?_
   refine .r (Sl.av vs g.rules) ?_
   refine .pv _ (vi x16) (ln e16) ?_
   refine .p (.bool (decide (pr.left ≥ x16))) ?_
   iterate 2 (refine .p (.bool (decide (pr.left ≥ x16))) ?_)
   refine Rq.split (dg := 19) rfl (fun h11 => ?_) (fun h11 => ?_) rfl
   ·iterate 4 (refine .sk ?_)
    iterate 2 (refine .p (.bool true) ?_)
    iterate 3 (refine .sk ?_)
    refine .p (.bool true) ?_
    refine .done ⟨[(29, (.bool _)), (3, (.ptr ⟨3, []⟩ 0 0)), (2, (.ptr ⟨2, []⟩ 0 0))], [(2, .bx (Plain.av g)), (3, .bx (Prod.av pr))], [], false⟩ ?_
    show (⟨[(29, (.bool _)), (3, (.ptr ⟨3, []⟩ 0 0)), (2, (.ptr ⟨2, []⟩ 0 0))], [(2, .bx (Plain.av g)), (3, .bx (Prod.av pr))], [], false⟩ : St) = _
    simp [h3, h11]
   ·refine .r (.ptr ⟨3, []⟩ 0 1) ?_
    refine .r (Sl.av vi pr.right) ?_
    refine .pv _ (vi x22) (ln e22) ?_
    refine .p (.bool (decide (x22 > 64))) ?_
    iterate 2 (refine .p (.bool (decide (x22 > 64))) ?_)
    refine Rq.split (dg := 25) rfl (fun h17 => ?_) (fun h17 => ?_) rfl
    ·iterate 3 (refine .sk ?_)
     refine .p (.bool true) ?_
     refine .done ⟨[(29, (.bool _)), (3, (.ptr ⟨3, []⟩ 0 0)), (2, (.ptr ⟨2, []⟩ 0 0))], [(2, .bx (Plain.av g)), (3, .bx (Prod.av pr))], [], false⟩ ?_
     show (⟨[(29, (.bool _)), (3, (.ptr ⟨3, []⟩ 0 0)), (2, (.ptr ⟨2, []⟩ 0 0))], [(2, .bx (Plain.av g)), (3, .bx (Prod.av pr))], [], false⟩ : St) = _
     simp [h3, h11, h17]
    ·refine .r (.ptr ⟨3, []⟩ 0 2) ?_
     refine .r (vi pr.level) ?_
     refine .p (.bool (decide (pr.level < 0))) ?_
     refine .p (.bool (decide (pr.level < 0))) ?_
     refine .done ⟨[(29, (.bool _)), (3, (.ptr ⟨3, []⟩ 0 0)), (2, (.ptr ⟨2, []⟩ 0 0))], [(2, .bx (Plain.av g)), (3, .bx (Prod.av pr))], [], false⟩ ?_
     show (⟨[(29, (.bool _)), (3, (.ptr ⟨3, []⟩ 0 0)), (2, (.ptr ⟨2, []⟩ 0 0))], [(2, .bx (Plain.av g)), (3, .bx (Prod.av pr))], [], false⟩ : St) = _
     simp [h3, h11, h17]
 rintro s rfl
 refine Wq.cond rfl (fun hx => ?_) (fun hx => ?_)
 ·have hx := hx -- ((((decide (pr.left < 0)) || (decide (pr.left ≥ x16))) || (decide (x22 > 64))) || (decide (pr.level < 0)))
  apply Wq.seq
  refine Wq.rg [4] ?_
  refine .p (.bool false) ?_
  refine .done ⟨[(4, (.bool false))], [(2, .bx (Plain.av g)), (3, .bx (Prod.av pr))], [], false⟩ ?_
  refine Wq.ret ?_
  exact Aq.mk rfl (by rw [prodS, ← e16, ← e22, hx]; rfl)
 ·have hc := hx -- not ((((decide (pr.left < 0)) || (decide (pr.left ≥ x16))) || (decide (x22 > 64))) || (decide (pr.level < 0)))
  refine Wq.skip ?_
  apply Wq.seq
  apply Wq.seq
  refine Wq.rg [33, 32, 31, 3, 2] ?_
  refine .r (.ptr ⟨3, []⟩ 0 1) ?_
  refine .r (Sl.av vi pr.right) ?_
  obtain ⟨x32, e32⟩ : ∃ x : Int, x = (pr.right.l.length : Int) := ⟨_, rfl⟩
  refine .pv _ (vi x32) (ln e32) ?_
  refine .p (vi 0) ?_
  refine .done ⟨[(33, (vi 0)), (32, (vi x32)), (31, (Sl.av vi pr.right)), (3, (.ptr ⟨3, []⟩ 0 0)), (2, (.ptr ⟨2, []⟩ 0 0))], [(2, .bx (Plain.av g)), (3, .bx (Prod.av pr))], [], false⟩ ?_
  refine Wq.block ?_ -- 0
  refine Wq.lp (fun m s => ∃ (x33 : Int), m = (x32 - x33).toNat ∧ (0 ≤ x33 ∧ x33 ≤ x32 ∧ (pr.right.l.take x33.toNat).all (fun x => !((decide (x < 1)) || (decide (x ≥ (g.kinds.l.length : Int) + (g.rules.l.length : Int))))) = true) ∧ s = ⟨[(33, (vi x33)), (32, (vi x32)), (31, (Sl.av vi pr.right)), (3, (.ptr ⟨3, []⟩ 0 0)), (2, (.ptr ⟨2, []⟩ 0 0))], [(2, .bx (Plain.av g)), (3, .bx (Prod.av pr))], [], false⟩) ?_ ⟨0, rfl, ⟨by omega, by omega, rfl⟩, rfl⟩
  rintro m s ⟨x33, rfl, ⟨hi0, hi1, hi⟩, rfl⟩
  show Wq _ _ _ _ _ _ ⟨[(33, (vi x33)), (32, (vi x32)), (31, (Sl.av vi pr.right)), (3, (.ptr ⟨3, []⟩ 0 0)), (2, (.ptr ⟨2, []⟩ 0 0))], [(2, .bx (Plain.av g)), (3, .bx (Prod.av pr))], [], false⟩ _
  apply Wq.seq
  refine Wq.rg [34, 33, 32, 31, 3, 2] ?_
  refine .p (.bool (decide (x33 < x32))) ?_
  refine .done ⟨[(34, (.bool (decide (x33 < x32)))), (33, (vi x33)), (32, (vi x32)), (31, (Sl.av vi pr.right)), (3, (.ptr ⟨3, []⟩ 0 0)), (2, (.ptr ⟨2, []⟩ 0 0))], [(2, .bx (Plain.av g)), (3, .bx (Prod.av pr))], [], false⟩ ?_
  apply Wq.seq
  refine Wq.cond rfl (fun hx => ?_) (fun hx => ?_)
  ·have hx := of_decide_eq_true hx
   refine Wq.skip ?_
   apply Wq.seq
   refine Wq.block ?_ -- 1
   apply Wq.seq
   refine Wq.rg [33, 32, 31, 6, 3, 2] ?_
   obtain ⟨r35, e35⟩ : ∃ x : _, x = (pr.right.l.getD x33.toNat default) := ⟨_, rfl⟩
   have m35 := getD_mem e35 (by omega) (by omega)
   refine .po (fun _ => op_ix e35 (by omega) (by omega) hr) (.fp _ (vi r35) 0) rfl ?_
   iterate 2 (refine .p (vi r35) ?_)
   refine .done ⟨[(33, (vi x33)), (32, (vi x32)), (31, (Sl.av vi pr.right)), (6, (vi r35)), (3, (.ptr ⟨3, []⟩ 0 0)), (2, (.ptr ⟨2, []⟩ 0 0))], [(2, .bx (Plain.av g)), (3, .bx (Prod.av pr))], [], false⟩ ?_
   apply Wq.seq
   obtain ⟨x43, e43⟩ : ∃ x : Int, x = (g.kinds.l.length : Int) := ⟨_, rfl⟩
   obtain ⟨x46, e46⟩ : ∃ x : Int, x = (g.rules.l.length : Int) := ⟨_, rfl⟩
   obtain ⟨x47, e47⟩ : ∃ x : Int, x = (x43 + x46) := ⟨_, rfl⟩
   refine Wq.jn (fun s => s = ⟨[(49, (.bool ((decide (r35 < 1)) || (decide (r35 ≥ x47))))), (33, (vi x33)), (32, (vi x32)), (31, (Sl.av vi pr.right)), (3, (.ptr ⟨3, []⟩ 0 0)), (2, (.ptr ⟨2, []⟩ 0 0))], [(2, .bx (Plain.av g)), (3, .bx (Prod.av pr))], [], false⟩) ?_ ?_
   ·refine Wq.rg [49, 33, 32, 31, 3, 2] ?_
    refine .p (vi r35) ?_
    iterate 2 (refine .p (.bool (decide (r35 < 1))) ?_)
    refine Rq.split (dg := 39) rfl (fun h2 => ?_) (fun h2 => ?_) rfl
    ·iterate 9 (refine .sk ?_)
     refine .p (.bool true) ?_
     refine .done ⟨[(49, (.bool _)), (33, (vi _)), (32, (vi _)), (31, (Sl.av vi pr.right)), (3, (.ptr ⟨3, []⟩ 0 0)), (2, (.ptr ⟨2, []⟩ 0 0))], [(2, .bx (Plain.av g)), (3, .bx (Prod.av pr))], [], false⟩ ?_
     show (⟨[(49, (.bool _)), (33, (vi _)), (32, (vi _)), (31, (Sl.av vi pr.right)), (3, (.ptr ⟨3, []⟩ 0 0)), (2, (.ptr ⟨2, []⟩ 0 0))], [(2, .bx (Plain.av g)), (3, .bx (Prod.av pr))], [], false⟩ : St) = _
     simp [h2]
    ·refine .p (vi r35) ?_
     refine .r (.ptr ⟨2, []⟩ 0 0) ?_
     refine .r (Sl.av vs g.kinds) ?_
     refine .pv _ (vi x43) (ln e43) ?_
     refine .r (.ptr ⟨2, []⟩ 0 2) ?_
     refine .r (Sl.av vs g.rules) ?_
     refine .pv _ (vi x46) (ln e46) ?_
     refine .pv _ (vi x47) (wrE e47 (by omega) (by omega)) ?_
     refine .p (.bool (decide (r35 ≥ x47))) ?_
     refine .p (.bool (decide (r35 ≥ x47))) ?_
     refine .done ⟨[(49, (.bool _)), (33, (vi _)), (32, (vi _)), (31, (Sl.av vi pr.right)), (3, (.ptr ⟨3, []⟩ 0 0)), (2, (.ptr ⟨2, []⟩ 0 0))], [(2, .bx (Plain.av g)), (3, .bx (Prod.av pr))], [], false⟩ ?_
     show (⟨[(49, (.bool _)), (33, (vi _)), (32, (vi _)), (31, (Sl.av vi pr.right)), (3, (.ptr ⟨3, []⟩ 0 0)), (2, (.ptr ⟨2, []⟩ 0 0))], [(2, .bx (Plain.av g)), (3, .bx (Prod.av pr))], [], false⟩ : St) = _
     simp [h2]
   rintro s rfl
   refine Wq.cond rfl (fun hx => ?_) (fun hx => ?_)
   ·have hx := hx -- ((decide (r35 < 1)) || (decide (r35 ≥ x47)))
    apply Wq.seq
    refine Wq.rg [4] ?_
    refine .p (.bool false) ?_
    refine .done ⟨[(4, (.bool false))], [(2, .bx (Plain.av g)), (3, .bx (Prod.av pr))], [], false⟩ ?_
    refine Wq.ret ?_
    exact Aq.mk rfl (by
     rw [prodS, show (pr.right.l.all (fun x => !((decide (x < 1)) || (decide (x ≥ (g.kinds.l.length : Int) + (g.rules.l.length : Int)))))) = false from List.all_eq_false.2 ⟨r35, m35, by rw [← e43, ← e46, ← e47, hx]; decide⟩, Bool.false_and, Bool.and_false]; rfl)
   ·have hx := hx -- not ((decide (r35 < 1)) || (decide (r35 ≥ x47)))
    refine Wq.skip ?_
    refine Wq.rg [33, 32, 31, 3, 2] ?_
    obtain ⟨x50, e50⟩ : ∃ x : Int, x = (x33 + 1) := ⟨_, rfl⟩
    refine .pv _ (vi x50) (wrE e50 (by omega) (by omega)) ?_
    refine .p (vi x50) ?_
    refine .done ⟨[(33, (vi x50)), (32, (vi x32)), (31, (Sl.av vi pr.right)), (3, (.ptr ⟨3, []⟩ 0 0)), (2, (.ptr ⟨2, []⟩ 0 0))], [(2, .bx (Plain.av g)), (3, .bx (Prod.av pr))], [], false⟩ ?_
    exact Iq.mk _ (by omega) ⟨x50, rfl, ⟨by omega, by omega, by
     rw [show x50.toNat = x33.toNat + 1 by omega, take_all_succ (a := r35) (by omega) (by rw [e35]; simp [List.getD, show x33.toNat < pr.right.l.length by omega]), hi, Bool.true_and, ← e43, ← e46, ← e47, hx]; rfl⟩, rfl⟩
  ·have hx := of_decide_eq_false hx
   refine Wq.exit ?_ -- 0
   apply Wq.seq
   refine Wq.rg [7, 3] ?_
   refine .e (.ptr ⟨7, []⟩ 0 0) [(2, .bx (Plain.av g)), (3, .bx (Prod.av pr)), (7, .bx (vi 0))] ?_
   refine .sq [(2, .bx (Plain.av g)), (3, .bx (Prod.av pr)), (7, .bx (vi 0))] ?_
   refine .done ⟨[(7, (.ptr ⟨7, []⟩ 0 0)), (3, (.ptr ⟨3, []⟩ 0 0))], [(2, .bx (Plain.av g)), (3, .bx (Prod.av pr)), (7, .bx (vi 0))], [], false⟩ ?_
   apply Wq.seq
   refine Wq.rg [4] ?_
   refine .r (.ptr ⟨3, []⟩ 0 3) ?_
   refine .r (actV pr.act) ?_
   refine .r (.ptr ⟨3, []⟩ 0 1) ?_
   refine .r (Sl.av vi pr.right) ?_
   obtain ⟨x55, e55⟩ : ∃ x : Int, x = (pr.right.l.length : Int) := ⟨_, rfl⟩
   refine .pv _ (vi x55) (ln e55) ?_
   obtain ⟨⟨b', n'⟩, e56⟩ : ∃ r, r = partsS x55 pr.act 0 := ⟨_, rfl⟩
   have hans : Ans cx O 73 [actV pr.act, vi x55, .bx (vi 0)] (.bool b', [.bx (vi n')]) := by
    have := parts_q hO2 (syms := x55) _ pr.act (Nat.lt_succ_self _) hact 0 (by omega) (by omega)
    rw [← e56] at this; exact this
   refine .cl F73 rfl rfl hans (expArgs_cons rfl (expArgs_cons rfl (expArgs_cons rfl rfl rfl) rfl) rfl) rfl rfl (zip_ok rfl rfl) (.bool b') [(2, .bx (Plain.av g)), (3, .bx (Prod.av pr)), (7, .bx (vi n'))] ?_
   refine .p (.bool b') ?_
   refine .done ⟨[(4, (.bool b'))], [(2, .bx (Plain.av g)), (3, .bx (Prod.av pr)), (7, .bx (vi n'))], [], false⟩ ?_
   refine Wq.ret ?_
   exact Aq.mk rfl (by
    have hall : (pr.right.l.all (fun x => !((decide (x < 1)) || (decide (x ≥ (g.kinds.l.length : Int) + (g.rules.l.length : Int)))))) = true := by rwa [List.take_of_length_le (by omega)] at hi
    rw [prodS, hall, ← e16, ← e22, hc, show x22 = x55 by omega, ← e56]; rfl)
theorem gcheck_q (hO : ∀ e ∈ O, e.f ≠ 27) (hO2 : ∀ e ∈ O, e.f ≠ 50) (hO3 : ∀ e ∈ O, e.f ≠ 72) (hO4 : ∀ e ∈ O, e.f ≠ 51) (hO5 : ∀ e ∈ O, e.f ≠ 73) {g : Plain} (hg : GTy g) : Ans cx O 27 [(Plain.av g)] (vi (gcheckS g), []) := by
 obtain ⟨s1, s2, s3, s4⟩ := hg.small
 obtain ⟨x15, e15⟩ : ∃ x, x = kindsS g.kinds := ⟨_, rfl⟩
 refine ans_q [0] (fn := fn27) F27 (orc_none hO) ?_
 show Wq cx O 174384079224203105635710220916204138141183 0 [] _ ⟨[(0, (Plain.av g))], [], [], false⟩ _
 apply Wq.seq
 refine Wq.rg [2, 1] ?_
 refine .e (.ptr ⟨1, []⟩ 0 0) [(1, .bx (Plain.av g))] ?_
 refine .p (vi 0) ?_
 refine .done ⟨[(2, (vi 0)), (1, (.ptr ⟨1, []⟩ 0 0))], [(1, .bx (Plain.av g))], [], false⟩ ?_
 apply Wq.seq
 obtain ⟨x20, e20⟩ : ∃ x : Int, x = (g.precs.l.length : Int) := ⟨_, rfl⟩
 obtain ⟨x23, e23⟩ : ∃ x : Int, x = (g.kinds.l.length : Int) := ⟨_, rfl⟩
 refine Wq.jn (fun s => s = ⟨[(3, (.bool ((x15 == 0) && (x20 == x23)))), (1, (.ptr ⟨1, []⟩ 0 0))], [(1, .bx (Plain.av g))], [], false⟩) ?_ ?_
 ·refine Wq.rg [3, 1] ?_
  refine .r (.ptr ⟨1, []⟩ 0 0) ?_
  refine .r (Sl.av vs g.kinds) ?_
  refine .cl F50 rfl rfl (e15 ▸ kinds_q hO2 hO3 hg.kinds hg.names s1) (expArgs_cons rfl rfl rfl) rfl rfl rfl (vi x15) [(1, .bx (Plain.av g))] ?_
  iterate 2 (refine .p (.bool (x15 == 0)) ?_)
  refine Rq.split (dg := 17) rfl (fun h4 => ?_) (fun h4 => ?_) rfl
  ·refine .r (.ptr ⟨1, []⟩ 0 1) ?_
   refine .r (Sl.av Prec.av g.precs) ?_
   refine .pv _ (vi x20) (ln e20) ?_
   refine .r (.ptr ⟨1, []⟩ 0 0) ?_
   refine .r (Sl.av vs g.kinds) ?_
   refine .pv _ (vi x23) (ln e23) ?_
   refine .p (.bool (x20 == x23)) ?_
   iterate 2 (refine .p (.bool (x20 == x23)) ?_)
   refine .done ⟨[(3, (.bool _)), (1, (.ptr ⟨1, []⟩ 0 0))], [(1, .bx (Plain.av g))], [], false⟩ ?_
   show (⟨[(3, (.bool _)), (1, (.ptr ⟨1, []⟩ 0 0))], [(1, .bx (Plain.av g))], [], false⟩ : St) = _
   simp [h4]
  ·iterate 7 (refine .sk ?_)
   iterate 2 (refine .p (.bool false) ?_)
   refine .done ⟨[(3, (.bool _)), (1, (.ptr ⟨1, []⟩ 0 0))], [(1, .bx (Plain.av g))], [], false⟩ ?_
   show (⟨[(3, (.bool _)), (1, (.ptr ⟨1, []⟩ 0 0))], [(1, .bx (Plain.av g))], [], false⟩ : St) = _
   simp [h4]
 rintro s rfl
 apply Wq.seq
 apply Wq.seq
 refine Wq.rg [29, 28, 27, 3, 1] ?_
 refine .r (.ptr ⟨1, []⟩ 0 1) ?_
 refine .r (Sl.av Prec.av g.precs) ?_
 obtain ⟨x28, e28⟩ : ∃ x : Int, x = (g.precs.l.length : Int) := ⟨_, rfl⟩
 refine .pv _ (vi x28) (ln e28) ?_
 refine .p (vi 0) ?_
 refine .done ⟨[(29, (vi 0)), (28, (vi x28)), (27, (Sl.av Prec.av g.precs)), (3, (.bool ((x15 == 0) && (x20 == x23)))), (1, (.ptr ⟨1, []⟩ 0 0))], [(1, .bx (Plain.av g))], [], false⟩ ?_
 refine Wq.block ?_ -- 0
 refine Wq.lp (fun m s => ∃ (x29 : Int) (x3 : Bool) (H9 : Hp), m = (x28 - x29).toNat ∧ (H9 = [] ∨ ∃ x, H9 = [(5, x)]) ∧ (0 ≤ x29 ∧ x29 ≤ x28 ∧ x3 = (gOk0 g && (List.range x29.toNat).all (fun i => precS (g.precs.l.getD i default) i))) ∧ s = ⟨[(29, (vi x29)), (28, (vi x28)), (27, (Sl.av Prec.av g.precs)), (3, (.bool x3)), (1, (.ptr ⟨1, []⟩ 0 0))], (1, .bx (Plain.av g)) :: H9, [], false⟩) ?_ ⟨0, ((x15 == 0) && (x20 == x23)), [], rfl, .inl rfl, ⟨by omega, by omega, by rw [e15, e20, e23]; simp [gOk0]⟩, rfl⟩
 rintro m s ⟨x29, x3, H9, rfl, hH, ⟨hi0, hi1, hi⟩, rfl⟩
 show Wq _ _ _ _ _ _ ⟨[(29, (vi x29)), (28, (vi x28)), (27, (Sl.av Prec.av g.precs)), (3, (.bool x3)), (1, (.ptr ⟨1, []⟩ 0 0))], (1, .bx (Plain.av g)) :: H9, [], false⟩ _
 apply Wq.seq
 refine Wq.rgK [30, 29, 28, 27, 3, 1] (by rcases hH with rfl | ⟨x, rfl⟩ <;> rfl) ?_
 refine .p (.bool (decide (x29 < x28))) ?_
 refine .fin (S' := ⟨[(30, (.bool (decide (x29 < x28)))), (29, (vi x29)), (28, (vi x28)), (27, (Sl.av Prec.av g.precs)), (3, (.bool x3)), (1, (.ptr ⟨1, []⟩ 0 0))], (1, .bx (Plain.av g)) :: H9, [], false⟩) (by rcases hH with rfl | ⟨x, rfl⟩ <;> rfl) ?_
 apply Wq.seq
 refine Wq.cond rfl (fun hx => ?_) (fun hx => ?_)
 ·have hx := of_decide_eq_true hx
  refine Wq.skip ?_
  apply Wq.seq
  refine Wq.block ?_ -- 1
  apply Wq.seq
  refine Wq.reg [29, 28, 27, 5, 4, 3, 1] (t1 := (30, .bool (decide (x29 < x28))) :: [(29, (vi x29)), (28, (vi x28)), (27, (Sl.av Prec.av g.precs)), (3, (.bool x3)), (1, (.ptr ⟨1, []⟩ 0 0))]) (h1 := [(1, .bx (Plain.av g))]) (d1 := []) (by rcases hH with rfl | ⟨x, rfl⟩ <;> rfl) rfl (by kernel_rfl) (by kernel_rfl) ?_
  refine .p (vi x29) ?_
  obtain ⟨r32, e32⟩ : ∃ x : _, x = (g.precs.l.getD x29.toNat default) := ⟨_, rfl⟩
  have m32 := getD_mem e32 (by omega) (by omega)
  refine .po (fun _ => op_ix e32 (by omega) (by omega) hg.precs) (.fp _ (Prec.av r32) 0) rfl ?_
  refine .p (Prec.av r32) ?_
  refine .e (.ptr ⟨5, []⟩ 0 0) [(1, .bx (Plain.av g)), (5, .bx (.agg [(vi 0), (vi 0)]))] ?_
  refine .p (vi x29) ?_
  refine .sq [(1, .bx (Plain.av g)), (5, .bx (Prec.av r32))] ?_
  refine .done ⟨[(29, (vi x29)), (28, (vi x28)), (27, (Sl.av Prec.av g.precs)), (5, (.ptr ⟨5, []⟩ 0 0)), (4, (vi x29)), (3, (.bool x3)), (1, (.ptr ⟨1, []⟩ 0 0))], [(1, .bx (Plain.av g)), (5, .bx (Prec.av r32))], [], false⟩ ?_
  apply Wq.seq
  refine Wq.rg [29, 28, 27, 6, 5, 4, 3, 1] ?_
  refine .r (Prec.av r32) ?_
  refine .p (.agg [(vi 0), (vi 0)]) ?_
  obtain ⟨x6, e6⟩ : ∃ b, b = (r32.level == 0 && r32.assoc == 0) := ⟨_, rfl⟩
  refine .po (fun _ => op_eql2 (by kernel_rfl) rfl rfl rfl) (.bool x6) (by rw [e6]) ?_
  refine .p (.bool x6) ?_
  refine .done ⟨[(29, (vi x29)), (28, (vi x28)), (27, (Sl.av Prec.av g.precs)), (6, (.bool x6)), (5, (.ptr ⟨5, []⟩ 0 0)), (4, (vi x29)), (3, (.bool x3)), (1, (.ptr ⟨1, []⟩ 0 0))], [(1, .bx (Plain.av g)), (5, .bx (Prec.av r32))], [], false⟩ ?_
  apply Wq.seq
  refine Wq.jn (fun s => s = ⟨[(29, (vi x29)), (28, (vi x28)), (27, (Sl.av Prec.av g.precs)), (7, (.bool ((((decide (r32.level ≥ 1)) && (decide (r32.assoc ≥ 1))) && (decide (r32.assoc ≤ 3))) && (decide (x29 ≥ 2))))), (6, (.bool x6)), (3, (.bool x3)), (1, (.ptr ⟨1, []⟩ 0 0))], [(1, .bx (Plain.av g)), (5, .bx (Prec.av r32))], [], false⟩) ?_ ?_
  ·refine Wq.rg [29, 28, 27, 7, 6, 3, 1] ?_
   refine .r (.ptr ⟨5, []⟩ 0 0) ?_
   refine .r (vi r32.level) ?_
   iterate 2 (refine .p (.bool (decide (r32.level ≥ 1))) ?_)
   refine Rq.split (dg := 40) rfl (fun h3 => ?_) (fun h3 => ?_) rfl
   ·refine .r (.ptr ⟨5, []⟩ 0 1) ?_
    refine .r (vi r32.assoc) ?_
    refine .p (.bool (decide (r32.assoc ≥ 1))) ?_
    iterate 2 (refine .p (.bool (decide (r32.assoc ≥ 1))) ?_)
    refine Rq.split (dg := 45) rfl (fun h8 => ?_) (fun h8 => ?_) rfl
    ·refine .r (.ptr ⟨5, []⟩ 0 1) ?_
     refine .r (vi r32.assoc) ?_
     refine .p (.bool (decide (r32.assoc ≤ 3))) ?_
     iterate 2 (refine .p (.bool (decide (r32.assoc ≤ 3))) ?_)
     refine Rq.split (dg := 50) rfl (fun h13 => ?_) (fun h13 => ?_) rfl
     ·refine .p (vi x29) ?_
      refine .p (.bool (decide (x29 ≥ 2))) ?_
      iterate 2 (refine .p (.bool (decide (x29 ≥ 2))) ?_)
      refine .done ⟨[(29, (vi _)), (28, (vi _)), (27, (Sl.av Prec.av g.precs)), (7, (.bool _)), (6, (.bool x6)), (3, (.bool _)), (1, (.ptr ⟨1, []⟩ 0 0))], [(1, .bx (Plain.av g)), (5, .bx (Prec.av r32))], [], false⟩ ?_
      show (⟨[(29, (vi _)), (28, (vi _)), (27, (Sl.av Prec.av g.precs)), (7, (.bool _)), (6, (.bool x6)), (3, (.bool _)), (1, (.ptr ⟨1, []⟩ 0 0))], [(1, .bx (Plain.av g)), (5, .bx (Prec.av r32))], [], false⟩ : St) = _
      simp [h3, h8, h13]
     ·iterate 2 (refine .sk ?_)
      iterate 2 (refine .p (.bool false) ?_)
      refine .done ⟨[(29, (vi _)), (28, (vi _)), (27, (Sl.av Prec.av g.precs)), (7, (.bool _)), (6, (.bool x6)), (3, (.bool _)), (1, (.ptr ⟨1, []⟩ 0 0))], [(1, .bx (Plain.av g)), (5, .bx (Prec.av r32))], [], false⟩ ?_
      show (⟨[(29, (vi _)), (28, (vi _)), (27, (Sl.av Prec.av g.precs)), (7, (.bool _)), (6, (.bool x6)), (3, (.bool _)), (1, (.ptr ⟨1, []⟩ 0 0))], [(1, .bx (Plain.av g)), (5, .bx (Prec.av r32))], [], false⟩ : St) = _
      simp [h3, h8, h13]
    ·iterate 3 (refine .sk ?_)
     iterate 2 (refine .p (.bool false) ?_)
     iterate 2 (refine .sk ?_)
     iterate 2 (refine .p (.bool false) ?_)
     refine .done ⟨[(29, (vi _)), (28, (vi _)), (27, (Sl.av Prec.av g.precs)), (7, (.bool _)), (6, (.bool x6)), (3, (.bool _)), (1, (.ptr ⟨1, []⟩ 0 0))], [(1, .bx (Plain.av g)), (5, .bx (Prec.av r32))], [], false⟩ ?_
     show (⟨[(29, (vi _)), (28, (vi _)), (27, (Sl.av Prec.av g.precs)), (7, (.bool _)), (6, (.bool x6)), (3, (.bool _)), (1, (.ptr ⟨1, []⟩ 0 0))], [(1, .bx (Plain.av g)), (5, .bx (Prec.av r32))], [], false⟩ : St) = _
     simp [h3, h8]
   ·iterate 3 (refine .sk ?_)
    iterate 2 (refine .p (.bool false) ?_)
    iterate 3 (refine .sk ?_)
    iterate 2 (refine .p (.bool false) ?_)
    iterate 2 (refine .sk ?_)
    iterate 2 (refine .p (.bool false) ?_)
    refine .done ⟨[(29, (vi _)), (28, (vi _)), (27, (Sl.av Prec.av g.precs)), (7, (.bool _)), (6, (.bool x6)), (3, (.bool _)), (1, (.ptr ⟨1, []⟩ 0 0))], [(1, .bx (Plain.av g)), (5, .bx (Prec.av r32))], [], false⟩ ?_
    show (⟨[(29, (vi _)), (28, (vi _)), (27, (Sl.av Prec.av g.precs)), (7, (.bool _)), (6, (.bool x6)), (3, (.bool _)), (1, (.ptr ⟨1, []⟩ 0 0))], [(1, .bx (Plain.av g)), (5, .bx (Prec.av r32))], [], false⟩ : St) = _
    simp [h3]
  rintro s rfl
  refine Wq.jn (fun s => s = ⟨[(29, (vi x29)), (28, (vi x28)), (27, (Sl.av Prec.av g.precs)), (3, (.bool (x3 && (x6 || ((((decide (r32.level ≥ 1)) && (decide (r32.assoc ≥ 1))) && (decide (r32.assoc ≤ 3))) && (decide (x29 ≥ 2))))))), (1, (.ptr ⟨1, []⟩ 0 0))], [(1, .bx (Plain.av g)), (5, .bx (Prec.av r32))], [], false⟩) ?_ ?_
  ·refine Wq.rg [29, 28, 27, 3, 1] ?_
   iterate 2 (refine .p (.bool x3) ?_)
   refine Rq.split (dg := 55) rfl (fun h1 => ?_) (fun h1 => ?_) rfl
   ·refine .p (.bool x6) ?_
    refine .p (.bool x6) ?_
    refine Rq.split (dg := 57) rfl (fun h3 => ?_) (fun h3 => ?_) rfl
    ·refine .sk ?_
     refine .p (.bool true) ?_
     iterate 2 (refine .p (.bool true) ?_)
     refine .done ⟨[(29, (vi _)), (28, (vi _)), (27, (Sl.av Prec.av g.precs)), (3, (.bool _)), (1, (.ptr ⟨1, []⟩ 0 0))], [(1, .bx (Plain.av g)), (5, .bx (Prec.av r32))], [], false⟩ ?_
     show (⟨[(29, (vi _)), (28, (vi _)), (27, (Sl.av Prec.av g.precs)), (3, (.bool _)), (1, (.ptr ⟨1, []⟩ 0 0))], [(1, .bx (Plain.av g)), (5, .bx (Prec.av r32))], [], false⟩ : St) = _
     simp [h1, h3]
    ·refine .p (.bool ((((decide (r32.level ≥ 1)) && (decide (r32.assoc ≥ 1))) && (decide (r32.assoc ≤ 3))) && (decide (x29 ≥ 2)))) ?_
     refine .p (.bool ((((decide (r32.level ≥ 1)) && (decide (r32.assoc ≥ 1))) && (decide (r32.assoc ≤ 3))) && (decide (x29 ≥ 2)))) ?_
     iterate 2 (refine .p (.bool ((((decide (r32.level ≥ 1)) && (decide (r32.assoc ≥ 1))) && (decide (r32.assoc ≤ 3))) && (decide (x29 ≥ 2)))) ?_)
     refine .done ⟨[(29, (vi _)), (28, (vi _)), (27, (Sl.av Prec.av g.precs)), (3, (.bool _)), (1, (.ptr ⟨1, []⟩ 0 0))], [(1, .bx (Plain.av g)), (5, .bx (Prec.av r32))], [], false⟩ ?_
     show (⟨[(29, (vi _)), (28, (vi _)), (27, (Sl.av Prec.av g.precs)), (3, (.bool _)), (1, (.ptr ⟨1, []⟩ 0 0))], [(1, .bx (Plain.av g)), (5, .bx (Prec.av r32))], [], false⟩ : St) = _
     simp [h1, h3]
   ·iterate 4 (refine .sk ?_)
    iterate 2 (refine .p (.bool false) ?_)
    refine .done ⟨[(29, (vi _)), (28, (vi _)), (27, (Sl.av Prec.av g.precs)), (3, (.bool _)), (1, (.ptr ⟨1, []⟩ 0 0))], [(1, .bx (Plain.av g)), (5, .bx (Prec.av r32))], [], false⟩ ?_
    show (⟨[(29, (vi _)), (28, (vi _)), (27, (Sl.av Prec.av g.precs)), (3, (.bool _)), (1, (.ptr ⟨1, []⟩ 0 0))], [(1, .bx (Plain.av g)), (5, .bx (Prec.av r32))], [], false⟩ : St) = _
    simp [h1]
  rintro s rfl
  refine Wq.rg [29, 28, 27, 3, 1] ?_
  obtain ⟨x61, e61⟩ : ∃ x : Int, x = (x29 + 1) := ⟨_, rfl⟩
  refine .pv _ (vi x61) (wrE e61 (by omega) (by omega)) ?_
  refine .p (vi x61) ?_
  refine .done ⟨[(29, (vi x61)), (28, (vi x28)), (27, (Sl.av Prec.av g.precs)), (3, (.bool (x3 && (x6 || ((((decide (r32.level ≥ 1)) && (decide (r32.assoc ≥ 1))) && (decide (r32.assoc ≤ 3))) && (decide (x29 ≥ 2))))))), (1, (.ptr ⟨1, []⟩ 0 0))], [(1, .bx (Plain.av g)), (5, .bx (Prec.av r32))], [], false⟩ ?_
  exact Iq.mk _ (by omega) ⟨x61, (x3 && (x6 || ((((decide (r32.level ≥ 1)) && (decide (r32.assoc ≥ 1))) && (decide (r32.assoc ≤ 3))) && (decide (x29 ≥ 2))))), [(5, .bx (Prec.av r32))], rfl, .inr ⟨_, rfl⟩, ⟨by omega, by omega, by
   rw [hi, e6, show x61.toNat = x29.toNat + 1 by omega, range_all_succ, ← e32, show ((x29.toNat : Nat) : Int) = x29 by omega, ← Bool.and_assoc]; rfl⟩, rfl⟩
 ·have hx := of_decide_eq_false hx
  rcases hH with rfl | ⟨x5, rfl⟩
  ·have hi : x3 = gOk1 g := by rw [hi, gOk1, show x29.toNat = g.precs.l.length by omega]
   refine Wq.exit ?_ -- 0
   apply Wq.seq
   obtain ⟨x66, e66⟩ : ∃ x : Int, x = (g.rules.l.length : Int) := ⟨_, rfl⟩
   obtain ⟨x72, e72⟩ : ∃ x : Int, x = (g.rules.l.length : Int) := ⟨_, rfl⟩
   obtain ⟨x85, e85⟩ : ∃ x : Int, x = (g.rules.l.length : Int) := ⟨_, rfl⟩
   obtain ⟨x91, e91⟩ : ∃ x : Int, x = (g.prods.l.length : Int) := ⟨_, rfl⟩
   refine Wq.jn (fun s => s = ⟨[(3, (.bool (((((x3 && (decide (x66 ≥ 1))) && (decide (x72 ≤ 2048))) && (decide (g.start ≥ 0))) && (decide (g.start < x85))) && (decide (x91 ≤ 4096))))), (1, (.ptr ⟨1, []⟩ 0 0))], [(1, .bx (Plain.av g))], [], false⟩) ?_ ?_
   ·refine Wq.rg [3, 1] ?_
    iterate 2 (refine .p (.bool x3) ?_)
    refine Rq.split (dg := 63) rfl (fun h1 => ?_) (fun h1 => ?_) rfl
    ·refine .r (.ptr ⟨1, []⟩ 0 2) ?_
     refine .r (Sl.av vs g.rules) ?_
     refine .pv _ (vi x66) (ln e66) ?_
     refine .p (.bool (decide (x66 ≥ 1))) ?_
     iterate 2 (refine .p (.bool (decide (x66 ≥ 1))) ?_)
     refine Rq.split (dg := 69) rfl (fun h7 => ?_) (fun h7 => ?_) rfl
     ·refine .r (.ptr ⟨1, []⟩ 0 2) ?_
      refine .r (Sl.av vs g.rules) ?_
      refine .pv _ (vi x72) (ln e72) ?_
      refine .p (.bool (decide (x72 ≤ 2048))) ?_
      iterate 2 (refine .p (.bool (decide (x72 ≤ 2048))) ?_)
      refine Rq.split (dg := 75) rfl (fun h13 => ?_) (fun h13 => ?_) rfl
      ·refine .r (.ptr ⟨1, []⟩ 0 4) ?_
       refine .r (vi g.start) ?_
       refine .p (.bool (decide (g.start ≥ 0))) ?_
       iterate 2 (refine .p (.bool (decide (g.start ≥ 0))) ?_)
       refine Rq.split (dg := 80) rfl (fun h18 => ?_) (fun h18 => ?_) rfl
       ·refine .r (.ptr ⟨1, []⟩ 0 4) ?_
        refine .r (vi g.start) ?_
        refine .r (.ptr ⟨1, []⟩ 0 2) ?_
        refine .r (Sl.av vs g.rules) ?_
        refine .pv _ (vi x85) (ln e85) ?_
        refine .p (.bool (decide (g.start < x85))) ?_
        iterate 2 (refine .p (.bool (decide (g.start < x85))) ?_)
        refine Rq.split (dg := 88) rfl (fun h26 => ?_) (fun h26 => ?_) rfl
        ·refine .r (.ptr ⟨1, []⟩ 0 3) ?_
         refine .r (Sl.av Prod.av g.prods) ?_
         refine .pv _ (vi x91) (ln e91) ?_
         refine .p (.bool (decide (x91 ≤ 4096))) ?_
         iterate 2 (refine .p (.bool (decide (x91 ≤ 4096))) ?_)
         refine .done ⟨[(3, (.bool _)), (1, (.ptr ⟨1, []⟩ 0 0))], [(1, .bx (Plain.av g))], [], false⟩ ?_
         show (⟨[(3, (.bool _)), (1, (.ptr ⟨1, []⟩ 0 0))], [(1, .bx (Plain.av g))], [], false⟩ : St) = _
         simp [h1, h7, h13, h18, h26]
        ·iterate 4 (refine .sk ?_)
         iterate 2 (refine .p (.bool false) ?_)
         refine .done ⟨[(3, (.bool _)), (1, (.ptr ⟨1, []⟩ 0 0))], [(1, .bx (Plain.av g))], [], false⟩ ?_
         show (⟨[(3, (.bool _)), (1, (.ptr ⟨1, []⟩ 0 0))], [(1, .bx (Plain.av g))], [], false⟩ : St) = _
         simp [h1, h7, h13, h18, h26]
       ·iterate 6 (refine .sk ?_)
        iterate 2 (refine .p (.bool false) ?_)
        iterate 4 (refine .sk ?_)
        iterate 2 (refine .p (.bool false) ?_)
        refine .done ⟨[(3, (.bool _)), (1, (.ptr ⟨1, []⟩ 0 0))], [(1, .bx (Plain.av g))], [], false⟩ ?_
        show (⟨[(3, (.bool _)), (1, (.ptr ⟨1, []⟩ 0 0))], [(1, .bx (Plain.av g))], [], false⟩ : St) = _
        simp [h1, h7, h13, h18]
      ·iterate 3 (refine .sk ?_)
       iterate 2 (refine .p (.bool false) ?_)
       iterate 6 (refine .sk ?_)
       iterate 2 (refine .p (.bool false) ?_)
       iterate 4 (refine .sk ?_)
       iterate 2 (refine .p (.bool false) ?_)
       refine .done ⟨[(3, (.bool _)), (1, (.ptr ⟨1, []⟩ 0 0))], [(1, .bx (Plain.av g))], [], false⟩ ?_
       show (⟨[(3, (.bool _)), (1, (.ptr ⟨1, []⟩ 0 0))], [(1, .bx (Plain.av g))], [], false⟩ : St) = _
       simp [h1, h7, h13]
     ·iterate 4 (refine .sk ?_)
      iterate 2 (refine .p (.bool false) ?_)
      iterate 3 (refine .sk ?_)
      iterate 2 (refine .p (.bool false) ?_)
      iterate 6 (refine .sk ?_)
      iterate 2 (refine .p (.bool false) ?_)
      iterate 4 (refine .sk ?_)
      iterate 2 (refine .p (.bool false) ?_)
      refine .done ⟨[(3, (.bool _)), (1, (.ptr ⟨1, []⟩ 0 0))], [(1, .bx (Plain.av g))], [], false⟩ ?_
      show (⟨[(3, (.bool _)), (1, (.ptr ⟨1, []⟩ 0 0))], [(1, .bx (Plain.av g))], [], false⟩ : St) = _
      simp [h1, h7]
    ·iterate 4 (refine .sk ?_)
     iterate 2 (refine .p (.bool false) ?_)
     iterate 4 (refine .sk ?_)
     iterate 2 (refine .p (.bool false) ?_)
     iterate 3 (refine .sk ?_)
     iterate 2 (refine .p (.bool false) ?_)
     iterate 6 (refine .sk ?_)
     iterate 2 (refine .p (.bool false) ?_)
     iterate 4 (refine .sk ?_)
     iterate 2 (refine .p (.bool false) ?_)
     refine .done ⟨[(3, (.bool _)), (1, (.ptr ⟨1, []⟩ 0 0))], [(1, .bx (Plain.av g))], [], false⟩ ?_
     show (⟨[(3, (.bool _)), (1, (.ptr ⟨1, []⟩ 0 0))], [(1, .bx (Plain.av g))], [], false⟩ : St) = _
     simp [h1]
   rintro s rfl
   apply Wq.seq
   refine Wq.rg [8, 3, 1] ?_
   refine .e (.mrf 94) [(1, .bx (Plain.av g)), (94, mset [])] ?_
   refine .p (.mrf 94) ?_
   refine .done ⟨[(8, (.mrf 8)), (3, (.bool (((((x3 && (decide (x66 ≥ 1))) && (decide (x72 ≤ 2048))) && (decide (g.start ≥ 0))) && (decide (g.start < x85))) && (decide (x91 ≤ 4096))))), (1, (.ptr ⟨1, []⟩ 0 0))], [(1, .bx (Plain.av g)), (8, mset [])], [], false⟩ ?_
   apply Wq.seq
   apply Wq.seq
   refine Wq.rg [98, 97, 96, 8, 3, 1] ?_
   refine .r (.ptr ⟨1, []⟩ 0 2) ?_
   refine .r (Sl.av vs g.rules) ?_
   obtain ⟨x97, e97⟩ : ∃ x : Int, x = (g.rules.l.length : Int) := ⟨_, rfl⟩
   refine .pv _ (vi x97) (ln e97) ?_
   refine .p (vi 0) ?_
   refine .done ⟨[(98, (vi 0)), (97, (vi x97)), (96, (Sl.av vs g.rules)), (8, (.mrf 8)), (3, (.bool (((((x3 && (decide (x66 ≥ 1))) && (decide (x72 ≤ 2048))) && (decide (g.start ≥ 0))) && (decide (g.start < x85))) && (decide (x91 ≤ 4096))))), (1, (.ptr ⟨1, []⟩ 0 0))], [(1, .bx (Plain.av g)), (8, mset [])], [], false⟩ ?_
   refine Wq.block ?_ -- 2
   refine Wq.lp (fun m s => ∃ (x98 : Int) (x3 : Bool) (kl : List ByteArray), m = (x97 - x98).toNat ∧ (0 ≤ x98 ∧ x98 ≤ x97 ∧ rulesL kl x3 (g.rules.l.drop x98.toNat) = gOk3 g) ∧ s = ⟨[(98, (vi x98)), (97, (vi x97)), (96, (Sl.av vs g.rules)), (8, (.mrf 8)), (3, (.bool x3)), (1, (.ptr ⟨1, []⟩ 0 0))], [(1, .bx (Plain.av g)), (8, mset kl)], [], false⟩) ?_ ⟨0, (((((x3 && (decide (x66 ≥ 1))) && (decide (x72 ≤ 2048))) && (decide (g.start ≥ 0))) && (decide (g.start < x85))) && (decide (x91 ≤ 4096))), [], rfl, ⟨by omega, by omega, by rw [hi, e66, e72, e85, e91, gOk3]; rfl⟩, rfl⟩
   clear hi
   rintro m s ⟨x98, x3, kl, rfl, ⟨hi0, hi1, hi⟩, rfl⟩
   show Wq _ _ _ _ _ _ ⟨[(98, (vi x98)), (97, (vi x97)), (96, (Sl.av vs g.rules)), (8, (.mrf 8)), (3, (.bool x3)), (1, (.ptr ⟨1, []⟩ 0 0))], [(1, .bx (Plain.av g)), (8, mset kl)], [], false⟩ _
   apply Wq.seq
   refine Wq.rg [99, 98, 97, 96, 8, 3, 1] ?_
   refine .p (.bool (decide (x98 < x97))) ?_
   refine .done ⟨[(99, (.bool (decide (x98 < x97)))), (98, (vi x98)), (97, (vi x97)), (96, (Sl.av vs g.rules)), (8, (.mrf 8)), (3, (.bool x3)), (1, (.ptr ⟨1, []⟩ 0 0))], [(1, .bx (Plain.av g)), (8, mset kl)], [], false⟩ ?_
   apply Wq.seq
   refine Wq.cond rfl (fun hx => ?_) (fun hx => ?_)
   ·have hx := of_decide_eq_true hx
    refine Wq.skip ?_
    apply Wq.seq
    refine Wq.block ?_ -- 3
    apply Wq.seq
    refine Wq.rg [98, 97, 96, 10, 8, 3, 1] ?_
    obtain ⟨r100, e100⟩ : ∃ x : _, x = (g.rules.l.getD x98.toNat default) := ⟨_, rfl⟩
    have m100 := getD_mem e100 (by omega) (by omega)
    refine .po (fun _ => op_ix e100 (by omega) (by omega) hg.rules) (.fp _ (vs r100) 0) rfl ?_
    iterate 2 (refine .p (vs r100) ?_)
    refine .done ⟨[(98, (vi x98)), (97, (vi x97)), (96, (Sl.av vs g.rules)), (10, (vs r100)), (8, (.mrf 8)), (3, (.bool x3)), (1, (.ptr ⟨1, []⟩ 0 0))], [(1, .bx (Plain.av g)), (8, mset kl)], [], false⟩ ?_
    apply Wq.seq
    obtain ⟨x105, e105⟩ : ∃ x : Int, x = (r100.size : Int) := ⟨_, rfl⟩
    obtain ⟨x110, e110⟩ : ∃ x : Int, x = (r100.size : Int) := ⟨_, rfl⟩
    refine Wq.jn (fun s => s = ⟨[(98, (vi x98)), (97, (vi x97)), (96, (Sl.av vs g.rules)), (10, (vs r100)), (8, (.mrf 8)), (3, (.bool (((x3 && (decide (x105 ≥ 1))) && (decide (x110 ≤ 4096))) && (!(hasK kl r100))))), (1, (.ptr ⟨1, []⟩ 0 0))], [(1, .bx (Plain.av g)), (8, mset kl)], [], false⟩) ?_ ?_
    ·refine Wq.rg [98, 97, 96, 10, 8, 3, 1] ?_
     iterate 2 (refine .p (.bool x3) ?_)
     refine Rq.split (dg := 103) rfl (fun h1 => ?_) (fun h1 => ?_) rfl
     ·refine .p (vs r100) ?_
      refine .pv _ (vi x105) (by rw [e105]) ?_
      refine .p (.bool (decide (x105 ≥ 1))) ?_
      iterate 2 (refine .p (.bool (decide (x105 ≥ 1))) ?_)
      refine Rq.split (dg := 108) rfl (fun h6 => ?_) (fun h6 => ?_) rfl
      ·refine .p (vs r100) ?_
       refine .pv _ (vi x110) (by rw [e110]) ?_
       refine .p (.bool (decide (x110 ≤ 4096))) ?_
       iterate 2 (refine .p (.bool (decide (x110 ≤ 4096))) ?_)
       refine Rq.split (dg := 113) rfl (fun h11 => ?_) (fun h11 => ?_) rfl
       ·refine .p (.mrf 8) ?_
        refine .p (vs r100) ?_
        refine .ro (fun _ => op_lkS rfl rfl rfl rfl rfl rfl rfl rfl) (.bool (hasK kl r100)) rfl ?_
        refine .p (.bool (!(hasK kl r100))) ?_
        iterate 2 (refine .p (.bool (!(hasK kl r100))) ?_)
        refine .done ⟨[(98, (vi _)), (97, (vi _)), (96, (Sl.av vs g.rules)), (10, (vs r100)), (8, (.mrf 8)), (3, (.bool _)), (1, (.ptr ⟨1, []⟩ 0 0))], [(1, .bx (Plain.av g)), (8, mset kl)], [], false⟩ ?_
        show (⟨[(98, (vi _)), (97, (vi _)), (96, (Sl.av vs g.rules)), (10, (vs r100)), (8, (.mrf 8)), (3, (.bool _)), (1, (.ptr ⟨1, []⟩ 0 0))], [(1, .bx (Plain.av g)), (8, mset kl)], [], false⟩ : St) = _
        simp [h1, h6, h11]
       ·iterate 4 (refine .sk ?_)
        iterate 2 (refine .p (.bool false) ?_)
        refine .done ⟨[(98, (vi _)), (97, (vi _)), (96, (Sl.av vs g.rules)), (10, (vs r100)), (8, (.mrf 8)), (3, (.bool _)), (1, (.ptr ⟨1, []⟩ 0 0))], [(1, .bx (Plain.av g)), (8, mset kl)], [], false⟩ ?_
        show (⟨[(98, (vi _)), (97, (vi _)), (96, (Sl.av vs g.rules)), (10, (vs r100)), (8, (.mrf 8)), (3, (.bool _)), (1, (.ptr ⟨1, []⟩ 0 0))], [(1, .bx (Plain.av g)), (8, mset kl)], [], false⟩ : St) = _
        simp [h1, h6, h11]
      ·iterate 3 (refine .sk ?_)
       iterate 2 (refine .p (.bool false) ?_)
       iterate 4 (refine .sk ?_)
       iterate 2 (refine .p (.bool false) ?_)
       refine .done ⟨[(98, (vi _)), (97, (vi _)), (96, (Sl.av vs g.rules)), (10, (vs r100)), (8, (.mrf 8)), (3, (.bool _)), (1, (.ptr ⟨1, []⟩ 0 0))], [(1, .bx (Plain.av g)), (8, mset kl)], [], false⟩ ?_
       show (⟨[(98, (vi _)), (97, (vi _)), (96, (Sl.av vs g.rules)), (10, (vs r100)), (8, (.mrf 8)), (3, (.bool _)), (1, (.ptr ⟨1, []⟩ 0 0))], [(1, .bx (Plain.av g)), (8, mset kl)], [], false⟩ : St) = _
       simp [h1, h6]
     ·iterate 3 (refine .sk ?_)
      iterate 2 (refine .p (.bool false) ?_)
      iterate 3 (refine .sk ?_)
      iterate 2 (refine .p (.bool false) ?_)
      iterate 4 (refine .sk ?_)
      iterate 2 (refine .p (.bool false) ?_)
      refine .done ⟨[(98, (vi _)), (97, (vi _)), (96, (Sl.av vs g.rules)), (10, (vs r100)), (8, (.mrf 8)), (3, (.bool _)), (1, (.ptr ⟨1, []⟩ 0 0))], [(1, .bx (Plain.av g)), (8, mset kl)], [], false⟩ ?_
      show (⟨[(98, (vi _)), (97, (vi _)), (96, (Sl.av vs g.rules)), (10, (vs r100)), (8, (.mrf 8)), (3, (.bool _)), (1, (.ptr ⟨1, []⟩ 0 0))], [(1, .bx (Plain.av g)), (8, mset kl)], [], false⟩ : St) = _
      simp [h1]
    rintro s rfl
    refine Wq.rg [98, 97, 96, 8, 3, 1] ?_
    refine .p (.mrf 8) ?_
    refine .p (vs r100) ?_
    refine .so (fun _ => op_muS rfl rfl rfl rfl rfl rfl rfl) [(1, .bx (Plain.av g)), (8, mset (kput kl r100))] rfl ?_
    refine .done ⟨[(98, (vi x98)), (97, (vi x97)), (96, (Sl.av vs g.rules)), (8, (.mrf 8)), (3, (.bool (((x3 && (decide (x105 ≥ 1))) && (decide (x110 ≤ 4096))) && (!(hasK kl r100))))), (1, (.ptr ⟨1, []⟩ 0 0))], [(1, .bx (Plain.av g)), (8, mset (kput kl r100))], [], false⟩ ?_
    refine Wq.rg [98, 97, 96, 8, 3, 1] ?_
    obtain ⟨x121, e121⟩ : ∃ x : Int, x = (x98 + 1) := ⟨_, rfl⟩
    refine .pv _ (vi x121) (wrE e121 (by omega) (by omega)) ?_
    refine .p (vi x121) ?_
    refine .done ⟨[(98, (vi x121)), (97, (vi x97)), (96, (Sl.av vs g.rules)), (8, (.mrf 8)), (3, (.bool (((x3 && (decide (x105 ≥ 1))) && (decide (x110 ≤ 4096))) && (!(hasK kl r100))))), (1, (.ptr ⟨1, []⟩ 0 0))], [(1, .bx (Plain.av g)), (8, mset (kput kl r100))], [], false⟩ ?_
    exact Iq.mk _ (by omega) ⟨x121, (((x3 && (decide (x105 ≥ 1))) && (decide (x110 ≤ 4096))) && (!(hasK kl r100))), kput kl r100, rfl, ⟨by omega, by omega, by
     rw [show g.rules.l.drop x98.toNat = r100 :: g.rules.l.drop (x98.toNat + 1) by
      rw [List.drop_eq_getElem_cons (by omega)]; congr 1
      rw [e100]; simp [List.getD, show x98.toNat < g.rules.l.length by omega], rulesL, ← e110] at hi
     rw [show x121.toNat = x98.toNat + 1 by omega, show x105 = x110 by omega]; exact hi⟩, rfl⟩
   ·have hx := of_decide_eq_false hx
    have hi3 : x3 = gOk3 g := by rw [← hi, List.drop_of_length_le (by omega), rulesL]
    refine Wq.exit ?_ -- 2
    apply Wq.seq
    apply Wq.seq
    refine Wq.rg [125, 124, 123, 3, 1] ?_
    refine .r (.ptr ⟨1, []⟩ 0 3) ?_
    refine .r (Sl.av Prod.av g.prods) ?_
    obtain ⟨x124, e124⟩ : ∃ x : Int, x = (g.prods.l.length : Int) := ⟨_, rfl⟩
    refine .pv _ (vi x124) (ln e124) ?_
    refine .p (vi 0) ?_
    refine .done ⟨[(125, (vi 0)), (124, (vi x124)), (123, (Sl.av Prod.av g.prods)), (3, (.bool x3)), (1, (.ptr ⟨1, []⟩ 0 0))], [(1, .bx (Plain.av g)), (8, mset kl)], [], false⟩ ?_
    refine Wq.block ?_ -- 4
    refine Wq.lp (fun m s => ∃ (x125 : Int) (x3 : Bool) (H9 : Hp), m = (x124 - x125).toNat ∧ (H9 = [] ∨ ∃ x, H9 = [(12, x)]) ∧ (0 ≤ x125 ∧ x125 ≤ x124 ∧ x3 = (gOk3 g && (g.prods.l.take x125.toNat).all (prodS g))) ∧ s = ⟨[(125, (vi x125)), (124, (vi x124)), (123, (Sl.av Prod.av g.prods)), (3, (.bool x3)), (1, (.ptr ⟨1, []⟩ 0 0))], (1, .bx (Plain.av g)) :: (8, mset kl) :: H9, [], false⟩) ?_ ⟨0, x3, [], rfl, .inl rfl, ⟨by omega, by omega, by rw [hi3]; simp⟩, rfl⟩
    clear hi3 hi
    rintro m s ⟨x125, x3, H9, rfl, hH, ⟨hi0, hi1, hi⟩, rfl⟩
    show Wq _ _ _ _ _ _ ⟨[(125, (vi x125)), (124, (vi x124)), (123, (Sl.av Prod.av g.prods)), (3, (.bool x3)), (1, (.ptr ⟨1, []⟩ 0 0))], (1, .bx (Plain.av g)) :: (8, mset kl) :: H9, [], false⟩ _
    apply Wq.seq
    refine Wq.rgK [126, 125, 124, 123, 3, 1] (by rcases hH with rfl | ⟨x, rfl⟩ <;> rfl) ?_
    refine .p (.bool (decide (x125 < x124))) ?_
    refine .fin (S' := ⟨[(126, (.bool (decide (x125 < x124)))), (125, (vi x125)), (124, (vi x124)), (123, (Sl.av Prod.av g.prods)), (3, (.bool x3)), (1, (.ptr ⟨1, []⟩ 0 0))], (1, .bx (Plain.av g)) :: (8, mset kl) :: H9, [], false⟩) (by rcases hH with rfl | ⟨x, rfl⟩ <;> rfl) ?_
    apply Wq.seq
    refine Wq.cond rfl (fun hx => ?_) (fun hx => ?_)
    ·have hx := of_decide_eq_true hx
     refine Wq.skip ?_
     apply Wq.seq
     refine Wq.block ?_ -- 5
     apply Wq.seq
     refine Wq.reg [125, 124, 123, 12, 3, 1] (t1 := (126, .bool (decide (x125 < x124))) :: [(125, (vi x125)), (124, (vi x124)), (123, (Sl.av Prod.av g.prods)), (3, (.bool x3)), (1, (.ptr ⟨1, []⟩ 0 0))]) (h1 := [(1, .bx (Plain.av g)), (8, mset kl)]) (d1 := []) (by rcases hH with rfl | ⟨x, rfl⟩ <;> rfl) rfl (by kernel_rfl) (by kernel_rfl) ?_
     obtain ⟨r127, e127⟩ : ∃ x : _, x = (g.prods.l.getD x125.toNat default) := ⟨_, rfl⟩
     have m127 := getD_mem e127 (by omega) (by omega)
     refine .po (fun _ => op_ix e127 (by omega) (by omega) hg.prods) (.fp _ (Prod.av r127) 0) rfl ?_
     refine .p (Prod.av r127) ?_
     refine .e (.ptr ⟨12, []⟩ 0 0) [(1, .bx (Plain.av g)), (8, mset kl), (12, .bx (.agg [(vi 0), (.fz 1 0 []), (vi 0), (vi 0), (vi 0), (vs ByteArray.empty), (.fz 1 0 [])]))] ?_
     refine .sq [(1, .bx (Plain.av g)), (8, mset kl), (12, .bx (Prod.av r127))] ?_
     refine .done ⟨[(125, (vi x125)), (124, (vi x124)), (123, (Sl.av Prod.av g.prods)), (12, (.ptr ⟨12, []⟩ 0 0)), (3, (.bool x3)), (1, (.ptr ⟨1, []⟩ 0 0))], [(1, .bx (Plain.av g)), (8, mset kl), (12, .bx (Prod.av r127))], [], false⟩ ?_
     obtain ⟨x133, e133⟩ : ∃ b, b = prodS g r127 := ⟨_, rfl⟩
     refine Wq.jn (fun s => s = ⟨[(125, (vi x125)), (124, (vi x124)), (123, (Sl.av Prod.av g.prods)), (3, (.bool (x3 && x133))), (1, (.ptr ⟨1, []⟩ 0 0))], [(1, .bx (Plain.av g)), (8, mset kl), (12, .bx (Prod.av r127))], [], false⟩) ?_ ?_
     ·refine Wq.rg [125, 124, 123, 3, 1] ?_
      iterate 2 (refine .p (.bool x3) ?_)
      refine Rq.split (dg := 130) rfl (fun h1 => ?_) (fun h1 => ?_) rfl
      ·refine .r (Plain.av g) ?_
       refine .r (Prod.av r127) ?_
       refine .cl F51 rfl rfl (e133 ▸ prod_q hO4 hO5 (hg.right _ m127).1 (hg.right _ m127).2.1 (hg.right _ m127).2.2 s1 s3) (expArgs_cons rfl (expArgs_cons rfl rfl rfl) rfl) rfl rfl rfl (.bool x133) [(1, .bx (Plain.av g)), (8, mset kl), (12, .bx (Prod.av r127))] ?_
       iterate 2 (refine .p (.bool x133) ?_)
       refine .done ⟨[(125, (vi _)), (124, (vi _)), (123, (Sl.av Prod.av g.prods)), (3, (.bool _)), (1, (.ptr ⟨1, []⟩ 0 0))], [(1, .bx (Plain.av g)), (8, mset kl), (12, .bx (Prod.av r127))], [], false⟩ ?_
       show (⟨[(125, (vi _)), (124, (vi _)), (123, (Sl.av Prod.av g.prods)), (3, (.bool _)), (1, (.ptr ⟨1, []⟩ 0 0))], [(1, .bx (Plain.av g)), (8, mset kl), (12, .bx (Prod.av r127))], [], false⟩ : St) = _
       simp [h1]
      ·iterate 3 (refine .sk ?_)
       iterate 2 (refine .p (.bool false) ?_)
       refine .done ⟨[(125, (vi _)), (124, (vi _)), (123, (Sl.av Prod.av g.prods)), (3, (.bool _)), (1, (.ptr ⟨1, []⟩ 0 0))], [(1, .bx (Plain.av g)), (8, mset kl), (12, .bx (Prod.av r127))], [], false⟩ ?_
       show (⟨[(125, (vi _)), (124, (vi _)), (123, (Sl.av Prod.av g.prods)), (3, (.bool _)), (1, (.ptr ⟨1, []⟩ 0 0))], [(1, .bx (Plain.av g)), (8, mset kl), (12, .bx (Prod.av r127))], [], false⟩ : St) = _
       simp [h1]
     rintro s rfl
     refine Wq.rg [125, 124, 123, 3, 1] ?_
     obtain ⟨x135, e135⟩ : ∃ x : Int, x = (x125 + 1) := ⟨_, rfl⟩
     refine .pv _ (vi x135) (wrE e135 (by omega) (by omega)) ?_
     refine .p (vi x135) ?_
     refine .done ⟨[(125, (vi x135)), (124, (vi x124)), (123, (Sl.av Prod.av g.prods)), (3, (.bool (x3 && x133))), (1, (.ptr ⟨1, []⟩ 0 0))], [(1, .bx (Plain.av g)), (8, mset kl), (12, .bx (Prod.av r127))], [], false⟩ ?_
     exact Iq.mk _ (by omega) ⟨x135, (x3 && x133), [(12, .bx (Prod.av r127))], rfl, .inr ⟨_, rfl⟩, ⟨by omega, by omega, by
      rw [hi, e133, show x135.toNat = x125.toNat + 1 by omega, take_all_succ (a := r127) (by omega) (by rw [e127]; simp [List.getD, show x125.toNat < g.prods.l.length by omega]), Bool.and_assoc]⟩, rfl⟩
    ·have hx := of_decide_eq_false hx
     have hi4 : x3 = gOk g := by rw [hi, List.take_of_length_le (by omega)]; rfl
     refine Wq.exit ?_ -- 4
     apply Wq.seq
     apply Wq.seq
     refine Wq.rgK [137] (by rcases hH with rfl | ⟨x, rfl⟩ <;> rfl) ?_
     refine .p (.bool x3) ?_
     refine .p (.bool (!x3)) ?_
     refine .fin (S' := ⟨[(137, (.bool (!x3)))], (1, .bx (Plain.av g)) :: (8, mset kl) :: H9, [], false⟩) (by rcases hH with rfl | ⟨x, rfl⟩ <;> rfl) ?_
     refine Wq.cond rfl (fun hx => ?_) (fun hx => ?_)
     ·have hx := hx -- (!x3)
      apply Wq.seq
      refine Wq.rgK [2] (by rcases hH with rfl | ⟨x, rfl⟩ <;> rfl) ?_
      refine .p (vi 130) ?_
      refine .fin (S' := ⟨[(2, (vi 130))], (1, .bx (Plain.av g)) :: (8, mset kl) :: H9, [], false⟩) (by rcases hH with rfl | ⟨x, rfl⟩ <;> rfl) ?_
      refine Wq.ret ?_
      exact Aq.mk rfl (by rw [gcheckS, if_neg (by rw [← hi4]; simpa using hx)]; rfl)
     ·have hx := hx -- not (!x3)
      refine Wq.skip ?_
      apply Wq.seq
      refine Wq.rgK [2] (by rcases hH with rfl | ⟨x, rfl⟩ <;> rfl) ?_
      refine .p (vi 0) ?_
      refine .fin (S' := ⟨[(2, (vi 0))], (1, .bx (Plain.av g)) :: (8, mset kl) :: H9, [], false⟩) (by rcases hH with rfl | ⟨x, rfl⟩ <;> rfl) ?_
      refine Wq.ret ?_
      exact Aq.mk rfl (by rw [gcheckS, if_pos (by rw [← hi4]; simpa using hx)]; rfl)
  ·have hi : x3 = gOk1 g := by rw [hi, gOk1, show x29.toNat = g.precs.l.length by omega]
   refine Wq.exit ?_ -- 0
   apply Wq.seq
   obtain ⟨x66, e66⟩ : ∃ x : Int, x = (g.rules.l.length : Int) := ⟨_, rfl⟩
   obtain ⟨x72, e72⟩ : ∃ x : Int, x = (g.rules.l.length : Int) := ⟨_, rfl⟩
   obtain ⟨x85, e85⟩ : ∃ x : Int, x = (g.rules.l.length : Int) := ⟨_, rfl⟩
   obtain ⟨x91, e91⟩ : ∃ x : Int, x = (g.prods.l.length : Int) := ⟨_, rfl⟩
   refine Wq.jn (fun s => s = ⟨[(3, (.bool (((((x3 && (decide (x66 ≥ 1))) && (decide (x72 ≤ 2048))) && (decide (g.start ≥ 0))) && (decide (g.start < x85))) && (decide (x91 ≤ 4096))))), (1, (.ptr ⟨1, []⟩ 0 0))], [(1, .bx (Plain.av g)), (5, x5)], [], false⟩) ?_ ?_
   ·refine Wq.rg [3, 1] ?_
    iterate 2 (refine .p (.bool x3) ?_)
    refine Rq.split (dg := 63) rfl (fun h1 => ?_) (fun h1 => ?_) rfl
    ·refine .r (.ptr ⟨1, []⟩ 0 2) ?_
     refine .r (Sl.av vs g.rules) ?_
     refine .pv _ (vi x66) (ln e66) ?_
     refine .p (.bool (decide (x66 ≥ 1))) ?_
     iterate 2 (refine .p (.bool (decide (x66 ≥ 1))) ?_)
     refine Rq.split (dg := 69) rfl (fun h7 => ?_) (fun h7 => ?_) rfl
     ·refine .r (.ptr ⟨1, []⟩ 0 2) ?_
      refine .r (Sl.av vs g.rules) ?_
      refine .pv _ (vi x72) (ln e72) ?_
      refine .p (.bool (decide (x72 ≤ 2048))) ?_
      iterate 2 (refine .p (.bool (decide (x72 ≤ 2048))) ?_)
      refine Rq.split (dg := 75) rfl (fun h13 => ?_) (fun h13 => ?_) rfl
      ·refine .r (.ptr ⟨1, []⟩ 0 4) ?_
       refine .r (vi g.start) ?_
       refine .p (.bool (decide (g.start ≥ 0))) ?_
       iterate 2 (refine .p (.bool (decide (g.start ≥ 0))) ?_)
       refine Rq.split (dg := 80) rfl (fun h18 => ?_) (fun h18 => ?_) rfl
       ·refine .r (.ptr ⟨1, []⟩ 0 4) ?_
        refine .r (vi g.start) ?_
        refine .r (.ptr ⟨1, []⟩ 0 2) ?_
        refine .r (Sl.av vs g.rules) ?_
        refine .pv _ (vi x85) (ln e85) ?_
        refine .p (.bool (decide (g.start < x85))) ?_
        iterate 2 (refine .p (.bool (decide (g.start < x85))) ?_)
        refine Rq.split (dg := 88) rfl (fun h26 => ?_) (fun h26 => ?_) rfl
        ·refine .r (.ptr ⟨1, []⟩ 0 3) ?_
         refine .r (Sl.av Prod.av g.prods) ?_
         refine .pv _ (vi x91) (ln e91) ?_
         refine .p (.bool (decide (x91 ≤ 4096))) ?_
         iterate 2 (refine .p (.bool (decide (x91 ≤ 4096))) ?_)
         refine .done ⟨[(3, (.bool _)), (1, (.ptr ⟨1, []⟩ 0 0))], [(1, .bx (Plain.av g)), (5, x5)], [], false⟩ ?_
         show (⟨[(3, (.bool _)), (1, (.ptr ⟨1, []⟩ 0 0))], [(1, .bx (Plain.av g)), (5, x5)], [], false⟩ : St) = _
         simp [h1, h7, h13, h18, h26]
        ·iterate 4 (refine .sk ?_)
         iterate 2 (refine .p (.bool false) ?_)
         refine .done ⟨[(3, (.bool _)), (1, (.ptr ⟨1, []⟩ 0 0))], [(1, .bx (Plain.av g)), (5, x5)], [], false⟩ ?_
         show (⟨[(3, (.bool _)), (1, (.ptr ⟨1, []⟩ 0 0))], [(1, .bx (Plain.av g)), (5, x5)], [], false⟩ : St) = _
         simp [h1, h7, h13, h18, h26]
       ·iterate 6 (refine .sk ?_)
        iterate 2 (refine .p (.bool false) ?_)
        iterate 4 (refine .sk ?_)
        iterate 2 (refine .p (.bool false) ?_)
        refine .done ⟨[(3, (.bool _)), (1, (.ptr ⟨1, []⟩ 0 0))], [(1, .bx (Plain.av g)), (5, x5)], [], false⟩ ?_
        show (⟨[(3, (.bool _)), (1, (.ptr ⟨1, []⟩ 0 0))], [(1, .bx (Plain.av g)), (5, x5)], [], false⟩ : St) = _
        simp [h1, h7, h13, h18]
      ·iterate 3 (refine .sk ?_)
       iterate 2 (refine .p (.bool false) ?_)
       iterate 6 (refine .sk ?_)
       iterate 2 (refine .p (.bool false) ?_)
       iterate 4 (refine .sk ?_)
       iterate 2 (refine .p (.bool false) ?_)
       refine .done ⟨[(3, (.bool _)), (1, (.ptr ⟨1, []⟩ 0 0))], [(1, .bx (Plain.av g)), (5, x5)], [], false⟩ ?_
       show (⟨[(3, (.bool _)), (1, (.ptr ⟨1, []⟩ 0 0))], [(1, .bx (Plain.av g)), (5, x5)], [], false⟩ : St) = _
       simp [h1, h7, h13]
     ·iterate 4 (refine .sk ?_)
      iterate 2 (refine .p (.bool false) ?_)
      iterate 3 (refine .sk ?_)
      iterate 2 (refine .p (.bool false) ?_)
      iterate 6 (refine .sk ?_)
      iterate 2 (refine .p (.bool false) ?_)
      iterate 4 (refine .sk ?_)
      iterate 2 (refine .p (.bool false) ?_)
      refine .done ⟨[(3, (.bool _)), (1, (.ptr ⟨1, []⟩ 0 0))], [(1, .bx (Plain.av g)), (5, x5)], [], false⟩ ?_
      show (⟨[(3, (.bool _)), (1, (.ptr ⟨1, []⟩ 0 0))], [(1, .bx (Plain.av g)), (5, x5)], [], false⟩ : St) = _
      simp [h1, h7]
    ·iterate 4 (refine .sk ?_)
     iterate 2 (refine .p (.bool false) ?_)
     iterate 4 (refine .sk ?_)
     iterate 2 (refine .p (.bool false) ?_)
     iterate 3 (refine .sk ?_)
     iterate 2 (refine .p (.bool false) ?_)
     iterate 6 (refine .sk ?_)
     iterate 2 (refine .p (.bool false) ?_)
     iterate 4 (refine .sk ?_)
     iterate 2 (refine .p (.bool false) ?_)
     refine .done ⟨[(3, (.bool _)), (1, (.ptr ⟨1, []⟩ 0 0))], [(1, .bx (Plain.av g)), (5, x5)], [], false⟩ ?_
     show (⟨[(3, (.bool _)), (1, (.ptr ⟨1, []⟩ 0 0))], [(1, .bx (Plain.av g)), (5, x5)], [], false⟩ : St) = _
     simp [h1]
   rintro s rfl
   apply Wq.seq
   refine Wq.rg [8, 3, 1] ?_
   refine .e (.mrf 94) [(1, .bx (Plain.av g)), (5, x5), (94, mset [])] ?_
   refine .p (.mrf 94) ?_
   refine .done ⟨[(8, (.mrf 8)), (3, (.bool (((((x3 && (decide (x66 ≥ 1))) && (decide (x72 ≤ 2048))) && (decide (g.start ≥ 0))) && (decide (g.start < x85))) && (decide (x91 ≤ 4096))))), (1, (.ptr ⟨1, []⟩ 0 0))], [(1, .bx (Plain.av g)), (5, x5), (8, mset [])], [], false⟩ ?_
   apply Wq.seq
   apply Wq.seq
   refine Wq.rg [98, 97, 96, 8, 3, 1] ?_
   refine .r (.ptr ⟨1, []⟩ 0 2) ?_
   refine .r (Sl.av vs g.rules) ?_
   obtain ⟨x97, e97⟩ : ∃ x : Int, x = (g.rules.l.length : Int) := ⟨_, rfl⟩
   refine .pv _ (vi x97) (ln e97) ?_
   refine .p (vi 0) ?_
   refine .done ⟨[(98, (vi 0)), (97, (vi x97)), (96, (Sl.av vs g.rules)), (8, (.mrf 8)), (3, (.bool (((((x3 && (decide (x66 ≥ 1))) && (decide (x72 ≤ 2048))) && (decide (g.start ≥ 0))) && (decide (g.start < x85))) && (decide (x91 ≤ 4096))))), (1, (.ptr ⟨1, []⟩ 0 0))], [(1, .bx (Plain.av g)), (5, x5), (8, mset [])], [], false⟩ ?_
   refine Wq.block ?_ -- 2
   refine Wq.lp (fun m s => ∃ (x98 : Int) (x3 : Bool) (kl : List ByteArray), m = (x97 - x98).toNat ∧ (0 ≤ x98 ∧ x98 ≤ x97 ∧ rulesL kl x3 (g.rules.l.drop x98.toNat) = gOk3 g) ∧ s = ⟨[(98, (vi x98)), (97, (vi x97)), (96, (Sl.av vs g.rules)), (8, (.mrf 8)), (3, (.bool x3)), (1, (.ptr ⟨1, []⟩ 0 0))], [(1, .bx (Plain.av g)), (5, x5), (8, mset kl)], [], false⟩) ?_ ⟨0, (((((x3 && (decide (x66 ≥ 1))) && (decide (x72 ≤ 2048))) && (decide (g.start ≥ 0))) && (decide (g.start < x85))) && (decide (x91 ≤ 4096))), [], rfl, ⟨by omega, by omega, by rw [hi, e66, e72, e85, e91, gOk3]; rfl⟩, rfl⟩
   clear hi
   rintro m s ⟨x98, x3, kl, rfl, ⟨hi0, hi1, hi⟩, rfl⟩
   show Wq _ _ _ _ _ _ ⟨[(98, (vi x98)), (97, (vi x97)), (96, (Sl.av vs g.rules)), (8, (.mrf 8)), (3, (.bool x3)), (1, (.ptr ⟨1, []⟩ 0 0))], [(1, .bx (Plain.av g)), (5, x5), (8, mset kl)], [], false⟩ _
   apply Wq.seq
   refine Wq.rg [99, 98, 97, 96, 8, 3, 1] ?_
   refine .p (.bool (decide (x98 < x97))) ?_
   refine .done ⟨[(99, (.bool (decide (x98 < x97)))), (98, (vi x98)), (97, (vi x97)), (96, (Sl.av vs g.rules)), (8, (.mrf 8)), (3, (.bool x3)), (1, (.ptr ⟨1, []⟩ 0 0))], [(1, .bx (Plain.av g)), (5, x5), (8, mset kl)], [], false⟩ ?_
   apply Wq.seq
   refine Wq.cond rfl (fun hx => ?_) (fun hx => ?_)
   ·have hx := of_decide_eq_true hx
    refine Wq.skip ?_
    apply Wq.seq
    refine Wq.block ?_ -- 3
    apply Wq.seq
    refine Wq.rg [98, 97, 96, 10, 8, 3, 1] ?_
    obtain ⟨r100, e100⟩ : ∃ x : _, x = (g.rules.l.getD x98.toNat default) := ⟨_, rfl⟩
    have m100 := getD_mem e100 (by omega) (by omega)
    refine .po (fun _ => op_ix e100 (by omega) (by omega) hg.rules) (.fp _ (vs r100) 0) rfl ?_
    iterate 2 (refine .p (vs r100) ?_)
    refine .done ⟨[(98, (vi x98)), (97, (vi x97)), (96, (Sl.av vs g.rules)), (10, (vs r100)), (8, (.mrf 8)), (3, (.bool x3)), (1, (.ptr ⟨1, []⟩ 0 0))], [(1, .bx (Plain.av g)), (5, x5), (8, mset kl)], [], false⟩ ?_
    apply Wq.seq
    obtain ⟨x105, e105⟩ : ∃ x : Int, x = (r100.size : Int) := ⟨_, rfl⟩
    obtain ⟨x110, e110⟩ : ∃ x : Int, x = (r100.size : Int) := ⟨_, rfl⟩
    refine Wq.jn (fun s => s = ⟨[(98, (vi x98)), (97, (vi x97)), (96, (Sl.av vs g.rules)), (10, (vs r100)), (8, (.mrf 8)), (3, (.bool (((x3 && (decide (x105 ≥ 1))) && (decide (x110 ≤ 4096))) && (!(hasK kl r100))))), (1, (.ptr ⟨1, []⟩ 0 0))], [(1, .bx (Plain.av g)), (5, x5), (8, mset kl)], [], false⟩) ?_ ?_
    ·refine Wq.rg [98, 97, 96, 10, 8, 3, 1] ?_
     iterate 2 (refine .p (.bool x3) ?_)
     refine Rq.split (dg := 103) rfl (fun h1 => ?_) (fun h1 => ?_) rfl
     ·refine .p (vs r100) ?_
      refine .pv _ (vi x105) (by rw [e105]) ?_
      refine .p (.bool (decide (x105 ≥ 1))) ?_
      iterate 2 (refine .p (.bool (decide (x105 ≥ 1))) ?_)
      refine Rq.split (dg := 108) rfl (fun h6 => ?_) (fun h6 => ?_) rfl
      ·refine .p (vs r100) ?_
       refine .pv _ (vi x110) (by rw [e110]) ?_
       refine .p (.bool (decide (x110 ≤ 4096))) ?_
       iterate 2 (refine .p (.bool (decide (x110 ≤ 4096))) ?_)
       refine Rq.split (dg := 113) rfl (fun h11 => ?_) (fun h11 => ?_) rfl
       ·refine .p (.mrf 8) ?_
        refine .p (vs r100) ?_
        refine .ro (fun _ => op_lkS rfl rfl rfl rfl rfl rfl rfl rfl) (.bool (hasK kl r100)) rfl ?_
        refine .p (.bool (!(hasK kl r100))) ?_
        iterate 2 (refine .p (.bool (!(hasK kl r100))) ?_)
        refine .done ⟨[(98, (vi _)), (97, (vi _)), (96, (Sl.av vs g.rules)), (10, (vs r100)), (8, (.mrf 8)), (3, (.bool _)), (1, (.ptr ⟨1, []⟩ 0 0))], [(1, .bx (Plain.av g)), (5, x5), (8, mset kl)], [], false⟩ ?_
        show (⟨[(98, (vi _)), (97, (vi _)), (96, (Sl.av vs g.rules)), (10, (vs r100)), (8, (.mrf 8)), (3, (.bool _)), (1, (.ptr ⟨1, []⟩ 0 0))], [(1, .bx (Plain.av g)), (5, x5), (8, mset kl)], [], false⟩ : St) = _
        simp [h1, h6, h11]
       ·iterate 4 (refine .sk ?_)
        iterate 2 (refine .p (.bool false) ?_)
        refine .done ⟨[(98, (vi _)), (97, (vi _)), (96, (Sl.av vs g.rules)), (10, (vs r100)), (8, (.mrf 8)), (3, (.bool _)), (1, (.ptr ⟨1, []⟩ 0 0))], [(1, .bx (Plain.av g)), (5, x5), (8, mset kl)], [], false⟩ ?_
        show (⟨[(98, (vi _)), (97, (vi _)), (96, (Sl.av vs g.rules)), (10, (vs r100)), (8, (.mrf 8)), (3, (.bool _)), (1, (.ptr ⟨1, []⟩ 0 0))], [(1, .bx (Plain.av g)), (5, x5), (8, mset kl)], [], false⟩ : St) = _
        simp [h1, h6, h11]
      ·iterate 3 (refine .sk ?_)
       iterate 2 (refine .p (.bool false) ?_)
       iterate 4 (refine .sk ?_)
       iterate 2 (refine .p (.bool false) ?_)
       refine .done ⟨[(98, (vi _)), (97, (vi _)), (96, (Sl.av vs g.rules)), (10, (vs r100)), (8, (.mrf 8)), (3, (.bool _)), (1, (.ptr ⟨1, []⟩ 0 0))], [(1, .bx (Plain.av g)), (5, x5), (8, mset kl)], [], false⟩ ?_
       show (⟨[(98, (vi _)), (97, (vi _)), (96, (Sl.av vs g.rules)), (10, (vs r100)), (8, (.mrf 8)), (3, (.bool _)), (1, (.ptr ⟨1, []⟩ 0 0))], [(1, .bx (Plain.av g)), (5, x5), (8, mset kl)], [], false⟩ : St) = _
       simp [h1, h6]
     ·iterate 3 (refine .sk ?_)
      iterate 2 (refine .p (.bool false) ?_)
      iterate 3 (refine .sk ?_)
      iterate 2 (refine .p (.bool false) ?_)
      iterate 4 (refine .sk ?_)
      iterate 2 (refine .p (.bool false) ?_)
      refine .done ⟨[(98, (vi _)), (97, (vi _)), (96, (Sl.av vs g.rules)), (10, (vs r100)), (8, (.mrf 8)), (3, (.bool _)), (1, (.ptr ⟨1, []⟩ 0 0))], [(1, .bx (Plain.av g)), (5, x5), (8, mset kl)], [], false⟩ ?_
      show (⟨[(98, (vi _)), (97, (vi _)), (96, (Sl.av vs g.rules)), (10, (vs r100)), (8, (.mrf 8)), (3, (.bool _)), (1, (.ptr ⟨1, []⟩ 0 0))], [(1, .bx (Plain.av g)), (5, x5), (8, mset kl)], [], false⟩ : St) = _
      simp [h1]
    rintro s rfl
    refine Wq.rg [98, 97, 96, 8, 3, 1] ?_
    refine .p (.mrf 8) ?_
    refine .p (vs r100) ?_
    refine .so (fun _ => op_muS rfl rfl rfl rfl rfl rfl rfl) [(1, .bx (Plain.av g)), (5, x5), (8, mset (kput kl r100))] rfl ?_
    refine .done ⟨[(98, (vi x98)), (97, (vi x97)), (96, (Sl.av vs g.rules)), (8, (.mrf 8)), (3, (.bool (((x3 && (decide (x105 ≥ 1))) && (decide (x110 ≤ 4096))) && (!(hasK kl r100))))), (1, (.ptr ⟨1, []⟩ 0 0))], [(1, .bx (Plain.av g)), (5, x5), (8, mset (kput kl r100))], [], false⟩ ?_
    refine Wq.rg [98, 97, 96, 8, 3, 1] ?_
    obtain ⟨x121, e121⟩ : ∃ x : Int, x = (x98 + 1) := ⟨_, rfl⟩
    refine .pv _ (vi x121) (wrE e121 (by omega) (by omega)) ?_
    refine .p (vi x121) ?_
    refine .done ⟨[(98, (vi x121)), (97, (vi x97)), (96, (Sl.av vs g.rules)), (8, (.mrf 8)), (3, (.bool (((x3 && (decide (x105 ≥ 1))) && (decide (x110 ≤ 4096))) && (!(hasK kl r100))))), (1, (.ptr ⟨1, []⟩ 0 0))], [(1, .bx (Plain.av g)), (5, x5), (8, mset (kput kl r100))], [], false⟩ ?_
    exact Iq.mk _ (by omega) ⟨x121, (((x3 && (decide (x105 ≥ 1))) && (decide (x110 ≤ 4096))) && (!(hasK kl r100))), kput kl r100, rfl, ⟨by omega, by omega, by
     rw [show g.rules.l.drop x98.toNat = r100 :: g.rules.l.drop (x98.toNat + 1) by
      rw [List.drop_eq_getElem_cons (by omega)]; congr 1
      rw [e100]; simp [List.getD, show x98.toNat < g.rules.l.length by omega], rulesL, ← e110] at hi
     rw [show x121.toNat = x98.toNat + 1 by omega, show x105 = x110 by omega]; exact hi⟩, rfl⟩
   ·have hx := of_decide_eq_false hx
    have hi3 : x3 = gOk3 g := by rw [← hi, List.drop_of_length_le (by omega), rulesL]
    refine Wq.exit ?_ -- 2
    apply Wq.seq
    apply Wq.seq
    refine Wq.rg [125, 124, 123, 3, 1] ?_
    refine .r (.ptr ⟨1, []⟩ 0 3) ?_
    refine .r (Sl.av Prod.av g.prods) ?_
    obtain ⟨x124, e124⟩ : ∃ x : Int, x = (g.prods.l.length : Int) := ⟨_, rfl⟩
    refine .pv _ (vi x124) (ln e124) ?_
    refine .p (vi 0) ?_
    refine .done ⟨[(125, (vi 0)), (124, (vi x124)), (123, (Sl.av Prod.av g.prods)), (3, (.bool x3)), (1, (.ptr ⟨1, []⟩ 0 0))], [(1, .bx (Plain.av g)), (5, x5), (8, mset kl)], [], false⟩ ?_
    refine Wq.block ?_ -- 4
    refine Wq.lp (fun m s => ∃ (x125 : Int) (x3 : Bool) (H9 : Hp), m = (x124 - x125).toNat ∧ (H9 = [] ∨ ∃ x, H9 = [(12, x)]) ∧ (0 ≤ x125 ∧ x125 ≤ x124 ∧ x3 = (gOk3 g && (g.prods.l.take x125.toNat).all (prodS g))) ∧ s = ⟨[(125, (vi x125)), (124, (vi x124)), (123, (Sl.av Prod.av g.prods)), (3, (.bool x3)), (1, (.ptr ⟨1, []⟩ 0 0))], (1, .bx (Plain.av g)) :: (5, x5) :: (8, mset kl) :: H9, [], false⟩) ?_ ⟨0, x3, [], rfl, .inl rfl, ⟨by omega, by omega, by rw [hi3]; simp⟩, rfl⟩
    clear hi3 hi
    rintro m s ⟨x125, x3, H9, rfl, hH, ⟨hi0, hi1, hi⟩, rfl⟩
    show Wq _ _ _ _ _ _ ⟨[(125, (vi x125)), (124, (vi x124)), (123, (Sl.av Prod.av g.prods)), (3, (.bool x3)), (1, (.ptr ⟨1, []⟩ 0 0))], (1, .bx (Plain.av g)) :: (5, x5) :: (8, mset kl) :: H9, [], false⟩ _
    apply Wq.seq
    refine Wq.rgK [126, 125, 124, 123, 3, 1] (by rcases hH with rfl | ⟨x, rfl⟩ <;> rfl) ?_
    refine .p (.bool (decide (x125 < x124))) ?_
    refine .fin (S' := ⟨[(126, (.bool (decide (x125 < x124)))), (125, (vi x125)), (124, (vi x124)), (123, (Sl.av Prod.av g.prods)), (3, (.bool x3)), (1, (.ptr ⟨1, []⟩ 0 0))], (1, .bx (Plain.av g)) :: (5, x5) :: (8, mset kl) :: H9, [], false⟩) (by rcases hH with rfl | ⟨x, rfl⟩ <;> rfl) ?_
    apply Wq.seq
    refine Wq.cond rfl (fun hx => ?_) (fun hx => ?_)
    ·have hx := of_decide_eq_true hx
     refine Wq.skip ?_
     apply Wq.seq
     refine Wq.block ?_ -- 5
     apply Wq.seq
     refine Wq.reg [125, 124, 123, 12, 3, 1] (t1 := (126, .bool (decide (x125 < x124))) :: [(125, (vi x125)), (124, (vi x124)), (123, (Sl.av Prod.av g.prods)), (3, (.bool x3)), (1, (.ptr ⟨1, []⟩ 0 0))]) (h1 := [(1, .bx (Plain.av g)), (5, x5), (8, mset kl)]) (d1 := []) (by rcases hH with rfl | ⟨x, rfl⟩ <;> rfl) rfl (by kernel_rfl) (by kernel_rfl) ?_
     obtain ⟨r127, e127⟩ : ∃ x : _, x = (g.prods.l.getD x125.toNat default) := ⟨_, rfl⟩
     have m127 := getD_mem e127 (by omega) (by omega)
     refine .po (fun _ => op_ix e127 (by omega) (by omega) hg.prods) (.fp _ (Prod.av r127) 0) rfl ?_
     refine .p (Prod.av r127) ?_
     refine .e (.ptr ⟨12, []⟩ 0 0) [(1, .bx (Plain.av g)), (5, x5), (8, mset kl), (12, .bx (.agg [(vi 0), (.fz 1 0 []), (vi 0), (vi 0), (vi 0), (vs ByteArray.empty), (.fz 1 0 [])]))] ?_
     refine .sq [(1, .bx (Plain.av g)), (5, x5), (8, mset kl), (12, .bx (Prod.av r127))] ?_
     refine .done ⟨[(125, (vi x125)), (124, (vi x124)), (123, (Sl.av Prod.av g.prods)), (12, (.ptr ⟨12, []⟩ 0 0)), (3, (.bool x3)), (1, (.ptr ⟨1, []⟩ 0 0))], [(1, .bx (Plain.av g)), (5, x5), (8, mset kl), (12, .bx (Prod.av r127))], [], false⟩ ?_
     obtain ⟨x133, e133⟩ : ∃ b, b = prodS g r127 := ⟨_, rfl⟩
     refine Wq.jn (fun s => s = ⟨[(125, (vi x125)), (124, (vi x124)), (123, (Sl.av Prod.av g.prods)), (3, (.bool (x3 && x133))), (1, (.ptr ⟨1, []⟩ 0 0))], [(1, .bx (Plain.av g)), (5, x5), (8, mset kl), (12, .bx (Prod.av r127))], [], false⟩) ?_ ?_
     ·refine Wq.rg [125, 124, 123, 3, 1] ?_
      iterate 2 (refine .p (.bool x3) ?_)
      refine Rq.split (dg := 130) rfl (fun h1 => ?_) (fun h1 => ?_) rfl
      ·refine .r (Plain.av g) ?_
       refine .r (Prod.av r127) ?_
       refine .cl F51 rfl rfl (e133 ▸ prod_q hO4 hO5 (hg.right _ m127).1 (hg.right _ m127).2.1 (hg.right _ m127).2.2 s1 s3) (expArgs_cons rfl (expArgs_cons rfl rfl rfl) rfl) rfl rfl rfl (.bool x133) [(1, .bx (Plain.av g)), (5, x5), (8, mset kl), (12, .bx (Prod.av r127))] ?_
       iterate 2 (refine .p (.bool x133) ?_)
       refine .done ⟨[(125, (vi _)), (124, (vi _)), (123, (Sl.av Prod.av g.prods)), (3, (.bool _)), (1, (.ptr ⟨1, []⟩ 0 0))], [(1, .bx (Plain.av g)), (5, x5), (8, mset kl), (12, .bx (Prod.av r127))], [], false⟩ ?_
       show (⟨[(125, (vi _)), (124, (vi _)), (123, (Sl.av Prod.av g.prods)), (3, (.bool _)), (1, (.ptr ⟨1, []⟩ 0 0))], [(1, .bx (Plain.av g)), (5, x5), (8, mset kl), (12, .bx (Prod.av r127))], [], false⟩ : St) = _
       simp [h1]
      ·iterate 3 (refine .sk ?_)
       iterate 2 (refine .p (.bool false) ?_)
       refine .done ⟨[(125, (vi _)), (124, (vi _)), (123, (Sl.av Prod.av g.prods)), (3, (.bool _)), (1, (.ptr ⟨1, []⟩ 0 0))], [(1, .bx (Plain.av g)), (5, x5), (8, mset kl), (12, .bx (Prod.av r127))], [], false⟩ ?_
       show (⟨[(125, (vi _)), (124, (vi _)), (123, (Sl.av Prod.av g.prods)), (3, (.bool _)), (1, (.ptr ⟨1, []⟩ 0 0))], [(1, .bx (Plain.av g)), (5, x5), (8, mset kl), (12, .bx (Prod.av r127))], [], false⟩ : St) = _
       simp [h1]
     rintro s rfl
     refine Wq.rg [125, 124, 123, 3, 1] ?_
     obtain ⟨x135, e135⟩ : ∃ x : Int, x = (x125 + 1) := ⟨_, rfl⟩
     refine .pv _ (vi x135) (wrE e135 (by omega) (by omega)) ?_
     refine .p (vi x135) ?_
     refine .done ⟨[(125, (vi x135)), (124, (vi x124)), (123, (Sl.av Prod.av g.prods)), (3, (.bool (x3 && x133))), (1, (.ptr ⟨1, []⟩ 0 0))], [(1, .bx (Plain.av g)), (5, x5), (8, mset kl), (12, .bx (Prod.av r127))], [], false⟩ ?_
     exact Iq.mk _ (by omega) ⟨x135, (x3 && x133), [(12, .bx (Prod.av r127))], rfl, .inr ⟨_, rfl⟩, ⟨by omega, by omega, by
      rw [hi, e133, show x135.toNat = x125.toNat + 1 by omega, take_all_succ (a := r127) (by omega) (by rw [e127]; simp [List.getD, show x125.toNat < g.prods.l.length by omega]), Bool.and_assoc]⟩, rfl⟩
    ·have hx := of_decide_eq_false hx
     have hi4 : x3 = gOk g := by rw [hi, List.take_of_length_le (by omega)]; rfl
     refine Wq.exit ?_ -- 4
     apply Wq.seq
     apply Wq.seq
     refine Wq.rgK [137] (by rcases hH with rfl | ⟨x, rfl⟩ <;> rfl) ?_
     refine .p (.bool x3) ?_
     refine .p (.bool (!x3)) ?_
     refine .fin (S' := ⟨[(137, (.bool (!x3)))], (1, .bx (Plain.av g)) :: (5, x5) :: (8, mset kl) :: H9, [], false⟩) (by rcases hH with rfl | ⟨x, rfl⟩ <;> rfl) ?_
     refine Wq.cond rfl (fun hx => ?_) (fun hx => ?_)
     ·have hx := hx -- (!x3)
      apply Wq.seq
      refine Wq.rgK [2] (by rcases hH with rfl | ⟨x, rfl⟩ <;> rfl) ?_
      refine .p (vi 130) ?_
      refine .fin (S' := ⟨[(2, (vi 130))], (1, .bx (Plain.av g)) :: (5, x5) :: (8, mset kl) :: H9, [], false⟩) (by rcases hH with rfl | ⟨x, rfl⟩ <;> rfl) ?_
      refine Wq.ret ?_
      exact Aq.mk rfl (by rw [gcheckS, if_neg (by rw [← hi4]; simpa using hx)]; rfl)
     ·have hx := hx -- not (!x3)
      refine Wq.skip ?_
      apply Wq.seq
      refine Wq.rgK [2] (by rcases hH with rfl | ⟨x, rfl⟩ <;> rfl) ?_
      refine .p (vi 0) ?_
      refine .fin (S' := ⟨[(2, (vi 0))], (1, .bx (Plain.av g)) :: (5, x5) :: (8, mset kl) :: H9, [], false⟩) (by rcases hH with rfl | ⟨x, rfl⟩ <;> rfl) ?_
      refine Wq.ret ?_
      exact Aq.mk rfl (by rw [gcheckS, if_pos (by rw [← hi4]; simpa using hx)]; rfl)
end Go.Am.Pull
end
