/- The texts Am17, Am18, Am19, Am20, Am21, Am22, Am23, Am24, Am25, Am26, Am27, Am28, Am29, Am30, Am31, Am32, Am33, Am34, Am35, Am36, Am37, Am38, Am39 of this proof. -/
import Derived.ArgAppend
import Derived.Lib.AppendStr
import Derived.Test.YtbbdljhpjomclaaM0
section
namespace Go.Am
open Go.RowKit
variable {P : Program} {cx : Cx} {B : Base} {K : Nat → Prop} {g g' : Gh} {R : Nat → Value} {s : St} {h h' : Hp} {w w' : World}
theorem hget_le : ∀ {h : Hp} {r : Nat} {a : AV}, hget h r = some a → r ≤ h.foldr (fun x n => x.1 + n) 0
  | (k, x) :: h, r, a, hr => by
    simp only [hget] at hr
    by_cases e : r = k
    · subst e; simp only [List.foldr_cons]; omega
    · rw [nbF e, cond_false] at hr
      have := hget_le hr
      simp only [List.foldr_cons]; omega
def lkNo : Up → Nat
  | .set _ (.lk q _) => q
  | _ => 0
theorem Kd_le : ∀ {d : List Up} {q : Nat}, Kd d q → q ≤ d.foldr (fun u n => lkNo u + n) 0
  | [], q, ⟨_, _, hm⟩ => by cases hm
  | u :: d, q, ⟨pl, len, hm⟩ => by
    simp only [List.foldr_cons]
    rcases List.mem_cons.1 hm with rfl | hm
    · simp only [lkNo]; omega
    · have := Kd_le (d := d) ⟨pl, len, hm⟩; omega
/-- There is always a number that is free. -/
theorem free_no (h : Hp) (d : List Up) : ∃ N, hget h N = none ∧ ¬ Kd d N := by
  refine ⟨h.foldr (fun x n => x.1 + n) 0 + d.foldr (fun u n => lkNo u + n) 0 + 1, ?_, fun hk => ?_⟩
  · cases hx : hget h _ with
    | none => rfl
    | some a => have := hget_le hx; omega
  · have := Kd_le hk; omega
theorem pre_apart {p q : List (Nat × Nat)} (h1 : pre p q = false) (h2 : pre q p = false) : ∃ u s s' p' q', s' ≠ s ∧ p = u ++ s :: p' ∧ q = u ++ s' :: q' := by
  rcases paths p q with ⟨r, hr⟩ | ⟨s, r, hr⟩ | h
  · rw [pre_iff.2 ⟨r, hr⟩] at h1; cases h1
  · rw [pre_iff.2 ⟨_, hr⟩] at h2; cases h2
  · exact h
/-- Places that do not touch. -/
def Pl.apart (a b : Pl) : Prop := a.pre b = false ∧ b.pre a = false
theorem Pl.apart_iff {a b : Pl} (h : a.apart b) : a.r ≠ b.r ∨ (a.r = b.r ∧ Am.pre a.p b.p = false ∧ Am.pre b.p a.p = false) := by
  by_cases e : a.r = b.r
  · refine .inr ⟨e, ?_, ?_⟩
    · have := h.1; simp only [Pl.pre, e, nbT, Bool.true_and] at this; exact this
    · have := h.2; simp only [Pl.pre, e, nbT, Bool.true_and] at this; exact this
  · exact .inl e
theorem le_trans' {g1 g2 g3 : Gh} {w1 w2 w3 : World} (h1 : (mkF B g1 w1).le (mkF B g2 w2)) (h2 : (mkF B g2 w2).le (mkF B g3 w3)) : (mkF B g1 w1).le (mkF B g3 w3) := by
  refine ⟨fun b o v hm hn => h2.m b o v (h1.m b o v hm hn) (h1.N b o v hm hn), fun b o v hm hn => h2.N b o v (h1.m b o v hm hn) (h1.N b o v hm hn), fun b o v hm hn => ?_, h1.sub⟩
  have hn' : ¬ (mkF B g1 w1).N b o := fun hx => hn (h1.sub b o hx)
  exact h2.N0 b o v (h1.m b o v hm hn') (h1.N0 b o v hm hn)
theorem le_sub {g1 g2 : Gh} (h : ∀ b o, owned g2 b o → owned g1 b o) : (mkF B g1 w).le (mkF B g2 w) := le_of (fun _ _ _ hv _ => hv) fun b o _ _ hx => h b o hx
theorem hits_gone {src pl : Pl} : (gone src).hits ⟨pl, false⟩ = false → src.pre pl = false := by
  intro hh
  unfold gone at hh
  by_cases e : src.p.isEmpty = true
  · rw [if_pos e] at hh
    simp only [Up.hits] at hh
    simp only [Pl.pre, hh, Bool.false_and]
  · rw [if_neg e] at hh
    simpa [Up.hits] using hh
theorem app_gone_cell {src : Pl} {p : List (Nat × Nat)} {i j : Nat} {a : AV} (hp : src.p = p ++ [(i, j)]) (ha : hget h src.r = some a) : Up.app h (gone src) = hins h src.r (setT a src.p .un) := by
  have : src.p.isEmpty = false := by rw [hp]; simp
  simp only [gone, this, Bool.false_eq_true, if_false, Up.app, ha]
theorem app_gone_root {src : Pl} (hp : src.p = []) : Up.app h (gone src) = hdel h src.r := by
  simp [gone, hp, Up.app]
/-- An owned node is taken out whole: it is a root of its own, N, from now on. -/
theorem RM.take1 (H : RM B K g R h w) {src : Pl} {c : AV} {N : Nat} {n : Nd} (hc : getP h src = some c) (hnode : isNode c = true) (hn : g src.r src.p = some n) (hN : hget h N = none) (hK : ¬ K N) :
    ∃ g1 R1, RM B K g1 R1 (hins (Up.app h (gone src)) N c) w ∧ LF (mkF B g1 w) (obj w) g1 c (g1 N []) (R1 N) ∧ hget (Up.app h (gone src)) N = none ∧ g1 N [] = some n ∧
      (∀ b o, owned g1 b o → owned g b o) ∧ (∀ pl m, pl.r ≠ N → src.pre pl = false → g pl.r pl.p = some m → g1 pl.r pl.p = some m) := by
  obtain ⟨a, ha, hp⟩ := getP_some hc
  have hrN : src.r ≠ N := by rintro e; rw [e, hN] at ha; cases ha
  rcases List.eq_nil_or_concat src.p with e | ⟨p, ⟨i, j⟩, e⟩
  · rw [e] at hp hn
    simp [getT] at hp; subst hp
    have hr := H.rename ha hN hK
    rw [app_gone_root e]
    have hN1 : hget (hins (hdel h src.r) N a) N = some a := by rw [hget_hins, if_pos rfl]
    refine ⟨_, _, hr, (hr.tree N a hN1).root, by rw [hget_hdel, if_neg (fun e => hrN e.symm)]; exact hN, by simp [renG, hn], ?_, ?_⟩
    · rintro b o ⟨k, q, m, hm, hb⟩
      unfold renG at hm
      by_cases e1 : k = N
      · rw [if_pos e1] at hm; exact ⟨_, _, _, hm, hb⟩
      · rw [if_neg e1] at hm
        by_cases e2 : k = src.r
        · rw [if_pos e2] at hm; cases hm
        · rw [if_neg e2] at hm; exact ⟨_, _, _, hm, hb⟩
    · intro pl m h1 h2 h3
      have : pl.r ≠ src.r := by
        intro e2
        simp [Pl.pre, e, e2, pre] at h2
      simp only [renG, if_neg h1, if_neg this]; exact h3
  · rw [List.concat_eq_append] at e
    rw [e] at hp
    obtain ⟨n', u, h1, h2, h3, hr⟩ := H.detach (s := N) ha hp hN hK
    rw [app_gone_cell e ha, e]
    have hN1 : hget (hins (hins h src.r (setT a (p ++ [(i, j)]) .un)) N c) N = some c := by rw [hget_hins, if_pos rfl]
    refine ⟨_, _, hr, (hr.tree N c hN1).root, by rw [hget_hins, if_neg (fun e => hrN e.symm)]; exact hN, by simp only [detG, if_true, List.append_nil]; rw [← e]; exact hn, ?_, ?_⟩
    · rintro b o ⟨k, q, m, hm, hb⟩
      unfold detG at hm
      by_cases e1 : k = N
      · rw [if_pos e1] at hm; exact ⟨_, _, _, hm, hb⟩
      · rw [if_neg e1] at hm; exact ⟨_, _, _, (cutG_some hm).1, hb⟩
    · intro pl m g1 g2 g3
      simp only [detG, if_neg g1]
      rw [cutG_eq]; exact g3
      rintro ⟨e1, e2⟩
      simp only [Pl.pre, e1, nbT, Bool.true_and, e, e2] at g2; cases g2
/-- What a reference refers to is taken out: cut as the reference says. -/
theorem RM.takeOut (H : RM B K g R h w) {a : AV} {v : Value} {x : AV} {rs : List Rd} {u : Up} {N : Nat} (hal : s.alias = false) (hb : absorb1 s a = some (x, rs, [u])) (hv : XD (mkF B g w) g s.d a v)
    (hh : ∀ pl c, look s true pl = some c → u = gone pl → getP h pl = some c) (hN : hget h N = none) (hK : ¬ K N) :
    ∃ src g1 R1, u = gone src ∧ RM B K g1 R1 (hins (Up.app h u) N x) w ∧ R1 N = v ∧ hget (Up.app h u) N = none ∧ isNode x = true ∧
      (∀ b o, owned g1 b o → owned g b o) ∧ (∀ pl m, pl.r ≠ N → src.pre pl = false → g pl.r pl.p = some m → g1 pl.r pl.p = some m) := by
  cases a with
  | rf sz pl off len =>
    simp only [absorb1, hal, Bool.false_eq_true, if_false] at hb
    cases hl : look s true pl with
    | none => simp [hl, oops] at hb
    | some c =>
      simp only [hl] at hb
      cases c with
      | ow sz' es =>
        simp only [oops] at hb
        split at hb
        · rename_i hc
          obtain ⟨rfl, hc2⟩ := hc
          simp only [Option.some.injEq, Prod.mk.injEq, List.cons.injEq, and_true] at hb
          obtain ⟨rfl, rfl, rfl⟩ := hb
          obtain ⟨cap, k, n, f1, f2, f3, f4, f5, f6, rfl⟩ := X_rf hv (okD_of_look hl)
          obtain ⟨g1, R1, r1, r2, r3, r4, r5, r6⟩ := H.take1 (hh pl _ hl rfl) rfl f1 hN hK
          have hcut := r1.cut (r := N) (off := off) (len := len) (k := k) (cap := cap) (by rw [hget_hins, if_pos rfl]) r4 hK hc2 f4 f5 f6
          refine ⟨pl, _, _, rfl, hcut.congr fun q => ?_, by simp [setR], r3, rfl, ?_, ?_⟩
          · rw [hget_hins, hget_hins, hget_hins]
            by_cases e : q = N <;> simp [e]
          · rintro b o ⟨q, p, m, hm, hb⟩
            unfold cutRG at hm
            by_cases e : q = N
            · rw [if_pos e] at hm
              cases p with
              | nil => rw [r4] at hm; simp at hm; subst hm; exact r5 b o ⟨N, [], n, r4, cutN_has f4 hb⟩
              | cons ij p =>
                obtain ⟨i, j⟩ := ij
                simp only at hm
                split at hm
                · exact r5 b o ⟨_, _, _, hm, hb⟩
                · cases hm
            · rw [if_neg e] at hm; exact r5 b o ⟨_, _, _, hm, hb⟩
          · intro q m h1 h2 h3
            simp only [cutRG, if_neg h1]; exact r6 q m h1 h2 h3
        · cases hb
      | _ => cases hb
  | ptr pl i off =>
    simp only [absorb1, hal, Bool.false_eq_true, if_false, oops] at hb
    split at hb
    · rename_i h0
      obtain ⟨rfl, rfl⟩ := h0
      cases hl : look s true pl with
      | none => simp [hl] at hb
      | some c =>
        simp only [hl] at hb
        cases c with
        | bx e =>
          simp only [Option.some.injEq, Prod.mk.injEq, List.cons.injEq, and_true] at hb
          obtain ⟨rfl, rfl, rfl⟩ := hb
          obtain ⟨n, f1, f2, rfl⟩ := X_ptr hv (okD_of_look hl)
          obtain ⟨g1, R1, r1, r2, r3, r4, r5, r6⟩ := H.take1 (hh pl _ hl rfl) rfl f1 hN hK
          obtain ⟨n', e1, e2, e3, e4, e5⟩ := r2
          rw [r4] at e1; cases e1
          exact ⟨pl, g1, R1, rfl, r1, by simpa using e5, r3, rfl, r5, r6⟩
        | _ => cases hb
    · cases hb
  | mrf _ => simp [absorb1, oops] at hb
  | agg _ => simp [absorb1, oops] at hb
  | tup _ => simp [absorb1, oops] at hb
  | _ => simp [absorb1] at hb
end Go.Am
end
section
namespace Go.Am
open Go.RowKit
variable {P : Program} {cx : Cx} {B : Base} {K : Nat → Prop} {g g' : Gh} {R : Nat → Value} {s : St} {h h' : Hp} {w w' : World}
theorem pre_trans {p q r : List (Nat × Nat)} (h1 : pre p q = true) (h2 : pre q r = true) : pre p r = true := by
  obtain ⟨a, rfl⟩ := pre_iff.1 h1
  obtain ⟨b, rfl⟩ := pre_iff.1 h2
  exact pre_iff.2 ⟨a ++ b, by rw [List.append_assoc]⟩
theorem Pl.pre_trans {a b c : Pl} (h1 : a.pre b = true) (h2 : b.pre c = true) : a.pre c = true := by
  simp only [Pl.pre, Bool.and_eq_true] at *
  exact ⟨by have e1 := h1.1; have e2 := h2.1; simp at e1 e2 ⊢; rw [e1, e2], Am.pre_trans h1.2 h2.2⟩
theorem Pl.pre_self (a : Pl) : a.pre a = true := by simp [Pl.pre, pre_refl]
theorem pre_cell (a : Pl) (i j : Nat) : a.pre (a.cell i j) = true := by
  simp only [Pl.pre, Pl.cell, nbT, Bool.true_and]; exact pre_iff.2 ⟨[(i, j)], rfl⟩
theorem getP_hins_ne {r : Nat} {a : AV} {pl : Pl} (h1 : pl.r ≠ r) : getP (hins h r a) pl = getP h pl := by unfold getP; rw [hget_hins, if_neg h1]
theorem getP_hdel_ne {r : Nat} {pl : Pl} (h1 : pl.r ≠ r) : getP (hdel h r) pl = getP h pl := by unfold getP; rw [hget_hdel, if_neg h1]
theorem getP_set {q pl : Pl} {a old c : AV} (ha : hget h q.r = some a) (hold : getT a q.p = some old) (hc : nonAgg c = true) (hap : q.apart pl) : getP (hins h q.r (setT a q.p c)) pl = getP h pl := by
  rcases Pl.apart_iff hap with h1 | ⟨h1, h2, h3⟩
  · exact getP_hins_ne (fun e => h1 e.symm)
  · obtain ⟨u, x, x', p', q', hne, e1, e2⟩ := pre_apart h2 h3
    unfold getP
    rw [← h1, hget_hins, if_pos rfl, ha]
    simp only [Option.bind_some]
    rw [e1] at hold
    rw [e1, e2, getT_setT_apart hold hc hne]
theorem getP_gone {src pl : Pl} {c : AV} (hc : getP h src = some c) (hap : src.apart pl) : getP (Up.app h (gone src)) pl = getP h pl := by
  obtain ⟨a, ha, hp⟩ := getP_some hc
  by_cases e : src.p = []
  · rw [app_gone_root e]
    refine getP_hdel_ne ?_
    rcases Pl.apart_iff hap with h1 | ⟨h1, h2, h3⟩
    · exact fun e => h1 e.symm
    · rw [e] at h2; simp [pre] at h2
  · have : src.p.isEmpty = false := by cases hh : src.p with | nil => exact absurd hh e | cons _ _ => rfl
    have e2 : Up.app h (gone src) = hins h src.r (setT a src.p .un) := by simp only [gone, this, Bool.false_eq_true, if_false, Up.app, ha]
    rw [e2]
    exact getP_set ha hp rfl hap
structure Mv where
  a : AV
  v : Value
  x : AV
  u : Up
  src : Pl
  par : Pl
  i : Nat
  j : Nat
  f : Bool
def wr (f : Bool) (q : Pl) (x : AV) : Up := if f then .fill q x else .set q x
theorem wr_pl {f : Bool} {q : Pl} {x : AV} : (wr f q x).pl = q := by cases f <;> rfl
theorem wr_app {f : Bool} {q : Pl} {x : AV} {h : Hp} : Up.app h (wr f q x) = Up.app h (.set q x) := by cases f <;> rfl
def Mv.q (m : Mv) : Pl := m.par.cell m.i m.j
def Mv.ups (m : Mv) : List Up := [m.u, wr m.f m.q m.x]
structure Mv.ok (m : Mv) (s : St) (B : Base) (g : Gh) (h : Hp) (w : World) : Prop where
  ab : ∃ rs, absorb1 s m.a = some (m.x, rs, [m.u])
  rt : RT (mkF B g w) g m.a m.v
  ref : refOf m.a = some m.src
  okd : okD s.d m.src
  gone : m.u = gone m.src
  get : ∃ c, look s true m.src = some c ∧ getP h m.src = some c
  dst : ∃ old n, getP h m.q = some old ∧ g m.par.r m.par.p = some n ∧ w.cell? ⟨n.b, n.o + m.i * n.sz + m.j, none⟩ = some m.v
theorem gone_pl {src : Pl} : (gone src).pl = src := by
  unfold gone
  by_cases e : src.p.isEmpty = true
  · rw [if_pos e]
    have : src.p = [] := by simpa using e
    cases src; simp at this; simp [Up.pl, this]
  · rw [if_neg e]; rfl
theorem meets_apart {a b : Up} (h : a.meets b = false) : a.pl.apart b.pl := by
  unfold Up.meets at h
  rw [Bool.or_eq_false_iff] at h
  exact h
theorem apartUps_cons {u : Up} {us : List Up} (h : apartUps (u :: us) = true) : (∀ v ∈ us, u.pl.apart v.pl) ∧ apartUps us = true := by
  simp only [apartUps, Bool.and_eq_true, List.all_eq_true, Bool.not_eq_true'] at h
  exact ⟨fun v hv => meets_apart (h.1 v hv), h.2⟩
theorem Pl.apart_symm {a b : Pl} (h : a.apart b) : b.apart a := ⟨h.2, h.1⟩
theorem Up.apps_append : ∀ (us vs : List Up) (h : Hp), Up.apps (us ++ vs) h = Up.apps vs (Up.apps us h)
  | [], _, _ => rfl
  | u :: us, vs, h => by simp only [List.cons_append, Up.apps]; exact Up.apps_append us vs _
/-- What the places that no update touches keep. -/
def Keep2 (us : List Up) (g g' : Gh) : Prop := ∀ pl n, (∀ u ∈ us, u.pl.pre pl = false) → g pl.r pl.p = some n → g' pl.r pl.p = some n
theorem moves_ok (hal : s.alias = false) (hfree : ∀ h, ∃ N, hget h N = none ∧ ¬ K N) : ∀ {ms : List Mv} {g : Gh} {R : Nat → Value} {h : Hp}, RM B K g R h w → (∀ m ∈ ms, m.ok s B g h w) → apartUps (ms.flatMap Mv.ups) = true →
    ∃ g' R', RM B K g' R' (Up.apps (ms.flatMap Mv.ups) h) w ∧ (∀ b o, owned g' b o → owned g b o) ∧ Keep2 (ms.flatMap Mv.ups) g g'
  | [], g, R, h, H, _, _ => ⟨g, R, H, fun _ _ hx => hx, fun _ _ _ hx => hx⟩
  | m :: ms, g, R, h, H, hm, hap => by
    have mo := hm m (by simp)
    obtain ⟨rs, hab⟩ := mo.ab
    obtain ⟨c0, hl0, hg0⟩ := mo.get
    simp only [List.flatMap_cons, Mv.ups, List.cons_append, List.nil_append] at hap
    obtain ⟨a1, hap⟩ := apartUps_cons hap
    obtain ⟨a2, hap⟩ := apartUps_cons hap
    have hsq : m.src.apart m.q := by have := a1 (wr m.f m.q m.x) (by simp); rw [mo.gone, gone_pl, wr_pl] at this; exact this
    obtain ⟨N, hN, hKN⟩ := hfree h
    have hX : XD (mkF B g w) g s.d m.a m.v := by
      have hna : nonAgg m.a = true ∧ nonTup m.a = true := by have := mo.ref; cases hma : m.a <;> rw [hma] at this <;> first | exact ⟨rfl, rfl⟩ | cases this
      refine cellX ?_ hna.1 hna.2
      rw [fadeC_ok fun pl hp => by rw [mo.ref] at hp; cases hp; exact mo.okd]; exact mo.rt
    obtain ⟨src, g1, R1, e1, r1, r2, r3, r4, r5, r6⟩ := H.takeOut hal hab hX (fun pl c hl hu => by
      have : pl = m.src := by
        have h1 := congrArg Up.pl hu
        rw [mo.gone, gone_pl, gone_pl] at h1; exact h1.symm
      rw [this] at hl ⊢; rw [hl0] at hl; cases hl; exact hg0) hN hKN
    have hsrc : src = m.src := by
      have h1 := congrArg Up.pl e1
      rw [mo.gone, gone_pl, gone_pl] at h1; exact h1.symm
    subst hsrc
    obtain ⟨old, n, d1, d2, d3⟩ := mo.dst
    have hqN : m.q.r ≠ N := by
      obtain ⟨a, ha, _⟩ := getP_some d1
      rintro e; rw [e, hN] at ha; cases ha
    have d1' : getP (hins (Up.app h m.u) N m.x) m.q = some old := by
      rw [getP_hins_ne hqN, mo.gone, getP_gone hg0 hsq]; exact d1
    obtain ⟨a, ha, hp⟩ := getP_some d1'
    have hpp : m.q.p = m.par.p ++ [(m.i, m.j)] := rfl
    have hpr : m.q.r = m.par.r := rfl
    have hsp : m.src.pre m.par = false := by
      cases hb : m.src.pre m.par with
      | false => rfl
      | true => have := Pl.pre_trans hb (pre_cell m.par m.i m.j); rw [show m.par.cell m.i m.j = m.q from rfl, hsq.1] at this; cases this
    have hn1 := r6 m.par n (by rw [← hpr]; exact hqN) hsp d2
    rw [hpp] at hp
    have hatt := r1.attach (r := m.q.r) (s := N) (i := m.i) (j := m.j) ha hp (by rw [hget_hins, if_pos rfl]) (fun e => hqN e.symm) (nonAgg_of_node r4) hn1 (by rw [r2]; exact d3)
    have hcur : RM B K (attG g1 m.q.r (m.par.p ++ [(m.i, m.j)]) N) R1 (Up.apps m.ups h) w := by
      refine hatt.congr fun q => ?_
      have haa : hget (Up.app h m.u) m.q.r = some a := by rw [hget_hins, if_neg hqN] at ha; exact ha
      have hset : Up.app (Up.app h m.u) (.set m.q m.x) = hins (Up.app h m.u) m.q.r (setT a m.q.p m.x) := by
        have := haa
        generalize Up.app h m.u = h0 at this ⊢
        simp only [Up.app, this]
      simp only [Mv.ups, Up.apps]
      rw [wr_app, hset, hget_hins, hget_hdel, hget_hins, hget_hins]
      by_cases eN : q = N
      · subst eN; rw [if_neg (fun e => hqN e.symm), if_pos rfl]; exact r3
      · by_cases eq : q = m.q.r
        · subst eq; rw [if_pos rfl, if_neg eN, if_pos rfl]; rfl
        · rw [if_neg eq, if_neg eN, if_neg eq, if_neg eN]
    have hownsub : ∀ b o, owned (attG g1 m.q.r (m.par.p ++ [(m.i, m.j)]) N) b o → owned g b o := by
      rintro b o ⟨r', q, k, hk, hb⟩
      refine r5 b o ?_
      unfold attG at hk
      by_cases e : r' = N
      · rw [if_pos e] at hk; cases hk
      · rw [if_neg e] at hk
        by_cases e2 : r' = m.q.r ∧ pre (m.par.p ++ [(m.i, m.j)]) q = true
        · rw [if_pos e2] at hk; exact ⟨_, _, _, hk, hb⟩
        · rw [if_neg e2] at hk; exact ⟨_, _, _, hk, hb⟩
    have hkeep : ∀ pl k, m.src.pre pl = false → m.q.pre pl = false → g pl.r pl.p = some k → attG g1 m.q.r (m.par.p ++ [(m.i, m.j)]) N pl.r pl.p = some k := by
      intro pl k h1 h2 h3
      have hpN : pl.r ≠ N := by rintro e; rw [e, H.void N hN] at h3; cases h3
      have := r6 pl k hpN h1 h3
      simp only [attG, if_neg hpN]
      rw [if_neg]; exact this
      rintro ⟨e, e2⟩
      simp only [Pl.pre, e, nbT, Bool.true_and] at h2
      rw [hpp, e2] at h2; cases h2
    have hleq : (mkF B g w).le (mkF B (attG g1 m.q.r (m.par.p ++ [(m.i, m.j)]) N) w) := le_sub hownsub
    have hq : ∀ m' ∈ ms, m.src.apart m'.src ∧ m.src.apart m'.q ∧ m.q.apart m'.src ∧ m.q.apart m'.q := by
      intro m' hm'
      have i1 : m'.u ∈ ms.flatMap Mv.ups := List.mem_flatMap.2 ⟨m', hm', by simp [Mv.ups]⟩
      have i2 : wr m'.f m'.q m'.x ∈ ms.flatMap Mv.ups := List.mem_flatMap.2 ⟨m', hm', by simp [Mv.ups]⟩
      have mo' := hm m' (by simp [hm'])
      have b1 := a1 m'.u (by simp; exact .inr (by simpa using i1))
      have b2 := a1 (wr m'.f m'.q m'.x) (by simp; exact .inr (by simpa using i2))
      have b3 := a2 m'.u i1
      have b4 := a2 (wr m'.f m'.q m'.x) i2
      rw [mo.gone, gone_pl, mo'.gone, gone_pl] at b1
      rw [mo.gone, gone_pl, wr_pl] at b2
      rw [wr_pl, mo'.gone, gone_pl] at b3
      rw [wr_pl, wr_pl] at b4
      exact ⟨b1, b2, b3, b4⟩
    have getcur : ∀ pl, m.src.apart pl → m.q.apart pl → getP (Up.apps m.ups h) pl = getP h pl := by
      intro pl h1 h2
      have haa : hget (Up.app h m.u) m.q.r = some a := by rw [hget_hins, if_neg hqN] at ha; exact ha
      simp only [Mv.ups, Up.apps]
      rw [wr_app, show Up.app (Up.app h m.u) (.set m.q m.x) = hins (Up.app h m.u) m.q.r (setT a m.q.p m.x) from by
        have := haa
        generalize Up.app h m.u = h0 at this ⊢
        simp only [Up.app, this], getP_set haa (by rw [hpp]; exact hp) (nonAgg_of_node r4) h2, mo.gone, getP_gone hg0 h1]
    obtain ⟨g', R', f1, f2, f3⟩ := moves_ok hal hfree (ms := ms) hcur (fun m' hm' => by
      have mo' := hm m' (by simp [hm'])
      obtain ⟨q1, q2, q3, q4⟩ := hq m' hm'
      refine ⟨mo'.ab, mo'.rt.mono hleq fun pl k hp hk => ?_, mo'.ref, mo'.okd, mo'.gone, ?_, ?_⟩
      · rw [mo'.ref] at hp; cases hp
        exact hkeep _ k q1.1 q3.1 hk
      · obtain ⟨c, c1, c2⟩ := mo'.get
        exact ⟨c, c1, by rw [getcur _ q1 q3]; exact c2⟩
      · obtain ⟨old', n', c1, c2, c3⟩ := mo'.dst
        refine ⟨old', n', by rw [getcur _ q2 q4]; exact c1, hkeep _ _ ?_ ?_ c2, c3⟩
        · cases hb : m.src.pre m'.par with
          | false => rfl
          | true => have := Pl.pre_trans hb (pre_cell m'.par m'.i m'.j); rw [show m'.par.cell m'.i m'.j = m'.q from rfl, q2.1] at this; cases this
        · cases hb : m.q.pre m'.par with
          | false => rfl
          | true => have := Pl.pre_trans hb (pre_cell m'.par m'.i m'.j); rw [show m'.par.cell m'.i m'.j = m'.q from rfl, q4.1] at this; cases this) hap
    refine ⟨g', R', by rw [List.flatMap_cons, Up.apps_append]; exact f1, fun b o hb => hownsub b o (f2 b o hb), fun pl k hu hk => ?_⟩
    simp only [List.flatMap_cons] at hu
    refine f3 pl k (fun u hu' => hu u (List.mem_append_right _ hu')) (hkeep pl k ?_ ?_ hk)
    · have := hu m.u (List.mem_append_left _ (by simp [Mv.ups])); rw [mo.gone, gone_pl] at this; exact this
    · have := hu (wr m.f m.q m.x) (List.mem_append_left _ (by simp [Mv.ups])); rw [wr_pl] at this; exact this
end Go.Am
end
section
namespace Go.Am
open Go.RowKit
variable {P : Program} {cx : Cx} {B : Base} {K : Nat → Prop} {g g' : Gh} {R : Nat → Value} {s : St} {h h' : Hp} {w w' : World}
theorem absorb1_cases (hal : s.alias = false) {a x : AV} {r : List Rd} {us : List Up} (h : absorb1 s a = some (x, r, us)) :
    (us = [] ∧ x = a ∧ refOf a = none) ∨ (∃ src c, us = [gone src] ∧ refOf a = some src ∧ look s true src = some c ∧ isNode x = true) := by
  cases a with
  | rf sz pl off len =>
    simp only [absorb1, hal, Bool.false_eq_true, if_false] at h
    cases hl : look s true pl with
    | none => simp [hl, oops] at h
    | some c =>
      simp only [hl] at h
      cases c with
      | ow sz' es =>
        simp only [oops] at h
        split at h
        · simp only [Option.some.injEq, Prod.mk.injEq] at h
          obtain ⟨rfl, rfl, rfl⟩ := h
          exact .inr ⟨pl, _, rfl, rfl, hl, rfl⟩
        · cases h
      | _ => cases h
  | ptr pl i off =>
    simp only [absorb1, hal, Bool.false_eq_true, if_false, oops] at h
    split at h
    · cases hl : look s true pl with
      | none => simp [hl] at h
      | some c =>
        simp only [hl] at h
        cases c with
        | bx e =>
          simp only [Option.some.injEq, Prod.mk.injEq] at h
          obtain ⟨rfl, rfl, rfl⟩ := h
          exact .inr ⟨pl, _, rfl, rfl, hl, rfl⟩
        | _ => cases h
    · cases h
  | mrf _ => simp [absorb1, oops] at h
  | agg _ => simp [absorb1, oops] at h
  | tup _ => simp [absorb1, oops] at h
  | _ =>
    simp only [absorb1, Option.some.injEq, Prod.mk.injEq] at h
    obtain ⟨rfl, rfl, rfl⟩ := h
    exact .inl ⟨rfl, rfl, rfl⟩
theorem leaf_of {F : Fz} {a : AV} {v : Value} {d : List Up} (hr : refOf a = none) (h : RT F g (fadeC d a) v) : RF F a v := by
  rw [fadeC_ok fun pl hp => by rw [hr] at hp; cases hp] at h
  cases h with
  | f h => exact h
  | _ => cases hr
theorem RF_shape {F : Fz} {a : AV} {v : Value} (h : RF F a v) : isNode a = false ∧ (∀ q l, a ≠ .lk q l) ∧ nonAgg a = true := by
  cases h <;> exact ⟨rfl, (by intro _ _ h; cases h), rfl⟩
/-- A move, as far as it doesn't speak of where it goes. -/
structure Mv.st (m : Mv) (s : St) (B : Base) (g : Gh) (w : World) : Prop where
  ab : ∃ rs, absorb1 s m.a = some (m.x, rs, [m.u])
  rt : RT (mkF B g w) g m.a m.v
  ref : refOf m.a = some m.src
  okd : okD s.d m.src
  gone : m.u = gone m.src
  get : ∃ c, look s true m.src = some c
theorem putNew_ok (hal : s.alias = false) {pl : Pl} {i : Nat} : ∀ {l : List AV} {off : Nat} {vs : List Value} {bs : List AV} {rs : List Rd} {us : List Up}, putNew s pl i off l = some (bs, rs, us) → RTL (mkF B g w) g (l.map (fadeC s.d)) vs →
    ∃ ms : List Mv, us = ms.flatMap Mv.ups ∧ bs.length = l.length ∧ (∀ (j : Nat) x, bs[j]? = some x → ∃ u, vs[j]? = some u ∧ RF (mkF B g w) x u) ∧
      (∀ m ∈ ms, m.st s B g w ∧ m.par = pl ∧ m.i = i ∧ m.f = true ∧ ∃ j, m.j = off + j ∧ vs[j]? = some m.v ∧ bs[j]? = some .un)
  | [], off, _, bs, rs, us, h, .nil => by
    simp only [putNew, Option.some.injEq, Prod.mk.injEq] at h
    obtain ⟨rfl, rfl, rfl⟩ := h
    exact ⟨[], rfl, rfl, fun j x hx => by simp at hx, fun m hm => by cases hm⟩
  | a :: l, off, _, bs, rs, us, h, .cons (v := v) (vs := vs) hv ht => by
    simp only [putNew] at h
    cases ha : absorb1 s a with
    | none => simp [ha] at h
    | some p =>
      obtain ⟨x, r, us1⟩ := p
      simp only [ha] at h
      cases hp : putNew s pl i (off + 1) l with
      | none => simp [hp] at h
      | some q =>
        obtain ⟨bs', rs', us'⟩ := q
        simp only [hp] at h
        obtain ⟨ms, m1, m2, m3, m4⟩ := putNew_ok hal hp ht
        have tl : ∀ b : AV, ∀ m ∈ ms, m.st s B g w ∧ m.par = pl ∧ m.i = i ∧ m.f = true ∧ ∃ j, m.j = off + j ∧ (v :: vs)[j]? = some m.v ∧ (b :: bs')[j]? = some .un := by
          intro b m hm
          obtain ⟨e1, e2, e3, e4, j, e5, e6, e7⟩ := m4 m hm
          exact ⟨e1, e2, e3, e4, j + 1, by omega, by simpa using e6, by simpa using e7⟩
        rcases absorb1_cases hal ha with ⟨rfl, rfl, hr⟩ | ⟨src, c, rfl, hr, hl, hx⟩
        · simp only [Option.some.injEq, Prod.mk.injEq] at h
          obtain ⟨rfl, rfl, rfl⟩ := h
          refine ⟨ms, m1, by simp [m2], fun j y hy => ?_, tl _⟩
          cases j with
          | zero => simp at hy; subst hy; exact ⟨v, rfl, leaf_of hr hv⟩
          | succ j => obtain ⟨u, f1, f2⟩ := m3 j y (by simpa using hy); exact ⟨u, by simpa using f1, f2⟩
        · simp only [Option.some.injEq, Prod.mk.injEq] at h
          obtain ⟨rfl, rfl, rfl⟩ := h
          have hok := okD_of_look hl
          have hrt : RT (mkF B g w) g a v := by rw [fadeC_ok fun q hq => by rw [hr] at hq; cases hq; exact hok] at hv; exact hv
          refine ⟨⟨a, v, x, gone src, src, pl, i, off, true⟩ :: ms, by simp [Mv.ups, wr, Mv.q, m1], by simp [m2], fun j y hy => ?_, fun m hm => ?_⟩
          · cases j with
            | zero => simp at hy; subst hy; exact ⟨v, rfl, .un v hrt.one⟩
            | succ j => obtain ⟨u, f1, f2⟩ := m3 j y (by simpa using hy); exact ⟨u, by simpa using f1, f2⟩
          · rcases List.mem_cons.1 hm with rfl | hm
            · exact ⟨⟨⟨r, ha⟩, hrt, hr, hok, rfl, c, hl⟩, rfl, rfl, rfl, 0, rfl, rfl, rfl⟩
            · exact tl _ m hm
theorem putEl_ok (hal : s.alias = false) {pl : Pl} {i : Nat} {a b : AV} {v : Value} {rs : List Rd} {us : List Up} (hk : known a = true) (h : putEl s pl i a = some (b, rs, us)) (hv : XD (mkF B g w) g s.d a v) :
    ∃ ms : List Mv, us = ms.flatMap Mv.ups ∧ (cells b).length = (cells a).length ∧ v.cells.toList.length = (cells a).length ∧ (∀ (j : Nat) x, (cells b)[j]? = some x → ∃ u, v.cells.toList[j]? = some u ∧ RF (mkF B g w) x u) ∧
      (∀ m ∈ ms, m.st s B g w ∧ m.par = pl ∧ m.i = i ∧ m.f = true ∧ v.cells.toList[m.j]? = some m.v ∧ (cells b)[m.j]? = some .un) ∧ isNode b = false := by
  obtain ⟨vs, h1, h2⟩ := X_cells hv hk
  by_cases ha : nonAgg a = true
  · have he : putEl s pl i a = (match putNew s pl i 0 [a] with | some ([b], r, u) => some (b, r, u) | _ => none) := by cases a <;> first | rfl | cases ha
    rw [he] at h
    rw [cells_nonAgg ha] at h2 ⊢
    split at h
    · rename_i c r u hp
      simp only [Option.some.injEq, Prod.mk.injEq] at h
      obtain ⟨rfl, rfl, rfl⟩ := h
      obtain ⟨ms, m1, m2, m3, m4⟩ := putNew_ok hal hp h2
      obtain ⟨u0, hu0, hf0⟩ := m3 0 c rfl
      obtain ⟨sh1, sh2, sh3⟩ := RF_shape hf0
      refine ⟨ms, m1, by rw [cells_nonAgg sh3]; rfl, by rw [h1]; exact RTL_len h2, by rw [h1, cells_nonAgg sh3]; exact m3, fun m hm => ?_, sh1⟩
      obtain ⟨e1, e2, e3, e4, j, e5, e6, e7⟩ := m4 m hm
      have : m.j = j := by omega
      exact ⟨e1, e2, e3, e4, by rw [h1, this]; exact e6, by rw [this, cells_nonAgg sh3]; exact e7⟩
    · cases h
  · cases a <;> simp [nonAgg] at ha
    rename_i cs
    simp only [putEl] at h
    cases hp : putNew s pl i 0 cs with
    | none => simp [hp] at h
    | some q =>
      obtain ⟨bs, r, u⟩ := q
      simp only [hp, Option.some.injEq, Prod.mk.injEq] at h
      obtain ⟨rfl, rfl, rfl⟩ := h
      obtain ⟨ms, m1, m2, m3, m4⟩ := putNew_ok hal hp h2
      refine ⟨ms, m1, m2, by rw [h1]; exact RTL_len h2, by rw [h1]; exact m3, fun m hm => ?_, rfl⟩
      obtain ⟨e1, e2, e3, e4, j, e5, e6, e7⟩ := m4 m hm
      have : m.j = j := by omega
      exact ⟨e1, e2, e3, e4, by rw [h1, this]; exact e6, by rw [this]; exact e7⟩
/-- elements with their values -/
inductive XE (F : Fz) (g : Gh) (d : List Up) : List AV → List Value → Prop
  | nil : XE F g d [] []
  | cons {a : AV} {v : Value} {l : List AV} {vs : List Value} (h : XD F g d a v) (t : XE F g d l vs) : XE F g d (a :: l) (v :: vs)
/-- The moves that fill a new root. -/
theorem fills_ok {d : Nat} {c : AV} {n : Nd} {R' : Nat → Value} (hal : s.alias = false) (H : RM B (Kd s.d) g R s.h w) (hd : hget s.h d = none) {cs : Array Value} {el : TypeId} {nn : Nd} (hnn : nn = ⟨w.heap.size, 0, n.sz, n.cap, false⟩)
    (hnew : RM B (Kd s.d) (newG g d nn) R' (hins s.h d c) { w with heap := w.heap.push (.cells cs el) }) {ms : List Mv} (hms : ∀ m ∈ ms, m.st s B g w ∧ m.par = ⟨d, []⟩ ∧ m.f = true ∧ getT c [(m.i, m.j)] = some .un ∧ cs[m.i * n.sz + m.j]? = some m.v)
    (hap : apartUps (ms.flatMap Mv.ups) = true) :
    ∃ g' R', RM B (Kd (s.d ++ dn (.new d c :: ms.flatMap Mv.ups))) g' R' (Up.apps (.new d c :: ms.flatMap Mv.ups) s.h) { w with heap := w.heap.push (.cells cs el) } ∧
      (mkF B g w).le (mkF B g' { w with heap := w.heap.push (.cells cs el) }) ∧ (∀ pl n, okD (s.d ++ dn (.new d c :: ms.flatMap Mv.ups)) pl → g pl.r pl.p = some n → g' pl.r pl.p = some n) ∧ g' d [] = some nn := by
  subst hnn
  have hle := le_new (B := B) (g := g) (w := w) H (r := d) (o := .cells cs el) (sz := n.sz) (cap := n.cap) (wh := false)
  have hdR : ∀ m ∈ ms, m.src.r ≠ d := by
    intro m hm e
    obtain ⟨c', hc'⟩ := (hms m hm).1.get
    obtain ⟨a, ha, _⟩ := getP_some (look_some hc').2
    rw [e, hd] at ha; cases ha
  have hlt : ∀ (a : Addr) v, w.cell? a = some v → a.block < w.heap.size := by
    intro a v hv
    unfold World.cell? at hv
    cases hx : w.heap[a.block]? with
    | none => rw [hx] at hv; cases hv
    | some x => exact (Array.getElem?_eq_some_iff.1 hx).1
  obtain ⟨g', R2, f1, f2, f3⟩ := moves_ok (s := s) hal (K := Kd s.d) (fun h => free_no h s.d) hnew (ms := ms) (fun m hm => by
    obtain ⟨m1, m2, m3, m4, m5⟩ := hms m hm
    refine ⟨m1.ab, m1.rt.mono hle fun pl k hp hk => Keeps.new H hd (us := []) pl k rfl hk, m1.ref, m1.okd, m1.gone, ?_, ?_⟩
    · obtain ⟨c', hc'⟩ := m1.get
      exact ⟨c', hc', by rw [getP_hins_ne (hdR m hm)]; exact (look_some hc').2⟩
    · refine ⟨.un, ⟨w.heap.size, 0, n.sz, n.cap, false⟩, ?_, by rw [m2]; simp [newG], ?_⟩
      · unfold getP Mv.q Pl.cell
        rw [m2]
        simp only [hget_hins, if_true, Option.bind_some, List.nil_append]
        exact m4
      · unfold World.cell?
        simp [m5]) hap
  have hdn : dn (.new d c :: ms.flatMap Mv.ups) = dn (ms.flatMap Mv.ups) := rfl
  refine ⟨g', R2, f1.weakK fun q hq => Kd_app q hq, le_trans' hle (le_sub f2), fun pl k hok hk => ?_, ?_⟩
  · have hpd : pl.r ≠ d := by rintro e; rw [e, H.void d hd] at hk; cases hk
    refine f3 pl k (fun u hu => ?_) (Keeps.new H hd (us := []) pl k rfl hk)
    rw [hdn] at hok
    obtain ⟨m, hm, hu'⟩ := List.mem_flatMap.1 hu
    obtain ⟨m1, m2, m3, _⟩ := hms m hm
    have hdd := okD_split hok
    simp only [Mv.ups, List.mem_cons, List.not_mem_nil, or_false] at hu'
    rcases hu' with rfl | rfl
    · rw [m1.gone, gone_pl]
      refine hits_gone ?_
      have : gone m.src ∈ dn (ms.flatMap Mv.ups) := by
        refine List.mem_filter.2 ⟨List.mem_flatMap.2 ⟨m, hm, by simp [Mv.ups, m1.gone]⟩, ?_⟩
        unfold gone; split <;> rfl
      have h2 := List.any_eq_false.1 hdd _ this
      simpa using h2
    · rw [wr_pl]
      simp only [Mv.q, Pl.cell, m2, Pl.pre, Bool.and_eq_false_iff]
      exact .inl (nbF fun e => hpd e.symm)
  · refine f3 ⟨d, []⟩ _ (fun u hu => ?_) (by simp [newG])
    obtain ⟨m, hm, hu'⟩ := List.mem_flatMap.1 hu
    obtain ⟨m1, m2, m3, _⟩ := hms m hm
    simp only [Mv.ups, List.mem_cons, List.not_mem_nil, or_false] at hu'
    rcases hu' with rfl | rfl
    · rw [m1.gone, gone_pl]
      simp only [Pl.pre, Bool.and_eq_false_iff]
      exact .inl (nbF (hdR m hm))
    · rw [wr_pl]
      simp [Mv.q, Pl.cell, m2, Pl.pre, pre]
theorem oBox_ok (H : RM B (Kd s.d) g R s.h w) {d ty : Nat} {a : AV} {va : Value} {e : Eff} (ha : XD (mkF B g w) g s.d a va) (he : oBox s (some d) a = some e) : Does P B g s w e (Instr.box ty va) := by
  unfold oBox at he
  simp only at he
  cases hp : putEl s ⟨d, []⟩ 0 a with
  | none => simp [hp, oops] at he
  | some q =>
    obtain ⟨b, rs, us⟩ := q
    simp only [hp] at he
    cases hc : (freshId s d && apartUps us && known a && !s.alias) with
    | false => rw [hc] at he; cases he
    | true =>
      rw [hc, cond_true, Option.some.injEq] at he; subst he
      simp only [Bool.and_eq_true, Bool.not_eq_true'] at hc
      obtain ⟨⟨⟨hc1, hc2⟩, hc3⟩, hal⟩ := hc
      obtain ⟨hr, hk⟩ := freshId_iff hc1
      obtain ⟨ms, rfl, m2, m3, m4, m5, m6⟩ := putEl_ok hal hc3 hp ha
      have hnew := H.new (r := d) (c := .bx b) (cs := va.cells) (el := ty) (sz := (cells b).length) (cap := 1) hr hk (by have : va.cells.size = (cells a).length := by simpa using m3
                                                                                                                         omega) (v := .pointer (some ⟨w.heap.size, 0, none⟩))
          ⟨_, rfl, rfl, rfl, rfl, rfl⟩ rfl (by intro _ _ h; cases h) (fun i j x hx => by
            simp only [step1] at hx
            split at hx
            · rename_i h0
              obtain ⟨u, e1, e2⟩ := m4 j x hx
              obtain ⟨s1, s2, _⟩ := RF_shape e2
              exact ⟨s1, s2, u, by rw [h0]; simpa using e1, e2⟩
            · cases hx)
      obtain ⟨g', R', f1, f2, f3, f4⟩ := fills_ok hal H hr (n := ⟨0, 0, (cells b).length, 1, false⟩) rfl hnew (ms := ms) (fun m hm => by
        obtain ⟨e1, e2, e3, e4, e5, e6⟩ := m5 m hm
        refine ⟨e1, e2, e4, ?_, ?_⟩
        · rw [e3]; simp [getT, step1, e6]
        · rw [e3]; simpa using e5) hc2
      refine ⟨.pointer (some ⟨w.heap.size, 0, none⟩), _, g', R', by simp [Instr.box, newVar, newRow], f1, f2, f3, ptrX (n := ⟨w.heap.size, 0, (cells b).length, 1, false⟩) f4 rfl (by simp)⟩
end Go.Am
end
section
namespace Go.Am
open Go.RowKit
variable {P : Program} {cx : Cx} {B : Base} {K : Nat → Prop} {g g' : Gh} {R : Nat → Value} {s : St} {h h' : Hp} {w w' : World}
/-- A row of elements in an array. -/
def Row (F : Fz) (g : Gh) (d : List Up) (sz : Nat) (es : List AV) (arr : Array Value) : Prop :=
  arr.size = es.length * sz ∧ ∀ i e, es[i]? = some e → known e = true ∧ (cells e).length = sz ∧ ∃ v : Value, XD F g d e v ∧ v.cells.size = sz ∧ ∀ j, j < sz → arr[i * sz + j]? = v.cells[j]?
theorem row_lt {i n sz j : Nat} (hi : i < n) (hj : j < sz) : i * sz + j < n * sz := by
  have : (i + 1) * sz ≤ n * sz := Nat.mul_le_mul_right _ hi
  rw [Nat.add_mul] at this; omega
theorem zeros_row {F : Fz} {d : List Up} {z : AV} {zv : Value} {n sz : Nat} (hz : z = cv zv) (ho : zv.cells.toList.all one = true) (hk : known z = true) (hl : (cells z).length = sz) (hs : 1 ≤ sz) :
    Row F g d sz (List.replicate n z) ((Array.range (n * sz)).map (zv.cells[· % zv.cells.size]!)) := by
  have hX : XD F g d z zv := by
    refine .inr ?_
    have := cvX (F := F) (g := g) (d := d) ho
    rw [hz]
    rw [fade_eq1 (by cases hh : cv zv <;> first | rfl | (rw [hz, hh] at hk; cases hk))]
    exact .c this
  obtain ⟨vs, h1, h2⟩ := X_cells hX hk
  have hsz : zv.cells.size = sz := by have := RTL_len h2; rw [← h1] at this; simp at this; omega
  refine ⟨by simp, fun i e he => ?_⟩
  rw [List.getElem?_replicate] at he
  split at he
  · rename_i hi
    cases he
    refine ⟨hk, hl, zv, hX, hsz, fun j hj => ?_⟩
    have hlt := row_lt hi hj
    rw [hsz]
    have e1 : (i * sz + j) % sz = j := by rw [Nat.add_comm, Nat.add_mul_mod_self_right, Nat.mod_eq_of_lt hj]
    have e2 : ((Array.range (n * sz)).map (zv.cells[· % sz]!))[i * sz + j]? = some (zv.cells[(i * sz + j) % sz]!) := by
      rw [Array.getElem?_map, Array.getElem?_range, if_pos hlt]; rfl
    rw [e2, e1]
    have : j < zv.cells.size := by omega
    simp [this]
  · cases he
theorem fillS_ok {F : Fz} {d : List Up} {sz : Nat} : ∀ {ps : List (Nat × AV)} {vs : List (Nat × Value)} {es r : List AV} {arr : Array Value}, XP F g d ps vs → Row F g d sz es arr → fillS sz es ps = some r →
    ∃ arr', Instr.fill (fun i => some (i * sz, sz)) arr vs = some arr' ∧ Row F g d sz r arr' ∧ r.length = es.length
  | [], _, es, r, arr, .nil, h, hf => by simp [fillS] at hf; subst hf; exact ⟨arr, rfl, h, rfl⟩
  | (i, a) :: ps, _, es, r, arr, .cons (v := v) (vs := vs) hx ht, h, hf => by
    simp only [fillS] at hf
    cases hc : (Nat.blt i es.length && Nat.beq (cells a).length sz && known a) with
    | false => rw [hc] at hf; cases hf
    | true =>
      rw [hc, cond_true] at hf
      simp only [Bool.and_eq_true] at hc
      have hi : i < es.length := by
        have := hc.1.1
        simp [Nat.blt] at this; omega
      have hl : (cells a).length = sz := by simpa using hc.1.2
      obtain ⟨vv, h1, h2⟩ := X_cells hx hc.2
      have hsz : v.cells.size = sz := by have := RTL_len h2; rw [← h1] at this; simp at this; omega
      have hle : i * sz + sz ≤ arr.size := by
        rw [h.1]
        have : (i + 1) * sz ≤ es.length * sz := Nat.mul_le_mul_right _ hi
        rw [Nat.add_mul] at this; omega
      simp only [Instr.fill]
      rw [if_neg (by simp [hsz]; omega)]
      have hf1 := fold_set arr v.cells.toList (i * sz) 0 (by simp [hsz]; omega)
      have hfe : (v.cells.zipIdx.foldl (fun cs (x : Value × Nat) => cs.setIfInBounds (i * sz + x.2) x.1) arr) = ((v.cells.toList.zipIdx 0).foldl (fun c (x : Value × Nat) => c.setIfInBounds (i * sz + x.2) x.1) arr) := by
        rw [← Array.foldl_toList]
        simp
      have hlen : v.cells.toList.length = sz := by simpa using hsz
      obtain ⟨arr', a1, a2, a3⟩ := fillS_ok (es := es.set i a) (arr := v.cells.zipIdx.foldl (fun cs (x : Value × Nat) => cs.setIfInBounds (i * sz + x.2) x.1) arr) ht (by
        have hget : ∀ k, (v.cells.zipIdx.foldl (fun cs (x : Value × Nat) => cs.setIfInBounds (i * sz + x.2) x.1) arr)[k]? = if i * sz ≤ k ∧ k < i * sz + sz then v.cells[k - i * sz]? else arr[k]? := by
          intro k
          rw [hfe, ← Array.getElem?_toList, hf1]
          simp only [Nat.add_zero]
          have hta : (arr.toList.take (i * sz)).length = i * sz := by simp; omega
          by_cases hk1 : k < i * sz
          · rw [List.getElem?_append_left (by simp; omega), List.getElem?_append_left (by rw [hta]; exact hk1), List.getElem?_take_of_lt hk1, if_neg (by omega)]
            simp
          · by_cases hk2 : k < i * sz + sz
            · rw [List.getElem?_append_left (by simp; omega), List.getElem?_append_right (by rw [hta]; omega), hta, if_pos ⟨by omega, hk2⟩]
              simp
            · rw [List.getElem?_append_right (by simp; omega), if_neg (by omega)]
              simp only [List.length_append, hta, hlen, List.getElem?_drop]
              have : i * sz + sz + (k - (i * sz + sz)) = k := by omega
              rw [this]; simp
        refine ⟨?_, fun k e he => ?_⟩
        · have hs := congrArg List.length hf1
          rw [hfe, ← Array.length_toList, hs]
          have := h.1
          simp
          omega
        · rw [List.getElem?_set] at he
          by_cases hik : i = k
          · subst hik
            rw [if_pos rfl, if_pos hi] at he
            cases he
            refine ⟨hc.2, hl, v, hx, hsz, fun j hj => ?_⟩
            rw [hget, if_pos ⟨by omega, by omega⟩]
            congr 1; omega
          · rw [if_neg hik] at he
            obtain ⟨q1, q2, v', q3, q4, q5⟩ := h.2 k e he
            refine ⟨q1, q2, v', q3, q4, fun j hj => ?_⟩
            rw [hget, if_neg, q5 j hj]
            rintro ⟨x1, x2⟩
            rcases Nat.lt_or_gt_of_ne hik with hlt | hgt
            · have : (i + 1) * sz ≤ k * sz := Nat.mul_le_mul_right _ hlt
              rw [Nat.add_mul] at this; omega
            · have : (k + 1) * sz ≤ i * sz := Nat.mul_le_mul_right _ hgt
              rw [Nat.add_mul] at this; omega) hf
      exact ⟨arr', a1, a2, by simpa using a3⟩
theorem putEls_ok (hal : s.alias = false) {pl : Pl} {sz : Nat} : ∀ {es : List AV} {i : Nat} {bs : List AV} {rs : List Rd} {us : List Up}, putEls s pl i es = some (bs, rs, us) →
    (∀ (k : Nat) e, es[k]? = some e → known e = true ∧ (cells e).length = sz ∧ ∃ v : Value, XD (mkF B g w) g s.d e v) → ∀ (val : Nat → Value), (∀ (k : Nat) e, es[k]? = some e → XD (mkF B g w) g s.d e (val (i + k))) →
    ∃ ms : List Mv, us = ms.flatMap Mv.ups ∧ bs.length = es.length ∧ (∀ (k : Nat) b, bs[k]? = some b → isNode b = false ∧ (cells b).length = sz ∧ ∀ (j : Nat) x, (cells b)[j]? = some x → ∃ u, (val (i + k)).cells.toList[j]? = some u ∧ RF (mkF B g w) x u) ∧
      (∀ m ∈ ms, m.st s B g w ∧ m.par = pl ∧ m.f = true ∧ ∃ k b, m.i = i + k ∧ bs[k]? = some b ∧ (cells b)[m.j]? = some .un ∧ (val (i + k)).cells.toList[m.j]? = some m.v ∧ m.j < sz)
  | [], i, bs, rs, us, h, _, _, _ => by
    simp only [putEls, Option.some.injEq, Prod.mk.injEq] at h
    obtain ⟨rfl, rfl, rfl⟩ := h
    exact ⟨[], rfl, rfl, fun k b hk => by simp at hk, fun m hm => by cases hm⟩
  | e :: es, i, bs, rs, us, h, hk, val, hv => by
    simp only [putEls] at h
    cases hp : putEl s pl i e with
    | none => simp [hp] at h
    | some q =>
      obtain ⟨b, r1, u1⟩ := q
      simp only [hp] at h
      cases hp2 : putEls s pl (i + 1) es with
      | none => simp [hp2] at h
      | some q2 =>
        obtain ⟨bs', r2, u2⟩ := q2
        simp only [hp2, Option.some.injEq, Prod.mk.injEq] at h
        obtain ⟨rfl, rfl, rfl⟩ := h
        have hk0 := hk 0 e rfl
        obtain ⟨ms1, m1, m2, m3, m4, m5, m6⟩ := putEl_ok hal hk0.1 hp (by have := hv 0 e rfl; rw [Nat.add_zero] at this; exact this)
        obtain ⟨ms2, n1, n2, n3, n4⟩ := putEls_ok hal hp2 (fun k x hx => hk (k + 1) x (by simpa using hx)) val (fun k x hx => by
          have := hv (k + 1) x (by simpa using hx); rw [show i + 1 + k = i + (k + 1) by omega]; exact this)
        refine ⟨ms1 ++ ms2, by simp [m1, n1], by simp [n2], fun k y hy => ?_, fun m hm => ?_⟩
        · cases k with
          | zero => simp at hy; subst hy; exact ⟨m6, by rw [m2]; exact hk0.2.1, m4⟩
          | succ k =>
            obtain ⟨x1, x2, x3⟩ := n3 k y (by simpa using hy)
            exact ⟨x1, x2, by rw [show i + (k + 1) = i + 1 + k by omega]; exact x3⟩
        · rcases List.mem_append.1 hm with hm | hm
          · obtain ⟨x1, x2, x3, x4, x5, x6⟩ := m5 m hm
            refine ⟨x1, x2, x4, 0, b, by simp [x3], rfl, x6, by simpa using x5, ?_⟩
            have := (List.getElem?_eq_some_iff.1 x6).1; rw [m2, hk0.2.1] at this; exact this
          · obtain ⟨x1, x2, x3, k, b', x4, x5, x6, x7, x8⟩ := n4 m hm
            exact ⟨x1, x2, x3, k + 1, b', by omega, by simpa using x5, x6, by rw [show i + (k + 1) = i + 1 + k by omega]; exact x7, x8⟩
theorem ow_head {F : Fz} {ob : Nat → Option Obj} {sz cap b : Nat} {bs : List AV} (h1 : bs.length ≤ cap) (h2 : ∀ e ∈ bs, (cells e).length = sz) :
    LF F ob g (.ow sz bs) (some ⟨b, 0, sz, cap, false⟩) (.slice (some ⟨b, 0, none⟩) bs.length cap) := ⟨_, rfl, rfl, rfl, h1, rfl, h2⟩
theorem oBuildSlice_ok (hT : TOk P cx) (H : RM B (Kd s.d) g R s.h w) {d ty len : Nat} {ps : List (Nat × AV)} {vs : List (Nat × Value)} {e : Eff} (ha : XP (mkF B g w) g s.d ps vs)
    (he : oBuildSlice cx s (some d) ty len ps = some e) : Does P B g s w e (Instr.buildSlice ty len vs.toArray) := by
  unfold oBuildSlice at he
  split at he
  · rename_i d' el hd' hk
    cases hd'
    cases hei : cx.T el with
    | none => simp [hei] at he
    | some ei =>
      simp only [hei] at he
      cases hz : ei.zero with
      | none => simp [hz] at he
      | some z =>
        simp only [hz] at he
        cases hf : fillS ei.size (List.replicate len z) ps with
        | none => simp [hf] at he
        | some es =>
          simp only [hf] at he
          cases hp : putEls s ⟨d, []⟩ 0 es with
          | none => simp [hp] at he
          | some q =>
            obtain ⟨bs, rs, us⟩ := q
            simp only [hp, oops] at he
            cases hc : (freshId s d && apartUps us && Nat.beq (cells z).length ei.size && known z && Nat.ble 1 ei.size && Nat.ble (len * ei.size) (2 ^ 24) && !s.alias) with
            | false => rw [hc] at he; cases he
            | true =>
              rw [hc, cond_true, Option.some.injEq] at he; subst he
              simp only [Bool.and_eq_true, Bool.not_eq_true'] at hc
              obtain ⟨⟨⟨⟨⟨⟨hc1, hc2⟩, hc3⟩, hc4⟩, hc5⟩, hc6⟩, hal⟩ := hc
              obtain ⟨hr, hkd⟩ := freshId_iff hc1
              have hlz : (cells z).length = ei.size := by simpa using hc3
              have hs1 : 1 ≤ ei.size := by simpa using hc5
              have hs2 : len * ei.size ≤ 2 ^ 24 := by simpa using hc6
              have hu := kind_slice hT hk
              have hty := hT el ei hei
              obtain ⟨zv, z1, z2, z3⟩ := run_zero w hty hz
              have hrow := zeros_row (F := mkF B g w) (g := g) (d := s.d) (n := len) z2 z3 hc4 hlz hs1
              obtain ⟨arr, f1, f2, f3⟩ := fillS_ok ha hrow hf
              simp at f3
              classical
              let val : Nat → Value := fun k => if hx : ∃ v, ∃ e, es[k]? = some e ∧ XD (mkF B g w) g s.d e v ∧ v.cells.size = ei.size ∧ ∀ j, j < ei.size → arr[k * ei.size + j]? = v.cells[j]? then hx.choose else undef
              have hval : ∀ k e, es[k]? = some e → XD (mkF B g w) g s.d e (val k) ∧ (val k).cells.size = ei.size ∧ ∀ j, j < ei.size → arr[k * ei.size + j]? = (val k).cells[j]? := by
                intro k e hke
                obtain ⟨_, _, v, q1, q2, q3⟩ := f2.2 k e hke
                have hx : ∃ v, ∃ e, es[k]? = some e ∧ XD (mkF B g w) g s.d e v ∧ v.cells.size = ei.size ∧ ∀ j, j < ei.size → arr[k * ei.size + j]? = v.cells[j]? := ⟨v, e, hke, q1, q2, q3⟩
                have : val k = hx.choose := dif_pos hx
                rw [this]
                obtain ⟨e', p1, p2, p3, p4⟩ := hx.choose_spec
                rw [hke] at p1; cases p1
                exact ⟨p2, p3, p4⟩
              obtain ⟨ms, rfl, m2, m3, m4⟩ := putEls_ok (B := B) (g := g) (w := w) hal (sz := ei.size) hp (fun k e hke => ⟨(f2.2 k e hke).1, (f2.2 k e hke).2.1, _, (hval k e hke).1⟩) val (fun k e hke => by rw [Nat.zero_add]; exact (hval k e hke).1)
              have hel : ∀ (k : Nat) (b : AV), bs[k]? = some b → ∃ e, es[k]? = some e := by
                intro k b hb
                have := (List.getElem?_eq_some_iff.1 hb).1
                rw [m2] at this
                exact ⟨_, List.getElem?_eq_some_iff.2 ⟨this, rfl⟩⟩
              have hnew := H.new (r := d) (c := .ow ei.size bs) (cs := arr) (el := el) (sz := ei.size) (cap := bs.length) hr hkd (by rw [f2.1, m2, Nat.mul_comm]; exact Nat.le_refl _) (v := .slice (some ⟨w.heap.size, 0, none⟩) bs.length bs.length)
                (ow_head (Nat.le_refl _) (fun e he => by obtain ⟨k, hk'⟩ := List.mem_iff_getElem?.1 he; exact (m3 k e hk').2.1)) rfl (by intro _ _ h; cases h) (fun i j x hx => by
                  simp only [step1] at hx
                  cases hb : bs[i]? with
                  | none => simp [hb] at hx
                  | some b =>
                    simp only [hb, Option.bind_some] at hx
                    obtain ⟨_, q2, q3⟩ := m3 i b hb
                    obtain ⟨u, e1, e2⟩ := q3 j x hx
                    obtain ⟨s1, s2, _⟩ := RF_shape e2
                    refine ⟨s1, s2, u, ?_, e2⟩
                    obtain ⟨e0, he0⟩ := hel i b hb
                    have hj : j < ei.size := by have := (List.getElem?_eq_some_iff.1 hx).1; omega
                    rw [(hval i e0 he0).2.2 j hj]
                    rw [Nat.zero_add] at e1
                    simpa using e1)
              obtain ⟨g', R', x1, x2, x3, x4⟩ := fills_ok hal H hr (n := ⟨0, 0, ei.size, bs.length, false⟩) rfl hnew (ms := ms) (fun m hm => by
                obtain ⟨q1, q2, q3, k, b, q4, q5, q6, q7, q8⟩ := m4 m hm
                refine ⟨q1, q2, q3, ?_, ?_⟩
                · rw [q4, Nat.zero_add]; simp [getT, step1, q5, q6]
                · obtain ⟨e0, he0⟩ := hel k b q5
                  rw [q4, Nat.zero_add, (hval k e0 he0).2.2 m.j q8]
                  rw [Nat.zero_add] at q7
                  simpa using q7) hc2
              refine ⟨.slice (some ⟨w.heap.size, 0, none⟩) len len, _, g', R', ?_, x1, x2, x3, rfXX (cap := bs.length) (n := ⟨w.heap.size, 0, ei.size, bs.length, false⟩) x4 rfl rfl (by simp) (Nat.le_refl _) (by simp [m2, f3])⟩
              have hzero : (if len * ei.size = 0 then pure #[] else do pure (← zeroValue el).cells : Sem (Array Value)).run P w = .ok (if len * ei.size = 0 then #[] else zv.cells) w := by
                split
                · simp
                · simp [z1]
              have harr : ((Array.range (len * ei.size)).map ((if len * ei.size = 0 then #[] else zv.cells)[· % (if len * ei.size = 0 then #[] else zv.cells).size]!)) = (Array.range (len * ei.size)).map (zv.cells[· % zv.cells.size]!) := by
                by_cases h0 : len * ei.size = 0
                · simp [h0]
                · simp [h0]
              simp only [Instr.buildSlice, Sem.run_bind, run_underlying' w hu, Result.andThen_ok, run_size w hty]
              rw [if_neg (by omega)]
              by_cases h0 : len * ei.size = 0
              · rw [if_pos h0]
                rw [if_pos h0] at harr
                simp only [Sem.run_bind, Sem.run_pure, Result.andThen_ok, harr, f1]
                simp [newRow]
              · rw [if_neg h0]
                simp only [Sem.run_bind, Sem.run_pure, Result.andThen_ok, z1, f1]
                simp [newRow]
  · cases he
end Go.Am
end
section
namespace Go.Am
open Go.RowKit
variable {P : Program} {cx : Cx} {B : Base} {K : Nat → Prop} {g g' : Gh} {R : Nat → Value} {s : St} {h h' : Hp} {w w' : World}
theorem wrap_small {n : Int} (h0 : 0 ≤ n) (h1 : n ≤ roomB) : IntKind.i64.wrap n = n := by
  have : (roomB : Int) = 70368744177664 := by decide
  exact IntWalk.i64_in _ (by omega)
theorem oMakeSlice_ok (hT : TOk P cx) (H : RM B (Kd s.d) g R s.h w) {d ty : Nat} {a b : AV} {va vb : Value} {e : Eff} (ha : XD (mkF B g w) g s.d a va) (hb : XD (mkF B g w) g s.d b vb)
    (he : oMakeSlice cx s (some d) ty a b = some e) : Does P B g s w e (Instr.makeSlice ty va vb) := by
  unfold oMakeSlice at he
  split at he
  · rename_i d' el hd' hk
    cases hd'
    cases hei : cx.T el with
    | none => simp [hei] at he
    | some ei =>
      simp only [hei] at he
      split at he
      · rename_i z k n k' m hz
        cases hc : (decide (0 ≤ n) && decide (n ≤ m) && decide (m * ei.bytes ≤ roomB) && decide (m ≤ roomB) && freshId s d && Nat.beq (cells z).length ei.size && plainEl z) with
        | false => rw [hc] at he; cases he
        | true =>
          rw [hc, cond_true, Option.some.injEq] at he; subst he
          simp only [Bool.and_eq_true, decide_eq_true_eq] at hc
          obtain ⟨⟨⟨⟨⟨⟨h0, h1⟩, h2⟩, h3⟩, h4⟩, h5⟩, h6⟩ := hc
          obtain ⟨hr, hkd⟩ := freshId_iff h4
          have hlz : (cells z).length = ei.size := by simpa using h5
          have hu := kind_slice hT hk
          have hty := hT el ei hei
          obtain ⟨zv, z1, z2, z3⟩ := run_zero w hty hz
          obtain ⟨info, dd, i1, i2, i3, i4, _⟩ := mkTy_facts hty
          rw [X_int ha, X_int hb]
          have hw1 := wrap_small h0 (by omega)
          have hw2 := wrap_small (n := m) (by omega) h3
          have hroom : (roomB : Int) = 70368744177664 := by decide
          -- the cells of an element
          have hcell : zv.cells.size = ei.size ∧ ∀ (j : Nat) x, (cells z)[j]? = some x → ∃ u, zv.cells[j]? = some u ∧ RF (mkF B g w) x u := by
            by_cases hag : ∃ c, zv = .agg c
            · obtain ⟨c, rfl⟩ := hag
              have h3' : c.toList.all one = true := by simpa [Value.cells] using z3
              simp only [cv, h3', if_true] at z2
              subst z2
              simp only [cells, List.length_map, Array.length_toList] at hlz
              refine ⟨by simpa [Value.cells] using hlz, fun j x hx => ?_⟩
              simp only [cells] at hx
              rw [List.getElem?_map] at hx
              cases hcj : c.toList[j]? with
              | none => simp [hcj] at hx
              | some u =>
                simp [hcj] at hx
                have hu1 : one u = true := List.all_eq_true.1 h3' u (List.mem_of_getElem? hcj)
                have hf := cv1F (F := mkF B g w) hu1
                rw [hx] at hf
                exact ⟨u, by simpa [Value.cells] using hcj, hf⟩
            · have hcv : cv zv = cv1 zv := by cases zv <;> first | rfl | exact absurd ⟨_, rfl⟩ hag
              have hvc : zv.cells = #[zv] := by cases zv <;> first | rfl | exact absurd ⟨_, rfl⟩ hag
              have hone : one zv = true := by rw [hvc] at z3; simpa using z3
              have hf := cv1F (F := mkF B g w) hone
              rw [← hcv, ← z2] at hf
              have hna : nonAgg z = true := (RF_shape hf).2.2
              rw [cells_nonAgg hna] at hlz ⊢
              rw [hvc]
              refine ⟨by simpa using hlz, fun j x hx => ?_⟩
              cases j with
              | zero => simp at hx; subst hx; exact ⟨zv, rfl, hf⟩
              | succ j => simp at hx
          let cs : Array Value := (Array.range (m.toNat * ei.size)).map (zv.cells[· % zv.cells.size]!)
          have hcs : ∀ i j, i < m.toNat → j < ei.size → cs[i * ei.size + j]? = zv.cells[j]? := by
            intro i j hi hj
            have hlt := row_lt hi hj
            have e1 : (i * ei.size + j) % ei.size = j := by rw [Nat.add_comm, Nat.add_mul_mod_self_right, Nat.mod_eq_of_lt hj]
            have e2 : cs[i * ei.size + j]? = some (zv.cells[(i * ei.size + j) % zv.cells.size]!) := by
              show ((Array.range (m.toNat * ei.size)).map _)[_]? = _
              rw [Array.getElem?_map, Array.getElem?_range, if_pos hlt]; rfl
            rw [e2, hcell.1, e1]
            have : j < zv.cells.size := by rw [hcell.1]; exact hj
            simp [this]
          have hnm : n.toNat ≤ m.toNat := by omega
          have hnew := H.new (r := d) (c := .ow ei.size (List.replicate n.toNat z)) (cs := cs) (el := el) (sz := ei.size) (cap := m.toNat) hr hkd (by simp [cs, Nat.mul_comm]) (v := .slice (some ⟨w.heap.size, 0, none⟩) n.toNat m.toNat)
            (by have := ow_head (F := mkF B g w) (ob := obj w) (g := g) (sz := ei.size) (cap := m.toNat) (b := w.heap.size) (bs := List.replicate n.toNat z) (by simpa using hnm) (fun e he => by rw [List.eq_of_mem_replicate he]; exact hlz)
                simpa using this) rfl (by intro _ _ h; cases h) (fun i j x hx => by
              simp only [step1] at hx
              rw [List.getElem?_replicate] at hx
              split at hx
              · rename_i hi
                simp only [Option.bind_some] at hx
                obtain ⟨u, e1, e2⟩ := hcell.2 j x hx
                obtain ⟨s1, s2, _⟩ := RF_shape e2
                have hj : j < ei.size := by have := (List.getElem?_eq_some_iff.1 hx).1; omega
                exact ⟨s1, s2, u, by rw [hcs i j (by omega) hj]; exact e1, e2⟩
              · simp at hx)
          refine ⟨.slice (some ⟨w.heap.size, 0, none⟩) n.toNat m.toNat, _, _, _, ?_, hnew.weakK fun q hq => Kd_app q hq, le_new H, fun pl k hok hk => Keeps.new H hr pl k (okD_split hok) hk,
            rfXX (cap := m.toNat) (n := ⟨w.heap.size, 0, ei.size, m.toNat, false⟩) (by simp [newG]) rfl rfl (by simp) hnm (by simp)⟩
          have t1 : (decide (m < 0) || decide ((info.bytes : Int) * m > 2 ^ 48)) = false := by
            rw [i4] at h2
            have : (info.bytes : Int) * m = m * info.bytes := Int.mul_comm _ _
            simp only [this, Bool.or_eq_false_iff, decide_eq_false_iff_not]
            omega
          simp only [Instr.makeSlice, Sem.run_bind, run_underlying' w hu, Result.andThen_ok, asInt, asIntOf, Sem.run_pure, run_typeInfo w i1, hw1, hw2, t1, Bool.false_or]
          have t2 : (decide (n < 0) || decide (n > m)) = false := by simp; omega
          rw [t2]
          simp only [Bool.false_eq_true, if_false, Sem.run_bind, Sem.run_pure, Result.andThen_ok, run_askRoom, run_size w hty]
          by_cases hz0 : m.toNat * ei.size = 0
          · rw [if_pos hz0]
            have hce : cs = (Array.range (m.toNat * ei.size)).map ((#[] : Array Value)[· % (#[] : Array Value).size]!) := by simp [cs, hz0]
            simp only [Sem.run_bind, Sem.run_pure, Result.andThen_ok]
            rw [← hce]
            simp [newRow]
          · rw [if_neg hz0]
            simp only [Sem.run_bind, Sem.run_pure, Result.andThen_ok, z1]
            rw [show (Array.range (m.toNat * ei.size)).map (zv.cells[· % zv.cells.size]!) = cs from rfl]
            simp [newRow]
      · cases he
  · cases he
end Go.Am
end
section
namespace Go.Am
open Go.RowKit
variable {P : Program} {cx : Cx} {B : Base} {K : Nat → Prop} {g g' : Gh} {R : Nat → Value} {s : St} {h h' : Hp} {w w' : World}
theorem putCell_putCell {e : AV} {j : Nat} {x y z : AV} (h : (cells e)[j]? = some x) (hy : nonAgg y = true) (hz : nonAgg z = true) : putCell (putCell e j y) j z = putCell e j z := by
  cases e with
  | agg cs => simp [putCell]
  | _ =>
    simp only [cells] at h
    have hj : j = 0 := by
      rcases j with _ | j
      · rfl
      · simp at h
    subst hj
    simp only [putCell, if_true]
    cases y <;> first | rfl | cases hy
theorem put1_put1 {a x y z : AV} {t : Nat × Nat} (h : step1 a t = some x) (hy : nonAgg y = true) (hz : nonAgg z = true) : put1 (put1 a t y) t z = put1 a t z := by
  obtain ⟨i, j⟩ := t
  rcases step1_some h with ⟨sz, es, e, rfl, he, hj⟩ | ⟨e, rfl, rfl, hj⟩
  · have hi : i < es.length := (List.getElem?_eq_some_iff.1 he).1
    simp only [put1, he, List.getElem?_set, if_true, hi, putCell_putCell hj hy hz, List.set_set]
  · simp only [put1, putCell_putCell hj hy hz]
theorem setT_same {a old u c : AV} {p : List (Nat × Nat)} (h : getT a p = some old) (hu : nonAgg u = true) (hc : nonAgg c = true) : setT (setT a p u) p c = setT a p c := by
  induction p generalizing a with
  | nil => rfl
  | cons t p ih =>
    obtain ⟨y, h1, h2, h3, h4⟩ := setT_node h hu
    obtain ⟨y', h1', h2', h3', h4'⟩ := setT_node h hc
    rw [h1] at h1'; cases h1'
    rw [h2, h2']
    have : step1 (put1 a t (setT y p u)) t = some (setT y p u) := by rw [step1_put1 h1 h4, if_pos rfl]
    simp only [setT, this]
    rw [ih h3, put1_put1 h1 h4 h4']
/-- One cell is stored. -/
structure Cell1 (s : St) (B : Base) (K : Nat → Prop) (g : Gh) (h : Hp) (w : World) (par : Pl) (i j : Nat) (n : Nd) (a : AV) (v : Value) : Prop where
  dst : ∃ old, getP h (par.cell i j) = some old
  hpar : g par.r par.p = some n
  rt : RT (mkF B g w) g (fadeC s.d a) v
  src : ∀ src c, refOf a = some src → look s true src = some c → getP h src = some c
def after (n : Nd) (i j : Nat) (w : World) (v : Value) : World := w.setCell ⟨n.b, n.o + i * n.sz + j, none⟩ v
theorem write_step (H : RM B K g R h w) {par : Pl} {i j : Nat} {n : Nd} {c old : AV} {v : Value} (hd : getP h (par.cell i j) = some old) (hp : g par.r par.p = some n) (hc : isNode c = false) (hca : nonAgg c = true)
    (hl : LF (mkF B g w) (obj w) g c none v) (hk : ∀ q len, c = .lk q len → K q) :
    RM B K (cutG g par.r (par.p ++ [(i, j)])) R (Up.app h (.set (par.cell i j) c)) (after n i j w v) ∧ (mkF B g w).le (mkF B (cutG g par.r (par.p ++ [(i, j)])) (after n i j w v)) := by
  obtain ⟨a, ha, hpp⟩ := getP_some hd
  have hw := H.write ha hpp hp hc hca hl hk
  refine ⟨hw.congr fun q => ?_, ?_⟩
  · simp only [Up.app, Pl.cell] at ha ⊢
    rw [ha]
  · obtain ⟨n', u', e1, hw', hi, hj, hu', _⟩ := (H.tree _ a ha).inside hpp
    rw [show par.r = (par.cell i j).r from rfl] at hp
    rw [hp] at e1; cases e1
    have hown : owned g n.b (n.o + i * n.sz + j) := ⟨_, _, n, hp, Nd.has_cell hi hj⟩
    refine le_of (fun b o y hy hno => ?_) fun b o y _ hx => owned_cut hx
    unfold after
    rw [cell_setCell, if_neg]; exact hy
    rintro ⟨rfl, rfl, _⟩; exact hno hown
theorem Keep2.cut {par : Pl} {i j : Nat} {c : AV} : Keep2 [.set (par.cell i j) c] g (cutG g par.r (par.p ++ [(i, j)])) := by
  intro pl m hu hm
  have := hu _ (by simp : Up.set (par.cell i j) c ∈ [Up.set (par.cell i j) c])
  rw [cutG_eq]; exact hm
  rintro ⟨e1, e2⟩
  simp only [Up.pl, Pl.pre, Pl.cell, e1, nbT, Bool.true_and, e2] at this
  cases this
/-- A root of its own is stored where it belongs. -/
theorem lay_step {N : Nat} {par : Pl} {i j : Nat} {n : Nd} {x old : AV} {v : Value} {h0 : Hp} (H : RM B K g R (hins h0 N x) w) (hN : hget h0 N = none) (hR : R N = v) (hx : isNode x = true) (hd : getP h0 (par.cell i j) = some old) (hp : g par.r par.p = some n) (hone : one v = true) :
    ∃ g', RM B K g' R (Up.app h0 (.set (par.cell i j) x)) (after n i j w v) ∧ (mkF B g w).le (mkF B g' (after n i j w v)) ∧ (∀ b o, owned g' b o → owned g b o) ∧
      (∀ pl m, pl.r ≠ N → (par.cell i j).pre pl = false → g pl.r pl.p = some m → g' pl.r pl.p = some m) := by
  obtain ⟨a, ha, hpp⟩ := getP_some hd
  have hqN : par.r ≠ N := by rintro e; rw [show (par.cell i j).r = par.r from rfl, e, hN] at ha; cases ha
  have hd' : getP (hins h0 N x) (par.cell i j) = some old := by rw [getP_hins_ne (show (par.cell i j).r ≠ N from hqN)]; exact hd
  obtain ⟨hw, hle⟩ := write_step (c := .un) (v := v) H hd' hp rfl rfl ⟨rfl, .un _ hone⟩ (fun _ _ e => by cases e)
  have haN : hget (hins h0 N x) par.r = some a := by rw [hget_hins, if_neg hqN]; exact ha
  have happ : Up.app (hins h0 N x) (.set (par.cell i j) .un) = hins (hins h0 N x) par.r (setT a (par.p ++ [(i, j)]) .un) := by
    simp only [Up.app, Pl.cell, haN]
  rw [happ] at hw
  have hpp' : getT a (par.p ++ [(i, j)]) = some old := hpp
  have hold2 : getT (setT a (par.p ++ [(i, j)]) .un) (par.p ++ [(i, j)]) = some .un := by
    have := getT_setT_under hpp' (c := .un) (.inr rfl) []
    rwa [List.append_nil] at this
  obtain ⟨n', u', e1, hw', hi, hj, hu', _⟩ := (H.tree _ a haN).inside hpp'
  rw [hp] at e1; cases e1
  have hnp : pre (par.p ++ [(i, j)]) par.p = false := by
    cases hb : pre (par.p ++ [(i, j)]) par.p with
    | false => rfl
    | true => obtain ⟨r, hr⟩ := pre_iff.1 hb; have := congrArg List.length hr; simp at this
  have hatt := hw.attach (r := par.r) (s := N) (a := setT a (par.p ++ [(i, j)]) .un) (c := x) (old := .un) (p := par.p) (i := i) (j := j) (n := n) (by rw [hget_hins, if_pos rfl]) hold2
    (by rw [hget_hins, if_neg (fun e => hqN e.symm), hget_hins, if_pos rfl]) (fun e => hqN e.symm) (nonAgg_of_node hx) (by rw [cutG_eq (by rintro ⟨_, e⟩; rw [hnp] at e; cases e)]; exact hp)
    (by unfold after; rw [cell_setCell, if_pos ⟨rfl, rfl, by show (w.cell? _).isSome = true; rw [show w.cell? ⟨n.b, n.o + i * n.sz + j, none⟩ = some u' from hu']; rfl⟩, hR])
  have hown : ∀ b o, owned (attG (cutG g par.r (par.p ++ [(i, j)])) par.r (par.p ++ [(i, j)]) N) b o → owned g b o := by
    rintro b o ⟨r', q, k, hk, hb⟩
    unfold attG at hk
    by_cases e : r' = N
    · rw [if_pos e] at hk; cases hk
    · rw [if_neg e] at hk
      by_cases e2 : r' = par.r ∧ pre (par.p ++ [(i, j)]) q = true
      · rw [if_pos e2] at hk; exact ⟨_, _, _, (cutG_some hk).1, hb⟩
      · rw [if_neg e2] at hk; exact ⟨_, _, _, (cutG_some hk).1, hb⟩
  refine ⟨_, hatt.congr fun q => ?_, le_trans' hle (le_sub fun b o hb => ?_), hown, fun pl m h1 h2 h3 => ?_⟩
  · have : Up.app h0 (.set (par.cell i j) x) = hins h0 par.r (setT a (par.p ++ [(i, j)]) x) := by
      have ha' : hget h0 par.r = some a := ha
      simp only [Up.app, Pl.cell, ha']
    rw [this, hget_hins, hget_hdel, hget_hins, hget_hins, hget_hins]
    by_cases e : q = N
    · subst e; rw [if_neg (fun e => hqN e.symm), if_pos rfl]; exact hN
    · by_cases e2 : q = par.r
      · subst e2; rw [if_pos rfl, if_neg e, if_pos rfl, setT_same hpp' rfl (nonAgg_of_node hx)]
      · rw [if_neg e2, if_neg e, if_neg e2, if_neg e2, if_neg e]
  · obtain ⟨r', q, k, hk, hb⟩ := hb
    unfold attG at hk
    by_cases e : r' = N
    · rw [if_pos e] at hk; cases hk
    · rw [if_neg e] at hk
      by_cases e2 : r' = par.r ∧ pre (par.p ++ [(i, j)]) q = true
      · rw [if_pos e2] at hk; exact ⟨_, _, _, hk, hb⟩
      · rw [if_neg e2] at hk; exact ⟨_, _, _, hk, hb⟩
  · simp only [attG, if_neg h1]
    have hne : ¬ (pl.r = par.r ∧ pre (par.p ++ [(i, j)]) pl.p = true) := by
      rintro ⟨e1, e2⟩
      simp only [Pl.pre, Pl.cell, e1, nbT, Bool.true_and, e2] at h2; cases h2
    rw [if_neg hne, cutG_eq hne]; exact h3
/-- What is known of a step: its memory, and what the places keep. -/
def Stepped (B : Base) (K : Nat → Prop) (g : Gh) (h : Hp) (w : World) (us : List Up) (w' : World) : Prop :=
  ∃ g' R', RM B K g' R' (Up.apps us h) w' ∧ (mkF B g w).le (mkF B g' w') ∧ Keep2 us g g'
theorem Stepped.one {u : Up} (h1 : ∃ g' R', RM B K g' R' (Up.app h u) w' ∧ (mkF B g w).le (mkF B g' w') ∧ Keep2 [u] g g') : Stepped B K g h w [u] w' := h1
theorem move_store (hal : s.alias = false) (hfree : ∀ h, ∃ N, hget h N = none ∧ ¬ K N) (H : RM B K g R h w) {par : Pl} {i j : Nat} {n : Nd} {a : AV} {v : Value} (C : Cell1 s B K g h w par i j n a v) {x : AV} {r : List Rd} {src : Pl}
    (hab : absorb1 s a = some (x, r, [gone src])) (hr : refOf a = some src) {c : AV} (hl : look s true src = some c) (hap : src.pre (par.cell i j) = false ∧ (par.cell i j).pre src = false) :
    Stepped B K g h w [gone src, .set (par.cell i j) x] (after n i j w v) := by
  obtain ⟨N, hN, hKN⟩ := hfree h
  have hok := okD_of_look hl
  have hrt : RT (mkF B g w) g a v := by have := C.rt; rwa [fadeC_ok fun q hq => by rw [hr] at hq; cases hq; exact hok] at this
  have hX : XD (mkF B g w) g s.d a v := by
    have hna : nonAgg a = true ∧ nonTup a = true := by cases hma : a <;> rw [hma] at hr <;> first | exact ⟨rfl, rfl⟩ | cases hr
    exact cellX C.rt hna.1 hna.2
  obtain ⟨src', g1, R1, e1, r1, r2, r3, r4, r5, r6⟩ := H.takeOut hal hab hX (fun pl c hl' hu => by
    have : pl = src := by
      have h1 := congrArg Up.pl hu
      rw [gone_pl, gone_pl] at h1; exact h1.symm
    subst this; exact C.src _ _ hr hl') hN hKN
  have hsrc : src' = src := by
    have h1 := congrArg Up.pl e1
    rw [gone_pl, gone_pl] at h1; exact h1.symm
  subst hsrc
  obtain ⟨old, hd⟩ := C.dst
  have hg0 := C.src _ _ hr hl
  have hd1 : getP (Up.app h (gone src')) (par.cell i j) = some old := by rw [getP_gone hg0 hap]; exact hd
  have hqN : par.r ≠ N := by
    obtain ⟨a', ha', _⟩ := getP_some hd
    rintro e; rw [show (par.cell i j).r = par.r from rfl, e, hN] at ha'; cases ha'
  have hsp : src'.pre par = false := by
    cases hb : src'.pre par with
    | false => rfl
    | true => have := Pl.pre_trans hb (pre_cell par i j); rw [hap.1] at this; cases this
  obtain ⟨g2, k1, k2, k3, k4⟩ := lay_step r1 r3 r2 r4 hd1 (r6 par n hqN hsp C.hpar) hrt.one
  refine ⟨g2, R1, k1, le_trans' (le_sub r5) k2, fun pl m hu hm => ?_⟩
  have hpN : pl.r ≠ N := by rintro e; rw [e, H.void N hN] at hm; cases hm
  have u1 := hu (gone src') (by simp)
  rw [gone_pl] at u1
  exact k4 pl m hpN (hu (.set (par.cell i j) x) (by simp)) (r6 pl m hpN u1 hm)
theorem store1_ok (hfree : ∀ h, ∃ N, hget h N = none ∧ ¬ K N) {keep : Nat} (H : RM B K g R h w) {par : Pl} {i j : Nat} {n : Nd} {a : AV} {v : Value} (C : Cell1 s B K g h w par i j n a v) {x : AV} {r : List Rd} {us : List Up}
    (he : putSt1 s keep (par.cell i j) a = some (x, r, us)) (hap : apartUps us = true) (hk : ∀ q len, x = .lk q len → K q) : Stepped B K g h w us (after n i j w v) := by
  obtain ⟨old, hd⟩ := C.dst
  -- a leaf
  have leaf : ∀ c, RF (mkF B g w) c v → Stepped B K g h w [.set (par.cell i j) c] (after n i j w v) := by
    intro c hc
    obtain ⟨s1, s2, s3⟩ := RF_shape hc
    have hl : LF (mkF B g w) (obj w) g c none v := by cases hc <;> first | exact ⟨rfl, .int _ _⟩ | exact ⟨rfl, .bool _⟩ | exact ⟨rfl, .str _⟩ | exact ⟨rfl, .nilp⟩ | exact ⟨rfl, .nil _⟩ | exact ⟨rfl, .un _ (by assumption)⟩ | (refine ⟨rfl, ?_⟩; first | exact .fzs _ _ _ _ _ _ _ (by assumption) (by assumption) (by assumption) (by assumption) | exact .fp _ _ _ _ _ (by assumption) (by assumption))
    obtain ⟨w1, w2⟩ := write_step (c := c) H hd C.hpar s1 s3 hl (fun q len e => absurd e (s2 q len))
    exact ⟨_, _, w1, w2, Keep2.cut⟩
  have unl : one v = true → Stepped B K g h w [.set (par.cell i j) .un] (after n i j w v) := fun ho => leaf .un (.un v ho)
  have hone : one v = true := C.rt.one
  have gen : ∀ {x r us}, absorb1 s a = some (x, r, us) → apartUps (us ++ [.set (par.cell i j) x]) = true → Stepped B K g h w (us ++ [.set (par.cell i j) x]) (after n i j w v) := by
    intro x r us hab hap
    by_cases hal : s.alias = true
    · -- references are forgotten
      cases hra : refOf a with
      | none =>
        have hlf := leaf_of hra C.rt
        have : us = [] ∧ x = a := by
          cases a <;> simp [refOf] at hra <;> simp [absorb1, oops] at hab <;> exact ⟨by simp [hab], hab.1.symm⟩
        rw [this.1, this.2]; exact leaf a hlf
      | some src =>
        have : us = [] ∧ x = .un := by
          cases a <;> simp [refOf] at hra <;> simp [absorb1, hal, oops] at hab <;> exact ⟨by simp [hab], hab.1.symm⟩
        rw [this.1, this.2]; exact unl hone
    · have hal : s.alias = false := by simpa using hal
      rcases absorb1_cases hal hab with ⟨rfl, rfl, hr⟩ | ⟨src, c, rfl, hr, hl, hx⟩
      · exact leaf _ (leaf_of hr C.rt)
      · refine move_store hal hfree H C hab hr hl ?_
        have := (apartUps_cons hap).1 (.set (par.cell i j) x) (by simp)
        rw [gone_pl] at this; exact this
  have linkW : ∀ q len, K q → LF (mkF B g w) (obj w) g (.lk q len) none v → Stepped B K g h w [.set (par.cell i j) (.lk q len)] (after n i j w v) := by
    intro q len hq hl
    obtain ⟨w1, w2⟩ := write_step (c := .lk q len) H hd C.hpar rfl rfl hl (fun q' len' e => by cases e; exact hq)
    exact ⟨_, _, w1, w2, Keep2.cut⟩
  cases a with
  | rf sz pl off len =>
    simp only [putSt1] at he
    split at he
    · simp only [Option.some.injEq, Prod.mk.injEq] at he
      obtain ⟨rfl, rfl, rfl⟩ := he
      exact unl hone
    · rename_i hal
      have hal : s.alias = false := by simpa using hal
      split at he
      · rename_i hc
        simp only [Bool.and_eq_true, Bool.not_eq_true', List.isEmpty_iff, beq_iff_eq] at hc
        cases hu : useOk s pl with
        | false => rw [hu] at he; cases he
        | true =>
          rw [hu, cond_true, Option.some.injEq, Prod.mk.injEq, Prod.mk.injEq] at he
          obtain ⟨rfl, rfl, rfl⟩ := he
          refine linkW _ _ (hk _ _ rfl) ⟨rfl, hone, fun m hm => ?_⟩
          obtain ⟨cap, k, n', f1, f2, f3, f4, f5, f6, rfl⟩ := X_rf (cellX C.rt rfl rfl) (useOk_iff.1 hu)
          rw [hc.1.1] at f1
          rw [f1] at hm; cases hm
          exact ⟨f2, .inl ⟨len, k, cap, rfl, f4, f5, by rcases f6 with h | h; exact .inl h; exact .inr (by rw [h]; exact hc.1.2), rfl⟩⟩
      · split at he
        · rename_i hpp
          simp only [Bool.and_eq_true] at hpp
          cases hl : look s true pl with
          | none => simp [hl, oops] at he
          | some c =>
            simp only [hl] at he
            cases c with
            | ow sz' es =>
              simp only [oops] at he
              split at he
              · rename_i hcc
                simp only [Option.some.injEq, Prod.mk.injEq] at he
                obtain ⟨rfl, rfl, rfl⟩ := he
                -- cut where it lies: pl is the cell itself
                have hplq : pl = par.cell i j := by
                  obtain ⟨p1, p2⟩ := hpp
                  simp only [Pl.pre, Bool.and_eq_true] at p1 p2
                  obtain ⟨a1, ha1⟩ := pre_iff.1 p1.2
                  obtain ⟨a2, ha2⟩ := pre_iff.1 p2.2
                  have hlen := congrArg List.length ha1
                  have hlen2 := congrArg List.length ha2
                  simp at hlen hlen2
                  have : a1 = [] := by cases a1 with | nil => rfl | cons _ _ => simp at hlen; omega
                  subst this
                  cases pl
                  simp at ha1 p1
                  simp [ha1, p1]
                  cases hpc : par.cell i j; simp_all
                have hab : absorb1 s (.rf sz pl off len) = some (.ow sz ((es.drop off).take len), [⟨pl, true⟩], [gone pl]) := by
                  simp only [absorb1, hal, Bool.false_eq_true, if_false, hl]
                  rw [if_pos hcc]
                obtain ⟨N, hN, hKN⟩ := hfree h
                obtain ⟨src', g1, R1, e1, r1, r2, r3, r4, r5, r6⟩ := H.takeOut hal hab (cellX C.rt rfl rfl) (fun q c hl' hu' => by
                  have : q = pl := by
                    have h1 := congrArg Up.pl hu'
                    rw [gone_pl, gone_pl] at h1; exact h1.symm
                  subst this; exact C.src _ _ rfl hl') hN hKN
                have hsrc : src' = pl := by
                  have h1 := congrArg Up.pl e1
                  rw [gone_pl, gone_pl] at h1; exact h1.symm
                subst hsrc
                have hqN : par.r ≠ N := by
                  obtain ⟨a', ha', _⟩ := getP_some hd
                  rintro e; rw [show (par.cell i j).r = par.r from rfl, e, hN] at ha'; cases ha'
                obtain ⟨a0, ha0, hp0⟩ := getP_some hd
                have hp0' : getT a0 (par.p ++ [(i, j)]) = some old := hp0
                have happ : Up.app h (gone src') = hins h par.r (setT a0 (par.p ++ [(i, j)]) .un) := by
                  rw [hplq]; exact app_gone_cell (src := par.cell i j) (p := par.p) (i := i) (j := j) rfl ha0
                have hd1 : getP (Up.app h (gone src')) (par.cell i j) = some .un := by
                  rw [happ]
                  unfold getP
                  rw [show (par.cell i j).r = par.r from rfl, hget_hins, if_pos rfl]
                  have := getT_setT_under hp0' (c := .un) (.inr rfl) []
                  rw [List.append_nil] at this; exact this
                have hsp : src'.pre par = false := by
                  rw [hplq]
                  simp only [Pl.pre, Pl.cell, nbT, Bool.true_and]
                  cases hb : pre (par.p ++ [(i, j)]) par.p with
                  | false => rfl
                  | true => obtain ⟨r, hr⟩ := pre_iff.1 hb; have := congrArg List.length hr; simp at this
                obtain ⟨g2, k1, k2, k3, k4⟩ := lay_step r1 r3 r2 r4 hd1 (r6 par n hqN hsp C.hpar) hone
                refine ⟨g2, R1, k1.congr fun q => ?_, le_trans' (le_sub r5) k2, fun q m hu' hm => ?_⟩
                · have ha0' : hget h par.r = some a0 := ha0
                  have h1 : Up.apps [.set (par.cell i j) (.ow sz ((es.drop off).take len))] h = hins h par.r (setT a0 (par.p ++ [(i, j)]) (.ow sz ((es.drop off).take len))) := by
                    simp only [Up.apps, Up.app, Pl.cell, ha0']
                  have h2 : Up.app (Up.app h (gone src')) (.set (par.cell i j) (.ow sz ((es.drop off).take len))) = hins (hins h par.r (setT a0 (par.p ++ [(i, j)]) .un)) par.r (setT (setT a0 (par.p ++ [(i, j)]) .un) (par.p ++ [(i, j)]) (.ow sz ((es.drop off).take len))) := by
                    rw [happ]
                    have h3 : hget (hins h par.r (setT a0 (par.p ++ [(i, j)]) .un)) par.r = some (setT a0 (par.p ++ [(i, j)]) .un) := by rw [hget_hins, if_pos rfl]
                    simp only [Up.app, Pl.cell, h3]
                  rw [h1, h2, hget_hins, hget_hins, hget_hins, setT_same hp0' rfl rfl]
                  by_cases e : q = par.r <;> simp [e]
                · have hpN : q.r ≠ N := by rintro e; rw [e, H.void N hN] at hm; cases hm
                  have hu2 := hu' (.set (par.cell i j) (.ow sz ((es.drop off).take len))) (by simp)
                  exact k4 q m hpN hu2 (r6 q m hpN (by rw [hplq]; exact hu2) hm)
              · cases he
            | _ => cases he
        · rename_i hpp
          cases hab : absorb1 s (.rf sz pl off len) with
          | none => simp [hab] at he
          | some q =>
            obtain ⟨x', r', us'⟩ := q
            simp only [hab, Option.some.injEq, Prod.mk.injEq] at he
            obtain ⟨rfl, rfl, rfl⟩ := he
            exact gen hab hap
  | ptr pl i' off =>
    simp only [putSt1] at he
    split at he
    · rename_i hc
      simp only [Bool.and_eq_true, Bool.not_eq_true', List.isEmpty_iff, beq_iff_eq] at hc
      cases hu : useOk s pl with
      | false => rw [hu] at he; cases he
      | true =>
        rw [hu, cond_true, Option.some.injEq, Prod.mk.injEq, Prod.mk.injEq] at he
        obtain ⟨rfl, rfl, rfl⟩ := he
        refine linkW _ _ (hk _ _ rfl) ⟨rfl, hone, fun m hm => ?_⟩
        obtain ⟨n', f1, f2, rfl⟩ := X_ptr (cellX C.rt rfl rfl) (useOk_iff.1 hu)
        rw [hc.1.1.1.2] at f1
        rw [f1] at hm; cases hm
        exact ⟨f2, .inr ⟨rfl, by rw [hc.1.1.2, hc.1.2]; simp⟩⟩
    · cases hab : absorb1 s (.ptr pl i' off) with
      | none => simp [hab] at he
      | some q =>
        obtain ⟨x', r', us'⟩ := q
        simp only [hab, Option.some.injEq, Prod.mk.injEq] at he
        obtain ⟨rfl, rfl, rfl⟩ := he
        exact gen hab hap
  | _ =>
    simp only [putSt1] at he
    split at he
    · rename_i x' r' us' hab
      simp only [Option.some.injEq, Prod.mk.injEq] at he
      obtain ⟨rfl, rfl, rfl⟩ := he
      exact gen hab hap
    · cases he
end Go.Am
end
section
namespace Go.Am
open Go.RowKit
variable {P : Program} {cx : Cx} {B : Base} {K : Nat → Prop} {g g' : Gh} {R : Nat → Value} {s : St} {h h' : Hp} {w w' : World}
/-- The form of a store's updates. -/
theorem absorb1_nonAgg {a x : AV} {r : List Rd} {us : List Up} (h : absorb1 s a = some (x, r, us)) : nonAgg x = true := by
  cases a with
  | rf sz pl off len =>
    simp only [absorb1, oops] at h
    split at h
    · simp at h; rw [← h.1]; rfl
    · split at h
      · split at h
        · simp at h; rw [← h.1]; rfl
        · cases h
      · cases h
  | ptr pl i off =>
    simp only [absorb1, oops] at h
    split at h
    · simp at h; rw [← h.1]; rfl
    · split at h
      · split at h
        · simp at h; rw [← h.1]; rfl
        · cases h
      · cases h
  | mrf r => simp [absorb1, oops] at h
  | agg cs => simp [absorb1, oops] at h
  | tup cs => simp [absorb1, oops] at h
  | _ => simp [absorb1] at h; rw [← h.1]; rfl
theorem absorb1_ups {a x : AV} {r : List Rd} {us : List Up} (h : absorb1 s a = some (x, r, us)) : us = [] ∨ ∃ src c, us = [gone src] ∧ refOf a = some src ∧ look s true src = some c := by
  cases a with
  | rf sz pl off len =>
    simp only [absorb1, oops] at h
    split at h
    · simp at h; exact .inl h.2.2
    · split at h
      · rename_i c hl
        split at h
        · simp at h; exact .inr ⟨pl, _, h.2.2.symm, rfl, hl⟩
        · cases h
      · cases h
  | ptr pl i off =>
    simp only [absorb1, oops] at h
    split at h
    · simp at h; exact .inl h.2.2
    · split at h
      · split at h
        · rename_i c hl
          simp at h; exact .inr ⟨pl, _, h.2.2.symm, rfl, hl⟩
        · cases h
      · cases h
  | mrf r => simp [absorb1, oops] at h
  | agg cs => simp [absorb1, oops] at h
  | tup cs => simp [absorb1, oops] at h
  | _ => simp [absorb1] at h; exact .inl h.2.2
theorem putSt1_ups {keep : Nat} {dst : Pl} {a x : AV} {r : List Rd} {us : List Up} (h : putSt1 s keep dst a = some (x, r, us)) :
    nonAgg x = true ∧ (us = [.set dst x] ∨ (∃ src c, us = [gone src, .set dst x] ∧ refOf a = some src ∧ look s true src = some c)) ∧
    (∀ src, refOf a = some src → s.alias = false → (∃ u ∈ us, u.pl = src) ∨ (src.p = [] ∧ ∃ len, Up.set dst (.lk src.r len) ∈ us)) := by
  have gen : ∀ {x r us}, absorb1 s a = some (x, r, us) → nonAgg x = true ∧ (us ++ [.set dst x] = [.set dst x] ∨ (∃ src c, us ++ [.set dst x] = [gone src, .set dst x] ∧ refOf a = some src ∧ look s true src = some c)) ∧
      (∀ src, refOf a = some src → s.alias = false → (∃ u ∈ us ++ [.set dst x], u.pl = src) ∨ (src.p = [] ∧ ∃ len, Up.set dst (.lk src.r len) ∈ us ++ [.set dst x])) := by
    intro x r us hab
    refine ⟨absorb1_nonAgg hab, ?_, fun src hs ha => ?_⟩
    · rcases absorb1_ups hab with rfl | ⟨src, c, rfl, h1, h2⟩
      · exact .inl rfl
      · exact .inr ⟨src, c, rfl, h1, h2⟩
    · rcases absorb1_cases ha hab with ⟨_, _, hr⟩ | ⟨src', c, rfl, hr, _, _⟩
      · rw [hs] at hr; cases hr
      · rw [hs] at hr; cases hr
        exact .inl ⟨gone src, by simp, gone_pl⟩
  cases a with
  | rf sz pl off len =>
    simp only [putSt1, oops] at h
    split at h
    · rename_i hal
      simp at h; obtain ⟨rfl, _, rfl⟩ := h; exact ⟨rfl, .inl rfl, fun src _ h => by rw [hal] at h; cases h⟩
    · rename_i hal
      split at h
      · rename_i hc
        simp only [Bool.and_eq_true, Bool.not_eq_true', List.isEmpty_iff, beq_iff_eq] at hc
        cases hu : useOk s pl with
        | false => rw [hu] at h; cases h
        | true =>
          rw [hu, cond_true] at h; simp at h; obtain ⟨rfl, _, rfl⟩ := h
          exact ⟨rfl, .inl rfl, fun src hs _ => by cases hs; exact .inr ⟨hc.1.1, len + 1, by simp⟩⟩
      · split at h
        · rename_i hpp
          split at h
          · split at h
            · simp at h; obtain ⟨rfl, _, rfl⟩ := h
              refine ⟨rfl, .inl rfl, fun src hs _ => ?_⟩
              cases hs
              simp only [Bool.and_eq_true, Pl.pre] at hpp
              obtain ⟨⟨p0, p1⟩, _, p2⟩ := hpp
              obtain ⟨a1, ha1⟩ := pre_iff.1 p1
              obtain ⟨a2, ha2⟩ := pre_iff.1 p2
              have : a1 = [] := by
                have h1 := congrArg List.length ha1
                have h2 := congrArg List.length ha2
                simp at h1 h2
                exact List.eq_nil_of_length_eq_zero (by omega)
              subst this
              refine .inl ⟨_, List.mem_singleton.2 rfl, ?_⟩
              cases pl; cases dst; simp at ha1 p0; simp [Up.pl, ha1, p0]
            · cases h
          · cases h
        · cases hab : absorb1 s (.rf sz pl off len) with
          | none => simp [hab] at h
          | some q =>
            obtain ⟨x', r', us'⟩ := q
            simp only [hab, Option.some.injEq, Prod.mk.injEq] at h
            obtain ⟨rfl, _, rfl⟩ := h
            exact gen hab
  | ptr pl i off =>
    simp only [putSt1, oops] at h
    split at h
    · rename_i hc
      simp only [Bool.and_eq_true, Bool.not_eq_true', List.isEmpty_iff, beq_iff_eq] at hc
      cases hu : useOk s pl with
      | false => rw [hu] at h; cases h
      | true =>
        rw [hu, cond_true] at h; simp at h; obtain ⟨rfl, _, rfl⟩ := h
        exact ⟨rfl, .inl rfl, fun src hs _ => by cases hs; exact .inr ⟨hc.1.1.1.2, 0, by simp⟩⟩
    · cases hab : absorb1 s (.ptr pl i off) with
      | none => simp [hab] at h
      | some q =>
        obtain ⟨x', r', us'⟩ := q
        simp only [hab, Option.some.injEq, Prod.mk.injEq] at h
        obtain ⟨rfl, _, rfl⟩ := h
        exact gen hab
  | _ =>
    simp only [putSt1] at h
    split at h
    · rename_i x' r' us' hab
      simp only [Option.some.injEq, Prod.mk.injEq] at h
      obtain ⟨rfl, _, rfl⟩ := h
      exact gen hab
    · cases h
theorem putSt_ref {keep : Nat} {pl : Pl} {i : Nat} (hal : s.alias = false) : ∀ {cs : List AV} {off : Nat} {rs : List Rd} {us : List Up}, putSt s keep pl i off cs = some (rs, us) → ∀ {b : AV} {src : Pl}, b ∈ cs → refOf b = some src →
    (∃ u ∈ us, u.pl = src) ∨ (src.p = [] ∧ ∃ q len, Up.set q (.lk src.r len) ∈ us)
  | [], _, _, _, _, b, _, hb, _ => by cases hb
  | a :: l, off, rs, us, h, b, src, hb, hr => by
    simp only [putSt] at h
    cases h1 : putSt1 s keep (pl.cell i off) a with
    | none => simp [h1] at h
    | some q =>
      obtain ⟨x, r, u⟩ := q
      simp only [h1] at h
      cases h2 : putSt s keep pl i (off + 1) l with
      | none => simp [h2] at h
      | some q =>
        obtain ⟨rs2, us2⟩ := q
        simp only [h2, Option.some.injEq, Prod.mk.injEq] at h
        obtain ⟨_, rfl⟩ := h
        rcases List.mem_cons.1 hb with rfl | hb
        · rcases (putSt1_ups h1).2.2 _ hr hal with ⟨v, hv, e⟩ | ⟨e, len, hv⟩
          · exact .inl ⟨v, List.mem_append_left _ hv, e⟩
          · exact .inr ⟨e, _, len, List.mem_append_left _ hv⟩
        · rcases putSt_ref hal h2 hb hr with ⟨v, hv, e⟩ | ⟨e, q, len, hv⟩
          · exact .inl ⟨v, List.mem_append_right _ hv, e⟩
          · exact .inr ⟨e, q, len, List.mem_append_right _ hv⟩
theorem app_set {q : Pl} {x a : AV} (ha : hget h q.r = some a) : Up.app h (.set q x) = hins h q.r (setT a q.p x) := by simp only [Up.app, ha]
theorem putSt1_get {keep : Nat} {dst : Pl} {a x : AV} {r : List Rd} {us : List Up} (h1 : putSt1 s keep dst a = some (x, r, us)) (hap : apartUps us = true) {old : AV} (hd : getP h dst = some old)
    (hsrc : ∀ src c, refOf a = some src → look s true src = some c → getP h src = some c) {pl : Pl} (hu : ∀ u ∈ us, u.pl.apart pl) : getP (Up.apps us h) pl = getP h pl := by
  obtain ⟨hx, rfl | ⟨src, c, rfl, h3, h4⟩, _⟩ := putSt1_ups h1
  · obtain ⟨a0, ha, hp⟩ := getP_some hd
    simp only [Up.apps]
    rw [app_set ha]
    exact getP_set ha hp hx (hu (.set dst x) (by simp))
  · have hg := hsrc _ _ h3 h4
    have hsd : src.apart dst := by have := (apartUps_cons hap).1 (.set dst x) (by simp); rw [gone_pl] at this; exact this
    have hsp : src.apart pl := by have := hu (gone src) (by simp); rw [gone_pl] at this; exact this
    obtain ⟨a0, ha, hp⟩ := getP_some (show getP (Up.app h (gone src)) dst = some old by rw [getP_gone hg hsd]; exact hd)
    simp only [Up.apps]
    rw [app_set ha, getP_set ha hp hx (hu (.set dst x) (by simp)), getP_gone hg hsp]
/-- References that are forgotten. -/
def fgt (s : St) (a : AV) : AV := if s.alias = true ∧ (refOf a).isSome = true then .un else a
theorem fgt_ref {a : AV} (hal : s.alias = true) : refOf (fgt s a) = none := by
  unfold fgt
  split
  · rfl
  · rename_i hh
    cases hr : refOf a with
    | none => rfl
    | some q => exact absurd ⟨hal, by rw [hr]; rfl⟩ hh
theorem putSt1_fgt {keep : Nat} {dst : Pl} {a x : AV} {r : List Rd} {us : List Up} (h : putSt1 s keep dst a = some (x, r, us)) : ∃ r', putSt1 s keep dst (fgt s a) = some (x, r', us) := by
  unfold fgt
  split
  · rename_i hc
    obtain ⟨hal, hr⟩ := hc
    cases a <;> simp [refOf] at hr
    · simp only [putSt1, hal, if_true] at h
      simp at h; obtain ⟨rfl, _, rfl⟩ := h; exact ⟨[], rfl⟩
    · simp only [putSt1, absorb1, hal, if_true] at h
      simp at h; obtain ⟨rfl, _, rfl⟩ := h; exact ⟨[], rfl⟩
    · simp [putSt1, absorb1, oops] at h
  · exact ⟨r, h⟩
theorem putSt_fgt {keep : Nat} {pl : Pl} {i : Nat} : ∀ {cs : List AV} {off : Nat} {rs : List Rd} {us : List Up}, putSt s keep pl i off cs = some (rs, us) → ∃ rs', putSt s keep pl i off (cs.map (fgt s)) = some (rs', us)
  | [], _, rs, _, h => ⟨rs, h⟩
  | a :: l, off, rs, us, h => by
    simp only [putSt] at h
    cases h1 : putSt1 s keep (pl.cell i off) a with
    | none => simp [h1] at h
    | some q =>
      obtain ⟨x, r, u⟩ := q
      simp only [h1] at h
      cases h2 : putSt s keep pl i (off + 1) l with
      | none => simp [h2] at h
      | some q =>
        obtain ⟨rs2, us2⟩ := q
        simp only [h2, Option.some.injEq, Prod.mk.injEq] at h
        obtain ⟨_, rfl⟩ := h
        obtain ⟨r', e1⟩ := putSt1_fgt h1
        obtain ⟨rs', e2⟩ := putSt_fgt h2
        exact ⟨r' ++ rs', by simp only [List.map_cons, putSt, e1, e2]⟩
theorem putSt_dst {keep : Nat} {pl : Pl} {i : Nat} : ∀ {cs : List AV} {off : Nat} {rs : List Rd} {us : List Up}, putSt s keep pl i off cs = some (rs, us) → ∀ {j : Nat}, j < cs.length → ∃ v ∈ us, v.pl = pl.cell i (off + j)
  | [], _, _, _, _, j, hj => by simp at hj
  | a :: l, off, rs, us, h, j, hj => by
    simp only [putSt] at h
    cases h1 : putSt1 s keep (pl.cell i off) a with
    | none => simp [h1] at h
    | some q =>
      obtain ⟨x, r, u⟩ := q
      simp only [h1] at h
      cases h2 : putSt s keep pl i (off + 1) l with
      | none => simp [h2] at h
      | some q =>
        obtain ⟨rs2, us2⟩ := q
        simp only [h2, Option.some.injEq, Prod.mk.injEq] at h
        obtain ⟨_, rfl⟩ := h
        cases j with
        | zero =>
          obtain ⟨_, rfl | ⟨src, c, rfl, _, _⟩, _⟩ := putSt1_ups h1
          · exact ⟨.set (pl.cell i off) x, List.mem_append_left _ (by simp), rfl⟩
          · exact ⟨.set (pl.cell i off) x, List.mem_append_left _ (by simp), rfl⟩
        | succ j =>
          obtain ⟨v, hv, e⟩ := putSt_dst h2 (j := j) (by simpa using hj)
          exact ⟨v, List.mem_append_right _ hv, by rw [e, show off + 1 + j = off + (j + 1) by omega]⟩
theorem fgt_RT {F : Fz} {d : List Up} {a : AV} {v : Value} (h : RT F g (fadeC d a) v) : RT F g (fadeC d (fgt s a)) v := by
  unfold fgt
  split
  · rw [show fadeC d .un = .un from fadeC_ok fun pl hp => by cases hp]; exact .f (.un _ h.one)
  · exact h
theorem apartUps_append {us vs : List Up} (h : apartUps (us ++ vs) = true) : apartUps us = true ∧ apartUps vs = true ∧ ∀ u ∈ us, ∀ v ∈ vs, u.pl.apart v.pl := by
  induction us with
  | nil => exact ⟨rfl, h, fun u hu => by cases hu⟩
  | cons a l ih =>
    obtain ⟨h1, h2⟩ := apartUps_cons h
    obtain ⟨i1, i2, i3⟩ := ih h2
    refine ⟨?_, i2, fun u hu v hv => ?_⟩
    · simp only [List.cons_append, apartUps, Bool.and_eq_true, List.all_eq_true] at h ⊢
      exact ⟨fun v hv => h.1 v (List.mem_append_left _ hv), i1⟩
    · rcases List.mem_cons.1 hu with rfl | hu
      · exact h1 v (List.mem_append_right _ hv)
      · exact i3 u hu v hv
theorem Stepped.trans {us vs : List Up} {w1 w2 : World} (h1 : ∃ g1 R1, RM B K g1 R1 (Up.apps us h) w1 ∧ (mkF B g w).le (mkF B g1 w1) ∧ Keep2 us g g1 ∧ Stepped B K g1 (Up.apps us h) w1 vs w2) : Stepped B K g h w (us ++ vs) w2 := by
  obtain ⟨g1, R1, a1, a2, a3, g2, R2, b1, b2, b3⟩ := h1
  refine ⟨g2, R2, by rw [Up.apps_append]; exact b1, le_trans' a2 b2, fun pl m hu hm => b3 pl m (fun u hu' => hu u (List.mem_append_right _ hu')) (a3 pl m (fun u hu' => hu u (List.mem_append_left _ hu')) hm)⟩
/-- A row of cells is stored. -/
theorem stores_ok (hfree : ∀ h, ∃ N, hget h N = none ∧ ¬ K N) {keep : Nat} {par : Pl} {i : Nat} {n : Nd} {o0 : Nat} : ∀ {cs : List AV} {vs : List Value} {k : Nat} {rs : List Rd} {us : List Up} {g : Gh} {R : Nat → Value} {h : Hp} {w : World},
    RM B K g R h w → g par.r par.p = some n → n.whole = false → putSt s keep par i (o0 + k) cs = some (rs, us) → apartUps us = true → lkOk us = true → (∀ pl q len, Up.set pl (.lk q len) ∈ us → K q) →
    vs.length = cs.length → (∀ (j : Nat) a, cs[j]? = some a → ∃ v, vs[j]? = some v ∧ RT (mkF B g w) g (fadeC s.d a) v ∧ (s.alias = true → refOf a = none) ∧ (∀ src c, refOf a = some src → look s true src = some c → getP h src = some c)) →
    (∀ j, j < cs.length → ∃ old, getP h (par.cell i (o0 + k + j)) = some old) →
    ∃ w', (storeCells ⟨n.b, n.o + i * n.sz + o0, none⟩ vs k).run P w = .ok () w' ∧ Stepped B K g h w us w'
  | [], vs, k, rs, us, g, R, h, w, H, hn, _, hp, _, _, _, hl, _, _ => by
    simp [putSt] at hp
    obtain ⟨_, rfl⟩ := hp
    have : vs = [] := List.eq_nil_of_length_eq_zero hl
    subst this
    exact ⟨w, rfl, g, R, H, le_refl, fun _ _ _ hm => hm⟩
  | a :: l, vs, k, rs, us, g, R, h, w, H, hn, hnw, hp, hap, hlk, hK, hl, hv, hd => by
    simp only [putSt] at hp
    cases h1 : putSt1 s keep (par.cell i (o0 + k)) a with
    | none => simp [h1] at hp
    | some q =>
      obtain ⟨x, r, u1⟩ := q
      simp only [h1] at hp
      cases h2 : putSt s keep par i (o0 + k + 1) l with
      | none => simp [h2] at hp
      | some q =>
        obtain ⟨rs2, us2⟩ := q
        simp only [h2, Option.some.injEq, Prod.mk.injEq] at hp
        obtain ⟨_, rfl⟩ := hp
        obtain ⟨ap1, ap2, ap3⟩ := apartUps_append hap
        obtain ⟨v, hv0, hrt, hal0, hsrc⟩ := hv 0 a rfl
        cases vs with
        | nil => cases hv0
        | cons v' vs =>
        simp at hv0; subst hv0
        obtain ⟨old, hd0⟩ := hd 0 (by simp)
        simp only [Nat.add_zero] at hd0
        have C : Cell1 s B K g h w par i (o0 + k) n a v' := ⟨⟨old, hd0⟩, hn, hrt, hsrc⟩
        obtain ⟨g1, R1, a1, a2, a3⟩ := store1_ok hfree H C h1 ap1 (fun q len e => by
          subst e
          obtain ⟨_, rfl | ⟨src, c, rfl, _, _⟩, _⟩ := putSt1_ups h1
          · exact hK (par.cell i (o0 + k)) q len (by simp)
          · exact hK (par.cell i (o0 + k)) q len (by simp))
        -- the store itself
        obtain ⟨a0, ha0, hp0⟩ := getP_some hd0
        obtain ⟨n', u', e1, e2, e3, e4, e5, _⟩ := (H.tree _ a0 ha0).inside (show getT a0 (par.p ++ [(i, o0 + k)]) = some old from hp0)
        rw [show (par.cell i (o0 + k)).r = par.r from rfl, hn] at e1; cases e1
        have hcell : w.cell? ⟨n.b, n.o + i * n.sz + (o0 + k), none⟩ = some u' := e5
        have hfro : w.frozen? ⟨n.b, n.o + i * n.sz + (o0 + k), none⟩ = false := by
          obtain ⟨_, _, _, _, _, hf⟩ := H.blk _ _ _ hn hnw
          exact hf _ (Nd.has_cell e3 e4)
        have hst : (store ((⟨n.b, n.o + i * n.sz + o0, none⟩ : Addr).add k) v').run P w = .ok () (after n i (o0 + k) w v') := by
          rw [addr_add, run_store P w _ v' _ (by have := hrt.one; cases v' <;> first | rfl | cases this)]
          rw [show n.o + i * n.sz + o0 + k = n.o + i * n.sz + (o0 + k) by omega, hcell]
          simp only [hfro, Bool.false_eq_true, if_false]; rfl
        -- the rest
        have ap : ∀ {b : AV} {src : Pl}, b ∈ l → refOf b = some src → s.alias = false → ∀ u ∈ u1, u.pl.apart src := by
          intro b src hb hr hal u hu
          rcases putSt_ref hal h2 hb hr with ⟨v, hv, e⟩ | ⟨e, q, len, hv⟩
          · rw [← e]; exact ap3 u hu v hv
          · have h3 := List.all_eq_true.1 hlk _ (List.mem_append_right _ hv)
            simp only at h3
            have h4 := List.all_eq_true.1 h3 u (List.mem_append_left _ hu)
            have hne : u.pl.r ≠ src.r := by intro e; rw [e] at h4; simp at h4
            exact ⟨by simp only [Pl.pre, Bool.and_eq_false_iff]; exact .inl (nbF hne), by simp only [Pl.pre, Bool.and_eq_false_iff]; exact .inl (nbF fun e => hne e.symm)⟩
        have nref : ∀ {b : AV} {src : Pl}, b ∈ l → refOf b = some src → s.alias = false := by
          intro b src hb hr
          obtain ⟨j, hj⟩ := List.mem_iff_getElem?.1 hb
          obtain ⟨v, _, _, h3, _⟩ := hv (j + 1) b (by simpa using hj)
          cases hh : s.alias with
          | false => rfl
          | true => rw [h3 hh] at hr; cases hr
        have dap : ∀ j, j < l.length → ∀ u ∈ u1, u.pl.apart (par.cell i (o0 + (k + 1) + j)) := by
          intro j hj u hu
          have : ∃ v ∈ us2, v.pl = par.cell i (o0 + k + 1 + j) := putSt_dst h2 hj
          obtain ⟨v, hv, e⟩ := this
          rw [show o0 + (k + 1) + j = o0 + k + 1 + j by omega, ← e]; exact ap3 u hu v hv
        have getc : ∀ {pl : Pl}, (∀ u ∈ u1, u.pl.apart pl) → getP (Up.apps u1 h) pl = getP h pl := fun hu => putSt1_get h1 ap1 hd0 hsrc hu
        have hparK : g1 par.r par.p = some n := by
          refine a3 par n (fun u hu => ?_) hn
          cases hb : u.pl.pre par with
          | false => rfl
          | true =>
            obtain ⟨_, rfl | ⟨src, c, rfl, hr, hl'⟩, _⟩ := putSt1_ups h1
            · simp at hu; subst hu
              have := pre_iff.1 (by simp only [Pl.pre, Bool.and_eq_true] at hb; exact hb.2)
              obtain ⟨q, hq⟩ := this
              have := congrArg List.length hq
              simp [Up.pl, Pl.cell] at this
            · have hsd : src.apart (par.cell i (o0 + k)) := by have := (apartUps_cons ap1).1 (.set (par.cell i (o0 + k)) x) (by simp); rw [gone_pl] at this; exact this
              simp at hu
              rcases hu with rfl | rfl
              · rw [gone_pl] at hb
                have := Pl.pre_trans hb (pre_cell par i (o0 + k)); rw [hsd.1] at this; cases this
              · have := pre_iff.1 (by simp only [Pl.pre, Bool.and_eq_true] at hb; exact hb.2)
                obtain ⟨q, hq⟩ := this
                have := congrArg List.length hq
                simp [Up.pl, Pl.cell] at this
        obtain ⟨w', r1, r2⟩ := stores_ok hfree (k := k + 1) (cs := l) (vs := vs) a1 hparK hnw (by rw [show o0 + (k + 1) = o0 + k + 1 by omega]; exact h2) ap2
          (by
            simp only [lkOk, List.all_eq_true] at hlk ⊢
            intro u hu
            have := hlk u (List.mem_append_right _ hu)
            split at this
            · simp only [List.all_eq_true] at this ⊢
              exact fun v hv => this v (List.mem_append_right _ hv)
            · rfl)
          (fun pl q len hm => hK pl q len (List.mem_append_right _ hm)) (by simpa using hl)
          (fun j b hj => by
            obtain ⟨v, x1, x2, x3, x4⟩ := hv (j + 1) b (by simpa using hj)
            refine ⟨v, by simpa using x1, x2.mono a2 fun pl m hr hm => ?_, x3, fun src c hr hlook => ?_⟩
            · have hb := List.mem_of_getElem? hj
              have hr' : refOf b = some pl := by
                unfold fadeC at hr; split at hr
                · cases hr
                · exact hr
              exact a3 pl m (fun u hu => (ap hb hr' (nref hb hr') u hu).1) hm
            · have hb := List.mem_of_getElem? hj
              rw [getc (ap hb hr (nref hb hr))]; exact x4 src c hr hlook)
          (fun j hj => by
            obtain ⟨old', ho⟩ := hd (j + 1) (by simp; omega)
            exact ⟨old', by rw [getc (dap j hj), show o0 + (k + 1) + j = o0 + k + (j + 1) by omega]; exact ho⟩)
        refine ⟨w', ?_, Stepped.trans ⟨g1, R1, a1, a2, a3, r2⟩⟩
        simp only [storeCells, Sem.run_bind, hst, Result.andThen_ok, r1]
theorem putSt_notNew {keep : Nat} {pl : Pl} {i : Nat} : ∀ {cs : List AV} {off : Nat} {rs : List Rd} {us : List Up}, putSt s keep pl i off cs = some (rs, us) → ∀ u ∈ us, ∃ q, (∃ x, u = .set q x) ∨ u = gone q
  | [], _, _, _, h => by simp [putSt] at h; obtain ⟨_, rfl⟩ := h; intro u hu; cases hu
  | a :: l, off, rs, us, h => by
    simp only [putSt] at h
    cases h1 : putSt1 s keep (pl.cell i off) a with
    | none => simp [h1] at h
    | some q =>
      obtain ⟨x, r, u1⟩ := q
      simp only [h1] at h
      cases h2 : putSt s keep pl i (off + 1) l with
      | none => simp [h2] at h
      | some q =>
        obtain ⟨rs2, us2⟩ := q
        simp only [h2, Option.some.injEq, Prod.mk.injEq] at h
        obtain ⟨_, rfl⟩ := h
        intro u hu
        rcases List.mem_append.1 hu with hu | hu
        · obtain ⟨_, rfl | ⟨src, c, rfl, _, _⟩, _⟩ := putSt1_ups h1
          · simp at hu; exact ⟨_, .inl ⟨x, hu⟩⟩
          · simp at hu
            rcases hu with rfl | rfl
            · exact ⟨src, .inr rfl⟩
            · exact ⟨_, .inl ⟨x, rfl⟩⟩
        · exact putSt_notNew h2 u hu
theorem gone_notNew {q : Pl} : (gone q).isNew = false := by unfold gone; split <;> rfl
theorem dn_sets {us : List Up} (h : ∀ u ∈ us, ∃ q, (∃ x, u = .set q x) ∨ u = gone q) : dn us = us := by
  refine List.filter_eq_self.2 fun u hu => ?_
  obtain ⟨q, ⟨x, rfl⟩ | rfl⟩ := h u hu
  · rfl
  · rw [gone_notNew]; rfl
theorem keep_sets {us : List Up} (h : ∀ u ∈ us, ∃ q, (∃ x, u = .set q x) ∨ u = gone q) {d : List Up} {pl : Pl} (ho : okD (d ++ us) pl) : ∀ u ∈ us, u.pl.pre pl = false := by
  intro u hu
  have h1 := List.any_eq_false.1 (okD_split ho) u hu
  obtain ⟨q, ⟨x, rfl⟩ | rfl⟩ := h u hu
  · simp only [Up.hits, Bool.false_and, Bool.or_false, Bool.not_eq_true] at h1; exact h1
  · rw [gone_pl]; exact hits_gone (by simpa using h1)
theorem oStore_ok (hT : TOk P cx) (H : RM B (Kd s.d) g R s.h w) {keep ty : Nat} {a x : AV} {va vx : Value} {e : Eff} (ha : XD (mkF B g w) g s.d a va) (hx : XD (mkF B g w) g s.d x vx)
    (he : oStore cx keep s ty a x = some e) : ∃ w' g' R', (Instr.storeAt ty va vx).run P w = .ok () w' ∧ Lands B g s w e undef w' g' R' := by
  unfold oStore at he
  cases hi : cx.T ty with
  | none => simp [hi] at he
  | some i =>
    simp only [hi] at he
    cases a with
    | ptr pl k off =>
      simp only [oops] at he
      cases hp : putSt s keep pl k off (cells x) with
      | none => simp [hp] at he
      | some q =>
        obtain ⟨rs, us⟩ := q
        simp only [hp] at he
        cases hc : (Nat.beq (cells x).length i.size && known x && useOk s pl && cellsThere s pl k off i.size && apartUps us && lkOk us) with
        | false => rw [hc] at he; cases he
        | true =>
          rw [hc, cond_true, Option.some.injEq] at he; subst he
          simp only [Bool.and_eq_true] at hc
          obtain ⟨⟨⟨⟨⟨c1, c2⟩, c3⟩, c4⟩, c5⟩, c6⟩ := hc
          obtain ⟨vs, hvs, hrt⟩ := X_cells hx c2
          obtain ⟨n, hn, hnw, rfl⟩ := X_ptr ha (useOk_iff.1 c3)
          have hsz : (cells x).length = i.size := by simpa using c1
          have hns := putSt_notNew hp
          obtain ⟨rs', hp'⟩ := putSt_fgt hp
          have hthere : ∀ {m o : Nat}, cellsThere s pl k o m = true → ∀ j, j < m → ∃ old, getP s.h (pl.cell k (o + j)) = some old := by
            intro m
            induction m with
            | zero => intro o _ j hj; omega
            | succ m ih =>
              intro o h j hj
              simp only [cellsThere, Bool.and_eq_true] at h
              cases j with
              | zero => exact Option.isSome_iff_exists.1 h.1
              | succ j => have := ih h.2 j (by omega); rwa [show o + 1 + j = o + (j + 1) by omega] at this
          obtain ⟨w', r1, g', R', r2, r3, r4⟩ := stores_ok (K := Kd (s.d ++ dn us)) (fun h => free_no h _) (o0 := off) (k := 0) (vs := vs) (H.weakK fun q hq => Kd_app q hq) hn hnw hp' c5 c6
            (fun q r len hm => ⟨q, len, List.mem_append_right _ (by rw [dn_sets hns]; exact hm)⟩) (by rw [List.length_map]; exact RTL_len hrt)
            (fun j b hb => by
              rw [List.getElem?_map] at hb
              cases hcj : (cells x)[j]? with
              | none => simp [hcj] at hb
              | some c =>
                simp [hcj] at hb
                obtain ⟨v, e1, e2⟩ := RTL_get hrt hcj
                subst hb
                exact ⟨v, e1, fgt_RT e2, fun hal => fgt_ref hal, fun src c hr hl => (look_some hl).2⟩)
            (fun j hj => by simpa using hthere c4 j (by rw [List.length_map] at hj; omega))
          refine ⟨w', g', R', ?_, r2, r3, fun pl' m ho hm => r4 pl' m (keep_sets hns (by rw [← dn_sets hns]; exact ho)) hm, .inr (.tup (vs := []) .nil)⟩
          have hlen : vx.cells.size = i.size := by
            have := congrArg List.length hvs
            rw [Array.length_toList, RTL_len hrt] at this; omega
          simp only [Instr.storeAt, Instr.sureAddr, storeVar, Sem.run_bind, Sem.run_pure, Result.andThen_ok, run_size w (hT ty i hi), hlen, ne_eq, not_true_eq_false, if_false, hvs]
          exact r1
    | _ => simp [oops] at he
end Go.Am
end
section
namespace Go.Am
open Go.RowKit
variable {P : Program} {cx : Cx} {B : Base} {K : Nat → Prop} {g g' : Gh} {R : Nat → Value} {s : St} {h h' : Hp} {w w' : World}
def joinG (g : Gh) (d N k : Nat) : Gh := fun r q =>
  if r = N then none else if r = d then (match q with | [] => g d [] | (i, j) :: p => if i < k then g d ((i, j) :: p) else g N ((i - k, j) :: p)) else g r q
def joinP (d N k : Nat) (r : Nat) (q : List (Nat × Nat)) : Nat × List (Nat × Nat) :=
  if r = d then (match q with | [] => (d, []) | (i, j) :: p => if i < k then (d, (i, j) :: p) else (N, (i - k, j) :: p)) else (r, q)
theorem joinG_back {d N k r : Nat} {q : List (Nat × Nat)} {m : Nd} (h : joinG g d N k r q = some m) : r ≠ N ∧ g (joinP d N k r q).1 (joinP d N k r q).2 = some m := by
  unfold joinG at h
  by_cases e : r = N
  · rw [if_pos e] at h; cases h
  · rw [if_neg e] at h
    refine ⟨e, ?_⟩
    unfold joinP
    by_cases e2 : r = d
    · rw [if_pos e2] at h ⊢
      cases q with
      | nil => exact h
      | cons x p =>
        obtain ⟨i, j⟩ := x
        simp only at h ⊢
        by_cases hi : i < k
        · rw [if_pos hi] at h ⊢; exact h
        · rw [if_neg hi] at h ⊢; exact h
    · rw [if_neg e2] at h ⊢; exact h
theorem joinP_inj {d N k r1 r2 : Nat} {q1 q2 : List (Nat × Nat)} (h1 : r1 ≠ N) (h2 : r2 ≠ N) (h : joinP d N k r1 q1 = joinP d N k r2 q2) : (r1, q1) = (r2, q2) := by
  unfold joinP at h
  by_cases e1 : r1 = d <;> by_cases e2 : r2 = d
  · rw [if_pos e1, if_pos e2] at h
    subst e1; subst e2
    cases q1 with
    | nil =>
      cases q2 with
      | nil => rfl
      | cons x p =>
        obtain ⟨i, j⟩ := x
        simp only at h
        split at h <;> simp at h
    | cons x p =>
      obtain ⟨i, j⟩ := x
      cases q2 with
      | nil =>
        simp only at h
        split at h <;> simp at h
      | cons y p' =>
        obtain ⟨i', j'⟩ := y
        simp only at h
        split at h <;> split at h <;> simp at h <;> first | (obtain ⟨⟨rfl, rfl⟩, rfl⟩ := h; rfl) | exact absurd h.1 (Ne.symm h1) | exact absurd h.1 h1 | skip
        rename_i a b
        obtain ⟨⟨c1, rfl⟩, rfl⟩ := h
        have : i = i' := by omega
        rw [this]
  · rw [if_pos e1, if_neg e2] at h
    exfalso
    cases q1 with
    | nil => simp at h; exact e2 h.1.symm
    | cons x p =>
      obtain ⟨i, j⟩ := x
      simp only at h
      split at h <;> simp at h
      · exact e2 h.1.symm
      · exact h2 h.1.symm
  · rw [if_neg e1, if_pos e2] at h
    exfalso
    cases q2 with
    | nil => simp at h; exact e1 h.1
    | cons x p =>
      obtain ⟨i, j⟩ := x
      simp only at h
      split at h <;> simp at h
      · exact e1 h.1
      · exact h1 h.1
  · rw [if_neg e1, if_neg e2] at h; exact h
theorem RM.joinRow (H : RM B K g R h w) {d N sz : Nat} {old new : List AV} {n m : Nd} (hdN : d ≠ N) (hd : hget h d = some (.ow sz old)) (hN : hget h N = some (.ow sz new)) (hn : g d [] = some n) (hm : g N [] = some m) (hKN : ¬ K N)
    (hcap : old.length + new.length ≤ n.cap) (hcopy : ∀ i j x, step1 (.ow sz new) (i, j) = some x → w.cell? ⟨n.b, n.o + (old.length + i) * n.sz + j, none⟩ = w.cell? ⟨m.b, m.o + i * m.sz + j, none⟩) :
    RM B K (joinG g d N old.length) (setR R d (.slice (some ⟨n.b, n.o, none⟩) (old.length + new.length) n.cap)) (hdel (hins h d (.ow sz (old ++ new))) N) w ∧ (∀ b o, owned (joinG g d N old.length) b o → owned g b o) := by
  have hown : ∀ b o, owned (joinG g d N old.length) b o → owned g b o := by
    rintro b o ⟨r, q, k, hk, hb⟩
    exact ⟨_, _, k, (joinG_back hk).2, hb⟩
  refine ⟨?_, hown⟩
  have hle : (mkF B g w).le (mkF B (joinG g d N old.length) w) := le_sub hown
  have hG : ∀ q k, joinG g d N old.length q [] = some k → g q [] = some k := by
    intro q k hk
    obtain ⟨e, hk⟩ := joinG_back hk
    unfold joinP at hk
    by_cases e2 : q = d
    · rw [if_pos e2] at hk; rw [e2]; exact hk
    · rw [if_neg e2] at hk; exact hk
  have td := H.tree d _ hd
  have tN := H.tree N _ hN
  obtain ⟨n', e1, hw, hsz, hlen, hv, hall⟩ := td.root
  rw [hn] at e1; cases e1
  obtain ⟨m', e1, hmw, hmsz, hmlen, hmv, hmall⟩ := tN.root
  rw [hm] at e1; cases e1
  have up : ∀ i j q, i < old.length → getT (.ow sz (old ++ new)) ((i, j) :: q) = getT (.ow sz old) ((i, j) :: q) := by
    intro i j q hi
    simp only [getT, step1, List.getElem?_append_left hi]
  have dw : ∀ i j q, ¬ i < old.length → getT (.ow sz (old ++ new)) ((i, j) :: q) = getT (.ow sz new) ((i - old.length, j) :: q) := by
    intro i j q hi
    simp only [getT, step1, List.getElem?_append_right (Nat.le_of_not_lt hi)]
  have jd : ∀ i j q, joinG g d N old.length d ((i, j) :: q) = if i < old.length then g d ((i, j) :: q) else g N ((i - old.length, j) :: q) := by
    intro i j q
    simp only [joinG, if_neg hdN, if_true]
  have jd0 : joinG g d N old.length d [] = g d [] := by simp only [joinG, if_neg hdN, if_true]
  refine ⟨H.chg, fun r a ha => ?_, fun r hr q => ?_, fun r1 p1 n1 r2 p2 n2 g1 g2 hne => ?_, fun r q k hk hkw => H.blk _ _ k (joinG_back hk).2 hkw, fun r a q q' len ha hq => ?_, fun b o hb => H.inn b o (hown b o hb)⟩
  · rw [hget_hdel] at ha
    by_cases eN : r = N
    · rw [if_pos eN] at ha; cases ha
    rw [if_neg eN, hget_hins] at ha
    by_cases ed : r = d
    · subst ed
      rw [if_pos rfl] at ha; cases ha
      rw [show setR R r _ r = _ from if_pos rfl]
      refine ⟨⟨n, by rw [jd0]; exact hn, hw, hsz, by simpa using hcap, by simp, fun e he => ?_⟩, fun p i j c hc => ?_, fun q k hk => ?_⟩
      · rcases List.mem_append.1 he with he | he
        · exact hall e he
        · exact hmall e he
      · cases p with
        | nil =>
          rw [List.nil_append] at hc ⊢
          rw [jd0, jd]
          by_cases hi : i < old.length
          · rw [up i j [] hi] at hc
            rw [if_pos hi]
            obtain ⟨k, u, a1, a2, a3⟩ := td.cell [] i j c hc
            exact ⟨k, u, a1, a2, a3.mono hle (fun _ _ _ => rfl) fun q k _ hk => hG q k hk⟩
          · rw [dw i j [] hi] at hc
            rw [if_neg hi]
            obtain ⟨k, u, a1, a2, a3⟩ := tN.cell [] (i - old.length) j c hc
            rw [hm] at a1; cases a1
            refine ⟨n, u, hn, ?_, a3.mono hle (fun _ _ _ => rfl) fun q k _ hk => hG q k hk⟩
            have hs : step1 (.ow sz new) (i - old.length, j) = some c := by
              simp only [getT] at hc
              cases hst : step1 (.ow sz new) (i - old.length, j) with
              | none => rw [hst] at hc; cases hc
              | some y => rw [hst] at hc; simpa using hc
            have := hcopy _ _ _ hs
            rw [show old.length + (i - old.length) = i by omega] at this
            exact this.trans a2
        | cons ij p =>
          obtain ⟨i0, j0⟩ := ij
          rw [List.cons_append] at hc ⊢
          rw [jd, jd]
          by_cases hi : i0 < old.length
          · rw [up i0 j0 _ hi] at hc
            rw [if_pos hi, if_pos hi]
            obtain ⟨k, u, a1, a2, a3⟩ := td.cell ((i0, j0) :: p) i j c hc
            exact ⟨k, u, a1, a2, a3.mono hle (fun _ _ _ => rfl) fun q k _ hk => hG q k hk⟩
          · rw [dw i0 j0 _ hi] at hc
            rw [if_neg hi, if_neg hi]
            obtain ⟨k, u, a1, a2, a3⟩ := tN.cell ((i0 - old.length, j0) :: p) i j c hc
            exact ⟨k, u, a1, a2, a3.mono hle (fun _ _ _ => rfl) fun q k _ hk => hG q k hk⟩
      · cases q with
        | nil => exact ⟨_, rfl, rfl⟩
        | cons ij q =>
          obtain ⟨i, j⟩ := ij
          rw [jd] at hk
          by_cases hi : i < old.length
          · rw [if_pos hi] at hk; rw [up i j q hi]; exact td.dom _ k hk
          · rw [if_neg hi] at hk; rw [dw i j q hi]; exact tN.dom _ k hk
    · rw [if_neg ed] at ha
      rw [show setR R d _ r = R r from if_neg ed]
      have e1 : joinG g d N old.length r = g r := by funext q; simp [joinG, eN, ed]
      rw [e1]
      exact (H.tree r a ha).mono hle (fun _ _ _ _ _ _ hx => hx) (fun _ _ _ _ => rfl) fun q k _ _ _ hk => hG q k hk
  · rw [hget_hdel] at hr
    by_cases eN : r = N
    · simp only [joinG, if_pos eN]
    rw [if_neg eN, hget_hins] at hr
    by_cases ed : r = d
    · rw [if_pos ed] at hr; cases hr
    · rw [if_neg ed] at hr; simp only [joinG, if_neg eN, if_neg ed]; exact H.void r hr q
  · obtain ⟨a1, a2⟩ := joinG_back g1
    obtain ⟨b1, b2⟩ := joinG_back g2
    exact H.disj _ _ _ _ _ _ a2 b2 fun e => hne (joinP_inj a1 b1 (by rw [Prod.ext_iff] at e ⊢; exact e))
  · rw [hget_hdel] at ha
    by_cases eN : r = N
    · rw [if_pos eN] at ha; cases ha
    rw [if_neg eN, hget_hins] at ha
    by_cases ed : r = d
    · rw [if_pos ed] at ha; cases ha
      cases q with
      | nil => simp [getT] at hq
      | cons ij q =>
        obtain ⟨i, j⟩ := ij
        by_cases hi : i < old.length
        · rw [up i j q hi] at hq; exact H.lks d _ _ q' len hd hq
        · rw [dw i j q hi] at hq; exact H.lks N _ _ q' len hN hq
    · rw [if_neg ed] at ha; exact H.lks r a q q' len ha hq
end Go.Am
end
section
namespace Go.Am
open Go.RowKit
variable {P : Program}
set_option maxHeartbeats 4000000 in
theorem run_app_room (w : World) {t xt ty e : TypeId} {i : TypeInfo} {xd : TypeDesc} (ht : P.underlying t = some (.slice e)) (hxt : P.underlying xt = some xd) (hxd : ∀ k, xd ≠ .int k) (hi : P.info? e = some i)
    {b off sLen sCap : Nat} {x : Value} {m : Nat} {news : List Value} (hlen : (Builtin.lenOf x).run P w = .ok m w) (hfc : (Builtin.firstCells i.size m x).run P w = .ok news.toArray w) (h1 : ∀ u ∈ news, u.oneCell' = true)
    (hroom : sLen + m ≤ sCap) (hc : ∀ j, j < news.length → (w.cell? ⟨b, off + sLen * i.size + j, none⟩).isSome = true) (hf : ∀ j, j < news.length → w.frozen? ⟨b, off + sLen * i.size + j, none⟩ = false) :
    (Builtin.append_ #[t, xt] ty #[.slice (some ⟨b, off, none⟩) sLen sCap, x]).run P w = .ok (.slice (some ⟨b, off, none⟩) (sLen + m) sCap) (w.setCells b (off + sLen * i.size) news) := by
  have hst := run_storeCells_cells (P := P) b (off + sLen * i.size) news 0 w (by simpa using hc) (by simpa using hf) h1
  simp only [Nat.add_zero] at hst
  cases xd with
  | int k => exact absurd rfl (hxd k)
  | _ => simp [Builtin.append_, run_underlying ht, run_underlying hxt, sizeOf, typeInfo, hi, hlen, hroom, hfc, Addr.add_lit, hst]
set_option maxHeartbeats 4000000 in
theorem run_app_grow (w : World) {t xt ty e : TypeId} {i : TypeInfo} {z : Value} {xd : TypeDesc} (ht : P.underlying t = some (.slice e)) (hxt : P.underlying xt = some xd) (hxd : ∀ k, xd ≠ .int k) (hi : P.info? e = some i) (hz : i.zero = some z)
    {base : Option Addr} {sLen sCap : Nat} {x : Value} {m : Nat} {olds news : List Value} (hlen : (Builtin.lenOf x).run P w = .ok m w) (hfo : (Builtin.firstCells i.size sLen (.slice base sLen sCap)).run P w.drew = .ok olds.toArray w.drew)
    (hfc : (Builtin.firstCells i.size m x).run P w.drew = .ok news.toArray w.drew)
    (hg : sCap < sLen + m) (h63 : ((sLen + m : Nat) : Int) ≤ 9223372036854775807) (hfit : Builtin.nextslicecap (sLen + m) sCap * i.bytes ≤ 281474976710656) :
    (Builtin.append_ #[t, xt] ty #[.slice base sLen sCap, x]).run P w =
      .ok (.slice (some ⟨w.heap.size, 0, none⟩) (sLen + m) (grownCap w (sLen + m) sCap e))
        (w.drew.alloc (.cells (olds.toArray ++ news.toArray ++ Builtin.zeroCells z.cells (grownCap w (sLen + m) sCap e - (sLen + m))) e)) := by
  have hn : ¬ (sLen + m ≤ sCap) := by omega
  have h63' : ¬ (9223372036854775807 < ((sLen : Int) + (m : Int))) := by omega
  have h48' : ¬ (281474976710656 < Builtin.nextslicecap (sLen + m) sCap * i.bytes) := by omega
  cases xd with
  | int k => exact absurd rfl (hxd k)
  | _ =>
    simp [Builtin.append_, run_underlying ht, run_underlying hxt, sizeOf, typeInfo, zeroValue, hi, hz, hlen, hn, h63', h48', Question.forced, hfc, hfo, newRow, grownCap]
    congr 2
    apply Array.ext'
    simp [List.append_assoc]
set_option maxHeartbeats 4000000 in
theorem run_app_zero (w : World) {t xt ty e : TypeId} {i : TypeInfo} {xd : TypeDesc} (ht : P.underlying t = some (.slice e)) (hxt : P.underlying xt = some xd) (hxd : ∀ k, xd ≠ .int k) (hi : P.info? e = some i)
    {base : Option Addr} {sLen sCap : Nat} {x : Value} (hlen : (Builtin.lenOf x).run P w = .ok 0 w) (hfc : (Builtin.firstCells i.size 0 x).run P w = .ok #[] w) (hroom : sLen ≤ sCap) :
    (Builtin.append_ #[t, xt] ty #[.slice base sLen sCap, x]).run P w = .ok (.slice base sLen sCap) w := by
  cases xd with
  | int k => exact absurd rfl (hxd k)
  | _ =>
    cases base with
    | none => simp [Builtin.append_, run_underlying ht, run_underlying hxt, sizeOf, typeInfo, hi, hlen, hroom, hfc]
    | some a => simp [Builtin.append_, run_underlying ht, run_underlying hxt, sizeOf, typeInfo, hi, hlen, hroom, hfc, storeCells]
end Go.Am
end
section
namespace Go.Am
open Go.RowKit Go.Lib
variable {P : Program} {cx : Cx} {B : Base} {K : Nat → Prop} {g g' : Gh} {R : Nat → Value} {s : St} {h h' : Hp} {w w' : World}
structure SrcOk (P : Program) (s : St) (B : Base) (g : Gh) (w : World) (sz : Nat) (x : AV) (vx : Value) (new : List AV) (us : List Up) (news : List Value) : Prop where
  len : ∀ w', (Builtin.lenOf vx).run P w' = .ok new.length w'
  fst : ∀ w' : World, (∀ a, w'.cell? a = w.cell? a) → (Builtin.firstCells sz new.length vx).run P w' = .ok news.toArray w'
  fstm : ∀ m, m ≤ new.length → (Builtin.firstCells sz m vx).run P w = .ok (news.take (m * sz)).toArray w
  nl : news.length = new.length * sz
  one : ∀ u ∈ news, u.oneCell' = true
  csz : ∀ e ∈ new, (cells e).length = sz
  src : (us = [] ∧ ∀ i e j y, new[i]? = some e → (cells e)[j]? = some y → isNode y = false ∧ (∀ q len, y ≠ .lk q len) ∧ ∃ u, news[i * sz + j]? = some u ∧ RF (mkF B g w) y u) ∨
    (∃ pl off len es, us = [gone pl] ∧ x = .rf sz pl off len ∧ look s true pl = some (.ow sz es) ∧ off + len ≤ es.length ∧ new = (es.drop off).take len ∧ ∃ b o cap, vx = .slice (some ⟨b, o, none⟩) len cap ∧ ∀ t u, news[t]? = some u → w.cell? ⟨b, o + t, none⟩ = some u)
theorem cells_row {b : Nat} : ∀ {n o : Nat}, (∀ t, t < n → ∃ u, w.cell? ⟨b, o + t, none⟩ = some u ∧ one u = true) → ∃ us : List Value, us.length = n ∧ (∀ t u, us[t]? = some u → w.cell? ⟨b, o + t, none⟩ = some u) ∧ ∀ u ∈ us, u.oneCell' = true
  | 0, o, _ => ⟨[], rfl, fun t u h => by simp at h, fun u hu => by cases hu⟩
  | n + 1, o, h => by
    obtain ⟨u, hu, ho⟩ := h 0 (by omega)
    obtain ⟨us, h1, h2, h3⟩ := cells_row (n := n) (o := o + 1) fun t ht => by
      have := h (t + 1) (by omega)
      rwa [show o + (t + 1) = o + 1 + t by omega] at this
    refine ⟨u :: us, by simp [h1], fun t x hx => ?_, fun x hx => ?_⟩
    · cases t with
      | zero => simp at hx; subst hx; exact hu
      | succ t => rw [show o + (t + 1) = o + 1 + t by omega]; exact h2 t x (by simpa using hx)
    · rcases List.mem_cons.1 hx with rfl | hx
      · cases x <;> first | rfl | cases ho
      · exact h3 x hx
theorem getP_step {pl : Pl} {i j : Nat} {c y : AV} (h1 : getP h pl = some c) (h2 : step1 c (i, j) = some y) : getP h (pl.cell i j) = some y := by
  obtain ⟨a, ha, hp⟩ := getP_some h1
  unfold getP
  rw [show (pl.cell i j).r = pl.r from rfl, ha]
  simp only [Option.bind_some, Pl.cell]
  rw [getT_snoc, hp]; exact h2
theorem row_split {t n sz : Nat} (h : t < n * sz) : t / sz < n ∧ t % sz < sz ∧ t / sz * sz + t % sz = t := by
  have hs : 0 < sz := by rcases Nat.eq_zero_or_pos sz with e | e; (rw [e] at h; simp at h); exact e
  refine ⟨(Nat.div_lt_iff_lt_mul hs).2 h, Nat.mod_lt _ hs, ?_⟩
  have := Nat.div_add_mod t sz
  rw [Nat.mul_comm] at this; exact this
theorem plain_leaf {F : Fz} {ob : Nat → Option Obj} {G : Gh} {c : AV} {gn : Option Nd} {u : Value} (h : LF F ob G c gn u) (hp : plainCell c = true) : RF F c u := by
  cases c <;> first | exact h.2 | cases hp
theorem fst_some {b : Addr} {n cap sz : Nat} {cs : List Value} (hl : cs.length = n * sz) (hc : ∀ j v, cs[j]? = some v → w.cell? (b.add j) = some v) {m : Nat} (hm : m ≤ n) :
    (Builtin.firstCells sz m (.slice (some b) n cap)).run P w = .ok (cs.take (m * sz)).toArray w := by
  have : m * sz ≤ n * sz := Nat.mul_le_mul_right _ hm
  have e1 : (Builtin.firstCells sz m (.slice (some b) n cap)).run P w = (Builtin.firstCells sz m (.slice (some b) m cap)).run P w := rfl
  rw [e1]
  refine run_firstCells_some w sz m b m cap _ (by rw [List.length_take, hl]; omega) fun j v hj => ?_
  rw [List.getElem?_take] at hj
  split at hj
  · exact hc j v hj
  · cases hj
theorem fst_str {s : ByteArray} {m : Nat} (hm : m ≤ s.size) : (Builtin.firstCells 1 m (.string s)).run P w = .ok ((strCells s).take (m * 1)).toArray w := by
  simp only [Builtin.firstCells, strCells]
  show Result.ok _ w = _
  congr 1
  apply Array.ext'
  simp [List.map_take]
theorem elems_ok (H : RM B (Kd s.d) g R s.h w) {sz : Nat} {x : AV} {vx : Value} {new : List AV} {rs : List Rd} {us : List Up} (hx : XD (mkF B g w) g s.d x vx) (he : elems s sz x = some (new, rs, us)) :
    ∃ news, SrcOk P s B g w sz x vx new us news := by
  cases x with
  | fz lab sz' es =>
    simp only [elems, oops] at he
    split at he
    · rename_i hs
      simp only [Option.some.injEq, Prod.mk.injEq] at he
      obtain ⟨rfl, rfl, rfl⟩ := he
      rcases X_fz hx with ⟨rfl, rfl, rfl⟩ | ⟨h1, b, o, cap, sp, rfl, h2, h3, h4⟩
      · exact ⟨[], fun w' => rfl, (fun w' _ => by simp [Builtin.firstCells]), (fun m _ => by simp [Builtin.firstCells]), by simp, (fun u hu => by cases hu), (fun e he => by cases he), .inl ⟨rfl, fun i e j y hi => by simp at hi⟩⟩
      · by_cases hes : es = []
        · subst hes
          refine ⟨[], fun w' => rfl, fun w' _ => ?_, fun m hm => fst_some (n := 0) (by simp) (fun j v hj => by simp at hj) hm, by simp, (fun u hu => by cases hu), (fun e he => by cases he), .inl ⟨rfl, fun i e j y hi => by simp at hi⟩⟩
          exact run_firstCells_some w' sz 0 _ 0 cap [] (by simp) (fun j v hj => by simp at hj)
        · have hsz : sz' = sz := hs.resolve_right hes
          subst hsz
          obtain rfl : sp = none := h4.resolve_right (by have := List.length_pos_iff.2 hes; omega)
          have hc : ∀ t, t < es.length * sz' → ∃ u, w.cell? ⟨b, o + t, none⟩ = some u ∧ one u = true := by
            intro t ht
            obtain ⟨a1, a2, a3⟩ := row_split ht
            obtain ⟨c1, c2⟩ := h3.get (List.getElem?_eq_getElem a1)
            have hj : t % sz' < (cells es[t / sz']).length := by omega
            obtain ⟨u, d1, _, d3⟩ := c2.get (List.getElem?_eq_getElem hj)
            exact ⟨u, by rw [← a3, ← Nat.add_assoc]; exact d1, d3.one⟩
          obtain ⟨us, u1, u2, u3⟩ := cells_row hc
          refine ⟨us, fun w' => rfl, fun w' hw => ?_, fun m hm => fst_some u1 (fun j v hj => by rw [addr_add]; exact u2 j v hj) hm, u1, u3, fun e he => ?_, .inl ⟨rfl, fun i e j y hi hj => ?_⟩⟩
          · exact run_firstCells_some w' sz' es.length _ es.length cap us u1 (fun j v hj => by rw [addr_add, hw]; exact u2 j v hj)
          · obtain ⟨i, hi⟩ := List.mem_iff_getElem?.1 he
            exact (h3.get hi).1
          · obtain ⟨c1, c2⟩ := h3.get hi
            obtain ⟨u, d1, _, d3⟩ := c2.get hj
            obtain ⟨s1, s2, _⟩ := RF_shape d3
            refine ⟨s1, s2, u, ?_, d3⟩
            have hjl : j < sz' := by have := (List.getElem?_eq_some_iff.1 hj).1; omega
            have hlt := row_lt (List.getElem?_eq_some_iff.1 hi).1 hjl
            have hlt' : i * sz' + j < us.length := by omega
            have := u2 (i * sz' + j) _ (List.getElem?_eq_getElem hlt')
            rw [← Nat.add_assoc] at this
            have hd1 : w.cell? ⟨b, o + i * sz' + j, none⟩ = some u := d1
            rw [hd1] at this
            rw [List.getElem?_eq_getElem hlt', ← this]
    · cases he
  | str b =>
    simp only [elems] at he
    split at he
    · rename_i hs
      simp only [Option.some.injEq, Prod.mk.injEq] at he
      obtain ⟨rfl, rfl, rfl⟩ := he
      subst hs
      obtain rfl := X_str hx
      have hl : (strB b).length = b.size := by simp [strB]
      refine ⟨strCells b, fun w' => by rw [hl]; rfl, fun w' _ => by rw [hl]; exact run_firstCells_string w' 1 b, fun m hm => fst_str (by rw [hl] at hm; exact hm), by rw [hl]; simp [strCells], fun u hu => ?_, fun e he => ?_, .inl ⟨rfl, fun i e j y hi hj => ?_⟩⟩
      · simp only [strCells, List.mem_map] at hu
        obtain ⟨c, _, rfl⟩ := hu; rfl
      · simp only [strB, List.mem_map] at he
        obtain ⟨c, _, rfl⟩ := he; rfl
      · simp only [strB, List.getElem?_map] at hi
        cases hb : b.data.toList[i]? with
        | none => rw [hb] at hi; cases hi
        | some c =>
          rw [hb] at hi
          simp at hi
          subst hi
          cases j with
          | succ j => simp [cells] at hj
          | zero =>
            simp [cells] at hj
            subst hj
            refine ⟨rfl, (fun q len e => by cases e), .int .u8 c.toNat, ?_, .int _ _⟩
            simp only [strCells, List.getElem?_map, Nat.mul_one, Nat.add_zero]
            rw [hb]; rfl
    · cases he
  | rf sz' pl off len =>
    simp only [elems, oops] at he
    cases hl : look s true pl with
    | none => simp [hl] at he
    | some c =>
      simp only [hl] at he
      cases c with
      | ow sz'' es =>
        simp only at he
        split at he
        · rename_i hc
          obtain ⟨rfl, rfl, hle⟩ := hc
          obtain ⟨cap, k, n, f1, f2, f3, f4, f5, f6, rfl⟩ := X_rf hx (okD_of_look hl)
          subst f3
          obtain ⟨u0, hu0⟩ := node_at H (look_some hl).2
          obtain ⟨n', e1, e2, e3, e4, e5, e6⟩ := hu0
          rw [f1] at e1; cases e1
          have hnl : ((es.drop off).take len).length = len := by simp; omega
          have hk : len = 0 ∨ k = off := by rcases f6 with h | h; (left; omega); exact .inr h
          have cell : ∀ i j y, i < len → ((es.drop off).take len)[i]? = some y → j < (cells y).length → ∃ u, w.cell? ⟨n.b, n.o + k * n.sz + (i * n.sz + j), none⟩ = some u ∧ one u = true ∧ ∀ z, (cells y)[j]? = some z → plainCell z = true → RF (mkF B g w) z u := by
            intro i j y hi hy hj
            have hk' : k = off := hk.resolve_left (by omega)
            rw [List.getElem?_take, if_pos hi, List.getElem?_drop] at hy
            have hst : step1 (.ow n.sz es) (off + i, j) = some (cells y)[j] := by
              simp only [step1, hy, Option.bind_some]; exact List.getElem?_eq_getElem hj
            have hgp : getP s.h (pl.cell (off + i) j) = some (cells y)[j] := getP_step (look_some hl).2 hst
            obtain ⟨m, u, m1, m2, m3, m4, m5, m6⟩ := cell_at H hgp
            rw [f1] at m1; cases m1
            refine ⟨u, ?_, m6.one, fun z hz hp => ?_⟩
            · rw [hk', ← m5, Nat.add_mul]; congr 2; omega
            · rw [List.getElem?_eq_getElem hj] at hz; cases hz
              exact plain_leaf m6 hp
          have csz : ∀ e ∈ (es.drop off).take len, (cells e).length = n.sz := fun e he => by
            rw [e6 e (List.mem_of_mem_drop (List.mem_of_mem_take he)), ← e3]
          have hcs : ∀ t, t < len * n.sz → ∃ u, w.cell? ⟨n.b, n.o + k * n.sz + t, none⟩ = some u ∧ one u = true := by
            intro t ht
            obtain ⟨a1, a2, a3⟩ := row_split ht
            have hi : t / n.sz < ((es.drop off).take len).length := by omega
            have := csz _ (List.getElem_mem hi)
            obtain ⟨u, d1, d2, _⟩ := cell (t / n.sz) (t % n.sz) _ a1 (List.getElem?_eq_getElem hi) (by omega)
            rw [a3] at d1; exact ⟨u, d1, d2⟩
          obtain ⟨vs, v1, v2, v3⟩ := cells_row hcs
          have base : ∀ us, ((us = [] ∧ ∀ i e j y, ((es.drop off).take len)[i]? = some e → (cells e)[j]? = some y → isNode y = false ∧ (∀ q len, y ≠ .lk q len) ∧ ∃ u, vs[i * n.sz + j]? = some u ∧ RF (mkF B g w) y u) ∨ us = [gone pl]) →
              ∃ news, SrcOk P s B g w n.sz (.rf n.sz pl off len) (.slice (some ⟨n.b, n.o + k * n.sz, none⟩) len cap) ((es.drop off).take len) us news := by
            intro us hus
            refine ⟨vs, fun w' => by rw [hnl]; rfl, fun w' hw => ?_, fun m hm => fst_some v1 (fun j v hj => by rw [addr_add]; exact v2 j v hj) (by rw [hnl] at hm; exact hm), by rw [hnl]; exact v1, v3, csz, ?_⟩
            · rw [hnl]
              exact run_firstCells_some w' n.sz len _ len cap vs v1 (fun j v hj => by rw [addr_add, hw]; exact v2 j v hj)
            · rcases hus with h | h
              · exact .inl h
              · exact .inr ⟨pl, off, len, es, h, rfl, hl, hle, rfl, n.b, _, cap, rfl, v2⟩
          split at he
          · rename_i hp
            simp only [Option.some.injEq, Prod.mk.injEq] at he
            obtain ⟨rfl, rfl, rfl⟩ := he
            refine base [] (.inl ⟨rfl, fun i e j y hi hj => ?_⟩)
            have hpe := List.all_eq_true.1 hp e (List.mem_of_getElem? hi)
            have hpc := List.all_eq_true.1 hpe y (List.mem_of_getElem? hj)
            have hil : i < len := by have := (List.getElem?_eq_some_iff.1 hi).1; omega
            have hjl := (List.getElem?_eq_some_iff.1 hj).1
            obtain ⟨u, d1, _, d3⟩ := cell i j e hil hi hjl
            have hrf := d3 y hj hpc
            obtain ⟨s1, s2, _⟩ := RF_shape hrf
            refine ⟨s1, s2, u, ?_, hrf⟩
            have hes := csz e (List.mem_of_getElem? hi)
            have hlt := row_lt hil (show j < n.sz by omega)
            have hlt' : i * n.sz + j < vs.length := by omega
            have := v2 _ _ (List.getElem?_eq_getElem hlt')
            rw [d1] at this
            rw [List.getElem?_eq_getElem hlt', ← this]
          · simp only [Option.some.injEq, Prod.mk.injEq] at he
            obtain ⟨rfl, rfl, rfl⟩ := he
            exact base [gone pl] (.inr rfl)
        · cases he
      | _ => simp at he
  | _ => simp [elems, oops] at he
end Go.Am
end
section
namespace Go.Am
open Go.RowKit Go.Lib
variable {P : Program} {cx : Cx} {B : Base} {K : Nat → Prop} {g g' : Gh} {R : Nat → Value} {s : St} {h h' : Hp} {w w' : World}
/-- The cells behind a row's elements are written. -/
theorem spare_row {r sz : Nat} {es : List AV} {n : Nd} (ha : hget h r = some (.ow sz es)) (hn : g r [] = some n) (hnw : n.whole = false) : ∀ {news : List Value} {t : Nat} {w : World}, RM B K g R h w → es.length * n.sz ≤ t → t + news.length ≤ n.sz * n.cap →
    RM B K g R h (w.setCells n.b (n.o + t) news) ∧ (∀ b o, ¬ (b = n.b ∧ n.o + t ≤ o ∧ o < n.o + t + news.length) → (w.setCells n.b (n.o + t) news).cell? ⟨b, o, none⟩ = w.cell? ⟨b, o, none⟩) ∧
    (∀ j u, news[j]? = some u → (w.setCells n.b (n.o + t) news).cell? ⟨n.b, n.o + t + j, none⟩ = some u)
  | [], t, w, H, _, _ => ⟨H, fun _ _ _ => rfl, fun j u h => by simp at h⟩
  | v :: l, t, w, H, h1, h2 => by
    simp only [List.length_cons] at h2
    have H' := H.spare (u := v) ha hn h1 (by omega)
    obtain ⟨a1, a2, a3⟩ := spare_row ha hn hnw (news := l) (t := t + 1) H' (by omega) (by omega)
    obtain ⟨cs, el, fr, b1, b2, _⟩ := H.blk r [] n hn hnw
    have hsome : (w.cell? ⟨n.b, n.o + t, none⟩).isSome = true := by
      unfold World.cell?
      simp only [b1]
      have : n.o + t < cs.size := by omega
      simp [this]
    simp only [World.setCells]
    rw [show n.o + t + 1 = n.o + (t + 1) by omega]
    refine ⟨a1, fun b o hbo => ?_, fun j u hj => ?_⟩
    · rw [a2 b o (by intro hx; exact hbo ⟨hx.1, by omega, by simp only [List.length_cons]; omega⟩), cell_setCell, if_neg]
      rintro ⟨rfl, rfl, _⟩
      exact hbo ⟨rfl, by omega, by simp only [List.length_cons]; omega⟩
    · cases j with
      | zero =>
        simp at hj; subst hj
        rw [Nat.add_zero, a2 _ _ (by omega), cell_setCell, if_pos ⟨rfl, rfl, hsome⟩]
      | succ j =>
        have := a3 j u (by simpa using hj)
        rw [show n.o + t + (j + 1) = n.o + (t + 1) + j by omega]; exact this
def goneAt (q : Pl) (o : Option AV) : Option AV := if q.p = [] then none else o.map fun t => setT t q.p .un
theorem hget_gone {q : Pl} {r : Nat} : hget (Up.app h (gone q)) r = if r = q.r then goneAt q (hget h r) else hget h r := by
  unfold goneAt
  by_cases e : q.p = []
  · rw [app_gone_root e, hget_hdel, if_pos e]
  · have : q.p.isEmpty = false := by cases hh : q.p with | nil => exact absurd hh e | cons _ _ => rfl
    simp only [gone, this, Bool.false_eq_true, if_false, Up.app, if_neg e]
    cases ha : hget h q.r with
    | none =>
      by_cases e2 : r = q.r
      · subst e2; rw [if_pos rfl]; simp [ha]
      · rw [if_neg e2]
    | some a =>
      rw [hget_hins]
      by_cases e2 : r = q.r
      · subst e2; rw [if_pos rfl, if_pos rfl, ha]; rfl
      · rw [if_neg e2, if_neg e2]
/-- The source of an append is taken out whole. -/
theorem src_out {g1 : Gh} {R1 : Nat → Value} {h1 : Hp} {sz : Nat} {vx : Value} {pl : Pl} {off len : Nat} {es : List AV} (H1 : RM B K g1 R1 h1 w) (hx : XD (mkF B g w) g s.d (.rf sz pl off len) vx) (hl : look s true pl = some (.ow sz es)) (hle : off + len ≤ es.length)
    (hkeep : ∀ k, g pl.r pl.p = some k → g1 pl.r pl.p = some k) (hget1 : getP h1 pl = some (.ow sz es)) {N : Nat} (hN : hget h1 N = none) (hKN : ¬ K N) :
    ∃ g2 R2, RM B K g2 R2 (hins (Up.app h1 (gone pl)) N (.ow sz ((es.drop off).take len))) w ∧ R2 N = vx ∧ hget (Up.app h1 (gone pl)) N = none ∧ (∀ b o, owned g2 b o → owned g1 b o) ∧
      (∀ q k, q.r ≠ N → pl.pre q = false → g1 q.r q.p = some k → g2 q.r q.p = some k) := by
  obtain ⟨cap, k, n, f1, f2, f3, f4, f5, f6, rfl⟩ := X_rf hx (okD_of_look hl)
  have hab : absorb1 { s with alias := false } (.rf sz pl off len) = some (.ow sz ((es.drop off).take len), [⟨pl, true⟩], [gone pl]) := by
    have hl' : look { s with alias := false } true pl = some (.ow sz es) := hl
    simp only [absorb1, Bool.false_eq_true, if_false, hl']
    rw [if_pos ⟨trivial, hle⟩]
  have hX : XD (mkF B g1 w) g1 s.d (.rf sz pl off len) (.slice (some ⟨n.b, n.o + k * n.sz, none⟩) len cap) := by
    refine cellX ?_ rfl rfl
    rw [fadeC_ok fun q hq => by cases hq; exact okD_of_look hl, ← f3]
    exact .rf pl off len cap k n (hkeep n f1) f2 f4 f5 f6
  obtain ⟨src, g2, R2, e1, r1, r2, r3, r4, r5, r6⟩ := H1.takeOut (s := { s with alias := false }) rfl hab hX (fun q c hlq hu => by
    have : q = pl := by
      have h1 := congrArg Up.pl hu
      rw [gone_pl, gone_pl] at h1; exact h1.symm
    subst this
    have hl' : look { s with alias := false } true q = some (.ow sz es) := hl
    rw [hl'] at hlq; cases hlq; exact hget1) hN hKN
  have hsrc : src = pl := by
    have h1 := congrArg Up.pl e1
    rw [gone_pl, gone_pl] at h1; exact h1.symm
  subst hsrc
  exact ⟨g2, R2, r1, r2, r3, r5, r6⟩
/-- What a row of its own says. -/
theorem row_root (H : RM B K g R h w) {d sz : Nat} {es : List AV} {b o : Nat} {len cap : Nat} (hd : hget h d = some (.ow sz es)) (hv : R d = .slice (some ⟨b, o, none⟩) len cap) :
    ∃ n, g d [] = some n ∧ n.whole = false ∧ n.sz = sz ∧ es.length = len ∧ n.b = b ∧ n.o = o ∧ n.cap = cap ∧ es.length ≤ n.cap ∧ ∀ e ∈ es, (cells e).length = sz := by
  obtain ⟨n, e1, e2, e3, e4, e5, e6⟩ := (H.tree d _ hd).root
  rw [hv] at e5
  simp only [Value.slice.injEq, Option.some.injEq, Addr.mk.injEq, and_true] at e5
  obtain ⟨⟨rfl, rfl⟩, rfl, rfl⟩ := e5
  exact ⟨n, e1, e2, e3, rfl, rfl, rfl, rfl, e4, e6⟩
/-- The last step of an append: root d takes the new elements in; the source is plain, or it is root N. -/
theorem fin_plain (H : RM B K g R h w) {d sz : Nat} {old new : List AV} {n : Nd} {news : List Value} (hd : hget h d = some (.ow sz old)) (hn : g d [] = some n) (hnsz : n.sz = sz) (hcap : old.length + new.length ≤ n.cap) (hcsz : ∀ e ∈ new, (cells e).length = sz)
    (hcells : ∀ t u, news[t]? = some u → w.cell? ⟨n.b, n.o + old.length * n.sz + t, none⟩ = some u)
    (hsrc : ∀ i e j y, new[i]? = some e → (cells e)[j]? = some y → isNode y = false ∧ (∀ q len, y ≠ .lk q len) ∧ ∃ u, news[i * sz + j]? = some u ∧ RF (mkF B g w) y u) :
    RM B K g (setR R d (.slice (some ⟨n.b, n.o, none⟩) (old.length + new.length) n.cap)) (hins h d (.ow sz (old ++ new))) w :=
  H.extend hd hn hcap hcsz fun i e j x hi hj => by
    obtain ⟨a1, a2, u, a3, a4⟩ := hsrc i e j x hi hj
    refine ⟨a1, a2, u, ?_, a4⟩
    rw [← hcells _ u a3, hnsz]
    congr 2
    rw [Nat.add_mul]; omega
theorem fin_join (H : RM B K g R h w) {d N sz : Nat} {old new : List AV} {n m : Nd} {news : List Value} (hdN : d ≠ N) (hd : hget h d = some (.ow sz old)) (hN : hget h N = some (.ow sz new)) (hn : g d [] = some n) (hm : g N [] = some m) (hKN : ¬ K N) (hnsz : n.sz = sz) (hmsz : m.sz = sz)
    (hcap : old.length + new.length ≤ n.cap) (hcsz : ∀ e ∈ new, (cells e).length = sz) (hnl : news.length = new.length * sz)
    (hcells : ∀ t u, news[t]? = some u → w.cell? ⟨n.b, n.o + old.length * n.sz + t, none⟩ = some u) (hsrc : ∀ t u, news[t]? = some u → w.cell? ⟨m.b, m.o + t, none⟩ = some u) :
    RM B K (joinG g d N old.length) (setR R d (.slice (some ⟨n.b, n.o, none⟩) (old.length + new.length) n.cap)) (hdel (hins h d (.ow sz (old ++ new))) N) w ∧ (∀ b o, owned (joinG g d N old.length) b o → owned g b o) :=
  H.joinRow hdN hd hN hn hm hKN hcap fun i j x hx => by
    simp only [step1] at hx
    cases he : new[i]? with
    | none => simp [he] at hx
    | some e =>
      simp only [he, Option.bind_some] at hx
      have hj : j < sz := by
        have := (List.getElem?_eq_some_iff.1 hx).1
        rw [hcsz e (List.mem_of_getElem? he)] at this; exact this
      have hlt := row_lt (List.getElem?_eq_some_iff.1 he).1 hj
      have hlt' : i * sz + j < news.length := by omega
      have e1 := hcells _ _ (List.getElem?_eq_getElem hlt')
      have e2 := hsrc _ _ (List.getElem?_eq_getElem hlt')
      rw [hmsz, show m.o + i * sz + j = m.o + (i * sz + j) by omega, e2, ← e1, hnsz, Nat.add_mul]
      congr 2; omega
end Go.Am
end
section
namespace Go.Am
open Go.RowKit Go.Lib
variable {P : Program} {cx : Cx} {B : Base} {K : Nat → Prop} {g g' : Gh} {R : Nat → Value} {s : St} {h h' : Hp} {w w' : World}
theorem le_cells {n : Nd} {t m : Nat} {news : List Value} {r : Nat} {p : List (Nat × Nat)} (hn : g r p = some n) (hm : t + m ≤ n.sz * n.cap)
    (hsame : ∀ b o, ¬ (b = n.b ∧ n.o + t ≤ o ∧ o < n.o + t + m) → w'.cell? ⟨b, o, none⟩ = w.cell? ⟨b, o, none⟩) : (mkF B g w).le (mkF B g w') := by
  refine le_of (fun b o v hv hno => ?_) fun b o v _ hx => hx
  rw [hsame b o]; exact hv
  rintro ⟨rfl, h1, h2⟩
  exact hno ⟨r, p, n, hn, rfl, .inr ⟨by omega, by omega⟩⟩
theorem pre_other {a b : Pl} (h : a.r ≠ b.r) : a.pre b = false := by
  simp only [Pl.pre, Bool.and_eq_false_iff]; exact .inl (nbF h)
/-- What an append leaves. -/
structure Grown (B : Base) (s : St) (g : Gh) (w : World) (d sz : Nat) (us : List Up) (es : List AV) (v : Value) (w' : World) : Prop where
  ex : ∃ g' R', RM B (Kd s.d) g' R' (Up.apps (us ++ [.new d (.ow sz es)]) s.h) w' ∧ (mkF B g w).le (mkF B g' w') ∧ (∀ q k, q.r ≠ d → (∀ u ∈ us, u.pl.pre q = false) → g q.r q.p = some k → g' q.r q.p = some k) ∧
    ∃ n, g' d [] = some n ∧ n.whole = false ∧ n.sz = sz ∧ v = .slice (some ⟨n.b, n.o, none⟩) es.length n.cap ∧ es.length ≤ n.cap
theorem app_room (H : RM B (Kd s.d) g R s.h w) {d sz off len : Nat} {pl : Pl} {es new : List AV} {news : List Value} {us : List Up} {x : AV} {va vx : Value} (ha : XD (mkF B g w) g s.d (.rf sz pl off len) va) (hx : XD (mkF B g w) g s.d x vx)
    (hS : SrcOk P s B g w sz x vx new us news) (hl : look s true pl = some (.ow sz es)) (hle : off + len ≤ es.length) (hd : hget s.h d = none) (hKd : ¬ Kd s.d d) (hap : apartUps (gone pl :: us) = true)
    {b o cap : Nat} (hva : va = .slice (some ⟨b, o, none⟩) len cap) (hroom : len + new.length ≤ cap) :
    (∀ j, j < news.length → (w.cell? ⟨b, o + len * sz + j, none⟩).isSome = true ∧ w.frozen? ⟨b, o + len * sz + j, none⟩ = false) ∧
    Grown B s g w d sz (gone pl :: us) ((es.drop off).take len ++ new) (.slice (some ⟨b, o, none⟩) (len + new.length) cap) (w.setCells b (o + len * sz) news) := by
  have hgp := (look_some hl).2
  have hpd : pl.r ≠ d := by obtain ⟨a, ha, _⟩ := getP_some hgp; rintro e; rw [e, hd] at ha; cases ha
  obtain ⟨g1, R1, r1, r2, r3, own1, keep1⟩ := src_out (N := d) H ha hl hle (fun k hk => hk) hgp hd hKd
  have hd1 : hget (hins (Up.app s.h (gone pl)) d (.ow sz ((es.drop off).take len))) d = some (.ow sz ((es.drop off).take len)) := by rw [hget_hins, if_pos rfl]
  obtain ⟨n, n1, n2, n3, n4, rfl, rfl, rfl, n5, n6⟩ := row_root r1 hd1 (r2.trans hva)
  have hfit : len * sz + news.length ≤ n.sz * n.cap := by
    rw [hS.nl, n3, ← Nat.add_mul, Nat.mul_comm]; exact Nat.mul_le_mul_left _ hroom
  refine ⟨fun j hj => ?_, ?_⟩
  · obtain ⟨cs, el, fr, b1, b2, b3⟩ := r1.blk d [] n n1 n2
    refine ⟨?_, b3 _ ⟨rfl, .inr ⟨by omega, by omega⟩⟩⟩
    unfold World.cell?
    simp only [b1]
    have : n.o + len * sz + j < cs.size := by omega
    simp [this]
  rcases hS.src with ⟨rfl, hpl⟩ | ⟨plx, offx, lenx, esx, rfl, rfl, hlx, hlex, hnew, bx, ox, capx, hvx, hcx⟩
  · obtain ⟨a1, a2, a3⟩ := spare_row hd1 n1 n2 (news := news) (t := len * sz) r1 (by rw [n4, n3]; exact Nat.le_refl _) hfit
    have hle2 : (mkF B g w).le (mkF B g1 (w.setCells n.b (n.o + len * sz) news)) := le_trans' (le_sub own1) (le_cells (news := news) n1 hfit a2)
    have hfin := fin_plain (new := new) (news := news) a1 hd1 n1 n3 (by omega) hS.csz (by rw [n4, n3]; exact a3) (fun i e j y hi hj => by
      obtain ⟨b1, b2, u, b3, b4⟩ := hpl i e j y hi hj
      exact ⟨b1, b2, u, b3, b4.mono hle2⟩)
    refine ⟨g1, _, hfin.congr fun q => ?_, hle2, fun q k hq hu hk => keep1 q k hq (by have := hu (gone pl) (by simp); rw [gone_pl] at this; exact this) hk, n, n1, n2, n3, by simp only [List.length_append]; rw [n4], by simp only [List.length_append]; omega⟩
    simp only [List.cons_append, List.nil_append, Up.apps, Up.app]
    rw [hget_hins, hget_hins, hget_hins]
    by_cases e : q = d <;> simp [e]
  · have hgx := (look_some hlx).2
    have hxd : plx.r ≠ d := by obtain ⟨a, ha, _⟩ := getP_some hgx; rintro e; rw [e, hd] at ha; cases ha
    have hapx : pl.apart plx := by have := (apartUps_cons hap).1 (gone plx) (by simp); rw [gone_pl, gone_pl] at this; exact this
    obtain ⟨N, hN, hKN⟩ := free_no (hins (Up.app s.h (gone pl)) d (.ow sz ((es.drop off).take len))) s.d
    obtain ⟨g2, R2, s1, s2, s3, own2, keep2⟩ := src_out (N := N) r1 hx hlx hlex (fun k hk => keep1 plx k hxd hapx.1 hk) (by rw [getP_hins_ne hxd, getP_gone hgp hapx]; exact hgx) hN hKN
    have hdN : d ≠ N := by rintro rfl; rw [hd1] at hN; cases hN
    rw [← hnew] at s1
    have hd2 : hget (hins (Up.app (hins (Up.app s.h (gone pl)) d (.ow sz ((es.drop off).take len))) (gone plx)) N (.ow sz new)) d = some (.ow sz ((es.drop off).take len)) := by
      rw [hget_hins, if_neg hdN, hget_gone, if_neg (fun e => hxd e.symm), hd1]
    have hN2 : hget (hins (Up.app (hins (Up.app s.h (gone pl)) d (.ow sz ((es.drop off).take len))) (gone plx)) N (.ow sz new)) N = some (.ow sz new) := by rw [hget_hins, if_pos rfl]
    have n1' : g2 d [] = some n := keep2 ⟨d, []⟩ n hdN (pre_other hxd) n1
    obtain ⟨m, m1, m2, m3, m4, m5, m6, m7, m8, m9⟩ := row_root s1 hN2 (s2.trans hvx)
    obtain ⟨a1, a2, a3⟩ := spare_row hd2 n1' n2 (news := news) (t := len * sz) s1 (by rw [n4, n3]; exact Nat.le_refl _) hfit
    have hle2 : (mkF B g w).le (mkF B g2 (w.setCells n.b (n.o + len * sz) news)) := le_trans' (le_trans' (le_sub own1) (le_sub own2)) (le_cells (news := news) n1' hfit a2)
    obtain ⟨hfin, hown⟩ := fin_join (new := new) (news := news) a1 hdN hd2 hN2 n1' m1 hKN n3 m3 (by omega) hS.csz hS.nl (by rw [n4, n3]; exact a3) (fun t u ht => by
      rw [a2, m5, m6]
      · exact hcx t u ht
      · rintro ⟨e1, e2, e3⟩
        have ht' := (List.getElem?_eq_some_iff.1 ht).1
        have hmc : news.length ≤ m.sz * m.cap := by rw [hS.nl, m3, Nat.mul_comm]; exact Nat.mul_le_mul_left _ m8
        refine s1.disj d [] n N [] m n1' m1 (by intro e; cases e; exact hdN rfl) m.b (m.o + t) ⟨e1.symm, .inr ⟨by omega, by omega⟩⟩ ⟨rfl, .inr ⟨by omega, by omega⟩⟩)
    refine ⟨_, _, hfin.congr fun q => ?_, le_trans' hle2 (le_sub hown), fun q k hq hu hk => ?_, n, by simp only [joinG, if_neg hdN, if_true]; exact n1', n2, n3, by simp only [List.length_append]; rw [n4], by simp only [List.length_append]; omega⟩
    · simp only [List.cons_append, List.nil_append, Up.apps]
      rw [show ∀ X, Up.app X (.new d (.ow sz ((es.drop off).take len ++ new))) = hins X d (.ow sz ((es.drop off).take len ++ new)) from fun _ => rfl]
      have hN' : (if N = plx.r then goneAt plx (if N = pl.r then goneAt pl (hget s.h N) else hget s.h N) else if N = pl.r then goneAt pl (hget s.h N) else hget s.h N) = none := by
        rw [hget_hins, if_neg (fun e => hdN e.symm), hget_gone] at hN
        split
        · rw [hN]; unfold goneAt; split <;> rfl
        · exact hN
      simp only [hget_hdel, hget_hins, hget_gone]
      by_cases e : q = d
      · simp only [e, if_true, hdN, if_false]
      · simp only [e, if_false]
        by_cases e2 : q = N
        · subst e2
          simp only [if_true]; exact hN'
        · simp only [e2, if_false]
    · have hqN : q.r ≠ N := by
        rintro e
        have hqp : pl.pre q = false := by have := hu (gone pl) (by simp); rw [gone_pl] at this; exact this
        have := r1.void N hN q.p
        have hk1 := keep1 q k hq hqp hk
        rw [e] at hk1; rw [this] at hk1; cases hk1
      simp only [joinG, if_neg hqN, if_neg hq]
      refine keep2 q k hqN ?_ (keep1 q k hq ?_ hk)
      · have := hu (gone plx) (by simp); rw [gone_pl] at this; exact this
      · have := hu (gone pl) (by simp); rw [gone_pl] at this; exact this
end Go.Am
end
section
namespace Go.Am
open Go.RowKit Go.Lib
variable {P : Program} {cx : Cx} {B : Base} {K : Nat → Prop} {g g' g1 g2 : Gh} {R R1 R2 : Nat → Value} {s : St} {h h' h1 h2 : Hp} {w w' : World}
theorem alloc_new {cs : Array Value} {e : TypeId} {t : Nat} : (w.drew.alloc (.cells cs e)).cell? ⟨w.heap.size, t, none⟩ = cs[t]? := by
  unfold World.cell? World.alloc World.drew
  simp
theorem alloc_old {cs : Array Value} {e : TypeId} {b t : Nat} (hb : b < w.heap.size) : (w.drew.alloc (.cells cs e)).cell? ⟨b, t, none⟩ = w.cell? ⟨b, t, none⟩ := by
  unfold World.cell? World.alloc World.drew
  simp only [Array.getElem?_push, if_neg (show ¬ b = w.heap.size by omega)]
theorem grow_row (H : RM B K g R h w) {d sz cap : Nat} {cs : Array Value} {e : TypeId} (hd : hget h d = none) (hKd : ¬ K d) (hsz : sz * cap ≤ cs.size) :
    ∃ R', RM B K (newG g d ⟨w.heap.size, 0, sz, cap, false⟩) R' (hins h d (.ow sz [])) (w.drew.alloc (.cells cs e)) ∧ (mkF B g w).le (mkF B (newG g d ⟨w.heap.size, 0, sz, cap, false⟩) (w.drew.alloc (.cells cs e))) := by
  have hnew := H.new (r := d) (c := .ow sz []) (cs := cs) (el := e) (sz := sz) (cap := cap) hd hKd hsz (v := .slice (some ⟨w.heap.size, 0, none⟩) 0 cap)
    ⟨_, rfl, rfl, rfl, Nat.zero_le _, rfl, fun e he => by cases he⟩ rfl (by intro _ _ h; cases h) (fun i j x hx => by simp [step1] at hx)
  exact ⟨_, hnew.world rfl rfl rfl rfl, le_new H (o := .cells cs e)⟩
/-- Where the elements that are there stand, before the new row is made: nowhere, or in a root of their own. -/
structure DstOut (B : Base) (K : Nat → Prop) (s : St) (g : Gh) (w : World) (d sz : Nat) (us0 : List Up) (No : Option Nat) (old : List AV) (olds : List Value) (g1 : Gh) (R1 : Nat → Value) (h1 : Hp) : Prop where
  rm : RM B K g1 R1 h1 w
  sub : ∀ b o, owned g1 b o → owned g b o
  heap : ∀ q, hget h1 q = if some q = No then some (.ow sz old) else hget (Up.apps us0 s.h) q
  noN : ∀ N, No = some N → hget s.h N = none ∧ hget (Up.apps us0 s.h) N = none ∧ ¬ K N ∧ N ≠ d ∧ ∃ m, g1 N [] = some m ∧ m.sz = sz ∧ ∀ t u, olds[t]? = some u → w.cell? ⟨m.b, m.o + t, none⟩ = some u
  nil : No = none → old = []
  ol : olds.length = old.length * sz
  csz : ∀ e ∈ old, (cells e).length = sz
  keep : ∀ q k, some q.r ≠ No → (∀ u ∈ us0, u.pl.pre q = false) → g q.r q.p = some k → g1 q.r q.p = some k
  dn : hget (Up.apps us0 s.h) d = none
  get : ∀ q c, some q.r ≠ No → (∀ u ∈ us0, u.pl.apart q) → getP s.h q = some c → getP h1 q = some c
/-- The new row takes the elements that are there. -/
theorem grow_old (H : RM B K g R h w) {d sz cap : Nat} {No : Option Nat} {old : List AV} {olds : List Value} {cs : Array Value} {e : TypeId} (hd : hget h d = none) (hKd : ¬ K d) (hsz : sz * cap ≤ cs.size) (hcap : old.length ≤ cap)
    (hol : olds.length = old.length * sz) (hcsz : ∀ e ∈ old, (cells e).length = sz) (hcs : ∀ (t : Nat) u, olds[t]? = some u → cs[t]? = some u) (hnil : No = none → old = [])
    (hN : ∀ N, No = some N → hget h N = some (.ow sz old) ∧ ¬ K N ∧ N ≠ d ∧ ∃ m, g N [] = some m ∧ m.sz = sz ∧ ∀ t u, olds[t]? = some u → w.cell? ⟨m.b, m.o + t, none⟩ = some u) :
    ∃ g' R' h', RM B K g' R' h' (w.drew.alloc (.cells cs e)) ∧ (mkF B g w).le (mkF B g' (w.drew.alloc (.cells cs e))) ∧ g' d [] = some ⟨w.heap.size, 0, sz, cap, false⟩ ∧
      (∀ q, hget h' q = if q = d then some (.ow sz old) else if some q = No then none else hget h q) ∧ (∀ r p k, r ≠ d → some r ≠ No → g r p = some k → g' r p = some k) := by
  obtain ⟨R', a1, a2⟩ := grow_row (e := e) H hd hKd hsz
  cases No with
  | none =>
    have := hnil rfl
    subst this
    refine ⟨_, R', _, a1, a2, by simp [newG], fun q => ?_, fun r p k hr _ hk => ?_⟩
    · rw [hget_hins]; simp
    · simp only [newG, if_neg hr]; exact hk
  | some N =>
    obtain ⟨c1, c2, c3, m, c4, c5, c6⟩ := hN N rfl
    have hbm : m.b < w.heap.size := by
      have tN := (H.tree N _ c1).root
      obtain ⟨m', e1, e2, _⟩ := tN
      rw [c4] at e1; cases e1
      obtain ⟨cs', el, fr, b1, _⟩ := H.blk N [] m c4 e2
      exact (Array.getElem?_eq_some_iff.1 b1).1
    obtain ⟨hj, hown⟩ := fin_join (d := d) (N := N) (sz := sz) (old := []) (new := old) (news := olds) (n := ⟨w.heap.size, 0, sz, cap, false⟩) (m := m) a1 (fun e => c3 e.symm) (by rw [hget_hins, if_pos rfl]) (by rw [hget_hins, if_neg c3]; exact c1) (by simp [newG]) (by simp only [newG, if_neg c3]; exact c4) c2 rfl c5
      (by simpa using hcap) hcsz hol (fun t u ht => by
        simp only [List.length_nil, Nat.zero_mul, Nat.add_zero, Nat.zero_add]
        rw [alloc_new]; exact hcs t u ht) (fun t u ht => by rw [alloc_old hbm]; exact c6 t u ht)
    refine ⟨_, _, _, hj, le_trans' a2 (le_sub hown), ?_, fun q => ?_, fun r p k hr hrN hk => ?_⟩
    · simp only [joinG, if_neg (fun e => c3 (Eq.symm e) : ¬ d = N), if_true, newG]
    · rw [hget_hdel, hget_hins, hget_hins]
      by_cases e1 : q = d
      · subst e1; rw [if_neg (fun e => c3 e.symm), if_pos rfl, if_pos rfl, List.nil_append]
      · rw [if_neg e1, if_neg e1, if_neg e1]
        by_cases e2 : q = N
        · subst e2; simp
        · rw [if_neg e2, if_neg (by intro e; cases e; exact e2 rfl)]
    · have hrN' : r ≠ N := fun e => hrN (by rw [e])
      simp only [joinG, if_neg hrN', if_neg hr, newG]; exact hk
theorem app_grow {d sz cap : Nat} {us0 us : List Up} {No : Option Nat} {old new : List AV} {olds news : List Value} {x : AV} {vx : Value} {cs : Array Value} {e : TypeId} (H : RM B (Kd s.d) g R s.h w) (D : DstOut B (Kd s.d) s g w d sz us0 No old olds g1 R1 h1) (hx : XD (mkF B g w) g s.d x vx)
    (hS : SrcOk P s B g w sz x vx new us news) (hd : hget s.h d = none) (hKd : ¬ Kd s.d d) (hap : ∀ u0 ∈ us0, ∀ u ∈ us, u0.pl.apart u.pl) (hsz : sz * cap ≤ cs.size) (hcap : old.length + new.length ≤ cap)
    (hco : ∀ (t : Nat) u, olds[t]? = some u → cs[t]? = some u) (hcn : ∀ (t : Nat) u, news[t]? = some u → cs[old.length * sz + t]? = some u) :
    Grown B s g w d sz (us0 ++ us) (old ++ new) (.slice (some ⟨w.heap.size, 0, none⟩) (old.length + new.length) cap) (w.drew.alloc (.cells cs e)) := by
  have hd1 : hget h1 d = none := by
    rw [D.heap]
    split
    · rename_i hh
      exact absurd rfl (D.noN d hh.symm).2.2.2.1
    · exact D.dn
  rcases hS.src with ⟨rfl, hpl⟩ | ⟨plx, offx, lenx, esx, rfl, rfl, hlx, hlex, hnew, bx, ox, capx, hvx, hcx⟩
  · obtain ⟨g3, R3, h3, b1, b2, b3, b4, b5⟩ := grow_old (cap := cap) (e := e) D.rm hd1 hKd hsz (by omega) D.ol D.csz hco D.nil (fun N hN => by
      obtain ⟨_, e1, e2, e3, m, e4, e5, e6⟩ := D.noN N hN
      exact ⟨by rw [D.heap, if_pos hN.symm], e2, e3, m, e4, e5, e6⟩)
    have hle : (mkF B g w).le (mkF B g3 (w.drew.alloc (.cells cs e))) := le_trans' (le_sub D.sub) b2
    have hfin := fin_plain (new := new) (news := news) (n := ⟨w.heap.size, 0, sz, cap, false⟩) b1 (by rw [b4, if_pos rfl]) b3 rfl hcap hS.csz (fun t u ht => by
      rw [Nat.zero_add, alloc_new]; exact hcn t u ht) (fun i e j y hi hj => by
      obtain ⟨c1, c2, u, c3, c4⟩ := hpl i e j y hi hj
      exact ⟨c1, c2, u, c3, c4.mono hle⟩)
    refine ⟨g3, _, hfin.congr fun q => ?_, hle, fun q k hq hu hk => ?_, _, b3, rfl, rfl, by simp only [List.length_append], by simp only [List.length_append]; exact hcap⟩
    · rw [List.append_nil, Up.apps_append]
      simp only [Up.apps, Up.app]
      rw [hget_hins, hget_hins, b4]
      by_cases e1 : q = d
      · rw [if_pos e1, if_pos e1]
      · rw [if_neg e1, if_neg e1, if_neg e1]
        split
        · rename_i hh; exact (D.noN q hh.symm).2.1
        · rename_i hh; rw [D.heap, if_neg hh]
    · have hqN : some q.r ≠ No := by
        intro hh
        obtain ⟨e1, _⟩ := D.noN q.r hh.symm
        rw [H.void _ e1] at hk; cases hk
      exact b5 _ _ _ hq hqN (D.keep q k hqN (fun u hu' => hu u (by simpa using hu')) hk)
  · have hgx := (look_some hlx).2
    obtain ⟨ax, hax, _⟩ := getP_some hgx
    have hxd : plx.r ≠ d := by rintro e; rw [e, hd] at hax; cases hax
    have hxN : some plx.r ≠ No := by
      intro hh
      rw [(D.noN _ hh.symm).1] at hax; cases hax
    have hapx : ∀ u ∈ us0, u.pl.apart plx := fun u hu => by have := hap u hu (gone plx) (by simp); rw [gone_pl] at this; exact this
    obtain ⟨N2, hN2', hKN2⟩ := free_no (hins h1 d .un) s.d
    rw [hget_hins] at hN2'
    have hN2d : N2 ≠ d := by rintro rfl; rw [if_pos rfl] at hN2'; cases hN2'
    rw [if_neg hN2d] at hN2'
    have hN2o : some N2 ≠ No := by
      intro hh
      rw [D.heap, if_pos hh] at hN2'; cases hN2'
    obtain ⟨g2, R2, s1, s2, s3, own2, keep2⟩ := src_out (N := N2) D.rm hx hlx hlex (fun k hk => D.keep plx k hxN (fun u hu => (hapx u hu).1) hk) (D.get plx _ hxN hapx hgx) hN2' hKN2
    rw [← hnew] at s1
    have hh2 : ∀ q, hget (hins (Up.app h1 (gone plx)) N2 (.ow sz new)) q = if q = N2 then some (.ow sz new) else if q = plx.r then goneAt plx (hget h1 q) else hget h1 q := fun q => by rw [hget_hins, hget_gone]
    obtain ⟨m2, m1, m2', m3, m4, m5, m6, m7, m8, m9⟩ := row_root (d := N2) s1 (by rw [hget_hins, if_pos rfl]) (s2.trans hvx)
    obtain ⟨g3, R3, h3, b1, b2, b3, b4, b5⟩ := grow_old (cap := cap) (e := e) (cs := cs) s1 (d := d) (by rw [hh2, if_neg (fun e => hN2d e.symm), if_neg (fun e => hxd e.symm)]; exact hd1) hKd hsz (by omega) D.ol D.csz hco D.nil (fun N hN => by
      obtain ⟨e0, e1, e2, e3, m, e4, e5, e6⟩ := D.noN N hN
      have hNN2 : N ≠ N2 := by rintro rfl; exact hN2o hN.symm
      have hNx : N ≠ plx.r := by rintro rfl; exact hxN hN.symm
      exact ⟨by rw [hh2, if_neg hNN2, if_neg hNx, D.heap, if_pos hN.symm], e2, e3, m, keep2 ⟨N, []⟩ m hNN2 (pre_other fun e => hNx e.symm) e4, e5, e6⟩)
    have hle : (mkF B g w).le (mkF B g3 (w.drew.alloc (.cells cs e))) := le_trans' (le_trans' (le_sub D.sub) (le_sub own2)) b2
    have hbm : m2.b < w.heap.size := by
      obtain ⟨cs', el, fr, c1, _⟩ := s1.blk N2 [] m2 m1 m2'
      exact (Array.getElem?_eq_some_iff.1 c1).1
    obtain ⟨hfin, hown⟩ := fin_join (new := new) (news := news) (n := ⟨w.heap.size, 0, sz, cap, false⟩) (m := m2) b1 (d := d) (N := N2) (fun e => hN2d e.symm) (by rw [b4, if_pos rfl]) (by rw [b4, if_neg hN2d, if_neg hN2o, hh2, if_pos rfl]) b3 (b5 _ _ _ hN2d hN2o m1) hKN2 rfl m3 hcap hS.csz hS.nl
      (fun t u ht => by rw [Nat.zero_add, alloc_new]; exact hcn t u ht) (fun t u ht => by rw [alloc_old hbm, m5, m6]; exact hcx t u ht)
    refine ⟨_, _, hfin.congr fun q => ?_, le_trans' hle (le_sub hown), fun q k hq hu hk => ?_, _, by simp only [joinG, if_neg (fun e => hN2d (Eq.symm e) : ¬ d = N2), if_true]; exact b3, rfl, rfl, by simp only [List.length_append], by simp only [List.length_append]; exact hcap⟩
    · rw [Up.apps_append, Up.apps_append]
      simp only [Up.apps]
      rw [show ∀ X, Up.app X (.new d (.ow sz (old ++ new))) = hins X d (.ow sz (old ++ new)) from fun _ => rfl]
      rw [hget_hins, hget_hdel, hget_hins, b4, hh2, hget_gone]
      by_cases e1 : q = d
      · rw [if_pos e1, if_pos e1, if_neg (fun e => hN2d (e.symm.trans e1))]
      · rw [if_neg e1, if_neg e1, if_neg e1]
        have base : ∀ {q}, hget (Up.apps us0 s.h) q = none → (if q = plx.r then goneAt plx (hget (Up.apps us0 s.h) q) else hget (Up.apps us0 s.h) q) = none := by
          intro q hq
          split
          · rw [hq]; unfold goneAt; split <;> rfl
          · exact hq
        by_cases e2 : q = N2
        · rw [if_pos e2]
          refine base ?_
          rw [e2]
          rw [D.heap, if_neg hN2o] at hN2'; exact hN2'
        · rw [if_neg e2, if_neg e2]
          by_cases e3 : some q = No
          · rw [if_pos e3]; exact base (D.noN q e3.symm).2.1
          · rw [if_neg e3, D.heap, if_neg e3]
    · have hqN : some q.r ≠ No := by
        intro hh
        obtain ⟨e1, _⟩ := D.noN q.r hh.symm
        rw [H.void _ e1] at hk; cases hk
      have hk1 := D.keep q k hqN (fun u hu' => hu u (List.mem_append_left _ hu')) hk
      have hqN2 : q.r ≠ N2 := by
        intro hh
        have := D.rm.void N2 hN2' q.p
        rw [hh, this] at hk1; cases hk1
      simp only [joinG, if_neg hqN2, if_neg hq]
      refine b5 _ _ _ hq hqN (keep2 q k hqN2 ?_ hk1)
      have := hu (gone plx) (by simp); rw [gone_pl] at this; exact this
end Go.Am
end
section
namespace Go.Am
open Go.RowKit Go.Lib
variable {P : Program} {cx : Cx} {B : Base} {K : Nat → Prop} {g g' g1 g2 : Gh} {R R1 R2 : Nat → Value} {s : St} {h h' h1 h2 : Hp} {w w' : World}
theorem Grown.lands {d sz : Nat} {us : List Up} {es : List AV} {v : Value} (H : RM B (Kd s.d) g R s.h w) (hd : hget s.h d = none) (hus : ∀ u ∈ us, ∃ q, u = gone q) (G : Grown B s g w d sz us es v w') {rd : List Rd} {n : Nat} (hn : n = es.length) :
    ∃ g' R', Lands B g s w { val := .rf sz ⟨d, []⟩ 0 n, rd := rd, up := us ++ [.new d (.ow sz es)] } v w' g' R' := by
  obtain ⟨g', R', a1, a2, a3, m, m1, m2, m3, m4, m5⟩ := G.ex
  have hdn : dn (us ++ [.new d (.ow sz es)]) = us := by
    unfold dn
    rw [List.filter_append, show List.filter (fun u : Up => !u.isNew) [.new d (.ow sz es)] = [] from rfl, List.append_nil]
    exact List.filter_eq_self.2 fun u hu => by obtain ⟨q, rfl⟩ := hus u hu; rw [gone_notNew]; rfl
  refine ⟨g', R', a1.weakK fun q hq => Kd_app q hq, a2, fun pl k ho hk => ?_, ?_⟩
  · refine a3 pl k ?_ (fun u hu => ?_) hk
    · rintro e; rw [e, H.void d hd] at hk; cases hk
    · simp only [hdn] at ho
      have := List.any_eq_false.1 (okD_split ho) u hu
      obtain ⟨q, rfl⟩ := hus u hu
      rw [gone_pl]; exact hits_gone (by simpa using this)
  · subst hn
    exact rfXX (cap := m.cap) m1 m2 m3 (by omega) m5 (by rw [m4]; simp)
theorem src_gone {x : AV} {vx : Value} {new : List AV} {us : List Up} {news : List Value} {sz : Nat} (hS : SrcOk P s B g w sz x vx new us news) : ∀ u ∈ us, ∃ q, u = gone q := by
  rcases hS.src with ⟨rfl, _⟩ | ⟨pl, _, _, _, rfl, _⟩
  · intro u hu; cases hu
  · intro u hu; simp at hu; exact ⟨pl, hu⟩
theorem zeroCells_size (z : Array Value) (n : Nat) : (Builtin.zeroCells z n).size = n * z.size := by simp [Builtin.zeroCells]
theorem oApp1_ok (H : RM B (Kd s.d) g R s.h w) {ty xt e rty : TypeId} {info : TypeInfo} {z : Value} {xd : TypeDesc} (ht : P.underlying ty = some (.slice e)) (hxt : P.underlying xt = some xd) (hxd : ∀ k, xd ≠ .int k) (hi : P.info? e = some info) (hz : info.zero = some z) (hzs : z.cells.size = info.size)
    {d : Nat} {a x : AV} {va vx : Value} {new : List AV} {rs : List Rd} {us : List Up} {news : List Value} {ef : Eff} (ha : XD (mkF B g w) g s.d a va) (hx : XD (mkF B g w) g s.d x vx) (hS : SrcOk P s B g w info.size x vx new us news)
    (he : oApp1 s d info.size info.bytes a new rs us = some ef) : Does P B g s w ef (Builtin.append_ #[ty, xt] rty #[va, vx]) := by
  cases new with
  | nil =>
    have hlen := hS.len w
    have hfst := hS.fst w (fun _ => rfl)
    have hn0 : news = [] := List.eq_nil_of_length_eq_zero (by rw [hS.nl]; simp)
    subst hn0
    have go : ∀ base sLen sCap, va = .slice base sLen sCap → sLen ≤ sCap → (Builtin.append_ #[ty, xt] rty #[va, vx]).run P w = .ok va w := by
      intro base sLen sCap hv hle
      rw [hv]
      exact run_app_zero w ht hxt hxd hi hlen hfst hle
    cases a with
    | fz lab sz' es =>
      simp only [oApp1] at he
      cases hu : us.isEmpty with
      | false => rw [hu] at he; cases he
      | true =>
        rw [hu, cond_true, Option.some.injEq] at he; subst he
        refine Does.still H ?_ ha
        rcases X_fz ha with ⟨_, _, hv⟩ | ⟨_, b, o, cap, sp, hv, h2, _⟩
        · exact go _ _ _ hv (Nat.le_refl _)
        · exact go _ _ _ hv h2
    | rf sz' pl off len =>
      simp only [oApp1] at he
      cases hu : (useOk s pl && us.isEmpty) with
      | false => rw [hu] at he; cases he
      | true =>
        rw [hu, cond_true, Option.some.injEq] at he; subst he
        simp only [Bool.and_eq_true] at hu
        obtain ⟨cap, k, n, f1, f2, f3, f4, f5, f6, hv⟩ := X_rf ha (useOk_iff.1 hu.1)
        exact Does.still H (go _ _ _ hv f5) ha
    | _ => simp [oApp1] at he
  | cons e0 new =>
    have hn : (e0 :: new).length = new.length + 1 := rfl
    generalize e0 :: new = nw at he hS hn
    have hcsz : ∀ need : Nat, ∀ olds : List Value, ∀ old : List AV, ∀ sCap, olds.length = old.length * info.size → need = old.length + nw.length →
        info.size * grownCap w need sCap e ≤ (olds.toArray ++ news.toArray ++ Builtin.zeroCells z.cells (grownCap w need sCap e - need)).size := by
      intro need olds old sCap h1 h2
      have h3 := grownCap_ge w need sCap e
      simp only [Array.size_append, List.size_toArray, zeroCells_size, hzs, h1, hS.nl, ← Nat.add_mul]
      rw [h2] at h3 ⊢
      rw [Nat.mul_comm]
      exact Nat.mul_le_mul_right _ (by omega)
    have hcs1 : ∀ (olds : List Value) (zs : Array Value) (t : Nat) u, olds[t]? = some u → (olds.toArray ++ news.toArray ++ zs)[t]? = some u := by
      intro olds zs t u h1
      have := (List.getElem?_eq_some_iff.1 h1).1
      rw [Array.append_assoc, Array.getElem?_append_left (by simpa using this)]; simpa using h1
    have hcs2 : ∀ (olds : List Value) (zs : Array Value) (t : Nat) u, news[t]? = some u → (olds.toArray ++ news.toArray ++ zs)[olds.length + t]? = some u := by
      intro olds zs t u h1
      have := (List.getElem?_eq_some_iff.1 h1).1
      rw [Array.append_assoc, Array.getElem?_append_right (by simp)]
      simp only [List.size_toArray, Nat.add_sub_cancel_left]
      rw [Array.getElem?_append_left (by simpa using this)]; simpa using h1
    cases a with
    | fz lab sz' es =>
      cases nw with
      | nil => simp at hn
      | cons e1 nw =>
      simp only [oApp1, oops] at he
      cases hc : (Nat.beq lab 1 && es.isEmpty && Nat.ble ((e1 :: nw).length * info.bytes) roomB && Nat.ble (e1 :: nw).length roomB && freshId s d && apartUps us) with
      | false => rw [hc] at he; cases he
      | true =>
        rw [hc, cond_true, Option.some.injEq] at he; subst he
        simp only [Bool.and_eq_true] at hc
        obtain ⟨⟨⟨⟨⟨c1, c2⟩, c3⟩, c4⟩, c5⟩, c6⟩ := hc
        have hl1 : lab = 1 := by simpa using c1
        obtain ⟨hd, hKd⟩ := freshId_iff c5
        have hva : va = .slice none 0 0 := by
          rcases X_fz ha with ⟨_, _, hv⟩ | ⟨h1, _⟩
          · exact hv
          · exact absurd hl1 h1
        subst hva
        have c3' : (e1 :: nw).length * info.bytes ≤ 2 ^ 46 := by simpa [roomB] using Nat.le_of_ble_eq_true c3
        have c4' : (e1 :: nw).length ≤ 2 ^ 46 := by simpa [roomB] using Nat.le_of_ble_eq_true c4
        have hrun := run_app_grow (P := P) w (ty := rty) (base := none) (sLen := 0) (sCap := 0) (olds := []) (news := news) ht hxt hxd hi hz (hS.len w) (by simp [Builtin.firstCells]) (hS.fst w.drew fun _ => rfl) (by simp) (by simp only [Nat.zero_add]; omega)
          (growslice_fits (by simp) (by simp only [Nat.zero_add]; omega))
        simp only [Nat.zero_add] at hrun
        have D : DstOut B (Kd s.d) s g w d info.size [] none [] [] g R s.h :=
          ⟨H, fun b o hb => hb, (fun q => by simp [Up.apps]), (fun N hN => by cases hN), fun _ => rfl, by simp, (fun e he => by cases he), fun q k _ _ hk => hk, hd, fun q c _ _ hq => hq⟩
        have G := app_grow (e := e) (cap := grownCap w (e1 :: nw).length 0 e) H D hx hS hd hKd (fun u0 h0 => by cases h0) (hcsz (e1 :: nw).length [] [] 0 (by simp) (by simp)) (by simpa using grownCap_ge w (e1 :: nw).length 0 e) (fun t u ht => by simp at ht)
          (fun t u ht => by have := hcs2 [] (Builtin.zeroCells z.cells (grownCap w (e1 :: nw).length 0 e - (e1 :: nw).length)) t u ht; simpa using this)
        simp only [List.nil_append, List.length_nil, Nat.zero_add] at G
        obtain ⟨g', R', L⟩ := G.lands H hd (src_gone hS) (rd := rs) (n := (e1 :: nw).length) rfl
        exact ⟨_, _, g', R', hrun, L⟩
    | rf sz' pl off len =>
      cases nw with
      | nil => simp at hn
      | cons e1 nw =>
      simp only [oApp1, oops] at he
      cases hl : look s true pl with
      | none => simp [hl] at he
      | some c =>
        simp only [hl] at he
        cases c with
        | ow sz'' es =>
          simp only at he
          cases hc : (Nat.beq sz' info.size && Nat.beq sz'' info.size && Nat.ble (off + len) es.length && Nat.ble ((len + (e1 :: nw).length) * info.bytes) roomB && Nat.ble (len + (e1 :: nw).length) roomB && freshId s d && apartUps (gone pl :: us)) with
          | false => rw [hc] at he; cases he
          | true =>
            rw [hc, cond_true, Option.some.injEq] at he; subst he
            simp only [Bool.and_eq_true] at hc
            obtain ⟨⟨⟨⟨⟨⟨c1, c2⟩, c3⟩, c4⟩, c5⟩, c6⟩, c7⟩ := hc
            have e1' : sz' = info.size := by simpa using c1
            have e2' : sz'' = info.size := by simpa using c2
            subst e1'; subst e2'
            have hle : off + len ≤ es.length := Nat.le_of_ble_eq_true c3
            have c4' : (len + (e1 :: nw).length) * info.bytes ≤ 2 ^ 46 := by simpa [roomB] using Nat.le_of_ble_eq_true c4
            have c5' : len + (e1 :: nw).length ≤ 2 ^ 46 := by simpa [roomB] using Nat.le_of_ble_eq_true c5
            obtain ⟨hd, hKd⟩ := freshId_iff c6
            obtain ⟨cap, k, n, f1, f2, f3, f4, f5, f6, hva⟩ := X_rf ha (okD_of_look hl)
            have hol : ((es.drop off).take len).length = len := by simp; omega
            have husg : ∀ u ∈ gone pl :: us, ∃ q, u = gone q := by
              intro u hu
              rcases List.mem_cons.1 hu with rfl | hu
              · exact ⟨pl, rfl⟩
              · exact src_gone hS u hu
            by_cases hroom : len + (e1 :: nw).length ≤ cap
            · obtain ⟨hf, G⟩ := app_room H ha hx hS hl hle hd hKd c7 hva hroom
              have hrun := run_app_room (P := P) w (ty := rty) (b := n.b) (off := n.o + k * n.sz) (sLen := len) (sCap := cap) (news := news) ht hxt hxd hi (hS.len w) (hS.fst w fun _ => rfl) hS.one hroom (fun j hj => (hf j hj).1) (fun j hj => (hf j hj).2)
              rw [← hva] at hrun
              obtain ⟨g', R', L⟩ := G.lands H hd husg (rd := ⟨pl, true⟩ :: rs) (n := len + (e1 :: nw).length) (by rw [List.length_append, hol])
              exact ⟨_, _, g', R', hrun, L⟩
            · -- a new row
              obtain ⟨N, hN, hKN⟩ := free_no (hins s.h d .un) s.d
              rw [hget_hins] at hN
              have hNd : N ≠ d := by rintro rfl; rw [if_pos rfl] at hN; cases hN
              rw [if_neg hNd] at hN
              have hgp := (look_some hl).2
              obtain ⟨ap, hap, _⟩ := getP_some hgp
              have hpd : pl.r ≠ d := by rintro e; rw [e, hd] at hap; cases hap
              have hpN : pl.r ≠ N := by rintro e; rw [e, hN] at hap; cases hap
              obtain ⟨g1, R1, r1, r2, r3, own1, keep1⟩ := src_out (N := N) H ha hl hle (fun k hk => hk) hgp hN hKN
              obtain ⟨m, m1, m2, m3, m4, m5, m6, m7, m8, m9⟩ := row_root (d := N) r1 (by rw [hget_hins, if_pos rfl]) (r2.trans hva)
              -- what stands there
              have hcs : ∀ t, t < len * info.size → ∃ u, w.cell? ⟨m.b, m.o + t, none⟩ = some u ∧ one u = true := by
                intro t ht'
                obtain ⟨q1, q2, q3⟩ := row_split ht'
                have hi' : t / info.size < ((es.drop off).take len).length := by omega
                have hcl := m9 _ (List.getElem_mem hi')
                have hj : t % info.size < (cells ((es.drop off).take len)[t / info.size]).length := by omega
                have tN := r1.tree N (.ow info.size ((es.drop off).take len)) (by rw [hget_hins, if_pos rfl])
                obtain ⟨m', u, p1, p2, p3⟩ := tN.cell [] (t / info.size) (t % info.size) _ (by
                  simp only [List.nil_append, getT, step1, List.getElem?_eq_getElem hi', Option.bind_some]
                  rw [List.getElem?_eq_getElem hj]; rfl)
                rw [m1] at p1; cases p1
                refine ⟨u, ?_, p3.one⟩
                rw [← q3, ← Nat.add_assoc]; rw [m3] at p2; exact p2
              obtain ⟨olds, o1, o2, o3⟩ := cells_row hcs
              have hrun := run_app_grow (P := P) w (ty := rty) (base := some ⟨n.b, n.o + k * n.sz, none⟩) (sLen := len) (sCap := cap) (olds := olds) (news := news) ht hxt hxd hi hz (hS.len w)
                (run_firstCells_some w.drew info.size len _ len cap olds o1 (fun j v hj => by rw [addr_add, ← m5, ← m6]; exact o2 j v hj)) (hS.fst w.drew fun _ => rfl) (by omega) (by omega)
                (growslice_fits (by omega) (by omega))
              rw [← hva] at hrun
              have D : DstOut B (Kd s.d) s g w d info.size [gone pl] (some N) ((es.drop off).take len) olds g1 R1 (hins (Up.app s.h (gone pl)) N (.ow info.size ((es.drop off).take len))) :=
                { rm := r1
                  sub := own1
                  heap := fun q => by rw [hget_hins]; simp only [Up.apps, Option.some.injEq]
                  noN := fun N' hN' => by
                    cases hN'
                    exact ⟨hN, r3, hKN, hNd, m, m1, m3, fun t u ht => o2 t u ht⟩
                  nil := fun e => by cases e
                  ol := by rw [hol]; exact o1
                  csz := m9
                  keep := fun q k' hq hu hk => keep1 q k' (fun e => hq (by rw [e])) (by have := hu (gone pl) (by simp); rw [gone_pl] at this; exact this) hk
                  dn := by simp only [Up.apps]; rw [hget_gone, if_neg (fun e => hpd e.symm)]; exact hd
                  get := fun q c' hq hu hq' => by
                    have := hu (gone pl) (by simp); rw [gone_pl] at this
                    rw [getP_hins_ne (fun e => hq (by rw [e])), getP_gone hgp this]; exact hq' }
              have hge := grownCap_ge w (len + (e1 :: nw).length) cap e
              have G := app_grow (e := e) (cap := grownCap w (len + (e1 :: nw).length) cap e) H D hx hS hd hKd (fun u0 h0 u hu => by simp at h0; subst h0; exact (apartUps_cons c7).1 u hu)
                (hcsz (len + (e1 :: nw).length) olds ((es.drop off).take len) cap (by rw [hol]; exact o1) (by rw [hol])) (by rw [hol]; exact hge) (hcs1 olds _) (by rw [hol, ← o1]; exact hcs2 olds _)
              rw [hol] at G
              obtain ⟨g', R', L⟩ := G.lands H hd husg (rd := ⟨pl, true⟩ :: rs) (n := len + (e1 :: nw).length) (by rw [List.length_append, hol])
              exact ⟨_, _, g', R', hrun, L⟩
        | _ => simp at he
    | _ => cases nw <;> simp [oApp1, oops] at he
theorem oAppend_ok (hT : TOk P cx) (H : RM B (Kd s.d) g R s.h w) {d : Nat} {ty xt rty : Nat} {a x : AV} {va vx : Value} {ef : Eff} (ha : XD (mkF B g w) g s.d a va) (hx : XD (mkF B g w) g s.d x vx)
    (he : oAppend cx s (some d) [ty, xt] [a, x] = some ef) : Does P B g s w ef (Builtin.append_ #[ty, xt] rty #[va, vx]) := by
  simp only [oAppend] at he
  · split at he
    · cases he
    · rename_i el xk hni hk hxk
      cases hei : cx.T el with
      | none => simp [hei] at he
      | some ei =>
        simp only [hei] at he
        cases hel : elems s ei.size x with
        | none => simp [hel] at he
        | some q =>
          obtain ⟨new, rs, us⟩ := q
          simp only [hel] at he
          obtain ⟨info, z, i1, i2, i3, i4, i5⟩ := mkTy_zero (hT el ei hei)
          obtain ⟨news, hS⟩ := elems_ok (P := P) H hx hel
          have hu := kind_slice hT hk
          obtain ⟨xd, x1, x2⟩ := kind_any hT hxk
          rw [← i4, ← i5] at he
          rw [← i4] at hS
          refine oApp1_ok (e := el) (xd := xd) H hu x1 (fun k e => ?_) i1 i2 (by rw [i3, i4]) ha hx hS he
          subst e
          exact hni k x2
    · cases he
end Go.Am
end
section
namespace Go.Am
open Go.RowKit Go.Lib
variable {P : Program} {cx : Cx} {B : Base} {K : Nat → Prop} {g g' g1 g2 : Gh} {R R1 R2 : Nat → Value} {s : St} {h h' h1 h2 : Hp} {w w' : World}
/-- A leaf stands in a cell. -/
theorem leaf_LF {F : Fz} {ob : Nat → Option Obj} {G : Gh} {c : AV} {v : Value} (hc : RF F c v) : LF F ob G c none v := by
  cases hc with
  | int k n => exact ⟨rfl, .int _ _⟩
  | bool b => exact ⟨rfl, .bool _⟩
  | str s => exact ⟨rfl, .str _⟩
  | nilp => exact ⟨rfl, .nilp⟩
  | un v h => exact ⟨rfl, .un _ h⟩
  | nil sz => exact ⟨rfl, .nil _⟩
  | fzs lab sz es b o cap sp h1 h2 h3 h4 => exact ⟨rfl, .fzs _ _ _ _ _ _ _ h1 h2 h3 h4⟩
  | fp lab e off b o h1 h3 => exact ⟨rfl, .fp _ _ _ _ _ h1 h3⟩
theorem Stepped.refl (H : RM B K g R h w) : Stepped B K g h w [] w := ⟨g, R, H, le_refl, fun _ _ _ hm => hm⟩
theorem par_keep {par : Pl} {i j : Nat} {x : AV} : ∀ u ∈ [Up.set (par.cell i j) x], u.pl.pre par = false := by
  intro u hu
  simp at hu; subst hu
  simp only [Up.pl, Pl.pre, Pl.cell, nbT, Bool.true_and]
  cases hb : pre (par.p ++ [(i, j)]) par.p with
  | false => rfl
  | true => obtain ⟨r, hr⟩ := pre_iff.1 hb; have := congrArg List.length hr; simp at this
theorem getP_write {par : Pl} {i j i' j' : Nat} {x old : AV} (hx : nonAgg x = true) (hd : getP h (par.cell i j) = some old) (h2 : ∃ c, getP h (par.cell i' j') = some c) : ∃ c, getP (Up.app h (.set (par.cell i j) x)) (par.cell i' j') = some c := by
  obtain ⟨a, ha, hp⟩ := getP_some hd
  rw [app_set ha]
  by_cases e : (i', j') = (i, j)
  · simp only [Prod.mk.injEq] at e
    obtain ⟨rfl, rfl⟩ := e
    refine ⟨x, ?_⟩
    unfold getP
    rw [hget_hins, if_pos rfl]
    have := getT_setT_under hp (c := x) (.inr hx) []
    rw [List.append_nil] at this
    simpa [getT] using this
  · rw [getP_set ha hp hx]
    · exact h2
    · refine ⟨?_, ?_⟩
      · simp only [Pl.pre, Pl.cell, nbT, Bool.true_and]
        cases hb : pre (par.p ++ [(i, j)]) (par.p ++ [(i', j')]) with
        | false => rfl
        | true => obtain ⟨r, hr⟩ := pre_iff.1 hb; have h3 := congrArg List.length hr; simp at h3; subst h3; simp at hr; exact absurd (by rw [hr.1, hr.2]) e
      · simp only [Pl.pre, Pl.cell, nbT, Bool.true_and]
        cases hb : pre (par.p ++ [(i', j')]) (par.p ++ [(i, j)]) with
        | false => rfl
        | true => obtain ⟨r, hr⟩ := pre_iff.1 hb; have h3 := congrArg List.length hr; simp at h3; subst h3; simp at hr; exact absurd (by rw [hr.1, hr.2]) e
/-- What leaves of a row of writes. -/
def Wrote (B : Base) (K : Nat → Prop) (g : Gh) (h : Hp) (w : World) (par : Pl) (n : Nd) (us : List Up) (w' : World) : Prop :=
  ∃ g' R', RM B K g' R' (Up.apps us h) w' ∧ (mkF B g w).le (mkF B g' w') ∧ Keep2 us g g' ∧ g' par.r par.p = some n ∧ ∀ i j, (∃ c, getP h (par.cell i j) = some c) → ∃ c, getP (Up.apps us h) (par.cell i j) = some c
theorem Wrote.trans {par : Pl} {n : Nd} {us vs : List Up} {w1 w2 : World} (h1 : Wrote B K g h w par n us w1) (h2 : ∀ {g1 R1}, RM B K g1 R1 (Up.apps us h) w1 → (mkF B g w).le (mkF B g1 w1) → g1 par.r par.p = some n → (∀ i j, (∃ c, getP h (par.cell i j) = some c) → ∃ c, getP (Up.apps us h) (par.cell i j) = some c) → Wrote B K g1 (Up.apps us h) w1 par n vs w2) :
    Wrote B K g h w par n (us ++ vs) w2 := by
  obtain ⟨g1, R1, a1, a2, a3, a4, a5⟩ := h1
  obtain ⟨g2, R2, b1, b2, b3, b4, b5⟩ := h2 a1 a2 a4 a5
  exact ⟨g2, R2, by rw [Up.apps_append]; exact b1, le_trans' a2 b2, fun pl m hu hm => b3 pl m (fun u hu' => hu u (List.mem_append_right _ hu')) (a3 pl m (fun u hu' => hu u (List.mem_append_left _ hu')) hm), b4, fun i j hc => by rw [Up.apps_append]; exact b5 i j (a5 i j hc)⟩
theorem leaf1 {par : Pl} {i j : Nat} {n : Nd} {c : AV} {v : Value} (H : RM B K g R h w) (hn : g par.r par.p = some n) (hf : RF (mkF B g w) c v) (hd : ∃ old, getP h (par.cell i j) = some old) :
    Wrote B K g h w par n [.set (par.cell i j) c] (w.setCell ⟨n.b, n.o + i * n.sz + j, none⟩ v) := by
  obtain ⟨old, hd⟩ := hd
  obtain ⟨s1, s2, s3⟩ := RF_shape hf
  obtain ⟨w1, w2⟩ := write_step (c := c) H hd hn s1 s3 (leaf_LF hf) (fun q len e => absurd e (s2 q len))
  exact ⟨_, _, w1, w2, Keep2.cut, (Keep2.cut (c := c)) par n par_keep hn, fun i' j' hc => getP_write s3 hd hc⟩
/-- Leaves are written into the cells of one element. -/
theorem leaves_ok {par : Pl} {i : Nat} {n : Nd} : ∀ {cs : List AV} {vs : List Value} {k : Nat} {g : Gh} {R : Nat → Value} {h : Hp} {w : World}, RM B K g R h w → g par.r par.p = some n →
    vs.length = cs.length → (∀ (j : Nat) c, cs[j]? = some c → ∃ v, vs[j]? = some v ∧ RF (mkF B g w) c v) → (∀ j, j < cs.length → ∃ old, getP h (par.cell i (k + j)) = some old) →
    Wrote B K g h w par n (setUps par i k cs) (w.setCells n.b (n.o + i * n.sz + k) vs)
  | [], vs, k, g, R, h, w, H, hn, hl, _, _ => by
    have : vs = [] := List.eq_nil_of_length_eq_zero hl
    subst this
    exact ⟨g, R, H, le_refl, fun _ _ _ hm => hm, hn, fun _ _ hc => hc⟩
  | c :: cs, vs, k, g, R, h, w, H, hn, hl, hv, hd => by
    cases vs with
    | nil => simp at hl
    | cons v vs =>
    obtain ⟨v', e1, hf⟩ := hv 0 c rfl
    simp at e1; subst e1
    have hd0 := hd 0 (by simp)
    rw [Nat.add_zero] at hd0
    have h1 := leaf1 H hn hf hd0
    have : setUps par i k (c :: cs) = [.set (par.cell i k) c] ++ setUps par i (k + 1) cs := rfl
    rw [this]
    simp only [World.setCells]
    refine h1.trans fun {g1 R1} a1 a2 a4 a5 => ?_
    have := leaves_ok (cs := cs) (vs := vs) (k := k + 1) (i := i) a1 a4 (by simpa using hl) (fun j c' hj => by
      obtain ⟨v', e1, e2⟩ := hv (j + 1) c' (by simpa using hj)
      exact ⟨v', by simpa using e1, e2.mono a2⟩) (fun j hj => by
      have := a5 i (k + (j + 1)) (hd (j + 1) (by simp; omega))
      rwa [show k + (j + 1) = k + 1 + j by omega] at this)
    rw [show n.o + i * n.sz + k + 1 = n.o + i * n.sz + (k + 1) by omega]; exact this
theorem setCells_append {b : Nat} : ∀ {l1 l2 : List Value} {o : Nat} {w : World}, w.setCells b o (l1 ++ l2) = (w.setCells b o l1).setCells b (o + l1.length) l2
  | [], l2, o, w => by simp [World.setCells]
  | v :: l1, l2, o, w => by
    simp only [List.cons_append, World.setCells, List.length_cons]
    rw [setCells_append, show o + 1 + l1.length = o + (l1.length + 1) by omega]
/-- Elements of leaves are written over elements. -/
theorem rows_ok {par : Pl} {n : Nd} : ∀ {es : List AV} {vs : List Value} {i : Nat} {g : Gh} {R : Nat → Value} {h : Hp} {w : World}, RM B K g R h w → g par.r par.p = some n → (∀ e ∈ es, (cells e).length = n.sz) →
    vs.length = es.length * n.sz → (∀ (a : Nat) e (j : Nat) c, es[a]? = some e → (cells e)[j]? = some c → ∃ v, vs[a * n.sz + j]? = some v ∧ RF (mkF B g w) c v) → (∀ a j, a < es.length → j < n.sz → ∃ old, getP h (par.cell (i + a) j) = some old) →
    Wrote B K g h w par n (rowUps par i es) (w.setCells n.b (n.o + i * n.sz) vs)
  | [], vs, i, g, R, h, w, H, hn, _, hl, _, _ => by
    have : vs = [] := List.eq_nil_of_length_eq_zero (by simpa using hl)
    subst this
    exact ⟨g, R, H, le_refl, fun _ _ _ hm => hm, hn, fun _ _ hc => hc⟩
  | e :: es, vs, i, g, R, h, w, H, hn, hsz, hl, hv, hd => by
    have hl' : vs.length = n.sz + es.length * n.sz := by rw [hl, List.length_cons, Nat.add_mul]; omega
    have he := hsz e (by simp)
    have hsplit : vs = vs.take n.sz ++ vs.drop n.sz := (List.take_append_drop _ _).symm
    have htl : (vs.take n.sz).length = n.sz := by simp; omega
    rw [hsplit, setCells_append, htl]
    have h1 := leaves_ok (cs := cells e) (vs := vs.take n.sz) (k := 0) (i := i) H hn (by rw [htl, he]) (fun j c hj => by
      obtain ⟨v, e1, e2⟩ := hv 0 e j c rfl hj
      refine ⟨v, ?_, e2⟩
      have := (List.getElem?_eq_some_iff.1 hj).1
      rw [List.getElem?_take, if_pos (by omega)]
      simpa using e1) (fun j hj => by have := hd 0 j (by simp) (by omega); simpa using this)
    rw [Nat.add_zero] at h1
    show Wrote B K g h w par n (setUps par i 0 (cells e) ++ rowUps par (i + 1) es) _
    refine h1.trans fun {g1 R1} a1 a2 a4 a5 => ?_
    have := rows_ok (es := es) (vs := vs.drop n.sz) (i := i + 1) a1 a4 (fun e' he' => hsz e' (by simp [he'])) (by simp; omega) (fun a e' j c ha hj => by
      obtain ⟨v, e1, e2⟩ := hv (a + 1) e' j c (by simpa using ha) hj
      refine ⟨v, ?_, e2.mono a2⟩
      rw [List.getElem?_drop, ← e1, Nat.add_mul]; congr 1; omega) (fun a j ha hj => a5 _ _ (by
      have := hd (a + 1) j (by simp; omega) hj
      rwa [show i + (a + 1) = i + 1 + a by omega] at this))
    rw [show n.o + i * n.sz + n.sz = n.o + (i + 1) * n.sz by rw [Nat.add_mul]; omega]; exact this
theorem setUps_set {pl : Pl} {i : Nat} : ∀ {cs : List AV} {k : Nat}, ∀ u ∈ setUps pl i k cs, ∃ q, (∃ x, u = .set q x) ∨ u = gone q
  | [], _, u, hu => by cases hu
  | c :: cs, k, u, hu => by
    simp only [setUps, List.mem_cons] at hu
    rcases hu with rfl | hu
    · exact ⟨_, .inl ⟨_, rfl⟩⟩
    · exact setUps_set u hu
theorem rowUps_set {pl : Pl} : ∀ {es : List AV} {i : Nat}, ∀ u ∈ rowUps pl i es, ∃ q, (∃ x, u = .set q x) ∨ u = gone q
  | [], _, u, hu => by cases hu
  | e :: es, i, u, hu => by
    simp only [rowUps, List.mem_append] at hu
    rcases hu with hu | hu
    · exact setUps_set u hu
    · exact rowUps_set u hu
theorem oCopy_ok (hT : TOk P cx) (H : RM B (Kd s.d) g R s.h w) {ty rty : Nat} {tys : List Nat} {a x : AV} {va vx : Value} {ef : Eff} (ha : XD (mkF B g w) g s.d a va) (hx : XD (mkF B g w) g s.d x vx)
    (he : oCopy cx s (ty :: tys) [a, x] = some ef) : Does P B g s w ef (Builtin.copy_ (ty :: tys).toArray rty #[va, vx]) := by
  unfold oCopy at he
  split at he
  · rename_i sz pl off len x' ty' tys' h1 h2
    cases h1; cases h2
    split at he
    · rename_i el hk
      cases hei : cx.T el with
      | none => simp [hei] at he
      | some ei =>
        simp only [hei] at he
        split at he
        · rename_i new rs sz' es hel hl
          simp only [oops] at he
          cases hc : (Nat.beq sz ei.size && Nat.beq sz' ei.size && Nat.ble (off + len) es.length) with
          | false => rw [hc] at he; cases he
          | true =>
            rw [hc, cond_true, Option.some.injEq] at he; subst he
            simp only [Bool.and_eq_true] at hc
            obtain ⟨⟨c1, c2⟩, c3⟩ := hc
            have e1' : sz = ei.size := by simpa using c1
            have e2' : sz' = ei.size := by simpa using c2
            subst e1'; subst e2'
            have hle : off + len ≤ es.length := Nat.le_of_ble_eq_true c3
            obtain ⟨info, z, i1, i2, i3, i4, i5⟩ := mkTy_zero (hT el ei hei)
            obtain ⟨news, hS⟩ := elems_ok (P := P) H hx hel
            have hu := kind_slice hT hk
            obtain ⟨cap, k, n, f1, f2, f3, f4, f5, f6, rfl⟩ := X_rf ha (okD_of_look hl)
            obtain ⟨u0, n', g1, g2, g3, g4, g5, g6⟩ := node_at H (look_some hl).2
            rw [f1] at g1; cases g1
            rcases hS.src with ⟨_, hpl⟩ | ⟨_, _, _, _, hcon, _⟩
            · have hsz : info.size = n.sz := by rw [i4, f3]
              have hml : min new.length len ≤ new.length := Nat.min_le_left _ _
              have hml2 : min new.length len ≤ len := Nat.min_le_right _ _
              have hvl : (news.take (min new.length len * ei.size)).length = min new.length len * ei.size := by
                rw [List.length_take, hS.nl]
                have := Nat.mul_le_mul_right ei.size hml
                omega
              have hfit : k * n.sz + min new.length len * ei.size ≤ n.sz * n.cap := by
                rw [← f3, ← Nat.add_mul, Nat.mul_comm]; exact Nat.mul_le_mul_left _ (by omega)
              obtain ⟨cs, cel, fr, b1, b2, b3⟩ := H.blk _ _ n f1 f2
              have hst := run_storeCells_cells (P := P) n.b (n.o + k * n.sz) (news.take (min new.length len * ei.size)) 0 w (fun j hj => by
                unfold World.cell?
                simp only [b1]
                have : n.o + k * n.sz + 0 + j < cs.size := by omega
                rw [Array.getElem?_eq_getElem this]; rfl) (fun j hj => b3 _ ⟨rfl, .inr ⟨by omega, by omega⟩⟩) (fun u hu => hS.one u (List.mem_of_mem_take hu))
              have hW : Wrote B (Kd s.d) g s.h w pl n (rowUps pl off (new.take (min new.length len))) (w.setCells n.b (n.o + k * n.sz) (news.take (min new.length len * ei.size))) := by
                by_cases h0 : min new.length len = 0
                · rw [h0]
                  simp only [List.take_zero, Nat.zero_mul]
                  exact ⟨g, R, H, le_refl, fun _ _ _ hm => hm, f1, fun _ _ hc => hc⟩
                · have hk : k = off := by rcases f6 with h | h; (omega); exact h
                  rw [hk]
                  refine rows_ok H f1 (fun e he => by rw [hS.csz e (List.mem_of_mem_take he), f3]) (by rw [hvl, List.length_take, f3]; congr 1; omega) (fun a e j c ha hj => ?_) (fun a j ha hj => ?_)
                  · rw [List.getElem?_take] at ha
                    split at ha
                    · rename_i hlt
                      obtain ⟨_, _, u, p3, p4⟩ := hpl a e j c ha hj
                      refine ⟨u, ?_, p4⟩
                      have hj' := (List.getElem?_eq_some_iff.1 hj).1
                      rw [hS.csz e (List.mem_of_getElem? ha)] at hj'
                      have := row_lt hlt hj'
                      rw [List.getElem?_take, f3, if_pos this]; exact p3
                    · cases ha
                  · have ha' : a < min new.length len := by rw [List.length_take] at ha; omega
                    have hlt : off + a < es.length := by omega
                    have hcl := g6 _ (List.getElem_mem hlt)
                    have hjl : j < (cells es[off + a]).length := by rw [hcl, ← f3]; exact hj
                    refine ⟨(cells es[off + a])[j], getP_step (look_some hl).2 ?_⟩
                    simp only [step1, List.getElem?_eq_getElem hlt, Option.bind_some]
                    exact List.getElem?_eq_getElem hjl
              obtain ⟨g', R', a1, a2, a3, a4, _⟩ := hW
              refine ⟨goInt ((min new.length len : Nat) : Int), _, g', R', ?_, a1.weakK fun q hq => Kd_app q hq, a2, fun q m ho hm => a3 q m (keep_sets rowUps_set (by rw [← dn_sets rowUps_set]; exact ho)) hm, rfX (.int _ _)⟩
              have hmin : Nat.min new.length len = min new.length len := rfl
              have hrest : (storeCells ⟨n.b, n.o + k * n.sz, none⟩ (news.take (min new.length len * ei.size))).run P w = .ok () (w.setCells n.b (n.o + k * n.sz) (news.take (min new.length len * ei.size))) := hst
              show (Builtin.copy_ (ty :: tys).toArray rty #[_, _]).run P w = _
              simp [Builtin.copy_, run_underlying' w hu, hS.len w, run_size w (hT el ei hei), hmin, hS.fstm _ hml, hrest]
            · unfold gone at hcon; split at hcon <;> cases hcon
        · cases he
    · cases he
  · cases he
end Go.Am
end
section
namespace Go.Am
open Go.RowKit Go.Lib
variable {P : Program} {cx : Cx} {B : Base} {K : Nat → Prop} {g g' g1 g2 : Gh} {R R1 R2 : Nat → Value} {s : St} {h h' h1 h2 : Hp} {w w' : World} {ρ : Operand → Value}
theorem cv_X {F : Fz} {d : List Up} {v : Value} : XD F g d (cv v) v := by
  by_cases ho : v.cells.toList.all one = true
  · have := cvX (F := F) (g := g) (d := d) ho
    refine .inr ?_
    have : fade d (cv v) = fade1 d (cv v) := by
      refine fade_eq1 ?_
      unfold cv
      split
      · split <;> rfl
      · unfold cv1; split <;> rfl
    rw [this]; exact .c (by assumption)
  · refine .inl ?_
    cases v <;> first | (simp [cv, Value.cells, one] at ho ⊢; done) | (simp only [Value.cells] at ho; simp only [cv]; rw [if_neg ho]) | rfl
theorem ev_X {F : Fz} (ht : ∀ i, XD F g s.d (tget s.t i) (ρ (.tmp i))) (hc : ∀ v, ρ (.const v) = v) (x : Operand) : XD F g s.d (ev s x) (ρ x) := by
  cases x with
  | tmp i => exact ht i
  | const v => rw [hc]; exact cv_X
  | _ => exact .inl rfl
/-- An operation goes on. -/
def Goes (P : Program) (B : Base) (g : Gh) (s : St) (w : World) (e : Eff) (x : Sem Next) : Prop :=
  ∃ nx v w' g' R', x.run P w = .ok nx w' ∧ (nx = .value v ∨ (nx = .skip ∧ v = undef)) ∧ Lands B g s w e v w' g' R'
theorem Goes.v {e : Eff} {x : Sem Value} (h : Does P B g s w e x) : Goes P B g s w e (do pure (.value (← x))) := by
  obtain ⟨v, w', g', R', h1, h2⟩ := h
  exact ⟨.value v, v, w', g', R', by simp only [Sem.run_bind, h1, Result.andThen_ok, Sem.run_pure], .inl rfl, h2⟩
theorem Goes.u {e : Eff} {x : Sem Unit} (h : ∃ w' g' R', x.run P w = .ok () w' ∧ Lands B g s w e undef w' g' R') : Goes P B g s w e (do x; pure .skip) := by
  obtain ⟨w', g', R', h1, h2⟩ := h
  exact ⟨.skip, undef, w', g', R', by simp only [Sem.run_bind, h1, Result.andThen_ok, Sem.run_pure], .inr ⟨rfl, rfl⟩, h2⟩
theorem XP_map {F : Fz} {d : List Up} (hx : ∀ x, XD F g d (ev s x) (ρ x)) : ∀ (ps : List (Nat × Operand)), XP F g d (ps.map fun p => (p.1, ev s p.2)) (ps.map fun p => (p.1, ρ p.2))
  | [] => .nil
  | p :: ps => .cons (hx p.2) (XP_map hx ps)
theorem toArray_eq {α : Type} {a : Array α} {l : List α} (h : a.toList = l) : a = l.toArray := by rw [← h]
theorem min2 {F : Fz} {d : List Up} {k k' : IntKind} {x y : Int} {u v : Value} (h1 : XD F g d (.int k x) u) (h2 : XD F g d (.int k' y) v) : RXL F g ([.int k x, .int k' y].map (fade1 d)) [u, v] := by
  rw [X_int h1, X_int h2]
  exact .cons (.c (.f (.int _ _))) (.cons (.c (.f (.int _ _))) .nil)
theorem args1 {args : Array Operand} {x : AV} (h : args.toList.map (ev s) = [x]) : ∃ a, args = #[a] ∧ x = ev s a := by
  obtain ⟨l⟩ := args
  match l, h with
  | [a], h => simp at h; exact ⟨a, rfl, h.symm⟩
theorem args2 {args : Array Operand} {x y : AV} (h : args.toList.map (ev s) = [x, y]) : ∃ a b, args = #[a, b] ∧ x = ev s a ∧ y = ev s b := by
  obtain ⟨l⟩ := args
  match l, h with
  | [a, b], h => simp at h; exact ⟨a, b, rfl, h.1.symm, h.2.symm⟩
theorem map1 {a : Operand} : (#[a]).map ρ = #[ρ a] := by simp
theorem map2 {a b : Operand} : (#[a, b]).map ρ = #[ρ a, ρ b] := by simp
theorem oBuiltin_ok (hT : TOk P cx) (H : RM B (Kd s.d) g R s.h w) (hx : ∀ x, XD (mkF B g w) g s.d (ev s x) (ρ x)) {d : Option Nat} {b : Builtin} {tys : Array TypeId} {args : Array Operand} {rty : TypeId} {consts : Array Bool} {e : Eff}
    (he : oBuiltin cx s d b tys.toList (args.toList.map (ev s)) = some e) : Goes P B g s w e (builtin b tys rty consts (args.map ρ)) := by
  unfold oBuiltin at he
  split at he
  · split at he
    · rename_i x ty h1 h2
      obtain ⟨a, rfl, rfl⟩ := args1 h1
      have := toArray_eq h2
      subst this
      rw [map1]
      exact Goes.v (oLen_ok hT H (hx _) he)
    · cases he
  · have he' := he
    unfold oAppend at he'
    split at he'
    · rename_i d' a x ty xt h1 h2
      obtain ⟨a, b, rfl, rfl, rfl⟩ := args2 h1
      have := toArray_eq h2
      subst this
      rw [map2]
      exact Goes.v (oAppend_ok hT H (hx _) (hx _) he)
    · cases he'
  · have he' := he
    unfold oCopy at he'
    split at he'
    · rename_i sz pl off len x ty tl h1 h2
      obtain ⟨a, b, rfl, e1, rfl⟩ := args2 h1
      have := toArray_eq h2
      subst this
      rw [map2]
      exact Goes.v (oCopy_ok hT H (hx _) (hx _) he)
    · cases he'
  · have he' := he
    unfold oMin at he'
    split at he'
    · rename_i k x k' y h1
      obtain ⟨a, b, rfl, e1, e2⟩ := args2 h1
      have h2 : RXL (mkF B g w) g ([ev s a, ev s b].map (fade1 s.d)) [ρ a, ρ b] := by
        rw [← e1, ← e2]; exact min2 (by rw [e1]; exact hx a) (by rw [e2]; exact hx b)
      rw [map2]
      exact Goes.v (oMin_ok (vs := [ρ a, ρ b]) H h2 he)
    · cases he'
  · have he' := he
    unfold oMax at he'
    split at he'
    · rename_i k x k' y h1
      obtain ⟨a, b, rfl, e1, e2⟩ := args2 h1
      have h2 : RXL (mkF B g w) g ([ev s a, ev s b].map (fade1 s.d)) [ρ a, ρ b] := by
        rw [← e1, ← e2]; exact min2 (by rw [e1]; exact hx a) (by rw [e2]; exact hx b)
      rw [map2]
      exact Goes.v (oMax_ok (vs := [ρ a, ρ b]) H h2 he)
    · cases he'
  · cases he
theorem opX_ok (hT : TOk P cx) (H : RM B (Kd s.d) g R s.h w) (hx : ∀ x, XD (mkF B g w) g s.d (ev s x) (ρ x)) {call : CallF} {keep : Nat} {o : Oper} {e : Eff} (hnc : ∀ c f, o.op = .call c → c.callee ≠ .value (.func f))
    (he : opX cx call keep s o = some e) : Goes P B g s w e (execOp ρ o) := by
  unfold opX at he
  unfold execOp
  split at he <;> rename_i hop <;> simp only [hop]
  · cases he; exact ⟨.value (ρ _), _, w, g, R, rfl, .inl rfl, .still H (hx _)⟩
  · cases he; exact ⟨.value (ρ _), _, w, g, R, rfl, .inl rfl, .still H (hx _)⟩
  · obtain ⟨v, w', g', R', h1, h2⟩ := oPick_ok (P := P) H (hx _) (hx _) (hx _) he
    refine ⟨.value v, v, w', g', R', ?_, .inl rfl, h2⟩
    simp only [Sem.run_bind, Sem.run_pure] at h1 ⊢
    revert h1
    cases (asBool (ρ _)).run P w with
    | ok b w1 => intro h1; simp only [Result.andThen_ok] at h1 ⊢; cases h1; rfl
    | halt x w1 => intro h1; cases h1
  · cases hd : o.dst with
    | none => rw [hd] at he; cases he
    | some d => rw [hd] at he; exact Goes.v (oAlloc_ok hT H he)
  · cases hd : o.dst with
    | none => rw [hd] at he; cases he
    | some d => rw [hd] at he; exact Goes.v (oBox_ok H (hx _) he)
  · rename_i ty ps
    have := Goes.v (oBuild_ok (P := P) hT H (XP_map hx ps.toList) he)
    rw [show (ps.toList.map fun p => (p.1, ρ p.2)).toArray = ps.map fun p => (p.1, ρ p.2) from by apply Array.ext'; simp] at this
    exact this
  · rename_i ty len ps
    cases hd : o.dst with
    | none => rw [hd] at he; cases he
    | some d =>
      rw [hd] at he
      have := Goes.v (oBuildSlice_ok (P := P) hT H (XP_map hx ps.toList) he)
      rw [show (ps.toList.map fun p => (p.1, ρ p.2)).toArray = ps.map fun p => (p.1, ρ p.2) from by apply Array.ext'; simp] at this
      exact this
  · exact Goes.v (oLoad_ok hT H (hx _) he)
  · exact Goes.u (oStore_ok hT H (hx _) (hx _) he)
  · rename_i x
    obtain ⟨⟨p, hp⟩, v, w', g', R', h1, h2⟩ := oNil_ok (P := P) H (hx _) he
    rw [hp] at h1 ⊢
    cases h1
    exact ⟨.value _, _, _, g', R', rfl, .inl rfl, h2⟩
  · exact Goes.v (oBin_ok hT H (hx _) (hx _) he)
  · exact Goes.v (oUn_ok H (hx _) he)
  · cases hd : o.dst with
    | none => rw [hd] at he; cases he
    | some d => rw [hd] at he; exact Goes.v (oMakeSlice_ok hT H (hx _) (hx _) he)
  · rename_i ty x lo hi
    refine Goes.v (oSlice_ok hT H (hx _) ?_ ?_ he)
    · cases lo with
      | none => trivial
      | some x => exact hx x
    · cases hi with
      | none => trivial
      | some x => exact hx x
  · exact Goes.v (oFieldAddr_ok hT H (hx _) he)
  · exact Goes.v (oField_ok hT H (hx _) he)
  · exact Goes.v (oIndexAddr_ok hT H (hx _) (hx _) he)
  · exact Goes.v (oIndex_ok hT H (hx _) (hx _) he)
  · exact Goes.v (oExtract_ok H (hx _) he)
  · cases hd : o.dst with
    | none => rw [hd] at he; cases he
    | some d => rw [hd] at he; exact Goes.v (oMakeMap_ok H he)
  · rename_i ty r
    split at he
    · rename_i kt el k n hk hr
      cases hd : o.dst with
      | none => rw [hd] at he; cases he
      | some d =>
        rw [hd] at he
        obtain ⟨v, w', g', R', h1, h2⟩ := oMakeMap_ok (P := P) (ty := ty) H he
        refine Goes.v ⟨v, w', g', R', ?_, h2⟩
        have hv := hx r
        rw [hr] at hv
        have hv := X_int hv
        rw [← h1]
        simp only [Option.map_some, hv]
        simp [Instr.makeMap, run_underlying' w (kind_map hT hk), asInt, asIntOf]
    · cases he
  · exact Goes.u (oMapUpdate_ok hT H (hx _) (hx _) (hx _) he)
  · exact Goes.u (oMapUpdate_ok hT H (hx _) (hx _) (hx _) he)
  · exact Goes.v (oLookup_ok hT H (hx _) (hx _) he)
  · rename_i c
    unfold oCall at he
    split at he
    · rename_i b hb
      have := oBuiltin_ok (ρ := ρ) (P := P) (rty := o.type) (consts := c.args.map fun | .const _ => true | _ => false) hT H hx he
      unfold Go.resolve
      rw [hb]
      exact this
    · rename_i f hf
      exact absurd hf (hnc c f hop)
    · cases he
  · cases he
end Go.Am
end
section
namespace Go.Am
open Go.RowKit Go.Lib
variable {P : Program} {cx : Cx} {B B1 : Base} {K : Nat → Prop} {g g' g1 g2 : Gh} {R R1 R2 : Nat → Value} {s : St} {h h' h1 h2 hF : Hp} {w w' : World}
theorem Chg.cell {own : Nat → Nat → Prop} (hc : Chg own w w') {b o : Nat} {v : Value} (hv : w.cell? ⟨b, o, none⟩ = some v) (ho : ¬ own b o) : w'.cell? ⟨b, o, none⟩ = some v := by
  unfold World.cell? at hv ⊢
  cases hb : w.heap[b]? with
  | none => simp [hb] at hv
  | some x =>
    cases x with
    | cells cs el fr =>
      obtain ⟨cs', h1, h2, h3⟩ := hc.cells b cs el fr hb
      simp only [hb] at hv
      simp only [h1]
      rw [← h3 o ho] at hv; exact hv
    | _ => simp [hb] at hv
/-- What is the final ghost: from the callee's places, or the caller's own. -/
noncomputable def mergeG (g g1 : Gh) (D : Nat → Prop) (σ : Nat → Option (Nat × List (Nat × Nat))) : Gh := fun r q =>
  open Classical in match σ r with
  | some (k, pp) => g1 k (pp ++ q)
  | none => if D r then none else g r q
theorem mergeG_cases {D : Nat → Prop} {σ : Nat → Option (Nat × List (Nat × Nat))} {r : Nat} {q : List (Nat × Nat)} {n : Nd} (hm : mergeG g g1 D σ r q = some n) :
    (∃ k pp, σ r = some (k, pp) ∧ g1 k (pp ++ q) = some n) ∨ (σ r = none ∧ ¬ D r ∧ g r q = some n) := by
  unfold mergeG at hm
  cases hs : σ r with
  | some x => obtain ⟨k, pp⟩ := x; rw [hs] at hm; exact .inl ⟨k, pp, rfl, hm⟩
  | none =>
    rw [hs] at hm
    simp only at hm
    split at hm
    · cases hm
    · rename_i hd; exact .inr ⟨rfl, hd, hm⟩
theorem frozen_chg {own : Nat → Nat → Prop} (hc : Chg own w w') {b : Nat} {cs : Array Value} {el : TypeId} {fr : Nat × Nat} (hb : w.heap[b]? = some (.cells cs el fr)) (o : Nat) : w'.frozen? ⟨b, o, none⟩ = w.frozen? ⟨b, o, none⟩ := by
  obtain ⟨cs', h1, _⟩ := hc.cells b cs el fr hb
  unfold World.frozen?
  simp only [h1, hb]
theorem Chg.trans {own own1 : Nat → Nat → Prop} {w0 : World} (h1 : Chg own w0 w) (h2 : Chg own1 w w') (ho : ∀ b o, own1 b o → own b o ∨ w0.heap.size ≤ b) : Chg own w0 w' := by
  refine ⟨h2.os.trans h1.os, h2.tape.trans h1.tape, h2.output.trans h1.output, Nat.le_trans h1.size h2.size, fun b cs el fr hb => ?_, fun b hb hn => ?_⟩
  · obtain ⟨cs1, a1, a2, a3⟩ := h1.cells b cs el fr hb
    obtain ⟨cs2, b1, b2, b3⟩ := h2.cells b cs1 el fr a1
    refine ⟨cs2, b1, b2.trans a2, fun o hno => ?_⟩
    rw [b3 o, a3 o hno]
    intro hx
    have hlt := (Array.getElem?_eq_some_iff.1 hb).1
    rcases ho b o hx with h | h
    · exact hno h
    · omega
  · rw [h2.objs b (Nat.lt_of_lt_of_le hb h1.size) (fun o hx => by rcases ho b o hx with h | h; exact hn o h; omega), h1.objs b hb hn]
theorem RM.merge (H : RM B K g R h w) (H1 : RM B1 (fun _ => False) g1 R1 h1 w') (e0 : B1.w0 = w) {D : Nat → Prop} {σ : Nat → Option (Nat × List (Nat × Nat))} {V : Nat → Value}
    (hB1 : ∀ b o, B1.own b o → owned g b o)
    (hN0 : ∀ b o, (∃ r p n, ¬ D r ∧ g r p = some n ∧ n.has b o) ∨ B.A0 b o → owned g1 b o ∨ B1.A0 b o)
    (hN : ∀ b o, (∃ r p n, ¬ D r ∧ g r p = some n ∧ n.has b o) ∨ B.A b o → owned g1 b o ∨ B1.A b o)
    (hun : ∀ r a p i j c n, ¬ D r → hget h r = some a → getT a (p ++ [(i, j)]) = some c → g r p = some n → B1.own n.b (n.o + i * n.sz + j) → c = .un ∧ ∀ u, w'.cell? ⟨n.b, n.o + i * n.sz + j, none⟩ = some u → one u = true)
    (hmap : ∀ r p n, ¬ D r → g r p = some n → n.whole = true → ∀ o, ¬ B1.own n.b o)
    (hdisj : ∀ r p n r1 k pp q n1, ¬ D r → g r p = some n → σ r1 = some (k, pp) → g1 k (pp ++ q) = some n1 → ∀ b o, n.has b o → ¬ n1.has b o)
    (hinj : ∀ r r' k pp pp' q q', σ r = some (k, pp) → σ r' = some (k, pp') → pp ++ q = pp' ++ q' → r = r' ∧ q = q')
    (hσ : ∀ r k pp, σ r = some (k, pp) → ¬ K r ∧ ∃ a c, hget h1 k = some a ∧ getT a pp = some c ∧ hget hF r = some c ∧ TOK (mkF B1 g1 w') (obj w') g1 (fun q => g1 k (pp ++ q)) c (V r))
    (hV : ∀ r, σ r = none → V r = R r) (hD : ∀ r, σ r = none → D r → hget hF r = none) (hR : ∀ r, σ r = none → ¬ D r → hget hF r = hget h r) :
    RM B K (mergeG g g1 D σ) V hF w' ∧ (mkF B g w).le (mkF B (mergeG g g1 D σ) w') ∧ (mkF B1 g1 w').le (mkF B (mergeG g g1 D σ) w') := by
  have hc1 : Chg B1.own w w' := e0 ▸ H1.chg
  have hinn1 : ∀ b o, owned g1 b o → B1.own b o ∨ w.heap.size ≤ b := fun b o hb => e0 ▸ H1.inn b o hb
  have hown : ∀ b o, owned (mergeG g g1 D σ) b o → owned g1 b o ∨ (∃ r p n, ¬ D r ∧ g r p = some n ∧ n.has b o) := by
    rintro b o ⟨r, q, n, hm, hb⟩
    rcases mergeG_cases hm with ⟨k, pp, _, h3⟩ | ⟨_, h2, h3⟩
    · exact .inl ⟨_, _, n, h3, hb⟩
    · exact .inr ⟨r, q, n, h2, h3, hb⟩
  have hlt : ∀ (b o : Nat) v, w.cell? ⟨b, o, none⟩ = some v → b < w.heap.size := by
    intro b o v hv
    unfold World.cell? at hv
    cases hx : w.heap[b]? with
    | none => simp [hx] at hv
    | some x => exact (Array.getElem?_eq_some_iff.1 hx).1
  have hle : (mkF B g w).le (mkF B (mergeG g g1 D σ) w') := by
    refine le_of (fun b o v hv hno => hc1.cell hv fun hx => hno (hB1 b o hx)) fun b o v hv hx => ?_
    rcases hown b o hx with h2 | ⟨r, p, n, _, h3, h4⟩
    · rcases hinn1 b o h2 with h3 | h3
      · exact hB1 b o h3
      · have := hlt b o v hv; omega
    · exact ⟨r, p, n, h3, h4⟩
  have hle1 : (mkF B1 g1 w').le (mkF B (mergeG g g1 D σ) w') := by
    refine ⟨fun b o v hv _ => hv, fun b o v _ hno hx => ?_, fun b o v _ hno hx => ?_, fun b o hx => hx.elim .inl fun h => .inr (B1.hA b o h)⟩
    · rcases hx with hx | hx
      · rcases hown b o hx with h2 | h2
        · exact hno (.inl h2)
        · exact hno (hN b o (.inl h2))
      · exact hno (hN b o (.inr hx))
    · rcases hx with hx | hx
      · rcases hown b o hx with h2 | h2
        · exact hno (.inl h2)
        · exact hno (hN0 b o (.inl h2))
      · exact hno (hN0 b o (.inr hx))
  refine ⟨⟨H.chg.trans hc1 fun b o hx => H.inn b o (hB1 b o hx), fun r a ha => ?_, fun r hr q => ?_, fun r p n r' p' n' h2 h3 hne => ?_, fun r p n hm hw => ?_, fun r a p q len ha hq => ?_, fun b o hx => ?_⟩, hle, hle1⟩
  · -- the trees
    cases hs : σ r with
    | some x =>
      obtain ⟨k, pp⟩ := x
      obtain ⟨_, a1, c, b1, b2, b3, b4⟩ := hσ r k pp hs
      rw [b3] at ha; cases ha
      have e1 : mergeG g g1 D σ r = fun q => g1 k (pp ++ q) := by funext q; simp [mergeG, hs]
      rw [e1]
      refine b4.mono hle1 (fun p n o u _ _ hx => hx) (fun _ _ _ _ => rfl) fun q m p len hq _ => ?_
      exact (H1.lks k a1 (pp ++ p) q len b1 (by rw [getT_append, b2]; exact hq)).elim
    | none =>
      by_cases hd : D r
      · rw [hD r hs hd] at ha; cases ha
      · rw [hR r hs hd] at ha
        have e1 : mergeG g g1 D σ r = g r := by funext q; simp [mergeG, hs, hd]
        rw [e1, hV r hs]
        have ht := H.tree r a ha
        have hob : ∀ q n, g r q = some n → n.whole = true → obj w' n.b = obj w n.b := by
          intro q n hn hw
          obtain ⟨c, hc, hcn⟩ := ht.dom q n hn
          have hbl : n.b < w.heap.size := H.owned_lt n.b n.o ⟨r, q, n, hn, rfl, .inl hw⟩
          exact hc1.objs n.b hbl (hmap r q n hd hn hw)
        have hG : ∀ q n p len, getT a p = some (.lk q len) → mergeG g g1 D σ q [] = some n → g q [] = some n := by
          intro q n p len hq hm
          rcases mergeG_cases hm with ⟨k, pp, h2, _⟩ | ⟨_, _, h3⟩
          · exact absurd (H.lks r a p q len ha hq) (hσ q k pp h2).1
          · exact h3
        refine ⟨ht.root.mono hle (fun n hn hw => hob [] n hn hw) fun q n ⟨len, e⟩ hm => hG q n [] len (by simp [getT, e]) hm, fun p i j c hc => ?_, ht.dom⟩
        obtain ⟨n, u, h2, h3, h4, h5, h6, h7⟩ := ht.inside hc
        by_cases hx : B1.own n.b (n.o + i * n.sz + j)
        · obtain ⟨rfl, h8⟩ := hun r a p i j c n hd ha hc h2 hx
          have hcell : ∃ u', w'.cell? ⟨n.b, n.o + i * n.sz + j, none⟩ = some u' := by
            have h6' : w.cell? ⟨n.b, n.o + i * n.sz + j, none⟩ = some u := h6
            unfold World.cell? at h6' ⊢
            cases hb : w.heap[n.b]? with
            | none => simp [hb] at h6'
            | some x =>
              cases x with
              | cells cs el fr =>
                obtain ⟨cs', c1, c2, c3⟩ := hc1.cells n.b cs el fr hb
                simp only [hb] at h6'
                simp only [c1]
                have hlt := (Array.getElem?_eq_some_iff.1 (by simpa using h6')).1
                exact ⟨_, Array.getElem?_eq_getElem (by omega)⟩
              | _ => simp [hb] at h6'
          obtain ⟨u', hu'⟩ := hcell
          refine ⟨n, u', h2, hu', ?_⟩
          have : g r (p ++ [(i, j)]) = none := h7.1
          rw [this]
          exact ⟨rfl, .un u' (h8 u' hu')⟩
        · exact ⟨n, u, h2, hc1.cell h6 hx, h7.mono hle (fun m hm hw => hob _ m hm hw) fun q m ⟨len, e⟩ hm => hG q m _ len (by rw [hc, e]) hm⟩
  · cases hs : σ r with
    | some x =>
      obtain ⟨k, pp⟩ := x
      obtain ⟨_, a1, c, _, _, b3, _⟩ := hσ r k pp hs
      rw [b3] at hr; cases hr
    | none =>
      by_cases hd : D r
      · simp [mergeG, hs, hd]
      · rw [hR r hs hd] at hr
        simp only [mergeG, hs, if_neg hd]
        exact H.void r hr q
  · rcases mergeG_cases h2 with ⟨k, pp, s1, s2⟩ | ⟨s1, s2, s3⟩ <;> rcases mergeG_cases h3 with ⟨k', pp', t1, t2⟩ | ⟨t1, t2, t3⟩
    · refine H1.disj _ _ _ _ _ _ s2 t2 ?_
      intro e
      simp only [Prod.mk.injEq] at e
      obtain ⟨rfl, e2⟩ := e
      obtain ⟨rfl, rfl⟩ := hinj r r' k pp pp' p p' s1 t1 e2
      exact hne rfl
    · intro b o hb hb'
      exact hdisj r' p' n' r k pp p n t2 t3 s1 s2 b o hb' hb
    · intro b o hb hb'
      exact hdisj r p n r' k' pp' p' n' s2 s3 t1 t2 b o hb hb'
    · exact H.disj _ _ _ _ _ _ s3 t3 hne
  · rcases mergeG_cases hm with ⟨k, pp, s1, s2⟩ | ⟨s1, s2, s3⟩
    · exact H1.blk _ _ n s2 hw
    · obtain ⟨cs, el, fr, b1, b2, b3⟩ := H.blk r p n s3 hw
      obtain ⟨cs', c1, c2, _⟩ := hc1.cells n.b cs el fr b1
      exact ⟨cs', el, fr, c1, by omega, fun o ho => by rw [frozen_chg hc1 b1]; exact b3 o ho⟩
  · cases hs : σ r with
    | some x =>
      obtain ⟨k, pp⟩ := x
      obtain ⟨_, a1, c, b1, b2, b3, _⟩ := hσ r k pp hs
      rw [b3] at ha; cases ha
      exact (H1.lks k a1 (pp ++ p) q len b1 (by rw [getT_append, b2]; exact hq)).elim
    | none =>
      by_cases hd : D r
      · rw [hD r hs hd] at ha; cases ha
      · rw [hR r hs hd] at ha; exact H.lks r a p q len ha hq
  · rcases hown b o hx with h2 | ⟨r, p, n, _, h3, h4⟩
    · rcases hinn1 b o h2 with h3 | h3
      · exact H.inn b o (hB1 b o h3)
      · exact .inr (Nat.le_trans H.chg.size h3)
    · exact H.inn b o ⟨r, p, n, h3, h4⟩
end Go.Am
end
section
namespace Go.Am
open Go.RowKit Go.Lib
variable {P : Program} {cx : Cx} {B B1 : Base} {K : Nat → Prop} {g g' g1 g2 : Gh} {R R1 R2 : Nat → Value} {s : St} {h h' h1 h2 hF : Hp} {w w' : World}
theorem frzL_get {lab : Nat} : ∀ {l : List AV} {i : Nat}, (frzL lab l)[i]? = (l[i]?).map (frz lab)
  | [], i => by simp [frzL]
  | a :: l, i => by
    cases i with
    | zero => simp [frzL]
    | succ i => simp only [frzL, List.getElem?_cons_succ]; exact frzL_get
theorem frzL_len {lab : Nat} : ∀ {l : List AV}, (frzL lab l).length = l.length
  | [] => by simp [frzL]
  | a :: l => by simp only [frzL, List.length_cons, frzL_len]
theorem cells_frz {lab : Nat} (e : AV) : cells (frz lab e) = frzL lab (cells e) := by
  cases e <;> simp [frz, cells, frzL]
theorem cells_size {e x : AV} {j : Nat} (h : (cells e)[j]? = some x) : SizeOf.sizeOf x ≤ SizeOf.sizeOf e := by
  cases e with
  | agg cs =>
    simp only [cells] at h
    have := List.sizeOf_lt_of_mem (List.mem_of_getElem? h)
    simp; omega
  | _ =>
    simp only [cells] at h
    cases j with
    | zero => simp at h; subst h; exact Nat.le_refl _
    | succ j => simp at h
theorem frz_RF {lab : Nat} (hlab : lab ≠ 1) {F F1 : Fz} {ob : Nat → Option Obj} {G : Gh} {γ : List (Nat × Nat) → Option Nd} {a : AV} {v : Value} (ht : TOK F ob G γ a v) (hnode : ∀ p n, γ p = some n → ∀ o, n.has n.b o → F1.no lab n.b o)
    (hm : ∀ p n o u, γ p = some n → n.has n.b o → F.m n.b o = some u → F1.m n.b o = some u) (hleaf : ∀ c u, RF F c u → RF F1 c u) : ∀ (N : Nat) (c : AV) p u, SizeOf.sizeOf c < N → getT a p = some c → LF F ob G c (γ p) u → RF F1 (frz lab c) u := by
  intro N
  induction N with
  | zero => intro c p u h; omega
  | succ N ih =>
    intro c p u hN hc hl
    cases c with
    | ow sz es =>
      obtain ⟨n, h1, h2, h3, h4, h5, h6⟩ := hl
      simp only [frz]
      rw [h5]
      have : es.length = (frzL lab es).length := frzL_len.symm
      rw [this]
      refine .fz lab sz _ _ _ _ hlab (by rw [frzL_len]; exact h4) (RE.of fun i e hi => ?_)
      rw [frzL_get] at hi
      cases he : es[i]? with
      | none => rw [he] at hi; cases hi
      | some e0 =>
        rw [he] at hi
        simp at hi
        subst hi
        refine ⟨by rw [cells_frz, frzL_len]; exact h6 e0 (List.mem_of_getElem? he), ?_⟩
        rw [cells_frz]
        refine RC.of fun j x hj => ?_
        rw [frzL_get] at hj
        cases hx : (cells e0)[j]? with
        | none => rw [hx] at hj; cases hj
        | some x0 =>
          rw [hx] at hj
          simp at hj
          subst hj
          have hg : getT a (p ++ [(i, j)]) = some x0 := by rw [getT_snoc, hc]; simp [step1, he, hx]
          obtain ⟨n', u', e1, e2, e3, e4, e5, e6⟩ := ht.inside hg
          rw [h1] at e1; cases e1
          have hs1 := cells_size hx
          have hs2 := List.sizeOf_lt_of_mem (List.mem_of_getElem? he)
          rw [h3] at e5
          have hh : n.has n.b (n.o + i * sz + j) := by have := Nd.has_cell e3 e4; rwa [h3] at this
          exact ⟨u', hm p n _ u' h1 hh e5, hnode p n h1 _ hh, ih x0 _ u' (by simp at hN; omega) hg e6⟩
    | bx e =>
      obtain ⟨n, h1, h2, h3, h4, h5⟩ := hl
      simp only [frz]
      rw [h5]
      have := RF.fp (F := F1) lab (frz lab e) 0 n.b n.o hlab (by
        rw [cells_frz]
        refine RC.of fun j x hj => ?_
        rw [frzL_get] at hj
        cases hx : (cells e)[j]? with
        | none => rw [hx] at hj; cases hj
        | some x0 =>
          rw [hx] at hj
          simp at hj
          subst hj
          have hg : getT a (p ++ [(0, j)]) = some x0 := by rw [getT_snoc, hc]; simp [step1, hx]
          obtain ⟨n', u', e1, e2, e3, e4, e5, e6⟩ := ht.inside hg
          rw [h1] at e1; cases e1
          have hs1 := cells_size hx
          rw [Nat.zero_mul, Nat.add_zero] at e5
          have hh : n.has n.b (n.o + j) := by have := Nd.has_cell e3 e4; rwa [Nat.zero_mul, Nat.add_zero] at this
          exact ⟨u', hm p n _ u' h1 hh e5, hnode p n h1 _ hh, ih x0 _ u' (by simp at hN; omega) hg e6⟩)
      simpa using this
    | mp ks vs => exact .un _ hl.one
    | lk r len => exact .un _ hl.one
    | agg cs => obtain ⟨_, h⟩ := hl; cases h
    | tup cs => obtain ⟨_, h⟩ := hl; cases h
    | rf sz pl off len => obtain ⟨_, h⟩ := hl; cases h
    | ptr pl i off => obtain ⟨_, h⟩ := hl; cases h
    | mrf r => obtain ⟨_, h⟩ := hl; cases h
    | _ => exact hleaf _ _ hl.2
/-- A root is given up: what it says is frozen from now on. -/
theorem RM.give (H : RM B K g R h w) {r : Nat} {a : AV} (ha : hget h r = some a) (hwh : ∀ p n, g r p = some n → n.whole = true → False) : RM B K (dropG g r) R (hdel h r) w ∧ RF (mkF B (dropG g r) w) (frz 0 a) (R r) := by
  have ht := H.tree r a ha
  have hd := H.drop r
  have hsub : ∀ b o, owned (dropG g r) b o → owned g b o := by
    rintro b o ⟨k, q, n, hn, hb⟩
    unfold dropG at hn
    by_cases e : k = r
    · rw [if_pos e] at hn; cases hn
    · rw [if_neg e] at hn; exact ⟨k, q, n, hn, hb⟩
  refine ⟨hd, frz_RF (F1 := mkF B (dropG g r) w) (lab := 0) (by decide) ht (fun p n hn o ho => ?_) (fun _ _ _ _ _ _ hx => hx) (fun c u hf => hf.mono (le_sub hsub)) _ a [] _ (Nat.lt_succ_self _) rfl ht.root⟩
  unfold Fz.no
  simp only [show (0 : Nat) ≠ 2 by decide, if_false]
  rintro (hx | hx)
  · obtain ⟨k, q, m, hm, hb⟩ := hx
    unfold dropG at hm
    by_cases e : k = r
    · rw [if_pos e] at hm; cases hm
    · rw [if_neg e] at hm
      exact H.disj _ _ _ _ _ _ hm hn (by intro e2; simp at e2; exact e e2.1) n.b o hb ho
  · rcases H.inn n.b o ⟨r, p, n, hn, ho⟩ with h | h
    · exact B.hown _ _ h hx
    · have := B.hA0 _ _ hx; omega
end Go.Am
end
section
namespace Go.Am
open Go.RowKit Go.Lib
variable {P : Program} {cx : Cx} {B B1 : Base} {K : Nat → Prop} {g g' g1 g2 : Gh} {R R1 R2 : Nat → Value} {s : St} {h h' h1 h2 hF : Hp} {w w' : World} {F F' : Fz} {d d' : List Up}
theorem fade_same {a : AV} (h : stale d a = false) : fade d a = a := by
  cases a with
  | agg cs =>
    simp only [stale] at h
    rw [List.any_eq_false] at h
    simp only [fade, fade1]
    congr 1
    conv => rhs; rw [← List.map_id cs]
    refine List.map_congr_left fun c hc => ?_
    have := h c hc
    unfold fadeC; rw [if_neg this]; rfl
  | tup cs => cases h
  | _ =>
    simp only [stale] at h
    simp only [fade, fade1, fadeC, h]; rfl
theorem unfade {a : AV} {v : Value} (hx : XD F g d a v) (h : stale d a = false) (h' : stale d' a = false) : XD F g d' a v := by
  unfold XD at *
  rw [fade_same h] at hx
  rw [fade_same h']; exact hx
theorem staleC_nil {c : AV} : staleC [] c = false := by cases c <;> rfl
theorem stale_nil {a : AV} (h : nonTup a = true) : stale [] a = false := by
  cases a with
  | int k n => rfl
  | bool b => rfl
  | str b => rfl
  | nilp => rfl
  | un => rfl
  | fz l z es => rfl
  | ow z es => rfl
  | fp l e o => rfl
  | bx e => rfl
  | mp ks vs => rfl
  | rf z pl o l => rfl
  | ptr pl i o => rfl
  | mrf r => rfl
  | lk r l => rfl
  | agg cs => simp only [stale]; rw [List.any_eq_false]; intro c _; rw [staleC_nil]; decide
  | tup cs => cases h
theorem stale_of_refTo {r : Nat} {a : AV} (h : refTo r a = false) : stale [.del r] a = false ∧ nonTup a = true := by
  have cell : ∀ {n : Nat}, (n == r) = false → Nat.beq r n = false := by
    intro n hn
    exact nbF fun e => by rw [e] at hn; simp at hn
  cases a with
  | rf sz pl off len =>
    refine ⟨?_, rfl⟩
    simp only [refTo] at h
    simp only [stale, staleC, List.any_cons, List.any_nil, Up.hits, Bool.or_false]
    exact cell h
  | ptr pl i off =>
    refine ⟨?_, rfl⟩
    simp only [refTo] at h
    simp only [stale, staleC, List.any_cons, List.any_nil, Up.hits, Bool.or_false]
    exact cell h
  | mrf q =>
    refine ⟨?_, rfl⟩
    simp only [refTo] at h
    simp only [stale, staleC, List.any_cons, List.any_nil, Up.hits, Bool.or_false]
    exact cell h
  | agg cs =>
    refine ⟨?_, rfl⟩
    simp only [refTo] at h
    rw [List.any_eq_false] at h
    simp only [stale]
    rw [List.any_eq_false]
    intro c hc
    have := h c hc
    cases c <;> simp only [staleC, List.any_cons, List.any_nil, Up.hits, Bool.or_false, Bool.not_eq_true] at this ⊢
    · exact cell this
    · exact cell this
    · exact cell this
  | tup cs => simp [refTo] at h
  | _ => exact ⟨rfl, rfl⟩
/-- The temporaries say what they hold. -/
structure TX (F : Fz) (g : Gh) (d : List Up) (t : Hp) (ρ : Nat → Value) : Prop where
  sorted : t.Pairwise fun x y => y.1 < x.1
  holds : ∀ x ∈ t, XD F g d x.2 (ρ x.1)
theorem hget_mem : ∀ {t : Hp} {i : Nat} {a : AV}, hget t i = some a → (i, a) ∈ t
  | [], _, _, h => by cases h
  | (k, x) :: t, i, a, h => by
    simp only [hget] at h
    by_cases e : i = k
    · subst e; simp at h; subst h; exact List.mem_cons_self
    · rw [nbF e, cond_false] at h; exact List.mem_cons_of_mem _ (hget_mem h)
theorem TX.get {t : Hp} {ρ : Nat → Value} (h : TX F g d t ρ) (i : Nat) : XD F g d (tget t i) (ρ i) := by
  unfold tget
  cases hg : hget t i with
  | none => exact .inl rfl
  | some a => exact h.holds _ (hget_mem hg)
theorem tins_mem {i : Nat} {a : AV} : ∀ {t : Hp}, t.Pairwise (fun x y => y.1 < x.1) → (tins t i a).Pairwise (fun x y => y.1 < x.1) ∧ ∀ x ∈ tins t i a, x = (i, a) ∨ (x ∈ t ∧ x.1 ≠ i)
  | [], _ => ⟨by simp [tins], fun x hx => by simp [tins] at hx; exact .inl hx⟩
  | (k, y) :: t, hp => by
    obtain ⟨h1, h2⟩ := List.pairwise_cons.1 hp
    simp only [tins]
    by_cases e : i = k
    · subst e
      rw [nbT, cond_true]
      refine ⟨List.pairwise_cons.2 ⟨h1, h2⟩, fun x hx => ?_⟩
      rcases List.mem_cons.1 hx with rfl | hx
      · exact .inl rfl
      · exact .inr ⟨List.mem_cons_of_mem _ hx, by have := h1 x hx; simp at this; omega⟩
    · rw [nbF e, cond_false]
      cases hb : Nat.ble k i with
      | true =>
        rw [cond_true]
        have hki : k < i := by have := Nat.le_of_ble_eq_true hb; omega
        refine ⟨List.pairwise_cons.2 ⟨fun x hx => ?_, hp⟩, fun x hx => ?_⟩
        · rcases List.mem_cons.1 hx with rfl | hx
          · exact hki
          · have := h1 x hx; simp at this ⊢; omega
        · rcases List.mem_cons.1 hx with rfl | hx
          · exact .inl rfl
          · refine .inr ⟨hx, ?_⟩
            rcases List.mem_cons.1 hx with rfl | hx
            · exact fun e' => e e'.symm
            · have := h1 x hx; simp at this; omega
      | false =>
        rw [cond_false]
        have hki : i < k := by
          rcases Nat.lt_or_ge i k with h | h
          · exact h
          · have := Nat.ble_eq_true_of_le h; rw [hb] at this; cases this
        obtain ⟨a1, a2⟩ := tins_mem (i := i) (a := a) h2
        refine ⟨List.pairwise_cons.2 ⟨fun x hx => ?_, a1⟩, fun x hx => ?_⟩
        · rcases a2 x hx with rfl | ⟨hx, _⟩
          · exact hki
          · exact h1 x hx
        · rcases List.mem_cons.1 hx with rfl | hx
          · exact .inr ⟨List.mem_cons_self, fun e' => e e'.symm⟩
          · rcases a2 x hx with h | ⟨h, h'⟩
            · exact .inl h
            · exact .inr ⟨List.mem_cons_of_mem _ h, h'⟩
theorem TX.put {t : Hp} {ρ : Nat → Value} (h : TX F g d t ρ) {i : Nat} {a : AV} {v : Value} (ha : XD F g d a v) : TX F g d (tins t i a) (fun k => if k = i then v else ρ k) := by
  obtain ⟨h1, h2⟩ := tins_mem (i := i) (a := a) h.sorted
  refine ⟨h1, fun x hx => ?_⟩
  rcases h2 x hx with rfl | ⟨hx, hne⟩
  · simp only [if_true]; exact ha
  · rw [if_neg hne]; exact h.holds x hx
theorem TX.step {t : Hp} {ρ : Nat → Value} (h : TX F g d t ρ) (hF : F.le F') (hd : ∀ pl, okD d' pl → okD d pl) (hg : ∀ pl n, okD d' pl → g pl.r pl.p = some n → g' pl.r pl.p = some n) : TX F' g' d' t ρ :=
  ⟨h.sorted, fun x hx => (h.holds x hx).fade hF hd hg⟩
theorem keys_sorted {t t' : Hp} (h : t'.map (·.1) = t.map (·.1)) (hs : t.Pairwise fun x y => y.1 < x.1) : t'.Pairwise fun x y => y.1 < x.1 := by
  have h1 : (t.map (·.1)).Pairwise fun x y => y < x := List.pairwise_map.2 hs
  rw [← h] at h1
  exact List.pairwise_map.1 h1
theorem clearR_keys {r : Nat} : ∀ {t : Hp}, (clearR r t).map (·.1) = t.map (·.1)
  | [] => rfl
  | (i, a) :: t => by simp [clearR, clearR_keys]
theorem clearR_mem {r : Nat} : ∀ {t : Hp}, ∀ x ∈ clearR r t, x.2 = .un ∨ (x ∈ t ∧ refTo r x.2 = false)
  | [], x, hx => by cases hx
  | (i, a) :: t, x, hx => by
    simp only [clearR] at hx
    rcases List.mem_cons.1 hx with rfl | hx
    · by_cases e : refTo r a = true
      · rw [if_pos e]; exact .inl rfl
      · rw [if_neg e]; exact .inr ⟨List.mem_cons_self, by simpa using e⟩
    · exact (clearR_mem x hx).imp id fun h => ⟨List.mem_cons_of_mem _ h.1, h.2⟩
/-- Root r is given up, and what refers to it. -/
theorem drop_ok {t : Hp} {ρ : Nat → Value} (H : RM B K g R h w) (hT : TX (mkF B g w) g [] t ρ) (r : Nat) : RM B K (dropG g r) R (hdel h r) w ∧ TX (mkF B (dropG g r) w) (dropG g r) [] (clearR r t) ρ ∧ (mkF B g w).le (mkF B (dropG g r) w) := by
  have hsub : ∀ b o, owned (dropG g r) b o → owned g b o := by
    rintro b o ⟨k, q, n, hn, hb⟩
    unfold dropG at hn
    by_cases e : k = r
    · rw [if_pos e] at hn; cases hn
    · rw [if_neg e] at hn; exact ⟨k, q, n, hn, hb⟩
  refine ⟨H.drop r, ⟨keys_sorted clearR_keys hT.sorted, fun x hx => ?_⟩, le_sub hsub⟩
  rcases clearR_mem x hx with h | ⟨hx, h⟩
  · exact .inl h
  obtain ⟨s1, s2⟩ := stale_of_refTo h
  refine unfade (d := [.del r]) ?_ s1 (stale_nil s2)
  refine (hT.holds x hx).fade (le_sub hsub) (fun pl _ => (rfl : okD [] pl)) fun pl n ho hn => ?_
  unfold dropG
  rw [if_neg]; exact hn
  rintro rfl
  simp [okD, Up.hits] at ho
end Go.Am
end
section
namespace Go.Am
open Go.RowKit Go.Lib
variable {P : Program} {cx : Cx} {B B1 : Base} {K : Nat → Prop} {g g' g1 g2 : Gh} {R R1 R2 : Nat → Value} {h h' h1 h2 hF : Hp} {w w' : World} {F F' : Fz} {d d' : List Up}
theorem killX_ok {ρ : Nat → Value} : ∀ {ops : List Oper} {s : St} {g : Gh}, RM B K g R s.h w → TX (mkF B g w) g [] s.t ρ →
    ∃ g', RM B K g' R (killX ops s).h w ∧ TX (mkF B g' w) g' [] (killX ops s).t ρ ∧ (mkF B g w).le (mkF B g' w) ∧ (∀ r a, hget (killX ops s).h r = some a → hget s.h r = some a ∧ g' r = g r) ∧ (killX ops s).d = s.d ∧ (killX ops s).alias = s.alias
  | [], s, g, H, hT => ⟨g, H, hT, le_refl, fun r a ha => ⟨ha, rfl⟩, rfl, rfl⟩
  | o :: os, s, g, H, hT => by
    simp only [killX]
    cases hd : o.dst with
    | none => exact killX_ok H hT
    | some d =>
      simp only
      have go : ∃ g', RM B K g' R (killX os { s with t := clearR d s.t, h := hdel s.h d }).h w ∧ TX (mkF B g' w) g' [] (killX os { s with t := clearR d s.t, h := hdel s.h d }).t ρ ∧ (mkF B g w).le (mkF B g' w) ∧
          (∀ r a, hget (killX os { s with t := clearR d s.t, h := hdel s.h d }).h r = some a → hget s.h r = some a ∧ g' r = g r) ∧ (killX os { s with t := clearR d s.t, h := hdel s.h d }).d = s.d ∧ (killX os { s with t := clearR d s.t, h := hdel s.h d }).alias = s.alias := by
        obtain ⟨a1, a2, a3⟩ := drop_ok H hT d
        obtain ⟨g', b1, b2, b3, b4, b5, b6⟩ := killX_ok (ops := os) (s := { s with t := clearR d s.t, h := hdel s.h d }) a1 a2
        refine ⟨g', b1, b2, le_trans' a3 b3, fun r a ha => ?_, b5, b6⟩
        obtain ⟨c1, c2⟩ := b4 r a ha
        simp only [hget_hdel] at c1
        split at c1
        · cases c1
        · rename_i hne
          refine ⟨c1, c2.trans ?_⟩
          funext q
          simp only [dropG, if_neg hne]
      split <;> first
        | (split
           · exact go
           · exact killX_ok H hT)
        | exact killX_ok H hT
end Go.Am
end
section
namespace Go.Am
open Go.RowKit Go.Lib
theorem noLkL_mem : ∀ {l : List AV} {a : AV}, noLkL l = true → a ∈ l → noLk a = true
  | x :: l, a, h, hm => by
    simp only [noLkL, Bool.and_eq_true] at h
    rcases List.mem_cons.1 hm with rfl | hm
    · exact h.1
    · exact noLkL_mem h.2 hm
theorem noLk_cells {e x : AV} {j : Nat} (h : noLk e = true) (hx : (cells e)[j]? = some x) : noLk x = true := by
  cases e with
  | agg cs => exact noLkL_mem h (List.mem_of_getElem? hx)
  | _ =>
    simp only [cells] at hx
    cases j with
    | zero => simp at hx; subst hx; exact h
    | succ j => simp at hx
theorem noLk_step {a x : AV} {t : Nat × Nat} (h : noLk a = true) (hx : step1 a t = some x) : noLk x = true := by
  obtain ⟨i, j⟩ := t
  rcases step1_some hx with ⟨sz, es, e, rfl, he, hj⟩ | ⟨e, rfl, rfl, hj⟩
  · exact noLk_cells (noLkL_mem h (List.mem_of_getElem? he)) hj
  · exact noLk_cells (e := e) h hj
theorem noLk_get : ∀ {p : List (Nat × Nat)} {a : AV} {q len : Nat}, noLk a = true → getT a p ≠ some (.lk q len)
  | [], a, q, len, h, e => by simp [getT] at e; subst e; cases h
  | t :: p, a, q, len, h, e => by
    simp only [getT] at e
    cases hs : step1 a t with
    | none => rw [hs] at e; cases e
    | some x => rw [hs] at e; exact noLk_get (noLk_step h hs) e
theorem keepT_keys {d : List Up} {keep : Nat} : ∀ {t : Hp}, ((keepT d keep t).map (·.1)).Sublist (t.map (·.1))
  | [] => .slnil
  | (i, a) :: t => by
    simp only [keepT]
    split
    · exact .cons_cons _ keepT_keys
    · exact .cons _ keepT_keys
theorem keepT_mem {d : List Up} {keep : Nat} : ∀ {t : Hp}, ∀ x ∈ keepT d keep t, x.2 = .un ∨ (x ∈ t ∧ stale d x.2 = false)
  | [], x, hx => by cases hx
  | (i, a) :: t, x, hx => by
    simp only [keepT] at hx
    have tl : x ∈ keepT d keep t → x.2 = .un ∨ (x ∈ (i, a) :: t ∧ stale d x.2 = false) := fun hx => (keepT_mem x hx).imp id fun h => ⟨List.mem_cons_of_mem _ h.1, h.2⟩
    split at hx
    · rcases List.mem_cons.1 hx with rfl | hx
      · by_cases e : stale d a = true
        · rw [if_pos e]; exact .inl rfl
        · rw [if_neg e]; exact .inr ⟨List.mem_cons_self, by simpa using e⟩
      · exact tl hx
    · exact tl hx
theorem keepT_ok {F : Fz} {g : Gh} {d : List Up} {keep : Nat} {t : Hp} {ρ : Nat → Value} (h : TX F g d t ρ) : TX F g [] (keepT d keep t) ρ := by
  refine ⟨?_, fun x hx => ?_⟩
  · have h1 : (t.map (·.1)).Pairwise fun x y => y < x := List.pairwise_map.2 h.sorted
    exact List.pairwise_map.1 (h1.sublist keepT_keys)
  · rcases keepT_mem x hx with e | ⟨hx, s1⟩
    · exact .inl e
    · exact unfade (h.holds x hx) s1 (stale_nil (by cases hx2 : x.2 <;> first | rfl | (rw [hx2] at s1; cases s1)))
theorem RTL.mono' {F F' : Fz} {g g' : Gh} (hF : F.le F') : ∀ {cs : List AV} {vs : List Value}, (∀ c ∈ cs, ∀ pl n, refOf c = some pl → g pl.r pl.p = some n → g' pl.r pl.p = some n) → RTL F g cs vs → RTL F' g' cs vs
  | _, _, _, .nil => .nil
  | _, _, h, .cons h1 h2 => .cons (h1.mono hF (h _ List.mem_cons_self)) (RTL.mono' hF (fun c hc => h c (List.mem_cons_of_mem _ hc)) h2)
theorem refC_ref {h : Hp} {c : AV} {pl : Pl} (hc : refC h c = true) (hr : refOf c = some pl) : (hget h pl.r).isSome = true := by
  cases c <;> simp [refOf] at hr <;> subst hr <;> exact hc
/-- What refers only to roots that stay keeps its meaning. -/
theorem refIn_X {F F' : Fz} {g g' : Gh} {h : Hp} (hF : F.le F') (hg : ∀ r p n, (hget h r).isSome = true → g r p = some n → g' r p = some n) {a : AV} {v : Value} (hi : refIn h a = true) (hx : XD F g [] a v) : XD F' g' [] a v := by
  refine hx.imp id fun hx => ?_
  cases a with
  | tup cs => cases hi
  | agg cs =>
    have e1 : fade [] (.agg cs) = .agg cs := fade_same (stale_nil rfl)
    rw [e1] at hx ⊢
    cases hx with
    | c h1 => cases h1 with
      | c h2 => cases h2 with
        | f h3 => cases h3
      | agg h2 => exact .c (.agg (RTL.mono' hF (fun c hc pl n hr hn => hg _ _ n (refC_ref (List.all_eq_true.1 hi c hc) hr) hn) h2))
  | _ =>
    rw [fade_same (stale_nil rfl)] at hx ⊢
    simp only [refIn] at hi
    cases hx with
    | c h1 => cases h1 with
      | c h2 => exact .c (.c (h2.mono hF fun pl n hr hn => hg _ _ n (refC_ref hi hr) hn))
theorem noLkH_mem : ∀ {h : Hp}, noLkH h = true → ∀ x ∈ h, noLk x.2 = true
  | [], _, x, hx => by cases hx
  | (i, a) :: h, e, x, hx => by
    simp only [noLkH, Bool.and_eq_true] at e
    rcases List.mem_cons.1 hx with rfl | hx
    · exact e.1
    · exact noLkH_mem e.2 x hx
variable {B : Base} {K : Nat → Prop} {g g' : Gh} {R : Nat → Value} {h h' : Hp} {w : World}
/-- What refers to root r is forgotten; all other places stay. -/
theorem TX.clear {F F' : Fz} {t : Hp} {ρ : Nat → Value} {r : Nat} (hT : TX F g [] t ρ) (hle : F.le F') (hg : ∀ k p n, k ≠ r → g k p = some n → g' k p = some n) : TX F' g' [] (clearR r t) ρ := by
  refine ⟨keys_sorted clearR_keys hT.sorted, fun x hx => ?_⟩
  rcases clearR_mem x hx with h | ⟨hx, h⟩
  · exact .inl h
  obtain ⟨s1, s2⟩ := stale_of_refTo h
  refine unfade (d := [.del r]) ?_ s1 (stale_nil s2)
  refine (hT.holds x hx).fade hle (fun pl _ => (rfl : okD [] pl)) fun pl n ho hn => hg pl.r pl.p n ?_ hn
  rintro rfl
  simp [okD, Up.hits] at ho
theorem owned_att {r s : Nat} {P : List (Nat × Nat)} {b o : Nat} (hx : owned (attG g r P s) b o) : owned g b o := by
  obtain ⟨k, q, n, hn, hb⟩ := hx
  unfold attG at hn
  split at hn
  · cases hn
  · split at hn
    · exact ⟨_, _, n, hn, hb⟩
    · exact ⟨_, _, n, hn, hb⟩
theorem owned_ren {r s : Nat} {b o : Nat} (hx : owned (renG g r s) b o) : owned g b o := by
  obtain ⟨k, q, n, hn, hb⟩ := hx
  unfold renG at hn
  split at hn
  · exact ⟨_, _, n, hn, hb⟩
  · split at hn
    · cases hn
    · exact ⟨_, _, n, hn, hb⟩
theorem owned_cutR {r off len k cap : Nat} {m : Nd} (hm : g r [] = some m) (hk : k + cap ≤ m.cap) {b o : Nat} (hx : owned (cutRG g r off len k cap) b o) : owned g b o := by
  obtain ⟨s, q, n, hn, hb⟩ := hx
  unfold cutRG at hn
  split at hn
  · cases q with
    | nil => simp only [hm, Option.map_some, Option.some.injEq] at hn; subst hn; exact ⟨r, [], m, hm, cutN_has hk hb⟩
    | cons ij q =>
      obtain ⟨i, j⟩ := ij
      simp only at hn
      split at hn
      · exact ⟨_, _, n, hn, hb⟩
      · cases hn
  · exact ⟨_, _, n, hn, hb⟩
/-- Below a link nothing is owned. -/
theorem under_lk (H : RM B K g R h w) {r : Nat} {a : AV} {P q : List (Nat × Nat)} {k len : Nat} {n : Nd} (ha : hget h r = some a) (hp : getT a P = some (.lk k len)) (hn : g r q = some n) : pre P q = false := by
  cases hb : pre P q with
  | false => rfl
  | true =>
    obtain ⟨x, rfl⟩ := pre_iff.1 hb
    obtain ⟨c, hc, hcn⟩ := (H.tree r a ha).dom _ n hn
    rw [getT_append, hp, Option.bind_some] at hc
    obtain ⟨_, rfl⟩ := getT_leaf (c := .lk k len) rfl hc
    cases hcn
theorem link_in (hfree : ∀ h, ∃ N, hget h N = none ∧ ¬ K N) (H : RM B K g R h w) {r len : Nat} {pl : Pl} {tr c a : AV} (ha : hget h pl.r = some a) (hp : getT a pl.p = some (.lk r len)) (hr : hget h r = some tr) (hne : pl.r ≠ r) (hpp : pl.p ≠ [])
    (hc : (∃ sz es, tr = .ow sz es ∧ 1 ≤ len ∧ len ≤ es.length + 1 ∧ c = .ow sz (es.take (len - 1))) ∨ (∃ e, tr = .bx e ∧ len = 0 ∧ c = .bx e)) :
    ∃ g' R', RM B K g' R' (Up.app (hdel h r) (.set pl c)) w ∧ (∀ b o, owned g' b o → owned g b o) ∧ ∀ k p n, k ≠ r → g k p = some n → g' k p = some n := by
  obtain ⟨pr, pp⟩ := pl
  simp only at ha hp hne hpp
  obtain ⟨p0, ij, rfl⟩ : ∃ p0 ij, pp = p0 ++ [ij] := ⟨pp.dropLast, pp.getLast hpp, (List.dropLast_concat_getLast hpp).symm⟩
  obtain ⟨i, j⟩ := ij
  obtain ⟨n, u, h1, h2, h3, h4, h5, h6⟩ := (H.tree _ a ha).inside hp
  obtain ⟨_, _, h8⟩ := h6
  have hnodeT : isNode tr = true := by rcases hc with ⟨sz, es, rfl, _⟩ | ⟨e, rfl, _⟩ <;> rfl
  have hnodeC : nonAgg c = true := by rcases hc with ⟨sz, es, _, _, _, rfl⟩ | ⟨e, _, _, rfl⟩ <;> rfl
  obtain ⟨nr, hnr⟩ : ∃ nr, g r [] = some nr := by
    have := (H.tree r tr hr).root
    rcases hc with ⟨sz, es, rfl, _⟩ | ⟨e, rfl, _⟩
    · obtain ⟨m, e1, _⟩ := this; exact ⟨m, e1⟩
    · obtain ⟨m, e1, _⟩ := this; exact ⟨m, e1⟩
  obtain ⟨_, h9⟩ := h8 nr hnr
  obtain ⟨N, hN, hKN⟩ := hfree h
  have hrN : r ≠ N := by rintro rfl; rw [hr] at hN; cases hN
  have hpN : pr ≠ N := by rintro rfl; rw [ha] at hN; cases hN
  have r1 := H.rename hr hN hKN
  have hN1 : hget (hins (hdel h r) N tr) N = some tr := by rw [hget_hins, if_pos rfl]
  have ha1 : hget (hins (hdel h r) N tr) pr = some a := by rw [hget_hins, if_neg hpN, hget_hdel, if_neg hne]; exact ha
  have hg1 : renG g r N N [] = some nr := by simp [renG, hnr]
  have hgp : renG g r N pr p0 = some n := by unfold renG; rw [if_neg hpN, if_neg hne]; exact h1
  have key : ∃ g2 R2, RM B K g2 R2 (hins (hins (hdel h r) N tr) N c) w ∧ (∀ b o, owned g2 b o → owned g b o) ∧ (∀ k q, k ≠ N → g2 k q = renG g r N k q) ∧ R2 N = u := by
    rcases hc with ⟨sz, es, rfl, c1, c2, rfl⟩ | ⟨e, rfl, c1, rfl⟩
    · rcases h9 with ⟨l, k, cap, e1, e2, e3, e4, e5⟩ | ⟨e1, _⟩
      · have r2 := r1.cut (off := 0) (len := l) (k := k) (cap := cap) hN1 hg1 hKN (by omega) e2 e3 e4
        have hl : len - 1 = l := by omega
        have hv : setR (setR R N (R r)) N (.slice (some ⟨nr.b, nr.o + k * nr.sz, none⟩) l cap) N = u := by unfold setR; rw [if_pos rfl]; exact e5.symm
        rw [hl]
        exact ⟨_, _, r2, fun b o hx => owned_ren (owned_cutR hg1 e2 hx), fun k' q hk => by unfold cutRG; rw [if_neg hk], hv⟩
      · omega
    · rcases h9 with ⟨l, k, cap, e1, _⟩ | ⟨_, e2⟩
      · omega
      · refine ⟨_, _, r1.congr fun q => ?_, fun b o hx => owned_ren hx, fun _ _ _ => rfl, ?_⟩
        · simp only [hget_hins]; split <;> rfl
        · unfold setR; rw [if_pos rfl]
          obtain ⟨m, f1, _, _, _, f5⟩ := (H.tree r _ hr).root
          rw [hnr] at f1; cases f1
          rw [f5, e2]
  obtain ⟨g2, R2, r2, o2, k2, v2⟩ := key
  have ha2 : hget (hins (hins (hdel h r) N tr) N c) pr = some a := by rw [hget_hins, if_neg hpN]; exact ha1
  have r3 := r2.attach (s := N) (c := c) ha2 hp (by rw [hget_hins, if_pos rfl]) (fun e => hpN e.symm) hnodeC (n := n) (by rw [k2 _ _ hpN]; exact hgp) (by rw [v2]; exact h5)
  refine ⟨_, _, r3.congr fun q => ?_, fun b o hx => o2 b o (owned_att hx), fun k p m hk hm => ?_⟩
  · have e1 : hget (hdel h r) pr = some a := by rw [hget_hdel, if_neg hne]; exact ha
    simp only [Up.app, e1]
    simp only [hget_hins, hget_hdel]
    by_cases e2 : q = N
    · subst e2; rw [if_neg (fun e => hpN e.symm), if_neg (fun e => hrN e.symm), if_pos rfl]; exact hN
    · simp only [if_neg e2]
  · have hkN : k ≠ N := by rintro rfl; rw [H.void k hN p] at hm; cases hm
    unfold attG
    rw [if_neg hkN, if_neg, k2 _ _ hkN]
    · unfold renG; rw [if_neg hkN, if_neg hk]; exact hm
    · rintro ⟨rfl, e2⟩
      rw [under_lk H ha hp hm] at e2; cases e2
theorem resolve_ok {ρ : Nat → Value} (hfree : ∀ h, ∃ N, hget h N = none ∧ ¬ K N) : ∀ {us : List Up} {t t' h h' : Hp} {g : Gh} {R : Nat → Value}, RM B K g R h w → TX (mkF B g w) g [] t ρ → resolve us t h = some (t', h') →
    ∃ g' R', RM B K g' R' h' w ∧ TX (mkF B g' w) g' [] t' ρ ∧ (mkF B g w).le (mkF B g' w) ∧ ∀ r a, hget h' r = some a → (∃ a0, hget h r = some a0) ∧ ∀ n, g r [] = some n → g' r [] = some n
  | [], t, t', h, h', g, R, H, hT, he => by
    simp only [resolve, Option.some.injEq, Prod.mk.injEq] at he
    obtain ⟨rfl, rfl⟩ := he
    exact ⟨g, R, H, hT, le_refl, fun r a ha => ⟨⟨a, ha⟩, fun n hn => hn⟩⟩
  | u :: us, t, t', h, h', g, R, H, hT, he => by
    have skip : resolve us t h = some (t', h') → ∃ g' R', RM B K g' R' h' w ∧ TX (mkF B g' w) g' [] t' ρ ∧ (mkF B g w).le (mkF B g' w) ∧ ∀ r a, hget h' r = some a → (∃ a0, hget h r = some a0) ∧ ∀ n, g r [] = some n → g' r [] = some n := fun he => resolve_ok hfree H hT he
    have main : ∀ (pl : Pl) (r len : Nat), resolve (.set pl (.lk r len) :: us) t h = some (t', h') → ∃ g' R', RM B K g' R' h' w ∧ TX (mkF B g' w) g' [] t' ρ ∧ (mkF B g w).le (mkF B g' w) ∧ ∀ r a, hget h' r = some a → (∃ a0, hget h r = some a0) ∧ ∀ n, g r [] = some n → g' r [] = some n := by
      intro pl r len he
      simp only [resolve] at he
      split at he
      · rename_i r' len' tr hp hr
        split at he
        · cases he
        · rename_i hcond
          have c1 : r' = r := Classical.byContradiction fun hx => hcond (.inl hx)
          have c2 : pl.r ≠ r := fun hx => hcond (.inr (.inl hx))
          have c3 : len' = len := Classical.byContradiction fun hx => hcond (.inr (.inr (.inl hx)))
          have c4 : pl.p ≠ [] := fun hx => hcond (.inr (.inr (.inr hx)))
          subst c1; subst c3
          obtain ⟨a, ha, hpa⟩ := getP_some hp
          have go : ∀ c, ((∃ sz es, tr = .ow sz es ∧ 1 ≤ len' ∧ len' ≤ es.length + 1 ∧ c = .ow sz (es.take (len' - 1))) ∨ (∃ e, tr = .bx e ∧ len' = 0 ∧ c = .bx e)) → resolve us (clearR r' t) (Up.app (hdel h r') (.set pl c)) = some (t', h') →
              ∃ g' R', RM B K g' R' h' w ∧ TX (mkF B g' w) g' [] t' ρ ∧ (mkF B g w).le (mkF B g' w) ∧ ∀ r a, hget h' r = some a → (∃ a0, hget h r = some a0) ∧ ∀ n, g r [] = some n → g' r [] = some n := by
            intro c hc he
            obtain ⟨g1, R1, a1, a2, a3⟩ := link_in hfree H ha hpa hr c2 c4 hc
            obtain ⟨g', R', b1, b2, b3, b4⟩ := resolve_ok hfree a1 (hT.clear (le_sub a2) a3) he
            refine ⟨g', R', b1, b2, le_trans' (le_sub a2) b3, fun k x hx => ?_⟩
            obtain ⟨⟨y, hy⟩, d2⟩ := b4 k x hx
            have hkr : k ≠ r' := by
              rintro rfl
              have e1 : hget (hdel h k) pl.r = some a := by rw [hget_hdel, if_neg c2]; exact ha
              simp only [Up.app, e1] at hy
              rw [hget_hins, if_neg (fun e => c2 e.symm), hget_hdel, if_pos rfl] at hy; cases hy
            refine ⟨?_, fun n hn => d2 n (a3 k [] n hkr hn)⟩
            by_cases e : k = pl.r
            · subst e; exact ⟨a, ha⟩
            · have e1 : hget (hdel h r') pl.r = some a := by rw [hget_hdel, if_neg c2]; exact ha
              simp only [Up.app, e1] at hy
              rw [hget_hins, if_neg e, hget_hdel, if_neg hkr] at hy; exact ⟨y, hy⟩
          split at he
          · rename_i sz es
            split at he
            · rename_i hl; exact go _ (.inl ⟨sz, es, rfl, hl.1, hl.2, rfl⟩) he
            · cases he
          · rename_i e
            split at he
            · rename_i hl; exact go _ (.inr ⟨e, rfl, hl, rfl⟩) he
            · cases he
          · cases he
      · cases he
    cases u with
    | set pl a =>
      cases a with
      | lk r len => exact main pl r len he
      | _ => simp only [resolve] at he; exact skip he
    | _ => simp only [resolve] at he; exact skip he
end Go.Am
end
section
namespace Go.Am
open Go.RowKit Go.Lib
variable {B : Base} {K : Nat → Prop} {g g' g1 g2 : Gh} {R R' : Nat → Value} {h h' h1 h2 : Hp} {w : World} {io keep : Nat}
/-- The roots that were handed in to be written keep their node. -/
def IoK (io : Nat) (h : Hp) (g : Gh) (h' : Hp) (g' : Gh) : Prop := ∀ r a, io.testBit r = true → hget h' r = some a → (∃ a0, hget h r = some a0) ∧ ∀ n, g r [] = some n → g' r [] = some n
theorem IoK.refl : IoK io h g h g := fun _ a _ ha => ⟨⟨a, ha⟩, fun _ hn => hn⟩
theorem IoK.trans (a : IoK io h g h1 g1) (b : IoK io h1 g1 h2 g2) : IoK io h g h2 g2 := fun r c hr ha => by
  obtain ⟨⟨a1, b1⟩, b2⟩ := b r c hr ha
  obtain ⟨c1, c2⟩ := a r a1 hr b1
  exact ⟨c1, fun n hn => b2 n (c2 n hn)⟩
theorem renC_ok {F F' : Fz} {r k : Nat} (hle : F.le F') (h1 : ∀ p n, g r p = some n → g' k p = some n) (h2 : ∀ q p n, q ≠ r → q ≠ k → g q p = some n → g' q p = some n) {a : AV} {v : Value} (hk : ∀ pl, refOf a = some pl → pl.r ≠ k) (hx : RT F g a v) : RT F' g' (renC r k a) v := by
  cases hx with
  | f hf =>
    have e : renC r k a = a := by cases hf <;> rfl
    rw [e]; exact .f (hf.mono hle)
  | rf pl off len cap kk n a1 a2 a3 a4 a5 =>
    simp only [renC]
    by_cases e : pl.r = r
    · rw [if_pos e]; exact .rf ⟨k, pl.p⟩ off len cap kk n (h1 _ _ (e ▸ a1)) a2 a3 a4 a5
    · rw [if_neg e]; exact .rf pl off len cap kk n (h2 _ _ _ e (hk pl rfl) a1) a2 a3 a4 a5
  | ptr pl i off n a1 a2 =>
    simp only [renC]
    by_cases e : pl.r = r
    · rw [if_pos e]; exact .ptr ⟨k, pl.p⟩ i off n (h1 _ _ (e ▸ a1)) a2
    · rw [if_neg e]; exact .ptr pl i off n (h2 _ _ _ e (hk pl rfl) a1) a2
  | mrf q n a1 a2 =>
    simp only [renC]
    by_cases e : q = r
    · rw [if_pos e]; exact .mrf k n (h1 _ _ (e ▸ a1)) a2
    · rw [if_neg e]; exact .mrf q n (h2 _ _ _ e (hk ⟨q, []⟩ rfl) a1) a2
theorem renL_ok {F F' : Fz} {r k : Nat} (hle : F.le F') (h1 : ∀ p n, g r p = some n → g' k p = some n) (h2 : ∀ q p n, q ≠ r → q ≠ k → g q p = some n → g' q p = some n) : ∀ {cs : List AV} {vs : List Value}, (∀ a ∈ cs, ∀ pl, refOf a = some pl → pl.r ≠ k) → RTL F g cs vs → RTL F' g' (cs.map (renC r k)) vs
  | _, _, _, .nil => .nil
  | _, _, hk, .cons a1 a2 => .cons (renC_ok hle h1 h2 (hk _ List.mem_cons_self) a1) (renL_ok hle h1 h2 (fun a ha => hk a (List.mem_cons_of_mem _ ha)) a2)
theorem refTo_cell {k : Nat} {a : AV} (h : refTo k a = false) {pl : Pl} (hr : refOf a = some pl) : pl.r ≠ k := by
  cases a <;> simp [refOf] at hr <;> subst hr <;> simpa [refTo] using h
theorem refTo_agg {k : Nat} {cs : List AV} (h : refTo k (.agg cs) = false) : ∀ a ∈ cs, ∀ pl, refOf a = some pl → pl.r ≠ k := by
  intro a ha pl hr
  simp only [refTo] at h
  rw [List.any_eq_false] at h
  have := h a ha
  cases a <;> simp [refOf] at hr <;> subst hr <;> simpa using this
theorem ren_ok {F F' : Fz} {r k : Nat} (hle : F.le F') (h1 : ∀ p n, g r p = some n → g' k p = some n) (h2 : ∀ q p n, q ≠ r → q ≠ k → g q p = some n → g' q p = some n) {a : AV} {v : Value} (hk : refTo k a = false) (hx : XD F g [] a v) : XD F' g' [] (ren r k a) v := by
  rcases hx with rfl | hx
  · exact .inl rfl
  · have hnt := (stale_of_refTo hk).2
    rw [fade_same (stale_nil hnt)] at hx
    cases a with
    | tup cs => cases hnt
    | agg cs =>
      refine .inr ?_
      have e1 : ren r k (.agg cs) = .agg (cs.map (renC r k)) := rfl
      rw [e1, fade_same (stale_nil rfl)]
      cases hx with
      | c hx => cases hx with
        | c hx => cases hx with
          | f hx => cases hx
        | agg hx => exact .c (.agg (renL_ok hle h1 h2 (refTo_agg hk) hx))
    | _ =>
      refine .inr ?_
      rw [fade_same (stale_nil (by simp only [ren, renC] <;> (try split) <;> rfl))]
      cases hx with
      | c hx => cases hx with
        | c hx => exact .c (.c (renC_ok hle h1 h2 (fun pl hr => refTo_cell hk hr) hx))
theorem owned_drop {k b o : Nat} (hx : owned (dropG g k) b o) : owned g b o := by
  obtain ⟨q, p, n, hn, hb⟩ := hx
  unfold dropG at hn
  split at hn
  · cases hn
  · exact ⟨_, _, n, hn, hb⟩
theorem adopt_ok {ρ : Nat → Value} {s : St} {k : Nat} (hkk : keep.testBit k = true) (H : RM B (fun _ => False) g R s.h w) (hT : TX (mkF B g w) g [] s.t ρ) :
    ∃ g' R', RM B (fun _ => False) g' R' (adopt keep io k s).h w ∧ TX (mkF B g' w) g' [] (adopt keep io k s).t ρ ∧ (mkF B g w).le (mkF B g' w) ∧ IoK io s.h g (adopt keep io k s).h g' := by
  have nop : ∃ g' R', RM B (fun _ => False) g' R' s.h w ∧ TX (mkF B g' w) g' [] s.t ρ ∧ (mkF B g w).le (mkF B g' w) ∧ IoK io s.h g s.h g' := ⟨g, R, H, hT, le_refl, .refl⟩
  unfold adopt
  split
  · exact nop
  · rename_i r _
    split
    · exact nop
    · rename_i hc
      simp only [Bool.or_eq_true, not_or, Bool.not_eq_true] at hc
      obtain ⟨c1, c2⟩ := hc
      split
      · exact nop
      · rename_i tr hr
        have hrk : r ≠ k := by rintro rfl; rw [c1] at hkk; cases hkk
        have r1 := H.drop k
        have r2 := r1.rename (r := r) (s := k) (a := tr) (by rw [hget_hdel, if_neg hrk]; exact hr) (by rw [hget_hdel, if_pos rfl]) (fun h => h)
        have hle : (mkF B g w).le (mkF B (renG (dropG g k) r k) w) := le_sub fun b o hx => owned_drop (owned_ren hx)
        have e1 : ∀ p n, g r p = some n → renG (dropG g k) r k k p = some n := fun p n hn => by simp only [renG, dropG, if_pos, if_neg hrk]; exact hn
        have e2 : ∀ q p n, q ≠ r → q ≠ k → g q p = some n → renG (dropG g k) r k q p = some n := fun q p n a1 a2 hn => by simp only [renG, dropG, if_neg a1, if_neg a2]; exact hn
        refine ⟨_, _, r2, ⟨?_, fun x hx => ?_⟩, hle, fun q a hq ha => ?_⟩
        · have := keys_sorted (clearR_keys (r := k)) hT.sorted
          simp only
          exact List.Pairwise.map _ (fun _ _ hxy => hxy) this
        · simp only [List.mem_map] at hx
          obtain ⟨y, hy, rfl⟩ := hx
          rcases clearR_mem y hy with h | ⟨hy, h⟩
          · rw [h]; exact .inl rfl
          · exact ren_ok hle e1 e2 h (hT.holds y hy)
        · have hqk : q ≠ k := by rintro rfl; rw [c2] at hq; cases hq
          simp only at ha
          rw [hget_hins, if_neg hqk, hget_hdel] at ha
          split at ha
          · cases ha
          · rename_i hqr
            rw [hget_hdel, if_neg hqk] at ha
            exact ⟨⟨a, ha⟩, fun n hn => e2 q [] n hqr hqk hn⟩
theorem adoptAll_ok {ρ : Nat → Value} : ∀ {ops : List Oper} {s : St} {g : Gh} {R : Nat → Value}, RM B (fun _ => False) g R s.h w → TX (mkF B g w) g [] s.t ρ →
    ∃ g' R', RM B (fun _ => False) g' R' (adoptAll keep io ops s).h w ∧ TX (mkF B g' w) g' [] (adoptAll keep io ops s).t ρ ∧ (mkF B g w).le (mkF B g' w) ∧ IoK io s.h g (adoptAll keep io ops s).h g'
  | [], s, g, R, H, hT => ⟨g, R, H, hT, le_refl, .refl⟩
  | o :: os, s, g, R, H, hT => by
    simp only [adoptAll]
    split
    · rename_i d hd
      split
      · rename_i hk
        split
        · obtain ⟨g1, R1, a1, a2, a3, a4⟩ := adopt_ok (io := io) hk H hT
          obtain ⟨g2, R2, b1, b2, b3, b4⟩ := adoptAll_ok (ops := os) a1 a2
          exact ⟨g2, R2, b1, b2, le_trans' a3 b3, a4.trans b4⟩
        · exact adoptAll_ok H hT
      · exact adoptAll_ok H hT
    · exact adoptAll_ok H hT
theorem hget_keepH (r : Nat) : ∀ {h : Hp}, hget (keepH keep h) r = if keep.testBit r = true then hget h r else none
  | [] => by simp [keepH, hget]
  | (k, a) :: h => by
    simp only [keepH]
    by_cases hk : keep.testBit k = true
    · rw [if_pos hk]
      simp only [hget]
      by_cases e : r = k
      · subst e; rw [nbT, cond_true, cond_true, if_pos hk]
      · rw [nbF e, cond_false, cond_false]; exact hget_keepH r
    · rw [if_neg hk, hget_keepH r]
      by_cases e : r = k
      · subst e; rw [if_neg hk, if_neg hk]
      · simp only [hget, nbF e, cond_false]
theorem drops_ok : ∀ (ks : List Nat) {g : Gh} {h : Hp}, RM B K g R h w → ∃ g', RM B K g' R (ks.foldl hdel h) w ∧ (∀ b o, owned g' b o → owned g b o) ∧ (∀ r, r ∉ ks → g' r = g r) ∧ ∀ r, hget (ks.foldl hdel h) r = if r ∈ ks then none else hget h r
  | [], g, h, H => ⟨g, H, fun _ _ hx => hx, fun _ _ => rfl, fun r => by simp⟩
  | k :: ks, g, h, H => by
    obtain ⟨g', a1, a2, a3, a4⟩ := drops_ok ks (H.drop k)
    refine ⟨g', a1, fun b o hx => owned_drop (a2 b o hx), fun r hr => ?_, fun r => ?_⟩
    · simp only [List.mem_cons, not_or] at hr
      rw [a3 r hr.2]; funext p; simp only [dropG, if_neg hr.1]
    · simp only [List.foldl_cons, a4 r, hget_hdel, List.mem_cons]
      by_cases e : r = k
      · simp [e]
      · simp [e]
theorem keepH_ok (H : RM B K g R h w) : ∃ g', RM B K g' R (keepH keep h) w ∧ (∀ b o, owned g' b o → owned g b o) ∧ ∀ r, keep.testBit r = true → g' r = g r := by
  obtain ⟨g', a1, a2, a3, a4⟩ := drops_ok ((h.map (·.1)).filter fun r => !keep.testBit r) H
  refine ⟨g', a1.congr fun r => ?_, a2, fun r hr => a3 r fun hm => ?_⟩
  · rw [a4 r, hget_keepH]
    by_cases hk : keep.testBit r = true
    · rw [if_pos hk, if_neg]
      intro hm
      have := (List.mem_filter.1 hm).2
      simp [hk] at this
    · rw [if_neg hk]
      cases hr : hget h r with
      | none => simp
      | some a =>
        rw [if_pos]
        refine List.mem_filter.2 ⟨List.mem_map.2 ⟨(r, a), hget_mem hr, rfl⟩, by simpa using hk⟩
  · have := (List.mem_filter.1 hm).2
    simp [hr] at this
theorem keepR_keys {h : Hp} : ∀ {t : Hp}, (keepR h t).map (·.1) = t.map (·.1)
  | [] => rfl
  | (i, a) :: t => by simp [keepR, keepR_keys]
theorem keepR_mem {h : Hp} : ∀ {t : Hp}, ∀ x ∈ keepR h t, x.2 = .un ∨ (x ∈ t ∧ refIn h x.2 = true)
  | [], x, hx => by cases hx
  | (i, a) :: t, x, hx => by
    simp only [keepR] at hx
    rcases List.mem_cons.1 hx with rfl | hx
    · by_cases e : refIn h a = true
      · rw [if_pos e]; exact .inr ⟨List.mem_cons_self, e⟩
      · rw [if_neg e]; exact .inl rfl
    · exact (keepR_mem x hx).imp id fun h => ⟨List.mem_cons_of_mem _ h.1, h.2⟩
theorem Kd_none {d : List Up} (h : d.any isLkU = false) (q : Nat) : ¬ Kd d q := by
  rintro ⟨pl, len, hm⟩
  rw [List.any_eq_false] at h
  exact h _ hm rfl
theorem finX_ok {ρ : Nat → Value} {s s' : St} {ops : List Oper} (H : RM B (Kd s.d) g R s.h w) (hT : TX (mkF B g w) g s.d s.t ρ) (he : finX keep io ops s = some s') :
    ∃ g' R', RM B (fun _ => False) g' R' s'.h w ∧ TX (mkF B g' w) g' [] s'.t ρ ∧ (mkF B g w).le (mkF B g' w) ∧ s'.d = [] ∧ IoK io s.h g s'.h g' := by
  unfold finX at he
  split at he
  · cases he
  · rename_i t h hres
    obtain ⟨g1, R1, a1, a2, a3, a4⟩ := resolve_ok (fun h => free_no h s.d) H (keepT_ok hT) hres
    split at he
    · cases he
    · rename_i hlk
      have b1 : RM B (fun _ => False) g1 R1 h w := by
        refine ⟨a1.chg, a1.tree, a1.void, a1.disj, a1.blk, fun r a p q len ha hq => ?_, a1.inn⟩
        cases hany : s.d.any isLkU with
        | false => exact Kd_none hany q (a1.lks r a p q len ha hq)
        | true =>
          simp only [hany, Bool.true_and, Bool.not_eq_true', Bool.not_eq_false] at hlk
          exact noLk_get (noLkH_mem hlk _ (hget_mem ha)) hq
      obtain ⟨g2, R2, c1, c2, c3, c4⟩ := adoptAll_ok (keep := keep) (io := io) (ops := ops) (s := { t := t, h := h, d := [], alias := false }) b1 a2
      obtain ⟨g3, d1, d2, d3⟩ := keepH_ok (keep := keep) c1
      simp only [fH_eq, fT_eq, Option.some.injEq] at he
      subst he
      simp only
      refine ⟨g3, R2, d1, ⟨?_, fun x hx => ?_⟩, le_trans' a3 (le_trans' c3 (le_sub d2)), trivial, ?_⟩
      · exact keys_sorted keepR_keys c2.sorted
      · rcases keepR_mem x hx with e | ⟨hx, e⟩
        · exact .inl e
        refine refIn_X (le_sub d2) (fun r p n hr hn => ?_) e (c2.holds x hx)
        rw [hget_keepH] at hr
        split at hr
        · rename_i hk; rw [d3 r hk]; exact hn
        · cases hr
      · refine IoK.trans (h1 := h) (g1 := g1) (fun r a _ ha => a4 r a ha) (c4.trans fun r a _ ha => ?_)
        rw [hget_keepH] at ha
        split at ha
        · rename_i hk; exact ⟨⟨a, ha⟩, fun n hn => by rw [d3 r hk]; exact hn⟩
        · cases ha
end Go.Am
end
section
namespace Go.Am
open Go.RowKit Go.Lib
/-- What a shallow look sees. -/
def hd : AV → AV
  | .ow sz es => .ow sz (es.map fun e => .agg (List.replicate (cells e).length .un))
  | .bx e => .bx (.agg (List.replicate (cells e).length .un))
  | .mp _ _ => .mp [] []
  | a => a
def SameR (s s' : St) (r : Rd) : Prop :=
  (s.d.any (·.hits r) = false → s'.d.any (·.hits r) = false) ∧ (r.deep = true → getP s'.h r.pl = getP s.h r.pl) ∧ (getP s'.h r.pl).map hd = (getP s.h r.pl).map hd
structure Ag (s s' : St) (rs : List Rd) : Prop where
  al : s'.alias = s.alias
  rd : ∀ r ∈ rs, SameR s s' r
variable {s s' : St} {cx : Cx}
theorem Ag.sub {rs ts : List Rd} (h : Ag s s' rs) (hs : ∀ r ∈ ts, r ∈ rs) : Ag s s' ts := ⟨h.al, fun r hr => h.rd r (hs r hr)⟩
theorem Ag.l {rs ts : List Rd} (h : Ag s s' (rs ++ ts)) : Ag s s' rs := h.sub fun _ hr => List.mem_append_left _ hr
theorem Ag.r {rs ts : List Rd} (h : Ag s s' (rs ++ ts)) : Ag s s' ts := h.sub fun _ hr => List.mem_append_right _ hr
theorem Ag.tl {r : Rd} {rs : List Rd} (h : Ag s s' (r :: rs)) : Ag s s' rs := h.sub fun _ hr => List.mem_cons_of_mem _ hr
theorem Ag.hd {r : Rd} {rs : List Rd} (h : Ag s s' (r :: rs)) : SameR s s' r := h.rd r List.mem_cons_self
theorem look_ag {pl : Pl} {c : AV} (h : SameR s s' ⟨pl, true⟩) (hl : look s true pl = some c) : look s' true pl = some c := by
  obtain ⟨h1, h2⟩ := look_some hl
  unfold look
  rw [h.1 h1, h.2.1 rfl]
  simpa using h2
theorem look_hd {pl : Pl} {c : AV} (h : SameR s s' ⟨pl, false⟩) (hl : look s false pl = some c) : ∃ c', look s' false pl = some c' ∧ Am.hd c' = Am.hd c := by
  obtain ⟨h1, h2⟩ := look_some hl
  have h3 := h.2.2
  simp only at h3
  rw [h2] at h3
  cases hx : getP s'.h pl with
  | none => rw [hx] at h3; cases h3
  | some c' =>
    rw [hx] at h3
    simp only [Option.map_some, Option.some.injEq] at h3
    refine ⟨c', ?_, h3⟩
    unfold look
    rw [h.1 h1]
    simpa using hx
theorem use_ag {pl : Pl} (h : SameR s s' ⟨pl, false⟩) (hl : useOk s pl = true) : useOk s' pl = true := by
  unfold useOk at *
  simp only [Bool.not_eq_true'] at *
  exact h.1 hl
theorem hd_ow {c : AV} {sz : Nat} {es : List AV} (h : hd c = hd (.ow sz es)) : ∃ es', c = .ow sz es' ∧ es'.length = es.length ∧ ∀ i : Nat, (es'[i]?).map (fun e => (cells e).length) = (es[i]?).map fun e => (cells e).length := by
  cases c <;> simp only [hd] at h <;> try cases h
  rename_i sz' es'
  simp only [AV.ow.injEq] at h
  obtain ⟨rfl, h⟩ := h
  refine ⟨es', rfl, by simpa using congrArg List.length h, fun i => ?_⟩
  have := congrArg (fun l : List AV => (l[i]?).map fun e => (cells e).length) h
  simp only [List.getElem?_map, Option.map_map, Function.comp_def, cells, List.length_replicate] at this
  exact this
theorem hd_view {c c' : AV} {pl : Pl} (h : hd c' = hd c) : view pl c' = view pl c := by
  cases c with
  | ow sz es => obtain ⟨es', rfl, h1, _⟩ := hd_ow h; simp only [view, h1]
  | bx e => cases c' <;> simp only [hd] at h <;> first | rfl | cases h
  | mp ks vs => cases c' <;> simp only [hd] at h <;> first | rfl | cases h
  | _ => cases c' <;> simp only [hd] at h <;> cases h <;> rfl
theorem absorb1_ag {a x : AV} {rs : List Rd} {us : List Up} (h : absorb1 s a = some (x, rs, us)) (hA : Ag s s' rs) : absorb1 s' a = some (x, rs, us) := by
  cases a with
  | rf sz pl off len =>
    unfold absorb1 at h ⊢
    simp only at h ⊢
    rw [hA.al]
    split at h
    · rename_i hc; rw [if_pos hc]; exact h
    · rename_i hc
      rw [if_neg hc]
      split at h
      · rename_i sz' es hl
        split at h
        · rename_i hb
          simp only [Option.some.injEq, Prod.mk.injEq] at h
          obtain ⟨rfl, rfl, rfl⟩ := h
          rw [look_ag hA.hd hl]
          simp only; rw [if_pos hb]
        · cases h
      · cases h
  | ptr pl i off =>
    unfold absorb1 at h ⊢
    simp only at h ⊢
    rw [hA.al]
    split at h
    · rename_i hc; rw [if_pos hc]; exact h
    · rename_i hc
      rw [if_neg hc]
      split at h
      · rename_i hb
        rw [if_pos hb]
        split at h
        · rename_i e hl
          simp only [Option.some.injEq, Prod.mk.injEq] at h
          obtain ⟨rfl, rfl, rfl⟩ := h
          rw [look_ag hA.hd hl]
        · cases h
      · cases h
  | _ => exact h
theorem absorbL_ag : ∀ {l : List AV} {x : List AV} {rs : List Rd} {us : List Up}, absorbL s l = some (x, rs, us) → Ag s s' rs → absorbL s' l = some (x, rs, us)
  | [], x, rs, us, h, hA => h
  | a :: l, x, rs, us, h, hA => by
    simp only [absorbL] at h ⊢
    cases h1 : absorb1 s a with
    | none => rw [h1] at h; cases h
    | some p =>
      obtain ⟨y, r, u⟩ := p
      rw [h1] at h
      simp only at h
      cases h2 : absorbL s l with
      | none => rw [h2] at h; cases h
      | some q =>
        obtain ⟨ys, r2, u2⟩ := q
        rw [h2] at h
        simp only [Option.some.injEq, Prod.mk.injEq] at h
        obtain ⟨rfl, rfl, rfl⟩ := h
        rw [absorb1_ag h1 hA.l, absorbL_ag h2 hA.r]
theorem absorbE_ag {a x : AV} {rs : List Rd} {us : List Up} (h : absorbE s a = some (x, rs, us)) (hA : Ag s s' rs) : absorbE s' a = some (x, rs, us) := by
  cases a with
  | agg cs =>
    simp only [absorbE] at h ⊢
    cases h2 : absorbL s cs with
    | none => rw [h2] at h; cases h
    | some q =>
      obtain ⟨ys, r2, u2⟩ := q
      rw [h2] at h
      simp only [Option.some.injEq, Prod.mk.injEq] at h
      obtain ⟨rfl, rfl, rfl⟩ := h
      rw [absorbL_ag h2 hA]
  | _ => simp only [absorbE] at h ⊢; exact absorb1_ag h hA
theorem putNew_ag {pl : Pl} {i : Nat} : ∀ {l : List AV} {off : Nat} {x : List AV} {rs : List Rd} {us : List Up}, putNew s pl i off l = some (x, rs, us) → Ag s s' rs → putNew s' pl i off l = some (x, rs, us)
  | [], off, x, rs, us, h, hA => h
  | a :: l, off, x, rs, us, h, hA => by
    simp only [putNew] at h ⊢
    cases h1 : absorb1 s a with
    | none => rw [h1] at h; cases h
    | some p =>
      obtain ⟨y, r, u⟩ := p
      rw [h1] at h
      simp only at h
      cases h2 : putNew s pl i (off + 1) l with
      | none => rw [h2] at h; cases h
      | some q =>
        obtain ⟨ys, r2, u2⟩ := q
        rw [h2] at h
        cases u with
        | nil =>
          simp only [Option.some.injEq, Prod.mk.injEq] at h
          obtain ⟨rfl, rfl, rfl⟩ := h
          rw [absorb1_ag h1 hA.l, putNew_ag h2 hA.r]
        | cons u0 u =>
          simp only [Option.some.injEq, Prod.mk.injEq] at h
          obtain ⟨rfl, rfl, rfl⟩ := h
          rw [absorb1_ag h1 hA.l, putNew_ag h2 hA.r]
theorem putEl_ag {pl : Pl} {i : Nat} {e x : AV} {rs : List Rd} {us : List Up} (h : putEl s pl i e = some (x, rs, us)) (hA : Ag s s' rs) : putEl s' pl i e = some (x, rs, us) := by
  unfold putEl at h ⊢
  cases e with
  | agg cs =>
    simp only at h ⊢
    cases h2 : putNew s pl i 0 cs with
    | none => rw [h2] at h; cases h
    | some q =>
      obtain ⟨ys, r2, u2⟩ := q
      rw [h2] at h
      simp only [Option.some.injEq, Prod.mk.injEq] at h
      obtain ⟨rfl, rfl, rfl⟩ := h
      rw [putNew_ag h2 hA]
  | _ =>
    simp only at h ⊢
    split at h
    · rename_i b r u h2
      simp only [Option.some.injEq, Prod.mk.injEq] at h
      obtain ⟨rfl, rfl, rfl⟩ := h
      rw [putNew_ag h2 hA]
    · cases h
theorem putEls_ag {pl : Pl} : ∀ {l : List AV} {i : Nat} {x : List AV} {rs : List Rd} {us : List Up}, putEls s pl i l = some (x, rs, us) → Ag s s' rs → putEls s' pl i l = some (x, rs, us)
  | [], off, x, rs, us, h, hA => h
  | a :: l, i, x, rs, us, h, hA => by
    simp only [putEls] at h ⊢
    cases h1 : putEl s pl i a with
    | none => rw [h1] at h; cases h
    | some p =>
      obtain ⟨y, r, u⟩ := p
      rw [h1] at h
      simp only at h
      cases h2 : putEls s pl (i + 1) l with
      | none => rw [h2] at h; cases h
      | some q =>
        obtain ⟨ys, r2, u2⟩ := q
        rw [h2] at h
        simp only [Option.some.injEq, Prod.mk.injEq] at h
        obtain ⟨rfl, rfl, rfl⟩ := h
        rw [putEl_ag h1 hA.l, putEls_ag h2 hA.r]
theorem tail1_ag {a x : AV} {dst : Pl} {rs : List Rd} {us : List Up} (h : (match absorb1 s a with | some (x, r, us) => some (x, r, us ++ [Up.set dst x]) | none => none) = some (x, rs, us)) (hA : Ag s s' rs) :
    (match absorb1 s' a with | some (x, r, us) => some (x, r, us ++ [Up.set dst x]) | none => none) = some (x, rs, us) := by
  cases h1 : absorb1 s a with
  | none => rw [h1] at h; cases h
  | some p =>
    obtain ⟨y, r, u⟩ := p
    rw [h1] at h
    simp only [Option.some.injEq, Prod.mk.injEq] at h
    obtain ⟨rfl, rfl, rfl⟩ := h
    rw [absorb1_ag h1 hA]
theorem putSt1_ag {keep : Nat} {dst : Pl} {a x : AV} {rs : List Rd} {us : List Up} (h : putSt1 s keep dst a = some (x, rs, us)) (hA : Ag s s' rs) : putSt1 s' keep dst a = some (x, rs, us) := by
  cases a with
  | rf sz pl off len =>
    simp only [putSt1] at h ⊢
    rw [hA.al]
    split at h
    · rename_i hc; rw [if_pos hc]; exact h
    · rename_i hc
      rw [if_neg hc]
      split at h
      · rename_i hb
        rw [if_pos hb]
        cases hu : useOk s pl with
        | false => rw [hu] at h; cases h
        | true =>
          rw [hu] at h
          simp only [cond_true, Option.some.injEq, Prod.mk.injEq] at h
          obtain ⟨rfl, rfl, rfl⟩ := h
          rw [use_ag hA.hd hu]; rfl
      · rename_i hb
        rw [if_neg hb]
        split at h
        · rename_i hq
          rw [if_pos hq]
          split at h
          · rename_i sz' es hl
            split at h
            · rename_i hz
              simp only [Option.some.injEq, Prod.mk.injEq] at h
              obtain ⟨rfl, rfl, rfl⟩ := h
              rw [look_ag hA.hd hl]
              simp only; rw [if_pos hz]
            · cases h
          · cases h
        · rename_i hq
          rw [if_neg hq]
          exact tail1_ag h hA
  | ptr pl i off =>
    simp only [putSt1] at h ⊢
    rw [hA.al]
    split at h
    · rename_i hb
      rw [if_pos hb]
      cases hu : useOk s pl with
      | false => rw [hu] at h; cases h
      | true =>
        rw [hu] at h
        simp only [cond_true, Option.some.injEq, Prod.mk.injEq] at h
        obtain ⟨rfl, rfl, rfl⟩ := h
        rw [use_ag hA.hd hu]; rfl
    · rename_i hb
      rw [if_neg hb]
      exact tail1_ag h hA
  | int k n => simp only [putSt1] at h ⊢; exact tail1_ag (s := s) (s' := s') (a := .int k n) (dst := dst) h hA
  | bool b => simp only [putSt1] at h ⊢; exact tail1_ag (s := s) (s' := s') (a := .bool b) (dst := dst) h hA
  | str b => simp only [putSt1] at h ⊢; exact tail1_ag (s := s) (s' := s') (a := .str b) (dst := dst) h hA
  | nilp => simp only [putSt1] at h ⊢; exact tail1_ag (s := s) (s' := s') (a := .nilp) (dst := dst) h hA
  | un => simp only [putSt1] at h ⊢; exact tail1_ag (s := s) (s' := s') (a := .un) (dst := dst) h hA
  | fz l z es => simp only [putSt1] at h ⊢; exact tail1_ag (s := s) (s' := s') (a := .fz l z es) (dst := dst) h hA
  | ow z es => simp only [putSt1] at h ⊢; exact tail1_ag (s := s) (s' := s') (a := .ow z es) (dst := dst) h hA
  | fp l e o => simp only [putSt1] at h ⊢; exact tail1_ag (s := s) (s' := s') (a := .fp l e o) (dst := dst) h hA
  | bx e => simp only [putSt1] at h ⊢; exact tail1_ag (s := s) (s' := s') (a := .bx e) (dst := dst) h hA
  | mp ks vs => simp only [putSt1] at h ⊢; exact tail1_ag (s := s) (s' := s') (a := .mp ks vs) (dst := dst) h hA
  | agg cs => simp only [putSt1] at h ⊢; exact tail1_ag (s := s) (s' := s') (a := .agg cs) (dst := dst) h hA
  | tup cs => simp only [putSt1] at h ⊢; exact tail1_ag (s := s) (s' := s') (a := .tup cs) (dst := dst) h hA
  | mrf r => simp only [putSt1] at h ⊢; exact tail1_ag (s := s) (s' := s') (a := .mrf r) (dst := dst) h hA
  | lk r l => simp only [putSt1] at h ⊢; exact tail1_ag (s := s) (s' := s') (a := .lk r l) (dst := dst) h hA
theorem putSt_ag {keep : Nat} {pl : Pl} {i : Nat} : ∀ {l : List AV} {off : Nat} {rs : List Rd} {us : List Up}, putSt s keep pl i off l = some (rs, us) → Ag s s' rs → putSt s' keep pl i off l = some (rs, us)
  | [], off, rs, us, h, hA => h
  | a :: l, off, rs, us, h, hA => by
    simp only [putSt] at h ⊢
    cases h1 : putSt1 s keep (pl.cell i off) a with
    | none => rw [h1] at h; cases h
    | some p =>
      obtain ⟨y, r, u⟩ := p
      rw [h1] at h
      simp only at h
      cases h2 : putSt s keep pl i (off + 1) l with
      | none => rw [h2] at h; cases h
      | some q =>
        obtain ⟨r2, u2⟩ := q
        rw [h2] at h
        simp only [Option.some.injEq, Prod.mk.injEq] at h
        obtain ⟨rfl, rfl⟩ := h
        rw [putSt1_ag h1 hA.l, putSt_ag h2 hA.r]
theorem ldCells_ag {pl : Pl} {i : Nat} : ∀ {n off : Nat} {cs : List AV}, ldCells s pl i off n = some cs → Ag s s' (rdCells pl i off n) → ldCells s' pl i off n = some cs
  | 0, off, cs, h, hA => h
  | n + 1, off, cs, h, hA => by
    simp only [ldCells, rdCells] at h ⊢ hA
    cases h1 : look s false (pl.cell i off) with
    | none => rw [h1] at h; cases h
    | some c =>
      rw [h1] at h
      simp only at h
      cases h2 : ldCells s pl i (off + 1) n with
      | none => rw [h2] at h; cases h
      | some r =>
        rw [h2] at h
        obtain ⟨c', e1, e2⟩ := look_hd hA.hd h1
        rw [e1, ldCells_ag h2 hA.tl]
        simp only [hd_view e2]; exact h
theorem lookL_ag : ∀ {ps : List Pl} {cs : List AV}, lookL s ps = some cs → Ag s s' (ps.map fun p => ⟨p, true⟩) → lookL s' ps = some cs
  | [], cs, h, hA => h
  | p :: ps, cs, h, hA => by
    simp only [lookL] at h ⊢
    simp only [List.map_cons] at hA
    cases h1 : look s true p with
    | none => rw [h1] at h; cases h
    | some c =>
      rw [h1] at h
      simp only at h
      cases h2 : lookL s ps with
      | none => rw [h2] at h; cases h
      | some r =>
        rw [h2] at h
        rw [look_ag hA.hd h1, lookL_ag h2 hA.tl]
        exact h
theorem expV1_ag {a : AV} {x : Ex} (h : expV1 s a = some x) (hA : Ag s s' x.rd) : expV1 s' a = some x := by
  cases a with
  | rf sz pl off len =>
    simp only [expV1] at h ⊢
    split at h
    · rename_i sz' es hl
      split at h
      · rename_i hz
        simp only [Option.some.injEq] at h
        subst h
        rw [look_ag hA.hd hl]
        simp only; rw [if_pos hz]
      · cases h
    · cases h
  | ptr pl i off =>
    simp only [expV1] at h ⊢
    split at h
    · rename_i sz es hl
      split at h
      · rename_i e he
        simp only [Option.some.injEq] at h
        subst h
        rw [look_ag hA.hd hl]
        simp only [he]
      · cases h
    · rename_i e hl
      split at h
      · rename_i hz
        simp only [Option.some.injEq] at h
        subst h
        rw [look_ag hA.hd hl]
        simp only; rw [if_pos hz]
      · cases h
    · cases h
  | _ => exact h
theorem expVL_ag : ∀ {l : List AV} {xs : List AV} {rs : List Rd} {b : Bool}, expVL s l = some (xs, rs, b) → Ag s s' rs → expVL s' l = some (xs, rs, b)
  | [], xs, rs, b, h, hA => h
  | a :: l, xs, rs, b, h, hA => by
    simp only [expVL] at h ⊢
    cases h1 : expV1 s a with
    | none => rw [h1] at h; cases h
    | some x =>
      rw [h1] at h
      simp only at h
      cases h2 : expVL s l with
      | none => rw [h2] at h; cases h
      | some q =>
        obtain ⟨ys, r2, b2⟩ := q
        rw [h2] at h
        simp only [Option.some.injEq, Prod.mk.injEq] at h
        obtain ⟨rfl, rfl, rfl⟩ := h
        rw [expV1_ag h1 hA.l, expVL_ag h2 hA.r]
theorem expArg_ag {ty : Nat} {m : Md} {a : AV} {x : Ex} (h : expArg cx s ty m a = some x) (hA : Ag s s' x.rd) : expArg cx s' ty m a = some x := by
  cases m with
  | view =>
    cases a with
    | agg cs =>
      simp only [expArg] at h ⊢
      cases h2 : expVL s cs with
      | none => rw [h2] at h; cases h
      | some q =>
        obtain ⟨ys, r2, b2⟩ := q
        rw [h2] at h
        simp only [Option.some.injEq] at h
        subst h
        rw [expVL_ag h2 hA]
    | _ => simp only [expArg] at h ⊢; exact expV1_ag h hA
  | move =>
    simp only [expArg] at h ⊢
    cases h2 : absorbE s a with
    | none => rw [h2] at h; cases h
    | some q =>
      obtain ⟨ys, r2, b2⟩ := q
      rw [h2] at h
      simp only [Option.some.injEq] at h
      subst h
      rw [absorbE_ag h2 hA]
  | give =>
    simp only [expArg] at h ⊢
    cases h2 : absorbE s a with
    | none => rw [h2] at h; cases h
    | some q =>
      obtain ⟨ys, r2, b2⟩ := q
      rw [h2] at h
      simp only [Option.some.injEq] at h
      subst h
      rw [absorbE_ag h2 hA]
  | io =>
    cases a with
    | ptr pl i off =>
      simp only [expArg] at h ⊢
      split at h
      · rename_i e hk
        split at h
        · cases h
        · rename_i ti ht
          split at h
          · rename_i cs hl
            split at h
            · cases h
            · rename_i hne
              split at h
              · rename_i v hv
                simp only [Option.some.injEq] at h
                subst h
                rw [lookL_ag hl hA]
                simp only [hv]
                rw [if_neg hne]
              · cases h
          · cases h
      · cases h
    | rf sz pl off len =>
      simp only [expArg] at h ⊢
      split at h
      · rename_i sz' es hl
        split at h
        · rename_i hz
          simp only [Option.some.injEq] at h
          subst h
          rw [look_ag hA.hd hl]
          simp only; rw [if_pos hz]
        · cases h
      · cases h
    | fz l z es => match l, h with | 1, h => exact h | 0, h => exact h | l + 2, h => exact h
    | _ => exact h
theorem expArgs_ag : ∀ {tys : List Nat} {ms : List Md} {l : List AV} {x : Exs}, expArgs cx s tys ms l = some x → Ag s s' x.rd → expArgs cx s' tys ms l = some x
  | [], [], [], x, h, hA => h
  | [], [], _ :: _, x, h, hA => by simp [expArgs, oops] at h
  | [], _ :: _, [], x, h, hA => h
  | [], _ :: _, _ :: _, x, h, hA => by simp [expArgs, oops] at h
  | _ :: _, [], [], x, h, hA => h
  | _ :: _, [], _ :: _, x, h, hA => by simp [expArgs, oops] at h
  | _ :: _, _ :: _, [], x, h, hA => h
  | ty :: tys, m :: ms, a :: l, x, h, hA => by
    simp only [expArgs] at h ⊢
    cases h1 : expArg cx s ty m a with
    | none => rw [h1] at h; cases h
    | some y =>
      rw [h1] at h
      simp only at h
      cases h2 : expArgs cx s tys ms l with
      | none => rw [h2] at h; cases h
      | some r =>
        rw [h2] at h
        simp only at h
        split at h
        · cases h
        · rename_i hc
          simp only [Option.some.injEq] at h
          subst h
          rw [expArg_ag h1 hA.l, expArgs_ag h2 hA.r]
          simp only; rw [if_neg hc]
theorem elems_ag {sz : Nat} {x : AV} {l : List AV} {rs : List Rd} {us : List Up} (h : elems s sz x = some (l, rs, us)) (hA : Ag s s' rs) : elems s' sz x = some (l, rs, us) := by
  cases x with
  | rf sz' pl off len =>
    simp only [elems] at h ⊢
    split at h
    · rename_i sz'' es hl
      split at h
      · rename_i hz
        have hr : ⟨pl, true⟩ ∈ rs := by
          split at h
          · simp only [Option.some.injEq, Prod.mk.injEq] at h; rw [← h.2.1]; exact List.mem_cons_self
          · simp only [Option.some.injEq, Prod.mk.injEq] at h; rw [← h.2.1]; exact List.mem_cons_self
        rw [look_ag (hA.rd _ hr) hl]
        simp only; rw [if_pos hz]; exact h
      · cases h
    · cases h
  | _ => exact h
end Go.Am
end
