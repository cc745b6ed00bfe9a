/- The texts Pull18, Pull19, Pull20, AmOpen, AmCall, Pull21 of this proof. -/
import Derived.Carry
import Derived.ChangeArms
import Derived.ChangeShapes
import Derived.Test.YtbbdljhpjomclaaM4
section
namespace Go.Am.Pull
open Go Go.Proofs Go.Am
set_option maxRecDepth 100000
set_option maxHeartbeats 4000000
/-- how many shifts -/
def sh (l : List Move) : Nat := l.countP fun m => m.act == 1
theorem sh_snoc {l : List Move} {m : Move} : sh (l ++ [m]) = sh l + if m.act = 1 then 1 else 0 := by
  unfold sh
  rw [List.countP_append]
  by_cases h : m.act = 1 <;> simp [h]
/-- an accepting move has no number -/
def NoNum (t : Table) : Prop := ∀ r ∈ t.moves.l, ∀ m ∈ r.l, m.act = 3 → m.n = 0
theorem one_count {nd : Bool → Int → List AV → AV} {g : Plain} {t : Table} (hok : Ok g t) (hN : NoNum t) {p q : PS} {k dn e : Int} {d : AV} (hk0 : 0 ≤ k) (hk : k < g.kinds.l.length) (hp : p.Fine t) (h : oneS nd g t k d p = (dn, e, q)) :
    sh q.tr = sh p.tr + (if dn = 1 then 1 else 0) ∧ q.tr.length ≤ p.tr.length + 1 ∧ (dn = 2 → ∃ l, q.tr = l ++ [⟨3, 0⟩]) := by
  obtain ⟨r, hr, hm⟩ := lkM_ok hok (hp.ok _ (last_mem hp)) hk0 hk
  have hn := hN r hr _ hm
  unfold oneS at h
  simp only at h
  split at h
  · cases h; exact ⟨by simp, by omega, fun h => by cases h⟩
  · split at h
    · rename_i h0
      cases h
      exact ⟨by simp [sh_snoc, h0], by simp, fun h => by cases h⟩
    · split at h
      · rename_i h3
        split at h
        · cases h
          refine ⟨by simp [sh_snoc, h3], by simp, fun _ => ⟨p.tr, ?_⟩⟩
          have h4 := hn h3
          obtain ⟨ma, mn⟩ : ∃ a b, lkM t p.last k = ⟨a, b⟩ := ⟨_, _, rfl⟩
          generalize hz : lkM t p.last k = z at h3 h4
          cases z; simp only at h3 h4; subst h3; subst h4; rfl
        · cases h; exact ⟨by simp, by omega, fun h => by cases h⟩
      · split at h
        · rename_i h2
          split at h
          · cases h; exact ⟨by simp, by omega, fun h => by cases h⟩
          · rename_i q' hq
            cases h
            have := (redS_keeps hq).1
            exact ⟨by rw [sh_snoc, this, h2]; rfl, by simp [this], fun h => by cases h⟩
        · cases h
          refine ⟨?_, by simp, fun h => ?_⟩
          · rw [sh_snoc]
            split <;> simp
          · split at h <;> cases h
theorem take_count {nd : Bool → Int → List AV → AV} (hnd : ∀ b n l, l.all isTree = true → isTree (nd b n l) = true) {g : Plain} {t : Table} (hok : Ok g t) (hN : NoNum t) {k : Int} {d : AV} (hd : isTree d = true) (hk0 : 0 ≤ k) (hk : k < g.kinds.l.length) : ∀ {f : Nat} {p q : PS} {dn e : Int}, p.Fine t → p.fuel ≤ f → takeS nd g t k d f p = (dn, e, q) →
    sh q.tr = sh p.tr + (if dn = 1 then 1 else 0) ∧ q.tr.length ≤ 65538 ∧ (dn = 2 → ∃ l, q.tr = l ++ [⟨3, 0⟩]) ∧ (e ≠ 0 → dn = 0)
  | 0, p, q, dn, e, hp, hf, h => by have := hp.n; unfold PS.fuel at hf; omega
  | f + 1, p, q, dn, e, hp, hf, h => by
    obtain ⟨a, b, q', ho⟩ : ∃ a b c, oneS nd g t k d p = (a, b, c) := ⟨_, _, _, rfl⟩
    have h1 := one_fine hnd hok hd hk0 hk hp ho
    obtain ⟨c1, c2, c3⟩ := one_count hok hN hk0 hk hp ho
    have hlen := hp.tr
    have hnn := hp.n
    rw [takeS] at h
    simp only [ho] at h
    split at h
    · cases h
      refine ⟨c1, by omega, c3, fun he => ?_⟩
      rcases h1 with ⟨ha, _⟩ | ⟨_, hb, _⟩ | ⟨_, hb, _⟩ | ⟨ha, _⟩
      · exact ha
      · exact absurd hb he
      · exact absurd hb he
      · exact ha
    · rename_i hc
      rcases h1 with ⟨ha, hb, hq, hn, hlt⟩ | ⟨ha, hb, hq⟩ | ⟨ha, hb, hq⟩ | ⟨ha, hb⟩
      · subst ha
        obtain ⟨d1, d2, d3⟩ := take_count hnd hok hN hd hk0 hk hq (by unfold PS.fuel at hf ⊢; omega) h
        exact ⟨by rw [d1, c1]; simp, d2, d3⟩
      · subst ha; simp at hc
      · subst ha; simp at hc
      · subst ha; simp at hc; exact absurd hc hb
/-- the kind at a place -/
def kd (row : List Int) (i : Int) : Int := if i < row.length then row.getD i.toNat default else 0
theorem run_ahead {g : Plain} {t : Table} (hok : Ok g t) (hN : NoNum t) {row : List Int} (hrow : ∀ k ∈ row, 1 ≤ k ∧ k < g.kinds.l.length) : ∀ {n : Nat} {i : Int} {p q : PS} {w ix : Int} {tr : AV}, p.Fine t → 0 ≤ i → i + n = row.length + 1 → runS ndP g t row n i p = (q, w, ix, tr) →
    q.tr.length ≤ 65538 ∧ (w = 0 → (sh q.tr : Int) = sh p.tr + (row.length - i) + (if n = 0 then 1 else 0) ∧ (0 < n → ∃ l, q.tr = l ++ [⟨3, 0⟩])) ∧
    (w ≠ 0 → i ≤ ix ∧ ix ≤ row.length ∧ (sh q.tr : Int) = sh p.tr + (ix - i) ∧ tr = zT ∧
      ∀ (row2 : List Int) (n2 : Nat), (∀ j, 0 ≤ j → j ≤ ix → kd row2 j = kd row j) → ix - i < n2 → ∃ q2, runS ndP g t row2 n2 i p = (q2, w, ix, zT))
  | 0, i, p, q, w, ix, tr, hp, hi, hin, h => by
    cases h
    have := hp.tr; have := hp.n
    exact ⟨by omega, fun _ => ⟨by simp; omega, fun h => absurd h (Nat.lt_irrefl _)⟩, fun h => absurd rfl h⟩
  | n + 1, i, p, q, w, ix, tr, hp, hi, hin, h => by
    have hkp := hok.kpos
    have hk : 0 ≤ kd row i ∧ kd row i < g.kinds.l.length ∧ (i < row.length → kd row i ≠ 0) ∧ (¬ i < row.length → kd row i = 0) := by
      unfold kd
      by_cases hlt : i < row.length
      · rw [if_pos hlt]
        have := hrow _ (getD_mem (l := row) (n := i) (d := default) rfl hi hlt)
        exact ⟨by omega, by omega, fun _ => by omega, fun h => absurd hlt h⟩
      · rw [if_neg hlt]; exact ⟨by omega, by omega, fun h => absurd h hlt, fun _ => rfl⟩
    obtain ⟨hk0, hk1, hk2, hk3⟩ := hk
    obtain ⟨a, b, q', ho⟩ : ∃ a b c, takeS ndP g t (kd row i) (lf i) p.fuel p = (a, b, c) := ⟨_, _, _, rfl⟩
    obtain ⟨c1, c2, c3, c4⟩ := take_count ndP_tree hok hN (d := lf i) rfl hk0 hk1 hp (Nat.le_refl _) ho
    have h1 := (take_fine ndP_tree hok (d := lf i) rfl hk0 hk1 hp (Nat.le_refl _) ho).2
    rw [runS] at h
    simp only [show (if i < row.length then row.getD i.toNat default else 0) = kd row i from rfl, ho] at h
    by_cases hb : b = 0
    · rw [if_pos hb] at h
      subst hb
      rcases h1 with ⟨ha, _, hk', hq⟩ | ⟨ha, _, hk', _⟩ | hbad
      · subst ha
        have hlt : i < row.length := Decidable.byContradiction fun hn => hk' (hk3 hn)
        obtain ⟨r1, r2, r3⟩ := run_ahead hok hN hrow (n := n) (i := i + 1) hq (by omega) (by omega) h
        have hn0 : ¬ n = 0 := by omega
        refine ⟨r1, fun hw => ?_, fun hw => ?_⟩
        · obtain ⟨s1, s2⟩ := r2 hw
          rw [if_neg hn0] at s1
          exact ⟨by rw [if_neg (Nat.succ_ne_zero n)]; rw [s1, c1]; simp; omega, fun _ => s2 (by omega)⟩
        · obtain ⟨s1, s2, s3, s4, s5⟩ := r3 hw
          refine ⟨by omega, s2, by rw [s3, c1]; simp; omega, s4, fun row2 n2 hag hn2 => ?_⟩
          obtain ⟨m2, rfl⟩ : ∃ m, n2 = m + 1 := ⟨n2 - 1, by omega⟩
          obtain ⟨q2, hq2⟩ := s5 row2 m2 hag (by omega)
          refine ⟨q2, ?_⟩
          rw [runS]
          simp only [show (if i < row2.length then row2.getD i.toNat default else 0) = kd row2 i from rfl, hag i hi (by omega), ho]
          exact hq2
      · subst ha
        have hlt : ¬ i < row.length := fun hn => hk2 hn hk'
        have hn0 : n = 0 := by omega
        subst hn0
        cases h
        refine ⟨c2, fun _ => ⟨by rw [c1]; simp; omega, fun _ => c3 rfl⟩, fun h => absurd rfl h⟩
      · exact absurd rfl hbad
    · rw [if_neg hb] at h
      cases h
      have ha1 : ¬ a = 1 := by rw [c4 hb]; decide
      refine ⟨c2, fun h => absurd h hb, fun _ => ⟨Int.le_refl _, by omega, by rw [c1, if_neg ha1]; simp, rfl, fun row2 n2 hag hn2 => ?_⟩⟩
      obtain ⟨m2, rfl⟩ : ∃ m, n2 = m + 1 := ⟨n2 - 1, by omega⟩
      refine ⟨q, ?_⟩
      rw [runS]
      simp only [show (if i < row2.length then row2.getD i.toNat default else 0) = kd row2 i from rfl, hag i hi (Int.le_refl _), ho]
      rw [if_neg hb]
theorem rulesL_true : ∀ {l kl : List ByteArray} {b : Bool}, rulesL kl b l = true → b = true
  | [], kl, b, h => h
  | r :: l, kl, b, h => by
    rw [rulesL] at h
    have := rulesL_true h
    simp only [Bool.and_eq_true] at this
    exact this.1.1.1
theorem kinds_two {ks : Sl ByteArray} (h : kindsS ks = 0) : 2 ≤ ks.l.length := by
  unfold kindsS at h
  split at h
  · cases h
  · rename_i hc
    simp at hc
    omega
theorem gcheck_ok {g : Plain} (h : gcheckS g = 0) : 2 ≤ g.kinds.l.length ∧ ∀ x ∈ g.prods.l, 0 ≤ x.left ∧ x.left < g.rules.l.length := by
  unfold gcheckS at h
  split at h
  · rename_i hg
    unfold gOk at hg
    rw [Bool.and_eq_true] at hg
    obtain ⟨h3, h4⟩ := hg
    have h2 := rulesL_true h3
    unfold gOk2 at h2
    simp only [Bool.and_eq_true] at h2
    have h1 := h2.1.1.1.1.1
    unfold gOk1 at h1
    rw [Bool.and_eq_true] at h1
    have h0 := h1.1
    unfold gOk0 at h0
    rw [Bool.and_eq_true] at h0
    refine ⟨kinds_two (by simpa using h0.1), fun x hx => ?_⟩
    have := List.all_eq_true.1 h4 x hx
    unfold prodS at this
    simp only [Bool.and_eq_true, Bool.not_eq_true', Bool.or_eq_false_iff, decide_eq_false_iff_not] at this
    omega
  · cases h
theorem ok_of {g : Plain} {t : Table} (hty : Ty g t) (h : checkS g t (gcheckS g) = 0) : Ok g t ∧ NoNum t := by
  unfold checkS at h
  split at h
  · contradiction
  rename_i he
  have he : gcheckS g = 0 := by simpa using he
  obtain ⟨hk, hl⟩ := gcheck_ok he
  split at h
  · cases h
  rename_i hc
  split at h
  rotate_left
  · cases h
  rename_i hr
  simp at hc
  obtain ⟨⟨p1, p2⟩, p3⟩ := hc
  have hlen : t.goto.l.length = t.moves.l.length := by omega
  have hrow : ∀ i, i < t.moves.l.length → rowOkS g t.moves.l.length (t.moves.l.getD i default) (t.goto.l.getD i default) = true := fun i hi => List.all_eq_true.1 hr i (List.mem_range.2 hi)
  have hrow' : ∀ i, i < t.moves.l.length → (t.moves.l.getD i default).l.length = g.kinds.l.length ∧ (t.goto.l.getD i default).l.length = g.rules.l.length ∧ (∀ k, k < (t.moves.l.getD i default).l.length → moveS g.prods.l.length ((t.moves.l.getD i default).l.getD k default) t.moves.l.length k = true) ∧ ∀ x ∈ (t.goto.l.getD i default).l, -1 ≤ x ∧ x < t.moves.l.length := by
    intro i hi
    have := hrow i hi
    unfold rowOkS at this
    rw [Bool.and_eq_true, Bool.and_eq_true] at this
    obtain ⟨a1, a2, a3⟩ := this
    simp only [Bool.not_eq_true', Bool.or_eq_false_iff, Bool.not_eq_false', beq_iff_eq] at a1
    refine ⟨by omega, by omega, fun k hk => List.all_eq_true.1 a2 k (List.mem_range.2 hk), fun x hx => ?_⟩
    have := List.all_eq_true.1 a3 x hx
    unfold goS at this
    simp at this
    omega
  have hmem : ∀ r ∈ t.moves.l, ∃ i, i < t.moves.l.length ∧ t.moves.l.getD i default = r := fun r hr => by
    obtain ⟨i, hi, rfl⟩ := List.getElem_of_mem hr
    exact ⟨i, hi, by simp [List.getD, hi]⟩
  have hmem2 : ∀ r ∈ t.goto.l, ∃ i, i < t.moves.l.length ∧ t.goto.l.getD i default = r := fun r hr => by
    obtain ⟨i, hi, rfl⟩ := List.getElem_of_mem hr
    exact ⟨i, by omega, by simp [List.getD, hi]⟩
  have hmv : ∀ r ∈ t.moves.l, ∀ (k : Nat) m, r.l[k]? = some m → moveS g.prods.l.length m t.moves.l.length k = true := by
    intro r hr k m hm
    obtain ⟨i, hi, rfl⟩ := hmem r hr
    have hk' := (List.getElem?_eq_some_iff.1 hm).1
    have := (hrow' i hi).2.2.1 k hk'
    rwa [show (t.moves.l.getD i default).l.getD k default = m by rw [List.getD, hm]; rfl] at this
  obtain ⟨s1, s2, s3, s4, s5, s6⟩ := hty.small
  refine ⟨⟨hty.prods, hty.right, hl, hty.moves, hty.goto, hlen, by omega, by omega, fun r hr => ?_, fun r hr => ?_, fun r hr m hm => ?_, fun r hr k m hm => ?_, fun r hr n hn => ?_, ⟨s1, s2, s3, s4, s6⟩⟩, fun r hr m hm h3 => ?_⟩
  · obtain ⟨i, hi, rfl⟩ := hmem r hr
    exact ⟨hty.row _ hr, (hrow' i hi).1⟩
  · obtain ⟨i, hi, rfl⟩ := hmem2 r hr
    exact ⟨hty.grow _ hr, (hrow' i hi).2.1⟩
  · obtain ⟨k, hk', rfl⟩ := List.getElem_of_mem hm
    have := hmv r hr k _ (List.getElem?_eq_getElem hk')
    unfold moveS at this
    split at this
    · exact .inl (.inl (by assumption))
    · split at this
      · refine .inl (.inr ⟨by assumption, ?_⟩)
        simp at this; omega
      · split at this
        · refine .inr (.inl ⟨by assumption, ?_⟩)
          simp at this; omega
        · split at this
          · exact .inr (.inr (by assumption))
          · cases this
  · have := hmv r hr k m hm
    unfold moveS at this
    split at this
    · exact ⟨fun h => by omega, fun h => by omega⟩
    · split at this
      · simp at this
        exact ⟨fun _ => by omega, fun h => by omega⟩
      · split at this
        · exact ⟨fun h => by omega, fun h => by omega⟩
        · split at this
          · simp at this
            exact ⟨fun h => by omega, fun _ => by omega⟩
          · cases this
  · obtain ⟨i, hi, rfl⟩ := hmem2 r hr
    exact (hrow' i hi).2.2.2 n hn
  · obtain ⟨k, hk', hkm⟩ := List.getElem_of_mem hm
    have := hmv r hr k m (by rw [List.getElem?_eq_getElem hk', hkm])
    unfold moveS at this
    rw [if_neg (by omega), if_neg (by omega), if_neg (by omega), if_pos h3] at this
    simp at this
    exact this.1
theorem rowOk_of {g : Plain} {t : Table} {row : Sl Int} (hok : Ok g t) (hr : row.ok 1) (hl : row.l.length < 2 ^ 40) (h : rowS g.kinds.l.length row.l = 0) : RowOk g t row := by
  unfold rowS at h
  split at h
  · cases h
  · split at h
    · cases h
    · rename_i hb
      refine ⟨hok, hr, hl, fun k hk => ?_⟩
      have := List.any_eq_false.1 (by simpa using hb) k hk
      unfold badK at this
      simp at this
      omega
end Go.Am.Pull
end
section
namespace Go.Am.Pull
open Go Go.Proofs Go.Am
set_option maxRecDepth 100000
set_option maxHeartbeats 4000000
variable {O : List Ent}
noncomputable def fn31 : FnS := (mkA Try.f31 ⟨35186586681407, [0, 0], false, []⟩).getD ⟨.skip, 0, [], [], 0, [], false, []⟩
theorem F31 : cx.F 31 = some fn31 := by kernel_rfl   -- quoin/quoinref18.SameTree
noncomputable def fn15 : FnS := (mkA Try.f15 ⟨127, [], false, []⟩).getD ⟨.skip, 0, [], [], 0, [], false, []⟩
theorem F15 : cx.F 15 = some fn15 := by kernel_rfl   -- quoin/quoinlaw18.awake
theorem elems_fz {s : St} {lab sz sz' : Nat} {es : List AV} (h : es = [] ∨ sz' = sz) : elems s sz (.fz lab sz' es) = some (es, [], []) := by
 rw [elems, if_pos (h.symm)]
theorem op_app0r {cx : Cx} {keep : Nat} {call : CallF} {t h : Hp} {d : List Up} {al : Bool} {o : Oper} {c : Call} {a x : Operand} {ty xt e : Nat} {xk : TyK} {ei : TyI} {dd sz off len : Nat} {pl : Pl} {rs : List Rd} (h0 : o.op = .call c) (h1 : c.callee = .builtin .append) (ha : c.args.toList = [a, x]) (hy : c.argTypes.toList = [ty, xt]) (hd : o.dst = some dd) (hk : cx.kind ty = some (.slice e)) (hk2 : cx.kind xt = some xk) (hni : (match xk with | .int _ => false | _ => true) = true) (hT : cx.T e = some ei)
  (hva : ev ⟨t, h, d, al⟩ a = .rf sz pl off len) (hel : elems ⟨t, h, d, al⟩ ei.size (ev ⟨t, h, d, al⟩ x) = some ([], rs, [])) (hu : useOk ⟨t, h, d, al⟩ pl = true) :
  opX cx call keep ⟨t, h, d, al⟩ o = some { val := .rf sz pl off len, rd := ⟨pl, false⟩ :: rs, up := [] } := by
 have e1 : oAppend cx ⟨t, h, d, al⟩ (some dd) [ty, xt] [.rf sz pl off len, ev ⟨t, h, d, al⟩ x] = oApp1 ⟨t, h, d, al⟩ dd ei.size ei.bytes (.rf sz pl off len) [] rs [] := by
  simp only [oAppend, hk, hk2]
  cases xk <;> first | (simp at hni; done) | simp only [hT, hel]
 simp only [opX, h0, oCall, h1, oBuiltin, ha, hy, hd, List.map_cons, List.map_nil, hva, e1, oApp1, hu, List.isEmpty_nil, Bool.and_self, cond_true]
/-- what stands in a parse's outcome -/
abbrev oA (w i p k : Int) (l z : Nat) (ks : List AV) : AV := .agg [vi w, vi i, vi p, vi k, .fz l z ks]
noncomputable def fn13 : FnS := (mkA Try.f13 ⟨31, [0, 0], false, []⟩).getD ⟨.skip, 0, [], [], 0, [], false, []⟩
theorem F13 : cx.F 13 = some fn13 := by kernel_rfl   -- quoin/quoinref18.Same
theorem same_q (hO : ∀ e ∈ O, e.f ≠ 13) {w i p k w' i' p' k' : Int} {l z l' z' : Nat} {ks ks' : List AV} {b : Bool} (h31 : Ans cx O 31 [.agg [vi p, vi k, .fz l z ks], .agg [vi p', vi k', .fz l' z' ks']] (.bool b, [])) : Ans cx O 13 [oA w i p k l z ks, oA w' i' p' k' l' z' ks'] (.bool ((w == w' && i == i') && b), []) := by
 refine ans_q [1, 0] (fn := fn13) F13 (orc_none hO) ?_
 show Wq cx O 31 0 [] _ ⟨[(1, (.agg [(vi w'), (vi i'), (vi p'), (vi k'), (.fz l' z' ks')])), (0, (.agg [(vi w), (vi i), (vi p), (vi k), (.fz l z ks)]))], [], [], false⟩ _
 apply Wq.seq
 refine Wq.rg [4, 3, 2] ?_
 refine .e (.ptr ⟨2, []⟩ 0 0) [(2, .bx (.agg [(vi w), (vi i), (vi p), (vi k), (.fz l z ks)]))] ?_
 refine .e (.ptr ⟨3, []⟩ 0 0) [(2, .bx (.agg [(vi w), (vi i), (vi p), (vi k), (.fz l z ks)])), (3, .bx (.agg [(vi w'), (vi i'), (vi p'), (vi k'), (.fz l' z' ks')]))] ?_
 refine .p (.bool false) ?_
 refine .done ⟨[(4, (.bool false)), (3, (.ptr ⟨3, []⟩ 0 0)), (2, (.ptr ⟨2, []⟩ 0 0))], [(2, .bx (.agg [(vi w), (vi i), (vi p), (vi k), (.fz l z ks)])), (3, .bx (.agg [(vi w'), (vi i'), (vi p'), (vi k'), (.fz l' z' ks')]))], [], false⟩ ?_
 apply Wq.seq
 refine Wq.jn (fun s => s = ⟨[(4, (.bool (((w == w') && (i == i')) && b)))], [(2, .bx (.agg [(vi w), (vi i), (vi p), (vi k), (.fz l z ks)])), (3, .bx (.agg [(vi w'), (vi i'), (vi p'), (vi k'), (.fz l' z' ks')]))], [], false⟩) ?_ ?_
 ·refine Wq.rg [4] ?_
  refine .r (.ptr ⟨2, []⟩ 0 0) ?_
  refine .r (vi w) ?_
  refine .r (.ptr ⟨3, []⟩ 0 0) ?_
  refine .r (vi w') ?_
  iterate 2 (refine .p (.bool (w == w')) ?_)
  refine Rq.split (dg := 10) rfl (fun h5 => ?_) (fun h5 => ?_) rfl
  ·refine .r (.ptr ⟨2, []⟩ 0 1) ?_
   refine .r (vi i) ?_
   refine .r (.ptr ⟨3, []⟩ 0 1) ?_
   refine .r (vi i') ?_
   refine .p (.bool (i == i')) ?_
   iterate 2 (refine .p (.bool (i == i')) ?_)
   refine Rq.split (dg := 17) rfl (fun h12 => ?_) (fun h12 => ?_) rfl
   ·refine .r (.ptr ⟨2, []⟩ 0 2) ?_
    refine .r (.agg [(vi p), (vi k), (.fz l z ks)]) ?_
    refine .r (.ptr ⟨3, []⟩ 0 2) ?_
    refine .r (.agg [(vi p'), (vi k'), (.fz l' z' ks')]) ?_
    refine .cl F31 rfl rfl h31 (expArgs_cons rfl (expArgs_cons rfl rfl rfl) rfl) rfl rfl rfl (.bool b) [(2, .bx (.agg [(vi w), (vi i), (vi p), (vi k), (.fz l z ks)])), (3, .bx (.agg [(vi w'), (vi i'), (vi p'), (vi k'), (.fz l' z' ks')]))] ?_
    iterate 2 (refine .p (.bool b) ?_)
    refine .done ⟨[(4, (.bool _))], [(2, .bx (.agg [(vi w), (vi i), (vi p), (vi k), (.fz l z ks)])), (3, .bx (.agg [(vi w'), (vi i'), (vi p'), (vi k'), (.fz l' z' ks')]))], [], false⟩ ?_
    show (⟨[(4, (.bool _))], [(2, .bx (.agg [(vi w), (vi i), (vi p), (vi k), (.fz l z ks)])), (3, .bx (.agg [(vi w'), (vi i'), (vi p'), (vi k'), (.fz l' z' ks')]))], [], false⟩ : St) = _
    simp [h5, h12]
   ·iterate 5 (refine .sk ?_)
    iterate 2 (refine .p (.bool false) ?_)
    refine .done ⟨[(4, (.bool _))], [(2, .bx (.agg [(vi w), (vi i), (vi p), (vi k), (.fz l z ks)])), (3, .bx (.agg [(vi w'), (vi i'), (vi p'), (vi k'), (.fz l' z' ks')]))], [], false⟩ ?_
    show (⟨[(4, (.bool _))], [(2, .bx (.agg [(vi w), (vi i), (vi p), (vi k), (.fz l z ks)])), (3, .bx (.agg [(vi w'), (vi i'), (vi p'), (vi k'), (.fz l' z' ks')]))], [], false⟩ : St) = _
    simp [h5, h12]
  ·iterate 5 (refine .sk ?_)
   iterate 2 (refine .p (.bool false) ?_)
   iterate 5 (refine .sk ?_)
   iterate 2 (refine .p (.bool false) ?_)
   refine .done ⟨[(4, (.bool _))], [(2, .bx (.agg [(vi w), (vi i), (vi p), (vi k), (.fz l z ks)])), (3, .bx (.agg [(vi w'), (vi i'), (vi p'), (vi k'), (.fz l' z' ks')]))], [], false⟩ ?_
   show (⟨[(4, (.bool _))], [(2, .bx (.agg [(vi w), (vi i), (vi p), (vi k), (.fz l z ks)])), (3, .bx (.agg [(vi w'), (vi i'), (vi p'), (vi k'), (.fz l' z' ks')]))], [], false⟩ : St) = _
   simp [h5]
 rintro s rfl
 refine Wq.ret ?_
 exact Aq.mk rfl rfl
noncomputable def fn4 : FnS := (mkA Try.f4 ⟨326816170372529483749922176831, [0, 0, 0, 0], false, []⟩).getD ⟨.skip, 0, [], [], 0, [], false, []⟩
theorem F4 : cx.F 4 = some fn4 := by kernel_rfl   -- quoin/quoinlaw18.PullAhead
/-- what the law needs of the parses -/
structure Ahead (O : List Ent) (g : Plain) (t : Table) (row beh : Sl Int) (e22 w22 i22 p22 k22 : Int) (l22 z22 : Nat) (ks22 : List AV) (tr : Sl Move) : Prop where
 parse : Ans cx O 7 [g.av, t.av, row.av vi] (.tup [oA w22 i22 p22 k22 l22 z22 ks22, vi e22], [])
 trace : Ans cx O 9 [g.av, t.av, row.av vi] (.tup [tr.av Move.av, vi e22], [])
 trok : tr.ok 2
 trl : tr.l.length < 2 ^ 40
 good : e22 = 0 → w22 = 0 → (sh tr.l : Int) = row.l.length ∧ ∃ l, tr.l = l ++ [⟨3, 0⟩]
 bad : e22 = 0 → w22 ≠ 0 → 0 ≤ i22 ∧ i22 ≤ row.l.length ∧ (sh tr.l : Int) = i22 ∧ (i22 < row.l.length → ∃ e113 w113 i113 p113 k113 l113 z113 ks113,
  Ans cx O 7 [g.av, t.av, Sl.av vi ⟨2, 1, row.l.take (i22 + 1).toNat ++ beh.l⟩] (.tup [oA w113 i113 p113 k113 l113 z113 ks113, vi e113], []) ∧ noLentL ks113 = true ∧ l113 ≠ 2 ∧
  (e113 = 0 → Ans cx O 13 [oA w113 i113 p113 k113 l113 z113 ks113, oA w22 i22 p22 k22 l22 z22 ks22] (.bool true, [])))
theorem ahead_q (hO : ∀ e ∈ O, e.f ≠ 4) (h15 : Ans cx O 15 [] (.bool true, [])) {g : Plain} {t : Table} {row beh : Sl Int} (hr : row.ok 1) (hb : beh.ok 1) (hrl : row.l.length < 2 ^ 30) (hbl : beh.l.length < 2 ^ 30)
  {e22 w22 i22 p22 k22 : Int} {l22 z22 : Nat} {ks22 : List AV} {tr : Sl Move} (hA : Ahead O g t row beh e22 w22 i22 p22 k22 l22 z22 ks22 tr) : Ans cx O 4 [(Plain.av g), (Table.av t), (Sl.av vi row), (Sl.av vi beh)] (.bool true, []) := by
 have htl := hA.trl
 refine ans_q [3, 2, 1, 0] (fn := fn4) F4 (orc_none hO) ?_
 show Wq cx O 326816170372529483749922176831 0 [] _ ⟨[(3, (Sl.av vi beh)), (2, (Sl.av vi row)), (1, (Table.av t)), (0, (Plain.av g))], [], [], false⟩ _
 apply Wq.seq
 refine Wq.rg [8, 5, 4, 3, 2] ?_
 refine .e (.ptr ⟨4, []⟩ 0 0) [(4, .bx (Plain.av g))] ?_
 refine .e (.ptr ⟨5, []⟩ 0 0) [(4, .bx (Plain.av g)), (5, .bx (Table.av t))] ?_
 refine .p (.bool false) ?_
 refine .done ⟨[(8, (.bool false)), (5, (.ptr ⟨5, []⟩ 0 0)), (4, (.ptr ⟨4, []⟩ 0 0)), (3, (Sl.av vi beh)), (2, (Sl.av vi row))], [(4, .bx (Plain.av g)), (5, .bx (Table.av t))], [], false⟩ ?_
 apply Wq.seq
 refine Wq.rg [10, 9, 5, 4, 3, 2] ?_
 refine .r (Plain.av g) ?_
 refine .r (Table.av t) ?_
 refine .p (Sl.av vi row) ?_
 refine .cl F7 rfl rfl hA.parse (expArgs_cons rfl (expArgs_cons rfl (expArgs_cons rfl rfl rfl) rfl) rfl) rfl rfl rfl (.tup [(.agg [(vi w22), (vi i22), (vi p22), (vi k22), (.fz l22 z22 ks22)]), (vi e22)]) [(4, .bx (Plain.av g)), (5, .bx (Table.av t))] ?_
 refine .p (.tup [(.agg [(vi w22), (vi i22), (vi p22), (vi k22), (.fz l22 z22 ks22)]), (vi e22)]) ?_
 refine .p (.agg [(vi w22), (vi i22), (vi p22), (vi k22), (.fz l22 z22 ks22)]) ?_
 refine .p (vi e22) ?_
 refine .e (.ptr ⟨9, []⟩ 0 0) [(4, .bx (Plain.av g)), (5, .bx (Table.av t)), (9, .bx (.agg [(vi 0), (vi 0), (vi 0), (vi 0), (.fz 1 0 [])]))] ?_
 refine .sq [(4, .bx (Plain.av g)), (5, .bx (Table.av t)), (9, .bx (.agg [(vi w22), (vi i22), (vi p22), (vi k22), (.fz l22 z22 ks22)]))] ?_
 refine .p (vi e22) ?_
 refine .done ⟨[(10, (vi e22)), (9, (.ptr ⟨9, []⟩ 0 0)), (5, (.ptr ⟨5, []⟩ 0 0)), (4, (.ptr ⟨4, []⟩ 0 0)), (3, (Sl.av vi beh)), (2, (Sl.av vi row))], [(4, .bx (Plain.av g)), (5, .bx (Table.av t)), (9, .bx (.agg [(vi w22), (vi i22), (vi p22), (vi k22), (.fz l22 z22 ks22)]))], [], false⟩ ?_
 apply Wq.seq
 refine Wq.rg [12, 11, 10, 9, 5, 4, 3, 2] ?_
 refine .r (Plain.av g) ?_
 refine .r (Table.av t) ?_
 refine .p (Sl.av vi row) ?_
 refine .cl F9 rfl rfl hA.trace (expArgs_cons rfl (expArgs_cons rfl (expArgs_cons rfl rfl rfl) rfl) rfl) rfl rfl rfl (.tup [(Sl.av Move.av tr), (vi e22)]) [(4, .bx (Plain.av g)), (5, .bx (Table.av t)), (9, .bx (.agg [(vi w22), (vi i22), (vi p22), (vi k22), (.fz l22 z22 ks22)]))] ?_
 refine .p (.tup [(Sl.av Move.av tr), (vi e22)]) ?_
 refine .p (Sl.av Move.av tr) ?_
 refine .p (vi e22) ?_
 refine .p (Sl.av Move.av tr) ?_
 refine .p (vi e22) ?_
 refine .done ⟨[(12, (vi e22)), (11, (Sl.av Move.av tr)), (10, (vi e22)), (9, (.ptr ⟨9, []⟩ 0 0)), (5, (.ptr ⟨5, []⟩ 0 0)), (4, (.ptr ⟨4, []⟩ 0 0)), (3, (Sl.av vi beh)), (2, (Sl.av vi row))], [(4, .bx (Plain.av g)), (5, .bx (Table.av t)), (9, .bx (.agg [(vi w22), (vi i22), (vi p22), (vi k22), (.fz l22 z22 ks22)]))], [], false⟩ ?_
 apply Wq.seq
 apply Wq.seq
 refine Wq.jn (fun s => s = ⟨[(37, (.bool ((!(e22 == 0)) || (!(e22 == 0))))), (12, (vi e22)), (11, (Sl.av Move.av tr)), (10, (vi e22)), (9, (.ptr ⟨9, []⟩ 0 0)), (5, (.ptr ⟨5, []⟩ 0 0)), (4, (.ptr ⟨4, []⟩ 0 0)), (3, (Sl.av vi beh)), (2, (Sl.av vi row))], [(4, .bx (Plain.av g)), (5, .bx (Table.av t)), (9, .bx (.agg [(vi w22), (vi i22), (vi p22), (vi k22), (.fz l22 z22 ks22)]))], [], false⟩) ?_ ?_
 ·refine Wq.rg [37, 12, 11, 10, 9, 5, 4, 3, 2] ?_
  refine .p (vi e22) ?_
  iterate 2 (refine .p (.bool (!(e22 == 0))) ?_)
  refine Rq.split (dg := 34) rfl (fun h2 => ?_) (fun h2 => ?_) rfl
  ·iterate 2 (refine .sk ?_)
   refine .p (.bool true) ?_
   refine .done ⟨[(37, (.bool _)), (12, (vi _)), (11, (Sl.av Move.av tr)), (10, (vi _)), (9, (.ptr ⟨9, []⟩ 0 0)), (5, (.ptr ⟨5, []⟩ 0 0)), (4, (.ptr ⟨4, []⟩ 0 0)), (3, (Sl.av vi beh)), (2, (Sl.av vi row))], [(4, .bx (Plain.av g)), (5, .bx (Table.av t)), (9, .bx (.agg [(vi w22), (vi i22), (vi p22), (vi k22), (.fz l22 z22 ks22)]))], [], false⟩ ?_
   show (⟨[(37, (.bool _)), (12, (vi _)), (11, (Sl.av Move.av tr)), (10, (vi _)), (9, (.ptr ⟨9, []⟩ 0 0)), (5, (.ptr ⟨5, []⟩ 0 0)), (4, (.ptr ⟨4, []⟩ 0 0)), (3, (Sl.av vi beh)), (2, (Sl.av vi row))], [(4, .bx (Plain.av g)), (5, .bx (Table.av t)), (9, .bx (.agg [(vi w22), (vi i22), (vi p22), (vi k22), (.fz l22 z22 ks22)]))], [], false⟩ : St) = _
   simp [h2]
  ·refine .p (vi e22) ?_
   refine .p (.bool (!(e22 == 0))) ?_
   refine .p (.bool (!(e22 == 0))) ?_
   refine .done ⟨[(37, (.bool _)), (12, (vi _)), (11, (Sl.av Move.av tr)), (10, (vi _)), (9, (.ptr ⟨9, []⟩ 0 0)), (5, (.ptr ⟨5, []⟩ 0 0)), (4, (.ptr ⟨4, []⟩ 0 0)), (3, (Sl.av vi beh)), (2, (Sl.av vi row))], [(4, .bx (Plain.av g)), (5, .bx (Table.av t)), (9, .bx (.agg [(vi w22), (vi i22), (vi p22), (vi k22), (.fz l22 z22 ks22)]))], [], false⟩ ?_
   show (⟨[(37, (.bool _)), (12, (vi _)), (11, (Sl.av Move.av tr)), (10, (vi _)), (9, (.ptr ⟨9, []⟩ 0 0)), (5, (.ptr ⟨5, []⟩ 0 0)), (4, (.ptr ⟨4, []⟩ 0 0)), (3, (Sl.av vi beh)), (2, (Sl.av vi row))], [(4, .bx (Plain.av g)), (5, .bx (Table.av t)), (9, .bx (.agg [(vi w22), (vi i22), (vi p22), (vi k22), (.fz l22 z22 ks22)]))], [], false⟩ : St) = _
   simp [h2]
 rintro s rfl
 refine Wq.cond rfl (fun hx => ?_) (fun hx => ?_)
 ·have hx := hx -- ((!(e22 == 0)) || (!(e22 == 0)))
  apply Wq.seq
  refine Wq.jn (fun s => s = ⟨[(8, (.bool ((e22 == e22) && true)))], [(4, .bx (Plain.av g)), (5, .bx (Table.av t)), (9, .bx (.agg [(vi w22), (vi i22), (vi p22), (vi k22), (.fz l22 z22 ks22)]))], [], false⟩) ?_ ?_
  ·refine Wq.rg [8] ?_
   refine .p (vi e22) ?_
   refine .p (vi e22) ?_
   iterate 2 (refine .p (.bool (e22 == e22)) ?_)
   refine Rq.split (dg := 41) rfl (fun h3 => ?_) (fun h3 => ?_) rfl
   ·refine .cl F15 rfl rfl h15 rfl rfl rfl rfl (.bool true) [(4, .bx (Plain.av g)), (5, .bx (Table.av t)), (9, .bx (.agg [(vi w22), (vi i22), (vi p22), (vi k22), (.fz l22 z22 ks22)]))] ?_
    iterate 2 (refine .p (.bool true) ?_)
    refine .done ⟨[(8, (.bool _))], [(4, .bx (Plain.av g)), (5, .bx (Table.av t)), (9, .bx (.agg [(vi w22), (vi i22), (vi p22), (vi k22), (.fz l22 z22 ks22)]))], [], false⟩ ?_
    show (⟨[(8, (.bool _))], [(4, .bx (Plain.av g)), (5, .bx (Table.av t)), (9, .bx (.agg [(vi w22), (vi i22), (vi p22), (vi k22), (.fz l22 z22 ks22)]))], [], false⟩ : St) = _
    simp
   ·exact absurd h3 (by simp)
  rintro s rfl
  refine Wq.ret ?_
  exact Aq.mk rfl (by simp; rfl)
 ·have he : e22 = 0 := by simpa using hx
  refine Wq.skip ?_
  apply Wq.seq
  refine Wq.rg [13, 11, 9, 5, 4, 3, 2] ?_
  refine .p (vi 0) ?_
  refine .done ⟨[(13, (vi 0)), (11, (Sl.av Move.av tr)), (9, (.ptr ⟨9, []⟩ 0 0)), (5, (.ptr ⟨5, []⟩ 0 0)), (4, (.ptr ⟨4, []⟩ 0 0)), (3, (Sl.av vi beh)), (2, (Sl.av vi row))], [(4, .bx (Plain.av g)), (5, .bx (Table.av t)), (9, .bx (.agg [(vi w22), (vi i22), (vi p22), (vi k22), (.fz l22 z22 ks22)]))], [], false⟩ ?_
  apply Wq.seq
  apply Wq.seq
  refine Wq.rg [14, 13, 11, 9, 5, 4, 3, 2] ?_
  refine .p (vi 0) ?_
  refine .done ⟨[(14, (vi 0)), (13, (vi 0)), (11, (Sl.av Move.av tr)), (9, (.ptr ⟨9, []⟩ 0 0)), (5, (.ptr ⟨5, []⟩ 0 0)), (4, (.ptr ⟨4, []⟩ 0 0)), (3, (Sl.av vi beh)), (2, (Sl.av vi row))], [(4, .bx (Plain.av g)), (5, .bx (Table.av t)), (9, .bx (.agg [(vi w22), (vi i22), (vi p22), (vi k22), (.fz l22 z22 ks22)]))], [], false⟩ ?_
  refine Wq.block ?_ -- 0
  refine Wq.lp (fun m s => ∃ (x14 : Int) (x13 : Int), m = ((tr.l.length : Int) - x14).toNat ∧ (0 ≤ x14 ∧ x14 ≤ tr.l.length ∧ x13 = sh (tr.l.take x14.toNat)) ∧ s = ⟨[(14, (vi x14)), (13, (vi x13)), (11, (Sl.av Move.av tr)), (9, (.ptr ⟨9, []⟩ 0 0)), (5, (.ptr ⟨5, []⟩ 0 0)), (4, (.ptr ⟨4, []⟩ 0 0)), (3, (Sl.av vi beh)), (2, (Sl.av vi row))], [(4, .bx (Plain.av g)), (5, .bx (Table.av t)), (9, .bx (.agg [(vi w22), (vi i22), (vi p22), (vi k22), (.fz l22 z22 ks22)]))], [], false⟩) ?_ ⟨0, 0, rfl, ⟨by omega, by omega, rfl⟩, rfl⟩
  rintro m s ⟨x14, x13, rfl, ⟨hi0, hi1, hi⟩, rfl⟩
  have hsh : sh (tr.l.take x14.toNat) ≤ tr.l.length := Nat.le_trans (List.countP_le_length ..) (by simp; omega)
  show Wq _ _ _ _ _ _ ⟨[(14, (vi x14)), (13, (vi x13)), (11, (Sl.av Move.av tr)), (9, (.ptr ⟨9, []⟩ 0 0)), (5, (.ptr ⟨5, []⟩ 0 0)), (4, (.ptr ⟨4, []⟩ 0 0)), (3, (Sl.av vi beh)), (2, (Sl.av vi row))], [(4, .bx (Plain.av g)), (5, .bx (Table.av t)), (9, .bx (.agg [(vi w22), (vi i22), (vi p22), (vi k22), (.fz l22 z22 ks22)]))], [], false⟩ _
  apply Wq.seq
  apply Wq.seq
  refine Wq.rg [47, 14, 13, 11, 9, 5, 4, 3, 2] ?_
  refine .p (vi x14) ?_
  refine .p (Sl.av Move.av tr) ?_
  obtain ⟨x46, e46⟩ : ∃ x : Int, x = (tr.l.length : Int) := ⟨_, rfl⟩
  refine .pv _ (vi x46) (ln e46) ?_
  refine .p (.bool (decide (x14 < x46))) ?_
  refine .done ⟨[(47, (.bool (decide (x14 < x46)))), (14, (vi x14)), (13, (vi x13)), (11, (Sl.av Move.av tr)), (9, (.ptr ⟨9, []⟩ 0 0)), (5, (.ptr ⟨5, []⟩ 0 0)), (4, (.ptr ⟨4, []⟩ 0 0)), (3, (Sl.av vi beh)), (2, (Sl.av vi row))], [(4, .bx (Plain.av g)), (5, .bx (Table.av t)), (9, .bx (.agg [(vi w22), (vi i22), (vi p22), (vi k22), (.fz l22 z22 ks22)]))], [], false⟩ ?_
  refine Wq.cond rfl (fun hx => ?_) (fun hx => ?_)
  ·have hx := of_decide_eq_true hx
   refine Wq.skip ?_
   apply Wq.seq
   refine Wq.block ?_ -- 1
   apply Wq.seq
   refine Wq.rg [55, 14, 13, 11, 9, 5, 4, 3, 2] ?_
   refine .p (Sl.av Move.av tr) ?_
   refine .p (vi x14) ?_
   obtain ⟨r52, e52⟩ : ∃ x : _, x = (tr.l.getD x14.toNat default) := ⟨_, rfl⟩
   have m52 := getD_mem e52 (by omega) (by omega)
   refine .po (fun _ => op_ix e52 (by omega) (by omega) hA.trok) (.fp _ (Move.av r52) 0) rfl ?_
   refine .p (.fp _ (Move.av r52) 0) ?_
   refine .p (vi r52.act) ?_
   refine .p (.bool (r52.act == 1)) ?_
   refine .done ⟨[(55, (.bool (r52.act == 1))), (14, (vi x14)), (13, (vi x13)), (11, (Sl.av Move.av tr)), (9, (.ptr ⟨9, []⟩ 0 0)), (5, (.ptr ⟨5, []⟩ 0 0)), (4, (.ptr ⟨4, []⟩ 0 0)), (3, (Sl.av vi beh)), (2, (Sl.av vi row))], [(4, .bx (Plain.av g)), (5, .bx (Table.av t)), (9, .bx (.agg [(vi w22), (vi i22), (vi p22), (vi k22), (.fz l22 z22 ks22)]))], [], false⟩ ?_
   have hstep : (sh (tr.l.take (x14.toNat + 1)) : Int) = sh (tr.l.take x14.toNat) + if r52.act = 1 then 1 else 0 := by
    rw [List.take_succ_eq_append_getElem (by omega), sh_snoc, show tr.l[x14.toNat]'(by omega) = r52 by rw [e52]; simp [List.getD, show x14.toNat < tr.l.length by omega]]
    split <;> simp
   refine Wq.jn (fun s => ∃ (x13 : Int), x13 = sh (tr.l.take (x14.toNat + 1)) ∧ s = ⟨[(14, (vi x14)), (13, (vi x13)), (11, (Sl.av Move.av tr)), (9, (.ptr ⟨9, []⟩ 0 0)), (5, (.ptr ⟨5, []⟩ 0 0)), (4, (.ptr ⟨4, []⟩ 0 0)), (3, (Sl.av vi beh)), (2, (Sl.av vi row))], [(4, .bx (Plain.av g)), (5, .bx (Table.av t)), (9, .bx (.agg [(vi w22), (vi i22), (vi p22), (vi k22), (.fz l22 z22 ks22)]))], [], false⟩) ?_ ?_
   ·refine Wq.cond rfl (fun hx => ?_) (fun hx => ?_)
    ·have hx : (r52.act = 1) := by simpa using hx
     refine Wq.rg [14, 13, 11, 9, 5, 4, 3, 2] ?_
     refine .p (vi x13) ?_
     obtain ⟨x57, e57⟩ : ∃ x : Int, x = (x13 + 1) := ⟨_, rfl⟩
     refine .pv _ (vi x57) (wrE e57 (by omega) (by omega)) ?_
     refine .p (vi x57) ?_
     refine .done ⟨[(14, (vi x14)), (13, (vi x57)), (11, (Sl.av Move.av tr)), (9, (.ptr ⟨9, []⟩ 0 0)), (5, (.ptr ⟨5, []⟩ 0 0)), (4, (.ptr ⟨4, []⟩ 0 0)), (3, (Sl.av vi beh)), (2, (Sl.av vi row))], [(4, .bx (Plain.av g)), (5, .bx (Table.av t)), (9, .bx (.agg [(vi w22), (vi i22), (vi p22), (vi k22), (.fz l22 z22 ks22)]))], [], false⟩ ?_
     exact Jq.mk ⟨_, by rw [hstep, if_pos hx, e57, hi], rfl⟩
    ·have hx : ¬ (r52.act = 1) := by simpa using hx
     refine Wq.skipW [14, 13, 11, 9, 5, 4, 3, 2] rfl ?_
     exact Jq.mk ⟨_, by rw [hstep, if_neg hx, hi]; omega, rfl⟩
   rintro s ⟨x13, hg, rfl⟩
   refine Wq.rg [14, 13, 11, 9, 5, 4, 3, 2] ?_
   refine .p (vi x14) ?_
   obtain ⟨x49, e49⟩ : ∃ x : Int, x = (x14 + 1) := ⟨_, rfl⟩
   refine .pv _ (vi x49) (wrE e49 (by omega) (by omega)) ?_
   refine .p (vi x49) ?_
   refine .done ⟨[(14, (vi x49)), (13, (vi x13)), (11, (Sl.av Move.av tr)), (9, (.ptr ⟨9, []⟩ 0 0)), (5, (.ptr ⟨5, []⟩ 0 0)), (4, (.ptr ⟨4, []⟩ 0 0)), (3, (Sl.av vi beh)), (2, (Sl.av vi row))], [(4, .bx (Plain.av g)), (5, .bx (Table.av t)), (9, .bx (.agg [(vi w22), (vi i22), (vi p22), (vi k22), (.fz l22 z22 ks22)]))], [], false⟩ ?_
   exact Iq.mk _ (by omega) ⟨x49, x13, rfl, ⟨by omega, by omega, by rw [hg, show x49.toNat = x14.toNat + 1 by omega]⟩, rfl⟩
  ·have hx := of_decide_eq_false hx
   have hcnt : x13 = sh tr.l := by rw [hi, List.take_of_length_le (by omega)]
   clear hi
   refine Wq.exit ?_ -- 0
   apply Wq.seq
   apply Wq.seq
   refine Wq.rg [60, 13, 11, 9, 5, 4, 3, 2] ?_
   refine .r (.ptr ⟨9, []⟩ 0 0) ?_
   refine .r (vi w22) ?_
   refine .p (.bool (w22 == 0)) ?_
   refine .done ⟨[(60, (.bool (w22 == 0))), (13, (vi x13)), (11, (Sl.av Move.av tr)), (9, (.ptr ⟨9, []⟩ 0 0)), (5, (.ptr ⟨5, []⟩ 0 0)), (4, (.ptr ⟨4, []⟩ 0 0)), (3, (Sl.av vi beh)), (2, (Sl.av vi row))], [(4, .bx (Plain.av g)), (5, .bx (Table.av t)), (9, .bx (.agg [(vi w22), (vi i22), (vi p22), (vi k22), (.fz l22 z22 ks22)]))], [], false⟩ ?_
   refine Wq.cond rfl (fun hx => ?_) (fun hx => ?_)
   ·have hx : (w22 = 0) := by simpa using hx
    obtain ⟨g1, l0, g2⟩ := hA.good he hx
    have g3 : tr.l.length = l0.length + 1 := by rw [g2]; simp
    apply Wq.seq
    obtain ⟨x63, e63⟩ : ∃ x : Int, x = (row.l.length : Int) := ⟨_, rfl⟩
    obtain ⟨x67, e67⟩ : ∃ x : Int, x = (tr.l.length : Int) := ⟨_, rfl⟩
    obtain ⟨x73, e73⟩ : ∃ x : Int, x = (tr.l.length : Int) := ⟨_, rfl⟩
    obtain ⟨x74, e74⟩ : ∃ x : Int, x = (x73 - 1) := ⟨_, rfl⟩
    obtain ⟨r75, e75⟩ : ∃ x : _, x = (tr.l.getD x74.toNat default) := ⟨_, rfl⟩
    have g4 : r75 = ⟨3, 0⟩ := by rw [e75, show x74.toNat = l0.length by omega, g2]; simp [List.getD]
    refine Wq.jn (fun s => s = ⟨[(8, (.bool ((((x13 == x63) && (decide (x67 > 0))) && (r75.act == 3 && r75.n == 0)) && true)))], [(4, .bx (Plain.av g)), (5, .bx (Table.av t)), (9, .bx (.agg [(vi w22), (vi i22), (vi p22), (vi k22), (.fz l22 z22 ks22)]))], [], false⟩) ?_ ?_
    ·refine Wq.rg [8] ?_
     refine .p (vi x13) ?_
     refine .p (Sl.av vi row) ?_
     refine .pv _ (vi x63) (ln e63) ?_
     iterate 2 (refine .p (.bool (x13 == x63)) ?_)
     refine Rq.split (dg := 65) rfl (fun h4 => ?_) (fun h4 => ?_) rfl
     ·refine .p (Sl.av Move.av tr) ?_
      refine .pv _ (vi x67) (ln e67) ?_
      refine .p (.bool (decide (x67 > 0))) ?_
      iterate 2 (refine .p (.bool (decide (x67 > 0))) ?_)
      refine Rq.split (dg := 70) rfl (fun h9 => ?_) (fun h9 => ?_) rfl
      ·refine .p (Sl.av Move.av tr) ?_
       refine .p (Sl.av Move.av tr) ?_
       refine .pv _ (vi x73) (ln e73) ?_
       refine .pv _ (vi x74) (wrE e74 (by omega) (by omega)) ?_
       have m75 := getD_mem e75 (by omega) (by omega)
       refine .po (fun _ => op_ix e75 (by omega) (by omega) hA.trok) (.fp _ (Move.av r75) 0) rfl ?_
       refine .p (Move.av r75) ?_
       refine .p (.agg [(vi 3), (vi 0)]) ?_
       refine .po (fun _ => op_eql2 (by kernel_rfl) rfl rfl rfl) (.bool (r75.act == 3 && r75.n == 0)) rfl ?_
       iterate 2 (refine .p (.bool (r75.act == 3 && r75.n == 0)) ?_)
       refine Rq.split (dg := 80) rfl (fun h19 => ?_) (fun h19 => ?_) rfl
       ·refine .cl F15 rfl rfl h15 rfl rfl rfl rfl (.bool true) [(4, .bx (Plain.av g)), (5, .bx (Table.av t)), (9, .bx (.agg [(vi w22), (vi i22), (vi p22), (vi k22), (.fz l22 z22 ks22)]))] ?_
        iterate 2 (refine .p (.bool true) ?_)
        refine .done ⟨[(8, (.bool _))], [(4, .bx (Plain.av g)), (5, .bx (Table.av t)), (9, .bx (.agg [(vi w22), (vi i22), (vi p22), (vi k22), (.fz l22 z22 ks22)]))], [], false⟩ ?_
        show (⟨[(8, (.bool _))], [(4, .bx (Plain.av g)), (5, .bx (Table.av t)), (9, .bx (.agg [(vi w22), (vi i22), (vi p22), (vi k22), (.fz l22 z22 ks22)]))], [], false⟩ : St) = _
        simp [h4, h9, h19]
       ·refine .sk ?_
        iterate 2 (refine .p (.bool false) ?_)
        refine .done ⟨[(8, (.bool _))], [(4, .bx (Plain.av g)), (5, .bx (Table.av t)), (9, .bx (.agg [(vi w22), (vi i22), (vi p22), (vi k22), (.fz l22 z22 ks22)]))], [], false⟩ ?_
        show (⟨[(8, (.bool _))], [(4, .bx (Plain.av g)), (5, .bx (Table.av t)), (9, .bx (.agg [(vi w22), (vi i22), (vi p22), (vi k22), (.fz l22 z22 ks22)]))], [], false⟩ : St) = _
        simp [h4, h9, h19]
      ·iterate 8 (refine .sk ?_)
       iterate 2 (refine .p (.bool false) ?_)
       refine .sk ?_
       iterate 2 (refine .p (.bool false) ?_)
       refine .done ⟨[(8, (.bool _))], [(4, .bx (Plain.av g)), (5, .bx (Table.av t)), (9, .bx (.agg [(vi w22), (vi i22), (vi p22), (vi k22), (.fz l22 z22 ks22)]))], [], false⟩ ?_
       show (⟨[(8, (.bool _))], [(4, .bx (Plain.av g)), (5, .bx (Table.av t)), (9, .bx (.agg [(vi w22), (vi i22), (vi p22), (vi k22), (.fz l22 z22 ks22)]))], [], false⟩ : St) = _
       simp [h4, h9]
     ·iterate 3 (refine .sk ?_)
      iterate 2 (refine .p (.bool false) ?_)
      iterate 8 (refine .sk ?_)
      iterate 2 (refine .p (.bool false) ?_)
      refine .sk ?_
      iterate 2 (refine .p (.bool false) ?_)
      refine .done ⟨[(8, (.bool _))], [(4, .bx (Plain.av g)), (5, .bx (Table.av t)), (9, .bx (.agg [(vi w22), (vi i22), (vi p22), (vi k22), (.fz l22 z22 ks22)]))], [], false⟩ ?_
      show (⟨[(8, (.bool _))], [(4, .bx (Plain.av g)), (5, .bx (Table.av t)), (9, .bx (.agg [(vi w22), (vi i22), (vi p22), (vi k22), (.fz l22 z22 ks22)]))], [], false⟩ : St) = _
      simp [h4]
    rintro s rfl
    refine Wq.ret ?_
    exact Aq.mk rfl (by rw [g4, show x13 = x63 by omega, decide_eq_true (show x67 > 0 by omega)]; simp; rfl)
   ·have hx : ¬ (w22 = 0) := by simpa using hx
    obtain ⟨g1, g2, g3, g4⟩ := hA.bad he hx
    refine Wq.skip ?_
    apply Wq.seq
    apply Wq.seq
    obtain ⟨x91, e91⟩ : ∃ x : Int, x = (row.l.length : Int) := ⟨_, rfl⟩
    refine Wq.jn (fun s => s = ⟨[(93, (.bool ((!(x13 == i22)) || (decide (i22 > x91))))), (9, (.ptr ⟨9, []⟩ 0 0)), (5, (.ptr ⟨5, []⟩ 0 0)), (4, (.ptr ⟨4, []⟩ 0 0)), (3, (Sl.av vi beh)), (2, (Sl.av vi row))], [(4, .bx (Plain.av g)), (5, .bx (Table.av t)), (9, .bx (.agg [(vi w22), (vi i22), (vi p22), (vi k22), (.fz l22 z22 ks22)]))], [], false⟩) ?_ ?_
    ·refine Wq.rg [93, 9, 5, 4, 3, 2] ?_
     refine .p (vi x13) ?_
     refine .r (.ptr ⟨9, []⟩ 0 1) ?_
     refine .r (vi i22) ?_
     iterate 2 (refine .p (.bool (!(x13 == i22))) ?_)
     refine Rq.split (dg := 87) rfl (fun h4 => ?_) (fun h4 => ?_) rfl
     ·iterate 5 (refine .sk ?_)
      refine .p (.bool true) ?_
      refine .done ⟨[(93, (.bool _)), (9, (.ptr ⟨9, []⟩ 0 0)), (5, (.ptr ⟨5, []⟩ 0 0)), (4, (.ptr ⟨4, []⟩ 0 0)), (3, (Sl.av vi beh)), (2, (Sl.av vi row))], [(4, .bx (Plain.av g)), (5, .bx (Table.av t)), (9, .bx (.agg [(vi w22), (vi i22), (vi p22), (vi k22), (.fz l22 z22 ks22)]))], [], false⟩ ?_
      show (⟨[(93, (.bool _)), (9, (.ptr ⟨9, []⟩ 0 0)), (5, (.ptr ⟨5, []⟩ 0 0)), (4, (.ptr ⟨4, []⟩ 0 0)), (3, (Sl.av vi beh)), (2, (Sl.av vi row))], [(4, .bx (Plain.av g)), (5, .bx (Table.av t)), (9, .bx (.agg [(vi w22), (vi i22), (vi p22), (vi k22), (.fz l22 z22 ks22)]))], [], false⟩ : St) = _
      simp [h4]
     ·refine .r (.ptr ⟨9, []⟩ 0 1) ?_
      refine .r (vi i22) ?_
      refine .p (Sl.av vi row) ?_
      refine .pv _ (vi x91) (ln e91) ?_
      refine .p (.bool (decide (i22 > x91))) ?_
      refine .p (.bool (decide (i22 > x91))) ?_
      refine .done ⟨[(93, (.bool _)), (9, (.ptr ⟨9, []⟩ 0 0)), (5, (.ptr ⟨5, []⟩ 0 0)), (4, (.ptr ⟨4, []⟩ 0 0)), (3, (Sl.av vi beh)), (2, (Sl.av vi row))], [(4, .bx (Plain.av g)), (5, .bx (Table.av t)), (9, .bx (.agg [(vi w22), (vi i22), (vi p22), (vi k22), (.fz l22 z22 ks22)]))], [], false⟩ ?_
      show (⟨[(93, (.bool _)), (9, (.ptr ⟨9, []⟩ 0 0)), (5, (.ptr ⟨5, []⟩ 0 0)), (4, (.ptr ⟨4, []⟩ 0 0)), (3, (Sl.av vi beh)), (2, (Sl.av vi row))], [(4, .bx (Plain.av g)), (5, .bx (Table.av t)), (9, .bx (.agg [(vi w22), (vi i22), (vi p22), (vi k22), (.fz l22 z22 ks22)]))], [], false⟩ : St) = _
      simp [h4]
    rintro s rfl
    refine Wq.cond rfl (fun hx => ?_) (fun hx => ?_)
    ·exfalso
     have : x13 = i22 := by omega
     have h9 : ¬ i22 > x91 := by omega
     rw [this, decide_eq_false h9] at hx
     simp at hx
    ·have hx := hx -- not ((!(x13 == i22)) || (decide (i22 > x91)))
     refine Wq.skip ?_
     apply Wq.seq
     apply Wq.seq
     refine Wq.rg [98, 9, 5, 4, 3, 2] ?_
     refine .r (.ptr ⟨9, []⟩ 0 1) ?_
     refine .r (vi i22) ?_
     refine .p (Sl.av vi row) ?_
     obtain ⟨x97, e97⟩ : ∃ x : Int, x = (row.l.length : Int) := ⟨_, rfl⟩
     refine .pv _ (vi x97) (ln e97) ?_
     refine .p (.bool (i22 == x97)) ?_
     refine .done ⟨[(98, (.bool (i22 == x97))), (9, (.ptr ⟨9, []⟩ 0 0)), (5, (.ptr ⟨5, []⟩ 0 0)), (4, (.ptr ⟨4, []⟩ 0 0)), (3, (Sl.av vi beh)), (2, (Sl.av vi row))], [(4, .bx (Plain.av g)), (5, .bx (Table.av t)), (9, .bx (.agg [(vi w22), (vi i22), (vi p22), (vi k22), (.fz l22 z22 ks22)]))], [], false⟩ ?_
     refine Wq.cond rfl (fun hx => ?_) (fun hx => ?_)
     ·have hx : (i22 = x97) := by simpa using hx
      apply Wq.seq
      refine Wq.rg [8] ?_
      refine .cl F15 rfl rfl h15 rfl rfl rfl rfl (.bool true) [(4, .bx (Plain.av g)), (5, .bx (Table.av t)), (9, .bx (.agg [(vi w22), (vi i22), (vi p22), (vi k22), (.fz l22 z22 ks22)]))] ?_
      refine .p (.bool true) ?_
      refine .done ⟨[(8, (.bool true))], [(4, .bx (Plain.av g)), (5, .bx (Table.av t)), (9, .bx (.agg [(vi w22), (vi i22), (vi p22), (vi k22), (.fz l22 z22 ks22)]))], [], false⟩ ?_
      refine Wq.ret ?_
      exact Aq.mk rfl rfl
     ·have hx : ¬ (i22 = x97) := by simpa using hx
      obtain ⟨e113, w113, i113, p113, k113, l113, z113, ks113, a1, a2, a3, a4⟩ := g4 (by omega)
      refine Wq.skip ?_
      apply Wq.seq
      obtain ⟨x104, e104⟩ : ∃ x : Int, x = (i22 + 1) := ⟨_, rfl⟩
      have hsz : row.sz = 1 := hr.resolve_left (fun h => by have h' := congrArg List.length h; rw [List.length_nil] at h'; omega)
      have htk : (row.l.take x104.toNat).length = x104.toNat := by rw [List.length_take]; omega
      have hl1 : ((row.l.take x104.toNat).map vi).length = x104.toNat := by rw [List.length_map, htk]
      have hl2 : (beh.l.map vi).length = beh.l.length := List.length_map _
      have hne : (row.l.take x104.toNat).map vi ≠ [] := fun h => by rw [h] at hl1; simp at hl1; omega
      refine Wq.jn (fun s => s = ⟨[(15, .rf 1 ⟨15, []⟩ 0 (row.l.take x104.toNat ++ beh.l).length), (9, (.ptr ⟨9, []⟩ 0 0)), (5, (.ptr ⟨5, []⟩ 0 0)), (4, (.ptr ⟨4, []⟩ 0 0))], [(4, .bx (Plain.av g)), (5, .bx (Table.av t)), (9, .bx (oA w22 i22 p22 k22 l22 z22 ks22)), (15, .ow 1 ((row.l.take x104.toNat ++ beh.l).map vi))], [], false⟩) ?_ ?_
      ·refine Wq.rg [15, 9, 5, 4] ?_
       refine .e (.rf 1 ⟨100, []⟩ 0 0) [(4, .bx (Plain.av g)), (5, .bx (Table.av t)), (9, .bx (oA w22 i22 p22 k22 l22 z22 ks22)), (100, .ow 1 [])] ?_
       refine .p (Sl.av vi row) ?_
       refine .r (.ptr ⟨9, []⟩ 0 1) ?_
       refine .r (vi i22) ?_
       refine .pv _ (vi x104) (wrE e104 (by omega) (by omega)) ?_
       refine .po (fun _ => op_sls rfl rfl rfl rfl (bound_in (by omega) (by simp; omega)) rfl (by rw [hsz]; simp)) (.fz row.lab row.sz ((row.l.take x104.toNat).map vi)) (by simp [List.map_take]) ?_
       refine .eo (fun _ => op_appr rfl rfl rfl rfl rfl rfl rfl rfl rfl rfl (elems_fz (.inr hsz)) hne rfl rfl (by simp) (by show (0 + ((row.l.take x104.toNat).map vi).length) * 8 ≤ 70368744177664; omega) (by show 0 + ((row.l.take x104.toNat).map vi).length ≤ 70368744177664; omega) rfl) [(4, .bx (Plain.av g)), (5, .bx (Table.av t)), (9, .bx (oA w22 i22 p22 k22 l22 z22 ks22)), (106, .ow 1 ((row.l.take x104.toNat).map vi))] ?_
       refine .p (Sl.av vi beh) ?_
       by_cases hbe : beh.l = []
       ·refine .ro (fun _ => op_app0r rfl rfl rfl rfl rfl rfl rfl rfl rfl rfl (Eq.trans (elems_fz (hb.av vi)) (by rw [hbe]; rfl)) rfl) (.rf 1 ⟨106, []⟩ 0 (row.l.take x104.toNat ++ beh.l).length) (by simp [hbe]) ?_
        refine .p (.rf _ _ _ _) ?_
        refine .done ⟨[(15, (.rf 1 ⟨15, []⟩ 0 _)), (9, (.ptr ⟨9, []⟩ 0 0)), (5, (.ptr ⟨5, []⟩ 0 0)), (4, (.ptr ⟨4, []⟩ 0 0))], [(4, .bx (Plain.av g)), (5, .bx (Table.av t)), (9, .bx (oA w22 i22 p22 k22 l22 z22 ks22)), (15, .ow 1 _)], [], false⟩ ?_
        show (⟨[(15, (.rf 1 ⟨15, []⟩ 0 _)), (9, (.ptr ⟨9, []⟩ 0 0)), (5, (.ptr ⟨5, []⟩ 0 0)), (4, (.ptr ⟨4, []⟩ 0 0))], [(4, .bx (Plain.av g)), (5, .bx (Table.av t)), (9, .bx (oA w22 i22 p22 k22 l22 z22 ks22)), (15, .ow 1 _)], [], false⟩ : St) = _
        simp [hbe]
       ·refine .eo (fun _ => op_appr rfl rfl rfl rfl rfl rfl rfl rfl rfl rfl (elems_fz (hb.av vi)) (by simpa using hbe) rfl rfl (by simp) (by show (0 + ((row.l.take x104.toNat).map vi).length + (beh.l.map vi).length) * 8 ≤ 70368744177664; omega) (by show 0 + ((row.l.take x104.toNat).map vi).length + (beh.l.map vi).length ≤ 70368744177664; omega) rfl) [(4, .bx (Plain.av g)), (5, .bx (Table.av t)), (9, .bx (oA w22 i22 p22 k22 l22 z22 ks22)), (108, .ow 1 _)] ?_
        refine .p (.rf _ _ _ _) ?_
        refine .done ⟨[(15, (.rf 1 ⟨15, []⟩ 0 _)), (9, (.ptr ⟨9, []⟩ 0 0)), (5, (.ptr ⟨5, []⟩ 0 0)), (4, (.ptr ⟨4, []⟩ 0 0))], [(4, .bx (Plain.av g)), (5, .bx (Table.av t)), (9, .bx (oA w22 i22 p22 k22 l22 z22 ks22)), (15, .ow 1 _)], [], false⟩ ?_
        show (⟨[(15, (.rf 1 ⟨15, []⟩ 0 _)), (9, (.ptr ⟨9, []⟩ 0 0)), (5, (.ptr ⟨5, []⟩ 0 0)), (4, (.ptr ⟨4, []⟩ 0 0))], [(4, .bx (Plain.av g)), (5, .bx (Table.av t)), (9, .bx (oA w22 i22 p22 k22 l22 z22 ks22)), (15, .ow 1 _)], [], false⟩ : St) = _
        simp [List.take_of_length_le]
      rintro s rfl
      apply Wq.seq
      refine Wq.rg [17, 16, 9] ?_
      refine .r (Plain.av g) ?_
      refine .r (Table.av t) ?_
      refine .p (.rf 1 ⟨15, []⟩ 0 (row.l.take x104.toNat ++ beh.l).length) ?_
      have hans : Ans cx O 7 [g.av, t.av, .fz 2 1 ((row.l.take x104.toNat ++ beh.l).map vi)] (.tup [oA w113 i113 p113 k113 l113 z113 ks113, vi e113], []) := by rw [e104]; exact a1
      have hfzi : ∀ a ∈ (row.l.take x104.toNat ++ beh.l).map vi, Fzn a := fun a ha => by
       obtain ⟨n, _, rfl⟩ := List.mem_map.1 ha
       intro lab; rfl
      refine .cl F7 rfl rfl hans (expArgs_cons rfl (expArgs_cons rfl (expArgs_cons (expArgCut (sz := 1) (pl := ⟨15, []⟩) (n := 0) (es := (row.l.take x104.toNat ++ beh.l).map vi) (by show AV.rf 1 ⟨15, []⟩ 0 _ = _; simp) rfl (Nat.zero_le _) hfzi) rfl rfl) rfl) rfl) rfl rfl rfl (.tup [(.agg [(vi w113), (vi i113), (vi p113), (vi k113), (.fz l113 z113 ks113)]), (vi e113)]) [(4, .bx (Plain.av g)), (5, .bx (Table.av t)), (9, .bx (.agg [(vi w22), (vi i22), (vi p22), (vi k22), (.fz l22 z22 ks22)])), (15, .ow 1 ((row.l.take x104.toNat ++ beh.l).map vi))] ?_ (hl := by show (true && !(noLent (.tup [oA w113 i113 p113 k113 l113 z113 ks113, vi e113]) && true)) = false; simp [noLent, noLentL, a2, a3])
      refine .p (.tup [(.agg [(vi w113), (vi i113), (vi p113), (vi k113), (.fz l113 z113 ks113)]), (vi e113)]) ?_
      refine .p (.agg [(vi w113), (vi i113), (vi p113), (vi k113), (.fz l113 z113 ks113)]) ?_
      refine .p (vi e113) ?_
      refine .e (.ptr ⟨16, []⟩ 0 0) [(4, .bx (Plain.av g)), (5, .bx (Table.av t)), (9, .bx (.agg [(vi w22), (vi i22), (vi p22), (vi k22), (.fz l22 z22 ks22)])), (15, .ow 1 ((row.l.take x104.toNat ++ beh.l).map vi)), (16, .bx (.agg [(vi 0), (vi 0), (vi 0), (vi 0), (.fz 1 0 [])]))] ?_
      refine .sq [(4, .bx (Plain.av g)), (5, .bx (Table.av t)), (9, .bx (.agg [(vi w22), (vi i22), (vi p22), (vi k22), (.fz l22 z22 ks22)])), (15, .ow 1 ((row.l.take x104.toNat ++ beh.l).map vi)), (16, .bx (.agg [(vi w113), (vi i113), (vi p113), (vi k113), (.fz l113 z113 ks113)]))] ?_
      refine .p (vi e113) ?_
      refine .done ⟨[(17, (vi e113)), (16, (.ptr ⟨16, []⟩ 0 0)), (9, (.ptr ⟨9, []⟩ 0 0))], [(4, .bx (Plain.av g)), (5, .bx (Table.av t)), (9, .bx (.agg [(vi w22), (vi i22), (vi p22), (vi k22), (.fz l22 z22 ks22)])), (15, .ow 1 ((row.l.take x104.toNat ++ beh.l).map vi)), (16, .bx (.agg [(vi w113), (vi i113), (vi p113), (vi k113), (.fz l113 z113 ks113)]))], [], false⟩ ?_
      apply Wq.seq
      refine Wq.jn (fun s => s = ⟨[(8, (.bool (((!(e113 == 0)) || true) && true)))], [(4, .bx (Plain.av g)), (5, .bx (Table.av t)), (9, .bx (.agg [(vi w22), (vi i22), (vi p22), (vi k22), (.fz l22 z22 ks22)])), (15, .ow 1 ((row.l.take x104.toNat ++ beh.l).map vi)), (16, .bx (.agg [(vi w113), (vi i113), (vi p113), (vi k113), (.fz l113 z113 ks113)]))], [], false⟩) ?_ ?_
      ·refine Wq.rg [8] ?_
       refine .p (vi e113) ?_
       iterate 2 (refine .p (.bool (!(e113 == 0))) ?_)
       refine Rq.split (dg := 118) rfl (fun h2 => ?_) (fun h2 => ?_) rfl
       ·iterate 3 (refine .sk ?_)
        iterate 2 (refine .p (.bool true) ?_)
        refine .cl F15 rfl rfl h15 rfl rfl rfl rfl (.bool true) [(4, .bx (Plain.av g)), (5, .bx (Table.av t)), (9, .bx (.agg [(vi w22), (vi i22), (vi p22), (vi k22), (.fz l22 z22 ks22)])), (15, .ow 1 ((row.l.take x104.toNat ++ beh.l).map vi)), (16, .bx (.agg [(vi w113), (vi i113), (vi p113), (vi k113), (.fz l113 z113 ks113)]))] ?_
        iterate 2 (refine .p (.bool true) ?_)
        refine .done ⟨[(8, (.bool _))], [(4, .bx (Plain.av g)), (5, .bx (Table.av t)), (9, .bx (.agg [(vi w22), (vi i22), (vi p22), (vi k22), (.fz l22 z22 ks22)])), (15, .ow 1 ((row.l.take x104.toNat ++ beh.l).map vi)), (16, .bx (.agg [(vi w113), (vi i113), (vi p113), (vi k113), (.fz l113 z113 ks113)]))], [], false⟩ ?_
        show (⟨[(8, (.bool _))], [(4, .bx (Plain.av g)), (5, .bx (Table.av t)), (9, .bx (.agg [(vi w22), (vi i22), (vi p22), (vi k22), (.fz l22 z22 ks22)])), (15, .ow 1 ((row.l.take x104.toNat ++ beh.l).map vi)), (16, .bx (.agg [(vi w113), (vi i113), (vi p113), (vi k113), (.fz l113 z113 ks113)]))], [], false⟩ : St) = _
        simp [List.map_take, h2]
       ·refine .r (.agg [(vi w113), (vi i113), (vi p113), (vi k113), (.fz l113 z113 ks113)]) ?_
        refine .r (.agg [(vi w22), (vi i22), (vi p22), (vi k22), (.fz l22 z22 ks22)]) ?_
        refine .cl F13 rfl rfl (a4 (by simpa using h2)) (expArgs_cons rfl (expArgs_cons rfl rfl rfl) rfl) rfl rfl rfl (.bool true) [(4, .bx (Plain.av g)), (5, .bx (Table.av t)), (9, .bx (.agg [(vi w22), (vi i22), (vi p22), (vi k22), (.fz l22 z22 ks22)])), (15, .ow 1 ((row.l.take x104.toNat ++ beh.l).map vi)), (16, .bx (.agg [(vi w113), (vi i113), (vi p113), (vi k113), (.fz l113 z113 ks113)]))] ?_
        iterate 2 (refine .p (.bool true) ?_)
        refine Rq.split (dg := 123) rfl (fun h7 => ?_) (fun h7 => ?_) rfl
        ·refine .cl F15 rfl rfl h15 rfl rfl rfl rfl (.bool true) [(4, .bx (Plain.av g)), (5, .bx (Table.av t)), (9, .bx (.agg [(vi w22), (vi i22), (vi p22), (vi k22), (.fz l22 z22 ks22)])), (15, .ow 1 ((row.l.take x104.toNat ++ beh.l).map vi)), (16, .bx (.agg [(vi w113), (vi i113), (vi p113), (vi k113), (.fz l113 z113 ks113)]))] ?_
         iterate 2 (refine .p (.bool true) ?_)
         refine .done ⟨[(8, (.bool _))], [(4, .bx (Plain.av g)), (5, .bx (Table.av t)), (9, .bx (.agg [(vi w22), (vi i22), (vi p22), (vi k22), (.fz l22 z22 ks22)])), (15, .ow 1 ((row.l.take x104.toNat ++ beh.l).map vi)), (16, .bx (.agg [(vi w113), (vi i113), (vi p113), (vi k113), (.fz l113 z113 ks113)]))], [], false⟩ ?_
         show (⟨[(8, (.bool _))], [(4, .bx (Plain.av g)), (5, .bx (Table.av t)), (9, .bx (.agg [(vi w22), (vi i22), (vi p22), (vi k22), (.fz l22 z22 ks22)])), (15, .ow 1 ((row.l.take x104.toNat ++ beh.l).map vi)), (16, .bx (.agg [(vi w113), (vi i113), (vi p113), (vi k113), (.fz l113 z113 ks113)]))], [], false⟩ : St) = _
         simp [List.map_take, h2]
        ·refine .sk ?_
         iterate 2 (refine .p (.bool false) ?_)
         refine .done ⟨[(8, (.bool _))], [(4, .bx (Plain.av g)), (5, .bx (Table.av t)), (9, .bx (.agg [(vi w22), (vi i22), (vi p22), (vi k22), (.fz l22 z22 ks22)])), (15, .ow 1 ((row.l.take x104.toNat ++ beh.l).map vi)), (16, .bx (.agg [(vi w113), (vi i113), (vi p113), (vi k113), (.fz l113 z113 ks113)]))], [], false⟩ ?_
         show (⟨[(8, (.bool _))], [(4, .bx (Plain.av g)), (5, .bx (Table.av t)), (9, .bx (.agg [(vi w22), (vi i22), (vi p22), (vi k22), (.fz l22 z22 ks22)])), (15, .ow 1 ((row.l.take x104.toNat ++ beh.l).map vi)), (16, .bx (.agg [(vi w113), (vi i113), (vi p113), (vi k113), (.fz l113 z113 ks113)]))], [], false⟩ : St) = _
         simp [List.map_take, h2, h7]
      rintro s rfl
      refine Wq.ret ?_
      exact Aq.mk rfl (by cases (e113 == 0) <;> rfl)
end Go.Am.Pull
end
section
namespace Go.Am.Pull
open Go Go.Proofs Go.Am
set_option maxRecDepth 100000
set_option maxHeartbeats 4000000
variable {O : List Ent}
/-- what refuses a row -/
def errS (g : Plain) (t : Table) (row : Sl Int) : Int := if checkS g t (gcheckS g) = 0 then rowS g.kinds.l.length row.l else checkS g t (gcheckS g)
/-- the functions that the law walks -/
def walked : List Nat := [4, 7, 9, 11, 13, 23, 24, 27, 28, 34, 35, 37, 50, 51, 56, 57, 58, 72, 73]
theorem not_walked {n : Nat} (hO : ∀ e ∈ O, e.f ∉ walked) (hn : n ∈ walked) : ∀ e ∈ O, e.f ≠ n := fun e he h => hO e he (h ▸ hn)
theorem refuse_all (hO : ∀ e ∈ O, e.f ∉ walked) {g : Plain} {t : Table} {row : Sl Int} (hg : GTy g) (ht : Ty g t) (hr : row.ok 1) (hl : row.l.length < 2 ^ 40) : Ans cx O 23 [g.av, t.av, row.av vi] (vi (errS g t row), []) :=
  refuse_q (not_walked hO (by decide)) (check_q (not_walked hO (by decide)) (not_walked hO (by decide)) ht (gcheck_q (not_walked hO (by decide)) (not_walked hO (by decide)) (not_walked hO (by decide)) (not_walked hO (by decide)) (not_walked hO (by decide)) hg)) hr hl
theorem rowOk_all {g : Plain} {t : Table} {row : Sl Int} (ht : Ty g t) (hr : row.ok 1) (hl : row.l.length < 2 ^ 40) (h : errS g t row = 0) : RowOk g t row := by
  unfold errS at h
  split at h
  · exact rowOk_of (ok_of ht (by assumption)).1 hr hl h
  · contradiction
theorem noNum_all {g : Plain} {t : Table} {row : Sl Int} (ht : Ty g t) (h : errS g t row = 0) : NoNum t := by
  unfold errS at h
  split at h
  · exact (ok_of ht (by assumption)).2
  · contradiction
theorem parse_all (hO : ∀ e ∈ O, e.f ∉ walked) {g : Plain} {t : Table} {row : Sl Int} (hg : GTy g) (ht : Ty g t) (hr : row.ok 1) (hl : row.l.length < 2 ^ 40) :
    Ans cx O 7 [g.av, t.av, row.av vi] (if errS g t row = 0 then (match runS ndP g t row.l (row.l.length + 1) 0 p0 with | (q, w, ix, tr) => (.tup [outA w ix tr, vi 0], [])) else (.tup [Z37, vi (errS g t row)], [])) :=
  parse_q (not_walked hO (by decide)) (not_walked hO (by decide)) (not_walked hO (by decide)) (not_walked hO (by decide)) (not_walked hO (by decide)) (not_walked hO (by decide)) (not_walked hO (by decide)) (not_walked hO (by decide)) (refuse_all hO hg ht hr hl) (rowOk_all ht hr hl)
theorem trace_all (hO : ∀ e ∈ O, e.f ∉ walked) {g : Plain} {t : Table} {row : Sl Int} (hg : GTy g) (ht : Ty g t) (hr : row.ok 1) (hl : row.l.length < 2 ^ 40) :
    Ans cx O 9 [g.av, t.av, row.av vi] (if errS g t row = 0 then (match runS ndP g t row.l (row.l.length + 1) 0 p0 with | (q, w, ix, tr) => (.tup [trV q.tr, vi 0], [])) else (.tup [.fz 1 0 [], vi (errS g t row)], [])) :=
  trace_q (not_walked hO (by decide)) (not_walked hO (by decide)) (not_walked hO (by decide)) (not_walked hO (by decide)) (not_walked hO (by decide)) (not_walked hO (by decide)) (not_walked hO (by decide)) (not_walked hO (by decide)) (refuse_all hO hg ht hr hl) (rowOk_all ht hr hl)
def trSl (l : List Move) : Sl Move := if l = [] then ⟨1, 0, []⟩ else ⟨0, 2, l⟩
theorem trSl_av (l : List Move) : trV l = (trSl l).av Move.av := by
  unfold trV trSl
  split <;> rfl
theorem trSl_l (l : List Move) : (trSl l).l = l := by
  unfold trSl
  split
  · rename_i h; exact h.symm
  · rfl
theorem trSl_ok (l : List Move) : (trSl l).ok 2 := by
  unfold trSl
  split
  · exact .inl rfl
  · exact .inr rfl
theorem kd_prefix {row beh : List Int} {ix : Int} (h0 : 0 ≤ ix) (hx : ix < row.length) : ∀ j, 0 ≤ j → j ≤ ix → kd (row.take (ix + 1).toNat ++ beh) j = kd row j := by
  intro j hj hji
  have hl : j.toNat < (row.take (ix + 1).toNat).length := by rw [List.length_take]; omega
  unfold kd
  rw [if_pos (by rw [List.length_append]; omega), if_pos (by omega)]
  simp only [List.getD]
  rw [List.getElem?_append_left hl, List.getElem?_take, if_pos (by omega)]
theorem ahead_ans (hO : ∀ e ∈ O, e.f ∉ walked) (h15 : Ans cx O 15 [] (.bool true, [])) (h31 : Ans cx O 31 [zT, zT] (.bool true, [])) {g : Plain} {t : Table} {row beh : Sl Int} (hg : GTy g) (ht : Ty g t) (hr : row.ok 1) (hb : beh.ok 1) (hl : row.l.length < 2 ^ 30) (hbl : beh.l.length < 2 ^ 30) :
    Ans cx O 4 [g.av, t.av, row.av vi, beh.av vi] (.bool true, []) := by
  have hp := parse_all hO hg ht hr (show row.l.length < 2 ^ 40 by omega)
  have htr := trace_all hO hg ht hr (show row.l.length < 2 ^ 40 by omega)
  by_cases he : errS g t row = 0
  · rw [if_pos he] at hp htr
    have hrow := rowOk_all ht hr (show row.l.length < 2 ^ 40 by omega) he
    have hN := noNum_all (row := row) ht he
    obtain ⟨q, w, ix, tr, hrun⟩ : ∃ q w ix tr, runS ndP g t row.l (row.l.length + 1) 0 p0 = (q, w, ix, tr) := ⟨_, _, _, _, rfl⟩
    rw [hrun] at hp htr
    simp only at hp htr
    obtain ⟨_, htt⟩ := run_isTree ndP_tree (p := p0) rfl hrun
    obtain ⟨c1, c2, c3⟩ := run_ahead hrow.ok hN hrow.kinds (p0_fine hrow.ok) (by omega) (by omega) hrun
    obtain ⟨dp, dt, dl, dz, ks, rfl⟩ := isTree_iff htt
    rw [trSl_av] at htr
    refine ahead_q (not_walked hO (by decide)) h15 hr hb hl hbl (e22 := 0) (w22 := w) (i22 := ix) (p22 := dp) (k22 := dt) (l22 := dl) (z22 := dz) (ks22 := ks) (tr := trSl q.tr) ⟨hp, htr, trSl_ok _, by rw [trSl_l]; omega, fun _ hw => ?_, fun _ hw => ?_⟩
    · obtain ⟨d1, d2⟩ := c2 hw
      rw [trSl_l, d1]
      refine ⟨?_, d2 (by omega)⟩
      rw [if_neg (by omega)]; simp [p0, sh]
    · obtain ⟨d1, d2, d3, d4, d5⟩ := c3 hw
      refine ⟨d1, d2, by rw [trSl_l, d3]; simp [p0, sh], fun hlt => ?_⟩
      have hp2 := parse_all hO hg ht (row := ⟨2, 1, row.l.take (ix + 1).toNat ++ beh.l⟩) (.inr rfl) (by simp; omega)
      obtain ⟨q2, hq2⟩ := d5 (row.l.take (ix + 1).toNat ++ beh.l) ((row.l.take (ix + 1).toNat ++ beh.l).length + 1) (kd_prefix d1 hlt) (by simp; omega)
      by_cases he2 : errS g t ⟨2, 1, row.l.take (ix + 1).toNat ++ beh.l⟩ = 0
      · rw [if_pos he2] at hp2
        simp only at hp2
        rw [hq2] at hp2
        simp only at hp2
        refine ⟨0, w, ix, 0, 0, 1, 0, [], hp2, rfl, by decide, fun _ => ?_⟩
        simp only [zT, AV.agg.injEq, List.cons.injEq, AV.int.injEq, AV.fz.injEq, true_and, and_true] at d4
        obtain ⟨rfl, rfl, rfl, rfl, rfl⟩ := d4
        have := same_q (not_walked hO (by decide)) (w := w) (i := ix) (w' := w) (i' := ix) (p := 0) (k := 0) (l := 1) (z := 0) (ks := []) (p' := 0) (k' := 0) (l' := 1) (z' := 0) (ks' := []) h31
        simpa using this
      · rw [if_neg he2] at hp2
        exact ⟨_, 0, 0, 0, 0, 1, 0, [], hp2, rfl, by decide, fun h => absurd h he2⟩
  · rw [if_neg he] at hp htr
    exact ahead_q (not_walked hO (by decide)) h15 hr hb hl hbl (tr := ⟨1, 0, []⟩) ⟨hp, htr, .inl rfl, by decide, fun h => absurd h he, fun h => absurd h he⟩
end Go.Am.Pull
end
section
namespace Go.Am
open Go
variable {H : Type} {enc : TypeId × Value → H} {P : Program} {w : World}
/-- nobody owns anything: what is there is read -/
def mkO (w : World) : Fz := ⟨fun b o => w.cell? ⟨b, o, none⟩, fun _ _ => False, fun _ _ => False⟩
theorem mkO_no (lab b o : Nat) : (mkO w).no lab b o := by
  unfold Fz.no mkO
  split <;> exact id
/-- cells that are as the values say -/
def RL (w : World) (as1 : List AV) (cs : List Value) : Prop := as1.length = cs.length ∧ ∀ (i : Nat) a v, as1[i]? = some a → cs[i]? = some v → RF (mkO w) a v
theorem RL.one {a : AV} {v : Value} (h : RF (mkO w) a v) : RL w [a] [v] := ⟨rfl, fun i a' v' h1 h2 => by
  cases i with
  | zero => cases h1; cases h2; exact h
  | succ i => simp at h1⟩
theorem RL.app {as1 bs : List AV} {cs ds : List Value} (h1 : RL w as1 cs) (h2 : RL w bs ds) : RL w (as1 ++ bs) (cs ++ ds) := by
  refine ⟨by simp [h1.1, h2.1], fun i a v ha hv => ?_⟩
  by_cases hi : i < as1.length
  · rw [List.getElem?_append_left hi] at ha
    rw [List.getElem?_append_left (h1.1 ▸ hi)] at hv
    exact h1.2 i a v ha hv
  · rw [List.getElem?_append_right (by omega)] at ha
    rw [List.getElem?_append_right (by have := h1.1; omega), ← h1.1] at hv
    exact h2.2 _ a v ha hv
/-- what is small: the bound that a row asks, in parts -/
structure Small (Sm : DataW H → Prop) (N : Nat) : Prop where
  str : ∀ l, Sm (.lit (.string l)) → l.length ≤ N
  slice : ∀ e s, Sm (.slice e s) → e.length ≤ N ∧ ∀ x ∈ e, Sm x
  agg : ∀ l, Sm (.agg l) → ∀ x ∈ l, Sm x
/-- every reading of this type, by so much fuel, is a value of this kind -/
def Opens (enc : TypeId × Value → H) (P : Program) (w : World) (Sm : DataW H → Prop) (n : Nat) (t : TypeId) (α : Type) (f : α → AV) (good : α → Prop) : Prop :=
  ∀ cs d, DataW.trod enc P w 0 (fun _ => true) true n t cs = some d → Sm d.1 → ∃ x, good x ∧ RL w (cells (f x)) cs
variable {Sm : DataW H → Prop} {N : Nat}
theorem Opens.int {k : IntKind} {t : TypeId} (ht : P.underlying t = some (.int k)) {n : Nat} : Opens enc P w Sm n t Int (fun x => .int k x) (fun x => (Lit.int k x).wf = true) := fun cs d h _ => by
  obtain ⟨m, rfl, _, hw⟩ := DataW.trod_int ht h
  exact ⟨m, hw, .one (.int k m)⟩
theorem Opens.bool {t : TypeId} (ht : P.underlying t = some .bool) {n : Nat} : Opens enc P w Sm n t Bool AV.bool (fun _ => True) := fun cs d h _ => by
  obtain ⟨b, rfl, _⟩ := DataW.trod_bool ht h
  exact ⟨b, trivial, .one (.bool b)⟩
theorem Opens.str (hS : Small Sm N) {t : TypeId} (ht : P.underlying t = some .string) {n : Nat} : Opens enc P w Sm n t ByteArray AV.str (fun s => s.size ≤ N) := fun cs d h hd => by
  obtain ⟨s, rfl, rfl, _⟩ := DataW.trod_string ht h
  have := hS.str _ hd
  exact ⟨s, by rw [Array.length_toList] at this; exact this, .one (.str s)⟩
theorem chooses {α : Type} {p : Nat → α → Prop} : ∀ {n : Nat}, (∀ i, i < n → ∃ x, p i x) → ∃ l : List α, l.length = n ∧ ∀ (i : Nat) x, l[i]? = some x → p i x
  | 0, _ => ⟨[], rfl, fun i x h => by simp at h⟩
  | n + 1, h => by
    obtain ⟨l, hl, hp⟩ := chooses (n := n) fun i hi => h i (by omega)
    obtain ⟨x, hx⟩ := h n (by omega)
    refine ⟨l ++ [x], by simp [hl], fun i y hy => ?_⟩
    by_cases hi : i < l.length
    · rw [List.getElem?_append_left hi] at hy; exact hp i y hy
    · rw [List.getElem?_append_right (by omega)] at hy
      have : i - l.length = 0 := by
        cases hz : i - l.length with
        | zero => rfl
        | succ m => rw [hz] at hy; simp at hy
      rw [this] at hy
      cases hy
      rw [show i = n by omega]; exact hx
theorem Opens.slice (hS : Small Sm N) {t e : TypeId} {α : Type} {f : α → AV} {good : α → Prop} {sz : Nat} (ht : P.underlying t = some (.slice e)) (hsz : P.cellsOf e = sz) (h0 : 0 < sz) {n : Nat} (he : Opens enc P w Sm n e α f good) (hf : ∀ x, (cells (f x)).length = sz) :
    Opens enc P w Sm (n + 1) t (Sl α) (Sl.av f) (fun s => s.ok sz ∧ s.l.length ≤ N ∧ ∀ x ∈ s.l, good x) := fun cs d h hd => by
  subst hsz
  rcases DataW.trod_slice ht h with ⟨rfl, _⟩ | ⟨a, len, cap, elems, rest, m, hm, rfl, rfl, _, hl, _, hel, hget, hrest, _⟩
  · exact ⟨⟨1, 0, []⟩, ⟨.inl rfl, Nat.zero_le _, fun x hx => (List.not_mem_nil hx).elim⟩, .one (.nil 0)⟩
  · obtain rfl : n = m := by omega
    obtain ⟨b, o, sp⟩ := a
    have hsp : sp = none ∨ cap = 0 := by
      by_cases hc : cap = 0
      · exact .inr hc
      · left
        have key : ∀ i, ((w.cells? 0 ((⟨b, o, sp⟩ : Addr).add (i * P.cellsOf e)) (P.cellsOf e)).bind (DataW.trod enc P w 0 (fun _ => true) true n e)).isSome = true → i = 0 → sp = none := by
          intro i hi h0'
          subst h0'
          cases hz : w.cells? 0 ((⟨b, o, sp⟩ : Addr).add (0 * P.cellsOf e)) (P.cellsOf e) with
          | none => rw [hz] at hi; cases hi
          | some cs =>
            obtain ⟨_, hlen, hcell⟩ := World.cells?_some hz
            have g0 := hcell 0 h0
            have : cs[0]? ≠ none := by rw [ne_eq, List.getElem?_eq_none_iff]; omega
            cases hcs : cs[0]? with
            | none => exact absurd hcs this
            | some c =>
              rw [hcs] at g0
              simpa [Addr.add] using World.cell?_spot g0
        by_cases hlen : 0 < len
        · refine key 0 ?_ rfl
          rw [hget 0 hlen, List.getElem?_eq_getElem (by omega)]; rfl
        · obtain ⟨r1, r2⟩ := hrest rfl
          refine key 0 ?_ rfl
          have := r2 0 (by omega)
          rw [show len + 0 = 0 by omega] at this
          rw [this, List.getElem?_eq_getElem (by omega)]; rfl
    obtain ⟨s1, s2⟩ := hS.slice _ _ hd
    have hone : ∀ i, i < len → ∃ x, good x ∧ RC (mkO w) 0 (cells (f x)) b (o + i * P.cellsOf e) := by
      intro i hi
      have hs : sp = none := hsp.resolve_right (by omega)
      subst hs
      have hg := hget i hi
      rw [List.getElem?_eq_getElem (by omega)] at hg
      obtain ⟨cs, hcs, htr⟩ := Option.bind_eq_some_iff.1 hg
      obtain ⟨x, hx, hr⟩ := he cs _ htr (s2 _ (List.mem_map_of_mem (List.getElem_mem ..)))
      refine ⟨x, hx, RC.of fun j a ha => ?_⟩
      obtain ⟨_, hlen, hcell⟩ := World.cells?_some hcs
      have hj : j < P.cellsOf e := by rw [← hf x]; exact (List.getElem?_eq_some_iff.1 ha).1
      have hv := hcell j hj
      rw [addr_add, addr_add] at hv
      obtain ⟨v, hv2⟩ : ∃ v, cs[j]? = some v := ⟨_, List.getElem?_eq_getElem (by omega)⟩
      refine ⟨v, ?_, mkO_no _ _ _, hr.2 j a v ha hv2⟩
      rw [← hv2, ← hv]; rfl
    obtain ⟨l, hll, hlp⟩ := chooses hone
    refine ⟨⟨0, P.cellsOf e, l⟩, ⟨.inr rfl, ?_, fun x hx => ?_⟩, ?_⟩
    · show l.length ≤ N
      rw [List.length_map] at s1; omega
    · obtain ⟨i, hi, rfl⟩ := List.getElem_of_mem hx
      exact (hlp i _ (List.getElem?_eq_getElem hi)).1
    · refine .one ?_
      have := RF.fzs (F := mkO w) 0 (P.cellsOf e) (l.map f) b o cap sp (by decide) (by rw [List.length_map]; omega) (RE.of fun i x hx => ?_) hsp
      · rw [List.length_map, hll] at this; exact this
      · rw [List.getElem?_map] at hx
        cases hli : l[i]? with
        | none => rw [hli] at hx; cases hx
        | some y => rw [hli] at hx; cases hx; exact ⟨hf y, (hlp i y hli).2⟩
/-- the types of a struct's fields, when they lie one behind another -/
def offsOk (P : Program) : Nat → List Field → Bool
  | _, [] => true
  | o, f :: fs => Nat.beq f.offset o && offsOk P (o + P.cellsOf f.type) fs
def sumC (P : Program) : List TypeId → Nat
  | [] => 0
  | t :: ts => P.cellsOf t + sumC P ts
def partsOf (P : Program) (t : TypeId) : Option (List TypeId) := match P.underlying t with
  | some (.struct fs) => cond (offsOk P 0 fs.toList && Nat.beq (sumC P (fs.toList.map (·.type))) (P.cellsOf t)) (some (fs.toList.map (·.type))) none
  | _ => none
def Parts (enc : TypeId × Value → H) (P : Program) (w : World) (Sm : DataW H → Prop) (n : Nat) : List TypeId → List Value → Prop
  | [], cs => cs = []
  | t :: ts, cs => ∃ c r, cs = c ++ r ∧ (∃ d, DataW.trod enc P w 0 (fun _ => true) true n t c = some d ∧ Sm d.1) ∧ Parts enc P w Sm n ts r
theorem parts_go {n : Nat} {xs : List (DataW H × List MemPlace)} {cs : List Value} : ∀ {fs : List Field} {o k : Nat}, offsOk P o fs = true → o + sumC P (fs.map (·.type)) = cs.length →
    (∀ (i : Nat) (f : Field), fs[i]? = some f → ∃ d, DataW.trod enc P w 0 (fun _ => true) true n f.type ((cs.drop f.offset).take (P.cellsOf f.type)) = some d ∧ Sm d.1) → Parts enc P w Sm n (fs.map (·.type)) (cs.drop o)
  | [], o, k, _, hl, _ => by
    simp only [List.map_nil, Parts]
    simp [sumC] at hl
    exact List.drop_of_length_le (by omega)
  | f :: fs, o, k, ho, hl, h => by
    simp only [offsOk, Bool.and_eq_true] at ho
    obtain ⟨h1, h2⟩ := ho
    have h1 := Nat.eq_of_beq_eq_true h1
    simp only [List.map_cons, sumC] at hl
    refine ⟨(cs.drop o).take (P.cellsOf f.type), cs.drop (o + P.cellsOf f.type), ?_, ?_, ?_⟩
    · rw [← List.drop_drop, List.take_append_drop]
    · obtain ⟨d, d1, d2⟩ := h 0 f rfl
      rw [h1] at d1; exact ⟨d, d1, d2⟩
    · exact parts_go (xs := xs) (k := k) h2 (by omega) fun i g hg => h (i + 1) g hg
theorem parts_of (hS : Small Sm N) {t : TypeId} {ts : List TypeId} (ht : partsOf P t = some ts) {n : Nat} {cs : List Value} {d : DataW H × List MemPlace} (h : DataW.trod enc P w 0 (fun _ => true) true (n + 1) t cs = some d) (hd : Sm d.1) : Parts enc P w Sm n ts cs := by
  unfold partsOf at ht
  split at ht
  · rename_i fs hu
    cases hc : (offsOk P 0 fs.toList && Nat.beq (sumC P (fs.toList.map (·.type))) (P.cellsOf t)) with
    | false => rw [hc] at ht; cases ht
    | true =>
      rw [hc] at ht
      cases ht
      simp only [Bool.and_eq_true] at hc
      obtain ⟨xs, m, hm, rfl, hl, hxl, hf⟩ := DataW.trod_struct hu h
      obtain rfl : n = m := by omega
      have := parts_go (enc := enc) (w := w) (Sm := Sm) (n := n) (xs := xs) (cs := cs) (k := 0) hc.1 (by rw [Nat.zero_add, hl]; exact Nat.eq_of_beq_eq_true hc.2) fun i f hfi => by
        have hlt : i < fs.size := by
          have := (List.getElem?_eq_some_iff.1 hfi).1; simpa using this
        have h1 := hf i f (by simpa using hfi)
        rw [List.getElem?_eq_getElem (by omega)] at h1
        exact ⟨_, h1, hS.agg _ hd _ (List.mem_map_of_mem (List.getElem_mem ..))⟩
      exact this
  · cases ht
theorem Opens.at {n : Nat} {t : TypeId} {α : Type} {f : α → AV} {good : α → Prop} (ho : Opens enc P w Sm n t α f good) {c : List Value} (h : ∃ d, DataW.trod enc P w 0 (fun _ => true) true n t c = some d ∧ Sm d.1) : ∃ x, good x ∧ RL w (cells (f x)) c := by
  obtain ⟨d, h1, h2⟩ := h
  exact ho c d h1 h2
theorem Opens.zero {t : TypeId} {α : Type} {f : α → AV} {good : α → Prop} : Opens enc P w Sm 0 t α f good := fun cs d h _ => by simp [DataW.trod] at h
theorem Opens.slices (hS : Small Sm N) {t e : TypeId} {α : Type} {f : α → AV} {good : α → Prop} {sz : Nat} (ht : P.underlying t = some (.slice e)) (hsz : P.cellsOf e = sz) (h0 : 0 < sz) (he : ∀ n, Opens enc P w Sm n e α f good) (hf : ∀ x, (cells (f x)).length = sz) :
    ∀ n, Opens enc P w Sm n t (Sl α) (Sl.av f) (fun s => s.ok sz ∧ s.l.length ≤ N ∧ ∀ x ∈ s.l, good x)
  | 0 => .zero
  | n + 1 => .slice hS ht hsz h0 (he n) hf
end Go.Am
end
section
namespace Go.Am
open Go
variable {P : Program} {cx : Cx} {O : List Ent} {w : World}
def baseO (w : World) : Base := ⟨w, fun _ _ => False, fun _ _ => False, fun _ _ => False, fun _ _ h => h, fun _ _ h => h.elim, fun _ _ h => h.elim, fun _ _ h => h.elim⟩
def gO : Gh := fun _ _ => none
theorem owned_gO {b o : Nat} : ¬ owned gO b o := fun ⟨_, _, _, h, _⟩ => by cases h
theorem rm_O {R : Nat → Value} : RM (baseO w) (fun _ => False) gO R [] w where
  chg := ⟨rfl, rfl, rfl, Nat.le_refl _, fun b cs el fr h => ⟨cs, h, rfl, fun _ _ => rfl⟩, fun _ _ _ => rfl⟩
  tree := fun r a h => by simp [hget] at h
  void := fun _ _ _ => rfl
  disj := fun r p n r' p' n' h => by cases h
  blk := fun r p n h => by cases h
  lks := fun r a p q len h => by simp [hget] at h
  inn := fun b o h => absurd h owned_gO
theorem leO : (mkO w).le (mkF (baseO w) gO w) where
  m := fun b o v h _ => h
  N := fun b o v _ _ => fun h => h.elim owned_gO id
  N0 := fun b o v _ _ => fun h => h.elim owned_gO id
  sub := fun b o h => h.elim
theorem rtl_of : ∀ {cs : List AV} {vs : List Value}, RL w cs vs → RTL (mkF (baseO w) gO w) gO (cs.map (fadeC [])) vs
  | [], [], _ => .nil
  | [], v :: vs, h => by simp [RL] at h
  | c :: cs, [], h => by simp [RL] at h
  | c :: cs, v :: vs, h => .cons (cellT ((h.2 0 c v rfl rfl).mono leO)) (rtl_of ⟨by have := h.1; simpa using this, fun i a u ha hu => h.2 (i + 1) a u (by simpa using ha) (by simpa using hu)⟩)
theorem xd_agg {cs : List AV} {vs : Array Value} (h : RL w cs vs.toList) : XD (mkF (baseO w) gO w) gO [] (.agg cs) (.agg vs) := by
  have := RX1.agg (rtl_of h)
  rw [Array.toArray_toList] at this
  exact .inr (.c this)
theorem xd_one {a : AV} {v : Value} (h : RL w [a] [v]) : XD (mkF (baseO w) gO w) gO [] a v := rfX ((h.2 0 a v rfl rfl).mono leO)
theorem below_of {R : Nat → Value} {g : Gh} {h : Hp} {w' : World} {K : Nat → Prop} (H : RM (baseO w) K g R h w') : RowKit.Below w.heap.size w w' :=
  ⟨H.chg.os, H.chg.tape, H.chg.output, H.chg.size, fun k hk => H.chg.objs k hk fun _ h => h⟩
theorem calls_of (hT : TOk P cx) (hm : P.follows .mixedOrders = true) (hF : FnsOk P cx) {f : Nat} {fn : FnS} {args : List AV} {b : Bool} (ha : Ans cx O f args (.bool b, [])) (hK : ∀ e ∈ O, Known P cx e) (hfn : cx.F f = some fn) (he : entryL 0 args = (args, [])) {vs : List Value} (hx : XDs (mkF (baseO w) gO w) gO [] args vs) :
    Calls P f vs.toArray w fun e w' => e = .returned (.bool b) ∧ RowKit.Below w.heap.size w w' := by
  obtain ⟨m, hev⟩ := ha
  obtain ⟨_, pf, _, hc⟩ := evO_ctr hT hm hF m hK m f fn args _ _ hfn (hev m m (Nat.le_refl _) (Nat.le_refl _))
  rw [he] at hc
  refine (hc (baseO w) gO (fun _ => .bool false) w vs rm_O hx).mono fun e w' h => ?_
  cases e with
  | returned v =>
    obtain ⟨g1, R1, h1, N, H, hv, _⟩ := h
    refine ⟨?_, below_of H⟩
    cases hv with
    | e a => cases a with
      | c a => cases a with
        | leaf hf => cases hf; rfl
        | node hn _ _ => cases hn
  | _ => exact h.elim
end Go.Am
end
section
namespace Go.Am.Pull
open Go Go.Proofs Go.Am
set_option maxRecDepth 100000
set_option maxHeartbeats 4000000
variable {H : Type} {enc : TypeId × Value → H} {w : World} {Sm : DataW H → Prop}
theorem u3 : Try.prog.underlying 3 = some (.int .i64) := by kernel_rfl
theorem u9 : Try.prog.underlying 9 = some .string := by kernel_rfl
theorem u22 : Try.prog.underlying 22 = some (.slice 9) := by kernel_rfl
theorem u23 : Try.prog.underlying 23 = some (.slice 117) := by kernel_rfl
theorem u24 : Try.prog.underlying 24 = some (.slice 123) := by kernel_rfl
theorem u27 : Try.prog.underlying 27 = some (.slice 41) := by kernel_rfl
theorem u28 : Try.prog.underlying 28 = some (.slice 31) := by kernel_rfl
theorem u31 : Try.prog.underlying 31 = some (.slice 3) := by kernel_rfl
theorem u41 : Try.prog.underlying 41 = some (.slice 51) := by kernel_rfl
theorem u119 : Try.prog.underlying 119 = some (.slice 121) := by kernel_rfl
theorem p26 : partsOf Try.prog 26 = some [22, 23, 22, 24, 3] := by kernel_rfl
theorem p30 : partsOf Try.prog 30 = some [27, 28] := by kernel_rfl
theorem p51 : partsOf Try.prog 51 = some [3, 3] := by kernel_rfl
theorem p117 : partsOf Try.prog 117 = some [3, 3] := by kernel_rfl
theorem p121 : partsOf Try.prog 121 = some [3, 3, 9, 119] := by kernel_rfl
theorem p123 : partsOf Try.prog 123 = some [3, 31, 3, 121] := by kernel_rfl
theorem o3 {n : Nat} : Opens enc Try.prog w Sm n 3 Int vi (fun x => (Lit.int .i64 x).wf = true) := .int u3
theorem o31 (hS : Small Sm 1048576) (n : Nat) : Opens enc Try.prog w Sm n 31 (Sl Int) (Sl.av vi) (fun s => s.ok 1 ∧ s.l.length ≤ 1048576 ∧ ∀ x ∈ s.l, (Lit.int .i64 x).wf = true) := Opens.slices hS u31 (by kernel_rfl) (by decide) (fun _ => o3) (fun _ => rfl) n
theorem o22 (hS : Small Sm 1048576) (n : Nat) : Opens enc Try.prog w Sm n 22 (Sl ByteArray) (Sl.av vs) (fun s => s.ok 1 ∧ s.l.length ≤ 1048576 ∧ ∀ x ∈ s.l, x.size ≤ 1048576) := Opens.slices hS u22 (by kernel_rfl) (by decide) (fun _ => .str hS u9) (fun _ => rfl) n
theorem o117 (hS : Small Sm 1048576) : ∀ n : Nat, Opens enc Try.prog w Sm n 117 Prec Prec.av (fun _ => True)
  | 0 => .zero
  | n + 1 => fun cs d h hd => by
    obtain ⟨c1, r1, rfl, h1, c2, r2, rfl, h2, rfl⟩ := parts_of hS p117 h hd
    obtain ⟨a, _, x1⟩ := o3.at h1
    obtain ⟨b, _, x2⟩ := o3.at h2
    exact ⟨⟨a, b⟩, trivial, by simpa [Prec.av, cells] using x1.app x2⟩
theorem o51 (hS : Small Sm 1048576) : ∀ n : Nat, Opens enc Try.prog w Sm n 51 Move Move.av (fun _ => True)
  | 0 => .zero
  | n + 1 => fun cs d h hd => by
    obtain ⟨c1, r1, rfl, h1, c2, r2, rfl, h2, rfl⟩ := parts_of hS p51 h hd
    obtain ⟨a, _, x1⟩ := o3.at h1
    obtain ⟨b, _, x2⟩ := o3.at h2
    exact ⟨⟨a, b⟩, trivial, by simpa [Move.av, cells] using x1.app x2⟩
theorem o41 (hS : Small Sm 1048576) (n : Nat) : Opens enc Try.prog w Sm n 41 (Sl Move) (Sl.av Move.av) (fun s => s.ok 2 ∧ s.l.length ≤ 1048576 ∧ ∀ x ∈ s.l, True) := Opens.slices hS u41 (by kernel_rfl) (by decide) (o51 hS) (fun _ => rfl) n
theorem o27 (hS : Small Sm 1048576) (n : Nat) : Opens enc Try.prog w Sm n 27 (Sl (Sl Move)) (Sl.av (Sl.av Move.av)) (fun s => s.ok 1 ∧ s.l.length ≤ 1048576 ∧ ∀ x ∈ s.l, x.ok 2 ∧ x.l.length ≤ 1048576 ∧ ∀ y ∈ x.l, True) := Opens.slices hS u27 (by kernel_rfl) (by decide) (o41 hS) (fun _ => rfl) n
theorem o28 (hS : Small Sm 1048576) (n : Nat) : Opens enc Try.prog w Sm n 28 (Sl (Sl Int)) (Sl.av (Sl.av vi)) (fun s => s.ok 1 ∧ s.l.length ≤ 1048576 ∧ ∀ x ∈ s.l, x.ok 1 ∧ x.l.length ≤ 1048576 ∧ ∀ y ∈ x.l, (Lit.int .i64 y).wf = true) := Opens.slices hS u28 (by kernel_rfl) (by decide) (o31 hS) (fun _ => rfl) n
theorem goodL_of : ∀ {l : List Act}, (∀ a ∈ l, a.good) → goodL l
  | [], _ => trivial
  | a :: l, h => ⟨h a List.mem_cons_self, goodL_of fun x hx => h x (List.mem_cons_of_mem _ hx)⟩
theorem o121' (hS : Small Sm 1048576) : ∀ n : Nat, (∀ m, m ≤ n → Opens enc Try.prog w Sm m 121 Act actV Act.good)
  | 0 => fun m hm => by obtain rfl : m = 0 := by omega
                        exact .zero
  | n + 1 => fun m hm => by
    by_cases hmn : m ≤ n
    · exact o121' hS n m hmn
    · obtain rfl : m = n + 1 := by omega
      intro cs d h hd
      obtain ⟨c1, r1, rfl, h1, c2, r2, rfl, h2, c3, r3, rfl, h3, c4, r4, rfl, h4, rfl⟩ := parts_of hS p121 h hd
      obtain ⟨a, _, x1⟩ := o3.at h1
      obtain ⟨b, _, x2⟩ := o3.at h2
      obtain ⟨s, _, x3⟩ := (Opens.str hS u9).at h3
      obtain ⟨ks, ⟨k1, k2, k3⟩, x4⟩ : ∃ ks : Sl Act, (ks.ok 4 ∧ ks.l.length ≤ 1048576 ∧ ∀ x ∈ ks.l, x.good) ∧ RL w (cells (ks.av actV)) c4 := by
        cases n with
        | zero => exact (Opens.zero (good := fun s : Sl Act => s.ok 4 ∧ s.l.length ≤ 1048576 ∧ ∀ x ∈ s.l, x.good) (f := Sl.av actV)).at h4
        | succ n => exact (Opens.slice hS u119 (by kernel_rfl) (by decide) (o121' hS (n + 1) n (by omega)) (fun _ => rfl)).at h4
      refine ⟨.mk a b s ks.lab ks.sz ks.l, ?_, ?_⟩
      · rw [Act.good]
        exact ⟨k1, by omega, goodL_of k3⟩
      · have := (((x1.app x2).app x3).app x4)
        rw [List.append_nil]
        show RL w [vi a, vi b, vs s, .fz ks.lab ks.sz (vActs ks.l)] _
        rw [show AV.fz ks.lab ks.sz (vActs ks.l) = ks.av actV by rw [vActs_map, show vAct = actV from funext vAct_eq]; rfl]
        simpa [cells, Sl.av] using this
theorem o121 (hS : Small Sm 1048576) (n : Nat) : Opens enc Try.prog w Sm n 121 Act actV Act.good := o121' hS n n (Nat.le_refl _)
def Prod.good (p : Prod) : Prop := p.right.ok 1 ∧ p.right.l.length < 2 ^ 40 ∧ p.act.good
theorem o123 (hS : Small Sm 1048576) : ∀ n : Nat, Opens enc Try.prog w Sm n 123 Prod Prod.av Prod.good
  | 0 => .zero
  | n + 1 => fun cs d h hd => by
    obtain ⟨c1, r1, rfl, h1, c2, r2, rfl, h2, c3, r3, rfl, h3, c4, r4, rfl, h4, rfl⟩ := parts_of hS p123 h hd
    obtain ⟨a, _, x1⟩ := o3.at h1
    obtain ⟨b, ⟨b1, b2, _⟩, x2⟩ := (o31 hS n).at h2
    obtain ⟨c, _, x3⟩ := o3.at h3
    obtain ⟨e, e1, x4⟩ := (o121 hS n).at h4
    refine ⟨⟨a, b, c, e⟩, ⟨b1, by show b.l.length < 2 ^ 40; omega, e1⟩, ?_⟩
    have := (((x1.app x2).app x3).app x4)
    rw [List.append_nil]
    simpa [cells, Prod.av, actV, Sl.av] using this
theorem o24 (hS : Small Sm 1048576) (n : Nat) : Opens enc Try.prog w Sm n 24 (Sl Prod) (Sl.av Prod.av) (fun s => s.ok 7 ∧ s.l.length ≤ 1048576 ∧ ∀ x ∈ s.l, x.good) := Opens.slices hS u24 (by kernel_rfl) (by decide) (o123 hS) (fun _ => rfl) n
theorem o23 (hS : Small Sm 1048576) (n : Nat) : Opens enc Try.prog w Sm n 23 (Sl Prec) (Sl.av Prec.av) (fun s => s.ok 2 ∧ s.l.length ≤ 1048576 ∧ ∀ x ∈ s.l, True) := Opens.slices hS u23 (by kernel_rfl) (by decide) (o117 hS) (fun _ => rfl) n
theorem o26 (hS : Small Sm 1048576) : ∀ n : Nat, Opens enc Try.prog w Sm n 26 Plain Plain.av GTy
  | 0 => .zero
  | n + 1 => fun cs d h hd => by
    obtain ⟨c1, r1, rfl, h1, c2, r2, rfl, h2, c3, r3, rfl, h3, c4, r4, rfl, h4, c5, r5, rfl, h5, rfl⟩ := parts_of hS p26 h hd
    obtain ⟨a, ⟨a1, a2, a3⟩, x1⟩ := (o22 hS n).at h1
    obtain ⟨b, ⟨b1, b2, _⟩, x2⟩ := (o23 hS n).at h2
    obtain ⟨c, ⟨e1, e2, _⟩, x3⟩ := (o22 hS n).at h3
    obtain ⟨e, ⟨f1, f2, f3⟩, x4⟩ := (o24 hS n).at h4
    obtain ⟨s, _, x5⟩ := o3.at h5
    refine ⟨⟨a, b, c, e, s⟩, ⟨a1, b1, e1, f1, fun x hx => f3 x hx, ⟨by show a.l.length < 2 ^ 40; omega, by show b.l.length < 2 ^ 40; omega, by show c.l.length < 2 ^ 40; omega, by show e.l.length < 2 ^ 40; omega⟩, fun x hx => by have := a3 x hx; omega⟩, ?_⟩
    have := ((((x1.app x2).app x3).app x4).app x5)
    rw [List.append_nil]
    simpa [cells, Plain.av, Sl.av] using this
/-- what the types say of a table, and that nothing is too large -/
structure TTy (t : Table) : Prop where
  moves : t.moves.ok 1
  goto : t.goto.ok 1
  row : ∀ r ∈ t.moves.l, r.ok 2
  grow : ∀ r ∈ t.goto.l, r.ok 1
  small : t.moves.l.length < 2 ^ 40 ∧ t.goto.l.length < 2 ^ 40
theorem o30 (hS : Small Sm 1048576) : ∀ n : Nat, Opens enc Try.prog w Sm n 30 Table Table.av TTy
  | 0 => .zero
  | n + 1 => fun cs d h hd => by
    obtain ⟨c1, r1, rfl, h1, c2, r2, rfl, h2, rfl⟩ := parts_of hS p30 h hd
    obtain ⟨a, ⟨a1, a2, a3⟩, x1⟩ := (o27 hS n).at h1
    obtain ⟨b, ⟨b1, b2, b3⟩, x2⟩ := (o28 hS n).at h2
    refine ⟨⟨a, b⟩, ⟨a1, b1, fun r hr => (a3 r hr).1, fun r hr => (b3 r hr).1, ⟨by show a.l.length < 2 ^ 40; omega, by show b.l.length < 2 ^ 40; omega⟩⟩, ?_⟩
    have := x1.app x2
    rw [List.append_nil]
    simpa [cells, Table.av, Sl.av] using this
theorem ty_of {g : Plain} {t : Table} (hg : GTy g) (ht : TTy t) : Ty g t := by
  obtain ⟨s1, s2, s3, s4⟩ := hg.small
  exact ⟨hg.prods, fun x hx => (hg.right x hx).1, ht.moves, ht.goto, ht.row, ht.grow, ⟨s1, s3, s4, ht.small.1, ht.small.2, fun x hx => (hg.right x hx).2.1⟩⟩
end Go.Am.Pull
end
