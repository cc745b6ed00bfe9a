/- The texts Am40, Am41, Am42, Am43, Am44, Am45, Am46, Am47, Am48, Am49, Am50, Am51, Am52, Am53, Am54, Am55, Am56, Am57, Am58 of this proof. -/
import Derived.LoopN
import Derived.Test.YtbbdljhpjomclaaM1
section
namespace Go.Am
open Go.RowKit Go.Lib
variable {s s' : St} {cx : Cx}
theorem cellsThere_ag {pl : Pl} {k : Nat} (hA : SameR s s' ⟨pl, false⟩) : ∀ {n off : Nat}, cellsThere s pl k off n = true → cellsThere s' pl k off n = true
  | 0, off, h => rfl
  | n + 1, off, h => by
    simp only [cellsThere, Bool.and_eq_true] at h ⊢
    refine ⟨?_, cellsThere_ag hA h.2⟩
    obtain ⟨c, hc⟩ := Option.isSome_iff_exists.1 h.1
    obtain ⟨a, ha, hp⟩ := getP_some hc
    obtain ⟨x, hx, hs⟩ := getT_parent (c := c) (p := pl.p) (i := k) (j := off) hp
    have h1 : getP s.h pl = some x := by unfold getP; rw [show pl.r = (pl.cell k off).r from rfl, ha]; exact hx
    have h2 := hA.2.2
    simp only at h2
    rw [h1] at h2
    cases hx' : getP s'.h pl with
    | none => rw [hx'] at h2; cases h2
    | some x' =>
      rw [hx'] at h2
      simp only [Option.map_some, Option.some.injEq] at h2
      have h3 : ∃ c', step1 x' (k, off) = some c' := by
        rcases step1_some hs with ⟨sz, es, e, rfl, he, hj⟩ | ⟨e, rfl, rfl, hj⟩
        · obtain ⟨es', rfl, e1, e2⟩ := hd_ow h2
          have := e2 k
          rw [he] at this
          cases he' : es'[k]? with
          | none => rw [he'] at this; cases this
          | some e' =>
            rw [he'] at this
            simp only [Option.map_some, Option.some.injEq] at this
            have hlt := (List.getElem?_eq_some_iff.1 hj).1
            simp only [step1, he', Option.bind_some]
            exact ⟨_, List.getElem?_eq_getElem (by omega)⟩
        · cases x' <;> simp only [hd] at h2 <;> try cases h2
          rename_i e'
          simp only [AV.bx.injEq, AV.agg.injEq] at h2
          have := congrArg List.length h2
          simp only [List.length_replicate] at this
          have hlt := (List.getElem?_eq_some_iff.1 hj).1
          simp only [step1, if_true]
          exact ⟨_, List.getElem?_eq_getElem (by omega)⟩
      obtain ⟨c', hc'⟩ := h3
      obtain ⟨a', ha', hp'⟩ := getP_some hx'
      have : getP s'.h (pl.cell k off) = some c' := by
        unfold getP; rw [show (pl.cell k off).r = pl.r from rfl, ha']
        simp only [Option.bind_some, Pl.cell]
        rw [getT_snoc, hp']; exact hc'
      rw [this]; rfl
theorem cond_some {α : Type} {b : Bool} {x : Option α} {m : String} {e : α} (h : cond b x (oops m) = some e) : b = true ∧ x = some e := by
  cases b with
  | false => cases h
  | true => exact ⟨rfl, h⟩
theorem cond_none {α : Type} {b : Bool} {x : Option α} {e : α} (h : cond b x none = some e) : b = true ∧ x = some e := by
  cases b with
  | false => cases h
  | true => exact ⟨rfl, h⟩
theorem cond_t {α : Type} {b : Bool} {x y : α} (h : b = true) : cond b x y = x := by rw [h]; rfl
def Fr (s s' : St) (us : List Up) : Prop := ∀ r a, Up.new r a ∈ us → freshId s r = true → freshId s' r = true
theorem newsOk_ag : ∀ {us : List Up}, (∀ r a, Up.new r a ∈ us → freshId s r = true → freshId s' r = true) → newsOk s us = true → newsOk s' us = true
  | [], _, _ => rfl
  | u :: us, hf, h => by
    have tl : ∀ r a, Up.new r a ∈ us → freshId s r = true → freshId s' r = true := fun r a hm => hf r a (List.mem_cons_of_mem _ hm)
    cases u with
    | new r a =>
      simp only [newsOk, Bool.and_eq_true] at h ⊢
      exact ⟨hf r a List.mem_cons_self h.1, newsOk_ag tl h.2⟩
    | _ => simp only [newsOk] at h ⊢; exact newsOk_ag tl h
theorem oAlloc_ag {d : Option Nat} {ty : Nat} {e : Eff} (h : oAlloc cx s d ty = some e) (hf : Fr s s' e.up) : oAlloc cx s' d ty = some e := by
  unfold oAlloc at h ⊢
  split at h
  · split at h
    · rename_i z hz
      obtain ⟨hb, h⟩ := cond_some h
      cases h
      try simp only [hz]
      rw [cond_t (hf _ _ List.mem_cons_self hb)]
    · cases h
  · cases h
theorem oBox_ag {d : Option Nat} {x : AV} {e : Eff} (h : oBox s d x = some e) (hA : Ag s s' e.rd) (hf : Fr s s' e.up) : oBox s' d x = some e := by
  unfold oBox at h ⊢
  split at h
  · split at h
    · rename_i v rs us hp
      obtain ⟨hb, h⟩ := cond_some h
      cases h
      try simp only [putEl_ag hp hA]
      simp only [Bool.and_eq_true] at hb
      rw [cond_t (by simp only [Bool.and_eq_true]; rw [hA.al]; exact ⟨⟨⟨hf _ _ List.mem_cons_self hb.1.1.1, hb.1.1.2⟩, hb.1.2⟩, hb.2⟩)]
    · cases h
  · cases h
theorem oBuildSlice_ag {d : Option Nat} {ty len : Nat} {ps : List (Nat × AV)} {e : Eff} (h : oBuildSlice cx s d ty len ps = some e) (hA : Ag s s' e.rd) (hf : Fr s s' e.up) : oBuildSlice cx s' d ty len ps = some e := by
  unfold oBuildSlice at h ⊢
  split at h
  · split at h
    · rename_i ei hei
      split at h
      · rename_i z hz
        split at h
        · rename_i es hes
          split at h
          · rename_i bs rs us hp
            obtain ⟨hb, h⟩ := cond_some h
            cases h
            try simp only [hei, hz, hes, putEls_ag hp hA]
            simp only [Bool.and_eq_true] at hb
            rw [cond_t (by simp only [Bool.and_eq_true]; rw [hA.al]; exact ⟨⟨⟨⟨⟨⟨hf _ _ List.mem_cons_self hb.1.1.1.1.1.1, hb.1.1.1.1.1.2⟩, hb.1.1.1.1.2⟩, hb.1.1.1.2⟩, hb.1.1.2⟩, hb.1.2⟩, hb.2⟩)]
          · cases h
        · cases h
      · cases h
    · cases h
  · cases h
theorem oLoad_ag {ty : Nat} {a : AV} {e : Eff} (h : oLoad cx s ty a = some e) (hA : Ag s s' e.rd) : oLoad cx s' ty a = some e := by
  unfold oLoad at h ⊢
  split at h
  · split at h
    · exact h
    · split at h
      · rename_i cs hl
        have h0 := h
        cases hb : Nat.beq _ 0 with
        | true => rw [hb] at h; cases h
        | false =>
          rw [hb] at h
          simp only [cond_false] at h
          split at h
          · cases h
            simp only at hA
            simp only [ldCells_ag hl hA]
            rw [hb] at h0; exact h0
          · cases h
      · cases h
    · cases h
  · cases h
theorem oStore_ag {keep ty : Nat} {a x : AV} {e : Eff} (h : oStore cx keep s ty a x = some e) (hA : Ag s s' e.rd) : oStore cx keep s' ty a x = some e := by
  unfold oStore at h ⊢
  split at h
  · split at h
    · split at h
      · rename_i rs us hp
        obtain ⟨hb, h⟩ := cond_some h
        cases h
        try simp only [putSt_ag hp hA.l]
        simp only [Bool.and_eq_true] at hb
        rw [cond_t (by simp only [Bool.and_eq_true]; exact ⟨⟨⟨⟨hb.1.1.1.1, use_ag hA.r.hd hb.1.1.1.2⟩, cellsThere_ag hA.r.hd hb.1.1.2⟩, hb.1.2⟩, hb.2⟩)]
      · cases h
    · cases h
  · cases h
theorem oNil_ag {a : AV} {e : Eff} (h : oNil s a = some e) (hA : Ag s s' e.rd) : oNil s' a = some e := by
  cases a with
  | ptr pl i off =>
    simp only [oNil] at h ⊢
    obtain ⟨hb, h⟩ := cond_some h
    cases h
    rw [cond_t (use_ag hA.hd hb)]
  | _ => exact h
theorem oMakeSlice_ag {d : Option Nat} {ty : Nat} {l c : AV} {e : Eff} (h : oMakeSlice cx s d ty l c = some e) (hf : Fr s s' e.up) : oMakeSlice cx s' d ty l c = some e := by
  unfold oMakeSlice at h ⊢
  split at h
  · split at h
    · rename_i ei hei
      split at h
      · rename_i z k n k' m hz
        obtain ⟨hb, h⟩ := cond_some h
        cases h
        try simp only [hei, hz]
        simp only [Bool.and_eq_true] at hb
        rw [cond_t (by simp only [Bool.and_eq_true]; exact ⟨⟨⟨hb.1.1.1, hf _ _ List.mem_cons_self hb.1.1.2⟩, hb.1.2⟩, hb.2⟩)]
      · cases h
    · cases h
  · cases h
theorem oSlice_ag {ty : Nat} {x : AV} {lo hi : Option AV} {e : Eff} (h : oSlice cx s ty x lo hi = some e) (hA : Ag s s' e.rd) : oSlice cx s' ty x lo hi = some e := by
  unfold oSlice at h ⊢
  split at h
  · exact h
  · exact h
  · split at h
    · rename_i hh h1
      split at h
      · rename_i l h2
        split at h
        · rename_i el hk
          split at h
          · rename_i ei hei
            obtain ⟨hb, h⟩ := cond_some h
            cases h
            try simp only [h1, h2, hk, hei]
            simp only [Bool.and_eq_true] at hb
            rw [cond_t (by simp only [Bool.and_eq_true]; exact ⟨hb.1, use_ag hA.hd hb.2⟩)]
          · cases h
        · cases h
      · cases h
    · cases h
  · cases h
theorem oFieldAddr_ag {ty f : Nat} {a : AV} {e : Eff} (h : oFieldAddr cx s ty a f = some e) (hA : Ag s s' e.rd) : oFieldAddr cx s' ty a f = some e := by
  unfold oFieldAddr at h ⊢
  split at h
  · split at h
    · rename_i hfs
      split at h
      · cases h
      · split at h
        · exact h
        · obtain ⟨hb, h⟩ := cond_some h
          cases h
          try simp only [hfs]
          rw [cond_t (use_ag hA.hd hb)]
        · cases h
    · cases h
  · cases h
theorem oIndexAddr_ag {ty : Nat} {x ix : AV} {e : Eff} (h : oIndexAddr cx s ty x ix = some e) (hA : Ag s s' e.rd) : oIndexAddr cx s' ty x ix = some e := by
  unfold oIndexAddr at h ⊢
  split at h
  · split at h
    · rename_i ei hei
      split at h
      · exact h
      · obtain ⟨hb, h⟩ := cond_some h
        cases h
        try simp only [hei]
        simp only [Bool.and_eq_true] at hb
        rw [cond_t (by simp only [Bool.and_eq_true]; exact ⟨hb.1, use_ag hA.hd hb.2⟩)]
      · cases h
    · cases h
  · cases h
theorem oMakeMap_ag {d : Option Nat} {e : Eff} (h : oMakeMap s d = some e) (hf : Fr s s' e.up) : oMakeMap s' d = some e := by
  unfold oMakeMap at h ⊢
  split at h
  · obtain ⟨hb, h⟩ := cond_none h
    cases h
    rw [cond_t (hf _ _ List.mem_cons_self hb)]
  · cases h
theorem oMapUpdate_ag {ty : Nat} {m k v : AV} {e : Eff} (h : oMapUpdate cx s ty m k v = some e) (hA : Ag s s' e.rd) : oMapUpdate cx s' ty m k v = some e := by
  unfold oMapUpdate at h ⊢
  split at h
  · split at h
    · rename_i kd ks vs hk hl
      split at h
      · rename_i r hm
        obtain ⟨hb, h⟩ := cond_none h
        cases h
        try simp only [hk, look_ag hA.hd hl, hm]
        rw [cond_t hb]
      · cases h
    · cases h
  · cases h
theorem oLookup_ag {ty : Nat} {x k : AV} {ok : Bool} {e : Eff} (h : oLookup cx s ty x k ok = some e) (hA : Ag s s' e.rd) : oLookup cx s' ty x k ok = some e := by
  unfold oLookup at h ⊢
  split at h
  · split at h
    · rename_i kd ei ks vs hk hei hl
      split at h
      · rename_i v z hm
        obtain ⟨hb, h⟩ := cond_none h
        cases h
        try simp only [hk, hei, look_ag hA.hd hl, hm]
        rw [cond_t hb]
      · rename_i z hm hz
        obtain ⟨hb, h⟩ := cond_none h
        cases h
        try simp only [hk, hei, look_ag hA.hd hl, hm, hz]
        rw [cond_t hb]
      · cases h
    · cases h
  · cases h
theorem oLen_ag {ty : Nat} {x : AV} {e : Eff} (h : oLen cx s ty x = some e) (hA : Ag s s' e.rd) : oLen cx s' ty x = some e := by
  unfold oLen at h ⊢
  split at h
  · exact h
  · exact h
  · obtain ⟨hb, h⟩ := cond_some h
    cases h
    rw [cond_t (use_ag hA.hd hb)]
  · split at h
    · rename_i hl
      cases h
      try simp only [look_ag hA.hd hl]
    · cases h
  · cases h
theorem oApp1_ag {d sz bytes : Nat} {a : AV} {new : List AV} {rs : List Rd} {us : List Up} {e : Eff} (h : oApp1 s d sz bytes a new rs us = some e) (hA : Ag s s' e.rd) (hf : Fr s s' e.up) : oApp1 s' d sz bytes a new rs us = some e := by
  unfold oApp1 at h ⊢
  split at h
  · split at h
    · exact h
    · obtain ⟨hb, h⟩ := cond_none h
      cases h
      simp only [Bool.and_eq_true] at hb
      try simp only
      rw [cond_t (by simp only [Bool.and_eq_true]; exact ⟨use_ag hA.hd hb.1, hb.2⟩)]
    · cases h
  · split at h
    · obtain ⟨hb, h⟩ := cond_some h
      cases h
      simp only [Bool.and_eq_true] at hb
      try simp only
      rw [cond_t (by simp only [Bool.and_eq_true]; exact ⟨⟨hb.1.1, hf _ _ (List.mem_append_right _ List.mem_cons_self) hb.1.2⟩, hb.2⟩)]
    · split at h
      · rename_i hl
        obtain ⟨hb, h⟩ := cond_some h
        cases h
        simp only [Bool.and_eq_true] at hb
        try simp only [look_ag hA.hd hl]
        rw [cond_t (by simp only [Bool.and_eq_true]; exact ⟨⟨hb.1.1, hf _ _ (List.mem_append_right _ List.mem_cons_self) hb.1.2⟩, hb.2⟩)]
      · cases h
    · cases h
theorem oApp1_rd {d sz bytes : Nat} {a : AV} {new : List AV} {rs : List Rd} {us : List Up} {e : Eff} (h : oApp1 s d sz bytes a new rs us = some e) : ∀ r ∈ rs, r ∈ e.rd := by
  unfold oApp1 at h
  split at h
  · split at h
    · obtain ⟨hb, h⟩ := cond_none h; cases h; exact fun r hr => hr
    · obtain ⟨hb, h⟩ := cond_none h; cases h; exact fun r hr => List.mem_cons_of_mem _ hr
    · cases h
  · split at h
    · obtain ⟨hb, h⟩ := cond_some h; cases h; exact fun r hr => hr
    · split at h
      · obtain ⟨hb, h⟩ := cond_some h; cases h; exact fun r hr => List.mem_cons_of_mem _ hr
      · cases h
    · cases h
theorem oAppend_ag {d : Option Nat} {tys : List Nat} {args : List AV} {e : Eff} (h : oAppend cx s d tys args = some e) (hA : Ag s s' e.rd) (hf : Fr s s' e.up) : oAppend cx s' d tys args = some e := by
  unfold oAppend at h ⊢
  split at h
  · split at h
    · cases h
    · rename_i el k hk hxk _ 
      split at h
      · rename_i ei hei
        split at h
        · rename_i new rs us hel
          try simp only [hei, elems_ag hel (hA.sub (oApp1_rd h))]
          exact oApp1_ag h hA hf
        · cases h
      · cases h
    · cases h
  · cases h
theorem oCopy_ag {tys : List Nat} {args : List AV} {e : Eff} (h : oCopy cx s tys args = some e) (hA : Ag s s' e.rd) : oCopy cx s' tys args = some e := by
  unfold oCopy at h ⊢
  split at h
  · split at h
    · rename_i el hk
      split at h
      · rename_i ei hei
        split at h
        · rename_i new rs sz' es hel hl
          obtain ⟨hb, h⟩ := cond_some h
          cases h
          obtain ⟨c', e1, e2⟩ := look_hd hA.hd hl
          obtain ⟨es', rfl, e3, _⟩ := hd_ow e2
          try simp only [hk, hei, elems_ag hel hA.tl, e1]
          simp only [Bool.and_eq_true] at hb
          rw [cond_t (by simp only [Bool.and_eq_true]; rw [e3]; exact hb)]
        · cases h
      · cases h
    · cases h
  · cases h
theorem oBuiltin_ag {d : Option Nat} {b : Builtin} {tys : List Nat} {args : List AV} {e : Eff} (h : oBuiltin cx s d b tys args = some e) (hA : Ag s s' e.rd) (hf : Fr s s' e.up) : oBuiltin cx s' d b tys args = some e := by
  unfold oBuiltin at h ⊢
  split at h
  · split at h
    · exact oLen_ag h hA
    · cases h
  · exact oAppend_ag h hA hf
  · exact oCopy_ag h hA
  · exact h
  · exact h
  · cases h
theorem callX_ag {call : CallF} {d f : Nat} {args : List AV} {e : Eff} (h : callX cx call s d f args = some e) (hA : Ag s s' e.rd) (hf : Fr s s' e.up) : callX cx call s' d f args = some e := by
  unfold callX at h ⊢
  split at h
  · cases h
  · rename_i fn hfn
    split at h
    · cases h
    · rename_i x hx
      simp only [fDL_eq, fD_eq] at h ⊢
      split at h
      · cases h
      · rename_i res outs hc
        split at h
        · cases h
        · rename_i hl
          split at h
          · cases h
          · rename_i ius hi
            have key : ∃ r : AV × List Up, (if fn.own = true then imp (1024 * (d + 1)) res else (frz 0 res, [])) = r ∧ (!s.alias && noLkL x.vs && Nat.ble x.io.length 1 && apartUps (x.up ++ ius) && newsOk s r.2) = true ∧ e = { val := r.1, rd := x.rd, up := x.up ++ ius ++ r.2 } := by
              revert h
              generalize (if fn.own = true then imp (1024 * (d + 1)) res else (frz 0 res, [])) = r
              intro h
              split at h
              · rename_i hu; cases h; exact ⟨r, rfl, hu, rfl⟩
              · cases h
            obtain ⟨r, hr, hu, rfl⟩ := key
            simp only [expArgs_ag hx hA, hc, hi]
            rw [if_neg hl, hr, hA.al, if_pos]
            simp only [Bool.and_eq_true] at hu ⊢
            exact ⟨hu.1, newsOk_ag (fun q a hm => hf q a (List.mem_append_right _ hm)) hu.2⟩
theorem opX_ag {call : CallF} {keep : Nat} {o : Oper} {e : Eff} (h : opX cx call keep s o = some e) (hA : Ag s s' e.rd) (hf : Fr s s' e.up) (hev : ∀ x ∈ o.op.operands.toList, ev s' x = ev s x) : opX cx call keep s' o = some e := by
  have h1 : ∀ {x : Operand}, x ∈ o.op.operands.toList → ev s' x = ev s x := fun hx => hev _ hx
  unfold opX at h ⊢
  split at h <;> rename_i hop <;> simp only [hop, Op.operands] at h1 hev ⊢
  · rw [h1 (by simp)]; exact h
  · rw [h1 (by simp)]; exact h
  · rename_i c a b; rw [h1 (x := c) (by simp), h1 (x := a) (by simp), h1 (x := b) (by simp)]; exact h
  · exact oAlloc_ag h hf
  · rw [h1 (by simp)]; exact oBox_ag h hA hf
  · rename_i ty ps
    have : (ps.toList.map fun p => (p.1, ev s' p.2)) = ps.toList.map fun p => (p.1, ev s p.2) := List.map_congr_left fun p hp => by
      rw [h1 (x := p.2) (by simp only [List.mem_map]; exact ⟨p, hp, rfl⟩)]
    rw [this]; exact h
  · rename_i ty len ps
    have : (ps.toList.map fun p => (p.1, ev s' p.2)) = ps.toList.map fun p => (p.1, ev s p.2) := List.map_congr_left fun p hp => by
      rw [h1 (x := p.2) (by simp only [List.mem_map]; exact ⟨p, hp, rfl⟩)]
    rw [this]; exact oBuildSlice_ag h hA hf
  · rw [h1 (by simp)]; exact oLoad_ag h hA
  · rename_i ty x y; rw [h1 (x := x) (by simp), h1 (x := y) (by simp)]; exact oStore_ag h hA
  · rw [h1 (by simp)]; exact oNil_ag h hA
  · rename_i op ty x y _; rw [h1 (x := x) (by simp), h1 (x := y) (by simp)]; exact h
  · rw [h1 (by simp)]; exact h
  · rename_i ty x y; rw [h1 (x := x) (by simp), h1 (x := y) (by simp)]; exact oMakeSlice_ag h hf
  · rename_i ty x lo hi
    have e1 : lo.map (ev s') = lo.map (ev s) := by cases lo with | none => rfl | some l => simp only [Option.map_some]; rw [h1 (by simp)]
    have e2 : hi.map (ev s') = hi.map (ev s) := by cases hi with | none => rfl | some l => simp only [Option.map_some]; rw [h1 (by simp)]
    rw [h1 (x := x) (by simp), e1, e2]; exact oSlice_ag h hA
  · rw [h1 (by simp)]; exact oFieldAddr_ag h hA
  · rw [h1 (by simp)]; exact h
  · rename_i ty x y; rw [h1 (x := x) (by simp), h1 (x := y) (by simp)]; exact oIndexAddr_ag h hA
  · rename_i ty x y; rw [h1 (x := x) (by simp), h1 (x := y) (by simp)]; exact h
  · rw [h1 (by simp)]; exact h
  · exact oMakeMap_ag h hf
  · rename_i ty r
    rw [h1 (x := r) (by simp)]
    split at h
    · rename_i hk hr; try simp only [hk, hr]
      exact oMakeMap_ag h hf
    · cases h
  · rename_i ty m k v; rw [h1 (x := m) (by simp), h1 (x := k) (by simp), h1 (x := v) (by simp)]; exact oMapUpdate_ag h hA
  · rename_i ty m k v; rw [h1 (x := m) (by simp), h1 (x := k) (by simp), h1 (x := v) (by simp)]; exact oMapUpdate_ag h hA
  · rename_i ty x k ok; rw [h1 (x := x) (by simp), h1 (x := k) (by simp)]; exact oLookup_ag h hA
  · rename_i c
    have e1 : c.args.toList.map (ev s') = c.args.toList.map (ev s) := List.map_congr_left fun x hx => h1 (by
      simp only [Call.operands, Array.toList_append, List.mem_append]; exact .inr hx)
    unfold oCall at h ⊢
    rw [e1]
    split at h
    · exact oBuiltin_ag h hA hf
    · exact callX_ag h hA hf
    · cases h
  · cases h
end Go.Am
end
section
namespace Go.Am
open Go.RowKit Go.Lib
variable {s s' s1 s2 : St} {cx : Cx} {call : CallF} {keep io : Nat} {ops : Array Oper}
theorem put1_self {a x : AV} {t : Nat × Nat} (h : step1 a t = some x) : put1 a t x = a := by
  obtain ⟨i, j⟩ := t
  have cell : ∀ e : AV, (cells e)[j]? = some x → putCell e j x = e := by
    intro e he
    cases e with
    | agg cs =>
      simp only [cells] at he
      simp only [putCell]
      obtain ⟨hlt, rfl⟩ := List.getElem?_eq_some_iff.1 he
      rw [List.set_getElem_self]
    | _ =>
      simp only [cells] at he
      cases j with
      | zero => simp at he; subst he; simp [putCell]
      | succ j => simp at he
  rcases step1_some h with ⟨sz, es, e, rfl, he, hj⟩ | ⟨e, rfl, rfl, hj⟩
  · simp only [put1, he, cell e hj]
    obtain ⟨hlt, rfl⟩ := List.getElem?_eq_some_iff.1 he
    rw [List.set_getElem_self]
  · simp only [put1, cell e hj]
theorem setT_none : ∀ {p : List (Nat × Nat)} {a c : AV}, getT a p = none → setT a p c = a
  | [], a, c, h => by simp [getT] at h
  | t :: p, a, c, h => by
    simp only [getT] at h
    simp only [setT]
    cases hs : step1 a t with
    | none => rfl
    | some x =>
      rw [hs] at h
      simp only [Option.bind_some] at h
      simp only [setT_none h]
      exact put1_self hs
theorem setT_some_nonAgg : ∀ {p : List (Nat × Nat)} {a c old : AV}, getT a p = some old → nonAgg c = true → nonAgg (setT a p c) = true
  | [], a, c, old, h, hc => hc
  | t :: p, a, c, old, h, hc => by
    obtain ⟨x, h1, h2, h3, h4⟩ := setT_node h hc
    rw [h2]
    rcases step1_some (i := t.1) (j := t.2) h1 with ⟨sz, es, e, rfl, he, hj⟩ | ⟨e, rfl, _, hj⟩
    · simp only [put1, he]; rfl
    · rfl
/-- Two trees of which the one is the other with cell t put anew. -/
theorem put1_comm {a x y c d : AV} {t t' : Nat × Nat} (hne : t' ≠ t) (h1 : step1 a t = some x) (h2 : step1 a t' = some y) (hc : nonAgg c = true) (hd : nonAgg d = true) :
    put1 (put1 a t c) t' d = put1 (put1 a t' d) t c := by
  obtain ⟨i, j⟩ := t
  obtain ⟨i', j'⟩ := t'
  have cellc : ∀ e : AV, (cells e)[j]? = some x → (cells e)[j']? = some y → j' ≠ j → putCell (putCell e j c) j' d = putCell (putCell e j' d) j c := by
    intro e hx hy hjj
    cases e with
    | agg cs => simp only [putCell]; rw [List.set_comm _ _ (fun e => hjj e.symm)]
    | _ =>
      simp only [cells] at hx hy
      cases j with
      | succ j => simp at hx
      | zero =>
        cases j' with
        | succ j' => simp at hy
        | zero => exact absurd rfl hjj
  rcases step1_some h1 with ⟨sz, es, e, rfl, he, hj⟩ | ⟨e, rfl, rfl, hj⟩
  · rcases step1_some h2 with ⟨sz', es', e', heq, he', hj'⟩ | ⟨e', heq, _, hj'⟩
    · cases heq
      by_cases hi : i' = i
      · subst hi
        rw [he] at he'; cases he'
        have hjj : j' ≠ j := fun e => hne (by rw [e])
        have hlt := (List.getElem?_eq_some_iff.1 he).1
        have e1 : (es.set i' (putCell e j c))[i']? = some (putCell e j c) := by rw [List.getElem?_set]; simp [hlt]
        have e2 : (es.set i' (putCell e j' d))[i']? = some (putCell e j' d) := by rw [List.getElem?_set]; simp [hlt]
        simp only [put1, he, e1, e2, List.set_set, cellc e hj hj' hjj]
      · have e1 : (es.set i (putCell e j c))[i']? = some e' := by rw [List.getElem?_set, if_neg (fun e => hi e.symm)]; exact he'
        have e2 : (es.set i' (putCell e' j' d))[i]? = some e := by rw [List.getElem?_set, if_neg hi]; exact he
        simp only [put1, he, he', e1, e2]
        rw [List.set_comm _ _ (fun e => hi e.symm)]
    · cases heq
  · rcases step1_some h2 with ⟨sz', es', e', heq, he', hj'⟩ | ⟨e', heq, hi', hj'⟩
    · cases heq
    · cases heq; subst hi'
      have hjj : j' ≠ j := fun e => hne (by rw [e])
      simp only [put1, cellc e hj hj' hjj]
theorem setT_comm {c d : AV} (hc : nonAgg c = true) (hd : nonAgg d = true) : ∀ {u : List (Nat × Nat)} {a : AV} {t t' : Nat × Nat} {p q : List (Nat × Nat)}, t' ≠ t →
    setT (setT a (u ++ t :: p) c) (u ++ t' :: q) d = setT (setT a (u ++ t' :: q) d) (u ++ t :: p) c
  | [], a, t, t', p, q, hne => by
    simp only [List.nil_append]
    cases h1 : getT a (t :: p) with
    | none =>
      rw [setT_none h1]
      cases h2 : getT a (t' :: q) with
      | none => rw [setT_none h2, setT_none h1]
      | some old =>
        have := getT_setT_apart (u := []) (q := p) h2 hd (fun e => hne e.symm)
        simp only [List.nil_append] at this
        rw [h1] at this
        rw [setT_none this]
    | some old1 =>
      cases h2 : getT a (t' :: q) with
      | none =>
        have := getT_setT_apart (u := []) (q := q) h1 hc hne
        simp only [List.nil_append] at this
        rw [h2] at this
        rw [setT_none this, setT_none h2]
      | some old2 =>
        obtain ⟨x, a1, a2, a3, a4⟩ := setT_node h1 hc
        obtain ⟨y, b1, b2, b3, b4⟩ := setT_node h2 hd
        have e1 : step1 (put1 a t (setT x p c)) t' = some y := by rw [step1_put1 a1 a4, if_neg hne]; exact b1
        have e2 : step1 (put1 a t' (setT y q d)) t = some x := by rw [step1_put1 b1 b4, if_neg (fun e => hne e.symm)]; exact a1
        rw [a2, b2]
        simp only [setT, e1, e2]
        exact put1_comm hne a1 b1 a4 b4
  | r :: u, a, t, t', p, q, hne => by
    simp only [List.cons_append]
    cases hr : step1 a r with
    | none => simp only [setT, hr]
    | some x =>
      have key : ∀ {P Q : List (Nat × Nat)} {c d : AV}, nonAgg c = true → P ≠ [] → setT (setT a (r :: P) c) (r :: Q) d = (match getT x P with | none => setT a (r :: Q) d | some _ => put1 a r (setT (setT x P c) Q d)) := by
        intro P Q c d hc hP
        cases hx : getT x P with
        | none =>
          have : getT a (r :: P) = none := by simp only [getT, hr, Option.bind_some]; exact hx
          rw [setT_none this]
        | some old =>
          have hn := setT_some_nonAgg hx hc
          simp only [setT, hr]
          rw [step1_put1 hr hn, if_pos rfl]
          simp only
          have put2 : ∀ z w : AV, nonAgg z = true → put1 (put1 a r z) r w = put1 a r w := by
            intro z w hz
            obtain ⟨i, j⟩ := r
            have hcell : ∀ e : AV, (cells e)[j]? = some x → putCell (putCell e j z) j w = putCell e j w := by
              intro e he
              cases e with
              | agg cs => simp only [putCell, List.set_set]
              | _ =>
                simp only [cells] at he
                cases j with
                | succ j => simp at he
                | zero => cases z <;> first | (cases hz; done) | simp [putCell]
            rcases step1_some hr with ⟨sz, es, e, rfl, he, hj⟩ | ⟨e, rfl, rfl, hj⟩
            · have hlt := (List.getElem?_eq_some_iff.1 he).1
              have e1 : (es.set i (putCell e j z))[i]? = some (putCell e j z) := by rw [List.getElem?_set]; simp [hlt]
              simp only [put1, he, e1, List.set_set, hcell e hj]
            · simp only [put1, hcell e hj]
          rw [put2 _ _ hn]
      rw [key hc (by simp), key hd (by simp)]
      have ih := setT_comm hc hd (u := u) (a := x) (p := p) (q := q) hne
      have sx : ∀ {Q : List (Nat × Nat)} {d : AV}, setT a (r :: Q) d = put1 a r (setT x Q d) := by intro Q d; simp only [setT, hr]
      cases h1 : getT x (u ++ t :: p) with
      | none =>
        cases h2 : getT x (u ++ t' :: q) with
        | none => simp only [sx]; rw [setT_none h2, setT_none h1]
        | some o2 =>
          simp only
          rw [sx]
          have := getT_setT_apart (u := u) (q := p) h2 hd (fun e => hne e.symm)
          rw [h1] at this
          rw [setT_none this]
      | some o1 =>
        cases h2 : getT x (u ++ t' :: q) with
        | none =>
          simp only
          rw [sx]
          have := getT_setT_apart (u := u) (q := q) h1 hc hne
          rw [h2] at this
          rw [setT_none this]
        | some o2 => simp only; rw [ih]
theorem setT_apart {c d : AV} (hc : nonAgg c = true) (hd : nonAgg d = true) {a : AV} {p q : List (Nat × Nat)} (h1 : pre p q = false) (h2 : pre q p = false) : setT (setT a p c) q d = setT (setT a q d) p c := by
  obtain ⟨u, t, t', p', q', hne, rfl, rfl⟩ := pre_apart h1 h2
  exact setT_comm hc hd hne
def hext (h h' : Hp) : Prop := ∀ r, hget h r = hget h' r
theorem hget_app (h : Hp) (u : Up) (r : Nat) : hget (u.app h) r = if r = u.pl.r then (match u with
    | .set pl a | .inn pl a | .fill pl a => (hget h r).map fun t => setT t pl.p a
    | .new _ a => some a
    | .del _ => none) else hget h r := by
  have put : ∀ (pl : Pl) (a : AV), hget (match hget h pl.r with | some t => hins h pl.r (setT t pl.p a) | none => h) r = if r = pl.r then (hget h r).map fun t => setT t pl.p a else hget h r := by
    intro pl a
    by_cases e : r = pl.r
    · subst e
      cases hh : hget h pl.r with
      | none => simp [hh]
      | some t => simp [hget_hins]
    · rw [if_neg e]
      cases hh : hget h pl.r with
      | none => rfl
      | some t => simp only [hget_hins, if_neg e]
  cases u with
  | set pl a => exact put pl a
  | inn pl a => exact put pl a
  | fill pl a => exact put pl a
  | new q a =>
    by_cases e : r = q
    · rw [if_pos (show r = (Up.new q a).pl.r from e)]; simp only [Up.app, hget_hins, if_pos e]
    · rw [if_neg (show ¬ r = (Up.new q a).pl.r from e)]; simp only [Up.app, hget_hins, if_neg e]
  | del q =>
    by_cases e : r = q
    · rw [if_pos (show r = (Up.del q).pl.r from e)]; simp only [Up.app, hget_hdel, if_pos e]
    · rw [if_neg (show ¬ r = (Up.del q).pl.r from e)]; simp only [Up.app, hget_hdel, if_neg e]
theorem app_ext {h h' : Hp} (he : hext h h') (u : Up) : hext (u.app h) (u.app h') := by
  intro r
  rw [hget_app, hget_app]
  by_cases e : r = u.pl.r
  · rw [if_pos e, if_pos e]; cases u <;> simp only [he r]
  · rw [if_neg e, if_neg e]; exact he r
theorem apps_ext : ∀ (us : List Up) {h h' : Hp}, hext h h' → hext (Up.apps us h) (Up.apps us h')
  | [], _, _, he => he
  | u :: us, _, _, he => apps_ext us (app_ext he u)
theorem meets_false {u v : Up} (h : u.meets v = false) : u.pl.r ≠ v.pl.r ∨ (u.pl.r = v.pl.r ∧ pre u.pl.p v.pl.p = false ∧ pre v.pl.p u.pl.p = false) := Pl.apart_iff (meets_apart h)
theorem app_comm {h : Hp} {u v : Up} (hu : upOk io u = true) (hv : upOk io v = true) (hm : u.meets v = false) : hext (u.app (v.app h)) (v.app (u.app h)) := by
  intro r
  simp only [hget_app]
  rcases meets_false hm with h1 | ⟨h1, h2, h3⟩
  · by_cases e : r = u.pl.r
    · have e' : r ≠ v.pl.r := fun x => h1 (e ▸ x)
      simp only [if_pos e, if_neg e']
    · by_cases e' : r = v.pl.r
      · simp only [if_neg e, if_pos e']
      · simp only [if_neg e, if_neg e']
  · by_cases e : r = u.pl.r
    · have e' : r = v.pl.r := e.trans h1
      simp only [if_pos e, if_pos e']
      have nu : (∃ pl a, (u = .set pl a ∨ u = .fill pl a) ∧ nonAgg a = true) := by
        cases u with
        | set pl a => simp only [upOk, Bool.and_eq_true] at hu; exact ⟨pl, a, .inl rfl, hu.2⟩
        | fill pl a => simp only [upOk, Bool.and_eq_true] at hu; exact ⟨pl, a, .inr rfl, hu.2⟩
        | inn pl a => simp only [upOk, List.isEmpty_iff] at hu; simp only [Up.pl, hu, pre] at h2; cases h2
        | new q a => simp only [Up.pl, pre] at h2; cases h2
        | del q => simp only [Up.pl, pre] at h2; cases h2
      have nv : (∃ pl a, (v = .set pl a ∨ v = .fill pl a) ∧ nonAgg a = true) := by
        cases v with
        | set pl a => simp only [upOk, Bool.and_eq_true] at hv; exact ⟨pl, a, .inl rfl, hv.2⟩
        | fill pl a => simp only [upOk, Bool.and_eq_true] at hv; exact ⟨pl, a, .inr rfl, hv.2⟩
        | inn pl a => simp only [upOk, List.isEmpty_iff] at hv; simp only [Up.pl, hv, pre] at h3; cases h3
        | new q a => simp only [Up.pl, pre] at h3; cases h3
        | del q => simp only [Up.pl, pre] at h3; cases h3
      obtain ⟨p, a, hp, ha⟩ := nu
      obtain ⟨q, b, hq, hb⟩ := nv
      have : ∀ t : AV, setT (setT t q.p b) p.p a = setT (setT t p.p a) q.p b := by
        intro t
        refine setT_apart hb ha ?_ ?_
        · rcases hp with rfl | rfl <;> rcases hq with rfl | rfl <;> exact h3
        · rcases hp with rfl | rfl <;> rcases hq with rfl | rfl <;> exact h2
      rcases hp with rfl | rfl <;> rcases hq with rfl | rfl <;> cases hget h r <;> simp [this]
    · have e' : r ≠ v.pl.r := fun x => e (x.trans h1.symm)
      simp only [if_neg e, if_neg e']
theorem apps_comm1 {u : Up} (hu : upOk io u = true) : ∀ {vs : List Up} {h : Hp}, (∀ v ∈ vs, upOk io v = true ∧ u.meets v = false) → hext (u.app (Up.apps vs h)) (Up.apps vs (u.app h))
  | [], h, _ => fun _ => rfl
  | v :: vs, h, hv => by
    have h1 := apps_comm1 hu (vs := vs) (h := v.app h) fun x hx => hv x (List.mem_cons_of_mem _ hx)
    obtain ⟨a1, a2⟩ := hv v List.mem_cons_self
    intro r
    exact (h1 r).trans (apps_ext vs (app_comm hu a1 a2) r)
theorem apps_comm : ∀ {us vs : List Up} {h : Hp}, (∀ u ∈ us, upOk io u = true) → (∀ v ∈ vs, upOk io v = true) → (∀ u ∈ us, ∀ v ∈ vs, u.meets v = false) → hext (Up.apps us (Up.apps vs h)) (Up.apps vs (Up.apps us h))
  | [], vs, h, _, _, _ => fun _ => rfl
  | u :: us, vs, h, hu, hv, hm => by
    have h1 := apps_comm1 (hu u List.mem_cons_self) (vs := vs) (h := h) fun v hvm => ⟨hv v hvm, hm u List.mem_cons_self v hvm⟩
    intro r
    exact (apps_ext us h1 r).trans (apps_comm (us := us) (h := u.app h) (fun x hx => hu x (List.mem_cons_of_mem _ hx)) hv (fun x hx => hm x (List.mem_cons_of_mem _ hx)) r)
end Go.Am
end
section
namespace Go.Am
open Go.RowKit Go.Lib
variable {s s' s1 s2 : St} {cx : Cx} {call : CallF} {keep io : Nat} {ops : Array Oper}
def stp (s : St) (o : Oper) (e : Eff) : St := { s with t := putX s.t o.dst e.val, h := Up.apps e.up s.h, d := s.d ++ dn e.up }
def skipE : Eff := { val := .tup [], rd := [], up := [] }
structure Eqv (s s' : St) : Prop where
  t : ∀ i, tget s.t i = tget s'.t i
  h : hext s.h s'.h
  d : ∀ u, u ∈ s.d ↔ u ∈ s'.d
  al : s.alias = s'.alias
theorem Eqv.refl : Eqv s s := ⟨fun _ => rfl, fun _ => rfl, fun _ => Iff.rfl, rfl⟩
theorem Eqv.symm (h : Eqv s s') : Eqv s' s := ⟨fun i => (h.t i).symm, fun r => (h.h r).symm, fun u => (h.d u).symm, h.al.symm⟩
theorem Eqv.trans (a : Eqv s s1) (b : Eqv s1 s2) : Eqv s s2 := ⟨fun i => (a.t i).trans (b.t i), fun r => (a.h r).trans (b.h r), fun u => (a.d u).trans (b.d u), a.al.trans b.al⟩
theorem tget_putX (t : Hp) (d : Option Nat) (v : AV) (i : Nat) : tget (putX t d v) i = if d = some i then v else tget t i := by
  cases d with
  | none => simp [putX]
  | some k =>
    simp only [putX, tget_tins, Option.some.injEq]
    by_cases e : i = k
    · rw [if_pos e, if_pos e.symm]
    · rw [if_neg e, if_neg (fun x => e x.symm)]
theorem Eqv.stp (h : Eqv s s') (o : Oper) (e : Eff) : Eqv (stp s o e) (stp s' o e) :=
  ⟨fun i => by simp only [Am.stp, tget_putX, h.t], apps_ext e.up h.h, fun u => by simp only [Am.stp, List.mem_append, h.d], h.al⟩
theorem any_mem {l l' : List Up} (h : ∀ u, u ∈ l ↔ u ∈ l') (p : Up → Bool) : l.any p = l'.any p := by
  rw [Bool.eq_iff_iff, List.any_eq_true, List.any_eq_true]
  exact ⟨fun ⟨x, a, b⟩ => ⟨x, (h x).1 a, b⟩, fun ⟨x, a, b⟩ => ⟨x, (h x).2 a, b⟩⟩
theorem getP_ext {h h' : Hp} (he : hext h h') (pl : Pl) : getP h pl = getP h' pl := by unfold getP; rw [he]
theorem Eqv.ag (h : Eqv s s') (rs : List Rd) : Ag s s' rs :=
  ⟨h.al.symm, fun r _ => ⟨fun hx => by rw [← any_mem h.d]; exact hx, fun _ => (getP_ext h.h _).symm, by rw [getP_ext h.h]⟩⟩
theorem Eqv.fr (h : Eqv s s') (us : List Up) : Fr s s' us := fun r a _ hf => by
  unfold freshId at *
  rw [← h.h, ← any_mem h.d]; exact hf
/-- An operation yields an effect, or is not wanted. -/
def Yl (cx : Cx) (call : CallF) (keep io : Nat) (ops : Array Oper) (s : St) (o : Oper) (e : Eff) : Prop :=
  (wantX ops s o = some true ∧ opX cx call keep s o = some e ∧ e.up.all (upOk io) = true) ∨ (wantX ops s o = some false ∧ e = skipE)
theorem wantX_eq {o : Oper} (h : ∀ j want d, o.guard = some (j, want) → (ops[j]?).bind (·.dst) = some d → tget s'.t d = tget s.t d) : wantX ops s' o = wantX ops s o := by
  unfold wantX
  cases hg : o.guard with
  | none => rfl
  | some jw =>
    obtain ⟨j, want⟩ := jw
    simp only
    cases hd : (ops[j]?).bind (·.dst) with
    | none => rfl
    | some d => simp only [h j want d hg hd]
theorem Yl.move {o : Oper} {e : Eff} (h : Yl cx call keep io ops s o e) (hA : Ag s s' e.rd) (hf : Fr s s' e.up) (ht : ∀ i, i ∈ o.looksAt ops → tget s'.t i = tget s.t i) : Yl cx call keep io ops s' o e := by
  have hw : wantX ops s' o = wantX ops s o := wantX_eq fun j want d hg hd => ht d (by
    simp only [Oper.looksAt, hg, List.mem_append]
    exact .inr (by rw [hd]; simp))
  rcases h with ⟨h1, h2, h3⟩ | ⟨h1, h2⟩
  · refine .inl ⟨hw.trans h1, opX_ag h2 hA hf fun x hx => ?_, h3⟩
    cases x with
    | tmp i =>
      refine ht i ?_
      simp only [Oper.looksAt, List.mem_append, List.mem_filterMap]
      exact .inl ⟨.tmp i, hx, rfl⟩
    | _ => rfl
  · exact .inr ⟨hw.trans h1, h2⟩
theorem Yl.eqv {o : Oper} {e : Eff} (h : Yl cx call keep io ops s o e) (he : Eqv s s') : Yl cx call keep io ops s' o e := h.move (he.ag _) (he.fr _) fun i _ => (he.t i).symm
theorem Yl.ups {o : Oper} {e : Eff} (h : Yl cx call keep io ops s o e) : ∀ u ∈ e.up, upOk io u = true := by
  rcases h with ⟨_, _, h3⟩ | ⟨_, rfl⟩
  · exact List.all_eq_true.1 h3
  · intro u hu; cases hu
theorem getP_app_hd {h : Hp} {u : Up} {r : Rd} (hu : upOk io u = true) (ht : u.touch r = false) : (getP (u.app h) r.pl).map hd = (getP h r.pl).map hd ∧ (r.deep = true → getP (u.app h) r.pl = getP h r.pl) := by
  obtain ⟨⟨rr, rp⟩, deep⟩ := r
  simp only [Up.touch, Bool.or_eq_false_iff] at ht
  obtain ⟨ht1, ht2⟩ := ht
  by_cases er : rr = u.pl.r
  · have set : ∀ (q : Pl) (a : AV), rr = q.r → nonAgg a = true → q.p ≠ [] → (q.pre ⟨rr, rp⟩ = false) → (deep = true → Pl.pre ⟨rr, rp⟩ q = false) → hget (u.app h) rr = (hget h rr).map (fun t => setT t q.p a) →
        (getP (u.app h) ⟨rr, rp⟩).map hd = (getP h ⟨rr, rp⟩).map hd ∧ (deep = true → getP (u.app h) ⟨rr, rp⟩ = getP h ⟨rr, rp⟩) := by
      intro q a e1 ha hq h1 h2 hh
      have p1 : pre q.p rp = false := by simp only [Pl.pre, e1, nbT, Bool.true_and] at h1; exact h1
      unfold getP
      simp only
      rw [hh]
      cases hr : hget h rr with
      | none => simp
      | some t =>
        simp only [Option.map_some, Option.bind_some]
        cases hb : pre rp q.p with
        | false =>
          have : getT (setT t q.p a) rp = getT t rp := by
            obtain ⟨w, x, x', p', q', hne, e2, e3⟩ := pre_apart p1 hb
            cases hx : getT t q.p with
            | none => rw [setT_none hx]
            | some old => rw [e2] at hx ⊢; rw [e3]; exact getT_setT_apart hx ha hne
          rw [this]; exact ⟨rfl, fun _ => rfl⟩
        | true =>
          refine ⟨?_, fun hd => ?_⟩
          · obtain ⟨x, hx⟩ := pre_iff.1 hb
            cases x with
            | nil => rw [List.append_nil] at hx; rw [hx, pre_refl] at p1; cases p1
            | cons st x =>
              cases ho : getT t q.p with
              | none => rw [setT_none ho]
              | some old =>
                rw [hx, getT_append] at ho
                cases hn : getT t rp with
                | none => rw [hn] at ho; cases ho
                | some n =>
                  rw [hn, Option.bind_some] at ho
                  obtain ⟨y, y1, y2, y3, y4⟩ := setT_node ho ha
                  rw [hx, getT_setT_over hn y1]
                  simp only [Option.map_some, Option.some.injEq]
                  obtain ⟨i, j⟩ := st
                  have cellL : ∀ e : AV, (cells e)[j]? = some y → (cells (putCell e j (setT y x a))).length = (cells e).length := by
                    intro e he; rw [cells_putCell he y4, List.length_set]
                  rcases step1_some y1 with ⟨sz, es, e, rfl, he, hj⟩ | ⟨e, rfl, rfl, hj⟩
                  · simp only [put1, he, hd, AV.ow.injEq, true_and]
                    apply List.ext_getElem?
                    intro k
                    simp only [List.getElem?_map, List.getElem?_set]
                    by_cases ek : i = k
                    · subst ek
                      have hlt := (List.getElem?_eq_some_iff.1 he).1
                      simp only [if_true, hlt, Option.map_some, he, cellL e hj]
                    · rw [if_neg ek]
                  · simp only [put1, hd, cellL e hj]
          · have := h2 hd
            simp only [Pl.pre, e1, nbT, Bool.true_and] at this
            rw [this] at hb; cases hb
    cases u with
    | set q a =>
      simp only [upOk, Bool.and_eq_true, Bool.not_eq_true', List.isEmpty_eq_false_iff] at hu
      simp only [Up.hits, Bool.or_eq_false_iff] at ht1
      refine set q a er hu.2 hu.1 ht1.1 (fun hd => ?_) (by rw [hget_app, if_pos er])
      have := ht1.2; rw [hd, Bool.true_and] at this; exact this
    | fill q a => simp only [Up.hits] at ht1; simp only [Up.pl] at er; rw [er, nbT] at ht1; cases ht1
    | inn q a => simp only [Up.pl] at er; simp only [er, nbT] at ht2; cases ht2
    | new q a => simp only [Up.hits] at ht1; simp only [Up.pl] at er; rw [er, nbT] at ht1; cases ht1
    | del q => simp only [Up.hits] at ht1; simp only [Up.pl] at er; rw [er, nbT] at ht1; cases ht1
  · have : getP (u.app h) ⟨rr, rp⟩ = getP h ⟨rr, rp⟩ := by unfold getP; simp only; rw [hget_app, if_neg er]
    rw [this]; exact ⟨rfl, fun _ => rfl⟩
theorem getP_apps_hd {r : Rd} : ∀ {us : List Up} {h : Hp}, (∀ u ∈ us, upOk io u = true) → (∀ u ∈ us, u.touch r = false) → (getP (Up.apps us h) r.pl).map hd = (getP h r.pl).map hd ∧ (r.deep = true → getP (Up.apps us h) r.pl = getP h r.pl)
  | [], h, _, _ => ⟨rfl, fun _ => rfl⟩
  | u :: us, h, hu, ht => by
    obtain ⟨a1, a2⟩ := getP_apps_hd (us := us) (h := u.app h) (fun x hx => hu x (List.mem_cons_of_mem _ hx)) (fun x hx => ht x (List.mem_cons_of_mem _ hx))
    obtain ⟨b1, b2⟩ := getP_app_hd (h := h) (hu u List.mem_cons_self) (ht u List.mem_cons_self)
    exact ⟨a1.trans b1, fun hd => (a2 hd).trans (b2 hd)⟩
theorem same_stp {o : Oper} {e : Eff} {r : Rd} (hu : ∀ u ∈ e.up, upOk io u = true) (ht : ∀ u ∈ e.up, u.touch r = false) : SameR s (stp s o e) r ∧ SameR (stp s o e) s r := by
  obtain ⟨a1, a2⟩ := getP_apps_hd (h := s.h) hu ht
  refine ⟨⟨fun h => ?_, a2, a1⟩, ⟨fun h => ?_, fun hd => (a2 hd).symm, a1.symm⟩⟩
  · simp only [stp, List.any_append, h, Bool.false_or]
    rw [List.any_eq_false]
    intro u hm
    have := ht u (List.mem_filter.1 hm).1
    simp only [Up.touch, Bool.or_eq_false_iff] at this
    simp [this.1]
  · simp only [stp, List.any_append, Bool.or_eq_false_iff] at h; exact h.1
theorem hget_apps_ne {r : Nat} : ∀ {us : List Up} {h : Hp}, (∀ u ∈ us, u.pl.r ≠ r) → hget (Up.apps us h) r = hget h r
  | [], h, _ => rfl
  | u :: us, h, hu => by
    simp only [Up.apps]
    rw [hget_apps_ne (us := us) fun x hx => hu x (List.mem_cons_of_mem _ hx), hget_app, if_neg (fun e => hu u List.mem_cons_self e.symm)]
/-- Two operations of a region whose order does not matter. -/
structure Ind (ops : Array Oper) (a b : Oper × Eff) : Prop where
  ap : a.1.apart ops b.1 = true
  r1 : ∀ r ∈ b.2.rd, ∀ u ∈ a.2.up, u.touch r = false
  r2 : ∀ r ∈ a.2.rd, ∀ u ∈ b.2.up, u.touch r = false
  w : ∀ u ∈ a.2.up, ∀ v ∈ b.2.up, u.clash v = false
theorem clash_symm {u v : Up} : u.clash v = v.clash u := by
  simp only [Up.clash, Up.meets]
  rw [Bool.or_comm (u.pl.pre v.pl), Bool.or_assoc, Bool.or_comm (lkN u v), ← Bool.or_assoc]
theorem apart_symm {x y : Oper} (h : x.apart ops y = true) : y.apart ops x = true := by
  obtain ⟨h1, h2, h3⟩ := Oper.apart_spec h
  unfold Oper.apart
  rw [Bool.and_eq_true]
  refine ⟨?_, ?_⟩
  · cases hd : y.dst with
    | none => rfl
    | some d =>
      simp only [Bool.and_eq_true, Bool.not_eq_true', bne_iff_ne, ne_eq]
      refine ⟨?_, fun e => h2 d e hd⟩
      have := h3 d hd
      rw [← Bool.not_eq_true, List.contains_iff_mem]; exact this
  · cases hd : x.dst with
    | none => rfl
    | some d =>
      simp only [Bool.not_eq_true']
      have := h1 d hd
      rw [← Bool.not_eq_true, List.contains_iff_mem]; exact this
theorem Ind.symm {a b : Oper × Eff} (h : Ind ops a b) : Ind ops b a := ⟨apart_symm h.ap, h.r2, h.r1, fun u hu v hv => clash_symm.trans (h.w v hv u hu)⟩
theorem clash_new {u : Up} {r : Nat} {a : AV} (h : u.clash (.new r a) = false) : u.pl.r ≠ r ∧ isLk r u = false := by
  simp only [Up.clash, Bool.or_eq_false_iff] at h
  obtain ⟨⟨h1, h2⟩, _⟩ := h
  refine ⟨fun e => ?_, ?_⟩
  · have := (meets_apart h1).2
    simp only [Up.pl, Pl.pre, ← e, nbT, pre] at this
    cases this
  · cases u with
    | set q x =>
      cases x with
      | lk k len => exact h2
      | _ => rfl
    | _ => rfl
theorem Ind.fr {a b : Oper × Eff} (h : Ind ops a b) : Fr s (stp s a.1 a.2) b.2.up ∧ Fr (stp s a.1 a.2) s b.2.up := by
  refine ⟨fun r x hm hf => ?_, fun r x hm hf => ?_⟩
  · unfold freshId at *
    rw [Bool.and_eq_true] at hf ⊢
    refine ⟨?_, ?_⟩
    · simp only [stp]; rw [hget_apps_ne fun u hu => (clash_new (h.w u hu _ hm)).1]; exact hf.1
    · simp only [stp, List.any_append, Bool.not_eq_true', Bool.or_eq_false_iff] at hf ⊢
      refine ⟨hf.2, ?_⟩
      rw [List.any_eq_false]
      intro u hu
      rw [(clash_new (h.w u (List.mem_filter.1 hu).1 _ hm)).2]; decide
  · unfold freshId at *
    rw [Bool.and_eq_true] at hf ⊢
    refine ⟨?_, ?_⟩
    · have := hf.1; simp only [stp] at this; rw [hget_apps_ne fun u hu => (clash_new (h.w u hu _ hm)).1] at this; exact this
    · have := hf.2
      simp only [stp, List.any_append, Bool.not_eq_true', Bool.or_eq_false_iff] at this ⊢; exact this.1
theorem Ind.looks {a b : Oper × Eff} (h : Ind ops a b) (i : Nat) (hi : i ∈ b.1.looksAt ops) : tget (stp s a.1 a.2).t i = tget s.t i := by
  simp only [stp, tget_putX]
  rw [if_neg]
  intro e
  exact (Oper.apart_spec h.ap).1 i e hi
theorem Yl.fwd {a b : Oper × Eff} (ha : Yl cx call keep io ops s a.1 a.2) (h : Ind ops a b) (hb : Yl cx call keep io ops s b.1 b.2) : Yl cx call keep io ops (stp s a.1 a.2) b.1 b.2 :=
  hb.move ⟨rfl, fun r hr => (same_stp ha.ups (h.r1 r hr)).1⟩ h.fr.1 h.looks
theorem Yl.bwd {a b : Oper × Eff} (ha : Yl cx call keep io ops s a.1 a.2) (h : Ind ops a b) (hb : Yl cx call keep io ops (stp s a.1 a.2) b.1 b.2) : Yl cx call keep io ops s b.1 b.2 :=
  hb.move ⟨rfl, fun r hr => (same_stp ha.ups (h.r1 r hr)).2⟩ h.fr.2 fun i hi => (h.looks i hi).symm
theorem stp_comm {a b : Oper × Eff} (ha : ∀ u ∈ a.2.up, upOk io u = true) (hb : ∀ u ∈ b.2.up, upOk io u = true) (h : Ind ops a b) : Eqv (stp (stp s a.1 a.2) b.1 b.2) (stp (stp s b.1 b.2) a.1 a.2) := by
  refine ⟨fun i => ?_, fun r => ?_, fun u => ?_, rfl⟩
  · simp only [stp, tget_putX]
    by_cases e1 : b.1.dst = some i
    · by_cases e2 : a.1.dst = some i
      · exact absurd e1 ((Oper.apart_spec h.ap).2.1 i e2)
      · rw [if_pos e1, if_neg e2, if_pos e1]
    · rw [if_neg e1, if_neg e1]
  · simp only [stp]
    exact apps_comm hb ha (fun v hv u hu => by
      have := h.w u hu v hv
      simp only [Up.clash, Bool.or_eq_false_iff, Up.meets] at this
      simp only [Up.meets, Bool.or_eq_false_iff]; exact ⟨this.1.1.2, this.1.1.1⟩) r
  · simp only [stp, List.mem_append]
    constructor
    · rintro ((h | h) | h)
      · exact .inl (.inl h)
      · exact .inr h
      · exact .inl (.inr h)
    · rintro ((h | h) | h)
      · exact .inl (.inl h)
      · exact .inr h
      · exact .inl (.inr h)
abbrev It := Nat × Oper × Eff
def Val (cx : Cx) (call : CallF) (keep io : Nat) (ops : Array Oper) : St → List It → Prop
  | _, [] => True
  | s, x :: l => Yl cx call keep io ops s x.2.1 x.2.2 ∧ Val cx call keep io ops (stp s x.2.1 x.2.2) l
def fin : St → List It → St
  | s, [] => s
  | s, x :: l => fin (stp s x.2.1 x.2.2) l
theorem Val.eqv : ∀ {l : List It} {s s' : St}, Val cx call keep io ops s l → Eqv s s' → Val cx call keep io ops s' l
  | [], _, _, _, _ => trivial
  | x :: l, _, _, h, he => ⟨h.1.eqv he, Val.eqv h.2 (he.stp _ _)⟩
theorem fin_eqv : ∀ {l : List It} {s s' : St}, Eqv s s' → Eqv (fin s l) (fin s' l)
  | [], _, _, he => he
  | x :: l, _, _, he => fin_eqv (l := l) (he.stp _ _)
theorem bubble : ∀ {l1 : List It} {x : It} {l2 : List It} {s : St}, Val cx call keep io ops s (l1 ++ x :: l2) → (∀ y ∈ l1, Ind ops y.2 x.2) → Val cx call keep io ops s (x :: (l1 ++ l2)) ∧ Eqv (fin s (l1 ++ x :: l2)) (fin s (x :: (l1 ++ l2)))
  | [], x, l2, s, h, _ => ⟨h, .refl⟩
  | y :: l1, x, l2, s, h, hi => by
    obtain ⟨hy, h⟩ := h
    obtain ⟨⟨hx, h1⟩, h2⟩ := bubble (l1 := l1) h fun z hz => hi z (List.mem_cons_of_mem _ hz)
    have hxy := hi y List.mem_cons_self
    have hx' := hy.bwd (b := x.2) hxy hx
    have he := stp_comm (s := s) hy.ups hx.ups hxy
    exact ⟨⟨hx', hx'.fwd (b := y.2) hxy.symm hy, h1.eqv he⟩, h2.trans (fin_eqv (l := l1 ++ l2) he)⟩
end Go.Am
end
section
namespace Go.Am
open Go.RowKit Go.Lib
variable {P : Program} {cx : Cx} {call : CallF} {keep io : Nat} {ops : Array Oper} {Q : Exit → Act → World → Prop}
structure OrdOk (ops : Array Oper) : Prop where
  pair : ∀ i j oi oj, i < j → ops[i]? = some oi → ops[j]? = some oj → ((Region.before ops).getD j 0).testBit i = true ∨ oi.apart ops oj = true
  edge : ∀ k o, ops[k]? = some o → ∀ e ∈ o.after, Region.binds .any e = true → e.on < k
/-- What stands in 'before' comes of an edge. -/
def Good (i : Nat) (acc : Array Nat) (pre : List Oper) : Prop := acc.size = pre.length ∧ ∀ k o, pre[k]? = some o → (acc.getD k 0).testBit i = true →
  ∃ e ∈ o.after, Region.binds .any e = true ∧ (e.on = i ∨ (e.on < k ∧ (acc.getD e.on 0).testBit i = true))
theorem fold_bit (i : Nat) (acc : Array Nat) : ∀ (es : List Edge) (s : Nat), (es.foldl (fun s e => if Region.binds .any e then s ||| 2 ^ e.on ||| acc.getD e.on 0 else s) s).testBit i = true →
    s.testBit i = true ∨ ∃ e ∈ es, Region.binds .any e = true ∧ (e.on = i ∨ (acc.getD e.on 0).testBit i = true)
  | [], s, h => .inl h
  | e :: es, s, h => by
    simp only [List.foldl_cons] at h
    rcases fold_bit i acc es _ h with h1 | ⟨e', a, b, c⟩
    · split at h1
      · rename_i hb
        rw [Nat.testBit_or, Nat.testBit_or, Bool.or_eq_true, Bool.or_eq_true] at h1
        rcases h1 with (h1 | h1) | h1
        · exact .inl h1
        · refine .inr ⟨e, List.mem_cons_self, hb, .inl ?_⟩
          rw [Nat.testBit_two_pow] at h1
          simpa using h1
        · exact .inr ⟨e, List.mem_cons_self, hb, .inr h1⟩
      · exact .inl h1
    · exact .inr ⟨e', List.mem_cons_of_mem _ a, b, c⟩
theorem Good.push {i : Nat} {acc : Array Nat} {pre : List Oper} (h : Good i acc pre) (o : Oper) :
    Good i (acc.push (o.after.foldl (fun s e => if Region.binds .any e then s ||| 2 ^ e.on ||| acc.getD e.on 0 else s) 0)) (pre ++ [o]) := by
  obtain ⟨h1, h2⟩ := h
  refine ⟨by simp [h1], fun k o' hk hb => ?_⟩
  have hlt : ∀ m, m < acc.size → (acc.push (o.after.foldl (fun s e => if Region.binds .any e then s ||| 2 ^ e.on ||| acc.getD e.on 0 else s) 0)).getD m 0 = acc.getD m 0 := by
    intro m hm
    simp [Array.getElem?_push, Nat.ne_of_lt hm]
  by_cases hkl : k < pre.length
  · rw [List.getElem?_append_left hkl] at hk
    rw [hlt k (by omega)] at hb
    obtain ⟨e, a, b, c⟩ := h2 k o' hk hb
    refine ⟨e, a, b, c.imp id fun ⟨c1, c2⟩ => ⟨c1, ?_⟩⟩
    rw [hlt _ (by omega)]; exact c2
  · have hke : k = pre.length := by
      have := (List.getElem?_eq_some_iff.1 hk).1
      simp at this; omega
    subst hke
    rw [List.getElem?_append_right (Nat.le_refl _)] at hk
    simp at hk
    subst hk
    rw [← h1] at hb
    simp only [Array.getD_eq_getD_getElem?, Array.getElem?_push, if_true, Option.getD_some] at hb
    rw [← Array.foldl_toList] at hb
    rcases fold_bit i acc o.after.toList 0 (by simpa using hb) with h3 | ⟨e, a, b, c⟩
    · simp at h3
    · refine ⟨e, by simpa using a, b, ?_⟩
      rcases c with c | c
      · exact .inl c
      · refine .inr ?_
        by_cases hl : e.on < acc.size
        · exact ⟨by omega, by rw [hlt _ hl]; exact c⟩
        · simp [Array.getElem?_eq_none (by omega : acc.size ≤ e.on)] at c
theorem good_fold (i : Nat) : ∀ (l pre : List Oper) (acc : Array Nat), Good i acc pre → Good i (l.foldl (fun acc o => acc.push (o.after.foldl (fun s e => if Region.binds .any e then s ||| 2 ^ e.on ||| acc.getD e.on 0 else s) 0)) acc) (pre ++ l)
  | [], pre, acc, h => by simpa using h
  | o :: l, pre, acc, h => by
    have := good_fold i l (pre ++ [o]) _ (h.push o)
    simpa using this
theorem before_bit {i k : Nat} {o : Oper} (hk : ops[k]? = some o) (hb : ((Region.before ops).getD k 0).testBit i = true) :
    ∃ e ∈ o.after, Region.binds .any e = true ∧ (e.on = i ∨ (e.on < k ∧ ((Region.before ops).getD e.on 0).testBit i = true)) := by
  have h := good_fold i ops.toList [] #[] ⟨rfl, fun k o hk _ => by simp at hk⟩
  simp only [List.nil_append] at h
  have e : Region.before ops = ops.toList.foldl (fun acc o => acc.push (o.after.foldl (fun s e => if Region.binds .any e then s ||| 2 ^ e.on ||| acc.getD e.on 0 else s) 0)) #[] := by
    unfold Region.before; rw [← Array.foldl_toList]
  rw [e] at hb ⊢
  exact h.2 k o (by simpa using hk) hb
/-- What is listed has all that comes before it listed. -/
def Down (ops : Array Oper) (listed : Array Bool) : Prop := ∀ k o, ops[k]? = some o → listed.getD k true = true → ∀ e ∈ o.after, Region.binds .any e = true → listed.getD e.on false = true
theorem down_bit {listed : Array Bool} (hs : listed.size = ops.size) (hd : Down ops listed) {i : Nat} : ∀ (k : Nat) {o : Oper}, ops[k]? = some o → listed.getD k true = true → ((Region.before ops).getD k 0).testBit i = true → listed.getD i false = true := by
  intro k
  induction k using Nat.strongRecOn with
  | ind k ih =>
    intro o hk hl hb
    obtain ⟨e, a, b, c⟩ := before_bit hk hb
    have h1 := hd k o hk hl e a b
    rcases c with c | ⟨c1, c2⟩
    · rw [← c]; exact h1
    · have hlt : e.on < ops.size := Nat.lt_trans c1 (Array.getElem?_eq_some_iff.1 hk).1
      refine ih e.on c1 (Array.getElem?_eq_getElem hlt) ?_ c2
      have hlt' : e.on < listed.size := by omega
      simp [hlt'] at h1 ⊢
      exact h1
/-- The items that are left. -/
structure Left (ops : Array Oper) (listed : Array Bool) (l : List It) : Prop where
  sz : listed.size = ops.size
  op : ∀ x ∈ l, ops[x.1]? = some x.2.1
  un : ∀ x ∈ l, listed.getD x.1 true = false
  all : ∀ i, i < ops.size → listed.getD i true = false → ∃ x ∈ l, x.1 = i
  nd : l.Pairwise fun x y => x.1 < y.1
  ind : l.Pairwise fun x y => Ind ops x.2 y.2 ∨ ((Region.before ops).getD y.1 0).testBit x.1 = true
theorem Left.step {listed : Array Bool} {l1 l2 : List It} {x : It} (h : Left ops listed (l1 ++ x :: l2)) : Left ops (listed.setIfInBounds x.1 true) (l1 ++ l2) := by
  have hsub : (l1 ++ l2).Sublist (l1 ++ x :: l2) := List.Sublist.append_left (List.sublist_cons_self x l2) l1
  have hne : ∀ y ∈ l1 ++ l2, y.1 ≠ x.1 := by
    intro y hy e
    have hp := h.nd
    rw [List.pairwise_append] at hp
    obtain ⟨p1, p2, p3⟩ := hp
    rcases List.mem_append.1 hy with hy | hy
    · have := p3 y hy x List.mem_cons_self; omega
    · have := (List.pairwise_cons.1 p2).1 y hy; omega
  refine ⟨by simp [h.sz], fun y hy => h.op y (hsub.subset hy), fun y hy => ?_, fun i hi hl => ?_, h.nd.sublist hsub, h.ind.sublist hsub⟩
  · rw [getD_set_ne true (fun e => hne y hy e.symm)]; exact h.un y (hsub.subset hy)
  · by_cases e : x.1 = i
    · have hlt : x.1 < listed.size := by rw [h.sz, e]; exact hi
      rw [← e] at hl; simp [hlt] at hl
    · rw [getD_set_ne true e] at hl
      obtain ⟨y, hy, rfl⟩ := h.all i hi hl
      refine ⟨y, ?_, rfl⟩
      rcases List.mem_append.1 hy with hy | hy
      · exact List.mem_append_left _ hy
      · rcases List.mem_cons.1 hy with rfl | hy
        · exact absurd rfl e
        · exact List.mem_append_right _ hy
theorem any_ok {I : St → Act → World → Prop} (hO : OrdOk ops)
    (hI : ∀ i o e s a w K, ops[i]? = some o → I s a w → Yl cx call keep io ops s o e → (∀ a' w', I (stp s o e) a' w' → K a' w') → wpOp P ops Q i K a w) {sf : St} (hQ : ∀ s a w, I s a w → Eqv s sf → Q .normal a w) :
    ∀ (l : List It) (s : St) (listed : Array Bool) (a : Act) (w : World), Left ops listed l → Down ops listed → Val cx call keep io ops s l → Eqv (fin s l) sf → I s a w → wpAny P .any ops Q l.length listed a w := by
  intro l
  generalize hn : l.length = n
  induction n generalizing l with
  | zero =>
    intro s listed a w hL _ _ hf hi
    have : l = [] := List.eq_nil_of_length_eq_zero hn
    subst this
    refine ⟨?_, hQ s a w hi hf⟩
    rw [List.eq_nil_iff_forall_not_mem]
    intro i hm
    obtain ⟨h1, o, h2, _⟩ := mem_ready.1 hm
    obtain ⟨x, hx, _⟩ := hL.all i (Array.getElem?_eq_some_iff.1 h2).1 h1
    cases hx
  | succ n ih =>
    intro s listed a w hL hD hv hf hi
    refine ⟨fun hr => ?_, fun i hm => ?_⟩
    · exfalso
      cases l with
      | nil => cases hn
      | cons x l =>
        have hx := hL.op x List.mem_cons_self
        have : x.1 ∈ Region.ready .any ops listed := by
          rw [mem_ready]
          refine ⟨hL.un x List.mem_cons_self, x.2.1, hx, fun e he hb => ?_⟩
          have hlt := hO.edge _ _ hx e he hb
          have hsz : e.on < ops.size := Nat.lt_trans hlt (Array.getElem?_eq_some_iff.1 hx).1
          cases hl : listed.getD e.on true with
          | true => 
            have hlt' : e.on < listed.size := by rw [hL.sz]; exact hsz
            simp [hlt'] at hl ⊢; exact hl
          | false =>
            obtain ⟨y, hy, e2⟩ := hL.all e.on hsz hl
            have hp := (List.pairwise_cons.1 hL.nd).1
            rcases List.mem_cons.1 hy with rfl | hy
            · omega
            · have := hp y hy; omega
        rw [hr] at this; cases this
    · obtain ⟨h1, o, h2, h3⟩ := mem_ready.1 hm
      obtain ⟨x, hx, rfl⟩ := hL.all i (Array.getElem?_eq_some_iff.1 h2).1 h1
      obtain ⟨l1, l2, rfl⟩ := List.append_of_mem hx
      have hxo := hL.op x hx
      rw [h2] at hxo; cases hxo
      have hind : ∀ y ∈ l1, Ind ops y.2 x.2 := by
        intro y hy
        have hp := hL.ind
        rw [List.pairwise_append] at hp
        rcases hp.2.2 y hy x List.mem_cons_self with h | h
        · exact h
        · exfalso
          have hyu := hL.un y (List.mem_append_left _ hy)
          have hyl : listed.getD y.1 false = true := by
            obtain ⟨e, a1, a2, a3⟩ := before_bit h2 h
            have h4 := h3 e a1 a2
            rcases a3 with a3 | ⟨a3, a4⟩
            · rw [← a3]; exact h4
            · have hlt : e.on < ops.size := Nat.lt_trans a3 (Array.getElem?_eq_some_iff.1 h2).1
              refine down_bit hL.sz hD e.on (Array.getElem?_eq_getElem hlt) ?_ a4
              have hlt' : e.on < listed.size := by rw [hL.sz]; exact hlt
              simp [hlt'] at h4 ⊢; exact h4
          have hlt : y.1 < listed.size := by
            rcases Nat.lt_or_ge y.1 listed.size with h' | h'
            · exact h'
            · simp [Array.getElem?_eq_none h'] at hyl
          simp [hlt] at hyu hyl
          rw [hyu] at hyl; cases hyl
      obtain ⟨⟨b1, b2⟩, b3⟩ := bubble hv hind
      refine hI x.1 _ x.2.2 s a w _ h2 hi b1 fun a' w' hi' => ?_
      refine ih (l1 ++ l2) (by simp at hn ⊢; omega) _ _ a' w' hL.step ?_ b2 (b3.symm.trans hf) hi'
      intro k ok hk hl e he hb
      by_cases ek : x.1 = k
      · subst ek
        rw [h2] at hk; cases hk
        exact getD_set_true (h3 e he hb)
      · rw [getD_set_ne true ek] at hl
        exact getD_set_true (hD k ok hk hl e he hb)
theorem seq_ok {I : St → Act → World → Prop}
    (hI : ∀ i o e s a w K, ops[i]? = some o → I s a w → Yl cx call keep io ops s o e → (∀ a' w', I (stp s o e) a' w' → K a' w') → wpOp P ops Q i K a w) {sf : St} (hQ : ∀ s a w, I s a w → Eqv s sf → Q .normal a w) :
    ∀ (l : List It) (s : St) (a : Act) (w : World), (∀ x ∈ l, ops[x.1]? = some x.2.1) → Val cx call keep io ops s l → Eqv (fin s l) sf → I s a w → wpOps P ops Q (l.map (·.1)) a w
  | [], s, a, w, _, _, hf, hi => hQ s a w hi hf
  | x :: l, s, a, w, hop, hv, hf, hi => by
    simp only [List.map_cons]
    rw [wpOps_cons]
    exact hI x.1 _ x.2.2 s a w _ (hop x List.mem_cons_self) hi hv.1 fun a' w' hi' => seq_ok hI hQ l _ a' w' (fun y hy => hop y (List.mem_cons_of_mem _ hy)) hv.2 hf hi'
theorem indep_skip {e : Eff} : indep skipE e = true ∧ indep e skipE = true := by
  constructor
  · simp [indep, skipE]
  · simp [indep, skipE]
theorem indep_ind {a b : Oper × Eff} (h : indep a.2 b.2 = true) (hap : a.1.apart ops b.1 = true) : Ind ops a b := by
  simp only [indep, Bool.and_eq_true, Bool.or_eq_true, List.isEmpty_iff, List.all_eq_true, Bool.not_eq_true'] at h
  obtain ⟨h1, h2⟩ := h
  refine ⟨hap, fun r hr u hu => ?_, fun r hr u hu => ?_, fun u hu v hv => ?_⟩
  · rcases h1 with h1 | ⟨h1, _⟩
    · rw [h1] at hu; cases hu
    · exact h1 r hr u hu
  · rcases h2 with h2 | h2
    · rw [h2] at hu; cases hu
    · exact h2 r hr u hu
  · rcases h1 with h1 | ⟨_, h1⟩
    · rw [h1] at hu; cases hu
    · exact h1 v hv u hu
theorem checkX_all {k : Nat} {e : Eff} : ∀ {log : List (Nat × Eff)}, checkX ops k e log = true → ∀ x ∈ log, indep x.2 e = true ∨ ((Region.before ops).getD k 0).testBit x.1 = true
  | (i, e') :: log, h, x, hx => by
    simp only [checkX, Bool.and_eq_true, Bool.or_eq_true] at h
    rcases List.mem_cons.1 hx with rfl | hx
    · exact h.1
    · exact checkX_all h.2 x hx
theorem runOps_items {draw : Bool} : ∀ {os : List Oper} {k : Nat} {s sf : St} {log : List (Nat × Eff)}, runOps cx call keep io ops draw os k s log = some sf →
    ∃ l : List It, l.map (·.1) = List.range' k os.length ∧ l.map (·.2.1) = os ∧ Val cx call keep io ops s l ∧ fin s l = sf ∧
      (draw = true → (∀ x ∈ log, ∀ y ∈ l, indep x.2 y.2.2 = true ∨ ((Region.before ops).getD y.1 0).testBit x.1 = true) ∧ l.Pairwise fun x y => indep x.2.2 y.2.2 = true ∨ ((Region.before ops).getD y.1 0).testBit x.1 = true)
  | [], k, s, sf, log, h => by
    simp only [runOps, Option.some.injEq] at h
    subst h
    exact ⟨[], rfl, rfl, trivial, rfl, fun _ => ⟨fun x _ y hy => (List.not_mem_nil hy).elim, List.Pairwise.nil⟩⟩
  | o :: os, k, s, sf, log, h => by
    simp only [runOps] at h
    split at h
    · cases h
    · rename_i hw
      have es : ({ s with t := putX s.t o.dst (.tup []) } : St) = stp s o skipE := by simp [stp, skipE, dn, Up.apps]
      rw [es] at h
      obtain ⟨l, a1, a2, a3, a4, a5⟩ := runOps_items h
      refine ⟨(k, o, skipE) :: l, by simp [a1, List.range'_succ], by simp [a2], ⟨.inr ⟨hw, rfl⟩, a3⟩, a4, fun hd => ?_⟩
      obtain ⟨b1, b2⟩ := a5 hd
      refine ⟨fun x hx y hy => ?_, List.pairwise_cons.2 ⟨fun y _ => .inl indep_skip.1, b2⟩⟩
      rcases List.mem_cons.1 hy with rfl | hy
      · exact .inl indep_skip.2
      · exact b1 x hx y hy
    · rename_i hw
      split at h
      · cases h
      · rename_i e he
        split at h
        · cases h
        · rename_i hup
          split at h
          · cases h
          · rename_i hck
            simp only [fA_eq, fU_eq] at h
            have es : ({ s with t := putX s.t o.dst e.val, h := Up.apps e.up s.h, d := s.d ++ e.up.filter fun u => !u.isNew } : St) = stp s o e := rfl
            rw [es] at h
            obtain ⟨l, a1, a2, a3, a4, a5⟩ := runOps_items h
            refine ⟨(k, o, e) :: l, by simp [a1, List.range'_succ], by simp [a2], ⟨.inl ⟨hw, he, by simpa using hup⟩, a3⟩, a4, fun hd => ?_⟩
            obtain ⟨b1, b2⟩ := a5 hd
            refine ⟨fun x hx y hy => ?_, List.pairwise_cons.2 ⟨fun y hy => b1 (k, e) List.mem_cons_self y hy, b2⟩⟩
            rcases List.mem_cons.1 hy with rfl | hy
            · have : checkX ops k e log = true := by simpa [hd] using hck
              exact checkX_all this x hx
            · exact b1 x (List.mem_cons_of_mem _ hx) y hy
theorem region_ok {I : St → Act → World → Prop} {id : Nat} {draw : Bool} (hm : P.follows .mixedOrders = true) (hO : draw = true → OrdOk ops)
    (hI : ∀ i o e s a w K, ops[i]? = some o → I s a w → Yl cx call keep io ops s o e → (∀ a' w', I (stp s o e) a' w' → K a' w') → wpOp P ops Q i K a w) {s sf : St} (hQ : ∀ s a w, I s a w → Eqv s sf → Q .normal a w)
    (hr : runOps cx call keep io ops draw ops.toList 0 s [] = some sf) {a : Act} {w : World} (hi : I s a w) (hi' : I s a { w with drawn := w.drawn + 1 }) : (Code.region id ops draw).wp P Q a w := by
  obtain ⟨l, a1, a2, a3, a4, a5⟩ := runOps_items hr
  have hlen : l.length = ops.size := by have := congrArg List.length a1; simpa using this
  have hop : ∀ x ∈ l, ops[x.1]? = some x.2.1 := by
    intro x hx
    obtain ⟨n, hn, rfl⟩ := List.getElem_of_mem hx
    have h1 : (l.map (·.1))[n]? = some n := by rw [a1]; simp [List.getElem?_range', hlen ▸ hn]
    have h2 : (l.map (·.2.1))[n]? = ops[n]? := by rw [a2]; simp
    simp only [List.getElem?_map, List.getElem?_eq_getElem hn, Option.map_some, Option.some.injEq] at h1 h2
    rw [h1]; exact h2.symm
  cases draw with
  | false =>
    refine wp_region ?_
    rw [List.range_eq_range', show ops.size = ops.toList.length by simp, ← a1]
    exact seq_ok hI hQ l s a w hop a3 (a4 ▸ .refl) hi
  | true =>
    refine wp_region_any hm ?_
    rw [← hlen]
    obtain ⟨_, b2⟩ := a5 rfl
    have nd : l.Pairwise fun x y => x.1 < y.1 := by
      have : (l.map (·.1)).Pairwise (· < ·) := by rw [a1]; exact List.pairwise_lt_range'
      exact List.pairwise_map.1 this
    refine any_ok (hO rfl) hI hQ l s _ a _ ⟨by simp [hlen], hop, fun x hx => ?_, fun i hi _ => ?_, nd, ?_⟩ (fun k o hk hl => ?_) a3 (a4 ▸ .refl) hi'
    · have := (Array.getElem?_eq_some_iff.1 (hop x hx)).1
      simp [hlen, this]
    · have hlt : i < l.length := by omega
      refine ⟨l[i], List.getElem_mem hlt, ?_⟩
      have h1 : (l.map (·.1))[i]? = some i := by rw [a1]; simp [List.getElem?_range', hi]
      simp only [List.getElem?_map, List.getElem?_eq_getElem hlt, Option.map_some, Option.some.injEq] at h1
      exact h1
    · have := nd.and b2
      rw [List.pairwise_iff_forall_sublist] at this ⊢
      intro x y hs
      obtain ⟨c1, c2⟩ := this hs
      have hx := hop x (hs.subset (by simp))
      have hy := hop y (hs.subset (by simp))
      rcases c2 with c2 | c2
      · rcases (hO rfl).pair _ _ _ _ c1 hx hy with d | d
        · exact .inr d
        · exact .inl (indep_ind c2 d)
      · exact .inr c2
    · have := (Array.getElem?_eq_some_iff.1 hk).1
      simp [hlen, this] at hl
end Go.Am
end
section
namespace Go.Am
open Go.RowKit Go.Lib
variable {P : Program} {cx : Cx} {call : CallF} {keep io nt : Nat} {ops : Array Oper} {Q : Exit → Act → World → Prop} {B : Base} {ν : Nat → Option Nd}
inductive XDs (F : Fz) (g : Gh) (d : List Up) : List AV → List Value → Prop
  | nil : XDs F g d [] []
  | cons {a : AV} {v : Value} {l : List AV} {vs : List Value} (h : XD F g d a v) (t : XDs F g d l vs) : XDs F g d (a :: l) (v :: vs)
theorem XDs.map {F : Fz} {g : Gh} {s : St} {ρ : Operand → Value} (hx : ∀ x, XD F g s.d (ev s x) (ρ x)) : ∀ l : List Operand, XDs F g s.d (l.map (ev s)) (l.map ρ)
  | [] => .nil
  | x :: l => .cons (hx x) (XDs.map hx l)
/-- A function that the machine knows. -/
structure FOk (P : Program) (f : Nat) (fn : FnS) (pf : Func) : Prop where
  at_ : P.funcs[f]? = some pf
  name : (pf.name == "runtime.NumGoroutine") = false
  body : pf.body = some fn.body
/-- What a call leaves. -/
def Ret (R : Value → World → Prop) : Ending → World → Prop
  | .returned v, w => R v w
  | _, _ => False
def CallsOk (P : Program) (cx : Cx) (call : CallF) : Prop := ∀ {B : Base} {g : Gh} {R : Nat → Value} {s : St} {w : World} {d f : Nat} {args : List AV} {vs : List Value} {e : Eff},
  RM B (Kd s.d) g R s.h w → XDs (mkF B g w) g s.d args vs → callX cx call s d f args = some e →
  ∃ fn pf, FOk P f fn pf ∧ Calls P f vs.toArray w (Ret fun v w' => ∃ g' R', Lands B g s w e v w' g' R')
structure Inv (B : Base) (io nt : Nat) (ν : Nat → Option Nd) (s : St) (a : Act) (w : World) : Prop where
  ex : ∃ g R, RM B (Kd s.d) g R s.h w ∧ TX (mkF B g w) g s.d s.t (fun i => a.tmps.getD i undef) ∧ ∀ r x, io.testBit r = true → hget s.h r = some x → okD s.d ⟨r, []⟩ ∧ ∀ n, ν r = some n → g r [] = some n
  sz : a.tmps.size = nt
  df : a.defers = []
theorem apps_io {r : Nat} (hr : io.testBit r = true) : ∀ {us : List Up} {h : Hp} {x : AV}, (∀ u ∈ us, upOk io u = true) → hget (Up.apps us h) r = some x → (∃ y, hget h r = some y) ∧ ∀ u ∈ us, u.isNew = false → u.hits ⟨⟨r, []⟩, false⟩ = false
  | [], h, x, _, hx => ⟨⟨x, hx⟩, fun u hu => by cases hu⟩
  | u :: us, h, x, hu, hx => by
    obtain ⟨⟨y, hy⟩, h2⟩ := apps_io hr (us := us) (h := u.app h) (fun z hz => hu z (List.mem_cons_of_mem _ hz)) hx
    have hou := hu u List.mem_cons_self
    have key : (∃ y, hget h r = some y) ∧ (u.isNew = false → u.hits ⟨⟨r, []⟩, false⟩ = false) := by
      rw [hget_app] at hy
      cases u with
      | set q a =>
        simp only [upOk, Bool.and_eq_true, Bool.not_eq_true', List.isEmpty_eq_false_iff] at hou
        refine ⟨?_, fun _ => ?_⟩
        · split at hy
          · cases hh : hget h r with
            | none => rw [hh] at hy; cases hy
            | some z => exact ⟨z, rfl⟩
          · exact ⟨y, hy⟩
        · simp only [Up.hits, Bool.false_and, Bool.or_false, Pl.pre]
          cases hq : q.p with
          | nil => exact absurd hq hou.1
          | cons t p => simp [pre]
      | fill q a =>
        refine ⟨?_, fun h => by cases h⟩
        split at hy
        · cases hh : hget h r with
          | none => rw [hh] at hy; cases hy
          | some z => exact ⟨z, rfl⟩
        · exact ⟨y, hy⟩
      | inn q a =>
        simp only [upOk, List.isEmpty_iff] at hou
        refine ⟨?_, fun _ => ?_⟩
        · split at hy
          · cases hh : hget h r with
            | none => rw [hh] at hy; cases hy
            | some z => exact ⟨z, rfl⟩
          · exact ⟨y, hy⟩
        · simp [Up.hits, hou]
      | new q a =>
        simp only [upOk, Bool.not_eq_true'] at hou
        refine ⟨?_, fun h => by cases h⟩
        split at hy
        · rename_i e; simp only [Up.pl] at e; rw [← e, hr] at hou; cases hou
        · exact ⟨y, hy⟩
      | del q =>
        split at hy
        · cases hy
        · rename_i e
          refine ⟨⟨y, hy⟩, fun _ => ?_⟩
          simp only [Up.hits]
          exact nbF fun e' => e e'.symm
    refine ⟨key.1, fun z hz hn => ?_⟩
    rcases List.mem_cons.1 hz with rfl | hz
    · exact key.2 hn
    · exact h2 z hz hn
theorem getD_put {a : Act} {d : Nat} {v : Value} (hd : d < a.tmps.size) : (fun i => (a.put (some d) v).tmps.getD i undef) = fun i => if i = d then v else a.tmps.getD i undef := by
  funext i
  simp only [Act.put, Array.getD_eq_getD_getElem?]
  by_cases e : i = d
  · subst e; simp [hd]
  · rw [if_neg e, Array.getElem?_setIfInBounds_ne (fun x => e x.symm)]
theorem Inv.step {s : St} {a : Act} {w w' : World} {o : Oper} {e : Eff} {v : Value} {g g' : Gh} {R' : Nat → Value} (hd : ∀ d, o.dst = some d → d < nt) (hup : ∀ u ∈ e.up, upOk io u = true) (hsz : a.tmps.size = nt) (hdf : a.defers = [])
    (hT : TX (mkF B g w) g s.d s.t (fun i => a.tmps.getD i undef)) (hio : ∀ r x, io.testBit r = true → hget s.h r = some x → okD s.d ⟨r, []⟩ ∧ ∀ n, ν r = some n → g r [] = some n)
    (hL : Lands B g s w e v w' g' R') : Inv B io nt ν (stp s o e) (a.put o.dst v) w' := by
  refine ⟨⟨g', R', hL.rm, ?_, fun r x hr hx => ?_⟩, ?_, ?_⟩
  · have hT' := hT.step hL.le (fun pl hp => okD_append hp) hL.keep
    cases ho : o.dst with
    | none => simp only [stp, ho, putX, Act.put]; exact hT'
    | some d =>
      rw [getD_put (hsz ▸ hd d ho)]
      simp only [stp, ho, putX]
      exact hT'.put hL.val
  · obtain ⟨⟨y, hy⟩, h2⟩ := apps_io hr hup hx
    obtain ⟨h3, h4⟩ := hio r y hr hy
    have hok : okD (s.d ++ dn e.up) ⟨r, []⟩ := by
      unfold okD at *
      rw [List.any_append, h3, Bool.false_or, List.any_eq_false]
      intro u hu
      have := List.mem_filter.1 hu
      rw [h2 u this.1 (by simpa using this.2)]; decide
    exact ⟨hok, fun n hn => hL.keep ⟨r, []⟩ n hok (h4 n hn)⟩
  · cases o.dst <;> simp [Act.put, hsz]
  · cases o.dst <;> simp [Act.put, hdf]
theorem X_tup0 {F : Fz} {g : Gh} {d : List Up} {v : Value} (hx : XD F g d (.tup []) v) : v = .tuple #[] := by
  rcases hx with hx | hx
  · cases hx
  · have e : fade d (.tup []) = .tup [] := rfl
    rw [e] at hx
    cases hx with
    | c hx => cases hx with
      | c hx => cases hx with
        | f hx => cases hx
    | tup hx => cases hx; rfl
theorem wanted_ok {s : St} {a : Act} {F : Fz} {g : Gh} {o : Oper} {b : Bool} (hT : TX F g s.d s.t (fun i => a.tmps.getD i undef)) (h : wantX ops s o = some b) : Region.wanted o (yielded ops a.tmps) = b := by
  unfold wantX at h
  unfold Region.wanted
  cases hg : o.guard with
  | none => rw [hg] at h; simp at h; show true = b; exact h.symm
  | some jw =>
    obtain ⟨j, want⟩ := jw
    rw [hg] at h
    simp only at h ⊢
    cases hd : (ops[j]?).bind (·.dst) with
    | none => rw [hd] at h; cases h
    | some d =>
      rw [hd] at h
      simp only at h
      have hx := hT.get d
      unfold yielded
      rw [hd, Option.bind_some]
      split at h
      · rename_i c hc
        rw [hc] at hx
        have hv := X_bool hx
        simp only [Option.some.injEq] at h
        subst h
        rw [Array.getD_eq_getD_getElem?] at hv
        cases ht : a.tmps[d]? with
        | none => rw [ht] at hv; cases hv
        | some v =>
          rw [ht] at hv
          simp only [Option.getD_some] at hv
          subst hv
          simp only
          cases c <;> cases want <;> rfl
      · rename_i hc
        rw [hc] at hx
        simp only [Option.some.injEq] at h
        subst h
        have hv : a.tmps.getD d undef = .tuple #[] := X_tup0 hx
        rw [Array.getD_eq_getD_getElem?] at hv
        cases ht : a.tmps[d]? with
        | none => rfl
        | some v =>
          rw [ht] at hv
          simp only [Option.getD_some] at hv
          subst hv
          rfl
      · cases h
theorem op_ok (hT : TOk P cx) (hC : CallsOk P cx call) (hdst : ∀ o ∈ ops, ∀ d, o.dst = some d → d < nt) (i : Nat) (o : Oper) (e : Eff) (s : St) (a : Act) (w : World) (K : Act → World → Prop) (hi : ops[i]? = some o)
    (hI : Inv B io nt ν s a w) (hy : Yl cx call keep io ops s o e) (hK : ∀ a' w', Inv B io nt ν (stp s o e) a' w' → K a' w') : wpOp P ops Q i K a w := by
  obtain ⟨⟨g, R, H, hTX, hio⟩, hsz, hdf⟩ := hI
  have hdd : ∀ d, o.dst = some d → d < nt := hdst o (Array.mem_of_getElem? hi)
  unfold wpOp
  rw [hi]
  simp only
  rcases hy with ⟨h1, h2, h3⟩ | ⟨h1, rfl⟩
  · rw [wanted_ok hTX h1, if_pos rfl]
    refine .inl ?_
    have hup : ∀ u ∈ e.up, upOk io u = true := List.all_eq_true.1 h3
    have hx : ∀ x, XD (mkF B g w) g s.d (ev s x) (a.eval x) := ev_X (ρ := a.eval) hTX.get (fun v => rfl)
    have fin : ∀ v w' g' R', Lands B g s w e v w' g' R' → K (a.put o.dst v) w' := fun v w' g' R' hL => hK _ _ (Inv.step hdd hup hsz hdf hTX hio hL)
    by_cases hc : ∃ c f, o.op = .call c ∧ c.callee = .value (.func f)
    · obtain ⟨c, f, hop, hcal⟩ := hc
      have hX : callX cx call s (o.dst.getD 0) f (c.args.toList.map (ev s)) = some e := by
        unfold opX at h2
        rw [hop] at h2
        simp only [oCall, hcal] at h2
        exact h2
      obtain ⟨fn, pf, hf, hcalls⟩ := hC H (XDs.map hx c.args.toList) hX
      unfold Oper.wp
      have hexec : (execOp a.eval o).run P w = .ok (.enter f (c.args.map a.eval)) w := by
        have e1 : execOp a.eval o = callFunc f (#[] ++ c.args.map a.eval ++ #[]) := by
          unfold execOp
          rw [hop]
          unfold Go.resolve
          simp only [hcal]
          rfl
        rw [e1]
        unfold callFunc
        simp only [Sem.run_bind, Go.run_program, Result.andThen_ok, hf.at_, hf.name, hf.body]
        simp
      rw [hexec]
      simp only [Oper.upon]
      have e2 : c.args.map a.eval = (c.args.toList.map a.eval).toArray := by apply Array.ext'; simp
      rw [e2]
      refine hcalls.mono fun en w' hr => ?_
      cases en with
      | returned v => obtain ⟨g', R', hL⟩ := hr; exact fin v w' g' R' hL
      | panicked c => exact hr.elim
      | outgrown => exact hr.elim
    · have hG := opX_ok (P := P) hT H hx (fun c f ho hcal => hc ⟨c, f, ho, hcal⟩) h2
      obtain ⟨nx, v, w', g', R', b1, b2, b3⟩ := hG
      unfold Oper.wp
      rw [b1]
      rcases b2 with rfl | ⟨rfl, rfl⟩
      · exact fin v w' g' R' b3
      · exact fin undef w' g' R' b3
  · rw [wanted_ok hTX h1]
    simp only [Bool.false_eq_true, if_false]
    refine hK _ _ (Inv.step hdd (fun u hu => by cases hu) hsz hdf hTX hio (R' := R) (g' := g) ?_)
    refine Lands.still H (.inr ?_)
    show RX _ _ (.tup []) _
    exact .tup .nil
theorem fade_ext {d d' : List Up} (h : ∀ u, u ∈ d ↔ u ∈ d') : ∀ a, fade d a = fade d' a := by
  have c : ∀ c, staleC d c = staleC d' c := by
    intro c; cases c <;> simp only [staleC] <;> exact any_mem h _
  have fc : ∀ c, fadeC d c = fadeC d' c := fun x => by unfold fadeC; rw [c]
  have f1 : ∀ a, fade1 d a = fade1 d' a := by
    intro a; cases a <;> simp only [fade1] <;> first | exact fc _ | (congr 1; exact List.map_congr_left fun x _ => fc x)
  intro a
  cases a <;> simp only [fade] <;> first | exact f1 _ | (congr 1; exact List.map_congr_left fun x _ => f1 x)
theorem hget_of_mem : ∀ {t : Hp}, t.Pairwise (fun x y => y.1 < x.1) → ∀ x ∈ t, hget t x.1 = some x.2
  | (k, y) :: t, hp, x, hx => by
    obtain ⟨h1, h2⟩ := List.pairwise_cons.1 hp
    simp only [hget]
    rcases List.mem_cons.1 hx with rfl | hx
    · rw [nbT]; rfl
    · have := h1 x hx
      rw [nbF (by simp at this; omega), cond_false]
      exact hget_of_mem h2 x hx
theorem fin_sorted : ∀ {l : List It} {s : St}, s.t.Pairwise (fun x y => y.1 < x.1) → (fin s l).t.Pairwise fun x y => y.1 < x.1
  | [], _, h => h
  | x :: l, s, h => by
    refine fin_sorted (l := l) ?_
    simp only [stp]
    cases x.2.1.dst with
    | none => exact h
    | some d => exact (tins_mem h).1
theorem Inv.eqv {s s' : St} {a : Act} {w : World} (h : Inv B io nt ν s a w) (he : Eqv s s') (hs : s'.t.Pairwise fun x y => y.1 < x.1) : Inv B io nt ν s' a w := by
  obtain ⟨⟨g, R, H, hT, hio⟩, hsz, hdf⟩ := h
  refine ⟨⟨g, R, ?_, ⟨hs, fun x hx => ?_⟩, fun r x hr hx => ?_⟩, hsz, hdf⟩
  · refine (H.congr fun r => (he.h r).symm).weakK fun q ⟨pl, len, hq⟩ => ⟨pl, len, (he.d _).1 hq⟩
  · have h1 := hT.get x.1
    rw [he.t] at h1
    unfold tget at h1
    rw [hget_of_mem hs x hx] at h1
    unfold XD at h1 ⊢
    rw [← fade_ext he.d]; exact h1
  · rw [← he.h] at hx
    obtain ⟨h1, h2⟩ := hio r x hr hx
    refine ⟨?_, h2⟩
    unfold okD at *
    rw [← any_mem he.d]; exact h1
theorem Inv.drawn {s : St} {a : Act} {w : World} (h : Inv B io nt ν s a w) (k : Nat) : Inv B io nt ν s a { w with drawn := k } := by
  obtain ⟨⟨g, R, H, hT, hio⟩, hsz, hdf⟩ := h
  exact ⟨⟨g, R, H.world rfl rfl rfl rfl, hT, hio⟩, hsz, hdf⟩
theorem Inv.alias {s : St} {a : Act} {w : World} (h : Inv B io nt ν s a w) (b : Bool) : Inv B io nt ν { s with alias := b } a w := ⟨h.ex, h.sz, h.df⟩
theorem runOps_sorted {draw : Bool} {os : List Oper} {k : Nat} {s sf : St} {log : List (Nat × Eff)} (h : runOps cx call keep io ops draw os k s log = some sf) (hs : s.t.Pairwise fun x y => y.1 < x.1) : sf.t.Pairwise fun x y => y.1 < x.1 := by
  obtain ⟨l, _, _, _, a4, _⟩ := runOps_items h
  rw [← a4]; exact fin_sorted hs
theorem regionX_ok {id : Nat} {draw alias : Bool} {s s' : St} {a : Act} {w : World} (hT : TOk P cx) (hC : CallsOk P cx call) (hm : P.follows .mixedOrders = true) (hO : draw = true → OrdOk ops) (hdst : ∀ o ∈ ops, ∀ d, o.dst = some d → d < nt)
    (hr : regionX cx call keep io ops draw alias s = some s') (hI : Inv B io nt ν s a w) (hd : s.d = []) (hQ : ∀ a w, Inv B io nt ν s' a w → s'.d = [] → Q .normal a w) : (Code.region id ops draw).wp P Q a w := by
  unfold regionX at hr
  split at hr
  · cases hr
  · rename_i s1 hs1
    have hI0 : Inv B io nt ν { killX ops.toList s with alias := alias } a w := by
      obtain ⟨⟨g, R, H, hTX, hio⟩, hsz, hdf⟩ := hI
      rw [hd] at H hTX hio
      obtain ⟨g', a1, a2, a3, a4, a5, a6⟩ := killX_ok (ops := ops.toList) H hTX
      refine Inv.alias (s := killX ops.toList s) ⟨⟨g', R, by rw [a5, hd]; exact a1, by rw [a5, hd]; exact a2, fun r x hrr hx => ?_⟩, hsz, hdf⟩ alias
      obtain ⟨b1, b2⟩ := a4 r x hx
      obtain ⟨_, c1⟩ := hio r x hrr b1
      exact ⟨by rw [a5, hd]; rfl, fun n hn => by rw [b2]; exact c1 n hn⟩
    refine region_ok (I := fun s a w => Inv B io nt ν s a w) hm hO (fun i o e s a w K => op_ok hT hC hdst i o e s a w K) (fun s2 a2 w2 h2 he => ?_) hs1 hI0 (hI0.drawn _)
    have hsrt : s1.t.Pairwise fun x y => y.1 < x.1 := by
      obtain ⟨⟨g, R, H, hTX, hio⟩, _, _⟩ := hI0
      exact runOps_sorted hs1 hTX.sorted
    obtain ⟨⟨g, R, H, hTX, hio⟩, hsz, hdf⟩ := h2.eqv he hsrt
    obtain ⟨g', R', b1, b2, b3, b4, b5⟩ := finX_ok (io := io) H hTX hr
    refine hQ a2 w2 ⟨⟨g', R', ?_, ?_, fun r x hrr hx => ?_⟩, hsz, hdf⟩ b4
    · exact b1.weakK fun q hq => hq.elim
    · rw [b4]; exact b2
    · obtain ⟨⟨y, hy⟩, c2⟩ := b5 r x hrr hx
      obtain ⟨_, d1⟩ := hio r y hrr hy
      exact ⟨by rw [b4]; rfl, fun n hn => c2 n (d1 n hn)⟩
def Xt.ex : Xt → Exit
  | .normal => .normal
  | .exit id => .exit id
  | .ret => .ret
def CodeOk (nt : Nat) : Code → Prop
  | .region _ ops draw => (draw = true → OrdOk ops) ∧ ∀ o ∈ ops, ∀ d, o.dst = some d → d < nt
  | .seq a b => CodeOk nt a ∧ CodeOk nt b
  | .cond _ a b => CodeOk nt a ∧ CodeOk nt b
  | .block _ b => CodeOk nt b
  | .loop b => CodeOk nt b
  | _ => True
theorem execX_ok {noMove : List Nat} (hT : TOk P cx) (hC : CallsOk P cx call) (hm : P.follows .mixedOrders = true) : ∀ (n : Nat) (c : Code) (s s' : St) (r : Xt) (Q : Exit → Act → World → Prop) (a : Act) (w : World), CodeOk nt c → execX cx call keep io noMove n c s = some (r, s') →
    Inv B io nt ν s a w → s.d = [] → (∀ a w, Inv B io nt ν s' a w → s'.d = [] → Q r.ex a w) → c.wp P Q a w ∧ (∀ b, c = .loop b → Code.rounds P b Q n a w)
  | 0, c, s, s', r, Q, a, w, _, he, _, _, _ => by simp [execX, oops] at he
  | n + 1, c, s, s', r, Q, a, w, hc, he, hI, hd, hQ => by
    have IH := fun {c s s' r Q a w} h1 h2 h3 h4 h5 => (execX_ok (noMove := noMove) hT hC hm n c s s' r Q a w h1 h2 h3 h4 h5).1
    cases c with
    | skip =>
      simp only [execX, Option.some.injEq, Prod.mk.injEq] at he
      obtain ⟨rfl, rfl⟩ := he
      exact ⟨wp_skip (hQ a w hI hd), fun b e => by cases e⟩
    | region id ops draw =>
      simp only [execX] at he
      split at he
      · rename_i s1 hs1
        simp only [Option.some.injEq, Prod.mk.injEq] at he
        obtain ⟨rfl, rfl⟩ := he
        exact ⟨regionX_ok hT hC hm hc.1 hc.2 hs1 hI hd hQ, fun b e => by cases e⟩
      · cases he
    | seq x y =>
      simp only [execX] at he
      refine ⟨wp_seq ?_, fun b e => by cases e⟩
      split at he
      · rename_i s1 hs1
        exact IH hc.1 hs1 hI hd fun a1 w1 h1 h2 => IH hc.2 he h1 h2 hQ
      · rename_i hne
        refine IH hc.1 he hI hd fun a1 w1 h1 h2 => ?_
        cases r with
        | normal => exact absurd he (hne _)
        | exit id => exact hQ a1 w1 h1 h2
        | ret => exact hQ a1 w1 h1 h2
    | cond x y z =>
      simp only [execX] at he
      obtain ⟨g, R, H, hTX, hio⟩ := hI.ex
      have hx : XD (mkF B g w) g s.d (ev s x) (a.eval x) := ev_X (ρ := a.eval) hTX.get (fun v => rfl) x
      refine ⟨?_, fun b e => by cases e⟩
      split at he
      · rename_i hb; rw [hb] at hx; exact wp_cond_true (X_bool hx) (IH hc.1 he hI hd hQ)
      · rename_i hb; rw [hb] at hx; exact wp_cond_false (X_bool hx) (IH hc.2 he hI hd hQ)
      · cases he
    | block id b =>
      simp only [execX] at he
      refine ⟨wp_block ?_, fun b e => by cases e⟩
      split at he
      · rename_i id' s1 hs1
        refine IH hc hs1 hI hd fun a1 w1 h1 h2 => ?_
        simp only [Xt.ex, Exit.inBlock]
        split at he
        · rename_i e
          simp only [Option.some.injEq, Prod.mk.injEq] at he
          obtain ⟨rfl, rfl⟩ := he
          rw [if_pos e]; exact hQ a1 w1 h1 h2
        · rename_i e
          simp only [Option.some.injEq, Prod.mk.injEq] at he
          obtain ⟨rfl, rfl⟩ := he
          rw [if_neg e]; exact hQ a1 w1 h1 h2
      · rename_i hne
        refine IH hc he hI hd fun a1 w1 h1 h2 => ?_
        cases r with
        | normal => exact hQ a1 w1 h1 h2
        | exit id => exact absurd he (hne _ _)
        | ret => exact hQ a1 w1 h1 h2
    | loop b =>
      have key : Code.rounds P b Q (n + 1) a w := by
        rw [rounds_succ]
        simp only [execX] at he
        split at he
        · rename_i s1 hs1
          refine IH hc hs1 hI hd fun a1 w1 h1 h2 => ?_
          exact (execX_ok (noMove := noMove) hT hC hm n (.loop b) s1 s' r Q a1 w1 hc he h1 h2 hQ).2 b rfl
        · rename_i hne
          refine IH hc he hI hd fun a1 w1 h1 h2 => ?_
          cases r with
          | normal => exact absurd he (hne _)
          | exit id => exact hQ a1 w1 h1 h2
          | ret => exact hQ a1 w1 h1 h2
      exact ⟨wp_loop_rounds (n + 1) key, fun b' e => by cases e; exact key⟩
    | exit id =>
      simp only [execX, Option.some.injEq, Prod.mk.injEq] at he
      obtain ⟨rfl, rfl⟩ := he
      exact ⟨wp_exit (hQ a w hI hd), fun b e => by cases e⟩
    | ret =>
      simp only [execX, Option.some.injEq, Prod.mk.injEq] at he
      obtain ⟨rfl, rfl⟩ := he
      exact ⟨wp_ret (hQ a w hI hd), fun b e => by cases e⟩
    | _ => simp [execX, oops] at he
end Go.Am
end
section
namespace Go.Am
open Go.RowKit Go.Lib
variable {P : Program} {cx : Cx} {B : Base} {K : Nat → Prop} {g g' g1 g2 : Gh} {R R' R1 R2 : Nat → Value} {s : St} {h h' h1 h2 : Hp} {w w' : World} {F F' : Fz}
inductive RV1 (F : Fz) (R : Nat → Value) (h : Hp) : Nat → AV → Value → Prop
  | leaf {N : Nat} {c : AV} {v : Value} (hf : RF F c v) : RV1 F R h N c v
  | node {N : Nat} {c : AV} {v : Value} (hn : isNode c = true) (hh : hget h N = some c) (hv : R N = v) : RV1 F R h N c v
inductive RVL (F : Fz) (R : Nat → Value) (h : Hp) : Nat → List AV → List Value → Prop
  | nil {N : Nat} : RVL F R h N [] []
  | cons {N : Nat} {c : AV} {v : Value} {l : List AV} {vs : List Value} (a : RV1 F R h N c v) (t : RVL F R h (N + 1) l vs) : RVL F R h N (c :: l) (v :: vs)
inductive RVE (F : Fz) (R : Nat → Value) (h : Hp) : Nat → AV → Value → Prop
  | un {N : Nat} {v : Value} : RVE F R h N .un v
  | c {N : Nat} {c : AV} {v : Value} (a : RV1 F R h N c v) : RVE F R h N c v
  | agg {N : Nat} {l : List AV} {vs : List Value} (a : RVL F R h N l vs) : RVE F R h N (.agg l) (.agg vs.toArray)
inductive RVT (F : Fz) (R : Nat → Value) (h : Hp) : Nat → List AV → List Value → Prop
  | nil {N : Nat} : RVT F R h N [] []
  | cons {N : Nat} {c : AV} {v : Value} {l : List AV} {vs : List Value} (hu : c ≠ .un) (a : RVE F R h N c v) (t : RVT F R h (N + 64) l vs) : RVT F R h N (c :: l) (v :: vs)
inductive RV (F : Fz) (R : Nat → Value) (h : Hp) : Nat → AV → Value → Prop
  | e {N : Nat} {c : AV} {v : Value} (a : RVE F R h N c v) : RV F R h N c v
  | tup {N : Nat} {l : List AV} {vs : List Value} (a : RVT F R h N l vs) : RV F R h N (.tup l) (.tuple vs.toArray)
theorem RF.noNode {a : AV} {v : Value} (h : RF F a v) : isNode a = false := by cases h <;> rfl
theorem RV1.mv {N N' : Nat} {c : AV} {v : Value} (hle : F.le F') (h0 : RV1 F R h N c v) (hm : isNode c = true → hget h N = some c → hget h' N' = some c ∧ R' N' = R N) : RV1 F' R' h' N' c v := by
  cases h0 with
  | leaf hf => exact .leaf (hf.mono hle)
  | node hn hh hv =>
    obtain ⟨a, b⟩ := hm hn hh
    exact .node hn a (b.trans hv)
theorem offL_shift : ∀ (l : List AV) (k n : Nat), offL (k + n) l = (offL k l).map fun x => (x.1 + n, x.2)
  | [], _, _ => rfl
  | a :: l, k, n => by
    simp only [offL]
    have := offL_shift l (k + 1) n
    rw [show k + 1 + n = k + n + 1 by omega] at this
    split <;> simp [this]
theorem off1_shift (a : AV) (k n : Nat) : off1 (k + n) a = (off1 k a).map fun x => (x.1 + n, x.2) := by
  cases a <;> simp only [off1] <;> exact offL_shift _ _ _
theorem RVL.mv {N N' : Nat} (hle : F.le F') : ∀ {l : List AV} {vs : List Value} {k : Nat}, RVL F R h (N + k) l vs → (∀ x ∈ offL k l, hget h (N + x.1) = some x.2 → hget h' (N' + x.1) = some x.2 ∧ R' (N' + x.1) = R (N + x.1)) → RVL F' R' h' (N' + k) l vs
  | _, _, k, .nil, _ => .nil
  | _, _, k, .cons (c := c) (l := l) a t, hm => by
    simp only [offL] at hm
    refine .cons (a.mv hle fun hn hh => ?_) (RVL.mv (k := k + 1) hle t fun x hx => ?_)
    · rw [if_pos hn] at hm; exact hm (k, c) List.mem_cons_self hh
    · refine hm x ?_
      split
      · exact List.mem_cons_of_mem _ hx
      · exact hx
theorem RVE.mv {N N' k : Nat} {a : AV} {v : Value} (hle : F.le F') (h0 : RVE F R h (N + k) a v) (hm : ∀ x ∈ off1 k a, hget h (N + x.1) = some x.2 → hget h' (N' + x.1) = some x.2 ∧ R' (N' + x.1) = R (N + x.1)) : RVE F' R' h' (N' + k) a v := by
  cases h0 with
  | un => exact .un
  | c a1 =>
    refine .c (a1.mv hle fun hn hh => hm (k, a) ?_ hh)
    cases a <;> simp [isNode] at hn <;> simp [off1, offL, isNode]
  | agg a1 => exact .agg (a1.mv hle hm)
theorem RVT.mv {N N' : Nat} (hle : F.le F') : ∀ {l : List AV} {vs : List Value} {k : Nat}, RVT F R h (N + k) l vs → (∀ x ∈ offT k l, hget h (N + x.1) = some x.2 → hget h' (N' + x.1) = some x.2 ∧ R' (N' + x.1) = R (N + x.1)) → RVT F' R' h' (N' + k) l vs
  | _, _, k, .nil, _ => .nil
  | _, _, k, .cons hu a t, hm => by
    simp only [offT] at hm
    exact .cons hu (a.mv hle fun x hx => hm x (List.mem_append_left _ hx)) (RVT.mv (k := k + 64) hle t fun x hx => hm x (List.mem_append_right _ hx))
theorem RV.mv {N N' : Nat} {a : AV} {v : Value} (hle : F.le F') (h0 : RV F R h N a v) (hm : ∀ x ∈ offs a, hget h (N + x.1) = some x.2 → hget h' (N' + x.1) = some x.2 ∧ R' (N' + x.1) = R (N + x.1)) : RV F' R' h' N' a v := by
  cases h0 with
  | e a1 =>
    refine .e (RVE.mv (N := N) (N' := N') (k := 0) hle a1 fun x hx => hm x ?_)
    cases a with
    | tup vs =>
      cases a1 with
      | c a1 => cases a1 with
        | leaf hf => cases hf
        | node hn _ _ => cases hn
    | _ => exact hx
  | tup a1 => exact .tup (RVT.mv (N := N) (N' := N') (k := 0) hle a1 hm)
/-- every owned part is at its root -/
theorem RVL.roots {N : Nat} : ∀ {l : List AV} {vs : List Value} {k : Nat}, RVL F R h (N + k) l vs → ∀ x ∈ offL k l, hget h (N + x.1) = some x.2 ∧ isNode x.2 = true
  | _, _, k, .nil, x, hx => by cases hx
  | _, _, k, .cons (c := c) a t, x, hx => by
    simp only [offL] at hx
    by_cases hn : isNode c = true
    · rw [if_pos hn] at hx
      rcases List.mem_cons.1 hx with rfl | hx
      · cases a with
        | leaf hf => rw [hf.noNode] at hn; cases hn
        | node _ hh _ => exact ⟨hh, hn⟩
      · exact RVL.roots (k := k + 1) t x hx
    · rw [if_neg hn] at hx; exact RVL.roots (k := k + 1) t x hx
theorem RVE.roots {N k : Nat} {a : AV} {v : Value} (h0 : RVE F R h (N + k) a v) : ∀ x ∈ off1 k a, hget h (N + x.1) = some x.2 ∧ isNode x.2 = true := by
  cases h0 with
  | un => intro x hx; simp [off1, offL, isNode] at hx
  | c a1 =>
    intro x hx
    have : RVL F R h (N + k) [a] [v] := .cons a1 .nil
    cases a with
    | agg cs => cases a1 with
      | leaf hf => cases hf
      | node hn _ _ => cases hn
    | _ => exact this.roots x hx
  | agg a1 => exact a1.roots
theorem RVT.roots {N : Nat} : ∀ {l : List AV} {vs : List Value} {k : Nat}, RVT F R h (N + k) l vs → ∀ x ∈ offT k l, hget h (N + x.1) = some x.2 ∧ isNode x.2 = true
  | _, _, k, .nil, x, hx => by cases hx
  | _, _, k, .cons _ a t, x, hx => by
    simp only [offT] at hx
    rcases List.mem_append.1 hx with hx | hx
    · exact a.roots x hx
    · exact RVT.roots (k := k + 64) t x hx
theorem RV.roots {N : Nat} {a : AV} {v : Value} (h0 : RV F R h N a v) : ∀ x ∈ offs a, hget h (N + x.1) = some x.2 ∧ isNode x.2 = true := by
  cases h0 with
  | e a1 =>
    cases a with
    | tup vs => cases a1 with
      | c a1 => cases a1 with
        | leaf hf => cases hf
        | node hn _ _ => cases hn
    | _ => exact RVE.roots (k := 0) a1
  | tup a1 => exact RVT.roots (k := 0) a1
theorem impL_up : ∀ (N k : Nat) (l : List AV), (impL (N + k) l).2 = (offL k l).map fun x => Up.new (N + x.1) x.2
  | _, _, [] => rfl
  | N, k, a :: l => by
    have ih := impL_up N (k + 1) l
    simp only [impL, offL, show N + k + 1 = N + (k + 1) by omega, ih]
    cases a <;> simp [impCell, isNode]
theorem imp1_up (N k : Nat) (a : AV) : (imp1 (N + k) a).2 = (off1 k a).map fun x => Up.new (N + x.1) x.2 := by
  cases a with
  | agg cs => simp only [imp1, off1]; exact impL_up N k cs
  | _ => simp [imp1, impCell, off1, offL, isNode]
theorem impT_up : ∀ (N k : Nat) (l : List AV), (impT (N + k) l).2 = (offT k l).map fun x => Up.new (N + x.1) x.2
  | _, _, [] => rfl
  | N, k, a :: l => by
    have ih := impT_up N (k + 64) l
    simp only [impT, offT, show N + k + 64 = N + (k + 64) by omega, ih, List.map_append, imp1_up]
theorem imp_up (N : Nat) (a : AV) : (imp N a).2 = (offs a).map fun x => Up.new (N + x.1) x.2 := by
  cases a with
  | tup vs => simp only [imp, offs]; exact impT_up N 0 vs
  | _ => exact imp1_up N 0 _
theorem impC_ok (H : RM B K g R h w) {N : Nat} {c : AV} {v : Value} (h0 : RV1 (mkF B g w) R h N c v) : RT (mkF B g w) g (impCell N c).1 v := by
  cases h0 with
  | leaf hf =>
    have : (impCell N c).1 = c := by cases hf <;> rfl
    rw [this]; exact .f hf
  | node hn hh hv =>
    have ht := (H.tree N c hh).root
    rw [hv] at ht
    cases c with
    | ow sz es =>
      obtain ⟨n, h1, h2, h3, h4, h5, h6⟩ := ht
      rw [h5]
      simp only [impCell]
      rw [← h3]
      have := RT.rf (F := mkF B g w) (g := g) ⟨N, []⟩ 0 es.length n.cap 0 n h1 h2 (by omega) h4 (.inr rfl)
      simpa using this
    | bx e =>
      obtain ⟨n, h1, h2, h3, h4, h5⟩ := ht
      rw [h5]
      have := RT.ptr (F := mkF B g w) (g := g) ⟨N, []⟩ 0 0 n h1 h2
      simp only [impCell]
      simpa using this
    | mp ks vs =>
      obtain ⟨n, es, cl, h1, h2, h3, _⟩ := ht
      rw [h3]
      exact .mrf N n h1 h2
    | _ => cases hn
theorem impL_ok (H : RM B K g R h w) : ∀ {N : Nat} {l : List AV} {vs : List Value}, RVL (mkF B g w) R h N l vs → RTL (mkF B g w) g (impL N l).1 vs
  | _, _, _, .nil => .nil
  | _, _, _, .cons a t => .cons (impC_ok H a) (impL_ok H t)
theorem RT.XD0 {F : Fz} {a : AV} {v : Value} (h : RT F g a v) : RX1 F g (fade1 [] a) v := by
  have : fade1 [] a = a := by
    cases a with
    | agg cs => cases h with | f h => cases h
    | _ => simp [fade1, fadeC, staleC]
  rw [this]; exact .c h
theorem map_fadeC_nil (l : List AV) : l.map (fadeC []) = l := by
  conv => rhs; rw [← List.map_id l]
  refine List.map_congr_left fun c _ => ?_
  unfold fadeC; rw [staleC_nil]; rfl
theorem imp1_ok (H : RM B K g R h w) {N : Nat} {a : AV} {v : Value} (h0 : RVE (mkF B g w) R h N a v) : (a = .un ∧ (imp1 N a).1 = .un) ∨ RX1 (mkF B g w) g (fade1 [] (imp1 N a).1) v := by
  cases h0 with
  | un => exact .inl ⟨rfl, rfl⟩
  | c a1 =>
    refine .inr ?_
    have e : imp1 N a = impCell N a := by
      cases a with
      | agg cs => cases a1 with
        | leaf hf => cases hf
        | node hn _ _ => cases hn
      | _ => rfl
    rw [e]; exact (impC_ok H a1).XD0
  | agg a1 =>
    refine .inr ?_
    simp only [imp1, fade1, map_fadeC_nil]
    exact .agg (impL_ok H a1)
theorem impT_ok (H : RM B K g R h w) : ∀ {N : Nat} {l : List AV} {vs : List Value}, RVT (mkF B g w) R h N l vs → RXL (mkF B g w) g ((impT N l).1.map (fade1 [])) vs
  | _, _, _, .nil => .nil
  | _, _, _, .cons hu a t => by
    simp only [impT, List.map_cons]
    rcases imp1_ok H a with ⟨h, _⟩ | h
    · exact absurd h hu
    · exact .cons h (impT_ok H t)
theorem imp1_nonTup (N : Nat) {a : AV} (h : nonTup a = true) : nonTup (imp1 N a).1 = true := by cases a <;> first | rfl | cases h
theorem imp_ok (H : RM B K g R h w) {N : Nat} {a : AV} {v : Value} (h0 : RV (mkF B g w) R h N a v) : XD (mkF B g w) g [] (imp N a).1 v := by
  cases h0 with
  | e a1 =>
    have hnt : nonTup a = true := by
      cases a1 with
      | un => rfl
      | c a1 => cases a1 with
        | leaf hf => cases hf <;> rfl
        | node hn _ _ => cases a <;> first | rfl | cases hn
      | agg _ => rfl
    have e : imp N a = imp1 N a := by cases a <;> first | rfl | cases hnt
    rw [e]
    rcases imp1_ok H a1 with ⟨_, h⟩ | h
    · rw [h]; exact .inl rfl
    · refine .inr ?_
      rw [fade_eq1 (imp1_nonTup N hnt)]; exact .c h
  | tup a1 => exact .inr (.tup (impT_ok H a1))
end Go.Am
end
section
namespace Go.Am
open Go.RowKit Go.Lib
variable {P : Program} {cx : Cx} {B : Base} {K : Nat → Prop} {g g' g1 g2 : Gh} {R R' R1 R2 : Nat → Value} {s : St} {h h' h1 h2 : Hp} {w w' : World} {F F' : Fz}
theorem LF_det {F F' : Fz} {ob ob' : Nat → Option Obj} {G G' : Gh} {c : AV} {n : Option Nd} {u u' : Value} (hn : isNode c = true) (a : LF F ob G c n u) (b : LF F' ob' G' c n u') : u = u' := by
  cases c with
  | ow sz es =>
    obtain ⟨m, a1, _, _, _, a5, _⟩ := a
    obtain ⟨m', b1, _, _, _, b5, _⟩ := b
    rw [a1] at b1; cases b1; rw [a5, b5]
  | bx e =>
    obtain ⟨m, a1, _, _, _, a5⟩ := a
    obtain ⟨m', b1, _, _, _, b5⟩ := b
    rw [a1] at b1; cases b1; rw [a5, b5]
  | mp ks vs =>
    obtain ⟨m, es, cl, a1, _, a3, _⟩ := a
    obtain ⟨m', es', cl', b1, _, b3, _⟩ := b
    rw [a1] at b1; cases b1; rw [a3, b3]
  | _ => cases hn
theorem absorb_cases (hal : s.alias = false) {a x : AV} {v : Value} {rs : List Rd} {us : List Up} (hb : absorb1 s a = some (x, rs, us)) (hv : RT F g (fadeC s.d a) v) :
    (us = [] ∧ rs = [] ∧ x = a ∧ RF F a v) ∨ (∃ pl c, us = [gone pl] ∧ rs = [⟨pl, true⟩] ∧ refOf a = some pl ∧ look s true pl = some c ∧ isNode x = true ∧ RT F g a v) := by
  have leaf : refOf a = none → absorb1 s a = some (a, [], []) → (us = [] ∧ rs = [] ∧ x = a ∧ RF F a v) := by
    intro hr h1
    rw [hb] at h1; cases h1
    have e : fadeC s.d a = a := fadeC_ok fun pl hp => by rw [hr] at hp; cases hp
    rw [e] at hv
    refine ⟨rfl, rfl, rfl, ?_⟩
    cases hv with
    | f h => exact h
    | rf => cases hr
    | ptr => cases hr
    | mrf => cases hr
  cases a with
  | rf sz pl off len =>
    refine .inr ?_
    simp only [absorb1, hal, Bool.false_eq_true, if_false] at hb
    split at hb
    · rename_i sz' es hl
      split at hb
      · cases hb
        refine ⟨pl, _, rfl, rfl, rfl, hl, rfl, ?_⟩
        have e : fadeC s.d (.rf sz pl off len) = .rf sz pl off len := fadeC_ok fun q hq => by cases hq; exact okD_of_look hl
        rw [e] at hv; exact hv
      · cases hb
    · cases hb
  | ptr pl i off =>
    refine .inr ?_
    simp only [absorb1, hal, Bool.false_eq_true, if_false] at hb
    split at hb
    · split at hb
      · rename_i e hl
        cases hb
        refine ⟨pl, _, rfl, rfl, rfl, hl, rfl, ?_⟩
        have e : fadeC s.d (.ptr pl i off) = .ptr pl i off := fadeC_ok fun q hq => by cases hq; exact okD_of_look hl
        rw [e] at hv; exact hv
      · cases hb
    · cases hb
  | mrf r => simp [absorb1, oops] at hb
  | agg cs => simp [absorb1, oops] at hb
  | tup cs => simp [absorb1, oops] at hb
  | _ => exact .inl (leaf rfl rfl)
theorem app_at {r : Nat} {h h' : Hp} (u : Up) (he : hget h r = hget h' r) : hget (u.app h) r = hget (u.app h') r := by
  rw [hget_app, hget_app]
  by_cases e : r = u.pl.r
  · rw [if_pos e, if_pos e]; cases u <;> simp only [he]
  · rw [if_neg e, if_neg e]; exact he
theorem apps_at {r : Nat} : ∀ (us : List Up) {h h' : Hp}, hget h r = hget h' r → hget (Up.apps us h) r = hget (Up.apps us h') r
  | [], _, _, he => he
  | u :: us, _, _, he => apps_at us (app_at u he)
/-- What is taken: a map too. -/
def absorbM (s : St) : AV → Option (AV × List Rd × List Up)
  | .mrf r => match look s true ⟨r, []⟩ with
    | some (.mp ks vs) => some (.mp ks vs, [⟨⟨r, []⟩, true⟩], [.del r])
    | _ => none
  | a => absorb1 s a
theorem RM.takeOutM (H : RM B K g R h w) {a : AV} {v : Value} {x : AV} {rs : List Rd} {u : Up} {N : Nat} (hal : s.alias = false) (hb : absorbM s a = some (x, rs, [u])) (hv : XD (mkF B g w) g s.d a v)
    (hh : ∀ pl c, look s true pl = some c → u = gone pl → getP h pl = some c) (hN : hget h N = none) (hK : ¬ K N) :
    ∃ src g1 R1, u = gone src ∧ RM B K g1 R1 (hins (Up.app h u) N x) w ∧ R1 N = v ∧ hget (Up.app h u) N = none ∧ isNode x = true ∧
      (∀ b o, owned g1 b o → owned g b o) ∧ (∀ pl m, pl.r ≠ N → src.pre pl = false → g pl.r pl.p = some m → g1 pl.r pl.p = some m) := by
  by_cases hm : ∃ r, a = .mrf r
  · obtain ⟨r, rfl⟩ := hm
    simp only [absorbM] at hb
    split at hb
    · rename_i ks vs hl
      simp only [Option.some.injEq, Prod.mk.injEq, List.cons.injEq, and_true] at hb
      obtain ⟨rfl, rfl, rfl⟩ := hb
      have e : gone ⟨r, []⟩ = .del r := rfl
      obtain ⟨n, f1, f2, rfl⟩ := X_mrf hv (okD_of_look hl)
      obtain ⟨g1, R1, r1, r2, r3, r4, r5, r6⟩ := H.take1 (hh ⟨r, []⟩ _ hl e.symm) rfl f1 hN hK
      obtain ⟨n', es, cl, e1, _, e3, _⟩ := r2
      rw [r4] at e1; cases e1
      exact ⟨⟨r, []⟩, g1, R1, e.symm, e ▸ r1, e3, e ▸ r3, rfl, r5, r6⟩
    · cases hb
  · have e : absorbM s a = absorb1 s a := by cases a <;> first | rfl | exact absurd ⟨_, rfl⟩ hm
    rw [e] at hb
    exact H.takeOut hal hb hv hh hN hK
structure Tk where
  a : AV
  v : Value
  N : Nat
  x : AV
  us : List Up
def Tk.ok (s : St) (B : Base) (K : Nat → Prop) (g : Gh) (h : Hp) (w : World) (t : Tk) : Prop :=
  (t.us = [] ∧ RF (mkF B g w) t.x t.v) ∨ (∃ pl c rs, t.us = [gone pl] ∧ refOf t.a = some pl ∧ look s true pl = some c ∧ getP h pl = some c ∧ absorbM s t.a = some (t.x, rs, t.us) ∧ RT (mkF B g w) g t.a t.v ∧ hget h t.N = none ∧ ¬ K t.N)
theorem ref_cell {F : Fz} {d : List Up} {a : AV} {v : Value} {pl : Pl} (hr : refOf a = some pl) (ho : okD d pl) (h : RT F g a v) : XD F g d a v := by
  have hna : nonAgg a = true ∧ nonTup a = true := by cases a <;> simp [refOf] at hr <;> exact ⟨rfl, rfl⟩
  refine cellX ?_ hna.1 hna.2
  rw [fadeC_ok fun q hq => by rw [hr] at hq; cases hq; exact ho]; exact h
theorem getP_root {h : Hp} {pl : Pl} {c : AV} (hc : getP h pl = some c) : ∃ a, hget h pl.r = some a := by obtain ⟨a, ha, _⟩ := getP_some hc; exact ⟨a, ha⟩
theorem flat_pl {ts : List Tk} {g : Gh} {h : Hp} (hok : ∀ t ∈ ts, t.ok s B K g h w) : ∀ u ∈ ts.flatMap Tk.us, ∃ pl c, u = gone pl ∧ getP h pl = some c := by
  intro u hu
  obtain ⟨t, ht, hu⟩ := List.mem_flatMap.1 hu
  rcases hok t ht with ⟨h1, _⟩ | ⟨pl, c, rs, h1, _, _, h4, _⟩
  · rw [h1] at hu; cases hu
  · rw [h1] at hu; simp at hu; exact ⟨pl, c, hu, h4⟩
theorem takes_ok (hal : s.alias = false) : ∀ {ts : List Tk} {g : Gh} {R : Nat → Value} {h : Hp}, RM B K g R h w → (∀ t ∈ ts, t.ok s B K g h w) → apartUps (ts.flatMap Tk.us) = true → ts.Pairwise (fun t t' => t.us ≠ [] → t'.us ≠ [] → t.N ≠ t'.N) →
    ∃ g' R' h', RM B K g' R' h' w ∧ (∀ t ∈ ts, RV1 (mkF B g' w) R' h' t.N t.x t.v ∧ (t.us ≠ [] → isNode t.x = true ∧ hget h' t.N = some t.x)) ∧ (∀ b o, owned g' b o → owned g b o) ∧
      (∀ r, (∀ t ∈ ts, t.us ≠ [] → t.N ≠ r) → hget h' r = hget (Up.apps (ts.flatMap Tk.us) h) r) ∧
      (∀ q k, (∀ t ∈ ts, t.us ≠ [] → t.N ≠ q.r) → (∀ u ∈ ts.flatMap Tk.us, u.pl.pre q = false) → g q.r q.p = some k → g' q.r q.p = some k)
  | [], g, R, h, H, _, _, _ => ⟨g, R, h, H, fun t ht => (List.not_mem_nil ht).elim, fun _ _ hx => hx, fun _ _ => rfl, fun _ _ _ _ hk => hk⟩
  | t :: ts, g, R, h, H, hok, hap, hN => by
    obtain ⟨p1, p2⟩ := List.pairwise_cons.1 hN
    have ok1 := hok t List.mem_cons_self
    by_cases hu : t.us = []
    · have hrf : RF (mkF B g w) t.x t.v := by
        rcases ok1 with ⟨_, h2⟩ | ⟨pl, c, rs, h1, _⟩
        · exact h2
        · rw [h1] at hu; cases hu
      have e : (t :: ts).flatMap Tk.us = ts.flatMap Tk.us := by simp [hu]
      rw [e] at hap ⊢
      obtain ⟨g', R', h', a1, a2, a3, a4, a5⟩ := takes_ok hal H (fun t' ht' => hok t' (List.mem_cons_of_mem _ ht')) hap p2
      refine ⟨g', R', h', a1, fun t' ht' => ?_, a3, fun r hr => a4 r fun t' ht' => hr t' (List.mem_cons_of_mem _ ht'), fun q k hq hp hk => a5 q k (fun t' ht' => hq t' (List.mem_cons_of_mem _ ht')) hp hk⟩
      rcases List.mem_cons.1 ht' with rfl | ht'
      · exact ⟨.leaf (hrf.mono (le_sub a3)), fun hne => absurd hu hne⟩
      · exact a2 t' ht'
    · obtain ⟨pl, c, rs, b1, b2, b3, b4, b5, b6, b7, b8⟩ : ∃ pl c rs, t.us = [gone pl] ∧ refOf t.a = some pl ∧ look s true pl = some c ∧ getP h pl = some c ∧ absorbM s t.a = some (t.x, rs, t.us) ∧ RT (mkF B g w) g t.a t.v ∧ hget h t.N = none ∧ ¬ K t.N := by
        rcases ok1 with ⟨h1, _⟩ | h1
        · exact absurd h1 hu
        · exact h1
      have e : (t :: ts).flatMap Tk.us = gone pl :: ts.flatMap Tk.us := by simp [b1]
      rw [e] at hap ⊢
      obtain ⟨ap1, ap2⟩ := apartUps_cons hap
      rw [b1] at b5
      obtain ⟨src, g1, R1, e1, r1, r2, r3, r4, r5, r6⟩ := H.takeOutM hal b5 (ref_cell b2 (okD_of_look b3) b6) (fun q c' hl hq => by
        have : q = pl := by have h1 := congrArg Up.pl hq; rw [gone_pl, gone_pl] at h1; exact h1.symm
        rw [this] at hl ⊢; rw [b3] at hl; cases hl; exact b4) b7 b8
      have hsrc : src = pl := by have h1 := congrArg Up.pl e1; rw [gone_pl, gone_pl] at h1; exact h1.symm
      subst hsrc
      have hne : ∀ {q : Pl} {c : AV}, getP h q = some c → q.r ≠ t.N := by
        intro q c' hq e
        obtain ⟨a, ha⟩ := getP_root hq
        rw [e, b7] at ha; cases ha
      have hok' : ∀ t' ∈ ts, t'.ok s B K g1 (hins (Up.app h (gone src)) t.N t.x) w := by
        intro t' ht'
        rcases hok t' (List.mem_cons_of_mem _ ht') with ⟨h1, h2⟩ | ⟨pl', c', rs', d1, d2, d3, d4, d5, d6, d7, d8⟩
        · exact .inl ⟨h1, h2.mono (le_sub r5)⟩
        · refine .inr ⟨pl', c', rs', d1, d2, d3, ?_, d5, ?_, ?_, d8⟩
          · have hap' : src.apart pl' := by
              have := ap1 (gone pl') (List.mem_flatMap.2 ⟨t', ht', by rw [d1]; exact List.mem_cons_self⟩)
              rw [gone_pl, gone_pl] at this; exact this
            rw [getP_hins_ne (hne d4), getP_gone b4 hap']; exact d4
          · refine d6.mono (le_sub r5) fun q n hq hn => ?_
            rw [d2] at hq; cases hq
            have hap' := ap1 (gone pl') (List.mem_flatMap.2 ⟨t', ht', by rw [d1]; exact List.mem_cons_self⟩)
            rw [gone_pl, gone_pl] at hap'
            exact r6 pl' n (hne d4) hap'.1 hn
          · have hNN : t'.N ≠ t.N := fun e => p1 t' ht' hu (by rw [d1]; simp) e.symm
            rw [hget_hins, if_neg hNN, hget_gone]
            split
            · unfold goneAt; split
              · rfl
              · rw [d7]; rfl
            · exact d7
      obtain ⟨g', R', h', a1, a2, a3, a4, a5⟩ := takes_ok hal r1 hok' ap2 p2
      have hNts : ∀ t' ∈ ts, t'.us ≠ [] → t'.N ≠ t.N := fun t' ht' h1 e => p1 t' ht' hu h1 e.symm
      have hpre : ∀ u ∈ ts.flatMap Tk.us, u.pl.r ≠ t.N := by
        intro u hu'
        obtain ⟨q, c', rfl, hq⟩ := flat_pl (g := g) (h := h) (fun t' ht' => hok t' (List.mem_cons_of_mem _ ht')) u hu'
        rw [gone_pl]; exact hne hq
      have hroot : hget h' t.N = some t.x := by
        rw [a4 t.N hNts, hget_apps_ne hpre, hget_hins, if_pos rfl]
      have hRN : R' t.N = t.v := by
        have l1 := (r1.tree t.N t.x (by rw [hget_hins, if_pos rfl])).root
        have l2 := (a1.tree t.N t.x hroot).root
        rw [← r2]
        have hg : ∃ n, g1 t.N [] = some n := by
          cases hx : t.x with
          | ow sz es => rw [hx] at l1; obtain ⟨n, e1, _⟩ := l1; exact ⟨n, e1⟩
          | bx e => rw [hx] at l1; obtain ⟨n, e1, _⟩ := l1; exact ⟨n, e1⟩
          | mp ks vs => rw [hx] at l1; obtain ⟨n, _, _, e1, _⟩ := l1; exact ⟨n, e1⟩
          | _ => rw [hx] at r4; cases r4
        obtain ⟨n, hn⟩ := hg
        have hn' := a5 ⟨t.N, []⟩ n hNts (fun u hu' => by
          cases hb : u.pl.pre ⟨t.N, []⟩ with
          | false => rfl
          | true => simp only [Pl.pre, Bool.and_eq_true] at hb; exact absurd (by simpa using hb.1) (hpre u hu')) hn
        simp only at hn'
        rw [hn] at l1; rw [hn'] at l2
        exact LF_det r4 l2 l1
      refine ⟨g', R', h', a1, fun t' ht' => ?_, fun b o hx => r5 b o (a3 b o hx), fun r hr => ?_, fun q k hq hp hk => ?_⟩
      · rcases List.mem_cons.1 ht' with rfl | ht'
        · exact ⟨.node r4 hroot hRN, fun _ => ⟨r4, hroot⟩⟩
        · exact a2 t' ht'
      · rw [a4 r fun t' ht' => hr t' (List.mem_cons_of_mem _ ht')]
        simp only [Up.apps]
        have hrN := hr t List.mem_cons_self hu
        exact apps_at _ (by rw [hget_hins, if_neg (fun e => hrN e.symm)])
      · have hqN := hq t List.mem_cons_self hu
        refine a5 q k (fun t' ht' => hq t' (List.mem_cons_of_mem _ ht')) (fun u hu' => hp u (List.mem_cons_of_mem _ hu')) (r6 q k (fun e => hqN e.symm) ?_ hk)
        have := hp (gone src) List.mem_cons_self
        rw [gone_pl] at this; exact this
end Go.Am
end
section
namespace Go.Am
open Go.RowKit Go.Lib
variable {P : Program} {cx : Cx} {B : Base} {K : Nat → Prop} {g g' g1 g2 : Gh} {R R' R1 R2 : Nat → Value} {s : St} {h h' h1 h2 : Hp} {w w' : World} {F F' : Fz}
theorem free_from (h : Hp) (d : List Up) (m : Nat) : ∃ M, m ≤ M ∧ ∀ n, M ≤ n → hget h n = none ∧ ¬ Kd d n := by
  refine ⟨m + h.foldr (fun x n => x.1 + n) 0 + d.foldr (fun u n => lkNo u + n) 0 + 1, by omega, fun n hn => ⟨?_, fun hk => ?_⟩⟩
  · cases hx : hget h n with
    | none => rfl
    | some a => have := hget_le hx; omega
  · have := Kd_le hk; omega
/-- a row of takes that makes up 'us' and the owned parts 'ofs' -/
structure Tks (s : St) (B : Base) (K : Nat → Prop) (g : Gh) (w : World) (M : Nat) (ts : List Tk) (rs : List Rd) (us : List Up) (ofs : List (Nat × AV)) : Prop where
  ups : ts.flatMap Tk.us = us
  ok : ∀ t ∈ ts, t.ok s B K g s.h w
  ofs : (ts.filter fun t => isNode t.x).map (fun t => (t.N, t.x)) = ofs.map fun p => (M + p.1, p.2)
  nod : ∀ t ∈ ts, t.us ≠ [] → isNode t.x = true
  rds : ∀ t ∈ ts, ∀ u ∈ t.us, ∃ pl, u = gone pl ∧ (⟨pl, true⟩ : Rd) ∈ rs
theorem Tks.nil {M : Nat} : Tks s B K g w M [] [] [] [] := ⟨rfl, fun t ht => (List.not_mem_nil ht).elim, rfl, fun t ht => (List.not_mem_nil ht).elim, fun t ht => (List.not_mem_nil ht).elim⟩
theorem Tks.append {M : Nat} {ts ts' : List Tk} {rs rs' : List Rd} {us us' : List Up} {o o' : List (Nat × AV)} (a : Tks s B K g w M ts rs us o) (b : Tks s B K g w M ts' rs' us' o') : Tks s B K g w M (ts ++ ts') (rs ++ rs') (us ++ us') (o ++ o') := by
  refine ⟨by simp [a.ups, b.ups], fun t ht => ?_, by simp [a.ofs, b.ofs], fun t ht => ?_, fun t ht u hu => ?_⟩
  · rcases List.mem_append.1 ht with h | h
    · exact a.ok t h
    · exact b.ok t h
  · rcases List.mem_append.1 ht with h | h
    · exact a.nod t h
    · exact b.nod t h
  · rcases List.mem_append.1 ht with h | h
    · obtain ⟨pl, e, hm⟩ := a.rds t h u hu; exact ⟨pl, e, List.mem_append_left _ hm⟩
    · obtain ⟨pl, e, hm⟩ := b.rds t h u hu; exact ⟨pl, e, List.mem_append_right _ hm⟩
/-- all of its takes are at their roots -/
def Got (F : Fz) (R : Nat → Value) (h : Hp) (ts : List Tk) : Prop := ∀ t ∈ ts, RV1 F R h t.N t.x t.v
theorem tk_one {M k : Nat} (hal : s.alias = false) (hfr : ∀ n, M ≤ n → hget s.h n = none ∧ ¬ K n) {a x : AV} {v : Value} {rs : List Rd} {us : List Up} (hb : absorb1 s a = some (x, rs, us)) (hv : RT (mkF B g w) g (fadeC s.d a) v) :
    Tks s B K g w M [⟨a, v, M + k, x, us⟩] rs us (offL k [x]) := by
  rcases absorb_cases hal hb hv with ⟨rfl, rfl, rfl, hf⟩ | ⟨pl, c, rfl, rfl, h3, h4, h5, h6⟩
  · refine ⟨rfl, fun t ht => ?_, by simp [offL, hf.noNode], fun t ht hu => ?_, fun t ht u hu => ?_⟩
    · rw [List.mem_singleton] at ht; subst ht; exact .inl ⟨rfl, hf⟩
    · rw [List.mem_singleton] at ht; subst ht; exact absurd rfl hu
    · rw [List.mem_singleton] at ht; subst ht; cases hu
  · have hN := hfr (M + k) (by omega)
    refine ⟨rfl, fun t ht => ?_, by simp [offL, h5], fun t ht hu => ?_, fun t ht u hu => ?_⟩
    · rw [List.mem_singleton] at ht; subst ht
      have e : absorbM s a = absorb1 s a := by cases a <;> first | rfl | (simp [absorb1, oops] at hb)
      exact .inr ⟨pl, c, _, rfl, h3, h4, (look_some h4).2, e.trans hb, h6, hN.1, hN.2⟩
    · rw [List.mem_singleton] at ht; subst ht; exact h5
    · rw [List.mem_singleton] at ht; subst ht; simp at hu; exact ⟨pl, hu, by simp⟩
theorem tk_list {M : Nat} (hal : s.alias = false) (hfr : ∀ n, M ≤ n → hget s.h n = none ∧ ¬ K n) : ∀ {l xs : List AV} {vs : List Value} {rs : List Rd} {us : List Up} {k : Nat}, absorbL s l = some (xs, rs, us) → RTL (mkF B g w) g (l.map (fadeC s.d)) vs →
    ∃ ts, Tks s B K g w M ts rs us (offL k xs) ∧ ∀ {F' R' h'}, Got F' R' h' ts → RVL F' R' h' (M + k) xs vs
  | [], xs, vs, rs, us, k, hb, hv => by
    simp only [absorbL, Option.some.injEq, Prod.mk.injEq] at hb
    obtain ⟨rfl, rfl, rfl⟩ := hb
    cases hv
    exact ⟨[], .nil, fun _ => .nil⟩
  | a :: l, xs, vs, rs, us, k, hb, hv => by
    simp only [absorbL] at hb
    cases h1 : absorb1 s a with
    | none => rw [h1] at hb; cases hb
    | some p =>
      obtain ⟨y, r, u⟩ := p
      rw [h1] at hb
      simp only at hb
      cases h2 : absorbL s l with
      | none => rw [h2] at hb; cases hb
      | some q =>
        obtain ⟨ys, r2, u2⟩ := q
        rw [h2] at hb
        simp only [Option.some.injEq, Prod.mk.injEq] at hb
        obtain ⟨rfl, rfl, rfl⟩ := hb
        cases hv with
        | cons hv1 hv2 =>
          obtain ⟨ts, a1, a2⟩ := tk_list (k := k + 1) hal hfr h2 hv2
          have b1 := tk_one (k := k) hal hfr h1 hv1
          have e : offL k (y :: ys) = offL k [y] ++ offL (k + 1) ys := by simp only [offL]; split <;> simp
          refine ⟨_, e ▸ b1.append a1, fun hg => ?_⟩
          exact .cons (hg _ (List.mem_append_left _ (List.mem_singleton.2 rfl))) (a2 fun t ht => hg t (List.mem_append_right _ ht))
/-- what a value of one part takes -/
theorem tk_elem {M k : Nat} (hal : s.alias = false) (hfr : ∀ n, M ≤ n → hget s.h n = none ∧ ¬ K n) {a x : AV} {v : Value} {rs : List Rd} {us : List Up} (hb : absorbE s a = some (x, rs, us)) (hv : XD (mkF B g w) g s.d a v) :
    ∃ ts, Tks s B K g w M ts rs us (off1 k x) ∧ ∀ {F' R' h'}, Got F' R' h' ts → RVE F' R' h' (M + k) x v := by
  by_cases ha : ∃ cs, a = .agg cs
  · obtain ⟨cs, rfl⟩ := ha
    simp only [absorbE] at hb
    cases h2 : absorbL s cs with
    | none => rw [h2] at hb; cases hb
    | some q =>
      obtain ⟨ys, r2, u2⟩ := q
      rw [h2] at hb
      simp only [Option.some.injEq, Prod.mk.injEq] at hb
      obtain ⟨rfl, rfl, rfl⟩ := hb
      obtain ⟨vs, rfl, hl⟩ := X_agg hv
      obtain ⟨ts, a1, a2⟩ := tk_list (k := k) hal hfr h2 hl
      exact ⟨ts, a1, fun hg => .agg (a2 hg)⟩
  · have e : absorbE s a = absorb1 s a := by cases a <;> first | rfl | exact absurd ⟨_, rfl⟩ ha
    rw [e] at hb
    have hna : nonAgg a = true := by cases a <;> first | rfl | exact absurd ⟨_, rfl⟩ ha
    have hnt : nonTup a = true := by cases a <;> first | rfl | simp [absorb1, oops] at hb
    rcases hv with rfl | hv
    · simp only [absorb1, Option.some.injEq, Prod.mk.injEq] at hb
      obtain ⟨rfl, rfl, rfl⟩ := hb
      exact ⟨[], by simp only [off1, offL, isNode]; exact .nil, fun _ => .un⟩
    · rw [fade_eq1 hnt, fade1_cell hna] at hv
      have hrt : RT (mkF B g w) g (fadeC s.d a) v := by
        have hnf : nonAgg (fadeC s.d a) = true ∧ nonTup (fadeC s.d a) = true := by
          unfold fadeC; split
          · exact ⟨rfl, rfl⟩
          · exact ⟨hna, hnt⟩
        generalize fadeC s.d a = y at hv hnf
        cases hv with
        | c h => cases h with
          | c h => exact h
          | agg h => cases hnf.1
        | tup h => cases hnf.2
      have h1 := tk_one (k := k) hal hfr hb hrt
      have hx : off1 k x = offL k [x] := by
        cases x with
        | agg cs =>
          rcases absorb_cases hal hb hrt with ⟨_, _, rfl, hf⟩ | ⟨_, _, _, _, _, _, h5, _⟩
          · cases hf
          · cases h5
        | _ => rfl
      rw [hx]
      exact ⟨_, h1, fun hg => .c (hg _ (List.mem_singleton.2 rfl))⟩
theorem tk_res1 {M k : Nat} (hal : s.alias = false) (hfr : ∀ n, M ≤ n → hget s.h n = none ∧ ¬ K n) {a x : AV} {v : Value} {us : List Up} (hb : expRes1 s a = some (x, us)) (hv : XD (mkF B g w) g s.d a v) :
    ∃ ts rs, Tks s B K g w M ts rs us (off1 k x) ∧ ∀ {F' R' h'}, Got F' R' h' ts → RVE F' R' h' (M + k) x v := by
  by_cases hm : ∃ r, a = .mrf r
  · obtain ⟨r, rfl⟩ := hm
    simp only [expRes1] at hb
    split at hb
    · rename_i ks vs hl
      simp only [Option.some.injEq, Prod.mk.injEq] at hb
      obtain ⟨rfl, rfl⟩ := hb
      have hN := hfr (M + k) (by omega)
      have hrt : RT (mkF B g w) g (.mrf r) v := by
        obtain ⟨n, f1, f2, rfl⟩ := X_mrf hv (okD_of_look hl)
        exact .mrf r n f1 f2
      refine ⟨[⟨.mrf r, v, M + k, .mp ks vs, [.del r]⟩], [⟨⟨r, []⟩, true⟩], ⟨rfl, fun t ht => ?_, rfl, fun t ht hu => ?_, fun t ht u hu => ?_⟩, fun hg => .c (hg _ (List.mem_singleton.2 rfl))⟩
      · rw [List.mem_singleton] at ht; subst ht
        exact .inr ⟨⟨r, []⟩, _, _, rfl, rfl, hl, (look_some hl).2, (by simp only [absorbM, hl] : absorbM s (.mrf r) = some (.mp ks vs, [⟨⟨r, []⟩, true⟩], [.del r])), hrt, hN.1, hN.2⟩
      · rw [List.mem_singleton] at ht; subst ht; rfl
      · rw [List.mem_singleton] at ht; subst ht; simp at hu; exact ⟨⟨r, []⟩, hu, by simp⟩
    · cases hb
  · have e : expRes1 s a = match absorbE s a with | some (x, _, us) => some (x, us) | none => none := by cases a <;> first | rfl | exact absurd ⟨_, rfl⟩ hm
    rw [e] at hb
    cases h2 : absorbE s a with
    | none => rw [h2] at hb; cases hb
    | some q =>
      obtain ⟨y, r, u⟩ := q
      rw [h2] at hb
      simp only [Option.some.injEq, Prod.mk.injEq] at hb
      obtain ⟨rfl, rfl⟩ := hb
      obtain ⟨ts, a1, a2⟩ := tk_elem (k := k) hal hfr h2 hv
      exact ⟨ts, r, a1, a2⟩
theorem tk_res {M : Nat} (hal : s.alias = false) (hfr : ∀ n, M ≤ n → hget s.h n = none ∧ ¬ K n) : ∀ {l xs : List AV} {vs : List Value} {us : List Up} {k : Nat}, expResL s l = some (xs, us) → XDs (mkF B g w) g s.d l vs →
    ∃ ts rs, Tks s B K g w M ts rs us (offT k xs) ∧ xs.length = vs.length ∧ ∀ {F' R' h'}, Got F' R' h' ts → (∀ x v, xs = [x] → vs = [v] → RVE F' R' h' (M + k) x v) ∧ ((xs.all known) = true → RVT F' R' h' (M + k) xs vs)
  | [], xs, vs, us, k, hb, hv => by
    simp only [expResL, Option.some.injEq, Prod.mk.injEq] at hb
    obtain ⟨rfl, rfl⟩ := hb
    cases hv
    exact ⟨[], [], .nil, rfl, fun _ => ⟨fun x v h => (by cases h), fun _ => .nil⟩⟩
  | a :: l, xs, vs, us, k, hb, hv => by
    simp only [expResL] at hb
    cases h1 : expRes1 s a with
    | none => rw [h1] at hb; cases hb
    | some p =>
      obtain ⟨y, u⟩ := p
      rw [h1] at hb
      simp only at hb
      cases h2 : expResL s l with
      | none => rw [h2] at hb; cases hb
      | some q =>
        obtain ⟨ys, u2⟩ := q
        rw [h2] at hb
        simp only [Option.some.injEq, Prod.mk.injEq] at hb
        obtain ⟨rfl, rfl⟩ := hb
        cases hv with
        | cons hv1 hv2 =>
          obtain ⟨ts1, rs1, b1, b2⟩ := tk_res1 (k := k) hal hfr h1 hv1
          obtain ⟨ts2, rs2, a1, a2, a3⟩ := tk_res (k := k + 64) hal hfr h2 hv2
          refine ⟨ts1 ++ ts2, rs1 ++ rs2, b1.append a1, by simp [a2], fun hg => ⟨fun x v e1 e2 => ?_, fun hk => ?_⟩⟩
          · cases e1; cases e2
            exact b2 fun t ht => hg t (List.mem_append_left _ ht)
          · simp only [List.all_cons, Bool.and_eq_true] at hk
            refine .cons (fun e => by rw [e] at hk; cases hk.1) (b2 fun t ht => hg t (List.mem_append_left _ ht)) ((a3 fun t ht => hg t (List.mem_append_right _ ht)).2 hk.2)
theorem nodupK_pw : ∀ {l : List (Nat × AV)}, nodupK l = true → l.Pairwise fun x y => x.1 ≠ y.1
  | [], _ => .nil
  | x :: l, h => by
    simp only [nodupK, Bool.and_eq_true, List.all_eq_true, Bool.not_eq_true'] at h
    refine List.pairwise_cons.2 ⟨fun y hy e => ?_, nodupK_pw h.2⟩
    have := h.1 y hy
    rw [e, nbT] at this; cases this
theorem Tks.distinct {M : Nat} {ts : List Tk} {rs : List Rd} {us : List Up} {ofs : List (Nat × AV)} (a : Tks s B K g w M ts rs us ofs) (hn : nodupK ofs = true) : ts.Pairwise fun t t' => t.us ≠ [] → t'.us ≠ [] → t.N ≠ t'.N := by
  have h1 : ((ts.filter fun t => isNode t.x).map (fun t => (t.N, t.x))).Pairwise fun x y => x.1 ≠ y.1 := by
    rw [a.ofs, List.pairwise_map]
    exact (nodupK_pw hn).imp fun h e => h (by simp at e; exact e)
  rw [List.pairwise_map, List.pairwise_filter] at h1
  rw [List.pairwise_iff_forall_sublist] at h1 ⊢
  intro t t' hs hu hu'
  exact h1 hs (a.nod t (hs.subset (by simp)) hu) (a.nod t' (hs.subset (by simp)) hu')
end Go.Am
end
section
namespace Go.Am
open Go.RowKit Go.Lib
variable {P : Program} {cx : Cx} {B : Base} {K : Nat → Prop} {g g' g1 g2 : Gh} {R R' R1 R2 : Nat → Value} {s : St} {h h' h1 h2 : Hp} {w w' : World} {F F' : Fz}
def FnsOk (P : Program) (cx : Cx) : Prop := ∀ f fn, cx.F f = some fn → ∃ pf, FOk P f fn pf ∧ pf.ntmps = fn.ntmps ∧ pf.results.toList = fn.results ∧ CodeOk fn.ntmps fn.body
/-- What was handed in to be written comes back, at the node where it lay. -/
def IoOut (g0 g1 : Gh) (h1 : Hp) : Nat → List Md → List AV → List AV → Prop
  | k, m :: ms, a :: as, outs => if m = .io ∧ isNode a = true then ∃ o outs', outs = o :: outs' ∧ hget h1 k = some o ∧ (∀ n, g0 k [] = some n → g1 k [] = some n) ∧ ((∃ e, o = .bx e) ∨ ∃ sz es, o = .ow sz es) ∧ IoOut g0 g1 h1 (k + 1) ms as outs'
      else IoOut g0 g1 h1 (k + 1) ms as outs
  | _, _, _, outs => outs = []
def Post (B : Base) (g0 : Gh) (fn : FnS) (args : List AV) (res : AV) (outs : List AV) (v : Value) (w' : World) : Prop :=
  ∃ g1 R1 h1 N, RM B (fun _ => False) g1 R1 h1 w' ∧ RV (mkF B g1 w') R1 h1 N res v ∧ args.length ≤ N ∧ nodupK (offs res) = true ∧ IoOut g0 g1 h1 0 fn.modes args outs
/-- the contract of one call -/
def CtrAt (P : Program) (f : Nat) (fn : FnS) (args : List AV) (res : AV) (outs : List AV) : Prop := apartUps (entryL 0 args).2 = true ∧ ∃ pf, FOk P f fn pf ∧
  ∀ (B : Base) (g0 : Gh) (R0 : Nat → Value) (w : World) (vs : List Value), RM B (fun _ => False) g0 R0 (Up.apps (entryL 0 args).2 []) w → XDs (mkF B g0 w) g0 [] (entryL 0 args).1 vs →
    Calls P f vs.toArray w (Ret (Post B g0 fn args res outs))
def Ctr (P : Program) (cx : Cx) (call : CallF) : Prop := ∀ f fn args res outs, cx.F f = some fn → call f args = some (res, outs) → CtrAt P f fn args res outs
theorem entryT_ok {ρ : Nat → Value} : ∀ {l : List AV} {vs : List Value} {k : Nat} {t : Hp}, XDs F g [] l vs → TX F g [] t ρ → (∀ i v, vs[i]? = some v → ρ (k + i) = v) → TX F g [] (entryT k l t) ρ
  | _, _, k, t, .nil, hT, _ => hT
  | _, _, k, t, .cons (v := v) (vs := vs) h hs, hT, hρ => by
    simp only [entryT]
    refine entryT_ok hs ?_ fun i u hi => ?_
    · have := hT.put (i := k) h
      have e : (fun j => if j = k then v else ρ j) = ρ := by
        funext j
        by_cases e : j = k
        · subst e; rw [if_pos rfl]; exact (hρ 0 v rfl).symm
        · rw [if_neg e]
      rw [e] at this; exact this
    · rw [show k + 1 + i = k + (i + 1) by omega]; exact hρ (i + 1) u (by simpa using hi)
theorem unT_lt {keep : Nat} : ∀ {n : Nat}, (∀ x ∈ unT keep n, x.1 < n ∧ x.2 = .un) ∧ (unT keep n).Pairwise fun x y => y.1 < x.1
  | 0 => ⟨fun x hx => (List.not_mem_nil hx).elim, .nil⟩
  | n + 1 => by
    obtain ⟨h1, h2⟩ := unT_lt (keep := keep) (n := n)
    simp only [unT]
    split
    · refine ⟨fun x hx => ?_, List.pairwise_cons.2 ⟨fun x hx => (h1 x hx).1, h2⟩⟩
      rcases List.mem_cons.1 hx with rfl | hx
      · exact ⟨Nat.lt_succ_self _, rfl⟩
      · have := h1 x hx; exact ⟨by omega, this.2⟩
    · exact ⟨fun x hx => by have := h1 x hx; exact ⟨by omega, this.2⟩, h2⟩
theorem unT_ok {F : Fz} {g : Gh} {keep n : Nat} {ρ : Nat → Value} : TX F g [] (unT keep n) ρ := ⟨unT_lt.2, fun x hx => .inl (unT_lt.1 x hx).2⟩
theorem resVals_ok {ρ : Nat → Value} (hT : TOk P cx) (H : RM B (Kd s.d) g R s.h w) (hd : s.d = []) (hTX : TX (mkF B g w) g s.d s.t ρ) : ∀ {rs : List ResultVar} {vs : List AV}, resVals cx s rs = some vs →
    ∃ us, XDs (mkF B g w) g s.d vs us ∧ us.length = rs.length ∧ (rs.mapM (m := Sem) fun | .tmp t => pure (ρ t) | .cell a t => do loadVar t (← asAddr (ρ a))).run P w = .ok us w
  | [], vs, h => by
    simp only [resVals, Option.some.injEq] at h
    subst h
    exact ⟨[], .nil, rfl, by simp⟩
  | .tmp t :: rs, vs, h => by
    simp only [resVals] at h
    split at h
    · rename_i l hl
      simp only [Option.some.injEq] at h
      subst h
      obtain ⟨us, a1, a2, a3⟩ := resVals_ok hT H hd hTX hl
      refine ⟨ρ t :: us, .cons (hTX.get t) a1, by simp [a2], ?_⟩
      simp only [List.mapM_cons, Sem.run_bind, Sem.run_pure, Result.andThen_ok, a3]
    · cases h
  | .cell a ty :: rs, vs, h => by
    simp only [resVals] at h
    split at h
    · rename_i i pl k off hi hp
      split at h
      · rename_i cs hcs
        split at h
        · rename_i v l hv hl
          simp only [Option.some.injEq] at h
          subst h
          obtain ⟨us, a1, a2, a3⟩ := resVals_ok hT H hd hTX hl
          have hx := hTX.get a
          rw [hp] at hx
          obtain ⟨n, e1, e2, e3⟩ := X_ptr hx (by rw [hd]; rfl)
          obtain ⟨b1, b2⟩ := ldCells_ok H hcs
          have hsh := ldCells_shape H hcs
          have hcell : ∀ j c, cs[j]? = some c → ∃ u, w.cell? ⟨n.b, n.o + k * n.sz + off + j, none⟩ = some u ∧ RT (mkF B g w) g (fadeC s.d c) u := by
            intro j c hc
            obtain ⟨m, u, f1, f2, f3, f4, f5, f6, _⟩ := b2 j c hc
            rw [e1] at f1; cases f1
            exact ⟨u, by rw [show n.o + k * n.sz + off + j = n.o + k * n.sz + (off + j) by omega]; exact f5, f6⟩
          obtain ⟨u, c1, c2⟩ := load_cells (hT ty i hi) hv b1 hsh hcell
          have hrun : (Instr.loadAt ty (.pointer (some ⟨n.b, n.o + k * n.sz + off, none⟩))).run P w = (loadVar ty ⟨n.b, n.o + k * n.sz + off, none⟩).run P w := by
            simp [Instr.loadAt, Instr.sureAddr]
          rw [hrun] at c1
          refine ⟨u :: us, .cons c2 a1, by simp [a2], ?_⟩
          have hadd : asAddr (ρ a) = pure ⟨n.b, n.o + k * n.sz + off, none⟩ := by rw [e3]; rfl
          simp only [List.mapM_cons, Sem.run_bind, hadd, Sem.run_pure, Result.andThen_ok, c1, a3]
        · cases h
      · cases h
    · cases h
theorem XDs.len {F : Fz} {d : List Up} : ∀ {l : List AV} {vs : List Value}, XDs F g d l vs → vs.length = l.length
  | _, _, .nil => rfl
  | _, _, .cons _ t => by simp [t.len]
theorem ioMask_bit : ∀ {ms : List Md} {k j : Nat}, ms[j]? = some .io → (ioMask k ms).testBit (k + j) = true
  | m :: ms, k, j, h => by
    simp only [ioMask, Nat.testBit_or, Bool.or_eq_true]
    cases j with
    | zero =>
      simp only [List.getElem?_cons_zero, Option.some.injEq] at h
      subst h
      exact .inl (by simp [Nat.testBit_two_pow])
    | succ j =>
      refine .inr ?_
      rw [show k + (j + 1) = k + 1 + j by omega]
      exact ioMask_bit (by simpa using h)
theorem ioOuts_ok {g0 g1 : Gh} {h1 : Hp} {ms0 : List Md} : ∀ {ms : List Md} {as outs : List AV} {ws : List Up} {k : Nat}, ioOuts s k ms as = some (outs, ws) → (∀ i m, ms[i]? = some m → ms0[k + i]? = some m) →
    (∀ j o, j < k + as.length → Up.del j ∈ ws → ms0[j]? = some .io → hget s.h j = some o → hget h1 j = some o ∧ ∀ n, g0 j [] = some n → g1 j [] = some n) → IoOut g0 g1 h1 k ms as outs
  | [], as, outs, ws, k, h, _, _ => by cases as <;> (simp only [ioOuts, Option.some.injEq, Prod.mk.injEq] at h; simp only [IoOut]; exact h.1.symm)
  | m :: ms, [], outs, ws, k, h, _, _ => by simp only [ioOuts, Option.some.injEq, Prod.mk.injEq] at h; simp only [IoOut]; exact h.1.symm
  | m :: ms, a :: as, outs, ws, k, h, hm, hk => by
    simp only [ioOuts] at h
    split at h
    · cases h
    · rename_i l us hr
      have tl : (∀ i m, ms[i]? = some m → ms0[k + 1 + i]? = some m) := fun i m' hi => by
        rw [show k + 1 + i = k + (i + 1) by omega]; exact hm (i + 1) m' (by simpa using hi)
      simp only [IoOut]
      split at h
      · rename_i hc
        rw [if_pos hc]
        have hio : ms0[k]? = some .io := by have := hm 0 m rfl; rw [hc.1] at this; simpa using this
        have root : ∀ {o : AV}, getP s.h ⟨k, []⟩ = some o → hget s.h k = some o := by
          intro o ho
          obtain ⟨x, hx, hp⟩ := getP_some ho
          simp only [getT, Option.some.injEq] at hp
          rw [← hp]; exact hx
        split at h
        · rename_i e he
          simp only [Option.some.injEq, Prod.mk.injEq] at h
          obtain ⟨rfl, rfl⟩ := h
          obtain ⟨b1, b2⟩ := hk k _ (by simp) List.mem_cons_self hio (root he)
          exact ⟨_, l, rfl, b1, b2, .inl ⟨e, rfl⟩, ioOuts_ok hr tl fun j o hj hd => hk j o (by simp at hj ⊢; omega) (List.mem_cons_of_mem _ hd)⟩
        · rename_i sz es he
          simp only [Option.some.injEq, Prod.mk.injEq] at h
          obtain ⟨rfl, rfl⟩ := h
          obtain ⟨b1, b2⟩ := hk k _ (by simp) List.mem_cons_self hio (root he)
          exact ⟨_, l, rfl, b1, b2, .inr ⟨sz, es, rfl⟩, ioOuts_ok hr tl fun j o hj hd => hk j o (by simp at hj ⊢; omega) (List.mem_cons_of_mem _ hd)⟩
        · cases h
      · rename_i hc
        rw [if_neg hc]
        simp only [Option.some.injEq, Prod.mk.injEq] at h
        obtain ⟨rfl, rfl⟩ := h
        exact ioOuts_ok hr tl fun j o hj hd => hk j o (by simp at hj ⊢; omega) hd
theorem CodeOk.mono {n m : Nat} (h : n ≤ m) : ∀ {c : Code}, CodeOk n c → CodeOk m c
  | .region _ ops draw, hc => ⟨hc.1, fun o ho d hd => Nat.lt_of_lt_of_le (hc.2 o ho d hd) h⟩
  | .seq a b, hc => ⟨CodeOk.mono h hc.1, CodeOk.mono h hc.2⟩
  | .cond _ a b, hc => ⟨CodeOk.mono h hc.1, CodeOk.mono h hc.2⟩
  | .block _ b, hc => CodeOk.mono (c := b) h hc
  | .loop b, hc => CodeOk.mono (c := b) h hc
  | .skip, _ => trivial
  | .rangeFunc .., _ => trivial
  | .exit _, _ => trivial
  | .scope _, _ => trivial
  | .label _, _ => trivial
  | .goto _, _ => trivial
  | .ret, _ => trivial
  | .refuse _, _ => trivial
theorem expRes1_nonTup {a x : AV} {us : List Up} (h : expRes1 s a = some (x, us)) : nonTup x = true := by
  have h1 : ∀ a x rs us, absorb1 s a = some (x, rs, us) → nonTup x = true := by
    intro a x rs us h
    cases a with
    | rf sz pl off len =>
      simp only [absorb1] at h
      split at h
      · cases h; rfl
      · split at h
        · split at h
          · cases h; rfl
          · cases h
        · cases h
    | ptr pl i off =>
      simp only [absorb1] at h
      split at h
      · cases h; rfl
      · split at h
        · split at h
          · cases h; rfl
          · cases h
        · cases h
    | mrf r => cases h
    | agg cs => cases h
    | tup cs => cases h
    | _ => cases h; rfl
  cases a with
  | mrf r =>
    simp only [expRes1] at h
    split at h
    · cases h; rfl
    · cases h
  | agg cs =>
    simp only [expRes1, absorbE] at h
    cases h2 : absorbL s cs with
    | none => rw [h2] at h; cases h
    | some q => rw [h2] at h; cases h; rfl
  | _ =>
    simp only [expRes1, absorbE] at h
    split at h
    · rename_i h2; cases h; exact h1 _ _ _ _ h2
    · cases h
theorem del_pre {j : Nat} {u : Up} (h : u.meets (.del j) = false) : u.pl.r ≠ j ∧ u.pl.pre ⟨j, []⟩ = false := by
  have h1 := meets_apart h
  refine ⟨fun e => ?_, h1.1⟩
  have := h1.2
  simp only [Up.pl, Pl.pre, ← e, nbT, pre] at this
  cases this
theorem apartUps_app : ∀ {us vs : List Up}, apartUps (us ++ vs) = true → apartUps us = true ∧ ∀ u ∈ us, ∀ v ∈ vs, u.meets v = false
  | [], vs, _ => ⟨rfl, fun u hu => (List.not_mem_nil hu).elim⟩
  | u :: us, vs, h => by
    simp only [List.cons_append, apartUps, Bool.and_eq_true, List.all_append, List.all_eq_true, Bool.not_eq_true'] at h
    obtain ⟨a1, a2⟩ := apartUps_app h.2
    refine ⟨by simp only [apartUps, Bool.and_eq_true, List.all_eq_true, Bool.not_eq_true']; exact ⟨h.1.1, a1⟩, fun x hx v hv => ?_⟩
    rcases List.mem_cons.1 hx with rfl | hx
    · exact h.1.2 v hv
    · exact a2 x hx v hv
theorem evF_step (hT : TOk P cx) (hm : P.follows .mixedOrders = true) (hF : FnsOk P cx) {N : Nat} {call : CallF} (hC : CallsOk P cx call) : Ctr P cx (evF cx N call) := by
  intro f fn args res outs hfn he
  simp only [evF, hfn] at he
  split at he
  · cases he
  · rename_i hap
    simp only [Bool.not_eq_true, Bool.not_eq_false', Bool.not_eq_eq_eq_not, Bool.not_false] at hap
    refine ⟨by simpa using hap, ?_⟩
    obtain ⟨pf, hf, hnt, hres, hcode⟩ := hF f fn hfn
    refine ⟨pf, hf, fun B g0 R0 w vs H hX => ?_⟩
    simp only [fN_eq, fT_eq] at he
    split at he
    · cases he
    · cases he
    · rename_i xt s' hxt hex
      split at he
      · cases he
      · rename_i rvs hrv
        split at he
        · rename_i xs us outs' ws hxs hio
          split at he
          · rename_i hok
            simp only [Option.some.injEq, Prod.mk.injEq] at he
            obtain ⟨he1, rfl⟩ := he
            simp only [Bool.and_eq_true] at hok
            obtain ⟨⟨hok1, hok2⟩, hok3⟩ := hok
            refine calls_of_wp (fn := pf) hf.at_ hf.body ?_
            have hlen := hX.len
            have hsz : (vs.toArray ++ Array.replicate (pf.ntmps - vs.toArray.size) undef).size = vs.length + (fn.ntmps - vs.length) := by simp [hnt]
            have hI : Inv B (ioMask 0 fn.modes) (vs.length + (fn.ntmps - vs.length)) (fun r => g0 r []) { t := entryT 0 (entryL 0 args).1 (unT fn.keep fn.ntmps), h := Up.apps (entryL 0 args).2 [], d := [] } { tmps := vs.toArray ++ Array.replicate (pf.ntmps - vs.toArray.size) undef, defers := [] } w := by
              refine ⟨⟨g0, R0, H.weakK fun q hq => hq.elim, ?_, fun r x _ hx => ⟨rfl, fun n hn => hn⟩⟩, hsz, rfl⟩
              · refine entryT_ok hX unT_ok fun i v hi => ?_
                have hlt := (List.getElem?_eq_some_iff.1 hi).1
                simp only [Nat.zero_add, Array.getD_eq_getD_getElem?]
                rw [Array.getElem?_append_left (by simpa using hlt)]
                simp [hi]
            have hcode' : CodeOk (vs.length + (fn.ntmps - vs.length)) fn.body := hcode.mono (by omega)
            refine (execX_ok hT hC hm N fn.body _ s' xt _ _ w hcode' hex hI rfl fun a' w' hI' hd' => ?_).1
            obtain ⟨⟨g, R, H', hTX, hio'⟩, hsz', hdf'⟩ := hI'
            have key : a'.defers = [] ∧ ∃ v, (results pf a'.tmps).run P w' = .ok v w' ∧ Ret (Post B g0 fn args res outs') (.returned v) w' := by
              refine ⟨hdf', ?_⟩
              rw [hd'] at H' hTX
              obtain ⟨uvs, c1, c2, c3⟩ := resVals_ok (s := { t := s'.t, h := s'.h, d := [] }) hT H' rfl hTX hrv
              obtain ⟨M, hM, hfr⟩ := free_from s'.h [] args.length
              obtain ⟨ts, rs, d1, d2, d3⟩ := tk_res (s := { t := s'.t, h := s'.h, d := [] }) (k := 0) rfl hfr hxs c1
              have hofs : nodupK (offT 0 xs) = true := by
                unfold resOf at hok2
                split at hok2
                · rename_i x
                  have hnx : nonTup x = true := by
                    cases rvs with
                    | nil => simp [expResL] at hxs
                    | cons r0 rl =>
                      simp only [expResL] at hxs
                      cases h1 : expRes1 { t := s'.t, h := s'.h, d := [] } r0 with
                      | none => rw [h1] at hxs; cases hxs
                      | some p =>
                        obtain ⟨y, u⟩ := p
                        rw [h1] at hxs
                        simp only at hxs
                        cases h2 : expResL { t := s'.t, h := s'.h, d := [] } rl with
                        | none => rw [h2] at hxs; cases hxs
                        | some q =>
                          rw [h2] at hxs
                          simp only [Option.some.injEq, Prod.mk.injEq, List.cons.injEq] at hxs
                          rw [← hxs.1.1]; exact expRes1_nonTup h1
                  have e : offs x = off1 0 x := by cases x <;> first | rfl | cases hnx
                  rw [e] at hok2
                  simpa [offT] using hok2
                · exact hok2
              obtain ⟨ap1, ap2⟩ := apartUps_app hok1
              obtain ⟨g1, R1, h1, e1, e2, e3, e4, e5⟩ := takes_ok (s := { t := s'.t, h := s'.h, d := [] }) rfl H' d1.ok (by rw [d1.ups]; exact ap1) (d1.distinct hofs)
              have hgot : Got (mkF B g1 w') R1 h1 ts := fun t ht => (e2 t ht).1
              obtain ⟨f1, f2⟩ := d3 hgot
              have hN : ∀ t ∈ ts, t.us ≠ [] → M ≤ t.N := by
                intro t ht hu
                have h3 : (t.N, t.x) ∈ (ts.filter fun t => isNode t.x).map (fun t => (t.N, t.x)) := List.mem_map.2 ⟨t, List.mem_filter.2 ⟨ht, d1.nod t ht hu⟩, rfl⟩
                rw [d1.ofs, List.mem_map] at h3
                obtain ⟨p, _, e⟩ := h3
                simp only [Prod.mk.injEq] at e
                omega
              have hIO : IoOut g0 g1 h1 0 fn.modes args outs' := by
                refine ioOuts_ok (ms0 := fn.modes) hio (fun i m hi => by simpa using hi) fun j o hj hdl hmd ho => ?_
                have hnt : ∀ t ∈ ts, t.us ≠ [] → t.N ≠ j := fun t ht hu e => by have := hN t ht hu; omega
                have hpj : ∀ u ∈ ts.flatMap Tk.us, u.pl.r ≠ j ∧ u.pl.pre ⟨j, []⟩ = false := fun u hu => del_pre (ap2 u (by rw [← d1.ups]; exact hu) _ hdl)
                refine ⟨?_, fun n hn => ?_⟩
                · rw [e4 j hnt, hget_apps_ne fun u hu => (hpj u hu).1]; exact ho
                · have hbit : (ioMask 0 fn.modes).testBit j = true := by have := ioMask_bit (k := 0) hmd; simpa using this
                  exact e5 ⟨j, []⟩ n hnt (fun u hu => (hpj u hu).2) ((hio' j o hbit ho).2 n hn)
              have hrun : (results pf a'.tmps).run P w' = .ok (if h : uvs.length = 1 then uvs[0] else .tuple uvs.toArray) w' := by
                unfold results
                rw [Array.mapM_eq_mapM_toList, hres]
                simp only [map_eq_pure_bind, Sem.run_bind, Result.andThen_ok, Sem.run_pure]
                erw [c3]
                simp only [Result.andThen_ok, List.size_toArray, List.getElem_toArray]
              refine ⟨_, hrun, ?_⟩
              refine ⟨g1, R1, h1, M, e1.weakK fun q ⟨_, _, h⟩ => (List.not_mem_nil h).elim, ?_, hM, by rw [← he1]; exact hok2, hIO⟩
              rw [← he1]
              by_cases h1 : uvs.length = 1
              · rw [dif_pos h1]
                obtain ⟨u, rfl⟩ := List.length_eq_one_iff.1 h1
                obtain ⟨x, rfl⟩ := List.length_eq_one_iff.1 (d2.trans h1)
                exact .e (f1 x u rfl rfl)
              · rw [dif_neg h1]
                have hx1 : ∀ x, xs ≠ [x] := fun x e => h1 (by rw [← d2, e]; rfl)
                have e : resOf xs = .tup xs := by
                  match xs, hx1 with
                  | [], _ => rfl
                  | [x], h => exact absurd rfl (h x)
                  | _ :: _ :: _, _ => rfl
                rw [e]
                rw [e] at hok3
                exact .tup (f2 hok3)
            cases xt with
            | exit id => first | exact (hxt id s' rfl).elim | exact (hxt id rfl).elim | exact (hxt id).elim | exact absurd rfl (hxt id)
            | normal => exact key
            | ret => exact key
          · cases he
        · cases he
end Go.Am
end
section
namespace Go.Am
open Go.RowKit Go.Lib
variable {P : Program} {cx : Cx} {B B1 : Base} {K : Nat → Prop} {g g' g0 g1 g2 : Gh} {R R' R0 R1 R2 : Nat → Value} {s : St} {h h' h0 h1 h2 : Hp} {w w' : World} {F F' : Fz}
/-- What is handed in to be written: the callee's root, its tree of nodes. -/
structure IoT where
  κ : Nat
  a : AV
  v : Value
  γ : List (Nat × Nat) → Option Nd
structure IoT.ok (t : IoT) (B : Base) (g : Gh) (w : World) (r : Nat) : Prop where
  tree : TOK (mkF B g w) (obj w) g t.γ t.a t.v
  inn : ∀ q n, t.γ q = some n → ∃ q' n', g r q' = some n' ∧ ∀ b o, n.has b o → n'.has b o
  disj : ∀ q n q' n', t.γ q = some n → t.γ q' = some n' → q ≠ q' → ∀ b o, n.has b o → ¬ n'.has b o
  blk : ∀ q n, t.γ q = some n → n.whole = false → ∃ cs el fr, w.heap[n.b]? = some (.cells cs el fr) ∧ n.o + n.sz * n.cap ≤ cs.size ∧ ∀ o, n.has n.b o → w.frozen? ⟨n.b, o, none⟩ = false
  nolk : noLk t.a = true
/-- The callee's ghost: taken roots by 'σ', and the tree that is handed in. -/
def calG (g : Gh) (σ : Nat → Option Nat) (t : Option IoT) : Gh := fun κ q => match σ κ with
  | some N => g N q
  | none => match t with
    | some t => if κ = t.κ then t.γ q else none
    | none => none
def ownC (g : Gh) (σ : Nat → Option Nat) (t : Option IoT) (b o : Nat) : Prop := ∃ κ q n, calG g σ t κ q = some n ∧ n.has b o
/-- The base of a call: what is written is what was handed over. -/
def calB (B : Base) (g : Gh) (w : World) (σ : Nat → Option Nat) (t : Option IoT) (lent : Bool) (hw : ∀ b o, B.A0 b o → b < w.heap.size) (hlt : ∀ b o, owned g b o → b < w.heap.size) (hin : ∀ b o, ownC g σ t b o → owned g b o) : Base where
  w0 := w
  own := ownC g σ t
  A := fun b o => (B.A b o ∨ (lent = false ∧ owned g b o)) ∧ ¬ ownC g σ t b o
  A0 := fun b o => (B.A0 b o ∨ owned g b o) ∧ ¬ ownC g σ t b o
  hA := fun b o h => ⟨h.1.imp (B.hA b o) fun h => h.2, h.2⟩
  hA0 := fun b o h => h.1.elim (hw b o) (hlt b o)
  hown := fun b o h h' => h'.2 h
  hownb := fun b o h => hlt b o (hin b o h)
theorem RM.a0_lt (H : RM B K g R h w) : ∀ b o, B.A0 b o → b < w.heap.size := fun b o hx => Nat.lt_of_lt_of_le (B.hA0 b o hx) H.chg.size
/-- The owned cells lie in nothing that must not be written. -/
theorem RM.own_A0 (H : RM B K g R h w) {b o : Nat} (hx : owned g b o) : ¬ B.A0 b o := by
  intro ha
  rcases H.inn b o hx with h | h
  · exact B.hown _ _ h ha
  · have := B.hA0 _ _ ha; omega
structure SrcOk2 (g : Gh) (h : Hp) (σ : Nat → Option Nat) (t : Option IoT) (B : Base) (w : World) (h0 : Hp) (R R0 : Nat → Value) : Prop where
  inj : ∀ κ κ' N, σ κ = some N → σ κ' = some N → κ = κ'
  io : ∀ t', t = some t' → ∃ r, t'.ok B g w r ∧ (∀ κ N, σ κ = some N → N ≠ r) ∧ σ t'.κ = none
  heap : ∀ κ a, hget h0 κ = some a → (∃ N, σ κ = some N ∧ hget h N = some a ∧ noLk a = true ∧ R0 κ = R N) ∨ (∃ t', t = some t' ∧ κ = t'.κ ∧ a = t'.a ∧ R0 κ = t'.v)
  none : ∀ κ, hget h0 κ = none → σ κ = none ∧ ∀ t', t = some t' → κ ≠ t'.κ
theorem calG_cases {σ : Nat → Option Nat} {t : Option IoT} {κ : Nat} {q : List (Nat × Nat)} {n : Nd} (h : calG g σ t κ q = some n) : (∃ N, σ κ = some N ∧ g N q = some n) ∨ (σ κ = none ∧ ∃ t', t = some t' ∧ κ = t'.κ ∧ t'.γ q = some n) := by
  unfold calG at h
  cases hs : σ κ with
  | some N => rw [hs] at h; exact .inl ⟨N, rfl, h⟩
  | none =>
    rw [hs] at h
    cases t with
    | none => cases h
    | some t =>
      simp only at h
      split at h
      · rename_i e; exact .inr ⟨rfl, t, rfl, e, h⟩
      · cases h
theorem ownC_in {σ : Nat → Option Nat} {t : Option IoT} {h0 : Hp} (S : SrcOk2 g h σ t B w h0 R R0) {b o : Nat} (hx : ownC g σ t b o) : owned g b o := by
  obtain ⟨κ, q, n, hn, hb⟩ := hx
  rcases calG_cases hn with ⟨N, _, h2⟩ | ⟨_, t', ht, _, h2⟩
  · exact ⟨N, q, n, h2, hb⟩
  · obtain ⟨r, hok, _⟩ := S.io t' ht
    obtain ⟨q', n', h3, h4⟩ := hok.inn q n h2
    exact ⟨r, q', n', h3, h4 b o hb⟩
theorem cal_le {σ : Nat → Option Nat} {t : Option IoT} {lent : Bool} {h0 : Hp} (S : SrcOk2 g h σ t B w h0 R R0) {hw hlt hin} :
    (mkF B g w).le (mkF (calB B g w σ t lent hw hlt hin) (calG g σ t) w) := by
  refine ⟨fun b o v hv _ => hv, fun b o v _ hn hx => hn ?_, fun b o v _ hn hx => hn ?_, fun b o hx => hx.elim .inl fun h => .inr (B.hA _ _ h)⟩
  · rcases hx with ⟨κ, q, n, h1, h2⟩ | ⟨h1, _⟩
    · exact .inl (ownC_in S ⟨κ, q, n, h1, h2⟩)
    · exact h1.elim .inr fun h => .inl h.2
  · rcases hx with ⟨κ, q, n, h1, h2⟩ | ⟨h1, _⟩
    · exact .inl (ownC_in S ⟨κ, q, n, h1, h2⟩)
    · exact h1.elim .inr .inl
theorem RM.callee (H : RM B K g R h w) {σ : Nat → Option Nat} {t : Option IoT} {lent : Bool} {h0 : Hp} (S : SrcOk2 g h σ t B w h0 R R0) (hw hlt hin) :
    RM (calB B g w σ t lent hw hlt hin) (fun _ => False) (calG g σ t) R0 h0 w := by
  have hle := cal_le (lent := lent) S (hw := hw) (hlt := hlt) (hin := hin)
  refine ⟨⟨rfl, rfl, rfl, Nat.le_refl _, fun b cs el fr hb => ⟨cs, hb, rfl, fun _ _ => rfl⟩, fun _ _ _ => rfl⟩, fun κ a ha => ?_, fun κ hκ q => ?_, fun κ q n κ' q' n' h1 h2 hne => ?_, fun κ q n h1 hwh => ?_, fun κ a q k len ha hq => ?_, fun b o hx => .inl hx⟩
  · rcases S.heap κ a ha with ⟨N, h1, h2, h3, h4⟩ | ⟨t', h1, h2, rfl, h4⟩
    · have e : calG g σ t κ = g N := by funext q; simp only [calG, h1]
      rw [e, h4]
      exact (H.tree N a h2).mono hle (fun _ _ _ _ _ _ hx => hx) (fun _ _ _ _ => rfl) fun r n p len hp _ => (noLk_get h3 hp).elim
    · obtain ⟨r, hok, _, h5⟩ := S.io t' h1
      have e : calG g σ t κ = t'.γ := by funext q; simp only [calG, h2, h5, h1, if_true]
      rw [e, h4]
      exact hok.tree.mono hle (fun _ _ _ _ _ _ hx => hx) (fun _ _ _ _ => rfl) fun r n p len hp _ => (noLk_get hok.nolk hp).elim
  · obtain ⟨h1, h2⟩ := S.none κ hκ
    unfold calG
    rw [h1]
    cases t with
    | none => rfl
    | some t => simp only; rw [if_neg (h2 t rfl)]
  · rcases calG_cases h1 with ⟨N, a1, a2⟩ | ⟨a1, t1, a2, a3, a4⟩ <;> rcases calG_cases h2 with ⟨N', b1, b2⟩ | ⟨b1, t2, b2, b3, b4⟩
    · refine H.disj _ _ _ _ _ _ a2 b2 fun e => hne ?_
      simp only [Prod.mk.injEq] at e
      obtain ⟨rfl, rfl⟩ := e
      rw [S.inj κ κ' N a1 b1]
    · obtain ⟨r, hok, h5, _⟩ := S.io t2 b2
      obtain ⟨q2, n2, c1, c2⟩ := hok.inn q' n' b4
      intro b o hb hb'
      exact H.disj _ _ _ _ _ _ a2 c1 (by intro e; simp only [Prod.mk.injEq] at e; exact h5 κ N a1 e.1) b o hb (c2 b o hb')
    · obtain ⟨r, hok, h5, _⟩ := S.io t1 a2
      obtain ⟨q2, n2, c1, c2⟩ := hok.inn q n a4
      intro b o hb hb'
      exact H.disj _ _ _ _ _ _ b2 c1 (by intro e; simp only [Prod.mk.injEq] at e; exact h5 κ' N' b1 e.1) b o hb' (c2 b o hb)
    · rw [a2] at b2; cases b2
      obtain ⟨r, hok, _⟩ := S.io t1 a2
      refine hok.disj q n q' n' a4 b4 fun e => hne ?_
      rw [e, a3, b3]
  · rcases calG_cases h1 with ⟨N, a1, a2⟩ | ⟨a1, t1, a2, a3, a4⟩
    · exact H.blk _ _ _ a2 hwh
    · obtain ⟨r, hok, _⟩ := S.io t1 a2
      exact hok.blk q n a4 hwh
  · rcases S.heap κ a ha with ⟨N, h1, h2, h3, h4⟩ | ⟨t', h1, h2, rfl, h4⟩
    · exact noLk_get h3 hq
    · obtain ⟨r, hok, _⟩ := S.io t' h1
      exact noLk_get hok.nolk hq
def allB (B : Base) : Base := { B with A := B.A0, hA := fun _ _ h => h }
mutual
theorem RF.unlent {F F' : Fz} (hm : ∀ b o v, F.m b o = some v → F'.m b o = some v) (h0 : ∀ b o, ¬ F.N0 b o → ¬ F'.N0 b o) : ∀ {a : AV} {v : Value}, RF F a v → noLent a = true → RF F' a v
  | _, _, .int k n, _ => .int k n
  | _, _, .bool b, _ => .bool b
  | _, _, .str s, _ => .str s
  | _, _, .nilp, _ => .nilp
  | _, _, .un v h1, _ => .un v h1
  | _, _, .nil sz, _ => .nil sz
  | _, _, .fzs lab sz es b o cap sp h1 h2 h3 h4, h => by
    simp only [noLent, Bool.and_eq_true, bne_iff_ne, ne_eq] at h
    exact .fzs lab sz es b o cap sp h1 h2 (RE.unlent hm h0 h3 h.1 h.2) h4
  | _, _, .fp lab e off b o h1 h3, h => by
    simp only [noLent, Bool.and_eq_true, bne_iff_ne, ne_eq] at h
    refine .fp lab e off b o h1 (RC.unlent hm h0 h3 h.1 ?_)
    cases e with
    | agg cs => simp only [noLent] at h; exact h.2
    | _ => simp only [cells, noLentL, Bool.and_true]; exact h.2
theorem RC.unlent {F F' : Fz} (hm : ∀ b o v, F.m b o = some v → F'.m b o = some v) (h0 : ∀ b o, ¬ F.N0 b o → ¬ F'.N0 b o) : ∀ {lab : Nat} {l : List AV} {b o : Nat}, RC F lab l b o → lab ≠ 2 → noLentL l = true → RC F' lab l b o
  | _, _, _, _, .nil lab b o, _, _ => .nil lab b o
  | _, _, _, _, .cons lab a l b o v h1 h2 h3 h4, hl, h => by
    simp only [noLentL, Bool.and_eq_true] at h
    have hn : F'.no lab b o := by
      unfold Fz.no at *
      rw [if_neg hl] at h2 ⊢
      exact h0 _ _ h2
    exact .cons lab a l b o v (hm _ _ _ h1) hn (RF.unlent hm h0 h3 h.1) (RC.unlent hm h0 h4 hl h.2)
theorem RE.unlent {F F' : Fz} (hm : ∀ b o v, F.m b o = some v → F'.m b o = some v) (h0 : ∀ b o, ¬ F.N0 b o → ¬ F'.N0 b o) : ∀ {lab sz : Nat} {l : List AV} {b o : Nat}, RE F lab sz l b o → lab ≠ 2 → noLentL l = true → RE F' lab sz l b o
  | _, _, _, _, _, .nil lab sz b o, _, _ => .nil lab sz b o
  | _, _, _, _, _, .cons lab sz e l b o h1 h2 h3, hl, h => by
    simp only [noLentL, Bool.and_eq_true] at h
    refine .cons lab sz e l b o h1 (RC.unlent hm h0 h2 hl ?_) (RE.unlent hm h0 h3 hl h.2)
    cases e with
    | agg cs => simp only [noLent] at h; exact h.1
    | _ => simp only [cells, noLentL, Bool.and_true]; exact h.1
end
theorem noLentL_mem : ∀ {l : List AV} {a : AV}, noLentL l = true → a ∈ l → noLent a = true
  | x :: l, a, h, hm => by
    simp only [noLentL, Bool.and_eq_true] at h
    rcases List.mem_cons.1 hm with rfl | hm
    · exact h.1
    · exact noLentL_mem h.2 hm
theorem noLent_cells {e x : AV} {j : Nat} (h : noLent e = true) (hx : (cells e)[j]? = some x) : noLent x = true := by
  cases e with
  | agg cs => exact noLentL_mem h (List.mem_of_getElem? hx)
  | _ =>
    simp only [cells] at hx
    cases j with
    | zero => simp at hx; subst hx; exact h
    | succ j => simp at hx
theorem noLent_get : ∀ {p : List (Nat × Nat)} {a x : AV}, noLent a = true → getT a p = some x → noLent x = true
  | [], a, x, h, e => by simp [getT] at e; subst e; exact h
  | (i, j) :: p, a, x, h, e => by
    simp only [getT] at e
    cases hs : step1 a (i, j) with
    | none => rw [hs] at e; cases e
    | some y =>
      rw [hs] at e
      refine noLent_get (p := p) ?_ e
      rcases step1_some hs with ⟨sz, es, e', rfl, he, hj⟩ | ⟨e', rfl, rfl, hj⟩
      · exact noLent_cells (noLentL_mem h (List.mem_of_getElem? he)) hj
      · exact noLent_cells (e := e') h hj
theorem LF.unlent {F F' : Fz} {ob : Nat → Option Obj} {G : Gh} {c : AV} {n : Option Nd} {u : Value} (hm : ∀ b o v, F.m b o = some v → F'.m b o = some v) (h0 : ∀ b o, ¬ F.N0 b o → ¬ F'.N0 b o) (hl : noLent c = true) (h : LF F ob G c n u) : LF F' ob G c n u := by
  cases c with
  | ow sz es => exact h
  | bx e => exact h
  | mp ks vs =>
    simp only [noLent, Bool.and_eq_true] at hl
    obtain ⟨m, es, cl, a1, a2, a3, a4, b1, b2, b3, b4⟩ := h
    refine ⟨m, es, cl, a1, a2, a3, a4, b1, b2, fun i k hk => ?_, fun i v hv => ?_⟩
    · obtain ⟨e, c1, c2⟩ := b3 i k hk
      exact ⟨e, c1, c2.unlent hm h0 (noLentL_mem hl.1 (List.mem_of_getElem? hk))⟩
    · obtain ⟨e, c1, c2, c3⟩ := b4 i v hv
      exact ⟨e, c1, c2, c3.unlent hm h0 (noLentL_mem hl.2 (List.mem_of_getElem? hv))⟩
  | lk r l => exact h
  | _ => exact ⟨h.1, h.2.unlent hm h0 hl⟩
theorem TOK.unlent {F F' : Fz} {ob : Nat → Option Obj} {G : Gh} {γ : List (Nat × Nat) → Option Nd} {a : AV} {v : Value} (hm : ∀ b o v, F.m b o = some v → F'.m b o = some v) (h0 : ∀ b o, ¬ F.N0 b o → ¬ F'.N0 b o) (hl : noLent a = true) (h : TOK F ob G γ a v) : TOK F' ob G γ a v :=
  ⟨h.root.unlent hm h0 hl, fun p i j c hc => by
    obtain ⟨n, u, a1, a2, a3⟩ := h.cell p i j c hc
    exact ⟨n, u, a1, hm _ _ _ a2, a3.unlent hm h0 (noLent_get hl hc)⟩, h.dom⟩
theorem RM.unlent (H : RM B K g R h w) (hl : ∀ r a, hget h r = some a → noLent a = true) : RM (allB B) K g R h w :=
  ⟨H.chg, fun r a ha => TOK.unlent (F := mkF B g w) (fun _ _ _ hv => hv) (fun _ _ hn => hn) (hl r a ha) (H.tree r a ha), H.void, H.disj, H.blk, H.lks, H.inn⟩
theorem RV1.unlent {F F' : Fz} {N : Nat} {c : AV} {v : Value} (hm : ∀ b o v, F.m b o = some v → F'.m b o = some v) (h0 : ∀ b o, ¬ F.N0 b o → ¬ F'.N0 b o) (hl : noLent c = true) (h : RV1 F R h1 N c v) : RV1 F' R h1 N c v := by
  cases h with
  | leaf hf => exact .leaf (hf.unlent hm h0 hl)
  | node a b c => exact .node a b c
theorem RVL.unlent {F F' : Fz} (hm : ∀ b o v, F.m b o = some v → F'.m b o = some v) (h0 : ∀ b o, ¬ F.N0 b o → ¬ F'.N0 b o) : ∀ {N : Nat} {l : List AV} {vs : List Value}, noLentL l = true → RVL F R h1 N l vs → RVL F' R h1 N l vs
  | _, _, _, _, .nil => .nil
  | _, _, _, hl, .cons a t => by
    simp only [noLentL, Bool.and_eq_true] at hl
    exact .cons (a.unlent hm h0 hl.1) (RVL.unlent hm h0 hl.2 t)
theorem RVE.unlent {F F' : Fz} (hm : ∀ b o v, F.m b o = some v → F'.m b o = some v) (h0 : ∀ b o, ¬ F.N0 b o → ¬ F'.N0 b o) {N : Nat} {c : AV} {v : Value} (hl : noLent c = true) (h : RVE F R h1 N c v) : RVE F' R h1 N c v := by
  cases h with
  | un => exact .un
  | c a => exact .c (a.unlent hm h0 hl)
  | agg a => exact .agg (a.unlent hm h0 hl)
theorem RVT.unlent {F F' : Fz} (hm : ∀ b o v, F.m b o = some v → F'.m b o = some v) (h0 : ∀ b o, ¬ F.N0 b o → ¬ F'.N0 b o) : ∀ {N : Nat} {l : List AV} {vs : List Value}, noLentL l = true → RVT F R h1 N l vs → RVT F' R h1 N l vs
  | _, _, _, _, .nil => .nil
  | _, _, _, hl, .cons hu a t => by
    simp only [noLentL, Bool.and_eq_true] at hl
    exact .cons hu (a.unlent hm h0 hl.1) (RVT.unlent hm h0 hl.2 t)
theorem RV.unlent {F F' : Fz} (hm : ∀ b o v, F.m b o = some v → F'.m b o = some v) (h0 : ∀ b o, ¬ F.N0 b o → ¬ F'.N0 b o) {N : Nat} {c : AV} {v : Value} (hl : noLent c = true) (h : RV F R h1 N c v) : RV F' R h1 N c v := by
  cases h with
  | e a => exact .e (a.unlent hm h0 hl)
  | tup a => exact .tup (a.unlent hm h0 hl)
end Go.Am
end
section
namespace Go.Am
open Go.RowKit Go.Lib
variable {P : Program} {cx : Cx} {B B1 : Base} {K : Nat → Prop} {g g' g0 g1 g2 : Gh} {R R' R0 R1 R2 : Nat → Value} {s : St} {h h' h0 h1 h2 : Hp} {w w' : World} {F F' : Fz}
def ioG (g : Gh) (pl : Pl) (nu : Nd) (μ : Nat × Nat → Option (Nat × Nat)) : List (Nat × Nat) → Option Nd
  | [] => some nu
  | t :: q => match μ t with
    | some t' => g pl.r (pl.p ++ t' :: q)
    | none => none
/-- 'a' is a part of the row at pl: its cell t is the row's cell μ t. -/
structure RowV (g : Gh) (h : Hp) (pl : Pl) (n nu : Nd) (μ : Nat × Nat → Option (Nat × Nat)) (a : AV) : Prop where
  at_ : g pl.r pl.p = some n
  nw : n.whole = false
  nuw : nu.whole = false
  b : nu.b = n.b
  sub : ∀ o, nu.has nu.b o → n.has n.b o
  bnd : ∀ cs : Array Value, n.o + n.sz * n.cap ≤ cs.size → nu.o + nu.sz * nu.cap ≤ cs.size
  to : ∀ t c, step1 a t = some c → ∃ t', μ t = some t' ∧ getP h (pl.cell t'.1 t'.2) = some c ∧ nu.o + t.1 * nu.sz + t.2 = n.o + t'.1 * n.sz + t'.2
  tot : ∀ t t', μ t = some t' → ∃ c, step1 a t = some c
  inj : ∀ t1 t2 t', μ t1 = some t' → μ t2 = some t' → t1 = t2
  cover : ∀ i j c, getP h (pl.cell i j) = some c → j < n.sz → nu.has n.b (n.o + i * n.sz + j) → ∃ t, μ t = some (i, j)
theorem RowV.back {pl : Pl} {n nu : Nd} {μ : Nat × Nat → Option (Nat × Nat)} {a : AV} (V : RowV g h pl n nu μ a) (t t' : Nat × Nat) (c : AV) (h1 : μ t = some t') (h2 : getP h (pl.cell t'.1 t'.2) = some c) : step1 a t = some c := by
  obtain ⟨c', hc⟩ := V.tot t t' h1
  obtain ⟨s', e1, e2, _⟩ := V.to t c' hc
  rw [h1] at e1; cases e1
  rw [h2] at e2; cases e2; exact hc
theorem RowV.move {pl : Pl} {n nu : Nd} {μ : Nat × Nat → Option (Nat × Nat)} {a : AV} (V : RowV g h pl n nu μ a) (hg : g' pl.r pl.p = some n) (hh : ∀ t t' c, μ t = some t' → getP h (pl.cell t'.1 t'.2) = some c → getP h' (pl.cell t'.1 t'.2) = some c) (hc : ∀ i j c, getP h' (pl.cell i j) = some c → ∃ c', getP h (pl.cell i j) = some c') : RowV g' h' pl n nu μ a :=
  ⟨hg, V.nw, V.nuw, V.b, V.sub, V.bnd, fun t c hc => by
    obtain ⟨t', e1, e2, e3⟩ := V.to t c hc
    exact ⟨t', e1, hh t t' c e1 e2, e3⟩, V.tot, V.inj, fun i j c h1 h2 h3 => by
    obtain ⟨c', h4⟩ := hc i j c h1
    exact V.cover i j c' h4 h2 h3⟩
theorem ioT_ok (H : RM B K g R h w) {pl : Pl} {n nu : Nd} {μ : Nat × Nat → Option (Nat × Nat)} {a : AV} {v : Value} {κ : Nat} (V : RowV g h pl n nu μ a) (hroot : LF (mkF B g w) (obj w) g a (some nu) v) (hn : isNode a = true) (hnl : noLk a = true) :
    (⟨κ, a, v, ioG g pl nu μ⟩ : IoT).ok B g w pl.r := by
  obtain ⟨x, hx, hp⟩ : ∃ x, hget h pl.r = some x ∧ ∃ c, getT x pl.p = some c := by
    cases hh : hget h pl.r with
    | none => have := H.void pl.r hh pl.p; rw [V.at_] at this; cases this
    | some x => obtain ⟨c, hc, _⟩ := (H.tree _ x hh).dom pl.p n V.at_; exact ⟨x, rfl, c, hc⟩
  have ht := H.tree _ x hx
  have get : ∀ {t : Nat × Nat} {c : AV}, getP h (pl.cell t.1 t.2) = some c → getT x (pl.p ++ [t]) = some c := by
    intro t c hc
    unfold getP at hc
    rw [show (pl.cell t.1 t.2).r = pl.r from rfl, hx] at hc
    exact hc
  have gcons : ∀ {t : Nat × Nat} {c : AV} {q : List (Nat × Nat)}, getT x (pl.p ++ [t]) = some c → getT x (pl.p ++ t :: q) = getT c q := by
    intro t c q hc
    rw [show pl.p ++ t :: q = (pl.p ++ [t]) ++ q by simp, getT_append, hc]; rfl
  refine ⟨⟨hroot, fun p i j c hc => ?_, fun q m hq => ?_⟩, fun q m hq => ?_, fun q m q' m' h1 h2 hne => ?_, fun q m hq hw => ?_, hnl⟩
  · cases p with
    | nil =>
      simp only [List.nil_append, getT] at hc
      cases hs : step1 a (i, j) with
      | none => rw [hs] at hc; cases hc
      | some y =>
        rw [hs] at hc
        simp only [Option.bind_some, Option.some.injEq] at hc
        subst hc
        obtain ⟨t', e1, e2, e3⟩ := V.to _ _ hs
        have e2' := get e2
        obtain ⟨m, u, f1, f2, f3, f4, f5, f6⟩ := ht.inside (i := t'.1) (j := t'.2) e2'
        rw [V.at_] at f1; cases f1
        refine ⟨nu, u, rfl, ?_, ?_⟩
        · rw [V.b, e3]; exact f5
        · simp only [List.nil_append, ioG, e1]; exact f6
    | cons t p =>
      simp only [List.cons_append, getT] at hc
      cases hs : step1 a t with
      | none => rw [hs] at hc; cases hc
      | some y =>
        rw [hs] at hc
        simp only [Option.bind_some] at hc
        obtain ⟨t', e1, e2, e3⟩ := V.to _ _ hs
        have e2' := get e2
        have hh : getT x (pl.p ++ t' :: p ++ [(i, j)]) = some c := by
          rw [List.append_assoc, List.cons_append, gcons e2']; exact hc
        obtain ⟨m, u, f1, f2, f3⟩ := ht.cell _ i j c hh
        refine ⟨m, u, ?_, f2, ?_⟩
        · simp only [ioG, e1]; exact f1
        · simp only [List.cons_append, ioG, e1]
          have e : pl.p ++ t' :: (p ++ [(i, j)]) = pl.p ++ t' :: p ++ [(i, j)] := by simp
          rw [e]; exact f3
  · cases q with
    | nil => exact ⟨a, rfl, hn⟩
    | cons t q =>
      simp only [ioG] at hq
      cases e1 : μ t with
      | none => rw [e1] at hq; cases hq
      | some t' =>
        rw [e1] at hq
        obtain ⟨c, hc, hcn⟩ := ht.dom _ m hq
        obtain ⟨y, hy⟩ : ∃ y, getT x (pl.p ++ [t']) = some y := by
          rw [show pl.p ++ t' :: q = (pl.p ++ [t']) ++ q by simp, getT_append] at hc
          cases hy : getT x (pl.p ++ [t']) with
          | none => rw [hy] at hc; cases hc
          | some y => exact ⟨y, rfl⟩
        have hs := V.back t t' y e1 (by unfold getP; rw [show (pl.cell t'.1 t'.2).r = pl.r from rfl, hx]; exact hy)
        refine ⟨c, ?_, hcn⟩
        simp only [getT, hs, Option.bind_some]
        rw [← gcons hy]; exact hc
  · cases q with
    | nil =>
      simp only [ioG, Option.some.injEq] at hq
      subst hq
      refine ⟨pl.p, n, V.at_, fun b o hb => ?_⟩
      obtain ⟨h1, h2⟩ := hb
      subst h1
      have := V.sub o ⟨rfl, h2⟩
      exact ⟨by rw [V.b], this.2⟩
    | cons t q =>
      simp only [ioG] at hq
      cases e1 : μ t with
      | none => rw [e1] at hq; cases hq
      | some t' => rw [e1] at hq; exact ⟨_, m, hq, fun _ _ hb => hb⟩
  · have nuin : ∀ b o, nu.has b o → n.has b o := by
      intro b o hb
      obtain ⟨h1, h2⟩ := hb
      subst h1
      have := V.sub o ⟨rfl, h2⟩
      exact ⟨by rw [V.b], this.2⟩
    cases q with
    | nil =>
      cases q' with
      | nil => exact absurd rfl hne
      | cons t' q' =>
        simp only [ioG, Option.some.injEq] at h1 h2
        subst h1
        cases e2 : μ t' with
        | none => rw [e2] at h2; cases h2
        | some s2 =>
          rw [e2] at h2
          intro b o hb hb'
          exact H.disj _ _ _ _ _ _ V.at_ h2 (by intro e; simp at e) b o (nuin b o hb) hb'
    | cons t q =>
      simp only [ioG] at h1
      cases e1 : μ t with
      | none => rw [e1] at h1; cases h1
      | some s1 =>
        rw [e1] at h1
        cases q' with
        | nil =>
          simp only [ioG, Option.some.injEq] at h2
          subst h2
          intro b o hb hb'
          exact H.disj _ _ _ _ _ _ V.at_ h1 (by intro e; simp at e) b o (nuin b o hb') hb
        | cons t' q' =>
          simp only [ioG] at h2
          cases e2 : μ t' with
          | none => rw [e2] at h2; cases h2
          | some s2 =>
            rw [e2] at h2
            refine H.disj _ _ _ _ _ _ h1 h2 fun e => hne ?_
            simp only [Prod.mk.injEq, List.append_cancel_left_eq, List.cons.injEq, true_and] at e
            obtain ⟨e3, e4⟩ := e
            subst e3
            rw [V.inj t t' s1 e1 e2, e4]
  · cases q with
    | nil =>
      simp only [ioG, Option.some.injEq] at hq
      subst hq
      obtain ⟨cs, el, fr, b1, b2, b3⟩ := H.blk _ _ _ V.at_ V.nw
      refine ⟨cs, el, fr, by rw [V.b]; exact b1, V.bnd cs b2, fun o ho => ?_⟩
      rw [V.b]
      exact b3 o (V.sub o ho)
    | cons t q =>
      simp only [ioG] at hq
      cases e1 : μ t with
      | none => rw [e1] at hq; cases hq
      | some t' => rw [e1] at hq; exact H.blk _ _ _ hq hw
/-- the cells of a variable, or of a part of one -/
theorem row_ptr (H : RM B K g R h w) {pl : Pl} {i off : Nat} {cs : List AV} {e : AV} {n : Nd} (h00 : 0 < cs.length) (hn : g pl.r pl.p = some n) (hnw : n.whole = false) (hcs : ∀ j c, cs[j]? = some c → getP h (pl.cell i (off + j)) = some c) (hce : cells e = cs) :
    RowV g h pl n ⟨n.b, n.o + i * n.sz + off, cs.length, 1, false⟩ (fun t => if t.1 = 0 ∧ t.2 < cs.length then some (i, off + t.2) else none) (.bx e) := by
  have hin : ∀ j, j < cs.length → i < n.cap ∧ off + j < n.sz := by
    intro j hj
    obtain ⟨a, ha, hp⟩ := getP_some (hcs j cs[j] (List.getElem?_eq_getElem hj))
    obtain ⟨m, u, f1, f2, f3, f4, _⟩ := (H.tree _ a ha).inside (p := pl.p) (i := i) (j := off + j) hp
    rw [show (pl.cell i (off + j)).r = pl.r from rfl, hn] at f1; cases f1
    exact ⟨f3, f4⟩
  have hlast : 0 < cs.length → i < n.cap ∧ off + cs.length ≤ n.sz := by
    intro h0
    obtain ⟨a, b⟩ := hin (cs.length - 1) (by omega)
    exact ⟨a, by omega⟩
  have hsz : 0 < cs.length → i * n.sz + off + cs.length ≤ n.sz * n.cap := by
    intro h0
    obtain ⟨a, b⟩ := hlast h0
    have : (i + 1) * n.sz ≤ n.cap * n.sz := Nat.mul_le_mul_right _ a
    rw [Nat.add_mul, Nat.mul_comm n.cap] at this
    omega
  refine ⟨hn, hnw, rfl, rfl, fun o ho => ?_, fun cs' hc => ?_, fun t c hc => ?_, fun t t' ht => ?_, fun t1 t2 t' h1 h2 => ?_, fun i' j' c hc hj hh => ?_⟩
  · obtain ⟨_, h2⟩ := ho
    rcases h2 with h2 | h2
    · cases h2
    · simp only [Nat.mul_one] at h2
      have := hsz (by omega)
      exact ⟨rfl, .inr (by omega)⟩
  · simp only [Nat.mul_one]
    have := hsz h00; omega
  · rcases step1_some (i := t.1) (j := t.2) hc with ⟨sz, es, e', he, _⟩ | ⟨e', he, h1, h2⟩
    · cases he
    · cases he
      rw [hce] at h2
      have hlt := (List.getElem?_eq_some_iff.1 h2).1
      refine ⟨(i, off + t.2), by simp [h1, hlt], hcs _ _ h2, ?_⟩
      simp only [h1]; omega
  · split at ht
    · rename_i hc'
      obtain ⟨t1, t2⟩ := t
      simp only at hc'
      obtain ⟨rfl, hlt⟩ := hc'
      exact ⟨cs[t2], by simp only [step1, if_true, hce]; exact List.getElem?_eq_getElem hlt⟩
    · cases ht
  · obtain ⟨a1, a2⟩ := t1
    obtain ⟨b1, b2⟩ := t2
    simp only at h1 h2
    split at h1
    · rename_i c1
      split at h2
      · rename_i c2
        cases h1
        simp only [Option.some.injEq, Prod.mk.injEq] at h2
        have : a2 = b2 := by omega
        rw [c1.1, c2.1, this]
      · cases h2
    · cases h1
  · obtain ⟨_, h2⟩ := hh
    rcases h2 with h2 | h2
    · cases h2
    · simp only [Nat.mul_one] at h2
      obtain ⟨b1, b2⟩ := hlast h00
      have e1 : i' = i := by
        rcases Nat.lt_trichotomy i' i with h | h | h
        · have : (i' + 1) * n.sz ≤ i * n.sz := Nat.mul_le_mul_right _ h
          rw [Nat.add_mul] at this; omega
        · exact h
        · have : (i + 1) * n.sz ≤ i' * n.sz := Nat.mul_le_mul_right _ h
          rw [Nat.add_mul] at this; omega
      subst e1
      refine ⟨(0, j' - off), ?_⟩
      simp only [true_and]
      rw [if_pos (by omega)]
      congr 2; omega
/-- a whole slice -/
theorem row_slice {pl : Pl} {sz k cap : Nat} {es : List AV} {n : Nd} (hn : g pl.r pl.p = some n) (hnw : n.whole = false) (hsz : n.sz = sz) (hk : k + cap ≤ n.cap) (hl : es.length ≤ cap) (hk0 : cap = 0 ∨ k = 0) (hp : getP h pl = some (.ow sz es)) (hcz : ∀ e ∈ es, (cells e).length = sz) :
    RowV g h pl n (cutN n k cap) (fun t => if t.1 < es.length ∧ t.2 < sz then some t else none) (.ow sz es) := by
  refine ⟨hn, hnw, hnw, rfl, fun o ho => cutN_has hk ho, fun cs' hc => ?_, fun t c hc => ?_, fun t t' ht => ?_, fun t1 t2 t' h1 h2 => ?_, fun i' j' c hc hj hh => ?_⟩
  · simp only [cutN]
    have : n.sz * (k + cap) ≤ n.sz * n.cap := Nat.mul_le_mul_left _ hk
    rw [Nat.mul_add, Nat.mul_comm n.sz k] at this
    omega
  · rcases step1_some (i := t.1) (j := t.2) hc with ⟨sz', es', e', he, h1, h2⟩ | ⟨e', he, _⟩
    · cases he
      have l1 := (List.getElem?_eq_some_iff.1 h1).1
      have l2 := (List.getElem?_eq_some_iff.1 h2).1
      rw [hcz e' (List.mem_of_getElem? h1)] at l2
      refine ⟨t, by simp [l1, l2], getP_step hp hc, ?_⟩
      have hk : k = 0 := by rcases hk0 with h | h; omega; exact h
      simp only [cutN, hk, Nat.zero_mul, Nat.add_zero]
    · cases he
  · split at ht
    · rename_i hc'
      have h1 : es[t.1]? = some es[t.1] := List.getElem?_eq_getElem hc'.1
      have h2 : t.2 < (cells es[t.1]).length := by rw [hcz _ (List.getElem_mem hc'.1)]; exact hc'.2
      exact ⟨(cells es[t.1])[t.2], by obtain ⟨t1, t2⟩ := t; simp only [step1]; rw [h1]; simp only [Option.bind_some]; exact List.getElem?_eq_getElem h2⟩
    · cases ht
  · split at h1
    · split at h2
      · cases h1; cases h2; rfl
      · cases h2
    · cases h1
  · obtain ⟨a, ha, hpp⟩ := getP_some hc
    obtain ⟨a2, ha2, hpp2⟩ := getP_some hp
    rw [show (pl.cell i' j').r = pl.r from rfl, ha2] at ha; cases ha
    have e1 : step1 (.ow sz es) (i', j') = some c := by
      have := hpp
      rw [show (pl.cell i' j').p = pl.p ++ [(i', j')] from rfl, getT_snoc, hpp2] at this
      exact this
    rcases step1_some e1 with ⟨sz', es', e', he, h1, h2⟩ | ⟨e', he, _⟩
    · cases he
      have l1 := (List.getElem?_eq_some_iff.1 h1).1
      refine ⟨(i', j'), ?_⟩
      simp only
      rw [if_pos ⟨l1, by omega⟩]
    · cases he
end Go.Am
end
section
namespace Go.Am
open Go.RowKit Go.Lib
variable {P : Program} {cx : Cx} {B B0 B1 : Base} {K : Nat → Prop} {g g' g0 g1 g2 : Gh} {R R' R0 R1 R2 : Nat → Value} {s : St} {h h' h0 h1 h2 : Hp} {w w' : World} {F F' : Fz}
structure IoSpec where
  κ : Nat
  pl : Pl
  n : Nd
  nu : Nd
  μ : Nat × Nat → Option (Nat × Nat)
  a : AV
  v : Value
  tc : List Pl
  iop : IoR
structure IoSpec.ok (t : IoSpec) (s : St) (B : Base) (g : Gh) (w : World) : Prop where
  row : RowV g s.h t.pl t.n t.nu t.μ t.a
  root : ∀ {F : Fz} {ob : Nat → Option Obj} {G : Gh}, LF F ob G t.a (some t.nu) t.v
  node : isNode t.a = true
  tc0 : t.tc ≠ []
  tcpl : ∀ p ∈ t.tc, t.pl.pre p = true
  cov : ∀ tt t', t.μ tt = some t' → ∃ p ∈ t.tc, p.pre (t.pl.cell t'.1 t'.2) = true
  kind : (∃ i off e, t.iop = .cells (cellPls t.pl i off (cells e).length) ∧ t.a = .bx e ∧ t.μ = fun t => if t.1 = 0 ∧ t.2 < (cells e).length then some (i, off + t.2) else none) ∨
    (∃ sz es, t.iop = .node t.pl sz es.length ∧ t.a = .ow sz es ∧ t.μ = fun t => if t.1 < es.length ∧ t.2 < sz then some t else none)
/-- the callee's side -/
structure CEnv (B : Base) (g : Gh) (w : World) (B0 : Base) (g0 : Gh) (R0 : Nat → Value) (h0 : Hp) (g2 : Gh) (R2 : Nat → Value) (h2 : Hp) (ts : List Tk) (mv : List (Nat × AV × Nat)) (gv : List Nat) (vw : List Rd) (io : List IoSpec) : Prop where
  rm0 : RM B0 (fun _ => False) g0 R0 h0 w
  le0 : (mkF B g w).le (mkF B0 g0 w)
  rm2 : ∃ K, RM B K g2 R2 h2 w
  le2 : (mkF B g2 w).le (mkF B0 g0 w)
  got : Got (mkF B g2 w) R2 h2 ts
  mvs : ∀ m ∈ mv, hget h0 m.1 = some m.2.1 ∧ R0 m.1 = R2 m.2.2
  gvs : ∀ N ∈ gv, ∀ q n, g2 N q = some n → ∀ o, n.has n.b o → (mkF B0 g0 w).no 0 n.b o
  vws : ∀ r ∈ vw, ∀ q n, g r.pl.r (r.pl.p ++ q) = some n → ∀ o, n.has n.b o → (mkF B0 g0 w).no 2 n.b o
  ios : ∀ t ∈ io, hget h0 t.κ = some t.a ∧ R0 t.κ = t.v
theorem CEnv.sub {ts ts' : List Tk} {mv mv' : List (Nat × AV × Nat)} {gv gv' : List Nat} {vw vw' : List Rd} {io io' : List IoSpec} (E : CEnv B g w B0 g0 R0 h0 g2 R2 h2 ts mv gv vw io)
    (e1 : ∀ t ∈ ts', t ∈ ts) (e2 : ∀ t ∈ mv', t ∈ mv) (e3 : ∀ t ∈ gv', t ∈ gv) (e4 : ∀ t ∈ vw', t ∈ vw) (e5 : ∀ t ∈ io', t ∈ io) : CEnv B g w B0 g0 R0 h0 g2 R2 h2 ts' mv' gv' vw' io' :=
  ⟨E.rm0, E.le0, E.rm2, E.le2, fun t ht => E.got t (e1 t ht), fun m hm => E.mvs m (e2 m hm), fun N hN => E.gvs N (e3 N hN), fun r hr => E.vws r (e4 r hr), fun t ht => E.ios t (e5 t ht)⟩
inductive IoOuts (g0 g1 : Gh) (h1 : Hp) : List IoSpec → List AV → Prop
  | nil : IoOuts g0 g1 h1 [] []
  | cons {t : IoSpec} {o : AV} {io : List IoSpec} {os : List AV} (a : hget h1 t.κ = some o) (b : ∀ n, g0 t.κ [] = some n → g1 t.κ [] = some n) (c : (∃ e, o = .bx e) ∨ ∃ sz es, o = .ow sz es) (tl : IoOuts g0 g1 h1 io os) : IoOuts g0 g1 h1 (t :: io) (o :: os)
theorem IoOuts.append {h1 : Hp} : ∀ {io io' : List IoSpec} {os os' : List AV}, IoOuts g0 g1 h1 io os → IoOuts g0 g1 h1 io' os' → IoOuts g0 g1 h1 (io ++ io') (os ++ os')
  | _, _, _, _, .nil, h => h
  | _, _, _, _, .cons a b c tl, h => .cons a b c (tl.append h)
structure AR (s : St) (B : Base) (K : Nat → Prop) (g : Gh) (w : World) (M k c c' : Nat) (ms : List Md) (cv : List AV) (vs : List Value) (rd : List Rd) (up : List Up) (touch : List Pl) (iol : List IoR) (lent : Bool)
    (ts : List Tk) (mv : List (Nat × AV × Nat)) (gv : List Nat) (vw : List Rd) (io : List IoSpec) : Prop where
  len : vs.length = cv.length
  le : c ≤ c'
  tks : ts.flatMap Tk.us = up ∧ ∀ t ∈ ts, t.ok s B K g s.h w
  inc : ts.Pairwise fun t t' => t.us ≠ [] → t'.us ≠ [] → t.N ≠ t'.N
  rng : ∀ t ∈ ts, t.us ≠ [] → M + c ≤ t.N ∧ t.N < M + c'
  cov : ∀ t ∈ ts, t.us ≠ [] → (∃ m ∈ mv, m.2.2 = t.N) ∨ t.N ∈ gv
  mvr : ∀ m ∈ mv, M + c ≤ m.2.2 ∧ m.2.2 < M + c' ∧ (∃ t ∈ ts, t.us ≠ [] ∧ t.N = m.2.2 ∧ t.x = m.2.1)
  gvr : ∀ N ∈ gv, M + c ≤ N ∧ N < M + c'
  gm : ∀ N ∈ gv, ∀ m ∈ mv, m.2.2 ≠ N
  mvd : mv.Pairwise fun m m' => m.2.2 ≠ m'.2.2
  ent : ∃ E : List (Nat × AV), (entryL k cv).2 = E.map (fun p => Up.new p.1 p.2) ∧ E.Perm (mv.map (fun m => (m.1, m.2.1)) ++ io.map fun t => (t.κ, t.a))
  mlen : ms.length = cv.length
  iorng : ∀ t ∈ io, k ≤ t.κ ∧ t.κ < k + cv.length
  iof : ∀ {g0 g1 : Gh} {h1 : Hp} {ms' : List Md} {cv' outs : List AV}, IoOut g0 g1 h1 k (ms ++ ms') (cv ++ cv') outs → ∃ o1 o2, outs = o1 ++ o2 ∧ IoOuts g0 g1 h1 io o1 ∧ IoOut g0 g1 h1 (k + cv.length) ms' cv' o2
  iol : io.map IoSpec.iop = iol
  iok : ∀ t ∈ io, t.ok s B g w
  ird : ∀ t ∈ io, ∀ p ∈ t.tc, p ∈ touch ∧ ∃ r ∈ rd, r.pl = p
  vwr : ∀ r ∈ vw, r ∈ rd ∧ r.deep = true
  upt : ∀ u ∈ up, (∃ q, u = gone q) ∧ u.pl ∈ touch ∧ ∃ r ∈ rd, r.pl = u.pl
  lnt : lent = false → vw = []
  sep : ∀ p ∈ touch, ∀ r ∈ vw, p.pre r.pl = false ∧ r.pl.pre p = false
  sep2 : ∀ u ∈ up, ∀ t ∈ io, ∀ p ∈ t.tc, u.pl.pre p = false ∧ p.pre u.pl = false
  fin : ∀ {B0 : Base} {g0 : Gh} {R0 : Nat → Value} {h0 : Hp} {g2 : Gh} {R2 : Nat → Value} {h2 : Hp}, CEnv B g w B0 g0 R0 h0 g2 R2 h2 ts mv gv vw io → XDs (mkF B0 g0 w) g0 [] (entryL k cv).1 vs
theorem entryL_append : ∀ (l m : List AV) (k : Nat), (entryL k (l ++ m)).1 = (entryL k l).1 ++ (entryL (k + l.length) m).1 ∧ (entryL k (l ++ m)).2 = (entryL k l).2 ++ (entryL (k + l.length) m).2
  | [], m, k => by simp [entryL]
  | a :: l, m, k => by
    obtain ⟨h1, h2⟩ := entryL_append l m (k + 1)
    simp only [List.cons_append, entryL, h1, h2, List.length_cons, show k + 1 + l.length = k + (l.length + 1) by omega, List.append_assoc, and_self]
theorem XDs.append {F : Fz} {d : List Up} : ∀ {l m : List AV} {vs us : List Value}, XDs F g d l vs → XDs F g d m us → XDs F g d (l ++ m) (vs ++ us)
  | _, _, _, _, .nil, h => h
  | _, _, _, _, .cons a t, h => .cons a (t.append h)
theorem touches_false {ps : List Pl} {rs : List Rd} (h : touches ps rs = false) : ∀ p ∈ ps, ∀ r ∈ rs, p.pre r.pl = false ∧ r.pl.pre p = false := by
  intro p hp r hr
  unfold touches at h
  rw [List.any_eq_false] at h
  have := h p hp
  simp only [List.any_eq_true, not_exists, not_and, Bool.not_eq_true] at this
  have := this r hr
  rw [Bool.or_eq_false_iff] at this
  exact this
theorem AR.nil {M k c : Nat} : AR s B K g w M k c c [] [] [] [] [] [] [] false [] [] [] [] [] := by
  refine ⟨rfl, Nat.le_refl _, ⟨rfl, ?_⟩, .nil, ?_, ?_, ?_, ?_, ?_, .nil, ⟨[], rfl, .nil⟩, rfl, ?_, fun h => ⟨[], _, rfl, .nil, h⟩, rfl, ?_, ?_, ?_, ?_, fun _ => rfl, ?_, ?_, fun _ => .nil⟩
  all_goals (first | (intro x hx; exact (List.not_mem_nil hx).elim) | (intro p; simp))
theorem AR.append {M k c c' c'' : Nat} {ms ms' : List Md} {cv cv' : List AV} {vs vs' : List Value} {rd rd' : List Rd} {up up' : List Up} {touch touch' : List Pl} {iol iol' : List IoR} {lent lent' : Bool}
    {ts ts' : List Tk} {mv mv' : List (Nat × AV × Nat)} {gv gv' : List Nat} {vw vw' : List Rd} {io io' : List IoSpec}
    (a : AR s B K g w M k c c' ms cv vs rd up touch iol lent ts mv gv vw io) (b : AR s B K g w M (k + cv.length) c' c'' ms' cv' vs' rd' up' touch' iol' lent' ts' mv' gv' vw' io')
    (t1 : touches touch rd' = false) (t2 : touches touch' rd = false) :
    AR s B K g w M k c c'' (ms ++ ms') (cv ++ cv') (vs ++ vs') (rd ++ rd') (up ++ up') (touch ++ touch') (iol ++ iol') (lent || lent') (ts ++ ts') (mv ++ mv') (gv ++ gv') (vw ++ vw') (io ++ io') := by
  have h1 := touches_false t1
  have h2 := touches_false t2
  have lea := a.le
  have leb := b.le
  refine ⟨by simp [a.len, b.len], Nat.le_trans a.le b.le, ⟨by simp [a.tks.1, b.tks.1], ?_⟩, ?_, ?_, ?_, ?_, ?_, ?_, ?_, ?_, by simp [a.mlen, b.mlen], ?_, fun h => ?_, by simp [a.iol, b.iol], ?_, ?_, ?_, ?_, ?_, ?_, ?_, ?_⟩
  · intro t ht
    rcases List.mem_append.1 ht with h | h
    · exact a.tks.2 t h
    · exact b.tks.2 t h
  · rw [List.pairwise_append]
    refine ⟨a.inc, b.inc, fun t ht t' ht' hu hu' => ?_⟩
    have := a.rng t ht hu
    have := b.rng t' ht' hu'
    omega
  · intro t ht hu
    rcases List.mem_append.1 ht with h | h
    · have := a.rng t h hu; omega
    · have := b.rng t h hu; omega
  · intro t ht hu
    rcases List.mem_append.1 ht with h | h
    · rcases a.cov t h hu with ⟨m, hm, e⟩ | hg
      · exact .inl ⟨m, List.mem_append_left _ hm, e⟩
      · exact .inr (List.mem_append_left _ hg)
    · rcases b.cov t h hu with ⟨m, hm, e⟩ | hg
      · exact .inl ⟨m, List.mem_append_right _ hm, e⟩
      · exact .inr (List.mem_append_right _ hg)
  · intro m hm
    rcases List.mem_append.1 hm with h | h
    · obtain ⟨x, y, t, ht, z⟩ := a.mvr m h; exact ⟨x, by omega, t, List.mem_append_left _ ht, z⟩
    · obtain ⟨x, y, t, ht, z⟩ := b.mvr m h; exact ⟨by omega, y, t, List.mem_append_right _ ht, z⟩
  · intro N hN
    rcases List.mem_append.1 hN with h | h
    · have := a.gvr N h; omega
    · have := b.gvr N h; omega
  · intro N hN m hm
    rcases List.mem_append.1 hN with h | h <;> rcases List.mem_append.1 hm with h' | h'
    · exact a.gm N h m h'
    · have := a.gvr N h; have := b.mvr m h'; omega
    · have := b.gvr N h; have := a.mvr m h'; omega
    · exact b.gm N h m h'
  · rw [List.pairwise_append]
    refine ⟨a.mvd, b.mvd, fun m hm m' hm' => ?_⟩
    have := a.mvr m hm
    have := b.mvr m' hm'
    omega
  · obtain ⟨E, e1, e2⟩ := a.ent
    obtain ⟨E', e1', e2'⟩ := b.ent
    refine ⟨E ++ E', by rw [(entryL_append _ _ _).2, e1, e1', List.map_append], (e2.append e2').trans ?_⟩
    simp only [List.map_append, List.append_assoc]
    refine List.Perm.append_left _ ?_
    rw [← List.append_assoc, ← List.append_assoc]
    exact List.Perm.append_right _ List.perm_append_comm
  · intro t ht
    rcases List.mem_append.1 ht with h | h
    · have := a.iorng t h; simp only [List.length_append]; omega
    · have := b.iorng t h; simp only [List.length_append]; omega
  · rw [List.append_assoc, List.append_assoc] at h
    obtain ⟨o1, o2, rfl, h3, h4⟩ := a.iof h
    obtain ⟨o3, o4, rfl, h5, h6⟩ := b.iof h4
    exact ⟨o1 ++ o3, o4, by simp, h3.append h5, by rw [List.length_append, ← Nat.add_assoc]; exact h6⟩
  · intro t ht
    rcases List.mem_append.1 ht with h | h
    · exact a.iok t h
    · exact b.iok t h
  · intro t ht p hp
    rcases List.mem_append.1 ht with h | h
    · obtain ⟨x, r, hr, e⟩ := a.ird t h p hp; exact ⟨List.mem_append_left _ x, r, List.mem_append_left _ hr, e⟩
    · obtain ⟨x, r, hr, e⟩ := b.ird t h p hp; exact ⟨List.mem_append_right _ x, r, List.mem_append_right _ hr, e⟩
  · intro r hr
    rcases List.mem_append.1 hr with h | h
    · exact ⟨List.mem_append_left _ (a.vwr r h).1, (a.vwr r h).2⟩
    · exact ⟨List.mem_append_right _ (b.vwr r h).1, (b.vwr r h).2⟩
  · intro u hu
    rcases List.mem_append.1 hu with h | h
    · obtain ⟨x, y, r, hr, e⟩ := a.upt u h; exact ⟨x, List.mem_append_left _ y, r, List.mem_append_left _ hr, e⟩
    · obtain ⟨x, y, r, hr, e⟩ := b.upt u h; exact ⟨x, List.mem_append_right _ y, r, List.mem_append_right _ hr, e⟩
  · intro hl
    rw [Bool.or_eq_false_iff] at hl
    rw [a.lnt hl.1, b.lnt hl.2]; rfl
  · intro p hp r hr
    rcases List.mem_append.1 hp with h | h <;> rcases List.mem_append.1 hr with h' | h'
    · exact a.sep p h r h'
    · exact h1 p h r (b.vwr r h').1
    · exact h2 p h r (a.vwr r h').1
    · exact b.sep p h r h'
  · intro u hu t ht p hp
    rcases List.mem_append.1 hu with h | h <;> rcases List.mem_append.1 ht with h' | h'
    · exact a.sep2 u h t h' p hp
    · obtain ⟨_, y, _⟩ := a.upt u h
      obtain ⟨_, r, hr, e⟩ := b.ird t h' p hp
      have := h1 _ y r hr
      rw [e] at this; exact this
    · obtain ⟨_, y, _⟩ := b.upt u h
      obtain ⟨_, r, hr, e⟩ := a.ird t h' p hp
      have := h2 _ y r hr
      rw [e] at this; exact this
    · exact b.sep2 u h t h' p hp
  · intro B0 g0 R0 h0 g2 R2 h2 E
    rw [(entryL_append _ _ _).1]
    exact (a.fin (E.sub (fun _ h => List.mem_append_left _ h) (fun _ h => List.mem_append_left _ h) (fun _ h => List.mem_append_left _ h) (fun _ h => List.mem_append_left _ h) fun _ h => List.mem_append_left _ h)).append
      (b.fin (E.sub (fun _ h => List.mem_append_right _ h) (fun _ h => List.mem_append_right _ h) (fun _ h => List.mem_append_right _ h) (fun _ h => List.mem_append_right _ h) fun _ h => List.mem_append_right _ h))
end Go.Am
end
section
namespace Go.Am
open Go.RowKit Go.Lib
variable {P : Program} {cx : Cx} {B B0 B1 : Base} {K : Nat → Prop} {g g' g0 g1 g2 : Gh} {R R' R0 R1 R2 : Nat → Value} {s : St} {h h' h0 h1 h2 : Hp} {w w' : World} {F F' : Fz}
theorem frzL_drop_take {lab : Nat} : ∀ (l : List AV) (a b : Nat), frzL lab ((l.drop a).take b) = ((frzL lab l).drop a).take b := by
  intro l a b
  apply List.ext_getElem?
  intro i
  rw [frzL_get]
  simp only [List.getElem?_take, List.getElem?_drop]
  split
  · rw [frzL_get]
  · rfl
theorem sub_TOK (H : RM B K g R h w) {pl : Pl} {c : AV} (hc : getP h pl = some c) : ∃ u, TOK (mkF B g w) (obj w) g (fun q => g pl.r (pl.p ++ q)) c u := by
  obtain ⟨a, ha, hp⟩ := getP_some hc
  have ht := H.tree _ a ha
  rcases List.eq_nil_or_concat pl.p with e | ⟨p0, t, e⟩
  · rw [e] at hp ⊢
    simp only [getT, Option.some.injEq] at hp
    subst hp
    exact ⟨_, by simpa using ht⟩
  · rw [List.concat_eq_append] at e
    obtain ⟨i, j⟩ := t
    rw [e] at hp ⊢
    obtain ⟨n, u, _, _, _, _, _, h7⟩ := ht.sub hp
    exact ⟨u, h7⟩
theorem RE.part {F : Fz} {lab sz b o : Nat} {l : List AV} (h : RE F lab sz l b o) (a n : Nat) : RE F lab sz ((l.drop a).take n) b (o + a * sz) := by
  refine RE.of fun i e hi => ?_
  rw [List.getElem?_take] at hi
  split at hi
  · rw [List.getElem?_drop] at hi
    obtain ⟨h1, h2⟩ := h.get hi
    refine ⟨h1, ?_⟩
    rw [Nat.add_mul] at h2
    rw [Nat.add_assoc]; exact h2
  · cases hi
/-- What is at a place, seen: frozen for as long as nobody writes there. -/
theorem view_slice (H : RM B K g R h w) {F : Fz} (hle : (mkF B g w).le F) (hm : ∀ b o x, (mkF B g w).m b o = some x → F.m b o = some x) {pl : Pl} {sz sz' off len : Nat} {es : List AV} {v : Value} {d : List Up} (hv : XD (mkF B g w) g d (.rf sz pl off len) v) (ho : okD d pl) (hc : getP h pl = some (.ow sz es)) (hl : off + len ≤ es.length)
    (hno : ∀ q n, g pl.r (pl.p ++ q) = some n → ∀ o, n.has n.b o → F.no 2 n.b o) : RF F (.fz 2 sz (frzL 2 ((es.drop off).take len))) v := by
  obtain ⟨cap, k, n, f1, f2, f3, f4, f5, f6, rfl⟩ := X_rf hv ho
  obtain ⟨u, ht⟩ := sub_TOK H hc
  have hf := frz_RF (lab := 2) (F1 := F) (by decide) ht (fun p m hm o hh => hno p m hm o hh) (fun p m o x _ _ hx => hm _ _ _ hx) (fun c u hf => hf.mono hle) _ (.ow sz es) [] u (Nat.lt_succ_self _) rfl ht.root
  obtain ⟨m, e1, e2, e3, e4, rfl, e6⟩ := ht.root
  simp only [List.append_nil] at e1
  rw [f1] at e1; cases e1
  simp only [frz] at hf
  have h3 : RE F 2 sz (frzL 2 es) n.b n.o := by
    generalize hz : Value.slice (some ⟨n.b, n.o, none⟩) es.length n.cap = z at hf
    cases hf with
    | fzs _ _ _ b o cap' sp h1 h2 h3 h4 => simp only [Value.slice.injEq, Option.some.injEq, Addr.mk.injEq] at hz; obtain ⟨⟨rfl, rfl, _⟩, _, _⟩ := hz; exact h3
  have h4 := h3.part off len
  have hlen : (((frzL 2 es).drop off).take len).length = len := by simp [frzL_len]; omega
  rw [frzL_drop_take]
  have h5 := RF.fz (F := F) 2 sz _ n.b (n.o + k * n.sz) cap (by decide) (by rw [hlen]; exact f5) (by
    rcases f6 with rfl | rfl
    · have : ((frzL 2 es).drop off).take len = [] := List.eq_nil_of_length_eq_zero (by rw [hlen]; omega)
      rw [this]; exact .nil _ _ _ _
    · rw [f3]; exact h4)
  rw [hlen] at h5
  exact h5
theorem view_ptr (H : RM B K g R h w) {F : Fz} (hle : (mkF B g w).le F) (hm : ∀ b o x, (mkF B g w).m b o = some x → F.m b o = some x) {pl : Pl} {i off : Nat} {c e : AV} {v : Value} {d : List Up} (hv : XD (mkF B g w) g d (.ptr pl i off) v) (ho : okD d pl) (hc : getP h pl = some c)
    (hce : (∃ sz es, c = .ow sz es ∧ es[i]? = some e) ∨ (c = .bx e ∧ i = 0))
    (hno : ∀ q n, g pl.r (pl.p ++ q) = some n → ∀ o, n.has n.b o → F.no 2 n.b o) : RF F (.fp 2 (frz 2 e) off) v := by
  obtain ⟨n, f1, f2, rfl⟩ := X_ptr hv ho
  obtain ⟨u, ht⟩ := sub_TOK H hc
  have hf := frz_RF (lab := 2) (F1 := F) (by decide) ht (fun p m hm o hh => hno p m hm o hh) (fun p m o x _ _ hx => hm _ _ _ hx) (fun c u hf => hf.mono hle) _ c [] u (Nat.lt_succ_self _) rfl ht.root
  rcases hce with ⟨sz, es, rfl, he⟩ | ⟨rfl, rfl⟩
  · obtain ⟨m, e1, e2, e3, e4, rfl, e6⟩ := ht.root
    simp only [List.append_nil] at e1
    rw [f1] at e1; cases e1
    simp only [frz] at hf
    have h3 : RE F 2 sz (frzL 2 es) n.b n.o := by
      generalize hz : Value.slice (some ⟨n.b, n.o, none⟩) es.length n.cap = z at hf
      cases hf with
      | fzs _ _ _ b o cap' sp h1 h2 h3 h4 => simp only [Value.slice.injEq, Option.some.injEq, Addr.mk.injEq] at hz; obtain ⟨⟨rfl, rfl, _⟩, _, _⟩ := hz; exact h3
    obtain ⟨a1, a2⟩ := h3.get (i := i) (e := frz 2 e) (by rw [frzL_get, he]; rfl)
    rw [← e3] at a2
    exact .fp 2 _ off n.b (n.o + i * n.sz) (by decide) a2
  · obtain ⟨m, e1, e2, e3, e4, rfl⟩ := ht.root
    simp only [List.append_nil] at e1
    rw [f1] at e1; cases e1
    simp only [frz] at hf
    generalize hfp : AV.fp 2 (frz 2 e) 0 = y at hf
    generalize hvv : Value.pointer (some ⟨n.b, n.o, none⟩) = z at hf
    cases hf with
    | fp lab e' off' b o a1 a2 =>
      cases hfp
      simp only [Value.pointer.injEq, Option.some.injEq, Addr.mk.injEq, Nat.add_zero, and_true] at hvv
      obtain ⟨rfl, rfl⟩ := hvv
      have := RF.fp (F := F) 2 (frz 2 e) off n.b n.o (by decide) a2
      simpa using this
    | _ => cases hfp
end Go.Am
end
section
namespace Go.Am
open Go.RowKit Go.Lib
variable {P : Program} {cx : Cx} {B B0 B1 : Base} {K : Nat → Prop} {g g' g0 g1 g2 : Gh} {R R' R0 R1 R2 : Nat → Value} {s : St} {h h' h0 h1 h2 : Hp} {w w' : World} {F F' : Fz}
theorem offL_rng : ∀ {l : List AV} {k : Nat}, (∀ p ∈ offL k l, k ≤ p.1 ∧ p.1 < k + l.length ∧ isNode p.2 = true) ∧ (offL k l).Pairwise fun x y => x.1 < y.1
  | [], k => ⟨fun p hp => (List.not_mem_nil hp).elim, .nil⟩
  | a :: l, k => by
    obtain ⟨h1, h2⟩ := offL_rng (l := l) (k := k + 1)
    simp only [offL]
    by_cases hn : isNode a = true
    · rw [if_pos hn]
      refine ⟨fun p hp => ?_, List.pairwise_cons.2 ⟨fun p hp => ?_, h2⟩⟩
      · rcases List.mem_cons.1 hp with rfl | hp
        · exact ⟨Nat.le_refl _, by simp, hn⟩
        · have := h1 p hp; simp only [List.length_cons]; exact ⟨by omega, by omega, this.2.2⟩
      · have := h1 p hp; simp only; omega
    · rw [if_neg hn]
      refine ⟨fun p hp => ?_, h2⟩
      have := h1 p hp; simp only [List.length_cons]; exact ⟨by omega, by omega, this.2.2⟩
theorem off1_rng {a : AV} {k : Nat} : (∀ p ∈ off1 k a, k ≤ p.1 ∧ p.1 < k + (cells a).length ∧ isNode p.2 = true) ∧ (off1 k a).Pairwise fun x y => x.1 < y.1 := by
  cases a <;> simp only [off1, cells] <;> exact offL_rng
theorem Tks.mem {M : Nat} {ts : List Tk} {rs : List Rd} {us : List Up} {ofs : List (Nat × AV)} (a : Tks s B K g w M ts rs us ofs) {t : Tk} (ht : t ∈ ts) (hu : t.us ≠ []) : ∃ p ∈ ofs, t.N = M + p.1 ∧ t.x = p.2 := by
  have h3 : (t.N, t.x) ∈ (ts.filter fun t => isNode t.x).map (fun t => (t.N, t.x)) := List.mem_map.2 ⟨t, List.mem_filter.2 ⟨ht, a.nod t ht hu⟩, rfl⟩
  rw [a.ofs, List.mem_map] at h3
  obtain ⟨p, hp, e⟩ := h3
  simp only [Prod.mk.injEq] at e
  exact ⟨p, hp, e.1.symm, e.2.symm⟩
theorem Tks.back {M : Nat} {ts : List Tk} {rs : List Rd} {us : List Up} {ofs : List (Nat × AV)} (a : Tks s B K g w M ts rs us ofs) {p : Nat × AV} (hp : p ∈ ofs) : ∃ t ∈ ts, t.us ≠ [] ∧ t.N = M + p.1 ∧ t.x = p.2 := by
  have h3 : (M + p.1, p.2) ∈ ofs.map fun p => (M + p.1, p.2) := List.mem_map.2 ⟨p, hp, rfl⟩
  rw [← a.ofs, List.mem_map] at h3
  obtain ⟨t, ht, e⟩ := h3
  obtain ⟨ht, hn⟩ := List.mem_filter.1 ht
  simp only [Prod.mk.injEq] at e
  refine ⟨t, ht, fun hu => ?_, e⟩
  rcases a.ok t ht with ⟨_, h2⟩ | ⟨pl, c, rs, h1, _⟩
  · rw [h2.noNode] at hn; cases hn
  · rw [h1] at hu; cases hu
theorem Tks.dist {M : Nat} {ts : List Tk} {rs : List Rd} {us : List Up} {ofs : List (Nat × AV)} (a : Tks s B K g w M ts rs us ofs) (hn : ofs.Pairwise fun x y => x.1 < y.1) : ts.Pairwise fun t t' => t.us ≠ [] → t'.us ≠ [] → t.N ≠ t'.N := by
  have h1 : ((ts.filter fun t => isNode t.x).map (fun t => (t.N, t.x))).Pairwise fun x y => x.1 ≠ y.1 := by
    rw [a.ofs, List.pairwise_map]
    exact hn.imp fun h => by simp only; omega
  rw [List.pairwise_map, List.pairwise_filter] at h1
  rw [List.pairwise_iff_forall_sublist] at h1 ⊢
  intro t t' hs hu hu'
  exact h1 hs (a.nod t (hs.subset (by simp)) hu) (a.nod t' (hs.subset (by simp)) hu')
def eb (k : Nat) : AV → Nat
  | .agg _ => 100000 + 1024 * k
  | _ => k
theorem entry_up (k : Nat) (a : AV) : (entryArg k a).2 = (off1 0 a).map fun x => Up.new (eb k a + x.1) x.2 := by
  cases a with
  | agg cs => simp only [entryArg, off1, eb]; exact impL_up (100000 + 1024 * k) 0 cs
  | _ => simp [entryArg, impCell, off1, offL, isNode, eb]
theorem entry_ok (H : RM B K g R h w) {k : Nat} {a : AV} {v : Value} (h0 : RVE (mkF B g w) R h (eb k a) a v) : XD (mkF B g w) g [] (entryArg k a).1 v := by
  have hnt : nonTup a = true := by
    cases h0 with
    | un => rfl
    | c a1 => cases a1 with
      | leaf hf => cases hf <;> rfl
      | node hn _ _ => cases a <;> first | rfl | cases hn
    | agg _ => rfl
  have e : (entryArg k a).1 = (imp1 (eb k a) a).1 := by cases a <;> rfl
  rw [e]
  rcases imp1_ok H h0 with ⟨_, h⟩ | h
  · rw [h]; exact .inl rfl
  · exact .inr (by rw [fade_eq1 (imp1_nonTup _ hnt)]; exact .c h)
theorem noNode_off {a : AV} {k : Nat} (h : ∀ c ∈ cells a, isNode c = false) : off1 k a = [] := by
  rw [List.eq_nil_iff_forall_not_mem]
  intro p hp
  have hl : ∀ (l : List AV) (k : Nat), (∀ c ∈ l, isNode c = false) → offL k l = [] := by
    intro l
    induction l with
    | nil => intro k _; rfl
    | cons a l ih =>
      intro k hc
      simp only [offL]
      rw [if_neg (by rw [hc a List.mem_cons_self]; decide), ih _ fun c h => hc c (List.mem_cons_of_mem _ h)]
  have : off1 k a = [] := by
    cases a <;> simp only [off1, cells] at h ⊢ <;> exact hl _ _ h
  rw [this] at hp; cases hp
/-- an argument without owned parts -/
theorem AR.plain {M k c : Nat} {m : Md} {a : AV} {v : Value} {rd : List Rd} {lent : Bool} (hn : ∀ x ∈ cells a, isNode x = false) (hd : ∀ r ∈ rd, r.deep = true) (hl : lent = false → rd = [])
    (hm : m = .io → isNode a = false) (hf : ∀ {B0 : Base} {g0 : Gh} {R0 : Nat → Value} {h0 : Hp} {g2 : Gh} {R2 : Nat → Value} {h2 : Hp}, CEnv B g w B0 g0 R0 h0 g2 R2 h2 [] [] [] rd [] → RVE (mkF B0 g0 w) R0 h0 (eb k a) a v) :
    AR s B K g w M k c c [m] [a] [v] rd [] [] [] lent [] [] [] rd [] := by
  refine ⟨rfl, Nat.le_refl _, ⟨rfl, ?_⟩, .nil, ?_, ?_, ?_, ?_, ?_, .nil, ⟨[], ?_, .nil⟩, rfl, ?_, fun h => ?_, rfl, ?_, ?_, fun r hr => ⟨hr, hd r hr⟩, ?_, hl, ?_, ?_, fun E => ?_⟩
  all_goals (first | (intro x hx; exact (List.not_mem_nil hx).elim) | (intro p; simp; done) | skip)
  · simp only [entryL, entry_up, noNode_off hn]; rfl
  · simp only [List.singleton_append, IoOut] at h
    rw [if_neg (fun hc => by rw [hm hc.1] at hc; cases hc.2)] at h
    exact ⟨[], _, rfl, .nil, h⟩
  · refine .cons ?_ .nil
    exact entry_ok E.rm0 (hf E)
theorem cell_RT {F : Fz} {d : List Up} {a : AV} {v : Value} (hna : nonAgg a = true) (hnt : nonTup a = true) (hv : XD F g d a v) : a = .un ∨ RT F g (fadeC d a) v := by
  rcases hv with rfl | hv
  · exact .inl rfl
  · refine .inr ?_
    rw [fade_eq1 hnt, fade1_cell hna] at hv
    have hnf : nonAgg (fadeC d a) = true ∧ nonTup (fadeC d a) = true := by
      unfold fadeC; split
      · exact ⟨rfl, rfl⟩
      · exact ⟨hna, hnt⟩
    generalize fadeC d a = y at hv hnf
    cases hv with
    | c h => cases h with
      | c h => exact h
      | agg h => cases hnf.1
    | tup h => cases hnf.2
theorem expV1_ok (H : RM B K g R s.h w) {a : AV} {v : Value} {x : Ex} (he : expV1 s a = some x) (hv : RT (mkF B g w) g (fadeC s.d a) v) :
    x.up = [] ∧ x.touch = [] ∧ x.io = [] ∧ (x.lent = false → x.rd = []) ∧ (∀ r ∈ x.rd, r.deep = true) ∧ isNode x.v = false ∧ nonAgg x.v = true ∧
      ∀ {F : Fz}, (mkF B g w).le F → (∀ b o y, (mkF B g w).m b o = some y → F.m b o = some y) → (∀ r ∈ x.rd, ∀ q n, g r.pl.r (r.pl.p ++ q) = some n → ∀ o, n.has n.b o → F.no 2 n.b o) → RF F x.v v := by
  have leaf : refOf a = none → x = { v := a } → x.up = [] ∧ x.touch = [] ∧ x.io = [] ∧ (x.lent = false → x.rd = []) ∧ (∀ r ∈ x.rd, r.deep = true) ∧ isNode x.v = false ∧ nonAgg x.v = true ∧
      ∀ {F : Fz}, (mkF B g w).le F → (∀ b o y, (mkF B g w).m b o = some y → F.m b o = some y) → (∀ r ∈ x.rd, ∀ q n, g r.pl.r (r.pl.p ++ q) = some n → ∀ o, n.has n.b o → F.no 2 n.b o) → RF F x.v v := by
    intro hr hx
    subst hx
    rw [fadeC_ok fun pl hp => by rw [hr] at hp; cases hp] at hv
    have hf : RF (mkF B g w) a v := by
      cases hv with
      | f h => exact h
      | rf => cases hr
      | ptr => cases hr
      | mrf => cases hr
    refine ⟨rfl, rfl, rfl, fun _ => rfl, fun r hr => (List.not_mem_nil hr).elim, hf.noNode, ?_, fun hle _ _ => hf.mono hle⟩
    cases hf <;> rfl
  cases a with
  | rf sz pl off len =>
    simp only [expV1] at he
    split at he
    · rename_i sz' es hl
      split at he
      · rename_i hz
        simp only [Option.some.injEq] at he
        subst he
        obtain ⟨rfl, hz2⟩ := hz
        have ho := okD_of_look hl
        rw [fadeC_ok fun q hq => by cases hq; exact ho] at hv
        refine ⟨rfl, rfl, rfl, ?_, ?_, rfl, rfl, ?_⟩
        · intro h; cases h
        · intro r hr; rw [List.mem_singleton] at hr; subst hr; rfl
        intro F hle hm hno
        exact view_slice (sz' := 0) H hle hm (ref_cell rfl ho hv) ho (look_some hl).2 hz2 fun q n hq o hh => hno ⟨pl, true⟩ (by simp) q n hq o hh
      · cases he
    · cases he
  | ptr pl i off =>
    simp only [expV1] at he
    split at he
    · rename_i sz es hl
      split at he
      · rename_i e hz
        simp only [Option.some.injEq] at he
        subst he
        have ho := okD_of_look hl
        rw [fadeC_ok fun q hq => by cases hq; exact ho] at hv
        refine ⟨rfl, rfl, rfl, ?_, ?_, rfl, rfl, ?_⟩
        · intro h; cases h
        · intro r hr; rw [List.mem_singleton] at hr; subst hr; rfl
        intro F hle hm hno
        exact view_ptr H hle hm (ref_cell rfl ho hv) ho (look_some hl).2 (.inl ⟨sz, es, rfl, hz⟩) fun q n hq o hh => hno ⟨pl, true⟩ (by simp) q n hq o hh
      · cases he
    · rename_i e hl
      split at he
      · rename_i hz
        simp only [Option.some.injEq] at he
        subst he
        have ho := okD_of_look hl
        rw [fadeC_ok fun q hq => by cases hq; exact ho] at hv
        refine ⟨rfl, rfl, rfl, ?_, ?_, rfl, rfl, ?_⟩
        · intro h; cases h
        · intro r hr; rw [List.mem_singleton] at hr; subst hr; rfl
        intro F hle hm hno
        exact view_ptr H hle hm (ref_cell rfl ho hv) ho (look_some hl).2 (.inr ⟨rfl, hz⟩) fun q n hq o hh => hno ⟨pl, true⟩ (by simp) q n hq o hh
      · cases he
    · cases he
  | mrf r => simp [expV1, oops] at he
  | agg cs => simp [expV1, oops] at he
  | tup cs => simp [expV1, oops] at he
  | _ => simp only [expV1, Option.some.injEq] at he; exact leaf rfl he.symm
theorem expVL_ok (H : RM B K g R s.h w) : ∀ {l xs : List AV} {vs : List Value} {rs : List Rd} {b : Bool}, expVL s l = some (xs, rs, b) → RTL (mkF B g w) g (l.map (fadeC s.d)) vs →
    (b = false → rs = []) ∧ (∀ r ∈ rs, r.deep = true) ∧ (∀ c ∈ xs, isNode c = false) ∧
      ∀ {F : Fz}, (mkF B g w).le F → (∀ b o y, (mkF B g w).m b o = some y → F.m b o = some y) → (∀ r ∈ rs, ∀ q n, g r.pl.r (r.pl.p ++ q) = some n → ∀ o, n.has n.b o → F.no 2 n.b o) → ∀ {R0 : Nat → Value} {h0 : Hp} {N : Nat}, RVL F R0 h0 N xs vs
  | [], xs, vs, rs, b, he, hv => by
    simp only [expVL, Option.some.injEq, Prod.mk.injEq] at he
    obtain ⟨rfl, rfl, rfl⟩ := he
    cases hv
    exact ⟨fun _ => rfl, fun r hr => (List.not_mem_nil hr).elim, fun r hr => (List.not_mem_nil hr).elim, fun _ _ _ => .nil⟩
  | a :: l, xs, vs, rs, b, he, hv => by
    simp only [expVL] at he
    cases h1 : expV1 s a with
    | none => rw [h1] at he; cases he
    | some x =>
      rw [h1] at he
      simp only at he
      cases h2 : expVL s l with
      | none => rw [h2] at he; cases he
      | some q =>
        obtain ⟨ys, r2, b2⟩ := q
        rw [h2] at he
        simp only [Option.some.injEq, Prod.mk.injEq] at he
        obtain ⟨rfl, rfl, rfl⟩ := he
        cases hv with
        | cons hv1 hv2 =>
          obtain ⟨_, _, _, a4, a5, a6, _, a8⟩ := expV1_ok H h1 hv1
          obtain ⟨c1, c2, c3, c4⟩ := expVL_ok H h2 hv2
          refine ⟨fun hb => ?_, fun r hr => ?_, fun c hc => ?_, fun hle hm hno => ?_⟩
          · rw [Bool.or_eq_false_iff] at hb; rw [a4 hb.1, c1 hb.2]; rfl
          · rcases List.mem_append.1 hr with h | h
            · exact a5 r h
            · exact c2 r h
          · rcases List.mem_cons.1 hc with rfl | h
            · exact a6
            · exact c3 c h
          · exact .cons (.leaf (a8 hle hm fun r hr => hno r (List.mem_append_left _ hr))) (c4 hle hm fun r hr => hno r (List.mem_append_right _ hr))
theorem ar_view {K' : Nat → Prop} (H : RM B K' g R s.h w) {M k c ty : Nat} {a : AV} {v : Value} {x : Ex} (he : expArg cx s ty .view a = some x) (hv : XD (mkF B g w) g s.d a v) :
    AR s B K g w M k c c [.view] [x.v] [v] x.rd x.up x.touch x.io x.lent [] [] [] x.rd [] := by
  by_cases ha : ∃ cs, a = .agg cs
  · obtain ⟨cs, rfl⟩ := ha
    simp only [expArg] at he
    cases h2 : expVL s cs with
    | none => rw [h2] at he; cases he
    | some q =>
      obtain ⟨ys, r2, b2⟩ := q
      rw [h2] at he
      simp only [Option.some.injEq] at he
      subst he
      obtain ⟨vs, rfl, hl⟩ := X_agg hv
      obtain ⟨a1, a2, a3, a4⟩ := expVL_ok H h2 hl
      exact AR.plain a3 a2 a1 (fun h => by cases h) fun E => .agg (a4 E.le0 (fun _ _ _ h => h) E.vws)
  · have hna : nonAgg a = true := by cases a <;> first | rfl | exact absurd ⟨_, rfl⟩ ha
    have e : expArg cx s ty .view a = expV1 s a := by cases a <;> first | rfl | exact absurd ⟨_, rfl⟩ ha
    rw [e] at he
    have hnt : nonTup a = true := by cases a <;> first | rfl | simp [expV1, oops] at he
    rcases cell_RT hna hnt hv with rfl | hr
    · simp only [expV1, Option.some.injEq] at he
      subst he
      exact AR.plain (fun x hx => by simp [cells] at hx; subst hx; rfl) (fun r hr => (List.not_mem_nil hr).elim) (fun _ => rfl) (fun h => by cases h) fun _ => .un
    · obtain ⟨a1, a2, a3, a4, a5, a6, a7, a8⟩ := expV1_ok H he hr
      rw [a1, a2, a3]
      refine AR.plain (fun y hy => ?_) a5 a4 (fun h => by cases h) fun E => .c (.leaf (a8 E.le0 (fun _ _ _ h => h) E.vws))
      rw [cells_nonAgg a7, List.mem_singleton] at hy
      subst hy; exact a6
end Go.Am
end
section
namespace Go.Am
open Go.RowKit Go.Lib
variable {P : Program} {cx : Cx} {B B0 B1 : Base} {K : Nat → Prop} {g g' g0 g1 g2 : Gh} {R R' R0 R1 R2 : Nat → Value} {s : St} {h h' h0 h1 h2 : Hp} {w w' : World} {F F' : Fz}
theorem off1_0 (c : Nat) (y : AV) : off1 c y = (off1 0 y).map fun x => (x.1 + c, x.2) := by have := off1_shift y 0 c; rwa [Nat.zero_add] at this
theorem ar_move {M k c ty : Nat} {a : AV} {v : Value} {x : Ex} (hal : s.alias = false) (hfr : ∀ n, M ≤ n → hget s.h n = none ∧ ¬ K n) (he : expArg cx s ty .move a = some x) (hv : XD (mkF B g w) g s.d a v) :
    ∃ c' ts mv, AR s B K g w M k c c' [.move] [x.v] [v] x.rd x.up x.touch x.io x.lent ts mv [] [] [] := by
  simp only [expArg] at he
  cases h2 : absorbE s a with
  | none => rw [h2] at he; cases he
  | some q =>
    obtain ⟨y, rs, us⟩ := q
    rw [h2] at he
    simp only [Option.some.injEq] at he
    subst he
    obtain ⟨ts, T, hgot⟩ := tk_elem (k := c) hal hfr h2 hv
    obtain ⟨o1, o2⟩ := off1_rng (a := y) (k := 0)
    have hmem : ∀ t ∈ ts, t.us ≠ [] → ∃ q ∈ off1 0 y, t.N = M + c + q.1 ∧ t.x = q.2 := by
      intro t ht hu
      obtain ⟨p, hp, e1, e2⟩ := T.mem ht hu
      rw [off1_0, List.mem_map] at hp
      obtain ⟨q, hq, rfl⟩ := hp
      exact ⟨q, hq, by simp only at e1; omega, e2⟩
    have hback : ∀ q ∈ off1 0 y, ∃ t ∈ ts, t.us ≠ [] ∧ t.N = M + c + q.1 ∧ t.x = q.2 := by
      intro q hq
      obtain ⟨t, ht, a1, a2, a3⟩ := T.back (p := (q.1 + c, q.2)) (by rw [off1_0, List.mem_map]; exact ⟨q, hq, rfl⟩)
      exact ⟨t, ht, a1, by simp only at a2; omega, a3⟩
    refine ⟨c + (cells y).length, ts, (off1 0 y).map fun p => (eb k y + p.1, p.2, M + c + p.1), rfl, by omega, ⟨T.ups, T.ok⟩, T.dist (off1_rng (a := y) (k := c)).2, fun t ht hu => ?_, fun t ht hu => ?_, fun m hm => ?_, ?_, ?_, ?_, ⟨(off1 0 y).map fun p => (eb k y + p.1, p.2), ?_, ?_⟩, rfl, ?_, fun h => ?_, rfl, ?_, ?_, ?_, fun u hu => ?_, fun _ => rfl, ?_, ?_, fun E => ?_⟩
    · obtain ⟨q, hq, e1, _⟩ := hmem t ht hu
      have := o1 q hq; omega
    · obtain ⟨q, hq, e1, _⟩ := hmem t ht hu
      exact .inl ⟨_, List.mem_map.2 ⟨q, hq, rfl⟩, e1.symm⟩
    · obtain ⟨q, hq, rfl⟩ := List.mem_map.1 hm
      have := o1 q hq
      obtain ⟨t, ht, a1, a2, a3⟩ := hback q hq
      exact ⟨by simp only; omega, by simp only; omega, t, ht, a1, a2, a3⟩
    · intro N hN; exact (List.not_mem_nil hN).elim
    · intro N hN; exact (List.not_mem_nil hN).elim
    · rw [List.pairwise_map]; exact o2.imp fun h => by simp only; omega
    · simp only [entryL, entry_up, List.append_nil, List.map_map]; rfl
    · simp only [List.map_map, List.map_nil, List.append_nil]; exact .refl _
    · intro t ht; exact (List.not_mem_nil ht).elim
    · simp only [List.singleton_append, IoOut] at h
      rw [if_neg (fun hc => by cases hc.1)] at h
      exact ⟨[], _, rfl, .nil, h⟩
    · intro t ht; exact (List.not_mem_nil ht).elim
    · intro t ht; exact (List.not_mem_nil ht).elim
    · intro t ht; exact (List.not_mem_nil ht).elim
    · simp only at hu
      rw [← T.ups] at hu
      obtain ⟨t, ht, hu2⟩ := List.mem_flatMap.1 hu
      obtain ⟨pl, e, hr⟩ := T.rds t ht u hu2
      refine ⟨⟨pl, e⟩, ?_, ⟨pl, true⟩, hr, ?_⟩
      · simp only [List.mem_map]; exact ⟨u, by rw [← T.ups]; exact hu, rfl⟩
      · rw [e, gone_pl]
    · intro p hp r hr; exact (List.not_mem_nil hr).elim
    · intro u hu t ht; exact (List.not_mem_nil ht).elim
    · refine .cons ?_ .nil
      refine entry_ok E.rm0 ?_
      refine RVE.mv (N := M + c) (N' := eb k y) (k := 0) E.le2 (hgot E.got) fun x hx _ => ?_
      exact E.mvs _ (List.mem_map.2 ⟨x, hx, rfl⟩)
theorem frz_node (a : AV) : isNode (frz 0 a) = false := by cases a <;> rfl
theorem frz_leaf {F : Fz} {c : AV} {v : Value} (h : RF F c v) : frz 0 c = c := by cases h <;> rfl
theorem frz_RV1 (H : RM B K g R h w) {F : Fz} (hle : (mkF B g w).le F) (hm : ∀ b o y, (mkF B g w).m b o = some y → F.m b o = some y) {N : Nat} {c : AV} {v : Value} (h0 : RV1 (mkF B g w) R h N c v) (hno : isNode c = true → ∀ q n, g N q = some n → ∀ o, n.has n.b o → F.no 0 n.b o) : RF F (frz 0 c) v := by
  cases h0 with
  | leaf hf => rw [frz_leaf hf]; exact hf.mono hle
  | node hn hh hv =>
    have ht := H.tree N c hh
    rw [← hv]
    exact frz_RF (lab := 0) (F1 := F) (by decide) ht (fun p n hp o ho => hno hn p n hp o ho) (fun p n o x _ _ hx => hm _ _ _ hx) (fun c u hf => hf.mono hle) _ c [] _ (Nat.lt_succ_self _) rfl ht.root
theorem frz_RVL (H : RM B K g R h w) {F : Fz} (hle : (mkF B g w).le F) (hm : ∀ b o y, (mkF B g w).m b o = some y → F.m b o = some y) {R0 : Nat → Value} {h0 : Hp} {N N' : Nat} : ∀ {l : List AV} {vs : List Value} {k : Nat}, RVL (mkF B g w) R h (N + k) l vs →
    (∀ p ∈ offL k l, ∀ q n, g (N + p.1) q = some n → ∀ o, n.has n.b o → F.no 0 n.b o) → RVL F R0 h0 (N' + k) (frzL 0 l) vs
  | _, _, k, .nil, _ => .nil
  | _, _, k, .cons (c := c) (l := l) a t, hno => by
    simp only [frzL]
    refine .cons (.leaf (frz_RV1 H hle hm a fun hn q n hq => hno (k, c) ?_ q n hq)) (frz_RVL (k := k + 1) H hle hm t fun p hp => hno p ?_)
    · simp only [offL]; rw [if_pos hn]; exact List.mem_cons_self
    · simp only [offL]; split
      · exact List.mem_cons_of_mem _ hp
      · exact hp
theorem frz_RVE (H : RM B K g R h w) {F : Fz} (hle : (mkF B g w).le F) (hm : ∀ b o y, (mkF B g w).m b o = some y → F.m b o = some y) {R0 : Nat → Value} {h0 : Hp} {N N' k : Nat} {a : AV} {v : Value} (hr : RVE (mkF B g w) R h (N + k) a v)
    (hno : ∀ p ∈ off1 k a, ∀ q n, g (N + p.1) q = some n → ∀ o, n.has n.b o → F.no 0 n.b o) : RVE F R0 h0 N' (frz 0 a) v := by
  cases hr with
  | un => exact .un
  | c a1 =>
    refine .c (.leaf (frz_RV1 H hle hm a1 fun hn q n hq => hno (k, a) ?_ q n hq))
    cases a <;> simp [isNode] at hn <;> simp [off1, offL, isNode]
  | agg a1 => simp only [frz]; exact .agg (frz_RVL (N' := N') (k := 0) (N := N + k) H hle hm a1 fun p hp q n hq => hno (p.1 + k, p.2) (by
      simp only [off1]; have := offL_shift ‹List AV› 0 k; rw [Nat.zero_add] at this; rw [this]; exact List.mem_map.2 ⟨p, hp, rfl⟩) q n (by rw [show N + (p.1 + k) = N + k + p.1 by omega]; exact hq))
theorem ar_give {M k c ty : Nat} {a : AV} {v : Value} {x : Ex} (hal : s.alias = false) (hfr : ∀ n, M ≤ n → hget s.h n = none ∧ ¬ K n) (he : expArg cx s ty .give a = some x) (hv : XD (mkF B g w) g s.d a v) :
    ∃ c' ts gv, AR s B K g w M k c c' [.give] [x.v] [v] x.rd x.up x.touch x.io x.lent ts [] gv [] [] := by
  simp only [expArg] at he
  cases h2 : absorbE s a with
  | none => rw [h2] at he; cases he
  | some q =>
    obtain ⟨y, rs, us⟩ := q
    rw [h2] at he
    simp only [Option.some.injEq] at he
    subst he
    obtain ⟨ts, T, hgot⟩ := tk_elem (k := c) hal hfr h2 hv
    obtain ⟨o1, o2⟩ := off1_rng (a := y) (k := 0)
    have hmem : ∀ t ∈ ts, t.us ≠ [] → ∃ q ∈ off1 0 y, t.N = M + c + q.1 ∧ t.x = q.2 := by
      intro t ht hu
      obtain ⟨p, hp, e1, e2⟩ := T.mem ht hu
      rw [off1_0, List.mem_map] at hp
      obtain ⟨q, hq, rfl⟩ := hp
      exact ⟨q, hq, by simp only at e1; omega, e2⟩
    have hoff : off1 0 (frz 0 y) = [] := noNode_off fun z hz => by
      rw [cells_frz] at hz
      obtain ⟨i, hi⟩ := List.getElem?_of_mem hz
      rw [frzL_get] at hi
      cases hy : (cells y)[i]? with
      | none => rw [hy] at hi; cases hi
      | some z0 => rw [hy] at hi; simp only [Option.map_some, Option.some.injEq] at hi; rw [← hi]; exact frz_node z0
    refine ⟨c + (cells y).length, ts, (off1 0 y).map fun p => M + c + p.1, rfl, by omega, ⟨T.ups, T.ok⟩, T.dist (off1_rng (a := y) (k := c)).2, fun t ht hu => ?_, fun t ht hu => ?_, ?_, fun N hN => ?_, ?_, .nil, ⟨[], ?_, .nil⟩, rfl, ?_, fun h => ?_, rfl, ?_, ?_, ?_, fun u hu => ?_, fun _ => rfl, ?_, ?_, fun E => ?_⟩
    · obtain ⟨q, hq, e1, _⟩ := hmem t ht hu
      have := o1 q hq; omega
    · obtain ⟨q, hq, e1, _⟩ := hmem t ht hu
      exact .inr (List.mem_map.2 ⟨q, hq, e1.symm⟩)
    · intro m hm; exact (List.not_mem_nil hm).elim
    · obtain ⟨q, hq, rfl⟩ := List.mem_map.1 hN
      have := o1 q hq
      exact ⟨by omega, by omega⟩
    · intro N hN m hm; exact (List.not_mem_nil hm).elim
    · simp only [entryL, entry_up, hoff]; rfl
    · intro t ht; exact (List.not_mem_nil ht).elim
    · simp only [List.singleton_append, IoOut] at h
      rw [if_neg (fun hc => by cases hc.1)] at h
      exact ⟨[], _, rfl, .nil, h⟩
    · intro t ht; exact (List.not_mem_nil ht).elim
    · intro t ht; exact (List.not_mem_nil ht).elim
    · intro t ht; exact (List.not_mem_nil ht).elim
    · simp only at hu
      rw [← T.ups] at hu
      obtain ⟨t, ht, hu2⟩ := List.mem_flatMap.1 hu
      obtain ⟨pl, e, hr⟩ := T.rds t ht u hu2
      refine ⟨⟨pl, e⟩, ?_, ⟨pl, true⟩, hr, ?_⟩
      · simp only [List.mem_map]; exact ⟨u, by rw [← T.ups]; exact hu, rfl⟩
      · rw [e, gone_pl]
    · intro p hp r hr; exact (List.not_mem_nil hr).elim
    · intro u hu t ht; exact (List.not_mem_nil ht).elim
    · refine .cons ?_ .nil
      refine entry_ok E.rm0 ?_
      obtain ⟨K', rm2⟩ := E.rm2
      exact frz_RVE (N := M + c) (k := 0) rm2 E.le2 (fun _ _ _ h => h) (hgot E.got) fun p hp q n hq => E.gvs _ (List.mem_map.2 ⟨p, hp, rfl⟩) q n hq
theorem cellPls_get {pl : Pl} {i : Nat} : ∀ {n off j : Nat}, j < n → (cellPls pl i off n)[j]? = some (pl.cell i (off + j))
  | n + 1, off, 0, _ => by simp [cellPls]
  | n + 1, off, j + 1, h => by
    simp only [cellPls, List.getElem?_cons_succ]
    rw [cellPls_get (by omega), show off + 1 + j = off + (j + 1) by omega]
theorem cellPls_len {pl : Pl} {i : Nat} : ∀ {n off : Nat}, (cellPls pl i off n).length = n
  | 0, _ => rfl
  | n + 1, off => by simp only [cellPls, List.length_cons, cellPls_len]
theorem lookL_get : ∀ {ps : List Pl} {cs : List AV}, lookL s ps = some cs → cs.length = ps.length ∧ ∀ (j : Nat) (p : Pl), ps[j]? = some p → ∃ c, cs[j]? = some c ∧ look s true p = some c
  | [], cs, h => by simp only [lookL, Option.some.injEq] at h; subst h; exact ⟨rfl, fun j p hp => by simp at hp⟩
  | p :: ps, cs, h => by
    simp only [lookL] at h
    cases h1 : look s true p with
    | none => rw [h1] at h; cases h
    | some c =>
      rw [h1] at h
      simp only at h
      cases h2 : lookL s ps with
      | none => rw [h2] at h; cases h
      | some l =>
        rw [h2] at h
        simp only [Option.some.injEq] at h
        subst h
        obtain ⟨a1, a2⟩ := lookL_get h2
        refine ⟨by simp [a1], fun j q hq => ?_⟩
        cases j with
        | zero => simp at hq; subst hq; exact ⟨c, rfl, h1⟩
        | succ j => exact a2 j q (by simpa using hq)
theorem AR.io1 {M k c : Nat} {t : IoSpec} {rd : List Rd} (hk : t.κ = k) (hok : t.ok s B g w) (hrd : ∀ p ∈ t.tc, ∃ r ∈ rd, r.pl = p) : AR s B K g w M k c c [.io] [t.a] [t.v] rd [] t.tc [t.iop] false [] [] [] [] [t] := by
  have hn := hok.node
  refine ⟨rfl, Nat.le_refl _, ⟨rfl, ?_⟩, .nil, ?_, ?_, ?_, ?_, ?_, .nil, ⟨[(k, t.a)], ?_, ?_⟩, rfl, fun t' ht' => ?_, fun h => ?_, rfl, fun t' ht' => ?_, fun t' ht' p hp => ?_, ?_, ?_, fun _ => rfl, ?_, ?_, fun E => ?_⟩
  all_goals (first | (intro x hx; exact (List.not_mem_nil hx).elim) | skip)
  · simp only [entryL, entry_up, List.append_nil]
    have : off1 0 t.a = [(0, t.a)] ∧ eb k t.a = k := by
      cases ha : t.a <;> rw [ha] at hn <;> first | (cases hn; done) | exact ⟨rfl, rfl⟩
    rw [this.1, this.2]; rfl
  · simp only [List.map_nil, List.nil_append, List.map_cons, hk]; exact .refl _
  · rw [List.mem_singleton] at ht'; subst ht'; simp only [List.length_singleton]; omega
  · simp only [List.singleton_append, IoOut] at h
    rw [if_pos ⟨trivial, hn⟩] at h
    obtain ⟨o, os, rfl, h2, h3, h4, h5⟩ := h
    subst hk
    exact ⟨[o], os, rfl, .cons h2 h3 h4 .nil, h5⟩
  · rw [List.mem_singleton] at ht'; subst ht'; exact hok
  · rw [List.mem_singleton] at ht'; subst ht'; exact ⟨hp, hrd p hp⟩
  · intro p hp r hr; exact (List.not_mem_nil hr).elim
  · refine .cons ?_ .nil
    obtain ⟨e1, e2⟩ := E.ios t (List.mem_singleton.2 rfl)
    refine entry_ok E.rm0 ?_
    have : eb k t.a = k := by cases ha : t.a <;> rw [ha] at hn <;> first | (cases hn; done) | rfl
    rw [this]
    exact .c (.node hn (hk ▸ e1) (hk ▸ e2))
theorem ar_io (H : RM B (Kd s.d) g R s.h w) {M k c ty : Nat} {a : AV} {v : Value} {x : Ex} (he : expArg cx s ty .io a = some x) (hv : XD (mkF B g w) g s.d a v) :
    ∃ io, AR s B K g w M k c c [.io] [x.v] [v] x.rd x.up x.touch x.io x.lent [] [] [] [] io := by
  cases a with
  | ptr pl i off =>
    simp only [expArg] at he
    split at he
    · rename_i ty' hk
      split at he
      · cases he
      · rename_i ti hti
        split at he
        · rename_i cs hl
          split at he
          · cases he
          · rename_i hne
            split at he
            · rename_i e hmk
              simp only [Option.some.injEq] at he
              subst he
              obtain ⟨l1, l2⟩ := lookL_get hl
              rw [cellPls_len] at l1
              have hpos : 0 < cs.length := by
                cases cs with
                | nil => simp at hne
                | cons _ _ => simp
              have hcs : ∀ j c, cs[j]? = some c → getP s.h (pl.cell i (off + j)) = some c ∧ okD s.d (pl.cell i (off + j)) := by
                intro j c' hj
                have hlt := (List.getElem?_eq_some_iff.1 hj).1
                obtain ⟨c2, e1, e2⟩ := l2 j _ (cellPls_get (pl := pl) (i := i) (off := off) (by omega : j < ti.size))
                rw [hj] at e1; cases e1
                exact ⟨(look_some e2).2, okD_of_look e2⟩
              have h00 := hcs 0 cs[0] (List.getElem?_eq_getElem hpos)
              have ho : okD s.d pl := okD_cell h00.2
              obtain ⟨n, f1, f2, rfl⟩ := X_ptr hv ho
              have hce : cells e = cs := by
                rcases mkVal_some hmk with ⟨_, rfl⟩ | ⟨_, hc1⟩
                · rfl
                · have hc2 : cs[0]? = some e := by rw [hc1]; rfl
                  obtain ⟨n', u, _, _, _, _, _, hlf⟩ := cell_at H (hcs 0 e hc2).1
                  have : nonAgg e = true := by cases e <;> first | rfl | (obtain ⟨_, hx⟩ := hlf; cases hx)
                  rw [cells_nonAgg this, hc1]
              have V := row_ptr H hpos f1 f2 (fun j c hj => (hcs j c hj).1) hce
              have hok : IoSpec.ok ⟨k, pl, n, ⟨n.b, n.o + i * n.sz + off, cs.length, 1, false⟩, (fun t => if t.1 = 0 ∧ t.2 < cs.length then some (i, off + t.2) else none), .bx e, .pointer (some ⟨n.b, n.o + i * n.sz + off, none⟩), cellPls pl i off ti.size, .cells (cellPls pl i off ti.size)⟩ s B g w := by
                refine ⟨V, ?_, rfl, ?_, fun p hp => ?_, fun tt t' ht => ?_, .inl ⟨i, off, e, ?_, rfl, ?_⟩⟩
                · intro F ob G
                  refine ⟨_, rfl, rfl, by rw [hce], rfl, rfl⟩
                · intro hx
                  have : (cellPls pl i off ti.size).length = 0 := by have := congrArg List.length hx; exact this
                  rw [cellPls_len] at this; omega
                · obtain ⟨j, hj⟩ := List.getElem?_of_mem hp
                  have hlt := (List.getElem?_eq_some_iff.1 hj).1
                  rw [cellPls_len] at hlt
                  rw [cellPls_get hlt] at hj
                  simp only [Option.some.injEq] at hj
                  rw [← hj]; exact pre_cell pl i (off + j)
                · simp only at ht
                  split at ht
                  · rename_i hc
                    cases ht
                    refine ⟨pl.cell i (off + tt.2), List.mem_of_getElem? (cellPls_get (by omega : tt.2 < ti.size)), Pl.pre_self _⟩
                  · cases ht
                · simp only [hce, l1]
                · simp only [hce]
              exact ⟨[_], AR.io1 rfl hok fun p hp => ⟨⟨p, true⟩, List.mem_map.2 ⟨p, hp, rfl⟩, rfl⟩⟩
            · cases he
        · cases he
    · cases he
  | rf sz pl off len =>
    simp only [expArg] at he
    split at he
    · rename_i sz' es hl
      split at he
      · rename_i hz
        simp only [Option.some.injEq] at he
        subst he
        obtain ⟨rfl, rfl, rfl⟩ := hz
        have ho := okD_of_look hl
        obtain ⟨cap, kk, n, f1, f2, f3, f4, f5, f6, rfl⟩ := X_rf hv ho
        have hp := (look_some hl).2
        obtain ⟨u, hlf⟩ := node_at H hp
        obtain ⟨m, g1', g2', g3', g4', g5', g6'⟩ := hlf
        rw [f1] at g1'; cases g1'
        have V := row_slice (h := s.h) f1 f2 f3 f4 f5 f6 hp g6'
        have hok : IoSpec.ok ⟨k, pl, n, cutN n kk cap, (fun t => if t.1 < es.length ∧ t.2 < sz' then some t else none), .ow sz' es, .slice (some ⟨n.b, n.o + kk * n.sz, none⟩) es.length cap, [pl], .node pl sz' es.length⟩ s B g w := by
          refine ⟨V, ?_, rfl, by simp, fun p hp => ?_, fun tt t' ht => ⟨pl, List.mem_singleton.2 rfl, pre_cell _ _ _⟩, .inr ⟨sz', es, rfl, rfl, rfl⟩⟩
          · intro F ob G
            exact ⟨_, rfl, f2, f3, f5, rfl, g6'⟩
          · rw [List.mem_singleton] at hp; subst hp; exact Pl.pre_self _
        exact ⟨[_], AR.io1 rfl hok fun p hp => ⟨⟨pl, true⟩, List.mem_singleton.2 rfl, (List.mem_singleton.1 hp).symm⟩⟩
      · cases he
    · cases he
  | fz l z es =>
    have : x = { v := .fz l z es } := by
      match l, he with
      | 1, he => simp only [expArg, Option.some.injEq] at he; exact he.symm
      | 0, he => simp [expArg, oops] at he
      | l + 2, he => simp [expArg, oops] at he
    subst this
    refine ⟨[], AR.plain (fun y hy => by simp [cells] at hy; subst hy; rfl) (fun r hr => (List.not_mem_nil hr).elim) (fun _ => rfl) (fun _ => rfl) fun E => .c (.leaf ?_)⟩
    have := X_plain hv rfl rfl (by intro h; cases h) (by intro pl h; cases h)
    cases this with
    | f h => exact h.mono E.le0
  | _ => simp [expArg, oops] at he
theorem args_ar (H : RM B (Kd s.d) g R s.h w) (hal : s.alias = false) {M : Nat} (hfr : ∀ n, M ≤ n → hget s.h n = none ∧ ¬ K n) : ∀ {tys : List Nat} {ms : List Md} {l : List AV} {vs : List Value} {k c : Nat} {x : Exs}, expArgs cx s tys ms l = some x → XDs (mkF B g w) g s.d l vs →
    ∃ c' ts mv gv vw io, AR s B K g w M k c c' (ms.take l.length) x.vs vs x.rd x.up x.touch x.io x.lent ts mv gv vw io := by
  have nil : ∀ {vs : List Value} {k c : Nat} {x : Exs}, some ({} : Exs) = some x → XDs (mkF B g w) g s.d [] vs → ∃ c' ts mv gv vw io, AR s B K g w M k c c' [] x.vs vs x.rd x.up x.touch x.io x.lent ts mv gv vw io := by
    intro vs k c x h hv
    cases h; cases hv
    exact ⟨c, [], [], [], [], [], .nil⟩
  intro tys ms l
  induction l generalizing tys ms with
  | nil =>
    intro vs k c x h hv
    rw [List.length_nil, List.take_zero]
    refine nil ?_ hv
    cases tys <;> cases ms <;> exact h
  | cons a l ih =>
    intro vs k c x h hv
    cases tys with
    | nil => cases ms <;> simp [expArgs, oops] at h
    | cons ty tys =>
      cases ms with
      | nil => simp [expArgs, oops] at h
      | cons m ms =>
        simp only [expArgs] at h
        cases h1 : expArg cx s ty m a with
        | none => rw [h1] at h; cases h
        | some y =>
          rw [h1] at h
          simp only at h
          cases h2 : expArgs cx s tys ms l with
          | none => rw [h2] at h; cases h
          | some r =>
            rw [h2] at h
            simp only at h
            split at h
            · cases h
            · rename_i ht
              simp only [Option.some.injEq] at h
              subst h
              rw [Bool.or_eq_true, not_or, Bool.not_eq_true, Bool.not_eq_true] at ht
              cases hv with
              | @cons _ v _ _ hv1 hv2 =>
                have first : ∃ c' ts mv gv vw io, AR s B K g w M k c c' [m] [y.v] [v] y.rd y.up y.touch y.io y.lent ts mv gv vw io := by
                  cases m with
                  | view => exact ⟨c, [], [], [], _, [], ar_view H h1 hv1⟩
                  | move => obtain ⟨c', ts, mv, hh⟩ := ar_move (k := k) (c := c) hal hfr h1 hv1; exact ⟨c', ts, mv, [], [], [], hh⟩
                  | give => obtain ⟨c', ts, gv, hh⟩ := ar_give (k := k) (c := c) hal hfr h1 hv1; exact ⟨c', ts, [], gv, [], [], hh⟩
                  | io => obtain ⟨io, hh⟩ := ar_io (M := M) (k := k) (c := c) H h1 hv1; exact ⟨c, [], [], [], [], io, hh⟩
                obtain ⟨c1, ts, mv, gv, vw, io, A1⟩ := first
                obtain ⟨c2, ts', mv', gv', vw', io', A2⟩ := ih (k := k + 1) (c := c1) h2 hv2
                exact ⟨c2, _, _, _, _, _, A1.append A2 ht.1 ht.2⟩
end Go.Am
end
section
namespace Go.Am
open Go.RowKit Go.Lib
variable {P : Program} {cx : Cx} {B B0 B1 : Base} {K : Nat → Prop} {g g' g0 g1 g2 : Gh} {R R' R0 R1 R2 : Nat → Value} {s : St} {h h' h0 h1 h2 : Hp} {w w' : World} {F F' : Fz}
theorem hget_news : ∀ {E : List (Nat × AV)} {h : Hp}, (E.Pairwise fun x y => x.1 ≠ y.1) → ∀ r, (∀ a, (r, a) ∈ E → hget (Up.apps (E.map fun p => Up.new p.1 p.2) h) r = some a) ∧ ((∀ a, (r, a) ∉ E) → hget (Up.apps (E.map fun p => Up.new p.1 p.2) h) r = hget h r)
  | [], h, _, r => ⟨fun a ha => (List.not_mem_nil ha).elim, fun _ => rfl⟩
  | (k, b) :: E, h, hp, r => by
    obtain ⟨p1, p2⟩ := List.pairwise_cons.1 hp
    obtain ⟨a1, a2⟩ := hget_news (E := E) (h := hins h k b) p2 r
    simp only [List.map_cons, Up.apps, Up.app]
    refine ⟨fun a ha => ?_, fun hn => ?_⟩
    · rcases List.mem_cons.1 ha with e | ha
      · cases e
        rw [a2 fun a' ha' => p1 _ ha' rfl, hget_hins, if_pos rfl]
      · exact a1 a ha
    · rw [a2 fun a ha => hn a (List.mem_cons_of_mem _ ha), hget_hins, if_neg]
      rintro rfl
      exact hn b List.mem_cons_self
def lookK {α : Type} (L : List (Nat × α)) (r : Nat) : Option α := (L.find? fun x => x.1 == r).map (·.2)
theorem lookK_mem {α : Type} {L : List (Nat × α)} {r : Nat} {y : α} (h : lookK L r = some y) : (r, y) ∈ L := by
  unfold lookK at h
  cases hf : L.find? fun x => x.1 == r with
  | none => rw [hf] at h; cases h
  | some x =>
    rw [hf] at h
    simp only [Option.map_some, Option.some.injEq] at h
    have h1 := List.mem_of_find?_eq_some hf
    have h2 := List.find?_some hf
    simp only [beq_iff_eq] at h2
    rw [← h2, ← h]; exact h1
theorem lookK_of {α : Type} {L : List (Nat × α)} (hp : L.Pairwise fun x y => x.1 ≠ y.1) {x : Nat × α} (hx : x ∈ L) : lookK L x.1 = some x.2 := by
  unfold lookK
  induction L with
  | nil => cases hx
  | cons z L ih =>
    obtain ⟨p1, p2⟩ := List.pairwise_cons.1 hp
    simp only [List.find?_cons]
    rcases List.mem_cons.1 hx with rfl | hx
    · simp
    · have : (z.1 == x.1) = false := by simpa using p1 x hx
      rw [this]; exact ih p2 hx
theorem lookK_none {α : Type} {L : List (Nat × α)} {r : Nat} (h : ∀ y, (r, y) ∉ L) : lookK L r = none := by
  cases hl : lookK L r with
  | none => rfl
  | some y => exact absurd (lookK_mem hl) (h y)
def setsOf (pl : Pl) (W : List ((Nat × Nat) × AV)) : List Up := W.map fun x => .set (pl.cell x.1.1 x.1.2) x.2
theorem attaches_ok {pl : Pl} {n : Nd} : ∀ {W : List (((Nat × Nat) × AV) × Nat)} {g : Gh} {h : Hp}, RM B K g R h w → g pl.r pl.p = some n → (∀ x ∈ W, (∃ old, getP h (pl.cell x.1.1.1 x.1.1.2) = some old) ∧ hget h x.2 = some x.1.2 ∧ nonAgg x.1.2 = true ∧ x.2 ≠ pl.r ∧ w.cell? ⟨n.b, n.o + x.1.1.1 * n.sz + x.1.1.2, none⟩ = some (R x.2)) →
    (W.Pairwise fun x y => x.2 ≠ y.2) → (W.Pairwise fun x y => x.1.1 ≠ y.1.1) →
    ∃ g' h', RM B K g' R h' w ∧ (∀ r, (∀ x ∈ W, x.2 ≠ r) → hget h' r = hget (Up.apps (setsOf pl (W.map (·.1))) h) r) ∧ (∀ x ∈ W, hget h' x.2 = none) ∧ (∀ b o, owned g' b o → owned g b o) ∧
      (∀ q m, (∀ x ∈ W, x.2 ≠ q.r) → (∀ x ∈ W, (pl.cell x.1.1.1 x.1.1.2).pre q = false) → g q.r q.p = some m → g' q.r q.p = some m)
  | [], g, h, H, _, _, _, _ => ⟨g, h, H, fun _ _ => rfl, fun x hx => (List.not_mem_nil hx).elim, fun _ _ hx => hx, fun _ _ _ _ hm => hm⟩
  | x :: W, g, h, H, hn, hW, hp, hp' => by
    obtain ⟨p1, p2⟩ := List.pairwise_cons.1 hp
    obtain ⟨p1', p2'⟩ := List.pairwise_cons.1 hp'
    obtain ⟨⟨old, ho⟩, w1, w2, w3, w4⟩ := hW x List.mem_cons_self
    obtain ⟨a, ha, hpp⟩ := getP_some ho
    have r1 := H.attach (r := pl.r) (s := x.2) (c := x.1.2) (i := x.1.1.1) (j := x.1.1.2) ha hpp w1 w3 w2 hn w4
    have e1 : Up.app h (.set (pl.cell x.1.1.1 x.1.1.2) x.1.2) = hins h pl.r (setT a (pl.p ++ [(x.1.1.1, x.1.1.2)]) x.1.2) := by
      simp only [Up.app, ha]; rfl
    have hn' : attG g pl.r (pl.p ++ [(x.1.1.1, x.1.1.2)]) x.2 pl.r pl.p = some n := by
      unfold attG
      rw [if_neg (fun e => w3 e.symm), if_neg]
      · exact hn
      · rintro ⟨_, e⟩
        obtain ⟨z, hz⟩ := pre_iff.1 e
        have := congrArg List.length hz
        simp at this
    have hh : ∀ r, hget (hdel (hins h pl.r (setT a (pl.p ++ [(x.1.1.1, x.1.1.2)]) x.1.2)) x.2) r = if r = x.2 then none else hget (Up.app h (.set (pl.cell x.1.1.1 x.1.1.2) x.1.2)) r := by
      intro r; rw [hget_hdel, e1]
    obtain ⟨g', h', a1, a2, a3, a4, a5⟩ := attaches_ok (W := W) r1 hn' (fun y hy => by
      obtain ⟨⟨o', ho'⟩, b1, b2, b3, b4⟩ := hW y (List.mem_cons_of_mem _ hy)
      have hne := p1 y hy
      refine ⟨?_, ?_, b2, b3, b4⟩
      · have hg := getP_write (h := h) (par := pl) (i := x.1.1.1) (j := x.1.1.2) (i' := y.1.1.1) (j' := y.1.1.2) (x := x.1.2) w2 ho ⟨o', ho'⟩
        obtain ⟨c', hc'⟩ := hg
        refine ⟨c', ?_⟩
        unfold getP at hc' ⊢
        rw [show (pl.cell y.1.1.1 y.1.1.2).r = pl.r from rfl] at hc' ⊢
        rw [hh, if_neg (fun e => w3 e.symm)]; exact hc'
      · rw [hh, if_neg (fun e => hne e.symm), e1, hget_hins, if_neg b3]; exact b1) p2 p2'
    refine ⟨g', h', a1, fun r hr => ?_, fun y hy => ?_, fun b o hx => owned_att (a4 b o hx), fun q m hq hq2 hm => ?_⟩
    · rw [a2 r fun y hy => hr y (List.mem_cons_of_mem _ hy)]
      simp only [setsOf, List.map_cons, Up.apps]
      refine apps_at _ ?_
      rw [hh, if_neg (fun e => hr x List.mem_cons_self e.symm)]
    · rcases List.mem_cons.1 hy with e0 | hy
      · rw [e0]
        by_cases hin : ∃ y ∈ W, y.2 = x.2
        · obtain ⟨y, hy, e⟩ := hin; exact absurd e.symm (p1 y hy)
        · rw [a2 _ fun y hy e => hin ⟨y, hy, e⟩, hget_apps_ne, hh, if_pos rfl]
          intro u hu
          simp only [setsOf, List.mem_map] at hu
          obtain ⟨z, _, rfl⟩ := hu
          exact fun e => w3 e.symm
      · exact a3 y hy
    · refine a5 q m (fun y hy => hq y (List.mem_cons_of_mem _ hy)) (fun y hy => hq2 y (List.mem_cons_of_mem _ hy)) ?_
      unfold attG
      rw [if_neg (fun e => hq x List.mem_cons_self e.symm), if_neg]
      · exact hm
      · rintro ⟨e2, e3⟩
        have := hq2 x List.mem_cons_self
        simp only [Pl.pre, Pl.cell, e2, nbT, Bool.true_and] at this
        rw [e3] at this; cases this
def setW (i : Nat) : Nat → List AV → List ((Nat × Nat) × AV)
  | _, [] => []
  | off, c :: cs => ((i, off), c) :: setW i (off + 1) cs
def rowW : Nat → List AV → List ((Nat × Nat) × AV)
  | _, [] => []
  | i, e :: es => setW i 0 (cells e) ++ rowW (i + 1) es
theorem setUps_eq {pl : Pl} {i : Nat} : ∀ {cs : List AV} {off : Nat}, setUps pl i off cs = setsOf pl (setW i off cs)
  | [], _ => rfl
  | c :: cs, off => by simp only [setUps, setW, setsOf, List.map_cons]; rw [setUps_eq]; rfl
theorem rowUps_eq {pl : Pl} : ∀ {es : List AV} {i : Nat}, rowUps pl i es = setsOf pl (rowW i es)
  | [], _ => rfl
  | e :: es, i => by simp only [rowUps, rowW, setsOf, List.map_append]; rw [setUps_eq, rowUps_eq]; rfl
theorem zip_eq {pl : Pl} {i : Nat} : ∀ {cs : List AV} {off : Nat}, List.zipWith Up.set (cellPls pl i off cs.length) cs = setsOf pl (setW i off cs)
  | [], _ => rfl
  | c :: cs, off => by simp only [List.length_cons, cellPls, List.zipWith_cons_cons, setW, setsOf, List.map_cons]; rw [zip_eq]; rfl
theorem setW_mem {i : Nat} : ∀ {cs : List AV} {off : Nat} {x : (Nat × Nat) × AV}, x ∈ setW i off cs ↔ ∃ j, x.1 = (i, off + j) ∧ cs[j]? = some x.2
  | [], off, x => by simp [setW]
  | c :: cs, off, x => by
    simp only [setW, List.mem_cons]
    rw [setW_mem]
    constructor
    · rintro (rfl | ⟨j, h1, h2⟩)
      · exact ⟨0, rfl, rfl⟩
      · exact ⟨j + 1, by rw [h1]; congr 1; omega, by simpa using h2⟩
    · rintro ⟨j, h1, h2⟩
      cases j with
      | zero => simp only [List.getElem?_cons_zero, Option.some.injEq] at h2; left; obtain ⟨x1, x2⟩ := x; simp only at h1 h2; rw [h1, h2]; rfl
      | succ j => exact .inr ⟨j, by rw [h1]; congr 1; omega, by simpa using h2⟩
theorem rowW_mem : ∀ {es : List AV} {i : Nat} {x : (Nat × Nat) × AV}, x ∈ rowW i es ↔ ∃ k j e, x.1 = (i + k, j) ∧ es[k]? = some e ∧ (cells e)[j]? = some x.2
  | [], i, x => by simp [rowW]
  | e :: es, i, x => by
    simp only [rowW, List.mem_append]
    rw [setW_mem, rowW_mem]
    constructor
    · rintro (⟨j, h1, h2⟩ | ⟨k, j, e', h1, h2, h3⟩)
      · exact ⟨0, j, e, by rw [h1]; simp, rfl, h2⟩
      · exact ⟨k + 1, j, e', by rw [h1]; congr 1; omega, by simpa using h2, h3⟩
    · rintro ⟨k, j, e', h1, h2, h3⟩
      cases k with
      | zero => simp only [List.getElem?_cons_zero, Option.some.injEq] at h2; subst h2; exact .inl ⟨j, by rw [h1]; simp, h3⟩
      | succ k => exact .inr ⟨k, j, e', by rw [h1]; congr 1; omega, by simpa using h2, h3⟩
theorem setW_pw {i : Nat} : ∀ {cs : List AV} {off : Nat}, (setW i off cs).Pairwise fun x y => x.1 ≠ y.1
  | [], _ => .nil
  | c :: cs, off => by
    simp only [setW]
    refine List.pairwise_cons.2 ⟨fun y hy => ?_, setW_pw⟩
    obtain ⟨j, h1, _⟩ := setW_mem.1 hy
    rw [h1]
    intro e
    simp only [Prod.mk.injEq, true_and] at e
    omega
theorem rowW_pw : ∀ {es : List AV} {i : Nat}, (rowW i es).Pairwise fun x y => x.1 ≠ y.1
  | [], _ => .nil
  | e :: es, i => by
    simp only [rowW]
    refine List.pairwise_append.2 ⟨setW_pw, rowW_pw, fun x hx y hy => ?_⟩
    obtain ⟨j, h1, _⟩ := setW_mem.1 hx
    obtain ⟨k, j', _, h2, _⟩ := rowW_mem.1 hy
    rw [h1, h2]
    intro e
    simp only [Prod.mk.injEq] at e
    omega
/-- The cells that come back: the callee's cell, the caller's, what is in it. -/
theorem ioW {t : IoSpec} (hok : t.ok s B g w) {o : AV} {ius : List Up} (hi : ioUps [t.iop] [o] = some ius) (hsz : ∀ sz es, o = .ow sz es → ∀ e ∈ es, (cells e).length = sz) :
    ∃ W : List ((Nat × Nat) × ((Nat × Nat) × AV)), ius = setsOf t.pl (W.map (·.2)) ∧ (∀ x ∈ W, t.μ x.1 = some x.2.1 ∧ step1 o x.1 = some x.2.2) ∧ (∀ a b, t.μ a = some b → ∃ c, (a, b, c) ∈ W) ∧ W.Pairwise (fun x y => x.2.1 ≠ y.2.1) := by
  rcases hok.kind with ⟨i, off, e, h1, h2, h3⟩ | ⟨sz, es, h1, h2, h3⟩
  · rw [h1] at hi
    cases o <;> simp only [ioUps, oops] at hi <;> try cases hi
    rename_i e'
    rw [cellPls_len] at hi
    split at hi
    · rename_i hl
      simp only [Option.some.injEq, List.append_nil] at hi
      refine ⟨(setW i off (cells e')).map fun x => ((0, x.1.2 - off), x.1, x.2), ?_, fun x hx => ?_, fun a b hab => ?_, ?_⟩
      · rw [← hi, ← hl, zip_eq, List.map_map]
        congr 1
        conv => lhs; rw [← List.map_id (setW i off (cells e'))]
        exact List.map_congr_left fun x _ => rfl
      · obtain ⟨y, hy, rfl⟩ := List.mem_map.1 hx
        obtain ⟨j, e1, e2⟩ := setW_mem.1 hy
        have hlt := (List.getElem?_eq_some_iff.1 e2).1
        simp only [h3, e1, true_and]
        refine ⟨by rw [if_pos (by omega)]; congr 2; omega, ?_⟩
        simp only [step1, if_true]
        rw [show off + j - off = j by omega]; exact e2
      · rw [h3] at hab
        simp only at hab
        split at hab
        · rename_i hc
          cases hab
          obtain ⟨a1, a2⟩ := a
          simp only at hc
          obtain ⟨rfl, hlt⟩ := hc
          refine ⟨(cells e')[a2], List.mem_map.2 ⟨((i, off + a2), (cells e')[a2]), setW_mem.2 ⟨a2, rfl, List.getElem?_eq_getElem (by omega)⟩, ?_⟩⟩
          simp only [Prod.mk.injEq, and_true, true_and]
          omega
        · cases hab
      · rw [List.pairwise_map]; exact setW_pw
    · cases hi
  · rw [h1] at hi
    cases o <;> simp only [ioUps, oops] at hi <;> try cases hi
    rename_i sz' es'
    split at hi
    · rename_i hl
      obtain ⟨rfl, hl⟩ := hl
      simp only [Option.some.injEq, List.append_nil] at hi
      have hcz := hsz _ _ rfl
      refine ⟨(rowW 0 es').map fun x => (x.1, x.1, x.2), ?_, fun x hx => ?_, fun a b hab => ?_, ?_⟩
      · rw [← hi, rowUps_eq, List.map_map]
        congr 1
        conv => lhs; rw [← List.map_id (rowW 0 es')]
        exact List.map_congr_left fun x _ => rfl
      · obtain ⟨y, hy, rfl⟩ := List.mem_map.1 hx
        obtain ⟨k, j, e', e1, e2, e3⟩ := rowW_mem.1 hy
        have hlt := (List.getElem?_eq_some_iff.1 e2).1
        have hlt2 := (List.getElem?_eq_some_iff.1 e3).1
        rw [hcz e' (List.mem_of_getElem? e2)] at hlt2
        simp only [h3, e1, Nat.zero_add]
        refine ⟨by rw [if_pos ⟨by omega, hlt2⟩], ?_⟩
        simp only [step1, e2, Option.bind_some]; exact e3
      · rw [h3] at hab
        simp only at hab
        split at hab
        · rename_i hc
          cases hab
          obtain ⟨a1, a2⟩ := a
          simp only at hc
          have g1 : es'[a1]? = some es'[a1] := List.getElem?_eq_getElem (by omega)
          have g2 : a2 < (cells es'[a1]).length := by rw [hcz _ (List.getElem_mem _)]; exact hc.2
          exact ⟨(cells es'[a1])[a2], List.mem_map.2 ⟨((a1, a2), (cells es'[a1])[a2]), rowW_mem.2 ⟨a1, a2, es'[a1], by simp, g1, List.getElem?_eq_getElem g2⟩, rfl⟩⟩
        · cases hab
      · rw [List.pairwise_map]; exact rowW_pw
    · cases hi
end Go.Am
end
section
namespace Go.Am
open Go.RowKit Go.Lib
variable {P : Program} {cx : Cx} {B B0 B1 : Base} {K : Nat → Prop} {g g' g0 g1 g2 g3 : Gh} {R R' R0 R1 R2 : Nat → Value} {s : St} {h h' h0 h1 h2 h3 : Hp} {w w' : World} {F F' : Fz}
theorem Fz.le.trans {F1 F2 F3 : Fz} (h1 : F1.le F2) (h2 : F2.le F3) : F1.le F3 := by
  refine ⟨fun b o v hm hn => h2.m b o v (h1.m b o v hm hn) (h1.N b o v hm hn), fun b o v hm hn => h2.N b o v (h1.m b o v hm hn) (h1.N b o v hm hn), fun b o v hm hn => ?_, h1.sub⟩
  have hn' : ¬ F1.N b o := fun hx => hn (h1.sub b o hx)
  exact h2.N0 b o v (h1.m b o v hm hn') (h1.N0 b o v hm hn)
theorem pw_eq {α : Type} {f : α → Nat} : ∀ {l : List α}, (l.Pairwise fun x y => f x ≠ f y) → ∀ x ∈ l, ∀ y ∈ l, f x = f y → x = y
  | [], _, x, hx, _, _, _ => (List.not_mem_nil hx).elim
  | z :: l, hp, x, hx, y, hy, e => by
    obtain ⟨p1, p2⟩ := List.pairwise_cons.1 hp
    rcases List.mem_cons.1 hx with ex | hx <;> rcases List.mem_cons.1 hy with ey | hy
    · rw [ex, ey]
    · rw [ex] at e; exact absurd e (p1 y hy)
    · rw [ey] at e; exact absurd e.symm (p1 x hx)
    · exact pw_eq p2 x hx y hy e
theorem news_keys : ∀ {E : List (Nat × AV)}, apartUps (E.map fun p => Up.new p.1 p.2) = true → E.Pairwise fun x y => x.1 ≠ y.1
  | [], _ => .nil
  | x :: E, h => by
    simp only [List.map_cons, apartUps, Bool.and_eq_true, List.all_eq_true, Bool.not_eq_true'] at h
    refine List.pairwise_cons.2 ⟨fun y hy e => ?_, news_keys h.2⟩
    have h1 := meets_apart (h.1 _ (List.mem_map.2 ⟨y, hy, rfl⟩))
    have := h1.1
    simp only [Up.pl, Pl.pre, e, nbT, pre] at this
    cases this
theorem noLk_offL : ∀ {l : List AV} {k : Nat}, noLkL l = true → ∀ p ∈ offL k l, noLk p.2 = true
  | [], _, _, p, hp => (List.not_mem_nil hp).elim
  | a :: l, k, h, p, hp => by
    simp only [noLkL, Bool.and_eq_true] at h
    simp only [offL] at hp
    split at hp
    · rcases List.mem_cons.1 hp with rfl | hp
      · exact h.1
      · exact noLk_offL h.2 p hp
    · exact noLk_offL h.2 p hp
theorem noLk_off1 {a : AV} {k : Nat} (h : noLk a = true) : ∀ p ∈ off1 k a, noLk p.2 = true := by
  have h1 : noLkL [a] = true := by simp [noLkL, h]
  cases a with
  | agg cs => exact noLk_offL h
  | _ => exact noLk_offL h1
theorem noLk_entry : ∀ {l : List AV} {k : Nat}, noLkL l = true → ∀ r a, Up.new r a ∈ (entryL k l).2 → noLk a = true
  | [], _, _, r, a, hm => by simp [entryL] at hm
  | b :: l, k, h, r, a, hm => by
    simp only [noLkL, Bool.and_eq_true] at h
    simp only [entryL, List.mem_append] at hm
    rcases hm with hm | hm
    · rw [entry_up, List.mem_map] at hm
      obtain ⟨p, hp, e⟩ := hm
      cases e
      exact noLk_off1 h.1 p hp
    · exact noLk_entry h.2 r a hm
theorem apart_touch {q pl : Pl} (h : q.apart pl) : (gone q).touch ⟨pl, true⟩ = false ∧ upOk 0 (gone q) = true := by
  obtain ⟨h1, h2⟩ := h
  unfold gone
  by_cases e : q.p.isEmpty = true
  · rw [if_pos e]
    have e' : q.p = [] := by simpa using e
    refine ⟨?_, rfl⟩
    simp only [Up.touch, Up.hits, Bool.or_false]
    cases hb : Nat.beq q.r pl.r with
    | false => rfl
    | true => simp only [Pl.pre, hb, e', pre, Bool.and_self] at h1; cases h1
  · rw [if_neg e]
    refine ⟨?_, ?_⟩
    · simp only [Up.touch, Up.hits, h1, h2, Bool.and_false, Bool.or_self]
    · simp only [upOk, nonAgg, Bool.and_true, Bool.not_eq_true'] ; simpa using e
theorem noTouch0 {q pl : Pl} (h : q.pre pl = false) : (gone q).touch ⟨pl, false⟩ = false ∧ upOk 0 (gone q) = true := by
  unfold gone
  by_cases e : q.p.isEmpty = true
  · rw [if_pos e]
    have e' : q.p = [] := by simpa using e
    refine ⟨?_, rfl⟩
    simp only [Up.touch, Up.hits, Bool.or_false]
    cases hb : Nat.beq q.r pl.r with
    | false => rfl
    | true => simp only [Pl.pre, hb, e', pre, Bool.and_self] at h; cases h
  · rw [if_neg e]
    refine ⟨?_, ?_⟩
    · simp only [Up.touch, Up.hits, h, Bool.false_and, Bool.or_self]
    · simp only [upOk, nonAgg, Bool.and_true, Bool.not_eq_true'] ; simpa using e
theorem cell_there {h h' : Hp} {pl : Pl} {k off : Nat} {c : AV} (h2 : (getP h' pl).map hd = (getP h pl).map hd) (hc : getP h (pl.cell k off) = some c) : ∃ c', getP h' (pl.cell k off) = some c' := by
  obtain ⟨a, ha, hp⟩ := getP_some hc
  obtain ⟨x, hx, hs⟩ := getT_parent (c := c) (p := pl.p) (i := k) (j := off) hp
  have h1 : getP h pl = some x := by unfold getP; rw [show pl.r = (pl.cell k off).r from rfl, ha]; exact hx
  rw [h1] at h2
  cases hx' : getP h' pl with
  | none => rw [hx'] at h2; cases h2
  | some x' =>
    rw [hx'] at h2
    simp only [Option.map_some, Option.some.injEq] at h2
    have h3 : ∃ c', step1 x' (k, off) = some c' := by
      rcases step1_some hs with ⟨sz, es, e, rfl, he, hj⟩ | ⟨e, rfl, rfl, hj⟩
      · obtain ⟨es', rfl, e1, e2⟩ := hd_ow h2
        have := e2 k
        rw [he] at this
        cases he' : es'[k]? with
        | none => rw [he'] at this; cases this
        | some e' =>
          rw [he'] at this
          simp only [Option.map_some, Option.some.injEq] at this
          have hlt := (List.getElem?_eq_some_iff.1 hj).1
          simp only [step1, he', Option.bind_some]
          exact ⟨_, List.getElem?_eq_getElem (by omega)⟩
      · cases x' <;> simp only [hd] at h2 <;> try cases h2
        rename_i e'
        simp only [AV.bx.injEq, AV.agg.injEq] at h2
        have := congrArg List.length h2
        simp only [List.length_replicate] at this
        have hlt := (List.getElem?_eq_some_iff.1 hj).1
        simp only [step1, if_true]
        exact ⟨_, List.getElem?_eq_getElem (by omega)⟩
    obtain ⟨c', hc'⟩ := h3
    obtain ⟨a', ha', hp'⟩ := getP_some hx'
    refine ⟨c', ?_⟩
    unfold getP; rw [show (pl.cell k off).r = pl.r from rfl, ha']
    simp only [Option.bind_some, Pl.cell]
    rw [getT_snoc, hp']; exact hc'
theorem pre_linear {p q x : List (Nat × Nat)} (h1 : pre p x = true) (h2 : pre q x = true) : pre p q = true ∨ pre q p = true := by
  rcases paths p q with ⟨r, hr⟩ | ⟨t, r, hr⟩ | ⟨u, t, t', p', q', hne, rfl, rfl⟩
  · exact .inl (pre_iff.2 ⟨r, hr⟩)
  · exact .inr (pre_iff.2 ⟨_, hr⟩)
  · exfalso
    obtain ⟨a, rfl⟩ := pre_iff.1 h1
    obtain ⟨b, hb⟩ := pre_iff.1 h2
    simp only [List.append_assoc, List.cons_append, List.append_cancel_left_eq, List.cons.injEq] at hb
    exact hne hb.1.symm
theorem Pl.linear {a b c : Pl} (h1 : a.pre c = true) (h2 : b.pre c = true) : a.pre b = true ∨ b.pre a = true := by
  simp only [Pl.pre, Bool.and_eq_true] at *
  have e1 := h1.1; have e2 := h2.1
  simp at e1 e2
  rcases pre_linear h1.2 h2.2 with h | h
  · exact .inl ⟨by simp [e1, e2], h⟩
  · exact .inr ⟨by simp [e1, e2], h⟩
def iot (g : Gh) (io : List IoSpec) : Option IoT := io.head?.map fun t => ⟨t.κ, t.a, t.v, ioG g t.pl t.nu t.μ⟩
def sigM (mv : List (Nat × AV × Nat)) : Nat → Option Nat := lookK (mv.map fun m => (m.1, m.2.2))
noncomputable def calR (R : Nat → Value) (mv : List (Nat × AV × Nat)) (io : List IoSpec) (κ : Nat) : Value := match sigM mv κ with
  | some N => R N
  | none => match io.head? with
    | some t => t.v
    | none => undef
structure Begun (s : St) (B : Base) (g : Gh) (w : World) (M : Nat) (cv : List AV) (vs : List Value) (up : List Up) (lent : Bool) (mv : List (Nat × AV × Nat)) (io : List IoSpec) (g3 : Gh) (R2 : Nat → Value) (h3 : Hp) (hw : ∀ b o, B.A0 b o → b < w.heap.size) (hlt : ∀ b o, owned g3 b o → b < w.heap.size) (hin : ∀ b o, ownC g3 (sigM mv) (iot g3 io) b o → owned g3 b o) : Prop where
  rm : RM B (Kd s.d) g3 R2 h3 w
  src : SrcOk2 g3 h3 (sigM mv) (iot g3 io) B w (Up.apps (entryL 0 cv).2 []) R2 (calR R2 mv io)
  args : XDs (mkF (calB B g3 w (sigM mv) (iot g3 io) lent hw hlt hin) (calG g3 (sigM mv) (iot g3 io)) w) (calG g3 (sigM mv) (iot g3 io)) [] (entryL 0 cv).1 vs
  sub : ∀ b o, owned g3 b o → owned g b o
  heap : ∀ r, (∀ m ∈ mv, m.2.2 ≠ r) → hget h3 r = hget (Up.apps up s.h) r
  keep : ∀ q k, (∀ u ∈ up, u.pl.pre q = false) → g q.r q.p = some k → g3 q.r q.p = some k
  row : ∀ t ∈ io, RowV g3 h3 t.pl t.n t.nu t.μ t.a
  mvM : ∀ m ∈ mv, M ≤ m.2.2
  sig : ∀ κ N, sigM mv κ = some N → ∃ m ∈ mv, m.1 = κ ∧ m.2.2 = N
theorem begin_call (H : RM B (Kd s.d) g R s.h w) (hal : s.alias = false) {M c' : Nat} {ms : List Md} {cv : List AV} {vs : List Value} {rd : List Rd} {up : List Up} {touch : List Pl} {iol : List IoR} {lent : Bool} {ts : List Tk} {mv : List (Nat × AV × Nat)} {gv : List Nat} {vw : List Rd} {io : List IoSpec}
    (hfr : ∀ n, M ≤ n → hget s.h n = none ∧ ¬ Kd s.d n) (A : AR s B (Kd s.d) g w M 0 0 c' ms cv vs rd up touch iol lent ts mv gv vw io) (hap : apartUps up = true) (hen : apartUps (entryL 0 cv).2 = true) (hnl : noLkL cv = true) (hio : io.length ≤ 1) :
    ∃ g3 R2 h3 hw hlt hin, Begun s B g w M cv vs up lent mv io g3 R2 h3 hw hlt hin := by
  obtain ⟨g2, R2, h2, H2, e2, e3, e4, e5⟩ := takes_ok hal H A.tks.2 (by rw [A.tks.1]; exact hap) A.inc
  obtain ⟨g3, H3, f2, f3, f4⟩ := drops_ok gv H2
  have hup : ∀ u ∈ up, ∃ q c, u = gone q ∧ getP s.h q = some c := by rw [← A.tks.1]; exact flat_pl A.tks.2
  have hupr : ∀ n, M ≤ n → ∀ u ∈ up, u.pl.r ≠ n := by
    intro n hn u hu e
    obtain ⟨q, c, rfl, hq⟩ := hup u hu
    obtain ⟨a, ha⟩ := getP_root hq
    rw [gone_pl] at e
    rw [e, (hfr n hn).1] at ha; cases ha
  have hrng : ∀ t ∈ ts, t.us ≠ [] → M ≤ t.N := fun t ht hu => by have := A.rng t ht hu; omega
  have hgv : ∀ N ∈ gv, M ≤ N := fun N hN => by have := A.gvr N hN; omega
  have hmv : ∀ m ∈ mv, M ≤ m.2.2 := fun m hm => by have := A.mvr m hm; omega
  have hltM : ∀ r p n, g r p = some n → r < M := by
    intro r p n hn
    rcases Nat.lt_or_ge r M with h | h
    · exact h
    · have := H.void r (hfr r h).1 p; rw [hn] at this; cases this
  have hheap : ∀ r, (∀ m ∈ mv, m.2.2 ≠ r) → hget (gv.foldl hdel h2) r = hget (Up.apps up s.h) r := by
    intro r hr
    rw [f4 r]
    by_cases hg : r ∈ gv
    · rw [if_pos hg, hget_apps_ne (hupr r (hgv r hg)), (hfr r (hgv r hg)).1]
    · rw [if_neg hg, e4 r, A.tks.1]
      intro t ht hu e
      rcases A.cov t ht hu with ⟨m, hm, e'⟩ | hg'
      · exact hr m hm (e'.trans e)
      · rw [e] at hg'; exact hg hg'
  have hkeep : ∀ q k, (∀ u ∈ up, u.pl.pre q = false) → g q.r q.p = some k → g3 q.r q.p = some k := by
    intro q k hq hk
    have hlt := hltM _ _ _ hk
    rw [f3 q.r fun hm => by have := hgv _ hm; omega]
    exact e5 q k (fun t ht hu e => by have := hrng t ht hu; omega) (by rw [A.tks.1]; exact hq) hk
  have hsub : ∀ b o, owned g3 b o → owned g b o := fun b o hx => e3 b o (f2 b o hx)
  -- the row that is handed in
  have hrow : ∀ t ∈ io, RowV g3 (gv.foldl hdel h2) t.pl t.n t.nu t.μ t.a := by
    intro t ht
    have hok := A.iok t ht
    obtain ⟨p0, hp0⟩ := List.exists_mem_of_ne_nil _ hok.tc0
    have hpl : ∀ u ∈ up, u.pl.pre t.pl = false := by
      intro u hu
      cases hb : u.pl.pre t.pl with
      | false => rfl
      | true =>
        have := Pl.pre_trans hb (hok.tcpl p0 hp0)
        rw [(A.sep2 u hu t ht p0 hp0).1] at this; cases this
    have hroot : hget (gv.foldl hdel h2) t.pl.r = hget (Up.apps up s.h) t.pl.r := hheap _ fun m hm e => by
      have := hltM _ _ _ hok.row.at_
      have := hmv m hm
      omega
    have hgp : ∀ q : Pl, q.r = t.pl.r → getP (gv.foldl hdel h2) q = getP (Up.apps up s.h) q := fun q hq => by unfold getP; rw [hq, hroot]
    have hshape : (getP (Up.apps up s.h) t.pl).map hd = (getP s.h t.pl).map hd := by
      refine (getP_apps_hd (io := 0) (r := ⟨t.pl, false⟩) (fun u hu => ?_) fun u hu => ?_).1
      · obtain ⟨q, c, rfl, _⟩ := hup u hu
        have := hpl _ hu; rw [gone_pl] at this; exact (noTouch0 this).2
      · obtain ⟨q, c, rfl, _⟩ := hup u hu
        have := hpl _ hu; rw [gone_pl] at this; exact (noTouch0 this).1
    refine hok.row.move (hkeep _ _ hpl hok.row.at_) (fun tt t' c h1 h2' => ?_) fun i j c hc => ?_
    · obtain ⟨p, hp, hpc⟩ := hok.cov tt t' h1
      rw [hgp (t.pl.cell t'.1 t'.2) rfl, (getP_apps_hd (io := 0) (r := ⟨t.pl.cell t'.1 t'.2, true⟩) (fun u hu => ?_) fun u hu => ?_).2 rfl]
      · exact h2'
      · obtain ⟨q, c, rfl, _⟩ := hup u hu
        have := hpl _ hu; rw [gone_pl] at this; exact (noTouch0 this).2
      · obtain ⟨q, c, rfl, _⟩ := hup u hu
        have h3 := A.sep2 _ hu t ht p hp
        rw [gone_pl] at h3
        refine (apart_touch ⟨?_, ?_⟩).1
        · cases hb : q.pre (t.pl.cell t'.1 t'.2) with
          | false => rfl
          | true =>
            rcases Pl.linear hb hpc with h | h
            · rw [h3.1] at h; cases h
            · rw [h3.2] at h; cases h
        · cases hb : (t.pl.cell t'.1 t'.2).pre q with
          | false => rfl
          | true => have := Pl.pre_trans hpc hb; rw [h3.2] at this; cases this
    · rw [hgp (t.pl.cell i j) rfl] at hc
      exact cell_there hshape.symm hc
  -- the numbers
  obtain ⟨E, E1, E2⟩ := A.ent
  have hkeys : E.Pairwise fun x y => x.1 ≠ y.1 := news_keys (by rw [← E1]; exact hen)
  have hkeys2 : (mv.map (fun m => (m.1, m.2.1)) ++ io.map fun t => (t.κ, t.a)).Pairwise fun x y => x.1 ≠ y.1 := (E2.pairwise_iff fun h e => h e.symm).1 hkeys
  rw [List.pairwise_append] at hkeys2
  obtain ⟨k1, k2, k3⟩ := hkeys2
  have k1' : (mv.map fun m => (m.1, m.2.2)).Pairwise fun x y => x.1 ≠ y.1 := by
    rw [List.pairwise_map] at k1 ⊢; exact k1
  have hsig : ∀ κ N, sigM mv κ = some N → ∃ m ∈ mv, m.1 = κ ∧ m.2.2 = N := by
    intro κ N h
    obtain ⟨m, hm, e⟩ := List.mem_map.1 (lookK_mem h)
    simp only [Prod.mk.injEq] at e
    exact ⟨m, hm, e⟩
  have hsig2 : ∀ m ∈ mv, sigM mv m.1 = some m.2.2 := fun m hm => lookK_of k1' (x := (m.1, m.2.2)) (List.mem_map.2 ⟨m, hm, rfl⟩)
  have hsio : ∀ t ∈ io, sigM mv t.κ = none := by
    intro t ht
    refine lookK_none fun y hy => ?_
    obtain ⟨m, hm, e⟩ := List.mem_map.1 hy
    simp only [Prod.mk.injEq] at e
    exact k3 (m.1, m.2.1) (List.mem_map.2 ⟨m, hm, rfl⟩) (t.κ, t.a) (List.mem_map.2 ⟨t, ht, rfl⟩) e.1
  have hio1 : ∀ t ∈ io, io.head? = some t := by
    intro t ht
    match io, hio, ht with
    | [t'], _, ht => rw [List.mem_singleton] at ht; rw [ht]; rfl
  have hio2 : ∀ t, io.head? = some t → t ∈ io := fun t ht => List.mem_of_head? ht
  have hnlE : ∀ p ∈ E, noLk p.2 = true := fun p hp => noLk_entry hnl p.1 p.2 (by rw [E1]; exact List.mem_map.2 ⟨p, hp, rfl⟩)
  have hE0 : ∀ κ a, (κ, a) ∈ E → hget (Up.apps (entryL 0 cv).2 []) κ = some a := fun κ a h => by rw [E1]; exact (hget_news hkeys κ).1 a h
  have hEn : ∀ κ, (∀ a, (κ, a) ∉ E) → hget (Up.apps (entryL 0 cv).2 []) κ = none := fun κ h => by rw [E1, (hget_news hkeys κ).2 h]; rfl
  have hmvh : ∀ m ∈ mv, hget (gv.foldl hdel h2) m.2.2 = some m.2.1 := by
    intro m hm
    obtain ⟨_, _, t, ht, a1, a2, a3⟩ := A.mvr m hm
    rw [f4, if_neg fun hg => A.gm _ hg m hm rfl, ← a2, ← a3]
    exact ((e2 t ht).2 a1).2
  have S : SrcOk2 g3 (gv.foldl hdel h2) (sigM mv) (iot g3 io) B w (Up.apps (entryL 0 cv).2 []) R2 (calR R2 mv io) := by
    refine ⟨fun κ κ' N h1 h2' => ?_, fun t' ht' => ?_, fun κ a ha => ?_, fun κ hκ => ?_⟩
    · obtain ⟨m, hm, a1, a2⟩ := hsig κ N h1
      obtain ⟨m', hm', b1, b2⟩ := hsig κ' N h2'
      have := pw_eq (f := fun m : Nat × AV × Nat => m.2.2) A.mvd m hm m' hm' (a2.trans b2.symm)
      rw [← a1, ← b1, this]
    · unfold iot at ht'
      cases hh : io.head? with
      | none => rw [hh] at ht'; cases ht'
      | some t =>
        rw [hh] at ht'
        simp only [Option.map_some, Option.some.injEq] at ht'
        subst ht'
        have ht := hio2 t hh
        have hok := A.iok t ht
        refine ⟨t.pl.r, ioT_ok H3 (hrow t ht) hok.root hok.node (hnlE (t.κ, t.a) (E2.mem_iff.2 (List.mem_append_right _ (List.mem_map.2 ⟨t, ht, rfl⟩)))), fun κ N h1 e => ?_, hsio t ht⟩
        obtain ⟨m, hm, _, a2⟩ := hsig κ N h1
        have := hmv m hm
        have := hltM _ _ _ hok.row.at_
        omega
    · by_cases hx : ∃ a', (κ, a') ∈ E
      · obtain ⟨a', hx⟩ := hx
        rw [hE0 κ a' hx] at ha
        cases ha
        rcases List.mem_append.1 (E2.mem_iff.1 hx) with hm | hm
        · obtain ⟨m, hmm, e⟩ := List.mem_map.1 hm
          clear hm
          have hm := hmm
          simp only [Prod.mk.injEq] at e
          obtain ⟨rfl, rfl⟩ := e
          refine .inl ⟨m.2.2, hsig2 m hm, hmvh m hm, hnlE _ hx, ?_⟩
          simp only [calR, hsig2 m hm]
        · obtain ⟨t, ht, e⟩ := List.mem_map.1 hm
          simp only [Prod.mk.injEq] at e
          obtain ⟨rfl, rfl⟩ := e
          refine .inr ⟨_, by unfold iot; rw [hio1 t ht]; rfl, rfl, rfl, ?_⟩
          simp only [calR, hsio t ht, hio1 t ht]
      · rw [hEn κ fun a h => hx ⟨a, h⟩] at ha; cases ha
    · have hno : ∀ a, (κ, a) ∉ E := fun a h => by rw [hE0 κ a h] at hκ; cases hκ
      refine ⟨lookK_none fun y hy => ?_, fun t' ht' e => ?_⟩
      · obtain ⟨m, hm, e⟩ := List.mem_map.1 hy
        simp only [Prod.mk.injEq] at e
        exact hno m.2.1 (E2.mem_iff.2 (List.mem_append_left _ (List.mem_map.2 ⟨m, hm, by rw [e.1]⟩)))
      · unfold iot at ht'
        cases hh : io.head? with
        | none => rw [hh] at ht'; cases ht'
        | some t =>
          rw [hh] at ht'
          simp only [Option.map_some, Option.some.injEq] at ht'
          subst ht'
          exact hno t.a (E2.mem_iff.2 (List.mem_append_right _ (List.mem_map.2 ⟨t, hio2 t hh, by rw [e]⟩)))
  have hw := H3.a0_lt
  have hlt := H3.owned_lt
  have hin : ∀ b o, ownC g3 (sigM mv) (iot g3 io) b o → owned g3 b o := fun b o hx => ownC_in S hx
  refine ⟨g3, R2, _, hw, hlt, hin, H3, S, ?_, hsub, hheap, hkeep, hrow, hmv, hsig⟩
  -- the arguments
  have hle3 := cal_le (lent := lent) S (hw := hw) (hlt := hlt) (hin := hin)
  have notin : ∀ {b o : Nat}, owned g3 b o → ∃ r p m, r ∉ gv ∧ g3 r p = some m ∧ m.has b o := by
    rintro b o ⟨r, p, m, hm, hb⟩
    refine ⟨r, p, m, fun hg => ?_, hm, hb⟩
    have := H3.void r (by rw [f4, if_pos hg]) p
    rw [hm] at this; cases this
  refine A.fin ⟨H3.callee S hw hlt hin, (le_sub hsub).trans hle3, ⟨_, H2⟩, (le_sub f2).trans hle3, fun t ht => (e2 t ht).1, fun m hm => ⟨hE0 _ _ (E2.mem_iff.2 (List.mem_append_left _ (List.mem_map.2 ⟨m, hm, rfl⟩))), by simp only [calR, hsig2 m hm]⟩, fun N hN q n hq o ho => ?_, fun r hr q n hq o ho => ?_, fun t ht => ⟨hE0 _ _ (E2.mem_iff.2 (List.mem_append_right _ (List.mem_map.2 ⟨t, ht, rfl⟩))), by simp only [calR, hsio t ht, hio1 t ht]⟩⟩
  · have key : ¬ owned g3 n.b o := by
      intro hx
      obtain ⟨r, p, m, h1, h2', h3'⟩ := notin hx
      rw [f3 r h1] at h2'
      exact H2.disj _ _ _ _ _ _ h2' hq (by intro e; simp only [Prod.mk.injEq] at e; rw [e.1] at h1; exact h1 hN) n.b o h3' ho
    unfold Fz.no
    simp only [show (0 : Nat) ≠ 2 by decide, if_false]
    rintro (hx | hx)
    · obtain ⟨κ, p, m, h1, h2'⟩ := hx
      exact key (hin _ _ ⟨κ, p, m, h1, h2'⟩)
    · rcases hx.1 with hx | hx
      · exact H2.own_A0 ⟨N, q, n, hq, ho⟩ hx
      · exact key hx
  · have hlent : lent = true := by
      cases hl : lent with
      | true => rfl
      | false => rw [A.lnt hl] at hr; cases hr
    have hk3 : ∀ q n, g r.pl.r (r.pl.p ++ q) = some n → g3 r.pl.r (r.pl.p ++ q) = some n := by
      intro q n hn
      refine hkeep ⟨r.pl.r, r.pl.p ++ q⟩ n (fun u hu => ?_) hn
      obtain ⟨_, ht, _⟩ := A.upt u hu
      have hs := A.sep u.pl ht r hr
      cases hb : u.pl.pre ⟨r.pl.r, r.pl.p ++ q⟩ with
      | false => rfl
      | true =>
        have h2' : r.pl.pre ⟨r.pl.r, r.pl.p ++ q⟩ = true := by simp only [Pl.pre, nbT, Bool.true_and]; exact pre_iff.2 ⟨q, rfl⟩
        rcases Pl.linear hb h2' with h | h
        · rw [hs.1] at h; cases h
        · rw [hs.2] at h; cases h
    unfold Fz.no
    simp only [if_true]
    rintro (hx | hx)
    · obtain ⟨κ, p, m, h1, h2'⟩ := hx
      rcases calG_cases h1 with ⟨N, a1, a2⟩ | ⟨_, t', a2, _, a4⟩
      · refine H3.disj _ _ _ _ _ _ a2 (hk3 q n hq) ?_ n.b o h2' ho
        intro e
        simp only [Prod.mk.injEq] at e
        obtain ⟨m', hm', _, b2⟩ := hsig κ N a1
        have := hmv m' hm'
        have := hltM _ _ _ hq
        omega
      · unfold iot at a2
        cases hh : io.head? with
        | none => rw [hh] at a2; cases a2
        | some t =>
          rw [hh] at a2
          simp only [Option.map_some, Option.some.injEq] at a2
          subst a2
          have ht := hio2 t hh
          have hok := A.iok t ht
          have V := hrow t ht
          have sepp : ∀ p' ∈ t.tc, p'.pre r.pl = false ∧ r.pl.pre p' = false := fun p' hp' => A.sep p' (A.ird t ht p' hp').1 r hr
          cases p with
          | nil =>
            simp only [ioG, Option.some.injEq] at a4
            subst a4
            have hn3 : t.n.has n.b o := by
              obtain ⟨c1, c2⟩ := h2'
              have := V.sub o ⟨rfl, c2⟩
              exact ⟨V.b.symm.trans c1, this.2⟩
            refine H3.disj _ _ _ _ _ _ V.at_ (hk3 q n hq) ?_ n.b o hn3 ho
            intro e
            simp only [Prod.mk.injEq] at e
            obtain ⟨p0, hp0⟩ := List.exists_mem_of_ne_nil _ hok.tc0
            have hpre : r.pl.pre t.pl = true := by simp only [Pl.pre, Bool.and_eq_true]; exact ⟨by rw [e.1]; simp, pre_iff.2 ⟨q, e.2⟩⟩
            have := Pl.pre_trans hpre (hok.tcpl p0 hp0)
            rw [(sepp p0 hp0).2] at this; cases this
          | cons tt p =>
            simp only [ioG] at a4
            cases hμ : t.μ tt with
            | none => rw [hμ] at a4; cases a4
            | some t' =>
              rw [hμ] at a4
              refine H3.disj _ _ _ _ _ _ a4 (hk3 q n hq) ?_ n.b o h2' ho
              intro e
              simp only [Prod.mk.injEq] at e
              obtain ⟨p', hp', hpc⟩ := hok.cov tt t' hμ
              have hc1 : (t.pl.cell t'.1 t'.2).pre ⟨t.pl.r, t.pl.p ++ t' :: p⟩ = true := by
                simp only [Pl.pre, Pl.cell, nbT, Bool.true_and]; exact pre_iff.2 ⟨p, by simp⟩
              have hc2 : r.pl.pre ⟨t.pl.r, t.pl.p ++ t' :: p⟩ = true := by
                simp only [Pl.pre, Bool.and_eq_true]; exact ⟨by rw [e.1]; simp, pre_iff.2 ⟨q, e.2⟩⟩
              rcases Pl.linear (Pl.pre_trans hpc hc1) hc2 with h | h
              · rw [(sepp p' hp').1] at h; cases h
              · rw [(sepp p' hp').2] at h; cases h
    · rcases hx.1 with hx | hx
      · exact H.own_A0 ⟨_, _, n, hq, ho⟩ (B.hA _ _ hx)
      · rw [hlent] at hx; cases hx.1
end Go.Am
end
section
namespace Go.Am
open Go.RowKit Go.Lib
variable {P : Program} {cx : Cx} {B B0 B1 : Base} {K : Nat → Prop} {g g' g0 g1 g2 g3 : Gh} {R R' R0 R1 R2 : Nat → Value} {s : St} {h h' h0 h1 h2 h3 : Hp} {w w' : World} {F F' : Fz}
theorem cells_apart {pl : Pl} {x y : Nat × Nat} (h : x ≠ y) : (pl.cell x.1 x.2).pre (pl.cell y.1 y.2) = false := by
  cases hb : (pl.cell x.1 x.2).pre (pl.cell y.1 y.2) with
  | false => rfl
  | true =>
    simp only [Pl.pre, Pl.cell, Bool.and_eq_true] at hb
    obtain ⟨z, hz⟩ := pre_iff.1 hb.2
    have := congrArg List.length hz
    simp only [List.length_append, List.length_singleton] at this
    have hz0 : z = [] := List.eq_nil_of_length_eq_zero (by omega)
    subst hz0
    simp only [List.append_nil, List.append_cancel_left_eq, List.cons.injEq, and_true] at hz
    exact absurd hz.symm h
def unsOf (pl : Pl) (C : List ((Nat × Nat) × Nat)) : List Up := setsOf pl (C.map fun c => (c.1, AV.un))
theorem detaches_ok {pl : Pl} : ∀ {C : List ((Nat × Nat) × Nat)} {g : Gh} {R : Nat → Value} {h : Hp}, RM B K g R h w → (∀ c ∈ C, (∃ old, getP h (pl.cell c.1.1 c.1.2) = some old) ∧ hget h c.2 = none ∧ ¬ K c.2) → (C.Pairwise fun x y => x.1 ≠ y.1) → (C.Pairwise fun x y => x.2 ≠ y.2) →
    ∃ g' R' h', RM B K g' R' h' w ∧ (∀ r q n, (∀ c ∈ C, c.2 ≠ r) → g' r q = some n → g r q = some n ∧ ∀ c ∈ C, (pl.cell c.1.1 c.1.2).pre ⟨r, q⟩ = false) ∧
      (∀ b o, owned g' b o ↔ owned g b o) ∧
      (∀ q n, (∀ c ∈ C, c.2 ≠ q.r) → (∀ c ∈ C, (pl.cell c.1.1 c.1.2).pre q = false) → g q.r q.p = some n → g' q.r q.p = some n) ∧
      (∀ r, (∀ c ∈ C, c.2 ≠ r) → hget h' r = hget (Up.apps (unsOf pl C) h) r ∧ R' r = R r) ∧
      (∀ i j, (∃ c, getP h (pl.cell i j) = some c) → ∃ c, getP h' (pl.cell i j) = some c) ∧ (∀ i j n, (∃ c ∈ C, c.1 = (i, j)) → g pl.r pl.p = some n → getP h' (pl.cell i j) = some .un)
  | [], g, R, h, H, _, _, _ => ⟨g, R, h, H, fun r q n _ hn => ⟨hn, fun c hc => (List.not_mem_nil hc).elim⟩, fun _ _ => Iff.rfl, fun q n _ _ hn => hn, fun r _ => ⟨rfl, rfl⟩, fun _ _ hc => hc, fun i j n hc => by obtain ⟨c, hc, _⟩ := hc; exact (List.not_mem_nil hc).elim⟩
  | c :: C, g, R, h, H, hC, hp, hp' => by
    obtain ⟨p1, p2⟩ := List.pairwise_cons.1 hp
    obtain ⟨p1', p2'⟩ := List.pairwise_cons.1 hp'
    obtain ⟨⟨old, ho⟩, hs, hks⟩ := hC c List.mem_cons_self
    obtain ⟨a, ha, hpp⟩ := getP_some ho
    obtain ⟨n0, u, _, _, _, r1⟩ := H.detach (r := pl.r) (s := c.2) (i := c.1.1) (j := c.1.2) ha hpp hs hks
    have hrs : pl.r ≠ c.2 := by intro e; rw [show (pl.cell c.1.1 c.1.2).r = pl.r from rfl, e, hs] at ha; cases ha
    have e1 : Up.app h (.set (pl.cell c.1.1 c.1.2) .un) = hins h pl.r (setT a (pl.p ++ [(c.1.1, c.1.2)]) .un) := by
      simp only [Up.app, ha]; rfl
    rw [← e1] at r1
    have hroot : ∀ r, r ≠ c.2 → hget (hins (Up.app h (.set (pl.cell c.1.1 c.1.2) .un)) c.2 old) r = hget (Up.app h (.set (pl.cell c.1.1 c.1.2) .un)) r := fun r hr => by rw [hget_hins, if_neg hr]
    have there : ∀ i j, (∃ x, getP h (pl.cell i j) = some x) → ∃ x, getP (hins (Up.app h (.set (pl.cell c.1.1 c.1.2) .un)) c.2 old) (pl.cell i j) = some x := by
      intro i j hx
      obtain ⟨x, hx⟩ := getP_write (h := h) (par := pl) (i := c.1.1) (j := c.1.2) (i' := i) (j' := j) (x := .un) rfl ho hx
      exact ⟨x, by unfold getP at hx ⊢; rw [show (pl.cell i j).r = pl.r from rfl] at hx ⊢; rw [hroot _ hrs]; exact hx⟩
    obtain ⟨g', R', h', a1, a2, a3, a4, a5, a6, a7⟩ := detaches_ok (pl := pl) (C := C) r1 (fun y hy => by
      obtain ⟨⟨o', ho'⟩, b1, b2⟩ := hC y (List.mem_cons_of_mem _ hy)
      refine ⟨there _ _ ⟨o', ho'⟩, ?_, b2⟩
      rw [hroot _ (fun e => p1' y hy e.symm), e1, hget_hins, if_neg]
      · exact b1
      · intro e
        rw [show (pl.cell c.1.1 c.1.2).r = pl.r from rfl, ← e, b1] at ha; cases ha) p2 p2'
    refine ⟨g', R', h', a1, fun r q n hr hn => ?_, fun b o => (a3 b o).trans ?_, fun q n hq hq2 hn => ?_, fun r hr => ?_, fun i j hx => a6 i j (there i j hx), fun i j n hc hn => ?_⟩
    · obtain ⟨b1, b2⟩ := a2 r q n (fun y hy => hr y (List.mem_cons_of_mem _ hy)) hn
      unfold detG at b1
      rw [if_neg (fun e => hr c List.mem_cons_self e.symm)] at b1
      obtain ⟨b3, b4⟩ := cutG_some b1
      refine ⟨b3, fun y hy => ?_⟩
      rcases List.mem_cons.1 hy with rfl | hy
      · cases hb : (pl.cell y.1.1 y.1.2).pre ⟨r, q⟩ with
        | false => rfl
        | true =>
          simp only [Pl.pre, Bool.and_eq_true] at hb
          exact absurd ⟨by have := hb.1; simp at this; exact this.symm, hb.2⟩ b4
      · exact b2 y hy
    · constructor
      · rintro ⟨r, q, n, hn, hb⟩
        unfold detG at hn
        split at hn
        · exact ⟨_, _, n, hn, hb⟩
        · exact ⟨_, _, n, (cutG_some hn).1, hb⟩
      · rintro ⟨r, q, n, hn, hb⟩
        have hrc : r ≠ c.2 := by rintro rfl; rw [H.void _ hs] at hn; cases hn
        by_cases hx : r = pl.r ∧ pre (pl.p ++ [(c.1.1, c.1.2)]) q = true
        · obtain ⟨rfl, hx⟩ := hx
          obtain ⟨z, rfl⟩ := pre_iff.1 hx
          exact ⟨c.2, z, n, by unfold detG; rw [if_pos rfl]; exact hn, hb⟩
        · exact ⟨r, q, n, by unfold detG; rw [if_neg hrc, cutG_eq hx]; exact hn, hb⟩
    · refine a4 q n (fun y hy => hq y (List.mem_cons_of_mem _ hy)) (fun y hy => hq2 y (List.mem_cons_of_mem _ hy)) ?_
      unfold detG
      rw [if_neg (fun e => hq c List.mem_cons_self e.symm), cutG_eq]
      · exact hn
      · rintro ⟨e2, e3⟩
        have := hq2 c List.mem_cons_self
        simp only [Pl.pre, Pl.cell, e2, nbT, Bool.true_and] at this
        rw [e3] at this; cases this
    · obtain ⟨b1, b2⟩ := a5 r fun y hy => hr y (List.mem_cons_of_mem _ hy)
      have hrc := hr c List.mem_cons_self
      refine ⟨?_, ?_⟩
      · rw [b1]
        simp only [unsOf, setsOf, List.map_cons, Up.apps]
        exact apps_at _ (hroot r fun e => hrc e.symm)
      · rw [b2]; unfold setR; rw [if_neg (fun e => hrc e.symm)]
    · have hkeepn : detG g pl.r (pl.p ++ [(c.1.1, c.1.2)]) c.2 pl.r pl.p = some n := by
        unfold detG
        rw [if_neg hrs, cutG_eq]
        · exact hn
        · rintro ⟨_, e⟩
          obtain ⟨z, hz⟩ := pre_iff.1 e
          have := congrArg List.length hz
          simp at this
      by_cases hin : ∃ y ∈ C, y.1 = (i, j)
      · exact a7 i j n hin hkeepn
      · obtain ⟨y, hy, e⟩ := hc
        rcases List.mem_cons.1 hy with rfl | hy
        · have hb := (a5 pl.r fun z hz e2 => by
            obtain ⟨⟨o', ho'⟩, b1, _⟩ := hC z (List.mem_cons_of_mem _ hz)
            obtain ⟨a', ha'⟩ := getP_root ho'
            rw [show (pl.cell z.1.1 z.1.2).r = pl.r from rfl, ← e2, b1] at ha'; cases ha').1
          have : getP h' (pl.cell i j) = getP (Up.apps (unsOf pl C) (Up.app h (.set (pl.cell y.1.1 y.1.2) .un))) (pl.cell i j) := by
            unfold getP
            rw [show (pl.cell i j).r = pl.r from rfl, hb, apps_at (unsOf pl C) (hroot pl.r hrs)]
          rw [this, (getP_apps_hd (io := 0) (r := ⟨pl.cell i j, true⟩) (fun u hu => ?_) fun u hu => ?_).2 rfl]
          · have e2 : y.1 = (i, j) := e
            rw [e1]
            unfold getP
            rw [show (pl.cell i j).r = pl.r from rfl, hget_hins, if_pos rfl, Option.bind_some, show (pl.cell i j).p = pl.p ++ [(i, j)] from rfl]
            have := getT_setT_under (a := a) (c := .un) (old := old) (p := pl.p ++ [(y.1.1, y.1.2)]) hpp (.inr rfl) []
            rw [List.append_nil] at this
            rw [e2] at this ⊢
            rw [this]; rfl
          · simp only [unsOf, setsOf, List.map_map, List.mem_map] at hu
            obtain ⟨z, _, rfl⟩ := hu
            simp [upOk, nonAgg, Pl.cell]
          · simp only [unsOf, setsOf, List.map_map, List.mem_map] at hu
            obtain ⟨z, hz, rfl⟩ := hu
            have hzne : z.1 ≠ (i, j) := fun e2 => hin ⟨z, hz, e2⟩
            have c1 := cells_apart (pl := pl) hzne
            have c2 := cells_apart (pl := pl) (fun e2 => hzne e2.symm : (i, j) ≠ z.1)
            simp only [Function.comp, Up.touch, Up.hits, Bool.or_false, Bool.true_and]
            rw [c1, c2]; rfl
        · exact absurd ⟨y, hy, e⟩ hin
/-- Cells that are forgotten, and then laid: the same as laid. -/
theorem lay_twice {pl : Pl} : ∀ {W : List ((Nat × Nat) × AV)} {h : Hp}, (∀ x ∈ W, nonAgg x.2 = true ∧ ∃ old, getP h (pl.cell x.1.1 x.1.2) = some old) → (W.Pairwise fun x y => x.1 ≠ y.1) →
    hext (Up.apps (setsOf pl W) (Up.apps (setsOf pl (W.map fun x => (x.1, AV.un))) h)) (Up.apps (setsOf pl W) h)
  | [], h, _, _ => fun _ => rfl
  | x :: W, h, hW, hp => by
    obtain ⟨p1, p2⟩ := List.pairwise_cons.1 hp
    obtain ⟨hx, old, ho⟩ := hW x List.mem_cons_self
    obtain ⟨a, ha, hpp⟩ := getP_some ho
    simp only [setsOf, List.map_cons, Up.apps]
    have c1 : hext ((Up.set (pl.cell x.1.1 x.1.2) x.2).app (Up.apps (setsOf pl (W.map fun x => (x.1, AV.un))) ((Up.set (pl.cell x.1.1 x.1.2) .un).app h))) (Up.apps (setsOf pl (W.map fun x => (x.1, AV.un))) ((Up.set (pl.cell x.1.1 x.1.2) x.2).app ((Up.set (pl.cell x.1.1 x.1.2) .un).app h))) := by
      refine apps_comm1 (io := 0) (by simp [upOk, hx, Pl.cell]) fun v hv => ?_
      simp only [setsOf, List.map_map, List.mem_map] at hv
      obtain ⟨y, hy, rfl⟩ := hv
      refine ⟨by simp [upOk, nonAgg, Pl.cell], ?_⟩
      have hne := p1 y hy
      simp only [Function.comp, Up.meets, Up.pl, Bool.or_eq_false_iff]
      exact ⟨cells_apart hne, cells_apart fun e => hne e.symm⟩
    have c2 : hext ((Up.set (pl.cell x.1.1 x.1.2) x.2).app ((Up.set (pl.cell x.1.1 x.1.2) .un).app h)) ((Up.set (pl.cell x.1.1 x.1.2) x.2).app h) := by
      intro r
      by_cases e : r = (Up.set (pl.cell x.1.1 x.1.2) x.2).pl.r
      · have e' : r = (Up.set (pl.cell x.1.1 x.1.2) AV.un).pl.r := e
        have e2 : r = (pl.cell x.1.1 x.1.2).r := e
        rw [hget_app, if_pos e, hget_app, if_pos e', hget_app, if_pos e, e2, ha]
        simp only [Option.map_some, Option.some.injEq]
        exact setT_same hpp rfl hx
      · have e' : ¬ r = (Up.set (pl.cell x.1.1 x.1.2) AV.un).pl.r := e
        rw [hget_app, if_neg e, hget_app, if_neg e', hget_app, if_neg e]
    have ih := lay_twice (W := W) (h := (Up.set (pl.cell x.1.1 x.1.2) x.2).app h) (fun y hy => by
      obtain ⟨b1, b2⟩ := hW y (List.mem_cons_of_mem _ hy)
      exact ⟨b1, getP_write (par := pl) hx ho b2⟩) p2
    intro r
    refine (apps_ext _ c1 r).trans ?_
    exact (apps_ext _ (apps_ext _ c2) r).trans (ih r)
def num {α : Type} : Nat → List α → List (α × Nat)
  | _, [] => []
  | k, a :: l => (a, k) :: num (k + 1) l
theorem num_fst {α : Type} : ∀ (l : List α) (k : Nat), (num k l).map (·.1) = l
  | [], _ => rfl
  | a :: l, k => by simp [num, num_fst l (k + 1)]
theorem num_ge {α : Type} : ∀ {l : List α} {k : Nat}, (∀ x ∈ num k l, k ≤ x.2 ∧ x.2 < k + l.length ∧ x.1 ∈ l) ∧ (num k l).Pairwise fun x y => x.2 ≠ y.2
  | [], k => ⟨fun x hx => (List.not_mem_nil hx).elim, .nil⟩
  | a :: l, k => by
    obtain ⟨h1, h2⟩ := num_ge (l := l) (k := k + 1)
    refine ⟨fun x hx => ?_, List.pairwise_cons.2 ⟨fun y hy => ?_, h2⟩⟩
    · rcases List.mem_cons.1 hx with rfl | hx
      · exact ⟨Nat.le_refl _, by simp, List.mem_cons_self⟩
      · have := h1 x hx; exact ⟨by omega, by simp only [List.length_cons]; omega, List.mem_cons_of_mem _ this.2.2⟩
    · have := h1 y hy; simp only; omega
theorem num_pw {α : Type} {p : α → α → Prop} {l : List α} {k : Nat} (h : l.Pairwise p) : (num k l).Pairwise fun x y => p x.1 y.1 := by
  have := num_fst l k
  rw [← this, List.pairwise_map] at h
  exact h
theorem num_ex {α : Type} {l : List α} {k : Nat} {a : α} (h : a ∈ l) : ∃ x ∈ num k l, x.1 = a := by
  have := num_fst l k
  rw [← this, List.mem_map] at h
  exact h
end Go.Am
end
section
namespace Go.Am
open Go.RowKit Go.Lib
variable {P : Program} {cx : Cx} {B B0 B1 B2 : Base} {K : Nat → Prop} {g g' g0 g1 g2 g3 : Gh} {R R' R0 R1 R2 : Nat → Value} {s : St} {h h' h0 h1 h2 h3 : Hp} {w w' : World} {F F' : Fz}
theorem noLent_offL : ∀ {l : List AV} {k : Nat}, noLentL l = true → ∀ p ∈ offL k l, noLent p.2 = true
  | [], _, _, p, hp => (List.not_mem_nil hp).elim
  | a :: l, k, h, p, hp => by
    simp only [noLentL, Bool.and_eq_true] at h
    simp only [offL] at hp
    split at hp
    · rcases List.mem_cons.1 hp with rfl | hp
      · exact h.1
      · exact noLent_offL h.2 p hp
    · exact noLent_offL h.2 p hp
theorem noLent_off1 {a : AV} {k : Nat} (h : noLent a = true) : ∀ p ∈ off1 k a, noLent p.2 = true := by
  have h1 : noLentL [a] = true := by simp [noLentL, h]
  cases a with
  | agg cs => exact noLent_offL h
  | _ => exact noLent_offL h1
theorem noLent_offT : ∀ {l : List AV} {k : Nat}, noLentL l = true → ∀ p ∈ offT k l, noLent p.2 = true
  | [], _, _, p, hp => (List.not_mem_nil hp).elim
  | a :: l, k, h, p, hp => by
    simp only [noLentL, Bool.and_eq_true] at h
    simp only [offT] at hp
    rcases List.mem_append.1 hp with hp | hp
    · exact noLent_off1 h.1 p hp
    · exact noLent_offT h.2 p hp
theorem noLent_offs {a : AV} (h : noLent a = true) : ∀ p ∈ offs a, noLent p.2 = true := by
  cases a with
  | tup vs => exact noLent_offT h
  | _ => exact noLent_off1 h
theorem IoOuts.mem {h1 : Hp} : ∀ {io : List IoSpec} {os : List AV}, IoOuts g0 g1 h1 io os → ∀ t ∈ io, ∃ o ∈ os, hget h1 t.κ = some o ∧ ∀ n, g0 t.κ [] = some n → g1 t.κ [] = some n
  | _, _, .nil, t, ht => (List.not_mem_nil ht).elim
  | _, _, .cons a b c tl, t, ht => by
    rcases List.mem_cons.1 ht with rfl | ht
    · exact ⟨_, List.mem_cons_self, a, b⟩
    · obtain ⟨o, ho, x⟩ := tl.mem t ht; exact ⟨o, List.mem_cons_of_mem _ ho, x⟩
theorem IoOuts.mv {h1 h1' : Hp} {g1' : Gh} : ∀ {io : List IoSpec} {os : List AV}, IoOuts g0 g1 h1 io os → (∀ t ∈ io, hget h1' t.κ = hget h1 t.κ ∧ g1' t.κ = g1 t.κ) → IoOuts g0 g1' h1' io os
  | _, _, .nil, _ => .nil
  | _, _, .cons a b c tl, h => by
    obtain ⟨e1, e2⟩ := h _ List.mem_cons_self
    exact .cons (e1.trans a) (fun n hn => by rw [e2]; exact b n hn) c (tl.mv fun t ht => h t (List.mem_cons_of_mem _ ht))
theorem settle (H1 : RM B1 (fun _ => False) g1 R1 h1 w') {res : AV} {v : Value} {N1 : Nat} (hRV : RV (mkF B1 g1 w') R1 h1 N1 res v) {io : List IoSpec} {outs : List AV} (hIO : IoOuts g0 g1 h1 io outs) {lent : Bool} (hl : lent = true → noLent res = true ∧ noLentL outs = true) :
    ∃ B2 g1' h1', RM B2 (fun _ => False) g1' R1 h1' w' ∧ B2.w0 = B1.w0 ∧ B2.own = B1.own ∧ B2.A0 = B1.A0 ∧ (lent = true → B2.A = B1.A0) ∧ (lent = false → B2.A = B1.A) ∧ RV (mkF B2 g1' w') R1 h1' N1 res v ∧ IoOuts g0 g1' h1' io outs := by
  classical
  let S : Nat → Prop := fun r => (∃ p ∈ offs res, r = N1 + p.1) ∨ ∃ t ∈ io, r = t.κ
  obtain ⟨g1', a1, a2, a3, a4⟩ := drops_ok ((h1.map (·.1)).filter fun r => !(decide (S r))) H1
  have hS : ∀ r, S r → r ∉ (h1.map (·.1)).filter fun r => !(decide (S r)) := by
    intro r hr hm
    have := (List.mem_filter.1 hm).2
    simp [hr] at this
  have hS' : ∀ r a, hget (((h1.map (·.1)).filter fun r => !(decide (S r))).foldl hdel h1) r = some a → S r ∧ hget h1 r = some a := by
    intro r a ha
    rw [a4 r] at ha
    split at ha
    · cases ha
    · rename_i hm
      refine ⟨Classical.byContradiction fun hn => hm (List.mem_filter.2 ⟨List.mem_map.2 ⟨(r, a), hget_mem ha, rfl⟩, by simpa using hn⟩), ha⟩
  have hrv : RV (mkF B1 g1' w') R1 (((h1.map (·.1)).filter fun r => !(decide (S r))).foldl hdel h1) N1 res v := hRV.mv (le_sub a2) fun x hx hh => by
    rw [a4, if_neg (hS _ (.inl ⟨x, hx, rfl⟩))]; exact ⟨hh, rfl⟩
  have hout : IoOuts g0 g1' (((h1.map (·.1)).filter fun r => !(decide (S r))).foldl hdel h1) io outs := hIO.mv fun t ht => by
    have := hS t.κ (.inr ⟨t, ht, rfl⟩)
    exact ⟨by rw [a4, if_neg this], a3 _ this⟩
  cases lent with
  | false => exact ⟨B1, g1', _, a1, rfl, rfl, rfl, fun h => (by cases h), fun _ => rfl, hrv, hout⟩
  | true =>
    obtain ⟨l1, l2⟩ := hl rfl
    refine ⟨allB B1, g1', _, a1.unlent fun r a ha => ?_, rfl, rfl, rfl, fun _ => rfl, fun h => (by cases h), RV.unlent (F := mkF B1 g1' w') (F' := mkF (allB B1) g1' w') (fun _ _ _ h => h) (fun _ _ h => h) l1 hrv, hout⟩
    obtain ⟨b1, b2⟩ := hS' r a ha
    rcases b1 with ⟨p, hp, rfl⟩ | ⟨t, ht, rfl⟩
    · have := (hRV.roots p hp).1
      rw [b2] at this
      cases this
      exact noLent_offs l1 p hp
    · obtain ⟨o, ho, e, _⟩ := hIO.mem t ht
      rw [b2] at e; cases e
      exact noLentL_mem l2 ho
/-- The owned cells of a call, in what is left of the caller's places. -/
theorem own_rest (H3 : RM B K g3 R2 h3 w) {mv : List (Nat × AV × Nat)} {io : List IoSpec} (hsig : ∀ κ N, sigM mv κ = some N → ∃ m ∈ mv, m.1 = κ ∧ m.2.2 = N) (hrow : ∀ t ∈ io, RowV g3 h3 t.pl t.n t.nu t.μ t.a)
    {b o : Nat} (hx : ownC g3 (sigM mv) (iot g3 io) b o) {r : Nat} {p : List (Nat × Nat)} {n : Nd} (hr : ∀ m ∈ mv, m.2.2 ≠ r) (hn : g3 r p = some n) (hcut : ∀ t ∈ io, ∀ tt t', t.μ tt = some t' → (t.pl.cell t'.1 t'.2).pre ⟨r, p⟩ = false) (hb : n.has b o) :
    ∃ t ∈ io, r = t.pl.r ∧ p = t.pl.p ∧ t.nu.has b o := by
  obtain ⟨κ, q, m, h1, h2⟩ := hx
  rcases calG_cases h1 with ⟨N, a1, a2⟩ | ⟨_, t', a2, _, a4⟩
  · exfalso
    obtain ⟨m', hm', _, e⟩ := hsig κ N a1
    exact H3.disj _ _ _ _ _ _ hn a2 (by intro e2; simp only [Prod.mk.injEq] at e2; exact hr m' hm' (e.trans e2.1.symm)) b o hb h2
  · unfold iot at a2
    cases hh : io.head? with
    | none => rw [hh] at a2; cases a2
    | some t =>
      rw [hh] at a2
      simp only [Option.map_some, Option.some.injEq] at a2
      subst a2
      have ht := List.mem_of_head? hh
      have V := hrow t ht
      cases q with
      | nil =>
        simp only [ioG, Option.some.injEq] at a4
        subst a4
        have hn3 : t.n.has b o := by
          obtain ⟨c1, c2⟩ := h2
          have := V.sub o ⟨rfl, c2⟩
          exact ⟨V.b.symm.trans c1, this.2⟩
        by_cases e : (r, p) = (t.pl.r, t.pl.p)
        · simp only [Prod.mk.injEq] at e
          exact ⟨t, ht, e.1, e.2, h2⟩
        · exact (H3.disj _ _ _ _ _ _ hn V.at_ e b o hb hn3).elim
      | cons tt q =>
        exfalso
        simp only [ioG] at a4
        cases hμ : t.μ tt with
        | none => rw [hμ] at a4; cases a4
        | some t' =>
          rw [hμ] at a4
          refine H3.disj _ _ _ _ _ _ hn a4 ?_ b o hb h2
          intro e
          simp only [Prod.mk.injEq] at e
          have := hcut t ht tt t' hμ
          rw [e.1, e.2] at this
          simp only [Pl.pre, Pl.cell, nbT, Bool.true_and] at this
          rw [pre_iff.2 ⟨q, by simp⟩] at this; cases this
theorem io_cells {io : List IoSpec} {outs : List AV} {ius : List Up} (H1 : RM B2 (fun _ => False) g1 R1 h1 w') (hio : io.length ≤ 1) (hok : ∀ t ∈ io, t.ok s B g w) (hIO : IoOuts g0 g1 h1 io outs) (hiu : ioUps (io.map IoSpec.iop) outs = some ius) :
    ∃ (pl : Pl) (W : List ((Nat × Nat) × ((Nat × Nat) × AV))), ius = setsOf pl (W.map (·.2)) ∧ (∀ x ∈ W, ∃ t ∈ io, t.pl = pl ∧ ∃ o, hget h1 t.κ = some o ∧ t.μ x.1 = some x.2.1 ∧ step1 o x.1 = some x.2.2) ∧
      (∀ t ∈ io, t.pl = pl ∧ ∀ tt b, t.μ tt = some b → ∃ x ∈ W, x.2.1 = b) ∧ W.Pairwise (fun x y => x.2.1 ≠ y.2.1) := by
  match io, hio with
  | [], _ =>
    cases hIO
    simp only [List.map_nil, ioUps, Option.some.injEq] at hiu
    subst hiu
    exact ⟨⟨0, []⟩, [], rfl, fun x hx => (List.not_mem_nil hx).elim, fun x hx => (List.not_mem_nil hx).elim, .nil⟩
  | [t], _ =>
    cases hIO with
    | cons a b c tl =>
      cases tl
      rename_i o
      have ht := hok t (List.mem_singleton.2 rfl)
      obtain ⟨W, w1, w2, w3, w4⟩ := ioW ht hiu (fun sz es ho e he => by
        have := (H1.tree _ _ a).root
        rw [ho] at this
        obtain ⟨m, _, _, _, _, _, h6⟩ := this
        exact h6 e he)
      refine ⟨t.pl, W, w1, fun x hx => ⟨t, List.mem_singleton.2 rfl, rfl, o, a, w2 x hx⟩, fun t' ht' => ?_, w4⟩
      rw [List.mem_singleton] at ht'
      subst ht'
      refine ⟨rfl, fun tt b' hb => ?_⟩
      obtain ⟨c', hc⟩ := w3 tt b' hb
      exact ⟨_, hc, rfl⟩
end Go.Am
end
