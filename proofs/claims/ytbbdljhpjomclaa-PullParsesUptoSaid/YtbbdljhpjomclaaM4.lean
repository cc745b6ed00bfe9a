/- The texts Pull9, Pull10, Pull11, Am70, AmEx, AmExS, Ex5, Pull12, AmExL, PullC, Pull18, Pull19, Pull20, AmOpen, AmCall, Pull21 of this proof. -/
import Derived.Carry
import Derived.ChangeArms
import Derived.ChangeShapes
import Derived.Test.YtbbdljhpjomclaaM3
section
namespace Go.Am.Pull
open Go Go.Proofs Go.Am
set_option maxRecDepth 100000
set_option maxHeartbeats 4000000
variable {O:List Ent}
def ndP (b:Bool) (n:Int) (kids:List AV):AV:=.agg [vi n,vi 0,cond b (.fz 0 3 kids) (.fz 1 0 [])]
theorem ndP_tree (b:Bool) (n:Int) (l:List AV) (h:l.all isTree=true):isTree (ndP b n l)=true:=by
 cases b
 ·rfl
 ·exact tree_nd h
noncomputable def fn58:FnS:=(mkA Try.f58 ⟨1125900175278579,[3,0],false,[]⟩).getD ⟨.skip,0,[],[],0,[],false,[]⟩
theorem F58:cx.F 58=some fn58:=by kernel_rfl
theorem red_q1 (hO:∀e∈O,e.f≠58) (hO2:∀e∈O,e.f≠57) (hO3:∀e∈O,e.f≠37) {g:Plain} {t:Table} (hok:Ok g t) {st:List Int} {ts:List AV} {tr:List Move} {n ct:Int} (hn0:0≤n) (hn:n<g.prods.l.length) (hst:st.length=ts.length+1) (hs:∀s∈st,0≤s∧s<t.moves.l.length) (ht:ts.all isTree=true) (hsm:ts.length<2 ^ 39):Ans cx O 58 [.bx ((PS.mk st ts true tr ct).qf g t),vi n] (match redS ndP g t n ⟨st,ts,true,tr,ct⟩with|none=>(vi 170,[.bx ((PS.mk st ts true tr ct).qf g t)])|some q=>(vi 0,[.bx (q.qf g t)])):=by
 obtain⟨trc,etr⟩:∃x,x=oc 2 (!tr.isEmpty) (tr.map Move.av):=⟨_,rfl⟩
 have ntr:noLk trc=true:=etr▸noLk_oc noLk_moves
 have nst:(st.map vi).all noLk=true:=noLk_ints
 have nts:ts.all noLk=true:=noLk_tree ht
 show Ans cx O 58 [.bx (qcv g t (.ow 1 (st.map vi)) (.ow 3 ts) (oc 2 (!tr.isEmpty) (tr.map Move.av)) (vi ct)),vi n] _
 rw[←etr]
 have lmst:(st.map vi).length=st.length:=List.length_map _
 refine ans_q [1,0] (fn:=fn58) F58 (orc_none hO) ?_
 show Wq cx O 1125900175278579 1 [] _ ⟨[(1,(vi n)),(0,(.ptr ⟨0,[]⟩ 0 0))],[(0,.bx (qcv g t (.ow 1 (st.map vi)) (.ow 3 ts) trc (vi ct)))],[],false⟩ _
 apply Wq.seq
 refine Wq.rg [4,1,0] ?_
 refine .p (vi 0) ?_
 refine .done ⟨[(4,(vi 0)),(1,(vi n)),(0,(.ptr ⟨0,[]⟩ 0 0))],[(0,.bx (qcv g t (.ow 1 (st.map vi)) (.ow 3 ts) trc (vi ct)))],[],false⟩ ?_
 apply Wq.seq
 refine Wq.rg [5,1,0] ?_
 refine .p (.ptr ⟨0,[]⟩ 0 0) ?_
 refine .r (.ptr ⟨0,[]⟩ 0 0) ?_
 refine .r (.ptr ⟨0,[]⟩ 0 2) ?_
 refine .r (.ptr ⟨0,[]⟩ 0 5) ?_
 refine .r (Sl.av Prod.av g.prods) ?_
 refine .p (vi n) ?_
 obtain⟨r15,e15⟩:∃x:_,x=(g.prods.l.getD n.toNat default):=⟨_,rfl⟩
 have m15:=getD_mem e15 (by omega) (by omega)
 have q15:=hok.small.2.2.2.2 r15 m15
 have l15:=hok.left r15 m15
 refine .po (fun _=>op_ix e15 (by omega) (by omega) hok.prods) (.fp _ (Prod.av r15) 0) rfl ?_
 refine .p (Prod.av r15) ?_
 refine .e (.ptr ⟨5,[]⟩ 0 0) [(0,.bx (qcv g t (.ow 1 (st.map vi)) (.ow 3 ts) trc (vi ct))),(5,.bx (.agg [(vi 0),(.fz 1 0 []),(vi 0),(vi 0),(vi 0),(vs ByteArray.empty),(.fz 1 0 [])]))] ?_
 refine .sq [(0,.bx (qcv g t (.ow 1 (st.map vi)) (.ow 3 ts) trc (vi ct))),(5,.bx (Prod.av r15))] ?_
 refine .done ⟨[(5,(.ptr ⟨5,[]⟩ 0 0)),(1,(vi n)),(0,(.ptr ⟨0,[]⟩ 0 0))],[(0,.bx (qcv g t (.ow 1 (st.map vi)) (.ow 3 ts) trc (vi ct))),(5,.bx (Prod.av r15))],[],false⟩ ?_
 apply Wq.seq
 refine Wq.rg [6,5,1,0] ?_
 refine .p (.ptr ⟨0,[]⟩ 0 0) ?_
 iterate 3 (refine .r (.ptr ⟨0,[]⟩ 0 0) ?_)
 refine .r (.rf _ _ _ _) ?_
 obtain⟨x22,e22⟩:∃x:Int,x=(st.length:Int):=⟨_,rfl⟩
 refine .rv _ (vi x22) (ln e22) ?_
 refine .r (.ptr ⟨5,[]⟩ 0 1) ?_
 refine .r (Sl.av vi r15.right) ?_
 obtain⟨x25,e25⟩:∃x:Int,x=(r15.right.l.length:Int):=⟨_,rfl⟩
 refine .pv _ (vi x25) (ln e25) ?_
 obtain⟨x26,e26⟩:∃x:Int,x=(x22 - x25):=⟨_,rfl⟩
 refine .pv _ (vi x26) (wrE e26 (by omega) (by omega)) ?_
 refine .p (vi x26) ?_
 refine .done ⟨[(6,(vi x26)),(5,(.ptr ⟨5,[]⟩ 0 0)),(1,(vi n)),(0,(.ptr ⟨0,[]⟩ 0 0))],[(0,.bx (qcv g t (.ow 1 (st.map vi)) (.ow 3 ts) trc (vi ct))),(5,.bx (Prod.av r15))],[],false⟩ ?_
 apply Wq.seq
 apply Wq.seq
 refine Wq.rg [28,6,5,1,0] ?_
 refine .p (vi x26) ?_
 refine .p (.bool (decide (x26<1))) ?_
 refine .done ⟨[(28,(.bool (decide (x26<1)))),(6,(vi x26)),(5,(.ptr ⟨5,[]⟩ 0 0)),(1,(vi n)),(0,(.ptr ⟨0,[]⟩ 0 0))],[(0,.bx (qcv g t (.ow 1 (st.map vi)) (.ow 3 ts) trc (vi ct))),(5,.bx (Prod.av r15))],[],false⟩ ?_
 refine Wq.cond rfl (fun hx=>?_) (fun hx=>?_)
 ·have hx:=of_decide_eq_true hx
  apply Wq.seq
  refine Wq.rg [4] ?_
  refine .p (vi 170) ?_
  refine .done ⟨[(4,(vi 170))],[(0,.bx (qcv g t (.ow 1 (st.map vi)) (.ow 3 ts) trc (vi ct))),(5,.bx (Prod.av r15))],[],false⟩ ?_
  refine Wq.ret ?_
  exact Aq.mk rfl (by
   have ek:lkP g n=r15:=e15.symm
   rw[show redS ndP g t n ⟨st,ts,true,tr,ct⟩=none from if_pos (by show st.length<(lkP g n).right.l.length+1;rw[ek];omega)]
   subst etr;rfl)
 ·have hx:=of_decide_eq_false hx
  refine Wq.skip ?_
  apply Wq.seq
  refine Wq.rg [7,6,1,0] ?_
  refine .p (.ptr ⟨0,[]⟩ 0 0) ?_
  refine .r (.ptr ⟨0,[]⟩ 0 0) ?_
  refine .r (.ptr ⟨0,[]⟩ 0 7) ?_
  refine .r (.ptr ⟨0,[]⟩ 0 8) ?_
  refine .r (Sl.av (Sl.av vi) t.goto) ?_
  refine .p (.ptr ⟨0,[]⟩ 0 0) ?_
  iterate 3 (refine .r (.ptr ⟨0,[]⟩ 0 0) ?_)
  refine .r (.rf _ _ _ _) ?_
  refine .p (vi x26) ?_
  obtain⟨x40,e40⟩:∃x:Int,x=(x26 - 1):=⟨_,rfl⟩
  refine .pv _ (vi x40) (wrE e40 (by omega) (by omega)) ?_
  refine .ro (fun _=>op_idxr rfl rfl rfl rfl rfl (by first|omega|(simp;done)|(simp;omega)) (by first|omega|(simp;done)|(simp;omega)) rfl rfl) (.ptr _ _ _) rfl ?_
  obtain⟨x42,e42⟩:∃x:Int,x=(st.getD x40.toNat default):=⟨_,rfl⟩
  have b42:=hs x42 (getD_mem e42 (by omega) (by omega))
  have c42:=hok.len
  refine .ro (fun _=>op_ldr rfl rfl rfl rfl (map_getD0 (by omega) (by omega)) (fun _=>rfl) rfl rfl rfl rfl rfl) (vi x42) (congrArg vi e42.symm) ?_
  obtain⟨r43,e43⟩:∃x:_,x=(t.goto.l.getD x42.toNat default):=⟨_,rfl⟩
  have m43:=getD_mem e43 (by omega) (by omega)
  have g43:=(hok.grow r43 m43).2
  refine .po (fun _=>op_ix e43 (by omega) (by omega) hok.goto) (.fp _ ((Sl.av vi) r43) 0) rfl ?_
  refine .p (Sl.av vi r43) ?_
  refine .r (.ptr ⟨5,[]⟩ 0 0) ?_
  refine .r (vi r15.left) ?_
  obtain⟨r47,e47⟩:∃x:_,x=(r43.l.getD r15.left.toNat default):=⟨_,rfl⟩
  have m47:=getD_mem e47 (by omega) (by omega)
  refine .po (fun _=>op_ix e47 (by omega) (by omega) (hok.grow _ m43).1) (.fp _ (vi r47) 0) rfl ?_
  iterate 2 (refine .p (vi r47) ?_)
  refine .done ⟨[(7,(vi r47)),(6,(vi x26)),(1,(vi n)),(0,(.ptr ⟨0,[]⟩ 0 0))],[(0,.bx (qcv g t (.ow 1 (st.map vi)) (.ow 3 ts) trc (vi ct))),(5,.bx (Prod.av r15))],[],false⟩ ?_
  apply Wq.seq
  apply Wq.seq
  refine Wq.rg [50,7,6,1,0] ?_
  refine .p (vi r47) ?_
  refine .p (.bool (decide (r47<0))) ?_
  refine .done ⟨[(50,(.bool (decide (r47<0)))),(7,(vi r47)),(6,(vi x26)),(1,(vi n)),(0,(.ptr ⟨0,[]⟩ 0 0))],[(0,.bx (qcv g t (.ow 1 (st.map vi)) (.ow 3 ts) trc (vi ct))),(5,.bx (Prod.av r15))],[],false⟩ ?_
  refine Wq.cond rfl (fun hx=>?_) (fun hx=>?_)
  ·have hx:=of_decide_eq_true hx
   apply Wq.seq
   refine Wq.rg [4] ?_
   refine .p (vi 170) ?_
   refine .done ⟨[(4,(vi 170))],[(0,.bx (qcv g t (.ow 1 (st.map vi)) (.ow 3 ts) trc (vi ct))),(5,.bx (Prod.av r15))],[],false⟩ ?_
   refine Wq.ret ?_
   exact Aq.mk rfl (by
    have ek:lkP g n=r15:=e15.symm
    have el:lkG t (st.getD (st.length - r15.right.l.length - 1) 0) r15.left=r47:=by
     rw[e47,e43,e42,show x40.toNat=st.length - r15.right.l.length - 1 by omega];rfl
    rw[show redS ndP g t n ⟨st,ts,true,tr,ct⟩=none from by
     simp only[redS,ek,el]
     rw[if_neg (by omega),if_pos (by omega)]]
    subst etr;rfl)
  ·have hx:=of_decide_eq_false hx
   refine Wq.skip ?_
   apply Wq.seq
   obtain⟨x58,e58⟩:∃x:Int,x=(x26 - 1):=⟨_,rfl⟩
   have hfz:∀a∈ts,Fzn a:=fun a ha=>fzn_tree (List.all_eq_true.1 ht a ha)
   have ndr:(ts.drop x58.toNat).all noLk=true:=noLk_tree (drop_trees ht)
   refine Wq.jn (fun s=>s=⟨[(8,(.ptr ⟨8,[]⟩ 0 0)),(7,(vi r47)),(6,(vi x26)),(0,(.ptr ⟨0,[]⟩ 0 0))],[(0,.bx (qcv g t (.ow 1 (st.map vi)) (.ow 3 ts) trc (vi ct))),(5,.bx (Prod.av r15)),(8,.bx (.agg [vi n,vi 0,(.ow 3 (ts.drop x58.toNat))]))],[],false⟩) ?_ ?_
   ·refine Wq.rg [8,7,6,0] ?_
    refine .p (vi n) ?_
    refine .p (.ptr ⟨0,[]⟩ 0 0) ?_
    iterate 2 (refine .r (.ptr ⟨0,[]⟩ 0 0) ?_)
    refine .r (.ptr ⟨0,[]⟩ 0 1) ?_
    refine .r (.rf _ _ _ _) ?_
    refine .p (vi x26) ?_
    refine .pv _ (vi x58) (wrE e58 (by omega) (by omega)) ?_
    refine .ro (fun _=>op_slr rfl rfl rfl rfl rfl (bound_in (by omega) (by omega)) rfl rfl) (.rf _ _ _ _) rfl ?_
    refine .cl F37 rfl rfl (clone_q hO3 (es:=ts.drop x58.toNat) (by simp;omega)) (expArgs_cons (expArgCut (n:=x58.toNat) (es:=ts) rfl rfl (by omega) hfz) rfl rfl) rfl rfl rfl (.rf 3 ⟨62464,[]⟩ 0 (ts.drop x58.toNat).length) [(0,.bx (qcv g t (.ow 1 (st.map vi)) (.ow 3 ts) trc (vi ct))),(5,.bx (Prod.av r15)),(62464,.ow 3 (ts.drop x58.toNat))] ?_ (hl:=by show(true&& !(noLentL (ts.drop x58.toNat)&&true))=false;rw[noLentL_trees (drop_trees ht)];rfl)
    refine .p (.agg [vi n,vi 0,.rf 3 ⟨62464,[]⟩ 0 (ts.drop x58.toNat).length]) ?_
    refine .e (.ptr ⟨8,[]⟩ 0 0) [(0,.bx (qcv g t (.ow 1 (st.map vi)) (.ow 3 ts) trc (vi ct))),(5,.bx (Prod.av r15)),(8,.bx (.agg [vi 0,vi 0,.fz 1 0 []])),(62464,.ow 3 (ts.drop x58.toNat))] ?_
    refine .sq [(0,.bx (qcv g t (.ow 1 (st.map vi)) (.ow 3 ts) trc (vi ct))),(5,.bx (Prod.av r15)),(8,.bx (.agg [vi n,vi 0,.lk 62464 ((ts.drop x58.toNat).length+1)])),(62464,.ow 3 (ts.drop x58.toNat))] ?_
    refine .fin (fin_of (h1:=[(0,.bx (qcv g t (.ow 1 (st.map vi)) (.ow 3 ts) trc (vi ct))),(5,.bx (Prod.av r15)),(8,.bx (.agg [vi n,vi 0,.ow 3 _]))]) (resolve_skip rfl (resolve_skip rfl (resolve_lk rfl rfl rfl (Nat.le_refl _) rfl))) (by simp only[List.take_length];simp[noLkH,noLk,noLkL_all,noLk_qcv,noLk_prod,nst,nts,ntr,ndr]) rfl) ?_
    show(⟨[(8,(.ptr ⟨8,[]⟩ 0 0)),(7,(vi r47)),(6,(vi x26)),(0,(.ptr ⟨0,[]⟩ 0 0))],[(0,.bx (qcv g t (.ow 1 (st.map vi)) (.ow 3 ts) trc (vi ct))),(5,.bx (Prod.av r15)),(8,.bx (.agg [vi n,vi 0,.ow 3 _]))],[],false⟩:St)=_
    simp only[List.take_length]
   rintro s rfl
   apply Wq.seq
   obtain⟨x77,e77⟩:∃x:Int,x=(x26 - 1):=⟨_,rfl⟩
   refine Wq.jn (fun s=>s=⟨[(8,(.ptr ⟨8,[]⟩ 0 0)),(7,(vi r47)),(0,(.ptr ⟨0,[]⟩ 0 0))],[(0,.bx (qcv g t (.ow 1 ((st.take x26.toNat).map vi)) (.ow 3 (ts.take x77.toNat)) trc (vi ct))),(5,.bx (Prod.av r15)),(8,.bx (.agg [vi n,vi 0,(.ow 3 (ts.drop x58.toNat))]))],[],false⟩) ?_ ?_
   ·refine Wq.rg [8,7,0] ?_
    iterate 3 (refine .p (.ptr ⟨0,[]⟩ 0 0) ?_)
    iterate 3 (refine .r (.ptr ⟨0,[]⟩ 0 0) ?_)
    refine .r (.rf _ _ _ _) ?_
    refine .p (vi x26) ?_
    refine .ro (fun _=>op_slr rfl rfl rfl rfl (bound_in (by omega) (by omega)) rfl rfl rfl) (.rf _ _ _ _) rfl ?_
    refine .p (.ptr ⟨0,[]⟩ 0 0) ?_
    iterate 2 (refine .r (.ptr ⟨0,[]⟩ 0 0) ?_)
    refine .r (.ptr ⟨0,[]⟩ 0 1) ?_
    refine .r (.rf _ _ _ _) ?_
    refine .p (vi x26) ?_
    refine .pv _ (vi x77) (wrE e77 (by omega) (by omega)) ?_
    refine .ro (fun _=>op_slr rfl rfl rfl rfl (bound_in (by omega) (by omega)) rfl rfl rfl) (.rf _ _ _ _) rfl ?_
    iterate 3 (refine .r (.ptr ⟨0,[]⟩ 0 0) ?_)
    refine .so (fun _=>op_cut rfl rfl rfl rfl rfl rfl (by first|omega|(simp;done)|(simp;omega)) rfl rfl) [(0,.bx (qcv g t (.ow 1 _) (.ow 3 ts) trc (vi ct))),(5,.bx (Prod.av r15)),(8,.bx (.agg [vi n,vi 0,(.ow 3 (ts.drop x58.toNat))]))] rfl ?_
    iterate 2 (refine .r (.ptr ⟨0,[]⟩ 0 0) ?_)
    refine .r (.ptr ⟨0,[]⟩ 0 1) ?_
    refine .so (fun _=>op_cut rfl rfl rfl rfl rfl rfl (by first|omega|(simp;done)|(simp;omega)) rfl rfl) [(0,.bx (qcv g t (.ow 1 _) (.ow 3 _) trc (vi ct))),(5,.bx (Prod.av r15)),(8,.bx (.agg [vi n,vi 0,(.ow 3 (ts.drop x58.toNat))]))] rfl ?_
    refine .done ⟨[(8,(.ptr ⟨8,[]⟩ 0 0)),(7,(vi r47)),(0,(.ptr ⟨0,[]⟩ 0 0))],[(0,.bx (qcv g t (.ow 1 _) (.ow 3 _) trc (vi ct))),(5,.bx (Prod.av r15)),(8,.bx (.agg [vi n,vi 0,(.ow 3 (ts.drop x58.toNat))]))],[],false⟩ ?_
    show(⟨[(8,(.ptr ⟨8,[]⟩ 0 0)),(7,(vi r47)),(0,(.ptr ⟨0,[]⟩ 0 0))],[(0,.bx (qcv g t (.ow 1 _) (.ow 3 _) trc (vi ct))),(5,.bx (Prod.av r15)),(8,.bx (.agg [vi n,vi 0,(.ow 3 (ts.drop x58.toNat))]))],[],false⟩:St)=_
    simp[List.map_take]
   rintro s rfl
   apply Wq.seq
   refine Wq.rg [] ?_
   refine .p (.ptr ⟨0,[]⟩ 0 0) ?_
   iterate 2 (refine .r (.ptr ⟨0,[]⟩ 0 0) ?_)
   refine .p (vi r47) ?_
   refine .r (.agg [(vi n),(vi 0),_]) ?_
   have nst2:((st.take x26.toNat).map vi).all noLk=true:=noLk_ints
   have nts2:(ts.take x77.toNat).all noLk=true:=noLk_tree (take_trees ht)
   have hfz2:∀a∈ts.drop x58.toNat,Fzn a:=fun a ha=>hfz a (List.mem_of_mem_drop ha)
   have hp:Ans cx O 57 [.bx (.agg [.ow 1 ((st.take x26.toNat).map vi),(.ow 3 (ts.take x77.toNat))]),vi r47,.agg [vi n,vi 0,.fz 0 3 (ts.drop x58.toNat)]] (.tup [],[.bx (.agg [.ow 1 ((st.take x26.toNat++[r47]).map vi),(.ow 3 (ts.take x77.toNat++[.agg [vi n,vi 0,.fz 0 3 (ts.drop x58.toNat)]]))])]):=push_q hO2 (tb:=true) (tree_nd (drop_trees ht)) (by simp;omega) (by simp;omega) (take_trees ht) (fun h=>by cases h)
   refine .cl F57 rfl rfl hp (expArgs_cons rfl (expArgs_cons rfl (expArgs_cons (expGive (absorbE_agg (absorbL_cons rfl (absorbL_cons rfl (absorbL_cons (absorb_full rfl rfl rfl) rfl)))) (v:=.agg [vi n,vi 0,.fz 0 3 (ts.drop x58.toNat)]) (by simp[frz,frzL,frzL_id hfz2])) rfl rfl) rfl) rfl) rfl (show noLkL [.bx (.agg [.ow 1 ((st.take x26.toNat).map vi),(.ow 3 (ts.take x77.toNat))]),vi r47,.agg [vi n,vi 0,.fz 0 3 (ts.drop x58.toNat)]]=true by simp only[noLkL,noLk,noLkL_all,nst2,nts2,Bool.and_self]) (zip_ok rfl rfl) (.tup []) [(0,.bx (qcv g t (.ow 1 ((st.take x26.toNat++[r47]).map vi)) (.ow 3 (ts.take x77.toNat++[.agg [vi n,vi 0,.fz 0 3 (ts.drop x58.toNat)]])) trc (vi ct))),(5,.bx (Prod.av r15)),(8,.bx (.agg [vi n,vi 0,.un]))] ?_
   refine .fin (S':=⟨[],[(0,.bx (qcv g t (.ow 1 ((st.take x26.toNat++[r47]).map vi)) (.ow 3 (ts.take x77.toNat++[.agg [vi n,vi 0,.fz 0 3 (ts.drop x58.toNat)]])) trc (vi ct))),(5,.bx (Prod.av r15)),(8,.bx (.agg [vi n,vi 0,.un]))],[],false⟩) (fin_nl (nl_call (cs:=[.ow 1 ((st.take x26.toNat++[r47]).map vi),(.ow 3 (ts.take x77.toNat++[.agg [vi n,vi 0,.fz 0 3 (ts.drop x58.toNat)]]))]) rfl rfl (by rw[List.all_cons,List.all_cons,noLk,noLkL_all,noLk_ints,noLk,noLkL_all,List.all_append,nts2];rfl) rfl) (by kernel_rfl)) ?_
   apply Wq.seq
   refine Wq.rg [4] ?_
   refine .p (vi 0) ?_
   refine .done ⟨[(4,(vi 0))],[(0,.bx (qcv g t (.ow 1 ((st.take x26.toNat++[r47]).map vi)) (.ow 3 (ts.take x77.toNat++[.agg [vi n,vi 0,.fz 0 3 (ts.drop x58.toNat)]])) trc (vi ct))),(5,.bx (Prod.av r15)),(8,.bx (.agg [vi n,vi 0,.un]))],[],false⟩ ?_
   refine Wq.ret ?_
   exact Aq.mk rfl (by
     have ek:lkP g n=r15:=e15.symm
     have el:lkG t (st.getD (st.length - r15.right.l.length - 1) 0) r15.left=r47:=by
      rw[e47,e43,e42,show x40.toNat=st.length - r15.right.l.length - 1 by omega];rfl
     rw[show redS ndP g t n ⟨st,ts,true,tr,ct⟩=some (PS.push ⟨st.take x26.toNat,ts.take x77.toNat,true,tr,ct⟩ r47 (.agg [vi n,vi 0,.fz 0 3 (ts.drop x58.toNat)]))from by
      simp only[redS,ek,el]
      rw[if_neg (by omega),if_neg hx,show st.length - r15.right.l.length=x26.toNat by omega,show ts.length - r15.right.l.length=x77.toNat by omega,show x77.toNat=x58.toNat by omega];rfl]
     simp only[PS.qf,PS.push,←etr]
     rfl)
theorem red_q0 (hO:∀e∈O,e.f≠58) (hO2:∀e∈O,e.f≠57) (hO3:∀e∈O,e.f≠37) {g:Plain} {t:Table} (hok:Ok g t) {st:List Int} {tr:List Move} {n ct:Int} (hn0:0≤n) (hn:n<g.prods.l.length) (hst:st.length=1) (hs:∀s∈st,0≤s∧s<t.moves.l.length):Ans cx O 58 [.bx ((PS.mk st [] false tr ct).qf g t),vi n] (match redS ndP g t n ⟨st,[],false,tr,ct⟩with|none=>(vi 170,[.bx ((PS.mk st [] false tr ct).qf g t)])|some q=>(vi 0,[.bx (q.qf g t)])):=by
 obtain⟨trc,etr⟩:∃x,x=oc 2 (!tr.isEmpty) (tr.map Move.av):=⟨_,rfl⟩
 have ntr:noLk trc=true:=etr▸noLk_oc noLk_moves
 have nst:(st.map vi).all noLk=true:=noLk_ints
 show Ans cx O 58 [.bx (qcv g t (.ow 1 (st.map vi)) (.fz 1 0 []) (oc 2 (!tr.isEmpty) (tr.map Move.av)) (vi ct)),vi n] _
 rw[←etr]
 have lmst:(st.map vi).length=st.length:=List.length_map _
 refine ans_q [1,0] (fn:=fn58) F58 (orc_none hO) ?_
 show Wq cx O 1125900175278579 1 [] _ ⟨[(1,(vi n)),(0,(.ptr ⟨0,[]⟩ 0 0))],[(0,.bx (qcv g t (.ow 1 (st.map vi)) (.fz 1 0 []) trc (vi ct)))],[],false⟩ _
 apply Wq.seq
 refine Wq.rg [4,1,0] ?_
 refine .p (vi 0) ?_
 refine .done ⟨[(4,(vi 0)),(1,(vi n)),(0,(.ptr ⟨0,[]⟩ 0 0))],[(0,.bx (qcv g t (.ow 1 (st.map vi)) (.fz 1 0 []) trc (vi ct)))],[],false⟩ ?_
 apply Wq.seq
 refine Wq.rg [5,1,0] ?_
 refine .p (.ptr ⟨0,[]⟩ 0 0) ?_
 refine .r (.ptr ⟨0,[]⟩ 0 0) ?_
 refine .r (.ptr ⟨0,[]⟩ 0 2) ?_
 refine .r (.ptr ⟨0,[]⟩ 0 5) ?_
 refine .r (Sl.av Prod.av g.prods) ?_
 refine .p (vi n) ?_
 obtain⟨r15,e15⟩:∃x:_,x=(g.prods.l.getD n.toNat default):=⟨_,rfl⟩
 have m15:=getD_mem e15 (by omega) (by omega)
 have q15:=hok.small.2.2.2.2 r15 m15
 have l15:=hok.left r15 m15
 refine .po (fun _=>op_ix e15 (by omega) (by omega) hok.prods) (.fp _ (Prod.av r15) 0) rfl ?_
 refine .p (Prod.av r15) ?_
 refine .e (.ptr ⟨5,[]⟩ 0 0) [(0,.bx (qcv g t (.ow 1 (st.map vi)) (.fz 1 0 []) trc (vi ct))),(5,.bx (.agg [(vi 0),(.fz 1 0 []),(vi 0),(vi 0),(vi 0),(vs ByteArray.empty),(.fz 1 0 [])]))] ?_
 refine .sq [(0,.bx (qcv g t (.ow 1 (st.map vi)) (.fz 1 0 []) trc (vi ct))),(5,.bx (Prod.av r15))] ?_
 refine .done ⟨[(5,(.ptr ⟨5,[]⟩ 0 0)),(1,(vi n)),(0,(.ptr ⟨0,[]⟩ 0 0))],[(0,.bx (qcv g t (.ow 1 (st.map vi)) (.fz 1 0 []) trc (vi ct))),(5,.bx (Prod.av r15))],[],false⟩ ?_
 apply Wq.seq
 refine Wq.rg [6,5,1,0] ?_
 refine .p (.ptr ⟨0,[]⟩ 0 0) ?_
 iterate 3 (refine .r (.ptr ⟨0,[]⟩ 0 0) ?_)
 refine .r (.rf _ _ _ _) ?_
 obtain⟨x22,e22⟩:∃x:Int,x=(st.length:Int):=⟨_,rfl⟩
 refine .rv _ (vi x22) (ln e22) ?_
 refine .r (.ptr ⟨5,[]⟩ 0 1) ?_
 refine .r (Sl.av vi r15.right) ?_
 obtain⟨x25,e25⟩:∃x:Int,x=(r15.right.l.length:Int):=⟨_,rfl⟩
 refine .pv _ (vi x25) (ln e25) ?_
 obtain⟨x26,e26⟩:∃x:Int,x=(x22 - x25):=⟨_,rfl⟩
 refine .pv _ (vi x26) (wrE e26 (by omega) (by omega)) ?_
 refine .p (vi x26) ?_
 refine .done ⟨[(6,(vi x26)),(5,(.ptr ⟨5,[]⟩ 0 0)),(1,(vi n)),(0,(.ptr ⟨0,[]⟩ 0 0))],[(0,.bx (qcv g t (.ow 1 (st.map vi)) (.fz 1 0 []) trc (vi ct))),(5,.bx (Prod.av r15))],[],false⟩ ?_
 apply Wq.seq
 apply Wq.seq
 refine Wq.rg [28,6,5,1,0] ?_
 refine .p (vi x26) ?_
 refine .p (.bool (decide (x26<1))) ?_
 refine .done ⟨[(28,(.bool (decide (x26<1)))),(6,(vi x26)),(5,(.ptr ⟨5,[]⟩ 0 0)),(1,(vi n)),(0,(.ptr ⟨0,[]⟩ 0 0))],[(0,.bx (qcv g t (.ow 1 (st.map vi)) (.fz 1 0 []) trc (vi ct))),(5,.bx (Prod.av r15))],[],false⟩ ?_
 refine Wq.cond rfl (fun hx=>?_) (fun hx=>?_)
 ·have hx:=of_decide_eq_true hx
  apply Wq.seq
  refine Wq.rg [4] ?_
  refine .p (vi 170) ?_
  refine .done ⟨[(4,(vi 170))],[(0,.bx (qcv g t (.ow 1 (st.map vi)) (.fz 1 0 []) trc (vi ct))),(5,.bx (Prod.av r15))],[],false⟩ ?_
  refine Wq.ret ?_
  exact Aq.mk rfl (by
   have ek:lkP g n=r15:=e15.symm
   rw[show redS ndP g t n ⟨st,[],false,tr,ct⟩=none from if_pos (by show st.length<(lkP g n).right.l.length+1;rw[ek];omega)]
   subst etr;rfl)
 ·have hx:=of_decide_eq_false hx
  refine Wq.skip ?_
  apply Wq.seq
  refine Wq.rg [7,6,1,0] ?_
  refine .p (.ptr ⟨0,[]⟩ 0 0) ?_
  refine .r (.ptr ⟨0,[]⟩ 0 0) ?_
  refine .r (.ptr ⟨0,[]⟩ 0 7) ?_
  refine .r (.ptr ⟨0,[]⟩ 0 8) ?_
  refine .r (Sl.av (Sl.av vi) t.goto) ?_
  refine .p (.ptr ⟨0,[]⟩ 0 0) ?_
  iterate 3 (refine .r (.ptr ⟨0,[]⟩ 0 0) ?_)
  refine .r (.rf _ _ _ _) ?_
  refine .p (vi x26) ?_
  obtain⟨x40,e40⟩:∃x:Int,x=(x26 - 1):=⟨_,rfl⟩
  refine .pv _ (vi x40) (wrE e40 (by omega) (by omega)) ?_
  refine .ro (fun _=>op_idxr rfl rfl rfl rfl rfl (by first|omega|(simp;done)|(simp;omega)) (by first|omega|(simp;done)|(simp;omega)) rfl rfl) (.ptr _ _ _) rfl ?_
  obtain⟨x42,e42⟩:∃x:Int,x=(st.getD x40.toNat default):=⟨_,rfl⟩
  have b42:=hs x42 (getD_mem e42 (by omega) (by omega))
  have c42:=hok.len
  refine .ro (fun _=>op_ldr rfl rfl rfl rfl (map_getD0 (by omega) (by omega)) (fun _=>rfl) rfl rfl rfl rfl rfl) (vi x42) (congrArg vi e42.symm) ?_
  obtain⟨r43,e43⟩:∃x:_,x=(t.goto.l.getD x42.toNat default):=⟨_,rfl⟩
  have m43:=getD_mem e43 (by omega) (by omega)
  have g43:=(hok.grow r43 m43).2
  refine .po (fun _=>op_ix e43 (by omega) (by omega) hok.goto) (.fp _ ((Sl.av vi) r43) 0) rfl ?_
  refine .p (Sl.av vi r43) ?_
  refine .r (.ptr ⟨5,[]⟩ 0 0) ?_
  refine .r (vi r15.left) ?_
  obtain⟨r47,e47⟩:∃x:_,x=(r43.l.getD r15.left.toNat default):=⟨_,rfl⟩
  have m47:=getD_mem e47 (by omega) (by omega)
  refine .po (fun _=>op_ix e47 (by omega) (by omega) (hok.grow _ m43).1) (.fp _ (vi r47) 0) rfl ?_
  iterate 2 (refine .p (vi r47) ?_)
  refine .done ⟨[(7,(vi r47)),(6,(vi x26)),(1,(vi n)),(0,(.ptr ⟨0,[]⟩ 0 0))],[(0,.bx (qcv g t (.ow 1 (st.map vi)) (.fz 1 0 []) trc (vi ct))),(5,.bx (Prod.av r15))],[],false⟩ ?_
  apply Wq.seq
  apply Wq.seq
  refine Wq.rg [50,7,6,1,0] ?_
  refine .p (vi r47) ?_
  refine .p (.bool (decide (r47<0))) ?_
  refine .done ⟨[(50,(.bool (decide (r47<0)))),(7,(vi r47)),(6,(vi x26)),(1,(vi n)),(0,(.ptr ⟨0,[]⟩ 0 0))],[(0,.bx (qcv g t (.ow 1 (st.map vi)) (.fz 1 0 []) trc (vi ct))),(5,.bx (Prod.av r15))],[],false⟩ ?_
  refine Wq.cond rfl (fun hx=>?_) (fun hx=>?_)
  ·have hx:=of_decide_eq_true hx
   apply Wq.seq
   refine Wq.rg [4] ?_
   refine .p (vi 170) ?_
   refine .done ⟨[(4,(vi 170))],[(0,.bx (qcv g t (.ow 1 (st.map vi)) (.fz 1 0 []) trc (vi ct))),(5,.bx (Prod.av r15))],[],false⟩ ?_
   refine Wq.ret ?_
   exact Aq.mk rfl (by
    have ek:lkP g n=r15:=e15.symm
    have el:lkG t (st.getD (st.length - r15.right.l.length - 1) 0) r15.left=r47:=by
     rw[e47,e43,e42,show x40.toNat=st.length - r15.right.l.length - 1 by omega];rfl
    rw[show redS ndP g t n ⟨st,[],false,tr,ct⟩=none from by
     simp only[redS,ek,el]
     rw[if_neg (by omega),if_pos (by omega)]]
    subst etr;rfl)
  ·have hx:=of_decide_eq_false hx
   refine Wq.skip ?_
   apply Wq.seq
   obtain⟨x58,e58⟩:∃x:Int,x=(x26 - 1):=⟨_,rfl⟩
   refine Wq.jn (fun s=>s=⟨[(8,(.ptr ⟨8,[]⟩ 0 0)),(7,(vi r47)),(6,(vi x26)),(0,(.ptr ⟨0,[]⟩ 0 0))],[(0,.bx (qcv g t (.ow 1 (st.map vi)) (.fz 1 0 []) trc (vi ct))),(5,.bx (Prod.av r15)),(8,.bx (.agg [vi n,vi 0,(.fz 1 0 [])]))],[],false⟩) ?_ ?_
   ·refine Wq.rg [8,7,6,0] ?_
    refine .p (vi n) ?_
    refine .p (.ptr ⟨0,[]⟩ 0 0) ?_
    iterate 2 (refine .r (.ptr ⟨0,[]⟩ 0 0) ?_)
    refine .r (.ptr ⟨0,[]⟩ 0 1) ?_
    refine .r (.fz 1 0 []) ?_
    refine .p (vi x26) ?_
    refine .pv _ (vi x58) (wrE e58 (by omega) (by omega)) ?_
    refine .po (fun _=>op_sls rfl rfl rfl rfl rfl (bound_in (by omega) (by omega)) rfl) (.fz 1 0 []) (by simp) ?_
    refine .cl F37 rfl rfl (clone_n hO3) (expArgs_cons rfl rfl rfl) rfl rfl rfl (.fz 1 0 []) [(0,.bx (qcv g t (.ow 1 (st.map vi)) (.fz 1 0 []) trc (vi ct))),(5,.bx (Prod.av r15))] ?_
    refine .p (.agg [vi n,vi 0,.fz 1 0 []]) ?_
    refine .e (.ptr ⟨8,[]⟩ 0 0) [(0,.bx (qcv g t (.ow 1 (st.map vi)) (.fz 1 0 []) trc (vi ct))),(5,.bx (Prod.av r15)),(8,.bx (.agg [vi 0,vi 0,.fz 1 0 []]))] ?_
    refine .sq [(0,.bx (qcv g t (.ow 1 (st.map vi)) (.fz 1 0 []) trc (vi ct))),(5,.bx (Prod.av r15)),(8,.bx (.agg [vi n,vi 0,.fz 1 0 []]))] ?_
    refine .done ⟨[(8,(.ptr ⟨8,[]⟩ 0 0)),(7,(vi r47)),(6,(vi x26)),(0,(.ptr ⟨0,[]⟩ 0 0))],[(0,.bx (qcv g t (.ow 1 (st.map vi)) (.fz 1 0 []) trc (vi ct))),(5,.bx (Prod.av r15)),(8,.bx (.agg [vi n,vi 0,.fz 1 0 []]))],[],false⟩ ?_
    exact rfl
   rintro s rfl
   apply Wq.seq
   obtain⟨x77,e77⟩:∃x:Int,x=(x26 - 1):=⟨_,rfl⟩
   refine Wq.jn (fun s=>s=⟨[(8,(.ptr ⟨8,[]⟩ 0 0)),(7,(vi r47)),(0,(.ptr ⟨0,[]⟩ 0 0))],[(0,.bx (qcv g t (.ow 1 ((st.take x26.toNat).map vi)) (.fz 1 0 []) trc (vi ct))),(5,.bx (Prod.av r15)),(8,.bx (.agg [vi n,vi 0,(.fz 1 0 [])]))],[],false⟩) ?_ ?_
   ·refine Wq.rg [8,7,0] ?_
    iterate 3 (refine .p (.ptr ⟨0,[]⟩ 0 0) ?_)
    iterate 3 (refine .r (.ptr ⟨0,[]⟩ 0 0) ?_)
    refine .r (.rf _ _ _ _) ?_
    refine .p (vi x26) ?_
    refine .ro (fun _=>op_slr rfl rfl rfl rfl (bound_in (by omega) (by omega)) rfl rfl rfl) (.rf _ _ _ _) rfl ?_
    refine .p (.ptr ⟨0,[]⟩ 0 0) ?_
    iterate 2 (refine .r (.ptr ⟨0,[]⟩ 0 0) ?_)
    refine .r (.ptr ⟨0,[]⟩ 0 1) ?_
    refine .r (.fz 1 0 []) ?_
    refine .p (vi x26) ?_
    refine .pv _ (vi x77) (wrE e77 (by omega) (by omega)) ?_
    refine .po (fun _=>op_sls rfl rfl rfl rfl (bound_in (by omega) (by omega)) rfl rfl) (.fz 1 0 []) (by simp) ?_
    iterate 3 (refine .r (.ptr ⟨0,[]⟩ 0 0) ?_)
    refine .so (fun _=>op_cut rfl rfl rfl rfl rfl rfl (by first|omega|(simp;done)|(simp;omega)) rfl rfl) [(0,.bx (qcv g t (.ow 1 _) (.fz 1 0 []) trc (vi ct))),(5,.bx (Prod.av r15)),(8,.bx (.agg [vi n,vi 0,(.fz 1 0 [])]))] rfl ?_
    iterate 2 (refine .r (.ptr ⟨0,[]⟩ 0 0) ?_)
    refine .r (.ptr ⟨0,[]⟩ 0 1) ?_
    refine .s [(0,.bx (qcv g t (.ow 1 _) (.fz 1 0 []) trc (vi ct))),(5,.bx (Prod.av r15)),(8,.bx (.agg [vi n,vi 0,(.fz 1 0 [])]))] ?_
    refine .done ⟨[(8,(.ptr ⟨8,[]⟩ 0 0)),(7,(vi r47)),(0,(.ptr ⟨0,[]⟩ 0 0))],[(0,.bx (qcv g t (.ow 1 _) (.fz 1 0 []) trc (vi ct))),(5,.bx (Prod.av r15)),(8,.bx (.agg [vi n,vi 0,(.fz 1 0 [])]))],[],false⟩ ?_
    show(⟨[(8,(.ptr ⟨8,[]⟩ 0 0)),(7,(vi r47)),(0,(.ptr ⟨0,[]⟩ 0 0))],[(0,.bx (qcv g t (.ow 1 _) (.fz 1 0 []) trc (vi ct))),(5,.bx (Prod.av r15)),(8,.bx (.agg [vi n,vi 0,(.fz 1 0 [])]))],[],false⟩:St)=_
    simp[List.map_take]
   rintro s rfl
   apply Wq.seq
   refine Wq.rg [] ?_
   refine .p (.ptr ⟨0,[]⟩ 0 0) ?_
   iterate 2 (refine .r (.ptr ⟨0,[]⟩ 0 0) ?_)
   refine .p (vi r47) ?_
   refine .r (.agg [(vi n),(vi 0),_]) ?_
   have nst2:((st.take x26.toNat).map vi).all noLk=true:=noLk_ints
   have hp:Ans cx O 57 [.bx (.agg [.ow 1 ((st.take x26.toNat).map vi),(.fz 1 0 [])]),vi r47,.agg [vi n,vi 0,.fz 1 0 []]] (.tup [],[.bx (.agg [.ow 1 ((st.take x26.toNat++[r47]).map vi),(.ow 3 [.agg [vi n,vi 0,.fz 1 0 []]])])]):=push_q hO2 (ts:=[]) (tb:=false) rfl (by simp;omega) (by simp) rfl (fun _=>rfl)
   refine .cl F57 rfl rfl hp (expArgs_cons rfl (expArgs_cons rfl (expArgs_cons rfl rfl rfl) rfl) rfl) rfl (show noLkL [.bx (.agg [.ow 1 ((st.take x26.toNat).map vi),(.fz 1 0 [])]),vi r47,.agg [vi n,vi 0,.fz 1 0 []]]=true by simp only[noLkL,noLk,noLkL_all,nst2,Bool.and_self]) (zip_ok rfl rfl) (.tup []) [(0,.bx (qcv g t (.ow 1 ((st.take x26.toNat++[r47]).map vi)) (.ow 3 [.agg [vi n,vi 0,.fz 1 0 []]]) trc (vi ct))),(5,.bx (Prod.av r15)),(8,.bx (.agg [vi n,vi 0,.fz 1 0 []]))] ?_
   refine .fin (S':=⟨[],[(0,.bx (qcv g t (.ow 1 ((st.take x26.toNat++[r47]).map vi)) (.ow 3 [.agg [vi n,vi 0,.fz 1 0 []]]) trc (vi ct))),(5,.bx (Prod.av r15)),(8,.bx (.agg [vi n,vi 0,.fz 1 0 []]))],[],false⟩) (fin_nl (nl_call (cs:=[.ow 1 ((st.take x26.toNat++[r47]).map vi),(.ow 3 [.agg [vi n,vi 0,.fz 1 0 []]])]) rfl rfl (by rw[List.all_cons,List.all_cons,noLk,noLkL_all,noLk_ints,noLk,noLkL_all];rfl) rfl) (by kernel_rfl)) ?_
   apply Wq.seq
   refine Wq.rg [4] ?_
   refine .p (vi 0) ?_
   refine .done ⟨[(4,(vi 0))],[(0,.bx (qcv g t (.ow 1 ((st.take x26.toNat++[r47]).map vi)) (.ow 3 [.agg [vi n,vi 0,.fz 1 0 []]]) trc (vi ct))),(5,.bx (Prod.av r15)),(8,.bx (.agg [vi n,vi 0,.fz 1 0 []]))],[],false⟩ ?_
   refine Wq.ret ?_
   exact Aq.mk rfl (by
     have ek:lkP g n=r15:=e15.symm
     have el:lkG t (st.getD (st.length - r15.right.l.length - 1) 0) r15.left=r47:=by
      rw[e47,e43,e42,show x40.toNat=st.length - r15.right.l.length - 1 by omega];rfl
     rw[show redS ndP g t n ⟨st,[],false,tr,ct⟩=some (PS.push ⟨st.take x26.toNat,[],false,tr,ct⟩ r47 (.agg [vi n,vi 0,.fz 1 0 []]))from by
      simp only[redS,ek,el]
      rw[if_neg (by omega),if_neg hx,show st.length - r15.right.l.length=x26.toNat by omega,List.drop_nil,List.take_nil];rfl]
     simp only[PS.qf,PS.push,←etr]
     rfl)
theorem red_q (hO:∀e∈O,e.f≠58) (hO2:∀e∈O,e.f≠57) (hO3:∀e∈O,e.f≠37) {g:Plain} {t:Table} (hok:Ok g t) {p:PS} (hp:p.Fine t) {n:Int} (hn0:0≤n) (hn:n<g.prods.l.length):Ans cx O 58 [.bx (p.qf g t),vi n] (match redS ndP g t n p with|none=>(vi 170,[.bx (p.qf g t)])|some q=>(vi 0,[.bx (q.qf g t)])):=by
 obtain⟨st,ts,tb,tr,ct⟩:=p
 obtain⟨h1,h2,h3,h4,h5,h6,h7⟩:=hp
 simp only at h1 h2 h3 h4 h5 h6 h7
 cases tb with
 |true=>exact red_q1 hO hO2 hO3 hok hn0 hn h1 h2 h4 (by omega)
 |false=>
  obtain rfl:ts=[]:=h3 rfl
  exact red_q0 hO hO2 hO3 hok hn0 hn h1 h2
end Go.Am.Pull
end
section
namespace Go.Am.Pull
open Go Go.Proofs Go.Am
set_option maxRecDepth 100000
set_option maxHeartbeats 4000000
variable {O:List Ent}
def lf (i:Int):AV:=.agg [vi (-1),vi i,.fz 1 0 []]
theorem qf_tr {g:Plain} {t:Table} {st:List Int} {ts:List AV} {tb:Bool} {tr:List Move} {n:Int} (h:tr≠[]):PS.qf g t ⟨st,ts,tb,tr,n⟩=qcv g t (.ow 1 (st.map vi)) (oc 3 tb ts) (.ow 2 (tr.map Move.av)) (vi n):=by
 cases tr with
 |nil=>exact absurd rfl h
 |cons=>rfl
theorem qf_snoc {g:Plain} {t:Table} {st:List Int} {ts:List AV} {tb:Bool} {tr:List Move} {m:Move} {n:Int}:PS.qf g t ⟨st,ts,tb,tr++[m],n⟩=qcv g t (.ow 1 (st.map vi)) (oc 3 tb ts) (.ow 2 ((tr++[m]).map Move.av)) (vi n):=qf_tr (by simp)
theorem last_qf (hO:∀e∈O,e.f≠56) {g:Plain} {t:Table} {st:List Int} {a b c:AV} (h:st≠[]) (hl:st.length<2 ^ 60):Ans cx O 56 [.fp 2 (frz 2 (qcv g t (.ow 1 (st.map vi)) a b c)) 0] (vi (st.getD (st.length - 1) 0),[]):=by
 show Ans cx O 56 [.fp 2 (.agg (.fz 2 1 (frzL 2 (st.map vi))::frzL 2 [a,g.kinds.av vs,g.precs.av Prec.av,g.rules.av vs,g.prods.av Prod.av,vi g.start,t.moves.av (Sl.av Move.av),t.goto.av (Sl.av vi),b,c])) 0] _
 rw[frzL_ints]
 exact last_q hO h hl
noncomputable def fn35:FnS:=(mkA Try.f35 ⟨9930117051542186637832225735,[3,0,0],false,[]⟩).getD ⟨.skip,0,[],[],0,[],false,[]⟩
theorem F35:cx.F 35=some fn35:=by kernel_rfl
theorem take_q (hO:∀e∈O,e.f≠35) (hO5:∀e∈O,e.f≠58) (hO7:∀e∈O,e.f≠57) (hO3:∀e∈O,e.f≠37) (hO6:∀e∈O,e.f≠56) {g:Plain} {t:Table} (hok:Ok g t) {p:PS} {k at_:Int} (hk0:0≤k) (hk:k<g.kinds.l.length) (hp:p.Fine t):
  Ans cx O 35 [.bx (p.qf g t),vi k,vi at_] (match takeS ndP g t k (lf at_) p.fuel p with|(_,e,q)=>(vi e,[.bx (q.qf g t)])):=by
 refine ans_q [2,1,0] (fn:=fn35) F35 (orc_none hO) ?_
 show Wq cx O 9930117051542186637832225735 1 [] _ ⟨[(2,(vi at_)),(1,(vi k)),(0,(.ptr ⟨0,[]⟩ 0 0))],[(0,.bx (p.qf g t))],[],false⟩ _
 apply Wq.seq
 refine Wq.rg [6,2,1,0] ?_
 refine .p (vi 0) ?_
 refine .done ⟨[(6,(vi 0)),(2,(vi at_)),(1,(vi k)),(0,(.ptr ⟨0,[]⟩ 0 0))],[(0,.bx (p.qf g t))],[],false⟩ ?_
 refine Wq.block ?_
 refine Wq.weak [2,1,0] rfl ?_
 refine Wq.lp (fun m s=>∃(q:PS) (H7:Hp),m=q.fuel∧(H7=[]∨∃x,H7=[(7,x)])∧(q.Fine t∧takeS ndP g t k (lf at_) p.fuel p=takeS ndP g t k (lf at_) q.fuel q)∧s=⟨[(2,(vi at_)),(1,(vi k)),(0,(.ptr ⟨0,[]⟩ 0 0))],(0,.bx (q.qf g t))::H7,[],false⟩) ?_ ⟨p,[],rfl,.inl rfl,⟨hp,rfl⟩,rfl⟩
 rintro m s ⟨q,H7,rfl,hH,⟨hq,hi⟩,rfl⟩
 have hend:∀a b c,oneS ndP g t k (lf at_) q=(a,b,c)→(a> 0∨b≠0)→takeS ndP g t k (lf at_) p.fuel p=(a,b,c):=by
  intro a b c ho hab
  obtain⟨f,hf⟩:∃f,q.fuel=f+1:=⟨q.fuel - 1,by have:=hq.n;unfold PS.fuel;omega⟩
  rw[hi,hf,takeS]
  simp only[ho]
  rw[if_pos (by rcases hab with h|h<;>simp[h])]
 have hgo:∀c,oneS ndP g t k (lf at_) q=(0,0,c)→c.Fine t∧c.fuel<q.fuel∧takeS ndP g t k (lf at_) p.fuel p=takeS ndP g t k (lf at_) c.fuel c:=by
  intro c ho
  rcases one_fine ndP_tree hok (d:=lf at_) rfl hk0 hk hq ho with⟨_,_,hf,hn,hlt⟩|⟨ha,_⟩|⟨ha,_⟩|⟨_,hb⟩
  ·refine⟨hf,by have:=hq.n;unfold PS.fuel;omega,?_⟩
   rw[hi,show q.fuel=c.fuel+1 by have:=hq.n;unfold PS.fuel;omega,takeS]
   simp only[ho]
   rfl
  ·exact absurd ha (by decide)
  ·exact absurd ha (by decide)
  ·exact absurd rfl hb
 have htake:∀c,oneS ndP g t k (lf at_) q=c→True:=fun _ _=>trivial
 obtain⟨h1,h2,h3',h4,h5,h6,h7⟩:=hq
 obtain⟨st,ts,tb,tr,ct⟩:=q
 simp only at h1 h2 h3' h4 h5 h6 h7
 have lmst:(st.map vi).length=st.length:=List.length_map _
 have nst:(st.map vi).all noLk=true:=noLk_ints
 have nts:noLk (oc 3 tb ts)=true:=noLk_oc (noLk_tree h4)
 have hst0:st≠[]:=fun h=>by rw[h]at h1;simp at h1
 rcases Decidable.em (tr=[])with hnil|htr
 ·subst hnil
  refine Wq.cv ⟨[(2,(vi at_)),(1,(vi k)),(0,(.ptr ⟨0,[]⟩ 0 0))],(0,.bx (qcv g t (.ow 1 (st.map vi)) (oc 3 tb ts) (.fz 1 0 []) (vi ct)))::H7,[],false⟩ rfl ?_
  refine Wq.block ?_
  apply Wq.seq
  refine Wq.reg [7,2,1,0] (t1:=[(2,(vi at_)),(1,(vi k)),(0,(.ptr ⟨0,[]⟩ 0 0))]) (h1:=[(0,.bx (qcv g t (.ow 1 (st.map vi)) (oc 3 tb ts) (.fz 1 0 []) (vi ct)))]) (d1:=[]) (by rcases hH with rfl|⟨x,rfl⟩<;>rfl) rfl (by kernel_rfl) (by kernel_rfl) ?_
  refine .p (.ptr ⟨0,[]⟩ 0 0) ?_
  refine .r (.ptr ⟨0,[]⟩ 0 0) ?_
  iterate 2 (refine .r (.ptr ⟨0,[]⟩ 0 7) ?_)
  refine .r (Sl.av (Sl.av Move.av) t.moves) ?_
  refine .p (.ptr ⟨0,[]⟩ 0 0) ?_
  iterate 2 (refine .r (.ptr ⟨0,[]⟩ 0 0) ?_)
  obtain⟨x18,e18⟩:∃x:Int,x=st.getD (st.length - 1) 0:=⟨_,rfl⟩
  have b18:=h2 x18 (by have:st.length - 1<st.length:=(by omega);rw[e18,List.getD,List.getElem?_eq_getElem this];exact List.getElem_mem this)
  refine .cl F56 rfl rfl (e18▸last_qf hO6 hst0 (by omega)) (expArgs_cons rfl rfl rfl) rfl rfl rfl (vi x18) [(0,.bx (qcv g t (.ow 1 (st.map vi)) (oc 3 tb ts) (.fz 1 0 []) (vi ct)))] ?_
  obtain⟨r19,e19⟩:∃x:_,x=(t.moves.l.getD x18.toNat default):=⟨_,rfl⟩
  have m19:=getD_mem e19 (by omega) (by omega)
  have q19:=hok.row r19 m19
  refine .po (fun _=>op_ix e19 (by omega) (by omega) hok.moves) (.fp _ ((Sl.av Move.av) r19) 0) rfl ?_
  refine .p (Sl.av Move.av r19) ?_
  refine .p (vi k) ?_
  obtain⟨r22,e22⟩:∃x:_,x=(r19.l.getD k.toNat default):=⟨_,rfl⟩
  have m22:=getD_mem e22 (by omega) (by omega)
  have q22:=hok.move r19 m19 r22 m22
  have em:lkM t (PS.last ⟨st,ts,tb,[],ct⟩) k=r22:=by rw[e22,e19,e18];rfl
  refine .po (fun _=>op_ix e22 (by omega) (by omega) q19.1) (.fp _ (Move.av r22) 0) rfl ?_
  refine .p (Move.av r22) ?_
  refine .e (.ptr ⟨7,[]⟩ 0 0) [(0,.bx (qcv g t (.ow 1 (st.map vi)) (oc 3 tb ts) (.fz 1 0 []) (vi ct))),(7,.bx (.agg [(vi 0),(vi 0)]))] ?_
  refine .sq [(0,.bx (qcv g t (.ow 1 (st.map vi)) (oc 3 tb ts) (.fz 1 0 []) (vi ct))),(7,.bx (Move.av r22))] ?_
  refine .done ⟨[(7,(.ptr ⟨7,[]⟩ 0 0)),(2,(vi at_)),(1,(vi k)),(0,(.ptr ⟨0,[]⟩ 0 0))],[(0,.bx (qcv g t (.ow 1 (st.map vi)) (oc 3 tb ts) (.fz 1 0 []) (vi ct))),(7,.bx (Move.av r22))],[],false⟩ ?_
  apply Wq.seq
  refine Wq.jn (fun s=>s=⟨[(8,(.bool ((r22.act==1)||(r22.act==2)))),(7,(.ptr ⟨7,[]⟩ 0 0)),(2,(vi at_)),(1,(vi k)),(0,(.ptr ⟨0,[]⟩ 0 0))],[(0,.bx (qcv g t (.ow 1 (st.map vi)) (oc 3 tb ts) (.fz 1 0 []) (vi ct))),(7,.bx (Move.av r22))],[],false⟩) ?_ ?_
  ·refine Wq.rg [8,7,2,1,0] ?_
   refine .r (.ptr ⟨7,[]⟩ 0 0) ?_
   refine .r (vi r22.act) ?_
   iterate 2 (refine .p (.bool (r22.act==1)) ?_)
   refine Rq.split (dg:=27) rfl (fun h3=>?_) (fun h3=>?_) rfl
   ·iterate 3 (refine .sk ?_)
    iterate 2 (refine .p (.bool true) ?_)
    refine .done ⟨[(8,(.bool _)),(7,(.ptr ⟨7,[]⟩ 0 0)),(2,(vi _)),(1,(vi _)),(0,(.ptr ⟨0,[]⟩ 0 0))],[(0,.bx (qcv g t (.ow 1 (st.map vi)) (oc 3 tb ts) (.fz 1 0 []) (vi ct))),(7,.bx (Move.av r22))],[],false⟩ ?_
    show(⟨[(8,(.bool _)),(7,(.ptr ⟨7,[]⟩ 0 0)),(2,(vi _)),(1,(vi _)),(0,(.ptr ⟨0,[]⟩ 0 0))],[(0,.bx (qcv g t (.ow 1 (st.map vi)) (oc 3 tb ts) (.fz 1 0 []) (vi ct))),(7,.bx (Move.av r22))],[],false⟩:St)=_
    first|(cases h3;done)|simp[h3]
   ·refine .r (.ptr ⟨7,[]⟩ 0 0) ?_
    refine .r (vi r22.act) ?_
    refine .p (.bool (r22.act==2)) ?_
    iterate 2 (refine .p (.bool (r22.act==2)) ?_)
    refine .done ⟨[(8,(.bool _)),(7,(.ptr ⟨7,[]⟩ 0 0)),(2,(vi _)),(1,(vi _)),(0,(.ptr ⟨0,[]⟩ 0 0))],[(0,.bx (qcv g t (.ow 1 (st.map vi)) (oc 3 tb ts) (.fz 1 0 []) (vi ct))),(7,.bx (Move.av r22))],[],false⟩ ?_
    show(⟨[(8,(.bool _)),(7,(.ptr ⟨7,[]⟩ 0 0)),(2,(vi _)),(1,(vi _)),(0,(.ptr ⟨0,[]⟩ 0 0))],[(0,.bx (qcv g t (.ow 1 (st.map vi)) (oc 3 tb ts) (.fz 1 0 []) (vi ct))),(7,.bx (Move.av r22))],[],false⟩:St)=_
    first|(cases h3;done)|simp[h3]
  rintro s rfl
  apply Wq.seq
  apply Wq.seq
  refine Wq.jn (fun s=>s=⟨[(39,(.bool (((r22.act==1)||(r22.act==2))&&(decide (ct≥65536))))),(7,(.ptr ⟨7,[]⟩ 0 0)),(2,(vi at_)),(1,(vi k)),(0,(.ptr ⟨0,[]⟩ 0 0))],[(0,.bx (qcv g t (.ow 1 (st.map vi)) (oc 3 tb ts) (.fz 1 0 []) (vi ct))),(7,.bx (Move.av r22))],[],false⟩) ?_ ?_
  ·refine Wq.rg [39,7,2,1,0] ?_
   iterate 2 (refine .p (.bool ((r22.act==1)||(r22.act==2))) ?_)
   refine Rq.split (dg:=33) rfl (fun hg1=>?_) (fun hg1=>?_) rfl
   ·refine .p (.ptr ⟨0,[]⟩ 0 0) ?_
    refine .r (.ptr ⟨0,[]⟩ 0 0) ?_
    refine .r (.ptr ⟨0,[]⟩ 0 10) ?_
    refine .r (vi ct) ?_
    refine .p (.bool (decide (ct≥65536))) ?_
    refine .p (.bool (decide (ct≥65536))) ?_
    refine .done ⟨[(39,(.bool _)),(7,(.ptr ⟨7,[]⟩ 0 0)),(2,(vi _)),(1,(vi _)),(0,(.ptr ⟨0,[]⟩ 0 0))],[(0,.bx (qcv g t (.ow 1 (st.map vi)) (oc 3 tb ts) (.fz 1 0 []) (vi ct))),(7,.bx (Move.av r22))],[],false⟩ ?_
    show(⟨[(39,(.bool _)),(7,(.ptr ⟨7,[]⟩ 0 0)),(2,(vi _)),(1,(vi _)),(0,(.ptr ⟨0,[]⟩ 0 0))],[(0,.bx (qcv g t (.ow 1 (st.map vi)) (oc 3 tb ts) (.fz 1 0 []) (vi ct))),(7,.bx (Move.av r22))],[],false⟩:St)=_
    first|(cases hg1;done)|simp[hg1]
   ·iterate 5 (refine .sk ?_)
    refine .p (.bool false) ?_
    refine .done ⟨[(39,(.bool _)),(7,(.ptr ⟨7,[]⟩ 0 0)),(2,(vi _)),(1,(vi _)),(0,(.ptr ⟨0,[]⟩ 0 0))],[(0,.bx (qcv g t (.ow 1 (st.map vi)) (oc 3 tb ts) (.fz 1 0 []) (vi ct))),(7,.bx (Move.av r22))],[],false⟩ ?_
    show(⟨[(39,(.bool _)),(7,(.ptr ⟨7,[]⟩ 0 0)),(2,(vi _)),(1,(vi _)),(0,(.ptr ⟨0,[]⟩ 0 0))],[(0,.bx (qcv g t (.ow 1 (st.map vi)) (oc 3 tb ts) (.fz 1 0 []) (vi ct))),(7,.bx (Move.av r22))],[],false⟩:St)=_
    first|(cases hg1;done)|simp[hg1]
  rintro s rfl
  refine Wq.cond rfl (fun hx=>?_) (fun hx=>?_)
  ·have hx:=hx
   apply Wq.seq
   refine Wq.rg [6] ?_
   refine .p (vi 181) ?_
   refine .done ⟨[(6,(vi 181))],[(0,.bx (qcv g t (.ow 1 (st.map vi)) (oc 3 tb ts) (.fz 1 0 []) (vi ct))),(7,.bx (Move.av r22))],[],false⟩ ?_
   refine Wq.ret ?_
   exact Aq.mk rfl (by rw[hend 0 181 ⟨st,ts,tb,[],ct⟩ (by simp only[oneS,em];rw[if_pos hx]) (.inr (by decide))];rfl)
  ·have hc:=hx
   refine Wq.skip ?_
   apply Wq.seq
   refine Wq.rg [9,7,2,1,0] ?_
   refine .p (vi 0) ?_
   refine .done ⟨[(9,(vi 0)),(7,(.ptr ⟨7,[]⟩ 0 0)),(2,(vi at_)),(1,(vi k)),(0,(.ptr ⟨0,[]⟩ 0 0))],[(0,.bx (qcv g t (.ow 1 (st.map vi)) (oc 3 tb ts) (.fz 1 0 []) (vi ct))),(7,.bx (Move.av r22))],[],false⟩ ?_
   apply Wq.seq
   apply Wq.seq
   refine Wq.rg [41,9,7,2,1,0] ?_
   refine .r (.ptr ⟨7,[]⟩ 0 0) ?_
   refine .r (vi r22.act) ?_
   refine .done ⟨[(41,(vi r22.act)),(9,(vi 0)),(7,(.ptr ⟨7,[]⟩ 0 0)),(2,(vi at_)),(1,(vi k)),(0,(.ptr ⟨0,[]⟩ 0 0))],[(0,.bx (qcv g t (.ow 1 (st.map vi)) (oc 3 tb ts) (.fz 1 0 []) (vi ct))),(7,.bx (Move.av r22))],[],false⟩ ?_
   refine Wq.block ?_
   apply Wq.seq
   refine Wq.rg [42,41,9,7,2,1,0] ?_
   iterate 2 (refine .p (.bool (r22.act==1)) ?_)
   refine .done ⟨[(42,(.bool (r22.act==1))),(41,(vi r22.act)),(9,(vi 0)),(7,(.ptr ⟨7,[]⟩ 0 0)),(2,(vi at_)),(1,(vi k)),(0,(.ptr ⟨0,[]⟩ 0 0))],[(0,.bx (qcv g t (.ow 1 (st.map vi)) (oc 3 tb ts) (.fz 1 0 []) (vi ct))),(7,.bx (Move.av r22))],[],false⟩ ?_
   refine Wq.jn (fun s=>∃(x9:Int) (q:PS),(q.ts.all isTree=true∧(x9≠0∧q=⟨st,ts,tb,[],ct⟩∧oneS ndP g t k (lf at_) ⟨st,ts,tb,[],ct⟩=(0,x9,⟨st,ts,tb,[],ct⟩)∨x9=0∧oneS ndP g t k (lf at_) ⟨st,ts,tb,[],ct⟩=(if r22.act=1 then 1 else if r22.act=3 then 2 else 0,if r22.act=0 then 180 else 0,⟨q.st,q.ts,q.tb,[]++[r22],if r22.act=1∨r22.act=2 then ct+1 else ct⟩)))∧s=⟨[(9,(vi x9)),(7,(.ptr ⟨7,[]⟩ 0 0)),(2,(vi at_)),(1,(vi k)),(0,(.ptr ⟨0,[]⟩ 0 0))],[(0,.bx (qcv g t (.ow 1 (q.st.map vi)) (oc 3 q.tb q.ts) (.fz 1 0 []) (vi ct))),(7,.bx (Move.av r22))],[],false⟩) ?_ ?_
   ·refine Wq.cond rfl (fun hx=>?_) (fun hx=>?_)
    ·have hx:(r22.act=1):=by simpa using hx
     refine Wq.rg [9,7,2,1,0] ?_
     refine .p (.ptr ⟨0,[]⟩ 0 0) ?_
     iterate 2 (refine .r (.ptr ⟨0,[]⟩ 0 0) ?_)
     refine .r (.ptr ⟨7,[]⟩ 0 1) ?_
     refine .r (vi r22.n) ?_
     refine .p (vi at_) ?_
     refine .p (.agg [(vi (-1)),(vi at_),(.fz 1 0 [])]) ?_
     have hans:Ans cx O 57 [.bx (.agg [.ow 1 (st.map vi),oc 3 tb ts]),vi r22.n,lf at_] (.tup [],[.bx (.agg [.ow 1 ((st++[r22.n]).map vi),.ow 3 (ts++[lf at_])])]):=push_q hO7 rfl (by omega) (by omega) h4 h3'
     refine .cl F57 rfl rfl hans (expArgs_cons rfl (expArgs_cons rfl (expArgs_cons rfl rfl rfl) rfl) rfl) rfl (show noLkL [.bx (.agg [.ow 1 (st.map vi),oc 3 tb ts]),vi r22.n,lf at_]=true by simp only[noLkL,noLk,noLkL_all,nst,nts,lf,Bool.and_self]) (zip_ok rfl rfl) (.tup []) [(0,.bx (qcv g t (.ow 1 ((st++[r22.n]).map vi)) (.ow 3 (ts++[lf at_])) (.fz 1 0 []) (vi ct))),(7,.bx (Move.av r22))] ?_
     refine .fin (S':=⟨[(9,(vi 0)),(7,(.ptr ⟨7,[]⟩ 0 0)),(2,(vi at_)),(1,(vi k)),(0,(.ptr ⟨0,[]⟩ 0 0))],[(0,.bx (qcv g t (.ow 1 ((st++[r22.n]).map vi)) (.ow 3 (ts++[lf at_])) (.fz 1 0 []) (vi ct))),(7,.bx (Move.av r22))],[],false⟩) (fin_nl (nl_call (cs:=[.ow 1 ((st++[r22.n]).map vi),.ow 3 (ts++[lf at_])]) rfl rfl (by rw[List.all_cons,List.all_cons,noLk,noLkL_all,noLk_ints,noLk,noLkL_all,List.all_append,noLk_tree h4];rfl) rfl) (by kernel_rfl)) ?_
     refine Jq.mk ⟨0,PS.push ⟨st,ts,tb,[],ct⟩ r22.n (lf at_),⟨by simp only[PS.push,List.all_append,h4];rfl,.inr ⟨rfl,?_⟩⟩,rfl⟩
     simp only[oneS,em];rw[if_neg (by rw[hc];exact Bool.false_ne_true),if_neg (by omega),if_neg (by omega),if_neg (by omega)];simp only[hx];rfl
    ·have hx:¬(r22.act=1):=by simpa using hx
     apply Wq.seq
     refine Wq.rg [52,41,9,7,2,1,0] ?_
     iterate 2 (refine .p (.bool (r22.act==2)) ?_)
     refine .done ⟨[(52,(.bool (r22.act==2))),(41,(vi r22.act)),(9,(vi 0)),(7,(.ptr ⟨7,[]⟩ 0 0)),(2,(vi at_)),(1,(vi k)),(0,(.ptr ⟨0,[]⟩ 0 0))],[(0,.bx (qcv g t (.ow 1 (st.map vi)) (oc 3 tb ts) (.fz 1 0 []) (vi ct))),(7,.bx (Move.av r22))],[],false⟩ ?_
     refine Wq.jn (fun s=>∃(x9:Int) (q:PS),(q.ts.all isTree=true∧(x9≠0∧q=⟨st,ts,tb,[],ct⟩∧oneS ndP g t k (lf at_) ⟨st,ts,tb,[],ct⟩=(0,x9,⟨st,ts,tb,[],ct⟩)∨x9=0∧oneS ndP g t k (lf at_) ⟨st,ts,tb,[],ct⟩=(if r22.act=1 then 1 else if r22.act=3 then 2 else 0,if r22.act=0 then 180 else 0,⟨q.st,q.ts,q.tb,[]++[r22],if r22.act=1∨r22.act=2 then ct+1 else ct⟩)))∧s=⟨[(9,(vi x9)),(7,(.ptr ⟨7,[]⟩ 0 0)),(2,(vi at_)),(1,(vi k)),(0,(.ptr ⟨0,[]⟩ 0 0))],[(0,.bx (qcv g t (.ow 1 (q.st.map vi)) (oc 3 q.tb q.ts) (.fz 1 0 []) (vi ct))),(7,.bx (Move.av r22))],[],false⟩) ?_ ?_
     ·refine Wq.cond rfl (fun hx=>?_) (fun hx=>?_)
      ·have hx:(r22.act=2):=by simpa using hx
       refine Wq.rg [9,7,2,1,0] ?_
       refine .p (.ptr ⟨0,[]⟩ 0 0) ?_
       refine .r (.ptr ⟨7,[]⟩ 0 1) ?_
       refine .r (vi r22.n) ?_
       obtain⟨x57,q,hr,htq,hans⟩:∃x q,(redS ndP g t r22.n ⟨st,ts,tb,[],ct⟩=none∧x=170∧q=⟨st,ts,tb,[],ct⟩∨redS ndP g t r22.n ⟨st,ts,tb,[],ct⟩=some q∧x=0∧q.tr=[]∧q.n=ct)∧q.ts.all isTree=true∧Ans cx O 58 [.bx (qcv g t (.ow 1 (st.map vi)) (oc 3 tb ts) (.fz 1 0 []) (vi ct)),vi r22.n] (vi x,[.bx (qcv g t (.ow 1 (q.st.map vi)) (oc 3 q.tb q.ts) (.fz 1 0 []) (vi ct))]):=by
        have hra:=red_q hO5 hO7 hO3 hok (p:=⟨st,ts,tb,[],ct⟩) ⟨h1,h2,h3',h4,h5,h6,h7⟩ (n:=r22.n) (by omega) (by omega)
        cases hq:redS ndP g t r22.n ⟨st,ts,tb,[],ct⟩with
        |none=>rw[hq]at hra;exact⟨170,⟨st,ts,tb,[],ct⟩,.inl ⟨rfl,rfl,rfl⟩,h4,hra⟩
        |some q=>rw[hq]at hra;have hkq:=redS_keeps hq;obtain⟨qst,qts,qtb,qtr,qn⟩:=q;obtain rfl:qtr=[]:=hkq.1;obtain rfl:qn=ct:=hkq.2;refine⟨0,_,.inr ⟨rfl,rfl,rfl,rfl⟩,redS_trees ndP_tree h4 hq,?_⟩;exact hra
       refine .cl F58 rfl rfl hans (expArgs_cons rfl (expArgs_cons rfl rfl rfl) rfl) rfl (show noLkL [.bx (qcv g t (.ow 1 (st.map vi)) (oc 3 tb ts) (.fz 1 0 []) (vi ct)),vi r22.n]=true by simp only[noLkL,noLk,noLk_qcv,noLkL_all,nst,nts,Bool.and_self]) (zip_ok rfl (by rw[qcv_na,nonAgg_oc];rfl)) (vi x57) [(0,.bx (qcv g t (.ow 1 (q.st.map vi)) (oc 3 q.tb q.ts) (.fz 1 0 []) (vi ct))),(7,.bx (Move.av r22))] ?_
       refine .p (vi x57) ?_
       refine .fin (S':=⟨[(9,(vi x57)),(7,(.ptr ⟨7,[]⟩ 0 0)),(2,(vi at_)),(1,(vi k)),(0,(.ptr ⟨0,[]⟩ 0 0))],[(0,.bx (qcv g t (.ow 1 (q.st.map vi)) (oc 3 q.tb q.ts) (.fz 1 0 []) (vi ct))),(7,.bx (Move.av r22))],[],false⟩) (fin_nl (nl_call rfl rfl (qcv_nl (by rw[noLk,noLkL_all];exact noLk_ints) (noLk_oc (noLk_tree htq)) rfl rfl) rfl) (by kernel_rfl)) ?_
       refine Jq.mk ⟨x57,q,⟨htq,?_⟩,rfl⟩
       rcases hr with⟨hr,ex,eq⟩|⟨hr,ex,hq1,hq2⟩
       ·refine .inl ⟨by rw[ex];decide,eq,?_⟩
        simp only[oneS,em];rw[if_neg (by rw[hc];exact Bool.false_ne_true),if_neg (by omega),if_neg (by omega),if_pos hx,hr,ex]
       ·refine .inr ⟨ex,?_⟩
        simp only[oneS,em];rw[if_neg (by rw[hc];exact Bool.false_ne_true),if_neg (by omega),if_neg (by omega),if_pos hx,hr];simp only[hq1,hq2,hx];rfl
      ·have hx:¬(r22.act=2):=by simpa using hx
       apply Wq.seq
       refine Wq.rg [58,9,7,2,1,0] ?_
       iterate 2 (refine .p (.bool (r22.act==3)) ?_)
       refine .done ⟨[(58,(.bool (r22.act==3))),(9,(vi 0)),(7,(.ptr ⟨7,[]⟩ 0 0)),(2,(vi at_)),(1,(vi k)),(0,(.ptr ⟨0,[]⟩ 0 0))],[(0,.bx (qcv g t (.ow 1 (st.map vi)) (oc 3 tb ts) (.fz 1 0 []) (vi ct))),(7,.bx (Move.av r22))],[],false⟩ ?_
       refine Wq.jn (fun s=>∃(x9:Int) (q:PS),(q.ts.all isTree=true∧(x9≠0∧q=⟨st,ts,tb,[],ct⟩∧oneS ndP g t k (lf at_) ⟨st,ts,tb,[],ct⟩=(0,x9,⟨st,ts,tb,[],ct⟩)∨x9=0∧oneS ndP g t k (lf at_) ⟨st,ts,tb,[],ct⟩=(if r22.act=1 then 1 else if r22.act=3 then 2 else 0,if r22.act=0 then 180 else 0,⟨q.st,q.ts,q.tb,[]++[r22],if r22.act=1∨r22.act=2 then ct+1 else ct⟩)))∧s=⟨[(9,(vi x9)),(7,(.ptr ⟨7,[]⟩ 0 0)),(2,(vi at_)),(1,(vi k)),(0,(.ptr ⟨0,[]⟩ 0 0))],[(0,.bx (qcv g t (.ow 1 (q.st.map vi)) (oc 3 q.tb q.ts) (.fz 1 0 []) (vi ct))),(7,.bx (Move.av r22))],[],false⟩) ?_ ?_
       ·refine Wq.cond rfl (fun hx=>?_) (fun hx=>?_)
        ·have h3:(r22.act=3):=by simpa using hx
         apply Wq.seq
         refine Wq.rg [66,9,7,2,1,0] ?_
         refine .p (.ptr ⟨0,[]⟩ 0 0) ?_
         iterate 3 (refine .r (.ptr ⟨0,[]⟩ 0 0) ?_)
         refine .r (.rf _ _ _ _) ?_
         obtain⟨x65,e65⟩:∃x:Int,x=(st.length:Int):=⟨_,rfl⟩
         refine .rv _ (vi x65) (ln e65) ?_
         refine .p (.bool (!(x65==2))) ?_
         refine .done ⟨[(66,(.bool (!(x65==2)))),(9,(vi 0)),(7,(.ptr ⟨7,[]⟩ 0 0)),(2,(vi at_)),(1,(vi k)),(0,(.ptr ⟨0,[]⟩ 0 0))],[(0,.bx (qcv g t (.ow 1 (st.map vi)) (oc 3 tb ts) (.fz 1 0 []) (vi ct))),(7,.bx (Move.av r22))],[],false⟩ ?_
         refine Wq.jn (fun s=>∃(x9:Int) (q:PS),(q.ts.all isTree=true∧(x9≠0∧q=⟨st,ts,tb,[],ct⟩∧oneS ndP g t k (lf at_) ⟨st,ts,tb,[],ct⟩=(0,x9,⟨st,ts,tb,[],ct⟩)∨x9=0∧oneS ndP g t k (lf at_) ⟨st,ts,tb,[],ct⟩=(if r22.act=1 then 1 else if r22.act=3 then 2 else 0,if r22.act=0 then 180 else 0,⟨q.st,q.ts,q.tb,[]++[r22],if r22.act=1∨r22.act=2 then ct+1 else ct⟩)))∧s=⟨[(9,(vi x9)),(7,(.ptr ⟨7,[]⟩ 0 0)),(2,(vi at_)),(1,(vi k)),(0,(.ptr ⟨0,[]⟩ 0 0))],[(0,.bx (qcv g t (.ow 1 (q.st.map vi)) (oc 3 q.tb q.ts) (.fz 1 0 []) (vi ct))),(7,.bx (Move.av r22))],[],false⟩) ?_ ?_
         ·refine Wq.cond rfl (fun hx=>?_) (fun hx=>?_)
          ·have hx:¬(x65=2):=by simpa using hx
           refine Wq.rg [9,7,2,1,0] ?_
           refine .p (vi 170) ?_
           refine .done ⟨[(9,(vi 170)),(7,(.ptr ⟨7,[]⟩ 0 0)),(2,(vi at_)),(1,(vi k)),(0,(.ptr ⟨0,[]⟩ 0 0))],[(0,.bx (qcv g t (.ow 1 (st.map vi)) (oc 3 tb ts) (.fz 1 0 []) (vi ct))),(7,.bx (Move.av r22))],[],false⟩ ?_
           refine Jq.mk ⟨170,⟨st,ts,tb,[],ct⟩,⟨h4,.inl ⟨by decide,rfl,?_⟩⟩,rfl⟩
           simp only[oneS,em];rw[if_neg (by rw[hc];exact Bool.false_ne_true),if_neg (by omega),if_pos h3,if_neg (by omega)]
          ·have hx:(x65=2):=by simpa using hx
           refine Wq.skipW [9,7,2,1,0] rfl ?_
           refine Jq.mk ⟨0,⟨st,ts,tb,[],ct⟩,⟨h4,.inr ⟨rfl,?_⟩⟩,rfl⟩
           simp only[oneS,em];rw[if_neg (by rw[hc];exact Bool.false_ne_true),if_neg (by omega),if_pos h3,if_pos (by omega)];simp only[h3];rfl
         rintro s ⟨x9,q,hg,rfl⟩
         exact Jq.mk ⟨x9,q,hg,rfl⟩
        ·have hx:¬(r22.act=3):=by simpa using hx
         refine Wq.skipW [9,7,2,1,0] rfl ?_
         have h0:r22.act=0:=by omega
         refine Jq.mk ⟨0,⟨st,ts,tb,[],ct⟩,⟨h4,.inr ⟨rfl,?_⟩⟩,rfl⟩
         simp only[oneS,em];rw[if_neg (by rw[hc];exact Bool.false_ne_true),if_pos h0];simp only[h0];rfl
       rintro s ⟨x9,q,hg,rfl⟩
       exact Jq.mk ⟨x9,q,hg,rfl⟩
     rintro s ⟨x9,q,hg,rfl⟩
     exact Jq.mk ⟨x9,q,hg,rfl⟩
   rintro s ⟨x9,q,hg,rfl⟩
   obtain⟨htq,hg⟩:=hg
   have nqs:(q.st.map vi).all noLk=true:=noLk_ints
   have nqt:noLk (oc 3 q.tb q.ts)=true:=noLk_oc (noLk_tree htq)
   apply Wq.seq
   apply Wq.seq
   refine Wq.rg [68,9,7,2,1,0] ?_
   refine .p (vi x9) ?_
   refine .p (.bool (!(x9==0))) ?_
   refine .done ⟨[(68,(.bool (!(x9==0)))),(9,(vi x9)),(7,(.ptr ⟨7,[]⟩ 0 0)),(2,(vi at_)),(1,(vi k)),(0,(.ptr ⟨0,[]⟩ 0 0))],[(0,.bx (qcv g t (.ow 1 (q.st.map vi)) (oc 3 q.tb q.ts) (.fz 1 0 []) (vi ct))),(7,.bx (Move.av r22))],[],false⟩ ?_
   refine Wq.cond rfl (fun hx=>?_) (fun hx=>?_)
   ·have hx:¬(x9=0):=by simpa using hx
    apply Wq.seq
    refine Wq.rg [6] ?_
    iterate 2 (refine .p (vi x9) ?_)
    refine .done ⟨[(6,(vi x9))],[(0,.bx (qcv g t (.ow 1 (q.st.map vi)) (oc 3 q.tb q.ts) (.fz 1 0 []) (vi ct))),(7,.bx (Move.av r22))],[],false⟩ ?_
    refine Wq.ret ?_
    exact Aq.mk rfl (by
     rcases hg with⟨_,hqe,hone⟩|⟨hz,_⟩
     ·rw[hend _ _ _ hone (.inr hx),hqe];rfl
     ·exact absurd hz hx)
   ·have hx9:(x9=0):=by simpa using hx
    refine Wq.skip ?_
    apply Wq.seq
    refine Wq.jn (fun s=>s=⟨[(7,(.ptr ⟨7,[]⟩ 0 0)),(2,(vi at_)),(1,(vi k)),(0,(.ptr ⟨0,[]⟩ 0 0))],[(0,.bx (qcv g t (.ow 1 (q.st.map vi)) (oc 3 q.tb q.ts) (.ow 2 [(Move.av r22)]) (vi ct))),(7,.bx (Move.av r22))],[],false⟩) ?_ ?_
    ·refine Wq.rg [7,2,1,0] ?_
     iterate 2 (refine .p (.ptr ⟨0,[]⟩ 0 0) ?_)
     refine .r (.ptr ⟨0,[]⟩ 0 0) ?_
     refine .r (.ptr ⟨0,[]⟩ 0 9) ?_
     refine .r (.fz 1 0 []) ?_
     refine .r (Move.av r22) ?_
     refine .e (.rf _ _ _ _) [(0,.bx (qcv g t (.ow 1 (q.st.map vi)) (oc 3 q.tb q.ts) (.fz 1 0 []) (vi ct))),(7,.bx (Move.av r22)),(76,.ow 2 [(Move.av r22)])] ?_
     refine .e (.rf _ _ _ _) [(0,.bx (qcv g t (.ow 1 (q.st.map vi)) (oc 3 q.tb q.ts) (.fz 1 0 []) (vi ct))),(7,.bx (Move.av r22)),(76,.ow 2 [(Move.av r22)]),(77,.ow 2 [(Move.av r22)])] ?_
     refine .r (.ptr ⟨0,[]⟩ 0 0) ?_
     refine .r (.ptr ⟨0,[]⟩ 0 9) ?_
     refine .sq [(0,.bx (qcv g t (.ow 1 (q.st.map vi)) (oc 3 q.tb q.ts) (.lk 77 2) (vi ct))),(7,.bx (Move.av r22)),(76,.ow 2 [(Move.av r22)]),(77,.ow 2 [(Move.av r22)])] ?_
     refine .fin (fin_of (h1:=[(0,.bx (qcv g t (.ow 1 (q.st.map vi)) (oc 3 q.tb q.ts) (.ow 2 [(Move.av r22)]) (vi ct))),(7,.bx (Move.av r22)),(76,.ow 2 [(Move.av r22)])]) (resolve_lk rfl rfl rfl (by simp) (rfl)) (by simp[noLkH,noLk,noLkL_all,noLk_qcv,nqs,nqt,Move.av]) rfl) ?_
     show(⟨[(7,(.ptr ⟨7,[]⟩ 0 0)),(2,(vi at_)),(1,(vi k)),(0,(.ptr ⟨0,[]⟩ 0 0))],[(0,.bx (qcv g t (.ow 1 (q.st.map vi)) (oc 3 q.tb q.ts) (.ow 2 [(Move.av r22)]) (vi ct))),(7,.bx (Move.av r22))],[],false⟩:St)=_
     simp
    rintro s rfl
    apply Wq.seq
    apply Wq.seq
    refine Wq.rg [81,2,1,0] ?_
    refine .r (.ptr ⟨7,[]⟩ 0 0) ?_
    refine .r (vi r22.act) ?_
    refine .done ⟨[(81,(vi r22.act)),(2,(vi at_)),(1,(vi k)),(0,(.ptr ⟨0,[]⟩ 0 0))],[(0,.bx (qcv g t (.ow 1 (q.st.map vi)) (oc 3 q.tb q.ts) (.ow 2 [(Move.av r22)]) (vi ct))),(7,.bx (Move.av r22))],[],false⟩ ?_
    refine Wq.block ?_
    apply Wq.seq
    refine Wq.rg [82,81,2,1,0] ?_
    iterate 2 (refine .p (.bool (r22.act==0)) ?_)
    refine .done ⟨[(82,(.bool (r22.act==0))),(81,(vi r22.act)),(2,(vi at_)),(1,(vi k)),(0,(.ptr ⟨0,[]⟩ 0 0))],[(0,.bx (qcv g t (.ow 1 (q.st.map vi)) (oc 3 q.tb q.ts) (.ow 2 [(Move.av r22)]) (vi ct))),(7,.bx (Move.av r22))],[],false⟩ ?_
    refine Wq.cond rfl (fun hx=>?_) (fun hx=>?_)
    ·have hx:(r22.act=0):=by simpa using hx
     apply Wq.seq
     refine Wq.rg [6] ?_
     refine .p (vi 180) ?_
     refine .done ⟨[(6,(vi 180))],[(0,.bx (qcv g t (.ow 1 (q.st.map vi)) (oc 3 q.tb q.ts) (.ow 2 [(Move.av r22)]) (vi ct))),(7,.bx (Move.av r22))],[],false⟩ ?_
     refine Wq.ret ?_
     exact Aq.mk rfl (by
      have hone:oneS ndP g t k (lf at_) ⟨st,ts,tb,[],ct⟩=(0,180,⟨q.st,q.ts,q.tb,[]++[r22],ct⟩):=by
       rcases hg with⟨hz,_⟩|⟨_,hone⟩
       ·exact absurd hx9 hz
       ·rw[hone];simp only[hx];rfl
      rw[hend _ _ _ hone (.inr (by decide))];rfl)
    ·have hx:¬(r22.act=0):=by simpa using hx
     apply Wq.seq
     refine Wq.rg [84,81,2,1,0] ?_
     iterate 2 (refine .p (.bool (r22.act==1)) ?_)
     refine .done ⟨[(84,(.bool (r22.act==1))),(81,(vi r22.act)),(2,(vi at_)),(1,(vi k)),(0,(.ptr ⟨0,[]⟩ 0 0))],[(0,.bx (qcv g t (.ow 1 (q.st.map vi)) (oc 3 q.tb q.ts) (.ow 2 [(Move.av r22)]) (vi ct))),(7,.bx (Move.av r22))],[],false⟩ ?_
     refine Wq.cond rfl (fun hx=>?_) (fun hx=>?_)
     ·have hx:(r22.act=1):=by simpa using hx
      apply Wq.seq
      refine Wq.rg [] ?_
      refine .p (.ptr ⟨0,[]⟩ 0 0) ?_
      refine .r (.ptr ⟨0,[]⟩ 0 0) ?_
      refine .r (.ptr ⟨0,[]⟩ 0 10) ?_
      refine .r (vi ct) ?_
      obtain⟨x90,e90⟩:∃x:Int,x=(ct+1):=⟨_,rfl⟩
      refine .pv _ (vi x90) (wrE e90 (by omega) (by omega)) ?_
      refine .r (.ptr ⟨0,[]⟩ 0 0) ?_
      refine .r (.ptr ⟨0,[]⟩ 0 10) ?_
      refine .sq [(0,.bx (qcv g t (.ow 1 (q.st.map vi)) (oc 3 q.tb q.ts) (.ow 2 [(Move.av r22)]) (vi x90))),(7,.bx (Move.av r22))] ?_
      refine .done ⟨[],[(0,.bx (qcv g t (.ow 1 (q.st.map vi)) (oc 3 q.tb q.ts) (.ow 2 [(Move.av r22)]) (vi x90))),(7,.bx (Move.av r22))],[],false⟩ ?_
      apply Wq.seq
      refine Wq.rg [6] ?_
      refine .p (vi 0) ?_
      refine .done ⟨[(6,(vi 0))],[(0,.bx (qcv g t (.ow 1 (q.st.map vi)) (oc 3 q.tb q.ts) (.ow 2 [(Move.av r22)]) (vi x90))),(7,.bx (Move.av r22))],[],false⟩ ?_
      refine Wq.ret ?_
      exact Aq.mk rfl (by
      have hone:oneS ndP g t k (lf at_) ⟨st,ts,tb,[],ct⟩=(1,0,⟨q.st,q.ts,q.tb,[]++[r22],ct+1⟩):=by
       rcases hg with⟨hz,_⟩|⟨_,hone⟩
       ·exact absurd hx9 hz
       ·rw[hone];simp only[hx];rfl
      subst e90;rw[hend _ _ _ hone (.inl (by decide))];rfl)
     ·have hx:¬(r22.act=1):=by simpa using hx
      apply Wq.seq
      refine Wq.rg [93,2,1,0] ?_
      iterate 2 (refine .p (.bool (r22.act==3)) ?_)
      refine .done ⟨[(93,(.bool (r22.act==3))),(2,(vi at_)),(1,(vi k)),(0,(.ptr ⟨0,[]⟩ 0 0))],[(0,.bx (qcv g t (.ow 1 (q.st.map vi)) (oc 3 q.tb q.ts) (.ow 2 [(Move.av r22)]) (vi ct))),(7,.bx (Move.av r22))],[],false⟩ ?_
      refine Wq.cond rfl (fun hx=>?_) (fun hx=>?_)
      ·have hx:(r22.act=3):=by simpa using hx
       apply Wq.seq
       refine Wq.rg [6] ?_
       refine .p (vi 0) ?_
       refine .done ⟨[(6,(vi 0))],[(0,.bx (qcv g t (.ow 1 (q.st.map vi)) (oc 3 q.tb q.ts) (.ow 2 [(Move.av r22)]) (vi ct))),(7,.bx (Move.av r22))],[],false⟩ ?_
       refine Wq.ret ?_
       exact Aq.mk rfl (by
      have hone:oneS ndP g t k (lf at_) ⟨st,ts,tb,[],ct⟩=(2,0,⟨q.st,q.ts,q.tb,[]++[r22],ct⟩):=by
       rcases hg with⟨hz,_⟩|⟨_,hone⟩
       ·exact absurd hx9 hz
       ·rw[hone];simp only[hx];rfl
      rw[hend _ _ _ hone (.inl (by decide))];rfl)
      ·have hx:¬(r22.act=3):=by simpa using hx
       refine Wq.skip ?_
       refine Wq.rg [2,1,0] ?_
       refine .p (.ptr ⟨0,[]⟩ 0 0) ?_
       refine .r (.ptr ⟨0,[]⟩ 0 0) ?_
       refine .r (.ptr ⟨0,[]⟩ 0 10) ?_
       refine .r (vi ct) ?_
       obtain⟨x99,e99⟩:∃x:Int,x=(ct+1):=⟨_,rfl⟩
       refine .pv _ (vi x99) (wrE e99 (by omega) (by omega)) ?_
       refine .r (.ptr ⟨0,[]⟩ 0 0) ?_
       refine .r (.ptr ⟨0,[]⟩ 0 10) ?_
       refine .sq [(0,.bx (qcv g t (.ow 1 (q.st.map vi)) (oc 3 q.tb q.ts) (.ow 2 [(Move.av r22)]) (vi x99))),(7,.bx (Move.av r22))] ?_
       refine .done ⟨[(2,(vi at_)),(1,(vi k)),(0,(.ptr ⟨0,[]⟩ 0 0))],[(0,.bx (qcv g t (.ow 1 (q.st.map vi)) (oc 3 q.tb q.ts) (.ow 2 [(Move.av r22)]) (vi x99))),(7,.bx (Move.av r22))],[],false⟩ ?_
       have h2a:r22.act=2:=by omega
       have hone:oneS ndP g t k (lf at_) ⟨st,ts,tb,[],ct⟩=(0,0,⟨q.st,q.ts,q.tb,[]++[r22],ct+1⟩):=by
        rcases hg with⟨hz,_⟩|⟨_,hone⟩
        ·exact absurd hx9 hz
        ·rw[hone];simp only[h2a];rfl
       subst e99
       obtain⟨hf1,hf2,hf3⟩:=hgo _ hone
       exact Bq.n (Iq.mk _ hf2 ⟨_,[(7,.bx (Move.av r22))],rfl,.inr ⟨_,rfl⟩,⟨hf1,hf3⟩,rfl⟩)
 ·have ntr:(tr.map Move.av).all noLk=true:=noLk_moves
  refine Wq.cv ⟨[(2,(vi at_)),(1,(vi k)),(0,(.ptr ⟨0,[]⟩ 0 0))],(0,.bx (qcv g t (.ow 1 (st.map vi)) (oc 3 tb ts) (.ow 2 (tr.map Move.av)) (vi ct)))::H7,[],false⟩ (by rw[qf_tr htr]) ?_
  refine Wq.block ?_
  apply Wq.seq
  refine Wq.reg [7,2,1,0] (t1:=[(2,(vi at_)),(1,(vi k)),(0,(.ptr ⟨0,[]⟩ 0 0))]) (h1:=[(0,.bx (qcv g t (.ow 1 (st.map vi)) (oc 3 tb ts) (.ow 2 (tr.map Move.av)) (vi ct)))]) (d1:=[]) (by rcases hH with rfl|⟨x,rfl⟩<;>rfl) rfl (by kernel_rfl) (by kernel_rfl) ?_
  refine .p (.ptr ⟨0,[]⟩ 0 0) ?_
  refine .r (.ptr ⟨0,[]⟩ 0 0) ?_
  iterate 2 (refine .r (.ptr ⟨0,[]⟩ 0 7) ?_)
  refine .r (Sl.av (Sl.av Move.av) t.moves) ?_
  refine .p (.ptr ⟨0,[]⟩ 0 0) ?_
  iterate 2 (refine .r (.ptr ⟨0,[]⟩ 0 0) ?_)
  obtain⟨x18,e18⟩:∃x:Int,x=st.getD (st.length - 1) 0:=⟨_,rfl⟩
  have b18:=h2 x18 (by have:st.length - 1<st.length:=(by omega);rw[e18,List.getD,List.getElem?_eq_getElem this];exact List.getElem_mem this)
  refine .cl F56 rfl rfl (e18▸last_qf hO6 hst0 (by omega)) (expArgs_cons rfl rfl rfl) rfl rfl rfl (vi x18) [(0,.bx (qcv g t (.ow 1 (st.map vi)) (oc 3 tb ts) (.ow 2 (tr.map Move.av)) (vi ct)))] ?_
  obtain⟨r19,e19⟩:∃x:_,x=(t.moves.l.getD x18.toNat default):=⟨_,rfl⟩
  have m19:=getD_mem e19 (by omega) (by omega)
  have q19:=hok.row r19 m19
  refine .po (fun _=>op_ix e19 (by omega) (by omega) hok.moves) (.fp _ ((Sl.av Move.av) r19) 0) rfl ?_
  refine .p (Sl.av Move.av r19) ?_
  refine .p (vi k) ?_
  obtain⟨r22,e22⟩:∃x:_,x=(r19.l.getD k.toNat default):=⟨_,rfl⟩
  have m22:=getD_mem e22 (by omega) (by omega)
  have q22:=hok.move r19 m19 r22 m22
  have em:lkM t (PS.last ⟨st,ts,tb,tr,ct⟩) k=r22:=by rw[e22,e19,e18];rfl
  refine .po (fun _=>op_ix e22 (by omega) (by omega) q19.1) (.fp _ (Move.av r22) 0) rfl ?_
  refine .p (Move.av r22) ?_
  refine .e (.ptr ⟨7,[]⟩ 0 0) [(0,.bx (qcv g t (.ow 1 (st.map vi)) (oc 3 tb ts) (.ow 2 (tr.map Move.av)) (vi ct))),(7,.bx (.agg [(vi 0),(vi 0)]))] ?_
  refine .sq [(0,.bx (qcv g t (.ow 1 (st.map vi)) (oc 3 tb ts) (.ow 2 (tr.map Move.av)) (vi ct))),(7,.bx (Move.av r22))] ?_
  refine .done ⟨[(7,(.ptr ⟨7,[]⟩ 0 0)),(2,(vi at_)),(1,(vi k)),(0,(.ptr ⟨0,[]⟩ 0 0))],[(0,.bx (qcv g t (.ow 1 (st.map vi)) (oc 3 tb ts) (.ow 2 (tr.map Move.av)) (vi ct))),(7,.bx (Move.av r22))],[],false⟩ ?_
  apply Wq.seq
  refine Wq.jn (fun s=>s=⟨[(8,(.bool ((r22.act==1)||(r22.act==2)))),(7,(.ptr ⟨7,[]⟩ 0 0)),(2,(vi at_)),(1,(vi k)),(0,(.ptr ⟨0,[]⟩ 0 0))],[(0,.bx (qcv g t (.ow 1 (st.map vi)) (oc 3 tb ts) (.ow 2 (tr.map Move.av)) (vi ct))),(7,.bx (Move.av r22))],[],false⟩) ?_ ?_
  ·refine Wq.rg [8,7,2,1,0] ?_
   refine .r (.ptr ⟨7,[]⟩ 0 0) ?_
   refine .r (vi r22.act) ?_
   iterate 2 (refine .p (.bool (r22.act==1)) ?_)
   refine Rq.split (dg:=27) rfl (fun h3=>?_) (fun h3=>?_) rfl
   ·iterate 3 (refine .sk ?_)
    iterate 2 (refine .p (.bool true) ?_)
    refine .done ⟨[(8,(.bool _)),(7,(.ptr ⟨7,[]⟩ 0 0)),(2,(vi _)),(1,(vi _)),(0,(.ptr ⟨0,[]⟩ 0 0))],[(0,.bx (qcv g t (.ow 1 (st.map vi)) (oc 3 tb ts) (.ow 2 (tr.map Move.av)) (vi ct))),(7,.bx (Move.av r22))],[],false⟩ ?_
    show(⟨[(8,(.bool _)),(7,(.ptr ⟨7,[]⟩ 0 0)),(2,(vi _)),(1,(vi _)),(0,(.ptr ⟨0,[]⟩ 0 0))],[(0,.bx (qcv g t (.ow 1 (st.map vi)) (oc 3 tb ts) (.ow 2 (tr.map Move.av)) (vi ct))),(7,.bx (Move.av r22))],[],false⟩:St)=_
    first|(cases h3;done)|simp[h3]
   ·refine .r (.ptr ⟨7,[]⟩ 0 0) ?_
    refine .r (vi r22.act) ?_
    refine .p (.bool (r22.act==2)) ?_
    iterate 2 (refine .p (.bool (r22.act==2)) ?_)
    refine .done ⟨[(8,(.bool _)),(7,(.ptr ⟨7,[]⟩ 0 0)),(2,(vi _)),(1,(vi _)),(0,(.ptr ⟨0,[]⟩ 0 0))],[(0,.bx (qcv g t (.ow 1 (st.map vi)) (oc 3 tb ts) (.ow 2 (tr.map Move.av)) (vi ct))),(7,.bx (Move.av r22))],[],false⟩ ?_
    show(⟨[(8,(.bool _)),(7,(.ptr ⟨7,[]⟩ 0 0)),(2,(vi _)),(1,(vi _)),(0,(.ptr ⟨0,[]⟩ 0 0))],[(0,.bx (qcv g t (.ow 1 (st.map vi)) (oc 3 tb ts) (.ow 2 (tr.map Move.av)) (vi ct))),(7,.bx (Move.av r22))],[],false⟩:St)=_
    first|(cases h3;done)|simp[h3]
  rintro s rfl
  apply Wq.seq
  apply Wq.seq
  refine Wq.jn (fun s=>s=⟨[(39,(.bool (((r22.act==1)||(r22.act==2))&&(decide (ct≥65536))))),(7,(.ptr ⟨7,[]⟩ 0 0)),(2,(vi at_)),(1,(vi k)),(0,(.ptr ⟨0,[]⟩ 0 0))],[(0,.bx (qcv g t (.ow 1 (st.map vi)) (oc 3 tb ts) (.ow 2 (tr.map Move.av)) (vi ct))),(7,.bx (Move.av r22))],[],false⟩) ?_ ?_
  ·refine Wq.rg [39,7,2,1,0] ?_
   iterate 2 (refine .p (.bool ((r22.act==1)||(r22.act==2))) ?_)
   refine Rq.split (dg:=33) rfl (fun hg1=>?_) (fun hg1=>?_) rfl
   ·refine .p (.ptr ⟨0,[]⟩ 0 0) ?_
    refine .r (.ptr ⟨0,[]⟩ 0 0) ?_
    refine .r (.ptr ⟨0,[]⟩ 0 10) ?_
    refine .r (vi ct) ?_
    refine .p (.bool (decide (ct≥65536))) ?_
    refine .p (.bool (decide (ct≥65536))) ?_
    refine .done ⟨[(39,(.bool _)),(7,(.ptr ⟨7,[]⟩ 0 0)),(2,(vi _)),(1,(vi _)),(0,(.ptr ⟨0,[]⟩ 0 0))],[(0,.bx (qcv g t (.ow 1 (st.map vi)) (oc 3 tb ts) (.ow 2 (tr.map Move.av)) (vi ct))),(7,.bx (Move.av r22))],[],false⟩ ?_
    show(⟨[(39,(.bool _)),(7,(.ptr ⟨7,[]⟩ 0 0)),(2,(vi _)),(1,(vi _)),(0,(.ptr ⟨0,[]⟩ 0 0))],[(0,.bx (qcv g t (.ow 1 (st.map vi)) (oc 3 tb ts) (.ow 2 (tr.map Move.av)) (vi ct))),(7,.bx (Move.av r22))],[],false⟩:St)=_
    first|(cases hg1;done)|simp[hg1]
   ·iterate 5 (refine .sk ?_)
    refine .p (.bool false) ?_
    refine .done ⟨[(39,(.bool _)),(7,(.ptr ⟨7,[]⟩ 0 0)),(2,(vi _)),(1,(vi _)),(0,(.ptr ⟨0,[]⟩ 0 0))],[(0,.bx (qcv g t (.ow 1 (st.map vi)) (oc 3 tb ts) (.ow 2 (tr.map Move.av)) (vi ct))),(7,.bx (Move.av r22))],[],false⟩ ?_
    show(⟨[(39,(.bool _)),(7,(.ptr ⟨7,[]⟩ 0 0)),(2,(vi _)),(1,(vi _)),(0,(.ptr ⟨0,[]⟩ 0 0))],[(0,.bx (qcv g t (.ow 1 (st.map vi)) (oc 3 tb ts) (.ow 2 (tr.map Move.av)) (vi ct))),(7,.bx (Move.av r22))],[],false⟩:St)=_
    first|(cases hg1;done)|simp[hg1]
  rintro s rfl
  refine Wq.cond rfl (fun hx=>?_) (fun hx=>?_)
  ·have hx:=hx
   apply Wq.seq
   refine Wq.rg [6] ?_
   refine .p (vi 181) ?_
   refine .done ⟨[(6,(vi 181))],[(0,.bx (qcv g t (.ow 1 (st.map vi)) (oc 3 tb ts) (.ow 2 (tr.map Move.av)) (vi ct))),(7,.bx (Move.av r22))],[],false⟩ ?_
   refine Wq.ret ?_
   exact Aq.mk rfl (by rw[hend 0 181 ⟨st,ts,tb,tr,ct⟩ (by simp only[oneS,em];rw[if_pos hx]) (.inr (by decide))];(first|rfl|exact congrArg (fun x=>((vi _,[AV.bx x]):AV×List AV)) (qf_tr htr).symm|exact congrArg (fun x=>((vi _,[AV.bx x]):AV×List AV)) qf_snoc.symm))
  ·have hc:=hx
   refine Wq.skip ?_
   apply Wq.seq
   refine Wq.rg [9,7,2,1,0] ?_
   refine .p (vi 0) ?_
   refine .done ⟨[(9,(vi 0)),(7,(.ptr ⟨7,[]⟩ 0 0)),(2,(vi at_)),(1,(vi k)),(0,(.ptr ⟨0,[]⟩ 0 0))],[(0,.bx (qcv g t (.ow 1 (st.map vi)) (oc 3 tb ts) (.ow 2 (tr.map Move.av)) (vi ct))),(7,.bx (Move.av r22))],[],false⟩ ?_
   apply Wq.seq
   apply Wq.seq
   refine Wq.rg [41,9,7,2,1,0] ?_
   refine .r (.ptr ⟨7,[]⟩ 0 0) ?_
   refine .r (vi r22.act) ?_
   refine .done ⟨[(41,(vi r22.act)),(9,(vi 0)),(7,(.ptr ⟨7,[]⟩ 0 0)),(2,(vi at_)),(1,(vi k)),(0,(.ptr ⟨0,[]⟩ 0 0))],[(0,.bx (qcv g t (.ow 1 (st.map vi)) (oc 3 tb ts) (.ow 2 (tr.map Move.av)) (vi ct))),(7,.bx (Move.av r22))],[],false⟩ ?_
   refine Wq.block ?_
   apply Wq.seq
   refine Wq.rg [42,41,9,7,2,1,0] ?_
   iterate 2 (refine .p (.bool (r22.act==1)) ?_)
   refine .done ⟨[(42,(.bool (r22.act==1))),(41,(vi r22.act)),(9,(vi 0)),(7,(.ptr ⟨7,[]⟩ 0 0)),(2,(vi at_)),(1,(vi k)),(0,(.ptr ⟨0,[]⟩ 0 0))],[(0,.bx (qcv g t (.ow 1 (st.map vi)) (oc 3 tb ts) (.ow 2 (tr.map Move.av)) (vi ct))),(7,.bx (Move.av r22))],[],false⟩ ?_
   refine Wq.jn (fun s=>∃(x9:Int) (q:PS),(q.ts.all isTree=true∧(x9≠0∧q=⟨st,ts,tb,tr,ct⟩∧oneS ndP g t k (lf at_) ⟨st,ts,tb,tr,ct⟩=(0,x9,⟨st,ts,tb,tr,ct⟩)∨x9=0∧oneS ndP g t k (lf at_) ⟨st,ts,tb,tr,ct⟩=(if r22.act=1 then 1 else if r22.act=3 then 2 else 0,if r22.act=0 then 180 else 0,⟨q.st,q.ts,q.tb,tr++[r22],if r22.act=1∨r22.act=2 then ct+1 else ct⟩)))∧s=⟨[(9,(vi x9)),(7,(.ptr ⟨7,[]⟩ 0 0)),(2,(vi at_)),(1,(vi k)),(0,(.ptr ⟨0,[]⟩ 0 0))],[(0,.bx (qcv g t (.ow 1 (q.st.map vi)) (oc 3 q.tb q.ts) (.ow 2 (tr.map Move.av)) (vi ct))),(7,.bx (Move.av r22))],[],false⟩) ?_ ?_
   ·refine Wq.cond rfl (fun hx=>?_) (fun hx=>?_)
    ·have hx:(r22.act=1):=by simpa using hx
     refine Wq.rg [9,7,2,1,0] ?_
     refine .p (.ptr ⟨0,[]⟩ 0 0) ?_
     iterate 2 (refine .r (.ptr ⟨0,[]⟩ 0 0) ?_)
     refine .r (.ptr ⟨7,[]⟩ 0 1) ?_
     refine .r (vi r22.n) ?_
     refine .p (vi at_) ?_
     refine .p (.agg [(vi (-1)),(vi at_),(.fz 1 0 [])]) ?_
     have hans:Ans cx O 57 [.bx (.agg [.ow 1 (st.map vi),oc 3 tb ts]),vi r22.n,lf at_] (.tup [],[.bx (.agg [.ow 1 ((st++[r22.n]).map vi),.ow 3 (ts++[lf at_])])]):=push_q hO7 rfl (by omega) (by omega) h4 h3'
     refine .cl F57 rfl rfl hans (expArgs_cons rfl (expArgs_cons rfl (expArgs_cons rfl rfl rfl) rfl) rfl) rfl (show noLkL [.bx (.agg [.ow 1 (st.map vi),oc 3 tb ts]),vi r22.n,lf at_]=true by simp only[noLkL,noLk,noLkL_all,nst,nts,lf,Bool.and_self]) (zip_ok rfl rfl) (.tup []) [(0,.bx (qcv g t (.ow 1 ((st++[r22.n]).map vi)) (.ow 3 (ts++[lf at_])) (.ow 2 (tr.map Move.av)) (vi ct))),(7,.bx (Move.av r22))] ?_
     refine .fin (S':=⟨[(9,(vi 0)),(7,(.ptr ⟨7,[]⟩ 0 0)),(2,(vi at_)),(1,(vi k)),(0,(.ptr ⟨0,[]⟩ 0 0))],[(0,.bx (qcv g t (.ow 1 ((st++[r22.n]).map vi)) (.ow 3 (ts++[lf at_])) (.ow 2 (tr.map Move.av)) (vi ct))),(7,.bx (Move.av r22))],[],false⟩) (fin_nl (nl_call (cs:=[.ow 1 ((st++[r22.n]).map vi),.ow 3 (ts++[lf at_])]) rfl rfl (by rw[List.all_cons,List.all_cons,noLk,noLkL_all,noLk_ints,noLk,noLkL_all,List.all_append,noLk_tree h4];rfl) rfl) (by kernel_rfl)) ?_
     refine Jq.mk ⟨0,PS.push ⟨st,ts,tb,tr,ct⟩ r22.n (lf at_),⟨by simp only[PS.push,List.all_append,h4];rfl,.inr ⟨rfl,?_⟩⟩,rfl⟩
     simp only[oneS,em];rw[if_neg (by rw[hc];exact Bool.false_ne_true),if_neg (by omega),if_neg (by omega),if_neg (by omega)];simp only[hx];rfl
    ·have hx:¬(r22.act=1):=by simpa using hx
     apply Wq.seq
     refine Wq.rg [52,41,9,7,2,1,0] ?_
     iterate 2 (refine .p (.bool (r22.act==2)) ?_)
     refine .done ⟨[(52,(.bool (r22.act==2))),(41,(vi r22.act)),(9,(vi 0)),(7,(.ptr ⟨7,[]⟩ 0 0)),(2,(vi at_)),(1,(vi k)),(0,(.ptr ⟨0,[]⟩ 0 0))],[(0,.bx (qcv g t (.ow 1 (st.map vi)) (oc 3 tb ts) (.ow 2 (tr.map Move.av)) (vi ct))),(7,.bx (Move.av r22))],[],false⟩ ?_
     refine Wq.jn (fun s=>∃(x9:Int) (q:PS),(q.ts.all isTree=true∧(x9≠0∧q=⟨st,ts,tb,tr,ct⟩∧oneS ndP g t k (lf at_) ⟨st,ts,tb,tr,ct⟩=(0,x9,⟨st,ts,tb,tr,ct⟩)∨x9=0∧oneS ndP g t k (lf at_) ⟨st,ts,tb,tr,ct⟩=(if r22.act=1 then 1 else if r22.act=3 then 2 else 0,if r22.act=0 then 180 else 0,⟨q.st,q.ts,q.tb,tr++[r22],if r22.act=1∨r22.act=2 then ct+1 else ct⟩)))∧s=⟨[(9,(vi x9)),(7,(.ptr ⟨7,[]⟩ 0 0)),(2,(vi at_)),(1,(vi k)),(0,(.ptr ⟨0,[]⟩ 0 0))],[(0,.bx (qcv g t (.ow 1 (q.st.map vi)) (oc 3 q.tb q.ts) (.ow 2 (tr.map Move.av)) (vi ct))),(7,.bx (Move.av r22))],[],false⟩) ?_ ?_
     ·refine Wq.cond rfl (fun hx=>?_) (fun hx=>?_)
      ·have hx:(r22.act=2):=by simpa using hx
       refine Wq.rg [9,7,2,1,0] ?_
       refine .p (.ptr ⟨0,[]⟩ 0 0) ?_
       refine .r (.ptr ⟨7,[]⟩ 0 1) ?_
       refine .r (vi r22.n) ?_
       obtain⟨x57,q,hr,htq,hans⟩:∃x q,(redS ndP g t r22.n ⟨st,ts,tb,tr,ct⟩=none∧x=170∧q=⟨st,ts,tb,tr,ct⟩∨redS ndP g t r22.n ⟨st,ts,tb,tr,ct⟩=some q∧x=0∧q.tr=tr∧q.n=ct)∧q.ts.all isTree=true∧Ans cx O 58 [.bx (qcv g t (.ow 1 (st.map vi)) (oc 3 tb ts) (.ow 2 (tr.map Move.av)) (vi ct)),vi r22.n] (vi x,[.bx (qcv g t (.ow 1 (q.st.map vi)) (oc 3 q.tb q.ts) (.ow 2 (tr.map Move.av)) (vi ct))]):=by
        have hra:=red_q hO5 hO7 hO3 hok (p:=⟨st,ts,tb,tr,ct⟩) ⟨h1,h2,h3',h4,h5,h6,h7⟩ (n:=r22.n) (by omega) (by omega)
        cases hq:redS ndP g t r22.n ⟨st,ts,tb,tr,ct⟩with
        |none=>rw[hq]at hra;exact⟨170,⟨st,ts,tb,tr,ct⟩,.inl ⟨rfl,rfl,rfl⟩,h4,by rw[qf_tr htr]at hra;exact hra⟩
        |some q=>rw[hq]at hra;have hkq:=redS_keeps hq;obtain⟨qst,qts,qtb,qtr,qn⟩:=q;obtain rfl:qtr=tr:=hkq.1;obtain rfl:qn=ct:=hkq.2;refine⟨0,_,.inr ⟨rfl,rfl,rfl,rfl⟩,redS_trees ndP_tree h4 hq,?_⟩;simp only[qf_tr htr]at hra;exact hra
       refine .cl F58 rfl rfl hans (expArgs_cons rfl (expArgs_cons rfl rfl rfl) rfl) rfl (show noLkL [.bx (qcv g t (.ow 1 (st.map vi)) (oc 3 tb ts) (.ow 2 (tr.map Move.av)) (vi ct)),vi r22.n]=true by simp only[noLkL,noLk,noLk_qcv,noLkL_all,nst,nts,ntr,Bool.and_self]) (zip_ok rfl (by rw[qcv_na,nonAgg_oc];rfl)) (vi x57) [(0,.bx (qcv g t (.ow 1 (q.st.map vi)) (oc 3 q.tb q.ts) (.ow 2 (tr.map Move.av)) (vi ct))),(7,.bx (Move.av r22))] ?_
       refine .p (vi x57) ?_
       refine .fin (S':=⟨[(9,(vi x57)),(7,(.ptr ⟨7,[]⟩ 0 0)),(2,(vi at_)),(1,(vi k)),(0,(.ptr ⟨0,[]⟩ 0 0))],[(0,.bx (qcv g t (.ow 1 (q.st.map vi)) (oc 3 q.tb q.ts) (.ow 2 (tr.map Move.av)) (vi ct))),(7,.bx (Move.av r22))],[],false⟩) (fin_nl (nl_call rfl rfl (qcv_nl (by rw[noLk,noLkL_all];exact noLk_ints) (noLk_oc (noLk_tree htq)) (by rw[noLk,noLkL_all];exact ntr) rfl) rfl) (by kernel_rfl)) ?_
       refine Jq.mk ⟨x57,q,⟨htq,?_⟩,rfl⟩
       rcases hr with⟨hr,ex,eq⟩|⟨hr,ex,hq1,hq2⟩
       ·refine .inl ⟨by rw[ex];decide,eq,?_⟩
        simp only[oneS,em];rw[if_neg (by rw[hc];exact Bool.false_ne_true),if_neg (by omega),if_neg (by omega),if_pos hx,hr,ex]
       ·refine .inr ⟨ex,?_⟩
        simp only[oneS,em];rw[if_neg (by rw[hc];exact Bool.false_ne_true),if_neg (by omega),if_neg (by omega),if_pos hx,hr];simp only[hq1,hq2,hx];rfl
      ·have hx:¬(r22.act=2):=by simpa using hx
       apply Wq.seq
       refine Wq.rg [58,9,7,2,1,0] ?_
       iterate 2 (refine .p (.bool (r22.act==3)) ?_)
       refine .done ⟨[(58,(.bool (r22.act==3))),(9,(vi 0)),(7,(.ptr ⟨7,[]⟩ 0 0)),(2,(vi at_)),(1,(vi k)),(0,(.ptr ⟨0,[]⟩ 0 0))],[(0,.bx (qcv g t (.ow 1 (st.map vi)) (oc 3 tb ts) (.ow 2 (tr.map Move.av)) (vi ct))),(7,.bx (Move.av r22))],[],false⟩ ?_
       refine Wq.jn (fun s=>∃(x9:Int) (q:PS),(q.ts.all isTree=true∧(x9≠0∧q=⟨st,ts,tb,tr,ct⟩∧oneS ndP g t k (lf at_) ⟨st,ts,tb,tr,ct⟩=(0,x9,⟨st,ts,tb,tr,ct⟩)∨x9=0∧oneS ndP g t k (lf at_) ⟨st,ts,tb,tr,ct⟩=(if r22.act=1 then 1 else if r22.act=3 then 2 else 0,if r22.act=0 then 180 else 0,⟨q.st,q.ts,q.tb,tr++[r22],if r22.act=1∨r22.act=2 then ct+1 else ct⟩)))∧s=⟨[(9,(vi x9)),(7,(.ptr ⟨7,[]⟩ 0 0)),(2,(vi at_)),(1,(vi k)),(0,(.ptr ⟨0,[]⟩ 0 0))],[(0,.bx (qcv g t (.ow 1 (q.st.map vi)) (oc 3 q.tb q.ts) (.ow 2 (tr.map Move.av)) (vi ct))),(7,.bx (Move.av r22))],[],false⟩) ?_ ?_
       ·refine Wq.cond rfl (fun hx=>?_) (fun hx=>?_)
        ·have h3:(r22.act=3):=by simpa using hx
         apply Wq.seq
         refine Wq.rg [66,9,7,2,1,0] ?_
         refine .p (.ptr ⟨0,[]⟩ 0 0) ?_
         iterate 3 (refine .r (.ptr ⟨0,[]⟩ 0 0) ?_)
         refine .r (.rf _ _ _ _) ?_
         obtain⟨x65,e65⟩:∃x:Int,x=(st.length:Int):=⟨_,rfl⟩
         refine .rv _ (vi x65) (ln e65) ?_
         refine .p (.bool (!(x65==2))) ?_
         refine .done ⟨[(66,(.bool (!(x65==2)))),(9,(vi 0)),(7,(.ptr ⟨7,[]⟩ 0 0)),(2,(vi at_)),(1,(vi k)),(0,(.ptr ⟨0,[]⟩ 0 0))],[(0,.bx (qcv g t (.ow 1 (st.map vi)) (oc 3 tb ts) (.ow 2 (tr.map Move.av)) (vi ct))),(7,.bx (Move.av r22))],[],false⟩ ?_
         refine Wq.jn (fun s=>∃(x9:Int) (q:PS),(q.ts.all isTree=true∧(x9≠0∧q=⟨st,ts,tb,tr,ct⟩∧oneS ndP g t k (lf at_) ⟨st,ts,tb,tr,ct⟩=(0,x9,⟨st,ts,tb,tr,ct⟩)∨x9=0∧oneS ndP g t k (lf at_) ⟨st,ts,tb,tr,ct⟩=(if r22.act=1 then 1 else if r22.act=3 then 2 else 0,if r22.act=0 then 180 else 0,⟨q.st,q.ts,q.tb,tr++[r22],if r22.act=1∨r22.act=2 then ct+1 else ct⟩)))∧s=⟨[(9,(vi x9)),(7,(.ptr ⟨7,[]⟩ 0 0)),(2,(vi at_)),(1,(vi k)),(0,(.ptr ⟨0,[]⟩ 0 0))],[(0,.bx (qcv g t (.ow 1 (q.st.map vi)) (oc 3 q.tb q.ts) (.ow 2 (tr.map Move.av)) (vi ct))),(7,.bx (Move.av r22))],[],false⟩) ?_ ?_
         ·refine Wq.cond rfl (fun hx=>?_) (fun hx=>?_)
          ·have hx:¬(x65=2):=by simpa using hx
           refine Wq.rg [9,7,2,1,0] ?_
           refine .p (vi 170) ?_
           refine .done ⟨[(9,(vi 170)),(7,(.ptr ⟨7,[]⟩ 0 0)),(2,(vi at_)),(1,(vi k)),(0,(.ptr ⟨0,[]⟩ 0 0))],[(0,.bx (qcv g t (.ow 1 (st.map vi)) (oc 3 tb ts) (.ow 2 (tr.map Move.av)) (vi ct))),(7,.bx (Move.av r22))],[],false⟩ ?_
           refine Jq.mk ⟨170,⟨st,ts,tb,tr,ct⟩,⟨h4,.inl ⟨by decide,rfl,?_⟩⟩,rfl⟩
           simp only[oneS,em];rw[if_neg (by rw[hc];exact Bool.false_ne_true),if_neg (by omega),if_pos h3,if_neg (by omega)]
          ·have hx:(x65=2):=by simpa using hx
           refine Wq.skipW [9,7,2,1,0] rfl ?_
           refine Jq.mk ⟨0,⟨st,ts,tb,tr,ct⟩,⟨h4,.inr ⟨rfl,?_⟩⟩,rfl⟩
           simp only[oneS,em];rw[if_neg (by rw[hc];exact Bool.false_ne_true),if_neg (by omega),if_pos h3,if_pos (by omega)];simp only[h3];rfl
         rintro s ⟨x9,q,hg,rfl⟩
         exact Jq.mk ⟨x9,q,hg,rfl⟩
        ·have hx:¬(r22.act=3):=by simpa using hx
         refine Wq.skipW [9,7,2,1,0] rfl ?_
         have h0:r22.act=0:=by omega
         refine Jq.mk ⟨0,⟨st,ts,tb,tr,ct⟩,⟨h4,.inr ⟨rfl,?_⟩⟩,rfl⟩
         simp only[oneS,em];rw[if_neg (by rw[hc];exact Bool.false_ne_true),if_pos h0];simp only[h0];rfl
       rintro s ⟨x9,q,hg,rfl⟩
       exact Jq.mk ⟨x9,q,hg,rfl⟩
     rintro s ⟨x9,q,hg,rfl⟩
     exact Jq.mk ⟨x9,q,hg,rfl⟩
   rintro s ⟨x9,q,hg,rfl⟩
   obtain⟨htq,hg⟩:=hg
   have nqs:(q.st.map vi).all noLk=true:=noLk_ints
   have nqt:noLk (oc 3 q.tb q.ts)=true:=noLk_oc (noLk_tree htq)
   apply Wq.seq
   apply Wq.seq
   refine Wq.rg [68,9,7,2,1,0] ?_
   refine .p (vi x9) ?_
   refine .p (.bool (!(x9==0))) ?_
   refine .done ⟨[(68,(.bool (!(x9==0)))),(9,(vi x9)),(7,(.ptr ⟨7,[]⟩ 0 0)),(2,(vi at_)),(1,(vi k)),(0,(.ptr ⟨0,[]⟩ 0 0))],[(0,.bx (qcv g t (.ow 1 (q.st.map vi)) (oc 3 q.tb q.ts) (.ow 2 (tr.map Move.av)) (vi ct))),(7,.bx (Move.av r22))],[],false⟩ ?_
   refine Wq.cond rfl (fun hx=>?_) (fun hx=>?_)
   ·have hx:¬(x9=0):=by simpa using hx
    apply Wq.seq
    refine Wq.rg [6] ?_
    iterate 2 (refine .p (vi x9) ?_)
    refine .done ⟨[(6,(vi x9))],[(0,.bx (qcv g t (.ow 1 (q.st.map vi)) (oc 3 q.tb q.ts) (.ow 2 (tr.map Move.av)) (vi ct))),(7,.bx (Move.av r22))],[],false⟩ ?_
    refine Wq.ret ?_
    exact Aq.mk rfl (by
     rcases hg with⟨_,hqe,hone⟩|⟨hz,_⟩
     ·rw[hend _ _ _ hone (.inr hx),hqe];(first|rfl|exact congrArg (fun x=>((vi _,[AV.bx x]):AV×List AV)) (qf_tr htr).symm|exact congrArg (fun x=>((vi _,[AV.bx x]):AV×List AV)) qf_snoc.symm)
     ·exact absurd hz hx)
   ·have hx9:(x9=0):=by simpa using hx
    refine Wq.skip ?_
    apply Wq.seq
    refine Wq.jn (fun s=>s=⟨[(7,(.ptr ⟨7,[]⟩ 0 0)),(2,(vi at_)),(1,(vi k)),(0,(.ptr ⟨0,[]⟩ 0 0))],[(0,.bx (qcv g t (.ow 1 (q.st.map vi)) (oc 3 q.tb q.ts) (.ow 2 ((tr++[r22]).map Move.av)) (vi ct))),(7,.bx (Move.av r22))],[],false⟩) ?_ ?_
    ·refine Wq.rg [7,2,1,0] ?_
     iterate 2 (refine .p (.ptr ⟨0,[]⟩ 0 0) ?_)
     refine .r (.ptr ⟨0,[]⟩ 0 0) ?_
     refine .r (.ptr ⟨0,[]⟩ 0 9) ?_
     refine .r (.rf _ _ _ _) ?_
     refine .r (Move.av r22) ?_
     refine .e (.rf _ _ _ _) [(0,.bx (qcv g t (.ow 1 (q.st.map vi)) (oc 3 q.tb q.ts) (.ow 2 (tr.map Move.av)) (vi ct))),(7,.bx (Move.av r22)),(76,.ow 2 [(Move.av r22)])] ?_
     refine .eo (fun _=>op_appr rfl rfl rfl rfl rfl rfl rfl rfl rfl rfl (new:=[_]) rfl (List.cons_ne_nil _ _) rfl rfl (by simp) (by show(_+1)*16≤70368744177664;first|omega|(simp;omega)) (by show _+1≤70368744177664;first|omega|(simp;omega)) rfl) [(0,.bx (qcv g t (.ow 1 (q.st.map vi)) (oc 3 q.tb q.ts) _ (vi ct))),(7,.bx (Move.av r22)),(76,.ow 2 [(Move.av r22)]),(77,.ow 2 _)] ?_
     refine .r (.ptr ⟨0,[]⟩ 0 0) ?_
     refine .r (.ptr ⟨0,[]⟩ 0 9) ?_
     refine .s [(0,.bx (qcv g t (.ow 1 (q.st.map vi)) (oc 3 q.tb q.ts) (.lk 77 _) (vi ct))),(7,.bx (Move.av r22)),(76,.ow 2 [(Move.av r22)]),(77,.ow 2 _)] ?_
     refine .fin (fin_of (h1:=[(0,.bx (qcv g t (.ow 1 (q.st.map vi)) (oc 3 q.tb q.ts) (.ow 2 _) (vi ct))),(7,.bx (Move.av r22)),(76,.ow 2 [(Move.av r22)])]) (resolve_skip rfl (resolve_lk rfl rfl rfl (by simp) (rfl))) (by simp[noLkH,noLk,noLkL_all,take_map_self,take_map_snoc,noLk_qcv,nqs,nqt,ntr,Move.av]) rfl) ?_
     show(⟨[(7,(.ptr ⟨7,[]⟩ 0 0)),(2,(vi at_)),(1,(vi k)),(0,(.ptr ⟨0,[]⟩ 0 0))],[(0,.bx (qcv g t (.ow 1 (q.st.map vi)) (oc 3 q.tb q.ts) (.ow 2 _) (vi ct))),(7,.bx (Move.av r22))],[],false⟩:St)=_
     simp[take_map_self,take_map_snoc]
    rintro s rfl
    apply Wq.seq
    apply Wq.seq
    refine Wq.rg [81,2,1,0] ?_
    refine .r (.ptr ⟨7,[]⟩ 0 0) ?_
    refine .r (vi r22.act) ?_
    refine .done ⟨[(81,(vi r22.act)),(2,(vi at_)),(1,(vi k)),(0,(.ptr ⟨0,[]⟩ 0 0))],[(0,.bx (qcv g t (.ow 1 (q.st.map vi)) (oc 3 q.tb q.ts) (.ow 2 ((tr++[r22]).map Move.av)) (vi ct))),(7,.bx (Move.av r22))],[],false⟩ ?_
    refine Wq.block ?_
    apply Wq.seq
    refine Wq.rg [82,81,2,1,0] ?_
    iterate 2 (refine .p (.bool (r22.act==0)) ?_)
    refine .done ⟨[(82,(.bool (r22.act==0))),(81,(vi r22.act)),(2,(vi at_)),(1,(vi k)),(0,(.ptr ⟨0,[]⟩ 0 0))],[(0,.bx (qcv g t (.ow 1 (q.st.map vi)) (oc 3 q.tb q.ts) (.ow 2 ((tr++[r22]).map Move.av)) (vi ct))),(7,.bx (Move.av r22))],[],false⟩ ?_
    refine Wq.cond rfl (fun hx=>?_) (fun hx=>?_)
    ·have hx:(r22.act=0):=by simpa using hx
     apply Wq.seq
     refine Wq.rg [6] ?_
     refine .p (vi 180) ?_
     refine .done ⟨[(6,(vi 180))],[(0,.bx (qcv g t (.ow 1 (q.st.map vi)) (oc 3 q.tb q.ts) (.ow 2 ((tr++[r22]).map Move.av)) (vi ct))),(7,.bx (Move.av r22))],[],false⟩ ?_
     refine Wq.ret ?_
     exact Aq.mk rfl (by
      have hone:oneS ndP g t k (lf at_) ⟨st,ts,tb,tr,ct⟩=(0,180,⟨q.st,q.ts,q.tb,tr++[r22],ct⟩):=by
       rcases hg with⟨hz,_⟩|⟨_,hone⟩
       ·exact absurd hx9 hz
       ·rw[hone];simp only[hx];rfl
      rw[hend _ _ _ hone (.inr (by decide))];(first|rfl|exact congrArg (fun x=>((vi _,[AV.bx x]):AV×List AV)) (qf_tr htr).symm|exact congrArg (fun x=>((vi _,[AV.bx x]):AV×List AV)) qf_snoc.symm))
    ·have hx:¬(r22.act=0):=by simpa using hx
     apply Wq.seq
     refine Wq.rg [84,81,2,1,0] ?_
     iterate 2 (refine .p (.bool (r22.act==1)) ?_)
     refine .done ⟨[(84,(.bool (r22.act==1))),(81,(vi r22.act)),(2,(vi at_)),(1,(vi k)),(0,(.ptr ⟨0,[]⟩ 0 0))],[(0,.bx (qcv g t (.ow 1 (q.st.map vi)) (oc 3 q.tb q.ts) (.ow 2 ((tr++[r22]).map Move.av)) (vi ct))),(7,.bx (Move.av r22))],[],false⟩ ?_
     refine Wq.cond rfl (fun hx=>?_) (fun hx=>?_)
     ·have hx:(r22.act=1):=by simpa using hx
      apply Wq.seq
      refine Wq.rg [] ?_
      refine .p (.ptr ⟨0,[]⟩ 0 0) ?_
      refine .r (.ptr ⟨0,[]⟩ 0 0) ?_
      refine .r (.ptr ⟨0,[]⟩ 0 10) ?_
      refine .r (vi ct) ?_
      obtain⟨x90,e90⟩:∃x:Int,x=(ct+1):=⟨_,rfl⟩
      refine .pv _ (vi x90) (wrE e90 (by omega) (by omega)) ?_
      refine .r (.ptr ⟨0,[]⟩ 0 0) ?_
      refine .r (.ptr ⟨0,[]⟩ 0 10) ?_
      refine .s [(0,.bx (qcv g t (.ow 1 (q.st.map vi)) (oc 3 q.tb q.ts) (.ow 2 _) (vi x90))),(7,.bx (Move.av r22))] ?_
      refine .done ⟨[],[(0,.bx (qcv g t (.ow 1 (q.st.map vi)) (oc 3 q.tb q.ts) (.ow 2 ((tr++[r22]).map Move.av)) (vi x90))),(7,.bx (Move.av r22))],[],false⟩ ?_
      apply Wq.seq
      refine Wq.rg [6] ?_
      refine .p (vi 0) ?_
      refine .done ⟨[(6,(vi 0))],[(0,.bx (qcv g t (.ow 1 (q.st.map vi)) (oc 3 q.tb q.ts) (.ow 2 ((tr++[r22]).map Move.av)) (vi x90))),(7,.bx (Move.av r22))],[],false⟩ ?_
      refine Wq.ret ?_
      exact Aq.mk rfl (by
      have hone:oneS ndP g t k (lf at_) ⟨st,ts,tb,tr,ct⟩=(1,0,⟨q.st,q.ts,q.tb,tr++[r22],ct+1⟩):=by
       rcases hg with⟨hz,_⟩|⟨_,hone⟩
       ·exact absurd hx9 hz
       ·rw[hone];simp only[hx];rfl
      subst e90;rw[hend _ _ _ hone (.inl (by decide))];(first|rfl|exact congrArg (fun x=>((vi _,[AV.bx x]):AV×List AV)) (qf_tr htr).symm|exact congrArg (fun x=>((vi _,[AV.bx x]):AV×List AV)) qf_snoc.symm))
     ·have hx:¬(r22.act=1):=by simpa using hx
      apply Wq.seq
      refine Wq.rg [93,2,1,0] ?_
      iterate 2 (refine .p (.bool (r22.act==3)) ?_)
      refine .done ⟨[(93,(.bool (r22.act==3))),(2,(vi at_)),(1,(vi k)),(0,(.ptr ⟨0,[]⟩ 0 0))],[(0,.bx (qcv g t (.ow 1 (q.st.map vi)) (oc 3 q.tb q.ts) (.ow 2 ((tr++[r22]).map Move.av)) (vi ct))),(7,.bx (Move.av r22))],[],false⟩ ?_
      refine Wq.cond rfl (fun hx=>?_) (fun hx=>?_)
      ·have hx:(r22.act=3):=by simpa using hx
       apply Wq.seq
       refine Wq.rg [6] ?_
       refine .p (vi 0) ?_
       refine .done ⟨[(6,(vi 0))],[(0,.bx (qcv g t (.ow 1 (q.st.map vi)) (oc 3 q.tb q.ts) (.ow 2 ((tr++[r22]).map Move.av)) (vi ct))),(7,.bx (Move.av r22))],[],false⟩ ?_
       refine Wq.ret ?_
       exact Aq.mk rfl (by
      have hone:oneS ndP g t k (lf at_) ⟨st,ts,tb,tr,ct⟩=(2,0,⟨q.st,q.ts,q.tb,tr++[r22],ct⟩):=by
       rcases hg with⟨hz,_⟩|⟨_,hone⟩
       ·exact absurd hx9 hz
       ·rw[hone];simp only[hx];rfl
      rw[hend _ _ _ hone (.inl (by decide))];(first|rfl|exact congrArg (fun x=>((vi _,[AV.bx x]):AV×List AV)) (qf_tr htr).symm|exact congrArg (fun x=>((vi _,[AV.bx x]):AV×List AV)) qf_snoc.symm))
      ·have hx:¬(r22.act=3):=by simpa using hx
       refine Wq.skip ?_
       refine Wq.rg [2,1,0] ?_
       refine .p (.ptr ⟨0,[]⟩ 0 0) ?_
       refine .r (.ptr ⟨0,[]⟩ 0 0) ?_
       refine .r (.ptr ⟨0,[]⟩ 0 10) ?_
       refine .r (vi ct) ?_
       obtain⟨x99,e99⟩:∃x:Int,x=(ct+1):=⟨_,rfl⟩
       refine .pv _ (vi x99) (wrE e99 (by omega) (by omega)) ?_
       refine .r (.ptr ⟨0,[]⟩ 0 0) ?_
       refine .r (.ptr ⟨0,[]⟩ 0 10) ?_
       refine .s [(0,.bx (qcv g t (.ow 1 (q.st.map vi)) (oc 3 q.tb q.ts) (.ow 2 _) (vi x99))),(7,.bx (Move.av r22))] ?_
       refine .done ⟨[(2,(vi at_)),(1,(vi k)),(0,(.ptr ⟨0,[]⟩ 0 0))],[(0,.bx (qcv g t (.ow 1 (q.st.map vi)) (oc 3 q.tb q.ts) (.ow 2 ((tr++[r22]).map Move.av)) (vi x99))),(7,.bx (Move.av r22))],[],false⟩ ?_
       have h2a:r22.act=2:=by omega
       have hone:oneS ndP g t k (lf at_) ⟨st,ts,tb,tr,ct⟩=(0,0,⟨q.st,q.ts,q.tb,tr++[r22],ct+1⟩):=by
        rcases hg with⟨hz,_⟩|⟨_,hone⟩
        ·exact absurd hx9 hz
        ·rw[hone];simp only[h2a];rfl
       subst e99
       obtain⟨hf1,hf2,hf3⟩:=hgo _ hone
       exact Bq.n (Iq.mk _ hf2 ⟨_,[(7,.bx (Move.av r22))],rfl,.inr ⟨_,rfl⟩,⟨hf1,hf3⟩,by rw[qf_snoc]⟩)
end Go.Am.Pull
end
section
namespace Go.Am.Pull
open Go Go.Proofs Go.Am
set_option maxRecDepth 100000
set_option maxHeartbeats 4000000
variable {O:List Ent}
def zT:AV:=.agg [vi 0,vi 0,.fz 1 0 []]
def Z37:AV:=.agg [vi 0,vi 0,vi 0,vi 0,.fz 1 0 []]
def p0:PS:=⟨[0],[],false,[],0⟩
theorem p0_fine {g:Plain} {t:Table} (hok:Ok g t):p0.Fine t:=by
 refine⟨rfl,?_,fun _=>rfl,rfl,by decide,by decide,by decide⟩
 intro s hs
 simp only[p0,List.mem_singleton]at hs
 subst hs
 have:=hok.pos
 omega
theorem getD_some {α:Type} {l:List α} {n:Nat} {d:α} (h:n<l.length):l[n]?=some (l.getD n d):=by simp[List.getD,h]
theorem lkM_kind {g:Plain} {t:Table} (hok:Ok g t) {s k:Int} (hs:0≤s∧s<t.moves.l.length) (hk0:0≤k) (hk:k<g.kinds.l.length):((lkM t s k).act=1→k≠0)∧((lkM t s k).act=3→k=0):=by
 have h1:=getD_mem (l:=t.moves.l) (n:=s) (d:=default) rfl hs.1 hs.2
 have h2:k.toNat<(t.moves.l.getD s.toNat default).l.length:=by rw[(hok.row _ h1).2];omega
 have h3:=hok.acc _ h1 k.toNat (lkM t s k) (getD_some h2)
 exact⟨fun h=>by have:=h3.1 h;omega,fun h=>by have:=h3.2 h;omega⟩
theorem one_kind {nd:Bool→Int→List AV→AV} {g:Plain} {t:Table} (hok:Ok g t) {p q:PS} {k dn e:Int} {d:AV} (hk0:0≤k) (hk:k<g.kinds.l.length) (hp:p.Fine t) (h:oneS nd g t k d p=(dn,e,q)):(dn=1→k≠0)∧(dn=2→k=0):=by
 have hm:=lkM_kind hok (hp.ok _ (last_mem hp)) hk0 hk
 unfold oneS at h
 simp only at h
 split at h
 ·cases h;exact⟨(fun h=>by cases h),(fun h=>by cases h)⟩
 ·split at h
  ·cases h;exact⟨(fun h=>by cases h),(fun h=>by cases h)⟩
  ·split at h
   ·rename_i h3
    split at h
    ·cases h;exact⟨(fun h=>by cases h),fun _=>hm.2 h3⟩
    ·cases h;exact⟨(fun h=>by cases h),(fun h=>by cases h)⟩
   ·split at h
    ·split at h
     ·cases h;exact⟨(fun h=>by cases h),(fun h=>by cases h)⟩
     ·cases h;exact⟨(fun h=>by cases h),(fun h=>by cases h)⟩
    ·cases h
     refine⟨fun h=>?_,fun h=>?_⟩
     ·split at h
      ·rename_i h1;exact hm.1 h1
      ·cases h
     ·split at h<;>cases h
theorem take_fine {nd:Bool→Int→List AV→AV} (hnd:∀b n l,l.all isTree=true→isTree (nd b n l)=true) {g:Plain} {t:Table} (hok:Ok g t) {k:Int} {d:AV} (hd:isTree d=true) (hk0:0≤k) (hk:k<g.kinds.l.length):∀{f:Nat} {p q:PS} {dn e:Int},p.Fine t→p.fuel≤f→takeS nd g t k d f p=(dn,e,q)→
  q.ts.all isTree=true∧((dn=1∧e=0∧k≠0∧q.Fine t)∨(dn=2∧e=0∧k=0∧q.ts.length=1∧q.tb=true)∨e≠0)
 |0,p,q,dn,e,hp,hf,h=>by have:=hp.n;unfold PS.fuel at hf;omega
 |f+1,p,q,dn,e,hp,hf,h=>by
  obtain⟨a,b,q',ho⟩:∃a b c,oneS nd g t k d p=(a,b,c):=⟨_,_,_,rfl⟩
  have h1:=one_fine hnd hok hd hk0 hk hp ho
  have h2:=one_isTree hnd hd hp.trees ho
  have h3:=one_kind hok hk0 hk hp ho
  rw[takeS]at h
  simp only[ho]at h
  split at h
  ·rename_i hc
   cases h
   refine⟨h2,?_⟩
   rcases h1 with⟨ha,hb,_⟩|⟨ha,hb,hq⟩|⟨ha,hb,hl,hts,htb,_⟩|⟨ha,hb⟩
   ·rw[ha,hb]at hc;simp at hc
   ·exact .inl ⟨ha,hb,h3.1 ha,hq⟩
   ·refine .inr (.inl ⟨ha,hb,h3.2 ha,?_,?_⟩)
    ·have:=hp.st;rw[hts];omega
    ·rw[htb]
     cases hb2:p.tb with
     |true=>rfl
     |false=>have:=hp.tb hb2;have:=hp.st;simp_all
   ·exact .inr (.inr hb)
  ·rename_i hc
   rcases h1 with⟨ha,hb,hq,hn,hlt⟩|⟨ha,hb,hq⟩|⟨ha,hb,_⟩|⟨ha,hb⟩
   ·exact take_fine hnd hok hd hk0 hk hq (by unfold PS.fuel at *;omega) h
   ·rw[ha]at hc;simp at hc
   ·rw[ha]at hc;simp at hc
   ·simp[hb]at hc
def runS (nd:Bool→Int→List AV→AV) (g:Plain) (t:Table) (row:List Int):Nat→Int→PS→PS×Int×Int×AV
 |0,_,p=>(p,0,0,p.ts.getD 0 zT)
 |n+1,i,p=>
  let r:=takeS nd g t (if i<row.length then row.getD i.toNat default else 0) (lf i) p.fuel p
  if r.2.1=0 then runS nd g t row n (i+1) r.2.2 else(r.2.2,r.2.1,i,zT)
def outA (w i:Int) (tr:AV):AV:=.agg (vi w::vi i::cells tr)
theorem noLk_qf {g:Plain} {t:Table} {p:PS} (h:p.ts.all isTree=true):noLk (p.qf g t)=true:=by
 rw[PS.qf,noLk_qcv,noLk,noLkL_all,noLk_ints,noLk_oc (noLk_tree h),noLk_oc noLk_moves];rfl
noncomputable def fn34:FnS:=(mkA Try.f34 ⟨31,[0,0],true,[]⟩).getD ⟨.skip,0,[],[],0,[],false,[]⟩
theorem F34:cx.F 34=some fn34:=by kernel_rfl
theorem begin_q (hO:∀e∈O,e.f≠34) {g:Plain} {t:Table}:Ans cx O 34 [g.av,t.av] (.bx (p0.qf g t),[]):=by
 refine ans_q [1,0] (fn:=fn34) F34 (orc_none hO) ?_
 show Wq cx O 31 0 [] _ ⟨[(1,(Table.av t)),(0,(Plain.av g))],[],[],false⟩ _
 apply Wq.seq
 refine Wq.rg [4,3,2] ?_
 refine .e (.ptr ⟨2,[]⟩ 0 0) [(2,.bx (Plain.av g))] ?_
 refine .e (.ptr ⟨3,[]⟩ 0 0) [(2,.bx (Plain.av g)),(3,.bx (Table.av t))] ?_
 refine .p .nilp ?_
 refine .done ⟨[(4,.nilp),(3,(.ptr ⟨3,[]⟩ 0 0)),(2,(.ptr ⟨2,[]⟩ 0 0))],[(2,.bx (Plain.av g)),(3,.bx (Table.av t))],[],false⟩ ?_
 apply Wq.seq
 refine Wq.rg [4] ?_
 refine .e (.rf 1 ⟨5,[]⟩ 0 1) [(2,.bx (Plain.av g)),(3,.bx (Table.av t)),(5,.ow 1 [vi 0])] ?_
 refine .p (.agg [.rf 1 ⟨5,[]⟩ 0 1,.fz 1 0 []]) ?_
 refine .r (Plain.av g) ?_
 refine .r (Table.av t) ?_
 refine .p (.agg [.rf 1 ⟨5,[]⟩ 0 1,.fz 1 0 [],(Sl.av vs g.kinds),(Sl.av Prec.av g.precs),(Sl.av vs g.rules),(Sl.av Prod.av g.prods),(vi g.start),(Sl.av (Sl.av Move.av) t.moves),(Sl.av (Sl.av vi) t.goto),.fz 1 0 [],vi 0]) ?_
 refine .e (.ptr ⟨10,[]⟩ 0 0) [(2,.bx (Plain.av g)),(3,.bx (Table.av t)),(10,.bx (.agg [.ow 1 [vi 0],.fz 1 0 [],(Sl.av vs g.kinds),(Sl.av Prec.av g.precs),(Sl.av vs g.rules),(Sl.av Prod.av g.prods),(vi g.start),(Sl.av (Sl.av Move.av) t.moves),(Sl.av (Sl.av vi) t.goto),.fz 1 0 [],vi 0]))] ?_
 refine .p (.ptr ⟨10,[]⟩ 0 0) ?_
 refine .done ⟨[(4,.ptr ⟨4,[]⟩ 0 0)],[(2,.bx (Plain.av g)),(3,.bx (Table.av t)),(4,.bx (.agg [.ow 1 [vi 0],.fz 1 0 [],(Sl.av vs g.kinds),(Sl.av Prec.av g.precs),(Sl.av vs g.rules),(Sl.av Prod.av g.prods),(vi g.start),(Sl.av (Sl.av Move.av) t.moves),(Sl.av (Sl.av vi) t.goto),.fz 1 0 [],vi 0]))],[],false⟩ ?_
 refine Wq.ret ?_
 exact Aq.mk rfl rfl
noncomputable def fn24:FnS:=(mkA Try.f24 ⟨17197567967,[0,0,0],false,[]⟩).getD ⟨.skip,0,[],[],0,[],false,[]⟩
theorem F24:cx.F 24=some fn24:=by kernel_rfl
theorem run_q (hO:∀e∈O,e.f≠24) (hO4:∀e∈O,e.f≠34) (hO5:∀e∈O,e.f≠35) (hO8:∀e∈O,e.f≠58) (hO7:∀e∈O,e.f≠57) (hO3:∀e∈O,e.f≠37) (hO6:∀e∈O,e.f≠56) {g:Plain} {t:Table} (hok:Ok g t) {row:Sl Int} (hr1:row.ok 1) (hrl:row.l.length<2 ^ 40) (hrow:∀k∈row.l,1≤k∧k<g.kinds.l.length):
  Ans cx O 24 [g.av,t.av,row.av vi] (match runS ndP g t row.l (row.l.length+1) 0 p0 with|(q,w,i,tr)=>(.tup [.bx (q.qf g t),outA w i tr],[])):=by
 refine ans_q [2,1,0] (fn:=fn24) F24 (orc_none hO) ?_
 show Wq cx O 17197567967 0 [] _ ⟨[(2,(Sl.av vi row)),(1,(Table.av t)),(0,(Plain.av g))],[],[],false⟩ _
 apply Wq.seq
 refine Wq.rg [7,6,4,3,2] ?_
 refine .e (.ptr ⟨3,[]⟩ 0 0) [(3,.bx (Plain.av g))] ?_
 refine .e (.ptr ⟨4,[]⟩ 0 0) [(3,.bx (Plain.av g)),(4,.bx (Table.av t))] ?_
 refine .p .nilp ?_
 refine .e (.ptr ⟨7,[]⟩ 0 0) [(3,.bx (Plain.av g)),(4,.bx (Table.av t)),(7,.bx Z37)] ?_
 refine .done ⟨[(7,(.ptr ⟨7,[]⟩ 0 0)),(6,.nilp),(4,(.ptr ⟨4,[]⟩ 0 0)),(3,(.ptr ⟨3,[]⟩ 0 0)),(2,(Sl.av vi row))],[(3,.bx (Plain.av g)),(4,.bx (Table.av t)),(7,.bx Z37)],[],false⟩ ?_
 apply Wq.seq
 refine Wq.rg [8,7,2] ?_
 refine .r (Plain.av g) ?_
 refine .r (Table.av t) ?_
 refine .cl F34 rfl rfl (begin_q hO4) (expArgs_cons rfl (expArgs_cons rfl rfl rfl) rfl) rfl rfl rfl (.ptr ⟨15360,[]⟩ 0 0) [(3,.bx (Plain.av g)),(4,.bx (Table.av t)),(7,.bx Z37),(15360,.bx (p0.qf g t))] ?_
 refine .p (.ptr ⟨15360,[]⟩ 0 0) ?_
 refine .done ⟨[(8,.ptr ⟨8,[]⟩ 0 0),(7,(.ptr ⟨7,[]⟩ 0 0)),(2,(Sl.av vi row))],[(3,.bx (Plain.av g)),(4,.bx (Table.av t)),(7,.bx Z37),(8,.bx (p0.qf g t))],[],false⟩ ?_
 apply Wq.seq
 apply Wq.seq
 refine Wq.rg [18,17,8,7,2] ?_
 refine .p (Sl.av vi row) ?_
 obtain⟨x16,e16⟩:∃x:Int,x=(row.l.length:Int):=⟨_,rfl⟩
 refine .pv _ (vi x16) (ln e16) ?_
 obtain⟨x17,e17⟩:∃x:Int,x=(x16+1):=⟨_,rfl⟩
 refine .pv _ (vi x17) (wrE e17 (by omega) (by omega)) ?_
 refine .p (vi 0) ?_
 refine .done ⟨[(18,(vi 0)),(17,(vi x17)),(8,.ptr ⟨8,[]⟩ 0 0),(7,(.ptr ⟨7,[]⟩ 0 0)),(2,(Sl.av vi row))],[(3,.bx (Plain.av g)),(4,.bx (Table.av t)),(7,.bx Z37),(8,.bx (p0.qf g t))],[],false⟩ ?_
 refine Wq.block ?_
 refine Wq.lp (fun m s=>∃(x18:Int) (q:PS),m=(row.l.length+1 - x18).toNat∧(0≤x18∧x18≤row.l.length+1∧(x18≤row.l.length→q.Fine t)∧(x18=row.l.length+1→q.ts.length=1∧q.tb=true)∧q.ts.all isTree=true∧runS ndP g t row.l (row.l.length+1) 0 p0=runS ndP g t row.l (row.l.length+1 - x18).toNat x18 q)∧s=⟨[(18,(vi x18)),(17,(vi x17)),(8,.ptr ⟨8,[]⟩ 0 0),(7,(.ptr ⟨7,[]⟩ 0 0)),(2,(Sl.av vi row))],[(3,.bx (Plain.av g)),(4,.bx (Table.av t)),(7,.bx Z37),(8,.bx (q.qf g t))],[],false⟩) ?_ ⟨0,p0,rfl,⟨by omega,by omega,fun _=>p0_fine hok,fun h=>by omega,rfl,by simp⟩,rfl⟩
 rintro m s ⟨x18,q,rfl,⟨hi0,hi1,hq,hqe,hqt,hi⟩,rfl⟩
 show Wq _ _ _ _ _ _ ⟨[(18,(vi x18)),(17,(vi x17)),(8,.ptr ⟨8,[]⟩ 0 0),(7,(.ptr ⟨7,[]⟩ 0 0)),(2,(Sl.av vi row))],[(3,.bx (Plain.av g)),(4,.bx (Table.av t)),(7,.bx Z37),(8,.bx (q.qf g t))],[],false⟩ _
 apply Wq.seq
 refine Wq.rg [19,18,17,8,7,2] ?_
 refine .p (.bool (decide (x18<x17))) ?_
 refine .done ⟨[(19,(.bool (decide (x18<x17)))),(18,(vi x18)),(17,(vi x17)),(8,.ptr ⟨8,[]⟩ 0 0),(7,(.ptr ⟨7,[]⟩ 0 0)),(2,(Sl.av vi row))],[(3,.bx (Plain.av g)),(4,.bx (Table.av t)),(7,.bx Z37),(8,.bx (q.qf g t))],[],false⟩ ?_
 apply Wq.seq
 refine Wq.cond rfl (fun hx=>?_) (fun hx=>?_)
 ·have hx:=of_decide_eq_true hx
  refine Wq.skip ?_
  apply Wq.seq
  refine Wq.block ?_
  apply Wq.seq
  refine Wq.rg [18,17,9,8,7,2] ?_
  iterate 2 (refine .p (vi x18) ?_)
  refine .done ⟨[(18,(vi x18)),(17,(vi x17)),(9,(vi x18)),(8,.ptr ⟨8,[]⟩ 0 0),(7,(.ptr ⟨7,[]⟩ 0 0)),(2,(Sl.av vi row))],[(3,.bx (Plain.av g)),(4,.bx (Table.av t)),(7,.bx Z37),(8,.bx (q.qf g t))],[],false⟩ ?_
  apply Wq.seq
  refine Wq.rg [18,17,10,9,8,7,2] ?_
  refine .p (vi 0) ?_
  refine .done ⟨[(18,(vi x18)),(17,(vi x17)),(10,(vi 0)),(9,(vi x18)),(8,.ptr ⟨8,[]⟩ 0 0),(7,(.ptr ⟨7,[]⟩ 0 0)),(2,(Sl.av vi row))],[(3,.bx (Plain.av g)),(4,.bx (Table.av t)),(7,.bx Z37),(8,.bx (q.qf g t))],[],false⟩ ?_
  apply Wq.seq
  apply Wq.seq
  refine Wq.rg [24,18,17,10,9,8,7,2] ?_
  refine .p (vi x18) ?_
  refine .p (Sl.av vi row) ?_
  obtain⟨x23,e23⟩:∃x:Int,x=(row.l.length:Int):=⟨_,rfl⟩
  refine .pv _ (vi x23) (ln e23) ?_
  refine .p (.bool (decide (x18<x23))) ?_
  refine .done ⟨[(24,(.bool (decide (x18<x23)))),(18,(vi x18)),(17,(vi x17)),(10,(vi 0)),(9,(vi x18)),(8,.ptr ⟨8,[]⟩ 0 0),(7,(.ptr ⟨7,[]⟩ 0 0)),(2,(Sl.av vi row))],[(3,.bx (Plain.av g)),(4,.bx (Table.av t)),(7,.bx Z37),(8,.bx (q.qf g t))],[],false⟩ ?_
  refine Wq.jn (fun s=>∃(x10:Int),(x10=if x18<row.l.length then row.l.getD x18.toNat default else 0)∧s=⟨[(18,(vi x18)),(17,(vi x17)),(10,(vi x10)),(9,(vi x18)),(8,.ptr ⟨8,[]⟩ 0 0),(7,(.ptr ⟨7,[]⟩ 0 0)),(2,(Sl.av vi row))],[(3,.bx (Plain.av g)),(4,.bx (Table.av t)),(7,.bx Z37),(8,.bx (q.qf g t))],[],false⟩) ?_ ?_
  ·refine Wq.cond rfl (fun hx=>?_) (fun hx=>?_)
   ·have hx:=of_decide_eq_true hx
    refine Wq.rg [18,17,10,9,8,7,2] ?_
    refine .p (Sl.av vi row) ?_
    refine .p (vi x18) ?_
    obtain⟨r27,e27⟩:∃x:_,x=(row.l.getD x18.toNat default):=⟨_,rfl⟩
    have m27:=getD_mem e27 (by omega) (by omega)
    refine .po (fun _=>op_ix e27 (by omega) (by omega) hr1) (.fp _ (vi r27) 0) rfl ?_
    iterate 2 (refine .p (vi r27) ?_)
    refine .done ⟨[(18,(vi x18)),(17,(vi x17)),(10,(vi r27)),(9,(vi x18)),(8,.ptr ⟨8,[]⟩ 0 0),(7,(.ptr ⟨7,[]⟩ 0 0)),(2,(Sl.av vi row))],[(3,.bx (Plain.av g)),(4,.bx (Table.av t)),(7,.bx Z37),(8,.bx (q.qf g t))],[],false⟩ ?_
    exact Jq.mk ⟨_,(by rw[if_pos (by omega),e27]),rfl⟩
   ·have hx:=of_decide_eq_false hx
    refine Wq.skipW [18,17,10,9,8,7,2] rfl ?_
    exact Jq.mk ⟨_,(by rw[if_neg (by omega)]),rfl⟩
  rintro s ⟨x10,hg,rfl⟩
  apply Wq.seq
  refine Wq.rg [18,17,11,9,8,7,2] ?_
  refine .p (.ptr ⟨8,[]⟩ 0 0) ?_
  refine .p (vi x10) ?_
  refine .p (vi x18) ?_
  have hq:=hq (by omega)
  have hkr:0≤x10∧x10<g.kinds.l.length∧(x10=0↔x18=row.l.length):=by
   have:=hok.kpos
   rw[hg];split
   ·have:=hrow _ (getD_mem (l:=row.l) (n:=x18) (d:=default) rfl hi0 (by omega));omega
   ·omega
  obtain⟨dn,x32,q',ho⟩:∃a b c,takeS ndP g t x10 (lf x18) q.fuel q=(a,b,c):=⟨_,_,_,rfl⟩
  have hans:=take_q hO5 hO8 hO7 hO3 hO6 hok (k:=x10) (at_:=x18) hkr.1 hkr.2.1 hq
  rw[ho]at hans
  have hf:=take_fine ndP_tree hok (d:=lf x18) rfl hkr.1 hkr.2.1 hq (Nat.le_refl _) ho
  have efu:runS ndP g t row.l (row.l.length+1 - x18).toNat x18 q=if x32=0 then runS ndP g t row.l (row.l.length+1 - (x18+1)).toNat (x18+1) q' else(q',x32,x18,zT):=by
   rw[show(row.l.length+1 - x18:Int).toNat=(row.l.length+1 - (x18+1):Int).toNat+1 by omega,runS]
   simp only[←hg,ho]
  refine .cl F35 rfl rfl hans (expArgs_cons rfl (expArgs_cons rfl (expArgs_cons rfl rfl rfl) rfl) rfl) rfl (show noLkL [.bx (q.qf g t),vi x10,vi x18]=true by simp only[noLkL,noLk,noLk_qf hq.trees,Bool.and_self]) (zip_ok rfl (by rw[PS.qf,qcv_na,nonAgg_oc,nonAgg_oc];rfl)) (vi x32) [(3,.bx (Plain.av g)),(4,.bx (Table.av t)),(7,.bx Z37),(8,.bx (q'.qf g t))] ?_
  refine .p (vi x32) ?_
  refine .fin (S':=⟨[(18,(vi x18)),(17,(vi x17)),(11,(vi x32)),(9,(vi x18)),(8,.ptr ⟨8,[]⟩ 0 0),(7,(.ptr ⟨7,[]⟩ 0 0)),(2,(Sl.av vi row))],[(3,.bx (Plain.av g)),(4,.bx (Table.av t)),(7,.bx Z37),(8,.bx (q'.qf g t))],[],false⟩) (fin_nl (nl_call rfl rfl (qcv_nl (by rw[noLk,noLkL_all];exact noLk_ints) (noLk_oc (noLk_tree hf.1)) (noLk_oc noLk_moves) rfl) rfl) (by kernel_rfl)) ?_
  apply Wq.seq
  refine Wq.rg [34,18,17,11,9,8,7,2] ?_
  refine .p (vi x32) ?_
  refine .p (.bool (!(x32==0))) ?_
  refine .done ⟨[(34,(.bool (!(x32==0)))),(18,(vi x18)),(17,(vi x17)),(11,(vi x32)),(9,(vi x18)),(8,.ptr ⟨8,[]⟩ 0 0),(7,(.ptr ⟨7,[]⟩ 0 0)),(2,(Sl.av vi row))],[(3,.bx (Plain.av g)),(4,.bx (Table.av t)),(7,.bx Z37),(8,.bx (q'.qf g t))],[],false⟩ ?_
  refine Wq.cond rfl (fun hx=>?_) (fun hx=>?_)
  ·have hx:¬(x32=0):=by simpa using hx
   apply Wq.seq
   refine Wq.rg [7,6] ?_
   refine .p (.ptr ⟨8,[]⟩ 0 0) ?_
   refine .p (vi x32) ?_
   refine .p (vi x18) ?_
   refine .p (.agg [(vi x32),(vi x18),(vi 0),(vi 0),(.fz 1 0 [])]) ?_
   refine .p (.ptr ⟨8,[]⟩ 0 0) ?_
   refine .sq [(3,.bx (Plain.av g)),(4,.bx (Table.av t)),(7,.bx (.agg [(vi x32),(vi x18),(vi 0),(vi 0),(.fz 1 0 [])])),(8,.bx (q'.qf g t))] ?_
   refine .done ⟨[(7,(.ptr ⟨7,[]⟩ 0 0)),(6,.ptr ⟨8,[]⟩ 0 0)],[(3,.bx (Plain.av g)),(4,.bx (Table.av t)),(7,.bx (.agg [(vi x32),(vi x18),(vi 0),(vi 0),(.fz 1 0 [])])),(8,.bx (q'.qf g t))],[],false⟩ ?_
   refine Wq.ret ?_
   exact Aq.mk rfl (by rw[hi,efu,if_neg hx];rfl)
  ·have hx:(x32=0):=by simpa using hx
   refine Wq.skip ?_
   refine Wq.rg [18,17,8,7,2] ?_
   obtain⟨x39,e39⟩:∃x:Int,x=(x18+1):=⟨_,rfl⟩
   refine .pv _ (vi x39) (wrE e39 (by omega) (by omega)) ?_
   refine .p (vi x39) ?_
   refine .done ⟨[(18,(vi x39)),(17,(vi x17)),(8,.ptr ⟨8,[]⟩ 0 0),(7,(.ptr ⟨7,[]⟩ 0 0)),(2,(Sl.av vi row))],[(3,.bx (Plain.av g)),(4,.bx (Table.av t)),(7,.bx Z37),(8,.bx (q'.qf g t))],[],false⟩ ?_
   refine Iq.mk _ (by omega) ⟨x39,q',rfl,⟨by omega,by omega,fun h=>?_,fun h=>?_,hf.1,by rw[hi,efu,if_pos hx,e39]⟩,rfl⟩
   ·rcases hf.2 with⟨_,_,_,h⟩|⟨_,_,h0,_⟩|hb
    ·exact h
    ·have:=hkr.2.2.1 h0;omega
    ·exact absurd hx hb
   ·rcases hf.2 with⟨_,_,h0,_⟩|⟨_,_,_,h1,h2⟩|hb
    ·exact absurd (hkr.2.2.2 (by omega)) h0
    ·exact⟨h1,h2⟩
    ·exact absurd hx hb
 ·have hx:=of_decide_eq_false hx
  refine Wq.exit ?_
  apply Wq.seq
  have hx18:x18=row.l.length+1:=by omega
  obtain⟨hq1,hq2⟩:=hqe hx18
  rw[hx18,show((row.l.length:Int)+1 - ((row.l.length:Int)+1)).toNat=0 by omega,runS]at hi
  rw[hi]
  obtain⟨st8,ts8,tb8,tr8,n8⟩:=q
  obtain⟨tr1,rfl⟩:∃a,ts8=[a]:=List.length_eq_one_iff.1 hq1
  obtain rfl:tb8=true:=hq2
  obtain⟨dp1,dt1,dl1,dz1,ks1,rfl⟩:=isTree_iff (List.all_eq_true.1 hqt _ (List.mem_singleton.2 rfl))
  refine Wq.rg [7,6] ?_
  iterate 2 (refine .p (.ptr ⟨8,[]⟩ 0 0) ?_)
  iterate 2 (refine .r (.ptr ⟨8,[]⟩ 0 0) ?_)
  refine .r (.ptr ⟨8,[]⟩ 0 1) ?_
  refine .r (.rf _ _ _ _) ?_
  refine .r (.ptr _ _ _) ?_
  refine .r (.agg [vi dp1,vi dt1,.fz dl1 dz1 ks1]) ?_
  refine .p (.agg [vi 0,vi 0,vi dp1,vi dt1,.fz dl1 dz1 ks1]) ?_
  refine .p (.ptr ⟨8,[]⟩ 0 0) ?_
  refine .sq [(3,.bx (Plain.av g)),(4,.bx (Table.av t)),(7,.bx (.agg [vi 0,vi 0,vi dp1,vi dt1,.fz dl1 dz1 ks1])),(8,.bx (PS.qf g t ⟨st8,[.agg [vi dp1,vi dt1,.fz dl1 dz1 ks1]],true,tr8,n8⟩))] ?_
  refine .done ⟨[(7,(.ptr ⟨7,[]⟩ 0 0)),(6,(.ptr ⟨8,[]⟩ 0 0))],[(3,.bx (Plain.av g)),(4,.bx (Table.av t)),(7,.bx (.agg [vi 0,vi 0,vi dp1,vi dt1,.fz dl1 dz1 ks1])),(8,.bx (PS.qf g t ⟨st8,[.agg [vi dp1,vi dt1,.fz dl1 dz1 ks1]],true,tr8,n8⟩))],[],false⟩ ?_
  refine Wq.ret ?_
  exact Aq.mk rfl rfl
end Go.Am.Pull
end
section
namespace Go.Am
variable {cx:Cx} {keep:Nat} {call:CallF} {t h:Hp} {d:List Up} {al:Bool} {o:Oper}
def hasK (l:List ByteArray) (k:ByteArray):Bool:=l.any fun x=>k.toList==x.toList
def kput:List ByteArray→ByteArray→List ByteArray
 |[],k=>[k]
 |x::l,k=>if(k.toList==x.toList)=true then k::l else x::kput l k
theorem mlook_set {k:ByteArray}:∀{l:List ByteArray},mlook .str (l.map vs) (l.map fun _=>.bool true) (vs k)=some (if hasK l k=true then some (.bool true)else none)
 |[]=>rfl
 |x::l=>by
  simp only[List.map_cons,mlook,cellEq,hasK,List.any_cons]
  by_cases hx:(k.toList==x.toList)=true
  ·simp only[hx,Bool.true_or,if_true]
  ·rw[Bool.not_eq_true]at hx
   simp only[hx,Bool.false_or,mlook_set,hasK];rfl
theorem mput_set {k:ByteArray}:∀{l:List ByteArray},mput .str (l.map vs) (l.map fun _=>.bool true) (vs k) (.bool true)=((kput l k).map vs,(kput l k).map fun _=>.bool true)
 |[]=>rfl
 |x::l=>by
  simp only[List.map_cons,mput,cellEq,kput]
  by_cases hx:(k.toList==x.toList)=true
  ·simp only[hx,if_true,List.map_cons]
  ·rw[Bool.not_eq_true]at hx
   simp only[hx,mput_set,Bool.false_eq_true,if_false,List.map_cons]
def byteAt (s:ByteArray) (n:Int):Int:=((s.data.toList.getD n.toNat 0).toNat:Int)
end Go.Am
end
section
namespace Go.Am
abbrev Rs:=Option (AV×List AV)
def br (b:Bool) (x y:Rs):Rs:=match b with|true=>x|false=>y
def rq (b:Bool) (x:Rs):Rs:=match b with|true=>x|false=>none
def asI (k:IntKind) (v:AV) (K:Int→Rs):Rs:=match v with| .int k' n=>(match decide (k'=k)with|true=>K n|false=>none)|_=>none
def asB (v:AV) (K:Bool→Rs):Rs:=match v with| .bool b=>K b|_=>none
def asS (v:AV) (K:ByteArray→Rs):Rs:=match v with| .str s=>K s|_=>none
def asF (v:AV) (K:Nat→Nat→List AV→Rs):Rs:=match v with| .fz l z es=>K l z es|_=>none
def asG (v:AV) (K:List AV→Rs):Rs:=match v with| .agg cs=>K cs|_=>none
def asT (v:AV) (K:List AV→Rs):Rs:=match v with| .tup cs=>K cs|_=>none
def cI (k:IntKind) (l:List AV) (K:Int→List AV→Rs):Rs:=match l with| .int k' n::l=>(match decide (k'=k)with|true=>K n l|false=>none)|_=>none
def cB (l:List AV) (K:Bool→List AV→Rs):Rs:=match l with| .bool b::l=>K b l|_=>none
def cS (l:List AV) (K:ByteArray→List AV→Rs):Rs:=match l with| .str s::l=>K s l|_=>none
def cF (l:List AV) (K:Nat→Nat→List AV→List AV→Rs):Rs:=match l with| .fz a z es::l=>K a z es l|_=>none
def cN (l:List AV) (K:Rs):Rs:=match l with|[]=>K|_=>none
def ixE (es:List AV) (n:Int) (K:AV→Rs):Rs:=match (if 0≤n then es[n.toNat]? else none)with|some a=>K a|none=>none
def sxE (b:ByteArray) (n:Int) (K:Int→Rs):Rs:=match (if 0≤n then b.data.toList[n.toNat]? else none)with|some c=>K c.toNat|none=>none
def nthE (es:List AV) (i:Nat) (K:AV→Rs):Rs:=match es[i]? with|some c=>K c|none=>none
def bindE (r:Rs) (K:AV→List AV→Rs):Rs:=match r with|some (v,o)=>K v o|none=>none
def bdE (o:Option AV) (dflt lim:Nat) (K:Nat→Rs):Rs:=match o with
 |none=>K dflt
 |some (.int _ n)=>rq (decide (0≤n)) (rq (decide (n≤lim)) (K n.toNat))
 |_=>none
def ixN (es:List AV) (i:Nat) (K:AV→Rs):Rs:=match es[i]? with|some a=>K a|none=>none
def asO (v:AV) (K:Nat→List AV→Rs):Rs:=match v with| .ow z es=>K z es|_=>none
def asX (v:AV) (K:AV→Rs):Rs:=match v with| .bx e=>K e|_=>none
def cO (l:List AV) (K:Nat→List AV→List AV→Rs):Rs:=match l with| .ow z es::l=>K z es l|_=>none
def cA (l:List AV) (K:AV→List AV→Rs):Rs:=match l with|c::l=>K c l|_=>none
def cM (l:List AV) (K:Nat→List AV→List AV→Rs) (K':Nat→Nat→List AV→List AV→Rs):Rs:=match l with| .ow z es::l=>K z es l| .fz a z es::l=>K' a z es l|_=>none
def asM (v:AV) (K:Nat→List AV→Rs) (K':Nat→Nat→List AV→Rs):Rs:=match v with| .ow z es=>K z es| .fz a z es=>K' a z es|_=>none
def c1 (l:List AV) (K:AV→Rs):Rs:=match l with|[a]=>K a|_=>none
def lkE (kd:TyK) (ks vs:List AV) (k:AV) (K:AV→Rs) (K':Rs):Rs:=match mlook kd ks vs k with|some (some v)=>K v|some none=>K'|none=>none
def mqE (kd:TyK) (ks vs:List AV) (k:AV) (K:Rs):Rs:=match mlook kd ks vs k with|some _=>K|none=>none
def flatK (cx:Cx):Nat→Nat→List TyK
 |0,_=>[.other]
 |n+1,ty=>match cx.kind ty with|some (.struct fs)=>(fs.map fun f=>flatK cx n f.2.1).flatten|some k=>[k]|none=>[.other]
def castL:List TyK→List AV→(List AV→Rs)→Rs
 |[],l,K=>cN l (K [])
 | .int k::ks,l,K=>cI k l fun n l=>castL ks l fun r=>K (.int k n::r)
 | .bool::ks,l,K=>cB l fun b l=>castL ks l fun r=>K (.bool b::r)
 | .str::ks,l,K=>cS l fun s l=>castL ks l fun r=>K (.str s::r)
 | .slice _::ks,l,K=>cF l fun a z es l=>castL ks l fun r=>K (.fz a z es::r)
 |_::_,_,_=>none
def castE (cx:Cx) (ty:Nat) (v:AV) (K:AV→Rs):Rs:=
 match cx.kind ty with
 |some (.int k)=>asI k v fun n=>K (.int k n)
 |some .bool=>asB v fun b=>K (.bool b)
 |some .str=>asS v fun s=>K (.str s)
 |some (.slice _)=>asF v fun l z es=>K (.fz l z es)
 |some (.struct _)=>asG v fun cs=>castL (flatK cx 8 ty) cs fun cs=>K (.agg cs)
 |_=>none
def szE (cx:Cx) (e z:Nat) (K:Nat→Rs):Rs:=match cx.T e with|some i=>rq (Nat.beq z i.size) (K i.size)|none=>none
def castS (cx:Cx):List TyK→List Nat→List AV→(List AV→Rs)→Rs
 |[],_,l,K=>cN l (K [])
 | .int k::ks,sh,l,K=>cI k l fun n l=>castS cx ks sh.tail l fun r=>K (.int k n::r)
 | .bool::ks,sh,l,K=>cB l fun b l=>castS cx ks sh.tail l fun r=>K (.bool b::r)
 | .str::ks,sh,l,K=>cS l fun s l=>castS cx ks sh.tail l fun r=>K (.str s::r)
 | .slice e::ks,sh,l,K=>match sh.headD 0 with
  |1=>cO l fun z es l=>szE cx e z fun z=>castS cx ks sh.tail l fun r=>K (.ow z es::r)
  |2=>cM l (fun z es l=>szE cx e z fun z=>castS cx ks sh.tail l fun r=>K (.ow z es::r)) (fun a z es l=>castS cx ks sh.tail l fun r=>K (.fz a z es::r))
  |3=>cA l fun c l=>castS cx ks sh.tail l fun r=>K (c::r)
  |_=>cF l fun a z es l=>castS cx ks sh.tail l fun r=>K (.fz a z es::r)
 |_::_,_,_,_=>none
def castO (cx:Cx) (sh:List Nat) (ty:Nat) (v:AV) (K:AV→Rs):Rs:=
 match cx.kind ty with
 |some (.int k)=>asI k v fun n=>K (.int k n)
 |some .bool=>asB v fun b=>K (.bool b)
 |some .str=>asS v fun s=>K (.str s)
 |some (.slice e)=>(match sh.headD 0 with
  |1=>asO v fun z es=>szE cx e z fun z=>K (.ow z es)
  |2=>asM v (fun z es=>szE cx e z fun z=>K (.ow z es)) (fun a z es=>K (.fz a z es))
  |_=>asF v fun l z es=>K (.fz l z es))
 |some (.struct _)=>asG v fun cs=>castS cx (flatK cx 8 ty) sh cs fun cs=>K (.agg cs)
 |some (.ptr e)=>asX v fun v=>(match cx.kind e with
  |some (.struct _)=>asG v fun cs=>castS cx (flatK cx 8 e) sh cs fun cs=>K (.bx (.agg cs))
  |some (.int k)=>asI k v fun n=>K (.bx (.int k n))
  |_=>none)
 |_=>none
def nodeE (S:St) (pl:Pl) (K:Nat→List AV→Rs):Rs:=match look S true pl with|some (.ow sz es)=>K sz es|_=>none
abbrev K3 (α:Type):=α→List Rd→List Up→Rs
def abE (S:St) (a:AV) (K:K3 AV):Rs:=match a with
 | .rf sz pl off len=>(match S.alias with
  |true=>K .un [] []
  |false=>nodeE S pl fun sz' es=>match Nat.beq sz' sz with
   |true=>rq (Nat.beq off 0) <| rq (Nat.beq len es.length) <| K (.ow sz es) [⟨pl,true⟩] [gone pl]
   |false=>none)
 |a=>match absorb1 S a with|some (x,r,u)=>K x r u|none=>none
def ablE (S:St):List AV→K3 (List AV)→Rs
 |[],K=>K [] [] []
 |a::l,K=>abE S a fun x r u=>ablE S l fun xs rs us=>K (x::xs) (r++rs) (u++us)
def abaE (S:St) (a:AV) (K:K3 AV):Rs:=match a with
 | .agg cs=>ablE S cs fun xs r u=>K (.agg xs) r u
 |a=>abE S a K
def pnE (S:St) (pl:Pl) (i:Nat):Nat→List AV→K3 (List AV)→Rs
 |_,[],K=>K [] [] []
 |off,a::l,K=>abE S a fun x r us=>pnE S pl i (off+1) l fun bs rs vs=>match us with
  |[]=>K (x::bs) (r++rs) vs
  |u::_=>K (.un::bs) (r++rs) (u::.fill (pl.cell i off) x::vs)
def peE (S:St) (pl:Pl) (i:Nat) (e:AV) (K:K3 AV):Rs:=match e with
 | .agg cs=>pnE S pl i 0 cs fun bs r u=>K (.agg bs) r u
 |a=>pnE S pl i 0 [a] fun bs r u=>match bs with|[b]=>K b r u|_=>none
def ps1E (S:St) (keep:Nat) (dst:Pl) (a:AV) (K:K3 AV):Rs:=match a with
 | .rf sz pl off len=>(match S.alias with
  |true=>K .un [] [.set dst .un]
  |false=>match pl.p.isEmpty&&off==0&& !(keep.testBit pl.r)with
   |true=>(match useOk S pl with|true=>K (.lk pl.r (len+1)) [⟨pl,false⟩] [.set dst (.lk pl.r (len+1))]|false=>none)
   |false=>match pl.pre dst&&dst.pre pl with
    |true=>nodeE S pl fun sz' es=>(match Nat.beq sz' sz with
     |true=>rq (Nat.ble (off+len) es.length) (K (.ow sz ((es.drop off).take len)) [⟨pl,true⟩] [.set dst (.ow sz ((es.drop off).take len))])
     |false=>none)
    |false=>abE S (.rf sz pl off len) fun x r us=>K x r (us++[.set dst x]))
 |a=>match putSt1 S keep dst a with|some (x,r,u)=>K x r u|none=>none
def psE (S:St) (keep:Nat) (pl:Pl) (i:Nat):Nat→List AV→(List Rd→List Up→Rs)→Rs
 |_,[],K=>K [] []
 |off,a::l,K=>ps1E S keep (pl.cell i off) a fun _ r u=>psE S keep pl i (off+1) l fun rs us=>K (r++rs) (u++us)
def elE (S:St) (sz:Nat) (x:AV) (K:K3 (List AV)):Rs:=match x with
 | .fz _ sz' es=>rq (Nat.beq sz' sz||es.isEmpty) (K es [] [])
 | .rf sz' pl off len=>nodeE S pl fun sz'' es=>(match Nat.beq sz' sz&&Nat.beq sz'' sz with
  |true=>rq (Nat.ble (off+len) es.length) (rq (((es.drop off).take len).all plainEl) (K ((es.drop off).take len) [⟨pl,true⟩] []))
  |false=>none)
 |a=>match elems S sz a with|some (n,r,u)=>K n r u|none=>none
def ap1E (S:St) (d sz bytes:Nat) (a:AV) (new:List AV) (rs:List Rd) (us:List Up) (K:Eff→Rs):Rs:=
 br new.isEmpty
  (match a with
   | .fz _ _ _=>(match us.isEmpty with|true=>K ⟨a,rs,[]⟩|false=>none)
   | .rf _ pl _ _=>(match useOk S pl&&us.isEmpty with|true=>K ⟨a,⟨pl,false⟩::rs,[]⟩|false=>none)
   |_=>none)
  (match a with
   | .fz nil _ es=>rq (Nat.beq nil 1) <| rq es.isEmpty <| rq (Nat.ble (new.length*bytes) roomB) <| rq (Nat.ble new.length roomB) <| (match freshId S d&&apartUps us with
    |true=>K ⟨.rf sz ⟨d,[]⟩ 0 new.length,rs,us++[.new d (.ow sz new)]⟩
    |false=>none)
   | .rf sz' pl off len=>nodeE S pl fun sz'' es=>(match Nat.beq sz' sz&&Nat.beq sz'' sz&&freshId S d&&apartUps (gone pl::us)with
    |true=>rq (Nat.beq off 0) <| rq (Nat.beq len es.length) <| rq (Nat.ble ((es.length+new.length)*bytes) roomB) <| rq (Nat.ble (es.length+new.length) roomB) <| K ⟨.rf sz ⟨d,[]⟩ 0 (es++new).length,⟨pl,true⟩::rs,gone pl::us++[.new d (.ow sz (es++new))]⟩
    |false=>none)
   |_=>none)
def appE (cx:Cx) (S:St) (d:Option Nat) (tys:List Nat) (args:List AV) (K:Eff→Rs):Rs:=
 match d,args,tys with
 |some d,[a,x],[ty,xt]=>(match cx.kind ty,cx.kind xt with
  |_,some (.int _)=>none
  |some (.slice e),some _=>(match cx.T e with
   |some ei=>elE S ei.size x fun new rs us=>ap1E S d ei.size ei.bytes a new rs us K
   |none=>none)
  |_,_=>none)
 |_,_,_=>none
def vwE (S:St) (a:AV) (K:Ex→Rs):Rs:=match a with
 | .rf sz pl off len=>nodeE S pl fun sz' es=>(match Nat.beq sz' sz with
  |true=>rq (Nat.ble (off+len) es.length) (K {v:=.fz 2 sz (frzL 2 ((es.drop off).take len)),rd:=[⟨pl,true⟩],lent:=true})
  |false=>none)
 |a=>match expV1 S a with|some x=>K x|none=>none
def vlE (S:St):List AV→(List AV→List Rd→Bool→Rs)→Rs
 |[],K=>K [] [] false
 |a::l,K=>vwE S a fun x=>vlE S l fun xs rs b=>K (x.v::xs) (x.rd++rs) (x.lent||b)
def eaE (cx:Cx) (S:St) (ty:Nat) (m:Md) (a:AV) (K:Ex→Rs):Rs:=match m with
 | .view=>(match a with| .agg cs=>vlE S cs fun xs rs b=>K {v:=.agg xs,rd:=rs,lent:=b}|a=>vwE S a K)
 | .move=>abaE S a fun x rs us=>K {v:=x,rd:=rs,up:=us,touch:=us.map Up.pl}
 | .give=>abaE S a fun x rs us=>K {v:=frz 0 x,rd:=rs,up:=us,touch:=us.map Up.pl}
 | .io=>match expArg cx S ty .io a with|some x=>K x|none=>none
def easE (cx:Cx) (S:St):List Nat→List Md→List AV→(Exs→Rs)→Rs
 |ty::tys,m::ms,a::l,K=>eaE cx S ty m a fun x=>easE cx S tys ms l fun r=>match touches x.touch r.rd||touches r.touch x.rd with
  |true=>none
  |false=>K {vs:=x.v::r.vs,rd:=x.rd++r.rd,up:=x.up++r.up,lent:=x.lent||r.lent,touch:=x.touch++r.touch,io:=x.io++r.io}
 |_,_,[],K=>K {}
 |_,_,_,_=>none
def nlL:List AV→Rs→Rs
 |[],K=>K
 |a::l,K=>rq (noLk a) (nlL l K)
def nlA (a:AV) (K:Rs):Rs:=match a with
 | .bx e=>(match e with| .agg cs=>nlL cs K|e=>rq (noLk e) K)
 | .agg cs=>nlL cs K
 |a=>rq (noLk a) K
def nlV:List AV→Rs→Rs
 |[],K=>K
 |a::l,K=>nlA a (nlV l K)
def nlH:Hp→Rs→Rs
 |[],K=>K
 |(_,a)::h,K=>nlA a (nlH h K)
def genE (cx:Cx) (keep:Nat) (o:Oper) (S:St) (K:Eff→Rs):Rs:=match opX cx (fun _ _=>none) keep S o with|some e=>K e|none=>none
def ldE (cx:Cx) (ty:Nat) (e:AV) (off:Nat) (K:AV→Rs):Rs:=
 match cx.T ty with
 |some i=>match i.isAgg with
  |true=>castL (flatK cx 8 ty) (((cells e).drop off).take i.size) fun cs=>match Nat.beq cs.length i.size with|true=>K (.agg cs)|false=>none
  |false=>match Nat.beq i.size 1 with|true=>nthE (cells e) off fun c=>castE cx ty c K|false=>none
 |none=>none
def resC (cx:Cx) (own:Bool) (sh:List Nat) (ty:Nat):List ResultVar→AV→(AV→Rs)→Rs
 |[_],v,K=>if own then castO cx sh ty v K else castE cx ty v K
 |_,v,K=>asT v fun vs=>K (.tup vs)
def rvC (cx:Cx) (own:Bool) (sh:List Nat) (ty base:Nat) (rs:List ResultVar) (res:AV) (K:AV→AV→List Up→Rs):Rs:=
 match own with
 |true=>resC cx true sh ty rs res fun res=>match imp base res with|(v,us)=>K res v us
 |false=>match rs with
  |[_]=>(match cx.kind ty with
   |some (.slice _)=>castE cx ty (frz 0 res) fun v=>K res v []
   |some (.struct _)=>castE cx ty (frz 0 res) fun v=>K res v []
   |_=>castE cx ty res fun res=>K res (frz 0 res) [])
  |_=>asT res fun vs=>K (.tup vs) (.tup (frzL 0 vs)) []
def outC (cx:Cx) (sh:List Nat) (tys:List Nat) (ms:List Md):List IoR→List AV→(List AV→Rs)→Rs
 |[],l,K=>cN l (K [])
 |[.cells _],l,K=>c1 l fun v=>(match (tys.zip ms).find? fun x=>x.2==.io with
  |some (ty,_)=>castO cx sh ty v fun v=>nlA v (K [v])
  |none=>none)
 |_,_,_=>none
def callE (cx:Cx) (C:CallF) (sh:List (Nat×List Nat×List Nat)) (o:Oper) (S:St) (f:Nat) (args:List AV) (K:Eff→Rs):Rs:=
 match cx.F f with
 |none=>none
 |some fn=>
  easE cx S fn.params fn.modes args fun x=>
   match !S.alias&&Nat.ble x.io.length 1&&apartUps x.up&& !(x.up.any isLkU)with
   |false=>none
   |true=>nlV x.vs <| bindE (C f x.vs) fun res outs=>
    let shs:=((sh.find? fun y=>Nat.beq y.1 (o.dst.getD 0)).map (·.2)).getD ([],[])
    outC cx shs.2 fn.params fn.modes x.io outs fun outs=>
    rvC cx fn.own shs.1 o.type (1024*(o.dst.getD 0+1)) fn.results res fun res v us=>
    rq (!x.lent||noLent res&&noLentL outs) <|
    match ioUps x.io outs with
    |none=>none
    |some ius=>match apartUps (x.up++ius)&&newsOk S us&&us.all (fun u=>u.isNew)with
      |true=>K ⟨v,x.rd,x.up++ius++us⟩
      |false=>none
def hset:Hp→Nat→AV→Hp
 |[],_,_=>[]
 |(k,x)::h,i,a=>match Nat.beq i k with|true=>(k,a)::h|false=>(k,x)::hset h i a
def rfE (cx:Cx) (r:Nat):List (Nat×TyK)→List AV→St→(St→Rs)→Rs
 |[],_,S,K=>K S
 |(j,.slice e)::ks,cs,S,K=>(match cs[j]? with
  |some c=>asM c (fun z es=>szE cx e z fun z=>rfE cx r ks (cs.set j (.ow z es)) ⟨S.t,hset S.h r (.bx (.agg (cs.set j (.ow z es)))),S.d,S.alias⟩ K) (fun a z es=>rfE cx r ks (cs.set j (.fz a z es)) ⟨S.t,hset S.h r (.bx (.agg (cs.set j (.fz a z es)))),S.d,S.alias⟩ K)
  |none=>none)
 |_::ks,cs,S,K=>rfE cx r ks cs S K
def refE (cx:Cx) (S:St) (ty:Nat) (a:AV) (K:St→Rs):Rs:=match a,S.d with
 | .ptr pl 0 off,[]=>(match pl.p,hget S.h pl.r with
  |[],some (.bx (.agg cs))=>rfE cx pl.r ((flatK cx 8 ty).zipIdx.map fun x=>(off+x.2,x.1)) cs S K
  |_,_=>K S)
 |_,_=>K S
def opE (cx:Cx) (C:CallF) (sh:List (Nat×List Nat×List Nat)) (keep:Nat) (o:Oper) (S:St) (K:Eff→Rs):Rs:=
 match o.op with
 | .load ty x=>(match ev S x with
  | .fp _ e off=>ldE cx ty e off fun v=>K ⟨v,[],[]⟩
  | .ptr pl k off=>(match getP S.h pl,cx.T ty with
   |some (.ow _ es),some i=>(match S.d.all (fun u=> !Nat.beq u.pl.r pl.r)&& !Nat.beq i.size 0 with
    |true=>ixN es k fun a=>ldE cx ty a off fun v=>K ⟨v,rdCells pl k off i.size,[]⟩
    |false=>none)
   |_,_=>genE cx keep o S K)
  |_=>genE cx keep o S K)
 | .indexAddr ty x ix=>(match ev S x,ev S ix,cx.kind ty with
  | .fz lab sz es,.int _ n,some (.slice e)=>(match cx.T e with|some ei=>ixE es n fun a=>rq (Nat.beq sz ei.size) (K ⟨.fp lab a 0,[],[]⟩)|none=>none)
  | .rf sz pl off len,.int _ n,some (.slice e)=>(match cx.T e with
   |some ei=>rq (decide (0≤n)) <| rq (decide (n<len)) <| (match Nat.beq sz ei.size&&useOk S pl with|true=>K ⟨.ptr pl (off+n.toNat) 0,[⟨pl,false⟩],[]⟩|false=>none)
   |none=>none)
  |_,_,_=>genE cx keep o S K)
 | .index ty x ix=>(match ev S x,ev S ix,cx.kind ty with
  | .str b,.int _ n,some .str=>sxE b n fun c=>K ⟨.int .u8 c,[],[]⟩
  |_,_,_=>none)
 | .slice ty x lo hi none=>(match ev S x,cx.kind ty with
  | .fz nil sz es,some (.slice e)=>(match cx.T e with
   |some ei=>bdE (hi.map (ev S)) es.length es.length fun h=>bdE (lo.map (ev S)) 0 h fun l=>rq (Nat.beq nil 1||Nat.beq sz ei.size) (K ⟨.fz nil sz ((es.take h).drop l),[],[]⟩)
   |none=>none)
  | .rf sz pl off len,some (.slice e)=>(match cx.T e with
   |some ei=>bdE (hi.map (ev S)) len len fun h=>bdE (lo.map (ev S)) 0 h fun l=>(match Nat.beq sz ei.size&&useOk S pl with|true=>K ⟨.rf sz pl (off+l) (h - l),[⟨pl,false⟩],[]⟩|false=>none)
   |none=>none)
  | .str b,some .str=>bdE (hi.map (ev S)) b.size b.size fun h=>bdE (lo.map (ev S)) 0 h fun l=>K ⟨.str (b.extract l h),[],[]⟩
  |_,_=>none)
 | .extract x ix=>(match ev S x with
  | .tup vs=>nthE vs ix fun v=>castE cx o.type v fun v=>K ⟨v,[],[]⟩
  |_=>none)
 | .box _ x=>(match o.dst with
  |some d=>peE S ⟨d,[]⟩ 0 (ev S x) fun v rs us=>(match freshId S d&&apartUps us&&known (ev S x)&& !S.alias with
   |true=>K ⟨.ptr ⟨d,[]⟩ 0 0,rs,.new d (.bx v)::us⟩
   |false=>none)
  |none=>none)
 | .store ty a x=>(match cx.T ty,ev S a with
  |some i,.ptr pl k off=>psE S keep pl k off (cells (ev S x)) fun rs us=>(match Nat.beq (cells (ev S x)).length i.size&&known (ev S x)&&useOk S pl&&cellsThere S pl k off i.size&&apartUps us&&lkOk us with
   |true=>K ⟨.tup [],rs++[⟨pl,false⟩],us⟩
   |false=>none)
  |_,_=>none)
 | .lookup ty x k ok=>(match cx.kind ty,ev S x with
  |some (.map kt e),.mrf r=>(match cx.kind kt,cx.T e,look S true ⟨r,[]⟩with
   |some kd,some ei,some (.mp ks vs)=>(match ei.zero,isKey kd (ev S k)with
    |some z,true=>lkE kd ks vs (ev S k) (fun v=>castE cx e v fun v=>K ⟨cond ok (.tup [v,.bool true]) v,[⟨⟨r,[]⟩,true⟩],[]⟩) (match known z with|true=>K ⟨cond ok (.tup [z,.bool false]) z,[⟨⟨r,[]⟩,true⟩],[]⟩|false=>none)
    |_,_=>none)
   |_,_,_=>none)
  |_,_=>none)
 | .mapUpdate ty m k v=>(match cx.kind ty,ev S m with
  |some (.map kt _),.mrf r=>(match cx.kind kt,look S true ⟨r,[]⟩with
   |some kd,some (.mp ks vs)=>(match plainCell (ev S v)&&known (ev S v)&&isKey kd (ev S k)with
    |true=>mqE kd ks vs (ev S k) (K ⟨.tup [],[⟨⟨r,[]⟩,true⟩],[.inn ⟨r,[]⟩ (.mp (mput kd ks vs (ev S k) (ev S v)).1 (mput kd ks vs (ev S k) (ev S v)).2)]⟩)
    |false=>none)
   |_,_=>none)
  |_,_=>none)
 | .binOp .eql ty x y _=>(match ev S x,ev S y,cx.flat ty with
  | .agg [.int .i64 a,.int .i64 b],.agg [.int .i64 c,.int .i64 d],some [.int .i64,.int .i64]=>K ⟨.bool (a==c&&b==d),[],[]⟩
  |_,_,_=>genE cx keep o S K)
 | .binOp .neq ty x y _=>(match ev S x,ev S y,cx.flat ty with
  | .agg [.int .i64 a,.int .i64 b],.agg [.int .i64 c,.int .i64 d],some [.int .i64,.int .i64]=>K ⟨.bool (!(a==c&&b==d)),[],[]⟩
  |_,_,_=>genE cx keep o S K)
 | .call c=>(match c.callee with
  | .value (.func f)=>callE cx C sh o S f (c.args.toList.map (ev S)) K
  | .builtin .append=>appE cx S o.dst c.argTypes.toList (c.args.toList.map (ev S)) K
  |_=>genE cx keep o S K)
 |_=>genE cx keep o S K
def fV (v:AV) (K:AV→Rs):Rs:=match v with
 | .int k n=>K (.int k n)| .bool b=>K (.bool b)| .str s=>K (.str s)| .fz l z es=>K (.fz l z es)| .agg cs=>K (.agg cs)| .tup cs=>K (.tup cs)| .rf a b c d=>K (.rf a b c d)| .ptr a b c=>K (.ptr a b c)|a=>K a
def fVH:Hp→(Hp→Rs)→Rs
 |[],K=>K []
 |(i,a)::h,K=>fV a fun a=>fVH h fun h=>K ((i,a)::h)
def fBH:Hp→(Hp→Rs)→Rs
 |[],K=>K []
 |(i,a)::h,K=>(match a with| .bx e=>fV e fun e=>fBH h fun h=>K ((i,.bx e)::h)|a=>fBH h fun h=>K ((i,a)::h))
def upsE (io:Nat):List Up→Rs→Rs
 |[],K=>K
 | .set pl a::us,K=>(match pl.p.isEmpty with|true=>none|false=>rq (nonAgg a) (upsE io us K))
 | .fill pl a::us,K=>(match pl.p.isEmpty with|true=>none|false=>rq (nonAgg a) (upsE io us K))
 | .inn pl _::us,K=>(match pl.p.isEmpty with|true=>upsE io us K|false=>none)
 | .new r _::us,K=>(match io.testBit r with|true=>none|false=>upsE io us K)
 | .del _::us,K=>upsE io us K
def lkOf (o:Oper) (e:Eff):Bool:=match o.op with
 | .call c=>(match c.callee with| .value _=>false|_=>e.up.any isLkU)
 |_=>e.up.any isLkU
def putE (t:Hp) (d:Option Nat) (v:AV):Hp:=match d with|some d=>(d,v)::t|none=>t
def effE (io:Nat) (ops:Array Oper) (draw:Bool) (k:Nat) (log:List (Nat×Eff)) (S:St) (o:Oper) (e:Eff) (K:St→Rs):Rs:=
 upsE io e.up <| match !draw||checkX ops k e log with
  |false=>none
  |true=>fV e.val fun v=>match e.up with
   |[]=>K ⟨putE S.t o.dst v,S.h,S.d,S.alias⟩
   |u::us=>fBH (Up.apps (u::us) S.h) fun h=>K ⟨putE S.t o.dst v,h,S.d++dn (u::us),S.alias⟩
def rsE:List Up→Hp→Hp→(Hp→Hp→Rs)→Rs
 |[],t,h,K=>K t h
 | .set pl (.lk r len)::us,t,h,K=>(match getP h pl,hget h r with
  |some (.lk r' len'),some tr=>(match Nat.beq r' r&& !Nat.beq pl.r r&& !pl.p.isEmpty with
   |false=>none
   |true=>rq (Nat.beq len' len) <| (match tr with
    | .ow sz es=>rq (Nat.beq len (es.length+1)) <| rsE us (clearR r t) (Up.app (hdel h r) (.set pl (.ow sz es))) K
    | .bx e=>rq (Nat.beq len 0) <| rsE us (clearR r t) (Up.app (hdel h r) (.set pl (.bx e))) K
    |_=>none))
  |_,_=>none)
 |_::us,t,h,K=>rsE us t h K
def finE (keep io:Nat) (ops:List Oper) (f:Bool) (S:St) (K:St→Rs):Rs:=
 match f with
 |false=>fVH (keepT S.d keep S.t) fun t=>let s2:=adoptAll keep io ops ⟨t,S.h,[],false⟩;fBH (keepH keep s2.h) fun h=>fVH (keepR h s2.t) fun t=>K ⟨t,h,[],false⟩
 |true=>rsE S.d (keepT S.d keep S.t) S.h fun t h=>nlH h <| fVH t fun t=>fBH h fun h=>let s2:=adoptAll keep io ops ⟨t,h,[],false⟩;fBH (keepH keep s2.h) fun h=>fVH (keepR h s2.t) fun t=>K ⟨t,h,[],false⟩
variable (cx:Cx) (C:CallF) (sh:List (Nat×List Nat×List Nat)) (keep io:Nat) (ops:Array Oper) (draw:Bool)
def opR (o:Oper) (S:St) (K:St→Eff→Rs):Rs:=
 match o.op with
 | .load ty x=>refE cx S ty (ev S x) fun S=>opE cx C sh keep o S (K S)
 |_=>opE cx C sh keep o S (K S)
def runE:List Oper→Nat→Bool→St→List (Nat×Eff)→(Bool→St→Rs)→Rs
 |[],_,f,S,_,K=>K f S
 |o::os,k,f,S,log,K=>
  match o.guard with
  |none=>opR cx C sh keep o S fun S e=>effE io ops draw k log S o e fun S'=>runE os (k+1) (f||lkOf o e) S' ((k,e)::log) K
  |some (j,w)=>match (ops[j]?).bind (·.dst)with
   |none=>none
   |some dg=>match hget S.t dg with
    |some (.bool b)=>br b
     (match w with
     |true=>opR cx C sh keep o ⟨(dg,.bool true)::S.t,S.h,S.d,S.alias⟩ fun S e=>effE io ops draw k log S o e fun S'=>runE os (k+1) (f||lkOf o e) S' ((k,e)::log) K
     |false=>runE os (k+1) f ⟨putE ((dg,.bool true)::S.t) o.dst (.tup []),S.h,S.d,S.alias⟩ log K)
     (match w with
     |false=>opR cx C sh keep o ⟨(dg,.bool false)::S.t,S.h,S.d,S.alias⟩ fun S e=>effE io ops draw k log S o e fun S'=>runE os (k+1) (f||lkOf o e) S' ((k,e)::log) K
     |true=>runE os (k+1) f ⟨putE ((dg,.bool false)::S.t) o.dst (.tup []),S.h,S.d,S.alias⟩ log K)
    |some (.tup [])=>runE os (k+1) f ⟨putE S.t o.dst (.tup []),S.h,S.d,S.alias⟩ log K
    |_=>none
def frzE:List Nat→Nat→St→(St→Rs)→Rs
 |[],_,S,K=>K S
 |e::nm,id,S,K=>frzE nm id S fun S=>match Nat.beq (e % 65536) (id+32769)with
  |false=>K S
  |true=>(match hget S.h (e / 4194304)with
   |some (.bx (.agg cs))=>(match cs[e / 65536 % 64]? with
    |some c=>asF (frz 0 c) fun l z es=>fBH (Up.app S.h (.set ⟨e / 4194304,[(0,e / 65536 % 64)]⟩ (.fz l z es))) fun h=>fVH (clearI [.set ⟨e / 4194304,[(0,e / 65536 % 64)]⟩ .un] S.t) fun t=>K ⟨t,h,S.d,S.alias⟩
    |none=>K S)
   |_=>K S)
def regE (nm:List Nat) (L:List Nat) (id:Nat) (S:St) (K:St→Rs):Rs:=
 frzE nm id ⟨S.t,S.h,S.d,false⟩ fun S=>match killX ops.toList S with
 |⟨t1,h1,d1,_⟩=>match knw (t1.map (·.1)) ops.toList&&asgIn (keepAt keep nm id) L ops.toList with
  |false=>none
  |true=>match d1 with|_::_=>none|[]=>runE cx C sh (keepAt keep nm id) io ops draw ops.toList 0 false ⟨t1,h1,[],nm.contains id⟩ [] fun f S1=>match selOk L S1.t with
   |false=>none
   |true=>finE (keepAt keep nm id) io ops.toList f (wk L S1) K
def atL:List (Nat×List Nat)→Nat→List Nat
 |[],_=>[]
 |(k,l)::r,i=>match Nat.beq i k with|true=>l|false=>atL r i
structure Lvs where
 ent:List Nat
 reg:List (Nat×List Nat)
 lps:List (Nat×List Nat)
 shp:List (Nat×List Nat×List Nat):=[]
variable (nm:List Nat) (lv:Lvs)
def jmpE (J:Nat→St→Rs) (l:Nat) (S:St):Rs:=match selOk (atL lv.lps l) S.t with|true=>J l (wk (atL lv.lps l) S)|false=>none
def blkK (id:Nat) (K:Xt→St→Rs):Xt→St→Rs:=fun r S=>match r with
 | .exit i=>(match Nat.beq i id with|true=>K .normal S|false=>K (.exit i) S)
 | .normal=>K .normal S
 | .ret=>K .ret S
def lopK (J:Nat→St→Rs) (l:Nat) (K:Xt→St→Rs):Xt→St→Rs:=fun r S=>match r with
 | .normal=>jmpE lv J l S
 | .exit i=>K (.exit i) S
 | .ret=>K .ret S
def codeE (J:Nat→St→Rs):Code→Nat→St→(Xt→St→Rs)→Rs
 | .skip,_,S,K=>K .normal S
 | .region id ops draw,_,S,K=>regE cx C sh keep io ops draw nm (atL lv.reg id) id S (K .normal)
 | .seq a b,l,S,K=>codeE J a l S fun r S=>match r with| .normal=>codeE J b l S K| .exit i=>K (.exit i) S| .ret=>K .ret S
 | .cond c a b,l,S,K=>match ev S c with| .bool x=>br x (codeE J a l S K) (codeE J b l S K)|_=>none
 | .block id b,_,S,K=>codeE J b id S (blkK id K)
 | .loop _,l,S,_=>jmpE lv J l S
 | .exit id,_,S,K=>K (.exit id) S
 | .ret,_,S,K=>K .ret S
 |_,_,_,_=>none
def seqK (J:Nat→St→Rs) (b:Code) (l:Nat) (K:Xt→St→Rs):Xt→St→Rs:=fun r S=>match r with| .normal=>codeE cx C sh keep io nm lv J b l S K| .exit i=>K (.exit i) S| .ret=>K .ret S
def tabE (J:Nat→St→Rs):Code→Nat→(Xt→St→Rs)→List (Nat×Code×(Xt→St→Rs))
 | .seq a b,l,K=>tabE J a l (seqK cx C sh keep io nm lv J b l K)++tabE J b l K
 | .cond _ a b,l,K=>tabE J a l K++tabE J b l K
 | .block id b,_,K=>tabE J b id (blkK id K)
 | .loop b,l,K=>(l,b,K)::tabE J b l (lopK lv J l K)
 |_,_,_=>[]
def atT:List (Nat×Code×(Xt→St→Rs))→Nat→Option (Code×(Xt→St→Rs))
 |[],_=>none
 |(k,b,K)::r,i=>match Nat.beq i k with|true=>some (b,K)|false=>atT r i
def xrE (S:St) (a:AV) (K:AV→List Up→Rs):Rs:=match a with
 | .mrf r=>(match look S true ⟨r,[]⟩with|some (.mp ks vs)=>K (.mp ks vs) [.del r]|_=>none)
 |a=>abaE S a fun x _ us=>K x us
def xrlE (S:St):List AV→(List AV→List Up→Rs)→Rs
 |[],K=>K [] []
 |a::l,K=>xrE S a fun x us=>xrlE S l fun xs vs=>K (x::xs) (us++vs)
def outE (fn:FnS) (args:List AV) (S:St):Rs:=
 match resVals cx {t:=S.t,h:=S.h,d:=[]} fn.results with
 |none=>none
 |some vs=>xrlE {t:=S.t,h:=S.h,d:=[]} vs fun xs us=>match ioOuts {t:=S.t,h:=S.h,d:=[]} 0 fn.modes args with
  |some (outs,ws)=>(match apartUps (us++ws)&&nodupK (offs (resOf xs))&&knownT (resOf xs)with|true=>some (resOf xs,outs)|false=>none)
  |none=>none
def resE (fn:FnS) (args:List AV):Xt→St→Rs:=fun r S=>match r with
 | .exit _=>none
 | .normal=>(match resKn fn.results S.t with|true=>outE cx fn args S|false=>none)
 | .ret=>(match resKn fn.results S.t with|true=>outE cx fn args S|false=>none)
def loopE (fn:FnS) (args:List AV):Nat→Nat→St→Rs
 |0,_,_=>none
 |n+1,l,S=>match atT (tabE cx C lv.shp fn.keep (ioMask 0 fn.modes) fn.noMove lv (loopE fn args n) fn.body 0 (resE cx fn args)) l with
  |some (b,K)=>codeE cx C lv.shp fn.keep (ioMask 0 fn.modes) fn.noMove lv (loopE fn args n) b l S (lopK lv (loopE fn args n) l K)
  |none=>none
def labs:Code→Nat→List Nat
 | .seq a b,l=>labs a l++labs b l
 | .cond _ a b,l=>labs a l++labs b l
 | .block id b,_=>labs b id
 | .loop b,l=>l::labs b l
 |_,_=>[]
def nodupN:List Nat→Bool
 |[]=>true
 |n::l=>l.all (fun m=> !Nat.beq n m)&&nodupN l
def fnE (fn:FnS) (n:Nat) (args:List AV):Rs:=
 match apartUps (entryL 0 args).2&&nodupN (labs fn.body 0)with
 |false=>none
 |true=>fVH (sel lv.ent (entryT 0 (entryL 0 args).1 (unT fn.keep fn.ntmps))) fun t=>codeE cx C lv.shp fn.keep (ioMask 0 fn.modes) fn.noMove lv (loopE cx C lv fn args n) fn.body 0 ⟨t,Up.apps (entryL 0 args).2 [],[],false⟩ (resE cx fn args)
end Go.Am
end
section
namespace Go.Am
variable {cx:Cx} {O:List Ent} {C:CallF} {keep io:Nat} {ops:Array Oper} {draw:Bool} {nm:List Nat} {lv:Lvs} {x:AV×List AV}
theorem br_some {b:Bool} {p q:Rs} (h:br b p q=some x):(b=true∧p=some x)∨(b=false∧q=some x):=by
 cases b with
 |true=>exact .inl ⟨rfl,h⟩
 |false=>exact .inr ⟨rfl,h⟩
theorem rq_some {b:Bool} {p:Rs} (h:rq b p=some x):b=true∧p=some x:=by
 cases b with
 |true=>exact⟨rfl,h⟩
 |false=>cases h
theorem asI_some {k:IntKind} {v:AV} {K:Int→Rs} (h:asI k v K=some x):∃n,v=.int k n∧K n=some x:=by
 unfold asI at h
 split at h
 ·split at h
  ·rename_i hd;obtain rfl:=of_decide_eq_true hd;exact⟨_,rfl,h⟩
  ·cases h
 ·cases h
theorem asB_some {v:AV} {K:Bool→Rs} (h:asB v K=some x):∃n,v=.bool n∧K n=some x:=by
 unfold asB at h
 split at h
 ·exact⟨_,rfl,h⟩
 ·cases h
theorem asS_some {v:AV} {K:ByteArray→Rs} (h:asS v K=some x):∃n,v=.str n∧K n=some x:=by
 unfold asS at h
 split at h
 ·exact⟨_,rfl,h⟩
 ·cases h
theorem asF_some {v:AV} {K:Nat→Nat→List AV→Rs} (h:asF v K=some x):∃a b c,v=.fz a b c∧K a b c=some x:=by
 unfold asF at h
 split at h
 ·exact⟨_,_,_,rfl,h⟩
 ·cases h
theorem asG_some {v:AV} {K:List AV→Rs} (h:asG v K=some x):∃n,v=.agg n∧K n=some x:=by
 unfold asG at h
 split at h
 ·exact⟨_,rfl,h⟩
 ·cases h
theorem asT_some {v:AV} {K:List AV→Rs} (h:asT v K=some x):∃n,v=.tup n∧K n=some x:=by
 unfold asT at h
 split at h
 ·exact⟨_,rfl,h⟩
 ·cases h
theorem cN_some {l:List AV} {K:Rs} (h:cN l K=some x):l=[]∧K=some x:=by
 unfold cN at h
 split at h
 ·exact⟨rfl,h⟩
 ·cases h
theorem castL_some:∀{ks:List TyK} {l:List AV} {K:List AV→Rs},castL ks l K=some x→K l=some x
 |[],l,K,h=>by obtain⟨rfl,h⟩:=cN_some h;exact h
 |k::ks,l,K,h=>by
  cases k<;>simp only[castL]at h
  ·unfold cI at h
   split at h
   ·split at h
    ·rename_i hd;obtain rfl:=of_decide_eq_true hd;exact castL_some (K:=fun r=>K (_::r)) h
    ·cases h
   ·cases h
  ·unfold cB at h
   split at h
   ·exact castL_some (K:=fun r=>K (_::r)) h
   ·cases h
  ·unfold cS at h
   split at h
   ·exact castL_some (K:=fun r=>K (_::r)) h
   ·cases h
  ·cases h
  ·unfold cF at h
   split at h
   ·exact castL_some (K:=fun r=>K (_::r)) h
   ·cases h
  ·cases h
  ·cases h
  ·cases h
theorem castE_some {ty:Nat} {v:AV} {K:AV→Rs} (h:castE cx ty v K=some x):K v=some x:=by
 unfold castE at h
 split at h
 ·obtain⟨_,rfl,h'⟩:=asI_some h;exact h'
 ·obtain⟨_,rfl,h'⟩:=asB_some h;exact h'
 ·obtain⟨_,rfl,h'⟩:=asS_some h;exact h'
 ·obtain⟨_,_,_,rfl,h'⟩:=asF_some h;exact h'
 ·obtain⟨_,rfl,h'⟩:=asG_some h;exact castL_some (K:=fun cs=>K (.agg cs)) h'
 ·cases h
theorem nthE_some {es:List AV} {i:Nat} {K:AV→Rs} (h:nthE es i K=some x):∃c,es[i]?=some c∧K c=some x:=by
 unfold nthE at h
 split at h
 ·exact⟨_,by assumption,h⟩
 ·cases h
def Gd (cx:Cx) (O:List Ent) (keep:Nat) (S:St) (o:Oper) (e:Eff):Prop:=
 (∀call,opX cx call keep S o=some e)∨∃f vs r,Ans cx O f vs r∧∀call:CallF,call f vs=some r→opX cx call keep S o=some e
theorem callX_none {s:St} {d f:Nat} {args:List AV}:callX cx (fun _ _=>none) s d f args=none:=by
 unfold callX
 split
 ·rfl
 ·split
  ·rfl
  ·rw[fDL_eq]
theorem opX_none {S:St} {o:Oper} {e:Eff} (h:opX cx (fun _ _=>none) keep S o=some e) (call:CallF):opX cx call keep S o=some e:=by
 unfold opX at h ⊢
 split at h<;>try exact h
 rename_i c ho
 unfold oCall at h ⊢
 split at h
 ·exact h
 ·rw[callX_none]at h;cases h
 ·exact h
theorem genE_some {S:St} {o:Oper} {K:Eff→Rs} (h:genE cx keep o S K=some x):∃e,Gd cx O keep S o e∧K e=some x:=by
 unfold genE at h
 split at h
 ·exact⟨_,.inl fun call=>opX_none (by assumption) call,h⟩
 ·cases h
theorem ldE_some {ty off:Nat} {e:AV} {K:AV→Rs} {S:St} (h:ldE cx ty e off K=some x):∃v,(∀lab,oLoad cx S ty (.fp lab e off)=some ⟨v,[],[]⟩)∧K v=some x:=by
 unfold ldE at h
 split at h
 ·rename_i i hi
  split at h
  ·rename_i ha
   have h:=castL_some h
   split at h
   ·rename_i hl
    refine⟨_,fun lab=>?_,h⟩
    simp only[oLoad,hi,hl,cond_true,mkVal,ha,if_true,pureE]
   ·cases h
  ·rename_i ha
   split at h
   ·rename_i hs
    obtain⟨c,h1,h⟩:=nthE_some h
    have h:=castE_some h
    refine⟨c,fun lab=>?_,h⟩
    have e1:i.size=1:=Nat.eq_of_beq_eq_true hs
    have e2:((cells e).drop off).take 1=[c]:=by
     have hlt:off<(cells e).length:=by
      rcases Nat.lt_or_ge off (cells e).length with h|h
      ·exact h
      ·rw[List.getElem?_eq_none h]at h1;cases h1
     rw[List.drop_eq_getElem_cons hlt]
     rw[List.getElem?_eq_getElem hlt]at h1
     rw[Option.some.inj h1];rfl
    simp only[oLoad,hi,e1,e2,List.length_cons,List.length_nil,Nat.zero_add,Nat.beq_refl,cond_true,mkVal,ha,Bool.false_eq_true,if_false,pureE]
   ·cases h
 ·cases h
theorem ble_le {a b:Nat} (h:Nat.ble a b=true):a≤b:=Nat.le_of_ble_eq_true h
theorem beq_eq {a b:Nat} (h:Nat.beq a b=true):a=b:=Nat.eq_of_beq_eq_true h
theorem asO_some {v:AV} {K:Nat→List AV→Rs} (h:asO v K=some x):∃a b,v=.ow a b∧K a b=some x:=by
 unfold asO at h
 split at h
 ·exact⟨_,_,rfl,h⟩
 ·cases h
theorem asX_some {v:AV} {K:AV→Rs} (h:asX v K=some x):∃a,v=.bx a∧K a=some x:=by
 unfold asX at h
 split at h
 ·exact⟨_,rfl,h⟩
 ·cases h
theorem c1_some {l:List AV} {K:AV→Rs} (h:c1 l K=some x):∃a,l=[a]∧K a=some x:=by
 unfold c1 at h
 split at h
 ·exact⟨_,rfl,h⟩
 ·cases h
theorem szE_some {e z:Nat} {K:Nat→Rs} (h:szE cx e z K=some x):K z=some x:=by
 unfold szE at h
 split at h
 ·obtain⟨h1,h⟩:=rq_some h
  rw[beq_eq h1];exact h
 ·cases h
theorem castS_some:∀{ks:List TyK} {sh:List Nat} {l:List AV} {K:List AV→Rs},castS cx ks sh l K=some x→K l=some x
 |[],sh,l,K,h=>by obtain⟨rfl,h⟩:=cN_some h;exact h
 |k::ks,sh,l,K,h=>by
  cases k<;>simp only[castS]at h
  ·unfold cI at h
   split at h
   ·split at h
    ·rename_i hd;obtain rfl:=of_decide_eq_true hd;exact castS_some (K:=fun r=>K (_::r)) h
    ·cases h
   ·cases h
  ·unfold cB at h
   split at h
   ·exact castS_some (K:=fun r=>K (_::r)) h
   ·cases h
  ·unfold cS at h
   split at h
   ·exact castS_some (K:=fun r=>K (_::r)) h
   ·cases h
  ·cases h
  ·split at h
   ·unfold cO at h
    split at h
    ·exact castS_some (K:=fun r=>K (_::r)) (szE_some h)
    ·cases h
   ·unfold cM at h
    split at h
    ·exact castS_some (K:=fun r=>K (_::r)) (szE_some h)
    ·exact castS_some (K:=fun r=>K (_::r)) h
    ·cases h
   ·unfold cA at h
    split at h
    ·exact castS_some (K:=fun r=>K (_::r)) h
    ·cases h
   ·unfold cF at h
    split at h
    ·exact castS_some (K:=fun r=>K (_::r)) h
    ·cases h
  ·cases h
  ·cases h
  ·cases h
theorem castO_some {sh:List Nat} {ty:Nat} {v:AV} {K:AV→Rs} (h:castO cx sh ty v K=some x):K v=some x:=by
 unfold castO at h
 split at h
 ·obtain⟨_,rfl,h'⟩:=asI_some h;exact h'
 ·obtain⟨_,rfl,h'⟩:=asB_some h;exact h'
 ·obtain⟨_,rfl,h'⟩:=asS_some h;exact h'
 ·split at h
  ·obtain⟨_,_,rfl,h'⟩:=asO_some h;exact szE_some (K:=fun z=>K (.ow z _)) h'
  ·unfold asM at h
   split at h
   ·exact szE_some (K:=fun z=>K (.ow z _)) h
   ·exact h
   ·cases h
  ·obtain⟨_,_,_,rfl,h'⟩:=asF_some h;exact h'
 ·obtain⟨_,rfl,h'⟩:=asG_some h;exact castS_some (K:=fun cs=>K (.agg cs)) h'
 ·obtain⟨v',rfl,h'⟩:=asX_some h
  split at h'
  ·obtain⟨_,rfl,h2⟩:=asG_some h';exact castS_some (K:=fun cs=>K (.bx (.agg cs))) h2
  ·obtain⟨_,rfl,h2⟩:=asI_some h';exact h2
  ·cases h'
 ·cases h
theorem nodeE_some {S:St} {pl:Pl} {K:Nat→List AV→Rs} (h:nodeE S pl K=some x):∃sz es,look S true pl=some (.ow sz es)∧K sz es=some x:=by
 unfold nodeE at h
 split at h
 ·exact⟨_,_,by assumption,h⟩
 ·cases h
theorem abE_some {S:St} {a:AV} {K:K3 AV} (h:abE S a K=some x):∃y r u,absorb1 S a=some (y,r,u)∧K y r u=some x:=by
 unfold abE at h
 split at h
 ·rename_i sz pl off len
  split at h
  ·rename_i hal;exact⟨_,_,_,by simp[absorb1,hal],h⟩
  ·rename_i hal
   obtain⟨sz',es,h1,h⟩:=nodeE_some h
   split at h
   ·rename_i h2
    obtain⟨h3,g1⟩:=rq_some h
    obtain⟨h4,g2⟩:=rq_some g1
    clear h g1
    obtain rfl:=beq_eq h3
    obtain rfl:=beq_eq h4
    exact⟨_,_,_,by simp[absorb1,hal,h1,beq_eq h2],g2⟩
   ·cases h
 ·split at h
  ·exact⟨_,_,_,by assumption,h⟩
  ·cases h
theorem ablE_some {S:St}:∀{l:List AV} {K:K3 (List AV)},ablE S l K=some x→∃y r u,absorbL S l=some (y,r,u)∧K y r u=some x
 |[],K,h=>⟨_,_,_,rfl,h⟩
 |a::l,K,h=>by
  obtain⟨y,r,u,h1,h⟩:=abE_some h
  obtain⟨y',r',u',h2,h⟩:=ablE_some h
  exact⟨_,_,_,by simp only[absorbL,h1,h2],h⟩
theorem abaE_some {S:St} {a:AV} {K:K3 AV} (h:abaE S a K=some x):∃y r u,absorbE S a=some (y,r,u)∧K y r u=some x:=by
 unfold abaE at h
 split at h
 ·obtain⟨y,r,u,h1,h⟩:=ablE_some h
  exact⟨_,_,_,by simp only[absorbE,h1],h⟩
 ·rename_i hn
  obtain⟨y,r,u,h1,h⟩:=abE_some h
  refine⟨y,r,u,?_,h⟩
  cases a<;>first|exact h1|exact absurd rfl (hn _)
theorem pnE_some {S:St} {pl:Pl} {i:Nat}:∀{l:List AV} {off:Nat} {K:K3 (List AV)},pnE S pl i off l K=some x→∃y r u,putNew S pl i off l=some (y,r,u)∧K y r u=some x
 |[],_,K,h=>⟨_,_,_,rfl,h⟩
 |a::l,off,K,h=>by
  obtain⟨y,r,u,h1,h⟩:=abE_some h
  obtain⟨y',r',u',h2,h⟩:=pnE_some h
  cases u with
  |nil=>exact⟨_,_,_,by simp only[putNew,h1,h2],h⟩
  |cons u0 us=>exact⟨_,_,_,by simp only[putNew,h1,h2],h⟩
theorem peE_some {S:St} {pl:Pl} {i:Nat} {e:AV} {K:K3 AV} (h:peE S pl i e K=some x):∃y r u,putEl S pl i e=some (y,r,u)∧K y r u=some x:=by
 unfold peE at h
 split at h
 ·obtain⟨y,r,u,h1,h⟩:=pnE_some h
  exact⟨_,_,_,by simp only[putEl,h1],h⟩
 ·rename_i hn
  obtain⟨y,r,u,h1,h⟩:=pnE_some h
  split at h
  ·refine⟨_,r,u,?_,h⟩
   cases e<;>first|(simp only[putEl,h1];done)|exact absurd rfl (hn _)
  ·cases h
theorem ps1E_some {S:St} {dst:Pl} {a:AV} {K:K3 AV} (h:ps1E S keep dst a K=some x):∃y r u,putSt1 S keep dst a=some (y,r,u)∧K y r u=some x:=by
 unfold ps1E at h
 split at h
 ·rename_i sz pl off len
  split at h
  ·rename_i hal;exact⟨_,_,_,by simp[putSt1,hal],h⟩
  ·rename_i hal
   split at h
   ·rename_i hl
    split at h
    ·rename_i hu
     exact⟨_,_,_,by simp only[putSt1,hal,Bool.false_eq_true,if_false,hl,if_true,hu,cond_true],h⟩
    ·cases h
   ·rename_i hl
    split at h
    ·rename_i hp
     obtain⟨sz',es,h1,h⟩:=nodeE_some h
     split at h
     ·rename_i h2
      obtain⟨h3,h⟩:=rq_some h
      exact⟨_,_,_,by simp only[putSt1,hal,Bool.false_eq_true,if_false,hl,hp,if_true,h1,beq_eq h2,ble_le h3,and_self],h⟩
     ·cases h
    ·rename_i hp
     obtain⟨y,r,u,h1,h⟩:=abE_some h
     exact⟨_,_,_,by simp only[putSt1,hal,Bool.false_eq_true,if_false,hl,hp,h1],h⟩
 ·split at h
  ·exact⟨_,_,_,by assumption,h⟩
  ·cases h
theorem psE_some {S:St} {pl:Pl} {i:Nat}:∀{l:List AV} {off:Nat} {K:List Rd→List Up→Rs},psE S keep pl i off l K=some x→∃r u,putSt S keep pl i off l=some (r,u)∧K r u=some x
 |[],_,K,h=>⟨_,_,rfl,h⟩
 |a::l,off,K,h=>by
  obtain⟨y,r,u,h1,h⟩:=ps1E_some h
  obtain⟨r',u',h2,h⟩:=psE_some h
  exact⟨_,_,by simp only[putSt,h1,h2],h⟩
theorem elE_some {S:St} {sz:Nat} {a:AV} {K:K3 (List AV)} (h:elE S sz a K=some x):∃y r u,elems S sz a=some (y,r,u)∧K y r u=some x:=by
 unfold elE at h
 split at h
 ·obtain⟨h1,h⟩:=rq_some h
  simp only[Bool.or_eq_true]at h1
  refine⟨_,_,_,?_,h⟩
  simp only[elems]
  rw[if_pos (h1.imp beq_eq (fun h=>List.isEmpty_iff.1 h))]
 ·obtain⟨sz'',es,h1,h⟩:=nodeE_some h
  split at h
  ·rename_i h2
   simp only[Bool.and_eq_true]at h2
   obtain⟨h3,h⟩:=rq_some h
   obtain⟨h4,h⟩:=rq_some h
   refine⟨_,_,_,?_,h⟩
   simp only[elems,h1]
   rw[if_pos ⟨beq_eq h2.1,beq_eq h2.2,ble_le h3⟩,if_pos h4]
  ·cases h
 ·split at h
  ·exact⟨_,_,_,by assumption,h⟩
  ·cases h
theorem ap1E_some {S:St} {d sz bytes:Nat} {a:AV} {new:List AV} {rs:List Rd} {us:List Up} {K:Eff→Rs} (h:ap1E S d sz bytes a new rs us K=some x):∃e,oApp1 S d sz bytes a new rs us=some e∧K e=some x:=by
 unfold ap1E at h
 rcases br_some h with⟨h0,h⟩|⟨h0,h⟩
 ·obtain rfl:=List.isEmpty_iff.1 h0
  split at h
  ·split at h
   ·rename_i h1;exact⟨_,by simp only[oApp1,h1,cond_true],h⟩
   ·cases h
  ·split at h
   ·rename_i h1;exact⟨_,by simp only[oApp1,h1,cond_true],h⟩
   ·cases h
  ·cases h
 ·obtain⟨n0,ns,rfl⟩:∃n0 ns,new=n0::ns:=by
   cases new with
   |nil=>cases h0
   |cons n0 ns=>exact⟨_,_,rfl⟩
  split at h
  ·obtain⟨h1,h⟩:=rq_some h
   obtain⟨h2,h⟩:=rq_some h
   obtain⟨h3,h⟩:=rq_some h
   obtain⟨h4,h⟩:=rq_some h
   split at h
   ·rename_i h5
    simp only[Bool.and_eq_true]at h5
    exact⟨_,by simp only[oApp1,h1,h2,h3,h4,h5.1,h5.2,Bool.and_self,cond_true],h⟩
   ·cases h
  ·obtain⟨sz'',es,h1,h⟩:=nodeE_some h
   split at h
   ·rename_i h5
    simp only[Bool.and_eq_true]at h5
    obtain⟨h2,g1⟩:=rq_some h
    obtain⟨h3,g2⟩:=rq_some g1
    obtain⟨h4,g3⟩:=rq_some g2
    obtain⟨h6,g4⟩:=rq_some g3
    clear h g1 g2 g3
    obtain rfl:=beq_eq h2
    obtain rfl:=beq_eq h3
    refine⟨_,?_,g4⟩
    simp only[oApp1,h1,h4,h6,h5.1.1.1,h5.1.1.2,h5.1.2,h5.2,Nat.zero_add,Nat.ble_eq_true_of_le (Nat.le_refl _),Bool.and_self,cond_true,List.drop_zero,List.take_length,List.length_append]
   ·cases h
  ·cases h
theorem appE_some {S:St} {d:Option Nat} {tys:List Nat} {args:List AV} {K:Eff→Rs} (h:appE cx S d tys args K=some x):∃e,oAppend cx S d tys args=some e∧K e=some x:=by
 unfold appE at h
 split at h
 ·split at h
  ·cases h
  ·rename_i h1 h2
   split at h
   ·rename_i ei hT
    obtain⟨y,r,u,h3,h⟩:=elE_some h
    obtain⟨e,h4,h⟩:=ap1E_some h
    refine⟨e,?_,h⟩
    unfold oAppend
    simp only
    split<;>first
     |(simp_all;done)
     |(exfalso;simp_all;subst_vars;simp_all;done)
   ·cases h
  ·cases h
 ·cases h
theorem vwE_some {S:St} {a:AV} {K:Ex→Rs} (h:vwE S a K=some x):∃y,expV1 S a=some y∧K y=some x:=by
 unfold vwE at h
 split at h
 ·obtain⟨sz',es,h1,h⟩:=nodeE_some h
  split at h
  ·rename_i h2
   obtain⟨h3,h⟩:=rq_some h
   refine⟨_,?_,h⟩
   simp only[expV1,h1]
   rw[if_pos ⟨beq_eq h2,ble_le h3⟩]
  ·cases h
 ·split at h
  ·exact⟨_,by assumption,h⟩
  ·cases h
theorem vlE_some {S:St}:∀{l:List AV} {K:List AV→List Rd→Bool→Rs},vlE S l K=some x→∃y r b,expVL S l=some (y,r,b)∧K y r b=some x
 |[],K,h=>⟨_,_,_,rfl,h⟩
 |a::l,K,h=>by
  obtain⟨y,h1,h⟩:=vwE_some h
  obtain⟨y',r',b',h2,h⟩:=vlE_some h
  exact⟨_,_,_,by simp only[expVL,h1,h2],h⟩
theorem eaE_some {S:St} {ty:Nat} {m:Md} {a:AV} {K:Ex→Rs} (h:eaE cx S ty m a K=some x):∃y,expArg cx S ty m a=some y∧K y=some x:=by
 unfold eaE at h
 split at h
 ·split at h
  ·obtain⟨y,r,b,h1,h⟩:=vlE_some h
   exact⟨_,by simp only[expArg,h1],h⟩
  ·rename_i hn
   obtain⟨y,h1,h⟩:=vwE_some h
   refine⟨y,?_,h⟩
   cases a<;>first|exact h1|exact absurd rfl (hn _)
 ·obtain⟨y,r,u,h1,h⟩:=abaE_some h
  exact⟨_,by simp only[expArg,h1],h⟩
 ·obtain⟨y,r,u,h1,h⟩:=abaE_some h
  exact⟨_,by simp only[expArg,h1],h⟩
 ·split at h
  ·exact⟨_,by assumption,h⟩
  ·cases h
theorem easE_some {S:St}:∀{l:List AV} {tys:List Nat} {ms:List Md} {K:Exs→Rs},easE cx S tys ms l K=some x→∃y,expArgs cx S tys ms l=some y∧K y=some x
 |[],tys,ms,K,h=>by
  cases tys<;>cases ms<;>exact⟨_,rfl,h⟩
 |a::l,ty::tys,m::ms,K,h=>by
  obtain⟨y,h1,h⟩:=eaE_some h
  obtain⟨y',h2,h⟩:=easE_some h
  split at h
  ·cases h
  ·rename_i ht
   exact⟨_,by simp only[expArgs,h1,h2,ht,Bool.false_eq_true,if_false],h⟩
 |a::l,[],ms,K,h=>by cases h
 |a::l,_::_,[],K,h=>by cases h
theorem nlL_some:∀{l:List AV} {K:Rs},nlL l K=some x→noLkL l=true∧K=some x
 |[],K,h=>⟨rfl,h⟩
 |a::l,K,h=>by
  obtain⟨h1,h⟩:=rq_some h
  obtain⟨h2,h⟩:=nlL_some h
  exact⟨by simp only[noLkL,h1,h2,Bool.and_self],h⟩
theorem nlA_some {a:AV} {K:Rs} (h:nlA a K=some x):noLk a=true∧K=some x:=by
 unfold nlA at h
 split at h
 ·split at h
  ·obtain⟨h1,h⟩:=nlL_some h;exact⟨by simp only[noLk,h1],h⟩
  ·obtain⟨h1,h⟩:=rq_some h;exact⟨by simp only[noLk,h1],h⟩
 ·obtain⟨h1,h⟩:=nlL_some h;exact⟨by simp only[noLk,h1],h⟩
 ·obtain⟨h1,h⟩:=rq_some h;exact⟨h1,h⟩
theorem nlV_some:∀{l:List AV} {K:Rs},nlV l K=some x→noLkL l=true∧K=some x
 |[],K,h=>⟨rfl,h⟩
 |a::l,K,h=>by
  obtain⟨h1,h⟩:=nlA_some h
  obtain⟨h2,h⟩:=nlV_some h
  exact⟨by simp only[noLkL,h1,h2,Bool.and_self],h⟩
theorem nlH_some:∀{l:Hp} {K:Rs},nlH l K=some x→noLkH l=true∧K=some x
 |[],K,h=>⟨rfl,h⟩
 |(_,a)::l,K,h=>by
  obtain⟨h1,h⟩:=nlA_some h
  obtain⟨h2,h⟩:=nlH_some h
  exact⟨by simp only[noLkH,h1,h2,Bool.and_self],h⟩
theorem outC_some {sh tys:List Nat} {ms:List Md} {is:List IoR} {l:List AV} {K:List AV→Rs} (h:outC cx sh tys ms is l K=some x):K l=some x∧(is=[]∧l=[]∨∃ps v,is=[.cells ps]∧l=[v]∧noLk v=true):=by
 unfold outC at h
 split at h
 ·obtain⟨rfl,h⟩:=cN_some h;exact⟨h,.inl ⟨rfl,rfl⟩⟩
 ·obtain⟨v,rfl,h⟩:=c1_some h
  split at h
  ·have h:=castO_some (K:=fun v=>nlA v (K [v])) h
   obtain⟨h1,h⟩:=nlA_some h
   exact⟨h,.inr ⟨_,_,rfl,rfl,h1⟩⟩
  ·cases h
 ·cases h
theorem nl_zipU:∀{ps:List Pl} {cs:List AV},noLkL cs=true→(List.zipWith Up.set ps cs).any isLkU=false
 |[],_,_=>by simp
 |_::_,[],_=>by simp
 |p::ps,c::cs,h=>by
  simp only[noLkL,Bool.and_eq_true]at h
  simp only[List.zipWith_cons_cons,List.any_cons,nl_zipU h.2,Bool.or_false]
  cases c<;>first|rfl|(simp[noLk]at h)
theorem ioUps_nl {is:List IoR} {l:List AV} {us:List Up} (hi:ioUps is l=some us) (h:is=[]∧l=[]∨∃ps v,is=[.cells ps]∧l=[v]∧noLk v=true):us.any isLkU=false:=by
 rcases h with⟨rfl,rfl⟩|⟨ps,v,rfl,rfl,hv⟩
 ·cases hi;rfl
 ·cases v with
  |bx e=>
   simp only[ioUps]at hi
   split at hi
   ·cases hi
    rw[List.append_nil]
    refine nl_zipU ?_
    rw[noLk]at hv
    cases e<;>simp_all[cells,noLk,noLkL]
   ·cases hi
  |_=>simp[ioUps,oops]at hi
theorem resC_some {own:Bool} {sh:List Nat} {ty:Nat} {rs:List ResultVar} {v:AV} {K:AV→Rs} (h:resC cx own sh ty rs v K=some x):K v=some x:=by
 unfold resC at h
 split at h
 ·split at h
  ·exact castO_some h
  ·exact castE_some h
 ·obtain⟨vs,rfl,h⟩:=asT_some h;exact h
theorem rvC_some {own:Bool} {sh:List Nat} {ty base:Nat} {rs:List ResultVar} {v:AV} {K:AV→AV→List Up→Rs} (h:rvC cx own sh ty base rs v K=some x):∃w us,(if own then imp base v else(frz 0 v,[]))=(w,us)∧K v w us=some x:=by
 unfold rvC at h
 split at h
 ·have h:=resC_some h
  dsimp only at h
  exact⟨(imp base v).1,(imp base v).2,by rw[if_pos rfl],h⟩
 ·split at h
  ·split at h
   ·exact⟨_,_,rfl,castE_some h⟩
   ·exact⟨_,_,rfl,castE_some h⟩
   ·exact⟨_,_,rfl,castE_some (K:=fun v=>K v (frz 0 v) []) h⟩
  ·obtain⟨vs,rfl,h⟩:=asT_some h
   refine⟨.tup (frzL 0 vs),[],?_,h⟩
   rw[if_neg (by simp),frz]
theorem callE_some (hC:∀f vs r,C f vs=some r→Ans cx O f vs r) {sh:List (Nat×List Nat×List Nat)} {o:Oper} {S:St} {c:Call} {f:Nat} {K:Eff→Rs} (h0:o.op=.call c) (h1:c.callee=.value (.func f)) (h:callE cx C sh o S f (c.args.toList.map (ev S)) K=some x):∃e,Gd cx O keep S o e∧K e=some x∧e.up.any isLkU=false:=by
 unfold callE at h
 split at h
 ·cases h
 ·rename_i fn hF
  obtain⟨y,hy,h⟩:=easE_some h
  split at h
  ·cases h
  ·rename_i hk
   simp only[Bool.and_eq_true,Bool.not_eq_true']at hk
   obtain⟨⟨⟨k1,k3⟩,k4⟩,k5⟩:=hk
   obtain⟨k2,h⟩:=nlV_some h
   unfold bindE at h
   split at h
   ·rename_i res outs hr
    obtain⟨h,ho⟩:=outC_some h
    obtain⟨v,us,hv,h⟩:=rvC_some h
    obtain⟨h2,h⟩:=rq_some h
    split at h
    ·cases h
    ·rename_i ius hi
     split at h
     ·rename_i h3
      simp only[Bool.and_eq_true]at h3
      refine⟨_,.inr ⟨f,y.vs,_,hC _ _ _ hr,fun call hc=>?_⟩,h,?_⟩
      ·obtain⟨t,hh,d,al⟩:=S
       have hl:(y.lent&& !(noLent res&&noLentL outs))=false:=by revert h2;cases y.lent<;>cases (noLent res&&noLentL outs)<;>simp
       have:=op_call (cx:=cx) (keep:=keep) (o:=o) h0 h1 hF hy (res:=res) (outs:=outs) (ius:=ius) (r:=(v,us)) hl hi hv
        (by simp only at k1;subst k1;rw[k2,k3,h3.1.1,h3.1.2];rfl) hc
       exact this
      ·simp only[List.any_append,k5,ioUps_nl hi ho,Bool.false_or]
       rw[List.any_eq_false]
       intro u hu
       have:=List.all_eq_true.1 h3.2 u hu
       cases u<;>first|(simp[isLkU];done)|(simp[Up.isNew]at this)
     ·cases h
   ·cases h
theorem bdE_some {o:Option AV} {d l:Nat} {K:Nat→Rs} (h:bdE o d l K=some x):∃n,bound o d l=some n∧K n=some x:=by
 unfold bdE at h
 split at h
 ·exact⟨_,rfl,h⟩
 ·obtain⟨h1,h⟩:=rq_some h
  obtain⟨h2,h⟩:=rq_some h
  exact⟨_,by simp only[bound,h1,h2,Bool.and_self,cond_true],h⟩
 ·cases h
theorem castL_plain:∀{ks:List TyK} {l:List AV} {K:List AV→Rs},castL ks l K=some x→l.all plainCell=true
 |[],l,K,h=>by obtain⟨rfl,h⟩:=cN_some h;rfl
 |k::ks,l,K,h=>by
  cases k<;>simp only[castL]at h
  ·unfold cI at h
   split at h
   ·split at h
    ·simp only[List.all_cons,plainCell,Bool.true_and];exact castL_plain h
    ·cases h
   ·cases h
  ·unfold cB at h
   split at h
   ·simp only[List.all_cons,plainCell,Bool.true_and];exact castL_plain h
   ·cases h
  ·unfold cS at h
   split at h
   ·simp only[List.all_cons,plainCell,Bool.true_and];exact castL_plain h
   ·cases h
  ·cases h
  ·unfold cF at h
   split at h
   ·simp only[List.all_cons,plainCell,Bool.true_and];exact castL_plain h
   ·cases h
  ·cases h
  ·cases h
  ·cases h
theorem castE_plain {ty:Nat} {v:AV} {K:AV→Rs} (hn:∀cs,v≠.agg cs) (h:castE cx ty v K=some x):plainCell v=true:=by
 unfold castE at h
 split at h
 ·obtain⟨_,rfl,h'⟩:=asI_some h;rfl
 ·obtain⟨_,rfl,h'⟩:=asB_some h;rfl
 ·obtain⟨_,rfl,h'⟩:=asS_some h;rfl
 ·obtain⟨_,_,_,rfl,h'⟩:=asF_some h;rfl
 ·obtain⟨_,rfl,h'⟩:=asG_some h;exact absurd rfl (hn _)
 ·cases h
theorem ldE_ptr {ty off k sz:Nat} {a:AV} {es:List AV} {K:AV→Rs} {S:St} {pl:Pl} {i:TyI} {o:Oper} {p:Operand} (h:ldE cx ty a off K=some x) (ho:o.op=.load ty p) (hp:ev S p=.ptr pl k off) (hg:getP S.h pl=some (.ow sz es)) (hi:cx.T ty=some i) (he:es[k]?=some a)
  (hd:S.d.all (fun u=> !Nat.beq u.pl.r pl.r)=true) (hz:Nat.beq i.size 0=false):∃v,(∀call,opX cx call keep S o=some ⟨v,rdCells pl k off i.size,[]⟩)∧K v=some x:=by
 obtain⟨t,hh,d,al⟩:=S
 have hd':∀j,d.any (·.hits ⟨pl.cell k j,false⟩)=false:=fun j=>by
  rw[List.any_eq_false]
  intro u hu
  have h1:=List.all_eq_true.1 hd u hu
  simp only[Bool.not_eq_true']at h1
  have h2:∀q:Pl,q.r=u.pl.r→Pl.pre q (pl.cell k j)=false:=fun q hq=>by
   simp only[Pl.pre,Pl.cell,hq,h1,Bool.false_and]
  cases u with
  |set q b=>simp only[Up.hits,Bool.false_and,Bool.or_false,h2 q rfl];simp
  |fill q b=>simp only[Up.hits,Up.pl]at h1 ⊢;simp only[Pl.cell,h1];simp
  |inn q b=>simp only[Up.hits,Bool.false_and,Bool.or_false,h2 q rfl];simp
  |new r b=>simp only[Up.hits,Up.pl]at h1 ⊢;simp only[Pl.cell,h1];simp
  |del r=>simp only[Up.hits,Up.pl]at h1 ⊢;simp only[Pl.cell,h1];simp
 unfold ldE at h
 rw[hi]at h
 simp only at h
 split at h
 ·rename_i ha
  have hpl:=castL_plain h
  have h:=castL_some h
  split at h
  ·rename_i hl
   refine⟨_,fun call=>?_,h⟩
   exact op_ldr ho hi hp hg he hd' rfl (beq_eq hl) hz hpl (by simp only[mkVal,ha,if_true])
  ·cases h
 ·rename_i ha
  split at h
  ·rename_i hs
   obtain⟨c,h1,h⟩:=nthE_some h
   have e1:i.size=1:=beq_eq hs
   have e2:((cells a).drop off).take 1=[c]:=by
    have hlt:off<(cells a).length:=by
     rcases Nat.lt_or_ge off (cells a).length with h|h
     ·exact h
     ·rw[List.getElem?_eq_none h]at h1;cases h1
    rw[List.drop_eq_getElem_cons hlt]
    rw[List.getElem?_eq_getElem hlt]at h1
    rw[Option.some.inj h1];rfl
   have hna:∀cs,c≠.agg cs:=fun cs e=>by
    subst e
    unfold castE at h
    rw[Cx.kind,hi]at h
    simp only[TyI.isAgg]at ha
    simp only at h
    split at h
    ·obtain⟨_,h',_⟩:=asI_some h;cases h'
    ·obtain⟨_,h',_⟩:=asB_some h;cases h'
    ·obtain⟨_,h',_⟩:=asS_some h;cases h'
    ·obtain⟨_,_,_,h',_⟩:=asF_some h;cases h'
    ·rename_i hk
     rw[Option.some.inj hk]at ha;cases ha
    ·cases h
   have hpl:=castE_plain hna h
   have h:=castE_some h
   refine⟨c,fun call=>?_,h⟩
   exact op_ldr (cs:=[c]) ho hi hp hg he hd' (by rw[e1];exact e2) (by rw[e1];rfl) hz (by simp[hpl]) (by simp only[mkVal,ha,Bool.false_eq_true,if_false])
  ·cases h
theorem op_eql2' {S:St} {o:Oper} {ty:Nat} {p q:Operand} {pp:Nat} {a b c e:Int} {call:CallF} (hk:cx.flat ty=some [.int .i64,.int .i64]) (h0:o.op=.binOp .eql ty p q pp) (hx:ev S p=.agg [.int .i64 a,.int .i64 b]) (hy:ev S q=.agg [.int .i64 c,.int .i64 e]):
  opX cx call keep S o=some ⟨.bool (a==c&&b==e),[],[]⟩:=by
 simp only[opX,h0,oBin,binX,hx,hy,eqX,hk,cellsEq,cellEq,if_true]
 cases (a==c)<;>cases (b==e)<;>rfl
theorem op_neq2' {S:St} {o:Oper} {ty:Nat} {p q:Operand} {pp:Nat} {a b c e:Int} {call:CallF} (hk:cx.flat ty=some [.int .i64,.int .i64]) (h0:o.op=.binOp .neq ty p q pp) (hx:ev S p=.agg [.int .i64 a,.int .i64 b]) (hy:ev S q=.agg [.int .i64 c,.int .i64 e]):
  opX cx call keep S o=some ⟨.bool (!(a==c&&b==e)),[],[]⟩:=by
 simp only[opX,h0,oBin,binX,hx,hy,eqX,hk,cellsEq,cellEq,if_true]
 cases (a==c)<;>cases (b==e)<;>rfl
theorem opE_some (hC:∀f vs r,C f vs=some r→Ans cx O f vs r) {sh:List (Nat×List Nat×List Nat)} {o:Oper} {S:St} {K:Eff→Rs} (h:opE cx C sh keep o S K=some x):∃e,Gd cx O keep S o e∧K e=some x∧(lkOf o e=false→e.up.any isLkU=false):=by
 have key:(∃e,Gd cx O keep S o e∧K e=some x)→(∀c,o.op=.call c→∀v,c.callee≠.value v)→∃e,Gd cx O keep S o e∧K e=some x∧(lkOf o e=false→e.up.any isLkU=false):=by
  rintro ⟨e,h1,h2⟩ hn
  refine⟨e,h1,h2,fun h3=>?_⟩
  unfold lkOf at h3
  split at h3
  ·rename_i c hc
   split at h3
   ·rename_i v hv;exact absurd hv (hn c hc v)
   ·exact h3
  ·exact h3
 unfold opE at h
 split at h
 ·rename_i ty y ho
  refine key ?_ (fun c hc=>by rw[ho]at hc;cases hc)
  split at h
  ·rename_i lab e off he
   obtain⟨v,h1,h2⟩:=ldE_some (S:=S) h
   exact⟨_,.inl fun call=>by simp only[opX,ho,he,h1],h2⟩
  ·rename_i pl k off hp
   split at h
   ·rename_i sz es i hg hi
    split at h
    ·rename_i hc
     simp only[Bool.and_eq_true,Bool.not_eq_true']at hc
     unfold ixN at h
     split at h
     ·rename_i a ha
      obtain⟨v,h1,h2⟩:=ldE_ptr (S:=S) h ho hp hg hi ha hc.1 hc.2
      exact⟨_,.inl h1,h2⟩
     ·cases h
    ·cases h
   ·exact genE_some h
  ·exact genE_some h
 ·rename_i ty y ix ho
  refine key ?_ (fun c hc=>by rw[ho]at hc;cases hc)
  split at h
  ·rename_i lab sz es ik n e h1 h2 h3
   split at h
   ·rename_i ei h4
    unfold ixE at h
    split at h
    ·rename_i a ha
     obtain⟨h5,h⟩:=rq_some h
     refine⟨_,.inl fun call=>?_,h⟩
     simp only[opX,ho,h1,h2,oIndexAddr,h3,h4,ha,h5,cond_true,pureE]
    ·cases h
   ·cases h
  ·rename_i sz pl off len ik n e h1 h2 h3
   split at h
   ·rename_i ei h4
    obtain⟨h5,h⟩:=rq_some h
    obtain⟨h6,h⟩:=rq_some h
    split at h
    ·rename_i h7
     simp only[Bool.and_eq_true]at h7
     refine⟨_,.inl fun call=>?_,h⟩
     simp only[opX,ho,h1,h2,oIndexAddr,h3,h4,h5,h6,h7.1,h7.2,Bool.and_self,cond_true]
    ·cases h
   ·cases h
  ·exact genE_some h
 ·rename_i ty y ix ho
  refine key ?_ (fun c hc=>by rw[ho]at hc;cases hc)
  split at h
  ·rename_i b ik n h1 h2 h3
   unfold sxE at h
   split at h
   ·rename_i c hc
    refine⟨_,.inl fun call=>?_,h⟩
    simp only[opX,ho,h1,h2,oIndex,h3,hc,pureE]
   ·cases h
  ·cases h
 ·rename_i ty y lo hi ho
  refine key ?_ (fun c hc=>by rw[ho]at hc;cases hc)
  split at h
  ·rename_i nil sz es e h1 h2
   split at h
   ·rename_i ei h3
    obtain⟨a,h4,h⟩:=bdE_some h
    obtain⟨b,h5,h⟩:=bdE_some h
    obtain⟨h6,h⟩:=rq_some h
    refine⟨_,.inl fun call=>?_,h⟩
    simp only[opX,ho,oSlice,h1,h2,h3,h4,h5,h6,cond_true,pureE]
   ·cases h
  ·rename_i sz pl off len e h1 h2
   split at h
   ·rename_i ei h3
    obtain⟨a,h4,h⟩:=bdE_some h
    obtain⟨b,h5,h⟩:=bdE_some h
    split at h
    ·rename_i h6
     refine⟨_,.inl fun call=>?_,h⟩
     simp only[opX,ho,oSlice,h1,h2,h3,h4,h5,h6,cond_true]
    ·cases h
   ·cases h
  ·rename_i b h1 h2
   obtain⟨a,h4,h⟩:=bdE_some h
   obtain⟨c,h5,h⟩:=bdE_some h
   refine⟨_,.inl fun call=>?_,h⟩
   simp only[opX,ho,oSlice,h1,h2,h4,h5,pureE]
  ·cases h
 ·rename_i y ix ho
  refine key ?_ (fun c hc=>by rw[ho]at hc;cases hc)
  split at h
  ·rename_i vs h1
   obtain⟨c,h2,h⟩:=nthE_some h
   refine⟨_,.inl fun call=>?_,castE_some h⟩
   simp only[opX,ho,h1,oExtract,h2,pureE]
  ·cases h
 ·rename_i ty y ho
  refine key ?_ (fun c hc=>by rw[ho]at hc;cases hc)
  split at h
  ·rename_i d hd
   obtain⟨v,r,u,h1,h⟩:=peE_some h
   split at h
   ·rename_i h2
    refine⟨_,.inl fun call=>?_,h⟩
    simp only[opX,ho,oBox,hd,h1,h2,cond_true]
   ·cases h
  ·cases h
 ·rename_i ty a y ho
  refine key ?_ (fun c hc=>by rw[ho]at hc;cases hc)
  split at h
  ·rename_i i pl k off hi hp
   obtain⟨r,u,h1,h⟩:=psE_some h
   split at h
   ·rename_i h2
    refine⟨_,.inl fun call=>?_,h⟩
    simp only[opX,ho,oStore,hi,hp,h1,h2,cond_true]
   ·cases h
  ·cases h
 ·rename_i ty y k ok ho
  refine key ?_ (fun c hc=>by rw[ho]at hc;cases hc)
  split at h
  ·rename_i kt e r h1 h2
   split at h
   ·rename_i kd ei ks vs h3 h4 h5
    split at h
    ·rename_i z h6 h7
     unfold lkE at h
     split at h
     ·rename_i v hv
      have h:=castE_some h
      refine⟨_,.inl fun call=>?_,h⟩
      simp only[opX,ho,oLookup,h1,h2,h3,h4,h5,hv,h6,h7,cond_true]
     ·rename_i hv
      split at h
      ·rename_i hz
       refine⟨_,.inl fun call=>?_,h⟩
       simp only[opX,ho,oLookup,h1,h2,h3,h4,h5,hv,h6,h7,hz,Bool.and_self,cond_true]
      ·cases h
     ·cases h
    ·cases h
   ·cases h
  ·cases h
 ·rename_i ty m k v ho
  refine key ?_ (fun c hc=>by rw[ho]at hc;cases hc)
  split at h
  ·rename_i kt e r h1 h2
   split at h
   ·rename_i kd ks vs h3 h5
    split at h
    ·rename_i h6
     unfold mqE at h
     split at h
     ·rename_i q hq
      refine⟨_,.inl fun call=>?_,h⟩
      simp only[opX,ho,oMapUpdate,h1,h2,h3,h5,hq,h6,cond_true]
     ·cases h
    ·cases h
   ·cases h
  ·cases h
 ·rename_i ty p q pp ho
  refine key ?_ (fun c hc=>by rw[ho]at hc;cases hc)
  split at h
  ·rename_i a b c d h1 h2 h3
   exact⟨_,.inl fun call=>op_eql2' h3 ho h1 h2,h⟩
  ·exact genE_some h
 ·rename_i ty p q pp ho
  refine key ?_ (fun c hc=>by rw[ho]at hc;cases hc)
  split at h
  ·rename_i a b c d h1 h2 h3
   exact⟨_,.inl fun call=>op_neq2' h3 ho h1 h2,h⟩
  ·exact genE_some h
 ·rename_i c ho
  split at h
  ·obtain⟨e,h1,h2,h3⟩:=callE_some hC ho (by assumption) h
   exact⟨e,h1,h2,fun _=>h3⟩
  ·rename_i hc
   obtain⟨e,h1,h⟩:=appE_some h
   exact key ⟨e,.inl fun call=>by simp only[opX,ho,oCall,hc,oBuiltin,h1],h⟩ (fun c' hc' v hv=>by rw[ho]at hc';cases hc';rw[hc]at hv;cases hv)
  ·rename_i hn1 hn2
   refine key (genE_some h) (fun c' hc' v hv=>?_)
   rw[ho]at hc';cases hc'
   obtain⟨e,h1,h2⟩:=genE_some (O:=O) h
   rcases h1 with h1|⟨f,vs,r,h1,h3⟩
   ·have:=h1 (fun _ _=>none)
    simp only[opX,ho,oCall,hv]at this
    cases v<;>first|exact absurd hv (hn1 _)|(simp[oops]at this)
   ·have:=h3 (fun _ _=>some r) rfl
    simp only[opX,ho,oCall,hv]at this
    cases v<;>first|exact absurd hv (hn1 _)|(simp[oops]at this)
 ·rename_i hx
  exact key (genE_some h) (fun c hc=>absurd hc (by first|exact hx _|(intro e;exact hx _ e)))
theorem fV_eq (v:AV) (K:AV→Rs):fV v K=K v:=by cases v<;>rfl
theorem fVH_eq:∀(h:Hp) (K:Hp→Rs),fVH h K=K h
 |[],_=>rfl
 |(i,a)::h,K=>by simp only[fVH,fV_eq,fVH_eq h]
theorem fBH_eq:∀(h:Hp) (K:Hp→Rs),fBH h K=K h
 |[],_=>rfl
 |(i,a)::h,K=>by cases a<;>simp only[fBH,fV_eq,fBH_eq h]
theorem upsE_some:∀{us:List Up} {K:Rs},upsE io us K=some x→us.all (upOk io)=true∧K=some x
 |[],K,h=>⟨rfl,h⟩
 |u::us,K,h=>by
  cases u with
  |set pl a=>
   simp only[upsE]at h
   split at h
   ·cases h
   ·rename_i hp
    obtain⟨h1,h⟩:=rq_some h
    obtain⟨h2,h⟩:=upsE_some h
    exact⟨by simp only[List.all_cons,upOk,hp,h1,h2];rfl,h⟩
  |fill pl a=>
   simp only[upsE]at h
   split at h
   ·cases h
   ·rename_i hp
    obtain⟨h1,h⟩:=rq_some h
    obtain⟨h2,h⟩:=upsE_some h
    exact⟨by simp only[List.all_cons,upOk,hp,h1,h2];rfl,h⟩
  |inn pl a=>
   simp only[upsE]at h
   split at h
   ·rename_i hp
    obtain⟨h2,h⟩:=upsE_some h
    exact⟨by simp only[List.all_cons,upOk,hp,h2];rfl,h⟩
   ·cases h
  |new r a=>
   simp only[upsE]at h
   split at h
   ·cases h
   ·rename_i hp
    obtain⟨h2,h⟩:=upsE_some h
    exact⟨by simp only[List.all_cons,upOk,hp,h2];rfl,h⟩
  |del r=>
   obtain⟨h2,h⟩:=upsE_some (us:=us) h
   exact⟨by simp only[List.all_cons,upOk,h2];rfl,h⟩
theorem effE_some {k:Nat} {log:List (Nat×Eff)} {S:St} {o:Oper} {e:Eff} {K:St→Rs} (h:effE io ops draw k log S o e K=some x):
  e.up.all (upOk io)=true∧(draw=false∨checkX ops k e log=true)∧K ⟨putE S.t o.dst e.val,Up.apps e.up S.h,S.d++dn e.up,S.alias⟩=some x:=by
 unfold effE at h
 obtain⟨h1,h⟩:=upsE_some h
 split at h
 ·cases h
 ·rename_i h2
  refine⟨h1,by cases draw<;>simp_all,?_⟩
  rw[fV_eq]at h
  split at h
  ·rename_i h3
   rw[h3]
   simpa[Up.apps,dn]using h
  ·rename_i h3
   rw[fBH_eq]at h
   rw[h3];exact h
theorem hset_same:∀{h:Hp} {r:Nat} {a:AV},hget h r=some a→hset h r a=h
 |[],_,_,h=>by cases h
 |(k,y)::h,r,a,hh=>by
  unfold hset
  simp only[hget]at hh
  split
  ·rename_i e;rw[e,cond_true]at hh;rw[Option.some.inj hh]
  ·rename_i e;rw[e,cond_false]at hh;rw[hset_same hh]
theorem rfE_some {r:Nat}:∀{ks:List (Nat×TyK)} {cs:List AV} {S:St} {K:St→Rs},hget S.h r=some (.bx (.agg cs))→rfE cx r ks cs S K=some x→K S=some x
 |[],cs,S,K,hg,h=>h
 |(j,k)::ks,cs,S,K,hg,h=>by
  have go:∀c,cs[j]?=some c→(⟨S.t,hset S.h r (.bx (.agg (cs.set j c))),S.d,S.alias⟩:St)=S∧cs.set j c=cs:=fun c hc=>by
   have e:cs.set j c=cs:=by
    have hj:j<cs.length:=by
     rcases Nat.lt_or_ge j cs.length with h|h
     ·exact h
     ·rw[List.getElem?_eq_none h]at hc;cases hc
    rw[List.getElem?_eq_getElem hj]at hc
    rw[←Option.some.inj hc,List.set_getElem_self]
   rw[e,hset_same hg];exact⟨rfl,rfl⟩
  cases k with
  |slice e=>
   simp only[rfE]at h
   split at h
   ·rename_i c hc
    unfold asM at h
    split at h
    ·dsimp only at h;have h:=szE_some h;rw[(go _ hc).1,(go _ hc).2]at h;exact rfE_some hg h
    ·dsimp only at h;rw[(go _ hc).1,(go _ hc).2]at h;exact rfE_some hg h
    ·cases h
   ·cases h
  |_=>simp only[rfE]at h;exact rfE_some hg h
theorem refE_some {S:St} {ty:Nat} {a:AV} {K:St→Rs} (h:refE cx S ty a K=some x):K S=some x:=by
 unfold refE at h
 split at h
 ·split at h
  ·exact rfE_some (by assumption) h
  ·exact h
 ·exact h
theorem opR_some (hC:∀f vs r,C f vs=some r→Ans cx O f vs r) {sh:List (Nat×List Nat×List Nat)} {o:Oper} {S:St} {K:St→Eff→Rs} (h:opR cx C sh keep o S K=some x):∃e,Gd cx O keep S o e∧K S e=some x∧(lkOf o e=false→e.up.any isLkU=false):=by
 unfold opR at h
 split at h
 ·exact opE_some hC (refE_some h)
 ·exact opE_some hC h
theorem any_dn {us:List Up} (h:us.any isLkU=false):(dn us).any isLkU=false:=by
 rw[List.any_eq_false]at h ⊢
 intro u hu
 exact h u ((List.mem_filter.1 hu).1)
theorem Rq.good {os:List Oper} {k:Nat} {S:St} {log:List (Nat×Eff)} {K:St→Prop} {o:Oper} {e:Eff} (hw:wantX ops S o=some true) (hg:Gd cx O keep S o e) (hu:e.up.all (upOk io)=true) (hc:draw=false∨checkX ops k e log=true)
  (nx:Rq cx O keep io ops draw os (k+1) ⟨putE S.t o.dst e.val,Up.apps e.up S.h,S.d++dn e.up,S.alias⟩ ((k,e)::log) K):Rq cx O keep io ops draw (o::os) k S log K:=by
 refine⟨fun hk s hs=>?_⟩
 obtain⟨hk1,hk2⟩:=knw_cons hk
 obtain⟨t,h,d,al⟩:=S
 obtain⟨t',h0,d0,al'⟩:=s
 obtain rfl:h0=h:=hs.h
 obtain rfl:d0=d:=hs.d
 obtain rfl:al'=al:=hs.al
 have hkn:knw ((putE t o.dst e.val).map (·.1)) os=true:=by
  revert hk2
  cases o.dst<;>exact id
 have hemb:Emb ⟨putE t o.dst e.val,Up.apps e.up h0,d0++dn e.up,al'⟩ ⟨putX t' o.dst e.val,Up.apps e.up h0,d0++dn e.up,al'⟩:=by
  cases o.dst with
  |none=>exact⟨hs.t,rfl,rfl,rfl⟩
  |some dd=>exact⟨hs.t.cons dd e.val,rfl,rfl,rfl⟩
 obtain⟨s',S',h1,h2,h3⟩:=nx.run hkn _ hemb
 rcases hg with ho|⟨f,vs,r,ha,ho⟩
 ·exact⟨s',S',.eff (want_emb hs hw) (fun c=>op_emb hs hk1 (ho c)) hu hc rfl rfl h1,h2,h3⟩
 ·exact⟨s',S',.call (want_emb hs hw) ha (fun c hcc=>op_emb hs hk1 (ho c hcc)) hu hc rfl rfl h1,h2,h3⟩
theorem Rq.skp {os:List Oper} {k:Nat} {S:St} {log:List (Nat×Eff)} {K:St→Prop} {o:Oper} (hw:wantX ops S o=some false)
  (nx:Rq cx O keep io ops draw os (k+1) ⟨putE S.t o.dst (.tup []),S.h,S.d,S.alias⟩ log K):Rq cx O keep io ops draw (o::os) k S log K:=by
 obtain⟨t,h,d,al⟩:=S
 cases hd:o.dst with
 |none=>rw[hd]at nx;exact .skip0 hw hd nx
 |some dd=>rw[hd]at nx;exact .skip hw hd nx
theorem runE_some (hC:∀f vs r,C f vs=some r→Ans cx O f vs r) {sh:List (Nat×List Nat×List Nat)}:∀{os:List Oper} {k:Nat} {f:Bool} {S:St} {log:List (Nat×Eff)} {K:Bool→St→Rs},(f=false→S.d.any isLkU=false)→runE cx C sh keep io ops draw os k f S log K=some x→Rq cx O keep io ops draw os k S log fun S'=>∃f',(f'=false→S'.d.any isLkU=false)∧K f' S'=some x
 |[],_,f,_,_,_,hf,h=>.nil ⟨f,hf,h⟩
 |o::os,k,f,S,log,K,hf,h=>by
  have step:∀{S:St} {K':Bool→St→Rs},(f=false→S.d.any isLkU=false)→wantX ops S o=some true→(opR cx C sh keep o S fun S e=>effE io ops draw k log S o e fun S'=>runE cx C sh keep io ops draw os (k+1) (f||lkOf o e) S' ((k,e)::log) K')=some x→
    Rq cx O keep io ops draw (o::os) k S log fun S'=>∃f',(f'=false→S'.d.any isLkU=false)∧K' f' S'=some x:=fun {S} {K'} hf hw h=>by
   obtain⟨e,h1,h2,h3⟩:=opR_some hC h
   obtain⟨h4,h5,h6⟩:=effE_some h2
   refine .good hw h1 h4 h5 (runE_some hC (fun hff=>?_) h6)
   simp only[Bool.or_eq_false_iff]at hff
   simp only[List.any_append,hf hff.1,any_dn (h3 hff.2),Bool.or_self]
  simp only[runE]at h
  split at h
  ·rename_i hg
   exact step hf (by simp only[wantX,hg]) h
  ·rename_i j w hg
   split at h
   ·cases h
   ·rename_i dg hd
    split at h
    ·rename_i b hb
     have hwx:∀b':Bool,wantX ops ⟨(dg,.bool b')::S.t,S.h,S.d,S.alias⟩ o=some (b'==w):=fun b'=>by
      simp only[wantX,hg,hd,tget,hget,Nat.beq_refl,cond_true]
     have go:∀b',(match w==b' with
       |true=>opR cx C sh keep o ⟨(dg,.bool b')::S.t,S.h,S.d,S.alias⟩ fun S e=>effE io ops draw k log S o e fun S'=>runE cx C sh keep io ops draw os (k+1) (f||lkOf o e) S' ((k,e)::log) K
       |false=>runE cx C sh keep io ops draw os (k+1) f ⟨putE ((dg,.bool b')::S.t) o.dst (.tup []),S.h,S.d,S.alias⟩ log K)=some x→
       Rq cx O keep io ops draw (o::os) k ⟨(dg,.bool b')::S.t,S.h,S.d,S.alias⟩ log fun S'=>∃f',(f'=false→S'.d.any isLkU=false)∧K f' S'=some x:=fun b' hh=>by
      split at hh
      ·rename_i hwb
       exact step hf (by rw[hwx];congr 1;cases w<;>cases b'<;>first|rfl|cases hwb) hh
      ·rename_i hwb
       exact .skp (by rw[hwx];congr 1;cases w<;>cases b'<;>first|rfl|cases hwb) (runE_some hC hf hh)
     obtain⟨t,hh,d,al⟩:=S
     refine Rq.split (dg:=dg) (b:=b) (tget_of hb) (fun e=>go true ?_) (fun e=>go false ?_) (by simp only at hb;rw[hb];rfl)
     ·rw[e]at h;cases w<;>exact h
     ·rw[e]at h;cases w<;>exact h
    ·rename_i hb
     exact .skp (by simp only[wantX,hg,hd,tget,hb]) (runE_some hC hf h)
    ·cases h
theorem rsE_some:∀{us:List Up} {t h:Hp} {K:Hp→Hp→Rs},rsE us t h K=some x→∃t' h',resolve us t h=some (t',h')∧K t' h'=some x
 |[],t,h,K,hh=>⟨_,_,rfl,hh⟩
 |u::us,t,h,K,hh=>by
  cases u with
  |set pl a=>
   cases a with
   |lk r len=>
    simp only[rsE]at hh
    split at hh
    ·rename_i r' len' tr hg hr
     split at hh
     ·cases hh
     ·rename_i hc
      simp only[Bool.and_eq_true,Bool.not_eq_true',List.isEmpty_eq_false_iff]at hc
      obtain⟨h1,hh⟩:=rq_some hh
      have e1:=beq_eq hc.1.1
      have e2:=beq_eq h1
      have e3:pl.r≠r:=fun e=>by rw[e,Nat.beq_refl]at hc;cases hc.1.2
      have hnc:¬(r'≠r∨pl.r=r∨len'≠len∨pl.p=[]):=by simp[e1,e2,e3,hc.2]
      split at hh
      ·obtain⟨h2,hh⟩:=rq_some hh
       have h2:=beq_eq h2
       obtain⟨t',h',h4,hh⟩:=rsE_some hh
       refine⟨t',h',?_,hh⟩
       simp only[resolve,hg,hr]
       rw[if_neg hnc,if_pos ⟨by omega,by omega⟩,h2,Nat.add_sub_cancel,List.take_length];exact h4
      ·obtain⟨h2,hh⟩:=rq_some hh
       obtain⟨t',h',h4,hh⟩:=rsE_some hh
       refine⟨t',h',?_,hh⟩
       simp only[resolve,hg,hr]
       rw[if_neg hnc,if_pos (beq_eq h2)];exact h4
      ·cases hh
    ·cases hh
   |_=>simp only[rsE]at hh;obtain⟨t',h',h4,hh⟩:=rsE_some hh;exact⟨t',h',by simp only[resolve];exact h4,hh⟩
  |_=>simp only[rsE]at hh;obtain⟨t',h',h4,hh⟩:=rsE_some hh;exact⟨t',h',by simp only[resolve];exact h4,hh⟩
theorem finE_some {os:List Oper} {f:Bool} {S:St} {K:St→Rs} (hf:f=false→S.d.any isLkU=false) (h:finE keep io os f S K=some x):∃S',finU keep io os S=some S'∧K S'=some x∧S'.alias=false:=by
 unfold finE at h
 split at h
 ·have hl:=hf rfl
  rw[fVH_eq]at h
  simp only at h
  rw[fBH_eq,fVH_eq]at h
  refine⟨_,?_,h,rfl⟩
  simp only[finU,resolve_nl hl,hl,Bool.false_and,Bool.false_eq_true,if_false]
 ·obtain⟨t',h',h1,h⟩:=rsE_some h
  obtain⟨h2,h⟩:=nlH_some h
  rw[fVH_eq,fBH_eq]at h
  simp only at h
  rw[fBH_eq,fVH_eq]at h
  refine⟨_,?_,h,rfl⟩
  simp only[finU,h1,h2,Bool.not_true,Bool.and_false,Bool.false_eq_true,if_false]
theorem killX_al:∀{os:List Oper} {S:St},(killX os S).alias=S.alias
 |[],_=>rfl
 |o::os,S=>by
  simp only[killX]
  split
  ·split<;>first|exact killX_al|(split<;>exact killX_al)
  ·exact killX_al
theorem frzJ_al {r j:Nat} {S:St}:(frzJ r j S).alias=S.alias:=by
 rcases frzJ_cases r j S with e|⟨_,_,_,_,_,e⟩<;>rw[e]
theorem frzS_al {id:Nat}:∀{nm:List Nat} {S:St},(frzS nm id S).alias=S.alias
 |[],_=>rfl
 |e::nm,S=>by
  simp only[frzS]
  split
  ·exact frzJ_al.trans frzS_al
  ·exact frzS_al
theorem frzE_some {id:Nat}:∀{nm:List Nat} {S:St} {K:St→Rs},frzE nm id S K=some x→K (frzS nm id S)=some x
 |[],_,_,h=>h
 |e::nm,S,K,h=>by
  simp only[frzE]at h
  have h:=frzE_some h
  simp only[frzS]
  split at h
  ·rename_i e0;rw[e0];exact h
  ·rename_i e0
   rw[e0]
   dsimp only
   generalize frzS nm id S=S at h ⊢
   generalize e / 4194304=r at h ⊢
   generalize e / 65536 % 64=j at h ⊢
   split at h
   ·rename_i cs hg
    split at h
    ·rename_i c hc
     unfold asF at h
     split at h
     ·rename_i l z es hf
      dsimp only at h
      rw[fBH_eq,fVH_eq]at h
      have hs:isSl c=true:=by cases c<;>first|rfl|(simp[frz]at hf)
      rw[show frzJ r j S=⟨clearI [.set ⟨r,[(0,j)]⟩ .un] S.t,Up.app S.h (.set ⟨r,[(0,j)]⟩ (.fz l z es)),S.d,S.alias⟩by
       unfold frzJ;rw[hg];dsimp only;rw[hc];dsimp only;rw[hs,cond_true,hf]]
      exact h
     ·cases h
    ·rename_i hc
     rw[show frzJ r j S=S by unfold frzJ;rw[hg];dsimp only;rw[hc]]
     exact h
   ·rename_i hne
    rw[show frzJ r j S=S by
     rcases frzJ_cases r j S with e|⟨cs,_,hg,_,_⟩
     ·exact e
     ·exact absurd hg (hne cs)]
    exact h
theorem regE_some (hC:∀f vs r,C f vs=some r→Ans cx O f vs r) {sh:List (Nat×List Nat×List Nat)} {L:List Nat} {id:Nat} {S:St} {K:St→Rs} (hal:S.alias=false) (h:regE cx C sh keep io ops draw nm L id S K=some x) {Q:Xt→St→Prop} (hQ:∀S',S'.alias=false→K S'=some x→Q .normal S'):Wq cx O keep io nm (.region id ops draw) S Q:=by
 unfold regE at h
 obtain⟨t0,h0,d0,al0⟩:=S
 simp only at hal
 subst hal
 have h:=frzE_some h
 have hk:=(killX_al (os:=ops.toList) (S:=frzS nm id ⟨t0,h0,d0,false⟩)).trans frzS_al
 cases hkx:killX ops.toList (frzS nm id ⟨t0,h0,d0,false⟩)with
 |mk t1 h1 d1 a1=>
  rw[hkx]at h hk
  simp only at h hk
  subst hk
  split at h
  ·cases h
  ·rename_i hkn
   simp only[Bool.and_eq_true]at hkn
   split at h
   ·cases h
   ·refine Wq.reg L hkx rfl hkn.1 hkn.2 ?_
    have:=runE_some hC (fun _=>rfl) h
    refine⟨fun hk s hs=>?_⟩
    obtain⟨s',S',r1,r2,f',r4,r3⟩:=this.run hk s hs
    refine⟨s',S',r1,r2,?_⟩
    split at r3
    ·cases r3
    ·rename_i hsel
     obtain⟨S2,hf,r3,hal2⟩:=finE_some (S:=wk L S') r4 r3
     exact⟨hsel,S2,hf,hQ _ hal2 r3⟩
theorem xrE_some {S:St} {a:AV} {K:AV→List Up→Rs} (h:xrE S a K=some x):∃y u,expRes1 S a=some (y,u)∧K y u=some x:=by
 unfold xrE at h
 split at h
 ·split at h
  ·rename_i hl;exact⟨_,_,by simp only[expRes1,hl],h⟩
  ·cases h
 ·rename_i hn
  obtain⟨y,r,u,h1,h⟩:=abaE_some h
  refine⟨y,u,?_,h⟩
  cases a<;>first|(simp only[expRes1,h1];done)|exact absurd rfl (hn _)
theorem xrlE_some {S:St}:∀{l:List AV} {K:List AV→List Up→Rs},xrlE S l K=some x→∃y u,expResL S l=some (y,u)∧K y u=some x
 |[],K,h=>⟨_,_,rfl,h⟩
 |a::l,K,h=>by
  obtain⟨y,u,h1,h⟩:=xrE_some h
  obtain⟨y',u',h2,h⟩:=xrlE_some h
  exact⟨_,_,by simp only[expResL,h1,h2],h⟩
theorem outE_some {fn:FnS} {args:List AV} {S:St} (h:outE cx fn args S=some x):outOf cx fn args S=some x:=by
 unfold outE at h
 split at h
 ·cases h
 ·rename_i vs hv
  obtain⟨y,u,h1,h⟩:=xrlE_some h
  split at h
  ·rename_i outs ws hw
   split at h
   ·rename_i hc
    simp only[outOf,hv,h1,hw,hc,if_true];exact h
   ·cases h
  ·cases h
theorem tabE_labs {sh:List (Nat×List Nat×List Nat)} {J:Nat→St→Rs}:∀{c:Code} {l:Nat} {K:Xt→St→Rs},(tabE cx C sh keep io nm lv J c l K).map (·.1)=labs c l:=by
 intro c
 induction c with
 |seq a b iha ihb=>intro l K;simp only[tabE,labs,List.map_append,iha,ihb]
 |cond _ a b iha ihb=>intro l K;simp only[tabE,labs,List.map_append,iha,ihb]
 |block id b ih=>intro l K;simp only[tabE,labs,ih]
 |loop b ih=>intro l K;simp only[tabE,labs,List.map_cons,ih]
 |_=>intros;rfl
theorem atT_nodup:∀{T:List (Nat×Code×(Xt→St→Rs))},nodupN (T.map (·.1))=true→∀e∈T,atT T e.1=some e.2
 |[],_,_,h=>absurd h List.not_mem_nil
 |(k,b,K)::T,hn,e,he=>by
  simp only[List.map_cons,nodupN,Bool.and_eq_true,List.all_eq_true]at hn
  rcases List.mem_cons.1 he with rfl|h
  ·simp only[atT,Nat.beq_refl]
  ·have h1:=hn.1 e.1 (List.mem_map_of_mem h)
   have h2:Nat.beq e.1 k=false:=by
    cases hb:Nat.beq e.1 k with
    |false=>rfl
    |true=>
     have:=Nat.eq_of_beq_eq_true hb
     subst this
     rw[Nat.beq_refl]at h1;cases h1
   simp only[atT,h2]
   exact atT_nodup hn.2 e h
theorem jmpE_some {J:Nat→St→Rs} {l:Nat} {S:St} (h:jmpE lv J l S=some x):selOk (atL lv.lps l) S.t=true∧J l (wk (atL lv.lps l) S)=some x:=by
 unfold jmpE at h
 split at h
 ·exact⟨by assumption,h⟩
 ·cases h
variable {fn:FnS} {args:List AV}
theorem codeE_some (hC:∀f vs r,C f vs=some r→Ans cx O f vs r) (hn:nodupN (labs fn.body 0)=true):∀(c:Code) (l:Nat) (K:Nat→Xt→St→Rs),
  (∀m,∀e∈tabE cx C lv.shp fn.keep (ioMask 0 fn.modes) fn.noMove lv (loopE cx C lv fn args m) c l (K m),atT (tabE cx C lv.shp fn.keep (ioMask 0 fn.modes) fn.noMove lv (loopE cx C lv fn args m) fn.body 0 (resE cx fn args)) e.1=some e.2)→
  ∀m S,S.alias=false→codeE cx C lv.shp fn.keep (ioMask 0 fn.modes) fn.noMove lv (loopE cx C lv fn args m) c l S (K m)=some x→
  Wq cx O fn.keep (ioMask 0 fn.modes) fn.noMove c S (fun r S'=>∃m',m'≤m∧S'.alias=false∧K m' r S'=some x):=by
 intro c
 induction c with
 |skip=>intro l K _ m S ha h;exact .skip ⟨m,Nat.le_refl _,ha,h⟩
 |exit id=>intro l K _ m S ha h;exact .exit ⟨m,Nat.le_refl _,ha,h⟩
 |ret=>intro l K _ m S ha h;exact .ret ⟨m,Nat.le_refl _,ha,h⟩
 |region id ops draw=>
  intro l K _ m S ha h
  exact regE_some hC ha h fun S' h1 h2=>⟨m,Nat.le_refl _,h1,h2⟩
 |seq a b iha ihb=>
  intro l K hsub m S ha h
  refine .seq ((iha l (fun m=>seqK cx C lv.shp fn.keep (ioMask 0 fn.modes) fn.noMove lv (loopE cx C lv fn args m) b l (K m)) (fun m e he=>hsub m e (by rw[tabE];exact List.mem_append_left _ he)) m S ha h).imp fun r S' ⟨m',h1,h2,h3⟩=>?_)
  cases r with
  |normal=>exact(ihb l K (fun m e he=>hsub m e (by rw[tabE];exact List.mem_append_right _ he)) m' S' h2 h3).imp fun r S2 ⟨m2,h4,h5,h6⟩=>⟨m2,Nat.le_trans h4 h1,h5,h6⟩
  |exit i=>exact⟨m',h1,h2,h3⟩
  |ret=>exact⟨m',h1,h2,h3⟩
 |cond c a b iha ihb=>
  intro l K hsub m S ha h
  simp only[codeE]at h
  split at h
  ·rename_i y hy
   refine .cond hy (fun e=>?_) (fun e=>?_)
   ·rw[e]at h;exact iha l K (fun m e he=>hsub m e (by rw[tabE];exact List.mem_append_left _ he)) m S ha h
   ·rw[e]at h;exact ihb l K (fun m e he=>hsub m e (by rw[tabE];exact List.mem_append_right _ he)) m S ha h
  ·cases h
 |block id b ih=>
  intro l K hsub m S ha h
  refine .block ((ih id (fun m=>blkK id (K m)) (fun m e he=>hsub m e (by rw[tabE];exact he)) m S ha h).imp fun r S' ⟨m',h1,h2,h3⟩=>?_)
  cases r with
  |normal=>exact⟨m',h1,h2,h3⟩
  |ret=>exact⟨m',h1,h2,h3⟩
  |exit i=>
   simp only[blkK]at h3
   simp only[Bq]
   split at h3
   ·rename_i e;rw[if_pos (Nat.eq_of_beq_eq_true e)];exact⟨m',h1,h2,h3⟩
   ·rename_i e
    rw[if_neg (fun e'=>by subst e';rw[Nat.beq_refl]at e;cases e)];exact⟨m',h1,h2,h3⟩
 |loop b ih=>
  intro l K hsub m S ha h
  simp only[codeE]at h
  refine Wq.loopI (fun n S=>n≤m∧S.alias=false∧jmpE lv (loopE cx C lv fn args n) l S=some x) (fun n S ⟨hnm,ha,hI⟩=>?_) (m:=m) ⟨Nat.le_refl _,ha,h⟩
  obtain⟨h1,h2⟩:=jmpE_some hI
  refine .weak _ h1 ?_
  cases n with
  |zero=>cases h2
  |succ n=>
   rw[loopE,hsub n (l,b,K n) (by rw[tabE];exact List.mem_cons_self)]at h2
   simp only at h2
   refine(ih l (fun m=>lopK lv (loopE cx C lv fn args m) l (K m)) (fun m e he=>hsub m e (by rw[tabE];exact List.mem_cons_of_mem _ he)) n (wk (atL lv.lps l) S) ha h2).imp fun r S' ⟨m',h3,h4,h5⟩=>?_
   cases r with
   |normal=>exact⟨m',by omega,by omega,h4,h5⟩
   |exit i=>exact⟨m',by omega,h4,h5⟩
   |ret=>exact⟨m',by omega,h4,h5⟩
 |_=>intro l K _ m S ha h;cases h
theorem fnE_ans (hC:∀f vs r,C f vs=some r→Ans cx O f vs r) {f n:Nat} (hF:cx.F f=some fn) (hO:orc O f args=none) (h:fnE cx C lv fn n args=some x):Ans cx O f args x:=by
 unfold fnE at h
 split at h
 ·cases h
 ·rename_i hc
  simp only[Bool.and_eq_true]at hc
  rw[fVH_eq]at h
  refine ans_wq lv.ent hF hO hc.1 ((codeE_some (args:=args) hC hc.2 fn.body 0 (fun _=>resE cx fn args) (fun m e he=>atT_nodup (by rw[tabE_labs];exact hc.2) e he) n _ rfl h).imp fun r S' ⟨m',_,_,h3⟩=>?_)
  cases r with
  |exit i=>cases h3
  |normal=>
   simp only[resE]at h3
   split at h3
   ·exact⟨.inr rfl,by assumption,outE_some h3⟩
   ·cases h3
  |ret=>
   simp only[resE]at h3
   split at h3
   ·exact⟨.inl rfl,by assumption,outE_some h3⟩
   ·cases h3
end Go.Am
end
section
namespace Go.Am.Pull
open Go Go.Proofs Go.Am
set_option maxRecDepth 100000
set_option maxHeartbeats 4000000
noncomputable def fn72:FnS:=(mkA Try.f72 ⟨8796093022493,[0],false,[]⟩).getD ⟨.skip,0,[],[],0,[],false,[]⟩
theorem F72:cx.F 72=some fn72:=by kernel_rfl
def lv72:Lvs:=⟨[0],[(0,[2,0]),(1,[3,0]),(2,[8,3,0]),(4,[4,3,0]),(5,[43,3,0]),(6,[2]),(3,[3,0]),(7,[2])],[(0,[3,0])],[]⟩
noncomputable def L72_0 (C:CallF) (n:Nat) (s:ByteArray) (x3:Int):Rs:=loopE cx C lv72 fn72 [vs s] n 0 ⟨[(3,(vi x3)),(0,(.str s))],[],[],false⟩
theorem E72 {C:CallF} {n:Nat} {s:ByteArray}:fnE cx C lv72 fn72 n [vs s]=(L72_0 C n s 0):=by kernel_rfl
theorem E72_0 {C:CallF} {n:Nat} {s:ByteArray} {x3:Int}:L72_0 C (n+1) s x3=(br (decide (x3<(↑s.size:Int))) (sxE s x3 fun n1=>br (decide (n1≥97)) (br (decide (n1≤122)) (L72_0 C n s (IntKind.i64.wrap (x3+1))) (br (decide (n1≥65)) (br (decide (n1≤90)) (L72_0 C n s (IntKind.i64.wrap (x3+1))) (br (n1==95) (L72_0 C n s (IntKind.i64.wrap (x3+1))) (br (decide (x3> 0)) (br (decide (n1≥48)) (br (decide (n1≤57)) (L72_0 C n s (IntKind.i64.wrap (x3+1))) (some ((.bool false),[]))) (some ((.bool false),[]))) (some ((.bool false),[]))))) (br (n1==95) (L72_0 C n s (IntKind.i64.wrap (x3+1))) (br (decide (x3> 0)) (br (decide (n1≥48)) (br (decide (n1≤57)) (L72_0 C n s (IntKind.i64.wrap (x3+1))) (some ((.bool false),[]))) (some ((.bool false),[]))) (some ((.bool false),[])))))) (br (decide (n1≥65)) (br (decide (n1≤90)) (L72_0 C n s (IntKind.i64.wrap (x3+1))) (br (n1==95) (L72_0 C n s (IntKind.i64.wrap (x3+1))) (br (decide (x3> 0)) (br (decide (n1≥48)) (br (decide (n1≤57)) (L72_0 C n s (IntKind.i64.wrap (x3+1))) (some ((.bool false),[]))) (some ((.bool false),[]))) (some ((.bool false),[]))))) (br (n1==95) (L72_0 C n s (IntKind.i64.wrap (x3+1))) (br (decide (x3> 0)) (br (decide (n1≥48)) (br (decide (n1≤57)) (L72_0 C n s (IntKind.i64.wrap (x3+1))) (some ((.bool false),[]))) (some ((.bool false),[]))) (some ((.bool false),[])))))) (br (decide ((↑s.size:Int)≥1)) (some ((.bool (decide ((↑s.size:Int)≤64))),[])) (some ((.bool false),[])))):=by kernel_rfl
noncomputable def fn50:FnS:=(mkA Try.f50 ⟨1101558448173,[0],false,[]⟩).getD ⟨.skip,0,[],[],0,[],false,[]⟩
theorem F50:cx.F 50=some fn50:=by kernel_rfl
def lv50:Lvs:=⟨[0],[(0,[2,0]),(1,[25,0]),(2,[2]),(3,[3,0]),(4,[29,28,27,3]),(5,[30,29,28,27,3]),(6,[29,28,27,5,3]),(7,[40,29,28,27,5,3]),(8,[2]),(9,[29,28,27,3]),(10,[29,28,27,3]),(11,[2])],[(0,[29,28,27,3])],[]⟩
noncomputable def L50_0 (C:CallF) (n:Nat) (ks:Sl ByteArray) (x29:Int) (h3k:List AV) (h3m:List AV):Rs:=loopE cx C lv50 fn50 [Sl.av vs ks] n 0 ⟨[(29,(vi x29)),(28,(vi ((↑(List.map vs ks.l).length:Int)))),(27,(Sl.av vs ks)),(3,(.mrf 3))],[(3,(.mp h3k h3m))],[],false⟩
theorem E50 {C:CallF} {n:Nat} {ks:Sl ByteArray}:fnE cx C lv50 fn50 n [Sl.av vs ks]=(br (decide ((↑(List.map vs ks.l).length:Int)<2)) (some ((vi 70),[])) (br (decide ((↑(List.map vs ks.l).length:Int)> 1024)) (some ((vi 70),[])) (ixE (List.map vs ks.l) 0 fun a1=>rq (Nat.beq ks.sz 1) <| nthE (cells a1) 0 fun a2=>asS a2 fun s3=>br ((!s3.toList==(ByteArray.mk #[101,110,100]).toList)) (some ((vi 70),[])) (ixE (List.map vs ks.l) 1 fun a4=>rq (Nat.beq ks.sz 1) <| nthE (cells a4) 0 fun a5=>asS a5 fun s6=>br ((!s6.toList==(ByteArray.mk #[101,114,114,111,114]).toList)) (some ((vi 70),[])) (L50_0 C n ks 0 [] []))))):=by kernel_rfl
theorem E50_0 {C:CallF} {n:Nat} {ks:Sl ByteArray} {x29:Int} {h3k:List AV} {h3m:List AV}:L50_0 C (n+1) ks x29 h3k h3m=(br (decide (x29<(↑(List.map vs ks.l).length:Int))) (ixE (List.map vs ks.l) x29 fun a1=>rq (Nat.beq ks.sz 1) <| nthE (cells a1) 0 fun a2=>asS a2 fun s3=>bindE (C 72 [(.str s3)]) fun v4 o5=>cN o5 <| asB v4 fun b6=>br (!b6) (some ((vi 70),[])) (lkE .str h3k h3m (.str s3) (fun v7=>asB v7 fun b8=>br b8 (some ((vi 70),[])) (mqE .str h3k h3m (.str s3) <| L50_0 C n ks (IntKind.i64.wrap (x29+1)) ((mput .str h3k h3m (AV.str s3) (AV.bool true)).1) ((mput .str h3k h3m (AV.str s3) (AV.bool true)).2))) (mqE .str h3k h3m (.str s3) <| L50_0 C n ks (IntKind.i64.wrap (x29+1)) ((mput .str h3k h3m (AV.str s3) (AV.bool true)).1) ((mput .str h3k h3m (AV.str s3) (AV.bool true)).2)))) (some ((vi 0),[]))):=by kernel_rfl
noncomputable def fn73:FnS:=(mkA Try.f73 ⟨1160569081995963619946268111,[0,0,3],false,[67108879,40564819207303340847894502572048,40564819207303340847894569680913,40564819207303340847894569680914]⟩).getD ⟨.skip,0,[],[],0,[],false,[]⟩
theorem F73:cx.F 73=some fn73:=by kernel_rfl
def lv73:Lvs:=⟨[2,1,0],[(0,[6,3,2,1]),(1,[3,2,1]),(2,[7,3,2,1]),(3,[8,7,3,2,1]),(4,[21,8,7,3,2,1]),(5,[22,21,8,7,3,2,1]),(6,[8,3,2,1]),(7,[35,21,8,7,3,2,1]),(8,[8,3,2,1]),(9,[54,21,8,7,3,2,1]),(10,[8,3,2,1]),(11,[68,8,3,2,1]),(12,[8,3,2,1]),(13,[88,87,86,8,2,1]),(14,[89,88,87,86,8,2,1]),(15,[88,87,86,10,8,2,1]),(16,[88,87,86,8,2,1]),(17,[88,87,86,8,2,1]),(18,[6])],[(1,[88,87,86,8,2,1])],[]⟩
noncomputable def L73_1 (C:CallF) (n:Nat) (a:Act) (syms:Int) (m:Int) (x88:Int) (x8:Bool) (h2:Int):Rs:=loopE cx C lv73 fn73 [AV.agg [vi a.kind,vi a.ix,vs a.name,AV.fz a.lab a.sz (vActs a.kids)],vi syms,(vi m).bx] n 1 ⟨[(88,(vi x88)),(87,(vi ((↑(vActs a.kids).length:Int)))),(86,(.fz a.lab a.sz ((vActs a.kids)))),(8,(.bool x8)),(2,(.ptr ⟨2,[]⟩ 0 0)),(1,(vi syms))],[(2,(.bx (vi h2))),(3,(.bx (AV.agg [vi a.kind,vi a.ix,vs a.name,AV.fz a.lab a.sz (vActs a.kids)])))],[],false⟩
theorem E73 {C:CallF} {n:Nat} {a:Act} {syms:Int} {m:Int}:fnE cx C lv73 fn73 n [AV.agg [vi a.kind,vi a.ix,vs a.name,AV.fz a.lab a.sz (vActs a.kids)],vi syms,(vi m).bx]=(br (a.kind==0) (br ((↑(vActs a.kids).length:Int)==0) (br (a.ix==0) (L73_1 C n a syms m 0 (a.name.toList==(ByteArray.mk #[]).toList) (IntKind.i64.wrap (m+1))) (L73_1 C n a syms m 0 false (IntKind.i64.wrap (m+1)))) (L73_1 C n a syms m 0 false (IntKind.i64.wrap (m+1)))) (br (a.kind==1) (br ((↑(vActs a.kids).length:Int)==0) (br (decide (a.ix≥0)) (br (decide (a.ix<syms)) (L73_1 C n a syms m 0 (a.name.toList==(ByteArray.mk #[]).toList) (IntKind.i64.wrap (m+1))) (L73_1 C n a syms m 0 false (IntKind.i64.wrap (m+1)))) (L73_1 C n a syms m 0 false (IntKind.i64.wrap (m+1)))) (L73_1 C n a syms m 0 false (IntKind.i64.wrap (m+1)))) (br (a.kind==3) (br ((↑(vActs a.kids).length:Int)==0) (br (a.ix==0) (L73_1 C n a syms m 0 (decide ((↑a.name.size:Int)≤4096)) (IntKind.i64.wrap (m+1))) (L73_1 C n a syms m 0 false (IntKind.i64.wrap (m+1)))) (L73_1 C n a syms m 0 false (IntKind.i64.wrap (m+1)))) (br (a.kind==2) (br (a.ix==0) (br (decide ((↑a.name.size:Int)≥1)) (L73_1 C n a syms m 0 (decide ((↑a.name.size:Int)≤32)) (IntKind.i64.wrap (m+1))) (L73_1 C n a syms m 0 false (IntKind.i64.wrap (m+1)))) (L73_1 C n a syms m 0 false (IntKind.i64.wrap (m+1)))) (L73_1 C n a syms m 0 false (IntKind.i64.wrap (m+1))))))):=by kernel_rfl
theorem E73_1 {C:CallF} {n:Nat} {a:Act} {syms:Int} {m:Int} {x88:Int} {x8:Bool} {h2:Int}:L73_1 C (n+1) a syms m x88 x8 h2=(br (decide (x88<(↑(vActs a.kids).length:Int))) (ixE (vActs a.kids) x88 fun a1=>rq (Nat.beq a.sz 4) <| cI .i64 (List.take 4 (List.drop 0 (cells a1))) fun n2 c3=>cI .i64 c3 fun n4 c5=>cS c5 fun s6 c7=>cF c7 fun l8 z9 e10 c11=>cN c11 <| br x8 (br (decide (h2≤256)) (bindE (C 73 [(.agg [(vi n2),(vi n4),(.str s6),(.fz l8 z9 e10)]),(vi syms),(.bx (vi h2))]) fun v12 o13=>c1 o13 fun v14=>asX v14 fun v15=>asI .i64 v15 fun n16=>asB v12 fun b17=>L73_1 C n a syms m (IntKind.i64.wrap (x88+1)) b17 n16) (L73_1 C n a syms m (IntKind.i64.wrap (x88+1)) false h2)) (L73_1 C n a syms m (IntKind.i64.wrap (x88+1)) false h2)) (br x8 (some ((.bool (decide (h2≤256))),[(.bx (vi h2))])) (some ((.bool false),[(.bx (vi h2))])))):=by kernel_rfl
noncomputable def fn51:FnS:=(mkA Try.f51 ⟨562982702547167,[0,0],false,[]⟩).getD ⟨.skip,0,[],[],0,[],false,[]⟩
theorem F51:cx.F 51=some fn51:=by kernel_rfl
def lv51:Lvs:=⟨[1,0],[(0,[4,3,2]),(1,[29,3,2]),(2,[4]),(3,[33,32,31,3,2]),(4,[34,33,32,31,3,2]),(5,[33,32,31,6,3,2]),(6,[49,33,32,31,3,2]),(7,[4]),(8,[33,32,31,3,2]),(9,[7,3]),(10,[4])],[(0,[33,32,31,3,2])],[]⟩
noncomputable def L51_0 (C:CallF) (n:Nat) (g:Plain) (p:Prod) (x33:Int):Rs:=loopE cx C lv51 fn51 [g.av,p.av] n 0 ⟨[(33,(vi x33)),(32,(vi ((↑(List.map vi p.right.l).length:Int)))),(31,(.fz p.right.lab p.right.sz ((List.map vi p.right.l)))),(3,(.ptr ⟨3,[]⟩ 0 0)),(2,(.ptr ⟨2,[]⟩ 0 0))],[(2,(.bx g.av)),(3,(.bx p.av))],[],false⟩
theorem E51 {C:CallF} {n:Nat} {g:Plain} {p:Prod}:fnE cx C lv51 fn51 n [g.av,p.av]=(br (decide (p.left<0)) (some ((.bool false),[])) (br (decide (p.left≥(↑(List.map vs g.rules.l).length:Int))) (some ((.bool false),[])) (br (decide ((↑(List.map vi p.right.l).length:Int)> 64)) (some ((.bool false),[])) (br (decide (p.level<0)) (some ((.bool false),[])) (L51_0 C n g p 0))))):=by kernel_rfl
theorem E51_0 {C:CallF} {n:Nat} {g:Plain} {p:Prod} {x33:Int}:L51_0 C (n+1) g p x33=(br (decide (x33<(↑(List.map vi p.right.l).length:Int))) (ixE (List.map vi p.right.l) x33 fun a1=>rq (Nat.beq p.right.sz 1) <| nthE (cells a1) 0 fun a2=>asI .i64 a2 fun n3=>br (decide (n3<1)) (some ((.bool false),[])) (br (decide (n3≥IntKind.i64.wrap ((↑(List.map vs g.kinds.l).length:Int)+(↑(List.map vs g.rules.l).length:Int)))) (some ((.bool false),[])) (L51_0 C n g p (IntKind.i64.wrap (x33+1))))) (bindE (C 73 [(.agg [(vi p.act.kind),(vi p.act.ix),(.str p.act.name),(.fz p.act.lab p.act.sz ((vActs p.act.kids)))]),(vi ((↑(List.map vi p.right.l).length:Int))),(.bx (vi 0))]) fun v4 o5=>c1 o5 fun v6=>asX v6 fun v7=>asI .i64 v7 fun _=>asB v4 fun b9=>some ((.bool b9),[]))):=by kernel_rfl
noncomputable def fn27:FnS:=(mkA Try.f27 ⟨174384079224203105635710220916204138141183,[0],false,[2097156,70368744177669,70368744177670,70368746274823,70368746274824,70368746274825,41538374868278621028243970633760782,41538374868278621028243970633760783,41538374868278621028243970633760784,41538374868278621028243970633760785,268435475,5575186299632655785383929568162090376495124,5575186299632655785383929568162090644930581,5575186299632655785383929568162090644930582]⟩).getD ⟨.skip,0,[],[],0,[],false,[]⟩
theorem F27:cx.F 27=some fn27:=by kernel_rfl
def lv27:Lvs:=⟨[0],[(0,[2,1]),(1,[3,1]),(2,[29,28,27,3,1]),(3,[30,29,28,27,3,1]),(4,[29,28,27,5,4,3,1]),(5,[29,28,27,6,5,4,3,1]),(6,[29,28,27,7,6,3,1]),(7,[29,28,27,3,1]),(8,[29,28,27,3,1]),(9,[3,1]),(10,[8,3,1]),(11,[98,97,96,8,3,1]),(12,[99,98,97,96,8,3,1]),(13,[98,97,96,10,8,3,1]),(14,[98,97,96,10,8,3,1]),(15,[98,97,96,8,3,1]),(16,[98,97,96,8,3,1]),(17,[125,124,123,3,1]),(18,[126,125,124,123,3,1]),(19,[125,124,123,12,3,1]),(20,[125,124,123,3,1]),(21,[125,124,123,3,1]),(22,[137]),(23,[2]),(24,[2])],[(0,[29,28,27,3,1]),(2,[98,97,96,8,3,1]),(4,[125,124,123,3,1])],[]⟩
noncomputable def L27_0 (C:CallF) (n:Nat) (g:Plain) (x29:Int) (x3:Bool):Rs:=loopE cx C lv27 fn27 [g.av] n 0 ⟨[(29,(vi x29)),(28,(vi ((↑(List.map Prec.av g.precs.l).length:Int)))),(27,(.fz g.precs.lab g.precs.sz ((List.map Prec.av g.precs.l)))),(3,(.bool x3)),(1,(.ptr ⟨1,[]⟩ 0 0))],[(1,(.bx g.av))],[],false⟩
noncomputable def L27_2 (C:CallF) (n:Nat) (g:Plain) (x98:Int) (x3:Bool) (h8k:List AV) (h8m:List AV):Rs:=loopE cx C lv27 fn27 [g.av] n 2 ⟨[(98,(vi x98)),(97,(vi ((↑(List.map vs g.rules.l).length:Int)))),(96,(.fz g.rules.lab g.rules.sz ((List.map vs g.rules.l)))),(8,(.mrf 8)),(3,(.bool x3)),(1,(.ptr ⟨1,[]⟩ 0 0))],[(1,(.bx g.av)),(8,(.mp h8k h8m))],[],false⟩
noncomputable def L27_4 (C:CallF) (n:Nat) (g:Plain) (x125:Int) (x3:Bool) (h8k:List AV) (h8m:List AV):Rs:=loopE cx C lv27 fn27 [g.av] n 4 ⟨[(125,(vi x125)),(124,(vi ((↑(List.map Prod.av g.prods.l).length:Int)))),(123,(.fz g.prods.lab g.prods.sz ((List.map Prod.av g.prods.l)))),(3,(.bool x3)),(1,(.ptr ⟨1,[]⟩ 0 0))],[(1,(.bx g.av)),(8,(.mp h8k h8m))],[],false⟩
theorem E27 {C:CallF} {n:Nat} {g:Plain}:fnE cx C lv27 fn27 n [g.av]=(bindE (C 50 [(.fz g.kinds.lab g.kinds.sz ((List.map vs g.kinds.l)))]) fun v1 o2=>cN o2 <| asI .i64 v1 fun n3=>br (n3==0) (L27_0 C n g 0 ((↑(List.map Prec.av g.precs.l).length:Int)==(↑(List.map vs g.kinds.l).length:Int))) (L27_0 C n g 0 false)):=by kernel_rfl
theorem E27_0 {C:CallF} {n:Nat} {g:Plain} {x29:Int} {x3:Bool}:L27_0 C (n+1) g x29 x3=(br (decide (x29<(↑(List.map Prec.av g.precs.l).length:Int))) (ixE (List.map Prec.av g.precs.l) x29 fun a1=>rq (Nat.beq g.precs.sz 2) <| cI .i64 (List.take 2 (List.drop 0 (cells a1))) fun n2 c3=>cI .i64 c3 fun n4 c5=>cN c5 <| br (decide (n2≥1)) (br (decide (n4≥1)) (br (decide (n4≤3)) (br x3 (br ((n2==0&&n4==0)) (L27_0 C n g (IntKind.i64.wrap (x29+1)) true) (L27_0 C n g (IntKind.i64.wrap (x29+1)) (decide (x29≥2)))) (L27_0 C n g (IntKind.i64.wrap (x29+1)) false)) (br x3 (br ((n2==0&&n4==0)) (L27_0 C n g (IntKind.i64.wrap (x29+1)) true) (L27_0 C n g (IntKind.i64.wrap (x29+1)) false)) (L27_0 C n g (IntKind.i64.wrap (x29+1)) false))) (br x3 (br ((n2==0&&n4==0)) (L27_0 C n g (IntKind.i64.wrap (x29+1)) true) (L27_0 C n g (IntKind.i64.wrap (x29+1)) false)) (L27_0 C n g (IntKind.i64.wrap (x29+1)) false))) (br x3 (br ((n2==0&&n4==0)) (L27_0 C n g (IntKind.i64.wrap (x29+1)) true) (L27_0 C n g (IntKind.i64.wrap (x29+1)) false)) (L27_0 C n g (IntKind.i64.wrap (x29+1)) false))) (br x3 (br (decide ((↑(List.map vs g.rules.l).length:Int)≥1)) (br (decide ((↑(List.map vs g.rules.l).length:Int)≤2048)) (br (decide (g.start≥0)) (br (decide (g.start<(↑(List.map vs g.rules.l).length:Int))) (L27_2 C n g 0 (decide ((↑(List.map Prod.av g.prods.l).length:Int)≤4096)) [] []) (L27_2 C n g 0 false [] [])) (L27_2 C n g 0 false [] [])) (L27_2 C n g 0 false [] [])) (L27_2 C n g 0 false [] [])) (L27_2 C n g 0 false [] []))):=by kernel_rfl
theorem E27_2 {C:CallF} {n:Nat} {g:Plain} {x98:Int} {x3:Bool} {h8k:List AV} {h8m:List AV}:L27_2 C (n+1) g x98 x3 h8k h8m=(br (decide (x98<(↑(List.map vs g.rules.l).length:Int))) (ixE (List.map vs g.rules.l) x98 fun a1=>rq (Nat.beq g.rules.sz 1) <| nthE (cells a1) 0 fun a2=>asS a2 fun s3=>br x3 (br (decide ((↑s3.size:Int)≥1)) (br (decide ((↑s3.size:Int)≤4096)) (lkE .str h8k h8m (.str s3) (fun v4=>asB v4 fun b5=>mqE .str h8k h8m (.str s3) <| L27_2 C n g (IntKind.i64.wrap (x98+1)) (!b5) ((mput .str h8k h8m (AV.str s3) (AV.bool true)).1) ((mput .str h8k h8m (AV.str s3) (AV.bool true)).2)) (mqE .str h8k h8m (.str s3) <| L27_2 C n g (IntKind.i64.wrap (x98+1)) (!false) ((mput .str h8k h8m (AV.str s3) (AV.bool true)).1) ((mput .str h8k h8m (AV.str s3) (AV.bool true)).2))) (mqE .str h8k h8m (.str s3) <| L27_2 C n g (IntKind.i64.wrap (x98+1)) false ((mput .str h8k h8m (AV.str s3) (AV.bool true)).1) ((mput .str h8k h8m (AV.str s3) (AV.bool true)).2))) (mqE .str h8k h8m (.str s3) <| L27_2 C n g (IntKind.i64.wrap (x98+1)) false ((mput .str h8k h8m (AV.str s3) (AV.bool true)).1) ((mput .str h8k h8m (AV.str s3) (AV.bool true)).2))) (mqE .str h8k h8m (.str s3) <| L27_2 C n g (IntKind.i64.wrap (x98+1)) false ((mput .str h8k h8m (AV.str s3) (AV.bool true)).1) ((mput .str h8k h8m (AV.str s3) (AV.bool true)).2))) (L27_4 C n g 0 x3 h8k h8m)):=by kernel_rfl
theorem E27_4 {C:CallF} {n:Nat} {g:Plain} {x125:Int} {x3:Bool} {h8k:List AV} {h8m:List AV}:L27_4 C (n+1) g x125 x3 h8k h8m=(br (decide (x125<(↑(List.map Prod.av g.prods.l).length:Int))) (ixE (List.map Prod.av g.prods.l) x125 fun a1=>rq (Nat.beq g.prods.sz 7) <| cI .i64 (List.take 7 (List.drop 0 (cells a1))) fun n2 c3=>cF c3 fun l4 z5 e6 c7=>cI .i64 c7 fun n8 c9=>cI .i64 c9 fun n10 c11=>cI .i64 c11 fun n12 c13=>cS c13 fun s14 c15=>cF c15 fun l16 z17 e18 c19=>cN c19 <| br x3 (bindE (C 51 [g.av,(.agg [(vi n2),(.fz l4 z5 e6),(vi n8),(vi n10),(vi n12),(.str s14),(.fz l16 z17 e18)])]) fun v20 o21=>cN o21 <| asB v20 fun b22=>L27_4 C n g (IntKind.i64.wrap (x125+1)) b22 h8k h8m) (L27_4 C n g (IntKind.i64.wrap (x125+1)) false h8k h8m)) (br (!x3) (some ((vi 130),[])) (some ((vi 0),[])))):=by kernel_rfl
noncomputable def fn28:FnS:=(mkA Try.f28 ⟨17594333596991,[0,0,0,0],false,[]⟩).getD ⟨.skip,0,[],[],0,[],false,[]⟩
theorem F28:cx.F 28=some fn28:=by kernel_rfl
def lv28:Lvs:=⟨[3,2,1,0],[(0,[8,5,4,3,2]),(1,[10,5,4,3,2]),(2,[11,10,5,4,3,2]),(3,[8]),(4,[16,10,5,4,3,2]),(5,[8]),(6,[31,10,5,4,3]),(7,[8]),(8,[44,5,3]),(9,[8]),(10,[8])],[],[]⟩
theorem E28 {C:CallF} {n:Nat} {g:Plain} {m:Move} {ns:Int} {k:Int}:fnE cx C lv28 fn28 n [g.av,m.av,vi ns,vi k]=(br (m.act==0) (some ((.bool (m.n==0)),[])) (br (m.act==1) (br (decide (m.n≥0)) (br (decide (m.n<ns)) (some ((.bool (!k==0)),[])) (some ((.bool false),[]))) (some ((.bool false),[]))) (br (m.act==2) (br (decide (m.n≥0)) (some ((.bool (decide (m.n<(↑(List.map Prod.av g.prods.l).length:Int)))),[])) (some ((.bool false),[]))) (br (m.act==3) (br (m.n==0) (some ((.bool (k==0)),[])) (some ((.bool false),[]))) (some ((.bool false),[])))))):=by kernel_rfl
noncomputable def fn11:FnS:=(mkA Try.f11 ⟨9939826006442155024993782783,[0,0],false,[1426112365422946342515110838281,1426112365422946342515110838282,1426112365422946342515110838283,1426112365422946342515110838284,1426111760960036535200523485197,1426106925256758076683824660494,1426111760960036535200489930767,1426111760960036535200523485200,1426112365422946342515110838289,1426111760960036535200523485202,1267656040394417667328022937619,5440166188265831319732244,1267656040394417667328022937621,1267656040394417667328022937622,1426112365422946342515110838295,1267656040394417667328022937624,1426112365422946342515110838297]⟩).getD ⟨.skip,0,[],[],0,[],false,[]⟩
theorem F11:cx.F 11=some fn11:=by kernel_rfl
def lv11:Lvs:=⟨[1,0],[(0,[4,3,2]),(1,[5,3,2]),(2,[15,5,3,2]),(3,[4]),(4,[6,3,2]),(5,[32,6,3,2]),(6,[4]),(7,[34,33,6,3,2]),(8,[35,34,33,6,3,2]),(9,[34,33,7,6,3,2]),(10,[58,34,33,7,6,3,2]),(11,[4]),(12,[65,64,63,34,33,7,6,3,2]),(13,[66,65,64,63,34,33,7,6,3,2]),(14,[65,64,63,34,33,9,8,7,6,3,2]),(15,[75,65,64,63,34,33,7,6,3,2]),(16,[4]),(17,[65,64,63,34,33,7,6,3,2]),(18,[83,82,81,34,33,6,3,2]),(19,[84,83,82,81,34,33,6,3,2]),(20,[83,82,81,34,33,11,6,3,2]),(21,[93,83,82,81,34,33,6,3,2]),(22,[4]),(23,[83,82,81,34,33,6,3,2]),(24,[34,33,6,3,2]),(25,[4])],[(0,[34,33,6,3,2]),(2,[65,64,63,34,33,7,6,3,2]),(4,[83,82,81,34,33,6,3,2])],[]⟩
noncomputable def L11_0 (C:CallF) (n:Nat) (g:Plain) (t:Table) (x34:Int):Rs:=loopE cx C lv11 fn11 [g.av,t.av] n 0 ⟨[(34,(vi x34)),(33,(vi ((↑(List.map (Sl.av Move.av) t.moves.l).length:Int)))),(6,(vi ((↑(List.map (Sl.av Move.av) t.moves.l).length:Int)))),(3,(.ptr ⟨3,[]⟩ 0 0)),(2,(.ptr ⟨2,[]⟩ 0 0))],[(2,(.bx g.av)),(3,(.bx t.av))],[],false⟩
noncomputable def L11_2 (C:CallF) (n:Nat) (g:Plain) (t:Table) (x65:Int) (x64:Int) (x63l:Nat) (x63z:Nat) (x63e:List AV) (x34:Int) (x7:Int):Rs:=loopE cx C lv11 fn11 [g.av,t.av] n 2 ⟨[(65,(vi x65)),(64,(vi x64)),(63,(.fz x63l x63z x63e)),(34,(vi x34)),(33,(vi ((↑(List.map (Sl.av Move.av) t.moves.l).length:Int)))),(7,(vi x7)),(6,(vi ((↑(List.map (Sl.av Move.av) t.moves.l).length:Int)))),(3,(.ptr ⟨3,[]⟩ 0 0)),(2,(.ptr ⟨2,[]⟩ 0 0))],[(2,(.bx g.av)),(3,(.bx t.av))],[],false⟩
noncomputable def L11_4 (C:CallF) (n:Nat) (g:Plain) (t:Table) (x83:Int) (x82:Int) (x81l:Nat) (x81z:Nat) (x81e:List AV) (x34:Int):Rs:=loopE cx C lv11 fn11 [g.av,t.av] n 4 ⟨[(83,(vi x83)),(82,(vi x82)),(81,(.fz x81l x81z x81e)),(34,(vi x34)),(33,(vi ((↑(List.map (Sl.av Move.av) t.moves.l).length:Int)))),(6,(vi ((↑(List.map (Sl.av Move.av) t.moves.l).length:Int)))),(3,(.ptr ⟨3,[]⟩ 0 0)),(2,(.ptr ⟨2,[]⟩ 0 0))],[(2,(.bx g.av)),(3,(.bx t.av))],[],false⟩
theorem E11 {C:CallF} {n:Nat} {g:Plain} {t:Table}:fnE cx C lv11 fn11 n [g.av,t.av]=(bindE (C 27 [g.av]) fun v1 o2=>cN o2 <| asI .i64 v1 fun n3=>br ((!n3==0)) (some ((vi n3),[])) (br (decide ((↑(List.map (Sl.av Move.av) t.moves.l).length:Int)<1)) (some ((vi 170),[])) (br (decide ((↑(List.map (Sl.av Move.av) t.moves.l).length:Int)> 4096)) (some ((vi 170),[])) (br ((!(↑(List.map (Sl.av vi) t.goto.l).length:Int)==(↑(List.map (Sl.av Move.av) t.moves.l).length:Int))) (some ((vi 170),[])) (L11_0 C n g t 0))))):=by kernel_rfl
theorem E11_0 {C:CallF} {n:Nat} {g:Plain} {t:Table} {x34:Int}:L11_0 C (n+1) g t x34=(br (decide (x34<(↑(List.map (Sl.av Move.av) t.moves.l).length:Int))) (ixE (List.map (Sl.av Move.av) t.moves.l) x34 fun a1=>rq (Nat.beq t.moves.sz 1) <| nthE (cells a1) 0 fun a2=>asF a2 fun _ _ e5=>br ((!(↑e5.length:Int)==(↑(List.map vs g.kinds.l).length:Int))) (some ((vi 170),[])) (ixE (List.map (Sl.av vi) t.goto.l) x34 fun a6=>rq (Nat.beq t.goto.sz 1) <| nthE (cells a6) 0 fun a7=>asF a7 fun _ _ e10=>br ((!(↑e10.length:Int)==(↑(List.map vs g.rules.l).length:Int))) (some ((vi 170),[])) (ixE (List.map (Sl.av Move.av) t.moves.l) x34 fun a11=>rq (Nat.beq t.moves.sz 1) <| nthE (cells a11) 0 fun a12=>asF a12 fun l13 z14 e15=>L11_2 C n g t 0 ((↑e15.length:Int)) l13 z14 e15 x34 x34))) (some ((vi 0),[]))):=by kernel_rfl
theorem E11_2 {C:CallF} {n:Nat} {g:Plain} {t:Table} {x65:Int} {x64:Int} {x63l:Nat} {x63z:Nat} {x63e:List AV} {x34:Int} {x7:Int}:L11_2 C (n+1) g t x65 x64 x63l x63z x63e x34 x7=(br (decide (x65<x64)) (ixE x63e x65 fun a1=>rq (Nat.beq x63z 2) <| cI .i64 (List.take 2 (List.drop 0 (cells a1))) fun n2 c3=>cI .i64 c3 fun n4 c5=>cN c5 <| bindE (C 28 [g.av,(.agg [(vi n2),(vi n4)]),(vi ((↑(List.map (Sl.av Move.av) t.moves.l).length:Int))),(vi x65)]) fun v6 o7=>cN o7 <| asB v6 fun b8=>br (!b8) (some ((vi 170),[])) (L11_2 C n g t (IntKind.i64.wrap (x65+1)) x64 x63l x63z x63e x34 x7)) (ixE (List.map (Sl.av vi) t.goto.l) x7 fun a9=>rq (Nat.beq t.goto.sz 1) <| nthE (cells a9) 0 fun a10=>asF a10 fun l11 z12 e13=>L11_4 C n g t 0 ((↑e13.length:Int)) l11 z12 e13 x34)):=by kernel_rfl
theorem E11_4 {C:CallF} {n:Nat} {g:Plain} {t:Table} {x83:Int} {x82:Int} {x81l:Nat} {x81z:Nat} {x81e:List AV} {x34:Int}:L11_4 C (n+1) g t x83 x82 x81l x81z x81e x34=(br (decide (x83<x82)) (ixE x81e x83 fun a1=>rq (Nat.beq x81z 1) <| nthE (cells a1) 0 fun a2=>asI .i64 a2 fun n3=>br (decide (n3< -1)) (some ((vi 170),[])) (br (decide (n3≥(↑(List.map (Sl.av Move.av) t.moves.l).length:Int))) (some ((vi 170),[])) (L11_4 C n g t (IntKind.i64.wrap (x83+1)) x82 x81l x81z x81e x34))) (L11_0 C n g t (IntKind.i64.wrap (x34+1)))):=by kernel_rfl
noncomputable def fn23:FnS:=(mkA Try.f23 ⟨8598078175,[0,0,0],false,[274877906953,274877906954,274877906955,274877906956]⟩).getD ⟨.skip,0,[],[],0,[],false,[]⟩
theorem F23:cx.F 23=some fn23:=by kernel_rfl
def lv23:Lvs:=⟨[2,1,0],[(0,[6,4,3,2]),(1,[7,3,2]),(2,[14,7,3,2]),(3,[6]),(4,[18,3,2]),(5,[6]),(6,[21,20,19,3]),(7,[22,21,20,19,3]),(8,[21,20,19,9,3]),(9,[33,21,20,19,3]),(10,[6]),(11,[21,20,19,3]),(12,[6])],[(0,[21,20,19,3])],[]⟩
noncomputable def L23_0 (C:CallF) (n:Nat) (g:Plain) (t:Table) (row:Sl Int) (x21:Int):Rs:=loopE cx C lv23 fn23 [g.av,t.av,Sl.av vi row] n 0 ⟨[(21,(vi x21)),(20,(vi ((↑(List.map vi row.l).length:Int)))),(19,(Sl.av vi row)),(3,(.ptr ⟨3,[]⟩ 0 0))],[(3,(.bx g.av)),(4,(.bx t.av))],[],false⟩
theorem E23 {C:CallF} {n:Nat} {g:Plain} {t:Table} {row:Sl Int}:fnE cx C lv23 fn23 n [g.av,t.av,Sl.av vi row]=(bindE (C 11 [g.av,t.av]) fun v1 o2=>cN o2 <| asI .i64 v1 fun n3=>br ((!n3==0)) (some ((vi n3),[])) (br (decide ((↑(List.map vi row.l).length:Int)> 65536)) (some ((vi 3),[])) (L23_0 C n g t row 0))):=by kernel_rfl
theorem E23_0 {C:CallF} {n:Nat} {g:Plain} {t:Table} {row:Sl Int} {x21:Int}:L23_0 C (n+1) g t row x21=(br (decide (x21<(↑(List.map vi row.l).length:Int))) (ixE (List.map vi row.l) x21 fun a1=>rq (Nat.beq row.sz 1) <| nthE (cells a1) 0 fun a2=>asI .i64 a2 fun n3=>br (decide (n3<1)) (some ((vi 1),[])) (br (decide (n3≥(↑(List.map vs g.kinds.l).length:Int))) (some ((vi 1),[])) (L23_0 C n g t row (IntKind.i64.wrap (x21+1))))) (some ((vi 0),[]))):=by kernel_rfl
end Go.Am.Pull
end
section
namespace Go.Am.Pull
open Go Go.Proofs Go.Am
set_option maxRecDepth 100000
set_option maxHeartbeats 4000000
variable {O:List Ent}
theorem take_isTree {nd:Bool→Int→List AV→AV} (hnd:∀b n l,l.all isTree=true→isTree (nd b n l)=true) {g:Plain} {t:Table} {k:Int} {d:AV} (hd:isTree d=true):∀{f:Nat} {p q:PS} {dn e:Int},p.ts.all isTree=true→takeS nd g t k d f p=(dn,e,q)→q.ts.all isTree=true
 |0,p,q,dn,e,hp,h=>by cases h;exact hp
 |f+1,p,q,dn,e,hp,h=>by
  obtain⟨a,b,q',ho⟩:∃a b c,oneS nd g t k d p=(a,b,c):=⟨_,_,_,rfl⟩
  have h2:=one_isTree hnd hd hp ho
  rw[takeS]at h
  simp only[ho]at h
  split at h
  ·cases h;exact h2
  ·exact take_isTree hnd hd h2 h
theorem run_isTree {nd:Bool→Int→List AV→AV} (hnd:∀b n l,l.all isTree=true→isTree (nd b n l)=true) {g:Plain} {t:Table} {row:List Int}:∀{n:Nat} {i:Int} {p q:PS} {w ix:Int} {tr:AV},p.ts.all isTree=true→runS nd g t row n i p=(q,w,ix,tr)→q.ts.all isTree=true∧isTree tr=true
 |0,i,p,q,w,ix,tr,hp,h=>by
  cases h
  refine⟨hp,?_⟩
  cases hts:p.ts with
  |nil=>rfl
  |cons a l=>rw[hts,List.all_cons,Bool.and_eq_true]at hp;exact hp.1
 |n+1,i,p,q,w,ix,tr,hp,h=>by
  obtain⟨a,b,q',ho⟩:∃a b c,takeS nd g t (if i<row.length then row.getD i.toNat default else 0) (lf i) p.fuel p=(a,b,c):=⟨_,_,_,rfl⟩
  have h2:=take_isTree hnd (d:=lf i) rfl hp ho
  rw[runS]at h
  simp only[ho]at h
  split at h
  ·exact run_isTree hnd h2 h
  ·cases h;exact⟨h2,rfl⟩
theorem frzL_moves {lab:Nat} {l:List Move}:frzL lab (l.map Move.av)=l.map Move.av:=frzL_id fun a ha=>by
 obtain⟨n,_,rfl⟩:=List.mem_map.1 ha
 intro lab;rfl
def trV (tr:List Move):AV:=if tr=[]then .fz 1 0 []else .fz 0 2 (tr.map Move.av)
structure RowOk (g:Plain) (t:Table) (row:Sl Int):Prop where
 ok:Ok g t
 sz:row.ok 1
 len:row.l.length<2 ^ 40
 kinds:∀k∈row.l,1≤k∧k<g.kinds.l.length
noncomputable def fn7:FnS:=(mkA Try.f7 ⟨67039,[0,0,0],false,[]⟩).getD ⟨.skip,0,[],[],0,[],false,[]⟩
theorem F7:cx.F 7=some fn7:=by kernel_rfl
theorem parse_q (hO:∀e∈O,e.f≠7) (hO3a:∀e∈O,e.f≠24) (hO4:∀e∈O,e.f≠34) (hO5:∀e∈O,e.f≠35) (hO8:∀e∈O,e.f≠58) (hO7:∀e∈O,e.f≠57) (hO3:∀e∈O,e.f≠37) (hO6:∀e∈O,e.f≠56) {g:Plain} {t:Table} {row:Sl Int} {x14:Int} (h23:Ans cx O 23 [g.av,t.av,row.av vi] (vi x14,[])) (hr:x14=0→RowOk g t row):
  Ans cx O 7 [g.av,t.av,row.av vi] (if x14=0 then(match runS ndP g t row.l (row.l.length+1) 0 p0 with|(q,w,ix,tr)=>(.tup [outA w ix tr,vi 0],[]))else(.tup [Z37,vi x14],[])):=by
 refine ans_q [2,1,0] (fn:=fn7) F7 (orc_none hO) ?_
 show Wq cx O 67039 0 [] _ ⟨[(2,(Sl.av vi row)),(1,(Table.av t)),(0,(Plain.av g))],[],[],false⟩ _
 apply Wq.seq
 refine Wq.rg [7,6,4,3,2] ?_
 refine .e (.ptr ⟨3,[]⟩ 0 0) [(3,.bx (Plain.av g))] ?_
 refine .e (.ptr ⟨4,[]⟩ 0 0) [(3,.bx (Plain.av g)),(4,.bx (Table.av t))] ?_
 refine .e (.ptr ⟨6,[]⟩ 0 0) [(3,.bx (Plain.av g)),(4,.bx (Table.av t)),(6,.bx Z37)] ?_
 refine .p (vi 0) ?_
 refine .done ⟨[(7,(vi 0)),(6,(.ptr ⟨6,[]⟩ 0 0)),(4,(.ptr ⟨4,[]⟩ 0 0)),(3,(.ptr ⟨3,[]⟩ 0 0)),(2,(Sl.av vi row))],[(3,.bx (Plain.av g)),(4,.bx (Table.av t)),(6,.bx Z37)],[],false⟩ ?_
 apply Wq.seq
 refine Wq.rg [8,6,4,3,2] ?_
 refine .r (Plain.av g) ?_
 refine .r (Table.av t) ?_
 refine .p (Sl.av vi row) ?_
 refine .cl F23 rfl rfl h23 (expArgs_cons rfl (expArgs_cons rfl (expArgs_cons rfl rfl rfl) rfl) rfl) rfl rfl rfl (vi x14) [(3,.bx (Plain.av g)),(4,.bx (Table.av t)),(6,.bx Z37)] ?_
 refine .p (vi x14) ?_
 refine .done ⟨[(8,(vi x14)),(6,(.ptr ⟨6,[]⟩ 0 0)),(4,(.ptr ⟨4,[]⟩ 0 0)),(3,(.ptr ⟨3,[]⟩ 0 0)),(2,(Sl.av vi row))],[(3,.bx (Plain.av g)),(4,.bx (Table.av t)),(6,.bx Z37)],[],false⟩ ?_
 apply Wq.seq
 apply Wq.seq
 refine Wq.rg [16,8,6,4,3,2] ?_
 refine .p (vi x14) ?_
 refine .p (.bool (!(x14==0))) ?_
 refine .done ⟨[(16,(.bool (!(x14==0)))),(8,(vi x14)),(6,(.ptr ⟨6,[]⟩ 0 0)),(4,(.ptr ⟨4,[]⟩ 0 0)),(3,(.ptr ⟨3,[]⟩ 0 0)),(2,(Sl.av vi row))],[(3,.bx (Plain.av g)),(4,.bx (Table.av t)),(6,.bx Z37)],[],false⟩ ?_
 refine Wq.cond rfl (fun hx=>?_) (fun hx=>?_)
 ·have hx:¬(x14=0):=by simpa using hx
  apply Wq.seq
  refine Wq.rg [7,6] ?_
  refine .p Z37 ?_
  refine .p (vi x14) ?_
  refine .sq [(3,.bx (Plain.av g)),(4,.bx (Table.av t)),(6,.bx Z37)] ?_
  refine .p (vi x14) ?_
  refine .done ⟨[(7,(vi x14)),(6,(.ptr ⟨6,[]⟩ 0 0))],[(3,.bx (Plain.av g)),(4,.bx (Table.av t)),(6,.bx Z37)],[],false⟩ ?_
  refine Wq.ret ?_
  exact Aq.mk rfl (by rw[if_neg hx];rfl)
 ·have hx:(x14=0):=by simpa using hx
  obtain⟨hok,hr1,hrl,hrow⟩:=hr hx
  obtain⟨q,w,ix,tr,hrun⟩:∃a b c d,runS ndP g t row.l (row.l.length+1) 0 p0=(a,b,c,d):=⟨_,_,_,_,rfl⟩
  have hans:=run_q hO3a hO4 hO5 hO8 hO7 hO3 hO6 hok hr1 hrl hrow
  rw[hrun]at hans
  obtain⟨hqt,htr⟩:=run_isTree ndP_tree (p:=p0) rfl hrun
  obtain⟨dp,dt,dl,dz,ks,rfl⟩:=isTree_iff htr
  rw[if_pos hx,hrun]
  refine Wq.skip ?_
  apply Wq.seq
  refine Wq.rg [10,6] ?_
  refine .r (Plain.av g) ?_
  refine .r (Table.av t) ?_
  refine .p (Sl.av vi row) ?_
  refine .cl F24 rfl rfl hans (expArgs_cons rfl (expArgs_cons rfl (expArgs_cons rfl rfl rfl) rfl) rfl) rfl rfl rfl (.tup [.fp 0 (frz 0 (q.qf g t)) 0,(.agg [vi w,vi ix,vi dp,vi dt,.fz dl dz ks])]) [(3,.bx (Plain.av g)),(4,.bx (Table.av t)),(6,.bx Z37)] ?_
  refine .p (.tup [.fp 0 (frz 0 (q.qf g t)) 0,(.agg [vi w,vi ix,vi dp,vi dt,.fz dl dz ks])]) ?_
  refine .p (.fp 0 (frz 0 (q.qf g t)) 0) ?_
  refine .p (.agg [vi w,vi ix,vi dp,vi dt,.fz dl dz ks]) ?_
  refine .e (.ptr ⟨10,[]⟩ 0 0) [(3,.bx (Plain.av g)),(4,.bx (Table.av t)),(6,.bx Z37),(10,.bx Z37)] ?_
  refine .p (.fp 0 (frz 0 (q.qf g t)) 0) ?_
  refine .sq [(3,.bx (Plain.av g)),(4,.bx (Table.av t)),(6,.bx Z37),(10,.bx (.agg [vi w,vi ix,vi dp,vi dt,.fz dl dz ks]))] ?_
  refine .done ⟨[(10,(.ptr ⟨10,[]⟩ 0 0)),(6,(.ptr ⟨6,[]⟩ 0 0))],[(3,.bx (Plain.av g)),(4,.bx (Table.av t)),(6,.bx Z37),(10,.bx (.agg [vi w,vi ix,vi dp,vi dt,.fz dl dz ks]))],[],false⟩ ?_
  apply Wq.seq
  refine Wq.rg [7,6] ?_
  refine .r (.agg [vi w,vi ix,vi dp,vi dt,.fz dl dz ks]) ?_
  refine .sq [(3,.bx (Plain.av g)),(4,.bx (Table.av t)),(6,.bx (.agg [vi w,vi ix,vi dp,vi dt,.fz dl dz ks])),(10,.bx (.agg [vi w,vi ix,vi dp,vi dt,.fz dl dz ks]))] ?_
  refine .p (vi 0) ?_
  refine .done ⟨[(7,(vi 0)),(6,(.ptr ⟨6,[]⟩ 0 0))],[(3,.bx (Plain.av g)),(4,.bx (Table.av t)),(6,.bx (.agg [vi w,vi ix,vi dp,vi dt,.fz dl dz ks])),(10,.bx (.agg [vi w,vi ix,vi dp,vi dt,.fz dl dz ks]))],[],false⟩ ?_
  refine Wq.ret ?_
  exact Aq.mk rfl rfl
noncomputable def fn9:FnS:=(mkA Try.f9 ⟨66527,[0,0,0],false,[]⟩).getD ⟨.skip,0,[],[],0,[],false,[]⟩
theorem F9:cx.F 9=some fn9:=by kernel_rfl
theorem trace_q (hO:∀e∈O,e.f≠9) (hO3a:∀e∈O,e.f≠24) (hO4:∀e∈O,e.f≠34) (hO5:∀e∈O,e.f≠35) (hO8:∀e∈O,e.f≠58) (hO7:∀e∈O,e.f≠57) (hO3:∀e∈O,e.f≠37) (hO6:∀e∈O,e.f≠56) {g:Plain} {t:Table} {row:Sl Int} {x14:Int} (h23:Ans cx O 23 [g.av,t.av,row.av vi] (vi x14,[])) (hr:x14=0→RowOk g t row):
  Ans cx O 9 [g.av,t.av,row.av vi] (if x14=0 then(match runS ndP g t row.l (row.l.length+1) 0 p0 with|(q,w,ix,tr)=>(.tup [trV q.tr,vi 0],[]))else(.tup [.fz 1 0 [],vi x14],[])):=by
 refine ans_q [2,1,0] (fn:=fn9) F9 (orc_none hO) ?_
 show Wq cx O 66527 0 [] _ ⟨[(2,(Sl.av vi row)),(1,(Table.av t)),(0,(Plain.av g))],[],[],false⟩ _
 apply Wq.seq
 refine Wq.rg [7,6,4,3,2] ?_
 refine .e (.ptr ⟨3,[]⟩ 0 0) [(3,.bx (Plain.av g))] ?_
 refine .e (.ptr ⟨4,[]⟩ 0 0) [(3,.bx (Plain.av g)),(4,.bx (Table.av t))] ?_
 refine .p (.fz 1 0 []) ?_
 refine .p (vi 0) ?_
 refine .done ⟨[(7,(vi 0)),(6,(.fz 1 0 [])),(4,(.ptr ⟨4,[]⟩ 0 0)),(3,(.ptr ⟨3,[]⟩ 0 0)),(2,(Sl.av vi row))],[(3,.bx (Plain.av g)),(4,.bx (Table.av t))],[],false⟩ ?_
 apply Wq.seq
 refine Wq.rg [8,4,3,2] ?_
 refine .r (Plain.av g) ?_
 refine .r (Table.av t) ?_
 refine .p (Sl.av vi row) ?_
 refine .cl F23 rfl rfl h23 (expArgs_cons rfl (expArgs_cons rfl (expArgs_cons rfl rfl rfl) rfl) rfl) rfl rfl rfl (vi x14) [(3,.bx (Plain.av g)),(4,.bx (Table.av t))] ?_
 refine .p (vi x14) ?_
 refine .done ⟨[(8,(vi x14)),(4,(.ptr ⟨4,[]⟩ 0 0)),(3,(.ptr ⟨3,[]⟩ 0 0)),(2,(Sl.av vi row))],[(3,.bx (Plain.av g)),(4,.bx (Table.av t))],[],false⟩ ?_
 apply Wq.seq
 apply Wq.seq
 refine Wq.rg [16,8,4,3,2] ?_
 refine .p (vi x14) ?_
 refine .p (.bool (!(x14==0))) ?_
 refine .done ⟨[(16,(.bool (!(x14==0)))),(8,(vi x14)),(4,(.ptr ⟨4,[]⟩ 0 0)),(3,(.ptr ⟨3,[]⟩ 0 0)),(2,(Sl.av vi row))],[(3,.bx (Plain.av g)),(4,.bx (Table.av t))],[],false⟩ ?_
 refine Wq.cond rfl (fun hx=>?_) (fun hx=>?_)
 ·have hx:¬(x14=0):=by simpa using hx
  apply Wq.seq
  refine Wq.rg [7,6] ?_
  refine .p (vi x14) ?_
  refine .p (.fz 1 0 []) ?_
  refine .p (vi x14) ?_
  refine .done ⟨[(7,(vi x14)),(6,(.fz 1 0 []))],[(3,.bx (Plain.av g)),(4,.bx (Table.av t))],[],false⟩ ?_
  refine Wq.ret ?_
  exact Aq.mk rfl (by rw[if_neg hx];rfl)
 ·have hx:(x14=0):=by simpa using hx
  obtain⟨hok,hr1,hrl,hrow⟩:=hr hx
  obtain⟨q,w,ix,tr,hrun⟩:∃a b c d,runS ndP g t row.l (row.l.length+1) 0 p0=(a,b,c,d):=⟨_,_,_,_,rfl⟩
  have hans:=run_q hO3a hO4 hO5 hO8 hO7 hO3 hO6 hok hr1 hrl hrow
  rw[hrun]at hans
  obtain⟨hqt,htr⟩:=run_isTree ndP_tree (p:=p0) rfl hrun
  obtain⟨dp,dt,dl,dz,ks,rfl⟩:=isTree_iff htr
  rw[if_pos hx,hrun]
  refine Wq.skip ?_
  apply Wq.seq
  refine Wq.rg [9] ?_
  refine .r (Plain.av g) ?_
  refine .r (Table.av t) ?_
  refine .p (Sl.av vi row) ?_
  refine .cl F24 rfl rfl hans (expArgs_cons rfl (expArgs_cons rfl (expArgs_cons rfl rfl rfl) rfl) rfl) rfl rfl rfl (.tup [.fp 0 (frz 0 (q.qf g t)) 0,(.agg [vi w,vi ix,vi dp,vi dt,.fz dl dz ks])]) [(3,.bx (Plain.av g)),(4,.bx (Table.av t))] ?_
  refine .p (.tup [.fp 0 (frz 0 (q.qf g t)) 0,(.agg [vi w,vi ix,vi dp,vi dt,.fz dl dz ks])]) ?_
  refine .p (.fp 0 (frz 0 (q.qf g t)) 0) ?_
  refine .p (.agg [vi w,vi ix,vi dp,vi dt,.fz dl dz ks]) ?_
  refine .e (.ptr ⟨10,[]⟩ 0 0) [(3,.bx (Plain.av g)),(4,.bx (Table.av t)),(10,.bx Z37)] ?_
  refine .p (.fp 0 (frz 0 (q.qf g t)) 0) ?_
  refine .sq [(3,.bx (Plain.av g)),(4,.bx (Table.av t)),(10,.bx (.agg [vi w,vi ix,vi dp,vi dt,.fz dl dz ks]))] ?_
  refine .done ⟨[(9,(.fp 0 (frz 0 (q.qf g t)) 0))],[(3,.bx (Plain.av g)),(4,.bx (Table.av t))],[],false⟩ ?_
  apply Wq.seq
  obtain⟨qst,qts,qtb,qtr,qn⟩:=q
  cases qtr with
  |nil=>
   refine Wq.rg [7,6] ?_
   iterate 2 (refine .p (.fp 0 (frz 0 (PS.qf g t ⟨qst,qts,qtb,[],qn⟩)) 0) ?_)
   refine .p (.fp 0 (frz 0 (PS.qf g t ⟨qst,qts,qtb,[],qn⟩)) 9) ?_
   iterate 2 (refine .p (.fz 1 0 []) ?_)
   refine .p (vi 0) ?_
   refine .done ⟨[(7,(vi 0)),(6,.fz 1 0 [])],[(3,.bx (Plain.av g)),(4,.bx (Table.av t))],[],false⟩ ?_
   refine Wq.ret ?_
   exact Aq.mk rfl rfl
  |cons m l=>
   refine Wq.rg [7,6] ?_
   iterate 2 (refine .p (.fp 0 (frz 0 (PS.qf g t ⟨qst,qts,qtb,m::l,qn⟩)) 0) ?_)
   refine .p (.fp 0 (frz 0 (PS.qf g t ⟨qst,qts,qtb,m::l,qn⟩)) 9) ?_
   refine .pv (.fz 0 2 (frzL 0 ((m::l).map Move.av))) (.fz 0 2 ((m::l).map Move.av)) (by rw[frzL_moves]) ?_
   refine .p (.fz 0 2 ((m::l).map Move.av)) ?_
   refine .p (vi 0) ?_
   refine .done ⟨[(7,(vi 0)),(6,.fz 0 2 ((m::l).map Move.av))],[(3,.bx (Plain.av g)),(4,.bx (Table.av t))],[],false⟩ ?_
   refine Wq.ret ?_
   exact Aq.mk rfl rfl
end Go.Am.Pull
end
section
namespace Go.Am
theorem Ans.uniq {cx:Cx} {O:List Ent} {f:Nat} {vs:List AV} {r r':AV×List AV} (h:Ans cx O f vs r) (h':Ans cx O f vs r'):r=r':=by
 obtain⟨m,h⟩:=h
 obtain⟨m',h'⟩:=h'
 have h1:evO cx (m+m') O (m+m') f vs=some r:=h (m+m') (m+m') (by omega) (by omega)
 have h2:evO cx (m+m') O (m+m') f vs=some r':=h' (m+m') (m+m') (by omega) (by omega)
 rw[h1]at h2;exact Option.some.inj h2
open Classical in
noncomputable def Orc (cx:Cx) (O:List Ent):CallF:=fun f vs=>if h:∃r,Ans cx O f vs r then some h.choose else none
theorem Orc_ok {cx:Cx} {O:List Ent} (f:Nat) (vs:List AV) (r:AV×List AV) (h:Orc cx O f vs=some r):Ans cx O f vs r:=by
 unfold Orc at h
 split at h
 ·rename_i hx;rw[←Option.some.inj h];exact hx.choose_spec
 ·cases h
theorem Orc_eq {cx:Cx} {O:List Ent} {f:Nat} {vs:List AV} {r:AV×List AV} (h:Ans cx O f vs r):Orc cx O f vs=some r:=by
 have hx:∃r,Ans cx O f vs r:=⟨r,h⟩
 unfold Orc
 rw[dif_pos hx,hx.choose_spec.uniq h]
theorem ans_ex {cx:Cx} {O:List Ent} {lv:Lvs} {fn:FnS} {f:Nat} {args:List AV} {x:AV×List AV} (hF:cx.F f=some fn) (hO:∀e∈O,e.f≠f) (h:∃n,fnE cx (Orc cx O) lv fn n args=some x):Ans cx O f args x:=by
 obtain⟨n,h⟩:=h
 exact fnE_ans Orc_ok hF (orc_none hO) h
variable {α:Type}
def ixT (l:List α) (n:Int) (K:α→Rs):Rs:=match (if 0≤n then l[n.toNat]? else none)with|some a=>K a|none=>none
theorem ixE_map {f:α→AV} {l:List α} {n:Int} {K:AV→Rs}:ixE (l.map f) n K=ixT l n fun x=>K (f x):=by
 unfold ixE ixT
 by_cases h:0≤n
 ·simp only[if_pos h,List.getElem?_map]
  cases l[n.toNat]?<;>rfl
 ·simp only[if_neg h]
theorem ixT_in {l:List α} {n:Int} {K:α→Rs} (d:α) (h0:0≤n) (h1:n<l.length):ixT l n K=K (l.getD n.toNat d):=by
 have:n.toNat<l.length:=by omega
 unfold ixT
 simp only[if_pos h0,List.getD,List.getElem?_eq_getElem this,Option.getD_some]
theorem sxE_in {s:ByteArray} {n:Int} {K:Int→Rs} (h0:0≤n) (h1:n<s.size):sxE s n K=K (byteAt s n):=by
 have e:s.data.toList.length=s.size:=by rw[Array.length_toList];rfl
 have:n.toNat<s.data.toList.length:=by omega
 unfold sxE byteAt
 simp only[if_pos h0,List.getD,List.getElem?_eq_getElem this,Option.getD_some]
theorem br_if {b:Bool} {x y:Rs}:br b x y=if b=true then x else y:=by cases b<;>rfl
theorem br_t {x y:Rs}:br true x y=x:=rfl
theorem br_dec {p:Prop} [Decidable p] {x y:Rs}:br (decide p) x y=if p then x else y:=by by_cases h:p<;>simp[br_if,h]
theorem br_eqI {a b:Int} {x y:Rs}:br (a==b) x y=if a=b then x else y:=by by_cases h:a=b<;>simp[br_if,h]
theorem br_not {b:Bool} {x y:Rs}:br (!b) x y=br b y x:=by cases b<;>rfl
theorem rq_t {x:Rs}:rq true x=x:=rfl
theorem rq_beq {a b:Nat} {x:Rs} (h:a=b):rq (Nat.beq a b) x=x:=by subst h;rw[Nat.beq_refl];rfl
theorem asI_vi {n:Int} {K:Int→Rs}:asI .i64 (vi n) K=K n:=rfl
theorem asS_vs {s:ByteArray} {K:ByteArray→Rs}:asS (.str s) K=K s:=rfl
theorem asB_b {b:Bool} {K:Bool→Rs}:asB (.bool b) K=K b:=rfl
theorem asF_f {a b:Nat} {es:List AV} {K:Nat→Nat→List AV→Rs}:asF (.fz a b es) K=K a b es:=rfl
theorem asF_sl {f:α→AV} {s:Sl α} {K:Nat→Nat→List AV→Rs}:asF (s.av f) K=K s.lab s.sz (s.l.map f):=rfl
theorem cI_v {n:Int} {l:List AV} {K:Int→List AV→Rs}:cI .i64 (vi n::l) K=K n l:=rfl
theorem cF_sl {f:α→AV} {s:Sl α} {l:List AV} {K:Nat→Nat→List AV→List AV→Rs}:cF (s.av f::l) K=K s.lab s.sz (s.l.map f) l:=rfl
theorem cN_n {K:Rs}:cN [] K=K:=rfl
theorem nthE_vi {n:Int} {K:AV→Rs}:nthE (cells (vi n)) 0 K=K (vi n):=rfl
theorem nthE_vs {s:ByteArray} {K:AV→Rs}:nthE (cells (vs s)) 0 K=K (vs s):=rfl
theorem nthE_sl {f:α→AV} {s:Sl α} {K:AV→Rs}:nthE (cells (s.av f)) 0 K=K (s.av f):=rfl
theorem nthE_0 {a:AV} {l:List AV} {K:AV→Rs}:nthE (a::l) 0 K=K a:=rfl
theorem nthE_s {a:AV} {l:List AV} {i:Nat} {K:AV→Rs}:nthE (a::l) (i+1) K=nthE l i K:=rfl
theorem bindE_s {v:AV} {o:List AV} {K:AV→List AV→Rs}:bindE (some (v,o)) K=K v o:=rfl
theorem bindE_eq {r:Rs} {v:AV} {o:List AV} {K:AV→List AV→Rs} (h:r=some (v,o)):bindE r K=K v o:=by rw[h];rfl
theorem drop_cons {l:List α} {n:Int} (d:α) (h0:0≤n) (h1:n<l.length):l.drop n.toNat=l.getD n.toNat d::l.drop (n.toNat+1):=by
 have:n.toNat<l.length:=by omega
 rw[List.drop_eq_getElem_cons this];simp[List.getD,this]
theorem okE {n:Nat} {s:Sl α} (h:s.ok n) {i:Int} (h0:0≤i) (h1:i<s.l.length):s.sz=n:=by
 rcases h with h|h
 ·rw[h]at h1;simp at h1;omega
 ·exact h
end Go.Am
end
section
namespace Go.Am.Pull
open Go Go.Proofs Go.Am
set_option maxRecDepth 100000
set_option maxHeartbeats 4000000
variable {O:List Ent} {C:CallF}
def moveS (np:Nat) (m:Move) (ns k:Int):Bool:=
 if m.act=0 then m.n==0 else if m.act=1 then(decide (m.n≥0)&&decide (m.n<ns))&& !(k==0)else if m.act=2 then decide (m.n≥0)&&decide (m.n<np)else if m.act=3 then(m.n==0)&&(k==0)else false
def badK (nk:Nat) (k:Int):Bool:=decide (k<1)||decide (k≥nk)
def rowS (nk:Nat) (row:List Int):Int:=if 65536<row.length then 3 else if row.any (badK nk)then 1 else 0
structure Ty (g:Plain) (t:Table):Prop where
 prods:g.prods.ok 7
 right:∀x∈g.prods.l,x.right.ok 1
 moves:t.moves.ok 1
 goto:t.goto.ok 1
 row:∀r∈t.moves.l,r.ok 2
 grow:∀r∈t.goto.l,r.ok 1
 small:g.kinds.l.length<2 ^ 40∧g.rules.l.length<2 ^ 40∧g.prods.l.length<2 ^ 40∧t.moves.l.length<2 ^ 40∧t.goto.l.length<2 ^ 40∧∀x∈g.prods.l,x.right.l.length<2 ^ 40
def goS (ns:Int) (x:Int):Bool:= !(decide (x< -1)||decide (x≥ns))
def rowOkS (g:Plain) (ns:Int) (r:Sl Move) (q:Sl Int):Bool:=
 !(!((r.l.length:Int)==g.kinds.l.length)|| !((q.l.length:Int)==g.rules.l.length))&&((List.range r.l.length).all (fun k=>moveS g.prods.l.length (r.l.getD k default) ns k)&&q.l.all (goS ns))
def checkS (g:Plain) (t:Table) (e:Int):Int:=
 if ¬e=0 then e else
 if((decide ((t.moves.l.length:Int)<1)||decide ((t.moves.l.length:Int)> 4096))|| !((t.goto.l.length:Int)==t.moves.l.length))=true then 170 else
 if(List.range t.moves.l.length).all (fun i=>rowOkS g t.moves.l.length (t.moves.l.getD i default) (t.goto.l.getD i default))=true then 0 else 170
def nameB (c i:Int):Bool:=(((((decide (c≥97))&&(decide (c≤122)))||((decide (c≥65))&&(decide (c≤90))))||(c==95))||(((decide (i> 0))&&(decide (c≥48)))&&(decide (c≤57))))
def namedS (s:ByteArray):Bool:=(List.range s.size).all (fun i=>nameB (byteAt s i) i)&&(decide ((s.size:Int)≥1)&&decide ((s.size:Int)≤64))
def kindsL:List ByteArray→List ByteArray→Int
 |_,[]=>0
 |kl,r::l=>if((!namedS r)||hasK kl r)=true then 70 else kindsL (kput kl r) l
def bEnd:ByteArray:=⟨#[101,110,100]⟩
def bErr:ByteArray:=⟨#[101,114,114,111,114]⟩
def kindsS (ks:Sl ByteArray):Int:=
 if((((decide ((ks.l.length:Int)<2))||(decide ((ks.l.length:Int)> 1024)))||(!((ks.l.getD 0 default).toList==bEnd.toList)))||(!((ks.l.getD 1 default).toList==bErr.toList)))=true then 70 else kindsL [] ks.l
def actV (a:Act):AV:=.agg [vi a.kind,vi a.ix,vs a.name,.fz a.lab a.sz (vActs a.kids)]
theorem vAct_eq:∀a,vAct a=actV a
 | .mk _ _ _ _ _ _=>by rw[vAct];rfl
def Act.ks (a:Act):Sl Act:=⟨a.lab,a.sz,a.kids⟩
instance:Inhabited Act:=⟨.mk 0 0 .empty 0 0 []⟩
mutual
def Act.good:Act→Prop
 | .mk _ _ _ _ sz kids=>(kids=[]∨sz=4)∧kids.length<2 ^ 40∧goodL kids
def goodL:List Act→Prop
 |[]=>True
 |a::l=>a.good∧goodL l
end
theorem goodL_mem:∀{l:List Act} {a:Act},goodL l→a∈l→a.good
 |[],_,_,h=>absurd h List.not_mem_nil
 |b::l,a,h,hm=>by
  rw[goodL]at h
  rcases List.mem_cons.1 hm with rfl|hm
  ·exact h.1
  ·exact goodL_mem h.2 hm
def okA (a:Act) (syms:Int):Bool:=
 if a.kind=0 then((a.kids.length:Int)==0&&a.ix==0)&&(a.name.toList==ByteArray.empty.toList)
 else if a.kind=1 then(((a.kids.length:Int)==0&&decide (a.ix≥0))&&decide (a.ix<syms))&&(a.name.toList==ByteArray.empty.toList)
 else if a.kind=3 then((a.kids.length:Int)==0&&a.ix==0)&&decide ((a.name.size:Int)≤4096)
 else if a.kind=2 then(a.ix==0&&decide ((a.name.size:Int)≥1))&&decide ((a.name.size:Int)≤32)
 else false
mutual
def partsS (syms:Int):Act→Int→Bool×Int
 | .mk kind ix name lab sz kids,n=>let r:=kidsS syms kids (okA (.mk kind ix name lab sz kids) syms,n+1);(r.1&&decide (r.2≤256),r.2)
def kidsS (syms:Int):List Act→Bool×Int→Bool×Int
 |[],r=>r
 |k::l,r=>kidsS syms l (if(r.1&&decide (r.2≤256))=true then partsS syms k r.2 else(false,r.2))
end
mutual
theorem parts_le {syms:Int}:∀(a:Act) (n:Int),0≤n→n≤256→0≤(partsS syms a n).2∧(partsS syms a n).2≤257
 | .mk kind ix name lab sz kids,n,h0,h1=>by
  rw[partsS]
  exact kids_le kids _ (by show 0≤n+1;omega) (by show n+1≤257;omega)
theorem kids_le {syms:Int}:∀(l:List Act) (r:Bool×Int),0≤r.2→r.2≤257→0≤(kidsS syms l r).2∧(kidsS syms l r).2≤257
 |[],r,h0,h1=>by rw[kidsS];exact⟨h0,h1⟩
 |k::l,r,h0,h1=>by
  rw[kidsS]
  by_cases hc:(r.1&&decide (r.2≤256))=true
  ·rw[if_pos hc]
   have hle:r.2≤256:=by simp at hc;exact hc.2
   exact kids_le l _ (parts_le k r.2 h0 hle).1 (parts_le k r.2 h0 hle).2
  ·rw[if_neg hc];exact kids_le l _ h0 h1
end
theorem partsS_eq (syms:Int) (a:Act) (n:Int):partsS syms a n=((kidsS syms a.kids (okA a syms,n+1)).1&&decide ((kidsS syms a.kids (okA a syms,n+1)).2≤256),(kidsS syms a.kids (okA a syms,n+1)).2):=by
 cases a;rw[partsS];rfl
def prodS (g:Plain) (p:Prod):Bool:=
 !((((decide (p.left<0))||(decide (p.left≥(g.rules.l.length:Int))))||(decide ((p.right.l.length:Int)> 64)))||(decide (p.level<0)))&&
 (p.right.l.all (fun x=> !((decide (x<1))||(decide (x≥(g.kinds.l.length:Int)+(g.rules.l.length:Int)))))&&(partsS p.right.l.length p.act 0).1)
def precS (p:Prec) (i:Int):Bool:=(p.level==0&&p.assoc==0)||((((decide (p.level≥1))&&(decide (p.assoc≥1)))&&(decide (p.assoc≤3)))&&(decide (i≥2)))
def gOk0 (g:Plain):Bool:=(kindsS g.kinds==0)&&((g.precs.l.length:Int)==(g.kinds.l.length:Int))
def gOk1 (g:Plain):Bool:=gOk0 g&&(List.range g.precs.l.length).all (fun i=>precS (g.precs.l.getD i default) i)
def gOk2 (g:Plain):Bool:=(((((gOk1 g&&(decide ((g.rules.l.length:Int)≥1)))&&(decide ((g.rules.l.length:Int)≤2048)))&&(decide (g.start≥0)))&&(decide (g.start<(g.rules.l.length:Int))))&&(decide ((g.prods.l.length:Int)≤4096)))
def rulesL:List ByteArray→Bool→List ByteArray→Bool
 |_,b,[]=>b
 |kl,b,r::l=>rulesL (kput kl r) (((b&&(decide ((r.size:Int)≥1)))&&(decide ((r.size:Int)≤4096)))&&(!(hasK kl r))) l
def gOk3 (g:Plain):Bool:=rulesL [] (gOk2 g) g.rules.l
def gOk (g:Plain):Bool:=gOk3 g&&g.prods.l.all (prodS g)
def gcheckS (g:Plain):Int:=if gOk g=true then 0 else 130
structure GTy (g:Plain):Prop where
 kinds:g.kinds.ok 1
 precs:g.precs.ok 2
 rules:g.rules.ok 1
 prods:g.prods.ok 7
 right:∀x∈g.prods.l,x.right.ok 1∧x.right.l.length<2 ^ 40∧x.act.good
 small:g.kinds.l.length<2 ^ 40∧g.precs.l.length<2 ^ 40∧g.rules.l.length<2 ^ 40∧g.prods.l.length<2 ^ 40
 names:∀x∈g.kinds.l,x.size<2 ^ 40
theorem wr1 {x:Int} (h0:0≤x) (h1:x<2 ^ 40):IntKind.i64.wrap (x+1)=x+1:=wrap_id (by omega) (by omega)
theorem all_drop {α:Type} {l:List α} {f:α→Bool} {n:Int} (d:α) (h0:0≤n) (h1:n<l.length):(l.drop n.toNat).all f=(f (l.getD n.toNat d)&&(l.drop (n.toNat+1)).all f):=by rw[drop_cons d h0 h1];rfl
theorem any_drop {α:Type} {l:List α} {f:α→Bool} {n:Int} (d:α) (h0:0≤n) (h1:n<l.length):(l.drop n.toNat).any f=(f (l.getD n.toNat d)||(l.drop (n.toNat+1)).any f):=by rw[drop_cons d h0 h1];rfl
theorem move_q (hO:∀e∈O,e.f≠28) {g:Plain} {m:Move} {ns k:Int}:Ans cx O 28 [g.av,m.av,vi ns,vi k] (.bool (moveS g.prods.l.length m ns k),[]):=by
 refine ans_ex (lv:=lv28) F28 hO ⟨0,?_⟩
 rw[E28,moveS]
 simp only[List.length_map,br_eqI,br_dec]
 repeat' split
 all_goals (simp_all;try (intros;omega))
theorem l23 {g:Plain} {t:Table} {row:Sl Int} (hr:row.ok 1) (hs:row.l.length<2 ^ 40):∀(d:Nat) (x:Int),0≤x→x+d=row.l.length→∃n,L23_0 C n g t row x=some (vi (if(row.l.drop x.toNat).any (badK g.kinds.l.length)=true then 1 else 0),[])
 |0,x,h0,h1=>⟨1,by
  rw[E23_0]
  simp only[List.length_map,br_dec]
  rw[if_neg (by omega),List.drop_of_length_le (by omega)];rfl⟩
 |d+1,x,h0,h1=>by
  obtain⟨n,ih⟩:=l23 hr hs d (x+1) (by omega) (by omega)
  refine⟨n+1,?_⟩
  rw[E23_0]
  simp only[List.length_map,br_dec,ixE_map]
  rw[if_pos (by omega),ixT_in 0 h0 (by omega),rq_beq (okE hr h0 (by omega))]
  simp only[nthE_vi,asI_vi]
  rw[wr1 h0 (by omega),ih,any_drop 0 h0 (by omega),show(x+1).toNat=x.toNat+1 by omega]
  generalize row.l.getD x.toNat 0=v
  by_cases h1:v<1
  ·rw[if_pos h1,show badK g.kinds.l.length v=true by simp[badK,h1]];rfl
  ·by_cases h2:v≥g.kinds.l.length
   ·rw[if_neg h1,if_pos h2,show badK g.kinds.l.length v=true by simp[badK,h2]];rfl
   ·rw[if_neg h1,if_neg h2,show badK g.kinds.l.length v=false by simp[badK];omega];rfl
theorem refuse_q (hO:∀e∈O,e.f≠23) {g:Plain} {t:Table} {row:Sl Int} {x12:Int} (h11:Ans cx O 11 [g.av,t.av] (vi x12,[])) (hr:row.ok 1) (hs:row.l.length<2 ^ 40):Ans cx O 23 [g.av,t.av,row.av vi] (vi (if x12=0 then rowS g.kinds.l.length row.l else x12),[]):=by
 refine ans_ex (lv:=lv23) F23 hO ?_
 obtain⟨n,h⟩:=l23 (C:=Orc cx O) (g:=g) (t:=t) hr hs row.l.length 0 (by omega) (by omega)
 refine⟨n,?_⟩
 rw[E23,bindE_eq (Orc_eq h11)]
 simp only[List.length_map,br_dec,br_not,br_eqI,cN_n,asI_vi]
 by_cases h0:x12=0
 ·rw[if_pos h0,if_pos h0]
  by_cases hl:65536<row.l.length
  ·rw[if_pos (by omega),rowS,if_pos hl]
  ·rw[if_neg (by omega),rowS,if_neg hl,h];rfl
 ·rw[if_neg h0,if_neg h0]
theorem l72 {s:ByteArray} (hs:s.size<2 ^ 40):∀(d:Nat) (x:Int),0≤x→x+d=s.size→∃n,L72_0 C n s x=some (.bool (((List.range' x.toNat d).all fun i=>nameB (byteAt s i) i)&&(decide ((s.size:Int)≥1)&&decide ((s.size:Int)≤64))),[])
 |0,x,h0,h1=>⟨1,by
  rw[E72_0]
  simp only[br_dec]
  rw[if_neg (by omega)]
  by_cases h:(s.size:Int)≥1
  ·rw[if_pos h,decide_eq_true h];rfl
  ·rw[if_neg h,decide_eq_false h];rfl⟩
 |d+1,x,h0,h1=>by
  obtain⟨n,ih⟩:=l72 hs d (x+1) (by omega) (by omega)
  refine⟨n+1,?_⟩
  rw[E72_0]
  simp only[br_dec,br_eqI]
  rw[if_pos (by omega),sxE_in h0 (by omega),wr1 h0 (by omega),ih,List.range'_succ,List.all_cons,show((x.toNat:Nat):Int)=x by omega,show(x+1).toNat=x.toNat+1 by omega]
  generalize byteAt s x=c
  generalize (decide ((s.size:Int)≥1)&&decide ((s.size:Int)≤64))=q
  have hb:nameB c x=decide ((97≤c∧c≤122∨65≤c∧c≤90∨c=95)∨(x> 0∧48≤c∧c≤57)):=by
   rw[Bool.eq_iff_iff]
   simp[nameB]
   omega
  rw[hb]
  repeat' split
  all_goals first
   |(rw[decide_eq_true (by omega)];rfl)
   |(rw[decide_eq_false (by omega)];rfl)
theorem named_q (hO:∀e∈O,e.f≠72) {s:ByteArray} (hs:s.size<2 ^ 40):Ans cx O 72 [vs s] (.bool (namedS s),[]):=by
 refine ans_ex (lv:=lv72) F72 hO ?_
 obtain⟨n,h⟩:=l72 (C:=Orc cx O) hs s.size 0 (by omega) (by omega)
 exact⟨n,by rw[E72,h,namedS,List.range_eq_range'];rfl⟩
theorem lkE_set {l:List ByteArray} {k:ByteArray} {K:AV→Rs} {K':Rs}:lkE .str (l.map vs) (l.map fun _=>.bool true) (.str k) K K'=if hasK l k=true then K (.bool true)else K':=by
 rw[lkE,show AV.str k=vs k from rfl,mlook_set]
 cases hasK l k<;>rfl
theorem mqE_set {l:List ByteArray} {k:ByteArray} {K:Rs}:mqE .str (l.map vs) (l.map fun _=>.bool true) (.str k) K=K:=by
 rw[mqE,show AV.str k=vs k from rfl,mlook_set]
theorem mput1 {l:List ByteArray} {k:ByteArray}:(mput .str (l.map vs) (l.map fun _=>.bool true) (AV.str k) (AV.bool true)).1=(kput l k).map vs:=by rw[show AV.str k=vs k from rfl,mput_set]
theorem mput2 {l:List ByteArray} {k:ByteArray}:(mput .str (l.map vs) (l.map fun _=>.bool true) (AV.str k) (AV.bool true)).2=(kput l k).map fun _=>.bool true:=by rw[show AV.str k=vs k from rfl,mput_set]
theorem l50 {ks:Sl ByteArray} (hk:ks.ok 1) (hz:∀x∈ks.l,x.size<2 ^ 40) (hs:ks.l.length<2 ^ 40) (hC:∀s:ByteArray,s.size<2 ^ 40→C 72 [vs s]=some (.bool (namedS s),[])):∀(d:Nat) (x:Int) (kl:List ByteArray),0≤x→x+d=ks.l.length→∃n,L50_0 C n ks x (kl.map vs) (kl.map fun _=>.bool true)=some (vi (kindsL kl (ks.l.drop x.toNat)),[])
 |0,x,kl,h0,h1=>⟨1,by
  rw[E50_0]
  simp only[List.length_map,br_dec]
  rw[if_neg (by omega),List.drop_of_length_le (by omega)];rfl⟩
 |d+1,x,kl,h0,h1=>by
  obtain⟨n,ih⟩:=l50 hk hz hs hC d (x+1) (kput kl (ks.l.getD x.toNat default)) (by omega) (by omega)
  refine⟨n+1,?_⟩
  rw[E50_0]
  simp only[List.length_map,br_dec,ixE_map]
  rw[if_pos (by omega),ixT_in default h0 (by omega),rq_beq (okE hk h0 (by omega))]
  simp only[nthE_vs,asS_vs]
  rw[bindE_eq (hC _ (hz _ (getD_mem rfl h0 (by omega))))]
  simp only[cN_n,asB_b,br_not,lkE_set,mqE_set,mput1,mput2]
  rw[wr1 h0 (by omega),ih,drop_cons default h0 (by omega),kindsL,show(x+1).toNat=x.toNat+1 by omega,br_if]
  cases namedS (ks.l.getD x.toNat default)<;>cases hasK kl (ks.l.getD x.toNat default)<;>rfl
theorem kinds_q (hO:∀e∈O,e.f≠50) (hO2:∀e∈O,e.f≠72) {ks:Sl ByteArray} (hk:ks.ok 1) (hz:∀x∈ks.l,x.size<2 ^ 40) (hs:ks.l.length<2 ^ 40):Ans cx O 50 [ks.av vs] (vi (kindsS ks),[]):=by
 refine ans_ex (lv:=lv50) F50 hO ?_
 obtain⟨n,h⟩:=l50 (C:=Orc cx O) hk hz hs (fun s h=>Orc_eq (named_q hO2 h)) ks.l.length 0 [] (by omega) (by omega)
 refine⟨n,?_⟩
 rw[E50]
 simp only[List.length_map,br_dec,ixE_map]
 rw[kindsS]
 by_cases h1:(ks.l.length:Int)<2
 ·rw[if_pos h1,decide_eq_true h1];rfl
 ·rw[if_neg h1]
  by_cases h2:(ks.l.length:Int)> 1024
  ·rw[if_pos h2,decide_eq_true h2];simp
  ·rw[if_neg h2,ixT_in default (by omega) (by omega),rq_beq (okE hk (i:=0) (by omega) (by omega))]
   simp only[nthE_vs,asS_vs]
   rw[ixT_in default (by omega) (by omega),rq_beq (okE hk (i:=0) (by omega) (by omega))]
   simp only[br_if]
   rw[show L50_0 (Orc cx O) n ks 0 [] []=_ from h,decide_eq_false h1,decide_eq_false h2,show(0:Int).toNat=0 from rfl,show(1:Int).toNat=1 from rfl,show ByteArray.mk #[101,110,100]=bEnd from rfl,show ByteArray.mk #[101,114,114,111,114]=bErr from rfl,List.drop_zero]
   generalize ((ks.l.getD 0 default).toList==bEnd.toList)=p
   generalize ((ks.l.getD 1 default).toList==bErr.toList)=q
   cases p<;>cases q<;>rfl
theorem actC {k:Act} {K:Int→Int→ByteArray→Nat→Nat→List AV→Rs}:(cI .i64 (List.take 4 (List.drop 0 (cells (vAct k)))) fun n2 c3=>cI .i64 c3 fun n4 c5=>cS c5 fun s6 c7=>cF c7 fun l8 z9 e10 c11=>cN c11 <| K n2 n4 s6 l8 z9 e10)=K k.kind k.ix k.name k.lab k.sz (vActs k.kids):=by rw[vAct_eq];rfl
def oG73 (r:Bool×Int):Rs:=some (.bool (r.1&&decide (r.2≤256)),[.bx (vi r.2)])
theorem l73 {a:Act} {syms m:Int} (hsz:a.ks.ok 4) (hs:a.ks.l.length<2 ^ 40) (hC:∀k∈a.kids,∀m:Int,0≤m→m≤256→C 73 [actV k,vi syms,.bx (vi m)]=some (.bool (partsS syms k m).1,[.bx (vi (partsS syms k m).2)])):∀(d:Nat) (x:Int) (b:Bool) (h:Int),0≤h→0≤x→x+d=a.kids.length→
  ∃n,L73_1 C n a syms m x b h=oG73 (kidsS syms (a.kids.drop x.toNat) (b,h))
 |0,x,b,h,hh,h0,h1=>⟨1,by
  rw[E73_1,vActs_map]
  simp only[List.length_map,br_dec]
  rw[if_neg (by omega),List.drop_of_length_le (by omega),kidsS]
  cases b<;>rfl⟩
 |d+1,x,b,h,hh,h0,h1=>by
  have hx:x<a.kids.length:=by omega
  generalize hk:a.kids.getD x.toNat default=k
  have hm:k∈a.kids:=hk▸getD_mem rfl h0 hx
  have hp:0≤(if(b&&decide (h≤256))=true then partsS syms k h else(false,h)).2:=by
   split
   ·rename_i hc
    simp only[Bool.and_eq_true,decide_eq_true_eq]at hc
    exact(parts_le k h hh hc.2).1
   ·exact hh
  obtain⟨n,ih⟩:=l73 (m:=m) hsz hs hC d (x+1) (if(b&&decide (h≤256))=true then partsS syms k h else(false,h)).1 _ hp (by omega) (by omega)
  refine⟨n+1,?_⟩
  rw[E73_1,vActs_map]
  have ei:=fun K=>ixT_in (K:=K) (l:=a.kids) (n:=x) default h0 hx
  simp only[List.length_map,br_dec,ixE_map,ei,hk,actC]
  rw[if_pos hx,rq_beq (show a.sz=4 from okE hsz (s:=a.ks) h0 hx),wr1 h0 (by have:a.ks.l.length=a.kids.length:=rfl;omega),drop_cons default h0 hx,hk,kidsS]
  rw[show(x+1).toNat=x.toNat+1 by omega]at ih
  refine Eq.trans ?_ ih
  cases b with
  |false=>rfl
  |true=>
   by_cases hc:h≤256
   ·rw[br_t,if_pos hc,if_pos (by simp[hc])]
    exact(bindE_eq (hC k hm h hh hc)).trans rfl
   ·rw[br_t,if_neg hc,if_neg (by simp[hc])]
theorem e73 {n:Nat} {a:Act} {syms m:Int}:fnE cx C lv73 fn73 n [actV a,vi syms,.bx (vi m)]=L73_1 C n a syms m 0 (okA a syms) (IntKind.i64.wrap (m+1)):=by
 refine Eq.trans E73 ?_
 rw[okA,show(vActs a.kids).length=a.kids.length by rw[vActs_map,List.length_map],show ByteArray.mk #[]=ByteArray.empty from rfl]
 simp only[br_dec,br_eqI]
 repeat' split
 all_goals first|rfl|(congr 1;simp_all;try (intros;omega))
theorem parts_q (hO:∀e∈O,e.f≠73) {syms:Int}:∀(N:Nat) (a:Act),SizeOf.sizeOf a<N→a.good→∀n:Int,0≤n→n≤256→Ans cx O 73 [actV a,vi syms,.bx (vi n)] (.bool (partsS syms a n).1,[.bx (vi (partsS syms a n).2)])
 |0,_,h,_,_,_,_=>absurd h (Nat.not_lt_zero _)
 |N+1,a,hN,hgood,m,hn0,hn1=>by
  have hks:a.ks.ok 4∧a.ks.l.length<2 ^ 40∧goodL a.ks.l:=by cases a;rw[Act.good]at hgood;exact hgood
  have hsz:∀k∈a.ks.l,SizeOf.sizeOf k<N:=by
   intro k hk
   cases a with
   |mk kind ix name lab sz kids=>
    have:=List.sizeOf_lt_of_mem (show k∈kids from hk)
    simp at hN;omega
  refine ans_ex (lv:=lv73) F73 hO ?_
  obtain⟨n,h⟩:=l73 (C:=Orc cx O) (m:=m) hks.1 hks.2.1 (fun k hk m h0 h1=>Orc_eq (parts_q hO N k (hsz k hk) (goodL_mem hks.2.2 hk) m h0 h1)) a.kids.length 0 (okA a syms) (m+1) (by omega) (by omega) (by omega)
  exact⟨n,by rw[e73,wrap_id (by omega) (by omega),h,partsS_eq];rfl⟩
theorem l51 {g:Plain} {p:Prod} (hr:p.right.ok 1) (hr2:p.right.l.length<2 ^ 40) (s1:g.kinds.l.length<2 ^ 40) (s2:g.rules.l.length<2 ^ 40) (hC:C 73 [actV p.act,vi p.right.l.length,.bx (vi 0)]=some (.bool (partsS p.right.l.length p.act 0).1,[.bx (vi (partsS p.right.l.length p.act 0).2)])):∀(d:Nat) (x:Int),0≤x→x+d=p.right.l.length→∃n,L51_0 C n g p x=some (.bool ((p.right.l.drop x.toNat).all (fun x=> !((decide (x<1))||(decide (x≥(g.kinds.l.length:Int)+(g.rules.l.length:Int)))))&&(partsS p.right.l.length p.act 0).1),[])
 |0,x,h0,h1=>⟨1,by
  rw[E51_0]
  simp only[List.length_map,br_dec]
  rw[if_neg (by omega),List.drop_of_length_le (by omega),show(AV.agg [vi p.act.kind,vi p.act.ix,AV.str p.act.name,AV.fz p.act.lab p.act.sz (vActs p.act.kids)])=actV p.act from rfl,bindE_eq hC];rfl⟩
 |d+1,x,h0,h1=>by
  obtain⟨n,ih⟩:=l51 hr hr2 s1 s2 hC d (x+1) (by omega) (by omega)
  refine⟨n+1,?_⟩
  rw[E51_0]
  simp only[List.length_map,br_dec,ixE_map]
  rw[if_pos (by omega),ixT_in 0 h0 (by omega),rq_beq (okE hr h0 (by omega))]
  simp only[nthE_vi,asI_vi]
  rw[wr1 h0 (by omega),ih,all_drop 0 h0 (by omega),show(x+1).toNat=x.toNat+1 by omega,wrap_id (by omega) (by omega)]
  generalize p.right.l.getD x.toNat 0=v
  by_cases h1:v<1
  ·rw[if_pos h1,decide_eq_true h1];rfl
  ·by_cases h2:v≥(g.kinds.l.length:Int)+g.rules.l.length
   ·rw[if_neg h1,if_pos h2,decide_eq_true h2,Bool.or_true];rfl
   ·rw[if_neg h1,if_neg h2,decide_eq_false h1,decide_eq_false h2];rfl
theorem prod_q (hO:∀e∈O,e.f≠51) (hO2:∀e∈O,e.f≠73) {g:Plain} {p:Prod} (hr:p.right.ok 1) (hr2:p.right.l.length<2 ^ 40) (hact:p.act.good) (s1:g.kinds.l.length<2 ^ 40) (s2:g.rules.l.length<2 ^ 40):Ans cx O 51 [g.av,p.av] (.bool (prodS g p),[]):=by
 refine ans_ex (lv:=lv51) F51 hO ?_
 obtain⟨n,h⟩:=l51 (C:=Orc cx O) hr hr2 s1 s2 (Orc_eq (parts_q hO2 _ p.act (Nat.lt_succ_self _) hact 0 (by omega) (by omega))) p.right.l.length 0 (by omega) (by omega)
 refine⟨n,?_⟩
 rw[E51]
 simp only[List.length_map,br_dec]
 rw[h,prodS,show(0:Int).toNat=0 from rfl,List.drop_zero]
 repeat' split
 all_goals simp_all
 all_goals omega
def oG27 (b:Bool):Rs:=some (vi (if b=true then 0 else 130),[])
theorem prC {p:Prod} {K:Int→Nat→Nat→List AV→Int→Int→Int→ByteArray→Nat→Nat→List AV→Rs}:(cI .i64 (List.take 7 (List.drop 0 (cells p.av))) fun n2 c3=>cF c3 fun l4 z5 e6 c7=>cI .i64 c7 fun n8 c9=>cI .i64 c9 fun n10 c11=>cI .i64 c11 fun n12 c13=>cS c13 fun s14 c15=>cF c15 fun l16 z17 e18 c19=>cN c19 <| K n2 l4 z5 e6 n8 n10 n12 s14 l16 z17 e18)=K p.left p.right.lab p.right.sz (p.right.l.map vi) p.level p.act.kind p.act.ix p.act.name p.act.lab p.act.sz (vActs p.act.kids):=rfl
theorem peC {p:Prec} {K:Int→Int→Rs}:(cI .i64 (List.take 2 (List.drop 0 (cells p.av))) fun n2 c3=>cI .i64 c3 fun n4 c5=>cN c5 <| K n2 n4)=K p.level p.assoc:=rfl
theorem mvC {p:Move} {K:Int→Int→Rs}:(cI .i64 (List.take 2 (List.drop 0 (cells p.av))) fun n2 c3=>cI .i64 c3 fun n4 c5=>cN c5 <| K n2 n4)=K p.act p.n:=rfl
def gTail (g:Plain) (b:Bool):Bool:=(((((b&&(decide ((g.rules.l.length:Int)≥1)))&&(decide ((g.rules.l.length:Int)≤2048)))&&(decide (g.start≥0)))&&(decide (g.start<(g.rules.l.length:Int))))&&(decide ((g.prods.l.length:Int)≤4096)))
theorem tail_eq {g:Plain} {b:Bool} (K:Bool→Rs):(br b (if(g.rules.l.length:Int)≥1 then if(g.rules.l.length:Int)≤2048 then if g.start≥0 then if g.start<(g.rules.l.length:Int)then K (decide ((g.prods.l.length:Int)≤4096))else K false else K false else K false else K false) (K false))=K (gTail g b):=by
 cases b with
 |false=>rfl
 |true=>
  rw[br_t]
  repeat' split
  all_goals (congr 1;simp_all[gTail];try (intros;omega))
theorem l27_4 {g:Plain} {ks ms:List AV} (hp:g.prods.ok 7) (hs:g.prods.l.length<2 ^ 40) (hC:∀p∈g.prods.l,C 51 [g.av,p.av]=some (.bool (prodS g p),[])):∀(d:Nat) (x:Int) (b:Bool),0≤x→x+d=g.prods.l.length→∃n,L27_4 C n g x b ks ms=oG27 (b&&(g.prods.l.drop x.toNat).all (prodS g))
 |0,x,b,h0,h1=>⟨1,by
  rw[E27_4]
  simp only[List.length_map,br_dec]
  rw[if_neg (by omega),List.drop_of_length_le (by omega)]
  cases b<;>rfl⟩
 |d+1,x,b,h0,h1=>by
  have hx:x<g.prods.l.length:=by omega
  generalize hq:g.prods.l.getD x.toNat default=q
  have hm:q∈g.prods.l:=hq▸getD_mem rfl h0 hx
  obtain⟨n,ih⟩:=l27_4 (ks:=ks) (ms:=ms) hp hs hC d (x+1) (b&&prodS g q) (by omega) (by omega)
  refine⟨n+1,?_⟩
  rw[E27_4]
  have ei:=fun K=>ixT_in (K:=K) (l:=g.prods.l) (n:=x) default h0 hx
  simp only[List.length_map,br_dec,ixE_map,ei,hq,prC]
  rw[if_pos hx,rq_beq (okE hp h0 hx),wr1 h0 (by omega),all_drop default h0 hx,hq,←Bool.and_assoc]
  rw[show(x+1).toNat=x.toNat+1 by omega]at ih
  refine Eq.trans ?_ ih
  cases b with
  |false=>rfl
  |true=>exact(bindE_eq (hC q hm)).trans rfl
theorem l27_2 {g:Plain} (hp:g.prods.ok 7) (hs:g.prods.l.length<2 ^ 40) (hr:g.rules.ok 1) (hs2:g.rules.l.length<2 ^ 40) (hC:∀p∈g.prods.l,C 51 [g.av,p.av]=some (.bool (prodS g p),[])):∀(d:Nat) (x:Int) (b:Bool) (kl:List ByteArray),0≤x→x+d=g.rules.l.length→∃n,L27_2 C n g x b (kl.map vs) (kl.map fun _=>.bool true)=oG27 (rulesL kl b (g.rules.l.drop x.toNat)&&g.prods.l.all (prodS g))
 |0,x,b,kl,h0,h1=>by
  obtain⟨n,ih⟩:=l27_4 (C:=C) (g:=g) (ks:=kl.map vs) (ms:=kl.map fun _=>.bool true) hp hs hC g.prods.l.length 0 b (by omega) (by omega)
  refine⟨n+1,?_⟩
  rw[E27_2]
  simp only[List.length_map,br_dec]
  rw[if_neg (by omega),List.drop_of_length_le (by omega),rulesL];exact ih
 |d+1,x,b,kl,h0,h1=>by
  have hx:x<g.rules.l.length:=by omega
  generalize hq:g.rules.l.getD x.toNat default=q
  obtain⟨n,ih⟩:=l27_2 hp hs hr hs2 hC d (x+1) (((b&&(decide ((q.size:Int)≥1)))&&(decide ((q.size:Int)≤4096)))&&(!(hasK kl q))) (kput kl q) (by omega) (by omega)
  refine⟨n+1,?_⟩
  rw[E27_2]
  have ei:=fun K=>ixT_in (K:=K) (l:=g.rules.l) (n:=x) default h0 hx
  simp only[List.length_map,br_dec,ixE_map,ei,hq,nthE_vs,asS_vs,lkE_set,mqE_set,mput1,mput2,asB_b]
  rw[if_pos hx,rq_beq (okE hr h0 hx),wr1 h0 (by omega),drop_cons default h0 hx,hq,rulesL]
  rw[show(x+1).toNat=x.toNat+1 by omega]at ih
  refine Eq.trans ?_ ih
  cases b with
  |false=>rfl
  |true=>
   rw[br_t]
   by_cases h1:(q.size:Int)≥1
   ·by_cases h2:(q.size:Int)≤4096
    ·rw[if_pos h1,if_pos h2,decide_eq_true h1,decide_eq_true h2]
     cases hasK kl q<;>rfl
    ·rw[if_pos h1,if_neg h2,decide_eq_true h1,decide_eq_false h2];rfl
   ·rw[if_neg h1,decide_eq_false h1];rfl
theorem l27_0 {g:Plain} (hk:g.precs.ok 2) (hs0:g.precs.l.length<2 ^ 40) (hp:g.prods.ok 7) (hs:g.prods.l.length<2 ^ 40) (hr:g.rules.ok 1) (hs2:g.rules.l.length<2 ^ 40) (hC:∀p∈g.prods.l,C 51 [g.av,p.av]=some (.bool (prodS g p),[])):∀(d:Nat) (x:Int) (b:Bool),0≤x→x+d=g.precs.l.length→∃n,L27_0 C n g x b=oG27 (rulesL [] (gTail g (b&&(List.range' x.toNat d).all fun i=>precS (g.precs.l.getD i default) i)) g.rules.l&&g.prods.l.all (prodS g))
 |0,x,b,h0,h1=>by
  obtain⟨n,ih⟩:=l27_2 (C:=C) hp hs hr hs2 hC g.rules.l.length 0 (gTail g b) [] (by omega) (by omega)
  refine⟨n+1,?_⟩
  rw[E27_0]
  simp only[List.length_map,br_dec]
  rw[if_neg (by omega)]
  refine(tail_eq fun b=>L27_2 C n g 0 b [] []).trans (ih.trans ?_)
  rw[show(0:Int).toNat=0 from rfl,List.drop_zero,show(List.range' x.toNat 0)=[]from rfl,List.all_nil,Bool.and_true]
 |d+1,x,b,h0,h1=>by
  have hx:x<g.precs.l.length:=by omega
  generalize hq:g.precs.l.getD x.toNat default=q
  obtain⟨n,ih⟩:=l27_0 hk hs0 hp hs hr hs2 hC d (x+1) (b&&precS q x) (by omega) (by omega)
  refine⟨n+1,?_⟩
  rw[E27_0]
  have ei:=fun K=>ixT_in (K:=K) (l:=g.precs.l) (n:=x) default h0 hx
  simp only[List.length_map,br_dec,ixE_map,ei,hq,peC]
  rw[if_pos hx,rq_beq (okE hk h0 hx),wr1 h0 (by omega),List.range'_succ,List.all_cons,hq,←Bool.and_assoc,show((x.toNat:Nat):Int)=x by omega]
  rw[show(x+1).toNat=x.toNat+1 by omega]at ih
  refine Eq.trans ?_ ih
  cases b with
  |false=>
   repeat' split
   all_goals rfl
  |true=>
   have hb:precS q x=decide ((q.level=0∧q.assoc=0)∨(q.level≥1∧q.assoc≥1∧q.assoc≤3∧x≥2)):=by
    rw[Bool.eq_iff_iff]
    simp[precS]
    omega
   rw[hb,Bool.true_and]
   simp only[br_if,Bool.and_eq_true,beq_iff_eq]
   repeat' split
   all_goals
    refine congrArg (L27_0 C n g (x+1)) ?_
    first|exact absurd trivial ‹¬True› |exact(decide_eq_true (by omega)).symm|exact(decide_eq_false (by omega)).symm|(rw[decide_eq_decide];omega)
theorem gcheck_q (hO:∀e∈O,e.f≠27) (hO2:∀e∈O,e.f≠50) (hO3:∀e∈O,e.f≠72) (hO4:∀e∈O,e.f≠51) (hO5:∀e∈O,e.f≠73) {g:Plain} (hg:GTy g):Ans cx O 27 [g.av] (vi (gcheckS g),[]):=by
 refine ans_ex (lv:=lv27) F27 hO ?_
 obtain⟨s1,s2,s3,s4⟩:=hg.small
 obtain⟨n,h⟩:=l27_0 (C:=Orc cx O) hg.precs s2 hg.prods s4 hg.rules s3 (fun p hp=>Orc_eq (prod_q hO4 hO5 (hg.right p hp).1 (hg.right p hp).2.1 (hg.right p hp).2.2 s1 s3)) g.precs.l.length 0 (gOk0 g) (by omega) (by omega)
 refine⟨n,?_⟩
 rw[E27,show AV.fz g.kinds.lab g.kinds.sz (List.map vs g.kinds.l)=g.kinds.av vs from rfl,bindE_eq (Orc_eq (kinds_q hO2 hO3 hg.kinds hg.names s1))]
 simp only[List.length_map,cN_n,asI_vi,br_eqI]
 rw[show(0:Int).toNat=0 from rfl,←List.range_eq_range']at h
 refine Eq.trans ?_ (h.trans rfl)
 by_cases hk:kindsS g.kinds=0
 ·rw[if_pos hk,gOk0,hk];rfl
 ·rw[if_neg hk,gOk0,show(kindsS g.kinds==0)=false by simpa using hk];rfl
theorem l11_4 {g:Plain} {t:Table} {q:Sl Int} {x:Int} {R:AV×List AV} (hq:q.ok 1) (hs:q.l.length<2 ^ 40) (hx:IntKind.i64.wrap (x+1)=x+1) (hn:∃n,L11_0 C n g t (x+1)=some R):∀(d:Nat) (y:Int),0≤y→y+d=q.l.length→∃n,L11_4 C n g t y q.l.length q.lab q.sz (q.l.map vi) x=if(q.l.drop y.toNat).all (goS t.moves.l.length)=true then some R else some (vi 170,[])
 |0,y,h0,h1=>by
  obtain⟨n,hn⟩:=hn
  refine⟨n+1,?_⟩
  rw[E11_4]
  simp only[List.length_map,br_dec]
  rw[if_neg (by omega),List.drop_of_length_le (by omega),hx,hn];rfl
 |d+1,y,h0,h1=>by
  obtain⟨n,ih⟩:=l11_4 hq hs hx hn d (y+1) (by omega) (by omega)
  refine⟨n+1,?_⟩
  rw[E11_4]
  simp only[List.length_map,br_dec,ixE_map]
  rw[if_pos (by omega),ixT_in 0 h0 (by omega),rq_beq (okE hq h0 (by omega))]
  simp only[nthE_vi,asI_vi]
  rw[wr1 h0 (by omega),ih,all_drop 0 h0 (by omega),show(y+1).toNat=y.toNat+1 by omega]
  generalize q.l.getD y.toNat 0=v
  by_cases h1:v< -1
  ·rw[if_pos h1,goS,decide_eq_true h1];rfl
  ·by_cases h2:v≥t.moves.l.length
   ·rw[if_neg h1,if_pos h2,goS,decide_eq_true h2,Bool.or_true];rfl
   ·rw[if_neg h1,if_neg h2,goS,decide_eq_false h1,decide_eq_false h2];rfl
theorem l11_2 {g:Plain} {t:Table} {r:Sl Move} {q:Sl Int} {x:Int} {R:AV×List AV} (hr:r.ok 2) (hrs:r.l.length<2 ^ 40) (hq:q.ok 1) (hs:q.l.length<2 ^ 40) (hx:IntKind.i64.wrap (x+1)=x+1) (hn:∃n,L11_0 C n g t (x+1)=some R) (hg:t.goto.ok 1) (hx0:0≤x) (hx1:x<t.goto.l.length) (hgx:t.goto.l.getD x.toNat default=q) (hC:∀(m:Move) (k:Int),C 28 [g.av,m.av,vi t.moves.l.length,vi k]=some (.bool (moveS g.prods.l.length m t.moves.l.length k),[])):∀(d:Nat) (y:Int),0≤y→y+d=r.l.length→∃n,L11_2 C n g t y r.l.length r.lab r.sz (r.l.map Move.av) x x=if((List.range' y.toNat d).all (fun k=>moveS g.prods.l.length (r.l.getD k default) t.moves.l.length k)&&q.l.all (goS t.moves.l.length))=true then some R else some (vi 170,[])
 |0,y,h0,h1=>by
  obtain⟨n,ih⟩:=l11_4 hq hs hx hn q.l.length 0 (by omega) (by omega)
  refine⟨n+1,?_⟩
  rw[E11_2]
  have ei:=fun K=>ixT_in (K:=K) (l:=t.goto.l) (n:=x) default hx0 hx1
  simp only[List.length_map,br_dec,ixE_map,ei,hgx,nthE_sl,asF_sl]
  rw[if_neg (by omega),rq_beq (okE hg hx0 hx1),ih];rfl
 |d+1,y,h0,h1=>by
  have hy:y<r.l.length:=by omega
  generalize hm:r.l.getD y.toNat default=m
  obtain⟨n,ih⟩:=l11_2 hr hrs hq hs hx hn hg hx0 hx1 hgx hC d (y+1) (by omega) (by omega)
  refine⟨n+1,?_⟩
  rw[E11_2]
  have ei:=fun K=>ixT_in (K:=K) (l:=r.l) (n:=y) default h0 hy
  simp only[List.length_map,br_dec,ixE_map,ei,hm,mvC]
  rw[if_pos hy,rq_beq (okE hr h0 hy),wr1 h0 (by omega),ih,show(AV.agg [vi m.act,vi m.n])=m.av from rfl,bindE_eq (hC _ _),List.range'_succ,List.all_cons,hm,show((y.toNat:Nat):Int)=y by omega,show(y+1).toNat=y.toNat+1 by omega]
  simp only[cN_n,asB_b,br_not]
  cases moveS g.prods.l.length m t.moves.l.length y<;>rfl
theorem l11_0 {g:Plain} {t:Table} (hty:Ty g t) (hl:t.goto.l.length=t.moves.l.length) (hC:∀(m:Move) (k:Int),C 28 [g.av,m.av,vi t.moves.l.length,vi k]=some (.bool (moveS g.prods.l.length m t.moves.l.length k),[])):∀(d:Nat) (x:Int),0≤x→x+d=t.moves.l.length→∃n,L11_0 C n g t x=some (vi (if(List.range' x.toNat d).all (fun i=>rowOkS g t.moves.l.length (t.moves.l.getD i default) (t.goto.l.getD i default))=true then 0 else 170),[])
 |0,x,h0,h1=>⟨1,by
  rw[E11_0]
  simp only[List.length_map,br_dec]
  rw[if_neg (by omega)];rfl⟩
 |d+1,x,h0,h1=>by
  obtain⟨s1,s2,-,s4,-,-⟩:=hty.small
  have hx:x<t.moves.l.length:=by omega
  have hx2:x<t.goto.l.length:=by omega
  generalize hr:t.moves.l.getD x.toNat default=r
  generalize hq:t.goto.l.getD x.toNat default=q
  have hrm:r∈t.moves.l:=hr▸getD_mem rfl h0 hx
  have hqm:q∈t.goto.l:=hq▸getD_mem rfl h0 hx2
  have ei:=fun K=>ixT_in (K:=K) (l:=t.moves.l) (n:=x) default h0 hx
  have ej:=fun K=>ixT_in (K:=K) (l:=t.goto.l) (n:=x) default h0 hx2
  by_cases h2:(r.l.length:Int)=g.kinds.l.length
  ·by_cases h3:(q.l.length:Int)=g.rules.l.length
   ·obtain⟨n,ih⟩:=l11_2 (C:=C) (g:=g) (t:=t) (r:=r) (q:=q) (x:=x) (hty.row r hrm) (by omega) (hty.grow q hqm) (by omega) (wr1 h0 (by omega)) (l11_0 hty hl hC d (x+1) (by omega) (by omega)) hty.goto h0 hx2 hq hC r.l.length 0 (by omega) (by omega)
    refine⟨n+1,?_⟩
    rw[E11_0]
    simp only[List.length_map,br_dec,br_not,br_eqI,ixE_map,ei,ej,hr,hq,nthE_sl,asF_sl]
    rw[if_pos hx,rq_beq (okE hty.moves h0 hx),if_pos h2,rq_beq (okE hty.goto h0 hx2),if_pos h3,rq_beq (okE hty.moves h0 hx),ih,List.range'_succ,List.all_cons,hr,hq,rowOkS,h2,h3,show(x+1).toNat=x.toNat+1 by omega,List.range_eq_range',show(0:Int).toNat=0 from rfl]
    simp only[beq_self_eq_true,Bool.not_true,Bool.or_false,Bool.not_false,Bool.true_and]
    generalize ((List.range' 0 r.l.length).all fun k=>moveS g.prods.l.length (r.l.getD k default) t.moves.l.length k)=a
    cases a<;>cases q.l.all (goS t.moves.l.length)<;>rfl
   ·refine⟨1,?_⟩
    rw[E11_0]
    simp only[List.length_map,br_dec,br_not,br_eqI,ixE_map,ei,ej,hr,hq,nthE_sl,asF_sl]
    rw[if_pos hx,rq_beq (okE hty.moves h0 hx),if_pos h2,rq_beq (okE hty.goto h0 hx2),if_neg h3,List.range'_succ,List.all_cons,hr,hq,rowOkS,show((q.l.length:Int)==g.rules.l.length)=false by simpa using h3]
    simp
  ·refine⟨1,?_⟩
   rw[E11_0]
   simp only[List.length_map,br_dec,br_not,br_eqI,ixE_map,ei,hr,nthE_sl,asF_sl]
   rw[if_pos hx,rq_beq (okE hty.moves h0 hx),if_neg h2,List.range'_succ,List.all_cons,hr,rowOkS,show((r.l.length:Int)==g.kinds.l.length)=false by simpa using h2]
   simp
theorem check_q (hO:∀e∈O,e.f≠11) (hO2:∀e∈O,e.f≠28) {g:Plain} {t:Table} (hty:Ty g t) {x13:Int} (h27:Ans cx O 27 [g.av] (vi x13,[])):Ans cx O 11 [g.av,t.av] (vi (checkS g t x13),[]):=by
 refine ans_ex (lv:=lv11) F11 hO ?_
 by_cases h0:x13=0
 ·by_cases hc:((decide ((t.moves.l.length:Int)<1)||decide ((t.moves.l.length:Int)> 4096))|| !((t.goto.l.length:Int)==t.moves.l.length))=true
  ·refine⟨0,?_⟩
   rw[E11,bindE_eq (Orc_eq h27),checkS,if_neg (by simpa using h0),if_pos hc]
   simp only[List.length_map,cN_n,asI_vi,br_not,br_eqI,br_dec]
   rw[if_pos h0]
   repeat' split
   all_goals simp_all
  ·have hc2:1≤t.moves.l.length∧t.goto.l.length=t.moves.l.length:=by
    simp at hc;omega
   obtain⟨n,h⟩:=l11_0 (C:=Orc cx O) hty hc2.2 (fun m k=>Orc_eq (move_q hO2)) t.moves.l.length 0 (by omega) (by omega)
   refine⟨n,?_⟩
   rw[E11,bindE_eq (Orc_eq h27),checkS,if_neg (by simpa using h0),if_neg hc,h,show(0:Int).toNat=0 from rfl,←List.range_eq_range']
   simp only[List.length_map,cN_n,asI_vi,br_not,br_eqI,br_dec]
   rw[if_pos h0]
   simp at hc
   rw[if_neg (by omega),if_neg (by omega),if_pos (by omega)]
 ·refine⟨0,?_⟩
  rw[E11,bindE_eq (Orc_eq h27),checkS,if_pos h0]
  simp only[cN_n,asI_vi,br_not,br_eqI]
  rw[if_neg h0]
end Go.Am.Pull
end
section
namespace Go.Am.Pull
open Go Go.Proofs Go.Am
set_option maxRecDepth 100000
set_option maxHeartbeats 4000000
def sh (l:List Move):Nat:=l.countP fun m=>m.act==1
theorem sh_snoc {l:List Move} {m:Move}:sh (l++[m])=sh l+if m.act=1 then 1 else 0:=by
 unfold sh
 rw[List.countP_append]
 by_cases h:m.act=1<;>simp[h]
def NoNum (t:Table):Prop:=∀r∈t.moves.l,∀m∈r.l,m.act=3→m.n=0
theorem one_count {nd:Bool→Int→List AV→AV} {g:Plain} {t:Table} (hok:Ok g t) (hN:NoNum t) {p q:PS} {k dn e:Int} {d:AV} (hk0:0≤k) (hk:k<g.kinds.l.length) (hp:p.Fine t) (h:oneS nd g t k d p=(dn,e,q)):
  sh q.tr=sh p.tr+(if dn=1 then 1 else 0)∧q.tr.length≤p.tr.length+1∧(dn=2→∃l,q.tr=l++[⟨3,0⟩]):=by
 obtain⟨r,hr,hm⟩:=lkM_ok hok (hp.ok _ (last_mem hp)) hk0 hk
 have hn:=hN r hr _ hm
 unfold oneS at h
 simp only at h
 split at h
 ·cases h;exact⟨by simp,by omega,fun h=>by cases h⟩
 ·split at h
  ·rename_i h0
   cases h
   exact⟨by simp[sh_snoc,h0],by simp,fun h=>by cases h⟩
  ·split at h
   ·rename_i h3
    split at h
    ·cases h
     refine⟨by simp[sh_snoc,h3],by simp,fun _=>⟨p.tr,?_⟩⟩
     have h4:=hn h3
     obtain⟨ma,mn⟩:∃a b,lkM t p.last k=⟨a,b⟩:=⟨_,_,rfl⟩
     generalize hz:lkM t p.last k=z at h3 h4
     cases z;simp only at h3 h4;subst h3;subst h4;rfl
    ·cases h;exact⟨by simp,by omega,fun h=>by cases h⟩
   ·split at h
    ·rename_i h2
     split at h
     ·cases h;exact⟨by simp,by omega,fun h=>by cases h⟩
     ·rename_i q' hq
      cases h
      have:=(redS_keeps hq).1
      exact⟨by rw[sh_snoc,this,h2];rfl,by simp[this],fun h=>by cases h⟩
    ·cases h
     refine⟨?_,by simp,fun h=>?_⟩
     ·rw[sh_snoc]
      split<;>simp
     ·split at h<;>cases h
theorem take_count {nd:Bool→Int→List AV→AV} (hnd:∀b n l,l.all isTree=true→isTree (nd b n l)=true) {g:Plain} {t:Table} (hok:Ok g t) (hN:NoNum t) {k:Int} {d:AV} (hd:isTree d=true) (hk0:0≤k) (hk:k<g.kinds.l.length):∀{f:Nat} {p q:PS} {dn e:Int},p.Fine t→p.fuel≤f→takeS nd g t k d f p=(dn,e,q)→
  sh q.tr=sh p.tr+(if dn=1 then 1 else 0)∧q.tr.length≤65538∧(dn=2→∃l,q.tr=l++[⟨3,0⟩])∧(e≠0→dn=0)
 |0,p,q,dn,e,hp,hf,h=>by have:=hp.n;unfold PS.fuel at hf;omega
 |f+1,p,q,dn,e,hp,hf,h=>by
  obtain⟨a,b,q',ho⟩:∃a b c,oneS nd g t k d p=(a,b,c):=⟨_,_,_,rfl⟩
  have h1:=one_fine hnd hok hd hk0 hk hp ho
  obtain⟨c1,c2,c3⟩:=one_count hok hN hk0 hk hp ho
  have hlen:=hp.tr
  have hnn:=hp.n
  rw[takeS]at h
  simp only[ho]at h
  split at h
  ·cases h
   refine⟨c1,by omega,c3,fun he=>?_⟩
   rcases h1 with⟨ha,_⟩|⟨_,hb,_⟩|⟨_,hb,_⟩|⟨ha,_⟩
   ·exact ha
   ·exact absurd hb he
   ·exact absurd hb he
   ·exact ha
  ·rename_i hc
   rcases h1 with⟨ha,hb,hq,hn,hlt⟩|⟨ha,hb,hq⟩|⟨ha,hb,hq⟩|⟨ha,hb⟩
   ·subst ha
    obtain⟨d1,d2,d3⟩:=take_count hnd hok hN hd hk0 hk hq (by unfold PS.fuel at hf ⊢;omega) h
    exact⟨by rw[d1,c1];simp,d2,d3⟩
   ·subst ha;simp at hc
   ·subst ha;simp at hc
   ·subst ha;simp at hc;exact absurd hc hb
def kd (row:List Int) (i:Int):Int:=if i<row.length then row.getD i.toNat default else 0
theorem run_ahead {g:Plain} {t:Table} (hok:Ok g t) (hN:NoNum t) {row:List Int} (hrow:∀k∈row,1≤k∧k<g.kinds.l.length):∀{n:Nat} {i:Int} {p q:PS} {w ix:Int} {tr:AV},p.Fine t→0≤i→i+n=row.length+1→runS ndP g t row n i p=(q,w,ix,tr)→
  q.tr.length≤65538∧(w=0→(sh q.tr:Int)=sh p.tr+(row.length - i)+(if n=0 then 1 else 0)∧(0<n→∃l,q.tr=l++[⟨3,0⟩]))∧
  (w≠0→i≤ix∧ix≤row.length∧(sh q.tr:Int)=sh p.tr+(ix - i)∧tr=zT∧
   ∀(row2:List Int) (n2:Nat),(∀j,0≤j→j≤ix→kd row2 j=kd row j)→ix - i<n2→∃q2,runS ndP g t row2 n2 i p=(q2,w,ix,zT))
 |0,i,p,q,w,ix,tr,hp,hi,hin,h=>by
  cases h
  have:=hp.tr;have:=hp.n
  exact⟨by omega,fun _=>⟨by simp;omega,fun h=>absurd h (Nat.lt_irrefl _)⟩,fun h=>absurd rfl h⟩
 |n+1,i,p,q,w,ix,tr,hp,hi,hin,h=>by
  have hkp:=hok.kpos
  have hk:0≤kd row i∧kd row i<g.kinds.l.length∧(i<row.length→kd row i≠0)∧(¬i<row.length→kd row i=0):=by
   unfold kd
   by_cases hlt:i<row.length
   ·rw[if_pos hlt]
    have:=hrow _ (getD_mem (l:=row) (n:=i) (d:=default) rfl hi hlt)
    exact⟨by omega,by omega,fun _=>by omega,fun h=>absurd hlt h⟩
   ·rw[if_neg hlt];exact⟨by omega,by omega,fun h=>absurd h hlt,fun _=>rfl⟩
  obtain⟨hk0,hk1,hk2,hk3⟩:=hk
  obtain⟨a,b,q',ho⟩:∃a b c,takeS ndP g t (kd row i) (lf i) p.fuel p=(a,b,c):=⟨_,_,_,rfl⟩
  obtain⟨c1,c2,c3,c4⟩:=take_count ndP_tree hok hN (d:=lf i) rfl hk0 hk1 hp (Nat.le_refl _) ho
  have h1:=(take_fine ndP_tree hok (d:=lf i) rfl hk0 hk1 hp (Nat.le_refl _) ho).2
  rw[runS]at h
  simp only[show(if i<row.length then row.getD i.toNat default else 0)=kd row i from rfl,ho]at h
  by_cases hb:b=0
  ·rw[if_pos hb]at h
   subst hb
   rcases h1 with⟨ha,_,hk',hq⟩|⟨ha,_,hk',_⟩|hbad
   ·subst ha
    have hlt:i<row.length:=Decidable.byContradiction fun hn=>hk' (hk3 hn)
    obtain⟨r1,r2,r3⟩:=run_ahead hok hN hrow (n:=n) (i:=i+1) hq (by omega) (by omega) h
    have hn0:¬n=0:=by omega
    refine⟨r1,fun hw=>?_,fun hw=>?_⟩
    ·obtain⟨s1,s2⟩:=r2 hw
     rw[if_neg hn0]at s1
     exact⟨by rw[if_neg (Nat.succ_ne_zero n)];rw[s1,c1];simp;omega,fun _=>s2 (by omega)⟩
    ·obtain⟨s1,s2,s3,s4,s5⟩:=r3 hw
     refine⟨by omega,s2,by rw[s3,c1];simp;omega,s4,fun row2 n2 hag hn2=>?_⟩
     obtain⟨m2,rfl⟩:∃m,n2=m+1:=⟨n2 - 1,by omega⟩
     obtain⟨q2,hq2⟩:=s5 row2 m2 hag (by omega)
     refine⟨q2,?_⟩
     rw[runS]
     simp only[show(if i<row2.length then row2.getD i.toNat default else 0)=kd row2 i from rfl,hag i hi (by omega),ho]
     exact hq2
   ·subst ha
    have hlt:¬i<row.length:=fun hn=>hk2 hn hk'
    have hn0:n=0:=by omega
    subst hn0
    cases h
    refine⟨c2,fun _=>⟨by rw[c1];simp;omega,fun _=>c3 rfl⟩,fun h=>absurd rfl h⟩
   ·exact absurd rfl hbad
  ·rw[if_neg hb]at h
   cases h
   have ha1:¬a=1:=by rw[c4 hb];decide
   refine⟨c2,fun h=>absurd h hb,fun _=>⟨Int.le_refl _,by omega,by rw[c1,if_neg ha1];simp,rfl,fun row2 n2 hag hn2=>?_⟩⟩
   obtain⟨m2,rfl⟩:∃m,n2=m+1:=⟨n2 - 1,by omega⟩
   refine⟨q,?_⟩
   rw[runS]
   simp only[show(if i<row2.length then row2.getD i.toNat default else 0)=kd row2 i from rfl,hag i hi (Int.le_refl _),ho]
   rw[if_neg hb]
theorem rulesL_true:∀{l kl:List ByteArray} {b:Bool},rulesL kl b l=true→b=true
 |[],kl,b,h=>h
 |r::l,kl,b,h=>by
  rw[rulesL]at h
  have:=rulesL_true h
  simp only[Bool.and_eq_true]at this
  exact this.1.1.1
theorem kinds_two {ks:Sl ByteArray} (h:kindsS ks=0):2≤ks.l.length:=by
 unfold kindsS at h
 split at h
 ·cases h
 ·rename_i hc
  simp at hc
  omega
theorem gcheck_ok {g:Plain} (h:gcheckS g=0):2≤g.kinds.l.length∧∀x∈g.prods.l,0≤x.left∧x.left<g.rules.l.length:=by
 unfold gcheckS at h
 split at h
 ·rename_i hg
  unfold gOk at hg
  rw[Bool.and_eq_true]at hg
  obtain⟨h3,h4⟩:=hg
  have h2:=rulesL_true h3
  unfold gOk2 at h2
  simp only[Bool.and_eq_true]at h2
  have h1:=h2.1.1.1.1.1
  unfold gOk1 at h1
  rw[Bool.and_eq_true]at h1
  have h0:=h1.1
  unfold gOk0 at h0
  rw[Bool.and_eq_true]at h0
  refine⟨kinds_two (by simpa using h0.1),fun x hx=>?_⟩
  have:=List.all_eq_true.1 h4 x hx
  unfold prodS at this
  simp only[Bool.and_eq_true,Bool.not_eq_true',Bool.or_eq_false_iff,decide_eq_false_iff_not]at this
  omega
 ·cases h
theorem ok_of {g:Plain} {t:Table} (hty:Ty g t) (h:checkS g t (gcheckS g)=0):Ok g t∧NoNum t:=by
 unfold checkS at h
 split at h
 ·contradiction
 rename_i he
 have he:gcheckS g=0:=by simpa using he
 obtain⟨hk,hl⟩:=gcheck_ok he
 split at h
 ·cases h
 rename_i hc
 split at h
 rotate_left
 ·cases h
 rename_i hr
 simp at hc
 obtain⟨⟨p1,p2⟩,p3⟩:=hc
 have hlen:t.goto.l.length=t.moves.l.length:=by omega
 have hrow:∀i,i<t.moves.l.length→rowOkS g t.moves.l.length (t.moves.l.getD i default) (t.goto.l.getD i default)=true:=fun i hi=>List.all_eq_true.1 hr i (List.mem_range.2 hi)
 have hrow':∀i,i<t.moves.l.length→(t.moves.l.getD i default).l.length=g.kinds.l.length∧(t.goto.l.getD i default).l.length=g.rules.l.length∧(∀k,k<(t.moves.l.getD i default).l.length→moveS g.prods.l.length ((t.moves.l.getD i default).l.getD k default) t.moves.l.length k=true)∧∀x∈(t.goto.l.getD i default).l,-1≤x∧x<t.moves.l.length:=by
  intro i hi
  have:=hrow i hi
  unfold rowOkS at this
  rw[Bool.and_eq_true,Bool.and_eq_true]at this
  obtain⟨a1,a2,a3⟩:=this
  simp only[Bool.not_eq_true',Bool.or_eq_false_iff,Bool.not_eq_false',beq_iff_eq]at a1
  refine⟨by omega,by omega,fun k hk=>List.all_eq_true.1 a2 k (List.mem_range.2 hk),fun x hx=>?_⟩
  have:=List.all_eq_true.1 a3 x hx
  unfold goS at this
  simp at this
  omega
 have hmem:∀r∈t.moves.l,∃i,i<t.moves.l.length∧t.moves.l.getD i default=r:=fun r hr=>by
  obtain⟨i,hi,rfl⟩:=List.getElem_of_mem hr
  exact⟨i,hi,by simp[List.getD,hi]⟩
 have hmem2:∀r∈t.goto.l,∃i,i<t.moves.l.length∧t.goto.l.getD i default=r:=fun r hr=>by
  obtain⟨i,hi,rfl⟩:=List.getElem_of_mem hr
  exact⟨i,by omega,by simp[List.getD,hi]⟩
 have hmv:∀r∈t.moves.l,∀(k:Nat) m,r.l[k]?=some m→moveS g.prods.l.length m t.moves.l.length k=true:=by
  intro r hr k m hm
  obtain⟨i,hi,rfl⟩:=hmem r hr
  have hk':=(List.getElem?_eq_some_iff.1 hm).1
  have:=(hrow' i hi).2.2.1 k hk'
  rwa [show(t.moves.l.getD i default).l.getD k default=m by rw[List.getD,hm];rfl]at this
 obtain⟨s1,s2,s3,s4,s5,s6⟩:=hty.small
 refine⟨⟨hty.prods,hty.right,hl,hty.moves,hty.goto,hlen,by omega,by omega,fun r hr=>?_,fun r hr=>?_,fun r hr m hm=>?_,fun r hr k m hm=>?_,fun r hr n hn=>?_,⟨s1,s2,s3,s4,s6⟩⟩,fun r hr m hm h3=>?_⟩
 ·obtain⟨i,hi,rfl⟩:=hmem r hr
  exact⟨hty.row _ hr,(hrow' i hi).1⟩
 ·obtain⟨i,hi,rfl⟩:=hmem2 r hr
  exact⟨hty.grow _ hr,(hrow' i hi).2.1⟩
 ·obtain⟨k,hk',rfl⟩:=List.getElem_of_mem hm
  have:=hmv r hr k _ (List.getElem?_eq_getElem hk')
  unfold moveS at this
  split at this
  ·exact .inl (.inl (by assumption))
  ·split at this
   ·refine .inl (.inr ⟨by assumption,?_⟩)
    simp at this;omega
   ·split at this
    ·refine .inr (.inl ⟨by assumption,?_⟩)
     simp at this;omega
    ·split at this
     ·exact .inr (.inr (by assumption))
     ·cases this
 ·have:=hmv r hr k m hm
  unfold moveS at this
  split at this
  ·exact⟨fun h=>by omega,fun h=>by omega⟩
  ·split at this
   ·simp at this
    exact⟨fun _=>by omega,fun h=>by omega⟩
   ·split at this
    ·exact⟨fun h=>by omega,fun h=>by omega⟩
    ·split at this
     ·simp at this
      exact⟨fun h=>by omega,fun _=>by omega⟩
     ·cases this
 ·obtain⟨i,hi,rfl⟩:=hmem2 r hr
  exact(hrow' i hi).2.2.2 n hn
 ·obtain⟨k,hk',hkm⟩:=List.getElem_of_mem hm
  have:=hmv r hr k m (by rw[List.getElem?_eq_getElem hk',hkm])
  unfold moveS at this
  rw[if_neg (by omega),if_neg (by omega),if_neg (by omega),if_pos h3]at this
  simp at this
  exact this.1
theorem rowOk_of {g:Plain} {t:Table} {row:Sl Int} (hok:Ok g t) (hr:row.ok 1) (hl:row.l.length<2 ^ 40) (h:rowS g.kinds.l.length row.l=0):RowOk g t row:=by
 unfold rowS at h
 split at h
 ·cases h
 ·split at h
  ·cases h
  ·rename_i hb
   refine⟨hok,hr,hl,fun k hk=>?_⟩
   have:=List.any_eq_false.1 (by simpa using hb) k hk
   unfold badK at this
   simp at this
   omega
end Go.Am.Pull
end
section
namespace Go.Am.Pull
open Go Go.Proofs Go.Am
set_option maxRecDepth 100000
set_option maxHeartbeats 4000000
variable {O:List Ent}
abbrev oA (w i p k:Int) (l z:Nat) (ks:List AV):AV:=.agg [vi w,vi i,vi p,vi k,.fz l z ks]
structure Ahead (O:List Ent) (g:Plain) (t:Table) (row beh:Sl Int) (e22 w22 i22 p22 k22:Int) (l22 z22:Nat) (ks22:List AV) (tr:Sl Move):Prop where
 parse:Ans cx O 7 [g.av,t.av,row.av vi] (.tup [oA w22 i22 p22 k22 l22 z22 ks22,vi e22],[])
 trace:Ans cx O 9 [g.av,t.av,row.av vi] (.tup [tr.av Move.av,vi e22],[])
 trok:tr.ok 2
 trl:tr.l.length<2 ^ 40
 good:e22=0→w22=0→(sh tr.l:Int)=row.l.length∧∃l,tr.l=l++[⟨3,0⟩]
 bad:e22=0→w22≠0→0≤i22∧i22≤row.l.length∧(sh tr.l:Int)=i22∧(i22<row.l.length→∃e113 w113 i113 p113 k113 l113 z113 ks113,
  Ans cx O 7 [g.av,t.av,Sl.av vi ⟨2,1,row.l.take (i22+1).toNat++beh.l⟩] (.tup [oA w113 i113 p113 k113 l113 z113 ks113,vi e113],[])∧noLentL ks113=true∧l113≠2∧
  (e113=0→Ans cx O 13 [oA w113 i113 p113 k113 l113 z113 ks113,oA w22 i22 p22 k22 l22 z22 ks22] (.bool true,[])))
end Go.Am.Pull
end
section
namespace Go.Am.Pull
open Go Go.Proofs Go.Am
set_option maxRecDepth 100000
set_option maxHeartbeats 4000000
variable {O:List Ent}
def errS (g:Plain) (t:Table) (row:Sl Int):Int:=if checkS g t (gcheckS g)=0 then rowS g.kinds.l.length row.l else checkS g t (gcheckS g)
theorem rowOk_all {g:Plain} {t:Table} {row:Sl Int} (ht:Ty g t) (hr:row.ok 1) (hl:row.l.length<2 ^ 40) (h:errS g t row=0):RowOk g t row:=by
 unfold errS at h
 split at h
 ·exact rowOk_of (ok_of ht (by assumption)).1 hr hl h
 ·contradiction
theorem noNum_all {g:Plain} {t:Table} {row:Sl Int} (ht:Ty g t) (h:errS g t row=0):NoNum t:=by
 unfold errS at h
 split at h
 ·exact(ok_of ht (by assumption)).2
 ·contradiction
def trSl (l:List Move):Sl Move:=if l=[]then⟨1,0,[]⟩else⟨0,2,l⟩
theorem trSl_av (l:List Move):trV l=(trSl l).av Move.av:=by
 unfold trV trSl
 split<;>rfl
theorem trSl_l (l:List Move):(trSl l).l=l:=by
 unfold trSl
 split
 ·rename_i h;exact h.symm
 ·rfl
theorem trSl_ok (l:List Move):(trSl l).ok 2:=by
 unfold trSl
 split
 ·exact .inl rfl
 ·exact .inr rfl
end Go.Am.Pull
end
section
namespace Go.Am
open Go
variable {H:Type} {enc:TypeId×Value→H} {P:Program} {w:World}
def mkO (w:World):Fz:=⟨fun b o=>w.cell? ⟨b,o,none⟩,fun _ _=>False,fun _ _=>False⟩
theorem mkO_no (lab b o:Nat):(mkO w).no lab b o:=by
 unfold Fz.no mkO
 split<;>exact id
def RL (w:World) (as1:List AV) (cs:List Value):Prop:=as1.length=cs.length∧∀(i:Nat) a v,as1[i]?=some a→cs[i]?=some v→RF (mkO w) a v
theorem RL.one {a:AV} {v:Value} (h:RF (mkO w) a v):RL w [a] [v]:=⟨rfl,fun i a' v' h1 h2=>by
 cases i with
 |zero=>cases h1;cases h2;exact h
 |succ i=>simp at h1⟩
theorem RL.app {as1 bs:List AV} {cs ds:List Value} (h1:RL w as1 cs) (h2:RL w bs ds):RL w (as1++bs) (cs++ds):=by
 refine⟨by simp[h1.1,h2.1],fun i a v ha hv=>?_⟩
 by_cases hi:i<as1.length
 ·rw[List.getElem?_append_left hi]at ha
  rw[List.getElem?_append_left (h1.1▸hi)]at hv
  exact h1.2 i a v ha hv
 ·rw[List.getElem?_append_right (by omega)]at ha
  rw[List.getElem?_append_right (by have:=h1.1;omega),←h1.1]at hv
  exact h2.2 _ a v ha hv
structure Small (Sm:DataW H→Prop) (N:Nat):Prop where
 str:∀l,Sm (.lit (.string l))→l.length≤N
 slice:∀e s,Sm (.slice e s)→e.length≤N∧∀x∈e,Sm x
 agg:∀l,Sm (.agg l)→∀x∈l,Sm x
def Opens (enc:TypeId×Value→H) (P:Program) (w:World) (Sm:DataW H→Prop) (n:Nat) (t:TypeId) (α:Type) (f:α→AV) (good:α→Prop):Prop:=
 ∀cs d,DataW.trod enc P w 0 (fun _=>true) true n t cs=some d→Sm d.1→∃x,good x∧RL w (cells (f x)) cs
variable {Sm:DataW H→Prop} {N:Nat}
theorem Opens.int {k:IntKind} {t:TypeId} (ht:P.underlying t=some (.int k)) {n:Nat}:Opens enc P w Sm n t Int (fun x=>.int k x) (fun x=>(Lit.int k x).wf=true):=fun cs d h _=>by
 obtain⟨m,rfl,_,hw⟩:=DataW.trod_int ht h
 exact⟨m,hw,.one (.int k m)⟩
theorem Opens.bool {t:TypeId} (ht:P.underlying t=some .bool) {n:Nat}:Opens enc P w Sm n t Bool AV.bool (fun _=>True):=fun cs d h _=>by
 obtain⟨b,rfl,_⟩:=DataW.trod_bool ht h
 exact⟨b,trivial,.one (.bool b)⟩
theorem Opens.str (hS:Small Sm N) {t:TypeId} (ht:P.underlying t=some .string) {n:Nat}:Opens enc P w Sm n t ByteArray AV.str (fun s=>s.size≤N):=fun cs d h hd=>by
 obtain⟨s,rfl,rfl,_⟩:=DataW.trod_string ht h
 have:=hS.str _ hd
 exact⟨s,by rw[Array.length_toList]at this;exact this,.one (.str s)⟩
theorem chooses {α:Type} {p:Nat→α→Prop}:∀{n:Nat},(∀i,i<n→∃x,p i x)→∃l:List α,l.length=n∧∀(i:Nat) x,l[i]?=some x→p i x
 |0,_=>⟨[],rfl,fun i x h=>by simp at h⟩
 |n+1,h=>by
  obtain⟨l,hl,hp⟩:=chooses (n:=n) fun i hi=>h i (by omega)
  obtain⟨x,hx⟩:=h n (by omega)
  refine⟨l++[x],by simp[hl],fun i y hy=>?_⟩
  by_cases hi:i<l.length
  ·rw[List.getElem?_append_left hi]at hy;exact hp i y hy
  ·rw[List.getElem?_append_right (by omega)]at hy
   have:i - l.length=0:=by
    cases hz:i - l.length with
    |zero=>rfl
    |succ m=>rw[hz]at hy;simp at hy
   rw[this]at hy
   cases hy
   rw[show i=n by omega];exact hx
theorem Opens.slice (hS:Small Sm N) {t e:TypeId} {α:Type} {f:α→AV} {good:α→Prop} {sz:Nat} (ht:P.underlying t=some (.slice e)) (hsz:P.cellsOf e=sz) (h0:0<sz) {n:Nat} (he:Opens enc P w Sm n e α f good) (hf:∀x,(cells (f x)).length=sz):
  Opens enc P w Sm (n+1) t (Sl α) (Sl.av f) (fun s=>s.ok sz∧s.l.length≤N∧∀x∈s.l,good x):=fun cs d h hd=>by
 subst hsz
 rcases DataW.trod_slice ht h with⟨rfl,_⟩|⟨a,len,cap,elems,rest,m,hm,rfl,rfl,_,hl,_,hel,hget,hrest,_⟩
 ·exact⟨⟨1,0,[]⟩,⟨.inl rfl,Nat.zero_le _,fun x hx=>(List.not_mem_nil hx).elim⟩,.one (.nil 0)⟩
 ·obtain rfl:n=m:=by omega
  obtain⟨b,o,sp⟩:=a
  have hsp:sp=none∨cap=0:=by
   by_cases hc:cap=0
   ·exact .inr hc
   ·left
    have key:∀i,((w.cells? 0 ((⟨b,o,sp⟩:Addr).add (i*P.cellsOf e)) (P.cellsOf e)).bind (DataW.trod enc P w 0 (fun _=>true) true n e)).isSome=true→i=0→sp=none:=by
     intro i hi h0'
     subst h0'
     cases hz:w.cells? 0 ((⟨b,o,sp⟩:Addr).add (0*P.cellsOf e)) (P.cellsOf e)with
     |none=>rw[hz]at hi;cases hi
     |some cs=>
      obtain⟨_,hlen,hcell⟩:=World.cells?_some hz
      have g0:=hcell 0 h0
      have:cs[0]?≠none:=by rw[ne_eq,List.getElem?_eq_none_iff];omega
      cases hcs:cs[0]? with
      |none=>exact absurd hcs this
      |some c=>
       rw[hcs]at g0
       simpa[Addr.add]using World.cell?_spot g0
    by_cases hlen:0<len
    ·refine key 0 ?_ rfl
     rw[hget 0 hlen,List.getElem?_eq_getElem (by omega)];rfl
    ·obtain⟨r1,r2⟩:=hrest rfl
     refine key 0 ?_ rfl
     have:=r2 0 (by omega)
     rw[show len+0=0 by omega]at this
     rw[this,List.getElem?_eq_getElem (by omega)];rfl
  obtain⟨s1,s2⟩:=hS.slice _ _ hd
  have hone:∀i,i<len→∃x,good x∧RC (mkO w) 0 (cells (f x)) b (o+i*P.cellsOf e):=by
   intro i hi
   have hs:sp=none:=hsp.resolve_right (by omega)
   subst hs
   have hg:=hget i hi
   rw[List.getElem?_eq_getElem (by omega)]at hg
   obtain⟨cs,hcs,htr⟩:=Option.bind_eq_some_iff.1 hg
   obtain⟨x,hx,hr⟩:=he cs _ htr (s2 _ (List.mem_map_of_mem (List.getElem_mem ..)))
   refine⟨x,hx,RC.of fun j a ha=>?_⟩
   obtain⟨_,hlen,hcell⟩:=World.cells?_some hcs
   have hj:j<P.cellsOf e:=by rw[←hf x];exact(List.getElem?_eq_some_iff.1 ha).1
   have hv:=hcell j hj
   rw[addr_add,addr_add]at hv
   obtain⟨v,hv2⟩:∃v,cs[j]?=some v:=⟨_,List.getElem?_eq_getElem (by omega)⟩
   refine⟨v,?_,mkO_no _ _ _,hr.2 j a v ha hv2⟩
   rw[←hv2,←hv];rfl
  obtain⟨l,hll,hlp⟩:=chooses hone
  refine⟨⟨0,P.cellsOf e,l⟩,⟨.inr rfl,?_,fun x hx=>?_⟩,?_⟩
  ·show l.length≤N
   rw[List.length_map]at s1;omega
  ·obtain⟨i,hi,rfl⟩:=List.getElem_of_mem hx
   exact(hlp i _ (List.getElem?_eq_getElem hi)).1
  ·refine .one ?_
   have:=RF.fzs (F:=mkO w) 0 (P.cellsOf e) (l.map f) b o cap sp (by decide) (by rw[List.length_map];omega) (RE.of fun i x hx=>?_) hsp
   ·rw[List.length_map,hll]at this;exact this
   ·rw[List.getElem?_map]at hx
    cases hli:l[i]? with
    |none=>rw[hli]at hx;cases hx
    |some y=>rw[hli]at hx;cases hx;exact⟨hf y,(hlp i y hli).2⟩
def offsOk (P:Program):Nat→List Field→Bool
 |_,[]=>true
 |o,f::fs=>Nat.beq f.offset o&&offsOk P (o+P.cellsOf f.type) fs
def sumC (P:Program):List TypeId→Nat
 |[]=>0
 |t::ts=>P.cellsOf t+sumC P ts
def partsOf (P:Program) (t:TypeId):Option (List TypeId):=match P.underlying t with
 |some (.struct fs)=>cond (offsOk P 0 fs.toList&&Nat.beq (sumC P (fs.toList.map (·.type))) (P.cellsOf t)) (some (fs.toList.map (·.type))) none
 |_=>none
def Parts (enc:TypeId×Value→H) (P:Program) (w:World) (Sm:DataW H→Prop) (n:Nat):List TypeId→List Value→Prop
 |[],cs=>cs=[]
 |t::ts,cs=>∃c r,cs=c++r∧(∃d,DataW.trod enc P w 0 (fun _=>true) true n t c=some d∧Sm d.1)∧Parts enc P w Sm n ts r
theorem parts_go {n:Nat} {xs:List (DataW H×List MemPlace)} {cs:List Value}:∀{fs:List Field} {o k:Nat},offsOk P o fs=true→o+sumC P (fs.map (·.type))=cs.length→
  (∀(i:Nat) (f:Field),fs[i]?=some f→∃d,DataW.trod enc P w 0 (fun _=>true) true n f.type ((cs.drop f.offset).take (P.cellsOf f.type))=some d∧Sm d.1)→Parts enc P w Sm n (fs.map (·.type)) (cs.drop o)
 |[],o,k,_,hl,_=>by
  simp only[List.map_nil,Parts]
  simp[sumC]at hl
  exact List.drop_of_length_le (by omega)
 |f::fs,o,k,ho,hl,h=>by
  simp only[offsOk,Bool.and_eq_true]at ho
  obtain⟨h1,h2⟩:=ho
  have h1:=Nat.eq_of_beq_eq_true h1
  simp only[List.map_cons,sumC]at hl
  refine⟨(cs.drop o).take (P.cellsOf f.type),cs.drop (o+P.cellsOf f.type),?_,?_,?_⟩
  ·rw[←List.drop_drop,List.take_append_drop]
  ·obtain⟨d,d1,d2⟩:=h 0 f rfl
   rw[h1]at d1;exact⟨d,d1,d2⟩
  ·exact parts_go (xs:=xs) (k:=k) h2 (by omega) fun i g hg=>h (i+1) g hg
theorem parts_of (hS:Small Sm N) {t:TypeId} {ts:List TypeId} (ht:partsOf P t=some ts) {n:Nat} {cs:List Value} {d:DataW H×List MemPlace} (h:DataW.trod enc P w 0 (fun _=>true) true (n+1) t cs=some d) (hd:Sm d.1):Parts enc P w Sm n ts cs:=by
 unfold partsOf at ht
 split at ht
 ·rename_i fs hu
  cases hc:(offsOk P 0 fs.toList&&Nat.beq (sumC P (fs.toList.map (·.type))) (P.cellsOf t))with
  |false=>rw[hc]at ht;cases ht
  |true=>
   rw[hc]at ht
   cases ht
   simp only[Bool.and_eq_true]at hc
   obtain⟨xs,m,hm,rfl,hl,hxl,hf⟩:=DataW.trod_struct hu h
   obtain rfl:n=m:=by omega
   have:=parts_go (enc:=enc) (w:=w) (Sm:=Sm) (n:=n) (xs:=xs) (cs:=cs) (k:=0) hc.1 (by rw[Nat.zero_add,hl];exact Nat.eq_of_beq_eq_true hc.2) fun i f hfi=>by
    have hlt:i<fs.size:=by
     have:=(List.getElem?_eq_some_iff.1 hfi).1;simpa using this
    have h1:=hf i f (by simpa using hfi)
    rw[List.getElem?_eq_getElem (by omega)]at h1
    exact⟨_,h1,hS.agg _ hd _ (List.mem_map_of_mem (List.getElem_mem ..))⟩
   exact this
 ·cases ht
theorem Opens.at {n:Nat} {t:TypeId} {α:Type} {f:α→AV} {good:α→Prop} (ho:Opens enc P w Sm n t α f good) {c:List Value} (h:∃d,DataW.trod enc P w 0 (fun _=>true) true n t c=some d∧Sm d.1):∃x,good x∧RL w (cells (f x)) c:=by
 obtain⟨d,h1,h2⟩:=h
 exact ho c d h1 h2
theorem Opens.zero {t:TypeId} {α:Type} {f:α→AV} {good:α→Prop}:Opens enc P w Sm 0 t α f good:=fun cs d h _=>by simp[DataW.trod]at h
theorem Opens.slices (hS:Small Sm N) {t e:TypeId} {α:Type} {f:α→AV} {good:α→Prop} {sz:Nat} (ht:P.underlying t=some (.slice e)) (hsz:P.cellsOf e=sz) (h0:0<sz) (he:∀n,Opens enc P w Sm n e α f good) (hf:∀x,(cells (f x)).length=sz):
  ∀n,Opens enc P w Sm n t (Sl α) (Sl.av f) (fun s=>s.ok sz∧s.l.length≤N∧∀x∈s.l,good x)
 |0=>.zero
 |n+1=>.slice hS ht hsz h0 (he n) hf
end Go.Am
end
section
namespace Go.Am
open Go
variable {P:Program} {cx:Cx} {O:List Ent} {w:World}
def baseO (w:World):Base:=⟨w,fun _ _=>False,fun _ _=>False,fun _ _=>False,fun _ _ h=>h,fun _ _ h=>h.elim,fun _ _ h=>h.elim,fun _ _ h=>h.elim⟩
def gO:Gh:=fun _ _=>none
theorem owned_gO {b o:Nat}:¬owned gO b o:=fun⟨_,_,_,h,_⟩=>by cases h
theorem rm_O {R:Nat→Value}:RM (baseO w) (fun _=>False) gO R [] w where
 chg:=⟨rfl,rfl,rfl,Nat.le_refl _,fun b cs el fr h=>⟨cs,h,rfl,fun _ _=>rfl⟩,fun _ _ _=>rfl⟩
 tree:=fun r a h=>by simp[hget]at h
 void:=fun _ _ _=>rfl
 disj:=fun r p n r' p' n' h=>by cases h
 blk:=fun r p n h=>by cases h
 lks:=fun r a p q len h=>by simp[hget]at h
 inn:=fun b o h=>absurd h owned_gO
theorem leO:(mkO w).le (mkF (baseO w) gO w) where
 m:=fun b o v h _=>h
 N:=fun b o v _ _=>fun h=>h.elim owned_gO id
 N0:=fun b o v _ _=>fun h=>h.elim owned_gO id
 sub:=fun b o h=>h.elim
theorem rtl_of:∀{cs:List AV} {vs:List Value},RL w cs vs→RTL (mkF (baseO w) gO w) gO (cs.map (fadeC [])) vs
 |[],[],_=>.nil
 |[],v::vs,h=>by simp[RL]at h
 |c::cs,[],h=>by simp[RL]at h
 |c::cs,v::vs,h=>.cons (cellT ((h.2 0 c v rfl rfl).mono leO)) (rtl_of ⟨by have:=h.1;simpa using this,fun i a u ha hu=>h.2 (i+1) a u (by simpa using ha) (by simpa using hu)⟩)
theorem xd_agg {cs:List AV} {vs:Array Value} (h:RL w cs vs.toList):XD (mkF (baseO w) gO w) gO [] (.agg cs) (.agg vs):=by
 have:=RX1.agg (rtl_of h)
 rw[Array.toArray_toList]at this
 exact .inr (.c this)
theorem xd_one {a:AV} {v:Value} (h:RL w [a] [v]):XD (mkF (baseO w) gO w) gO [] a v:=rfX ((h.2 0 a v rfl rfl).mono leO)
theorem below_of {R:Nat→Value} {g:Gh} {h:Hp} {w':World} {K:Nat→Prop} (H:RM (baseO w) K g R h w'):RowKit.Below w.heap.size w w':=
 ⟨H.chg.os,H.chg.tape,H.chg.output,H.chg.size,fun k hk=>H.chg.objs k hk fun _ h=>h⟩
theorem calls_of (hT:TOk P cx) (hm:P.follows .mixedOrders=true) (hF:FnsOk P cx) {f:Nat} {fn:FnS} {args:List AV} {b:Bool} (ha:Ans cx O f args (.bool b,[])) (hK:∀e∈O,Known P cx e) (hfn:cx.F f=some fn) (he:entryL 0 args=(args,[])) {vs:List Value} (hx:XDs (mkF (baseO w) gO w) gO [] args vs):
  Calls P f vs.toArray w fun e w'=>e=.returned (.bool b)∧RowKit.Below w.heap.size w w':=by
 obtain⟨m,hev⟩:=ha
 obtain⟨_,pf,_,hc⟩:=evO_ctr hT hm hF m hK m f fn args _ _ hfn (hev m m (Nat.le_refl _) (Nat.le_refl _))
 rw[he]at hc
 refine(hc (baseO w) gO (fun _=>.bool false) w vs rm_O hx).mono fun e w' h=>?_
 cases e with
 |returned v=>
  obtain⟨g1,R1,h1,N,H,hv,_⟩:=h
  refine⟨?_,below_of H⟩
  cases hv with
  |e a=>cases a with
   |c a=>cases a with
    |leaf hf=>cases hf;rfl
    |node hn _ _=>cases hn
 |_=>exact h.elim
end Go.Am
end
section
namespace Go.Am.Pull
open Go Go.Proofs Go.Am
set_option maxRecDepth 100000
set_option maxHeartbeats 4000000
variable {H:Type} {enc:TypeId×Value→H} {w:World} {Sm:DataW H→Prop}
theorem u3:Try.prog.underlying 3=some (.int .i64):=by kernel_rfl
theorem u9:Try.prog.underlying 9=some .string:=by kernel_rfl
theorem u22:Try.prog.underlying 22=some (.slice 9):=by kernel_rfl
theorem u23:Try.prog.underlying 23=some (.slice 117):=by kernel_rfl
theorem u24:Try.prog.underlying 24=some (.slice 123):=by kernel_rfl
theorem u27:Try.prog.underlying 27=some (.slice 41):=by kernel_rfl
theorem u28:Try.prog.underlying 28=some (.slice 31):=by kernel_rfl
theorem u31:Try.prog.underlying 31=some (.slice 3):=by kernel_rfl
theorem u41:Try.prog.underlying 41=some (.slice 51):=by kernel_rfl
theorem u119:Try.prog.underlying 119=some (.slice 121):=by kernel_rfl
theorem p26:partsOf Try.prog 26=some [22,23,22,24,3]:=by kernel_rfl
theorem p30:partsOf Try.prog 30=some [27,28]:=by kernel_rfl
theorem p51:partsOf Try.prog 51=some [3,3]:=by kernel_rfl
theorem p117:partsOf Try.prog 117=some [3,3]:=by kernel_rfl
theorem p121:partsOf Try.prog 121=some [3,3,9,119]:=by kernel_rfl
theorem p123:partsOf Try.prog 123=some [3,31,3,121]:=by kernel_rfl
theorem o3 {n:Nat}:Opens enc Try.prog w Sm n 3 Int vi (fun x=>(Lit.int .i64 x).wf=true):=.int u3
theorem o31 (hS:Small Sm 1048576) (n:Nat):Opens enc Try.prog w Sm n 31 (Sl Int) (Sl.av vi) (fun s=>s.ok 1∧s.l.length≤1048576∧∀x∈s.l,(Lit.int .i64 x).wf=true):=Opens.slices hS u31 (by kernel_rfl) (by decide) (fun _=>o3) (fun _=>rfl) n
theorem o22 (hS:Small Sm 1048576) (n:Nat):Opens enc Try.prog w Sm n 22 (Sl ByteArray) (Sl.av vs) (fun s=>s.ok 1∧s.l.length≤1048576∧∀x∈s.l,x.size≤1048576):=Opens.slices hS u22 (by kernel_rfl) (by decide) (fun _=>.str hS u9) (fun _=>rfl) n
theorem o117 (hS:Small Sm 1048576):∀n:Nat,Opens enc Try.prog w Sm n 117 Prec Prec.av (fun _=>True)
 |0=>.zero
 |n+1=>fun cs d h hd=>by
  obtain⟨c1,r1,rfl,h1,c2,r2,rfl,h2,rfl⟩:=parts_of hS p117 h hd
  obtain⟨a,_,x1⟩:=o3.at h1
  obtain⟨b,_,x2⟩:=o3.at h2
  exact⟨⟨a,b⟩,trivial,by simpa[Prec.av,cells]using x1.app x2⟩
theorem o51 (hS:Small Sm 1048576):∀n:Nat,Opens enc Try.prog w Sm n 51 Move Move.av (fun _=>True)
 |0=>.zero
 |n+1=>fun cs d h hd=>by
  obtain⟨c1,r1,rfl,h1,c2,r2,rfl,h2,rfl⟩:=parts_of hS p51 h hd
  obtain⟨a,_,x1⟩:=o3.at h1
  obtain⟨b,_,x2⟩:=o3.at h2
  exact⟨⟨a,b⟩,trivial,by simpa[Move.av,cells]using x1.app x2⟩
theorem o41 (hS:Small Sm 1048576) (n:Nat):Opens enc Try.prog w Sm n 41 (Sl Move) (Sl.av Move.av) (fun s=>s.ok 2∧s.l.length≤1048576∧∀x∈s.l,True):=Opens.slices hS u41 (by kernel_rfl) (by decide) (o51 hS) (fun _=>rfl) n
theorem o27 (hS:Small Sm 1048576) (n:Nat):Opens enc Try.prog w Sm n 27 (Sl (Sl Move)) (Sl.av (Sl.av Move.av)) (fun s=>s.ok 1∧s.l.length≤1048576∧∀x∈s.l,x.ok 2∧x.l.length≤1048576∧∀y∈x.l,True):=Opens.slices hS u27 (by kernel_rfl) (by decide) (o41 hS) (fun _=>rfl) n
theorem o28 (hS:Small Sm 1048576) (n:Nat):Opens enc Try.prog w Sm n 28 (Sl (Sl Int)) (Sl.av (Sl.av vi)) (fun s=>s.ok 1∧s.l.length≤1048576∧∀x∈s.l,x.ok 1∧x.l.length≤1048576∧∀y∈x.l,(Lit.int .i64 y).wf=true):=Opens.slices hS u28 (by kernel_rfl) (by decide) (o31 hS) (fun _=>rfl) n
theorem goodL_of:∀{l:List Act},(∀a∈l,a.good)→goodL l
 |[],_=>trivial
 |a::l,h=>⟨h a List.mem_cons_self,goodL_of fun x hx=>h x (List.mem_cons_of_mem _ hx)⟩
theorem o121' (hS:Small Sm 1048576):∀n:Nat,(∀m,m≤n→Opens enc Try.prog w Sm m 121 Act actV Act.good)
 |0=>fun m hm=>by obtain rfl:m=0:=(by omega);exact .zero
 |n+1=>fun m hm=>by
  by_cases hmn:m≤n
  ·exact o121' hS n m hmn
  ·obtain rfl:m=n+1:=by omega
   intro cs d h hd
   obtain⟨c1,r1,rfl,h1,c2,r2,rfl,h2,c3,r3,rfl,h3,c4,r4,rfl,h4,rfl⟩:=parts_of hS p121 h hd
   obtain⟨a,_,x1⟩:=o3.at h1
   obtain⟨b,_,x2⟩:=o3.at h2
   obtain⟨s,_,x3⟩:=(Opens.str hS u9).at h3
   obtain⟨ks,⟨k1,k2,k3⟩,x4⟩:∃ks:Sl Act,(ks.ok 4∧ks.l.length≤1048576∧∀x∈ks.l,x.good)∧RL w (cells (ks.av actV)) c4:=by
    cases n with
    |zero=>exact(Opens.zero (good:=fun s:Sl Act=>s.ok 4∧s.l.length≤1048576∧∀x∈s.l,x.good) (f:=Sl.av actV)).at h4
    |succ n=>exact(Opens.slice hS u119 (by kernel_rfl) (by decide) (o121' hS (n+1) n (by omega)) (fun _=>rfl)).at h4
   refine⟨.mk a b s ks.lab ks.sz ks.l,?_,?_⟩
   ·rw[Act.good]
    exact⟨k1,by omega,goodL_of k3⟩
   ·have:=(((x1.app x2).app x3).app x4)
    rw[List.append_nil]
    show RL w [vi a,vi b,vs s,.fz ks.lab ks.sz (vActs ks.l)] _
    rw[show AV.fz ks.lab ks.sz (vActs ks.l)=ks.av actV by rw[vActs_map,show vAct=actV from funext vAct_eq];rfl]
    simpa[cells,Sl.av]using this
theorem o121 (hS:Small Sm 1048576) (n:Nat):Opens enc Try.prog w Sm n 121 Act actV Act.good:=o121' hS n n (Nat.le_refl _)
def Prod.good (p:Prod):Prop:=p.right.ok 1∧p.right.l.length<2 ^ 40∧p.act.good
theorem o123 (hS:Small Sm 1048576):∀n:Nat,Opens enc Try.prog w Sm n 123 Prod Prod.av Prod.good
 |0=>.zero
 |n+1=>fun cs d h hd=>by
  obtain⟨c1,r1,rfl,h1,c2,r2,rfl,h2,c3,r3,rfl,h3,c4,r4,rfl,h4,rfl⟩:=parts_of hS p123 h hd
  obtain⟨a,_,x1⟩:=o3.at h1
  obtain⟨b,⟨b1,b2,_⟩,x2⟩:=(o31 hS n).at h2
  obtain⟨c,_,x3⟩:=o3.at h3
  obtain⟨e,e1,x4⟩:=(o121 hS n).at h4
  refine⟨⟨a,b,c,e⟩,⟨b1,by show b.l.length<2 ^ 40;omega,e1⟩,?_⟩
  have:=(((x1.app x2).app x3).app x4)
  rw[List.append_nil]
  simpa[cells,Prod.av,actV,Sl.av]using this
theorem o24 (hS:Small Sm 1048576) (n:Nat):Opens enc Try.prog w Sm n 24 (Sl Prod) (Sl.av Prod.av) (fun s=>s.ok 7∧s.l.length≤1048576∧∀x∈s.l,x.good):=Opens.slices hS u24 (by kernel_rfl) (by decide) (o123 hS) (fun _=>rfl) n
theorem o23 (hS:Small Sm 1048576) (n:Nat):Opens enc Try.prog w Sm n 23 (Sl Prec) (Sl.av Prec.av) (fun s=>s.ok 2∧s.l.length≤1048576∧∀x∈s.l,True):=Opens.slices hS u23 (by kernel_rfl) (by decide) (o117 hS) (fun _=>rfl) n
theorem o26 (hS:Small Sm 1048576):∀n:Nat,Opens enc Try.prog w Sm n 26 Plain Plain.av GTy
 |0=>.zero
 |n+1=>fun cs d h hd=>by
  obtain⟨c1,r1,rfl,h1,c2,r2,rfl,h2,c3,r3,rfl,h3,c4,r4,rfl,h4,c5,r5,rfl,h5,rfl⟩:=parts_of hS p26 h hd
  obtain⟨a,⟨a1,a2,a3⟩,x1⟩:=(o22 hS n).at h1
  obtain⟨b,⟨b1,b2,_⟩,x2⟩:=(o23 hS n).at h2
  obtain⟨c,⟨e1,e2,_⟩,x3⟩:=(o22 hS n).at h3
  obtain⟨e,⟨f1,f2,f3⟩,x4⟩:=(o24 hS n).at h4
  obtain⟨s,_,x5⟩:=o3.at h5
  refine⟨⟨a,b,c,e,s⟩,⟨a1,b1,e1,f1,fun x hx=>f3 x hx,⟨by show a.l.length<2 ^ 40;omega,by show b.l.length<2 ^ 40;omega,by show c.l.length<2 ^ 40;omega,by show e.l.length<2 ^ 40;omega⟩,fun x hx=>by have:=a3 x hx;omega⟩,?_⟩
  have:=((((x1.app x2).app x3).app x4).app x5)
  rw[List.append_nil]
  simpa[cells,Plain.av,Sl.av]using this
structure TTy (t:Table):Prop where
 moves:t.moves.ok 1
 goto:t.goto.ok 1
 row:∀r∈t.moves.l,r.ok 2
 grow:∀r∈t.goto.l,r.ok 1
 small:t.moves.l.length<2 ^ 40∧t.goto.l.length<2 ^ 40
 rows:(∀r∈t.moves.l,r.l.length<2 ^ 40)∧∀r∈t.goto.l,r.l.length<2 ^ 40
theorem o30 (hS:Small Sm 1048576):∀n:Nat,Opens enc Try.prog w Sm n 30 Table Table.av TTy
 |0=>.zero
 |n+1=>fun cs d h hd=>by
  obtain⟨c1,r1,rfl,h1,c2,r2,rfl,h2,rfl⟩:=parts_of hS p30 h hd
  obtain⟨a,⟨a1,a2,a3⟩,x1⟩:=(o27 hS n).at h1
  obtain⟨b,⟨b1,b2,b3⟩,x2⟩:=(o28 hS n).at h2
  refine⟨⟨a,b⟩,⟨a1,b1,fun r hr=>(a3 r hr).1,fun r hr=>(b3 r hr).1,⟨by show a.l.length<2 ^ 40;omega,by show b.l.length<2 ^ 40;omega⟩,⟨fun r hr=>by have:=(a3 r hr).2;omega,fun r hr=>by have:=(b3 r hr).2;omega⟩⟩,?_⟩
  have:=x1.app x2
  rw[List.append_nil]
  simpa[cells,Table.av,Sl.av]using this
theorem ty_of {g:Plain} {t:Table} (hg:GTy g) (ht:TTy t):Ty g t:=by
 obtain⟨s1,s2,s3,s4⟩:=hg.small
 exact⟨hg.prods,fun x hx=>(hg.right x hx).1,ht.moves,ht.goto,ht.row,ht.grow,⟨s1,s3,s4,ht.small.1,ht.small.2,fun x hx=>(hg.right x hx).2.1⟩⟩
end Go.Am.Pull
end
