/- The texts Am23, Am24, Am25, Am26, Am27, Am28, Am29, Am30, Am31, Am32, Am33, Am34, Am35, Am36, Am37, Am38, Am39, Am40, Am41, Am42, Am43, Am71, Am44, Am45, Am46, Am47, Am48, Am49 of this proof. -/
import Derived.ArgAppend
import Derived.Lib.AppendStr
import Derived.LoopN
import Derived.Test.YtbbdljhpjomclaaM0
section
namespace Go.Am
open Go.RowKit
variable {P:Program} {cx:Cx} {B:Base} {K:Nat→Prop} {g g':Gh} {R:Nat→Value} {s:St} {h h':Hp} {w w':World}
theorem absorb1_nonAgg {a x:AV} {r:List Rd} {us:List Up} (h:absorb1 s a=some (x,r,us)):nonAgg x=true:=by
 cases a with
 |rf sz pl off len=>
  simp only[absorb1,oops]at h
  split at h
  ·simp at h;rw[←h.1];rfl
  ·split at h
   ·split at h
    ·simp at h;rw[←h.1];rfl
    ·cases h
   ·cases h
 |ptr pl i off=>
  simp only[absorb1,oops]at h
  split at h
  ·simp at h;rw[←h.1];rfl
  ·split at h
   ·split at h
    ·simp at h;rw[←h.1];rfl
    ·cases h
   ·cases h
 |mrf r=>simp[absorb1,oops]at h
 |agg cs=>simp[absorb1,oops]at h
 |tup cs=>simp[absorb1,oops]at h
 |_=>simp[absorb1]at h;rw[←h.1];rfl
theorem absorb1_ups {a x:AV} {r:List Rd} {us:List Up} (h:absorb1 s a=some (x,r,us)):us=[]∨∃src c,us=[gone src]∧refOf a=some src∧look s true src=some c:=by
 cases a with
 |rf sz pl off len=>
  simp only[absorb1,oops]at h
  split at h
  ·simp at h;exact .inl h.2.2
  ·split at h
   ·rename_i c hl
    split at h
    ·simp at h;exact .inr ⟨pl,_,h.2.2.symm,rfl,hl⟩
    ·cases h
   ·cases h
 |ptr pl i off=>
  simp only[absorb1,oops]at h
  split at h
  ·simp at h;exact .inl h.2.2
  ·split at h
   ·split at h
    ·rename_i c hl
     simp at h;exact .inr ⟨pl,_,h.2.2.symm,rfl,hl⟩
    ·cases h
   ·cases h
 |mrf r=>simp[absorb1,oops]at h
 |agg cs=>simp[absorb1,oops]at h
 |tup cs=>simp[absorb1,oops]at h
 |_=>simp[absorb1]at h;exact .inl h.2.2
theorem putSt1_ups {keep:Nat} {dst:Pl} {a x:AV} {r:List Rd} {us:List Up} (h:putSt1 s keep dst a=some (x,r,us)):
  nonAgg x=true∧(us=[.set dst x]∨(∃src c,us=[gone src,.set dst x]∧refOf a=some src∧look s true src=some c))∧
  (∀src,refOf a=some src→s.alias=false→(∃u∈us,u.pl=src)∨(src.p=[]∧∃len,Up.set dst (.lk src.r len)∈us)):=by
 have gen:∀{x r us},absorb1 s a=some (x,r,us)→nonAgg x=true∧(us++[.set dst x]=[.set dst x]∨(∃src c,us++[.set dst x]=[gone src,.set dst x]∧refOf a=some src∧look s true src=some c))∧
   (∀src,refOf a=some src→s.alias=false→(∃u∈us++[.set dst x],u.pl=src)∨(src.p=[]∧∃len,Up.set dst (.lk src.r len)∈us++[.set dst x])):=by
  intro x r us hab
  refine⟨absorb1_nonAgg hab,?_,fun src hs ha=>?_⟩
  ·rcases absorb1_ups hab with rfl|⟨src,c,rfl,h1,h2⟩
   ·exact .inl rfl
   ·exact .inr ⟨src,c,rfl,h1,h2⟩
  ·rcases absorb1_cases ha hab with⟨_,_,hr⟩|⟨src',c,rfl,hr,_,_⟩
   ·rw[hs]at hr;cases hr
   ·rw[hs]at hr;cases hr
    exact .inl ⟨gone src,by simp,gone_pl⟩
 cases a with
 |rf sz pl off len=>
  simp only[putSt1,oops]at h
  split at h
  ·rename_i hal
   simp at h;obtain⟨rfl,_,rfl⟩:=h;exact⟨rfl,.inl rfl,fun src _ h=>by rw[hal]at h;cases h⟩
  ·rename_i hal
   split at h
   ·rename_i hc
    simp only[Bool.and_eq_true,Bool.not_eq_true',List.isEmpty_iff,beq_iff_eq]at hc
    cases hu:useOk s pl with
    |false=>rw[hu]at h;cases h
    |true=>
     rw[hu,cond_true]at h;simp at h;obtain⟨rfl,_,rfl⟩:=h
     exact⟨rfl,.inl rfl,fun src hs _=>by cases hs;exact .inr ⟨hc.1.1,len+1,by simp⟩⟩
   ·split at h
    ·rename_i hpp
     split at h
     ·split at h
      ·simp at h;obtain⟨rfl,_,rfl⟩:=h
       refine⟨rfl,.inl rfl,fun src hs _=>?_⟩
       cases hs
       simp only[Bool.and_eq_true,Pl.pre]at hpp
       obtain⟨⟨p0,p1⟩,_,p2⟩:=hpp
       obtain⟨a1,ha1⟩:=pre_iff.1 p1
       obtain⟨a2,ha2⟩:=pre_iff.1 p2
       have:a1=[]:=by
        have h1:=congrArg List.length ha1
        have h2:=congrArg List.length ha2
        simp at h1 h2
        exact List.eq_nil_of_length_eq_zero (by omega)
       subst this
       refine .inl ⟨_,List.mem_singleton.2 rfl,?_⟩
       cases pl;cases dst;simp at ha1 p0;simp[Up.pl,ha1,p0]
      ·cases h
     ·cases h
    ·cases hab:absorb1 s (.rf sz pl off len)with
     |none=>simp[hab]at h
     |some q=>
      obtain⟨x',r',us'⟩:=q
      simp only[hab,Option.some.injEq,Prod.mk.injEq]at h
      obtain⟨rfl,_,rfl⟩:=h
      exact gen hab
 |ptr pl i off=>
  simp only[putSt1,oops]at h
  split at h
  ·rename_i hc
   simp only[Bool.and_eq_true,Bool.not_eq_true',List.isEmpty_iff,beq_iff_eq]at hc
   cases hu:useOk s pl with
   |false=>rw[hu]at h;cases h
   |true=>
    rw[hu,cond_true]at h;simp at h;obtain⟨rfl,_,rfl⟩:=h
    exact⟨rfl,.inl rfl,fun src hs _=>by cases hs;exact .inr ⟨hc.1.1.1.2,0,by simp⟩⟩
  ·cases hab:absorb1 s (.ptr pl i off)with
   |none=>simp[hab]at h
   |some q=>
    obtain⟨x',r',us'⟩:=q
    simp only[hab,Option.some.injEq,Prod.mk.injEq]at h
    obtain⟨rfl,_,rfl⟩:=h
    exact gen hab
 |_=>
  simp only[putSt1]at h
  split at h
  ·rename_i x' r' us' hab
   simp only[Option.some.injEq,Prod.mk.injEq]at h
   obtain⟨rfl,_,rfl⟩:=h
   exact gen hab
  ·cases h
theorem putSt_ref {keep:Nat} {pl:Pl} {i:Nat} (hal:s.alias=false):∀{cs:List AV} {off:Nat} {rs:List Rd} {us:List Up},putSt s keep pl i off cs=some (rs,us)→∀{b:AV} {src:Pl},b∈cs→refOf b=some src→
  (∃u∈us,u.pl=src)∨(src.p=[]∧∃q len,Up.set q (.lk src.r len)∈us)
 |[],_,_,_,_,b,_,hb,_=>by cases hb
 |a::l,off,rs,us,h,b,src,hb,hr=>by
  simp only[putSt]at h
  cases h1:putSt1 s keep (pl.cell i off) a with
  |none=>simp[h1]at h
  |some q=>
   obtain⟨x,r,u⟩:=q
   simp only[h1]at h
   cases h2:putSt s keep pl i (off+1) l with
   |none=>simp[h2]at h
   |some q=>
    obtain⟨rs2,us2⟩:=q
    simp only[h2,Option.some.injEq,Prod.mk.injEq]at h
    obtain⟨_,rfl⟩:=h
    rcases List.mem_cons.1 hb with rfl|hb
    ·rcases(putSt1_ups h1).2.2 _ hr hal with⟨v,hv,e⟩|⟨e,len,hv⟩
     ·exact .inl ⟨v,List.mem_append_left _ hv,e⟩
     ·exact .inr ⟨e,_,len,List.mem_append_left _ hv⟩
    ·rcases putSt_ref hal h2 hb hr with⟨v,hv,e⟩|⟨e,q,len,hv⟩
     ·exact .inl ⟨v,List.mem_append_right _ hv,e⟩
     ·exact .inr ⟨e,q,len,List.mem_append_right _ hv⟩
theorem app_set {q:Pl} {x a:AV} (ha:hget h q.r=some a):Up.app h (.set q x)=hins h q.r (setT a q.p x):=by simp only[Up.app,ha]
theorem putSt1_get {keep:Nat} {dst:Pl} {a x:AV} {r:List Rd} {us:List Up} (h1:putSt1 s keep dst a=some (x,r,us)) (hap:apartUps us=true) {old:AV} (hd:getP h dst=some old)
  (hsrc:∀src c,refOf a=some src→look s true src=some c→getP h src=some c) {pl:Pl} (hu:∀u∈us,u.pl.apart pl):getP (Up.apps us h) pl=getP h pl:=by
 obtain⟨hx,rfl|⟨src,c,rfl,h3,h4⟩,_⟩:=putSt1_ups h1
 ·obtain⟨a0,ha,hp⟩:=getP_some hd
  simp only[Up.apps]
  rw[app_set ha]
  exact getP_set ha hp hx (hu (.set dst x) (by simp))
 ·have hg:=hsrc _ _ h3 h4
  have hsd:src.apart dst:=by have:=(apartUps_cons hap).1 (.set dst x) (by simp);rw[gone_pl]at this;exact this
  have hsp:src.apart pl:=by have:=hu (gone src) (by simp);rw[gone_pl]at this;exact this
  obtain⟨a0,ha,hp⟩:=getP_some (show getP (Up.app h (gone src)) dst=some old by rw[getP_gone hg hsd];exact hd)
  simp only[Up.apps]
  rw[app_set ha,getP_set ha hp hx (hu (.set dst x) (by simp)),getP_gone hg hsp]
def fgt (s:St) (a:AV):AV:=if s.alias=true∧(refOf a).isSome=true then .un else a
theorem fgt_ref {a:AV} (hal:s.alias=true):refOf (fgt s a)=none:=by
 unfold fgt
 split
 ·rfl
 ·rename_i hh
  cases hr:refOf a with
  |none=>rfl
  |some q=>exact absurd ⟨hal,by rw[hr];rfl⟩ hh
theorem putSt1_fgt {keep:Nat} {dst:Pl} {a x:AV} {r:List Rd} {us:List Up} (h:putSt1 s keep dst a=some (x,r,us)):∃r',putSt1 s keep dst (fgt s a)=some (x,r',us):=by
 unfold fgt
 split
 ·rename_i hc
  obtain⟨hal,hr⟩:=hc
  cases a<;>simp[refOf]at hr
  ·simp only[putSt1,hal,if_true]at h
   simp at h;obtain⟨rfl,_,rfl⟩:=h;exact⟨[],rfl⟩
  ·simp only[putSt1,absorb1,hal,if_true]at h
   simp at h;obtain⟨rfl,_,rfl⟩:=h;exact⟨[],rfl⟩
  ·simp[putSt1,absorb1,oops]at h
 ·exact⟨r,h⟩
theorem putSt_fgt {keep:Nat} {pl:Pl} {i:Nat}:∀{cs:List AV} {off:Nat} {rs:List Rd} {us:List Up},putSt s keep pl i off cs=some (rs,us)→∃rs',putSt s keep pl i off (cs.map (fgt s))=some (rs',us)
 |[],_,rs,_,h=>⟨rs,h⟩
 |a::l,off,rs,us,h=>by
  simp only[putSt]at h
  cases h1:putSt1 s keep (pl.cell i off) a with
  |none=>simp[h1]at h
  |some q=>
   obtain⟨x,r,u⟩:=q
   simp only[h1]at h
   cases h2:putSt s keep pl i (off+1) l with
   |none=>simp[h2]at h
   |some q=>
    obtain⟨rs2,us2⟩:=q
    simp only[h2,Option.some.injEq,Prod.mk.injEq]at h
    obtain⟨_,rfl⟩:=h
    obtain⟨r',e1⟩:=putSt1_fgt h1
    obtain⟨rs',e2⟩:=putSt_fgt h2
    exact⟨r'++rs',by simp only[List.map_cons,putSt,e1,e2]⟩
theorem putSt_dst {keep:Nat} {pl:Pl} {i:Nat}:∀{cs:List AV} {off:Nat} {rs:List Rd} {us:List Up},putSt s keep pl i off cs=some (rs,us)→∀{j:Nat},j<cs.length→∃v∈us,v.pl=pl.cell i (off+j)
 |[],_,_,_,_,j,hj=>by simp at hj
 |a::l,off,rs,us,h,j,hj=>by
  simp only[putSt]at h
  cases h1:putSt1 s keep (pl.cell i off) a with
  |none=>simp[h1]at h
  |some q=>
   obtain⟨x,r,u⟩:=q
   simp only[h1]at h
   cases h2:putSt s keep pl i (off+1) l with
   |none=>simp[h2]at h
   |some q=>
    obtain⟨rs2,us2⟩:=q
    simp only[h2,Option.some.injEq,Prod.mk.injEq]at h
    obtain⟨_,rfl⟩:=h
    cases j with
    |zero=>
     obtain⟨_,rfl|⟨src,c,rfl,_,_⟩,_⟩:=putSt1_ups h1
     ·exact⟨.set (pl.cell i off) x,List.mem_append_left _ (by simp),rfl⟩
     ·exact⟨.set (pl.cell i off) x,List.mem_append_left _ (by simp),rfl⟩
    |succ j=>
     obtain⟨v,hv,e⟩:=putSt_dst h2 (j:=j) (by simpa using hj)
     exact⟨v,List.mem_append_right _ hv,by rw[e,show off+1+j=off+(j+1)by omega]⟩
theorem fgt_RT {F:Fz} {d:List Up} {a:AV} {v:Value} (h:RT F g (fadeC d a) v):RT F g (fadeC d (fgt s a)) v:=by
 unfold fgt
 split
 ·rw[show fadeC d .un=.un from fadeC_ok fun pl hp=>by cases hp];exact .f (.un _ h.one)
 ·exact h
theorem apartUps_append {us vs:List Up} (h:apartUps (us++vs)=true):apartUps us=true∧apartUps vs=true∧∀u∈us,∀v∈vs,u.pl.apart v.pl:=by
 induction us with
 |nil=>exact⟨rfl,h,fun u hu=>by cases hu⟩
 |cons a l ih=>
  obtain⟨h1,h2⟩:=apartUps_cons h
  obtain⟨i1,i2,i3⟩:=ih h2
  refine⟨?_,i2,fun u hu v hv=>?_⟩
  ·simp only[List.cons_append,apartUps,Bool.and_eq_true,List.all_eq_true]at h ⊢
   exact⟨fun v hv=>h.1 v (List.mem_append_left _ hv),i1⟩
  ·rcases List.mem_cons.1 hu with rfl|hu
   ·exact h1 v (List.mem_append_right _ hv)
   ·exact i3 u hu v hv
theorem Stepped.trans {us vs:List Up} {w1 w2:World} (h1:∃g1 R1,RM B K g1 R1 (Up.apps us h) w1∧(mkF B g w).le (mkF B g1 w1)∧Keep2 us g g1∧Stepped B K g1 (Up.apps us h) w1 vs w2):Stepped B K g h w (us++vs) w2:=by
 obtain⟨g1,R1,a1,a2,a3,g2,R2,b1,b2,b3⟩:=h1
 refine⟨g2,R2,by rw[Up.apps_append];exact b1,le_trans' a2 b2,fun pl m hu hm=>b3 pl m (fun u hu'=>hu u (List.mem_append_right _ hu')) (a3 pl m (fun u hu'=>hu u (List.mem_append_left _ hu')) hm)⟩
theorem stores_ok (hfree:∀h,∃N,hget h N=none∧¬K N) {keep:Nat} {par:Pl} {i:Nat} {n:Nd} {o0:Nat}:∀{cs:List AV} {vs:List Value} {k:Nat} {rs:List Rd} {us:List Up} {g:Gh} {R:Nat→Value} {h:Hp} {w:World},
  RM B K g R h w→g par.r par.p=some n→n.whole=false→putSt s keep par i (o0+k) cs=some (rs,us)→apartUps us=true→lkOk us=true→(∀pl q len,Up.set pl (.lk q len)∈us→K q)→
  vs.length=cs.length→(∀(j:Nat) a,cs[j]?=some a→∃v,vs[j]?=some v∧RT (mkF B g w) g (fadeC s.d a) v∧(s.alias=true→refOf a=none)∧(∀src c,refOf a=some src→look s true src=some c→getP h src=some c))→
  (∀j,j<cs.length→∃old,getP h (par.cell i (o0+k+j))=some old)→
  ∃w',(storeCells ⟨n.b,n.o+i*n.sz+o0,none⟩ vs k).run P w=.ok () w'∧Stepped B K g h w us w'
 |[],vs,k,rs,us,g,R,h,w,H,hn,_,hp,_,_,_,hl,_,_=>by
  simp[putSt]at hp
  obtain⟨_,rfl⟩:=hp
  have:vs=[]:=List.eq_nil_of_length_eq_zero hl
  subst this
  exact⟨w,rfl,g,R,H,le_refl,fun _ _ _ hm=>hm⟩
 |a::l,vs,k,rs,us,g,R,h,w,H,hn,hnw,hp,hap,hlk,hK,hl,hv,hd=>by
  simp only[putSt]at hp
  cases h1:putSt1 s keep (par.cell i (o0+k)) a with
  |none=>simp[h1]at hp
  |some q=>
   obtain⟨x,r,u1⟩:=q
   simp only[h1]at hp
   cases h2:putSt s keep par i (o0+k+1) l with
   |none=>simp[h2]at hp
   |some q=>
    obtain⟨rs2,us2⟩:=q
    simp only[h2,Option.some.injEq,Prod.mk.injEq]at hp
    obtain⟨_,rfl⟩:=hp
    obtain⟨ap1,ap2,ap3⟩:=apartUps_append hap
    obtain⟨v,hv0,hrt,hal0,hsrc⟩:=hv 0 a rfl
    cases vs with
    |nil=>cases hv0
    |cons v' vs=>
    simp at hv0;subst hv0
    obtain⟨old,hd0⟩:=hd 0 (by simp)
    simp only[Nat.add_zero]at hd0
    have C:Cell1 s B K g h w par i (o0+k) n a v':=⟨⟨old,hd0⟩,hn,hrt,hsrc⟩
    obtain⟨g1,R1,a1,a2,a3⟩:=store1_ok hfree H C h1 ap1 (fun q len e=>by
     subst e
     obtain⟨_,rfl|⟨src,c,rfl,_,_⟩,_⟩:=putSt1_ups h1
     ·exact hK (par.cell i (o0+k)) q len (by simp)
     ·exact hK (par.cell i (o0+k)) q len (by simp))

    obtain⟨a0,ha0,hp0⟩:=getP_some hd0
    obtain⟨n',u',e1,e2,e3,e4,e5,_⟩:=(H.tree _ a0 ha0).inside (show getT a0 (par.p++[(i,o0+k)])=some old from hp0)
    rw[show(par.cell i (o0+k)).r=par.r from rfl,hn]at e1;cases e1
    have hcell:w.cell? ⟨n.b,n.o+i*n.sz+(o0+k),none⟩=some u':=e5
    have hfro:w.frozen? ⟨n.b,n.o+i*n.sz+(o0+k),none⟩=false:=by
     obtain⟨_,_,_,_,_,hf⟩:=H.blk _ _ _ hn hnw
     exact hf _ (Nd.has_cell e3 e4)
    have hst:(store ((⟨n.b,n.o+i*n.sz+o0,none⟩:Addr).add k) v').run P w=.ok () (after n i (o0+k) w v'):=by
     rw[addr_add,run_store P w _ v' _ (by have:=hrt.one;cases v'<;>first|rfl|cases this)]
     rw[show n.o+i*n.sz+o0+k=n.o+i*n.sz+(o0+k)by omega,hcell]
     simp only[hfro,Bool.false_eq_true,if_false];rfl

    have ap:∀{b:AV} {src:Pl},b∈l→refOf b=some src→s.alias=false→∀u∈u1,u.pl.apart src:=by
     intro b src hb hr hal u hu
     rcases putSt_ref hal h2 hb hr with⟨v,hv,e⟩|⟨e,q,len,hv⟩
     ·rw[←e];exact ap3 u hu v hv
     ·have h3:=List.all_eq_true.1 hlk _ (List.mem_append_right _ hv)
      simp only at h3
      have h4:=List.all_eq_true.1 h3 u (List.mem_append_left _ hu)
      have hne:u.pl.r≠src.r:=by intro e;rw[e]at h4;simp at h4
      exact⟨by simp only[Pl.pre,Bool.and_eq_false_iff];exact .inl (nbF hne),by simp only[Pl.pre,Bool.and_eq_false_iff];exact .inl (nbF fun e=>hne e.symm)⟩
    have nref:∀{b:AV} {src:Pl},b∈l→refOf b=some src→s.alias=false:=by
     intro b src hb hr
     obtain⟨j,hj⟩:=List.mem_iff_getElem?.1 hb
     obtain⟨v,_,_,h3,_⟩:=hv (j+1) b (by simpa using hj)
     cases hh:s.alias with
     |false=>rfl
     |true=>rw[h3 hh]at hr;cases hr
    have dap:∀j,j<l.length→∀u∈u1,u.pl.apart (par.cell i (o0+(k+1)+j)):=by
     intro j hj u hu
     have:∃v∈us2,v.pl=par.cell i (o0+k+1+j):=putSt_dst h2 hj
     obtain⟨v,hv,e⟩:=this
     rw[show o0+(k+1)+j=o0+k+1+j by omega,←e];exact ap3 u hu v hv
    have getc:∀{pl:Pl},(∀u∈u1,u.pl.apart pl)→getP (Up.apps u1 h) pl=getP h pl:=fun hu=>putSt1_get h1 ap1 hd0 hsrc hu
    have hparK:g1 par.r par.p=some n:=by
     refine a3 par n (fun u hu=>?_) hn
     cases hb:u.pl.pre par with
     |false=>rfl
     |true=>
      obtain⟨_,rfl|⟨src,c,rfl,hr,hl'⟩,_⟩:=putSt1_ups h1
      ·simp at hu;subst hu
       have:=pre_iff.1 (by simp only[Pl.pre,Bool.and_eq_true]at hb;exact hb.2)
       obtain⟨q,hq⟩:=this
       have:=congrArg List.length hq
       simp[Up.pl,Pl.cell]at this
      ·have hsd:src.apart (par.cell i (o0+k)):=by have:=(apartUps_cons ap1).1 (.set (par.cell i (o0+k)) x) (by simp);rw[gone_pl]at this;exact this
       simp at hu
       rcases hu with rfl|rfl
       ·rw[gone_pl]at hb
        have:=Pl.pre_trans hb (pre_cell par i (o0+k));rw[hsd.1]at this;cases this
       ·have:=pre_iff.1 (by simp only[Pl.pre,Bool.and_eq_true]at hb;exact hb.2)
        obtain⟨q,hq⟩:=this
        have:=congrArg List.length hq
        simp[Up.pl,Pl.cell]at this
    obtain⟨w',r1,r2⟩:=stores_ok hfree (k:=k+1) (cs:=l) (vs:=vs) a1 hparK hnw (by rw[show o0+(k+1)=o0+k+1 by omega];exact h2) ap2
     (by
      simp only[lkOk,List.all_eq_true]at hlk ⊢
      intro u hu
      have:=hlk u (List.mem_append_right _ hu)
      split at this
      ·simp only[List.all_eq_true]at this ⊢
       exact fun v hv=>this v (List.mem_append_right _ hv)
      ·rfl)
     (fun pl q len hm=>hK pl q len (List.mem_append_right _ hm)) (by simpa using hl)
     (fun j b hj=>by
      obtain⟨v,x1,x2,x3,x4⟩:=hv (j+1) b (by simpa using hj)
      refine⟨v,by simpa using x1,x2.mono a2 fun pl m hr hm=>?_,x3,fun src c hr hlook=>?_⟩
      ·have hb:=List.mem_of_getElem? hj
       have hr':refOf b=some pl:=by
        unfold fadeC at hr;split at hr
        ·cases hr
        ·exact hr
       exact a3 pl m (fun u hu=>(ap hb hr' (nref hb hr') u hu).1) hm
      ·have hb:=List.mem_of_getElem? hj
       rw[getc (ap hb hr (nref hb hr))];exact x4 src c hr hlook)
     (fun j hj=>by
      obtain⟨old',ho⟩:=hd (j+1) (by simp;omega)
      exact⟨old',by rw[getc (dap j hj),show o0+(k+1)+j=o0+k+(j+1)by omega];exact ho⟩)
    refine⟨w',?_,Stepped.trans ⟨g1,R1,a1,a2,a3,r2⟩⟩
    simp only[storeCells,Sem.run_bind,hst,Result.andThen_ok,r1]
theorem putSt_notNew {keep:Nat} {pl:Pl} {i:Nat}:∀{cs:List AV} {off:Nat} {rs:List Rd} {us:List Up},putSt s keep pl i off cs=some (rs,us)→∀u∈us,∃q,(∃x,u=.set q x)∨u=gone q
 |[],_,_,_,h=>by simp[putSt]at h;obtain⟨_,rfl⟩:=h;intro u hu;cases hu
 |a::l,off,rs,us,h=>by
  simp only[putSt]at h
  cases h1:putSt1 s keep (pl.cell i off) a with
  |none=>simp[h1]at h
  |some q=>
   obtain⟨x,r,u1⟩:=q
   simp only[h1]at h
   cases h2:putSt s keep pl i (off+1) l with
   |none=>simp[h2]at h
   |some q=>
    obtain⟨rs2,us2⟩:=q
    simp only[h2,Option.some.injEq,Prod.mk.injEq]at h
    obtain⟨_,rfl⟩:=h
    intro u hu
    rcases List.mem_append.1 hu with hu|hu
    ·obtain⟨_,rfl|⟨src,c,rfl,_,_⟩,_⟩:=putSt1_ups h1
     ·simp at hu;exact⟨_,.inl ⟨x,hu⟩⟩
     ·simp at hu
      rcases hu with rfl|rfl
      ·exact⟨src,.inr rfl⟩
      ·exact⟨_,.inl ⟨x,rfl⟩⟩
    ·exact putSt_notNew h2 u hu
theorem gone_notNew {q:Pl}:(gone q).isNew=false:=by unfold gone;split<;>rfl
theorem dn_sets {us:List Up} (h:∀u∈us,∃q,(∃x,u=.set q x)∨u=gone q):dn us=us:=by
 refine List.filter_eq_self.2 fun u hu=>?_
 obtain⟨q,⟨x,rfl⟩|rfl⟩:=h u hu
 ·rfl
 ·rw[gone_notNew];rfl
theorem keep_sets {us:List Up} (h:∀u∈us,∃q,(∃x,u=.set q x)∨u=gone q) {d:List Up} {pl:Pl} (ho:okD (d++us) pl):∀u∈us,u.pl.pre pl=false:=by
 intro u hu
 have h1:=List.any_eq_false.1 (okD_split ho) u hu
 obtain⟨q,⟨x,rfl⟩|rfl⟩:=h u hu
 ·simp only[Up.hits,Bool.false_and,Bool.or_false,Bool.not_eq_true]at h1;exact h1
 ·rw[gone_pl];exact hits_gone (by simpa using h1)
theorem oStore_ok (hT:TOk P cx) (H:RM B (Kd s.d) g R s.h w) {keep ty:Nat} {a x:AV} {va vx:Value} {e:Eff} (ha:XD (mkF B g w) g s.d a va) (hx:XD (mkF B g w) g s.d x vx)
  (he:oStore cx keep s ty a x=some e):∃w' g' R',(Instr.storeAt ty va vx).run P w=.ok () w'∧Lands B g s w e undef w' g' R':=by
 unfold oStore at he
 cases hi:cx.T ty with
 |none=>simp[hi]at he
 |some i=>
  simp only[hi]at he
  cases a with
  |ptr pl k off=>
   simp only[oops]at he
   cases hp:putSt s keep pl k off (cells x)with
   |none=>simp[hp]at he
   |some q=>
    obtain⟨rs,us⟩:=q
    simp only[hp]at he
    cases hc:(Nat.beq (cells x).length i.size&&known x&&useOk s pl&&cellsThere s pl k off i.size&&apartUps us&&lkOk us)with
    |false=>rw[hc]at he;cases he
    |true=>
     rw[hc,cond_true,Option.some.injEq]at he;subst he
     simp only[Bool.and_eq_true]at hc
     obtain⟨⟨⟨⟨⟨c1,c2⟩,c3⟩,c4⟩,c5⟩,c6⟩:=hc
     obtain⟨vs,hvs,hrt⟩:=X_cells hx c2
     obtain⟨n,hn,hnw,rfl⟩:=X_ptr ha (useOk_iff.1 c3)
     have hsz:(cells x).length=i.size:=by simpa using c1
     have hns:=putSt_notNew hp
     obtain⟨rs',hp'⟩:=putSt_fgt hp
     have hthere:∀{m o:Nat},cellsThere s pl k o m=true→∀j,j<m→∃old,getP s.h (pl.cell k (o+j))=some old:=by
      intro m
      induction m with
      |zero=>intro o _ j hj;omega
      |succ m ih=>
       intro o h j hj
       simp only[cellsThere,Bool.and_eq_true]at h
       cases j with
       |zero=>exact Option.isSome_iff_exists.1 h.1
       |succ j=>have:=ih h.2 j (by omega);rwa [show o+1+j=o+(j+1)by omega]at this
     obtain⟨w',r1,g',R',r2,r3,r4⟩:=stores_ok (K:=Kd (s.d++dn us)) (fun h=>free_no h _) (o0:=off) (k:=0) (vs:=vs) (H.weakK fun q hq=>Kd_app q hq) hn hnw hp' c5 c6
      (fun q r len hm=>⟨q,len,List.mem_append_right _ (by rw[dn_sets hns];exact hm)⟩) (by rw[List.length_map];exact RTL_len hrt)
      (fun j b hb=>by
       rw[List.getElem?_map]at hb
       cases hcj:(cells x)[j]? with
       |none=>simp[hcj]at hb
       |some c=>
        simp[hcj]at hb
        obtain⟨v,e1,e2⟩:=RTL_get hrt hcj
        subst hb
        exact⟨v,e1,fgt_RT e2,fun hal=>fgt_ref hal,fun src c hr hl=>(look_some hl).2⟩)
      (fun j hj=>by simpa using hthere c4 j (by rw[List.length_map]at hj;omega))
     refine⟨w',g',R',?_,r2,r3,fun pl' m ho hm=>r4 pl' m (keep_sets hns (by rw[←dn_sets hns];exact ho)) hm,.inr (.tup (vs:=[]) .nil)⟩
     have hlen:vx.cells.size=i.size:=by
      have:=congrArg List.length hvs
      rw[Array.length_toList,RTL_len hrt]at this;omega
     simp only[Instr.storeAt,Instr.sureAddr,storeVar,Sem.run_bind,Sem.run_pure,Result.andThen_ok,run_size w (hT ty i hi),hlen,ne_eq,not_true_eq_false,if_false,hvs]
     exact r1
  |_=>simp[oops]at he
end Go.Am
end
section
namespace Go.Am
open Go.RowKit
variable {P:Program} {cx:Cx} {B:Base} {K:Nat→Prop} {g g':Gh} {R:Nat→Value} {s:St} {h h':Hp} {w w':World}
def joinG (g:Gh) (d N k:Nat):Gh:=fun r q=>
 if r=N then none else if r=d then(match q with|[]=>g d []|(i,j)::p=>if i<k then g d ((i,j)::p)else g N ((i - k,j)::p))else g r q
def joinP (d N k:Nat) (r:Nat) (q:List (Nat×Nat)):Nat×List (Nat×Nat):=
 if r=d then(match q with|[]=>(d,[])|(i,j)::p=>if i<k then(d,(i,j)::p)else(N,(i - k,j)::p))else(r,q)
theorem joinG_back {d N k r:Nat} {q:List (Nat×Nat)} {m:Nd} (h:joinG g d N k r q=some m):r≠N∧g (joinP d N k r q).1 (joinP d N k r q).2=some m:=by
 unfold joinG at h
 by_cases e:r=N
 ·rw[if_pos e]at h;cases h
 ·rw[if_neg e]at h
  refine⟨e,?_⟩
  unfold joinP
  by_cases e2:r=d
  ·rw[if_pos e2]at h ⊢
   cases q with
   |nil=>exact h
   |cons x p=>
    obtain⟨i,j⟩:=x
    simp only at h ⊢
    by_cases hi:i<k
    ·rw[if_pos hi]at h ⊢;exact h
    ·rw[if_neg hi]at h ⊢;exact h
  ·rw[if_neg e2]at h ⊢;exact h
theorem joinP_inj {d N k r1 r2:Nat} {q1 q2:List (Nat×Nat)} (h1:r1≠N) (h2:r2≠N) (h:joinP d N k r1 q1=joinP d N k r2 q2):(r1,q1)=(r2,q2):=by
 unfold joinP at h
 by_cases e1:r1=d<;>by_cases e2:r2=d
 ·rw[if_pos e1,if_pos e2]at h
  subst e1;subst e2
  cases q1 with
  |nil=>
   cases q2 with
   |nil=>rfl
   |cons x p=>
    obtain⟨i,j⟩:=x
    simp only at h
    split at h<;>simp at h
  |cons x p=>
   obtain⟨i,j⟩:=x
   cases q2 with
   |nil=>
    simp only at h
    split at h<;>simp at h
   |cons y p'=>
    obtain⟨i',j'⟩:=y
    simp only at h
    split at h<;>split at h<;>simp at h<;>first|(obtain⟨⟨rfl,rfl⟩,rfl⟩:=h;rfl)|exact absurd h.1 (Ne.symm h1)|exact absurd h.1 h1|skip
    rename_i a b
    obtain⟨⟨c1,rfl⟩,rfl⟩:=h
    have:i=i':=by omega
    rw[this]
 ·rw[if_pos e1,if_neg e2]at h
  exfalso
  cases q1 with
  |nil=>simp at h;exact e2 h.1.symm
  |cons x p=>
   obtain⟨i,j⟩:=x
   simp only at h
   split at h<;>simp at h
   ·exact e2 h.1.symm
   ·exact h2 h.1.symm
 ·rw[if_neg e1,if_pos e2]at h
  exfalso
  cases q2 with
  |nil=>simp at h;exact e1 h.1
  |cons x p=>
   obtain⟨i,j⟩:=x
   simp only at h
   split at h<;>simp at h
   ·exact e1 h.1
   ·exact h1 h.1
 ·rw[if_neg e1,if_neg e2]at h;exact h
theorem RM.joinRow (H:RM B K g R h w) {d N sz:Nat} {old new:List AV} {n m:Nd} (hdN:d≠N) (hd:hget h d=some (.ow sz old)) (hN:hget h N=some (.ow sz new)) (hn:g d []=some n) (hm:g N []=some m) (hKN:¬K N)
  (hcap:old.length+new.length≤n.cap) (hcopy:∀i j x,step1 (.ow sz new) (i,j)=some x→w.cell? ⟨n.b,n.o+(old.length+i)*n.sz+j,none⟩=w.cell? ⟨m.b,m.o+i*m.sz+j,none⟩):
  RM B K (joinG g d N old.length) (setR R d (.slice (some ⟨n.b,n.o,none⟩) (old.length+new.length) n.cap)) (hdel (hins h d (.ow sz (old++new))) N) w∧(∀b o,owned (joinG g d N old.length) b o→owned g b o):=by
 have hown:∀b o,owned (joinG g d N old.length) b o→owned g b o:=by
  rintro b o ⟨r,q,k,hk,hb⟩
  exact⟨_,_,k,(joinG_back hk).2,hb⟩
 refine⟨?_,hown⟩
 have hle:(mkF B g w).le (mkF B (joinG g d N old.length) w):=le_sub hown
 have hG:∀q k,joinG g d N old.length q []=some k→g q []=some k:=by
  intro q k hk
  obtain⟨e,hk⟩:=joinG_back hk
  unfold joinP at hk
  by_cases e2:q=d
  ·rw[if_pos e2]at hk;rw[e2];exact hk
  ·rw[if_neg e2]at hk;exact hk
 have td:=H.tree d _ hd
 have tN:=H.tree N _ hN
 obtain⟨n',e1,hw,hsz,hlen,hv,hall⟩:=td.root
 rw[hn]at e1;cases e1
 obtain⟨m',e1,hmw,hmsz,hmlen,hmv,hmall⟩:=tN.root
 rw[hm]at e1;cases e1
 have up:∀i j q,i<old.length→getT (.ow sz (old++new)) ((i,j)::q)=getT (.ow sz old) ((i,j)::q):=by
  intro i j q hi
  simp only[getT,step1,List.getElem?_append_left hi]
 have dw:∀i j q,¬i<old.length→getT (.ow sz (old++new)) ((i,j)::q)=getT (.ow sz new) ((i - old.length,j)::q):=by
  intro i j q hi
  simp only[getT,step1,List.getElem?_append_right (Nat.le_of_not_lt hi)]
 have jd:∀i j q,joinG g d N old.length d ((i,j)::q)=if i<old.length then g d ((i,j)::q)else g N ((i - old.length,j)::q):=by
  intro i j q
  simp only[joinG,if_neg hdN,if_true]
 have jd0:joinG g d N old.length d []=g d []:=by simp only[joinG,if_neg hdN,if_true]
 refine⟨H.chg,fun r a ha=>?_,fun r hr q=>?_,fun r1 p1 n1 r2 p2 n2 g1 g2 hne=>?_,fun r q k hk hkw=>H.blk _ _ k (joinG_back hk).2 hkw,fun r a q q' len ha hq=>?_,fun b o hb=>H.inn b o (hown b o hb)⟩
 ·rw[hget_hdel]at ha
  by_cases eN:r=N
  ·rw[if_pos eN]at ha;cases ha
  rw[if_neg eN,hget_hins]at ha
  by_cases ed:r=d
  ·subst ed
   rw[if_pos rfl]at ha;cases ha
   rw[show setR R r _ r=_ from if_pos rfl]
   refine⟨⟨n,by rw[jd0];exact hn,hw,hsz,by simpa using hcap,by simp,fun e he=>?_⟩,fun p i j c hc=>?_,fun q k hk=>?_⟩
   ·rcases List.mem_append.1 he with he|he
    ·exact hall e he
    ·exact hmall e he
   ·cases p with
    |nil=>
     rw[List.nil_append]at hc ⊢
     rw[jd0,jd]
     by_cases hi:i<old.length
     ·rw[up i j [] hi]at hc
      rw[if_pos hi]
      obtain⟨k,u,a1,a2,a3⟩:=td.cell [] i j c hc
      exact⟨k,u,a1,a2,a3.mono hle (fun _ _ _=>rfl) fun q k _ hk=>hG q k hk⟩
     ·rw[dw i j [] hi]at hc
      rw[if_neg hi]
      obtain⟨k,u,a1,a2,a3⟩:=tN.cell [] (i - old.length) j c hc
      rw[hm]at a1;cases a1
      refine⟨n,u,hn,?_,a3.mono hle (fun _ _ _=>rfl) fun q k _ hk=>hG q k hk⟩
      have hs:step1 (.ow sz new) (i - old.length,j)=some c:=by
       simp only[getT]at hc
       cases hst:step1 (.ow sz new) (i - old.length,j)with
       |none=>rw[hst]at hc;cases hc
       |some y=>rw[hst]at hc;simpa using hc
      have:=hcopy _ _ _ hs
      rw[show old.length+(i - old.length)=i by omega]at this
      exact this.trans a2
    |cons ij p=>
     obtain⟨i0,j0⟩:=ij
     rw[List.cons_append]at hc ⊢
     rw[jd,jd]
     by_cases hi:i0<old.length
     ·rw[up i0 j0 _ hi]at hc
      rw[if_pos hi,if_pos hi]
      obtain⟨k,u,a1,a2,a3⟩:=td.cell ((i0,j0)::p) i j c hc
      exact⟨k,u,a1,a2,a3.mono hle (fun _ _ _=>rfl) fun q k _ hk=>hG q k hk⟩
     ·rw[dw i0 j0 _ hi]at hc
      rw[if_neg hi,if_neg hi]
      obtain⟨k,u,a1,a2,a3⟩:=tN.cell ((i0 - old.length,j0)::p) i j c hc
      exact⟨k,u,a1,a2,a3.mono hle (fun _ _ _=>rfl) fun q k _ hk=>hG q k hk⟩
   ·cases q with
    |nil=>exact⟨_,rfl,rfl⟩
    |cons ij q=>
     obtain⟨i,j⟩:=ij
     rw[jd]at hk
     by_cases hi:i<old.length
     ·rw[if_pos hi]at hk;rw[up i j q hi];exact td.dom _ k hk
     ·rw[if_neg hi]at hk;rw[dw i j q hi];exact tN.dom _ k hk
  ·rw[if_neg ed]at ha
   rw[show setR R d _ r=R r from if_neg ed]
   have e1:joinG g d N old.length r=g r:=by funext q;simp[joinG,eN,ed]
   rw[e1]
   exact(H.tree r a ha).mono hle (fun _ _ _ _ _ _ hx=>hx) (fun _ _ _ _=>rfl) fun q k _ _ _ hk=>hG q k hk
 ·rw[hget_hdel]at hr
  by_cases eN:r=N
  ·simp only[joinG,if_pos eN]
  rw[if_neg eN,hget_hins]at hr
  by_cases ed:r=d
  ·rw[if_pos ed]at hr;cases hr
  ·rw[if_neg ed]at hr;simp only[joinG,if_neg eN,if_neg ed];exact H.void r hr q
 ·obtain⟨a1,a2⟩:=joinG_back g1
  obtain⟨b1,b2⟩:=joinG_back g2
  exact H.disj _ _ _ _ _ _ a2 b2 fun e=>hne (joinP_inj a1 b1 (by rw[Prod.ext_iff]at e ⊢;exact e))
 ·rw[hget_hdel]at ha
  by_cases eN:r=N
  ·rw[if_pos eN]at ha;cases ha
  rw[if_neg eN,hget_hins]at ha
  by_cases ed:r=d
  ·rw[if_pos ed]at ha;cases ha
   cases q with
   |nil=>simp[getT]at hq
   |cons ij q=>
    obtain⟨i,j⟩:=ij
    by_cases hi:i<old.length
    ·rw[up i j q hi]at hq;exact H.lks d _ _ q' len hd hq
    ·rw[dw i j q hi]at hq;exact H.lks N _ _ q' len hN hq
  ·rw[if_neg ed]at ha;exact H.lks r a q q' len ha hq
end Go.Am
end
section
namespace Go.Am
open Go.RowKit
variable {P:Program}
set_option maxHeartbeats 4000000 in
theorem run_app_room (w:World) {t xt ty e:TypeId} {i:TypeInfo} {xd:TypeDesc} (ht:P.underlying t=some (.slice e)) (hxt:P.underlying xt=some xd) (hxd:∀k,xd≠.int k) (hi:P.info? e=some i)
  {b off sLen sCap:Nat} {x:Value} {m:Nat} {news:List Value} (hlen:(Builtin.lenOf x).run P w=.ok m w) (hfc:(Builtin.firstCells i.size m x).run P w=.ok news.toArray w) (h1:∀u∈news,u.oneCell'=true)
  (hroom:sLen+m≤sCap) (hc:∀j,j<news.length→(w.cell? ⟨b,off+sLen*i.size+j,none⟩).isSome=true) (hf:∀j,j<news.length→w.frozen? ⟨b,off+sLen*i.size+j,none⟩=false):
  (Builtin.append_ #[t,xt] ty #[.slice (some ⟨b,off,none⟩) sLen sCap,x]).run P w=.ok (.slice (some ⟨b,off,none⟩) (sLen+m) sCap) (w.setCells b (off+sLen*i.size) news):=by
 have hst:=run_storeCells_cells (P:=P) b (off+sLen*i.size) news 0 w (by simpa using hc) (by simpa using hf) h1
 simp only[Nat.add_zero]at hst
 cases xd with
 |int k=>exact absurd rfl (hxd k)
 |_=>simp[Builtin.append_,run_underlying ht,run_underlying hxt,sizeOf,typeInfo,hi,hlen,hroom,hfc,Addr.add_lit,hst]
set_option maxHeartbeats 4000000 in
theorem run_app_grow (w:World) {t xt ty e:TypeId} {i:TypeInfo} {z:Value} {xd:TypeDesc} (ht:P.underlying t=some (.slice e)) (hxt:P.underlying xt=some xd) (hxd:∀k,xd≠.int k) (hi:P.info? e=some i) (hz:i.zero=some z)
  {base:Option Addr} {sLen sCap:Nat} {x:Value} {m:Nat} {olds news:List Value} (hlen:(Builtin.lenOf x).run P w=.ok m w) (hfo:(Builtin.firstCells i.size sLen (.slice base sLen sCap)).run P w.drew=.ok olds.toArray w.drew)
  (hfc:(Builtin.firstCells i.size m x).run P w.drew=.ok news.toArray w.drew)
  (hg:sCap<sLen+m) (h63:((sLen+m:Nat):Int)≤9223372036854775807) (hfit:Builtin.nextslicecap (sLen+m) sCap*i.bytes≤281474976710656):
  (Builtin.append_ #[t,xt] ty #[.slice base sLen sCap,x]).run P w=
   .ok (.slice (some ⟨w.heap.size,0,none⟩) (sLen+m) (grownCap w (sLen+m) sCap e))
    (w.drew.alloc (.cells (olds.toArray++news.toArray++Builtin.zeroCells z.cells (grownCap w (sLen+m) sCap e - (sLen+m))) e)):=by
 have hn:¬(sLen+m≤sCap):=by omega
 have h63':¬(9223372036854775807<((sLen:Int)+(m:Int))):=by omega
 have h48':¬(281474976710656<Builtin.nextslicecap (sLen+m) sCap*i.bytes):=by omega
 cases xd with
 |int k=>exact absurd rfl (hxd k)
 |_=>
  simp[Builtin.append_,run_underlying ht,run_underlying hxt,sizeOf,typeInfo,zeroValue,hi,hz,hlen,hn,h63',h48',Question.forced,hfc,hfo,newRow,grownCap]
  congr 2
  apply Array.ext'
  simp[List.append_assoc]
set_option maxHeartbeats 4000000 in
theorem run_app_zero (w:World) {t xt ty e:TypeId} {i:TypeInfo} {xd:TypeDesc} (ht:P.underlying t=some (.slice e)) (hxt:P.underlying xt=some xd) (hxd:∀k,xd≠.int k) (hi:P.info? e=some i)
  {base:Option Addr} {sLen sCap:Nat} {x:Value} (hlen:(Builtin.lenOf x).run P w=.ok 0 w) (hfc:(Builtin.firstCells i.size 0 x).run P w=.ok #[] w) (hroom:sLen≤sCap):
  (Builtin.append_ #[t,xt] ty #[.slice base sLen sCap,x]).run P w=.ok (.slice base sLen sCap) w:=by
 cases xd with
 |int k=>exact absurd rfl (hxd k)
 |_=>
  cases base with
  |none=>simp[Builtin.append_,run_underlying ht,run_underlying hxt,sizeOf,typeInfo,hi,hlen,hroom,hfc]
  |some a=>simp[Builtin.append_,run_underlying ht,run_underlying hxt,sizeOf,typeInfo,hi,hlen,hroom,hfc,storeCells]
end Go.Am
end
section
namespace Go.Am
open Go.RowKit Go.Lib
variable {P:Program} {cx:Cx} {B:Base} {K:Nat→Prop} {g g':Gh} {R:Nat→Value} {s:St} {h h':Hp} {w w':World}
structure SrcOk (P:Program) (s:St) (B:Base) (g:Gh) (w:World) (sz:Nat) (x:AV) (vx:Value) (new:List AV) (us:List Up) (news:List Value):Prop where
 len:∀w',(Builtin.lenOf vx).run P w'=.ok new.length w'
 fst:∀w':World,(∀a,w'.cell? a=w.cell? a)→(Builtin.firstCells sz new.length vx).run P w'=.ok news.toArray w'
 fstm:∀m,m≤new.length→(Builtin.firstCells sz m vx).run P w=.ok (news.take (m*sz)).toArray w
 nl:news.length=new.length*sz
 one:∀u∈news,u.oneCell'=true
 csz:∀e∈new,(cells e).length=sz
 src:(us=[]∧∀i e j y,new[i]?=some e→(cells e)[j]?=some y→isNode y=false∧(∀q len,y≠.lk q len)∧∃u,news[i*sz+j]?=some u∧RF (mkF B g w) y u)∨
  (∃pl off len es,us=[gone pl]∧x=.rf sz pl off len∧look s true pl=some (.ow sz es)∧off+len≤es.length∧new=(es.drop off).take len∧∃b o cap,vx=.slice (some ⟨b,o,none⟩) len cap∧∀t u,news[t]?=some u→w.cell? ⟨b,o+t,none⟩=some u)
theorem cells_row {b:Nat}:∀{n o:Nat},(∀t,t<n→∃u,w.cell? ⟨b,o+t,none⟩=some u∧one u=true)→∃us:List Value,us.length=n∧(∀t u,us[t]?=some u→w.cell? ⟨b,o+t,none⟩=some u)∧∀u∈us,u.oneCell'=true
 |0,o,_=>⟨[],rfl,fun t u h=>by simp at h,fun u hu=>by cases hu⟩
 |n+1,o,h=>by
  obtain⟨u,hu,ho⟩:=h 0 (by omega)
  obtain⟨us,h1,h2,h3⟩:=cells_row (n:=n) (o:=o+1) fun t ht=>by
   have:=h (t+1) (by omega)
   rwa [show o+(t+1)=o+1+t by omega]at this
  refine⟨u::us,by simp[h1],fun t x hx=>?_,fun x hx=>?_⟩
  ·cases t with
   |zero=>simp at hx;subst hx;exact hu
   |succ t=>rw[show o+(t+1)=o+1+t by omega];exact h2 t x (by simpa using hx)
  ·rcases List.mem_cons.1 hx with rfl|hx
   ·cases x<;>first|rfl|cases ho
   ·exact h3 x hx
theorem getP_step {pl:Pl} {i j:Nat} {c y:AV} (h1:getP h pl=some c) (h2:step1 c (i,j)=some y):getP h (pl.cell i j)=some y:=by
 obtain⟨a,ha,hp⟩:=getP_some h1
 unfold getP
 rw[show(pl.cell i j).r=pl.r from rfl,ha]
 simp only[Option.bind_some,Pl.cell]
 rw[getT_snoc,hp];exact h2
theorem row_split {t n sz:Nat} (h:t<n*sz):t / sz<n∧t % sz<sz∧t / sz*sz+t % sz=t:=by
 have hs:0<sz:=by rcases Nat.eq_zero_or_pos sz with e|e;(rw[e]at h;simp at h);exact e
 refine⟨(Nat.div_lt_iff_lt_mul hs).2 h,Nat.mod_lt _ hs,?_⟩
 have:=Nat.div_add_mod t sz
 rw[Nat.mul_comm]at this;exact this
theorem plain_leaf {F:Fz} {ob:Nat→Option Obj} {G:Gh} {c:AV} {gn:Option Nd} {u:Value} (h:LF F ob G c gn u) (hp:plainCell c=true):RF F c u:=by
 cases c<;>first|exact h.2|cases hp
theorem fst_some {b:Addr} {n cap sz:Nat} {cs:List Value} (hl:cs.length=n*sz) (hc:∀j v,cs[j]?=some v→w.cell? (b.add j)=some v) {m:Nat} (hm:m≤n):
  (Builtin.firstCells sz m (.slice (some b) n cap)).run P w=.ok (cs.take (m*sz)).toArray w:=by
 have:m*sz≤n*sz:=Nat.mul_le_mul_right _ hm
 have e1:(Builtin.firstCells sz m (.slice (some b) n cap)).run P w=(Builtin.firstCells sz m (.slice (some b) m cap)).run P w:=rfl
 rw[e1]
 refine run_firstCells_some w sz m b m cap _ (by rw[List.length_take,hl];omega) fun j v hj=>?_
 rw[List.getElem?_take]at hj
 split at hj
 ·exact hc j v hj
 ·cases hj
theorem fst_str {s:ByteArray} {m:Nat} (hm:m≤s.size):(Builtin.firstCells 1 m (.string s)).run P w=.ok ((strCells s).take (m*1)).toArray w:=by
 simp only[Builtin.firstCells,strCells]
 show Result.ok _ w=_
 congr 1
 apply Array.ext'
 simp
theorem elems_ok (H:RM B (Kd s.d) g R s.h w) {sz:Nat} {x:AV} {vx:Value} {new:List AV} {rs:List Rd} {us:List Up} (hx:XD (mkF B g w) g s.d x vx) (he:elems s sz x=some (new,rs,us)):
  ∃news,SrcOk P s B g w sz x vx new us news:=by
 cases x with
 |fz lab sz' es=>
  simp only[elems,oops]at he
  split at he
  ·rename_i hs
   simp only[Option.some.injEq,Prod.mk.injEq]at he
   obtain⟨rfl,rfl,rfl⟩:=he
   rcases X_fz hx with⟨rfl,rfl,rfl⟩|⟨h1,b,o,cap,sp,rfl,h2,h3,h4⟩
   ·exact⟨[],fun w'=>rfl,(fun w' _=>by simp[Builtin.firstCells]),(fun m _=>by simp[Builtin.firstCells]),by simp,(fun u hu=>by cases hu),(fun e he=>by cases he),.inl ⟨rfl,fun i e j y hi=>by simp at hi⟩⟩
   ·by_cases hes:es=[]
    ·subst hes
     refine⟨[],fun w'=>rfl,fun w' _=>?_,fun m hm=>fst_some (n:=0) (by simp) (fun j v hj=>by simp at hj) hm,by simp,(fun u hu=>by cases hu),(fun e he=>by cases he),.inl ⟨rfl,fun i e j y hi=>by simp at hi⟩⟩
     exact run_firstCells_some w' sz 0 _ 0 cap [] (by simp) (fun j v hj=>by simp at hj)
    ·have hsz:sz'=sz:=hs.resolve_right hes
     subst hsz
     obtain rfl:sp=none:=h4.resolve_right (by have:=List.length_pos_iff.2 hes;omega)
     have hc:∀t,t<es.length*sz'→∃u,w.cell? ⟨b,o+t,none⟩=some u∧one u=true:=by
      intro t ht
      obtain⟨a1,a2,a3⟩:=row_split ht
      obtain⟨c1,c2⟩:=h3.get (List.getElem?_eq_getElem a1)
      have hj:t % sz'<(cells es[t / sz']).length:=by omega
      obtain⟨u,d1,_,d3⟩:=c2.get (List.getElem?_eq_getElem hj)
      exact⟨u,by rw[←a3,←Nat.add_assoc];exact d1,d3.one⟩
     obtain⟨us,u1,u2,u3⟩:=cells_row hc
     refine⟨us,fun w'=>rfl,fun w' hw=>?_,fun m hm=>fst_some u1 (fun j v hj=>by rw[addr_add];exact u2 j v hj) hm,u1,u3,fun e he=>?_,.inl ⟨rfl,fun i e j y hi hj=>?_⟩⟩
     ·exact run_firstCells_some w' sz' es.length _ es.length cap us u1 (fun j v hj=>by rw[addr_add,hw];exact u2 j v hj)
     ·obtain⟨i,hi⟩:=List.mem_iff_getElem?.1 he
      exact(h3.get hi).1
     ·obtain⟨c1,c2⟩:=h3.get hi
      obtain⟨u,d1,_,d3⟩:=c2.get hj
      obtain⟨s1,s2,_⟩:=RF_shape d3
      refine⟨s1,s2,u,?_,d3⟩
      have hjl:j<sz':=by have:=(List.getElem?_eq_some_iff.1 hj).1;omega
      have hlt:=row_lt (List.getElem?_eq_some_iff.1 hi).1 hjl
      have hlt':i*sz'+j<us.length:=by omega
      have:=u2 (i*sz'+j) _ (List.getElem?_eq_getElem hlt')
      rw[←Nat.add_assoc]at this
      have hd1:w.cell? ⟨b,o+i*sz'+j,none⟩=some u:=d1
      rw[hd1]at this
      rw[List.getElem?_eq_getElem hlt',←this]
  ·cases he
 |str b=>
  simp only[elems]at he
  split at he
  ·rename_i hs
   simp only[Option.some.injEq,Prod.mk.injEq]at he
   obtain⟨rfl,rfl,rfl⟩:=he
   subst hs
   obtain rfl:=X_str hx
   have hl:(strB b).length=b.size:=by simp[strB]
   refine⟨strCells b,fun w'=>by rw[hl];rfl,fun w' _=>by rw[hl];exact run_firstCells_string w' 1 b,fun m hm=>fst_str (by rw[hl]at hm;exact hm),by rw[hl];simp[strCells],fun u hu=>?_,fun e he=>?_,.inl ⟨rfl,fun i e j y hi hj=>?_⟩⟩
   ·simp only[strCells,List.mem_map]at hu
    obtain⟨c,_,rfl⟩:=hu;rfl
   ·simp only[strB,List.mem_map]at he
    obtain⟨c,_,rfl⟩:=he;rfl
   ·simp only[strB,List.getElem?_map]at hi
    cases hb:b.data.toList[i]? with
    |none=>rw[hb]at hi;cases hi
    |some c=>
     rw[hb]at hi
     simp at hi
     subst hi
     cases j with
     |succ j=>simp[cells]at hj
     |zero=>
      simp[cells]at hj
      subst hj
      refine⟨rfl,(fun q len e=>by cases e),.int .u8 c.toNat,?_,.int _ _⟩
      simp only[strCells,List.getElem?_map,Nat.mul_one,Nat.add_zero]
      rw[hb];rfl
  ·cases he
 |rf sz' pl off len=>
  simp only[elems,oops]at he
  cases hl:look s true pl with
  |none=>simp[hl]at he
  |some c=>
   simp only[hl]at he
   cases c with
   |ow sz'' es=>
    simp only at he
    split at he
    ·rename_i hc
     obtain⟨rfl,rfl,hle⟩:=hc
     obtain⟨cap,k,n,f1,f2,f3,f4,f5,f6,rfl⟩:=X_rf hx (okD_of_look hl)
     subst f3
     obtain⟨u0,hu0⟩:=node_at H (look_some hl).2
     obtain⟨n',e1,e2,e3,e4,e5,e6⟩:=hu0
     rw[f1]at e1;cases e1
     have hnl:((es.drop off).take len).length=len:=by simp;omega
     have hk:len=0∨k=off:=by rcases f6 with h|h;(left;omega);exact .inr h
     have cell:∀i j y,i<len→((es.drop off).take len)[i]?=some y→j<(cells y).length→∃u,w.cell? ⟨n.b,n.o+k*n.sz+(i*n.sz+j),none⟩=some u∧one u=true∧∀z,(cells y)[j]?=some z→plainCell z=true→RF (mkF B g w) z u:=by
      intro i j y hi hy hj
      have hk':k=off:=hk.resolve_left (by omega)
      rw[List.getElem?_take,if_pos hi,List.getElem?_drop]at hy
      have hst:step1 (.ow n.sz es) (off+i,j)=some (cells y)[j]:=by
       simp only[step1,hy,Option.bind_some];exact List.getElem?_eq_getElem hj
      have hgp:getP s.h (pl.cell (off+i) j)=some (cells y)[j]:=getP_step (look_some hl).2 hst
      obtain⟨m,u,m1,m2,m3,m4,m5,m6⟩:=cell_at H hgp
      rw[f1]at m1;cases m1
      refine⟨u,?_,m6.one,fun z hz hp=>?_⟩
      ·rw[hk',←m5,Nat.add_mul];congr 2;omega
      ·rw[List.getElem?_eq_getElem hj]at hz;cases hz
       exact plain_leaf m6 hp
     have csz:∀e∈(es.drop off).take len,(cells e).length=n.sz:=fun e he=>by
      rw[e6 e (List.mem_of_mem_drop (List.mem_of_mem_take he)),←e3]
     have hcs:∀t,t<len*n.sz→∃u,w.cell? ⟨n.b,n.o+k*n.sz+t,none⟩=some u∧one u=true:=by
      intro t ht
      obtain⟨a1,a2,a3⟩:=row_split ht
      have hi:t / n.sz<((es.drop off).take len).length:=by omega
      have:=csz _ (List.getElem_mem hi)
      obtain⟨u,d1,d2,_⟩:=cell (t / n.sz) (t % n.sz) _ a1 (List.getElem?_eq_getElem hi) (by omega)
      rw[a3]at d1;exact⟨u,d1,d2⟩
     obtain⟨vs,v1,v2,v3⟩:=cells_row hcs
     have base:∀us,((us=[]∧∀i e j y,((es.drop off).take len)[i]?=some e→(cells e)[j]?=some y→isNode y=false∧(∀q len,y≠.lk q len)∧∃u,vs[i*n.sz+j]?=some u∧RF (mkF B g w) y u)∨us=[gone pl])→
       ∃news,SrcOk P s B g w n.sz (.rf n.sz pl off len) (.slice (some ⟨n.b,n.o+k*n.sz,none⟩) len cap) ((es.drop off).take len) us news:=by
      intro us hus
      refine⟨vs,fun w'=>by rw[hnl];rfl,fun w' hw=>?_,fun m hm=>fst_some v1 (fun j v hj=>by rw[addr_add];exact v2 j v hj) (by rw[hnl]at hm;exact hm),by rw[hnl];exact v1,v3,csz,?_⟩
      ·rw[hnl]
       exact run_firstCells_some w' n.sz len _ len cap vs v1 (fun j v hj=>by rw[addr_add,hw];exact v2 j v hj)
      ·rcases hus with h|h
       ·exact .inl h
       ·exact .inr ⟨pl,off,len,es,h,rfl,hl,hle,rfl,n.b,_,cap,rfl,v2⟩
     split at he
     ·rename_i hp
      simp only[Option.some.injEq,Prod.mk.injEq]at he
      obtain⟨rfl,rfl,rfl⟩:=he
      refine base [] (.inl ⟨rfl,fun i e j y hi hj=>?_⟩)
      have hpe:=List.all_eq_true.1 hp e (List.mem_of_getElem? hi)
      have hpc:=List.all_eq_true.1 hpe y (List.mem_of_getElem? hj)
      have hil:i<len:=by have:=(List.getElem?_eq_some_iff.1 hi).1;omega
      have hjl:=(List.getElem?_eq_some_iff.1 hj).1
      obtain⟨u,d1,_,d3⟩:=cell i j e hil hi hjl
      have hrf:=d3 y hj hpc
      obtain⟨s1,s2,_⟩:=RF_shape hrf
      refine⟨s1,s2,u,?_,hrf⟩
      have hes:=csz e (List.mem_of_getElem? hi)
      have hlt:=row_lt hil (show j<n.sz by omega)
      have hlt':i*n.sz+j<vs.length:=by omega
      have:=v2 _ _ (List.getElem?_eq_getElem hlt')
      rw[d1]at this
      rw[List.getElem?_eq_getElem hlt',←this]
     ·simp only[Option.some.injEq,Prod.mk.injEq]at he
      obtain⟨rfl,rfl,rfl⟩:=he
      exact base [gone pl] (.inr rfl)
    ·cases he
   |_=>simp at he
 |_=>simp[elems,oops]at he
end Go.Am
end
section
namespace Go.Am
open Go.RowKit Go.Lib
variable {P:Program} {cx:Cx} {B:Base} {K:Nat→Prop} {g g':Gh} {R:Nat→Value} {s:St} {h h':Hp} {w w':World}
theorem spare_row {r sz:Nat} {es:List AV} {n:Nd} (ha:hget h r=some (.ow sz es)) (hn:g r []=some n) (hnw:n.whole=false):∀{news:List Value} {t:Nat} {w:World},RM B K g R h w→es.length*n.sz≤t→t+news.length≤n.sz*n.cap→
  RM B K g R h (w.setCells n.b (n.o+t) news)∧(∀b o,¬(b=n.b∧n.o+t≤o∧o<n.o+t+news.length)→(w.setCells n.b (n.o+t) news).cell? ⟨b,o,none⟩=w.cell? ⟨b,o,none⟩)∧
  (∀j u,news[j]?=some u→(w.setCells n.b (n.o+t) news).cell? ⟨n.b,n.o+t+j,none⟩=some u)
 |[],t,w,H,_,_=>⟨H,fun _ _ _=>rfl,fun j u h=>by simp at h⟩
 |v::l,t,w,H,h1,h2=>by
  simp only[List.length_cons]at h2
  have H':=H.spare (u:=v) ha hn h1 (by omega)
  obtain⟨a1,a2,a3⟩:=spare_row ha hn hnw (news:=l) (t:=t+1) H' (by omega) (by omega)
  obtain⟨cs,el,fr,b1,b2,_⟩:=H.blk r [] n hn hnw
  have hsome:(w.cell? ⟨n.b,n.o+t,none⟩).isSome=true:=by
   unfold World.cell?
   simp only[b1]
   have:n.o+t<cs.size:=by omega
   simp[this]
  simp only[World.setCells]
  rw[show n.o+t+1=n.o+(t+1)by omega]
  refine⟨a1,fun b o hbo=>?_,fun j u hj=>?_⟩
  ·rw[a2 b o (by intro hx;exact hbo ⟨hx.1,by omega,by simp only[List.length_cons];omega⟩),cell_setCell,if_neg]
   rintro ⟨rfl,rfl,_⟩
   exact hbo ⟨rfl,by omega,by simp only[List.length_cons];omega⟩
  ·cases j with
   |zero=>
    simp at hj;subst hj
    rw[Nat.add_zero,a2 _ _ (by omega),cell_setCell,if_pos ⟨rfl,rfl,hsome⟩]
   |succ j=>
    have:=a3 j u (by simpa using hj)
    rw[show n.o+t+(j+1)=n.o+(t+1)+j by omega];exact this
def goneAt (q:Pl) (o:Option AV):Option AV:=if q.p=[]then none else o.map fun t=>setT t q.p .un
theorem hget_gone {q:Pl} {r:Nat}:hget (Up.app h (gone q)) r=if r=q.r then goneAt q (hget h r)else hget h r:=by
 unfold goneAt
 by_cases e:q.p=[]
 ·rw[app_gone_root e,hget_hdel,if_pos e]
 ·have:q.p.isEmpty=false:=by cases hh:q.p with|nil=>exact absurd hh e|cons _ _=>rfl
  simp only[gone,this,Bool.false_eq_true,if_false,Up.app,if_neg e]
  cases ha:hget h q.r with
  |none=>
   by_cases e2:r=q.r
   ·subst e2;rw[if_pos rfl];simp[ha]
   ·rw[if_neg e2]
  |some a=>
   rw[hget_hins]
   by_cases e2:r=q.r
   ·subst e2;rw[if_pos rfl,if_pos rfl,ha];rfl
   ·rw[if_neg e2,if_neg e2]
theorem src_out {g1:Gh} {R1:Nat→Value} {h1:Hp} {sz:Nat} {vx:Value} {pl:Pl} {off len:Nat} {es:List AV} (H1:RM B K g1 R1 h1 w) (hx:XD (mkF B g w) g s.d (.rf sz pl off len) vx) (hl:look s true pl=some (.ow sz es)) (hle:off+len≤es.length)
  (hkeep:∀k,g pl.r pl.p=some k→g1 pl.r pl.p=some k) (hget1:getP h1 pl=some (.ow sz es)) {N:Nat} (hN:hget h1 N=none) (hKN:¬K N):
  ∃g2 R2,RM B K g2 R2 (hins (Up.app h1 (gone pl)) N (.ow sz ((es.drop off).take len))) w∧R2 N=vx∧hget (Up.app h1 (gone pl)) N=none∧(∀b o,owned g2 b o→owned g1 b o)∧
   (∀q k,q.r≠N→pl.pre q=false→g1 q.r q.p=some k→g2 q.r q.p=some k):=by
 obtain⟨cap,k,n,f1,f2,f3,f4,f5,f6,rfl⟩:=X_rf hx (okD_of_look hl)
 have hab:absorb1 {s with alias:=false} (.rf sz pl off len)=some (.ow sz ((es.drop off).take len),[⟨pl,true⟩],[gone pl]):=by
  have hl':look {s with alias:=false} true pl=some (.ow sz es):=hl
  simp only[absorb1,Bool.false_eq_true,if_false,hl']
  rw[if_pos ⟨trivial,hle⟩]
 have hX:XD (mkF B g1 w) g1 s.d (.rf sz pl off len) (.slice (some ⟨n.b,n.o+k*n.sz,none⟩) len cap):=by
  refine cellX ?_ rfl rfl
  rw[fadeC_ok fun q hq=>by cases hq;exact okD_of_look hl,←f3]
  exact .rf pl off len cap k n (hkeep n f1) f2 f4 f5 f6
 obtain⟨src,g2,R2,e1,r1,r2,r3,r4,r5,r6⟩:=H1.takeOut (s:={s with alias:=false}) rfl hab hX (fun q c hlq hu=>by
  have:q=pl:=by
   have h1:=congrArg Up.pl hu
   rw[gone_pl,gone_pl]at h1;exact h1.symm
  subst this
  have hl':look {s with alias:=false} true q=some (.ow sz es):=hl
  rw[hl']at hlq;cases hlq;exact hget1) hN hKN
 have hsrc:src=pl:=by
  have h1:=congrArg Up.pl e1
  rw[gone_pl,gone_pl]at h1;exact h1.symm
 subst hsrc
 exact⟨g2,R2,r1,r2,r3,r5,r6⟩
theorem row_root (H:RM B K g R h w) {d sz:Nat} {es:List AV} {b o:Nat} {len cap:Nat} (hd:hget h d=some (.ow sz es)) (hv:R d=.slice (some ⟨b,o,none⟩) len cap):
  ∃n,g d []=some n∧n.whole=false∧n.sz=sz∧es.length=len∧n.b=b∧n.o=o∧n.cap=cap∧es.length≤n.cap∧∀e∈es,(cells e).length=sz:=by
 obtain⟨n,e1,e2,e3,e4,e5,e6⟩:=(H.tree d _ hd).root
 rw[hv]at e5
 simp only[Value.slice.injEq,Option.some.injEq,Addr.mk.injEq,and_true]at e5
 obtain⟨⟨rfl,rfl⟩,rfl,rfl⟩:=e5
 exact⟨n,e1,e2,e3,rfl,rfl,rfl,rfl,e4,e6⟩
theorem fin_plain (H:RM B K g R h w) {d sz:Nat} {old new:List AV} {n:Nd} {news:List Value} (hd:hget h d=some (.ow sz old)) (hn:g d []=some n) (hnsz:n.sz=sz) (hcap:old.length+new.length≤n.cap) (hcsz:∀e∈new,(cells e).length=sz)
  (hcells:∀t u,news[t]?=some u→w.cell? ⟨n.b,n.o+old.length*n.sz+t,none⟩=some u)
  (hsrc:∀i e j y,new[i]?=some e→(cells e)[j]?=some y→isNode y=false∧(∀q len,y≠.lk q len)∧∃u,news[i*sz+j]?=some u∧RF (mkF B g w) y u):
  RM B K g (setR R d (.slice (some ⟨n.b,n.o,none⟩) (old.length+new.length) n.cap)) (hins h d (.ow sz (old++new))) w:=
 H.extend hd hn hcap hcsz fun i e j x hi hj=>by
  obtain⟨a1,a2,u,a3,a4⟩:=hsrc i e j x hi hj
  refine⟨a1,a2,u,?_,a4⟩
  rw[←hcells _ u a3,hnsz]
  congr 2
  rw[Nat.add_mul];omega
theorem fin_join (H:RM B K g R h w) {d N sz:Nat} {old new:List AV} {n m:Nd} {news:List Value} (hdN:d≠N) (hd:hget h d=some (.ow sz old)) (hN:hget h N=some (.ow sz new)) (hn:g d []=some n) (hm:g N []=some m) (hKN:¬K N) (hnsz:n.sz=sz) (hmsz:m.sz=sz)
  (hcap:old.length+new.length≤n.cap) (hcsz:∀e∈new,(cells e).length=sz) (hnl:news.length=new.length*sz)
  (hcells:∀t u,news[t]?=some u→w.cell? ⟨n.b,n.o+old.length*n.sz+t,none⟩=some u) (hsrc:∀t u,news[t]?=some u→w.cell? ⟨m.b,m.o+t,none⟩=some u):
  RM B K (joinG g d N old.length) (setR R d (.slice (some ⟨n.b,n.o,none⟩) (old.length+new.length) n.cap)) (hdel (hins h d (.ow sz (old++new))) N) w∧(∀b o,owned (joinG g d N old.length) b o→owned g b o):=
 H.joinRow hdN hd hN hn hm hKN hcap fun i j x hx=>by
  simp only[step1]at hx
  cases he:new[i]? with
  |none=>simp[he]at hx
  |some e=>
   simp only[he,Option.bind_some]at hx
   have hj:j<sz:=by
    have:=(List.getElem?_eq_some_iff.1 hx).1
    rw[hcsz e (List.mem_of_getElem? he)]at this;exact this
   have hlt:=row_lt (List.getElem?_eq_some_iff.1 he).1 hj
   have hlt':i*sz+j<news.length:=by omega
   have e1:=hcells _ _ (List.getElem?_eq_getElem hlt')
   have e2:=hsrc _ _ (List.getElem?_eq_getElem hlt')
   rw[hmsz,show m.o+i*sz+j=m.o+(i*sz+j)by omega,e2,←e1,hnsz,Nat.add_mul]
   congr 2;omega
end Go.Am
end
section
namespace Go.Am
open Go.RowKit Go.Lib
variable {P:Program} {cx:Cx} {B:Base} {K:Nat→Prop} {g g':Gh} {R:Nat→Value} {s:St} {h h':Hp} {w w':World}
theorem le_cells {n:Nd} {t m:Nat} {news:List Value} {r:Nat} {p:List (Nat×Nat)} (hn:g r p=some n) (hm:t+m≤n.sz*n.cap)
  (hsame:∀b o,¬(b=n.b∧n.o+t≤o∧o<n.o+t+m)→w'.cell? ⟨b,o,none⟩=w.cell? ⟨b,o,none⟩):(mkF B g w).le (mkF B g w'):=by
 refine le_of (fun b o v hv hno=>?_) fun b o v _ hx=>hx
 rw[hsame b o];exact hv
 rintro ⟨rfl,h1,h2⟩
 exact hno ⟨r,p,n,hn,rfl,.inr ⟨by omega,by omega⟩⟩
theorem pre_other {a b:Pl} (h:a.r≠b.r):a.pre b=false:=by
 simp only[Pl.pre,Bool.and_eq_false_iff];exact .inl (nbF h)
structure Grown (B:Base) (s:St) (g:Gh) (w:World) (d sz:Nat) (us:List Up) (es:List AV) (v:Value) (w':World):Prop where
 ex:∃g' R',RM B (Kd s.d) g' R' (Up.apps (us++[.new d (.ow sz es)]) s.h) w'∧(mkF B g w).le (mkF B g' w')∧(∀q k,q.r≠d→(∀u∈us,u.pl.pre q=false)→g q.r q.p=some k→g' q.r q.p=some k)∧
  ∃n,g' d []=some n∧n.whole=false∧n.sz=sz∧v=.slice (some ⟨n.b,n.o,none⟩) es.length n.cap∧es.length≤n.cap
theorem app_room (H:RM B (Kd s.d) g R s.h w) {d sz off len:Nat} {pl:Pl} {es new:List AV} {news:List Value} {us:List Up} {x:AV} {va vx:Value} (ha:XD (mkF B g w) g s.d (.rf sz pl off len) va) (hx:XD (mkF B g w) g s.d x vx)
  (hS:SrcOk P s B g w sz x vx new us news) (hl:look s true pl=some (.ow sz es)) (hle:off+len≤es.length) (hd:hget s.h d=none) (hKd:¬Kd s.d d) (hap:apartUps (gone pl::us)=true)
  {b o cap:Nat} (hva:va=.slice (some ⟨b,o,none⟩) len cap) (hroom:len+new.length≤cap):
  (∀j,j<news.length→(w.cell? ⟨b,o+len*sz+j,none⟩).isSome=true∧w.frozen? ⟨b,o+len*sz+j,none⟩=false)∧
  Grown B s g w d sz (gone pl::us) ((es.drop off).take len++new) (.slice (some ⟨b,o,none⟩) (len+new.length) cap) (w.setCells b (o+len*sz) news):=by
 have hgp:=(look_some hl).2
 have hpd:pl.r≠d:=by obtain⟨a,ha,_⟩:=getP_some hgp;rintro e;rw[e,hd]at ha;cases ha
 obtain⟨g1,R1,r1,r2,r3,own1,keep1⟩:=src_out (N:=d) H ha hl hle (fun k hk=>hk) hgp hd hKd
 have hd1:hget (hins (Up.app s.h (gone pl)) d (.ow sz ((es.drop off).take len))) d=some (.ow sz ((es.drop off).take len)):=by rw[hget_hins,if_pos rfl]
 obtain⟨n,n1,n2,n3,n4,rfl,rfl,rfl,n5,n6⟩:=row_root r1 hd1 (r2.trans hva)
 have hfit:len*sz+news.length≤n.sz*n.cap:=by
  rw[hS.nl,n3,←Nat.add_mul,Nat.mul_comm];exact Nat.mul_le_mul_left _ hroom
 refine⟨fun j hj=>?_,?_⟩
 ·obtain⟨cs,el,fr,b1,b2,b3⟩:=r1.blk d [] n n1 n2
  refine⟨?_,b3 _ ⟨rfl,.inr ⟨by omega,by omega⟩⟩⟩
  unfold World.cell?
  simp only[b1]
  have:n.o+len*sz+j<cs.size:=by omega
  simp[this]
 rcases hS.src with⟨rfl,hpl⟩|⟨plx,offx,lenx,esx,rfl,rfl,hlx,hlex,hnew,bx,ox,capx,hvx,hcx⟩
 ·obtain⟨a1,a2,a3⟩:=spare_row hd1 n1 n2 (news:=news) (t:=len*sz) r1 (by rw[n4,n3];exact Nat.le_refl _) hfit
  have hle2:(mkF B g w).le (mkF B g1 (w.setCells n.b (n.o+len*sz) news)):=le_trans' (le_sub own1) (le_cells (news:=news) n1 hfit a2)
  have hfin:=fin_plain (new:=new) (news:=news) a1 hd1 n1 n3 (by omega) hS.csz (by rw[n4,n3];exact a3) (fun i e j y hi hj=>by
   obtain⟨b1,b2,u,b3,b4⟩:=hpl i e j y hi hj
   exact⟨b1,b2,u,b3,b4.mono hle2⟩)
  refine⟨g1,_,hfin.congr fun q=>?_,hle2,fun q k hq hu hk=>keep1 q k hq (by have:=hu (gone pl) (by simp);rw[gone_pl]at this;exact this) hk,n,n1,n2,n3,by simp only[List.length_append];rw[n4],by simp only[List.length_append];omega⟩
  simp only[List.cons_append,List.nil_append,Up.apps,Up.app]
  rw[hget_hins,hget_hins,hget_hins]
  by_cases e:q=d<;>simp[e]
 ·have hgx:=(look_some hlx).2
  have hxd:plx.r≠d:=by obtain⟨a,ha,_⟩:=getP_some hgx;rintro e;rw[e,hd]at ha;cases ha
  have hapx:pl.apart plx:=by have:=(apartUps_cons hap).1 (gone plx) (by simp);rw[gone_pl,gone_pl]at this;exact this
  obtain⟨N,hN,hKN⟩:=free_no (hins (Up.app s.h (gone pl)) d (.ow sz ((es.drop off).take len))) s.d
  obtain⟨g2,R2,s1,s2,s3,own2,keep2⟩:=src_out (N:=N) r1 hx hlx hlex (fun k hk=>keep1 plx k hxd hapx.1 hk) (by rw[getP_hins_ne hxd,getP_gone hgp hapx];exact hgx) hN hKN
  have hdN:d≠N:=by rintro rfl;rw[hd1]at hN;cases hN
  rw[←hnew]at s1
  have hd2:hget (hins (Up.app (hins (Up.app s.h (gone pl)) d (.ow sz ((es.drop off).take len))) (gone plx)) N (.ow sz new)) d=some (.ow sz ((es.drop off).take len)):=by
   rw[hget_hins,if_neg hdN,hget_gone,if_neg (fun e=>hxd e.symm),hd1]
  have hN2:hget (hins (Up.app (hins (Up.app s.h (gone pl)) d (.ow sz ((es.drop off).take len))) (gone plx)) N (.ow sz new)) N=some (.ow sz new):=by rw[hget_hins,if_pos rfl]
  have n1':g2 d []=some n:=keep2 ⟨d,[]⟩ n hdN (pre_other hxd) n1
  obtain⟨m,m1,m2,m3,m4,m5,m6,m7,m8,m9⟩:=row_root s1 hN2 (s2.trans hvx)
  obtain⟨a1,a2,a3⟩:=spare_row hd2 n1' n2 (news:=news) (t:=len*sz) s1 (by rw[n4,n3];exact Nat.le_refl _) hfit
  have hle2:(mkF B g w).le (mkF B g2 (w.setCells n.b (n.o+len*sz) news)):=le_trans' (le_trans' (le_sub own1) (le_sub own2)) (le_cells (news:=news) n1' hfit a2)
  obtain⟨hfin,hown⟩:=fin_join (new:=new) (news:=news) a1 hdN hd2 hN2 n1' m1 hKN n3 m3 (by omega) hS.csz hS.nl (by rw[n4,n3];exact a3) (fun t u ht=>by
   rw[a2,m5,m6]
   ·exact hcx t u ht
   ·rintro ⟨e1,e2,e3⟩
    have ht':=(List.getElem?_eq_some_iff.1 ht).1
    have hmc:news.length≤m.sz*m.cap:=by rw[hS.nl,m3,Nat.mul_comm];exact Nat.mul_le_mul_left _ m8
    refine s1.disj d [] n N [] m n1' m1 (by intro e;cases e;exact hdN rfl) m.b (m.o+t) ⟨e1.symm,.inr ⟨by omega,by omega⟩⟩ ⟨rfl,.inr ⟨by omega,by omega⟩⟩)
  refine⟨_,_,hfin.congr fun q=>?_,le_trans' hle2 (le_sub hown),fun q k hq hu hk=>?_,n,by simp only[joinG,if_neg hdN,if_true];exact n1',n2,n3,by simp only[List.length_append];rw[n4],by simp only[List.length_append];omega⟩
  ·simp only[List.cons_append,List.nil_append,Up.apps]
   rw[show ∀X,Up.app X (.new d (.ow sz ((es.drop off).take len++new)))=hins X d (.ow sz ((es.drop off).take len++new))from fun _=>rfl]
   have hN':(if N=plx.r then goneAt plx (if N=pl.r then goneAt pl (hget s.h N)else hget s.h N)else if N=pl.r then goneAt pl (hget s.h N)else hget s.h N)=none:=by
    rw[hget_hins,if_neg (fun e=>hdN e.symm),hget_gone]at hN
    split
    ·rw[hN];unfold goneAt;split<;>rfl
    ·exact hN
   simp only[hget_hdel,hget_hins,hget_gone]
   by_cases e:q=d
   ·simp only[e,if_true,hdN,if_false]
   ·simp only[e,if_false]
    by_cases e2:q=N
    ·subst e2
     simp only[if_true];exact hN'
    ·simp only[e2,if_false]
  ·have hqN:q.r≠N:=by
    rintro e
    have hqp:pl.pre q=false:=by have:=hu (gone pl) (by simp);rw[gone_pl]at this;exact this
    have:=r1.void N hN q.p
    have hk1:=keep1 q k hq hqp hk
    rw[e]at hk1;rw[this]at hk1;cases hk1
   simp only[joinG,if_neg hqN,if_neg hq]
   refine keep2 q k hqN ?_ (keep1 q k hq ?_ hk)
   ·have:=hu (gone plx) (by simp);rw[gone_pl]at this;exact this
   ·have:=hu (gone pl) (by simp);rw[gone_pl]at this;exact this
end Go.Am
end
section
namespace Go.Am
open Go.RowKit Go.Lib
variable {P:Program} {cx:Cx} {B:Base} {K:Nat→Prop} {g g' g1 g2:Gh} {R R1 R2:Nat→Value} {s:St} {h h' h1 h2:Hp} {w w':World}
theorem alloc_new {cs:Array Value} {e:TypeId} {t:Nat}:(w.drew.alloc (.cells cs e)).cell? ⟨w.heap.size,t,none⟩=cs[t]?:=by
 unfold World.cell? World.alloc World.drew
 simp
theorem alloc_old {cs:Array Value} {e:TypeId} {b t:Nat} (hb:b<w.heap.size):(w.drew.alloc (.cells cs e)).cell? ⟨b,t,none⟩=w.cell? ⟨b,t,none⟩:=by
 unfold World.cell? World.alloc World.drew
 simp only[Array.getElem?_push,if_neg (show ¬b=w.heap.size by omega)]
theorem grow_row (H:RM B K g R h w) {d sz cap:Nat} {cs:Array Value} {e:TypeId} (hd:hget h d=none) (hKd:¬K d) (hsz:sz*cap≤cs.size):
  ∃R',RM B K (newG g d ⟨w.heap.size,0,sz,cap,false⟩) R' (hins h d (.ow sz [])) (w.drew.alloc (.cells cs e))∧(mkF B g w).le (mkF B (newG g d ⟨w.heap.size,0,sz,cap,false⟩) (w.drew.alloc (.cells cs e))):=by
 have hnew:=H.new (r:=d) (c:=.ow sz []) (cs:=cs) (el:=e) (sz:=sz) (cap:=cap) hd hKd hsz (v:=.slice (some ⟨w.heap.size,0,none⟩) 0 cap)
  ⟨_,rfl,rfl,rfl,Nat.zero_le _,rfl,fun e he=>by cases he⟩ rfl (by intro _ _ h;cases h) (fun i j x hx=>by simp[step1]at hx)
 exact⟨_,hnew.world rfl rfl rfl rfl,le_new H (o:=.cells cs e)⟩
structure DstOut (B:Base) (K:Nat→Prop) (s:St) (g:Gh) (w:World) (d sz:Nat) (us0:List Up) (No:Option Nat) (old:List AV) (olds:List Value) (g1:Gh) (R1:Nat→Value) (h1:Hp):Prop where
 rm:RM B K g1 R1 h1 w
 sub:∀b o,owned g1 b o→owned g b o
 heap:∀q,hget h1 q=if some q=No then some (.ow sz old)else hget (Up.apps us0 s.h) q
 noN:∀N,No=some N→hget s.h N=none∧hget (Up.apps us0 s.h) N=none∧¬K N∧N≠d∧∃m,g1 N []=some m∧m.sz=sz∧∀t u,olds[t]?=some u→w.cell? ⟨m.b,m.o+t,none⟩=some u
 nil:No=none→old=[]
 ol:olds.length=old.length*sz
 csz:∀e∈old,(cells e).length=sz
 keep:∀q k,some q.r≠No→(∀u∈us0,u.pl.pre q=false)→g q.r q.p=some k→g1 q.r q.p=some k
 dn:hget (Up.apps us0 s.h) d=none
 get:∀q c,some q.r≠No→(∀u∈us0,u.pl.apart q)→getP s.h q=some c→getP h1 q=some c
theorem grow_old (H:RM B K g R h w) {d sz cap:Nat} {No:Option Nat} {old:List AV} {olds:List Value} {cs:Array Value} {e:TypeId} (hd:hget h d=none) (hKd:¬K d) (hsz:sz*cap≤cs.size) (hcap:old.length≤cap)
  (hol:olds.length=old.length*sz) (hcsz:∀e∈old,(cells e).length=sz) (hcs:∀(t:Nat) u,olds[t]?=some u→cs[t]?=some u) (hnil:No=none→old=[])
  (hN:∀N,No=some N→hget h N=some (.ow sz old)∧¬K N∧N≠d∧∃m,g N []=some m∧m.sz=sz∧∀t u,olds[t]?=some u→w.cell? ⟨m.b,m.o+t,none⟩=some u):
  ∃g' R' h',RM B K g' R' h' (w.drew.alloc (.cells cs e))∧(mkF B g w).le (mkF B g' (w.drew.alloc (.cells cs e)))∧g' d []=some ⟨w.heap.size,0,sz,cap,false⟩∧
   (∀q,hget h' q=if q=d then some (.ow sz old)else if some q=No then none else hget h q)∧(∀r p k,r≠d→some r≠No→g r p=some k→g' r p=some k):=by
 obtain⟨R',a1,a2⟩:=grow_row (e:=e) H hd hKd hsz
 cases No with
 |none=>
  have:=hnil rfl
  subst this
  refine⟨_,R',_,a1,a2,by simp[newG],fun q=>?_,fun r p k hr _ hk=>?_⟩
  ·rw[hget_hins];simp
  ·simp only[newG,if_neg hr];exact hk
 |some N=>
  obtain⟨c1,c2,c3,m,c4,c5,c6⟩:=hN N rfl
  have hbm:m.b<w.heap.size:=by
   have tN:=(H.tree N _ c1).root
   obtain⟨m',e1,e2,_⟩:=tN
   rw[c4]at e1;cases e1
   obtain⟨cs',el,fr,b1,_⟩:=H.blk N [] m c4 e2
   exact(Array.getElem?_eq_some_iff.1 b1).1
  obtain⟨hj,hown⟩:=fin_join (d:=d) (N:=N) (sz:=sz) (old:=[]) (new:=old) (news:=olds) (n:=⟨w.heap.size,0,sz,cap,false⟩) (m:=m) a1 (fun e=>c3 e.symm) (by rw[hget_hins,if_pos rfl]) (by rw[hget_hins,if_neg c3];exact c1) (by simp[newG]) (by simp only[newG,if_neg c3];exact c4) c2 rfl c5
   (by simpa using hcap) hcsz hol (fun t u ht=>by
    simp only[List.length_nil,Nat.zero_mul,Nat.add_zero,Nat.zero_add]
    rw[alloc_new];exact hcs t u ht) (fun t u ht=>by rw[alloc_old hbm];exact c6 t u ht)
  refine⟨_,_,_,hj,le_trans' a2 (le_sub hown),?_,fun q=>?_,fun r p k hr hrN hk=>?_⟩
  ·simp only[joinG,if_neg (fun e=>c3 (Eq.symm e):¬d=N),if_true,newG]
  ·rw[hget_hdel,hget_hins,hget_hins]
   by_cases e1:q=d
   ·subst e1;rw[if_neg (fun e=>c3 e.symm),if_pos rfl,if_pos rfl,List.nil_append]
   ·rw[if_neg e1,if_neg e1,if_neg e1]
    by_cases e2:q=N
    ·subst e2;simp
    ·rw[if_neg e2,if_neg (by intro e;cases e;exact e2 rfl)]
  ·have hrN':r≠N:=fun e=>hrN (by rw[e])
   simp only[joinG,if_neg hrN',if_neg hr,newG];exact hk
theorem app_grow {d sz cap:Nat} {us0 us:List Up} {No:Option Nat} {old new:List AV} {olds news:List Value} {x:AV} {vx:Value} {cs:Array Value} {e:TypeId} (H:RM B (Kd s.d) g R s.h w) (D:DstOut B (Kd s.d) s g w d sz us0 No old olds g1 R1 h1) (hx:XD (mkF B g w) g s.d x vx)
  (hS:SrcOk P s B g w sz x vx new us news) (hd:hget s.h d=none) (hKd:¬Kd s.d d) (hap:∀u0∈us0,∀u∈us,u0.pl.apart u.pl) (hsz:sz*cap≤cs.size) (hcap:old.length+new.length≤cap)
  (hco:∀(t:Nat) u,olds[t]?=some u→cs[t]?=some u) (hcn:∀(t:Nat) u,news[t]?=some u→cs[old.length*sz+t]?=some u):
  Grown B s g w d sz (us0++us) (old++new) (.slice (some ⟨w.heap.size,0,none⟩) (old.length+new.length) cap) (w.drew.alloc (.cells cs e)):=by
 have hd1:hget h1 d=none:=by
  rw[D.heap]
  split
  ·rename_i hh
   exact absurd rfl (D.noN d hh.symm).2.2.2.1
  ·exact D.dn
 rcases hS.src with⟨rfl,hpl⟩|⟨plx,offx,lenx,esx,rfl,rfl,hlx,hlex,hnew,bx,ox,capx,hvx,hcx⟩
 ·obtain⟨g3,R3,h3,b1,b2,b3,b4,b5⟩:=grow_old (cap:=cap) (e:=e) D.rm hd1 hKd hsz (by omega) D.ol D.csz hco D.nil (fun N hN=>by
   obtain⟨_,e1,e2,e3,m,e4,e5,e6⟩:=D.noN N hN
   exact⟨by rw[D.heap,if_pos hN.symm],e2,e3,m,e4,e5,e6⟩)
  have hle:(mkF B g w).le (mkF B g3 (w.drew.alloc (.cells cs e))):=le_trans' (le_sub D.sub) b2
  have hfin:=fin_plain (new:=new) (news:=news) (n:=⟨w.heap.size,0,sz,cap,false⟩) b1 (by rw[b4,if_pos rfl]) b3 rfl hcap hS.csz (fun t u ht=>by
   rw[Nat.zero_add,alloc_new];exact hcn t u ht) (fun i e j y hi hj=>by
   obtain⟨c1,c2,u,c3,c4⟩:=hpl i e j y hi hj
   exact⟨c1,c2,u,c3,c4.mono hle⟩)
  refine⟨g3,_,hfin.congr fun q=>?_,hle,fun q k hq hu hk=>?_,_,b3,rfl,rfl,by simp only[List.length_append],by simp only[List.length_append];exact hcap⟩
  ·rw[List.append_nil,Up.apps_append]
   simp only[Up.apps,Up.app]
   rw[hget_hins,hget_hins,b4]
   by_cases e1:q=d
   ·rw[if_pos e1,if_pos e1]
   ·rw[if_neg e1,if_neg e1,if_neg e1]
    split
    ·rename_i hh;exact(D.noN q hh.symm).2.1
    ·rename_i hh;rw[D.heap,if_neg hh]
  ·have hqN:some q.r≠No:=by
    intro hh
    obtain⟨e1,_⟩:=D.noN q.r hh.symm
    rw[H.void _ e1]at hk;cases hk
   exact b5 _ _ _ hq hqN (D.keep q k hqN (fun u hu'=>hu u (by simpa using hu')) hk)
 ·have hgx:=(look_some hlx).2
  obtain⟨ax,hax,_⟩:=getP_some hgx
  have hxd:plx.r≠d:=by rintro e;rw[e,hd]at hax;cases hax
  have hxN:some plx.r≠No:=by
   intro hh
   rw[(D.noN _ hh.symm).1]at hax;cases hax
  have hapx:∀u∈us0,u.pl.apart plx:=fun u hu=>by have:=hap u hu (gone plx) (by simp);rw[gone_pl]at this;exact this
  obtain⟨N2,hN2',hKN2⟩:=free_no (hins h1 d .un) s.d
  rw[hget_hins]at hN2'
  have hN2d:N2≠d:=by rintro rfl;rw[if_pos rfl]at hN2';cases hN2'
  rw[if_neg hN2d]at hN2'
  have hN2o:some N2≠No:=by
   intro hh
   rw[D.heap,if_pos hh]at hN2';cases hN2'
  obtain⟨g2,R2,s1,s2,s3,own2,keep2⟩:=src_out (N:=N2) D.rm hx hlx hlex (fun k hk=>D.keep plx k hxN (fun u hu=>(hapx u hu).1) hk) (D.get plx _ hxN hapx hgx) hN2' hKN2
  rw[←hnew]at s1
  have hh2:∀q,hget (hins (Up.app h1 (gone plx)) N2 (.ow sz new)) q=if q=N2 then some (.ow sz new)else if q=plx.r then goneAt plx (hget h1 q)else hget h1 q:=fun q=>by rw[hget_hins,hget_gone]
  obtain⟨m2,m1,m2',m3,m4,m5,m6,m7,m8,m9⟩:=row_root (d:=N2) s1 (by rw[hget_hins,if_pos rfl]) (s2.trans hvx)
  obtain⟨g3,R3,h3,b1,b2,b3,b4,b5⟩:=grow_old (cap:=cap) (e:=e) (cs:=cs) s1 (d:=d) (by rw[hh2,if_neg (fun e=>hN2d e.symm),if_neg (fun e=>hxd e.symm)];exact hd1) hKd hsz (by omega) D.ol D.csz hco D.nil (fun N hN=>by
   obtain⟨e0,e1,e2,e3,m,e4,e5,e6⟩:=D.noN N hN
   have hNN2:N≠N2:=by rintro rfl;exact hN2o hN.symm
   have hNx:N≠plx.r:=by rintro rfl;exact hxN hN.symm
   exact⟨by rw[hh2,if_neg hNN2,if_neg hNx,D.heap,if_pos hN.symm],e2,e3,m,keep2 ⟨N,[]⟩ m hNN2 (pre_other fun e=>hNx e.symm) e4,e5,e6⟩)
  have hle:(mkF B g w).le (mkF B g3 (w.drew.alloc (.cells cs e))):=le_trans' (le_trans' (le_sub D.sub) (le_sub own2)) b2
  have hbm:m2.b<w.heap.size:=by
   obtain⟨cs',el,fr,c1,_⟩:=s1.blk N2 [] m2 m1 m2'
   exact(Array.getElem?_eq_some_iff.1 c1).1
  obtain⟨hfin,hown⟩:=fin_join (new:=new) (news:=news) (n:=⟨w.heap.size,0,sz,cap,false⟩) (m:=m2) b1 (d:=d) (N:=N2) (fun e=>hN2d e.symm) (by rw[b4,if_pos rfl]) (by rw[b4,if_neg hN2d,if_neg hN2o,hh2,if_pos rfl]) b3 (b5 _ _ _ hN2d hN2o m1) hKN2 rfl m3 hcap hS.csz hS.nl
   (fun t u ht=>by rw[Nat.zero_add,alloc_new];exact hcn t u ht) (fun t u ht=>by rw[alloc_old hbm,m5,m6];exact hcx t u ht)
  refine⟨_,_,hfin.congr fun q=>?_,le_trans' hle (le_sub hown),fun q k hq hu hk=>?_,_,by simp only[joinG,if_neg (fun e=>hN2d (Eq.symm e):¬d=N2),if_true];exact b3,rfl,rfl,by simp only[List.length_append],by simp only[List.length_append];exact hcap⟩
  ·rw[Up.apps_append,Up.apps_append]
   simp only[Up.apps]
   rw[show ∀X,Up.app X (.new d (.ow sz (old++new)))=hins X d (.ow sz (old++new))from fun _=>rfl]
   rw[hget_hins,hget_hdel,hget_hins,b4,hh2,hget_gone]
   by_cases e1:q=d
   ·rw[if_pos e1,if_pos e1,if_neg (fun e=>hN2d (e.symm.trans e1))]
   ·rw[if_neg e1,if_neg e1,if_neg e1]
    have base:∀{q},hget (Up.apps us0 s.h) q=none→(if q=plx.r then goneAt plx (hget (Up.apps us0 s.h) q)else hget (Up.apps us0 s.h) q)=none:=by
     intro q hq
     split
     ·rw[hq];unfold goneAt;split<;>rfl
     ·exact hq
    by_cases e2:q=N2
    ·rw[if_pos e2]
     refine base ?_
     rw[e2]
     rw[D.heap,if_neg hN2o]at hN2';exact hN2'
    ·rw[if_neg e2,if_neg e2]
     by_cases e3:some q=No
     ·rw[if_pos e3];exact base (D.noN q e3.symm).2.1
     ·rw[if_neg e3,D.heap,if_neg e3]
  ·have hqN:some q.r≠No:=by
    intro hh
    obtain⟨e1,_⟩:=D.noN q.r hh.symm
    rw[H.void _ e1]at hk;cases hk
   have hk1:=D.keep q k hqN (fun u hu'=>hu u (List.mem_append_left _ hu')) hk
   have hqN2:q.r≠N2:=by
    intro hh
    have:=D.rm.void N2 hN2' q.p
    rw[hh,this]at hk1;cases hk1
   simp only[joinG,if_neg hqN2,if_neg hq]
   refine b5 _ _ _ hq hqN (keep2 q k hqN2 ?_ hk1)
   have:=hu (gone plx) (by simp);rw[gone_pl]at this;exact this
end Go.Am
end
section
namespace Go.Am
open Go.RowKit Go.Lib
variable {P:Program} {cx:Cx} {B:Base} {K:Nat→Prop} {g g' g1 g2:Gh} {R R1 R2:Nat→Value} {s:St} {h h' h1 h2:Hp} {w w':World}
theorem Grown.lands {d sz:Nat} {us:List Up} {es:List AV} {v:Value} (H:RM B (Kd s.d) g R s.h w) (hd:hget s.h d=none) (hus:∀u∈us,∃q,u=gone q) (G:Grown B s g w d sz us es v w') {rd:List Rd} {n:Nat} (hn:n=es.length):
  ∃g' R',Lands B g s w {val:=.rf sz ⟨d,[]⟩ 0 n,rd:=rd,up:=us++[.new d (.ow sz es)]} v w' g' R':=by
 obtain⟨g',R',a1,a2,a3,m,m1,m2,m3,m4,m5⟩:=G.ex
 have hdn:dn (us++[.new d (.ow sz es)])=us:=by
  unfold dn
  rw[List.filter_append,show List.filter (fun u:Up=> !u.isNew) [.new d (.ow sz es)]=[]from rfl,List.append_nil]
  exact List.filter_eq_self.2 fun u hu=>by obtain⟨q,rfl⟩:=hus u hu;rw[gone_notNew];rfl
 refine⟨g',R',a1.weakK fun q hq=>Kd_app q hq,a2,fun pl k ho hk=>?_,?_⟩
 ·refine a3 pl k ?_ (fun u hu=>?_) hk
  ·rintro e;rw[e,H.void d hd]at hk;cases hk
  ·simp only[hdn]at ho
   have:=List.any_eq_false.1 (okD_split ho) u hu
   obtain⟨q,rfl⟩:=hus u hu
   rw[gone_pl];exact hits_gone (by simpa using this)
 ·subst hn
  exact rfXX (cap:=m.cap) m1 m2 m3 (by omega) m5 (by rw[m4];simp)
theorem src_gone {x:AV} {vx:Value} {new:List AV} {us:List Up} {news:List Value} {sz:Nat} (hS:SrcOk P s B g w sz x vx new us news):∀u∈us,∃q,u=gone q:=by
 rcases hS.src with⟨rfl,_⟩|⟨pl,_,_,_,rfl,_⟩
 ·intro u hu;cases hu
 ·intro u hu;simp at hu;exact⟨pl,hu⟩
theorem zeroCells_size (z:Array Value) (n:Nat):(Builtin.zeroCells z n).size=n*z.size:=by simp[Builtin.zeroCells]
theorem oApp1_ok (H:RM B (Kd s.d) g R s.h w) {ty xt e rty:TypeId} {info:TypeInfo} {z:Value} {xd:TypeDesc} (ht:P.underlying ty=some (.slice e)) (hxt:P.underlying xt=some xd) (hxd:∀k,xd≠.int k) (hi:P.info? e=some info) (hz:info.zero=some z) (hzs:z.cells.size=info.size)
  {d:Nat} {a x:AV} {va vx:Value} {new:List AV} {rs:List Rd} {us:List Up} {news:List Value} {ef:Eff} (ha:XD (mkF B g w) g s.d a va) (hx:XD (mkF B g w) g s.d x vx) (hS:SrcOk P s B g w info.size x vx new us news)
  (he:oApp1 s d info.size info.bytes a new rs us=some ef):Does P B g s w ef (Builtin.append_ #[ty,xt] rty #[va,vx]):=by
 cases new with
 |nil=>
  have hlen:=hS.len w
  have hfst:=hS.fst w (fun _=>rfl)
  have hn0:news=[]:=List.eq_nil_of_length_eq_zero (by rw[hS.nl];simp)
  subst hn0
  have go:∀base sLen sCap,va=.slice base sLen sCap→sLen≤sCap→(Builtin.append_ #[ty,xt] rty #[va,vx]).run P w=.ok va w:=by
   intro base sLen sCap hv hle
   rw[hv]
   exact run_app_zero w ht hxt hxd hi hlen hfst hle
  cases a with
  |fz lab sz' es=>
   simp only[oApp1]at he
   cases hu:us.isEmpty with
   |false=>rw[hu]at he;cases he
   |true=>
    rw[hu,cond_true,Option.some.injEq]at he;subst he
    refine Does.still H ?_ ha
    rcases X_fz ha with⟨_,_,hv⟩|⟨_,b,o,cap,sp,hv,h2,_⟩
    ·exact go _ _ _ hv (Nat.le_refl _)
    ·exact go _ _ _ hv h2
  |rf sz' pl off len=>
   simp only[oApp1]at he
   cases hu:(useOk s pl&&us.isEmpty)with
   |false=>rw[hu]at he;cases he
   |true=>
    rw[hu,cond_true,Option.some.injEq]at he;subst he
    simp only[Bool.and_eq_true]at hu
    obtain⟨cap,k,n,f1,f2,f3,f4,f5,f6,hv⟩:=X_rf ha (useOk_iff.1 hu.1)
    exact Does.still H (go _ _ _ hv f5) ha
  |_=>simp[oApp1]at he
 |cons e0 new=>
  have hn:(e0::new).length=new.length+1:=rfl
  generalize e0::new=nw at he hS hn
  have hcsz:∀need:Nat,∀olds:List Value,∀old:List AV,∀sCap,olds.length=old.length*info.size→need=old.length+nw.length→
    info.size*grownCap w need sCap e≤(olds.toArray++news.toArray++Builtin.zeroCells z.cells (grownCap w need sCap e - need)).size:=by
   intro need olds old sCap h1 h2
   have h3:=grownCap_ge w need sCap e
   simp only[Array.size_append,List.size_toArray,zeroCells_size,hzs,h1,hS.nl,←Nat.add_mul]
   rw[h2]at h3 ⊢
   rw[Nat.mul_comm]
   exact Nat.mul_le_mul_right _ (by omega)
  have hcs1:∀(olds:List Value) (zs:Array Value) (t:Nat) u,olds[t]?=some u→(olds.toArray++news.toArray++zs)[t]?=some u:=by
   intro olds zs t u h1
   have:=(List.getElem?_eq_some_iff.1 h1).1
   rw[Array.append_assoc,Array.getElem?_append_left (by simpa using this)];simpa using h1
  have hcs2:∀(olds:List Value) (zs:Array Value) (t:Nat) u,news[t]?=some u→(olds.toArray++news.toArray++zs)[olds.length+t]?=some u:=by
   intro olds zs t u h1
   have:=(List.getElem?_eq_some_iff.1 h1).1
   rw[Array.append_assoc,Array.getElem?_append_right (by simp)]
   simp only[List.size_toArray,Nat.add_sub_cancel_left]
   rw[Array.getElem?_append_left (by simpa using this)];simpa using h1
  cases a with
  |fz lab sz' es=>
   cases nw with
   |nil=>simp at hn
   |cons e1 nw=>
   simp only[oApp1,oops]at he
   cases hc:(Nat.beq lab 1&&es.isEmpty&&Nat.ble ((e1::nw).length*info.bytes) roomB&&Nat.ble (e1::nw).length roomB&&freshId s d&&apartUps us)with
   |false=>rw[hc]at he;cases he
   |true=>
    rw[hc,cond_true,Option.some.injEq]at he;subst he
    simp only[Bool.and_eq_true]at hc
    obtain⟨⟨⟨⟨⟨c1,c2⟩,c3⟩,c4⟩,c5⟩,c6⟩:=hc
    have hl1:lab=1:=by simpa using c1
    obtain⟨hd,hKd⟩:=freshId_iff c5
    have hva:va=.slice none 0 0:=by
     rcases X_fz ha with⟨_,_,hv⟩|⟨h1,_⟩
     ·exact hv
     ·exact absurd hl1 h1
    subst hva
    have c3':(e1::nw).length*info.bytes≤2 ^ 46:=by simpa[roomB]using Nat.le_of_ble_eq_true c3
    have c4':(e1::nw).length≤2 ^ 46:=by simpa[roomB]using Nat.le_of_ble_eq_true c4
    have hrun:=run_app_grow (P:=P) w (ty:=rty) (base:=none) (sLen:=0) (sCap:=0) (olds:=[]) (news:=news) ht hxt hxd hi hz (hS.len w) (by simp[Builtin.firstCells]) (hS.fst w.drew fun _=>rfl) (by simp) (by simp only[Nat.zero_add];omega)
     (growslice_fits (by simp) (by simp only[Nat.zero_add];omega))
    simp only[Nat.zero_add]at hrun
    have D:DstOut B (Kd s.d) s g w d info.size [] none [] [] g R s.h:=
     ⟨H,fun b o hb=>hb,(fun q=>by simp[Up.apps]),(fun N hN=>by cases hN),fun _=>rfl,by simp,(fun e he=>by cases he),fun q k _ _ hk=>hk,hd,fun q c _ _ hq=>hq⟩
    have G:=app_grow (e:=e) (cap:=grownCap w (e1::nw).length 0 e) H D hx hS hd hKd (fun u0 h0=>by cases h0) (hcsz (e1::nw).length [] [] 0 (by simp) (by simp)) (by simpa using grownCap_ge w (e1::nw).length 0 e) (fun t u ht=>by simp at ht)
     (fun t u ht=>by have:=hcs2 [] (Builtin.zeroCells z.cells (grownCap w (e1::nw).length 0 e - (e1::nw).length)) t u ht;simpa using this)
    simp only[List.nil_append,List.length_nil,Nat.zero_add]at G
    obtain⟨g',R',L⟩:=G.lands H hd (src_gone hS) (rd:=rs) (n:=(e1::nw).length) rfl
    exact⟨_,_,g',R',hrun,L⟩
  |rf sz' pl off len=>
   cases nw with
   |nil=>simp at hn
   |cons e1 nw=>
   simp only[oApp1,oops]at he
   cases hl:look s true pl with
   |none=>simp[hl]at he
   |some c=>
    simp only[hl]at he
    cases c with
    |ow sz'' es=>
     simp only at he
     cases hc:(Nat.beq sz' info.size&&Nat.beq sz'' info.size&&Nat.ble (off+len) es.length&&Nat.ble ((len+(e1::nw).length)*info.bytes) roomB&&Nat.ble (len+(e1::nw).length) roomB&&freshId s d&&apartUps (gone pl::us))with
     |false=>rw[hc]at he;cases he
     |true=>
      rw[hc,cond_true,Option.some.injEq]at he;subst he
      simp only[Bool.and_eq_true]at hc
      obtain⟨⟨⟨⟨⟨⟨c1,c2⟩,c3⟩,c4⟩,c5⟩,c6⟩,c7⟩:=hc
      have e1':sz'=info.size:=by simpa using c1
      have e2':sz''=info.size:=by simpa using c2
      subst e1';subst e2'
      have hle:off+len≤es.length:=Nat.le_of_ble_eq_true c3
      have c4':(len+(e1::nw).length)*info.bytes≤2 ^ 46:=by simpa[roomB]using Nat.le_of_ble_eq_true c4
      have c5':len+(e1::nw).length≤2 ^ 46:=by simpa[roomB]using Nat.le_of_ble_eq_true c5
      obtain⟨hd,hKd⟩:=freshId_iff c6
      obtain⟨cap,k,n,f1,f2,f3,f4,f5,f6,hva⟩:=X_rf ha (okD_of_look hl)
      have hol:((es.drop off).take len).length=len:=by simp;omega
      have husg:∀u∈gone pl::us,∃q,u=gone q:=by
       intro u hu
       rcases List.mem_cons.1 hu with rfl|hu
       ·exact⟨pl,rfl⟩
       ·exact src_gone hS u hu
      by_cases hroom:len+(e1::nw).length≤cap
      ·obtain⟨hf,G⟩:=app_room H ha hx hS hl hle hd hKd c7 hva hroom
       have hrun:=run_app_room (P:=P) w (ty:=rty) (b:=n.b) (off:=n.o+k*n.sz) (sLen:=len) (sCap:=cap) (news:=news) ht hxt hxd hi (hS.len w) (hS.fst w fun _=>rfl) hS.one hroom (fun j hj=>(hf j hj).1) (fun j hj=>(hf j hj).2)
       rw[←hva]at hrun
       obtain⟨g',R',L⟩:=G.lands H hd husg (rd:=⟨pl,true⟩::rs) (n:=len+(e1::nw).length) (by rw[List.length_append,hol])
       exact⟨_,_,g',R',hrun,L⟩
      ·-- a new row
       obtain⟨N,hN,hKN⟩:=free_no (hins s.h d .un) s.d
       rw[hget_hins]at hN
       have hNd:N≠d:=by rintro rfl;rw[if_pos rfl]at hN;cases hN
       rw[if_neg hNd]at hN
       have hgp:=(look_some hl).2
       obtain⟨ap,hap,_⟩:=getP_some hgp
       have hpd:pl.r≠d:=by rintro e;rw[e,hd]at hap;cases hap
       have hpN:pl.r≠N:=by rintro e;rw[e,hN]at hap;cases hap
       obtain⟨g1,R1,r1,r2,r3,own1,keep1⟩:=src_out (N:=N) H ha hl hle (fun k hk=>hk) hgp hN hKN
       obtain⟨m,m1,m2,m3,m4,m5,m6,m7,m8,m9⟩:=row_root (d:=N) r1 (by rw[hget_hins,if_pos rfl]) (r2.trans hva)

       have hcs:∀t,t<len*info.size→∃u,w.cell? ⟨m.b,m.o+t,none⟩=some u∧one u=true:=by
        intro t ht'
        obtain⟨q1,q2,q3⟩:=row_split ht'
        have hi':t / info.size<((es.drop off).take len).length:=by omega
        have hcl:=m9 _ (List.getElem_mem hi')
        have hj:t % info.size<(cells ((es.drop off).take len)[t / info.size]).length:=by omega
        have tN:=r1.tree N (.ow info.size ((es.drop off).take len)) (by rw[hget_hins,if_pos rfl])
        obtain⟨m',u,p1,p2,p3⟩:=tN.cell [] (t / info.size) (t % info.size) _ (by
         simp only[List.nil_append,getT,step1,List.getElem?_eq_getElem hi',Option.bind_some]
         rw[List.getElem?_eq_getElem hj];rfl)
        rw[m1]at p1;cases p1
        refine⟨u,?_,p3.one⟩
        rw[←q3,←Nat.add_assoc];rw[m3]at p2;exact p2
       obtain⟨olds,o1,o2,o3⟩:=cells_row hcs
       have hrun:=run_app_grow (P:=P) w (ty:=rty) (base:=some ⟨n.b,n.o+k*n.sz,none⟩) (sLen:=len) (sCap:=cap) (olds:=olds) (news:=news) ht hxt hxd hi hz (hS.len w)
        (run_firstCells_some w.drew info.size len _ len cap olds o1 (fun j v hj=>by rw[addr_add,←m5,←m6];exact o2 j v hj)) (hS.fst w.drew fun _=>rfl) (by omega) (by omega)
        (growslice_fits (by omega) (by omega))
       rw[←hva]at hrun
       have D:DstOut B (Kd s.d) s g w d info.size [gone pl] (some N) ((es.drop off).take len) olds g1 R1 (hins (Up.app s.h (gone pl)) N (.ow info.size ((es.drop off).take len))):=
        {rm:=r1
         sub:=own1
         heap:=fun q=>by rw[hget_hins];simp only[Up.apps,Option.some.injEq]
         noN:=fun N' hN'=>by
          cases hN'
          exact⟨hN,r3,hKN,hNd,m,m1,m3,fun t u ht=>o2 t u ht⟩
         nil:=fun e=>by cases e
         ol:=by rw[hol];exact o1
         csz:=m9
         keep:=fun q k' hq hu hk=>keep1 q k' (fun e=>hq (by rw[e])) (by have:=hu (gone pl) (by simp);rw[gone_pl]at this;exact this) hk
         dn:=by simp only[Up.apps];rw[hget_gone,if_neg (fun e=>hpd e.symm)];exact hd
         get:=fun q c' hq hu hq'=>by
          have:=hu (gone pl) (by simp);rw[gone_pl]at this
          rw[getP_hins_ne (fun e=>hq (by rw[e])),getP_gone hgp this];exact hq'}
       have hge:=grownCap_ge w (len+(e1::nw).length) cap e
       have G:=app_grow (e:=e) (cap:=grownCap w (len+(e1::nw).length) cap e) H D hx hS hd hKd (fun u0 h0 u hu=>by simp at h0;subst h0;exact(apartUps_cons c7).1 u hu)
        (hcsz (len+(e1::nw).length) olds ((es.drop off).take len) cap (by rw[hol];exact o1) (by rw[hol])) (by rw[hol];exact hge) (hcs1 olds _) (by rw[hol,←o1];exact hcs2 olds _)
       rw[hol]at G
       obtain⟨g',R',L⟩:=G.lands H hd husg (rd:=⟨pl,true⟩::rs) (n:=len+(e1::nw).length) (by rw[List.length_append,hol])
       exact⟨_,_,g',R',hrun,L⟩
    |_=>simp at he
  |_=>cases nw<;>simp[oApp1,oops]at he
theorem oAppend_ok (hT:TOk P cx) (H:RM B (Kd s.d) g R s.h w) {d:Nat} {ty xt rty:Nat} {a x:AV} {va vx:Value} {ef:Eff} (ha:XD (mkF B g w) g s.d a va) (hx:XD (mkF B g w) g s.d x vx)
  (he:oAppend cx s (some d) [ty,xt] [a,x]=some ef):Does P B g s w ef (Builtin.append_ #[ty,xt] rty #[va,vx]):=by
 simp only[oAppend]at he
 ·split at he
  ·cases he
  ·rename_i el xk hni hk hxk
   cases hei:cx.T el with
   |none=>simp[hei]at he
   |some ei=>
    simp only[hei]at he
    cases hel:elems s ei.size x with
    |none=>simp[hel]at he
    |some q=>
     obtain⟨new,rs,us⟩:=q
     simp only[hel]at he
     obtain⟨info,z,i1,i2,i3,i4,i5⟩:=mkTy_zero (hT el ei hei)
     obtain⟨news,hS⟩:=elems_ok (P:=P) H hx hel
     have hu:=kind_slice hT hk
     obtain⟨xd,x1,x2⟩:=kind_any hT hxk
     rw[←i4,←i5]at he
     rw[←i4]at hS
     refine oApp1_ok (e:=el) (xd:=xd) H hu x1 (fun k e=>?_) i1 i2 (by rw[i3,i4]) ha hx hS he
     subst e
     exact hni k x2
  ·cases he
end Go.Am
end
section
namespace Go.Am
open Go.RowKit Go.Lib
variable {P:Program} {cx:Cx} {B:Base} {K:Nat→Prop} {g g' g1 g2:Gh} {R R1 R2:Nat→Value} {s:St} {h h' h1 h2:Hp} {w w':World}
theorem leaf_LF {F:Fz} {ob:Nat→Option Obj} {G:Gh} {c:AV} {v:Value} (hc:RF F c v):LF F ob G c none v:=by
 cases hc with
 |int k n=>exact⟨rfl,.int _ _⟩
 |bool b=>exact⟨rfl,.bool _⟩
 |str s=>exact⟨rfl,.str _⟩
 |nilp=>exact⟨rfl,.nilp⟩
 |un v h=>exact⟨rfl,.un _ h⟩
 |nil sz=>exact⟨rfl,.nil _⟩
 |fzs lab sz es b o cap sp h1 h2 h3 h4=>exact⟨rfl,.fzs _ _ _ _ _ _ _ h1 h2 h3 h4⟩
 |fp lab e off b o h1 h3=>exact⟨rfl,.fp _ _ _ _ _ h1 h3⟩
theorem Stepped.refl (H:RM B K g R h w):Stepped B K g h w [] w:=⟨g,R,H,le_refl,fun _ _ _ hm=>hm⟩
theorem par_keep {par:Pl} {i j:Nat} {x:AV}:∀u∈[Up.set (par.cell i j) x],u.pl.pre par=false:=by
 intro u hu
 simp at hu;subst hu
 simp only[Up.pl,Pl.pre,Pl.cell,nbT,Bool.true_and]
 cases hb:pre (par.p++[(i,j)]) par.p with
 |false=>rfl
 |true=>obtain⟨r,hr⟩:=pre_iff.1 hb;have:=congrArg List.length hr;simp at this
theorem getP_write {par:Pl} {i j i' j':Nat} {x old:AV} (hx:nonAgg x=true) (hd:getP h (par.cell i j)=some old) (h2:∃c,getP h (par.cell i' j')=some c):∃c,getP (Up.app h (.set (par.cell i j) x)) (par.cell i' j')=some c:=by
 obtain⟨a,ha,hp⟩:=getP_some hd
 rw[app_set ha]
 by_cases e:(i',j')=(i,j)
 ·simp only[Prod.mk.injEq]at e
  obtain⟨rfl,rfl⟩:=e
  refine⟨x,?_⟩
  unfold getP
  rw[hget_hins,if_pos rfl]
  have:=getT_setT_under hp (c:=x) (.inr hx) []
  rw[List.append_nil]at this
  simpa[getT]using this
 ·rw[getP_set ha hp hx]
  ·exact h2
  ·refine⟨?_,?_⟩
   ·simp only[Pl.pre,Pl.cell,nbT,Bool.true_and]
    cases hb:pre (par.p++[(i,j)]) (par.p++[(i',j')])with
    |false=>rfl
    |true=>obtain⟨r,hr⟩:=pre_iff.1 hb;have h3:=congrArg List.length hr;simp at h3;subst h3;simp at hr;exact absurd (by rw[hr.1,hr.2]) e
   ·simp only[Pl.pre,Pl.cell,nbT,Bool.true_and]
    cases hb:pre (par.p++[(i',j')]) (par.p++[(i,j)])with
    |false=>rfl
    |true=>obtain⟨r,hr⟩:=pre_iff.1 hb;have h3:=congrArg List.length hr;simp at h3;subst h3;simp at hr;exact absurd (by rw[hr.1,hr.2]) e
def Wrote (B:Base) (K:Nat→Prop) (g:Gh) (h:Hp) (w:World) (par:Pl) (n:Nd) (us:List Up) (w':World):Prop:=
 ∃g' R',RM B K g' R' (Up.apps us h) w'∧(mkF B g w).le (mkF B g' w')∧Keep2 us g g'∧g' par.r par.p=some n∧∀i j,(∃c,getP h (par.cell i j)=some c)→∃c,getP (Up.apps us h) (par.cell i j)=some c
theorem Wrote.trans {par:Pl} {n:Nd} {us vs:List Up} {w1 w2:World} (h1:Wrote B K g h w par n us w1) (h2:∀{g1 R1},RM B K g1 R1 (Up.apps us h) w1→(mkF B g w).le (mkF B g1 w1)→g1 par.r par.p=some n→(∀i j,(∃c,getP h (par.cell i j)=some c)→∃c,getP (Up.apps us h) (par.cell i j)=some c)→Wrote B K g1 (Up.apps us h) w1 par n vs w2):
  Wrote B K g h w par n (us++vs) w2:=by
 obtain⟨g1,R1,a1,a2,a3,a4,a5⟩:=h1
 obtain⟨g2,R2,b1,b2,b3,b4,b5⟩:=h2 a1 a2 a4 a5
 exact⟨g2,R2,by rw[Up.apps_append];exact b1,le_trans' a2 b2,fun pl m hu hm=>b3 pl m (fun u hu'=>hu u (List.mem_append_right _ hu')) (a3 pl m (fun u hu'=>hu u (List.mem_append_left _ hu')) hm),b4,fun i j hc=>by rw[Up.apps_append];exact b5 i j (a5 i j hc)⟩
theorem leaf1 {par:Pl} {i j:Nat} {n:Nd} {c:AV} {v:Value} (H:RM B K g R h w) (hn:g par.r par.p=some n) (hf:RF (mkF B g w) c v) (hd:∃old,getP h (par.cell i j)=some old):
  Wrote B K g h w par n [.set (par.cell i j) c] (w.setCell ⟨n.b,n.o+i*n.sz+j,none⟩ v):=by
 obtain⟨old,hd⟩:=hd
 obtain⟨s1,s2,s3⟩:=RF_shape hf
 obtain⟨w1,w2⟩:=write_step (c:=c) H hd hn s1 s3 (leaf_LF hf) (fun q len e=>absurd e (s2 q len))
 exact⟨_,_,w1,w2,Keep2.cut,(Keep2.cut (c:=c)) par n par_keep hn,fun i' j' hc=>getP_write s3 hd hc⟩
theorem leaves_ok {par:Pl} {i:Nat} {n:Nd}:∀{cs:List AV} {vs:List Value} {k:Nat} {g:Gh} {R:Nat→Value} {h:Hp} {w:World},RM B K g R h w→g par.r par.p=some n→
  vs.length=cs.length→(∀(j:Nat) c,cs[j]?=some c→∃v,vs[j]?=some v∧RF (mkF B g w) c v)→(∀j,j<cs.length→∃old,getP h (par.cell i (k+j))=some old)→
  Wrote B K g h w par n (setUps par i k cs) (w.setCells n.b (n.o+i*n.sz+k) vs)
 |[],vs,k,g,R,h,w,H,hn,hl,_,_=>by
  have:vs=[]:=List.eq_nil_of_length_eq_zero hl
  subst this
  exact⟨g,R,H,le_refl,fun _ _ _ hm=>hm,hn,fun _ _ hc=>hc⟩
 |c::cs,vs,k,g,R,h,w,H,hn,hl,hv,hd=>by
  cases vs with
  |nil=>simp at hl
  |cons v vs=>
  obtain⟨v',e1,hf⟩:=hv 0 c rfl
  simp at e1;subst e1
  have hd0:=hd 0 (by simp)
  rw[Nat.add_zero]at hd0
  have h1:=leaf1 H hn hf hd0
  have:setUps par i k (c::cs)=[.set (par.cell i k) c]++setUps par i (k+1) cs:=rfl
  rw[this]
  simp only[World.setCells]
  refine h1.trans fun {g1 R1} a1 a2 a4 a5=>?_
  have:=leaves_ok (cs:=cs) (vs:=vs) (k:=k+1) (i:=i) a1 a4 (by simpa using hl) (fun j c' hj=>by
   obtain⟨v',e1,e2⟩:=hv (j+1) c' (by simpa using hj)
   exact⟨v',by simpa using e1,e2.mono a2⟩) (fun j hj=>by
   have:=a5 i (k+(j+1)) (hd (j+1) (by simp;omega))
   rwa [show k+(j+1)=k+1+j by omega]at this)
  rw[show n.o+i*n.sz+k+1=n.o+i*n.sz+(k+1)by omega];exact this
theorem setCells_append {b:Nat}:∀{l1 l2:List Value} {o:Nat} {w:World},w.setCells b o (l1++l2)=(w.setCells b o l1).setCells b (o+l1.length) l2
 |[],l2,o,w=>by simp[World.setCells]
 |v::l1,l2,o,w=>by
  simp only[List.cons_append,World.setCells,List.length_cons]
  rw[setCells_append,show o+1+l1.length=o+(l1.length+1)by omega]
theorem rows_ok {par:Pl} {n:Nd}:∀{es:List AV} {vs:List Value} {i:Nat} {g:Gh} {R:Nat→Value} {h:Hp} {w:World},RM B K g R h w→g par.r par.p=some n→(∀e∈es,(cells e).length=n.sz)→
  vs.length=es.length*n.sz→(∀(a:Nat) e (j:Nat) c,es[a]?=some e→(cells e)[j]?=some c→∃v,vs[a*n.sz+j]?=some v∧RF (mkF B g w) c v)→(∀a j,a<es.length→j<n.sz→∃old,getP h (par.cell (i+a) j)=some old)→
  Wrote B K g h w par n (rowUps par i es) (w.setCells n.b (n.o+i*n.sz) vs)
 |[],vs,i,g,R,h,w,H,hn,_,hl,_,_=>by
  have:vs=[]:=List.eq_nil_of_length_eq_zero (by simpa using hl)
  subst this
  exact⟨g,R,H,le_refl,fun _ _ _ hm=>hm,hn,fun _ _ hc=>hc⟩
 |e::es,vs,i,g,R,h,w,H,hn,hsz,hl,hv,hd=>by
  have hl':vs.length=n.sz+es.length*n.sz:=by rw[hl,List.length_cons,Nat.add_mul];omega
  have he:=hsz e (by simp)
  have hsplit:vs=vs.take n.sz++vs.drop n.sz:=(List.take_append_drop _ _).symm
  have htl:(vs.take n.sz).length=n.sz:=by simp;omega
  rw[hsplit,setCells_append,htl]
  have h1:=leaves_ok (cs:=cells e) (vs:=vs.take n.sz) (k:=0) (i:=i) H hn (by rw[htl,he]) (fun j c hj=>by
   obtain⟨v,e1,e2⟩:=hv 0 e j c rfl hj
   refine⟨v,?_,e2⟩
   have:=(List.getElem?_eq_some_iff.1 hj).1
   rw[List.getElem?_take,if_pos (by omega)]
   simpa using e1) (fun j hj=>by have:=hd 0 j (by simp) (by omega);simpa using this)
  rw[Nat.add_zero]at h1
  show Wrote B K g h w par n (setUps par i 0 (cells e)++rowUps par (i+1) es) _
  refine h1.trans fun {g1 R1} a1 a2 a4 a5=>?_
  have:=rows_ok (es:=es) (vs:=vs.drop n.sz) (i:=i+1) a1 a4 (fun e' he'=>hsz e' (by simp[he'])) (by simp;omega) (fun a e' j c ha hj=>by
   obtain⟨v,e1,e2⟩:=hv (a+1) e' j c (by simpa using ha) hj
   refine⟨v,?_,e2.mono a2⟩
   rw[List.getElem?_drop,←e1,Nat.add_mul];congr 1;omega) (fun a j ha hj=>a5 _ _ (by
   have:=hd (a+1) j (by simp;omega) hj
   rwa [show i+(a+1)=i+1+a by omega]at this))
  rw[show n.o+i*n.sz+n.sz=n.o+(i+1)*n.sz by rw[Nat.add_mul];omega];exact this
theorem setUps_set {pl:Pl} {i:Nat}:∀{cs:List AV} {k:Nat},∀u∈setUps pl i k cs,∃q,(∃x,u=.set q x)∨u=gone q
 |[],_,u,hu=>by cases hu
 |c::cs,k,u,hu=>by
  simp only[setUps,List.mem_cons]at hu
  rcases hu with rfl|hu
  ·exact⟨_,.inl ⟨_,rfl⟩⟩
  ·exact setUps_set u hu
theorem rowUps_set {pl:Pl}:∀{es:List AV} {i:Nat},∀u∈rowUps pl i es,∃q,(∃x,u=.set q x)∨u=gone q
 |[],_,u,hu=>by cases hu
 |e::es,i,u,hu=>by
  simp only[rowUps,List.mem_append]at hu
  rcases hu with hu|hu
  ·exact setUps_set u hu
  ·exact rowUps_set u hu
theorem oCopy_ok (hT:TOk P cx) (H:RM B (Kd s.d) g R s.h w) {ty rty:Nat} {tys:List Nat} {a x:AV} {va vx:Value} {ef:Eff} (ha:XD (mkF B g w) g s.d a va) (hx:XD (mkF B g w) g s.d x vx)
  (he:oCopy cx s (ty::tys) [a,x]=some ef):Does P B g s w ef (Builtin.copy_ (ty::tys).toArray rty #[va,vx]):=by
 unfold oCopy at he
 split at he
 ·rename_i sz pl off len x' ty' tys' h1 h2
  cases h1;cases h2
  split at he
  ·rename_i el hk
   cases hei:cx.T el with
   |none=>simp[hei]at he
   |some ei=>
    simp only[hei]at he
    split at he
    ·rename_i new rs sz' es hel hl
     simp only[oops]at he
     cases hc:(Nat.beq sz ei.size&&Nat.beq sz' ei.size&&Nat.ble (off+len) es.length)with
     |false=>rw[hc]at he;cases he
     |true=>
      rw[hc,cond_true,Option.some.injEq]at he;subst he
      simp only[Bool.and_eq_true]at hc
      obtain⟨⟨c1,c2⟩,c3⟩:=hc
      have e1':sz=ei.size:=by simpa using c1
      have e2':sz'=ei.size:=by simpa using c2
      subst e1';subst e2'
      have hle:off+len≤es.length:=Nat.le_of_ble_eq_true c3
      obtain⟨info,z,i1,i2,i3,i4,i5⟩:=mkTy_zero (hT el ei hei)
      obtain⟨news,hS⟩:=elems_ok (P:=P) H hx hel
      have hu:=kind_slice hT hk
      obtain⟨cap,k,n,f1,f2,f3,f4,f5,f6,rfl⟩:=X_rf ha (okD_of_look hl)
      obtain⟨u0,n',g1,g2,g3,g4,g5,g6⟩:=node_at H (look_some hl).2
      rw[f1]at g1;cases g1
      rcases hS.src with⟨_,hpl⟩|⟨_,_,_,_,hcon,_⟩
      ·have hsz:info.size=n.sz:=by rw[i4,f3]
       have hml:min new.length len≤new.length:=Nat.min_le_left _ _
       have hml2:min new.length len≤len:=Nat.min_le_right _ _
       have hvl:(news.take (min new.length len*ei.size)).length=min new.length len*ei.size:=by
        rw[List.length_take,hS.nl]
        have:=Nat.mul_le_mul_right ei.size hml
        omega
       have hfit:k*n.sz+min new.length len*ei.size≤n.sz*n.cap:=by
        rw[←f3,←Nat.add_mul,Nat.mul_comm];exact Nat.mul_le_mul_left _ (by omega)
       obtain⟨cs,cel,fr,b1,b2,b3⟩:=H.blk _ _ n f1 f2
       have hst:=run_storeCells_cells (P:=P) n.b (n.o+k*n.sz) (news.take (min new.length len*ei.size)) 0 w (fun j hj=>by
        unfold World.cell?
        simp only[b1]
        have:n.o+k*n.sz+0+j<cs.size:=by omega
        rw[Array.getElem?_eq_getElem this];rfl) (fun j hj=>b3 _ ⟨rfl,.inr ⟨by omega,by omega⟩⟩) (fun u hu=>hS.one u (List.mem_of_mem_take hu))
       have hW:Wrote B (Kd s.d) g s.h w pl n (rowUps pl off (new.take (min new.length len))) (w.setCells n.b (n.o+k*n.sz) (news.take (min new.length len*ei.size))):=by
        by_cases h0:min new.length len=0
        ·rw[h0]
         simp only[List.take_zero,Nat.zero_mul]
         exact⟨g,R,H,le_refl,fun _ _ _ hm=>hm,f1,fun _ _ hc=>hc⟩
        ·have hk:k=off:=by rcases f6 with h|h;(omega);exact h
         rw[hk]
         refine rows_ok H f1 (fun e he=>by rw[hS.csz e (List.mem_of_mem_take he),f3]) (by rw[hvl,List.length_take,f3];congr 1;omega) (fun a e j c ha hj=>?_) (fun a j ha hj=>?_)
         ·rw[List.getElem?_take]at ha
          split at ha
          ·rename_i hlt
           obtain⟨_,_,u,p3,p4⟩:=hpl a e j c ha hj
           refine⟨u,?_,p4⟩
           have hj':=(List.getElem?_eq_some_iff.1 hj).1
           rw[hS.csz e (List.mem_of_getElem? ha)]at hj'
           have:=row_lt hlt hj'
           rw[List.getElem?_take,f3,if_pos this];exact p3
          ·cases ha
         ·have ha':a<min new.length len:=by rw[List.length_take]at ha;omega
          have hlt:off+a<es.length:=by omega
          have hcl:=g6 _ (List.getElem_mem hlt)
          have hjl:j<(cells es[off+a]).length:=by rw[hcl,←f3];exact hj
          refine⟨(cells es[off+a])[j],getP_step (look_some hl).2 ?_⟩
          simp only[step1,List.getElem?_eq_getElem hlt,Option.bind_some]
          exact List.getElem?_eq_getElem hjl
       obtain⟨g',R',a1,a2,a3,a4,_⟩:=hW
       refine⟨goInt ((min new.length len:Nat):Int),_,g',R',?_,a1.weakK fun q hq=>Kd_app q hq,a2,fun q m ho hm=>a3 q m (keep_sets rowUps_set (by rw[←dn_sets rowUps_set];exact ho)) hm,rfX (.int _ _)⟩
       have hmin:Nat.min new.length len=min new.length len:=rfl
       have hrest:(storeCells ⟨n.b,n.o+k*n.sz,none⟩ (news.take (min new.length len*ei.size))).run P w=.ok () (w.setCells n.b (n.o+k*n.sz) (news.take (min new.length len*ei.size))):=hst
       show(Builtin.copy_ (ty::tys).toArray rty #[_,_]).run P w=_
       simp[Builtin.copy_,run_underlying' w hu,hS.len w,run_size w (hT el ei hei),hmin,hS.fstm _ hml,hrest]
      ·unfold gone at hcon;split at hcon<;>cases hcon
    ·cases he
  ·cases he
 ·cases he
end Go.Am
end
section
namespace Go.Am
open Go.RowKit Go.Lib
variable {P:Program} {cx:Cx} {B:Base} {K:Nat→Prop} {g g' g1 g2:Gh} {R R1 R2:Nat→Value} {s:St} {h h' h1 h2:Hp} {w w':World} {ρ:Operand→Value}
theorem cv_X {F:Fz} {d:List Up} {v:Value}:XD F g d (cv v) v:=by
 by_cases ho:v.cells.toList.all one=true
 ·have:=cvX (F:=F) (g:=g) (d:=d) ho
  refine .inr ?_
  have:fade d (cv v)=fade1 d (cv v):=by
   refine fade_eq1 ?_
   unfold cv
   split
   ·split<;>rfl
   ·unfold cv1;split<;>rfl
  rw[this];exact .c (by assumption)
 ·refine .inl ?_
  cases v<;>first|(simp[cv,Value.cells,one]at ho ⊢;done)|(simp only[Value.cells]at ho;simp only[cv];rw[if_neg ho])|rfl
theorem ev_X {F:Fz} (ht:∀i,XD F g s.d (tget s.t i) (ρ (.tmp i))) (hc:∀v,ρ (.const v)=v) (x:Operand):XD F g s.d (ev s x) (ρ x):=by
 cases x with
 |tmp i=>exact ht i
 |const v=>rw[hc];exact cv_X
 |_=>exact .inl rfl
def Goes (P:Program) (B:Base) (g:Gh) (s:St) (w:World) (e:Eff) (x:Sem Next):Prop:=
 ∃nx v w' g' R',x.run P w=.ok nx w'∧(nx=.value v∨(nx=.skip∧v=undef))∧Lands B g s w e v w' g' R'
theorem Goes.v {e:Eff} {x:Sem Value} (h:Does P B g s w e x):Goes P B g s w e (do pure (.value (←x))):=by
 obtain⟨v,w',g',R',h1,h2⟩:=h
 exact⟨.value v,v,w',g',R',by simp only[Sem.run_bind,h1,Result.andThen_ok,Sem.run_pure],.inl rfl,h2⟩
theorem Goes.u {e:Eff} {x:Sem Unit} (h:∃w' g' R',x.run P w=.ok () w'∧Lands B g s w e undef w' g' R'):Goes P B g s w e (do x;pure .skip):=by
 obtain⟨w',g',R',h1,h2⟩:=h
 exact⟨.skip,undef,w',g',R',by simp only[Sem.run_bind,h1,Result.andThen_ok,Sem.run_pure],.inr ⟨rfl,rfl⟩,h2⟩
theorem XP_map {F:Fz} {d:List Up} (hx:∀x,XD F g d (ev s x) (ρ x)):∀(ps:List (Nat×Operand)),XP F g d (ps.map fun p=>(p.1,ev s p.2)) (ps.map fun p=>(p.1,ρ p.2))
 |[]=>.nil
 |p::ps=>.cons (hx p.2) (XP_map hx ps)
theorem toArray_eq {α:Type} {a:Array α} {l:List α} (h:a.toList=l):a=l.toArray:=by rw[←h]
theorem min2 {F:Fz} {d:List Up} {k k':IntKind} {x y:Int} {u v:Value} (h1:XD F g d (.int k x) u) (h2:XD F g d (.int k' y) v):RXL F g ([.int k x,.int k' y].map (fade1 d)) [u,v]:=by
 rw[X_int h1,X_int h2]
 exact .cons (.c (.f (.int _ _))) (.cons (.c (.f (.int _ _))) .nil)
theorem args1 {args:Array Operand} {x:AV} (h:args.toList.map (ev s)=[x]):∃a,args= #[a]∧x=ev s a:=by
 obtain⟨l⟩:=args
 match l,h with
 |[a],h=>simp at h;exact⟨a,rfl,h.symm⟩
theorem args2 {args:Array Operand} {x y:AV} (h:args.toList.map (ev s)=[x,y]):∃a b,args= #[a,b]∧x=ev s a∧y=ev s b:=by
 obtain⟨l⟩:=args
 match l,h with
 |[a,b],h=>simp at h;exact⟨a,b,rfl,h.1.symm,h.2.symm⟩
theorem map1 {a:Operand}:(#[a]).map ρ= #[ρ a]:=by simp
theorem map2 {a b:Operand}:(#[a,b]).map ρ= #[ρ a,ρ b]:=by simp
theorem oBuiltin_ok (hT:TOk P cx) (H:RM B (Kd s.d) g R s.h w) (hx:∀x,XD (mkF B g w) g s.d (ev s x) (ρ x)) {d:Option Nat} {b:Builtin} {tys:Array TypeId} {args:Array Operand} {rty:TypeId} {consts:Array Bool} {e:Eff}
  (he:oBuiltin cx s d b tys.toList (args.toList.map (ev s))=some e):Goes P B g s w e (builtin b tys rty consts (args.map ρ)):=by
 unfold oBuiltin at he
 split at he
 ·split at he
  ·rename_i x ty h1 h2
   obtain⟨a,rfl,rfl⟩:=args1 h1
   have:=toArray_eq h2
   subst this
   rw[map1]
   exact Goes.v (oLen_ok hT H (hx _) he)
  ·cases he
 ·have he':=he
  unfold oAppend at he'
  split at he'
  ·rename_i d' a x ty xt h1 h2
   obtain⟨a,b,rfl,rfl,rfl⟩:=args2 h1
   have:=toArray_eq h2
   subst this
   rw[map2]
   exact Goes.v (oAppend_ok hT H (hx _) (hx _) he)
  ·cases he'
 ·have he':=he
  unfold oCopy at he'
  split at he'
  ·rename_i sz pl off len x ty tl h1 h2
   obtain⟨a,b,rfl,e1,rfl⟩:=args2 h1
   have:=toArray_eq h2
   subst this
   rw[map2]
   exact Goes.v (oCopy_ok hT H (hx _) (hx _) he)
  ·cases he'
 ·have he':=he
  unfold oMin at he'
  split at he'
  ·rename_i k x k' y h1
   obtain⟨a,b,rfl,e1,e2⟩:=args2 h1
   have h2:RXL (mkF B g w) g ([ev s a,ev s b].map (fade1 s.d)) [ρ a,ρ b]:=by
    rw[←e1,←e2];exact min2 (by rw[e1];exact hx a) (by rw[e2];exact hx b)
   rw[map2]
   exact Goes.v (oMin_ok (vs:=[ρ a,ρ b]) H h2 he)
  ·cases he'
 ·have he':=he
  unfold oMax at he'
  split at he'
  ·rename_i k x k' y h1
   obtain⟨a,b,rfl,e1,e2⟩:=args2 h1
   have h2:RXL (mkF B g w) g ([ev s a,ev s b].map (fade1 s.d)) [ρ a,ρ b]:=by
    rw[←e1,←e2];exact min2 (by rw[e1];exact hx a) (by rw[e2];exact hx b)
   rw[map2]
   exact Goes.v (oMax_ok (vs:=[ρ a,ρ b]) H h2 he)
  ·cases he'
 ·cases he
theorem opX_ok (hT:TOk P cx) (H:RM B (Kd s.d) g R s.h w) (hx:∀x,XD (mkF B g w) g s.d (ev s x) (ρ x)) {call:CallF} {keep:Nat} {o:Oper} {e:Eff} (hnc:∀c f,o.op=.call c→c.callee≠.value (.func f))
  (he:opX cx call keep s o=some e):Goes P B g s w e (execOp ρ o):=by
 unfold opX at he
 unfold execOp
 split at he<;>rename_i hop<;>simp only[hop]
 ·cases he;exact⟨.value (ρ _),_,w,g,R,rfl,.inl rfl,.still H (hx _)⟩
 ·cases he;exact⟨.value (ρ _),_,w,g,R,rfl,.inl rfl,.still H (hx _)⟩
 ·obtain⟨v,w',g',R',h1,h2⟩:=oPick_ok (P:=P) H (hx _) (hx _) (hx _) he
  refine⟨.value v,v,w',g',R',?_,.inl rfl,h2⟩
  simp only[Sem.run_bind,Sem.run_pure]at h1 ⊢
  revert h1
  cases (asBool (ρ _)).run P w with
  |ok b w1=>intro h1;simp only[Result.andThen_ok]at h1 ⊢;cases h1;rfl
  |halt x w1=>intro h1;cases h1
 ·cases hd:o.dst with
  |none=>rw[hd]at he;cases he
  |some d=>rw[hd]at he;exact Goes.v (oAlloc_ok hT H he)
 ·cases hd:o.dst with
  |none=>rw[hd]at he;cases he
  |some d=>rw[hd]at he;exact Goes.v (oBox_ok H (hx _) he)
 ·rename_i ty ps
  have:=Goes.v (oBuild_ok (P:=P) hT H (XP_map hx ps.toList) he)
  rw[show(ps.toList.map fun p=>(p.1,ρ p.2)).toArray=ps.map fun p=>(p.1,ρ p.2)from by apply Array.ext';simp]at this
  exact this
 ·rename_i ty len ps
  cases hd:o.dst with
  |none=>rw[hd]at he;cases he
  |some d=>
   rw[hd]at he
   have:=Goes.v (oBuildSlice_ok (P:=P) hT H (XP_map hx ps.toList) he)
   rw[show(ps.toList.map fun p=>(p.1,ρ p.2)).toArray=ps.map fun p=>(p.1,ρ p.2)from by apply Array.ext';simp]at this
   exact this
 ·exact Goes.v (oLoad_ok hT H (hx _) he)
 ·exact Goes.u (oStore_ok hT H (hx _) (hx _) he)
 ·rename_i x
  obtain⟨⟨p,hp⟩,v,w',g',R',h1,h2⟩:=oNil_ok (P:=P) H (hx _) he
  rw[hp]at h1 ⊢
  cases h1
  exact⟨.value _,_,_,g',R',rfl,.inl rfl,h2⟩
 ·exact Goes.v (oBin_ok hT H (hx _) (hx _) he)
 ·exact Goes.v (oUn_ok H (hx _) he)
 ·cases hd:o.dst with
  |none=>rw[hd]at he;cases he
  |some d=>rw[hd]at he;exact Goes.v (oMakeSlice_ok hT H (hx _) (hx _) he)
 ·rename_i ty x lo hi
  refine Goes.v (oSlice_ok hT H (hx _) ?_ ?_ he)
  ·cases lo with
   |none=>trivial
   |some x=>exact hx x
  ·cases hi with
   |none=>trivial
   |some x=>exact hx x
 ·exact Goes.v (oFieldAddr_ok hT H (hx _) he)
 ·exact Goes.v (oField_ok hT H (hx _) he)
 ·exact Goes.v (oIndexAddr_ok hT H (hx _) (hx _) he)
 ·exact Goes.v (oIndex_ok hT H (hx _) (hx _) he)
 ·exact Goes.v (oExtract_ok H (hx _) he)
 ·cases hd:o.dst with
  |none=>rw[hd]at he;cases he
  |some d=>rw[hd]at he;exact Goes.v (oMakeMap_ok H he)
 ·rename_i ty r
  split at he
  ·rename_i kt el k n hk hr
   cases hd:o.dst with
   |none=>rw[hd]at he;cases he
   |some d=>
    rw[hd]at he
    obtain⟨v,w',g',R',h1,h2⟩:=oMakeMap_ok (P:=P) (ty:=ty) H he
    refine Goes.v ⟨v,w',g',R',?_,h2⟩
    have hv:=hx r
    rw[hr]at hv
    have hv:=X_int hv
    rw[←h1]
    simp only[Option.map_some,hv]
    simp[Instr.makeMap,run_underlying' w (kind_map hT hk),asInt,asIntOf]
  ·cases he
 ·exact Goes.u (oMapUpdate_ok hT H (hx _) (hx _) (hx _) he)
 ·exact Goes.u (oMapUpdate_ok hT H (hx _) (hx _) (hx _) he)
 ·exact Goes.v (oLookup_ok hT H (hx _) (hx _) he)
 ·rename_i c
  unfold oCall at he
  split at he
  ·rename_i b hb
   have:=oBuiltin_ok (ρ:=ρ) (P:=P) (rty:=o.type) (consts:=c.args.map fun| .const _=>true|_=>false) hT H hx he
   unfold Go.resolve
   rw[hb]
   exact this
  ·rename_i f hf
   exact absurd hf (hnc c f hop)
  ·cases he
 ·cases he
end Go.Am
end
section
namespace Go.Am
open Go.RowKit Go.Lib
variable {P:Program} {cx:Cx} {B B1:Base} {K:Nat→Prop} {g g' g1 g2:Gh} {R R1 R2:Nat→Value} {s:St} {h h' h1 h2 hF:Hp} {w w':World}
theorem Chg.cell {own:Nat→Nat→Prop} (hc:Chg own w w') {b o:Nat} {v:Value} (hv:w.cell? ⟨b,o,none⟩=some v) (ho:¬own b o):w'.cell? ⟨b,o,none⟩=some v:=by
 unfold World.cell? at hv ⊢
 cases hb:w.heap[b]? with
 |none=>simp[hb]at hv
 |some x=>
  cases x with
  |cells cs el fr=>
   obtain⟨cs',h1,h2,h3⟩:=hc.cells b cs el fr hb
   simp only[hb]at hv
   simp only[h1]
   rw[←h3 o ho]at hv;exact hv
  |_=>simp[hb]at hv
noncomputable def mergeG (g g1:Gh) (D:Nat→Prop) (σ:Nat→Option (Nat×List (Nat×Nat))):Gh:=fun r q=>
 open Classical in match σ r with
 |some (k,pp)=>g1 k (pp++q)
 |none=>if D r then none else g r q
theorem mergeG_cases {D:Nat→Prop} {σ:Nat→Option (Nat×List (Nat×Nat))} {r:Nat} {q:List (Nat×Nat)} {n:Nd} (hm:mergeG g g1 D σ r q=some n):
  (∃k pp,σ r=some (k,pp)∧g1 k (pp++q)=some n)∨(σ r=none∧¬D r∧g r q=some n):=by
 unfold mergeG at hm
 cases hs:σ r with
 |some x=>obtain⟨k,pp⟩:=x;rw[hs]at hm;exact .inl ⟨k,pp,rfl,hm⟩
 |none=>
  rw[hs]at hm
  simp only at hm
  split at hm
  ·cases hm
  ·rename_i hd;exact .inr ⟨rfl,hd,hm⟩
theorem frozen_chg {own:Nat→Nat→Prop} (hc:Chg own w w') {b:Nat} {cs:Array Value} {el:TypeId} {fr:Nat×Nat} (hb:w.heap[b]?=some (.cells cs el fr)) (o:Nat):w'.frozen? ⟨b,o,none⟩=w.frozen? ⟨b,o,none⟩:=by
 obtain⟨cs',h1,_⟩:=hc.cells b cs el fr hb
 unfold World.frozen?
 simp only[h1,hb]
theorem Chg.trans {own own1:Nat→Nat→Prop} {w0:World} (h1:Chg own w0 w) (h2:Chg own1 w w') (ho:∀b o,own1 b o→own b o∨w0.heap.size≤b):Chg own w0 w':=by
 refine⟨h2.os.trans h1.os,h2.tape.trans h1.tape,h2.output.trans h1.output,Nat.le_trans h1.size h2.size,fun b cs el fr hb=>?_,fun b hb hn=>?_⟩
 ·obtain⟨cs1,a1,a2,a3⟩:=h1.cells b cs el fr hb
  obtain⟨cs2,b1,b2,b3⟩:=h2.cells b cs1 el fr a1
  refine⟨cs2,b1,b2.trans a2,fun o hno=>?_⟩
  rw[b3 o,a3 o hno]
  intro hx
  have hlt:=(Array.getElem?_eq_some_iff.1 hb).1
  rcases ho b o hx with h|h
  ·exact hno h
  ·omega
 ·rw[h2.objs b (Nat.lt_of_lt_of_le hb h1.size) (fun o hx=>by rcases ho b o hx with h|h;exact hn o h;omega),h1.objs b hb hn]
theorem RM.merge (H:RM B K g R h w) (H1:RM B1 (fun _=>False) g1 R1 h1 w') (e0:B1.w0=w) {D:Nat→Prop} {σ:Nat→Option (Nat×List (Nat×Nat))} {V:Nat→Value}
  (hB1:∀b o,B1.own b o→owned g b o)
  (hN0:∀b o,(∃r p n,¬D r∧g r p=some n∧n.has b o)∨B.A0 b o→owned g1 b o∨B1.A0 b o)
  (hN:∀b o,(∃r p n,¬D r∧g r p=some n∧n.has b o)∨B.A b o→owned g1 b o∨B1.A b o)
  (hun:∀r a p i j c n,¬D r→hget h r=some a→getT a (p++[(i,j)])=some c→g r p=some n→B1.own n.b (n.o+i*n.sz+j)→c=.un∧∀u,w'.cell? ⟨n.b,n.o+i*n.sz+j,none⟩=some u→one u=true)
  (hmap:∀r p n,¬D r→g r p=some n→n.whole=true→∀o,¬B1.own n.b o)
  (hdisj:∀r p n r1 k pp q n1,¬D r→g r p=some n→σ r1=some (k,pp)→g1 k (pp++q)=some n1→∀b o,n.has b o→¬n1.has b o)
  (hinj:∀r r' k pp pp' q q',σ r=some (k,pp)→σ r'=some (k,pp')→pp++q=pp'++q'→r=r'∧q=q')
  (hσ:∀r k pp,σ r=some (k,pp)→¬K r∧∃a c,hget h1 k=some a∧getT a pp=some c∧hget hF r=some c∧TOK (mkF B1 g1 w') (obj w') g1 (fun q=>g1 k (pp++q)) c (V r))
  (hV:∀r,σ r=none→V r=R r) (hD:∀r,σ r=none→D r→hget hF r=none) (hR:∀r,σ r=none→¬D r→hget hF r=hget h r):
  RM B K (mergeG g g1 D σ) V hF w'∧(mkF B g w).le (mkF B (mergeG g g1 D σ) w')∧(mkF B1 g1 w').le (mkF B (mergeG g g1 D σ) w'):=by
 have hc1:Chg B1.own w w':=e0▸H1.chg
 have hinn1:∀b o,owned g1 b o→B1.own b o∨w.heap.size≤b:=fun b o hb=>e0▸H1.inn b o hb
 have hown:∀b o,owned (mergeG g g1 D σ) b o→owned g1 b o∨(∃r p n,¬D r∧g r p=some n∧n.has b o):=by
  rintro b o ⟨r,q,n,hm,hb⟩
  rcases mergeG_cases hm with⟨k,pp,_,h3⟩|⟨_,h2,h3⟩
  ·exact .inl ⟨_,_,n,h3,hb⟩
  ·exact .inr ⟨r,q,n,h2,h3,hb⟩
 have hlt:∀(b o:Nat) v,w.cell? ⟨b,o,none⟩=some v→b<w.heap.size:=by
  intro b o v hv
  unfold World.cell? at hv
  cases hx:w.heap[b]? with
  |none=>simp[hx]at hv
  |some x=>exact(Array.getElem?_eq_some_iff.1 hx).1
 have hle:(mkF B g w).le (mkF B (mergeG g g1 D σ) w'):=by
  refine le_of (fun b o v hv hno=>hc1.cell hv fun hx=>hno (hB1 b o hx)) fun b o v hv hx=>?_
  rcases hown b o hx with h2|⟨r,p,n,_,h3,h4⟩
  ·rcases hinn1 b o h2 with h3|h3
   ·exact hB1 b o h3
   ·have:=hlt b o v hv;omega
  ·exact⟨r,p,n,h3,h4⟩
 have hle1:(mkF B1 g1 w').le (mkF B (mergeG g g1 D σ) w'):=by
  refine⟨fun b o v hv _=>hv,fun b o v _ hno hx=>?_,fun b o v _ hno hx=>?_,fun b o hx=>hx.elim .inl fun h=>.inr (B1.hA b o h)⟩
  ·rcases hx with hx|hx
   ·rcases hown b o hx with h2|h2
    ·exact hno (.inl h2)
    ·exact hno (hN b o (.inl h2))
   ·exact hno (hN b o (.inr hx))
  ·rcases hx with hx|hx
   ·rcases hown b o hx with h2|h2
    ·exact hno (.inl h2)
    ·exact hno (hN0 b o (.inl h2))
   ·exact hno (hN0 b o (.inr hx))
 refine⟨⟨H.chg.trans hc1 fun b o hx=>H.inn b o (hB1 b o hx),fun r a ha=>?_,fun r hr q=>?_,fun r p n r' p' n' h2 h3 hne=>?_,fun r p n hm hw=>?_,fun r a p q len ha hq=>?_,fun b o hx=>?_⟩,hle,hle1⟩
 ·-- the trees
  cases hs:σ r with
  |some x=>
   obtain⟨k,pp⟩:=x
   obtain⟨_,a1,c,b1,b2,b3,b4⟩:=hσ r k pp hs
   rw[b3]at ha;cases ha
   have e1:mergeG g g1 D σ r=fun q=>g1 k (pp++q):=by funext q;simp[mergeG,hs]
   rw[e1]
   refine b4.mono hle1 (fun p n o u _ _ hx=>hx) (fun _ _ _ _=>rfl) fun q m p len hq _=>?_
   exact(H1.lks k a1 (pp++p) q len b1 (by rw[getT_append,b2];exact hq)).elim
  |none=>
   by_cases hd:D r
   ·rw[hD r hs hd]at ha;cases ha
   ·rw[hR r hs hd]at ha
    have e1:mergeG g g1 D σ r=g r:=by funext q;simp[mergeG,hs,hd]
    rw[e1,hV r hs]
    have ht:=H.tree r a ha
    have hob:∀q n,g r q=some n→n.whole=true→obj w' n.b=obj w n.b:=by
     intro q n hn hw
     obtain⟨c,hc,hcn⟩:=ht.dom q n hn
     have hbl:n.b<w.heap.size:=H.owned_lt n.b n.o ⟨r,q,n,hn,rfl,.inl hw⟩
     exact hc1.objs n.b hbl (hmap r q n hd hn hw)
    have hG:∀q n p len,getT a p=some (.lk q len)→mergeG g g1 D σ q []=some n→g q []=some n:=by
     intro q n p len hq hm
     rcases mergeG_cases hm with⟨k,pp,h2,_⟩|⟨_,_,h3⟩
     ·exact absurd (H.lks r a p q len ha hq) (hσ q k pp h2).1
     ·exact h3
    refine⟨ht.root.mono hle (fun n hn hw=>hob [] n hn hw) fun q n ⟨len,e⟩ hm=>hG q n [] len (by simp[getT,e]) hm,fun p i j c hc=>?_,ht.dom⟩
    obtain⟨n,u,h2,h3,h4,h5,h6,h7⟩:=ht.inside hc
    by_cases hx:B1.own n.b (n.o+i*n.sz+j)
    ·obtain⟨rfl,h8⟩:=hun r a p i j c n hd ha hc h2 hx
     have hcell:∃u',w'.cell? ⟨n.b,n.o+i*n.sz+j,none⟩=some u':=by
      have h6':w.cell? ⟨n.b,n.o+i*n.sz+j,none⟩=some u:=h6
      unfold World.cell? at h6' ⊢
      cases hb:w.heap[n.b]? with
      |none=>simp[hb]at h6'
      |some x=>
       cases x with
       |cells cs el fr=>
        obtain⟨cs',c1,c2,c3⟩:=hc1.cells n.b cs el fr hb
        simp only[hb]at h6'
        simp only[c1]
        have hlt:=(Array.getElem?_eq_some_iff.1 (by simpa using h6')).1
        exact⟨_,Array.getElem?_eq_getElem (by omega)⟩
       |_=>simp[hb]at h6'
     obtain⟨u',hu'⟩:=hcell
     refine⟨n,u',h2,hu',?_⟩
     have:g r (p++[(i,j)])=none:=h7.1
     rw[this]
     exact⟨rfl,.un u' (h8 u' hu')⟩
    ·exact⟨n,u,h2,hc1.cell h6 hx,h7.mono hle (fun m hm hw=>hob _ m hm hw) fun q m ⟨len,e⟩ hm=>hG q m _ len (by rw[hc,e]) hm⟩
 ·cases hs:σ r with
  |some x=>
   obtain⟨k,pp⟩:=x
   obtain⟨_,a1,c,_,_,b3,_⟩:=hσ r k pp hs
   rw[b3]at hr;cases hr
  |none=>
   by_cases hd:D r
   ·simp[mergeG,hs,hd]
   ·rw[hR r hs hd]at hr
    simp only[mergeG,hs,if_neg hd]
    exact H.void r hr q
 ·rcases mergeG_cases h2 with⟨k,pp,s1,s2⟩|⟨s1,s2,s3⟩<;>rcases mergeG_cases h3 with⟨k',pp',t1,t2⟩|⟨t1,t2,t3⟩
  ·refine H1.disj _ _ _ _ _ _ s2 t2 ?_
   intro e
   simp only[Prod.mk.injEq]at e
   obtain⟨rfl,e2⟩:=e
   obtain⟨rfl,rfl⟩:=hinj r r' k pp pp' p p' s1 t1 e2
   exact hne rfl
  ·intro b o hb hb'
   exact hdisj r' p' n' r k pp p n t2 t3 s1 s2 b o hb' hb
  ·intro b o hb hb'
   exact hdisj r p n r' k' pp' p' n' s2 s3 t1 t2 b o hb hb'
  ·exact H.disj _ _ _ _ _ _ s3 t3 hne
 ·rcases mergeG_cases hm with⟨k,pp,s1,s2⟩|⟨s1,s2,s3⟩
  ·exact H1.blk _ _ n s2 hw
  ·obtain⟨cs,el,fr,b1,b2,b3⟩:=H.blk r p n s3 hw
   obtain⟨cs',c1,c2,_⟩:=hc1.cells n.b cs el fr b1
   exact⟨cs',el,fr,c1,by omega,fun o ho=>by rw[frozen_chg hc1 b1];exact b3 o ho⟩
 ·cases hs:σ r with
  |some x=>
   obtain⟨k,pp⟩:=x
   obtain⟨_,a1,c,b1,b2,b3,_⟩:=hσ r k pp hs
   rw[b3]at ha;cases ha
   exact(H1.lks k a1 (pp++p) q len b1 (by rw[getT_append,b2];exact hq)).elim
  |none=>
   by_cases hd:D r
   ·rw[hD r hs hd]at ha;cases ha
   ·rw[hR r hs hd]at ha;exact H.lks r a p q len ha hq
 ·rcases hown b o hx with h2|⟨r,p,n,_,h3,h4⟩
  ·rcases hinn1 b o h2 with h3|h3
   ·exact H.inn b o (hB1 b o h3)
   ·exact .inr (Nat.le_trans H.chg.size h3)
  ·exact H.inn b o ⟨r,p,n,h3,h4⟩
end Go.Am
end
section
namespace Go.Am
open Go.RowKit Go.Lib
variable {P:Program} {cx:Cx} {B B1:Base} {K:Nat→Prop} {g g' g1 g2:Gh} {R R1 R2:Nat→Value} {s:St} {h h' h1 h2 hF:Hp} {w w':World}
theorem frzL_get {lab:Nat}:∀{l:List AV} {i:Nat},(frzL lab l)[i]?=(l[i]?).map (frz lab)
 |[],i=>by simp[frzL]
 |a::l,i=>by
  cases i with
  |zero=>simp[frzL]
  |succ i=>simp only[frzL,List.getElem?_cons_succ];exact frzL_get
theorem frzL_len {lab:Nat}:∀{l:List AV},(frzL lab l).length=l.length
 |[]=>by simp[frzL]
 |a::l=>by simp only[frzL,List.length_cons,frzL_len]
theorem cells_frz {lab:Nat} (e:AV):cells (frz lab e)=frzL lab (cells e):=by
 cases e<;>simp[frz,cells,frzL]
theorem cells_size {e x:AV} {j:Nat} (h:(cells e)[j]?=some x):SizeOf.sizeOf x≤SizeOf.sizeOf e:=by
 cases e with
 |agg cs=>
  simp only[cells]at h
  have:=List.sizeOf_lt_of_mem (List.mem_of_getElem? h)
  simp;omega
 |_=>
  simp only[cells]at h
  cases j with
  |zero=>simp at h;subst h;exact Nat.le_refl _
  |succ j=>simp at h
theorem frz_RF {lab:Nat} (hlab:lab≠1) {F F1:Fz} {ob:Nat→Option Obj} {G:Gh} {γ:List (Nat×Nat)→Option Nd} {a:AV} {v:Value} (ht:TOK F ob G γ a v) (hnode:∀p n,γ p=some n→∀o,n.has n.b o→F1.no lab n.b o)
  (hm:∀p n o u,γ p=some n→n.has n.b o→F.m n.b o=some u→F1.m n.b o=some u) (hleaf:∀c u,RF F c u→RF F1 c u):∀(N:Nat) (c:AV) p u,SizeOf.sizeOf c<N→getT a p=some c→LF F ob G c (γ p) u→RF F1 (frz lab c) u:=by
 intro N
 induction N with
 |zero=>intro c p u h;omega
 |succ N ih=>
  intro c p u hN hc hl
  cases c with
  |ow sz es=>
   obtain⟨n,h1,h2,h3,h4,h5,h6⟩:=hl
   simp only[frz]
   rw[h5]
   have:es.length=(frzL lab es).length:=frzL_len.symm
   rw[this]
   refine .fz lab sz _ _ _ _ hlab (by rw[frzL_len];exact h4) (RE.of fun i e hi=>?_)
   rw[frzL_get]at hi
   cases he:es[i]? with
   |none=>rw[he]at hi;cases hi
   |some e0=>
    rw[he]at hi
    simp at hi
    subst hi
    refine⟨by rw[cells_frz,frzL_len];exact h6 e0 (List.mem_of_getElem? he),?_⟩
    rw[cells_frz]
    refine RC.of fun j x hj=>?_
    rw[frzL_get]at hj
    cases hx:(cells e0)[j]? with
    |none=>rw[hx]at hj;cases hj
    |some x0=>
     rw[hx]at hj
     simp at hj
     subst hj
     have hg:getT a (p++[(i,j)])=some x0:=by rw[getT_snoc,hc];simp[step1,he,hx]
     obtain⟨n',u',e1,e2,e3,e4,e5,e6⟩:=ht.inside hg
     rw[h1]at e1;cases e1
     have hs1:=cells_size hx
     have hs2:=List.sizeOf_lt_of_mem (List.mem_of_getElem? he)
     rw[h3]at e5
     have hh:n.has n.b (n.o+i*sz+j):=by have:=Nd.has_cell e3 e4;rwa [h3]at this
     exact⟨u',hm p n _ u' h1 hh e5,hnode p n h1 _ hh,ih x0 _ u' (by simp at hN;omega) hg e6⟩
  |bx e=>
   obtain⟨n,h1,h2,h3,h4,h5⟩:=hl
   simp only[frz]
   rw[h5]
   have:=RF.fp (F:=F1) lab (frz lab e) 0 n.b n.o hlab (by
    rw[cells_frz]
    refine RC.of fun j x hj=>?_
    rw[frzL_get]at hj
    cases hx:(cells e)[j]? with
    |none=>rw[hx]at hj;cases hj
    |some x0=>
     rw[hx]at hj
     simp at hj
     subst hj
     have hg:getT a (p++[(0,j)])=some x0:=by rw[getT_snoc,hc];simp[step1,hx]
     obtain⟨n',u',e1,e2,e3,e4,e5,e6⟩:=ht.inside hg
     rw[h1]at e1;cases e1
     have hs1:=cells_size hx
     rw[Nat.zero_mul,Nat.add_zero]at e5
     have hh:n.has n.b (n.o+j):=by have:=Nd.has_cell e3 e4;rwa [Nat.zero_mul,Nat.add_zero]at this
     exact⟨u',hm p n _ u' h1 hh e5,hnode p n h1 _ hh,ih x0 _ u' (by simp at hN;omega) hg e6⟩)
   simpa using this
  |mp ks vs=>exact .un _ hl.one
  |lk r len=>exact .un _ hl.one
  |agg cs=>obtain⟨_,h⟩:=hl;cases h
  |tup cs=>obtain⟨_,h⟩:=hl;cases h
  |rf sz pl off len=>obtain⟨_,h⟩:=hl;cases h
  |ptr pl i off=>obtain⟨_,h⟩:=hl;cases h
  |mrf r=>obtain⟨_,h⟩:=hl;cases h
  |_=>exact hleaf _ _ hl.2
theorem RM.give (H:RM B K g R h w) {r:Nat} {a:AV} (ha:hget h r=some a):RM B K (dropG g r) R (hdel h r) w∧RF (mkF B (dropG g r) w) (frz 0 a) (R r):=by
 have ht:=H.tree r a ha
 have hd:=H.drop r
 have hsub:∀b o,owned (dropG g r) b o→owned g b o:=by
  rintro b o ⟨k,q,n,hn,hb⟩
  unfold dropG at hn
  by_cases e:k=r
  ·rw[if_pos e]at hn;cases hn
  ·rw[if_neg e]at hn;exact⟨k,q,n,hn,hb⟩
 refine⟨hd,frz_RF (F1:=mkF B (dropG g r) w) (lab:=0) (by decide) ht (fun p n hn o ho=>?_) (fun _ _ _ _ _ _ hx=>hx) (fun c u hf=>hf.mono (le_sub hsub)) _ a [] _ (Nat.lt_succ_self _) rfl ht.root⟩
 unfold Fz.no
 simp only[show(0:Nat)≠2 by decide,if_false]
 rintro (hx|hx)
 ·obtain⟨k,q,m,hm,hb⟩:=hx
  unfold dropG at hm
  by_cases e:k=r
  ·rw[if_pos e]at hm;cases hm
  ·rw[if_neg e]at hm
   exact H.disj _ _ _ _ _ _ hm hn (by intro e2;simp at e2;exact e e2.1) n.b o hb ho
 ·rcases H.inn n.b o ⟨r,p,n,hn,ho⟩with h|h
  ·exact B.hown _ _ h hx
  ·have:=B.hA0 _ _ hx;omega
end Go.Am
end
section
namespace Go.Am
open Go.RowKit Go.Lib
variable {P:Program} {cx:Cx} {B B1:Base} {K:Nat→Prop} {g g' g1 g2:Gh} {R R1 R2:Nat→Value} {s:St} {h h' h1 h2 hF:Hp} {w w':World} {F F':Fz} {d d':List Up}
theorem fade_same {a:AV} (h:stale d a=false):fade d a=a:=by
 cases a with
 |agg cs=>
  simp only[stale]at h
  rw[List.any_eq_false]at h
  simp only[fade,fade1]
  congr 1
  conv=>rhs;rw[←List.map_id cs]
  refine List.map_congr_left fun c hc=>?_
  have:=h c hc
  unfold fadeC;rw[if_neg this];rfl
 |tup cs=>cases h
 |_=>
  simp only[stale]at h
  simp only[fade,fade1,fadeC,h];rfl
theorem unfade {a:AV} {v:Value} (hx:XD F g d a v) (h:stale d a=false) (h':stale d' a=false):XD F g d' a v:=by
 unfold XD at *
 rw[fade_same h]at hx
 rw[fade_same h'];exact hx
theorem staleC_nil {c:AV}:staleC [] c=false:=by cases c<;>rfl
theorem stale_nil {a:AV} (h:nonTup a=true):stale [] a=false:=by
 cases a with
 |int k n=>rfl
 |bool b=>rfl
 |str b=>rfl
 |nilp=>rfl
 |un=>rfl
 |fz l z es=>rfl
 |ow z es=>rfl
 |fp l e o=>rfl
 |bx e=>rfl
 |mp ks vs=>rfl
 |rf z pl o l=>rfl
 |ptr pl i o=>rfl
 |mrf r=>rfl
 |lk r l=>rfl
 |agg cs=>simp only[stale];rw[List.any_eq_false];intro c _;rw[staleC_nil];decide
 |tup cs=>cases h
theorem stale_of_refTo {r:Nat} {a:AV} (h:refTo r a=false):stale [.del r] a=false∧nonTup a=true:=by
 have cell:∀{n:Nat},(n==r)=false→Nat.beq r n=false:=by
  intro n hn
  exact nbF fun e=>by rw[e]at hn;simp at hn
 cases a with
 |rf sz pl off len=>
  refine⟨?_,rfl⟩
  simp only[refTo]at h
  simp only[stale,staleC,List.any_cons,List.any_nil,Up.hits,Bool.or_false]
  exact cell h
 |ptr pl i off=>
  refine⟨?_,rfl⟩
  simp only[refTo]at h
  simp only[stale,staleC,List.any_cons,List.any_nil,Up.hits,Bool.or_false]
  exact cell h
 |mrf q=>
  refine⟨?_,rfl⟩
  simp only[refTo]at h
  simp only[stale,staleC,List.any_cons,List.any_nil,Up.hits,Bool.or_false]
  exact cell h
 |agg cs=>
  refine⟨?_,rfl⟩
  simp only[refTo]at h
  rw[List.any_eq_false]at h
  simp only[stale]
  rw[List.any_eq_false]
  intro c hc
  have:=h c hc
  cases c<;>simp only[staleC,List.any_cons,List.any_nil,Up.hits,Bool.or_false,Bool.not_eq_true]at this ⊢
  ·exact cell this
  ·exact cell this
  ·exact cell this
 |tup cs=>simp[refTo]at h
 |_=>exact⟨rfl,rfl⟩
structure TX (F:Fz) (g:Gh) (d:List Up) (t:Hp) (ρ:Nat→Value):Prop where
 sorted:t.Pairwise fun x y=>y.1<x.1
 holds:∀x∈t,XD F g d x.2 (ρ x.1)
theorem hget_mem:∀{t:Hp} {i:Nat} {a:AV},hget t i=some a→(i,a)∈t
 |[],_,_,h=>by cases h
 |(k,x)::t,i,a,h=>by
  simp only[hget]at h
  by_cases e:i=k
  ·subst e;simp at h;subst h;exact List.mem_cons_self
  ·rw[nbF e,cond_false]at h;exact List.mem_cons_of_mem _ (hget_mem h)
theorem TX.get {t:Hp} {ρ:Nat→Value} (h:TX F g d t ρ) (i:Nat):XD F g d (tget t i) (ρ i):=by
 unfold tget
 cases hg:hget t i with
 |none=>exact .inl rfl
 |some a=>exact h.holds _ (hget_mem hg)
theorem tins_mem {i:Nat} {a:AV}:∀{t:Hp},t.Pairwise (fun x y=>y.1<x.1)→(tins t i a).Pairwise (fun x y=>y.1<x.1)∧∀x∈tins t i a,x=(i,a)∨(x∈t∧x.1≠i)
 |[],_=>⟨by simp[tins],fun x hx=>by simp[tins]at hx;exact .inl hx⟩
 |(k,y)::t,hp=>by
  obtain⟨h1,h2⟩:=List.pairwise_cons.1 hp
  simp only[tins]
  by_cases e:i=k
  ·subst e
   rw[nbT,cond_true]
   refine⟨List.pairwise_cons.2 ⟨h1,h2⟩,fun x hx=>?_⟩
   rcases List.mem_cons.1 hx with rfl|hx
   ·exact .inl rfl
   ·exact .inr ⟨List.mem_cons_of_mem _ hx,by have:=h1 x hx;simp at this;omega⟩
  ·rw[nbF e,cond_false]
   cases hb:Nat.ble k i with
   |true=>
    rw[cond_true]
    have hki:k<i:=by have:=Nat.le_of_ble_eq_true hb;omega
    refine⟨List.pairwise_cons.2 ⟨fun x hx=>?_,hp⟩,fun x hx=>?_⟩
    ·rcases List.mem_cons.1 hx with rfl|hx
     ·exact hki
     ·have:=h1 x hx;simp at this ⊢;omega
    ·rcases List.mem_cons.1 hx with rfl|hx
     ·exact .inl rfl
     ·refine .inr ⟨hx,?_⟩
      rcases List.mem_cons.1 hx with rfl|hx
      ·exact fun e'=>e e'.symm
      ·have:=h1 x hx;simp at this;omega
   |false=>
    rw[cond_false]
    have hki:i<k:=by
     rcases Nat.lt_or_ge i k with h|h
     ·exact h
     ·have:=Nat.ble_eq_true_of_le h;rw[hb]at this;cases this
    obtain⟨a1,a2⟩:=tins_mem (i:=i) (a:=a) h2
    refine⟨List.pairwise_cons.2 ⟨fun x hx=>?_,a1⟩,fun x hx=>?_⟩
    ·rcases a2 x hx with rfl|⟨hx,_⟩
     ·exact hki
     ·exact h1 x hx
    ·rcases List.mem_cons.1 hx with rfl|hx
     ·exact .inr ⟨List.mem_cons_self,fun e'=>e e'.symm⟩
     ·rcases a2 x hx with h|⟨h,h'⟩
      ·exact .inl h
      ·exact .inr ⟨List.mem_cons_of_mem _ h,h'⟩
theorem TX.put {t:Hp} {ρ:Nat→Value} (h:TX F g d t ρ) {i:Nat} {a:AV} {v:Value} (ha:XD F g d a v):TX F g d (tins t i a) (fun k=>if k=i then v else ρ k):=by
 obtain⟨h1,h2⟩:=tins_mem (i:=i) (a:=a) h.sorted
 refine⟨h1,fun x hx=>?_⟩
 rcases h2 x hx with rfl|⟨hx,hne⟩
 ·simp only[if_true];exact ha
 ·rw[if_neg hne];exact h.holds x hx
theorem TX.step {t:Hp} {ρ:Nat→Value} (h:TX F g d t ρ) (hF:F.le F') (hd:∀pl,okD d' pl→okD d pl) (hg:∀pl n,okD d' pl→g pl.r pl.p=some n→g' pl.r pl.p=some n):TX F' g' d' t ρ:=
 ⟨h.sorted,fun x hx=>(h.holds x hx).fade hF hd hg⟩
theorem keys_sorted {t t':Hp} (h:t'.map (·.1)=t.map (·.1)) (hs:t.Pairwise fun x y=>y.1<x.1):t'.Pairwise fun x y=>y.1<x.1:=by
 have h1:(t.map (·.1)).Pairwise fun x y=>y<x:=List.pairwise_map.2 hs
 rw[←h]at h1
 exact List.pairwise_map.1 h1
theorem clearR_keys {r:Nat}:∀{t:Hp},(clearR r t).map (·.1)=t.map (·.1)
 |[]=>rfl
 |(i,a)::t=>by simp[clearR,clearR_keys]
theorem clearR_mem {r:Nat}:∀{t:Hp},∀x∈clearR r t,x.2=.un∨(x∈t∧refTo r x.2=false)
 |[],x,hx=>by cases hx
 |(i,a)::t,x,hx=>by
  simp only[clearR]at hx
  rcases List.mem_cons.1 hx with rfl|hx
  ·by_cases e:refTo r a=true
   ·rw[if_pos e];exact .inl rfl
   ·rw[if_neg e];exact .inr ⟨List.mem_cons_self,by simpa using e⟩
  ·exact(clearR_mem x hx).imp id fun h=>⟨List.mem_cons_of_mem _ h.1,h.2⟩
theorem drop_ok {t:Hp} {ρ:Nat→Value} (H:RM B K g R h w) (hT:TX (mkF B g w) g [] t ρ) (r:Nat):RM B K (dropG g r) R (hdel h r) w∧TX (mkF B (dropG g r) w) (dropG g r) [] (clearR r t) ρ∧(mkF B g w).le (mkF B (dropG g r) w):=by
 have hsub:∀b o,owned (dropG g r) b o→owned g b o:=by
  rintro b o ⟨k,q,n,hn,hb⟩
  unfold dropG at hn
  by_cases e:k=r
  ·rw[if_pos e]at hn;cases hn
  ·rw[if_neg e]at hn;exact⟨k,q,n,hn,hb⟩
 refine⟨H.drop r,⟨keys_sorted clearR_keys hT.sorted,fun x hx=>?_⟩,le_sub hsub⟩
 rcases clearR_mem x hx with h|⟨hx,h⟩
 ·exact .inl h
 obtain⟨s1,s2⟩:=stale_of_refTo h
 refine unfade (d:=[.del r]) ?_ s1 (stale_nil s2)
 refine(hT.holds x hx).fade (le_sub hsub) (fun pl _=>(rfl:okD [] pl)) fun pl n ho hn=>?_
 unfold dropG
 rw[if_neg];exact hn
 rintro rfl
 simp[okD,Up.hits]at ho
end Go.Am
end
section
namespace Go.Am
open Go.RowKit Go.Lib
variable {P:Program} {cx:Cx} {B B1:Base} {K:Nat→Prop} {g g' g1 g2:Gh} {R R1 R2:Nat→Value} {h h' h1 h2 hF:Hp} {w w':World} {F F':Fz} {d d':List Up}
theorem killX_ok {ρ:Nat→Value}:∀{ops:List Oper} {s:St} {g:Gh},RM B K g R s.h w→TX (mkF B g w) g [] s.t ρ→
  ∃g',RM B K g' R (killX ops s).h w∧TX (mkF B g' w) g' [] (killX ops s).t ρ∧(mkF B g w).le (mkF B g' w)∧(∀r a,hget (killX ops s).h r=some a→hget s.h r=some a∧g' r=g r)∧(killX ops s).d=s.d∧(killX ops s).alias=s.alias
 |[],s,g,H,hT=>⟨g,H,hT,le_refl,fun r a ha=>⟨ha,rfl⟩,rfl,rfl⟩
 |o::os,s,g,H,hT=>by
  simp only[killX]
  cases hd:o.dst with
  |none=>exact killX_ok H hT
  |some d=>
   simp only
   have go:∃g',RM B K g' R (killX os {s with t:=clearR d s.t,h:=hdel s.h d}).h w∧TX (mkF B g' w) g' [] (killX os {s with t:=clearR d s.t,h:=hdel s.h d}).t ρ∧(mkF B g w).le (mkF B g' w)∧
     (∀r a,hget (killX os {s with t:=clearR d s.t,h:=hdel s.h d}).h r=some a→hget s.h r=some a∧g' r=g r)∧(killX os {s with t:=clearR d s.t,h:=hdel s.h d}).d=s.d∧(killX os {s with t:=clearR d s.t,h:=hdel s.h d}).alias=s.alias:=by
    obtain⟨a1,a2,a3⟩:=drop_ok H hT d
    obtain⟨g',b1,b2,b3,b4,b5,b6⟩:=killX_ok (ops:=os) (s:={s with t:=clearR d s.t,h:=hdel s.h d}) a1 a2
    refine⟨g',b1,b2,le_trans' a3 b3,fun r a ha=>?_,b5,b6⟩
    obtain⟨c1,c2⟩:=b4 r a ha
    simp only[hget_hdel]at c1
    split at c1
    ·cases c1
    ·rename_i hne
     refine⟨c1,c2.trans ?_⟩
     funext q
     simp only[dropG,if_neg hne]
   split<;>first
    |(split
      ·exact go
      ·exact killX_ok H hT)
    |exact killX_ok H hT
end Go.Am
end
section
namespace Go.Am
open Go.RowKit Go.Lib
theorem noLkL_mem:∀{l:List AV} {a:AV},noLkL l=true→a∈l→noLk a=true
 |x::l,a,h,hm=>by
  simp only[noLkL,Bool.and_eq_true]at h
  rcases List.mem_cons.1 hm with rfl|hm
  ·exact h.1
  ·exact noLkL_mem h.2 hm
theorem noLk_cells {e x:AV} {j:Nat} (h:noLk e=true) (hx:(cells e)[j]?=some x):noLk x=true:=by
 cases e with
 |agg cs=>exact noLkL_mem h (List.mem_of_getElem? hx)
 |_=>
  simp only[cells]at hx
  cases j with
  |zero=>simp at hx;subst hx;exact h
  |succ j=>simp at hx
theorem noLk_step {a x:AV} {t:Nat×Nat} (h:noLk a=true) (hx:step1 a t=some x):noLk x=true:=by
 obtain⟨i,j⟩:=t
 rcases step1_some hx with⟨sz,es,e,rfl,he,hj⟩|⟨e,rfl,rfl,hj⟩
 ·exact noLk_cells (noLkL_mem h (List.mem_of_getElem? he)) hj
 ·exact noLk_cells (e:=e) h hj
theorem noLk_get:∀{p:List (Nat×Nat)} {a:AV} {q len:Nat},noLk a=true→getT a p≠some (.lk q len)
 |[],a,q,len,h,e=>by simp[getT]at e;subst e;cases h
 |t::p,a,q,len,h,e=>by
  simp only[getT]at e
  cases hs:step1 a t with
  |none=>rw[hs]at e;cases e
  |some x=>rw[hs]at e;exact noLk_get (noLk_step h hs) e
theorem keepT_keys {d:List Up} {keep:Nat}:∀{t:Hp},((keepT d keep t).map (·.1)).Sublist (t.map (·.1))
 |[]=>.slnil
 |(i,a)::t=>by
  simp only[keepT]
  split
  ·exact .cons_cons _ keepT_keys
  ·exact .cons _ keepT_keys
theorem keepT_mem {d:List Up} {keep:Nat}:∀{t:Hp},∀x∈keepT d keep t,x.2=.un∨(x∈t∧stale d x.2=false)
 |[],x,hx=>by cases hx
 |(i,a)::t,x,hx=>by
  simp only[keepT]at hx
  have tl:x∈keepT d keep t→x.2=.un∨(x∈(i,a)::t∧stale d x.2=false):=fun hx=>(keepT_mem x hx).imp id fun h=>⟨List.mem_cons_of_mem _ h.1,h.2⟩
  split at hx
  ·rcases List.mem_cons.1 hx with rfl|hx
   ·by_cases e:stale d a=true
    ·rw[if_pos e];exact .inl rfl
    ·rw[if_neg e];exact .inr ⟨List.mem_cons_self,by simpa using e⟩
   ·exact tl hx
  ·exact tl hx
theorem keepT_ok {F:Fz} {g:Gh} {d:List Up} {keep:Nat} {t:Hp} {ρ:Nat→Value} (h:TX F g d t ρ):TX F g [] (keepT d keep t) ρ:=by
 refine⟨?_,fun x hx=>?_⟩
 ·have h1:(t.map (·.1)).Pairwise fun x y=>y<x:=List.pairwise_map.2 h.sorted
  exact List.pairwise_map.1 (h1.sublist keepT_keys)
 ·rcases keepT_mem x hx with e|⟨hx,s1⟩
  ·exact .inl e
  ·exact unfade (h.holds x hx) s1 (stale_nil (by cases hx2:x.2<;>first|rfl|(rw[hx2]at s1;cases s1)))
theorem RTL.mono' {F F':Fz} {g g':Gh} (hF:F.le F'):∀{cs:List AV} {vs:List Value},(∀c∈cs,∀pl n,refOf c=some pl→g pl.r pl.p=some n→g' pl.r pl.p=some n)→RTL F g cs vs→RTL F' g' cs vs
 |_,_,_,.nil=>.nil
 |_,_,h,.cons h1 h2=>.cons (h1.mono hF (h _ List.mem_cons_self)) (RTL.mono' hF (fun c hc=>h c (List.mem_cons_of_mem _ hc)) h2)
theorem refC_ref {h:Hp} {c:AV} {pl:Pl} (hc:refC h c=true) (hr:refOf c=some pl):(hget h pl.r).isSome=true:=by
 cases c<;>simp[refOf]at hr<;>subst hr<;>exact hc
theorem refIn_X {F F':Fz} {g g':Gh} {h:Hp} (hF:F.le F') (hg:∀r p n,(hget h r).isSome=true→g r p=some n→g' r p=some n) {a:AV} {v:Value} (hi:refIn h a=true) (hx:XD F g [] a v):XD F' g' [] a v:=by
 refine hx.imp id fun hx=>?_
 cases a with
 |tup cs=>cases hi
 |agg cs=>
  have e1:fade [] (.agg cs)=.agg cs:=fade_same (stale_nil rfl)
  rw[e1]at hx ⊢
  cases hx with
  |c h1=>cases h1 with
   |c h2=>cases h2 with
    |f h3=>cases h3
   |agg h2=>exact .c (.agg (RTL.mono' hF (fun c hc pl n hr hn=>hg _ _ n (refC_ref (List.all_eq_true.1 hi c hc) hr) hn) h2))
 |_=>
  rw[fade_same (stale_nil rfl)]at hx ⊢
  simp only[refIn]at hi
  cases hx with
  |c h1=>cases h1 with
   |c h2=>exact .c (.c (h2.mono hF fun pl n hr hn=>hg _ _ n (refC_ref hi hr) hn))
theorem noLkH_mem:∀{h:Hp},noLkH h=true→∀x∈h,noLk x.2=true
 |[],_,x,hx=>by cases hx
 |(i,a)::h,e,x,hx=>by
  simp only[noLkH,Bool.and_eq_true]at e
  rcases List.mem_cons.1 hx with rfl|hx
  ·exact e.1
  ·exact noLkH_mem e.2 x hx
variable {B:Base} {K:Nat→Prop} {g g':Gh} {R:Nat→Value} {h h':Hp} {w:World}
theorem TX.clear {F F':Fz} {t:Hp} {ρ:Nat→Value} {r:Nat} (hT:TX F g [] t ρ) (hle:F.le F') (hg:∀k p n,k≠r→g k p=some n→g' k p=some n):TX F' g' [] (clearR r t) ρ:=by
 refine⟨keys_sorted clearR_keys hT.sorted,fun x hx=>?_⟩
 rcases clearR_mem x hx with h|⟨hx,h⟩
 ·exact .inl h
 obtain⟨s1,s2⟩:=stale_of_refTo h
 refine unfade (d:=[.del r]) ?_ s1 (stale_nil s2)
 refine(hT.holds x hx).fade hle (fun pl _=>(rfl:okD [] pl)) fun pl n ho hn=>hg pl.r pl.p n ?_ hn
 rintro rfl
 simp[okD,Up.hits]at ho
theorem owned_att {r s:Nat} {P:List (Nat×Nat)} {b o:Nat} (hx:owned (attG g r P s) b o):owned g b o:=by
 obtain⟨k,q,n,hn,hb⟩:=hx
 unfold attG at hn
 split at hn
 ·cases hn
 ·split at hn
  ·exact⟨_,_,n,hn,hb⟩
  ·exact⟨_,_,n,hn,hb⟩
theorem owned_ren {r s:Nat} {b o:Nat} (hx:owned (renG g r s) b o):owned g b o:=by
 obtain⟨k,q,n,hn,hb⟩:=hx
 unfold renG at hn
 split at hn
 ·exact⟨_,_,n,hn,hb⟩
 ·split at hn
  ·cases hn
  ·exact⟨_,_,n,hn,hb⟩
theorem owned_cutR {r off len k cap:Nat} {m:Nd} (hm:g r []=some m) (hk:k+cap≤m.cap) {b o:Nat} (hx:owned (cutRG g r off len k cap) b o):owned g b o:=by
 obtain⟨s,q,n,hn,hb⟩:=hx
 unfold cutRG at hn
 split at hn
 ·cases q with
  |nil=>simp only[hm,Option.map_some,Option.some.injEq]at hn;subst hn;exact⟨r,[],m,hm,cutN_has hk hb⟩
  |cons ij q=>
   obtain⟨i,j⟩:=ij
   simp only at hn
   split at hn
   ·exact⟨_,_,n,hn,hb⟩
   ·cases hn
 ·exact⟨_,_,n,hn,hb⟩
theorem under_lk (H:RM B K g R h w) {r:Nat} {a:AV} {P q:List (Nat×Nat)} {k len:Nat} {n:Nd} (ha:hget h r=some a) (hp:getT a P=some (.lk k len)) (hn:g r q=some n):pre P q=false:=by
 cases hb:pre P q with
 |false=>rfl
 |true=>
  obtain⟨x,rfl⟩:=pre_iff.1 hb
  obtain⟨c,hc,hcn⟩:=(H.tree r a ha).dom _ n hn
  rw[getT_append,hp,Option.bind_some]at hc
  obtain⟨_,rfl⟩:=getT_leaf (c:=.lk k len) rfl hc
  cases hcn
theorem link_in (hfree:∀h,∃N,hget h N=none∧¬K N) (H:RM B K g R h w) {r len:Nat} {pl:Pl} {tr c a:AV} (ha:hget h pl.r=some a) (hp:getT a pl.p=some (.lk r len)) (hr:hget h r=some tr) (hne:pl.r≠r) (hpp:pl.p≠[])
  (hc:(∃sz es,tr=.ow sz es∧1≤len∧len≤es.length+1∧c=.ow sz (es.take (len - 1)))∨(∃e,tr=.bx e∧len=0∧c=.bx e)):
  ∃g' R',RM B K g' R' (Up.app (hdel h r) (.set pl c)) w∧(∀b o,owned g' b o→owned g b o)∧∀k p n,k≠r→g k p=some n→g' k p=some n:=by
 obtain⟨pr,pp⟩:=pl
 simp only at ha hp hne hpp
 obtain⟨p0,ij,rfl⟩:∃p0 ij,pp=p0++[ij]:=⟨pp.dropLast,pp.getLast hpp,(List.dropLast_concat_getLast hpp).symm⟩
 obtain⟨i,j⟩:=ij
 obtain⟨n,u,h1,h2,h3,h4,h5,h6⟩:=(H.tree _ a ha).inside hp
 obtain⟨_,_,h8⟩:=h6
 have hnodeT:isNode tr=true:=by rcases hc with⟨sz,es,rfl,_⟩|⟨e,rfl,_⟩<;>rfl
 have hnodeC:nonAgg c=true:=by rcases hc with⟨sz,es,_,_,_,rfl⟩|⟨e,_,_,rfl⟩<;>rfl
 obtain⟨nr,hnr⟩:∃nr,g r []=some nr:=by
  have:=(H.tree r tr hr).root
  rcases hc with⟨sz,es,rfl,_⟩|⟨e,rfl,_⟩
  ·obtain⟨m,e1,_⟩:=this;exact⟨m,e1⟩
  ·obtain⟨m,e1,_⟩:=this;exact⟨m,e1⟩
 obtain⟨_,h9⟩:=h8 nr hnr
 obtain⟨N,hN,hKN⟩:=hfree h
 have hrN:r≠N:=by rintro rfl;rw[hr]at hN;cases hN
 have hpN:pr≠N:=by rintro rfl;rw[ha]at hN;cases hN
 have r1:=H.rename hr hN hKN
 have hN1:hget (hins (hdel h r) N tr) N=some tr:=by rw[hget_hins,if_pos rfl]
 have ha1:hget (hins (hdel h r) N tr) pr=some a:=by rw[hget_hins,if_neg hpN,hget_hdel,if_neg hne];exact ha
 have hg1:renG g r N N []=some nr:=by simp[renG,hnr]
 have hgp:renG g r N pr p0=some n:=by unfold renG;rw[if_neg hpN,if_neg hne];exact h1
 have key:∃g2 R2,RM B K g2 R2 (hins (hins (hdel h r) N tr) N c) w∧(∀b o,owned g2 b o→owned g b o)∧(∀k q,k≠N→g2 k q=renG g r N k q)∧R2 N=u:=by
  rcases hc with⟨sz,es,rfl,c1,c2,rfl⟩|⟨e,rfl,c1,rfl⟩
  ·rcases h9 with⟨l,k,cap,e1,e2,e3,e4,e5⟩|⟨e1,_⟩
   ·have r2:=r1.cut (off:=0) (len:=l) (k:=k) (cap:=cap) hN1 hg1 hKN (by omega) e2 e3 e4
    have hl:len - 1=l:=by omega
    have hv:setR (setR R N (R r)) N (.slice (some ⟨nr.b,nr.o+k*nr.sz,none⟩) l cap) N=u:=by unfold setR;rw[if_pos rfl];exact e5.symm
    rw[hl]
    exact⟨_,_,r2,fun b o hx=>owned_ren (owned_cutR hg1 e2 hx),fun k' q hk=>by unfold cutRG;rw[if_neg hk],hv⟩
   ·omega
  ·rcases h9 with⟨l,k,cap,e1,_⟩|⟨_,e2⟩
   ·omega
   ·refine⟨_,_,r1.congr fun q=>?_,fun b o hx=>owned_ren hx,fun _ _ _=>rfl,?_⟩
    ·simp only[hget_hins];split<;>rfl
    ·unfold setR;rw[if_pos rfl]
     obtain⟨m,f1,_,_,_,f5⟩:=(H.tree r _ hr).root
     rw[hnr]at f1;cases f1
     rw[f5,e2]
 obtain⟨g2,R2,r2,o2,k2,v2⟩:=key
 have ha2:hget (hins (hins (hdel h r) N tr) N c) pr=some a:=by rw[hget_hins,if_neg hpN];exact ha1
 have r3:=r2.attach (s:=N) (c:=c) ha2 hp (by rw[hget_hins,if_pos rfl]) (fun e=>hpN e.symm) hnodeC (n:=n) (by rw[k2 _ _ hpN];exact hgp) (by rw[v2];exact h5)
 refine⟨_,_,r3.congr fun q=>?_,fun b o hx=>o2 b o (owned_att hx),fun k p m hk hm=>?_⟩
 ·have e1:hget (hdel h r) pr=some a:=by rw[hget_hdel,if_neg hne];exact ha
  simp only[Up.app,e1]
  simp only[hget_hins,hget_hdel]
  by_cases e2:q=N
  ·subst e2;rw[if_neg (fun e=>hpN e.symm),if_neg (fun e=>hrN e.symm),if_pos rfl];exact hN
  ·simp only[if_neg e2]
 ·have hkN:k≠N:=by rintro rfl;rw[H.void k hN p]at hm;cases hm
  unfold attG
  rw[if_neg hkN,if_neg,k2 _ _ hkN]
  ·unfold renG;rw[if_neg hkN,if_neg hk];exact hm
  ·rintro ⟨rfl,e2⟩
   rw[under_lk H ha hp hm]at e2;cases e2
theorem resolve_ok {ρ:Nat→Value} (hfree:∀h,∃N,hget h N=none∧¬K N):∀{us:List Up} {t t' h h':Hp} {g:Gh} {R:Nat→Value},RM B K g R h w→TX (mkF B g w) g [] t ρ→resolve us t h=some (t',h')→
  ∃g' R',RM B K g' R' h' w∧TX (mkF B g' w) g' [] t' ρ∧(mkF B g w).le (mkF B g' w)∧∀r a,hget h' r=some a→(∃a0,hget h r=some a0)∧∀n,g r []=some n→g' r []=some n
 |[],t,t',h,h',g,R,H,hT,he=>by
  simp only[resolve,Option.some.injEq,Prod.mk.injEq]at he
  obtain⟨rfl,rfl⟩:=he
  exact⟨g,R,H,hT,le_refl,fun r a ha=>⟨⟨a,ha⟩,fun n hn=>hn⟩⟩
 |u::us,t,t',h,h',g,R,H,hT,he=>by
  have skip:resolve us t h=some (t',h')→∃g' R',RM B K g' R' h' w∧TX (mkF B g' w) g' [] t' ρ∧(mkF B g w).le (mkF B g' w)∧∀r a,hget h' r=some a→(∃a0,hget h r=some a0)∧∀n,g r []=some n→g' r []=some n:=fun he=>resolve_ok hfree H hT he
  have main:∀(pl:Pl) (r len:Nat),resolve (.set pl (.lk r len)::us) t h=some (t',h')→∃g' R',RM B K g' R' h' w∧TX (mkF B g' w) g' [] t' ρ∧(mkF B g w).le (mkF B g' w)∧∀r a,hget h' r=some a→(∃a0,hget h r=some a0)∧∀n,g r []=some n→g' r []=some n:=by
   intro pl r len he
   simp only[resolve]at he
   split at he
   ·rename_i r' len' tr hp hr
    split at he
    ·cases he
    ·rename_i hcond
     have c1:r'=r:=Classical.byContradiction fun hx=>hcond (.inl hx)
     have c2:pl.r≠r:=fun hx=>hcond (.inr (.inl hx))
     have c3:len'=len:=Classical.byContradiction fun hx=>hcond (.inr (.inr (.inl hx)))
     have c4:pl.p≠[]:=fun hx=>hcond (.inr (.inr (.inr hx)))
     subst c1;subst c3
     obtain⟨a,ha,hpa⟩:=getP_some hp
     have go:∀c,((∃sz es,tr=.ow sz es∧1≤len'∧len'≤es.length+1∧c=.ow sz (es.take (len' - 1)))∨(∃e,tr=.bx e∧len'=0∧c=.bx e))→resolve us (clearR r' t) (Up.app (hdel h r') (.set pl c))=some (t',h')→
       ∃g' R',RM B K g' R' h' w∧TX (mkF B g' w) g' [] t' ρ∧(mkF B g w).le (mkF B g' w)∧∀r a,hget h' r=some a→(∃a0,hget h r=some a0)∧∀n,g r []=some n→g' r []=some n:=by
      intro c hc he
      obtain⟨g1,R1,a1,a2,a3⟩:=link_in hfree H ha hpa hr c2 c4 hc
      obtain⟨g',R',b1,b2,b3,b4⟩:=resolve_ok hfree a1 (hT.clear (le_sub a2) a3) he
      refine⟨g',R',b1,b2,le_trans' (le_sub a2) b3,fun k x hx=>?_⟩
      obtain⟨⟨y,hy⟩,d2⟩:=b4 k x hx
      have hkr:k≠r':=by
       rintro rfl
       have e1:hget (hdel h k) pl.r=some a:=by rw[hget_hdel,if_neg c2];exact ha
       simp only[Up.app,e1]at hy
       rw[hget_hins,if_neg (fun e=>c2 e.symm),hget_hdel,if_pos rfl]at hy;cases hy
      refine⟨?_,fun n hn=>d2 n (a3 k [] n hkr hn)⟩
      by_cases e:k=pl.r
      ·subst e;exact⟨a,ha⟩
      ·have e1:hget (hdel h r') pl.r=some a:=by rw[hget_hdel,if_neg c2];exact ha
       simp only[Up.app,e1]at hy
       rw[hget_hins,if_neg e,hget_hdel,if_neg hkr]at hy;exact⟨y,hy⟩
     split at he
     ·rename_i sz es
      split at he
      ·rename_i hl;exact go _ (.inl ⟨sz,es,rfl,hl.1,hl.2,rfl⟩) he
      ·cases he
     ·rename_i e
      split at he
      ·rename_i hl;exact go _ (.inr ⟨e,rfl,hl,rfl⟩) he
      ·cases he
     ·cases he
   ·cases he
  cases u with
  |set pl a=>
   cases a with
   |lk r len=>exact main pl r len he
   |_=>simp only[resolve]at he;exact skip he
  |_=>simp only[resolve]at he;exact skip he
end Go.Am
end
section
namespace Go.Am
open Go.RowKit Go.Lib
variable {B:Base} {K:Nat→Prop} {g g' g1 g2:Gh} {R R':Nat→Value} {h h' h1 h2:Hp} {w:World} {io keep:Nat}
def IoK (io:Nat) (h:Hp) (g:Gh) (h':Hp) (g':Gh):Prop:=∀r a,io.testBit r=true→hget h' r=some a→(∃a0,hget h r=some a0)∧∀n,g r []=some n→g' r []=some n
theorem IoK.refl:IoK io h g h g:=fun _ a _ ha=>⟨⟨a,ha⟩,fun _ hn=>hn⟩
theorem IoK.trans (a:IoK io h g h1 g1) (b:IoK io h1 g1 h2 g2):IoK io h g h2 g2:=fun r c hr ha=>by
 obtain⟨⟨a1,b1⟩,b2⟩:=b r c hr ha
 obtain⟨c1,c2⟩:=a r a1 hr b1
 exact⟨c1,fun n hn=>b2 n (c2 n hn)⟩
theorem renC_ok {F F':Fz} {r k:Nat} (hle:F.le F') (h1:∀p n,g r p=some n→g' k p=some n) (h2:∀q p n,q≠r→q≠k→g q p=some n→g' q p=some n) {a:AV} {v:Value} (hk:∀pl,refOf a=some pl→pl.r≠k) (hx:RT F g a v):RT F' g' (renC r k a) v:=by
 cases hx with
 |f hf=>
  have e:renC r k a=a:=by cases hf<;>rfl
  rw[e];exact .f (hf.mono hle)
 |rf pl off len cap kk n a1 a2 a3 a4 a5=>
  simp only[renC]
  by_cases e:pl.r=r
  ·rw[if_pos e];exact .rf ⟨k,pl.p⟩ off len cap kk n (h1 _ _ (e▸a1)) a2 a3 a4 a5
  ·rw[if_neg e];exact .rf pl off len cap kk n (h2 _ _ _ e (hk pl rfl) a1) a2 a3 a4 a5
 |ptr pl i off n a1 a2=>
  simp only[renC]
  by_cases e:pl.r=r
  ·rw[if_pos e];exact .ptr ⟨k,pl.p⟩ i off n (h1 _ _ (e▸a1)) a2
  ·rw[if_neg e];exact .ptr pl i off n (h2 _ _ _ e (hk pl rfl) a1) a2
 |mrf q n a1 a2=>
  simp only[renC]
  by_cases e:q=r
  ·rw[if_pos e];exact .mrf k n (h1 _ _ (e▸a1)) a2
  ·rw[if_neg e];exact .mrf q n (h2 _ _ _ e (hk ⟨q,[]⟩ rfl) a1) a2
theorem renL_ok {F F':Fz} {r k:Nat} (hle:F.le F') (h1:∀p n,g r p=some n→g' k p=some n) (h2:∀q p n,q≠r→q≠k→g q p=some n→g' q p=some n):∀{cs:List AV} {vs:List Value},(∀a∈cs,∀pl,refOf a=some pl→pl.r≠k)→RTL F g cs vs→RTL F' g' (cs.map (renC r k)) vs
 |_,_,_,.nil=>.nil
 |_,_,hk,.cons a1 a2=>.cons (renC_ok hle h1 h2 (hk _ List.mem_cons_self) a1) (renL_ok hle h1 h2 (fun a ha=>hk a (List.mem_cons_of_mem _ ha)) a2)
theorem refTo_cell {k:Nat} {a:AV} (h:refTo k a=false) {pl:Pl} (hr:refOf a=some pl):pl.r≠k:=by
 cases a<;>simp[refOf]at hr<;>subst hr<;>simpa[refTo]using h
theorem refTo_agg {k:Nat} {cs:List AV} (h:refTo k (.agg cs)=false):∀a∈cs,∀pl,refOf a=some pl→pl.r≠k:=by
 intro a ha pl hr
 simp only[refTo]at h
 rw[List.any_eq_false]at h
 have:=h a ha
 cases a<;>simp[refOf]at hr<;>subst hr<;>simpa using this
theorem ren_ok {F F':Fz} {r k:Nat} (hle:F.le F') (h1:∀p n,g r p=some n→g' k p=some n) (h2:∀q p n,q≠r→q≠k→g q p=some n→g' q p=some n) {a:AV} {v:Value} (hk:refTo k a=false) (hx:XD F g [] a v):XD F' g' [] (ren r k a) v:=by
 rcases hx with rfl|hx
 ·exact .inl rfl
 ·have hnt:=(stale_of_refTo hk).2
  rw[fade_same (stale_nil hnt)]at hx
  cases a with
  |tup cs=>cases hnt
  |agg cs=>
   refine .inr ?_
   have e1:ren r k (.agg cs)=.agg (cs.map (renC r k)):=rfl
   rw[e1,fade_same (stale_nil rfl)]
   cases hx with
   |c hx=>cases hx with
    |c hx=>cases hx with
     |f hx=>cases hx
    |agg hx=>exact .c (.agg (renL_ok hle h1 h2 (refTo_agg hk) hx))
  |_=>
   refine .inr ?_
   rw[fade_same (stale_nil (by simp only[ren,renC]<;>(try split)<;>rfl))]
   cases hx with
   |c hx=>cases hx with
    |c hx=>exact .c (.c (renC_ok hle h1 h2 (fun pl hr=>refTo_cell hk hr) hx))
theorem owned_drop {k b o:Nat} (hx:owned (dropG g k) b o):owned g b o:=by
 obtain⟨q,p,n,hn,hb⟩:=hx
 unfold dropG at hn
 split at hn
 ·cases hn
 ·exact⟨_,_,n,hn,hb⟩
theorem adopt_ok {ρ:Nat→Value} {s:St} {k:Nat} (hkk:keep.testBit k=true) (H:RM B (fun _=>False) g R s.h w) (hT:TX (mkF B g w) g [] s.t ρ):
  ∃g' R',RM B (fun _=>False) g' R' (adopt keep io k s).h w∧TX (mkF B g' w) g' [] (adopt keep io k s).t ρ∧(mkF B g w).le (mkF B g' w)∧IoK io s.h g (adopt keep io k s).h g':=by
 have nop:∃g' R',RM B (fun _=>False) g' R' s.h w∧TX (mkF B g' w) g' [] s.t ρ∧(mkF B g w).le (mkF B g' w)∧IoK io s.h g s.h g':=⟨g,R,H,hT,le_refl,.refl⟩
 unfold adopt
 split
 ·exact nop
 ·rename_i r _
  split
  ·exact nop
  ·rename_i hc
   simp only[Bool.or_eq_true,not_or,Bool.not_eq_true]at hc
   obtain⟨c1,c2⟩:=hc
   split
   ·exact nop
   ·rename_i tr hr
    have hrk:r≠k:=by rintro rfl;rw[c1]at hkk;cases hkk
    have r1:=H.drop k
    have r2:=r1.rename (r:=r) (s:=k) (a:=tr) (by rw[hget_hdel,if_neg hrk];exact hr) (by rw[hget_hdel,if_pos rfl]) (fun h=>h)
    have hle:(mkF B g w).le (mkF B (renG (dropG g k) r k) w):=le_sub fun b o hx=>owned_drop (owned_ren hx)
    have e1:∀p n,g r p=some n→renG (dropG g k) r k k p=some n:=fun p n hn=>by simp only[renG,dropG,if_pos,if_neg hrk];exact hn
    have e2:∀q p n,q≠r→q≠k→g q p=some n→renG (dropG g k) r k q p=some n:=fun q p n a1 a2 hn=>by simp only[renG,dropG,if_neg a1,if_neg a2];exact hn
    refine⟨_,_,r2,⟨?_,fun x hx=>?_⟩,hle,fun q a hq ha=>?_⟩
    ·have:=keys_sorted (clearR_keys (r:=k)) hT.sorted
     simp only
     exact List.Pairwise.map _ (fun _ _ hxy=>hxy) this
    ·simp only[List.mem_map]at hx
     obtain⟨y,hy,rfl⟩:=hx
     rcases clearR_mem y hy with h|⟨hy,h⟩
     ·rw[h];exact .inl rfl
     ·exact ren_ok hle e1 e2 h (hT.holds y hy)
    ·have hqk:q≠k:=by rintro rfl;rw[c2]at hq;cases hq
     simp only at ha
     rw[hget_hins,if_neg hqk,hget_hdel]at ha
     split at ha
     ·cases ha
     ·rename_i hqr
      rw[hget_hdel,if_neg hqk]at ha
      exact⟨⟨a,ha⟩,fun n hn=>e2 q [] n hqr hqk hn⟩
theorem adoptAll_ok {ρ:Nat→Value}:∀{ops:List Oper} {s:St} {g:Gh} {R:Nat→Value},RM B (fun _=>False) g R s.h w→TX (mkF B g w) g [] s.t ρ→
  ∃g' R',RM B (fun _=>False) g' R' (adoptAll keep io ops s).h w∧TX (mkF B g' w) g' [] (adoptAll keep io ops s).t ρ∧(mkF B g w).le (mkF B g' w)∧IoK io s.h g (adoptAll keep io ops s).h g'
 |[],s,g,R,H,hT=>⟨g,R,H,hT,le_refl,.refl⟩
 |o::os,s,g,R,H,hT=>by
  simp only[adoptAll]
  split
  ·rename_i d hd
   split
   ·rename_i hk
    split
    ·obtain⟨g1,R1,a1,a2,a3,a4⟩:=adopt_ok (io:=io) hk H hT
     obtain⟨g2,R2,b1,b2,b3,b4⟩:=adoptAll_ok (ops:=os) a1 a2
     exact⟨g2,R2,b1,b2,le_trans' a3 b3,a4.trans b4⟩
    ·exact adoptAll_ok H hT
   ·exact adoptAll_ok H hT
  ·exact adoptAll_ok H hT
theorem hget_keepH (r:Nat):∀{h:Hp},hget (keepH keep h) r=if keep.testBit r=true then hget h r else none
 |[]=>by simp[keepH,hget]
 |(k,a)::h=>by
  simp only[keepH]
  by_cases hk:keep.testBit k=true
  ·rw[if_pos hk]
   simp only[hget]
   by_cases e:r=k
   ·subst e;rw[nbT,cond_true,cond_true,if_pos hk]
   ·rw[nbF e,cond_false,cond_false];exact hget_keepH r
  ·rw[if_neg hk,hget_keepH r]
   by_cases e:r=k
   ·subst e;rw[if_neg hk,if_neg hk]
   ·simp only[hget,nbF e,cond_false]
theorem drops_ok:∀(ks:List Nat) {g:Gh} {h:Hp},RM B K g R h w→∃g',RM B K g' R (ks.foldl hdel h) w∧(∀b o,owned g' b o→owned g b o)∧(∀r,r ∉ ks→g' r=g r)∧∀r,hget (ks.foldl hdel h) r=if r∈ks then none else hget h r
 |[],g,h,H=>⟨g,H,fun _ _ hx=>hx,fun _ _=>rfl,fun r=>by simp⟩
 |k::ks,g,h,H=>by
  obtain⟨g',a1,a2,a3,a4⟩:=drops_ok ks (H.drop k)
  refine⟨g',a1,fun b o hx=>owned_drop (a2 b o hx),fun r hr=>?_,fun r=>?_⟩
  ·simp only[List.mem_cons,not_or]at hr
   rw[a3 r hr.2];funext p;simp only[dropG,if_neg hr.1]
  ·simp only[List.foldl_cons,a4 r,hget_hdel,List.mem_cons]
   by_cases e:r=k
   ·simp[e]
   ·simp[e]
theorem keepH_ok (H:RM B K g R h w):∃g',RM B K g' R (keepH keep h) w∧(∀b o,owned g' b o→owned g b o)∧∀r,keep.testBit r=true→g' r=g r:=by
 obtain⟨g',a1,a2,a3,a4⟩:=drops_ok ((h.map (·.1)).filter fun r=> !keep.testBit r) H
 refine⟨g',a1.congr fun r=>?_,a2,fun r hr=>a3 r fun hm=>?_⟩
 ·rw[a4 r,hget_keepH]
  by_cases hk:keep.testBit r=true
  ·rw[if_pos hk,if_neg]
   intro hm
   have:=(List.mem_filter.1 hm).2
   simp[hk]at this
  ·rw[if_neg hk]
   cases hr:hget h r with
   |none=>simp
   |some a=>
    rw[if_pos]
    refine List.mem_filter.2 ⟨List.mem_map.2 ⟨(r,a),hget_mem hr,rfl⟩,by simpa using hk⟩
 ·have:=(List.mem_filter.1 hm).2
  simp[hr]at this
theorem keepR_keys {h:Hp}:∀{t:Hp},(keepR h t).map (·.1)=t.map (·.1)
 |[]=>rfl
 |(i,a)::t=>by simp[keepR,keepR_keys]
theorem keepR_mem {h:Hp}:∀{t:Hp},∀x∈keepR h t,x.2=.un∨(x∈t∧refIn h x.2=true)
 |[],x,hx=>by cases hx
 |(i,a)::t,x,hx=>by
  simp only[keepR]at hx
  rcases List.mem_cons.1 hx with rfl|hx
  ·by_cases e:refIn h a=true
   ·rw[if_pos e];exact .inr ⟨List.mem_cons_self,e⟩
   ·rw[if_neg e];exact .inl rfl
  ·exact(keepR_mem x hx).imp id fun h=>⟨List.mem_cons_of_mem _ h.1,h.2⟩
theorem Kd_none {d:List Up} (h:d.any isLkU=false) (q:Nat):¬Kd d q:=by
 rintro ⟨pl,len,hm⟩
 rw[List.any_eq_false]at h
 exact h _ hm rfl
theorem finX_ok {ρ:Nat→Value} {s s':St} {ops:List Oper} (H:RM B (Kd s.d) g R s.h w) (hT:TX (mkF B g w) g s.d s.t ρ) (he:finX keep io ops s=some s'):
  ∃g' R',RM B (fun _=>False) g' R' s'.h w∧TX (mkF B g' w) g' [] s'.t ρ∧(mkF B g w).le (mkF B g' w)∧s'.d=[]∧IoK io s.h g s'.h g':=by
 unfold finX at he
 split at he
 ·cases he
 ·rename_i t h hres
  obtain⟨g1,R1,a1,a2,a3,a4⟩:=resolve_ok (fun h=>free_no h s.d) H (keepT_ok hT) hres
  split at he
  ·cases he
  ·rename_i hlk
   have b1:RM B (fun _=>False) g1 R1 h w:=by
    refine⟨a1.chg,a1.tree,a1.void,a1.disj,a1.blk,fun r a p q len ha hq=>?_,a1.inn⟩
    cases hany:s.d.any isLkU with
    |false=>exact Kd_none hany q (a1.lks r a p q len ha hq)
    |true=>
     simp only[hany,Bool.true_and,Bool.not_eq_true',Bool.not_eq_false]at hlk
     exact noLk_get (noLkH_mem hlk _ (hget_mem ha)) hq
   obtain⟨g2,R2,c1,c2,c3,c4⟩:=adoptAll_ok (keep:=keep) (io:=io) (ops:=ops) (s:={t:=t,h:=h,d:=[],alias:=false}) b1 a2
   obtain⟨g3,d1,d2,d3⟩:=keepH_ok (keep:=keep) c1
   simp only[fH_eq,fT_eq,Option.some.injEq]at he
   subst he
   simp only
   refine⟨g3,R2,d1,⟨?_,fun x hx=>?_⟩,le_trans' a3 (le_trans' c3 (le_sub d2)),trivial,?_⟩
   ·exact keys_sorted keepR_keys c2.sorted
   ·rcases keepR_mem x hx with e|⟨hx,e⟩
    ·exact .inl e
    refine refIn_X (le_sub d2) (fun r p n hr hn=>?_) e (c2.holds x hx)
    rw[hget_keepH]at hr
    split at hr
    ·rename_i hk;rw[d3 r hk];exact hn
    ·cases hr
   ·refine IoK.trans (h1:=h) (g1:=g1) (fun r a _ ha=>a4 r a ha) (c4.trans fun r a _ ha=>?_)
    rw[hget_keepH]at ha
    split at ha
    ·rename_i hk;exact⟨⟨a,ha⟩,fun n hn=>by rw[d3 r hk];exact hn⟩
    ·cases ha
end Go.Am
end
section
namespace Go.Am
open Go.RowKit Go.Lib
def hd:AV→AV
 | .ow sz es=>.ow sz (es.map fun e=>.agg (List.replicate (cells e).length .un))
 | .bx e=>.bx (.agg (List.replicate (cells e).length .un))
 | .mp _ _=>.mp [] []
 |a=>a
def SameR (s s':St) (r:Rd):Prop:=
 (s.d.any (·.hits r)=false→s'.d.any (·.hits r)=false)∧(r.deep=true→getP s'.h r.pl=getP s.h r.pl)∧(getP s'.h r.pl).map hd=(getP s.h r.pl).map hd
structure Ag (s s':St) (rs:List Rd):Prop where
 al:s'.alias=s.alias
 rd:∀r∈rs,SameR s s' r
variable {s s':St} {cx:Cx}
theorem Ag.sub {rs ts:List Rd} (h:Ag s s' rs) (hs:∀r∈ts,r∈rs):Ag s s' ts:=⟨h.al,fun r hr=>h.rd r (hs r hr)⟩
theorem Ag.l {rs ts:List Rd} (h:Ag s s' (rs++ts)):Ag s s' rs:=h.sub fun _ hr=>List.mem_append_left _ hr
theorem Ag.r {rs ts:List Rd} (h:Ag s s' (rs++ts)):Ag s s' ts:=h.sub fun _ hr=>List.mem_append_right _ hr
theorem Ag.tl {r:Rd} {rs:List Rd} (h:Ag s s' (r::rs)):Ag s s' rs:=h.sub fun _ hr=>List.mem_cons_of_mem _ hr
theorem Ag.hd {r:Rd} {rs:List Rd} (h:Ag s s' (r::rs)):SameR s s' r:=h.rd r List.mem_cons_self
theorem look_ag {pl:Pl} {c:AV} (h:SameR s s' ⟨pl,true⟩) (hl:look s true pl=some c):look s' true pl=some c:=by
 obtain⟨h1,h2⟩:=look_some hl
 unfold look
 rw[h.1 h1,h.2.1 rfl]
 simpa using h2
theorem look_hd {pl:Pl} {c:AV} (h:SameR s s' ⟨pl,false⟩) (hl:look s false pl=some c):∃c',look s' false pl=some c'∧Am.hd c'=Am.hd c:=by
 obtain⟨h1,h2⟩:=look_some hl
 have h3:=h.2.2
 simp only at h3
 rw[h2]at h3
 cases hx:getP s'.h pl with
 |none=>rw[hx]at h3;cases h3
 |some c'=>
  rw[hx]at h3
  simp only[Option.map_some,Option.some.injEq]at h3
  refine⟨c',?_,h3⟩
  unfold look
  rw[h.1 h1]
  simpa using hx
theorem use_ag {pl:Pl} (h:SameR s s' ⟨pl,false⟩) (hl:useOk s pl=true):useOk s' pl=true:=by
 unfold useOk at *
 simp only[Bool.not_eq_true']at *
 exact h.1 hl
theorem hd_ow {c:AV} {sz:Nat} {es:List AV} (h:hd c=hd (.ow sz es)):∃es',c=.ow sz es'∧es'.length=es.length∧∀i:Nat,(es'[i]?).map (fun e=>(cells e).length)=(es[i]?).map fun e=>(cells e).length:=by
 cases c<;>simp only[hd]at h<;>try cases h
 rename_i sz' es'
 simp only[AV.ow.injEq]at h
 obtain⟨rfl,h⟩:=h
 refine⟨es',rfl,by simpa using congrArg List.length h,fun i=>?_⟩
 have:=congrArg (fun l:List AV=>(l[i]?).map fun e=>(cells e).length) h
 simp only[List.getElem?_map,Option.map_map,Function.comp_def,cells,List.length_replicate]at this
 exact this
theorem hd_view {c c':AV} {pl:Pl} (h:hd c'=hd c):view pl c'=view pl c:=by
 cases c with
 |ow sz es=>obtain⟨es',rfl,h1,_⟩:=hd_ow h;simp only[view,h1]
 |bx e=>cases c'<;>simp only[hd]at h<;>first|rfl|cases h
 |mp ks vs=>cases c'<;>simp only[hd]at h<;>first|rfl|cases h
 |_=>cases c'<;>simp only[hd]at h<;>cases h<;>rfl
theorem absorb1_ag {a x:AV} {rs:List Rd} {us:List Up} (h:absorb1 s a=some (x,rs,us)) (hA:Ag s s' rs):absorb1 s' a=some (x,rs,us):=by
 cases a with
 |rf sz pl off len=>
  unfold absorb1 at h ⊢
  simp only at h ⊢
  rw[hA.al]
  split at h
  ·rename_i hc;rw[if_pos hc];exact h
  ·rename_i hc
   rw[if_neg hc]
   split at h
   ·rename_i sz' es hl
    split at h
    ·rename_i hb
     simp only[Option.some.injEq,Prod.mk.injEq]at h
     obtain⟨rfl,rfl,rfl⟩:=h
     rw[look_ag hA.hd hl]
     simp only;rw[if_pos hb]
    ·cases h
   ·cases h
 |ptr pl i off=>
  unfold absorb1 at h ⊢
  simp only at h ⊢
  rw[hA.al]
  split at h
  ·rename_i hc;rw[if_pos hc];exact h
  ·rename_i hc
   rw[if_neg hc]
   split at h
   ·rename_i hb
    rw[if_pos hb]
    split at h
    ·rename_i e hl
     simp only[Option.some.injEq,Prod.mk.injEq]at h
     obtain⟨rfl,rfl,rfl⟩:=h
     rw[look_ag hA.hd hl]
    ·cases h
   ·cases h
 |_=>exact h
theorem absorbL_ag:∀{l:List AV} {x:List AV} {rs:List Rd} {us:List Up},absorbL s l=some (x,rs,us)→Ag s s' rs→absorbL s' l=some (x,rs,us)
 |[],x,rs,us,h,hA=>h
 |a::l,x,rs,us,h,hA=>by
  simp only[absorbL]at h ⊢
  cases h1:absorb1 s a with
  |none=>rw[h1]at h;cases h
  |some p=>
   obtain⟨y,r,u⟩:=p
   rw[h1]at h
   simp only at h
   cases h2:absorbL s l with
   |none=>rw[h2]at h;cases h
   |some q=>
    obtain⟨ys,r2,u2⟩:=q
    rw[h2]at h
    simp only[Option.some.injEq,Prod.mk.injEq]at h
    obtain⟨rfl,rfl,rfl⟩:=h
    rw[absorb1_ag h1 hA.l,absorbL_ag h2 hA.r]
theorem absorbE_ag {a x:AV} {rs:List Rd} {us:List Up} (h:absorbE s a=some (x,rs,us)) (hA:Ag s s' rs):absorbE s' a=some (x,rs,us):=by
 cases a with
 |agg cs=>
  simp only[absorbE]at h ⊢
  cases h2:absorbL s cs with
  |none=>rw[h2]at h;cases h
  |some q=>
   obtain⟨ys,r2,u2⟩:=q
   rw[h2]at h
   simp only[Option.some.injEq,Prod.mk.injEq]at h
   obtain⟨rfl,rfl,rfl⟩:=h
   rw[absorbL_ag h2 hA]
 |_=>simp only[absorbE]at h ⊢;exact absorb1_ag h hA
theorem putNew_ag {pl:Pl} {i:Nat}:∀{l:List AV} {off:Nat} {x:List AV} {rs:List Rd} {us:List Up},putNew s pl i off l=some (x,rs,us)→Ag s s' rs→putNew s' pl i off l=some (x,rs,us)
 |[],off,x,rs,us,h,hA=>h
 |a::l,off,x,rs,us,h,hA=>by
  simp only[putNew]at h ⊢
  cases h1:absorb1 s a with
  |none=>rw[h1]at h;cases h
  |some p=>
   obtain⟨y,r,u⟩:=p
   rw[h1]at h
   simp only at h
   cases h2:putNew s pl i (off+1) l with
   |none=>rw[h2]at h;cases h
   |some q=>
    obtain⟨ys,r2,u2⟩:=q
    rw[h2]at h
    cases u with
    |nil=>
     simp only[Option.some.injEq,Prod.mk.injEq]at h
     obtain⟨rfl,rfl,rfl⟩:=h
     rw[absorb1_ag h1 hA.l,putNew_ag h2 hA.r]
    |cons u0 u=>
     simp only[Option.some.injEq,Prod.mk.injEq]at h
     obtain⟨rfl,rfl,rfl⟩:=h
     rw[absorb1_ag h1 hA.l,putNew_ag h2 hA.r]
theorem putEl_ag {pl:Pl} {i:Nat} {e x:AV} {rs:List Rd} {us:List Up} (h:putEl s pl i e=some (x,rs,us)) (hA:Ag s s' rs):putEl s' pl i e=some (x,rs,us):=by
 unfold putEl at h ⊢
 cases e with
 |agg cs=>
  simp only at h ⊢
  cases h2:putNew s pl i 0 cs with
  |none=>rw[h2]at h;cases h
  |some q=>
   obtain⟨ys,r2,u2⟩:=q
   rw[h2]at h
   simp only[Option.some.injEq,Prod.mk.injEq]at h
   obtain⟨rfl,rfl,rfl⟩:=h
   rw[putNew_ag h2 hA]
 |_=>
  simp only at h ⊢
  split at h
  ·rename_i b r u h2
   simp only[Option.some.injEq,Prod.mk.injEq]at h
   obtain⟨rfl,rfl,rfl⟩:=h
   rw[putNew_ag h2 hA]
  ·cases h
theorem putEls_ag {pl:Pl}:∀{l:List AV} {i:Nat} {x:List AV} {rs:List Rd} {us:List Up},putEls s pl i l=some (x,rs,us)→Ag s s' rs→putEls s' pl i l=some (x,rs,us)
 |[],off,x,rs,us,h,hA=>h
 |a::l,i,x,rs,us,h,hA=>by
  simp only[putEls]at h ⊢
  cases h1:putEl s pl i a with
  |none=>rw[h1]at h;cases h
  |some p=>
   obtain⟨y,r,u⟩:=p
   rw[h1]at h
   simp only at h
   cases h2:putEls s pl (i+1) l with
   |none=>rw[h2]at h;cases h
   |some q=>
    obtain⟨ys,r2,u2⟩:=q
    rw[h2]at h
    simp only[Option.some.injEq,Prod.mk.injEq]at h
    obtain⟨rfl,rfl,rfl⟩:=h
    rw[putEl_ag h1 hA.l,putEls_ag h2 hA.r]
theorem tail1_ag {a x:AV} {dst:Pl} {rs:List Rd} {us:List Up} (h:(match absorb1 s a with|some (x,r,us)=>some (x,r,us++[Up.set dst x])|none=>none)=some (x,rs,us)) (hA:Ag s s' rs):
  (match absorb1 s' a with|some (x,r,us)=>some (x,r,us++[Up.set dst x])|none=>none)=some (x,rs,us):=by
 cases h1:absorb1 s a with
 |none=>rw[h1]at h;cases h
 |some p=>
  obtain⟨y,r,u⟩:=p
  rw[h1]at h
  simp only[Option.some.injEq,Prod.mk.injEq]at h
  obtain⟨rfl,rfl,rfl⟩:=h
  rw[absorb1_ag h1 hA]
theorem putSt1_ag {keep:Nat} {dst:Pl} {a x:AV} {rs:List Rd} {us:List Up} (h:putSt1 s keep dst a=some (x,rs,us)) (hA:Ag s s' rs):putSt1 s' keep dst a=some (x,rs,us):=by
 cases a with
 |rf sz pl off len=>
  simp only[putSt1]at h ⊢
  rw[hA.al]
  split at h
  ·rename_i hc;rw[if_pos hc];exact h
  ·rename_i hc
   rw[if_neg hc]
   split at h
   ·rename_i hb
    rw[if_pos hb]
    cases hu:useOk s pl with
    |false=>rw[hu]at h;cases h
    |true=>
     rw[hu]at h
     simp only[cond_true,Option.some.injEq,Prod.mk.injEq]at h
     obtain⟨rfl,rfl,rfl⟩:=h
     rw[use_ag hA.hd hu];rfl
   ·rename_i hb
    rw[if_neg hb]
    split at h
    ·rename_i hq
     rw[if_pos hq]
     split at h
     ·rename_i sz' es hl
      split at h
      ·rename_i hz
       simp only[Option.some.injEq,Prod.mk.injEq]at h
       obtain⟨rfl,rfl,rfl⟩:=h
       rw[look_ag hA.hd hl]
       simp only;rw[if_pos hz]
      ·cases h
     ·cases h
    ·rename_i hq
     rw[if_neg hq]
     exact tail1_ag h hA
 |ptr pl i off=>
  simp only[putSt1]at h ⊢
  rw[hA.al]
  split at h
  ·rename_i hb
   rw[if_pos hb]
   cases hu:useOk s pl with
   |false=>rw[hu]at h;cases h
   |true=>
    rw[hu]at h
    simp only[cond_true,Option.some.injEq,Prod.mk.injEq]at h
    obtain⟨rfl,rfl,rfl⟩:=h
    rw[use_ag hA.hd hu];rfl
  ·rename_i hb
   rw[if_neg hb]
   exact tail1_ag h hA
 |int k n=>simp only[putSt1]at h ⊢;exact tail1_ag (s:=s) (s':=s') (a:=.int k n) (dst:=dst) h hA
 |bool b=>simp only[putSt1]at h ⊢;exact tail1_ag (s:=s) (s':=s') (a:=.bool b) (dst:=dst) h hA
 |str b=>simp only[putSt1]at h ⊢;exact tail1_ag (s:=s) (s':=s') (a:=.str b) (dst:=dst) h hA
 |nilp=>simp only[putSt1]at h ⊢;exact tail1_ag (s:=s) (s':=s') (a:=.nilp) (dst:=dst) h hA
 |un=>simp only[putSt1]at h ⊢;exact tail1_ag (s:=s) (s':=s') (a:=.un) (dst:=dst) h hA
 |fz l z es=>simp only[putSt1]at h ⊢;exact tail1_ag (s:=s) (s':=s') (a:=.fz l z es) (dst:=dst) h hA
 |ow z es=>simp only[putSt1]at h ⊢;exact tail1_ag (s:=s) (s':=s') (a:=.ow z es) (dst:=dst) h hA
 |fp l e o=>simp only[putSt1]at h ⊢;exact tail1_ag (s:=s) (s':=s') (a:=.fp l e o) (dst:=dst) h hA
 |bx e=>simp only[putSt1]at h ⊢;exact tail1_ag (s:=s) (s':=s') (a:=.bx e) (dst:=dst) h hA
 |mp ks vs=>simp only[putSt1]at h ⊢;exact tail1_ag (s:=s) (s':=s') (a:=.mp ks vs) (dst:=dst) h hA
 |agg cs=>simp only[putSt1]at h ⊢;exact tail1_ag (s:=s) (s':=s') (a:=.agg cs) (dst:=dst) h hA
 |tup cs=>simp only[putSt1]at h ⊢;exact tail1_ag (s:=s) (s':=s') (a:=.tup cs) (dst:=dst) h hA
 |mrf r=>simp only[putSt1]at h ⊢;exact tail1_ag (s:=s) (s':=s') (a:=.mrf r) (dst:=dst) h hA
 |lk r l=>simp only[putSt1]at h ⊢;exact tail1_ag (s:=s) (s':=s') (a:=.lk r l) (dst:=dst) h hA
theorem putSt_ag {keep:Nat} {pl:Pl} {i:Nat}:∀{l:List AV} {off:Nat} {rs:List Rd} {us:List Up},putSt s keep pl i off l=some (rs,us)→Ag s s' rs→putSt s' keep pl i off l=some (rs,us)
 |[],off,rs,us,h,hA=>h
 |a::l,off,rs,us,h,hA=>by
  simp only[putSt]at h ⊢
  cases h1:putSt1 s keep (pl.cell i off) a with
  |none=>rw[h1]at h;cases h
  |some p=>
   obtain⟨y,r,u⟩:=p
   rw[h1]at h
   simp only at h
   cases h2:putSt s keep pl i (off+1) l with
   |none=>rw[h2]at h;cases h
   |some q=>
    obtain⟨r2,u2⟩:=q
    rw[h2]at h
    simp only[Option.some.injEq,Prod.mk.injEq]at h
    obtain⟨rfl,rfl⟩:=h
    rw[putSt1_ag h1 hA.l,putSt_ag h2 hA.r]
theorem ldCells_ag {pl:Pl} {i:Nat}:∀{n off:Nat} {cs:List AV},ldCells s pl i off n=some cs→Ag s s' (rdCells pl i off n)→ldCells s' pl i off n=some cs
 |0,off,cs,h,hA=>h
 |n+1,off,cs,h,hA=>by
  simp only[ldCells,rdCells]at h ⊢ hA
  cases h1:look s false (pl.cell i off)with
  |none=>rw[h1]at h;cases h
  |some c=>
   rw[h1]at h
   simp only at h
   cases h2:ldCells s pl i (off+1) n with
   |none=>rw[h2]at h;cases h
   |some r=>
    rw[h2]at h
    obtain⟨c',e1,e2⟩:=look_hd hA.hd h1
    rw[e1,ldCells_ag h2 hA.tl]
    simp only[hd_view e2];exact h
theorem lookL_ag:∀{ps:List Pl} {cs:List AV},lookL s ps=some cs→Ag s s' (ps.map fun p=>⟨p,true⟩)→lookL s' ps=some cs
 |[],cs,h,hA=>h
 |p::ps,cs,h,hA=>by
  simp only[lookL]at h ⊢
  simp only[List.map_cons]at hA
  cases h1:look s true p with
  |none=>rw[h1]at h;cases h
  |some c=>
   rw[h1]at h
   simp only at h
   cases h2:lookL s ps with
   |none=>rw[h2]at h;cases h
   |some r=>
    rw[h2]at h
    rw[look_ag hA.hd h1,lookL_ag h2 hA.tl]
    exact h
theorem expV1_ag {a:AV} {x:Ex} (h:expV1 s a=some x) (hA:Ag s s' x.rd):expV1 s' a=some x:=by
 cases a with
 |rf sz pl off len=>
  simp only[expV1]at h ⊢
  split at h
  ·rename_i sz' es hl
   split at h
   ·rename_i hz
    simp only[Option.some.injEq]at h
    subst h
    rw[look_ag hA.hd hl]
    simp only;rw[if_pos hz]
   ·cases h
  ·cases h
 |ptr pl i off=>
  simp only[expV1]at h ⊢
  split at h
  ·rename_i sz es hl
   split at h
   ·rename_i e he
    simp only[Option.some.injEq]at h
    subst h
    rw[look_ag hA.hd hl]
    simp only[he]
   ·cases h
  ·rename_i e hl
   split at h
   ·rename_i hz
    simp only[Option.some.injEq]at h
    subst h
    rw[look_ag hA.hd hl]
    simp only;rw[if_pos hz]
   ·cases h
  ·cases h
 |_=>exact h
theorem expVL_ag:∀{l:List AV} {xs:List AV} {rs:List Rd} {b:Bool},expVL s l=some (xs,rs,b)→Ag s s' rs→expVL s' l=some (xs,rs,b)
 |[],xs,rs,b,h,hA=>h
 |a::l,xs,rs,b,h,hA=>by
  simp only[expVL]at h ⊢
  cases h1:expV1 s a with
  |none=>rw[h1]at h;cases h
  |some x=>
   rw[h1]at h
   simp only at h
   cases h2:expVL s l with
   |none=>rw[h2]at h;cases h
   |some q=>
    obtain⟨ys,r2,b2⟩:=q
    rw[h2]at h
    simp only[Option.some.injEq,Prod.mk.injEq]at h
    obtain⟨rfl,rfl,rfl⟩:=h
    rw[expV1_ag h1 hA.l,expVL_ag h2 hA.r]
theorem expArg_ag {ty:Nat} {m:Md} {a:AV} {x:Ex} (h:expArg cx s ty m a=some x) (hA:Ag s s' x.rd):expArg cx s' ty m a=some x:=by
 cases m with
 |view=>
  cases a with
  |agg cs=>
   simp only[expArg]at h ⊢
   cases h2:expVL s cs with
   |none=>rw[h2]at h;cases h
   |some q=>
    obtain⟨ys,r2,b2⟩:=q
    rw[h2]at h
    simp only[Option.some.injEq]at h
    subst h
    rw[expVL_ag h2 hA]
  |_=>simp only[expArg]at h ⊢;exact expV1_ag h hA
 |move=>
  simp only[expArg]at h ⊢
  cases h2:absorbE s a with
  |none=>rw[h2]at h;cases h
  |some q=>
   obtain⟨ys,r2,b2⟩:=q
   rw[h2]at h
   simp only[Option.some.injEq]at h
   subst h
   rw[absorbE_ag h2 hA]
 |give=>
  simp only[expArg]at h ⊢
  cases h2:absorbE s a with
  |none=>rw[h2]at h;cases h
  |some q=>
   obtain⟨ys,r2,b2⟩:=q
   rw[h2]at h
   simp only[Option.some.injEq]at h
   subst h
   rw[absorbE_ag h2 hA]
 |io=>
  cases a with
  |ptr pl i off=>
   simp only[expArg]at h ⊢
   split at h
   ·rename_i e hk
    split at h
    ·cases h
    ·rename_i ti ht
     split at h
     ·rename_i cs hl
      split at h
      ·cases h
      ·rename_i hne
       split at h
       ·rename_i v hv
        simp only[Option.some.injEq]at h
        subst h
        rw[lookL_ag hl hA]
        simp only[hv]
        rw[if_neg hne]
       ·cases h
     ·cases h
   ·cases h
  |rf sz pl off len=>
   simp only[expArg]at h ⊢
   split at h
   ·rename_i sz' es hl
    split at h
    ·rename_i hz
     simp only[Option.some.injEq]at h
     subst h
     rw[look_ag hA.hd hl]
     simp only;rw[if_pos hz]
    ·cases h
   ·cases h
  |fz l z es=>match l,h with|1,h=>exact h|0,h=>exact h|l+2,h=>exact h
  |_=>exact h
theorem expArgs_ag:∀{tys:List Nat} {ms:List Md} {l:List AV} {x:Exs},expArgs cx s tys ms l=some x→Ag s s' x.rd→expArgs cx s' tys ms l=some x
 |[],[],[],x,h,hA=>h
 |[],[],_::_,x,h,hA=>by simp[expArgs,oops]at h
 |[],_::_,[],x,h,hA=>h
 |[],_::_,_::_,x,h,hA=>by simp[expArgs,oops]at h
 |_::_,[],[],x,h,hA=>h
 |_::_,[],_::_,x,h,hA=>by simp[expArgs,oops]at h
 |_::_,_::_,[],x,h,hA=>h
 |ty::tys,m::ms,a::l,x,h,hA=>by
  simp only[expArgs]at h ⊢
  cases h1:expArg cx s ty m a with
  |none=>rw[h1]at h;cases h
  |some y=>
   rw[h1]at h
   simp only at h
   cases h2:expArgs cx s tys ms l with
   |none=>rw[h2]at h;cases h
   |some r=>
    rw[h2]at h
    simp only at h
    split at h
    ·cases h
    ·rename_i hc
     simp only[Option.some.injEq]at h
     subst h
     rw[expArg_ag h1 hA.l,expArgs_ag h2 hA.r]
     simp only;rw[if_neg hc]
theorem elems_ag {sz:Nat} {x:AV} {l:List AV} {rs:List Rd} {us:List Up} (h:elems s sz x=some (l,rs,us)) (hA:Ag s s' rs):elems s' sz x=some (l,rs,us):=by
 cases x with
 |rf sz' pl off len=>
  simp only[elems]at h ⊢
  split at h
  ·rename_i sz'' es hl
   split at h
   ·rename_i hz
    have hr:⟨pl,true⟩∈rs:=by
     split at h
     ·simp only[Option.some.injEq,Prod.mk.injEq]at h;rw[←h.2.1];exact List.mem_cons_self
     ·simp only[Option.some.injEq,Prod.mk.injEq]at h;rw[←h.2.1];exact List.mem_cons_self
    rw[look_ag (hA.rd _ hr) hl]
    simp only;rw[if_pos hz];exact h
   ·cases h
  ·cases h
 |_=>exact h
end Go.Am
end
section
namespace Go.Am
open Go.RowKit Go.Lib
variable {s s':St} {cx:Cx}
theorem cellsThere_ag {pl:Pl} {k:Nat} (hA:SameR s s' ⟨pl,false⟩):∀{n off:Nat},cellsThere s pl k off n=true→cellsThere s' pl k off n=true
 |0,off,h=>rfl
 |n+1,off,h=>by
  simp only[cellsThere,Bool.and_eq_true]at h ⊢
  refine⟨?_,cellsThere_ag hA h.2⟩
  obtain⟨c,hc⟩:=Option.isSome_iff_exists.1 h.1
  obtain⟨a,ha,hp⟩:=getP_some hc
  obtain⟨x,hx,hs⟩:=getT_parent (c:=c) (p:=pl.p) (i:=k) (j:=off) hp
  have h1:getP s.h pl=some x:=by unfold getP;rw[show pl.r=(pl.cell k off).r from rfl,ha];exact hx
  have h2:=hA.2.2
  simp only at h2
  rw[h1]at h2
  cases hx':getP s'.h pl with
  |none=>rw[hx']at h2;cases h2
  |some x'=>
   rw[hx']at h2
   simp only[Option.map_some,Option.some.injEq]at h2
   have h3:∃c',step1 x' (k,off)=some c':=by
    rcases step1_some hs with⟨sz,es,e,rfl,he,hj⟩|⟨e,rfl,rfl,hj⟩
    ·obtain⟨es',rfl,e1,e2⟩:=hd_ow h2
     have:=e2 k
     rw[he]at this
     cases he':es'[k]? with
     |none=>rw[he']at this;cases this
     |some e'=>
      rw[he']at this
      simp only[Option.map_some,Option.some.injEq]at this
      have hlt:=(List.getElem?_eq_some_iff.1 hj).1
      simp only[step1,he',Option.bind_some]
      exact⟨_,List.getElem?_eq_getElem (by omega)⟩
    ·cases x'<;>simp only[hd]at h2<;>try cases h2
     rename_i e'
     simp only[AV.bx.injEq,AV.agg.injEq]at h2
     have:=congrArg List.length h2
     simp only[List.length_replicate]at this
     have hlt:=(List.getElem?_eq_some_iff.1 hj).1
     simp only[step1,if_true]
     exact⟨_,List.getElem?_eq_getElem (by omega)⟩
   obtain⟨c',hc'⟩:=h3
   obtain⟨a',ha',hp'⟩:=getP_some hx'
   have:getP s'.h (pl.cell k off)=some c':=by
    unfold getP;rw[show(pl.cell k off).r=pl.r from rfl,ha']
    simp only[Option.bind_some,Pl.cell]
    rw[getT_snoc,hp'];exact hc'
   rw[this];rfl
theorem cond_some {α:Type} {b:Bool} {x:Option α} {m:String} {e:α} (h:cond b x (oops m)=some e):b=true∧x=some e:=by
 cases b with
 |false=>cases h
 |true=>exact⟨rfl,h⟩
theorem cond_none {α:Type} {b:Bool} {x:Option α} {e:α} (h:cond b x none=some e):b=true∧x=some e:=by
 cases b with
 |false=>cases h
 |true=>exact⟨rfl,h⟩
theorem cond_t {α:Type} {b:Bool} {x y:α} (h:b=true):cond b x y=x:=by rw[h];rfl
def Fr (s s':St) (us:List Up):Prop:=∀r a,Up.new r a∈us→freshId s r=true→freshId s' r=true
theorem newsOk_ag:∀{us:List Up},(∀r a,Up.new r a∈us→freshId s r=true→freshId s' r=true)→newsOk s us=true→newsOk s' us=true
 |[],_,_=>rfl
 |u::us,hf,h=>by
  have tl:∀r a,Up.new r a∈us→freshId s r=true→freshId s' r=true:=fun r a hm=>hf r a (List.mem_cons_of_mem _ hm)
  cases u with
  |new r a=>
   simp only[newsOk,Bool.and_eq_true]at h ⊢
   exact⟨hf r a List.mem_cons_self h.1,newsOk_ag tl h.2⟩
  |_=>simp only[newsOk]at h ⊢;exact newsOk_ag tl h
theorem oAlloc_ag {d:Option Nat} {ty:Nat} {e:Eff} (h:oAlloc cx s d ty=some e) (hf:Fr s s' e.up):oAlloc cx s' d ty=some e:=by
 unfold oAlloc at h ⊢
 split at h
 ·split at h
  ·rename_i z hz
   obtain⟨hb,h⟩:=cond_some h
   cases h
   try simp only[hz]
   rw[cond_t (hf _ _ List.mem_cons_self hb)]
  ·cases h
 ·cases h
theorem oBox_ag {d:Option Nat} {x:AV} {e:Eff} (h:oBox s d x=some e) (hA:Ag s s' e.rd) (hf:Fr s s' e.up):oBox s' d x=some e:=by
 unfold oBox at h ⊢
 split at h
 ·split at h
  ·rename_i v rs us hp
   obtain⟨hb,h⟩:=cond_some h
   cases h
   try simp only[putEl_ag hp hA]
   simp only[Bool.and_eq_true]at hb
   rw[cond_t (by simp only[Bool.and_eq_true];rw[hA.al];exact⟨⟨⟨hf _ _ List.mem_cons_self hb.1.1.1,hb.1.1.2⟩,hb.1.2⟩,hb.2⟩)]
  ·cases h
 ·cases h
theorem oBuildSlice_ag {d:Option Nat} {ty len:Nat} {ps:List (Nat×AV)} {e:Eff} (h:oBuildSlice cx s d ty len ps=some e) (hA:Ag s s' e.rd) (hf:Fr s s' e.up):oBuildSlice cx s' d ty len ps=some e:=by
 unfold oBuildSlice at h ⊢
 split at h
 ·split at h
  ·rename_i ei hei
   split at h
   ·rename_i z hz
    split at h
    ·rename_i es hes
     split at h
     ·rename_i bs rs us hp
      obtain⟨hb,h⟩:=cond_some h
      cases h
      try simp only[putEls_ag hp hA]
      simp only[Bool.and_eq_true]at hb
      rw[cond_t (by simp only[Bool.and_eq_true];rw[hA.al];exact⟨⟨⟨⟨⟨⟨hf _ _ List.mem_cons_self hb.1.1.1.1.1.1,hb.1.1.1.1.1.2⟩,hb.1.1.1.1.2⟩,hb.1.1.1.2⟩,hb.1.1.2⟩,hb.1.2⟩,hb.2⟩)]
     ·cases h
    ·cases h
   ·cases h
  ·cases h
 ·cases h
theorem oLoad_ag {ty:Nat} {a:AV} {e:Eff} (h:oLoad cx s ty a=some e) (hA:Ag s s' e.rd):oLoad cx s' ty a=some e:=by
 unfold oLoad at h ⊢
 split at h
 ·split at h
  ·exact h
  ·split at h
   ·rename_i cs hl
    have h0:=h
    cases hb:Nat.beq _ 0 with
    |true=>rw[hb]at h;cases h
    |false=>
     rw[hb]at h
     simp only[cond_false]at h
     split at h
     ·cases h
      simp only at hA
      simp only[ldCells_ag hl hA]
      rw[hb]at h0;exact h0
     ·cases h
   ·cases h
  ·cases h
 ·cases h
theorem oStore_ag {keep ty:Nat} {a x:AV} {e:Eff} (h:oStore cx keep s ty a x=some e) (hA:Ag s s' e.rd):oStore cx keep s' ty a x=some e:=by
 unfold oStore at h ⊢
 split at h
 ·split at h
  ·split at h
   ·rename_i rs us hp
    obtain⟨hb,h⟩:=cond_some h
    cases h
    try simp only[putSt_ag hp hA.l]
    simp only[Bool.and_eq_true]at hb
    rw[cond_t (by simp only[Bool.and_eq_true];exact⟨⟨⟨⟨hb.1.1.1.1,use_ag hA.r.hd hb.1.1.1.2⟩,cellsThere_ag hA.r.hd hb.1.1.2⟩,hb.1.2⟩,hb.2⟩)]
   ·cases h
  ·cases h
 ·cases h
theorem oNil_ag {a:AV} {e:Eff} (h:oNil s a=some e) (hA:Ag s s' e.rd):oNil s' a=some e:=by
 cases a with
 |ptr pl i off=>
  simp only[oNil]at h ⊢
  obtain⟨hb,h⟩:=cond_some h
  cases h
  rw[cond_t (use_ag hA.hd hb)]
 |_=>exact h
theorem oMakeSlice_ag {d:Option Nat} {ty:Nat} {l c:AV} {e:Eff} (h:oMakeSlice cx s d ty l c=some e) (hf:Fr s s' e.up):oMakeSlice cx s' d ty l c=some e:=by
 unfold oMakeSlice at h ⊢
 split at h
 ·split at h
  ·rename_i ei hei
   split at h
   ·rename_i z k n k' m hz
    obtain⟨hb,h⟩:=cond_some h
    cases h
    try simp only[hei,hz]
    simp only[Bool.and_eq_true]at hb
    rw[cond_t (by simp only[Bool.and_eq_true];exact⟨⟨⟨hb.1.1.1,hf _ _ List.mem_cons_self hb.1.1.2⟩,hb.1.2⟩,hb.2⟩)]
   ·cases h
  ·cases h
 ·cases h
theorem oSlice_ag {ty:Nat} {x:AV} {lo hi:Option AV} {e:Eff} (h:oSlice cx s ty x lo hi=some e) (hA:Ag s s' e.rd):oSlice cx s' ty x lo hi=some e:=by
 unfold oSlice at h ⊢
 split at h
 ·exact h
 ·exact h
 ·split at h
  ·rename_i hh h1
   split at h
   ·rename_i l h2
    split at h
    ·rename_i el hk
     split at h
     ·rename_i ei hei
      obtain⟨hb,h⟩:=cond_some h
      cases h
      try simp only[h1,h2,hk,hei]
      simp only[Bool.and_eq_true]at hb
      rw[cond_t (by simp only[Bool.and_eq_true];exact⟨hb.1,use_ag hA.hd hb.2⟩)]
     ·cases h
    ·cases h
   ·cases h
  ·cases h
 ·cases h
theorem oFieldAddr_ag {ty f:Nat} {a:AV} {e:Eff} (h:oFieldAddr cx s ty a f=some e) (hA:Ag s s' e.rd):oFieldAddr cx s' ty a f=some e:=by
 unfold oFieldAddr at h ⊢
 split at h
 ·split at h
  ·rename_i hfs
   split at h
   ·cases h
   ·split at h
    ·exact h
    ·obtain⟨hb,h⟩:=cond_some h
     cases h
     try simp only[hfs]
     rw[cond_t (use_ag hA.hd hb)]
    ·cases h
  ·cases h
 ·cases h
theorem oIndexAddr_ag {ty:Nat} {x ix:AV} {e:Eff} (h:oIndexAddr cx s ty x ix=some e) (hA:Ag s s' e.rd):oIndexAddr cx s' ty x ix=some e:=by
 unfold oIndexAddr at h ⊢
 split at h
 ·split at h
  ·rename_i ei hei
   split at h
   ·exact h
   ·obtain⟨hb,h⟩:=cond_some h
    cases h
    try simp only[hei]
    simp only[Bool.and_eq_true]at hb
    rw[cond_t (by simp only[Bool.and_eq_true];exact⟨hb.1,use_ag hA.hd hb.2⟩)]
   ·cases h
  ·cases h
 ·cases h
theorem oMakeMap_ag {d:Option Nat} {e:Eff} (h:oMakeMap s d=some e) (hf:Fr s s' e.up):oMakeMap s' d=some e:=by
 unfold oMakeMap at h ⊢
 split at h
 ·obtain⟨hb,h⟩:=cond_none h
  cases h
  rw[cond_t (hf _ _ List.mem_cons_self hb)]
 ·cases h
theorem oMapUpdate_ag {ty:Nat} {m k v:AV} {e:Eff} (h:oMapUpdate cx s ty m k v=some e) (hA:Ag s s' e.rd):oMapUpdate cx s' ty m k v=some e:=by
 unfold oMapUpdate at h ⊢
 split at h
 ·split at h
  ·rename_i kd ks vs hk hl
   split at h
   ·rename_i r hm
    obtain⟨hb,h⟩:=cond_none h
    cases h
    try simp only[hk,look_ag hA.hd hl,hm]
    rw[cond_t hb]
   ·cases h
  ·cases h
 ·cases h
theorem oLookup_ag {ty:Nat} {x k:AV} {ok:Bool} {e:Eff} (h:oLookup cx s ty x k ok=some e) (hA:Ag s s' e.rd):oLookup cx s' ty x k ok=some e:=by
 unfold oLookup at h ⊢
 split at h
 ·split at h
  ·rename_i kd ei ks vs hk hei hl
   split at h
   ·rename_i v z hm
    obtain⟨hb,h⟩:=cond_none h
    cases h
    try simp only[hk,hei,look_ag hA.hd hl,hm]
    rw[cond_t hb]
   ·rename_i z hm hz
    obtain⟨hb,h⟩:=cond_none h
    cases h
    try simp only[hk,hei,look_ag hA.hd hl,hm,hz]
    rw[cond_t hb]
   ·cases h
  ·cases h
 ·cases h
theorem oLen_ag {ty:Nat} {x:AV} {e:Eff} (h:oLen cx s ty x=some e) (hA:Ag s s' e.rd):oLen cx s' ty x=some e:=by
 unfold oLen at h ⊢
 split at h
 ·exact h
 ·exact h
 ·obtain⟨hb,h⟩:=cond_some h
  cases h
  rw[cond_t (use_ag hA.hd hb)]
 ·split at h
  ·rename_i hl
   cases h
   try simp only[look_ag hA.hd hl]
  ·cases h
 ·cases h
theorem oApp1_ag {d sz bytes:Nat} {a:AV} {new:List AV} {rs:List Rd} {us:List Up} {e:Eff} (h:oApp1 s d sz bytes a new rs us=some e) (hA:Ag s s' e.rd) (hf:Fr s s' e.up):oApp1 s' d sz bytes a new rs us=some e:=by
 unfold oApp1 at h ⊢
 split at h
 ·split at h
  ·exact h
  ·obtain⟨hb,h⟩:=cond_none h
   cases h
   simp only[Bool.and_eq_true]at hb
   try simp only
   rw[cond_t (by simp only[Bool.and_eq_true];exact⟨use_ag hA.hd hb.1,hb.2⟩)]
  ·cases h
 ·split at h
  ·obtain⟨hb,h⟩:=cond_some h
   cases h
   simp only[Bool.and_eq_true]at hb
   try simp only
   rw[cond_t (by simp only[Bool.and_eq_true];exact⟨⟨hb.1.1,hf _ _ (List.mem_append_right _ List.mem_cons_self) hb.1.2⟩,hb.2⟩)]
  ·split at h
   ·rename_i hl
    obtain⟨hb,h⟩:=cond_some h
    cases h
    simp only[Bool.and_eq_true]at hb
    try simp only[look_ag hA.hd hl]
    rw[cond_t (by simp only[Bool.and_eq_true];exact⟨⟨hb.1.1,hf _ _ (List.mem_append_right _ List.mem_cons_self) hb.1.2⟩,hb.2⟩)]
   ·cases h
  ·cases h
theorem oApp1_rd {d sz bytes:Nat} {a:AV} {new:List AV} {rs:List Rd} {us:List Up} {e:Eff} (h:oApp1 s d sz bytes a new rs us=some e):∀r∈rs,r∈e.rd:=by
 unfold oApp1 at h
 split at h
 ·split at h
  ·obtain⟨hb,h⟩:=cond_none h;cases h;exact fun r hr=>hr
  ·obtain⟨hb,h⟩:=cond_none h;cases h;exact fun r hr=>List.mem_cons_of_mem _ hr
  ·cases h
 ·split at h
  ·obtain⟨hb,h⟩:=cond_some h;cases h;exact fun r hr=>hr
  ·split at h
   ·obtain⟨hb,h⟩:=cond_some h;cases h;exact fun r hr=>List.mem_cons_of_mem _ hr
   ·cases h
  ·cases h
theorem oAppend_ag {d:Option Nat} {tys:List Nat} {args:List AV} {e:Eff} (h:oAppend cx s d tys args=some e) (hA:Ag s s' e.rd) (hf:Fr s s' e.up):oAppend cx s' d tys args=some e:=by
 unfold oAppend at h ⊢
 split at h
 ·split at h
  ·cases h
  ·rename_i el k hk hxk _
   split at h
   ·rename_i ei hei
    split at h
    ·rename_i new rs us hel
     try simp only[elems_ag hel (hA.sub (oApp1_rd h))]
     exact oApp1_ag h hA hf
    ·cases h
   ·cases h
  ·cases h
 ·cases h
theorem oCopy_ag {tys:List Nat} {args:List AV} {e:Eff} (h:oCopy cx s tys args=some e) (hA:Ag s s' e.rd):oCopy cx s' tys args=some e:=by
 unfold oCopy at h ⊢
 split at h
 ·split at h
  ·rename_i el hk
   split at h
   ·rename_i ei hei
    split at h
    ·rename_i new rs sz' es hel hl
     obtain⟨hb,h⟩:=cond_some h
     cases h
     obtain⟨c',e1,e2⟩:=look_hd hA.hd hl
     obtain⟨es',rfl,e3,_⟩:=hd_ow e2
     try simp only[elems_ag hel hA.tl,e1]
     simp only[Bool.and_eq_true]at hb
     rw[cond_t (by simp only[Bool.and_eq_true];rw[e3];exact hb)]
    ·cases h
   ·cases h
  ·cases h
 ·cases h
theorem oBuiltin_ag {d:Option Nat} {b:Builtin} {tys:List Nat} {args:List AV} {e:Eff} (h:oBuiltin cx s d b tys args=some e) (hA:Ag s s' e.rd) (hf:Fr s s' e.up):oBuiltin cx s' d b tys args=some e:=by
 unfold oBuiltin at h ⊢
 split at h
 ·split at h
  ·exact oLen_ag h hA
  ·cases h
 ·exact oAppend_ag h hA hf
 ·exact oCopy_ag h hA
 ·exact h
 ·exact h
 ·cases h
theorem callX_ag {call:CallF} {d f:Nat} {args:List AV} {e:Eff} (h:callX cx call s d f args=some e) (hA:Ag s s' e.rd) (hf:Fr s s' e.up):callX cx call s' d f args=some e:=by
 unfold callX at h ⊢
 split at h
 ·cases h
 ·rename_i fn hfn
  split at h
  ·cases h
  ·rename_i x hx
   simp only[fDL_eq,fD_eq]at h ⊢
   split at h
   ·cases h
   ·rename_i res outs hc
    split at h
    ·cases h
    ·rename_i hl
     split at h
     ·cases h
     ·rename_i ius hi
      have key:∃r:AV×List Up,(if fn.own=true then imp (1024*(d+1)) res else(frz 0 res,[]))=r∧(!s.alias&&noLkL x.vs&&Nat.ble x.io.length 1&&apartUps (x.up++ius)&&newsOk s r.2)=true∧e={val:=r.1,rd:=x.rd,up:=x.up++ius++r.2}:=by
       revert h
       generalize (if fn.own=true then imp (1024*(d+1)) res else(frz 0 res,[]))=r
       intro h
       split at h
       ·rename_i hu;cases h;exact⟨r,rfl,hu,rfl⟩
       ·cases h
      obtain⟨r,hr,hu,rfl⟩:=key
      simp only[expArgs_ag hx hA,hc,hi]
      rw[if_neg hl,hr,hA.al,if_pos]
      simp only[Bool.and_eq_true]at hu ⊢
      exact⟨hu.1,newsOk_ag (fun q a hm=>hf q a (List.mem_append_right _ hm)) hu.2⟩
theorem opX_ag {call:CallF} {keep:Nat} {o:Oper} {e:Eff} (h:opX cx call keep s o=some e) (hA:Ag s s' e.rd) (hf:Fr s s' e.up) (hev:∀x∈o.op.operands.toList,ev s' x=ev s x):opX cx call keep s' o=some e:=by
 have h1:∀{x:Operand},x∈o.op.operands.toList→ev s' x=ev s x:=fun hx=>hev _ hx
 unfold opX at h ⊢
 split at h<;>rename_i hop<;>simp only[hop,Op.operands]at h1 hev ⊢
 ·rw[h1 (by simp)];exact h
 ·rw[h1 (by simp)];exact h
 ·rename_i c a b;rw[h1 (x:=c) (by simp),h1 (x:=a) (by simp),h1 (x:=b) (by simp)];exact h
 ·exact oAlloc_ag h hf
 ·rw[h1 (by simp)];exact oBox_ag h hA hf
 ·rename_i ty ps
  have:(ps.toList.map fun p=>(p.1,ev s' p.2))=ps.toList.map fun p=>(p.1,ev s p.2):=List.map_congr_left fun p hp=>by
   rw[h1 (x:=p.2) (by simp only[List.mem_map];exact⟨p,hp,rfl⟩)]
  rw[this];exact h
 ·rename_i ty len ps
  have:(ps.toList.map fun p=>(p.1,ev s' p.2))=ps.toList.map fun p=>(p.1,ev s p.2):=List.map_congr_left fun p hp=>by
   rw[h1 (x:=p.2) (by simp only[List.mem_map];exact⟨p,hp,rfl⟩)]
  rw[this];exact oBuildSlice_ag h hA hf
 ·rw[h1 (by simp)];exact oLoad_ag h hA
 ·rename_i ty x y;rw[h1 (x:=x) (by simp),h1 (x:=y) (by simp)];exact oStore_ag h hA
 ·rw[h1 (by simp)];exact oNil_ag h hA
 ·rename_i op ty x y _;rw[h1 (x:=x) (by simp),h1 (x:=y) (by simp)];exact h
 ·rw[h1 (by simp)];exact h
 ·rename_i ty x y;rw[h1 (x:=x) (by simp),h1 (x:=y) (by simp)];exact oMakeSlice_ag h hf
 ·rename_i ty x lo hi
  have e1:lo.map (ev s')=lo.map (ev s):=by cases lo with|none=>rfl|some l=>simp only[Option.map_some];rw[h1 (by simp)]
  have e2:hi.map (ev s')=hi.map (ev s):=by cases hi with|none=>rfl|some l=>simp only[Option.map_some];rw[h1 (by simp)]
  rw[h1 (x:=x) (by simp),e1,e2];exact oSlice_ag h hA
 ·rw[h1 (by simp)];exact oFieldAddr_ag h hA
 ·rw[h1 (by simp)];exact h
 ·rename_i ty x y;rw[h1 (x:=x) (by simp),h1 (x:=y) (by simp)];exact oIndexAddr_ag h hA
 ·rename_i ty x y;rw[h1 (x:=x) (by simp),h1 (x:=y) (by simp)];exact h
 ·rw[h1 (by simp)];exact h
 ·exact oMakeMap_ag h hf
 ·rename_i ty r
  rw[h1 (x:=r) (by simp)]
  split at h
  ·rename_i hk hr;try simp only[hk,hr]
   exact oMakeMap_ag h hf
  ·cases h
 ·rename_i ty m k v;rw[h1 (x:=m) (by simp),h1 (x:=k) (by simp),h1 (x:=v) (by simp)];exact oMapUpdate_ag h hA
 ·rename_i ty m k v;rw[h1 (x:=m) (by simp),h1 (x:=k) (by simp),h1 (x:=v) (by simp)];exact oMapUpdate_ag h hA
 ·rename_i ty x k ok;rw[h1 (x:=x) (by simp),h1 (x:=k) (by simp)];exact oLookup_ag h hA
 ·rename_i c
  have e1:c.args.toList.map (ev s')=c.args.toList.map (ev s):=List.map_congr_left fun x hx=>h1 (by
   simp only[Call.operands,Array.toList_append,List.mem_append];exact .inr hx)
  unfold oCall at h ⊢
  rw[e1]
  split at h
  ·exact oBuiltin_ag h hA hf
  ·exact callX_ag h hA hf
  ·cases h
 ·cases h
end Go.Am
end
section
namespace Go.Am
open Go.RowKit Go.Lib
variable {s s' s1 s2:St} {cx:Cx} {call:CallF} {keep io:Nat} {ops:Array Oper}
theorem put1_self {a x:AV} {t:Nat×Nat} (h:step1 a t=some x):put1 a t x=a:=by
 obtain⟨i,j⟩:=t
 have cell:∀e:AV,(cells e)[j]?=some x→putCell e j x=e:=by
  intro e he
  cases e with
  |agg cs=>
   simp only[cells]at he
   simp only[putCell]
   obtain⟨hlt,rfl⟩:=List.getElem?_eq_some_iff.1 he
   rw[List.set_getElem_self]
  |_=>
   simp only[cells]at he
   cases j with
   |zero=>simp at he;subst he;simp[putCell]
   |succ j=>simp at he
 rcases step1_some h with⟨sz,es,e,rfl,he,hj⟩|⟨e,rfl,rfl,hj⟩
 ·simp only[put1,he,cell e hj]
  obtain⟨hlt,rfl⟩:=List.getElem?_eq_some_iff.1 he
  rw[List.set_getElem_self]
 ·simp only[put1,cell e hj]
theorem setT_none:∀{p:List (Nat×Nat)} {a c:AV},getT a p=none→setT a p c=a
 |[],a,c,h=>by simp[getT]at h
 |t::p,a,c,h=>by
  simp only[getT]at h
  simp only[setT]
  cases hs:step1 a t with
  |none=>rfl
  |some x=>
   rw[hs]at h
   simp only[Option.bind_some]at h
   simp only[setT_none h]
   exact put1_self hs
theorem setT_some_nonAgg:∀{p:List (Nat×Nat)} {a c old:AV},getT a p=some old→nonAgg c=true→nonAgg (setT a p c)=true
 |[],a,c,old,h,hc=>hc
 |t::p,a,c,old,h,hc=>by
  obtain⟨x,h1,h2,h3,h4⟩:=setT_node h hc
  rw[h2]
  rcases step1_some (i:=t.1) (j:=t.2) h1 with⟨sz,es,e,rfl,he,hj⟩|⟨e,rfl,_,hj⟩
  ·simp only[put1,he];rfl
  ·rfl
theorem put1_comm {a x y c d:AV} {t t':Nat×Nat} (hne:t'≠t) (h1:step1 a t=some x) (h2:step1 a t'=some y) (hc:nonAgg c=true) (hd:nonAgg d=true):
  put1 (put1 a t c) t' d=put1 (put1 a t' d) t c:=by
 obtain⟨i,j⟩:=t
 obtain⟨i',j'⟩:=t'
 have cellc:∀e:AV,(cells e)[j]?=some x→(cells e)[j']?=some y→j'≠j→putCell (putCell e j c) j' d=putCell (putCell e j' d) j c:=by
  intro e hx hy hjj
  cases e with
  |agg cs=>simp only[putCell];rw[List.set_comm _ _ (fun e=>hjj e.symm)]
  |_=>
   simp only[cells]at hx hy
   cases j with
   |succ j=>simp at hx
   |zero=>
    cases j' with
    |succ j'=>simp at hy
    |zero=>exact absurd rfl hjj
 rcases step1_some h1 with⟨sz,es,e,rfl,he,hj⟩|⟨e,rfl,rfl,hj⟩
 ·rcases step1_some h2 with⟨sz',es',e',heq,he',hj'⟩|⟨e',heq,_,hj'⟩
  ·cases heq
   by_cases hi:i'=i
   ·subst hi
    rw[he]at he';cases he'
    have hjj:j'≠j:=fun e=>hne (by rw[e])
    have hlt:=(List.getElem?_eq_some_iff.1 he).1
    have e1:(es.set i' (putCell e j c))[i']?=some (putCell e j c):=by rw[List.getElem?_set];simp[hlt]
    have e2:(es.set i' (putCell e j' d))[i']?=some (putCell e j' d):=by rw[List.getElem?_set];simp[hlt]
    simp only[put1,he,e1,e2,List.set_set,cellc e hj hj' hjj]
   ·have e1:(es.set i (putCell e j c))[i']?=some e':=by rw[List.getElem?_set,if_neg (fun e=>hi e.symm)];exact he'
    have e2:(es.set i' (putCell e' j' d))[i]?=some e:=by rw[List.getElem?_set,if_neg hi];exact he
    simp only[put1,he,he',e1,e2]
    rw[List.set_comm _ _ (fun e=>hi e.symm)]
  ·cases heq
 ·rcases step1_some h2 with⟨sz',es',e',heq,he',hj'⟩|⟨e',heq,hi',hj'⟩
  ·cases heq
  ·cases heq;subst hi'
   have hjj:j'≠j:=fun e=>hne (by rw[e])
   simp only[put1,cellc e hj hj' hjj]
theorem setT_comm {c d:AV} (hc:nonAgg c=true) (hd:nonAgg d=true):∀{u:List (Nat×Nat)} {a:AV} {t t':Nat×Nat} {p q:List (Nat×Nat)},t'≠t→
  setT (setT a (u++t::p) c) (u++t'::q) d=setT (setT a (u++t'::q) d) (u++t::p) c
 |[],a,t,t',p,q,hne=>by
  simp only[List.nil_append]
  cases h1:getT a (t::p)with
  |none=>
   rw[setT_none h1]
   cases h2:getT a (t'::q)with
   |none=>rw[setT_none h2,setT_none h1]
   |some old=>
    have:=getT_setT_apart (u:=[]) (q:=p) h2 hd (fun e=>hne e.symm)
    simp only[List.nil_append]at this
    rw[h1]at this
    rw[setT_none this]
  |some old1=>
   cases h2:getT a (t'::q)with
   |none=>
    have:=getT_setT_apart (u:=[]) (q:=q) h1 hc hne
    simp only[List.nil_append]at this
    rw[h2]at this
    rw[setT_none this,setT_none h2]
   |some old2=>
    obtain⟨x,a1,a2,a3,a4⟩:=setT_node h1 hc
    obtain⟨y,b1,b2,b3,b4⟩:=setT_node h2 hd
    have e1:step1 (put1 a t (setT x p c)) t'=some y:=by rw[step1_put1 a1 a4,if_neg hne];exact b1
    have e2:step1 (put1 a t' (setT y q d)) t=some x:=by rw[step1_put1 b1 b4,if_neg (fun e=>hne e.symm)];exact a1
    rw[a2,b2]
    simp only[setT,e1,e2]
    exact put1_comm hne a1 b1 a4 b4
 |r::u,a,t,t',p,q,hne=>by
  simp only[List.cons_append]
  cases hr:step1 a r with
  |none=>simp only[setT,hr]
  |some x=>
   have key:∀{P Q:List (Nat×Nat)} {c d:AV},nonAgg c=true→P≠[]→setT (setT a (r::P) c) (r::Q) d=(match getT x P with|none=>setT a (r::Q) d|some _=>put1 a r (setT (setT x P c) Q d)):=by
    intro P Q c d hc hP
    cases hx:getT x P with
    |none=>
     have:getT a (r::P)=none:=by simp only[getT,hr,Option.bind_some];exact hx
     rw[setT_none this]
    |some old=>
     have hn:=setT_some_nonAgg hx hc
     simp only[setT,hr]
     rw[step1_put1 hr hn,if_pos rfl]
     simp only
     have put2:∀z w:AV,nonAgg z=true→put1 (put1 a r z) r w=put1 a r w:=by
      intro z w hz
      obtain⟨i,j⟩:=r
      have hcell:∀e:AV,(cells e)[j]?=some x→putCell (putCell e j z) j w=putCell e j w:=by
       intro e he
       cases e with
       |agg cs=>simp only[putCell,List.set_set]
       |_=>
        simp only[cells]at he
        cases j with
        |succ j=>simp at he
        |zero=>cases z<;>first|(cases hz;done)|simp[putCell]
      rcases step1_some hr with⟨sz,es,e,rfl,he,hj⟩|⟨e,rfl,rfl,hj⟩
      ·have hlt:=(List.getElem?_eq_some_iff.1 he).1
       have e1:(es.set i (putCell e j z))[i]?=some (putCell e j z):=by rw[List.getElem?_set];simp[hlt]
       simp only[put1,he,e1,List.set_set,hcell e hj]
      ·simp only[put1,hcell e hj]
     rw[put2 _ _ hn]
   rw[key hc (by simp),key hd (by simp)]
   have ih:=setT_comm hc hd (u:=u) (a:=x) (p:=p) (q:=q) hne
   have sx:∀{Q:List (Nat×Nat)} {d:AV},setT a (r::Q) d=put1 a r (setT x Q d):=by intro Q d;simp only[setT,hr]
   cases h1:getT x (u++t::p)with
   |none=>
    cases h2:getT x (u++t'::q)with
    |none=>simp only[sx];rw[setT_none h2,setT_none h1]
    |some o2=>
     simp only
     rw[sx]
     have:=getT_setT_apart (u:=u) (q:=p) h2 hd (fun e=>hne e.symm)
     rw[h1]at this
     rw[setT_none this]
   |some o1=>
    cases h2:getT x (u++t'::q)with
    |none=>
     simp only
     rw[sx]
     have:=getT_setT_apart (u:=u) (q:=q) h1 hc hne
     rw[h2]at this
     rw[setT_none this]
    |some o2=>simp only;rw[ih]
theorem setT_apart {c d:AV} (hc:nonAgg c=true) (hd:nonAgg d=true) {a:AV} {p q:List (Nat×Nat)} (h1:pre p q=false) (h2:pre q p=false):setT (setT a p c) q d=setT (setT a q d) p c:=by
 obtain⟨u,t,t',p',q',hne,rfl,rfl⟩:=pre_apart h1 h2
 exact setT_comm hc hd hne
def hext (h h':Hp):Prop:=∀r,hget h r=hget h' r
theorem hget_app (h:Hp) (u:Up) (r:Nat):hget (u.app h) r=if r=u.pl.r then(match u with
  | .set pl a| .inn pl a| .fill pl a=>(hget h r).map fun t=>setT t pl.p a
  | .new _ a=>some a
  | .del _=>none)else hget h r:=by
 have put:∀(pl:Pl) (a:AV),hget (match hget h pl.r with|some t=>hins h pl.r (setT t pl.p a)|none=>h) r=if r=pl.r then(hget h r).map fun t=>setT t pl.p a else hget h r:=by
  intro pl a
  by_cases e:r=pl.r
  ·subst e
   cases hh:hget h pl.r with
   |none=>simp[hh]
   |some t=>simp[hget_hins]
  ·rw[if_neg e]
   cases hh:hget h pl.r with
   |none=>rfl
   |some t=>simp only[hget_hins,if_neg e]
 cases u with
 |set pl a=>exact put pl a
 |inn pl a=>exact put pl a
 |fill pl a=>exact put pl a
 |new q a=>
  by_cases e:r=q
  ·rw[if_pos (show r=(Up.new q a).pl.r from e)];simp only[Up.app,hget_hins,if_pos e]
  ·rw[if_neg (show ¬r=(Up.new q a).pl.r from e)];simp only[Up.app,hget_hins,if_neg e]
 |del q=>
  by_cases e:r=q
  ·rw[if_pos (show r=(Up.del q).pl.r from e)];simp only[Up.app,hget_hdel,if_pos e]
  ·rw[if_neg (show ¬r=(Up.del q).pl.r from e)];simp only[Up.app,hget_hdel,if_neg e]
theorem app_ext {h h':Hp} (he:hext h h') (u:Up):hext (u.app h) (u.app h'):=by
 intro r
 rw[hget_app,hget_app]
 by_cases e:r=u.pl.r
 ·rw[if_pos e,if_pos e];cases u<;>simp only[he r]
 ·rw[if_neg e,if_neg e];exact he r
theorem apps_ext:∀(us:List Up) {h h':Hp},hext h h'→hext (Up.apps us h) (Up.apps us h')
 |[],_,_,he=>he
 |u::us,_,_,he=>apps_ext us (app_ext he u)
theorem meets_false {u v:Up} (h:u.meets v=false):u.pl.r≠v.pl.r∨(u.pl.r=v.pl.r∧pre u.pl.p v.pl.p=false∧pre v.pl.p u.pl.p=false):=Pl.apart_iff (meets_apart h)
theorem app_comm {h:Hp} {u v:Up} (hu:upOk io u=true) (hv:upOk io v=true) (hm:u.meets v=false):hext (u.app (v.app h)) (v.app (u.app h)):=by
 intro r
 simp only[hget_app]
 rcases meets_false hm with h1|⟨h1,h2,h3⟩
 ·by_cases e:r=u.pl.r
  ·have e':r≠v.pl.r:=fun x=>h1 (e▸x)
   simp only[if_pos e,if_neg e']
  ·by_cases e':r=v.pl.r
   ·simp only[if_neg e,if_pos e']
   ·simp only[if_neg e,if_neg e']
 ·by_cases e:r=u.pl.r
  ·have e':r=v.pl.r:=e.trans h1
   simp only[if_pos e,if_pos e']
   have nu:(∃pl a,(u=.set pl a∨u=.fill pl a)∧nonAgg a=true):=by
    cases u with
    |set pl a=>simp only[upOk,Bool.and_eq_true]at hu;exact⟨pl,a,.inl rfl,hu.2⟩
    |fill pl a=>simp only[upOk,Bool.and_eq_true]at hu;exact⟨pl,a,.inr rfl,hu.2⟩
    |inn pl a=>simp only[upOk,List.isEmpty_iff]at hu;simp only[Up.pl,hu,pre]at h2;cases h2
    |new q a=>simp only[Up.pl,pre]at h2;cases h2
    |del q=>simp only[Up.pl,pre]at h2;cases h2
   have nv:(∃pl a,(v=.set pl a∨v=.fill pl a)∧nonAgg a=true):=by
    cases v with
    |set pl a=>simp only[upOk,Bool.and_eq_true]at hv;exact⟨pl,a,.inl rfl,hv.2⟩
    |fill pl a=>simp only[upOk,Bool.and_eq_true]at hv;exact⟨pl,a,.inr rfl,hv.2⟩
    |inn pl a=>simp only[upOk,List.isEmpty_iff]at hv;simp only[Up.pl,hv,pre]at h3;cases h3
    |new q a=>simp only[Up.pl,pre]at h3;cases h3
    |del q=>simp only[Up.pl,pre]at h3;cases h3
   obtain⟨p,a,hp,ha⟩:=nu
   obtain⟨q,b,hq,hb⟩:=nv
   have:∀t:AV,setT (setT t q.p b) p.p a=setT (setT t p.p a) q.p b:=by
    intro t
    refine setT_apart hb ha ?_ ?_
    ·rcases hp with rfl|rfl<;>rcases hq with rfl|rfl<;>exact h3
    ·rcases hp with rfl|rfl<;>rcases hq with rfl|rfl<;>exact h2
   rcases hp with rfl|rfl<;>rcases hq with rfl|rfl<;>cases hget h r<;>simp[this]
  ·have e':r≠v.pl.r:=fun x=>e (x.trans h1.symm)
   simp only[if_neg e,if_neg e']
theorem apps_comm1 {u:Up} (hu:upOk io u=true):∀{vs:List Up} {h:Hp},(∀v∈vs,upOk io v=true∧u.meets v=false)→hext (u.app (Up.apps vs h)) (Up.apps vs (u.app h))
 |[],h,_=>fun _=>rfl
 |v::vs,h,hv=>by
  have h1:=apps_comm1 hu (vs:=vs) (h:=v.app h) fun x hx=>hv x (List.mem_cons_of_mem _ hx)
  obtain⟨a1,a2⟩:=hv v List.mem_cons_self
  intro r
  exact(h1 r).trans (apps_ext vs (app_comm hu a1 a2) r)
theorem apps_comm:∀{us vs:List Up} {h:Hp},(∀u∈us,upOk io u=true)→(∀v∈vs,upOk io v=true)→(∀u∈us,∀v∈vs,u.meets v=false)→hext (Up.apps us (Up.apps vs h)) (Up.apps vs (Up.apps us h))
 |[],vs,h,_,_,_=>fun _=>rfl
 |u::us,vs,h,hu,hv,hm=>by
  have h1:=apps_comm1 (hu u List.mem_cons_self) (vs:=vs) (h:=h) fun v hvm=>⟨hv v hvm,hm u List.mem_cons_self v hvm⟩
  intro r
  exact(apps_ext us h1 r).trans (apps_comm (us:=us) (h:=u.app h) (fun x hx=>hu x (List.mem_cons_of_mem _ hx)) hv (fun x hx=>hm x (List.mem_cons_of_mem _ hx)) r)
end Go.Am
end
section
namespace Go.Am
open Go.RowKit Go.Lib
variable {s s' s1 s2:St} {cx:Cx} {call:CallF} {keep io:Nat} {ops:Array Oper}
def stp (s:St) (o:Oper) (e:Eff):St:={s with t:=putX s.t o.dst e.val,h:=Up.apps e.up s.h,d:=s.d++dn e.up}
def skipE:Eff:={val:=.tup [],rd:=[],up:=[]}
structure Eqv (s s':St):Prop where
 t:∀i,tget s.t i=tget s'.t i
 h:hext s.h s'.h
 d:∀u,u∈s.d↔u∈s'.d
 al:s.alias=s'.alias
theorem Eqv.refl:Eqv s s:=⟨fun _=>rfl,fun _=>rfl,fun _=>Iff.rfl,rfl⟩
theorem Eqv.symm (h:Eqv s s'):Eqv s' s:=⟨fun i=>(h.t i).symm,fun r=>(h.h r).symm,fun u=>(h.d u).symm,h.al.symm⟩
theorem Eqv.trans (a:Eqv s s1) (b:Eqv s1 s2):Eqv s s2:=⟨fun i=>(a.t i).trans (b.t i),fun r=>(a.h r).trans (b.h r),fun u=>(a.d u).trans (b.d u),a.al.trans b.al⟩
theorem tget_putX (t:Hp) (d:Option Nat) (v:AV) (i:Nat):tget (putX t d v) i=if d=some i then v else tget t i:=by
 cases d with
 |none=>simp[putX]
 |some k=>
  simp only[putX,tget_tins,Option.some.injEq]
  by_cases e:i=k
  ·rw[if_pos e,if_pos e.symm]
  ·rw[if_neg e,if_neg (fun x=>e x.symm)]
theorem Eqv.stp (h:Eqv s s') (o:Oper) (e:Eff):Eqv (stp s o e) (stp s' o e):=
 ⟨fun i=>by simp only[Am.stp,tget_putX,h.t],apps_ext e.up h.h,fun u=>by simp only[Am.stp,List.mem_append,h.d],h.al⟩
theorem any_mem {l l':List Up} (h:∀u,u∈l↔u∈l') (p:Up→Bool):l.any p=l'.any p:=by
 rw[Bool.eq_iff_iff,List.any_eq_true,List.any_eq_true]
 exact⟨fun⟨x,a,b⟩=>⟨x,(h x).1 a,b⟩,fun⟨x,a,b⟩=>⟨x,(h x).2 a,b⟩⟩
theorem getP_ext {h h':Hp} (he:hext h h') (pl:Pl):getP h pl=getP h' pl:=by unfold getP;rw[he]
theorem Eqv.ag (h:Eqv s s') (rs:List Rd):Ag s s' rs:=
 ⟨h.al.symm,fun r _=>⟨fun hx=>by rw[←any_mem h.d];exact hx,fun _=>(getP_ext h.h _).symm,by rw[getP_ext h.h]⟩⟩
theorem Eqv.fr (h:Eqv s s') (us:List Up):Fr s s' us:=fun r a _ hf=>by
 unfold freshId at *
 rw[←h.h,←any_mem h.d];exact hf
def Yl (cx:Cx) (call:CallF) (keep io:Nat) (ops:Array Oper) (s:St) (o:Oper) (e:Eff):Prop:=
 (wantX ops s o=some true∧opX cx call keep s o=some e∧e.up.all (upOk io)=true)∨(wantX ops s o=some false∧e=skipE)
theorem wantX_eq {o:Oper} (h:∀j want d,o.guard=some (j,want)→(ops[j]?).bind (·.dst)=some d→tget s'.t d=tget s.t d):wantX ops s' o=wantX ops s o:=by
 unfold wantX
 cases hg:o.guard with
 |none=>rfl
 |some jw=>
  obtain⟨j,want⟩:=jw
  simp only
  cases hd:(ops[j]?).bind (·.dst)with
  |none=>rfl
  |some d=>simp only[h j want d hg hd]
theorem Yl.move {o:Oper} {e:Eff} (h:Yl cx call keep io ops s o e) (hA:Ag s s' e.rd) (hf:Fr s s' e.up) (ht:∀i,i∈o.looksAt ops→tget s'.t i=tget s.t i):Yl cx call keep io ops s' o e:=by
 have hw:wantX ops s' o=wantX ops s o:=wantX_eq fun j want d hg hd=>ht d (by
  simp only[Oper.looksAt,hg,List.mem_append]
  exact .inr (by rw[hd];simp))
 rcases h with⟨h1,h2,h3⟩|⟨h1,h2⟩
 ·refine .inl ⟨hw.trans h1,opX_ag h2 hA hf fun x hx=>?_,h3⟩
  cases x with
  |tmp i=>
   refine ht i ?_
   simp only[Oper.looksAt,List.mem_append,List.mem_filterMap]
   exact .inl ⟨.tmp i,hx,rfl⟩
  |_=>rfl
 ·exact .inr ⟨hw.trans h1,h2⟩
theorem Yl.eqv {o:Oper} {e:Eff} (h:Yl cx call keep io ops s o e) (he:Eqv s s'):Yl cx call keep io ops s' o e:=h.move (he.ag _) (he.fr _) fun i _=>(he.t i).symm
theorem Yl.ups {o:Oper} {e:Eff} (h:Yl cx call keep io ops s o e):∀u∈e.up,upOk io u=true:=by
 rcases h with⟨_,_,h3⟩|⟨_,rfl⟩
 ·exact List.all_eq_true.1 h3
 ·intro u hu;cases hu
theorem getP_app_hd {h:Hp} {u:Up} {r:Rd} (hu:upOk io u=true) (ht:u.touch r=false):(getP (u.app h) r.pl).map hd=(getP h r.pl).map hd∧(r.deep=true→getP (u.app h) r.pl=getP h r.pl):=by
 obtain⟨⟨rr,rp⟩,deep⟩:=r
 simp only[Up.touch,Bool.or_eq_false_iff]at ht
 obtain⟨ht1,ht2⟩:=ht
 by_cases er:rr=u.pl.r
 ·have set:∀(q:Pl) (a:AV),rr=q.r→nonAgg a=true→q.p≠[]→(q.pre ⟨rr,rp⟩=false)→(deep=true→Pl.pre ⟨rr,rp⟩ q=false)→hget (u.app h) rr=(hget h rr).map (fun t=>setT t q.p a)→
    (getP (u.app h) ⟨rr,rp⟩).map hd=(getP h ⟨rr,rp⟩).map hd∧(deep=true→getP (u.app h) ⟨rr,rp⟩=getP h ⟨rr,rp⟩):=by
   intro q a e1 ha hq h1 h2 hh
   have p1:pre q.p rp=false:=by simp only[Pl.pre,e1,nbT,Bool.true_and]at h1;exact h1
   unfold getP
   simp only
   rw[hh]
   cases hr:hget h rr with
   |none=>simp
   |some t=>
    simp only[Option.map_some,Option.bind_some]
    cases hb:pre rp q.p with
    |false=>
     have:getT (setT t q.p a) rp=getT t rp:=by
      obtain⟨w,x,x',p',q',hne,e2,e3⟩:=pre_apart p1 hb
      cases hx:getT t q.p with
      |none=>rw[setT_none hx]
      |some old=>rw[e2]at hx ⊢;rw[e3];exact getT_setT_apart hx ha hne
     rw[this];exact⟨rfl,fun _=>rfl⟩
    |true=>
     refine⟨?_,fun hd=>?_⟩
     ·obtain⟨x,hx⟩:=pre_iff.1 hb
      cases x with
      |nil=>rw[List.append_nil]at hx;rw[hx,pre_refl]at p1;cases p1
      |cons st x=>
       cases ho:getT t q.p with
       |none=>rw[setT_none ho]
       |some old=>
        rw[hx,getT_append]at ho
        cases hn:getT t rp with
        |none=>rw[hn]at ho;cases ho
        |some n=>
         rw[hn,Option.bind_some]at ho
         obtain⟨y,y1,y2,y3,y4⟩:=setT_node ho ha
         rw[hx,getT_setT_over hn y1]
         simp only[Option.map_some,Option.some.injEq]
         obtain⟨i,j⟩:=st
         have cellL:∀e:AV,(cells e)[j]?=some y→(cells (putCell e j (setT y x a))).length=(cells e).length:=by
          intro e he;rw[cells_putCell he y4,List.length_set]
         rcases step1_some y1 with⟨sz,es,e,rfl,he,hj⟩|⟨e,rfl,rfl,hj⟩
         ·simp only[put1,he,hd,AV.ow.injEq,true_and]
          apply List.ext_getElem?
          intro k
          simp only[List.getElem?_map,List.getElem?_set]
          by_cases ek:i=k
          ·subst ek
           have hlt:=(List.getElem?_eq_some_iff.1 he).1
           simp only[if_true,hlt,Option.map_some,he,cellL e hj]
          ·rw[if_neg ek]
         ·simp only[put1,hd,cellL e hj]
     ·have:=h2 hd
      simp only[Pl.pre,e1,nbT,Bool.true_and]at this
      rw[this]at hb;cases hb
  cases u with
  |set q a=>
   simp only[upOk,Bool.and_eq_true,Bool.not_eq_true',List.isEmpty_eq_false_iff]at hu
   simp only[Up.hits,Bool.or_eq_false_iff]at ht1
   refine set q a er hu.2 hu.1 ht1.1 (fun hd=>?_) (by rw[hget_app,if_pos er])
   have:=ht1.2;rw[hd,Bool.true_and]at this;exact this
  |fill q a=>simp only[Up.hits]at ht1;simp only[Up.pl]at er;rw[er,nbT]at ht1;cases ht1
  |inn q a=>simp only[Up.pl]at er;simp only[er,nbT]at ht2;cases ht2
  |new q a=>simp only[Up.hits]at ht1;simp only[Up.pl]at er;rw[er,nbT]at ht1;cases ht1
  |del q=>simp only[Up.hits]at ht1;simp only[Up.pl]at er;rw[er,nbT]at ht1;cases ht1
 ·have:getP (u.app h) ⟨rr,rp⟩=getP h ⟨rr,rp⟩:=by unfold getP;simp only;rw[hget_app,if_neg er]
  rw[this];exact⟨rfl,fun _=>rfl⟩
theorem getP_apps_hd {r:Rd}:∀{us:List Up} {h:Hp},(∀u∈us,upOk io u=true)→(∀u∈us,u.touch r=false)→(getP (Up.apps us h) r.pl).map hd=(getP h r.pl).map hd∧(r.deep=true→getP (Up.apps us h) r.pl=getP h r.pl)
 |[],h,_,_=>⟨rfl,fun _=>rfl⟩
 |u::us,h,hu,ht=>by
  obtain⟨a1,a2⟩:=getP_apps_hd (us:=us) (h:=u.app h) (fun x hx=>hu x (List.mem_cons_of_mem _ hx)) (fun x hx=>ht x (List.mem_cons_of_mem _ hx))
  obtain⟨b1,b2⟩:=getP_app_hd (h:=h) (hu u List.mem_cons_self) (ht u List.mem_cons_self)
  exact⟨a1.trans b1,fun hd=>(a2 hd).trans (b2 hd)⟩
theorem same_stp {o:Oper} {e:Eff} {r:Rd} (hu:∀u∈e.up,upOk io u=true) (ht:∀u∈e.up,u.touch r=false):SameR s (stp s o e) r∧SameR (stp s o e) s r:=by
 obtain⟨a1,a2⟩:=getP_apps_hd (h:=s.h) hu ht
 refine⟨⟨fun h=>?_,a2,a1⟩,⟨fun h=>?_,fun hd=>(a2 hd).symm,a1.symm⟩⟩
 ·simp only[stp,List.any_append,h,Bool.false_or]
  rw[List.any_eq_false]
  intro u hm
  have:=ht u (List.mem_filter.1 hm).1
  simp only[Up.touch,Bool.or_eq_false_iff]at this
  simp[this.1]
 ·simp only[stp,List.any_append,Bool.or_eq_false_iff]at h;exact h.1
theorem hget_apps_ne {r:Nat}:∀{us:List Up} {h:Hp},(∀u∈us,u.pl.r≠r)→hget (Up.apps us h) r=hget h r
 |[],h,_=>rfl
 |u::us,h,hu=>by
  simp only[Up.apps]
  rw[hget_apps_ne (us:=us) fun x hx=>hu x (List.mem_cons_of_mem _ hx),hget_app,if_neg (fun e=>hu u List.mem_cons_self e.symm)]
structure Ind (ops:Array Oper) (a b:Oper×Eff):Prop where
 ap:a.1.apart ops b.1=true
 r1:∀r∈b.2.rd,∀u∈a.2.up,u.touch r=false
 r2:∀r∈a.2.rd,∀u∈b.2.up,u.touch r=false
 w:∀u∈a.2.up,∀v∈b.2.up,u.clash v=false
theorem clash_symm {u v:Up}:u.clash v=v.clash u:=by
 simp only[Up.clash,Up.meets]
 rw[Bool.or_comm (u.pl.pre v.pl),Bool.or_assoc,Bool.or_comm (lkN u v),←Bool.or_assoc]
theorem apart_symm {x y:Oper} (h:x.apart ops y=true):y.apart ops x=true:=by
 obtain⟨h1,h2,h3⟩:=Oper.apart_spec h
 unfold Oper.apart
 rw[Bool.and_eq_true]
 refine⟨?_,?_⟩
 ·cases hd:y.dst with
  |none=>rfl
  |some d=>
   simp only[Bool.and_eq_true,Bool.not_eq_true',bne_iff_ne,ne_eq]
   refine⟨?_,fun e=>h2 d e hd⟩
   have:=h3 d hd
   rw[←Bool.not_eq_true,List.contains_iff_mem];exact this
 ·cases hd:x.dst with
  |none=>rfl
  |some d=>
   simp only[Bool.not_eq_true']
   have:=h1 d hd
   rw[←Bool.not_eq_true,List.contains_iff_mem];exact this
theorem Ind.symm {a b:Oper×Eff} (h:Ind ops a b):Ind ops b a:=⟨apart_symm h.ap,h.r2,h.r1,fun u hu v hv=>clash_symm.trans (h.w v hv u hu)⟩
theorem clash_new {u:Up} {r:Nat} {a:AV} (h:u.clash (.new r a)=false):u.pl.r≠r∧isLk r u=false:=by
 simp only[Up.clash,Bool.or_eq_false_iff]at h
 obtain⟨⟨h1,h2⟩,_⟩:=h
 refine⟨fun e=>?_,?_⟩
 ·have:=(meets_apart h1).2
  simp only[Up.pl,Pl.pre,←e,nbT,pre]at this
  cases this
 ·cases u with
  |set q x=>
   cases x with
   |lk k len=>exact h2
   |_=>rfl
  |_=>rfl
theorem Ind.fr {a b:Oper×Eff} (h:Ind ops a b):Fr s (stp s a.1 a.2) b.2.up∧Fr (stp s a.1 a.2) s b.2.up:=by
 refine⟨fun r x hm hf=>?_,fun r x hm hf=>?_⟩
 ·unfold freshId at *
  rw[Bool.and_eq_true]at hf ⊢
  refine⟨?_,?_⟩
  ·simp only[stp];rw[hget_apps_ne fun u hu=>(clash_new (h.w u hu _ hm)).1];exact hf.1
  ·simp only[stp,List.any_append,Bool.not_eq_true',Bool.or_eq_false_iff]at hf ⊢
   refine⟨hf.2,?_⟩
   rw[List.any_eq_false]
   intro u hu
   rw[(clash_new (h.w u (List.mem_filter.1 hu).1 _ hm)).2];decide
 ·unfold freshId at *
  rw[Bool.and_eq_true]at hf ⊢
  refine⟨?_,?_⟩
  ·have:=hf.1;simp only[stp]at this;rw[hget_apps_ne fun u hu=>(clash_new (h.w u hu _ hm)).1]at this;exact this
  ·have:=hf.2
   simp only[stp,List.any_append,Bool.not_eq_true',Bool.or_eq_false_iff]at this ⊢;exact this.1
theorem Ind.looks {a b:Oper×Eff} (h:Ind ops a b) (i:Nat) (hi:i∈b.1.looksAt ops):tget (stp s a.1 a.2).t i=tget s.t i:=by
 simp only[stp,tget_putX]
 rw[if_neg]
 intro e
 exact(Oper.apart_spec h.ap).1 i e hi
theorem Yl.fwd {a b:Oper×Eff} (ha:Yl cx call keep io ops s a.1 a.2) (h:Ind ops a b) (hb:Yl cx call keep io ops s b.1 b.2):Yl cx call keep io ops (stp s a.1 a.2) b.1 b.2:=
 hb.move ⟨rfl,fun r hr=>(same_stp ha.ups (h.r1 r hr)).1⟩ h.fr.1 h.looks
theorem Yl.bwd {a b:Oper×Eff} (ha:Yl cx call keep io ops s a.1 a.2) (h:Ind ops a b) (hb:Yl cx call keep io ops (stp s a.1 a.2) b.1 b.2):Yl cx call keep io ops s b.1 b.2:=
 hb.move ⟨rfl,fun r hr=>(same_stp ha.ups (h.r1 r hr)).2⟩ h.fr.2 fun i hi=>(h.looks i hi).symm
theorem stp_comm {a b:Oper×Eff} (ha:∀u∈a.2.up,upOk io u=true) (hb:∀u∈b.2.up,upOk io u=true) (h:Ind ops a b):Eqv (stp (stp s a.1 a.2) b.1 b.2) (stp (stp s b.1 b.2) a.1 a.2):=by
 refine⟨fun i=>?_,fun r=>?_,fun u=>?_,rfl⟩
 ·simp only[stp,tget_putX]
  by_cases e1:b.1.dst=some i
  ·by_cases e2:a.1.dst=some i
   ·exact absurd e1 ((Oper.apart_spec h.ap).2.1 i e2)
   ·rw[if_pos e1,if_neg e2,if_pos e1]
  ·rw[if_neg e1,if_neg e1]
 ·simp only[stp]
  exact apps_comm hb ha (fun v hv u hu=>by
   have:=h.w u hu v hv
   simp only[Up.clash,Bool.or_eq_false_iff,Up.meets]at this
   simp only[Up.meets,Bool.or_eq_false_iff];exact⟨this.1.1.2,this.1.1.1⟩) r
 ·simp only[stp,List.mem_append]
  constructor
  ·rintro ((h|h)|h)
   ·exact .inl (.inl h)
   ·exact .inr h
   ·exact .inl (.inr h)
  ·rintro ((h|h)|h)
   ·exact .inl (.inl h)
   ·exact .inr h
   ·exact .inl (.inr h)
abbrev It:=Nat×Oper×Eff
def Val (cx:Cx) (call:CallF) (keep io:Nat) (ops:Array Oper):St→List It→Prop
 |_,[]=>True
 |s,x::l=>Yl cx call keep io ops s x.2.1 x.2.2∧Val cx call keep io ops (stp s x.2.1 x.2.2) l
def fin:St→List It→St
 |s,[]=>s
 |s,x::l=>fin (stp s x.2.1 x.2.2) l
theorem Val.eqv:∀{l:List It} {s s':St},Val cx call keep io ops s l→Eqv s s'→Val cx call keep io ops s' l
 |[],_,_,_,_=>trivial
 |x::l,_,_,h,he=>⟨h.1.eqv he,Val.eqv h.2 (he.stp _ _)⟩
theorem fin_eqv:∀{l:List It} {s s':St},Eqv s s'→Eqv (fin s l) (fin s' l)
 |[],_,_,he=>he
 |x::l,_,_,he=>fin_eqv (l:=l) (he.stp _ _)
theorem bubble:∀{l1:List It} {x:It} {l2:List It} {s:St},Val cx call keep io ops s (l1++x::l2)→(∀y∈l1,Ind ops y.2 x.2)→Val cx call keep io ops s (x::(l1++l2))∧Eqv (fin s (l1++x::l2)) (fin s (x::(l1++l2)))
 |[],x,l2,s,h,_=>⟨h,.refl⟩
 |y::l1,x,l2,s,h,hi=>by
  obtain⟨hy,h⟩:=h
  obtain⟨⟨hx,h1⟩,h2⟩:=bubble (l1:=l1) h fun z hz=>hi z (List.mem_cons_of_mem _ hz)
  have hxy:=hi y List.mem_cons_self
  have hx':=hy.bwd (b:=x.2) hxy hx
  have he:=stp_comm (s:=s) hy.ups hx.ups hxy
  exact⟨⟨hx',hx'.fwd (b:=y.2) hxy.symm hy,h1.eqv he⟩,h2.trans (fin_eqv (l:=l1++l2) he)⟩
end Go.Am
end
section
namespace Go.Am
open Go.RowKit Go.Lib
variable {P:Program} {cx:Cx} {call:CallF} {keep io:Nat} {ops:Array Oper} {Q:Exit→Act→World→Prop}
structure OrdOk (ops:Array Oper):Prop where
 pair:∀i j oi oj,i<j→ops[i]?=some oi→ops[j]?=some oj→((Region.before ops).getD j 0).testBit i=true∨oi.apart ops oj=true
 edge:∀k o,ops[k]?=some o→∀e∈o.after,Region.binds .any e=true→e.on<k
def Good (i:Nat) (acc:Array Nat) (pre:List Oper):Prop:=acc.size=pre.length∧∀k o,pre[k]?=some o→(acc.getD k 0).testBit i=true→
 ∃e∈o.after,Region.binds .any e=true∧(e.on=i∨(e.on<k∧(acc.getD e.on 0).testBit i=true))
theorem fold_bit (i:Nat) (acc:Array Nat):∀(es:List Edge) (s:Nat),(es.foldl (fun s e=>if Region.binds .any e then s|||2 ^ e.on|||acc.getD e.on 0 else s) s).testBit i=true→
  s.testBit i=true∨∃e∈es,Region.binds .any e=true∧(e.on=i∨(acc.getD e.on 0).testBit i=true)
 |[],s,h=>.inl h
 |e::es,s,h=>by
  simp only[List.foldl_cons]at h
  rcases fold_bit i acc es _ h with h1|⟨e',a,b,c⟩
  ·split at h1
   ·rename_i hb
    rw[Nat.testBit_or,Nat.testBit_or,Bool.or_eq_true,Bool.or_eq_true]at h1
    rcases h1 with(h1|h1)|h1
    ·exact .inl h1
    ·refine .inr ⟨e,List.mem_cons_self,hb,.inl ?_⟩
     rw[Nat.testBit_two_pow]at h1
     simpa using h1
    ·exact .inr ⟨e,List.mem_cons_self,hb,.inr h1⟩
   ·exact .inl h1
  ·exact .inr ⟨e',List.mem_cons_of_mem _ a,b,c⟩
theorem Good.push {i:Nat} {acc:Array Nat} {pre:List Oper} (h:Good i acc pre) (o:Oper):
  Good i (acc.push (o.after.foldl (fun s e=>if Region.binds .any e then s|||2 ^ e.on|||acc.getD e.on 0 else s) 0)) (pre++[o]):=by
 obtain⟨h1,h2⟩:=h
 refine⟨by simp[h1],fun k o' hk hb=>?_⟩
 have hlt:∀m,m<acc.size→(acc.push (o.after.foldl (fun s e=>if Region.binds .any e then s|||2 ^ e.on|||acc.getD e.on 0 else s) 0)).getD m 0=acc.getD m 0:=by
  intro m hm
  simp[Array.getElem?_push,Nat.ne_of_lt hm]
 by_cases hkl:k<pre.length
 ·rw[List.getElem?_append_left hkl]at hk
  rw[hlt k (by omega)]at hb
  obtain⟨e,a,b,c⟩:=h2 k o' hk hb
  refine⟨e,a,b,c.imp id fun⟨c1,c2⟩=>⟨c1,?_⟩⟩
  rw[hlt _ (by omega)];exact c2
 ·have hke:k=pre.length:=by
   have:=(List.getElem?_eq_some_iff.1 hk).1
   simp at this;omega
  subst hke
  rw[List.getElem?_append_right (Nat.le_refl _)]at hk
  simp at hk
  subst hk
  rw[←h1]at hb
  simp only[Array.getD_eq_getD_getElem?,Array.getElem?_push,if_true,Option.getD_some]at hb
  rw[←Array.foldl_toList]at hb
  rcases fold_bit i acc o.after.toList 0 (by simpa using hb)with h3|⟨e,a,b,c⟩
  ·simp at h3
  ·refine⟨e,by simpa using a,b,?_⟩
   rcases c with c|c
   ·exact .inl c
   ·refine .inr ?_
    by_cases hl:e.on<acc.size
    ·exact⟨by omega,by rw[hlt _ hl];exact c⟩
    ·simp[Array.getElem?_eq_none (by omega:acc.size≤e.on)]at c
theorem good_fold (i:Nat):∀(l pre:List Oper) (acc:Array Nat),Good i acc pre→Good i (l.foldl (fun acc o=>acc.push (o.after.foldl (fun s e=>if Region.binds .any e then s|||2 ^ e.on|||acc.getD e.on 0 else s) 0)) acc) (pre++l)
 |[],pre,acc,h=>by simpa using h
 |o::l,pre,acc,h=>by
  have:=good_fold i l (pre++[o]) _ (h.push o)
  simpa using this
theorem before_bit {i k:Nat} {o:Oper} (hk:ops[k]?=some o) (hb:((Region.before ops).getD k 0).testBit i=true):
  ∃e∈o.after,Region.binds .any e=true∧(e.on=i∨(e.on<k∧((Region.before ops).getD e.on 0).testBit i=true)):=by
 have h:=good_fold i ops.toList [] #[] ⟨rfl,fun k o hk _=>by simp at hk⟩
 simp only[List.nil_append]at h
 have e:Region.before ops=ops.toList.foldl (fun acc o=>acc.push (o.after.foldl (fun s e=>if Region.binds .any e then s|||2 ^ e.on|||acc.getD e.on 0 else s) 0)) #[]:=by
  unfold Region.before;rw[←Array.foldl_toList]
 rw[e]at hb ⊢
 exact h.2 k o (by simpa using hk) hb
def Down (ops:Array Oper) (listed:Array Bool):Prop:=∀k o,ops[k]?=some o→listed.getD k true=true→∀e∈o.after,Region.binds .any e=true→listed.getD e.on false=true
theorem down_bit {listed:Array Bool} (hs:listed.size=ops.size) (hd:Down ops listed) {i:Nat}:∀(k:Nat) {o:Oper},ops[k]?=some o→listed.getD k true=true→((Region.before ops).getD k 0).testBit i=true→listed.getD i false=true:=by
 intro k
 induction k using Nat.strongRecOn with
 |ind k ih=>
  intro o hk hl hb
  obtain⟨e,a,b,c⟩:=before_bit hk hb
  have h1:=hd k o hk hl e a b
  rcases c with c|⟨c1,c2⟩
  ·rw[←c];exact h1
  ·have hlt:e.on<ops.size:=Nat.lt_trans c1 (Array.getElem?_eq_some_iff.1 hk).1
   refine ih e.on c1 (Array.getElem?_eq_getElem hlt) ?_ c2
   have hlt':e.on<listed.size:=by omega
   simp[hlt']at h1 ⊢
   exact h1
structure Left (ops:Array Oper) (listed:Array Bool) (l:List It):Prop where
 sz:listed.size=ops.size
 op:∀x∈l,ops[x.1]?=some x.2.1
 un:∀x∈l,listed.getD x.1 true=false
 all:∀i,i<ops.size→listed.getD i true=false→∃x∈l,x.1=i
 nd:l.Pairwise fun x y=>x.1<y.1
 ind:l.Pairwise fun x y=>Ind ops x.2 y.2∨((Region.before ops).getD y.1 0).testBit x.1=true
theorem Left.step {listed:Array Bool} {l1 l2:List It} {x:It} (h:Left ops listed (l1++x::l2)):Left ops (listed.setIfInBounds x.1 true) (l1++l2):=by
 have hsub:(l1++l2).Sublist (l1++x::l2):=List.Sublist.append_left (List.sublist_cons_self x l2) l1
 have hne:∀y∈l1++l2,y.1≠x.1:=by
  intro y hy e
  have hp:=h.nd
  rw[List.pairwise_append]at hp
  obtain⟨p1,p2,p3⟩:=hp
  rcases List.mem_append.1 hy with hy|hy
  ·have:=p3 y hy x List.mem_cons_self;omega
  ·have:=(List.pairwise_cons.1 p2).1 y hy;omega
 refine⟨by simp[h.sz],fun y hy=>h.op y (hsub.subset hy),fun y hy=>?_,fun i hi hl=>?_,h.nd.sublist hsub,h.ind.sublist hsub⟩
 ·rw[getD_set_ne true (fun e=>hne y hy e.symm)];exact h.un y (hsub.subset hy)
 ·by_cases e:x.1=i
  ·have hlt:x.1<listed.size:=by rw[h.sz,e];exact hi
   rw[←e]at hl;simp[hlt]at hl
  ·rw[getD_set_ne true e]at hl
   obtain⟨y,hy,rfl⟩:=h.all i hi hl
   refine⟨y,?_,rfl⟩
   rcases List.mem_append.1 hy with hy|hy
   ·exact List.mem_append_left _ hy
   ·rcases List.mem_cons.1 hy with rfl|hy
    ·exact absurd rfl e
    ·exact List.mem_append_right _ hy
theorem any_ok {I:St→Act→World→Prop} (hO:OrdOk ops)
  (hI:∀i o e s a w K,ops[i]?=some o→I s a w→Yl cx call keep io ops s o e→(∀a' w',I (stp s o e) a' w'→K a' w')→wpOp P ops Q i K a w) {sf:St} (hQ:∀s a w,I s a w→Eqv s sf→Q .normal a w):
  ∀(l:List It) (s:St) (listed:Array Bool) (a:Act) (w:World),Left ops listed l→Down ops listed→Val cx call keep io ops s l→Eqv (fin s l) sf→I s a w→wpAny P .any ops Q l.length listed a w:=by
 intro l
 generalize hn:l.length=n
 induction n generalizing l with
 |zero=>
  intro s listed a w hL _ _ hf hi
  have:l=[]:=List.eq_nil_of_length_eq_zero hn
  subst this
  refine⟨?_,hQ s a w hi hf⟩
  rw[List.eq_nil_iff_forall_not_mem]
  intro i hm
  obtain⟨h1,o,h2,_⟩:=mem_ready.1 hm
  obtain⟨x,hx,_⟩:=hL.all i (Array.getElem?_eq_some_iff.1 h2).1 h1
  cases hx
 |succ n ih=>
  intro s listed a w hL hD hv hf hi
  refine⟨fun hr=>?_,fun i hm=>?_⟩
  ·exfalso
   cases l with
   |nil=>cases hn
   |cons x l=>
    have hx:=hL.op x List.mem_cons_self
    have:x.1∈Region.ready .any ops listed:=by
     rw[mem_ready]
     refine⟨hL.un x List.mem_cons_self,x.2.1,hx,fun e he hb=>?_⟩
     have hlt:=hO.edge _ _ hx e he hb
     have hsz:e.on<ops.size:=Nat.lt_trans hlt (Array.getElem?_eq_some_iff.1 hx).1
     cases hl:listed.getD e.on true with
     |true=>
      have hlt':e.on<listed.size:=by rw[hL.sz];exact hsz
      simp[hlt']at hl ⊢;exact hl
     |false=>
      obtain⟨y,hy,e2⟩:=hL.all e.on hsz hl
      have hp:=(List.pairwise_cons.1 hL.nd).1
      rcases List.mem_cons.1 hy with rfl|hy
      ·omega
      ·have:=hp y hy;omega
    rw[hr]at this;cases this
  ·obtain⟨h1,o,h2,h3⟩:=mem_ready.1 hm
   obtain⟨x,hx,rfl⟩:=hL.all i (Array.getElem?_eq_some_iff.1 h2).1 h1
   obtain⟨l1,l2,rfl⟩:=List.append_of_mem hx
   have hxo:=hL.op x hx
   rw[h2]at hxo;cases hxo
   have hind:∀y∈l1,Ind ops y.2 x.2:=by
    intro y hy
    have hp:=hL.ind
    rw[List.pairwise_append]at hp
    rcases hp.2.2 y hy x List.mem_cons_self with h|h
    ·exact h
    ·exfalso
     have hyu:=hL.un y (List.mem_append_left _ hy)
     have hyl:listed.getD y.1 false=true:=by
      obtain⟨e,a1,a2,a3⟩:=before_bit h2 h
      have h4:=h3 e a1 a2
      rcases a3 with a3|⟨a3,a4⟩
      ·rw[←a3];exact h4
      ·have hlt:e.on<ops.size:=Nat.lt_trans a3 (Array.getElem?_eq_some_iff.1 h2).1
       refine down_bit hL.sz hD e.on (Array.getElem?_eq_getElem hlt) ?_ a4
       have hlt':e.on<listed.size:=by rw[hL.sz];exact hlt
       simp[hlt']at h4 ⊢;exact h4
     have hlt:y.1<listed.size:=by
      rcases Nat.lt_or_ge y.1 listed.size with h'|h'
      ·exact h'
      ·simp[Array.getElem?_eq_none h']at hyl
     simp[hlt]at hyu hyl
     rw[hyu]at hyl;cases hyl
   obtain⟨⟨b1,b2⟩,b3⟩:=bubble hv hind
   refine hI x.1 _ x.2.2 s a w _ h2 hi b1 fun a' w' hi'=>?_
   refine ih (l1++l2) (by simp at hn ⊢;omega) _ _ a' w' hL.step ?_ b2 (b3.symm.trans hf) hi'
   intro k ok hk hl e he hb
   by_cases ek:x.1=k
   ·subst ek
    rw[h2]at hk;cases hk
    exact getD_set_true (h3 e he hb)
   ·rw[getD_set_ne true ek]at hl
    exact getD_set_true (hD k ok hk hl e he hb)
theorem seq_ok {I:St→Act→World→Prop}
  (hI:∀i o e s a w K,ops[i]?=some o→I s a w→Yl cx call keep io ops s o e→(∀a' w',I (stp s o e) a' w'→K a' w')→wpOp P ops Q i K a w) {sf:St} (hQ:∀s a w,I s a w→Eqv s sf→Q .normal a w):
  ∀(l:List It) (s:St) (a:Act) (w:World),(∀x∈l,ops[x.1]?=some x.2.1)→Val cx call keep io ops s l→Eqv (fin s l) sf→I s a w→wpOps P ops Q (l.map (·.1)) a w
 |[],s,a,w,_,_,hf,hi=>hQ s a w hi hf
 |x::l,s,a,w,hop,hv,hf,hi=>by
  simp only[List.map_cons]
  rw[wpOps_cons]
  exact hI x.1 _ x.2.2 s a w _ (hop x List.mem_cons_self) hi hv.1 fun a' w' hi'=>seq_ok hI hQ l _ a' w' (fun y hy=>hop y (List.mem_cons_of_mem _ hy)) hv.2 hf hi'
theorem indep_skip {e:Eff}:indep skipE e=true∧indep e skipE=true:=by
 constructor
 ·simp[indep,skipE]
 ·simp[indep,skipE]
theorem indep_ind {a b:Oper×Eff} (h:indep a.2 b.2=true) (hap:a.1.apart ops b.1=true):Ind ops a b:=by
 simp only[indep,Bool.and_eq_true,Bool.or_eq_true,List.isEmpty_iff,List.all_eq_true,Bool.not_eq_true']at h
 obtain⟨h1,h2⟩:=h
 refine⟨hap,fun r hr u hu=>?_,fun r hr u hu=>?_,fun u hu v hv=>?_⟩
 ·rcases h1 with h1|⟨h1,_⟩
  ·rw[h1]at hu;cases hu
  ·exact h1 r hr u hu
 ·rcases h2 with h2|h2
  ·rw[h2]at hu;cases hu
  ·exact h2 r hr u hu
 ·rcases h1 with h1|⟨_,h1⟩
  ·rw[h1]at hu;cases hu
  ·exact h1 v hv u hu
theorem checkX_all {k:Nat} {e:Eff}:∀{log:List (Nat×Eff)},checkX ops k e log=true→∀x∈log,indep x.2 e=true∨((Region.before ops).getD k 0).testBit x.1=true
 |(i,e')::log,h,x,hx=>by
  simp only[checkX,Bool.and_eq_true,Bool.or_eq_true]at h
  rcases List.mem_cons.1 hx with rfl|hx
  ·exact h.1
  ·exact checkX_all h.2 x hx
theorem runOps_items {draw:Bool}:∀{os:List Oper} {k:Nat} {s sf:St} {log:List (Nat×Eff)},runOps cx call keep io ops draw os k s log=some sf→
  ∃l:List It,l.map (·.1)=List.range' k os.length∧l.map (·.2.1)=os∧Val cx call keep io ops s l∧fin s l=sf∧
   (draw=true→(∀x∈log,∀y∈l,indep x.2 y.2.2=true∨((Region.before ops).getD y.1 0).testBit x.1=true)∧l.Pairwise fun x y=>indep x.2.2 y.2.2=true∨((Region.before ops).getD y.1 0).testBit x.1=true)
 |[],k,s,sf,log,h=>by
  simp only[runOps,Option.some.injEq]at h
  subst h
  exact⟨[],rfl,rfl,trivial,rfl,fun _=>⟨fun x _ y hy=>(List.not_mem_nil hy).elim,List.Pairwise.nil⟩⟩
 |o::os,k,s,sf,log,h=>by
  simp only[runOps]at h
  split at h
  ·cases h
  ·rename_i hw
   have es:({s with t:=putX s.t o.dst (.tup [])}:St)=stp s o skipE:=by simp[stp,skipE,dn,Up.apps]
   rw[es]at h
   obtain⟨l,a1,a2,a3,a4,a5⟩:=runOps_items h
   refine⟨(k,o,skipE)::l,by simp[a1,List.range'_succ],by simp[a2],⟨.inr ⟨hw,rfl⟩,a3⟩,a4,fun hd=>?_⟩
   obtain⟨b1,b2⟩:=a5 hd
   refine⟨fun x hx y hy=>?_,List.pairwise_cons.2 ⟨fun y _=>.inl indep_skip.1,b2⟩⟩
   rcases List.mem_cons.1 hy with rfl|hy
   ·exact .inl indep_skip.2
   ·exact b1 x hx y hy
  ·rename_i hw
   split at h
   ·cases h
   ·rename_i e he
    split at h
    ·cases h
    ·rename_i hup
     split at h
     ·cases h
     ·rename_i hck
      simp only[fA_eq,fU_eq]at h
      have es:({s with t:=putX s.t o.dst e.val,h:=Up.apps e.up s.h,d:=s.d++e.up.filter fun u=> !u.isNew}:St)=stp s o e:=rfl
      rw[es]at h
      obtain⟨l,a1,a2,a3,a4,a5⟩:=runOps_items h
      refine⟨(k,o,e)::l,by simp[a1,List.range'_succ],by simp[a2],⟨.inl ⟨hw,he,by simpa using hup⟩,a3⟩,a4,fun hd=>?_⟩
      obtain⟨b1,b2⟩:=a5 hd
      refine⟨fun x hx y hy=>?_,List.pairwise_cons.2 ⟨fun y hy=>b1 (k,e) List.mem_cons_self y hy,b2⟩⟩
      rcases List.mem_cons.1 hy with rfl|hy
      ·have:checkX ops k e log=true:=by simpa[hd]using hck
       exact checkX_all this x hx
      ·exact b1 x (List.mem_cons_of_mem _ hx) y hy
theorem region_ok {I:St→Act→World→Prop} {id:Nat} {draw:Bool} (hm:P.follows .mixedOrders=true) (hO:draw=true→OrdOk ops)
  (hI:∀i o e s a w K,ops[i]?=some o→I s a w→Yl cx call keep io ops s o e→(∀a' w',I (stp s o e) a' w'→K a' w')→wpOp P ops Q i K a w) {s sf:St} (hQ:∀s a w,I s a w→Eqv s sf→Q .normal a w)
  (hr:runOps cx call keep io ops draw ops.toList 0 s []=some sf) {a:Act} {w:World} (hi:I s a w) (hi':I s a {w with drawn:=w.drawn+1}):(Code.region id ops draw).wp P Q a w:=by
 obtain⟨l,a1,a2,a3,a4,a5⟩:=runOps_items hr
 have hlen:l.length=ops.size:=by have:=congrArg List.length a1;simpa using this
 have hop:∀x∈l,ops[x.1]?=some x.2.1:=by
  intro x hx
  obtain⟨n,hn,rfl⟩:=List.getElem_of_mem hx
  have h1:(l.map (·.1))[n]?=some n:=by rw[a1];simp[hlen▸hn]
  have h2:(l.map (·.2.1))[n]?=ops[n]?:=by rw[a2];simp
  simp only[List.getElem?_map,List.getElem?_eq_getElem hn,Option.map_some,Option.some.injEq]at h1 h2
  rw[h1];exact h2.symm
 cases draw with
 |false=>
  refine wp_region ?_
  rw[List.range_eq_range',show ops.size=ops.toList.length by simp,←a1]
  exact seq_ok hI hQ l s a w hop a3 (a4▸.refl) hi
 |true=>
  refine wp_region_any hm ?_
  rw[←hlen]
  obtain⟨_,b2⟩:=a5 rfl
  have nd:l.Pairwise fun x y=>x.1<y.1:=by
   have:(l.map (·.1)).Pairwise (· <·):=by rw[a1];exact List.pairwise_lt_range'
   exact List.pairwise_map.1 this
  refine any_ok (hO rfl) hI hQ l s _ a _ ⟨by simp[hlen],hop,fun x hx=>?_,fun i hi _=>?_,nd,?_⟩ (fun k o hk hl=>?_) a3 (a4▸.refl) hi'
  ·have:=(Array.getElem?_eq_some_iff.1 (hop x hx)).1
   simp[hlen,this]
  ·have hlt:i<l.length:=by omega
   refine⟨l[i],List.getElem_mem hlt,?_⟩
   have h1:(l.map (·.1))[i]?=some i:=by rw[a1];simp[hi]
   simp only[List.getElem?_map,List.getElem?_eq_getElem hlt,Option.map_some,Option.some.injEq]at h1
   exact h1
  ·have:=nd.and b2
   rw[List.pairwise_iff_forall_sublist]at this ⊢
   intro x y hs
   obtain⟨c1,c2⟩:=this hs
   have hx:=hop x (hs.subset (by simp))
   have hy:=hop y (hs.subset (by simp))
   rcases c2 with c2|c2
   ·rcases(hO rfl).pair _ _ _ _ c1 hx hy with d|d
    ·exact .inr d
    ·exact .inl (indep_ind c2 d)
   ·exact .inr c2
  ·have:=(Array.getElem?_eq_some_iff.1 hk).1
   simp[hlen,this]at hl
end Go.Am
end
section
namespace Go.Am
open Go.RowKit Go.Lib
variable {P:Program} {cx:Cx} {call:CallF} {keep io nt:Nat} {ops:Array Oper} {B:Base} {K:Nat→Prop} {g:Gh} {R:Nat→Value} {h:Hp} {w:World}
theorem hget_fresh:∀(h:Hp),∃M,∀n,M≤n→hget h n=none
 |[]=>⟨0,fun _ _=>rfl⟩
 |(k,x)::h=>by
  obtain⟨M,hM⟩:=hget_fresh h
  refine⟨M+k+1,fun n hn=>?_⟩
  have:Nat.beq n k=false:=by cases hb:Nat.beq n k;rfl;have:=Nat.eq_of_beq_eq_true hb;omega
  simp only[hget,this]
  exact hM n (by omega)
theorem RM.frzC (H:RM B K g R h w) {r j sz:Nat} {cs es:List AV} (ha:hget h r=some (.bx (.agg cs))) (hc:cs[j]?=some (.ow sz es)) (hk:∀q,¬K q):
  ∃g' R',RM B K g' R' (Up.app h (.set ⟨r,[(0,j)]⟩ (frz 0 (.ow sz es)))) w∧(mkF B g w).le (mkF B g' w)∧∀q p n,g q p=some n→¬(q=r∧pre [(0,j)] p=true)→g' q p=some n:=by
 obtain⟨M,hM⟩:=hget_fresh h
 have hs:=hM M (Nat.le_refl _)
 have hrs:r≠M:=by rintro rfl;rw[ha]at hs;cases hs
 have hg:getT (.bx (.agg cs)) ([]++[(0,j)])=some (.ow sz es):=by
  simp only[List.nil_append,getT,step1,cells,if_true,hc];rfl
 obtain⟨n,u,h1,h2,h5,H1⟩:=H.detach ha hg hs (hk M)
 rw[List.nil_append]at hg H1
 have back:∀q p m,dropG (detG g r [(0,j)] M) M q p=some m→g q p=some m∧q≠M:=by
  intro q p m hm
  unfold dropG at hm
  by_cases e:q=M
  ·rw[if_pos e]at hm;cases hm
  ·rw[if_neg e]at hm
   unfold detG at hm
   rw[if_neg e]at hm
   exact⟨(cutG_some hm).1,e⟩
 have forth:∀q p m,g q p=some m→¬(q=r∧pre [(0,j)] p=true)→dropG (detG g r [(0,j)] M) M q p=some m:=by
  intro q p m hm hn
  have e:q≠M:=by rintro rfl;rw[H.void q hs p]at hm;cases hm
  unfold dropG detG cutG
  rw[if_neg e,if_neg e,if_neg hn];exact hm
 obtain⟨H2,hrf⟩:=H1.give (r:=M) (a:=.ow sz es) (by rw[hget_hins,if_pos rfl])
 have hval:setR R M u M=u:=by simp[setR]
 rw[hval]at hrf
 have H3:=H2.congr (h':=hins h r (setT (.bx (.agg cs)) [(0,j)] .un)) fun q=>by
  rw[hget_hdel,hget_hins _ M]
  by_cases e:q=M
  ·rw[if_pos e,e,hget_hins,if_neg (fun h=>hrs h.symm),hs]
  ·rw[if_neg e,if_neg e]
 have hold:getT (setT (.bx (.agg cs)) [(0,j)] .un) ([]++[(0,j)])=some .un:=by
  have:=getT_setT_under (c:=.un) hg (.inr rfl) []
  rw[List.append_nil]at this
  rw[List.nil_append];exact this
 have H4:=H3.write (c:=frz 0 (.ow sz es)) (u:=u) (by rw[hget_hins,if_pos rfl]) hold (forth r [] n h1 (by simp[pre])) rfl rfl ⟨rfl,hrf⟩ (fun _ _ e=>by cases e)
 rw[setCell_self h5,List.nil_append,setT_same hg rfl rfl]at H4
 refine⟨_,_,H4.congr (h':=Up.app h (.set ⟨r,[(0,j)]⟩ (frz 0 (.ow sz es)))) fun q=>?_,le_sub ?_,fun q p m hm hn=>?_⟩
 ·simp only[Up.app,ha]
  rw[hget_hins,hget_hins,hget_hins]
  split<;>rfl
 ·rintro b o ⟨q,p,m,hm,hb⟩
  exact⟨q,p,m,(back q p m (cutG_some hm).1).1,hb⟩
 ·unfold cutG
  rw[if_neg hn];exact forth q p m hm hn
theorem clearI_keys {d:List Up}:∀{t:Hp},(clearI d t).map (·.1)=t.map (·.1)
 |[]=>rfl
 |(i,a)::t=>by simp[clearI,clearI_keys]
theorem clearI_mem {d:List Up}:∀{t:Hp},∀x∈clearI d t,x.2=.un∨(x∈t∧stale d x.2=false)
 |[],x,hx=>by cases hx
 |(i,a)::t,x,hx=>by
  simp only[clearI]at hx
  rcases List.mem_cons.1 hx with rfl|hx
  ·by_cases e:stale d a=true
   ·rw[if_pos e];exact .inl rfl
   ·rw[if_neg e];exact .inr ⟨List.mem_cons_self,by simpa using e⟩
  ·exact(clearI_mem x hx).imp id fun h=>⟨List.mem_cons_of_mem _ h.1,h.2⟩
theorem nonTup_of {d:List Up} {a:AV} (h:stale d a=false):nonTup a=true:=by
 cases a with
 |tup cs=>simp[stale]at h
 |_=>rfl
theorem frzJ_cases (r j:Nat) (s:St):frzJ r j s=s∨∃cs c,hget s.h r=some (.bx (.agg cs))∧cs[j]?=some c∧isSl c=true∧frzJ r j s={s with t:=clearI [.set ⟨r,[(0,j)]⟩ .un] s.t,h:=Up.app s.h (.set ⟨r,[(0,j)]⟩ (frz 0 c))}:=by
 unfold frzJ
 split
 ·rename_i cs ha
  split
  ·rename_i c hc
   cases hs:isSl c with
   |true=>exact .inr ⟨cs,c,ha,hc,hs,rfl⟩
   |false=>exact .inl rfl
  ·exact .inl rfl
 ·exact .inl rfl
theorem RM.frzC2 (H:RM B K g R h w) {r j:Nat} {cs:List AV} {c:AV} (ha:hget h r=some (.bx (.agg cs))) (hc:cs[j]?=some c) (hsl:isSl c=true) (hk:∀q,¬K q):
  ∃g' R',RM B K g' R' (Up.app h (.set ⟨r,[(0,j)]⟩ (frz 0 c))) w∧(mkF B g w).le (mkF B g' w)∧∀q p n,g q p=some n→¬(q=r∧pre [(0,j)] p=true)→g' q p=some n:=by
 cases c with
 |ow sz es=>exact H.frzC ha hc hk
 |fz l z es=>
  refine⟨g,R,H.congr fun q=>?_,le_refl,fun q p n hn _=>hn⟩
  simp only[Up.app,ha]
  rw[hget_hins]
  split
  ·rename_i e
   have hj:j<cs.length:=by
    rcases Nat.lt_or_ge j cs.length with h|h
    ·exact h
    ·rw[List.getElem?_eq_none h]at hc;cases hc
   have hx:cs.set j (.fz l z es)=cs:=by
    rw[List.getElem?_eq_getElem hj]at hc
    rw[←Option.some.inj hc,List.set_getElem_self]
   rw[e,ha]
   simp only[setT,step1,cells,if_true,hc,put1,putCell,frz,hx]
  ·rfl
 |_=>cases hsl
theorem frzJ_ok {ρ:Nat→Value} {r j:Nat} {s:St} (H:RM B K g R s.h w) (hT:TX (mkF B g w) g [] s.t ρ) (hk:∀q,¬K q):
  ∃g' R',RM B K g' R' (frzJ r j s).h w∧TX (mkF B g' w) g' [] (frzJ r j s).t ρ∧(∀q n,g q []=some n→g' q []=some n)∧(∀q x,hget (frzJ r j s).h q=some x→∃y,hget s.h q=some y)∧(frzJ r j s).d=s.d:=by
 rcases frzJ_cases r j s with e|⟨cs,c,ha,hc,hsl,e⟩
 ·rw[e];exact⟨g,R,H,hT,fun _ _ h=>h,fun _ x h=>⟨x,h⟩,rfl⟩
 rw[e]
 obtain⟨g',R',h1,h2,h3⟩:=H.frzC2 ha hc hsl hk
 refine⟨g',R',h1,⟨keys_sorted clearI_keys hT.sorted,fun x hx=>?_⟩,fun q n hn=>h3 q [] n hn (by simp[pre]),fun q x hx=>?_,rfl⟩
 ·rcases clearI_mem x hx with h|⟨hx,h⟩
  ·exact .inl h
  refine unfade (d:=[.set ⟨r,[(0,j)]⟩ .un]) ?_ h (stale_nil (nonTup_of h))
  refine(hT.holds x hx).fade h2 (fun pl _=>(rfl:okD [] pl)) fun pl n ho hn=>h3 _ _ _ hn fun⟨e1,e2⟩=>?_
  simp[okD,Up.hits,Pl.pre,e1,e2]at ho
 ·simp only[Up.app,ha]at hx
  rw[hget_hins]at hx
  split at hx
  ·rename_i e;exact⟨_,e▸ha⟩
  ·exact⟨x,hx⟩
theorem frzS_ok {ρ:Nat→Value} {id:Nat} (hk:∀q,¬K q):∀{nm:List Nat} {s:St} {g:Gh} {R:Nat→Value},RM B K g R s.h w→TX (mkF B g w) g [] s.t ρ→
  ∃g' R',RM B K g' R' (frzS nm id s).h w∧TX (mkF B g' w) g' [] (frzS nm id s).t ρ∧(∀q n,g q []=some n→g' q []=some n)∧(∀q x,hget (frzS nm id s).h q=some x→∃y,hget s.h q=some y)∧(frzS nm id s).d=s.d
 |[],s,g,R,H,hT=>⟨g,R,H,hT,fun _ _ h=>h,fun _ x h=>⟨x,h⟩,rfl⟩
 |e::nm,s,g,R,H,hT=>by
  obtain⟨g1,R1,a1,a2,a3,a4,a5⟩:=frzS_ok (id:=id) hk (nm:=nm) H hT
  simp only[frzS]
  split
  ·obtain⟨g2,R2,b1,b2,b3,b4,b5⟩:=frzJ_ok (r:=e / 4194304) (j:=e / 65536 % 64) a1 a2 hk
   exact⟨g2,R2,b1,b2,fun q n h=>b3 q n (a3 q n h),fun q x h=>by obtain⟨y,hy⟩:=b4 q x h;exact a4 q y hy,b5.trans a5⟩
  ·exact⟨g1,R1,a1,a2,a3,a4,a5⟩
end Go.Am
end
section
namespace Go.Am
open Go.RowKit Go.Lib
variable {P:Program} {cx:Cx} {call:CallF} {keep io nt:Nat} {ops:Array Oper} {Q:Exit→Act→World→Prop} {B:Base} {ν:Nat→Option Nd}
inductive XDs (F:Fz) (g:Gh) (d:List Up):List AV→List Value→Prop
 |nil:XDs F g d [] []
 |cons {a:AV} {v:Value} {l:List AV} {vs:List Value} (h:XD F g d a v) (t:XDs F g d l vs):XDs F g d (a::l) (v::vs)
theorem XDs.map {F:Fz} {g:Gh} {s:St} {ρ:Operand→Value} (hx:∀x,XD F g s.d (ev s x) (ρ x)):∀l:List Operand,XDs F g s.d (l.map (ev s)) (l.map ρ)
 |[]=>.nil
 |x::l=>.cons (hx x) (XDs.map hx l)
structure FOk (P:Program) (f:Nat) (fn:FnS) (pf:Func):Prop where
 at_:P.funcs[f]?=some pf
 name:(pf.name== "runtime.NumGoroutine")=false
 body:pf.body=some fn.body
def Ret (R:Value→World→Prop):Ending→World→Prop
 | .returned v,w=>R v w
 |_,_=>False
def CallsOk (P:Program) (cx:Cx) (call:CallF):Prop:=∀{B:Base} {g:Gh} {R:Nat→Value} {s:St} {w:World} {d f:Nat} {args:List AV} {vs:List Value} {e:Eff},
 RM B (Kd s.d) g R s.h w→XDs (mkF B g w) g s.d args vs→callX cx call s d f args=some e→
 ∃fn pf,FOk P f fn pf∧Calls P f vs.toArray w (Ret fun v w'=>∃g' R',Lands B g s w e v w' g' R')
structure Inv (B:Base) (io nt:Nat) (ν:Nat→Option Nd) (s:St) (a:Act) (w:World):Prop where
 ex:∃g R,RM B (Kd s.d) g R s.h w∧TX (mkF B g w) g s.d s.t (fun i=>a.tmps.getD i undef)∧∀r x,io.testBit r=true→hget s.h r=some x→okD s.d ⟨r,[]⟩∧∀n,ν r=some n→g r []=some n
 sz:a.tmps.size=nt
 df:a.defers=[]
theorem Inv.frz {s:St} {a:Act} {w:World} {nm:List Nat} {id:Nat} (h:Inv B io nt ν s a w) (hd:s.d=[]):Inv B io nt ν (frzS nm id s) a w∧(frzS nm id s).d=[]:=by
 obtain⟨⟨g,R,h1,h2,h3⟩,h4,h5⟩:=h
 rw[hd]at h1 h2 h3
 obtain⟨g',R',a1,a2,a3,a4,a5⟩:=frzS_ok (id:=id) (nm:=nm) (fun q ⟨_,_,hq⟩=>List.not_mem_nil hq) h1 h2
 rw[hd]at a5
 refine⟨⟨⟨g',R',by rw[a5];exact a1,by rw[a5];exact a2,fun r x hr hx=>?_⟩,h4,h5⟩,a5⟩
 obtain⟨y,hy⟩:=a4 r x hx
 obtain⟨_,b2⟩:=h3 r y hr hy
 exact⟨by rw[a5];rfl,fun n hn=>a3 r n (b2 n hn)⟩
theorem apps_io {r:Nat} (hr:io.testBit r=true):∀{us:List Up} {h:Hp} {x:AV},(∀u∈us,upOk io u=true)→hget (Up.apps us h) r=some x→(∃y,hget h r=some y)∧∀u∈us,u.isNew=false→u.hits ⟨⟨r,[]⟩,false⟩=false
 |[],h,x,_,hx=>⟨⟨x,hx⟩,fun u hu=>by cases hu⟩
 |u::us,h,x,hu,hx=>by
  obtain⟨⟨y,hy⟩,h2⟩:=apps_io hr (us:=us) (h:=u.app h) (fun z hz=>hu z (List.mem_cons_of_mem _ hz)) hx
  have hou:=hu u List.mem_cons_self
  have key:(∃y,hget h r=some y)∧(u.isNew=false→u.hits ⟨⟨r,[]⟩,false⟩=false):=by
   rw[hget_app]at hy
   cases u with
   |set q a=>
    simp only[upOk,Bool.and_eq_true,Bool.not_eq_true',List.isEmpty_eq_false_iff]at hou
    refine⟨?_,fun _=>?_⟩
    ·split at hy
     ·cases hh:hget h r with
      |none=>rw[hh]at hy;cases hy
      |some z=>exact⟨z,rfl⟩
     ·exact⟨y,hy⟩
    ·simp only[Up.hits,Bool.false_and,Bool.or_false,Pl.pre]
     cases hq:q.p with
     |nil=>exact absurd hq hou.1
     |cons t p=>simp[pre]
   |fill q a=>
    refine⟨?_,fun h=>by cases h⟩
    split at hy
    ·cases hh:hget h r with
     |none=>rw[hh]at hy;cases hy
     |some z=>exact⟨z,rfl⟩
    ·exact⟨y,hy⟩
   |inn q a=>
    simp only[upOk,List.isEmpty_iff]at hou
    refine⟨?_,fun _=>?_⟩
    ·split at hy
     ·cases hh:hget h r with
      |none=>rw[hh]at hy;cases hy
      |some z=>exact⟨z,rfl⟩
     ·exact⟨y,hy⟩
    ·simp[Up.hits,hou]
   |new q a=>
    simp only[upOk,Bool.not_eq_true']at hou
    refine⟨?_,fun h=>by cases h⟩
    split at hy
    ·rename_i e;simp only[Up.pl]at e;rw[←e,hr]at hou;cases hou
    ·exact⟨y,hy⟩
   |del q=>
    split at hy
    ·cases hy
    ·rename_i e
     refine⟨⟨y,hy⟩,fun _=>?_⟩
     simp only[Up.hits]
     exact nbF fun e'=>e e'.symm
  refine⟨key.1,fun z hz hn=>?_⟩
  rcases List.mem_cons.1 hz with rfl|hz
  ·exact key.2 hn
  ·exact h2 z hz hn
theorem getD_put {a:Act} {d:Nat} {v:Value} (hd:d<a.tmps.size):(fun i=>(a.put (some d) v).tmps.getD i undef)=fun i=>if i=d then v else a.tmps.getD i undef:=by
 funext i
 simp only[Act.put,Array.getD_eq_getD_getElem?]
 by_cases e:i=d
 ·subst e;simp[hd]
 ·rw[if_neg e,Array.getElem?_setIfInBounds_ne (fun x=>e x.symm)]
theorem Inv.step {s:St} {a:Act} {w w':World} {o:Oper} {e:Eff} {v:Value} {g g':Gh} {R':Nat→Value} (hd:∀d,o.dst=some d→d<nt) (hup:∀u∈e.up,upOk io u=true) (hsz:a.tmps.size=nt) (hdf:a.defers=[])
  (hT:TX (mkF B g w) g s.d s.t (fun i=>a.tmps.getD i undef)) (hio:∀r x,io.testBit r=true→hget s.h r=some x→okD s.d ⟨r,[]⟩∧∀n,ν r=some n→g r []=some n)
  (hL:Lands B g s w e v w' g' R'):Inv B io nt ν (stp s o e) (a.put o.dst v) w':=by
 refine⟨⟨g',R',hL.rm,?_,fun r x hr hx=>?_⟩,?_,?_⟩
 ·have hT':=hT.step hL.le (fun pl hp=>okD_append hp) hL.keep
  cases ho:o.dst with
  |none=>simp only[stp,ho,putX,Act.put];exact hT'
  |some d=>
   rw[getD_put (hsz▸hd d ho)]
   simp only[stp,ho,putX]
   exact hT'.put hL.val
 ·obtain⟨⟨y,hy⟩,h2⟩:=apps_io hr hup hx
  obtain⟨h3,h4⟩:=hio r y hr hy
  have hok:okD (s.d++dn e.up) ⟨r,[]⟩:=by
   unfold okD at *
   rw[List.any_append,h3,Bool.false_or,List.any_eq_false]
   intro u hu
   have:=List.mem_filter.1 hu
   rw[h2 u this.1 (by simpa using this.2)];decide
  exact⟨hok,fun n hn=>hL.keep ⟨r,[]⟩ n hok (h4 n hn)⟩
 ·cases o.dst<;>simp[Act.put,hsz]
 ·cases o.dst<;>simp[Act.put,hdf]
theorem X_tup0 {F:Fz} {g:Gh} {d:List Up} {v:Value} (hx:XD F g d (.tup []) v):v=.tuple #[]:=by
 rcases hx with hx|hx
 ·cases hx
 ·have e:fade d (.tup [])=.tup []:=rfl
  rw[e]at hx
  cases hx with
  |c hx=>cases hx with
   |c hx=>cases hx with
    |f hx=>cases hx
  |tup hx=>cases hx;rfl
theorem wanted_ok {s:St} {a:Act} {F:Fz} {g:Gh} {o:Oper} {b:Bool} (hT:TX F g s.d s.t (fun i=>a.tmps.getD i undef)) (h:wantX ops s o=some b):Region.wanted o (yielded ops a.tmps)=b:=by
 unfold wantX at h
 unfold Region.wanted
 cases hg:o.guard with
 |none=>rw[hg]at h;simp at h;show true=b;exact h.symm
 |some jw=>
  obtain⟨j,want⟩:=jw
  rw[hg]at h
  simp only at h ⊢
  cases hd:(ops[j]?).bind (·.dst)with
  |none=>rw[hd]at h;cases h
  |some d=>
   rw[hd]at h
   simp only at h
   have hx:=hT.get d
   unfold yielded
   rw[hd,Option.bind_some]
   split at h
   ·rename_i c hc
    rw[hc]at hx
    have hv:=X_bool hx
    simp only[Option.some.injEq]at h
    subst h
    rw[Array.getD_eq_getD_getElem?]at hv
    cases ht:a.tmps[d]? with
    |none=>rw[ht]at hv;cases hv
    |some v=>
     rw[ht]at hv
     simp only[Option.getD_some]at hv
     subst hv
     simp only
     cases c<;>cases want<;>rfl
   ·rename_i hc
    rw[hc]at hx
    simp only[Option.some.injEq]at h
    subst h
    have hv:a.tmps.getD d undef=.tuple #[]:=X_tup0 hx
    rw[Array.getD_eq_getD_getElem?]at hv
    cases ht:a.tmps[d]? with
    |none=>rfl
    |some v=>
     rw[ht]at hv
     simp only[Option.getD_some]at hv
     subst hv
     rfl
   ·cases h
theorem op_ok (hT:TOk P cx) (hC:CallsOk P cx call) (hdst:∀o∈ops,∀d,o.dst=some d→d<nt) (i:Nat) (o:Oper) (e:Eff) (s:St) (a:Act) (w:World) (K:Act→World→Prop) (hi:ops[i]?=some o)
  (hI:Inv B io nt ν s a w) (hy:Yl cx call keep io ops s o e) (hK:∀a' w',Inv B io nt ν (stp s o e) a' w'→K a' w'):wpOp P ops Q i K a w:=by
 obtain⟨⟨g,R,H,hTX,hio⟩,hsz,hdf⟩:=hI
 have hdd:∀d,o.dst=some d→d<nt:=hdst o (Array.mem_of_getElem? hi)
 unfold wpOp
 rw[hi]
 simp only
 rcases hy with⟨h1,h2,h3⟩|⟨h1,rfl⟩
 ·rw[wanted_ok hTX h1,if_pos rfl]
  refine .inl ?_
  have hup:∀u∈e.up,upOk io u=true:=List.all_eq_true.1 h3
  have hx:∀x,XD (mkF B g w) g s.d (ev s x) (a.eval x):=ev_X (ρ:=a.eval) hTX.get (fun v=>rfl)
  have fin:∀v w' g' R',Lands B g s w e v w' g' R'→K (a.put o.dst v) w':=fun v w' g' R' hL=>hK _ _ (Inv.step hdd hup hsz hdf hTX hio hL)
  by_cases hc:∃c f,o.op=.call c∧c.callee=.value (.func f)
  ·obtain⟨c,f,hop,hcal⟩:=hc
   have hX:callX cx call s (o.dst.getD 0) f (c.args.toList.map (ev s))=some e:=by
    unfold opX at h2
    rw[hop]at h2
    simp only[oCall,hcal]at h2
    exact h2
   obtain⟨fn,pf,hf,hcalls⟩:=hC H (XDs.map hx c.args.toList) hX
   unfold Oper.wp
   have hexec:(execOp a.eval o).run P w=.ok (.enter f (c.args.map a.eval)) w:=by
    have e1:execOp a.eval o=callFunc f (#[]++c.args.map a.eval++ #[]):=by
     unfold execOp
     rw[hop]
     unfold Go.resolve
     simp only[hcal]
     rfl
    rw[e1]
    unfold callFunc
    simp only[Sem.run_bind,Go.run_program,Result.andThen_ok,hf.at_,hf.name,hf.body]
    simp
   rw[hexec]
   simp only[Oper.upon]
   have e2:c.args.map a.eval=(c.args.toList.map a.eval).toArray:=by apply Array.ext';simp
   rw[e2]
   refine hcalls.mono fun en w' hr=>?_
   cases en with
   |returned v=>obtain⟨g',R',hL⟩:=hr;exact fin v w' g' R' hL
   |panicked c=>exact hr.elim
   |outgrown=>exact hr.elim
  ·have hG:=opX_ok (P:=P) hT H hx (fun c f ho hcal=>hc ⟨c,f,ho,hcal⟩) h2
   obtain⟨nx,v,w',g',R',b1,b2,b3⟩:=hG
   unfold Oper.wp
   rw[b1]
   rcases b2 with rfl|⟨rfl,rfl⟩
   ·exact fin v w' g' R' b3
   ·exact fin undef w' g' R' b3
 ·rw[wanted_ok hTX h1]
  simp only[Bool.false_eq_true,if_false]
  refine hK _ _ (Inv.step hdd (fun u hu=>by cases hu) hsz hdf hTX hio (R':=R) (g':=g) ?_)
  refine Lands.still H (.inr ?_)
  show RX _ _ (.tup []) _
  exact .tup .nil
theorem fade_ext {d d':List Up} (h:∀u,u∈d↔u∈d'):∀a,fade d a=fade d' a:=by
 have c:∀c,staleC d c=staleC d' c:=by
  intro c;cases c<;>simp only[staleC]<;>exact any_mem h _
 have fc:∀c,fadeC d c=fadeC d' c:=fun x=>by unfold fadeC;rw[c]
 have f1:∀a,fade1 d a=fade1 d' a:=by
  intro a;cases a<;>simp only[fade1]<;>first|exact fc _|(congr 1;exact List.map_congr_left fun x _=>fc x)
 intro a
 cases a<;>simp only[fade]<;>first|exact f1 _|(congr 1;exact List.map_congr_left fun x _=>f1 x)
theorem hget_of_mem:∀{t:Hp},t.Pairwise (fun x y=>y.1<x.1)→∀x∈t,hget t x.1=some x.2
 |(k,y)::t,hp,x,hx=>by
  obtain⟨h1,h2⟩:=List.pairwise_cons.1 hp
  simp only[hget]
  rcases List.mem_cons.1 hx with rfl|hx
  ·rw[nbT];rfl
  ·have:=h1 x hx
   rw[nbF (by simp at this;omega),cond_false]
   exact hget_of_mem h2 x hx
theorem fin_sorted:∀{l:List It} {s:St},s.t.Pairwise (fun x y=>y.1<x.1)→(fin s l).t.Pairwise fun x y=>y.1<x.1
 |[],_,h=>h
 |x::l,s,h=>by
  refine fin_sorted (l:=l) ?_
  simp only[stp]
  cases x.2.1.dst with
  |none=>exact h
  |some d=>exact(tins_mem h).1
theorem Inv.eqv {s s':St} {a:Act} {w:World} (h:Inv B io nt ν s a w) (he:Eqv s s') (hs:s'.t.Pairwise fun x y=>y.1<x.1):Inv B io nt ν s' a w:=by
 obtain⟨⟨g,R,H,hT,hio⟩,hsz,hdf⟩:=h
 refine⟨⟨g,R,?_,⟨hs,fun x hx=>?_⟩,fun r x hr hx=>?_⟩,hsz,hdf⟩
 ·refine(H.congr fun r=>(he.h r).symm).weakK fun q ⟨pl,len,hq⟩=>⟨pl,len,(he.d _).1 hq⟩
 ·have h1:=hT.get x.1
  rw[he.t]at h1
  unfold tget at h1
  rw[hget_of_mem hs x hx]at h1
  unfold XD at h1 ⊢
  rw[←fade_ext he.d];exact h1
 ·rw[←he.h]at hx
  obtain⟨h1,h2⟩:=hio r x hr hx
  refine⟨?_,h2⟩
  unfold okD at *
  rw[←any_mem he.d];exact h1
theorem Inv.drawn {s:St} {a:Act} {w:World} (h:Inv B io nt ν s a w) (k:Nat):Inv B io nt ν s a {w with drawn:=k}:=by
 obtain⟨⟨g,R,H,hT,hio⟩,hsz,hdf⟩:=h
 exact⟨⟨g,R,H.world rfl rfl rfl rfl,hT,hio⟩,hsz,hdf⟩
theorem Inv.alias {s:St} {a:Act} {w:World} (h:Inv B io nt ν s a w) (b:Bool):Inv B io nt ν {s with alias:=b} a w:=⟨h.ex,h.sz,h.df⟩
theorem runOps_sorted {draw:Bool} {os:List Oper} {k:Nat} {s sf:St} {log:List (Nat×Eff)} (h:runOps cx call keep io ops draw os k s log=some sf) (hs:s.t.Pairwise fun x y=>y.1<x.1):sf.t.Pairwise fun x y=>y.1<x.1:=by
 obtain⟨l,_,_,_,a4,_⟩:=runOps_items h
 rw[←a4];exact fin_sorted hs
theorem regionX_ok {id:Nat} {draw alias:Bool} {s s':St} {a:Act} {w:World} (hT:TOk P cx) (hC:CallsOk P cx call) (hm:P.follows .mixedOrders=true) (hO:draw=true→OrdOk ops) (hdst:∀o∈ops,∀d,o.dst=some d→d<nt)
  (hr:regionX cx call keep io ops draw alias s=some s') (hI:Inv B io nt ν s a w) (hd:s.d=[]) (hQ:∀a w,Inv B io nt ν s' a w→s'.d=[]→Q .normal a w):(Code.region id ops draw).wp P Q a w:=by
 unfold regionX at hr
 split at hr
 ·cases hr
 ·rename_i s1 hs1
  have hI0:Inv B io nt ν {killX ops.toList s with alias:=alias} a w:=by
   obtain⟨⟨g,R,H,hTX,hio⟩,hsz,hdf⟩:=hI
   rw[hd]at H hTX hio
   obtain⟨g',a1,a2,a3,a4,a5,a6⟩:=killX_ok (ops:=ops.toList) H hTX
   refine Inv.alias (s:=killX ops.toList s) ⟨⟨g',R,by rw[a5,hd];exact a1,by rw[a5,hd];exact a2,fun r x hrr hx=>?_⟩,hsz,hdf⟩ alias
   obtain⟨b1,b2⟩:=a4 r x hx
   obtain⟨_,c1⟩:=hio r x hrr b1
   exact⟨by rw[a5,hd];rfl,fun n hn=>by rw[b2];exact c1 n hn⟩
  refine region_ok (I:=fun s a w=>Inv B io nt ν s a w) hm hO (fun i o e s a w K=>op_ok hT hC hdst i o e s a w K) (fun s2 a2 w2 h2 he=>?_) hs1 hI0 (hI0.drawn _)
  have hsrt:s1.t.Pairwise fun x y=>y.1<x.1:=by
   obtain⟨⟨g,R,H,hTX,hio⟩,_,_⟩:=hI0
   exact runOps_sorted hs1 hTX.sorted
  obtain⟨⟨g,R,H,hTX,hio⟩,hsz,hdf⟩:=h2.eqv he hsrt
  obtain⟨g',R',b1,b2,b3,b4,b5⟩:=finX_ok (io:=io) H hTX hr
  refine hQ a2 w2 ⟨⟨g',R',?_,?_,fun r x hrr hx=>?_⟩,hsz,hdf⟩ b4
  ·exact b1.weakK fun q hq=>hq.elim
  ·rw[b4];exact b2
  ·obtain⟨⟨y,hy⟩,c2⟩:=b5 r x hrr hx
   obtain⟨_,d1⟩:=hio r y hrr hy
   exact⟨by rw[b4];rfl,fun n hn=>c2 n (d1 n hn)⟩
def Xt.ex:Xt→Exit
 | .normal=>.normal
 | .exit id=>.exit id
 | .ret=>.ret
def CodeOk (nt:Nat):Code→Prop
 | .region _ ops draw=>(draw=true→OrdOk ops)∧∀o∈ops,∀d,o.dst=some d→d<nt
 | .seq a b=>CodeOk nt a∧CodeOk nt b
 | .cond _ a b=>CodeOk nt a∧CodeOk nt b
 | .block _ b=>CodeOk nt b
 | .loop b=>CodeOk nt b
 |_=>True
theorem execX_ok {noMove:List Nat} (hT:TOk P cx) (hC:CallsOk P cx call) (hm:P.follows .mixedOrders=true):∀(n:Nat) (c:Code) (s s':St) (r:Xt) (Q:Exit→Act→World→Prop) (a:Act) (w:World),CodeOk nt c→execX cx call keep io noMove n c s=some (r,s')→
  Inv B io nt ν s a w→s.d=[]→(∀a w,Inv B io nt ν s' a w→s'.d=[]→Q r.ex a w)→c.wp P Q a w∧(∀b,c=.loop b→Code.rounds P b Q n a w)
 |0,c,s,s',r,Q,a,w,_,he,_,_,_=>by simp[execX,oops]at he
 |n+1,c,s,s',r,Q,a,w,hc,he,hI,hd,hQ=>by
  have IH:=fun {c s s' r Q a w} h1 h2 h3 h4 h5=>(execX_ok (noMove:=noMove) hT hC hm n c s s' r Q a w h1 h2 h3 h4 h5).1
  cases c with
  |skip=>
   simp only[execX,Option.some.injEq,Prod.mk.injEq]at he
   obtain⟨rfl,rfl⟩:=he
   exact⟨wp_skip (hQ a w hI hd),fun b e=>by cases e⟩
  |region id ops draw=>
   simp only[execX]at he
   split at he
   ·rename_i s1 hs1
    simp only[Option.some.injEq,Prod.mk.injEq]at he
    obtain⟨rfl,rfl⟩:=he
    exact⟨regionX_ok hT hC hm hc.1 hc.2 hs1 (hI.frz hd).1 (hI.frz hd).2 hQ,fun b e=>by cases e⟩
   ·cases he
  |seq x y=>
   simp only[execX]at he
   refine⟨wp_seq ?_,fun b e=>by cases e⟩
   split at he
   ·rename_i s1 hs1
    exact IH hc.1 hs1 hI hd fun a1 w1 h1 h2=>IH hc.2 he h1 h2 hQ
   ·rename_i hne
    refine IH hc.1 he hI hd fun a1 w1 h1 h2=>?_
    cases r with
    |normal=>exact absurd he (hne _)
    |exit id=>exact hQ a1 w1 h1 h2
    |ret=>exact hQ a1 w1 h1 h2
  |cond x y z=>
   simp only[execX]at he
   obtain⟨g,R,H,hTX,hio⟩:=hI.ex
   have hx:XD (mkF B g w) g s.d (ev s x) (a.eval x):=ev_X (ρ:=a.eval) hTX.get (fun v=>rfl) x
   refine⟨?_,fun b e=>by cases e⟩
   split at he
   ·rename_i hb;rw[hb]at hx;exact wp_cond_true (X_bool hx) (IH hc.1 he hI hd hQ)
   ·rename_i hb;rw[hb]at hx;exact wp_cond_false (X_bool hx) (IH hc.2 he hI hd hQ)
   ·cases he
  |block id b=>
   simp only[execX]at he
   refine⟨wp_block ?_,fun b e=>by cases e⟩
   split at he
   ·rename_i id' s1 hs1
    refine IH hc hs1 hI hd fun a1 w1 h1 h2=>?_
    simp only[Xt.ex,Exit.inBlock]
    split at he
    ·rename_i e
     simp only[Option.some.injEq,Prod.mk.injEq]at he
     obtain⟨rfl,rfl⟩:=he
     rw[if_pos e];exact hQ a1 w1 h1 h2
    ·rename_i e
     simp only[Option.some.injEq,Prod.mk.injEq]at he
     obtain⟨rfl,rfl⟩:=he
     rw[if_neg e];exact hQ a1 w1 h1 h2
   ·rename_i hne
    refine IH hc he hI hd fun a1 w1 h1 h2=>?_
    cases r with
    |normal=>exact hQ a1 w1 h1 h2
    |exit id=>exact absurd he (hne _ _)
    |ret=>exact hQ a1 w1 h1 h2
  |loop b=>
   have key:Code.rounds P b Q (n+1) a w:=by
    rw[rounds_succ]
    simp only[execX]at he
    split at he
    ·rename_i s1 hs1
     refine IH hc hs1 hI hd fun a1 w1 h1 h2=>?_
     exact(execX_ok (noMove:=noMove) hT hC hm n (.loop b) s1 s' r Q a1 w1 hc he h1 h2 hQ).2 b rfl
    ·rename_i hne
     refine IH hc he hI hd fun a1 w1 h1 h2=>?_
     cases r with
     |normal=>exact absurd he (hne _)
     |exit id=>exact hQ a1 w1 h1 h2
     |ret=>exact hQ a1 w1 h1 h2
   exact⟨wp_loop_rounds (n+1) key,fun b' e=>by cases e;exact key⟩
  |exit id=>
   simp only[execX,Option.some.injEq,Prod.mk.injEq]at he
   obtain⟨rfl,rfl⟩:=he
   exact⟨wp_exit (hQ a w hI hd),fun b e=>by cases e⟩
  |ret=>
   simp only[execX,Option.some.injEq,Prod.mk.injEq]at he
   obtain⟨rfl,rfl⟩:=he
   exact⟨wp_ret (hQ a w hI hd),fun b e=>by cases e⟩
  |_=>simp[execX,oops]at he
end Go.Am
end
section
namespace Go.Am
open Go.RowKit Go.Lib
variable {P:Program} {cx:Cx} {B:Base} {K:Nat→Prop} {g g' g1 g2:Gh} {R R' R1 R2:Nat→Value} {s:St} {h h' h1 h2:Hp} {w w':World} {F F':Fz}
inductive RV1 (F:Fz) (R:Nat→Value) (h:Hp):Nat→AV→Value→Prop
 |leaf {N:Nat} {c:AV} {v:Value} (hf:RF F c v):RV1 F R h N c v
 |node {N:Nat} {c:AV} {v:Value} (hn:isNode c=true) (hh:hget h N=some c) (hv:R N=v):RV1 F R h N c v
inductive RVL (F:Fz) (R:Nat→Value) (h:Hp):Nat→List AV→List Value→Prop
 |nil {N:Nat}:RVL F R h N [] []
 |cons {N:Nat} {c:AV} {v:Value} {l:List AV} {vs:List Value} (a:RV1 F R h N c v) (t:RVL F R h (N+1) l vs):RVL F R h N (c::l) (v::vs)
inductive RVE (F:Fz) (R:Nat→Value) (h:Hp):Nat→AV→Value→Prop
 |un {N:Nat} {v:Value}:RVE F R h N .un v
 |c {N:Nat} {c:AV} {v:Value} (a:RV1 F R h N c v):RVE F R h N c v
 |agg {N:Nat} {l:List AV} {vs:List Value} (a:RVL F R h N l vs):RVE F R h N (.agg l) (.agg vs.toArray)
inductive RVT (F:Fz) (R:Nat→Value) (h:Hp):Nat→List AV→List Value→Prop
 |nil {N:Nat}:RVT F R h N [] []
 |cons {N:Nat} {c:AV} {v:Value} {l:List AV} {vs:List Value} (hu:c≠.un) (a:RVE F R h N c v) (t:RVT F R h (N+64) l vs):RVT F R h N (c::l) (v::vs)
inductive RV (F:Fz) (R:Nat→Value) (h:Hp):Nat→AV→Value→Prop
 |e {N:Nat} {c:AV} {v:Value} (a:RVE F R h N c v):RV F R h N c v
 |tup {N:Nat} {l:List AV} {vs:List Value} (a:RVT F R h N l vs):RV F R h N (.tup l) (.tuple vs.toArray)
theorem RF.noNode {a:AV} {v:Value} (h:RF F a v):isNode a=false:=by cases h<;>rfl
theorem RV1.mv {N N':Nat} {c:AV} {v:Value} (hle:F.le F') (h0:RV1 F R h N c v) (hm:isNode c=true→hget h N=some c→hget h' N'=some c∧R' N'=R N):RV1 F' R' h' N' c v:=by
 cases h0 with
 |leaf hf=>exact .leaf (hf.mono hle)
 |node hn hh hv=>
  obtain⟨a,b⟩:=hm hn hh
  exact .node hn a (b.trans hv)
theorem offL_shift:∀(l:List AV) (k n:Nat),offL (k+n) l=(offL k l).map fun x=>(x.1+n,x.2)
 |[],_,_=>rfl
 |a::l,k,n=>by
  simp only[offL]
  have:=offL_shift l (k+1) n
  rw[show k+1+n=k+n+1 by omega]at this
  split<;>simp[this]
theorem off1_shift (a:AV) (k n:Nat):off1 (k+n) a=(off1 k a).map fun x=>(x.1+n,x.2):=by
 cases a<;>simp only[off1]<;>exact offL_shift _ _ _
theorem RVL.mv {N N':Nat} (hle:F.le F'):∀{l:List AV} {vs:List Value} {k:Nat},RVL F R h (N+k) l vs→(∀x∈offL k l,hget h (N+x.1)=some x.2→hget h' (N'+x.1)=some x.2∧R' (N'+x.1)=R (N+x.1))→RVL F' R' h' (N'+k) l vs
 |_,_,k,.nil,_=>.nil
 |_,_,k,.cons (c:=c) (l:=l) a t,hm=>by
  simp only[offL]at hm
  refine .cons (a.mv hle fun hn hh=>?_) (RVL.mv (k:=k+1) hle t fun x hx=>?_)
  ·rw[if_pos hn]at hm;exact hm (k,c) List.mem_cons_self hh
  ·refine hm x ?_
   split
   ·exact List.mem_cons_of_mem _ hx
   ·exact hx
theorem RVE.mv {N N' k:Nat} {a:AV} {v:Value} (hle:F.le F') (h0:RVE F R h (N+k) a v) (hm:∀x∈off1 k a,hget h (N+x.1)=some x.2→hget h' (N'+x.1)=some x.2∧R' (N'+x.1)=R (N+x.1)):RVE F' R' h' (N'+k) a v:=by
 cases h0 with
 |un=>exact .un
 |c a1=>
  refine .c (a1.mv hle fun hn hh=>hm (k,a) ?_ hh)
  cases a<;>simp[isNode]at hn<;>simp[off1,offL,isNode]
 |agg a1=>exact .agg (a1.mv hle hm)
theorem RVT.mv {N N':Nat} (hle:F.le F'):∀{l:List AV} {vs:List Value} {k:Nat},RVT F R h (N+k) l vs→(∀x∈offT k l,hget h (N+x.1)=some x.2→hget h' (N'+x.1)=some x.2∧R' (N'+x.1)=R (N+x.1))→RVT F' R' h' (N'+k) l vs
 |_,_,k,.nil,_=>.nil
 |_,_,k,.cons hu a t,hm=>by
  simp only[offT]at hm
  exact .cons hu (a.mv hle fun x hx=>hm x (List.mem_append_left _ hx)) (RVT.mv (k:=k+64) hle t fun x hx=>hm x (List.mem_append_right _ hx))
theorem RV.mv {N N':Nat} {a:AV} {v:Value} (hle:F.le F') (h0:RV F R h N a v) (hm:∀x∈offs a,hget h (N+x.1)=some x.2→hget h' (N'+x.1)=some x.2∧R' (N'+x.1)=R (N+x.1)):RV F' R' h' N' a v:=by
 cases h0 with
 |e a1=>
  refine .e (RVE.mv (N:=N) (N':=N') (k:=0) hle a1 fun x hx=>hm x ?_)
  cases a with
  |tup vs=>
   cases a1 with
   |c a1=>cases a1 with
    |leaf hf=>cases hf
    |node hn _ _=>cases hn
  |_=>exact hx
 |tup a1=>exact .tup (RVT.mv (N:=N) (N':=N') (k:=0) hle a1 hm)
theorem RVL.roots {N:Nat}:∀{l:List AV} {vs:List Value} {k:Nat},RVL F R h (N+k) l vs→∀x∈offL k l,hget h (N+x.1)=some x.2∧isNode x.2=true
 |_,_,k,.nil,x,hx=>by cases hx
 |_,_,k,.cons (c:=c) a t,x,hx=>by
  simp only[offL]at hx
  by_cases hn:isNode c=true
  ·rw[if_pos hn]at hx
   rcases List.mem_cons.1 hx with rfl|hx
   ·cases a with
    |leaf hf=>rw[hf.noNode]at hn;cases hn
    |node _ hh _=>exact⟨hh,hn⟩
   ·exact RVL.roots (k:=k+1) t x hx
  ·rw[if_neg hn]at hx;exact RVL.roots (k:=k+1) t x hx
theorem RVE.roots {N k:Nat} {a:AV} {v:Value} (h0:RVE F R h (N+k) a v):∀x∈off1 k a,hget h (N+x.1)=some x.2∧isNode x.2=true:=by
 cases h0 with
 |un=>intro x hx;simp[off1,offL,isNode]at hx
 |c a1=>
  intro x hx
  have:RVL F R h (N+k) [a] [v]:=.cons a1 .nil
  cases a with
  |agg cs=>cases a1 with
   |leaf hf=>cases hf
   |node hn _ _=>cases hn
  |_=>exact this.roots x hx
 |agg a1=>exact a1.roots
theorem RVT.roots {N:Nat}:∀{l:List AV} {vs:List Value} {k:Nat},RVT F R h (N+k) l vs→∀x∈offT k l,hget h (N+x.1)=some x.2∧isNode x.2=true
 |_,_,k,.nil,x,hx=>by cases hx
 |_,_,k,.cons _ a t,x,hx=>by
  simp only[offT]at hx
  rcases List.mem_append.1 hx with hx|hx
  ·exact a.roots x hx
  ·exact RVT.roots (k:=k+64) t x hx
theorem RV.roots {N:Nat} {a:AV} {v:Value} (h0:RV F R h N a v):∀x∈offs a,hget h (N+x.1)=some x.2∧isNode x.2=true:=by
 cases h0 with
 |e a1=>
  cases a with
  |tup vs=>cases a1 with
   |c a1=>cases a1 with
    |leaf hf=>cases hf
    |node hn _ _=>cases hn
  |_=>exact RVE.roots (k:=0) a1
 |tup a1=>exact RVT.roots (k:=0) a1
theorem impL_up:∀(N k:Nat) (l:List AV),(impL (N+k) l).2=(offL k l).map fun x=>Up.new (N+x.1) x.2
 |_,_,[]=>rfl
 |N,k,a::l=>by
  have ih:=impL_up N (k+1) l
  simp only[impL,offL,show N+k+1=N+(k+1)by omega,ih]
  cases a<;>simp[impCell,isNode]
theorem imp1_up (N k:Nat) (a:AV):(imp1 (N+k) a).2=(off1 k a).map fun x=>Up.new (N+x.1) x.2:=by
 cases a with
 |agg cs=>simp only[imp1,off1];exact impL_up N k cs
 |_=>simp[imp1,impCell,off1,offL,isNode]
theorem impT_up:∀(N k:Nat) (l:List AV),(impT (N+k) l).2=(offT k l).map fun x=>Up.new (N+x.1) x.2
 |_,_,[]=>rfl
 |N,k,a::l=>by
  have ih:=impT_up N (k+64) l
  simp only[impT,offT,show N+k+64=N+(k+64)by omega,ih,List.map_append,imp1_up]
theorem imp_up (N:Nat) (a:AV):(imp N a).2=(offs a).map fun x=>Up.new (N+x.1) x.2:=by
 cases a with
 |tup vs=>simp only[imp,offs];exact impT_up N 0 vs
 |_=>exact imp1_up N 0 _
theorem impC_ok (H:RM B K g R h w) {N:Nat} {c:AV} {v:Value} (h0:RV1 (mkF B g w) R h N c v):RT (mkF B g w) g (impCell N c).1 v:=by
 cases h0 with
 |leaf hf=>
  have:(impCell N c).1=c:=by cases hf<;>rfl
  rw[this];exact .f hf
 |node hn hh hv=>
  have ht:=(H.tree N c hh).root
  rw[hv]at ht
  cases c with
  |ow sz es=>
   obtain⟨n,h1,h2,h3,h4,h5,h6⟩:=ht
   rw[h5]
   simp only[impCell]
   rw[←h3]
   have:=RT.rf (F:=mkF B g w) (g:=g) ⟨N,[]⟩ 0 es.length n.cap 0 n h1 h2 (by omega) h4 (.inr rfl)
   simpa using this
  |bx e=>
   obtain⟨n,h1,h2,h3,h4,h5⟩:=ht
   rw[h5]
   have:=RT.ptr (F:=mkF B g w) (g:=g) ⟨N,[]⟩ 0 0 n h1 h2
   simp only[impCell]
   simpa using this
  |mp ks vs=>
   obtain⟨n,es,cl,h1,h2,h3,_⟩:=ht
   rw[h3]
   exact .mrf N n h1 h2
  |_=>cases hn
theorem impL_ok (H:RM B K g R h w):∀{N:Nat} {l:List AV} {vs:List Value},RVL (mkF B g w) R h N l vs→RTL (mkF B g w) g (impL N l).1 vs
 |_,_,_,.nil=>.nil
 |_,_,_,.cons a t=>.cons (impC_ok H a) (impL_ok H t)
theorem RT.XD0 {F:Fz} {a:AV} {v:Value} (h:RT F g a v):RX1 F g (fade1 [] a) v:=by
 have:fade1 [] a=a:=by
  cases a with
  |agg cs=>cases h with|f h=>cases h
  |_=>simp[fade1,fadeC,staleC]
 rw[this];exact .c h
theorem map_fadeC_nil (l:List AV):l.map (fadeC [])=l:=by
 conv=>rhs;rw[←List.map_id l]
 refine List.map_congr_left fun c _=>?_
 unfold fadeC;rw[staleC_nil];rfl
theorem imp1_ok (H:RM B K g R h w) {N:Nat} {a:AV} {v:Value} (h0:RVE (mkF B g w) R h N a v):(a=.un∧(imp1 N a).1=.un)∨RX1 (mkF B g w) g (fade1 [] (imp1 N a).1) v:=by
 cases h0 with
 |un=>exact .inl ⟨rfl,rfl⟩
 |c a1=>
  refine .inr ?_
  have e:imp1 N a=impCell N a:=by
   cases a with
   |agg cs=>cases a1 with
    |leaf hf=>cases hf
    |node hn _ _=>cases hn
   |_=>rfl
  rw[e];exact(impC_ok H a1).XD0
 |agg a1=>
  refine .inr ?_
  simp only[imp1,fade1,map_fadeC_nil]
  exact .agg (impL_ok H a1)
theorem impT_ok (H:RM B K g R h w):∀{N:Nat} {l:List AV} {vs:List Value},RVT (mkF B g w) R h N l vs→RXL (mkF B g w) g ((impT N l).1.map (fade1 [])) vs
 |_,_,_,.nil=>.nil
 |_,_,_,.cons hu a t=>by
  simp only[impT,List.map_cons]
  rcases imp1_ok H a with⟨h,_⟩|h
  ·exact absurd h hu
  ·exact .cons h (impT_ok H t)
theorem imp1_nonTup (N:Nat) {a:AV} (h:nonTup a=true):nonTup (imp1 N a).1=true:=by cases a<;>first|rfl|cases h
theorem imp_ok (H:RM B K g R h w) {N:Nat} {a:AV} {v:Value} (h0:RV (mkF B g w) R h N a v):XD (mkF B g w) g [] (imp N a).1 v:=by
 cases h0 with
 |e a1=>
  have hnt:nonTup a=true:=by
   cases a1 with
   |un=>rfl
   |c a1=>cases a1 with
    |leaf hf=>cases hf<;>rfl
    |node hn _ _=>cases a<;>first|rfl|cases hn
   |agg _=>rfl
  have e:imp N a=imp1 N a:=by cases a<;>first|rfl|cases hnt
  rw[e]
  rcases imp1_ok H a1 with⟨_,h⟩|h
  ·rw[h];exact .inl rfl
  ·refine .inr ?_
   rw[fade_eq1 (imp1_nonTup N hnt)];exact .c h
 |tup a1=>exact .inr (.tup (impT_ok H a1))
end Go.Am
end
section
namespace Go.Am
open Go.RowKit Go.Lib
variable {P:Program} {cx:Cx} {B:Base} {K:Nat→Prop} {g g' g1 g2:Gh} {R R' R1 R2:Nat→Value} {s:St} {h h' h1 h2:Hp} {w w':World} {F F':Fz}
theorem LF_det {F F':Fz} {ob ob':Nat→Option Obj} {G G':Gh} {c:AV} {n:Option Nd} {u u':Value} (hn:isNode c=true) (a:LF F ob G c n u) (b:LF F' ob' G' c n u'):u=u':=by
 cases c with
 |ow sz es=>
  obtain⟨m,a1,_,_,_,a5,_⟩:=a
  obtain⟨m',b1,_,_,_,b5,_⟩:=b
  rw[a1]at b1;cases b1;rw[a5,b5]
 |bx e=>
  obtain⟨m,a1,_,_,_,a5⟩:=a
  obtain⟨m',b1,_,_,_,b5⟩:=b
  rw[a1]at b1;cases b1;rw[a5,b5]
 |mp ks vs=>
  obtain⟨m,es,cl,a1,_,a3,_⟩:=a
  obtain⟨m',es',cl',b1,_,b3,_⟩:=b
  rw[a1]at b1;cases b1;rw[a3,b3]
 |_=>cases hn
theorem absorb_cases (hal:s.alias=false) {a x:AV} {v:Value} {rs:List Rd} {us:List Up} (hb:absorb1 s a=some (x,rs,us)) (hv:RT F g (fadeC s.d a) v):
  (us=[]∧rs=[]∧x=a∧RF F a v)∨(∃pl c,us=[gone pl]∧rs=[⟨pl,true⟩]∧refOf a=some pl∧look s true pl=some c∧isNode x=true∧RT F g a v):=by
 have leaf:refOf a=none→absorb1 s a=some (a,[],[])→(us=[]∧rs=[]∧x=a∧RF F a v):=by
  intro hr h1
  rw[hb]at h1;cases h1
  have e:fadeC s.d a=a:=fadeC_ok fun pl hp=>by rw[hr]at hp;cases hp
  rw[e]at hv
  refine⟨rfl,rfl,rfl,?_⟩
  cases hv with
  |f h=>exact h
  |rf=>cases hr
  |ptr=>cases hr
  |mrf=>cases hr
 cases a with
 |rf sz pl off len=>
  refine .inr ?_
  simp only[absorb1,hal,Bool.false_eq_true,if_false]at hb
  split at hb
  ·rename_i sz' es hl
   split at hb
   ·cases hb
    refine⟨pl,_,rfl,rfl,rfl,hl,rfl,?_⟩
    have e:fadeC s.d (.rf sz pl off len)=.rf sz pl off len:=fadeC_ok fun q hq=>by cases hq;exact okD_of_look hl
    rw[e]at hv;exact hv
   ·cases hb
  ·cases hb
 |ptr pl i off=>
  refine .inr ?_
  simp only[absorb1,hal,Bool.false_eq_true,if_false]at hb
  split at hb
  ·split at hb
   ·rename_i e hl
    cases hb
    refine⟨pl,_,rfl,rfl,rfl,hl,rfl,?_⟩
    have e:fadeC s.d (.ptr pl i off)=.ptr pl i off:=fadeC_ok fun q hq=>by cases hq;exact okD_of_look hl
    rw[e]at hv;exact hv
   ·cases hb
  ·cases hb
 |mrf r=>simp[absorb1,oops]at hb
 |agg cs=>simp[absorb1,oops]at hb
 |tup cs=>simp[absorb1,oops]at hb
 |_=>exact .inl (leaf rfl rfl)
theorem app_at {r:Nat} {h h':Hp} (u:Up) (he:hget h r=hget h' r):hget (u.app h) r=hget (u.app h') r:=by
 rw[hget_app,hget_app]
 by_cases e:r=u.pl.r
 ·rw[if_pos e,if_pos e];cases u<;>simp only[he]
 ·rw[if_neg e,if_neg e];exact he
theorem apps_at {r:Nat}:∀(us:List Up) {h h':Hp},hget h r=hget h' r→hget (Up.apps us h) r=hget (Up.apps us h') r
 |[],_,_,he=>he
 |u::us,_,_,he=>apps_at us (app_at u he)
def absorbM (s:St):AV→Option (AV×List Rd×List Up)
 | .mrf r=>match look s true ⟨r,[]⟩with
  |some (.mp ks vs)=>some (.mp ks vs,[⟨⟨r,[]⟩,true⟩],[.del r])
  |_=>none
 |a=>absorb1 s a
theorem RM.takeOutM (H:RM B K g R h w) {a:AV} {v:Value} {x:AV} {rs:List Rd} {u:Up} {N:Nat} (hal:s.alias=false) (hb:absorbM s a=some (x,rs,[u])) (hv:XD (mkF B g w) g s.d a v)
  (hh:∀pl c,look s true pl=some c→u=gone pl→getP h pl=some c) (hN:hget h N=none) (hK:¬K N):
  ∃src g1 R1,u=gone src∧RM B K g1 R1 (hins (Up.app h u) N x) w∧R1 N=v∧hget (Up.app h u) N=none∧isNode x=true∧
   (∀b o,owned g1 b o→owned g b o)∧(∀pl m,pl.r≠N→src.pre pl=false→g pl.r pl.p=some m→g1 pl.r pl.p=some m):=by
 by_cases hm:∃r,a=.mrf r
 ·obtain⟨r,rfl⟩:=hm
  simp only[absorbM]at hb
  split at hb
  ·rename_i ks vs hl
   simp only[Option.some.injEq,Prod.mk.injEq,List.cons.injEq,and_true]at hb
   obtain⟨rfl,rfl,rfl⟩:=hb
   have e:gone ⟨r,[]⟩=.del r:=rfl
   obtain⟨n,f1,f2,rfl⟩:=X_mrf hv (okD_of_look hl)
   obtain⟨g1,R1,r1,r2,r3,r4,r5,r6⟩:=H.take1 (hh ⟨r,[]⟩ _ hl e.symm) rfl f1 hN hK
   obtain⟨n',es,cl,e1,_,e3,_⟩:=r2
   rw[r4]at e1;cases e1
   exact⟨⟨r,[]⟩,g1,R1,e.symm,e▸r1,e3,e▸r3,rfl,r5,r6⟩
  ·cases hb
 ·have e:absorbM s a=absorb1 s a:=by cases a<;>first|rfl|exact absurd ⟨_,rfl⟩ hm
  rw[e]at hb
  exact H.takeOut hal hb hv hh hN hK
structure Tk where
 a:AV
 v:Value
 N:Nat
 x:AV
 us:List Up
def Tk.ok (s:St) (B:Base) (K:Nat→Prop) (g:Gh) (h:Hp) (w:World) (t:Tk):Prop:=
 (t.us=[]∧RF (mkF B g w) t.x t.v)∨(∃pl c rs,t.us=[gone pl]∧refOf t.a=some pl∧look s true pl=some c∧getP h pl=some c∧absorbM s t.a=some (t.x,rs,t.us)∧RT (mkF B g w) g t.a t.v∧hget h t.N=none∧¬K t.N)
theorem ref_cell {F:Fz} {d:List Up} {a:AV} {v:Value} {pl:Pl} (hr:refOf a=some pl) (ho:okD d pl) (h:RT F g a v):XD F g d a v:=by
 have hna:nonAgg a=true∧nonTup a=true:=by cases a<;>simp[refOf]at hr<;>exact⟨rfl,rfl⟩
 refine cellX ?_ hna.1 hna.2
 rw[fadeC_ok fun q hq=>by rw[hr]at hq;cases hq;exact ho];exact h
theorem getP_root {h:Hp} {pl:Pl} {c:AV} (hc:getP h pl=some c):∃a,hget h pl.r=some a:=by obtain⟨a,ha,_⟩:=getP_some hc;exact⟨a,ha⟩
theorem flat_pl {ts:List Tk} {g:Gh} {h:Hp} (hok:∀t∈ts,t.ok s B K g h w):∀u∈ts.flatMap Tk.us,∃pl c,u=gone pl∧getP h pl=some c:=by
 intro u hu
 obtain⟨t,ht,hu⟩:=List.mem_flatMap.1 hu
 rcases hok t ht with⟨h1,_⟩|⟨pl,c,rs,h1,_,_,h4,_⟩
 ·rw[h1]at hu;cases hu
 ·rw[h1]at hu;simp at hu;exact⟨pl,c,hu,h4⟩
theorem takes_ok (hal:s.alias=false):∀{ts:List Tk} {g:Gh} {R:Nat→Value} {h:Hp},RM B K g R h w→(∀t∈ts,t.ok s B K g h w)→apartUps (ts.flatMap Tk.us)=true→ts.Pairwise (fun t t'=>t.us≠[]→t'.us≠[]→t.N≠t'.N)→
  ∃g' R' h',RM B K g' R' h' w∧(∀t∈ts,RV1 (mkF B g' w) R' h' t.N t.x t.v∧(t.us≠[]→isNode t.x=true∧hget h' t.N=some t.x))∧(∀b o,owned g' b o→owned g b o)∧
   (∀r,(∀t∈ts,t.us≠[]→t.N≠r)→hget h' r=hget (Up.apps (ts.flatMap Tk.us) h) r)∧
   (∀q k,(∀t∈ts,t.us≠[]→t.N≠q.r)→(∀u∈ts.flatMap Tk.us,u.pl.pre q=false)→g q.r q.p=some k→g' q.r q.p=some k)
 |[],g,R,h,H,_,_,_=>⟨g,R,h,H,fun t ht=>(List.not_mem_nil ht).elim,fun _ _ hx=>hx,fun _ _=>rfl,fun _ _ _ _ hk=>hk⟩
 |t::ts,g,R,h,H,hok,hap,hN=>by
  obtain⟨p1,p2⟩:=List.pairwise_cons.1 hN
  have ok1:=hok t List.mem_cons_self
  by_cases hu:t.us=[]
  ·have hrf:RF (mkF B g w) t.x t.v:=by
    rcases ok1 with⟨_,h2⟩|⟨pl,c,rs,h1,_⟩
    ·exact h2
    ·rw[h1]at hu;cases hu
   have e:(t::ts).flatMap Tk.us=ts.flatMap Tk.us:=by simp[hu]
   rw[e]at hap ⊢
   obtain⟨g',R',h',a1,a2,a3,a4,a5⟩:=takes_ok hal H (fun t' ht'=>hok t' (List.mem_cons_of_mem _ ht')) hap p2
   refine⟨g',R',h',a1,fun t' ht'=>?_,a3,fun r hr=>a4 r fun t' ht'=>hr t' (List.mem_cons_of_mem _ ht'),fun q k hq hp hk=>a5 q k (fun t' ht'=>hq t' (List.mem_cons_of_mem _ ht')) hp hk⟩
   rcases List.mem_cons.1 ht' with rfl|ht'
   ·exact⟨.leaf (hrf.mono (le_sub a3)),fun hne=>absurd hu hne⟩
   ·exact a2 t' ht'
  ·obtain⟨pl,c,rs,b1,b2,b3,b4,b5,b6,b7,b8⟩:∃pl c rs,t.us=[gone pl]∧refOf t.a=some pl∧look s true pl=some c∧getP h pl=some c∧absorbM s t.a=some (t.x,rs,t.us)∧RT (mkF B g w) g t.a t.v∧hget h t.N=none∧¬K t.N:=by
    rcases ok1 with⟨h1,_⟩|h1
    ·exact absurd h1 hu
    ·exact h1
   have e:(t::ts).flatMap Tk.us=gone pl::ts.flatMap Tk.us:=by simp[b1]
   rw[e]at hap ⊢
   obtain⟨ap1,ap2⟩:=apartUps_cons hap
   rw[b1]at b5
   obtain⟨src,g1,R1,e1,r1,r2,r3,r4,r5,r6⟩:=H.takeOutM hal b5 (ref_cell b2 (okD_of_look b3) b6) (fun q c' hl hq=>by
    have:q=pl:=by have h1:=congrArg Up.pl hq;rw[gone_pl,gone_pl]at h1;exact h1.symm
    rw[this]at hl ⊢;rw[b3]at hl;cases hl;exact b4) b7 b8
   have hsrc:src=pl:=by have h1:=congrArg Up.pl e1;rw[gone_pl,gone_pl]at h1;exact h1.symm
   subst hsrc
   have hne:∀{q:Pl} {c:AV},getP h q=some c→q.r≠t.N:=by
    intro q c' hq e
    obtain⟨a,ha⟩:=getP_root hq
    rw[e,b7]at ha;cases ha
   have hok':∀t'∈ts,t'.ok s B K g1 (hins (Up.app h (gone src)) t.N t.x) w:=by
    intro t' ht'
    rcases hok t' (List.mem_cons_of_mem _ ht')with⟨h1,h2⟩|⟨pl',c',rs',d1,d2,d3,d4,d5,d6,d7,d8⟩
    ·exact .inl ⟨h1,h2.mono (le_sub r5)⟩
    ·refine .inr ⟨pl',c',rs',d1,d2,d3,?_,d5,?_,?_,d8⟩
     ·have hap':src.apart pl':=by
       have:=ap1 (gone pl') (List.mem_flatMap.2 ⟨t',ht',by rw[d1];exact List.mem_cons_self⟩)
       rw[gone_pl,gone_pl]at this;exact this
      rw[getP_hins_ne (hne d4),getP_gone b4 hap'];exact d4
     ·refine d6.mono (le_sub r5) fun q n hq hn=>?_
      rw[d2]at hq;cases hq
      have hap':=ap1 (gone pl') (List.mem_flatMap.2 ⟨t',ht',by rw[d1];exact List.mem_cons_self⟩)
      rw[gone_pl,gone_pl]at hap'
      exact r6 pl' n (hne d4) hap'.1 hn
     ·have hNN:t'.N≠t.N:=fun e=>p1 t' ht' hu (by rw[d1];simp) e.symm
      rw[hget_hins,if_neg hNN,hget_gone]
      split
      ·unfold goneAt;split
       ·rfl
       ·rw[d7];rfl
      ·exact d7
   obtain⟨g',R',h',a1,a2,a3,a4,a5⟩:=takes_ok hal r1 hok' ap2 p2
   have hNts:∀t'∈ts,t'.us≠[]→t'.N≠t.N:=fun t' ht' h1 e=>p1 t' ht' hu h1 e.symm
   have hpre:∀u∈ts.flatMap Tk.us,u.pl.r≠t.N:=by
    intro u hu'
    obtain⟨q,c',rfl,hq⟩:=flat_pl (g:=g) (h:=h) (fun t' ht'=>hok t' (List.mem_cons_of_mem _ ht')) u hu'
    rw[gone_pl];exact hne hq
   have hroot:hget h' t.N=some t.x:=by
    rw[a4 t.N hNts,hget_apps_ne hpre,hget_hins,if_pos rfl]
   have hRN:R' t.N=t.v:=by
    have l1:=(r1.tree t.N t.x (by rw[hget_hins,if_pos rfl])).root
    have l2:=(a1.tree t.N t.x hroot).root
    rw[←r2]
    have hg:∃n,g1 t.N []=some n:=by
     cases hx:t.x with
     |ow sz es=>rw[hx]at l1;obtain⟨n,e1,_⟩:=l1;exact⟨n,e1⟩
     |bx e=>rw[hx]at l1;obtain⟨n,e1,_⟩:=l1;exact⟨n,e1⟩
     |mp ks vs=>rw[hx]at l1;obtain⟨n,_,_,e1,_⟩:=l1;exact⟨n,e1⟩
     |_=>rw[hx]at r4;cases r4
    obtain⟨n,hn⟩:=hg
    have hn':=a5 ⟨t.N,[]⟩ n hNts (fun u hu'=>by
     cases hb:u.pl.pre ⟨t.N,[]⟩with
     |false=>rfl
     |true=>simp only[Pl.pre,Bool.and_eq_true]at hb;exact absurd (by simpa using hb.1) (hpre u hu')) hn
    simp only at hn'
    rw[hn]at l1;rw[hn']at l2
    exact LF_det r4 l2 l1
   refine⟨g',R',h',a1,fun t' ht'=>?_,fun b o hx=>r5 b o (a3 b o hx),fun r hr=>?_,fun q k hq hp hk=>?_⟩
   ·rcases List.mem_cons.1 ht' with rfl|ht'
    ·exact⟨.node r4 hroot hRN,fun _=>⟨r4,hroot⟩⟩
    ·exact a2 t' ht'
   ·rw[a4 r fun t' ht'=>hr t' (List.mem_cons_of_mem _ ht')]
    simp only[Up.apps]
    have hrN:=hr t List.mem_cons_self hu
    exact apps_at _ (by rw[hget_hins,if_neg (fun e=>hrN e.symm)])
   ·have hqN:=hq t List.mem_cons_self hu
    refine a5 q k (fun t' ht'=>hq t' (List.mem_cons_of_mem _ ht')) (fun u hu'=>hp u (List.mem_cons_of_mem _ hu')) (r6 q k (fun e=>hqN e.symm) ?_ hk)
    have:=hp (gone src) List.mem_cons_self
    rw[gone_pl]at this;exact this
end Go.Am
end
section
namespace Go.Am
open Go.RowKit Go.Lib
variable {P:Program} {cx:Cx} {B:Base} {K:Nat→Prop} {g g' g1 g2:Gh} {R R' R1 R2:Nat→Value} {s:St} {h h' h1 h2:Hp} {w w':World} {F F':Fz}
theorem free_from (h:Hp) (d:List Up) (m:Nat):∃M,m≤M∧∀n,M≤n→hget h n=none∧¬Kd d n:=by
 refine⟨m+h.foldr (fun x n=>x.1+n) 0+d.foldr (fun u n=>lkNo u+n) 0+1,by omega,fun n hn=>⟨?_,fun hk=>?_⟩⟩
 ·cases hx:hget h n with
  |none=>rfl
  |some a=>have:=hget_le hx;omega
 ·have:=Kd_le hk;omega
structure Tks (s:St) (B:Base) (K:Nat→Prop) (g:Gh) (w:World) (M:Nat) (ts:List Tk) (rs:List Rd) (us:List Up) (ofs:List (Nat×AV)):Prop where
 ups:ts.flatMap Tk.us=us
 ok:∀t∈ts,t.ok s B K g s.h w
 ofs:(ts.filter fun t=>isNode t.x).map (fun t=>(t.N,t.x))=ofs.map fun p=>(M+p.1,p.2)
 nod:∀t∈ts,t.us≠[]→isNode t.x=true
 rds:∀t∈ts,∀u∈t.us,∃pl,u=gone pl∧(⟨pl,true⟩:Rd)∈rs
theorem Tks.nil {M:Nat}:Tks s B K g w M [] [] [] []:=⟨rfl,fun t ht=>(List.not_mem_nil ht).elim,rfl,fun t ht=>(List.not_mem_nil ht).elim,fun t ht=>(List.not_mem_nil ht).elim⟩
theorem Tks.append {M:Nat} {ts ts':List Tk} {rs rs':List Rd} {us us':List Up} {o o':List (Nat×AV)} (a:Tks s B K g w M ts rs us o) (b:Tks s B K g w M ts' rs' us' o'):Tks s B K g w M (ts++ts') (rs++rs') (us++us') (o++o'):=by
 refine⟨by simp[a.ups,b.ups],fun t ht=>?_,by simp[a.ofs,b.ofs],fun t ht=>?_,fun t ht u hu=>?_⟩
 ·rcases List.mem_append.1 ht with h|h
  ·exact a.ok t h
  ·exact b.ok t h
 ·rcases List.mem_append.1 ht with h|h
  ·exact a.nod t h
  ·exact b.nod t h
 ·rcases List.mem_append.1 ht with h|h
  ·obtain⟨pl,e,hm⟩:=a.rds t h u hu;exact⟨pl,e,List.mem_append_left _ hm⟩
  ·obtain⟨pl,e,hm⟩:=b.rds t h u hu;exact⟨pl,e,List.mem_append_right _ hm⟩
def Got (F:Fz) (R:Nat→Value) (h:Hp) (ts:List Tk):Prop:=∀t∈ts,RV1 F R h t.N t.x t.v
theorem tk_one {M k:Nat} (hal:s.alias=false) (hfr:∀n,M≤n→hget s.h n=none∧¬K n) {a x:AV} {v:Value} {rs:List Rd} {us:List Up} (hb:absorb1 s a=some (x,rs,us)) (hv:RT (mkF B g w) g (fadeC s.d a) v):
  Tks s B K g w M [⟨a,v,M+k,x,us⟩] rs us (offL k [x]):=by
 rcases absorb_cases hal hb hv with⟨rfl,rfl,rfl,hf⟩|⟨pl,c,rfl,rfl,h3,h4,h5,h6⟩
 ·refine⟨rfl,fun t ht=>?_,by simp[offL,hf.noNode],fun t ht hu=>?_,fun t ht u hu=>?_⟩
  ·rw[List.mem_singleton]at ht;subst ht;exact .inl ⟨rfl,hf⟩
  ·rw[List.mem_singleton]at ht;subst ht;exact absurd rfl hu
  ·rw[List.mem_singleton]at ht;subst ht;cases hu
 ·have hN:=hfr (M+k) (by omega)
  refine⟨rfl,fun t ht=>?_,by simp[offL,h5],fun t ht hu=>?_,fun t ht u hu=>?_⟩
  ·rw[List.mem_singleton]at ht;subst ht
   have e:absorbM s a=absorb1 s a:=by cases a<;>first|rfl|(simp[absorb1,oops]at hb)
   exact .inr ⟨pl,c,_,rfl,h3,h4,(look_some h4).2,e.trans hb,h6,hN.1,hN.2⟩
  ·rw[List.mem_singleton]at ht;subst ht;exact h5
  ·rw[List.mem_singleton]at ht;subst ht;simp at hu;exact⟨pl,hu,by simp⟩
theorem tk_list {M:Nat} (hal:s.alias=false) (hfr:∀n,M≤n→hget s.h n=none∧¬K n):∀{l xs:List AV} {vs:List Value} {rs:List Rd} {us:List Up} {k:Nat},absorbL s l=some (xs,rs,us)→RTL (mkF B g w) g (l.map (fadeC s.d)) vs→
  ∃ts,Tks s B K g w M ts rs us (offL k xs)∧∀{F' R' h'},Got F' R' h' ts→RVL F' R' h' (M+k) xs vs
 |[],xs,vs,rs,us,k,hb,hv=>by
  simp only[absorbL,Option.some.injEq,Prod.mk.injEq]at hb
  obtain⟨rfl,rfl,rfl⟩:=hb
  cases hv
  exact⟨[],.nil,fun _=>.nil⟩
 |a::l,xs,vs,rs,us,k,hb,hv=>by
  simp only[absorbL]at hb
  cases h1:absorb1 s a with
  |none=>rw[h1]at hb;cases hb
  |some p=>
   obtain⟨y,r,u⟩:=p
   rw[h1]at hb
   simp only at hb
   cases h2:absorbL s l with
   |none=>rw[h2]at hb;cases hb
   |some q=>
    obtain⟨ys,r2,u2⟩:=q
    rw[h2]at hb
    simp only[Option.some.injEq,Prod.mk.injEq]at hb
    obtain⟨rfl,rfl,rfl⟩:=hb
    cases hv with
    |cons hv1 hv2=>
     obtain⟨ts,a1,a2⟩:=tk_list (k:=k+1) hal hfr h2 hv2
     have b1:=tk_one (k:=k) hal hfr h1 hv1
     have e:offL k (y::ys)=offL k [y]++offL (k+1) ys:=by simp only[offL];split<;>simp
     refine⟨_,e▸b1.append a1,fun hg=>?_⟩
     exact .cons (hg _ (List.mem_append_left _ (List.mem_singleton.2 rfl))) (a2 fun t ht=>hg t (List.mem_append_right _ ht))
theorem tk_elem {M k:Nat} (hal:s.alias=false) (hfr:∀n,M≤n→hget s.h n=none∧¬K n) {a x:AV} {v:Value} {rs:List Rd} {us:List Up} (hb:absorbE s a=some (x,rs,us)) (hv:XD (mkF B g w) g s.d a v):
  ∃ts,Tks s B K g w M ts rs us (off1 k x)∧∀{F' R' h'},Got F' R' h' ts→RVE F' R' h' (M+k) x v:=by
 by_cases ha:∃cs,a=.agg cs
 ·obtain⟨cs,rfl⟩:=ha
  simp only[absorbE]at hb
  cases h2:absorbL s cs with
  |none=>rw[h2]at hb;cases hb
  |some q=>
   obtain⟨ys,r2,u2⟩:=q
   rw[h2]at hb
   simp only[Option.some.injEq,Prod.mk.injEq]at hb
   obtain⟨rfl,rfl,rfl⟩:=hb
   obtain⟨vs,rfl,hl⟩:=X_agg hv
   obtain⟨ts,a1,a2⟩:=tk_list (k:=k) hal hfr h2 hl
   exact⟨ts,a1,fun hg=>.agg (a2 hg)⟩
 ·have e:absorbE s a=absorb1 s a:=by cases a<;>first|rfl|exact absurd ⟨_,rfl⟩ ha
  rw[e]at hb
  have hna:nonAgg a=true:=by cases a<;>first|rfl|exact absurd ⟨_,rfl⟩ ha
  have hnt:nonTup a=true:=by cases a<;>first|rfl|simp[absorb1,oops]at hb
  rcases hv with rfl|hv
  ·simp only[absorb1,Option.some.injEq,Prod.mk.injEq]at hb
   obtain⟨rfl,rfl,rfl⟩:=hb
   exact⟨[],by simp only[off1,offL,isNode];exact .nil,fun _=>.un⟩
  ·rw[fade_eq1 hnt,fade1_cell hna]at hv
   have hrt:RT (mkF B g w) g (fadeC s.d a) v:=by
    have hnf:nonAgg (fadeC s.d a)=true∧nonTup (fadeC s.d a)=true:=by
     unfold fadeC;split
     ·exact⟨rfl,rfl⟩
     ·exact⟨hna,hnt⟩
    generalize fadeC s.d a=y at hv hnf
    cases hv with
    |c h=>cases h with
     |c h=>exact h
     |agg h=>cases hnf.1
    |tup h=>cases hnf.2
   have h1:=tk_one (k:=k) hal hfr hb hrt
   have hx:off1 k x=offL k [x]:=by
    cases x with
    |agg cs=>
     rcases absorb_cases hal hb hrt with⟨_,_,rfl,hf⟩|⟨_,_,_,_,_,_,h5,_⟩
     ·cases hf
     ·cases h5
    |_=>rfl
   rw[hx]
   exact⟨_,h1,fun hg=>.c (hg _ (List.mem_singleton.2 rfl))⟩
theorem tk_res1 {M k:Nat} (hal:s.alias=false) (hfr:∀n,M≤n→hget s.h n=none∧¬K n) {a x:AV} {v:Value} {us:List Up} (hb:expRes1 s a=some (x,us)) (hv:XD (mkF B g w) g s.d a v):
  ∃ts rs,Tks s B K g w M ts rs us (off1 k x)∧∀{F' R' h'},Got F' R' h' ts→RVE F' R' h' (M+k) x v:=by
 by_cases hm:∃r,a=.mrf r
 ·obtain⟨r,rfl⟩:=hm
  simp only[expRes1]at hb
  split at hb
  ·rename_i ks vs hl
   simp only[Option.some.injEq,Prod.mk.injEq]at hb
   obtain⟨rfl,rfl⟩:=hb
   have hN:=hfr (M+k) (by omega)
   have hrt:RT (mkF B g w) g (.mrf r) v:=by
    obtain⟨n,f1,f2,rfl⟩:=X_mrf hv (okD_of_look hl)
    exact .mrf r n f1 f2
   refine⟨[⟨.mrf r,v,M+k,.mp ks vs,[.del r]⟩],[⟨⟨r,[]⟩,true⟩],⟨rfl,fun t ht=>?_,rfl,fun t ht hu=>?_,fun t ht u hu=>?_⟩,fun hg=>.c (hg _ (List.mem_singleton.2 rfl))⟩
   ·rw[List.mem_singleton]at ht;subst ht
    exact .inr ⟨⟨r,[]⟩,_,_,rfl,rfl,hl,(look_some hl).2,(by simp only[absorbM,hl]:absorbM s (.mrf r)=some (.mp ks vs,[⟨⟨r,[]⟩,true⟩],[.del r])),hrt,hN.1,hN.2⟩
   ·rw[List.mem_singleton]at ht;subst ht;rfl
   ·rw[List.mem_singleton]at ht;subst ht;simp at hu;exact⟨⟨r,[]⟩,hu,by simp⟩
  ·cases hb
 ·have e:expRes1 s a=match absorbE s a with|some (x,_,us)=>some (x,us)|none=>none:=by cases a<;>first|rfl|exact absurd ⟨_,rfl⟩ hm
  rw[e]at hb
  cases h2:absorbE s a with
  |none=>rw[h2]at hb;cases hb
  |some q=>
   obtain⟨y,r,u⟩:=q
   rw[h2]at hb
   simp only[Option.some.injEq,Prod.mk.injEq]at hb
   obtain⟨rfl,rfl⟩:=hb
   obtain⟨ts,a1,a2⟩:=tk_elem (k:=k) hal hfr h2 hv
   exact⟨ts,r,a1,a2⟩
theorem tk_res {M:Nat} (hal:s.alias=false) (hfr:∀n,M≤n→hget s.h n=none∧¬K n):∀{l xs:List AV} {vs:List Value} {us:List Up} {k:Nat},expResL s l=some (xs,us)→XDs (mkF B g w) g s.d l vs→
  ∃ts rs,Tks s B K g w M ts rs us (offT k xs)∧xs.length=vs.length∧∀{F' R' h'},Got F' R' h' ts→(∀x v,xs=[x]→vs=[v]→RVE F' R' h' (M+k) x v)∧((xs.all known)=true→RVT F' R' h' (M+k) xs vs)
 |[],xs,vs,us,k,hb,hv=>by
  simp only[expResL,Option.some.injEq,Prod.mk.injEq]at hb
  obtain⟨rfl,rfl⟩:=hb
  cases hv
  exact⟨[],[],.nil,rfl,fun _=>⟨fun x v h=>(by cases h),fun _=>.nil⟩⟩
 |a::l,xs,vs,us,k,hb,hv=>by
  simp only[expResL]at hb
  cases h1:expRes1 s a with
  |none=>rw[h1]at hb;cases hb
  |some p=>
   obtain⟨y,u⟩:=p
   rw[h1]at hb
   simp only at hb
   cases h2:expResL s l with
   |none=>rw[h2]at hb;cases hb
   |some q=>
    obtain⟨ys,u2⟩:=q
    rw[h2]at hb
    simp only[Option.some.injEq,Prod.mk.injEq]at hb
    obtain⟨rfl,rfl⟩:=hb
    cases hv with
    |cons hv1 hv2=>
     obtain⟨ts1,rs1,b1,b2⟩:=tk_res1 (k:=k) hal hfr h1 hv1
     obtain⟨ts2,rs2,a1,a2,a3⟩:=tk_res (k:=k+64) hal hfr h2 hv2
     refine⟨ts1++ts2,rs1++rs2,b1.append a1,by simp[a2],fun hg=>⟨fun x v e1 e2=>?_,fun hk=>?_⟩⟩
     ·cases e1;cases e2
      exact b2 fun t ht=>hg t (List.mem_append_left _ ht)
     ·simp only[List.all_cons,Bool.and_eq_true]at hk
      refine .cons (fun e=>by rw[e]at hk;cases hk.1) (b2 fun t ht=>hg t (List.mem_append_left _ ht)) ((a3 fun t ht=>hg t (List.mem_append_right _ ht)).2 hk.2)
theorem nodupK_pw:∀{l:List (Nat×AV)},nodupK l=true→l.Pairwise fun x y=>x.1≠y.1
 |[],_=>.nil
 |x::l,h=>by
  simp only[nodupK,Bool.and_eq_true,List.all_eq_true,Bool.not_eq_true']at h
  refine List.pairwise_cons.2 ⟨fun y hy e=>?_,nodupK_pw h.2⟩
  have:=h.1 y hy
  rw[e,nbT]at this;cases this
theorem Tks.distinct {M:Nat} {ts:List Tk} {rs:List Rd} {us:List Up} {ofs:List (Nat×AV)} (a:Tks s B K g w M ts rs us ofs) (hn:nodupK ofs=true):ts.Pairwise fun t t'=>t.us≠[]→t'.us≠[]→t.N≠t'.N:=by
 have h1:((ts.filter fun t=>isNode t.x).map (fun t=>(t.N,t.x))).Pairwise fun x y=>x.1≠y.1:=by
  rw[a.ofs,List.pairwise_map]
  exact(nodupK_pw hn).imp fun h e=>h (by simp at e;exact e)
 rw[List.pairwise_map,List.pairwise_filter]at h1
 rw[List.pairwise_iff_forall_sublist]at h1 ⊢
 intro t t' hs hu hu'
 exact h1 hs (a.nod t (hs.subset (by simp)) hu) (a.nod t' (hs.subset (by simp)) hu')
end Go.Am
end
section
namespace Go.Am
open Go.RowKit Go.Lib
variable {P:Program} {cx:Cx} {B:Base} {K:Nat→Prop} {g g' g1 g2:Gh} {R R' R1 R2:Nat→Value} {s:St} {h h' h1 h2:Hp} {w w':World} {F F':Fz}
def FnsOk (P:Program) (cx:Cx):Prop:=∀f fn,cx.F f=some fn→∃pf,FOk P f fn pf∧pf.ntmps=fn.ntmps∧pf.results.toList=fn.results∧CodeOk fn.ntmps fn.body
def IoOut (g0 g1:Gh) (h1:Hp):Nat→List Md→List AV→List AV→Prop
 |k,m::ms,a::as,outs=>if m=.io∧isNode a=true then ∃o outs',outs=o::outs'∧hget h1 k=some o∧(∀n,g0 k []=some n→g1 k []=some n)∧((∃e,o=.bx e)∨∃sz es,o=.ow sz es)∧IoOut g0 g1 h1 (k+1) ms as outs'
   else IoOut g0 g1 h1 (k+1) ms as outs
 |_,_,_,outs=>outs=[]
def Post (B:Base) (g0:Gh) (fn:FnS) (args:List AV) (res:AV) (outs:List AV) (v:Value) (w':World):Prop:=
 ∃g1 R1 h1 N,RM B (fun _=>False) g1 R1 h1 w'∧RV (mkF B g1 w') R1 h1 N res v∧args.length≤N∧nodupK (offs res)=true∧IoOut g0 g1 h1 0 fn.modes args outs
def CtrAt (P:Program) (f:Nat) (fn:FnS) (args:List AV) (res:AV) (outs:List AV):Prop:=apartUps (entryL 0 args).2=true∧∃pf,FOk P f fn pf∧
 ∀(B:Base) (g0:Gh) (R0:Nat→Value) (w:World) (vs:List Value),RM B (fun _=>False) g0 R0 (Up.apps (entryL 0 args).2 []) w→XDs (mkF B g0 w) g0 [] (entryL 0 args).1 vs→
  Calls P f vs.toArray w (Ret (Post B g0 fn args res outs))
def Ctr (P:Program) (cx:Cx) (call:CallF):Prop:=∀f fn args res outs,cx.F f=some fn→call f args=some (res,outs)→CtrAt P f fn args res outs
theorem entryT_ok {ρ:Nat→Value}:∀{l:List AV} {vs:List Value} {k:Nat} {t:Hp},XDs F g [] l vs→TX F g [] t ρ→(∀i v,vs[i]?=some v→ρ (k+i)=v)→TX F g [] (entryT k l t) ρ
 |_,_,k,t,.nil,hT,_=>hT
 |_,_,k,t,.cons (v:=v) (vs:=vs) h hs,hT,hρ=>by
  simp only[entryT]
  refine entryT_ok hs ?_ fun i u hi=>?_
  ·have:=hT.put (i:=k) h
   have e:(fun j=>if j=k then v else ρ j)=ρ:=by
    funext j
    by_cases e:j=k
    ·subst e;rw[if_pos rfl];exact(hρ 0 v rfl).symm
    ·rw[if_neg e]
   rw[e]at this;exact this
  ·rw[show k+1+i=k+(i+1)by omega];exact hρ (i+1) u (by simpa using hi)
theorem unT_lt {keep:Nat}:∀{n:Nat},(∀x∈unT keep n,x.1<n∧x.2=.un)∧(unT keep n).Pairwise fun x y=>y.1<x.1
 |0=>⟨fun x hx=>(List.not_mem_nil hx).elim,.nil⟩
 |n+1=>by
  obtain⟨h1,h2⟩:=unT_lt (keep:=keep) (n:=n)
  simp only[unT]
  split
  ·refine⟨fun x hx=>?_,List.pairwise_cons.2 ⟨fun x hx=>(h1 x hx).1,h2⟩⟩
   rcases List.mem_cons.1 hx with rfl|hx
   ·exact⟨Nat.lt_succ_self _,rfl⟩
   ·have:=h1 x hx;exact⟨by omega,this.2⟩
  ·exact⟨fun x hx=>by have:=h1 x hx;exact⟨by omega,this.2⟩,h2⟩
theorem unT_ok {F:Fz} {g:Gh} {keep n:Nat} {ρ:Nat→Value}:TX F g [] (unT keep n) ρ:=⟨unT_lt.2,fun x hx=>.inl (unT_lt.1 x hx).2⟩
theorem resVals_ok {ρ:Nat→Value} (hT:TOk P cx) (H:RM B (Kd s.d) g R s.h w) (hd:s.d=[]) (hTX:TX (mkF B g w) g s.d s.t ρ):∀{rs:List ResultVar} {vs:List AV},resVals cx s rs=some vs→
  ∃us,XDs (mkF B g w) g s.d vs us∧us.length=rs.length∧(rs.mapM (m:=Sem) fun| .tmp t=>pure (ρ t)| .cell a t=>do loadVar t (←asAddr (ρ a))).run P w=.ok us w
 |[],vs,h=>by
  simp only[resVals,Option.some.injEq]at h
  subst h
  exact⟨[],.nil,rfl,by simp⟩
 | .tmp t::rs,vs,h=>by
  simp only[resVals]at h
  split at h
  ·rename_i l hl
   simp only[Option.some.injEq]at h
   subst h
   obtain⟨us,a1,a2,a3⟩:=resVals_ok hT H hd hTX hl
   refine⟨ρ t::us,.cons (hTX.get t) a1,by simp[a2],?_⟩
   simp only[List.mapM_cons,Sem.run_bind,Sem.run_pure,Result.andThen_ok,a3]
  ·cases h
 | .cell a ty::rs,vs,h=>by
  simp only[resVals]at h
  split at h
  ·rename_i i pl k off hi hp
   split at h
   ·rename_i cs hcs
    split at h
    ·rename_i v l hv hl
     simp only[Option.some.injEq]at h
     subst h
     obtain⟨us,a1,a2,a3⟩:=resVals_ok hT H hd hTX hl
     have hx:=hTX.get a
     rw[hp]at hx
     obtain⟨n,e1,e2,e3⟩:=X_ptr hx (by rw[hd];rfl)
     obtain⟨b1,b2⟩:=ldCells_ok H hcs
     have hsh:=ldCells_shape H hcs
     have hcell:∀j c,cs[j]?=some c→∃u,w.cell? ⟨n.b,n.o+k*n.sz+off+j,none⟩=some u∧RT (mkF B g w) g (fadeC s.d c) u:=by
      intro j c hc
      obtain⟨m,u,f1,f2,f3,f4,f5,f6,_⟩:=b2 j c hc
      rw[e1]at f1;cases f1
      exact⟨u,by rw[show n.o+k*n.sz+off+j=n.o+k*n.sz+(off+j)by omega];exact f5,f6⟩
     obtain⟨u,c1,c2⟩:=load_cells (hT ty i hi) hv b1 hsh hcell
     have hrun:(Instr.loadAt ty (.pointer (some ⟨n.b,n.o+k*n.sz+off,none⟩))).run P w=(loadVar ty ⟨n.b,n.o+k*n.sz+off,none⟩).run P w:=by
      simp[Instr.loadAt,Instr.sureAddr]
     rw[hrun]at c1
     refine⟨u::us,.cons c2 a1,by simp[a2],?_⟩
     have hadd:asAddr (ρ a)=pure ⟨n.b,n.o+k*n.sz+off,none⟩:=by rw[e3];rfl
     simp only[List.mapM_cons,Sem.run_bind,hadd,Sem.run_pure,Result.andThen_ok,c1,a3]
    ·cases h
   ·cases h
  ·cases h
theorem XDs.len {F:Fz} {d:List Up}:∀{l:List AV} {vs:List Value},XDs F g d l vs→vs.length=l.length
 |_,_,.nil=>rfl
 |_,_,.cons _ t=>by simp[t.len]
theorem ioMask_bit:∀{ms:List Md} {k j:Nat},ms[j]?=some .io→(ioMask k ms).testBit (k+j)=true
 |m::ms,k,j,h=>by
  simp only[ioMask,Nat.testBit_or,Bool.or_eq_true]
  cases j with
  |zero=>
   simp only[List.getElem?_cons_zero,Option.some.injEq]at h
   subst h
   exact .inl (by simp)
  |succ j=>
   refine .inr ?_
   rw[show k+(j+1)=k+1+j by omega]
   exact ioMask_bit (by simpa using h)
theorem ioOuts_ok {g0 g1:Gh} {h1:Hp} {ms0:List Md}:∀{ms:List Md} {as outs:List AV} {ws:List Up} {k:Nat},ioOuts s k ms as=some (outs,ws)→(∀i m,ms[i]?=some m→ms0[k+i]?=some m)→
  (∀j o,j<k+as.length→Up.del j∈ws→ms0[j]?=some .io→hget s.h j=some o→hget h1 j=some o∧∀n,g0 j []=some n→g1 j []=some n)→IoOut g0 g1 h1 k ms as outs
 |[],as,outs,ws,k,h,_,_=>by cases as<;>(simp only[ioOuts,Option.some.injEq,Prod.mk.injEq]at h;simp only[IoOut];exact h.1.symm)
 |m::ms,[],outs,ws,k,h,_,_=>by simp only[ioOuts,Option.some.injEq,Prod.mk.injEq]at h;simp only[IoOut];exact h.1.symm
 |m::ms,a::as,outs,ws,k,h,hm,hk=>by
  simp only[ioOuts]at h
  split at h
  ·cases h
  ·rename_i l us hr
   have tl:(∀i m,ms[i]?=some m→ms0[k+1+i]?=some m):=fun i m' hi=>by
    rw[show k+1+i=k+(i+1)by omega];exact hm (i+1) m' (by simpa using hi)
   simp only[IoOut]
   split at h
   ·rename_i hc
    rw[if_pos hc]
    have hio:ms0[k]?=some .io:=by have:=hm 0 m rfl;rw[hc.1]at this;simpa using this
    have root:∀{o:AV},getP s.h ⟨k,[]⟩=some o→hget s.h k=some o:=by
     intro o ho
     obtain⟨x,hx,hp⟩:=getP_some ho
     simp only[getT,Option.some.injEq]at hp
     rw[←hp];exact hx
    split at h
    ·rename_i e he
     simp only[Option.some.injEq,Prod.mk.injEq]at h
     obtain⟨rfl,rfl⟩:=h
     obtain⟨b1,b2⟩:=hk k _ (by simp) List.mem_cons_self hio (root he)
     exact⟨_,l,rfl,b1,b2,.inl ⟨e,rfl⟩,ioOuts_ok hr tl fun j o hj hd=>hk j o (by simp at hj ⊢;omega) (List.mem_cons_of_mem _ hd)⟩
    ·rename_i sz es he
     simp only[Option.some.injEq,Prod.mk.injEq]at h
     obtain⟨rfl,rfl⟩:=h
     obtain⟨b1,b2⟩:=hk k _ (by simp) List.mem_cons_self hio (root he)
     exact⟨_,l,rfl,b1,b2,.inr ⟨sz,es,rfl⟩,ioOuts_ok hr tl fun j o hj hd=>hk j o (by simp at hj ⊢;omega) (List.mem_cons_of_mem _ hd)⟩
    ·cases h
   ·rename_i hc
    rw[if_neg hc]
    simp only[Option.some.injEq,Prod.mk.injEq]at h
    obtain⟨rfl,rfl⟩:=h
    exact ioOuts_ok hr tl fun j o hj hd=>hk j o (by simp at hj ⊢;omega) hd
theorem CodeOk.mono {n m:Nat} (h:n≤m):∀{c:Code},CodeOk n c→CodeOk m c
 | .region _ ops draw,hc=>⟨hc.1,fun o ho d hd=>Nat.lt_of_lt_of_le (hc.2 o ho d hd) h⟩
 | .seq a b,hc=>⟨CodeOk.mono h hc.1,CodeOk.mono h hc.2⟩
 | .cond _ a b,hc=>⟨CodeOk.mono h hc.1,CodeOk.mono h hc.2⟩
 | .block _ b,hc=>CodeOk.mono (c:=b) h hc
 | .loop b,hc=>CodeOk.mono (c:=b) h hc
 | .skip,_=>trivial
 | .rangeFunc ..,_=>trivial
 | .exit _,_=>trivial
 | .scope _,_=>trivial
 | .label _,_=>trivial
 | .goto _,_=>trivial
 | .ret,_=>trivial
 | .refuse _,_=>trivial
theorem expRes1_nonTup {a x:AV} {us:List Up} (h:expRes1 s a=some (x,us)):nonTup x=true:=by
 have h1:∀a x rs us,absorb1 s a=some (x,rs,us)→nonTup x=true:=by
  intro a x rs us h
  cases a with
  |rf sz pl off len=>
   simp only[absorb1]at h
   split at h
   ·cases h;rfl
   ·split at h
    ·split at h
     ·cases h;rfl
     ·cases h
    ·cases h
  |ptr pl i off=>
   simp only[absorb1]at h
   split at h
   ·cases h;rfl
   ·split at h
    ·split at h
     ·cases h;rfl
     ·cases h
    ·cases h
  |mrf r=>cases h
  |agg cs=>cases h
  |tup cs=>cases h
  |_=>cases h;rfl
 cases a with
 |mrf r=>
  simp only[expRes1]at h
  split at h
  ·cases h;rfl
  ·cases h
 |agg cs=>
  simp only[expRes1,absorbE]at h
  cases h2:absorbL s cs with
  |none=>rw[h2]at h;cases h
  |some q=>rw[h2]at h;cases h;rfl
 |_=>
  simp only[expRes1,absorbE]at h
  split at h
  ·rename_i h2;cases h;exact h1 _ _ _ _ h2
  ·cases h
theorem del_pre {j:Nat} {u:Up} (h:u.meets (.del j)=false):u.pl.r≠j∧u.pl.pre ⟨j,[]⟩=false:=by
 have h1:=meets_apart h
 refine⟨fun e=>?_,h1.1⟩
 have:=h1.2
 simp only[Up.pl,Pl.pre,←e,nbT,pre]at this
 cases this
theorem apartUps_app:∀{us vs:List Up},apartUps (us++vs)=true→apartUps us=true∧∀u∈us,∀v∈vs,u.meets v=false
 |[],vs,_=>⟨rfl,fun u hu=>(List.not_mem_nil hu).elim⟩
 |u::us,vs,h=>by
  simp only[List.cons_append,apartUps,Bool.and_eq_true,List.all_append,List.all_eq_true,Bool.not_eq_true']at h
  obtain⟨a1,a2⟩:=apartUps_app h.2
  refine⟨by simp only[apartUps,Bool.and_eq_true,List.all_eq_true,Bool.not_eq_true'];exact⟨h.1.1,a1⟩,fun x hx v hv=>?_⟩
  rcases List.mem_cons.1 hx with rfl|hx
  ·exact h.1.2 v hv
  ·exact a2 x hx v hv
theorem evF_step (hT:TOk P cx) (hm:P.follows .mixedOrders=true) (hF:FnsOk P cx) {N:Nat} {call:CallF} (hC:CallsOk P cx call):Ctr P cx (evF cx N call):=by
 intro f fn args res outs hfn he
 simp only[evF,hfn]at he
 split at he
 ·cases he
 ·rename_i hap
  simp only[Bool.not_eq_eq_eq_not]at hap
  refine⟨by simpa using hap,?_⟩
  obtain⟨pf,hf,hnt,hres,hcode⟩:=hF f fn hfn
  refine⟨pf,hf,fun B g0 R0 w vs H hX=>?_⟩
  simp only[fN_eq,fT_eq]at he
  split at he
  ·cases he
  ·cases he
  ·rename_i xt s' hxt hex
   split at he
   ·cases he
   ·rename_i rvs hrv
    split at he
    ·rename_i xs us outs' ws hxs hio
     split at he
     ·rename_i hok
      simp only[Option.some.injEq,Prod.mk.injEq]at he
      obtain⟨he1,rfl⟩:=he
      simp only[Bool.and_eq_true]at hok
      obtain⟨⟨hok1,hok2⟩,hok3⟩:=hok
      refine calls_of_wp (fn:=pf) hf.at_ hf.body ?_
      have hlen:=hX.len
      have hsz:(vs.toArray++Array.replicate (pf.ntmps - vs.toArray.size) undef).size=vs.length+(fn.ntmps - vs.length):=by simp[hnt]
      have hI:Inv B (ioMask 0 fn.modes) (vs.length+(fn.ntmps - vs.length)) (fun r=>g0 r []) {t:=entryT 0 (entryL 0 args).1 (unT fn.keep fn.ntmps),h:=Up.apps (entryL 0 args).2 [],d:=[]} {tmps:=vs.toArray++Array.replicate (pf.ntmps - vs.toArray.size) undef,defers:=[]} w:=by
       refine⟨⟨g0,R0,H.weakK fun q hq=>hq.elim,?_,fun r x _ hx=>⟨rfl,fun n hn=>hn⟩⟩,hsz,rfl⟩
       ·refine entryT_ok hX unT_ok fun i v hi=>?_
        have hlt:=(List.getElem?_eq_some_iff.1 hi).1
        simp only[Nat.zero_add,Array.getD_eq_getD_getElem?]
        rw[Array.getElem?_append_left (by simpa using hlt)]
        simp[hi]
      have hcode':CodeOk (vs.length+(fn.ntmps - vs.length)) fn.body:=hcode.mono (by omega)
      refine(execX_ok hT hC hm N fn.body _ s' xt _ _ w hcode' hex hI rfl fun a' w' hI' hd'=>?_).1
      obtain⟨⟨g,R,H',hTX,hio'⟩,hsz',hdf'⟩:=hI'
      have key:a'.defers=[]∧∃v,(results pf a'.tmps).run P w'=.ok v w'∧Ret (Post B g0 fn args res outs') (.returned v) w':=by
       refine⟨hdf',?_⟩
       rw[hd']at H' hTX
       obtain⟨uvs,c1,c2,c3⟩:=resVals_ok (s:={t:=s'.t,h:=s'.h,d:=[]}) hT H' rfl hTX hrv
       obtain⟨M,hM,hfr⟩:=free_from s'.h [] args.length
       obtain⟨ts,rs,d1,d2,d3⟩:=tk_res (s:={t:=s'.t,h:=s'.h,d:=[]}) (k:=0) rfl hfr hxs c1
       have hofs:nodupK (offT 0 xs)=true:=by
        unfold resOf at hok2
        split at hok2
        ·rename_i x
         have hnx:nonTup x=true:=by
          cases rvs with
          |nil=>simp[expResL]at hxs
          |cons r0 rl=>
           simp only[expResL]at hxs
           cases h1:expRes1 {t:=s'.t,h:=s'.h,d:=[]} r0 with
           |none=>rw[h1]at hxs;cases hxs
           |some p=>
            obtain⟨y,u⟩:=p
            rw[h1]at hxs
            simp only at hxs
            cases h2:expResL {t:=s'.t,h:=s'.h,d:=[]} rl with
            |none=>rw[h2]at hxs;cases hxs
            |some q=>
             rw[h2]at hxs
             simp only[Option.some.injEq,Prod.mk.injEq,List.cons.injEq]at hxs
             rw[←hxs.1.1];exact expRes1_nonTup h1
         have e:offs x=off1 0 x:=by cases x<;>first|rfl|cases hnx
         rw[e]at hok2
         simpa[offT]using hok2
        ·exact hok2
       obtain⟨ap1,ap2⟩:=apartUps_app hok1
       obtain⟨g1,R1,h1,e1,e2,e3,e4,e5⟩:=takes_ok (s:={t:=s'.t,h:=s'.h,d:=[]}) rfl H' d1.ok (by rw[d1.ups];exact ap1) (d1.distinct hofs)
       have hgot:Got (mkF B g1 w') R1 h1 ts:=fun t ht=>(e2 t ht).1
       obtain⟨f1,f2⟩:=d3 hgot
       have hN:∀t∈ts,t.us≠[]→M≤t.N:=by
        intro t ht hu
        have h3:(t.N,t.x)∈(ts.filter fun t=>isNode t.x).map (fun t=>(t.N,t.x)):=List.mem_map.2 ⟨t,List.mem_filter.2 ⟨ht,d1.nod t ht hu⟩,rfl⟩
        rw[d1.ofs,List.mem_map]at h3
        obtain⟨p,_,e⟩:=h3
        simp only[Prod.mk.injEq]at e
        omega
       have hIO:IoOut g0 g1 h1 0 fn.modes args outs':=by
        refine ioOuts_ok (ms0:=fn.modes) hio (fun i m hi=>by simpa using hi) fun j o hj hdl hmd ho=>?_
        have hnt:∀t∈ts,t.us≠[]→t.N≠j:=fun t ht hu e=>by have:=hN t ht hu;omega
        have hpj:∀u∈ts.flatMap Tk.us,u.pl.r≠j∧u.pl.pre ⟨j,[]⟩=false:=fun u hu=>del_pre (ap2 u (by rw[←d1.ups];exact hu) _ hdl)
        refine⟨?_,fun n hn=>?_⟩
        ·rw[e4 j hnt,hget_apps_ne fun u hu=>(hpj u hu).1];exact ho
        ·have hbit:(ioMask 0 fn.modes).testBit j=true:=by have:=ioMask_bit (k:=0) hmd;simpa using this
         exact e5 ⟨j,[]⟩ n hnt (fun u hu=>(hpj u hu).2) ((hio' j o hbit ho).2 n hn)
       have hrun:(results pf a'.tmps).run P w'=.ok (if h:uvs.length=1 then uvs[0]else .tuple uvs.toArray) w':=by
        unfold results
        rw[Array.mapM_eq_mapM_toList,hres]
        simp only[map_eq_pure_bind,Sem.run_bind,Sem.run_pure]
        erw [c3]
        simp only[Result.andThen_ok,List.size_toArray,List.getElem_toArray]
       refine⟨_,hrun,?_⟩
       refine⟨g1,R1,h1,M,e1.weakK fun q ⟨_,_,h⟩=>(List.not_mem_nil h).elim,?_,hM,by rw[←he1];exact hok2,hIO⟩
       rw[←he1]
       by_cases h1:uvs.length=1
       ·rw[dif_pos h1]
        obtain⟨u,rfl⟩:=List.length_eq_one_iff.1 h1
        obtain⟨x,rfl⟩:=List.length_eq_one_iff.1 (d2.trans h1)
        exact .e (f1 x u rfl rfl)
       ·rw[dif_neg h1]
        have hx1:∀x,xs≠[x]:=fun x e=>h1 (by rw[←d2,e];rfl)
        have e:resOf xs=.tup xs:=by
         match xs,hx1 with
         |[],_=>rfl
         |[x],h=>exact absurd rfl (h x)
         |_::_::_,_=>rfl
        rw[e]
        rw[e]at hok3
        exact .tup (f2 hok3)
      cases xt with
      |exit id=>first|exact(hxt id s' rfl).elim|exact(hxt id rfl).elim|exact(hxt id).elim|exact absurd rfl (hxt id)
      |normal=>exact key
      |ret=>exact key
     ·cases he
    ·cases he
end Go.Am
end
section
namespace Go.Am
open Go.RowKit Go.Lib
variable {P:Program} {cx:Cx} {B B1:Base} {K:Nat→Prop} {g g' g0 g1 g2:Gh} {R R' R0 R1 R2:Nat→Value} {s:St} {h h' h0 h1 h2:Hp} {w w':World} {F F':Fz}
structure IoT where
 κ:Nat
 a:AV
 v:Value
 γ:List (Nat×Nat)→Option Nd
structure IoT.ok (t:IoT) (B:Base) (g:Gh) (w:World) (r:Nat):Prop where
 tree:TOK (mkF B g w) (obj w) g t.γ t.a t.v
 inn:∀q n,t.γ q=some n→∃q' n',g r q'=some n'∧∀b o,n.has b o→n'.has b o
 disj:∀q n q' n',t.γ q=some n→t.γ q'=some n'→q≠q'→∀b o,n.has b o→¬n'.has b o
 blk:∀q n,t.γ q=some n→n.whole=false→∃cs el fr,w.heap[n.b]?=some (.cells cs el fr)∧n.o+n.sz*n.cap≤cs.size∧∀o,n.has n.b o→w.frozen? ⟨n.b,o,none⟩=false
 nolk:noLk t.a=true
def calG (g:Gh) (σ:Nat→Option Nat) (t:Option IoT):Gh:=fun κ q=>match σ κ with
 |some N=>g N q
 |none=>match t with
  |some t=>if κ=t.κ then t.γ q else none
  |none=>none
def ownC (g:Gh) (σ:Nat→Option Nat) (t:Option IoT) (b o:Nat):Prop:=∃κ q n,calG g σ t κ q=some n∧n.has b o
def calB (B:Base) (g:Gh) (w:World) (σ:Nat→Option Nat) (t:Option IoT) (lent:Bool) (hw:∀b o,B.A0 b o→b<w.heap.size) (hlt:∀b o,owned g b o→b<w.heap.size) (hin:∀b o,ownC g σ t b o→owned g b o):Base where
 w0:=w
 own:=ownC g σ t
 A:=fun b o=>(B.A b o∨(lent=false∧owned g b o))∧¬ownC g σ t b o
 A0:=fun b o=>(B.A0 b o∨owned g b o)∧¬ownC g σ t b o
 hA:=fun b o h=>⟨h.1.imp (B.hA b o) fun h=>h.2,h.2⟩
 hA0:=fun b o h=>h.1.elim (hw b o) (hlt b o)
 hown:=fun b o h h'=>h'.2 h
 hownb:=fun b o h=>hlt b o (hin b o h)
theorem RM.a0_lt (H:RM B K g R h w):∀b o,B.A0 b o→b<w.heap.size:=fun b o hx=>Nat.lt_of_lt_of_le (B.hA0 b o hx) H.chg.size
theorem RM.own_A0 (H:RM B K g R h w) {b o:Nat} (hx:owned g b o):¬B.A0 b o:=by
 intro ha
 rcases H.inn b o hx with h|h
 ·exact B.hown _ _ h ha
 ·have:=B.hA0 _ _ ha;omega
structure SrcOk2 (g:Gh) (h:Hp) (σ:Nat→Option Nat) (t:Option IoT) (B:Base) (w:World) (h0:Hp) (R R0:Nat→Value):Prop where
 inj:∀κ κ' N,σ κ=some N→σ κ'=some N→κ=κ'
 io:∀t',t=some t'→∃r,t'.ok B g w r∧(∀κ N,σ κ=some N→N≠r)∧σ t'.κ=none
 heap:∀κ a,hget h0 κ=some a→(∃N,σ κ=some N∧hget h N=some a∧noLk a=true∧R0 κ=R N)∨(∃t',t=some t'∧κ=t'.κ∧a=t'.a∧R0 κ=t'.v)
 none:∀κ,hget h0 κ=none→σ κ=none∧∀t',t=some t'→κ≠t'.κ
theorem calG_cases {σ:Nat→Option Nat} {t:Option IoT} {κ:Nat} {q:List (Nat×Nat)} {n:Nd} (h:calG g σ t κ q=some n):(∃N,σ κ=some N∧g N q=some n)∨(σ κ=none∧∃t',t=some t'∧κ=t'.κ∧t'.γ q=some n):=by
 unfold calG at h
 cases hs:σ κ with
 |some N=>rw[hs]at h;exact .inl ⟨N,rfl,h⟩
 |none=>
  rw[hs]at h
  cases t with
  |none=>cases h
  |some t=>
   simp only at h
   split at h
   ·rename_i e;exact .inr ⟨rfl,t,rfl,e,h⟩
   ·cases h
theorem ownC_in {σ:Nat→Option Nat} {t:Option IoT} {h0:Hp} (S:SrcOk2 g h σ t B w h0 R R0) {b o:Nat} (hx:ownC g σ t b o):owned g b o:=by
 obtain⟨κ,q,n,hn,hb⟩:=hx
 rcases calG_cases hn with⟨N,_,h2⟩|⟨_,t',ht,_,h2⟩
 ·exact⟨N,q,n,h2,hb⟩
 ·obtain⟨r,hok,_⟩:=S.io t' ht
  obtain⟨q',n',h3,h4⟩:=hok.inn q n h2
  exact⟨r,q',n',h3,h4 b o hb⟩
theorem cal_le {σ:Nat→Option Nat} {t:Option IoT} {lent:Bool} {h0:Hp} (S:SrcOk2 g h σ t B w h0 R R0) {hw hlt hin}:
  (mkF B g w).le (mkF (calB B g w σ t lent hw hlt hin) (calG g σ t) w):=by
 refine⟨fun b o v hv _=>hv,fun b o v _ hn hx=>hn ?_,fun b o v _ hn hx=>hn ?_,fun b o hx=>hx.elim .inl fun h=>.inr (B.hA _ _ h)⟩
 ·rcases hx with⟨κ,q,n,h1,h2⟩|⟨h1,_⟩
  ·exact .inl (ownC_in S ⟨κ,q,n,h1,h2⟩)
  ·exact h1.elim .inr fun h=>.inl h.2
 ·rcases hx with⟨κ,q,n,h1,h2⟩|⟨h1,_⟩
  ·exact .inl (ownC_in S ⟨κ,q,n,h1,h2⟩)
  ·exact h1.elim .inr .inl
theorem RM.callee (H:RM B K g R h w) {σ:Nat→Option Nat} {t:Option IoT} {lent:Bool} {h0:Hp} (S:SrcOk2 g h σ t B w h0 R R0) (hw hlt hin):
  RM (calB B g w σ t lent hw hlt hin) (fun _=>False) (calG g σ t) R0 h0 w:=by
 have hle:=cal_le (lent:=lent) S (hw:=hw) (hlt:=hlt) (hin:=hin)
 refine⟨⟨rfl,rfl,rfl,Nat.le_refl _,fun b cs el fr hb=>⟨cs,hb,rfl,fun _ _=>rfl⟩,fun _ _ _=>rfl⟩,fun κ a ha=>?_,fun κ hκ q=>?_,fun κ q n κ' q' n' h1 h2 hne=>?_,fun κ q n h1 hwh=>?_,fun κ a q k len ha hq=>?_,fun b o hx=>.inl hx⟩
 ·rcases S.heap κ a ha with⟨N,h1,h2,h3,h4⟩|⟨t',h1,h2,rfl,h4⟩
  ·have e:calG g σ t κ=g N:=by funext q;simp only[calG,h1]
   rw[e,h4]
   exact(H.tree N a h2).mono hle (fun _ _ _ _ _ _ hx=>hx) (fun _ _ _ _=>rfl) fun r n p len hp _=>(noLk_get h3 hp).elim
  ·obtain⟨r,hok,_,h5⟩:=S.io t' h1
   have e:calG g σ t κ=t'.γ:=by funext q;simp only[calG,h2,h5,h1,if_true]
   rw[e,h4]
   exact hok.tree.mono hle (fun _ _ _ _ _ _ hx=>hx) (fun _ _ _ _=>rfl) fun r n p len hp _=>(noLk_get hok.nolk hp).elim
 ·obtain⟨h1,h2⟩:=S.none κ hκ
  unfold calG
  rw[h1]
  cases t with
  |none=>rfl
  |some t=>simp only;rw[if_neg (h2 t rfl)]
 ·rcases calG_cases h1 with⟨N,a1,a2⟩|⟨a1,t1,a2,a3,a4⟩<;>rcases calG_cases h2 with⟨N',b1,b2⟩|⟨b1,t2,b2,b3,b4⟩
  ·refine H.disj _ _ _ _ _ _ a2 b2 fun e=>hne ?_
   simp only[Prod.mk.injEq]at e
   obtain⟨rfl,rfl⟩:=e
   rw[S.inj κ κ' N a1 b1]
  ·obtain⟨r,hok,h5,_⟩:=S.io t2 b2
   obtain⟨q2,n2,c1,c2⟩:=hok.inn q' n' b4
   intro b o hb hb'
   exact H.disj _ _ _ _ _ _ a2 c1 (by intro e;simp only[Prod.mk.injEq]at e;exact h5 κ N a1 e.1) b o hb (c2 b o hb')
  ·obtain⟨r,hok,h5,_⟩:=S.io t1 a2
   obtain⟨q2,n2,c1,c2⟩:=hok.inn q n a4
   intro b o hb hb'
   exact H.disj _ _ _ _ _ _ b2 c1 (by intro e;simp only[Prod.mk.injEq]at e;exact h5 κ' N' b1 e.1) b o hb' (c2 b o hb)
  ·rw[a2]at b2;cases b2
   obtain⟨r,hok,_⟩:=S.io t1 a2
   refine hok.disj q n q' n' a4 b4 fun e=>hne ?_
   rw[e,a3,b3]
 ·rcases calG_cases h1 with⟨N,a1,a2⟩|⟨a1,t1,a2,a3,a4⟩
  ·exact H.blk _ _ _ a2 hwh
  ·obtain⟨r,hok,_⟩:=S.io t1 a2
   exact hok.blk q n a4 hwh
 ·rcases S.heap κ a ha with⟨N,h1,h2,h3,h4⟩|⟨t',h1,h2,rfl,h4⟩
  ·exact noLk_get h3 hq
  ·obtain⟨r,hok,_⟩:=S.io t' h1
   exact noLk_get hok.nolk hq
def allB (B:Base):Base:={B with A:=B.A0,hA:=fun _ _ h=>h}
mutual
theorem RF.unlent {F F':Fz} (hm:∀b o v,F.m b o=some v→F'.m b o=some v) (h0:∀b o,¬F.N0 b o→¬F'.N0 b o):∀{a:AV} {v:Value},RF F a v→noLent a=true→RF F' a v
 |_,_,.int k n,_=>.int k n
 |_,_,.bool b,_=>.bool b
 |_,_,.str s,_=>.str s
 |_,_,.nilp,_=>.nilp
 |_,_,.un v h1,_=>.un v h1
 |_,_,.nil sz,_=>.nil sz
 |_,_,.fzs lab sz es b o cap sp h1 h2 h3 h4,h=>by
  simp only[noLent,Bool.and_eq_true,bne_iff_ne,ne_eq]at h
  exact .fzs lab sz es b o cap sp h1 h2 (RE.unlent hm h0 h3 h.1 h.2) h4
 |_,_,.fp lab e off b o h1 h3,h=>by
  simp only[noLent,Bool.and_eq_true,bne_iff_ne,ne_eq]at h
  refine .fp lab e off b o h1 (RC.unlent hm h0 h3 h.1 ?_)
  cases e with
  |agg cs=>simp only[noLent]at h;exact h.2
  |_=>simp only[cells,noLentL,Bool.and_true];exact h.2
theorem RC.unlent {F F':Fz} (hm:∀b o v,F.m b o=some v→F'.m b o=some v) (h0:∀b o,¬F.N0 b o→¬F'.N0 b o):∀{lab:Nat} {l:List AV} {b o:Nat},RC F lab l b o→lab≠2→noLentL l=true→RC F' lab l b o
 |_,_,_,_,.nil lab b o,_,_=>.nil lab b o
 |_,_,_,_,.cons lab a l b o v h1 h2 h3 h4,hl,h=>by
  simp only[noLentL,Bool.and_eq_true]at h
  have hn:F'.no lab b o:=by
   unfold Fz.no at *
   rw[if_neg hl]at h2 ⊢
   exact h0 _ _ h2
  exact .cons lab a l b o v (hm _ _ _ h1) hn (RF.unlent hm h0 h3 h.1) (RC.unlent hm h0 h4 hl h.2)
theorem RE.unlent {F F':Fz} (hm:∀b o v,F.m b o=some v→F'.m b o=some v) (h0:∀b o,¬F.N0 b o→¬F'.N0 b o):∀{lab sz:Nat} {l:List AV} {b o:Nat},RE F lab sz l b o→lab≠2→noLentL l=true→RE F' lab sz l b o
 |_,_,_,_,_,.nil lab sz b o,_,_=>.nil lab sz b o
 |_,_,_,_,_,.cons lab sz e l b o h1 h2 h3,hl,h=>by
  simp only[noLentL,Bool.and_eq_true]at h
  refine .cons lab sz e l b o h1 (RC.unlent hm h0 h2 hl ?_) (RE.unlent hm h0 h3 hl h.2)
  cases e with
  |agg cs=>simp only[noLent]at h;exact h.1
  |_=>simp only[cells,noLentL,Bool.and_true];exact h.1
end
theorem noLentL_mem:∀{l:List AV} {a:AV},noLentL l=true→a∈l→noLent a=true
 |x::l,a,h,hm=>by
  simp only[noLentL,Bool.and_eq_true]at h
  rcases List.mem_cons.1 hm with rfl|hm
  ·exact h.1
  ·exact noLentL_mem h.2 hm
theorem noLent_cells {e x:AV} {j:Nat} (h:noLent e=true) (hx:(cells e)[j]?=some x):noLent x=true:=by
 cases e with
 |agg cs=>exact noLentL_mem h (List.mem_of_getElem? hx)
 |_=>
  simp only[cells]at hx
  cases j with
  |zero=>simp at hx;subst hx;exact h
  |succ j=>simp at hx
theorem noLent_get:∀{p:List (Nat×Nat)} {a x:AV},noLent a=true→getT a p=some x→noLent x=true
 |[],a,x,h,e=>by simp[getT]at e;subst e;exact h
 |(i,j)::p,a,x,h,e=>by
  simp only[getT]at e
  cases hs:step1 a (i,j)with
  |none=>rw[hs]at e;cases e
  |some y=>
   rw[hs]at e
   refine noLent_get (p:=p) ?_ e
   rcases step1_some hs with⟨sz,es,e',rfl,he,hj⟩|⟨e',rfl,rfl,hj⟩
   ·exact noLent_cells (noLentL_mem h (List.mem_of_getElem? he)) hj
   ·exact noLent_cells (e:=e') h hj
theorem LF.unlent {F F':Fz} {ob:Nat→Option Obj} {G:Gh} {c:AV} {n:Option Nd} {u:Value} (hm:∀b o v,F.m b o=some v→F'.m b o=some v) (h0:∀b o,¬F.N0 b o→¬F'.N0 b o) (hl:noLent c=true) (h:LF F ob G c n u):LF F' ob G c n u:=by
 cases c with
 |ow sz es=>exact h
 |bx e=>exact h
 |mp ks vs=>
  simp only[noLent,Bool.and_eq_true]at hl
  obtain⟨m,es,cl,a1,a2,a3,a4,b1,b2,b3,b4⟩:=h
  refine⟨m,es,cl,a1,a2,a3,a4,b1,b2,fun i k hk=>?_,fun i v hv=>?_⟩
  ·obtain⟨e,c1,c2⟩:=b3 i k hk
   exact⟨e,c1,c2.unlent hm h0 (noLentL_mem hl.1 (List.mem_of_getElem? hk))⟩
  ·obtain⟨e,c1,c2,c3⟩:=b4 i v hv
   exact⟨e,c1,c2,c3.unlent hm h0 (noLentL_mem hl.2 (List.mem_of_getElem? hv))⟩
 |lk r l=>exact h
 |_=>exact⟨h.1,h.2.unlent hm h0 hl⟩
theorem TOK.unlent {F F':Fz} {ob:Nat→Option Obj} {G:Gh} {γ:List (Nat×Nat)→Option Nd} {a:AV} {v:Value} (hm:∀b o v,F.m b o=some v→F'.m b o=some v) (h0:∀b o,¬F.N0 b o→¬F'.N0 b o) (hl:noLent a=true) (h:TOK F ob G γ a v):TOK F' ob G γ a v:=
 ⟨h.root.unlent hm h0 hl,fun p i j c hc=>by
  obtain⟨n,u,a1,a2,a3⟩:=h.cell p i j c hc
  exact⟨n,u,a1,hm _ _ _ a2,a3.unlent hm h0 (noLent_get hl hc)⟩,h.dom⟩
theorem RM.unlent (H:RM B K g R h w) (hl:∀r a,hget h r=some a→noLent a=true):RM (allB B) K g R h w:=
 ⟨H.chg,fun r a ha=>TOK.unlent (F:=mkF B g w) (fun _ _ _ hv=>hv) (fun _ _ hn=>hn) (hl r a ha) (H.tree r a ha),H.void,H.disj,H.blk,H.lks,H.inn⟩
theorem RV1.unlent {F F':Fz} {N:Nat} {c:AV} {v:Value} (hm:∀b o v,F.m b o=some v→F'.m b o=some v) (h0:∀b o,¬F.N0 b o→¬F'.N0 b o) (hl:noLent c=true) (h:RV1 F R h1 N c v):RV1 F' R h1 N c v:=by
 cases h with
 |leaf hf=>exact .leaf (hf.unlent hm h0 hl)
 |node a b c=>exact .node a b c
theorem RVL.unlent {F F':Fz} (hm:∀b o v,F.m b o=some v→F'.m b o=some v) (h0:∀b o,¬F.N0 b o→¬F'.N0 b o):∀{N:Nat} {l:List AV} {vs:List Value},noLentL l=true→RVL F R h1 N l vs→RVL F' R h1 N l vs
 |_,_,_,_,.nil=>.nil
 |_,_,_,hl,.cons a t=>by
  simp only[noLentL,Bool.and_eq_true]at hl
  exact .cons (a.unlent hm h0 hl.1) (RVL.unlent hm h0 hl.2 t)
theorem RVE.unlent {F F':Fz} (hm:∀b o v,F.m b o=some v→F'.m b o=some v) (h0:∀b o,¬F.N0 b o→¬F'.N0 b o) {N:Nat} {c:AV} {v:Value} (hl:noLent c=true) (h:RVE F R h1 N c v):RVE F' R h1 N c v:=by
 cases h with
 |un=>exact .un
 |c a=>exact .c (a.unlent hm h0 hl)
 |agg a=>exact .agg (a.unlent hm h0 hl)
theorem RVT.unlent {F F':Fz} (hm:∀b o v,F.m b o=some v→F'.m b o=some v) (h0:∀b o,¬F.N0 b o→¬F'.N0 b o):∀{N:Nat} {l:List AV} {vs:List Value},noLentL l=true→RVT F R h1 N l vs→RVT F' R h1 N l vs
 |_,_,_,_,.nil=>.nil
 |_,_,_,hl,.cons hu a t=>by
  simp only[noLentL,Bool.and_eq_true]at hl
  exact .cons hu (a.unlent hm h0 hl.1) (RVT.unlent hm h0 hl.2 t)
theorem RV.unlent {F F':Fz} (hm:∀b o v,F.m b o=some v→F'.m b o=some v) (h0:∀b o,¬F.N0 b o→¬F'.N0 b o) {N:Nat} {c:AV} {v:Value} (hl:noLent c=true) (h:RV F R h1 N c v):RV F' R h1 N c v:=by
 cases h with
 |e a=>exact .e (a.unlent hm h0 hl)
 |tup a=>exact .tup (a.unlent hm h0 hl)
end Go.Am
end
