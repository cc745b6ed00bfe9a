/- The texts Am50, Am51, Am52, Am53, Am54, Am55, Am56, Am57, Am58, Am59, Am60 of this proof. -/
import Derived.Test.YtbbdljhpjomclaaM1
section
namespace Go.Am
open Go.RowKit Go.Lib
variable {P:Program} {cx:Cx} {B B1:Base} {K:Nat→Prop} {g g' g0 g1 g2:Gh} {R R' R0 R1 R2:Nat→Value} {s:St} {h h' h0 h1 h2:Hp} {w w':World} {F F':Fz}
def ioG (g:Gh) (pl:Pl) (nu:Nd) (μ:Nat×Nat→Option (Nat×Nat)):List (Nat×Nat)→Option Nd
 |[]=>some nu
 |t::q=>match μ t with
  |some t'=>g pl.r (pl.p++t'::q)
  |none=>none
structure RowV (g:Gh) (h:Hp) (pl:Pl) (n nu:Nd) (μ:Nat×Nat→Option (Nat×Nat)) (a:AV):Prop where
 at_:g pl.r pl.p=some n
 nw:n.whole=false
 nuw:nu.whole=false
 b:nu.b=n.b
 sub:∀o,nu.has nu.b o→n.has n.b o
 bnd:∀cs:Array Value,n.o+n.sz*n.cap≤cs.size→nu.o+nu.sz*nu.cap≤cs.size
 to:∀t c,step1 a t=some c→∃t',μ t=some t'∧getP h (pl.cell t'.1 t'.2)=some c∧nu.o+t.1*nu.sz+t.2=n.o+t'.1*n.sz+t'.2
 tot:∀t t',μ t=some t'→∃c,step1 a t=some c
 inj:∀t1 t2 t',μ t1=some t'→μ t2=some t'→t1=t2
 cover:∀i j c,getP h (pl.cell i j)=some c→j<n.sz→nu.has n.b (n.o+i*n.sz+j)→∃t,μ t=some (i,j)
theorem RowV.back {pl:Pl} {n nu:Nd} {μ:Nat×Nat→Option (Nat×Nat)} {a:AV} (V:RowV g h pl n nu μ a) (t t':Nat×Nat) (c:AV) (h1:μ t=some t') (h2:getP h (pl.cell t'.1 t'.2)=some c):step1 a t=some c:=by
 obtain⟨c',hc⟩:=V.tot t t' h1
 obtain⟨s',e1,e2,_⟩:=V.to t c' hc
 rw[h1]at e1;cases e1
 rw[h2]at e2;cases e2;exact hc
theorem RowV.move {pl:Pl} {n nu:Nd} {μ:Nat×Nat→Option (Nat×Nat)} {a:AV} (V:RowV g h pl n nu μ a) (hg:g' pl.r pl.p=some n) (hh:∀t t' c,μ t=some t'→getP h (pl.cell t'.1 t'.2)=some c→getP h' (pl.cell t'.1 t'.2)=some c) (hc:∀i j c,getP h' (pl.cell i j)=some c→∃c',getP h (pl.cell i j)=some c'):RowV g' h' pl n nu μ a:=
 ⟨hg,V.nw,V.nuw,V.b,V.sub,V.bnd,fun t c hc=>by
  obtain⟨t',e1,e2,e3⟩:=V.to t c hc
  exact⟨t',e1,hh t t' c e1 e2,e3⟩,V.tot,V.inj,fun i j c h1 h2 h3=>by
  obtain⟨c',h4⟩:=hc i j c h1
  exact V.cover i j c' h4 h2 h3⟩
theorem ioT_ok (H:RM B K g R h w) {pl:Pl} {n nu:Nd} {μ:Nat×Nat→Option (Nat×Nat)} {a:AV} {v:Value} {κ:Nat} (V:RowV g h pl n nu μ a) (hroot:LF (mkF B g w) (obj w) g a (some nu) v) (hn:isNode a=true) (hnl:noLk a=true):
  (⟨κ,a,v,ioG g pl nu μ⟩:IoT).ok B g w pl.r:=by
 obtain⟨x,hx,hp⟩:∃x,hget h pl.r=some x∧∃c,getT x pl.p=some c:=by
  cases hh:hget h pl.r with
  |none=>have:=H.void pl.r hh pl.p;rw[V.at_]at this;cases this
  |some x=>obtain⟨c,hc,_⟩:=(H.tree _ x hh).dom pl.p n V.at_;exact⟨x,rfl,c,hc⟩
 have ht:=H.tree _ x hx
 have get:∀{t:Nat×Nat} {c:AV},getP h (pl.cell t.1 t.2)=some c→getT x (pl.p++[t])=some c:=by
  intro t c hc
  unfold getP at hc
  rw[show(pl.cell t.1 t.2).r=pl.r from rfl,hx]at hc
  exact hc
 have gcons:∀{t:Nat×Nat} {c:AV} {q:List (Nat×Nat)},getT x (pl.p++[t])=some c→getT x (pl.p++t::q)=getT c q:=by
  intro t c q hc
  rw[show pl.p++t::q=(pl.p++[t])++q by simp,getT_append,hc];rfl
 refine⟨⟨hroot,fun p i j c hc=>?_,fun q m hq=>?_⟩,fun q m hq=>?_,fun q m q' m' h1 h2 hne=>?_,fun q m hq hw=>?_,hnl⟩
 ·cases p with
  |nil=>
   simp only[List.nil_append,getT]at hc
   cases hs:step1 a (i,j)with
   |none=>rw[hs]at hc;cases hc
   |some y=>
    rw[hs]at hc
    simp only[Option.bind_some,Option.some.injEq]at hc
    subst hc
    obtain⟨t',e1,e2,e3⟩:=V.to _ _ hs
    have e2':=get e2
    obtain⟨m,u,f1,f2,f3,f4,f5,f6⟩:=ht.inside (i:=t'.1) (j:=t'.2) e2'
    rw[V.at_]at f1;cases f1
    refine⟨nu,u,rfl,?_,?_⟩
    ·rw[V.b,e3];exact f5
    ·simp only[List.nil_append,ioG,e1];exact f6
  |cons t p=>
   simp only[List.cons_append,getT]at hc
   cases hs:step1 a t with
   |none=>rw[hs]at hc;cases hc
   |some y=>
    rw[hs]at hc
    simp only[Option.bind_some]at hc
    obtain⟨t',e1,e2,e3⟩:=V.to _ _ hs
    have e2':=get e2
    have hh:getT x (pl.p++t'::p++[(i,j)])=some c:=by
     rw[List.append_assoc,List.cons_append,gcons e2'];exact hc
    obtain⟨m,u,f1,f2,f3⟩:=ht.cell _ i j c hh
    refine⟨m,u,?_,f2,?_⟩
    ·simp only[ioG,e1];exact f1
    ·simp only[List.cons_append,ioG,e1]
     have e:pl.p++t'::(p++[(i,j)])=pl.p++t'::p++[(i,j)]:=by simp
     rw[e];exact f3
 ·cases q with
  |nil=>exact⟨a,rfl,hn⟩
  |cons t q=>
   simp only[ioG]at hq
   cases e1:μ t with
   |none=>rw[e1]at hq;cases hq
   |some t'=>
    rw[e1]at hq
    obtain⟨c,hc,hcn⟩:=ht.dom _ m hq
    obtain⟨y,hy⟩:∃y,getT x (pl.p++[t'])=some y:=by
     rw[show pl.p++t'::q=(pl.p++[t'])++q by simp,getT_append]at hc
     cases hy:getT x (pl.p++[t'])with
     |none=>rw[hy]at hc;cases hc
     |some y=>exact⟨y,rfl⟩
    have hs:=V.back t t' y e1 (by unfold getP;rw[show(pl.cell t'.1 t'.2).r=pl.r from rfl,hx];exact hy)
    refine⟨c,?_,hcn⟩
    simp only[getT,hs,Option.bind_some]
    rw[←gcons hy];exact hc
 ·cases q with
  |nil=>
   simp only[ioG,Option.some.injEq]at hq
   subst hq
   refine⟨pl.p,n,V.at_,fun b o hb=>?_⟩
   obtain⟨h1,h2⟩:=hb
   subst h1
   have:=V.sub o ⟨rfl,h2⟩
   exact⟨by rw[V.b],this.2⟩
  |cons t q=>
   simp only[ioG]at hq
   cases e1:μ t with
   |none=>rw[e1]at hq;cases hq
   |some t'=>rw[e1]at hq;exact⟨_,m,hq,fun _ _ hb=>hb⟩
 ·have nuin:∀b o,nu.has b o→n.has b o:=by
   intro b o hb
   obtain⟨h1,h2⟩:=hb
   subst h1
   have:=V.sub o ⟨rfl,h2⟩
   exact⟨by rw[V.b],this.2⟩
  cases q with
  |nil=>
   cases q' with
   |nil=>exact absurd rfl hne
   |cons t' q'=>
    simp only[ioG,Option.some.injEq]at h1 h2
    subst h1
    cases e2:μ t' with
    |none=>rw[e2]at h2;cases h2
    |some s2=>
     rw[e2]at h2
     intro b o hb hb'
     exact H.disj _ _ _ _ _ _ V.at_ h2 (by intro e;simp at e) b o (nuin b o hb) hb'
  |cons t q=>
   simp only[ioG]at h1
   cases e1:μ t with
   |none=>rw[e1]at h1;cases h1
   |some s1=>
    rw[e1]at h1
    cases q' with
    |nil=>
     simp only[ioG,Option.some.injEq]at h2
     subst h2
     intro b o hb hb'
     exact H.disj _ _ _ _ _ _ V.at_ h1 (by intro e;simp at e) b o (nuin b o hb') hb
    |cons t' q'=>
     simp only[ioG]at h2
     cases e2:μ t' with
     |none=>rw[e2]at h2;cases h2
     |some s2=>
      rw[e2]at h2
      refine H.disj _ _ _ _ _ _ h1 h2 fun e=>hne ?_
      simp only[Prod.mk.injEq,List.append_cancel_left_eq,List.cons.injEq,true_and]at e
      obtain⟨e3,e4⟩:=e
      subst e3
      rw[V.inj t t' s1 e1 e2,e4]
 ·cases q with
  |nil=>
   simp only[ioG,Option.some.injEq]at hq
   subst hq
   obtain⟨cs,el,fr,b1,b2,b3⟩:=H.blk _ _ _ V.at_ V.nw
   refine⟨cs,el,fr,by rw[V.b];exact b1,V.bnd cs b2,fun o ho=>?_⟩
   rw[V.b]
   exact b3 o (V.sub o ho)
  |cons t q=>
   simp only[ioG]at hq
   cases e1:μ t with
   |none=>rw[e1]at hq;cases hq
   |some t'=>rw[e1]at hq;exact H.blk _ _ _ hq hw
theorem row_ptr (H:RM B K g R h w) {pl:Pl} {i off:Nat} {cs:List AV} {e:AV} {n:Nd} (h00:0<cs.length) (hn:g pl.r pl.p=some n) (hnw:n.whole=false) (hcs:∀j c,cs[j]?=some c→getP h (pl.cell i (off+j))=some c) (hce:cells e=cs):
  RowV g h pl n ⟨n.b,n.o+i*n.sz+off,cs.length,1,false⟩ (fun t=>if t.1=0∧t.2<cs.length then some (i,off+t.2)else none) (.bx e):=by
 have hin:∀j,j<cs.length→i<n.cap∧off+j<n.sz:=by
  intro j hj
  obtain⟨a,ha,hp⟩:=getP_some (hcs j cs[j] (List.getElem?_eq_getElem hj))
  obtain⟨m,u,f1,f2,f3,f4,_⟩:=(H.tree _ a ha).inside (p:=pl.p) (i:=i) (j:=off+j) hp
  rw[show(pl.cell i (off+j)).r=pl.r from rfl,hn]at f1;cases f1
  exact⟨f3,f4⟩
 have hlast:0<cs.length→i<n.cap∧off+cs.length≤n.sz:=by
  intro h0
  obtain⟨a,b⟩:=hin (cs.length - 1) (by omega)
  exact⟨a,by omega⟩
 have hsz:0<cs.length→i*n.sz+off+cs.length≤n.sz*n.cap:=by
  intro h0
  obtain⟨a,b⟩:=hlast h0
  have:(i+1)*n.sz≤n.cap*n.sz:=Nat.mul_le_mul_right _ a
  rw[Nat.add_mul,Nat.mul_comm n.cap]at this
  omega
 refine⟨hn,hnw,rfl,rfl,fun o ho=>?_,fun cs' hc=>?_,fun t c hc=>?_,fun t t' ht=>?_,fun t1 t2 t' h1 h2=>?_,fun i' j' c hc hj hh=>?_⟩
 ·obtain⟨_,h2⟩:=ho
  rcases h2 with h2|h2
  ·cases h2
  ·simp only[Nat.mul_one]at h2
   have:=hsz (by omega)
   exact⟨rfl,.inr (by omega)⟩
 ·simp only[Nat.mul_one]
  have:=hsz h00;omega
 ·rcases step1_some (i:=t.1) (j:=t.2) hc with⟨sz,es,e',he,_⟩|⟨e',he,h1,h2⟩
  ·cases he
  ·cases he
   rw[hce]at h2
   have hlt:=(List.getElem?_eq_some_iff.1 h2).1
   refine⟨(i,off+t.2),by simp[h1,hlt],hcs _ _ h2,?_⟩
   simp only[h1];omega
 ·split at ht
  ·rename_i hc'
   obtain⟨t1,t2⟩:=t
   simp only at hc'
   obtain⟨rfl,hlt⟩:=hc'
   exact⟨cs[t2],by simp only[step1,if_true,hce];exact List.getElem?_eq_getElem hlt⟩
  ·cases ht
 ·obtain⟨a1,a2⟩:=t1
  obtain⟨b1,b2⟩:=t2
  simp only at h1 h2
  split at h1
  ·rename_i c1
   split at h2
   ·rename_i c2
    cases h1
    simp only[Option.some.injEq,Prod.mk.injEq]at h2
    have:a2=b2:=by omega
    rw[c1.1,c2.1,this]
   ·cases h2
  ·cases h1
 ·obtain⟨_,h2⟩:=hh
  rcases h2 with h2|h2
  ·cases h2
  ·simp only[Nat.mul_one]at h2
   obtain⟨b1,b2⟩:=hlast h00
   have e1:i'=i:=by
    rcases Nat.lt_trichotomy i' i with h|h|h
    ·have:(i'+1)*n.sz≤i*n.sz:=Nat.mul_le_mul_right _ h
     rw[Nat.add_mul]at this;omega
    ·exact h
    ·have:(i+1)*n.sz≤i'*n.sz:=Nat.mul_le_mul_right _ h
     rw[Nat.add_mul]at this;omega
   subst e1
   refine⟨(0,j' - off),?_⟩
   simp only[true_and]
   rw[if_pos (by omega)]
   congr 2;omega
theorem row_slice {pl:Pl} {sz k cap:Nat} {es:List AV} {n:Nd} (hn:g pl.r pl.p=some n) (hnw:n.whole=false) (hsz:n.sz=sz) (hk:k+cap≤n.cap) (hl:es.length≤cap) (hk0:cap=0∨k=0) (hp:getP h pl=some (.ow sz es)) (hcz:∀e∈es,(cells e).length=sz):
  RowV g h pl n (cutN n k cap) (fun t=>if t.1<es.length∧t.2<sz then some t else none) (.ow sz es):=by
 refine⟨hn,hnw,hnw,rfl,fun o ho=>cutN_has hk ho,fun cs' hc=>?_,fun t c hc=>?_,fun t t' ht=>?_,fun t1 t2 t' h1 h2=>?_,fun i' j' c hc hj hh=>?_⟩
 ·simp only[cutN]
  have:n.sz*(k+cap)≤n.sz*n.cap:=Nat.mul_le_mul_left _ hk
  rw[Nat.mul_add,Nat.mul_comm n.sz k]at this
  omega
 ·rcases step1_some (i:=t.1) (j:=t.2) hc with⟨sz',es',e',he,h1,h2⟩|⟨e',he,_⟩
  ·cases he
   have l1:=(List.getElem?_eq_some_iff.1 h1).1
   have l2:=(List.getElem?_eq_some_iff.1 h2).1
   rw[hcz e' (List.mem_of_getElem? h1)]at l2
   refine⟨t,by simp[l1,l2],getP_step hp hc,?_⟩
   have hk:k=0:=by rcases hk0 with h|h;omega;exact h
   simp only[cutN,hk,Nat.zero_mul,Nat.add_zero]
  ·cases he
 ·split at ht
  ·rename_i hc'
   have h1:es[t.1]?=some es[t.1]:=List.getElem?_eq_getElem hc'.1
   have h2:t.2<(cells es[t.1]).length:=by rw[hcz _ (List.getElem_mem hc'.1)];exact hc'.2
   exact⟨(cells es[t.1])[t.2],by obtain⟨t1,t2⟩:=t;simp only[step1];rw[h1];simp only[Option.bind_some];exact List.getElem?_eq_getElem h2⟩
  ·cases ht
 ·split at h1
  ·split at h2
   ·cases h1;cases h2;rfl
   ·cases h2
  ·cases h1
 ·obtain⟨a,ha,hpp⟩:=getP_some hc
  obtain⟨a2,ha2,hpp2⟩:=getP_some hp
  rw[show(pl.cell i' j').r=pl.r from rfl,ha2]at ha;cases ha
  have e1:step1 (.ow sz es) (i',j')=some c:=by
   have:=hpp
   rw[show(pl.cell i' j').p=pl.p++[(i',j')]from rfl,getT_snoc,hpp2]at this
   exact this
  rcases step1_some e1 with⟨sz',es',e',he,h1,h2⟩|⟨e',he,_⟩
  ·cases he
   have l1:=(List.getElem?_eq_some_iff.1 h1).1
   refine⟨(i',j'),?_⟩
   simp only
   rw[if_pos ⟨l1,by omega⟩]
  ·cases he
end Go.Am
end
section
namespace Go.Am
open Go.RowKit Go.Lib
variable {P:Program} {cx:Cx} {B B0 B1:Base} {K:Nat→Prop} {g g' g0 g1 g2:Gh} {R R' R0 R1 R2:Nat→Value} {s:St} {h h' h0 h1 h2:Hp} {w w':World} {F F':Fz}
structure IoSpec where
 κ:Nat
 pl:Pl
 n:Nd
 nu:Nd
 μ:Nat×Nat→Option (Nat×Nat)
 a:AV
 v:Value
 tc:List Pl
 iop:IoR
structure IoSpec.ok (t:IoSpec) (s:St) (B:Base) (g:Gh) (w:World):Prop where
 row:RowV g s.h t.pl t.n t.nu t.μ t.a
 root:∀{F:Fz} {ob:Nat→Option Obj} {G:Gh},LF F ob G t.a (some t.nu) t.v
 node:isNode t.a=true
 tc0:t.tc≠[]
 tcpl:∀p∈t.tc,t.pl.pre p=true
 cov:∀tt t',t.μ tt=some t'→∃p∈t.tc,p.pre (t.pl.cell t'.1 t'.2)=true
 kind:(∃i off e,t.iop=.cells (cellPls t.pl i off (cells e).length)∧t.a=.bx e∧t.μ=fun t=>if t.1=0∧t.2<(cells e).length then some (i,off+t.2)else none)∨
  (∃sz es,t.iop=.node t.pl sz es.length∧t.a=.ow sz es∧t.μ=fun t=>if t.1<es.length∧t.2<sz then some t else none)
structure CEnv (B:Base) (g:Gh) (w:World) (B0:Base) (g0:Gh) (R0:Nat→Value) (h0:Hp) (g2:Gh) (R2:Nat→Value) (h2:Hp) (ts:List Tk) (mv:List (Nat×AV×Nat)) (gv:List Nat) (vw:List Rd) (io:List IoSpec):Prop where
 rm0:RM B0 (fun _=>False) g0 R0 h0 w
 le0:(mkF B g w).le (mkF B0 g0 w)
 rm2:∃K,RM B K g2 R2 h2 w
 le2:(mkF B g2 w).le (mkF B0 g0 w)
 got:Got (mkF B g2 w) R2 h2 ts
 mvs:∀m∈mv,hget h0 m.1=some m.2.1∧R0 m.1=R2 m.2.2
 gvs:∀N∈gv,∀q n,g2 N q=some n→∀o,n.has n.b o→(mkF B0 g0 w).no 0 n.b o
 vws:∀r∈vw,∀q n,g r.pl.r (r.pl.p++q)=some n→∀o,n.has n.b o→(mkF B0 g0 w).no 2 n.b o
 ios:∀t∈io,hget h0 t.κ=some t.a∧R0 t.κ=t.v
theorem CEnv.sub {ts ts':List Tk} {mv mv':List (Nat×AV×Nat)} {gv gv':List Nat} {vw vw':List Rd} {io io':List IoSpec} (E:CEnv B g w B0 g0 R0 h0 g2 R2 h2 ts mv gv vw io)
  (e1:∀t∈ts',t∈ts) (e2:∀t∈mv',t∈mv) (e3:∀t∈gv',t∈gv) (e4:∀t∈vw',t∈vw) (e5:∀t∈io',t∈io):CEnv B g w B0 g0 R0 h0 g2 R2 h2 ts' mv' gv' vw' io':=
 ⟨E.rm0,E.le0,E.rm2,E.le2,fun t ht=>E.got t (e1 t ht),fun m hm=>E.mvs m (e2 m hm),fun N hN=>E.gvs N (e3 N hN),fun r hr=>E.vws r (e4 r hr),fun t ht=>E.ios t (e5 t ht)⟩
inductive IoOuts (g0 g1:Gh) (h1:Hp):List IoSpec→List AV→Prop
 |nil:IoOuts g0 g1 h1 [] []
 |cons {t:IoSpec} {o:AV} {io:List IoSpec} {os:List AV} (a:hget h1 t.κ=some o) (b:∀n,g0 t.κ []=some n→g1 t.κ []=some n) (c:(∃e,o=.bx e)∨∃sz es,o=.ow sz es) (tl:IoOuts g0 g1 h1 io os):IoOuts g0 g1 h1 (t::io) (o::os)
theorem IoOuts.append {h1:Hp}:∀{io io':List IoSpec} {os os':List AV},IoOuts g0 g1 h1 io os→IoOuts g0 g1 h1 io' os'→IoOuts g0 g1 h1 (io++io') (os++os')
 |_,_,_,_,.nil,h=>h
 |_,_,_,_,.cons a b c tl,h=>.cons a b c (tl.append h)
structure AR (s:St) (B:Base) (K:Nat→Prop) (g:Gh) (w:World) (M k c c':Nat) (ms:List Md) (cv:List AV) (vs:List Value) (rd:List Rd) (up:List Up) (touch:List Pl) (iol:List IoR) (lent:Bool)
  (ts:List Tk) (mv:List (Nat×AV×Nat)) (gv:List Nat) (vw:List Rd) (io:List IoSpec):Prop where
 len:vs.length=cv.length
 le:c≤c'
 tks:ts.flatMap Tk.us=up∧∀t∈ts,t.ok s B K g s.h w
 inc:ts.Pairwise fun t t'=>t.us≠[]→t'.us≠[]→t.N≠t'.N
 rng:∀t∈ts,t.us≠[]→M+c≤t.N∧t.N<M+c'
 cov:∀t∈ts,t.us≠[]→(∃m∈mv,m.2.2=t.N)∨t.N∈gv
 mvr:∀m∈mv,M+c≤m.2.2∧m.2.2<M+c'∧(∃t∈ts,t.us≠[]∧t.N=m.2.2∧t.x=m.2.1)
 gvr:∀N∈gv,M+c≤N∧N<M+c'
 gm:∀N∈gv,∀m∈mv,m.2.2≠N
 mvd:mv.Pairwise fun m m'=>m.2.2≠m'.2.2
 ent:∃E:List (Nat×AV),(entryL k cv).2=E.map (fun p=>Up.new p.1 p.2)∧E.Perm (mv.map (fun m=>(m.1,m.2.1))++io.map fun t=>(t.κ,t.a))
 mlen:ms.length=cv.length
 iorng:∀t∈io,k≤t.κ∧t.κ<k+cv.length
 iof:∀{g0 g1:Gh} {h1:Hp} {ms':List Md} {cv' outs:List AV},IoOut g0 g1 h1 k (ms++ms') (cv++cv') outs→∃o1 o2,outs=o1++o2∧IoOuts g0 g1 h1 io o1∧IoOut g0 g1 h1 (k+cv.length) ms' cv' o2
 iol:io.map IoSpec.iop=iol
 iok:∀t∈io,t.ok s B g w
 ird:∀t∈io,∀p∈t.tc,p∈touch∧∃r∈rd,r.pl=p
 vwr:∀r∈vw,r∈rd∧r.deep=true
 upt:∀u∈up,(∃q,u=gone q)∧u.pl∈touch∧∃r∈rd,r.pl=u.pl
 lnt:lent=false→vw=[]
 sep:∀p∈touch,∀r∈vw,p.pre r.pl=false∧r.pl.pre p=false
 sep2:∀u∈up,∀t∈io,∀p∈t.tc,u.pl.pre p=false∧p.pre u.pl=false
 fin:∀{B0:Base} {g0:Gh} {R0:Nat→Value} {h0:Hp} {g2:Gh} {R2:Nat→Value} {h2:Hp},CEnv B g w B0 g0 R0 h0 g2 R2 h2 ts mv gv vw io→XDs (mkF B0 g0 w) g0 [] (entryL k cv).1 vs
theorem entryL_append:∀(l m:List AV) (k:Nat),(entryL k (l++m)).1=(entryL k l).1++(entryL (k+l.length) m).1∧(entryL k (l++m)).2=(entryL k l).2++(entryL (k+l.length) m).2
 |[],m,k=>by simp[entryL]
 |a::l,m,k=>by
  obtain⟨h1,h2⟩:=entryL_append l m (k+1)
  simp only[List.cons_append,entryL,h1,h2,List.length_cons,show k+1+l.length=k+(l.length+1)by omega,List.append_assoc,and_self]
theorem XDs.append {F:Fz} {d:List Up}:∀{l m:List AV} {vs us:List Value},XDs F g d l vs→XDs F g d m us→XDs F g d (l++m) (vs++us)
 |_,_,_,_,.nil,h=>h
 |_,_,_,_,.cons a t,h=>.cons a (t.append h)
theorem touches_false {ps:List Pl} {rs:List Rd} (h:touches ps rs=false):∀p∈ps,∀r∈rs,p.pre r.pl=false∧r.pl.pre p=false:=by
 intro p hp r hr
 unfold touches at h
 rw[List.any_eq_false]at h
 have:=h p hp
 simp only[List.any_eq_true,not_exists,not_and,Bool.not_eq_true]at this
 have:=this r hr
 rw[Bool.or_eq_false_iff]at this
 exact this
theorem AR.nil {M k c:Nat}:AR s B K g w M k c c [] [] [] [] [] [] [] false [] [] [] [] []:=by
 refine⟨rfl,Nat.le_refl _,⟨rfl,?_⟩,.nil,?_,?_,?_,?_,?_,.nil,⟨[],rfl,.nil⟩,rfl,?_,fun h=>⟨[],_,rfl,.nil,h⟩,rfl,?_,?_,?_,?_,fun _=>rfl,?_,?_,fun _=>.nil⟩
 all_goals (first|(intro x hx;exact(List.not_mem_nil hx).elim)|(intro p;simp))
theorem AR.append {M k c c' c'':Nat} {ms ms':List Md} {cv cv':List AV} {vs vs':List Value} {rd rd':List Rd} {up up':List Up} {touch touch':List Pl} {iol iol':List IoR} {lent lent':Bool}
  {ts ts':List Tk} {mv mv':List (Nat×AV×Nat)} {gv gv':List Nat} {vw vw':List Rd} {io io':List IoSpec}
  (a:AR s B K g w M k c c' ms cv vs rd up touch iol lent ts mv gv vw io) (b:AR s B K g w M (k+cv.length) c' c'' ms' cv' vs' rd' up' touch' iol' lent' ts' mv' gv' vw' io')
  (t1:touches touch rd'=false) (t2:touches touch' rd=false):
  AR s B K g w M k c c'' (ms++ms') (cv++cv') (vs++vs') (rd++rd') (up++up') (touch++touch') (iol++iol') (lent||lent') (ts++ts') (mv++mv') (gv++gv') (vw++vw') (io++io'):=by
 have h1:=touches_false t1
 have h2:=touches_false t2
 have lea:=a.le
 have leb:=b.le
 refine⟨by simp[a.len,b.len],Nat.le_trans a.le b.le,⟨by simp[a.tks.1,b.tks.1],?_⟩,?_,?_,?_,?_,?_,?_,?_,?_,by simp[a.mlen,b.mlen],?_,fun h=>?_,by simp[a.iol,b.iol],?_,?_,?_,?_,?_,?_,?_,?_⟩
 ·intro t ht
  rcases List.mem_append.1 ht with h|h
  ·exact a.tks.2 t h
  ·exact b.tks.2 t h
 ·rw[List.pairwise_append]
  refine⟨a.inc,b.inc,fun t ht t' ht' hu hu'=>?_⟩
  have:=a.rng t ht hu
  have:=b.rng t' ht' hu'
  omega
 ·intro t ht hu
  rcases List.mem_append.1 ht with h|h
  ·have:=a.rng t h hu;omega
  ·have:=b.rng t h hu;omega
 ·intro t ht hu
  rcases List.mem_append.1 ht with h|h
  ·rcases a.cov t h hu with⟨m,hm,e⟩|hg
   ·exact .inl ⟨m,List.mem_append_left _ hm,e⟩
   ·exact .inr (List.mem_append_left _ hg)
  ·rcases b.cov t h hu with⟨m,hm,e⟩|hg
   ·exact .inl ⟨m,List.mem_append_right _ hm,e⟩
   ·exact .inr (List.mem_append_right _ hg)
 ·intro m hm
  rcases List.mem_append.1 hm with h|h
  ·obtain⟨x,y,t,ht,z⟩:=a.mvr m h;exact⟨x,by omega,t,List.mem_append_left _ ht,z⟩
  ·obtain⟨x,y,t,ht,z⟩:=b.mvr m h;exact⟨by omega,y,t,List.mem_append_right _ ht,z⟩
 ·intro N hN
  rcases List.mem_append.1 hN with h|h
  ·have:=a.gvr N h;omega
  ·have:=b.gvr N h;omega
 ·intro N hN m hm
  rcases List.mem_append.1 hN with h|h<;>rcases List.mem_append.1 hm with h'|h'
  ·exact a.gm N h m h'
  ·have:=a.gvr N h;have:=b.mvr m h';omega
  ·have:=b.gvr N h;have:=a.mvr m h';omega
  ·exact b.gm N h m h'
 ·rw[List.pairwise_append]
  refine⟨a.mvd,b.mvd,fun m hm m' hm'=>?_⟩
  have:=a.mvr m hm
  have:=b.mvr m' hm'
  omega
 ·obtain⟨E,e1,e2⟩:=a.ent
  obtain⟨E',e1',e2'⟩:=b.ent
  refine⟨E++E',by rw[(entryL_append _ _ _).2,e1,e1',List.map_append],(e2.append e2').trans ?_⟩
  simp only[List.map_append,List.append_assoc]
  refine List.Perm.append_left _ ?_
  rw[←List.append_assoc,←List.append_assoc]
  exact List.Perm.append_right _ List.perm_append_comm
 ·intro t ht
  rcases List.mem_append.1 ht with h|h
  ·have:=a.iorng t h;simp only[List.length_append];omega
  ·have:=b.iorng t h;simp only[List.length_append];omega
 ·rw[List.append_assoc,List.append_assoc]at h
  obtain⟨o1,o2,rfl,h3,h4⟩:=a.iof h
  obtain⟨o3,o4,rfl,h5,h6⟩:=b.iof h4
  exact⟨o1++o3,o4,by simp,h3.append h5,by rw[List.length_append,←Nat.add_assoc];exact h6⟩
 ·intro t ht
  rcases List.mem_append.1 ht with h|h
  ·exact a.iok t h
  ·exact b.iok t h
 ·intro t ht p hp
  rcases List.mem_append.1 ht with h|h
  ·obtain⟨x,r,hr,e⟩:=a.ird t h p hp;exact⟨List.mem_append_left _ x,r,List.mem_append_left _ hr,e⟩
  ·obtain⟨x,r,hr,e⟩:=b.ird t h p hp;exact⟨List.mem_append_right _ x,r,List.mem_append_right _ hr,e⟩
 ·intro r hr
  rcases List.mem_append.1 hr with h|h
  ·exact⟨List.mem_append_left _ (a.vwr r h).1,(a.vwr r h).2⟩
  ·exact⟨List.mem_append_right _ (b.vwr r h).1,(b.vwr r h).2⟩
 ·intro u hu
  rcases List.mem_append.1 hu with h|h
  ·obtain⟨x,y,r,hr,e⟩:=a.upt u h;exact⟨x,List.mem_append_left _ y,r,List.mem_append_left _ hr,e⟩
  ·obtain⟨x,y,r,hr,e⟩:=b.upt u h;exact⟨x,List.mem_append_right _ y,r,List.mem_append_right _ hr,e⟩
 ·intro hl
  rw[Bool.or_eq_false_iff]at hl
  rw[a.lnt hl.1,b.lnt hl.2];rfl
 ·intro p hp r hr
  rcases List.mem_append.1 hp with h|h<;>rcases List.mem_append.1 hr with h'|h'
  ·exact a.sep p h r h'
  ·exact h1 p h r (b.vwr r h').1
  ·exact h2 p h r (a.vwr r h').1
  ·exact b.sep p h r h'
 ·intro u hu t ht p hp
  rcases List.mem_append.1 hu with h|h<;>rcases List.mem_append.1 ht with h'|h'
  ·exact a.sep2 u h t h' p hp
  ·obtain⟨_,y,_⟩:=a.upt u h
   obtain⟨_,r,hr,e⟩:=b.ird t h' p hp
   have:=h1 _ y r hr
   rw[e]at this;exact this
  ·obtain⟨_,y,_⟩:=b.upt u h
   obtain⟨_,r,hr,e⟩:=a.ird t h' p hp
   have:=h2 _ y r hr
   rw[e]at this;exact this
  ·exact b.sep2 u h t h' p hp
 ·intro B0 g0 R0 h0 g2 R2 h2 E
  rw[(entryL_append _ _ _).1]
  exact(a.fin (E.sub (fun _ h=>List.mem_append_left _ h) (fun _ h=>List.mem_append_left _ h) (fun _ h=>List.mem_append_left _ h) (fun _ h=>List.mem_append_left _ h) fun _ h=>List.mem_append_left _ h)).append
   (b.fin (E.sub (fun _ h=>List.mem_append_right _ h) (fun _ h=>List.mem_append_right _ h) (fun _ h=>List.mem_append_right _ h) (fun _ h=>List.mem_append_right _ h) fun _ h=>List.mem_append_right _ h))
end Go.Am
end
section
namespace Go.Am
open Go.RowKit Go.Lib
variable {P:Program} {cx:Cx} {B B0 B1:Base} {K:Nat→Prop} {g g' g0 g1 g2:Gh} {R R' R0 R1 R2:Nat→Value} {s:St} {h h' h0 h1 h2:Hp} {w w':World} {F F':Fz}
theorem frzL_drop_take {lab:Nat}:∀(l:List AV) (a b:Nat),frzL lab ((l.drop a).take b)=((frzL lab l).drop a).take b:=by
 intro l a b
 apply List.ext_getElem?
 intro i
 rw[frzL_get]
 simp only[List.getElem?_take,List.getElem?_drop]
 split
 ·rw[frzL_get]
 ·rfl
theorem sub_TOK (H:RM B K g R h w) {pl:Pl} {c:AV} (hc:getP h pl=some c):∃u,TOK (mkF B g w) (obj w) g (fun q=>g pl.r (pl.p++q)) c u:=by
 obtain⟨a,ha,hp⟩:=getP_some hc
 have ht:=H.tree _ a ha
 rcases List.eq_nil_or_concat pl.p with e|⟨p0,t,e⟩
 ·rw[e]at hp ⊢
  simp only[getT,Option.some.injEq]at hp
  subst hp
  exact⟨_,by simpa using ht⟩
 ·rw[List.concat_eq_append]at e
  obtain⟨i,j⟩:=t
  rw[e]at hp ⊢
  obtain⟨n,u,_,_,_,_,_,h7⟩:=ht.sub hp
  exact⟨u,h7⟩
theorem RE.part {F:Fz} {lab sz b o:Nat} {l:List AV} (h:RE F lab sz l b o) (a n:Nat):RE F lab sz ((l.drop a).take n) b (o+a*sz):=by
 refine RE.of fun i e hi=>?_
 rw[List.getElem?_take]at hi
 split at hi
 ·rw[List.getElem?_drop]at hi
  obtain⟨h1,h2⟩:=h.get hi
  refine⟨h1,?_⟩
  rw[Nat.add_mul]at h2
  rw[Nat.add_assoc];exact h2
 ·cases hi
theorem view_slice (H:RM B K g R h w) {F:Fz} (hle:(mkF B g w).le F) (hm:∀b o x,(mkF B g w).m b o=some x→F.m b o=some x) {pl:Pl} {sz sz' off len:Nat} {es:List AV} {v:Value} {d:List Up} (hv:XD (mkF B g w) g d (.rf sz pl off len) v) (ho:okD d pl) (hc:getP h pl=some (.ow sz es)) (hl:off+len≤es.length)
  (hno:∀q n,g pl.r (pl.p++q)=some n→∀o,n.has n.b o→F.no 2 n.b o):RF F (.fz 2 sz (frzL 2 ((es.drop off).take len))) v:=by
 obtain⟨cap,k,n,f1,f2,f3,f4,f5,f6,rfl⟩:=X_rf hv ho
 obtain⟨u,ht⟩:=sub_TOK H hc
 have hf:=frz_RF (lab:=2) (F1:=F) (by decide) ht (fun p m hm o hh=>hno p m hm o hh) (fun p m o x _ _ hx=>hm _ _ _ hx) (fun c u hf=>hf.mono hle) _ (.ow sz es) [] u (Nat.lt_succ_self _) rfl ht.root
 obtain⟨m,e1,e2,e3,e4,rfl,e6⟩:=ht.root
 simp only[List.append_nil]at e1
 rw[f1]at e1;cases e1
 simp only[frz]at hf
 have h3:RE F 2 sz (frzL 2 es) n.b n.o:=by
  generalize hz:Value.slice (some ⟨n.b,n.o,none⟩) es.length n.cap=z at hf
  cases hf with
  |fzs _ _ _ b o cap' sp h1 h2 h3 h4=>simp only[Value.slice.injEq,Option.some.injEq,Addr.mk.injEq]at hz;obtain⟨⟨rfl,rfl,_⟩,_,_⟩:=hz;exact h3
 have h4:=h3.part off len
 have hlen:(((frzL 2 es).drop off).take len).length=len:=by simp[frzL_len];omega
 rw[frzL_drop_take]
 have h5:=RF.fz (F:=F) 2 sz _ n.b (n.o+k*n.sz) cap (by decide) (by rw[hlen];exact f5) (by
  rcases f6 with rfl|rfl
  ·have:((frzL 2 es).drop off).take len=[]:=List.eq_nil_of_length_eq_zero (by rw[hlen];omega)
   rw[this];exact .nil _ _ _ _
  ·rw[f3];exact h4)
 rw[hlen]at h5
 exact h5
theorem view_ptr (H:RM B K g R h w) {F:Fz} (hle:(mkF B g w).le F) (hm:∀b o x,(mkF B g w).m b o=some x→F.m b o=some x) {pl:Pl} {i off:Nat} {c e:AV} {v:Value} {d:List Up} (hv:XD (mkF B g w) g d (.ptr pl i off) v) (ho:okD d pl) (hc:getP h pl=some c)
  (hce:(∃sz es,c=.ow sz es∧es[i]?=some e)∨(c=.bx e∧i=0))
  (hno:∀q n,g pl.r (pl.p++q)=some n→∀o,n.has n.b o→F.no 2 n.b o):RF F (.fp 2 (frz 2 e) off) v:=by
 obtain⟨n,f1,f2,rfl⟩:=X_ptr hv ho
 obtain⟨u,ht⟩:=sub_TOK H hc
 have hf:=frz_RF (lab:=2) (F1:=F) (by decide) ht (fun p m hm o hh=>hno p m hm o hh) (fun p m o x _ _ hx=>hm _ _ _ hx) (fun c u hf=>hf.mono hle) _ c [] u (Nat.lt_succ_self _) rfl ht.root
 rcases hce with⟨sz,es,rfl,he⟩|⟨rfl,rfl⟩
 ·obtain⟨m,e1,e2,e3,e4,rfl,e6⟩:=ht.root
  simp only[List.append_nil]at e1
  rw[f1]at e1;cases e1
  simp only[frz]at hf
  have h3:RE F 2 sz (frzL 2 es) n.b n.o:=by
   generalize hz:Value.slice (some ⟨n.b,n.o,none⟩) es.length n.cap=z at hf
   cases hf with
   |fzs _ _ _ b o cap' sp h1 h2 h3 h4=>simp only[Value.slice.injEq,Option.some.injEq,Addr.mk.injEq]at hz;obtain⟨⟨rfl,rfl,_⟩,_,_⟩:=hz;exact h3
  obtain⟨a1,a2⟩:=h3.get (i:=i) (e:=frz 2 e) (by rw[frzL_get,he];rfl)
  rw[←e3]at a2
  exact .fp 2 _ off n.b (n.o+i*n.sz) (by decide) a2
 ·obtain⟨m,e1,e2,e3,e4,rfl⟩:=ht.root
  simp only[List.append_nil]at e1
  rw[f1]at e1;cases e1
  simp only[frz]at hf
  generalize hfp:AV.fp 2 (frz 2 e) 0=y at hf
  generalize hvv:Value.pointer (some ⟨n.b,n.o,none⟩)=z at hf
  cases hf with
  |fp lab e' off' b o a1 a2=>
   cases hfp
   simp only[Value.pointer.injEq,Option.some.injEq,Addr.mk.injEq,Nat.add_zero,and_true]at hvv
   obtain⟨rfl,rfl⟩:=hvv
   have:=RF.fp (F:=F) 2 (frz 2 e) off n.b n.o (by decide) a2
   simpa using this
  |_=>cases hfp
end Go.Am
end
section
namespace Go.Am
open Go.RowKit Go.Lib
variable {P:Program} {cx:Cx} {B B0 B1:Base} {K:Nat→Prop} {g g' g0 g1 g2:Gh} {R R' R0 R1 R2:Nat→Value} {s:St} {h h' h0 h1 h2:Hp} {w w':World} {F F':Fz}
theorem offL_rng:∀{l:List AV} {k:Nat},(∀p∈offL k l,k≤p.1∧p.1<k+l.length∧isNode p.2=true)∧(offL k l).Pairwise fun x y=>x.1<y.1
 |[],k=>⟨fun p hp=>(List.not_mem_nil hp).elim,.nil⟩
 |a::l,k=>by
  obtain⟨h1,h2⟩:=offL_rng (l:=l) (k:=k+1)
  simp only[offL]
  by_cases hn:isNode a=true
  ·rw[if_pos hn]
   refine⟨fun p hp=>?_,List.pairwise_cons.2 ⟨fun p hp=>?_,h2⟩⟩
   ·rcases List.mem_cons.1 hp with rfl|hp
    ·exact⟨Nat.le_refl _,by simp,hn⟩
    ·have:=h1 p hp;simp only[List.length_cons];exact⟨by omega,by omega,this.2.2⟩
   ·have:=h1 p hp;simp only;omega
  ·rw[if_neg hn]
   refine⟨fun p hp=>?_,h2⟩
   have:=h1 p hp;simp only[List.length_cons];exact⟨by omega,by omega,this.2.2⟩
theorem off1_rng {a:AV} {k:Nat}:(∀p∈off1 k a,k≤p.1∧p.1<k+(cells a).length∧isNode p.2=true)∧(off1 k a).Pairwise fun x y=>x.1<y.1:=by
 cases a<;>simp only[off1,cells]<;>exact offL_rng
theorem Tks.mem {M:Nat} {ts:List Tk} {rs:List Rd} {us:List Up} {ofs:List (Nat×AV)} (a:Tks s B K g w M ts rs us ofs) {t:Tk} (ht:t∈ts) (hu:t.us≠[]):∃p∈ofs,t.N=M+p.1∧t.x=p.2:=by
 have h3:(t.N,t.x)∈(ts.filter fun t=>isNode t.x).map (fun t=>(t.N,t.x)):=List.mem_map.2 ⟨t,List.mem_filter.2 ⟨ht,a.nod t ht hu⟩,rfl⟩
 rw[a.ofs,List.mem_map]at h3
 obtain⟨p,hp,e⟩:=h3
 simp only[Prod.mk.injEq]at e
 exact⟨p,hp,e.1.symm,e.2.symm⟩
theorem Tks.back {M:Nat} {ts:List Tk} {rs:List Rd} {us:List Up} {ofs:List (Nat×AV)} (a:Tks s B K g w M ts rs us ofs) {p:Nat×AV} (hp:p∈ofs):∃t∈ts,t.us≠[]∧t.N=M+p.1∧t.x=p.2:=by
 have h3:(M+p.1,p.2)∈ofs.map fun p=>(M+p.1,p.2):=List.mem_map.2 ⟨p,hp,rfl⟩
 rw[←a.ofs,List.mem_map]at h3
 obtain⟨t,ht,e⟩:=h3
 obtain⟨ht,hn⟩:=List.mem_filter.1 ht
 simp only[Prod.mk.injEq]at e
 refine⟨t,ht,fun hu=>?_,e⟩
 rcases a.ok t ht with⟨_,h2⟩|⟨pl,c,rs,h1,_⟩
 ·rw[h2.noNode]at hn;cases hn
 ·rw[h1]at hu;cases hu
theorem Tks.dist {M:Nat} {ts:List Tk} {rs:List Rd} {us:List Up} {ofs:List (Nat×AV)} (a:Tks s B K g w M ts rs us ofs) (hn:ofs.Pairwise fun x y=>x.1<y.1):ts.Pairwise fun t t'=>t.us≠[]→t'.us≠[]→t.N≠t'.N:=by
 have h1:((ts.filter fun t=>isNode t.x).map (fun t=>(t.N,t.x))).Pairwise fun x y=>x.1≠y.1:=by
  rw[a.ofs,List.pairwise_map]
  exact hn.imp fun h=>by simp only;omega
 rw[List.pairwise_map,List.pairwise_filter]at h1
 rw[List.pairwise_iff_forall_sublist]at h1 ⊢
 intro t t' hs hu hu'
 exact h1 hs (a.nod t (hs.subset (by simp)) hu) (a.nod t' (hs.subset (by simp)) hu')
def eb (k:Nat):AV→Nat
 | .agg _=>100000+1024*k
 |_=>k
theorem entry_up (k:Nat) (a:AV):(entryArg k a).2=(off1 0 a).map fun x=>Up.new (eb k a+x.1) x.2:=by
 cases a with
 |agg cs=>simp only[entryArg,off1,eb];exact impL_up (100000+1024*k) 0 cs
 |_=>simp[entryArg,impCell,off1,offL,isNode,eb]
theorem entry_ok (H:RM B K g R h w) {k:Nat} {a:AV} {v:Value} (h0:RVE (mkF B g w) R h (eb k a) a v):XD (mkF B g w) g [] (entryArg k a).1 v:=by
 have hnt:nonTup a=true:=by
  cases h0 with
  |un=>rfl
  |c a1=>cases a1 with
   |leaf hf=>cases hf<;>rfl
   |node hn _ _=>cases a<;>first|rfl|cases hn
  |agg _=>rfl
 have e:(entryArg k a).1=(imp1 (eb k a) a).1:=by cases a<;>rfl
 rw[e]
 rcases imp1_ok H h0 with⟨_,h⟩|h
 ·rw[h];exact .inl rfl
 ·exact .inr (by rw[fade_eq1 (imp1_nonTup _ hnt)];exact .c h)
theorem noNode_off {a:AV} {k:Nat} (h:∀c∈cells a,isNode c=false):off1 k a=[]:=by
 rw[List.eq_nil_iff_forall_not_mem]
 intro p hp
 have hl:∀(l:List AV) (k:Nat),(∀c∈l,isNode c=false)→offL k l=[]:=by
  intro l
  induction l with
  |nil=>intro k _;rfl
  |cons a l ih=>
   intro k hc
   simp only[offL]
   rw[if_neg (by rw[hc a List.mem_cons_self];decide),ih _ fun c h=>hc c (List.mem_cons_of_mem _ h)]
 have:off1 k a=[]:=by
  cases a<;>simp only[off1,cells]at h ⊢ <;>exact hl _ _ h
 rw[this]at hp;cases hp
theorem AR.plain {M k c:Nat} {m:Md} {a:AV} {v:Value} {rd:List Rd} {lent:Bool} (hn:∀x∈cells a,isNode x=false) (hd:∀r∈rd,r.deep=true) (hl:lent=false→rd=[])
  (hm:m=.io→isNode a=false) (hf:∀{B0:Base} {g0:Gh} {R0:Nat→Value} {h0:Hp} {g2:Gh} {R2:Nat→Value} {h2:Hp},CEnv B g w B0 g0 R0 h0 g2 R2 h2 [] [] [] rd []→RVE (mkF B0 g0 w) R0 h0 (eb k a) a v):
  AR s B K g w M k c c [m] [a] [v] rd [] [] [] lent [] [] [] rd []:=by
 refine⟨rfl,Nat.le_refl _,⟨rfl,?_⟩,.nil,?_,?_,?_,?_,?_,.nil,⟨[],?_,.nil⟩,rfl,?_,fun h=>?_,rfl,?_,?_,fun r hr=>⟨hr,hd r hr⟩,?_,hl,?_,?_,fun E=>?_⟩
 all_goals (first|(intro x hx;exact(List.not_mem_nil hx).elim)|(intro p;simp;done)|skip)
 ·simp only[entryL,entry_up,noNode_off hn];rfl
 ·simp only[List.singleton_append,IoOut]at h
  rw[if_neg (fun hc=>by rw[hm hc.1]at hc;cases hc.2)]at h
  exact⟨[],_,rfl,.nil,h⟩
 ·refine .cons ?_ .nil
  exact entry_ok E.rm0 (hf E)
theorem cell_RT {F:Fz} {d:List Up} {a:AV} {v:Value} (hna:nonAgg a=true) (hnt:nonTup a=true) (hv:XD F g d a v):a=.un∨RT F g (fadeC d a) v:=by
 rcases hv with rfl|hv
 ·exact .inl rfl
 ·refine .inr ?_
  rw[fade_eq1 hnt,fade1_cell hna]at hv
  have hnf:nonAgg (fadeC d a)=true∧nonTup (fadeC d a)=true:=by
   unfold fadeC;split
   ·exact⟨rfl,rfl⟩
   ·exact⟨hna,hnt⟩
  generalize fadeC d a=y at hv hnf
  cases hv with
  |c h=>cases h with
   |c h=>exact h
   |agg h=>cases hnf.1
  |tup h=>cases hnf.2
theorem expV1_ok (H:RM B K g R s.h w) {a:AV} {v:Value} {x:Ex} (he:expV1 s a=some x) (hv:RT (mkF B g w) g (fadeC s.d a) v):
  x.up=[]∧x.touch=[]∧x.io=[]∧(x.lent=false→x.rd=[])∧(∀r∈x.rd,r.deep=true)∧isNode x.v=false∧nonAgg x.v=true∧
   ∀{F:Fz},(mkF B g w).le F→(∀b o y,(mkF B g w).m b o=some y→F.m b o=some y)→(∀r∈x.rd,∀q n,g r.pl.r (r.pl.p++q)=some n→∀o,n.has n.b o→F.no 2 n.b o)→RF F x.v v:=by
 have leaf:refOf a=none→x={v:=a}→x.up=[]∧x.touch=[]∧x.io=[]∧(x.lent=false→x.rd=[])∧(∀r∈x.rd,r.deep=true)∧isNode x.v=false∧nonAgg x.v=true∧
   ∀{F:Fz},(mkF B g w).le F→(∀b o y,(mkF B g w).m b o=some y→F.m b o=some y)→(∀r∈x.rd,∀q n,g r.pl.r (r.pl.p++q)=some n→∀o,n.has n.b o→F.no 2 n.b o)→RF F x.v v:=by
  intro hr hx
  subst hx
  rw[fadeC_ok fun pl hp=>by rw[hr]at hp;cases hp]at hv
  have hf:RF (mkF B g w) a v:=by
   cases hv with
   |f h=>exact h
   |rf=>cases hr
   |ptr=>cases hr
   |mrf=>cases hr
  refine⟨rfl,rfl,rfl,fun _=>rfl,fun r hr=>(List.not_mem_nil hr).elim,hf.noNode,?_,fun hle _ _=>hf.mono hle⟩
  cases hf<;>rfl
 cases a with
 |rf sz pl off len=>
  simp only[expV1]at he
  split at he
  ·rename_i sz' es hl
   split at he
   ·rename_i hz
    simp only[Option.some.injEq]at he
    subst he
    obtain⟨rfl,hz2⟩:=hz
    have ho:=okD_of_look hl
    rw[fadeC_ok fun q hq=>by cases hq;exact ho]at hv
    refine⟨rfl,rfl,rfl,?_,?_,rfl,rfl,?_⟩
    ·intro h;cases h
    ·intro r hr;rw[List.mem_singleton]at hr;subst hr;rfl
    intro F hle hm hno
    exact view_slice (sz':=0) H hle hm (ref_cell rfl ho hv) ho (look_some hl).2 hz2 fun q n hq o hh=>hno ⟨pl,true⟩ (by simp) q n hq o hh
   ·cases he
  ·cases he
 |ptr pl i off=>
  simp only[expV1]at he
  split at he
  ·rename_i sz es hl
   split at he
   ·rename_i e hz
    simp only[Option.some.injEq]at he
    subst he
    have ho:=okD_of_look hl
    rw[fadeC_ok fun q hq=>by cases hq;exact ho]at hv
    refine⟨rfl,rfl,rfl,?_,?_,rfl,rfl,?_⟩
    ·intro h;cases h
    ·intro r hr;rw[List.mem_singleton]at hr;subst hr;rfl
    intro F hle hm hno
    exact view_ptr H hle hm (ref_cell rfl ho hv) ho (look_some hl).2 (.inl ⟨sz,es,rfl,hz⟩) fun q n hq o hh=>hno ⟨pl,true⟩ (by simp) q n hq o hh
   ·cases he
  ·rename_i e hl
   split at he
   ·rename_i hz
    simp only[Option.some.injEq]at he
    subst he
    have ho:=okD_of_look hl
    rw[fadeC_ok fun q hq=>by cases hq;exact ho]at hv
    refine⟨rfl,rfl,rfl,?_,?_,rfl,rfl,?_⟩
    ·intro h;cases h
    ·intro r hr;rw[List.mem_singleton]at hr;subst hr;rfl
    intro F hle hm hno
    exact view_ptr H hle hm (ref_cell rfl ho hv) ho (look_some hl).2 (.inr ⟨rfl,hz⟩) fun q n hq o hh=>hno ⟨pl,true⟩ (by simp) q n hq o hh
   ·cases he
  ·cases he
 |mrf r=>simp[expV1,oops]at he
 |agg cs=>simp[expV1,oops]at he
 |tup cs=>simp[expV1,oops]at he
 |_=>simp only[expV1,Option.some.injEq]at he;exact leaf rfl he.symm
theorem expVL_ok (H:RM B K g R s.h w):∀{l xs:List AV} {vs:List Value} {rs:List Rd} {b:Bool},expVL s l=some (xs,rs,b)→RTL (mkF B g w) g (l.map (fadeC s.d)) vs→
  (b=false→rs=[])∧(∀r∈rs,r.deep=true)∧(∀c∈xs,isNode c=false)∧
   ∀{F:Fz},(mkF B g w).le F→(∀b o y,(mkF B g w).m b o=some y→F.m b o=some y)→(∀r∈rs,∀q n,g r.pl.r (r.pl.p++q)=some n→∀o,n.has n.b o→F.no 2 n.b o)→∀{R0:Nat→Value} {h0:Hp} {N:Nat},RVL F R0 h0 N xs vs
 |[],xs,vs,rs,b,he,hv=>by
  simp only[expVL,Option.some.injEq,Prod.mk.injEq]at he
  obtain⟨rfl,rfl,rfl⟩:=he
  cases hv
  exact⟨fun _=>rfl,fun r hr=>(List.not_mem_nil hr).elim,fun r hr=>(List.not_mem_nil hr).elim,fun _ _ _=>.nil⟩
 |a::l,xs,vs,rs,b,he,hv=>by
  simp only[expVL]at he
  cases h1:expV1 s a with
  |none=>rw[h1]at he;cases he
  |some x=>
   rw[h1]at he
   simp only at he
   cases h2:expVL s l with
   |none=>rw[h2]at he;cases he
   |some q=>
    obtain⟨ys,r2,b2⟩:=q
    rw[h2]at he
    simp only[Option.some.injEq,Prod.mk.injEq]at he
    obtain⟨rfl,rfl,rfl⟩:=he
    cases hv with
    |cons hv1 hv2=>
     obtain⟨_,_,_,a4,a5,a6,_,a8⟩:=expV1_ok H h1 hv1
     obtain⟨c1,c2,c3,c4⟩:=expVL_ok H h2 hv2
     refine⟨fun hb=>?_,fun r hr=>?_,fun c hc=>?_,fun hle hm hno=>?_⟩
     ·rw[Bool.or_eq_false_iff]at hb;rw[a4 hb.1,c1 hb.2];rfl
     ·rcases List.mem_append.1 hr with h|h
      ·exact a5 r h
      ·exact c2 r h
     ·rcases List.mem_cons.1 hc with rfl|h
      ·exact a6
      ·exact c3 c h
     ·exact .cons (.leaf (a8 hle hm fun r hr=>hno r (List.mem_append_left _ hr))) (c4 hle hm fun r hr=>hno r (List.mem_append_right _ hr))
theorem ar_view {K':Nat→Prop} (H:RM B K' g R s.h w) {M k c ty:Nat} {a:AV} {v:Value} {x:Ex} (he:expArg cx s ty .view a=some x) (hv:XD (mkF B g w) g s.d a v):
  AR s B K g w M k c c [.view] [x.v] [v] x.rd x.up x.touch x.io x.lent [] [] [] x.rd []:=by
 by_cases ha:∃cs,a=.agg cs
 ·obtain⟨cs,rfl⟩:=ha
  simp only[expArg]at he
  cases h2:expVL s cs with
  |none=>rw[h2]at he;cases he
  |some q=>
   obtain⟨ys,r2,b2⟩:=q
   rw[h2]at he
   simp only[Option.some.injEq]at he
   subst he
   obtain⟨vs,rfl,hl⟩:=X_agg hv
   obtain⟨a1,a2,a3,a4⟩:=expVL_ok H h2 hl
   exact AR.plain a3 a2 a1 (fun h=>by cases h) fun E=>.agg (a4 E.le0 (fun _ _ _ h=>h) E.vws)
 ·have hna:nonAgg a=true:=by cases a<;>first|rfl|exact absurd ⟨_,rfl⟩ ha
  have e:expArg cx s ty .view a=expV1 s a:=by cases a<;>first|rfl|exact absurd ⟨_,rfl⟩ ha
  rw[e]at he
  have hnt:nonTup a=true:=by cases a<;>first|rfl|simp[expV1,oops]at he
  rcases cell_RT hna hnt hv with rfl|hr
  ·simp only[expV1,Option.some.injEq]at he
   subst he
   exact AR.plain (fun x hx=>by simp[cells]at hx;subst hx;rfl) (fun r hr=>(List.not_mem_nil hr).elim) (fun _=>rfl) (fun h=>by cases h) fun _=>.un
  ·obtain⟨a1,a2,a3,a4,a5,a6,a7,a8⟩:=expV1_ok H he hr
   rw[a1,a2,a3]
   refine AR.plain (fun y hy=>?_) a5 a4 (fun h=>by cases h) fun E=>.c (.leaf (a8 E.le0 (fun _ _ _ h=>h) E.vws))
   rw[cells_nonAgg a7,List.mem_singleton]at hy
   subst hy;exact a6
end Go.Am
end
section
namespace Go.Am
open Go.RowKit Go.Lib
variable {P:Program} {cx:Cx} {B B0 B1:Base} {K:Nat→Prop} {g g' g0 g1 g2:Gh} {R R' R0 R1 R2:Nat→Value} {s:St} {h h' h0 h1 h2:Hp} {w w':World} {F F':Fz}
theorem off1_0 (c:Nat) (y:AV):off1 c y=(off1 0 y).map fun x=>(x.1+c,x.2):=by have:=off1_shift y 0 c;rwa [Nat.zero_add]at this
theorem ar_move {M k c ty:Nat} {a:AV} {v:Value} {x:Ex} (hal:s.alias=false) (hfr:∀n,M≤n→hget s.h n=none∧¬K n) (he:expArg cx s ty .move a=some x) (hv:XD (mkF B g w) g s.d a v):
  ∃c' ts mv,AR s B K g w M k c c' [.move] [x.v] [v] x.rd x.up x.touch x.io x.lent ts mv [] [] []:=by
 simp only[expArg]at he
 cases h2:absorbE s a with
 |none=>rw[h2]at he;cases he
 |some q=>
  obtain⟨y,rs,us⟩:=q
  rw[h2]at he
  simp only[Option.some.injEq]at he
  subst he
  obtain⟨ts,T,hgot⟩:=tk_elem (k:=c) hal hfr h2 hv
  obtain⟨o1,o2⟩:=off1_rng (a:=y) (k:=0)
  have hmem:∀t∈ts,t.us≠[]→∃q∈off1 0 y,t.N=M+c+q.1∧t.x=q.2:=by
   intro t ht hu
   obtain⟨p,hp,e1,e2⟩:=T.mem ht hu
   rw[off1_0,List.mem_map]at hp
   obtain⟨q,hq,rfl⟩:=hp
   exact⟨q,hq,by simp only at e1;omega,e2⟩
  have hback:∀q∈off1 0 y,∃t∈ts,t.us≠[]∧t.N=M+c+q.1∧t.x=q.2:=by
   intro q hq
   obtain⟨t,ht,a1,a2,a3⟩:=T.back (p:=(q.1+c,q.2)) (by rw[off1_0,List.mem_map];exact⟨q,hq,rfl⟩)
   exact⟨t,ht,a1,by simp only at a2;omega,a3⟩
  refine⟨c+(cells y).length,ts,(off1 0 y).map fun p=>(eb k y+p.1,p.2,M+c+p.1),rfl,by omega,⟨T.ups,T.ok⟩,T.dist (off1_rng (a:=y) (k:=c)).2,fun t ht hu=>?_,fun t ht hu=>?_,fun m hm=>?_,?_,?_,?_,⟨(off1 0 y).map fun p=>(eb k y+p.1,p.2),?_,?_⟩,rfl,?_,fun h=>?_,rfl,?_,?_,?_,fun u hu=>?_,fun _=>rfl,?_,?_,fun E=>?_⟩
  ·obtain⟨q,hq,e1,_⟩:=hmem t ht hu
   have:=o1 q hq;omega
  ·obtain⟨q,hq,e1,_⟩:=hmem t ht hu
   exact .inl ⟨_,List.mem_map.2 ⟨q,hq,rfl⟩,e1.symm⟩
  ·obtain⟨q,hq,rfl⟩:=List.mem_map.1 hm
   have:=o1 q hq
   obtain⟨t,ht,a1,a2,a3⟩:=hback q hq
   exact⟨by simp only;omega,by simp only;omega,t,ht,a1,a2,a3⟩
  ·intro N hN;exact(List.not_mem_nil hN).elim
  ·intro N hN;exact(List.not_mem_nil hN).elim
  ·rw[List.pairwise_map];exact o2.imp fun h=>by simp only;omega
  ·simp only[entryL,entry_up,List.append_nil,List.map_map];rfl
  ·simp only[List.map_map,List.map_nil,List.append_nil];exact .refl _
  ·intro t ht;exact(List.not_mem_nil ht).elim
  ·simp only[List.singleton_append,IoOut]at h
   rw[if_neg (fun hc=>by cases hc.1)]at h
   exact⟨[],_,rfl,.nil,h⟩
  ·intro t ht;exact(List.not_mem_nil ht).elim
  ·intro t ht;exact(List.not_mem_nil ht).elim
  ·intro t ht;exact(List.not_mem_nil ht).elim
  ·simp only at hu
   rw[←T.ups]at hu
   obtain⟨t,ht,hu2⟩:=List.mem_flatMap.1 hu
   obtain⟨pl,e,hr⟩:=T.rds t ht u hu2
   refine⟨⟨pl,e⟩,?_,⟨pl,true⟩,hr,?_⟩
   ·simp only[List.mem_map];exact⟨u,by rw[←T.ups];exact hu,rfl⟩
   ·rw[e,gone_pl]
  ·intro p hp r hr;exact(List.not_mem_nil hr).elim
  ·intro u hu t ht;exact(List.not_mem_nil ht).elim
  ·refine .cons ?_ .nil
   refine entry_ok E.rm0 ?_
   refine RVE.mv (N:=M+c) (N':=eb k y) (k:=0) E.le2 (hgot E.got) fun x hx _=>?_
   exact E.mvs _ (List.mem_map.2 ⟨x,hx,rfl⟩)
theorem frz_node (a:AV):isNode (frz 0 a)=false:=by cases a<;>rfl
theorem frz_leaf {F:Fz} {c:AV} {v:Value} (h:RF F c v):frz 0 c=c:=by cases h<;>rfl
theorem frz_RV1 (H:RM B K g R h w) {F:Fz} (hle:(mkF B g w).le F) (hm:∀b o y,(mkF B g w).m b o=some y→F.m b o=some y) {N:Nat} {c:AV} {v:Value} (h0:RV1 (mkF B g w) R h N c v) (hno:isNode c=true→∀q n,g N q=some n→∀o,n.has n.b o→F.no 0 n.b o):RF F (frz 0 c) v:=by
 cases h0 with
 |leaf hf=>rw[frz_leaf hf];exact hf.mono hle
 |node hn hh hv=>
  have ht:=H.tree N c hh
  rw[←hv]
  exact frz_RF (lab:=0) (F1:=F) (by decide) ht (fun p n hp o ho=>hno hn p n hp o ho) (fun p n o x _ _ hx=>hm _ _ _ hx) (fun c u hf=>hf.mono hle) _ c [] _ (Nat.lt_succ_self _) rfl ht.root
theorem frz_RVL (H:RM B K g R h w) {F:Fz} (hle:(mkF B g w).le F) (hm:∀b o y,(mkF B g w).m b o=some y→F.m b o=some y) {R0:Nat→Value} {h0:Hp} {N N':Nat}:∀{l:List AV} {vs:List Value} {k:Nat},RVL (mkF B g w) R h (N+k) l vs→
  (∀p∈offL k l,∀q n,g (N+p.1) q=some n→∀o,n.has n.b o→F.no 0 n.b o)→RVL F R0 h0 (N'+k) (frzL 0 l) vs
 |_,_,k,.nil,_=>.nil
 |_,_,k,.cons (c:=c) (l:=l) a t,hno=>by
  simp only[frzL]
  refine .cons (.leaf (frz_RV1 H hle hm a fun hn q n hq=>hno (k,c) ?_ q n hq)) (frz_RVL (k:=k+1) H hle hm t fun p hp=>hno p ?_)
  ·simp only[offL];rw[if_pos hn];exact List.mem_cons_self
  ·simp only[offL];split
   ·exact List.mem_cons_of_mem _ hp
   ·exact hp
theorem frz_RVE (H:RM B K g R h w) {F:Fz} (hle:(mkF B g w).le F) (hm:∀b o y,(mkF B g w).m b o=some y→F.m b o=some y) {R0:Nat→Value} {h0:Hp} {N N' k:Nat} {a:AV} {v:Value} (hr:RVE (mkF B g w) R h (N+k) a v)
  (hno:∀p∈off1 k a,∀q n,g (N+p.1) q=some n→∀o,n.has n.b o→F.no 0 n.b o):RVE F R0 h0 N' (frz 0 a) v:=by
 cases hr with
 |un=>exact .un
 |c a1=>
  refine .c (.leaf (frz_RV1 H hle hm a1 fun hn q n hq=>hno (k,a) ?_ q n hq))
  cases a<;>simp[isNode]at hn<;>simp[off1,offL,isNode]
 |agg a1=>simp only[frz];exact .agg (frz_RVL (N':=N') (k:=0) (N:=N+k) H hle hm a1 fun p hp q n hq=>hno (p.1+k,p.2) (by
   simp only[off1];have:=offL_shift ‹List AV› 0 k;rw[Nat.zero_add]at this;rw[this];exact List.mem_map.2 ⟨p,hp,rfl⟩) q n (by rw[show N+(p.1+k)=N+k+p.1 by omega];exact hq))
theorem ar_give {M k c ty:Nat} {a:AV} {v:Value} {x:Ex} (hal:s.alias=false) (hfr:∀n,M≤n→hget s.h n=none∧¬K n) (he:expArg cx s ty .give a=some x) (hv:XD (mkF B g w) g s.d a v):
  ∃c' ts gv,AR s B K g w M k c c' [.give] [x.v] [v] x.rd x.up x.touch x.io x.lent ts [] gv [] []:=by
 simp only[expArg]at he
 cases h2:absorbE s a with
 |none=>rw[h2]at he;cases he
 |some q=>
  obtain⟨y,rs,us⟩:=q
  rw[h2]at he
  simp only[Option.some.injEq]at he
  subst he
  obtain⟨ts,T,hgot⟩:=tk_elem (k:=c) hal hfr h2 hv
  obtain⟨o1,o2⟩:=off1_rng (a:=y) (k:=0)
  have hmem:∀t∈ts,t.us≠[]→∃q∈off1 0 y,t.N=M+c+q.1∧t.x=q.2:=by
   intro t ht hu
   obtain⟨p,hp,e1,e2⟩:=T.mem ht hu
   rw[off1_0,List.mem_map]at hp
   obtain⟨q,hq,rfl⟩:=hp
   exact⟨q,hq,by simp only at e1;omega,e2⟩
  have hoff:off1 0 (frz 0 y)=[]:=noNode_off fun z hz=>by
   rw[cells_frz]at hz
   obtain⟨i,hi⟩:=List.getElem?_of_mem hz
   rw[frzL_get]at hi
   cases hy:(cells y)[i]? with
   |none=>rw[hy]at hi;cases hi
   |some z0=>rw[hy]at hi;simp only[Option.map_some,Option.some.injEq]at hi;rw[←hi];exact frz_node z0
  refine⟨c+(cells y).length,ts,(off1 0 y).map fun p=>M+c+p.1,rfl,by omega,⟨T.ups,T.ok⟩,T.dist (off1_rng (a:=y) (k:=c)).2,fun t ht hu=>?_,fun t ht hu=>?_,?_,fun N hN=>?_,?_,.nil,⟨[],?_,.nil⟩,rfl,?_,fun h=>?_,rfl,?_,?_,?_,fun u hu=>?_,fun _=>rfl,?_,?_,fun E=>?_⟩
  ·obtain⟨q,hq,e1,_⟩:=hmem t ht hu
   have:=o1 q hq;omega
  ·obtain⟨q,hq,e1,_⟩:=hmem t ht hu
   exact .inr (List.mem_map.2 ⟨q,hq,e1.symm⟩)
  ·intro m hm;exact(List.not_mem_nil hm).elim
  ·obtain⟨q,hq,rfl⟩:=List.mem_map.1 hN
   have:=o1 q hq
   exact⟨by omega,by omega⟩
  ·intro N hN m hm;exact(List.not_mem_nil hm).elim
  ·simp only[entryL,entry_up,hoff];rfl
  ·intro t ht;exact(List.not_mem_nil ht).elim
  ·simp only[List.singleton_append,IoOut]at h
   rw[if_neg (fun hc=>by cases hc.1)]at h
   exact⟨[],_,rfl,.nil,h⟩
  ·intro t ht;exact(List.not_mem_nil ht).elim
  ·intro t ht;exact(List.not_mem_nil ht).elim
  ·intro t ht;exact(List.not_mem_nil ht).elim
  ·simp only at hu
   rw[←T.ups]at hu
   obtain⟨t,ht,hu2⟩:=List.mem_flatMap.1 hu
   obtain⟨pl,e,hr⟩:=T.rds t ht u hu2
   refine⟨⟨pl,e⟩,?_,⟨pl,true⟩,hr,?_⟩
   ·simp only[List.mem_map];exact⟨u,by rw[←T.ups];exact hu,rfl⟩
   ·rw[e,gone_pl]
  ·intro p hp r hr;exact(List.not_mem_nil hr).elim
  ·intro u hu t ht;exact(List.not_mem_nil ht).elim
  ·refine .cons ?_ .nil
   refine entry_ok E.rm0 ?_
   obtain⟨K',rm2⟩:=E.rm2
   exact frz_RVE (N:=M+c) (k:=0) rm2 E.le2 (fun _ _ _ h=>h) (hgot E.got) fun p hp q n hq=>E.gvs _ (List.mem_map.2 ⟨p,hp,rfl⟩) q n hq
theorem cellPls_get {pl:Pl} {i:Nat}:∀{n off j:Nat},j<n→(cellPls pl i off n)[j]?=some (pl.cell i (off+j))
 |n+1,off,0,_=>by simp[cellPls]
 |n+1,off,j+1,h=>by
  simp only[cellPls,List.getElem?_cons_succ]
  rw[cellPls_get (by omega),show off+1+j=off+(j+1)by omega]
theorem cellPls_len {pl:Pl} {i:Nat}:∀{n off:Nat},(cellPls pl i off n).length=n
 |0,_=>rfl
 |n+1,off=>by simp only[cellPls,List.length_cons,cellPls_len]
theorem lookL_get:∀{ps:List Pl} {cs:List AV},lookL s ps=some cs→cs.length=ps.length∧∀(j:Nat) (p:Pl),ps[j]?=some p→∃c,cs[j]?=some c∧look s true p=some c
 |[],cs,h=>by simp only[lookL,Option.some.injEq]at h;subst h;exact⟨rfl,fun j p hp=>by simp at hp⟩
 |p::ps,cs,h=>by
  simp only[lookL]at h
  cases h1:look s true p with
  |none=>rw[h1]at h;cases h
  |some c=>
   rw[h1]at h
   simp only at h
   cases h2:lookL s ps with
   |none=>rw[h2]at h;cases h
   |some l=>
    rw[h2]at h
    simp only[Option.some.injEq]at h
    subst h
    obtain⟨a1,a2⟩:=lookL_get h2
    refine⟨by simp[a1],fun j q hq=>?_⟩
    cases j with
    |zero=>simp at hq;subst hq;exact⟨c,rfl,h1⟩
    |succ j=>exact a2 j q (by simpa using hq)
theorem AR.io1 {M k c:Nat} {t:IoSpec} {rd:List Rd} (hk:t.κ=k) (hok:t.ok s B g w) (hrd:∀p∈t.tc,∃r∈rd,r.pl=p):AR s B K g w M k c c [.io] [t.a] [t.v] rd [] t.tc [t.iop] false [] [] [] [] [t]:=by
 have hn:=hok.node
 refine⟨rfl,Nat.le_refl _,⟨rfl,?_⟩,.nil,?_,?_,?_,?_,?_,.nil,⟨[(k,t.a)],?_,?_⟩,rfl,fun t' ht'=>?_,fun h=>?_,rfl,fun t' ht'=>?_,fun t' ht' p hp=>?_,?_,?_,fun _=>rfl,?_,?_,fun E=>?_⟩
 all_goals (first|(intro x hx;exact(List.not_mem_nil hx).elim)|skip)
 ·simp only[entryL,entry_up,List.append_nil]
  have:off1 0 t.a=[(0,t.a)]∧eb k t.a=k:=by
   cases ha:t.a<;>rw[ha]at hn<;>first|(cases hn;done)|exact⟨rfl,rfl⟩
  rw[this.1,this.2];rfl
 ·simp only[List.map_nil,List.nil_append,List.map_cons,hk];exact .refl _
 ·rw[List.mem_singleton]at ht';subst ht';simp only[List.length_singleton];omega
 ·simp only[List.singleton_append,IoOut]at h
  rw[if_pos ⟨trivial,hn⟩]at h
  obtain⟨o,os,rfl,h2,h3,h4,h5⟩:=h
  subst hk
  exact⟨[o],os,rfl,.cons h2 h3 h4 .nil,h5⟩
 ·rw[List.mem_singleton]at ht';subst ht';exact hok
 ·rw[List.mem_singleton]at ht';subst ht';exact⟨hp,hrd p hp⟩
 ·intro p hp r hr;exact(List.not_mem_nil hr).elim
 ·refine .cons ?_ .nil
  obtain⟨e1,e2⟩:=E.ios t (List.mem_singleton.2 rfl)
  refine entry_ok E.rm0 ?_
  have:eb k t.a=k:=by cases ha:t.a<;>rw[ha]at hn<;>first|(cases hn;done)|rfl
  rw[this]
  exact .c (.node hn (hk▸e1) (hk▸e2))
theorem ar_io (H:RM B (Kd s.d) g R s.h w) {M k c ty:Nat} {a:AV} {v:Value} {x:Ex} (he:expArg cx s ty .io a=some x) (hv:XD (mkF B g w) g s.d a v):
  ∃io,AR s B K g w M k c c [.io] [x.v] [v] x.rd x.up x.touch x.io x.lent [] [] [] [] io:=by
 cases a with
 |ptr pl i off=>
  simp only[expArg]at he
  split at he
  ·rename_i ty' hk
   split at he
   ·cases he
   ·rename_i ti hti
    split at he
    ·rename_i cs hl
     split at he
     ·cases he
     ·rename_i hne
      split at he
      ·rename_i e hmk
       simp only[Option.some.injEq]at he
       subst he
       obtain⟨l1,l2⟩:=lookL_get hl
       rw[cellPls_len]at l1
       have hpos:0<cs.length:=by
        cases cs with
        |nil=>simp at hne
        |cons _ _=>simp
       have hcs:∀j c,cs[j]?=some c→getP s.h (pl.cell i (off+j))=some c∧okD s.d (pl.cell i (off+j)):=by
        intro j c' hj
        have hlt:=(List.getElem?_eq_some_iff.1 hj).1
        obtain⟨c2,e1,e2⟩:=l2 j _ (cellPls_get (pl:=pl) (i:=i) (off:=off) (by omega:j<ti.size))
        rw[hj]at e1;cases e1
        exact⟨(look_some e2).2,okD_of_look e2⟩
       have h00:=hcs 0 cs[0] (List.getElem?_eq_getElem hpos)
       have ho:okD s.d pl:=okD_cell h00.2
       obtain⟨n,f1,f2,rfl⟩:=X_ptr hv ho
       have hce:cells e=cs:=by
        rcases mkVal_some hmk with⟨_,rfl⟩|⟨_,hc1⟩
        ·rfl
        ·have hc2:cs[0]?=some e:=by rw[hc1];rfl
         obtain⟨n',u,_,_,_,_,_,hlf⟩:=cell_at H (hcs 0 e hc2).1
         have:nonAgg e=true:=by cases e<;>first|rfl|(obtain⟨_,hx⟩:=hlf;cases hx)
         rw[cells_nonAgg this,hc1]
       have V:=row_ptr H hpos f1 f2 (fun j c hj=>(hcs j c hj).1) hce
       have hok:IoSpec.ok ⟨k,pl,n,⟨n.b,n.o+i*n.sz+off,cs.length,1,false⟩,(fun t=>if t.1=0∧t.2<cs.length then some (i,off+t.2)else none),.bx e,.pointer (some ⟨n.b,n.o+i*n.sz+off,none⟩),cellPls pl i off ti.size,.cells (cellPls pl i off ti.size)⟩ s B g w:=by
        refine⟨V,?_,rfl,?_,fun p hp=>?_,fun tt t' ht=>?_,.inl ⟨i,off,e,?_,rfl,?_⟩⟩
        ·intro F ob G
         refine⟨_,rfl,rfl,by rw[hce],rfl,rfl⟩
        ·intro hx
         have:(cellPls pl i off ti.size).length=0:=by have:=congrArg List.length hx;exact this
         rw[cellPls_len]at this;omega
        ·obtain⟨j,hj⟩:=List.getElem?_of_mem hp
         have hlt:=(List.getElem?_eq_some_iff.1 hj).1
         rw[cellPls_len]at hlt
         rw[cellPls_get hlt]at hj
         simp only[Option.some.injEq]at hj
         rw[←hj];exact pre_cell pl i (off+j)
        ·simp only at ht
         split at ht
         ·rename_i hc
          cases ht
          refine⟨pl.cell i (off+tt.2),List.mem_of_getElem? (cellPls_get (by omega:tt.2<ti.size)),Pl.pre_self _⟩
         ·cases ht
        ·simp only[hce,l1]
        ·simp only[hce]
       exact⟨[_],AR.io1 rfl hok fun p hp=>⟨⟨p,true⟩,List.mem_map.2 ⟨p,hp,rfl⟩,rfl⟩⟩
      ·cases he
    ·cases he
  ·cases he
 |rf sz pl off len=>
  simp only[expArg]at he
  split at he
  ·rename_i sz' es hl
   split at he
   ·rename_i hz
    simp only[Option.some.injEq]at he
    subst he
    obtain⟨rfl,rfl,rfl⟩:=hz
    have ho:=okD_of_look hl
    obtain⟨cap,kk,n,f1,f2,f3,f4,f5,f6,rfl⟩:=X_rf hv ho
    have hp:=(look_some hl).2
    obtain⟨u,hlf⟩:=node_at H hp
    obtain⟨m,g1',g2',g3',g4',g5',g6'⟩:=hlf
    rw[f1]at g1';cases g1'
    have V:=row_slice (h:=s.h) f1 f2 f3 f4 f5 f6 hp g6'
    have hok:IoSpec.ok ⟨k,pl,n,cutN n kk cap,(fun t=>if t.1<es.length∧t.2<sz' then some t else none),.ow sz' es,.slice (some ⟨n.b,n.o+kk*n.sz,none⟩) es.length cap,[pl],.node pl sz' es.length⟩ s B g w:=by
     refine⟨V,?_,rfl,by simp,fun p hp=>?_,fun tt t' ht=>⟨pl,List.mem_singleton.2 rfl,pre_cell _ _ _⟩,.inr ⟨sz',es,rfl,rfl,rfl⟩⟩
     ·intro F ob G
      exact⟨_,rfl,f2,f3,f5,rfl,g6'⟩
     ·rw[List.mem_singleton]at hp;subst hp;exact Pl.pre_self _
    exact⟨[_],AR.io1 rfl hok fun p hp=>⟨⟨pl,true⟩,List.mem_singleton.2 rfl,(List.mem_singleton.1 hp).symm⟩⟩
   ·cases he
  ·cases he
 |fz l z es=>
  have:x={v:=.fz l z es}:=by
   match l,he with
   |1,he=>simp only[expArg,Option.some.injEq]at he;exact he.symm
   |0,he=>simp[expArg,oops]at he
   |l+2,he=>simp[expArg,oops]at he
  subst this
  refine⟨[],AR.plain (fun y hy=>by simp[cells]at hy;subst hy;rfl) (fun r hr=>(List.not_mem_nil hr).elim) (fun _=>rfl) (fun _=>rfl) fun E=>.c (.leaf ?_)⟩
  have:=X_plain hv rfl rfl (by intro h;cases h) (by intro pl h;cases h)
  cases this with
  |f h=>exact h.mono E.le0
 |_=>simp[expArg,oops]at he
theorem args_ar (H:RM B (Kd s.d) g R s.h w) (hal:s.alias=false) {M:Nat} (hfr:∀n,M≤n→hget s.h n=none∧¬K n):∀{tys:List Nat} {ms:List Md} {l:List AV} {vs:List Value} {k c:Nat} {x:Exs},expArgs cx s tys ms l=some x→XDs (mkF B g w) g s.d l vs→
  ∃c' ts mv gv vw io,AR s B K g w M k c c' (ms.take l.length) x.vs vs x.rd x.up x.touch x.io x.lent ts mv gv vw io:=by
 have nil:∀{vs:List Value} {k c:Nat} {x:Exs},some ({}:Exs)=some x→XDs (mkF B g w) g s.d [] vs→∃c' ts mv gv vw io,AR s B K g w M k c c' [] x.vs vs x.rd x.up x.touch x.io x.lent ts mv gv vw io:=by
  intro vs k c x h hv
  cases h;cases hv
  exact⟨c,[],[],[],[],[],.nil⟩
 intro tys ms l
 induction l generalizing tys ms with
 |nil=>
  intro vs k c x h hv
  rw[List.length_nil,List.take_zero]
  refine nil ?_ hv
  cases tys<;>cases ms<;>exact h
 |cons a l ih=>
  intro vs k c x h hv
  cases tys with
  |nil=>cases ms<;>simp[expArgs,oops]at h
  |cons ty tys=>
   cases ms with
   |nil=>simp[expArgs,oops]at h
   |cons m ms=>
    simp only[expArgs]at h
    cases h1:expArg cx s ty m a with
    |none=>rw[h1]at h;cases h
    |some y=>
     rw[h1]at h
     simp only at h
     cases h2:expArgs cx s tys ms l with
     |none=>rw[h2]at h;cases h
     |some r=>
      rw[h2]at h
      simp only at h
      split at h
      ·cases h
      ·rename_i ht
       simp only[Option.some.injEq]at h
       subst h
       rw[Bool.or_eq_true,not_or,Bool.not_eq_true,Bool.not_eq_true]at ht
       cases hv with
       |@cons _ v _ _ hv1 hv2=>
        have first:∃c' ts mv gv vw io,AR s B K g w M k c c' [m] [y.v] [v] y.rd y.up y.touch y.io y.lent ts mv gv vw io:=by
         cases m with
         |view=>exact⟨c,[],[],[],_,[],ar_view H h1 hv1⟩
         |move=>obtain⟨c',ts,mv,hh⟩:=ar_move (k:=k) (c:=c) hal hfr h1 hv1;exact⟨c',ts,mv,[],[],[],hh⟩
         |give=>obtain⟨c',ts,gv,hh⟩:=ar_give (k:=k) (c:=c) hal hfr h1 hv1;exact⟨c',ts,[],gv,[],[],hh⟩
         |io=>obtain⟨io,hh⟩:=ar_io (M:=M) (k:=k) (c:=c) H h1 hv1;exact⟨c,[],[],[],[],io,hh⟩
        obtain⟨c1,ts,mv,gv,vw,io,A1⟩:=first
        obtain⟨c2,ts',mv',gv',vw',io',A2⟩:=ih (k:=k+1) (c:=c1) h2 hv2
        exact⟨c2,_,_,_,_,_,A1.append A2 ht.1 ht.2⟩
end Go.Am
end
section
namespace Go.Am
open Go.RowKit Go.Lib
variable {P:Program} {cx:Cx} {B B0 B1:Base} {K:Nat→Prop} {g g' g0 g1 g2:Gh} {R R' R0 R1 R2:Nat→Value} {s:St} {h h' h0 h1 h2:Hp} {w w':World} {F F':Fz}
theorem hget_news:∀{E:List (Nat×AV)} {h:Hp},(E.Pairwise fun x y=>x.1≠y.1)→∀r,(∀a,(r,a)∈E→hget (Up.apps (E.map fun p=>Up.new p.1 p.2) h) r=some a)∧((∀a,(r,a) ∉ E)→hget (Up.apps (E.map fun p=>Up.new p.1 p.2) h) r=hget h r)
 |[],h,_,r=>⟨fun a ha=>(List.not_mem_nil ha).elim,fun _=>rfl⟩
 |(k,b)::E,h,hp,r=>by
  obtain⟨p1,p2⟩:=List.pairwise_cons.1 hp
  obtain⟨a1,a2⟩:=hget_news (E:=E) (h:=hins h k b) p2 r
  simp only[List.map_cons,Up.apps,Up.app]
  refine⟨fun a ha=>?_,fun hn=>?_⟩
  ·rcases List.mem_cons.1 ha with e|ha
   ·cases e
    rw[a2 fun a' ha'=>p1 _ ha' rfl,hget_hins,if_pos rfl]
   ·exact a1 a ha
  ·rw[a2 fun a ha=>hn a (List.mem_cons_of_mem _ ha),hget_hins,if_neg]
   rintro rfl
   exact hn b List.mem_cons_self
def lookK {α:Type} (L:List (Nat×α)) (r:Nat):Option α:=(L.find? fun x=>x.1==r).map (·.2)
theorem lookK_mem {α:Type} {L:List (Nat×α)} {r:Nat} {y:α} (h:lookK L r=some y):(r,y)∈L:=by
 unfold lookK at h
 cases hf:L.find? fun x=>x.1==r with
 |none=>rw[hf]at h;cases h
 |some x=>
  rw[hf]at h
  simp only[Option.map_some,Option.some.injEq]at h
  have h1:=List.mem_of_find?_eq_some hf
  have h2:=List.find?_some hf
  simp only[beq_iff_eq]at h2
  rw[←h2,←h];exact h1
theorem lookK_of {α:Type} {L:List (Nat×α)} (hp:L.Pairwise fun x y=>x.1≠y.1) {x:Nat×α} (hx:x∈L):lookK L x.1=some x.2:=by
 unfold lookK
 induction L with
 |nil=>cases hx
 |cons z L ih=>
  obtain⟨p1,p2⟩:=List.pairwise_cons.1 hp
  simp only[List.find?_cons]
  rcases List.mem_cons.1 hx with rfl|hx
  ·simp
  ·have:(z.1==x.1)=false:=by simpa using p1 x hx
   rw[this];exact ih p2 hx
theorem lookK_none {α:Type} {L:List (Nat×α)} {r:Nat} (h:∀y,(r,y) ∉ L):lookK L r=none:=by
 cases hl:lookK L r with
 |none=>rfl
 |some y=>exact absurd (lookK_mem hl) (h y)
def setsOf (pl:Pl) (W:List ((Nat×Nat)×AV)):List Up:=W.map fun x=>.set (pl.cell x.1.1 x.1.2) x.2
theorem attaches_ok {pl:Pl} {n:Nd}:∀{W:List (((Nat×Nat)×AV)×Nat)} {g:Gh} {h:Hp},RM B K g R h w→g pl.r pl.p=some n→(∀x∈W,(∃old,getP h (pl.cell x.1.1.1 x.1.1.2)=some old)∧hget h x.2=some x.1.2∧nonAgg x.1.2=true∧x.2≠pl.r∧w.cell? ⟨n.b,n.o+x.1.1.1*n.sz+x.1.1.2,none⟩=some (R x.2))→
  (W.Pairwise fun x y=>x.2≠y.2)→(W.Pairwise fun x y=>x.1.1≠y.1.1)→
  ∃g' h',RM B K g' R h' w∧(∀r,(∀x∈W,x.2≠r)→hget h' r=hget (Up.apps (setsOf pl (W.map (·.1))) h) r)∧(∀x∈W,hget h' x.2=none)∧(∀b o,owned g' b o→owned g b o)∧
   (∀q m,(∀x∈W,x.2≠q.r)→(∀x∈W,(pl.cell x.1.1.1 x.1.1.2).pre q=false)→g q.r q.p=some m→g' q.r q.p=some m)
 |[],g,h,H,_,_,_,_=>⟨g,h,H,fun _ _=>rfl,fun x hx=>(List.not_mem_nil hx).elim,fun _ _ hx=>hx,fun _ _ _ _ hm=>hm⟩
 |x::W,g,h,H,hn,hW,hp,hp'=>by
  obtain⟨p1,p2⟩:=List.pairwise_cons.1 hp
  obtain⟨p1',p2'⟩:=List.pairwise_cons.1 hp'
  obtain⟨⟨old,ho⟩,w1,w2,w3,w4⟩:=hW x List.mem_cons_self
  obtain⟨a,ha,hpp⟩:=getP_some ho
  have r1:=H.attach (r:=pl.r) (s:=x.2) (c:=x.1.2) (i:=x.1.1.1) (j:=x.1.1.2) ha hpp w1 w3 w2 hn w4
  have e1:Up.app h (.set (pl.cell x.1.1.1 x.1.1.2) x.1.2)=hins h pl.r (setT a (pl.p++[(x.1.1.1,x.1.1.2)]) x.1.2):=by
   simp only[Up.app,ha];rfl
  have hn':attG g pl.r (pl.p++[(x.1.1.1,x.1.1.2)]) x.2 pl.r pl.p=some n:=by
   unfold attG
   rw[if_neg (fun e=>w3 e.symm),if_neg]
   ·exact hn
   ·rintro ⟨_,e⟩
    obtain⟨z,hz⟩:=pre_iff.1 e
    have:=congrArg List.length hz
    simp at this
  have hh:∀r,hget (hdel (hins h pl.r (setT a (pl.p++[(x.1.1.1,x.1.1.2)]) x.1.2)) x.2) r=if r=x.2 then none else hget (Up.app h (.set (pl.cell x.1.1.1 x.1.1.2) x.1.2)) r:=by
   intro r;rw[hget_hdel,e1]
  obtain⟨g',h',a1,a2,a3,a4,a5⟩:=attaches_ok (W:=W) r1 hn' (fun y hy=>by
   obtain⟨⟨o',ho'⟩,b1,b2,b3,b4⟩:=hW y (List.mem_cons_of_mem _ hy)
   have hne:=p1 y hy
   refine⟨?_,?_,b2,b3,b4⟩
   ·have hg:=getP_write (h:=h) (par:=pl) (i:=x.1.1.1) (j:=x.1.1.2) (i':=y.1.1.1) (j':=y.1.1.2) (x:=x.1.2) w2 ho ⟨o',ho'⟩
    obtain⟨c',hc'⟩:=hg
    refine⟨c',?_⟩
    unfold getP at hc' ⊢
    rw[show(pl.cell y.1.1.1 y.1.1.2).r=pl.r from rfl]at hc' ⊢
    rw[hh,if_neg (fun e=>w3 e.symm)];exact hc'
   ·rw[hh,if_neg (fun e=>hne e.symm),e1,hget_hins,if_neg b3];exact b1) p2 p2'
  refine⟨g',h',a1,fun r hr=>?_,fun y hy=>?_,fun b o hx=>owned_att (a4 b o hx),fun q m hq hq2 hm=>?_⟩
  ·rw[a2 r fun y hy=>hr y (List.mem_cons_of_mem _ hy)]
   simp only[setsOf,List.map_cons,Up.apps]
   refine apps_at _ ?_
   rw[hh,if_neg (fun e=>hr x List.mem_cons_self e.symm)]
  ·rcases List.mem_cons.1 hy with e0|hy
   ·rw[e0]
    by_cases hin:∃y∈W,y.2=x.2
    ·obtain⟨y,hy,e⟩:=hin;exact absurd e.symm (p1 y hy)
    ·rw[a2 _ fun y hy e=>hin ⟨y,hy,e⟩,hget_apps_ne,hh,if_pos rfl]
     intro u hu
     simp only[setsOf,List.mem_map]at hu
     obtain⟨z,_,rfl⟩:=hu
     exact fun e=>w3 e.symm
   ·exact a3 y hy
  ·refine a5 q m (fun y hy=>hq y (List.mem_cons_of_mem _ hy)) (fun y hy=>hq2 y (List.mem_cons_of_mem _ hy)) ?_
   unfold attG
   rw[if_neg (fun e=>hq x List.mem_cons_self e.symm),if_neg]
   ·exact hm
   ·rintro ⟨e2,e3⟩
    have:=hq2 x List.mem_cons_self
    simp only[Pl.pre,Pl.cell,e2,nbT,Bool.true_and]at this
    rw[e3]at this;cases this
def setW (i:Nat):Nat→List AV→List ((Nat×Nat)×AV)
 |_,[]=>[]
 |off,c::cs=>((i,off),c)::setW i (off+1) cs
def rowW:Nat→List AV→List ((Nat×Nat)×AV)
 |_,[]=>[]
 |i,e::es=>setW i 0 (cells e)++rowW (i+1) es
theorem setUps_eq {pl:Pl} {i:Nat}:∀{cs:List AV} {off:Nat},setUps pl i off cs=setsOf pl (setW i off cs)
 |[],_=>rfl
 |c::cs,off=>by simp only[setUps,setW,setsOf,List.map_cons];rw[setUps_eq];rfl
theorem rowUps_eq {pl:Pl}:∀{es:List AV} {i:Nat},rowUps pl i es=setsOf pl (rowW i es)
 |[],_=>rfl
 |e::es,i=>by simp only[rowUps,rowW,setsOf,List.map_append];rw[setUps_eq,rowUps_eq];rfl
theorem zip_eq {pl:Pl} {i:Nat}:∀{cs:List AV} {off:Nat},List.zipWith Up.set (cellPls pl i off cs.length) cs=setsOf pl (setW i off cs)
 |[],_=>rfl
 |c::cs,off=>by simp only[List.length_cons,cellPls,List.zipWith_cons_cons,setW,setsOf,List.map_cons];rw[zip_eq];rfl
theorem setW_mem {i:Nat}:∀{cs:List AV} {off:Nat} {x:(Nat×Nat)×AV},x∈setW i off cs↔∃j,x.1=(i,off+j)∧cs[j]?=some x.2
 |[],off,x=>by simp[setW]
 |c::cs,off,x=>by
  simp only[setW,List.mem_cons]
  rw[setW_mem]
  constructor
  ·rintro (rfl|⟨j,h1,h2⟩)
   ·exact⟨0,rfl,rfl⟩
   ·exact⟨j+1,by rw[h1];congr 1;omega,by simpa using h2⟩
  ·rintro ⟨j,h1,h2⟩
   cases j with
   |zero=>simp only[List.getElem?_cons_zero,Option.some.injEq]at h2;left;obtain⟨x1,x2⟩:=x;simp only at h1 h2;rw[h1,h2];rfl
   |succ j=>exact .inr ⟨j,by rw[h1];congr 1;omega,by simpa using h2⟩
theorem rowW_mem:∀{es:List AV} {i:Nat} {x:(Nat×Nat)×AV},x∈rowW i es↔∃k j e,x.1=(i+k,j)∧es[k]?=some e∧(cells e)[j]?=some x.2
 |[],i,x=>by simp[rowW]
 |e::es,i,x=>by
  simp only[rowW,List.mem_append]
  rw[setW_mem,rowW_mem]
  constructor
  ·rintro (⟨j,h1,h2⟩|⟨k,j,e',h1,h2,h3⟩)
   ·exact⟨0,j,e,by rw[h1];simp,rfl,h2⟩
   ·exact⟨k+1,j,e',by rw[h1];congr 1;omega,by simpa using h2,h3⟩
  ·rintro ⟨k,j,e',h1,h2,h3⟩
   cases k with
   |zero=>simp only[List.getElem?_cons_zero,Option.some.injEq]at h2;subst h2;exact .inl ⟨j,by rw[h1];simp,h3⟩
   |succ k=>exact .inr ⟨k,j,e',by rw[h1];congr 1;omega,by simpa using h2,h3⟩
theorem setW_pw {i:Nat}:∀{cs:List AV} {off:Nat},(setW i off cs).Pairwise fun x y=>x.1≠y.1
 |[],_=>.nil
 |c::cs,off=>by
  simp only[setW]
  refine List.pairwise_cons.2 ⟨fun y hy=>?_,setW_pw⟩
  obtain⟨j,h1,_⟩:=setW_mem.1 hy
  rw[h1]
  intro e
  simp only[Prod.mk.injEq,true_and]at e
  omega
theorem rowW_pw:∀{es:List AV} {i:Nat},(rowW i es).Pairwise fun x y=>x.1≠y.1
 |[],_=>.nil
 |e::es,i=>by
  simp only[rowW]
  refine List.pairwise_append.2 ⟨setW_pw,rowW_pw,fun x hx y hy=>?_⟩
  obtain⟨j,h1,_⟩:=setW_mem.1 hx
  obtain⟨k,j',_,h2,_⟩:=rowW_mem.1 hy
  rw[h1,h2]
  intro e
  simp only[Prod.mk.injEq]at e
  omega
theorem ioW {t:IoSpec} (hok:t.ok s B g w) {o:AV} {ius:List Up} (hi:ioUps [t.iop] [o]=some ius) (hsz:∀sz es,o=.ow sz es→∀e∈es,(cells e).length=sz):
  ∃W:List ((Nat×Nat)×((Nat×Nat)×AV)),ius=setsOf t.pl (W.map (·.2))∧(∀x∈W,t.μ x.1=some x.2.1∧step1 o x.1=some x.2.2)∧(∀a b,t.μ a=some b→∃c,(a,b,c)∈W)∧W.Pairwise (fun x y=>x.2.1≠y.2.1):=by
 rcases hok.kind with⟨i,off,e,h1,h2,h3⟩|⟨sz,es,h1,h2,h3⟩
 ·rw[h1]at hi
  cases o<;>simp only[ioUps,oops]at hi<;>try cases hi
  rename_i e'
  rw[cellPls_len]at hi
  split at hi
  ·rename_i hl
   simp only[Option.some.injEq,List.append_nil]at hi
   refine⟨(setW i off (cells e')).map fun x=>((0,x.1.2 - off),x.1,x.2),?_,fun x hx=>?_,fun a b hab=>?_,?_⟩
   ·rw[←hi,←hl,zip_eq,List.map_map]
    congr 1
    conv=>lhs;rw[←List.map_id (setW i off (cells e'))]
    exact List.map_congr_left fun x _=>rfl
   ·obtain⟨y,hy,rfl⟩:=List.mem_map.1 hx
    obtain⟨j,e1,e2⟩:=setW_mem.1 hy
    have hlt:=(List.getElem?_eq_some_iff.1 e2).1
    simp only[h3,e1,true_and]
    refine⟨by rw[if_pos (by omega)];congr 2;omega,?_⟩
    simp only[step1,if_true]
    rw[show off+j - off=j by omega];exact e2
   ·rw[h3]at hab
    simp only at hab
    split at hab
    ·rename_i hc
     cases hab
     obtain⟨a1,a2⟩:=a
     simp only at hc
     obtain⟨rfl,hlt⟩:=hc
     refine⟨(cells e')[a2],List.mem_map.2 ⟨((i,off+a2),(cells e')[a2]),setW_mem.2 ⟨a2,rfl,List.getElem?_eq_getElem (by omega)⟩,?_⟩⟩
     simp only[Prod.mk.injEq,and_true,true_and]
     omega
    ·cases hab
   ·rw[List.pairwise_map];exact setW_pw
  ·cases hi
 ·rw[h1]at hi
  cases o<;>simp only[ioUps,oops]at hi<;>try cases hi
  rename_i sz' es'
  split at hi
  ·rename_i hl
   obtain⟨rfl,hl⟩:=hl
   simp only[Option.some.injEq,List.append_nil]at hi
   have hcz:=hsz _ _ rfl
   refine⟨(rowW 0 es').map fun x=>(x.1,x.1,x.2),?_,fun x hx=>?_,fun a b hab=>?_,?_⟩
   ·rw[←hi,rowUps_eq,List.map_map]
    congr 1
    conv=>lhs;rw[←List.map_id (rowW 0 es')]
    exact List.map_congr_left fun x _=>rfl
   ·obtain⟨y,hy,rfl⟩:=List.mem_map.1 hx
    obtain⟨k,j,e',e1,e2,e3⟩:=rowW_mem.1 hy
    have hlt:=(List.getElem?_eq_some_iff.1 e2).1
    have hlt2:=(List.getElem?_eq_some_iff.1 e3).1
    rw[hcz e' (List.mem_of_getElem? e2)]at hlt2
    simp only[h3,e1,Nat.zero_add]
    refine⟨by rw[if_pos ⟨by omega,hlt2⟩],?_⟩
    simp only[step1,e2,Option.bind_some];exact e3
   ·rw[h3]at hab
    simp only at hab
    split at hab
    ·rename_i hc
     cases hab
     obtain⟨a1,a2⟩:=a
     simp only at hc
     have g1:es'[a1]?=some es'[a1]:=List.getElem?_eq_getElem (by omega)
     have g2:a2<(cells es'[a1]).length:=by rw[hcz _ (List.getElem_mem _)];exact hc.2
     exact⟨(cells es'[a1])[a2],List.mem_map.2 ⟨((a1,a2),(cells es'[a1])[a2]),rowW_mem.2 ⟨a1,a2,es'[a1],by simp,g1,List.getElem?_eq_getElem g2⟩,rfl⟩⟩
    ·cases hab
   ·rw[List.pairwise_map];exact rowW_pw
  ·cases hi
end Go.Am
end
section
namespace Go.Am
open Go.RowKit Go.Lib
variable {P:Program} {cx:Cx} {B B0 B1:Base} {K:Nat→Prop} {g g' g0 g1 g2 g3:Gh} {R R' R0 R1 R2:Nat→Value} {s:St} {h h' h0 h1 h2 h3:Hp} {w w':World} {F F':Fz}
theorem Fz.le.trans {F1 F2 F3:Fz} (h1:F1.le F2) (h2:F2.le F3):F1.le F3:=by
 refine⟨fun b o v hm hn=>h2.m b o v (h1.m b o v hm hn) (h1.N b o v hm hn),fun b o v hm hn=>h2.N b o v (h1.m b o v hm hn) (h1.N b o v hm hn),fun b o v hm hn=>?_,h1.sub⟩
 have hn':¬F1.N b o:=fun hx=>hn (h1.sub b o hx)
 exact h2.N0 b o v (h1.m b o v hm hn') (h1.N0 b o v hm hn)
theorem pw_eq {α:Type} {f:α→Nat}:∀{l:List α},(l.Pairwise fun x y=>f x≠f y)→∀x∈l,∀y∈l,f x=f y→x=y
 |[],_,x,hx,_,_,_=>(List.not_mem_nil hx).elim
 |z::l,hp,x,hx,y,hy,e=>by
  obtain⟨p1,p2⟩:=List.pairwise_cons.1 hp
  rcases List.mem_cons.1 hx with ex|hx<;>rcases List.mem_cons.1 hy with ey|hy
  ·rw[ex,ey]
  ·rw[ex]at e;exact absurd e (p1 y hy)
  ·rw[ey]at e;exact absurd e.symm (p1 x hx)
  ·exact pw_eq p2 x hx y hy e
theorem news_keys:∀{E:List (Nat×AV)},apartUps (E.map fun p=>Up.new p.1 p.2)=true→E.Pairwise fun x y=>x.1≠y.1
 |[],_=>.nil
 |x::E,h=>by
  simp only[List.map_cons,apartUps,Bool.and_eq_true,List.all_eq_true,Bool.not_eq_true']at h
  refine List.pairwise_cons.2 ⟨fun y hy e=>?_,news_keys h.2⟩
  have h1:=meets_apart (h.1 _ (List.mem_map.2 ⟨y,hy,rfl⟩))
  have:=h1.1
  simp only[Up.pl,Pl.pre,e,nbT,pre]at this
  cases this
theorem noLk_offL:∀{l:List AV} {k:Nat},noLkL l=true→∀p∈offL k l,noLk p.2=true
 |[],_,_,p,hp=>(List.not_mem_nil hp).elim
 |a::l,k,h,p,hp=>by
  simp only[noLkL,Bool.and_eq_true]at h
  simp only[offL]at hp
  split at hp
  ·rcases List.mem_cons.1 hp with rfl|hp
   ·exact h.1
   ·exact noLk_offL h.2 p hp
  ·exact noLk_offL h.2 p hp
theorem noLk_off1 {a:AV} {k:Nat} (h:noLk a=true):∀p∈off1 k a,noLk p.2=true:=by
 have h1:noLkL [a]=true:=by simp[noLkL,h]
 cases a with
 |agg cs=>exact noLk_offL h
 |_=>exact noLk_offL h1
theorem noLk_entry:∀{l:List AV} {k:Nat},noLkL l=true→∀r a,Up.new r a∈(entryL k l).2→noLk a=true
 |[],_,_,r,a,hm=>by simp[entryL]at hm
 |b::l,k,h,r,a,hm=>by
  simp only[noLkL,Bool.and_eq_true]at h
  simp only[entryL,List.mem_append]at hm
  rcases hm with hm|hm
  ·rw[entry_up,List.mem_map]at hm
   obtain⟨p,hp,e⟩:=hm
   cases e
   exact noLk_off1 h.1 p hp
  ·exact noLk_entry h.2 r a hm
theorem apart_touch {q pl:Pl} (h:q.apart pl):(gone q).touch ⟨pl,true⟩=false∧upOk 0 (gone q)=true:=by
 obtain⟨h1,h2⟩:=h
 unfold gone
 by_cases e:q.p.isEmpty=true
 ·rw[if_pos e]
  have e':q.p=[]:=by simpa using e
  refine⟨?_,rfl⟩
  simp only[Up.touch,Up.hits,Bool.or_false]
  cases hb:Nat.beq q.r pl.r with
  |false=>rfl
  |true=>simp only[Pl.pre,hb,e',pre,Bool.and_self]at h1;cases h1
 ·rw[if_neg e]
  refine⟨?_,?_⟩
  ·simp only[Up.touch,Up.hits,h1,h2,Bool.and_false,Bool.or_self]
  ·simp only[upOk,nonAgg,Bool.and_true,Bool.not_eq_true'] ;simpa using e
theorem noTouch0 {q pl:Pl} (h:q.pre pl=false):(gone q).touch ⟨pl,false⟩=false∧upOk 0 (gone q)=true:=by
 unfold gone
 by_cases e:q.p.isEmpty=true
 ·rw[if_pos e]
  have e':q.p=[]:=by simpa using e
  refine⟨?_,rfl⟩
  simp only[Up.touch,Up.hits,Bool.or_false]
  cases hb:Nat.beq q.r pl.r with
  |false=>rfl
  |true=>simp only[Pl.pre,hb,e',pre,Bool.and_self]at h;cases h
 ·rw[if_neg e]
  refine⟨?_,?_⟩
  ·simp only[Up.touch,Up.hits,h,Bool.false_and,Bool.or_self]
  ·simp only[upOk,nonAgg,Bool.and_true,Bool.not_eq_true'] ;simpa using e
theorem cell_there {h h':Hp} {pl:Pl} {k off:Nat} {c:AV} (h2:(getP h' pl).map hd=(getP h pl).map hd) (hc:getP h (pl.cell k off)=some c):∃c',getP h' (pl.cell k off)=some c':=by
 obtain⟨a,ha,hp⟩:=getP_some hc
 obtain⟨x,hx,hs⟩:=getT_parent (c:=c) (p:=pl.p) (i:=k) (j:=off) hp
 have h1:getP h pl=some x:=by unfold getP;rw[show pl.r=(pl.cell k off).r from rfl,ha];exact hx
 rw[h1]at h2
 cases hx':getP h' pl with
 |none=>rw[hx']at h2;cases h2
 |some x'=>
  rw[hx']at h2
  simp only[Option.map_some,Option.some.injEq]at h2
  have h3:∃c',step1 x' (k,off)=some c':=by
   rcases step1_some hs with⟨sz,es,e,rfl,he,hj⟩|⟨e,rfl,rfl,hj⟩
   ·obtain⟨es',rfl,e1,e2⟩:=hd_ow h2
    have:=e2 k
    rw[he]at this
    cases he':es'[k]? with
    |none=>rw[he']at this;cases this
    |some e'=>
     rw[he']at this
     simp only[Option.map_some,Option.some.injEq]at this
     have hlt:=(List.getElem?_eq_some_iff.1 hj).1
     simp only[step1,he',Option.bind_some]
     exact⟨_,List.getElem?_eq_getElem (by omega)⟩
   ·cases x'<;>simp only[hd]at h2<;>try cases h2
    rename_i e'
    simp only[AV.bx.injEq,AV.agg.injEq]at h2
    have:=congrArg List.length h2
    simp only[List.length_replicate]at this
    have hlt:=(List.getElem?_eq_some_iff.1 hj).1
    simp only[step1,if_true]
    exact⟨_,List.getElem?_eq_getElem (by omega)⟩
  obtain⟨c',hc'⟩:=h3
  obtain⟨a',ha',hp'⟩:=getP_some hx'
  refine⟨c',?_⟩
  unfold getP;rw[show(pl.cell k off).r=pl.r from rfl,ha']
  simp only[Option.bind_some,Pl.cell]
  rw[getT_snoc,hp'];exact hc'
theorem pre_linear {p q x:List (Nat×Nat)} (h1:pre p x=true) (h2:pre q x=true):pre p q=true∨pre q p=true:=by
 rcases paths p q with⟨r,hr⟩|⟨t,r,hr⟩|⟨u,t,t',p',q',hne,rfl,rfl⟩
 ·exact .inl (pre_iff.2 ⟨r,hr⟩)
 ·exact .inr (pre_iff.2 ⟨_,hr⟩)
 ·exfalso
  obtain⟨a,rfl⟩:=pre_iff.1 h1
  obtain⟨b,hb⟩:=pre_iff.1 h2
  simp only[List.append_assoc,List.cons_append,List.append_cancel_left_eq,List.cons.injEq]at hb
  exact hne hb.1.symm
theorem Pl.linear {a b c:Pl} (h1:a.pre c=true) (h2:b.pre c=true):a.pre b=true∨b.pre a=true:=by
 simp only[Pl.pre,Bool.and_eq_true]at *
 have e1:=h1.1;have e2:=h2.1
 simp at e1 e2
 rcases pre_linear h1.2 h2.2 with h|h
 ·exact .inl ⟨by simp[e1,e2],h⟩
 ·exact .inr ⟨by simp[e1,e2],h⟩
def iot (g:Gh) (io:List IoSpec):Option IoT:=io.head?.map fun t=>⟨t.κ,t.a,t.v,ioG g t.pl t.nu t.μ⟩
def sigM (mv:List (Nat×AV×Nat)):Nat→Option Nat:=lookK (mv.map fun m=>(m.1,m.2.2))
noncomputable def calR (R:Nat→Value) (mv:List (Nat×AV×Nat)) (io:List IoSpec) (κ:Nat):Value:=match sigM mv κ with
 |some N=>R N
 |none=>match io.head? with
  |some t=>t.v
  |none=>undef
structure Begun (s:St) (B:Base) (g:Gh) (w:World) (M:Nat) (cv:List AV) (vs:List Value) (up:List Up) (lent:Bool) (mv:List (Nat×AV×Nat)) (io:List IoSpec) (g3:Gh) (R2:Nat→Value) (h3:Hp) (hw:∀b o,B.A0 b o→b<w.heap.size) (hlt:∀b o,owned g3 b o→b<w.heap.size) (hin:∀b o,ownC g3 (sigM mv) (iot g3 io) b o→owned g3 b o):Prop where
 rm:RM B (Kd s.d) g3 R2 h3 w
 src:SrcOk2 g3 h3 (sigM mv) (iot g3 io) B w (Up.apps (entryL 0 cv).2 []) R2 (calR R2 mv io)
 args:XDs (mkF (calB B g3 w (sigM mv) (iot g3 io) lent hw hlt hin) (calG g3 (sigM mv) (iot g3 io)) w) (calG g3 (sigM mv) (iot g3 io)) [] (entryL 0 cv).1 vs
 sub:∀b o,owned g3 b o→owned g b o
 heap:∀r,(∀m∈mv,m.2.2≠r)→hget h3 r=hget (Up.apps up s.h) r
 keep:∀q k,(∀u∈up,u.pl.pre q=false)→g q.r q.p=some k→g3 q.r q.p=some k
 row:∀t∈io,RowV g3 h3 t.pl t.n t.nu t.μ t.a
 mvM:∀m∈mv,M≤m.2.2
 sig:∀κ N,sigM mv κ=some N→∃m∈mv,m.1=κ∧m.2.2=N
theorem begin_call (H:RM B (Kd s.d) g R s.h w) (hal:s.alias=false) {M c':Nat} {ms:List Md} {cv:List AV} {vs:List Value} {rd:List Rd} {up:List Up} {touch:List Pl} {iol:List IoR} {lent:Bool} {ts:List Tk} {mv:List (Nat×AV×Nat)} {gv:List Nat} {vw:List Rd} {io:List IoSpec}
  (hfr:∀n,M≤n→hget s.h n=none∧¬Kd s.d n) (A:AR s B (Kd s.d) g w M 0 0 c' ms cv vs rd up touch iol lent ts mv gv vw io) (hap:apartUps up=true) (hen:apartUps (entryL 0 cv).2=true) (hnl:noLkL cv=true) (hio:io.length≤1):
  ∃g3 R2 h3 hw hlt hin,Begun s B g w M cv vs up lent mv io g3 R2 h3 hw hlt hin:=by
 obtain⟨g2,R2,h2,H2,e2,e3,e4,e5⟩:=takes_ok hal H A.tks.2 (by rw[A.tks.1];exact hap) A.inc
 obtain⟨g3,H3,f2,f3,f4⟩:=drops_ok gv H2
 have hup:∀u∈up,∃q c,u=gone q∧getP s.h q=some c:=by rw[←A.tks.1];exact flat_pl A.tks.2
 have hupr:∀n,M≤n→∀u∈up,u.pl.r≠n:=by
  intro n hn u hu e
  obtain⟨q,c,rfl,hq⟩:=hup u hu
  obtain⟨a,ha⟩:=getP_root hq
  rw[gone_pl]at e
  rw[e,(hfr n hn).1]at ha;cases ha
 have hrng:∀t∈ts,t.us≠[]→M≤t.N:=fun t ht hu=>by have:=A.rng t ht hu;omega
 have hgv:∀N∈gv,M≤N:=fun N hN=>by have:=A.gvr N hN;omega
 have hmv:∀m∈mv,M≤m.2.2:=fun m hm=>by have:=A.mvr m hm;omega
 have hltM:∀r p n,g r p=some n→r<M:=by
  intro r p n hn
  rcases Nat.lt_or_ge r M with h|h
  ·exact h
  ·have:=H.void r (hfr r h).1 p;rw[hn]at this;cases this
 have hheap:∀r,(∀m∈mv,m.2.2≠r)→hget (gv.foldl hdel h2) r=hget (Up.apps up s.h) r:=by
  intro r hr
  rw[f4 r]
  by_cases hg:r∈gv
  ·rw[if_pos hg,hget_apps_ne (hupr r (hgv r hg)),(hfr r (hgv r hg)).1]
  ·rw[if_neg hg,e4 r,A.tks.1]
   intro t ht hu e
   rcases A.cov t ht hu with⟨m,hm,e'⟩|hg'
   ·exact hr m hm (e'.trans e)
   ·rw[e]at hg';exact hg hg'
 have hkeep:∀q k,(∀u∈up,u.pl.pre q=false)→g q.r q.p=some k→g3 q.r q.p=some k:=by
  intro q k hq hk
  have hlt:=hltM _ _ _ hk
  rw[f3 q.r fun hm=>by have:=hgv _ hm;omega]
  exact e5 q k (fun t ht hu e=>by have:=hrng t ht hu;omega) (by rw[A.tks.1];exact hq) hk
 have hsub:∀b o,owned g3 b o→owned g b o:=fun b o hx=>e3 b o (f2 b o hx)

 have hrow:∀t∈io,RowV g3 (gv.foldl hdel h2) t.pl t.n t.nu t.μ t.a:=by
  intro t ht
  have hok:=A.iok t ht
  obtain⟨p0,hp0⟩:=List.exists_mem_of_ne_nil _ hok.tc0
  have hpl:∀u∈up,u.pl.pre t.pl=false:=by
   intro u hu
   cases hb:u.pl.pre t.pl with
   |false=>rfl
   |true=>
    have:=Pl.pre_trans hb (hok.tcpl p0 hp0)
    rw[(A.sep2 u hu t ht p0 hp0).1]at this;cases this
  have hroot:hget (gv.foldl hdel h2) t.pl.r=hget (Up.apps up s.h) t.pl.r:=hheap _ fun m hm e=>by
   have:=hltM _ _ _ hok.row.at_
   have:=hmv m hm
   omega
  have hgp:∀q:Pl,q.r=t.pl.r→getP (gv.foldl hdel h2) q=getP (Up.apps up s.h) q:=fun q hq=>by unfold getP;rw[hq,hroot]
  have hshape:(getP (Up.apps up s.h) t.pl).map hd=(getP s.h t.pl).map hd:=by
   refine(getP_apps_hd (io:=0) (r:=⟨t.pl,false⟩) (fun u hu=>?_) fun u hu=>?_).1
   ·obtain⟨q,c,rfl,_⟩:=hup u hu
    have:=hpl _ hu;rw[gone_pl]at this;exact(noTouch0 this).2
   ·obtain⟨q,c,rfl,_⟩:=hup u hu
    have:=hpl _ hu;rw[gone_pl]at this;exact(noTouch0 this).1
  refine hok.row.move (hkeep _ _ hpl hok.row.at_) (fun tt t' c h1 h2'=>?_) fun i j c hc=>?_
  ·obtain⟨p,hp,hpc⟩:=hok.cov tt t' h1
   rw[hgp (t.pl.cell t'.1 t'.2) rfl,(getP_apps_hd (io:=0) (r:=⟨t.pl.cell t'.1 t'.2,true⟩) (fun u hu=>?_) fun u hu=>?_).2 rfl]
   ·exact h2'
   ·obtain⟨q,c,rfl,_⟩:=hup u hu
    have:=hpl _ hu;rw[gone_pl]at this;exact(noTouch0 this).2
   ·obtain⟨q,c,rfl,_⟩:=hup u hu
    have h3:=A.sep2 _ hu t ht p hp
    rw[gone_pl]at h3
    refine(apart_touch ⟨?_,?_⟩).1
    ·cases hb:q.pre (t.pl.cell t'.1 t'.2)with
     |false=>rfl
     |true=>
      rcases Pl.linear hb hpc with h|h
      ·rw[h3.1]at h;cases h
      ·rw[h3.2]at h;cases h
    ·cases hb:(t.pl.cell t'.1 t'.2).pre q with
     |false=>rfl
     |true=>have:=Pl.pre_trans hpc hb;rw[h3.2]at this;cases this
  ·rw[hgp (t.pl.cell i j) rfl]at hc
   exact cell_there hshape.symm hc

 obtain⟨E,E1,E2⟩:=A.ent
 have hkeys:E.Pairwise fun x y=>x.1≠y.1:=news_keys (by rw[←E1];exact hen)
 have hkeys2:(mv.map (fun m=>(m.1,m.2.1))++io.map fun t=>(t.κ,t.a)).Pairwise fun x y=>x.1≠y.1:=(E2.pairwise_iff fun h e=>h e.symm).1 hkeys
 rw[List.pairwise_append]at hkeys2
 obtain⟨k1,k2,k3⟩:=hkeys2
 have k1':(mv.map fun m=>(m.1,m.2.2)).Pairwise fun x y=>x.1≠y.1:=by
  rw[List.pairwise_map]at k1 ⊢;exact k1
 have hsig:∀κ N,sigM mv κ=some N→∃m∈mv,m.1=κ∧m.2.2=N:=by
  intro κ N h
  obtain⟨m,hm,e⟩:=List.mem_map.1 (lookK_mem h)
  simp only[Prod.mk.injEq]at e
  exact⟨m,hm,e⟩
 have hsig2:∀m∈mv,sigM mv m.1=some m.2.2:=fun m hm=>lookK_of k1' (x:=(m.1,m.2.2)) (List.mem_map.2 ⟨m,hm,rfl⟩)
 have hsio:∀t∈io,sigM mv t.κ=none:=by
  intro t ht
  refine lookK_none fun y hy=>?_
  obtain⟨m,hm,e⟩:=List.mem_map.1 hy
  simp only[Prod.mk.injEq]at e
  exact k3 (m.1,m.2.1) (List.mem_map.2 ⟨m,hm,rfl⟩) (t.κ,t.a) (List.mem_map.2 ⟨t,ht,rfl⟩) e.1
 have hio1:∀t∈io,io.head?=some t:=by
  intro t ht
  match io,hio,ht with
  |[t'],_,ht=>rw[List.mem_singleton]at ht;rw[ht];rfl
 have hio2:∀t,io.head?=some t→t∈io:=fun t ht=>List.mem_of_head? ht
 have hnlE:∀p∈E,noLk p.2=true:=fun p hp=>noLk_entry hnl p.1 p.2 (by rw[E1];exact List.mem_map.2 ⟨p,hp,rfl⟩)
 have hE0:∀κ a,(κ,a)∈E→hget (Up.apps (entryL 0 cv).2 []) κ=some a:=fun κ a h=>by rw[E1];exact(hget_news hkeys κ).1 a h
 have hEn:∀κ,(∀a,(κ,a) ∉ E)→hget (Up.apps (entryL 0 cv).2 []) κ=none:=fun κ h=>by rw[E1,(hget_news hkeys κ).2 h];rfl
 have hmvh:∀m∈mv,hget (gv.foldl hdel h2) m.2.2=some m.2.1:=by
  intro m hm
  obtain⟨_,_,t,ht,a1,a2,a3⟩:=A.mvr m hm
  rw[f4,if_neg fun hg=>A.gm _ hg m hm rfl,←a2,←a3]
  exact((e2 t ht).2 a1).2
 have S:SrcOk2 g3 (gv.foldl hdel h2) (sigM mv) (iot g3 io) B w (Up.apps (entryL 0 cv).2 []) R2 (calR R2 mv io):=by
  refine⟨fun κ κ' N h1 h2'=>?_,fun t' ht'=>?_,fun κ a ha=>?_,fun κ hκ=>?_⟩
  ·obtain⟨m,hm,a1,a2⟩:=hsig κ N h1
   obtain⟨m',hm',b1,b2⟩:=hsig κ' N h2'
   have:=pw_eq (f:=fun m:Nat×AV×Nat=>m.2.2) A.mvd m hm m' hm' (a2.trans b2.symm)
   rw[←a1,←b1,this]
  ·unfold iot at ht'
   cases hh:io.head? with
   |none=>rw[hh]at ht';cases ht'
   |some t=>
    rw[hh]at ht'
    simp only[Option.map_some,Option.some.injEq]at ht'
    subst ht'
    have ht:=hio2 t hh
    have hok:=A.iok t ht
    refine⟨t.pl.r,ioT_ok H3 (hrow t ht) hok.root hok.node (hnlE (t.κ,t.a) (E2.mem_iff.2 (List.mem_append_right _ (List.mem_map.2 ⟨t,ht,rfl⟩)))),fun κ N h1 e=>?_,hsio t ht⟩
    obtain⟨m,hm,_,a2⟩:=hsig κ N h1
    have:=hmv m hm
    have:=hltM _ _ _ hok.row.at_
    omega
  ·by_cases hx:∃a',(κ,a')∈E
   ·obtain⟨a',hx⟩:=hx
    rw[hE0 κ a' hx]at ha
    cases ha
    rcases List.mem_append.1 (E2.mem_iff.1 hx)with hm|hm
    ·obtain⟨m,hmm,e⟩:=List.mem_map.1 hm
     clear hm
     have hm:=hmm
     simp only[Prod.mk.injEq]at e
     obtain⟨rfl,rfl⟩:=e
     refine .inl ⟨m.2.2,hsig2 m hm,hmvh m hm,hnlE _ hx,?_⟩
     simp only[calR,hsig2 m hm]
    ·obtain⟨t,ht,e⟩:=List.mem_map.1 hm
     simp only[Prod.mk.injEq]at e
     obtain⟨rfl,rfl⟩:=e
     refine .inr ⟨_,by unfold iot;rw[hio1 t ht];rfl,rfl,rfl,?_⟩
     simp only[calR,hsio t ht,hio1 t ht]
   ·rw[hEn κ fun a h=>hx ⟨a,h⟩]at ha;cases ha
  ·have hno:∀a,(κ,a) ∉ E:=fun a h=>by rw[hE0 κ a h]at hκ;cases hκ
   refine⟨lookK_none fun y hy=>?_,fun t' ht' e=>?_⟩
   ·obtain⟨m,hm,e⟩:=List.mem_map.1 hy
    simp only[Prod.mk.injEq]at e
    exact hno m.2.1 (E2.mem_iff.2 (List.mem_append_left _ (List.mem_map.2 ⟨m,hm,by rw[e.1]⟩)))
   ·unfold iot at ht'
    cases hh:io.head? with
    |none=>rw[hh]at ht';cases ht'
    |some t=>
     rw[hh]at ht'
     simp only[Option.map_some,Option.some.injEq]at ht'
     subst ht'
     exact hno t.a (E2.mem_iff.2 (List.mem_append_right _ (List.mem_map.2 ⟨t,hio2 t hh,by rw[e]⟩)))
 have hw:=H3.a0_lt
 have hlt:=H3.owned_lt
 have hin:∀b o,ownC g3 (sigM mv) (iot g3 io) b o→owned g3 b o:=fun b o hx=>ownC_in S hx
 refine⟨g3,R2,_,hw,hlt,hin,H3,S,?_,hsub,hheap,hkeep,hrow,hmv,hsig⟩

 have hle3:=cal_le (lent:=lent) S (hw:=hw) (hlt:=hlt) (hin:=hin)
 have notin:∀{b o:Nat},owned g3 b o→∃r p m,r ∉ gv∧g3 r p=some m∧m.has b o:=by
  rintro b o ⟨r,p,m,hm,hb⟩
  refine⟨r,p,m,fun hg=>?_,hm,hb⟩
  have:=H3.void r (by rw[f4,if_pos hg]) p
  rw[hm]at this;cases this
 refine A.fin ⟨H3.callee S hw hlt hin,(le_sub hsub).trans hle3,⟨_,H2⟩,(le_sub f2).trans hle3,fun t ht=>(e2 t ht).1,fun m hm=>⟨hE0 _ _ (E2.mem_iff.2 (List.mem_append_left _ (List.mem_map.2 ⟨m,hm,rfl⟩))),by simp only[calR,hsig2 m hm]⟩,fun N hN q n hq o ho=>?_,fun r hr q n hq o ho=>?_,fun t ht=>⟨hE0 _ _ (E2.mem_iff.2 (List.mem_append_right _ (List.mem_map.2 ⟨t,ht,rfl⟩))),by simp only[calR,hsio t ht,hio1 t ht]⟩⟩
 ·have key:¬owned g3 n.b o:=by
   intro hx
   obtain⟨r,p,m,h1,h2',h3'⟩:=notin hx
   rw[f3 r h1]at h2'
   exact H2.disj _ _ _ _ _ _ h2' hq (by intro e;simp only[Prod.mk.injEq]at e;rw[e.1]at h1;exact h1 hN) n.b o h3' ho
  unfold Fz.no
  simp only[show(0:Nat)≠2 by decide,if_false]
  rintro (hx|hx)
  ·obtain⟨κ,p,m,h1,h2'⟩:=hx
   exact key (hin _ _ ⟨κ,p,m,h1,h2'⟩)
  ·rcases hx.1 with hx|hx
   ·exact H2.own_A0 ⟨N,q,n,hq,ho⟩ hx
   ·exact key hx
 ·have hlent:lent=true:=by
   cases hl:lent with
   |true=>rfl
   |false=>rw[A.lnt hl]at hr;cases hr
  have hk3:∀q n,g r.pl.r (r.pl.p++q)=some n→g3 r.pl.r (r.pl.p++q)=some n:=by
   intro q n hn
   refine hkeep ⟨r.pl.r,r.pl.p++q⟩ n (fun u hu=>?_) hn
   obtain⟨_,ht,_⟩:=A.upt u hu
   have hs:=A.sep u.pl ht r hr
   cases hb:u.pl.pre ⟨r.pl.r,r.pl.p++q⟩with
   |false=>rfl
   |true=>
    have h2':r.pl.pre ⟨r.pl.r,r.pl.p++q⟩=true:=by simp only[Pl.pre,nbT,Bool.true_and];exact pre_iff.2 ⟨q,rfl⟩
    rcases Pl.linear hb h2' with h|h
    ·rw[hs.1]at h;cases h
    ·rw[hs.2]at h;cases h
  unfold Fz.no
  simp only[if_true]
  rintro (hx|hx)
  ·obtain⟨κ,p,m,h1,h2'⟩:=hx
   rcases calG_cases h1 with⟨N,a1,a2⟩|⟨_,t',a2,_,a4⟩
   ·refine H3.disj _ _ _ _ _ _ a2 (hk3 q n hq) ?_ n.b o h2' ho
    intro e
    simp only[Prod.mk.injEq]at e
    obtain⟨m',hm',_,b2⟩:=hsig κ N a1
    have:=hmv m' hm'
    have:=hltM _ _ _ hq
    omega
   ·unfold iot at a2
    cases hh:io.head? with
    |none=>rw[hh]at a2;cases a2
    |some t=>
     rw[hh]at a2
     simp only[Option.map_some,Option.some.injEq]at a2
     subst a2
     have ht:=hio2 t hh
     have hok:=A.iok t ht
     have V:=hrow t ht
     have sepp:∀p'∈t.tc,p'.pre r.pl=false∧r.pl.pre p'=false:=fun p' hp'=>A.sep p' (A.ird t ht p' hp').1 r hr
     cases p with
     |nil=>
      simp only[ioG,Option.some.injEq]at a4
      subst a4
      have hn3:t.n.has n.b o:=by
       obtain⟨c1,c2⟩:=h2'
       have:=V.sub o ⟨rfl,c2⟩
       exact⟨V.b.symm.trans c1,this.2⟩
      refine H3.disj _ _ _ _ _ _ V.at_ (hk3 q n hq) ?_ n.b o hn3 ho
      intro e
      simp only[Prod.mk.injEq]at e
      obtain⟨p0,hp0⟩:=List.exists_mem_of_ne_nil _ hok.tc0
      have hpre:r.pl.pre t.pl=true:=by simp only[Pl.pre,Bool.and_eq_true];exact⟨by rw[e.1];simp,pre_iff.2 ⟨q,e.2⟩⟩
      have:=Pl.pre_trans hpre (hok.tcpl p0 hp0)
      rw[(sepp p0 hp0).2]at this;cases this
     |cons tt p=>
      simp only[ioG]at a4
      cases hμ:t.μ tt with
      |none=>rw[hμ]at a4;cases a4
      |some t'=>
       rw[hμ]at a4
       refine H3.disj _ _ _ _ _ _ a4 (hk3 q n hq) ?_ n.b o h2' ho
       intro e
       simp only[Prod.mk.injEq]at e
       obtain⟨p',hp',hpc⟩:=hok.cov tt t' hμ
       have hc1:(t.pl.cell t'.1 t'.2).pre ⟨t.pl.r,t.pl.p++t'::p⟩=true:=by
        simp only[Pl.pre,Pl.cell,nbT,Bool.true_and];exact pre_iff.2 ⟨p,by simp⟩
       have hc2:r.pl.pre ⟨t.pl.r,t.pl.p++t'::p⟩=true:=by
        simp only[Pl.pre,Bool.and_eq_true];exact⟨by rw[e.1];simp,pre_iff.2 ⟨q,e.2⟩⟩
       rcases Pl.linear (Pl.pre_trans hpc hc1) hc2 with h|h
       ·rw[(sepp p' hp').1]at h;cases h
       ·rw[(sepp p' hp').2]at h;cases h
  ·rcases hx.1 with hx|hx
   ·exact H.own_A0 ⟨_,_,n,hq,ho⟩ (B.hA _ _ hx)
   ·rw[hlent]at hx;cases hx.1
end Go.Am
end
section
namespace Go.Am
open Go.RowKit Go.Lib
variable {P:Program} {cx:Cx} {B B0 B1:Base} {K:Nat→Prop} {g g' g0 g1 g2 g3:Gh} {R R' R0 R1 R2:Nat→Value} {s:St} {h h' h0 h1 h2 h3:Hp} {w w':World} {F F':Fz}
theorem cells_apart {pl:Pl} {x y:Nat×Nat} (h:x≠y):(pl.cell x.1 x.2).pre (pl.cell y.1 y.2)=false:=by
 cases hb:(pl.cell x.1 x.2).pre (pl.cell y.1 y.2)with
 |false=>rfl
 |true=>
  simp only[Pl.pre,Pl.cell,Bool.and_eq_true]at hb
  obtain⟨z,hz⟩:=pre_iff.1 hb.2
  have:=congrArg List.length hz
  simp only[List.length_append,List.length_singleton]at this
  have hz0:z=[]:=List.eq_nil_of_length_eq_zero (by omega)
  subst hz0
  simp only[List.append_nil,List.append_cancel_left_eq,List.cons.injEq,and_true]at hz
  exact absurd hz.symm h
def unsOf (pl:Pl) (C:List ((Nat×Nat)×Nat)):List Up:=setsOf pl (C.map fun c=>(c.1,AV.un))
theorem detaches_ok {pl:Pl}:∀{C:List ((Nat×Nat)×Nat)} {g:Gh} {R:Nat→Value} {h:Hp},RM B K g R h w→(∀c∈C,(∃old,getP h (pl.cell c.1.1 c.1.2)=some old)∧hget h c.2=none∧¬K c.2)→(C.Pairwise fun x y=>x.1≠y.1)→(C.Pairwise fun x y=>x.2≠y.2)→
  ∃g' R' h',RM B K g' R' h' w∧(∀r q n,(∀c∈C,c.2≠r)→g' r q=some n→g r q=some n∧∀c∈C,(pl.cell c.1.1 c.1.2).pre ⟨r,q⟩=false)∧
   (∀b o,owned g' b o↔owned g b o)∧
   (∀q n,(∀c∈C,c.2≠q.r)→(∀c∈C,(pl.cell c.1.1 c.1.2).pre q=false)→g q.r q.p=some n→g' q.r q.p=some n)∧
   (∀r,(∀c∈C,c.2≠r)→hget h' r=hget (Up.apps (unsOf pl C) h) r∧R' r=R r)∧
   (∀i j,(∃c,getP h (pl.cell i j)=some c)→∃c,getP h' (pl.cell i j)=some c)∧(∀i j n,(∃c∈C,c.1=(i,j))→g pl.r pl.p=some n→getP h' (pl.cell i j)=some .un)
 |[],g,R,h,H,_,_,_=>⟨g,R,h,H,fun r q n _ hn=>⟨hn,fun c hc=>(List.not_mem_nil hc).elim⟩,fun _ _=>Iff.rfl,fun q n _ _ hn=>hn,fun r _=>⟨rfl,rfl⟩,fun _ _ hc=>hc,fun i j n hc=>by obtain⟨c,hc,_⟩:=hc;exact(List.not_mem_nil hc).elim⟩
 |c::C,g,R,h,H,hC,hp,hp'=>by
  obtain⟨p1,p2⟩:=List.pairwise_cons.1 hp
  obtain⟨p1',p2'⟩:=List.pairwise_cons.1 hp'
  obtain⟨⟨old,ho⟩,hs,hks⟩:=hC c List.mem_cons_self
  obtain⟨a,ha,hpp⟩:=getP_some ho
  obtain⟨n0,u,_,_,_,r1⟩:=H.detach (r:=pl.r) (s:=c.2) (i:=c.1.1) (j:=c.1.2) ha hpp hs hks
  have hrs:pl.r≠c.2:=by intro e;rw[show(pl.cell c.1.1 c.1.2).r=pl.r from rfl,e,hs]at ha;cases ha
  have e1:Up.app h (.set (pl.cell c.1.1 c.1.2) .un)=hins h pl.r (setT a (pl.p++[(c.1.1,c.1.2)]) .un):=by
   simp only[Up.app,ha];rfl
  rw[←e1]at r1
  have hroot:∀r,r≠c.2→hget (hins (Up.app h (.set (pl.cell c.1.1 c.1.2) .un)) c.2 old) r=hget (Up.app h (.set (pl.cell c.1.1 c.1.2) .un)) r:=fun r hr=>by rw[hget_hins,if_neg hr]
  have there:∀i j,(∃x,getP h (pl.cell i j)=some x)→∃x,getP (hins (Up.app h (.set (pl.cell c.1.1 c.1.2) .un)) c.2 old) (pl.cell i j)=some x:=by
   intro i j hx
   obtain⟨x,hx⟩:=getP_write (h:=h) (par:=pl) (i:=c.1.1) (j:=c.1.2) (i':=i) (j':=j) (x:=.un) rfl ho hx
   exact⟨x,by unfold getP at hx ⊢;rw[show(pl.cell i j).r=pl.r from rfl]at hx ⊢;rw[hroot _ hrs];exact hx⟩
  obtain⟨g',R',h',a1,a2,a3,a4,a5,a6,a7⟩:=detaches_ok (pl:=pl) (C:=C) r1 (fun y hy=>by
   obtain⟨⟨o',ho'⟩,b1,b2⟩:=hC y (List.mem_cons_of_mem _ hy)
   refine⟨there _ _ ⟨o',ho'⟩,?_,b2⟩
   rw[hroot _ (fun e=>p1' y hy e.symm),e1,hget_hins,if_neg]
   ·exact b1
   ·intro e
    rw[show(pl.cell c.1.1 c.1.2).r=pl.r from rfl,←e,b1]at ha;cases ha) p2 p2'
  refine⟨g',R',h',a1,fun r q n hr hn=>?_,fun b o=>(a3 b o).trans ?_,fun q n hq hq2 hn=>?_,fun r hr=>?_,fun i j hx=>a6 i j (there i j hx),fun i j n hc hn=>?_⟩
  ·obtain⟨b1,b2⟩:=a2 r q n (fun y hy=>hr y (List.mem_cons_of_mem _ hy)) hn
   unfold detG at b1
   rw[if_neg (fun e=>hr c List.mem_cons_self e.symm)]at b1
   obtain⟨b3,b4⟩:=cutG_some b1
   refine⟨b3,fun y hy=>?_⟩
   rcases List.mem_cons.1 hy with rfl|hy
   ·cases hb:(pl.cell y.1.1 y.1.2).pre ⟨r,q⟩with
    |false=>rfl
    |true=>
     simp only[Pl.pre,Bool.and_eq_true]at hb
     exact absurd ⟨by have:=hb.1;simp at this;exact this.symm,hb.2⟩ b4
   ·exact b2 y hy
  ·constructor
   ·rintro ⟨r,q,n,hn,hb⟩
    unfold detG at hn
    split at hn
    ·exact⟨_,_,n,hn,hb⟩
    ·exact⟨_,_,n,(cutG_some hn).1,hb⟩
   ·rintro ⟨r,q,n,hn,hb⟩
    have hrc:r≠c.2:=by rintro rfl;rw[H.void _ hs]at hn;cases hn
    by_cases hx:r=pl.r∧pre (pl.p++[(c.1.1,c.1.2)]) q=true
    ·obtain⟨rfl,hx⟩:=hx
     obtain⟨z,rfl⟩:=pre_iff.1 hx
     exact⟨c.2,z,n,by unfold detG;rw[if_pos rfl];exact hn,hb⟩
    ·exact⟨r,q,n,by unfold detG;rw[if_neg hrc,cutG_eq hx];exact hn,hb⟩
  ·refine a4 q n (fun y hy=>hq y (List.mem_cons_of_mem _ hy)) (fun y hy=>hq2 y (List.mem_cons_of_mem _ hy)) ?_
   unfold detG
   rw[if_neg (fun e=>hq c List.mem_cons_self e.symm),cutG_eq]
   ·exact hn
   ·rintro ⟨e2,e3⟩
    have:=hq2 c List.mem_cons_self
    simp only[Pl.pre,Pl.cell,e2,nbT,Bool.true_and]at this
    rw[e3]at this;cases this
  ·obtain⟨b1,b2⟩:=a5 r fun y hy=>hr y (List.mem_cons_of_mem _ hy)
   have hrc:=hr c List.mem_cons_self
   refine⟨?_,?_⟩
   ·rw[b1]
    simp only[unsOf,setsOf,List.map_cons,Up.apps]
    exact apps_at _ (hroot r fun e=>hrc e.symm)
   ·rw[b2];unfold setR;rw[if_neg (fun e=>hrc e.symm)]
  ·have hkeepn:detG g pl.r (pl.p++[(c.1.1,c.1.2)]) c.2 pl.r pl.p=some n:=by
    unfold detG
    rw[if_neg hrs,cutG_eq]
    ·exact hn
    ·rintro ⟨_,e⟩
     obtain⟨z,hz⟩:=pre_iff.1 e
     have:=congrArg List.length hz
     simp at this
   by_cases hin:∃y∈C,y.1=(i,j)
   ·exact a7 i j n hin hkeepn
   ·obtain⟨y,hy,e⟩:=hc
    rcases List.mem_cons.1 hy with rfl|hy
    ·have hb:=(a5 pl.r fun z hz e2=>by
      obtain⟨⟨o',ho'⟩,b1,_⟩:=hC z (List.mem_cons_of_mem _ hz)
      obtain⟨a',ha'⟩:=getP_root ho'
      rw[show(pl.cell z.1.1 z.1.2).r=pl.r from rfl,←e2,b1]at ha';cases ha').1
     have:getP h' (pl.cell i j)=getP (Up.apps (unsOf pl C) (Up.app h (.set (pl.cell y.1.1 y.1.2) .un))) (pl.cell i j):=by
      unfold getP
      rw[show(pl.cell i j).r=pl.r from rfl,hb,apps_at (unsOf pl C) (hroot pl.r hrs)]
     rw[this,(getP_apps_hd (io:=0) (r:=⟨pl.cell i j,true⟩) (fun u hu=>?_) fun u hu=>?_).2 rfl]
     ·have e2:y.1=(i,j):=e
      rw[e1]
      unfold getP
      rw[show(pl.cell i j).r=pl.r from rfl,hget_hins,if_pos rfl,Option.bind_some,show(pl.cell i j).p=pl.p++[(i,j)]from rfl]
      have:=getT_setT_under (a:=a) (c:=.un) (old:=old) (p:=pl.p++[(y.1.1,y.1.2)]) hpp (.inr rfl) []
      rw[List.append_nil]at this
      rw[e2]at this ⊢
      rw[this];rfl
     ·simp only[unsOf,setsOf,List.map_map,List.mem_map]at hu
      obtain⟨z,_,rfl⟩:=hu
      simp[upOk,nonAgg,Pl.cell]
     ·simp only[unsOf,setsOf,List.map_map,List.mem_map]at hu
      obtain⟨z,hz,rfl⟩:=hu
      have hzne:z.1≠(i,j):=fun e2=>hin ⟨z,hz,e2⟩
      have c1:=cells_apart (pl:=pl) hzne
      have c2:=cells_apart (pl:=pl) (fun e2=>hzne e2.symm:(i,j)≠z.1)
      simp only[Function.comp,Up.touch,Up.hits,Bool.or_false,Bool.true_and]
      rw[c1,c2];rfl
    ·exact absurd ⟨y,hy,e⟩ hin
theorem lay_twice {pl:Pl}:∀{W:List ((Nat×Nat)×AV)} {h:Hp},(∀x∈W,nonAgg x.2=true∧∃old,getP h (pl.cell x.1.1 x.1.2)=some old)→(W.Pairwise fun x y=>x.1≠y.1)→
  hext (Up.apps (setsOf pl W) (Up.apps (setsOf pl (W.map fun x=>(x.1,AV.un))) h)) (Up.apps (setsOf pl W) h)
 |[],h,_,_=>fun _=>rfl
 |x::W,h,hW,hp=>by
  obtain⟨p1,p2⟩:=List.pairwise_cons.1 hp
  obtain⟨hx,old,ho⟩:=hW x List.mem_cons_self
  obtain⟨a,ha,hpp⟩:=getP_some ho
  simp only[setsOf,List.map_cons,Up.apps]
  have c1:hext ((Up.set (pl.cell x.1.1 x.1.2) x.2).app (Up.apps (setsOf pl (W.map fun x=>(x.1,AV.un))) ((Up.set (pl.cell x.1.1 x.1.2) .un).app h))) (Up.apps (setsOf pl (W.map fun x=>(x.1,AV.un))) ((Up.set (pl.cell x.1.1 x.1.2) x.2).app ((Up.set (pl.cell x.1.1 x.1.2) .un).app h))):=by
   refine apps_comm1 (io:=0) (by simp[upOk,hx,Pl.cell]) fun v hv=>?_
   simp only[setsOf,List.map_map,List.mem_map]at hv
   obtain⟨y,hy,rfl⟩:=hv
   refine⟨by simp[upOk,nonAgg,Pl.cell],?_⟩
   have hne:=p1 y hy
   simp only[Function.comp,Up.meets,Up.pl,Bool.or_eq_false_iff]
   exact⟨cells_apart hne,cells_apart fun e=>hne e.symm⟩
  have c2:hext ((Up.set (pl.cell x.1.1 x.1.2) x.2).app ((Up.set (pl.cell x.1.1 x.1.2) .un).app h)) ((Up.set (pl.cell x.1.1 x.1.2) x.2).app h):=by
   intro r
   by_cases e:r=(Up.set (pl.cell x.1.1 x.1.2) x.2).pl.r
   ·have e':r=(Up.set (pl.cell x.1.1 x.1.2) AV.un).pl.r:=e
    have e2:r=(pl.cell x.1.1 x.1.2).r:=e
    rw[hget_app,if_pos e,hget_app,if_pos e',hget_app,if_pos e,e2,ha]
    simp only[Option.map_some,Option.some.injEq]
    exact setT_same hpp rfl hx
   ·have e':¬r=(Up.set (pl.cell x.1.1 x.1.2) AV.un).pl.r:=e
    rw[hget_app,if_neg e,hget_app,if_neg e',hget_app,if_neg e]
  have ih:=lay_twice (W:=W) (h:=(Up.set (pl.cell x.1.1 x.1.2) x.2).app h) (fun y hy=>by
   obtain⟨b1,b2⟩:=hW y (List.mem_cons_of_mem _ hy)
   exact⟨b1,getP_write (par:=pl) hx ho b2⟩) p2
  intro r
  refine(apps_ext _ c1 r).trans ?_
  exact(apps_ext _ (apps_ext _ c2) r).trans (ih r)
def num {α:Type}:Nat→List α→List (α×Nat)
 |_,[]=>[]
 |k,a::l=>(a,k)::num (k+1) l
theorem num_fst {α:Type}:∀(l:List α) (k:Nat),(num k l).map (·.1)=l
 |[],_=>rfl
 |a::l,k=>by simp[num,num_fst l (k+1)]
theorem num_ge {α:Type}:∀{l:List α} {k:Nat},(∀x∈num k l,k≤x.2∧x.2<k+l.length∧x.1∈l)∧(num k l).Pairwise fun x y=>x.2≠y.2
 |[],k=>⟨fun x hx=>(List.not_mem_nil hx).elim,.nil⟩
 |a::l,k=>by
  obtain⟨h1,h2⟩:=num_ge (l:=l) (k:=k+1)
  refine⟨fun x hx=>?_,List.pairwise_cons.2 ⟨fun y hy=>?_,h2⟩⟩
  ·rcases List.mem_cons.1 hx with rfl|hx
   ·exact⟨Nat.le_refl _,by simp,List.mem_cons_self⟩
   ·have:=h1 x hx;exact⟨by omega,by simp only[List.length_cons];omega,List.mem_cons_of_mem _ this.2.2⟩
  ·have:=h1 y hy;simp only;omega
theorem num_pw {α:Type} {p:α→α→Prop} {l:List α} {k:Nat} (h:l.Pairwise p):(num k l).Pairwise fun x y=>p x.1 y.1:=by
 have:=num_fst l k
 rw[←this,List.pairwise_map]at h
 exact h
theorem num_ex {α:Type} {l:List α} {k:Nat} {a:α} (h:a∈l):∃x∈num k l,x.1=a:=by
 have:=num_fst l k
 rw[←this,List.mem_map]at h
 exact h
end Go.Am
end
section
namespace Go.Am
open Go.RowKit Go.Lib
variable {P:Program} {cx:Cx} {B B0 B1 B2:Base} {K:Nat→Prop} {g g' g0 g1 g2 g3:Gh} {R R' R0 R1 R2:Nat→Value} {s:St} {h h' h0 h1 h2 h3:Hp} {w w':World} {F F':Fz}
theorem noLent_offL:∀{l:List AV} {k:Nat},noLentL l=true→∀p∈offL k l,noLent p.2=true
 |[],_,_,p,hp=>(List.not_mem_nil hp).elim
 |a::l,k,h,p,hp=>by
  simp only[noLentL,Bool.and_eq_true]at h
  simp only[offL]at hp
  split at hp
  ·rcases List.mem_cons.1 hp with rfl|hp
   ·exact h.1
   ·exact noLent_offL h.2 p hp
  ·exact noLent_offL h.2 p hp
theorem noLent_off1 {a:AV} {k:Nat} (h:noLent a=true):∀p∈off1 k a,noLent p.2=true:=by
 have h1:noLentL [a]=true:=by simp[noLentL,h]
 cases a with
 |agg cs=>exact noLent_offL h
 |_=>exact noLent_offL h1
theorem noLent_offT:∀{l:List AV} {k:Nat},noLentL l=true→∀p∈offT k l,noLent p.2=true
 |[],_,_,p,hp=>(List.not_mem_nil hp).elim
 |a::l,k,h,p,hp=>by
  simp only[noLentL,Bool.and_eq_true]at h
  simp only[offT]at hp
  rcases List.mem_append.1 hp with hp|hp
  ·exact noLent_off1 h.1 p hp
  ·exact noLent_offT h.2 p hp
theorem noLent_offs {a:AV} (h:noLent a=true):∀p∈offs a,noLent p.2=true:=by
 cases a with
 |tup vs=>exact noLent_offT h
 |_=>exact noLent_off1 h
theorem IoOuts.mem {h1:Hp}:∀{io:List IoSpec} {os:List AV},IoOuts g0 g1 h1 io os→∀t∈io,∃o∈os,hget h1 t.κ=some o∧∀n,g0 t.κ []=some n→g1 t.κ []=some n
 |_,_,.nil,t,ht=>(List.not_mem_nil ht).elim
 |_,_,.cons a b c tl,t,ht=>by
  rcases List.mem_cons.1 ht with rfl|ht
  ·exact⟨_,List.mem_cons_self,a,b⟩
  ·obtain⟨o,ho,x⟩:=tl.mem t ht;exact⟨o,List.mem_cons_of_mem _ ho,x⟩
theorem IoOuts.mv {h1 h1':Hp} {g1':Gh}:∀{io:List IoSpec} {os:List AV},IoOuts g0 g1 h1 io os→(∀t∈io,hget h1' t.κ=hget h1 t.κ∧g1' t.κ=g1 t.κ)→IoOuts g0 g1' h1' io os
 |_,_,.nil,_=>.nil
 |_,_,.cons a b c tl,h=>by
  obtain⟨e1,e2⟩:=h _ List.mem_cons_self
  exact .cons (e1.trans a) (fun n hn=>by rw[e2];exact b n hn) c (tl.mv fun t ht=>h t (List.mem_cons_of_mem _ ht))
theorem settle (H1:RM B1 (fun _=>False) g1 R1 h1 w') {res:AV} {v:Value} {N1:Nat} (hRV:RV (mkF B1 g1 w') R1 h1 N1 res v) {io:List IoSpec} {outs:List AV} (hIO:IoOuts g0 g1 h1 io outs) {lent:Bool} (hl:lent=true→noLent res=true∧noLentL outs=true):
  ∃B2 g1' h1',RM B2 (fun _=>False) g1' R1 h1' w'∧B2.w0=B1.w0∧B2.own=B1.own∧B2.A0=B1.A0∧(lent=true→B2.A=B1.A0)∧(lent=false→B2.A=B1.A)∧RV (mkF B2 g1' w') R1 h1' N1 res v∧IoOuts g0 g1' h1' io outs:=by
 classical
 let S:Nat→Prop:=fun r=>(∃p∈offs res,r=N1+p.1)∨∃t∈io,r=t.κ
 obtain⟨g1',a1,a2,a3,a4⟩:=drops_ok ((h1.map (·.1)).filter fun r=> !(decide (S r))) H1
 have hS:∀r,S r→r ∉ (h1.map (·.1)).filter fun r=> !(decide (S r)):=by
  intro r hr hm
  have:=(List.mem_filter.1 hm).2
  simp[hr]at this
 have hS':∀r a,hget (((h1.map (·.1)).filter fun r=> !(decide (S r))).foldl hdel h1) r=some a→S r∧hget h1 r=some a:=by
  intro r a ha
  rw[a4 r]at ha
  split at ha
  ·cases ha
  ·rename_i hm
   refine⟨Classical.byContradiction fun hn=>hm (List.mem_filter.2 ⟨List.mem_map.2 ⟨(r,a),hget_mem ha,rfl⟩,by simpa using hn⟩),ha⟩
 have hrv:RV (mkF B1 g1' w') R1 (((h1.map (·.1)).filter fun r=> !(decide (S r))).foldl hdel h1) N1 res v:=hRV.mv (le_sub a2) fun x hx hh=>by
  rw[a4,if_neg (hS _ (.inl ⟨x,hx,rfl⟩))];exact⟨hh,rfl⟩
 have hout:IoOuts g0 g1' (((h1.map (·.1)).filter fun r=> !(decide (S r))).foldl hdel h1) io outs:=hIO.mv fun t ht=>by
  have:=hS t.κ (.inr ⟨t,ht,rfl⟩)
  exact⟨by rw[a4,if_neg this],a3 _ this⟩
 cases lent with
 |false=>exact⟨B1,g1',_,a1,rfl,rfl,rfl,fun h=>(by cases h),fun _=>rfl,hrv,hout⟩
 |true=>
  obtain⟨l1,l2⟩:=hl rfl
  refine⟨allB B1,g1',_,a1.unlent fun r a ha=>?_,rfl,rfl,rfl,fun _=>rfl,fun h=>(by cases h),RV.unlent (F:=mkF B1 g1' w') (F':=mkF (allB B1) g1' w') (fun _ _ _ h=>h) (fun _ _ h=>h) l1 hrv,hout⟩
  obtain⟨b1,b2⟩:=hS' r a ha
  rcases b1 with⟨p,hp,rfl⟩|⟨t,ht,rfl⟩
  ·have:=(hRV.roots p hp).1
   rw[b2]at this
   cases this
   exact noLent_offs l1 p hp
  ·obtain⟨o,ho,e,_⟩:=hIO.mem t ht
   rw[b2]at e;cases e
   exact noLentL_mem l2 ho
theorem own_rest (H3:RM B K g3 R2 h3 w) {mv:List (Nat×AV×Nat)} {io:List IoSpec} (hsig:∀κ N,sigM mv κ=some N→∃m∈mv,m.1=κ∧m.2.2=N) (hrow:∀t∈io,RowV g3 h3 t.pl t.n t.nu t.μ t.a)
  {b o:Nat} (hx:ownC g3 (sigM mv) (iot g3 io) b o) {r:Nat} {p:List (Nat×Nat)} {n:Nd} (hr:∀m∈mv,m.2.2≠r) (hn:g3 r p=some n) (hcut:∀t∈io,∀tt t',t.μ tt=some t'→(t.pl.cell t'.1 t'.2).pre ⟨r,p⟩=false) (hb:n.has b o):
  ∃t∈io,r=t.pl.r∧p=t.pl.p∧t.nu.has b o:=by
 obtain⟨κ,q,m,h1,h2⟩:=hx
 rcases calG_cases h1 with⟨N,a1,a2⟩|⟨_,t',a2,_,a4⟩
 ·exfalso
  obtain⟨m',hm',_,e⟩:=hsig κ N a1
  exact H3.disj _ _ _ _ _ _ hn a2 (by intro e2;simp only[Prod.mk.injEq]at e2;exact hr m' hm' (e.trans e2.1.symm)) b o hb h2
 ·unfold iot at a2
  cases hh:io.head? with
  |none=>rw[hh]at a2;cases a2
  |some t=>
   rw[hh]at a2
   simp only[Option.map_some,Option.some.injEq]at a2
   subst a2
   have ht:=List.mem_of_head? hh
   have V:=hrow t ht
   cases q with
   |nil=>
    simp only[ioG,Option.some.injEq]at a4
    subst a4
    have hn3:t.n.has b o:=by
     obtain⟨c1,c2⟩:=h2
     have:=V.sub o ⟨rfl,c2⟩
     exact⟨V.b.symm.trans c1,this.2⟩
    by_cases e:(r,p)=(t.pl.r,t.pl.p)
    ·simp only[Prod.mk.injEq]at e
     exact⟨t,ht,e.1,e.2,h2⟩
    ·exact(H3.disj _ _ _ _ _ _ hn V.at_ e b o hb hn3).elim
   |cons tt q=>
    exfalso
    simp only[ioG]at a4
    cases hμ:t.μ tt with
    |none=>rw[hμ]at a4;cases a4
    |some t'=>
     rw[hμ]at a4
     refine H3.disj _ _ _ _ _ _ hn a4 ?_ b o hb h2
     intro e
     simp only[Prod.mk.injEq]at e
     have:=hcut t ht tt t' hμ
     rw[e.1,e.2]at this
     simp only[Pl.pre,Pl.cell,nbT,Bool.true_and]at this
     rw[pre_iff.2 ⟨q,by simp⟩]at this;cases this
theorem io_cells {io:List IoSpec} {outs:List AV} {ius:List Up} (H1:RM B2 (fun _=>False) g1 R1 h1 w') (hio:io.length≤1) (hok:∀t∈io,t.ok s B g w) (hIO:IoOuts g0 g1 h1 io outs) (hiu:ioUps (io.map IoSpec.iop) outs=some ius):
  ∃(pl:Pl) (W:List ((Nat×Nat)×((Nat×Nat)×AV))),ius=setsOf pl (W.map (·.2))∧(∀x∈W,∃t∈io,t.pl=pl∧∃o,hget h1 t.κ=some o∧t.μ x.1=some x.2.1∧step1 o x.1=some x.2.2)∧
   (∀t∈io,t.pl=pl∧∀tt b,t.μ tt=some b→∃x∈W,x.2.1=b)∧W.Pairwise (fun x y=>x.2.1≠y.2.1):=by
 match io,hio with
 |[],_=>
  cases hIO
  simp only[List.map_nil,ioUps,Option.some.injEq]at hiu
  subst hiu
  exact⟨⟨0,[]⟩,[],rfl,fun x hx=>(List.not_mem_nil hx).elim,fun x hx=>(List.not_mem_nil hx).elim,.nil⟩
 |[t],_=>
  cases hIO with
  |cons a b c tl=>
   cases tl
   rename_i o
   have ht:=hok t (List.mem_singleton.2 rfl)
   obtain⟨W,w1,w2,w3,w4⟩:=ioW ht hiu (fun sz es ho e he=>by
    have:=(H1.tree _ _ a).root
    rw[ho]at this
    obtain⟨m,_,_,_,_,_,h6⟩:=this
    exact h6 e he)
   refine⟨t.pl,W,w1,fun x hx=>⟨t,List.mem_singleton.2 rfl,rfl,o,a,w2 x hx⟩,fun t' ht'=>?_,w4⟩
   rw[List.mem_singleton]at ht'
   subst ht'
   refine⟨rfl,fun tt b' hb=>?_⟩
   obtain⟨c',hc⟩:=w3 tt b' hb
   exact⟨_,hc,rfl⟩
end Go.Am
end
section
namespace Go.Am
open Go.RowKit Go.Lib
variable {P:Program} {cx:Cx} {B B0 B1 B2:Base} {K:Nat→Prop} {g g' g0 g1 g2 g3:Gh} {R R' R0 R1 R2:Nat→Value} {s:St} {h h' h0 h1 h2 h3:Hp} {w w':World} {F F':Fz}
theorem nodup_off {res:AV} (h:nodupK (offs res)=true):(offs res).Pairwise fun x y=>x.1≠y.1:=nodupK_pw h
theorem sum_ge:∀{l:List (Nat×AV)},∀p∈l,p.1≤l.foldr (fun p n=>p.1+n) 0
 |x::l,p,hp=>by
  simp only[List.foldr_cons]
  rcases List.mem_cons.1 hp with rfl|hp
  ·omega
  ·have:=sum_ge p hp;omega
theorem sum_geN:∀{l:List (Nat×AV×Nat)},∀p∈l,p.2.2≤l.foldr (fun p n=>p.2.2+n) 0
 |x::l,p,hp=>by
  simp only[List.foldr_cons]
  rcases List.mem_cons.1 hp with rfl|hp
  ·omega
  ·have:=sum_geN p hp;omega
theorem foldl_hdel:∀(ks:List Nat) (h:Hp) (r:Nat),hget (ks.foldl hdel h) r=if r∈ks then none else hget h r
 |[],h,r=>by simp
 |k::ks,h,r=>by
  simp only[List.foldl_cons,foldl_hdel ks,hget_hdel,List.mem_cons]
  by_cases e:r=k
  ·simp[e]
  ·simp[e]
set_option maxHeartbeats 2000000 in
theorem end_call (H:RM B (Kd s.d) g R s.h w) {M:Nat} {cv:List AV} {vs:List Value} {up:List Up} {lent:Bool} {mv:List (Nat×AV×Nat)} {io:List IoSpec} {hw hlt hin}
  (Bg:Begun s B g w M cv vs up lent mv io g3 R2 h3 hw hlt hin) (hfr:∀n,M≤n→hget s.h n=none∧¬Kd s.d n) (hupr:∀n,M≤n→∀u∈up,u.pl.r≠n) (hio:io.length≤1) (iok:∀t∈io,t.ok s B g w)
  {N1:Nat} (hκ:∀t∈io,t.κ<N1) (H1:RM B2 (fun _=>False) g1 R1 h1 w') (e0:B2.w0=w) (e1:B2.own=ownC g3 (sigM mv) (iot g3 io)) (e2:∀b o,B2.A0 b o↔(B.A0 b o∨owned g3 b o)∧¬ownC g3 (sigM mv) (iot g3 io) b o)
  (e3:∀b o,(owned g3 b o∨B.A b o)→¬ownC g3 (sigM mv) (iot g3 io) b o→B2.A b o) {res:AV} {v:Value} (hRV:RV (mkF B2 g1 w') R1 h1 N1 res v) (hnd:nodupK (offs res)=true) {outs:List AV} (hIO:IoOuts (calG g3 (sigM mv) (iot g3 io)) g1 h1 io outs)
  {ius:List Up} (hiu:ioUps (io.map IoSpec.iop) outs=some ius) {rb:Nat} (hrb:∀p∈offs res,hget s.h (rb+p.1)=none∧¬Kd s.d (rb+p.1)):
  ∃g' R' h',RM B (Kd s.d) g' R' h' w'∧(mkF B g w).le (mkF B g' w')∧RV (mkF B g' w') R' h' rb res v∧
   (∀q k,(∀u∈up,u.pl.pre q=false)→(∀u∈ius,u.pl.pre q=false)→g q.r q.p=some k→g' q.r q.p=some k)∧
   (∀r,(∀p∈offs res,rb+p.1≠r)→hget h' r=hget (Up.apps (up++ius) s.h) r)∧(∀u∈ius,∃q c,u=.set q c)∧∀p∈offs res,∀u∈ius,u.pl.r≠rb+p.1:=by
 classical
 obtain⟨pl,W,w1,w2,w3,w4⟩:=io_cells H1 hio iok hIO hiu
 have H3:=Bg.rm

 obtain⟨Mc,hMc1,hMc2,hMc3⟩:∃Mc,M≤Mc∧(∀p∈offs res,rb+p.1<Mc)∧∀m∈mv,m.2.2<Mc:=
  ⟨M+(rb+(offs res).foldr (fun p n=>p.1+n) 0)+mv.foldr (fun p n=>p.2.2+n) 0+1,by omega,fun p hp=>by have:=sum_ge p hp;omega,fun m hm=>by have:=sum_geN m hm;omega⟩
 have WI0:=num_ge (l:=W) (k:=Mc)
 obtain⟨wi1,wi2⟩:=WI0
 have wi3:(num Mc W).Pairwise fun x y=>x.1.2.1≠y.1.2.1:=num_pw (p:=fun(x y:(Nat×Nat)×((Nat×Nat)×AV))=>x.2.1≠y.2.1) w4
 have hltM:∀r p n,g r p=some n→r<M:=by
  intro r p n hn
  rcases Nat.lt_or_ge r M with h|h
  ·exact h
  ·have:=H.void r (hfr r h).1 p;rw[hn]at this;cases this
 have hpl:∀t∈io,t.pl.r<M:=fun t ht=>hltM _ _ _ (iok t ht).row.at_
 have hrow:=Bg.row

 have cellW:∀x∈W,∃t∈io,t.pl=pl∧(∃o,hget h1 t.κ=some o∧step1 o x.1=some x.2.2)∧t.μ x.1=some x.2.1∧(∃c0,getP h3 (pl.cell x.2.1.1 x.2.1.2)=some c0)∧t.nu.o+x.1.1*t.nu.sz+x.1.2=t.n.o+x.2.1.1*t.n.sz+x.2.1.2:=by
  intro x hx
  obtain⟨t,ht,a1,o,a2,a3,a4⟩:=w2 x hx
  obtain⟨c,hc⟩:=(hrow t ht).tot _ _ a3
  obtain⟨t',b1,b2,b3⟩:=(hrow t ht).to _ _ hc
  rw[a3]at b1;cases b1
  exact⟨t,ht,a1,⟨o,a2,a4⟩,a3,⟨c,a1▸b2⟩,b3⟩
 have fresh3:∀n,Mc≤n→hget h3 n=none:=by
  intro n hn
  rw[Bg.heap n fun m hm e=>by have:=hMc3 m hm;omega,hget_apps_ne (hupr n (by omega)),(hfr n (by omega)).1]
 let C:List ((Nat×Nat)×Nat):=(num Mc W).map fun x=>(x.1.2.1,x.2)
 have hC:∀c∈C,∃x∈num Mc W,(x.1.2.1,x.2)=c:=fun c hc=>List.mem_map.1 hc
 obtain⟨g4,R4,h4,H4,d1,d2,d3,d4,d5,d6⟩:=detaches_ok (pl:=pl) (C:=C) H3 (fun c hc=>by
  obtain⟨x,hx,rfl⟩:=hC c hc
  obtain⟨y1,y2,y3⟩:=wi1 x hx
  obtain⟨t,ht,_,_,_,hold,_⟩:=cellW x.1 y3
  exact⟨hold,fresh3 _ y1,(hfr _ (by omega)).2⟩) (by rw[List.pairwise_map];exact wi3) (by rw[List.pairwise_map];exact wi2)
 have hCid:∀c∈C,Mc≤c.2:=fun c hc=>by obtain⟨x,hx,rfl⟩:=hC c hc;exact(wi1 x hx).1
 have hCcut:∀{r:Nat} {q:List (Nat×Nat)},(∀c∈C,(pl.cell c.1.1 c.1.2).pre ⟨r,q⟩=false)→∀t∈io,∀tt t',t.μ tt=some t'→(t.pl.cell t'.1 t'.2).pre ⟨r,q⟩=false:=by
  intro r q hc t ht tt t' hμ
  obtain⟨a1,a2⟩:=w3 t ht
  obtain⟨x,hx,e⟩:=a2 tt t' hμ
  obtain⟨y,hy,e'⟩:=num_ex (k:=Mc) hx
  have:=hc (y.1.2.1,y.2) (List.mem_map.2 ⟨y,hy,rfl⟩)
  rw[a1,←e,←e'];exact this

 let D:Nat→Prop:=fun r=>(∃m∈mv,m.2.2=r)∨∃c∈C,c.2=r
 have hD:∀r,¬D r→(∀m∈mv,m.2.2≠r)∧∀c∈C,c.2≠r:=fun r hr=>⟨fun m hm e=>hr (.inl ⟨m,hm,e⟩),fun c hc e=>hr (.inr ⟨c,hc,e⟩)⟩
 have rest:∀{b o r:Nat} {p:List (Nat×Nat)} {n:Nd},ownC g3 (sigM mv) (iot g3 io) b o→¬D r→g4 r p=some n→n.has b o→∃t∈io,r=t.pl.r∧p=t.pl.p∧t.nu.has b o:=by
  intro b o r p n hx hr hn hb
  obtain⟨hr1,hr2⟩:=hD r hr
  obtain⟨f1,f2⟩:=d1 r p n hr2 hn
  exact own_rest H3 Bg.sig hrow hx hr1 f1 (hCcut f2) hb
 have nuG:∀t∈io,g1 t.κ []=some t.nu∧calG g3 (sigM mv) (iot g3 io) t.κ []=some t.nu:=by
  intro t ht
  obtain⟨o,_,_,hg⟩:=hIO.mem t ht
  have hh:io.head?=some t:=by
   match io,hio,ht with
   |[t'],_,ht=>rw[List.mem_singleton]at ht;rw[ht];rfl
  have hit:iot g3 io=some ⟨t.κ,t.a,t.v,ioG g3 t.pl t.nu t.μ⟩:=by unfold iot;rw[hh];rfl
  obtain⟨_,_,_,hs⟩:=Bg.src.io _ hit
  have:calG g3 (sigM mv) (iot g3 io) t.κ []=some t.nu:=by
   unfold calG
   simp only at hs
   rw[hs,hit]
   simp only[if_true,ioG]
  exact⟨hg _ this,this⟩

 let L:List (Nat×(Nat×List (Nat×Nat))):=(offs res).map (fun p=>(rb+p.1,(N1+p.1,[])))++(num Mc W).map fun x=>(x.2,((io.head?.map IoSpec.κ).getD 0,[x.1.1]))
 have hLk:L.Pairwise fun x y=>x.1≠y.1:=by
  rw[List.pairwise_append]
  refine⟨?_,?_,fun x hx y hy=>?_⟩
  ·rw[List.pairwise_map];exact(nodup_off hnd).imp fun h=>by simp only;omega
  ·rw[List.pairwise_map];exact wi2
  ·obtain⟨p,hp,rfl⟩:=List.mem_map.1 hx
   obtain⟨z,hz,rfl⟩:=List.mem_map.1 hy
   have:=hMc2 p hp
   have:=(wi1 z hz).1
   simp only;omega
 have headκ:∀t∈io,(io.head?.map IoSpec.κ).getD 0=t.κ:=by
  intro t ht
  match io,hio,ht with
  |[t'],_,ht=>rw[List.mem_singleton]at ht;rw[ht];rfl
 have hσ1:∀p∈offs res,lookK L (rb+p.1)=some (N1+p.1,[]):=fun p hp=>lookK_of hLk (x:=(rb+p.1,(N1+p.1,[]))) (List.mem_append_left _ (List.mem_map.2 ⟨p,hp,rfl⟩))
 have hσ2:∀x∈num Mc W,lookK L x.2=some ((io.head?.map IoSpec.κ).getD 0,[x.1.1]):=fun x hx=>lookK_of hLk (x:=(x.2,((io.head?.map IoSpec.κ).getD 0,[x.1.1]))) (List.mem_append_right _ (List.mem_map.2 ⟨x,hx,rfl⟩))
 have hσc:∀r y,lookK L r=some y→(∃p∈offs res,r=rb+p.1∧y=(N1+p.1,[]))∨∃x∈num Mc W,r=x.2∧y=((io.head?.map IoSpec.κ).getD 0,[x.1.1]):=by
  intro r y hy
  rcases List.mem_append.1 (lookK_mem hy)with hm|hm
  ·obtain⟨p,hp,e⟩:=List.mem_map.1 hm
   simp only[Prod.mk.injEq]at e
   exact .inl ⟨p,hp,e.1.symm,e.2.symm⟩
  ·obtain⟨x,hx,e⟩:=List.mem_map.1 hm
   simp only[Prod.mk.injEq]at e
   exact .inr ⟨x,hx,e.1.symm,e.2.symm⟩
 let nuOf:Nd:=((io.head?.map IoSpec.nu).getD ⟨0,0,0,0,false⟩)
 have headν:∀t∈io,nuOf=t.nu:=by
  intro t ht
  simp only[nuOf]
  match io,hio,ht with
  |[t'],_,ht=>rw[List.mem_singleton]at ht;rw[ht];rfl
 let V:Nat→Value:=fun r=>match lookK L r with
  |some (k,[])=>R1 k
  |some (_,t::_)=>(w'.cell? ⟨nuOf.b,nuOf.o+t.1*nuOf.sz+t.2,none⟩).getD undef
  |none=>R4 r
 let E:List (Nat×AV):=(offs res).map (fun p=>(rb+p.1,p.2))++(num Mc W).map fun x=>(x.2,x.1.2.2)
 have hEk:E.Pairwise fun x y=>x.1≠y.1:=by
  rw[List.pairwise_append]
  refine⟨?_,?_,fun x hx y hy=>?_⟩
  ·rw[List.pairwise_map];exact(nodup_off hnd).imp fun h=>by simp only;omega
  ·rw[List.pairwise_map];exact wi2
  ·obtain⟨p,hp,rfl⟩:=List.mem_map.1 hx
   obtain⟨z,hz,rfl⟩:=List.mem_map.1 hy
   have:=hMc2 p hp
   have:=(wi1 z hz).1
   simp only;omega
 let ks:List Nat:=mv.map (fun m=>m.2.2)++C.map (·.2)
 have hks:∀r,r∈ks↔D r:=by
  intro r
  simp only[ks,D,List.mem_append,List.mem_map]
 let hF:Hp:=Up.apps (E.map fun p=>Up.new p.1 p.2) (ks.foldl hdel h4)
 have hF1:∀p∈offs res,hget hF (rb+p.1)=some p.2:=fun p hp=>(hget_news hEk _).1 _ (List.mem_append_left _ (List.mem_map.2 ⟨p,hp,rfl⟩))
 have hF2:∀x∈num Mc W,hget hF x.2=some x.1.2.2:=fun x hx=>(hget_news hEk _).1 _ (List.mem_append_right _ (List.mem_map.2 ⟨x,hx,rfl⟩))
 have hF3:∀r,(∀p∈offs res,rb+p.1≠r)→(∀x∈num Mc W,x.2≠r)→hget hF r=if D r then none else hget h4 r:=by
  intro r h1 h2
  rw[(hget_news hEk r).2 fun a ha=>?_,foldl_hdel]
  ·by_cases hd:D r
   ·rw[if_pos ((hks r).2 hd),if_pos hd]
   ·rw[if_neg fun hm=>hd ((hks r).1 hm),if_neg hd]
  ·rcases List.mem_append.1 ha with hm|hm
   ·obtain⟨p,hp,e⟩:=List.mem_map.1 hm
    simp only[Prod.mk.injEq]at e
    exact h1 p hp e.1
   ·obtain⟨x,hx,e⟩:=List.mem_map.1 hm
    simp only[Prod.mk.injEq]at e
    exact h2 x hx e.1
 have hFn:∀r,lookK L r=none→(∀p∈offs res,rb+p.1≠r)∧∀x∈num Mc W,x.2≠r:=by
  intro r hr
  refine⟨fun p hp e=>?_,fun x hx e=>?_⟩
  ·rw[←e,hσ1 p hp]at hr;cases hr
  ·rw[←e,hσ2 x hx]at hr;cases hr
 have roots:=hRV.roots

 have mrg:RM B (Kd s.d) (mergeG g4 g1 D (lookK L)) V hF w'∧(mkF B g4 w).le (mkF B (mergeG g4 g1 D (lookK L)) w')∧(mkF B2 g1 w').le (mkF B (mergeG g4 g1 D (lookK L)) w'):=by
  have inn1:∀b o,owned g1 b o→ownC g3 (sigM mv) (iot g3 io) b o∨w.heap.size≤b:=by
   intro b o hx
   have:=H1.inn b o hx
   rw[e1,e0]at this;exact this
  have own0:∀b o,ownC g3 (sigM mv) (iot g3 io) b o→owned g3 b o:=hin
  have nuOwn:∀t∈io,∀b o,t.nu.has b o→owned g1 b o:=fun t ht b o hb=>⟨t.κ,[],t.nu,(nuG t ht).1,hb⟩
  refine RM.merge H4 H1 e0 (fun b o hx=>(d2 b o).2 (own0 b o (e1▸hx))) (fun b o hx=>?_) (fun b o hx=>?_) (fun r a p i j c n hr ha hc hn hx=>?_) (fun r p n hr hn hwh o hx=>?_) (fun r p n r1 k pp q n1 hr hn hs hn1 b o hb hb'=>?_) (fun r r' k pp pp' q q' hs hs' e=>?_) (fun r k pp hs=>?_) (fun r hs=>?_) (fun r hs hd=>?_) fun r hs hd=>?_
  ·-- A0
   by_cases ho:ownC g3 (sigM mv) (iot g3 io) b o
   ·rcases hx with⟨r,p,n,hr,hn,hb⟩|hx
    ·obtain⟨t,ht,_,_,h4⟩:=rest ho hr hn hb
     exact .inl (nuOwn t ht b o h4)
    ·exact absurd hx (H3.own_A0 (own0 b o ho))
   ·refine .inr ((e2 b o).2 ⟨?_,ho⟩)
    rcases hx with⟨r,p,n,hr,hn,hb⟩|hx
    ·exact .inr ((d2 b o).1 ⟨r,p,n,hn,hb⟩)
    ·exact .inl hx
  ·by_cases ho:ownC g3 (sigM mv) (iot g3 io) b o
   ·rcases hx with⟨r,p,n,hr,hn,hb⟩|hx
    ·obtain⟨t,ht,_,_,h4⟩:=rest ho hr hn hb
     exact .inl (nuOwn t ht b o h4)
    ·exact absurd (B.hA _ _ hx) (H3.own_A0 (own0 b o ho))
   ·refine .inr (e3 b o ?_ ho)
    rcases hx with⟨r,p,n,hr,hn,hb⟩|hx
    ·exact .inl ((d2 b o).1 ⟨r,p,n,hn,hb⟩)
    ·exact .inr hx
  ·-- cells that are the callee's
   rw[e1]at hx
   obtain⟨n',u0,f1,f2,f3,f4,f5,f6⟩:=(H4.tree r a ha).inside hc
   rw[hn]at f1;cases f1
   obtain⟨t,ht,rfl,rfl,hnu⟩:=rest hx hr hn (Nd.has_cell f3 f4)
   obtain⟨hr1,hr2⟩:=hD _ hr
   have hn3:=(d1 _ _ _ hr2 hn).1
   rw[(hrow t ht).at_]at hn3
   cases hn3

   obtain⟨a1,a2⟩:=w3 t ht
   have hroot4:=d4 t.pl.r hr2
   have hex3:∃c',getP h3 (t.pl.cell i j)=some c':=by
    have hg4:getP h4 (t.pl.cell i j)=some c:=by unfold getP;rw[show(t.pl.cell i j).r=t.pl.r from rfl,ha];exact hc
    have hg5:getP (Up.apps (unsOf pl C) h3) (t.pl.cell i j)=some c:=by
     unfold getP at hg4 ⊢
     rw[show(t.pl.cell i j).r=t.pl.r from rfl]at hg4 ⊢
     rw[←hroot4.1];exact hg4
    refine cell_there (pl:=t.pl) ?_ hg5
    refine(getP_apps_hd (io:=0) (r:=⟨t.pl,false⟩) (fun u hu=>?_) fun u hu=>?_).1.symm
    ·simp only[unsOf,setsOf,List.map_map,List.mem_map]at hu
     obtain⟨z,_,rfl⟩:=hu
     simp[upOk,nonAgg,Pl.cell]
    ·simp only[unsOf,setsOf,List.map_map,List.mem_map]at hu
     obtain⟨z,_,rfl⟩:=hu
     simp only[Function.comp,Up.touch,Up.hits,Bool.or_false,Bool.false_and]
     rw[a1]
     cases hb:(pl.cell z.1.1 z.1.2).pre pl with
     |false=>rfl
     |true=>
      simp only[Pl.pre,Pl.cell,Bool.and_eq_true]at hb
      obtain⟨y,hy⟩:=pre_iff.1 hb.2
      have:=congrArg List.length hy
      simp at this
   obtain⟨c',hc'⟩:=hex3
   have hnub:t.nu.has t.n.b (t.n.o+i*t.n.sz+j):=hnu
   obtain⟨tt,hμ⟩:=(hrow t ht).cover i j c' hc' f4 hnub
   obtain⟨x,hx',ex⟩:=a2 tt _ hμ
   obtain⟨y,hy,ey⟩:=num_ex (k:=Mc) hx'
   have hun:getP h4 (t.pl.cell i j)=some .un:=by
    rw[a1]
    exact d6 i j t.n ⟨(y.1.2.1,y.2),List.mem_map.2 ⟨y,hy,rfl⟩,by rw[ey,ex]⟩ (a1▸(hrow t ht).at_)
   have hcun:c=.un:=by
    unfold getP at hun
    rw[show(t.pl.cell i j).r=t.pl.r from rfl,ha]at hun
    rw[show(t.pl.cell i j).p=t.pl.p++[(i,j)]from rfl,Option.bind_some,hc]at hun
    exact Option.some.inj hun
   refine⟨hcun,fun u hu=>?_⟩
   obtain⟨t2,ht2,b1,⟨o,b2,b3⟩,b4,_,b5⟩:=cellW x hx'
   have e2t:t2=t:=by
    match io,hio,ht,ht2 with
    |[t'],_,ht,ht2=>rw[List.mem_singleton]at ht ht2;rw[ht,ht2]
   subst e2t
   obtain⟨m,u',c1,c2,c3,c4,c5,c6⟩:=(H1.tree _ o b2).inside (p:=[]) (i:=x.1.1) (j:=x.1.2) (by simp only[List.nil_append,getT,b3];rfl)
   rw[(nuG t2 ht).1]at c1;cases c1
   have hadr:w'.cell? ⟨t2.n.b,t2.n.o+i*t2.n.sz+j,none⟩=some u':=by
    rw[←(hrow t2 ht).b]
    rw[ex]at b5
    simp only at b5
    rw[←b5];exact c5
   rw[hadr]at hu
   cases hu
   exact c6.one
  ·rw[e1]at hx
   obtain⟨t,ht,rfl,rfl,_⟩:=rest hx hr hn ⟨rfl,.inl hwh⟩
   obtain⟨hr1,hr2⟩:=hD _ hr
   have hn3:=(d1 _ _ _ hr2 hn).1
   rw[(hrow t ht).at_]at hn3
   cases hn3
   rw[(hrow t ht).nw]at hwh;cases hwh
  ·have hlt4:=H4.owned_lt b o ⟨r,p,n,hn,hb⟩
   rcases inn1 b o ⟨k,pp++q,n1,hn1,hb'⟩with ho|ho
   ·obtain⟨t,ht,_,_,hnu⟩:=rest ho hr hn hb
    refine H1.disj _ _ _ _ _ _ (nuG t ht).1 hn1 ?_ b o hnu hb'
    intro e
    simp only[Prod.mk.injEq]at e
    rcases hσc r1 _ hs with⟨p',hp',_,e'⟩|⟨x,hx,_,e'⟩
    ·simp only[Prod.mk.injEq]at e'
     have:=hκ t ht
     omega
    ·simp only[Prod.mk.injEq]at e'
     rw[e'.2]at e
     have:=e.2
     simp at this
   ·omega
  ·-- injective
   rcases hσc r _ hs with⟨p,hp,er,e'⟩|⟨x,hx,er,e'⟩<;>rcases hσc r' _ hs' with⟨p',hp',er',e''⟩|⟨x',hx',er',e''⟩
   ·simp only[Prod.mk.injEq]at e' e''
    rw[e'.2,e''.2]at e
    exact⟨by rw[er,er'];omega,by simpa using e⟩
   ·simp only[Prod.mk.injEq]at e' e''
    obtain⟨t,ht,_⟩:=cellW x'.1 (wi1 x' hx').2.2
    have:=hκ t ht
    have:=headκ t ht
    omega
   ·simp only[Prod.mk.injEq]at e' e''
    obtain⟨t,ht,_⟩:=cellW x.1 (wi1 x hx).2.2
    have:=hκ t ht
    have:=headκ t ht
    omega
   ·simp only[Prod.mk.injEq]at e' e''
    rw[e'.2,e''.2]at e
    simp only[List.singleton_append,List.cons.injEq]at e
    obtain⟨t1,ht1,_,_,m1,_⟩:=cellW x.1 (wi1 x hx).2.2
    obtain⟨t2,ht2,_,_,m2,_⟩:=cellW x'.1 (wi1 x' hx').2.2
    have e2t:t2=t1:=by
     match io,hio,ht1,ht2 with
     |[t'],_,ht,ht2=>rw[List.mem_singleton]at ht ht2;rw[ht,ht2]
    subst e2t
    rw[e.1,m2]at m1
    simp only[Option.some.injEq]at m1
    have hxx:x=x':=by
     have hpw:=wi3
     by_cases hne:x=x'
     ·exact hne
     ·exfalso
      have key:∀(l:List (((Nat×Nat)×((Nat×Nat)×AV))×Nat)),(l.Pairwise fun x y=>x.1.2.1≠y.1.2.1)→x∈l→x'∈l→False:=by
       intro l
       induction l with
       |nil=>intro _ h;cases h
       |cons z l ih=>
        intro hp h1 h2
        obtain⟨q1,q2⟩:=List.pairwise_cons.1 hp
        rcases List.mem_cons.1 h1 with e1|h1<;>rcases List.mem_cons.1 h2 with e2|h2
        ·exact hne (e1.trans e2.symm)
        ·exact q1 x' h2 (by rw[←e1];exact m1.symm)
        ·exact q1 x h1 (by rw[←e2];exact m1)
        ·exact ih q2 h1 h2
      exact key _ hpw hx hx'
    exact⟨by rw[er,er',hxx],e.2⟩
  ·-- what comes from the callee
   rcases hσc r _ hs with⟨p,hp,er,e'⟩|⟨x,hx,er,e'⟩
   ·simp only[Prod.mk.injEq]at e'
    obtain⟨rfl,rfl⟩:=e'
    subst er
    refine⟨(hrb p hp).2,p.2,p.2,(roots p hp).1,rfl,hF1 p hp,?_⟩
    have:V (rb+p.1)=R1 (N1+p.1):=by simp only[V,hσ1 p hp]
    rw[this]
    exact H1.tree _ _ (roots p hp).1
   ·simp only[Prod.mk.injEq]at e'
    obtain⟨rfl,rfl⟩:=e'
    subst er
    obtain⟨y1,y2,y3⟩:=wi1 x hx
    obtain⟨t,ht,b1,⟨o,b2,b3⟩,b4,_,b5⟩:=cellW x.1 y3
    have hk:=headκ t ht
    have hgo:getT o ([]++[(x.1.1.1,x.1.1.2)])=some x.1.2.2:=by simp only[List.nil_append,getT,b3];rfl
    obtain⟨m,u',c1,c2,c3,c4,c5,c6⟩:=(H1.tree _ o b2).sub hgo
    rw[(nuG t ht).1]at c1;cases c1
    refine⟨(hfr _ (by omega)).2,o,x.1.2.2,by rw[hk];exact b2,by simpa using hgo,hF2 x hx,?_⟩
    have c5':w'.cell? ⟨t.nu.b,t.nu.o+x.1.1.1*t.nu.sz+x.1.1.2,none⟩=some u':=c5
    have:V x.2=u':=by simp only[V,hσ2 x hx,headν t ht,c5',Option.getD_some]
    rw[this,hk]
    simpa using c6
  ·simp only[V,hs]
  ·obtain⟨q1,q2⟩:=hFn r hs
   rw[hF3 r q1 q2,if_pos hd]
  ·obtain⟨q1,q2⟩:=hFn r hs
   rw[hF3 r q1 q2,if_neg hd]
 obtain⟨M1,M2,M3⟩:=mrg

 have keep5:∀q k,(∀u∈up,u.pl.pre q=false)→(∀u∈ius,u.pl.pre q=false)→g q.r q.p=some k→mergeG g4 g1 D (lookK L) q.r q.p=some k:=by
  intro q k h1 h2 hk
  have hlt:=hltM _ _ _ hk
  have k3:=Bg.keep q k h1 hk
  have k4:=d3 q k (fun c hc e=>by have:=hCid c hc;omega) (fun c hc=>by
   obtain⟨x,hx,rfl⟩:=hC c hc
   refine h2 (.set (pl.cell x.1.2.1.1 x.1.2.1.2) x.1.2.2) ?_
   rw[w1]
   exact List.mem_map.2 ⟨x.1.2,List.mem_map.2 ⟨x.1,(wi1 x hx).2.2,rfl⟩,rfl⟩) k3
  have hs:lookK L q.r=none:=lookK_none fun y hy=>by
   rcases List.mem_append.1 hy with hm|hm
   ·obtain⟨p,hp,e⟩:=List.mem_map.1 hm
    simp only[Prod.mk.injEq]at e
    have:=H.void _ (hrb p hp).1 q.p
    rw[e.1,hk]at this;cases this
   ·obtain⟨x,hx,e⟩:=List.mem_map.1 hm
    simp only[Prod.mk.injEq]at e
    have:=(wi1 x hx).1
    omega
  have hd:¬D q.r:=by
   rintro (⟨m,hm,e⟩|⟨c,hc,e⟩)
   ·have:=Bg.mvM m hm;omega
   ·have:=hCid c hc;omega
  unfold mergeG
  rw[hs]
  simp only[if_neg hd]
  exact k4
 have hle4:(mkF B g w).le (mkF B g4 w):=(le_sub Bg.sub).trans (le_sub fun b o hx=>(d2 b o).1 hx)
 have hplnone:∀t∈io,lookK L t.pl.r=none∧¬D t.pl.r:=by
  intro t ht
  have hlt:=hpl t ht
  refine⟨lookK_none fun y hy=>?_,?_⟩
  ·rcases List.mem_append.1 hy with hm|hm
   ·obtain⟨p,hp,e⟩:=List.mem_map.1 hm
    simp only[Prod.mk.injEq]at e
    have:=H.void _ (hrb p hp).1 t.pl.p
    rw[e.1,(iok t ht).row.at_]at this;cases this
   ·obtain⟨x,hx,e⟩:=List.mem_map.1 hm
    simp only[Prod.mk.injEq]at e
    have:=(wi1 x hx).1
    omega
  ·rintro (⟨m,hm,e⟩|⟨c,hc,e⟩)
   ·have:=Bg.mvM m hm;omega
   ·have:=hCid c hc;omega

 have lay:∃g6 h6,RM B (Kd s.d) g6 V h6 w'∧(∀r,(∀x∈num Mc W,x.2≠r)→hget h6 r=hget (Up.apps ius hF) r)∧(∀x∈num Mc W,hget h6 x.2=none)∧(∀b o,owned g6 b o→owned (mergeG g4 g1 D (lookK L)) b o)∧
   (∀q m,(∀x∈num Mc W,x.2≠q.r)→(∀u∈ius,u.pl.pre q=false)→mergeG g4 g1 D (lookK L) q.r q.p=some m→g6 q.r q.p=some m):=by
  match hW:W with
  |[]=>
   refine⟨_,_,M1,fun r _=>?_,fun x hx=>?_,fun _ _ hx=>hx,fun _ _ _ _ hm=>hm⟩
   ·rw[w1,hW];rfl
   ·simp[num]at hx
  |x0::W'=>
   obtain⟨t,ht,tp,_⟩:=cellW x0 (by rw[hW];exact List.mem_cons_self)
   obtain⟨n1,n2⟩:=hplnone t ht
   have hn4:g4 pl.r pl.p=some t.n:=by
    refine d3 pl t.n (fun c hc e=>by have:=hCid c hc;have:=hpl t ht;rw[tp]at this;omega) (fun c hc=>?_) (tp▸(hrow t ht).at_)
    cases hb:(pl.cell c.1.1 c.1.2).pre pl with
    |false=>rfl
    |true=>
     simp only[Pl.pre,Pl.cell,Bool.and_eq_true]at hb
     obtain⟨y,hy⟩:=pre_iff.1 hb.2
     have:=congrArg List.length hy
     simp at this
   have hn5:mergeG g4 g1 D (lookK L) pl.r pl.p=some t.n:=by
    unfold mergeG
    rw[←tp,n1]
    simp only[if_neg n2]
    rw[tp];exact hn4
   have hFpl:hget hF pl.r=hget h4 pl.r:=by
    obtain⟨q1,q2⟩:=hFn _ n1
    rw[tp]at q1 q2 n2
    rw[hF3 _ q1 q2,if_neg n2]
   rw[←hW]at *
   obtain⟨g6,h6,a1,a2,a3,a4,a5⟩:=attaches_ok (pl:=pl) (n:=t.n) (W:=(num Mc W).map fun x=>((x.1.2.1,x.1.2.2),x.2)) M1 hn5 (fun z hz=>by
    obtain⟨x,hx,rfl⟩:=List.mem_map.1 hz
    obtain⟨y1,y2,y3⟩:=wi1 x hx
    obtain⟨t2,ht2,b1,⟨o,b2,b3⟩,b4,hold,b5⟩:=cellW x.1 y3
    have e2t:t2=t:=by
     match io,hio,ht,ht2 with
     |[t'],_,ht,ht2=>rw[List.mem_singleton]at ht ht2;rw[ht,ht2]
    subst e2t
    have hgo:getT o ([]++[(x.1.1.1,x.1.1.2)])=some x.1.2.2:=by simp only[List.nil_append,getT,b3];rfl
    obtain⟨m,u',c1,c2,c3,c4,c5,c6⟩:=(H1.tree _ o b2).inside hgo
    rw[(nuG t2 ht).1]at c1;cases c1
    have c5':w'.cell? ⟨t2.nu.b,t2.nu.o+x.1.1.1*t2.nu.sz+x.1.1.2,none⟩=some u':=c5
    refine⟨?_,hF2 x hx,?_,?_,?_⟩
    ·obtain⟨c',hc'⟩:=d5 _ _ hold
     refine⟨c',?_⟩
     unfold getP at hc' ⊢
     rw[show(pl.cell x.1.2.1.1 x.1.2.1.2).r=pl.r from rfl]at hc' ⊢
     rw[hFpl];exact hc'
    ·cases hx3:x.1.2.2<;>first|rfl|(rw[hx3]at c6;obtain⟨_,c6⟩:=c6;cases c6)
    ·have:=hpl t2 ht;rw[tp]at this;simp only;omega
    ·simp only[V,hσ2 x hx,headν t2 ht]
     rw[c5',←(hrow t2 ht).b,←b5,c5'];rfl) (by rw[List.pairwise_map];exact wi2) (by rw[List.pairwise_map];exact wi3)
   have hmap:((num Mc W).map fun x=>((x.1.2.1,x.1.2.2),x.2)).map (·.1)=W.map (·.2):=by
    conv=>rhs;rw[←num_fst W Mc]
    rw[List.map_map,List.map_map];rfl
   refine⟨g6,h6,a1,fun r hr=>?_,fun x hx=>a3 _ (List.mem_map.2 ⟨x,hx,rfl⟩),a4,fun q m hq hq2 hm=>?_⟩
   ·rw[a2 r fun z hz=>by obtain⟨x,hx,rfl⟩:=List.mem_map.1 hz;exact hr x hx,hmap,w1]
   ·refine a5 q m (fun z hz=>by obtain⟨x,hx,rfl⟩:=List.mem_map.1 hz;exact hq x hx) (fun z hz=>?_) hm
    obtain⟨x,hx,rfl⟩:=List.mem_map.1 hz
    refine hq2 (.set (pl.cell x.1.2.1.1 x.1.2.1.2) x.1.2.2) ?_
    rw[w1]
    exact List.mem_map.2 ⟨x.1.2,List.mem_map.2 ⟨x.1,(wi1 x hx).2.2,rfl⟩,rfl⟩
 obtain⟨g6,h6,L1,L2,L3,L4,L5⟩:=lay
 have iusr:∀r,r≠pl.r→∀u∈ius,u.pl.r≠r:=by
  intro r hr u hu
  rw[w1]at hu
  simp only[setsOf,List.mem_map]at hu
  obtain⟨z,_,rfl⟩:=hu
  exact fun e=>hr e.symm
 have rbne:∀p∈offs res,(∀x∈num Mc W,x.2≠rb+p.1)∧(W≠[]→rb+p.1≠pl.r):=by
  intro p hp
  refine⟨fun x hx e=>by have:=(wi1 x hx).1;have:=hMc2 p hp;omega,fun hne e=>?_⟩
  obtain⟨x,hx⟩:=List.exists_mem_of_ne_nil _ hne
  obtain⟨t,ht,tp,_⟩:=cellW x hx
  have:=H.void _ (hrb p hp).1 t.pl.p
  rw[e,←tp,(iok t ht).row.at_]at this;cases this
 have iusrb:∀p∈offs res,∀u∈ius,u.pl.r≠rb+p.1:=by
  intro p hp u hu e
  have hne:W≠[]:=by rintro rfl;rw[w1]at hu;cases hu
  exact iusr _ ((rbne p hp).2 hne) u hu e
 refine⟨g6,V,h6,L1,hle4.trans (M2.trans (le_sub L4)),hRV.mv (M3.trans (le_sub L4)) fun x hx hh=>?_,fun q k h1 h2 hk=>?_,fun r hr=>?_,fun u hu=>?_,iusrb⟩
 ·refine⟨?_,by simp only[V,hσ1 x hx]⟩
  rw[L2 _ (rbne x hx).1,hget_apps_ne (iusrb x hx)];exact hF1 x hx
 ·exact L5 q k (fun x hx e=>by have:=(wi1 x hx).1;have:=hltM _ _ _ hk;omega) h2 (keep5 q k h1 h2 hk)
 ·rw[Up.apps_append]
  by_cases hid:∃x∈num Mc W,x.2=r
  ·obtain⟨x,hx,rfl⟩:=hid
   have y1:=(wi1 x hx).1
   obtain⟨t,ht,tp,_⟩:=cellW x.1 (wi1 x hx).2.2
   rw[L3 x hx,hget_apps_ne (iusr _ (by have:=hpl t ht;rw[tp]at this;omega)),hget_apps_ne (hupr _ (by omega)),(hfr _ (by omega)).1]
  ·have hid':∀x∈num Mc W,x.2≠r:=fun x hx e=>hid ⟨x,hx,e⟩
   rw[L2 r hid']
   by_cases hd:D r
   ·have hFr:hget hF r=none:=by rw[hF3 r hr hid',if_pos hd]
    have hM:M≤r:=by
     rcases hd with⟨m,hm,e⟩|⟨c,hc,e⟩
     ·have:=Bg.mvM m hm;omega
     ·have:=hCid c hc;omega
    have hiu':∀u∈ius,u.pl.r≠r:=by
     intro u hu
     have hne:W≠[]:=by rintro rfl;rw[w1]at hu;cases hu
     obtain⟨x,hx⟩:=List.exists_mem_of_ne_nil _ hne
     obtain⟨t,ht,tp,_⟩:=cellW x hx
     exact iusr r (by have:=hpl t ht;rw[tp]at this;omega) u hu
    rw[hget_apps_ne hiu',hFr,hget_apps_ne hiu',hget_apps_ne (hupr r hM),(hfr r hM).1]
   ·obtain⟨q1,q2⟩:=hD r hd
    have hFr:hget hF r=hget (Up.apps (unsOf pl C) h3) r:=by rw[hF3 r hr hid',if_neg hd,(d4 r q2).1]
    rw[apps_at ius hFr]
    have hun:unsOf pl C=setsOf pl ((W.map (·.2)).map fun x=>(x.1,AV.un)):=by
     simp only[unsOf,C,List.map_map]
     congr 1
     conv=>rhs;rw[←num_fst W Mc]
     rw[List.map_map];rfl
    have h2':hget (Up.apps ius (Up.apps (unsOf pl C) h3)) r=hget (Up.apps ius h3) r:=by
     rw[hun,w1]
     refine lay_twice (fun z hz=>?_) (by rw[List.pairwise_map];exact w4) r
     obtain⟨x,hx,rfl⟩:=List.mem_map.1 hz
     obtain⟨t2,ht2,b1,⟨o,b2,b3⟩,b4,hold,b5⟩:=cellW x hx
     have hgo:getT o ([]++[(x.1.1,x.1.2)])=some x.2.2:=by simp only[List.nil_append,getT,b3];rfl
     obtain⟨m,u',c1,c2,c3,c4,c5,c6⟩:=(H1.tree _ o b2).inside hgo
     refine⟨?_,hold⟩
     cases hx3:x.2.2<;>first|rfl|(rw[hx3]at c6;obtain⟨_,c6⟩:=c6;cases c6)
    rw[h2']
    exact apps_at ius (Bg.heap r q1)
 ·rw[w1]at hu
  simp only[setsOf,List.mem_map]at hu
  obtain⟨z,_,rfl⟩:=hu
  exact⟨_,_,rfl⟩
end Go.Am
end
section
namespace Go.Am
open Go.RowKit Go.Lib
variable {P:Program} {cx:Cx} {B B0 B1 B2:Base} {K:Nat→Prop} {g g' g0 g1 g2 g3:Gh} {R R' R0 R1 R2:Nat→Value} {s:St} {h h' h0 h1 h2 h3:Hp} {w w':World} {F F':Fz}
theorem newsOk_all:∀{us:List Up},newsOk s us=true→∀r a,Up.new r a∈us→freshId s r=true
 |u::us,h,r,a,hm=>by
  cases u with
  |new q b=>
   simp only[newsOk,Bool.and_eq_true]at h
   rcases List.mem_cons.1 hm with e|hm
   ·cases e;exact h.1
   ·exact newsOk_all h.2 r a hm
  |_=>
   simp only[newsOk]at h
   rcases List.mem_cons.1 hm with e|hm
   ·cases e
   ·exact newsOk_all h r a hm
theorem RVL.flat {F:Fz} {gg:Gh} {R:Nat→Value} {h:Hp}:∀{N:Nat} {l:List AV} {vs:List Value},RVL F R h N l vs→(∀c∈l,isNode c=false)→RTL F gg l vs
 |_,_,_,.nil,_=>.nil
 |_,_,_,.cons a t,hn=>by
  refine .cons ?_ (t.flat fun c hc=>hn c (List.mem_cons_of_mem _ hc))
  cases a with
  |leaf hf=>exact .f hf
  |node h1 _ _=>rw[hn _ List.mem_cons_self]at h1;cases h1
theorem RVE.flat {F:Fz} {gg:Gh} {R:Nat→Value} {h:Hp} {N:Nat} {a:AV} {v:Value} (hr:RVE F R h N a v) (hn:∀c∈cells a,isNode c=false):a=.un∨RX1 F gg (fade1 [] a) v:=by
 cases hr with
 |un=>exact .inl rfl
 |c a1=>
  cases a1 with
  |leaf hf=>exact .inr (RT.f hf).XD0
  |node h1 _ _=>cases a<;>first|(cases h1;done)|(have:=hn _ (by simp only[cells];exact List.mem_singleton.2 rfl);cases this)
 |agg a1=>refine .inr ?_;simp only[fade1,map_fadeC_nil];exact .agg (a1.flat hn)
theorem frzL_nn {l:List AV}:∀c∈frzL 0 l,isNode c=false:=by
 intro c hc
 obtain⟨i,hi⟩:=List.getElem?_of_mem hc
 rw[frzL_get]at hi
 cases hl:l[i]? with
 |none=>rw[hl]at hi;cases hi
 |some z=>rw[hl]at hi;simp only[Option.map_some,Option.some.injEq]at hi;rw[←hi];exact frz_node z
theorem frz_cells_nn (a:AV):∀c∈cells (frz 0 a),isNode c=false:=by
 rw[cells_frz];exact frzL_nn
theorem frz_nonTup {a:AV} (h:nonTup a=true):nonTup (frz 0 a)=true:=by cases a<;>first|rfl|cases h
theorem frz_RVT (H:RM B K g R h w) {F:Fz} {gg:Gh} (hle:(mkF B g w).le F) (hm:∀b o y,(mkF B g w).m b o=some y→F.m b o=some y) {N:Nat}:∀{l:List AV} {vs:List Value} {k:Nat},RVT (mkF B g w) R h (N+k) l vs→
  (∀p∈offT k l,∀q n,g (N+p.1) q=some n→∀o,n.has n.b o→F.no 0 n.b o)→RXL F gg ((frzL 0 l).map (fade1 [])) vs
 |_,_,k,.nil,_=>.nil
 |_,_,k,.cons (c:=c) (v:=v) hu a t,hno=>by
  simp only[frzL,List.map_cons]
  simp only[offT]at hno
  refine .cons ?_ (frz_RVT (k:=k+64) H hle hm t fun p hp=>hno p (List.mem_append_right _ hp))
  have h1:=frz_RVE (R0:=R) (h0:=h) (N':=0) (N:=N) (k:=k) H hle hm a fun p hp=>hno p (List.mem_append_left _ hp)
  rcases h1.flat (gg:=gg) (frz_cells_nn c)with e|h2
  ·-- it is unknown: a map
   rw[e]
   have hone:one v=true:=by
    cases a with
    |un=>exact absurd rfl hu
    |c a1=>
     cases a1 with
     |leaf hf=>exact hf.one
     |node hn hh hv=>have:=(H.tree _ _ hh).root.one;rw[hv]at this;exact this
    |agg a1=>cases e
   exact .c (.f (.un v hone))
  ·exact h2
theorem frz_RV (H:RM B K g R h w) {F:Fz} {gg:Gh} (hle:(mkF B g w).le F) (hm:∀b o y,(mkF B g w).m b o=some y→F.m b o=some y) {N:Nat} {a:AV} {v:Value} (hr:RV (mkF B g w) R h N a v)
  (hno:∀p∈offs a,∀q n,g (N+p.1) q=some n→∀o,n.has n.b o→F.no 0 n.b o):XD F gg [] (frz 0 a) v:=by
 cases hr with
 |e a1=>
  have hnt:nonTup a=true:=by
   cases a1 with
   |un=>rfl
   |c a1=>cases a1 with
    |leaf hf=>cases hf<;>rfl
    |node hn _ _=>cases a<;>first|rfl|cases hn
   |agg _=>rfl
  have ho:offs a=off1 0 a:=by cases a<;>first|rfl|cases hnt
  rw[ho]at hno
  have h1:=frz_RVE (R0:=R) (h0:=h) (N':=0) (N:=N) (k:=0) H hle hm a1 hno
  rcases h1.flat (gg:=gg) (frz_cells_nn a)with e|h2
  ·exact .inl e
  ·refine .inr ?_
   rw[fade_eq1 (frz_nonTup hnt)];exact .c h2
 |tup a1=>exact .inr (.tup (frz_RVT (k:=0) H hle hm a1 hno))
theorem IoOut_nil {k:Nat} {ms:List Md} {outs:List AV} (h:IoOut g0 g1 h1 k ms [] outs):outs=[]:=by cases ms<;>exact h
theorem callsOk_of_ctr {call:CallF} (hC:Ctr P cx call):CallsOk P cx call:=by
 intro B g R s w d f args vs e H hX he
 unfold callX at he
 split at he
 ·cases he
 ·rename_i fn hfn
  split at he
  ·cases he
  ·rename_i x hx
   simp only[fDL_eq,fD_eq]at he
   split at he
   ·cases he
   ·rename_i res outs hcall
    split at he
    ·cases he
    ·rename_i hlent
     split at he
     ·cases he
     ·rename_i ius hiu
      have key:∃r:AV×List Up,(if fn.own=true then imp (1024*(d+1)) res else(frz 0 res,[]))=r∧(!s.alias&&noLkL x.vs&&Nat.ble x.io.length 1&&apartUps (x.up++ius)&&newsOk s r.2)=true∧e={val:=r.1,rd:=x.rd,up:=x.up++ius++r.2}:=by
       revert he
       generalize (if fn.own=true then imp (1024*(d+1)) res else(frz 0 res,[]))=r
       intro he
       split at he
       ·rename_i hu;cases he;exact⟨r,rfl,hu,rfl⟩
       ·cases he
      obtain⟨r,hr,hu,rfl⟩:=key
      simp only[Bool.and_eq_true,Bool.not_eq_true']at hu
      obtain⟨⟨⟨⟨hal,hnl⟩,hio⟩,hap⟩,hnews⟩:=hu
      obtain⟨hap1,_⟩:=apartUps_app hap
      obtain⟨M,_,hfr⟩:=free_from s.h s.d 0
      obtain⟨c',ts,mv,gv,vw,io,A⟩:=args_ar (K:=Kd s.d) (k:=0) (c:=0) H hal hfr hx hX
      obtain⟨hen,pf,hf,hctr⟩:=hC f fn x.vs res outs hfn hcall
      have hiol:io.length≤1:=by
       have h1:=congrArg List.length A.iol
       have h2:=Nat.le_of_ble_eq_true hio
       simp only[List.length_map]at h1
       omega
      obtain⟨g3,R2,h3,hw,hlt,hin,Bg⟩:=begin_call H hal hfr A hap1 hen hnl hiol
      refine⟨fn,pf,hf,(hctr _ _ _ w vs (Bg.rm.callee Bg.src hw hlt hin) Bg.args).mono fun en w' hen'=>?_⟩
      cases en with
      |panicked c=>exact hen'
      |outgrown=>exact hen'
      |returned v=>
       obtain⟨g1,R1,h1,N1,H1,hRV,hN1,hnd,hIO⟩:=hen'
       have hIO':IoOut (calG g3 (sigM mv) (iot g3 io)) g1 h1 0 (fn.modes.take args.length++fn.modes.drop args.length) (x.vs++[]) outs:=by rw[List.take_append_drop,List.append_nil];exact hIO
       obtain⟨o1,o2,rfl,hio1,hio2⟩:=A.iof hIO'
       have:=IoOut_nil hio2
       subst this
       rw[List.append_nil]at hiu hlent
       have hl:x.lent=true→noLent res=true∧noLentL o1=true:=by
        intro hl
        rw[hl,Bool.true_and,Bool.not_eq_true',Bool.not_eq_false,Bool.and_eq_true]at hlent
        exact hlent
       obtain⟨B2,g1',h1',S1,S2,S3,S4,S5,S6,S7,S8⟩:=settle H1 hRV hio1 hl
       have hupr:∀n,M≤n→∀u∈x.up,u.pl.r≠n:=by
        intro n hn u hu e
        rw[←A.tks.1]at hu
        obtain⟨q,c,rfl,hq⟩:=flat_pl A.tks.2 u hu
        obtain⟨a,ha⟩:=getP_root hq
        rw[gone_pl]at e
        rw[e,(hfr n hn).1]at ha;cases ha
       have fin:=fun(rb:Nat) (hrb:∀p∈offs res,hget s.h (rb+p.1)=none∧¬Kd s.d (rb+p.1))=>
        end_call (rb:=rb) H Bg hfr hupr hiol A.iok (N1:=N1) (fun t ht=>by have:=A.iorng t ht;omega) S1 S2 S3 (fun b o=>by rw[S4];exact Iff.rfl) (fun b o h1 h2=>by
         cases hl:x.lent with
         |true=>rw[S5 hl];exact⟨h1.elim .inr fun h=>.inl (B.hA _ _ h),h2⟩
         |false=>rw[S6 hl];exact⟨h1.elim (fun h=>.inr ⟨hl,h⟩) .inl,h2⟩) S7 hnd S8 (by rw[A.iol];exact hiu) hrb
       have keepU:∀{news:List Up} {pl:Pl},okD (s.d++dn (x.up++ius++news)) pl→(∀u∈ius,∃q c,u=Up.set q c)→(∀u∈x.up,u.pl.pre pl=false)∧∀u∈ius,u.pl.pre pl=false:=by
        intro news pl hok hset
        have hany:=okD_split hok
        rw[List.any_eq_false]at hany
        refine⟨fun u hu=>?_,fun u hu=>?_⟩
        ·obtain⟨⟨q,rfl⟩,_⟩:=A.upt u hu
         have hnew:(gone q).isNew=false:=by unfold gone;split<;>rfl
         have:=hany (gone q) (List.mem_filter.2 ⟨List.mem_append_left _ (List.mem_append_left _ hu),by rw[hnew];rfl⟩)
         rw[gone_pl]
         exact hits_gone (by simpa using this)
        ·obtain⟨q,c,rfl⟩:=hset u hu
         have:=hany (.set q c) (List.mem_filter.2 ⟨List.mem_append_left _ (List.mem_append_right _ hu),rfl⟩)
         simp only[Up.hits,Bool.false_and,Bool.or_false,Bool.not_eq_true]at this
         exact this
       by_cases hown:fn.own=true
       ·rw[if_pos hown]at hr
        subst hr
        have hrb:∀p∈offs res,hget s.h (1024*(d+1)+p.1)=none∧¬Kd s.d (1024*(d+1)+p.1):=by
         intro p hp
         exact freshId_iff (newsOk_all hnews _ p.2 (by rw[imp_up];exact List.mem_map.2 ⟨p,hp,rfl⟩))
        obtain⟨g',R',h',L1,L2,L3,L4,L5,L6,L7⟩:=fin _ hrb
        refine⟨g',R',?_,L2,fun pl n hok hn=>?_,?_⟩
        ·refine(L1.congr fun q=>?_).weakK fun q hq=>Kd_app q hq
         rw[Up.apps_append,imp_up]
         have hE:((offs res).map fun x=>Up.new (1024*(d+1)+x.1) x.2)=((offs res).map fun x=>(1024*(d+1)+x.1,x.2)).map fun p=>Up.new p.1 p.2:=by rw[List.map_map];rfl
         have hk:((offs res).map fun x=>(1024*(d+1)+x.1,x.2)).Pairwise fun x y=>x.1≠y.1:=by rw[List.pairwise_map];exact(nodup_off hnd).imp fun h=>by simp only;omega
         rw[hE]
         obtain⟨n1,n2⟩:=hget_news (h:=Up.apps (x.up++ius) s.h) hk q
         by_cases hq:∃p∈offs res,1024*(d+1)+p.1=q
         ·obtain⟨p,hp,rfl⟩:=hq
          rw[n1 p.2 (List.mem_map.2 ⟨p,hp,rfl⟩)]
          exact((L3.roots p hp).1).symm
         ·rw[n2 fun a ha=>by obtain⟨p,hp,e⟩:=List.mem_map.1 ha;simp only[Prod.mk.injEq]at e;exact hq ⟨p,hp,e.1⟩]
          exact(L5 q fun p hp e=>hq ⟨p,hp,e⟩).symm
        ·obtain⟨k1,k2⟩:=keepU hok L6
         exact L4 pl n k1 k2 hn
        ·exact(imp_ok L1 L3).fade le_refl (fun pl _=>(rfl:okD [] pl)) fun _ _ _ h=>h
       ·rw[if_neg hown]at hr
        subst hr
        obtain⟨rb,hrbM,hrbf⟩:=free_from s.h s.d M
        obtain⟨g',R',h',L1,L2,L3,L4,L5,L6,L7⟩:=fin rb fun p _=>hrbf _ (by omega)
        obtain⟨g'',D1,D2,D3,D4⟩:=drops_ok ((offs res).map fun p=>rb+p.1) L1
        have hXD:XD (mkF B g'' w') g'' [] (frz 0 res) v:=by
         refine frz_RV L1 (le_sub D2) (fun _ _ _ h=>h) L3 fun p hp q n hn o ho=>?_
         unfold Fz.no
         simp only[show(0:Nat)≠2 by decide,if_false]
         rintro (hx'|hx')
         ·obtain⟨r,p',m,hm,hb⟩:=hx'
          have hrn:r ∉ (offs res).map fun p=>rb+p.1:=by
           intro hr
           have:=D1.void r (by rw[D4,if_pos hr]) p'
           rw[hm]at this;cases this
          rw[D3 r hrn]at hm
          exact L1.disj _ _ _ _ _ _ hm hn (by intro e;simp only[Prod.mk.injEq]at e;exact hrn (List.mem_map.2 ⟨p,hp,e.1.symm⟩)) n.b o hb ho
         ·exact L1.own_A0 ⟨_,q,n,hn,ho⟩ hx'
        refine⟨g'',R',?_,L2.trans (le_sub D2),fun pl n hok hn=>?_,hXD.fade le_refl (fun pl _=>(rfl:okD [] pl)) fun _ _ _ h=>h⟩
        ·refine(D1.congr fun q=>?_).weakK fun q hq=>Kd_app q hq
         rw[D4,List.append_nil]
         by_cases hq:∃p∈offs res,rb+p.1=q
         ·obtain⟨p,hp,rfl⟩:=hq
          rw[if_pos (List.mem_map.2 ⟨p,hp,rfl⟩),Up.apps_append,hget_apps_ne (L7 p hp),hget_apps_ne (hupr _ (by omega)),(hfr _ (by omega)).1]
         ·rw[if_neg fun hm=>by obtain⟨p,hp,e⟩:=List.mem_map.1 hm;exact hq ⟨p,hp,e⟩]
          exact(L5 q fun p hp e=>hq ⟨p,hp,e⟩).symm
        ·obtain⟨k1,k2⟩:=keepU hok L6
         rw[D3]
         ·exact L4 pl n k1 k2 hn
         ·intro hm
          obtain⟨p,hp,e⟩:=List.mem_map.1 hm
          have:=H.void pl.r (by rw[←e];exact(hrbf _ (by omega)).1) pl.p
          rw[hn]at this;cases this
end Go.Am
end
