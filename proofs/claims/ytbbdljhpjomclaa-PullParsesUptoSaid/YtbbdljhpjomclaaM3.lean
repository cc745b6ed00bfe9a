/- The texts Am61, Am62, Am63, AmPull, Am64, Am65, Am66, Am67, Am68, Am69, Pull0, Pull3, Pull4, Pull5, Pull6, Pull8 of this proof. -/
import Derived.CheckFast
import Derived.Test.YtbbdljhpjomclaaM2
import Derived.Test.YtbbdljhpjomclaaProg
section
namespace Go.Am
open Go.RowKit Go.Lib
structure Ann where
 keep:Nat
 modes:List Nat
 own:Bool
 nm:List Nat
def md:Nat→Md|0=>.view|1=>.move|2=>.give|_=>.io
def mkA (pf:Func) (a:Ann):Option FnS:=
 match pf.body with
 |some b=>some {body:=b,ntmps:=pf.ntmps,params:=pf.params.toList,results:=pf.results.toList,keep:=a.keep,modes:=a.modes.map md,own:=a.own,noMove:=a.nm}
 |none=>none
def mkCx (P:Program) (A:Tr Ann):Cx:=⟨mkTy P,fun f=>match A.get f with|some a=>(match P.funcs[f]? with|some pf=>mkA pf a|none=>none)|none=>none⟩
def ordB (ops:Array Oper):List (Nat×Oper)→Nat→List Oper→List Nat→Bool
 |_,_,[],_=>true
 |prev,j,o::os,b::bs=>(prev.all fun p=>b.testBit p.1||p.2.apart ops o)&&(o.after.toList.all fun e=> !Region.binds .any e||Nat.blt e.on j)&&ordB ops ((j,o)::prev) (j+1) os bs
 |_,_,_::_,[]=>false
def ordOkB (ops:Array Oper):Bool:=ordB ops [] 0 ops.toList (CheckFast.beforeL ops.toList 0 [])
def codeOkB (nt:Nat):Code→Bool
 | .region _ ops draw=>(!draw||ordOkB ops)&&ops.toList.all fun o=>match o.dst with|some d=>Nat.blt d nt|none=>true
 | .seq a b=>codeOkB nt a&&codeOkB nt b
 | .cond _ a b=>codeOkB nt a&&codeOkB nt b
 | .block _ b=>codeOkB nt b
 | .loop b=>codeOkB nt b
 |_=>true
theorem ordB_ok {ops:Array Oper}:∀{os:List Oper} {prev:List (Nat×Oper)} {j:Nat} {bs:List Nat},ordB ops prev j os bs=true→
  ∀k o,os[k]?=some o→(∀e∈o.after,Region.binds .any e=true→e.on<j+k)∧∃b,bs[k]?=some b∧(∀p∈prev,b.testBit p.1=true∨p.2.apart ops o=true)∧∀i oi,i<k→os[i]?=some oi→b.testBit (j+i)=true∨oi.apart ops o=true
 |[],prev,j,bs,_,k,o,hk=>by simp at hk
 |x::os,prev,j,[],h,k,o,hk=>by simp[ordB]at h
 |x::os,prev,j,b::bs,h,k,o,hk=>by
  simp only[ordB,Bool.and_eq_true,List.all_eq_true,Bool.or_eq_true,Bool.not_eq_true']at h
  obtain⟨⟨h1,h2⟩,h3⟩:=h
  cases k with
  |zero=>
   simp at hk
   subst hk
   refine⟨fun e he hb=>?_,b,rfl,h1,fun i oi hi=>by omega⟩
   rcases h2 e (by simpa using he)with h|h
   ·rw[hb]at h;cases h
   ·have:e.on<j:=by simpa[Nat.blt_eq]using h
    omega
  |succ k=>
   obtain⟨a1,b',a2,a3,a4⟩:=ordB_ok h3 k o (by simpa using hk)
   refine⟨fun e he hb=>by have:=a1 e he hb;omega,b',by simpa using a2,fun p hp=>a3 p (List.mem_cons_of_mem _ hp),fun i oi hi hoi=>?_⟩
   cases i with
   |zero=>
    simp at hoi
    subst hoi
    exact a3 (j,x) List.mem_cons_self
   |succ i=>
    have:=a4 i oi (by omega) (by simpa using hoi)
    rw[show j+(i+1)=j+1+i by omega];exact this
theorem ordOkB_ok {ops:Array Oper} (h:ordOkB ops=true):OrdOk ops:=by
 have hb:∀k b,(CheckFast.beforeL ops.toList 0 [])[k]?=some b→(Region.before ops).getD k 0=b:=by
  intro k b hk
  rw[←CheckFast.beforeF_eq]
  simp[CheckFast.beforeF,hk]
 refine⟨fun i j oi oj hij hi hj=>?_,fun k o hk e he hbd=>?_⟩
 ·obtain⟨_,b,a2,_,a4⟩:=ordB_ok h j oj (by simpa using hj)
  rw[hb j b a2]
  have:=a4 i oi hij (by simpa using hi)
  rwa [Nat.zero_add]at this
 ·obtain⟨a1,_⟩:=ordB_ok h k o (by simpa using hk)
  have:=a1 e he hbd
  omega
theorem codeOkB_ok {nt:Nat}:∀{c:Code},codeOkB nt c=true→CodeOk nt c
 | .region _ ops draw,h=>by
  simp only[codeOkB,Bool.and_eq_true,Bool.or_eq_true,Bool.not_eq_true',List.all_eq_true]at h
  refine⟨fun hd=>ordOkB_ok (h.1.resolve_left (by rw[hd];decide)),fun o ho d hd=>?_⟩
  have:=h.2 o (by simpa using ho)
  rw[hd]at this
  simpa[Nat.blt_eq]using this
 | .seq a b,h=>by simp only[codeOkB,Bool.and_eq_true]at h;exact⟨codeOkB_ok h.1,codeOkB_ok h.2⟩
 | .cond _ a b,h=>by simp only[codeOkB,Bool.and_eq_true]at h;exact⟨codeOkB_ok h.1,codeOkB_ok h.2⟩
 | .block _ b,h=>codeOkB_ok (c:=b) h
 | .loop b,h=>codeOkB_ok (c:=b) h
 | .skip,_=>trivial
 | .rangeFunc ..,_=>trivial
 | .exit _,_=>trivial
 | .scope _,_=>trivial
 | .label _,_=>trivial
 | .goto _,_=>trivial
 | .ret,_=>trivial
 | .refuse _,_=>trivial
def Tr.allB {α:Type} (p:Nat→α→Bool):(Nat→Nat)→Tr α→Bool
 |_,.leaf=>true
 |φ,.node v l r=>(match v with|some a=>p (φ 0) a|none=>true)&&l.allB p (fun m=>φ (2*m+1))&&r.allB p (fun m=>φ (2*m+2))
theorem Tr.allB_ok {α:Type} {p:Nat→α→Bool}:∀{t:Tr α} {φ:Nat→Nat} {n:Nat} {a:α},t.allB p φ=true→t.get n=some a→p (φ n) a=true
 | .leaf,φ,n,a,_,h=>by cases h
 | .node v l r,φ,n,a,hb,h=>by
  simp only[Tr.allB,Bool.and_eq_true]at hb
  obtain⟨⟨h1,h2⟩,h3⟩:=hb
  simp only[Tr.get]at h
  by_cases h0:n=0
  ·subst h0
   simp at h
   subst h
   exact h1
  ·rw[nbF h0,cond_false]at h
   by_cases hodd:n % 2=1
   ·rw[show Nat.beq (n % 2) 1=true by rw[hodd];rfl,cond_true]at h
    have:=Tr.allB_ok h2 h
    rwa [show 2*(n / 2)+1=n by omega]at this
   ·rw[nbF hodd,cond_false]at h
    have:=Tr.allB_ok h3 h
    rwa [show 2*(n / 2 - 1)+2=n by omega]at this
def chkFn (P:Program) (f:Nat):Bool:=match P.funcs[f]? with
 |some pf=> !(pf.name== "runtime.NumGoroutine")&&(match pf.body with|some b=>codeOkB pf.ntmps b|none=>true)
 |none=>true
theorem mkCx_F {P:Program} {A:Tr Ann} (h:A.allB (fun f _=>chkFn P f) id=true):FnsOk P (mkCx P A):=by
 intro f fn hf
 unfold mkCx at hf
 simp only at hf
 cases ha:A.get f with
 |none=>rw[ha]at hf;cases hf
 |some a=>
  rw[ha]at hf
  simp only at hf
  cases hp:P.funcs[f]? with
  |none=>rw[hp]at hf;cases hf
  |some pf=>
   rw[hp]at hf
   simp only[mkA]at hf
   cases hb:pf.body with
   |none=>rw[hb]at hf;cases hf
   |some b=>
    rw[hb]at hf
    simp only[Option.some.injEq]at hf
    subst hf
    have:=Tr.allB_ok h ha
    simp only[id,chkFn,hp,hb,Bool.and_eq_true,Bool.not_eq_true']at this
    exact⟨pf,⟨hp,this.1,hb⟩,rfl,rfl,codeOkB_ok this.2⟩
def eqBs:List UInt8→List UInt8→Bool
 |[],[]=>true
 |a::l,b::m=>Nat.beq a.toNat b.toNat&&eqBs l m
 |_,_=>false
theorem eqBs_ok:∀{l m:List UInt8},eqBs l m=true→l=m
 |[],[],_=>rfl
 |a::l,b::m,h=>by
  simp only[eqBs,Bool.and_eq_true]at h
  have e1:a=b:=UInt8.toNat_inj.1 (by simpa using h.1)
  rw[e1,eqBs_ok h.2]
def eqI:Int→Int→Bool
 | .ofNat a,.ofNat b=>Nat.beq a b
 | .negSucc a,.negSucc b=>Nat.beq a b
 |_,_=>false
theorem eqI_ok:∀{a b:Int},eqI a b=true→a=b
 | .ofNat a,.ofNat b,h=>by simp only[eqI]at h;rw[show a=b by simpa using h]
 | .negSucc a,.negSucc b,h=>by simp only[eqI]at h;rw[show a=b by simpa using h]
mutual
/-- the same value, without references -/
def eqAV:AV→AV→Bool
 | .int k n,.int k' m=>decide (k=k')&&eqI n m
 | .bool a,.bool b=>(match a,b with|true,true=>true|false,false=>true|_,_=>false)
 | .str a,.str b=>eqBs a.data.toList b.data.toList
 | .nilp,.nilp=>true
 | .un,.un=>true
 | .fz l z es,.fz l' z' es'=>Nat.beq l l'&&Nat.beq z z'&&eqAVL es es'
 | .ow z es,.ow z' es'=>Nat.beq z z'&&eqAVL es es'
 | .fp l e o,.fp l' e' o'=>Nat.beq l l'&&Nat.beq o o'&&eqAV e e'
 | .bx e,.bx e'=>eqAV e e'
 | .mp ks vs,.mp ks' vs'=>eqAVL ks ks'&&eqAVL vs vs'
 | .agg cs,.agg cs'=>eqAVL cs cs'
 | .tup cs,.tup cs'=>eqAVL cs cs'
 |_,_=>false
def eqAVL:List AV→List AV→Bool
 |[],[]=>true
 |a::l,b::m=>eqAV a b&&eqAVL l m
 |_,_=>false
end
mutual
theorem eqAV_ok:∀{a b:AV},eqAV a b=true→a=b:=by
 intro a b h
 cases a<;>cases b<;>simp only[eqAV,Bool.and_eq_true,decide_eq_true_eq]at h<;>try (first|rfl|(cases h;done))
 ·obtain⟨h1,h2⟩:=h;rw[h1,eqI_ok h2]
 ·rename_i a b;cases a<;>cases b<;>first|rfl|cases h
 ·rename_i a b
  have:=eqBs_ok h
  have h2:a.data=b.data:=Array.toList_inj.1 this
  cases a;cases b;simp only at h2;rw[h2]
 ·obtain⟨⟨h1,h2⟩,h3⟩:=h
  rw[eqAVL_ok h3,show _=_ from Nat.eq_of_beq_eq_true h1,show _=_ from Nat.eq_of_beq_eq_true h2]
 ·obtain⟨h1,h3⟩:=h
  rw[eqAVL_ok h3,show _=_ from Nat.eq_of_beq_eq_true h1]
 ·obtain⟨⟨h1,h2⟩,h3⟩:=h
  rw[eqAV_ok h3,show _=_ from Nat.eq_of_beq_eq_true h1,show _=_ from Nat.eq_of_beq_eq_true h2]
 ·rw[eqAV_ok h]
 ·rw[eqAVL_ok h.1,eqAVL_ok h.2]
 ·rw[eqAVL_ok h]
 ·rw[eqAVL_ok h]
theorem eqAVL_ok:∀{a b:List AV},eqAVL a b=true→a=b:=by
 intro a b h
 cases a<;>cases b<;>simp only[eqAVL,Bool.and_eq_true]at h<;>try (first|rfl|(cases h;done))
 rw[eqAV_ok h.1,eqAVL_ok h.2]
end
structure Ent where
 f:Nat
 args:List AV
 res:AV
 outs:List AV
def orc:List Ent→Nat→List AV→Option (AV×List AV)
 |[],_,_=>none
 |e::O,f,args=>cond (Nat.beq e.f f&&eqAVL e.args args) (some (e.res,e.outs)) (orc O f args)
theorem orc_mem:∀{O:List Ent} {f:Nat} {args:List AV} {r:AV×List AV},orc O f args=some r→∃e∈O,e.f=f∧e.args=args∧r=(e.res,e.outs)
 |e::O,f,args,r,h=>by
  simp only[orc]at h
  cases hb:(Nat.beq e.f f&&eqAVL e.args args)with
  |true=>
   rw[hb,cond_true,Option.some.injEq]at h
   simp only[Bool.and_eq_true]at hb
   exact⟨e,List.mem_cons_self,Nat.eq_of_beq_eq_true hb.1,eqAVL_ok hb.2,h.symm⟩
  |false=>
   rw[hb,cond_false]at h
   obtain⟨e',he,x⟩:=orc_mem h
   exact⟨e',List.mem_cons_of_mem _ he,x⟩
def evO (cx:Cx) (N:Nat) (O:List Ent):Nat→CallF
 |0=>fun f args=>orc O f args
 |n+1=>fun f args=>match orc O f args with
  |some r=>some r
  |none=>evF cx N (evO cx N O n) f args
def Known (P:Program) (cx:Cx) (e:Ent):Prop:=∀fn,cx.F e.f=some fn→CtrAt P e.f fn e.args e.res e.outs
variable {P:Program} {cx:Cx}
theorem evO_ctr (hT:TOk P cx) (hm:P.follows .mixedOrders=true) (hF:FnsOk P cx) (N:Nat) {O:List Ent} (hO:∀e∈O,Known P cx e):∀n,Ctr P cx (evO cx N O n)
 |0=>fun f fn args res outs hfn he=>by
  obtain⟨e,hm,rfl,rfl,h⟩:=orc_mem he
  cases h
  exact hO e hm fn hfn
 |n+1=>fun f fn args res outs hfn he=>by
  simp only[evO]at he
  split at he
  ·rename_i r hr
   cases he
   obtain⟨e,hm,rfl,rfl,h⟩:=orc_mem hr
   cases h
   exact hO e hm fn hfn
  ·exact evF_step hT hm hF (callsOk_of_ctr (evO_ctr hT hm hF N hO n)) f fn args res outs hfn he
theorem known_of (hT:TOk P cx) (hm:P.follows .mixedOrders=true) (hF:FnsOk P cx) {N n:Nat} {O:List Ent} (hO:∀e∈O,Known P cx e) {e:Ent} (he:evF cx N (evO cx N O n) e.f e.args=some (e.res,e.outs)):Known P cx e:=
 fun fn hfn=>evF_step hT hm hF (callsOk_of_ctr (evO_ctr hT hm hF N hO n)) e.f fn e.args e.res e.outs hfn he
end Go.Am
end
section
namespace Go.Am
variable {cx:Cx} {O:List Ent} {keep io:Nat} {nm:List Nat} {ops:Array Oper} {draw:Bool}
def Evt (cx:Cx) (O:List Ent) (p:CallF→Prop):Prop:=∃m,∀N n,m≤N→m≤n→p (evO cx N O n)
theorem Evt.imp {p q:CallF→Prop} (h:∀c,p c→q c):Evt cx O p→Evt cx O q:=fun⟨m,a⟩=>⟨m,fun N n h1 h2=>h _ (a N n h1 h2)⟩
theorem Evt.imp2 {p q r:CallF→Prop} (h:∀c,p c→q c→r c):Evt cx O p→Evt cx O q→Evt cx O r:=fun⟨m,a⟩ ⟨m',b⟩=>⟨m+m',fun N n h1 h2=>h _ (a N n (by omega) (by omega)) (b N n (by omega) (by omega))⟩
theorem Evt.all {p:CallF→Prop} (h:∀c,p c):Evt cx O p:=⟨0,fun _ _ _ _=>h _⟩
def Ans (cx:Cx) (O:List Ent) (f:Nat) (args:List AV) (r:AV×List AV):Prop:=Evt cx O fun call=>call f args=some r
theorem ans_known {e:Ent} {f:Nat} {args:List AV} {r:AV×List AV} (h:orc O f args=some r):Ans cx O f args r:=
 ⟨0,fun N n _ _=>by cases n with|zero=>exact h|succ n=>simp only[evO,h]⟩
theorem checkX_pure {k:Nat} {v:AV}:∀{log:List (Nat×Eff)},checkX ops k ⟨v,[],[]⟩ log=true
 |[]=>rfl
 |(i,e)::log=>by simp[checkX,indep,checkX_pure]
structure RO (cx:Cx) (O:List Ent) (keep io:Nat) (ops:Array Oper) (draw:Bool) (os:List Oper) (k:Nat) (s:St) (log:List (Nat×Eff)) (s':St):Prop where
 run:Evt cx O fun call=>runOps cx call keep io ops draw os k s log=some s'
theorem RO.nil {k:Nat} {s:St} {log:List (Nat×Eff)}:RO cx O keep io ops draw [] k s log s:=⟨.all fun _=>rfl⟩
theorem RO.pure {o:Oper} {os:List Oper} {k:Nat} {t h:Hp} {d:List Up} {al:Bool} {log:List (Nat×Eff)} {s':St} {v:AV} (hw:wantX ops ⟨t,h,d,al⟩ o=some true) (ho:∀call,opX cx call keep ⟨t,h,d,al⟩ o=some ⟨v,[],[]⟩)
  (nx:RO cx O keep io ops draw os (k+1) ⟨putX t o.dst v,h,d,al⟩ ((k,⟨v,[],[]⟩)::log) s'):RO cx O keep io ops draw (o::os) k ⟨t,h,d,al⟩ log s':=by
 refine⟨nx.run.imp fun c nx=>?_⟩
 simp only[runOps,hw,ho,List.all_nil,Bool.not_true,Bool.false_eq_true,if_false,checkX_pure,Bool.and_false,fA_eq,fU_eq,Up.apps,List.filter_nil,List.append_nil]
 exact nx
theorem RO.skip {o:Oper} {os:List Oper} {k:Nat} {t h:Hp} {d:List Up} {al:Bool} {log:List (Nat×Eff)} {s':St} (hw:wantX ops ⟨t,h,d,al⟩ o=some false)
  (nx:RO cx O keep io ops draw os (k+1) ⟨putX t o.dst (.tup []),h,d,al⟩ log s'):RO cx O keep io ops draw (o::os) k ⟨t,h,d,al⟩ log s':=by
 refine⟨nx.run.imp fun c nx=>?_⟩
 simp only[runOps,hw]
 exact nx
theorem RO.eff {o:Oper} {os:List Oper} {k:Nat} {t h h':Hp} {d d':List Up} {al:Bool} {log:List (Nat×Eff)} {s':St} {e:Eff} (hw:wantX ops ⟨t,h,d,al⟩ o=some true) (ho:∀call,opX cx call keep ⟨t,h,d,al⟩ o=some e) (hu:e.up.all (upOk io)=true) (hc:draw=false∨checkX ops k e log=true)
  (hh:Up.apps e.up h=h') (hd:d++dn e.up=d')
  (nx:RO cx O keep io ops draw os (k+1) ⟨putX t o.dst e.val,h',d',al⟩ ((k,e)::log) s'):RO cx O keep io ops draw (o::os) k ⟨t,h,d,al⟩ log s':=by
 refine⟨nx.run.imp fun c nx=>?_⟩
 have:(draw&& !(checkX ops k e log))=false:=by rcases hc with h|h<;>simp[h]
 simp only[runOps,hw,ho,hu,Bool.not_true,Bool.false_eq_true,if_false,this,fA_eq,fU_eq]
 subst hh;subst hd
 exact nx
theorem RO.call {o:Oper} {os:List Oper} {k:Nat} {t h h':Hp} {d d':List Up} {al:Bool} {log:List (Nat×Eff)} {s':St} {e:Eff} {f:Nat} {vs:List AV} {r:AV×List AV} (hw:wantX ops ⟨t,h,d,al⟩ o=some true) (ha:Ans cx O f vs r) (ho:∀call,call f vs=some r→opX cx call keep ⟨t,h,d,al⟩ o=some e) (hu:e.up.all (upOk io)=true) (hc:draw=false∨checkX ops k e log=true)
  (hh:Up.apps e.up h=h') (hd:d++dn e.up=d')
  (nx:RO cx O keep io ops draw os (k+1) ⟨putX t o.dst e.val,h',d',al⟩ ((k,e)::log) s'):RO cx O keep io ops draw (o::os) k ⟨t,h,d,al⟩ log s':=by
 refine⟨ha.imp2 (fun c hac nx=>?_) nx.run⟩
 have:(draw&& !(checkX ops k e log))=false:=by rcases hc with h|h<;>simp[h]
 simp only[runOps,hw,ho c hac,hu,Bool.not_true,Bool.false_eq_true,if_false,this,fA_eq,fU_eq]
 subst hh;subst hd
 exact nx
def Rn (cx:Cx) (O:List Ent) (keep io:Nat) (nm:List Nat) (c:Code) (s:St) (r:Xt) (s':St):Prop:=∃m,∀N n k,m≤N→m≤n→m≤k→execX cx (evO cx N O n) keep io nm k c s=some (r,s')
theorem Rn.mk {c:Code} {s s':St} {r:Xt} (m:Nat) (h:∀N n k,m≤N→m≤n→m≤k→execX cx (evO cx N O n) keep io nm (k+1) c s=some (r,s')):Rn cx O keep io nm c s r s':=
 ⟨m+1,fun N n k h1 h2 h3=>by
  obtain⟨k',rfl⟩:∃k',k=k'+1:=⟨k - 1,by omega⟩
  exact h N n k' (by omega) (by omega) (by omega)⟩
theorem Rn.skip {s:St}:Rn cx O keep io nm .skip s .normal s:=.mk 0 fun _ _ _ _ _ _=>rfl
theorem Rn.ret {s:St}:Rn cx O keep io nm .ret s .ret s:=.mk 0 fun _ _ _ _ _ _=>rfl
theorem Rn.exit {s:St} {id:Nat}:Rn cx O keep io nm (.exit id) s (.exit id) s:=.mk 0 fun _ _ _ _ _ _=>rfl
theorem Rn.seq {a b:Code} {s s1 s':St} {r:Xt} (ha:Rn cx O keep io nm a s .normal s1) (hb:Rn cx O keep io nm b s1 r s'):Rn cx O keep io nm (.seq a b) s r s':=by
 obtain⟨m,ha⟩:=ha
 obtain⟨m',hb⟩:=hb
 exact .mk (m+m') fun N n k h1 h2 h3=>by simp only[execX,ha N n k (by omega) (by omega) (by omega)];exact hb N n k (by omega) (by omega) (by omega)
theorem Rn.seqx {a b:Code} {s s':St} {r:Xt} (ha:Rn cx O keep io nm a s r s') (hr:r≠.normal):Rn cx O keep io nm (.seq a b) s r s':=by
 obtain⟨m,ha⟩:=ha
 refine .mk m fun N n k h1 h2 h3=>?_
 simp only[execX,ha N n k (by omega) (by omega) (by omega)]
 cases r<;>first|rfl|exact absurd rfl hr
theorem Rn.condT {c:Operand} {a b:Code} {s s':St} {r:Xt} (hc:ev s c=.bool true) (ha:Rn cx O keep io nm a s r s'):Rn cx O keep io nm (.cond c a b) s r s':=by
 obtain⟨m,ha⟩:=ha
 exact .mk m fun N n k h1 h2 h3=>by simp only[execX,hc];exact ha N n k (by omega) (by omega) (by omega)
theorem Rn.condF {c:Operand} {a b:Code} {s s':St} {r:Xt} (hc:ev s c=.bool false) (hb:Rn cx O keep io nm b s r s'):Rn cx O keep io nm (.cond c a b) s r s':=by
 obtain⟨m,hb⟩:=hb
 exact .mk m fun N n k h1 h2 h3=>by simp only[execX,hc];exact hb N n k (by omega) (by omega) (by omega)
theorem Rn.block {id:Nat} {b:Code} {s s':St} {r r':Xt} (hb:Rn cx O keep io nm b s r s') (hr:(match r with| .exit i=>if i=id then Xt.normal else .exit i|r=>r)=r'):Rn cx O keep io nm (.block id b) s r' s':=by
 obtain⟨m,hb⟩:=hb
 refine .mk m fun N n k h1 h2 h3=>?_
 simp only[execX,hb N n k (by omega) (by omega) (by omega)]
 subst hr
 cases r with
 |exit i=>simp only;split<;>rfl
 |_=>rfl
theorem Rn.loop {b:Code} {s s1 s':St} {r:Xt} (hb:Rn cx O keep io nm b s .normal s1) (hl:Rn cx O keep io nm (.loop b) s1 r s'):Rn cx O keep io nm (.loop b) s r s':=by
 obtain⟨m,hb⟩:=hb
 obtain⟨m',hl⟩:=hl
 exact .mk (m+m') fun N n k h1 h2 h3=>by simp only[execX,hb N n k (by omega) (by omega) (by omega)];exact hl N n k (by omega) (by omega) (by omega)
theorem Rn.loopx {b:Code} {s s':St} {r:Xt} (hb:Rn cx O keep io nm b s r s') (hr:r≠.normal):Rn cx O keep io nm (.loop b) s r s':=by
 obtain⟨m,hb⟩:=hb
 refine .mk m fun N n k h1 h2 h3=>?_
 simp only[execX,hb N n k (by omega) (by omega) (by omega)]
 cases r<;>first|rfl|exact absurd rfl hr
theorem Rn.reg {id:Nat} {s s0 s1 s':St} (hk:{killX ops.toList (frzS nm id s)with alias:=nm.contains id}=s0) (h:RO cx O (keepAt keep nm id) io ops draw ops.toList 0 s0 [] s1) (hf:finX (keepAt keep nm id) io ops.toList s1=some s'):Rn cx O keep io nm (.region id ops draw) s .normal s':=by
 obtain⟨m,h⟩:=h.run
 refine .mk m fun N n k h1 h2 h3=>?_
 subst hk
 simp only[execX,regionX,h N n (by omega) (by omega),hf]
def outOf (cx:Cx) (fn:FnS) (args:List AV) (s':St):Option (AV×List AV):=
 let s2:St:={t:=s'.t,h:=s'.h,d:=[]}
 match resVals cx s2 fn.results with
 |none=>none
 |some vs=>
  match expResL s2 vs,ioOuts s2 0 fn.modes args with
  |some (xs,us),some (outs,ws)=>
   if apartUps (us++ws)&&nodupK (offs (resOf xs))&&knownT (resOf xs)then some (resOf xs,outs)else oops "results"
  |_,_=>none
theorem ans_of {f:Nat} {fn:FnS} {args:List AV} {r:Xt} {s':St} {x:AV×List AV} (hF:cx.F f=some fn) (hO:orc O f args=none) (he:apartUps (entryL 0 args).2=true)
  (hb:Rn cx O fn.keep (ioMask 0 fn.modes) fn.noMove fn.body {t:=entryT 0 (entryL 0 args).1 (unT fn.keep fn.ntmps),h:=Up.apps (entryL 0 args).2 [],d:=[]} r s') (hr:r=.ret∨r=.normal) (ho:outOf cx fn args s'=some x):Ans cx O f args x:=by
 obtain⟨m,hb⟩:=hb
 refine⟨m+1,fun N n h1 h2=>?_⟩
 obtain⟨n',rfl⟩:∃n',n=n'+1:=⟨n - 1,by omega⟩
 simp only[evO,hO]
 have h3:=hb N n' N (by omega) (by omega) (by omega)
 simp only[evF,hF,he,Bool.not_true,Bool.false_eq_true,if_false,fN_eq,fT_eq,h3]
 rcases hr with rfl|rfl<;>exact ho
def finU (keep io:Nat) (ops:List Oper) (s:St):Option St:=
 match resolve s.d (keepT s.d keep s.t) s.h with
 |none=>none
 |some (t,h)=>
  if s.d.any isLkU&& !(noLkH h)then none else
  let s2:=adoptAll keep io ops ⟨t,h,[],false⟩
  some ⟨keepR (keepH keep s2.h) s2.t,keepH keep s2.h,[],false⟩
theorem finU_eq (ops:List Oper) (s:St):finX keep io ops s=finU keep io ops s:=by
 unfold finX finU
 cases resolve s.d (keepT s.d keep s.t) s.h with
 |none=>rfl
 |some p=>simp only[fH_eq,fT_eq];rfl
structure Wp (cx:Cx) (O:List Ent) (keep io:Nat) (nm:List Nat) (c:Code) (s:St) (Q:Xt→St→Prop):Prop where
 run:∃r s',Rn cx O keep io nm c s r s'∧Q r s'
def Sq (cx:Cx) (O:List Ent) (keep io:Nat) (nm:List Nat) (b:Code) (Q:Xt→St→Prop):Xt→St→Prop
 | .normal,s=>Wp cx O keep io nm b s Q
 |r,s=>Q r s
def Lq (cx:Cx) (O:List Ent) (keep io:Nat) (nm:List Nat) (b:Code) (Q:Xt→St→Prop):Xt→St→Prop
 | .normal,s=>Wp cx O keep io nm (.loop b) s Q
 |r,s=>Q r s
def Bq (id:Nat) (Q:Xt→St→Prop):Xt→St→Prop
 | .exit i,s=>if i=id then Q .normal s else Q (.exit i) s
 |r,s=>Q r s
variable {Q Q':Xt→St→Prop} {s:St}
theorem Wp.imp {c:Code} (h:Wp cx O keep io nm c s Q) (hq:∀r s,Q r s→Q' r s):Wp cx O keep io nm c s Q':=by
 obtain⟨r,s',h1,h2⟩:=h.run;exact .mk ⟨r,s',h1,hq r s' h2⟩
theorem Wp.skip (h:Q .normal s):Wp cx O keep io nm .skip s Q:=.mk ⟨_,_,.skip,h⟩
theorem Wp.ret (h:Q .ret s):Wp cx O keep io nm .ret s Q:=.mk ⟨_,_,.ret,h⟩
theorem Wp.exit {id:Nat} (h:Q (.exit id) s):Wp cx O keep io nm (.exit id) s Q:=.mk ⟨_,_,.exit,h⟩
theorem Wp.seq {a b:Code} (h:Wp cx O keep io nm a s (Sq cx O keep io nm b Q)):Wp cx O keep io nm (.seq a b) s Q:=by
 obtain⟨r,s1,h1,h2⟩:=h.run
 cases r with
 |normal=>obtain⟨r,s',h3,h4⟩:=h2.run;exact .mk ⟨r,s',.seq h1 h3,h4⟩
 |exit i=>exact .mk ⟨_,_,.seqx h1 (by intro e;cases e),h2⟩
 |ret=>exact .mk ⟨_,_,.seqx h1 (by intro e;cases e),h2⟩
theorem Wp.condT {c:Operand} {a b:Code} (hc:ev s c=.bool true) (h:Wp cx O keep io nm a s Q):Wp cx O keep io nm (.cond c a b) s Q:=by
 obtain⟨r,s',h1,h2⟩:=h.run;exact .mk ⟨r,s',.condT hc h1,h2⟩
theorem Wp.condF {c:Operand} {a b:Code} (hc:ev s c=.bool false) (h:Wp cx O keep io nm b s Q):Wp cx O keep io nm (.cond c a b) s Q:=by
 obtain⟨r,s',h1,h2⟩:=h.run;exact .mk ⟨r,s',.condF hc h1,h2⟩
theorem Wp.cond {c:Operand} {a b:Code} {x:Bool} (hc:ev s c=.bool x) (ht:x=true→Wp cx O keep io nm a s Q) (hf:x=false→Wp cx O keep io nm b s Q):Wp cx O keep io nm (.cond c a b) s Q:=by
 cases x with
 |true=>exact .condT hc (ht rfl)
 |false=>exact .condF hc (hf rfl)
theorem Wp.block {id:Nat} {b:Code} (h:Wp cx O keep io nm b s (Bq id Q)):Wp cx O keep io nm (.block id b) s Q:=by
 obtain⟨r,s',h1,h2⟩:=h.run
 cases r with
 |normal=>exact .mk ⟨_,_,.block h1 rfl,h2⟩
 |ret=>exact .mk ⟨_,_,.block h1 rfl,h2⟩
 |exit i=>
  simp only[Bq]at h2
  by_cases e:i=id
  ·rw[if_pos e]at h2;exact .mk ⟨_,_,.block h1 (by simp[e]),h2⟩
  ·rw[if_neg e]at h2;exact .mk ⟨_,_,.block h1 (by simp[e]),h2⟩
theorem Wp.loop {b:Code} (h:Wp cx O keep io nm b s (Lq cx O keep io nm b Q)):Wp cx O keep io nm (.loop b) s Q:=by
 obtain⟨r,s1,h1,h2⟩:=h.run
 cases r with
 |normal=>obtain⟨r,s',h3,h4⟩:=h2.run;exact .mk ⟨r,s',.loop h1 h3,h4⟩
 |exit i=>exact .mk ⟨_,_,.loopx h1 (by intro e;cases e),h2⟩
 |ret=>exact .mk ⟨_,_,.loopx h1 (by intro e;cases e),h2⟩
theorem Wp.loopI {b:Code} (I:Nat→St→Prop) (hb:∀m s,I m s→Wp cx O keep io nm b s fun r s'=>match r with| .normal=>∃m',m'<m∧I m' s'|r=>Q r s') {m:Nat} (h:I m s):Wp cx O keep io nm (.loop b) s Q:=by
 induction m using Nat.strongRecOn generalizing s with
 |ind m ih=>
  refine .loop ((hb m s h).imp fun r s' hq=>?_)
  cases r with
  |normal=>obtain⟨m',h1,h2⟩:=hq;exact ih m' h1 h2
  |exit i=>exact hq
  |ret=>exact hq
structure Ro (cx:Cx) (O:List Ent) (keep io:Nat) (ops:Array Oper) (draw:Bool) (os:List Oper) (k:Nat) (s:St) (log:List (Nat×Eff)) (K:St→Prop):Prop where
 run:∃s',RO cx O keep io ops draw os k s log s'∧K s'
variable {os:List Oper} {k:Nat} {t h h':Hp} {d d':List Up} {al:Bool} {log:List (Nat×Eff)} {K:St→Prop} {o:Oper} {e:Eff}
theorem Ro.nil (hK:K s):Ro cx O keep io ops draw [] k s log K:=⟨_,.nil,hK⟩
theorem Ro.pure {v:AV} (hw:wantX ops ⟨t,h,d,al⟩ o=some true) (ho:∀call,opX cx call keep ⟨t,h,d,al⟩ o=some ⟨v,[],[]⟩)
  (nx:Ro cx O keep io ops draw os (k+1) ⟨putX t o.dst v,h,d,al⟩ ((k,⟨v,[],[]⟩)::log) K):Ro cx O keep io ops draw (o::os) k ⟨t,h,d,al⟩ log K:=by
 obtain⟨s',h1,h2⟩:=nx.run;exact⟨s',.pure hw ho h1,h2⟩
theorem Ro.skip (hw:wantX ops ⟨t,h,d,al⟩ o=some false) (nx:Ro cx O keep io ops draw os (k+1) ⟨putX t o.dst (.tup []),h,d,al⟩ log K):Ro cx O keep io ops draw (o::os) k ⟨t,h,d,al⟩ log K:=by
 obtain⟨s',h1,h2⟩:=nx.run;exact⟨s',.skip hw h1,h2⟩
theorem Ro.eff (hw:wantX ops ⟨t,h,d,al⟩ o=some true) (ho:∀call,opX cx call keep ⟨t,h,d,al⟩ o=some e) (hu:e.up.all (upOk io)=true) (hc:draw=false∨checkX ops k e log=true)
  (nx:Ro cx O keep io ops draw os (k+1) ⟨putX t o.dst e.val,Up.apps e.up h,d++dn e.up,al⟩ ((k,e)::log) K):Ro cx O keep io ops draw (o::os) k ⟨t,h,d,al⟩ log K:=by
 obtain⟨s',h1,h2⟩:=nx.run;exact⟨s',.eff hw ho hu hc rfl rfl h1,h2⟩
theorem Ro.call {f:Nat} {vs:List AV} {r:AV×List AV} (hw:wantX ops ⟨t,h,d,al⟩ o=some true) (ha:Ans cx O f vs r) (ho:∀call,call f vs=some r→opX cx call keep ⟨t,h,d,al⟩ o=some e) (hu:e.up.all (upOk io)=true) (hc:draw=false∨checkX ops k e log=true)
  (nx:Ro cx O keep io ops draw os (k+1) ⟨putX t o.dst e.val,Up.apps e.up h,d++dn e.up,al⟩ ((k,e)::log) K):Ro cx O keep io ops draw (o::os) k ⟨t,h,d,al⟩ log K:=by
 obtain⟨s',h1,h2⟩:=nx.run;exact⟨s',.call hw ha ho hu hc rfl rfl h1,h2⟩
theorem Wp.reg {id:Nat} {t0 h0 t1 h1:Hp} {d0 d1:List Up} {al:Bool} (hk:killX ops.toList (frzS nm id ⟨t0,h0,d0,false⟩)=⟨t1,h1,d1,false⟩) (ha:nm.contains id=al) (h:Ro cx O (keepAt keep nm id) io ops draw ops.toList 0 ⟨t1,h1,d1,al⟩ [] fun s1=>∃s',finU (keepAt keep nm id) io ops.toList s1=some s'∧Q .normal s'):Wp cx O keep io nm (.region id ops draw) ⟨t0,h0,d0,false⟩ Q:=by
 obtain⟨s1,h2,s',h3,h4⟩:=h.run
 exact .mk ⟨_,_,.reg (by rw[hk,ha]) h2 (by rw[finU_eq];exact h3),h4⟩
theorem orc_none {f:Nat} {args:List AV} (h:∀e∈O,e.f≠f):orc O f args=none:=by
 cases ho:orc O f args with
 |none=>rfl
 |some r=>obtain⟨e,he,h1,_⟩:=orc_mem ho;exact absurd h1 (h e he)
variable {call:CallF}
theorem op_idx {ty e:Nat} {x ix:Operand} {ei:TyI} {lab sz:Nat} {es:List AV} {ik:IntKind} {n:Int} {a:AV} (h0:o.op=.indexAddr ty x ix) (h1:cx.kind ty=some (.slice e)) (h2:cx.T e=some ei) (h3:ev ⟨t,h,d,al⟩ x=.fz lab sz es) (h4:ev ⟨t,h,d,al⟩ ix=.int ik n) (h5:0≤n) (h6:es[n.toNat]?=some a) (h7:Nat.beq sz ei.size=true):
  opX cx call keep ⟨t,h,d,al⟩ o=some ⟨.fp lab a 0,[],[]⟩:=by
 simp only[opX,h0,oIndexAddr,h1,h2,h3,h4,if_pos h5,h6,h7,cond_true,pureE]
theorem op_idxr {ty e:Nat} {x ix:Operand} {ei:TyI} {sz off len:Nat} {pl:Pl} {ik:IntKind} {n:Int} (h0:o.op=.indexAddr ty x ix) (h1:cx.kind ty=some (.slice e)) (h2:cx.T e=some ei) (h3:ev ⟨t,h,d,al⟩ x=.rf sz pl off len) (h4:ev ⟨t,h,d,al⟩ ix=.int ik n) (h5:0≤n) (h6:n<len) (h7:Nat.beq sz ei.size=true) (h8:useOk ⟨t,h,d,al⟩ pl=true):
  opX cx call keep ⟨t,h,d,al⟩ o=some {val:=.ptr pl (off+n.toNat) 0,rd:=[⟨pl,false⟩],up:=[]}:=by
 simp only[opX,h0,oIndexAddr,h1,h2,h3,h4,h7,h8,decide_eq_true h5,decide_eq_true h6,Bool.and_self,cond_true]
theorem op_call {c:Call} {f:Nat} {fn:FnS} {x:Exs} {res:AV} {outs:List AV} {ius:List Up} {r:AV×List Up} (h0:o.op=.call c) (h1:c.callee=.value (.func f)) (hF:cx.F f=some fn) (hx:expArgs cx ⟨t,h,d,al⟩ fn.params fn.modes (c.args.toList.map (ev ⟨t,h,d,al⟩))=some x)
  (hl:(x.lent&& !(noLent res&&noLentL outs))=false) (hi:ioUps x.io outs=some ius) (hr:(if fn.own then imp (1024*(o.dst.getD 0+1)) res else(frz 0 res,[]))=r) (hok:(!al&&noLkL x.vs&&Nat.ble x.io.length 1&&apartUps (x.up++ius)&&newsOk ⟨t,h,d,al⟩ r.2)=true)
  (hc:call f x.vs=some (res,outs)):opX cx call keep ⟨t,h,d,al⟩ o=some {val:=r.1,rd:=x.rd,up:=x.up++ius++r.2}:=by
 simp only[opX,h0,oCall,h1,callX,hF,hx,fDL_eq,fD_eq,hc,hl,Bool.false_eq_true,if_false,hi,hr,hok,if_true]
theorem Ro.callF {c:Call} {f:Nat} {fn:FnS} {x:Exs} {res:AV} {outs:List AV} {ius:List Up} {r:AV×List Up} (hw:wantX ops ⟨t,h,d,al⟩ o=some true) (h0:o.op=.call c) (h1:c.callee=.value (.func f)) (hF:cx.F f=some fn) (hx:expArgs cx ⟨t,h,d,al⟩ fn.params fn.modes (c.args.toList.map (ev ⟨t,h,d,al⟩))=some x)
  (ha:Ans cx O f x.vs (res,outs))
  (hl:(x.lent&& !(noLent res&&noLentL outs))=false) (hi:ioUps x.io outs=some ius) (hr:(if fn.own then imp (1024*(o.dst.getD 0+1)) res else(frz 0 res,[]))=r) (hok:(!al&&noLkL x.vs&&Nat.ble x.io.length 1&&apartUps (x.up++ius)&&newsOk ⟨t,h,d,al⟩ r.2)=true)
  (hu:(x.up++ius++r.2).all (upOk io)=true) (hc:draw=false∨checkX ops k {val:=r.1,rd:=x.rd,up:=x.up++ius++r.2} log=true)
  (nx:Ro cx O keep io ops draw os (k+1) ⟨putX t o.dst r.1,Up.apps (x.up++ius++r.2) h,d++dn (x.up++ius++r.2),al⟩ ((k,{val:=r.1,rd:=x.rd,up:=x.up++ius++r.2})::log) K):Ro cx O keep io ops draw (o::os) k ⟨t,h,d,al⟩ log K:=
 Ro.call hw ha (fun _ hc=>op_call h0 h1 hF hx hl hi hr hok hc) hu hc nx
end Go.Am
end
section
namespace Go.Am
def eqO:Option AV→Option AV→Bool
 |none,none=>true
 |some a,some b=>eqAV a b
 |_,_=>false
def eqTy:Option TyI→TyI→Bool
 |some a,b=>Nat.beq a.size b.size&&Nat.beq a.bytes b.bytes&&decide (a.kind=b.kind)&&eqO a.zero b.zero&&decide (a.flat=b.flat)
 |none,_=>false
theorem eqTy_ok {a:Option TyI} {b:TyI} (h:eqTy a b=true):a=some b:=by
 cases a with
 |none=>cases h
 |some a=>
  simp only[eqTy,Bool.and_eq_true,decide_eq_true_eq]at h
  obtain⟨⟨⟨⟨h1,h2⟩,h3⟩,h4⟩,h5⟩:=h
  have hz:a.zero=b.zero:=by
   cases ha:a.zero<;>cases hb:b.zero<;>rw[ha,hb]at h4<;>first|rfl|(cases h4;done)|(rw[eqAV_ok h4])
  obtain⟨s1,b1,k1,z1,f1⟩:=a
  obtain⟨s2,b2,k2,z2,f2⟩:=b
  simp only at h1 h2 h3 h5 hz
  rw[show s1=s2 from Nat.eq_of_beq_eq_true h1,show b1=b2 from Nat.eq_of_beq_eq_true h2,h3,hz,h5]
def mkCxT (P:Program) (T:Tr TyI) (A:Tr Ann):Cx:=⟨T.get,(mkCx P A).F⟩
theorem mkCxT_T {P:Program} {T:Tr TyI} {A:Tr Ann} (h:T.allB (fun t i=>eqTy (mkTy P t) i) id=true):TOk P (mkCxT P T A):=fun t i ht=>eqTy_ok (Tr.allB_ok h ht)
theorem mkCxT_F {P:Program} {T:Tr TyI} {A:Tr Ann} (h:A.allB (fun f _=>chkFn P f) id=true):FnsOk P (mkCxT P T A):=fun f fn hf=>mkCx_F h f fn hf
end Go.Am
end
section
namespace Go.Am.Pull
open Go Go.Proofs
noncomputable def A:Tr Ann:=.node none (.node none (.node (some ⟨32735,[0,0,0],false,[]⟩) (.node (some ⟨67039,[0,0,0],false,[]⟩) (.node (some ⟨127,[],false,[]⟩) (.node (some ⟨35186586681407,[0,0],false,[]⟩) (.node (some ⟨59,[0,0],false,[]⟩) .leaf .leaf) (.node none .leaf .leaf)) (.node (some ⟨147574093395892961055,[0,0,0,0],false,[]⟩) (.node (some ⟨34359740623,[0,0,0],false,[]⟩) .leaf .leaf) .leaf)) (.node (some ⟨8598078175,[0,0,0],false,[274877906953,274877906954,274877906955,274877906956]⟩) (.node (some ⟨4195303,[3,0,2],false,[]⟩) (.node (some ⟨9293141131677663,[0,0,0,0],false,[]⟩) .leaf .leaf) (.node none .leaf .leaf)) (.node (some ⟨36028801448149055,[0,0],false,[]⟩) (.node (some ⟨536871483,[0,0],false,[]⟩) .leaf .leaf) .leaf))) (.node (some ⟨9939826006442155024993782783,[0,0],false,[1426112365422946342515110838281,1426112365422946342515110838282,1426112365422946342515110838283,1426112365422946342515110838284,1426111760960036535200523485197,1426106925256758076683824660494,1426111760960036535200489930767,1426111760960036535200523485200,1426112365422946342515110838289,1426111760960036535200523485202,1267656040394417667328022937619,5440166188265831319732244,1267656040394417667328022937621,1267656040394417667328022937622,1426112365422946342515110838295,1267656040394417667328022937624,1426112365422946342515110838297]⟩) (.node (some ⟨178573153045962979699872563199,[0],false,[]⟩) (.node (some ⟨9930117051542186637832225735,[3,0,0],false,[]⟩) (.node (some ⟨33571891,[0,0],false,[]⟩) .leaf .leaf) (.node none .leaf .leaf)) (.node (some ⟨562982702547167,[0,0],false,[]⟩) (.node (some ⟨4198651,[0,0],false,[]⟩) .leaf .leaf) .leaf)) (.node (some ⟨174384079224203105635710220916204138141183,[0],false,[2097156,70368744177669,70368744177670,70368746274823,70368746274824,70368746274825,41538374868278621028243970633760782,41538374868278621028243970633760783,41538374868278621028243970633760784,41538374868278621028243970633760785,268435475,5575186299632655785383929568162090376495124,5575186299632655785383929568162090644930581,5575186299632655785383929568162090644930582]⟩) (.node (some ⟨7,[0],false,[]⟩) (.node (some ⟨158765817121953787769499161039,[0,0,0],false,[]⟩) .leaf .leaf) .leaf) (.node (some ⟨5070604837663318214290419221479,[3,0,2],false,[]⟩) (.node none .leaf .leaf) .leaf)))) (.node (some ⟨2015,[0,0,0],false,[]⟩) (.node (some ⟨66527,[0,0,0],false,[]⟩) (.node (some ⟨549823188959,[0,0,0],false,[]⟩) (.node (some ⟨1967,[0],false,[]⟩) (.node (some ⟨535,[0,0],false,[]⟩) .leaf .leaf) (.node none .leaf .leaf)) (.node (some ⟨536875319,[0,0],false,[]⟩) (.node (some ⟨8389747,[3,0],false,[]⟩) .leaf .leaf) .leaf)) (.node (some ⟨4319,[0,0,0],false,[]⟩) (.node (some ⟨15,[0],false,[]⟩) (.node (some ⟨1160569081995963619946268111,[0,0,3],false,[67108879,40564819207303340847894502572048,40564819207303340847894569680913,40564819207303340847894569680914]⟩) .leaf .leaf) .leaf) (.node (some ⟨39,[3,0,2],false,[]⟩) (.node none .leaf .leaf) .leaf))) (.node (some ⟨31,[0,0],false,[]⟩) (.node (some ⟨135,[0],false,[]⟩) (.node (some ⟨21,[0],true,[]⟩) (.node (some ⟨155044810162122773141405503,[0,0,0,0],false,[]⟩) .leaf .leaf) (.node none .leaf .leaf)) (.node (some ⟨144115188075856445,[0],false,[]⟩) (.node (some ⟨524831,[0,0],false,[]⟩) .leaf .leaf) .leaf)) (.node (some ⟨1154082589154213903,[0],false,[]⟩) (.node (some ⟨131635,[0,0],false,[]⟩) (.node (some ⟨72057594306364403,[3,0],false,[]⟩) .leaf .leaf) .leaf) (.node (some ⟨68719544447,[0],false,[]⟩) (.node none .leaf .leaf) .leaf))))) (.node (some ⟨0,[],false,[]⟩) (.node (some ⟨326816170372529483749922176831,[0,0,0,0],false,[]⟩) (.node (some ⟨67039,[0,0,0],false,[]⟩) (.node (some ⟨295147912945158094815,[0,0,0],false,[15,4194311,17592190238728,17592190238729,17592186044426,17592190238731,1073741838,288230377225453583,288230376151711760,288230376151711761,288230377225453586,288230377225453587,288230377225453588]⟩) (.node (some ⟨95,[],false,[]⟩) (.node (some ⟨59,[1,0],true,[]⟩) .leaf .leaf) (.node none .leaf .leaf)) (.node (some ⟨303430493269547927211839,[0,0,0,0],false,[]⟩) (.node (some ⟨543,[0],true,[]⟩) .leaf .leaf) .leaf)) (.node (some ⟨17197567967,[0,0,0],false,[]⟩) (.node (some ⟨134250621,[0],false,[]⟩) (.node (some ⟨8796093022493,[0],false,[]⟩) .leaf .leaf) (.node none .leaf .leaf)) (.node (some ⟨5,[0],false,[]⟩) (.node none .leaf .leaf) .leaf))) (.node (some ⟨20769188055527255871248069822514431,[0,0],false,[]⟩) (.node (some ⟨36028831648251903,[0,0],false,[]⟩) (.node (some ⟨21,[0],true,[]⟩) (.node (some ⟨70368744734967,[0,0],false,[]⟩) .leaf .leaf) (.node none .leaf .leaf)) (.node (some ⟨1126518667345949,[0],false,[]⟩) (.node (some ⟨268435487,[0,0],false,[]⟩) .leaf .leaf) .leaf)) (.node (some ⟨17594333596991,[0,0,0,0],false,[]⟩) (.node (some ⟨4398046520271,[0,0,0],false,[]⟩) (.node (some ⟨5,[0],false,[]⟩) .leaf .leaf) .leaf) (.node (some ⟨13,[0],true,[]⟩) (.node none .leaf .leaf) .leaf)))) (.node (some ⟨309787241276248730379838711,[0,0],false,[]⟩) (.node (some ⟨66527,[0,0,0],false,[]⟩) (.node (some ⟨33571891,[0,0],false,[]⟩) (.node (some ⟨31,[0,0],true,[]⟩) (.node (some ⟨5150140048446226678286712315903,[0,0],false,[]⟩) .leaf .leaf) (.node none .leaf .leaf)) (.node (some ⟨1101558448173,[0],false,[]⟩) (.node (some ⟨1152921504875546399,[0,0,0,0],false,[]⟩) .leaf .leaf) .leaf)) (.node (some ⟨17867098038239,[0,0,0],false,[34045963,34111499,34177035,34045965,34111501,34177037,34045966,34111502,34177038]⟩) (.node (some ⟨24501659656444559389293165692963152003063,[0,0],false,[]⟩) (.node (some ⟨18014398509621309,[0],false,[]⟩) .leaf .leaf) .leaf) (.node (some ⟨1125900175278579,[3,0],false,[]⟩) (.node none .leaf .leaf) .leaf))) (.node (some ⟨33571891,[0,0],false,[]⟩) (.node (some ⟨1152994072512692351,[0,0],false,[]⟩) (.node (some ⟨31,[0,0],true,[]⟩) (.node (some ⟨159,[0,0],false,[]⟩) .leaf .leaf) (.node none .leaf .leaf)) (.node (some ⟨70407398952989,[0],false,[]⟩) (.node (some ⟨274877908087,[0,0],false,[]⟩) .leaf .leaf) .leaf)) (.node (some ⟨70377334181247,[0,0,0,0],false,[]⟩) (.node (some ⟨162895580502815551808325858366463,[0,0],false,[]⟩) (.node (some ⟨39,[3,0,2],false,[]⟩) .leaf .leaf) .leaf) (.node (some ⟨137438987511,[0,0],false,[]⟩) (.node none .leaf .leaf) .leaf)))))
def T:Tr TyI:=.node (some ⟨1,0,.other,none,none⟩) (.node (some ⟨1,8,.other,(some (.un)),none⟩) (.node (some ⟨1,8,.int .i64,(some (.int .i64 0)),none⟩) (.node (some ⟨4,24,.struct [(0,(2,1)),(1,(3,1)),(2,(4,1)),(3,(6,1))],(some (.agg [.int .i64 0,.int .i64 0,.bool false,.int .u8 0])),(some ([.int .i64,.int .i64,.bool,.int .u8]))⟩) (.node (some ⟨1,8,.ptr 159,(some (.nilp)),none⟩) (.node (some ⟨1,24,.slice 3,(some (.fz 1 0 [])),none⟩) (.node (some ⟨1,0,.other,none,none⟩) (.node (some ⟨1,8,.other,(some (.un)),none⟩) .leaf .leaf) .leaf) (.node (some ⟨1,24,.slice 4,(some (.fz 1 0 [])),none⟩) (.node (some ⟨4,40,.struct [(0,(17,1)),(1,(17,1)),(2,(17,1)),(3,(9,1))],(some (.agg [.nilp,.nilp,.nilp,.str ⟨#[]⟩])),none⟩) .leaf .leaf) .leaf)) (.node (some ⟨1,8,.other,(some (.un)),none⟩) (.node (some ⟨11,232,.struct [(0,(77,2)),(2,(26,5)),(7,(30,2)),(9,(41,1)),(10,(3,1))],(some (.agg [.fz 1 0 [],.fz 1 0 [],.fz 1 0 [],.fz 1 0 [],.fz 1 0 [],.fz 1 0 [],.int .i64 0,.fz 1 0 [],.fz 1 0 [],.fz 1 0 [],.int .i64 0])),none⟩) (.node (some ⟨1,8,.other,(some (.un)),none⟩) .leaf .leaf) .leaf) (.node (some ⟨1,0,.other,none,none⟩) .leaf .leaf))) (.node (some ⟨1,24,.slice 117,(some (.fz 1 0 [])),none⟩) (.node (some ⟨1,8,.other,(some (.un)),none⟩) (.node (some ⟨1,8,.other,(some (.un)),none⟩) (.node (some ⟨1,8,.other,(some (.un)),none⟩) .leaf .leaf) .leaf) (.node (some ⟨3,24,.struct [(0,(3,1)),(1,(3,1)),(2,(3,1))],(some (.agg [.int .i64 0,.int .i64 0,.int .i64 0])),(some ([.int .i64,.int .i64,.int .i64]))⟩) (.node (some ⟨1,8,.ptr 5,(some (.nilp)),none⟩) .leaf .leaf) .leaf)) (.node (some ⟨1,8,.other,(some (.un)),none⟩) (.node (some ⟨1,8,.other,(some (.un)),none⟩) (.node (some ⟨1,8,.other,(some (.un)),none⟩) .leaf .leaf) .leaf) (.node (some ⟨1,24,.slice 121,(some (.fz 1 0 [])),none⟩) .leaf .leaf)))) (.node (some ⟨1,16,.str,(some (.str ⟨#[]⟩)),none⟩) (.node (some ⟨1,8,.struct [(0,(17,1))],(some (.agg [.nilp])),none⟩) (.node (some ⟨3,40,.struct [(0,(3,1)),(1,(3,1)),(2,(33,1))],(some (.agg [.int .i64 0,.int .i64 0,.fz 1 0 []])),none⟩) (.node (some ⟨1,8,.other,(some (.un)),none⟩) (.node (some ⟨1,8,.other,(some (.un)),none⟩) .leaf .leaf) .leaf) (.node (some ⟨1,8,.other,(some (.un)),none⟩) (.node (some ⟨1,4,.int .u32,(some (.int .u32 0)),none⟩) .leaf .leaf) .leaf)) (.node (some ⟨2,16,.struct [(0,(3,1)),(1,(3,1))],(some (.agg [.int .i64 0,.int .i64 0])),(some ([.int .i64,.int .i64]))⟩) (.node (some ⟨1,8,.other,(some (.un)),none⟩) (.node (some ⟨1,8,.other,(some (.un)),none⟩) .leaf .leaf) .leaf) (.node (some ⟨1,8,.other,(some (.un)),none⟩) .leaf .leaf))) (.node (some ⟨1,24,.slice 41,(some (.fz 1 0 [])),none⟩) (.node (some ⟨1,8,.other,(some (.un)),none⟩) (.node (some ⟨1,8,.other,(some (.un)),none⟩) (.node (some ⟨1,8,.other,(some (.un)),none⟩) .leaf .leaf) .leaf) (.node (some ⟨1,8,.other,(some (.un)),none⟩) (.node (some ⟨11,48,.struct [(0,(12,1)),(1,(12,1)),(2,(163,1)),(3,(164,1)),(4,(5,1)),(5,(5,1)),(6,(165,1)),(7,(166,1)),(8,(167,1)),(9,(168,1)),(10,(169,1))],(some (.agg [.int .u64 0,.int .u64 0,.int .u32 0,.int .u8 0,.int .u8 0,.int .u8 0,.int .u8 0,.un,.nilp,.int .i32 0,.int .i32 0])),none⟩) .leaf .leaf) .leaf)) (.node (some ⟨2,48,.struct [(0,(57,1)),(1,(28,1))],(some (.agg [.fz 1 0 [],.fz 1 0 []])),none⟩) (.node (some ⟨1,8,.other,(some (.un)),none⟩) (.node (some ⟨1,8,.other,(some (.un)),none⟩) .leaf .leaf) .leaf) (.node (some ⟨7,96,.struct [(0,(3,1)),(1,(31,1)),(2,(3,1)),(3,(121,4))],(some (.agg [.int .i64 0,.fz 1 0 [],.int .i64 0,.int .i64 0,.int .i64 0,.str ⟨#[]⟩,.fz 1 0 []])),none⟩) .leaf .leaf))))) (.node (some ⟨1,1,.int .u8,(some (.int .u8 0)),none⟩) (.node (some ⟨1,16,.str,(some (.str ⟨#[]⟩)),none⟩) (.node (some ⟨1,8,.ptr 171,(some (.nilp)),none⟩) (.node (some ⟨1,24,.slice 35,(some (.fz 1 0 [])),none⟩) (.node (some ⟨1,8,.other,(some (.un)),none⟩) (.node (some ⟨1,8,.other,(some (.un)),none⟩) .leaf .leaf) .leaf) (.node (some ⟨7,152,.struct [(0,(26,5)),(5,(95,1)),(6,(96,1))],(some (.agg [.fz 1 0 [],.fz 1 0 [],.fz 1 0 [],.fz 1 0 [],.int .i64 0,.fz 1 0 [],.fz 1 0 []])),none⟩) (.node (some ⟨0,0,.struct [(0,(160,0))],(some (.agg [])),none⟩) .leaf .leaf) .leaf)) (.node (some ⟨1,8,.other,(some (.un)),none⟩) (.node (some ⟨1,8,.other,(some (.un)),none⟩) (.node (some ⟨1,8,.other,(some (.un)),none⟩) .leaf .leaf) .leaf) (.node (some ⟨1,8,.other,(some (.un)),none⟩) .leaf .leaf))) (.node (some ⟨5,104,.struct [(0,(22,1)),(1,(23,1)),(2,(22,1)),(3,(24,1)),(4,(3,1))],(some (.agg [.fz 1 0 [],.fz 1 0 [],.fz 1 0 [],.fz 1 0 [],.int .i64 0])),none⟩) (.node (some ⟨1,24,.slice 51,(some (.fz 1 0 [])),none⟩) (.node (some ⟨11,232,.struct [(0,(26,5)),(5,(30,2)),(7,(31,1)),(8,(33,1)),(9,(41,1)),(10,(3,1))],(some (.agg [.fz 1 0 [],.fz 1 0 [],.fz 1 0 [],.fz 1 0 [],.int .i64 0,.fz 1 0 [],.fz 1 0 [],.fz 1 0 [],.fz 1 0 [],.fz 1 0 [],.int .i64 0])),none⟩) (.node (some ⟨1,8,.other,(some (.un)),none⟩) .leaf .leaf) .leaf) (.node (some ⟨1,8,.other,(some (.un)),none⟩) (.node (some ⟨1,4,.int .i32,(some (.int .i32 0)),none⟩) .leaf .leaf) .leaf)) (.node (some ⟨1,24,.slice 100,(some (.fz 1 0 [])),none⟩) (.node (some ⟨1,8,.other,(some (.un)),none⟩) (.node (some ⟨1,8,.other,(some (.un)),none⟩) .leaf .leaf) .leaf) (.node (some ⟨4,56,.struct [(0,(3,1)),(1,(3,1)),(2,(9,1)),(3,(119,1))],(some (.agg [.int .i64 0,.int .i64 0,.str ⟨#[]⟩,.fz 1 0 []])),none⟩) .leaf .leaf)))) (.node (some ⟨2,24,.struct [(0,(9,1)),(1,(12,1))],(some (.agg [.str ⟨#[]⟩,.int .u64 0])),none⟩) (.node (some ⟨1,4,.int .i32,(some (.int .i32 0)),none⟩) (.node (some ⟨5,56,.struct [(0,(32,1)),(1,(3,1)),(2,(35,3))],(some (.agg [.int .i64 0,.int .i64 0,.int .i64 0,.int .i64 0,.fz 1 0 []])),none⟩) (.node (some ⟨1,8,.ptr 79,(some (.nilp)),none⟩) (.node (some ⟨1,8,.other,(some (.un)),none⟩) .leaf .leaf) .leaf) (.node (some ⟨1,0,.other,none,none⟩) (.node (some ⟨1,1,.int .u8,(some (.int .u8 0)),none⟩) .leaf .leaf) .leaf)) (.node (some ⟨1,0,.other,none,none⟩) (.node (some ⟨1,8,.other,(some (.un)),none⟩) (.node (some ⟨1,8,.other,(some (.un)),none⟩) .leaf .leaf) .leaf) (.node (some ⟨2,16,.struct [(0,(3,1)),(1,(3,1))],(some (.agg [.int .i64 0,.int .i64 0])),(some ([.int .i64,.int .i64]))⟩) .leaf .leaf))) (.node (some ⟨2,48,.struct [(0,(27,1)),(1,(28,1))],(some (.agg [.fz 1 0 [],.fz 1 0 []])),none⟩) (.node (some ⟨1,8,.other,(some (.un)),none⟩) (.node (some ⟨2,48,.struct [(0,(31,1)),(1,(33,1))],(some (.agg [.fz 1 0 [],.fz 1 0 []])),none⟩) (.node (some ⟨1,8,.other,(some (.un)),none⟩) .leaf .leaf) .leaf) (.node (some ⟨7,72,.struct [(0,(3,1)),(1,(3,1)),(2,(3,1)),(3,(31,1)),(4,(51,2)),(6,(4,1))],(some (.agg [.int .i64 0,.int .i64 0,.int .i64 0,.fz 1 0 [],.int .i64 0,.int .i64 0,.bool false])),none⟩) .leaf .leaf)) (.node (some ⟨1,8,.other,(some (.un)),none⟩) (.node (some ⟨1,8,.other,(some (.un)),none⟩) (.node (some ⟨1,8,.other,(some (.un)),none⟩) .leaf .leaf) .leaf) (.node (some ⟨1,8,.other,(some (.un)),none⟩) .leaf .leaf)))))) (.node (some ⟨1,8,.int .i64,(some (.int .i64 0)),none⟩) (.node (some ⟨1,1,.bool,(some (.bool false)),none⟩) (.node (some ⟨4,24,.struct [(0,(2,1)),(1,(3,1)),(2,(4,1)),(3,(6,1))],(some (.agg [.int .i64 0,.int .i64 0,.bool false,.int .u8 0])),(some ([.int .i64,.int .i64,.bool,.int .u8]))⟩) (.node (some ⟨1,8,.ptr 162,(some (.nilp)),none⟩) (.node (some ⟨1,8,.int .i64,(some (.int .i64 0)),none⟩) (.node (some ⟨1,8,.other,(some (.un)),none⟩) (.node (some ⟨1,8,.other,(some (.un)),none⟩) .leaf .leaf) .leaf) (.node (some ⟨1,24,.slice 95,(some (.fz 1 0 [])),none⟩) (.node none .leaf .leaf) .leaf)) (.node (some ⟨1,8,.other,(some (.un)),none⟩) (.node (some ⟨1,8,.other,(some (.un)),none⟩) (.node (some ⟨1,8,.other,(some (.un)),none⟩) .leaf .leaf) .leaf) (.node (some ⟨1,8,.other,(some (.un)),none⟩) .leaf .leaf))) (.node (some ⟨1,24,.slice 123,(some (.fz 1 0 [])),none⟩) (.node (some ⟨1,8,.other,(some (.un)),none⟩) (.node (some ⟨11,232,.struct [(0,(26,5)),(5,(30,2)),(7,(31,1)),(8,(33,1)),(9,(41,1)),(10,(3,1))],(some (.agg [.fz 1 0 [],.fz 1 0 [],.fz 1 0 [],.fz 1 0 [],.int .i64 0,.fz 1 0 [],.fz 1 0 [],.fz 1 0 [],.fz 1 0 [],.fz 1 0 [],.int .i64 0])),none⟩) (.node (some ⟨1,8,.other,(some (.un)),none⟩) .leaf .leaf) .leaf) (.node (some ⟨3,24,.struct [(0,(3,1)),(1,(3,1)),(2,(3,1))],(some (.agg [.int .i64 0,.int .i64 0,.int .i64 0])),(some ([.int .i64,.int .i64,.int .i64]))⟩) (.node (some ⟨1,4,.int .i32,(some (.int .i32 0)),none⟩) .leaf .leaf) .leaf)) (.node (some ⟨1,8,.other,(some (.un)),none⟩) (.node (some ⟨1,8,.other,(some (.un)),none⟩) (.node (some ⟨1,8,.other,(some (.un)),none⟩) .leaf .leaf) .leaf) (.node (some ⟨4,56,.struct [(0,(3,1)),(1,(3,1)),(2,(9,1)),(3,(119,1))],(some (.agg [.int .i64 0,.int .i64 0,.str ⟨#[]⟩,.fz 1 0 []])),none⟩) .leaf .leaf)))) (.node (some ⟨1,8,.int .u64,(some (.int .u64 0)),none⟩) (.node (some ⟨1,16,.other,(some (.un)),none⟩) (.node (some ⟨5,56,.struct [(0,(32,1)),(1,(3,1)),(2,(35,3))],(some (.agg [.int .i64 0,.int .i64 0,.int .i64 0,.int .i64 0,.fz 1 0 []])),none⟩) (.node (some ⟨1,8,.other,(some (.un)),none⟩) (.node (some ⟨1,8,.other,(some (.un)),none⟩) .leaf .leaf) .leaf) (.node (some ⟨1,24,.slice 104,(some (.fz 1 0 [])),none⟩) (.node (some ⟨1,1,.int .u8,(some (.int .u8 0)),none⟩) .leaf .leaf) .leaf)) (.node (some ⟨1,8,.other,(some (.un)),none⟩) (.node (some ⟨1,0,.other,none,none⟩) (.node (some ⟨1,8,.ptr 77,(some (.nilp)),none⟩) .leaf .leaf) .leaf) (.node (some ⟨2,16,.struct [(0,(3,1)),(1,(3,1))],(some (.agg [.int .i64 0,.int .i64 0])),(some ([.int .i64,.int .i64]))⟩) .leaf .leaf))) (.node (some ⟨1,24,.slice 31,(some (.fz 1 0 [])),none⟩) (.node (some ⟨1,8,.other,(some (.un)),none⟩) (.node (some ⟨2,48,.struct [(0,(31,1)),(1,(33,1))],(some (.agg [.fz 1 0 [],.fz 1 0 []])),none⟩) (.node (some ⟨1,8,.other,(some (.un)),none⟩) .leaf .leaf) .leaf) (.node (some ⟨1,8,.other,(some (.un)),none⟩) (.node (some ⟨1,8,.other,(some (.nilp)),none⟩) .leaf .leaf) .leaf)) (.node (some ⟨1,0,.other,none,none⟩) (.node (some ⟨1,0,.other,none,none⟩) (.node (some ⟨1,8,.other,(some (.un)),none⟩) .leaf .leaf) .leaf) (.node (some ⟨1,8,.other,(some (.un)),none⟩) .leaf .leaf))))) (.node (some ⟨1,1,.int .u8,(some (.int .u8 0)),none⟩) (.node (some ⟨1,16,.str,(some (.str ⟨#[]⟩)),none⟩) (.node (some ⟨1,8,.struct [(0,(17,1))],(some (.agg [.nilp])),none⟩) (.node (some ⟨3,40,.struct [(0,(3,1)),(1,(3,1)),(2,(33,1))],(some (.agg [.int .i64 0,.int .i64 0,.fz 1 0 []])),none⟩) (.node (some ⟨1,8,.other,(some (.un)),none⟩) (.node (some ⟨1,8,.ptr 73,(some (.nilp)),none⟩) .leaf .leaf) .leaf) (.node (some ⟨7,152,.struct [(0,(26,5)),(5,(95,1)),(6,(96,1))],(some (.agg [.fz 1 0 [],.fz 1 0 [],.fz 1 0 [],.fz 1 0 [],.int .i64 0,.fz 1 0 [],.fz 1 0 []])),none⟩) (.node (some ⟨0,0,.struct [(0,(160,0))],(some (.agg [])),none⟩) .leaf .leaf) .leaf)) (.node (some ⟨2,16,.struct [(0,(3,1)),(1,(3,1))],(some (.agg [.int .i64 0,.int .i64 0])),(some ([.int .i64,.int .i64]))⟩) (.node (some ⟨1,8,.other,(some (.un)),none⟩) (.node (some ⟨1,8,.ptr 3,(some (.nilp)),none⟩) .leaf .leaf) .leaf) (.node (some ⟨1,8,.other,(some (.un)),none⟩) .leaf .leaf))) (.node (some ⟨5,104,.struct [(0,(22,1)),(1,(23,1)),(2,(22,1)),(3,(24,1)),(4,(3,1))],(some (.agg [.fz 1 0 [],.fz 1 0 [],.fz 1 0 [],.fz 1 0 [],.int .i64 0])),none⟩) (.node (some ⟨1,0,.other,none,none⟩) (.node (some ⟨1,0,.other,none,none⟩) (.node (some ⟨1,8,.other,(some (.un)),none⟩) .leaf .leaf) .leaf) (.node (some ⟨1,8,.other,(some (.un)),none⟩) (.node (some ⟨11,48,.struct [(0,(12,1)),(1,(12,1)),(2,(163,1)),(3,(164,1)),(4,(5,1)),(5,(5,1)),(6,(165,1)),(7,(166,1)),(8,(167,1)),(9,(168,1)),(10,(169,1))],(some (.agg [.int .u64 0,.int .u64 0,.int .u32 0,.int .u8 0,.int .u8 0,.int .u8 0,.int .u8 0,.un,.nilp,.int .i32 0,.int .i32 0])),none⟩) .leaf .leaf) .leaf)) (.node (some ⟨2,48,.struct [(0,(57,1)),(1,(28,1))],(some (.agg [.fz 1 0 [],.fz 1 0 []])),none⟩) (.node (some ⟨1,8,.other,(some (.un)),none⟩) (.node (some ⟨1,8,.other,(some (.un)),none⟩) .leaf .leaf) .leaf) (.node (some ⟨7,96,.struct [(0,(3,1)),(1,(31,1)),(2,(3,1)),(3,(121,4))],(some (.agg [.int .i64 0,.fz 1 0 [],.int .i64 0,.int .i64 0,.int .i64 0,.str ⟨#[]⟩,.fz 1 0 []])),none⟩) .leaf .leaf)))) (.node (some ⟨2,24,.struct [(0,(9,1)),(1,(12,1))],(some (.agg [.str ⟨#[]⟩,.int .u64 0])),none⟩) (.node (some ⟨1,24,.slice 9,(some (.fz 1 0 [])),none⟩) (.node (some ⟨1,0,.other,none,none⟩) (.node (some ⟨1,0,.other,none,none⟩) (.node (some ⟨1,8,.other,(some (.un)),none⟩) .leaf .leaf) .leaf) (.node (some ⟨1,8,.other,(some (.un)),none⟩) (.node (some ⟨1,8,.other,(some (.un)),none⟩) .leaf .leaf) .leaf)) (.node (some ⟨1,8,.other,(some (.un)),none⟩) (.node (some ⟨1,8,.other,(some (.un)),none⟩) (.node (some ⟨1,8,.other,(some (.un)),none⟩) .leaf .leaf) .leaf) (.node (some ⟨1,8,.map 9 4,(some (.un)),none⟩) .leaf .leaf))) (.node (some ⟨2,48,.struct [(0,(27,1)),(1,(28,1))],(some (.agg [.fz 1 0 [],.fz 1 0 []])),none⟩) (.node (some ⟨1,8,.other,(some (.un)),none⟩) (.node (some ⟨11,232,.struct [(0,(77,2)),(2,(26,5)),(7,(30,2)),(9,(41,1)),(10,(3,1))],(some (.agg [.fz 1 0 [],.fz 1 0 [],.fz 1 0 [],.fz 1 0 [],.fz 1 0 [],.fz 1 0 [],.int .i64 0,.fz 1 0 [],.fz 1 0 [],.fz 1 0 [],.int .i64 0])),none⟩) (.node (some ⟨1,0,.other,none,none⟩) .leaf .leaf) .leaf) (.node (some ⟨7,72,.struct [(0,(3,1)),(1,(3,1)),(2,(3,1)),(3,(31,1)),(4,(51,2)),(6,(4,1))],(some (.agg [.int .i64 0,.int .i64 0,.int .i64 0,.fz 1 0 [],.int .i64 0,.int .i64 0,.bool false])),none⟩) .leaf .leaf)) (.node (some ⟨1,24,.slice 110,(some (.fz 1 0 [])),none⟩) (.node (some ⟨1,8,.other,(some (.un)),none⟩) (.node (some ⟨4,40,.struct [(0,(17,1)),(1,(17,1)),(2,(17,1)),(3,(9,1))],(some (.agg [.nilp,.nilp,.nilp,.str ⟨#[]⟩])),none⟩) .leaf .leaf) .leaf) (.node (some ⟨1,8,.other,(some (.un)),none⟩) .leaf .leaf))))))
noncomputable def cx:Cx:=mkCxT Try.prog T A
set_option maxRecDepth 1000000
theorem mixed:Try.prog.follows .mixedOrders=true:=by kernel_rfl
theorem chk:A.allB (fun f _=>chkFn Try.prog f) id=true:=by kernel_rfl
theorem chkT:T.allB (fun t i=>eqTy (mkTy Try.prog t) i) id=true:=by kernel_rfl
theorem okT:TOk Try.prog cx:=mkCxT_T chkT
theorem okF:FnsOk Try.prog cx:=mkCxT_F chk
end Go.Am.Pull
end
section
namespace Go.Am
variable {cx:Cx} {O:List Ent} {keep io:Nat} {nm:List Nat} {ops:Array Oper} {draw:Bool}
variable {Q Q':Xt→St→Prop} {s s1:St}
variable {os:List Oper} {k:Nat} {t h:Hp} {d:List Up} {al:Bool} {log:List (Nat×Eff)} {K:St→Prop} {o:Oper}
theorem Wp.cut {c:Code} (s1:St) (h:Wp cx O keep io nm c s fun r s'=>r=.normal∧s'=s1) (h2:Q .normal s1):Wp cx O keep io nm c s Q:=
 h.imp fun r s' ⟨e1,e2⟩=>by subst e1;subst e2;exact h2
theorem Wp.join {c:Code} (M:St→Prop) (h:Wp cx O keep io nm c s fun r s'=>match r with| .normal=>M s'|r=>Q r s') (h2:∀s',M s'→Q .normal s'):Wp cx O keep io nm c s Q:=
 h.imp fun r s' h=>by
  cases r with
  |normal=>exact h2 s' h
  |exit i=>exact h
  |ret=>exact h
end Go.Am
end
section
namespace Go.Am
variable {cx:Cx} {O:List Ent} {keep io:Nat} {nm:List Nat} {ops:Array Oper} {draw:Bool}
def Agr (T t:Hp):Prop:=∀i v,hget T i=some v→tget t i=v
structure Emb (S s:St):Prop where
 t:Agr S.t s.t
 h:s.h=S.h
 d:s.d=S.d
 al:s.alias=S.alias
theorem tget_of {T:Hp} {i:Nat} {v:AV} (h:hget T i=some v):tget T i=v:=by unfold tget;rw[h]
theorem Agr.get {T t:Hp} (h:Agr T t) {i:Nat} (hi:(hget T i).isSome=true):tget t i=tget T i:=by
 cases hx:hget T i with
 |none=>rw[hx]at hi;cases hi
 |some v=>rw[h i v hx,tget_of hx]
theorem hget_cons (k:Nat) (x:AV) (T:Hp) (i:Nat):hget ((k,x)::T) i=if i=k then some x else hget T i:=by
 simp only[hget]
 by_cases e:i=k
 ·subst e;simp
 ·have:Nat.beq i k=false:=by cases h:Nat.beq i k;rfl;exact absurd (Nat.eq_of_beq_eq_true h) e
  rw[this,if_neg e];rfl
theorem Agr.cons {T t:Hp} (h:Agr T t) (d:Nat) (v:AV):Agr ((d,v)::T) (tins t d v):=by
 intro i x hi
 rw[hget_cons]at hi
 rw[tget_tins]
 by_cases e:i=d
 ·rw[if_pos e]at hi ⊢;exact Option.some.inj hi
 ·rw[if_neg e]at hi ⊢;exact h i x hi
theorem hget_map (f:AV→AV) (i:Nat):∀{t:Hp},hget (t.map fun x=>(x.1,f x.2)) i=(hget t i).map f
 |[]=>rfl
 |(k,x)::t=>by
  rw[List.map_cons,hget_cons,hget_cons,hget_map f i (t:=t)]
  split<;>rfl
theorem Agr.mapF {T t T' t':Hp} (h:Agr T t) (f:Nat→Option AV→Option AV) (hT:∀i,hget T' i=f i (hget T i)) (ht:∀i,hget t' i=f i (hget t i)) (hf:∀i v,f i (some .un)=some v→v=.un) (hn:∀i,f i none=none) (hs:∀i v,f i (some v)=none→f i (some .un)=none):Agr T' t':=by
 intro i v hv
 rw[hT]at hv
 cases hx:hget T i with
 |none=>rw[hx,hn]at hv;cases hv
 |some a=>
  rw[hx]at hv
  have h1:=h i a hx
  unfold tget at h1 ⊢
  rw[ht]
  cases hy:hget t i with
  |none=>
   rw[hy]at h1
   simp only at h1
   subst h1
   rw[hn]
   exact(hf i v hv).symm
  |some b=>
   rw[hy]at h1
   simp only at h1
   subst h1
   rw[hv]
theorem clearR_map (r:Nat):∀{t:Hp},clearR r t=t.map fun x=>(x.1,if refTo r x.2 then .un else x.2)
 |[]=>rfl
 |(k,x)::t=>by rw[clearR,clearR_map r (t:=t)];rfl
theorem keepR_map (h:Hp):∀{t:Hp},keepR h t=t.map fun x=>(x.1,if refIn h x.2 then x.2 else .un)
 |[]=>rfl
 |(k,x)::t=>by rw[keepR,keepR_map h (t:=t)];rfl
theorem hget_keepT (d:List Up) (i:Nat):∀{t:Hp},hget (keepT d keep t) i=if keep.testBit i=true then(hget t i).map (fun a=>if stale d a then .un else a)else none
 |[]=>by simp[keepT,hget]
 |(k,x)::t=>by
  have ih:=hget_keepT d i (t:=t)
  simp only[keepT]
  by_cases hk:keep.testBit k=true
  ·rw[if_pos hk,hget_cons,hget_cons,ih]
   by_cases e:i=k
   ·subst e;rw[if_pos rfl,if_pos rfl,if_pos hk];rfl
   ·rw[if_neg e,if_neg e]
  ·rw[if_neg hk,ih,hget_cons]
   by_cases e:i=k
   ·subst e;rw[if_neg hk,if_neg hk]
   ·rw[if_neg e]
theorem Agr.map {T t:Hp} (h:Agr T t) (f:AV→AV) (hf:f .un=.un):Agr (T.map fun x=>(x.1,f x.2)) (t.map fun x=>(x.1,f x.2)):=
 h.mapF (fun _ o=>o.map f) (fun i=>hget_map f i) (fun i=>hget_map f i) (fun _ v hv=>by simp only[Option.map_some,hf,Option.some.injEq]at hv;exact hv.symm) (fun _=>rfl) (fun _ v hv=>by cases hv)
theorem Agr.clearR {T t:Hp} (h:Agr T t) (r:Nat):Agr (clearR r T) (clearR r t):=by rw[clearR_map,clearR_map];exact h.map (fun a=>if refTo r a then .un else a) (by simp)
theorem Agr.keepR {T t:Hp} (h:Agr T t) (hp:Hp):Agr (keepR hp T) (keepR hp t):=by rw[keepR_map,keepR_map];exact h.map (fun a=>if refIn hp a then a else .un) (by simp)
theorem Agr.keepT {T t:Hp} (h:Agr T t) (d:List Up):Agr (keepT d keep T) (keepT d keep t):=
 h.mapF (fun i o=>if keep.testBit i=true then o.map (fun a=>if stale d a then .un else a)else none) (fun i=>hget_keepT d i) (fun i=>hget_keepT d i)
  (fun i v hv=>by
   split at hv
   ·simp only[Option.map_some,Option.some.injEq]at hv;rw[←hv];split<;>rfl
   ·cases hv)
  (fun i=>by split<;>rfl) (fun i v hv=>by
   split at hv
   ·cases hv
   ·rename_i hk;rw[if_neg hk])
theorem Agr.sel {T t:Hp} (h:Agr T t) (f:Hp→Hp) (hf:∀i v,hget (f T) i=some v→hget T i=some v):Agr (f T) t:=fun i v hv=>h i v (hf i v hv)
theorem killX_emb:∀{os:List Oper} {S s:St},Emb S s→Emb (killX os S) (killX os s)
 |[],_,_,h=>h
 |o::os,S,s,h=>by
  have ih:=fun(S s:St) (h:Emb S s)=>killX_emb (os:=os) h
  simp only[killX]
  cases o.dst with
  |none=>exact ih _ _ h
  |some d=>
   have h2:Emb (if(hget S.h d).isSome then killX os {S with t:=clearR d S.t,h:=hdel S.h d} else killX os S) (if(hget s.h d).isSome then killX os {s with t:=clearR d s.t,h:=hdel s.h d} else killX os s):=by
    rw[h.h]
    split
    ·exact ih _ _ ⟨h.t.clearR d,by simp only,h.d,h.al⟩
    ·exact ih _ _ h
   simp only
   split<;>first|exact h2|exact ih _ _ h
theorem clearI_map (d:List Up):∀{t:Hp},clearI d t=t.map fun x=>(x.1,if stale d x.2 then .un else x.2)
 |[]=>rfl
 |(k,x)::t=>by rw[clearI,clearI_map d (t:=t)];rfl
theorem frzJ_emb {r j:Nat} {S s:St} (h:Emb S s):Emb (frzJ r j S) (frzJ r j s):=by
 unfold frzJ
 rw[h.h]
 split
 ·split
  ·rename_i c _
   cases isSl c with
   |true=>exact⟨by simp only[cond_true,clearI_map];exact h.t.map (fun a=>if stale [.set ⟨r,[(0,j)]⟩ .un] a then .un else a) (by simp),by simp only[cond_true],h.d,h.al⟩
   |false=>exact h
  ·exact h
 ·exact h
theorem frzS_emb {id:Nat}:∀{nm:List Nat} {S s:St},Emb S s→Emb (frzS nm id S) (frzS nm id s)
 |[],_,_,h=>h
 |e::nm,S,s,h=>by
  simp only[frzS]
  split
  ·exact frzJ_emb (frzS_emb h)
  ·exact frzS_emb h
def knownO (ks:List Nat):Operand→Bool
 | .tmp t=>ks.contains t
 |_=>true
def knw:List Nat→List Oper→Bool
 |_,[]=>true
 |ks,o::os=>o.op.operands.toList.all (knownO ks)&&knw (match o.dst with|some d=>d::ks|none=>ks) os
theorem hget_keys {i:Nat}:∀{T:Hp},(T.map (·.1)).contains i=true→(hget T i).isSome=true
 |[],h=>by simp at h
 |(k,x)::T,h=>by
  rw[hget_cons]
  by_cases e:i=k
  ·rw[if_pos e];rfl
  ·rw[if_neg e]
   refine hget_keys ?_
   simp only[List.map_cons,List.contains_cons,Bool.or_eq_true,beq_iff_eq]at h
   exact h.resolve_left e
theorem ev_emb {S s:St} (h:Emb S s) {x:Operand} (hx:knownO (S.t.map (·.1)) x=true):ev s x=ev S x:=by
 cases x with
 |tmp t=>exact h.t.get (hget_keys hx)
 |_=>rfl
theorem ag_emb {S s:St} (h:Emb S s) (rs:List Rd):Ag S s rs:=⟨h.al,fun r _=>⟨fun hr=>by rw[h.d];exact hr,fun _=>by rw[h.h],by rw[h.h]⟩⟩
theorem fr_emb {S s:St} (h:Emb S s) (us:List Up):Fr S s us:=fun r a _ hf=>by unfold freshId at *;rw[h.h,h.d];exact hf
theorem op_emb {S s:St} {call:CallF} {o:Oper} {e:Eff} (h:Emb S s) (hk:o.op.operands.toList.all (knownO (S.t.map (·.1)))=true) (ho:opX cx call keep S o=some e):opX cx call keep s o=some e:=
 opX_ag ho (ag_emb h _) (fr_emb h _) fun x hx=>ev_emb h (List.all_eq_true.1 hk x hx)
theorem want_emb {S s:St} {o:Oper} {b:Bool} (h:Emb S s) (hw:wantX ops S o=some b):wantX ops s o=some b:=by
 unfold wantX at *
 cases hg:o.guard with
 |none=>rw[hg]at hw;exact hw
 |some p=>
  obtain⟨j,want⟩:=p
  rw[hg]at hw
  simp only at hw ⊢
  cases hd:(ops[j]?).bind (·.dst)with
  |none=>rw[hd]at hw;cases hw
  |some d=>
   rw[hd]at hw
   simp only at hw ⊢
   cases hx:hget S.t d with
   |none=>unfold tget at hw;rw[hx]at hw;cases hw
   |some v=>rw[h.t d v hx];rw[tget_of hx]at hw;exact hw
theorem Emb.put {S s:St} {h':Hp} {d':List Up} (h:Emb S s) {o:Oper} {dd:Nat} (hd:o.dst=some dd) (v:AV):Emb ⟨(dd,v)::S.t,h',d',S.alias⟩ ⟨putX s.t o.dst v,h',d',s.alias⟩:=by
 rw[hd];exact⟨h.t.cons dd v,rfl,rfl,h.al⟩
structure Rq (cx:Cx) (O:List Ent) (keep io:Nat) (ops:Array Oper) (draw:Bool) (os:List Oper) (k:Nat) (S:St) (log:List (Nat×Eff)) (K:St→Prop):Prop where
 run:knw (S.t.map (·.1)) os=true→∀s,Emb S s→∃s' S',RO cx O keep io ops draw os k s log s'∧Emb S' s'∧K S'
variable {os:List Oper} {k dd:Nat} {t h h':Hp} {d d':List Up} {al:Bool} {log:List (Nat×Eff)} {K:St→Prop} {o:Oper} {e:Eff} {v:AV} {S s:St}
theorem Rq.nil (hK:K S):Rq cx O keep io ops draw [] k S log K:=⟨fun _ s hs=>⟨s,S,.nil,hs,hK⟩⟩
theorem knw_cons {ks:List Nat} (h:knw ks (o::os)=true):o.op.operands.toList.all (knownO ks)=true∧knw (match o.dst with|some d=>d::ks|none=>ks) os=true:=by
 simp only[knw,Bool.and_eq_true]at h;exact h
theorem Rq.pure (hw:wantX ops ⟨t,h,d,al⟩ o=some true) (hd:o.dst=some dd) (ho:∀call,opX cx call keep ⟨t,h,d,al⟩ o=some ⟨v,[],[]⟩)
  (nx:Rq cx O keep io ops draw os (k+1) ⟨(dd,v)::t,h,d,al⟩ ((k,⟨v,[],[]⟩)::log) K):Rq cx O keep io ops draw (o::os) k ⟨t,h,d,al⟩ log K:=by
 refine⟨fun hk s hs=>?_⟩
 obtain⟨hk1,hk2⟩:=knw_cons hk
 rw[hd]at hk2
 obtain⟨t',h',d',al'⟩:=s
 obtain rfl:h'=h:=hs.h
 obtain rfl:d'=d:=hs.d
 obtain rfl:al'=al:=hs.al
 obtain⟨s',S',h1,h2,h3⟩:=nx.run hk2 ⟨putX t' o.dst v,h',d',al'⟩ (hs.put hd v)
 exact⟨s',S',.pure (want_emb hs hw) (fun c=>op_emb hs hk1 (ho c)) h1,h2,h3⟩
theorem Rq.skip (hw:wantX ops ⟨t,h,d,al⟩ o=some false) (hd:o.dst=some dd) (nx:Rq cx O keep io ops draw os (k+1) ⟨(dd,.tup [])::t,h,d,al⟩ log K):Rq cx O keep io ops draw (o::os) k ⟨t,h,d,al⟩ log K:=by
 refine⟨fun hk s hs=>?_⟩
 obtain⟨hk1,hk2⟩:=knw_cons hk
 rw[hd]at hk2
 obtain⟨t',h',d',al'⟩:=s
 obtain rfl:h'=h:=hs.h
 obtain rfl:d'=d:=hs.d
 obtain rfl:al'=al:=hs.al
 obtain⟨s',S',h1,h2,h3⟩:=nx.run hk2 ⟨putX t' o.dst (.tup []),h',d',al'⟩ (hs.put hd _)
 exact⟨s',S',.skip (want_emb hs hw) h1,h2,h3⟩
theorem Rq.skip0 (hw:wantX ops ⟨t,h,d,al⟩ o=some false) (hd:o.dst=none) (nx:Rq cx O keep io ops draw os (k+1) ⟨t,h,d,al⟩ log K):Rq cx O keep io ops draw (o::os) k ⟨t,h,d,al⟩ log K:=by
 refine⟨fun hk s hs=>?_⟩
 obtain⟨hk1,hk2⟩:=knw_cons hk
 rw[hd]at hk2
 obtain⟨t',h',d',al'⟩:=s
 obtain rfl:h'=h:=hs.h
 obtain rfl:d'=d:=hs.d
 obtain rfl:al'=al:=hs.al
 obtain⟨s',S',h1,h2,h3⟩:=nx.run hk2 ⟨putX t' o.dst (.tup []),h',d',al'⟩ (by rw[hd];exact hs)
 exact⟨s',S',.skip (want_emb hs hw) h1,h2,h3⟩
theorem Rq.effE (hw:wantX ops ⟨t,h,d,al⟩ o=some true) (hd:o.dst=some dd) (ho:∀call,opX cx call keep ⟨t,h,d,al⟩ o=some e) (hu:e.up.all (upOk io)=true) (hc:draw=false∨checkX ops k e log=true) (hh:Up.apps e.up h=h') (hdd:d++dn e.up=d')
  (nx:Rq cx O keep io ops draw os (k+1) ⟨(dd,e.val)::t,h',d',al⟩ ((k,e)::log) K):Rq cx O keep io ops draw (o::os) k ⟨t,h,d,al⟩ log K:=by
 refine⟨fun hk s hs=>?_⟩
 obtain⟨hk1,hk2⟩:=knw_cons hk
 rw[hd]at hk2
 obtain⟨t',h0,d0,al'⟩:=s
 obtain rfl:h0=h:=hs.h
 obtain rfl:d0=d:=hs.d
 obtain rfl:al'=al:=hs.al
 subst hh;subst hdd
 obtain⟨s',S',h1,h2,h3⟩:=nx.run hk2 _ (hs.put hd e.val)
 exact⟨s',S',.eff (want_emb hs hw) (fun c=>op_emb hs hk1 (ho c)) hu hc rfl rfl h1,h2,h3⟩
variable {rds:List Rd} {us:List Up}
theorem Rq.eff (hw:wantX ops ⟨t,h,d,al⟩ o=some true) (hd:o.dst=some dd) (ho:∀call,opX cx call keep ⟨t,h,d,al⟩ o=some ⟨v,rds,us⟩) (hu:us.all (upOk io)=true) (hc:draw=false∨checkX ops k ⟨v,rds,us⟩ log=true) (hh:Up.apps us h=h') (hdd:d++dn us=d')
  (nx:Rq cx O keep io ops draw os (k+1) ⟨(dd,v)::t,h',d',al⟩ ((k,⟨v,rds,us⟩)::log) K):Rq cx O keep io ops draw (o::os) k ⟨t,h,d,al⟩ log K:=.effE hw hd ho hu hc hh hdd nx
theorem Rq.rdo (hw:wantX ops ⟨t,h,d,al⟩ o=some true) (hd:o.dst=some dd) (ho:∀call,opX cx call keep ⟨t,h,d,al⟩ o=some ⟨v,rds,[]⟩) (hc:draw=false∨checkX ops k ⟨v,rds,[]⟩ log=true)
  (nx:Rq cx O keep io ops draw os (k+1) ⟨(dd,v)::t,h,d,al⟩ ((k,⟨v,rds,[]⟩)::log) K):Rq cx O keep io ops draw (o::os) k ⟨t,h,d,al⟩ log K:=.effE hw hd ho rfl hc rfl (List.append_nil _) nx
theorem Rq.pureN {v':AV} (hw:wantX ops ⟨t,h,d,al⟩ o=some true) (hd:o.dst=some dd) (ho:∀call,opX cx call keep ⟨t,h,d,al⟩ o=some ⟨v,[],[]⟩) (hv:v=v')
  (nx:Rq cx O keep io ops draw os (k+1) ⟨(dd,v')::t,h,d,al⟩ ((k,⟨v',[],[]⟩)::log) K):Rq cx O keep io ops draw (o::os) k ⟨t,h,d,al⟩ log K:=by subst hv;exact .pure hw hd ho nx
theorem Rq.rdoN {v':AV} (hw:wantX ops ⟨t,h,d,al⟩ o=some true) (hd:o.dst=some dd) (ho:∀call,opX cx call keep ⟨t,h,d,al⟩ o=some ⟨v,rds,[]⟩) (hc:draw=false∨checkX ops k ⟨v,rds,[]⟩ log=true) (hv:v=v')
  (nx:Rq cx O keep io ops draw os (k+1) ⟨(dd,v')::t,h,d,al⟩ ((k,⟨v',rds,[]⟩)::log) K):Rq cx O keep io ops draw (o::os) k ⟨t,h,d,al⟩ log K:=by subst hv;exact .rdo hw hd ho hc nx
theorem Rq.eff0 (hw:wantX ops ⟨t,h,d,al⟩ o=some true) (hd:o.dst=none) (ho:∀call,opX cx call keep ⟨t,h,d,al⟩ o=some ⟨v,rds,us⟩) (hu:us.all (upOk io)=true) (hc:draw=false∨checkX ops k ⟨v,rds,us⟩ log=true) (hh:Up.apps us h=h') (hdd:d++dn us=d')
  (nx:Rq cx O keep io ops draw os (k+1) ⟨t,h',d',al⟩ ((k,⟨v,rds,us⟩)::log) K):Rq cx O keep io ops draw (o::os) k ⟨t,h,d,al⟩ log K:=by
 refine⟨fun hk s hs=>?_⟩
 obtain⟨hk1,hk2⟩:=knw_cons hk
 rw[hd]at hk2
 obtain⟨t',h0,d0,al'⟩:=s
 obtain rfl:h0=h:=hs.h
 obtain rfl:d0=d:=hs.d
 obtain rfl:al'=al:=hs.al
 subst hh;subst hdd
 obtain⟨s',S',h1,h2,h3⟩:=nx.run hk2 ⟨putX t' o.dst v,Up.apps us h0,d0++dn us,al'⟩ (by rw[hd];exact⟨hs.t,rfl,rfl,hs.al⟩)
 exact⟨s',S',.eff (want_emb hs hw) (fun c=>op_emb hs hk1 (ho c)) hu hc rfl rfl h1,h2,h3⟩
theorem Rq.callF {c:Call} {f:Nat} {fn:FnS} {x:Exs} {res:AV} {outs:List AV} {ius:List Up} {r:AV×List Up} (hw:wantX ops ⟨t,h,d,al⟩ o=some true) (hd:o.dst=some dd) (h0:o.op=.call c) (h1:c.callee=.value (.func f)) (hF:cx.F f=some fn) (hx:expArgs cx ⟨t,h,d,al⟩ fn.params fn.modes (c.args.toList.map (ev ⟨t,h,d,al⟩))=some x)
  (ha:Ans cx O f x.vs (res,outs))
  (hl:(x.lent&& !(noLent res&&noLentL outs))=false) (hi:ioUps x.io outs=some ius) (hr:(if fn.own then imp (1024*(o.dst.getD 0+1)) res else(frz 0 res,[]))=r) (hok:(!al&&noLkL x.vs&&Nat.ble x.io.length 1&&apartUps (x.up++ius)&&newsOk ⟨t,h,d,al⟩ r.2)=true)
  (hu:(x.up++ius++r.2).all (upOk io)=true) (hc:draw=false∨checkX ops k {val:=r.1,rd:=x.rd,up:=x.up++ius++r.2} log=true) (hh:Up.apps (x.up++ius++r.2) h=h') (hdd:d++dn (x.up++ius++r.2)=d')
  (nx:Rq cx O keep io ops draw os (k+1) ⟨(dd,r.1)::t,h',d',al⟩ ((k,{val:=r.1,rd:=x.rd,up:=x.up++ius++r.2})::log) K):Rq cx O keep io ops draw (o::os) k ⟨t,h,d,al⟩ log K:=by
 refine⟨fun hk s hs=>?_⟩
 obtain⟨hk1,hk2⟩:=knw_cons hk
 rw[hd]at hk2
 obtain⟨t',h0',d0,al'⟩:=s
 obtain rfl:h0'=h:=hs.h
 obtain rfl:d0=d:=hs.d
 obtain rfl:al'=al:=hs.al
 subst hh;subst hdd
 obtain⟨s',S',h3,h4,h5⟩:=nx.run hk2 _ (hs.put hd _)
 exact⟨s',S',.call (want_emb hs hw) ha (fun call hcall=>op_emb hs hk1 (op_call h0 h1 hF hx hl hi hr hok hcall)) hu hc rfl rfl h3,h4,h5⟩
theorem Rq.split {dg:Nat} {b:Bool} (_:tget t dg=.bool b) (ht:b=true→Rq cx O keep io ops draw os k ⟨(dg,.bool true)::t,h,d,al⟩ log K) (hf:b=false→Rq cx O keep io ops draw os k ⟨(dg,.bool false)::t,h,d,al⟩ log K) (hdg:(hget t dg).isSome=true):Rq cx O keep io ops draw os k ⟨t,h,d,al⟩ log K:=by
 have key:∀b',b=b'→Rq cx O keep io ops draw os k ⟨(dg,.bool b')::t,h,d,al⟩ log K→Rq cx O keep io ops draw os k ⟨t,h,d,al⟩ log K:=by
  rintro b' rfl hq
  refine⟨fun hk s hs=>hq.run ?_ s ⟨fun i x hx=>?_,hs.h,hs.d,hs.al⟩⟩
  ·have mono:∀(os:List Oper) (ks ks':List Nat),(∀x,ks.contains x=true→ks'.contains x=true)→knw ks os=true→knw ks' os=true:=by
    intro os
    induction os with
    |nil=>intros;rfl
    |cons o os ih=>
     intro ks ks' hh hk
     obtain⟨h1,h2⟩:=knw_cons hk
     simp only[knw,Bool.and_eq_true]
     refine⟨List.all_eq_true.2 fun x hx=>?_,ih _ _ ?_ h2⟩
     ·have:=List.all_eq_true.1 h1 x hx
      cases x with
      |tmp t=>exact hh _ this
      |_=>rfl
     ·intro x hx
      cases hod:o.dst with
      |none=>rw[hod]at hx;exact hh x hx
      |some d=>
       rw[hod]at hx
       simp only[List.contains_cons,Bool.or_eq_true]at hx ⊢
       exact hx.imp id (hh x)
   refine mono os _ _ (fun x hx=>?_) hk
   simp only[List.map_cons,List.contains_cons,Bool.or_eq_true]
   exact .inr hx
  ·rw[hget_cons]at hx
   split at hx
   ·rename_i e
    subst e
    rw[hs.t.get hdg]
    rename_i hb
    rw[hb];exact Option.some.inj hx
   ·exact hs.t i x hx
 cases hb:b with
 |true=>exact key true hb (ht hb)
 |false=>exact key false hb (hf hb)
def sel (L:List Nat) (T:Hp):Hp:=L.map fun k=>(k,tget T k)
def selOk (L:List Nat) (T:Hp):Bool:=L.all fun k=>(hget T k).isSome
theorem hget_sel {T:Hp} {i:Nat} {v:AV}:∀{L:List Nat},hget (sel L T) i=some v→i∈L∧v=tget T i
 |[],h=>by cases h
 |k::L,h=>by
  rw[sel,List.map_cons,hget_cons]at h
  split at h
  ·rename_i e;subst e;exact⟨List.mem_cons_self,(Option.some.inj h).symm⟩
  ·obtain⟨h1,h2⟩:=hget_sel h;exact⟨List.mem_cons_of_mem _ h1,h2⟩
theorem hget_sel_some {T:Hp} {i:Nat}:∀{L:List Nat},i∈L→hget (sel L T) i=some (tget T i)
 |[],h=>by cases h
 |k::L,h=>by
  rw[sel,List.map_cons,hget_cons]
  by_cases e:i=k
  ·subst e;rw[if_pos rfl]
  ·rw[if_neg e];exact hget_sel_some ((List.mem_cons.1 h).resolve_left e)
theorem Agr.selL {T t:Hp} (h:Agr T t) {L:List Nat} (hL:selOk L T=true):Agr (Am.sel L T) t:=by
 intro i v hv
 obtain⟨h1,h2⟩:=hget_sel hv
 rw[h.get (List.all_eq_true.1 hL i h1),h2]
theorem Emb.sel {S s:St} (h:Emb S s) {L:List Nat} (hL:selOk L S.t=true):Emb ⟨sel L S.t,S.h,S.d,S.alias⟩ s:=⟨h.t.selL hL,h.h,h.d,h.al⟩
def asgIn (keep:Nat) (L:List Nat):List Oper→Bool
 |[]=>true
 |o::os=>(match o.dst with
  |some d=>if keep.testBit d then(match o.op with| .assign _=>L.contains d|_=>true)else true
  |none=>true)&&asgIn keep L os
theorem adopt_emb {k:Nat} (hk:(hget S.t k).isSome=true) (hs:Emb S s):Emb (adopt keep io k S) (adopt keep io k s):=by
 unfold adopt
 rw[hs.t.get hk,hs.h]
 split
 ·exact hs
 ·split
  ·exact hs
  ·split
   ·exact hs
   ·exact⟨(hs.t.clearR k).map (ren _ _) rfl,rfl,hs.d,hs.al⟩
theorem adopt_keys {k i:Nat} (h:(hget S.t i).isSome=true):(hget (adopt keep io k S).t i).isSome=true:=by
 unfold adopt
 split
 ·exact h
 ·split
  ·exact h
  ·split
   ·exact h
   ·simp only
    rw[hget_map,clearR_map,hget_map (fun a=>if refTo k a then .un else a)]
    cases hx:hget S.t i with
    |none=>rw[hx]at h;cases h
    |some a=>rfl
theorem adoptAll_emb {L:List Nat}:∀{os:List Oper} {S s:St},asgIn keep L os=true→(∀i∈L,keep.testBit i=true→(hget S.t i).isSome=true)→Emb S s→Emb (adoptAll keep io os S) (adoptAll keep io os s)
 |[],S,s,_,_,hs=>hs
 |o::os,S,s,hL,hi,hs=>by
  simp only[asgIn,Bool.and_eq_true]at hL
  obtain⟨h1,h2⟩:=hL
  simp only[adoptAll]
  cases hd:o.dst with
  |none=>exact adoptAll_emb h2 hi hs
  |some d=>
   rw[hd]at h1
   simp only at h1 ⊢
   by_cases hk:keep.testBit d=true
   ·rw[if_pos hk]at h1
    rw[if_pos hk,if_pos hk]
    split
    ·rename_i x hop
     rw[hop]at h1
     simp only at h1
     have hm:d∈L:=List.elem_iff.1 h1
     exact adoptAll_emb h2 (fun i hi' hk'=>adopt_keys (hi i hi' hk')) (adopt_emb (hi d hm hk) hs)
    ·exact adoptAll_emb h2 hi hs
   ·rw[if_neg hk,if_neg hk];exact adoptAll_emb h2 hi hs
theorem resolve_emb:∀{us:List Up} {T t h T' h':Hp},Agr T t→resolve us T h=some (T',h')→∃t',resolve us t h=some (t',h')∧Agr T' t'∧∀i,(hget T i).isSome=true→(hget T' i).isSome=true
 |[],T,t,h,T',h',ha,hr=>by
  simp only[resolve,Option.some.injEq,Prod.mk.injEq]at hr
  obtain⟨rfl,rfl⟩:=hr
  exact⟨t,rfl,ha,fun _ h=>h⟩
 |u::us,T,t,h,T',h',ha,hr=>by
  have ks:∀(r:Nat) (T:Hp) (i:Nat),(hget T i).isSome=true→(hget (clearR r T) i).isSome=true:=fun r T i hi=>by
   rw[clearR_map,hget_map (fun a=>if refTo r a then .un else a)]
   cases hx:hget T i with
   |none=>rw[hx]at hi;cases hi
   |some a=>rfl
  cases u with
  |set pl a=>
   cases a with
   |lk r len=>
    simp only[resolve]at hr ⊢
    split at hr
    ·rename_i r' len' tr hp hg
     split at hr
     ·cases hr
     ·rename_i hn
      rw[if_neg hn]
      split at hr
      ·split at hr
       ·rename_i hl
        simp only[if_pos hl]
        obtain⟨t',h1,h2,h3⟩:=resolve_emb (ha.clearR r) hr
        exact⟨t',h1,h2,fun i hi=>h3 i (ks r T i hi)⟩
       ·cases hr
      ·split at hr
       ·rename_i hl
        simp only[if_pos hl]
        obtain⟨t',h1,h2,h3⟩:=resolve_emb (ha.clearR r) hr
        exact⟨t',h1,h2,fun i hi=>h3 i (ks r T i hi)⟩
       ·cases hr
      ·cases hr
    ·cases hr
   |_=>simp only[resolve]at hr ⊢;exact resolve_emb ha hr
  |_=>simp only[resolve]at hr ⊢;exact resolve_emb ha hr
theorem fin_emb {L:List Nat} {os:List Oper} {S s S':St} (hL:asgIn keep L os=true) (hi:∀i∈L,(hget S.t i).isSome=true) (hs:Emb S s) (h:finU keep io os S=some S'):∃s',finU keep io os s=some s'∧Emb S' s':=by
 unfold finU at h ⊢
 rw[hs.d,hs.h]
 cases hr:resolve S.d (keepT S.d keep S.t) S.h with
 |none=>rw[hr]at h;cases h
 |some p=>
  obtain⟨T1,h1⟩:=p
  obtain⟨t1,a1,a2,a3⟩:=resolve_emb (hs.t.keepT S.d) hr
  rw[hr]at h
  rw[a1]
  simp only at h ⊢
  split at h
  ·cases h
  ·rename_i hc
   rw[if_neg hc]
   have hk:∀i∈L,keep.testBit i=true→(hget T1 i).isSome=true:=fun i hiL hkb=>a3 i (by
    rw[hget_keepT,if_pos hkb]
    have:=hi i hiL
    cases hx:hget S.t i with
    |none=>rw[hx]at this;cases this
    |some a=>rfl)
   have h2:Emb (adoptAll keep io os ⟨T1,h1,[],false⟩) (adoptAll keep io os ⟨t1,h1,[],false⟩):=adoptAll_emb hL hk ⟨a2,rfl,rfl,rfl⟩
   simp only[Option.some.injEq]at h
   subst h
   refine⟨_,rfl,?_,?_,rfl,rfl⟩
   ·simp only[h2.h];exact h2.t.keepR _
   ·simp only[h2.h]
structure Wq (cx:Cx) (O:List Ent) (keep io:Nat) (nm:List Nat) (c:Code) (S:St) (Q:Xt→St→Prop):Prop where
 run:∀s,Emb S s→∃r s' S',Rn cx O keep io nm c s r s'∧Emb S' s'∧Q r S'
def Sp (cx:Cx) (O:List Ent) (keep io:Nat) (nm:List Nat) (b:Code) (Q:Xt→St→Prop):Xt→St→Prop
 | .normal,s=>Wq cx O keep io nm b s Q
 |r,s=>Q r s
variable {Q Q':Xt→St→Prop}
theorem Wq.imp {c:Code} (h:Wq cx O keep io nm c S Q) (hq:∀r s,Q r s→Q' r s):Wq cx O keep io nm c S Q':=
 ⟨fun s hs=>by obtain⟨r,s',S',h1,h2,h3⟩:=h.run s hs;exact⟨r,s',S',h1,h2,hq r S' h3⟩⟩
theorem Wq.skip (h:Q .normal S):Wq cx O keep io nm .skip S Q:=⟨fun _ hs=>⟨_,_,_,.skip,hs,h⟩⟩
theorem Wq.ret (h:Q .ret S):Wq cx O keep io nm .ret S Q:=⟨fun _ hs=>⟨_,_,_,.ret,hs,h⟩⟩
theorem Wq.exit {id:Nat} (h:Q (.exit id) S):Wq cx O keep io nm (.exit id) S Q:=⟨fun _ hs=>⟨_,_,_,.exit,hs,h⟩⟩
theorem Wq.seq {a b:Code} (h:Wq cx O keep io nm a S (Sp cx O keep io nm b Q)):Wq cx O keep io nm (.seq a b) S Q:=⟨fun s hs=>by
 obtain⟨r,s1,S1,h1,h2,h3⟩:=h.run s hs
 cases r with
 |normal=>obtain⟨r,s',S',h4,h5,h6⟩:=h3.run s1 h2;exact⟨r,s',S',.seq h1 h4,h5,h6⟩
 |exit i=>exact⟨_,_,_,.seqx h1 (by intro e;cases e),h2,h3⟩
 |ret=>exact⟨_,_,_,.seqx h1 (by intro e;cases e),h2,h3⟩⟩
theorem ev_bool {c:Operand} {x:Bool} {s:St} (hs:Emb S s) (hc:ev S c=.bool x):ev s c=.bool x:=by
 cases c with
 |tmp t=>
  simp only[ev]at hc ⊢
  cases hx:hget S.t t with
  |none=>unfold tget at hc;rw[hx]at hc;cases hc
  |some v=>rw[hs.t t v hx];rw[tget_of hx]at hc;exact hc
 |_=>exact hc
theorem Wq.cond {c:Operand} {a b:Code} {x:Bool} (hc:ev S c=.bool x) (ht:x=true→Wq cx O keep io nm a S Q) (hf:x=false→Wq cx O keep io nm b S Q):Wq cx O keep io nm (.cond c a b) S Q:=⟨fun s hs=>by
 have hc':=ev_bool hs hc
 cases x with
 |true=>obtain⟨r,s',S',h1,h2,h3⟩:=(ht rfl).run s hs;exact⟨r,s',S',.condT hc' h1,h2,h3⟩
 |false=>obtain⟨r,s',S',h1,h2,h3⟩:=(hf rfl).run s hs;exact⟨r,s',S',.condF hc' h1,h2,h3⟩⟩
theorem Wq.block {id:Nat} {b:Code} (h:Wq cx O keep io nm b S (Bq id Q)):Wq cx O keep io nm (.block id b) S Q:=⟨fun s hs=>by
 obtain⟨r,s',S',h1,h2,h3⟩:=h.run s hs
 cases r with
 |normal=>exact⟨_,_,_,.block h1 rfl,h2,h3⟩
 |ret=>exact⟨_,_,_,.block h1 rfl,h2,h3⟩
 |exit i=>
  simp only[Bq]at h3
  by_cases e:i=id
  ·rw[if_pos e]at h3;exact⟨_,_,_,.block h1 (by simp[e]),h2,h3⟩
  ·rw[if_neg e]at h3;exact⟨_,_,_,.block h1 (by simp[e]),h2,h3⟩⟩
theorem Wq.loopI {b:Code} (I:Nat→St→Prop) (hb:∀m S,I m S→Wq cx O keep io nm b S fun r S'=>match r with| .normal=>∃m',m'<m∧I m' S'|r=>Q r S') {m:Nat} (h:I m S):Wq cx O keep io nm (.loop b) S Q:=⟨fun s hs=>by
 induction m using Nat.strongRecOn generalizing s S with
 |ind m ih=>
  obtain⟨r,s1,S1,h1,h2,h3⟩:=(hb m S h).run s hs
  cases r with
  |normal=>
   obtain⟨m',h4,h5⟩:=h3
   obtain⟨r,s',S',h6,h7,h8⟩:=ih m' h4 h5 s1 h2
   exact⟨r,s',S',.loop h1 h6,h7,h8⟩
  |exit i=>exact⟨_,_,_,.loopx h1 (by intro e;cases e),h2,h3⟩
  |ret=>exact⟨_,_,_,.loopx h1 (by intro e;cases e),h2,h3⟩⟩
def wk (L:List Nat) (S:St):St:=⟨sel L S.t,S.h,S.d,S.alias⟩
theorem Wq.weak (L:List Nat) {c:Code} (hL:selOk L S.t=true) (h:Wq cx O keep io nm c (wk L S) Q):Wq cx O keep io nm c S Q:=⟨fun s hs=>h.run s (hs.sel hL)⟩
theorem Wq.skipW (L:List Nat) (hL:selOk L S.t=true) (h:Q .normal (wk L S)):Wq cx O keep io nm .skip S Q:=.weak L hL (.skip h)
theorem Wq.join {c:Code} (M:St→Prop) (h:Wq cx O keep io nm c S fun r s'=>match r with| .normal=>M s'|r=>Q r s') (h2:∀s',M s'→Q .normal s'):Wq cx O keep io nm c S Q:=
 h.imp fun r s' h=>by
  cases r with
  |normal=>exact h2 s' h
  |exit i=>exact h
  |ret=>exact h
theorem Wq.reg (L:List Nat) {id:Nat} {t0 h0 t1 h1:Hp} {d0 d1:List Up} {al:Bool} (hk:killX ops.toList (frzS nm id ⟨t0,h0,d0,false⟩)=⟨t1,h1,d1,false⟩) (ha:nm.contains id=al) (hkn:knw (t1.map (·.1)) ops.toList=true) (hL:asgIn (keepAt keep nm id) L ops.toList=true)
  (h:Rq cx O (keepAt keep nm id) io ops draw ops.toList 0 ⟨t1,h1,d1,al⟩ [] fun S1=>selOk L S1.t=true∧∃S',finU (keepAt keep nm id) io ops.toList (wk L S1)=some S'∧Q .normal S'):Wq cx O keep io nm (.region id ops draw) ⟨t0,h0,d0,false⟩ Q:=⟨fun s hs=>by
 have h2:=killX_emb (os:=ops.toList) (frzS_emb (nm:=nm) (id:=id) hs)
 rw[hk]at h2
 obtain⟨t,hh,dd,aa⟩:=s
 obtain rfl:aa=false:=hs.al
 cases hks:killX ops.toList (frzS nm id ⟨t,hh,dd,false⟩)with
 |mk t2 hh2 d2 a2=>
  rw[hks]at h2
  obtain rfl:a2=false:=h2.al
  obtain⟨s1,S1,b1,b2,b3,S',b4,b5⟩:=h.run hkn ⟨t2,hh2,d2,al⟩ ⟨h2.t,h2.h,h2.d,rfl⟩
  obtain⟨s',c1,c2⟩:=fin_emb hL (S:=wk L S1) (fun i hi=>by rw[show(wk L S1).t=sel L S1.t from rfl,hget_sel_some hi];rfl) (b2.sel b3) b4
  exact⟨.normal,s',S',.reg (by rw[hks,ha]) b1 (by rw[finU_eq];exact c1),c2,b5⟩⟩
def resKn:List ResultVar→Hp→Bool
 |[],_=>true
 | .tmp t::rs,T=>(hget T t).isSome&&resKn rs T
 | .cell a _::rs,T=>(hget T a).isSome&&resKn rs T
theorem resVals_emb {S s:St} (ht:Agr S.t s.t) (hh:s.h=S.h) (hd:s.d=S.d):∀{rs:List ResultVar},resKn rs S.t=true→resVals cx s rs=resVals cx S rs
 |[],_=>rfl
 | .tmp t::rs,h=>by
  simp only[resKn,Bool.and_eq_true]at h
  simp only[resVals,resVals_emb ht hh hd h.2,ht.get h.1]
 | .cell a ty::rs,h=>by
  simp only[resKn,Bool.and_eq_true]at h
  have e:∀pl i n off,ldCells s pl i off n=ldCells S pl i off n:=by
   intro pl i n
   induction n with
   |zero=>intro off;rfl
   |succ n ih=>intro off;simp only[ldCells,look,hh,hd,ih]
  simp only[resVals,resVals_emb ht hh hd h.2,ht.get h.1,e]
def outS (cx:Cx) (fn:FnS) (args:List AV) (S:St) (x:AV×List AV):Prop:=resKn fn.results S.t=true∧outOf cx fn args S=some x
theorem expResL_hd {s s':St} (hh:s'.h=s.h) (hd:s'.d=s.d) (ha:s'.alias=s.alias):∀{l:List AV},expResL s' l=expResL s l
 |[]=>rfl
 |a::l=>by
  have e0:∀deep pl,look s' deep pl=look s deep pl:=fun deep pl=>by simp only[look,hh,hd]
  have e1:∀a,absorb1 s' a=absorb1 s a:=fun a=>by cases a<;>simp only[absorb1,e0,ha]
  have e2:∀l,absorbL s' l=absorbL s l:=fun l=>by
   induction l with
   |nil=>rfl
   |cons a l ih=>simp only[absorbL,e1,ih]
  have e3:∀a,absorbE s' a=absorbE s a:=fun a=>by cases a<;>simp only[absorbE,e1,e2]
  have e4:expRes1 s' a=expRes1 s a:=by cases a<;>simp only[expRes1,e0,e3]
  simp only[expResL,e4,expResL_hd hh hd ha (l:=l)]
theorem ioOuts_hd {s s':St} (hh:s'.h=s.h):∀{ms:List Md} {as1:List AV} {k:Nat},ioOuts s' k ms as1=ioOuts s k ms as1
 |[],_,_=>by unfold ioOuts;rfl
 |_::_,[],_=>by unfold ioOuts;rfl
 |m::ms,a::as1,k=>by simp only[ioOuts,ioOuts_hd hh (ms:=ms) (as1:=as1),hh]
theorem outS_emb {fn:FnS} {args:List AV} {s:St} {x:AV×List AV} (hs:Emb S s) (h:outS cx fn args S x):outOf cx fn args s=some x:=by
 obtain⟨h1,h2⟩:=h
 unfold outOf at *
 rw[←h2]
 have e1:=resVals_emb (cx:=cx) (S:={t:=S.t,h:=S.h,d:=[]}) (s:={t:=s.t,h:=s.h,d:=[]}) hs.t hs.h rfl h1
 have e2:=fun l=>expResL_hd (s:={t:=S.t,h:=S.h,d:=[]}) (s':={t:=s.t,h:=s.h,d:=[]}) hs.h rfl rfl (l:=l)
 have e3:=fun ms as1 k=>ioOuts_hd (s:={t:=S.t,h:=S.h,d:=[]}) (s':={t:=s.t,h:=s.h,d:=[]}) hs.h (ms:=ms) (as1:=as1) (k:=k)
 simp only[e1,e2,e3]
theorem ans_wq (L:List Nat) {f:Nat} {fn:FnS} {args:List AV} {x:AV×List AV} (hF:cx.F f=some fn) (hO:orc O f args=none) (he:apartUps (entryL 0 args).2=true)
  (hb:Wq cx O fn.keep (ioMask 0 fn.modes) fn.noMove fn.body ⟨sel L (entryT 0 (entryL 0 args).1 (unT fn.keep fn.ntmps)),Up.apps (entryL 0 args).2 [],[],false⟩ fun r S'=>(r=.ret∨r=.normal)∧outS cx fn args S' x):Ans cx O f args x:=by
 obtain⟨r,s',S',h1,h2,h3,h4⟩:=hb.run ⟨entryT 0 (entryL 0 args).1 (unT fn.keep fn.ntmps),Up.apps (entryL 0 args).2 [],[],false⟩ ⟨fun i v hv=>(hget_sel hv).2.symm,rfl,rfl,rfl⟩
 exact ans_of hF hO he h1 h3 (outS_emb h2 h4)
end Go.Am
end
section
namespace Go.Am
variable {cx:Cx} {keep:Nat} {call:CallF} {t h:Hp} {d:List Up} {al:Bool} {o:Oper}
theorem getP_cell {pl:Pl} {i j sz:Nat} {es:List AV} {a c:AV} (hg:getP h pl=some (.ow sz es)) (he:es[i]?=some a) (hc:(cells a)[j]?=some c):getP h (pl.cell i j)=some c:=by
 unfold getP at hg ⊢
 have app:∀(p:List (Nat×Nat)) (r x:AV) (q:List (Nat×Nat)),getT r p=some x→getT r (p++q)=getT x q:=by
  intro p
  induction p with
  |nil=>intro r x q h;simp only[getT,Option.some.injEq]at h;subst h;rfl
  |cons s p ih=>
   intro r x q h
   simp only[getT]at h
   cases hs:step1 r s with
   |none=>rw[hs]at h;cases h
   |some y=>rw[hs]at h;simp only[List.cons_append,getT,hs,Option.bind_some]at h ⊢;exact ih y x q h
 simp only[Pl.cell]
 cases hr:hget h pl.r with
 |none=>rw[hr]at hg;cases hg
 |some r=>
  rw[hr]at hg
  simp only[Option.bind_some]at hg ⊢
  rw[app pl.p r _ _ hg]
  simp only[getT,step1,he,hc,Option.bind_some]
theorem ldCells_open {s:St} {pl:Pl} {i sz:Nat} {es:List AV} {a:AV} (hg:getP s.h pl=some (.ow sz es)) (he:es[i]?=some a) (hd:∀j,s.d.any (·.hits ⟨pl.cell i j,false⟩)=false):
  ∀{n off:Nat} {cs:List AV},((cells a).drop off).take n=cs→cs.length=n→cs.all plainCell=true→ldCells s pl i off n=some cs
 |0,off,cs,h1,_,_=>by rw[List.take_zero]at h1;subst h1;rfl
 |n+1,off,cs,h1,h2,h3=>by
  cases hx:(cells a).drop off with
  |nil=>rw[hx]at h1;subst h1;cases h2
  |cons c rest=>
   rw[hx,List.take_succ_cons]at h1
   subst h1
   simp only[List.length_cons,Nat.add_right_cancel_iff,List.all_cons,Bool.and_eq_true]at h2 h3
   have hc:(cells a)[off]?=some c:=by rw[←List.head?_drop,hx];rfl
   have hr:(cells a).drop (off+1)=rest:=by rw[←List.tail_drop,hx];rfl
   have ih:=ldCells_open hg he hd (n:=n) (off:=off+1) (cs:=rest.take n) (by rw[hr]) h2 h3.2
   have hl:look s false (pl.cell i off)=some c:=by
    unfold look
    rw[hd off,getP_cell hg he hc];rfl
   simp only[ldCells,hl,ih]
   cases c<;>first|rfl|(simp[plainCell]at h3;done)
theorem op_ldr {ty:Nat} {x:Operand} {ti:TyI} {pl:Pl} {i off sz:Nat} {es cs:List AV} {a v:AV} (h0:o.op=.load ty x) (hT:cx.T ty=some ti) (hx:ev ⟨t,h,d,al⟩ x=.ptr pl i off) (hg:getP h pl=some (.ow sz es)) (he:es[i]?=some a) (hd:∀j,d.any (·.hits ⟨pl.cell i j,false⟩)=false)
  (hc:((cells a).drop off).take ti.size=cs) (hl:cs.length=ti.size) (hz:Nat.beq ti.size 0=false) (hp:cs.all plainCell=true) (hm:mkVal ti.isAgg cs=some v):
  opX cx call keep ⟨t,h,d,al⟩ o=some {val:=v,rd:=rdCells pl i off ti.size,up:=[]}:=by
 simp only[opX,h0,oLoad,hT,hx,ldCells_open (s:=⟨t,h,d,al⟩) hg he hd hc hl hp,hz,cond_false,hm]
theorem bound_in {n:Int} {k:IntKind} {df lim:Nat} (h0:0≤n) (h1:n≤lim):bound (some (.int k n)) df lim=some n.toNat:=by
 simp only[bound,decide_eq_true h0,decide_eq_true h1,Bool.and_self,cond_true]
theorem op_slr {ty e:Nat} {x:Operand} {lo hi:Option Operand} {ei:TyI} {sz off len l r:Nat} {pl:Pl} (h0:o.op=.slice ty x lo hi none) (h1:cx.kind ty=some (.slice e)) (h2:cx.T e=some ei) (hx:ev ⟨t,h,d,al⟩ x=.rf sz pl off len) (hh:bound (hi.map (ev ⟨t,h,d,al⟩)) len len=some r) (hl:bound (lo.map (ev ⟨t,h,d,al⟩)) 0 r=some l) (h7:Nat.beq sz ei.size=true) (h8:useOk ⟨t,h,d,al⟩ pl=true):
  opX cx call keep ⟨t,h,d,al⟩ o=some {val:=.rf sz pl (off+l) (r - l),rd:=[⟨pl,false⟩],up:=[]}:=by
 simp only[opX,h0,oSlice,hx,hh,hl,h1,h2,h7,h8,Bool.and_self,cond_true]
theorem op_sls {ty e:Nat} {x:Operand} {lo hi:Option Operand} {ei:TyI} {lab sz l r:Nat} {es:List AV} (h0:o.op=.slice ty x lo hi none) (h1:cx.kind ty=some (.slice e)) (h2:cx.T e=some ei) (hx:ev ⟨t,h,d,al⟩ x=.fz lab sz es) (hh:bound (hi.map (ev ⟨t,h,d,al⟩)) es.length es.length=some r) (hl:bound (lo.map (ev ⟨t,h,d,al⟩)) 0 r=some l) (h7:(Nat.beq lab 1||Nat.beq sz ei.size)=true):
  opX cx call keep ⟨t,h,d,al⟩ o=some ⟨.fz lab sz ((es.take r).drop l),[],[]⟩:=by
 simp only[opX,h0,oSlice,hx,hh,hl,h1,h2,h7,cond_true,pureE]
theorem elems_rf {s:St} {sz off len:Nat} {pl:Pl} {es:List AV} (hd:s.d.any (·.hits ⟨pl,true⟩)=false) (hg:getP s.h pl=some (.ow sz es)) (hb:off+len≤es.length) (hp:((es.drop off).take len).all plainEl=true):elems s sz (.rf sz pl off len)=some ((es.drop off).take len,[⟨pl,true⟩],[]):=by
 simp only[elems,look,hd,Bool.false_eq_true,if_false,hg,true_and,if_pos hb,hp,if_true]
theorem op_appr {c:Call} {a x:Operand} {ty xt e:Nat} {xk:TyK} {ei:TyI} {dd sz sz' off len:Nat} {pl:Pl} {es new:List AV} {rs:List Rd} {us:List Up} (h0:o.op=.call c) (h1:c.callee=.builtin .append) (ha:c.args.toList=[a,x]) (hy:c.argTypes.toList=[ty,xt]) (hd:o.dst=some dd) (hk:cx.kind ty=some (.slice e)) (hk2:cx.kind xt=some xk) (hni:(match xk with| .int _=>false|_=>true)=true) (hT:cx.T e=some ei)
  (hva:ev ⟨t,h,d,al⟩ a=.rf sz pl off len) (hel:elems ⟨t,h,d,al⟩ ei.size (ev ⟨t,h,d,al⟩ x)=some (new,rs,us)) (hn:new≠[]) (hl:look ⟨t,h,d,al⟩ true pl=some (.ow sz' es)) (hs:(Nat.beq sz ei.size&&Nat.beq sz' ei.size)=true) (hb:off+len≤es.length) (hr:(len+new.length)*ei.bytes≤roomB) (hr2:len+new.length≤roomB) (hf:(freshId ⟨t,h,d,al⟩ dd&&apartUps (gone pl::us))=true):
  opX cx call keep ⟨t,h,d,al⟩ o=some {val:=.rf ei.size ⟨dd,[]⟩ 0 (len+new.length),rd:=⟨pl,true⟩::rs,up:=gone pl::us++[.new dd (.ow ei.size ((es.drop off).take len++new))]}:=by
 simp only[Bool.and_eq_true]at hs hf
 have e1:oAppend cx ⟨t,h,d,al⟩ (some dd) [ty,xt] [.rf sz pl off len,ev ⟨t,h,d,al⟩ x]=oApp1 ⟨t,h,d,al⟩ dd ei.size ei.bytes (.rf sz pl off len) new rs us:=by
  simp only[oAppend,hk,hk2]
  cases xk<;>first|(simp at hni;done)|simp only[hT,hel]
 simp only[opX,h0,oCall,h1,oBuiltin,ha,hy,hd,List.map_cons,List.map_nil,hva,e1]
 obtain⟨y,ys,rfl⟩:=List.exists_cons_of_ne_nil hn
 simp only[oApp1,hl,hs.1,hs.2,Nat.ble_eq_true_of_le hb,Nat.ble_eq_true_of_le hr,Nat.ble_eq_true_of_le hr2,hf.1,hf.2,Bool.and_self,cond_true]
theorem op_appn {c:Call} {a x:Operand} {ty xt e:Nat} {xk:TyK} {ei:TyI} {dd sz:Nat} {new:List AV} {rs:List Rd} {us:List Up} (h0:o.op=.call c) (h1:c.callee=.builtin .append) (ha:c.args.toList=[a,x]) (hy:c.argTypes.toList=[ty,xt]) (hd:o.dst=some dd) (hk:cx.kind ty=some (.slice e)) (hk2:cx.kind xt=some xk) (hni:(match xk with| .int _=>false|_=>true)=true) (hT:cx.T e=some ei)
  (hva:ev ⟨t,h,d,al⟩ a=.fz 1 sz []) (hel:elems ⟨t,h,d,al⟩ ei.size (ev ⟨t,h,d,al⟩ x)=some (new,rs,us)) (hn:new≠[]) (hr:new.length*ei.bytes≤roomB) (hr2:new.length≤roomB) (hf:(freshId ⟨t,h,d,al⟩ dd&&apartUps us)=true):
  opX cx call keep ⟨t,h,d,al⟩ o=some {val:=.rf ei.size ⟨dd,[]⟩ 0 new.length,rd:=rs,up:=us++[.new dd (.ow ei.size new)]}:=by
 simp only[Bool.and_eq_true]at hf
 have e1:oAppend cx ⟨t,h,d,al⟩ (some dd) [ty,xt] [.fz 1 sz [],ev ⟨t,h,d,al⟩ x]=oApp1 ⟨t,h,d,al⟩ dd ei.size ei.bytes (.fz 1 sz []) new rs us:=by
  simp only[oAppend,hk,hk2]
  cases xk<;>first|(simp at hni;done)|simp only[hT,hel]
 simp only[opX,h0,oCall,h1,oBuiltin,ha,hy,hd,List.map_cons,List.map_nil,hva,e1]
 obtain⟨y,ys,rfl⟩:=List.exists_cons_of_ne_nil hn
 simp only[oApp1,List.isEmpty_nil,Nat.ble_eq_true_of_le hr,Nat.ble_eq_true_of_le hr2,hf.1,hf.2,Nat.beq_refl,Bool.and_self,cond_true]
theorem op_app0 {c:Call} {a x:Operand} {ty xt e:Nat} {xk:TyK} {ei:TyI} {dd lab sz:Nat} {es:List AV} {rs:List Rd} (h0:o.op=.call c) (h1:c.callee=.builtin .append) (ha:c.args.toList=[a,x]) (hy:c.argTypes.toList=[ty,xt]) (hd:o.dst=some dd) (hk:cx.kind ty=some (.slice e)) (hk2:cx.kind xt=some xk) (hni:(match xk with| .int _=>false|_=>true)=true) (hT:cx.T e=some ei)
  (hva:ev ⟨t,h,d,al⟩ a=.fz lab sz es) (hel:elems ⟨t,h,d,al⟩ ei.size (ev ⟨t,h,d,al⟩ x)=some ([],rs,[])):
  opX cx call keep ⟨t,h,d,al⟩ o=some {val:=.fz lab sz es,rd:=rs,up:=[]}:=by
 have e1:oAppend cx ⟨t,h,d,al⟩ (some dd) [ty,xt] [.fz lab sz es,ev ⟨t,h,d,al⟩ x]=oApp1 ⟨t,h,d,al⟩ dd ei.size ei.bytes (.fz lab sz es) [] rs []:=by
  simp only[oAppend,hk,hk2]
  cases xk<;>first|(simp at hni;done)|simp only[hT,hel]
 simp only[opX,h0,oCall,h1,oBuiltin,ha,hy,hd,List.map_cons,List.map_nil,hva,e1,oApp1,List.isEmpty_nil,cond_true]
theorem op_cut {ty:Nat} {x y:Operand} {ti:TyI} {r i off sz o2 len:Nat} {p:List (Nat×Nat)} {es:List AV} (h0:o.op=.store ty x y) (hT:cx.T ty=some ti) (hx:ev ⟨t,h,d,al⟩ x=.ptr ⟨r,p⟩ i off) (hy:ev ⟨t,h,d,al⟩ y=.rf sz ⟨r,p++[(i,off)]⟩ o2 len) (hal:al=false)
  (hl:look ⟨t,h,d,al⟩ true ⟨r,p++[(i,off)]⟩=some (.ow sz es)) (hb:o2+len≤es.length) (hs:Nat.beq 1 ti.size=true) (hu:(useOk ⟨t,h,d,al⟩ ⟨r,p⟩&&cellsThere ⟨t,h,d,al⟩ ⟨r,p⟩ i off ti.size)=true):
  opX cx call keep ⟨t,h,d,al⟩ o=some {val:=.tup [],rd:=[⟨⟨r,p++[(i,off)]⟩,true⟩]++[⟨⟨r,p⟩,false⟩],up:=[.set ⟨r,p++[(i,off)]⟩ (.ow sz ((es.drop o2).take len))]}:=by
 subst hal
 simp only[Bool.and_eq_true]at hu
 have e0:(p++[(i,off)]).isEmpty=false:=by cases p<;>rfl
 have epre:∀q:List (Nat×Nat),pre q q=true:=by
  intro q;induction q with
  |nil=>rfl
  |cons a q ih=>simp[pre,ih]
 have e1:Pl.pre ⟨r,p++[(i,off)]⟩ ⟨r,p++[(i,off)]⟩=true:=by simp[Pl.pre,epre]
 have e2:putSt1 ⟨t,h,d,false⟩ keep ⟨r,p++[(i,off)]⟩ (.rf sz ⟨r,p++[(i,off)]⟩ o2 len)=some (.ow sz ((es.drop o2).take len),[⟨⟨r,p++[(i,off)]⟩,true⟩],[.set ⟨r,p++[(i,off)]⟩ (.ow sz ((es.drop o2).take len))]):=by
  simp only[putSt1,Bool.false_eq_true,if_false,e0,Bool.false_and,e1,Bool.and_self,if_true,hl,true_and,if_pos hb]
 simp only[opX,h0,oStore,hT,hx,hy,cells,putSt,Pl.cell,e2,List.append_nil]
 simp only[List.length_cons,List.length_nil,Nat.zero_add,hs,known,hu.1,hu.2,Bool.and_self,apartUps,List.all_nil,lkOk,List.all_cons,cond_true]
theorem hins_hins {r:Nat} {x y:AV}:∀{h:Hp},hins (hins h r x) r y=hins h r y
 |[]=>by simp[hins]
 |(k,z)::h=>by
  simp only[hins]
  by_cases e:r=k
  ·subst e;simp[hins]
  ·have:Nat.beq r k=false:=by cases hb:Nat.beq r k;rfl;exact absurd (Nat.eq_of_beq_eq_true hb) e
   simp only[this,cond_false]
   cases hl:Nat.ble r k with
   |true=>simp[hins]
   |false=>simp only[cond_false,hins,this,hl,hins_hins]
theorem apps_agg {r i sz:Nat}:∀{cs l:List AV} {off:Nat} {h:Hp} {es:List AV},cs≠[]→hget h r=some (.ow sz es)→es[i]?=some (.agg l)→l.length=off+cs.length→Up.apps (setUps ⟨r,[]⟩ i off cs) h=hins h r (.ow sz (es.set i (.agg (l.take off++cs))))
 |[],_,_,_,_,h,_,_,_=>absurd rfl h
 |c::cs,l,off,h,es,_,hr,he,hl=>by
  have hi:i<es.length:=by
   rcases Nat.lt_or_ge i es.length with h|h
   ·exact h
   ·rw[List.getElem?_eq_none h]at he;cases he
  have e1:Up.app h (.set (Pl.cell ⟨r,[]⟩ i off) c)=hins h r (.ow sz (es.set i (.agg (l.set off c)))):=by
   simp only[Up.app,Pl.cell,List.nil_append,hr,setT]
   have:step1 (.ow sz es) (i,off)=l[off]?:=by simp only[step1,he,Option.bind_some,cells]
   rw[this,List.getElem?_eq_getElem (by simp at hl;omega)]
   simp only[put1,he,putCell]
  simp only[setUps,Up.apps,e1]
  cases cs with
  |nil=>
   simp only[setUps,Up.apps]
   congr 4
   rw[List.set_eq_take_append_cons_drop,if_pos (by simp at hl;omega),List.drop_of_length_le (by simp at hl;omega)]
  |cons c' cs=>
   rw[apps_agg (l:=l.set off c) (es:=es.set i (.agg (l.set off c))) (by simp) (by rw[hget_hins,if_pos rfl]) (by rw[List.getElem?_set_self hi]) (by simp at hl ⊢;omega),hins_hins,List.set_set]
   congr 4
   rw[List.take_set,show l.take (off+1)=l.take off++[l[off]'(by simp at hl;omega)]by rw[List.take_succ_eq_append_getElem (by simp at hl;omega)]]
   rw[List.set_append_right _ _ (by simp;omega)]
   simp only[List.length_take,show min off l.length=off by simp at hl;omega,Nat.sub_self,List.set_cons_zero,List.append_assoc,List.cons_append,List.nil_append]
theorem setUps_ok {pl:Pl} {i:Nat}:∀{cs:List AV} {off:Nat},(∀u∈setUps pl i off cs,∃j c,off≤j∧c∈cs∧u=.set (pl.cell i j) c)
 |[],_,u,h=>by cases h
 |c::cs,off,u,h=>by
  simp only[setUps,List.mem_cons]at h
  rcases h with rfl|h
  ·exact⟨off,c,Nat.le_refl _,List.mem_cons_self,rfl⟩
  ·obtain⟨j,c',h1,h2,h3⟩:=setUps_ok u h
   exact⟨j,c',by omega,List.mem_cons_of_mem _ h2,h3⟩
theorem pre_app {p q:List (Nat×Nat)}:∀{x:List (Nat×Nat)},pre (x++p) (x++q)=pre p q
 |[]=>rfl
 |a::x=>by simp[pre,pre_app]
theorem setUps_apart {pl:Pl} {i:Nat}:∀{cs:List AV} {off:Nat},apartUps (setUps pl i off cs)=true
 |[],_=>rfl
 |c::cs,off=>by
  simp only[setUps,apartUps,setUps_apart,Bool.and_true,List.all_eq_true]
  intro v hv
  obtain⟨j,c',h1,_,rfl⟩:=setUps_ok v hv
  have h2:Nat.beq off j=false:=by cases hb:Nat.beq off j;rfl;have:=Nat.eq_of_beq_eq_true hb;omega
  have h3:Nat.beq j off=false:=by cases hb:Nat.beq j off;rfl;have:=Nat.eq_of_beq_eq_true hb;omega
  simp only[Up.meets,Up.pl,Pl.pre,Pl.cell,pre_app,pre,h2,h3,Bool.and_false,Bool.false_and,Bool.or_false,Bool.not_false]
theorem putSt_plain {s:St} {pl:Pl} {i:Nat}:∀{cs:List AV} {off:Nat},cs.all plainCell=true→putSt s keep pl i off cs=some ([],setUps pl i off cs)
 |[],_,_=>rfl
 |c::cs,off,h=>by
  simp only[List.all_cons,Bool.and_eq_true]at h
  have:putSt1 s keep (pl.cell i off) c=some (c,[],[.set (pl.cell i off) c]):=by
   cases c<;>first|rfl|(exact absurd h.1 (by simp[plainCell]))
  simp only[putSt,this,putSt_plain h.2,setUps,List.nil_append,List.cons_append]
theorem op_str {ty:Nat} {x y:Operand} {ti:TyI} {r i sz:Nat} {es cs:List AV} {a v:AV} (h0:o.op=.store ty x y) (hT:cx.T ty=some ti) (hx:ev ⟨t,h,d,al⟩ x=.ptr ⟨r,[]⟩ i 0) (hy:ev ⟨t,h,d,al⟩ y=v) (hc:cells v=cs) (hp:(cs.all plainCell&&Nat.beq cs.length ti.size&&known v)=true) (hr:hget h r=some (.ow sz es)) (he:es[i]?=some a) (ha:(cells a).length=ti.size) (hu:useOk ⟨t,h,d,al⟩ ⟨r,[]⟩=true):
  opX cx call keep ⟨t,h,d,al⟩ o=some {val:=.tup [],rd:=[⟨⟨r,[]⟩,false⟩],up:=setUps ⟨r,[]⟩ i 0 cs}:=by
 simp only[Bool.and_eq_true]at hp
 have ct:∀n off,off+n≤(cells a).length→cellsThere ⟨t,h,d,al⟩ ⟨r,[]⟩ i off n=true:=by
  intro n
  induction n with
  |zero=>intro off _;rfl
  |succ n ih=>
   intro off hle
   have hg:getP h ⟨r,[]⟩=some (.ow sz es):=by unfold getP;rw[hr];rfl
   simp only[cellsThere,getP_cell (j:=off) hg he (List.getElem?_eq_getElem (by omega)),Option.isSome_some,Bool.true_and]
   exact ih (off+1) (by omega)
 have hlk:lkOk (setUps ⟨r,[]⟩ i 0 cs)=true:=by
  simp only[lkOk,List.all_eq_true]
  intro u hu
  obtain⟨j,c,_,hc,rfl⟩:=setUps_ok u hu
  have:=List.all_eq_true.1 hp.1.1 c hc
  cases c<;>first|rfl|(simp[plainCell]at this;done)
 simp only[opX,h0,oStore,hT,hx,hy,hc,putSt_plain hp.1.1,hp.1.2,hp.2,hu,ct ti.size 0 (by omega),setUps_apart,hlk,Bool.and_self,cond_true,List.nil_append]
theorem take_snoc {α:Type} {l:List α} {x:α}:List.take (l.length+1) (l++[x])=l++[x]:=List.take_of_length_le (by simp)
theorem take_cut {α:Type} {l:List α} {n:Nat}:List.take (l.length - n) (List.take (l.length - n) (l.drop n))=l.drop n:=by
 rw[List.take_take,Nat.min_self,List.take_of_length_le (by simp)]
theorem take_map_self {α β:Type} {f:α→β} {l:List α}:List.take l.length (l.map f)=l.map f:=List.take_of_length_le (by simp)
theorem take_map_snoc {α β:Type} {f:α→β} {l:List α} {x:β}:List.take (l.length+1) (l.map f++[x])=l.map f++[x]:=List.take_of_length_le (by simp)
theorem getApp {l:List AV} {z:AV}:(List.take l.length (List.drop 0 l)++[z])[0+((l.length:Nat):Int).toNat]?=some z:=by simp
theorem getAppN {l:List AV} {z:AV} {x:Int} (e:x=(l.length:Int)):(List.take l.length (List.drop 0 l)++[z])[0+x.toNat]?=some z:=by subst e;exact getApp
theorem resolve_lk {pl:Pl} {r n sz:Nat} {us:List Up} {es:List AV} {R:Option (Hp×Hp)} (hg:getP h pl=some (.lk r (n+1))) (hr:hget h r=some (.ow sz es)) (hn:(!Nat.beq pl.r r&& !pl.p.isEmpty)=true) (hb:n≤es.length) (nx:resolve us (clearR r t) (Up.app (hdel h r) (.set pl (.ow sz (es.take n))))=R):resolve (.set pl (.lk r (n+1))::us) t h=R:=by
 simp only[Bool.and_eq_true,Bool.not_eq_true',List.isEmpty_eq_false_iff]at hn
 have h1:pl.r≠r:=fun e=>by rw[e,Nat.beq_refl]at hn;cases hn.1
 simp only[resolve,hg,hr]
 rw[if_neg (by simp[h1,hn.2]),if_pos ⟨by omega,by omega⟩,Nat.add_sub_cancel]
 exact nx
theorem resolve_skip {u:Up} {us:List Up} {R:Option (Hp×Hp)} (hu:isLkU u=false) (nx:resolve us t h=R):resolve (u::us) t h=R:=by
 rw[←nx]
 cases u with
 |set pl a=>cases a<;>first|rfl|cases hu
 |_=>rfl
theorem noLkL_all:∀{l:List AV},noLkL l=l.all noLk
 |[]=>rfl
 |a::l=>by simp[noLkL,noLkL_all]
theorem fin_of {io:Nat} {ops:List Oper} {t1 h1:Hp} {S':St} (hr:resolve d (keepT d keep t) h=some (t1,h1)) (hl:noLkH h1=true) (hf:(let s2:=adoptAll keep io ops ⟨t1,h1,[],false⟩;(⟨keepR (keepH keep s2.h) s2.t,keepH keep s2.h,[],false⟩:St))=S'):finU keep io ops ⟨t,h,d,al⟩=some S':=by
 simp only[finU,hr,hl,Bool.not_true,Bool.and_false,Bool.false_eq_true,if_false]
 rw[←hf]
end Go.Am
end
section
namespace Go.Am
variable {cx:Cx} {s:St}
theorem expArgs_cons {ty:Nat} {tys:List Nat} {m:Md} {ms:List Md} {a:AV} {l:List AV} {x:Ex} {r:Exs} (h1:expArg cx s ty m a=some x) (h2:expArgs cx s tys ms l=some r) (h3:(touches x.touch r.rd||touches r.touch x.rd)=false):
  expArgs cx s (ty::tys) (m::ms) (a::l)=some {vs:=x.v::r.vs,rd:=x.rd++r.rd,up:=x.up++r.up,lent:=x.lent||r.lent,touch:=x.touch++r.touch,io:=x.io++r.io}:=by
 simp only[expArgs,h1,h2,h3,Bool.false_eq_true,if_false]
theorem absorb_full {sz:Nat} {pl:Pl} {es:List AV} {n:Nat} (ha:s.alias=false) (hl:look s true pl=some (.ow sz es)) (hn:n=es.length):absorb1 s (.rf sz pl 0 n)=some (.ow sz es,[⟨pl,true⟩],[gone pl]):=by
 subst hn
 simp[absorb1,ha,hl]
theorem absorbL_cons {a x:AV} {l xs:List AV} {r rs:List Rd} {u us:List Up} (h1:absorb1 s a=some (x,r,u)) (h2:absorbL s l=some (xs,rs,us)):absorbL s (a::l)=some (x::xs,r++rs,u++us):=by
 simp only[absorbL,h1,h2]
theorem absorbE_agg {cs xs:List AV} {rs:List Rd} {us:List Up} (h:absorbL s cs=some (xs,rs,us)):absorbE s (.agg cs)=some (.agg xs,rs,us):=by
 simp only[absorbE,h]
theorem expGive {ty:Nat} {a x v:AV} {rs:List Rd} {us:List Up} (h:absorbE s a=some (x,rs,us)) (hv:frz 0 x=v):expArg cx s ty .give a=some {v:=v,rd:=rs,up:=us,touch:=us.map Up.pl}:=by
 simp only[expArg,h,hv]
def Fzn (a:AV):Prop:=∀lab,frz lab a=a
theorem frzL_id {lab:Nat}:∀{l:List AV},(∀a∈l,Fzn a)→frzL lab l=l
 |[],_=>rfl
 |a::l,h=>by rw[frzL,h a List.mem_cons_self lab,frzL_id fun x hx=>h x (List.mem_cons_of_mem _ hx)]
theorem expViewRf {sz off len:Nat} {pl:Pl} {es:List AV} (hl:look s true pl=some (.ow sz es)) (hb:off+len≤es.length) (hf:∀a∈es,Fzn a):expV1 s (.rf sz pl off len)=some {v:=.fz 2 sz ((es.drop off).take len),rd:=[⟨pl,true⟩],lent:=true}:=by
 simp only[expV1,hl,true_and,if_pos hb,Option.some.injEq]
 rw[frzL_id fun a ha=>hf a (List.mem_of_mem_drop (List.mem_of_mem_take ha))]
theorem expViewCut {sz n:Nat} {pl:Pl} {es:List AV} (hl:look s true pl=some (.ow sz es)) (hb:n≤es.length) (hf:∀a∈es,Fzn a):expV1 s (.rf sz pl (0+n) (es.length - n))=some {v:=.fz 2 sz (es.drop n),rd:=[⟨pl,true⟩],lent:=true}:=by
 rw[expViewRf hl (by omega) hf,Nat.zero_add,List.take_of_length_le (by simp)]
theorem expArgCut {ty sz n:Nat} {a:AV} {pl:Pl} {es:List AV} (ha:a=.rf sz pl (0+n) (es.length - n)) (hl:look s true pl=some (.ow sz es)) (hb:n≤es.length) (hf:∀a∈es,Fzn a):expArg cx s ty .view a=some {v:=.fz 2 sz (es.drop n),rd:=[⟨pl,true⟩],lent:=true}:=by
 subst ha;exact expViewCut hl hb hf
theorem expResL_cons {a x:AV} {l xs:List AV} {u us:List Up} (h1:expRes1 s a=some (x,u)) (h2:expResL s l=some (xs,us)):expResL s (a::l)=some (x::xs,u++us):=by
 simp only[expResL,h1,h2]
theorem expRes1_rf {sz:Nat} {pl:Pl} {es:List AV} {n:Nat} (ha:s.alias=false) (hl:look s true pl=some (.ow sz es)) (hn:n=es.length):expRes1 s (.rf sz pl 0 n)=some (.ow sz es,[gone pl]):=by
 simp only[expRes1,absorbE,absorb_full ha hl hn]
theorem out_of {fn:FnS} {args vs xs outs:List AV} {us ws:List Up} (h1:resVals cx {t:=s.t,h:=s.h,d:=[]} fn.results=some vs) (h2:expResL {t:=s.t,h:=s.h,d:=[]} vs=some (xs,us)) (h3:ioOuts {t:=s.t,h:=s.h,d:=[]} 0 fn.modes args=some (outs,ws)) (h4:(apartUps (us++ws)&&nodupK (offs (resOf xs))&&knownT (resOf xs))=true):outOf cx fn args s=some (resOf xs,outs):=by
 simp only[outOf,h1,h2,h3,h4,if_true]
end Go.Am
end
section
namespace Go.Am
variable {cx:Cx} {O:List Ent} {keep io:Nat} {nm:List Nat} {ops:Array Oper} {draw:Bool}
variable {os:List Oper} {k dd:Nat} {t h h':Hp} {d d':List Up} {al:Bool} {log:List (Nat×Eff)} {K:St→Prop} {o:Oper} {S S':St} {rds:List Rd} {us:List Up}
variable {Q:Xt→St→Prop}
theorem Rq.p (v:AV) (nx:Rq cx O keep io ops draw os (k+1) ⟨(dd,v)::t,h,d,al⟩ ((k,⟨v,[],[]⟩)::log) K)
  (hw:wantX ops ⟨t,h,d,al⟩ o=some true:=by rfl) (hd:o.dst=some dd:=by rfl) (ho:∀call,opX cx call keep ⟨t,h,d,al⟩ o=some ⟨v,[],[]⟩:=by intro _;rfl):Rq cx O keep io ops draw (o::os) k ⟨t,h,d,al⟩ log K:=.pure hw hd ho nx
theorem Rq.po {v:AV} (ho:∀call,opX cx call keep ⟨t,h,d,al⟩ o=some ⟨v,[],[]⟩) (v':AV) (hv:v=v') (nx:Rq cx O keep io ops draw os (k+1) ⟨(dd,v')::t,h,d,al⟩ ((k,⟨v',[],[]⟩)::log) K)
  (hw:wantX ops ⟨t,h,d,al⟩ o=some true:=by rfl) (hd:o.dst=some dd:=by rfl):Rq cx O keep io ops draw (o::os) k ⟨t,h,d,al⟩ log K:=.pureN hw hd ho hv nx
theorem Rq.pv (v v':AV) (hv:v=v') (nx:Rq cx O keep io ops draw os (k+1) ⟨(dd,v')::t,h,d,al⟩ ((k,⟨v',[],[]⟩)::log) K)
  (hw:wantX ops ⟨t,h,d,al⟩ o=some true:=by rfl) (hd:o.dst=some dd:=by rfl) (ho:∀call,opX cx call keep ⟨t,h,d,al⟩ o=some ⟨v,[],[]⟩:=by intro _;rfl):Rq cx O keep io ops draw (o::os) k ⟨t,h,d,al⟩ log K:=.pureN hw hd ho hv nx
theorem Rq.r (v:AV) (nx:Rq cx O keep io ops draw os (k+1) ⟨(dd,v)::t,h,d,al⟩ ((k,⟨v,rds,[]⟩)::log) K)
  (hw:wantX ops ⟨t,h,d,al⟩ o=some true:=by rfl) (hd:o.dst=some dd:=by rfl) (ho:∀call,opX cx call keep ⟨t,h,d,al⟩ o=some ⟨v,rds,[]⟩:=by intro _;rfl) (hc:draw=false∨checkX ops k ⟨v,rds,[]⟩ log=true:=by first|exact .inl rfl|exact .inr (by kernel_rfl)):Rq cx O keep io ops draw (o::os) k ⟨t,h,d,al⟩ log K:=.rdo hw hd ho hc nx
theorem Rq.ro {v:AV} (ho:∀call,opX cx call keep ⟨t,h,d,al⟩ o=some ⟨v,rds,[]⟩) (v':AV) (hv:v=v') (nx:Rq cx O keep io ops draw os (k+1) ⟨(dd,v')::t,h,d,al⟩ ((k,⟨v',rds,[]⟩)::log) K)
  (hw:wantX ops ⟨t,h,d,al⟩ o=some true:=by rfl) (hd:o.dst=some dd:=by rfl) (hc:draw=false∨checkX ops k ⟨v,rds,[]⟩ log=true:=by first|exact .inl rfl|exact .inr (by kernel_rfl)):Rq cx O keep io ops draw (o::os) k ⟨t,h,d,al⟩ log K:=.rdoN hw hd ho hc hv nx
theorem Rq.rv (v v':AV) (hv:v=v') (nx:Rq cx O keep io ops draw os (k+1) ⟨(dd,v')::t,h,d,al⟩ ((k,⟨v',rds,[]⟩)::log) K)
  (hw:wantX ops ⟨t,h,d,al⟩ o=some true:=by rfl) (hd:o.dst=some dd:=by rfl) (ho:∀call,opX cx call keep ⟨t,h,d,al⟩ o=some ⟨v,rds,[]⟩:=by intro _;rfl) (hc:draw=false∨checkX ops k ⟨v,rds,[]⟩ log=true:=by first|exact .inl rfl|exact .inr (by kernel_rfl)):Rq cx O keep io ops draw (o::os) k ⟨t,h,d,al⟩ log K:=.rdoN hw hd ho hc hv nx
theorem Rq.e (v:AV) (h':Hp) (nx:Rq cx O keep io ops draw os (k+1) ⟨(dd,v)::t,h',d',al⟩ ((k,⟨v,rds,us⟩)::log) K)
  (hw:wantX ops ⟨t,h,d,al⟩ o=some true:=by rfl) (hd:o.dst=some dd:=by rfl) (ho:∀call,opX cx call keep ⟨t,h,d,al⟩ o=some ⟨v,rds,us⟩:=by intro _;rfl) (hu:us.all (upOk io)=true:=by rfl) (hc:draw=false∨checkX ops k ⟨v,rds,us⟩ log=true:=by first|exact .inl rfl|exact .inr (by kernel_rfl)) (hh:Up.apps us h=h':=by rfl) (hdd:d++dn us=d':=by rfl):Rq cx O keep io ops draw (o::os) k ⟨t,h,d,al⟩ log K:=.eff hw hd ho hu hc hh hdd nx
theorem Rq.eo {v:AV} (ho:∀call,opX cx call keep ⟨t,h,d,al⟩ o=some ⟨v,rds,us⟩) (h':Hp) (nx:Rq cx O keep io ops draw os (k+1) ⟨(dd,v)::t,h',d',al⟩ ((k,⟨v,rds,us⟩)::log) K)
  (hw:wantX ops ⟨t,h,d,al⟩ o=some true:=by rfl) (hd:o.dst=some dd:=by rfl) (hu:us.all (upOk io)=true:=by rfl) (hc:draw=false∨checkX ops k ⟨v,rds,us⟩ log=true:=by first|exact .inl rfl|exact .inr (by kernel_rfl)) (hh:Up.apps us h=h':=by rfl) (hdd:d++dn us=d':=by rfl):Rq cx O keep io ops draw (o::os) k ⟨t,h,d,al⟩ log K:=.eff hw hd ho hu hc hh hdd nx
theorem Rq.s {v:AV} (h':Hp) (nx:Rq cx O keep io ops draw os (k+1) ⟨t,h',d',al⟩ ((k,⟨v,rds,us⟩)::log) K)
  (hw:wantX ops ⟨t,h,d,al⟩ o=some true:=by rfl) (hd:o.dst=none:=by rfl) (ho:∀call,opX cx call keep ⟨t,h,d,al⟩ o=some ⟨v,rds,us⟩:=by intro _;rfl) (hu:us.all (upOk io)=true:=by rfl) (hc:draw=false∨checkX ops k ⟨v,rds,us⟩ log=true:=by first|exact .inl rfl|exact .inr (by kernel_rfl)) (hh:Up.apps us h=h':=by rfl) (hdd:d++dn us=d':=by rfl):Rq cx O keep io ops draw (o::os) k ⟨t,h,d,al⟩ log K:=.eff0 hw hd ho hu hc hh hdd nx
theorem Rq.sq {v:AV} (h':Hp) (nx:Rq cx O keep io ops draw os (k+1) ⟨t,h',d',al⟩ ((k,⟨v,rds,us⟩)::log) K)
  (hw:wantX ops ⟨t,h,d,al⟩ o=some true:=by rfl) (hd:o.dst=none:=by rfl) (ho:∀call,opX cx call keep ⟨t,h,d,al⟩ o=some ⟨v,rds,us⟩:=by intro _;rfl) (hu:us.all (upOk io)=true:=by rfl) (hc:draw=false∨checkX ops k ⟨v,rds,us⟩ log=true:=by first|exact .inl rfl|exact .inr (by kernel_rfl)) (hh:Up.apps us h=h':=by kernel_rfl) (hdd:d++dn us=d':=by rfl):Rq cx O keep io ops draw (o::os) k ⟨t,h,d,al⟩ log K:=.eff0 hw hd ho hu hc hh hdd nx
theorem Rq.so {v:AV} (ho:∀call,opX cx call keep ⟨t,h,d,al⟩ o=some ⟨v,rds,us⟩) (h':Hp) (hh:Up.apps us h=h') (nx:Rq cx O keep io ops draw os (k+1) ⟨t,h',d',al⟩ ((k,⟨v,rds,us⟩)::log) K)
  (hw:wantX ops ⟨t,h,d,al⟩ o=some true:=by rfl) (hd:o.dst=none:=by rfl) (hu:us.all (upOk io)=true:=by rfl) (hc:draw=false∨checkX ops k ⟨v,rds,us⟩ log=true:=by first|exact .inl rfl|exact .inr (by kernel_rfl)) (hdd:d++dn us=d':=by rfl):Rq cx O keep io ops draw (o::os) k ⟨t,h,d,al⟩ log K:=.eff0 hw hd ho hu hc hh hdd nx
theorem Rq.sk (nx:Rq cx O keep io ops draw os (k+1) ⟨(dd,.tup [])::t,h,d,al⟩ log K) (hw:wantX ops ⟨t,h,d,al⟩ o=some false:=by rfl) (hd:o.dst=some dd:=by rfl):Rq cx O keep io ops draw (o::os) k ⟨t,h,d,al⟩ log K:=.skip hw hd nx
theorem zip_ok:∀{ps:List Pl} {cs:List AV},(ps.all fun p=> !p.p.isEmpty)=true→cs.all nonAgg=true→(List.zipWith Up.set ps cs++[]).all (upOk io)=true
 |[],_,_,_=>by simp
 |_::_,[],_,_=>by simp
 |p::ps,c::cs,h1,h2=>by
  simp only[List.all_cons,Bool.and_eq_true]at h1 h2
  simp only[List.zipWith_cons_cons,List.cons_append,List.all_cons,zip_ok h1.2 h2.2,upOk,h1.1,h2.1,Bool.and_self]
theorem Rq.cl {c:Call} {f:Nat} {fn:FnS} {x:Exs} {res:AV} {outs:List AV} {ius:List Up} {r:AV×List Up} (hF:cx.F f=some fn) (h0:o.op=.call c) (h1:c.callee=.value (.func f)) (ha:Ans cx O f x.vs (res,outs)) (hx:expArgs cx ⟨t,h,d,al⟩ fn.params fn.modes (c.args.toList.map (ev ⟨t,h,d,al⟩))=some x)
  (hi:ioUps x.io outs=some ius) (hv:noLkL x.vs=true) (hu:ius.all (upOk io)=true) (v:AV) (h':Hp)
  (nx:Rq cx O keep io ops draw os (k+1) ⟨(dd,v)::t,h',d',al⟩ ((k,{val:=r.1,rd:=x.rd,up:=x.up++ius++r.2})::log) K)
  (hw:wantX ops ⟨t,h,d,al⟩ o=some true:=by rfl) (hd:o.dst=some dd:=by rfl)
  (hr:(if fn.own then imp (1024*(o.dst.getD 0+1)) res else(frz 0 res,[]))=r:=by rfl) (hrv:r.1=v:=by rfl)
  (hl:(x.lent&& !(noLent res&&noLentL outs))=false:=by rfl) (hok:(!al&&Nat.ble x.io.length 1&&apartUps (x.up++ius)&&newsOk ⟨t,h,d,al⟩ r.2)=true:=by first|rfl|kernel_rfl)
  (hc:draw=false∨checkX ops k {val:=r.1,rd:=x.rd,up:=x.up++ius++r.2} log=true:=by first|exact .inl rfl|exact .inr (by kernel_rfl)) (hh:Up.apps (x.up++ius++r.2) h=h':=by kernel_rfl) (hdd:d++dn (x.up++ius++r.2)=d':=by rfl) (hu1:x.up.all (upOk io)=true:=by rfl) (hu2:r.2.all (upOk io)=true:=by rfl):Rq cx O keep io ops draw (o::os) k ⟨t,h,d,al⟩ log K:=by
 subst hrv
 exact .callF hw hd h0 h1 hF hx ha hl hi hr (by simp only[Bool.and_eq_true]at hok ⊢;exact⟨⟨⟨⟨hok.1.1.1,hv⟩,hok.1.1.2⟩,hok.1.2⟩,hok.2⟩) (by simp only[List.all_append,hu1,hu,hu2,Bool.and_self]) hc hh hdd nx
theorem Rq.done {L:List Nat} {os:List Oper} (S':St) (nx:Q .normal S') (h1:selOk L S.t=true:=by rfl) (h2:finU keep io os (wk L S)=some S':=by rfl):Rq cx O keep io ops draw [] k S log fun S1=>selOk L S1.t=true∧∃S',finU keep io os (wk L S1)=some S'∧Q .normal S':=.nil ⟨h1,_,h2,nx⟩
theorem Rq.fin {L:List Nat} {os:List Oper} {S':St} (h2:finU keep io os (wk L S)=some S') (nx:Q .normal S') (h1:selOk L S.t=true:=by rfl):Rq cx O keep io ops draw [] k S log fun S1=>selOk L S1.t=true∧∃S',finU keep io os (wk L S1)=some S'∧Q .normal S':=.nil ⟨h1,_,h2,nx⟩
theorem Wq.rg (L:List Nat) {id:Nat} {t0 h0 t1 h1:Hp} {d0 d1:List Up} {al:Bool}
  (h:Rq cx O (keepAt keep nm id) io ops draw ops.toList 0 ⟨t1,h1,d1,al⟩ [] fun S1=>selOk L S1.t=true∧∃S',finU (keepAt keep nm id) io ops.toList (wk L S1)=some S'∧Q .normal S') (hk:killX ops.toList (frzS nm id ⟨t0,h0,d0,false⟩)=⟨t1,h1,d1,false⟩:=by rfl) (ha:nm.contains id=al:=by rfl) (hkn:knw (t1.map (·.1)) ops.toList=true:=by kernel_rfl) (hL:asgIn (keepAt keep nm id) L ops.toList=true:=by kernel_rfl):Wq cx O keep io nm (.region id ops draw) ⟨t0,h0,d0,false⟩ Q:=.reg L hk ha hkn hL h
theorem resolve_nl:∀{us:List Up} {t h:Hp},us.any isLkU=false→resolve us t h=some (t,h)
 |[],_,_,_=>rfl
 |u::us,t,h,hu=>by
  simp only[List.any_cons,Bool.or_eq_false_iff]at hu
  exact resolve_skip hu.1 (resolve_nl hu.2)
theorem fin_nl {io:Nat} {ops:List Oper} {S':St} (hd:d.any isLkU=false) (hf:(let s2:=adoptAll keep io ops ⟨keepT d keep t,h,[],false⟩;(⟨keepR (keepH keep s2.h) s2.t,keepH keep s2.h,[],false⟩:St))=S'):finU keep io ops ⟨t,h,d,al⟩=some S':=by
 simp only[finU,resolve_nl hd,hd,Bool.false_and,Bool.false_eq_true,if_false]
 rw[←hf]
theorem nl_zip:∀{ps:List Pl} {cs:List AV},cs.all noLk=true→(List.zipWith Up.set ps cs++[]).any isLkU=false
 |[],_,_=>by simp
 |_::_,[],_=>by simp
 |p::ps,c::cs,h=>by
  simp only[List.all_cons,Bool.and_eq_true]at h
  simp only[List.zipWith_cons_cons,List.cons_append,List.any_cons,nl_zip h.2,Bool.or_false]
  cases c<;>first|rfl|(simp[noLk]at h)
theorem nl_dn {us:List Up} (h:us.any isLkU=false):(dn us).any isLkU=false:=by
 simp only[List.any_eq_false,dn,List.mem_filter,and_imp]at h ⊢
 exact fun u hu _=>h u hu
theorem nl_call {up rs:List Up} {cs:List AV} {ps:List Pl} (h0:d.any isLkU=false) (h1:up.any isLkU=false) (h2:cs.all noLk=true) (h3:rs.any isLkU=false):(d++dn (up++(List.zipWith Up.set ps cs++[])++rs)).any isLkU=false:=by
 rw[List.any_append,h0,nl_dn]
 ·rfl
 ·simp only[List.any_append,h1,nl_zip h2,h3,Bool.or_self]
def Jq (M:St→Prop) (Q:Xt→St→Prop):Xt→St→Prop
 | .normal,s=>M s
 |r,s=>Q r s
theorem Jq.mk {M:St→Prop} (h:M S):Jq M Q .normal S:=h
theorem Wq.jn {nm:List Nat} {c:Code} (M:St→Prop) (h:Wq cx O keep io nm c S (Jq M Q)) (h2:∀s',M s'→Q .normal s'):Wq cx O keep io nm c S Q:=
 h.imp fun r s' h=>by
  cases r with
  |normal=>exact h2 s' h
  |exit i=>exact h
  |ret=>exact h
theorem Wq.cv {nm:List Nat} {c:Code} (S':St) (hS:S=S') (h:Wq cx O keep io nm c S' Q):Wq cx O keep io nm c S Q:=hS▸h
def Iq (I:Nat→St→Prop) (m:Nat) (Q:Xt→St→Prop):Xt→St→Prop
 | .normal,s=>∃m',m'<m∧I m' s
 |r,s=>Q r s
theorem Iq.mk {I:Nat→St→Prop} {m:Nat} (m':Nat) (h:m'<m) (h2:I m' S):Iq I m Q .normal S:=⟨m',h,h2⟩
theorem Wq.lp {nm:List Nat} {b:Code} (I:Nat→St→Prop) (hb:∀m S,I m S→Wq cx O keep io nm b S (Iq I m Q)) {m:Nat} (h:I m S):Wq cx O keep io nm (.loop b) S Q:=
 .loopI I (fun m S hI=>(hb m S hI).imp fun r s' h=>by cases r<;>exact h) h
theorem Bq.n {id:Nat} (h:Q .normal S):Bq id Q .normal S:=h
def Aq (cx:Cx) (fn:FnS) (args:List AV) (x:AV×List AV):Xt→St→Prop
 | .exit _,_=>False
 |_,s=>outS cx fn args s x
theorem Aq.mk {fn:FnS} {args:List AV} {x y:AV×List AV} (h:outOf cx fn args S=some y) (e:y=x) (h2:resKn fn.results S.t=true:=by rfl):outS cx fn args S x:=⟨h2,h.trans (congrArg some e)⟩
theorem ans_q (L:List Nat) {f:Nat} {fn:FnS} {args:List AV} {x:AV×List AV} (hF:cx.F f=some fn) (hO:orc O f args=none)
  (hb:Wq cx O fn.keep (ioMask 0 fn.modes) fn.noMove fn.body ⟨sel L (entryT 0 (entryL 0 args).1 (unT fn.keep fn.ntmps)),Up.apps (entryL 0 args).2 [],[],false⟩ (Aq cx fn args x)) (he:apartUps (entryL 0 args).2=true:=by rfl):Ans cx O f args x:=
 ans_wq L hF hO he (hb.imp fun r s' h=>by
  cases r with
  |normal=>exact⟨.inr rfl,h⟩
  |ret=>exact⟨.inl rfl,h⟩
  |exit i=>exact absurd h id)
end Go.Am
end
section
namespace Go.Am
abbrev vi (n:Int):AV:=.int .i64 n
abbrev vs (s:ByteArray):AV:=.str s
structure Sl (α:Type) where
 lab:Nat
 sz:Nat
 l:List α
def Sl.av {α:Type} (f:α→AV) (s:Sl α):AV:=.fz s.lab s.sz (s.l.map f)
def Sl.ok {α:Type} (n:Nat) (s:Sl α):Prop:=s.l=[]∨s.sz=n
theorem Sl.ok.av {α:Type} {n:Nat} {s:Sl α} (h:s.ok n) (f:α→AV):s.l.map f=[]∨s.sz=n:=h.imp (fun h=>by rw[h];rfl) id
theorem map_getD {α:Type} {f:α→AV} {l:List α} {n:Int} {d:α} (h0:0≤n) (h:n<l.length):(l.map f)[n.toNat]?=some (f (l.getD n.toNat d)):=by
 have:n.toNat<l.length:=by omega
 simp[List.getD,this]
theorem map_getD0 {α:Type} {f:α→AV} {l:List α} {n:Int} {d:α} (h0:0≤n) (h:n<l.length):(l.map f)[0+n.toNat]?=some (f (l.getD n.toNat d)):=by
 rw[Nat.zero_add];exact map_getD h0 h
theorem getD_mem {α:Type} {l:List α} {n:Int} {d x:α} (e:x=l.getD n.toNat d) (h0:0≤n) (h:n<l.length):x∈l:=by
 have:n.toNat<l.length:=by omega
 rw[e,List.getD,List.getElem?_eq_getElem this]
 exact List.getElem_mem this
section
variable {cx:Cx} {keep:Nat} {call:CallF} {t h:Hp} {d:List Up} {al:Bool} {o:Oper}
theorem op_idxs {ty e:Nat} {x ix:Operand} {ei:TyI} {lab sz:Nat} {es:List AV} {ik:IntKind} {n:Int} {a:AV} (h0:o.op=.indexAddr ty x ix) (h1:cx.kind ty=some (.slice e)) (h2:cx.T e=some ei) (h3:ev ⟨t,h,d,al⟩ x=.fz lab sz es) (h4:ev ⟨t,h,d,al⟩ ix=.int ik n) (h5:0≤n) (h6:es[n.toNat]?=some a) (h7:es=[]∨sz=ei.size):
  opX cx call keep ⟨t,h,d,al⟩ o=some ⟨.fp lab a 0,[],[]⟩:=
 op_idx h0 h1 h2 h3 h4 h5 h6 (by rcases h7 with h|h<;>simp_all)
end
theorem wrap_id {n:Int} (h0: -2 ^ 62<n) (h1:n<2 ^ 62):IntKind.i64.wrap n=n:=by
 unfold IntKind.wrap
 simp[IntKind.bits,IntKind.signed]
 omega
section
variable {cx:Cx} {keep:Nat} {call:CallF} {t h:Hp} {d:List Up} {al:Bool} {o:Oper} {α:Type}
theorem op_ix {ty e z:Nat} {x ix:Operand} {ei:TyI} {s:Sl α} {f:α→AV} {ik:IntKind} {n:Int} {dv y:α} (ey:y=s.l.getD n.toNat dv) (h5:0≤n) (h6:n<s.l.length) (h7:s.ok z) (h0:o.op=.indexAddr ty x ix:=by rfl) (h1:cx.kind ty=some (.slice e):=by rfl) (h2:cx.T e=some ei:=by rfl) (h3:ev ⟨t,h,d,al⟩ x=s.av f:=by rfl) (h4:ev ⟨t,h,d,al⟩ ix=.int ik n:=by rfl) (hz:ei.size=z:=by rfl):
  opX cx call keep ⟨t,h,d,al⟩ o=some ⟨.fp s.lab (f y) 0,[],[]⟩:=by
 subst hz
 exact op_idxs h0 h1 h2 h3 h4 h5 (by rw[ey];exact map_getD h5 h6) (h7.av f)
end
theorem wrE {x y:Int} (e:x=y) (h0: -2 ^ 62<y) (h1:y<2 ^ 62):vi (IntKind.i64.wrap y)=vi x:=by rw[wrap_id h0 h1,e]
theorem ln {α:Type} {f:α→AV} {x:Int} {l:List α} (e:x=(l.length:Int)):vi ((l.map f).length:Int)=vi x:=by rw[List.length_map,e]
theorem ln0 {x:Int} {l:List AV} (e:x=(l.length:Int)):vi (l.length:Int)=vi x:=by rw[e]
end Go.Am
end
section
namespace Go.Am.Pull
inductive Act where
 |mk (kind ix:Int) (name:ByteArray) (lab sz:Nat) (kids:List Act)
def Act.kind:Act→Int| .mk k _ _ _ _ _=>k
def Act.ix:Act→Int| .mk _ k _ _ _ _=>k
def Act.name:Act→ByteArray| .mk _ _ k _ _ _=>k
def Act.lab:Act→Nat| .mk _ _ _ k _ _=>k
def Act.sz:Act→Nat| .mk _ _ _ _ k _=>k
def Act.kids:Act→List Act| .mk _ _ _ _ _ k=>k
mutual
def vAct:Act→AV
 | .mk k i n lab sz kids=>.agg [vi k,vi i,vs n,.fz lab sz (vActs kids)]
def vActs:List Act→List AV
 |[]=>[]
 |a::l=>vAct a::vActs l
end
theorem vActs_map:∀{l:List Act},vActs l=l.map vAct
 |[]=>rfl
 |a::l=>by rw[vActs,vActs_map];rfl
structure Prec where
 level:Int
 assoc:Int
 deriving Inhabited
def Prec.av (p:Prec):AV:=.agg [vi p.level,vi p.assoc]
structure Prod where
 left:Int
 right:Sl Int
 level:Int
 act:Act
instance:Inhabited Prod:=⟨⟨0,⟨0,0,[]⟩,0,.mk 0 0 .empty 0 0 []⟩⟩
def Prod.av (p:Prod):AV:=.agg [vi p.left,p.right.av vi,vi p.level,vi p.act.kind,vi p.act.ix,vs p.act.name,.fz p.act.lab p.act.sz (vActs p.act.kids)]
structure Plain where
 kinds:Sl ByteArray
 precs:Sl Prec
 rules:Sl ByteArray
 prods:Sl Prod
 start:Int
def Plain.cs (g:Plain):List AV:=[g.kinds.av vs,g.precs.av Prec.av,g.rules.av vs,g.prods.av Prod.av,vi g.start]
def Plain.av (g:Plain):AV:=.agg [g.kinds.av vs,g.precs.av Prec.av,g.rules.av vs,g.prods.av Prod.av,vi g.start]
structure Move where
 act:Int
 n:Int
 deriving DecidableEq,Inhabited
def Move.av (m:Move):AV:=.agg [vi m.act,vi m.n]
structure Table where
 moves:Sl (Sl Move)
 goto:Sl (Sl Int)
def Table.av (t:Table):AV:=.agg [t.moves.av (Sl.av Move.av),t.goto.av (Sl.av vi)]
instance {α:Type}:Inhabited (Sl α):=⟨⟨0,0,[]⟩⟩
structure PS where
 st:List Int
 ts:List AV
 tb:Bool
 tr:List Move
 n:Int
def oc (sz:Nat) (b:Bool) (l:List AV):AV:=cond b (.ow sz l) (.fz 1 0 [])
def pcv (g:Plain) (t:Table) (ss ts tr n:AV):AV:=.agg [g.kinds.av vs,g.precs.av Prec.av,g.rules.av vs,g.prods.av Prod.av,vi g.start,t.moves.av (Sl.av Move.av),t.goto.av (Sl.av vi),ss,ts,tr,n]
def PS.rf (g:Plain) (t:Table) (p:PS):AV:=pcv g t (.ow 1 (p.st.map vi)) (oc 3 p.tb p.ts) (oc 2 (!p.tr.isEmpty) (p.tr.map Move.av)) (vi p.n)
def isTree (a:AV):Bool:=match a with| .agg [.int .i64 _,.int .i64 _,.fz l _ k]=>l !=2&&noLentL k|_=>false
def lkM (t:Table) (s k:Int):Move:=((t.moves.l.getD s.toNat default).l.getD k.toNat default)
def lkG (t:Table) (s k:Int):Int:=((t.goto.l.getD s.toNat default).l.getD k.toNat 0)
def lkP (g:Plain) (n:Int):Prod:=g.prods.l.getD n.toNat default
def PS.last (p:PS):Int:=p.st.getD (p.st.length - 1) 0
def PS.push (p:PS) (s:Int) (d:AV):PS:={p with st:=p.st++[s],ts:=p.ts++[d],tb:=true}
structure Ok (g:Plain) (t:Table):Prop where
 prods:g.prods.ok 7
 right:∀x∈g.prods.l,x.right.ok 1
 left:∀x∈g.prods.l,0≤x.left∧x.left<g.rules.l.length
 moves:t.moves.ok 1
 goto:t.goto.ok 1
 len:t.goto.l.length=t.moves.l.length
 pos:0<t.moves.l.length
 kpos:0<g.kinds.l.length
 row:∀r∈t.moves.l,r.ok 2∧r.l.length=g.kinds.l.length
 grow:∀r∈t.goto.l,r.ok 1∧r.l.length=g.rules.l.length
 move:∀r∈t.moves.l,∀m∈r.l,(m.act=0∨m.act=1∧0≤m.n∧m.n<t.moves.l.length)∨m.act=2∧0≤m.n∧m.n<g.prods.l.length∨m.act=3
 acc:∀r∈t.moves.l,∀(k:Nat) m,r.l[k]?=some m→(m.act=1→k≠0)∧(m.act=3→k=0)
 goes:∀r∈t.goto.l,∀n∈r.l,-1≤n∧n<t.moves.l.length
 small:g.kinds.l.length<2 ^ 40∧g.rules.l.length<2 ^ 40∧g.prods.l.length<2 ^ 40∧t.moves.l.length<2 ^ 40∧∀x∈g.prods.l,x.right.l.length<2 ^ 40
structure PS.Fine (t:Table) (p:PS):Prop where
 st:p.st.length=p.ts.length+1
 ok:∀s∈p.st,0≤s∧s<t.moves.l.length
 tb:p.tb=false→p.ts=[]
 trees:p.ts.all isTree=true
 n:0≤p.n∧p.n≤65536
 ts:p.ts.length≤p.n
 tr:p.tr.length≤p.n+1
end Go.Am.Pull
end
section
namespace Go.Am.Pull
open Go Go.Proofs Go.Am
set_option maxRecDepth 100000
set_option maxHeartbeats 4000000
variable {O:List Ent}
noncomputable def fn76:FnS:=(mkA Try.f76 ⟨5,[0],false,[]⟩).getD ⟨.skip,0,[],[],0,[],false,[]⟩
theorem F76:cx.F 76=some fn76:=by kernel_rfl
theorem w76 (hO:∀e∈O,e.f≠76) {lab l1:Nat} {c0 c1 c2 c3 c4 c5 c6 c8 c9 c10:AV} {es:List AV} {v:Int} (hl:es.length<2 ^ 60) (hn:es≠[]) (g1:es[((es.length:Int) - 1).toNat]?=some (vi v)):Ans cx O 76 [(.fp lab (.agg [c0,c1,c2,c3,c4,c5,c6,(.fz l1 1 es),c8,c9,c10]) 0)] (vi v,[]):=by
 have hw:IntKind.i64.wrap ((es.length:Int) - 1)=(es.length:Int) - 1:=wrap_id (by omega) (by omega)
 have h0:0<es.length:=List.length_pos_iff.2 hn
 refine ans_wq [0] (fn:=fn76) F76 (orc_none hO) rfl ?_
 show Wq cx O 5 0 [] _ ⟨[(0,(.fp lab (.agg [c0,c1,c2,c3,c4,c5,c6,(.fz l1 1 es),c8,c9,c10]) 0))],[],[],false⟩ _
 apply Wq.seq
 refine Wq.reg [2,0] rfl rfl (by kernel_rfl) (by kernel_rfl) ?_
 refine Rq.pure (v:=(vi 0)) rfl rfl (fun _=>rfl) ?_
 refine Rq.nil ⟨rfl,_,rfl,?_⟩
 show Wq _ _ _ _ _ _ ⟨[(2,(vi 0)),(0,(.fp lab (.agg [c0,c1,c2,c3,c4,c5,c6,(.fz l1 1 es),c8,c9,c10]) 0))],[],[],false⟩ _
 apply Wq.seq
 refine Wq.reg [2] rfl rfl (by kernel_rfl) (by kernel_rfl) ?_
 iterate 2 (refine Rq.pure (v:=(.fp lab (.agg [c0,c1,c2,c3,c4,c5,c6,(.fz l1 1 es),c8,c9,c10]) 0)) rfl rfl (fun _=>rfl) ?_)
 refine Rq.pure (v:=(.fp lab (.agg [c0,c1,c2,c3,c4,c5,c6,(.fz l1 1 es),c8,c9,c10]) 7)) rfl rfl (fun _=>rfl) ?_
 refine Rq.pure (v:=(.fz l1 1 es)) rfl rfl (fun _=>rfl) ?_
 iterate 2 (refine Rq.pure (v:=(.fp lab (.agg [c0,c1,c2,c3,c4,c5,c6,(.fz l1 1 es),c8,c9,c10]) 0)) rfl rfl (fun _=>rfl) ?_)
 refine Rq.pure (v:=(.fp lab (.agg [c0,c1,c2,c3,c4,c5,c6,(.fz l1 1 es),c8,c9,c10]) 7)) rfl rfl (fun _=>rfl) ?_
 refine Rq.pure (v:=(.fz l1 1 es)) rfl rfl (fun _=>rfl) ?_
 iterate 2 (refine Rq.pure (v:=(vi _)) rfl rfl (fun _=>rfl) ?_)
 refine Rq.pure (v:=(.fp _ _ _)) rfl rfl (fun _=>op_idxs rfl rfl rfl rfl rfl (by rw[hw];omega) (by rw[hw];exact g1) (.inr rfl)) ?_
 iterate 2 (refine Rq.pure (v:=(vi _)) rfl rfl (fun _=>rfl) ?_)
 refine Rq.nil ⟨rfl,_,rfl,?_⟩
 show Wq _ _ _ _ _ _ ⟨[(2,(vi _))],[],[],false⟩ _
 refine Wq.ret ?_
 exact And.intro (.inl rfl) ⟨rfl,rfl⟩
noncomputable def fn78:FnS:=(mkA Try.f78 ⟨39,[3,0,2],false,[]⟩).getD ⟨.skip,0,[],[],0,[],false,[]⟩
theorem F78:cx.F 78=some fn78:=by kernel_rfl
theorem w78' (hO:∀e∈O,e.f≠78) {l0 z0 l1 z1 l2 z2 l3 z3 l5 z5 l6 z6:Nat} {c0 c1 c2 c3 c5 c6:List AV} {c4 ct:Int} {trc:AV} {ss ts ks:List AV} {n dp dt:Int} {dl dz:Nat} (nss:ss.all noLk=true) (nts:ts.all noLk=true) (ntr:noLk trc=true) (hs:ss.length<2 ^ 40) (ht:ts.length<2 ^ 40):Ans cx O 78 [(.bx (.agg [(.fz l0 z0 c0),(.fz l1 z1 c1),(.fz l2 z2 c2),(.fz l3 z3 c3),(vi c4),(.fz l5 z5 c5),(.fz l6 z6 c6),(.ow 1 ss),(.ow 3 ts),trc,(vi ct)])),(vi n),(.agg [(vi dp),(vi dt),(.fz dl dz ks)])] (.tup [],[.bx (.agg [.fz l0 z0 c0,.fz l1 z1 c1,.fz l2 z2 c2,.fz l3 z3 c3,vi c4,.fz l5 z5 c5,.fz l6 z6 c6,.ow 1 (ss++[vi n]),.ow 3 (ts++[.agg [vi dp,vi dt,.fz dl dz ks]]),trc,vi ct])]):=by
 refine ans_wq [2,1,0] (fn:=fn78) F78 (orc_none hO) rfl ?_
 show Wq cx O 39 1 [] _ ⟨[(2,(.agg [(vi dp),(vi dt),(.fz dl dz ks)])),(1,(vi n)),(0,(.ptr ⟨0,[]⟩ 0 0))],[(0,.bx (.agg [(.fz l0 z0 c0),(.fz l1 z1 c1),(.fz l2 z2 c2),(.fz l3 z3 c3),(vi c4),(.fz l5 z5 c5),(.fz l6 z6 c6),(.ow 1 ss),(.ow 3 ts),trc,(vi ct)]))],[],false⟩ _
 apply Wq.seq
 refine Wq.reg [5,1,0] rfl rfl (by kernel_rfl) (by kernel_rfl) ?_
 refine Rq.eff (v:=(.ptr ⟨5,[]⟩ 0 0)) (h':=[(0,.bx (.agg [(.fz l0 z0 c0),(.fz l1 z1 c1),(.fz l2 z2 c2),(.fz l3 z3 c3),(vi c4),(.fz l5 z5 c5),(.fz l6 z6 c6),(.ow 1 ss),(.ow 3 ts),trc,(vi ct)])),(5,.bx (.agg [(vi dp),(vi dt),(.fz dl dz ks)]))]) rfl rfl (fun _=>rfl) rfl (.inl rfl) rfl rfl ?_
 refine Rq.nil ⟨rfl,_,rfl,?_⟩
 show Wq _ _ _ _ _ _ ⟨[(5,(.ptr ⟨5,[]⟩ 0 0)),(1,(vi n)),(0,(.ptr ⟨0,[]⟩ 0 0))],[(0,.bx (.agg [(.fz l0 z0 c0),(.fz l1 z1 c1),(.fz l2 z2 c2),(.fz l3 z3 c3),(vi c4),(.fz l5 z5 c5),(.fz l6 z6 c6),(.ow 1 ss),(.ow 3 ts),trc,(vi ct)])),(5,.bx (.agg [(vi dp),(vi dt),(.fz dl dz ks)]))],[],false⟩ _
 apply Wq.seq
 refine Wq.join (fun s=>s=⟨[(5,(.ptr ⟨5,[]⟩ 0 0)),(0,(.ptr ⟨0,[]⟩ 0 0))],[(0,.bx (.agg [(.fz l0 z0 c0),(.fz l1 z1 c1),(.fz l2 z2 c2),(.fz l3 z3 c3),(vi c4),(.fz l5 z5 c5),(.fz l6 z6 c6),(.ow 1 (ss++[(vi n)])),(.ow 3 ts),trc,(vi ct)])),(5,.bx (.agg [(vi dp),(vi dt),(.fz dl dz ks)]))],[],false⟩) ?_ ?_
 ·refine Wq.reg [5,0] rfl rfl (by kernel_rfl) (by kernel_rfl) ?_
  iterate 2 (refine Rq.pure (v:=(.ptr ⟨0,[]⟩ 0 0)) rfl rfl (fun _=>rfl) ?_)
  refine Rq.rdo (v:=(.ptr ⟨0,[]⟩ 0 0)) rfl rfl (fun _=>rfl) (.inl rfl) ?_
  refine Rq.rdo (v:=(.ptr ⟨0,[]⟩ 0 7)) rfl rfl (fun _=>rfl) (.inl rfl) ?_
  refine Rq.rdo (v:=(.rf _ _ _ _)) rfl rfl (fun _=>rfl) (.inl rfl) ?_
  refine Rq.pure (v:=(vi n)) rfl rfl (fun _=>rfl) ?_
  refine Rq.eff (v:=(.rf _ _ _ _)) (h':=[(0,.bx (.agg [(.fz l0 z0 c0),(.fz l1 z1 c1),(.fz l2 z2 c2),(.fz l3 z3 c3),(vi c4),(.fz l5 z5 c5),(.fz l6 z6 c6),(.ow 1 ss),(.ow 3 ts),trc,(vi ct)])),(5,.bx (.agg [(vi dp),(vi dt),(.fz dl dz ks)])),(12,.ow 1 [(vi n)])]) rfl rfl (fun _=>rfl) rfl (.inl rfl) rfl rfl ?_
  refine Rq.eff (v:=(.rf _ _ _ _)) (h':=[(0,.bx (.agg [(.fz l0 z0 c0),(.fz l1 z1 c1),(.fz l2 z2 c2),(.fz l3 z3 c3),(vi c4),(.fz l5 z5 c5),(.fz l6 z6 c6),_,(.ow 3 ts),trc,(vi ct)])),(5,.bx (.agg [(vi dp),(vi dt),(.fz dl dz ks)])),(12,.ow 1 [(vi n)]),(13,.ow 1 _)]) (d':=[.set _ _]) rfl rfl (fun _=>op_appr rfl rfl rfl rfl rfl rfl rfl rfl rfl rfl (new:=[_]) rfl (List.cons_ne_nil _ _) rfl rfl (by simp) (by show(_+1)*8≤70368744177664;omega) (by show _+1≤70368744177664;omega) rfl) rfl (.inl rfl) rfl rfl ?_
  refine Rq.rdo (v:=(.ptr ⟨0,[]⟩ 0 0)) rfl rfl (fun _=>rfl) (.inl rfl) ?_
  refine Rq.rdo (v:=(.ptr ⟨0,[]⟩ 0 7)) rfl rfl (fun _=>rfl) (.inl rfl) ?_
  refine Rq.eff0 (h':=[(0,.bx (.agg [(.fz l0 z0 c0),(.fz l1 z1 c1),(.fz l2 z2 c2),(.fz l3 z3 c3),(vi c4),(.fz l5 z5 c5),(.fz l6 z6 c6),(.lk 13 _),(.ow 3 ts),trc,(vi ct)])),(5,.bx (.agg [(vi dp),(vi dt),(.fz dl dz ks)])),(12,.ow 1 [(vi n)]),(13,.ow 1 _)]) (d':=[.set _ _,.set _ _]) rfl rfl (fun _=>rfl) rfl (.inl rfl) rfl rfl ?_
  refine Rq.nil ⟨rfl,_,fin_of (h1:=[(0,.bx (.agg [(.fz l0 z0 c0),(.fz l1 z1 c1),(.fz l2 z2 c2),(.fz l3 z3 c3),(vi c4),(.fz l5 z5 c5),(.fz l6 z6 c6),(.ow 1 _),(.ow 3 ts),trc,(vi ct)])),(5,.bx (.agg [(vi dp),(vi dt),(.fz dl dz ks)])),(12,.ow 1 [(vi n)])]) (resolve_skip rfl (resolve_lk rfl rfl rfl (by simp) (rfl))) (by simp[noLkH,noLk,noLkL_all,take_snoc,nss,nts,ntr]) rfl,?_⟩
  show(⟨[(5,(.ptr ⟨5,[]⟩ 0 0)),(0,(.ptr ⟨0,[]⟩ 0 0))],[(0,.bx (.agg [(.fz l0 z0 c0),(.fz l1 z1 c1),(.fz l2 z2 c2),(.fz l3 z3 c3),(vi c4),(.fz l5 z5 c5),(.fz l6 z6 c6),(.ow 1 _),(.ow 3 ts),trc,(vi ct)])),(5,.bx (.agg [(vi dp),(vi dt),(.fz dl dz ks)]))],[],false⟩:St)=_
  simp[take_snoc]
 rintro s rfl
 show Wq _ _ _ _ _ _ ⟨[(5,(.ptr ⟨5,[]⟩ 0 0)),(0,(.ptr ⟨0,[]⟩ 0 0))],[(0,.bx (.agg [(.fz l0 z0 c0),(.fz l1 z1 c1),(.fz l2 z2 c2),(.fz l3 z3 c3),(vi c4),(.fz l5 z5 c5),(.fz l6 z6 c6),(.ow 1 (ss++[(vi n)])),(.ow 3 ts),trc,(vi ct)])),(5,.bx (.agg [(vi dp),(vi dt),(.fz dl dz ks)]))],[],false⟩ _
 refine Wq.join (fun s=>s=⟨[],[(0,.bx (.agg [(.fz l0 z0 c0),(.fz l1 z1 c1),(.fz l2 z2 c2),(.fz l3 z3 c3),(vi c4),(.fz l5 z5 c5),(.fz l6 z6 c6),(.ow 1 (ss++[(vi n)])),(.ow 3 (ts++[(.agg [(vi dp),(vi dt),(.fz dl dz ks)])])),trc,(vi ct)])),(5,.bx (.agg [(vi dp),(vi dt),(.fz dl dz ks)]))],[],false⟩) ?_ ?_
 ·refine Wq.reg [] rfl rfl (by kernel_rfl) (by kernel_rfl) ?_
  refine Rq.pure (v:=(.ptr ⟨0,[]⟩ 0 0)) rfl rfl (fun _=>rfl) ?_
  refine Rq.rdo (v:=(.ptr ⟨0,[]⟩ 0 0)) rfl rfl (fun _=>rfl) (.inr (by kernel_rfl)) ?_
  refine Rq.rdo (v:=(.ptr ⟨0,[]⟩ 0 8)) rfl rfl (fun _=>rfl) (.inr (by kernel_rfl)) ?_
  refine Rq.rdo (v:=(.rf _ _ _ _)) rfl rfl (fun _=>rfl) (.inr (by kernel_rfl)) ?_
  refine Rq.rdo (v:=(.agg [(vi dp),(vi dt),(.fz dl dz ks)])) rfl rfl (fun _=>rfl) (.inr (by kernel_rfl)) ?_
  refine Rq.rdo (v:=(vi _)) rfl rfl (fun _=>rfl) (.inr (by kernel_rfl)) ?_
  refine Rq.eff (v:=(.rf _ _ _ _)) (h':=[(0,.bx (.agg [(.fz l0 z0 c0),(.fz l1 z1 c1),(.fz l2 z2 c2),(.fz l3 z3 c3),(vi c4),(.fz l5 z5 c5),(.fz l6 z6 c6),(.ow 1 _),(.ow 3 ts),trc,(vi ct)])),(5,.bx (.agg [(vi dp),(vi dt),(.fz dl dz ks)])),(22,.ow 3 [(.agg [(vi 0),(vi 0),(.fz 1 0 [])])])]) rfl rfl (fun _=>rfl) rfl (.inr (by kernel_rfl)) rfl rfl ?_
  refine Rq.eff (v:=(.rf _ _ _ _)) (h':=[(0,.bx (.agg [(.fz l0 z0 c0),(.fz l1 z1 c1),(.fz l2 z2 c2),(.fz l3 z3 c3),(vi c4),(.fz l5 z5 c5),(.fz l6 z6 c6),(.ow 1 _),_,trc,(vi ct)])),(5,.bx (.agg [(vi dp),(vi dt),(.fz dl dz ks)])),(22,.ow 3 [(.agg [(vi 0),(vi 0),(.fz 1 0 [])])]),(23,.ow 3 _)]) (d':=[.set _ _]) rfl rfl (fun _=>op_appr rfl rfl rfl rfl rfl rfl rfl rfl rfl rfl (new:=[_]) rfl (List.cons_ne_nil _ _) rfl rfl (by simp) (by show(_+1)*40≤70368744177664;omega) (by show _+1≤70368744177664;omega) rfl) rfl (.inr (by kernel_rfl)) rfl rfl ?_
  refine Rq.rdo (v:=(.ptr _ _ _)) rfl rfl (fun _=>op_idxr rfl rfl rfl rfl rfl (by first|omega|(simp;done)|(simp;omega)) (by first|omega|(simp;done)|(simp;omega)) rfl rfl) (.inr (by kernel_rfl)) ?_
  refine Rq.eff0 (d':=[.set _ _,.set _ _,.set _ _,.set _ _]) rfl rfl (fun _=>op_str rfl rfl rfl rfl (cs:=[(vi dp),(vi dt),(.fz dl dz ks)]) rfl rfl rfl getApp rfl rfl) rfl (.inr (by kernel_rfl)) (apps_agg (List.cons_ne_nil _ _) rfl getApp rfl) rfl ?_
  refine Rq.rdo (v:=(.ptr ⟨0,[]⟩ 0 0)) rfl rfl (fun _=>rfl) (.inr (by kernel_rfl)) ?_
  refine Rq.rdo (v:=(.ptr ⟨0,[]⟩ 0 8)) rfl rfl (fun _=>rfl) (.inr (by kernel_rfl)) ?_
  refine Rq.eff0 (h':=[(0,.bx (.agg [(.fz l0 z0 c0),(.fz l1 z1 c1),(.fz l2 z2 c2),(.fz l3 z3 c3),(vi c4),(.fz l5 z5 c5),(.fz l6 z6 c6),(.ow 1 _),(.lk 23 _),trc,(vi ct)])),(5,.bx (.agg [(vi dp),(vi dt),(.fz dl dz ks)])),(22,.ow 3 [(.agg [(vi 0),(vi 0),(.fz 1 0 [])])]),(23,.ow 3 _)]) (d':=[.set _ _,.set _ _,.set _ _,.set _ _,.set _ _]) rfl rfl (fun _=>rfl) rfl (.inr (by kernel_rfl)) rfl rfl ?_
  refine Rq.nil ⟨rfl,_,fin_of (h1:=[(0,.bx (.agg [(.fz l0 z0 c0),(.fz l1 z1 c1),(.fz l2 z2 c2),(.fz l3 z3 c3),(vi c4),(.fz l5 z5 c5),(.fz l6 z6 c6),(.ow 1 _),(.ow 3 _),trc,(vi ct)])),(5,.bx (.agg [(vi dp),(vi dt),(.fz dl dz ks)])),(22,.ow 3 [(.agg [(vi 0),(vi 0),(.fz 1 0 [])])])]) (resolve_skip rfl (resolve_skip rfl (resolve_skip rfl (resolve_skip rfl (resolve_lk rfl rfl rfl (by simp) (rfl)))))) (by simp[noLkH,noLk,noLkL_all,take_snoc,nss,nts,ntr]) rfl,?_⟩
  show(⟨[],[(0,.bx (.agg [(.fz l0 z0 c0),(.fz l1 z1 c1),(.fz l2 z2 c2),(.fz l3 z3 c3),(vi c4),(.fz l5 z5 c5),(.fz l6 z6 c6),(.ow 1 _),(.ow 3 _),trc,(vi ct)])),(5,.bx (.agg [(vi dp),(vi dt),(.fz dl dz ks)]))],[],false⟩:St)=_
  simp[take_snoc]
 rintro s rfl
 exact And.intro (.inr rfl) ⟨rfl,rfl⟩
theorem w78n' (hO:∀e∈O,e.f≠78) {l0 z0 l1 z1 l2 z2 l3 z3 l5 z5 l6 z6:Nat} {c0 c1 c2 c3 c5 c6:List AV} {c4 ct:Int} {trc:AV} {ss ks:List AV} {n dp dt:Int} {dl dz:Nat} (nss:ss.all noLk=true) (ntr:noLk trc=true) (hs:ss.length<2 ^ 40):Ans cx O 78 [(.bx (.agg [(.fz l0 z0 c0),(.fz l1 z1 c1),(.fz l2 z2 c2),(.fz l3 z3 c3),(vi c4),(.fz l5 z5 c5),(.fz l6 z6 c6),(.ow 1 ss),(.fz 1 0 []),trc,(vi ct)])),(vi n),(.agg [(vi dp),(vi dt),(.fz dl dz ks)])] (.tup [],[.bx (.agg [.fz l0 z0 c0,.fz l1 z1 c1,.fz l2 z2 c2,.fz l3 z3 c3,vi c4,.fz l5 z5 c5,.fz l6 z6 c6,.ow 1 (ss++[vi n]),.ow 3 ([.agg [vi dp,vi dt,.fz dl dz ks]]),trc,vi ct])]):=by
 refine ans_wq [2,1,0] (fn:=fn78) F78 (orc_none hO) rfl ?_
 show Wq cx O 39 1 [] _ ⟨[(2,(.agg [(vi dp),(vi dt),(.fz dl dz ks)])),(1,(vi n)),(0,(.ptr ⟨0,[]⟩ 0 0))],[(0,.bx (.agg [(.fz l0 z0 c0),(.fz l1 z1 c1),(.fz l2 z2 c2),(.fz l3 z3 c3),(vi c4),(.fz l5 z5 c5),(.fz l6 z6 c6),(.ow 1 ss),(.fz 1 0 []),trc,(vi ct)]))],[],false⟩ _
 apply Wq.seq
 refine Wq.reg [5,1,0] rfl rfl (by kernel_rfl) (by kernel_rfl) ?_
 refine Rq.eff (v:=(.ptr ⟨5,[]⟩ 0 0)) (h':=[(0,.bx (.agg [(.fz l0 z0 c0),(.fz l1 z1 c1),(.fz l2 z2 c2),(.fz l3 z3 c3),(vi c4),(.fz l5 z5 c5),(.fz l6 z6 c6),(.ow 1 ss),(.fz 1 0 []),trc,(vi ct)])),(5,.bx (.agg [(vi dp),(vi dt),(.fz dl dz ks)]))]) rfl rfl (fun _=>rfl) rfl (.inl rfl) rfl rfl ?_
 refine Rq.nil ⟨rfl,_,rfl,?_⟩
 show Wq _ _ _ _ _ _ ⟨[(5,(.ptr ⟨5,[]⟩ 0 0)),(1,(vi n)),(0,(.ptr ⟨0,[]⟩ 0 0))],[(0,.bx (.agg [(.fz l0 z0 c0),(.fz l1 z1 c1),(.fz l2 z2 c2),(.fz l3 z3 c3),(vi c4),(.fz l5 z5 c5),(.fz l6 z6 c6),(.ow 1 ss),(.fz 1 0 []),trc,(vi ct)])),(5,.bx (.agg [(vi dp),(vi dt),(.fz dl dz ks)]))],[],false⟩ _
 apply Wq.seq
 refine Wq.join (fun s=>s=⟨[(5,(.ptr ⟨5,[]⟩ 0 0)),(0,(.ptr ⟨0,[]⟩ 0 0))],[(0,.bx (.agg [(.fz l0 z0 c0),(.fz l1 z1 c1),(.fz l2 z2 c2),(.fz l3 z3 c3),(vi c4),(.fz l5 z5 c5),(.fz l6 z6 c6),(.ow 1 (ss++[(vi n)])),(.fz 1 0 []),trc,(vi ct)])),(5,.bx (.agg [(vi dp),(vi dt),(.fz dl dz ks)]))],[],false⟩) ?_ ?_
 ·refine Wq.reg [5,0] rfl rfl (by kernel_rfl) (by kernel_rfl) ?_
  iterate 2 (refine Rq.pure (v:=(.ptr ⟨0,[]⟩ 0 0)) rfl rfl (fun _=>rfl) ?_)
  refine Rq.rdo (v:=(.ptr ⟨0,[]⟩ 0 0)) rfl rfl (fun _=>rfl) (.inl rfl) ?_
  refine Rq.rdo (v:=(.ptr ⟨0,[]⟩ 0 7)) rfl rfl (fun _=>rfl) (.inl rfl) ?_
  refine Rq.rdo (v:=(.rf _ _ _ _)) rfl rfl (fun _=>rfl) (.inl rfl) ?_
  refine Rq.pure (v:=(vi n)) rfl rfl (fun _=>rfl) ?_
  refine Rq.eff (v:=(.rf _ _ _ _)) (h':=[(0,.bx (.agg [(.fz l0 z0 c0),(.fz l1 z1 c1),(.fz l2 z2 c2),(.fz l3 z3 c3),(vi c4),(.fz l5 z5 c5),(.fz l6 z6 c6),(.ow 1 ss),(.fz 1 0 []),trc,(vi ct)])),(5,.bx (.agg [(vi dp),(vi dt),(.fz dl dz ks)])),(12,.ow 1 [(vi n)])]) rfl rfl (fun _=>rfl) rfl (.inl rfl) rfl rfl ?_
  refine Rq.eff (v:=(.rf _ _ _ _)) (h':=[(0,.bx (.agg [(.fz l0 z0 c0),(.fz l1 z1 c1),(.fz l2 z2 c2),(.fz l3 z3 c3),(vi c4),(.fz l5 z5 c5),(.fz l6 z6 c6),_,(.fz 1 0 []),trc,(vi ct)])),(5,.bx (.agg [(vi dp),(vi dt),(.fz dl dz ks)])),(12,.ow 1 [(vi n)]),(13,.ow 1 _)]) (d':=[.set _ _]) rfl rfl (fun _=>op_appr rfl rfl rfl rfl rfl rfl rfl rfl rfl rfl (new:=[_]) rfl (List.cons_ne_nil _ _) rfl rfl (by simp) (by show(_+1)*8≤70368744177664;omega) (by show _+1≤70368744177664;omega) rfl) rfl (.inl rfl) rfl rfl ?_
  refine Rq.rdo (v:=(.ptr ⟨0,[]⟩ 0 0)) rfl rfl (fun _=>rfl) (.inl rfl) ?_
  refine Rq.rdo (v:=(.ptr ⟨0,[]⟩ 0 7)) rfl rfl (fun _=>rfl) (.inl rfl) ?_
  refine Rq.eff0 (h':=[(0,.bx (.agg [(.fz l0 z0 c0),(.fz l1 z1 c1),(.fz l2 z2 c2),(.fz l3 z3 c3),(vi c4),(.fz l5 z5 c5),(.fz l6 z6 c6),(.lk 13 _),(.fz 1 0 []),trc,(vi ct)])),(5,.bx (.agg [(vi dp),(vi dt),(.fz dl dz ks)])),(12,.ow 1 [(vi n)]),(13,.ow 1 _)]) (d':=[.set _ _,.set _ _]) rfl rfl (fun _=>rfl) rfl (.inl rfl) rfl rfl ?_
  refine Rq.nil ⟨rfl,_,fin_of (h1:=[(0,.bx (.agg [(.fz l0 z0 c0),(.fz l1 z1 c1),(.fz l2 z2 c2),(.fz l3 z3 c3),(vi c4),(.fz l5 z5 c5),(.fz l6 z6 c6),(.ow 1 _),(.fz 1 0 []),trc,(vi ct)])),(5,.bx (.agg [(vi dp),(vi dt),(.fz dl dz ks)])),(12,.ow 1 [(vi n)])]) (resolve_skip rfl (resolve_lk rfl rfl rfl (by simp) (rfl))) (by simp[noLkH,noLk,noLkL_all,take_snoc,nss,ntr]) rfl,?_⟩
  show(⟨[(5,(.ptr ⟨5,[]⟩ 0 0)),(0,(.ptr ⟨0,[]⟩ 0 0))],[(0,.bx (.agg [(.fz l0 z0 c0),(.fz l1 z1 c1),(.fz l2 z2 c2),(.fz l3 z3 c3),(vi c4),(.fz l5 z5 c5),(.fz l6 z6 c6),(.ow 1 _),(.fz 1 0 []),trc,(vi ct)])),(5,.bx (.agg [(vi dp),(vi dt),(.fz dl dz ks)]))],[],false⟩:St)=_
  simp[take_snoc]
 rintro s rfl
 show Wq _ _ _ _ _ _ ⟨[(5,(.ptr ⟨5,[]⟩ 0 0)),(0,(.ptr ⟨0,[]⟩ 0 0))],[(0,.bx (.agg [(.fz l0 z0 c0),(.fz l1 z1 c1),(.fz l2 z2 c2),(.fz l3 z3 c3),(vi c4),(.fz l5 z5 c5),(.fz l6 z6 c6),(.ow 1 (ss++[(vi n)])),(.fz 1 0 []),trc,(vi ct)])),(5,.bx (.agg [(vi dp),(vi dt),(.fz dl dz ks)]))],[],false⟩ _
 refine Wq.join (fun s=>s=⟨[],[(0,.bx (.agg [(.fz l0 z0 c0),(.fz l1 z1 c1),(.fz l2 z2 c2),(.fz l3 z3 c3),(vi c4),(.fz l5 z5 c5),(.fz l6 z6 c6),(.ow 1 (ss++[(vi n)])),(.ow 3 [(.agg [(vi dp),(vi dt),(.fz dl dz ks)])]),trc,(vi ct)])),(5,.bx (.agg [(vi dp),(vi dt),(.fz dl dz ks)]))],[],false⟩) ?_ ?_
 ·refine Wq.reg [] rfl rfl (by kernel_rfl) (by kernel_rfl) ?_
  refine Rq.pure (v:=(.ptr ⟨0,[]⟩ 0 0)) rfl rfl (fun _=>rfl) ?_
  refine Rq.rdo (v:=(.ptr ⟨0,[]⟩ 0 0)) rfl rfl (fun _=>rfl) (.inr (by kernel_rfl)) ?_
  refine Rq.rdo (v:=(.ptr ⟨0,[]⟩ 0 8)) rfl rfl (fun _=>rfl) (.inr (by kernel_rfl)) ?_
  refine Rq.rdo (v:=(.fz 1 0 [])) rfl rfl (fun _=>rfl) (.inr (by kernel_rfl)) ?_
  refine Rq.rdo (v:=(.agg [(vi dp),(vi dt),(.fz dl dz ks)])) rfl rfl (fun _=>rfl) (.inr (by kernel_rfl)) ?_
  refine Rq.pure (v:=(vi _)) rfl rfl (fun _=>rfl) ?_
  refine Rq.eff (v:=(.rf _ _ _ _)) (h':=[(0,.bx (.agg [(.fz l0 z0 c0),(.fz l1 z1 c1),(.fz l2 z2 c2),(.fz l3 z3 c3),(vi c4),(.fz l5 z5 c5),(.fz l6 z6 c6),(.ow 1 _),(.fz 1 0 []),trc,(vi ct)])),(5,.bx (.agg [(vi dp),(vi dt),(.fz dl dz ks)])),(22,.ow 3 [(.agg [(vi 0),(vi 0),(.fz 1 0 [])])])]) rfl rfl (fun _=>rfl) rfl (.inr (by kernel_rfl)) rfl rfl ?_
  refine Rq.eff (v:=(.rf _ _ _ _)) (h':=[(0,.bx (.agg [(.fz l0 z0 c0),(.fz l1 z1 c1),(.fz l2 z2 c2),(.fz l3 z3 c3),(vi c4),(.fz l5 z5 c5),(.fz l6 z6 c6),(.ow 1 _),(.fz 1 0 []),trc,(vi ct)])),(5,.bx (.agg [(vi dp),(vi dt),(.fz dl dz ks)])),(22,.ow 3 [(.agg [(vi 0),(vi 0),(.fz 1 0 [])])]),(23,.ow 3 [(.agg [(vi 0),(vi 0),(.fz 1 0 [])])])]) rfl rfl (fun _=>rfl) rfl (.inr (by kernel_rfl)) rfl rfl ?_
  refine Rq.rdo (v:=(.ptr _ _ _)) rfl rfl (fun _=>op_idxr rfl rfl rfl rfl rfl (by first|omega|(simp;done)|(simp;omega)) (by first|omega|(simp;done)|(simp;omega)) rfl rfl) (.inr (by kernel_rfl)) ?_
  refine Rq.eff0 (d':=[.set _ _,.set _ _,.set _ _]) rfl rfl (fun _=>op_str rfl rfl rfl rfl (cs:=[(vi dp),(vi dt),(.fz dl dz ks)]) rfl rfl rfl rfl rfl rfl) rfl (.inr (by kernel_rfl)) (apps_agg (List.cons_ne_nil _ _) rfl rfl rfl) rfl ?_
  refine Rq.rdo (v:=(.ptr ⟨0,[]⟩ 0 0)) rfl rfl (fun _=>rfl) (.inr (by kernel_rfl)) ?_
  refine Rq.rdo (v:=(.ptr ⟨0,[]⟩ 0 8)) rfl rfl (fun _=>rfl) (.inr (by kernel_rfl)) ?_
  refine Rq.eff0 (h':=[(0,.bx (.agg [(.fz l0 z0 c0),(.fz l1 z1 c1),(.fz l2 z2 c2),(.fz l3 z3 c3),(vi c4),(.fz l5 z5 c5),(.fz l6 z6 c6),(.ow 1 _),(.lk 23 _),trc,(vi ct)])),(5,.bx (.agg [(vi dp),(vi dt),(.fz dl dz ks)])),(22,.ow 3 [(.agg [(vi 0),(vi 0),(.fz 1 0 [])])]),(23,.ow 3 [(.agg [(vi dp),(vi dt),(.fz dl dz ks)])])]) (d':=[.set _ _,.set _ _,.set _ _,.set _ _]) rfl rfl (fun _=>rfl) rfl (.inr (by kernel_rfl)) rfl rfl ?_
  refine Rq.nil ⟨rfl,_,fin_of (h1:=[(0,.bx (.agg [(.fz l0 z0 c0),(.fz l1 z1 c1),(.fz l2 z2 c2),(.fz l3 z3 c3),(vi c4),(.fz l5 z5 c5),(.fz l6 z6 c6),(.ow 1 _),(.ow 3 [(.agg [(vi dp),(vi dt),(.fz dl dz ks)])]),trc,(vi ct)])),(5,.bx (.agg [(vi dp),(vi dt),(.fz dl dz ks)])),(22,.ow 3 [(.agg [(vi 0),(vi 0),(.fz 1 0 [])])])]) (resolve_skip rfl (resolve_skip rfl (resolve_skip rfl (resolve_lk rfl rfl rfl (by simp) (rfl))))) (by simp[noLkH,noLk,noLkL_all,nss,ntr]) rfl,?_⟩
  show(⟨[],[(0,.bx (.agg [(.fz l0 z0 c0),(.fz l1 z1 c1),(.fz l2 z2 c2),(.fz l3 z3 c3),(vi c4),(.fz l5 z5 c5),(.fz l6 z6 c6),(.ow 1 _),(.ow 3 [(.agg [(vi dp),(vi dt),(.fz dl dz ks)])]),trc,(vi ct)])),(5,.bx (.agg [(vi dp),(vi dt),(.fz dl dz ks)]))],[],false⟩:St)=_
  simp
 rintro s rfl
 exact And.intro (.inr rfl) ⟨rfl,rfl⟩
theorem isTree_iff {a:AV} (h:isTree a=true):∃p t l z k,a=.agg [vi p,vi t,.fz l z k]:=by
 unfold isTree at h
 split at h
 ·exact⟨_,_,_,_,_,rfl⟩
 ·cases h
theorem noLent_tree {a:AV} (h:isTree a=true):noLent a=true:=by
 obtain⟨p,t,l,z,k,rfl⟩:=isTree_iff h
 simpa[isTree,noLent,noLentL]using h
theorem noLentL_trees:∀{l:List AV},l.all isTree=true→noLentL l=true
 |[],_=>rfl
 |a::l,h=>by
  simp only[List.all_cons,Bool.and_eq_true]at h
  simp[noLentL,noLent_tree h.1,noLentL_trees h.2]
theorem tree_nd {n:Int} {l:List AV} (h:l.all isTree=true):isTree (.agg [vi n,vi 0,.fz 0 3 l])=true:=by simp[isTree,noLentL_trees h]
theorem drop_trees {l:List AV} {n:Nat} (h:l.all isTree=true):(l.drop n).all isTree=true:=List.all_eq_true.2 fun a ha=>List.all_eq_true.1 h a (List.mem_of_mem_drop ha)
theorem take_trees {l:List AV} {n:Nat} (h:l.all isTree=true):(l.take n).all isTree=true:=List.all_eq_true.2 fun a ha=>List.all_eq_true.1 h a (List.mem_of_mem_take ha)
theorem noLk_tree {l:List AV} (h:l.all isTree=true):l.all noLk=true:=by
 simp only[List.all_eq_true]at h ⊢
 intro a ha
 obtain⟨p,t,l,z,k,rfl⟩:=isTree_iff (h a ha)
 rfl
theorem noLk_ints {l:List Int}:(l.map vi).all noLk=true:=by simp[noLk]
theorem noLk_moves {l:List Move}:(l.map Move.av).all noLk=true:=by simp[noLk,Move.av,noLkL]
theorem noLk_oc {b:Bool} {sz:Nat} {l:List AV} (h:l.all noLk=true):noLk (oc sz b l)=true:=by cases b<;>simp[oc,noLk,noLkL_all,h]
theorem push_ok (hO:∀e∈O,e.f≠78) {g:Plain} {t:Table} {p:PS} {s:Int} {d:AV} (hd:isTree d=true) (h1:p.st.length<2 ^ 40) (h2:p.ts.length<2 ^ 40) (h3:p.ts.all isTree=true) (h4:p.tb=false→p.ts=[]):Ans cx O 78 [.bx (p.rf g t),vi s,d] (.tup [],[.bx ((p.push s d).rf g t)]):=by
 obtain⟨dp,dt,dl,dz,ks,rfl⟩:=isTree_iff hd
 obtain⟨st,ts,tb,tr,n⟩:=p
 cases tb with
 |true=>
  have:=w78' hO (ss:=st.map vi) (ts:=ts) (n:=s) (dp:=dp) (dt:=dt) (dl:=dl) (dz:=dz) (ks:=ks) (trc:=oc 2 (!tr.isEmpty) (tr.map Move.av)) (l0:=g.kinds.lab) (z0:=g.kinds.sz) (c0:=g.kinds.l.map vs) (l1:=g.precs.lab) (z1:=g.precs.sz) (c1:=g.precs.l.map Prec.av) (l2:=g.rules.lab) (z2:=g.rules.sz) (c2:=g.rules.l.map vs) (l3:=g.prods.lab) (z3:=g.prods.sz) (c3:=g.prods.l.map Prod.av) (c4:=g.start) (l5:=t.moves.lab) (z5:=t.moves.sz) (c5:=t.moves.l.map (Sl.av Move.av)) (l6:=t.goto.lab) (z6:=t.goto.sz) (c6:=t.goto.l.map (Sl.av vi)) (ct:=n) noLk_ints (noLk_tree h3) (noLk_oc noLk_moves) (by simpa using h1) h2
  simpa[PS.rf,pcv,PS.push,oc,Sl.av]using this
 |false=>
  obtain rfl:ts=[]:=h4 rfl
  have:=w78n' hO (ss:=st.map vi) (n:=s) (dp:=dp) (dt:=dt) (dl:=dl) (dz:=dz) (ks:=ks) (trc:=oc 2 (!tr.isEmpty) (tr.map Move.av)) (l0:=g.kinds.lab) (z0:=g.kinds.sz) (c0:=g.kinds.l.map vs) (l1:=g.precs.lab) (z1:=g.precs.sz) (c1:=g.precs.l.map Prec.av) (l2:=g.rules.lab) (z2:=g.rules.sz) (c2:=g.rules.l.map vs) (l3:=g.prods.lab) (z3:=g.prods.sz) (c3:=g.prods.l.map Prod.av) (c4:=g.start) (l5:=t.moves.lab) (z5:=t.moves.sz) (c5:=t.moves.l.map (Sl.av Move.av)) (l6:=t.goto.lab) (z6:=t.goto.sz) (c6:=t.goto.l.map (Sl.av vi)) (ct:=n) noLk_ints (noLk_oc noLk_moves) (by simpa using h1)
  simpa[PS.rf,pcv,PS.push,oc,Sl.av]using this
end Go.Am.Pull
end
section
namespace Go.Am.Pull
open Go Go.Proofs Go.Am
set_option maxRecDepth 100000
set_option maxHeartbeats 4000000
variable {O:List Ent}
theorem fzn_tree {a:AV} (h:isTree a=true):Fzn a:=by
 obtain⟨p,t,l,z,k,rfl⟩:=isTree_iff h
 intro lab;rfl
theorem plain_tree {l:List AV} (h:l.all isTree=true):l.all plainEl=true:=by
 simp only[List.all_eq_true]at h ⊢
 intro a ha
 obtain⟨p,t,l,z,k,rfl⟩:=isTree_iff (h a ha)
 rfl
theorem noLk_pcv {g:Plain} {t:Table} {a b c d:AV}:noLk (pcv g t a b c d)=(noLk a&&noLk b&&noLk c&&noLk d):=by simp[pcv,noLk,noLkL,Sl.av,Bool.and_assoc]
theorem noLk_prod {x:Prod}:noLk (Prod.av x)=true:=by simp[Prod.av,noLk,noLkL,Sl.av]
theorem pcv_na {g:Plain} {t:Table} {a b c d:AV}:(cells (pcv g t a b c d)).all nonAgg=(nonAgg a&&(nonAgg b&&(nonAgg c&&nonAgg d))):=by
 simp only[pcv,cells,List.all_cons,List.all_nil,Bool.and_true]
 rfl
theorem pcv_nl {g:Plain} {t:Table} {a b c d:AV} (ha:noLk a=true) (hb:noLk b=true) (hc:noLk c=true) (hd:noLk d=true):(cells (pcv g t a b c d)).all noLk=true:=by
 simp only[pcv,cells,List.all_cons,List.all_nil,ha,hb,hc,hd]
 rfl
def ndR (_:Bool) (n:Int) (kids:List AV):AV:=.agg [vi n,vi 0,if kids=[]then .fz 1 0 []else .fz 0 3 kids]
def redS (nd:Bool→Int→List AV→AV) (g:Plain) (t:Table) (n:Int) (p:PS):Option PS:=
 let k:=(lkP g n).right.l.length
 if p.st.length<k+1 then none else
 let to:=lkG t (p.st.getD (p.st.length - k - 1) 0) (lkP g n).left
 if to<0 then none else some (PS.push {p with st:=p.st.take (p.st.length - k),ts:=p.ts.take (p.ts.length - k)} to (nd p.tb n (p.ts.drop (p.ts.length - k))))
noncomputable def fn77:FnS:=(mkA Try.f77 ⟨72057594306364403,[3,0],false,[]⟩).getD ⟨.skip,0,[],[],0,[],false,[]⟩
theorem F77:cx.F 77=some fn77:=by kernel_rfl
theorem w77A (hO:∀e∈O,e.f≠77) (hO2:∀e∈O,e.f≠78) {g:Plain} {t:Table} (hok:Ok g t) {st:List Int} {ts:List AV} {tr:List Move} {n ct:Int} (hn0:0≤n) (hn:n<g.prods.l.length) (hst:st.length=ts.length+1) (hs:∀s∈st,0≤s∧s<t.moves.l.length) (ht:ts.all isTree=true) (hsm:ts.length<2 ^ 39) (hk:0<(lkP g n).right.l.length):Ans cx O 77 [.bx ((PS.mk st ts true tr ct).rf g t),vi n] (match redS ndR g t n ⟨st,ts,true,tr,ct⟩with|none=>(vi 170,[.bx ((PS.mk st ts true tr ct).rf g t)])|some q=>(vi 0,[.bx (q.rf g t)])):=by
 obtain⟨trc,etr⟩:∃x,x=oc 2 (!tr.isEmpty) (tr.map Move.av):=⟨_,rfl⟩
 have ntr:noLk trc=true:=etr▸noLk_oc noLk_moves
 have nst:(st.map vi).all noLk=true:=noLk_ints
 have nts:ts.all noLk=true:=noLk_tree ht
 show Ans cx O 77 [.bx (pcv g t (.ow 1 (st.map vi)) (.ow 3 ts) (oc 2 (!tr.isEmpty) (tr.map Move.av)) (vi ct)),vi n] _
 rw[←etr]
 have lmst:(st.map vi).length=st.length:=List.length_map _
 refine ans_q [1,0] (fn:=fn77) F77 (orc_none hO) ?_
 show Wq cx O 72057594306364403 1 [] _ ⟨[(1,(vi n)),(0,(.ptr ⟨0,[]⟩ 0 0))],[(0,.bx (pcv g t (.ow 1 (st.map vi)) (.ow 3 ts) trc (vi ct)))],[],false⟩ _
 apply Wq.seq
 refine Wq.rg [4,1,0] ?_
 refine .p (vi 0) ?_
 refine .done ⟨[(4,(vi 0)),(1,(vi n)),(0,(.ptr ⟨0,[]⟩ 0 0))],[(0,.bx (pcv g t (.ow 1 (st.map vi)) (.ow 3 ts) trc (vi ct)))],[],false⟩ ?_
 apply Wq.seq
 refine Wq.rg [5,1,0] ?_
 refine .p (.ptr ⟨0,[]⟩ 0 0) ?_
 iterate 2 (refine .r (.ptr ⟨0,[]⟩ 0 0) ?_)
 refine .r (.ptr ⟨0,[]⟩ 0 3) ?_
 refine .r (Sl.av Prod.av g.prods) ?_
 refine .p (vi n) ?_
 obtain⟨r16,e16⟩:∃x:_,x=(g.prods.l.getD n.toNat default):=⟨_,rfl⟩
 have m16:=getD_mem e16 (by omega) (by omega)
 have q16:=hok.small.2.2.2.2 r16 m16
 have l16:=hok.left r16 m16
 have hk2:0<r16.right.l.length:=e16▸hk
 refine .po (fun _=>op_ix e16 (by omega) (by omega) hok.prods) (.fp _ (Prod.av r16) 0) rfl ?_
 refine .p (Prod.av r16) ?_
 refine .e (.ptr ⟨5,[]⟩ 0 0) [(0,.bx (pcv g t (.ow 1 (st.map vi)) (.ow 3 ts) trc (vi ct))),(5,.bx (.agg [(vi 0),(.fz 1 0 []),(vi 0),(vi 0),(vi 0),(vs ByteArray.empty),(.fz 1 0 [])]))] ?_
 refine .s [(0,.bx (pcv g t (.ow 1 (st.map vi)) (.ow 3 ts) trc (vi ct))),(5,.bx (Prod.av r16))] ?_
 refine .done ⟨[(5,(.ptr ⟨5,[]⟩ 0 0)),(1,(vi n)),(0,(.ptr ⟨0,[]⟩ 0 0))],[(0,.bx (pcv g t (.ow 1 (st.map vi)) (.ow 3 ts) trc (vi ct))),(5,.bx (Prod.av r16))],[],false⟩ ?_
 apply Wq.seq
 refine Wq.rg [6,5,1,0] ?_
 refine .r (.ptr ⟨5,[]⟩ 0 1) ?_
 refine .r (Sl.av vi r16.right) ?_
 obtain⟨x20,e20⟩:∃x:Int,x=(r16.right.l.length:Int):=⟨_,rfl⟩
 refine .pv _ (vi x20) (ln e20) ?_
 refine .p (vi x20) ?_
 refine .done ⟨[(6,(vi x20)),(5,(.ptr ⟨5,[]⟩ 0 0)),(1,(vi n)),(0,(.ptr ⟨0,[]⟩ 0 0))],[(0,.bx (pcv g t (.ow 1 (st.map vi)) (.ow 3 ts) trc (vi ct))),(5,.bx (Prod.av r16))],[],false⟩ ?_
 apply Wq.seq
 apply Wq.seq
 refine Wq.rg [28,6,5,1,0] ?_
 refine .p (.ptr ⟨0,[]⟩ 0 0) ?_
 refine .r (.ptr ⟨0,[]⟩ 0 0) ?_
 refine .r (.ptr ⟨0,[]⟩ 0 7) ?_
 refine .r (.rf _ _ _ _) ?_
 obtain⟨x25,e25⟩:∃x:Int,x=(st.length:Int):=⟨_,rfl⟩
 refine .rv _ (vi x25) (ln e25) ?_
 refine .p (vi x20) ?_
 obtain⟨x27,e27⟩:∃x:Int,x=(x25 - x20):=⟨_,rfl⟩
 refine .pv _ (vi x27) (wrE e27 (by omega) (by omega)) ?_
 refine .p (.bool (decide (x27<1))) ?_
 refine .done ⟨[(28,(.bool (decide (x27<1)))),(6,(vi x20)),(5,(.ptr ⟨5,[]⟩ 0 0)),(1,(vi n)),(0,(.ptr ⟨0,[]⟩ 0 0))],[(0,.bx (pcv g t (.ow 1 (st.map vi)) (.ow 3 ts) trc (vi ct))),(5,.bx (Prod.av r16))],[],false⟩ ?_
 refine Wq.cond rfl (fun hx=>?_) (fun hx=>?_)
 ·have hx:=of_decide_eq_true hx
  apply Wq.seq
  refine Wq.rg [4] ?_
  refine .p (vi 170) ?_
  refine .done ⟨[(4,(vi 170))],[(0,.bx (pcv g t (.ow 1 (st.map vi)) (.ow 3 ts) trc (vi ct))),(5,.bx (Prod.av r16))],[],false⟩ ?_
  refine Wq.ret ?_
  exact Aq.mk rfl (by
   have ek:lkP g n=r16:=e16.symm
   rw[show redS ndR g t n ⟨st,ts,true,tr,ct⟩=none from if_pos (by show st.length<(lkP g n).right.l.length+1;rw[ek];omega)]
   subst etr;rfl)
 ·have hx:=of_decide_eq_false hx
  refine Wq.skip ?_
  apply Wq.seq
  refine Wq.rg [7,6,5,1,0] ?_
  refine .p (.ptr ⟨0,[]⟩ 0 0) ?_
  refine .r (.ptr ⟨0,[]⟩ 0 0) ?_
  refine .r (.ptr ⟨0,[]⟩ 0 7) ?_
  refine .r (.rf _ _ _ _) ?_
  refine .p (.ptr ⟨0,[]⟩ 0 0) ?_
  refine .r (.ptr ⟨0,[]⟩ 0 0) ?_
  refine .r (.ptr ⟨0,[]⟩ 0 7) ?_
  refine .r (.rf _ _ _ _) ?_
  obtain⟨x37,e37⟩:∃x:Int,x=(st.length:Int):=⟨_,rfl⟩
  refine .rv _ (vi x37) (ln e37) ?_
  refine .p (vi x20) ?_
  obtain⟨x39,e39⟩:∃x:Int,x=(x37 - x20):=⟨_,rfl⟩
  refine .pv _ (vi x39) (wrE e39 (by omega) (by omega)) ?_
  obtain⟨x40,e40⟩:∃x:Int,x=(x39 - 1):=⟨_,rfl⟩
  refine .pv _ (vi x40) (wrE e40 (by omega) (by omega)) ?_
  refine .ro (fun _=>op_idxr rfl rfl rfl rfl rfl (by first|omega|(simp;done)|(simp;omega)) (by first|omega|(simp;done)|(simp;omega)) rfl rfl) (.ptr _ _ _) rfl ?_
  obtain⟨x42,e42⟩:∃x:Int,x=(st.getD x40.toNat default):=⟨_,rfl⟩
  have b42:=hs x42 (getD_mem e42 (by omega) (by omega))
  have c42:=hok.len
  refine .ro (fun _=>op_ldr rfl rfl rfl rfl (map_getD0 (by omega) (by omega)) (fun _=>rfl) rfl rfl rfl rfl rfl) (vi x42) (congrArg vi e42.symm) ?_
  refine .p (vi x42) ?_
  refine .done ⟨[(7,(vi x42)),(6,(vi x20)),(5,(.ptr ⟨5,[]⟩ 0 0)),(1,(vi n)),(0,(.ptr ⟨0,[]⟩ 0 0))],[(0,.bx (pcv g t (.ow 1 (st.map vi)) (.ow 3 ts) trc (vi ct))),(5,.bx (Prod.av r16))],[],false⟩ ?_
  apply Wq.seq
  refine Wq.rg [8,6,1,0] ?_
  refine .p (.ptr ⟨0,[]⟩ 0 0) ?_
  refine .r (.ptr ⟨0,[]⟩ 0 0) ?_
  refine .r (.ptr ⟨0,[]⟩ 0 5) ?_
  refine .r (.ptr ⟨0,[]⟩ 0 6) ?_
  refine .r (Sl.av (Sl.av vi) t.goto) ?_
  refine .p (vi x42) ?_
  obtain⟨r49,e49⟩:∃x:_,x=(t.goto.l.getD x42.toNat default):=⟨_,rfl⟩
  have m49:=getD_mem e49 (by omega) (by omega)
  have g49:=(hok.grow r49 m49).2
  refine .po (fun _=>op_ix e49 (by omega) (by omega) hok.goto) (.fp _ ((Sl.av vi) r49) 0) rfl ?_
  refine .p (Sl.av vi r49) ?_
  refine .r (.ptr ⟨5,[]⟩ 0 0) ?_
  refine .r (vi r16.left) ?_
  obtain⟨r53,e53⟩:∃x:_,x=(r49.l.getD r16.left.toNat default):=⟨_,rfl⟩
  have m53:=getD_mem e53 (by omega) (by omega)
  refine .po (fun _=>op_ix e53 (by omega) (by omega) (hok.grow _ m49).1) (.fp _ (vi r53) 0) rfl ?_
  iterate 2 (refine .p (vi r53) ?_)
  refine .done ⟨[(8,(vi r53)),(6,(vi x20)),(1,(vi n)),(0,(.ptr ⟨0,[]⟩ 0 0))],[(0,.bx (pcv g t (.ow 1 (st.map vi)) (.ow 3 ts) trc (vi ct))),(5,.bx (Prod.av r16))],[],false⟩ ?_
  apply Wq.seq
  apply Wq.seq
  refine Wq.rg [56,8,6,1,0] ?_
  refine .p (vi r53) ?_
  refine .p (.bool (decide (r53<0))) ?_
  refine .done ⟨[(56,(.bool (decide (r53<0)))),(8,(vi r53)),(6,(vi x20)),(1,(vi n)),(0,(.ptr ⟨0,[]⟩ 0 0))],[(0,.bx (pcv g t (.ow 1 (st.map vi)) (.ow 3 ts) trc (vi ct))),(5,.bx (Prod.av r16))],[],false⟩ ?_
  refine Wq.cond rfl (fun hx=>?_) (fun hx=>?_)
  ·have hx:=of_decide_eq_true hx
   apply Wq.seq
   refine Wq.rg [4] ?_
   refine .p (vi 170) ?_
   refine .done ⟨[(4,(vi 170))],[(0,.bx (pcv g t (.ow 1 (st.map vi)) (.ow 3 ts) trc (vi ct))),(5,.bx (Prod.av r16))],[],false⟩ ?_
   refine Wq.ret ?_
   exact Aq.mk rfl (by
    have ek:lkP g n=r16:=e16.symm
    have el:lkG t (st.getD (st.length - r16.right.l.length - 1) 0) r16.left=r53:=by
     rw[e53,e49,e42,show x40.toNat=st.length - r16.right.l.length - 1 by omega];rfl
    rw[show redS ndR g t n ⟨st,ts,true,tr,ct⟩=none from by
     simp only[redS,ek,el]
     rw[if_neg (by omega),if_pos (by omega)]]
    subst etr;rfl)
  ·have hx:=of_decide_eq_false hx
   refine Wq.skip ?_
   apply Wq.seq
   refine Wq.rg [9,8,6,0] ?_
   refine .p (vi n) ?_
   refine .p (.agg [(vi n),(vi 0),(.fz 1 0 [])]) ?_
   refine .e (.ptr ⟨9,[]⟩ 0 0) [(0,.bx (pcv g t (.ow 1 (st.map vi)) (.ow 3 ts) trc (vi ct))),(5,.bx (Prod.av r16)),(9,.bx (.agg [(vi 0),(vi 0),(.fz 1 0 [])]))] ?_
   refine .s [(0,.bx (pcv g t (.ow 1 (st.map vi)) (.ow 3 ts) trc (vi ct))),(5,.bx (Prod.av r16)),(9,.bx (.agg [(vi n),(vi 0),(.fz 1 0 [])]))] ?_
   refine .done ⟨[(9,(.ptr ⟨9,[]⟩ 0 0)),(8,(vi r53)),(6,(vi x20)),(0,(.ptr ⟨0,[]⟩ 0 0))],[(0,.bx (pcv g t (.ow 1 (st.map vi)) (.ow 3 ts) trc (vi ct))),(5,.bx (Prod.av r16)),(9,.bx (.agg [(vi n),(vi 0),(.fz 1 0 [])]))],[],false⟩ ?_
   apply Wq.seq
   obtain⟨x69,e69⟩:∃x:Int,x=(ts.length:Int):=⟨_,rfl⟩
   obtain⟨x71,e71⟩:∃x:Int,x=(x69 - x20):=⟨_,rfl⟩
   have ndr:(ts.drop x71.toNat).all noLk=true:=List.all_eq_true.2 fun a ha=>List.all_eq_true.1 nts a (List.mem_of_mem_drop ha)
   refine Wq.jn (fun s=>s=⟨[(9,(.ptr ⟨9,[]⟩ 0 0)),(8,(vi r53)),(6,(vi x20)),(0,(.ptr ⟨0,[]⟩ 0 0))],[(0,.bx (pcv g t (.ow 1 (st.map vi)) (.ow 3 ts) trc (vi ct))),(5,.bx (Prod.av r16)),(9,.bx (.agg [(vi n),(vi 0),(.ow 3 (ts.drop x71.toNat))]))],[],false⟩) ?_ ?_
   ·refine Wq.rg [9,8,6,0] ?_
    refine .r (.ptr ⟨9,[]⟩ 0 2) ?_
    refine .r (.fz 1 0 []) ?_
    refine .p (.ptr ⟨0,[]⟩ 0 0) ?_
    refine .r (.ptr ⟨0,[]⟩ 0 0) ?_
    refine .r (.ptr ⟨0,[]⟩ 0 8) ?_
    refine .r (.rf _ _ _ _) ?_
    refine .p (.ptr ⟨0,[]⟩ 0 0) ?_
    refine .r (.ptr ⟨0,[]⟩ 0 0) ?_
    refine .r (.ptr ⟨0,[]⟩ 0 8) ?_
    refine .r (.rf _ _ _ _) ?_
    refine .rv _ (vi x69) (ln0 e69) ?_
    refine .p (vi x20) ?_
    refine .pv _ (vi x71) (wrE e71 (by omega) (by omega)) ?_
    refine .ro (fun _=>op_slr rfl rfl rfl rfl rfl (bound_in (by omega) (by omega)) rfl rfl) (.rf _ _ _ _) rfl ?_
    refine .eo (fun _=>op_appn rfl rfl rfl rfl rfl rfl rfl rfl rfl rfl (elems_rf rfl rfl (by first|omega|(simp;done)|(simp;omega)) (plain_tree (List.all_eq_true.2 fun a ha=>List.all_eq_true.1 ht a (List.mem_of_mem_drop (List.mem_of_mem_take ha))))) (fun h=>by have:=congrArg List.length h;simp at this;omega) (by show _*_≤70368744177664;simp;omega) (by show _≤70368744177664;simp;omega) rfl) [(0,.bx (pcv g t (.ow 1 (st.map vi)) (.ow 3 ts) trc (vi ct))),(5,.bx (Prod.av r16)),(9,.bx (.agg [(vi n),(vi 0),(.fz 1 0 [])])),(73,.ow 3 _)] ?_
    refine .r (.ptr ⟨9,[]⟩ 0 2) ?_
    refine .s [(0,.bx (pcv g t (.ow 1 (st.map vi)) (.ow 3 ts) trc (vi ct))),(5,.bx (Prod.av r16)),(9,.bx (.agg [(vi n),(vi 0),(.lk 73 _)])),(73,.ow 3 _)] ?_
    refine .fin (fin_of (h1:=[(0,.bx (pcv g t (.ow 1 (st.map vi)) (.ow 3 ts) trc (vi ct))),(5,.bx (Prod.av r16)),(9,.bx (.agg [(vi n),(vi 0),(.ow 3 _)]))]) (resolve_lk rfl rfl rfl (by simp) (rfl)) (by simp[noLkH,noLk,noLkL_all,take_cut,noLk_pcv,noLk_prod,nst,nts,ntr,ndr]) rfl) ?_
    show(⟨[(9,(.ptr ⟨9,[]⟩ 0 0)),(8,(vi r53)),(6,(vi x20)),(0,(.ptr ⟨0,[]⟩ 0 0))],[(0,.bx (pcv g t (.ow 1 (st.map vi)) (.ow 3 ts) trc (vi ct))),(5,.bx (Prod.av r16)),(9,.bx (.agg [(vi n),(vi 0),(.ow 3 _)]))],[],false⟩:St)=_
    simp[take_cut]
   rintro s rfl
   apply Wq.seq
   obtain⟨x84,e84⟩:∃x:Int,x=(st.length:Int):=⟨_,rfl⟩
   obtain⟨x86,e86⟩:∃x:Int,x=(x84 - x20):=⟨_,rfl⟩
   refine Wq.jn (fun s=>s=⟨[(9,(.ptr ⟨9,[]⟩ 0 0)),(8,(vi r53)),(6,(vi x20)),(0,(.ptr ⟨0,[]⟩ 0 0))],[(0,.bx (pcv g t (.ow 1 ((st.take x86.toNat).map vi)) (.ow 3 ts) trc (vi ct))),(5,.bx (Prod.av r16)),(9,.bx (.agg [(vi n),(vi 0),(.ow 3 (ts.drop x71.toNat))]))],[],false⟩) ?_ ?_
   ·refine Wq.rg [9,8,6,0] ?_
    iterate 2 (refine .p (.ptr ⟨0,[]⟩ 0 0) ?_)
    refine .r (.ptr ⟨0,[]⟩ 0 0) ?_
    refine .r (.ptr ⟨0,[]⟩ 0 7) ?_
    refine .r (.rf _ _ _ _) ?_
    refine .p (.ptr ⟨0,[]⟩ 0 0) ?_
    refine .r (.ptr ⟨0,[]⟩ 0 0) ?_
    refine .r (.ptr ⟨0,[]⟩ 0 7) ?_
    refine .r (.rf _ _ _ _) ?_
    refine .rv _ (vi x84) (ln e84) ?_
    refine .p (vi x20) ?_
    refine .pv _ (vi x86) (wrE e86 (by omega) (by omega)) ?_
    refine .ro (fun _=>op_slr rfl rfl rfl rfl (bound_in (by omega) (by omega)) rfl rfl rfl) (.rf _ _ _ _) rfl ?_
    refine .r (.ptr ⟨0,[]⟩ 0 0) ?_
    refine .r (.ptr ⟨0,[]⟩ 0 7) ?_
    refine .so (fun _=>op_cut rfl rfl rfl rfl rfl rfl (by first|omega|(simp;done)|(simp;omega)) rfl rfl) [(0,.bx (pcv g t (.ow 1 _) (.ow 3 ts) trc (vi ct))),(5,.bx (Prod.av r16)),(9,.bx (.agg [(vi n),(vi 0),(.ow 3 _)]))] rfl ?_
    refine .done ⟨[(9,(.ptr ⟨9,[]⟩ 0 0)),(8,(vi r53)),(6,(vi x20)),(0,(.ptr ⟨0,[]⟩ 0 0))],[(0,.bx (pcv g t (.ow 1 _) (.ow 3 ts) trc (vi ct))),(5,.bx (Prod.av r16)),(9,.bx (.agg [(vi n),(vi 0),(.ow 3 _)]))],[],false⟩ ?_
    show(⟨[(9,(.ptr ⟨9,[]⟩ 0 0)),(8,(vi r53)),(6,(vi x20)),(0,(.ptr ⟨0,[]⟩ 0 0))],[(0,.bx (pcv g t (.ow 1 _) (.ow 3 ts) trc (vi ct))),(5,.bx (Prod.av r16)),(9,.bx (.agg [(vi n),(vi 0),(.ow 3 _)]))],[],false⟩:St)=_
    simp[List.map_take]
   rintro s rfl
   apply Wq.seq
   obtain⟨x99,e99⟩:∃x:Int,x=(ts.length:Int):=⟨_,rfl⟩
   obtain⟨x101,e101⟩:∃x:Int,x=(x99 - x20):=⟨_,rfl⟩
   refine Wq.jn (fun s=>s=⟨[(9,(.ptr ⟨9,[]⟩ 0 0)),(8,(vi r53)),(0,(.ptr ⟨0,[]⟩ 0 0))],[(0,.bx (pcv g t (.ow 1 ((st.take x86.toNat).map vi)) (.ow 3 (ts.take x101.toNat)) trc (vi ct))),(5,.bx (Prod.av r16)),(9,.bx (.agg [(vi n),(vi 0),(.ow 3 (ts.drop x71.toNat))]))],[],false⟩) ?_ ?_
   ·refine Wq.rg [9,8,0] ?_
    iterate 2 (refine .p (.ptr ⟨0,[]⟩ 0 0) ?_)
    refine .r (.ptr ⟨0,[]⟩ 0 0) ?_
    refine .r (.ptr ⟨0,[]⟩ 0 8) ?_
    refine .r (.rf _ _ _ _) ?_
    refine .p (.ptr ⟨0,[]⟩ 0 0) ?_
    refine .r (.ptr ⟨0,[]⟩ 0 0) ?_
    refine .r (.ptr ⟨0,[]⟩ 0 8) ?_
    refine .r (.rf _ _ _ _) ?_
    refine .rv _ (vi x99) (ln0 e99) ?_
    refine .p (vi x20) ?_
    refine .pv _ (vi x101) (wrE e101 (by omega) (by omega)) ?_
    refine .ro (fun _=>op_slr rfl rfl rfl rfl (bound_in (by omega) (by omega)) rfl rfl rfl) (.rf _ _ _ _) rfl ?_
    refine .r (.ptr ⟨0,[]⟩ 0 0) ?_
    refine .r (.ptr ⟨0,[]⟩ 0 8) ?_
    refine .so (fun _=>op_cut rfl rfl rfl rfl rfl rfl (by first|omega|(simp;done)|(simp;omega)) rfl rfl) [(0,.bx (pcv g t (.ow 1 _) (.ow 3 _) trc (vi ct))),(5,.bx (Prod.av r16)),(9,.bx (.agg [(vi n),(vi 0),(.ow 3 _)]))] rfl ?_
    refine .done ⟨[(9,(.ptr ⟨9,[]⟩ 0 0)),(8,(vi r53)),(0,(.ptr ⟨0,[]⟩ 0 0))],[(0,.bx (pcv g t (.ow 1 _) (.ow 3 _) trc (vi ct))),(5,.bx (Prod.av r16)),(9,.bx (.agg [(vi n),(vi 0),(.ow 3 _)]))],[],false⟩ ?_
    show(⟨[(9,(.ptr ⟨9,[]⟩ 0 0)),(8,(vi r53)),(0,(.ptr ⟨0,[]⟩ 0 0))],[(0,.bx (pcv g t (.ow 1 _) (.ow 3 _) trc (vi ct))),(5,.bx (Prod.av r16)),(9,.bx (.agg [(vi n),(vi 0),(.ow 3 _)]))],[],false⟩:St)=_
    simp[List.map_take]
   rintro s rfl
   apply Wq.seq
   refine Wq.rg [] ?_
   refine .p (.ptr ⟨0,[]⟩ 0 0) ?_
   refine .p (vi r53) ?_
   refine .r (.agg [(vi n),(vi 0),(.rf _ _ _ _)]) ?_
   have nst2:((st.take x86.toNat).map vi).all noLk=true:=noLk_ints
   have nts2:(ts.take x101.toNat).all noLk=true:=List.all_eq_true.2 fun a ha=>List.all_eq_true.1 nts a (List.mem_of_mem_take ha)
   have hfz:∀a∈ts.drop x71.toNat,Fzn a:=fun a ha=>fzn_tree (List.all_eq_true.1 ht a (List.mem_of_mem_drop ha))
   have natr:nonAgg trc=true:=by rw[etr];cases tr<;>rfl
   have hp:Ans cx O 78 [.bx (pcv g t (.ow 1 ((st.take x86.toNat).map vi)) (.ow 3 (ts.take x101.toNat)) trc (vi ct)),vi r53,.agg [vi n,vi 0,.fz 0 3 (ts.drop x71.toNat)]] (.tup [],[.bx (pcv g t (.ow 1 ((st.take x86.toNat++[r53]).map vi)) (.ow 3 (ts.take x101.toNat++[.agg [vi n,vi 0,.fz 0 3 (ts.drop x71.toNat)]])) trc (vi ct))]):=by
    rw[etr]
    exact push_ok hO2 (p:=⟨st.take x86.toNat,ts.take x101.toNat,true,tr,ct⟩) (tree_nd (drop_trees ht)) (by simp;omega) (by simp;omega) (List.all_eq_true.2 fun a ha=>List.all_eq_true.1 ht a (List.mem_of_mem_take ha)) (fun h=>by cases h)
   refine .cl F78 rfl rfl hp (expArgs_cons rfl (expArgs_cons rfl (expArgs_cons (expGive (absorbE_agg (absorbL_cons rfl (absorbL_cons rfl (absorbL_cons (absorb_full rfl rfl rfl) rfl)))) (v:=.agg [vi n,vi 0,.fz 0 3 (ts.drop x71.toNat)]) (by simp[frz,frzL,frzL_id hfz])) rfl rfl) rfl) rfl) rfl (show noLkL [.bx (pcv g t (.ow 1 ((st.take x86.toNat).map vi)) (.ow 3 (ts.take x101.toNat)) trc (vi ct)),vi r53,.agg [vi n,vi 0,.fz 0 3 (ts.drop x71.toNat)]]=true by simp only[noLkL,noLk,noLk_pcv,noLkL_all,ntr,nst2,nts2,Bool.and_self]) (zip_ok rfl (by rw[pcv_na,natr];rfl)) (.tup []) [(0,.bx (pcv g t (.ow 1 ((st.take x86.toNat++[r53]).map vi)) (.ow 3 (ts.take x101.toNat++[.agg [vi n,vi 0,.fz 0 3 (ts.drop x71.toNat)]])) trc (vi ct))),(5,.bx (Prod.av r16)),(9,.bx (.agg [vi n,vi 0,.un]))] ?_
   refine .fin (S':=⟨[],[(0,.bx (pcv g t (.ow 1 ((st.take x86.toNat++[r53]).map vi)) (.ow 3 (ts.take x101.toNat++[.agg [vi n,vi 0,.fz 0 3 (ts.drop x71.toNat)]])) trc (vi ct))),(5,.bx (Prod.av r16)),(9,.bx (.agg [(vi n),(vi 0),.un]))],[],false⟩) (fin_nl (nl_call rfl rfl (pcv_nl (by rw[noLk,noLkL_all];exact noLk_ints) (by rw[noLk,noLkL_all,List.all_append,nts2];rfl) ntr rfl) rfl) (by kernel_rfl)) ?_
   apply Wq.seq
   refine Wq.rg [4] ?_
   refine .p (vi 0) ?_
   refine .done ⟨[(4,(vi 0))],[(0,.bx (pcv g t (.ow 1 ((st.take x86.toNat++[r53]).map vi)) (.ow 3 (ts.take x101.toNat++[.agg [vi n,vi 0,.fz 0 3 (ts.drop x71.toNat)]])) trc (vi ct))),(5,.bx (Prod.av r16)),(9,.bx (.agg [(vi n),(vi 0),.un]))],[],false⟩ ?_
   refine Wq.ret ?_
   exact Aq.mk rfl (by
     have ek:lkP g n=r16:=e16.symm
     have el:lkG t (st.getD (st.length - r16.right.l.length - 1) 0) r16.left=r53:=by
      rw[e53,e49,e42,show x40.toNat=st.length - r16.right.l.length - 1 by omega];rfl
     rw[show redS ndR g t n ⟨st,ts,true,tr,ct⟩=some (PS.push ⟨st.take x86.toNat,ts.take x101.toNat,true,tr,ct⟩ r53 (.agg [vi n,vi 0,.fz 0 3 (ts.drop x71.toNat)]))from by
      simp only[redS,ek,el]
      rw[if_neg (by omega),if_neg hx,show st.length - r16.right.l.length=x86.toNat by omega,show ts.length - r16.right.l.length=x101.toNat by omega,show x101.toNat=x71.toNat by omega,ndR,if_neg (fun h=>by have:=congrArg List.length h;simp at this;omega)]]
     simp only[PS.rf,PS.push,←etr]
     rfl)
theorem w77B (hO:∀e∈O,e.f≠77) (hO2:∀e∈O,e.f≠78) {g:Plain} {t:Table} (hok:Ok g t) {st:List Int} {ts:List AV} {tr:List Move} {n ct:Int} (hn0:0≤n) (hn:n<g.prods.l.length) (hst:st.length=ts.length+1) (hs:∀s∈st,0≤s∧s<t.moves.l.length) (ht:ts.all isTree=true) (hsm:ts.length<2 ^ 39) (hk:(lkP g n).right.l.length=0):Ans cx O 77 [.bx ((PS.mk st ts true tr ct).rf g t),vi n] (match redS ndR g t n ⟨st,ts,true,tr,ct⟩with|none=>(vi 170,[.bx ((PS.mk st ts true tr ct).rf g t)])|some q=>(vi 0,[.bx (q.rf g t)])):=by
 obtain⟨trc,etr⟩:∃x,x=oc 2 (!tr.isEmpty) (tr.map Move.av):=⟨_,rfl⟩
 have ntr:noLk trc=true:=etr▸noLk_oc noLk_moves
 have nst:(st.map vi).all noLk=true:=noLk_ints
 have nts:ts.all noLk=true:=noLk_tree ht
 show Ans cx O 77 [.bx (pcv g t (.ow 1 (st.map vi)) (.ow 3 ts) (oc 2 (!tr.isEmpty) (tr.map Move.av)) (vi ct)),vi n] _
 rw[←etr]
 have lmst:(st.map vi).length=st.length:=List.length_map _
 refine ans_q [1,0] (fn:=fn77) F77 (orc_none hO) ?_
 show Wq cx O 72057594306364403 1 [] _ ⟨[(1,(vi n)),(0,(.ptr ⟨0,[]⟩ 0 0))],[(0,.bx (pcv g t (.ow 1 (st.map vi)) (.ow 3 ts) trc (vi ct)))],[],false⟩ _
 apply Wq.seq
 refine Wq.rg [4,1,0] ?_
 refine .p (vi 0) ?_
 refine .done ⟨[(4,(vi 0)),(1,(vi n)),(0,(.ptr ⟨0,[]⟩ 0 0))],[(0,.bx (pcv g t (.ow 1 (st.map vi)) (.ow 3 ts) trc (vi ct)))],[],false⟩ ?_
 apply Wq.seq
 refine Wq.rg [5,1,0] ?_
 refine .p (.ptr ⟨0,[]⟩ 0 0) ?_
 iterate 2 (refine .r (.ptr ⟨0,[]⟩ 0 0) ?_)
 refine .r (.ptr ⟨0,[]⟩ 0 3) ?_
 refine .r (Sl.av Prod.av g.prods) ?_
 refine .p (vi n) ?_
 obtain⟨r16,e16⟩:∃x:_,x=(g.prods.l.getD n.toNat default):=⟨_,rfl⟩
 have m16:=getD_mem e16 (by omega) (by omega)
 have q16:=hok.small.2.2.2.2 r16 m16
 have l16:=hok.left r16 m16
 have hk2:r16.right.l.length=0:=e16▸hk
 refine .po (fun _=>op_ix e16 (by omega) (by omega) hok.prods) (.fp _ (Prod.av r16) 0) rfl ?_
 refine .p (Prod.av r16) ?_
 refine .e (.ptr ⟨5,[]⟩ 0 0) [(0,.bx (pcv g t (.ow 1 (st.map vi)) (.ow 3 ts) trc (vi ct))),(5,.bx (.agg [(vi 0),(.fz 1 0 []),(vi 0),(vi 0),(vi 0),(vs ByteArray.empty),(.fz 1 0 [])]))] ?_
 refine .s [(0,.bx (pcv g t (.ow 1 (st.map vi)) (.ow 3 ts) trc (vi ct))),(5,.bx (Prod.av r16))] ?_
 refine .done ⟨[(5,(.ptr ⟨5,[]⟩ 0 0)),(1,(vi n)),(0,(.ptr ⟨0,[]⟩ 0 0))],[(0,.bx (pcv g t (.ow 1 (st.map vi)) (.ow 3 ts) trc (vi ct))),(5,.bx (Prod.av r16))],[],false⟩ ?_
 apply Wq.seq
 refine Wq.rg [6,5,1,0] ?_
 refine .r (.ptr ⟨5,[]⟩ 0 1) ?_
 refine .r (Sl.av vi r16.right) ?_
 obtain⟨x20,e20⟩:∃x:Int,x=(r16.right.l.length:Int):=⟨_,rfl⟩
 refine .pv _ (vi x20) (ln e20) ?_
 refine .p (vi x20) ?_
 refine .done ⟨[(6,(vi x20)),(5,(.ptr ⟨5,[]⟩ 0 0)),(1,(vi n)),(0,(.ptr ⟨0,[]⟩ 0 0))],[(0,.bx (pcv g t (.ow 1 (st.map vi)) (.ow 3 ts) trc (vi ct))),(5,.bx (Prod.av r16))],[],false⟩ ?_
 apply Wq.seq
 apply Wq.seq
 refine Wq.rg [28,6,5,1,0] ?_
 refine .p (.ptr ⟨0,[]⟩ 0 0) ?_
 refine .r (.ptr ⟨0,[]⟩ 0 0) ?_
 refine .r (.ptr ⟨0,[]⟩ 0 7) ?_
 refine .r (.rf _ _ _ _) ?_
 obtain⟨x25,e25⟩:∃x:Int,x=(st.length:Int):=⟨_,rfl⟩
 refine .rv _ (vi x25) (ln e25) ?_
 refine .p (vi x20) ?_
 obtain⟨x27,e27⟩:∃x:Int,x=(x25 - x20):=⟨_,rfl⟩
 refine .pv _ (vi x27) (wrE e27 (by omega) (by omega)) ?_
 refine .p (.bool (decide (x27<1))) ?_
 refine .done ⟨[(28,(.bool (decide (x27<1)))),(6,(vi x20)),(5,(.ptr ⟨5,[]⟩ 0 0)),(1,(vi n)),(0,(.ptr ⟨0,[]⟩ 0 0))],[(0,.bx (pcv g t (.ow 1 (st.map vi)) (.ow 3 ts) trc (vi ct))),(5,.bx (Prod.av r16))],[],false⟩ ?_
 refine Wq.cond rfl (fun hx=>?_) (fun hx=>?_)
 ·have hx:=of_decide_eq_true hx
  apply Wq.seq
  refine Wq.rg [4] ?_
  refine .p (vi 170) ?_
  refine .done ⟨[(4,(vi 170))],[(0,.bx (pcv g t (.ow 1 (st.map vi)) (.ow 3 ts) trc (vi ct))),(5,.bx (Prod.av r16))],[],false⟩ ?_
  refine Wq.ret ?_
  exact Aq.mk rfl (by
   have ek:lkP g n=r16:=e16.symm
   rw[show redS ndR g t n ⟨st,ts,true,tr,ct⟩=none from if_pos (by show st.length<(lkP g n).right.l.length+1;rw[ek];omega)]
   subst etr;rfl)
 ·have hx:=of_decide_eq_false hx
  refine Wq.skip ?_
  apply Wq.seq
  refine Wq.rg [7,6,5,1,0] ?_
  refine .p (.ptr ⟨0,[]⟩ 0 0) ?_
  refine .r (.ptr ⟨0,[]⟩ 0 0) ?_
  refine .r (.ptr ⟨0,[]⟩ 0 7) ?_
  refine .r (.rf _ _ _ _) ?_
  refine .p (.ptr ⟨0,[]⟩ 0 0) ?_
  refine .r (.ptr ⟨0,[]⟩ 0 0) ?_
  refine .r (.ptr ⟨0,[]⟩ 0 7) ?_
  refine .r (.rf _ _ _ _) ?_
  obtain⟨x37,e37⟩:∃x:Int,x=(st.length:Int):=⟨_,rfl⟩
  refine .rv _ (vi x37) (ln e37) ?_
  refine .p (vi x20) ?_
  obtain⟨x39,e39⟩:∃x:Int,x=(x37 - x20):=⟨_,rfl⟩
  refine .pv _ (vi x39) (wrE e39 (by omega) (by omega)) ?_
  obtain⟨x40,e40⟩:∃x:Int,x=(x39 - 1):=⟨_,rfl⟩
  refine .pv _ (vi x40) (wrE e40 (by omega) (by omega)) ?_
  refine .ro (fun _=>op_idxr rfl rfl rfl rfl rfl (by first|omega|(simp;done)|(simp;omega)) (by first|omega|(simp;done)|(simp;omega)) rfl rfl) (.ptr _ _ _) rfl ?_
  obtain⟨x42,e42⟩:∃x:Int,x=(st.getD x40.toNat default):=⟨_,rfl⟩
  have b42:=hs x42 (getD_mem e42 (by omega) (by omega))
  have c42:=hok.len
  refine .ro (fun _=>op_ldr rfl rfl rfl rfl (map_getD0 (by omega) (by omega)) (fun _=>rfl) rfl rfl rfl rfl rfl) (vi x42) (congrArg vi e42.symm) ?_
  refine .p (vi x42) ?_
  refine .done ⟨[(7,(vi x42)),(6,(vi x20)),(5,(.ptr ⟨5,[]⟩ 0 0)),(1,(vi n)),(0,(.ptr ⟨0,[]⟩ 0 0))],[(0,.bx (pcv g t (.ow 1 (st.map vi)) (.ow 3 ts) trc (vi ct))),(5,.bx (Prod.av r16))],[],false⟩ ?_
  apply Wq.seq
  refine Wq.rg [8,6,1,0] ?_
  refine .p (.ptr ⟨0,[]⟩ 0 0) ?_
  refine .r (.ptr ⟨0,[]⟩ 0 0) ?_
  refine .r (.ptr ⟨0,[]⟩ 0 5) ?_
  refine .r (.ptr ⟨0,[]⟩ 0 6) ?_
  refine .r (Sl.av (Sl.av vi) t.goto) ?_
  refine .p (vi x42) ?_
  obtain⟨r49,e49⟩:∃x:_,x=(t.goto.l.getD x42.toNat default):=⟨_,rfl⟩
  have m49:=getD_mem e49 (by omega) (by omega)
  have g49:=(hok.grow r49 m49).2
  refine .po (fun _=>op_ix e49 (by omega) (by omega) hok.goto) (.fp _ ((Sl.av vi) r49) 0) rfl ?_
  refine .p (Sl.av vi r49) ?_
  refine .r (.ptr ⟨5,[]⟩ 0 0) ?_
  refine .r (vi r16.left) ?_
  obtain⟨r53,e53⟩:∃x:_,x=(r49.l.getD r16.left.toNat default):=⟨_,rfl⟩
  have m53:=getD_mem e53 (by omega) (by omega)
  refine .po (fun _=>op_ix e53 (by omega) (by omega) (hok.grow _ m49).1) (.fp _ (vi r53) 0) rfl ?_
  iterate 2 (refine .p (vi r53) ?_)
  refine .done ⟨[(8,(vi r53)),(6,(vi x20)),(1,(vi n)),(0,(.ptr ⟨0,[]⟩ 0 0))],[(0,.bx (pcv g t (.ow 1 (st.map vi)) (.ow 3 ts) trc (vi ct))),(5,.bx (Prod.av r16))],[],false⟩ ?_
  apply Wq.seq
  apply Wq.seq
  refine Wq.rg [56,8,6,1,0] ?_
  refine .p (vi r53) ?_
  refine .p (.bool (decide (r53<0))) ?_
  refine .done ⟨[(56,(.bool (decide (r53<0)))),(8,(vi r53)),(6,(vi x20)),(1,(vi n)),(0,(.ptr ⟨0,[]⟩ 0 0))],[(0,.bx (pcv g t (.ow 1 (st.map vi)) (.ow 3 ts) trc (vi ct))),(5,.bx (Prod.av r16))],[],false⟩ ?_
  refine Wq.cond rfl (fun hx=>?_) (fun hx=>?_)
  ·have hx:=of_decide_eq_true hx
   apply Wq.seq
   refine Wq.rg [4] ?_
   refine .p (vi 170) ?_
   refine .done ⟨[(4,(vi 170))],[(0,.bx (pcv g t (.ow 1 (st.map vi)) (.ow 3 ts) trc (vi ct))),(5,.bx (Prod.av r16))],[],false⟩ ?_
   refine Wq.ret ?_
   exact Aq.mk rfl (by
    have ek:lkP g n=r16:=e16.symm
    have el:lkG t (st.getD (st.length - r16.right.l.length - 1) 0) r16.left=r53:=by
     rw[e53,e49,e42,show x40.toNat=st.length - r16.right.l.length - 1 by omega];rfl
    rw[show redS ndR g t n ⟨st,ts,true,tr,ct⟩=none from by
     simp only[redS,ek,el]
     rw[if_neg (by omega),if_pos (by omega)]]
    subst etr;rfl)
  ·have hx:=of_decide_eq_false hx
   refine Wq.skip ?_
   apply Wq.seq
   refine Wq.rg [9,8,6,0] ?_
   refine .p (vi n) ?_
   refine .p (.agg [(vi n),(vi 0),(.fz 1 0 [])]) ?_
   refine .e (.ptr ⟨9,[]⟩ 0 0) [(0,.bx (pcv g t (.ow 1 (st.map vi)) (.ow 3 ts) trc (vi ct))),(5,.bx (Prod.av r16)),(9,.bx (.agg [(vi 0),(vi 0),(.fz 1 0 [])]))] ?_
   refine .s [(0,.bx (pcv g t (.ow 1 (st.map vi)) (.ow 3 ts) trc (vi ct))),(5,.bx (Prod.av r16)),(9,.bx (.agg [(vi n),(vi 0),(.fz 1 0 [])]))] ?_
   refine .done ⟨[(9,(.ptr ⟨9,[]⟩ 0 0)),(8,(vi r53)),(6,(vi x20)),(0,(.ptr ⟨0,[]⟩ 0 0))],[(0,.bx (pcv g t (.ow 1 (st.map vi)) (.ow 3 ts) trc (vi ct))),(5,.bx (Prod.av r16)),(9,.bx (.agg [(vi n),(vi 0),(.fz 1 0 [])]))],[],false⟩ ?_
   apply Wq.seq
   obtain⟨x69,e69⟩:∃x:Int,x=(ts.length:Int):=⟨_,rfl⟩
   obtain⟨x71,e71⟩:∃x:Int,x=(x69 - x20):=⟨_,rfl⟩
   refine Wq.jn (fun s=>s=⟨[(9,(.ptr ⟨9,[]⟩ 0 0)),(8,(vi r53)),(6,(vi x20)),(0,(.ptr ⟨0,[]⟩ 0 0))],[(0,.bx (pcv g t (.ow 1 (st.map vi)) (.ow 3 ts) trc (vi ct))),(5,.bx (Prod.av r16)),(9,.bx (.agg [(vi n),(vi 0),(.fz 1 0 [])]))],[],false⟩) ?_ ?_
   ·refine Wq.rg [9,8,6,0] ?_
    refine .r (.ptr ⟨9,[]⟩ 0 2) ?_
    refine .r (.fz 1 0 []) ?_
    refine .p (.ptr ⟨0,[]⟩ 0 0) ?_
    refine .r (.ptr ⟨0,[]⟩ 0 0) ?_
    refine .r (.ptr ⟨0,[]⟩ 0 8) ?_
    refine .r (.rf _ _ _ _) ?_
    refine .p (.ptr ⟨0,[]⟩ 0 0) ?_
    refine .r (.ptr ⟨0,[]⟩ 0 0) ?_
    refine .r (.ptr ⟨0,[]⟩ 0 8) ?_
    refine .r (.rf _ _ _ _) ?_
    refine .rv _ (vi x69) (ln0 e69) ?_
    refine .p (vi x20) ?_
    refine .pv _ (vi x71) (wrE e71 (by omega) (by omega)) ?_
    refine .ro (fun _=>op_slr rfl rfl rfl rfl rfl (bound_in (by omega) (by omega)) rfl rfl) (.rf _ _ _ _) rfl ?_
    refine .ro (fun _=>op_app0 rfl rfl rfl rfl rfl rfl rfl rfl rfl rfl (Eq.trans (elems_rf rfl rfl (by first|omega|(simp;done)|(simp;omega)) (plain_tree (List.all_eq_true.2 fun a ha=>List.all_eq_true.1 ht a (List.mem_of_mem_drop (List.mem_of_mem_take ha))))) (by rw[show List.take (ts.length - x71.toNat) (List.drop (0+x71.toNat) ts)=[]from List.eq_nil_of_length_eq_zero (by simp;omega)]))) (.fz 1 0 []) rfl ?_
    refine .r (.ptr ⟨9,[]⟩ 0 2) ?_
    refine .s [(0,.bx (pcv g t (.ow 1 (st.map vi)) (.ow 3 ts) trc (vi ct))),(5,.bx (Prod.av r16)),(9,.bx (.agg [(vi n),(vi 0),(.fz 1 0 [])]))] ?_
    refine .done ⟨[(9,(.ptr ⟨9,[]⟩ 0 0)),(8,(vi r53)),(6,(vi x20)),(0,(.ptr ⟨0,[]⟩ 0 0))],[(0,.bx (pcv g t (.ow 1 (st.map vi)) (.ow 3 ts) trc (vi ct))),(5,.bx (Prod.av r16)),(9,.bx (.agg [(vi n),(vi 0),(.fz 1 0 [])]))],[],false⟩ ?_
    show(⟨[(9,(.ptr ⟨9,[]⟩ 0 0)),(8,(vi r53)),(6,(vi x20)),(0,(.ptr ⟨0,[]⟩ 0 0))],[(0,.bx (pcv g t (.ow 1 (st.map vi)) (.ow 3 ts) trc (vi ct))),(5,.bx (Prod.av r16)),(9,.bx (.agg [(vi n),(vi 0),(.fz 1 0 [])]))],[],false⟩:St)=_
    simp
   rintro s rfl
   apply Wq.seq
   obtain⟨x84,e84⟩:∃x:Int,x=(st.length:Int):=⟨_,rfl⟩
   obtain⟨x86,e86⟩:∃x:Int,x=(x84 - x20):=⟨_,rfl⟩
   refine Wq.jn (fun s=>s=⟨[(9,(.ptr ⟨9,[]⟩ 0 0)),(8,(vi r53)),(6,(vi x20)),(0,(.ptr ⟨0,[]⟩ 0 0))],[(0,.bx (pcv g t (.ow 1 ((st.take x86.toNat).map vi)) (.ow 3 ts) trc (vi ct))),(5,.bx (Prod.av r16)),(9,.bx (.agg [(vi n),(vi 0),(.fz 1 0 [])]))],[],false⟩) ?_ ?_
   ·refine Wq.rg [9,8,6,0] ?_
    iterate 2 (refine .p (.ptr ⟨0,[]⟩ 0 0) ?_)
    refine .r (.ptr ⟨0,[]⟩ 0 0) ?_
    refine .r (.ptr ⟨0,[]⟩ 0 7) ?_
    refine .r (.rf _ _ _ _) ?_
    refine .p (.ptr ⟨0,[]⟩ 0 0) ?_
    refine .r (.ptr ⟨0,[]⟩ 0 0) ?_
    refine .r (.ptr ⟨0,[]⟩ 0 7) ?_
    refine .r (.rf _ _ _ _) ?_
    refine .rv _ (vi x84) (ln e84) ?_
    refine .p (vi x20) ?_
    refine .pv _ (vi x86) (wrE e86 (by omega) (by omega)) ?_
    refine .ro (fun _=>op_slr rfl rfl rfl rfl (bound_in (by omega) (by omega)) rfl rfl rfl) (.rf _ _ _ _) rfl ?_
    refine .r (.ptr ⟨0,[]⟩ 0 0) ?_
    refine .r (.ptr ⟨0,[]⟩ 0 7) ?_
    refine .so (fun _=>op_cut rfl rfl rfl rfl rfl rfl (by first|omega|(simp;done)|(simp;omega)) rfl rfl) [(0,.bx (pcv g t (.ow 1 _) (.ow 3 ts) trc (vi ct))),(5,.bx (Prod.av r16)),(9,.bx (.agg [(vi n),(vi 0),(.fz 1 0 [])]))] rfl ?_
    refine .done ⟨[(9,(.ptr ⟨9,[]⟩ 0 0)),(8,(vi r53)),(6,(vi x20)),(0,(.ptr ⟨0,[]⟩ 0 0))],[(0,.bx (pcv g t (.ow 1 _) (.ow 3 ts) trc (vi ct))),(5,.bx (Prod.av r16)),(9,.bx (.agg [(vi n),(vi 0),(.fz 1 0 [])]))],[],false⟩ ?_
    show(⟨[(9,(.ptr ⟨9,[]⟩ 0 0)),(8,(vi r53)),(6,(vi x20)),(0,(.ptr ⟨0,[]⟩ 0 0))],[(0,.bx (pcv g t (.ow 1 _) (.ow 3 ts) trc (vi ct))),(5,.bx (Prod.av r16)),(9,.bx (.agg [(vi n),(vi 0),(.fz 1 0 [])]))],[],false⟩:St)=_
    simp[List.map_take]
   rintro s rfl
   apply Wq.seq
   obtain⟨x99,e99⟩:∃x:Int,x=(ts.length:Int):=⟨_,rfl⟩
   obtain⟨x101,e101⟩:∃x:Int,x=(x99 - x20):=⟨_,rfl⟩
   refine Wq.jn (fun s=>s=⟨[(9,(.ptr ⟨9,[]⟩ 0 0)),(8,(vi r53)),(0,(.ptr ⟨0,[]⟩ 0 0))],[(0,.bx (pcv g t (.ow 1 ((st.take x86.toNat).map vi)) (.ow 3 (ts.take x101.toNat)) trc (vi ct))),(5,.bx (Prod.av r16)),(9,.bx (.agg [(vi n),(vi 0),(.fz 1 0 [])]))],[],false⟩) ?_ ?_
   ·refine Wq.rg [9,8,0] ?_
    iterate 2 (refine .p (.ptr ⟨0,[]⟩ 0 0) ?_)
    refine .r (.ptr ⟨0,[]⟩ 0 0) ?_
    refine .r (.ptr ⟨0,[]⟩ 0 8) ?_
    refine .r (.rf _ _ _ _) ?_
    refine .p (.ptr ⟨0,[]⟩ 0 0) ?_
    refine .r (.ptr ⟨0,[]⟩ 0 0) ?_
    refine .r (.ptr ⟨0,[]⟩ 0 8) ?_
    refine .r (.rf _ _ _ _) ?_
    refine .rv _ (vi x99) (ln0 e99) ?_
    refine .p (vi x20) ?_
    refine .pv _ (vi x101) (wrE e101 (by omega) (by omega)) ?_
    refine .ro (fun _=>op_slr rfl rfl rfl rfl (bound_in (by omega) (by omega)) rfl rfl rfl) (.rf _ _ _ _) rfl ?_
    refine .r (.ptr ⟨0,[]⟩ 0 0) ?_
    refine .r (.ptr ⟨0,[]⟩ 0 8) ?_
    refine .so (fun _=>op_cut rfl rfl rfl rfl rfl rfl (by first|omega|(simp;done)|(simp;omega)) rfl rfl) [(0,.bx (pcv g t (.ow 1 _) (.ow 3 _) trc (vi ct))),(5,.bx (Prod.av r16)),(9,.bx (.agg [(vi n),(vi 0),(.fz 1 0 [])]))] rfl ?_
    refine .done ⟨[(9,(.ptr ⟨9,[]⟩ 0 0)),(8,(vi r53)),(0,(.ptr ⟨0,[]⟩ 0 0))],[(0,.bx (pcv g t (.ow 1 _) (.ow 3 _) trc (vi ct))),(5,.bx (Prod.av r16)),(9,.bx (.agg [(vi n),(vi 0),(.fz 1 0 [])]))],[],false⟩ ?_
    show(⟨[(9,(.ptr ⟨9,[]⟩ 0 0)),(8,(vi r53)),(0,(.ptr ⟨0,[]⟩ 0 0))],[(0,.bx (pcv g t (.ow 1 _) (.ow 3 _) trc (vi ct))),(5,.bx (Prod.av r16)),(9,.bx (.agg [(vi n),(vi 0),(.fz 1 0 [])]))],[],false⟩:St)=_
    simp[List.map_take]
   rintro s rfl
   apply Wq.seq
   refine Wq.rg [] ?_
   refine .p (.ptr ⟨0,[]⟩ 0 0) ?_
   refine .p (vi r53) ?_
   refine .r (.agg [(vi n),(vi 0),(.fz 1 0 [])]) ?_
   have nst2:((st.take x86.toNat).map vi).all noLk=true:=noLk_ints
   have nts2:(ts.take x101.toNat).all noLk=true:=List.all_eq_true.2 fun a ha=>List.all_eq_true.1 nts a (List.mem_of_mem_take ha)
   have natr:nonAgg trc=true:=by rw[etr];cases tr<;>rfl
   have hp:Ans cx O 78 [.bx (pcv g t (.ow 1 ((st.take x86.toNat).map vi)) (.ow 3 (ts.take x101.toNat)) trc (vi ct)),vi r53,.agg [vi n,vi 0,.fz 1 0 []]] (.tup [],[.bx (pcv g t (.ow 1 ((st.take x86.toNat++[r53]).map vi)) (.ow 3 (ts.take x101.toNat++[.agg [vi n,vi 0,.fz 1 0 []]])) trc (vi ct))]):=by
    rw[etr]
    exact push_ok hO2 (p:=⟨st.take x86.toNat,ts.take x101.toNat,true,tr,ct⟩) rfl (by simp;omega) (by simp;omega) (List.all_eq_true.2 fun a ha=>List.all_eq_true.1 ht a (List.mem_of_mem_take ha)) (fun h=>by cases h)
   refine .cl F78 rfl rfl hp (expArgs_cons rfl (expArgs_cons rfl (expArgs_cons rfl rfl rfl) rfl) rfl) rfl (show noLkL [.bx (pcv g t (.ow 1 ((st.take x86.toNat).map vi)) (.ow 3 (ts.take x101.toNat)) trc (vi ct)),vi r53,.agg [vi n,vi 0,.fz 1 0 []]]=true by simp only[noLkL,noLk,noLk_pcv,noLkL_all,ntr,nst2,nts2,Bool.and_self]) (zip_ok rfl (by rw[pcv_na,natr];rfl)) (.tup []) [(0,.bx (pcv g t (.ow 1 ((st.take x86.toNat++[r53]).map vi)) (.ow 3 (ts.take x101.toNat++[.agg [vi n,vi 0,.fz 1 0 []]])) trc (vi ct))),(5,.bx (Prod.av r16)),(9,.bx (.agg [vi n,vi 0,.fz 1 0 []]))] ?_
   refine .fin (S':=⟨[],[(0,.bx (pcv g t (.ow 1 ((st.take x86.toNat++[r53]).map vi)) (.ow 3 (ts.take x101.toNat++[.agg [vi n,vi 0,.fz 1 0 []]])) trc (vi ct))),(5,.bx (Prod.av r16)),(9,.bx (.agg [(vi n),(vi 0),(.fz 1 0 [])]))],[],false⟩) (fin_nl (nl_call rfl rfl (pcv_nl (by rw[noLk,noLkL_all];exact noLk_ints) (by rw[noLk,noLkL_all,List.all_append,nts2];rfl) ntr rfl) rfl) (by kernel_rfl)) ?_
   apply Wq.seq
   refine Wq.rg [4] ?_
   refine .p (vi 0) ?_
   refine .done ⟨[(4,(vi 0))],[(0,.bx (pcv g t (.ow 1 ((st.take x86.toNat++[r53]).map vi)) (.ow 3 (ts.take x101.toNat++[.agg [vi n,vi 0,.fz 1 0 []]])) trc (vi ct))),(5,.bx (Prod.av r16)),(9,.bx (.agg [(vi n),(vi 0),(.fz 1 0 [])]))],[],false⟩ ?_
   refine Wq.ret ?_
   exact Aq.mk rfl (by
     have ek:lkP g n=r16:=e16.symm
     have el:lkG t (st.getD (st.length - r16.right.l.length - 1) 0) r16.left=r53:=by
      rw[e53,e49,e42,show x40.toNat=st.length - r16.right.l.length - 1 by omega];rfl
     rw[show redS ndR g t n ⟨st,ts,true,tr,ct⟩=some (PS.push ⟨st.take x86.toNat,ts.take x101.toNat,true,tr,ct⟩ r53 (.agg [vi n,vi 0,.fz 1 0 []]))from by
      simp only[redS,ek,el]
      rw[if_neg (by omega),if_neg hx,show st.length - r16.right.l.length=x86.toNat by omega,show ts.length - r16.right.l.length=x101.toNat by omega,ndR,if_pos (List.drop_of_length_le (by omega))]]
     simp only[PS.rf,PS.push,←etr]
     rfl)
theorem w77C (hO:∀e∈O,e.f≠77) (hO2:∀e∈O,e.f≠78) {g:Plain} {t:Table} (hok:Ok g t) {st:List Int} {tr:List Move} {n ct:Int} (hn0:0≤n) (hn:n<g.prods.l.length) (hst:st.length=1) (hs:∀s∈st,0≤s∧s<t.moves.l.length):Ans cx O 77 [.bx ((PS.mk st [] false tr ct).rf g t),vi n] (match redS ndR g t n ⟨st,[],false,tr,ct⟩with|none=>(vi 170,[.bx ((PS.mk st [] false tr ct).rf g t)])|some q=>(vi 0,[.bx (q.rf g t)])):=by
 obtain⟨trc,etr⟩:∃x,x=oc 2 (!tr.isEmpty) (tr.map Move.av):=⟨_,rfl⟩
 have ntr:noLk trc=true:=etr▸noLk_oc noLk_moves
 have nst:(st.map vi).all noLk=true:=noLk_ints
 show Ans cx O 77 [.bx (pcv g t (.ow 1 (st.map vi)) (.fz 1 0 []) (oc 2 (!tr.isEmpty) (tr.map Move.av)) (vi ct)),vi n] _
 rw[←etr]
 have lmst:(st.map vi).length=st.length:=List.length_map _
 refine ans_q [1,0] (fn:=fn77) F77 (orc_none hO) ?_
 show Wq cx O 72057594306364403 1 [] _ ⟨[(1,(vi n)),(0,(.ptr ⟨0,[]⟩ 0 0))],[(0,.bx (pcv g t (.ow 1 (st.map vi)) (.fz 1 0 []) trc (vi ct)))],[],false⟩ _
 apply Wq.seq
 refine Wq.rg [4,1,0] ?_
 refine .p (vi 0) ?_
 refine .done ⟨[(4,(vi 0)),(1,(vi n)),(0,(.ptr ⟨0,[]⟩ 0 0))],[(0,.bx (pcv g t (.ow 1 (st.map vi)) (.fz 1 0 []) trc (vi ct)))],[],false⟩ ?_
 apply Wq.seq
 refine Wq.rg [5,1,0] ?_
 refine .p (.ptr ⟨0,[]⟩ 0 0) ?_
 iterate 2 (refine .r (.ptr ⟨0,[]⟩ 0 0) ?_)
 refine .r (.ptr ⟨0,[]⟩ 0 3) ?_
 refine .r (Sl.av Prod.av g.prods) ?_
 refine .p (vi n) ?_
 obtain⟨r16,e16⟩:∃x:_,x=(g.prods.l.getD n.toNat default):=⟨_,rfl⟩
 have m16:=getD_mem e16 (by omega) (by omega)
 have q16:=hok.small.2.2.2.2 r16 m16
 have l16:=hok.left r16 m16
 refine .po (fun _=>op_ix e16 (by omega) (by omega) hok.prods) (.fp _ (Prod.av r16) 0) rfl ?_
 refine .p (Prod.av r16) ?_
 refine .e (.ptr ⟨5,[]⟩ 0 0) [(0,.bx (pcv g t (.ow 1 (st.map vi)) (.fz 1 0 []) trc (vi ct))),(5,.bx (.agg [(vi 0),(.fz 1 0 []),(vi 0),(vi 0),(vi 0),(vs ByteArray.empty),(.fz 1 0 [])]))] ?_
 refine .s [(0,.bx (pcv g t (.ow 1 (st.map vi)) (.fz 1 0 []) trc (vi ct))),(5,.bx (Prod.av r16))] ?_
 refine .done ⟨[(5,(.ptr ⟨5,[]⟩ 0 0)),(1,(vi n)),(0,(.ptr ⟨0,[]⟩ 0 0))],[(0,.bx (pcv g t (.ow 1 (st.map vi)) (.fz 1 0 []) trc (vi ct))),(5,.bx (Prod.av r16))],[],false⟩ ?_
 apply Wq.seq
 refine Wq.rg [6,5,1,0] ?_
 refine .r (.ptr ⟨5,[]⟩ 0 1) ?_
 refine .r (Sl.av vi r16.right) ?_
 obtain⟨x20,e20⟩:∃x:Int,x=(r16.right.l.length:Int):=⟨_,rfl⟩
 refine .pv _ (vi x20) (ln e20) ?_
 refine .p (vi x20) ?_
 refine .done ⟨[(6,(vi x20)),(5,(.ptr ⟨5,[]⟩ 0 0)),(1,(vi n)),(0,(.ptr ⟨0,[]⟩ 0 0))],[(0,.bx (pcv g t (.ow 1 (st.map vi)) (.fz 1 0 []) trc (vi ct))),(5,.bx (Prod.av r16))],[],false⟩ ?_
 apply Wq.seq
 apply Wq.seq
 refine Wq.rg [28,6,5,1,0] ?_
 refine .p (.ptr ⟨0,[]⟩ 0 0) ?_
 refine .r (.ptr ⟨0,[]⟩ 0 0) ?_
 refine .r (.ptr ⟨0,[]⟩ 0 7) ?_
 refine .r (.rf _ _ _ _) ?_
 obtain⟨x25,e25⟩:∃x:Int,x=(st.length:Int):=⟨_,rfl⟩
 refine .rv _ (vi x25) (ln e25) ?_
 refine .p (vi x20) ?_
 obtain⟨x27,e27⟩:∃x:Int,x=(x25 - x20):=⟨_,rfl⟩
 refine .pv _ (vi x27) (wrE e27 (by omega) (by omega)) ?_
 refine .p (.bool (decide (x27<1))) ?_
 refine .done ⟨[(28,(.bool (decide (x27<1)))),(6,(vi x20)),(5,(.ptr ⟨5,[]⟩ 0 0)),(1,(vi n)),(0,(.ptr ⟨0,[]⟩ 0 0))],[(0,.bx (pcv g t (.ow 1 (st.map vi)) (.fz 1 0 []) trc (vi ct))),(5,.bx (Prod.av r16))],[],false⟩ ?_
 refine Wq.cond rfl (fun hx=>?_) (fun hx=>?_)
 ·have hx:=of_decide_eq_true hx
  apply Wq.seq
  refine Wq.rg [4] ?_
  refine .p (vi 170) ?_
  refine .done ⟨[(4,(vi 170))],[(0,.bx (pcv g t (.ow 1 (st.map vi)) (.fz 1 0 []) trc (vi ct))),(5,.bx (Prod.av r16))],[],false⟩ ?_
  refine Wq.ret ?_
  exact Aq.mk rfl (by
   have ek:lkP g n=r16:=e16.symm
   rw[show redS ndR g t n ⟨st,[],false,tr,ct⟩=none from if_pos (by show st.length<(lkP g n).right.l.length+1;rw[ek];omega)]
   subst etr;rfl)
 ·have hx:=of_decide_eq_false hx
  refine Wq.skip ?_
  apply Wq.seq
  refine Wq.rg [7,6,5,1,0] ?_
  refine .p (.ptr ⟨0,[]⟩ 0 0) ?_
  refine .r (.ptr ⟨0,[]⟩ 0 0) ?_
  refine .r (.ptr ⟨0,[]⟩ 0 7) ?_
  refine .r (.rf _ _ _ _) ?_
  refine .p (.ptr ⟨0,[]⟩ 0 0) ?_
  refine .r (.ptr ⟨0,[]⟩ 0 0) ?_
  refine .r (.ptr ⟨0,[]⟩ 0 7) ?_
  refine .r (.rf _ _ _ _) ?_
  obtain⟨x37,e37⟩:∃x:Int,x=(st.length:Int):=⟨_,rfl⟩
  refine .rv _ (vi x37) (ln e37) ?_
  refine .p (vi x20) ?_
  obtain⟨x39,e39⟩:∃x:Int,x=(x37 - x20):=⟨_,rfl⟩
  refine .pv _ (vi x39) (wrE e39 (by omega) (by omega)) ?_
  obtain⟨x40,e40⟩:∃x:Int,x=(x39 - 1):=⟨_,rfl⟩
  refine .pv _ (vi x40) (wrE e40 (by omega) (by omega)) ?_
  refine .ro (fun _=>op_idxr rfl rfl rfl rfl rfl (by first|omega|(simp;done)|(simp;omega)) (by first|omega|(simp;done)|(simp;omega)) rfl rfl) (.ptr _ _ _) rfl ?_
  obtain⟨x42,e42⟩:∃x:Int,x=(st.getD x40.toNat default):=⟨_,rfl⟩
  have b42:=hs x42 (getD_mem e42 (by omega) (by omega))
  have c42:=hok.len
  refine .ro (fun _=>op_ldr rfl rfl rfl rfl (map_getD0 (by omega) (by omega)) (fun _=>rfl) rfl rfl rfl rfl rfl) (vi x42) (congrArg vi e42.symm) ?_
  refine .p (vi x42) ?_
  refine .done ⟨[(7,(vi x42)),(6,(vi x20)),(5,(.ptr ⟨5,[]⟩ 0 0)),(1,(vi n)),(0,(.ptr ⟨0,[]⟩ 0 0))],[(0,.bx (pcv g t (.ow 1 (st.map vi)) (.fz 1 0 []) trc (vi ct))),(5,.bx (Prod.av r16))],[],false⟩ ?_
  apply Wq.seq
  refine Wq.rg [8,6,1,0] ?_
  refine .p (.ptr ⟨0,[]⟩ 0 0) ?_
  refine .r (.ptr ⟨0,[]⟩ 0 0) ?_
  refine .r (.ptr ⟨0,[]⟩ 0 5) ?_
  refine .r (.ptr ⟨0,[]⟩ 0 6) ?_
  refine .r (Sl.av (Sl.av vi) t.goto) ?_
  refine .p (vi x42) ?_
  obtain⟨r49,e49⟩:∃x:_,x=(t.goto.l.getD x42.toNat default):=⟨_,rfl⟩
  have m49:=getD_mem e49 (by omega) (by omega)
  have g49:=(hok.grow r49 m49).2
  refine .po (fun _=>op_ix e49 (by omega) (by omega) hok.goto) (.fp _ ((Sl.av vi) r49) 0) rfl ?_
  refine .p (Sl.av vi r49) ?_
  refine .r (.ptr ⟨5,[]⟩ 0 0) ?_
  refine .r (vi r16.left) ?_
  obtain⟨r53,e53⟩:∃x:_,x=(r49.l.getD r16.left.toNat default):=⟨_,rfl⟩
  have m53:=getD_mem e53 (by omega) (by omega)
  refine .po (fun _=>op_ix e53 (by omega) (by omega) (hok.grow _ m49).1) (.fp _ (vi r53) 0) rfl ?_
  iterate 2 (refine .p (vi r53) ?_)
  refine .done ⟨[(8,(vi r53)),(6,(vi x20)),(1,(vi n)),(0,(.ptr ⟨0,[]⟩ 0 0))],[(0,.bx (pcv g t (.ow 1 (st.map vi)) (.fz 1 0 []) trc (vi ct))),(5,.bx (Prod.av r16))],[],false⟩ ?_
  apply Wq.seq
  apply Wq.seq
  refine Wq.rg [56,8,6,1,0] ?_
  refine .p (vi r53) ?_
  refine .p (.bool (decide (r53<0))) ?_
  refine .done ⟨[(56,(.bool (decide (r53<0)))),(8,(vi r53)),(6,(vi x20)),(1,(vi n)),(0,(.ptr ⟨0,[]⟩ 0 0))],[(0,.bx (pcv g t (.ow 1 (st.map vi)) (.fz 1 0 []) trc (vi ct))),(5,.bx (Prod.av r16))],[],false⟩ ?_
  refine Wq.cond rfl (fun hx=>?_) (fun hx=>?_)
  ·have hx:=of_decide_eq_true hx
   apply Wq.seq
   refine Wq.rg [4] ?_
   refine .p (vi 170) ?_
   refine .done ⟨[(4,(vi 170))],[(0,.bx (pcv g t (.ow 1 (st.map vi)) (.fz 1 0 []) trc (vi ct))),(5,.bx (Prod.av r16))],[],false⟩ ?_
   refine Wq.ret ?_
   exact Aq.mk rfl (by
    have ek:lkP g n=r16:=e16.symm
    have el:lkG t (st.getD (st.length - r16.right.l.length - 1) 0) r16.left=r53:=by
     rw[e53,e49,e42,show x40.toNat=st.length - r16.right.l.length - 1 by omega];rfl
    rw[show redS ndR g t n ⟨st,[],false,tr,ct⟩=none from by
     simp only[redS,ek,el]
     rw[if_neg (by omega),if_pos (by omega)]]
    subst etr;rfl)
  ·have hx:=of_decide_eq_false hx
   refine Wq.skip ?_
   apply Wq.seq
   refine Wq.rg [9,8,6,0] ?_
   refine .p (vi n) ?_
   refine .p (.agg [(vi n),(vi 0),(.fz 1 0 [])]) ?_
   refine .e (.ptr ⟨9,[]⟩ 0 0) [(0,.bx (pcv g t (.ow 1 (st.map vi)) (.fz 1 0 []) trc (vi ct))),(5,.bx (Prod.av r16)),(9,.bx (.agg [(vi 0),(vi 0),(.fz 1 0 [])]))] ?_
   refine .s [(0,.bx (pcv g t (.ow 1 (st.map vi)) (.fz 1 0 []) trc (vi ct))),(5,.bx (Prod.av r16)),(9,.bx (.agg [(vi n),(vi 0),(.fz 1 0 [])]))] ?_
   refine .done ⟨[(9,(.ptr ⟨9,[]⟩ 0 0)),(8,(vi r53)),(6,(vi x20)),(0,(.ptr ⟨0,[]⟩ 0 0))],[(0,.bx (pcv g t (.ow 1 (st.map vi)) (.fz 1 0 []) trc (vi ct))),(5,.bx (Prod.av r16)),(9,.bx (.agg [(vi n),(vi 0),(.fz 1 0 [])]))],[],false⟩ ?_
   apply Wq.seq
   obtain⟨x71,e71⟩:∃x:Int,x=(0 - x20):=⟨_,rfl⟩
   refine Wq.jn (fun s=>s=⟨[(9,(.ptr ⟨9,[]⟩ 0 0)),(8,(vi r53)),(6,(vi x20)),(0,(.ptr ⟨0,[]⟩ 0 0))],[(0,.bx (pcv g t (.ow 1 (st.map vi)) (.fz 1 0 []) trc (vi ct))),(5,.bx (Prod.av r16)),(9,.bx (.agg [(vi n),(vi 0),(.fz 1 0 [])]))],[],false⟩) ?_ ?_
   ·refine Wq.rg [9,8,6,0] ?_
    refine .r (.ptr ⟨9,[]⟩ 0 2) ?_
    refine .r (.fz 1 0 []) ?_
    refine .p (.ptr ⟨0,[]⟩ 0 0) ?_
    refine .r (.ptr ⟨0,[]⟩ 0 0) ?_
    refine .r (.ptr ⟨0,[]⟩ 0 8) ?_
    refine .r (.fz 1 0 []) ?_
    refine .p (.ptr ⟨0,[]⟩ 0 0) ?_
    refine .r (.ptr ⟨0,[]⟩ 0 0) ?_
    refine .r (.ptr ⟨0,[]⟩ 0 8) ?_
    refine .r (.fz 1 0 []) ?_
    refine .p (vi 0) ?_
    refine .p (vi x20) ?_
    refine .pv _ (vi x71) (wrE e71 (by omega) (by omega)) ?_
    refine .po (fun _=>op_sls rfl rfl rfl rfl rfl (bound_in (by omega) (by omega)) rfl) (.fz 1 0 []) (by simp) ?_
    refine .e (.fz 1 0 []) _ ?_
    refine .r (.ptr ⟨9,[]⟩ 0 2) ?_
    refine .s [(0,.bx (pcv g t (.ow 1 (st.map vi)) (.fz 1 0 []) trc (vi ct))),(5,.bx (Prod.av r16)),(9,.bx (.agg [(vi n),(vi 0),(.fz 1 0 [])]))] ?_
    refine .done ⟨[(9,(.ptr ⟨9,[]⟩ 0 0)),(8,(vi r53)),(6,(vi x20)),(0,(.ptr ⟨0,[]⟩ 0 0))],[(0,.bx (pcv g t (.ow 1 (st.map vi)) (.fz 1 0 []) trc (vi ct))),(5,.bx (Prod.av r16)),(9,.bx (.agg [(vi n),(vi 0),(.fz 1 0 [])]))],[],false⟩ ?_
    show(⟨[(9,(.ptr ⟨9,[]⟩ 0 0)),(8,(vi r53)),(6,(vi x20)),(0,(.ptr ⟨0,[]⟩ 0 0))],[(0,.bx (pcv g t (.ow 1 (st.map vi)) (.fz 1 0 []) trc (vi ct))),(5,.bx (Prod.av r16)),(9,.bx (.agg [(vi n),(vi 0),(.fz 1 0 [])]))],[],false⟩:St)=_
    simp
   rintro s rfl
   apply Wq.seq
   obtain⟨x84,e84⟩:∃x:Int,x=(st.length:Int):=⟨_,rfl⟩
   obtain⟨x86,e86⟩:∃x:Int,x=(x84 - x20):=⟨_,rfl⟩
   refine Wq.jn (fun s=>s=⟨[(9,(.ptr ⟨9,[]⟩ 0 0)),(8,(vi r53)),(6,(vi x20)),(0,(.ptr ⟨0,[]⟩ 0 0))],[(0,.bx (pcv g t (.ow 1 ((st.take x86.toNat).map vi)) (.fz 1 0 []) trc (vi ct))),(5,.bx (Prod.av r16)),(9,.bx (.agg [(vi n),(vi 0),(.fz 1 0 [])]))],[],false⟩) ?_ ?_
   ·refine Wq.rg [9,8,6,0] ?_
    iterate 2 (refine .p (.ptr ⟨0,[]⟩ 0 0) ?_)
    refine .r (.ptr ⟨0,[]⟩ 0 0) ?_
    refine .r (.ptr ⟨0,[]⟩ 0 7) ?_
    refine .r (.rf _ _ _ _) ?_
    refine .p (.ptr ⟨0,[]⟩ 0 0) ?_
    refine .r (.ptr ⟨0,[]⟩ 0 0) ?_
    refine .r (.ptr ⟨0,[]⟩ 0 7) ?_
    refine .r (.rf _ _ _ _) ?_
    refine .rv _ (vi x84) (ln e84) ?_
    refine .p (vi x20) ?_
    refine .pv _ (vi x86) (wrE e86 (by omega) (by omega)) ?_
    refine .ro (fun _=>op_slr rfl rfl rfl rfl (bound_in (by omega) (by omega)) rfl rfl rfl) (.rf _ _ _ _) rfl ?_
    refine .r (.ptr ⟨0,[]⟩ 0 0) ?_
    refine .r (.ptr ⟨0,[]⟩ 0 7) ?_
    refine .so (fun _=>op_cut rfl rfl rfl rfl rfl rfl (by first|omega|(simp;done)|(simp;omega)) rfl rfl) [(0,.bx (pcv g t (.ow 1 _) (.fz 1 0 []) trc (vi ct))),(5,.bx (Prod.av r16)),(9,.bx (.agg [(vi n),(vi 0),(.fz 1 0 [])]))] rfl ?_
    refine .done ⟨[(9,(.ptr ⟨9,[]⟩ 0 0)),(8,(vi r53)),(6,(vi x20)),(0,(.ptr ⟨0,[]⟩ 0 0))],[(0,.bx (pcv g t (.ow 1 _) (.fz 1 0 []) trc (vi ct))),(5,.bx (Prod.av r16)),(9,.bx (.agg [(vi n),(vi 0),(.fz 1 0 [])]))],[],false⟩ ?_
    show(⟨[(9,(.ptr ⟨9,[]⟩ 0 0)),(8,(vi r53)),(6,(vi x20)),(0,(.ptr ⟨0,[]⟩ 0 0))],[(0,.bx (pcv g t (.ow 1 _) (.fz 1 0 []) trc (vi ct))),(5,.bx (Prod.av r16)),(9,.bx (.agg [(vi n),(vi 0),(.fz 1 0 [])]))],[],false⟩:St)=_
    simp[List.map_take]
   rintro s rfl
   apply Wq.seq
   obtain⟨x101,e101⟩:∃x:Int,x=(0 - x20):=⟨_,rfl⟩
   refine Wq.jn (fun s=>s=⟨[(9,(.ptr ⟨9,[]⟩ 0 0)),(8,(vi r53)),(0,(.ptr ⟨0,[]⟩ 0 0))],[(0,.bx (pcv g t (.ow 1 ((st.take x86.toNat).map vi)) (.fz 1 0 []) trc (vi ct))),(5,.bx (Prod.av r16)),(9,.bx (.agg [(vi n),(vi 0),(.fz 1 0 [])]))],[],false⟩) ?_ ?_
   ·refine Wq.rg [9,8,0] ?_
    iterate 2 (refine .p (.ptr ⟨0,[]⟩ 0 0) ?_)
    refine .r (.ptr ⟨0,[]⟩ 0 0) ?_
    refine .r (.ptr ⟨0,[]⟩ 0 8) ?_
    refine .r (.fz 1 0 []) ?_
    refine .p (.ptr ⟨0,[]⟩ 0 0) ?_
    refine .r (.ptr ⟨0,[]⟩ 0 0) ?_
    refine .r (.ptr ⟨0,[]⟩ 0 8) ?_
    refine .r (.fz 1 0 []) ?_
    refine .p (vi 0) ?_
    refine .p (vi x20) ?_
    refine .pv _ (vi x101) (wrE e101 (by omega) (by omega)) ?_
    refine .po (fun _=>op_sls rfl rfl rfl rfl (bound_in (by omega) (by omega)) rfl rfl) (.fz 1 0 []) (by simp) ?_
    refine .r (.ptr ⟨0,[]⟩ 0 0) ?_
    refine .r (.ptr ⟨0,[]⟩ 0 8) ?_
    refine .s [(0,.bx (pcv g t (.ow 1 _) (.fz 1 0 []) trc (vi ct))),(5,.bx (Prod.av r16)),(9,.bx (.agg [(vi n),(vi 0),(.fz 1 0 [])]))] ?_
    refine .done ⟨[(9,(.ptr ⟨9,[]⟩ 0 0)),(8,(vi r53)),(0,(.ptr ⟨0,[]⟩ 0 0))],[(0,.bx (pcv g t (.ow 1 _) (.fz 1 0 []) trc (vi ct))),(5,.bx (Prod.av r16)),(9,.bx (.agg [(vi n),(vi 0),(.fz 1 0 [])]))],[],false⟩ ?_
    show(⟨[(9,(.ptr ⟨9,[]⟩ 0 0)),(8,(vi r53)),(0,(.ptr ⟨0,[]⟩ 0 0))],[(0,.bx (pcv g t (.ow 1 _) (.fz 1 0 []) trc (vi ct))),(5,.bx (Prod.av r16)),(9,.bx (.agg [(vi n),(vi 0),(.fz 1 0 [])]))],[],false⟩:St)=_
    simp[List.map_take]
   rintro s rfl
   apply Wq.seq
   refine Wq.rg [] ?_
   refine .p (.ptr ⟨0,[]⟩ 0 0) ?_
   refine .p (vi r53) ?_
   refine .r (.agg [(vi n),(vi 0),(.fz 1 0 [])]) ?_
   have nst2:((st.take x86.toNat).map vi).all noLk=true:=noLk_ints
   have natr:nonAgg trc=true:=by rw[etr];cases tr<;>rfl
   have hp:Ans cx O 78 [.bx (pcv g t (.ow 1 ((st.take x86.toNat).map vi)) (.fz 1 0 []) trc (vi ct)),vi r53,.agg [vi n,vi 0,.fz 1 0 []]] (.tup [],[.bx (pcv g t (.ow 1 ((st.take x86.toNat++[r53]).map vi)) (.ow 3 [.agg [vi n,vi 0,.fz 1 0 []]]) trc (vi ct))]):=by
    rw[etr]
    exact push_ok hO2 (p:=⟨st.take x86.toNat,[],false,tr,ct⟩) rfl (by simp;omega) (by simp) rfl (fun h=>by cases h;rfl)
   refine .cl F78 rfl rfl hp (expArgs_cons rfl (expArgs_cons rfl (expArgs_cons rfl rfl rfl) rfl) rfl) rfl (show noLkL [.bx (pcv g t (.ow 1 ((st.take x86.toNat).map vi)) (.fz 1 0 []) trc (vi ct)),vi r53,.agg [vi n,vi 0,.fz 1 0 []]]=true by simp only[noLkL,noLk,noLk_pcv,noLkL_all,ntr,nst2,Bool.and_self]) (zip_ok rfl (by rw[pcv_na,natr];rfl)) (.tup []) [(0,.bx (pcv g t (.ow 1 ((st.take x86.toNat++[r53]).map vi)) (.ow 3 [.agg [vi n,vi 0,.fz 1 0 []]]) trc (vi ct))),(5,.bx (Prod.av r16)),(9,.bx (.agg [vi n,vi 0,.fz 1 0 []]))] ?_
   refine .fin (S':=⟨[],[(0,.bx (pcv g t (.ow 1 ((st.take x86.toNat++[r53]).map vi)) (.ow 3 [.agg [vi n,vi 0,.fz 1 0 []]]) trc (vi ct))),(5,.bx (Prod.av r16)),(9,.bx (.agg [(vi n),(vi 0),(.fz 1 0 [])]))],[],false⟩) (fin_nl (nl_call rfl rfl (pcv_nl (by rw[noLk,noLkL_all];exact noLk_ints) (by rw[noLk,noLkL_all];rfl) ntr rfl) rfl) (by kernel_rfl)) ?_
   apply Wq.seq
   refine Wq.rg [4] ?_
   refine .p (vi 0) ?_
   refine .done ⟨[(4,(vi 0))],[(0,.bx (pcv g t (.ow 1 ((st.take x86.toNat++[r53]).map vi)) (.ow 3 [.agg [vi n,vi 0,.fz 1 0 []]]) trc (vi ct))),(5,.bx (Prod.av r16)),(9,.bx (.agg [(vi n),(vi 0),(.fz 1 0 [])]))],[],false⟩ ?_
   refine Wq.ret ?_
   exact Aq.mk rfl (by
     have ek:lkP g n=r16:=e16.symm
     have el:lkG t (st.getD (st.length - r16.right.l.length - 1) 0) r16.left=r53:=by
      rw[e53,e49,e42,show x40.toNat=st.length - r16.right.l.length - 1 by omega];rfl
     rw[show redS ndR g t n ⟨st,[],false,tr,ct⟩=some (PS.push ⟨st.take x86.toNat,[],false,tr,ct⟩ r53 (.agg [vi n,vi 0,.fz 1 0 []]))from by
      simp only[redS,ek,el]
      rw[if_neg (by omega),if_neg hx,show st.length - r16.right.l.length=x86.toNat by omega,List.drop_nil,List.take_nil,ndR,if_pos rfl]]
     simp only[PS.rf,PS.push,←etr]
     rfl)
theorem red_ok (hO:∀e∈O,e.f≠77) (hO2:∀e∈O,e.f≠78) {g:Plain} {t:Table} (hok:Ok g t) {p:PS} (hp:p.Fine t) {n:Int} (hn0:0≤n) (hn:n<g.prods.l.length):Ans cx O 77 [.bx (p.rf g t),vi n] (match redS ndR g t n p with|none=>(vi 170,[.bx (p.rf g t)])|some q=>(vi 0,[.bx (q.rf g t)])):=by
 obtain⟨st,ts,tb,tr,ct⟩:=p
 obtain⟨h1,h2,h3,h4,h5,h6,h7⟩:=hp
 simp only at h1 h2 h3 h4 h5 h6 h7
 cases tb with
 |true=>
  rcases Nat.eq_zero_or_pos (lkP g n).right.l.length with hk|hk
  ·exact w77B hO hO2 hok hn0 hn h1 h2 h4 (by omega) hk
  ·exact w77A hO hO2 hok hn0 hn h1 h2 h4 (by omega) hk
 |false=>
  obtain rfl:ts=[]:=h3 rfl
  exact w77C hO hO2 hok hn0 hn h1 h2
end Go.Am.Pull
end
section
namespace Go.Am.Pull
open Go Go.Proofs Go.Am
set_option maxRecDepth 100000
set_option maxHeartbeats 4000000
variable {O:List Ent}
theorem frzL_ints {lab:Nat} {l:List Int}:frzL lab (l.map vi)=l.map vi:=frzL_id fun a ha=>by
 obtain⟨n,_,rfl⟩:=List.mem_map.1 ha
 intro lab;rfl
theorem last_ok (hO:∀e∈O,e.f≠76) {g:Plain} {t:Table} {st:List Int} {a b c:AV} (h:st≠[]) (hl:st.length<2 ^ 60):Ans cx O 76 [.fp 2 (frz 2 (pcv g t (.ow 1 (st.map vi)) a b c)) 0] (vi (st.getD (st.length - 1) 0),[]):=by
 have h0:0<st.length:=List.length_pos_iff.2 h
 have:=w76 hO (lab:=2) (l1:=2) (c0:=g.kinds.av vs) (c1:=g.precs.av Prec.av) (c2:=g.rules.av vs) (c3:=g.prods.av Prod.av) (c4:=vi g.start) (c5:=t.moves.av (Sl.av Move.av)) (c6:=t.goto.av (Sl.av vi)) (c8:=frz 2 a) (c9:=frz 2 b) (c10:=frz 2 c) (es:=frzL 2 (st.map vi)) (v:=st.getD (st.length - 1) 0) (by rw[frzL_ints,List.length_map];exact hl) (by rw[frzL_ints];simpa using h) (by
  rw[frzL_ints,List.length_map,show((st.length:Int) - 1).toNat=st.length - 1 by omega]
  have:st.length - 1<st.length:=by omega
  simp[List.getD,this])
 exact this
def oneS (nd:Bool→Int→List AV→AV) (g:Plain) (t:Table) (k:Int) (d:AV) (p:PS):Int×Int×PS:=
 let m:=lkM t p.last k
 if((m.act==1||m.act==2)&&decide (p.n≥65536))=true then(0,181,p)else
 if m.act=0 then(0,180,{p with tr:=p.tr++[m]})else
 if m.act=3 then(if p.st.length=2 then(2,0,{p with tr:=p.tr++[m]})else(0,170,p))else
 if m.act=2 then(match redS nd g t m.n p with
  |none=>(0,170,p)
  |some q=>(0,0,{q with tr:=q.tr++[m],n:=q.n+1}))else
 (if m.act=1 then 1 else 0,0,{p.push m.n d with tr:=p.tr++[m],n:=p.n+1})
theorem redS_keeps {nd:Bool→Int→List AV→AV} {g:Plain} {t:Table} {n:Int} {p q:PS} (h:redS nd g t n p=some q):q.tr=p.tr∧q.n=p.n:=by
 unfold redS at h
 simp only at h
 split at h
 ·cases h
 ·split at h
  ·cases h
  ·cases h;exact⟨rfl,rfl⟩
theorem redS_trees {nd:Bool→Int→List AV→AV} (hnd:∀b n l,l.all isTree=true→isTree (nd b n l)=true) {g:Plain} {t:Table} {n:Int} {p q:PS} (hp:p.ts.all isTree=true) (h:redS nd g t n p=some q):q.ts.all isTree=true:=by
 unfold redS at h
 simp only at h
 split at h
 ·cases h
 ·split at h
  ·cases h
  ·cases h
   simp only[PS.push,List.all_append,Bool.and_eq_true]
   exact⟨List.all_eq_true.2 fun a ha=>List.all_eq_true.1 hp a (List.mem_of_mem_take ha),by simp[hnd _ _ _ (drop_trees hp)]⟩
theorem ndR_tree (b:Bool) (n:Int) (l:List AV) (h:l.all isTree=true):isTree (ndR b n l)=true:=by
 unfold ndR
 split
 ·rfl
 ·exact tree_nd h
theorem rf_tr {g:Plain} {t:Table} {st:List Int} {ts:List AV} {tb:Bool} {tr:List Move} {n:Int} (h:tr≠[]):PS.rf g t ⟨st,ts,tb,tr,n⟩=pcv g t (.ow 1 (st.map vi)) (oc 3 tb ts) (.ow 2 (tr.map Move.av)) (vi n):=by
 cases tr with
 |nil=>exact absurd rfl h
 |cons=>rfl
theorem rf_snoc {g:Plain} {t:Table} {st:List Int} {ts:List AV} {tb:Bool} {tr:List Move} {m:Move} {n:Int}:PS.rf g t ⟨st,ts,tb,tr++[m],n⟩=pcv g t (.ow 1 (st.map vi)) (oc 3 tb ts) (.ow 2 ((tr++[m]).map Move.av)) (vi n):=rf_tr (by simp)
theorem nonAgg_oc {n:Nat} {b:Bool} {l:List AV}:nonAgg (oc n b l)=true:=by cases b<;>rfl
noncomputable def fn59:FnS:=(mkA Try.f59 ⟨5070604837663318214290419221479,[3,0,2],false,[]⟩).getD ⟨.skip,0,[],[],0,[],false,[]⟩
theorem F59:cx.F 59=some fn59:=by kernel_rfl
theorem w59A (hO:∀e∈O,e.f≠59) (hO7:∀e∈O,e.f≠77) (hO8:∀e∈O,e.f≠78) (hO6:∀e∈O,e.f≠76) {g:Plain} {t:Table} (hok:Ok g t) {st:List Int} {ts ks:List AV} {tb:Bool} {tr:List Move} (htr:tr≠[]) {k dp dt:Int} {dl dz:Nat} {ct:Int} (hk0:0≤k) (hk:k<g.kinds.l.length) (hd:isTree (.agg [vi dp,vi dt,.fz dl dz ks])=true) (hp:PS.Fine t ⟨st,ts,tb,tr,ct⟩):Ans cx O 59 [.bx ((PS.mk st ts tb tr ct).rf g t),vi k,(.agg [vi dp,vi dt,.fz dl dz ks])] (match oneS ndR g t k (.agg [vi dp,vi dt,.fz dl dz ks]) ⟨st,ts,tb,tr,ct⟩with|(d,e,q)=>(.tup [vi d,vi e],[.bx (q.rf g t)])):=by
 obtain⟨h1,h2,h3',h4,h5,h6,h7⟩:=hp
 simp only at h1 h2 h3' h4 h5 h6 h7
 have lmst:(st.map vi).length=st.length:=List.length_map _
 have nst:(st.map vi).all noLk=true:=noLk_ints
 have nts:noLk (oc 3 tb ts)=true:=noLk_oc (noLk_tree h4)
 have ntr:(tr.map Move.av).all noLk=true:=noLk_moves
 rw[rf_tr htr]
 refine ans_q [2,1,0] (fn:=fn59) F59 (orc_none hO) ?_
 show Wq cx O 5070604837663318214290419221479 1 [] _ ⟨[(2,(.agg [(vi dp),(vi dt),(.fz dl dz ks)])),(1,(vi k)),(0,(.ptr ⟨0,[]⟩ 0 0))],[(0,.bx (pcv g t (.ow 1 (st.map vi)) (oc 3 tb ts) (.ow 2 (tr.map Move.av)) (vi ct)))],[],false⟩ _
 apply Wq.seq
 refine Wq.rg [7,6,5,1,0] ?_
 refine .e (.ptr ⟨5,[]⟩ 0 0) [(0,.bx (pcv g t (.ow 1 (st.map vi)) (oc 3 tb ts) (.ow 2 (tr.map Move.av)) (vi ct))),(5,.bx (.agg [(vi dp),(vi dt),(.fz dl dz ks)]))] ?_
 iterate 2 (refine .p (vi 0) ?_)
 refine .done ⟨[(7,(vi 0)),(6,(vi 0)),(5,(.ptr ⟨5,[]⟩ 0 0)),(1,(vi k)),(0,(.ptr ⟨0,[]⟩ 0 0))],[(0,.bx (pcv g t (.ow 1 (st.map vi)) (oc 3 tb ts) (.ow 2 (tr.map Move.av)) (vi ct))),(5,.bx (.agg [(vi dp),(vi dt),(.fz dl dz ks)]))],[],false⟩ ?_
 apply Wq.seq
 refine Wq.rg [8,5,0] ?_
 refine .p (.ptr ⟨0,[]⟩ 0 0) ?_
 refine .r (.ptr ⟨0,[]⟩ 0 0) ?_
 iterate 2 (refine .r (.ptr ⟨0,[]⟩ 0 5) ?_)
 refine .r (Sl.av (Sl.av Move.av) t.moves) ?_
 refine .p (.ptr ⟨0,[]⟩ 0 0) ?_
 obtain⟨x16,e16⟩:∃x:Int,x=st.getD (st.length - 1) 0:=⟨_,rfl⟩
 have hst0:st≠[]:=fun h=>by rw[h]at h1;simp at h1
 have b16:=h2 x16 (by have:st.length - 1<st.length:=(by omega);rw[e16,List.getD,List.getElem?_eq_getElem this];exact List.getElem_mem this)
 refine .cl F76 rfl rfl (e16▸last_ok hO6 hst0 (by omega)) (expArgs_cons rfl rfl rfl) rfl rfl rfl (vi x16) [(0,.bx (pcv g t (.ow 1 (st.map vi)) (oc 3 tb ts) (.ow 2 (tr.map Move.av)) (vi ct))),(5,.bx (.agg [(vi dp),(vi dt),(.fz dl dz ks)]))] ?_
 obtain⟨r17,e17⟩:∃x:_,x=(t.moves.l.getD x16.toNat default):=⟨_,rfl⟩
 have m17:=getD_mem e17 (by omega) (by omega)
 have q17:=hok.row r17 m17
 refine .po (fun _=>op_ix e17 (by omega) (by omega) hok.moves) (.fp _ ((Sl.av Move.av) r17) 0) rfl ?_
 refine .p (Sl.av Move.av r17) ?_
 refine .p (vi k) ?_
 obtain⟨r20,e20⟩:∃x:_,x=(r17.l.getD k.toNat default):=⟨_,rfl⟩
 have m20:=getD_mem e20 (by omega) (by omega)
 have q20:=hok.move r17 m17 r20 m20
 have em:lkM t (PS.last ⟨st,ts,tb,tr,ct⟩) k=r20:=by rw[e20,e17,e16];rfl
 refine .po (fun _=>op_ix e20 (by omega) (by omega) q17.1) (.fp _ (Move.av r20) 0) rfl ?_
 refine .p (Move.av r20) ?_
 refine .e (.ptr ⟨8,[]⟩ 0 0) [(0,.bx (pcv g t (.ow 1 (st.map vi)) (oc 3 tb ts) (.ow 2 (tr.map Move.av)) (vi ct))),(5,.bx (.agg [(vi dp),(vi dt),(.fz dl dz ks)])),(8,.bx (.agg [(vi 0),(vi 0)]))] ?_
 refine .s [(0,.bx (pcv g t (.ow 1 (st.map vi)) (oc 3 tb ts) (.ow 2 (tr.map Move.av)) (vi ct))),(5,.bx (.agg [(vi dp),(vi dt),(.fz dl dz ks)])),(8,.bx (Move.av r20))] ?_
 refine .done ⟨[(8,(.ptr ⟨8,[]⟩ 0 0)),(5,(.ptr ⟨5,[]⟩ 0 0)),(0,(.ptr ⟨0,[]⟩ 0 0))],[(0,.bx (pcv g t (.ow 1 (st.map vi)) (oc 3 tb ts) (.ow 2 (tr.map Move.av)) (vi ct))),(5,.bx (.agg [(vi dp),(vi dt),(.fz dl dz ks)])),(8,.bx (Move.av r20))],[],false⟩ ?_
 apply Wq.seq
 apply Wq.seq
 refine Wq.jn (fun s=>s=⟨[(36,(.bool (((r20.act==1)||(r20.act==2))&&(decide (ct≥65536))))),(8,(.ptr ⟨8,[]⟩ 0 0)),(5,(.ptr ⟨5,[]⟩ 0 0)),(0,(.ptr ⟨0,[]⟩ 0 0))],[(0,.bx (pcv g t (.ow 1 (st.map vi)) (oc 3 tb ts) (.ow 2 (tr.map Move.av)) (vi ct))),(5,.bx (.agg [(vi dp),(vi dt),(.fz dl dz ks)])),(8,.bx (Move.av r20))],[],false⟩) ?_ ?_
 ·refine Wq.rg [36,8,5,0] ?_
  refine .r (.ptr ⟨8,[]⟩ 0 0) ?_
  refine .r (vi r20.act) ?_
  iterate 2 (refine .p (.bool (r20.act==1)) ?_)
  refine Rq.split (dg:=25) rfl (fun h3=>?_) (fun h3=>?_) rfl
  ·iterate 3 (refine .sk ?_)
   iterate 2 (refine .p (.bool true) ?_)
   refine Rq.split (dg:=30) rfl (fun h8=>?_) (fun h8=>?_) rfl
   ·refine .p (.ptr ⟨0,[]⟩ 0 0) ?_
    refine .r (.ptr ⟨0,[]⟩ 0 0) ?_
    refine .r (.ptr ⟨0,[]⟩ 0 10) ?_
    refine .r (vi ct) ?_
    refine .p (.bool (decide (ct≥65536))) ?_
    refine .p (.bool (decide (ct≥65536))) ?_
    refine .done ⟨[(36,(.bool _)),(8,(.ptr ⟨8,[]⟩ 0 0)),(5,(.ptr ⟨5,[]⟩ 0 0)),(0,(.ptr ⟨0,[]⟩ 0 0))],[(0,.bx (pcv g t (.ow 1 (st.map vi)) (oc 3 tb ts) (.ow 2 (tr.map Move.av)) (vi ct))),(5,.bx (.agg [(vi dp),(vi dt),(.fz dl dz ks)])),(8,.bx (Move.av r20))],[],false⟩ ?_
    show(⟨[(36,(.bool _)),(8,(.ptr ⟨8,[]⟩ 0 0)),(5,(.ptr ⟨5,[]⟩ 0 0)),(0,(.ptr ⟨0,[]⟩ 0 0))],[(0,.bx (pcv g t (.ow 1 (st.map vi)) (oc 3 tb ts) (.ow 2 (tr.map Move.av)) (vi ct))),(5,.bx (.agg [(vi dp),(vi dt),(.fz dl dz ks)])),(8,.bx (Move.av r20))],[],false⟩:St)=_
    first|(cases h8;done)|(cases h3;done)|simp[h3]
   ·iterate 5 (refine .sk ?_)
    refine .p (.bool false) ?_
    refine .done ⟨[(36,(.bool _)),(8,(.ptr ⟨8,[]⟩ 0 0)),(5,(.ptr ⟨5,[]⟩ 0 0)),(0,(.ptr ⟨0,[]⟩ 0 0))],[(0,.bx (pcv g t (.ow 1 (st.map vi)) (oc 3 tb ts) (.ow 2 (tr.map Move.av)) (vi ct))),(5,.bx (.agg [(vi dp),(vi dt),(.fz dl dz ks)])),(8,.bx (Move.av r20))],[],false⟩ ?_
    show(⟨[(36,(.bool _)),(8,(.ptr ⟨8,[]⟩ 0 0)),(5,(.ptr ⟨5,[]⟩ 0 0)),(0,(.ptr ⟨0,[]⟩ 0 0))],[(0,.bx (pcv g t (.ow 1 (st.map vi)) (oc 3 tb ts) (.ow 2 (tr.map Move.av)) (vi ct))),(5,.bx (.agg [(vi dp),(vi dt),(.fz dl dz ks)])),(8,.bx (Move.av r20))],[],false⟩:St)=_
    first|(cases h8;done)|(cases h3;done)|simp[take_snoc,take_cut,take_map_self,take_map_snoc,List.map_take,h3,h8]
  ·refine .r (.ptr ⟨8,[]⟩ 0 0) ?_
   refine .r (vi r20.act) ?_
   refine .p (.bool (r20.act==2)) ?_
   iterate 2 (refine .p (.bool (r20.act==2)) ?_)
   refine Rq.split (dg:=30) rfl (fun h8=>?_) (fun h8=>?_) rfl
   ·refine .p (.ptr ⟨0,[]⟩ 0 0) ?_
    refine .r (.ptr ⟨0,[]⟩ 0 0) ?_
    refine .r (.ptr ⟨0,[]⟩ 0 10) ?_
    refine .r (vi ct) ?_
    refine .p (.bool (decide (ct≥65536))) ?_
    refine .p (.bool (decide (ct≥65536))) ?_
    refine .done ⟨[(36,(.bool _)),(8,(.ptr ⟨8,[]⟩ 0 0)),(5,(.ptr ⟨5,[]⟩ 0 0)),(0,(.ptr ⟨0,[]⟩ 0 0))],[(0,.bx (pcv g t (.ow 1 (st.map vi)) (oc 3 tb ts) (.ow 2 (tr.map Move.av)) (vi ct))),(5,.bx (.agg [(vi dp),(vi dt),(.fz dl dz ks)])),(8,.bx (Move.av r20))],[],false⟩ ?_
    show(⟨[(36,(.bool _)),(8,(.ptr ⟨8,[]⟩ 0 0)),(5,(.ptr ⟨5,[]⟩ 0 0)),(0,(.ptr ⟨0,[]⟩ 0 0))],[(0,.bx (pcv g t (.ow 1 (st.map vi)) (oc 3 tb ts) (.ow 2 (tr.map Move.av)) (vi ct))),(5,.bx (.agg [(vi dp),(vi dt),(.fz dl dz ks)])),(8,.bx (Move.av r20))],[],false⟩:St)=_
    first|(cases h8;done)|(cases h3;done)|simp[h3,h8]
   ·iterate 5 (refine .sk ?_)
    refine .p (.bool false) ?_
    refine .done ⟨[(36,(.bool _)),(8,(.ptr ⟨8,[]⟩ 0 0)),(5,(.ptr ⟨5,[]⟩ 0 0)),(0,(.ptr ⟨0,[]⟩ 0 0))],[(0,.bx (pcv g t (.ow 1 (st.map vi)) (oc 3 tb ts) (.ow 2 (tr.map Move.av)) (vi ct))),(5,.bx (.agg [(vi dp),(vi dt),(.fz dl dz ks)])),(8,.bx (Move.av r20))],[],false⟩ ?_
    show(⟨[(36,(.bool _)),(8,(.ptr ⟨8,[]⟩ 0 0)),(5,(.ptr ⟨5,[]⟩ 0 0)),(0,(.ptr ⟨0,[]⟩ 0 0))],[(0,.bx (pcv g t (.ow 1 (st.map vi)) (oc 3 tb ts) (.ow 2 (tr.map Move.av)) (vi ct))),(5,.bx (.agg [(vi dp),(vi dt),(.fz dl dz ks)])),(8,.bx (Move.av r20))],[],false⟩:St)=_
    first|(cases h8;done)|(cases h3;done)|simp[h3,h8]
 rintro s rfl
 refine Wq.cond rfl (fun hx=>?_) (fun hx=>?_)
 ·have hx:=hx
  apply Wq.seq
  refine Wq.rg [7,6] ?_
  refine .p (vi 0) ?_
  refine .p (vi 181) ?_
  refine .done ⟨[(7,(vi 181)),(6,(vi 0))],[(0,.bx (pcv g t (.ow 1 (st.map vi)) (oc 3 tb ts) (.ow 2 (tr.map Move.av)) (vi ct))),(5,.bx (.agg [(vi dp),(vi dt),(.fz dl dz ks)])),(8,.bx (Move.av r20))],[],false⟩ ?_
  refine Wq.ret ?_
  exact Aq.mk rfl (by rw[show oneS ndR g t k (.agg [vi dp,vi dt,.fz dl dz ks]) ⟨st,ts,tb,tr,ct⟩=(0,181,⟨st,ts,tb,tr,ct⟩)from by simp only[oneS,em];rw[if_pos hx]];(first|rfl|exact congrArg (fun x=>((AV.tup [_,_],[AV.bx x]):AV×List AV)) (rf_tr htr).symm|exact congrArg (fun x=>((AV.tup [_,_],[AV.bx x]):AV×List AV)) rf_snoc.symm))
 ·have hc:=hx
  refine Wq.skip ?_
  apply Wq.seq
  apply Wq.seq
  refine Wq.rg [38,8,5,0] ?_
  refine .r (.ptr ⟨8,[]⟩ 0 0) ?_
  refine .r (vi r20.act) ?_
  refine .done ⟨[(38,(vi r20.act)),(8,(.ptr ⟨8,[]⟩ 0 0)),(5,(.ptr ⟨5,[]⟩ 0 0)),(0,(.ptr ⟨0,[]⟩ 0 0))],[(0,.bx (pcv g t (.ow 1 (st.map vi)) (oc 3 tb ts) (.ow 2 (tr.map Move.av)) (vi ct))),(5,.bx (.agg [(vi dp),(vi dt),(.fz dl dz ks)])),(8,.bx (Move.av r20))],[],false⟩ ?_
  refine Wq.block ?_
  apply Wq.seq
  refine Wq.rg [44,38,8,5,0] ?_
  iterate 2 (refine .p (.bool (r20.act==0)) ?_)
  refine .done ⟨[(44,(.bool (r20.act==0))),(38,(vi r20.act)),(8,(.ptr ⟨8,[]⟩ 0 0)),(5,(.ptr ⟨5,[]⟩ 0 0)),(0,(.ptr ⟨0,[]⟩ 0 0))],[(0,.bx (pcv g t (.ow 1 (st.map vi)) (oc 3 tb ts) (.ow 2 (tr.map Move.av)) (vi ct))),(5,.bx (.agg [(vi dp),(vi dt),(.fz dl dz ks)])),(8,.bx (Move.av r20))],[],false⟩ ?_
  refine Wq.cond rfl (fun hx=>?_) (fun hx=>?_)
  ·have h0:(r20.act=0):=by simpa using hx
   apply Wq.seq
   refine Wq.jn (fun s=>s=⟨[],[(0,.bx (pcv g t (.ow 1 (st.map vi)) (oc 3 tb ts) (.ow 2 ((tr++[r20]).map Move.av)) (vi ct))),(5,.bx (.agg [(vi dp),(vi dt),(.fz dl dz ks)])),(8,.bx (Move.av r20))],[],false⟩) ?_ ?_
   ·refine Wq.rg [] ?_
    iterate 2 (refine .p (.ptr ⟨0,[]⟩ 0 0) ?_)
    refine .r (.ptr ⟨0,[]⟩ 0 0) ?_
    refine .r (.ptr ⟨0,[]⟩ 0 9) ?_
    refine .r (.rf _ _ _ _) ?_
    refine .r (Move.av r20) ?_
    refine .e (.rf _ _ _ _) [(0,.bx (pcv g t (.ow 1 (st.map vi)) (oc 3 tb ts) (.ow 2 (tr.map Move.av)) (vi ct))),(5,.bx (.agg [(vi dp),(vi dt),(.fz dl dz ks)])),(8,.bx (Move.av r20)),(52,.ow 2 [(Move.av r20)])] ?_
    refine .eo (fun _=>op_appr rfl rfl rfl rfl rfl rfl rfl rfl rfl rfl (new:=[_]) rfl (List.cons_ne_nil _ _) rfl rfl (by simp) (by show(_+1)*16≤70368744177664;simp;omega) (by show _+1≤70368744177664;simp;omega) rfl) [(0,.bx (pcv g t (.ow 1 (st.map vi)) (oc 3 tb ts) _ (vi ct))),(5,.bx (.agg [(vi dp),(vi dt),(.fz dl dz ks)])),(8,.bx (Move.av r20)),(52,.ow 2 [(Move.av r20)]),(53,.ow 2 _)] ?_
    refine .r (.ptr ⟨0,[]⟩ 0 0) ?_
    refine .r (.ptr ⟨0,[]⟩ 0 9) ?_
    refine .s [(0,.bx (pcv g t (.ow 1 (st.map vi)) (oc 3 tb ts) (.lk 53 _) (vi ct))),(5,.bx (.agg [(vi dp),(vi dt),(.fz dl dz ks)])),(8,.bx (Move.av r20)),(52,.ow 2 [(Move.av r20)]),(53,.ow 2 _)] ?_
    refine .fin (fin_of (h1:=[(0,.bx (pcv g t (.ow 1 (st.map vi)) (oc 3 tb ts) (.ow 2 _) (vi ct))),(5,.bx (.agg [(vi dp),(vi dt),(.fz dl dz ks)])),(8,.bx (Move.av r20)),(52,.ow 2 [(Move.av r20)])]) (resolve_skip rfl (resolve_lk rfl rfl rfl (by simp) (rfl))) (by simp[noLkH,noLk,noLkL_all,take_map_self,take_map_snoc,noLk_pcv,nst,nts,ntr,Move.av]) rfl) ?_
    show(⟨[],[(0,.bx (pcv g t (.ow 1 (st.map vi)) (oc 3 tb ts) (.ow 2 _) (vi ct))),(5,.bx (.agg [(vi dp),(vi dt),(.fz dl dz ks)])),(8,.bx (Move.av r20))],[],false⟩:St)=_
    simp[take_map_self,take_map_snoc]
   rintro s rfl
   apply Wq.seq
   refine Wq.rg [7,6] ?_
   refine .p (vi 0) ?_
   refine .p (vi 180) ?_
   refine .done ⟨[(7,(vi 180)),(6,(vi 0))],[(0,.bx (pcv g t (.ow 1 (st.map vi)) (oc 3 tb ts) (.ow 2 ((tr++[r20]).map Move.av)) (vi ct))),(5,.bx (.agg [(vi dp),(vi dt),(.fz dl dz ks)])),(8,.bx (Move.av r20))],[],false⟩ ?_
   refine Wq.ret ?_
   exact Aq.mk rfl (by rw[show oneS ndR g t k (.agg [vi dp,vi dt,.fz dl dz ks]) ⟨st,ts,tb,tr,ct⟩=(0,180,{(⟨st,ts,tb,tr,ct⟩:PS)with tr:=tr++[r20]})from by simp only[oneS,em];rw[if_neg (by rw[hc];exact Bool.false_ne_true),if_pos h0]];(first|rfl|exact congrArg (fun x=>((AV.tup [_,_],[AV.bx x]):AV×List AV)) (rf_tr htr).symm|exact congrArg (fun x=>((AV.tup [_,_],[AV.bx x]):AV×List AV)) rf_snoc.symm))
  ·have h0:¬(r20.act=0):=by simpa using hx
   apply Wq.seq
   refine Wq.rg [56,38,8,5,0] ?_
   iterate 2 (refine .p (.bool (r20.act==3)) ?_)
   refine .done ⟨[(56,(.bool (r20.act==3))),(38,(vi r20.act)),(8,(.ptr ⟨8,[]⟩ 0 0)),(5,(.ptr ⟨5,[]⟩ 0 0)),(0,(.ptr ⟨0,[]⟩ 0 0))],[(0,.bx (pcv g t (.ow 1 (st.map vi)) (oc 3 tb ts) (.ow 2 (tr.map Move.av)) (vi ct))),(5,.bx (.agg [(vi dp),(vi dt),(.fz dl dz ks)])),(8,.bx (Move.av r20))],[],false⟩ ?_
   refine Wq.cond rfl (fun hx=>?_) (fun hx=>?_)
   ·have h3:(r20.act=3):=by simpa using hx
    apply Wq.seq
    apply Wq.seq
    refine Wq.rg [63,8,0] ?_
    refine .p (.ptr ⟨0,[]⟩ 0 0) ?_
    refine .r (.ptr ⟨0,[]⟩ 0 0) ?_
    refine .r (.ptr ⟨0,[]⟩ 0 7) ?_
    refine .r (.rf _ _ _ _) ?_
    obtain⟨x62,e62⟩:∃x:Int,x=(st.length:Int):=⟨_,rfl⟩
    refine .rv _ (vi x62) (ln e62) ?_
    refine .p (.bool (!(x62==2))) ?_
    refine .done ⟨[(63,(.bool (!(x62==2)))),(8,(.ptr ⟨8,[]⟩ 0 0)),(0,(.ptr ⟨0,[]⟩ 0 0))],[(0,.bx (pcv g t (.ow 1 (st.map vi)) (oc 3 tb ts) (.ow 2 (tr.map Move.av)) (vi ct))),(5,.bx (.agg [(vi dp),(vi dt),(.fz dl dz ks)])),(8,.bx (Move.av r20))],[],false⟩ ?_
    refine Wq.cond rfl (fun hx=>?_) (fun hx=>?_)
    ·have hx:¬(x62=2):=by simpa using hx
     apply Wq.seq
     refine Wq.rg [7,6] ?_
     refine .p (vi 0) ?_
     refine .p (vi 170) ?_
     refine .done ⟨[(7,(vi 170)),(6,(vi 0))],[(0,.bx (pcv g t (.ow 1 (st.map vi)) (oc 3 tb ts) (.ow 2 (tr.map Move.av)) (vi ct))),(5,.bx (.agg [(vi dp),(vi dt),(.fz dl dz ks)])),(8,.bx (Move.av r20))],[],false⟩ ?_
     refine Wq.ret ?_
     exact Aq.mk rfl (by rw[show oneS ndR g t k (.agg [vi dp,vi dt,.fz dl dz ks]) ⟨st,ts,tb,tr,ct⟩=(0,170,⟨st,ts,tb,tr,ct⟩)from by simp only[oneS,em];rw[if_neg (by rw[hc];exact Bool.false_ne_true),if_neg h0,if_pos h3,if_neg (by omega)]];(first|rfl|exact congrArg (fun x=>((AV.tup [_,_],[AV.bx x]):AV×List AV)) (rf_tr htr).symm|exact congrArg (fun x=>((AV.tup [_,_],[AV.bx x]):AV×List AV)) rf_snoc.symm))
    ·have hx:(x62=2):=by simpa using hx
     refine Wq.skip ?_
     apply Wq.seq
     refine Wq.jn (fun s=>s=⟨[],[(0,.bx (pcv g t (.ow 1 (st.map vi)) (oc 3 tb ts) (.ow 2 ((tr++[r20]).map Move.av)) (vi ct))),(5,.bx (.agg [(vi dp),(vi dt),(.fz dl dz ks)])),(8,.bx (Move.av r20))],[],false⟩) ?_ ?_
     ·refine Wq.rg [] ?_
      iterate 2 (refine .p (.ptr ⟨0,[]⟩ 0 0) ?_)
      refine .r (.ptr ⟨0,[]⟩ 0 0) ?_
      refine .r (.ptr ⟨0,[]⟩ 0 9) ?_
      refine .r (.rf _ _ _ _) ?_
      refine .r (Move.av r20) ?_
      refine .e (.rf _ _ _ _) [(0,.bx (pcv g t (.ow 1 (st.map vi)) (oc 3 tb ts) (.ow 2 (tr.map Move.av)) (vi ct))),(5,.bx (.agg [(vi dp),(vi dt),(.fz dl dz ks)])),(8,.bx (Move.av r20)),(70,.ow 2 [(Move.av r20)])] ?_
      refine .eo (fun _=>op_appr rfl rfl rfl rfl rfl rfl rfl rfl rfl rfl (new:=[_]) rfl (List.cons_ne_nil _ _) rfl rfl (by simp) (by show(_+1)*16≤70368744177664;simp;omega) (by show _+1≤70368744177664;simp;omega) rfl) [(0,.bx (pcv g t (.ow 1 (st.map vi)) (oc 3 tb ts) _ (vi ct))),(5,.bx (.agg [(vi dp),(vi dt),(.fz dl dz ks)])),(8,.bx (Move.av r20)),(70,.ow 2 [(Move.av r20)]),(71,.ow 2 _)] ?_
      refine .r (.ptr ⟨0,[]⟩ 0 0) ?_
      refine .r (.ptr ⟨0,[]⟩ 0 9) ?_
      refine .s [(0,.bx (pcv g t (.ow 1 (st.map vi)) (oc 3 tb ts) (.lk 71 _) (vi ct))),(5,.bx (.agg [(vi dp),(vi dt),(.fz dl dz ks)])),(8,.bx (Move.av r20)),(70,.ow 2 [(Move.av r20)]),(71,.ow 2 _)] ?_
      refine .fin (fin_of (h1:=[(0,.bx (pcv g t (.ow 1 (st.map vi)) (oc 3 tb ts) (.ow 2 _) (vi ct))),(5,.bx (.agg [(vi dp),(vi dt),(.fz dl dz ks)])),(8,.bx (Move.av r20)),(70,.ow 2 [(Move.av r20)])]) (resolve_skip rfl (resolve_lk rfl rfl rfl (by simp) (rfl))) (by simp[noLkH,noLk,noLkL_all,take_map_self,take_map_snoc,noLk_pcv,nst,nts,ntr,Move.av]) rfl) ?_
      show(⟨[],[(0,.bx (pcv g t (.ow 1 (st.map vi)) (oc 3 tb ts) (.ow 2 _) (vi ct))),(5,.bx (.agg [(vi dp),(vi dt),(.fz dl dz ks)])),(8,.bx (Move.av r20))],[],false⟩:St)=_
      simp[take_map_self,take_map_snoc]
     rintro s rfl
     apply Wq.seq
     refine Wq.rg [7,6] ?_
     refine .p (vi 2) ?_
     refine .p (vi 0) ?_
     refine .done ⟨[(7,(vi 0)),(6,(vi 2))],[(0,.bx (pcv g t (.ow 1 (st.map vi)) (oc 3 tb ts) (.ow 2 ((tr++[r20]).map Move.av)) (vi ct))),(5,.bx (.agg [(vi dp),(vi dt),(.fz dl dz ks)])),(8,.bx (Move.av r20))],[],false⟩ ?_
     refine Wq.ret ?_
     exact Aq.mk rfl (by rw[show oneS ndR g t k (.agg [vi dp,vi dt,.fz dl dz ks]) ⟨st,ts,tb,tr,ct⟩=(2,0,{(⟨st,ts,tb,tr,ct⟩:PS)with tr:=tr++[r20]})from by simp only[oneS,em];rw[if_neg (by rw[hc];exact Bool.false_ne_true),if_neg h0,if_pos h3,if_pos (by omega)]];(first|rfl|exact congrArg (fun x=>((AV.tup [_,_],[AV.bx x]):AV×List AV)) (rf_tr htr).symm|exact congrArg (fun x=>((AV.tup [_,_],[AV.bx x]):AV×List AV)) rf_snoc.symm))
   ·have h3:¬(r20.act=3):=by simpa using hx
    apply Wq.seq
    refine Wq.rg [74,8,5,0] ?_
    iterate 2 (refine .p (.bool (r20.act==2)) ?_)
    refine .done ⟨[(74,(.bool (r20.act==2))),(8,(.ptr ⟨8,[]⟩ 0 0)),(5,(.ptr ⟨5,[]⟩ 0 0)),(0,(.ptr ⟨0,[]⟩ 0 0))],[(0,.bx (pcv g t (.ow 1 (st.map vi)) (oc 3 tb ts) (.ow 2 (tr.map Move.av)) (vi ct))),(5,.bx (.agg [(vi dp),(vi dt),(.fz dl dz ks)])),(8,.bx (Move.av r20))],[],false⟩ ?_
    refine Wq.jn (fun s=>∃(q:PS),(q.ts.all isTree=true∧oneS ndR g t k (.agg [vi dp,vi dt,.fz dl dz ks]) ⟨st,ts,tb,tr,ct⟩=(if r20.act=1 then 1 else 0,0,⟨q.st,q.ts,q.tb,tr++[r20],ct+1⟩))∧s=⟨[(8,(.ptr ⟨8,[]⟩ 0 0)),(0,(.ptr ⟨0,[]⟩ 0 0))],[(0,.bx (pcv g t (.ow 1 (q.st.map vi)) (oc 3 q.tb q.ts) (.ow 2 (tr.map Move.av)) (vi ct))),(5,.bx (.agg [(vi dp),(vi dt),(.fz dl dz ks)])),(8,.bx (Move.av r20))],[],false⟩) ?_ ?_
    ·refine Wq.cond rfl (fun hx=>?_) (fun hx=>?_)
     ·have h9:(r20.act=2):=by simpa using hx
      apply Wq.seq
      refine Wq.rg [9,8,0] ?_
      refine .p (.ptr ⟨0,[]⟩ 0 0) ?_
      refine .r (.ptr ⟨8,[]⟩ 0 1) ?_
      refine .r (vi r20.n) ?_
      obtain⟨x79,q,hr,htq,hans⟩:∃x q,(redS ndR g t r20.n ⟨st,ts,tb,tr,ct⟩=none∧x=170∧q=⟨st,ts,tb,tr,ct⟩∨redS ndR g t r20.n ⟨st,ts,tb,tr,ct⟩=some q∧x=0∧q.tr=tr∧q.n=ct)∧q.ts.all isTree=true∧Ans cx O 77 [.bx (pcv g t (.ow 1 (st.map vi)) (oc 3 tb ts) (.ow 2 (tr.map Move.av)) (vi ct)),vi r20.n] (vi x,[.bx (pcv g t (.ow 1 (q.st.map vi)) (oc 3 q.tb q.ts) (.ow 2 (tr.map Move.av)) (vi ct))]):=by
       have hra:=red_ok hO7 hO8 hok (p:=⟨st,ts,tb,tr,ct⟩) ⟨h1,h2,h3',h4,h5,h6,h7⟩ (n:=r20.n) (by omega) (by omega)
       cases hq:redS ndR g t r20.n ⟨st,ts,tb,tr,ct⟩with
       |none=>rw[hq]at hra;exact⟨170,⟨st,ts,tb,tr,ct⟩,.inl ⟨rfl,rfl,rfl⟩,h4,by rw[rf_tr htr]at hra;exact hra⟩
       |some q=>rw[hq]at hra;have hkq:=redS_keeps hq;obtain⟨qst,qts,qtb,qtr,qn⟩:=q;obtain rfl:qtr=tr:=hkq.1;obtain rfl:qn=ct:=hkq.2;refine⟨0,_,.inr ⟨rfl,rfl,rfl,rfl⟩,redS_trees ndR_tree h4 hq,?_⟩;simp only[rf_tr htr]at hra;exact hra
      refine .cl F77 rfl rfl hans (expArgs_cons rfl (expArgs_cons rfl rfl rfl) rfl) rfl (show noLkL [.bx (pcv g t (.ow 1 (st.map vi)) (oc 3 tb ts) (.ow 2 (tr.map Move.av)) (vi ct)),vi r20.n]=true by simp only[noLkL,noLk,noLk_pcv,noLkL_all,nst,nts,ntr,Bool.and_self]) (zip_ok rfl (by rw[pcv_na,nonAgg_oc];rfl)) (vi x79) [(0,.bx (pcv g t (.ow 1 (q.st.map vi)) (oc 3 q.tb q.ts) (.ow 2 (tr.map Move.av)) (vi ct))),(5,.bx (.agg [(vi dp),(vi dt),(.fz dl dz ks)])),(8,.bx (Move.av r20))] ?_
      refine .p (vi x79) ?_
      refine .fin (S':=⟨[(9,(vi x79)),(8,(.ptr ⟨8,[]⟩ 0 0)),(0,(.ptr ⟨0,[]⟩ 0 0))],[(0,.bx (pcv g t (.ow 1 (q.st.map vi)) (oc 3 q.tb q.ts) (.ow 2 (tr.map Move.av)) (vi ct))),(5,.bx (.agg [(vi dp),(vi dt),(.fz dl dz ks)])),(8,.bx (Move.av r20))],[],false⟩) (fin_nl (nl_call rfl rfl (pcv_nl (by rw[noLk,noLkL_all];exact noLk_ints) (noLk_oc (noLk_tree htq)) (by rw[noLk,noLkL_all];exact ntr) rfl) rfl) (by kernel_rfl)) ?_
      apply Wq.seq
      refine Wq.rg [81,9,8,0] ?_
      refine .p (vi x79) ?_
      refine .p (.bool (!(x79==0))) ?_
      refine .done ⟨[(81,(.bool (!(x79==0)))),(9,(vi x79)),(8,(.ptr ⟨8,[]⟩ 0 0)),(0,(.ptr ⟨0,[]⟩ 0 0))],[(0,.bx (pcv g t (.ow 1 (q.st.map vi)) (oc 3 q.tb q.ts) (.ow 2 (tr.map Move.av)) (vi ct))),(5,.bx (.agg [(vi dp),(vi dt),(.fz dl dz ks)])),(8,.bx (Move.av r20))],[],false⟩ ?_
      refine Wq.cond rfl (fun hx=>?_) (fun hx=>?_)
      ·have hx:¬(x79=0):=by simpa using hx
       apply Wq.seq
       refine Wq.rg [7,6] ?_
       refine .p (vi x79) ?_
       refine .p (vi 0) ?_
       refine .p (vi x79) ?_
       refine .done ⟨[(7,(vi x79)),(6,(vi 0))],[(0,.bx (pcv g t (.ow 1 (q.st.map vi)) (oc 3 q.tb q.ts) (.ow 2 (tr.map Move.av)) (vi ct))),(5,.bx (.agg [(vi dp),(vi dt),(.fz dl dz ks)])),(8,.bx (Move.av r20))],[],false⟩ ?_
       refine Wq.ret ?_
       exact Aq.mk rfl (by
        rcases hr with⟨hr,ex,eq⟩|⟨hr,ex,eq⟩
        ·rw[show oneS ndR g t k (.agg [vi dp,vi dt,.fz dl dz ks]) ⟨st,ts,tb,tr,ct⟩=(0,170,⟨st,ts,tb,tr,ct⟩)from by simp only[oneS,em];rw[if_neg (by rw[hc];exact Bool.false_ne_true),if_neg h0,if_neg h3,if_pos h9,hr]]
         rw[ex,eq];(first|rfl|exact congrArg (fun x=>((AV.tup [_,_],[AV.bx x]):AV×List AV)) (rf_tr htr).symm|exact congrArg (fun x=>((AV.tup [_,_],[AV.bx x]):AV×List AV)) rf_snoc.symm)
        ·exact absurd ex hx)
      ·have hx:(x79=0):=by simpa using hx
       refine Wq.skipW [8,0] rfl ?_
       rcases hr with⟨_,ex,_⟩|⟨hr,_,hq1,hq2⟩
       ·exact absurd (hx.symm.trans ex) (by decide)
       ·refine Jq.mk ⟨q,⟨htq,?_⟩,rfl⟩
        simp only[oneS,em];rw[if_neg (by rw[hc];exact Bool.false_ne_true),if_neg h0,if_neg h3,if_pos h9,hr];simp only[hq1,hq2,h9];rfl
     ·have h9:¬(r20.act=2):=by simpa using hx
      refine Wq.rg [8,0] ?_
      refine .p (.ptr ⟨0,[]⟩ 0 0) ?_
      refine .r (.ptr ⟨8,[]⟩ 0 1) ?_
      refine .r (vi r20.n) ?_
      refine .r (.agg [(vi dp),(vi dt),(.fz dl dz ks)]) ?_
      have hans:Ans cx O 78 [.bx (pcv g t (.ow 1 (st.map vi)) (oc 3 tb ts) (.ow 2 (tr.map Move.av)) (vi ct)),vi r20.n,.agg [vi dp,vi dt,.fz dl dz ks]] (.tup [],[.bx (pcv g t (.ow 1 ((st++[r20.n]).map vi)) (.ow 3 (ts++[.agg [vi dp,vi dt,.fz dl dz ks]])) (.ow 2 (tr.map Move.av)) (vi ct))]):=by have:=push_ok hO8 (g:=g) (t:=t) (p:=⟨st,ts,tb,tr,ct⟩) (s:=r20.n) (d:=.agg [vi dp,vi dt,.fz dl dz ks]) hd (by simp only;omega) (by simp only;omega) h4 h3';simp only[PS.push,rf_tr htr]at this;exact this
      refine .cl F78 rfl rfl hans (expArgs_cons rfl (expArgs_cons rfl (expArgs_cons rfl rfl rfl) rfl) rfl) rfl (show noLkL [.bx (pcv g t (.ow 1 (st.map vi)) (oc 3 tb ts) (.ow 2 (tr.map Move.av)) (vi ct)),vi r20.n,.agg [vi dp,vi dt,.fz dl dz ks]]=true by simp only[noLkL,noLk,noLk_pcv,noLkL_all,nst,nts,ntr,Bool.and_self]) (zip_ok rfl (by rw[pcv_na];rfl)) (.tup []) [(0,.bx (pcv g t (.ow 1 ((st++[r20.n]).map vi)) (.ow 3 (ts++[.agg [vi dp,vi dt,.fz dl dz ks]])) (.ow 2 (tr.map Move.av)) (vi ct))),(5,.bx (.agg [(vi dp),(vi dt),(.fz dl dz ks)])),(8,.bx (Move.av r20))] ?_
      refine .fin (S':=⟨[(8,(.ptr ⟨8,[]⟩ 0 0)),(0,(.ptr ⟨0,[]⟩ 0 0))],[(0,.bx (pcv g t (.ow 1 ((st++[r20.n]).map vi)) (.ow 3 (ts++[.agg [vi dp,vi dt,.fz dl dz ks]])) (.ow 2 (tr.map Move.av)) (vi ct))),(5,.bx (.agg [(vi dp),(vi dt),(.fz dl dz ks)])),(8,.bx (Move.av r20))],[],false⟩) (fin_nl (nl_call rfl rfl (pcv_nl (by rw[noLk,noLkL_all];exact noLk_ints) (by rw[noLk,noLkL_all,List.all_append,noLk_tree h4];rfl) (by rw[noLk,noLkL_all];exact ntr) rfl) rfl) (by kernel_rfl)) ?_
      refine Jq.mk ⟨PS.push ⟨st,ts,tb,tr,ct⟩ r20.n (.agg [vi dp,vi dt,.fz dl dz ks]),⟨by simp[PS.push,h4,hd],?_⟩,rfl⟩
      simp only[oneS,em];rw[if_neg (by rw[hc];exact Bool.false_ne_true),if_neg h0,if_neg h3,if_neg h9]
    rintro s ⟨q,⟨htq,hg⟩,rfl⟩
    have nqs:(q.st.map vi).all noLk=true:=noLk_ints
    have nqt:noLk (oc 3 q.tb q.ts)=true:=noLk_oc (noLk_tree htq)
    apply Wq.seq
    refine Wq.jn (fun s=>s=⟨[(8,(.ptr ⟨8,[]⟩ 0 0)),(0,(.ptr ⟨0,[]⟩ 0 0))],[(0,.bx (pcv g t (.ow 1 (q.st.map vi)) (oc 3 q.tb q.ts) (.ow 2 ((tr++[r20]).map Move.av)) (vi ct))),(5,.bx (.agg [(vi dp),(vi dt),(.fz dl dz ks)])),(8,.bx (Move.av r20))],[],false⟩) ?_ ?_
    ·refine Wq.rg [8,0] ?_
     iterate 2 (refine .p (.ptr ⟨0,[]⟩ 0 0) ?_)
     refine .r (.ptr ⟨0,[]⟩ 0 0) ?_
     refine .r (.ptr ⟨0,[]⟩ 0 9) ?_
     refine .r (.rf _ _ _ _) ?_
     refine .r (Move.av r20) ?_
     refine .e (.rf _ _ _ _) [(0,.bx (pcv g t (.ow 1 (q.st.map vi)) (oc 3 q.tb q.ts) (.ow 2 (tr.map Move.av)) (vi ct))),(5,.bx (.agg [(vi dp),(vi dt),(.fz dl dz ks)])),(8,.bx (Move.av r20)),(89,.ow 2 [(Move.av r20)])] ?_
     refine .eo (fun _=>op_appr rfl rfl rfl rfl rfl rfl rfl rfl rfl rfl (new:=[_]) rfl (List.cons_ne_nil _ _) rfl rfl (by simp) (by show(_+1)*16≤70368744177664;simp;omega) (by show _+1≤70368744177664;simp;omega) rfl) [(0,.bx (pcv g t (.ow 1 (q.st.map vi)) (oc 3 q.tb q.ts) _ (vi ct))),(5,.bx (.agg [(vi dp),(vi dt),(.fz dl dz ks)])),(8,.bx (Move.av r20)),(89,.ow 2 [(Move.av r20)]),(90,.ow 2 _)] ?_
     refine .r (.ptr ⟨0,[]⟩ 0 0) ?_
     refine .r (.ptr ⟨0,[]⟩ 0 9) ?_
     refine .s [(0,.bx (pcv g t (.ow 1 (q.st.map vi)) (oc 3 q.tb q.ts) (.lk 90 _) (vi ct))),(5,.bx (.agg [(vi dp),(vi dt),(.fz dl dz ks)])),(8,.bx (Move.av r20)),(89,.ow 2 [(Move.av r20)]),(90,.ow 2 _)] ?_
     refine .fin (fin_of (h1:=[(0,.bx (pcv g t (.ow 1 (q.st.map vi)) (oc 3 q.tb q.ts) (.ow 2 _) (vi ct))),(5,.bx (.agg [(vi dp),(vi dt),(.fz dl dz ks)])),(8,.bx (Move.av r20)),(89,.ow 2 [(Move.av r20)])]) (resolve_skip rfl (resolve_lk rfl rfl rfl (by simp) (rfl))) (by simp[noLkH,noLk,noLkL_all,take_map_self,take_map_snoc,noLk_pcv,nqs,nqt,ntr,Move.av]) rfl) ?_
     show(⟨[(8,(.ptr ⟨8,[]⟩ 0 0)),(0,(.ptr ⟨0,[]⟩ 0 0))],[(0,.bx (pcv g t (.ow 1 (q.st.map vi)) (oc 3 q.tb q.ts) (.ow 2 _) (vi ct))),(5,.bx (.agg [(vi dp),(vi dt),(.fz dl dz ks)])),(8,.bx (Move.av r20))],[],false⟩:St)=_
     simp[take_map_self,take_map_snoc]
    rintro s rfl
    apply Wq.seq
    refine Wq.rg [8] ?_
    refine .p (.ptr ⟨0,[]⟩ 0 0) ?_
    refine .r (.ptr ⟨0,[]⟩ 0 0) ?_
    refine .r (.ptr ⟨0,[]⟩ 0 10) ?_
    refine .r (vi ct) ?_
    obtain⟨x97,e97⟩:∃x:Int,x=(ct+1):=⟨_,rfl⟩
    refine .pv _ (vi x97) (wrE e97 (by omega) (by omega)) ?_
    refine .r (.ptr ⟨0,[]⟩ 0 0) ?_
    refine .r (.ptr ⟨0,[]⟩ 0 10) ?_
    refine .s [(0,.bx (pcv g t (.ow 1 (q.st.map vi)) (oc 3 q.tb q.ts) (.ow 2 _) (vi x97))),(5,.bx (.agg [(vi dp),(vi dt),(.fz dl dz ks)])),(8,.bx (Move.av r20))] ?_
    refine .done ⟨[(8,(.ptr ⟨8,[]⟩ 0 0))],[(0,.bx (pcv g t (.ow 1 (q.st.map vi)) (oc 3 q.tb q.ts) (.ow 2 ((tr++[r20]).map Move.av)) (vi x97))),(5,.bx (.agg [(vi dp),(vi dt),(.fz dl dz ks)])),(8,.bx (Move.av r20))],[],false⟩ ?_
    apply Wq.seq
    apply Wq.seq
    refine Wq.rg [102] ?_
    refine .r (.ptr ⟨8,[]⟩ 0 0) ?_
    refine .r (vi r20.act) ?_
    refine .p (.bool (r20.act==1)) ?_
    refine .done ⟨[(102,(.bool (r20.act==1)))],[(0,.bx (pcv g t (.ow 1 (q.st.map vi)) (oc 3 q.tb q.ts) (.ow 2 ((tr++[r20]).map Move.av)) (vi x97))),(5,.bx (.agg [(vi dp),(vi dt),(.fz dl dz ks)])),(8,.bx (Move.av r20))],[],false⟩ ?_
    refine Wq.cond rfl (fun hx=>?_) (fun hx=>?_)
    ·have ha:(r20.act=1):=by simpa using hx
     apply Wq.seq
     refine Wq.rg [7,6] ?_
     refine .p (vi 1) ?_
     refine .p (vi 0) ?_
     refine .done ⟨[(7,(vi 0)),(6,(vi 1))],[(0,.bx (pcv g t (.ow 1 (q.st.map vi)) (oc 3 q.tb q.ts) (.ow 2 ((tr++[r20]).map Move.av)) (vi x97))),(5,.bx (.agg [(vi dp),(vi dt),(.fz dl dz ks)])),(8,.bx (Move.av r20))],[],false⟩ ?_
     refine Wq.ret ?_
     exact Aq.mk rfl (by rw[hg,if_pos ha,e97];(first|rfl|exact congrArg (fun x=>((AV.tup [_,_],[AV.bx x]):AV×List AV)) (rf_tr htr).symm|exact congrArg (fun x=>((AV.tup [_,_],[AV.bx x]):AV×List AV)) rf_snoc.symm))
    ·have ha:¬(r20.act=1):=by simpa using hx
     refine Wq.skip ?_
     apply Wq.seq
     refine Wq.rg [7,6] ?_
     iterate 2 (refine .p (vi 0) ?_)
     refine .done ⟨[(7,(vi 0)),(6,(vi 0))],[(0,.bx (pcv g t (.ow 1 (q.st.map vi)) (oc 3 q.tb q.ts) (.ow 2 ((tr++[r20]).map Move.av)) (vi x97))),(5,.bx (.agg [(vi dp),(vi dt),(.fz dl dz ks)])),(8,.bx (Move.av r20))],[],false⟩ ?_
     refine Wq.ret ?_
     exact Aq.mk rfl (by rw[hg,if_neg ha,e97];(first|rfl|exact congrArg (fun x=>((AV.tup [_,_],[AV.bx x]):AV×List AV)) (rf_tr htr).symm|exact congrArg (fun x=>((AV.tup [_,_],[AV.bx x]):AV×List AV)) rf_snoc.symm))
theorem w59B (hO:∀e∈O,e.f≠59) (hO7:∀e∈O,e.f≠77) (hO8:∀e∈O,e.f≠78) (hO6:∀e∈O,e.f≠76) {g:Plain} {t:Table} (hok:Ok g t) {st:List Int} {ts ks:List AV} {tb:Bool} {k dp dt:Int} {dl dz:Nat} {ct:Int} (hk0:0≤k) (hk:k<g.kinds.l.length) (hd:isTree (.agg [vi dp,vi dt,.fz dl dz ks])=true) (hp:PS.Fine t ⟨st,ts,tb,[],ct⟩):Ans cx O 59 [.bx ((PS.mk st ts tb [] ct).rf g t),vi k,(.agg [vi dp,vi dt,.fz dl dz ks])] (match oneS ndR g t k (.agg [vi dp,vi dt,.fz dl dz ks]) ⟨st,ts,tb,[],ct⟩with|(d,e,q)=>(.tup [vi d,vi e],[.bx (q.rf g t)])):=by
 obtain⟨h1,h2,h3',h4,h5,h6,h7⟩:=hp
 simp only at h1 h2 h3' h4 h5 h6 h7
 have lmst:(st.map vi).length=st.length:=List.length_map _
 have nst:(st.map vi).all noLk=true:=noLk_ints
 have nts:noLk (oc 3 tb ts)=true:=noLk_oc (noLk_tree h4)
 refine ans_q [2,1,0] (fn:=fn59) F59 (orc_none hO) ?_
 show Wq cx O 5070604837663318214290419221479 1 [] _ ⟨[(2,(.agg [(vi dp),(vi dt),(.fz dl dz ks)])),(1,(vi k)),(0,(.ptr ⟨0,[]⟩ 0 0))],[(0,.bx (pcv g t (.ow 1 (st.map vi)) (oc 3 tb ts) (.fz 1 0 []) (vi ct)))],[],false⟩ _
 apply Wq.seq
 refine Wq.rg [7,6,5,1,0] ?_
 refine .e (.ptr ⟨5,[]⟩ 0 0) [(0,.bx (pcv g t (.ow 1 (st.map vi)) (oc 3 tb ts) (.fz 1 0 []) (vi ct))),(5,.bx (.agg [(vi dp),(vi dt),(.fz dl dz ks)]))] ?_
 iterate 2 (refine .p (vi 0) ?_)
 refine .done ⟨[(7,(vi 0)),(6,(vi 0)),(5,(.ptr ⟨5,[]⟩ 0 0)),(1,(vi k)),(0,(.ptr ⟨0,[]⟩ 0 0))],[(0,.bx (pcv g t (.ow 1 (st.map vi)) (oc 3 tb ts) (.fz 1 0 []) (vi ct))),(5,.bx (.agg [(vi dp),(vi dt),(.fz dl dz ks)]))],[],false⟩ ?_
 apply Wq.seq
 refine Wq.rg [8,5,0] ?_
 refine .p (.ptr ⟨0,[]⟩ 0 0) ?_
 refine .r (.ptr ⟨0,[]⟩ 0 0) ?_
 iterate 2 (refine .r (.ptr ⟨0,[]⟩ 0 5) ?_)
 refine .r (Sl.av (Sl.av Move.av) t.moves) ?_
 refine .p (.ptr ⟨0,[]⟩ 0 0) ?_
 obtain⟨x16,e16⟩:∃x:Int,x=st.getD (st.length - 1) 0:=⟨_,rfl⟩
 have hst0:st≠[]:=fun h=>by rw[h]at h1;simp at h1
 have b16:=h2 x16 (by have:st.length - 1<st.length:=(by omega);rw[e16,List.getD,List.getElem?_eq_getElem this];exact List.getElem_mem this)
 refine .cl F76 rfl rfl (e16▸last_ok hO6 hst0 (by omega)) (expArgs_cons rfl rfl rfl) rfl rfl rfl (vi x16) [(0,.bx (pcv g t (.ow 1 (st.map vi)) (oc 3 tb ts) (.fz 1 0 []) (vi ct))),(5,.bx (.agg [(vi dp),(vi dt),(.fz dl dz ks)]))] ?_
 obtain⟨r17,e17⟩:∃x:_,x=(t.moves.l.getD x16.toNat default):=⟨_,rfl⟩
 have m17:=getD_mem e17 (by omega) (by omega)
 have q17:=hok.row r17 m17
 refine .po (fun _=>op_ix e17 (by omega) (by omega) hok.moves) (.fp _ ((Sl.av Move.av) r17) 0) rfl ?_
 refine .p (Sl.av Move.av r17) ?_
 refine .p (vi k) ?_
 obtain⟨r20,e20⟩:∃x:_,x=(r17.l.getD k.toNat default):=⟨_,rfl⟩
 have m20:=getD_mem e20 (by omega) (by omega)
 have q20:=hok.move r17 m17 r20 m20
 have em:lkM t (PS.last ⟨st,ts,tb,[],ct⟩) k=r20:=by rw[e20,e17,e16];rfl
 refine .po (fun _=>op_ix e20 (by omega) (by omega) q17.1) (.fp _ (Move.av r20) 0) rfl ?_
 refine .p (Move.av r20) ?_
 refine .e (.ptr ⟨8,[]⟩ 0 0) [(0,.bx (pcv g t (.ow 1 (st.map vi)) (oc 3 tb ts) (.fz 1 0 []) (vi ct))),(5,.bx (.agg [(vi dp),(vi dt),(.fz dl dz ks)])),(8,.bx (.agg [(vi 0),(vi 0)]))] ?_
 refine .s [(0,.bx (pcv g t (.ow 1 (st.map vi)) (oc 3 tb ts) (.fz 1 0 []) (vi ct))),(5,.bx (.agg [(vi dp),(vi dt),(.fz dl dz ks)])),(8,.bx (Move.av r20))] ?_
 refine .done ⟨[(8,(.ptr ⟨8,[]⟩ 0 0)),(5,(.ptr ⟨5,[]⟩ 0 0)),(0,(.ptr ⟨0,[]⟩ 0 0))],[(0,.bx (pcv g t (.ow 1 (st.map vi)) (oc 3 tb ts) (.fz 1 0 []) (vi ct))),(5,.bx (.agg [(vi dp),(vi dt),(.fz dl dz ks)])),(8,.bx (Move.av r20))],[],false⟩ ?_
 apply Wq.seq
 apply Wq.seq
 refine Wq.jn (fun s=>s=⟨[(36,(.bool (((r20.act==1)||(r20.act==2))&&(decide (ct≥65536))))),(8,(.ptr ⟨8,[]⟩ 0 0)),(5,(.ptr ⟨5,[]⟩ 0 0)),(0,(.ptr ⟨0,[]⟩ 0 0))],[(0,.bx (pcv g t (.ow 1 (st.map vi)) (oc 3 tb ts) (.fz 1 0 []) (vi ct))),(5,.bx (.agg [(vi dp),(vi dt),(.fz dl dz ks)])),(8,.bx (Move.av r20))],[],false⟩) ?_ ?_
 ·refine Wq.rg [36,8,5,0] ?_
  refine .r (.ptr ⟨8,[]⟩ 0 0) ?_
  refine .r (vi r20.act) ?_
  iterate 2 (refine .p (.bool (r20.act==1)) ?_)
  refine Rq.split (dg:=25) rfl (fun h3=>?_) (fun h3=>?_) rfl
  ·iterate 3 (refine .sk ?_)
   iterate 2 (refine .p (.bool true) ?_)
   refine Rq.split (dg:=30) rfl (fun h8=>?_) (fun h8=>?_) rfl
   ·refine .p (.ptr ⟨0,[]⟩ 0 0) ?_
    refine .r (.ptr ⟨0,[]⟩ 0 0) ?_
    refine .r (.ptr ⟨0,[]⟩ 0 10) ?_
    refine .r (vi ct) ?_
    refine .p (.bool (decide (ct≥65536))) ?_
    refine .p (.bool (decide (ct≥65536))) ?_
    refine .done ⟨[(36,(.bool _)),(8,(.ptr ⟨8,[]⟩ 0 0)),(5,(.ptr ⟨5,[]⟩ 0 0)),(0,(.ptr ⟨0,[]⟩ 0 0))],[(0,.bx (pcv g t (.ow 1 (st.map vi)) (oc 3 tb ts) (.fz 1 0 []) (vi ct))),(5,.bx (.agg [(vi dp),(vi dt),(.fz dl dz ks)])),(8,.bx (Move.av r20))],[],false⟩ ?_
    show(⟨[(36,(.bool _)),(8,(.ptr ⟨8,[]⟩ 0 0)),(5,(.ptr ⟨5,[]⟩ 0 0)),(0,(.ptr ⟨0,[]⟩ 0 0))],[(0,.bx (pcv g t (.ow 1 (st.map vi)) (oc 3 tb ts) (.fz 1 0 []) (vi ct))),(5,.bx (.agg [(vi dp),(vi dt),(.fz dl dz ks)])),(8,.bx (Move.av r20))],[],false⟩:St)=_
    first|(cases h8;done)|(cases h3;done)|simp[h3]
   ·iterate 5 (refine .sk ?_)
    refine .p (.bool false) ?_
    refine .done ⟨[(36,(.bool _)),(8,(.ptr ⟨8,[]⟩ 0 0)),(5,(.ptr ⟨5,[]⟩ 0 0)),(0,(.ptr ⟨0,[]⟩ 0 0))],[(0,.bx (pcv g t (.ow 1 (st.map vi)) (oc 3 tb ts) (.fz 1 0 []) (vi ct))),(5,.bx (.agg [(vi dp),(vi dt),(.fz dl dz ks)])),(8,.bx (Move.av r20))],[],false⟩ ?_
    show(⟨[(36,(.bool _)),(8,(.ptr ⟨8,[]⟩ 0 0)),(5,(.ptr ⟨5,[]⟩ 0 0)),(0,(.ptr ⟨0,[]⟩ 0 0))],[(0,.bx (pcv g t (.ow 1 (st.map vi)) (oc 3 tb ts) (.fz 1 0 []) (vi ct))),(5,.bx (.agg [(vi dp),(vi dt),(.fz dl dz ks)])),(8,.bx (Move.av r20))],[],false⟩:St)=_
    first|(cases h8;done)|(cases h3;done)|simp[take_snoc,take_cut,take_map_self,take_map_snoc,List.map_take,h3,h8]
  ·refine .r (.ptr ⟨8,[]⟩ 0 0) ?_
   refine .r (vi r20.act) ?_
   refine .p (.bool (r20.act==2)) ?_
   iterate 2 (refine .p (.bool (r20.act==2)) ?_)
   refine Rq.split (dg:=30) rfl (fun h8=>?_) (fun h8=>?_) rfl
   ·refine .p (.ptr ⟨0,[]⟩ 0 0) ?_
    refine .r (.ptr ⟨0,[]⟩ 0 0) ?_
    refine .r (.ptr ⟨0,[]⟩ 0 10) ?_
    refine .r (vi ct) ?_
    refine .p (.bool (decide (ct≥65536))) ?_
    refine .p (.bool (decide (ct≥65536))) ?_
    refine .done ⟨[(36,(.bool _)),(8,(.ptr ⟨8,[]⟩ 0 0)),(5,(.ptr ⟨5,[]⟩ 0 0)),(0,(.ptr ⟨0,[]⟩ 0 0))],[(0,.bx (pcv g t (.ow 1 (st.map vi)) (oc 3 tb ts) (.fz 1 0 []) (vi ct))),(5,.bx (.agg [(vi dp),(vi dt),(.fz dl dz ks)])),(8,.bx (Move.av r20))],[],false⟩ ?_
    show(⟨[(36,(.bool _)),(8,(.ptr ⟨8,[]⟩ 0 0)),(5,(.ptr ⟨5,[]⟩ 0 0)),(0,(.ptr ⟨0,[]⟩ 0 0))],[(0,.bx (pcv g t (.ow 1 (st.map vi)) (oc 3 tb ts) (.fz 1 0 []) (vi ct))),(5,.bx (.agg [(vi dp),(vi dt),(.fz dl dz ks)])),(8,.bx (Move.av r20))],[],false⟩:St)=_
    first|(cases h8;done)|(cases h3;done)|simp[h3,h8]
   ·iterate 5 (refine .sk ?_)
    refine .p (.bool false) ?_
    refine .done ⟨[(36,(.bool _)),(8,(.ptr ⟨8,[]⟩ 0 0)),(5,(.ptr ⟨5,[]⟩ 0 0)),(0,(.ptr ⟨0,[]⟩ 0 0))],[(0,.bx (pcv g t (.ow 1 (st.map vi)) (oc 3 tb ts) (.fz 1 0 []) (vi ct))),(5,.bx (.agg [(vi dp),(vi dt),(.fz dl dz ks)])),(8,.bx (Move.av r20))],[],false⟩ ?_
    show(⟨[(36,(.bool _)),(8,(.ptr ⟨8,[]⟩ 0 0)),(5,(.ptr ⟨5,[]⟩ 0 0)),(0,(.ptr ⟨0,[]⟩ 0 0))],[(0,.bx (pcv g t (.ow 1 (st.map vi)) (oc 3 tb ts) (.fz 1 0 []) (vi ct))),(5,.bx (.agg [(vi dp),(vi dt),(.fz dl dz ks)])),(8,.bx (Move.av r20))],[],false⟩:St)=_
    first|(cases h8;done)|(cases h3;done)|simp[h3,h8]
 rintro s rfl
 refine Wq.cond rfl (fun hx=>?_) (fun hx=>?_)
 ·have hx:=hx
  apply Wq.seq
  refine Wq.rg [7,6] ?_
  refine .p (vi 0) ?_
  refine .p (vi 181) ?_
  refine .done ⟨[(7,(vi 181)),(6,(vi 0))],[(0,.bx (pcv g t (.ow 1 (st.map vi)) (oc 3 tb ts) (.fz 1 0 []) (vi ct))),(5,.bx (.agg [(vi dp),(vi dt),(.fz dl dz ks)])),(8,.bx (Move.av r20))],[],false⟩ ?_
  refine Wq.ret ?_
  exact Aq.mk rfl (by rw[show oneS ndR g t k (.agg [vi dp,vi dt,.fz dl dz ks]) ⟨st,ts,tb,[],ct⟩=(0,181,⟨st,ts,tb,[],ct⟩)from by simp only[oneS,em];rw[if_pos hx]];rfl)
 ·have hc:=hx
  refine Wq.skip ?_
  apply Wq.seq
  apply Wq.seq
  refine Wq.rg [38,8,5,0] ?_
  refine .r (.ptr ⟨8,[]⟩ 0 0) ?_
  refine .r (vi r20.act) ?_
  refine .done ⟨[(38,(vi r20.act)),(8,(.ptr ⟨8,[]⟩ 0 0)),(5,(.ptr ⟨5,[]⟩ 0 0)),(0,(.ptr ⟨0,[]⟩ 0 0))],[(0,.bx (pcv g t (.ow 1 (st.map vi)) (oc 3 tb ts) (.fz 1 0 []) (vi ct))),(5,.bx (.agg [(vi dp),(vi dt),(.fz dl dz ks)])),(8,.bx (Move.av r20))],[],false⟩ ?_
  refine Wq.block ?_
  apply Wq.seq
  refine Wq.rg [44,38,8,5,0] ?_
  iterate 2 (refine .p (.bool (r20.act==0)) ?_)
  refine .done ⟨[(44,(.bool (r20.act==0))),(38,(vi r20.act)),(8,(.ptr ⟨8,[]⟩ 0 0)),(5,(.ptr ⟨5,[]⟩ 0 0)),(0,(.ptr ⟨0,[]⟩ 0 0))],[(0,.bx (pcv g t (.ow 1 (st.map vi)) (oc 3 tb ts) (.fz 1 0 []) (vi ct))),(5,.bx (.agg [(vi dp),(vi dt),(.fz dl dz ks)])),(8,.bx (Move.av r20))],[],false⟩ ?_
  refine Wq.cond rfl (fun hx=>?_) (fun hx=>?_)
  ·have h0:(r20.act=0):=by simpa using hx
   apply Wq.seq
   refine Wq.jn (fun s=>s=⟨[],[(0,.bx (pcv g t (.ow 1 (st.map vi)) (oc 3 tb ts) (.ow 2 [(Move.av r20)]) (vi ct))),(5,.bx (.agg [(vi dp),(vi dt),(.fz dl dz ks)])),(8,.bx (Move.av r20))],[],false⟩) ?_ ?_
   ·refine Wq.rg [] ?_
    iterate 2 (refine .p (.ptr ⟨0,[]⟩ 0 0) ?_)
    refine .r (.ptr ⟨0,[]⟩ 0 0) ?_
    refine .r (.ptr ⟨0,[]⟩ 0 9) ?_
    refine .r (.fz 1 0 []) ?_
    refine .r (Move.av r20) ?_
    refine .e (.rf _ _ _ _) [(0,.bx (pcv g t (.ow 1 (st.map vi)) (oc 3 tb ts) (.fz 1 0 []) (vi ct))),(5,.bx (.agg [(vi dp),(vi dt),(.fz dl dz ks)])),(8,.bx (Move.av r20)),(52,.ow 2 [(Move.av r20)])] ?_
    refine .e (.rf _ _ _ _) [(0,.bx (pcv g t (.ow 1 (st.map vi)) (oc 3 tb ts) (.fz 1 0 []) (vi ct))),(5,.bx (.agg [(vi dp),(vi dt),(.fz dl dz ks)])),(8,.bx (Move.av r20)),(52,.ow 2 [(Move.av r20)]),(53,.ow 2 [(Move.av r20)])] ?_
    refine .r (.ptr ⟨0,[]⟩ 0 0) ?_
    refine .r (.ptr ⟨0,[]⟩ 0 9) ?_
    refine .s [(0,.bx (pcv g t (.ow 1 (st.map vi)) (oc 3 tb ts) (.lk 53 _) (vi ct))),(5,.bx (.agg [(vi dp),(vi dt),(.fz dl dz ks)])),(8,.bx (Move.av r20)),(52,.ow 2 [(Move.av r20)]),(53,.ow 2 [(Move.av r20)])] ?_
    refine .fin (fin_of (h1:=[(0,.bx (pcv g t (.ow 1 (st.map vi)) (oc 3 tb ts) (.ow 2 [(Move.av r20)]) (vi ct))),(5,.bx (.agg [(vi dp),(vi dt),(.fz dl dz ks)])),(8,.bx (Move.av r20)),(52,.ow 2 [(Move.av r20)])]) (resolve_lk rfl rfl rfl (by simp) (rfl)) (by simp[noLkH,noLk,noLkL_all,noLk_pcv,nst,nts,Move.av]) rfl) ?_
    show(⟨[],[(0,.bx (pcv g t (.ow 1 (st.map vi)) (oc 3 tb ts) (.ow 2 [(Move.av r20)]) (vi ct))),(5,.bx (.agg [(vi dp),(vi dt),(.fz dl dz ks)])),(8,.bx (Move.av r20))],[],false⟩:St)=_
    simp
   rintro s rfl
   apply Wq.seq
   refine Wq.rg [7,6] ?_
   refine .p (vi 0) ?_
   refine .p (vi 180) ?_
   refine .done ⟨[(7,(vi 180)),(6,(vi 0))],[(0,.bx (pcv g t (.ow 1 (st.map vi)) (oc 3 tb ts) (.ow 2 [(Move.av r20)]) (vi ct))),(5,.bx (.agg [(vi dp),(vi dt),(.fz dl dz ks)])),(8,.bx (Move.av r20))],[],false⟩ ?_
   refine Wq.ret ?_
   exact Aq.mk rfl (by rw[show oneS ndR g t k (.agg [vi dp,vi dt,.fz dl dz ks]) ⟨st,ts,tb,[],ct⟩=(0,180,{(⟨st,ts,tb,[],ct⟩:PS)with tr:=[]++[r20]})from by simp only[oneS,em];rw[if_neg (by rw[hc];exact Bool.false_ne_true),if_pos h0]];rfl)
  ·have h0:¬(r20.act=0):=by simpa using hx
   apply Wq.seq
   refine Wq.rg [56,38,8,5,0] ?_
   iterate 2 (refine .p (.bool (r20.act==3)) ?_)
   refine .done ⟨[(56,(.bool (r20.act==3))),(38,(vi r20.act)),(8,(.ptr ⟨8,[]⟩ 0 0)),(5,(.ptr ⟨5,[]⟩ 0 0)),(0,(.ptr ⟨0,[]⟩ 0 0))],[(0,.bx (pcv g t (.ow 1 (st.map vi)) (oc 3 tb ts) (.fz 1 0 []) (vi ct))),(5,.bx (.agg [(vi dp),(vi dt),(.fz dl dz ks)])),(8,.bx (Move.av r20))],[],false⟩ ?_
   refine Wq.cond rfl (fun hx=>?_) (fun hx=>?_)
   ·have h3:(r20.act=3):=by simpa using hx
    apply Wq.seq
    apply Wq.seq
    refine Wq.rg [63,8,0] ?_
    refine .p (.ptr ⟨0,[]⟩ 0 0) ?_
    refine .r (.ptr ⟨0,[]⟩ 0 0) ?_
    refine .r (.ptr ⟨0,[]⟩ 0 7) ?_
    refine .r (.rf _ _ _ _) ?_
    obtain⟨x62,e62⟩:∃x:Int,x=(st.length:Int):=⟨_,rfl⟩
    refine .rv _ (vi x62) (ln e62) ?_
    refine .p (.bool (!(x62==2))) ?_
    refine .done ⟨[(63,(.bool (!(x62==2)))),(8,(.ptr ⟨8,[]⟩ 0 0)),(0,(.ptr ⟨0,[]⟩ 0 0))],[(0,.bx (pcv g t (.ow 1 (st.map vi)) (oc 3 tb ts) (.fz 1 0 []) (vi ct))),(5,.bx (.agg [(vi dp),(vi dt),(.fz dl dz ks)])),(8,.bx (Move.av r20))],[],false⟩ ?_
    refine Wq.cond rfl (fun hx=>?_) (fun hx=>?_)
    ·have hx:¬(x62=2):=by simpa using hx
     apply Wq.seq
     refine Wq.rg [7,6] ?_
     refine .p (vi 0) ?_
     refine .p (vi 170) ?_
     refine .done ⟨[(7,(vi 170)),(6,(vi 0))],[(0,.bx (pcv g t (.ow 1 (st.map vi)) (oc 3 tb ts) (.fz 1 0 []) (vi ct))),(5,.bx (.agg [(vi dp),(vi dt),(.fz dl dz ks)])),(8,.bx (Move.av r20))],[],false⟩ ?_
     refine Wq.ret ?_
     exact Aq.mk rfl (by rw[show oneS ndR g t k (.agg [vi dp,vi dt,.fz dl dz ks]) ⟨st,ts,tb,[],ct⟩=(0,170,⟨st,ts,tb,[],ct⟩)from by simp only[oneS,em];rw[if_neg (by rw[hc];exact Bool.false_ne_true),if_neg h0,if_pos h3,if_neg (by omega)]];rfl)
    ·have hx:(x62=2):=by simpa using hx
     refine Wq.skip ?_
     apply Wq.seq
     refine Wq.jn (fun s=>s=⟨[],[(0,.bx (pcv g t (.ow 1 (st.map vi)) (oc 3 tb ts) (.ow 2 [(Move.av r20)]) (vi ct))),(5,.bx (.agg [(vi dp),(vi dt),(.fz dl dz ks)])),(8,.bx (Move.av r20))],[],false⟩) ?_ ?_
     ·refine Wq.rg [] ?_
      iterate 2 (refine .p (.ptr ⟨0,[]⟩ 0 0) ?_)
      refine .r (.ptr ⟨0,[]⟩ 0 0) ?_
      refine .r (.ptr ⟨0,[]⟩ 0 9) ?_
      refine .r (.fz 1 0 []) ?_
      refine .r (Move.av r20) ?_
      refine .e (.rf _ _ _ _) [(0,.bx (pcv g t (.ow 1 (st.map vi)) (oc 3 tb ts) (.fz 1 0 []) (vi ct))),(5,.bx (.agg [(vi dp),(vi dt),(.fz dl dz ks)])),(8,.bx (Move.av r20)),(70,.ow 2 [(Move.av r20)])] ?_
      refine .e (.rf _ _ _ _) [(0,.bx (pcv g t (.ow 1 (st.map vi)) (oc 3 tb ts) (.fz 1 0 []) (vi ct))),(5,.bx (.agg [(vi dp),(vi dt),(.fz dl dz ks)])),(8,.bx (Move.av r20)),(70,.ow 2 [(Move.av r20)]),(71,.ow 2 [(Move.av r20)])] ?_
      refine .r (.ptr ⟨0,[]⟩ 0 0) ?_
      refine .r (.ptr ⟨0,[]⟩ 0 9) ?_
      refine .s [(0,.bx (pcv g t (.ow 1 (st.map vi)) (oc 3 tb ts) (.lk 71 _) (vi ct))),(5,.bx (.agg [(vi dp),(vi dt),(.fz dl dz ks)])),(8,.bx (Move.av r20)),(70,.ow 2 [(Move.av r20)]),(71,.ow 2 [(Move.av r20)])] ?_
      refine .fin (fin_of (h1:=[(0,.bx (pcv g t (.ow 1 (st.map vi)) (oc 3 tb ts) (.ow 2 [(Move.av r20)]) (vi ct))),(5,.bx (.agg [(vi dp),(vi dt),(.fz dl dz ks)])),(8,.bx (Move.av r20)),(70,.ow 2 [(Move.av r20)])]) (resolve_lk rfl rfl rfl (by simp) (rfl)) (by simp[noLkH,noLk,noLkL_all,noLk_pcv,nst,nts,Move.av]) rfl) ?_
      show(⟨[],[(0,.bx (pcv g t (.ow 1 (st.map vi)) (oc 3 tb ts) (.ow 2 [(Move.av r20)]) (vi ct))),(5,.bx (.agg [(vi dp),(vi dt),(.fz dl dz ks)])),(8,.bx (Move.av r20))],[],false⟩:St)=_
      simp
     rintro s rfl
     apply Wq.seq
     refine Wq.rg [7,6] ?_
     refine .p (vi 2) ?_
     refine .p (vi 0) ?_
     refine .done ⟨[(7,(vi 0)),(6,(vi 2))],[(0,.bx (pcv g t (.ow 1 (st.map vi)) (oc 3 tb ts) (.ow 2 [(Move.av r20)]) (vi ct))),(5,.bx (.agg [(vi dp),(vi dt),(.fz dl dz ks)])),(8,.bx (Move.av r20))],[],false⟩ ?_
     refine Wq.ret ?_
     exact Aq.mk rfl (by rw[show oneS ndR g t k (.agg [vi dp,vi dt,.fz dl dz ks]) ⟨st,ts,tb,[],ct⟩=(2,0,{(⟨st,ts,tb,[],ct⟩:PS)with tr:=[]++[r20]})from by simp only[oneS,em];rw[if_neg (by rw[hc];exact Bool.false_ne_true),if_neg h0,if_pos h3,if_pos (by omega)]];rfl)
   ·have h3:¬(r20.act=3):=by simpa using hx
    apply Wq.seq
    refine Wq.rg [74,8,5,0] ?_
    iterate 2 (refine .p (.bool (r20.act==2)) ?_)
    refine .done ⟨[(74,(.bool (r20.act==2))),(8,(.ptr ⟨8,[]⟩ 0 0)),(5,(.ptr ⟨5,[]⟩ 0 0)),(0,(.ptr ⟨0,[]⟩ 0 0))],[(0,.bx (pcv g t (.ow 1 (st.map vi)) (oc 3 tb ts) (.fz 1 0 []) (vi ct))),(5,.bx (.agg [(vi dp),(vi dt),(.fz dl dz ks)])),(8,.bx (Move.av r20))],[],false⟩ ?_
    refine Wq.jn (fun s=>∃(q:PS),(q.ts.all isTree=true∧oneS ndR g t k (.agg [vi dp,vi dt,.fz dl dz ks]) ⟨st,ts,tb,[],ct⟩=(if r20.act=1 then 1 else 0,0,⟨q.st,q.ts,q.tb,[]++[r20],ct+1⟩))∧s=⟨[(8,(.ptr ⟨8,[]⟩ 0 0)),(0,(.ptr ⟨0,[]⟩ 0 0))],[(0,.bx (pcv g t (.ow 1 (q.st.map vi)) (oc 3 q.tb q.ts) (.fz 1 0 []) (vi ct))),(5,.bx (.agg [(vi dp),(vi dt),(.fz dl dz ks)])),(8,.bx (Move.av r20))],[],false⟩) ?_ ?_
    ·refine Wq.cond rfl (fun hx=>?_) (fun hx=>?_)
     ·have h9:(r20.act=2):=by simpa using hx
      apply Wq.seq
      refine Wq.rg [9,8,0] ?_
      refine .p (.ptr ⟨0,[]⟩ 0 0) ?_
      refine .r (.ptr ⟨8,[]⟩ 0 1) ?_
      refine .r (vi r20.n) ?_
      obtain⟨x79,q,hr,htq,hans⟩:∃x q,(redS ndR g t r20.n ⟨st,ts,tb,[],ct⟩=none∧x=170∧q=⟨st,ts,tb,[],ct⟩∨redS ndR g t r20.n ⟨st,ts,tb,[],ct⟩=some q∧x=0∧q.tr=[]∧q.n=ct)∧q.ts.all isTree=true∧Ans cx O 77 [.bx (pcv g t (.ow 1 (st.map vi)) (oc 3 tb ts) (.fz 1 0 []) (vi ct)),vi r20.n] (vi x,[.bx (pcv g t (.ow 1 (q.st.map vi)) (oc 3 q.tb q.ts) (.fz 1 0 []) (vi ct))]):=by
       have hra:=red_ok hO7 hO8 hok (p:=⟨st,ts,tb,[],ct⟩) ⟨h1,h2,h3',h4,h5,h6,h7⟩ (n:=r20.n) (by omega) (by omega)
       cases hq:redS ndR g t r20.n ⟨st,ts,tb,[],ct⟩with
       |none=>rw[hq]at hra;exact⟨170,⟨st,ts,tb,[],ct⟩,.inl ⟨rfl,rfl,rfl⟩,h4,hra⟩
       |some q=>rw[hq]at hra;have hkq:=redS_keeps hq;obtain⟨qst,qts,qtb,qtr,qn⟩:=q;obtain rfl:qtr=[]:=hkq.1;obtain rfl:qn=ct:=hkq.2;refine⟨0,_,.inr ⟨rfl,rfl,rfl,rfl⟩,redS_trees ndR_tree h4 hq,?_⟩;exact hra
      refine .cl F77 rfl rfl hans (expArgs_cons rfl (expArgs_cons rfl rfl rfl) rfl) rfl (show noLkL [.bx (pcv g t (.ow 1 (st.map vi)) (oc 3 tb ts) (.fz 1 0 []) (vi ct)),vi r20.n]=true by simp only[noLkL,noLk,noLk_pcv,noLkL_all,nst,nts,Bool.and_self]) (zip_ok rfl (by rw[pcv_na,nonAgg_oc];rfl)) (vi x79) [(0,.bx (pcv g t (.ow 1 (q.st.map vi)) (oc 3 q.tb q.ts) (.fz 1 0 []) (vi ct))),(5,.bx (.agg [(vi dp),(vi dt),(.fz dl dz ks)])),(8,.bx (Move.av r20))] ?_
      refine .p (vi x79) ?_
      refine .fin (S':=⟨[(9,(vi x79)),(8,(.ptr ⟨8,[]⟩ 0 0)),(0,(.ptr ⟨0,[]⟩ 0 0))],[(0,.bx (pcv g t (.ow 1 (q.st.map vi)) (oc 3 q.tb q.ts) (.fz 1 0 []) (vi ct))),(5,.bx (.agg [(vi dp),(vi dt),(.fz dl dz ks)])),(8,.bx (Move.av r20))],[],false⟩) (fin_nl (nl_call rfl rfl (pcv_nl (by rw[noLk,noLkL_all];exact noLk_ints) (noLk_oc (noLk_tree htq)) rfl rfl) rfl) (by kernel_rfl)) ?_
      apply Wq.seq
      refine Wq.rg [81,9,8,0] ?_
      refine .p (vi x79) ?_
      refine .p (.bool (!(x79==0))) ?_
      refine .done ⟨[(81,(.bool (!(x79==0)))),(9,(vi x79)),(8,(.ptr ⟨8,[]⟩ 0 0)),(0,(.ptr ⟨0,[]⟩ 0 0))],[(0,.bx (pcv g t (.ow 1 (q.st.map vi)) (oc 3 q.tb q.ts) (.fz 1 0 []) (vi ct))),(5,.bx (.agg [(vi dp),(vi dt),(.fz dl dz ks)])),(8,.bx (Move.av r20))],[],false⟩ ?_
      refine Wq.cond rfl (fun hx=>?_) (fun hx=>?_)
      ·have hx:¬(x79=0):=by simpa using hx
       apply Wq.seq
       refine Wq.rg [7,6] ?_
       refine .p (vi x79) ?_
       refine .p (vi 0) ?_
       refine .p (vi x79) ?_
       refine .done ⟨[(7,(vi x79)),(6,(vi 0))],[(0,.bx (pcv g t (.ow 1 (q.st.map vi)) (oc 3 q.tb q.ts) (.fz 1 0 []) (vi ct))),(5,.bx (.agg [(vi dp),(vi dt),(.fz dl dz ks)])),(8,.bx (Move.av r20))],[],false⟩ ?_
       refine Wq.ret ?_
       exact Aq.mk rfl (by
        rcases hr with⟨hr,ex,eq⟩|⟨hr,ex,eq⟩
        ·rw[show oneS ndR g t k (.agg [vi dp,vi dt,.fz dl dz ks]) ⟨st,ts,tb,[],ct⟩=(0,170,⟨st,ts,tb,[],ct⟩)from by simp only[oneS,em];rw[if_neg (by rw[hc];exact Bool.false_ne_true),if_neg h0,if_neg h3,if_pos h9,hr]]
         rw[ex,eq];rfl
        ·exact absurd ex hx)
      ·have hx:(x79=0):=by simpa using hx
       refine Wq.skipW [8,0] rfl ?_
       rcases hr with⟨_,ex,_⟩|⟨hr,_,hq1,hq2⟩
       ·exact absurd (hx.symm.trans ex) (by decide)
       ·refine Jq.mk ⟨q,⟨htq,?_⟩,rfl⟩
        simp only[oneS,em];rw[if_neg (by rw[hc];exact Bool.false_ne_true),if_neg h0,if_neg h3,if_pos h9,hr];simp only[hq1,hq2,h9];rfl
     ·have h9:¬(r20.act=2):=by simpa using hx
      refine Wq.rg [8,0] ?_
      refine .p (.ptr ⟨0,[]⟩ 0 0) ?_
      refine .r (.ptr ⟨8,[]⟩ 0 1) ?_
      refine .r (vi r20.n) ?_
      refine .r (.agg [(vi dp),(vi dt),(.fz dl dz ks)]) ?_
      have hans:Ans cx O 78 [.bx (pcv g t (.ow 1 (st.map vi)) (oc 3 tb ts) (.fz 1 0 []) (vi ct)),vi r20.n,.agg [vi dp,vi dt,.fz dl dz ks]] (.tup [],[.bx (pcv g t (.ow 1 ((st++[r20.n]).map vi)) (.ow 3 (ts++[.agg [vi dp,vi dt,.fz dl dz ks]])) (.fz 1 0 []) (vi ct))]):=by have:=push_ok hO8 (g:=g) (t:=t) (p:=⟨st,ts,tb,[],ct⟩) (s:=r20.n) (d:=.agg [vi dp,vi dt,.fz dl dz ks]) hd (by simp only;omega) (by simp only;omega) h4 h3';  exact this
      refine .cl F78 rfl rfl hans (expArgs_cons rfl (expArgs_cons rfl (expArgs_cons rfl rfl rfl) rfl) rfl) rfl (show noLkL [.bx (pcv g t (.ow 1 (st.map vi)) (oc 3 tb ts) (.fz 1 0 []) (vi ct)),vi r20.n,.agg [vi dp,vi dt,.fz dl dz ks]]=true by simp only[noLkL,noLk,noLk_pcv,noLkL_all,nst,nts,Bool.and_self]) (zip_ok rfl (by rw[pcv_na];rfl)) (.tup []) [(0,.bx (pcv g t (.ow 1 ((st++[r20.n]).map vi)) (.ow 3 (ts++[.agg [vi dp,vi dt,.fz dl dz ks]])) (.fz 1 0 []) (vi ct))),(5,.bx (.agg [(vi dp),(vi dt),(.fz dl dz ks)])),(8,.bx (Move.av r20))] ?_
      refine .fin (S':=⟨[(8,(.ptr ⟨8,[]⟩ 0 0)),(0,(.ptr ⟨0,[]⟩ 0 0))],[(0,.bx (pcv g t (.ow 1 ((st++[r20.n]).map vi)) (.ow 3 (ts++[.agg [vi dp,vi dt,.fz dl dz ks]])) (.fz 1 0 []) (vi ct))),(5,.bx (.agg [(vi dp),(vi dt),(.fz dl dz ks)])),(8,.bx (Move.av r20))],[],false⟩) (fin_nl (nl_call rfl rfl (pcv_nl (by rw[noLk,noLkL_all];exact noLk_ints) (by rw[noLk,noLkL_all,List.all_append,noLk_tree h4];rfl) rfl rfl) rfl) (by kernel_rfl)) ?_
      refine Jq.mk ⟨PS.push ⟨st,ts,tb,[],ct⟩ r20.n (.agg [vi dp,vi dt,.fz dl dz ks]),⟨by simp[PS.push,h4,hd],?_⟩,rfl⟩
      simp only[oneS,em];rw[if_neg (by rw[hc];exact Bool.false_ne_true),if_neg h0,if_neg h3,if_neg h9]
    rintro s ⟨q,⟨htq,hg⟩,rfl⟩
    have nqs:(q.st.map vi).all noLk=true:=noLk_ints
    have nqt:noLk (oc 3 q.tb q.ts)=true:=noLk_oc (noLk_tree htq)
    apply Wq.seq
    refine Wq.jn (fun s=>s=⟨[(8,(.ptr ⟨8,[]⟩ 0 0)),(0,(.ptr ⟨0,[]⟩ 0 0))],[(0,.bx (pcv g t (.ow 1 (q.st.map vi)) (oc 3 q.tb q.ts) (.ow 2 [(Move.av r20)]) (vi ct))),(5,.bx (.agg [(vi dp),(vi dt),(.fz dl dz ks)])),(8,.bx (Move.av r20))],[],false⟩) ?_ ?_
    ·refine Wq.rg [8,0] ?_
     iterate 2 (refine .p (.ptr ⟨0,[]⟩ 0 0) ?_)
     refine .r (.ptr ⟨0,[]⟩ 0 0) ?_
     refine .r (.ptr ⟨0,[]⟩ 0 9) ?_
     refine .r (.fz 1 0 []) ?_
     refine .r (Move.av r20) ?_
     refine .e (.rf _ _ _ _) [(0,.bx (pcv g t (.ow 1 (q.st.map vi)) (oc 3 q.tb q.ts) (.fz 1 0 []) (vi ct))),(5,.bx (.agg [(vi dp),(vi dt),(.fz dl dz ks)])),(8,.bx (Move.av r20)),(89,.ow 2 [(Move.av r20)])] ?_
     refine .e (.rf _ _ _ _) [(0,.bx (pcv g t (.ow 1 (q.st.map vi)) (oc 3 q.tb q.ts) (.fz 1 0 []) (vi ct))),(5,.bx (.agg [(vi dp),(vi dt),(.fz dl dz ks)])),(8,.bx (Move.av r20)),(89,.ow 2 [(Move.av r20)]),(90,.ow 2 [(Move.av r20)])] ?_
     refine .r (.ptr ⟨0,[]⟩ 0 0) ?_
     refine .r (.ptr ⟨0,[]⟩ 0 9) ?_
     refine .s [(0,.bx (pcv g t (.ow 1 (q.st.map vi)) (oc 3 q.tb q.ts) (.lk 90 _) (vi ct))),(5,.bx (.agg [(vi dp),(vi dt),(.fz dl dz ks)])),(8,.bx (Move.av r20)),(89,.ow 2 [(Move.av r20)]),(90,.ow 2 [(Move.av r20)])] ?_
     refine .fin (fin_of (h1:=[(0,.bx (pcv g t (.ow 1 (q.st.map vi)) (oc 3 q.tb q.ts) (.ow 2 [(Move.av r20)]) (vi ct))),(5,.bx (.agg [(vi dp),(vi dt),(.fz dl dz ks)])),(8,.bx (Move.av r20)),(89,.ow 2 [(Move.av r20)])]) (resolve_lk rfl rfl rfl (by simp) (rfl)) (by simp[noLkH,noLk,noLkL_all,noLk_pcv,nqs,nqt,Move.av]) rfl) ?_
     show(⟨[(8,(.ptr ⟨8,[]⟩ 0 0)),(0,(.ptr ⟨0,[]⟩ 0 0))],[(0,.bx (pcv g t (.ow 1 (q.st.map vi)) (oc 3 q.tb q.ts) (.ow 2 [(Move.av r20)]) (vi ct))),(5,.bx (.agg [(vi dp),(vi dt),(.fz dl dz ks)])),(8,.bx (Move.av r20))],[],false⟩:St)=_
     simp
    rintro s rfl
    apply Wq.seq
    refine Wq.rg [8] ?_
    refine .p (.ptr ⟨0,[]⟩ 0 0) ?_
    refine .r (.ptr ⟨0,[]⟩ 0 0) ?_
    refine .r (.ptr ⟨0,[]⟩ 0 10) ?_
    refine .r (vi ct) ?_
    obtain⟨x97,e97⟩:∃x:Int,x=(ct+1):=⟨_,rfl⟩
    refine .pv _ (vi x97) (wrE e97 (by omega) (by omega)) ?_
    refine .r (.ptr ⟨0,[]⟩ 0 0) ?_
    refine .r (.ptr ⟨0,[]⟩ 0 10) ?_
    refine .s [(0,.bx (pcv g t (.ow 1 (q.st.map vi)) (oc 3 q.tb q.ts) (.ow 2 [(Move.av r20)]) (vi x97))),(5,.bx (.agg [(vi dp),(vi dt),(.fz dl dz ks)])),(8,.bx (Move.av r20))] ?_
    refine .done ⟨[(8,(.ptr ⟨8,[]⟩ 0 0))],[(0,.bx (pcv g t (.ow 1 (q.st.map vi)) (oc 3 q.tb q.ts) (.ow 2 [(Move.av r20)]) (vi x97))),(5,.bx (.agg [(vi dp),(vi dt),(.fz dl dz ks)])),(8,.bx (Move.av r20))],[],false⟩ ?_
    apply Wq.seq
    apply Wq.seq
    refine Wq.rg [102] ?_
    refine .r (.ptr ⟨8,[]⟩ 0 0) ?_
    refine .r (vi r20.act) ?_
    refine .p (.bool (r20.act==1)) ?_
    refine .done ⟨[(102,(.bool (r20.act==1)))],[(0,.bx (pcv g t (.ow 1 (q.st.map vi)) (oc 3 q.tb q.ts) (.ow 2 [(Move.av r20)]) (vi x97))),(5,.bx (.agg [(vi dp),(vi dt),(.fz dl dz ks)])),(8,.bx (Move.av r20))],[],false⟩ ?_
    refine Wq.cond rfl (fun hx=>?_) (fun hx=>?_)
    ·have ha:(r20.act=1):=by simpa using hx
     apply Wq.seq
     refine Wq.rg [7,6] ?_
     refine .p (vi 1) ?_
     refine .p (vi 0) ?_
     refine .done ⟨[(7,(vi 0)),(6,(vi 1))],[(0,.bx (pcv g t (.ow 1 (q.st.map vi)) (oc 3 q.tb q.ts) (.ow 2 [(Move.av r20)]) (vi x97))),(5,.bx (.agg [(vi dp),(vi dt),(.fz dl dz ks)])),(8,.bx (Move.av r20))],[],false⟩ ?_
     refine Wq.ret ?_
     exact Aq.mk rfl (by rw[hg,if_pos ha,e97];rfl)
    ·have ha:¬(r20.act=1):=by simpa using hx
     refine Wq.skip ?_
     apply Wq.seq
     refine Wq.rg [7,6] ?_
     iterate 2 (refine .p (vi 0) ?_)
     refine .done ⟨[(7,(vi 0)),(6,(vi 0))],[(0,.bx (pcv g t (.ow 1 (q.st.map vi)) (oc 3 q.tb q.ts) (.ow 2 [(Move.av r20)]) (vi x97))),(5,.bx (.agg [(vi dp),(vi dt),(.fz dl dz ks)])),(8,.bx (Move.av r20))],[],false⟩ ?_
     refine Wq.ret ?_
     exact Aq.mk rfl (by rw[hg,if_neg ha,e97];rfl)
theorem one_ok (hO:∀e∈O,e.f≠59) (hO7:∀e∈O,e.f≠77) (hO8:∀e∈O,e.f≠78) (hO6:∀e∈O,e.f≠76) {g:Plain} {t:Table} (hok:Ok g t) {p:PS} {k:Int} {d:AV} (hd:isTree d=true) (hk0:0≤k) (hk:k<g.kinds.l.length) (hp:p.Fine t):
  Ans cx O 59 [.bx (p.rf g t),vi k,d] (match oneS ndR g t k d p with|(d,e,q)=>(.tup [vi d,vi e],[.bx (q.rf g t)])):=by
 obtain⟨dp,dt,dl,dz,ks,rfl⟩:=isTree_iff hd
 obtain⟨st,ts,tb,tr,ct⟩:=p
 rcases List.eq_nil_or_concat tr with rfl|⟨l,m,rfl⟩
 ·exact w59B hO hO7 hO8 hO6 hok hk0 hk hd hp
 ·exact w59A hO hO7 hO8 hO6 hok (by simp) hk0 hk hd hp
end Go.Am.Pull
end
section
namespace Go.Am.Pull
open Go Go.Proofs Go.Am
set_option maxRecDepth 100000
set_option maxHeartbeats 4000000
variable {O:List Ent}
theorem last_mem {t:Table} {p:PS} (hp:p.Fine t):p.last∈p.st:=by
 have h1:=hp.st
 have:p.st.length - 1<p.st.length:=by omega
 rw[PS.last,List.getD,List.getElem?_eq_getElem this]
 exact List.getElem_mem this
theorem lkM_ok {g:Plain} {t:Table} (hok:Ok g t) {s k:Int} (hs:0≤s∧s<t.moves.l.length) (hk0:0≤k) (hk:k<g.kinds.l.length):∃r∈t.moves.l,lkM t s k∈r.l:=by
 have h1:=getD_mem (l:=t.moves.l) (n:=s) (d:=default) rfl hs.1 hs.2
 refine⟨_,h1,getD_mem rfl hk0 ?_⟩
 rw[(hok.row _ h1).2];exact hk
theorem red_fine {nd:Bool→Int→List AV→AV} (hnd:∀b n l,l.all isTree=true→isTree (nd b n l)=true) {g:Plain} {t:Table} (hok:Ok g t) {p q:PS} (hp:p.Fine t) {n:Int} (hn0:0≤n) (hn:n<g.prods.l.length) (h:redS nd g t n p=some q):
  q.st.length=q.ts.length+1∧(∀s∈q.st,0≤s∧s<t.moves.l.length)∧q.tb=true∧q.ts.all isTree=true∧(q.ts.length:Int)≤p.n+1∧q.tr=p.tr∧q.n=p.n:=by
 have htr:=redS_trees hnd hp.trees h
 have hkp:=redS_keeps h
 unfold redS at h
 simp only at h
 split at h
 ·cases h
 ·rename_i h1
  split at h
  ·cases h
  ·rename_i h2
   have hx:=getD_mem (l:=g.prods.l) (n:=n) (d:=default) rfl hn0 hn
   have hl:=hok.left _ hx
   have h5:p.st.length - (lkP g n).right.l.length - 1<p.st.length:=by have:=hp.st;omega
   have hs:0≤p.st.getD (p.st.length - (lkP g n).right.l.length - 1) 0∧p.st.getD (p.st.length - (lkP g n).right.l.length - 1) 0<t.moves.l.length:=by
    rw[List.getD,List.getElem?_eq_getElem h5]
    exact hp.ok _ (List.getElem_mem h5)
   have hr:=getD_mem (l:=t.goto.l) (n:=p.st.getD (p.st.length - (lkP g n).right.l.length - 1) 0) (d:=default) rfl hs.1 (by rw[hok.len];exact hs.2)
   have hg:=hok.goes _ hr (lkG t (p.st.getD (p.st.length - (lkP g n).right.l.length - 1) 0) (lkP g n).left) (getD_mem rfl hl.1 (by rw[(hok.grow _ hr).2];exact hl.2))
   cases h
   refine⟨?_,?_,rfl,htr,?_,hkp.1,hkp.2⟩
   ·simp only[PS.push,List.length_append,List.length_take,List.length_cons,List.length_nil];have:=hp.st;omega
   ·intro s hs
    simp only[PS.push,List.mem_append,List.mem_singleton]at hs
    rcases hs with hs|rfl
    ·exact hp.ok _ (List.mem_of_mem_take hs)
    ·exact⟨by omega,hg.2⟩
   ·simp only[PS.push,List.length_append,List.length_take,List.length_cons,List.length_nil];have:=hp.ts;omega
theorem one_fine {nd:Bool→Int→List AV→AV} (hnd:∀b n l,l.all isTree=true→isTree (nd b n l)=true) {g:Plain} {t:Table} (hok:Ok g t) {p q:PS} {k dn e:Int} {d:AV} (hd:isTree d=true) (hk0:0≤k) (hk:k<g.kinds.l.length) (hp:p.Fine t) (h:oneS nd g t k d p=(dn,e,q)):
  (dn=0∧e=0∧q.Fine t∧q.n=p.n+1∧p.n<65536)∨(dn=1∧e=0∧q.Fine t)∨(dn=2∧e=0∧p.st.length=2∧q.ts=p.ts∧q.tb=p.tb∧q.st=p.st)∨(dn=0∧e≠0):=by
 obtain⟨r,hr,hm⟩:=lkM_ok hok (hp.ok _ (last_mem hp)) hk0 hk
 have hmv:=hok.move r hr _ hm
 have hb:=hp.n
 unfold oneS at h
 simp only at h
 split at h
 ·cases h;exact .inr (.inr (.inr ⟨rfl,by decide⟩))
 ·rename_i hc
  split at h
  ·cases h;exact .inr (.inr (.inr ⟨rfl,by decide⟩))
  ·rename_i h0
   split at h
   ·split at h
    ·rename_i h2;cases h;exact .inr (.inr (.inl ⟨rfl,rfl,h2,rfl,rfl,rfl⟩))
    ·cases h;exact .inr (.inr (.inr ⟨rfl,by decide⟩))
   ·rename_i h3
    split at h
    ·rename_i h9
     have hlt:p.n<65536:=by
      rcases Int.lt_or_le p.n 65536 with h|h
      ·exact h
      ·exact absurd (by simp[h9];exact h) hc
     split at h
     ·cases h;exact .inr (.inr (.inr ⟨rfl,by decide⟩))
     ·rename_i q' hq
      have hnb:0≤(lkM t p.last k).n∧(lkM t p.last k).n<g.prods.l.length:=by omega
      obtain⟨a1,a2,a3,a4,a5,a6,a7⟩:=red_fine hnd hok hp hnb.1 hnb.2 hq
      cases h
      refine .inl ⟨rfl,rfl,⟨a1,a2,(fun h=>by simp[a3]at h),a4,?_,?_,?_⟩,by simp[a7],hlt⟩
      ·simp only[a7];omega
      ·simp only[a7];omega
      ·have:=hp.tr;simp only[a6,a7,List.length_append,List.length_cons,List.length_nil];omega
    ·rename_i h9
     have h1:(lkM t p.last k).act=1:=by omega
     have hlt:p.n<65536:=by
      rcases Int.lt_or_le p.n 65536 with h|h
      ·exact h
      ·exact absurd (by simp[h1];exact h) hc
     rw[if_pos h1]at h
     cases h
     refine .inr (.inl ⟨rfl,rfl,⟨?_,?_,(fun h=>by cases h),?_,?_,?_,?_⟩⟩)
     ·simp only[PS.push,List.length_append,List.length_cons,List.length_nil];have:=hp.st;omega
     ·intro s hs
      simp only[PS.push,List.mem_append,List.mem_singleton]at hs
      rcases hs with hs|rfl
      ·exact hp.ok _ hs
      ·omega
     ·simp[PS.push,hp.trees,hd]
     ·simp only;omega
     ·simp only[PS.push,List.length_append,List.length_cons,List.length_nil];have:=hp.ts;omega
     ·simp only[List.length_append,List.length_cons,List.length_nil];have:=hp.tr;omega
def takeS (nd:Bool→Int→List AV→AV) (g:Plain) (t:Table) (k:Int) (d:AV):Nat→PS→Int×Int×PS
 |0,p=>(0,0,p)
 |f+1,p=>let r:=oneS nd g t k d p;if(decide (r.1> 0)|| !(r.2.1==0))=true then r else takeS nd g t k d f r.2.2
def PS.fuel (p:PS):Nat:=(65537 - p.n).toNat
theorem one_isTree {nd:Bool→Int→List AV→AV} (hnd:∀b n l,l.all isTree=true→isTree (nd b n l)=true) {g:Plain} {t:Table} {p q:PS} {k dn e:Int} {d:AV} (hd:isTree d=true) (hp:p.ts.all isTree=true) (h:oneS nd g t k d p=(dn,e,q)):q.ts.all isTree=true:=by
 unfold oneS at h
 simp only at h
 split at h
 ·cases h;exact hp
 ·split at h
  ·cases h;exact hp
  ·split at h
   ·split at h
    ·cases h;exact hp
    ·cases h;exact hp
   ·split at h
    ·split at h
     ·cases h;exact hp
     ·rename_i q' hq;cases h;have:=redS_trees hnd hp hq;exact this
    ·cases h;simp[PS.push,hp,hd]
theorem one_trees {nd:Bool→Int→List AV→AV} (hnd:∀b n l,l.all isTree=true→isTree (nd b n l)=true) {g:Plain} {t:Table} {p q:PS} {k dn e:Int} {d:AV} (hd:isTree d=true) (hp:p.ts.all isTree=true) (h:oneS nd g t k d p=(dn,e,q)):q.ts.all noLk=true:=noLk_tree (one_isTree hnd hd hp h)
theorem noLk_rf {g:Plain} {t:Table} {p:PS} (h:p.ts.all noLk=true):noLk (p.rf g t)=true:=by
 rw[PS.rf,noLk_pcv,noLk,noLkL_all,noLk_ints,noLk_oc h,noLk_oc noLk_moves];rfl
noncomputable def fn39:FnS:=(mkA Try.f39 ⟨4195303,[3,0,2],false,[]⟩).getD ⟨.skip,0,[],[],0,[],false,[]⟩
theorem F39:cx.F 39=some fn39:=by kernel_rfl
theorem take_ok (hO:∀e∈O,e.f≠39) (hO5:∀e∈O,e.f≠59) (hO7:∀e∈O,e.f≠77) (hO8:∀e∈O,e.f≠78) (hO6:∀e∈O,e.f≠76) {g:Plain} {t:Table} (hok:Ok g t) {p:PS} {k dp dt:Int} {dl dz:Nat} {ks:List AV} (hk0:0≤k) (hk:k<g.kinds.l.length) (hd:isTree (.agg [vi dp,vi dt,.fz dl dz ks])=true) (hp:p.Fine t):
  Ans cx O 39 [.bx (p.rf g t),vi k,.agg [vi dp,vi dt,.fz dl dz ks]] (match takeS ndR g t k (.agg [vi dp,vi dt,.fz dl dz ks]) p.fuel p with|(d,e,q)=>(.tup [vi d,vi e],[.bx (q.rf g t)])):=by
 refine ans_q [2,1,0] (fn:=fn39) F39 (orc_none hO) ?_
 show Wq cx O 4195303 1 [] _ ⟨[(2,(.agg [(vi dp),(vi dt),(.fz dl dz ks)])),(1,(vi k)),(0,(.ptr ⟨0,[]⟩ 0 0))],[(0,.bx (p.rf g t))],[],false⟩ _
 apply Wq.seq
 refine Wq.rg [7,6,5,1,0] ?_
 refine .e (.ptr ⟨5,[]⟩ 0 0) [(0,.bx (p.rf g t)),(5,.bx (.agg [(vi dp),(vi dt),(.fz dl dz ks)]))] ?_
 iterate 2 (refine .p (vi 0) ?_)
 refine .done ⟨[(7,(vi 0)),(6,(vi 0)),(5,(.ptr ⟨5,[]⟩ 0 0)),(1,(vi k)),(0,(.ptr ⟨0,[]⟩ 0 0))],[(0,.bx (p.rf g t)),(5,.bx (.agg [(vi dp),(vi dt),(.fz dl dz ks)]))],[],false⟩ ?_
 refine Wq.block ?_
 refine Wq.weak [5,1,0] rfl ?_
 refine Wq.lp (fun m s=>∃(q:PS),m=q.fuel∧(q.Fine t∧takeS ndR g t k (.agg [vi dp,vi dt,.fz dl dz ks]) p.fuel p=takeS ndR g t k (.agg [vi dp,vi dt,.fz dl dz ks]) q.fuel q)∧s=⟨[(5,(.ptr ⟨5,[]⟩ 0 0)),(1,(vi k)),(0,(.ptr ⟨0,[]⟩ 0 0))],[(0,.bx (q.rf g t)),(5,.bx (.agg [(vi dp),(vi dt),(.fz dl dz ks)]))],[],false⟩) ?_ ⟨p,rfl,⟨hp,rfl⟩,rfl⟩
 rintro m s ⟨q,rfl,⟨hq,hi⟩,rfl⟩
 show Wq _ _ _ _ _ _ ⟨[(5,(.ptr ⟨5,[]⟩ 0 0)),(1,(vi k)),(0,(.ptr ⟨0,[]⟩ 0 0))],[(0,.bx (q.rf g t)),(5,.bx (.agg [(vi dp),(vi dt),(.fz dl dz ks)]))],[],false⟩ _
 refine Wq.block ?_
 apply Wq.seq
 refine Wq.rg [9,8,5,1,0] ?_
 refine .p (.ptr ⟨0,[]⟩ 0 0) ?_
 refine .p (vi k) ?_
 refine .r (.agg [(vi dp),(vi dt),(.fz dl dz ks)]) ?_
 obtain⟨y14_0,y14_1,q',ho⟩:∃a b c,oneS ndR g t k (.agg [vi dp,vi dt,.fz dl dz ks]) q=(a,b,c):=⟨_,_,_,rfl⟩
 have hans:=one_ok hO5 hO7 hO8 hO6 hok (p:=q) (k:=k) (d:=.agg [vi dp,vi dt,.fz dl dz ks]) hd hk0 hk hq
 rw[ho]at hans
 have hfine:=one_fine ndR_tree hok (d:=.agg [vi dp,vi dt,.fz dl dz ks]) hd hk0 hk hq ho
 have hqt:q'.ts.all noLk=true:=one_trees ndR_tree (d:=.agg [vi dp,vi dt,.fz dl dz ks]) hd hq.trees ho
 have efu:takeS ndR g t k (.agg [vi dp,vi dt,.fz dl dz ks]) q.fuel q=if(decide (y14_0> 0)|| !(y14_1==0))=true then(y14_0,y14_1,q')else takeS ndR g t k (.agg [vi dp,vi dt,.fz dl dz ks]) (q.fuel - 1) q':=by
  obtain⟨f,hf⟩:∃f,q.fuel=f+1:=⟨q.fuel - 1,by have:=hq.n;unfold PS.fuel;omega⟩
  rw[hf,takeS];simp only[ho];rfl
 refine .cl F59 rfl rfl hans (expArgs_cons rfl (expArgs_cons rfl (expArgs_cons rfl rfl rfl) rfl) rfl) rfl (show noLkL [.bx (q.rf g t),vi k,.agg [vi dp,vi dt,.fz dl dz ks]]=true by simp only[noLkL,noLk,noLk_rf (noLk_tree hq.trees),Bool.and_self]) (zip_ok rfl (by rw[PS.rf,pcv_na,nonAgg_oc,nonAgg_oc];rfl)) (.tup [(vi y14_0),(vi y14_1)]) [(0,.bx (q'.rf g t)),(5,.bx (.agg [(vi dp),(vi dt),(.fz dl dz ks)]))] ?_
 refine .p (.tup [(vi y14_0),(vi y14_1)]) ?_
 refine .p (vi y14_0) ?_
 refine .p (vi y14_1) ?_
 refine .p (vi y14_0) ?_
 refine .p (vi y14_1) ?_
 refine .fin (S':=⟨[(9,(vi y14_1)),(8,(vi y14_0)),(5,(.ptr ⟨5,[]⟩ 0 0)),(1,(vi k)),(0,(.ptr ⟨0,[]⟩ 0 0))],[(0,.bx (q'.rf g t)),(5,.bx (.agg [(vi dp),(vi dt),(.fz dl dz ks)]))],[],false⟩) (fin_nl (nl_call rfl rfl (pcv_nl (by rw[noLk,noLkL_all];exact noLk_ints) (noLk_oc hqt) (noLk_oc noLk_moves) rfl) rfl) (by kernel_rfl)) ?_
 apply Wq.seq
 refine Wq.jn (fun s=>s=⟨[(22,(.bool ((decide (y14_0> 0))||(!(y14_1==0))))),(9,(vi y14_1)),(8,(vi y14_0)),(5,(.ptr ⟨5,[]⟩ 0 0)),(1,(vi k)),(0,(.ptr ⟨0,[]⟩ 0 0))],[(0,.bx (q'.rf g t)),(5,.bx (.agg [(vi dp),(vi dt),(.fz dl dz ks)]))],[],false⟩) ?_ ?_
 ·refine Wq.rg [22,9,8,5,1,0] ?_
  refine .p (vi y14_0) ?_
  iterate 2 (refine .p (.bool (decide (y14_0> 0))) ?_)
  refine Rq.split (dg:=19) rfl (fun h2=>?_) (fun h2=>?_) rfl
  ·iterate 2 (refine .sk ?_)
   refine .p (.bool true) ?_
   refine .done ⟨[(22,(.bool _)),(9,(vi _)),(8,(vi _)),(5,(.ptr ⟨5,[]⟩ 0 0)),(1,(vi _)),(0,(.ptr ⟨0,[]⟩ 0 0))],[(0,.bx (q'.rf g t)),(5,.bx (.agg [(vi dp),(vi dt),(.fz dl dz ks)]))],[],false⟩ ?_
   show(⟨[(22,(.bool _)),(9,(vi _)),(8,(vi _)),(5,(.ptr ⟨5,[]⟩ 0 0)),(1,(vi _)),(0,(.ptr ⟨0,[]⟩ 0 0))],[(0,.bx (q'.rf g t)),(5,.bx (.agg [(vi dp),(vi dt),(.fz dl dz ks)]))],[],false⟩:St)=_
   first|(cases h2;done)|simp[h2]
  ·refine .p (vi y14_1) ?_
   refine .p (.bool (!(y14_1==0))) ?_
   refine .p (.bool (!(y14_1==0))) ?_
   refine .done ⟨[(22,(.bool _)),(9,(vi _)),(8,(vi _)),(5,(.ptr ⟨5,[]⟩ 0 0)),(1,(vi _)),(0,(.ptr ⟨0,[]⟩ 0 0))],[(0,.bx (q'.rf g t)),(5,.bx (.agg [(vi dp),(vi dt),(.fz dl dz ks)]))],[],false⟩ ?_
   show(⟨[(22,(.bool _)),(9,(vi _)),(8,(vi _)),(5,(.ptr ⟨5,[]⟩ 0 0)),(1,(vi _)),(0,(.ptr ⟨0,[]⟩ 0 0))],[(0,.bx (q'.rf g t)),(5,.bx (.agg [(vi dp),(vi dt),(.fz dl dz ks)]))],[],false⟩:St)=_
   first|(cases h2;done)|simp[h2]
 rintro s rfl
 refine Wq.cond rfl (fun hx=>?_) (fun hx=>?_)
 ·have hx:=hx
  apply Wq.seq
  refine Wq.rg [7,6] ?_
  refine .p (vi y14_0) ?_
  refine .p (vi y14_1) ?_
  refine .p (vi y14_0) ?_
  refine .p (vi y14_1) ?_
  refine .done ⟨[(7,(vi y14_1)),(6,(vi y14_0))],[(0,.bx (q'.rf g t)),(5,.bx (.agg [(vi dp),(vi dt),(.fz dl dz ks)]))],[],false⟩ ?_
  refine Wq.ret ?_
  exact Aq.mk rfl (by rw[hi,efu,if_pos hx];rfl)
 ·have hx:=hx
  refine Wq.skipW [5,1,0] rfl ?_
  rcases hfine with⟨_,_,hf,hn,hlt⟩|⟨ha,_⟩|⟨ha,_⟩|⟨_,hb⟩
  ·refine Bq.n (Iq.mk q'.fuel (by have:=hq.n;unfold PS.fuel;omega) ⟨q',rfl,⟨hf,?_⟩,rfl⟩)
   rw[hi,efu,if_neg (by rw[hx];exact Bool.false_ne_true),show q.fuel - 1=q'.fuel by unfold PS.fuel;omega]
  ·rw[ha]at hx;simp at hx
  ·rw[ha]at hx;simp at hx
  ·simp[hb]at hx
end Go.Am.Pull
end
section
namespace Go.Am.Pull
open Go Go.Proofs Go.Am
set_option maxRecDepth 100000
set_option maxHeartbeats 4000000
variable {O:List Ent}
def qcv (g:Plain) (t:Table) (ss ts tr n:AV):AV:=.agg [ss,ts,g.kinds.av vs,g.precs.av Prec.av,g.rules.av vs,g.prods.av Prod.av,vi g.start,t.moves.av (Sl.av Move.av),t.goto.av (Sl.av vi),tr,n]
def PS.qf (g:Plain) (t:Table) (p:PS):AV:=qcv g t (.ow 1 (p.st.map vi)) (oc 3 p.tb p.ts) (oc 2 (!p.tr.isEmpty) (p.tr.map Move.av)) (vi p.n)
theorem noLk_qcv {g:Plain} {t:Table} {a b c d:AV}:noLk (qcv g t a b c d)=(noLk a&&(noLk b&&(noLk c&&noLk d))):=by
 simp[qcv,noLk,noLkL,Sl.av]
theorem qcv_na {g:Plain} {t:Table} {a b c d:AV}:(cells (qcv g t a b c d)).all nonAgg=(nonAgg a&&(nonAgg b&&(nonAgg c&&nonAgg d))):=by
 simp only[qcv,cells,List.all_cons,List.all_nil,Bool.and_true]
 rfl
theorem qcv_nl {g:Plain} {t:Table} {a b c d:AV} (ha:noLk a=true) (hb:noLk b=true) (hc:noLk c=true) (hd:noLk d=true):(cells (qcv g t a b c d)).all noLk=true:=by
 simp only[qcv,cells,List.all_cons,List.all_nil,ha,hb,hc,hd]
 rfl
noncomputable def fn56:FnS:=(mkA Try.f56 ⟨5,[0],false,[]⟩).getD ⟨.skip,0,[],[],0,[],false,[]⟩
theorem F56:cx.F 56=some fn56:=by kernel_rfl
theorem last_q (hO:∀e∈O,e.f≠56) {lab l1:Nat} {st:List Int} {rest:List AV} (hn:st≠[]) (hl:st.length<2 ^ 60):Ans cx O 56 [.fp lab (.agg (.fz l1 1 (st.map vi)::rest)) 0] (vi (st.getD (st.length - 1) 0),[]):=by
 have h0:0<st.length:=List.length_pos_iff.2 hn
 refine ans_q [0] (fn:=fn56) F56 (orc_none hO) ?_
 show Wq cx O 5 0 [] _ ⟨[(0,(.fp lab (.agg (.fz l1 1 (st.map vi)::rest)) 0))],[],[],false⟩ _
 apply Wq.seq
 refine Wq.rg [2,0] ?_
 refine .p (vi 0) ?_
 refine .done ⟨[(2,(vi 0)),(0,(.fp lab (.agg (.fz l1 1 (st.map vi)::rest)) 0))],[],[],false⟩ ?_
 apply Wq.seq
 refine Wq.rg [2] ?_
 iterate 3 (refine .p (.fp lab (.agg (.fz l1 1 (st.map vi)::rest)) 0) ?_)
 refine .p (.fz l1 1 (st.map vi)) ?_
 iterate 3 (refine .p (.fp lab (.agg (.fz l1 1 (st.map vi)::rest)) 0) ?_)
 refine .p (.fz l1 1 (st.map vi)) ?_
 obtain⟨x11,e11⟩:∃x:Int,x=(st.length:Int):=⟨_,rfl⟩
 refine .pv _ (vi x11) (ln e11) ?_
 obtain⟨x12,e12⟩:∃x:Int,x=(x11 - 1):=⟨_,rfl⟩
 refine .pv _ (vi x12) (wrE e12 (by omega) (by omega)) ?_
 obtain⟨r13,e13⟩:∃x:_,x=(st.getD x12.toNat default):=⟨_,rfl⟩
 have m13:=getD_mem e13 (by omega) (by omega)
 refine .po (fun _=>op_ix (s:=⟨l1,1,st⟩) e13 (by omega) (by show x12<(st.length:Int);omega) (.inr rfl)) (.fp _ (vi r13) 0) rfl ?_
 iterate 2 (refine .p (vi r13) ?_)
 refine .done ⟨[(2,(vi r13))],[],[],false⟩ ?_
 refine Wq.ret ?_
 exact Aq.mk rfl (by rw[e13,show x12.toNat=st.length - 1 by omega];rfl)
noncomputable def fn57:FnS:=(mkA Try.f57 ⟨39,[3,0,2],false,[]⟩).getD ⟨.skip,0,[],[],0,[],false,[]⟩
theorem F57:cx.F 57=some fn57:=by kernel_rfl
theorem push_q1 (hO:∀e∈O,e.f≠57) {st:List Int} {ts ks:List AV} {n dp dt:Int} {dl dz:Nat} (nts:ts.all noLk=true) (hs:st.length<2 ^ 40) (ht:ts.length<2 ^ 40):Ans cx O 57 [.bx (.agg [.ow 1 (st.map vi),.ow 3 ts]),vi n,.agg [vi dp,vi dt,.fz dl dz ks]] (.tup [],[.bx (.agg [.ow 1 ((st++[n]).map vi),.ow 3 (ts++[.agg [vi dp,vi dt,.fz dl dz ks]])])]):=by
 have nst:(st.map vi).all noLk=true:=noLk_ints
 refine ans_q [2,1,0] (fn:=fn57) F57 (orc_none hO) ?_
 show Wq cx O 39 1 [] _ ⟨[(2,(.agg [(vi dp),(vi dt),(.fz dl dz ks)])),(1,(vi n)),(0,(.ptr ⟨0,[]⟩ 0 0))],[(0,.bx (.agg [(.ow 1 (st.map vi)),(.ow 3 ts)]))],[],false⟩ _
 apply Wq.seq
 refine Wq.rg [5,1,0] ?_
 refine .e (.ptr ⟨5,[]⟩ 0 0) [(0,.bx (.agg [(.ow 1 (st.map vi)),(.ow 3 ts)])),(5,.bx (.agg [(vi dp),(vi dt),(.fz dl dz ks)]))] ?_
 refine .done ⟨[(5,(.ptr ⟨5,[]⟩ 0 0)),(1,(vi n)),(0,(.ptr ⟨0,[]⟩ 0 0))],[(0,.bx (.agg [(.ow 1 (st.map vi)),(.ow 3 ts)])),(5,.bx (.agg [(vi dp),(vi dt),(.fz dl dz ks)]))],[],false⟩ ?_
 apply Wq.seq
 refine Wq.jn (fun s=>s=⟨[(5,(.ptr ⟨5,[]⟩ 0 0)),(0,(.ptr ⟨0,[]⟩ 0 0))],[(0,.bx (.agg [(.ow 1 ((st++[n]).map vi)),(.ow 3 ts)])),(5,.bx (.agg [(vi dp),(vi dt),(.fz dl dz ks)]))],[],false⟩) ?_ ?_
 ·refine Wq.rg [5,0] ?_
  iterate 2 (refine .p (.ptr ⟨0,[]⟩ 0 0) ?_)
  iterate 2 (refine .r (.ptr ⟨0,[]⟩ 0 0) ?_)
  refine .r (.rf _ _ _ _) ?_
  refine .p (vi n) ?_
  refine .e (.rf _ _ _ _) [(0,.bx (.agg [(.ow 1 (st.map vi)),(.ow 3 ts)])),(5,.bx (.agg [(vi dp),(vi dt),(.fz dl dz ks)])),(12,.ow 1 ([n].map vi))] ?_
  refine .eo (fun _=>op_appr rfl rfl rfl rfl rfl rfl rfl rfl rfl rfl (new:=[_]) rfl (List.cons_ne_nil _ _) rfl rfl (by simp) (by show(_+1)*8≤70368744177664;first|omega|(simp;omega)) (by show _+1≤70368744177664;first|omega|(simp;omega)) rfl) [(0,.bx (.agg [_,(.ow 3 ts)])),(5,.bx (.agg [(vi dp),(vi dt),(.fz dl dz ks)])),(12,.ow 1 ([n].map vi)),(13,.ow 1 _)] ?_
  iterate 2 (refine .r (.ptr ⟨0,[]⟩ 0 0) ?_)
  refine .s [(0,.bx (.agg [(.lk 13 _),(.ow 3 ts)])),(5,.bx (.agg [(vi dp),(vi dt),(.fz dl dz ks)])),(12,.ow 1 ([n].map vi)),(13,.ow 1 _)] ?_
  refine .fin (fin_of (h1:=[(0,.bx (.agg [(.ow 1 _),(.ow 3 ts)])),(5,.bx (.agg [(vi dp),(vi dt),(.fz dl dz ks)])),(12,.ow 1 ([n].map vi))]) (resolve_skip rfl (resolve_lk rfl rfl rfl (by simp) (rfl))) (by simp[noLkH,noLk,noLkL_all,take_map_self,take_map_snoc,nst,nts]) rfl) ?_
  show(⟨[(5,(.ptr ⟨5,[]⟩ 0 0)),(0,(.ptr ⟨0,[]⟩ 0 0))],[(0,.bx (.agg [(.ow 1 _),(.ow 3 ts)])),(5,.bx (.agg [(vi dp),(vi dt),(.fz dl dz ks)]))],[],false⟩:St)=_
  simp[take_map_self,take_map_snoc]
 rintro s rfl
 obtain⟨x21,e21⟩:∃x:Int,x=(ts.length:Int):=⟨_,rfl⟩
 refine Wq.jn (fun s=>s=⟨[],[(0,.bx (.agg [(.ow 1 ((st++[n]).map vi)),(.ow 3 (ts++[(.agg [(vi dp),(vi dt),(.fz dl dz ks)])]))])),(5,.bx (.agg [(vi dp),(vi dt),(.fz dl dz ks)]))],[],false⟩) ?_ ?_
 ·refine Wq.rg [] ?_
  refine .p (.ptr ⟨0,[]⟩ 0 0) ?_
  refine .r (.ptr ⟨0,[]⟩ 0 0) ?_
  refine .r (.ptr ⟨0,[]⟩ 0 1) ?_
  refine .r (.rf _ _ _ _) ?_
  refine .r (.agg [(vi dp),(vi dt),(.fz dl dz ks)]) ?_
  refine .rv _ (vi x21) (ln0 e21) ?_
  refine .e (.rf _ _ _ _) [(0,.bx (.agg [(.ow 1 _),(.ow 3 ts)])),(5,.bx (.agg [(vi dp),(vi dt),(.fz dl dz ks)])),(22,.ow 3 [(.agg [(vi 0),(vi 0),(.fz 1 0 [])])])] ?_
  refine .eo (fun _=>op_appr rfl rfl rfl rfl rfl rfl rfl rfl rfl rfl (new:=[_]) rfl (List.cons_ne_nil _ _) rfl rfl (by simp) (by show(_+1)*40≤70368744177664;first|omega|(simp;omega)) (by show _+1≤70368744177664;first|omega|(simp;omega)) rfl) [(0,.bx (.agg [(.ow 1 _),_])),(5,.bx (.agg [(vi dp),(vi dt),(.fz dl dz ks)])),(22,.ow 3 [(.agg [(vi 0),(vi 0),(.fz 1 0 [])])]),(23,.ow 3 _)] ?_
  refine .ro (fun _=>op_idxr rfl rfl rfl rfl rfl (by first|omega|(simp;done)|(simp;omega)) (by first|omega|(simp;done)|(simp;omega)) rfl rfl) (.ptr _ _ _) rfl ?_
  refine .so (fun _=>op_str rfl rfl rfl rfl (cs:=[(vi dp),(vi dt),(.fz dl dz ks)]) rfl rfl rfl (getAppN e21) rfl rfl) _ (apps_agg (List.cons_ne_nil _ _) rfl (getAppN e21) rfl) ?_
  refine .r (.ptr ⟨0,[]⟩ 0 0) ?_
  refine .r (.ptr ⟨0,[]⟩ 0 1) ?_
  refine .s [(0,.bx (.agg [(.ow 1 _),(.lk 23 _)])),(5,.bx (.agg [(vi dp),(vi dt),(.fz dl dz ks)])),(22,.ow 3 [(.agg [(vi 0),(vi 0),(.fz 1 0 [])])]),(23,.ow 3 _)] ?_
  refine .fin (fin_of (h1:=[(0,.bx (.agg [(.ow 1 _),(.ow 3 _)])),(5,.bx (.agg [(vi dp),(vi dt),(.fz dl dz ks)])),(22,.ow 3 [(.agg [(vi 0),(vi 0),(.fz 1 0 [])])])]) (resolve_skip rfl (resolve_skip rfl (resolve_skip rfl (resolve_skip rfl (resolve_lk rfl rfl rfl (by simp) (rfl)))))) (by simp[noLkH,noLk,noLkL_all,take_snoc,nst,nts,e21]) rfl) ?_
  show(⟨[],[(0,.bx (.agg [(.ow 1 _),(.ow 3 _)])),(5,.bx (.agg [(vi dp),(vi dt),(.fz dl dz ks)]))],[],false⟩:St)=_
  simp[take_snoc,e21]
 rintro s rfl
 exact Aq.mk rfl rfl
theorem push_q0 (hO:∀e∈O,e.f≠57) {st:List Int} {ks:List AV} {n dp dt:Int} {dl dz:Nat} (hs:st.length<2 ^ 40):Ans cx O 57 [.bx (.agg [.ow 1 (st.map vi),.fz 1 0 []]),vi n,.agg [vi dp,vi dt,.fz dl dz ks]] (.tup [],[.bx (.agg [.ow 1 ((st++[n]).map vi),.ow 3 ([.agg [vi dp,vi dt,.fz dl dz ks]])])]):=by
 have nst:(st.map vi).all noLk=true:=noLk_ints
 refine ans_q [2,1,0] (fn:=fn57) F57 (orc_none hO) ?_
 show Wq cx O 39 1 [] _ ⟨[(2,(.agg [(vi dp),(vi dt),(.fz dl dz ks)])),(1,(vi n)),(0,(.ptr ⟨0,[]⟩ 0 0))],[(0,.bx (.agg [(.ow 1 (st.map vi)),(.fz 1 0 [])]))],[],false⟩ _
 apply Wq.seq
 refine Wq.rg [5,1,0] ?_
 refine .e (.ptr ⟨5,[]⟩ 0 0) [(0,.bx (.agg [(.ow 1 (st.map vi)),(.fz 1 0 [])])),(5,.bx (.agg [(vi dp),(vi dt),(.fz dl dz ks)]))] ?_
 refine .done ⟨[(5,(.ptr ⟨5,[]⟩ 0 0)),(1,(vi n)),(0,(.ptr ⟨0,[]⟩ 0 0))],[(0,.bx (.agg [(.ow 1 (st.map vi)),(.fz 1 0 [])])),(5,.bx (.agg [(vi dp),(vi dt),(.fz dl dz ks)]))],[],false⟩ ?_
 apply Wq.seq
 refine Wq.jn (fun s=>s=⟨[(5,(.ptr ⟨5,[]⟩ 0 0)),(0,(.ptr ⟨0,[]⟩ 0 0))],[(0,.bx (.agg [(.ow 1 ((st++[n]).map vi)),(.fz 1 0 [])])),(5,.bx (.agg [(vi dp),(vi dt),(.fz dl dz ks)]))],[],false⟩) ?_ ?_
 ·refine Wq.rg [5,0] ?_
  iterate 2 (refine .p (.ptr ⟨0,[]⟩ 0 0) ?_)
  iterate 2 (refine .r (.ptr ⟨0,[]⟩ 0 0) ?_)
  refine .r (.rf _ _ _ _) ?_
  refine .p (vi n) ?_
  refine .e (.rf _ _ _ _) [(0,.bx (.agg [(.ow 1 (st.map vi)),(.fz 1 0 [])])),(5,.bx (.agg [(vi dp),(vi dt),(.fz dl dz ks)])),(12,.ow 1 ([n].map vi))] ?_
  refine .eo (fun _=>op_appr rfl rfl rfl rfl rfl rfl rfl rfl rfl rfl (new:=[_]) rfl (List.cons_ne_nil _ _) rfl rfl (by simp) (by show(_+1)*8≤70368744177664;first|omega|(simp;omega)) (by show _+1≤70368744177664;first|omega|(simp;omega)) rfl) [(0,.bx (.agg [_,(.fz 1 0 [])])),(5,.bx (.agg [(vi dp),(vi dt),(.fz dl dz ks)])),(12,.ow 1 ([n].map vi)),(13,.ow 1 _)] ?_
  iterate 2 (refine .r (.ptr ⟨0,[]⟩ 0 0) ?_)
  refine .s [(0,.bx (.agg [(.lk 13 _),(.fz 1 0 [])])),(5,.bx (.agg [(vi dp),(vi dt),(.fz dl dz ks)])),(12,.ow 1 ([n].map vi)),(13,.ow 1 _)] ?_
  refine .fin (fin_of (h1:=[(0,.bx (.agg [(.ow 1 _),(.fz 1 0 [])])),(5,.bx (.agg [(vi dp),(vi dt),(.fz dl dz ks)])),(12,.ow 1 ([n].map vi))]) (resolve_skip rfl (resolve_lk rfl rfl rfl (by simp) (rfl))) (by simp[noLkH,noLk,noLkL_all,take_map_self,take_map_snoc,nst]) rfl) ?_
  show(⟨[(5,(.ptr ⟨5,[]⟩ 0 0)),(0,(.ptr ⟨0,[]⟩ 0 0))],[(0,.bx (.agg [(.ow 1 _),(.fz 1 0 [])])),(5,.bx (.agg [(vi dp),(vi dt),(.fz dl dz ks)]))],[],false⟩:St)=_
  simp[take_map_self,take_map_snoc]
 rintro s rfl
 refine Wq.jn (fun s=>s=⟨[],[(0,.bx (.agg [(.ow 1 ((st++[n]).map vi)),(.ow 3 [(.agg [(vi dp),(vi dt),(.fz dl dz ks)])])])),(5,.bx (.agg [(vi dp),(vi dt),(.fz dl dz ks)]))],[],false⟩) ?_ ?_
 ·refine Wq.rg [] ?_
  refine .p (.ptr ⟨0,[]⟩ 0 0) ?_
  refine .r (.ptr ⟨0,[]⟩ 0 0) ?_
  refine .r (.ptr ⟨0,[]⟩ 0 1) ?_
  refine .r (.fz 1 0 []) ?_
  refine .r (.agg [(vi dp),(vi dt),(.fz dl dz ks)]) ?_
  refine .p (vi 0) ?_
  refine .e (.rf _ _ _ _) [(0,.bx (.agg [(.ow 1 _),(.fz 1 0 [])])),(5,.bx (.agg [(vi dp),(vi dt),(.fz dl dz ks)])),(22,.ow 3 [(.agg [(vi 0),(vi 0),(.fz 1 0 [])])])] ?_
  refine .e (.rf _ _ _ _) [(0,.bx (.agg [(.ow 1 _),(.fz 1 0 [])])),(5,.bx (.agg [(vi dp),(vi dt),(.fz dl dz ks)])),(22,.ow 3 [(.agg [(vi 0),(vi 0),(.fz 1 0 [])])]),(23,.ow 3 [(.agg [(vi 0),(vi 0),(.fz 1 0 [])])])] ?_
  refine .ro (fun _=>op_idxr rfl rfl rfl rfl rfl (by first|omega|(simp;done)|(simp;omega)) (by first|omega|(simp;done)|(simp;omega)) rfl rfl) (.ptr _ _ _) rfl ?_
  refine .so (fun _=>op_str rfl rfl rfl rfl (cs:=[(vi dp),(vi dt),(.fz dl dz ks)]) rfl rfl rfl rfl rfl rfl) _ (apps_agg (List.cons_ne_nil _ _) rfl rfl rfl) ?_
  refine .r (.ptr ⟨0,[]⟩ 0 0) ?_
  refine .r (.ptr ⟨0,[]⟩ 0 1) ?_
  refine .s [(0,.bx (.agg [(.ow 1 _),(.lk 23 _)])),(5,.bx (.agg [(vi dp),(vi dt),(.fz dl dz ks)])),(22,.ow 3 [(.agg [(vi 0),(vi 0),(.fz 1 0 [])])]),(23,.ow 3 [(.agg [(vi dp),(vi dt),(.fz dl dz ks)])])] ?_
  refine .fin (fin_of (h1:=[(0,.bx (.agg [(.ow 1 _),(.ow 3 [(.agg [(vi dp),(vi dt),(.fz dl dz ks)])])])),(5,.bx (.agg [(vi dp),(vi dt),(.fz dl dz ks)])),(22,.ow 3 [(.agg [(vi 0),(vi 0),(.fz 1 0 [])])])]) (resolve_skip rfl (resolve_skip rfl (resolve_skip rfl (resolve_lk rfl rfl rfl (by simp) (rfl))))) (by simp[noLkH,noLk,noLkL_all,nst]) rfl) ?_
  show(⟨[],[(0,.bx (.agg [(.ow 1 _),(.ow 3 [(.agg [(vi dp),(vi dt),(.fz dl dz ks)])])])),(5,.bx (.agg [(vi dp),(vi dt),(.fz dl dz ks)]))],[],false⟩:St)=_
  simp
 rintro s rfl
 exact Aq.mk rfl rfl
theorem push_q (hO:∀e∈O,e.f≠57) {st:List Int} {ts:List AV} {tb:Bool} {s:Int} {d:AV} (hd:isTree d=true) (h1:st.length<2 ^ 40) (h2:ts.length<2 ^ 40) (h3:ts.all isTree=true) (h4:tb=false→ts=[]):Ans cx O 57 [.bx (.agg [.ow 1 (st.map vi),oc 3 tb ts]),vi s,d] (.tup [],[.bx (.agg [.ow 1 ((st++[s]).map vi),.ow 3 (ts++[d])])]):=by
 obtain⟨dp,dt,dl,dz,ks,rfl⟩:=isTree_iff hd
 cases tb with
 |true=>exact push_q1 hO (noLk_tree h3) h1 h2
 |false=>
  obtain rfl:ts=[]:=h4 rfl
  exact push_q0 hO h1
noncomputable def fn37:FnS:=(mkA Try.f37 ⟨21,[0],true,[]⟩).getD ⟨.skip,0,[],[],0,[],false,[]⟩
theorem F37:cx.F 37=some fn37:=by kernel_rfl
theorem clone_n (hO:∀e∈O,e.f≠37):Ans cx O 37 [.fz 1 0 []] (.fz 1 0 [],[]):=by
 refine ans_q [0] (fn:=fn37) F37 (orc_none hO) ?_
 show Wq cx O 21 0 [] _ ⟨[(0,.fz 1 0 [])],[],[],false⟩ _
 apply Wq.seq
 refine Wq.rg [2,0] ?_
 refine .p (.fz 1 0 []) ?_
 refine .done ⟨[(2,.fz 1 0 []),(0,.fz 1 0 [])],[],[],false⟩ ?_
 apply Wq.seq
 apply Wq.seq
 refine Wq.rg [4,0] ?_
 refine .p (.fz 1 0 []) ?_
 refine .p (.bool true) ?_
 refine .done ⟨[(4,.bool true),(0,.fz 1 0 [])],[],[],false⟩ ?_
 refine Wq.cond rfl (fun hx=>?_) (fun hx=>by cases hx)
 apply Wq.seq
 refine Wq.rg [2] ?_
 refine .p (.fz 1 0 []) ?_
 refine .done ⟨[(2,.fz 1 0 [])],[],[],false⟩ ?_
 refine Wq.ret ?_
 exact Aq.mk rfl rfl
theorem clone_q (hO:∀e∈O,e.f≠37) {es:List AV} (hl:es.length<2 ^ 40):Ans cx O 37 [.fz 2 3 es] (.ow 3 es,[]):=by
 refine ans_q [0] (fn:=fn37) F37 (orc_none hO) ?_
 show Wq cx O 21 0 [] _ ⟨[(0,.fz 2 3 es)],[],[],false⟩ _
 apply Wq.seq
 refine Wq.rg [2,0] ?_
 refine .p (.fz 1 0 []) ?_
 refine .done ⟨[(2,.fz 1 0 []),(0,.fz 2 3 es)],[],[],false⟩ ?_
 apply Wq.seq
 apply Wq.seq
 refine Wq.rg [4,0] ?_
 refine .p (.fz 2 3 es) ?_
 refine .p (.bool false) ?_
 refine .done ⟨[(4,.bool false),(0,.fz 2 3 es)],[],[],false⟩ ?_
 refine Wq.cond rfl (fun hx=>by cases hx) (fun hx=>?_)
 refine Wq.skip ?_
 apply Wq.seq
 rcases es with _|⟨e0,es⟩
 ·refine Wq.rg [2] ?_
  refine .e (.rf 3 ⟨5,[]⟩ 0 0) [(5,.ow 3 [])] ?_
  refine .p (.fz 2 3 []) ?_
  refine .r (.rf 3 ⟨5,[]⟩ 0 0) ?_
  refine .p (.rf 3 ⟨5,[]⟩ 0 0) ?_
  refine .done ⟨[(2,.rf 3 ⟨2,[]⟩ 0 0)],[(2,.ow 3 [])],[],false⟩ ?_
  refine Wq.ret ?_
  exact Aq.mk rfl rfl
 ·refine Wq.rg [2] ?_
  refine .e (.rf 3 ⟨5,[]⟩ 0 0) [(5,.ow 3 [])] ?_
  refine .p (.fz 2 3 (e0::es)) ?_
  refine .eo (fun _=>op_appr rfl rfl rfl rfl rfl rfl rfl rfl rfl rfl (new:=e0::es) rfl (List.cons_ne_nil _ _) rfl rfl (Nat.le_refl _) (by show(0+(e0::es).length)*40≤70368744177664;omega) (by show 0+(e0::es).length≤70368744177664;omega) rfl) [(7,.ow 3 (e0::es))] ?_
  refine .p (.rf 3 ⟨7,[]⟩ 0 (0+(e0::es).length)) ?_
  refine .done ⟨[(2,.rf 3 ⟨2,[]⟩ 0 (0+(e0::es).length))],[(2,.ow 3 (e0::es))],[],false⟩ ?_
  refine Wq.ret ?_
  exact Aq.mk (out_of rfl (expResL_cons (expRes1_rf rfl rfl (Nat.zero_add _)) rfl) rfl rfl) rfl
end Go.Am.Pull
end
