/- The texts Am1, Am2, Am3, Am4, Am5, Am6, Am7, Am8, Am9, Am10, Am11, Am12, Am13, Am14, Am15, Am16, Am17, Am18, Am19, Am20, Am21, Am22 of this proof. -/
import Derived.Below
import Derived.KernelRfl
import Derived.Orders
import Derived.WalkKit
import Derived.WalkLawsBesides
section
namespace Go.Am
structure Pl where
 r:Nat
 p:List (Nat×Nat)
 deriving DecidableEq,Repr,Inhabited
inductive AV where
 |int (k:IntKind) (n:Int)
 |bool (b:Bool)
 |str (s:ByteArray)
 |nilp
 |un
 |fz (lab:Nat) (sz:Nat) (es:List AV)
 |ow (sz:Nat) (es:List AV)
 |fp (lab:Nat) (e:AV) (off:Nat)
 |bx (e:AV)
 |mp (ks vs:List AV)
 |agg (cs:List AV)
 |tup (vs:List AV)
 |rf (sz:Nat) (pl:Pl) (off len:Nat)
 |ptr (pl:Pl) (i off:Nat)
 |mrf (r:Nat)
 |lk (r len:Nat)
 deriving Inhabited
def cells:AV→List AV
 | .agg cs=>cs
 |a=>[a]
inductive TyK where
 |int (k:IntKind)|bool|str
 |ptr (elem:Nat)
 |slice (elem:Nat)
 |struct (fs:List (Nat×Nat×Nat))
 |map (k e:Nat)
 |other
 deriving DecidableEq,Inhabited
structure TyI where
 size:Nat
 bytes:Nat
 kind:TyK
 zero:Option AV
 flat:Option (List TyK)
 deriving Inhabited
def TyI.isAgg (i:TyI):Bool:=match i.kind with| .struct _=>true|_=>false
def step1:AV→Nat×Nat→Option AV
 | .ow _ es,(i,j)=>(es[i]?).bind fun e=>(cells e)[j]?
 | .bx e,(i,j)=>if i=0 then(cells e)[j]? else none
 |_,_=>none
def getT:AV→List (Nat×Nat)→Option AV
 |a,[]=>some a
 |a,s::p=>(step1 a s).bind fun x=>getT x p
def putCell (e:AV) (j:Nat) (c:AV):AV:=
 match e with
 | .agg cs=>.agg (cs.set j c)
 |a=>if j=0 then c else a
def put1:AV→Nat×Nat→AV→AV
 | .ow sz es,(i,j),c=>match es[i]? with|some e=>.ow sz (es.set i (putCell e j c))|none=>.ow sz es
 | .bx e,(_,j),c=>.bx (putCell e j c)
 |a,_,_=>a
def setT:AV→List (Nat×Nat)→AV→AV
 |_,[],c=>c
 |a,s::p,c=>match step1 a s with|some x=>put1 a s (setT x p c)|none=>a
inductive Tr (α:Type) where
 |leaf
 |node (v:Option α) (l r:Tr α)
def Tr.get {α:Type}:Tr α→Nat→Option α
 | .leaf,_=>none
 | .node v l r,n=>cond (Nat.beq n 0) v (cond (Nat.beq (n % 2) 1) (l.get (n / 2)) (r.get (n / 2 - 1)))
abbrev Hp:=List (Nat×AV)
def hget:Hp→Nat→Option AV
 |[],_=>none
 |(k,x)::h,i=>cond (Nat.beq i k) (some x) (hget h i)
def hins:Hp→Nat→AV→Hp
 |[],i,a=>[(i,a)]
 |(k,x)::h,i,a=>cond (Nat.beq i k) ((i,a)::h) (cond (Nat.ble i k) ((i,a)::(k,x)::h) ((k,x)::hins h i a))
def tins:Hp→Nat→AV→Hp
 |[],i,a=>[(i,a)]
 |(k,x)::h,i,a=>cond (Nat.beq i k) ((i,a)::h) (cond (Nat.ble k i) ((i,a)::(k,x)::h) ((k,x)::tins h i a))
def tget (t:Hp) (i:Nat):AV:=match hget t i with|some a=>a|none=>.un
def hdel:Hp→Nat→Hp
 |[],_=>[]
 |(k,x)::h,i=>cond (Nat.beq i k) (hdel h i) ((k,x)::hdel h i)
def getP (h:Hp) (pl:Pl):Option AV:=(hget h pl.r).bind fun a=>getT a pl.p
def pre:List (Nat×Nat)→List (Nat×Nat)→Bool
 |[],_=>true
 |_::_,[]=>false
 |a::p,b::q=>Nat.beq a.1 b.1&&Nat.beq a.2 b.2&&pre p q
def Pl.pre (a b:Pl):Bool:=Nat.beq a.r b.r&&Am.pre a.p b.p
def Pl.cell (a:Pl) (i j:Nat):Pl:=⟨a.r,a.p++[(i,j)]⟩
inductive Up where
 |set (pl:Pl) (a:AV)
 |fill (pl:Pl) (a:AV)
 |inn (pl:Pl) (a:AV)
 |new (r:Nat) (a:AV)
 |del (r:Nat)
structure Rd where
 pl:Pl
 deep:Bool
structure Eff where
 val:AV
 rd:List Rd
 up:List Up
def Up.app (h:Hp):Up→Hp
 | .set pl a| .inn pl a| .fill pl a=>match hget h pl.r with|some t=>hins h pl.r (setT t pl.p a)|none=>h
 | .new r a=>hins h r a
 | .del r=>hdel h r
def Up.apps:List Up→Hp→Hp
 |[],h=>h
 |u::us,h=>Up.apps us (u.app h)
def Up.hits:Up→Rd→Bool
 | .set q _,r=>q.pre r.pl||(r.deep&&r.pl.pre q)
 | .inn q _,r=>(q.pre r.pl&&q.p.length !=r.pl.p.length)||(r.deep&&r.pl.pre q)
 | .new s _,r=>Nat.beq s r.pl.r
 | .fill q _,r=>Nat.beq q.r r.pl.r
 | .del s,r=>Nat.beq s r.pl.r
def Up.pl:Up→Pl
 | .set q _| .inn q _| .fill q _=>q
 | .new s _| .del s=>⟨s,[]⟩
def Up.meets (a b:Up):Bool:=a.pl.pre b.pl||b.pl.pre a.pl
def Up.isNew:Up→Bool
 | .new .. =>true
 | .fill .. =>true
 |_=>false
structure St where
 t:Hp
 h:Hp
 d:List Up
 alias:Bool:=false
def oops {α:Type} (_:String):Option α:=none
def look (s:St) (deep:Bool) (pl:Pl):Option AV:=
 if s.d.any (·.hits ⟨pl,deep⟩)then oops "stale" else getP s.h pl
def view (pl:Pl):AV→AV
 | .ow sz es=>.rf sz pl 0 es.length
 | .bx _=>.ptr pl 0 0
 | .mp _ _=>.un
 | .lk _ _=>.un
 |a=>a
def fN {β:Type} (n:Nat) (k:Nat→β):β:=match n with|0=>k 0|m+1=>k (m+1)
def fI {β:Type} (n:Int) (k:Int→β):β:=match n with| .ofNat m=>fN m fun m=>k (.ofNat m)| .negSucc m=>fN m fun m=>k (.negSucc m)
def fL {α β:Type}:List α→(List α→β)→β
 |[],k=>k []
 |a::l,k=>fL l fun l=>k (a::l)
def fB {β:Type} (b:Bool) (k:Bool→β):β:=match b with|true=>k true|false=>k false
def fA {β:Type} (a:AV) (k:AV→β):β:=
 match a with
 | .int i n=>fI n fun n=>k (.int i n)
 | .bool b=>fB b fun b=>k (.bool b)
 | .fz l sz es=>fL es fun es=>k (.fz l sz es)
 | .ow sz es=>fL es fun es=>k (.ow sz es)
 | .fp l e o=>fN o fun o=>k (.fp l e o)
 | .agg cs=>fL cs fun cs=>k (.agg cs)
 | .tup cs=>fL cs fun cs=>k (.tup cs)
 | .rf sz pl o n=>fN o fun o=>fN n fun n=>k (.rf sz pl o n)
 | .ptr pl i o=>fN i fun i=>fN o fun o=>k (.ptr pl i o)
 | .mp ks vs=>fL ks fun ks=>fL vs fun vs=>k (.mp ks vs)
 |a=>k a
mutual
def fD {β:Type}:AV→(AV→β)→β
 | .int i n,k=>fI n fun n=>k (.int i n)
 | .bool b,k=>fB b fun b=>k (.bool b)
 | .fz l sz es,k=>fDL es fun es=>k (.fz l sz es)
 | .ow sz es,k=>fDL es fun es=>k (.ow sz es)
 | .fp l e o,k=>fD e fun e=>fN o fun o=>k (.fp l e o)
 | .bx e,k=>fD e fun e=>k (.bx e)
 | .agg cs,k=>fDL cs fun cs=>k (.agg cs)
 | .tup cs,k=>fDL cs fun cs=>k (.tup cs)
 | .mp ks vs,k=>fDL ks fun ks=>fDL vs fun vs=>k (.mp ks vs)
 | .rf sz pl o n,k=>fN o fun o=>fN n fun n=>k (.rf sz pl o n)
 | .ptr pl i o,k=>fN i fun i=>fN o fun o=>k (.ptr pl i o)
 |a,k=>k a
def fDL {β:Type}:List AV→(List AV→β)→β
 |[],k=>k []
 |a::l,k=>fD a fun a=>fDL l fun l=>k (a::l)
end
mutual
/-- what is owned, down to what is frozen -/
def fO {β:Type}:AV→(AV→β)→β
 | .int i n,k=>fI n fun n=>k (.int i n)
 | .bool b,k=>fB b fun b=>k (.bool b)
 | .ow sz es,k=>fOL es fun es=>k (.ow sz es)
 | .bx e,k=>fO e fun e=>k (.bx e)
 | .agg cs,k=>fOL cs fun cs=>k (.agg cs)
 | .mp ks vs,k=>fOL ks fun ks=>fOL vs fun vs=>k (.mp ks vs)
 | .fz l sz es,k=>k (.fz l sz es)
 | .fp l e o,k=>k (.fp l e o)
 | .str s,k=>k (.str s)
 |a,k=>k a
def fOL {β:Type}:List AV→(List AV→β)→β
 |[],k=>k []
 |a::l,k=>fO a fun a=>fOL l fun l=>k (a::l)
end
def fH {β:Type}:Hp→(Hp→β)→β
 |[],k=>k []
 |(i,a)::h,k=>fO a fun a=>fH h fun h=>k ((i,a)::h)
def fT {β:Type}:Hp→(Hp→β)→β
 |[],k=>k []
 |(i,a)::h,k=>fA a fun a=>fT h fun h=>k ((i,a)::h)
mutual
/-- no link stands in it -/
def noLk:AV→Bool
 | .ow _ es=>noLkL es
 | .bx e=>noLk e
 | .agg cs=>noLkL cs
 | .lk _ _=>false
 |_=>true
def noLkL:List AV→Bool
 |[]=>true
 |a::l=>noLk a&&noLkL l
end
def noLkH:Hp→Bool
 |[]=>true
 |(_,a)::h=>noLk a&&noLkH h
def nonAgg:AV→Bool
 | .agg _=>false
 |_=>true
def isNode:AV→Bool
 | .ow .. | .bx _| .mp .. =>true
 |_=>false
def cv1:Value→AV
 | .int k n=>.int k n
 | .bool b=>.bool b
 | .string s=>.str s
 | .pointer none=>.nilp
 | .slice none 0 0=>.fz 1 0 []
 |_=>.un
def one:Value→Bool
 | .agg _| .tuple _=>false
 |_=>true
def cv:Value→AV
 | .agg cs=>if cs.toList.all one then .agg (cs.toList.map cv1)else .un
 |v=>cv1 v
end Go.Am
end
section
namespace Go.Am
def mkK (P:Program):TypeDesc→TyK
 | .int k=>.int k
 | .bool=>.bool
 | .string=>.str
 | .pointer e=>.ptr e
 | .slice e=>.slice e
 | .struct fs=>.struct (fs.toList.map fun f=>(f.offset,f.type,P.cellsOf f.type))
 | .map k e=>.map k e
 |_=>.other
def TyK.plain:TyK→Bool
 | .int _| .bool| .str=>true
 |_=>false
def flatFields (P:Program):Nat→List Field→Option (List TyK)
 |_,[]=>some []
 |n,f::fs=>
  match (P.underlying f.type).map (mkK P)with
  |some k=>
   if f.name != "_" &&f.offset==n&&P.cellsOf f.type==1&&k.plain then(match flatFields P (n+1) fs with|some l=>some (k::l)|none=>none)else none
  |none=>none
def mkFlat (P:Program) (t:TypeId):TypeDesc→Option (List TyK)
 | .struct fs=>if !P.stoodInHeld t&& !P.eqGuardType P.depth t then flatFields P 0 fs.toList else none
 |_=>none
def okDesc (P:Program):TypeDesc→Bool
 | .array _ _=>false
 | .struct fs=>fs.toList.all fun f=>(P.info? f.type).isSome
 |_=>true
def zeroOk (i:TypeInfo):Bool:=match i.zero with|some v=>Nat.beq v.cells.size i.size|none=>false
def mkTy (P:Program) (t:TypeId):Option TyI:=
 match P.info? t with
 |none=>none
 |some i=>match P.underlying t with
  |none=>none
  |some d=>
   if okDesc P d&&zeroOk i then some {size:=i.size,bytes:=i.bytes,kind:=mkK P d,zero:=(i.zero.filter fun v=>v.cells.toList.all one).map cv,flat:=mkFlat P t d} else none
inductive Md where|view|move|give|io
 deriving DecidableEq,Inhabited
structure FnS where
 body:Code
 ntmps:Nat
 params:List Nat
 results:List ResultVar
 keep:Nat
 modes:List Md
 own:Bool
 noMove:List Nat:=[]
structure Cx where
 T:Nat→Option TyI
 F:Nat→Option FnS
def Cx.kind (cx:Cx) (t:Nat):Option TyK:=match cx.T t with|some i=>some i.kind|none=>none
def Cx.flat (cx:Cx) (t:Nat):Option (List TyK):=match cx.T t with|some i=>i.flat|none=>none
abbrev CallF:=Nat→List AV→Option (AV×List AV)
def ev (s:St):Operand→AV
 | .tmp t=>tget s.t t
 | .const v=>cv v
 |_=>.un
def useOk (s:St) (pl:Pl):Bool:= !s.d.any (·.hits ⟨pl,false⟩)
def ldCells (s:St) (pl:Pl) (i:Nat):Nat→Nat→Option (List AV)
 |_,0=>some []
 |off,n+1=>
  match look s false (pl.cell i off)with
  |none=>none
  |some c=>match ldCells s pl i (off+1) n with
   |none=>none
   |some r=>some (view (pl.cell i off) c::r)
def rdCells (pl:Pl) (i:Nat):Nat→Nat→List Rd
 |_,0=>[]
 |off,n+1=>⟨pl.cell i off,false⟩::rdCells pl i (off+1) n
def gone (pl:Pl):Up:=if pl.p.isEmpty then .del pl.r else .set pl .un
def absorb1 (s:St):AV→Option (AV×List Rd×List Up)
 | .rf sz pl off len=>
  if s.alias then some (.un,[],[])else
  match look s true pl with
  |some (.ow sz' es)=>if sz'=sz∧off+len≤es.length then some (.ow sz ((es.drop off).take len),[⟨pl,true⟩],[gone pl])else oops "absorb: bounds"
  |_=>oops "absorb: no owned slice"
 | .ptr pl i off=>
  if s.alias then some (.un,[],[])else
  if i=0∧off=0 then
   match look s true pl with
   |some (.bx e)=>some (.bx e,[⟨pl,true⟩],[gone pl])
   |_=>oops "absorb: no owned variable"
  else oops "absorb: inner pointer"
 | .mrf _| .agg _| .tup _=>oops "absorb: kind"
 |a=>some (a,[],[])
def absorbL (s:St):List AV→Option (List AV×List Rd×List Up)
 |[]=>some ([],[],[])
 |a::l=>
  match absorb1 s a with
  |none=>none
  |some (x,r,u)=>match absorbL s l with
   |none=>none
   |some (xs,rs,us)=>some (x::xs,r++rs,u++us)
def absorbE (s:St):AV→Option (AV×List Rd×List Up)
 | .agg cs=>match absorbL s cs with|some (xs,r,u)=>some (.agg xs,r,u)|none=>none
 |a=>absorb1 s a
def putNew (s:St) (pl:Pl) (i:Nat):Nat→List AV→Option (List AV×List Rd×List Up)
 |_,[]=>some ([],[],[])
 |off,a::l=>
  match absorb1 s a with
  |none=>none
  |some (x,r,us)=>
   match putNew s pl i (off+1) l with
   |none=>none
   |some (bs,rs,vs)=>match us with
    |[]=>some (x::bs,r++rs,vs)
    |u::_=>some (.un::bs,r++rs,u::.fill (pl.cell i off) x::vs)
def putEl (s:St) (pl:Pl) (i:Nat) (e:AV):Option (AV×List Rd×List Up):=
 match e with
 | .agg cs=>match putNew s pl i 0 cs with|some (bs,r,u)=>some (.agg bs,r,u)|none=>none
 |a=>match putNew s pl i 0 [a]with|some ([b],r,u)=>some (b,r,u)|_=>none
def putEls (s:St) (pl:Pl):Nat→List AV→Option (List AV×List Rd×List Up)
 |_,[]=>some ([],[],[])
 |i,a::l=>
  match putEl s pl i a with
  |none=>none
  |some (x,r,u)=>match putEls s pl (i+1) l with
   |none=>none
   |some (xs,rs,us)=>some (x::xs,r++rs,u++us)
def putSt1 (s:St) (keep:Nat) (dst:Pl) (a:AV):Option (AV×List Rd×List Up):=
 match a with
 | .rf sz pl off len=>
  if s.alias then some (.un,[],[.set dst .un])else
  if pl.p.isEmpty&&off==0&& !(keep.testBit pl.r)then cond (useOk s pl) (some (.lk pl.r (len+1),[⟨pl,false⟩],[.set dst (.lk pl.r (len+1))])) (oops "link: stale")else
  if pl.pre dst&&dst.pre pl then
   match look s true pl with
   |some (.ow sz' es)=>if sz'=sz∧off+len≤es.length then some (.ow sz ((es.drop off).take len),[⟨pl,true⟩],[.set dst (.ow sz ((es.drop off).take len))])else oops "cut: bounds"
   |_=>oops "cut: no owned slice"
  else match absorb1 s a with
   |some (x,r,us)=>some (x,r,us++[.set dst x])
   |none=>none
 | .ptr pl i off=>
  if !s.alias&&pl.p.isEmpty&&i==0&&off==0&& !(keep.testBit pl.r)then cond (useOk s pl) (some (.lk pl.r 0,[⟨pl,false⟩],[.set dst (.lk pl.r 0)])) (oops "link: stale")else
  match absorb1 s a with
  |some (x,r,us)=>some (x,r,us++[.set dst x])
  |none=>none
 |a=>match absorb1 s a with
  |some (x,r,us)=>some (x,r,us++[.set dst x])
  |none=>none
def putSt (s:St) (keep:Nat) (pl:Pl) (i:Nat):Nat→List AV→Option (List Rd×List Up)
 |_,[]=>some ([],[])
 |off,a::l=>
  match putSt1 s keep (pl.cell i off) a with
  |none=>none
  |some (_,r,u)=>match putSt s keep pl i (off+1) l with
   |none=>none
   |some (rs,us)=>some (r++rs,u++us)
def apartUps:List Up→Bool
 |[]=>true
 |u::us=>us.all (fun v=> !u.meets v)&&apartUps us
def mkVal (agg:Bool) (cs:List AV):Option AV:=
 if agg then some (.agg cs)else match cs with|[c]=>some c|_=>none
def isLk (r:Nat):Up→Bool
 | .set _ (.lk q _)=>Nat.beq q r
 |_=>false
def freshId (s:St) (r:Nat):Bool:=(hget s.h r).isNone&& !s.d.any (isLk r)
def setUps (pl:Pl) (i:Nat):Nat→List AV→List Up
 |_,[]=>[]
 |off,c::cs=>.set (pl.cell i off) c::setUps pl i (off+1) cs
def rowUps (pl:Pl):Nat→List AV→List Up
 |_,[]=>[]
 |i,e::es=>setUps pl i 0 (cells e)++rowUps pl (i+1) es
def cellsThere (s:St) (pl:Pl) (i:Nat):Nat→Nat→Bool
 |_,0=>true
 |off,n+1=>(getP s.h (pl.cell i off)).isSome&&cellsThere s pl i (off+1) n
mutual
/-- Owned memory is given up: it is never written again (lab 0), or it is lent (lab 2). -/
def frz (lab:Nat):AV→AV
 | .ow sz es=>.fz lab sz (frzL lab es)
 | .bx e=>.fp lab (frz lab e) 0
 | .agg cs=>.agg (frzL lab cs)
 | .tup cs=>.tup (frzL lab cs)
 | .mp _ _=>.un
 | .rf .. =>.un
 | .ptr .. =>.un
 | .mrf _=>.un
 | .lk _ _=>.un
 |a=>a
def frzL (lab:Nat):List AV→List AV
 |[]=>[]
 |a::l=>frz lab a::frzL lab l
end
mutual
/-- Is nothing in it that is lent? -/
def noLent:AV→Bool
 | .fz lab _ es=>lab !=2&&noLentL es
 | .fp lab e _=>lab !=2&&noLent e
 | .ow _ es=>noLentL es
 | .bx e=>noLent e
 | .agg cs=>noLentL cs
 | .tup cs=>noLentL cs
 | .mp ks vs=>noLentL ks&&noLentL vs
 |_=>true
def noLentL:List AV→Bool
 |[]=>true
 |a::l=>noLent a&&noLentL l
end
def plainCell:AV→Bool
 | .int .. | .bool _| .str _| .nilp| .un| .fz .. | .fp .. =>true
 |_=>false
def plainEl (e:AV):Bool:=(cells e).all plainCell
inductive IoR where
 |cells (ps:List Pl)
 |node (pl:Pl) (sz len:Nat)
structure Ex where
 v:AV
 rd:List Rd:=[]
 up:List Up:=[]
 lent:Bool:=false
 touch:List Pl:=[]
 io:List IoR:=[]
def expV1 (s:St):AV→Option Ex
 | .rf sz pl off len=>
  match look s true pl with
  |some (.ow sz' es)=>if sz'=sz∧off+len≤es.length then some {v:=.fz 2 sz (frzL 2 ((es.drop off).take len)),rd:=[⟨pl,true⟩],lent:=true} else oops "view: bounds"
  |_=>oops "view: no owned slice"
 | .ptr pl i off=>
  match look s true pl with
  |some (.ow _ es)=>match es[i]? with|some e=>some {v:=.fp 2 (frz 2 e) off,rd:=[⟨pl,true⟩],lent:=true}|none=>oops "view: ptr"
  |some (.bx e)=>if i=0 then some {v:=.fp 2 (frz 2 e) off,rd:=[⟨pl,true⟩],lent:=true} else oops "view: ptr"
  |_=>oops "view: no variable"
 | .mrf _| .agg _| .tup _=>oops "view: kind"
 |a=>some {v:=a}
def expVL (s:St):List AV→Option (List AV×List Rd×Bool)
 |[]=>some ([],[],false)
 |a::l=>
  match expV1 s a with
  |none=>none
  |some x=>match expVL s l with
   |none=>none
   |some (xs,rs,b)=>some (x.v::xs,x.rd++rs,x.lent||b)
def cellPls (pl:Pl) (i:Nat):Nat→Nat→List Pl
 |_,0=>[]
 |off,n+1=>pl.cell i off::cellPls pl i (off+1) n
def lookL (s:St):List Pl→Option (List AV)
 |[]=>some []
 |p::ps=>match look s true p with
  |none=>none
  |some c=>match lookL s ps with
   |none=>none
   |some cs=>some (c::cs)
def expArg (cx:Cx) (s:St) (ty:Nat) (m:Md) (a:AV):Option Ex:=
 match m with
 | .view=>
  match a with
  | .agg cs=>match expVL s cs with|some (xs,rs,b)=>some {v:=.agg xs,rd:=rs,lent:=b}|none=>none
  |a=>expV1 s a
 | .move=>
  match absorbE s a with|some (x,rs,us)=>some {v:=x,rd:=rs,up:=us,touch:=us.map Up.pl}|none=>none
 | .give=>
  match absorbE s a with|some (x,rs,us)=>some {v:=frz 0 x,rd:=rs,up:=us,touch:=us.map Up.pl}|none=>none
 | .io=>
  match a with
  | .ptr pl i off=>
   match cx.kind ty with
   |some (.ptr e)=>
    match cx.T e with
    |none=>none
    |some ti=>
     let ps:=cellPls pl i off ti.size
     match lookL s ps with
     |some cs=>
      if cs.isEmpty then oops "io: size 0" else
      match mkVal ti.isAgg cs with
      |some v=>some {v:=.bx v,rd:=ps.map fun p=>⟨p,true⟩,touch:=ps,io:=[.cells ps]}
      |none=>none
     |none=>oops "io: place"
   |_=>oops "io: type"
  | .rf sz pl off len=>
   match look s true pl with
   |some (.ow sz' es)=>
    if sz'=sz∧off=0∧len=es.length then
     some {v:=.ow sz es,rd:=[⟨pl,true⟩],touch:=[pl],io:=[.node pl sz len]}
    else oops "io: bounds"
   |_=>oops "io: no slice"
  | .fz 1 sz es=>some {v:=.fz 1 sz es}
  |_=>oops "io: kind"
def touches (ps:List Pl) (rs:List Rd):Bool:=ps.any fun p=>rs.any fun r=>p.pre r.pl||r.pl.pre p
structure Exs where
 vs:List AV:=[]
 rd:List Rd:=[]
 up:List Up:=[]
 lent:Bool:=false
 touch:List Pl:=[]
 io:List IoR:=[]
def expArgs (cx:Cx) (s:St):List Nat→List Md→List AV→Option Exs
 |ty::tys,m::ms,a::l=>
  match expArg cx s ty m a with
  |none=>none
  |some x=>match expArgs cx s tys ms l with
   |none=>none
   |some r=>
    if touches x.touch r.rd||touches r.touch x.rd then oops "args overlap" else
    some {vs:=x.v::r.vs,rd:=x.rd++r.rd,up:=x.up++r.up,lent:=x.lent||r.lent,touch:=x.touch++r.touch,io:=x.io++r.io}
 |_,_,[]=>some {}
 |_,_,_=>oops "args"
def ioUps:List IoR→List AV→Option (List Up)
 |[],[]=>some []
 | .cells ps::pss,.bx e::os=>
  if(cells e).length=ps.length then
   match ioUps pss os with
   |some us=>some (List.zipWith Up.set ps (cells e)++us)
   |none=>none
  else oops "io back: size"
 | .node pl sz len::pss,.ow sz' es'::os=>
  if sz'=sz∧es'.length=len then
   match ioUps pss os with
   |some us=>some (rowUps pl 0 es'++us)
   |none=>none
  else oops "io back: length"
 |_,_=>oops "io back"
def impCell (base:Nat):AV→AV×List Up
 | .ow sz es=>(.rf sz ⟨base,[]⟩ 0 es.length,[.new base (.ow sz es)])
 | .bx e=>(.ptr ⟨base,[]⟩ 0 0,[.new base (.bx e)])
 | .mp ks vs=>(.mrf base,[.new base (.mp ks vs)])
 |a=>(a,[])
def impL (base:Nat):List AV→List AV×List Up
 |[]=>([],[])
 |a::l=>let x:=impCell base a;let r:=impL (base+1) l;(x.1::r.1,x.2++r.2)
def imp1 (base:Nat):AV→AV×List Up
 | .agg cs=>let r:=impL base cs;(.agg r.1,r.2)
 |a=>impCell base a
def impT (base:Nat):List AV→List AV×List Up
 |[]=>([],[])
 |a::l=>let x:=imp1 base a;let r:=impT (base+64) l;(x.1::r.1,x.2++r.2)
def imp (base:Nat):AV→AV×List Up
 | .tup vs=>let r:=impT base vs;(.tup r.1,r.2)
 |a=>imp1 base a
def newsOk (s:St):List Up→Bool
 |[]=>true
 | .new r _::us=>freshId s r&&newsOk s us
 |_::us=>newsOk s us
def strB (s:ByteArray):List AV:=s.data.toList.map fun b=>.int .u8 b.toNat
def elems (s:St) (sz:Nat):AV→Option (List AV×List Rd×List Up)
 | .fz _ sz' es=>if sz'=sz∨es=[]then some (es,[],[])else oops "elems: size"
 | .str b=>if sz=1 then some (strB b,[],[])else none
 | .rf sz' pl off len=>
  match look s true pl with
  |some (.ow sz'' es)=>
   if sz'=sz∧sz''=sz∧off+len≤es.length then
    let l:=(es.drop off).take len
    if l.all plainEl then some (l,[⟨pl,true⟩],[])else some (l,[⟨pl,true⟩],[gone pl])
   else oops "elems: bounds"
  |_=>oops "elems: no owned slice"
 |_=>oops "elems: kind"
def cellEq (k:TyK) (a b:AV):Option Bool:=
 match k,a,b with
 | .int _,.int k n,.int k' m=>if k=k' then some (n==m)else none
 | .bool,.bool a,.bool b=>some (a==b)
 | .str,.str a,.str b=>some (a.toList==b.toList)
 |_,_,_=>none
def cellsEq:List TyK→List AV→List AV→Option Bool
 |[],[],[]=>some true
 |k::ks,a::l,b::m=>match cellEq k a b with
  |some true=>cellsEq ks l m
  |some false=>some false
  |none=>none
 |_,_,_=>none
def eqX (cx:Cx) (ty:Nat) (a b:AV):Option Bool:=
 match a,b with
 | .int k n,.int k' m=>if k=k' then some (n==m)else none
 | .str a,.str b=>some (a.toList==b.toList)
 | .bool a,.bool b=>match cx.kind ty with|some .bool=>some (a==b)|_=>none
 | .agg xs,.agg ys=>match cx.flat ty with|some ks=>cellsEq ks xs ys|none=>oops "==: struct"
 | .fz n _ _,.fz m _ _=>match cx.kind ty,m with|some (.slice _),1=>some (n==1)|_,_=>oops "==: slices"
 | .nilp,.nilp=>match cx.kind ty with|some (.ptr _)=>some true|_=>none
 | .fp _ _ _,.nilp=>match cx.kind ty with|some (.ptr _)=>some false|_=>none
 |_,_=>oops "=="
def binX (cx:Cx) (op:BinOp) (ty:Nat) (a b:AV):Option AV:=
 match op with
 | .eql=>(eqX cx ty a b).map .bool
 | .neq=>(eqX cx ty a b).map fun b=>.bool !b
 |_=>
  match a,b with
  | .int k x,.int k' y=>
   if k≠k' then oops "binop: kinds" else
   match op with
   | .add=>some (.int k (k.wrap (x+y)))
   | .sub=>some (.int k (k.wrap (x - y)))
   | .mul=>some (.int k (k.wrap (x*y)))
   | .quo=>if y=0 then oops "/0" else some (.int k (k.wrap (x.tdiv y)))
   | .rem=>if y=0 then oops "%0" else some (.int k (x.tmod y))
   | .lss=>some (.bool (decide (x<y)))
   | .leq=>some (.bool (decide (x≤y)))
   | .gtr=>some (.bool (decide (x> y)))
   | .geq=>some (.bool (decide (x≥y)))
   |_=>oops "binop: op"
  | .str x,.str y=>
   match op with
   | .add=>if x.size+y.size≤2 ^ 62 then some (.str (x++y))else none
   | .lss=>some (.bool (Op.bytesLess x.toList y.toList))
   | .leq=>some (.bool (Op.bytesLess x.toList y.toList||x.toList==y.toList))
   | .gtr=>some (.bool !(Op.bytesLess x.toList y.toList||x.toList==y.toList))
   | .geq=>some (.bool !Op.bytesLess x.toList y.toList)
   |_=>oops "binop: str op"
  |_,_=>oops "binop"
def known:AV→Bool
 | .un=>false
 | .tup _=>false
 |_=>true
def fillX (place:Nat→Option (Nat×Nat)) (cs:List AV):List (Nat×AV)→Option (List AV)
 |[]=>some cs
 |(i,v)::rest=>
  match place i with
  |none=>none
  |some (off,size)=>
   if(cells v).length≠size∨off+size> cs.length∨known v=false then oops "fill" else fillX place (cs.take off++cells v++cs.drop (off+size)) rest
def fillS (sz:Nat) (es:List AV):List (Nat×AV)→Option (List AV)
 |[]=>some es
 |(i,v)::rest=>cond (Nat.blt i es.length&&Nat.beq (cells v).length sz&&known v) (fillS sz (es.set i v) rest) none
def mlook (kd:TyK) (ks vs:List AV) (k:AV):Option (Option AV):=
 match ks,vs with
 |[],[]=>some none
 |x::ks,v::vs=>match cellEq kd k x with
  |some true=>some (some v)
  |some false=>mlook kd ks vs k
  |none=>none
 |_,_=>none
def mput (kd:TyK):List AV→List AV→AV→AV→List AV×List AV
 |x::ks,y::vs,k,v=>match cellEq kd k x with
  |some true=>(k::ks,v::vs)
  |_=>let r:=mput kd ks vs k v;(x::r.1,y::r.2)
 |_,_,k,v=>([k],[v])
def roomB:Nat:=2 ^ 46
def offL:Nat→List AV→List (Nat×AV)
 |_,[]=>[]
 |k,a::l=>if isNode a then(k,a)::offL (k+1) l else offL (k+1) l
def off1 (k:Nat):AV→List (Nat×AV)
 | .agg cs=>offL k cs
 |a=>offL k [a]
def offT:Nat→List AV→List (Nat×AV)
 |_,[]=>[]
 |k,a::l=>off1 k a++offT (k+64) l
def offs:AV→List (Nat×AV)
 | .tup vs=>offT 0 vs
 |a=>off1 0 a
def knownT:AV→Bool
 | .tup vs=>vs.all known
 |_=>true
def nodupK:List (Nat×AV)→Bool
 |[]=>true
 |x::l=>l.all (fun y=> !Nat.beq x.1 y.1)&&nodupK l
def callX (cx:Cx) (call:CallF) (s:St) (d:Nat) (f:Nat) (args:List AV):Option Eff:=
 match cx.F f with
 |none=>oops "no function"
 |some fn=>
  match expArgs cx s fn.params fn.modes args with
  |none=>none
  |some x=>
   fDL x.vs fun vs=>
   match call f vs with
   |none=>none
   |some (res,outs)=>fD res fun res=>fDL outs fun outs=>
    if x.lent&& !(noLent res&&noLentL outs)then oops "lent" else
    match ioUps x.io outs with
    |none=>none
    |some ius=>
     let r:=if fn.own then imp (1024*(d+1)) res else(frz 0 res,[])
     if !s.alias&&noLkL vs&&Nat.ble x.io.length 1&&apartUps (x.up++ius)&&newsOk s r.2 then some {val:=r.1,rd:=x.rd,up:=x.up++ius++r.2} else oops "call: ups"
def pureE (v:AV):Eff:={val:=v,rd:=[],up:=[]}
def oPick (c a b:AV):Option Eff:=match c with| .bool t=>some (pureE (cond t a b))|_=>oops "pick"
def oAlloc (cx:Cx) (s:St) (d:Option Nat) (ty:Nat):Option Eff:=
 match d,cx.T ty with
 |some d,some i=>match i.zero with
  |some z=>cond (freshId s d) (some {val:=.ptr ⟨d,[]⟩ 0 0,rd:=[],up:=[.new d (.bx z)]}) (oops "alloc: id")
  |none=>oops "alloc: zero"
 |_,_=>oops "alloc"
def oBox (s:St) (d:Option Nat) (x:AV):Option Eff:=
 match d with
 |some d=>match putEl s ⟨d,[]⟩ 0 x with
  |some (v,rs,us)=>cond (freshId s d&&apartUps us&&known x&& !s.alias) (some {val:=.ptr ⟨d,[]⟩ 0 0,rd:=rs,up:=.new d (.bx v)::us}) (oops "box: id")
  |none=>oops "box"
 |none=>oops "box"
def oBuild (cx:Cx) (ty:Nat) (ps:List (Nat×AV)):Option Eff:=
 match cx.T ty with
 |some i=>match i.kind,i.zero with
  | .struct fs,some (.agg zs)=>match fillX (fun k=>(fs[k]?).map fun f=>(f.1,f.2.2)) zs ps with
   |some cs=>some (pureE (.agg cs))
   |none=>none
  |_,_=>oops "build"
 |none=>none
def oBuildSlice (cx:Cx) (s:St) (d:Option Nat) (ty len:Nat) (ps:List (Nat×AV)):Option Eff:=
 match d,cx.kind ty with
 |some d,some (.slice e)=>match cx.T e with
  |some ei=>match ei.zero with
   |some z=>
    match fillS ei.size (List.replicate len z) ps with
    |some es=>
     match putEls s ⟨d,[]⟩ 0 es with
     |some (bs,rs,us)=>
      cond (freshId s d&&apartUps us&&Nat.beq (cells z).length ei.size&&known z&&Nat.ble 1 ei.size&&Nat.ble (len*ei.size) (2 ^ 24)&& !s.alias)
       (some {val:=.rf ei.size ⟨d,[]⟩ 0 bs.length,rd:=rs,up:=.new d (.ow ei.size bs)::us}) (oops "buildSlice: id")
     |none=>none
    |none=>none
   |none=>none
  |none=>none
 |_,_=>oops "buildSlice"
def oLoad (cx:Cx) (s:St) (ty:Nat) (a:AV):Option Eff:=
 match cx.T ty with
 |some i=>
  match a with
  | .fp _ e off=>
   let cs:=((cells e).drop off).take i.size
   cond (Nat.beq cs.length i.size) (match mkVal i.isAgg cs with|some v=>some (pureE v)|none=>none) (oops "load: size")
  | .ptr pl k off=>
   match ldCells s pl k off i.size with
   |some cs=>cond (Nat.beq i.size 0) (oops "load: size 0") (match mkVal i.isAgg cs with|some v=>some {val:=v,rd:=rdCells pl k off i.size,up:=[]}|none=>none)
   |none=>none
  |_=>oops "load: address"
 |none=>none
def lkOk (us:List Up):Bool:=us.all fun u=>match u with| .set _ (.lk r _)=>us.all (fun v=> !Nat.beq v.pl.r r)|_=>true
def oStore (cx:Cx) (keep:Nat) (s:St) (ty:Nat) (a x:AV):Option Eff:=
 match cx.T ty with
 |some i=>
  match a with
  | .ptr pl k off=>
   match putSt s keep pl k off (cells x)with
   |some (rs,us)=>
    cond (Nat.beq (cells x).length i.size&&known x&&useOk s pl&&cellsThere s pl k off i.size&&apartUps us&&lkOk us) (some {val:=.tup [],rd:=rs++[⟨pl,false⟩],up:=us}) (oops "store")
   |none=>none
  |_=>oops "store: address"
 |none=>none
def oNil (s:St) (a:AV):Option Eff:=
 match a with
 | .ptr pl _ _=>cond (useOk s pl) (some {val:=a,rd:=[⟨pl,false⟩],up:=[]}) (oops "nilCheck: stale")
 | .fp _ _ _=>some (pureE a)
 |_=>oops "nilCheck"
def oUn (op:UnOp) (a:AV):Option Eff:=
 match op,a with
 | .not,.bool b=>some (pureE (.bool !b))
 | .neg,.int k n=>some (pureE (.int k (k.wrap (0 - n))))
 |_,_=>oops "unOp"
def oMakeSlice (cx:Cx) (s:St) (d:Option Nat) (ty:Nat) (l c:AV):Option Eff:=
 match d,cx.kind ty with
 |some d,some (.slice e)=>match cx.T e with
  |some ei=>match ei.zero,l,c with
   |some z,.int _ n,.int _ m=>
    cond (decide (0≤n)&&decide (n≤m)&&decide (m*ei.bytes≤roomB)&&decide (m≤roomB)&&freshId s d&&Nat.beq (cells z).length ei.size&&plainEl z)
     (some {val:=.rf ei.size ⟨d,[]⟩ 0 n.toNat,rd:=[],up:=[.new d (.ow ei.size (List.replicate n.toNat z))]})
     (oops "makeSlice: bounds")
   |_,_,_=>oops "makeSlice: args"
  |none=>none
 |_,_=>oops "makeSlice"
def bound (o:Option AV) (dflt:Nat) (lim:Nat):Option Nat:=
 match o with
 |none=>some dflt
 |some x=>match x with
  | .int _ n=>cond (decide (0≤n)&&decide (n≤lim)) (some n.toNat) (oops "slice: bounds")
  |_=>none
def oSlice (cx:Cx) (s:St) (ty:Nat) (x:AV) (lo hi:Option AV):Option Eff:=
 match x with
 | .str b=>match bound hi b.size b.size with
  |some h=>match bound lo 0 h with
   |some l=>match cx.kind ty with
    |some .str=>some (pureE (.str (b.extract l h)))
    |_=>none
   |none=>none
  |none=>none
 | .fz nil sz es=>match bound hi es.length es.length with
  |some h=>match bound lo 0 h with
   |some l=>match cx.kind ty with
    |some (.slice e)=>match cx.T e with
     |some ei=>cond (Nat.beq nil 1||Nat.beq sz ei.size) (some (pureE (.fz nil sz ((es.take h).drop l)))) (oops "slice: size")
     |none=>none
    |_=>none
   |none=>none
  |none=>none
 | .rf sz pl off len=>match bound hi len len with
  |some h=>match bound lo 0 h with
   |some l=>match cx.kind ty with
    |some (.slice e)=>match cx.T e with
     |some ei=>cond (Nat.beq sz ei.size&&useOk s pl) (some {val:=.rf sz pl (off+l) (h - l),rd:=[⟨pl,false⟩],up:=[]}) (oops "slice: stale")
     |none=>none
    |_=>none
   |none=>none
  |none=>none
 |_=>oops "slice"
def oFieldAddr (cx:Cx) (s:St) (ty:Nat) (a:AV) (f:Nat):Option Eff:=
 match cx.kind ty with
 |some (.struct fs)=>match fs[f]? with
  |some (o,_,n)=>
   match n with
   |0=>oops "fieldAddr: 0"
   |_+1=>
    match a with
    | .fp lab e off=>some (pureE (.fp lab e (off+o)))
    | .ptr pl i off=>cond (useOk s pl) (some {val:=.ptr pl i (off+o),rd:=[⟨pl,false⟩],up:=[]}) (oops "fieldAddr: stale")
    |_=>oops "fieldAddr: addr"
  |none=>none
 |_=>oops "fieldAddr: type"
def oField (cx:Cx) (ty:Nat) (a:AV) (f:Nat):Option Eff:=
 match cx.kind ty,a with
 |some (.struct fs),.agg cs=>match fs[f]? with
  |some (o,t,n)=>match cx.T t with
   |some i=>let l:=(cs.drop o).take n
         cond (Nat.beq l.length n&&Nat.beq n i.size) (match mkVal i.isAgg l with|some v=>some (pureE v)|none=>none) none
   |none=>none
  |none=>none
 |_,_=>oops "field"
def oIndexAddr (cx:Cx) (s:St) (ty:Nat) (x ix:AV):Option Eff:=
 match cx.kind ty,ix with
 |some (.slice e),.int _ n=>match cx.T e with
  |some ei=>match x with
   | .fz lab sz es=>match (if 0≤n then es[n.toNat]? else none)with
     |some a=>cond (Nat.beq sz ei.size) (some (pureE (.fp lab a 0))) (oops "indexAddr: size")
     |none=>oops "indexAddr: bounds"
   | .rf sz pl off len=>cond (decide (0≤n)&&decide (n<len)&&Nat.beq sz ei.size&&useOk s pl) (some {val:=.ptr pl (off+n.toNat) 0,rd:=[⟨pl,false⟩],up:=[]}) (oops "indexAddr: rf")
   |_=>oops "indexAddr: kind"
  |none=>none
 |_,_=>oops "indexAddr: type"
def oIndex (cx:Cx) (ty:Nat) (x ix:AV):Option Eff:=
 match cx.kind ty,x,ix with
 |some .str,.str b,.int _ n=>match (if 0≤n then b.data.toList[n.toNat]? else none)with|some c=>some (pureE (.int .u8 c.toNat))|none=>oops "index"
 |_,_,_=>oops "index"
def oExtract (x:AV) (ix:Nat):Option Eff:=
 match x with
 | .tup vs=>match vs[ix]? with|some v=>some (pureE v)|none=>none
 |_=>oops "extract"
def oMakeMap (s:St) (d:Option Nat):Option Eff:=
 match d with
 |some d=>cond (freshId s d) (some {val:=.mrf d,rd:=[],up:=[.new d (.mp [] [])]}) none
 |none=>none
def isKey (kd:TyK) (k:AV):Bool:=
 match kd,k with
 | .int _,.int _ _=>true
 | .bool,.bool _=>true
 | .str,.str _=>true
 |_,_=>false
def oMapUpdate (cx:Cx) (s:St) (ty:Nat) (m k v:AV):Option Eff:=
 match cx.kind ty,m with
 |some (.map kt _),.mrf r=>match cx.kind kt,look s true ⟨r,[]⟩with
  |some kd,some (.mp ks vs)=>match mlook kd ks vs k with
   |some _=>cond (plainCell v&&known v&&isKey kd k)
     (let p:=mput kd ks vs k v
     some {val:=.tup [],rd:=[⟨⟨r,[]⟩,true⟩],up:=[.inn ⟨r,[]⟩ (.mp p.1 p.2)]}) none
   |none=>none
  |_,_=>oops "mapUpdate"
 |_,_=>oops "mapUpdate: kind"
def oLookup (cx:Cx) (s:St) (ty:Nat) (x k:AV) (ok:Bool):Option Eff:=
 match cx.kind ty,x with
 |some (.map kt e),.mrf r=>match cx.kind kt,cx.T e,look s true ⟨r,[]⟩with
  |some kd,some ei,some (.mp ks vs)=>match mlook kd ks vs k,ei.zero with
   |some (some v),_=>cond (isKey kd k) (some {val:=cond ok (.tup [v,.bool true]) v,rd:=[⟨⟨r,[]⟩,true⟩],up:=[]}) none
   |some none,some z=>cond (isKey kd k&&known z) (some {val:=cond ok (.tup [z,.bool false]) z,rd:=[⟨⟨r,[]⟩,true⟩],up:=[]}) none
   |_,_=>none
  |_,_,_=>oops "lookup"
 |_,_=>oops "lookup: kind"
def oLen (cx:Cx) (s:St) (ty:Nat) (x:AV):Option Eff:=
 match cx.kind ty,x with
 |some .str,.str b=>some (pureE (.int .i64 b.size))
 |some (.slice _),.fz _ _ es=>some (pureE (.int .i64 es.length))
 |some (.slice _),.rf _ pl _ n=>cond (useOk s pl) (some {val:=.int .i64 n,rd:=[⟨pl,false⟩],up:=[]}) (oops "len: stale")
 |some (.map _ _),.mrf r=>match look s true ⟨r,[]⟩with
  |some (.mp ks _)=>some {val:=.int .i64 ks.length,rd:=[⟨⟨r,[]⟩,true⟩],up:=[]}
  |_=>none
 |_,_=>oops "len"
def oApp1 (s:St) (d sz bytes:Nat) (a:AV) (new:List AV) (rs:List Rd) (us:List Up):Option Eff:=
 match new with
 |[]=>
  match a with
  | .fz _ _ _=>cond us.isEmpty (some {val:=a,rd:=rs,up:=[]}) none
  | .rf _ pl _ _=>cond (useOk s pl&&us.isEmpty) (some {val:=a,rd:=⟨pl,false⟩::rs,up:=[]}) none
  |_=>none
 |_::_=>
  match a with
  | .fz nil _ es=>
   cond (Nat.beq nil 1&&es.isEmpty&&Nat.ble (new.length*bytes) roomB&&Nat.ble new.length roomB&&freshId s d&&apartUps us)
    (some {val:=.rf sz ⟨d,[]⟩ 0 new.length,rd:=rs,up:=us++[.new d (.ow sz new)]})
    (oops "append: frozen")
  | .rf sz' pl off len=>
   match look s true pl with
   |some (.ow sz'' es)=>
    cond (Nat.beq sz' sz&&Nat.beq sz'' sz&&Nat.ble (off+len) es.length&&Nat.ble ((len+new.length)*bytes) roomB&&Nat.ble (len+new.length) roomB&&freshId s d&&apartUps (gone pl::us))
     (some {val:=.rf sz ⟨d,[]⟩ 0 (len+new.length),rd:=⟨pl,true⟩::rs,up:=gone pl::us++[.new d (.ow sz ((es.drop off).take len++new))]})
     (oops "append: bounds")
   |_=>oops "append: no owned slice"
  |_=>oops "append: kind"
def oAppend (cx:Cx) (s:St) (d:Option Nat) (tys:List Nat) (args:List AV):Option Eff:=
 match d,args,tys with
 |some d,[a,x],[ty,xt]=>match cx.kind ty,cx.kind xt with
  |_,some (.int _)=>oops "append: of make"
  |some (.slice e),some _=>match cx.T e with
   |some ei=>match elems s ei.size x with
    |some (new,rs,us)=>oApp1 s d ei.size ei.bytes a new rs us
    |none=>none
   |none=>none
  |_,_=>oops "append: type"
 |_,_,_=>oops "append"
def oCopy (cx:Cx) (s:St) (tys:List Nat) (args:List AV):Option Eff:=
 match args,tys with
 |[.rf sz pl off len,x],ty::_=>match cx.kind ty with
  |some (.slice e)=>match cx.T e with
   |some ei=>match elems s ei.size x,look s false pl with
    |some (new,rs,[]),some (.ow sz' es)=>
     let n:=min new.length len
     cond (Nat.beq sz ei.size&&Nat.beq sz' ei.size&&Nat.ble (off+len) es.length)
      (some {val:=.int .i64 n,rd:=⟨pl,false⟩::rs,up:=rowUps pl off (new.take n)})
      (oops "copy")
    |_,_=>oops "copy: args"
   |none=>none
  |_=>none
 |_,_=>oops "copy: kind"
def oMin (args:List AV):Option Eff:=
 match args with
 |[.int k x,.int _ y]=>some (pureE (.int k (if y<x then y else x)))
 |_=>oops "min"
def oMax (args:List AV):Option Eff:=
 match args with
 |[.int k x,.int _ y]=>some (pureE (.int k (if y> x then y else x)))
 |_=>oops "max"
def oBuiltin (cx:Cx) (s:St) (d:Option Nat) (b:Builtin) (tys:List Nat) (args:List AV):Option Eff:=
 match b with
 | .len=>match args,tys with|[x],[ty]=>oLen cx s ty x|_,_=>none
 | .append=>oAppend cx s d tys args
 | .copy=>oCopy cx s tys args
 | .min=>oMin args
 | .max=>oMax args
 |_=>oops "builtin"
def oCall (cx:Cx) (call:CallF) (s:St) (d:Option Nat) (c:Call):Option Eff:=
 match c.callee with
 | .builtin b=>oBuiltin cx s d b c.argTypes.toList (c.args.toList.map (ev s))
 | .value (.func f)=>callX cx call s (d.getD 0) f (c.args.toList.map (ev s))
 |_=>oops "call"
def oBin (cx:Cx) (op:BinOp) (ty:Nat) (a b:AV):Option Eff:=match binX cx op ty a b with|some v=>some (pureE v)|none=>none
def opX (cx:Cx) (call:CallF) (keep:Nat) (s:St) (o:Oper):Option Eff:=
 match o.op with
 | .move x=>some (pureE (ev s x))
 | .assign x=>some (pureE (ev s x))
 | .pick c a b=>oPick (ev s c) (ev s a) (ev s b)
 | .alloc ty=>oAlloc cx s o.dst ty
 | .box _ x=>oBox s o.dst (ev s x)
 | .build ty ps=>oBuild cx ty (ps.toList.map fun p=>(p.1,ev s p.2))
 | .buildSlice ty len ps=>oBuildSlice cx s o.dst ty len (ps.toList.map fun p=>(p.1,ev s p.2))
 | .load ty x=>oLoad cx s ty (ev s x)
 | .store ty x y=>oStore cx keep s ty (ev s x) (ev s y)
 | .nilCheck x=>oNil s (ev s x)
 | .binOp op ty x y _=>oBin cx op ty (ev s x) (ev s y)
 | .unOp op _ x=>oUn op (ev s x)
 | .makeSlice ty l c=>oMakeSlice cx s o.dst ty (ev s l) (ev s c)
 | .slice ty x lo hi none=>oSlice cx s ty (ev s x) (lo.map (ev s)) (hi.map (ev s))
 | .fieldAddr ty x f=>oFieldAddr cx s ty (ev s x) f
 | .field ty x f=>oField cx ty (ev s x) f
 | .indexAddr ty x ix=>oIndexAddr cx s ty (ev s x) (ev s ix)
 | .index ty x ix=>oIndex cx ty (ev s x) (ev s ix)
 | .extract x ix=>oExtract (ev s x) ix
 | .makeMap _ none=>oMakeMap s o.dst
 | .makeMap ty (some r)=>match cx.kind ty,ev s r with|some (.map _ _),.int _ _=>oMakeMap s o.dst|_,_=>oops "makeMap"
 | .mapUpdate ty m k v=>oMapUpdate cx s ty (ev s m) (ev s k) (ev s v)
 | .insert ty m k v=>oMapUpdate cx s ty (ev s m) (ev s k) (ev s v)
 | .lookup ty x k ok=>oLookup cx s ty (ev s x) (ev s k) ok
 | .call c=>oCall cx call s o.dst c
 |_=>oops "op"
def putX (t:Hp) (d:Option Nat) (v:AV):Hp:=match d with|some d=>tins t d v|none=>t
def wantX (ops:Array Oper) (s:St) (o:Oper):Option Bool:=
 match o.guard with
 |none=>some true
 |some (j,want)=>match (ops[j]?).bind (·.dst)with
  |none=>none
  |some d=>match tget s.t d with
   | .bool b=>some (b==want)
   | .tup []=>some false
   |_=>oops "guard"
def Up.touch (u:Up) (r:Rd):Bool:=u.hits r||(match u with| .inn q _=>Nat.beq q.r r.pl.r|_=>false)
def lkN:Up→Up→Bool
 | .set _ (.lk q _),.new r _=>Nat.beq q r
 |_,_=>false
def Up.clash (u v:Up):Bool:=u.meets v||lkN u v||lkN v u
def indep (a b:Eff):Bool:=
 (a.up.isEmpty||(b.rd.all fun r=>a.up.all fun u=> !u.touch r)&&(b.up.all fun v=>a.up.all fun u=> !u.clash v))&&
 (b.up.isEmpty||(a.rd.all fun r=>b.up.all fun u=> !u.touch r))
def checkX (ops:Array Oper) (k:Nat) (e:Eff):List (Nat×Eff)→Bool
 |[]=>true
 |(i,e')::log=>(indep e' e||((Region.before ops).getD k 0).testBit i)&&checkX ops k e log
def fU {β:Type} (us:List Up) (h:Hp) (k:Hp→β):β:=match us with|[]=>k h|us=>fH (Up.apps us h) k
def upOk (io:Nat):Up→Bool
 | .set pl a| .fill pl a=> !pl.p.isEmpty&&nonAgg a
 | .inn pl _=>pl.p.isEmpty
 | .new r _=> !io.testBit r
 | .del _=>true
def runOps (cx:Cx) (call:CallF) (keep io:Nat) (ops:Array Oper) (draw:Bool):List Oper→Nat→St→List (Nat×Eff)→Option St
 |[],_,s,_=>some s
 |o::os,k,s,log=>
  match wantX ops s o with
  |none=>none
  |some false=>runOps cx call keep io ops draw os (k+1) {s with t:=putX s.t o.dst (.tup [])} log
  |some true=>
   match opX cx call keep s o with
   |none=>none
   |some e=>
    if !(e.up.all (upOk io))then oops "up" else
    if draw&& !(checkX ops k e log)then oops "order" else
    fA e.val fun v=>fU e.up s.h fun h=>
    runOps cx call keep io ops draw os (k+1) {s with t:=putX s.t o.dst v,h:=h,d:=s.d++e.up.filter fun u=> !u.isNew} ((k,e)::log)
def refTo (r:Nat):AV→Bool
 | .rf _ pl _ _=>pl.r==r
 | .ptr pl _ _=>pl.r==r
 | .mrf q=>q==r
 | .agg cs=>cs.any fun| .rf _ pl _ _=>pl.r==r| .ptr pl _ _=>pl.r==r| .mrf q=>q==r|_=>false
 | .tup _=>true
 |_=>false
def clearR (r:Nat):Hp→Hp
 |[]=>[]
 |(i,a)::t=>(i,if refTo r a then .un else a)::clearR r t
def killX:List Oper→St→St
 |[],s=>s
 |o::os,s=>
  match o.dst with
  |some d=>match o.op with
   | .alloc _| .box .. | .buildSlice .. | .makeSlice .. | .makeMap .. =>if(hget s.h d).isSome then killX os {s with t:=clearR d s.t,h:=hdel s.h d} else killX os s
   |_=>killX os s
  |none=>killX os s
def staleC (d:List Up):AV→Bool
 | .rf _ pl _ _=>d.any (·.hits ⟨pl,false⟩)
 | .ptr pl _ _=>d.any (·.hits ⟨pl,false⟩)
 | .mrf r=>d.any (·.hits ⟨⟨r,[]⟩,false⟩)
 |_=>false
def stale (d:List Up):AV→Bool
 | .agg cs=>cs.any (staleC d)
 | .tup _=>true
 |a=>staleC d a
def keepT (d:List Up) (keep:Nat):Hp→Hp
 |[]=>[]
 |(i,a)::t=>if keep.testBit i then(i,if stale d a then .un else a)::keepT d keep t else keepT d keep t
def renC (r q:Nat):AV→AV
 | .rf sz pl off len=>if pl.r=r then .rf sz ⟨q,pl.p⟩ off len else .rf sz pl off len
 | .ptr pl i off=>if pl.r=r then .ptr ⟨q,pl.p⟩ i off else .ptr pl i off
 | .mrf p=>if p=r then .mrf q else .mrf p
 |a=>a
def ren (r q:Nat):AV→AV
 | .agg cs=>.agg (cs.map (renC r q))
 | .tup _=>.un
 |a=>renC r q a
def adopt (keep io:Nat) (k:Nat) (s:St):St:=
 match (match tget s.t k with| .rf _ pl _ _=>some pl.r| .ptr pl _ _=>some pl.r| .mrf r=>some r|_=>none)with
 |none=>s
 |some r=>
  if keep.testBit r||io.testBit k then s else
  match hget s.h r with
  |none=>s
  |some tr=>
   let t1:=clearR k s.t
   {s with t:=t1.map fun x=>(x.1,ren r k x.2),h:=hins (hdel (hdel s.h k) r) k tr}
def adoptAll (keep io:Nat):List Oper→St→St
 |[],s=>s
 |o::os,s=>
  match o.dst with
  |some d=>if keep.testBit d then(match o.op with| .assign _=>adoptAll keep io os (adopt keep io d s)|_=>adoptAll keep io os s)else adoptAll keep io os s
  |none=>adoptAll keep io os s
def keepH (keep:Nat):Hp→Hp
 |[]=>[]
 |(k,a)::h=>if keep.testBit k then(k,a)::keepH keep h else keepH keep h
def refC (h:Hp):AV→Bool
 | .rf _ pl _ _=>(hget h pl.r).isSome
 | .ptr pl _ _=>(hget h pl.r).isSome
 | .mrf r=>(hget h r).isSome
 |_=>true
def refIn (h:Hp):AV→Bool
 | .agg cs=>cs.all (refC h)
 | .tup _=>false
 |a=>refC h a
def keepR (h:Hp):Hp→Hp
 |[]=>[]
 |(i,a)::t=>(i,if refIn h a then a else .un)::keepR h t
def clearI (d:List Up):Hp→Hp
 |[]=>[]
 |(i,a)::t=>(i,if stale d a then .un else a)::clearI d t
def isSl:AV→Bool
 | .ow _ _=>true
 | .fz _ _ _=>true
 |_=>false
def frzJ (r j:Nat) (s:St):St:=
 match hget s.h r with
 |some (.bx (.agg cs))=>(match cs[j]? with
  |some c=>cond (isSl c) {s with t:=clearI [.set ⟨r,[(0,j)]⟩ .un] s.t,h:=Up.app s.h (.set ⟨r,[(0,j)]⟩ (frz 0 c))} s
  |none=>s)
 |_=>s
def frzS:List Nat→Nat→St→St
 |[],_,s=>s
 |e::nm,id,s=>match Nat.beq (e % 65536) (id+32769)with
  |true=>frzJ (e / 4194304) (e / 65536 % 64) (frzS nm id s)
  |false=>frzS nm id s
def resolve:List Up→Hp→Hp→Option (Hp×Hp)
 |[],t,h=>some (t,h)
 | .set pl (.lk r len)::us,t,h=>
  match getP h pl,hget h r with
  |some (.lk r' len'),some tr=>
   if r'≠r∨pl.r=r∨len'≠len∨pl.p=[]then oops "link" else
   match tr with
   | .ow sz es=>if 1≤len∧len≤es.length+1 then resolve us (clearR r t) (Up.app (hdel h r) (.set pl (.ow sz (es.take (len - 1)))))else oops "link: length"
   | .bx e=>if len=0 then resolve us (clearR r t) (Up.app (hdel h r) (.set pl (.bx e)))else oops "link: a slice"
   |_=>oops "link: kind"
  |_,_=>oops "link: gone"
 |_::us,t,h=>resolve us t h
def isLkU:Up→Bool
 | .set _ (.lk _ _)=>true
 |_=>false
def finX (keep io:Nat) (ops:List Oper) (s:St):Option St:=
 match resolve s.d (keepT s.d keep s.t) s.h with
 |none=>none
 |some (t,h)=>
  if s.d.any isLkU&& !(noLkH h)then oops "a link is left" else
  let s2:=adoptAll keep io ops {t:=t,h:=h,d:=[],alias:=false}
  fH (keepH keep s2.h) fun h=>fT (keepR h s2.t) fun t=>some {t:=t,h:=h,d:=[],alias:=false}
def regionX (cx:Cx) (call:CallF) (keep io:Nat) (ops:Array Oper) (draw alias:Bool) (s:St):Option St:=
 match runOps cx call keep io ops draw ops.toList 0 {killX ops.toList s with alias:=alias} []with
 |none=>none
 |some s'=>finX keep io ops.toList s'
def keepAt (keep:Nat):List Nat→Nat→Nat
 |[],_=>keep
 |e::nm,id=>match Nat.beq (e % 65536) (id+1)with|true=>Nat.xor (keepAt keep nm id) (e / 65536)|false=>keepAt keep nm id
inductive Xt where|normal|exit (id:Nat)|ret
 deriving DecidableEq
def execX (cx:Cx) (call:CallF) (keep io:Nat) (noMove:List Nat):Nat→Code→St→Option (Xt×St)
 |0,_,_=>oops "fuel"
 |n+1,c,s=>
  match c with
  | .skip=>some (.normal,s)
  | .region id ops draw=>match regionX cx call (keepAt keep noMove id) io ops draw (noMove.contains id) (frzS noMove id s)with|some s'=>some (.normal,s')|none=>none
  | .seq a b=>match execX cx call keep io noMove n a s with
   |some (.normal,s')=>execX cx call keep io noMove n b s'
   |r=>r
  | .cond c a b=>match ev s c with
   | .bool true=>execX cx call keep io noMove n a s
   | .bool false=>execX cx call keep io noMove n b s
   |_=>oops "cond"
  | .block id b=>match execX cx call keep io noMove n b s with
   |some (.exit id',s')=>if id'=id then some (.normal,s')else some (.exit id',s')
   |r=>r
  | .loop b=>match execX cx call keep io noMove n b s with
   |some (.normal,s')=>execX cx call keep io noMove n (.loop b) s'
   |r=>r
  | .exit id=>some (.exit id,s)
  | .ret=>some (.ret,s)
  |_=>oops "code"
def entryArg (k:Nat) (a:AV):AV×List Up:=
 match a with
 | .agg cs=>let r:=impL (100000+1024*k) cs;(.agg r.1,r.2)
 |a=>impCell k a
def entryL:Nat→List AV→List AV×List Up
 |_,[]=>([],[])
 |k,a::l=>let x:=entryArg k a;let r:=entryL (k+1) l;(x.1::r.1,x.2++r.2)
def entryT:Nat→List AV→Hp→Hp
 |_,[],t=>t
 |k,a::l,t=>entryT (k+1) l (tins t k a)
def resVals (cx:Cx) (s:St):List ResultVar→Option (List AV)
 |[]=>some []
 | .tmp t::rs=>match resVals cx s rs with|some l=>some (tget s.t t::l)|none=>none
 | .cell a ty::rs=>
  match cx.T ty,tget s.t a with
  |some i,.ptr pl k off=>
   match ldCells s pl k off i.size with
   |some cs=>match mkVal i.isAgg cs,resVals cx s rs with
    |some v,some l=>some (v::l)
    |_,_=>none
   |none=>none
  |_,_=>oops "result cell"
def expRes1 (s:St):AV→Option (AV×List Up)
 | .mrf r=>match look s true ⟨r,[]⟩with|some (.mp ks vs)=>some (.mp ks vs,[.del r])|_=>none
 |a=>match absorbE s a with|some (x,_,us)=>some (x,us)|none=>none
def expResL (s:St):List AV→Option (List AV×List Up)
 |[]=>some ([],[])
 |a::l=>match expRes1 s a with
  |none=>none
  |some (x,us)=>match expResL s l with
   |none=>none
   |some (xs,vs)=>some (x::xs,us++vs)
def ioOuts (s:St):Nat→List Md→List AV→Option (List AV×List Up)
 |k,m::ms,a::as=>
  match ioOuts s (k+1) ms as with
  |none=>none
  |some (l,us)=>
   if m=.io∧isNode a=true then match getP s.h ⟨k,[]⟩with
    |some (.bx e)=>some (.bx e::l,.del k::us)
    |some (.ow sz es)=>some (.ow sz es::l,.del k::us)
    |_=>oops "io: gone"
   else some (l,us)
 |_,_,_=>some ([],[])
def resOf:List AV→AV
 |[x]=>x
 |xs=>.tup xs
def ioMask:Nat→List Md→Nat
 |_,[]=>0
 |k,m::ms=>(if m=.io then 2 ^ k else 0)|||ioMask (k+1) ms
def unT (keep:Nat):Nat→Hp
 |0=>[]
 |n+1=>if keep.testBit n then(n,.un)::unT keep n else unT keep n
def evF (cx:Cx) (N:Nat) (call:CallF):CallF:=fun f args=>
 match cx.F f with
 |none=>none
 |some fn=>
  let e:=entryL 0 args
  if !(apartUps e.2)then oops "entry" else
  fT (entryT 0 e.1 (unT fn.keep fn.ntmps)) fun t0=>
  let s:St:={t:=t0,h:=Up.apps e.2 [],d:=[]}
  fN (ioMask 0 fn.modes) fun io=>
  match execX cx call fn.keep io fn.noMove N fn.body s with
  |some (.exit _,_)=>none
  |none=>none
  |some (_,s')=>
   let s2:St:={t:=s'.t,h:=s'.h,d:=[]}
   match resVals cx s2 fn.results with
   |none=>none
   |some vs=>
    match expResL s2 vs,ioOuts s2 0 fn.modes args with
    |some (xs,us),some (outs,ws)=>
     if apartUps (us++ws)&&nodupK (offs (resOf xs))&&knownT (resOf xs)then some (resOf xs,outs)else oops "results"
    |_,_=>none
end Go.Am
end
section
namespace Go.Am
theorem fN_eq {β:Type} (n:Nat) (k:Nat→β):fN n k=k n:=by cases n<;>rfl
theorem fI_eq {β:Type} (n:Int) (k:Int→β):fI n k=k n:=by cases n<;>simp[fI,fN_eq]
theorem fL_eq {α β:Type} (l:List α) (k:List α→β):fL l k=k l:=by
 induction l generalizing k with
 |nil=>rfl
 |cons a l ih=>simp[fL,ih]
theorem fB_eq {β:Type} (b:Bool) (k:Bool→β):fB b k=k b:=by cases b<;>rfl
theorem fA_eq {β:Type} (a:AV) (k:AV→β):fA a k=k a:=by
 cases a<;>simp[fA,fN_eq,fI_eq,fL_eq,fB_eq]
mutual
theorem fD_eq {β:Type} (a:AV) (k:AV→β):fD a k=k a:=by
 cases a<;>simp[fD,fN_eq,fI_eq,fB_eq,fD_eq,fDL_eq]
theorem fDL_eq {β:Type} (l:List AV) (k:List AV→β):fDL l k=k l:=by
 cases l<;>simp[fDL,fD_eq,fDL_eq]
end
mutual
theorem fO_eq {β:Type} (a:AV) (k:AV→β):fO a k=k a:=by
 cases a<;>simp[fO,fI_eq,fB_eq,fO_eq,fOL_eq]
theorem fOL_eq {β:Type} (l:List AV) (k:List AV→β):fOL l k=k l:=by
 cases l<;>simp[fOL,fO_eq,fOL_eq]
end
theorem fH_eq {β:Type} (h:Hp) (k:Hp→β):fH h k=k h:=by
 induction h generalizing k with
 |nil=>rfl
 |cons x h ih=>obtain⟨i,a⟩:=x;simp[fH,fO_eq,ih]
theorem fT_eq {β:Type} (h:Hp) (k:Hp→β):fT h k=k h:=by
 induction h generalizing k with
 |nil=>rfl
 |cons x h ih=>obtain⟨i,a⟩:=x;simp[fT,fA_eq,ih]
theorem fU_eq {β:Type} (us:List Up) (h:Hp) (k:Hp→β):fU us h k=k (Up.apps us h):=by
 cases us<;>simp[fU,fH_eq,Up.apps]
theorem nbT (i:Nat):Nat.beq i i=true:=by simp
theorem nbF {i k:Nat} (h:i≠k):Nat.beq i k=false:=by
 cases hb:Nat.beq i k with
 |false=>rfl
 |true=>exact absurd (by simpa using hb) h
theorem hget_hins (h:Hp) (i j:Nat) (a:AV):hget (hins h i a) j=if j=i then some a else hget h j:=by
 induction h with
 |nil=>
  by_cases hj:j=i
  ·simp[hins,hget,hj]
  ·simp[hins,hget,hj,nbF hj]
 |cons x h ih=>
  obtain⟨k,x⟩:=x
  simp only[hins]
  by_cases h1:i=k
  ·subst h1
   by_cases hj:j=i
   ·simp[hget,hj]
   ·simp[hget,hj,nbF hj]
  ·simp only[nbF h1,cond_false]
   cases h2:Nat.ble i k with
   |true=>
    by_cases hj:j=i
    ·simp[hget,hj]
    ·simp[hget,hj,nbF hj]
   |false=>
    simp only[cond_false,hget]
    by_cases hj:j=k
    ·subst hj
     have:¬j=i:=fun e=>h1 e.symm
     simp[this]
    ·simp only[nbF hj,cond_false,ih]
theorem hget_tins (h:Hp) (i j:Nat) (a:AV):hget (tins h i a) j=if j=i then some a else hget h j:=by
 induction h with
 |nil=>
  by_cases hj:j=i
  ·simp[tins,hget,hj]
  ·simp[tins,hget,hj,nbF hj]
 |cons x h ih=>
  obtain⟨k,x⟩:=x
  simp only[tins]
  by_cases h1:i=k
  ·subst h1
   by_cases hj:j=i
   ·simp[hget,hj]
   ·simp[hget,hj,nbF hj]
  ·simp only[nbF h1,cond_false]
   cases h2:Nat.ble k i with
   |true=>
    by_cases hj:j=i
    ·simp[hget,hj]
    ·simp[hget,hj,nbF hj]
   |false=>
    simp only[cond_false,hget]
    by_cases hj:j=k
    ·subst hj
     have:¬j=i:=fun e=>h1 e.symm
     simp[this]
    ·simp only[nbF hj,cond_false,ih]
theorem hget_hdel (h:Hp) (i j:Nat):hget (hdel h i) j=if j=i then none else hget h j:=by
 induction h with
 |nil=>simp[hdel,hget]
 |cons x h ih=>
  obtain⟨k,x⟩:=x
  simp only[hdel]
  by_cases h1:i=k
  ·subst h1
   by_cases hj:j=i
   ·subst hj;simp only[nbT,cond_true,ih,if_true]
   ·simp[hget,hj,ih,nbF hj]
  ·simp only[nbF h1,cond_false,hget]
   by_cases hj:j=k
   ·subst hj
    have:¬j=i:=fun e=>h1 e.symm
    simp[this]
   ·simp only[nbF hj,cond_false,ih]
theorem tget_tins (t:Hp) (i j:Nat) (a:AV):tget (tins t i a) j=if j=i then a else tget t j:=by
 unfold tget
 rw[hget_tins]
 by_cases hj:j=i<;>simp[hj]
theorem getT_append (a:AV) (p q:List (Nat×Nat)):getT a (p++q)=(getT a p).bind fun x=>getT x q:=by
 induction p generalizing a with
 |nil=>rfl
 |cons s p ih=>
  simp only[List.cons_append,getT]
  cases step1 a s with
  |none=>rfl
  |some x=>simp[ih]
theorem getT_snoc (a:AV) (p:List (Nat×Nat)) (s:Nat×Nat):getT a (p++[s])=(getT a p).bind fun x=>step1 x s:=by
 rw[getT_append];cases getT a p with
 |none=>rfl
 |some x=>simp only[Option.bind_some,getT];cases step1 x s<;>rfl
theorem cells_nonAgg {c:AV} (h:nonAgg c=true):cells c=[c]:=by cases c<;>first|rfl|cases h
theorem cells_putCell {e:AV} {j:Nat} {c x:AV} (h:(cells e)[j]?=some x) (hc:nonAgg c=true):cells (putCell e j c)=(cells e).set j c:=by
 have key:∀e':AV,cells e'=[e']→(∀cs,e'≠.agg cs)→(cells e')[j]?=some x→cells (putCell e' j c)=(cells e').set j c:=by
  intro e' h1 h2 h3
  rw[h1]at h3 ⊢
  have hj:j=0:=by
   rcases j with _|j
   ·rfl
   ·simp at h3
  subst hj
  have:putCell e' 0 c=c:=by cases e'<;>first|rfl|exact absurd rfl (h2 _)
  rw[this,cells_nonAgg hc];rfl
 cases e with
 |agg cs=>rfl
 |_=>exact key _ rfl (by simp) h
theorem step1_put1 {a x c:AV} {s:Nat×Nat} (h:step1 a s=some x) (hc:nonAgg c=true) (s':Nat×Nat):
  step1 (put1 a s c) s'=if s'=s then some c else step1 a s':=by
 obtain⟨i,j⟩:=s
 obtain⟨i',j'⟩:=s'
 cases a with
 |ow sz es=>
  simp only[step1]at h
  cases he:es[i]? with
  |none=>simp[he]at h
  |some e=>
   simp only[he,Option.bind_some]at h
   simp only[put1,he,step1]
   have hi:i<es.length:=(List.getElem?_eq_some_iff.1 he).1
   have hj:j<(cells e).length:=(List.getElem?_eq_some_iff.1 h).1
   by_cases h1:i'=i
   ·subst h1
    simp only[List.getElem?_set,if_true,hi,Option.bind_some,cells_putCell h hc,he]
    by_cases h2:j'=j
    ·subst h2;simp[hj]
    ·have:¬j=j':=fun e=>h2 e.symm
     simp[h2,this]
   ·have:¬i=i':=fun e=>h1 e.symm
    simp[this,h1]
 |bx e=>
  simp only[step1]at h
  by_cases h0:i=0
  ·subst h0
   simp only[if_true]at h
   have hj:j<(cells e).length:=(List.getElem?_eq_some_iff.1 h).1
   simp only[put1,step1]
   by_cases h1:i'=0
   ·subst h1
    simp only[if_true,cells_putCell h hc,List.getElem?_set]
    by_cases h2:j'=j
    ·subst h2;simp[hj]
    ·have:¬j=j':=fun e=>h2 e.symm
     simp[h2,this]
   ·simp[h1]
  ·simp[h0]at h
 |_=>simp[step1]at h
theorem getT_setT_under {a c old:AV} {p:List (Nat×Nat)} (h:getT a p=some old) (hc:p=[]∨nonAgg c=true) (q:List (Nat×Nat)):
  getT (setT a p c) (p++q)=getT c q:=by
 induction p generalizing a with
 |nil=>rfl
 |cons s p ih=>
  simp only[getT]at h
  cases hs:step1 a s with
  |none=>simp[hs]at h
  |some x=>
   simp only[hs,Option.bind_some]at h
   have hc':nonAgg c=true:=by rcases hc with hc|hc;simp at hc;exact hc
   have hx:nonAgg (setT x p c)=true:=by
    cases p with
    |nil=>exact hc'
    |cons t p=>
     simp only[setT]
     simp only[getT]at h
     cases ht:step1 x t with
     |none=>simp[ht]at h
     |some y=>
      simp only[]
      cases x<;>simp[step1]at ht<;>simp only[put1]<;>(try split)<;>rfl
   simp only[setT,hs,List.cons_append,getT,step1_put1 hs hx,if_true,Option.bind_some]
   exact ih h (Or.inr hc')
theorem getT_setT_over {a c n x:AV} {q r:List (Nat×Nat)} {s:Nat×Nat} (hn:getT a q=some n) (hx:step1 n s=some x):getT (setT a (q++s::r) c) q=some (put1 n s (setT x r c)):=by
 induction q generalizing a with
 |nil=>
  simp only[getT]at hn
  cases hn
  simp[setT,hx,getT]
 |cons t q ih=>
  simp only[getT]at hn
  cases ht:step1 a t with
  |none=>simp[ht]at hn
  |some y=>
   simp only[ht,Option.bind_some]at hn
   have hy:nonAgg (setT y (q++s::r) c)=true:=by
    have:=ih hn
    cases hq:q++s::r with
    |nil=>simp at hq
    |cons t' q'=>
     simp only[setT]
     cases ht':step1 y t' with
     |none=>
      cases q with
      |nil=>simp only[getT]at hn;cases hn;simp at hq;rw[←hq.1,hx]at ht';cases ht'
      |cons u q=>simp at hq;simp only[getT]at hn;rw[hq.1,ht']at hn;cases hn
     |some z=>cases y<;>simp[step1]at ht'<;>simp only[put1]<;>(try split)<;>rfl
   simp only[List.cons_append,setT,ht,getT,step1_put1 ht hy,if_true,Option.bind_some]
   exact ih hn
theorem getT_setT_apart {a c old:AV} {u p q:List (Nat×Nat)} {s s':Nat×Nat} (h:getT a (u++s::p)=some old) (hc:nonAgg c=true) (hne:s'≠s):
  getT (setT a (u++s::p) c) (u++s'::q)=getT a (u++s'::q):=by
 induction u generalizing a with
 |nil=>
  simp only[List.nil_append,getT]at h
  cases hs:step1 a s with
  |none=>simp[hs]at h
  |some x=>
   have hx:nonAgg (setT x p c)=true:=by
    simp only[hs,Option.bind_some]at h
    cases p with
    |nil=>exact hc
    |cons t p=>
     simp only[setT]
     simp only[getT]at h
     cases ht:step1 x t with
     |none=>simp[ht]at h
     |some y=>cases x<;>simp[step1]at ht<;>simp only[put1]<;>(try split)<;>rfl
   simp only[List.nil_append,setT,hs,getT,step1_put1 hs hx,if_neg hne]
 |cons t u ih=>
  simp only[List.cons_append,getT]at h
  cases ht:step1 a t with
  |none=>simp[ht]at h
  |some y=>
   simp only[ht,Option.bind_some]at h
   have hy:nonAgg (setT y (u++s::p) c)=true:=by
    cases hq:u++s::p with
    |nil=>simp at hq
    |cons t' q'=>
     rw[hq]at h
     simp only[setT]
     simp only[getT]at h
     cases ht':step1 y t' with
     |none=>simp[ht']at h
     |some z=>cases y<;>simp[step1]at ht'<;>simp only[put1]<;>(try split)<;>rfl
   simp only[List.cons_append,setT,ht,getT,step1_put1 ht hy,if_true,Option.bind_some]
   exact ih h
theorem paths (p q:List (Nat×Nat)):(∃r,q=p++r)∨(∃s r,p=q++s::r)∨(∃u s s' p' q',s'≠s∧p=u++s::p'∧q=u++s'::q'):=by
 induction p generalizing q with
 |nil=>exact .inl ⟨q,rfl⟩
 |cons s p ih=>
  cases q with
  |nil=>exact .inr (.inl ⟨s,p,rfl⟩)
  |cons s' q=>
   by_cases h:s'=s
   ·subst h
    rcases ih q with⟨r,rfl⟩|⟨t,r,rfl⟩|⟨u,t,t',p',q',hne,rfl,rfl⟩
    ·exact .inl ⟨r,rfl⟩
    ·exact .inr (.inl ⟨t,r,rfl⟩)
    ·exact .inr (.inr ⟨s'::u,t,t',p',q',hne,rfl,rfl⟩)
   ·exact .inr (.inr ⟨[],s,s',p,q,h,rfl,rfl⟩)
end Go.Am
end
section
namespace Go.Am
structure Nd where
 b:Nat
 o:Nat
 sz:Nat
 cap:Nat
 whole:Bool:=false
def Nd.has (n:Nd) (b o:Nat):Prop:=n.b=b∧(n.whole=true∨(n.o≤o∧o<n.o+n.sz*n.cap))
abbrev Gh:=Nat→List (Nat×Nat)→Option Nd
def owned (g:Gh) (b o:Nat):Prop:=∃r p n,g r p=some n∧n.has b o
structure Fz where
 m:Nat→Nat→Option Value
 N:Nat→Nat→Prop
 N0:Nat→Nat→Prop
def Fz.no (F:Fz) (lab b o:Nat):Prop:=if lab=2 then ¬F.N b o else ¬F.N0 b o
mutual
inductive RF (F:Fz):AV→Value→Prop
 |int (k:IntKind) (n:Int):RF F (.int k n) (.int k n)
 |bool (b:Bool):RF F (.bool b) (.bool b)
 |str (s:ByteArray):RF F (.str s) (.string s)
 |nilp:RF F .nilp (.pointer none)
 |un (v:Value) (h:one v=true):RF F .un v
 |nil (sz:Nat):RF F (.fz 1 sz []) (.slice none 0 0)
 |fzs (lab sz:Nat) (es:List AV) (b o cap:Nat) (sp:Option Nat) (h1:lab≠1) (h2:es.length≤cap) (h3:RE F lab sz es b o) (h4:sp=none∨cap=0):
   RF F (.fz lab sz es) (.slice (some ⟨b,o,sp⟩) es.length cap)
 |fp (lab:Nat) (e:AV) (off b o:Nat) (h1:lab≠1) (h3:RC F lab (cells e) b o):RF F (.fp lab e off) (.pointer (some ⟨b,o+off,none⟩))
inductive RC (F:Fz):Nat→List AV→Nat→Nat→Prop
 |nil (lab b o:Nat):RC F lab [] b o
 |cons (lab:Nat) (a:AV) (l:List AV) (b o:Nat) (v:Value) (h1:F.m b o=some v) (h2:F.no lab b o) (h3:RF F a v) (h4:RC F lab l b (o+1)):RC F lab (a::l) b o
inductive RE (F:Fz):Nat→Nat→List AV→Nat→Nat→Prop
 |nil (lab sz b o:Nat):RE F lab sz [] b o
 |cons (lab sz:Nat) (e:AV) (l:List AV) (b o:Nat) (h1:(cells e).length=sz) (h2:RC F lab (cells e) b o) (h3:RE F lab sz l b (o+sz)):RE F lab sz (e::l) b o
end
theorem RF.fz {F:Fz} (lab sz:Nat) (es:List AV) (b o cap:Nat) (h1:lab≠1) (h2:es.length≤cap) (h3:RE F lab sz es b o):RF F (.fz lab sz es) (.slice (some ⟨b,o,none⟩) es.length cap):=.fzs lab sz es b o cap none h1 h2 h3 (.inl rfl)
structure Fz.le (F F':Fz):Prop where
 m:∀b o v,F.m b o=some v→¬F.N b o→F'.m b o=some v
 N:∀b o v,F.m b o=some v→¬F.N b o→¬F'.N b o
 N0:∀b o v,F.m b o=some v→¬F.N0 b o→¬F'.N0 b o
 sub:∀b o,F.N b o→F.N0 b o
theorem Fz.le.no {F F':Fz} (h:F.le F') {lab b o:Nat} {v:Value} (hm:F.m b o=some v) (hn:F.no lab b o):F'.no lab b o∧¬F.N b o:=by
 unfold Fz.no at *
 split at hn
 ·rename_i hl
  rw[if_pos hl];exact⟨h.N b o v hm hn,hn⟩
 ·rename_i hl
  rw[if_neg hl];exact⟨h.N0 b o v hm hn,fun hx=>hn (h.sub b o hx)⟩
mutual
theorem RF.mono {F F':Fz} (h:F.le F'):∀{a:AV} {v:Value},RF F a v→RF F' a v
 |_,_,.int k n=>.int k n
 |_,_,.bool b=>.bool b
 |_,_,.str s=>.str s
 |_,_,.nilp=>.nilp
 |_,_,.un v h1=>.un v h1
 |_,_,.nil sz=>.nil sz
 |_,_,.fzs lab sz es b o cap sp h1 h2 h3 h4=>.fzs lab sz es b o cap sp h1 h2 (RE.mono h h3) h4
 |_,_,.fp lab e off b o h1 h3=>.fp lab e off b o h1 (RC.mono h h3)
theorem RC.mono {F F':Fz} (h:F.le F'):∀{lab:Nat} {l:List AV} {b o:Nat},RC F lab l b o→RC F' lab l b o
 |_,_,_,_,.nil lab b o=>.nil lab b o
 |_,_,_,_,.cons lab a l b o v h1 h2 h3 h4=>.cons lab a l b o v (h.m b o v h1 (h.no h1 h2).2) (h.no h1 h2).1 (RF.mono h h3) (RC.mono h h4)
theorem RE.mono {F F':Fz} (h:F.le F'):∀{lab sz:Nat} {l:List AV} {b o:Nat},RE F lab sz l b o→RE F' lab sz l b o
 |_,_,_,_,_,.nil lab sz b o=>.nil lab sz b o
 |_,_,_,_,_,.cons lab sz e l b o h1 h2 h3=>.cons lab sz e l b o h1 (RC.mono h h2) (RE.mono h h3)
end
theorem RC.get {F:Fz} {lab:Nat}:∀{l:List AV} {b o:Nat},RC F lab l b o→∀{j:Nat} {a:AV},l[j]?=some a→∃v,F.m b (o+j)=some v∧F.no lab b (o+j)∧RF F a v
 |_,_,_,.nil _ _ _,j,a,h=>by simp at h
 |_,_,_,.cons _ a l b o v h1 h2 h3 h4,j,x,h=>by
  cases j with
  |zero=>simp at h;subst h;exact⟨v,h1,h2,h3⟩
  |succ j=>
   obtain⟨v',g1,g2,g3⟩:=RC.get h4 (j:=j) (by simpa using h)
   have e:o+(j+1)=o+1+j:=by omega
   rw[e];exact⟨v',g1,g2,g3⟩
theorem RC.of {F:Fz} {lab:Nat}:∀{l:List AV} {b o:Nat},(∀j a,l[j]?=some a→∃v,F.m b (o+j)=some v∧F.no lab b (o+j)∧RF F a v)→RC F lab l b o
 |[],b,o,_=>.nil lab b o
 |a::l,b,o,h=>by
  obtain⟨v,h1,h2,h3⟩:=h 0 a rfl
  exact .cons lab a l b o v h1 h2 h3 (RC.of fun j x hx=>by
   have:=h (j+1) x (by simpa using hx)
   have e:o+(j+1)=o+1+j:=by omega
   rw[e]at this;exact this)
theorem RE.get {F:Fz} {lab sz:Nat}:∀{l:List AV} {b o:Nat},RE F lab sz l b o→∀{i:Nat} {e:AV},l[i]?=some e→(cells e).length=sz∧RC F lab (cells e) b (o+i*sz)
 |_,_,_,.nil _ _ _ _,i,e,h=>by simp at h
 |_,_,_,.cons _ _ e l b o h1 h2 h3,i,x,h=>by
  cases i with
  |zero=>simp at h;subst h;simpa using⟨h1,h2⟩
  |succ i=>
   have:=RE.get h3 (i:=i) (by simpa using h)
   have e:o+(i+1)*sz=o+sz+i*sz:=by rw[Nat.add_mul];omega
   rw[e];exact this
theorem RE.of {F:Fz} {lab sz:Nat}:∀{l:List AV} {b o:Nat},(∀i e,l[i]?=some e→(cells e).length=sz∧RC F lab (cells e) b (o+i*sz))→RE F lab sz l b o
 |[],b,o,_=>.nil lab sz b o
 |e::l,b,o,h=>by
  have h0:=h 0 e rfl
  simp at h0
  exact .cons lab sz e l b o h0.1 h0.2 (RE.of fun i x hx=>by
   have:=h (i+1) x (by simpa using hx)
   have e:o+(i+1)*sz=o+sz+i*sz:=by rw[Nat.add_mul];omega
   rw[e]at this;exact this)
inductive RT (F:Fz) (g:Gh):AV→Value→Prop
 |f {a:AV} {v:Value} (h:RF F a v):RT F g a v
 |rf (pl:Pl) (off len cap k:Nat) (n:Nd) (h1:g pl.r pl.p=some n) (h2:n.whole=false) (h3:k+cap≤n.cap) (h4:len≤cap) (h5:cap=0∨k=off):
   RT F g (.rf n.sz pl off len) (.slice (some ⟨n.b,n.o+k*n.sz,none⟩) len cap)
 |ptr (pl:Pl) (i off:Nat) (n:Nd) (h1:g pl.r pl.p=some n) (h2:n.whole=false):RT F g (.ptr pl i off) (.pointer (some ⟨n.b,n.o+i*n.sz+off,none⟩))
 |mrf (r:Nat) (n:Nd) (h1:g r []=some n) (h2:n.whole=true):RT F g (.mrf r) (.map (some n.b))
inductive RTL (F:Fz) (g:Gh):List AV→List Value→Prop
 |nil:RTL F g [] []
 |cons {a:AV} {v:Value} {l:List AV} {vs:List Value} (h:RT F g a v) (t:RTL F g l vs):RTL F g (a::l) (v::vs)
inductive RX1 (F:Fz) (g:Gh):AV→Value→Prop
 |c {a:AV} {v:Value} (h:RT F g a v):RX1 F g a v
 |agg {cs:List AV} {vs:List Value} (h:RTL F g cs vs):RX1 F g (.agg cs) (.agg vs.toArray)
inductive RXL (F:Fz) (g:Gh):List AV→List Value→Prop
 |nil:RXL F g [] []
 |cons {a:AV} {v:Value} {l:List AV} {vs:List Value} (h:RX1 F g a v) (t:RXL F g l vs):RXL F g (a::l) (v::vs)
inductive RX (F:Fz) (g:Gh):AV→Value→Prop
 |c {a:AV} {v:Value} (h:RX1 F g a v):RX F g a v
 |tup {cs:List AV} {vs:List Value} (h:RXL F g cs vs):RX F g (.tup cs) (.tuple vs.toArray)
def refOf:AV→Option Pl
 | .rf _ pl _ _=>some pl
 | .ptr pl _ _=>some pl
 | .mrf r=>some ⟨r,[]⟩
 |_=>none
theorem RT.mono {F F':Fz} {g g':Gh} (h:F.le F') {a:AV} {v:Value} (hg:∀pl n,refOf a=some pl→g pl.r pl.p=some n→g' pl.r pl.p=some n) (hr:RT F g a v):RT F' g' a v:=by
 cases hr with
 |f hf=>exact .f (hf.mono h)
 |rf pl off len cap k n h1 h2 h3 h4 h5=>exact .rf pl off len cap k n (hg pl n rfl h1) h2 h3 h4 h5
 |ptr pl i off n h1 h2=>exact .ptr pl i off n (hg pl n rfl h1) h2
 |mrf r n h1 h2=>exact .mrf r n (hg ⟨r,[]⟩ n rfl h1) h2
def mapOk (F:Fz) (ks vs:List AV) (es:Array MapEntry):Prop:=
 ks.length=es.size∧vs.length=es.size∧(∀(i:Nat) k,ks[i]?=some k→∃e:MapEntry,es[i]?=some e∧RF F k e.key)∧(∀(i:Nat) v,vs[i]?=some v→∃e:MapEntry,es[i]?=some e∧plainCell v=true∧RF F v e.val)
def LF (F:Fz) (ob:Nat→Option Obj) (g:Gh) (c:AV) (gn:Option Nd) (w:Value):Prop:=
 match c with
 | .ow sz es=>∃n,gn=some n∧n.whole=false∧n.sz=sz∧es.length≤n.cap∧w=.slice (some ⟨n.b,n.o,none⟩) es.length n.cap∧∀e∈es,(cells e).length=sz
 | .bx e=>∃n,gn=some n∧n.whole=false∧n.sz=(cells e).length∧n.cap=1∧w=.pointer (some ⟨n.b,n.o,none⟩)
 | .mp ks vs=>∃n es cl,gn=some n∧n.whole=true∧w=.map (some n.b)∧ob n.b=some (.map es cl)∧mapOk F ks vs es
 | .lk r len=>gn=none∧one w=true∧∀n,g r []=some n→n.whole=false∧
   ((∃l k cap,len=l+1∧k+cap≤n.cap∧l≤cap∧(cap=0∨k=0)∧w=.slice (some ⟨n.b,n.o+k*n.sz,none⟩) l cap)∨(len=0∧w=.pointer (some ⟨n.b,n.o,none⟩)))
 |c=>gn=none∧RF F c w
structure TOK (F:Fz) (ob:Nat→Option Obj) (G:Gh) (g:List (Nat×Nat)→Option Nd) (a:AV) (v:Value):Prop where
 root:LF F ob G a (g []) v
 cell:∀p i j c,getT a (p++[(i,j)])=some c→∃n u,g p=some n∧F.m n.b (n.o+i*n.sz+j)=some u∧LF F ob G c (g (p++[(i,j)])) u
 dom:∀p n,g p=some n→∃c,getT a p=some c∧isNode c=true
structure Base where
 w0:World
 own:Nat→Nat→Prop
 A:Nat→Nat→Prop
 A0:Nat→Nat→Prop
 hA:∀b o,A b o→A0 b o
 hA0:∀b o,A0 b o→b<w0.heap.size
 hown:∀b o,own b o→¬A0 b o
 hownb:∀b o,own b o→b<w0.heap.size
structure Chg (own:Nat→Nat→Prop) (w w':World):Prop where
 os:w'.os=w.os
 tape:w'.tape=w.tape
 output:w'.output=w.output
 size:w.heap.size≤w'.heap.size
 cells:∀b cs el fr,w.heap[b]?=some (.cells cs el fr)→∃cs',w'.heap[b]?=some (.cells cs' el fr)∧cs'.size=cs.size∧∀o,¬own b o→cs'[o]?=cs[o]?
 objs:∀b,b<w.heap.size→(∀o,¬own b o)→w'.heap[b]?=w.heap[b]?
def mkF (B:Base) (g:Gh) (w:World):Fz:=
 ⟨fun b o=>w.cell? ⟨b,o,none⟩,fun b o=>owned g b o∨B.A b o,fun b o=>owned g b o∨B.A0 b o⟩
def obj (w:World) (b:Nat):Option Obj:=w.heap[b]?
structure RM (B:Base) (K:Nat→Prop) (g:Gh) (R:Nat→Value) (h:Hp) (w:World):Prop where
 chg:Chg B.own B.w0 w
 tree:∀r a,hget h r=some a→TOK (mkF B g w) (obj w) g (g r) a (R r)
 void:∀r,hget h r=none→∀p,g r p=none
 disj:∀r p n r' p' n',g r p=some n→g r' p'=some n'→(r,p)≠(r',p')→∀b o,n.has b o→¬n'.has b o
 blk:∀r p n,g r p=some n→n.whole=false→∃cs el fr,w.heap[n.b]?=some (.cells cs el fr)∧n.o+n.sz*n.cap≤cs.size∧∀o,n.has n.b o→w.frozen? ⟨n.b,o,none⟩=false
 lks:∀r a p q len,hget h r=some a→getT a p=some (.lk q len)→K q
 inn:∀b o,owned g b o→B.own b o∨B.w0.heap.size≤b
end Go.Am
end
section
namespace Go.Am
theorem step1_some {a c:AV} {i j:Nat} (h:step1 a (i,j)=some c):
  (∃sz es e,a=.ow sz es∧es[i]?=some e∧(cells e)[j]?=some c)∨(∃e,a=.bx e∧i=0∧(cells e)[j]?=some c):=by
 cases a with
 |ow sz es=>
  simp only[step1]at h
  cases he:es[i]? with
  |none=>simp[he]at h
  |some e=>simp[he]at h;exact .inl ⟨sz,es,e,rfl,he,h⟩
 |bx e=>
  simp only[step1]at h
  by_cases hi:i=0
  ·simp[hi]at h;exact .inr ⟨e,rfl,hi,h⟩
  ·simp[hi]at h
 |_=>simp[step1]at h
theorem getT_parent {a c:AV} {p:List (Nat×Nat)} {i j:Nat} (h:getT a (p++[(i,j)])=some c):∃x,getT a p=some x∧step1 x (i,j)=some c:=by
 rw[getT_snoc]at h
 cases hp:getT a p with
 |none=>simp[hp]at h
 |some x=>exact⟨x,rfl,by simpa[hp]using h⟩
theorem isNode_of_step1 {a c:AV} {s:Nat×Nat} (h:step1 a s=some c):isNode a=true:=by
 obtain⟨i,j⟩:=s
 rcases step1_some h with⟨sz,es,e,rfl,_⟩|⟨e,rfl,_⟩<;>rfl
theorem getT_leaf {c:AV} (h:isNode c=false) {q:List (Nat×Nat)} {x:AV} (hx:getT c q=some x):q=[]∧x=c:=by
 cases q with
 |nil=>simp[getT]at hx;exact⟨rfl,hx.symm⟩
 |cons s q=>
  simp only[getT]at hx
  cases hs:step1 c s with
  |none=>simp[hs]at hx
  |some y=>have:=isNode_of_step1 hs;rw[h]at this;cases this
theorem nonAgg_of_node {a:AV} (h:isNode a=true):nonAgg a=true:=by cases a<;>first|rfl|simp[isNode]at h
variable {F:Fz} {ob:Nat→Option Obj} {G:Gh} {g:List (Nat×Nat)→Option Nd} {a:AV} {v:Value}
theorem TOK.at (h:TOK F ob G g a v) {p:List (Nat×Nat)} {c:AV} (hc:getT a p=some c):∃u,LF F ob G c (g p) u:=by
 rcases List.eq_nil_or_concat p with rfl|⟨q,⟨i,j⟩,rfl⟩
 ·simp[getT]at hc;subst hc;exact⟨v,h.root⟩
 ·rw[List.concat_eq_append]at hc ⊢
  obtain⟨n,u,_,_,h3⟩:=h.cell q i j c hc
  exact⟨u,h3⟩
theorem LF.node {c:AV} {gn:Option Nd} {u:Value} (h:LF F ob G c gn u) {i j:Nat} {x:AV} (hs:step1 c (i,j)=some x):
  ∃n,gn=some n∧n.whole=false∧i<n.cap∧j<n.sz:=by
 rcases step1_some hs with⟨sz,es,e,rfl,he,hj⟩|⟨e,rfl,rfl,hj⟩
 ·obtain⟨n,h1,h2,h3,h4,_,h6⟩:=h
  have hi:i<es.length:=(List.getElem?_eq_some_iff.1 he).1
  have hj':j<(cells e).length:=(List.getElem?_eq_some_iff.1 hj).1
  have:=h6 e (List.mem_of_getElem? he)
  exact⟨n,h1,h2,by omega,by omega⟩
 ·obtain⟨n,h1,h2,h3,h4,_⟩:=h
  have hj':j<(cells e).length:=(List.getElem?_eq_some_iff.1 hj).1
  exact⟨n,h1,h2,by omega,by omega⟩
theorem Nd.has_cell {n:Nd} {i j:Nat} (hi:i<n.cap) (hj:j<n.sz):n.has n.b (n.o+i*n.sz+j):=by
 refine⟨rfl,.inr ⟨by omega,?_⟩⟩
 have:i*n.sz+n.sz≤n.sz*n.cap:=by
  have:(i+1)*n.sz≤n.cap*n.sz:=Nat.mul_le_mul_right _ hi
  rw[Nat.mul_comm n.sz n.cap];rw[Nat.add_mul]at this;omega
 omega
theorem TOK.inside (h:TOK F ob G g a v) {p:List (Nat×Nat)} {i j:Nat} {c:AV} (hc:getT a (p++[(i,j)])=some c):
  ∃n u,g p=some n∧n.whole=false∧i<n.cap∧j<n.sz∧F.m n.b (n.o+i*n.sz+j)=some u∧LF F ob G c (g (p++[(i,j)])) u:=by
 obtain⟨n,u,h1,h2,h3⟩:=h.cell p i j c hc
 obtain⟨x,hx,hs⟩:=getT_parent hc
 obtain⟨u',hl⟩:=h.at hx
 obtain⟨n',h4,h5,h6,h7⟩:=hl.node hs
 rw[h1]at h4;cases h4
 exact⟨n,u,h1,h5,h6,h7,h2,h3⟩
theorem cell_ne {sz i j i' j':Nat} (hj:j<sz) (hj':j'<sz) (h:(i',j')≠(i,j)):i*sz+j≠i'*sz+j':=by
 intro e
 apply h
 have h1:i=i':=by
  have a1:(i*sz+j) / sz=i:=by
   rw[Nat.mul_comm,Nat.mul_add_div (by omega),Nat.div_eq_of_lt hj];rfl
  have a2:(i'*sz+j') / sz=i':=by
   rw[Nat.mul_comm,Nat.mul_add_div (by omega),Nat.div_eq_of_lt hj'];rfl
  rw[←a1,←a2,e]
 subst h1
 have:j=j':=by omega
 rw[this]
theorem LF.mono {F F':Fz} {ob ob':Nat→Option Obj} {G G':Gh} {c:AV} {gn:Option Nd} {u:Value} (h:LF F ob G c gn u) (hF:F.le F')
  (ho:∀n,gn=some n→n.whole=true→ob' n.b=ob n.b) (hG:∀r n,(∃len,c=.lk r len)→G' r []=some n→G r []=some n):LF F' ob' G' c gn u:=by
 cases c with
 |ow sz es=>exact h
 |bx e=>exact h
 |mp ks vs=>
  obtain⟨n,es,cl,h1,h2,h3,h4,h5,h6,h7,h8⟩:=h
  refine⟨n,es,cl,h1,h2,h3,by rw[ho n h1 h2];exact h4,h5,h6,fun i k hk=>?_,fun i k hk=>?_⟩
  ·obtain⟨e,e1,e3⟩:=h7 i k hk;exact⟨e,e1,e3.mono hF⟩
  ·obtain⟨e,e1,e2,e3⟩:=h8 i k hk;exact⟨e,e1,e2,e3.mono hF⟩
 |lk r len=>exact⟨h.1,h.2.1,fun n hn=>h.2.2 n (hG r n ⟨len,rfl⟩ hn)⟩
 |_=>exact⟨h.1,h.2.mono hF⟩
theorem RF.one {F:Fz} {a:AV} {v:Value} (h:RF F a v):one v=true:=by cases h<;>first|rfl|assumption
theorem LF.one {F:Fz} {ob:Nat→Option Obj} {G:Gh} {c:AV} {gn:Option Nd} {u:Value} (h:LF F ob G c gn u):one u=true:=by
 cases c with
 |ow sz es=>obtain⟨n,_,_,_,_,h,_⟩:=h;rw[h];rfl
 |bx e=>obtain⟨n,_,_,_,_,h⟩:=h;rw[h];rfl
 |mp ks vs=>obtain⟨n,es,cl,_,_,h,_⟩:=h;rw[h];rfl
 |lk r len=>exact h.2.1
 |_=>exact h.2.one
theorem TOK.mono {F F':Fz} {ob ob':Nat→Option Obj} {G G':Gh} {g:List (Nat×Nat)→Option Nd} {a:AV} {v:Value} (h:TOK F ob G g a v) (hF:F.le F')
  (hm:∀p n o u,g p=some n→n.has n.b o→F.m n.b o=some u→F'.m n.b o=some u)
  (ho:∀p n,g p=some n→n.whole=true→ob' n.b=ob n.b) (hG:∀r n p len,getT a p=some (.lk r len)→G' r []=some n→G r []=some n):TOK F' ob' G' g a v:=by
 refine⟨h.root.mono hF (fun n hn=>ho [] n hn) fun r n ⟨len,e⟩=>hG r n [] len (by simp[getT,e]),fun p i j c hc=>?_,h.dom⟩
 obtain⟨n,u,h1,h2,h3,h4,h5,h6⟩:=h.inside hc
 exact⟨n,u,h1,hm p n _ u h1 (Nd.has_cell h3 h4) h5,h6.mono hF (fun n hn=>ho _ n hn) fun r n ⟨len,e⟩=>hG r n _ len (by rw[hc,e])⟩
theorem cell_setCell (w:World) (b o:Nat) (u:Value) (b' o':Nat):
  (w.setCell ⟨b,o,none⟩ u).cell? ⟨b',o',none⟩=if b'=b∧o'=o∧(w.cell? ⟨b,o,none⟩).isSome then some u else w.cell? ⟨b',o',none⟩:=by
 unfold World.setCell World.cell?
 simp only[Array.getElem?_modify,Option.isSome_none,Bool.false_eq_true,if_false]
 by_cases hb:b=b'
 ·subst hb
  simp only[if_true]
  cases hx:w.heap[b]? with
  |none=>simp
  |some x=>
   cases x with
   |cells c e fr=>
    simp only[Option.map_some,Array.getElem?_setIfInBounds]
    by_cases ho:o=o'
    ·subst ho
     by_cases hs:o<c.size
     ·simp[hs]
     ·simp[hs]
    ·have:¬o'=o:=fun e=>ho e.symm
     simp[ho,this]
   |_=>simp
 ·have:¬b'=b:=fun e=>hb e.symm
  simp[hb,this]
theorem pre_iff {p q:List (Nat×Nat)}:pre p q=true↔∃r,q=p++r:=by
 induction p generalizing q with
 |nil=>simp[pre]
 |cons s p ih=>
  cases q with
  |nil=>simp[pre]
  |cons t q=>
   obtain⟨i,j⟩:=s
   obtain⟨i',j'⟩:=t
   simp only[pre,Bool.and_eq_true,ih]
   constructor
   ·rintro ⟨⟨h1,h2⟩,r,rfl⟩
    have e1:i=i':=by simpa using h1
    have e2:j=j':=by simpa using h2
    exact⟨r,by simp[e1,e2]⟩
   ·rintro ⟨r,h⟩
    simp at h
    obtain⟨⟨rfl,rfl⟩,rfl⟩:=h
    exact⟨⟨by simp,by simp⟩,r,rfl⟩
def cutG (g:Gh) (r:Nat) (P:List (Nat×Nat)):Gh:=fun r' q=>if r'=r∧pre P q=true then none else g r' q
theorem cutG_some {g:Gh} {r r':Nat} {P q:List (Nat×Nat)} {n:Nd} (h:cutG g r P r' q=some n):g r' q=some n∧¬(r'=r∧pre P q=true):=by
 unfold cutG at h
 by_cases hc:r'=r∧pre P q=true
 ·simp[hc]at h
 ·rw[if_neg hc]at h;exact⟨h,hc⟩
theorem cutG_eq {g:Gh} {r r':Nat} {P q:List (Nat×Nat)} (h:¬(r'=r∧pre P q=true)):cutG g r P r' q=g r' q:=if_neg h
theorem owned_cut {g:Gh} {r:Nat} {P:List (Nat×Nat)} {b o:Nat} (h:owned (cutG g r P) b o):owned g b o:=by
 obtain⟨r',p,n,h1,h2⟩:=h
 exact⟨r',p,n,(cutG_some h1).1,h2⟩
variable {B:Base} {K:Nat→Prop} {gh gh':Gh} {R:Nat→Value} {h h':Hp} {w w':World}
theorem le_of (hm:∀b o v,w.cell? ⟨b,o,none⟩=some v→¬owned gh b o→w'.cell? ⟨b,o,none⟩=some v)
  (hg:∀b o v,w.cell? ⟨b,o,none⟩=some v→owned gh' b o→owned gh b o):(mkF B gh w).le (mkF B gh' w'):=
 ⟨fun b o v h1 h2=>hm b o v h1 fun hx=>h2 (.inl hx),fun b o v h1 h2 h3=>h3.elim (fun hx=>h2 (.inl (hg b o v h1 hx))) fun hx=>h2 (.inr hx),
  fun b o v h1 h2 h3=>h3.elim (fun hx=>h2 (.inl (hg b o v h1 hx))) fun hx=>h2 (.inr hx),fun b o h1=>h1.elim .inl fun hx=>.inr (B.hA b o hx)⟩
theorem setCell_heap (w:World) (b o:Nat) (u:Value) (k:Nat):(w.setCell ⟨b,o,none⟩ u).heap[k]?=if k=b then(w.heap[k]?).map (fun x=>match x with
  | .cells c el fr=>.cells (c.setIfInBounds o u) el fr
  |x=>x)else w.heap[k]?:=by
 unfold World.setCell
 simp only[Array.getElem?_modify,Option.isSome_none,Bool.false_eq_true,if_false]
 by_cases h:b=k
 ·subst h
  simp only[if_true]
  cases w.heap[b]? with
  |none=>rfl
  |some x=>cases x<;>rfl
 ·have:¬k=b:=fun e=>h e.symm
  simp[h,this]
theorem setCell_size (w:World) (a:Addr) (u:Value):(w.setCell a u).heap.size=w.heap.size:=by simp[World.setCell]
theorem Chg.setCell {own:Nat→Nat→Prop} {w0 w:World} (hc:Chg own w0 w) {b o:Nat} {u:Value} (hb:own b o∨w0.heap.size≤b):Chg own w0 (w.setCell ⟨b,o,none⟩ u):=by
 refine⟨hc.os,hc.tape,hc.output,by rw[setCell_size];exact hc.size,fun k cs el fr hk=>?_,fun k hk hn=>?_⟩
 ·obtain⟨cs',h1,h2,h3⟩:=hc.cells k cs el fr hk
  have hlt:k<w0.heap.size:=(Array.getElem?_eq_some_iff.1 hk).1
  rw[setCell_heap]
  by_cases e:k=b
  ·subst e
   refine⟨cs'.setIfInBounds o u,by simp[h1],by simpa using h2,fun q hq=>?_⟩
   have hne:o≠q:=by
    rintro rfl
    rcases hb with hb|hb
    ·exact hq hb
    ·omega
   rw[Array.getElem?_setIfInBounds_ne hne,h3 q hq]
  ·rw[if_neg e];exact⟨cs',h1,h2,h3⟩
 ·rw[setCell_heap,if_neg,hc.objs k hk hn]
  rintro rfl
  rcases hb with hb|hb
  ·exact hn o hb
  ·omega
theorem frozen_setCell (w:World) (a:Addr) (u:Value) (p:Addr):(w.setCell a u).frozen? p=w.frozen? p:=by
 unfold World.setCell World.frozen?
 simp only[Array.getElem?_modify]
 by_cases hb:a.block=p.block
 ·simp only[hb,if_true]
  cases w.heap[p.block]? with
  |none=>rfl
  |some x=>cases x<;>rfl
 ·simp[hb]
theorem put1_node {a c:AV} {s:Nat×Nat} (h:isNode a=true):isNode (put1 a s c)=true:=by
 obtain⟨i,j⟩:=s
 cases a<;>simp[isNode]at h<;>simp only[put1]<;>(try split)<;>rfl
theorem put1_len {a c x:AV} {s:Nat×Nat} {F:Fz} {ob:Nat→Option Obj} {G:Gh} {gn:Option Nd} {u:Value} (hs:step1 a s=some x) (hc:nonAgg c=true)
  (h:LF F ob G a gn u):LF F ob G (put1 a s c) gn u:=by
 obtain⟨i,j⟩:=s
 rcases step1_some hs with⟨sz,es,e,rfl,he,hj⟩|⟨e,rfl,rfl,hj⟩
 ·obtain⟨n,h1,h2,h3,h4,h5,h6⟩:=h
  simp only[put1,he]
  refine⟨n,h1,h2,h3,by simpa using h4,by simpa using h5,fun e' he'=>?_⟩
  rcases List.mem_or_eq_of_mem_set he' with hm|rfl
  ·exact h6 e' hm
  ·rw[cells_putCell hj hc,List.length_set];exact h6 e (List.mem_of_getElem? he)
 ·obtain⟨n,h1,h2,h3,h4,h5⟩:=h
  simp only[put1]
  exact⟨n,h1,h2,by rw[cells_putCell hj hc,List.length_set];exact h3,h4,h5⟩
theorem setT_node {a c old:AV} {s:Nat×Nat} {p:List (Nat×Nat)} (h:getT a (s::p)=some old) (hc:nonAgg c=true):∃x,step1 a s=some x∧setT a (s::p) c=put1 a s (setT x p c)∧getT x p=some old∧nonAgg (setT x p c)=true:=by
 simp only[getT]at h
 cases hs:step1 a s with
 |none=>simp[hs]at h
 |some x=>
  simp only[hs,Option.bind_some]at h
  refine⟨x,rfl,by simp[setT,hs],h,?_⟩
  cases p with
  |nil=>exact hc
  |cons t p=>
   simp only[getT]at h
   cases ht:step1 x t with
   |none=>simp[ht]at h
   |some y=>simp only[setT,ht];exact nonAgg_of_node (put1_node (isNode_of_step1 ht))
theorem TOK.graft {F F':Fz} {ob ob':Nat→Option Obj} {G G':Gh} {g:List (Nat×Nat)→Option Nd} {a:AV} {v:Value} (ht:TOK F ob G g a v)
  {p:List (Nat×Nat)} {i j:Nat} {old c:AV} {n:Nd} {u:Value} (hold:getT a (p++[(i,j)])=some old) (hn:g p=some n)
  (hca:nonAgg c=true) (hF:F.le F') (hu:F'.m n.b (n.o+i*n.sz+j)=some u)
  (hm:∀q m o x,g q=some m→m.has m.b o→(m.b,o)≠(n.b,n.o+i*n.sz+j)→F.m m.b o=some x→F'.m m.b o=some x)
  (hd:∀q m,g q=some m→q≠p→∀b o,m.has b o→¬n.has b o)
  (ho:∀q m,g q=some m→m.whole=true→ob' m.b=ob m.b) (hG:∀r m q len,getT a q=some (.lk r len)→G' r []=some m→G r []=some m)
  {gc:List (Nat×Nat)→Option Nd} (hl:TOK F' ob' G' gc c u):
  TOK F' ob' G' (fun q=>if pre (p++[(i,j)]) q=true then gc (q.drop (p++[(i,j)]).length)else g q) (setT a (p++[(i,j)]) c) v:=by
 have hcell:=ht.inside hold
 obtain⟨n',u',e1,hw,hi,hj,hu',hlf⟩:=hcell
 rw[hn]at e1;cases e1
 have hself:=Nd.has_cell (n:=n) hi hj

 have away:∀q i' j' x,getT a (q++[(i',j')])=some x→q++[(i',j')]≠p++[(i,j)]→∃m y,g q=some m∧F'.m m.b (m.o+i'*m.sz+j')=some y∧LF F' ob' G' x (g (q++[(i',j')])) y:=by
  intro q i' j' x hx hne
  obtain⟨m,y,h1,h2,h3,h4,h5,h6⟩:=ht.inside hx
  refine⟨m,y,h1,hm q m _ y h1 (Nd.has_cell h3 h4) ?_ h5,h6.mono hF (fun k hk=>ho _ k hk) fun r k ⟨len,e⟩=>hG r k _ len (by rw[hx,e])⟩
  intro e
  simp only[Prod.mk.injEq]at e
  by_cases hq:q=p
  ·subst hq
   rw[hn]at h1;cases h1
   have hne':(i',j')≠(i,j):=fun e'=>hne (by rw[e'])
   have:=cell_ne hj h4 hne'
   omega
  ·exact hd q m h1 hq m.b _ (Nd.has_cell h3 h4) (by rw[e.1,e.2];exact hself)
 have over:∀q s r,p++[(i,j)]=q++s::r→∃x y,getT a q=some x∧step1 x s=some y∧getT y r=some old∧isNode x=true:=by
  intro q s r e
  rw[e,getT_append]at hold
  cases hx:getT a q with
  |none=>simp[hx]at hold
  |some x=>
   simp only[hx,Option.bind_some,getT]at hold
   cases hy:step1 x s with
   |none=>simp[hy]at hold
   |some y=>exact⟨x,y,rfl,hy,by simpa[hy]using hold,isNode_of_step1 hy⟩
 refine⟨?_,?_,?_⟩
 ·-- the root
  rcases List.eq_nil_or_concat (p++[(i,j)])with e|⟨_,_,_⟩
  ·simp at e
  ·obtain⟨s,r,e⟩:∃s r,p++[(i,j)]=s::r:=by
    cases hp:p++[(i,j)]with
    |nil=>simp at hp
    |cons s r=>exact⟨s,r,rfl⟩
   have hnp:pre (p++[(i,j)]) []=false:=by rw[e];rfl
   simp only[hnp,Bool.false_eq_true,if_false]
   obtain⟨x,hs,hset,_,hna⟩:=setT_node (a:=a) (s:=s) (p:=r) (c:=c) (by rw[←e];exact hold) hca
   rw[e,hset]
   exact put1_len hs hna (ht.root.mono hF (fun k hk=>ho [] k hk) fun r k ⟨len,e⟩=>hG r k [] len (by simp[getT,e]))
 ·intro q i' j' x hx
  rcases paths (p++[(i,j)]) (q++[(i',j')])with⟨r,hr⟩|⟨s,r,hr⟩|⟨z,s,s',p',q',hne,hp,hq⟩
  ·-- under it: the cell itself, or the other tree's
   rw[hr,getT_setT_under hold (.inr hca)]at hx
   have hpp:pre (p++[(i,j)]) (q++[(i',j')])=true:=pre_iff.2 ⟨r,hr⟩
   have hdrop:(q++[(i',j')]).drop (p++[(i,j)]).length=r:=by rw[hr,List.drop_left]
   rcases List.eq_nil_or_concat r with rfl|⟨r',⟨i2,j2⟩,rfl⟩
   ·simp at hr
    obtain⟨rfl,rfl,rfl⟩:=hr
    simp only[getT]at hx
    cases hx
    have hnp:pre (q++[(i',j')]) q=false:=by
     cases hb:pre (q++[(i',j')]) q with
     |false=>rfl
     |true=>obtain⟨r,hr⟩:=pre_iff.1 hb;have:=congrArg List.length hr;simp at this
    exact⟨n,u,by simp only[hnp,Bool.false_eq_true,if_false];exact hn,hu,by simp only[hpp,if_true,hdrop];exact hl.root⟩
   ·rw[List.concat_eq_append]at hr hx hdrop
    rw[←List.append_assoc]at hr
    have e1:=List.append_inj' hr rfl
    obtain⟨rfl,e2⟩:=e1
    simp at e2
    obtain⟨rfl,rfl⟩:=e2
    obtain⟨m,y,g1,g2,g3⟩:=hl.cell r' i' j' x hx
    have hq:pre (p++[(i,j)]) (p++[(i,j)]++r')=true:=pre_iff.2 ⟨r',rfl⟩
    refine⟨m,y,by simp only[hq,if_true,List.drop_left];exact g1,g2,?_⟩
    simp only[hpp,if_true,hdrop];exact g3
  ·-- over it: a node whose head stays
   obtain⟨x0,y,h1,h2,h3,h4⟩:=over _ s r hr
   have hya:nonAgg (setT y r c)=true:=by
    cases r with
    |nil=>exact hca
    |cons t r=>
     simp only[getT]at h3
     cases ht':step1 y t with
     |none=>simp[ht']at h3
     |some z=>simp only[setT,ht'];exact nonAgg_of_node (put1_node (isNode_of_step1 ht'))
   rw[hr,getT_setT_over h1 h2]at hx
   cases hx
   obtain⟨m,y',g1,g2,g3⟩:=away q i' j' x0 h1 (by intro e;rw[hr]at e;have:=congrArg List.length e;simp at this)
   have np:∀z:List (Nat×Nat),z.length<(p++[(i,j)]).length→pre (p++[(i,j)]) z=false:=by
    intro z hz
    cases hb:pre (p++[(i,j)]) z with
    |false=>rfl
    |true=>obtain⟨r,hr⟩:=pre_iff.1 hb;rw[hr]at hz;simp at hz<;>omega
   have l1:(q++[(i',j')]).length<(p++[(i,j)]).length:=by rw[hr];simp<;>omega
   have l2:q.length<(p++[(i,j)]).length:=by simp at l1 ⊢ <;>omega
   refine⟨m,y',by simp only[np _ l2,Bool.false_eq_true,if_false];exact g1,g2,?_⟩
   simp only[np _ l1,Bool.false_eq_true,if_false]
   exact put1_len h2 hya g3
  ·-- beside it
   have hx':getT a (q++[(i',j')])=some x:=by
    rw[hp]at hold
    rw[hp,hq,getT_setT_apart hold hca hne]at hx
    rw[hq];exact hx
   obtain⟨m,y',g1,g2,g3⟩:=away q i' j' x hx' (by rw[hp,hq];intro e;have:=List.append_cancel_left e;simp at this;exact hne this.1)
   have n1:pre (p++[(i,j)]) (q++[(i',j')])=false:=by
    cases hb:pre (p++[(i,j)]) (q++[(i',j')])with
    |false=>rfl
    |true=>obtain⟨t,ht'⟩:=pre_iff.1 hb;rw[hp,hq,List.append_assoc]at ht';have:=List.append_cancel_left ht';simp at this;exact absurd this.1 hne
   have n2:pre (p++[(i,j)]) q=false:=by
    cases hb:pre (p++[(i,j)]) q with
    |false=>rfl
    |true=>
     obtain⟨t,ht'⟩:=pre_iff.1 hb
     have:pre (p++[(i,j)]) (q++[(i',j')])=true:=pre_iff.2 ⟨t++[(i',j')],by rw[ht',List.append_assoc]⟩
     rw[n1]at this;cases this
   refine⟨m,y',by simp only[n2,Bool.false_eq_true,if_false];exact g1,g2,?_⟩
   simp only[n1,Bool.false_eq_true,if_false];exact g3
 ·intro q m hq
  by_cases hb:pre (p++[(i,j)]) q=true
  ·obtain⟨r,rfl⟩:=pre_iff.1 hb
   simp only[hb,if_true,List.drop_left]at hq
   obtain⟨x,hx,hxn⟩:=hl.dom r m hq
   exact⟨x,by rw[getT_setT_under hold (.inr hca)];exact hx,hxn⟩
  ·have hq':g q=some m:=by simpa[hb]using hq
   obtain⟨x,hx,hxn⟩:=ht.dom q m hq'
   rcases paths (p++[(i,j)]) q with⟨r,hr⟩|⟨s,r,hr⟩|⟨z,s,s',p',q',hne,hp,hq2⟩
   ·exact absurd (pre_iff.2 ⟨r,hr⟩) hb
   ·obtain⟨x0,y,h1,h2,h3,h4⟩:=over _ s r hr
    rw[hr]
    exact⟨_,getT_setT_over h1 h2,put1_node h4⟩
   ·refine⟨x,?_,hxn⟩
    rw[hp]at hold
    rw[hp,hq2,getT_setT_apart hold hca hne,←hq2];exact hx
theorem TOK.leaf {c:AV} {u:Value} (hc:isNode c=false) (hl:LF F ob G c none u):TOK F ob G (fun _=>none) c u:=
 ⟨hl,fun p i j x hx=>by
  obtain⟨e,_⟩:=getT_leaf hc hx
  simp at e,fun p n h=>by cases h⟩
theorem TOK.write {F F':Fz} {ob ob':Nat→Option Obj} {G G':Gh} {g:List (Nat×Nat)→Option Nd} {a:AV} {v:Value} (ht:TOK F ob G g a v)
  {p:List (Nat×Nat)} {i j:Nat} {old c:AV} {n:Nd} {u:Value} (hold:getT a (p++[(i,j)])=some old) (hn:g p=some n)
  (hc:isNode c=false) (hca:nonAgg c=true) (hF:F.le F') (hu:F'.m n.b (n.o+i*n.sz+j)=some u)
  (hm:∀q m o x,g q=some m→m.has m.b o→(m.b,o)≠(n.b,n.o+i*n.sz+j)→F.m m.b o=some x→F'.m m.b o=some x)
  (hd:∀q m,g q=some m→q≠p→∀b o,m.has b o→¬n.has b o)
  (ho:∀q m,g q=some m→m.whole=true→ob' m.b=ob m.b) (hG:∀r m q len,getT a q=some (.lk r len)→G' r []=some m→G r []=some m)
  (hl:LF F' ob' G' c none u):
  TOK F' ob' G' (fun q=>if pre (p++[(i,j)]) q=true then none else g q) (setT a (p++[(i,j)]) c) v:=
 ht.graft hold hn hca hF hu hm hd ho hG (gc:=fun _=>none) (.leaf hc hl)
end Go.Am
end
section
namespace Go.Am
variable {B:Base} {K K':Nat→Prop} {g g':Gh} {R:Nat→Value} {h h':Hp} {w w':World}
theorem RM.congr (H:RM B K g R h w) (hh:∀r,hget h' r=hget h r):RM B K g R h' w:=
 ⟨H.chg,fun r a ha=>H.tree r a (by rw[←hh];exact ha),fun r hr=>H.void r (by rw[←hh];exact hr),H.disj,H.blk,fun r a p q len ha=>H.lks r a p q len (by rw[←hh];exact ha),H.inn⟩
theorem RM.weakK (H:RM B K g R h w) (hk:∀q,K q→K' q):RM B K' g R h w:=
 ⟨H.chg,H.tree,H.void,H.disj,H.blk,fun r a p q len ha hq=>hk q (H.lks r a p q len ha hq),H.inn⟩
theorem RM.write (H:RM B K g R h w) {r:Nat} {a old c:AV} {p:List (Nat×Nat)} {i j:Nat} {u:Value} {n:Nd} (ha:hget h r=some a) (hold:getT a (p++[(i,j)])=some old)
  (hn:g r p=some n) (hc:isNode c=false) (hca:nonAgg c=true) (hl:LF (mkF B g w) (obj w) g c none u) (hk:∀q len,c=.lk q len→K q):
  RM B K (cutG g r (p++[(i,j)])) R (hins h r (setT a (p++[(i,j)]) c)) (w.setCell ⟨n.b,n.o+i*n.sz+j,none⟩ u):=by
 have ht:=H.tree r a ha
 obtain⟨n',u',e1,hw,hi,hj,hu',hlf⟩:=ht.inside hold
 rw[hn]at e1;cases e1
 have hself:=Nd.has_cell (n:=n) hi hj
 have hcell:w.cell? ⟨n.b,n.o+i*n.sz+j,none⟩=some u':=hu'
 have hown:owned g n.b (n.o+i*n.sz+j):=⟨r,p,n,hn,hself⟩
 have hle:(mkF B g w).le (mkF B (cutG g r (p++[(i,j)])) (w.setCell ⟨n.b,n.o+i*n.sz+j,none⟩ u)):=by
  refine le_of (fun b o v hv hno=>?_) fun b o v _ hx=>owned_cut hx
  rw[cell_setCell,if_neg];exact hv
  rintro ⟨rfl,rfl,_⟩;exact hno hown
 have hother:∀b o x,(b,o)≠(n.b,n.o+i*n.sz+j)→w.cell? ⟨b,o,none⟩=some x→(w.setCell ⟨n.b,n.o+i*n.sz+j,none⟩ u).cell? ⟨b,o,none⟩=some x:=by
  intro b o x hne hx
  rw[cell_setCell,if_neg];exact hx
  rintro ⟨rfl,rfl,_⟩;exact hne rfl
 have hobj:∀(q:Nat×List (Nat×Nat)) m,g q.1 q.2=some m→m.whole=true→obj (w.setCell ⟨n.b,n.o+i*n.sz+j,none⟩ u) m.b=obj w m.b:=by
  intro q m hm hmw
  unfold obj
  rw[setCell_heap,if_neg]
  intro e
  by_cases hq:(q.1,q.2)=(r,p)
  ·simp only[Prod.mk.injEq]at hq
   rw[hq.1,hq.2,hn]at hm;cases hm;rw[hw]at hmw;cases hmw
  ·exact H.disj _ _ _ _ _ _ hm hn hq m.b (n.o+i*n.sz+j) ⟨rfl,.inl hmw⟩ (by rw[e];exact hself)
 have hG:∀q m,cutG g r (p++[(i,j)]) q []=some m→g q []=some m:=fun q m hm=>(cutG_some hm).1
 refine⟨H.chg.setCell (H.inn _ _ hown),fun r' a' ha'=>?_,fun r' hr' q=>?_,fun r1 p1 n1 r2 p2 n2 h1 h2 hne=>H.disj _ _ _ _ _ _ (cutG_some h1).1 (cutG_some h2).1 hne,fun r' q m hm hmw=>?_,fun r' a' q q' len ha' hq=>?_,fun b o hbo=>H.inn b o (owned_cut hbo)⟩
 ·rw[hget_hins]at ha'
  by_cases hr:r'=r
  ·subst hr
   rw[if_pos rfl]at ha';cases ha'
   have:=ht.write (F':=mkF B (cutG g r' (p++[(i,j)])) (w.setCell ⟨n.b,n.o+i*n.sz+j,none⟩ u)) (ob':=obj (w.setCell ⟨n.b,n.o+i*n.sz+j,none⟩ u)) (G':=cutG g r' (p++[(i,j)])) (u:=u) hold hn hc hca hle
    (by show(w.setCell _ u).cell? _=_;rw[cell_setCell,if_pos ⟨rfl,rfl,by simp[hcell]⟩])
    (fun q m o x _ _ hne hx=>hother _ _ x hne hx)
    (fun q m hm hq b o hb hb'=>H.disj _ _ _ _ _ _ hm hn (by intro e;simp at e;exact hq e) b o hb hb')
    (fun q m hm hmw=>hobj (r',q) m hm hmw) (fun q m _ _ _ hm=>hG q m hm)
    (hl.mono hle (fun _ e=>by cases e) fun q m _ hm=>hG q m hm)
   have e:(fun q=>if pre (p++[(i,j)]) q=true then none else g r' q)=cutG g r' (p++[(i,j)]) r':=by
    funext q;simp[cutG]
   rw[e]at this;exact this
  ·rw[if_neg hr]at ha'
   have e:cutG g r (p++[(i,j)]) r'=g r':=by funext q;simp[cutG,hr]
   rw[e]
   refine(H.tree r' a' ha').mono hle (fun q m o x hm hmo hx=>hother _ _ x ?_ hx) (fun q m hm hmw=>hobj (r',q) m hm hmw) fun q m _ _ _ hm=>hG q m hm
   intro e'
   simp only[Prod.mk.injEq]at e'
   exact H.disj _ _ _ _ _ _ hm hn (by intro e2;simp at e2;exact hr e2.1) m.b o hmo (by rw[e'.1,e'.2];exact hself)
 ·rw[hget_hins]at hr'
  by_cases hr:r'=r
  ·rw[if_pos hr]at hr';cases hr'
  ·rw[if_neg hr]at hr'
   rw[cutG_eq (by intro e;exact hr e.1)];exact H.void r' hr' q
 ·obtain⟨cs,el,fr,h1,h2,h3⟩:=H.blk r' q m (cutG_some hm).1 hmw
  rw[setCell_heap]
  by_cases e:m.b=n.b
  ·rw[if_pos e,h1]
   exact⟨_,el,fr,rfl,by simpa using h2,fun o ho=>by rw[frozen_setCell];exact h3 o ho⟩
  ·rw[if_neg e]
   exact⟨cs,el,fr,h1,h2,fun o ho=>by rw[frozen_setCell];exact h3 o ho⟩
 ·rw[hget_hins]at ha'
  by_cases hr:r'=r
  ·subst hr
   rw[if_pos rfl]at ha';cases ha'
   rcases paths (p++[(i,j)]) q with⟨s,hs⟩|⟨s,t,hs⟩|⟨z,s,s',p',t,hne,hp,hs⟩
   ·rw[hs,getT_setT_under hold (.inr hca)]at hq
    obtain⟨_,rfl⟩:=getT_leaf hc hq
    exact hk q' len rfl
   ·rw[hs]at hold
    rw[getT_append]at hold
    cases hx:getT a q with
    |none=>simp[hx]at hold
    |some x=>
     simp only[hx,Option.bind_some]at hold
     obtain⟨y,hy1,_⟩:=setT_node hold hca
     rw[hs,getT_setT_over hx hy1]at hq
     cases x<;>simp[step1]at hy1<;>simp only[put1]at hq<;>(try split at hq)<;>cases hq
   ·rw[hp]at hold
    rw[hp,hs,getT_setT_apart hold hca hne,←hs]at hq
    exact H.lks r' a q q' len ha hq
  ·rw[if_neg hr]at ha';exact H.lks r' a' q q' len ha' hq
end Go.Am
end
section
namespace Go.Am
variable {B:Base} {K K':Nat→Prop} {g g':Gh} {R:Nat→Value} {h h':Hp} {w w':World}
theorem TOK.sub {F:Fz} {ob:Nat→Option Obj} {G:Gh} {gt:List (Nat×Nat)→Option Nd} {a c:AV} {v:Value} (ht:TOK F ob G gt a v) {p:List (Nat×Nat)} {i j:Nat}
  (hc:getT a (p++[(i,j)])=some c):
  ∃n u,gt p=some n∧n.whole=false∧i<n.cap∧j<n.sz∧F.m n.b (n.o+i*n.sz+j)=some u∧TOK F ob G (fun q=>gt (p++[(i,j)]++q)) c u:=by
 obtain⟨n,u,h1,h2,h3,h4,h5,h6⟩:=ht.inside hc
 refine⟨n,u,h1,h2,h3,h4,h5,by simpa using h6,fun q i' j' x hx=>?_,fun q m hm=>?_⟩
 ·have:getT a (p++[(i,j)]++q++[(i',j')])=some x:=by rw[List.append_assoc,getT_append,hc];exact hx
  obtain⟨m,y,g1,g2,g3⟩:=ht.cell _ i' j' x this
  exact⟨m,y,g1,g2,by rw[←List.append_assoc];exact g3⟩
 ·obtain⟨x,hx,hn⟩:=ht.dom _ m hm
  rw[getT_append,hc]at hx
  exact⟨x,hx,hn⟩
theorem lk_free (H:RM B K g R h w) {r:Nat} {a:AV} (ha:hget h r=some a) {s:Nat} (hk:¬K s) {q:List (Nat×Nat)} {len q':Nat} (hq:getT a q=some (.lk q' len)):q'≠s:=
 fun e=>hk (e▸H.lks r a q q' len ha hq)
def detG (g:Gh) (r:Nat) (P:List (Nat×Nat)) (s:Nat):Gh:=fun r' q=>if r'=s then g r (P++q)else cutG g r P r' q
def setR (R:Nat→Value) (s:Nat) (v:Value):Nat→Value:=fun k=>if k=s then v else R k
theorem RM.detach (H:RM B K g R h w) {r s:Nat} {a c:AV} {p:List (Nat×Nat)} {i j:Nat} (ha:hget h r=some a) (hc:getT a (p++[(i,j)])=some c)
  (hs:hget h s=none) (hks:¬K s):
  ∃n u,g r p=some n∧n.whole=false∧w.cell? ⟨n.b,n.o+i*n.sz+j,none⟩=some u∧
   RM B K (detG g r (p++[(i,j)]) s) (setR R s u) (hins (hins h r (setT a (p++[(i,j)]) .un)) s c) w:=by
 have hsr:r≠s:=by rintro rfl;rw[ha]at hs;cases hs
 have ht:=H.tree r a ha
 obtain⟨n,u,h1,h2,h3,h4,h5,hsub⟩:=ht.sub hc
 have hone:=hsub.root.one
 refine⟨n,u,h1,h2,h5,?_⟩
 have back:∀r' q m,detG g r (p++[(i,j)]) s r' q=some m→∃r2 q2,g r2 q2=some m∧(r'=s→r2=r∧q2=p++[(i,j)]++q)∧(r'≠s→r2=r'∧q2=q∧¬(r'=r∧pre (p++[(i,j)]) q=true)):=by
  intro r' q m hm
  unfold detG at hm
  by_cases e:r'=s
  ·rw[if_pos e]at hm;exact⟨_,_,hm,fun _=>⟨rfl,rfl⟩,fun hx=>absurd e hx⟩
  ·rw[if_neg e]at hm;exact⟨_,_,(cutG_some hm).1,fun hx=>absurd hx e,fun _=>⟨rfl,rfl,(cutG_some hm).2⟩⟩
 have hown:∀b o,owned (detG g r (p++[(i,j)]) s) b o→owned g b o:=by
  rintro b o ⟨r',q,m,hm,hb⟩
  obtain⟨r2,q2,hm2,_⟩:=back r' q m hm
  exact⟨r2,q2,m,hm2,hb⟩
 have hle:(mkF B g w).le (mkF B (detG g r (p++[(i,j)]) s) w):=le_of (fun b o v hv _=>hv) fun b o v _ hx=>hown b o hx
 have hG:∀q m,q≠s→detG g r (p++[(i,j)]) s q []=some m→g q []=some m:=by
  intro q m hq hm
  obtain⟨r2,q2,hm2,_,hx⟩:=back q [] m hm
  obtain⟨rfl,rfl,_⟩:=hx hq
  exact hm2
 refine⟨H.chg,fun r' a' ha'=>?_,fun r' hr' q=>?_,fun r1 p1 n1 r2 p2 n2 g1 g2 hne=>?_,fun r' q m hm hmw=>?_,fun r' a' q q' len ha' hq=>?_,fun b o hbo=>H.inn b o (hown b o hbo)⟩
 ·rw[hget_hins]at ha'
  by_cases hr:r'=s
  ·subst hr
   rw[if_pos rfl]at ha';cases ha'
   have e:detG g r (p++[(i,j)]) r' r'=fun q=>g r (p++[(i,j)]++q):=by funext q;simp[detG]
   rw[e,show setR R r' u r'=u by simp[setR]]
   refine hsub.mono hle (fun _ _ _ _ _ _ hx=>hx) (fun _ _ _ _=>rfl) fun q m z len hz hm=>hG q m ?_ hm
   exact lk_free H ha hks (q:=p++[(i,j)]++z) (len:=len) (by rw[getT_append,hc];exact hz)
  ·rw[if_neg hr,hget_hins]at ha'
   rw[show setR R s u r'=R r' by simp[setR,hr]]
   by_cases hr2:r'=r
   ·subst hr2
    rw[if_pos rfl]at ha';cases ha'
    have:=ht.write (F':=mkF B (detG g r' (p++[(i,j)]) s) w) (ob':=obj w) (G':=detG g r' (p++[(i,j)]) s) (c:=.un) (u:=u) hc h1 rfl rfl hle h5
     (fun _ _ _ _ _ _ _ hx=>hx) (fun q m hm hq b o hb hb'=>H.disj _ _ _ _ _ _ hm h1 (by intro e;simp at e;exact hq e) b o hb hb') (fun _ _ _ _=>rfl)
     (fun q m z len hz hm=>hG q m (lk_free H ha hks hz) hm) ⟨rfl,.un _ hone⟩
    have e:(fun q=>if pre (p++[(i,j)]) q=true then none else g r' q)=detG g r' (p++[(i,j)]) s r':=by
     funext q;simp[detG,cutG,hr]
    rw[e]at this;exact this
   ·rw[if_neg hr2]at ha'
    have e:detG g r (p++[(i,j)]) s r'=g r':=by funext q;simp[detG,cutG,hr,hr2]
    rw[e]
    exact(H.tree r' a' ha').mono hle (fun _ _ _ _ _ _ hx=>hx) (fun _ _ _ _=>rfl) fun q m z len hz hm=>hG q m (lk_free H ha' hks hz) hm
 ·rw[hget_hins]at hr'
  by_cases hr:r'=s
  ·rw[if_pos hr]at hr';cases hr'
  ·rw[if_neg hr,hget_hins]at hr'
   by_cases hr2:r'=r
   ·rw[if_pos hr2]at hr';cases hr'
   ·rw[if_neg hr2]at hr'
    have e:detG g r (p++[(i,j)]) s r' q=g r' q:=by simp[detG,cutG,hr,hr2]
    rw[e];exact H.void r' hr' q
 ·obtain⟨r1',p1',k1,k2,k3⟩:=back r1 p1 n1 g1
  obtain⟨r2',p2',l1,l2,l3⟩:=back r2 p2 n2 g2
  refine H.disj _ _ _ _ _ _ k1 l1 ?_
  intro e
  simp only[Prod.mk.injEq]at e
  apply hne
  by_cases e1:r1=s
  ·by_cases e2:r2=s
   ·obtain⟨_,a2⟩:=k2 e1
    obtain⟨_,b2⟩:=l2 e2
    rw[a2,b2]at e
    rw[e1,e2,List.append_cancel_left e.2]
   ·obtain⟨a1,a2⟩:=k2 e1
    obtain⟨b1,b2,b3⟩:=l3 e2
    exact absurd ⟨by rw[←b1,←e.1,a1],by rw[←b2,←e.2,a2];exact pre_iff.2 ⟨p1,rfl⟩⟩ b3
  ·obtain⟨a1,a2,a3⟩:=k3 e1
   by_cases e2:r2=s
   ·obtain⟨b1,b2⟩:=l2 e2
    exact absurd ⟨by rw[←a1,e.1,b1],by rw[←a2,e.2,b2];exact pre_iff.2 ⟨p2,rfl⟩⟩ a3
   ·obtain⟨b1,b2,b3⟩:=l3 e2
    rw[←a1,←a2,←b1,←b2,e.1,e.2]
 ·obtain⟨r2,q2,hm2,_⟩:=back r' q m hm
  exact H.blk r2 q2 m hm2 hmw
 ·rw[hget_hins]at ha'
  by_cases hr:r'=s
  ·rw[if_pos hr]at ha';cases ha'
   exact H.lks r a (p++[(i,j)]++q) q' len ha (by rw[getT_append,hc];exact hq)
  ·rw[if_neg hr,hget_hins]at ha'
   by_cases hr2:r'=r
   ·rw[if_pos hr2]at ha';cases ha'
    rcases paths (p++[(i,j)]) q with⟨z,hz⟩|⟨z,t,hz⟩|⟨z,t,t',p',y,hne,hp,hz⟩
    ·rw[hz,getT_setT_under hc (.inr rfl)]at hq
     obtain⟨_,e⟩:=getT_leaf (c:=.un) rfl hq
     cases e
    ·rw[hz,getT_append]at hc
     cases hx:getT a q with
     |none=>simp[hx]at hc
     |some x=>
      simp only[hx,Option.bind_some]at hc
      obtain⟨y,hy1,_⟩:=setT_node (c:=.un) hc rfl
      rw[hz,getT_setT_over hx hy1]at hq
      cases x<;>simp[step1]at hy1<;>simp only[put1]at hq<;>(try split at hq)<;>cases hq
    ·rw[hp]at hc
     rw[hp,hz,getT_setT_apart hc rfl hne,←hz]at hq
     exact H.lks r a q q' len ha hq
   ·rw[if_neg hr2]at ha';exact H.lks r' a' q q' len ha' hq
def attG (g:Gh) (r:Nat) (P:List (Nat×Nat)) (s:Nat):Gh:=fun r' q=>if r'=s then none else if r'=r∧pre P q=true then g s (q.drop P.length)else g r' q
theorem RM.attach (H:RM B K g R h w) {r s:Nat} {a c old:AV} {p:List (Nat×Nat)} {i j:Nat} {n:Nd} (ha:hget h r=some a) (hold:getT a (p++[(i,j)])=some old)
  (hs:hget h s=some c) (hsr:s≠r) (hnode:nonAgg c=true) (hn:g r p=some n) (hu:w.cell? ⟨n.b,n.o+i*n.sz+j,none⟩=some (R s)):
  RM B K (attG g r (p++[(i,j)]) s) R (hdel (hins h r (setT a (p++[(i,j)]) c)) s) w:=by
 have ht:=H.tree r a ha
 have hts:=H.tree s c hs
 obtain⟨n',u,h1,h2,h3,h4,h5,h6⟩:=ht.inside hold
 rw[hn]at h1;cases h1
 have back:∀r' q m,attG g r (p++[(i,j)]) s r' q=some m→∃r2 q2,g r2 q2=some m∧r'≠s∧((r'=r∧q=p++[(i,j)]++q2∧r2=s)∨(r2=r'∧q2=q∧¬(r'=r∧pre (p++[(i,j)]) q=true))):=by
  intro r' q m hm
  unfold attG at hm
  by_cases e:r'=s
  ·rw[if_pos e]at hm;cases hm
  ·rw[if_neg e]at hm
   by_cases e2:r'=r∧pre (p++[(i,j)]) q=true
   ·rw[if_pos e2]at hm
    obtain⟨z,rfl⟩:=pre_iff.1 e2.2
    rw[List.drop_left]at hm
    exact⟨s,z,hm,e,.inl ⟨e2.1,rfl,rfl⟩⟩
   ·rw[if_neg e2]at hm;exact⟨r',q,hm,e,.inr ⟨rfl,rfl,e2⟩⟩
 have hown:∀b o,owned (attG g r (p++[(i,j)]) s) b o→owned g b o:=by
  rintro b o ⟨r',q,m,hm,hb⟩
  obtain⟨r2,q2,hm2,_⟩:=back r' q m hm
  exact⟨r2,q2,m,hm2,hb⟩
 have hle:(mkF B g w).le (mkF B (attG g r (p++[(i,j)]) s) w):=le_of (fun b o v hv _=>hv) fun b o v _ hx=>hown b o hx
 have hG:∀q m,attG g r (p++[(i,j)]) s q []=some m→g q []=some m:=by
  intro q m hm
  obtain⟨r2,q2,hm2,_,hx⟩:=back q [] m hm
  rcases hx with⟨_,e,_⟩|⟨rfl,rfl,_⟩
  ·simp at e
  ·exact hm2
 refine⟨H.chg,fun r' a' ha'=>?_,fun r' hr' q=>?_,fun r1 p1 n1 r2 p2 n2 g1 g2 hne=>?_,fun r' q m hm hmw=>?_,fun r' a' q q' len ha' hq=>?_,fun b o hbo=>H.inn b o (hown b o hbo)⟩
 ·rw[hget_hdel]at ha'
  by_cases hr:r'=s
  ·rw[if_pos hr]at ha';cases ha'
  ·rw[if_neg hr,hget_hins]at ha'
   by_cases hr2:r'=r
   ·subst hr2
    rw[if_pos rfl]at ha';cases ha'
    have:=ht.graft (F':=mkF B (attG g r' (p++[(i,j)]) s) w) (ob':=obj w) (G':=attG g r' (p++[(i,j)]) s) (gc:=g s) (c:=c) (u:=R s) hold hn hnode hle hu
     (fun _ _ _ _ _ _ _ hx=>hx) (fun q m hm hq b o hb hb'=>H.disj _ _ _ _ _ _ hm hn (by intro e;simp at e;exact hq e) b o hb hb') (fun _ _ _ _=>rfl)
     (fun q m _ _ _ hm=>hG q m hm) (hts.mono hle (fun _ _ _ _ _ _ hx=>hx) (fun _ _ _ _=>rfl) fun q m _ _ _ hm=>hG q m hm)
    have e:(fun q=>if pre (p++[(i,j)]) q=true then g s (q.drop (p++[(i,j)]).length)else g r' q)=attG g r' (p++[(i,j)]) s r':=by
     funext q;simp[attG,hr]
    rw[e]at this;exact this
   ·rw[if_neg hr2]at ha'
    have e:attG g r (p++[(i,j)]) s r'=g r':=by funext q;simp[attG,hr,hr2]
    rw[e]
    exact(H.tree r' a' ha').mono hle (fun _ _ _ _ _ _ hx=>hx) (fun _ _ _ _=>rfl) fun q m _ _ _ hm=>hG q m hm
 ·rw[hget_hdel]at hr'
  by_cases hr:r'=s
  ·simp[attG,hr]
  ·rw[if_neg hr,hget_hins]at hr'
   by_cases hr2:r'=r
   ·rw[if_pos hr2]at hr';cases hr'
   ·rw[if_neg hr2]at hr'
    have e:attG g r (p++[(i,j)]) s r' q=g r' q:=by simp[attG,hr,hr2]
    rw[e];exact H.void r' hr' q
 ·obtain⟨r1',p1',k1,k2,k3⟩:=back r1 p1 n1 g1
  obtain⟨r2',p2',l1,l2,l3⟩:=back r2 p2 n2 g2
  refine H.disj _ _ _ _ _ _ k1 l1 ?_
  intro e
  simp only[Prod.mk.injEq]at e
  apply hne
  rcases k3 with⟨a1,a2,a3⟩|⟨a1,a2,a3⟩<;>rcases l3 with⟨b1,b2,b3⟩|⟨b1,b2,b3⟩
  ·rw[a1,b1,a2,b2,e.2]
  ·exact absurd (by rw[←b1,←e.1,a3]) l2
  ·exact absurd (by rw[←a1,e.1,b3]) k2
  ·rw[←a1,←a2,←b1,←b2,e.1,e.2]
 ·obtain⟨r2,q2,hm2,_⟩:=back r' q m hm
  exact H.blk r2 q2 m hm2 hmw
 ·rw[hget_hdel]at ha'
  by_cases hr:r'=s
  ·rw[if_pos hr]at ha';cases ha'
  ·rw[if_neg hr,hget_hins]at ha'
   by_cases hr2:r'=r
   ·rw[if_pos hr2]at ha';cases ha'
    rcases paths (p++[(i,j)]) q with⟨z,hz⟩|⟨z,t,hz⟩|⟨z,t,t',p',y,hne,hp,hz⟩
    ·rw[hz,getT_setT_under hold (.inr hnode)]at hq
     exact H.lks s c z q' len hs hq
    ·rw[hz,getT_append]at hold
     cases hx:getT a q with
     |none=>simp[hx]at hold
     |some x=>
      simp only[hx,Option.bind_some]at hold
      obtain⟨y,hy1,_⟩:=setT_node hold hnode
      rw[hz,getT_setT_over hx hy1]at hq
      cases x<;>simp[step1]at hy1<;>simp only[put1]at hq<;>(try split at hq)<;>cases hq
    ·rw[hp]at hold
     rw[hp,hz,getT_setT_apart hold hnode hne,←hz]at hq
     exact H.lks r a q q' len ha hq
   ·rw[if_neg hr2]at ha';exact H.lks r' a' q q' len ha' hq
theorem setCell_self {w:World} {b o:Nat} {u:Value} (h:w.cell? ⟨b,o,none⟩=some u):w.setCell ⟨b,o,none⟩ u=w:=by
 have hh:(w.setCell ⟨b,o,none⟩ u).heap=w.heap:=by
  apply Array.ext_getElem?
  intro k
  rw[setCell_heap]
  by_cases e:k=b
  ·subst e
   rw[if_pos rfl]
   unfold World.cell? at h
   simp only at h
   cases hx:w.heap[k]? with
   |none=>rfl
   |some x=>
    rw[hx]at h
    cases x with
    |cells c el fr=>
     simp at h
     obtain⟨ho,hu⟩:=Array.getElem?_eq_some_iff.1 h
     simp only[Option.map_some]
     congr 2
     apply Array.ext_getElem?
     intro q
     by_cases hq:o=q
     ·subst hq;simp[ho,hu]
     ·rw[Array.getElem?_setIfInBounds_ne hq]
    |_=>simp at h
  ·rw[if_neg e]
 cases w with
 |mk heap tape drawn os output=>
  simp only[World.setCell]at hh ⊢
  congr 1
def dropG (g:Gh) (s:Nat):Gh:=fun r q=>if r=s then none else g r q
theorem RM.drop (H:RM B K g R h w) (s:Nat):RM B K (dropG g s) R (hdel h s) w:=by
 have back:∀r q m,dropG g s r q=some m→g r q=some m:=by
  intro r q m hm
  unfold dropG at hm
  by_cases e:r=s
  ·rw[if_pos e]at hm;cases hm
  ·rw[if_neg e]at hm;exact hm
 have hown:∀b o,owned (dropG g s) b o→owned g b o:=fun b o ⟨r,q,m,hm,hb⟩=>⟨r,q,m,back r q m hm,hb⟩
 have hle:(mkF B g w).le (mkF B (dropG g s) w):=le_of (fun b o v hv _=>hv) fun b o v _ hx=>hown b o hx
 refine⟨H.chg,fun r a ha=>?_,fun r hr q=>?_,fun r1 p1 n1 r2 p2 n2 g1 g2 hne=>H.disj _ _ _ _ _ _ (back _ _ _ g1) (back _ _ _ g2) hne,fun r q m hm=>H.blk r q m (back _ _ _ hm),fun r a q q' len ha=>?_,fun b o hbo=>H.inn b o (hown b o hbo)⟩
 ·rw[hget_hdel]at ha
  by_cases hr:r=s
  ·rw[if_pos hr]at ha;cases ha
  ·rw[if_neg hr]at ha
   have e:dropG g s r=g r:=by funext q;simp[dropG,hr]
   rw[e]
   exact(H.tree r a ha).mono hle (fun _ _ _ _ _ _ hx=>hx) (fun _ _ _ _=>rfl) fun q m _ _ _ hm=>back _ _ _ hm
 ·rw[hget_hdel]at hr
  by_cases e:r=s
  ·simp[dropG,e]
  ·rw[if_neg e]at hr;simp only[dropG,if_neg e];exact H.void r hr q
 ·rw[hget_hdel]at ha
  by_cases hr:r=s
  ·rw[if_pos hr]at ha;cases ha
  ·rw[if_neg hr]at ha;exact H.lks r a q q' len ha
def renG (g:Gh) (r s:Nat):Gh:=fun k q=>if k=s then g r q else if k=r then none else g k q
theorem RM.rename (H:RM B K g R h w) {r s:Nat} {a:AV} (ha:hget h r=some a) (hs:hget h s=none) (hk:¬K s):
  RM B K (renG g r s) (setR R s (R r)) (hins (hdel h r) s a) w:=by
 have hsr:r≠s:=by rintro rfl;rw[ha]at hs;cases hs
 have back:∀k q m,renG g r s k q=some m→∃k2,g k2 q=some m∧(k=s→k2=r)∧(k≠s→k2=k∧k≠r):=by
  intro k q m hm
  unfold renG at hm
  by_cases e:k=s
  ·rw[if_pos e]at hm;exact⟨r,hm,fun _=>rfl,fun hx=>absurd e hx⟩
  ·rw[if_neg e]at hm
   by_cases e2:k=r
   ·rw[if_pos e2]at hm;cases hm
   ·rw[if_neg e2]at hm;exact⟨k,hm,fun hx=>absurd hx e,fun _=>⟨rfl,e2⟩⟩
 have hown:∀b o,owned (renG g r s) b o→owned g b o:=by
  rintro b o ⟨k,q,m,hm,hb⟩
  obtain⟨k2,hm2,_⟩:=back k q m hm
  exact⟨k2,q,m,hm2,hb⟩
 have hle:(mkF B g w).le (mkF B (renG g r s) w):=le_of (fun b o v hv _=>hv) fun b o v _ hx=>hown b o hx
 have hG:∀q m,q≠s→renG g r s q []=some m→g q []=some m:=by
  intro q m hq hm
  obtain⟨k2,hm2,_,hx⟩:=back q [] m hm
  rw[←(hx hq).1];exact hm2
 refine⟨H.chg,fun k a' ha'=>?_,fun k hk' q=>?_,fun r1 p1 n1 r2 p2 n2 g1 g2 hne=>?_,fun k q m hm hmw=>?_,fun k a' q q' len ha' hq=>?_,fun b o hbo=>H.inn b o (hown b o hbo)⟩
 ·rw[hget_hins]at ha'
  by_cases e:k=s
  ·subst e
   rw[if_pos rfl]at ha';cases ha'
   have e1:renG g r k k=g r:=by funext q;simp[renG]
   rw[e1,show setR R k (R r) k=R r by simp[setR]]
   exact(H.tree r a ha).mono hle (fun _ _ _ _ _ _ hx=>hx) (fun _ _ _ _=>rfl) fun q m _ _ hz hm=>hG q m (lk_free H ha hk hz) hm
  ·rw[if_neg e,hget_hdel]at ha'
   by_cases e2:k=r
   ·rw[if_pos e2]at ha';cases ha'
   ·rw[if_neg e2]at ha'
    have e1:renG g r s k=g k:=by funext q;simp[renG,e,e2]
    rw[e1,show setR R s (R r) k=R k by simp[setR,e]]
    exact(H.tree k a' ha').mono hle (fun _ _ _ _ _ _ hx=>hx) (fun _ _ _ _=>rfl) fun q m _ _ hz hm=>hG q m (lk_free H ha' hk hz) hm
 ·rw[hget_hins]at hk'
  by_cases e:k=s
  ·rw[if_pos e]at hk';cases hk'
  ·rw[if_neg e,hget_hdel]at hk'
   by_cases e2:k=r
   ·simp only[renG,if_neg e,if_pos e2]
   ·rw[if_neg e2]at hk';simp only[renG,if_neg e,if_neg e2];exact H.void k hk' q
 ·obtain⟨k1,a1,a2,a3⟩:=back r1 p1 n1 g1
  obtain⟨k2,b1,b2,b3⟩:=back r2 p2 n2 g2
  refine H.disj _ _ _ _ _ _ a1 b1 ?_
  intro e
  simp only[Prod.mk.injEq]at e
  apply hne
  by_cases e1:r1=s<;>by_cases e2:r2=s
  ·rw[e1,e2,e.2]
  ·exact absurd (by rw[←(b3 e2).1,←e.1,a2 e1]) (b3 e2).2
  ·exact absurd (by rw[←(a3 e1).1,e.1,b2 e2]) (a3 e1).2
  ·rw[←(a3 e1).1,←(b3 e2).1,e.1,e.2]
 ·obtain⟨k2,hm2,_⟩:=back k q m hm
  exact H.blk k2 q m hm2 hmw
 ·rw[hget_hins]at ha'
  by_cases e:k=s
  ·rw[if_pos e]at ha';cases ha';exact H.lks r a q q' len ha hq
  ·rw[if_neg e,hget_hdel]at ha'
   by_cases e2:k=r
   ·rw[if_pos e2]at ha';cases ha'
   ·rw[if_neg e2]at ha';exact H.lks k a' q q' len ha' hq
end Go.Am
end
section
namespace Go.Am
variable {B:Base} {K K':Nat→Prop} {g g':Gh} {R:Nat→Value} {h h':Hp} {w w':World}
theorem RM.world (H:RM B K g R h w) (hh:w'.heap=w.heap) (ho:w'.os=w.os) (ht:w'.tape=w.tape) (hp:w'.output=w.output):RM B K g R h w':=by
 have hc:∀a,w'.cell? a=w.cell? a:=fun a=>by unfold World.cell?;rw[hh]
 have hf:∀a,w'.frozen? a=w.frozen? a:=fun a=>by unfold World.frozen?;rw[hh]
 have hob:obj w'=obj w:=by funext b;unfold obj;rw[hh]
 have hF:mkF B g w'=mkF B g w:=by unfold mkF;congr 1;funext b o;exact hc _
 refine⟨⟨ho.trans H.chg.os,ht.trans H.chg.tape,hp.trans H.chg.output,by rw[hh];exact H.chg.size,fun b cs el fr hb=>by rw[hh];exact H.chg.cells b cs el fr hb,fun b hb hn=>by rw[hh];exact H.chg.objs b hb hn⟩,fun r a ha=>by rw[hF,hob];exact H.tree r a ha,H.void,H.disj,fun r p n hn hw=>?_,H.lks,H.inn⟩
 obtain⟨cs,el,fr,h1,h2,h3⟩:=H.blk r p n hn hw
 exact⟨cs,el,fr,by rw[hh];exact h1,h2,fun o ho=>by rw[hf];exact h3 o ho⟩
def cutN (n:Nd) (k cap:Nat):Nd:={n with o:=n.o+k*n.sz,cap:=cap}
theorem cutN_has {n:Nd} {k cap b o:Nat} (hk:k+cap≤n.cap) (h:(cutN n k cap).has b o):n.has b o:=by
 obtain⟨h1,h2⟩:=h
 refine⟨h1,?_⟩
 rcases h2 with h2|⟨h2,h3⟩
 ·exact .inl h2
 ·refine .inr ⟨by simp[cutN]at h2;omega,?_⟩
  simp only[cutN]at h2 h3
  have:n.sz*(k+cap)≤n.sz*n.cap:=Nat.mul_le_mul_left _ hk
  rw[Nat.mul_add,Nat.mul_comm n.sz k]at this
  omega
def cutRG (g:Gh) (r off len k cap:Nat):Gh:=fun s q=>if s=r then(match q with
 |[]=>(g r []).map fun n=>cutN n k cap
 |(i,j)::q=>if i<len then g r ((i+off,j)::q)else none)else g s q
theorem RM.cut (H:RM B K g R h w) {r sz off len k cap:Nat} {es:List AV} {n:Nd} (ha:hget h r=some (.ow sz es)) (hn:g r []=some n) (hk:¬K r)
  (h1:off+len≤es.length) (h2:k+cap≤n.cap) (h3:len≤cap) (h4:cap=0∨k=off):
  RM B K (cutRG g r off len k cap) (setR R r (.slice (some ⟨n.b,n.o+k*n.sz,none⟩) len cap)) (hins h r (.ow sz ((es.drop off).take len))) w:=by
 have ht:=H.tree r _ ha
 obtain⟨n',e1,hw,hsz,hlen,hv,hall⟩:=ht.root
 rw[hn]at e1;cases e1
 have gr0:cutRG g r off len k cap r []=some (cutN n k cap):=by simp[cutRG,hn]
 have back:∀s q m,cutRG g r off len k cap s q=some m→(s=r∧q=[]∧m=cutN n k cap)∨(∃i j q',s=r∧q=(i,j)::q'∧i<len∧g r ((i+off,j)::q')=some m)∨(s≠r∧g s q=some m):=by
  intro s q m hm
  unfold cutRG at hm
  by_cases e:s=r
  ·rw[if_pos e]at hm
   cases q with
   |nil=>simp only[hn,Option.map_some,Option.some.injEq]at hm;exact .inl ⟨e,rfl,hm.symm⟩
   |cons ij q=>
    obtain⟨i,j⟩:=ij
    simp only at hm
    by_cases hi:i<len
    ·rw[if_pos hi]at hm;exact .inr (.inl ⟨i,j,q,e,rfl,hi,hm⟩)
    ·rw[if_neg hi]at hm;cases hm
  ·rw[if_neg e]at hm;exact .inr (.inr ⟨e,hm⟩)
 have hown:∀b o,owned (cutRG g r off len k cap) b o→owned g b o:=by
  rintro b o ⟨s,q,m,hm,hb⟩
  rcases back s q m hm with⟨_,_,rfl⟩|⟨i,j,q',_,_,_,hm'⟩|⟨_,hm'⟩
  ·exact⟨r,[],n,hn,cutN_has h2 hb⟩
  ·exact⟨_,_,m,hm',hb⟩
  ·exact⟨_,_,m,hm',hb⟩
 have hle:(mkF B g w).le (mkF B (cutRG g r off len k cap) w):=le_of (fun b o v hv _=>hv) fun b o v _ hx=>hown b o hx
 have hlk:∀q m,q≠r→cutRG g r off len k cap q []=some m→g q []=some m:=by
  intro q m hq hm
  rcases back q [] m hm with⟨e,_,_⟩|⟨i,j,q',_,e,_,_⟩|⟨_,hm'⟩
  ·exact absurd e hq
  ·cases e
  ·exact hm'
 have hget':∀i j q,getT (.ow sz ((es.drop off).take len)) ((i,j)::q)=if i<len then getT (.ow sz es) ((i+off,j)::q)else none:=by
  intro i j q
  simp only[getT,step1]
  by_cases hi:i<len
  ·rw[if_pos hi,List.getElem?_take_of_lt hi,List.getElem?_drop,Nat.add_comm off i]
  ·rw[if_neg hi,List.getElem?_take_eq_none (by omega)];rfl
 refine⟨H.chg,fun s a hs=>?_,fun s hs q=>?_,fun r1 p1 n1 r2 p2 n2 g1 g2 hne=>?_,fun s q m hm hmw=>?_,fun s a q q' l hs hq=>?_,fun b o hbo=>H.inn b o (hown b o hbo)⟩
 ·rw[hget_hins]at hs
  by_cases e:s=r
  ·subst e
   rw[if_pos rfl]at hs;cases hs
   rw[show setR R s _ s=_ from if_pos rfl]
   refine⟨⟨cutN n k cap,gr0,hw,hsz,by simp[cutN];omega,?_,fun e he=>hall e ((List.drop_subset _ _) ((List.take_subset _ _) he))⟩,fun p i j c hc=>?_,fun q m hm=>?_⟩
   ·have:((es.drop off).take len).length=len:=by simp;omega
    rw[this];rfl
   ·cases p with
    |nil=>
     rw[List.nil_append,hget']at hc
     by_cases hi:i<len
     ·rw[if_pos hi]at hc
      obtain⟨m,u,e1,e2,e3⟩:=ht.cell [] (i+off) j c hc
      rw[hn]at e1;cases e1
      have hko:k=off:=by omega
      refine⟨cutN n k cap,u,gr0,?_,?_⟩
      ·have:(cutN n k cap).o+i*(cutN n k cap).sz+j=n.o+(i+off)*n.sz+j:=by simp[cutN,Nat.add_mul,hko];omega
       rw[this];exact e2
      ·have:cutRG g s off len k cap s ([]++[(i,j)])=g s [(i+off,j)]:=by simp[cutRG,hi]
       rw[this]
       exact e3.mono hle (fun _ _ _=>rfl) fun q m ⟨l,hl⟩ hm=>hlk q m (lk_free H ha hk (q:=[(i+off,j)]) (len:=l) (by rw[hc,hl])) hm
     ·rw[if_neg hi]at hc;cases hc
    |cons ij p=>
     obtain⟨i0,j0⟩:=ij
     rw[List.cons_append,hget']at hc
     by_cases hi:i0<len
     ·rw[if_pos hi]at hc
      obtain⟨m,u,e1,e2,e3⟩:=ht.cell ((i0+off,j0)::p) i j c hc
      refine⟨m,u,by simp[cutRG,hi];exact e1,e2,?_⟩
      have:cutRG g s off len k cap s ((i0,j0)::p++[(i,j)])=g s ((i0+off,j0)::p++[(i,j)]):=by simp[cutRG,hi]
      rw[this]
      exact e3.mono hle (fun _ _ _=>rfl) fun q m ⟨l,hl⟩ hm=>hlk q m (lk_free H ha hk (q:=(i0+off,j0)::p++[(i,j)]) (len:=l) (by rw[List.cons_append,hc,hl])) hm
     ·rw[if_neg hi]at hc;cases hc
   ·rcases back s q m hm with⟨_,rfl,_⟩|⟨i,j,q',_,rfl,hi,hm'⟩|⟨e,_⟩
    ·exact⟨_,rfl,rfl⟩
    ·obtain⟨c,hc,hcn⟩:=ht.dom _ m hm'
     exact⟨c,by rw[hget',if_pos hi];exact hc,hcn⟩
    ·exact absurd rfl e
  ·rw[if_neg e]at hs
   rw[show setR R r _ s=R s from if_neg e]
   have e1:cutRG g r off len k cap s=g s:=by funext q;simp[cutRG,e]
   rw[e1]
   exact(H.tree s a hs).mono hle (fun _ _ _ _ _ _ hx=>hx) (fun _ _ _ _=>rfl) fun q m _ _ hz hm=>hlk q m (lk_free H hs hk hz) hm
 ·rw[hget_hins]at hs
  by_cases e:s=r
  ·rw[if_pos e]at hs;cases hs
  ·rw[if_neg e]at hs;simp only[cutRG,if_neg e];exact H.void s hs q
 ·have key:∀s q m,cutRG g r off len k cap s q=some m→∃s2 q2 m2,g s2 q2=some m2∧(∀b o,m.has b o→m2.has b o)∧((s=r∧q=[]∧s2=r∧q2=[])∨(∃i j q',s=r∧q=(i,j)::q'∧s2=r∧q2=(i+off,j)::q')∨(s≠r∧s2=s∧q2=q)):=by
   intro s q m hm
   rcases back s q m hm with⟨e1,e2,rfl⟩|⟨i,j,q',e1,e2,_,hm'⟩|⟨e,hm'⟩
   ·exact⟨r,[],n,hn,fun b o=>cutN_has h2,.inl ⟨e1,e2,rfl,rfl⟩⟩
   ·exact⟨_,_,m,hm',fun _ _ hx=>hx,.inr (.inl ⟨i,j,q',e1,e2,rfl,rfl⟩)⟩
   ·exact⟨_,_,m,hm',fun _ _ hx=>hx,.inr (.inr ⟨e,rfl,rfl⟩)⟩
  intro b o hb hb'
  obtain⟨s1,q1,m1,k1,k2,k3⟩:=key r1 p1 n1 g1
  obtain⟨s2,q2,m2,l1,l2,l3⟩:=key r2 p2 n2 g2
  refine H.disj _ _ _ _ _ _ k1 l1 ?_ b o (k2 b o hb) (l2 b o hb')
  intro e
  simp only[Prod.mk.injEq]at e
  apply hne
  rcases k3 with⟨a1,a2,a3,a4⟩|⟨i,j,q',a1,a2,a3,a4⟩|⟨a1,a2,a3⟩<;>rcases l3 with⟨b1,b2,b3,b4⟩|⟨i',j',q'',b1,b2,b3,b4⟩|⟨b1,b2,b3⟩
  ·rw[a1,a2,b1,b2]
  ·rw[a4,b4]at e;cases e.2
  ·exact absurd (by rw[←b2,←e.1,a3]) b1
  ·rw[a4,b4]at e;cases e.2
  ·rw[a4,b4]at e
   have e2:=e.2
   simp only[List.cons.injEq,Prod.mk.injEq]at e2
   obtain⟨⟨x1,x2⟩,x3⟩:=e2
   rw[a1,a2,b1,b2,x2,x3,show i=i' by omega]
  ·exact absurd (by rw[←b2,←e.1,a3]) b1
  ·exact absurd (by rw[←a2,e.1,b3]) a1
  ·exact absurd (by rw[←a2,e.1,b3]) a1
  ·rw[←a2,←a3,←b2,←b3,e.1,e.2]
 ·rcases back s q m hm with⟨_,_,rfl⟩|⟨i,j,q',_,_,_,hm'⟩|⟨_,hm'⟩
  ·obtain⟨cs,el,fr,x1,x2,x3⟩:=H.blk r [] n hn hw
   refine⟨cs,el,fr,x1,?_,fun o ho=>x3 o (cutN_has h2 ho)⟩
   have:n.sz*(k+cap)≤n.sz*n.cap:=Nat.mul_le_mul_left _ h2
   rw[Nat.mul_add,Nat.mul_comm n.sz k]at this
   simp[cutN];omega
  ·exact H.blk _ _ m hm' hmw
  ·exact H.blk _ _ m hm' hmw
 ·rw[hget_hins]at hs
  by_cases e:s=r
  ·rw[if_pos e]at hs;cases hs
   cases q with
   |nil=>simp[getT]at hq
   |cons ij q=>
    obtain⟨i,j⟩:=ij
    rw[hget']at hq
    by_cases hi:i<len
    ·rw[if_pos hi]at hq;exact H.lks r _ _ q' l ha hq
    ·rw[if_neg hi]at hq;cases hq
  ·rw[if_neg e]at hs;exact H.lks s a q q' l hs hq
def newG (g:Gh) (r:Nat) (n:Nd):Gh:=fun s q=>if s=r then(match q with|[]=>some n|_=>none)else g s q
theorem RM.new (H:RM B K g R h w) {r:Nat} {c:AV} {cs:Array Value} {el:TypeId} {sz cap:Nat} (hr:hget h r=none) (hk:¬K r) (hsz:sz*cap≤cs.size)
  {v:Value} (hroot:LF (mkF B g w) (obj w) g c (some ⟨w.heap.size,0,sz,cap,false⟩) v) (hnode:isNode c=true) (hnm:∀ks vs,c≠.mp ks vs)
  (hcell:∀i j x,step1 c (i,j)=some x→isNode x=false∧(∀q len,x≠.lk q len)∧∃u,cs[i*sz+j]?=some u∧RF (mkF B g w) x u):
  RM B K (newG g r ⟨w.heap.size,0,sz,cap,false⟩) (setR R r v) (hins h r c) {w with heap:=w.heap.push (.cells cs el)}:=by
 have hheap:∀b,b<w.heap.size→(w.heap.push (.cells cs el))[b]?=w.heap[b]?:=fun b hb=>by
  rw[Array.getElem?_push,if_neg (by omega)]
 have hlt:∀(a:Addr) v,w.cell? a=some v→a.block<w.heap.size:=by
  intro a v hv
  unfold World.cell? at hv
  cases hx:w.heap[a.block]? with
  |none=>rw[hx]at hv;cases hv
  |some x=>exact(Array.getElem?_eq_some_iff.1 hx).1
 have hold:∀(a:Addr),a.block<w.heap.size→World.cell? {w with heap:=w.heap.push (.cells cs el)} a=w.cell? a:=by
  intro a ha;unfold World.cell?;simp only[hheap _ ha]
 have hownb:∀b o,owned g b o→b<w.heap.size:=by
  rintro b o ⟨s,q,m,hm,hb⟩
  rw[←hb.1]
  cases hw:m.whole with
  |false=>
   obtain⟨cs,el,fr,h1,_⟩:=H.blk s q m hm hw
   exact(Array.getElem?_eq_some_iff.1 h1).1
  |true=>
   have:∃a,hget h s=some a:=by
    cases ha:hget h s with
    |none=>rw[H.void s ha q]at hm;cases hm
    |some a=>exact⟨a,rfl⟩
   obtain⟨a,ha⟩:=this
   obtain⟨x,hx,_⟩:=(H.tree s a ha).dom q m hm
   obtain⟨u,hl⟩:=(H.tree s a ha).at hx
   rw[hm]at hl
   cases x with
   |ow sz es=>obtain⟨n,e,h2,_⟩:=hl;cases e;rw[hw]at h2;cases h2
   |bx e=>obtain⟨n,e,h2,_⟩:=hl;cases e;rw[hw]at h2;cases h2
   |mp ks vs=>
    obtain⟨n,es,cl,e,_,_,h4,_⟩:=hl;cases e
    unfold obj at h4
    exact(Array.getElem?_eq_some_iff.1 h4).1
   |_=>cases hl.1
 have back:∀s q m,newG g r ⟨w.heap.size,0,sz,cap,false⟩ s q=some m→(s=r∧q=[]∧m=⟨w.heap.size,0,sz,cap,false⟩)∨(s≠r∧g s q=some m):=by
  intro s q m hm
  unfold newG at hm
  by_cases e:s=r
  ·rw[if_pos e]at hm
   cases q with
   |nil=>simp at hm;exact .inl ⟨e,rfl,hm.symm⟩
   |cons _ _=>cases hm
  ·rw[if_neg e]at hm;exact .inr ⟨e,hm⟩
 have hown:∀b o,owned (newG g r ⟨w.heap.size,0,sz,cap,false⟩) b o→b=w.heap.size∨owned g b o:=by
  rintro b o ⟨s,q,m,hm,hb⟩
  rcases back s q m hm with⟨_,_,rfl⟩|⟨_,hm'⟩
  ·exact .inl hb.1.symm
  ·exact .inr ⟨s,q,m,hm',hb⟩
 have hle:(mkF B g w).le (mkF B (newG g r ⟨w.heap.size,0,sz,cap,false⟩) {w with heap:=w.heap.push (.cells cs el)}):=by
  refine le_of (fun b o v hv _=>by rw[hold _ (hlt _ v hv)];exact hv) fun b o v hv hx=>?_
  rcases hown b o hx with rfl|hx
  ·have:=hlt _ v hv;simp at this
  ·exact hx
 have hG:∀q m,q≠r→newG g r ⟨w.heap.size,0,sz,cap,false⟩ q []=some m→g q []=some m:=by
  intro q m hq hm
  rcases back q [] m hm with⟨e,_⟩|⟨_,hm'⟩
  ·exact absurd e hq
  ·exact hm'
 have hobj:∀b,b<w.heap.size→obj {w with heap:=w.heap.push (.cells cs el)} b=obj w b:=fun b hb=>hheap b hb
 refine⟨⟨H.chg.os,H.chg.tape,H.chg.output,by simp;have:=H.chg.size;omega,fun b cs' el' fr' hb=>?_,fun b hb hn=>?_⟩,fun s a hs=>?_,fun s hs q=>?_,fun r1 p1 n1 r2 p2 n2 g1 g2 hne b o hb hb'=>?_,fun s q m hm hmw=>?_,fun s a q q' l hs hq=>?_,fun b o hbo=>?_⟩
 ·obtain⟨x,h1,h2⟩:=H.chg.cells b cs' el' fr' hb
  exact⟨x,by show(w.heap.push _)[b]?=_;rw[hheap b (Array.getElem?_eq_some_iff.1 h1).1];exact h1,h2⟩
 ·show(w.heap.push _)[b]?=_
  rw[hheap b (by have:=H.chg.size;omega)];exact H.chg.objs b hb hn
 ·rw[hget_hins]at hs
  by_cases e:s=r
  ·subst e
   rw[if_pos rfl]at hs;cases hs
   rw[show setR R s v s=v from if_pos rfl]
   have g0:newG g s ⟨w.heap.size,0,sz,cap,false⟩ s []=some ⟨w.heap.size,0,sz,cap,false⟩:=by simp[newG]
   refine⟨?_,fun p i j x hx=>?_,fun q m hm=>?_⟩
   ·rw[g0]
    cases c with
    |ow sz' es=>exact hroot
    |bx e=>exact hroot
    |mp ks vs=>exact absurd rfl (hnm ks vs)
    |_=>simp[isNode]at hnode
   ·cases p with
    |nil=>
     have hx':step1 c (i,j)=some x:=by
      rw[List.nil_append]at hx;simp only[getT]at hx
      cases hs1:step1 c (i,j)with
      |none=>simp[hs1]at hx
      |some y=>simpa[hs1]using hx
     obtain⟨h1,h2,u,h3,h4⟩:=hcell i j x hx'
     refine⟨_,u,g0,?_,?_⟩
     ·show World.cell? _ _=_
      unfold World.cell?
      simp only[Array.getElem?_push_size]
      simpa using h3
     ·have:newG g s ⟨w.heap.size,0,sz,cap,false⟩ s ([]++[(i,j)])=none:=by simp[newG]
      rw[this]
      cases x with
      |ow _ _=>simp[isNode]at h1
      |bx _=>simp[isNode]at h1
      |mp _ _=>simp[isNode]at h1
      |lk q len=>exact absurd rfl (h2 q len)
      |_=>exact⟨rfl,h4.mono hle⟩
    |cons ij p=>
     exfalso
     rw[List.cons_append]at hx
     simp only[getT]at hx
     cases hs1:step1 c ij with
     |none=>simp[hs1]at hx
     |some y=>
      simp only[hs1,Option.bind_some]at hx
      obtain⟨h1,_⟩:=hcell ij.1 ij.2 y hs1
      obtain⟨e,_⟩:=getT_leaf h1 hx
      simp at e
   ·rcases back s q m hm with⟨_,rfl,_⟩|⟨e,_⟩
    ·exact⟨c,rfl,hnode⟩
    ·exact absurd rfl e
  ·rw[if_neg e]at hs
   rw[show setR R r v s=R s from if_neg e]
   have e1:newG g r ⟨w.heap.size,0,sz,cap,false⟩ s=g s:=by funext q;simp[newG,e]
   rw[e1]
   refine(H.tree s a hs).mono hle (fun q m o x hm ho hx=>?_) (fun q m hm hmw=>?_) fun q m _ _ hz hm=>hG q m (lk_free H hs hk hz) hm
   ·show World.cell? _ _=_
    rw[hold _ (hlt _ x hx)];exact hx
   ·exact hobj _ (hownb m.b 0 ⟨s,q,m,hm,rfl,.inl hmw⟩)
 ·rw[hget_hins]at hs
  by_cases e:s=r
  ·rw[if_pos e]at hs;cases hs
  ·rw[if_neg e]at hs;simp only[newG,if_neg e];exact H.void s hs q
 ·rcases back r1 p1 n1 g1 with⟨a1,a2,rfl⟩|⟨a1,a2⟩<;>rcases back r2 p2 n2 g2 with⟨b1,b2,rfl⟩|⟨b1,b2⟩
  ·exact hne (by rw[a1,a2,b1,b2])
  ·have:=hownb b o ⟨r2,p2,n2,b2,hb'⟩
   have e:=hb.1;simp at e;omega
  ·have:=hownb b o ⟨r1,p1,n1,a2,hb⟩
   have e:=hb'.1;simp at e;omega
  ·exact H.disj _ _ _ _ _ _ a2 b2 hne b o hb hb'
 ·rcases back s q m hm with⟨_,_,rfl⟩|⟨_,hm'⟩
  ·refine⟨cs,el,(0,0),by show(w.heap.push _)[w.heap.size]?=_;simp,by simpa using hsz,fun o _=>?_⟩
   unfold World.frozen?
   simp
  ·obtain⟨cs',el',fr',h1,h2,h3⟩:=H.blk s q m hm' hmw
   have hb:=(Array.getElem?_eq_some_iff.1 h1).1
   refine⟨cs',el',fr',by show(w.heap.push _)[m.b]?=_;rw[hheap _ hb];exact h1,h2,fun o ho=>?_⟩
   have:=h3 o ho
   unfold World.frozen? at this ⊢
   simp only[hheap _ hb];exact this
 ·rw[hget_hins]at hs
  by_cases e:s=r
  ·rw[if_pos e]at hs;cases hs
   cases q with
   |nil=>
    simp only[getT,Option.some.injEq]at hq
    rw[hq]at hnode;simp[isNode]at hnode
   |cons ij q=>
    simp only[getT]at hq
    cases hs1:step1 c ij with
    |none=>simp[hs1]at hq
    |some y=>
     simp only[hs1,Option.bind_some]at hq
     obtain⟨h1,h2,_⟩:=hcell ij.1 ij.2 y hs1
     obtain⟨_,e⟩:=getT_leaf h1 hq
     exact absurd e.symm (h2 q' l)
  ·rw[if_neg e]at hs;exact H.lks s a q q' l hs hq
 ·rcases hown b o hbo with rfl|hx
  ·exact .inr H.chg.size
  ·exact H.inn b o hx
end Go.Am
end
section
namespace Go.Am
variable {B:Base} {K K':Nat→Prop} {g g':Gh} {R:Nat→Value} {h h':Hp} {w w':World}
theorem RM.spare (H:RM B K g R h w) {r sz t:Nat} {es:List AV} {n:Nd} {u:Value} (ha:hget h r=some (.ow sz es)) (hn:g r []=some n)
  (h1:es.length*n.sz≤t) (h2:t<n.sz*n.cap):RM B K g R h (w.setCell ⟨n.b,n.o+t,none⟩ u):=by
 have ht:=H.tree r _ ha
 obtain⟨n',e1,hw,hsz,hlen,hv,hall⟩:=ht.root
 rw[hn]at e1;cases e1
 have hself:n.has n.b (n.o+t):=⟨rfl,.inr ⟨by omega,by omega⟩⟩
 have hown:owned g n.b (n.o+t):=⟨r,[],n,hn,hself⟩
 have hother:∀b o x,(b,o)≠(n.b,n.o+t)→w.cell? ⟨b,o,none⟩=some x→(w.setCell ⟨n.b,n.o+t,none⟩ u).cell? ⟨b,o,none⟩=some x:=by
  intro b o x hne hx
  rw[cell_setCell,if_neg];exact hx
  rintro ⟨rfl,rfl,_⟩;exact hne rfl
 have hle:(mkF B g w).le (mkF B g (w.setCell ⟨n.b,n.o+t,none⟩ u)):=by
  refine le_of (fun b o v hv hno=>hother b o v ?_ hv) fun b o v _ hx=>hx
  intro e;simp only[Prod.mk.injEq]at e;exact hno (by rw[e.1,e.2];exact hown)
 have hobj:∀s q m,g s q=some m→m.whole=true→obj (w.setCell ⟨n.b,n.o+t,none⟩ u) m.b=obj w m.b:=by
  intro s q m hm hmw
  unfold obj
  rw[setCell_heap,if_neg]
  intro e
  by_cases hq:(s,q)=(r,[])
  ·simp only[Prod.mk.injEq]at hq
   rw[hq.1,hq.2,hn]at hm;cases hm;rw[hw]at hmw;cases hmw
  ·exact H.disj _ _ _ _ _ _ hm hn hq m.b (n.o+t) ⟨rfl,.inl hmw⟩ (by rw[e];exact hself)
 refine⟨H.chg.setCell (H.inn _ _ hown),fun s a hs=>?_,H.void,H.disj,fun s q m hm hmw=>?_,H.lks,H.inn⟩
 ·by_cases hsr:s=r
  ·subst hsr
   rw[ha]at hs;cases hs
   refine⟨ht.root.mono hle (fun m hm=>hobj s [] m hm) fun _ _ _ hm=>hm,fun p i j c hc=>?_,ht.dom⟩
   obtain⟨m,y,e1,e2,e3,e4,e5,e6⟩:=ht.inside hc
   refine⟨m,y,e1,hother _ _ _ ?_ e5,e6.mono hle (fun m hm=>hobj s _ m hm) fun _ _ _ hm=>hm⟩
   intro e
   simp only[Prod.mk.injEq]at e
   cases p with
   |nil=>
    rw[hn]at e1;cases e1
    have hi:i<es.length:=by
     rw[List.nil_append]at hc
     simp only[getT,step1]at hc
     cases he:es[i]? with
     |none=>simp[he]at hc
     |some _=>exact(List.getElem?_eq_some_iff.1 he).1
    have:(i+1)*n.sz≤es.length*n.sz:=Nat.mul_le_mul_right _ hi
    rw[Nat.add_mul]at this
    omega
   |cons _ _=>exact H.disj _ _ _ _ _ _ e1 hn (by simp) m.b _ (Nd.has_cell e3 e4) (by rw[e.1,e.2];exact hself)
  ·refine(H.tree s a hs).mono hle (fun q m o x hm ho hx=>hother _ _ _ ?_ hx) (fun q m hm=>hobj s q m hm) fun _ _ _ _ _ hm=>hm
   intro e
   simp only[Prod.mk.injEq]at e
   exact H.disj _ _ _ _ _ _ hm hn (by intro e';simp at e';exact hsr e'.1) m.b o ho (by rw[e.1,e.2];exact hself)
 ·obtain⟨cs,el,fr,x1,x2,x3⟩:=H.blk s q m hm hmw
  rw[setCell_heap]
  by_cases e:m.b=n.b
  ·rw[if_pos e,x1]
   exact⟨_,el,fr,rfl,by simpa using x2,fun o ho=>by rw[frozen_setCell];exact x3 o ho⟩
  ·rw[if_neg e]
   exact⟨cs,el,fr,x1,x2,fun o ho=>by rw[frozen_setCell];exact x3 o ho⟩
theorem RM.extend (H:RM B K g R h w) {r sz:Nat} {es new:List AV} {n:Nd} (ha:hget h r=some (.ow sz es)) (hn:g r []=some n)
  (h1:es.length+new.length≤n.cap) (h2:∀e∈new,(cells e).length=sz)
  (hcell:∀i e j x,new[i]?=some e→(cells e)[j]?=some x→isNode x=false∧(∀q len,x≠.lk q len)∧∃u,w.cell? ⟨n.b,n.o+(es.length+i)*n.sz+j,none⟩=some u∧RF (mkF B g w) x u):
  RM B K g (setR R r (.slice (some ⟨n.b,n.o,none⟩) (es.length+new.length) n.cap)) (hins h r (.ow sz (es++new))) w:=by
 have ht:=H.tree r _ ha
 obtain⟨n',e1,hw,hsz,hlen,hv,hall⟩:=ht.root
 rw[hn]at e1;cases e1
 have up:∀i j q,i<es.length→getT (.ow sz (es++new)) ((i,j)::q)=getT (.ow sz es) ((i,j)::q):=by
  intro i j q hi
  simp only[getT,step1,List.getElem?_append_left hi]
 have dn:∀i j q x,es.length≤i→getT (.ow sz (es++new)) ((i,j)::q)=some x→q=[]∧isNode x=false∧(∀q len,x≠.lk q len)∧∃u,w.cell? ⟨n.b,n.o+i*n.sz+j,none⟩=some u∧RF (mkF B g w) x u:=by
  intro i j q x hi hx
  simp only[getT,step1,List.getElem?_append_right hi]at hx
  cases he:new[i - es.length]? with
  |none=>simp[he]at hx
  |some e=>
   simp only[he,Option.bind_some]at hx
   cases hy:(cells e)[j]? with
   |none=>simp[hy]at hx
   |some y=>
    simp only[hy,Option.bind_some]at hx
    obtain⟨a1,a2,u,a3,a4⟩:=hcell _ e j y he hy
    obtain⟨rfl,rfl⟩:=getT_leaf a1 hx
    have:es.length+(i - es.length)=i:=by omega
    rw[this]at a3
    exact⟨rfl,a1,a2,u,a3,a4⟩
 have gnone:∀i j q,es.length≤i→g r ((i,j)::q)=none:=by
  intro i j q hi
  cases hm:g r ((i,j)::q)with
  |none=>rfl
  |some m=>
   obtain⟨x,hx,_⟩:=ht.dom _ m hm
   simp only[getT,step1,List.getElem?_eq_none hi,Option.bind_none]at hx
   cases hx
 refine⟨H.chg,fun s a hs=>?_,fun s hs q=>?_,H.disj,H.blk,fun s a q q' l hs hq=>?_,H.inn⟩
 ·rw[hget_hins]at hs
  by_cases e:s=r
  ·subst e
   rw[if_pos rfl]at hs;cases hs
   rw[show setR R s _ s=_ from if_pos rfl]
   refine⟨⟨n,hn,hw,hsz,by simpa using h1,by simp,fun e he=>?_⟩,fun p i j c hc=>?_,fun q m hm=>?_⟩
   ·rcases List.mem_append.1 he with he|he
    ·exact hall e he
    ·exact h2 e he
   ·cases p with
    |nil=>
     rw[List.nil_append]at hc
     by_cases hi:i<es.length
     ·rw[up i j [] hi]at hc
      exact ht.cell [] i j c hc
     ·obtain⟨_,a1,a2,u,a3,a4⟩:=dn i j [] c (by omega) hc
      refine⟨n,u,hn,a3,?_⟩
      rw[List.nil_append,gnone i j [] (by omega)]
      cases c with
      |ow _ _=>simp[isNode]at a1
      |bx _=>simp[isNode]at a1
      |mp _ _=>simp[isNode]at a1
      |lk q len=>exact absurd rfl (a2 q len)
      |_=>exact⟨rfl,a4⟩
    |cons ij p=>
     obtain⟨i0,j0⟩:=ij
     rw[List.cons_append]at hc
     by_cases hi:i0<es.length
     ·rw[up i0 j0 _ hi]at hc
      exact ht.cell ((i0,j0)::p) i j c hc
     ·obtain⟨e,_⟩:=dn i0 j0 _ c (by omega) hc
      simp at e
   ·obtain⟨x,hx,hxn⟩:=ht.dom q m hm
    cases q with
    |nil=>exact⟨_,rfl,rfl⟩
    |cons ij q=>
     obtain⟨i,j⟩:=ij
     by_cases hi:i<es.length
     ·exact⟨x,by rw[up i j q hi];exact hx,hxn⟩
     ·rw[gnone i j q (by omega)]at hm;cases hm
  ·rw[if_neg e]at hs
   rw[show setR R r _ s=R s from if_neg e]
   exact H.tree s a hs
 ·rw[hget_hins]at hs
  by_cases e:s=r
  ·rw[if_pos e]at hs;cases hs
  ·rw[if_neg e]at hs;exact H.void s hs q
 ·rw[hget_hins]at hs
  by_cases e:s=r
  ·rw[if_pos e]at hs;cases hs
   cases q with
   |nil=>simp[getT]at hq
   |cons ij q=>
    obtain⟨i,j⟩:=ij
    by_cases hi:i<es.length
    ·rw[up i j q hi]at hq;exact H.lks r _ _ q' l ha hq
    ·obtain⟨_,_,a2,_⟩:=dn i j q _ (by omega) hq
     exact absurd rfl (a2 q' l)
  ·rw[if_neg e]at hs;exact H.lks s a q q' l hs hq
theorem RM.owned_lt (H:RM B K g R h w):∀b o,owned g b o→b<w.heap.size:=by
 rintro b o ⟨s,q,m,hm,hb⟩
 rw[←hb.1]
 cases hw:m.whole with
 |false=>
  obtain⟨cs,el,fr,h1,_⟩:=H.blk s q m hm hw
  exact(Array.getElem?_eq_some_iff.1 h1).1
 |true=>
  have:∃a,hget h s=some a:=by
   cases ha:hget h s with
   |none=>rw[H.void s ha q]at hm;cases hm
   |some a=>exact⟨a,rfl⟩
  obtain⟨a,ha⟩:=this
  obtain⟨x,hx,_⟩:=(H.tree s a ha).dom q m hm
  obtain⟨u,hl⟩:=(H.tree s a ha).at hx
  rw[hm]at hl
  cases x with
  |ow sz es=>obtain⟨n,e,h2,_⟩:=hl;cases e;rw[hw]at h2;cases h2
  |bx e=>obtain⟨n,e,h2,_⟩:=hl;cases e;rw[hw]at h2;cases h2
  |mp ks vs=>
   obtain⟨n,es,cl,e,_,_,h4,_⟩:=hl;cases e
   unfold obj at h4
   exact(Array.getElem?_eq_some_iff.1 h4).1
  |_=>cases hl.1
theorem RM.newMap (H:RM B K g R h w) {r:Nat} (hr:hget h r=none) (hk:¬K r):
  RM B K (newG g r ⟨w.heap.size,0,1,0,true⟩) (setR R r (.map (some w.heap.size))) (hins h r (.mp [] [])) {w with heap:=w.heap.push (.map #[] 0)}:=by
 have hheap:∀b,b<w.heap.size→(w.heap.push (Obj.map #[] 0))[b]?=w.heap[b]?:=fun b hb=>by
  rw[Array.getElem?_push,if_neg (by omega)]
 have hlt:∀(a:Addr) v,w.cell? a=some v→a.block<w.heap.size:=by
  intro a v hv
  unfold World.cell? at hv
  cases hx:w.heap[a.block]? with
  |none=>rw[hx]at hv;cases hv
  |some x=>exact(Array.getElem?_eq_some_iff.1 hx).1
 have hold:∀(a:Addr),a.block<w.heap.size→World.cell? {w with heap:=w.heap.push (.map #[] 0)} a=w.cell? a:=by
  intro a ha;unfold World.cell?;simp only[hheap _ ha]
 have back:∀s q m,newG g r ⟨w.heap.size,0,1,0,true⟩ s q=some m→(s=r∧q=[]∧m=⟨w.heap.size,0,1,0,true⟩)∨(s≠r∧g s q=some m):=by
  intro s q m hm
  unfold newG at hm
  by_cases e:s=r
  ·rw[if_pos e]at hm
   cases q with
   |nil=>simp at hm;exact .inl ⟨e,rfl,hm.symm⟩
   |cons _ _=>cases hm
  ·rw[if_neg e]at hm;exact .inr ⟨e,hm⟩
 have hown:∀b o,owned (newG g r ⟨w.heap.size,0,1,0,true⟩) b o→b=w.heap.size∨owned g b o:=by
  rintro b o ⟨s,q,m,hm,hb⟩
  rcases back s q m hm with⟨_,_,rfl⟩|⟨_,hm'⟩
  ·exact .inl hb.1.symm
  ·exact .inr ⟨s,q,m,hm',hb⟩
 have hle:(mkF B g w).le (mkF B (newG g r ⟨w.heap.size,0,1,0,true⟩) {w with heap:=w.heap.push (.map #[] 0)}):=by
  refine le_of (fun b o v hv _=>by rw[hold _ (hlt _ v hv)];exact hv) fun b o v hv hx=>?_
  rcases hown b o hx with rfl|hx
  ·have:=hlt _ v hv;simp at this
  ·exact hx
 have hG:∀q m,q≠r→newG g r ⟨w.heap.size,0,1,0,true⟩ q []=some m→g q []=some m:=by
  intro q m hq hm
  rcases back q [] m hm with⟨e,_⟩|⟨_,hm'⟩
  ·exact absurd e hq
  ·exact hm'
 refine⟨⟨H.chg.os,H.chg.tape,H.chg.output,by simp;have:=H.chg.size;omega,fun b cs' el' fr' hb=>?_,fun b hb hn=>?_⟩,fun s a hs=>?_,fun s hs q=>?_,fun r1 p1 n1 r2 p2 n2 g1 g2 hne b o hb hb'=>?_,fun s q m hm hmw=>?_,fun s a q q' l hs hq=>?_,fun b o hbo=>?_⟩
 ·obtain⟨x,h1,h2⟩:=H.chg.cells b cs' el' fr' hb
  exact⟨x,by show(w.heap.push _)[b]?=_;rw[hheap b (Array.getElem?_eq_some_iff.1 h1).1];exact h1,h2⟩
 ·show(w.heap.push _)[b]?=_
  rw[hheap b (by have:=H.chg.size;omega)];exact H.chg.objs b hb hn
 ·rw[hget_hins]at hs
  by_cases e:s=r
  ·subst e
   rw[if_pos rfl]at hs;cases hs
   rw[show setR R s (.map (some w.heap.size)) s=.map (some w.heap.size)from if_pos rfl]
   have g0:newG g s ⟨w.heap.size,0,1,0,true⟩ s []=some ⟨w.heap.size,0,1,0,true⟩:=by simp[newG]
   refine⟨⟨_,#[],0,g0,rfl,rfl,by unfold obj;simp,rfl,rfl,fun i k hk=>by simp at hk,fun i k hk=>by simp at hk⟩,fun p i j x hx=>?_,fun q m hm=>?_⟩
   ·exfalso
    cases p with
    |nil=>simp[getT,step1]at hx
    |cons _ _=>simp[getT,step1]at hx
   ·rcases back s q m hm with⟨_,rfl,_⟩|⟨e,_⟩
    ·exact⟨_,rfl,rfl⟩
    ·exact absurd rfl e
  ·rw[if_neg e]at hs
   rw[show setR R r _ s=R s from if_neg e]
   have e1:newG g r ⟨w.heap.size,0,1,0,true⟩ s=g s:=by funext q;simp[newG,e]
   rw[e1]
   refine(H.tree s a hs).mono hle (fun q m o x hm ho hx=>?_) (fun q m hm hmw=>?_) fun q m _ _ hz hm=>hG q m (lk_free H hs hk hz) hm
   ·show World.cell? _ _=_
    rw[hold _ (hlt _ x hx)];exact hx
   ·exact hheap _ (H.owned_lt m.b 0 ⟨s,q,m,hm,rfl,.inl hmw⟩)
 ·rw[hget_hins]at hs
  by_cases e:s=r
  ·rw[if_pos e]at hs;cases hs
  ·rw[if_neg e]at hs;simp only[newG,if_neg e];exact H.void s hs q
 ·rcases back r1 p1 n1 g1 with⟨a1,a2,rfl⟩|⟨a1,a2⟩<;>rcases back r2 p2 n2 g2 with⟨b1,b2,rfl⟩|⟨b1,b2⟩
  ·exact hne (by rw[a1,a2,b1,b2])
  ·have:=H.owned_lt b o ⟨r2,p2,n2,b2,hb'⟩
   have e:=hb.1;simp at e;omega
  ·have:=H.owned_lt b o ⟨r1,p1,n1,a2,hb⟩
   have e:=hb'.1;simp at e;omega
  ·exact H.disj _ _ _ _ _ _ a2 b2 hne b o hb hb'
 ·rcases back s q m hm with⟨_,_,rfl⟩|⟨_,hm'⟩
  ·cases hmw
  ·obtain⟨cs',el',fr',h1,h2,h3⟩:=H.blk s q m hm' hmw
   have hb:=(Array.getElem?_eq_some_iff.1 h1).1
   refine⟨cs',el',fr',by show(w.heap.push _)[m.b]?=_;rw[hheap _ hb];exact h1,h2,fun o ho=>?_⟩
   have:=h3 o ho
   unfold World.frozen? at this ⊢
   simp only[hheap _ hb];exact this
 ·rw[hget_hins]at hs
  by_cases e:s=r
  ·rw[if_pos e]at hs;cases hs
   cases q with
   |nil=>simp[getT]at hq
   |cons ij q=>simp[getT,step1]at hq
  ·rw[if_neg e]at hs;exact H.lks s a q q' l hs hq
 ·rcases hown b o hbo with rfl|hx
  ·exact .inr H.chg.size
  ·exact H.inn b o hx
theorem RM.mapSet (H:RM B K g R h w) {r:Nat} {ks vs ks' vs':List AV} {n:Nd} {es':Array MapEntry} {cl':Nat} (ha:hget h r=some (.mp ks vs)) (hn:g r []=some n)
  (hok:mapOk (mkF B g w) ks' vs' es'):
  RM B K g R (hins h r (.mp ks' vs')) {w with heap:=w.heap.setIfInBounds n.b (.map es' cl')}:=by
 have ht:=H.tree r _ ha
 obtain⟨n',es,cl,e1,hw,hv,hob,_⟩:=ht.root
 rw[hn]at e1;cases e1
 have hb0:w.heap[n.b]?=some (.map es cl):=hob
 have hlt:=(Array.getElem?_eq_some_iff.1 hb0).1
 have hheap:∀b,b≠n.b→(w.heap.setIfInBounds n.b (Obj.map es' cl'))[b]?=w.heap[b]?:=fun b hb=>by
  rw[Array.getElem?_setIfInBounds_ne (fun e=>hb e.symm)]
 have hself:(w.heap.setIfInBounds n.b (Obj.map es' cl'))[n.b]?=some (.map es' cl'):=by simp[hlt]
 have hcell:∀a:Addr,World.cell? {w with heap:=w.heap.setIfInBounds n.b (.map es' cl')} a=w.cell? a:=by
  intro a
  unfold World.cell?
  by_cases e:a.block=n.b
  ·simp only[e,hself,hb0]
  ·simp only[hheap _ e]
 have hfr:∀a:Addr,World.frozen? {w with heap:=w.heap.setIfInBounds n.b (.map es' cl')} a=w.frozen? a:=by
  intro a
  unfold World.frozen?
  by_cases e:a.block=n.b
  ·simp only[e,hself,hb0]
  ·simp only[hheap _ e]
 have hle:(mkF B g w).le (mkF B g {w with heap:=w.heap.setIfInBounds n.b (.map es' cl')}):=le_of (fun b o v hv _=>by rw[hcell];exact hv) fun b o v _ hx=>hx
 have hown:owned g n.b 0:=⟨r,[],n,hn,rfl,.inl hw⟩
 have hownb:∀o,owned g n.b o:=fun o=>⟨r,[],n,hn,rfl,.inl hw⟩
 have hobj:∀s q m,g s q=some m→m.whole=true→(s,q)≠(r,[])→obj {w with heap:=w.heap.setIfInBounds n.b (.map es' cl')} m.b=obj w m.b:=by
  intro s q m hm hmw hne
  refine hheap _ fun e=>?_
  exact H.disj _ _ _ _ _ _ hm hn hne m.b 0 ⟨rfl,.inl hmw⟩ ⟨e.symm,.inl hw⟩
 refine⟨⟨H.chg.os,H.chg.tape,H.chg.output,by simp;exact H.chg.size,fun b cs el fr hb=>?_,fun b hb hno=>?_⟩,fun s a hs=>?_,fun s hs q=>?_,H.disj,fun s q m hm hmw=>?_,fun s a q q' l hs hq=>?_,H.inn⟩
 ·obtain⟨x,h1,h2⟩:=H.chg.cells b cs el fr hb
  refine⟨x,?_,h2⟩
  rw[←h1]
  refine hheap b fun e=>?_
  rw[e,hb0]at h1;cases h1
 ·rw[←H.chg.objs b hb hno]
  refine hheap b fun e=>?_
  rcases H.inn _ _ (hownb 0)with hx|hx
  ·exact hno 0 (by rw[e];exact hx)
  ·omega
 ·rw[hget_hins]at hs
  by_cases e:s=r
  ·subst e
   rw[if_pos rfl]at hs;cases hs
   refine⟨⟨n,es',cl',hn,hw,hv,hself,hok.1,hok.2.1,fun i k hk=>?_,fun i v hk=>?_⟩,fun p i j x hx=>?_,fun q m hm=>?_⟩
   ·obtain⟨e,e1,e2⟩:=hok.2.2.1 i k hk;exact⟨e,e1,e2.mono hle⟩
   ·obtain⟨e,e1,e2,e3⟩:=hok.2.2.2 i v hk;exact⟨e,e1,e2,e3.mono hle⟩
   ·exfalso
    cases p with
    |nil=>simp[getT,step1]at hx
    |cons _ _=>simp[getT,step1]at hx
   ·obtain⟨x,hx,hxn⟩:=ht.dom q m hm
    cases q with
    |nil=>exact⟨_,rfl,rfl⟩
    |cons _ _=>simp[getT,step1]at hx
  ·rw[if_neg e]at hs
   exact(H.tree s a hs).mono hle (fun q m o x hm ho hx=>by show World.cell? _ _=_;rw[hcell];exact hx) (fun q m hm hmw=>hobj s q m hm hmw (by intro e';simp at e';exact e e'.1)) fun _ _ _ _ _ hm=>hm
 ·rw[hget_hins]at hs
  by_cases e:s=r
  ·rw[if_pos e]at hs;cases hs
  ·rw[if_neg e]at hs;exact H.void s hs q
 ·obtain⟨cs',el',fr',h1,h2,h3⟩:=H.blk s q m hm hmw
  refine⟨cs',el',fr',?_,h2,fun o ho=>by rw[hfr];exact h3 o ho⟩
  rw[←h1]
  refine hheap _ fun e=>?_
  rw[e,hb0]at h1;cases h1
 ·rw[hget_hins]at hs
  by_cases e:s=r
  ·rw[if_pos e]at hs;cases hs
   cases q with
   |nil=>simp[getT]at hq
   |cons ij q=>simp[getT,step1]at hq
  ·rw[if_neg e]at hs;exact H.lks s a q q' l hs hq
end Go.Am
end
section
namespace Go.Am
open Go.RowKit
def TOk (P:Program) (cx:Cx):Prop:=∀t i,cx.T t=some i→mkTy P t=some i
theorem mkTy_facts {P:Program} {t:TypeId} {i:TyI} (h:mkTy P t=some i):
  ∃info d,P.info? t=some info∧P.underlying t=some d∧i.size=info.size∧i.bytes=info.bytes∧i.kind=mkK P d∧i.zero=(info.zero.filter fun v=>v.cells.toList.all one).map cv∧i.flat=mkFlat P t d∧okDesc P d=true:=by
 unfold mkTy at h
 cases hi:P.info? t with
 |none=>simp[hi]at h
 |some info=>
  simp only[hi]at h
  cases hd:P.underlying t with
  |none=>simp[hd]at h
  |some d=>
   simp only[hd]at h
   split at h
   ·rename_i ho
    rw[Bool.and_eq_true]at ho
    cases h;exact⟨info,d,rfl,rfl,rfl,rfl,rfl,rfl,rfl,ho.1⟩
   ·cases h
theorem mkTy_zero {P:Program} {t:TypeId} {i:TyI} (h:mkTy P t=some i):∃info v,P.info? t=some info∧info.zero=some v∧v.cells.size=i.size∧info.size=i.size∧info.bytes=i.bytes:=by
 unfold mkTy at h
 cases hi:P.info? t with
 |none=>simp[hi]at h
 |some info=>
  simp only[hi]at h
  cases hd:P.underlying t with
  |none=>simp[hd]at h
  |some d=>
   simp only[hd]at h
   split at h
   ·rename_i ho
    rw[Bool.and_eq_true]at ho
    cases h
    have:=ho.2
    unfold zeroOk at this
    cases hz:info.zero with
    |none=>rw[hz]at this;cases this
    |some v=>
     rw[hz]at this
     exact⟨info,v,rfl,hz,by simpa using this,rfl,rfl⟩
   ·cases h
theorem run_typeInfo {P:Program} {t:TypeId} {info:TypeInfo} (w:World) (h:P.info? t=some info):(typeInfo t).run P w=.ok info w:=by
 simp[typeInfo,h]
theorem run_underlying' {P:Program} {t:TypeId} {d:TypeDesc} (w:World) (h:P.underlying t=some d):(underlying t).run P w=.ok d w:=by
 simp[underlying,h]
theorem run_size {P:Program} {t:TypeId} {i:TyI} (w:World) (h:mkTy P t=some i):(sizeOf t).run P w=.ok i.size w:=by
 obtain⟨info,d,h1,_,h3,_⟩:=mkTy_facts h
 simp[Go.sizeOf,run_typeInfo w h1,h3]
theorem run_agg {P:Program} {t:TypeId} {i:TyI} (w:World) (h:mkTy P t=some i):(isAgg t).run P w=.ok i.isAgg w:=by
 obtain⟨info,d,h1,h2,h3,h4,h5,h6,h7,h8⟩:=mkTy_facts h
 simp only[isAgg,Sem.run_bind,run_underlying' w h2,Result.andThen_ok,TyI.isAgg,h5]
 cases d<;>first|rfl|cases h8
theorem run_zero {P:Program} {t:TypeId} {i:TyI} {z:AV} (w:World) (h:mkTy P t=some i) (hz:i.zero=some z):∃v,(zeroValue t).run P w=.ok v w∧z=cv v∧v.cells.toList.all one=true:=by
 obtain⟨info,d,h1,h2,h3,h4,h5,h6,_⟩:=mkTy_facts h
 rw[h6]at hz
 cases hv:info.zero with
 |none=>simp[hv]at hz
 |some v=>
  rw[hv]at hz
  simp only[Option.filter]at hz
  split at hz
  ·rename_i ho
   simp at hz
   exact⟨v,by simp[zeroValue,run_typeInfo w h1,hv],hz.symm,ho⟩
  ·cases hz
theorem kind_slice {P:Program} {cx:Cx} (hT:TOk P cx) {t e:Nat} (h:cx.kind t=some (.slice e)):P.underlying t=some (.slice e):=by
 unfold Cx.kind at h
 cases ht:cx.T t with
 |none=>simp[ht]at h
 |some i=>
  simp only[ht,Option.some.injEq]at h
  obtain⟨info,d,h1,h2,h3,h4,h5,_⟩:=mkTy_facts (hT t i ht)
  rw[h5]at h
  cases d<;>simp[mkK]at h
  subst h;exact h2
theorem kind_ptr {P:Program} {cx:Cx} (hT:TOk P cx) {t e:Nat} (h:cx.kind t=some (.ptr e)):P.underlying t=some (.pointer e):=by
 unfold Cx.kind at h
 cases ht:cx.T t with
 |none=>simp[ht]at h
 |some i=>
  simp only[ht,Option.some.injEq]at h
  obtain⟨info,d,h1,h2,h3,h4,h5,_⟩:=mkTy_facts (hT t i ht)
  rw[h5]at h
  cases d<;>simp[mkK]at h
  subst h;exact h2
theorem kind_str {P:Program} {cx:Cx} (hT:TOk P cx) {t:Nat} (h:cx.kind t=some .str):P.underlying t=some .string:=by
 unfold Cx.kind at h
 cases ht:cx.T t with
 |none=>simp[ht]at h
 |some i=>
  simp only[ht,Option.some.injEq]at h
  obtain⟨info,d,h1,h2,h3,h4,h5,_⟩:=mkTy_facts (hT t i ht)
  rw[h5]at h
  cases d<;>simp[mkK]at h
  exact h2
theorem kind_map {P:Program} {cx:Cx} (hT:TOk P cx) {t k e:Nat} (h:cx.kind t=some (.map k e)):P.underlying t=some (.map k e):=by
 unfold Cx.kind at h
 cases ht:cx.T t with
 |none=>simp[ht]at h
 |some i=>
  simp only[ht,Option.some.injEq]at h
  obtain⟨info,d,h1,h2,h3,h4,h5,_⟩:=mkTy_facts (hT t i ht)
  rw[h5]at h
  cases d<;>simp[mkK]at h
  obtain⟨rfl,rfl⟩:=h;exact h2
theorem kind_struct {P:Program} {cx:Cx} (hT:TOk P cx) {t:Nat} {fs:List (Nat×Nat×Nat)} (h:cx.kind t=some (.struct fs)):
  ∃F:Array Field,P.underlying t=some (.struct F)∧fs=F.toList.map fun f=>(f.offset,f.type,P.cellsOf f.type):=by
 unfold Cx.kind at h
 cases ht:cx.T t with
 |none=>simp[ht]at h
 |some i=>
  simp only[ht,Option.some.injEq]at h
  obtain⟨info,d,h1,h2,h3,h4,h5,_⟩:=mkTy_facts (hT t i ht)
  rw[h5]at h
  cases d<;>simp[mkK]at h
  exact⟨_,h2,h.symm⟩
def okD (d:List Up) (pl:Pl):Prop:=d.any (·.hits ⟨pl,false⟩)=false
def fadeC (d:List Up) (c:AV):AV:=if staleC d c then .un else c
def fade1 (d:List Up):AV→AV
 | .agg cs=>.agg (cs.map (fadeC d))
 |c=>fadeC d c
def fade (d:List Up):AV→AV
 | .tup vs=>.tup (vs.map (fade1 d))
 |a=>fade1 d a
theorem staleC_ref {d:List Up} {c:AV} {pl:Pl} (h:refOf c=some pl):staleC d c=d.any (·.hits ⟨pl,false⟩):=by
 cases c<;>simp[refOf]at h<;>subst h<;>rfl
theorem staleC_none {d:List Up} {c:AV} (h:refOf c=none):staleC d c=false:=by
 cases c<;>simp[refOf]at h<;>rfl
theorem fadeC_ok {d:List Up} {c:AV} (h:∀pl,refOf c=some pl→okD d pl):fadeC d c=c:=by
 unfold fadeC
 cases hr:refOf c with
 |none=>simp[staleC_none hr]
 |some pl=>rw[staleC_ref hr];have:=h pl hr;unfold okD at this;simp[this]
variable {F F':Fz} {g g':Gh} {d d':List Up}
theorem RT.one {a:AV} {v:Value} (h:RT F g a v):one v=true:=by
 cases h with
 |f h=>exact h.one
 |_=>rfl
theorem RT.fade (hF:F.le F') (hd:∀pl,okD d' pl→okD d pl) (hg:∀pl n,okD d' pl→g pl.r pl.p=some n→g' pl.r pl.p=some n) {a:AV} {v:Value}
  (h:RT F g (fadeC d a) v):RT F' g' (fadeC d' a) v:=by
 cases hr:refOf a with
 |none=>
  have e:∀d,fadeC d a=a:=fun d=>fadeC_ok fun pl hp=>by rw[hr]at hp;cases hp
  rw[e]at h ⊢
  exact h.mono hF fun pl n hp=>by rw[hr]at hp;cases hp
 |some pl=>
  by_cases ho:okD d' pl
  ·have e':fadeC d' a=a:=fadeC_ok fun q hq=>by rw[hr]at hq;cases hq;exact ho
   have e:fadeC d a=a:=fadeC_ok fun q hq=>by rw[hr]at hq;cases hq;exact hd pl ho
   rw[e'] ;rw[e]at h
   exact h.mono hF fun q n hq hn=>by rw[hr]at hq;cases hq;exact hg pl n ho hn
  ·have:fadeC d' a=.un:=by
    unfold fadeC;rw[staleC_ref hr]
    unfold okD at ho
    simp only[Bool.not_eq_false]at ho
    simp[ho]
   rw[this];exact .f (.un v h.one)
theorem RTL.fade (hF:F.le F') (hd:∀pl,okD d' pl→okD d pl) (hg:∀pl n,okD d' pl→g pl.r pl.p=some n→g' pl.r pl.p=some n):∀{l:List AV} {vs:List Value},
  RTL F g (l.map (fadeC d)) vs→RTL F' g' (l.map (fadeC d')) vs
 |[],_,.nil=>.nil
 |_::_,_,.cons h t=>.cons (h.fade hF hd hg) (RTL.fade hF hd hg t)
theorem fade1_cell {d:List Up} {a:AV} (h:nonAgg a=true):fade1 d a=fadeC d a:=by cases a<;>first|rfl|cases h
theorem RX1.fade (hF:F.le F') (hd:∀pl,okD d' pl→okD d pl) (hg:∀pl n,okD d' pl→g pl.r pl.p=some n→g' pl.r pl.p=some n) {a:AV} {v:Value}
  (h:RX1 F g (fade1 d a) v):RX1 F' g' (fade1 d' a) v:=by
 by_cases ha:nonAgg a=true
 ·rw[fade1_cell ha]at h ⊢
  have hn:nonAgg (fadeC d a)=true:=by unfold fadeC;split;rfl;exact ha
  generalize he:fadeC d a=x at h
  cases h with
  |c h=>rw[←he]at h;exact .c (h.fade hF hd hg)
  |agg h=>rw[he]at hn;cases hn
 ·cases a<;>simp[nonAgg]at ha
  rename_i cs
  simp only[fade1]at h ⊢
  cases h with
  |c h=>cases h with|f h=>cases h
  |agg h=>exact .agg (h.fade hF hd hg)
theorem RXL.fade (hF:F.le F') (hd:∀pl,okD d' pl→okD d pl) (hg:∀pl n,okD d' pl→g pl.r pl.p=some n→g' pl.r pl.p=some n):∀{l:List AV} {vs:List Value},
  RXL F g (l.map (fade1 d)) vs→RXL F' g' (l.map (fade1 d')) vs
 |[],_,.nil=>.nil
 |_::_,_,.cons h t=>.cons (h.fade hF hd hg) (RXL.fade hF hd hg t)
def nonTup:AV→Bool
 | .tup _=>false
 |_=>true
theorem fade_eq1 {d:List Up} {a:AV} (h:nonTup a=true):fade d a=fade1 d a:=by cases a<;>first|rfl|cases h
theorem RX.fade (hF:F.le F') (hd:∀pl,okD d' pl→okD d pl) (hg:∀pl n,okD d' pl→g pl.r pl.p=some n→g' pl.r pl.p=some n) {a:AV} {v:Value}
  (h:RX F g (fade d a) v):RX F' g' (fade d' a) v:=by
 by_cases ha:nonTup a=true
 ·rw[fade_eq1 ha]at h ⊢
  have hn:nonTup (fade1 d a)=true:=by
   cases a<;>simp[nonTup]at ha<;>simp only[fade1,fadeC]<;>(try split)<;>rfl
  generalize he:fade1 d a=x at h
  cases h with
  |c h=>rw[←he]at h;exact .c (h.fade hF hd hg)
  |tup h=>rw[he]at hn;cases hn
 ·cases a<;>simp[nonTup]at ha
  rename_i cs
  simp only[Am.fade]at h ⊢
  cases h with
  |c h=>cases h with|c h=>cases h with|f h=>cases h
  |tup h=>exact .tup (h.fade hF hd hg)
def XD (F:Fz) (g:Gh) (d:List Up) (a:AV) (v:Value):Prop:=a=.un∨RX F g (fade d a) v
theorem XD.fade (hF:F.le F') (hd:∀pl,okD d' pl→okD d pl) (hg:∀pl n,okD d' pl→g pl.r pl.p=some n→g' pl.r pl.p=some n) {a:AV} {v:Value}
  (h:XD F g d a v):XD F' g' d' a v:=h.imp id fun h=>h.fade hF hd hg
end Go.Am
end
section
namespace Go.Am
open Go.RowKit
def dn (us:List Up):List Up:=us.filter fun u=> !u.isNew
def Kd (d:List Up) (q:Nat):Prop:=∃pl len,Up.set pl (.lk q len)∈d
theorem okD_append {d e:List Up} {pl:Pl} (h:okD (d++e) pl):okD d pl:=by
 unfold okD at *;rw[List.any_append,Bool.or_eq_false_iff]at h;exact h.1
structure Lands (B:Base) (g:Gh) (s:St) (w:World) (e:Eff) (v:Value) (w':World) (g':Gh) (R':Nat→Value):Prop where
 rm:RM B (Kd (s.d++dn e.up)) g' R' (Up.apps e.up s.h) w'
 le:(mkF B g w).le (mkF B g' w')
 keep:∀pl n,okD (s.d++dn e.up) pl→g pl.r pl.p=some n→g' pl.r pl.p=some n
 val:XD (mkF B g' w') g' (s.d++dn e.up) e.val v
def Does (P:Program) (B:Base) (g:Gh) (s:St) (w:World) (e:Eff) (x:Sem Value):Prop:=
 ∃v w' g' R',x.run P w=.ok v w'∧Lands B g s w e v w' g' R'
variable {P:Program} {cx:Cx} {B:Base} {g:Gh} {R:Nat→Value} {s:St} {w:World}
theorem le_refl:(mkF B g w).le (mkF B g w):=le_of (fun _ _ _ h _=>h) fun _ _ _ _ h=>h
theorem Lands.still (H:RM B (Kd s.d) g R s.h w) {a:AV} {rd:List Rd} {v:Value} (hv:XD (mkF B g w) g s.d a v):
  Lands B g s w {val:=a,rd:=rd,up:=[]} v w g R:=by
 have e:s.d++dn []=s.d:=by simp[dn]
 exact⟨by rw[e];exact H,le_refl,fun pl n _ h=>h,by rw[e];exact hv⟩
theorem Does.still (H:RM B (Kd s.d) g R s.h w) {a:AV} {rd:List Rd} {v:Value} {x:Sem Value} (hx:x.run P w=.ok v w) (hv:XD (mkF B g w) g s.d a v):
  Does P B g s w {val:=a,rd:=rd,up:=[]} x:=⟨v,w,g,R,hx,.still H hv⟩
theorem cellT {d:List Up} {F:Fz} {a:AV} {v:Value} (h:RF F a v):RT F g (fadeC d a) v:=by
 have:fadeC d a=a:=fadeC_ok fun pl hp=>by cases h<;>simp[refOf]at hp
 rw[this];exact .f h
theorem cellX {d:List Up} {F:Fz} {a:AV} {v:Value} (h:RT F g (fadeC d a) v) (ha:nonAgg a=true) (ht:nonTup a=true):XD F g d a v:=by
 refine .inr ?_;rw[fade_eq1 ht,fade1_cell ha];exact .c (.c h)
theorem rfX {d:List Up} {F:Fz} {a:AV} {v:Value} (h:RF F a v):XD F g d a v:=
 cellX (cellT h) (by cases h<;>rfl) (by cases h<;>rfl)
theorem X_plain {d:List Up} {F:Fz} {a:AV} {v:Value} (h:XD F g d a v) (ha:nonAgg a=true) (ht:nonTup a=true) (hun:a≠.un) (hr:∀pl,refOf a=some pl→okD d pl):RT F g a v:=by
 rcases h with h|h
 ·exact absurd h hun
 rw[fade_eq1 ht,fade1_cell ha,fadeC_ok hr]at h
 cases h with
 |c h=>cases h with
  |c h=>exact h
  |agg h=>cases ha
 |tup h=>cases ht
theorem X_int {d:List Up} {F:Fz} {k:IntKind} {n:Int} {v:Value} (h:XD F g d (.int k n) v):v=.int k n:=by
 have:=X_plain h rfl rfl (by intro h;cases h) (by intro pl h;cases h);cases this with|f h=>cases h;rfl
theorem X_bool {d:List Up} {F:Fz} {b:Bool} {v:Value} (h:XD F g d (.bool b) v):v=.bool b:=by
 have:=X_plain h rfl rfl (by intro h;cases h) (by intro pl h;cases h);cases this with|f h=>cases h;rfl
theorem X_str {d:List Up} {F:Fz} {b:ByteArray} {v:Value} (h:XD F g d (.str b) v):v=.string b:=by
 have:=X_plain h rfl rfl (by intro h;cases h) (by intro pl h;cases h);cases this with|f h=>cases h;rfl
theorem X_nilp {d:List Up} {F:Fz} {v:Value} (h:XD F g d .nilp v):v=.pointer none:=by
 have:=X_plain h rfl rfl (by intro h;cases h) (by intro pl h;cases h);cases this with|f h=>cases h;rfl
theorem X_fz {d:List Up} {F:Fz} {lab sz:Nat} {es:List AV} {v:Value} (h:XD F g d (.fz lab sz es) v):
  (lab=1∧es=[]∧v=.slice none 0 0)∨(lab≠1∧∃b o cap sp,v=.slice (some ⟨b,o,sp⟩) es.length cap∧es.length≤cap∧RE F lab sz es b o∧(sp=none∨cap=0)):=by
 have:=X_plain h rfl rfl (by intro h;cases h) (by intro pl h;cases h)
 cases this with
 |f h=>cases h with
  |nil=>exact .inl ⟨rfl,rfl,rfl⟩
  |fzs _ _ _ b o cap sp h1 h2 h3 h4=>exact .inr ⟨h1,b,o,cap,sp,rfl,h2,h3,h4⟩
theorem X_fp {d:List Up} {F:Fz} {lab off:Nat} {e:AV} {v:Value} (h:XD F g d (.fp lab e off) v):lab≠1∧∃b o,v=.pointer (some ⟨b,o+off,none⟩)∧RC F lab (cells e) b o:=by
 have:=X_plain h rfl rfl (by intro h;cases h) (by intro pl h;cases h)
 cases this with
 |f h=>cases h with
  |fp _ _ _ b o h1 h3=>exact⟨h1,b,o,rfl,h3⟩
theorem X_rf {d:List Up} {F:Fz} {sz off len:Nat} {pl:Pl} {v:Value} (h:XD F g d (.rf sz pl off len) v) (ho:okD d pl):
  ∃cap k n,g pl.r pl.p=some n∧n.whole=false∧n.sz=sz∧k+cap≤n.cap∧len≤cap∧(cap=0∨k=off)∧v=.slice (some ⟨n.b,n.o+k*n.sz,none⟩) len cap:=by
 have:=X_plain h rfl rfl (by intro h;cases h) (by intro q h;cases h;exact ho)
 cases this with
 |f h=>cases h
 |rf _ _ _ cap k n h1 h2 h3 h4 h5=>exact⟨cap,k,n,h1,h2,rfl,h3,h4,h5,rfl⟩
theorem X_ptr {d:List Up} {F:Fz} {i off:Nat} {pl:Pl} {v:Value} (h:XD F g d (.ptr pl i off) v) (ho:okD d pl):
  ∃n,g pl.r pl.p=some n∧n.whole=false∧v=.pointer (some ⟨n.b,n.o+i*n.sz+off,none⟩):=by
 have:=X_plain h rfl rfl (by intro h;cases h) (by intro q h;cases h;exact ho)
 cases this with
 |f h=>cases h
 |ptr _ _ _ n h1 h2=>exact⟨n,h1,h2,rfl⟩
theorem X_mrf {d:List Up} {F:Fz} {r:Nat} {v:Value} (h:XD F g d (.mrf r) v) (ho:okD d ⟨r,[]⟩):∃n,g r []=some n∧n.whole=true∧v=.map (some n.b):=by
 have:=X_plain h rfl rfl (by intro h;cases h) (by intro q h;cases h;exact ho)
 cases this with
 |f h=>cases h
 |mrf _ n h1 h2=>exact⟨n,h1,h2,rfl⟩
theorem RTL.mk' {F:Fz} {w:World} {b:Nat} {d:List Up}:∀{l:List AV} {o:Nat},(∀j c,l[j]?=some c→∃v,w.cell? ⟨b,o+j,none⟩=some v∧RT F g (fadeC d c) v)→
  ∃vs:List Value,vs.length=l.length∧(∀j v,vs[j]?=some v→w.cell? ⟨b,o+j,none⟩=some v)∧RTL F g (l.map (fadeC d)) vs
 |[],o,_=>⟨[],rfl,fun j v h=>by simp at h,.nil⟩
 |c::l,o,h=>by
  obtain⟨v,h1,h2⟩:=h 0 c rfl
  obtain⟨vs,g1,g2,g3⟩:=RTL.mk' (l:=l) (o:=o+1) fun j x hx=>by
   obtain⟨v,a1,a2⟩:=h (j+1) x (by simpa using hx)
   exact⟨v,by rw[show o+1+j=o+(j+1)by omega];exact a1,a2⟩
  refine⟨v::vs,by simp[g1],fun j x hx=>?_,.cons h2 g3⟩
  cases j with
  |zero=>simp at hx;subst hx;exact h1
  |succ j=>rw[show o+(j+1)=o+1+j by omega];exact g2 j x (by simpa using hx)
theorem view_RT {F:Fz} {ob:Nat→Option Obj} {c:AV} {q:Pl} {u:Value} {d:List Up} (h:LF F ob g c (g q.r q.p) u):RT F g (fadeC d (view q c)) u:=by
 by_cases ho:okD d q
 ·cases c with
  |ow sz es=>
   obtain⟨n,h1,h2,h3,h4,h5,_⟩:=h
   have e:fadeC d (view q (.ow sz es))=.rf n.sz q 0 es.length:=by
    rw[h3];exact fadeC_ok fun pl hp=>by cases hp;exact ho
   rw[e,h5]
   have:=RT.rf (F:=F) (g:=g) q 0 es.length n.cap 0 n h1 h2 (by omega) h4 (.inr rfl)
   simpa using this
  |bx e0=>
   obtain⟨n,h1,h2,h3,h4,h5⟩:=h
   have e:fadeC d (view q (.bx e0))=.ptr q 0 0:=fadeC_ok fun pl hp=>by cases hp;exact ho
   rw[e,h5]
   have:=RT.ptr (F:=F) (g:=g) q 0 0 n h1 h2
   simpa using this
  |mp ks vs=>exact cellT (.un u h.one)
  |lk r len=>exact cellT (.un u h.one)
  |_=>exact cellT h.2
 ·have hs:∀c,refOf c=some q→RT F g (fadeC d c) u:=by
   intro c hc
   have:fadeC d c=.un:=by
    unfold fadeC;rw[staleC_ref hc];unfold okD at ho;simp only[Bool.not_eq_false]at ho;simp[ho]
   rw[this];exact .f (.un u h.one)
  cases c with
  |ow sz es=>exact hs _ rfl
  |bx e0=>exact hs _ rfl
  |mp ks vs=>exact cellT (.un u h.one)
  |lk r len=>exact cellT (.un u h.one)
  |_=>exact cellT h.2
theorem look_some {deep:Bool} {pl:Pl} {c:AV} (h:look s deep pl=some c):(s.d.any (·.hits ⟨pl,deep⟩))=false∧getP s.h pl=some c:=by
 unfold look at h
 by_cases hd:s.d.any (·.hits ⟨pl,deep⟩)=true
 ·simp[hd,oops]at h
 ·simp only[hd]at h;exact⟨by simpa using hd,by simpa using h⟩
theorem getP_some {h:Hp} {pl:Pl} {c:AV} (hc:getP h pl=some c):∃a,hget h pl.r=some a∧getT a pl.p=some c:=by
 unfold getP at hc
 cases ha:hget h pl.r with
 |none=>simp[ha]at hc
 |some a=>exact⟨a,rfl,by simpa[ha]using hc⟩
theorem hits_deep {u:Up} {pl:Pl} (h:u.hits ⟨pl,true⟩=false):u.hits ⟨pl,false⟩=false:=by
 cases u<;>simp only[Up.hits,Bool.true_and,Bool.false_and,Bool.or_false,Bool.or_eq_false_iff]at h ⊢ <;>first|exact h.1|exact h
theorem okD_of_look {deep:Bool} {pl:Pl} {c:AV} (h:look s deep pl=some c):okD s.d pl:=by
 have:=(look_some h).1
 unfold okD
 cases deep with
 |false=>exact this
 |true=>
  rw[List.any_eq_false]at this ⊢
  exact fun u hu=>by have:=this u hu;simp only[Bool.not_eq_true]at this ⊢;exact hits_deep this
theorem pre_refl (p:List (Nat×Nat)):pre p p=true:=pre_iff.2 ⟨[],by simp⟩
theorem okD_cell {d:List Up} {pl:Pl} {i j:Nat} (h:okD d (pl.cell i j)):okD d pl:=by
 unfold okD at *
 rw[List.any_eq_false]at *
 intro u hu
 have:=h u hu
 simp only[Bool.not_eq_true]at this ⊢
 cases u with
 |set q a=>
  simp only[Up.hits,Pl.cell,Bool.false_and,Bool.or_false]at this ⊢
  cases hp:q.pre pl with
  |false=>rfl
  |true=>
   simp only[Pl.pre,Bool.and_eq_true]at hp
   obtain⟨r,hr⟩:=pre_iff.1 hp.2
   have:q.pre ⟨pl.r,pl.p++[(i,j)]⟩=true:=by
    simp only[Pl.pre,hp.1,Bool.true_and];exact pre_iff.2 ⟨r++[(i,j)],by rw[hr,List.append_assoc]⟩
   simp_all
 |inn q a=>
  simp only[Up.hits,Pl.cell,Bool.false_and,Bool.or_false]at this ⊢
  cases hp:q.pre pl with
  |false=>simp
  |true=>
   exfalso
   simp only[Pl.pre,Bool.and_eq_true]at hp
   obtain⟨r,hr⟩:=pre_iff.1 hp.2
   have h1:q.pre ⟨pl.r,pl.p++[(i,j)]⟩=true:=by
    simp only[Pl.pre,hp.1,Bool.true_and];exact pre_iff.2 ⟨r++[(i,j)],by rw[hr,List.append_assoc]⟩
   rw[h1]at this
   have hl:q.p.length≤pl.p.length:=by rw[hr];simp
   simp at this
   omega
 |new r a=>exact this
 |fill q a=>exact this
 |del r=>exact this
variable (H:RM B (Kd s.d) g R s.h w)
include H
theorem cell_at {pl:Pl} {i j:Nat} {c:AV} (hc:getP s.h (pl.cell i j)=some c):
  ∃n u,g pl.r pl.p=some n∧n.whole=false∧i<n.cap∧j<n.sz∧w.cell? ⟨n.b,n.o+i*n.sz+j,none⟩=some u∧LF (mkF B g w) (obj w) g c (g pl.r (pl.p++[(i,j)])) u:=by
 obtain⟨a,ha,hp⟩:=getP_some hc
 obtain⟨n,u,h1,h2,h3,h4,h5,h6⟩:=(H.tree _ a ha).inside hp
 exact⟨n,u,h1,h2,h3,h4,h5,h6⟩
theorem node_at {pl:Pl} {c:AV} (hc:getP s.h pl=some c):∃u,LF (mkF B g w) (obj w) g c (g pl.r pl.p) u:=by
 obtain⟨a,ha,hp⟩:=getP_some hc
 exact(H.tree _ a ha).at hp
theorem ldCells_ok {pl:Pl} {i:Nat}:∀{n off:Nat} {cs:List AV},ldCells s pl i off n=some cs→
  cs.length=n∧∀j c,cs[j]?=some c→∃m u,g pl.r pl.p=some m∧m.whole=false∧i<m.cap∧off+j<m.sz∧w.cell? ⟨m.b,m.o+i*m.sz+(off+j),none⟩=some u∧RT (mkF B g w) g (fadeC s.d c) u∧okD s.d pl
 |0,off,cs,h=>by simp[ldCells]at h;subst h;exact⟨rfl,fun j c hc=>by simp at hc⟩
 |n+1,off,cs,h=>by
  simp only[ldCells]at h
  cases hl:look s false (pl.cell i off)with
  |none=>simp[hl]at h
  |some c=>
   simp only[hl]at h
   cases hr:ldCells s pl i (off+1) n with
   |none=>simp[hr]at h
   |some r=>
    simp only[hr,Option.some.injEq]at h
    subst h
    obtain⟨h1,h2⟩:=ldCells_ok hr
    refine⟨by simp[h1],fun j x hx=>?_⟩
    cases j with
    |zero=>
     simp at hx;subst hx
     obtain⟨m,u,e1,e2,e3,e4,e5,e6⟩:=cell_at H (look_some hl).2
     exact⟨m,u,e1,e2,e3,e4,e5,view_RT (q:=pl.cell i off) e6,okD_cell (okD_of_look hl)⟩
    |succ j=>
     obtain⟨m,u,e1,e2,e3,e4,e5,e6⟩:=h2 j x (by simpa using hx)
     exact⟨m,u,e1,e2,e3,by omega,by rw[show off+(j+1)=off+1+j by omega];exact e5,e6⟩
end Go.Am
end
section
namespace Go.Am
open Go.RowKit
variable {P:Program} {cx:Cx} {B:Base} {g:Gh} {R:Nat→Value} {s:St} {w:World}
theorem addr_add (b o j:Nat):(⟨b,o,none⟩:Addr).add j=⟨b,o+j,none⟩:=by
 unfold Addr.add
 by_cases h:j=0
 ·subst h;rfl
 ·simp[h]
theorem mkVal_some {agg:Bool} {cs:List AV} {v:AV} (h:mkVal agg cs=some v):(agg=true∧v=.agg cs)∨(agg=false∧cs=[v]):=by
 unfold mkVal at h
 cases agg with
 |true=>simp at h;exact .inl ⟨rfl,h.symm⟩
 |false=>
  simp only[Bool.false_eq_true,if_false]at h
  cases cs with
  |nil=>cases h
  |cons c l=>
   cases l with
   |nil=>cases h;exact .inr ⟨rfl,rfl⟩
   |cons _ _=>cases h
theorem load_cells {t:TypeId} {i:TyI} {b o:Nat} {cs:List AV} {v:AV} (hi:mkTy P t=some i) (hv:mkVal i.isAgg cs=some v) (hl:cs.length=i.size)
  (hcs:∀c∈cs,nonAgg c=true∧nonTup c=true)
  (hc:∀j c,cs[j]?=some c→∃u,w.cell? ⟨b,o+j,none⟩=some u∧RT (mkF B g w) g (fadeC s.d c) u):
  ∃u,(Instr.loadAt t (.pointer (some ⟨b,o,none⟩))).run P w=.ok u w∧XD (mkF B g w) g s.d v u:=by
 obtain⟨vs,h1,h2,h3⟩:=RTL.mk' hc
 have hrun:(Instr.loadAt t (.pointer (some ⟨b,o,none⟩))).run P w=(loadVar t ⟨b,o,none⟩).run P w:=by
  simp[Instr.loadAt,Instr.sureAddr]
 rw[hrun]
 rcases mkVal_some hv with⟨ha,rfl⟩|⟨ha,rfl⟩
 ·refine⟨.agg vs.toArray,?_,?_⟩
  ·simp only[loadVar,Sem.run_bind,run_agg w hi,ha,Result.andThen_ok,if_true,run_size w hi]
   rw[←hl,←h1,run_loadCells_list w ⟨b,o,none⟩ vs fun j v hj=>by rw[addr_add];exact h2 j v hj]
   simp
  ·exact .inr (.c (.agg h3))
 ·obtain⟨u,g1,g2⟩:=hc 0 v rfl
  refine⟨u,?_,cellX g2 (hcs v (by simp)).1 (hcs v (by simp)).2⟩
  simp only[loadVar,Sem.run_bind,run_agg w hi,ha,Result.andThen_ok,Bool.false_eq_true,if_false]
  have:=g1
  rw[Nat.add_zero]at this
  simp[run_load,this]
theorem view_ok {q:Pl} {c:AV} {u:Value} {F:Fz} {ob:Nat→Option Obj} {gn:Option Nd} (h:LF F ob g c gn u):nonAgg (view q c)=true∧nonTup (view q c)=true:=by
 cases c<;>first|exact⟨rfl,rfl⟩|(obtain⟨_,h⟩:=h;cases h)
theorem ldCells_shape (H:RM B (Kd s.d) g R s.h w) {pl:Pl} {i:Nat}:∀{n off:Nat} {cs:List AV},ldCells s pl i off n=some cs→∀c∈cs,nonAgg c=true∧nonTup c=true
 |0,off,cs,h=>by simp[ldCells]at h;subst h;intro c hc;cases hc
 |n+1,off,cs,h=>by
  simp only[ldCells]at h
  cases hl:look s false (pl.cell i off)with
  |none=>simp[hl]at h
  |some c=>
   simp only[hl]at h
   cases hr:ldCells s pl i (off+1) n with
   |none=>simp[hr]at h
   |some r=>
    simp only[hr,Option.some.injEq]at h
    subst h
    intro x hx
    rcases List.mem_cons.1 hx with rfl|hx
    ·obtain⟨m,u,e1,e2,e3,e4,e5,e6⟩:=cell_at H (look_some hl).2
     exact view_ok e6
    ·exact ldCells_shape H hr x hx
theorem oLoad_ok (hT:TOk P cx) (H:RM B (Kd s.d) g R s.h w) {ty:Nat} {a:AV} {va:Value} {e:Eff} (ha:XD (mkF B g w) g s.d a va)
  (he:oLoad cx s ty a=some e):Does P B g s w e (Instr.loadAt ty va):=by
 unfold oLoad at he
 cases hi:cx.T ty with
 |none=>simp[hi]at he
 |some i=>
  simp only[hi]at he
  cases a with
  |fp lab el off=>
   simp only[oops]at he
   obtain⟨_,b,o,rfl,hc⟩:=X_fp ha
   cases hl:Nat.beq (((cells el).drop off).take i.size).length i.size with
   |false=>rw[hl]at he;cases he
   |true=>
    rw[hl,cond_true]at he
    cases hv:mkVal i.isAgg (((cells el).drop off).take i.size)with
    |none=>simp[hv]at he
    |some v=>
     simp only[hv,Option.some.injEq,pureE]at he
     subst he
     have hlen:(((cells el).drop off).take i.size).length=i.size:=by simpa using hl
     have hcell:∀j c,(((cells el).drop off).take i.size)[j]?=some c→∃u,w.cell? ⟨b,o+off+j,none⟩=some u∧RF (mkF B g w) c u:=by
      intro j c hj
      have hj':(cells el)[off+j]?=some c:=by
       rw[List.getElem?_take]at hj
       split at hj
       ·rw[List.getElem?_drop]at hj;exact hj
       ·cases hj
      obtain⟨u,h1,_,h3⟩:=hc.get hj'
      exact⟨u,by rw[Nat.add_assoc];exact h1,h3⟩
     obtain⟨u,h1,h2⟩:=load_cells (s:=s) (hT ty i hi) hv hlen (fun c hc'=>by
       obtain⟨j,hj⟩:=List.mem_iff_getElem?.1 hc'
       obtain⟨u,_,h3⟩:=hcell j c hj
       cases h3<;>exact⟨rfl,rfl⟩) fun j c hj=>by
       obtain⟨u,h1,h3⟩:=hcell j c hj;exact⟨u,h1,cellT h3⟩
     exact .still H h1 h2
  |ptr pl k off=>
   simp only at he
   cases hl:ldCells s pl k off i.size with
   |none=>simp[hl]at he
   |some cs=>
    simp only[hl]at he
    cases hz:Nat.beq i.size 0 with
    |true=>rw[hz]at he;cases he
    |false=>
    rw[hz,cond_false]at he
    have h0:i.size≠0:=by intro e;rw[e]at hz;cases hz
    cases hv:mkVal i.isAgg cs with
    |none=>simp[hv]at he
    |some v=>
     simp only[hv,Option.some.injEq]at he
     subst he
     obtain⟨h1,h2⟩:=ldCells_ok H hl
     ·have:∃c,cs[0]?=some c:=by
       cases cs with
       |nil=>simp at h1;omega
       |cons c l=>exact⟨c,rfl⟩
      obtain⟨c0,hc0⟩:=this
      obtain⟨m,u0,e1,e2,e3,e4,e5,e6,e7⟩:=h2 0 c0 hc0
      obtain⟨m',g1,g2,rfl⟩:=X_ptr ha e7
      rw[e1]at g1;cases g1
      obtain⟨u,h3,h4⟩:=load_cells (s:=s) (b:=m.b) (o:=m.o+k*m.sz+off) (hT ty i hi) hv h1 (ldCells_shape H hl) fun j c hj=>by
       obtain⟨m',u,x1,x2,x3,x4,x5,x6,_⟩:=h2 j c hj
       rw[e1]at x1;cases x1
       exact⟨u,by rw[Nat.add_assoc];exact x5,x6⟩
      exact .still H h3 h4
  |_=>cases he
theorem useOk_iff {pl:Pl}:useOk s pl=true↔okD s.d pl:=by unfold useOk okD;simp
theorem oNil_ok (H:RM B (Kd s.d) g R s.h w) {a:AV} {va:Value} {e:Eff} (ha:XD (mkF B g w) g s.d a va) (he:oNil s a=some e):
  (∃p,va=.pointer (some p))∧Does P B g s w e (pure va):=by
 cases a with
 |ptr pl i off=>
  simp only[oNil,oops]at he
  cases hu:useOk s pl with
  |false=>rw[hu]at he;cases he
  |true=>
   rw[hu,cond_true]at he;cases he
   obtain⟨n,_,_,rfl⟩:=X_ptr ha (useOk_iff.1 hu)
   exact⟨⟨_,rfl⟩,.still H rfl ha⟩
 |fp lab e off=>
  simp only[oNil,Option.some.injEq,pureE]at he;subst he
  obtain⟨_,b,o,rfl,_⟩:=X_fp ha
  exact⟨⟨_,rfl⟩,.still H rfl ha⟩
 |_=>cases he
theorem cellsOf_some {t:TypeId} {n:Nat} (h:P.cellsOf t=n+1):∃info,P.info? t=some info∧info.size=n+1:=by
 unfold Program.cellsOf at h
 cases hi:P.info? t with
 |none=>simp[hi]at h
 |some info=>simp[hi]at h;exact⟨info,rfl,h⟩
theorem run_fieldAt {ty:TypeId} {fields:Array Field} {f n:Nat} {fl:Field} {b o:Nat} (hu:P.underlying ty=some (.struct fields)) (hf:fields[f]?=some fl) (hn:P.cellsOf fl.type=n+1):
  (Instr.fieldAt ty (.pointer (some ⟨b,o,none⟩)) f).run P w=.ok (.pointer (some ⟨b,o+fl.offset,none⟩)) w:=by
 obtain⟨info,h1,h2⟩:=cellsOf_some hn
 simp[Instr.fieldAt,run_underlying' w hu,hf,Instr.sureAddr,fieldPlace,Go.sizeOf,run_typeInfo w h1,h2,addr_add]
theorem oFieldAddr_ok (hT:TOk P cx) (H:RM B (Kd s.d) g R s.h w) {ty f:Nat} {a:AV} {va:Value} {e:Eff} (ha:XD (mkF B g w) g s.d a va)
  (he:oFieldAddr cx s ty a f=some e):Does P B g s w e (Instr.fieldAt ty va f):=by
 unfold oFieldAddr at he
 cases hk:cx.kind ty with
 |none=>simp[hk,oops]at he
 |some k=>
  simp only[hk]at he
  cases k with
  |struct fs=>
   simp only at he
   obtain⟨fields,hu,rfl⟩:=kind_struct hT hk
   cases hf:(fields.toList.map fun f=>(f.offset,f.type,P.cellsOf f.type))[f]? with
   |none=>simp[hf]at he
   |some x=>
    obtain⟨o',t,n⟩:=x
    simp only[hf]at he
    rw[List.getElem?_map]at hf
    cases hfl:fields.toList[f]? with
    |none=>simp[hfl]at hf
    |some fl=>
     simp[hfl]at hf
     obtain⟨rfl,rfl,rfl⟩:=hf
     have hfl':fields[f]?=some fl:=by simpa using hfl
     cases hn:P.cellsOf fl.type with
     |zero=>rw[hn]at he;cases he
     |succ n=>
      rw[hn]at he
      cases a with
      |fp lab e off=>
       simp only[Option.some.injEq,pureE]at he;subst he
       obtain⟨hlab,b,o,rfl,hc⟩:=X_fp ha
       refine .still H (run_fieldAt hu hfl' hn) ?_
       have:=RF.fp (F:=mkF B g w) lab e (off+fl.offset) b o hlab hc
       rw[←Nat.add_assoc]at this
       exact rfX this
      |ptr pl i off=>
       simp only[oops]at he
       cases hs:useOk s pl with
       |false=>rw[hs]at he;cases he
       |true=>
        rw[hs,cond_true]at he;cases he
        obtain⟨n',h1,h2,rfl⟩:=X_ptr ha (useOk_iff.1 hs)
        refine .still H (run_fieldAt hu hfl' hn) ?_
        have:=RT.ptr (F:=mkF B g w) (g:=g) pl i (off+fl.offset) n' h1 h2
        rw[←Nat.add_assoc]at this
        refine cellX ?_ rfl rfl
        rw[fadeC_ok fun q hq=>by cases hq;exact useOk_iff.1 hs];exact this
      |_=>cases he
  |_=>cases he
theorem oPick_ok (H:RM B (Kd s.d) g R s.h w) {c a b:AV} {vc va vb:Value} {e:Eff} (hc:XD (mkF B g w) g s.d c vc) (ha:XD (mkF B g w) g s.d a va) (hb:XD (mkF B g w) g s.d b vb)
  (he:oPick c a b=some e):Does P B g s w e (do pure (if ←asBool vc then va else vb)):=by
 cases c with
 |bool t=>
  simp only[oPick,Option.some.injEq,pureE]at he;subst he
  rw[X_bool hc]
  cases t with
  |true=>exact .still H (by simp[asBool]) ha
  |false=>exact .still H (by simp[asBool]) hb
 |_=>cases he
theorem oUn_ok (H:RM B (Kd s.d) g R s.h w) {op:UnOp} {a:AV} {va:Value} {e:Eff} (ha:XD (mkF B g w) g s.d a va) (he:oUn op a=some e):Does P B g s w e (Op.unary op va):=by
 unfold oUn at he
 split at he
 ·simp only[Option.some.injEq,pureE]at he;subst he
  rw[X_bool ha]
  exact .still H (by simp[Op.unary]) (rfX (.bool _))
 ·simp only[Option.some.injEq,pureE]at he;subst he
  rw[X_int ha]
  exact .still H (by simp[Op.unary,Op.intArith]) (rfX (.int _ _))
 ·cases he
theorem XL_get {d:List Up} {F:Fz}:∀{l:List AV} {vs:List Value} {i:Nat} {a:AV},RXL F g (l.map (fade1 d)) vs→l[i]?=some a→∃v,vs[i]?=some v∧RX1 F g (fade1 d a) v
 |[],_,i,a,_,h=>by simp at h
 |x::l,_,i,a,.cons h1 h2,h=>by
  cases i with
  |zero=>simp at h;subst h;exact⟨_,rfl,h1⟩
  |succ i=>obtain⟨v,g1,g2⟩:=XL_get h2 (i:=i) (a:=a) (by simpa using h);exact⟨v,by simpa using g1,g2⟩
theorem oExtract_ok (H:RM B (Kd s.d) g R s.h w) {a:AV} {va:Value} {ix:Nat} {e:Eff} (ha:XD (mkF B g w) g s.d a va) (he:oExtract a ix=some e):Does P B g s w e (Instr.extract va ix):=by
 cases a with
 |tup vs=>
  simp only[oExtract]at he
  cases hx:vs[ix]? with
  |none=>simp[hx]at he
  |some x=>
   simp only[hx,Option.some.injEq,pureE]at he;subst he
   replace ha:=ha.resolve_left (by intro h;cases h)
   simp only[fade]at ha
   cases ha with
   |c h=>cases h with|c h=>cases h with|f h=>cases h
   |tup h=>
    obtain⟨v,h1,h2⟩:=XL_get h hx
    refine .still H (v:=v) (by simp[Instr.extract,h1]) ?_
    by_cases ht:nonTup x=true
    ·refine .inr ?_;rw[fade_eq1 ht];exact .c h2
    ·cases x<;>simp[nonTup]at ht
     simp only[fade1,fadeC,staleC]at h2
     simp at h2
     cases h2 with
     |c h=>cases h with|f h=>cases h
 |_=>cases he
theorem bytes_get (b:ByteArray) (n:Nat):b[n]?=b.data[n]?:=by
 by_cases h:n<b.size
 ·have h':n<b.data.size:=h
  rw[getElem?_pos b n h,getElem?_pos b.data n h'];rfl
 ·have h':¬n<b.data.size:=h
  rw[getElem?_neg b n h,getElem?_neg b.data n h']
theorem oIndex_ok (hT:TOk P cx) (H:RM B (Kd s.d) g R s.h w) {ty:TypeId} {a ix:AV} {va vi:Value} {e:Eff} (ha:XD (mkF B g w) g s.d a va) (hi:XD (mkF B g w) g s.d ix vi)
  (he:oIndex cx ty a ix=some e):Does P B g s w e (Instr.index ty va vi):=by
 unfold oIndex at he
 split at he
 ·rename_i b k n hk
  have hs:=kind_str hT hk
  rw[X_str ha,X_int hi]
  split at he
  ·rename_i c hc
   simp only[Option.some.injEq,pureE]at he;subst he
   split at hc
   ·rename_i h0
    refine .still H (v:=.int .u8 c.toNat) ?_ (rfX (.int _ _))
    have hc':b[n.toNat]?=some c:=by rw[bytes_get];simpa using hc
    simp[Instr.index,asIntOf,run_underlying' w hs,h0,hc']
   ·cases hc
  ·cases he
 ·cases he
theorem oIndexAddr_ok (hT:TOk P cx) (H:RM B (Kd s.d) g R s.h w) {ty:TypeId} {a ix:AV} {va vi:Value} {e:Eff} (ha:XD (mkF B g w) g s.d a va) (hi:XD (mkF B g w) g s.d ix vi)
  (he:oIndexAddr cx s ty a ix=some e):Does P B g s w e (Instr.indexAt ty va vi):=by
 unfold oIndexAddr at he
 split at he
 ·rename_i el k n hk
  have hs:=kind_slice hT hk
  rw[X_int hi]
  cases hel:cx.T el with
  |none=>simp[hel]at he
  |some ei=>
   simp only[hel]at he
   have hsz:=hT el ei hel
   cases a with
   |fz lab sz es=>
    simp only[oops]at he
    by_cases h0:0≤n
    ·rw[if_pos h0]at he
     cases hx:es[n.toNat]? with
     |none=>simp[hx]at he
     |some x=>
      simp only[hx]at he
      cases hb:Nat.beq sz ei.size with
      |false=>rw[hb]at he;cases he
      |true=>
       rw[hb,cond_true,Option.some.injEq]at he;subst he
       have hsze:sz=ei.size:=by simpa using hb
       have hlt:n.toNat<es.length:=(List.getElem?_eq_some_iff.1 hx).1
       rcases X_fz ha with⟨_,rfl,_⟩|⟨hlab,b,o,cap,sp,rfl,hcap,hE,hsp⟩
       ·simp at hx
       ·obtain rfl:sp=none:=hsp.resolve_right (by omega)
        obtain⟨h1,h2⟩:=hE.get hx
        refine .still H (v:=.pointer (some ⟨b,o+n.toNat*sz,none⟩)) ?_ (rfX ?_)
        ·have:(n:Int)<(es.length:Int):=by omega
         simp[Instr.indexAt,asIntOf,run_underlying' w hs,h0,this,run_size w hsz,addr_add,hsze]
        ·have:=RF.fp (F:=mkF B g w) lab x 0 b (o+n.toNat*sz) hlab h2
         simpa using this
    ·rw[if_neg h0]at he;cases he
   |rf sz pl off len=>
    simp only[oops]at he
    cases hb:(decide (0≤n)&&decide (n<len)&&Nat.beq sz ei.size&&useOk s pl)with
    |false=>rw[hb]at he;cases he
    |true=>
     rw[hb,cond_true,Option.some.injEq]at he;subst he
     simp only[Bool.and_eq_true,decide_eq_true_eq]at hb
     obtain⟨⟨⟨h0,h1⟩,h2⟩,h3⟩:=hb
     have hsze:sz=ei.size:=by simpa using h2
     obtain⟨cap,k',m,g1,g2,g3,g4,g5,g6,rfl⟩:=X_rf ha (useOk_iff.1 h3)
     have hk':k'=off:=by omega
     refine .still H (v:=.pointer (some ⟨m.b,m.o+(off+n.toNat)*m.sz+0,none⟩)) ?_ ?_
     ·simp[Instr.indexAt,asIntOf,run_underlying' w hs,h0,h1,run_size w hsz,addr_add,←hsze,g3,hk',Nat.add_mul,Nat.add_assoc]
     ·refine cellX ?_ rfl rfl
      rw[fadeC_ok fun q hq=>by cases hq;exact useOk_iff.1 h3]
      exact .ptr pl (off+n.toNat) 0 m g1 g2
   |_=>cases he
 ·cases he
theorem bound_some {o:Option AV} {d l n:Nat} (h:bound o d l=some n):(o=none∧n=d)∨(∃k i,o=some (.int k i)∧0≤i∧i≤l∧n=i.toNat):=by
 unfold bound at h
 split at h
 ·simp at h;exact .inl ⟨rfl,h.symm⟩
 ·rename_i x
  split at h
  ·rename_i k i
   cases hb:(decide (0≤i)&&decide (i≤l))with
   |false=>rw[hb]at h;cases h
   |true=>
    rw[hb,cond_true,Option.some.injEq]at h
    simp only[Bool.and_eq_true,decide_eq_true_eq]at hb
    exact .inr ⟨k,i,rfl,hb.1,hb.2,h.symm⟩
  ·cases h
def XO (F:Fz) (g:Gh) (d:List Up) (o:Option AV) (v:Option Value):Prop:=
 match o,v with
 |none,none=>True
 |some a,some v=>XD F g d a v
 |_,_=>False
theorem run_bounds {isSlice:Bool} {len cap l h:Nat} {lo hi:Option AV} {vlo vhi:Option Value} (hl:XO (mkF B g w) g s.d lo vlo) (hh:XO (mkF B g w) g s.d hi vhi) (hlc:len≤cap)
  (h1:bound hi len len=some h) (h2:bound lo 0 h=some l):(Instr.sliceBounds isSlice len cap vlo vhi none).run P w=.ok (l,h,cap) w∧l≤h∧h≤len:=by
 have A:h≤len:=by
  rcases bound_some h1 with⟨_,rfl⟩|⟨_,_,_,_,_,rfl⟩<;>omega
 have A2:l≤h:=by
  rcases bound_some h2 with⟨_,rfl⟩|⟨_,_,_,_,_,rfl⟩<;>omega
 refine⟨?_,A2,A⟩
 have ho:(hi=none∧vhi=none∧h=len)∨(∃k i,vhi=some (.int k i)∧0≤i∧i≤(cap:Int)∧h=i.toNat):=by
  rcases bound_some h1 with⟨rfl,rfl⟩|⟨k,i,rfl,a1,a2,rfl⟩
  ·cases vhi with
   |none=>exact .inl ⟨rfl,rfl,rfl⟩
   |some v=>exact hh.elim
  ·cases vhi with
   |none=>exact hh.elim
   |some v=>exact .inr ⟨k,i,by rw[X_int hh],a1,by omega,rfl⟩
 have lo':(lo=none∧vlo=none∧l=0)∨(∃k i,vlo=some (.int k i)∧0≤i∧i≤(h:Int)∧l=i.toNat):=by
  rcases bound_some h2 with⟨rfl,rfl⟩|⟨k,i,rfl,a1,a2,rfl⟩
  ·cases vlo with
   |none=>exact .inl ⟨rfl,rfl,rfl⟩
   |some v=>exact hl.elim
  ·cases vlo with
   |none=>exact hl.elim
   |some v=>exact .inr ⟨k,i,by rw[X_int hl],a1,a2,rfl⟩
 unfold Instr.sliceBounds
 rcases ho with⟨_,rfl,rfl⟩|⟨k,i,rfl,a1,a2,rfl⟩<;>rcases lo' with⟨_,rfl,rfl⟩|⟨k',i',rfl,b1,b2,rfl⟩
 ·simp
 ·simp[Instr.sliceBound,asIntOf,b1,b2]
 ·simp[Instr.sliceBound,asIntOf,a1,a2]
 ·simp only[Sem.run_bind,Sem.run_pure,Result.andThen_ok,Option.isSome_none,Bool.false_eq_true,if_false,Instr.sliceBound,asIntOf]
  rw[if_pos ⟨a1,a2⟩]
  simp only[Sem.run_pure,Result.andThen_ok]
  rw[if_pos ⟨b1,b2⟩]
  rfl
theorem oSlice_ok (hT:TOk P cx) (H:RM B (Kd s.d) g R s.h w) {ty:TypeId} {a:AV} {va:Value} {lo hi:Option AV} {vlo vhi:Option Value} {e:Eff} (ha:XD (mkF B g w) g s.d a va)
  (hl:XO (mkF B g w) g s.d lo vlo) (hh:XO (mkF B g w) g s.d hi vhi) (he:oSlice cx s ty a lo hi=some e):Does P B g s w e (Instr.sliceAt ty va vlo vhi none):=by
 cases a with
 |str b=>
  simp only[oSlice]at he
  cases h1:bound hi b.size b.size with
  |none=>simp[h1]at he
  |some h=>
   simp only[h1]at he
   cases h2:bound lo 0 h with
   |none=>simp[h2]at he
   |some l=>
    simp only[h2]at he
    cases hk:cx.kind ty with
    |none=>simp[hk]at he
    |some k=>
     simp only[hk]at he
     cases k with
     |str=>
      simp only[Option.some.injEq,pureE]at he;subst he
      have hs:=kind_str hT hk
      obtain⟨hb,_,_⟩:=run_bounds (P:=P) (isSlice:=false) hl hh (Nat.le_refl _) h1 h2
      rw[X_str ha]
      refine .still H (v:=.string (b.extract l h)) ?_ (rfX (.str _))
      simp[Instr.sliceAt,Instr.slice,run_underlying' w hs,hb]
     |_=>cases he
 |fz lab sz es=>
  simp only[oSlice]at he
  cases h1:bound hi es.length es.length with
  |none=>simp[h1]at he
  |some h=>
   simp only[h1]at he
   cases h2:bound lo 0 h with
   |none=>simp[h2]at he
   |some l=>
    simp only[h2]at he
    cases hk:cx.kind ty with
    |none=>simp[hk]at he
    |some k=>
     simp only[hk]at he
     cases k with
     |slice el=>
      simp only at he
      cases hel:cx.T el with
      |none=>simp[hel]at he
      |some ei=>
       simp only[hel,oops]at he
       cases hb:(Nat.beq lab 1||Nat.beq sz ei.size)with
       |false=>rw[hb]at he;cases he
       |true=>
        rw[hb,cond_true,Option.some.injEq]at he;subst he
        have hs:=kind_slice hT hk
        have hsz:=hT el ei hel
        rcases X_fz ha with⟨rfl,rfl,rfl⟩|⟨hlab,b,o,cap,sp,rfl,hcap,hE,hsp⟩
        ·obtain⟨hbd,hle,hle2⟩:=run_bounds (P:=P) (isSlice:=true) (len:=0) (cap:=0) hl hh (Nat.le_refl _) h1 h2
         simp at hle2
         have hl0:l=0:=by omega
         subst hl0;subst hle2
         refine .still H (v:=.slice none 0 0) ?_ (rfX ?_)
         ·simp[Instr.sliceAt,Instr.slice,run_underlying' w hs,hbd,run_size w hsz]
         ·simpa using RF.nil (F:=mkF B g w) sz
        ·obtain⟨hbd,hle,hle2⟩:=run_bounds (P:=P) (isSlice:=true) hl hh hcap h1 h2
         have hsze:sz=ei.size:=by
          rcases Bool.or_eq_true_iff.1 hb with hb|hb
          ·exact absurd (by simpa using hb) hlab
          ·simpa using hb
         have hlen:((es.take h).drop l).length=h - l:=by simp;omega
         have hel':∀i x,((es.take h).drop l)[i]?=some x→es[l+i]?=some x∧l+i<h:=by
          intro i x hx
          rw[List.getElem?_drop,List.getElem?_take]at hx
          split at hx
          ·exact⟨hx,by assumption⟩
          ·cases hx
         by_cases hcl:cap=l
         ·refine .still H (v:=.slice (some ⟨b,o,sp⟩) (h - l) (cap - l)) ?_ (rfX ?_)
          ·rw[hcl]at hbd;simp[Instr.sliceAt,Instr.slice,run_underlying' w hs,hbd,run_size w hsz,hcl]
          ·rw[←hlen]
           refine .fzs lab sz _ b o _ sp hlab (by rw[hlen];omega) (RE.of fun i x hx=>?_) (.inr (by omega))
           have:=(hel' i x hx).2;omega
         ·obtain rfl:sp=none:=hsp.resolve_right (by omega)
          refine .still H (v:=.slice (some ⟨b,o+l*sz,none⟩) (h - l) (cap - l)) ?_ (rfX ?_)
          ·simp[Instr.sliceAt,Instr.slice,run_underlying' w hs,hbd,run_size w hsz,hcl,addr_add,hsze]
          ·rw[←hlen]
           refine .fz lab sz _ b (o+l*sz) _ hlab (by rw[hlen];omega) (RE.of fun i x hx=>?_)
           have:=hE.get (hel' i x hx).1
           rw[Nat.add_assoc,←Nat.add_mul];exact this
     |_=>cases he
 |rf sz pl off len=>
  simp only[oSlice]at he
  cases h1:bound hi len len with
  |none=>simp[h1]at he
  |some h=>
   simp only[h1]at he
   cases h2:bound lo 0 h with
   |none=>simp[h2]at he
   |some l=>
    simp only[h2]at he
    cases hk:cx.kind ty with
    |none=>simp[hk]at he
    |some k=>
     simp only[hk]at he
     cases k with
     |slice el=>
      simp only at he
      cases hel:cx.T el with
      |none=>simp[hel]at he
      |some ei=>
       simp only[hel,oops]at he
       cases hb:(Nat.beq sz ei.size&&useOk s pl)with
       |false=>rw[hb]at he;cases he
       |true=>
        rw[hb,cond_true,Option.some.injEq]at he;subst he
        simp only[Bool.and_eq_true]at hb
        have hs:=kind_slice hT hk
        have hsz:=hT el ei hel
        have hsze:sz=ei.size:=by simpa using hb.1
        have hok:=useOk_iff.1 hb.2
        obtain⟨cap,k',m,g1,g2,g3,g4,g5,g6,rfl⟩:=X_rf ha hok
        obtain⟨hbd,hle,hle2⟩:=run_bounds (P:=P) (isSlice:=true) hl hh g5 h1 h2
        by_cases hcl:cap=l
        ·refine .still H (v:=.slice (some ⟨m.b,m.o+k'*m.sz,none⟩) (h - l) (cap - l)) ?_ (cellX ?_ rfl rfl)
         ·rw[hcl]at hbd;simp[Instr.sliceAt,Instr.slice,run_underlying' w hs,hbd,run_size w hsz,hcl]
         ·rw[fadeC_ok fun q hq=>by cases hq;exact hok,←g3]
          exact .rf pl (off+l) (h - l) (cap - l) k' m g1 g2 (by omega) (by omega) (.inl (by omega))
        ·have hk':k'=off:=by omega
         refine .still H (v:=.slice (some ⟨m.b,m.o+(off+l)*m.sz,none⟩) (h - l) (cap - l)) ?_ (cellX ?_ rfl rfl)
         ·simp[Instr.sliceAt,Instr.slice,run_underlying' w hs,hbd,run_size w hsz,hcl,addr_add,←hsze,g3,hk',Nat.add_mul,Nat.add_assoc]
         ·rw[fadeC_ok fun q hq=>by cases hq;exact hok,←g3]
          exact .rf pl (off+l) (h - l) (cap - l) (off+l) m g1 g2 (by omega) (by omega) (.inr rfl)
     |_=>cases he
 |_=>cases he
end Go.Am
end
section
namespace Go.Am
open Go.RowKit
variable {P:Program} {cx:Cx} {B:Base} {g:Gh} {R:Nat→Value} {s:St} {w:World}
theorem kind_bool (hT:TOk P cx) {t:Nat} (h:cx.kind t=some .bool):P.underlying t=some .bool:=by
 unfold Cx.kind at h
 cases ht:cx.T t with
 |none=>simp[ht]at h
 |some i=>
  simp only[ht,Option.some.injEq]at h
  obtain⟨info,d,h1,h2,h3,h4,h5,_⟩:=mkTy_facts (hT t i ht)
  rw[h5]at h
  cases d<;>simp[mkK]at h
  exact h2
theorem RTL_get {F:Fz} {d:List Up}:∀{l:List AV} {vs:List Value} {i:Nat} {a:AV},RTL F g (l.map (fadeC d)) vs→l[i]?=some a→∃v,vs[i]?=some v∧RT F g (fadeC d a) v
 |[],_,i,a,_,h=>by simp at h
 |x::l,_,i,a,.cons h1 h2,h=>by
  cases i with
  |zero=>simp at h;subst h;exact⟨_,rfl,h1⟩
  |succ i=>obtain⟨v,g1,g2⟩:=RTL_get h2 (i:=i) (a:=a) (by simpa using h);exact⟨v,by simpa using g1,g2⟩
theorem RTL_len {F:Fz} {d:List Up}:∀{l:List AV} {vs:List Value},RTL F g (l.map (fadeC d)) vs→vs.length=l.length
 |[],_,.nil=>rfl
 |_::_,_,.cons _ h=>by simp[RTL_len h]
theorem T_int {d:List Up} {F:Fz} {k:IntKind} {n:Int} {v:Value} (h:RT F g (fadeC d (.int k n)) v):v=.int k n:=X_int (cellX h rfl rfl)
theorem T_bool {d:List Up} {F:Fz} {n:Bool} {v:Value} (h:RT F g (fadeC d (.bool n)) v):v=.bool n:=X_bool (cellX h rfl rfl)
theorem T_str {d:List Up} {F:Fz} {n:ByteArray} {v:Value} (h:RT F g (fadeC d (.str n)) v):v=.string n:=X_str (cellX h rfl rfl)
theorem cellEq_ok {dd:Nat} {k:TyK} {t:TypeId} {d:TypeDesc} {a b:AV} {va vb:Value} {r:Bool} (ht:P.underlying t=some d) (hk:k=mkK P d) (he:cellEq k a b=some r)
  (ha:RT (mkF B g w) g (fadeC s.d a) va) (hb:RT (mkF B g w) g (fadeC s.d b) vb):(Op.equalIn (dd+1) t va vb).run P w=.ok r w:=by
 unfold cellEq at he
 split at he
 ·rename_i k0 k1 n k2 m
  split at he
  ·rename_i hkk
   subst hkk
   cases he
   rw[T_int ha,T_int hb]
   cases d<;>simp[mkK]at hk
   exact run_equalIn_int w dd t _ _ n m ht
  ·cases he
 ·rename_i x y
  cases he
  rw[T_bool ha,T_bool hb]
  cases d<;>simp[mkK]at hk
  exact run_equalIn_bool' w dd t x y ht
 ·rename_i x y
  cases he
  rw[T_str ha,T_str hb]
  cases d<;>simp[mkK]at hk
  exact run_equalIn_string w dd t x y ht
 ·cases he
theorem cellsEq_ok {dd:Nat} {xs ys:Array Value} {r:Bool}:∀{fs:List Field} {n:Nat} {ks:List TyK} {l m:List AV},flatFields P n fs=some ks→cellsEq ks l m=some r→
  (∀i a,l[i]?=some a→∃v,xs[n+i]?=some v∧RT (mkF B g w) g (fadeC s.d a) v)→(∀i a,m[i]?=some a→∃v,ys[n+i]?=some v∧RT (mkF B g w) g (fadeC s.d a) v)→
  (Op.eqFields (dd+1) xs ys fs).run P w=.ok r w
 |[],n,ks,l,m,h1,h2,_,_=>by
  simp[flatFields]at h1;subst h1
  cases l<;>cases m<;>simp[cellsEq]at h2
  subst h2;simp[Op.eqFields]
 |f::fs,n,ks,l,m,h1,h2,hx,hy=>by
  simp only[flatFields]at h1
  cases hk:(P.underlying f.type).map (mkK P)with
  |none=>simp[hk]at h1
  |some k=>
   simp only[hk]at h1
   split at h1
   ·rename_i hc
    cases hr:flatFields P (n+1) fs with
    |none=>simp[hr]at h1
    |some ks'=>
     simp[hr]at h1
     subst h1
     cases l with
     |nil=>cases m<;>cases h2
     |cons a l=>
      cases m with
      |nil=>cases h2
      |cons b m=>
       simp only[Bool.and_eq_true,bne_iff_ne,beq_iff_eq]at hc
       obtain⟨⟨⟨hc1,hc2⟩,hc3⟩,hc4⟩:=hc
       cases hd:P.underlying f.type with
       |none=>simp[hd]at hk
       |some d=>
        simp[hd]at hk
        obtain⟨va,va1,va2⟩:=hx 0 a rfl
        obtain⟨vb,vb1,vb2⟩:=hy 0 b rfl
        have hag:(isAgg f.type).run P w=.ok false w:=by
         simp only[isAgg,Sem.run_bind,run_underlying' w hd,Result.andThen_ok]
         cases d<;>first|rfl|(simp[mkK]at hk;subst hk;simp[TyK.plain]at hc4)
        have p1:(part f.type xs f.offset).run P w=.ok va w:=by
         have:xs[n]?=some va:=by simpa using va1
         simp[part,hag,hc2,this]
        have p2:(part f.type ys f.offset).run P w=.ok vb w:=by
         have:ys[n]?=some vb:=by simpa using vb1
         simp[part,hag,hc2,this]
        simp only[cellsEq]at h2
        simp only[Op.eqFields,hc1,ne_eq,not_false_eq_true,if_true,Sem.run_bind,p1,p2,Result.andThen_ok]
        cases he:cellEq k a b with
        |none=>simp[he]at h2
        |some t=>
         rw[cellEq_ok (dd:=dd) hd hk.symm he va2 vb2]
         cases t with
         |false=>simp only[he]at h2;cases h2;simp
         |true=>
          simp only[he]at h2
          simp only[Result.andThen_ok,Bool.not_true,Bool.false_eq_true,if_false]
          refine cellsEq_ok hr h2 (fun i x hi=>?_) fun i x hi=>?_
          ·obtain⟨v,e1,e2⟩:=hx (i+1) x (by simpa using hi);exact⟨v,by rw[show n+1+i=n+(i+1)by omega];exact e1,e2⟩
          ·obtain⟨v,e1,e2⟩:=hy (i+1) x (by simpa using hi);exact⟨v,by rw[show n+1+i=n+(i+1)by omega];exact e1,e2⟩
   ·cases h1
theorem flat_some (hT:TOk P cx) {t:Nat} {ks:List TyK} (h:cx.flat t=some ks):
  ∃fs:Array Field,P.underlying t=some (.struct fs)∧P.stoodInHeld t=false∧P.eqGuardType P.depth t=false∧flatFields P 0 fs.toList=some ks:=by
 unfold Cx.flat at h
 cases ht:cx.T t with
 |none=>simp[ht]at h
 |some i=>
  simp only[ht]at h
  obtain⟨info,d,h1,h2,h3,h4,h5,h6,h7,_⟩:=mkTy_facts (hT t i ht)
  rw[h7]at h
  cases d<;>simp only[mkFlat]at h<;>(try cases h)
  split at h
  ·rename_i hc
   simp only[Bool.and_eq_true,Bool.not_eq_true']at hc
   exact⟨_,h2,hc.1,hc.2,h⟩
  ·cases h
theorem X_agg {d:List Up} {F:Fz} {cs:List AV} {v:Value} (h:XD F g d (.agg cs) v):∃vs:List Value,v=.agg vs.toArray∧RTL F g (cs.map (fadeC d)) vs:=by
 replace h:=h.resolve_left (by intro h;cases h)
 simp only[fade,fade1]at h
 cases h with
 |c h=>cases h with
  |c h=>cases h with|f h=>cases h
  |agg h=>exact⟨_,rfl,h⟩
theorem eqGuard_run {op:BinOp} {t:TypeId} {x y:Operand} {va vb:Value} (h:op=.eql∨op=.neq→(∀a,va≠.agg a)∧va≠.nilIface):(eqGuard op t x y va vb).run P w=.ok () w:=by
 unfold eqGuard
 cases op<;>first|rfl|(obtain⟨h1,h2⟩:=h (by simp);cases va<;>first|exact absurd rfl (h1 _)|exact absurd rfl h2|rfl)
theorem run_equalIn_ptr0 (d:Nat) {t e:TypeId} (h:P.underlying t=some (.pointer e)):(Op.equalIn (d+1) t (.pointer none) (.pointer none)).run P w=.ok true w:=by
 simp[Op.equalIn,run_underlying' w h]
theorem run_equalIn_ptr1 (d:Nat) {t e:TypeId} {a:Addr} (h:P.underlying t=some (.pointer e)):(Op.equalIn (d+1) t (.pointer (some a)) (.pointer none)).run P w=.ok false w:=by
 simp[Op.equalIn,run_underlying' w h]
theorem eqX_ok (hT:TOk P cx) {ty:Nat} {a b:AV} {va vb:Value} {r:Bool} {op:BinOp} {xo yo:Operand} (ha:XD (mkF B g w) g s.d a va) (hb:XD (mkF B g w) g s.d b vb)
  (he:eqX cx ty a b=some r) (hop:op=.eql∨op=.neq):
  (do eqGuard op ty xo yo va vb;binOp op ty va vb:Sem Value).run P w=.ok (.bool (if op=.eql then r else !r)) w:=by
 have plain:(∀a,va≠.agg a)→va≠.nilIface→(binOp op ty va vb).run P w=.ok (.bool (if op=.eql then r else !r)) w→
   (do eqGuard op ty xo yo va vb;binOp op ty va vb:Sem Value).run P w=.ok (.bool (if op=.eql then r else !r)) w:=by
  intro h1 h2 h3
  rw[Sem.run_bind,eqGuard_run fun _=>⟨h1,h2⟩,Result.andThen_ok,h3]
 unfold eqX at he
 split at he
 ·rename_i k n k' m
  split at he
  ·rename_i hk
   subst hk;cases he
   rw[X_int ha,X_int hb]at *
   refine plain (by intro a h;cases h) (by intro h;cases h) ?_
   rcases hop with rfl|rfl<;>simp[binOp,Op.intCmp,bne]
  ·cases he
 ·rename_i x y
  cases he
  rw[X_str ha,X_str hb]at *
  refine plain (by intro a h;cases h) (by intro h;cases h) ?_
  rcases hop with rfl|rfl<;>simp[binOp,Op.stringOp]
 ·rename_i x y
  split at he
  ·rename_i hk
   cases he
   have hu:=kind_bool hT hk
   rw[X_bool ha,X_bool hb]at *
   refine plain (by intro a h;cases h) (by intro h;cases h) ?_
   rcases hop with rfl|rfl
   ·simpa using run_eql_bool w ty x y hu
   ·simpa using run_neq_bool w ty x y hu
  ·cases he
 ·rename_i xs ys
  cases hf:cx.flat ty with
  |none=>simp[hf,oops]at he
  |some ks=>
   simp only[hf]at he
   obtain⟨fs,h1,h2,h3,h4⟩:=flat_some hT hf
   obtain⟨vx,rfl,hx⟩:=X_agg ha
   obtain⟨vy,rfl,hy⟩:=X_agg hb
   have hfo:P.fieldsOf ty=fs:=by simp[Program.fieldsOf,h1]
   have hrun:=cellsEq_ok (P:=P) (dd:=9998) (xs:=vx.toArray) (ys:=vy.toArray) (B:=B) (g:=g) (s:=s) (w:=w) h4 he
    (fun i a hi=>by obtain⟨v,e1,e2⟩:=RTL_get hx hi;exact⟨v,by simpa using e1,e2⟩)
    (fun i a hi=>by obtain⟨v,e1,e2⟩:=RTL_get hy hi;exact⟨v,by simpa using e1,e2⟩)
   have heq:=run_equalIn_struct w 9999 ty vx.toArray vy.toArray (by rw[hfo];exact h1) h2
   rw[hfo,hrun]at heq
   rw[Sem.run_bind,run_eqGuard_agg w op ty xo yo _ _ h3,Result.andThen_ok]
   rcases hop with rfl|rfl
   ·rw[run_eql_struct,heq];rfl
   ·rw[run_neq_struct,heq];rfl
 ·rename_i n sz es m sz' es'
  split at he
  ·rename_i el hk
   cases he
   have hu:=kind_slice hT hk
   rcases X_fz hb with⟨_,rfl,rfl⟩|⟨h,_⟩
   ·have hr:va=.slice none 0 0∧(n==1)=true∨∃x l c,va=.slice (some x) l c∧(n==1)=false:=by
     rcases X_fz ha with⟨rfl,rfl,rfl⟩|⟨hn,b,o,cap,sp,rfl,_⟩
     ·exact .inl ⟨rfl,rfl⟩
     ·exact .inr ⟨_,_,_,rfl,by simpa using hn⟩
    rcases hr with⟨rfl,hn⟩|⟨x,l,c,rfl,hn⟩
    ·refine plain (by intro a h;cases h) (by intro h;cases h) ?_
     have:=run_equal_slice_nil w ty el none 0 0 hu
     rw[hn]
     rcases hop with rfl|rfl<;>simp only[binOp,Sem.run_bind,this,Result.andThen_ok]<;>rfl
    ·refine plain (by intro a h;cases h) (by intro h;cases h) ?_
     have:=run_equal_slice_nil w ty el (some x) l c hu
     rw[hn]
     rcases hop with rfl|rfl<;>simp only[binOp,Sem.run_bind,this,Result.andThen_ok]<;>rfl
   ·exact absurd rfl h
  ·cases he
 ·split at he
  ·rename_i el hk
   cases he
   have hu:=kind_ptr hT hk
   rw[X_nilp ha,X_nilp hb]at *
   refine plain (by intro a h;cases h) (by intro h;cases h) ?_
   have:(Op.equal ty (.pointer none) (.pointer none)).run P w=.ok true w:=run_equalIn_ptr0 9999 hu
   rcases hop with rfl|rfl<;>simp only[binOp,Sem.run_bind,this,Result.andThen_ok]<;>rfl
  ·cases he
 ·rename_i lab ee off
  split at he
  ·rename_i el hk
   cases he
   have hu:=kind_ptr hT hk
   obtain⟨_,b,o,rfl,_⟩:=X_fp ha
   rw[X_nilp hb]at *
   refine plain (by intro a h;cases h) (by intro h;cases h) ?_
   have:(Op.equal ty (.pointer (some ⟨b,o+off,none⟩)) (.pointer none)).run P w=.ok false w:=run_equalIn_ptr1 9999 hu
   rcases hop with rfl|rfl<;>simp only[binOp,Sem.run_bind,this,Result.andThen_ok]<;>rfl
  ·cases he
 ·cases he
end Go.Am
end
section
namespace Go.Am
open Go.RowKit
variable {P:Program} {cx:Cx} {B:Base} {g:Gh} {R:Nat→Value} {s:St} {w:World}
theorem oBin_ok (hT:TOk P cx) (H:RM B (Kd s.d) g R s.h w) {ty:Nat} {a b:AV} {va vb:Value} {e:Eff} {op:BinOp} {xo yo:Operand} (ha:XD (mkF B g w) g s.d a va) (hb:XD (mkF B g w) g s.d b vb)
  (he:oBin cx op ty a b=some e):Does P B g s w e (do eqGuard op ty xo yo va vb;binOp op ty va vb):=by
 unfold oBin at he
 cases hx:binX cx op ty a b with
 |none=>simp[hx]at he
 |some r=>
  simp only[hx,Option.some.injEq,pureE]at he;subst he
  by_cases h1:op=.eql
  ·subst h1
   simp only[binX]at hx
   cases hq:eqX cx ty a b with
   |none=>simp[hq]at hx
   |some t=>
    simp[hq]at hx;subst hx
    have:=eqX_ok hT (xo:=xo) (yo:=yo) ha hb hq (.inl rfl)
    exact .still H (v:=.bool t) (by simpa using this) (rfX (.bool _))
  ·by_cases h2:op=.neq
   ·subst h2
    simp only[binX]at hx
    cases hq:eqX cx ty a b with
    |none=>simp[hq]at hx
    |some t=>
     simp[hq]at hx;subst hx
     have:=eqX_ok hT (xo:=xo) (yo:=yo) ha hb hq (.inr rfl)
     exact .still H (v:=.bool !t) (by simpa using this) (rfX (.bool _))
   ·have hg:∀va vb,(eqGuard op ty xo yo va vb).run P w=.ok () w:=fun va vb=>eqGuard_run fun h=>by rcases h with h|h;exact absurd h h1;exact absurd h h2
    cases a with
    |int k x=>
     cases b with
     |int k' y=>
      rw[X_int ha,X_int hb]
      by_cases hk:k=k'
      ·subst hk
       have fin:∀v,(binOp op ty (.int k x) (.int k y)).run P w=.ok v w→RF (mkF B g w) r v→Does P B g s w {val:=r,rd:=[],up:=[]} (do eqGuard op ty xo yo (.int k x) (.int k y);binOp op ty (.int k x) (.int k y)):=
        fun v hv hr=>.still H (by rw[Sem.run_bind,hg,Result.andThen_ok,hv]) (rfX hr)
       cases op<;>simp only[binX,oops,ne_eq,not_true_eq_false,if_false]at hx
       case add=>cases hx;exact fin _ (show(binOp .add ty (.int k x) (.int k y)).run P w=.ok (.int k (k.wrap (x+y))) w by simp[binOp,Op.intArith]) (.int _ _)
       case sub=>cases hx;exact fin _ (show(binOp .sub ty (.int k x) (.int k y)).run P w=.ok (.int k (k.wrap (x - y))) w by simp[binOp,Op.intArith]) (.int _ _)
       case mul=>cases hx;exact fin _ (show(binOp .mul ty (.int k x) (.int k y)).run P w=.ok (.int k (k.wrap (x*y))) w by simp[binOp,Op.intArith]) (.int _ _)
       case quo=>
        by_cases hy:y=0
        ·rw[if_pos hy]at hx;cases hx
        ·rw[if_neg hy]at hx;cases hx
         exact fin _ (show(binOp .quo ty (.int k x) (.int k y)).run P w=.ok (.int k (k.wrap (x.tdiv y))) w by simp[binOp,Op.intDiv,hy]) (.int _ _)
       case rem=>
        by_cases hy:y=0
        ·rw[if_pos hy]at hx;cases hx
        ·rw[if_neg hy]at hx;cases hx
         exact fin _ (show(binOp .rem ty (.int k x) (.int k y)).run P w=.ok (.int k (x.tmod y)) w by simp[binOp,Op.intDiv,hy]) (.int _ _)
       case lss=>cases hx;exact fin _ (show(binOp .lss ty (.int k x) (.int k y)).run P w=.ok (.bool (decide (x<y))) w by simp[binOp,Op.intCmp]) (.bool _)
       case leq=>cases hx;exact fin _ (show(binOp .leq ty (.int k x) (.int k y)).run P w=.ok (.bool (decide (x≤y))) w by simp[binOp,Op.intCmp]) (.bool _)
       case gtr=>cases hx;exact fin _ (show(binOp .gtr ty (.int k x) (.int k y)).run P w=.ok (.bool (decide (x> y))) w by simp[binOp,Op.intCmp]) (.bool _)
       case geq=>cases hx;exact fin _ (show(binOp .geq ty (.int k x) (.int k y)).run P w=.ok (.bool (decide (x≥y))) w by simp[binOp,Op.intCmp]) (.bool _)
       case eql=>exact absurd rfl h1
       case neq=>exact absurd rfl h2
       all_goals cases hx
      ·exfalso
       cases op<;>simp only[binX,ne_eq,hk,not_false_eq_true,if_true,oops]at hx<;>first|(exact h1 rfl)|(exact h2 rfl)|cases hx
     |_=>exfalso;cases op<;>first|(exact h1 rfl)|(exact h2 rfl)|cases hx
    |str x=>
     cases b with
     |str y=>
      rw[X_str ha,X_str hb]
      have fin:∀v,(binOp op ty (.string x) (.string y)).run P w=.ok v w→RF (mkF B g w) r v→Does P B g s w {val:=r,rd:=[],up:=[]} (do eqGuard op ty xo yo (.string x) (.string y);binOp op ty (.string x) (.string y)):=
       fun v hv hr=>.still H (by rw[Sem.run_bind,hg,Result.andThen_ok,hv]) (rfX hr)
      cases op<;>simp only[binX,oops]at hx
      case add=>
       by_cases hy:x.size+y.size≤2 ^ 62
       ·rw[if_pos hy]at hx;cases hx
        refine fin (.string (x++y)) ?_ (.str _)
        have h3:¬((IntKind.i64.max:Int)<((x.size+y.size:Nat):Int)):=by
         have:(IntKind.i64.max:Int)=9223372036854775807:=by decide
         rw[this];omega
        simp only[binOp,Op.stringOp,gt_iff_lt,h3,if_false]
        rfl
       ·rw[if_neg hy]at hx;cases hx
      case lss=>cases hx;exact fin _ (show(binOp .lss ty (.string x) (.string y)).run P w=.ok (.bool (Op.bytesLess x.toList y.toList)) w from rfl) (.bool _)
      case leq=>cases hx;exact fin _ (show(binOp .leq ty (.string x) (.string y)).run P w=.ok (.bool (Op.bytesLess x.toList y.toList||x.toList==y.toList)) w from rfl) (.bool _)
      case gtr=>cases hx;exact fin _ (show(binOp .gtr ty (.string x) (.string y)).run P w=.ok (.bool (!(Op.bytesLess x.toList y.toList||x.toList==y.toList))) w from rfl) (.bool _)
      case geq=>cases hx;exact fin _ (show(binOp .geq ty (.string x) (.string y)).run P w=.ok (.bool (!Op.bytesLess x.toList y.toList)) w from rfl) (.bool _)
      case eql=>exact absurd rfl h1
      case neq=>exact absurd rfl h2
      all_goals cases hx
     |_=>exfalso;cases op<;>first|(exact h1 rfl)|(exact h2 rfl)|cases hx
    |_=>exfalso;cases op<;>first|(exact h1 rfl)|(exact h2 rfl)|cases hx
theorem oLen_ok (hT:TOk P cx) (H:RM B (Kd s.d) g R s.h w) {ty tr:Nat} {a:AV} {va:Value} {e:Eff} (ha:XD (mkF B g w) g s.d a va)
  (he:oLen cx s ty a=some e):Does P B g s w e (Builtin.len_ #[ty] tr #[va]):=by
 unfold oLen at he
 split at he
 ·rename_i b hk
  simp only[Option.some.injEq,pureE]at he;subst he
  have hu:=kind_str hT hk
  rw[X_str ha]
  exact .still H (v:=.int .i64 b.size) (by simp[Builtin.len_,run_underlying' w hu,goInt]) (rfX (.int _ _))
 ·rename_i el lab sz es hk
  simp only[Option.some.injEq,pureE]at he;subst he
  have hu:=kind_slice hT hk
  rcases X_fz ha with⟨_,rfl,rfl⟩|⟨_,b,o,cap,sp,rfl,_⟩
  ·exact .still H (v:=.int .i64 0) (by simp[Builtin.len_,run_underlying' w hu,goInt]) (rfX (.int _ _))
  ·exact .still H (v:=.int .i64 es.length) (by simp[Builtin.len_,run_underlying' w hu,goInt]) (rfX (.int _ _))
 ·rename_i el sz pl off n hk
  cases hs:useOk s pl with
  |false=>rw[hs]at he;cases he
  |true=>
   rw[hs,cond_true,Option.some.injEq]at he;subst he
   have hu:=kind_slice hT hk
   obtain⟨cap,k',m,_,_,_,_,_,_,rfl⟩:=X_rf ha (useOk_iff.1 hs)
   exact .still H (v:=.int .i64 n) (by simp[Builtin.len_,run_underlying' w hu,goInt]) (rfX (.int _ _))
 ·rename_i k' el r hk
  split at he
  ·rename_i ks vs hl
   simp only[Option.some.injEq]at he;subst he
   have hu:=kind_map hT hk
   obtain⟨n,h1,h2,rfl⟩:=X_mrf ha (okD_of_look hl)
   obtain⟨u,n',es,cl,e1,e2,e3,e4,e5⟩:=node_at H (look_some hl).2
   rw[h1]at e1;cases e1
   refine .still H (v:=.int .i64 ks.length) ?_ (rfX (.int _ _))
   have hobj:w.heap[n.b]?=some (.map es cl):=e4
   have hget:(getObj n.b).run P w=.ok (.map es cl) w:=by simp[getObj,Sem.run,hobj]
   simp[Builtin.len_,run_underlying' w hu,hget,goInt,e5.1]
  ·cases he
 ·cases he
theorem oMin_ok (H:RM B (Kd s.d) g R s.h w) {tys:Array TypeId} {tr:Nat} {args:List AV} {vs:List Value} {e:Eff} (ha:RXL (mkF B g w) g (args.map (fade1 s.d)) vs)
  (he:oMin args=some e):Does P B g s w e (Builtin.min_ tys tr vs.toArray):=by
 unfold oMin at he
 split at he
 ·rename_i k x k' y
  simp only[Option.some.injEq,pureE]at he;subst he
  cases ha with
  |cons h1 h2=>cases h2 with
   |cons h3 h4=>cases h4 with
    |nil=>
     obtain rfl:=X_int (k:=k) (n:=x) (.inr (by rw[fade_eq1 rfl];exact .c h1))
     obtain rfl:=X_int (k:=k') (n:=y) (.inr (by rw[fade_eq1 rfl];exact .c h3))
     exact .still H (v:=.int k (if y<x then y else x)) (by simp[Builtin.min_,Builtin.min2]) (rfX (.int _ _))
 ·cases he
theorem oMax_ok (H:RM B (Kd s.d) g R s.h w) {tys:Array TypeId} {tr:Nat} {args:List AV} {vs:List Value} {e:Eff} (ha:RXL (mkF B g w) g (args.map (fade1 s.d)) vs)
  (he:oMax args=some e):Does P B g s w e (Builtin.max_ tys tr vs.toArray):=by
 unfold oMax at he
 split at he
 ·rename_i k x k' y
  simp only[Option.some.injEq,pureE]at he;subst he
  cases ha with
  |cons h1 h2=>cases h2 with
   |cons h3 h4=>cases h4 with
    |nil=>
     obtain rfl:=X_int (k:=k) (n:=x) (.inr (by rw[fade_eq1 rfl];exact .c h1))
     obtain rfl:=X_int (k:=k') (n:=y) (.inr (by rw[fade_eq1 rfl];exact .c h3))
     exact .still H (v:=.int k (if y> x then y else x)) (by simp[Builtin.max_,Builtin.max2]) (rfX (.int _ _))
 ·cases he
end Go.Am
end
section
namespace Go.Am
open Go.RowKit
variable {P:Program} {cx:Cx} {B:Base} {g:Gh} {R:Nat→Value} {s:St} {w:World}
theorem RTL_drop {F:Fz} {d:List Up}:∀{l:List AV} {vs:List Value} (n:Nat),RTL F g (l.map (fadeC d)) vs→RTL F g ((l.drop n).map (fadeC d)) (vs.drop n)
 |_,_,0,h=>h
 |[],_,n+1,.nil=>.nil
 |_::_,_,n+1,.cons _ h=>RTL_drop n h
theorem RTL_take {F:Fz} {d:List Up}:∀{l:List AV} {vs:List Value} (n:Nat),RTL F g (l.map (fadeC d)) vs→RTL F g ((l.take n).map (fadeC d)) (vs.take n)
 |_,_,0,h=>.nil
 |[],_,n+1,.nil=>.nil
 |_::_,_,n+1,.cons h1 h=>.cons h1 (RTL_take n h)
theorem RTL_append {F:Fz} {d:List Up}:∀{l m:List AV} {vs us:List Value},RTL F g (l.map (fadeC d)) vs→RTL F g (m.map (fadeC d)) us→RTL F g ((l++m).map (fadeC d)) (vs++us)
 |[],_,_,_,.nil,h=>h
 |_::_,_,_,_,.cons h1 h,h'=>.cons h1 (RTL_append h h')
theorem oField_ok (hT:TOk P cx) (H:RM B (Kd s.d) g R s.h w) {ty f:Nat} {a:AV} {va:Value} {e:Eff} (ha:XD (mkF B g w) g s.d a va)
  (he:oField cx ty a f=some e):Does P B g s w e (Instr.field ty va f):=by
 unfold oField at he
 split at he
 ·rename_i fs cs hk
  obtain⟨fields,hu,rfl⟩:=kind_struct hT hk
  obtain⟨vs,rfl,hvs⟩:=X_agg ha
  cases hf:(fields.toList.map fun f=>(f.offset,f.type,P.cellsOf f.type))[f]? with
  |none=>simp[hf]at he
  |some x=>
   obtain⟨o',t,n⟩:=x
   simp only[hf]at he
   rw[List.getElem?_map]at hf
   cases hfl:fields.toList[f]? with
   |none=>simp[hfl]at hf
   |some fl=>
    simp[hfl]at hf
    obtain⟨rfl,rfl,rfl⟩:=hf
    have hfl':fields[f]?=some fl:=by simpa using hfl
    cases ht:cx.T fl.type with
    |none=>simp[ht]at he
    |some i=>
     simp only[ht]at he
     cases hb:(Nat.beq ((cs.drop fl.offset).take (P.cellsOf fl.type)).length (P.cellsOf fl.type)&&Nat.beq (P.cellsOf fl.type) i.size)with
     |false=>rw[hb]at he;cases he
     |true=>
      rw[hb,cond_true]at he
      simp only[Bool.and_eq_true]at hb
      have h1:((cs.drop fl.offset).take (P.cellsOf fl.type)).length=P.cellsOf fl.type:=by simpa using hb.1
      have h2:P.cellsOf fl.type=i.size:=by simpa using hb.2
      have hi:=hT _ i ht
      cases hv:mkVal i.isAgg ((cs.drop fl.offset).take (P.cellsOf fl.type))with
      |none=>simp[hv]at he
      |some v=>
       simp only[hv,Option.some.injEq,pureE]at he;subst he
       have hsub:=RTL_take (P.cellsOf fl.type) (RTL_drop fl.offset hvs)
       rcases mkVal_some hv with⟨ha',rfl⟩|⟨ha',hcs⟩
       ·refine .still H (v:=.agg ((vs.drop fl.offset).take (P.cellsOf fl.type)).toArray) ?_ (.inr (.c (.agg hsub)))
        simp only[Instr.field,Sem.run_bind,run_underlying' w hu,Result.andThen_ok,hfl',asAgg,Sem.run_pure,part,run_agg w hi,ha',if_true,run_size w hi]
        congr 2
        apply Array.ext'
        simp[h2]
       ·rw[hcs]at hsub
        generalize hvv:(vs.drop fl.offset).take (P.cellsOf fl.type)=vv at hsub
        cases hsub with
        |cons g1 g2=>
         rename_i u us
         cases g2
         have hget:vs[fl.offset]?=some u:=by
          have:((vs.drop fl.offset).take (P.cellsOf fl.type))[0]?=some u:=by rw[hvv];rfl
          rw[List.getElem?_take]at this
          split at this
          ·rw[List.getElem?_drop]at this;simpa using this
          ·cases this
         have hget':vs.toArray[fl.offset]?=some u:=by simpa using hget
         have hna:nonAgg v=true∧nonTup v=true:=by
          cases v<;>first|exact⟨rfl,rfl⟩|(exfalso;simp[fadeC,staleC]at g1;cases g1 with|f h=>cases h)
         refine .still H (v:=u) ?_ (cellX g1 hna.1 hna.2)
         simp only[Instr.field,Sem.run_bind,run_underlying' w hu,Result.andThen_ok,hfl',asAgg,Sem.run_pure,part,run_agg w hi,ha',Bool.false_eq_true,if_false,hget']
 ·cases he
theorem X_cells {d:List Up} {F:Fz} {a:AV} {v:Value} (h:XD F g d a v) (hk:known a=true):∃vs:List Value,v.cells.toList=vs∧RTL F g ((cells a).map (fadeC d)) vs:=by
 by_cases ha:nonAgg a=true
 ·by_cases ht:nonTup a=true
  ·rcases h with rfl|h
   ·cases hk
   refine⟨_,rfl,?_⟩
   rw[fade_eq1 ht,fade1_cell ha]at h
   rw[cells_nonAgg ha]
   generalize hx:fadeC d a=x at h
   have hn:nonAgg x=true∧nonTup x=true:=by rw[←hx];unfold fadeC;split;exact⟨rfl,rfl⟩;exact⟨ha,ht⟩
   cases h with
   |c h=>cases h with
    |c h=>
     have ho:=h.one
     have:v.cells.toList=[v]:=by cases v<;>first|rfl|cases ho
     rw[this]
     simp only[List.map_cons,List.map_nil,hx]
     exact .cons h .nil
    |agg h=>cases hn.1
   |tup h=>cases hn.2
  ·cases a<;>simp[nonTup]at ht
   cases hk
 ·cases a<;>simp[nonAgg]at ha
  obtain⟨vs,rfl,h2⟩:=X_agg h;exact⟨vs,by simp[Value.cells],h2⟩
theorem fold_set (cs:Array Value) (vs:List Value) (off:Nat):∀k,off+k+vs.length≤cs.size→
  ((vs.zipIdx k).foldl (fun c (x:Value×Nat)=>c.setIfInBounds (off+x.2) x.1) cs).toList=cs.toList.take (off+k)++vs++cs.toList.drop (off+k+vs.length):=by
 induction vs generalizing cs with
 |nil=>intro k h;simp
 |cons v vs ih=>
  intro k h
  simp only[List.zipIdx_cons,List.foldl_cons]
  have hlt:off+k<cs.size:=by simp at h;omega
  rw[ih _ (k+1) (by simp at h ⊢;omega)]
  have hl:off+k<cs.toList.length:=by simpa using hlt
  simp only[Array.toList_setIfInBounds]
  have e1:(cs.toList.set (off+k) v).take (off+(k+1))=cs.toList.take (off+k)++[v]:=by
   rw[show off+(k+1)=off+k+1 by omega,List.take_succ_eq_append_getElem (by simpa using hl)]
   rw[List.take_set_of_le (Nat.le_refl _)]
   simp
  have e2:(cs.toList.set (off+k) v).drop (off+(k+1)+vs.length)=cs.toList.drop (off+k+(v::vs).length):=by
   rw[List.drop_set_of_lt (by omega)]
   congr 1
   simp;omega
  rw[e1,e2]
  simp
inductive XP (F:Fz) (g:Gh) (d:List Up):List (Nat×AV)→List (Nat×Value)→Prop
 |nil:XP F g d [] []
 |cons {i:Nat} {a:AV} {v:Value} {l:List (Nat×AV)} {vs:List (Nat×Value)} (h:XD F g d a v) (t:XP F g d l vs):XP F g d ((i,a)::l) ((i,v)::vs)
theorem fillX_ok {F:Fz} {d:List Up} {place:Nat→Option (Nat×Nat)} {place':Nat→Option (Nat×Nat)} (hp:∀i x,place i=some x→place' i=some x):
  ∀{ps:List (Nat×AV)} {vs:List (Nat×Value)} {cs:List AV} {us:Array Value} {r:List AV},XP F g d ps vs→RTL F g (cs.map (fadeC d)) us.toList→fillX place cs ps=some r→
  ∃us',Instr.fill place' us vs=some us'∧RTL F g (r.map (fadeC d)) us'.toList
 |[],_,cs,us,r,.nil,h,hf=>by simp[fillX]at hf;subst hf;exact⟨us,rfl,h⟩
 |(i,a)::ps,_,cs,us,r,.cons (v:=v) (vs:=vs) hx ht,h,hf=>by
  simp only[fillX]at hf
  cases hpl:place i with
  |none=>simp[hpl]at hf
  |some x=>
   obtain⟨off,size⟩:=x
   simp only[hpl,oops]at hf
   by_cases hc:(cells a).length≠size∨off+size> cs.length∨known a=false
   ·rw[if_pos hc]at hf;cases hf
   ·rw[if_neg hc]at hf
    have h1:(cells a).length=size:=by
     by_cases h:(cells a).length=size
     ·exact h
     ·exact absurd (.inl h) hc
    have h2:off+size≤cs.length:=by
     by_cases h:off+size> cs.length
     ·exact absurd (.inr (.inl h)) hc
     ·omega
    have h3:known a=true:=by
     cases hk:known a with
     |true=>rfl
     |false=>exact absurd (.inr (.inr hk)) hc
    obtain⟨vv,hv1,hv2⟩:=X_cells hx h3
    have hl1:=RTL_len hv2
    have hl2:=RTL_len h
    have hsz:v.cells.size=size:=by
     have:v.cells.toList.length=vv.length:=by rw[hv1]
     simp at this;omega
    have husz:us.size=cs.length:=by simpa using hl2
    simp only[Instr.fill,hp i _ hpl]
    rw[if_neg (by simp[hsz];omega)]
    refine fillX_ok hp (us:=v.cells.zipIdx.foldl (fun cs (x:Value×Nat)=>cs.setIfInBounds (off+x.2) x.1) us) ht ?_ hf
    have:(v.cells.zipIdx.foldl (fun cs (x:Value×Nat)=>cs.setIfInBounds (off+x.2) x.1) us).toList=us.toList.take off++vv++us.toList.drop (off+size):=by
     have hf:=fold_set us v.cells.toList off 0 (by simp[hsz];omega)
     rw[hv1]at hf
     have e:(v.cells.zipIdx.foldl (fun cs (x:Value×Nat)=>cs.setIfInBounds (off+x.2) x.1) us)=((vv.zipIdx 0).foldl (fun c (x:Value×Nat)=>c.setIfInBounds (off+x.2) x.1) us):=by
      rw[←hv1,←Array.foldl_toList]
      simp
     rw[e,hf]
     simp
     omega
    rw[this]
    exact RTL_append (RTL_append (RTL_take off h) hv2) (RTL_drop (off+size) h)
theorem mapM_places:∀{fields:List Field},(∀f∈fields,(P.info? f.type).isSome=true)→
  fields.mapM (fun f=>(P.info? f.type).map fun i=>(f.offset,i.size))=some (fields.map fun f=>(f.offset,P.cellsOf f.type))
 |[],_=>by simp
 |f::fs,h=>by
  obtain⟨info,hi⟩:=Option.isSome_iff_exists.1 (h f (by simp))
  simp only[List.mapM_cons,hi,Option.map_some,mapM_places (fields:=fs) fun f hf=>h f (by simp[hf]),List.map_cons,Program.cellsOf,Option.getD_some]
  rfl
theorem cvL {F:Fz} {d:List Up}:∀{l:List Value},l.all one=true→RTL F g ((l.map cv1).map (fadeC d)) l
 |[],_=>.nil
 |v::l,h=>by
  simp only[List.all_cons,Bool.and_eq_true]at h
  refine .cons ?_ (cvL h.2)
  unfold cv1
  split<;>first|exact cellT (.int _ _)|exact cellT (.bool _)|exact cellT (.str _)|exact cellT .nilp|exact cellT (.nil _)|exact cellT (.un _ h.1)
theorem oBuild_ok (hT:TOk P cx) (H:RM B (Kd s.d) g R s.h w) {ty:Nat} {ps:List (Nat×AV)} {vs:List (Nat×Value)} {e:Eff} (ha:XP (mkF B g w) g s.d ps vs)
  (he:oBuild cx ty ps=some e):Does P B g s w e (Instr.build ty vs.toArray):=by
 unfold oBuild at he
 cases ht:cx.T ty with
 |none=>simp[ht]at he
 |some i=>
  simp only[ht]at he
  split at he
  ·rename_i fs zs hk hz
   have hi:=hT ty i ht
   obtain⟨fields,hu,rfl⟩:=kind_struct (cx:=cx) hT (t:=ty) (fs:=fs) (by simp[Cx.kind,ht,hk])
   obtain⟨z,hz1,hz2,hz3⟩:=run_zero w hi hz
   split at he
   ·rename_i cs hf
    simp only[Option.some.injEq,pureE]at he;subst he
    have hzc:RTL (mkF B g w) g (zs.map (fadeC s.d)) z.cells.toList:=by
     cases z with
     |agg c=>
      have h3:c.toList.all one=true:=by simpa[Value.cells]using hz3
      simp only[cv,h3,if_true,AV.agg.injEq]at hz2
      rw[hz2];exact cvL h3
     |_=>simp[cv,cv1]at hz2<;>(try (split at hz2<;>cases hz2))
    obtain⟨us,hf1,hf2⟩:=fillX_ok (place':=fun k=>((fields.toList.map fun f=>(f.offset,P.cellsOf f.type)).toArray)[k]?) (by
     intro k x hx
     cases hfk:fields.toList[k]? with
     |none=>simp[hfk]at hx
     |some fl=>simp[hfk]at hx;simp[hfk,hx]) ha hzc hf
    obtain⟨info,d,h1,h2,h3,h4,h5,h6,h7,h8⟩:=mkTy_facts hi
    rw[hu]at h2;cases h2
    have hok:∀f∈fields.toList,(P.info? f.type).isSome=true:=by
     simp only[okDesc,List.all_eq_true]at h8;exact h8
    have hz0:info.zero=some z:=by
     simp only[zeroValue,Sem.run_bind,run_typeInfo w h1,Result.andThen_ok]at hz1
     cases hh:info.zero with
     |none=>rw[hh]at hz1;cases hz1
     |some y=>rw[hh]at hz1;simp at hz1;rw[hz1]
    refine .still H (v:=.agg us) (run_build w ty vs.toArray us ?_) ?_
    ·simp only[Program.built,h1,hu,hz0,mapM_places hok]
     simpa using hf1
    ·rw[show us=us.toList.toArray by simp]
     exact .inr (.c (.agg hf2))
   ·cases he
  ·cases he
theorem cv1F {F:Fz} {v:Value} (h:one v=true):RF F (cv1 v) v:=by
 unfold cv1
 split
 ·exact .int _ _
 ·exact .bool _
 ·exact .str _
 ·exact .nilp
 ·exact .nil _
 ·exact .un _ h
theorem cvX {F:Fz} {d:List Up} {v:Value} (h:v.cells.toList.all one=true):RX1 F g (fade1 d (cv v)) v:=by
 by_cases ha:∃c,v=.agg c
 ·obtain⟨c,rfl⟩:=ha
  have h3:c.toList.all one=true:=by simpa[Value.cells]using h
  simp only[cv,h3,if_true]
  have:=RX1.agg (cvL (F:=F) (g:=g) (d:=d) h3)
  simpa[fade1]using this
 ·have hcv:cv v=cv1 v:=by cases v<;>first|rfl|exact absurd ⟨_,rfl⟩ ha
  have hone:one v=true:=by
   have:v.cells= #[v]:=by cases v<;>first|rfl|exact absurd ⟨_,rfl⟩ ha
   rw[this]at h;simpa using h
  rw[hcv]
  have hf:=cv1F (F:=F) hone
  have hna:nonAgg (cv1 v)=true:=by generalize cv1 v=x at hf;cases hf<;>rfl
  rw[fade1_cell hna];exact .c (cellT hf)
theorem kind_any (hT:TOk P cx) {t:Nat} {k:TyK} (h:cx.kind t=some k):∃d,P.underlying t=some d∧k=mkK P d:=by
 unfold Cx.kind at h
 cases ht:cx.T t with
 |none=>simp[ht]at h
 |some i=>
  simp only[ht,Option.some.injEq]at h
  obtain⟨info,d,h1,h2,h3,h4,h5,_⟩:=mkTy_facts (hT t i ht)
  exact⟨d,h2,by rw[←h,h5]⟩
def keyV:AV→Value
 | .int k n=>.int k n
 | .bool b=>.bool b
 | .str s=>.string s
 |_=>.nilFunc
theorem key_X {d:List Up} {F:Fz} {kd:TyK} {k:AV} {v:Value} (hk:isKey kd k=true) (h:XD F g d k v):v=keyV k:=by
 unfold isKey at hk
 split at hk
 ·exact X_int h
 ·exact X_bool h
 ·exact X_str h
 ·cases hk
theorem key_F {F:Fz} {kd:TyK} {k x:AV} {b:Bool} {v:Value} (he:cellEq kd k x=some b) (h:RF F x v):v=keyV x:=by
 unfold cellEq at he
 split at he
 ·cases h;rfl
 ·cases h;rfl
 ·cases h;rfl
 ·cases he
theorem sameNow_ok {d:TypeDesc} {kd:TyK} {k x:AV} {b:Bool} (hd:kd=mkK P d) (he:cellEq kd k x=some b):Instr.sameNow d (keyV k) (keyV x)=some b:=by
 unfold cellEq at he
 split at he
 ·rename_i k0 k1 n k2 m
  cases d<;>simp[mkK]at hd
  split at he
  ·rename_i hk;cases he;simp[keyV,Instr.sameNow,hk]
  ·cases he
 ·cases d<;>simp[mkK]at hd
  cases he;rfl
 ·cases d<;>simp[mkK]at hd
  cases he;simp[keyV,Instr.sameNow,beq_toListBytes]
 ·cases he
theorem find_ok {F:Fz} {d:TypeDesc} {kd:TyK} {k:AV} (hd:kd=mkK P d):∀{ks vs:List AV} {es:List MapEntry} {i0:Nat} {r:Option AV},ks.length=es.length→vs.length=es.length→
  (∀(i:Nat) x,ks[i]?=some x→∃e:MapEntry,es[i]?=some e∧RF F x e.key)→(∀(i:Nat) x,vs[i]?=some x→∃e:MapEntry,es[i]?=some e∧plainCell x=true∧RF F x e.val)→
  mlook kd ks vs k=some r→
  (match r with
   |some x=>∃i e,es[i]?=some e∧vs[i]?=some x∧Instr.findNow d (keyV k) es i0=some (some (i0+i,e.val))∧RF F x e.val∧plainCell x=true∧e.key=keyV k
   |none=>Instr.findNow d (keyV k) es i0=some none)
 |[],vs,es,i0,r,h1,h2,_,_,h=>by
  cases es with
  |nil=>
   cases vs with
   |nil=>simp[mlook]at h;subst h;rfl
   |cons _ _=>simp at h2
  |cons _ _=>simp at h1
 |x::ks,vs,es,i0,r,h1,h2,hk,hv,h=>by
  cases es with
  |nil=>simp at h1
  |cons e es=>
   cases vs with
   |nil=>simp at h2
   |cons v vs=>
    simp only[mlook]at h
    obtain⟨e',e1,e2⟩:=hk 0 x rfl
    cases e1
    obtain⟨e',f1,f2,f3⟩:=hv 0 v rfl
    cases f1
    cases hc:cellEq kd k x with
    |none=>simp[hc]at h
    |some b=>
     have hkey:=key_F hc e2
     have hs:=sameNow_ok hd hc
     cases b with
     |true=>
      simp only[hc,Option.some.injEq]at h;subst h
      refine⟨0,e,rfl,rfl,?_,f3,f2,?_⟩
      ·simp only[Instr.findNow,hkey,hs];rfl
      ·rw[hkey]
       unfold cellEq at hc
       split at hc
       ·split at hc
        ·rename_i hkk;simp at hc;simp[keyV,hkk,hc]
        ·cases hc
       ·simp at hc;simp[keyV,hc]
       ·rename_i a b
        simp at hc
        rw[ByteArray.toList_eq,ByteArray.toList_eq]at hc
        have:a=b:=by
         cases a;cases b;congr;exact Array.toList_inj.1 hc
        rw[this]
       ·cases hc
     |false=>
      simp only[hc]at h
      have ih:=find_ok hd (i0:=i0+1) (by simpa using h1) (by simpa using h2) (fun i y hy=>by
       obtain⟨e',g1,g2⟩:=hk (i+1) y (by simpa using hy);exact⟨e',by simpa using g1,g2⟩) (fun i y hy=>by
       obtain⟨e',g1,g2⟩:=hv (i+1) y (by simpa using hy);exact⟨e',by simpa using g1,g2⟩) h
      cases r with
      |none=>simp only[Instr.findNow,hkey,hs];exact ih
      |some y=>
       obtain⟨i,e',g1,g2,g3,g4⟩:=ih
       refine⟨i+1,e',by simpa using g1,by simpa using g2,?_,g4⟩
       simp only[Instr.findNow,hkey,hs]
       rw[g3];congr 3;omega
theorem run_checkKey {kt:TypeId} {d:TypeDesc} {kd:TyK} {k:AV} {b:Bool} (hu:P.underlying kt=some d) (hd:kd=mkK P d) (hk:isKey kd k=true) (n:Nat):
  (Instr.checkKey b (n+1) kt (keyV k)).run P w=.ok () w:=by
 unfold isKey at hk
 split at hk
 ·cases d<;>simp[mkK]at hd
  simp[Instr.checkKey,run_underlying' w hu,keyV]
 ·cases d<;>simp[mkK]at hd
  simp[Instr.checkKey,run_underlying' w hu,keyV]
 ·cases d<;>simp[mkK]at hd
  simp[Instr.checkKey,run_underlying' w hu,keyV]
 ·cases hk
theorem oLookup_ok (hT:TOk P cx) (H:RM B (Kd s.d) g R s.h w) {ty:Nat} {a k:AV} {va vk:Value} {ok:Bool} {e:Eff} (ha:XD (mkF B g w) g s.d a va) (hk:XD (mkF B g w) g s.d k vk)
  (he:oLookup cx s ty a k ok=some e):Does P B g s w e (Instr.lookup ty va vk ok):=by
 unfold oLookup at he
 split at he
 ·rename_i kt el r hkt
  split at he
  ·rename_i kd ei ks vs hkd hei hl
   have hu:=kind_map hT hkt
   obtain⟨d,hd1,hd2⟩:=kind_any hT hkd
   obtain⟨n,h1,h2,rfl⟩:=X_mrf ha (okD_of_look hl)
   obtain⟨u,n',es,cl,e1,e2,e3,e4,e5⟩:=node_at H (look_some hl).2
   rw[h1]at e1;cases e1
   have hobj:w.heap[n.b]?=some (.map es cl):=e4
   have hget:(getObj n.b).run P w=.ok (.map es cl) w:=by simp[getObj,Sem.run,hobj]
   have hfind:=fun r h=>find_ok (F:=mkF B g w) (P:=P) (k:=k) hd2 (es:=es.toList) (i0:=0) (r:=r) (by simpa using e5.1) (by simpa using e5.2.1) (fun i x hx=>by
    obtain⟨e,f1,f2⟩:=e5.2.2.1 i x hx;exact⟨e,by simpa using f1,f2⟩) (fun i x hx=>by
    obtain⟨e,f1,f2⟩:=e5.2.2.2 i x hx;exact⟨e,by simpa using f1,f2⟩) h
   split at he
   ·rename_i v hm
    cases hik:isKey kd k with
    |false=>rw[hik]at he;cases he
    |true=>
     rw[hik,cond_true,Option.some.injEq]at he;subst he
     obtain⟨i,en,g1,g2,g3,g4,g5,_⟩:=hfind _ hm
     have hvk:=key_X hik hk
     subst hvk
     have hck:=run_checkKey (P:=P) (w:=w) (b:=es.isEmpty) hd1 hd2 hik 9999
     have hfk:(Instr.findKey kt (keyV k) es.toList).run P w=.ok (some (0+i,en.val)) w:=by
      simp only[Instr.findKey,Sem.run_bind,run_underlying' w hd1,Result.andThen_ok,g3];rfl
     cases ok with
     |true=>
      refine .still H (v:=.tuple #[en.val,.bool true]) ?_ (.inr ?_)
      ·simp only[Instr.lookup,Sem.run_bind,run_underlying' w hu,Result.andThen_ok,hget,hck,hfk,Sem.run_pure];rfl
      ·exact .tup (vs:=[en.val,.bool true]) (.cons (by rw[fade1_cell (by cases v<;>first|rfl|cases g5)];exact .c (cellT g4)) (.cons (.c (cellT (.bool true))) .nil))
     |false=>
      refine .still H (v:=en.val) ?_ (rfX g4)
      simp only[Instr.lookup,Sem.run_bind,run_underlying' w hu,Result.andThen_ok,hget,hck,hfk,Sem.run_pure];rfl
   ·rename_i z hm hz
    cases hik:(isKey kd k&&known z)with
    |false=>rw[hik]at he;cases he
    |true=>
     rw[hik,cond_true,Option.some.injEq]at he;subst he
     simp only[Bool.and_eq_true]at hik
     have hno:=hfind _ hm
     have hvk:=key_X hik.1 hk
     subst hvk
     have hck:=run_checkKey (P:=P) (w:=w) (b:=es.isEmpty) hd1 hd2 hik.1 9999
     have hfk:(Instr.findKey kt (keyV k) es.toList).run P w=.ok none w:=by
      simp only[Instr.findKey,Sem.run_bind,run_underlying' w hd1,Result.andThen_ok,hno];rfl
     obtain⟨zv,z1,z2,z3⟩:=run_zero w (hT el ei hei) hz
     have hzX:RX1 (mkF B g w) g (fade1 s.d z) zv:=by
      rw[z2];exact cvX z3
     cases ok with
     |true=>
      refine .still H (v:=.tuple #[zv,.bool false]) ?_ (.inr ?_)
      ·simp only[Instr.lookup,Sem.run_bind,run_underlying' w hu,Result.andThen_ok,hget,hck,hfk,z1,Sem.run_pure];rfl
      ·exact .tup (vs:=[zv,.bool false]) (.cons hzX (.cons (.c (cellT (.bool false))) .nil))
     |false=>
      refine .still H (v:=zv) ?_ (.inr ?_)
      ·simp only[Instr.lookup,Sem.run_bind,run_underlying' w hu,Result.andThen_ok,hget,hck,hfk,z1,Sem.run_pure];rfl
      ·rw[cond_false,fade_eq1 (by cases z<;>first|rfl|(simp[known]at hik))];exact .c hzX
   ·cases he
  ·cases he
 ·cases he
end Go.Am
end
section
namespace Go.Am
open Go.RowKit
variable {P:Program} {cx:Cx} {B:Base} {K:Nat→Prop} {g g':Gh} {R:Nat→Value} {s:St} {h:Hp} {w w':World}
def Keeps (us:List Up) (g g':Gh):Prop:=∀pl n,us.any (·.hits ⟨pl,false⟩)=false→g pl.r pl.p=some n→g' pl.r pl.p=some n
theorem okD_split {d e:List Up} {pl:Pl} (h:okD (d++e) pl):e.any (·.hits ⟨pl,false⟩)=false:=by
 unfold okD at h;rw[List.any_append,Bool.or_eq_false_iff]at h;exact h.2
theorem freshId_iff {r:Nat} (h:freshId s r=true):hget s.h r=none∧¬Kd s.d r:=by
 unfold freshId at h
 simp only[Bool.and_eq_true,Bool.not_eq_true',Option.isNone_iff_eq_none]at h
 refine⟨h.1,?_⟩
 rintro ⟨pl,len,hm⟩
 have:=List.any_eq_false.1 h.2 _ hm
 simp[isLk]at this
theorem Keeps.new {r:Nat} {n:Nd} (H:RM B K g R h w) (hr:hget h r=none) {us:List Up}:Keeps us g (newG g r n):=by
 intro pl m _ hm
 unfold newG
 rw[if_neg];exact hm
 rintro e
 rw[e,H.void r hr]at hm;cases hm
theorem le_new (H:RM B K g R h w) {r:Nat} {o:Obj} {sz cap:Nat} {wh:Bool}:(mkF B g w).le (mkF B (newG g r ⟨w.heap.size,0,sz,cap,wh⟩) {w with heap:=w.heap.push o}):=by
 have hlt:∀(a:Addr) v,w.cell? a=some v→a.block<w.heap.size:=by
  intro a v hv
  unfold World.cell? at hv
  cases hx:w.heap[a.block]? with
  |none=>rw[hx]at hv;cases hv
  |some x=>exact(Array.getElem?_eq_some_iff.1 hx).1
 refine le_of (fun b o' v hv _=>?_) fun b o' v hv hx=>?_
 ·have:=hlt _ v hv
  unfold World.cell? at hv ⊢
  simp only[Array.getElem?_push,if_neg (show ¬(⟨b,o',none⟩:Addr).block=w.heap.size from by omega)]
  exact hv
 ·obtain⟨s,q,m,hm,hb⟩:=hx
  unfold newG at hm
  by_cases e:s=r
  ·rw[if_pos e]at hm
   cases q with
   |nil=>
    simp at hm;subst hm
    have:=hlt _ v hv
    have e2:=hb.1;simp at e2 this;omega
   |cons _ _=>cases hm
  ·rw[if_neg e]at hm;exact⟨s,q,m,hm,hb⟩
theorem Kd_app {d e:List Up} (q:Nat) (h:Kd d q):Kd (d++e) q:=by
 obtain⟨pl,len,h⟩:=h;exact⟨pl,len,List.mem_append_left _ h⟩
theorem ptrX {F:Fz} {d:List Up} {pl:Pl} {i off:Nat} {n:Nd} {v:Value} (hg:g pl.r pl.p=some n) (hw:n.whole=false) (hv:v=.pointer (some ⟨n.b,n.o+i*n.sz+off,none⟩)):XD F g d (.ptr pl i off) v:=by
 refine cellX ?_ rfl rfl
 subst hv
 by_cases ho:okD d pl
 ·rw[fadeC_ok fun q hq=>by cases hq;exact ho]
  exact .ptr pl i off n hg hw
 ·have:fadeC d (.ptr pl i off)=.un:=by
   unfold fadeC;rw[staleC_ref (pl:=pl) rfl];unfold okD at ho;simp only[Bool.not_eq_false]at ho;simp[ho]
  rw[this];exact .f (.un _ rfl)
theorem rfXX {F:Fz} {d:List Up} {pl:Pl} {sz off len cap:Nat} {n:Nd} {v:Value} (hg:g pl.r pl.p=some n) (hw:n.whole=false) (hsz:n.sz=sz) (h3:off+cap≤n.cap) (h4:len≤cap)
  (hv:v=.slice (some ⟨n.b,n.o+off*n.sz,none⟩) len cap):XD F g d (.rf sz pl off len) v:=by
 refine cellX ?_ rfl rfl
 subst hv
 by_cases ho:okD d pl
 ·rw[fadeC_ok fun q hq=>by cases hq;exact ho,←hsz]
  exact .rf pl off len cap off n hg hw h3 h4 (.inr rfl)
 ·have:fadeC d (.rf sz pl off len)=.un:=by
   unfold fadeC;rw[staleC_ref (pl:=pl) rfl];unfold okD at ho;simp only[Bool.not_eq_false]at ho;simp[ho]
  rw[this];exact .f (.un _ rfl)
theorem mrfX {F:Fz} {d:List Up} {r:Nat} {n:Nd} {v:Value} (hg:g r []=some n) (hw:n.whole=true) (hv:v=.map (some n.b)):XD F g d (.mrf r) v:=by
 refine cellX ?_ rfl rfl
 subst hv
 by_cases ho:okD d ⟨r,[]⟩
 ·rw[fadeC_ok fun q hq=>by cases hq;exact ho]
  exact .mrf r n hg hw
 ·have:fadeC d (.mrf r)=.un:=by
   unfold fadeC;rw[staleC_ref (pl:=⟨r,[]⟩) rfl];unfold okD at ho;simp only[Bool.not_eq_false]at ho;simp[ho]
  rw[this];exact .f (.un _ rfl)
theorem oAlloc_ok (hT:TOk P cx) (H:RM B (Kd s.d) g R s.h w) {d ty:Nat} {e:Eff} (he:oAlloc cx s (some d) ty=some e):Does P B g s w e (Instr.alloc ty true (.tuple #[])):=by
 unfold oAlloc at he
 cases hi:cx.T ty with
 |none=>simp[hi,oops]at he
 |some i=>
  simp only[hi]at he
  cases hz:i.zero with
  |none=>simp[hz,oops]at he
  |some z=>
   simp only[hz]at he
   cases hf:freshId s d with
   |false=>rw[hf]at he;cases he
   |true=>
    rw[hf,cond_true,Option.some.injEq]at he;subst he
    obtain⟨hr,hk⟩:=freshId_iff hf
    obtain⟨zv,z1,z2,z3⟩:=run_zero w (hT ty i hi) hz
    have hcells:RTL (mkF B g w) g ((cells z).map (fadeC [])) zv.cells.toList∧∀(j:Nat) x,(cells z)[j]?=some x→∃u,zv.cells.toList[j]?=some u∧RF (mkF B g w) x u∧isNode x=false∧(∀q len,x≠.lk q len):=by
     by_cases ha:∃c,zv=.agg c
     ·obtain⟨c,rfl⟩:=ha
      have h3:c.toList.all one=true:=by simpa[Value.cells]using z3
      simp only[cv,h3,if_true]at z2
      subst z2
      refine⟨by simpa[cells,Value.cells]using cvL h3,fun j x hx=>?_⟩
      simp only[cells]at hx
      rw[List.getElem?_map]at hx
      cases hc:c.toList[j]? with
      |none=>simp[hc]at hx
      |some u=>
       simp[hc]at hx
       have hu:one u=true:=List.all_eq_true.1 h3 u (List.mem_of_getElem? hc)
       have hf:=cv1F (F:=mkF B g w) hu
       rw[hx]at hf
       exact⟨u,by simpa[Value.cells]using hc,hf,by cases hf<;>rfl,by intro q len e;rw[e]at hf;cases hf⟩
     ·have hcv:cv zv=cv1 zv:=by cases zv<;>first|rfl|exact absurd ⟨_,rfl⟩ ha
      have hvc:zv.cells= #[zv]:=by cases zv<;>first|rfl|exact absurd ⟨_,rfl⟩ ha
      have hone:one zv=true:=by rw[hvc]at z3;simpa using z3
      have hf:=cv1F (F:=mkF B g w) hone
      rw[←hcv,←z2]at hf
      have hna:nonAgg z=true:=by cases hf<;>rfl
      rw[cells_nonAgg hna,hvc]
      refine⟨.cons (cellT hf) .nil,fun j x hx=>?_⟩
      cases j with
      |zero=>simp at hx;subst hx;exact⟨zv,rfl,hf,by cases hf<;>rfl,by intro q len e;rw[e]at hf;cases hf⟩
      |succ j=>simp at hx
    have hlen:zv.cells.size=(cells z).length:=by have:=RTL_len hcells.1;simpa using this
    have hnew:=H.new (r:=d) (c:=.bx z) (cs:=zv.cells) (el:=ty) (sz:=(cells z).length) (cap:=1) hr hk (by omega) (v:=.pointer (some ⟨w.heap.size,0,none⟩))
     ⟨_,rfl,rfl,rfl,rfl,rfl⟩ rfl (by intro _ _ h;cases h) (fun i j x hx=>by
      simp only[step1]at hx
      split at hx
      ·rename_i h0
       obtain⟨u,e1,e2,e3,e4⟩:=hcells.2 j x hx
       exact⟨e3,e4,u,by rw[h0];simpa using e1,e2⟩
      ·cases hx)
    refine⟨.pointer (some ⟨w.heap.size,0,none⟩),_,_,_,?_,hnew.weakK fun q hq=>Kd_app q hq,le_new H,fun pl n hok hn=>Keeps.new H hr pl n (okD_split hok) hn,?_⟩
    ·simp[Instr.alloc,z1,newVar,newRow]
    ·exact ptrX (n:=⟨w.heap.size,0,(cells z).length,1,false⟩) (by simp[newG]) rfl (by simp)
theorem oMakeMap_ok (H:RM B (Kd s.d) g R s.h w) {d ty:Nat} {e:Eff} (he:oMakeMap s (some d)=some e):Does P B g s w e (Instr.makeMap ty none):=by
 unfold oMakeMap at he
 simp only at he
 cases hf:freshId s d with
 |false=>rw[hf]at he;cases he
 |true=>
  rw[hf,cond_true,Option.some.injEq]at he;subst he
  obtain⟨hr,hk⟩:=freshId_iff hf
  have hnew:=H.newMap hr hk
  refine⟨.map (some w.heap.size),_,_,_,?_,hnew.weakK fun q hq=>Kd_app q hq,le_new H,fun pl n hok hn=>Keeps.new H hr pl n (okD_split hok) hn,?_⟩
  ·simp[Instr.makeMap]
  ·exact mrfX (n:=⟨w.heap.size,0,1,0,true⟩) (by simp[newG]) rfl rfl
theorem find_put {F:Fz} {d:TypeDesc} {kd:TyK} {k v:AV} (hd:kd=mkK P d):∀{ks vs:List AV} {es:List MapEntry} {i0:Nat} {r:Option AV},ks.length=es.length→vs.length=es.length→
  (∀(i:Nat) x,ks[i]?=some x→∃e:MapEntry,es[i]?=some e∧RF F x e.key)→
  mlook kd ks vs k=some r→
  (match r with
   |some _=>∃i e,es[i]?=some e∧Instr.findNow d (keyV k) es i0=some (some (i0+i,e.val))∧e.key=keyV k∧mput kd ks vs k v=(ks.set i k,vs.set i v)
   |none=>Instr.findNow d (keyV k) es i0=some none∧mput kd ks vs k v=(ks++[k],vs++[v]))
 |[],vs,es,i0,r,h1,h2,_,h=>by
  cases es with
  |nil=>
   cases vs with
   |nil=>simp[mlook]at h;subst h;exact⟨rfl,rfl⟩
   |cons _ _=>simp at h2
  |cons _ _=>simp at h1
 |x::ks,vs,es,i0,r,h1,h2,hk,h=>by
  cases es with
  |nil=>simp at h1
  |cons e es=>
   cases vs with
   |nil=>simp at h2
   |cons y vs=>
    simp only[mlook]at h
    obtain⟨e',e1,e2⟩:=hk 0 x rfl
    cases e1
    cases hc:cellEq kd k x with
    |none=>simp[hc]at h
    |some b=>
     have hkey:=key_F hc e2
     have hs:=sameNow_ok hd hc
     cases b with
     |true=>
      simp only[hc,Option.some.injEq]at h;subst h
      refine⟨0,e,rfl,?_,?_,by simp[mput,hc]⟩
      ·simp only[Instr.findNow,hkey,hs];rfl
      ·rw[hkey]
       unfold cellEq at hc
       split at hc
       ·split at hc
        ·rename_i hkk;simp at hc;simp[keyV,hkk,hc]
        ·cases hc
       ·simp at hc;simp[keyV,hc]
       ·rename_i a b
        simp at hc
        rw[ByteArray.toList_eq,ByteArray.toList_eq]at hc
        have:a=b:=by
         cases a;cases b;congr;exact Array.toList_inj.1 hc
        rw[this]
       ·cases hc
     |false=>
      simp only[hc]at h
      have ih:=find_put (v:=v) hd (i0:=i0+1) (by simpa using h1) (by simpa using h2) (fun i y hy=>by
       obtain⟨e',g1,g2⟩:=hk (i+1) y (by simpa using hy);exact⟨e',by simpa using g1,g2⟩) h
      cases r with
      |none=>exact⟨by simp only[Instr.findNow,hkey,hs];exact ih.1,by simp[mput,hc,ih.2]⟩
      |some y=>
       obtain⟨i,e',g1,g3,g4,g5⟩:=ih
       refine⟨i+1,e',by simpa using g1,?_,g4,by simp[mput,hc,g5]⟩
       simp only[Instr.findNow,hkey,hs]
       rw[g3];congr 3;omega
theorem keyF {F:Fz} {kd:TyK} {k:AV} (hk:isKey kd k=true):RF F k (keyV k):=by
 unfold isKey at hk
 split at hk
 ·exact .int _ _
 ·exact .bool _
 ·exact .str _
 ·cases hk
theorem plain_X {d:List Up} {F:Fz} {a:AV} {v:Value} (hp:plainCell a=true) (hk:known a=true) (h:XD F g d a v):RF F a v:=by
 have hr:refOf a=none:=by cases a<;>first|rfl|cases hp
 have:=X_plain h (by cases a<;>first|rfl|cases hp) (by cases a<;>first|rfl|cases hp) (by rintro rfl;cases hk) (by intro pl h;rw[hr]at h;cases h)
 cases this with
 |f h=>exact h
 |_=>cases hp
theorem sameBits_key {kd:TyK} {k:AV} (hk:isKey kd k=true) (n:Nat):Instr.sameBits n (keyV k) (keyV k)=true:=by
 unfold isKey at hk
 split at hk
 ·simp[keyV,Instr.sameBits]
 ·simp[keyV,Instr.sameBits]
 ·simp[keyV,Instr.sameBits,beq_toListBytes]
 ·cases hk
theorem oMapUpdate_ok (hT:TOk P cx) (H:RM B (Kd s.d) g R s.h w) {ty:Nat} {a k v:AV} {va vk vv:Value} {e:Eff} (ha:XD (mkF B g w) g s.d a va) (hk:XD (mkF B g w) g s.d k vk) (hv:XD (mkF B g w) g s.d v vv)
  (he:oMapUpdate cx s ty a k v=some e):∃w' g' R',(Instr.mapUpdate ty va vk vv).run P w=.ok () w'∧Lands B g s w e undef w' g' R':=by
 unfold oMapUpdate at he
 split at he
 ·rename_i kt el r hkt
  split at he
  ·rename_i kd ks vs hkd hl
   have hu:=kind_map hT hkt
   obtain⟨d,hd1,hd2⟩:=kind_any hT hkd
   obtain⟨n,h1,h2,rfl⟩:=X_mrf ha (okD_of_look hl)
   have hgp:=(look_some hl).2
   obtain⟨root,hroot,hrt⟩:=getP_some hgp
   simp[getT]at hrt;subst hrt
   obtain⟨n',es,cl,e1,e2,e3,e4,e5⟩:=(H.tree r _ hroot).root
   rw[h1]at e1;cases e1
   have hobj:w.heap[n.b]?=some (.map es cl):=e4
   have hget:(getObj n.b).run P w=.ok (.map es cl) w:=by simp[getObj,Sem.run,hobj]
   have hset:∀o,(setObj n.b o).run P w=.ok () {w with heap:=w.heap.setIfInBounds n.b o}:=by intro o;simp[setObj,Sem.run,hobj]
   split at he
   ·rename_i x hm
    cases hik:(plainCell v&&known v&&isKey kd k)with
    |false=>rw[hik]at he;cases he
    |true=>
     rw[hik,cond_true,Option.some.injEq]at he;subst he
     simp only[Bool.and_eq_true]at hik
     obtain⟨⟨hp,hkn⟩,hik⟩:=hik
     have hvk:=key_X hik hk
     subst hvk
     have hvF:=plain_X hp hkn hv
     have hck:=run_checkKey (P:=P) (w:=w) (b:=false) hd1 hd2 hik 9999
     have hfind:=find_put (F:=mkF B g w) (P:=P) (k:=k) (v:=v) hd2 (es:=es.toList) (i0:=0) (by simpa using e5.1) (by simpa using e5.2.1) (fun i x hx=>by
      obtain⟨e,f1,f2⟩:=e5.2.2.1 i x hx;exact⟨e,by simpa using f1,f2⟩) hm
     have fin:∀es' cl' ks' vs',(Instr.mapUpdate ty (.map (some n.b)) (keyV k) vv).run P w=.ok () {w with heap:=w.heap.setIfInBounds n.b (.map es' cl')}→mput kd ks vs k v=(ks',vs')→
       mapOk (mkF B g w) ks' vs' es'→∃w' g' R',(Instr.mapUpdate ty (.map (some n.b)) (keyV k) vv).run P w=.ok () w'∧
       Lands B g s w {val:=.tup [],rd:=[⟨⟨r,[]⟩,true⟩],up:=[.inn ⟨r,[]⟩ (.mp (mput kd ks vs k v).1 (mput kd ks vs k v).2)]} undef w' g' R':=by
      intro es' cl' ks' vs' hrun hput hok
      have hms:=H.mapSet (cl':=cl') hroot h1 hok
      refine⟨_,g,R,hrun,?_,?_,fun pl m _ hm=>hm,?_⟩
      ·refine(hms.congr fun q=>?_).weakK fun q hq=>Kd_app q hq
       simp only[Up.apps,Up.app,hroot,setT,hput]
      ·refine le_of (fun b o y hy _=>?_) fun b o y _ hx=>hx
       rw[←hy]
       unfold World.cell?
       by_cases eb:b=n.b
       ·have hlt:=(Array.getElem?_eq_some_iff.1 hobj).1
        have e1:(w.heap.setIfInBounds n.b (Obj.map es' cl'))[n.b]?=some (.map es' cl'):=by simp[hlt]
        simp only[eb,e1,hobj]
       ·simp only[Array.getElem?_setIfInBounds_ne (show n.b≠(⟨b,o,none⟩:Addr).block from fun h=>eb h.symm)]
      ·exact .inr (.tup (vs:=[]) .nil)
     have hRk:RF (mkF B g w) k (keyV k):=keyF hik
     cases x with
     |some y=>
      obtain⟨i,en,g1,g3,g4,g5⟩:=hfind
      have hi:i<es.size:=by have:=(List.getElem?_eq_some_iff.1 g1).1;simpa using this
      have hen:es[i]?=some en:=by simpa using g1
      have hfk:(Instr.findKey kt (keyV k) es.toList).run P w=.ok (some (i,en.val)) w:=by
       simp only[Instr.findKey,Sem.run_bind,run_underlying' w hd1,Result.andThen_ok,g3,Nat.zero_add];rfl
      have hks:(Instr.keyThatStays (((es[i]?).map (·.key)).getD (keyV k)) (keyV k)).run P w=.ok (keyV k) w:=by
       simp[Instr.keyThatStays,hen,g4,sameBits_key hik]
      refine fin (es.modify i fun e=>{e with key:=keyV k,val:=vv}) cl _ _ ?_ g5 ⟨by simpa using e5.1,by simpa using e5.2.1,fun j x hx=>?_,fun j x hx=>?_⟩
      ·simp only[Instr.mapUpdate,Sem.run_bind,run_underlying' w hu,Result.andThen_ok,hget,hck,hfk,hks,hset]
      ·rw[List.getElem?_set]at hx
       by_cases hij:i=j
       ·subst hij
        rw[if_pos rfl]at hx
        split at hx
        ·cases hx;exact⟨{en with key:=keyV k,val:=vv},by rw[Array.getElem?_modify,if_pos rfl,hen];rfl,hRk⟩
        ·cases hx
       ·rw[if_neg hij]at hx
        obtain⟨e,f1,f2⟩:=e5.2.2.1 j x hx
        exact⟨e,by rw[Array.getElem?_modify,if_neg hij];exact f1,f2⟩
      ·rw[List.getElem?_set]at hx
       by_cases hij:i=j
       ·subst hij
        rw[if_pos rfl]at hx
        split at hx
        ·cases hx;exact⟨{en with key:=keyV k,val:=vv},by rw[Array.getElem?_modify,if_pos rfl,hen];rfl,hp,hvF⟩
        ·cases hx
       ·rw[if_neg hij]at hx
        obtain⟨e,f1,f2,f3⟩:=e5.2.2.2 j x hx
        exact⟨e,by rw[Array.getElem?_modify,if_neg hij];exact f1,f2,f3⟩
     |none=>
      obtain⟨g3,g5⟩:=hfind
      have hfk:(Instr.findKey kt (keyV k) es.toList).run P w=.ok none w:=by
       simp only[Instr.findKey,Sem.run_bind,run_underlying' w hd1,Result.andThen_ok,g3];rfl
      refine fin (es.push {key:=keyV k,val:=vv,born:=cl}) (cl+1) _ _ ?_ g5 ⟨by simp[e5.1],by simp[e5.2.1],fun j x hx=>?_,fun j x hx=>?_⟩
      ·simp only[Instr.mapUpdate,Sem.run_bind,run_underlying' w hu,Result.andThen_ok,hget,hck,hfk,hset]
      ·rw[List.getElem?_append]at hx
       split at hx
       ·obtain⟨e,f1,f2⟩:=e5.2.2.1 j x hx
        have:=(Array.getElem?_eq_some_iff.1 f1).1
        exact⟨e,by rw[Array.getElem?_push,if_neg (by omega)];exact f1,f2⟩
       ·rename_i hj
        have hj0:j - ks.length=0:=by
         have:=(List.getElem?_eq_some_iff.1 hx).1;simp at this;omega
        rw[hj0]at hx;simp at hx;subst hx
        have:j=es.size:=by have:=e5.1;omega
        exact⟨{key:=keyV k,val:=vv,born:=cl},by rw[this];simp,hRk⟩
      ·rw[List.getElem?_append]at hx
       split at hx
       ·obtain⟨e,f1,f2,f3⟩:=e5.2.2.2 j x hx
        have:=(Array.getElem?_eq_some_iff.1 f1).1
        exact⟨e,by rw[Array.getElem?_push,if_neg (by omega)];exact f1,f2,f3⟩
       ·rename_i hj
        have hj0:j - vs.length=0:=by
         have:=(List.getElem?_eq_some_iff.1 hx).1;simp at this;omega
        rw[hj0]at hx;simp at hx;subst hx
        have:j=es.size:=by have:=e5.2.1;omega
        exact⟨{key:=keyV k,val:=vv,born:=cl},by rw[this];simp,hp,hvF⟩
   ·cases he
  ·cases he
 ·cases he
end Go.Am
end
section
namespace Go.Am
open Go.RowKit
variable {P:Program} {cx:Cx} {B:Base} {K:Nat→Prop} {g g':Gh} {R:Nat→Value} {s:St} {h h':Hp} {w w':World}
theorem hget_le:∀{h:Hp} {r:Nat} {a:AV},hget h r=some a→r≤h.foldr (fun x n=>x.1+n) 0
 |(k,x)::h,r,a,hr=>by
  simp only[hget]at hr
  by_cases e:r=k
  ·subst e;simp only[List.foldr_cons];omega
  ·rw[nbF e,cond_false]at hr
   have:=hget_le hr
   simp only[List.foldr_cons];omega
def lkNo:Up→Nat
 | .set _ (.lk q _)=>q
 |_=>0
theorem Kd_le:∀{d:List Up} {q:Nat},Kd d q→q≤d.foldr (fun u n=>lkNo u+n) 0
 |[],q,⟨_,_,hm⟩=>by cases hm
 |u::d,q,⟨pl,len,hm⟩=>by
  simp only[List.foldr_cons]
  rcases List.mem_cons.1 hm with rfl|hm
  ·simp only[lkNo];omega
  ·have:=Kd_le (d:=d) ⟨pl,len,hm⟩;omega
theorem free_no (h:Hp) (d:List Up):∃N,hget h N=none∧¬Kd d N:=by
 refine⟨h.foldr (fun x n=>x.1+n) 0+d.foldr (fun u n=>lkNo u+n) 0+1,?_,fun hk=>?_⟩
 ·cases hx:hget h _ with
  |none=>rfl
  |some a=>have:=hget_le hx;omega
 ·have:=Kd_le hk;omega
theorem pre_apart {p q:List (Nat×Nat)} (h1:pre p q=false) (h2:pre q p=false):∃u s s' p' q',s'≠s∧p=u++s::p'∧q=u++s'::q':=by
 rcases paths p q with⟨r,hr⟩|⟨s,r,hr⟩|h
 ·rw[pre_iff.2 ⟨r,hr⟩]at h1;cases h1
 ·rw[pre_iff.2 ⟨_,hr⟩]at h2;cases h2
 ·exact h
def Pl.apart (a b:Pl):Prop:=a.pre b=false∧b.pre a=false
theorem Pl.apart_iff {a b:Pl} (h:a.apart b):a.r≠b.r∨(a.r=b.r∧Am.pre a.p b.p=false∧Am.pre b.p a.p=false):=by
 by_cases e:a.r=b.r
 ·refine .inr ⟨e,?_,?_⟩
  ·have:=h.1;simp only[Pl.pre,e,nbT,Bool.true_and]at this;exact this
  ·have:=h.2;simp only[Pl.pre,e,nbT,Bool.true_and]at this;exact this
 ·exact .inl e
theorem le_trans' {g1 g2 g3:Gh} {w1 w2 w3:World} (h1:(mkF B g1 w1).le (mkF B g2 w2)) (h2:(mkF B g2 w2).le (mkF B g3 w3)):(mkF B g1 w1).le (mkF B g3 w3):=by
 refine⟨fun b o v hm hn=>h2.m b o v (h1.m b o v hm hn) (h1.N b o v hm hn),fun b o v hm hn=>h2.N b o v (h1.m b o v hm hn) (h1.N b o v hm hn),fun b o v hm hn=>?_,h1.sub⟩
 have hn':¬(mkF B g1 w1).N b o:=fun hx=>hn (h1.sub b o hx)
 exact h2.N0 b o v (h1.m b o v hm hn') (h1.N0 b o v hm hn)
theorem le_sub {g1 g2:Gh} (h:∀b o,owned g2 b o→owned g1 b o):(mkF B g1 w).le (mkF B g2 w):=le_of (fun _ _ _ hv _=>hv) fun b o _ _ hx=>h b o hx
theorem hits_gone {src pl:Pl}:(gone src).hits ⟨pl,false⟩=false→src.pre pl=false:=by
 intro hh
 unfold gone at hh
 by_cases e:src.p.isEmpty=true
 ·rw[if_pos e]at hh
  simp only[Up.hits]at hh
  simp only[Pl.pre,hh,Bool.false_and]
 ·rw[if_neg e]at hh
  simpa[Up.hits]using hh
theorem app_gone_cell {src:Pl} {p:List (Nat×Nat)} {i j:Nat} {a:AV} (hp:src.p=p++[(i,j)]) (ha:hget h src.r=some a):Up.app h (gone src)=hins h src.r (setT a src.p .un):=by
 have:src.p.isEmpty=false:=by rw[hp];simp
 simp only[gone,this,Bool.false_eq_true,if_false,Up.app,ha]
theorem app_gone_root {src:Pl} (hp:src.p=[]):Up.app h (gone src)=hdel h src.r:=by
 simp[gone,hp,Up.app]
theorem RM.take1 (H:RM B K g R h w) {src:Pl} {c:AV} {N:Nat} {n:Nd} (hc:getP h src=some c) (hnode:isNode c=true) (hn:g src.r src.p=some n) (hN:hget h N=none) (hK:¬K N):
  ∃g1 R1,RM B K g1 R1 (hins (Up.app h (gone src)) N c) w∧LF (mkF B g1 w) (obj w) g1 c (g1 N []) (R1 N)∧hget (Up.app h (gone src)) N=none∧g1 N []=some n∧
   (∀b o,owned g1 b o→owned g b o)∧(∀pl m,pl.r≠N→src.pre pl=false→g pl.r pl.p=some m→g1 pl.r pl.p=some m):=by
 obtain⟨a,ha,hp⟩:=getP_some hc
 have hrN:src.r≠N:=by rintro e;rw[e,hN]at ha;cases ha
 rcases List.eq_nil_or_concat src.p with e|⟨p,⟨i,j⟩,e⟩
 ·rw[e]at hp hn
  simp[getT]at hp;subst hp
  have hr:=H.rename ha hN hK
  rw[app_gone_root e]
  have hN1:hget (hins (hdel h src.r) N a) N=some a:=by rw[hget_hins,if_pos rfl]
  refine⟨_,_,hr,(hr.tree N a hN1).root,by rw[hget_hdel,if_neg (fun e=>hrN e.symm)];exact hN,by simp[renG,hn],?_,?_⟩
  ·rintro b o ⟨k,q,m,hm,hb⟩
   unfold renG at hm
   by_cases e1:k=N
   ·rw[if_pos e1]at hm;exact⟨_,_,_,hm,hb⟩
   ·rw[if_neg e1]at hm
    by_cases e2:k=src.r
    ·rw[if_pos e2]at hm;cases hm
    ·rw[if_neg e2]at hm;exact⟨_,_,_,hm,hb⟩
  ·intro pl m h1 h2 h3
   have:pl.r≠src.r:=by
    intro e2
    simp[Pl.pre,e,e2,pre]at h2
   simp only[renG,if_neg h1,if_neg this];exact h3
 ·rw[List.concat_eq_append]at e
  rw[e]at hp
  obtain⟨n',u,h1,h2,h3,hr⟩:=H.detach (s:=N) ha hp hN hK
  rw[app_gone_cell e ha,e]
  have hN1:hget (hins (hins h src.r (setT a (p++[(i,j)]) .un)) N c) N=some c:=by rw[hget_hins,if_pos rfl]
  refine⟨_,_,hr,(hr.tree N c hN1).root,by rw[hget_hins,if_neg (fun e=>hrN e.symm)];exact hN,by simp only[detG,if_true,List.append_nil];rw[←e];exact hn,?_,?_⟩
  ·rintro b o ⟨k,q,m,hm,hb⟩
   unfold detG at hm
   by_cases e1:k=N
   ·rw[if_pos e1]at hm;exact⟨_,_,_,hm,hb⟩
   ·rw[if_neg e1]at hm;exact⟨_,_,_,(cutG_some hm).1,hb⟩
  ·intro pl m g1 g2 g3
   simp only[detG,if_neg g1]
   rw[cutG_eq];exact g3
   rintro ⟨e1,e2⟩
   simp only[Pl.pre,e1,nbT,Bool.true_and,e,e2]at g2;cases g2
theorem RM.takeOut (H:RM B K g R h w) {a:AV} {v:Value} {x:AV} {rs:List Rd} {u:Up} {N:Nat} (hal:s.alias=false) (hb:absorb1 s a=some (x,rs,[u])) (hv:XD (mkF B g w) g s.d a v)
  (hh:∀pl c,look s true pl=some c→u=gone pl→getP h pl=some c) (hN:hget h N=none) (hK:¬K N):
  ∃src g1 R1,u=gone src∧RM B K g1 R1 (hins (Up.app h u) N x) w∧R1 N=v∧hget (Up.app h u) N=none∧isNode x=true∧
   (∀b o,owned g1 b o→owned g b o)∧(∀pl m,pl.r≠N→src.pre pl=false→g pl.r pl.p=some m→g1 pl.r pl.p=some m):=by
 cases a with
 |rf sz pl off len=>
  simp only[absorb1,hal,Bool.false_eq_true,if_false]at hb
  cases hl:look s true pl with
  |none=>simp[hl,oops]at hb
  |some c=>
   simp only[hl]at hb
   cases c with
   |ow sz' es=>
    simp only[oops]at hb
    split at hb
    ·rename_i hc
     obtain⟨rfl,hc2⟩:=hc
     simp only[Option.some.injEq,Prod.mk.injEq,List.cons.injEq,and_true]at hb
     obtain⟨rfl,rfl,rfl⟩:=hb
     obtain⟨cap,k,n,f1,f2,f3,f4,f5,f6,rfl⟩:=X_rf hv (okD_of_look hl)
     obtain⟨g1,R1,r1,r2,r3,r4,r5,r6⟩:=H.take1 (hh pl _ hl rfl) rfl f1 hN hK
     have hcut:=r1.cut (r:=N) (off:=off) (len:=len) (k:=k) (cap:=cap) (by rw[hget_hins,if_pos rfl]) r4 hK hc2 f4 f5 f6
     refine⟨pl,_,_,rfl,hcut.congr fun q=>?_,by simp[setR],r3,rfl,?_,?_⟩
     ·rw[hget_hins,hget_hins,hget_hins]
      by_cases e:q=N<;>simp[e]
     ·rintro b o ⟨q,p,m,hm,hb⟩
      unfold cutRG at hm
      by_cases e:q=N
      ·rw[if_pos e]at hm
       cases p with
       |nil=>rw[r4]at hm;simp at hm;subst hm;exact r5 b o ⟨N,[],n,r4,cutN_has f4 hb⟩
       |cons ij p=>
        obtain⟨i,j⟩:=ij
        simp only at hm
        split at hm
        ·exact r5 b o ⟨_,_,_,hm,hb⟩
        ·cases hm
      ·rw[if_neg e]at hm;exact r5 b o ⟨_,_,_,hm,hb⟩
     ·intro q m h1 h2 h3
      simp only[cutRG,if_neg h1];exact r6 q m h1 h2 h3
    ·cases hb
   |_=>cases hb
 |ptr pl i off=>
  simp only[absorb1,hal,Bool.false_eq_true,if_false,oops]at hb
  split at hb
  ·rename_i h0
   obtain⟨rfl,rfl⟩:=h0
   cases hl:look s true pl with
   |none=>simp[hl]at hb
   |some c=>
    simp only[hl]at hb
    cases c with
    |bx e=>
     simp only[Option.some.injEq,Prod.mk.injEq,List.cons.injEq,and_true]at hb
     obtain⟨rfl,rfl,rfl⟩:=hb
     obtain⟨n,f1,f2,rfl⟩:=X_ptr hv (okD_of_look hl)
     obtain⟨g1,R1,r1,r2,r3,r4,r5,r6⟩:=H.take1 (hh pl _ hl rfl) rfl f1 hN hK
     obtain⟨n',e1,e2,e3,e4,e5⟩:=r2
     rw[r4]at e1;cases e1
     exact⟨pl,g1,R1,rfl,r1,by simpa using e5,r3,rfl,r5,r6⟩
    |_=>cases hb
  ·cases hb
 |mrf _=>simp[absorb1,oops]at hb
 |agg _=>simp[absorb1,oops]at hb
 |tup _=>simp[absorb1,oops]at hb
 |_=>simp[absorb1]at hb
end Go.Am
end
section
namespace Go.Am
open Go.RowKit
variable {P:Program} {cx:Cx} {B:Base} {K:Nat→Prop} {g g':Gh} {R:Nat→Value} {s:St} {h h':Hp} {w w':World}
theorem pre_trans {p q r:List (Nat×Nat)} (h1:pre p q=true) (h2:pre q r=true):pre p r=true:=by
 obtain⟨a,rfl⟩:=pre_iff.1 h1
 obtain⟨b,rfl⟩:=pre_iff.1 h2
 exact pre_iff.2 ⟨a++b,by rw[List.append_assoc]⟩
theorem Pl.pre_trans {a b c:Pl} (h1:a.pre b=true) (h2:b.pre c=true):a.pre c=true:=by
 simp only[Pl.pre,Bool.and_eq_true]at *
 exact⟨by have e1:=h1.1;have e2:=h2.1;simp at e1 e2 ⊢;rw[e1,e2],Am.pre_trans h1.2 h2.2⟩
theorem Pl.pre_self (a:Pl):a.pre a=true:=by simp[Pl.pre,pre_refl]
theorem pre_cell (a:Pl) (i j:Nat):a.pre (a.cell i j)=true:=by
 simp only[Pl.pre,Pl.cell,nbT,Bool.true_and];exact pre_iff.2 ⟨[(i,j)],rfl⟩
theorem getP_hins_ne {r:Nat} {a:AV} {pl:Pl} (h1:pl.r≠r):getP (hins h r a) pl=getP h pl:=by unfold getP;rw[hget_hins,if_neg h1]
theorem getP_hdel_ne {r:Nat} {pl:Pl} (h1:pl.r≠r):getP (hdel h r) pl=getP h pl:=by unfold getP;rw[hget_hdel,if_neg h1]
theorem getP_set {q pl:Pl} {a old c:AV} (ha:hget h q.r=some a) (hold:getT a q.p=some old) (hc:nonAgg c=true) (hap:q.apart pl):getP (hins h q.r (setT a q.p c)) pl=getP h pl:=by
 rcases Pl.apart_iff hap with h1|⟨h1,h2,h3⟩
 ·exact getP_hins_ne (fun e=>h1 e.symm)
 ·obtain⟨u,x,x',p',q',hne,e1,e2⟩:=pre_apart h2 h3
  unfold getP
  rw[←h1,hget_hins,if_pos rfl,ha]
  simp only[Option.bind_some]
  rw[e1]at hold
  rw[e1,e2,getT_setT_apart hold hc hne]
theorem getP_gone {src pl:Pl} {c:AV} (hc:getP h src=some c) (hap:src.apart pl):getP (Up.app h (gone src)) pl=getP h pl:=by
 obtain⟨a,ha,hp⟩:=getP_some hc
 by_cases e:src.p=[]
 ·rw[app_gone_root e]
  refine getP_hdel_ne ?_
  rcases Pl.apart_iff hap with h1|⟨h1,h2,h3⟩
  ·exact fun e=>h1 e.symm
  ·rw[e]at h2;simp[pre]at h2
 ·have:src.p.isEmpty=false:=by cases hh:src.p with|nil=>exact absurd hh e|cons _ _=>rfl
  have e2:Up.app h (gone src)=hins h src.r (setT a src.p .un):=by simp only[gone,this,Bool.false_eq_true,if_false,Up.app,ha]
  rw[e2]
  exact getP_set ha hp rfl hap
structure Mv where
 a:AV
 v:Value
 x:AV
 u:Up
 src:Pl
 par:Pl
 i:Nat
 j:Nat
 f:Bool
def wr (f:Bool) (q:Pl) (x:AV):Up:=if f then .fill q x else .set q x
theorem wr_pl {f:Bool} {q:Pl} {x:AV}:(wr f q x).pl=q:=by cases f<;>rfl
theorem wr_app {f:Bool} {q:Pl} {x:AV} {h:Hp}:Up.app h (wr f q x)=Up.app h (.set q x):=by cases f<;>rfl
def Mv.q (m:Mv):Pl:=m.par.cell m.i m.j
def Mv.ups (m:Mv):List Up:=[m.u,wr m.f m.q m.x]
structure Mv.ok (m:Mv) (s:St) (B:Base) (g:Gh) (h:Hp) (w:World):Prop where
 ab:∃rs,absorb1 s m.a=some (m.x,rs,[m.u])
 rt:RT (mkF B g w) g m.a m.v
 ref:refOf m.a=some m.src
 okd:okD s.d m.src
 gone:m.u=gone m.src
 get:∃c,look s true m.src=some c∧getP h m.src=some c
 dst:∃old n,getP h m.q=some old∧g m.par.r m.par.p=some n∧w.cell? ⟨n.b,n.o+m.i*n.sz+m.j,none⟩=some m.v
theorem gone_pl {src:Pl}:(gone src).pl=src:=by
 unfold gone
 by_cases e:src.p.isEmpty=true
 ·rw[if_pos e]
  have:src.p=[]:=by simpa using e
  cases src;simp at this;simp[Up.pl,this]
 ·rw[if_neg e];rfl
theorem meets_apart {a b:Up} (h:a.meets b=false):a.pl.apart b.pl:=by
 unfold Up.meets at h
 rw[Bool.or_eq_false_iff]at h
 exact h
theorem apartUps_cons {u:Up} {us:List Up} (h:apartUps (u::us)=true):(∀v∈us,u.pl.apart v.pl)∧apartUps us=true:=by
 simp only[apartUps,Bool.and_eq_true,List.all_eq_true,Bool.not_eq_true']at h
 exact⟨fun v hv=>meets_apart (h.1 v hv),h.2⟩
theorem Pl.apart_symm {a b:Pl} (h:a.apart b):b.apart a:=⟨h.2,h.1⟩
theorem Up.apps_append:∀(us vs:List Up) (h:Hp),Up.apps (us++vs) h=Up.apps vs (Up.apps us h)
 |[],_,_=>rfl
 |u::us,vs,h=>by simp only[List.cons_append,Up.apps];exact Up.apps_append us vs _
def Keep2 (us:List Up) (g g':Gh):Prop:=∀pl n,(∀u∈us,u.pl.pre pl=false)→g pl.r pl.p=some n→g' pl.r pl.p=some n
theorem moves_ok (hal:s.alias=false) (hfree:∀h,∃N,hget h N=none∧¬K N):∀{ms:List Mv} {g:Gh} {R:Nat→Value} {h:Hp},RM B K g R h w→(∀m∈ms,m.ok s B g h w)→apartUps (ms.flatMap Mv.ups)=true→
  ∃g' R',RM B K g' R' (Up.apps (ms.flatMap Mv.ups) h) w∧(∀b o,owned g' b o→owned g b o)∧Keep2 (ms.flatMap Mv.ups) g g'
 |[],g,R,h,H,_,_=>⟨g,R,H,fun _ _ hx=>hx,fun _ _ _ hx=>hx⟩
 |m::ms,g,R,h,H,hm,hap=>by
  have mo:=hm m (by simp)
  obtain⟨rs,hab⟩:=mo.ab
  obtain⟨c0,hl0,hg0⟩:=mo.get
  simp only[List.flatMap_cons,Mv.ups,List.cons_append,List.nil_append]at hap
  obtain⟨a1,hap⟩:=apartUps_cons hap
  obtain⟨a2,hap⟩:=apartUps_cons hap
  have hsq:m.src.apart m.q:=by have:=a1 (wr m.f m.q m.x) (by simp);rw[mo.gone,gone_pl,wr_pl]at this;exact this
  obtain⟨N,hN,hKN⟩:=hfree h
  have hX:XD (mkF B g w) g s.d m.a m.v:=by
   have hna:nonAgg m.a=true∧nonTup m.a=true:=by have:=mo.ref;cases hma:m.a<;>rw[hma]at this<;>first|exact⟨rfl,rfl⟩|cases this
   refine cellX ?_ hna.1 hna.2
   rw[fadeC_ok fun pl hp=>by rw[mo.ref]at hp;cases hp;exact mo.okd];exact mo.rt
  obtain⟨src,g1,R1,e1,r1,r2,r3,r4,r5,r6⟩:=H.takeOut hal hab hX (fun pl c hl hu=>by
   have:pl=m.src:=by
    have h1:=congrArg Up.pl hu
    rw[mo.gone,gone_pl,gone_pl]at h1;exact h1.symm
   rw[this]at hl ⊢;rw[hl0]at hl;cases hl;exact hg0) hN hKN
  have hsrc:src=m.src:=by
   have h1:=congrArg Up.pl e1
   rw[mo.gone,gone_pl,gone_pl]at h1;exact h1.symm
  subst hsrc
  obtain⟨old,n,d1,d2,d3⟩:=mo.dst
  have hqN:m.q.r≠N:=by
   obtain⟨a,ha,_⟩:=getP_some d1
   rintro e;rw[e,hN]at ha;cases ha
  have d1':getP (hins (Up.app h m.u) N m.x) m.q=some old:=by
   rw[getP_hins_ne hqN,mo.gone,getP_gone hg0 hsq];exact d1
  obtain⟨a,ha,hp⟩:=getP_some d1'
  have hpp:m.q.p=m.par.p++[(m.i,m.j)]:=rfl
  have hpr:m.q.r=m.par.r:=rfl
  have hsp:m.src.pre m.par=false:=by
   cases hb:m.src.pre m.par with
   |false=>rfl
   |true=>have:=Pl.pre_trans hb (pre_cell m.par m.i m.j);rw[show m.par.cell m.i m.j=m.q from rfl,hsq.1]at this;cases this
  have hn1:=r6 m.par n (by rw[←hpr];exact hqN) hsp d2
  rw[hpp]at hp
  have hatt:=r1.attach (r:=m.q.r) (s:=N) (i:=m.i) (j:=m.j) ha hp (by rw[hget_hins,if_pos rfl]) (fun e=>hqN e.symm) (nonAgg_of_node r4) hn1 (by rw[r2];exact d3)
  have hcur:RM B K (attG g1 m.q.r (m.par.p++[(m.i,m.j)]) N) R1 (Up.apps m.ups h) w:=by
   refine hatt.congr fun q=>?_
   have haa:hget (Up.app h m.u) m.q.r=some a:=by rw[hget_hins,if_neg hqN]at ha;exact ha
   have hset:Up.app (Up.app h m.u) (.set m.q m.x)=hins (Up.app h m.u) m.q.r (setT a m.q.p m.x):=by
    have:=haa
    generalize Up.app h m.u=h0 at this ⊢
    simp only[Up.app,this]
   simp only[Mv.ups,Up.apps]
   rw[wr_app,hset,hget_hins,hget_hdel,hget_hins,hget_hins]
   by_cases eN:q=N
   ·subst eN;rw[if_neg (fun e=>hqN e.symm),if_pos rfl];exact r3
   ·by_cases eq:q=m.q.r
    ·subst eq;rw[if_pos rfl,if_neg eN,if_pos rfl];rfl
    ·rw[if_neg eq,if_neg eN,if_neg eq,if_neg eN]
  have hownsub:∀b o,owned (attG g1 m.q.r (m.par.p++[(m.i,m.j)]) N) b o→owned g b o:=by
   rintro b o ⟨r',q,k,hk,hb⟩
   refine r5 b o ?_
   unfold attG at hk
   by_cases e:r'=N
   ·rw[if_pos e]at hk;cases hk
   ·rw[if_neg e]at hk
    by_cases e2:r'=m.q.r∧pre (m.par.p++[(m.i,m.j)]) q=true
    ·rw[if_pos e2]at hk;exact⟨_,_,_,hk,hb⟩
    ·rw[if_neg e2]at hk;exact⟨_,_,_,hk,hb⟩
  have hkeep:∀pl k,m.src.pre pl=false→m.q.pre pl=false→g pl.r pl.p=some k→attG g1 m.q.r (m.par.p++[(m.i,m.j)]) N pl.r pl.p=some k:=by
   intro pl k h1 h2 h3
   have hpN:pl.r≠N:=by rintro e;rw[e,H.void N hN]at h3;cases h3
   have:=r6 pl k hpN h1 h3
   simp only[attG,if_neg hpN]
   rw[if_neg];exact this
   rintro ⟨e,e2⟩
   simp only[Pl.pre,e,nbT,Bool.true_and]at h2
   rw[hpp,e2]at h2;cases h2
  have hleq:(mkF B g w).le (mkF B (attG g1 m.q.r (m.par.p++[(m.i,m.j)]) N) w):=le_sub hownsub
  have hq:∀m'∈ms,m.src.apart m'.src∧m.src.apart m'.q∧m.q.apart m'.src∧m.q.apart m'.q:=by
   intro m' hm'
   have i1:m'.u∈ms.flatMap Mv.ups:=List.mem_flatMap.2 ⟨m',hm',by simp[Mv.ups]⟩
   have i2:wr m'.f m'.q m'.x∈ms.flatMap Mv.ups:=List.mem_flatMap.2 ⟨m',hm',by simp[Mv.ups]⟩
   have mo':=hm m' (by simp[hm'])
   have b1:=a1 m'.u (by simp;exact .inr (by simpa using i1))
   have b2:=a1 (wr m'.f m'.q m'.x) (by simp;exact .inr (by simpa using i2))
   have b3:=a2 m'.u i1
   have b4:=a2 (wr m'.f m'.q m'.x) i2
   rw[mo.gone,gone_pl,mo'.gone,gone_pl]at b1
   rw[mo.gone,gone_pl,wr_pl]at b2
   rw[wr_pl,mo'.gone,gone_pl]at b3
   rw[wr_pl,wr_pl]at b4
   exact⟨b1,b2,b3,b4⟩
  have getcur:∀pl,m.src.apart pl→m.q.apart pl→getP (Up.apps m.ups h) pl=getP h pl:=by
   intro pl h1 h2
   have haa:hget (Up.app h m.u) m.q.r=some a:=by rw[hget_hins,if_neg hqN]at ha;exact ha
   simp only[Mv.ups,Up.apps]
   rw[wr_app,show Up.app (Up.app h m.u) (.set m.q m.x)=hins (Up.app h m.u) m.q.r (setT a m.q.p m.x)from by
    have:=haa
    generalize Up.app h m.u=h0 at this ⊢
    simp only[Up.app,this],getP_set haa (by rw[hpp];exact hp) (nonAgg_of_node r4) h2,mo.gone,getP_gone hg0 h1]
  obtain⟨g',R',f1,f2,f3⟩:=moves_ok hal hfree (ms:=ms) hcur (fun m' hm'=>by
   have mo':=hm m' (by simp[hm'])
   obtain⟨q1,q2,q3,q4⟩:=hq m' hm'
   refine⟨mo'.ab,mo'.rt.mono hleq fun pl k hp hk=>?_,mo'.ref,mo'.okd,mo'.gone,?_,?_⟩
   ·rw[mo'.ref]at hp;cases hp
    exact hkeep _ k q1.1 q3.1 hk
   ·obtain⟨c,c1,c2⟩:=mo'.get
    exact⟨c,c1,by rw[getcur _ q1 q3];exact c2⟩
   ·obtain⟨old',n',c1,c2,c3⟩:=mo'.dst
    refine⟨old',n',by rw[getcur _ q2 q4];exact c1,hkeep _ _ ?_ ?_ c2,c3⟩
    ·cases hb:m.src.pre m'.par with
     |false=>rfl
     |true=>have:=Pl.pre_trans hb (pre_cell m'.par m'.i m'.j);rw[show m'.par.cell m'.i m'.j=m'.q from rfl,q2.1]at this;cases this
    ·cases hb:m.q.pre m'.par with
     |false=>rfl
     |true=>have:=Pl.pre_trans hb (pre_cell m'.par m'.i m'.j);rw[show m'.par.cell m'.i m'.j=m'.q from rfl,q4.1]at this;cases this) hap
  refine⟨g',R',by rw[List.flatMap_cons,Up.apps_append];exact f1,fun b o hb=>hownsub b o (f2 b o hb),fun pl k hu hk=>?_⟩
  simp only[List.flatMap_cons]at hu
  refine f3 pl k (fun u hu'=>hu u (List.mem_append_right _ hu')) (hkeep pl k ?_ ?_ hk)
  ·have:=hu m.u (List.mem_append_left _ (by simp[Mv.ups]));rw[mo.gone,gone_pl]at this;exact this
  ·have:=hu (wr m.f m.q m.x) (List.mem_append_left _ (by simp[Mv.ups]));rw[wr_pl]at this;exact this
end Go.Am
end
section
namespace Go.Am
open Go.RowKit
variable {P:Program} {cx:Cx} {B:Base} {K:Nat→Prop} {g g':Gh} {R:Nat→Value} {s:St} {h h':Hp} {w w':World}
theorem absorb1_cases (hal:s.alias=false) {a x:AV} {r:List Rd} {us:List Up} (h:absorb1 s a=some (x,r,us)):
  (us=[]∧x=a∧refOf a=none)∨(∃src c,us=[gone src]∧refOf a=some src∧look s true src=some c∧isNode x=true):=by
 cases a with
 |rf sz pl off len=>
  simp only[absorb1,hal,Bool.false_eq_true,if_false]at h
  cases hl:look s true pl with
  |none=>simp[hl,oops]at h
  |some c=>
   simp only[hl]at h
   cases c with
   |ow sz' es=>
    simp only[oops]at h
    split at h
    ·simp only[Option.some.injEq,Prod.mk.injEq]at h
     obtain⟨rfl,rfl,rfl⟩:=h
     exact .inr ⟨pl,_,rfl,rfl,hl,rfl⟩
    ·cases h
   |_=>cases h
 |ptr pl i off=>
  simp only[absorb1,hal,Bool.false_eq_true,if_false,oops]at h
  split at h
  ·cases hl:look s true pl with
   |none=>simp[hl]at h
   |some c=>
    simp only[hl]at h
    cases c with
    |bx e=>
     simp only[Option.some.injEq,Prod.mk.injEq]at h
     obtain⟨rfl,rfl,rfl⟩:=h
     exact .inr ⟨pl,_,rfl,rfl,hl,rfl⟩
    |_=>cases h
  ·cases h
 |mrf _=>simp[absorb1,oops]at h
 |agg _=>simp[absorb1,oops]at h
 |tup _=>simp[absorb1,oops]at h
 |_=>
  simp only[absorb1,Option.some.injEq,Prod.mk.injEq]at h
  obtain⟨rfl,rfl,rfl⟩:=h
  exact .inl ⟨rfl,rfl,rfl⟩
theorem leaf_of {F:Fz} {a:AV} {v:Value} {d:List Up} (hr:refOf a=none) (h:RT F g (fadeC d a) v):RF F a v:=by
 rw[fadeC_ok fun pl hp=>by rw[hr]at hp;cases hp]at h
 cases h with
 |f h=>exact h
 |_=>cases hr
theorem RF_shape {F:Fz} {a:AV} {v:Value} (h:RF F a v):isNode a=false∧(∀q l,a≠.lk q l)∧nonAgg a=true:=by
 cases h<;>exact⟨rfl,(by intro _ _ h;cases h),rfl⟩
structure Mv.st (m:Mv) (s:St) (B:Base) (g:Gh) (w:World):Prop where
 ab:∃rs,absorb1 s m.a=some (m.x,rs,[m.u])
 rt:RT (mkF B g w) g m.a m.v
 ref:refOf m.a=some m.src
 okd:okD s.d m.src
 gone:m.u=gone m.src
 get:∃c,look s true m.src=some c
theorem putNew_ok (hal:s.alias=false) {pl:Pl} {i:Nat}:∀{l:List AV} {off:Nat} {vs:List Value} {bs:List AV} {rs:List Rd} {us:List Up},putNew s pl i off l=some (bs,rs,us)→RTL (mkF B g w) g (l.map (fadeC s.d)) vs→
  ∃ms:List Mv,us=ms.flatMap Mv.ups∧bs.length=l.length∧(∀(j:Nat) x,bs[j]?=some x→∃u,vs[j]?=some u∧RF (mkF B g w) x u)∧
   (∀m∈ms,m.st s B g w∧m.par=pl∧m.i=i∧m.f=true∧∃j,m.j=off+j∧vs[j]?=some m.v∧bs[j]?=some .un)
 |[],off,_,bs,rs,us,h,.nil=>by
  simp only[putNew,Option.some.injEq,Prod.mk.injEq]at h
  obtain⟨rfl,rfl,rfl⟩:=h
  exact⟨[],rfl,rfl,fun j x hx=>by simp at hx,fun m hm=>by cases hm⟩
 |a::l,off,_,bs,rs,us,h,.cons (v:=v) (vs:=vs) hv ht=>by
  simp only[putNew]at h
  cases ha:absorb1 s a with
  |none=>simp[ha]at h
  |some p=>
   obtain⟨x,r,us1⟩:=p
   simp only[ha]at h
   cases hp:putNew s pl i (off+1) l with
   |none=>simp[hp]at h
   |some q=>
    obtain⟨bs',rs',us'⟩:=q
    simp only[hp]at h
    obtain⟨ms,m1,m2,m3,m4⟩:=putNew_ok hal hp ht
    have tl:∀b:AV,∀m∈ms,m.st s B g w∧m.par=pl∧m.i=i∧m.f=true∧∃j,m.j=off+j∧(v::vs)[j]?=some m.v∧(b::bs')[j]?=some .un:=by
     intro b m hm
     obtain⟨e1,e2,e3,e4,j,e5,e6,e7⟩:=m4 m hm
     exact⟨e1,e2,e3,e4,j+1,by omega,by simpa using e6,by simpa using e7⟩
    rcases absorb1_cases hal ha with⟨rfl,rfl,hr⟩|⟨src,c,rfl,hr,hl,hx⟩
    ·simp only[Option.some.injEq,Prod.mk.injEq]at h
     obtain⟨rfl,rfl,rfl⟩:=h
     refine⟨ms,m1,by simp[m2],fun j y hy=>?_,tl _⟩
     cases j with
     |zero=>simp at hy;subst hy;exact⟨v,rfl,leaf_of hr hv⟩
     |succ j=>obtain⟨u,f1,f2⟩:=m3 j y (by simpa using hy);exact⟨u,by simpa using f1,f2⟩
    ·simp only[Option.some.injEq,Prod.mk.injEq]at h
     obtain⟨rfl,rfl,rfl⟩:=h
     have hok:=okD_of_look hl
     have hrt:RT (mkF B g w) g a v:=by rw[fadeC_ok fun q hq=>by rw[hr]at hq;cases hq;exact hok]at hv;exact hv
     refine⟨⟨a,v,x,gone src,src,pl,i,off,true⟩::ms,by simp[Mv.ups,wr,Mv.q,m1],by simp[m2],fun j y hy=>?_,fun m hm=>?_⟩
     ·cases j with
      |zero=>simp at hy;subst hy;exact⟨v,rfl,.un v hrt.one⟩
      |succ j=>obtain⟨u,f1,f2⟩:=m3 j y (by simpa using hy);exact⟨u,by simpa using f1,f2⟩
     ·rcases List.mem_cons.1 hm with rfl|hm
      ·exact⟨⟨⟨r,ha⟩,hrt,hr,hok,rfl,c,hl⟩,rfl,rfl,rfl,0,rfl,rfl,rfl⟩
      ·exact tl _ m hm
theorem putEl_ok (hal:s.alias=false) {pl:Pl} {i:Nat} {a b:AV} {v:Value} {rs:List Rd} {us:List Up} (hk:known a=true) (h:putEl s pl i a=some (b,rs,us)) (hv:XD (mkF B g w) g s.d a v):
  ∃ms:List Mv,us=ms.flatMap Mv.ups∧(cells b).length=(cells a).length∧v.cells.toList.length=(cells a).length∧(∀(j:Nat) x,(cells b)[j]?=some x→∃u,v.cells.toList[j]?=some u∧RF (mkF B g w) x u)∧
   (∀m∈ms,m.st s B g w∧m.par=pl∧m.i=i∧m.f=true∧v.cells.toList[m.j]?=some m.v∧(cells b)[m.j]?=some .un)∧isNode b=false:=by
 obtain⟨vs,h1,h2⟩:=X_cells hv hk
 by_cases ha:nonAgg a=true
 ·have he:putEl s pl i a=(match putNew s pl i 0 [a]with|some ([b],r,u)=>some (b,r,u)|_=>none):=by cases a<;>first|rfl|cases ha
  rw[he]at h
  rw[cells_nonAgg ha]at h2 ⊢
  split at h
  ·rename_i c r u hp
   simp only[Option.some.injEq,Prod.mk.injEq]at h
   obtain⟨rfl,rfl,rfl⟩:=h
   obtain⟨ms,m1,m2,m3,m4⟩:=putNew_ok hal hp h2
   obtain⟨u0,hu0,hf0⟩:=m3 0 c rfl
   obtain⟨sh1,sh2,sh3⟩:=RF_shape hf0
   refine⟨ms,m1,by rw[cells_nonAgg sh3];rfl,by rw[h1];exact RTL_len h2,by rw[h1,cells_nonAgg sh3];exact m3,fun m hm=>?_,sh1⟩
   obtain⟨e1,e2,e3,e4,j,e5,e6,e7⟩:=m4 m hm
   have:m.j=j:=by omega
   exact⟨e1,e2,e3,e4,by rw[h1,this];exact e6,by rw[this,cells_nonAgg sh3];exact e7⟩
  ·cases h
 ·cases a<;>simp[nonAgg]at ha
  rename_i cs
  simp only[putEl]at h
  cases hp:putNew s pl i 0 cs with
  |none=>simp[hp]at h
  |some q=>
   obtain⟨bs,r,u⟩:=q
   simp only[hp,Option.some.injEq,Prod.mk.injEq]at h
   obtain⟨rfl,rfl,rfl⟩:=h
   obtain⟨ms,m1,m2,m3,m4⟩:=putNew_ok hal hp h2
   refine⟨ms,m1,m2,by rw[h1];exact RTL_len h2,by rw[h1];exact m3,fun m hm=>?_,rfl⟩
   obtain⟨e1,e2,e3,e4,j,e5,e6,e7⟩:=m4 m hm
   have:m.j=j:=by omega
   exact⟨e1,e2,e3,e4,by rw[h1,this];exact e6,by rw[this];exact e7⟩
inductive XE (F:Fz) (g:Gh) (d:List Up):List AV→List Value→Prop
 |nil:XE F g d [] []
 |cons {a:AV} {v:Value} {l:List AV} {vs:List Value} (h:XD F g d a v) (t:XE F g d l vs):XE F g d (a::l) (v::vs)
theorem fills_ok {d:Nat} {c:AV} {n:Nd} {R':Nat→Value} (hal:s.alias=false) (H:RM B (Kd s.d) g R s.h w) (hd:hget s.h d=none) {cs:Array Value} {el:TypeId} {nn:Nd} (hnn:nn=⟨w.heap.size,0,n.sz,n.cap,false⟩)
  (hnew:RM B (Kd s.d) (newG g d nn) R' (hins s.h d c) {w with heap:=w.heap.push (.cells cs el)}) {ms:List Mv} (hms:∀m∈ms,m.st s B g w∧m.par=⟨d,[]⟩∧m.f=true∧getT c [(m.i,m.j)]=some .un∧cs[m.i*n.sz+m.j]?=some m.v)
  (hap:apartUps (ms.flatMap Mv.ups)=true):
  ∃g' R',RM B (Kd (s.d++dn (.new d c::ms.flatMap Mv.ups))) g' R' (Up.apps (.new d c::ms.flatMap Mv.ups) s.h) {w with heap:=w.heap.push (.cells cs el)}∧
   (mkF B g w).le (mkF B g' {w with heap:=w.heap.push (.cells cs el)})∧(∀pl n,okD (s.d++dn (.new d c::ms.flatMap Mv.ups)) pl→g pl.r pl.p=some n→g' pl.r pl.p=some n)∧g' d []=some nn:=by
 subst hnn
 have hle:=le_new (B:=B) (g:=g) (w:=w) H (r:=d) (o:=.cells cs el) (sz:=n.sz) (cap:=n.cap) (wh:=false)
 have hdR:∀m∈ms,m.src.r≠d:=by
  intro m hm e
  obtain⟨c',hc'⟩:=(hms m hm).1.get
  obtain⟨a,ha,_⟩:=getP_some (look_some hc').2
  rw[e,hd]at ha;cases ha
 have hlt:∀(a:Addr) v,w.cell? a=some v→a.block<w.heap.size:=by
  intro a v hv
  unfold World.cell? at hv
  cases hx:w.heap[a.block]? with
  |none=>rw[hx]at hv;cases hv
  |some x=>exact(Array.getElem?_eq_some_iff.1 hx).1
 obtain⟨g',R2,f1,f2,f3⟩:=moves_ok (s:=s) hal (K:=Kd s.d) (fun h=>free_no h s.d) hnew (ms:=ms) (fun m hm=>by
  obtain⟨m1,m2,m3,m4,m5⟩:=hms m hm
  refine⟨m1.ab,m1.rt.mono hle fun pl k hp hk=>Keeps.new H hd (us:=[]) pl k rfl hk,m1.ref,m1.okd,m1.gone,?_,?_⟩
  ·obtain⟨c',hc'⟩:=m1.get
   exact⟨c',hc',by rw[getP_hins_ne (hdR m hm)];exact(look_some hc').2⟩
  ·refine⟨.un,⟨w.heap.size,0,n.sz,n.cap,false⟩,?_,by rw[m2];simp[newG],?_⟩
   ·unfold getP Mv.q Pl.cell
    rw[m2]
    simp only[hget_hins,if_true,Option.bind_some,List.nil_append]
    exact m4
   ·unfold World.cell?
    simp[m5]) hap
 have hdn:dn (.new d c::ms.flatMap Mv.ups)=dn (ms.flatMap Mv.ups):=rfl
 refine⟨g',R2,f1.weakK fun q hq=>Kd_app q hq,le_trans' hle (le_sub f2),fun pl k hok hk=>?_,?_⟩
 ·have hpd:pl.r≠d:=by rintro e;rw[e,H.void d hd]at hk;cases hk
  refine f3 pl k (fun u hu=>?_) (Keeps.new H hd (us:=[]) pl k rfl hk)
  rw[hdn]at hok
  obtain⟨m,hm,hu'⟩:=List.mem_flatMap.1 hu
  obtain⟨m1,m2,m3,_⟩:=hms m hm
  have hdd:=okD_split hok
  simp only[Mv.ups,List.mem_cons,List.not_mem_nil,or_false]at hu'
  rcases hu' with rfl|rfl
  ·rw[m1.gone,gone_pl]
   refine hits_gone ?_
   have:gone m.src∈dn (ms.flatMap Mv.ups):=by
    refine List.mem_filter.2 ⟨List.mem_flatMap.2 ⟨m,hm,by simp[Mv.ups,m1.gone]⟩,?_⟩
    unfold gone;split<;>rfl
   have h2:=List.any_eq_false.1 hdd _ this
   simpa using h2
  ·rw[wr_pl]
   simp only[Mv.q,Pl.cell,m2,Pl.pre,Bool.and_eq_false_iff]
   exact .inl (nbF fun e=>hpd e.symm)
 ·refine f3 ⟨d,[]⟩ _ (fun u hu=>?_) (by simp[newG])
  obtain⟨m,hm,hu'⟩:=List.mem_flatMap.1 hu
  obtain⟨m1,m2,m3,_⟩:=hms m hm
  simp only[Mv.ups,List.mem_cons,List.not_mem_nil,or_false]at hu'
  rcases hu' with rfl|rfl
  ·rw[m1.gone,gone_pl]
   simp only[Pl.pre,Bool.and_eq_false_iff]
   exact .inl (nbF (hdR m hm))
  ·rw[wr_pl]
   simp[Mv.q,Pl.cell,m2,Pl.pre,pre]
theorem oBox_ok (H:RM B (Kd s.d) g R s.h w) {d ty:Nat} {a:AV} {va:Value} {e:Eff} (ha:XD (mkF B g w) g s.d a va) (he:oBox s (some d) a=some e):Does P B g s w e (Instr.box ty va):=by
 unfold oBox at he
 simp only at he
 cases hp:putEl s ⟨d,[]⟩ 0 a with
 |none=>simp[hp,oops]at he
 |some q=>
  obtain⟨b,rs,us⟩:=q
  simp only[hp]at he
  cases hc:(freshId s d&&apartUps us&&known a&& !s.alias)with
  |false=>rw[hc]at he;cases he
  |true=>
   rw[hc,cond_true,Option.some.injEq]at he;subst he
   simp only[Bool.and_eq_true,Bool.not_eq_true']at hc
   obtain⟨⟨⟨hc1,hc2⟩,hc3⟩,hal⟩:=hc
   obtain⟨hr,hk⟩:=freshId_iff hc1
   obtain⟨ms,rfl,m2,m3,m4,m5,m6⟩:=putEl_ok hal hc3 hp ha
   have hnew:=H.new (r:=d) (c:=.bx b) (cs:=va.cells) (el:=ty) (sz:=(cells b).length) (cap:=1) hr hk (by have:va.cells.size=(cells a).length:=(by simpa using m3);omega) (v:=.pointer (some ⟨w.heap.size,0,none⟩))
     ⟨_,rfl,rfl,rfl,rfl,rfl⟩ rfl (by intro _ _ h;cases h) (fun i j x hx=>by
      simp only[step1]at hx
      split at hx
      ·rename_i h0
       obtain⟨u,e1,e2⟩:=m4 j x hx
       obtain⟨s1,s2,_⟩:=RF_shape e2
       exact⟨s1,s2,u,by rw[h0];simpa using e1,e2⟩
      ·cases hx)
   obtain⟨g',R',f1,f2,f3,f4⟩:=fills_ok hal H hr (n:=⟨0,0,(cells b).length,1,false⟩) rfl hnew (ms:=ms) (fun m hm=>by
    obtain⟨e1,e2,e3,e4,e5,e6⟩:=m5 m hm
    refine⟨e1,e2,e4,?_,?_⟩
    ·rw[e3];simp[getT,step1,e6]
    ·rw[e3];simpa using e5) hc2
   refine⟨.pointer (some ⟨w.heap.size,0,none⟩),_,g',R',by simp[Instr.box,newVar,newRow],f1,f2,f3,ptrX (n:=⟨w.heap.size,0,(cells b).length,1,false⟩) f4 rfl (by simp)⟩
end Go.Am
end
section
namespace Go.Am
open Go.RowKit
variable {P:Program} {cx:Cx} {B:Base} {K:Nat→Prop} {g g':Gh} {R:Nat→Value} {s:St} {h h':Hp} {w w':World}
def Row (F:Fz) (g:Gh) (d:List Up) (sz:Nat) (es:List AV) (arr:Array Value):Prop:=
 arr.size=es.length*sz∧∀i e,es[i]?=some e→known e=true∧(cells e).length=sz∧∃v:Value,XD F g d e v∧v.cells.size=sz∧∀j,j<sz→arr[i*sz+j]?=v.cells[j]?
theorem row_lt {i n sz j:Nat} (hi:i<n) (hj:j<sz):i*sz+j<n*sz:=by
 have:(i+1)*sz≤n*sz:=Nat.mul_le_mul_right _ hi
 rw[Nat.add_mul]at this;omega
theorem zeros_row {F:Fz} {d:List Up} {z:AV} {zv:Value} {n sz:Nat} (hz:z=cv zv) (ho:zv.cells.toList.all one=true) (hk:known z=true) (hl:(cells z).length=sz) (hs:1≤sz):
  Row F g d sz (List.replicate n z) ((Array.range (n*sz)).map (zv.cells[· % zv.cells.size]!)):=by
 have hX:XD F g d z zv:=by
  refine .inr ?_
  have:=cvX (F:=F) (g:=g) (d:=d) ho
  rw[hz]
  rw[fade_eq1 (by cases hh:cv zv<;>first|rfl|(rw[hz,hh]at hk;cases hk))]
  exact .c this
 obtain⟨vs,h1,h2⟩:=X_cells hX hk
 have hsz:zv.cells.size=sz:=by have:=RTL_len h2;rw[←h1]at this;simp at this;omega
 refine⟨by simp,fun i e he=>?_⟩
 rw[List.getElem?_replicate]at he
 split at he
 ·rename_i hi
  cases he
  refine⟨hk,hl,zv,hX,hsz,fun j hj=>?_⟩
  have hlt:=row_lt hi hj
  rw[hsz]
  have e1:(i*sz+j) % sz=j:=by rw[Nat.add_comm,Nat.add_mul_mod_self_right,Nat.mod_eq_of_lt hj]
  have e2:((Array.range (n*sz)).map (zv.cells[· % sz]!))[i*sz+j]?=some (zv.cells[(i*sz+j) % sz]!):=by
   rw[Array.getElem?_map,Array.getElem?_range,if_pos hlt];rfl
  rw[e2,e1]
  have:j<zv.cells.size:=by omega
  simp[this]
 ·cases he
theorem fillS_ok {F:Fz} {d:List Up} {sz:Nat}:∀{ps:List (Nat×AV)} {vs:List (Nat×Value)} {es r:List AV} {arr:Array Value},XP F g d ps vs→Row F g d sz es arr→fillS sz es ps=some r→
  ∃arr',Instr.fill (fun i=>some (i*sz,sz)) arr vs=some arr'∧Row F g d sz r arr'∧r.length=es.length
 |[],_,es,r,arr,.nil,h,hf=>by simp[fillS]at hf;subst hf;exact⟨arr,rfl,h,rfl⟩
 |(i,a)::ps,_,es,r,arr,.cons (v:=v) (vs:=vs) hx ht,h,hf=>by
  simp only[fillS]at hf
  cases hc:(Nat.blt i es.length&&Nat.beq (cells a).length sz&&known a)with
  |false=>rw[hc]at hf;cases hf
  |true=>
   rw[hc,cond_true]at hf
   simp only[Bool.and_eq_true]at hc
   have hi:i<es.length:=by
    have:=hc.1.1
    simp[Nat.blt]at this;omega
   have hl:(cells a).length=sz:=by simpa using hc.1.2
   obtain⟨vv,h1,h2⟩:=X_cells hx hc.2
   have hsz:v.cells.size=sz:=by have:=RTL_len h2;rw[←h1]at this;simp at this;omega
   have hle:i*sz+sz≤arr.size:=by
    rw[h.1]
    have:(i+1)*sz≤es.length*sz:=Nat.mul_le_mul_right _ hi
    rw[Nat.add_mul]at this;omega
   simp only[Instr.fill]
   rw[if_neg (by simp[hsz];omega)]
   have hf1:=fold_set arr v.cells.toList (i*sz) 0 (by simp[hsz];omega)
   have hfe:(v.cells.zipIdx.foldl (fun cs (x:Value×Nat)=>cs.setIfInBounds (i*sz+x.2) x.1) arr)=((v.cells.toList.zipIdx 0).foldl (fun c (x:Value×Nat)=>c.setIfInBounds (i*sz+x.2) x.1) arr):=by
    rw[←Array.foldl_toList]
    simp
   have hlen:v.cells.toList.length=sz:=by simpa using hsz
   obtain⟨arr',a1,a2,a3⟩:=fillS_ok (es:=es.set i a) (arr:=v.cells.zipIdx.foldl (fun cs (x:Value×Nat)=>cs.setIfInBounds (i*sz+x.2) x.1) arr) ht (by
    have hget:∀k,(v.cells.zipIdx.foldl (fun cs (x:Value×Nat)=>cs.setIfInBounds (i*sz+x.2) x.1) arr)[k]?=if i*sz≤k∧k<i*sz+sz then v.cells[k - i*sz]? else arr[k]?:=by
     intro k
     rw[hfe,←Array.getElem?_toList,hf1]
     simp only[Nat.add_zero]
     have hta:(arr.toList.take (i*sz)).length=i*sz:=by simp;omega
     by_cases hk1:k<i*sz
     ·rw[List.getElem?_append_left (by simp;omega),List.getElem?_append_left (by rw[hta];exact hk1),List.getElem?_take_of_lt hk1,if_neg (by omega)]
      simp
     ·by_cases hk2:k<i*sz+sz
      ·rw[List.getElem?_append_left (by simp;omega),List.getElem?_append_right (by rw[hta];omega),hta,if_pos ⟨by omega,hk2⟩]
       simp
      ·rw[List.getElem?_append_right (by simp;omega),if_neg (by omega)]
       simp only[List.length_append,hta,hlen,List.getElem?_drop]
       have:i*sz+sz+(k - (i*sz+sz))=k:=by omega
       rw[this];simp
    refine⟨?_,fun k e he=>?_⟩
    ·have hs:=congrArg List.length hf1
     rw[hfe,←Array.length_toList,hs]
     have:=h.1
     simp
     omega
    ·rw[List.getElem?_set]at he
     by_cases hik:i=k
     ·subst hik
      rw[if_pos rfl,if_pos hi]at he
      cases he
      refine⟨hc.2,hl,v,hx,hsz,fun j hj=>?_⟩
      rw[hget,if_pos ⟨by omega,by omega⟩]
      congr 1;omega
     ·rw[if_neg hik]at he
      obtain⟨q1,q2,v',q3,q4,q5⟩:=h.2 k e he
      refine⟨q1,q2,v',q3,q4,fun j hj=>?_⟩
      rw[hget,if_neg,q5 j hj]
      rintro ⟨x1,x2⟩
      rcases Nat.lt_or_gt_of_ne hik with hlt|hgt
      ·have:(i+1)*sz≤k*sz:=Nat.mul_le_mul_right _ hlt
       rw[Nat.add_mul]at this;omega
      ·have:(k+1)*sz≤i*sz:=Nat.mul_le_mul_right _ hgt
       rw[Nat.add_mul]at this;omega) hf
   exact⟨arr',a1,a2,by simpa using a3⟩
theorem putEls_ok (hal:s.alias=false) {pl:Pl} {sz:Nat}:∀{es:List AV} {i:Nat} {bs:List AV} {rs:List Rd} {us:List Up},putEls s pl i es=some (bs,rs,us)→
  (∀(k:Nat) e,es[k]?=some e→known e=true∧(cells e).length=sz∧∃v:Value,XD (mkF B g w) g s.d e v)→∀(val:Nat→Value),(∀(k:Nat) e,es[k]?=some e→XD (mkF B g w) g s.d e (val (i+k)))→
  ∃ms:List Mv,us=ms.flatMap Mv.ups∧bs.length=es.length∧(∀(k:Nat) b,bs[k]?=some b→isNode b=false∧(cells b).length=sz∧∀(j:Nat) x,(cells b)[j]?=some x→∃u,(val (i+k)).cells.toList[j]?=some u∧RF (mkF B g w) x u)∧
   (∀m∈ms,m.st s B g w∧m.par=pl∧m.f=true∧∃k b,m.i=i+k∧bs[k]?=some b∧(cells b)[m.j]?=some .un∧(val (i+k)).cells.toList[m.j]?=some m.v∧m.j<sz)
 |[],i,bs,rs,us,h,_,_,_=>by
  simp only[putEls,Option.some.injEq,Prod.mk.injEq]at h
  obtain⟨rfl,rfl,rfl⟩:=h
  exact⟨[],rfl,rfl,fun k b hk=>by simp at hk,fun m hm=>by cases hm⟩
 |e::es,i,bs,rs,us,h,hk,val,hv=>by
  simp only[putEls]at h
  cases hp:putEl s pl i e with
  |none=>simp[hp]at h
  |some q=>
   obtain⟨b,r1,u1⟩:=q
   simp only[hp]at h
   cases hp2:putEls s pl (i+1) es with
   |none=>simp[hp2]at h
   |some q2=>
    obtain⟨bs',r2,u2⟩:=q2
    simp only[hp2,Option.some.injEq,Prod.mk.injEq]at h
    obtain⟨rfl,rfl,rfl⟩:=h
    have hk0:=hk 0 e rfl
    obtain⟨ms1,m1,m2,m3,m4,m5,m6⟩:=putEl_ok hal hk0.1 hp (by have:=hv 0 e rfl;rw[Nat.add_zero]at this;exact this)
    obtain⟨ms2,n1,n2,n3,n4⟩:=putEls_ok hal hp2 (fun k x hx=>hk (k+1) x (by simpa using hx)) val (fun k x hx=>by
     have:=hv (k+1) x (by simpa using hx);rw[show i+1+k=i+(k+1)by omega];exact this)
    refine⟨ms1++ms2,by simp[m1,n1],by simp[n2],fun k y hy=>?_,fun m hm=>?_⟩
    ·cases k with
     |zero=>simp at hy;subst hy;exact⟨m6,by rw[m2];exact hk0.2.1,m4⟩
     |succ k=>
      obtain⟨x1,x2,x3⟩:=n3 k y (by simpa using hy)
      exact⟨x1,x2,by rw[show i+(k+1)=i+1+k by omega];exact x3⟩
    ·rcases List.mem_append.1 hm with hm|hm
     ·obtain⟨x1,x2,x3,x4,x5,x6⟩:=m5 m hm
      refine⟨x1,x2,x4,0,b,by simp[x3],rfl,x6,by simpa using x5,?_⟩
      have:=(List.getElem?_eq_some_iff.1 x6).1;rw[m2,hk0.2.1]at this;exact this
     ·obtain⟨x1,x2,x3,k,b',x4,x5,x6,x7,x8⟩:=n4 m hm
      exact⟨x1,x2,x3,k+1,b',by omega,by simpa using x5,x6,by rw[show i+(k+1)=i+1+k by omega];exact x7,x8⟩
theorem ow_head {F:Fz} {ob:Nat→Option Obj} {sz cap b:Nat} {bs:List AV} (h1:bs.length≤cap) (h2:∀e∈bs,(cells e).length=sz):
  LF F ob g (.ow sz bs) (some ⟨b,0,sz,cap,false⟩) (.slice (some ⟨b,0,none⟩) bs.length cap):=⟨_,rfl,rfl,rfl,h1,rfl,h2⟩
theorem oBuildSlice_ok (hT:TOk P cx) (H:RM B (Kd s.d) g R s.h w) {d ty len:Nat} {ps:List (Nat×AV)} {vs:List (Nat×Value)} {e:Eff} (ha:XP (mkF B g w) g s.d ps vs)
  (he:oBuildSlice cx s (some d) ty len ps=some e):Does P B g s w e (Instr.buildSlice ty len vs.toArray):=by
 unfold oBuildSlice at he
 split at he
 ·rename_i d' el hd' hk
  cases hd'
  cases hei:cx.T el with
  |none=>simp[hei]at he
  |some ei=>
   simp only[hei]at he
   cases hz:ei.zero with
   |none=>simp[hz]at he
   |some z=>
    simp only[hz]at he
    cases hf:fillS ei.size (List.replicate len z) ps with
    |none=>simp[hf]at he
    |some es=>
     simp only[hf]at he
     cases hp:putEls s ⟨d,[]⟩ 0 es with
     |none=>simp[hp]at he
     |some q=>
      obtain⟨bs,rs,us⟩:=q
      simp only[hp,oops]at he
      cases hc:(freshId s d&&apartUps us&&Nat.beq (cells z).length ei.size&&known z&&Nat.ble 1 ei.size&&Nat.ble (len*ei.size) (2 ^ 24)&& !s.alias)with
      |false=>rw[hc]at he;cases he
      |true=>
       rw[hc,cond_true,Option.some.injEq]at he;subst he
       simp only[Bool.and_eq_true,Bool.not_eq_true']at hc
       obtain⟨⟨⟨⟨⟨⟨hc1,hc2⟩,hc3⟩,hc4⟩,hc5⟩,hc6⟩,hal⟩:=hc
       obtain⟨hr,hkd⟩:=freshId_iff hc1
       have hlz:(cells z).length=ei.size:=by simpa using hc3
       have hs1:1≤ei.size:=by simpa using hc5
       have hs2:len*ei.size≤2 ^ 24:=by simpa using hc6
       have hu:=kind_slice hT hk
       have hty:=hT el ei hei
       obtain⟨zv,z1,z2,z3⟩:=run_zero w hty hz
       have hrow:=zeros_row (F:=mkF B g w) (g:=g) (d:=s.d) (n:=len) z2 z3 hc4 hlz hs1
       obtain⟨arr,f1,f2,f3⟩:=fillS_ok ha hrow hf
       simp at f3
       classical
       let val:Nat→Value:=fun k=>if hx:∃v,∃e,es[k]?=some e∧XD (mkF B g w) g s.d e v∧v.cells.size=ei.size∧∀j,j<ei.size→arr[k*ei.size+j]?=v.cells[j]? then hx.choose else undef
       have hval:∀k e,es[k]?=some e→XD (mkF B g w) g s.d e (val k)∧(val k).cells.size=ei.size∧∀j,j<ei.size→arr[k*ei.size+j]?=(val k).cells[j]?:=by
        intro k e hke
        obtain⟨_,_,v,q1,q2,q3⟩:=f2.2 k e hke
        have hx:∃v,∃e,es[k]?=some e∧XD (mkF B g w) g s.d e v∧v.cells.size=ei.size∧∀j,j<ei.size→arr[k*ei.size+j]?=v.cells[j]?:=⟨v,e,hke,q1,q2,q3⟩
        have:val k=hx.choose:=dif_pos hx
        rw[this]
        obtain⟨e',p1,p2,p3,p4⟩:=hx.choose_spec
        rw[hke]at p1;cases p1
        exact⟨p2,p3,p4⟩
       obtain⟨ms,rfl,m2,m3,m4⟩:=putEls_ok (B:=B) (g:=g) (w:=w) hal (sz:=ei.size) hp (fun k e hke=>⟨(f2.2 k e hke).1,(f2.2 k e hke).2.1,_,(hval k e hke).1⟩) val (fun k e hke=>by rw[Nat.zero_add];exact(hval k e hke).1)
       have hel:∀(k:Nat) (b:AV),bs[k]?=some b→∃e,es[k]?=some e:=by
        intro k b hb
        have:=(List.getElem?_eq_some_iff.1 hb).1
        rw[m2]at this
        exact⟨_,List.getElem?_eq_some_iff.2 ⟨this,rfl⟩⟩
       have hnew:=H.new (r:=d) (c:=.ow ei.size bs) (cs:=arr) (el:=el) (sz:=ei.size) (cap:=bs.length) hr hkd (by rw[f2.1,m2,Nat.mul_comm];exact Nat.le_refl _) (v:=.slice (some ⟨w.heap.size,0,none⟩) bs.length bs.length)
        (ow_head (Nat.le_refl _) (fun e he=>by obtain⟨k,hk'⟩:=List.mem_iff_getElem?.1 he;exact(m3 k e hk').2.1)) rfl (by intro _ _ h;cases h) (fun i j x hx=>by
         simp only[step1]at hx
         cases hb:bs[i]? with
         |none=>simp[hb]at hx
         |some b=>
          simp only[hb,Option.bind_some]at hx
          obtain⟨_,q2,q3⟩:=m3 i b hb
          obtain⟨u,e1,e2⟩:=q3 j x hx
          obtain⟨s1,s2,_⟩:=RF_shape e2
          refine⟨s1,s2,u,?_,e2⟩
          obtain⟨e0,he0⟩:=hel i b hb
          have hj:j<ei.size:=by have:=(List.getElem?_eq_some_iff.1 hx).1;omega
          rw[(hval i e0 he0).2.2 j hj]
          rw[Nat.zero_add]at e1
          simpa using e1)
       obtain⟨g',R',x1,x2,x3,x4⟩:=fills_ok hal H hr (n:=⟨0,0,ei.size,bs.length,false⟩) rfl hnew (ms:=ms) (fun m hm=>by
        obtain⟨q1,q2,q3,k,b,q4,q5,q6,q7,q8⟩:=m4 m hm
        refine⟨q1,q2,q3,?_,?_⟩
        ·rw[q4,Nat.zero_add];simp[getT,step1,q5,q6]
        ·obtain⟨e0,he0⟩:=hel k b q5
         rw[q4,Nat.zero_add,(hval k e0 he0).2.2 m.j q8]
         rw[Nat.zero_add]at q7
         simpa using q7) hc2
       refine⟨.slice (some ⟨w.heap.size,0,none⟩) len len,_,g',R',?_,x1,x2,x3,rfXX (cap:=bs.length) (n:=⟨w.heap.size,0,ei.size,bs.length,false⟩) x4 rfl rfl (by simp) (Nat.le_refl _) (by simp[m2,f3])⟩
       have hzero:(if len*ei.size=0 then pure #[]else do pure (←zeroValue el).cells:Sem (Array Value)).run P w=.ok (if len*ei.size=0 then #[]else zv.cells) w:=by
        split
        ·simp
        ·simp[z1]
       have harr:((Array.range (len*ei.size)).map ((if len*ei.size=0 then #[]else zv.cells)[· % (if len*ei.size=0 then #[]else zv.cells).size]!))=(Array.range (len*ei.size)).map (zv.cells[· % zv.cells.size]!):=by
        by_cases h0:len*ei.size=0
        ·simp[h0]
        ·simp[h0]
       simp only[Instr.buildSlice,Sem.run_bind,run_underlying' w hu,Result.andThen_ok,run_size w hty]
       rw[if_neg (by omega)]
       by_cases h0:len*ei.size=0
       ·rw[if_pos h0]
        rw[if_pos h0]at harr
        simp only[Sem.run_bind,Sem.run_pure,Result.andThen_ok,harr,f1]
        simp[newRow]
       ·rw[if_neg h0]
        simp only[Sem.run_bind,Sem.run_pure,Result.andThen_ok,z1,f1]
        simp[newRow]
 ·cases he
end Go.Am
end
section
namespace Go.Am
open Go.RowKit
variable {P:Program} {cx:Cx} {B:Base} {K:Nat→Prop} {g g':Gh} {R:Nat→Value} {s:St} {h h':Hp} {w w':World}
theorem wrap_small {n:Int} (h0:0≤n) (h1:n≤roomB):IntKind.i64.wrap n=n:=by
 have:(roomB:Int)=70368744177664:=by decide
 exact IntWalk.i64_in _ (by omega)
theorem oMakeSlice_ok (hT:TOk P cx) (H:RM B (Kd s.d) g R s.h w) {d ty:Nat} {a b:AV} {va vb:Value} {e:Eff} (ha:XD (mkF B g w) g s.d a va) (hb:XD (mkF B g w) g s.d b vb)
  (he:oMakeSlice cx s (some d) ty a b=some e):Does P B g s w e (Instr.makeSlice ty va vb):=by
 unfold oMakeSlice at he
 split at he
 ·rename_i d' el hd' hk
  cases hd'
  cases hei:cx.T el with
  |none=>simp[hei]at he
  |some ei=>
   simp only[hei]at he
   split at he
   ·rename_i z k n k' m hz
    cases hc:(decide (0≤n)&&decide (n≤m)&&decide (m*ei.bytes≤roomB)&&decide (m≤roomB)&&freshId s d&&Nat.beq (cells z).length ei.size&&plainEl z)with
    |false=>rw[hc]at he;cases he
    |true=>
     rw[hc,cond_true,Option.some.injEq]at he;subst he
     simp only[Bool.and_eq_true,decide_eq_true_eq]at hc
     obtain⟨⟨⟨⟨⟨⟨h0,h1⟩,h2⟩,h3⟩,h4⟩,h5⟩,h6⟩:=hc
     obtain⟨hr,hkd⟩:=freshId_iff h4
     have hlz:(cells z).length=ei.size:=by simpa using h5
     have hu:=kind_slice hT hk
     have hty:=hT el ei hei
     obtain⟨zv,z1,z2,z3⟩:=run_zero w hty hz
     obtain⟨info,dd,i1,i2,i3,i4,_⟩:=mkTy_facts hty
     rw[X_int ha,X_int hb]
     have hw1:=wrap_small h0 (by omega)
     have hw2:=wrap_small (n:=m) (by omega) h3
     have hroom:(roomB:Int)=70368744177664:=by decide

     have hcell:zv.cells.size=ei.size∧∀(j:Nat) x,(cells z)[j]?=some x→∃u,zv.cells[j]?=some u∧RF (mkF B g w) x u:=by
      by_cases hag:∃c,zv=.agg c
      ·obtain⟨c,rfl⟩:=hag
       have h3':c.toList.all one=true:=by simpa[Value.cells]using z3
       simp only[cv,h3',if_true]at z2
       subst z2
       simp only[cells,List.length_map,Array.length_toList]at hlz
       refine⟨by simpa[Value.cells]using hlz,fun j x hx=>?_⟩
       simp only[cells]at hx
       rw[List.getElem?_map]at hx
       cases hcj:c.toList[j]? with
       |none=>simp[hcj]at hx
       |some u=>
        simp[hcj]at hx
        have hu1:one u=true:=List.all_eq_true.1 h3' u (List.mem_of_getElem? hcj)
        have hf:=cv1F (F:=mkF B g w) hu1
        rw[hx]at hf
        exact⟨u,by simpa[Value.cells]using hcj,hf⟩
      ·have hcv:cv zv=cv1 zv:=by cases zv<;>first|rfl|exact absurd ⟨_,rfl⟩ hag
       have hvc:zv.cells= #[zv]:=by cases zv<;>first|rfl|exact absurd ⟨_,rfl⟩ hag
       have hone:one zv=true:=by rw[hvc]at z3;simpa using z3
       have hf:=cv1F (F:=mkF B g w) hone
       rw[←hcv,←z2]at hf
       have hna:nonAgg z=true:=(RF_shape hf).2.2
       rw[cells_nonAgg hna]at hlz ⊢
       rw[hvc]
       refine⟨by simpa using hlz,fun j x hx=>?_⟩
       cases j with
       |zero=>simp at hx;subst hx;exact⟨zv,rfl,hf⟩
       |succ j=>simp at hx
     let cs:Array Value:=(Array.range (m.toNat*ei.size)).map (zv.cells[· % zv.cells.size]!)
     have hcs:∀i j,i<m.toNat→j<ei.size→cs[i*ei.size+j]?=zv.cells[j]?:=by
      intro i j hi hj
      have hlt:=row_lt hi hj
      have e1:(i*ei.size+j) % ei.size=j:=by rw[Nat.add_comm,Nat.add_mul_mod_self_right,Nat.mod_eq_of_lt hj]
      have e2:cs[i*ei.size+j]?=some (zv.cells[(i*ei.size+j) % zv.cells.size]!):=by
       show((Array.range (m.toNat*ei.size)).map _)[_]?=_
       rw[Array.getElem?_map,Array.getElem?_range,if_pos hlt];rfl
      rw[e2,hcell.1,e1]
      have:j<zv.cells.size:=by rw[hcell.1];exact hj
      simp[this]
     have hnm:n.toNat≤m.toNat:=by omega
     have hnew:=H.new (r:=d) (c:=.ow ei.size (List.replicate n.toNat z)) (cs:=cs) (el:=el) (sz:=ei.size) (cap:=m.toNat) hr hkd (by simp[cs,Nat.mul_comm]) (v:=.slice (some ⟨w.heap.size,0,none⟩) n.toNat m.toNat)
      (by have:=ow_head (F:=mkF B g w) (ob:=obj w) (g:=g) (sz:=ei.size) (cap:=m.toNat) (b:=w.heap.size) (bs:=List.replicate n.toNat z) (by simpa using hnm) (fun e he=>by rw[List.eq_of_mem_replicate he];exact hlz);simpa using this) rfl (by intro _ _ h;cases h) (fun i j x hx=>by
       simp only[step1]at hx
       rw[List.getElem?_replicate]at hx
       split at hx
       ·rename_i hi
        simp only[Option.bind_some]at hx
        obtain⟨u,e1,e2⟩:=hcell.2 j x hx
        obtain⟨s1,s2,_⟩:=RF_shape e2
        have hj:j<ei.size:=by have:=(List.getElem?_eq_some_iff.1 hx).1;omega
        exact⟨s1,s2,u,by rw[hcs i j (by omega) hj];exact e1,e2⟩
       ·simp at hx)
     refine⟨.slice (some ⟨w.heap.size,0,none⟩) n.toNat m.toNat,_,_,_,?_,hnew.weakK fun q hq=>Kd_app q hq,le_new H,fun pl k hok hk=>Keeps.new H hr pl k (okD_split hok) hk,
      rfXX (cap:=m.toNat) (n:=⟨w.heap.size,0,ei.size,m.toNat,false⟩) (by simp[newG]) rfl rfl (by simp) hnm (by simp)⟩
     have t1:(decide (m<0)||decide ((info.bytes:Int)*m> 2 ^ 48))=false:=by
      rw[i4]at h2
      have:(info.bytes:Int)*m=m*info.bytes:=Int.mul_comm _ _
      simp only[this,Bool.or_eq_false_iff,decide_eq_false_iff_not]
      omega
     simp only[Instr.makeSlice,Sem.run_bind,run_underlying' w hu,Result.andThen_ok,asInt,asIntOf,Sem.run_pure,run_typeInfo w i1,hw1,hw2,t1,Bool.false_or]
     have t2:(decide (n<0)||decide (n> m))=false:=by simp;omega
     rw[t2]
     simp only[Bool.false_eq_true,if_false,Sem.run_bind,Result.andThen_ok,run_askRoom,run_size w hty]
     by_cases hz0:m.toNat*ei.size=0
     ·rw[if_pos hz0]
      have hce:cs=(Array.range (m.toNat*ei.size)).map ((#[]:Array Value)[· % (#[]:Array Value).size]!):=by simp[cs,hz0]
      simp only[Sem.run_bind,Sem.run_pure,Result.andThen_ok]
      rw[←hce]
      simp[newRow]
     ·rw[if_neg hz0]
      simp only[Sem.run_bind,Sem.run_pure,Result.andThen_ok,z1]
      rw[show(Array.range (m.toNat*ei.size)).map (zv.cells[· % zv.cells.size]!)=cs from rfl]
      simp[newRow]
   ·cases he
 ·cases he
end Go.Am
end
section
namespace Go.Am
open Go.RowKit
variable {P:Program} {cx:Cx} {B:Base} {K:Nat→Prop} {g g':Gh} {R:Nat→Value} {s:St} {h h':Hp} {w w':World}
theorem putCell_putCell {e:AV} {j:Nat} {x y z:AV} (h:(cells e)[j]?=some x) (hy:nonAgg y=true) (hz:nonAgg z=true):putCell (putCell e j y) j z=putCell e j z:=by
 cases e with
 |agg cs=>simp[putCell]
 |_=>
  simp only[cells]at h
  have hj:j=0:=by
   rcases j with _|j
   ·rfl
   ·simp at h
  subst hj
  simp only[putCell,if_true]
  cases y<;>first|rfl|cases hy
theorem put1_put1 {a x y z:AV} {t:Nat×Nat} (h:step1 a t=some x) (hy:nonAgg y=true) (hz:nonAgg z=true):put1 (put1 a t y) t z=put1 a t z:=by
 obtain⟨i,j⟩:=t
 rcases step1_some h with⟨sz,es,e,rfl,he,hj⟩|⟨e,rfl,rfl,hj⟩
 ·have hi:i<es.length:=(List.getElem?_eq_some_iff.1 he).1
  simp only[put1,he,List.getElem?_set,if_true,hi,putCell_putCell hj hy hz,List.set_set]
 ·simp only[put1,putCell_putCell hj hy hz]
theorem setT_same {a old u c:AV} {p:List (Nat×Nat)} (h:getT a p=some old) (hu:nonAgg u=true) (hc:nonAgg c=true):setT (setT a p u) p c=setT a p c:=by
 induction p generalizing a with
 |nil=>rfl
 |cons t p ih=>
  obtain⟨y,h1,h2,h3,h4⟩:=setT_node h hu
  obtain⟨y',h1',h2',h3',h4'⟩:=setT_node h hc
  rw[h1]at h1';cases h1'
  rw[h2,h2']
  have:step1 (put1 a t (setT y p u)) t=some (setT y p u):=by rw[step1_put1 h1 h4,if_pos rfl]
  simp only[setT,this]
  rw[ih h3,put1_put1 h1 h4 h4']
structure Cell1 (s:St) (B:Base) (K:Nat→Prop) (g:Gh) (h:Hp) (w:World) (par:Pl) (i j:Nat) (n:Nd) (a:AV) (v:Value):Prop where
 dst:∃old,getP h (par.cell i j)=some old
 hpar:g par.r par.p=some n
 rt:RT (mkF B g w) g (fadeC s.d a) v
 src:∀src c,refOf a=some src→look s true src=some c→getP h src=some c
def after (n:Nd) (i j:Nat) (w:World) (v:Value):World:=w.setCell ⟨n.b,n.o+i*n.sz+j,none⟩ v
theorem write_step (H:RM B K g R h w) {par:Pl} {i j:Nat} {n:Nd} {c old:AV} {v:Value} (hd:getP h (par.cell i j)=some old) (hp:g par.r par.p=some n) (hc:isNode c=false) (hca:nonAgg c=true)
  (hl:LF (mkF B g w) (obj w) g c none v) (hk:∀q len,c=.lk q len→K q):
  RM B K (cutG g par.r (par.p++[(i,j)])) R (Up.app h (.set (par.cell i j) c)) (after n i j w v)∧(mkF B g w).le (mkF B (cutG g par.r (par.p++[(i,j)])) (after n i j w v)):=by
 obtain⟨a,ha,hpp⟩:=getP_some hd
 have hw:=H.write ha hpp hp hc hca hl hk
 refine⟨hw.congr fun q=>?_,?_⟩
 ·simp only[Up.app,Pl.cell]at ha ⊢
  rw[ha]
 ·obtain⟨n',u',e1,hw',hi,hj,hu',_⟩:=(H.tree _ a ha).inside hpp
  rw[show par.r=(par.cell i j).r from rfl]at hp
  rw[hp]at e1;cases e1
  have hown:owned g n.b (n.o+i*n.sz+j):=⟨_,_,n,hp,Nd.has_cell hi hj⟩
  refine le_of (fun b o y hy hno=>?_) fun b o y _ hx=>owned_cut hx
  unfold after
  rw[cell_setCell,if_neg];exact hy
  rintro ⟨rfl,rfl,_⟩;exact hno hown
theorem Keep2.cut {par:Pl} {i j:Nat} {c:AV}:Keep2 [.set (par.cell i j) c] g (cutG g par.r (par.p++[(i,j)])):=by
 intro pl m hu hm
 have:=hu _ (by simp:Up.set (par.cell i j) c∈[Up.set (par.cell i j) c])
 rw[cutG_eq];exact hm
 rintro ⟨e1,e2⟩
 simp only[Up.pl,Pl.pre,Pl.cell,e1,nbT,Bool.true_and,e2]at this
 cases this
theorem lay_step {N:Nat} {par:Pl} {i j:Nat} {n:Nd} {x old:AV} {v:Value} {h0:Hp} (H:RM B K g R (hins h0 N x) w) (hN:hget h0 N=none) (hR:R N=v) (hx:isNode x=true) (hd:getP h0 (par.cell i j)=some old) (hp:g par.r par.p=some n) (hone:one v=true):
  ∃g',RM B K g' R (Up.app h0 (.set (par.cell i j) x)) (after n i j w v)∧(mkF B g w).le (mkF B g' (after n i j w v))∧(∀b o,owned g' b o→owned g b o)∧
   (∀pl m,pl.r≠N→(par.cell i j).pre pl=false→g pl.r pl.p=some m→g' pl.r pl.p=some m):=by
 obtain⟨a,ha,hpp⟩:=getP_some hd
 have hqN:par.r≠N:=by rintro e;rw[show(par.cell i j).r=par.r from rfl,e,hN]at ha;cases ha
 have hd':getP (hins h0 N x) (par.cell i j)=some old:=by rw[getP_hins_ne (show(par.cell i j).r≠N from hqN)];exact hd
 obtain⟨hw,hle⟩:=write_step (c:=.un) (v:=v) H hd' hp rfl rfl ⟨rfl,.un _ hone⟩ (fun _ _ e=>by cases e)
 have haN:hget (hins h0 N x) par.r=some a:=by rw[hget_hins,if_neg hqN];exact ha
 have happ:Up.app (hins h0 N x) (.set (par.cell i j) .un)=hins (hins h0 N x) par.r (setT a (par.p++[(i,j)]) .un):=by
  simp only[Up.app,Pl.cell,haN]
 rw[happ]at hw
 have hpp':getT a (par.p++[(i,j)])=some old:=hpp
 have hold2:getT (setT a (par.p++[(i,j)]) .un) (par.p++[(i,j)])=some .un:=by
  have:=getT_setT_under hpp' (c:=.un) (.inr rfl) []
  rwa [List.append_nil]at this
 obtain⟨n',u',e1,hw',hi,hj,hu',_⟩:=(H.tree _ a haN).inside hpp'
 rw[hp]at e1;cases e1
 have hnp:pre (par.p++[(i,j)]) par.p=false:=by
  cases hb:pre (par.p++[(i,j)]) par.p with
  |false=>rfl
  |true=>obtain⟨r,hr⟩:=pre_iff.1 hb;have:=congrArg List.length hr;simp at this
 have hatt:=hw.attach (r:=par.r) (s:=N) (a:=setT a (par.p++[(i,j)]) .un) (c:=x) (old:=.un) (p:=par.p) (i:=i) (j:=j) (n:=n) (by rw[hget_hins,if_pos rfl]) hold2
  (by rw[hget_hins,if_neg (fun e=>hqN e.symm),hget_hins,if_pos rfl]) (fun e=>hqN e.symm) (nonAgg_of_node hx) (by rw[cutG_eq (by rintro ⟨_,e⟩;rw[hnp]at e;cases e)];exact hp)
  (by unfold after;rw[cell_setCell,if_pos ⟨rfl,rfl,by show(w.cell? _).isSome=true;rw[show w.cell? ⟨n.b,n.o+i*n.sz+j,none⟩=some u' from hu'];rfl⟩,hR])
 have hown:∀b o,owned (attG (cutG g par.r (par.p++[(i,j)])) par.r (par.p++[(i,j)]) N) b o→owned g b o:=by
  rintro b o ⟨r',q,k,hk,hb⟩
  unfold attG at hk
  by_cases e:r'=N
  ·rw[if_pos e]at hk;cases hk
  ·rw[if_neg e]at hk
   by_cases e2:r'=par.r∧pre (par.p++[(i,j)]) q=true
   ·rw[if_pos e2]at hk;exact⟨_,_,_,(cutG_some hk).1,hb⟩
   ·rw[if_neg e2]at hk;exact⟨_,_,_,(cutG_some hk).1,hb⟩
 refine⟨_,hatt.congr fun q=>?_,le_trans' hle (le_sub fun b o hb=>?_),hown,fun pl m h1 h2 h3=>?_⟩
 ·have:Up.app h0 (.set (par.cell i j) x)=hins h0 par.r (setT a (par.p++[(i,j)]) x):=by
   have ha':hget h0 par.r=some a:=ha
   simp only[Up.app,Pl.cell,ha']
  rw[this,hget_hins,hget_hdel,hget_hins,hget_hins,hget_hins]
  by_cases e:q=N
  ·subst e;rw[if_neg (fun e=>hqN e.symm),if_pos rfl];exact hN
  ·by_cases e2:q=par.r
   ·subst e2;rw[if_pos rfl,if_neg e,if_pos rfl,setT_same hpp' rfl (nonAgg_of_node hx)]
   ·rw[if_neg e2,if_neg e,if_neg e2,if_neg e2,if_neg e]
 ·obtain⟨r',q,k,hk,hb⟩:=hb
  unfold attG at hk
  by_cases e:r'=N
  ·rw[if_pos e]at hk;cases hk
  ·rw[if_neg e]at hk
   by_cases e2:r'=par.r∧pre (par.p++[(i,j)]) q=true
   ·rw[if_pos e2]at hk;exact⟨_,_,_,hk,hb⟩
   ·rw[if_neg e2]at hk;exact⟨_,_,_,hk,hb⟩
 ·simp only[attG,if_neg h1]
  have hne:¬(pl.r=par.r∧pre (par.p++[(i,j)]) pl.p=true):=by
   rintro ⟨e1,e2⟩
   simp only[Pl.pre,Pl.cell,e1,nbT,Bool.true_and,e2]at h2;cases h2
  rw[if_neg hne,cutG_eq hne];exact h3
def Stepped (B:Base) (K:Nat→Prop) (g:Gh) (h:Hp) (w:World) (us:List Up) (w':World):Prop:=
 ∃g' R',RM B K g' R' (Up.apps us h) w'∧(mkF B g w).le (mkF B g' w')∧Keep2 us g g'
theorem Stepped.one {u:Up} (h1:∃g' R',RM B K g' R' (Up.app h u) w'∧(mkF B g w).le (mkF B g' w')∧Keep2 [u] g g'):Stepped B K g h w [u] w':=h1
theorem move_store (hal:s.alias=false) (hfree:∀h,∃N,hget h N=none∧¬K N) (H:RM B K g R h w) {par:Pl} {i j:Nat} {n:Nd} {a:AV} {v:Value} (C:Cell1 s B K g h w par i j n a v) {x:AV} {r:List Rd} {src:Pl}
  (hab:absorb1 s a=some (x,r,[gone src])) (hr:refOf a=some src) {c:AV} (hl:look s true src=some c) (hap:src.pre (par.cell i j)=false∧(par.cell i j).pre src=false):
  Stepped B K g h w [gone src,.set (par.cell i j) x] (after n i j w v):=by
 obtain⟨N,hN,hKN⟩:=hfree h
 have hok:=okD_of_look hl
 have hrt:RT (mkF B g w) g a v:=by have:=C.rt;rwa [fadeC_ok fun q hq=>by rw[hr]at hq;cases hq;exact hok]at this
 have hX:XD (mkF B g w) g s.d a v:=by
  have hna:nonAgg a=true∧nonTup a=true:=by cases hma:a<;>rw[hma]at hr<;>first|exact⟨rfl,rfl⟩|cases hr
  exact cellX C.rt hna.1 hna.2
 obtain⟨src',g1,R1,e1,r1,r2,r3,r4,r5,r6⟩:=H.takeOut hal hab hX (fun pl c hl' hu=>by
  have:pl=src:=by
   have h1:=congrArg Up.pl hu
   rw[gone_pl,gone_pl]at h1;exact h1.symm
  subst this;exact C.src _ _ hr hl') hN hKN
 have hsrc:src'=src:=by
  have h1:=congrArg Up.pl e1
  rw[gone_pl,gone_pl]at h1;exact h1.symm
 subst hsrc
 obtain⟨old,hd⟩:=C.dst
 have hg0:=C.src _ _ hr hl
 have hd1:getP (Up.app h (gone src')) (par.cell i j)=some old:=by rw[getP_gone hg0 hap];exact hd
 have hqN:par.r≠N:=by
  obtain⟨a',ha',_⟩:=getP_some hd
  rintro e;rw[show(par.cell i j).r=par.r from rfl,e,hN]at ha';cases ha'
 have hsp:src'.pre par=false:=by
  cases hb:src'.pre par with
  |false=>rfl
  |true=>have:=Pl.pre_trans hb (pre_cell par i j);rw[hap.1]at this;cases this
 obtain⟨g2,k1,k2,k3,k4⟩:=lay_step r1 r3 r2 r4 hd1 (r6 par n hqN hsp C.hpar) hrt.one
 refine⟨g2,R1,k1,le_trans' (le_sub r5) k2,fun pl m hu hm=>?_⟩
 have hpN:pl.r≠N:=by rintro e;rw[e,H.void N hN]at hm;cases hm
 have u1:=hu (gone src') (by simp)
 rw[gone_pl]at u1
 exact k4 pl m hpN (hu (.set (par.cell i j) x) (by simp)) (r6 pl m hpN u1 hm)
theorem store1_ok (hfree:∀h,∃N,hget h N=none∧¬K N) {keep:Nat} (H:RM B K g R h w) {par:Pl} {i j:Nat} {n:Nd} {a:AV} {v:Value} (C:Cell1 s B K g h w par i j n a v) {x:AV} {r:List Rd} {us:List Up}
  (he:putSt1 s keep (par.cell i j) a=some (x,r,us)) (hap:apartUps us=true) (hk:∀q len,x=.lk q len→K q):Stepped B K g h w us (after n i j w v):=by
 obtain⟨old,hd⟩:=C.dst

 have leaf:∀c,RF (mkF B g w) c v→Stepped B K g h w [.set (par.cell i j) c] (after n i j w v):=by
  intro c hc
  obtain⟨s1,s2,s3⟩:=RF_shape hc
  have hl:LF (mkF B g w) (obj w) g c none v:=by cases hc<;>first|exact⟨rfl,.int _ _⟩|exact⟨rfl,.bool _⟩|exact⟨rfl,.str _⟩|exact⟨rfl,.nilp⟩|exact⟨rfl,.nil _⟩|exact⟨rfl,.un _ (by assumption)⟩|(refine⟨rfl,?_⟩;first|exact .fzs _ _ _ _ _ _ _ (by assumption) (by assumption) (by assumption) (by assumption)|exact .fp _ _ _ _ _ (by assumption) (by assumption))
  obtain⟨w1,w2⟩:=write_step (c:=c) H hd C.hpar s1 s3 hl (fun q len e=>absurd e (s2 q len))
  exact⟨_,_,w1,w2,Keep2.cut⟩
 have unl:one v=true→Stepped B K g h w [.set (par.cell i j) .un] (after n i j w v):=fun ho=>leaf .un (.un v ho)
 have hone:one v=true:=C.rt.one
 have gen:∀{x r us},absorb1 s a=some (x,r,us)→apartUps (us++[.set (par.cell i j) x])=true→Stepped B K g h w (us++[.set (par.cell i j) x]) (after n i j w v):=by
  intro x r us hab hap
  by_cases hal:s.alias=true
  ·-- references are forgotten
   cases hra:refOf a with
   |none=>
    have hlf:=leaf_of hra C.rt
    have:us=[]∧x=a:=by
     cases a<;>simp[refOf]at hra<;>simp[absorb1,oops]at hab<;>exact⟨by simp[hab],hab.1.symm⟩
    rw[this.1,this.2];exact leaf a hlf
   |some src=>
    have:us=[]∧x=.un:=by
     cases a<;>simp[refOf]at hra<;>simp[absorb1,hal,oops]at hab<;>exact⟨by simp[hab],hab.1.symm⟩
    rw[this.1,this.2];exact unl hone
  ·have hal:s.alias=false:=by simpa using hal
   rcases absorb1_cases hal hab with⟨rfl,rfl,hr⟩|⟨src,c,rfl,hr,hl,hx⟩
   ·exact leaf _ (leaf_of hr C.rt)
   ·refine move_store hal hfree H C hab hr hl ?_
    have:=(apartUps_cons hap).1 (.set (par.cell i j) x) (by simp)
    rw[gone_pl]at this;exact this
 have linkW:∀q len,K q→LF (mkF B g w) (obj w) g (.lk q len) none v→Stepped B K g h w [.set (par.cell i j) (.lk q len)] (after n i j w v):=by
  intro q len hq hl
  obtain⟨w1,w2⟩:=write_step (c:=.lk q len) H hd C.hpar rfl rfl hl (fun q' len' e=>by cases e;exact hq)
  exact⟨_,_,w1,w2,Keep2.cut⟩
 cases a with
 |rf sz pl off len=>
  simp only[putSt1]at he
  split at he
  ·simp only[Option.some.injEq,Prod.mk.injEq]at he
   obtain⟨rfl,rfl,rfl⟩:=he
   exact unl hone
  ·rename_i hal
   have hal:s.alias=false:=by simpa using hal
   split at he
   ·rename_i hc
    simp only[Bool.and_eq_true,Bool.not_eq_true',List.isEmpty_iff,beq_iff_eq]at hc
    cases hu:useOk s pl with
    |false=>rw[hu]at he;cases he
    |true=>
     rw[hu,cond_true,Option.some.injEq,Prod.mk.injEq,Prod.mk.injEq]at he
     obtain⟨rfl,rfl,rfl⟩:=he
     refine linkW _ _ (hk _ _ rfl) ⟨rfl,hone,fun m hm=>?_⟩
     obtain⟨cap,k,n',f1,f2,f3,f4,f5,f6,rfl⟩:=X_rf (cellX C.rt rfl rfl) (useOk_iff.1 hu)
     rw[hc.1.1]at f1
     rw[f1]at hm;cases hm
     exact⟨f2,.inl ⟨len,k,cap,rfl,f4,f5,by rcases f6 with h|h;exact .inl h;exact .inr (by rw[h];exact hc.1.2),rfl⟩⟩
   ·split at he
    ·rename_i hpp
     simp only[Bool.and_eq_true]at hpp
     cases hl:look s true pl with
     |none=>simp[hl,oops]at he
     |some c=>
      simp only[hl]at he
      cases c with
      |ow sz' es=>
       simp only[oops]at he
       split at he
       ·rename_i hcc
        simp only[Option.some.injEq,Prod.mk.injEq]at he
        obtain⟨rfl,rfl,rfl⟩:=he

        have hplq:pl=par.cell i j:=by
         obtain⟨p1,p2⟩:=hpp
         simp only[Pl.pre,Bool.and_eq_true]at p1 p2
         obtain⟨a1,ha1⟩:=pre_iff.1 p1.2
         obtain⟨a2,ha2⟩:=pre_iff.1 p2.2
         have hlen:=congrArg List.length ha1
         have hlen2:=congrArg List.length ha2
         simp at hlen hlen2
         have:a1=[]:=by cases a1 with|nil=>rfl|cons _ _=>simp at hlen;omega
         subst this
         cases pl
         simp at ha1 p1
         simp[p1]
         cases hpc:par.cell i j;simp_all
        have hab:absorb1 s (.rf sz pl off len)=some (.ow sz ((es.drop off).take len),[⟨pl,true⟩],[gone pl]):=by
         simp only[absorb1,hal,Bool.false_eq_true,if_false,hl]
         rw[if_pos hcc]
        obtain⟨N,hN,hKN⟩:=hfree h
        obtain⟨src',g1,R1,e1,r1,r2,r3,r4,r5,r6⟩:=H.takeOut hal hab (cellX C.rt rfl rfl) (fun q c hl' hu'=>by
         have:q=pl:=by
          have h1:=congrArg Up.pl hu'
          rw[gone_pl,gone_pl]at h1;exact h1.symm
         subst this;exact C.src _ _ rfl hl') hN hKN
        have hsrc:src'=pl:=by
         have h1:=congrArg Up.pl e1
         rw[gone_pl,gone_pl]at h1;exact h1.symm
        subst hsrc
        have hqN:par.r≠N:=by
         obtain⟨a',ha',_⟩:=getP_some hd
         rintro e;rw[show(par.cell i j).r=par.r from rfl,e,hN]at ha';cases ha'
        obtain⟨a0,ha0,hp0⟩:=getP_some hd
        have hp0':getT a0 (par.p++[(i,j)])=some old:=hp0
        have happ:Up.app h (gone src')=hins h par.r (setT a0 (par.p++[(i,j)]) .un):=by
         rw[hplq];exact app_gone_cell (src:=par.cell i j) (p:=par.p) (i:=i) (j:=j) rfl ha0
        have hd1:getP (Up.app h (gone src')) (par.cell i j)=some .un:=by
         rw[happ]
         unfold getP
         rw[show(par.cell i j).r=par.r from rfl,hget_hins,if_pos rfl]
         have:=getT_setT_under hp0' (c:=.un) (.inr rfl) []
         rw[List.append_nil]at this;exact this
        have hsp:src'.pre par=false:=by
         rw[hplq]
         simp only[Pl.pre,Pl.cell,nbT,Bool.true_and]
         cases hb:pre (par.p++[(i,j)]) par.p with
         |false=>rfl
         |true=>obtain⟨r,hr⟩:=pre_iff.1 hb;have:=congrArg List.length hr;simp at this
        obtain⟨g2,k1,k2,k3,k4⟩:=lay_step r1 r3 r2 r4 hd1 (r6 par n hqN hsp C.hpar) hone
        refine⟨g2,R1,k1.congr fun q=>?_,le_trans' (le_sub r5) k2,fun q m hu' hm=>?_⟩
        ·have ha0':hget h par.r=some a0:=ha0
         have h1:Up.apps [.set (par.cell i j) (.ow sz ((es.drop off).take len))] h=hins h par.r (setT a0 (par.p++[(i,j)]) (.ow sz ((es.drop off).take len))):=by
          simp only[Up.apps,Up.app,Pl.cell,ha0']
         have h2:Up.app (Up.app h (gone src')) (.set (par.cell i j) (.ow sz ((es.drop off).take len)))=hins (hins h par.r (setT a0 (par.p++[(i,j)]) .un)) par.r (setT (setT a0 (par.p++[(i,j)]) .un) (par.p++[(i,j)]) (.ow sz ((es.drop off).take len))):=by
          rw[happ]
          have h3:hget (hins h par.r (setT a0 (par.p++[(i,j)]) .un)) par.r=some (setT a0 (par.p++[(i,j)]) .un):=by rw[hget_hins,if_pos rfl]
          simp only[Up.app,Pl.cell,h3]
         rw[h1,h2,hget_hins,hget_hins,hget_hins,setT_same hp0' rfl rfl]
         by_cases e:q=par.r<;>simp[e]
        ·have hpN:q.r≠N:=by rintro e;rw[e,H.void N hN]at hm;cases hm
         have hu2:=hu' (.set (par.cell i j) (.ow sz ((es.drop off).take len))) (by simp)
         exact k4 q m hpN hu2 (r6 q m hpN (by rw[hplq];exact hu2) hm)
       ·cases he
      |_=>cases he
    ·rename_i hpp
     cases hab:absorb1 s (.rf sz pl off len)with
     |none=>simp[hab]at he
     |some q=>
      obtain⟨x',r',us'⟩:=q
      simp only[hab,Option.some.injEq,Prod.mk.injEq]at he
      obtain⟨rfl,rfl,rfl⟩:=he
      exact gen hab hap
 |ptr pl i' off=>
  simp only[putSt1]at he
  split at he
  ·rename_i hc
   simp only[Bool.and_eq_true,Bool.not_eq_true',List.isEmpty_iff,beq_iff_eq]at hc
   cases hu:useOk s pl with
   |false=>rw[hu]at he;cases he
   |true=>
    rw[hu,cond_true,Option.some.injEq,Prod.mk.injEq,Prod.mk.injEq]at he
    obtain⟨rfl,rfl,rfl⟩:=he
    refine linkW _ _ (hk _ _ rfl) ⟨rfl,hone,fun m hm=>?_⟩
    obtain⟨n',f1,f2,rfl⟩:=X_ptr (cellX C.rt rfl rfl) (useOk_iff.1 hu)
    rw[hc.1.1.1.2]at f1
    rw[f1]at hm;cases hm
    exact⟨f2,.inr ⟨rfl,by rw[hc.1.1.2,hc.1.2];simp⟩⟩
  ·cases hab:absorb1 s (.ptr pl i' off)with
   |none=>simp[hab]at he
   |some q=>
    obtain⟨x',r',us'⟩:=q
    simp only[hab,Option.some.injEq,Prod.mk.injEq]at he
    obtain⟨rfl,rfl,rfl⟩:=he
    exact gen hab hap
 |_=>
  simp only[putSt1]at he
  split at he
  ·rename_i x' r' us' hab
   simp only[Option.some.injEq,Prod.mk.injEq]at he
   obtain⟨rfl,rfl,rfl⟩:=he
   exact gen hab hap
  ·cases he
end Go.Am
end
