/- PullParsesUptoSaid: the law quoinlaw18.PullParses answers true and leaves its arguments, for all arguments that hold together at most 1048576 values and letters. Condition: that bound alone, as the row has it. -/
import Derived.Below
import Derived.ChangeOld
import Derived.JoinedCond
import Derived.OpenShut
import Derived.ProofKit
import Derived.ShutString
import Derived.SizedLaws
import Derived.Test.YtbbdljhpjomclaaM6
import Derived.Test.YtbbdljhpjomclaaRows
import Derived.WalkKit
section
namespace Go.Proofs.Ytbbdljhpjomclaa.bulks
theorem one_le {H:Type} (d:DataW H):1≤Rows.uptoBulk d:=by
 cases d with
 |lit l=>cases l<;>simp[Rows.uptoBulk]
 |nil=>simp[Rows.uptoBulk]
 |ptr d=>simp[Rows.uptoBulk]
 |slice elems spare=>simp[Rows.uptoBulk]
 |agg parts=>simp[Rows.uptoBulk]
 |iface t d=>simp[Rows.uptoBulk]
 |map entries=>simp[Rows.uptoBulk]
 |held h=>simp[Rows.uptoBulk]
theorem part_le {H:Type} {d:DataW H} {l:List (DataW H)} (h:d∈l):Rows.uptoBulk d≤Rows.uptoBulkAll l:=by
 induction l with
 |nil=>cases h
 |cons x r ih=>
  simp only[Rows.uptoBulkAll]
  cases List.mem_cons.1 h with
  |inl e=>subst e;omega
  |inr e=>have:=ih e;omega
theorem append {H:Type} (l r:List (DataW H)):Rows.uptoBulkAll (l++r)=Rows.uptoBulkAll l+Rows.uptoBulkAll r:=by
 induction l with
 |nil=>simp[Rows.uptoBulkAll]
 |cons x l ih=>simp only[List.cons_append,Rows.uptoBulkAll,ih];omega
theorem length_le {H:Type} (l:List (DataW H)):l.length≤Rows.uptoBulkAll l:=by
 induction l with
 |nil=>simp[Rows.uptoBulkAll]
 |cons x r ih=>have:=one_le x;simp only[Rows.uptoBulkAll,List.length_cons];omega
theorem slice_le {H:Type} (elems spare:List (DataW H)):elems.length+spare.length+1≤Rows.uptoBulk (.slice elems spare):=by
 have h1:=length_le elems
 have h2:=length_le spare
 simp only[Rows.uptoBulk]
 omega
theorem slice_elems {H:Type} (elems spare:List (DataW H)):Rows.uptoBulkAll elems+1≤Rows.uptoBulk (.slice elems spare):=by
 simp only[Rows.uptoBulk]
 omega
theorem string_eq {H:Type} (bytes:List UInt8):Rows.uptoBulk (DataW.lit (H:=H) (.string bytes))=bytes.length+1:=by
 simp[Rows.uptoBulk]
theorem bound {H:Type} {l:List (DataW H)} (hk:Rows.uptoSmall H l=true):Rows.uptoBulkAll l≤1048576:=by
 simpa[Rows.uptoSmall]using hk
end Go.Proofs.Ytbbdljhpjomclaa.bulks
end
section
namespace Go.Am.Pull
open Go Go.Proofs Go.Am
set_option maxRecDepth 100000
def knownP:List Ent:=[en13]
theorem known_allP:∀e∈knownP,Known Try.prog cx e:=by
 intro e he
 simp only[knownP,List.mem_cons,List.not_mem_nil,or_false]at he
 subst he
 exact kn13
theorem not_knownP:∀e∈knownP,e.f ∉ reachedP:=by
 intro e he
 simp only[knownP,List.mem_cons,List.not_mem_nil,or_false]at he
 subst he;decide
theorem awake_ansP:Ans cx knownP 15 [] (.bool true,[]):=ans_known (e:=en13) (by kernel_rfl)
end Go.Am.Pull
namespace Go.Proofs.Ytbbdljhpjomclaa.pullParsesUpto
open Go.ChangeShapes Go.WideShapes Go.ChangeAt Go.RowKit Go.Am
set_option linter.unusedVariables false
theorem own:ownKnob Try.prog.godebug=none:=by kernel_rfl
theorem laidOut:laidOutB Try.prog=true:=by kernel_rfl
theorem small {H:Type}:Small (H:=H) (fun d=>Rows.uptoBulk d≤1048576) 1048576 where
 str:=fun l h=>by have:=bulks.string_eq (H:=H) l;omega
 slice:=fun e s h=>⟨by have:=bulks.slice_le e s;omega,fun x hx=>by have:=bulks.slice_elems e s;have:=bulks.part_le hx;omega⟩
 agg:=fun l h x hx=>by
  have:=bulks.part_le hx
  simp only[Rows.uptoBulk]at h
  omega
set_option maxRecDepth 100000 in
theorem lifted (os:Os) (started:os.Started) (H:Type) (enc:TypeId×Value→H) (F:Stop.Interp):
  ReturnsInHanded {} Try.checked os 3 .any ((Rows.OpenSpec.upto Rows.pullParsesSpec).pre6 enc Try.prog Try.f3 Rows.pullParsesUptoRow.domain false) (((Rows.OpenSpec.upto Rows.pullParsesSpec).at F).post enc Try.prog Try.f3 false true false false):=by
 refine returnsInHanded_of_cond (C:=Try.checked) (s:=Rows.OpenSpec.upto Rows.pullParsesSpec) (k:=Rows.uptoSmall) rfl own started (by kernel_rfl) Try.func3
  (OpenSpec.witness (enc:=enc) (C:=Try.checked) (s:=Rows.OpenSpec.upto Rows.pullParsesSpec) (k:=Rows.uptoSmall) rfl false ⟨#[],#[.agg #[.slice none 0 0,.slice none 0 0,.slice none 0 0,.slice none 0 0,.int .i64 0],.agg #[.slice none 0 0,.slice none 0 0],.slice none 0 0],[]⟩ 8 (by kernel_rfl) (by kernel_rfl) (by kernel_rfl)
   (x:=([.agg [.nil,.nil,.nil,.nil,.lit (.int .i64 0)],.agg [.nil,.nil],.nil],[],[])) (by kernel_rfl) rfl (by kernel_rfl)) ?_
 intro W base args ds gs before hval0 hW _ hk _
 have hval:∀(j:Nat) t v,Try.f3.params[j]?=some t→args[j]?=some v→Value.okWide Try.prog W .any base t v:=hval0
 have hW':DataW.Whole enc Try.prog Try.f3.params.toList Rows.pullParsesSpec.vars false W args.toList ds gs before:=hW
 obtain⟨p,q,hA0,hV,rfl,hfz,hnd⟩:=hW
 have hA:DataW.TrodAll enc Try.prog W 0 (fun _=>true) true Try.f3.params.toList args.toList ds p:=hA0
 rw[Try.params3]at hA hval
 obtain⟨v0,vs0,d0,ds0,p0,q0,hargs,rfl,rfl,h0,r0⟩:=trodAll_cons hA
 obtain⟨v1,vs1,d1,ds1,p1,q1,rfl,rfl,rfl,h1,r1⟩:=trodAll_cons r0
 obtain⟨v2,vs2,d2,ds2,p2,q2,rfl,rfl,rfl,h2,r2⟩:=trodAll_cons r1
 obtain⟨rfl,rfl,rfl⟩:=trodAll_nil r2
 obtain rfl:args= #[v0,v1,v2]:=by cases args;simp_all
 obtain⟨rfl,rfl⟩:=trodVars_none hV
 have hbk:=bulks.bound hk
 have b0:Rows.uptoBulk d0≤1048576:=Nat.le_trans (bulks.part_le (by simp)) hbk
 have b1:Rows.uptoBulk d1≤1048576:=Nat.le_trans (bulks.part_le (by simp)) hbk
 have b2:Rows.uptoBulk d2≤1048576:=Nat.le_trans (bulks.part_le (by simp)) hbk
 obtain⟨c0,rfl,_⟩:=hval 0 26 v0 rfl rfl
 obtain⟨c1,rfl,_⟩:=hval 1 30 v1 rfl rfl
 obtain⟨a2,len2,cap2,rfl⟩:=okWide_slice Pull.u31 (hval 2 31 v2 rfl rfl)
 have k0:=h0
 have k1:=h1
 have k2:=h2
 have lt0:∀x∈p0,x.block<W.heap.size:=by obtain⟨m,hm⟩:=k0;exact DataW.trod_lt m _ _ _ hm
 have lt1:∀x∈p1,x.block<W.heap.size:=by obtain⟨m,hm⟩:=k1;exact DataW.trod_lt m _ _ _ hm
 have lt2:∀x∈p2,x.block<W.heap.size:=by obtain⟨m,hm⟩:=k2;exact DataW.trod_lt m _ _ _ hm
 obtain⟨n0,h0⟩:=h0
 obtain⟨n1,h1⟩:=h1
 obtain⟨n2,h2⟩:=h2
 obtain⟨g,hg,x0⟩:=Pull.o26 small n0 _ _ h0 b0
 obtain⟨t,ht,x1⟩:=Pull.o30 small n1 _ _ h1 b1
 obtain⟨row,⟨hr,hrl,_⟩,x2⟩:=Pull.o31 small n2 _ _ h2 b2
 have hans:=Pull.parses_all Pull.not_knownP Pull.awake_ansP hg (Pull.ty_of hg ht) ht.rows hr (by omega)
 clear hA0 hval0
 refine(calls_of Pull.okT Pull.mixed Pull.okF hans Pull.known_allP Pull.F3 rfl (.cons (xd_agg x0) (.cons (xd_agg x1) (.cons (xd_one x2) .nil)))).mono fun e W' ⟨he,bel⟩=>?_
 subst he
 exact⟨_,rfl,_,_,_,[],_,[],hW',trodAll_mk1 (shut_bool Try.underlying4 _),(trodAll_cons_mk (Below.trod laidOut (by kernel_rfl) (of_decide_eq_true (by kernel_rfl)) k0 bel lt0) (trodAll_cons_mk (Below.trod laidOut (by kernel_rfl) (of_decide_eq_true (by kernel_rfl)) k1 bel lt1) (trodAll_cons_mk (Below.trod laidOut (by kernel_rfl) (of_decide_eq_true (by kernel_rfl)) k2 bel lt2) trodAll_mk0))),rfl,bel.frame _,fun h=>by cases h⟩
theorem over:Rows.pullParsesUptoRow.holds Try.pinned (Rows.OpenSpec.upto Rows.pullParsesSpec):=
 OpenClaim.holds_of_cond 3 Try.f3 rfl rfl rfl rfl rfl rfl rfl ⟨rfl,rfl,rfl,rfl,rfl⟩ rfl rfl rfl rfl rfl (by kernel_rfl) Try.func3 (by kernel_rfl)
  (of_decide_eq_true (by kernel_rfl)) (by unfold Func.isWrapper;first|(rw[if_pos (by decide +kernel)];kernel_rfl)|(rw[if_neg (by decide +kernel)];exact⟨rfl,rfl⟩))
  (fun os started H enc _ F=>lifted os started H enc F)
theorem proved:Rows.PullParsesUptoSaid:=over
end Go.Proofs.Ytbbdljhpjomclaa.pullParsesUpto
namespace Go.Proofs.Ytbbdljhpjomclaa
theorem pullParsesUpto_holds:Rows.PullParsesUptoSaid:=pullParsesUpto.proved
end Go.Proofs.Ytbbdljhpjomclaa
end
