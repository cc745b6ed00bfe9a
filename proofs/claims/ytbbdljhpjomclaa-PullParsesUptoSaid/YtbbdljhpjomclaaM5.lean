/- The texts Ex6, Pull34, Ex2, Ex1, Pull23, Pull24, Pull25, Pull26, Pull27, Pull28, Pull29, Pull35, Pull36, Pull37 of this proof. -/
import Derived.Test.YtbbdljhpjomclaaM4
section
namespace Go.Am.Pull
open Go Go.Proofs Go.Am
set_option maxRecDepth 100000
set_option maxHeartbeats 4000000
noncomputable def fn26:FnS:=(mkA Try.f26 ⟨17867098038239,[0,0,0],false,[34045963,34111499,34177035,34045965,34111501,34177037,34045966,34111502,34177038]⟩).getD ⟨.skip,0,[],[],0,[],false,[]⟩
theorem F26:cx.F 26=some fn26:=by kernel_rfl
def lv26:Lvs:=⟨[2,1,0],[(0,[7,6,4,3,2]),(1,[8,7,6,2]),(2,[9,8,7,6,2]),(3,[19,9,8,7,6,2]),(5,[10,9,8,7,6,2]),(6,[25,10,9,8,7,6,2]),(7,[10,9,8,7,6,2]),(8,[12,11,9,8,7,6,2]),(9,[38,12,11,9,8,7,6,2]),(10,[7,6]),(11,[44,9,8,7,6,2]),(12,[7,6]),(4,[9,8,7,6,2]),(13,[7,6])],[(0,[9,8,7,6,2])],[(15,[0,0,0,0,0,0,0,1,0,0,0],[]),(34,[],[0,0,0,0,0,0,0,3,3,3,0])]⟩
noncomputable def L26_0 (C:CallF) (n:Nat) (g:Plain) (t:Table) (row:Sl Int) (x9:Int) (h8_0l:Nat) (h8_0z:Nat) (h8_0e:List AV) (h8_1l:Nat) (h8_1z:Nat) (h8_1e:List AV) (h8_2l:Nat) (h8_2z:Nat) (h8_2e:List AV) (h8_3l:Nat) (h8_3z:Nat) (h8_3e:List AV) (h8_4:Int) (h8_5l:Nat) (h8_5z:Nat) (h8_5e:List AV) (h8_6l:Nat) (h8_6z:Nat) (h8_6e:List AV) (h8_7zv:AV) (h8_8lv:AV) (h8_9lv:AV) (h8_10:Int):Rs:=loopE cx C lv26 fn26 [g.av,t.av,Sl.av vi row] n 0 ⟨[(9,(vi x9)),(8,(.ptr ⟨8,[]⟩ 0 0)),(7,(.ptr ⟨7,[]⟩ 0 0)),(6,(.ptr ⟨6,[]⟩ 0 0)),(2,(Sl.av vi row))],[(3,(.bx g.av)),(4,(.bx t.av)),(6,(.bx (.agg [(.fz 1 0 []),(.fz 1 0 []),(.fz 1 0 []),(.fz 1 0 []),(vi 0),(.fz 1 0 []),(.fz 1 0 []),(.fz 1 0 []),(.fz 1 0 []),(.fz 1 0 []),(vi 0)]))),(7,(.bx (.agg [(vi 0),(vi 0),(vi 0),(vi 0),(.fz 1 0 [])]))),(8,(.bx (.agg [(.fz h8_0l h8_0z h8_0e),(.fz h8_1l h8_1z h8_1e),(.fz h8_2l h8_2z h8_2e),(.fz h8_3l h8_3z h8_3e),(vi h8_4),(.fz h8_5l h8_5z h8_5e),(.fz h8_6l h8_6z h8_6e),h8_7zv,h8_8lv,h8_9lv,(vi h8_10)])))],[],false⟩
theorem E26 {C:CallF} {n:Nat} {g:Plain} {t:Table} {row:Sl Int}:fnE cx C lv26 fn26 n [g.av,t.av,Sl.av vi row]=(bindE (C 38 [g.av,t.av]) fun v1 o2=>cN o2 <| asG v1 fun c3=>cF c3 fun l4 z5 e6 c7=>cF c7 fun l8 z9 e10 c11=>cF c11 fun l12 z13 e14 c15=>cF c15 fun l16 z17 e18 c19=>cI .i64 c19 fun n20 c21=>cF c21 fun l22 z23 e24 c25=>cF c25 fun l26 z27 e28 c29=>cO c29 fun z30 e31 c32=>rq (Nat.beq z30 1) <| cF c32 fun l33 z34 e35 c36=>cF c36 fun l37 z38 e39 c40=>cI .i64 c40 fun n41 c42=>cN c42 <| rq (Nat.beq ((e31.length+1)) ((e31.length+1))) <| rq (Nat.beq ((e31.length+1)) ((e31.length+1))) <| rq (noLk (.ow 1 e31)) <| L26_0 C n g t row 0 l4 z5 e6 l8 z9 e10 l12 z13 e14 l16 z17 e18 n20 l22 z23 e24 l26 z27 e28 (.ow 1 e31) (.fz l33 z34 e35) (.fz l37 z38 e39) n41):=by kernel_rfl
theorem E26_0 {C:CallF} {n:Nat} {g:Plain} {t:Table} {row:Sl Int} {x9:Int} {h8_0l:Nat} {h8_0z:Nat} {h8_0e:List AV} {h8_1l:Nat} {h8_1z:Nat} {h8_1e:List AV} {h8_2l:Nat} {h8_2z:Nat} {h8_2e:List AV} {h8_3l:Nat} {h8_3z:Nat} {h8_3e:List AV} {h8_4:Int} {h8_5l:Nat} {h8_5z:Nat} {h8_5e:List AV} {h8_6l:Nat} {h8_6z:Nat} {h8_6e:List AV} {h8_7zv:AV} {h8_8lv:AV} {h8_9lv:AV} {h8_10:Int}:L26_0 C (n+1) g t row x9 h8_0l h8_0z h8_0e h8_1l h8_1z h8_1e h8_2l h8_2z h8_2e h8_3l h8_3z h8_3e h8_4 h8_5l h8_5z h8_5e h8_6l h8_6z h8_6e h8_7zv h8_8lv h8_9lv h8_10=(br (decide (x9≤(↑(List.map vi row.l).length:Int))) (br (decide (x9<(↑(List.map vi row.l).length:Int))) (ixE (List.map vi row.l) x9 fun a1=>rq (Nat.beq row.sz 1) <| nthE (cells a1) 0 fun a2=>asI .i64 a2 fun n3=>rq (noLk h8_7zv) <| rq (noLk h8_8lv) <| rq (noLk h8_9lv) <| bindE (C 39 [(.bx (.agg [(.fz h8_0l h8_0z h8_0e),(.fz h8_1l h8_1z h8_1e),(.fz h8_2l h8_2z h8_2e),(.fz h8_3l h8_3z h8_3e),(vi h8_4),(.fz h8_5l h8_5z h8_5e),(.fz h8_6l h8_6z h8_6e),h8_7zv,h8_8lv,h8_9lv,(vi h8_10)])),(vi n3),(.agg [(vi (-1)),(vi x9),(.fz 1 0 [])])]) fun v4 o5=>c1 o5 fun v6=>asX v6 fun v7=>asG v7 fun c8=>cF c8 fun l9 z10 e11 c12=>cF c12 fun l13 z14 e15 c16=>cF c16 fun l17 z18 e19 c20=>cF c20 fun l21 z22 e23 c24=>cI .i64 c24 fun n25 c26=>cF c26 fun l27 z28 e29 c30=>cF c30 fun l31 z32 e33 c34=>cA c34 fun x35 c36=>cA c36 fun x37 c38=>cA c38 fun x39 c40=>cI .i64 c40 fun n41 c42=>cN c42 <| rq (noLk x35) <| rq (noLk x37) <| rq (noLk x39) <| asT v4 fun c43=>rq (nonAgg x35) <| rq (nonAgg x37) <| rq (nonAgg x39) <| nthE (frzL 0 c43) 0 fun a44=>asI .i64 a44 fun n45=>nthE (frzL 0 c43) 1 fun a46=>asI .i64 a46 fun n47=>br ((!n47==0)) (asF (frz 0 x39) fun l48 z49 e50=>asF (frz 0 x37) fun l51 z52 e53=>asF (frz 0 x35) fun l54 z55 e56=>some ((.tup [(.agg [(.fz l9 z10 e11),(.fz l13 z14 e15),(.fz l17 z18 e19),(.fz l21 z22 e23),(vi n25),(.fz l27 z28 e29),(.fz l31 z32 e33),(.fz l54 z55 e56),(.fz l51 z52 e53),(.fz l48 z49 e50),(vi n41)]),(.agg [(vi n47),(vi x9),(vi 0),(vi 0),(.fz 1 0 [])])]),[])) (br (n45==2) (asF (frz 0 x39) fun l57 z58 e59=>asF (frz 0 x37) fun l60 z61 e62=>asF (frz 0 x35) fun l63 z64 e65=>ixE e62 0 fun a66=>rq (Nat.beq z61 3) <| cI .i64 (List.take 3 (List.drop 0 (cells a66))) fun n67 c68=>cI .i64 c68 fun n69 c70=>cF c70 fun l71 z72 e73 c74=>cN c74 <| some ((.tup [(.agg [(.fz l9 z10 e11),(.fz l13 z14 e15),(.fz l17 z18 e19),(.fz l21 z22 e23),(vi n25),(.fz l27 z28 e29),(.fz l31 z32 e33),(.fz l63 z64 e65),(.fz l60 z61 e62),(.fz l57 z58 e59),(vi n41)]),(.agg [(vi 0),(vi 0),(vi n67),(vi n69),(.fz l71 z72 e73)])]),[])) (L26_0 C n g t row (IntKind.i64.wrap (x9+1)) l9 z10 e11 l13 z14 e15 l17 z18 e19 l21 z22 e23 n25 l27 z28 e29 l31 z32 e33 x35 x37 x39 n41))) (rq (noLk h8_7zv) <| rq (noLk h8_8lv) <| rq (noLk h8_9lv) <| bindE (C 39 [(.bx (.agg [(.fz h8_0l h8_0z h8_0e),(.fz h8_1l h8_1z h8_1e),(.fz h8_2l h8_2z h8_2e),(.fz h8_3l h8_3z h8_3e),(vi h8_4),(.fz h8_5l h8_5z h8_5e),(.fz h8_6l h8_6z h8_6e),h8_7zv,h8_8lv,h8_9lv,(vi h8_10)])),(vi 0),(.agg [(vi (-1)),(vi x9),(.fz 1 0 [])])]) fun v75 o76=>c1 o76 fun v77=>asX v77 fun v78=>asG v78 fun c79=>cF c79 fun l80 z81 e82 c83=>cF c83 fun l84 z85 e86 c87=>cF c87 fun l88 z89 e90 c91=>cF c91 fun l92 z93 e94 c95=>cI .i64 c95 fun n96 c97=>cF c97 fun l98 z99 e100 c101=>cF c101 fun l102 z103 e104 c105=>cA c105 fun x106 c107=>cA c107 fun x108 c109=>cA c109 fun x110 c111=>cI .i64 c111 fun n112 c113=>cN c113 <| rq (noLk x106) <| rq (noLk x108) <| rq (noLk x110) <| asT v75 fun c114=>rq (nonAgg x106) <| rq (nonAgg x108) <| rq (nonAgg x110) <| nthE (frzL 0 c114) 0 fun a115=>asI .i64 a115 fun n116=>nthE (frzL 0 c114) 1 fun a117=>asI .i64 a117 fun n118=>br ((!n118==0)) (asF (frz 0 x110) fun l119 z120 e121=>asF (frz 0 x108) fun l122 z123 e124=>asF (frz 0 x106) fun l125 z126 e127=>some ((.tup [(.agg [(.fz l80 z81 e82),(.fz l84 z85 e86),(.fz l88 z89 e90),(.fz l92 z93 e94),(vi n96),(.fz l98 z99 e100),(.fz l102 z103 e104),(.fz l125 z126 e127),(.fz l122 z123 e124),(.fz l119 z120 e121),(vi n112)]),(.agg [(vi n118),(vi x9),(vi 0),(vi 0),(.fz 1 0 [])])]),[])) (br (n116==2) (asF (frz 0 x110) fun l128 z129 e130=>asF (frz 0 x108) fun l131 z132 e133=>asF (frz 0 x106) fun l134 z135 e136=>ixE e133 0 fun a137=>rq (Nat.beq z132 3) <| cI .i64 (List.take 3 (List.drop 0 (cells a137))) fun n138 c139=>cI .i64 c139 fun n140 c141=>cF c141 fun l142 z143 e144 c145=>cN c145 <| some ((.tup [(.agg [(.fz l80 z81 e82),(.fz l84 z85 e86),(.fz l88 z89 e90),(.fz l92 z93 e94),(vi n96),(.fz l98 z99 e100),(.fz l102 z103 e104),(.fz l134 z135 e136),(.fz l131 z132 e133),(.fz l128 z129 e130),(vi n112)]),(.agg [(vi 0),(vi 0),(vi n138),(vi n140),(.fz l142 z143 e144)])]),[])) (L26_0 C n g t row (IntKind.i64.wrap (x9+1)) l80 z81 e82 l84 z85 e86 l88 z89 e90 l92 z93 e94 n96 l98 z99 e100 l102 z103 e104 x106 x108 x110 n112)))) (asF (frz 0 h8_9lv) fun l146 z147 e148=>asF (frz 0 h8_8lv) fun l149 z150 e151=>asF (frz 0 h8_7zv) fun l152 z153 e154=>some ((.tup [(.agg [(.fz h8_0l h8_0z h8_0e),(.fz h8_1l h8_1z h8_1e),(.fz h8_2l h8_2z h8_2e),(.fz h8_3l h8_3z h8_3e),(vi h8_4),(.fz h8_5l h8_5z h8_5e),(.fz h8_6l h8_6z h8_6e),(.fz l152 z153 e154),(.fz l149 z150 e151),(.fz l146 z147 e148),(vi h8_10)]),(.agg [(vi 0),(vi 0),(vi 0),(vi 0),(.fz 1 0 [])])]),[]))):=by kernel_rfl
noncomputable def fn8:FnS:=(mkA Try.f8 ⟨67039,[0,0,0],false,[]⟩).getD ⟨.skip,0,[],[],0,[],false,[]⟩
theorem F8:cx.F 8=some fn8:=by kernel_rfl
def lv8:Lvs:=⟨[2,1,0],[(0,[7,6,4,3,2]),(1,[8,6,4,3,2]),(2,[16,8,6,4,3,2]),(3,[7,6]),(4,[10,6]),(5,[7,6])],[],[]⟩
theorem E8 {C:CallF} {n:Nat} {g:Plain} {t:Table} {row:Sl Int}:fnE cx C lv8 fn8 n [g.av,t.av,Sl.av vi row]=(bindE (C 25 [g.av,t.av,(Sl.av vi row)]) fun v1 o2=>cN o2 <| asI .i64 v1 fun n3=>br ((!n3==0)) (some ((.tup [(.agg [(vi 0),(vi 0),(vi 0),(vi 0),(.fz 1 0 [])]),(vi n3)]),[])) (bindE (C 26 [g.av,t.av,(Sl.av vi row)]) fun v4 o5=>cN o5 <| asT v4 fun c6=>nthE (frzL 0 c6) 0 fun a7=>asG a7 fun c8=>cF c8 fun _ _ _ c12=>cF c12 fun _ _ _ c16=>cF c16 fun _ _ _ c20=>cF c20 fun _ _ _ c24=>cI .i64 c24 fun _ c26=>cF c26 fun _ _ _ c30=>cF c30 fun _ _ _ c34=>cF c34 fun _ _ _ c38=>cF c38 fun _ _ _ c42=>cF c42 fun _ _ _ c46=>cI .i64 c46 fun _ c48=>cN c48 <| nthE (frzL 0 c6) 1 fun a49=>asG a49 fun c50=>cI .i64 c50 fun n51 c52=>cI .i64 c52 fun n53 c54=>cI .i64 c54 fun n55 c56=>cI .i64 c56 fun n57 c58=>cF c58 fun l59 z60 e61 c62=>cN c62 <| some ((.tup [(.agg [(vi n51),(vi n53),(vi n55),(vi n57),(.fz l59 z60 e61)]),(vi 0)]),[]))):=by kernel_rfl
noncomputable def fn10:FnS:=(mkA Try.f10 ⟨66527,[0,0,0],false,[]⟩).getD ⟨.skip,0,[],[],0,[],false,[]⟩
theorem F10:cx.F 10=some fn10:=by kernel_rfl
def lv10:Lvs:=⟨[2,1,0],[(0,[7,6,4,3,2]),(1,[8,4,3,2]),(2,[16,8,4,3,2]),(3,[7,6]),(4,[9]),(5,[7,6])],[],[]⟩
theorem E10 {C:CallF} {n:Nat} {g:Plain} {t:Table} {row:Sl Int}:fnE cx C lv10 fn10 n [g.av,t.av,Sl.av vi row]=(bindE (C 25 [g.av,t.av,(Sl.av vi row)]) fun v1 o2=>cN o2 <| asI .i64 v1 fun n3=>br ((!n3==0)) (some ((.tup [(.fz 1 0 []),(vi n3)]),[])) (bindE (C 26 [g.av,t.av,(Sl.av vi row)]) fun v4 o5=>cN o5 <| asT v4 fun c6=>nthE (frzL 0 c6) 0 fun a7=>asG a7 fun c8=>cF c8 fun _ _ _ c12=>cF c12 fun _ _ _ c16=>cF c16 fun _ _ _ c20=>cF c20 fun _ _ _ c24=>cI .i64 c24 fun _ c26=>cF c26 fun _ _ _ c30=>cF c30 fun _ _ _ c34=>cF c34 fun _ _ _ c38=>cF c38 fun _ _ _ c42=>cF c42 fun l43 z44 e45 c46=>cI .i64 c46 fun _ c48=>cN c48 <| nthE (frzL 0 c6) 1 fun a49=>asG a49 fun c50=>cI .i64 c50 fun _ c52=>cI .i64 c52 fun _ c54=>cI .i64 c54 fun _ c56=>cI .i64 c56 fun _ c58=>cF c58 fun _ _ _ c62=>cN c62 <| some ((.tup [(.fz l43 z44 e45),(vi 0)]),[]))):=by kernel_rfl
noncomputable def fn14:FnS:=(mkA Try.f14 ⟨33571891,[0,0],false,[]⟩).getD ⟨.skip,0,[],[],0,[],false,[]⟩
theorem F14:cx.F 14=some fn14:=by kernel_rfl
def lv14:Lvs:=⟨[1,0],[(0,[4,1,0]),(1,[10,1,0]),(2,[4]),(3,[5,1,0]),(4,[14,5,1,0]),(6,[25,5,1,0]),(7,[4]),(5,[5,1,0]),(8,[4])],[(0,[5,1,0])],[]⟩
noncomputable def L14_0 (C:CallF) (n:Nat) (a:Sl Move) (b:Sl Move) (x5:Int):Rs:=loopE cx C lv14 fn14 [Sl.av Move.av a,Sl.av Move.av b] n 0 ⟨[(5,(vi x5)),(1,(Sl.av Move.av b)),(0,(Sl.av Move.av a))],[],[],false⟩
theorem E14 {C:CallF} {n:Nat} {a:Sl Move} {b:Sl Move}:fnE cx C lv14 fn14 n [Sl.av Move.av a,Sl.av Move.av b]=(br ((!(↑(List.map Move.av a.l).length:Int)==(↑(List.map Move.av b.l).length:Int))) (some ((.bool false),[])) (L14_0 C n a b 0)):=by kernel_rfl
theorem E14_0 {C:CallF} {n:Nat} {a:Sl Move} {b:Sl Move} {x5:Int}:L14_0 C (n+1) a b x5=(br (decide (x5<(↑(List.map Move.av a.l).length:Int))) (ixE (List.map Move.av a.l) x5 fun a1=>rq (Nat.beq a.sz 2) <| cI .i64 (List.take 2 (List.drop 0 (cells a1))) fun n2 c3=>cI .i64 c3 fun n4 c5=>cN c5 <| ixE (List.map Move.av b.l) x5 fun a6=>rq (Nat.beq b.sz 2) <| cI .i64 (List.take 2 (List.drop 0 (cells a6))) fun n7 c8=>cI .i64 c8 fun n9 c10=>cN c10 <| br ((!(n2==n7&&n4==n9))) (some ((.bool false),[])) (L14_0 C n a b (IntKind.i64.wrap (x5+1)))) (some ((.bool true),[]))):=by kernel_rfl
noncomputable def fn31:FnS:=(mkA Try.f31 ⟨35186586681407,[0,0],false,[]⟩).getD ⟨.skip,0,[],[],0,[],false,[]⟩
theorem F31:cx.F 31=some fn31:=by kernel_rfl
def lv31:Lvs:=⟨[1,0],[(0,[4,3,2]),(1,[26,3,2]),(2,[4]),(3,[5,3,2]),(4,[31,5,3,2]),(6,[45,5,3,2]),(7,[4]),(5,[5,3,2]),(8,[4])],[(0,[5,3,2])],[]⟩
noncomputable def L31_0 (C:CallF) (n:Nat) (p:Int) (k:Int) (l:Nat) (z:Nat) (es:List AV) (p2:Int) (k2:Int) (l2:Nat) (z2:Nat) (es2:List AV) (x5:Int):Rs:=loopE cx C lv31 fn31 [AV.agg [vi p,vi k,AV.fz l z es],AV.agg [vi p2,vi k2,AV.fz l2 z2 es2]] n 0 ⟨[(5,(vi x5)),(3,(.ptr ⟨3,[]⟩ 0 0)),(2,(.ptr ⟨2,[]⟩ 0 0))],[(2,(.bx (AV.agg [vi p,vi k,AV.fz l z es]))),(3,(.bx (AV.agg [vi p2,vi k2,AV.fz l2 z2 es2])))],[],false⟩
theorem E31 {C:CallF} {n:Nat} {p:Int} {k:Int} {l:Nat} {z:Nat} {es:List AV} {p2:Int} {k2:Int} {l2:Nat} {z2:Nat} {es2:List AV}:fnE cx C lv31 fn31 n [AV.agg [vi p,vi k,AV.fz l z es],AV.agg [vi p2,vi k2,AV.fz l2 z2 es2]]=(br ((!p==p2)) (some ((.bool false),[])) (br ((!k==k2)) (some ((.bool false),[])) (br ((!(↑es.length:Int)==(↑es2.length:Int))) (some ((.bool false),[])) (L31_0 C n p k l z es p2 k2 l2 z2 es2 0)))):=by kernel_rfl
theorem E31_0 {C:CallF} {n:Nat} {p:Int} {k:Int} {l:Nat} {z:Nat} {es:List AV} {p2:Int} {k2:Int} {l2:Nat} {z2:Nat} {es2:List AV} {x5:Int}:L31_0 C (n+1) p k l z es p2 k2 l2 z2 es2 x5=(br (decide (x5<(↑es.length:Int))) (ixE es x5 fun a1=>rq (Nat.beq z 3) <| cI .i64 (List.take 3 (List.drop 0 (cells a1))) fun n2 c3=>cI .i64 c3 fun n4 c5=>cF c5 fun l6 z7 e8 c9=>cN c9 <| ixE es2 x5 fun a10=>rq (Nat.beq z2 3) <| cI .i64 (List.take 3 (List.drop 0 (cells a10))) fun n11 c12=>cI .i64 c12 fun n13 c14=>cF c14 fun l15 z16 e17 c18=>cN c18 <| bindE (C 31 [(.agg [(vi n2),(vi n4),(.fz l6 z7 e8)]),(.agg [(vi n11),(vi n13),(.fz l15 z16 e17)])]) fun v19 o20=>cN o20 <| asB v19 fun b21=>br (!b21) (some ((.bool false),[])) (L31_0 C n p k l z es p2 k2 l2 z2 es2 (IntKind.i64.wrap (x5+1)))) (some ((.bool true),[]))):=by kernel_rfl
noncomputable def fn13:FnS:=(mkA Try.f13 ⟨31,[0,0],false,[]⟩).getD ⟨.skip,0,[],[],0,[],false,[]⟩
theorem F13:cx.F 13=some fn13:=by kernel_rfl
def lv13:Lvs:=⟨[1,0],[(0,[4,3,2]),(1,[4])],[],[]⟩
theorem E13 {C:CallF} {n:Nat} {w:Int} {i:Int} {p:Int} {k:Int} {l:Nat} {z:Nat} {es:List AV} {w2:Int} {i2:Int} {p2:Int} {k2:Int} {l2:Nat} {z2:Nat} {es2:List AV}:fnE cx C lv13 fn13 n [AV.agg [vi w,vi i,vi p,vi k,AV.fz l z es],AV.agg [vi w2,vi i2,vi p2,vi k2,AV.fz l2 z2 es2]]=(br (w==w2) (br (i==i2) (bindE (C 31 [(.agg [(vi p),(vi k),(.fz l z es)]),(.agg [(vi p2),(vi k2),(.fz l2 z2 es2)])]) fun v1 o2=>cN o2 <| asB v1 fun b3=>some ((.bool b3),[])) (some ((.bool false),[]))) (some ((.bool false),[]))):=by kernel_rfl
noncomputable def fn3:FnS:=(mkA Try.f3 ⟨32735,[0,0,0],false,[]⟩).getD ⟨.skip,0,[],[],0,[],false,[]⟩
theorem F3:cx.F 3=some fn3:=by kernel_rfl
def lv3:Lvs:=⟨[2,1,0],[(0,[6,4,3,2]),(1,[8,7,4,3,2]),(2,[10,9,8,7,4,3,2]),(3,[12,11,10,9,8,7,4,3,2]),(4,[14,13,12,11,10,9,8,7,4,3]),(5,[6])],[],[]⟩
theorem E3 {C:CallF} {n:Nat} {g:Plain} {t:Table} {row:Sl Int}:fnE cx C lv3 fn3 n [g.av,t.av,Sl.av vi row]=(bindE (C 7 [g.av,t.av,(Sl.av vi row)]) fun v1 o2=>cN o2 <| asT v1 fun c3=>nthE (frzL 0 c3) 0 fun a4=>asG a4 fun c5=>cI .i64 c5 fun n6 c7=>cI .i64 c7 fun n8 c9=>cI .i64 c9 fun n10 c11=>cI .i64 c11 fun n12 c13=>cF c13 fun l14 z15 e16 c17=>cN c17 <| nthE (frzL 0 c3) 1 fun a18=>asI .i64 a18 fun n19=>bindE (C 8 [g.av,t.av,(Sl.av vi row)]) fun v20 o21=>cN o21 <| asT v20 fun c22=>nthE (frzL 0 c22) 0 fun a23=>asG a23 fun c24=>cI .i64 c24 fun n25 c26=>cI .i64 c26 fun n27 c28=>cI .i64 c28 fun n29 c30=>cI .i64 c30 fun n31 c32=>cF c32 fun l33 z34 e35 c36=>cN c36 <| nthE (frzL 0 c22) 1 fun a37=>asI .i64 a37 fun n38=>bindE (C 9 [g.av,t.av,(Sl.av vi row)]) fun v39 o40=>cN o40 <| asT v39 fun c41=>nthE (frzL 0 c41) 0 fun a42=>asF a42 fun l43 z44 e45=>nthE (frzL 0 c41) 1 fun a46=>asI .i64 a46 fun n47=>bindE (C 10 [g.av,t.av,(Sl.av vi row)]) fun v48 o49=>cN o49 <| asT v48 fun c50=>nthE (frzL 0 c50) 0 fun a51=>asF a51 fun l52 z53 e54=>nthE (frzL 0 c50) 1 fun a55=>asI .i64 a55 fun n56=>bindE (C 11 [g.av,t.av]) fun v57 o58=>cN o58 <| asI .i64 v57 fun n59=>bindE (C 12 [g.av,t.av]) fun v60 o61=>cN o61 <| asI .i64 v60 fun n62=>br (n59==n62) (bindE (C 13 [(.agg [(vi n6),(vi n8),(vi n10),(vi n12),(.fz l14 z15 e16)]),(.agg [(vi n25),(vi n27),(vi n29),(vi n31),(.fz l33 z34 e35)])]) fun v63 o64=>cN o64 <| asB v63 fun b65=>br b65 (br (n19==n38) (bindE (C 14 [(.fz l43 z44 e45),(.fz l52 z53 e54)]) fun v66 o67=>cN o67 <| asB v66 fun b68=>br b68 (br (n47==n56) (bindE (C 15 []) fun v69 o70=>cN o70 <| asB v69 fun b71=>some ((.bool b71),[])) (some ((.bool false),[]))) (some ((.bool false),[]))) (some ((.bool false),[]))) (some ((.bool false),[]))) (some ((.bool false),[]))):=by kernel_rfl
end Go.Am.Pull
end
section
namespace Go.Am.Pull
open Go Go.Proofs Go.Am
set_option maxRecDepth 100000
set_option maxHeartbeats 4000000
inductive Sm:AV→AV→Prop
 |mk {p k:Int} {l z l2 z2:Nat} {es es2:List AV} (hz:es=[]∨z=3) (hz2:es2=[]∨z2=3) (hl:es.length=es2.length) (hs:es.length<2 ^ 40) (h:∀(i:Nat) a b,es[i]?=some a→es2[i]?=some b→Sm a b):Sm (.agg [vi p,vi k,.fz l z es]) (.agg [vi p,vi k,.fz l2 z2 es2])
theorem Sm.leaf {p k:Int}:Sm (.agg [vi p,vi k,.fz 1 0 []]) (.agg [vi p,vi k,.fz 1 0 []]):=.mk (.inl rfl) (.inl rfl) rfl (by simp) fun i a b h=>by simp at h
def SmL (l m:List AV):Prop:=l.length=m.length∧∀(i:Nat) a b,l[i]?=some a→m[i]?=some b→Sm a b
theorem SmL.take {l m:List AV} (h:SmL l m) (n:Nat):SmL (l.take n) (m.take n):=⟨by simp[h.1],fun i a b ha hb=>by
 rw[List.getElem?_take]at ha hb
 split at ha
 ·rename_i hi
  rw[if_pos hi]at hb
  exact h.2 i a b ha hb
 ·cases ha⟩
theorem SmL.drop {l m:List AV} (h:SmL l m) (n:Nat):SmL (l.drop n) (m.drop n):=⟨by simp[h.1],fun i a b ha hb=>by
 rw[List.getElem?_drop]at ha hb
 exact h.2 _ a b ha hb⟩
theorem SmL.snoc {l m:List AV} {x y:AV} (h:SmL l m) (hd:Sm x y):SmL (l++[x]) (m++[y]):=⟨by simp[h.1],fun i a b ha hb=>by
 rw[List.getElem?_append]at ha hb
 have hl:=h.1
 split at ha
 ·rename_i hi
  rw[if_pos (by omega)]at hb
  exact h.2 i a b ha hb
 ·rename_i hi
  rw[if_neg (by omega)]at hb
  rw[←hl]at hb
  rcases Nat.eq_zero_or_pos (i - l.length)with e|e
  ·rw[e]at ha hb
   cases ha;cases hb;exact hd
  ·rw[List.getElem?_eq_none (by simp;omega)]at ha;cases ha⟩
theorem SmL.getD {l m:List AV} (h:SmL l m) (i:Nat):Sm (l.getD i zT) (m.getD i zT):=by
 have hl:=h.1
 simp only[List.getD]
 cases ha:l[i]? with
 |none=>
  have:l.length≤i:=List.getElem?_eq_none_iff.1 ha
  rw[List.getElem?_eq_none (by omega)];exact .leaf
 |some a=>
  have:i<l.length:=by
   rcases Nat.lt_or_ge i l.length with h|h
   ·exact h
   ·rw[List.getElem?_eq_none h]at ha;cases ha
  cases hb:m[i]? with
  |none=>have:=List.getElem?_eq_none_iff.1 hb;omega
  |some b=>exact h.2 i a b ha hb
structure PS.Sim (p q:PS):Prop where
 st:p.st=q.st
 tr:p.tr=q.tr
 n:p.n=q.n
 tb:p.tb=q.tb
 ts:SmL p.ts q.ts
theorem red_sim {g:Plain} {t:Table} {n:Int} {p q:PS} (h:p.Sim q) (hb:p.tb=false→p.ts=[]) (hs:p.ts.length<2 ^ 40):(redS ndP g t n p=none∧redS ndR g t n q=none)∨∃a b,redS ndP g t n p=some a∧redS ndR g t n q=some b∧a.Sim b:=by
 obtain⟨st,ts,tb,tr,c⟩:=p
 obtain⟨st',ts',tb',tr',c'⟩:=q
 obtain⟨h1,h2,h3,h4,h5⟩:=h
 simp only at h1 h2 h3 h4 h5 hb hs
 subst h1 h2 h3 h4
 have hl:=h5.1
 unfold redS
 simp only
 by_cases c1:st.length<(lkP g n).right.l.length+1
 ·rw[if_pos c1,if_pos c1];exact .inl ⟨rfl,rfl⟩
 ·rw[if_neg c1,if_neg c1]
  by_cases c2:lkG t (st.getD (st.length - (lkP g n).right.l.length - 1) 0) (lkP g n).left<0
  ·rw[if_pos c2,if_pos c2];exact .inl ⟨rfl,rfl⟩
  ·rw[if_neg c2,if_neg c2]
   refine .inr ⟨_,_,rfl,rfl,rfl,rfl,rfl,rfl,?_⟩
   rw[←hl]
   refine(h5.take _).snoc ?_
   have hd:=h5.drop (ts.length - (lkP g n).right.l.length)
   have hk0:tb=false→ts.drop (ts.length - (lkP g n).right.l.length)=[]:=fun e=>by rw[hb e];simp
   have hks:(ts.drop (ts.length - (lkP g n).right.l.length)).length<2 ^ 40:=by rw[List.length_drop];omega
   generalize ts.drop (ts.length - (lkP g n).right.l.length)=ks at hd hk0 hks ⊢
   generalize ts'.drop (ts.length - (lkP g n).right.l.length)=ks2 at hd ⊢
   have hl2:=hd.1
   unfold ndP ndR
   by_cases e2:ks2=[]
   ·subst e2
    obtain rfl:ks=[]:=List.eq_nil_of_length_eq_zero hl2
    rw[if_pos rfl]
    cases tb with
    |false=>exact .leaf
    |true=>exact .mk (.inl rfl) (.inl rfl) rfl (by simp) hd.2
   ·rw[if_neg e2]
    cases tb with
    |false=>
     rw[hk0 rfl]at hl2
     exact absurd (List.eq_nil_of_length_eq_zero hl2.symm) e2
    |true=>exact .mk (.inr rfl) (.inr rfl) hl2 hks hd.2
def oneF (nd:Bool→Int→List AV→AV) (g:Plain) (t:Table) (m:Move) (d:AV) (st:List Int) (ts:List AV) (tb:Bool) (tr:List Move) (c:Int):Int×Int×PS:=
 if((m.act==1||m.act==2)&&decide (c≥65536))=true then(0,181,⟨st,ts,tb,tr,c⟩)else
 if m.act=0 then(0,180,⟨st,ts,tb,tr++[m],c⟩)else
 if m.act=3 then(if st.length=2 then(2,0,⟨st,ts,tb,tr++[m],c⟩)else(0,170,⟨st,ts,tb,tr,c⟩))else
 if m.act=2 then(match redS nd g t m.n ⟨st,ts,tb,tr,c⟩with
  |none=>(0,170,⟨st,ts,tb,tr,c⟩)
  |some q=>(0,0,{q with tr:=q.tr++[m],n:=q.n+1}))else
 (if m.act=1 then 1 else 0,0,⟨st++[m.n],ts++[d],true,tr++[m],c+1⟩)
theorem one_F {nd:Bool→Int→List AV→AV} {g:Plain} {t:Table} {k:Int} {d:AV} {st:List Int} {ts:List AV} {tb:Bool} {tr:List Move} {c:Int}:oneS nd g t k d ⟨st,ts,tb,tr,c⟩=oneF nd g t (lkM t (st.getD (st.length - 1) 0) k) d st ts tb tr c:=rfl
theorem one_sim {g:Plain} {t:Table} {k:Int} {d d2:AV} {p q:PS} (h:p.Sim q) (hb:p.tb=false→p.ts=[]) (hs:p.ts.length<2 ^ 40) (hd:Sm d d2):(oneS ndP g t k d p).1=(oneS ndR g t k d2 q).1∧(oneS ndP g t k d p).2.1=(oneS ndR g t k d2 q).2.1∧(oneS ndP g t k d p).2.2.Sim (oneS ndR g t k d2 q).2.2:=by
 have hr:=fun n=>red_sim (g:=g) (t:=t) (n:=n) h hb hs
 obtain⟨st,ts,tb,tr,c⟩:=p
 obtain⟨st',ts',tb',tr',c'⟩:=q
 obtain⟨h1,h2,h3,h4,h5⟩:=h
 simp only at h1 h2 h3 h4 h5 hb hs
 subst h1 h2 h3 h4
 rw[one_F,one_F]
 generalize lkM t (st.getD (st.length - 1) 0) k=m
 unfold oneF
 by_cases c1:((m.act==1||m.act==2)&&decide (c≥65536))=true
 ·rw[if_pos c1,if_pos c1];exact⟨rfl,rfl,rfl,rfl,rfl,rfl,h5⟩
 rw[if_neg c1,if_neg c1]
 by_cases c2:m.act=0
 ·rw[if_pos c2,if_pos c2];exact⟨rfl,rfl,rfl,rfl,rfl,rfl,h5⟩
 rw[if_neg c2,if_neg c2]
 by_cases c3:m.act=3
 ·rw[if_pos c3,if_pos c3]
  by_cases c4:st.length=2
  ·rw[if_pos c4,if_pos c4];exact⟨rfl,rfl,rfl,rfl,rfl,rfl,h5⟩
  ·rw[if_neg c4,if_neg c4];exact⟨rfl,rfl,rfl,rfl,rfl,rfl,h5⟩
 rw[if_neg c3,if_neg c3]
 by_cases c5:m.act=2
 ·rw[if_pos c5,if_pos c5]
  rcases hr m.n with⟨e1,e2⟩|⟨a,b,e1,e2,hs⟩
  ·rw[e1,e2];exact⟨rfl,rfl,rfl,rfl,rfl,rfl,h5⟩
  ·rw[e1,e2];exact⟨rfl,rfl,hs.st,by simp only[hs.tr],by simp only[hs.n],hs.tb,hs.ts⟩
 rw[if_neg c5,if_neg c5]
 exact⟨rfl,rfl,rfl,rfl,rfl,rfl,h5.snoc hd⟩
theorem fine_ts {t:Table} {p:PS} (hp:p.Fine t):p.ts.length<2 ^ 40:=by have:=hp.ts;have:=hp.n;omega
theorem take_sim {g:Plain} {t:Table} (hok:Ok g t) {k:Int} {d d2:AV} (hd:Sm d d2) (hdt:isTree d=true) (hk0:0≤k) (hk:k<g.kinds.l.length):∀{f:Nat} {p q:PS},p.Sim q→p.Fine t→(takeS ndP g t k d f p).1=(takeS ndR g t k d2 f q).1∧(takeS ndP g t k d f p).2.1=(takeS ndR g t k d2 f q).2.1∧(takeS ndP g t k d f p).2.2.Sim (takeS ndR g t k d2 f q).2.2
 |0,p,q,h,hp=>⟨rfl,rfl,h⟩
 |f+1,p,q,h,hp=>by
  obtain⟨h1,h2,h3⟩:=one_sim (g:=g) (t:=t) (k:=k) h hp.tb (fine_ts hp) hd
  simp only[takeS]
  rw[h1,h2]
  split
  ·exact⟨h1,h2,h3⟩
  ·rename_i hc
   obtain⟨a,b,q',ho⟩:∃a b c,oneS ndP g t k d p=(a,b,c):=⟨_,_,_,rfl⟩
   rw[←h1,←h2]at hc
   rw[ho]at hc h3 ⊢
   have hf:=one_fine ndP_tree hok hdt hk0 hk hp ho
   have hq:q'.Fine t:=by
    simp at hc
    rcases hf with h|h|h|h
    ·exact h.2.2.1
    ·omega
    ·omega
    ·omega
   exact take_sim hok hd hdt hk0 hk h3 hq
def allS (g:Plain) (t:Table) (row:List Int):Nat→Int→PS→PS×Int×Int×AV
 |0,_,p=>(p,0,0,zT)
 |n+1,i,p=>
  let r:=takeS ndR g t (kd row i) (lf i) p.fuel p
  if ¬r.2.1=0 then(r.2.2,r.2.1,i,zT)else if r.1=2 then(r.2.2,0,0,r.2.2.ts.getD 0 zT)else allS g t row n (i+1) r.2.2
theorem kd_ok {g:Plain} {row:List Int} (hkp:0<g.kinds.l.length) (hrow:∀k∈row,1≤k∧k<g.kinds.l.length) {i:Int} (hi:0≤i):0≤kd row i∧kd row i<g.kinds.l.length∧(i<row.length→kd row i≠0)∧(¬i<row.length→kd row i=0):=by
 unfold kd
 by_cases h:i<row.length
 ·have hm:=getD_mem (l:=row) (n:=i) (d:=default) rfl hi h
  have:=hrow _ hm
  rw[if_pos h]
  exact⟨by omega,by omega,fun _=>by omega,fun h2=>absurd h h2⟩
 ·rw[if_neg h]
  exact⟨by omega,by omega,fun h2=>absurd h2 h,fun _=>rfl⟩
theorem run_sim {g:Plain} {t:Table} (hok:Ok g t) {row:List Int} (hrow:∀k∈row,1≤k∧k<g.kinds.l.length):∀{n:Nat} {i:Int} {p q:PS},p.Sim q→p.Fine t→0≤i→i+n=row.length+1→0<n→
  ∃a b w ix tr tr2,runS ndP g t row n i p=(a,w,ix,tr)∧allS g t row n i q=(b,w,ix,tr2)∧a.Sim b∧Sm tr tr2
 |0,_,_,_,_,_,_,_,h=>absurd h (Nat.lt_irrefl _)
 |n+1,i,p,q,hs,hp,hi,hin,_=>by
  obtain⟨k0,k1,k2,k3⟩:=kd_ok (row:=row) hok.kpos hrow hi
  have ht:=take_sim hok (k:=kd row i) (d:=lf i) (d2:=lf i) Sm.leaf rfl k0 k1 (f:=p.fuel) hs hp
  obtain⟨dn,e,p',hr⟩:∃dn e p',takeS ndP g t (kd row i) (lf i) p.fuel p=(dn,e,p'):=⟨_,_,_,rfl⟩
  obtain⟨dn2,e2,q',hr2⟩:∃dn e p',takeS ndR g t (kd row i) (lf i) p.fuel q=(dn,e,p'):=⟨_,_,_,rfl⟩
  have hfu:q.fuel=p.fuel:=by unfold PS.fuel;rw[hs.n]
  rw[hr,hr2]at ht
  obtain⟨t1,t2,t3⟩:=ht
  simp only at t1 t2 t3
  subst t1 t2
  have hf:=(take_fine ndP_tree hok rfl k0 k1 hp (Nat.le_refl _) hr).2
  simp only[runS,allS]
  rw[hfu,hr2]
  rw[show takeS ndP g t (if i<row.length then row.getD i.toNat default else 0) (lf i) p.fuel p=(dn,e,p')from hr]
  simp only
  by_cases he:e=0
  ·rw[if_pos he,if_neg (by simpa using he)]
   rcases hf with⟨f1,f2,f3,f4⟩|⟨f1,f2,f3,f4,f5⟩|hf
   ·rw[if_neg (by omega)]
    have hlt:i<row.length:=by
     rcases Int.lt_or_le i row.length with h|h
     ·exact h
     ·exact absurd (k3 (by omega)) f3
    exact run_sim hok hrow t3 f4 (by omega) (by omega) (by omega)
   ·rw[if_pos f1]
    have hge:¬i<row.length:=fun h=>k2 h f3
    obtain rfl:n=0:=by omega
    exact⟨_,_,_,_,_,_,rfl,rfl,t3,t3.ts.getD 0⟩
   ·exact absurd he hf
  ·rw[if_neg he,if_pos he]
   exact⟨_,_,_,_,_,_,rfl,rfl,t3,.leaf⟩
end Go.Am.Pull
end
section
namespace Go.Am.Pull
open Go Go.Proofs Go.Am
set_option maxRecDepth 100000
set_option maxHeartbeats 4000000
noncomputable def fn38:FnS:=(mkA Try.f38 ⟨31,[0,0],true,[]⟩).getD ⟨.skip,0,[],[],0,[],false,[]⟩
theorem F38:cx.F 38=some fn38:=by kernel_rfl
def lv38:Lvs:=⟨[1,0],[(0,[4,3,2]),(1,[4])],[],[]⟩
theorem E38 {C:CallF} {n:Nat} {g:Plain} {t:Table}:fnE cx C lv38 fn38 n [g.av,t.av]=(some ((.agg [(.fz g.kinds.lab g.kinds.sz ((List.map vs g.kinds.l))),(.fz g.precs.lab g.precs.sz ((List.map Prec.av g.precs.l))),(.fz g.rules.lab g.rules.sz ((List.map vs g.rules.l))),(.fz g.prods.lab g.prods.sz ((List.map Prod.av g.prods.l))),(vi g.start),(.fz t.moves.lab t.moves.sz ((List.map (Sl.av Move.av) t.moves.l))),(.fz t.goto.lab t.goto.sz ((List.map (Sl.av vi) t.goto.l))),(.ow 1 [(vi 0)]),(.fz 1 0 []),(.fz 1 0 []),(vi 0)]),[])):=by kernel_rfl
noncomputable def fn17:FnS:=(mkA Try.f17 ⟨549823188959,[0,0,0],false,[]⟩).getD ⟨.skip,0,[],[],0,[],false,[]⟩
def lv17:Lvs:=⟨[2,1,0],[(0,[7,6,4,3,2]),(1,[8,4,3,2]),(2,[18,8,4,3,2]),(3,[7,6]),(4,[9,2]),(5,[10,9,2]),(6,[26,10,9,2]),(8,[11,10,9,2]),(9,[39,10,9,2]),(10,[7,6]),(7,[10,9,2]),(11,[7,6])],[(0,[10,9,2])],[(22,[0,0,0,0,0,0,0,1,0,0,0],[]),(35,[],[0,0,0,0,0,0,0,3,3,3,0])]⟩
noncomputable def L17_0 (C:CallF) (n:Nat) (g:Plain) (t:Table) (row:Sl Int) (x10:Int) (h9_0l:Nat) (h9_0z:Nat) (h9_0e:List AV) (h9_1l:Nat) (h9_1z:Nat) (h9_1e:List AV) (h9_2l:Nat) (h9_2z:Nat) (h9_2e:List AV) (h9_3l:Nat) (h9_3z:Nat) (h9_3e:List AV) (h9_4:Int) (h9_5l:Nat) (h9_5z:Nat) (h9_5e:List AV) (h9_6l:Nat) (h9_6z:Nat) (h9_6e:List AV) (h9_7zv:AV) (h9_8lv:AV) (h9_9lv:AV) (h9_10:Int):Rs:=loopE cx C lv17 fn17 [g.av,t.av,Sl.av vi row] n 0 ⟨[(10,(vi x10)),(9,(.ptr ⟨9,[]⟩ 0 0)),(2,(Sl.av vi row))],[(3,(.bx g.av)),(4,(.bx t.av)),(9,(.bx (.agg [(.fz h9_0l h9_0z h9_0e),(.fz h9_1l h9_1z h9_1e),(.fz h9_2l h9_2z h9_2e),(.fz h9_3l h9_3z h9_3e),(vi h9_4),(.fz h9_5l h9_5z h9_5e),(.fz h9_6l h9_6z h9_6e),h9_7zv,h9_8lv,h9_9lv,(vi h9_10)])))],[],false⟩
theorem E17_0 {C:CallF} {n:Nat} {g:Plain} {t:Table} {row:Sl Int} {x10:Int} {h9_0l:Nat} {h9_0z:Nat} {h9_0e:List AV} {h9_1l:Nat} {h9_1z:Nat} {h9_1e:List AV} {h9_2l:Nat} {h9_2z:Nat} {h9_2e:List AV} {h9_3l:Nat} {h9_3z:Nat} {h9_3e:List AV} {h9_4:Int} {h9_5l:Nat} {h9_5z:Nat} {h9_5e:List AV} {h9_6l:Nat} {h9_6z:Nat} {h9_6e:List AV} {h9_7zv:AV} {h9_8lv:AV} {h9_9lv:AV} {h9_10:Int}:L17_0 C (n+1) g t row x10 h9_0l h9_0z h9_0e h9_1l h9_1z h9_1e h9_2l h9_2z h9_2e h9_3l h9_3z h9_3e h9_4 h9_5l h9_5z h9_5e h9_6l h9_6z h9_6e h9_7zv h9_8lv h9_9lv h9_10=(br (decide (x10<(↑(List.map vi row.l).length:Int))) (ixE (List.map vi row.l) x10 fun a1=>rq (Nat.beq row.sz 1) <| nthE (cells a1) 0 fun a2=>asI .i64 a2 fun n3=>rq (noLk h9_7zv) <| rq (noLk h9_8lv) <| rq (noLk h9_9lv) <| bindE (C 39 [(.bx (.agg [(.fz h9_0l h9_0z h9_0e),(.fz h9_1l h9_1z h9_1e),(.fz h9_2l h9_2z h9_2e),(.fz h9_3l h9_3z h9_3e),(vi h9_4),(.fz h9_5l h9_5z h9_5e),(.fz h9_6l h9_6z h9_6e),h9_7zv,h9_8lv,h9_9lv,(vi h9_10)])),(vi n3),(.agg [(vi 0),(vi 0),(.fz 1 0 [])])]) fun v4 o5=>c1 o5 fun v6=>asX v6 fun v7=>asG v7 fun c8=>cF c8 fun l9 z10 e11 c12=>cF c12 fun l13 z14 e15 c16=>cF c16 fun l17 z18 e19 c20=>cF c20 fun l21 z22 e23 c24=>cI .i64 c24 fun n25 c26=>cF c26 fun l27 z28 e29 c30=>cF c30 fun l31 z32 e33 c34=>cA c34 fun x35 c36=>cA c36 fun x37 c38=>cA c38 fun x39 c40=>cI .i64 c40 fun n41 c42=>cN c42 <| rq (noLk x35) <| rq (noLk x37) <| rq (noLk x39) <| asT v4 fun c43=>rq (nonAgg x35) <| rq (nonAgg x37) <| rq (nonAgg x39) <| nthE (frzL 0 c43) 0 fun a44=>asI .i64 a44 fun n45=>nthE (frzL 0 c43) 1 fun a46=>asI .i64 a46 fun _=>br ((!n45==1)) (some ((.tup [(.fz 1 0 []),(vi 0)]),[])) (L17_0 C n g t row (IntKind.i64.wrap (x10+1)) l9 z10 e11 l13 z14 e15 l17 z18 e19 l21 z22 e23 n25 l27 z28 e29 l31 z32 e33 x35 x37 x39 n41)) (bindE (C 40 [(.fp 2 (.agg [(.fz h9_0l h9_0z h9_0e),(.fz h9_1l h9_1z h9_1e),(.fz h9_2l h9_2z h9_2e),(.fz h9_3l h9_3z h9_3e),(vi h9_4),(.fz h9_5l h9_5z h9_5e),(.fz h9_6l h9_6z h9_6e),((frz 2 h9_7zv)),((frz 2 h9_8lv)),((frz 2 h9_9lv)),(vi h9_10)]) 0)]) fun v48 o49=>cN o49 <| asF (frz 0 v48) fun l50 z51 e52=>rq ((noLent v48&&noLentL [])) <| some ((.tup [(.fz l50 z51 e52),(vi 0)]),[]))):=by kernel_rfl
end Go.Am.Pull
end
section
namespace Go.Am.Pull
open Go Go.Proofs Go.Am
set_option maxRecDepth 100000
set_option maxHeartbeats 4000000
noncomputable def fn49:FnS:=(mkA Try.f49 ⟨536875319,[0,0],false,[]⟩).getD ⟨.skip,0,[],[],0,[],false,[]⟩
theorem F49:cx.F 49=some fn49:=by kernel_rfl
def lv49:Lvs:=⟨[1,0],[(0,[4,2,1]),(1,[8,2,1]),(2,[4]),(3,[5,2,1]),(4,[12,5,2,1]),(6,[29,5,2,1]),(7,[4]),(5,[5,2,1]),(8,[4])],[(0,[5,2,1])],[]⟩
noncomputable def L49_0 (C:CallF) (n:Nat) (g:Plain) (row:Sl Int) (x5:Int):Rs:=loopE cx C lv49 fn49 [g.av,Sl.av vi row] n 0 ⟨[(5,(vi x5)),(2,(.ptr ⟨2,[]⟩ 0 0)),(1,(Sl.av vi row))],[(2,(.bx g.av))],[],false⟩
theorem E49 {C:CallF} {n:Nat} {g:Plain} {row:Sl Int}:fnE cx C lv49 fn49 n [g.av,Sl.av vi row]=(br (decide ((↑(List.map vi row.l).length:Int)> 65536)) (some ((vi 3),[])) (L49_0 C n g row 0)):=by kernel_rfl
theorem E49_0 {C:CallF} {n:Nat} {g:Plain} {row:Sl Int} {x5:Int}:L49_0 C (n+1) g row x5=(br (decide (x5<(↑(List.map vi row.l).length:Int))) (ixE (List.map vi row.l) x5 fun a1=>rq (Nat.beq row.sz 1) <| nthE (cells a1) 0 fun a2=>asI .i64 a2 fun n3=>br (decide (n3<1)) (some ((vi 1),[])) (ixE (List.map vi row.l) x5 fun a4=>rq (Nat.beq row.sz 1) <| nthE (cells a4) 0 fun a5=>asI .i64 a5 fun n6=>br (decide (n6≥(↑(List.map vs g.kinds.l).length:Int))) (some ((vi 1),[])) (L49_0 C n g row (IntKind.i64.wrap (x5+1))))) (some ((vi 0),[]))):=by kernel_rfl
noncomputable def fn74:FnS:=(mkA Try.f74 ⟨18014398509621309,[0],false,[]⟩).getD ⟨.skip,0,[],[],0,[],false,[]⟩
theorem F74:cx.F 74=some fn74:=by kernel_rfl
def lv74:Lvs:=⟨[0],[(0,[2,0]),(1,[13,0]),(2,[2]),(3,[3,0]),(4,[17,3,0]),(6,[4,3,0]),(7,[5,4,3,0]),(8,[54,3,0]),(9,[2]),(5,[3,0]),(10,[2])],[(0,[3,0])],[]⟩
noncomputable def L74_0 (C:CallF) (n:Nat) (s:ByteArray) (x3:Int):Rs:=loopE cx C lv74 fn74 [vs s] n 0 ⟨[(3,(vi x3)),(0,(.str s))],[],[],false⟩
theorem E74 {C:CallF} {n:Nat} {s:ByteArray}:fnE cx C lv74 fn74 n [vs s]=(br (decide ((↑s.size:Int)<1)) (some ((.bool false),[])) (br (decide ((↑s.size:Int)> 64)) (some ((.bool false),[])) (L74_0 C n s 0))):=by kernel_rfl
theorem E74_0 {C:CallF} {n:Nat} {s:ByteArray} {x3:Int}:L74_0 C (n+1) s x3=(br (decide (x3<(↑s.size:Int))) (sxE s x3 fun n1=>br (n1==95) (L74_0 C n s (IntKind.i64.wrap (x3+1))) (br (decide (n1≥97)) (br (decide (n1≤122)) (L74_0 C n s (IntKind.i64.wrap (x3+1))) (br (decide (n1≥65)) (br ((!decide (n1≤90))) (br (x3==0) (some ((.bool false),[])) (br (decide (n1<48)) (some ((.bool false),[])) (br (decide (n1> 57)) (some ((.bool false),[])) (L74_0 C n s (IntKind.i64.wrap (x3+1)))))) (L74_0 C n s (IntKind.i64.wrap (x3+1)))) (br (x3==0) (some ((.bool false),[])) (br (decide (n1<48)) (some ((.bool false),[])) (br (decide (n1> 57)) (some ((.bool false),[])) (L74_0 C n s (IntKind.i64.wrap (x3+1)))))))) (br (decide (n1≥65)) (br ((!decide (n1≤90))) (br (x3==0) (some ((.bool false),[])) (br (decide (n1<48)) (some ((.bool false),[])) (br (decide (n1> 57)) (some ((.bool false),[])) (L74_0 C n s (IntKind.i64.wrap (x3+1)))))) (L74_0 C n s (IntKind.i64.wrap (x3+1)))) (br (x3==0) (some ((.bool false),[])) (br (decide (n1<48)) (some ((.bool false),[])) (br (decide (n1> 57)) (some ((.bool false),[])) (L74_0 C n s (IntKind.i64.wrap (x3+1))))))))) (some ((.bool true),[]))):=by kernel_rfl
noncomputable def fn52:FnS:=(mkA Try.f52 ⟨1126518667345949,[0],false,[]⟩).getD ⟨.skip,0,[],[],0,[],false,[]⟩
theorem F52:cx.F 52=some fn52:=by kernel_rfl
def lv52:Lvs:=⟨[0],[(0,[2,0]),(1,[24,0]),(2,[2]),(3,[3,0]),(4,[28,3,0]),(6,[36,3,0]),(7,[2]),(8,[4,3,0]),(9,[39,4,3,0]),(11,[50,4,3,0]),(12,[2]),(10,[4,3,0]),(5,[3,0]),(13,[2])],[(0,[3,0]),(2,[4,3,0])],[]⟩
noncomputable def L52_0 (C:CallF) (n:Nat) (ks:Sl ByteArray) (x3:Int):Rs:=loopE cx C lv52 fn52 [Sl.av vs ks] n 0 ⟨[(3,(vi x3)),(0,(Sl.av vs ks))],[],[],false⟩
noncomputable def L52_2 (C:CallF) (n:Nat) (ks:Sl ByteArray) (x4:Int) (x3:Int):Rs:=loopE cx C lv52 fn52 [Sl.av vs ks] n 2 ⟨[(4,(vi x4)),(3,(vi x3)),(0,(Sl.av vs ks))],[],[],false⟩
theorem E52 {C:CallF} {n:Nat} {ks:Sl ByteArray}:fnE cx C lv52 fn52 n [Sl.av vs ks]=(br (decide ((↑(List.map vs ks.l).length:Int)<2)) (some ((.bool false),[])) (br (decide ((↑(List.map vs ks.l).length:Int)> 1024)) (some ((.bool false),[])) (ixE (List.map vs ks.l) 0 fun a1=>rq (Nat.beq ks.sz 1) <| nthE (cells a1) 0 fun a2=>asS a2 fun s3=>br ((!s3.toList==(ByteArray.mk #[101,110,100]).toList)) (some ((.bool false),[])) (ixE (List.map vs ks.l) 1 fun a4=>rq (Nat.beq ks.sz 1) <| nthE (cells a4) 0 fun a5=>asS a5 fun s6=>br ((!s6.toList==(ByteArray.mk #[101,114,114,111,114]).toList)) (some ((.bool false),[])) (L52_0 C n ks 0))))):=by kernel_rfl
theorem E52_0 {C:CallF} {n:Nat} {ks:Sl ByteArray} {x3:Int}:L52_0 C (n+1) ks x3=(br (decide (x3<(↑(List.map vs ks.l).length:Int))) (ixE (List.map vs ks.l) x3 fun a1=>rq (Nat.beq ks.sz 1) <| nthE (cells a1) 0 fun a2=>asS a2 fun s3=>bindE (C 74 [(.str s3)]) fun v4 o5=>cN o5 <| asB v4 fun b6=>br (!b6) (some ((.bool false),[])) (L52_2 C n ks 0 x3)) (some ((.bool true),[]))):=by kernel_rfl
theorem E52_2 {C:CallF} {n:Nat} {ks:Sl ByteArray} {x4:Int} {x3:Int}:L52_2 C (n+1) ks x4 x3=(br (decide (x4<x3)) (ixE (List.map vs ks.l) x4 fun a1=>rq (Nat.beq ks.sz 1) <| nthE (cells a1) 0 fun a2=>asS a2 fun s3=>ixE (List.map vs ks.l) x3 fun a4=>rq (Nat.beq ks.sz 1) <| nthE (cells a4) 0 fun a5=>asS a5 fun s6=>br (s3.toList==s6.toList) (some ((.bool false),[])) (L52_2 C n ks (IntKind.i64.wrap (x4+1)) x3)) (L52_0 C n ks (IntKind.i64.wrap (x3+1)))):=by kernel_rfl
noncomputable def fn53:FnS:=(mkA Try.f53 ⟨144115188075856445,[0],false,[]⟩).getD ⟨.skip,0,[],[],0,[],false,[]⟩
theorem F53:cx.F 53=some fn53:=by kernel_rfl
def lv53:Lvs:=⟨[0],[(0,[2,0]),(1,[3,0]),(2,[9,3,0]),(4,[4,3,0]),(5,[5,4,3,0]),(6,[57,3,0]),(7,[2]),(3,[3,0]),(8,[2])],[(0,[3,0])],[]⟩
noncomputable def L53_0 (C:CallF) (n:Nat) (ps:Sl Prec) (x3:Int):Rs:=loopE cx C lv53 fn53 [Sl.av Prec.av ps] n 0 ⟨[(3,(vi x3)),(0,(Sl.av Prec.av ps))],[],[],false⟩
theorem E53 {C:CallF} {n:Nat} {ps:Sl Prec}:fnE cx C lv53 fn53 n [Sl.av Prec.av ps]=(L53_0 C n ps 0):=by kernel_rfl
theorem E53_0 {C:CallF} {n:Nat} {ps:Sl Prec} {x3:Int}:L53_0 C (n+1) ps x3=(br (decide (x3<(↑(List.map Prec.av ps.l).length:Int))) (ixE (List.map Prec.av ps.l) x3 fun a1=>rq (Nat.beq ps.sz 2) <| nthE (cells a1) 0 fun a2=>asI .i64 a2 fun n3=>br (n3==0) (ixE (List.map Prec.av ps.l) x3 fun a4=>rq (Nat.beq ps.sz 2) <| nthE (cells a4) 1 fun a5=>asI .i64 a5 fun n6=>ixE (List.map Prec.av ps.l) x3 fun a7=>rq (Nat.beq ps.sz 2) <| nthE (cells a7) 0 fun a8=>asI .i64 a8 fun n9=>br (decide (n9≥1)) (ixE (List.map Prec.av ps.l) x3 fun a10=>rq (Nat.beq ps.sz 2) <| nthE (cells a10) 1 fun a11=>asI .i64 a11 fun n12=>br (decide (n12≥1)) (ixE (List.map Prec.av ps.l) x3 fun a13=>rq (Nat.beq ps.sz 2) <| nthE (cells a13) 1 fun a14=>asI .i64 a14 fun n15=>br ((!n6==0)) (br ((!decide (n15≤3))) (some ((.bool false),[])) (br (decide (x3<2)) (some ((.bool false),[])) (L53_0 C n ps (IntKind.i64.wrap (x3+1))))) (L53_0 C n ps (IntKind.i64.wrap (x3+1)))) (br ((!n6==0)) (some ((.bool false),[])) (L53_0 C n ps (IntKind.i64.wrap (x3+1))))) (br ((!n6==0)) (some ((.bool false),[])) (L53_0 C n ps (IntKind.i64.wrap (x3+1))))) (ixE (List.map Prec.av ps.l) x3 fun a16=>rq (Nat.beq ps.sz 2) <| nthE (cells a16) 0 fun a17=>asI .i64 a17 fun n18=>br (decide (n18≥1)) (ixE (List.map Prec.av ps.l) x3 fun a19=>rq (Nat.beq ps.sz 2) <| nthE (cells a19) 1 fun a20=>asI .i64 a20 fun n21=>br (decide (n21≥1)) (ixE (List.map Prec.av ps.l) x3 fun a22=>rq (Nat.beq ps.sz 2) <| nthE (cells a22) 1 fun a23=>asI .i64 a23 fun n24=>br ((!decide (n24≤3))) (some ((.bool false),[])) (br (decide (x3<2)) (some ((.bool false),[])) (L53_0 C n ps (IntKind.i64.wrap (x3+1))))) (some ((.bool false),[]))) (some ((.bool false),[])))) (some ((.bool true),[]))):=by kernel_rfl
noncomputable def fn54:FnS:=(mkA Try.f54 ⟨70407398952989,[0],false,[]⟩).getD ⟨.skip,0,[],[],0,[],false,[]⟩
theorem F54:cx.F 54=some fn54:=by kernel_rfl
def lv54:Lvs:=⟨[0],[(0,[2,0]),(1,[12,0]),(2,[2]),(3,[3,0]),(4,[16,3,0]),(6,[32,3,0]),(7,[2]),(8,[4,3,0]),(9,[35,4,3,0]),(11,[46,4,3,0]),(12,[2]),(10,[4,3,0]),(5,[3,0]),(13,[2])],[(0,[3,0]),(2,[4,3,0])],[]⟩
noncomputable def L54_0 (C:CallF) (n:Nat) (ks:Sl ByteArray) (x3:Int):Rs:=loopE cx C lv54 fn54 [Sl.av vs ks] n 0 ⟨[(3,(vi x3)),(0,(Sl.av vs ks))],[],[],false⟩
noncomputable def L54_2 (C:CallF) (n:Nat) (ks:Sl ByteArray) (x4:Int) (x3:Int):Rs:=loopE cx C lv54 fn54 [Sl.av vs ks] n 2 ⟨[(4,(vi x4)),(3,(vi x3)),(0,(Sl.av vs ks))],[],[],false⟩
theorem E54 {C:CallF} {n:Nat} {ks:Sl ByteArray}:fnE cx C lv54 fn54 n [Sl.av vs ks]=(br (decide ((↑(List.map vs ks.l).length:Int)<1)) (some ((.bool false),[])) (br (decide ((↑(List.map vs ks.l).length:Int)> 2048)) (some ((.bool false),[])) (L54_0 C n ks 0))):=by kernel_rfl
theorem E54_0 {C:CallF} {n:Nat} {ks:Sl ByteArray} {x3:Int}:L54_0 C (n+1) ks x3=(br (decide (x3<(↑(List.map vs ks.l).length:Int))) (ixE (List.map vs ks.l) x3 fun a1=>rq (Nat.beq ks.sz 1) <| nthE (cells a1) 0 fun a2=>asS a2 fun s3=>br (decide ((↑s3.size:Int)<1)) (some ((.bool false),[])) (ixE (List.map vs ks.l) x3 fun a4=>rq (Nat.beq ks.sz 1) <| nthE (cells a4) 0 fun a5=>asS a5 fun s6=>br (decide ((↑s6.size:Int)> 4096)) (some ((.bool false),[])) (L54_2 C n ks 0 x3))) (some ((.bool true),[]))):=by kernel_rfl
theorem E54_2 {C:CallF} {n:Nat} {ks:Sl ByteArray} {x4:Int} {x3:Int}:L54_2 C (n+1) ks x4 x3=(br (decide (x4<x3)) (ixE (List.map vs ks.l) x4 fun a1=>rq (Nat.beq ks.sz 1) <| nthE (cells a1) 0 fun a2=>asS a2 fun s3=>ixE (List.map vs ks.l) x3 fun a4=>rq (Nat.beq ks.sz 1) <| nthE (cells a4) 0 fun a5=>asS a5 fun s6=>br (s3.toList==s6.toList) (some ((.bool false),[])) (L54_2 C n ks (IntKind.i64.wrap (x4+1)) x3)) (L54_0 C n ks (IntKind.i64.wrap (x3+1)))):=by kernel_rfl
noncomputable def fn30:FnS:=(mkA Try.f30 ⟨70377334181247,[0,0,0,0],false,[]⟩).getD ⟨.skip,0,[],[],0,[],false,[]⟩
theorem F30:cx.F 30=some fn30:=by kernel_rfl
def lv30:Lvs:=⟨[3,2,1,0],[(0,[8,6,5,4,3]),(1,[10,6,5,4,3]),(2,[11,10,6,5,4,3]),(3,[8]),(4,[16,10,6,5,4,3]),(5,[8]),(6,[33,10,6,4,3]),(7,[8]),(8,[46,6,3]),(9,[8]),(10,[8])],[],[]⟩
theorem E30 {C:CallF} {n:Nat} {g:Plain} {t:Table} {m:Move} {k:Int}:fnE cx C lv30 fn30 n [g.av,t.av,m.av,vi k]=(br (m.act==0) (some ((.bool (m.n==0)),[])) (br (m.act==1) (br (decide (m.n≥0)) (br (decide (m.n<(↑(List.map (Sl.av Move.av) t.moves.l).length:Int))) (some ((.bool (!k==0)),[])) (some ((.bool false),[]))) (some ((.bool false),[]))) (br (m.act==2) (br (decide (m.n≥0)) (some ((.bool (decide (m.n<(↑(List.map Prod.av g.prods.l).length:Int)))),[])) (some ((.bool false),[]))) (br (m.act==3) (br (m.n==0) (some ((.bool (k==0)),[])) (some ((.bool false),[]))) (some ((.bool false),[])))))):=by kernel_rfl
noncomputable def fn25:FnS:=(mkA Try.f25 ⟨4319,[0,0,0],false,[]⟩).getD ⟨.skip,0,[],[],0,[],false,[]⟩
theorem F25:cx.F 25=some fn25:=by kernel_rfl
def lv25:Lvs:=⟨[2,1,0],[(0,[6,4,3,2]),(1,[7,3,2]),(2,[12,7,3,2]),(3,[6]),(4,[6])],[],[]⟩
theorem E25 {C:CallF} {n:Nat} {g:Plain} {t:Table} {row:Sl Int}:fnE cx C lv25 fn25 n [g.av,t.av,Sl.av vi row]=(bindE (C 12 [g.av,t.av]) fun v1 o2=>cN o2 <| asI .i64 v1 fun n3=>br ((!n3==0)) (some ((vi n3),[])) (bindE (C 49 [g.av,(Sl.av vi row)]) fun v4 o5=>cN o5 <| asI .i64 v4 fun n6=>some ((vi n6),[]))):=by kernel_rfl
noncomputable def fn55:FnS:=(mkA Try.f55 ⟨36028801448149055,[0,0],false,[]⟩).getD ⟨.skip,0,[],[],0,[],false,[]⟩
theorem F55:cx.F 55=some fn55:=by kernel_rfl
def lv55:Lvs:=⟨[1,0],[(0,[4,3,2]),(1,[27,3,2]),(2,[4]),(3,[5,3,2]),(4,[32,5,3,2]),(6,[55,5,3,2]),(7,[4]),(5,[5,3,2]),(8,[4])],[(0,[5,3,2])],[]⟩
noncomputable def L55_0 (C:CallF) (n:Nat) (g:Plain) (p:Prod) (x5:Int):Rs:=loopE cx C lv55 fn55 [g.av,p.av] n 0 ⟨[(5,(vi x5)),(3,(.ptr ⟨3,[]⟩ 0 0)),(2,(.ptr ⟨2,[]⟩ 0 0))],[(2,(.bx g.av)),(3,(.bx p.av))],[],false⟩
theorem E55 {C:CallF} {n:Nat} {g:Plain} {p:Prod}:fnE cx C lv55 fn55 n [g.av,p.av]=(br (decide (p.left<0)) (some ((.bool false),[])) (br (decide (p.left≥(↑(List.map vs g.rules.l).length:Int))) (some ((.bool false),[])) (br (decide ((↑(List.map vi p.right.l).length:Int)> 64)) (some ((.bool false),[])) (br (decide (p.level<0)) (some ((.bool false),[])) (L55_0 C n g p 0))))):=by kernel_rfl
theorem E55_0 {C:CallF} {n:Nat} {g:Plain} {p:Prod} {x5:Int}:L55_0 C (n+1) g p x5=(br (decide (x5<(↑(List.map vi p.right.l).length:Int))) (ixE (List.map vi p.right.l) x5 fun a1=>rq (Nat.beq p.right.sz 1) <| nthE (cells a1) 0 fun a2=>asI .i64 a2 fun n3=>br (decide (n3<1)) (some ((.bool false),[])) (ixE (List.map vi p.right.l) x5 fun a4=>rq (Nat.beq p.right.sz 1) <| nthE (cells a4) 0 fun a5=>asI .i64 a5 fun n6=>br (decide (n6≥IntKind.i64.wrap ((↑(List.map vs g.kinds.l).length:Int)+(↑(List.map vs g.rules.l).length:Int)))) (some ((.bool false),[])) (L55_0 C n g p (IntKind.i64.wrap (x5+1))))) (bindE (C 75 [(.agg [(vi p.act.kind),(vi p.act.ix),(.str p.act.name),(.fz p.act.lab p.act.sz ((vActs p.act.kids)))]),(vi ((↑(List.map vi p.right.l).length:Int))),(vi 256)]) fun v7 o8=>cN o8 <| asI .i64 v7 fun n9=>some ((.bool (decide (n9≥0))),[]))):=by kernel_rfl
noncomputable def fn29:FnS:=(mkA Try.f29 ⟨1154082589154213903,[0],false,[]⟩).getD ⟨.skip,0,[],[],0,[],false,[]⟩
theorem F29:cx.F 29=some fn29:=by kernel_rfl
def lv29:Lvs:=⟨[0],[(0,[2,1]),(1,[28,1]),(2,[2]),(3,[45,1]),(4,[2]),(5,[3,1]),(6,[50,3,1]),(8,[60,3,1]),(9,[2]),(7,[3,1]),(10,[2])],[(0,[3,1])],[]⟩
noncomputable def L29_0 (C:CallF) (n:Nat) (g:Plain) (x3:Int):Rs:=loopE cx C lv29 fn29 [g.av] n 0 ⟨[(3,(vi x3)),(1,(.ptr ⟨1,[]⟩ 0 0))],[(1,(.bx g.av))],[],false⟩
theorem E29 {C:CallF} {n:Nat} {g:Plain}:fnE cx C lv29 fn29 n [g.av]=(bindE (C 52 [(.fz g.kinds.lab g.kinds.sz ((List.map vs g.kinds.l)))]) fun v1 o2=>cN o2 <| asB v1 fun b3=>br (!b3) (some ((vi 130),[])) (br ((!(↑(List.map Prec.av g.precs.l).length:Int)==(↑(List.map vs g.kinds.l).length:Int))) (some ((vi 130),[])) (bindE (C 53 [(.fz g.precs.lab g.precs.sz ((List.map Prec.av g.precs.l)))]) fun v4 o5=>cN o5 <| asB v4 fun b6=>br (!b6) (some ((vi 130),[])) (bindE (C 54 [(.fz g.rules.lab g.rules.sz ((List.map vs g.rules.l)))]) fun v7 o8=>cN o8 <| asB v7 fun b9=>br (!b9) (some ((vi 130),[])) (br (decide (g.start<0)) (some ((vi 130),[])) (br (decide (g.start≥(↑(List.map vs g.rules.l).length:Int))) (some ((vi 130),[])) (br (decide ((↑(List.map Prod.av g.prods.l).length:Int)> 4096)) (some ((vi 130),[])) (L29_0 C n g 0)))))))):=by kernel_rfl
theorem E29_0 {C:CallF} {n:Nat} {g:Plain} {x3:Int}:L29_0 C (n+1) g x3=(br (decide (x3<(↑(List.map Prod.av g.prods.l).length:Int))) (ixE (List.map Prod.av g.prods.l) x3 fun a1=>rq (Nat.beq g.prods.sz 7) <| cI .i64 (List.take 7 (List.drop 0 (cells a1))) fun n2 c3=>cF c3 fun l4 z5 e6 c7=>cI .i64 c7 fun n8 c9=>cI .i64 c9 fun n10 c11=>cI .i64 c11 fun n12 c13=>cS c13 fun s14 c15=>cF c15 fun l16 z17 e18 c19=>cN c19 <| bindE (C 55 [g.av,(.agg [(vi n2),(.fz l4 z5 e6),(vi n8),(vi n10),(vi n12),(.str s14),(.fz l16 z17 e18)])]) fun v20 o21=>cN o21 <| asB v20 fun b22=>br (!b22) (some ((vi 130),[])) (L29_0 C n g (IntKind.i64.wrap (x3+1)))) (some ((vi 0),[]))):=by kernel_rfl
noncomputable def fn12:FnS:=(mkA Try.f12 ⟨20769188055527255871248069822514431,[0,0],false,[]⟩).getD ⟨.skip,0,[],[],0,[],false,[]⟩
theorem F12:cx.F 12=some fn12:=by kernel_rfl
def lv12:Lvs:=⟨[1,0],[(0,[4,3,2]),(1,[10,3,2]),(2,[4]),(3,[29,3,2]),(4,[4]),(5,[5,3,2]),(6,[34,5,3,2]),(8,[58,5,3,2]),(9,[4]),(10,[6,5,3,2]),(11,[66,6,5,3,2]),(13,[81,6,5,3,2]),(14,[4]),(12,[6,5,3,2]),(15,[7,5,3,2]),(16,[89,7,5,3,2]),(18,[114,7,5,3,2]),(19,[4]),(17,[7,5,3,2]),(7,[5,3,2]),(20,[4])],[(0,[5,3,2]),(2,[6,5,3,2]),(4,[7,5,3,2])],[]⟩
noncomputable def L12_0 (C:CallF) (n:Nat) (g:Plain) (t:Table) (x5:Int):Rs:=loopE cx C lv12 fn12 [g.av,t.av] n 0 ⟨[(5,(vi x5)),(3,(.ptr ⟨3,[]⟩ 0 0)),(2,(.ptr ⟨2,[]⟩ 0 0))],[(2,(.bx g.av)),(3,(.bx t.av))],[],false⟩
noncomputable def L12_2 (C:CallF) (n:Nat) (g:Plain) (t:Table) (x6:Int) (x5:Int):Rs:=loopE cx C lv12 fn12 [g.av,t.av] n 2 ⟨[(6,(vi x6)),(5,(vi x5)),(3,(.ptr ⟨3,[]⟩ 0 0)),(2,(.ptr ⟨2,[]⟩ 0 0))],[(2,(.bx g.av)),(3,(.bx t.av))],[],false⟩
noncomputable def L12_4 (C:CallF) (n:Nat) (g:Plain) (t:Table) (x7:Int) (x5:Int):Rs:=loopE cx C lv12 fn12 [g.av,t.av] n 4 ⟨[(7,(vi x7)),(5,(vi x5)),(3,(.ptr ⟨3,[]⟩ 0 0)),(2,(.ptr ⟨2,[]⟩ 0 0))],[(2,(.bx g.av)),(3,(.bx t.av))],[],false⟩
theorem E12 {C:CallF} {n:Nat} {g:Plain} {t:Table}:fnE cx C lv12 fn12 n [g.av,t.av]=(bindE (C 29 [g.av]) fun v1 o2=>cN o2 <| asI .i64 v1 fun n3=>br ((!n3==0)) (some ((vi 130),[])) (br (decide ((↑(List.map (Sl.av Move.av) t.moves.l).length:Int)<1)) (some ((vi 170),[])) (br (decide ((↑(List.map (Sl.av Move.av) t.moves.l).length:Int)> 4096)) (some ((vi 170),[])) (br ((!(↑(List.map (Sl.av vi) t.goto.l).length:Int)==(↑(List.map (Sl.av Move.av) t.moves.l).length:Int))) (some ((vi 170),[])) (L12_0 C n g t 0))))):=by kernel_rfl
theorem E12_0 {C:CallF} {n:Nat} {g:Plain} {t:Table} {x5:Int}:L12_0 C (n+1) g t x5=(br (decide (x5<(↑(List.map (Sl.av Move.av) t.moves.l).length:Int))) (ixE (List.map (Sl.av Move.av) t.moves.l) x5 fun a1=>rq (Nat.beq t.moves.sz 1) <| nthE (cells a1) 0 fun a2=>asF a2 fun _ _ e5=>br ((!(↑e5.length:Int)==(↑(List.map vs g.kinds.l).length:Int))) (some ((vi 170),[])) (ixE (List.map (Sl.av vi) t.goto.l) x5 fun a6=>rq (Nat.beq t.goto.sz 1) <| nthE (cells a6) 0 fun a7=>asF a7 fun _ _ e10=>br ((!(↑e10.length:Int)==(↑(List.map vs g.rules.l).length:Int))) (some ((vi 170),[])) (L12_2 C n g t 0 x5))) (some ((vi 0),[]))):=by kernel_rfl
theorem E12_2 {C:CallF} {n:Nat} {g:Plain} {t:Table} {x6:Int} {x5:Int}:L12_2 C (n+1) g t x6 x5=(ixE (List.map (Sl.av Move.av) t.moves.l) x5 fun a1=>rq (Nat.beq t.moves.sz 1) <| nthE (cells a1) 0 fun a2=>asF a2 fun _ _ e5=>br (decide (x6<(↑e5.length:Int))) (ixE (List.map (Sl.av Move.av) t.moves.l) x5 fun a6=>rq (Nat.beq t.moves.sz 1) <| nthE (cells a6) 0 fun a7=>asF a7 fun _ z9 e10=>ixE e10 x6 fun a11=>rq (Nat.beq z9 2) <| cI .i64 (List.take 2 (List.drop 0 (cells a11))) fun n12 c13=>cI .i64 c13 fun n14 c15=>cN c15 <| bindE (C 30 [g.av,t.av,(.agg [(vi n12),(vi n14)]),(vi x6)]) fun v16 o17=>cN o17 <| asB v16 fun b18=>br (!b18) (some ((vi 170),[])) (L12_2 C n g t (IntKind.i64.wrap (x6+1)) x5)) (L12_4 C n g t 0 x5)):=by kernel_rfl
theorem E12_4 {C:CallF} {n:Nat} {g:Plain} {t:Table} {x7:Int} {x5:Int}:L12_4 C (n+1) g t x7 x5=(ixE (List.map (Sl.av vi) t.goto.l) x5 fun a1=>rq (Nat.beq t.goto.sz 1) <| nthE (cells a1) 0 fun a2=>asF a2 fun _ _ e5=>br (decide (x7<(↑e5.length:Int))) (ixE (List.map (Sl.av vi) t.goto.l) x5 fun a6=>rq (Nat.beq t.goto.sz 1) <| nthE (cells a6) 0 fun a7=>asF a7 fun _ z9 e10=>ixE e10 x7 fun a11=>rq (Nat.beq z9 1) <| nthE (cells a11) 0 fun a12=>asI .i64 a12 fun n13=>br (decide (n13< -1)) (some ((vi 170),[])) (ixE (List.map (Sl.av vi) t.goto.l) x5 fun a14=>rq (Nat.beq t.goto.sz 1) <| nthE (cells a14) 0 fun a15=>asF a15 fun _ z17 e18=>ixE e18 x7 fun a19=>rq (Nat.beq z17 1) <| nthE (cells a19) 0 fun a20=>asI .i64 a20 fun n21=>br (decide (n21≥(↑(List.map (Sl.av Move.av) t.moves.l).length:Int))) (some ((vi 170),[])) (L12_4 C n g t (IntKind.i64.wrap (x7+1)) x5))) (L12_0 C n g t (IntKind.i64.wrap (x5+1)))):=by kernel_rfl
noncomputable def fn75:FnS:=(mkA Try.f75 ⟨158765817121953787769499161039,[0,0,0],false,[]⟩).getD ⟨.skip,0,[],[],0,[],false,[]⟩
theorem F75:cx.F 75=some fn75:=by kernel_rfl
def lv75:Lvs:=⟨[2,1,0],[(0,[6,3,2,1]),(1,[3,2,1]),(2,[12,3,2,1]),(3,[6]),(4,[7,3,2,1]),(5,[28,7,3,2,1]),(7,[29,28,7,3,2,1]),(8,[32,3,2,1]),(9,[6]),(10,[33,28,3,2,1]),(11,[54,3,2,1]),(12,[6]),(13,[55,28,3,2,1]),(14,[71,3,2,1]),(15,[6]),(16,[72,3,2,1]),(17,[88,3,2,1]),(18,[6]),(6,[6]),(19,[8,3,2,1]),(20,[97,8,3,2,1]),(22,[8,3,2,1]),(21,[8,3,2,1]),(23,[6])],[(1,[8,3,2,1])],[]⟩
noncomputable def L75_1 (C:CallF) (n:Nat) (a:Act) (syms:Int) (left:Int) (x8:Int) (x2:Int):Rs:=loopE cx C lv75 fn75 [AV.agg [vi a.kind,vi a.ix,vs a.name,AV.fz a.lab a.sz (vActs a.kids)],vi syms,vi left] n 1 ⟨[(8,(vi x8)),(3,(.ptr ⟨3,[]⟩ 0 0)),(2,(vi x2)),(1,(vi syms))],[(3,(.bx (AV.agg [vi a.kind,vi a.ix,vs a.name,AV.fz a.lab a.sz (vActs a.kids)])))],[],false⟩
theorem E75 {C:CallF} {n:Nat} {a:Act} {syms:Int} {left:Int}:fnE cx C lv75 fn75 n [AV.agg [vi a.kind,vi a.ix,vs a.name,AV.fz a.lab a.sz (vActs a.kids)],vi syms,vi left]=(br (decide (IntKind.i64.wrap (left - 1)<0)) (some ((vi (-1)),[])) (br (a.ix==0) (br (a.name.toList==(ByteArray.mk #[]).toList) (br (a.kind==0) (br ((!(↑(vActs a.kids).length:Int)==0)) (some ((vi (-1)),[])) (L75_1 C n a syms left 0 (IntKind.i64.wrap (left - 1)))) (br (a.kind==1) (br (decide (a.ix<0)) (some ((vi (-1)),[])) (br (decide (a.ix≥syms)) (some ((vi (-1)),[])) (br ((!a.name.toList==(ByteArray.mk #[]).toList)) (some ((vi (-1)),[])) (br (decide ((↑(vActs a.kids).length:Int)> 0)) (some ((vi (-1)),[])) (L75_1 C n a syms left 0 (IntKind.i64.wrap (left - 1))))))) (br (a.kind==3) (br (decide ((↑a.name.size:Int)> 4096)) (some ((vi (-1)),[])) (br ((!a.ix==0)) (some ((vi (-1)),[])) (br (decide ((↑(vActs a.kids).length:Int)> 0)) (some ((vi (-1)),[])) (L75_1 C n a syms left 0 (IntKind.i64.wrap (left - 1)))))) (br (a.kind==2) (br (decide ((↑a.name.size:Int)<1)) (some ((vi (-1)),[])) (br (decide ((↑a.name.size:Int)> 32)) (some ((vi (-1)),[])) (br ((!a.ix==0)) (some ((vi (-1)),[])) (L75_1 C n a syms left 0 (IntKind.i64.wrap (left - 1)))))) (some ((vi (-1)),[])))))) (br (a.kind==0) (some ((vi (-1)),[])) (br (a.kind==1) (br (decide (a.ix<0)) (some ((vi (-1)),[])) (br (decide (a.ix≥syms)) (some ((vi (-1)),[])) (br ((!a.name.toList==(ByteArray.mk #[]).toList)) (some ((vi (-1)),[])) (br (decide ((↑(vActs a.kids).length:Int)> 0)) (some ((vi (-1)),[])) (L75_1 C n a syms left 0 (IntKind.i64.wrap (left - 1))))))) (br (a.kind==3) (br (decide ((↑a.name.size:Int)> 4096)) (some ((vi (-1)),[])) (br ((!a.ix==0)) (some ((vi (-1)),[])) (br (decide ((↑(vActs a.kids).length:Int)> 0)) (some ((vi (-1)),[])) (L75_1 C n a syms left 0 (IntKind.i64.wrap (left - 1)))))) (br (a.kind==2) (br (decide ((↑a.name.size:Int)<1)) (some ((vi (-1)),[])) (br (decide ((↑a.name.size:Int)> 32)) (some ((vi (-1)),[])) (br ((!a.ix==0)) (some ((vi (-1)),[])) (L75_1 C n a syms left 0 (IntKind.i64.wrap (left - 1)))))) (some ((vi (-1)),[]))))))) (br (a.kind==0) (some ((vi (-1)),[])) (br (a.kind==1) (br (decide (a.ix<0)) (some ((vi (-1)),[])) (br (decide (a.ix≥syms)) (some ((vi (-1)),[])) (br ((!a.name.toList==(ByteArray.mk #[]).toList)) (some ((vi (-1)),[])) (br (decide ((↑(vActs a.kids).length:Int)> 0)) (some ((vi (-1)),[])) (L75_1 C n a syms left 0 (IntKind.i64.wrap (left - 1))))))) (br (a.kind==3) (br (decide ((↑a.name.size:Int)> 4096)) (some ((vi (-1)),[])) (br ((!a.ix==0)) (some ((vi (-1)),[])) (br (decide ((↑(vActs a.kids).length:Int)> 0)) (some ((vi (-1)),[])) (L75_1 C n a syms left 0 (IntKind.i64.wrap (left - 1)))))) (br (a.kind==2) (br (decide ((↑a.name.size:Int)<1)) (some ((vi (-1)),[])) (br (decide ((↑a.name.size:Int)> 32)) (some ((vi (-1)),[])) (br ((!a.ix==0)) (some ((vi (-1)),[])) (L75_1 C n a syms left 0 (IntKind.i64.wrap (left - 1)))))) (some ((vi (-1)),[])))))))):=by kernel_rfl
theorem E75_1 {C:CallF} {n:Nat} {a:Act} {syms:Int} {left:Int} {x8:Int} {x2:Int}:L75_1 C (n+1) a syms left x8 x2=(br (decide (x8<(↑(vActs a.kids).length:Int))) (br (decide (x2≥0)) (ixE (vActs a.kids) x8 fun a1=>rq (Nat.beq a.sz 4) <| cI .i64 (List.take 4 (List.drop 0 (cells a1))) fun n2 c3=>cI .i64 c3 fun n4 c5=>cS c5 fun s6 c7=>cF c7 fun l8 z9 e10 c11=>cN c11 <| bindE (C 75 [(.agg [(vi n2),(vi n4),(.str s6),(.fz l8 z9 e10)]),(vi syms),(vi x2)]) fun v12 o13=>cN o13 <| asI .i64 v12 fun n14=>L75_1 C n a syms left (IntKind.i64.wrap (x8+1)) n14) (some ((vi x2),[]))) (some ((vi x2),[]))):=by kernel_rfl
end Go.Am.Pull
end
section
namespace Go.Am.Pull
open Go Go.Proofs Go.Am
set_option maxRecDepth 100000
set_option maxHeartbeats 4000000
variable {O:List Ent} {C:CallF}
theorem l49 {g:Plain} {row:Sl Int} (hr:row.ok 1) (hs:row.l.length<2 ^ 40):∀(d:Nat) (x:Int),0≤x→x+d=row.l.length→∃n,L49_0 C n g row x=some (vi (if(row.l.drop x.toNat).any (badK g.kinds.l.length)=true then 1 else 0),[])
 |0,x,h0,h1=>⟨1,by
  rw[E49_0]
  simp only[List.length_map,br_dec]
  rw[if_neg (by omega),List.drop_of_length_le (by omega)];rfl⟩
 |d+1,x,h0,h1=>by
  obtain⟨n,ih⟩:=l49 hr hs d (x+1) (by omega) (by omega)
  refine⟨n+1,?_⟩
  rw[E49_0]
  simp only[List.length_map,br_dec,ixE_map]
  rw[if_pos (by omega),ixT_in 0 h0 (by omega),rq_beq (okE hr h0 (by omega))]
  simp only[nthE_vi,asI_vi]
  rw[ixT_in 0 h0 (by omega),rq_beq (okE hr h0 (by omega))]
  rw[wr1 h0 (by omega),ih,any_drop 0 h0 (by omega),show(x+1).toNat=x.toNat+1 by omega]
  generalize row.l.getD x.toNat 0=v
  by_cases h1:v<1
  ·rw[if_pos h1,show badK g.kinds.l.length v=true by simp[badK,h1]];rfl
  ·by_cases h2:v≥g.kinds.l.length
   ·rw[if_neg h1,if_pos h2,show badK g.kinds.l.length v=true by simp[badK,h2]];rfl
   ·rw[if_neg h1,if_neg h2,show badK g.kinds.l.length v=false by simp[badK];omega];rfl
theorem row_r (hO:∀e∈O,e.f≠49) {g:Plain} {row:Sl Int} (hr:row.ok 1) (hs:row.l.length<2 ^ 40):Ans cx O 49 [g.av,row.av vi] (vi (rowS g.kinds.l.length row.l),[]):=by
 refine ans_ex (lv:=lv49) F49 hO ?_
 obtain⟨n,h⟩:=l49 (C:=Orc cx O) (g:=g) hr hs row.l.length 0 (by omega) (by omega)
 refine⟨n,?_⟩
 rw[E49]
 simp only[List.length_map,br_dec]
 by_cases hl:65536<row.l.length
 ·rw[if_pos (by omega),rowS,if_pos hl]
 ·rw[if_neg (by omega),rowS,if_neg hl,h];rfl
theorem l74 {s:ByteArray} (hs:s.size<2 ^ 40):∀(d:Nat) (x:Int),0≤x→x+d=s.size→∃n,L74_0 C n s x=some (.bool ((List.range' x.toNat d).all fun i=>nameB (byteAt s i) i),[])
 |0,x,h0,h1=>⟨1,by
  rw[E74_0]
  simp only[br_dec]
  rw[if_neg (by omega)];rfl⟩
 |d+1,x,h0,h1=>by
  obtain⟨n,ih⟩:=l74 hs d (x+1) (by omega) (by omega)
  refine⟨n+1,?_⟩
  rw[E74_0]
  simp only[br_dec,br_not,br_eqI]
  rw[if_pos (by omega),sxE_in h0 (by omega),wr1 h0 (by omega),ih,List.range'_succ,List.all_cons,show((x.toNat:Nat):Int)=x by omega,show(x+1).toNat=x.toNat+1 by omega]
  generalize byteAt s x=c
  have hb:nameB c x=decide ((97≤c∧c≤122∨65≤c∧c≤90∨c=95)∨(x≠0∧48≤c∧c≤57)):=by
   rw[Bool.eq_iff_iff]
   simp[nameB]
   omega
  rw[hb]
  repeat' split
  all_goals first
   |(rw[decide_eq_true (by omega)];rfl)
   |(rw[decide_eq_false (by omega)];rfl)
theorem name_r (hO:∀e∈O,e.f≠74) {s:ByteArray} (hs:s.size<2 ^ 40):Ans cx O 74 [vs s] (.bool (namedS s),[]):=by
 refine ans_ex (lv:=lv74) F74 hO ?_
 obtain⟨n,h⟩:=l74 (C:=Orc cx O) hs s.size 0 (by omega) (by omega)
 refine⟨n,?_⟩
 rw[E74]
 simp only[br_dec]
 rw[namedS,List.range_eq_range']
 by_cases h1:(s.size:Int)<1
 ·rw[if_pos h1,decide_eq_false (p:=(s.size:Int)≥1) (by omega)];simp
 ·by_cases h2:(s.size:Int)> 64
  ·rw[if_neg h1,if_pos h2,decide_eq_false (p:=(s.size:Int)≤64) (by omega)];simp
  ·rw[if_neg h1,if_neg h2,h,decide_eq_true (p:=(s.size:Int)≥1) (by omega),decide_eq_true (p:=(s.size:Int)≤64) (by omega)];simp
def dupB (l:List ByteArray) (i:Nat):Bool:=(List.range i).any fun k=>(l.getD k default).toList==(l.getD i default).toList
theorem l52_2 {ks:Sl ByteArray} (hk:ks.ok 1) (hs:ks.l.length<2 ^ 40) {i:Int} (hi0:0≤i) (hi1:i<ks.l.length) {r:AV×List AV} (hn:∃n,L52_0 C n ks (i+1)=some r):∀(d:Nat) (x:Int),0≤x→x+d=i→∃n,L52_2 C n ks x i=if((List.range' x.toNat d).any fun k=>(ks.l.getD k default).toList==(ks.l.getD i.toNat default).toList)=true then some (.bool false,[])else some r
 |0,x,h0,h1=>by
  obtain⟨n,hn⟩:=hn
  exact⟨n+1,by
   rw[E52_2]
   simp only[br_dec]
   rw[if_neg (by omega),wr1 hi0 (by omega),hn];rfl⟩
 |d+1,x,h0,h1=>by
  obtain⟨n,ih⟩:=l52_2 hk hs hi0 hi1 hn d (x+1) (by omega) (by omega)
  refine⟨n+1,?_⟩
  rw[E52_2]
  simp only[br_dec,ixE_map]
  rw[if_pos (by omega),ixT_in default h0 (by omega),rq_beq (okE hk h0 (by omega))]
  simp only[nthE_vs,asS_vs]
  rw[ixT_in default hi0 (by omega),rq_beq (okE hk h0 (by omega))]
  rw[wr1 h0 (by omega),ih,List.range'_succ,List.any_cons,show(x+1).toNat=x.toNat+1 by omega,br_if]
  cases ((ks.l.getD x.toNat default).toList==(ks.l.getD i.toNat default).toList)<;>rfl
theorem l54_2 {ks:Sl ByteArray} (hk:ks.ok 1) (hs:ks.l.length<2 ^ 40) {i:Int} (hi0:0≤i) (hi1:i<ks.l.length) {r:AV×List AV} (hn:∃n,L54_0 C n ks (i+1)=some r):∀(d:Nat) (x:Int),0≤x→x+d=i→∃n,L54_2 C n ks x i=if((List.range' x.toNat d).any fun k=>(ks.l.getD k default).toList==(ks.l.getD i.toNat default).toList)=true then some (.bool false,[])else some r
 |0,x,h0,h1=>by
  obtain⟨n,hn⟩:=hn
  exact⟨n+1,by
   rw[E54_2]
   simp only[br_dec]
   rw[if_neg (by omega),wr1 hi0 (by omega),hn];rfl⟩
 |d+1,x,h0,h1=>by
  obtain⟨n,ih⟩:=l54_2 hk hs hi0 hi1 hn d (x+1) (by omega) (by omega)
  refine⟨n+1,?_⟩
  rw[E54_2]
  simp only[br_dec,ixE_map]
  rw[if_pos (by omega),ixT_in default h0 (by omega),rq_beq (okE hk h0 (by omega))]
  simp only[nthE_vs,asS_vs]
  rw[ixT_in default hi0 (by omega),rq_beq (okE hk h0 (by omega))]
  rw[wr1 h0 (by omega),ih,List.range'_succ,List.any_cons,show(x+1).toNat=x.toNat+1 by omega,br_if]
  cases ((ks.l.getD x.toNat default).toList==(ks.l.getD i.toNat default).toList)<;>rfl
def kdB (l:List ByteArray) (i:Nat):Bool:=namedS (l.getD i default)&& !dupB l i
theorem l52_0 {ks:Sl ByteArray} (hk:ks.ok 1) (hs:ks.l.length<2 ^ 40) (hz:∀x∈ks.l,x.size<2 ^ 40) (hC:∀s:ByteArray,s.size<2 ^ 40→C 74 [vs s]=some (.bool (namedS s),[])):∀(d:Nat) (x:Int),0≤x→x+d=ks.l.length→∃n,L52_0 C n ks x=some (.bool ((List.range' x.toNat d).all (kdB ks.l)),[])
 |0,x,h0,h1=>⟨1,by
  rw[E52_0]
  simp only[List.length_map,br_dec]
  rw[if_neg (by omega)];rfl⟩
 |d+1,x,h0,h1=>by
  obtain⟨n,ih⟩:=l52_2 (C:=C) hk hs h0 (by omega) (l52_0 hk hs hz hC d (x+1) (by omega) (by omega)) x.toNat 0 (by omega) (by omega)
  refine⟨n+1,?_⟩
  rw[E52_0]
  simp only[List.length_map,br_dec,ixE_map]
  rw[if_pos (by omega),ixT_in default h0 (by omega),rq_beq (okE hk h0 (by omega))]
  simp only[nthE_vs,asS_vs]
  rw[bindE_eq (hC _ (hz _ (getD_mem rfl h0 (by omega)))),ih]
  simp only[cN_n,asB_b,br_if]
  rw[List.range'_succ,List.all_cons,kdB,dupB,List.range_eq_range',show(x+1).toNat=x.toNat+1 by omega]
  rw[show(0:Int).toNat=0 from rfl]
  generalize namedS (ks.l.getD x.toNat default)=p
  generalize ((List.range' 0 x.toNat).any fun k=>(ks.l.getD k default).toList==(ks.l.getD x.toNat default).toList)=q
  cases p<;>cases q<;>rfl
def rlB (l:List ByteArray) (i:Nat):Bool:=(decide (((l.getD i default).size:Int)≥1)&&decide (((l.getD i default).size:Int)≤4096))&& !dupB l i
theorem l54_0 {ks:Sl ByteArray} (hk:ks.ok 1) (hs:ks.l.length<2 ^ 40):∀(d:Nat) (x:Int),0≤x→x+d=ks.l.length→∃n,L54_0 C n ks x=some (.bool ((List.range' x.toNat d).all (rlB ks.l)),[])
 |0,x,h0,h1=>⟨1,by
  rw[E54_0]
  simp only[List.length_map,br_dec]
  rw[if_neg (by omega)];rfl⟩
 |d+1,x,h0,h1=>by
  obtain⟨n,ih⟩:=l54_2 (C:=C) hk hs h0 (by omega) (l54_0 hk hs d (x+1) (by omega) (by omega)) x.toNat 0 (by omega) (by omega)
  refine⟨n+1,?_⟩
  rw[E54_0]
  simp only[List.length_map,br_dec,ixE_map]
  rw[if_pos (by omega),ixT_in default h0 (by omega),rq_beq (okE hk h0 (by omega))]
  simp only[nthE_vs,asS_vs]
  rw[ixT_in default h0 (by omega),rq_beq (okE hk h0 (by omega))]
  rw[ih,List.range'_succ,List.all_cons,rlB,dupB,List.range_eq_range',show(x+1).toNat=x.toNat+1 by omega]
  rw[show(0:Int).toNat=0 from rfl]
  generalize ks.l.getD x.toNat default=v
  by_cases h1:(v.size:Int)<1
  ·rw[if_pos h1,decide_eq_false (p:=(v.size:Int)≥1) (by omega)];rfl
  ·by_cases h2:(v.size:Int)> 4096
   ·rw[if_neg h1,if_pos h2,decide_eq_false (p:=(v.size:Int)≤4096) (by omega)];simp
   ·rw[if_neg h1,if_neg h2,decide_eq_true (p:=(v.size:Int)≥1) (by omega),decide_eq_true (p:=(v.size:Int)≤4096) (by omega)]
    cases ((List.range' 0 x.toNat).any fun k=>(ks.l.getD k default).toList==v.toList)<;>rfl
theorem kput_new:∀{kl:List ByteArray} {r:ByteArray},hasK kl r=false→kput kl r=kl++[r]
 |[],r,_=>rfl
 |x::l,r,h=>by
  simp only[hasK,List.any_cons,Bool.or_eq_false_iff]at h
  rw[kput,h.1]
  simp only[Bool.false_eq_true,if_false,List.cons_append]
  rw[kput_new (kl:=l) (r:=r) h.2]
theorem hasK_take {l:List ByteArray} {i:Nat} (hi:i<l.length):hasK (l.take i) (l.getD i default)=dupB l i:=by
 rw[Bool.eq_iff_iff]
 simp only[hasK,dupB,List.any_eq_true,List.mem_range]
 constructor
 ·rintro ⟨x,hx,he⟩
  obtain⟨k,hk,rfl⟩:=List.mem_iff_getElem.1 hx
  rw[List.length_take]at hk
  rw[List.getElem_take]at he
  refine⟨k,by omega,?_⟩
  rw[show l.getD k default=l[k]'(by omega)by simp[List.getD,show k<l.length by omega]]
  rw[beq_iff_eq]at he ⊢;exact he.symm
 ·rintro ⟨k,hk,he⟩
  refine⟨l.getD k default,List.mem_iff_getElem.2 ⟨k,by rw[List.length_take];omega,by rw[List.getElem_take];simp[List.getD,show k<l.length by omega]⟩,?_⟩
  rw[beq_iff_eq]at he ⊢;exact he.symm
theorem take_snoc' {l:List ByteArray} {i:Nat} (hi:i<l.length):l.take i++[l.getD i default]=l.take (i+1):=by
 rw[List.take_succ_eq_append_getElem hi];simp[List.getD,hi]
theorem kindsL_all {l:List ByteArray}:∀(d i:Nat),i+d=l.length→kindsL (l.take i) (l.drop i)=if(List.range' i d).all (kdB l)=true then 0 else 70
 |0,i,h=>by rw[List.drop_of_length_le (by omega)];rfl
 |d+1,i,h=>by
  have hi:i<l.length:=by omega
  rw[show l.drop i=l.getD i default::l.drop (i+1)by rw[List.drop_eq_getElem_cons hi];simp[List.getD,hi],kindsL,hasK_take hi,List.range'_succ,List.all_cons,kdB]
  cases h1:namedS (l.getD i default)with
  |false=>rfl
  |true=>
   cases h2:dupB l i with
   |true=>rfl
   |false=>
    rw[kput_new (by rw[hasK_take hi,h2]),take_snoc' hi,kindsL_all d (i+1) (by omega)];rfl
theorem rulesL_false:∀{l kl:List ByteArray},rulesL kl false l=false
 |[],_=>rfl
 |_::_,_=>by rw[rulesL];exact rulesL_false
theorem rulesL_all {l:List ByteArray}:∀(d i:Nat) (b:Bool),i+d=l.length→rulesL (l.take i) b (l.drop i)=(b&&(List.range' i d).all (rlB l))
 |0,i,b,h=>by rw[List.drop_of_length_le (by omega),rulesL];simp
 |d+1,i,b,h=>by
  have hi:i<l.length:=by omega
  rw[show l.drop i=l.getD i default::l.drop (i+1)by rw[List.drop_eq_getElem_cons hi];simp[List.getD,hi],rulesL,hasK_take hi,List.range'_succ,List.all_cons,rlB]
  cases b with
  |false=>rw[show(((false&&_)&&_)&&_:Bool)=false from rfl,rulesL_false];rfl
  |true=>
   cases h1:(decide (((l.getD i default).size:Int)≥1)&&decide (((l.getD i default).size:Int)≤4096))with
   |false=>rw[Bool.true_and,h1,Bool.false_and,rulesL_false];rfl
   |true=>
    cases h2:dupB l i with
    |true=>rw[Bool.true_and,h1,Bool.true_and,Bool.not_true,rulesL_false];rfl
    |false=>
     rw[kput_new (by rw[hasK_take hi,h2]),take_snoc' hi,Bool.true_and,h1,rulesL_all d (i+1) _ (by omega)];rfl
theorem kinds_r (hO:∀e∈O,e.f≠52) (hO2:∀e∈O,e.f≠74) {ks:Sl ByteArray} (hk:ks.ok 1) (hz:∀x∈ks.l,x.size<2 ^ 40) (hs:ks.l.length<2 ^ 40):Ans cx O 52 [ks.av vs] (.bool (kindsS ks==0),[]):=by
 refine ans_ex (lv:=lv52) F52 hO ?_
 obtain⟨n,h⟩:=l52_0 (C:=Orc cx O) hk hs hz (fun s h=>Orc_eq (name_r hO2 h)) ks.l.length 0 (by omega) (by omega)
 refine⟨n,?_⟩
 rw[E52]
 simp only[List.length_map,br_dec,ixE_map]
 rw[kindsS]
 by_cases h1:(ks.l.length:Int)<2
 ·rw[if_pos h1,decide_eq_true h1];rfl
 ·rw[if_neg h1]
  by_cases h2:(ks.l.length:Int)> 1024
  ·rw[if_pos h2,decide_eq_true h2];simp
  ·rw[if_neg h2,ixT_in default (by omega) (by omega),rq_beq (okE hk (i:=0) (by omega) (by omega))]
   simp only[nthE_vs,asS_vs]
   rw[ixT_in default (by omega) (by omega),rq_beq (okE hk (i:=0) (by omega) (by omega))]
   simp only[br_if]
   have hk:=kindsL_all (l:=ks.l) ks.l.length 0 (by omega)
   rw[List.take_zero,List.drop_zero]at hk
   rw[decide_eq_false h1,decide_eq_false h2,h,hk,show(0:Int).toNat=0 from rfl,show(1:Int).toNat=1 from rfl,show ByteArray.mk #[101,110,100]=bEnd from rfl,show ByteArray.mk #[101,114,114,111,114]=bErr from rfl]
   generalize ((ks.l.getD 0 default).toList==bEnd.toList)=p
   generalize ((ks.l.getD 1 default).toList==bErr.toList)=q
   generalize ((List.range' 0 ks.l.length).all (kdB ks.l))=r
   cases p<;>cases q<;>cases r<;>rfl
theorem names_r (hO:∀e∈O,e.f≠54) {ks:Sl ByteArray} (hk:ks.ok 1) (hs:ks.l.length<2 ^ 40):Ans cx O 54 [ks.av vs] (.bool ((decide ((ks.l.length:Int)≥1)&&decide ((ks.l.length:Int)≤2048))&&rulesL [] true ks.l),[]):=by
 refine ans_ex (lv:=lv54) F54 hO ?_
 obtain⟨n,h⟩:=l54_0 (C:=Orc cx O) hk hs ks.l.length 0 (by omega) (by omega)
 refine⟨n,?_⟩
 rw[E54]
 simp only[List.length_map,br_dec]
 have:=rulesL_all (l:=ks.l) ks.l.length 0 true (by omega)
 rw[List.take_zero,List.drop_zero,Bool.true_and]at this
 rw[this]
 by_cases h1:(ks.l.length:Int)<1
 ·rw[if_pos h1,decide_eq_false (p:=(ks.l.length:Int)≥1) (by omega)];rfl
 ·by_cases h2:(ks.l.length:Int)> 2048
  ·rw[if_neg h1,if_pos h2,decide_eq_false (p:=(ks.l.length:Int)≤2048) (by omega),Bool.and_false];rfl
  ·rw[if_neg h1,if_neg h2,h,decide_eq_true (p:=(ks.l.length:Int)≥1) (by omega),decide_eq_true (p:=(ks.l.length:Int)≤2048) (by omega)];rfl
end Go.Am.Pull
end
section
namespace Go.Am.Pull
open Go Go.Proofs Go.Am
set_option maxRecDepth 100000
set_option maxHeartbeats 4000000
variable {O:List Ent} {C:CallF}
theorem nthE_pr0 {p:Prec} {K:AV→Rs}:nthE (cells p.av) 0 K=K (vi p.level):=rfl
theorem nthE_pr1 {p:Prec} {K:AV→Rs}:nthE (cells p.av) 1 K=K (vi p.assoc):=rfl
theorem l53 {ps:Sl Prec} (hk:ps.ok 2) (hs:ps.l.length<2 ^ 40):∀(d:Nat) (x:Int),0≤x→x+d=ps.l.length→∃n,L53_0 C n ps x=some (.bool ((List.range' x.toNat d).all fun i=>precS (ps.l.getD i default) i),[])
 |0,x,h0,h1=>⟨1,by
  rw[E53_0]
  simp only[List.length_map,br_dec]
  rw[if_neg (by omega)];rfl⟩
 |d+1,x,h0,h1=>by
  obtain⟨n,ih⟩:=l53 hk hs d (x+1) (by omega) (by omega)
  refine⟨n+1,?_⟩
  rw[E53_0]
  have ei:=fun K=>ixT_in (K:=K) (l:=ps.l) (n:=x) default h0 (by omega)
  simp only[List.length_map,br_dec,ixE_map,ei,rq_beq (okE hk h0 (show x<ps.l.length by omega)),nthE_pr0,nthE_pr1,asI_vi,br_eqI,br_not]
  rw[if_pos (by omega),wr1 h0 (by omega),ih,List.range'_succ,List.all_cons,show((x.toNat:Nat):Int)=x by omega,show(x+1).toNat=x.toNat+1 by omega]
  generalize ps.l.getD x.toNat default=p
  have hb:precS p x=decide ((p.level=0∧p.assoc=0)∨(p.level≥1∧p.assoc≥1∧p.assoc≤3∧x≥2)):=by
   rw[Bool.eq_iff_iff]
   simp[precS]
   omega
  rw[hb]
  repeat' split
  all_goals first
   |(rw[decide_eq_true (by omega)];rfl)
   |(rw[decide_eq_false (by omega)];rfl)
theorem levels_r (hO:∀e∈O,e.f≠53) {ps:Sl Prec} (hk:ps.ok 2) (hs:ps.l.length<2 ^ 40):Ans cx O 53 [ps.av Prec.av] (.bool ((List.range ps.l.length).all fun i=>precS (ps.l.getD i default) i),[]):=by
 refine ans_ex (lv:=lv53) F53 hO ?_
 obtain⟨n,h⟩:=l53 (C:=Orc cx O) hk hs ps.l.length 0 (by omega) (by omega)
 exact⟨n,by rw[E53,h,List.range_eq_range'];rfl⟩
theorem move_r (hO:∀e∈O,e.f≠30) {g:Plain} {t:Table} {m:Move} {k:Int}:Ans cx O 30 [g.av,t.av,m.av,vi k] (.bool (moveS g.prods.l.length m t.moves.l.length k),[]):=by
 refine ans_ex (lv:=lv30) F30 hO ⟨0,?_⟩
 rw[E30,moveS]
 simp only[List.length_map,br_eqI,br_dec]
 by_cases h0:m.act=0
 ·rw[if_pos h0,if_pos h0]
 ·rw[if_neg h0,if_neg h0]
  by_cases h1:m.act=1
  ·rw[if_pos h1,if_pos h1]
   by_cases h2:m.n≥0
   ·by_cases h3:m.n<t.moves.l.length
    ·rw[if_pos h2,if_pos h3,decide_eq_true h2,decide_eq_true h3];rfl
    ·rw[if_pos h2,if_neg h3,decide_eq_true h2,decide_eq_false h3];rfl
   ·rw[if_neg h2,decide_eq_false h2];rfl
  ·rw[if_neg h1,if_neg h1]
   by_cases h2:m.act=2
   ·rw[if_pos h2,if_pos h2]
    by_cases h3:m.n≥0
    ·rw[if_pos h3,decide_eq_true h3];rfl
    ·rw[if_neg h3,decide_eq_false h3];rfl
   ·rw[if_neg h2,if_neg h2]
    by_cases h3:m.act=3
    ·rw[if_pos h3,if_pos h3]
     by_cases h4:m.n=0
     ·rw[if_pos h4,h4];rfl
     ·rw[if_neg h4,show(m.n==0)=false by simpa using h4];rfl
    ·rw[if_neg h3,if_neg h3]
def refV (syms:Int) (a:Act) (n:Int):Int:=if(partsS syms a n).1=true then 256 - (partsS syms a n).2 else -1
theorem kidsS_false {syms:Int}:∀{l:List Act} {m:Int},(kidsS syms l (false,m)).1=false
 |[],m=>by rw[kidsS]
 |k::l,m=>by rw[kidsS];simp only[Bool.false_and,Bool.false_eq_true,if_false];exact kidsS_false
theorem E75_stop {n:Nat} {a:Act} {syms left x:Int}:L75_1 C (n+1) a syms left x (-1)=some (vi (-1),[]):=by
 rw[E75_1]
 simp only[br_dec]
 split
 ·rw[if_neg (by omega)]
 ·rfl
theorem l75 {a:Act} {syms left:Int} (hsz:a.ks.ok 4) (hs:a.ks.l.length<2 ^ 40) (hC:∀k∈a.kids,∀m:Int,0≤m→m≤256→C 75 [actV k,vi syms,vi (256 - m)]=some (vi (refV syms k m),[])):∀(d:Nat) (x:Int) (m:Int),0≤m→m≤256→0≤x→x+d=a.kids.length→
  ∃n,L75_1 C n a syms left x (256 - m)=some (vi (if((kidsS syms (a.kids.drop x.toNat) (true,m)).1&&decide ((kidsS syms (a.kids.drop x.toNat) (true,m)).2≤256))=true then 256 - (kidsS syms (a.kids.drop x.toNat) (true,m)).2 else -1),[])
 |0,x,m,hm0,hm,h0,h1=>⟨1,by
  rw[E75_1,vActs_map]
  simp only[List.length_map,br_dec]
  rw[if_neg (by omega),List.drop_of_length_le (by omega),kidsS]
  simp only[Bool.true_and,decide_eq_true hm,if_true]⟩
 |d+1,x,m,hm0,hm,h0,h1=>by
  have hx:x<a.kids.length:=by omega
  have hk:=getD_mem (l:=a.kids) (n:=x) (d:=default) rfl h0 hx
  have hc:=hC _ hk m hm0 hm
  have hkd:kidsS syms (a.kids.drop x.toNat) (true,m)=kidsS syms (a.kids.drop (x.toNat+1)) (partsS syms (a.kids.getD x.toNat default) m):=by
   rw[drop_cons default h0 hx,kidsS,if_pos (by simp[hm])]
  obtain⟨n,ih⟩:∃n,L75_1 C n a syms left (x+1) (refV syms (a.kids.getD x.toNat default) m)=some (vi (if((kidsS syms (a.kids.drop x.toNat) (true,m)).1&&decide ((kidsS syms (a.kids.drop x.toNat) (true,m)).2≤256))=true then 256 - (kidsS syms (a.kids.drop x.toNat) (true,m)).2 else -1),[]):=by
   rw[hkd]
   have hp:=parts_le (syms:=syms) (a.kids.getD x.toNat default) m hm0 hm
   cases hb:(partsS syms (a.kids.getD x.toNat default) m).1 with
   |true=>
    have h256:(partsS syms (a.kids.getD x.toNat default) m).2≤256:=by
     rw[partsS_eq]at hb ⊢
     simp at hb;exact hb.2
    obtain⟨n,ih⟩:=l75 hsz hs hC d (x+1) (partsS syms (a.kids.getD x.toNat default) m).2 hp.1 h256 (by omega) (by omega)
    rw[refV,if_pos hb]
    rw[show(x+1).toNat=x.toNat+1 by omega,show(true,(partsS syms (a.kids.getD x.toNat default) m).2)=partsS syms (a.kids.getD x.toNat default) m by rw[←hb]]at ih
    exact⟨n,ih⟩
   |false=>
    rw[refV,if_neg (by rw[hb];simp)]
    rw[show partsS syms (a.kids.getD x.toNat default) m=(false,(partsS syms (a.kids.getD x.toNat default) m).2)by rw[←hb],kidsS_false]
    exact⟨1,E75_stop⟩
  refine⟨n+1,?_⟩
  rw[E75_1,vActs_map,show vAct=actV from funext vAct_eq]
  have ei:=fun K=>ixT_in (K:=K) (l:=a.kids) (n:=x) default h0 hx
  simp only[List.length_map,br_dec,ixE_map,ei]
  rw[if_pos hx,if_pos (by omega),rq_beq (show a.sz=4 from okE hsz (s:=a.ks) h0 hx)]
  generalize hk':a.kids.getD x.toNat default=k at *
  show bindE (C 75 [actV k,vi syms,vi (256 - m)]) _=_
  rw[hc]
  simp only[bindE_s,cN_n,asI_vi]
  rw[wr1 h0 (by have:a.ks.l.length=a.kids.length:=rfl;omega)]
  exact ih
theorem empty_size {s:ByteArray}:(s.toList==ByteArray.empty.toList)=decide ((s.size:Int)=0):=by
 have e:∀b:ByteArray,b.toList.length=b.size:=fun b=>by rw[ByteArray.toList_eq,Array.length_toList];rfl
 rw[Bool.eq_iff_iff]
 simp only[beq_iff_eq,decide_eq_true_eq]
 constructor
 ·intro h
  have:=congrArg List.length h
  rw[e]at this
  have h0:ByteArray.empty.toList.length=0:=by rw[e];rfl
  omega
 ·intro h
  have h1:=e s
  have h0:ByteArray.empty.toList=[]:=List.eq_nil_of_length_eq_zero (by rw[e];rfl)
  rw[h0]
  exact List.eq_nil_of_length_eq_zero (by omega)
theorem okA_dec {a:Act} {syms:Int}:okA a syms=decide ((a.kind=0∧a.kids.length=0∧a.ix=0∧(a.name.size:Int)=0)∨(a.kind=1∧a.kids.length=0∧a.ix≥0∧a.ix<syms∧(a.name.size:Int)=0)∨(a.kind=3∧a.kids.length=0∧a.ix=0∧(a.name.size:Int)≤4096)∨(a.kind=2∧a.ix=0∧(a.name.size:Int)≥1∧(a.name.size:Int)≤32)):=by
 rw[Bool.eq_iff_iff,okA,empty_size]
 generalize (a.name.size:Int)=z
 generalize a.kids.length=kl
 generalize a.kind=ki
 generalize a.ix=ix
 repeat' split
 all_goals first
  |(simp only[Bool.and_eq_true,decide_eq_true_eq,beq_iff_eq];omega)
  |(refine⟨fun h=>(by cases h),fun h=>?_⟩;rw[decide_eq_true_eq]at h;omega)
theorem e75 {n:Nat} {a:Act} {syms left:Int} (hl0:0≤left) (hl:left≤256):fnE cx C lv75 fn75 n [AV.agg [vi a.kind,vi a.ix,vs a.name,AV.fz a.lab a.sz (vActs a.kids)],vi syms,vi left]=
  if left<1 then some (vi (-1),[])else if okA a syms=true then L75_1 C n a syms left 0 (left - 1)else some (vi (-1),[]):=by
 rw[E75,wrap_id (by omega) (by omega),show ByteArray.mk #[]=ByteArray.empty from rfl,empty_size,okA_dec,show(vActs a.kids).length=a.kids.length by rw[vActs_map,List.length_map]]
 simp only[br_dec,br_eqI,br_not,decide_eq_true_eq]
 by_cases h1:left<1
 ·rw[if_pos (by omega),if_pos h1]
 ·rw[if_neg (by omega),if_neg h1]
  repeat' split
  all_goals first
   |rfl
   |(exfalso;omega)
theorem parts_r (hO:∀e∈O,e.f≠75) {syms:Int}:∀(N:Nat) (a:Act),SizeOf.sizeOf a<N→a.good→∀n:Int,0≤n→n≤256→Ans cx O 75 [actV a,vi syms,vi (256 - n)] (vi (refV syms a n),[])
 |0,_,h,_,_,_,_=>absurd h (Nat.not_lt_zero _)
 |N+1,a,hN,hgood,n,hn0,hn1=>by
  have hks:a.ks.ok 4∧a.ks.l.length<2 ^ 40∧goodL a.ks.l:=by cases a;rw[Act.good]at hgood;exact hgood
  have hsz:∀k∈a.ks.l,SizeOf.sizeOf k<N:=by
   intro k hk
   cases a with
   |mk kind ix name lab sz kids=>
    have:=List.sizeOf_lt_of_mem (show k∈kids from hk)
    simp at hN;omega
  refine ans_ex (lv:=lv75) F75 hO ?_
  have hC:∀k∈a.kids,∀m:Int,0≤m→m≤256→Orc cx O 75 [actV k,vi syms,vi (256 - m)]=some (vi (refV syms k m),[]):=fun k hk m h0 h1=>Orc_eq (parts_r hO N k (hsz k hk) (goodL_mem hks.2.2 hk) m h0 h1)
  show ∃m,fnE cx _ lv75 fn75 m [AV.agg [vi a.kind,vi a.ix,vs a.name,AV.fz a.lab a.sz (vActs a.kids)],vi syms,vi (256 - n)]=_
  by_cases h1:256 - n<1
  ·refine⟨0,?_⟩
   rw[e75 (by omega) (by omega),if_pos h1,refV,if_neg]
   intro h
   rw[partsS_eq]at h
   simp only[Bool.and_eq_true,decide_eq_true_eq]at h
   have:∀(l:List Act) (r:Bool×Int),257≤r.2→257≤(kidsS syms l r).2:=by
    intro l
    induction l with
    |nil=>intro r h;rw[kidsS];exact h
    |cons k l ih=>
     intro r hr
     rw[kidsS,if_neg (by simp;omega)]
     exact ih _ hr
   have:=this a.kids (okA a syms,n+1) (by show 257≤n+1;omega)
   omega
  ·cases ho:okA a syms with
   |false=>
    refine⟨0,?_⟩
    rw[e75 (by omega) (by omega),if_neg h1,ho,if_neg (by simp),refV,if_neg]
    rw[partsS_eq,ho,kidsS_false];simp
   |true=>
    obtain⟨m,hm⟩:=l75 (C:=Orc cx O) (a:=a) (syms:=syms) (left:=256 - n) hks.1 hks.2.1 hC a.kids.length 0 (n+1) (by omega) (by omega) (by omega) (by omega)
    refine⟨m,?_⟩
    rw[e75 (by omega) (by omega),if_neg h1,ho,if_pos rfl,show 256 - n - 1=256 - (n+1)by omega,hm,refV,partsS_eq,ho]
    rfl
end Go.Am.Pull
end
section
namespace Go.Am.Pull
open Go Go.Proofs Go.Am
set_option maxRecDepth 100000
set_option maxHeartbeats 4000000
variable {O:List Ent} {C:CallF}
def symB (g:Plain) (x:Int):Bool:= !((decide (x<1))||(decide (x≥(g.kinds.l.length:Int)+(g.rules.l.length:Int))))
theorem refV_pos {syms:Int} {a:Act}:decide (refV syms a 0≥0)=(partsS syms a 0).1:=by
 unfold refV
 cases h:(partsS syms a 0).1 with
 |false=>rfl
 |true=>
  have h2:(partsS syms a 0).2≤256:=by
   rw[partsS_eq]at h ⊢
   simp at h;exact h.2
  rw[if_pos rfl];exact decide_eq_true (by omega)
theorem l55 {g:Plain} {p:Prod} (hr:p.right.ok 1) (hr2:p.right.l.length<2 ^ 40) (s1:g.kinds.l.length<2 ^ 40) (s2:g.rules.l.length<2 ^ 40) (hC:C 75 [actV p.act,vi p.right.l.length,vi 256]=some (vi (refV p.right.l.length p.act 0),[])):∀(d:Nat) (x:Int),0≤x→x+d=p.right.l.length→
  ∃n,L55_0 C n g p x=some (.bool ((p.right.l.drop x.toNat).all (symB g)&&(partsS p.right.l.length p.act 0).1),[])
 |0,x,h0,h1=>⟨1,by
  rw[E55_0]
  simp only[List.length_map,br_dec]
  rw[if_neg (by omega),List.drop_of_length_le (by omega)]
  show bindE (C 75 [actV p.act,vi p.right.l.length,vi 256]) _=_
  rw[hC]
  simp only[bindE_s,cN_n,asI_vi]
  rw[refV_pos];rfl⟩
 |d+1,x,h0,h1=>by
  obtain⟨n,ih⟩:=l55 hr hr2 s1 s2 hC d (x+1) (by omega) (by omega)
  refine⟨n+1,?_⟩
  rw[E55_0]
  have hx:x<p.right.l.length:=by omega
  have ei:=fun K=>ixT_in (K:=K) (l:=p.right.l) (n:=x) 0 h0 hx
  simp only[List.length_map,br_dec,ixE_map,ei,rq_beq (okE hr h0 hx),nthE_vi,asI_vi]
  rw[if_pos hx,wr1 h0 (by omega),ih,all_drop 0 h0 hx,show(x+1).toNat=x.toNat+1 by omega,wrap_id (by omega) (by omega)]
  generalize p.right.l.getD x.toNat 0=v
  by_cases h1:v<1
  ·rw[if_pos h1,show symB g v=false by simp[symB,h1]];rfl
  ·by_cases h2:v≥(g.kinds.l.length:Int)+g.rules.l.length
   ·rw[if_neg h1,if_pos h2,show symB g v=false by simp[symB,h2]];rfl
   ·rw[if_neg h1,if_neg h2,show symB g v=true by simp[symB];omega];rfl
theorem prod_r (hO:∀e∈O,e.f≠55) (hO2:∀e∈O,e.f≠75) {g:Plain} {p:Prod} (hr:p.right.ok 1) (hr2:p.right.l.length<2 ^ 40) (hact:p.act.good) (s1:g.kinds.l.length<2 ^ 40) (s2:g.rules.l.length<2 ^ 40):Ans cx O 55 [g.av,p.av] (.bool (prodS g p),[]):=by
 refine ans_ex (lv:=lv55) F55 hO ?_
 have hC:Orc cx O 75 [actV p.act,vi p.right.l.length,vi 256]=some (vi (refV p.right.l.length p.act 0),[]):=Orc_eq (parts_r hO2 (SizeOf.sizeOf p.act+1) p.act (Nat.lt_succ_self _) hact 0 (by omega) (by omega))
 obtain⟨n,h⟩:=l55 (C:=Orc cx O) (g:=g) hr hr2 s1 s2 hC p.right.l.length 0 (by omega) (by omega)
 refine⟨n,?_⟩
 rw[E55]
 simp only[List.length_map,br_dec]
 rw[h,prodS]
 have e:∀b1 b2 b3 b4:Prop,[Decidable b1]→[Decidable b2]→[Decidable b3]→[Decidable b4]→∀c:Bool,(if b1 then some (AV.bool false,([]:List AV))else if b2 then some (AV.bool false,[])else if b3 then some (AV.bool false,[])else if b4 then some (AV.bool false,[])else some (AV.bool c,[]))=some (AV.bool (!(((decide b1||decide b2)||decide b3)||decide b4)&&c),[]):=by
  intro b1 b2 b3 b4 _ _ _ _ c
  by_cases h1:b1<;>by_cases h2:b2<;>by_cases h3:b3<;>by_cases h4:b4<;>simp[h1,h2,h3,h4]
 rw[e];rfl
theorem l29 {g:Plain} (hg:GTy g) (hC:∀p∈g.prods.l,C 55 [g.av,p.av]=some (.bool (prodS g p),[])):∀(d:Nat) (x:Int),0≤x→x+d=g.prods.l.length→∃n,L29_0 C n g x=some (vi (if(g.prods.l.drop x.toNat).all (prodS g)=true then 0 else 130),[])
 |0,x,h0,h1=>⟨1,by
  rw[E29_0]
  simp only[List.length_map,br_dec]
  rw[if_neg (by omega),List.drop_of_length_le (by omega)];rfl⟩
 |d+1,x,h0,h1=>by
  obtain⟨n,ih⟩:=l29 hg hC d (x+1) (by omega) (by omega)
  have hs:=hg.small.2.2.2
  refine⟨n+1,?_⟩
  rw[E29_0]
  have hx:x<g.prods.l.length:=by omega
  simp only[List.length_map,br_dec,ixE_map]
  rw[if_pos hx,ixT_in default h0 hx,rq_beq (okE hg.prods h0 hx),wr1 h0 (by omega),ih,all_drop default h0 hx,show(x+1).toNat=x.toNat+1 by omega]
  have hm:=getD_mem (l:=g.prods.l) (n:=x) (d:=default) rfl h0 hx
  generalize g.prods.l.getD x.toNat default=p at *
  show bindE (C 55 [g.av,p.av]) _=_
  rw[hC p hm]
  simp only[bindE_s,cN_n,asB_b,br_if]
  cases prodS g p<;>rfl
theorem gcheck_r (hO:∀e∈O,e.f≠29) (hO2:∀e∈O,e.f≠52) (hO3:∀e∈O,e.f≠74) (hO4:∀e∈O,e.f≠53) (hO5:∀e∈O,e.f≠54) (hO6:∀e∈O,e.f≠55) (hO7:∀e∈O,e.f≠75) {g:Plain} (hg:GTy g):Ans cx O 29 [g.av] (vi (gcheckS g),[]):=by
 obtain⟨s1,s2,s3,s4⟩:=hg.small
 refine ans_ex (lv:=lv29) F29 hO ?_
 have hC:∀p∈g.prods.l,Orc cx O 55 [g.av,p.av]=some (.bool (prodS g p),[]):=fun p hp=>Orc_eq (prod_r hO6 hO7 (hg.right p hp).1 (hg.right p hp).2.1 (hg.right p hp).2.2 s1 s3)
 obtain⟨n,h⟩:=l29 (C:=Orc cx O) hg hC g.prods.l.length 0 (by omega) (by omega)
 refine⟨n,?_⟩
 have h1:=Orc_eq (kinds_r (O:=O) hO2 hO3 hg.kinds hg.names s1)
 have h2:=Orc_eq (levels_r (O:=O) hO4 hg.precs s2)
 have h3:=Orc_eq (names_r (O:=O) hO5 hg.rules s3)
 rw[E29]
 show bindE (Orc cx O 52 [g.kinds.av vs]) _=_
 rw[h1]
 simp only[bindE_s,cN_n,asB_b,br_not,br_eqI,br_dec,List.length_map]
 rw[show AV.fz g.precs.lab g.precs.sz (List.map Prec.av g.precs.l)=g.precs.av Prec.av from rfl,h2,show AV.fz g.rules.lab g.rules.sz (List.map vs g.rules.l)=g.rules.av vs from rfl,h3]
 simp only[bindE_s,cN_n,asB_b,h]
 have hr:=rulesL_all (l:=g.rules.l) g.rules.l.length 0 (gOk2 g) (by omega)
 have hr':=rulesL_all (l:=g.rules.l) g.rules.l.length 0 true (by omega)
 rw[List.take_zero,List.drop_zero]at hr hr'
 rw[Bool.true_and]at hr'
 rw[gcheckS,gOk,gOk3,hr,gOk2,gOk1,gOk0,hr',show(0:Int).toNat=0 from rfl,List.drop_zero]
 generalize (List.range' 0 g.rules.l.length).all (rlB g.rules.l)=b1
 generalize g.prods.l.all (prodS g)=b2
 generalize (List.range g.precs.l.length).all (fun i=>precS (g.precs.l.getD i default) i)=b3
 generalize kindsS g.kinds=kz
 generalize (g.rules.l.length:Int)=r
 generalize (g.precs.l.length:Int)=p
 generalize (g.kinds.l.length:Int)=k
 generalize (g.prods.l.length:Int)=q
 generalize g.start=st
 simp only[br_if]
 cases b1<;>cases b2<;>cases b3<;>simp<;>(repeat' split)<;>first|rfl|(exfalso;omega)|omega
end Go.Am.Pull
end
section
namespace Go.Am.Pull
open Go Go.Proofs Go.Am
set_option maxRecDepth 100000
set_option maxHeartbeats 4000000
variable {O:List Ent} {C:CallF}
theorem l12_4 {g:Plain} {t:Table} (hty:Ty g t) (hsm:∀r∈t.goto.l,r.l.length<2 ^ 40) {i:Int} (hi0:0≤i) (hi1:i<t.goto.l.length) (hi2:i<2 ^ 40) {r:AV×List AV} (hn:∃n,L12_0 C n g t (i+1)=some r):∀(d:Nat) (x:Int),0≤x→x+d=(t.goto.l.getD i.toNat default).l.length→
  ∃n,L12_4 C n g t x i=if((t.goto.l.getD i.toNat default).l.drop x.toNat).all (goS t.moves.l.length)=true then some r else some (vi 170,[]):=by
 have hm:=getD_mem (l:=t.goto.l) (n:=i) (d:=default) rfl hi0 hi1
 have hq:=hty.grow _ hm
 have hql:=hsm _ hm
 have ei:=fun K=>ixT_in (K:=K) (l:=t.goto.l) (n:=i) default hi0 hi1
 intro d
 induction d with
 |zero=>
  intro x h0 h1
  obtain⟨n,hn⟩:=hn
  refine⟨n+1,?_⟩
  rw[E12_4]
  simp only[List.length_map,br_dec,ixE_map,ei,rq_beq (okE hty.goto hi0 hi1),nthE_sl,asF_sl]
  rw[if_neg (by omega),List.drop_of_length_le (by omega),wr1 hi0 hi2,hn];rfl
 |succ d ih=>
  intro x h0 h1
  obtain⟨n,ih⟩:=ih (x+1) (by omega) (by omega)
  refine⟨n+1,?_⟩
  rw[E12_4]
  simp only[ixE_map,ei,rq_beq (okE hty.goto hi0 hi1),nthE_sl,asF_sl]
  generalize t.goto.l.getD i.toNat default=q at *
  have hx:x<q.l.length:=by omega
  have ej:=fun K=>ixT_in (K:=K) (l:=q.l) (n:=x) 0 h0 hx
  simp only[List.length_map,br_dec,ej,rq_beq (okE hq h0 hx),nthE_vi,asI_vi]
  rw[if_pos hx,wr1 h0 (by omega),ih,all_drop 0 h0 hx,show(x+1).toNat=x.toNat+1 by omega]
  generalize q.l.getD x.toNat 0=v
  by_cases h1:v< -1
  ·rw[if_pos h1,show goS t.moves.l.length v=false by simp[goS,h1]];rfl
  ·by_cases h2:v≥t.moves.l.length
   ·rw[if_neg h1,if_pos h2,show goS t.moves.l.length v=false by simp[goS,h2]];rfl
   ·rw[if_neg h1,if_neg h2,show goS t.moves.l.length v=true by simp[goS];omega];rfl
theorem l12_2 {g:Plain} {t:Table} (hty:Ty g t) (hsm:∀r∈t.goto.l,r.l.length<2 ^ 40) (hsm2:∀r∈t.moves.l,r.l.length<2 ^ 40) (hC:∀(m:Move) (k:Int),C 30 [g.av,t.av,m.av,vi k]=some (.bool (moveS g.prods.l.length m t.moves.l.length k),[])) {i:Int} (hi0:0≤i) (hi1:i<t.goto.l.length) (hi3:i<t.moves.l.length) (hi2:i<2 ^ 40) {r:AV×List AV} (hn:∃n,L12_0 C n g t (i+1)=some r):∀(d:Nat) (x:Int),0≤x→x+d=(t.moves.l.getD i.toNat default).l.length→
  ∃n,L12_2 C n g t x i=if((List.range' x.toNat d).all (fun k=>moveS g.prods.l.length ((t.moves.l.getD i.toNat default).l.getD k default) t.moves.l.length k)&&(t.goto.l.getD i.toNat default).l.all (goS t.moves.l.length))=true then some r else some (vi 170,[]):=by
 have hm:=getD_mem (l:=t.moves.l) (n:=i) (d:=default) rfl hi0 hi3
 have hq:=hty.row _ hm
 have hql:=hsm2 _ hm
 have ei:=fun K=>ixT_in (K:=K) (l:=t.moves.l) (n:=i) default hi0 hi3
 intro d
 induction d with
 |zero=>
  intro x h0 h1
  obtain⟨n,hn⟩:=l12_4 (C:=C) hty hsm hi0 hi1 hi2 hn (t.goto.l.getD i.toNat default).l.length 0 (by omega) (by omega)
  refine⟨n+1,?_⟩
  rw[E12_2]
  simp only[List.length_map,br_dec,ixE_map,ei,rq_beq (okE hty.moves hi0 hi3),nthE_sl,asF_sl]
  rw[if_neg (by omega),hn];rfl
 |succ d ih=>
  intro x h0 h1
  obtain⟨n,ih⟩:=ih (x+1) (by omega) (by omega)
  refine⟨n+1,?_⟩
  rw[E12_2]
  simp only[ixE_map,ei,rq_beq (okE hty.moves hi0 hi3),nthE_sl,asF_sl]
  generalize t.moves.l.getD i.toNat default=q at *
  have hx:x<q.l.length:=by omega
  simp only[List.length_map,br_dec]
  rw[if_pos hx,ixT_in default h0 hx,rq_beq (okE hq h0 hx),wr1 h0 (by omega),ih,List.range'_succ,List.all_cons,show(x+1).toNat=x.toNat+1 by omega,show((x.toNat:Nat):Int)=x by omega]
  generalize q.l.getD x.toNat default=m
  show bindE (C 30 [g.av,t.av,m.av,vi x]) _=_
  rw[hC]
  simp only[bindE_s,cN_n,asB_b,br_if]
  cases moveS g.prods.l.length m t.moves.l.length x<;>rfl
theorem l12_0 {g:Plain} {t:Table} (hty:Ty g t) (hsm:∀r∈t.goto.l,r.l.length<2 ^ 40) (hsm2:∀r∈t.moves.l,r.l.length<2 ^ 40) (hlen:t.goto.l.length=t.moves.l.length) (hC:∀(m:Move) (k:Int),C 30 [g.av,t.av,m.av,vi k]=some (.bool (moveS g.prods.l.length m t.moves.l.length k),[])):∀(d:Nat) (x:Int),0≤x→x+d=t.moves.l.length→
  ∃n,L12_0 C n g t x=some (vi (if(List.range' x.toNat d).all (fun i=>rowOkS g t.moves.l.length (t.moves.l.getD i default) (t.goto.l.getD i default))=true then 0 else 170),[])
 |0,x,h0,h1=>⟨1,by
  rw[E12_0]
  simp only[List.length_map,br_dec]
  rw[if_neg (by omega)];rfl⟩
 |d+1,x,h0,h1=>by
  obtain⟨s1,s2,s3,s4,s5,s6⟩:=hty.small
  have hx:x<t.moves.l.length:=by omega
  have hx2:x<t.goto.l.length:=by omega
  obtain⟨n,ih⟩:=l12_2 (C:=C) hty hsm hsm2 hC h0 hx2 hx (by omega) (l12_0 hty hsm hsm2 hlen hC d (x+1) (by omega) (by omega)) (t.moves.l.getD x.toNat default).l.length 0 (by omega) (by omega)
  refine⟨n+1,?_⟩
  rw[E12_0]
  have ei:=fun K=>ixT_in (K:=K) (l:=t.moves.l) (n:=x) default h0 hx
  have ej:=fun K=>ixT_in (K:=K) (l:=t.goto.l) (n:=x) default h0 hx2
  simp only[List.length_map,br_dec,br_not,br_eqI,ixE_map,ei,ej,rq_beq (okE hty.moves h0 hx),rq_beq (okE hty.goto h0 hx2),nthE_sl,asF_sl]
  rw[if_pos hx,ih,List.range'_succ,List.all_cons,show(x+1).toNat=x.toNat+1 by omega,rowOkS,List.range_eq_range',show(0:Int).toNat=0 from rfl]
  generalize t.moves.l.getD x.toNat default=q
  generalize t.goto.l.getD x.toNat default=q2
  generalize (List.range' 0 q.l.length).all (fun k=>moveS g.prods.l.length (q.l.getD k default) t.moves.l.length k)=b1
  generalize q2.l.all (goS t.moves.l.length)=b2
  by_cases h1:(q.l.length:Int)=g.kinds.l.length
  ·by_cases h2:(q2.l.length:Int)=g.rules.l.length
   ·rw[if_pos h1,if_pos h2,show((q.l.length:Int)==g.kinds.l.length)=true by simpa using h1,show((q2.l.length:Int)==g.rules.l.length)=true by simpa using h2]
    cases b1<;>cases b2<;>rfl
   ·rw[if_pos h1,if_neg h2,show((q2.l.length:Int)==g.rules.l.length)=false by simpa using h2];simp
  ·rw[if_neg h1,show((q.l.length:Int)==g.kinds.l.length)=false by simpa using h1];simp
theorem check_r (hO:∀e∈O,e.f≠12) (hO1:∀e∈O,e.f≠30) (hO2:∀e∈O,e.f≠29) (hO3:∀e∈O,e.f≠52) (hO4:∀e∈O,e.f≠74) (hO5:∀e∈O,e.f≠53) (hO6:∀e∈O,e.f≠54) (hO7:∀e∈O,e.f≠55) (hO8:∀e∈O,e.f≠75) {g:Plain} {t:Table} (hg:GTy g) (hty:Ty g t) (hsm:∀r∈t.goto.l,r.l.length<2 ^ 40) (hsm2:∀r∈t.moves.l,r.l.length<2 ^ 40):Ans cx O 12 [g.av,t.av] (vi (checkS g t (gcheckS g)),[]):=by
 refine ans_ex (lv:=lv12) F12 hO ?_
 have h1:=Orc_eq (gcheck_r (O:=O) hO2 hO3 hO4 hO5 hO6 hO7 hO8 hg)
 have hgc:gcheckS g=0∨gcheckS g=130:=by unfold gcheckS;split;exact .inl rfl;exact .inr rfl
 by_cases hlen:t.goto.l.length=t.moves.l.length
 ·obtain⟨n,h⟩:=l12_0 (C:=Orc cx O) hty hsm hsm2 hlen (fun m k=>Orc_eq (move_r hO1)) t.moves.l.length 0 (by omega) (by omega)
  refine⟨n,?_⟩
  rw[E12,h1]
  simp only[bindE_s,cN_n,asI_vi,br_not,br_eqI,br_dec,List.length_map]
  rw[h,checkS,List.range_eq_range',show(0:Int).toNat=0 from rfl,show(t.goto.l.length:Int)=t.moves.l.length by omega]
  generalize (List.range' 0 t.moves.l.length).all (fun i=>rowOkS g t.moves.l.length (t.moves.l.getD i default) (t.goto.l.getD i default))=b
  generalize (t.moves.l.length:Int)=m
  rcases hgc with h0|h0<;>rw[h0]<;>cases b<;>simp<;>(repeat' split)<;>first|rfl|(exfalso;omega)|omega
 ·refine⟨0,?_⟩
  rw[E12,h1]
  simp only[bindE_s,cN_n,asI_vi,br_not,br_eqI,br_dec,List.length_map]
  rw[checkS]
  have hne:¬(t.goto.l.length:Int)=t.moves.l.length:=by omega
  rw[show((t.goto.l.length:Int)==t.moves.l.length)=false by simpa using hne,if_neg hne]
  generalize (t.moves.l.length:Int)=m
  rcases hgc with h0|h0<;>rw[h0]<;>simp<;>(repeat' split)<;>first|rfl|(exfalso;omega)|omega
def begunS (g:Plain) (t:Table) (row:List Int):Int:=if checkS g t (gcheckS g)=0 then rowS g.kinds.l.length row else checkS g t (gcheckS g)
theorem begun_r (hO0:∀e∈O,e.f≠25) (hO9:∀e∈O,e.f≠49) (hO:∀e∈O,e.f≠12) (hO1:∀e∈O,e.f≠30) (hO2:∀e∈O,e.f≠29) (hO3:∀e∈O,e.f≠52) (hO4:∀e∈O,e.f≠74) (hO5:∀e∈O,e.f≠53) (hO6:∀e∈O,e.f≠54) (hO7:∀e∈O,e.f≠55) (hO8:∀e∈O,e.f≠75) {g:Plain} {t:Table} {row:Sl Int} (hg:GTy g) (hty:Ty g t) (hsm:∀r∈t.goto.l,r.l.length<2 ^ 40) (hsm2:∀r∈t.moves.l,r.l.length<2 ^ 40) (hr:row.ok 1) (hrl:row.l.length<2 ^ 40):Ans cx O 25 [g.av,t.av,row.av vi] (vi (begunS g t row.l),[]):=by
 refine ans_ex (lv:=lv25) F25 hO0 ⟨0,?_⟩
 rw[E25,Orc_eq (check_r hO hO1 hO2 hO3 hO4 hO5 hO6 hO7 hO8 hg hty hsm hsm2),Orc_eq (row_r hO9 hr hrl)]
 simp only[bindE_s,cN_n,asI_vi,br_not,br_eqI]
 rw[begunS]
 split<;>rfl
end Go.Am.Pull
end
section
namespace Go.Am.Pull
open Go Go.Proofs Go.Am
set_option maxRecDepth 100000
set_option maxHeartbeats 4000000
variable {O:List Ent} {C:CallF}
def redM (g:Plain) (t:Table) (n:Int) (st:List Int):Option (List Int):=
 let k:=(lkP g n).right.l.length
 if st.length<k+1 then none else
 let to:=lkG t (st.getD (st.length - k - 1) 0) (lkP g n).left
 if to<0 then none else some (st.take (st.length - k)++[to])
theorem redM_eq {nd:Bool→Int→List AV→AV} {g:Plain} {t:Table} {n:Int} {p:PS}:(redS nd g t n p).map PS.st=redM g t n p.st:=by
 unfold redS redM
 simp only
 split
 ·rfl
 ·split
  ·rfl
  ·rfl
def oneM (g:Plain) (t:Table) (k:Int) (st:List Int) (n:Int):Int×Int×List Int×Int:=
 let m:=lkM t (st.getD (st.length - 1) 0) k
 if((m.act==1||m.act==2)&&decide (n≥65536))=true then(0,181,st,n)else
 if m.act=0 then(0,180,st,n)else
 if m.act=3 then(if st.length=2 then(2,0,st,n)else(0,170,st,n))else
 if m.act=2 then(match redM g t m.n st with
  |none=>(0,170,st,n)
  |some q=>(0,0,q,n+1))else
 (if m.act=1 then 1 else 0,0,st++[m.n],n+1)
def prj (r:Int×Int×PS):Int×Int×List Int×Int:=(r.1,r.2.1,r.2.2.st,r.2.2.n)
theorem oneM_eq {nd:Bool→Int→List AV→AV} {g:Plain} {t:Table} {k:Int} {d:AV} {p:PS}:prj (oneS nd g t k d p)=oneM g t k p.st p.n:=by
 unfold oneS oneM
 simp only[PS.last]
 have hred:=redM_eq (nd:=nd) (g:=g) (t:=t) (n:=(lkM t (p.st.getD (p.st.length - 1) 0) k).n) (p:=p)
 by_cases c1:(((lkM t (p.st.getD (p.st.length - 1) 0) k).act==1||(lkM t (p.st.getD (p.st.length - 1) 0) k).act==2)&&decide (p.n≥65536))=true
 ·simp only[c1,↓reduceIte];rfl
 ·simp only[c1,Bool.false_eq_true,↓reduceIte]
  by_cases c0:(lkM t (p.st.getD (p.st.length - 1) 0) k).act=0
  ·simp only[c0,↓reduceIte];rfl
  ·simp only[c0,↓reduceIte]
   by_cases c3:(lkM t (p.st.getD (p.st.length - 1) 0) k).act=3
   ·simp only[c3,↓reduceIte]
    by_cases c4:p.st.length=2
    ·simp only[c4,↓reduceIte];rfl
    ·simp only[c4,↓reduceIte];rfl
   ·simp only[c3,↓reduceIte]
    by_cases c2:(lkM t (p.st.getD (p.st.length - 1) 0) k).act=2
    ·simp only[c2,↓reduceIte]
     cases hr:redS nd g t (lkM t (p.st.getD (p.st.length - 1) 0) k).n p with
     |none=>rw[hr]at hred;rw[←hred];rfl
     |some q=>
      rw[hr]at hred;rw[←hred]
      show(_,_,q.st,q.n+1)=(_,_,q.st,p.n+1)
      rw[(redS_keeps hr).2]
    ·simp only[c2,↓reduceIte];rfl
theorem takeS_s {nd:Bool→Int→List AV→AV} {g:Plain} {t:Table} {k:Int} {d:AV} {f:Nat} {p:PS}:takeS nd g t k d (f+1) p=if(decide ((oneS nd g t k d p).1> 0)|| !((oneS nd g t k d p).2.1==0))=true then oneS nd g t k d p else takeS nd g t k d f (oneS nd g t k d p).2.2:=rfl
def takeM (g:Plain) (t:Table) (k:Int):Nat→List Int→Int→Int×Int×List Int×Int
 |0,st,n=>(0,0,st,n)
 |f+1,st,n=>let r:=oneM g t k st n;if(decide (r.1> 0)|| !(r.2.1==0))=true then r else takeM g t k f r.2.2.1 r.2.2.2
theorem takeM_eq {nd:Bool→Int→List AV→AV} {g:Plain} {t:Table} {k:Int} {d:AV}:∀{f:Nat} {p:PS},prj (takeS nd g t k d f p)=takeM g t k f p.st p.n
 |0,p=>rfl
 |f+1,p=>by
  have h:=oneM_eq (nd:=nd) (g:=g) (t:=t) (k:=k) (d:=d) (p:=p)
  rw[takeM,←h,takeS_s]
  by_cases hc:(decide ((oneS nd g t k d p).1> 0)|| !((oneS nd g t k d p).2.1==0))=true
  ·rw[if_pos hc];exact(if_pos hc).symm
  ·rw[if_neg hc];exact takeM_eq.trans (if_neg hc).symm
def cameM (g:Plain) (t:Table) (k:Int) (st:List Int) (n:Int):Int×Int×List Int×Int:=takeM g t k (65537 - n).toNat st n
theorem came_eq {nd:Bool→Int→List AV→AV} {g:Plain} {t:Table} {k:Int} {d:AV} {p:PS}:prj (takeS nd g t k d p.fuel p)=cameM g t k p.st p.n:=takeM_eq
def mayB (g:Plain) (t:Table) (st:List Int) (n k:Int):Bool:=decide ((cameM g t k st n).1> 0)
theorem one_e {nd:Bool→Int→List AV→AV} {g:Plain} {t:Table} {k:Int} {d:AV} {p:PS} (h:(oneS nd g t k d p).2.1≠0):(oneS nd g t k d p).1=0:=by
 revert h
 unfold oneS
 simp only
 repeat' split
 all_goals (intro h;first|rfl|exact absurd rfl h)
theorem take_e {nd:Bool→Int→List AV→AV} {g:Plain} {t:Table} {k:Int} {d:AV}:∀{f:Nat} {p:PS},(takeS nd g t k d f p).2.1≠0→(takeS nd g t k d f p).1=0
 |0,p,h=>absurd rfl h
 |f+1,p,h=>by
  rw[takeS_s]at h ⊢
  by_cases hc:(decide ((oneS nd g t k d p).1> 0)|| !((oneS nd g t k d p).2.1==0))=true
  ·rw[if_pos hc]at h ⊢;exact one_e h
  ·rw[if_neg hc]at h ⊢;exact take_e h
theorem may_iff {nd:Bool→Int→List AV→AV} (hnd:∀b n l,l.all isTree=true→isTree (nd b n l)=true) {g:Plain} {t:Table} (hok:Ok g t) {k:Int} {d:AV} (hd:isTree d=true) (hk0:0≤k) (hk:k<g.kinds.l.length) {p:PS} (hp:p.Fine t):
  ((takeS nd g t k d p.fuel p).2.1=0↔mayB g t p.st p.n k=true)∧(k≠0→((takeS nd g t k d p.fuel p).1=1↔mayB g t p.st p.n k=true))∧(mayB g t p.st p.n k=true→k≠0→(takeS nd g t k d p.fuel p).2.2.Fine t):=by
 obtain⟨dn,e,q,hr⟩:∃dn e q,takeS nd g t k d p.fuel p=(dn,e,q):=⟨_,_,_,rfl⟩
 obtain⟨_,h⟩:=take_fine hnd hok hd hk0 hk hp (Nat.le_refl _) hr
 have hz:e≠0→dn=0:=fun h=>by have:=take_e (nd:=nd) (g:=g) (t:=t) (k:=k) (d:=d) (f:=p.fuel) (p:=p);rw[hr]at this;exact this h
 have he:=came_eq (nd:=nd) (g:=g) (t:=t) (k:=k) (d:=d) (p:=p)
 rw[hr]at he ⊢
 have hm:mayB g t p.st p.n k=decide (dn> 0):=by rw[mayB,←he];rfl
 rw[hm]
 simp only
 rcases h with⟨h1,h2,h3,h4⟩|⟨h1,h2,h3,h4⟩|h1
 ·subst h1;subst h2;exact⟨by simp,fun _=>by simp,fun _ _=>h4⟩
 ·subst h1;subst h2;exact⟨by simp,fun hk=>absurd h3 hk,fun _ hk=>absurd h3 hk⟩
 ·have:=hz h1;subst this;exact⟨by simp[h1],fun _=>by simp,fun h=>by simp at h⟩
theorem beq_self (a:Nat):Nat.beq a a=true:=Nat.beq_refl a
theorem noLk_ow_ints {z:Nat} {l:List Int}:noLk (.ow z (l.map vi))=true:=by rw[noLk,noLkL_all,noLk_ints]
def cpS (p:PS):PS:=⟨p.st,p.ts,!p.ts.isEmpty,[],p.n⟩
def vwA (g:Plain) (t:Table) (p:PS) (l3 z3:Nat) (e3:List AV):AV:=.fp 2 (.agg [g.kinds.av vs,g.precs.av Prec.av,g.rules.av vs,g.prods.av Prod.av,vi g.start,t.moves.av (Sl.av Move.av),t.goto.av (Sl.av vi),.fz 2 1 (p.st.map vi),frz 2 (oc 3 p.tb p.ts),.fz l3 z3 e3,vi p.n]) 0
theorem begin_r (hO:∀e∈O,e.f≠38) {g:Plain} {t:Table}:Ans cx O 38 [g.av,t.av] (p0.rf g t,[]):=ans_ex (lv:=lv38) F38 hO ⟨0,by rw[E38];rfl⟩
end Go.Am.Pull
end
section
namespace Go.Am.Pull
open Go Go.Proofs Go.Am
set_option maxRecDepth 100000
set_option maxHeartbeats 4000000
variable {O:List Ent} {C:CallF}
theorem c1_1 {a:AV} {K:AV→Rs}:c1 [a] K=K a:=rfl
theorem asX_b {a:AV} {K:AV→Rs}:asX (.bx a) K=K a:=rfl
theorem cO_o {z:Nat} {es l:List AV} {K:Nat→List AV→List AV→Rs}:cO (.ow z es::l) K=K z es l:=rfl
theorem cA_c {c:AV} {l:List AV} {K:AV→List AV→Rs}:cA (c::l) K=K c l:=rfl
theorem asG_rf {g:Plain} {t:Table} {p:PS} {K:List AV→Rs}:asG (p.rf g t) K=K [g.kinds.av vs,g.precs.av Prec.av,g.rules.av vs,g.prods.av Prod.av,vi g.start,t.moves.av (Sl.av Move.av),t.goto.av (Sl.av vi),.ow 1 (p.st.map vi),oc 3 p.tb p.ts,oc 2 (!p.tr.isEmpty) (p.tr.map Move.av),vi p.n]:=rfl
theorem asT2 {a b:Int} {K:List AV→Rs}:asT (.tup [vi a,vi b]) K=K [vi a,vi b]:=rfl
theorem frz2 {a b:Int} {i:Nat} {K:AV→Rs}:nthE (frzL 0 [vi a,vi b]) i K=nthE [vi a,vi b] i K:=rfl
theorem nl_oc3 {p:PS} (h:p.ts.all isTree=true) {z:Nat} {b:Bool}:noLk (oc z b p.ts)=true:=noLk_oc (noLk_tree h)
theorem nl_oc2 {p:PS} {z:Nat} {b:Bool}:noLk (oc z b (p.tr.map Move.av))=true:=noLk_oc noLk_moves
def kdL (g:Plain) (t:Table) (st:List Int) (n:Int) (x d:Nat):List Int:=((List.range' x d).map (fun k:Nat=>(k:Int))).filter (mayB g t st n)
section
variable {g:Plain} {t:Table} {p:PS} {l2 z2 l3 z3:Nat} {e2 e3:List AV}
structure Cds (C:CallF) (g:Plain) (t:Table) (p:PS) (l2 z2:Nat) (e2:List AV) (l3 z3:Nat) (e3:List AV):Prop where
 fine:p.Fine t
 small:g.kinds.l.length<2 ^ 20
 cp:C 60 [AV.fp 2 (AV.agg [Sl.av vs g.kinds,Sl.av Prec.av g.precs,Sl.av vs g.rules,Sl.av Prod.av g.prods,vi g.start,Sl.av (Sl.av Move.av) t.moves,Sl.av (Sl.av vi) t.goto,AV.fz 2 1 (p.st.map vi),AV.fz l2 z2 e2,AV.fz l3 z3 e3,vi p.n]) 0]=some ((cpS p).rf g t,[])
 tk:∀k:Int,0≤k→k<g.kinds.l.length→∃(dn e:Int) (q:PS),C 39 [.bx ((cpS p).rf g t),vi k,zT]=some (.tup [vi dn,vi e],[.bx (q.rf g t)])∧decide (dn> 0)=mayB g t p.st p.n k∧q.ts.all isTree=true
def cvO (l:List Int):AV:=if l=[]then .fz 1 0 []else .ow 1 (l.map vi)
end
end Go.Am.Pull
end
section
namespace Go.Am.Pull
open Go Go.Proofs Go.Am
set_option maxRecDepth 100000
set_option maxHeartbeats 4000000
variable {O:List Ent} {C:CallF}
def feedM (g:Plain) (t:Table):List Int→List Int→Int→Option (List Int×Int)
 |[],st,n=>some (st,n)
 |k::l,st,n=>if mayB g t st n k=true then feedM g t l (cameM g t k st n).2.2.1 (cameM g t k st n).2.2.2 else none
def nextL (g:Plain) (t:Table) (l:List Int) (st:List Int) (n:Int):List Int:=match feedM g t l st n with|none=>[]|some (st,n)=>kdL g t st n 0 g.kinds.l.length
def cvF (l:List Int):AV:=if l=[]then .fz 1 0 []else .fz 0 1 (l.map vi)
theorem frz_cvO {l:List Int}:frz 0 (cvO l)=cvF l:=by
 unfold cvO cvF
 split
 ·rfl
 ·rw[frz,frzL_ints]
theorem noLentL_ints:∀{l:List Int},noLentL (l.map vi)=true
 |[]=>rfl
 |a::l=>by rw[List.map_cons,noLentL,noLentL_ints];rfl
theorem noLent_cvO {l:List Int}:noLent (cvO l)=true:=by
 unfold cvO
 split
 ·rfl
 ·rw[noLent,noLentL_ints]
noncomputable def LL17 (C:CallF) (n:Nat) (g:Plain) (t:Table) (row:Sl Int) (x:Int) (p:PS):Rs:=L17_0 C n g t row x g.kinds.lab g.kinds.sz (g.kinds.l.map vs) g.precs.lab g.precs.sz (g.precs.l.map Prec.av) g.rules.lab g.rules.sz (g.rules.l.map vs) g.prods.lab g.prods.sz (g.prods.l.map Prod.av) g.start t.moves.lab t.moves.sz (t.moves.l.map (Sl.av Move.av)) t.goto.lab t.goto.sz (t.goto.l.map (Sl.av vi)) (.ow 1 (p.st.map vi)) (oc 3 p.tb p.ts) (oc 2 (!p.tr.isEmpty) (p.tr.map Move.av)) p.n
theorem l17 {g:Plain} {t:Table} {row:Sl Int} (hr:RowOk g t row) (hc:∀p:PS,p.Fine t→∀l3 z3 e3,C 40 [vwA g t p l3 z3 e3]=some (cvO (kdL g t p.st p.n 0 g.kinds.l.length),[])) (ht:∀p:PS,p.Fine t→∀k:Int,0≤k→k<g.kinds.l.length→∃(dn e:Int) (q:PS),takeS ndR g t k zT p.fuel p=(dn,e,q)∧C 39 [.bx (p.rf g t),vi k,zT]=some (.tup [vi dn,vi e],[.bx (q.rf g t)])∧decide (dn> 0)=mayB g t p.st p.n k∧q.ts.all isTree=true):
  ∀(d:Nat) (x:Int) (p:PS),p.Fine t→0≤x→x+d=row.l.length→∃n,LL17 C n g t row x p=some (.tup [cvF (nextL g t (row.l.drop x.toNat) p.st p.n),vi 0],[]):=by
 intro d
 induction d with
 |zero=>
  intro x p hp h0 h1
  obtain⟨l3,z3,e3,h3⟩:∃l3 z3 e3,frz 2 (oc 2 (!p.tr.isEmpty) (p.tr.map Move.av))=.fz l3 z3 e3:=by cases (!p.tr.isEmpty)<;>exact⟨_,_,_,rfl⟩
  refine⟨1,?_⟩
  rw[LL17,E17_0]
  simp only[List.length_map,br_dec]
  rw[if_neg (by omega),h3]
  have e1:frz 2 (.ow 1 (p.st.map vi))=.fz 2 1 (p.st.map vi):=by rw[frz,frzL_ints]
  rw[e1]
  refine(bindE_eq (hc p hp l3 z3 e3)).trans ?_
  rw[List.drop_of_length_le (by omega),frz_cvO,noLent_cvO]
  simp only[cN_n]
  show asF (cvF (kdL g t p.st p.n 0 g.kinds.l.length)) _=some (.tup [cvF (kdL g t p.st p.n 0 g.kinds.l.length),vi 0],[])
  unfold cvF
  split<;>rfl
 |succ d ih=>
  intro x p hp h0 h1
  have hx:x<row.l.length:=by omega
  have hm:=getD_mem (l:=row.l) (n:=x) (d:=0) rfl h0 hx
  have hk:=hr.kinds _ hm
  obtain⟨dn,e,q,k0,k1,k2,k3⟩:=ht p hp (row.l.getD x.toNat 0) (by omega) hk.2
  have hml:=may_iff (nd:=ndR) ndR_tree hr.ok (d:=zT) rfl (k:=row.l.getD x.toNat 0) (by omega) hk.2 hp
  rw[k0]at hml
  have hl:=hr.len
  have main:∀n,LL17 C (n+1) g t row x p=if mayB g t p.st p.n (row.l.getD x.toNat 0)=true then LL17 C n g t row (x+1) q else some (.tup [.fz 1 0 [],vi 0],[]):=by
   intro n
   rw[LL17,E17_0]
   have ei:=fun K=>ixT_in (K:=K) (l:=row.l) (n:=x) 0 h0 hx
   simp only[List.length_map,br_dec,ixE_map,ei,rq_beq (okE hr.sz h0 hx),nthE_vi,asI_vi,noLk_ow_ints,nl_oc3 hp.trees,nl_oc2,rq_t]
   rw[if_pos hx]
   refine(bindE_eq k1).trans ?_
   simp only[c1_1,asX_b,asG_rf,cF_sl,cI_v,cA_c,cN_n,noLk_ow_ints,nl_oc3 k3,nl_oc2,rq_t,asT2,nonAgg_oc,frz2,nthE_0,nthE_s,asI_vi,br_not,br_eqI]
   rw[show nonAgg (.ow 1 (q.st.map vi))=true from rfl,rq_t,wr1 h0 (by omega)]
   have h2:=hml.2.1 (by omega)
   by_cases h3:dn=1
   ·rw[if_pos h3,if_pos (h2.1 h3)];rfl
   ·rw[if_neg h3,if_neg (fun h=>h3 (h2.2 h))]
  rw[drop_cons 0 h0 hx,nextL,feedM]
  cases hb:mayB g t p.st p.n (row.l.getD x.toNat 0)with
  |true=>
   have hq:=hml.2.2 hb (by omega)
   obtain⟨n,hn⟩:=ih (x+1) q hq (by omega) (by omega)
   refine⟨n+1,?_⟩
   rw[main,hb,if_pos rfl,hn,nextL,if_pos rfl,show(x+1).toNat=x.toNat+1 by omega]
   have he:=came_eq (nd:=ndR) (g:=g) (t:=t) (k:=row.l.getD x.toNat 0) (d:=zT) (p:=p)
   rw[k0]at he
   rw[←he];rfl
  |false=>exact⟨1,by rw[main,hb,if_neg (by simp),if_neg (by simp)];rfl⟩
end Go.Am.Pull
end
section
namespace Go.Am.Pull
open Go Go.Proofs Go.Am
set_option maxRecDepth 100000
set_option maxHeartbeats 4000000
variable {O:List Ent} {C:CallF}
def ocz (z:Nat) (b:Bool) (l:List AV):AV:=cond b (.fz 0 z l) (.fz 1 0 [])
theorem frz_oc {z:Nat} {b:Bool} {l:List AV} (h:frzL 0 l=l):frz 0 (oc z b l)=ocz z b l:=by
 cases b
 ·rfl
 ·show AV.fz 0 z (frzL 0 l)=_;rw[h];rfl
theorem frzT {lab:Nat} {l:List AV} (h:l.all isTree=true):frzL lab l=l:=frzL_id fun a ha=>fzn_tree (List.all_eq_true.1 h a ha)
theorem ocz_f (z:Nat) (b:Bool) (l:List AV):∃a c e,ocz z b l=.fz a c e:=by cases b<;>exact⟨_,_,_,rfl⟩
def prZ (g:Plain) (t:Table) (p:PS):AV:=.agg [g.kinds.av vs,g.precs.av Prec.av,g.rules.av vs,g.prods.av Prod.av,vi g.start,t.moves.av (Sl.av Move.av),t.goto.av (Sl.av vi),.fz 0 1 (p.st.map vi),ocz 3 p.tb p.ts,ocz 2 (!p.tr.isEmpty) (p.tr.map Move.av),vi p.n]
theorem prZ_eq {g:Plain} {t:Table} {p:PS} {a b:AV} (h2:ocz 3 p.tb p.ts=a) (h3:ocz 2 (!p.tr.isEmpty) (p.tr.map Move.av)=b):prZ g t p=.agg [g.kinds.av vs,g.precs.av Prec.av,g.rules.av vs,g.prods.av Prod.av,vi g.start,t.moves.av (Sl.av Move.av),t.goto.av (Sl.av vi),.fz 0 1 (p.st.map vi),a,b,vi p.n]:=by rw[prZ,h2,h3]
noncomputable def LL26 (C:CallF) (n:Nat) (g:Plain) (t:Table) (row:Sl Int) (x:Int) (p:PS):Rs:=L26_0 C n g t row x g.kinds.lab g.kinds.sz (g.kinds.l.map vs) g.precs.lab g.precs.sz (g.precs.l.map Prec.av) g.rules.lab g.rules.sz (g.rules.l.map vs) g.prods.lab g.prods.sz (g.prods.l.map Prod.av) g.start t.moves.lab t.moves.sz (t.moves.l.map (Sl.av Move.av)) t.goto.lab t.goto.sz (t.goto.l.map (Sl.av vi)) (.ow 1 (p.st.map vi)) (oc 3 p.tb p.ts) (oc 2 (!p.tr.isEmpty) (p.tr.map Move.av)) p.n
def allV (g:Plain) (t:Table) (r:PS×Int×Int×AV):AV:=.tup [prZ g t r.1,outA r.2.1 r.2.2.1 r.2.2.2]
theorem l26 {g:Plain} {t:Table} {row:Sl Int} (hr:RowOk g t row) (ht:∀p:PS,p.Fine t→∀k i:Int,0≤k→k<g.kinds.l.length→∃(dn e:Int) (q:PS),takeS ndR g t k (lf i) p.fuel p=(dn,e,q)∧C 39 [.bx (p.rf g t),vi k,lf i]=some (.tup [vi dn,vi e],[.bx (q.rf g t)])∧q.ts.all isTree=true∧(dn=1∧e=0∧k≠0∧q.Fine t∨dn=2∧e=0∧k=0∧q.ts.length=1∧q.tb=true∨e≠0)):
  ∀(n:Nat) (x:Int) (p:PS),p.Fine t→0≤x→x+n=row.l.length+1→0<n→∃m,LL26 C m g t row x p=some (allV g t (allS g t row.l n x p),[])
 |0,_,_,_,_,_,h=>absurd h (Nat.lt_irrefl _)
 |n+1,x,p,hp,h0,h1,_=>by
  have hl:=hr.len
  obtain⟨c0,c1,c2,c3⟩:=kd_ok (row:=row.l) hr.ok.kpos hr.kinds h0
  obtain⟨dn,e,q,k0,k1,k3,k4⟩:=ht p hp (kd row.l x) x c0 c1
  obtain⟨a3,b3,s3,e3'⟩:=ocz_f 2 (!q.tr.isEmpty) (q.tr.map Move.av)
  obtain⟨a2,b2,s2,e2'⟩:=ocz_f 3 q.tb q.ts
  have e1:frz 0 (.ow 1 (q.st.map vi))=.fz 0 1 (q.st.map vi):=by rw[frz,frzL_ints]
  have e3:frz 0 (oc 2 (!q.tr.isEmpty) (q.tr.map Move.av))=.fz a3 b3 s3:=(frz_oc frzL_moves).trans e3'
  have e2:frz 0 (oc 3 q.tb q.ts)=.fz a2 b2 s2:=(frz_oc (frzT k3)).trans e2'
  have main:∀m,LL26 C (m+1) g t row x p=if ¬e=0 then some (.tup [prZ g t q,outA e x zT],[])else if dn=2 then some (.tup [prZ g t q,outA 0 0 (q.ts.getD 0 zT)],[])else LL26 C m g t row (x+1) q:=by
   intro m
   by_cases hx:x<row.l.length
   ·rw[show kd row.l x=row.l.getD x.toNat 0 by unfold kd;rw[if_pos hx];rfl]at k1
    rw[LL26,E26_0]
    simp only[List.length_map,br_dec]
    rw[if_pos (by omega),if_pos hx]
    have ei:=fun K=>ixT_in (K:=K) (l:=row.l) (n:=x) 0 h0 hx
    simp only[ixE_map,ei,rq_beq (okE hr.sz h0 hx),nthE_vi,asI_vi,noLk_ow_ints,nl_oc3 hp.trees,nl_oc2,rq_t]
    refine(bindE_eq k1).trans ?_
    simp only[c1_1,asX_b,asG_rf,cF_sl,cI_v,cA_c,cN_n,noLk_ow_ints,nl_oc3 k3,nl_oc2,rq_t,asT2,nonAgg_oc,frz2,nthE_0,nthE_s,asI_vi,br_not,br_eqI]
    rw[show nonAgg (.ow 1 (q.st.map vi))=true from rfl,rq_t,wr1 h0 (by omega),e1,e2,e3]
    simp only[asF_f]
    by_cases he:e=0
    ·rw[if_pos he,if_neg (show ¬ ¬e=0 from fun h=>h he)]
     by_cases hd:dn=2
     ·rw[if_pos hd,if_pos hd]
      obtain⟨k,hts⟩:∃k,q.ts=[k]∧q.tb=true:=by
       rcases k4 with h|h|h
       ·omega
       ·obtain⟨a,ha⟩:=List.length_eq_one_iff.1 h.2.2.2.1
        exact⟨a,ha,h.2.2.2.2⟩
       ·exact absurd he h
      obtain⟨htk,htb⟩:=hts
      have hkt:isTree k=true:=by rw[htk]at k3;simpa using k3
      obtain⟨p',k',l',z',ks,rfl⟩:=isTree_iff hkt
      rw[htb,htk]at e2
      have e4:frz 0 (oc 3 true [AV.agg [vi p',vi k',.fz l' z' ks]])=.fz 0 3 [AV.agg [vi p',vi k',.fz l' z' ks]]:=frz_oc (frzT (by simpa using hkt))
      rw[e4]at e2
      cases e2
      rw[prZ_eq e2' e3',htk];rfl
     ·rw[if_neg hd,if_neg hd];rfl
    ·rw[if_neg he,if_pos he,prZ_eq e2' e3'];rfl
   ·rw[c3 hx]at k1
    rw[LL26,E26_0]
    simp only[List.length_map,br_dec]
    rw[if_pos (by omega),if_neg hx]
    simp only[noLk_ow_ints,nl_oc3 hp.trees,nl_oc2,rq_t]
    refine(bindE_eq k1).trans ?_
    simp only[c1_1,asX_b,asG_rf,cF_sl,cI_v,cA_c,cN_n,noLk_ow_ints,nl_oc3 k3,nl_oc2,rq_t,asT2,nonAgg_oc,frz2,nthE_0,nthE_s,asI_vi,br_not,br_eqI]
    rw[show nonAgg (.ow 1 (q.st.map vi))=true from rfl,rq_t,wr1 h0 (by omega),e1,e2,e3]
    simp only[asF_f]
    by_cases he:e=0
    ·rw[if_pos he,if_neg (show ¬ ¬e=0 from fun h=>h he)]
     by_cases hd:dn=2
     ·rw[if_pos hd,if_pos hd]
      obtain⟨k,hts⟩:∃k,q.ts=[k]∧q.tb=true:=by
       rcases k4 with h|h|h
       ·omega
       ·obtain⟨a,ha⟩:=List.length_eq_one_iff.1 h.2.2.2.1
        exact⟨a,ha,h.2.2.2.2⟩
       ·exact absurd he h
      obtain⟨htk,htb⟩:=hts
      have hkt:isTree k=true:=by rw[htk]at k3;simpa using k3
      obtain⟨p',k',l',z',ks,rfl⟩:=isTree_iff hkt
      rw[htb,htk]at e2
      have e4:frz 0 (oc 3 true [AV.agg [vi p',vi k',.fz l' z' ks]])=.fz 0 3 [AV.agg [vi p',vi k',.fz l' z' ks]]:=frz_oc (frzT (by simpa using hkt))
      rw[e4]at e2
      cases e2
      rw[prZ_eq e2' e3',htk];rfl
     ·rw[if_neg hd,if_neg hd];rfl
    ·rw[if_neg he,if_pos he,prZ_eq e2' e3'];rfl
  simp only[allS,k0]
  by_cases he:e=0
  ·by_cases hd:dn=2
   ·exact⟨1,by rw[main,if_neg (show ¬ ¬e=0 from fun h=>h he),if_pos hd,if_neg (show ¬ ¬e=0 from fun h=>h he),if_pos hd];rfl⟩
   ·have hq:(kd row.l x≠0)∧q.Fine t:=by
     rcases k4 with h|h|h
     ·exact h.2.2
     ·omega
     ·exact absurd he h
    have hx:x<row.l.length:=by
     rcases Int.lt_or_le x row.l.length with h|h
     ·exact h
     ·exact absurd (c3 (by omega)) hq.1
    obtain⟨m,hm⟩:=l26 hr ht n (x+1) q hq.2 (by omega) (by omega) (by omega)
    exact⟨m+1,by rw[main,if_neg (show ¬ ¬e=0 from fun h=>h he),if_neg hd,if_neg (show ¬ ¬e=0 from fun h=>h he),if_neg hd,hm]⟩
  ·exact⟨1,by rw[main,if_pos he,if_pos he];rfl⟩
theorem all_r (hP:∀e∈O,e.f≠26) (h38:∀e∈O,e.f≠38) (hO:∀e∈O,e.f≠39) (hO5:∀e∈O,e.f≠59) (hO7:∀e∈O,e.f≠77) (hO8:∀e∈O,e.f≠78) (hO6:∀e∈O,e.f≠76) {g:Plain} {t:Table} {row:Sl Int} (hr:RowOk g t row):
  Ans cx O 26 [g.av,t.av,row.av vi] (allV g t (allS g t row.l (row.l.length+1) 0 p0),[]):=by
 refine ans_ex (lv:=lv26) F26 hP ?_
 obtain⟨n,hn⟩:=l26 (C:=Orc cx O) hr (fun p hp k i k0 k1=>by
  obtain⟨dn,e,q,he⟩:∃dn e q,takeS ndR g t k (lf i) p.fuel p=(dn,e,q):=⟨_,_,_,rfl⟩
  have h1:=take_ok (O:=O) hO hO5 hO7 hO8 hO6 hr.ok (p:=p) (k:=k) (dp:= -1) (dt:=i) (dl:=1) (dz:=0) (ks:=[]) k0 k1 rfl hp
  have he':takeS ndR g t k (.agg [vi (-1),vi i,.fz 1 0 []]) p.fuel p=(dn,e,q):=he
  rw[he']at h1
  obtain⟨f1,f2⟩:=take_fine ndR_tree hr.ok (rfl:isTree (lf i)=true) k0 k1 hp (Nat.le_refl _) he
  exact⟨dn,e,q,he,Orc_eq h1,f1,f2⟩) (row.l.length+1) 0 p0 (p0_fine hr.ok) (by omega) (by omega) (by omega)
 refine⟨n,?_⟩
 rw[E26]
 refine(bindE_eq (Orc_eq (begin_r h38))).trans ?_
 simp only[cN_n,asG_rf,cF_sl,cI_v,cO_o,beq_self,rq_t,noLk_ow_ints]
 exact hn
end Go.Am.Pull
end
section
namespace Go.Am.Pull
open Go Go.Proofs Go.Am
set_option maxRecDepth 100000
set_option maxHeartbeats 4000000
variable {O:List Ent} {C:CallF}
theorem Sm.left {a b:AV} (h:Sm a b):∃p k l z es,a=.agg [vi p,vi k,.fz l z es]:=by cases h;exact⟨_,_,_,_,_,rfl⟩
theorem Sm.right {a b:AV} (h:Sm a b):∃p k l z es,b=.agg [vi p,vi k,.fz l z es]:=by cases h;exact⟨_,_,_,_,_,rfl⟩
theorem trV_z (l:List Move):trV l=ocz 2 (!l.isEmpty) (l.map Move.av):=by cases l<;>rfl
theorem outcome_r (hP:∀e∈O,e.f≠8) {g:Plain} {t:Table} {row:Sl Int} {b w ix p k:Int} {l z:Nat} {es:List AV} {q:PS} (h25:Ans cx O 25 [g.av,t.av,row.av vi] (vi b,[])) (h26:b=0→Ans cx O 26 [g.av,t.av,row.av vi] (allV g t (q,w,ix,.agg [vi p,vi k,.fz l z es]),[])):
  Ans cx O 8 [g.av,t.av,row.av vi] (if b=0 then .tup [outA w ix (.agg [vi p,vi k,.fz l z es]),vi 0]else .tup [Z37,vi b],[]):=by
 refine ans_ex (lv:=lv8) F8 hP ⟨0,?_⟩
 rw[E8,Orc_eq h25]
 simp only[bindE_s,cN_n,asI_vi,br_not,br_eqI]
 by_cases h0:b=0
 ·rw[if_pos h0,if_pos h0]
  refine(bindE_eq (Orc_eq (h26 h0))).trans ?_
  obtain⟨a3,b3,s3,e3⟩:=ocz_f 2 (!q.tr.isEmpty) (q.tr.map Move.av)
  obtain⟨a2,b2,s2,e2⟩:=ocz_f 3 q.tb q.ts
  rw[allV,prZ_eq e2 e3]
  have e1:frz 0 (AV.fz l z es)=.fz l z es:=rfl
  rfl
 ·rw[if_neg h0,if_neg h0];rfl
theorem trace_r (hP:∀e∈O,e.f≠10) {g:Plain} {t:Table} {row:Sl Int} {b w ix p k:Int} {l z:Nat} {es:List AV} {q:PS} (h25:Ans cx O 25 [g.av,t.av,row.av vi] (vi b,[])) (h26:b=0→Ans cx O 26 [g.av,t.av,row.av vi] (allV g t (q,w,ix,.agg [vi p,vi k,.fz l z es]),[])):
  Ans cx O 10 [g.av,t.av,row.av vi] (if b=0 then .tup [trV q.tr,vi 0]else .tup [.fz 1 0 [],vi b],[]):=by
 refine ans_ex (lv:=lv10) F10 hP ⟨0,?_⟩
 rw[E10,Orc_eq h25]
 simp only[bindE_s,cN_n,asI_vi,br_not,br_eqI]
 by_cases h0:b=0
 ·rw[if_pos h0,if_pos h0]
  refine(bindE_eq (Orc_eq (h26 h0))).trans ?_
  obtain⟨a3,b3,s3,e3⟩:=ocz_f 2 (!q.tr.isEmpty) (q.tr.map Move.av)
  obtain⟨a2,b2,s2,e2⟩:=ocz_f 3 q.tb q.ts
  rw[allV,prZ_eq e2 e3,trV_z,e3]
  rfl
 ·rw[if_neg h0,if_neg h0]
theorem mvC' {p:Move} {K:Int→Int→Rs}:(cI .i64 (List.take 2 (List.drop 0 (cells p.av))) fun n2 c3=>cI .i64 c3 fun n4 c5=>cN c5 <| K n2 n4)=K p.act p.n:=rfl
theorem l14 {a:Sl Move} (ha:a.ok 2) (hs:a.l.length<2 ^ 40):∀(d:Nat) (x:Int),0≤x→x+d=a.l.length→∃n,L14_0 C n a a x=some (.bool true,[])
 |0,x,h0,h1=>⟨1,by
  rw[E14_0]
  simp only[List.length_map,br_dec]
  rw[if_neg (by omega)]⟩
 |d+1,x,h0,h1=>by
  have hx:x<a.l.length:=by omega
  obtain⟨n,ih⟩:=l14 ha hs d (x+1) (by omega) (by omega)
  refine⟨n+1,?_⟩
  rw[E14_0]
  have ei:=fun K=>ixT_in (K:=K) (l:=a.l) (n:=x) default h0 hx
  simp only[List.length_map,br_dec,ixE_map,ei,rq_beq (okE ha h0 hx),mvC',beq_self_eq_true,Bool.and_self,Bool.not_true]
  rw[if_pos hx,wr1 h0 (by omega),ih];rfl
theorem same_moves (hP:∀e∈O,e.f≠14) {a:Sl Move} (ha:a.ok 2) (hs:a.l.length<2 ^ 40):Ans cx O 14 [a.av Move.av,a.av Move.av] (.bool true,[]):=by
 refine ans_ex (lv:=lv14) F14 hP ?_
 obtain⟨n,h⟩:=l14 (C:=Orc cx O) ha hs a.l.length 0 (by omega) (by omega)
 refine⟨n,?_⟩
 rw[E14,h]
 simp
 rfl
theorem trC {p k:Int} {l z:Nat} {es:List AV} {K:Int→Int→Nat→Nat→List AV→Rs}:(cI .i64 (List.take 3 (List.drop 0 (cells (.agg [vi p,vi k,.fz l z es])))) fun n2 c3=>cI .i64 c3 fun n4 c5=>cF c5 fun l6 z7 e8 c9=>cN c9 <| K n2 n4 l6 z7 e8)=K p k l z es:=rfl
theorem ixE_in {es:List AV} {x:Int} {a:AV} {K:AV→Rs} (h0:0≤x) (ha:es[x.toNat]?=some a):ixE es x K=K a:=by
 unfold ixE
 rw[if_pos h0,ha]
theorem l31 {p k:Int} {l z l2 z2:Nat} {es es2:List AV} (hz:es=[]∨z=3) (hz2:es2=[]∨z2=3) (hl:es.length=es2.length) (hs:es.length<2 ^ 40) (h:∀(i:Nat) a b,es[i]?=some a→es2[i]?=some b→Sm a b) (hC:∀(i:Nat) a b,es[i]?=some a→es2[i]?=some b→C 31 [a,b]=some (.bool true,[])):∀(d:Nat) (x:Int),0≤x→x+d=es.length→∃n,L31_0 C n p k l z es p k l2 z2 es2 x=some (.bool true,[])
 |0,x,h0,h1=>⟨1,by
  rw[E31_0,br_dec,if_neg (by omega)]⟩
 |d+1,x,h0,h1=>by
  obtain⟨n,ih⟩:=l31 (p:=p) (k:=k) (l:=l) (l2:=l2) hz hz2 hl hs h hC d (x+1) (by omega) (by omega)
  have i1:x.toNat<es.length:=by omega
  have i2:x.toNat<es2.length:=by omega
  have g1:=List.getElem?_eq_getElem i1
  have g2:=List.getElem?_eq_getElem i2
  have hm:=h _ _ _ g1 g2
  have hc:=hC _ _ _ g1 g2
  have z1:z=3:=hz.resolve_left (by rintro rfl;simp at i1)
  have z3:z2=3:=hz2.resolve_left (by rintro rfl;simp at i2)
  generalize es[x.toNat]=a at g1 hm hc
  generalize es2[x.toNat]=b at g2 hm hc
  obtain⟨p',k',l',z',ks,rfl⟩:=hm.left
  obtain⟨p2',k2',l2',z2',ks2,rfl⟩:=hm.right
  refine⟨n+1,?_⟩
  rw[E31_0,br_dec,if_pos (by omega),ixE_in h0 g1,rq_beq z1,trC,ixE_in h0 g2,rq_beq z3,trC]
  refine(bindE_eq hc).trans ?_
  rw[wr1 h0 (by omega),ih];rfl
theorem same_tree (hP:∀e∈O,e.f≠31) {a b:AV} (h:Sm a b):Ans cx O 31 [a,b] (.bool true,[]):=by
 induction h with
 |@mk p k l z l2 z2 es es2 hz hz2 hl hs h ih=>
  refine ans_ex (lv:=lv31) F31 hP ?_
  obtain⟨n,hn⟩:=l31 (C:=Orc cx O) (p:=p) (k:=k) (l:=l) (l2:=l2) hz hz2 hl hs h (fun i a b h1 h2=>Orc_eq (ih i a b h1 h2)) es.length 0 (by omega) (by omega)
  refine⟨n,?_⟩
  rw[E31]
  simp only[br_not,br_eqI,if_true]
  rw[if_pos (by omega)];exact hn
theorem same_r (hP:∀e∈O,e.f≠13) (hP2:∀e∈O,e.f≠31) {w i:Int} {a b:AV} (h:Sm a b):Ans cx O 13 [outA w i a,outA w i b] (.bool true,[]):=by
 have ht:=same_tree hP2 h
 obtain⟨p,k,l,z,es,rfl⟩:=h.left
 obtain⟨p2,k2,l2,z2,es2,rfl⟩:=h.right
 refine ans_ex (lv:=lv13) F13 hP ⟨0,?_⟩
 refine Eq.trans E13 ?_
 simp only[br_eqI,if_true]
 refine(bindE_eq (Orc_eq ht)).trans ?_
 rfl
theorem parses_ans (hP:∀e∈O,e.f≠3) (h13:∀e∈O,e.f≠13) (h14:∀e∈O,e.f≠14) (h31:∀e∈O,e.f≠31) {g:Plain} {t:Table} {row:Sl Int} {w i e c:Int} {a b:AV} {s:Sl Move} (hab:Sm a b) (hs:s.ok 2) (hsl:s.l.length<2 ^ 40) (h15:Ans cx O 15 [] (.bool true,[]))
  (h7:Ans cx O 7 [g.av,t.av,row.av vi] (.tup [outA w i a,vi e],[])) (h8:Ans cx O 8 [g.av,t.av,row.av vi] (.tup [outA w i b,vi e],[]))
  (h9:Ans cx O 9 [g.av,t.av,row.av vi] (.tup [s.av Move.av,vi e],[])) (h10:Ans cx O 10 [g.av,t.av,row.av vi] (.tup [s.av Move.av,vi e],[]))
  (h11:Ans cx O 11 [g.av,t.av] (vi c,[])) (h12:Ans cx O 12 [g.av,t.av] (vi c,[])):
  Ans cx O 3 [g.av,t.av,row.av vi] (.bool true,[]):=by
 have hsame:=Orc_eq (same_r h13 h31 (w:=w) (i:=i) hab)
 have hmv:=Orc_eq (same_moves h14 hs hsl)
 obtain⟨p,k,l,z,es,rfl⟩:=hab.left
 obtain⟨p2,k2,l2,z2,es2,rfl⟩:=hab.right
 refine ans_ex (lv:=lv3) F3 hP ⟨0,?_⟩
 rw[E3]
 refine(bindE_eq (Orc_eq h7)).trans ?_
 refine(bindE_eq (Orc_eq h8)).trans ?_
 refine(bindE_eq (Orc_eq h9)).trans ?_
 refine(bindE_eq (Orc_eq h10)).trans ?_
 refine(bindE_eq (Orc_eq h11)).trans ?_
 refine(bindE_eq (Orc_eq h12)).trans ?_
 simp only[cN_n,asI_vi,br_eqI,if_true]
 refine(bindE_eq hsame).trans ?_
 simp only[cN_n,asB_b,br_t]
 refine(bindE_eq hmv).trans ?_
 simp only[cN_n,asB_b,br_t]
 refine(bindE_eq (Orc_eq h15)).trans ?_
 rfl
end Go.Am.Pull
end
section
namespace Go.Am.Pull
open Go Go.Proofs Go.Am
set_option maxRecDepth 100000
set_option maxHeartbeats 4000000
variable {O:List Ent}
def reachedP:List Nat:=[3,7,8,9,10,11,12,13,14,23,24,25,26,27,28,29,30,31,34,35,37,38,39,49,50,51,52,53,54,55,56,57,58,59,72,73,74,75,76,77,78]
theorem not_reachedP {n:Nat} (hO:∀e∈O,e.f ∉ reachedP) (hn:n∈reachedP):∀e∈O,e.f≠n:=fun e he h=>hO e he (h▸hn)
theorem Sim0:p0.Sim p0:=⟨rfl,rfl,rfl,rfl,rfl,fun i a b h=>by simp[p0]at h⟩
theorem parses_all (hO:∀e∈O,e.f ∉ reachedP) (h15:Ans cx O 15 [] (.bool true,[])) {g:Plain} {t:Table} {row:Sl Int} (hg:GTy g) (ht:Ty g t) (hrows:(∀r∈t.moves.l,r.l.length<2 ^ 40)∧∀r∈t.goto.l,r.l.length<2 ^ 40) (hr:row.ok 1) (hl:row.l.length<2 ^ 40):
  Ans cx O 3 [g.av,t.av,row.av vi] (.bool true,[]):=by
 have N:=fun {n:Nat} (hn:n∈reachedP)=>not_reachedP (O:=O) hO hn
 have h11:Ans cx O 11 [g.av,t.av] (vi (checkS g t (gcheckS g)),[]):=check_q (N (by decide)) (N (by decide)) ht (gcheck_q (N (by decide)) (N (by decide)) (N (by decide)) (N (by decide)) (N (by decide)) hg)
 have h12:Ans cx O 12 [g.av,t.av] (vi (checkS g t (gcheckS g)),[]):=check_r (N (by decide)) (N (by decide)) (N (by decide)) (N (by decide)) (N (by decide)) (N (by decide)) (N (by decide)) (N (by decide)) (N (by decide)) hg ht hrows.2 hrows.1
 have hb:Ans cx O 23 [g.av,t.av,row.av vi] (vi (errS g t row),[]):=refuse_q (N (by decide)) h11 hr hl
 have hb2:Ans cx O 25 [g.av,t.av,row.av vi] (vi (errS g t row),[]):=begun_r (N (by decide)) (N (by decide)) (N (by decide)) (N (by decide)) (N (by decide)) (N (by decide)) (N (by decide)) (N (by decide)) (N (by decide)) (N (by decide)) (N (by decide)) hg ht hrows.2 hrows.1 hr hl
 have h7:=parse_q (N (by decide)) (N (by decide)) (N (by decide)) (N (by decide)) (N (by decide)) (N (by decide)) (N (by decide)) (N (by decide)) hb (rowOk_all ht hr hl)
 have h9:=trace_q (N (by decide)) (N (by decide)) (N (by decide)) (N (by decide)) (N (by decide)) (N (by decide)) (N (by decide)) (N (by decide)) hb (rowOk_all ht hr hl)
 by_cases h0:errS g t row=0
 ·have hrow:=rowOk_all ht hr hl h0
  have h26:=all_r (O:=O) (N (by decide)) (N (by decide)) (N (by decide)) (N (by decide)) (N (by decide)) (N (by decide)) (N (by decide)) hrow
  obtain⟨a,b,w,ix,tr,tr2,e1,e2,hs,hsm⟩:=run_sim hrow.ok hrow.kinds (n:=row.l.length+1) (i:=0) Sim0 (p0_fine hrow.ok) (by omega) (by omega) (by omega)
  have hlen:=(run_ahead hrow.ok (noNum_all ht h0) hrow.kinds (p0_fine hrow.ok) (by omega) (by omega) e1).1
  rw[if_pos h0,e1]at h7 h9
  rw[e2]at h26
  obtain⟨p,k,l,z,es,rfl⟩:=hsm.right
  have h8:=outcome_r (N (by decide)) hb2 (fun _=>h26)
  have h10:=trace_r (N (by decide)) hb2 (fun _=>h26)
  rw[if_pos h0]at h8 h10
  simp only at h7 h9
  rw[trSl_av]at h9
  rw[←hs.tr,trSl_av]at h10
  exact parses_ans (N (by decide)) (N (by decide)) (N (by decide)) (N (by decide)) hsm (trSl_ok a.tr) (by rw[trSl_l];omega) h15 h7 h8 h9 h10 h11 h12
 ·have h8:=outcome_r (w:=0) (ix:=0) (p:=0) (k:=0) (l:=0) (z:=0) (es:=[]) (q:=p0) (N (by decide)) hb2 (fun h=>absurd h h0)
  have h10:=trace_r (w:=0) (ix:=0) (p:=0) (k:=0) (l:=0) (z:=0) (es:=[]) (q:=p0) (N (by decide)) hb2 (fun h=>absurd h h0)
  rw[if_neg h0]at h7 h8 h9 h10
  exact parses_ans (N (by decide)) (N (by decide)) (N (by decide)) (N (by decide)) (w:=0) (i:=0) (a:=zT) (b:=zT) (s:=⟨1,0,[]⟩) Sm.leaf (.inl rfl) (by simp) h15 h7 h8 h9 h10 h11 h12
end Go.Am.Pull
end
