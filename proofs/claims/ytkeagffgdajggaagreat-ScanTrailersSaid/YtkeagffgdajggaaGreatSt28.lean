/- A part. -/
import Derived.Test.YtkeagffgdajggaaGreatSt27
import Derived.OpenShut
import Derived.ChangeCalls
import Derived.Test.YtkeagffgdajggaaGreatRows
import Derived.JoinedCond
set_option linter.unusedSimpArgs false
set_option linter.unusedVariables false
section
set_option maxRecDepth 100000
namespace Go.AB
open Go
open Go.Proofs.Tryz (prog)
attribute[-go_sem] cV dB cg cU Nat.add_zero tz du
def rA:IC:=
 (ag [cY 0 (.bool false)] []
 (ag [i1 8 (.bB 1 39 [.int .u8 0,.int .u8 0,.int .u8 0,.int .u8 0,.int .u8 0,.int .u8 0,.int .u8 0,.int .u8 0,.int .u8 0,.int .u8 0,.int .u8 0,.int .u8 0,.int .u8 0,.int .u8 0,.int .u8 0,.int .u8 0,.int .u8 0,.int .u8 0,.int .u8 0,.int .u8 0,.int .u8 0,.int .u8 0,.int .u8 0,.int .u8 0,.int .u8 0,.int .u8 0,.int .u8 0,.int .u8 0,.int .u8 0,.int .u8 0,.int .u8 0,.int .u8 0,.int .u8 0,.int .u8 0,.int .u8 0,.int .u8 0,.int .u8 0,.int .u8 0,.int .u8 0] [(0,1,(.c (.int .u8 50))),(1,1,(.c (.int .u8 32))),(2,1,(.c (.int .u8 48))),(3,1,(.c (.int .u8 32))),(4,1,(.c (.int .u8 111))),(5,1,(.c (.int .u8 98))),(6,1,(.c (.int .u8 106))),(7,1,(.c (.int .u8 32))),(8,1,(.c (.int .u8 55))),(9,1,(.c (.int .u8 32))),(10,1,(.c (.int .u8 101))),(11,1,(.c (.int .u8 110))),(12,1,(.c (.int .u8 100))),(13,1,(.c (.int .u8 111))),(14,1,(.c (.int .u8 98))),(15,1,(.c (.int .u8 106))),(16,1,(.c (.int .u8 32))),(17,1,(.c (.int .u8 116))),(18,1,(.c (.int .u8 114))),(19,1,(.c (.int .u8 97))),(20,1,(.c (.int .u8 105))),(21,1,(.c (.int .u8 108))),(22,1,(.c (.int .u8 101))),(23,1,(.c (.int .u8 114))),(24,1,(.c (.int .u8 60))),(25,1,(.c (.int .u8 60))),(26,1,(.c (.int .u8 47))),(27,1,(.c (.int .u8 82))),(28,1,(.c (.int .u8 111))),(29,1,(.c (.int .u8 111))),(30,1,(.c (.int .u8 116))),(31,1,(.c (.int .u8 32))),(32,1,(.c (.int .u8 50))),(33,1,(.c (.int .u8 32))),(34,1,(.c (.int .u8 48))),(35,1,(.c (.int .u8 32))),(36,1,(.c (.int .u8 82))),(37,1,(.c (.int .u8 62))),(38,1,(.c (.int .u8 62)))]),i1 9 (.jg (.t 8)),mt 1 9] [1]
 (ag [mv 10 1,c1 11 9 10,mt 2 11] [1,2]
 (ag [mv 13 1,c1 14 12 13,jJ 12 14,ex 15 12 0,ex 16 12 1,i1 3 (.aA dD),st 4 3 15,mv 4 16] [1,2,3,4]
 (ag [mt 18 1,c1 19 29 18,c1 20 28 19,jJ 17 20,ex 21 17 0,ex 22 17 1,ex 23 17 2,i1 5 (.aA [.sl true 1 0 [],.int .i64 0]),st 2 5 21,mv 6 22,mv 7 23] [2,3,4,5,6,7]
 (ag [mv 24 2,le 25 0 24,bn 26 .eql 25 2,mv 27 26,bK 28 2 27 true,b6 29 27 true (.indexAddr vm (.t 28) (.c (.int .i64 0))),lg 30 27 true 1 29,im 31 27 true .eql 30 (-1),pf 32 27 31,mv 33 32,bK 34 2 33 true,b6 35 33 true (.indexAddr vm (.t 34) (.c (.int .i64 1))),lg 36 33 true 1 35,im 37 33 true .eql 36 0,pf 38 33 37,mv 39 38,bK 40 4 39 true,pf 41 39 40,mv 42 41,fg 43 42 true 0 3,lg 44 42 true 1 43,im 45 42 true .eql 44 7,pf 46 42 45,mv 47 46,bK 48 6 47 true,im 49 47 true .eql 48 0,pf 50 47 49,mv 51 50,bK 52 7 51 true,im 53 51 true .eql 52 0,pf 54 51 53,mv 55 54,fg 56 55 true 1 5,lg 57 55 true 1 56,im 58 55 true .eql 57 2,pf 59 55 58,mv 60 59,fg 61 60 true 0 5,lg 62 60 true 1 61,b6 63 60 true (.len 0 (.t 62)),im 64 60 true .eql 63 2,pf 65 60 64,mv 0 65] [0]
 .ret))))))
theorem B6:aY prog 8 66 [⟨0,true,none⟩] rA=true:=by kernel_rfl
def ku:IC:=
 (ag [cY 2 (.bool false)] [0]
 (.seq (ag [mv 7 0,le 8 0 7,bn 9 .gtr 8 500] [0,9]
 (.cond (.t 9) (ag [i1 10 (.call 8 []),mv 2 10] [2]
 .ret)
 .skip))
 (ag [mv 12 0,c1 13 12 12,jJ 11 13,ex 14 11 0,ex 15 11 1,i1 3 (.aA dD),st 4 3 14,mv 4 15] [0,3,4]
 (ag [mt 17 0,c1 18 13 17,jJ 16 18,ex 19 16 0,ex 20 16 1,i1 5 (.aA dD),st 4 5 19,mv 6 20] [3,4,5,6]
 (ag [lm 21 4 3,lm 22 4 5,c2 23 14 21 22,mv 24 23,bK 25 4 24 true,bK 26 6 24 true,b6 27 24 true (.RG false (.t 25) (.t 26)),pf 28 24 27,mv 29 28,b6 30 29 true (.call 8 []),pf 31 29 30,mv 2 31] [2]
 .ret)))))
theorem qJ:aY prog 4 32 [⟨2,true,none⟩] ku=true:=by kernel_rfl
def NU:List UInt8:=[50,32,48,32,111,98,106,32,55,32,101,110,100,111,98,106,32,116,114,97,105,108,101,114,60,60,47,82,111,111,116,32,50,32,48,32,82,62,62]
def Tz:NT:=ot (fun _=>none) 0 (jl Q3 0 NU)
def g39:ox:=⟨39,[⟨0,39⟩],Tz⟩
def abJ:aa:=⟨7,0,⟨[]⟩,[⟨5,0,⟨[82,111,111,116]⟩,[]⟩,⟨8,2,⟨[]⟩,[]⟩]⟩
theorem Xr:my ⟨39,[],fun _=>none⟩ 0 NU=some (g39,0):=by
 unfold my
 rw[if_neg (by decide),if_neg (by decide)]
 refine ah (a:=[⟨0,39⟩]) (by kernel_rfl) ?_
 refine ah (a:=Tz) (by kernel_rfl) ?_
 exact ah (a:=[⟨0,39⟩]) (show AR [] ⟨0,ao (0+(NU.length:Int))⟩=_ by kernel_rfl) rfl
theorem Xq:mf NU=some [-1,0]:=by kernel_rfl
theorem Xs:iB NU=some (abJ,true):=by kernel_rfl
theorem Ti(B:Nat):tf ⟨B,g39⟩=some (⟨[-1,0],2⟩,0,0):=by kernel_rfl
theorem QY{s:ab}{Q:List AV->ab->Prop}(hq:∀s',Sub s s'->Q [.bool true] s'):FN prog 8 [] s Q:=by
 refine FO B6 rfl rfl ?_
 rw[rA]
 simp -implicitDefEqProofs only[go_sem,Nat.reduceBEq,Nat.reduceAdd,Nat.reduceMul,Nat.reduceLeDiff,Nat.reduceEqDiff,Nat.reduceBNe,UInt8.reduceToNat,UInt32.reduceToNat]
 refine ib (as1:=[.sl false 1 NU.length (flat NU)]) (by rfl) (FE.app (qB Xq) ?_)
 simp -implicitDefEqProofs only[go_sem,Nat.reduceBEq,Nat.reduceAdd,Nat.reduceMul,Nat.reduceLeDiff,Nat.reduceEqDiff,Nat.reduceBNe,UInt8.reduceToNat,UInt32.reduceToNat]
 refine ib (as1:=[.sl false 1 NU.length (flat NU)]) (by rfl) (FE.app (lJ Xs) ?_)
 simp -implicitDefEqProofs only[go_sem,Nat.reduceBEq,Nat.reduceAdd,Nat.reduceMul,Nat.reduceLeDiff,Nat.reduceEqDiff,Nat.reduceBNe,UInt8.reduceToNat,UInt32.reduceToNat]
 refine ib (as1:=[.sl false 1 NU.length (flat NU)]) (by rfl) (AP (l:=NU) (by decide) ⟨(g39,0),Xr,fun B s2 c6=>?_⟩)
 simp -implicitDefEqProofs only[go_sem,Nat.reduceBEq,Nat.reduceAdd,Nat.reduceMul,Nat.reduceLeDiff,Nat.reduceEqDiff,Nat.reduceBNe,UInt8.reduceToNat,UInt32.reduceToNat]
 refine FE.app (HA (s_0:=⟨B,g39⟩) ⟨⟨s,c6⟩,(by decide:(39:Int)<=2147483647)⟩ (Ti B)) ?_
 have l2:(([-1,0]:List Int).length:Int)=2:=rfl
 have e2:((2:Int)==2)=true:=rfl
 have e0:((0:Int)==0)=true:=rfl
 have p0:pad [.int .i64 0] (views (AB.sub (flat ([-1,0]:List Int)) 0 1))=[.int .i64 (-1)]:=rfl
 have p1:pad [.int .i64 0] (views (List.take 1 (List.drop (Int.toNat 1*1) [AV.int .i64 (-1),.int .i64 0])))=[.int .i64 0]:=rfl
 have k7:(abJ.Kind==7)=true:=rfl
 have i0:(0:Int)<=0/\(0:Int)<2:=by decide
 have i1:(0:Int)<=1/\(1:Int)<2:=by decide
 have em:((-1:Int)==-1)=true:=rfl
 simp -implicitDefEqProofs only[go_sem,Nat.reduceBEq,Nat.reduceAdd,Nat.reduceMul,Nat.reduceLeDiff,Nat.reduceEqDiff,Nat.reduceBNe,UInt8.reduceToNat,UInt32.reduceToNat,l2,e2,e0,em,p0,p1,k7,Bool.true_eq_false,Bool.false_eq_true,false_implies,true_implies,true_and,and_true,Bool.not_true,Bool.not_false,Bool.true_or,Bool.false_or,Bool.and_self]
 exact⟨by decide,by decide,hq s2 c6.1⟩
theorem S9{b:List UInt8}{s:ab}{Q:List AV->ab->Prop}(hq:∀s',Sub s s'->Q [.bool true] s'):FN prog 4 [.sl false 1 b.length (flat b)] s Q:=by
 refine FO qJ rfl rfl ?_
 rw[ku]
 simp -implicitDefEqProofs only[go_sem,seval]
 cases hl:decide ((b.length:Int)>500)with
 |true=>
  simp -implicitDefEqProofs only[go_sem,seval,hl,Bool.true_eq_false,Bool.false_eq_true,false_implies,true_implies,true_and,and_true,Bool.not_true,Bool.not_false,Bool.true_or,Bool.false_or]
  refine QY fun s' hs=>?_
  simp -implicitDefEqProofs only[go_sem,seval]
  exact hq s' hs
 |false=>
  have hb:b.length<=500:=by have:=of_decide_eq_false hl;omega
  have hb2:b.length<1048576:=by omega
  simp -implicitDefEqProofs only[go_sem,seval,hl,Bool.true_eq_false,Bool.false_eq_true,false_implies,true_implies,true_and,and_true,Bool.not_true,Bool.not_false,Bool.true_or,Bool.false_or]
  have h1:=NK hb2
  have h2:=NA hb2
  have h3:=NC (L9 hb2 b.length)
  generalize gi b b.length=x at h1 h2 h3
  refine FE.app (lJ h1) ?_
  simp -implicitDefEqProofs only[go_sem,seval,Bool.true_eq_false,Bool.false_eq_true,false_implies,true_implies,true_and,and_true,Bool.not_true,Bool.not_false,Bool.true_or,Bool.false_or]
  refine FE.app (yD h2) ?_
  simp -implicitDefEqProofs only[go_sem,seval,Bool.true_eq_false,Bool.false_eq_true,false_implies,true_implies,true_and,and_true,Bool.not_true,Bool.not_false,Bool.true_or,Bool.false_or]
  have ee:(x.2==x.2)=true:=beq_self_eq_true _
  refine FE.app (En h3) ?_
  simp -implicitDefEqProofs only[go_sem,seval,ee,Bool.true_eq_false,Bool.false_eq_true,false_implies,true_implies,true_and,and_true,Bool.not_true,Bool.not_false,Bool.true_or,Bool.false_or]
  refine QY fun s' hs=>?_
  simp -implicitDefEqProofs only[go_sem,seval,ee,Bool.true_eq_false,Bool.false_eq_true,false_implies,true_implies,true_and,and_true,Bool.not_true,Bool.not_false,Bool.true_or,Bool.false_or]
  exact hq s' hs
theorem o6(_:List UInt8):True:=trivial
theorem qN{b_0:List UInt8}{s:ab}(_:True):FE prog 4 [.sl false 1 b_0.length (flat b_0)] s [.bool true] s:=FN.forget (S9 fun s' hs=>⟨_,hs,rfl,rfl⟩)
end Go.AB
end
section
namespace Go.AB
open Go Go.RowKit Go.ChangeShapes Go.WideShapes
def zX(N:Nat)(w:World)(b:Nat):Nat:=if b<w.heap.size then N else 0
theorem KN{P:Program}{w:World}{f:FuncId}{args:List AV}{vs:Array Value}(N:Nat)(hf:FN P f args A6 fun rs _=>rs=[.bool true])(ha:nq w (zX N w) args vs):
 Calls P f vs w fun e w'=>e=.returned (.bool true)/\Below w.heap.size w w':=by
 refine(hf ⟨zX N w,fun _=>.none⟩ w vs ⟨fun _ _=>rfl,fun b hb=>?_⟩ (fun b=>.inl rfl) (fun b o h=>by cases h) ha).mono fun e w'⟨v,rs,s',G',he,hq,_,_,hr,hp⟩=>?_
 ·show zX N w b=0
  unfold zX
  rw[if_neg (by omega)]
 ·subst hq
  refine⟨?_,⟨hp.os,hp.tape,hp.output,hp.size,fun b hb=>hp.frame b hb (.inr rfl)⟩⟩
  rw[he]
  have:=VR.fR hr.1
  rw[this]
def J6(w:World)(R:Nat->Nat)(as1:List AV)(cs:List Value):Prop:=cs.length=as1.length/\∀(j:Nat)(a:AV)(v:Value),as1[j]? =some a->cs[j]? =some v->VR w R a v
theorem J6.one{w:World}{R:Nat->Nat}{a:AV}{v:Value}(h:VR w R a v):J6 w R [a] [v]:=by
 refine⟨rfl,fun j a' v' h1 h2=>?_⟩
 cases j with
 |zero=>cases h1;cases h2;exact h
 |succ j=>simp at h1
theorem J6.append{w:World}{R:Nat->Nat}{as1 bs:List AV}{cs ds:List Value}(h:J6 w R as1 cs)(k:J6 w R bs ds):J6 w R (as1++bs) (cs++ds):=by
 refine⟨by rw[List.length_append,List.length_append,h.1,k.1],fun j a v h1 h2=>?_⟩
 rcases Nat.lt_or_ge j as1.length with hj|hj
 ·rw[List.getElem?_append_left hj]at h1
  rw[List.getElem?_append_left (by rw[h.1];exact hj)]at h2
  exact h.2 j a v h1 h2
 ·rw[List.getElem?_append_right hj]at h1
  rw[List.getElem?_append_right (by rw[h.1];exact hj),h.1]at h2
  exact k.2 _ a v h1 h2
def pB(P:Program)(t:TypeId){α:Type}(n:Nat)(C:α->List AV)(wf:α->Prop):Prop:=
 ∀(H:Type)(enc:TypeId×Value->H)(w:World)(fuel:Nat)(cs:List Value)(x:DataW H×List MemPlace),DataW.trod enc P w 0 (fun _=>true) true fuel t cs=some x->
  cs.length=n/\∃a:α,wf a/\Fl (C a)/\∃N0,∀N,N0<=N->J6 w (zX N w) (C a) cs
def N8(P:Program)(t:TypeId)(α:Type)[aR α](wf:α->Prop):Prop:=pB P t (aR.w α) (aR.cells:α->List AV) wf
section
variable{P:Program}{t:TypeId}
theorem Gf{a:AV}(h:oE a=true):Fl [a]:=by
 intro c hc
 rw[List.mem_singleton]at hc;rw[hc];exact h
theorem P7(ht:P.underlying t=some (.int .u8)):N8 P t UInt8 fun _=>True:=by
 intro H enc w fuel cs x h
 obtain⟨n,rfl,_,hw⟩:=DataW.trod_int ht h
 have hb:0<=n/\n<=255:=by simpa[Lit.wf,IntKind.min,IntKind.max,IntKind.signed,IntKind.bits]using hw
 refine⟨rfl,UInt8.ofNat n.toNat,trivial,Gf rfl,0,fun N _=>?_⟩
 have e:((UInt8.ofNat n.toNat).toNat:Int)=n:=by rw[UInt8.toNat_ofNat'];omega
 show J6 _ _ [.int .u8 ((UInt8.ofNat n.toNat).toNat:Int)] _
 rw[e]
 exact J6.one (.int _ n)
theorem zw{α:Type}{Q:Nat->α->Prop}:∀n:Nat,(∀i,i<n->∃a,Q i a)->∃l:List α,l.length=n/\∀(i:Nat)(a:α),l[i]? =some a->Q i a
 |0,_=>⟨[],rfl,fun i a h=>by simp at h⟩
 |n+1,h=>by
  obtain⟨l,h1,h2⟩:=zw n fun i hi=>h i (by omega)
  obtain⟨a,ha⟩:=h n (by omega)
  refine⟨l++[a],by simp[h1],fun i x hx=>?_⟩
  rcases Nat.lt_or_ge i n with hi|hi
  ·rw[List.getElem?_append_left (by omega)]at hx;exact h2 i x hx
  ·rw[List.getElem?_append_right (by omega)]at hx
   have:i=n:=by
    have:=(List.getElem?_eq_some_iff.1 hx).1
    simp at this;omega
   subst this
   rw[h1,Nat.sub_self]at hx
   injection hx with hx;rw[<-hx];exact ha
theorem common{Q:Nat->Nat->Prop}:∀n:Nat,(∀i,i<n->∃N0,∀N,N0<=N->Q i N)->∃N0,∀N,N0<=N->∀i,i<n->Q i N
 |0,_=>⟨0,fun _ _ i h=>absurd h (Nat.not_lt_zero i)⟩
 |n+1,h=>by
  obtain⟨a,ha⟩:=common n fun i hi=>h i (by omega)
  obtain⟨b,hb⟩:=h n (by omega)
  refine⟨max a b,fun N hN i hi=>?_⟩
  rcases Nat.lt_or_ge i n with h1|h1
  ·exact ha N (by omega) i h1
  ·have:i=n:=by omega
   rw[this];exact hb N (by omega)
theorem OX{α:Type}[aR α](l:List α){i r:Nat}{a:α}(hi:l[i]? =some a)(hr:r<aR.w α):(flat l)[i*aR.w α+r]? =(aR.cells a)[r]? :=by
 have h1:=jS l (aR.w α) i 1 rfl
 obtain⟨hlt,he⟩:=List.getElem?_eq_some_iff.1 hi
 have h2:(l.drop i).take 1=[a]:=by rw[List.drop_eq_getElem_cons hlt,he];rfl
 rw[h2,ml,rl,List.append_nil,Nat.one_mul]at h1
 rw[<-h1]
 unfold AB.sub
 rw[List.getElem?_take,if_pos hr,List.getElem?_drop]
end
end Go.AB
end
section
namespace Go.AB
open Go Go.RowKit Go.ChangeShapes Go.WideShapes
section
variable{P:Program}
theorem uB{H:Type}{enc:TypeId×Value->H}(hl:laidOutB P=true){W W':World}(hb:Below W.heap.size W W'):
 ∀{ts:List TypeId}{vs:List Value}{ds:List (DataW H)}{ps:List MemPlace},(∀t∈ts,P.readableRec t=true/\t<P.types.size)->DataW.TrodAll enc P W 0 (fun _=>true) true ts vs ds ps->
  DataW.TrodAll enc P W' 0 (fun b=>decide (b<W.heap.size)) true ts vs ds ps
 |[],[],[],_,_,h=>h
 |t::ts,v::vs,d::ds,_,hr,h=>by
  have hlt:=h.lt
  obtain⟨p,q,h1,h2,rfl⟩:=h
  have ht:=hr t List.mem_cons_self
  exact⟨p,q,Below.trod hl ht.1 ht.2 h1 hb fun x hx=>hlt x (List.mem_append_left _ hx),uB hl hb (fun t ht=>hr t (List.mem_cons_of_mem _ ht)) h2,rfl⟩
 |[],_::_,_,_,_,h=>h.elim
 |[],[],_::_,_,_,h=>h.elim
 |_::_,[],_,_,_,h=>h.elim
 |_::_,_::_,[],_,_,h=>h.elim
theorem PM{H:Type}{enc:TypeId×Value->H}{fn:Func}{s:ChangeSpec}{f:FuncId}{W:World}{args:Array Value}{ds gs:List (DataW H)}{before:List MemPlace}{tb:TypeId}
 (T0:s.vars=[])(ko:fn.resultTypes= #[tb])(htb:P.underlying tb=some .bool)(hl:laidOutB P=true)(hr:∀t∈fn.params.toList,P.readableRec t=true/\t<P.types.size)
 (ZW:∀ds:List (DataW H),ds.length=fn.params.toList.length->s.fn H ds={results:=[.lit (.bool true)],args:=ds})
 (hW:DataW.Whole enc P fn.params.toList s.vars false W args.toList ds gs before)
 (hc:Calls P f args W fun e w'=>e=.returned (.bool true)/\Below W.heap.size W w'):
 Calls P f args W fun e W'=>∃v,e=.returned v/\s.post enc P fn false true false false W args v W':=by
 refine hc.mono fun e W'⟨he,hb⟩=>⟨.bool true,he,?_⟩
 have hW':=hW
 obtain⟨p,q,hA,hV,rfl,hfz,hnd⟩:=hW
 rw[T0]at hV
 obtain⟨rfl,rfl⟩:=trodVars_none hV
 have hs:=ZW ds (trodAll_length hA).2
 refine⟨ds,[],_,[],p,[],hW',?_,?_,?_,?_,fun h=>by cases h⟩
 ·rw[List.append_nil,hs,ko]
  exact trodAll_mk1 (shut_bool htb true)
 ·rw[List.append_nil,hs]
  exact uB hl hb hr hA
 ·rw[List.append_nil,hs,T0]
  exact rfl
 ·exact World.keptBut_mono (fun p hp=>hp.elim) (hb.frame fun _=>False)
theorem pB.map{t:TypeId}{n:Nat}{α β:Type}{C:α->List AV}{wf:α->Prop}(h:pB P t n C wf){C':β->List AV}{wf':β->Prop}(g:α->β)(hC:∀a,C' (g a)=C a)(hw:∀a,wf a->wf' (g a)):pB P t n C' wf':=by
 intro H enc w fuel cs x hx
 obtain⟨h1,a,h2,h3,N0,h4⟩:=h H enc w fuel cs x hx
 exact⟨h1,g a,hw a h2,by rw[hC];exact h3,N0,by rw[hC];exact h4⟩
section
variable{H:Type}{enc:TypeId×Value->H}{w:World}{t:TypeId}{α:Type}[aR α]{wf:α->Prop}{b0:Nat}{v:Value}{d:DataW H}{ps:List MemPlace}
theorem J6.head{R:Nat->Nat}{a:AV}(h:J6 w R [a] [v]):VR w R a v:=h.2 0 a v rfl rfl
end
theorem Y3{w:World}{R:Nat->Nat}{a0:AV}{v0:Value}(h0:VR w R a0 v0):nq w R [a0] #[v0]:=⟨rfl,fun j a v h1 h2=>by match j,h1,h2 with|0,h1,h2=>(cases h1;cases h2;exact h0)⟩
end
end Go.AB
end
section
namespace Go.AB
open Go
end Go.AB
end
section
namespace Go.AB
open Go Go.RowKit Go.ChangeShapes Go.WideShapes
def jL(K:Nat)(P:Program)(t:TypeId){α:Type}(n:Nat)(C:α->List AV)(wf:α->Prop):Prop:=
 ∀(H:Type)(enc:TypeId×Value->H)(w:World)(fuel:Nat)(cs:List Value)(x:DataW H×List MemPlace),fuel<=K->DataW.trod enc P w 0 (fun _=>true) true fuel t cs=some x->
  cs.length=n/\∃a:α,wf a/\Fl (C a)/\∃N0,∀N,N0<=N->J6 w (zX N w) (C a) cs
section
variable{P:Program}{t:TypeId}
theorem pB.b{n:Nat}{α:Type}{C:α->List AV}{wf:α->Prop}(h:pB P t n C wf)(K:Nat):jL K P t n C wf:=fun H enc w fuel cs x _ hx=>h H enc w fuel cs x hx
theorem jL.all{n:Nat}{α:Type}{C:α->List AV}{wf:α->Prop}(h:∀K,jL K P t n C wf):pB P t n C wf:=fun H enc w fuel cs x hx=>h fuel H enc w fuel cs x (Nat.le_refl _) hx
theorem jL.le{n:Nat}{α:Type}{C:α->List AV}{wf:α->Prop}{K K':Nat}(h:jL K P t n C wf)(hk:K'<=K):jL K' P t n C wf:=fun H enc w fuel cs x hf hx=>h H enc w fuel cs x (Nat.le_trans hf hk) hx
theorem jL.zero{n:Nat}{α:Type}{C:α->List AV}{wf:α->Prop}:jL 0 P t n C wf:=fun H enc w fuel cs x hf hx=>by
 have:fuel=0:=by omega
 subst this
 simp[DataW.trod]at hx
theorem jL.map{K n:Nat}{α β:Type}{C:α->List AV}{wf:α->Prop}(h:jL K P t n C wf){C':β->List AV}{wf':β->Prop}(g:α->β)(hC:∀a,C' (g a)=C a)(hw:∀a,wf a->wf' (g a)):jL K P t n C' wf':=by
 intro H enc w fuel cs x hf hx
 obtain⟨h1,a,h2,h3,N0,h4⟩:=h H enc w fuel cs x hf hx
 exact⟨h1,g a,hw a h2,by rw[hC];exact h3,N0,by rw[hC];exact h4⟩
theorem Lj{w:World}{α:Type}[aR α]{wf:α->Prop}{a:Addr}{len cap:Nat}(hl:len<=cap)(hm:cap<=maxLen)
 (each:∀i,i<len->∃x:α×List Value,wf x.1/\Fl (aR.cells x.1)/\w.cells? 0 (a.add (i*aR.w α)) (aR.w α)=some x.2/\∃N0,∀N,N0<=N->J6 w (zX N w) (aR.cells x.1) x.2):
 ∃l:List α,(l.length<=maxLen/\∀a∈l,wf a)/\Fl [.sl false (aR.w α) l.length (flat l)]/\∃N0,∀N,N0<=N->J6 w (zX N w) [.sl false (aR.w α) l.length (flat l)] [.slice (some a) len cap]:=by
 have hw:0<aR.w α:=aR.pos
 rcases Nat.eq_zero_or_pos len with h0|h0
 ·subst h0
  exact⟨[],⟨Nat.zero_le _,fun _ h=>absurd h List.not_mem_nil⟩,Gf rfl,0,fun N _=>.one (.sle _ _ _)⟩
 obtain⟨b,off,spot⟩:=a
 have VE:spot=none/\b<w.heap.size:=by
  obtain⟨x,_,_,h2,_⟩:=each 0 h0
  obtain⟨_,h3,h4⟩:=World.cells?_some h2
  have h5:=h4 0 hw
  have hxl:0<x.2.length:=by omega
  rw[List.getElem?_eq_getElem hxl]at h5
  unfold World.cell? at h5
  have e1:(((⟨b,off,spot⟩:Addr).add (0*aR.w α)).add 0).block=b:=by
   unfold Addr.add;repeat' split
   all_goals rfl
  have e2:(((⟨b,off,spot⟩:Addr).add (0*aR.w α)).add 0).spot.isSome=spot.isSome:=by
   cases spot with
   |none=>unfold Addr.add;repeat' split
          all_goals simp_all
   |some q=>unfold Addr.add;repeat' split
            all_goals simp_all
  rw[e1,e2]at h5
  split at h5
  ·rename_i hh
   refine⟨?_,(Array.getElem?_eq_some_iff.1 hh).1⟩
   cases spot with
   |none=>rfl
   |some q=>simp at h5
  ·cases h5
 obtain⟨rfl,hb⟩:=VE
 obtain⟨L,hL,hQ⟩:=zw len each
 have hx:∀i,i<len->∃x,L[i]? =some x:=fun i hi=>⟨L[i]'(by omega),List.getElem?_eq_getElem (by omega)⟩
 obtain⟨N0,hN0⟩:=common (Q:=fun i N=>∀x,L[i]? =some x->J6 w (zX N w) (aR.cells x.1) x.2) len fun i hi=>by
  obtain⟨x,hx⟩:=hx i hi
  obtain⟨_,_,_,N0,h⟩:=hQ i x hx
  exact⟨N0,fun N hN y hy=>by rw[hx]at hy;cases hy;exact h N hN⟩
 have hwf:∀a∈L.map (·.1),wf a/\Fl (aR.cells a):=by
  intro a ha
  obtain⟨x,hx,rfl⟩:=List.mem_map.1 ha
  obtain⟨i,hi⟩:=List.getElem?_of_mem hx
  have:=hQ i x hi
  exact⟨this.1,this.2.1⟩
 have jU:∀(j:Nat)(c:AV),(flat (L.map (·.1)))[j]? =some c->∃v,w.cell? ⟨b,off+j,none⟩=some v/\∀N,N0<=N->VR w (zX N w) c v:=by
  intro j c hj
  have hjl:=(List.getElem?_eq_some_iff.1 hj).1
  rw[aE,List.length_map,hL]at hjl
  have hi:j/aR.w α<len:=Nat.div_lt_of_lt_mul (by rw[Nat.mul_comm];exact hjl)
  have hr:j % aR.w α<aR.w α:=Nat.mod_lt _ hw
  have hje:j=j/aR.w α*aR.w α+j % aR.w α:=by rw[Nat.mul_comm];exact(Nat.div_add_mod _ _).symm
  obtain⟨x,hx⟩:=hx _ hi
  have h1:=OX (L.map (·.1)) (i:=j/aR.w α) (a:=x.1) (by rw[List.getElem?_map,hx];rfl) hr
  rw[<-hje,hj]at h1
  obtain⟨_,_,h2,_⟩:=hQ _ x hx
  obtain⟨_,h3,h4⟩:=World.cells?_some h2
  have h5:=h4 _ hr
  rw[add_plain,add_plain,Nat.add_assoc,<-hje]at h5
  refine⟨x.2[j % aR.w α]'(by omega),by rw[h5,List.getElem?_eq_getElem],fun N hN=>?_⟩
  exact(hN0 N hN _ hi x hx).2 _ _ _ h1.symm (List.getElem?_eq_getElem _)
 refine⟨L.map (·.1),⟨by rw[List.length_map,hL];omega,fun a ha=>(hwf a ha).1⟩,Gf rfl,max N0 (off+len*aR.w α),fun N hN=>.one ?_⟩
 rw[List.length_map,hL]
 refine .sl false (aR.w α) len _ b off cap (fun j=>(w.cell? ⟨b,off+j,none⟩).getD default) ?_ ?_ ?_ hl ?_ ?_
 ·intro c hcm
  unfold flat at hcm
  obtain⟨l,hl,hcl⟩:=List.mem_flatten.1 hcm
  obtain⟨a,ha,rfl⟩:=List.mem_map.1 hl
  exact(hwf a ha).2 c hcl
 ·rw[aE,List.length_map,hL]
 ·rw[aE,List.length_map,hL]
  unfold zX
  rw[if_pos hb];omega
 ·intro j c hj
  obtain⟨v,h1,_⟩:=jU j c hj
  rw[h1];rfl
 ·intro j c hj
  obtain⟨v,h1,h2⟩:=jU j c hj
  simp only[h1,Option.getD_some];exact h2 N (by omega)
theorem G7{K:Nat}{e:TypeId}{α:Type}[aR α]{wf:α->Prop}(ht:P.underlying t=some (.slice e))(hc:P.cellsOf e=aR.w α)(he:jL K P e (aR.w α) (aR.cells:α->List AV) wf):
 jL (K+1) P t 1 (fun l:List α=>[.sl false (aR.w α) l.length (flat l)]) fun l=>l.length<=maxLen/\∀a∈l,wf a:=by
 intro H enc w fuel cs x hk h
 rcases DataW.trod_slice ht h with⟨rfl,_⟩|⟨a,len,cap,elems,rest,n,rfl,rfl,_,_,hl,hm,hlen,hel,_⟩
 ·exact⟨rfl,[],⟨Nat.zero_le _,fun _ h=>absurd h List.not_mem_nil⟩,Gf rfl,0,fun N _=>.one (.slnil _ _)⟩
 ·refine⟨rfl,Lj hl hm fun i hi=>?_⟩
  have h1:=hel i hi
  rw[hc,List.getElem?_eq_getElem (by omega),Option.bind_eq_some_iff]at h1
  obtain⟨cs,h2,h3⟩:=h1
  obtain⟨_,x,h4,h5,h6⟩:=he H enc w n cs _ (by omega) h3
  exact⟨(x,cs),h4,h5,h2,h6⟩
theorem G8{e:TypeId}{α:Type}[aR α]{wf:α->Prop}(ht:P.underlying t=some (.slice e))(hc:P.cellsOf e=aR.w α)(he:N8 P e α wf):
 pB P t 1 (fun l:List α=>[.sl false (aR.w α) l.length (flat l)]) fun l=>l.length<=maxLen/\∀a∈l,wf a:=
 jL.all fun K=>(G7 ht hc (pB.b he K)).le (Nat.le_succ K)
theorem okWide_slice{w:World}{e:TypeId}{b0:Nat}{v:Value}(ht:P.underlying t=some (.slice e))(wc:Value.okWide P w .any b0 t v):∀cs,v≠.agg cs:=by
 intro cs h
 subst h
 unfold Value.okWide Cell.okWide Cell.ok at wc
 rw[ht]at wc
 exact wc
theorem P6{H:Type}{enc:TypeId×Value->H}{w:World}{e:TypeId}{α:Type}[aR α]{wf:α->Prop}{v:Value}{d:DataW H}{ps:List MemPlace}
 (ht:P.underlying t=some (.slice e))(hc:P.cellsOf e=aR.w α)(he:N8 P e α wf)(h:DataW.Trod enc P w 0 (fun _=>true) true t v d ps)(hv:∀cs,v≠.agg cs):
 ∃l:List α,(l.length<=maxLen/\∀a∈l,wf a)/\∃N0,∀N,N0<=N->VR w (zX N w) (.sl false (aR.w α) l.length (flat l)) v:=by
 obtain⟨fuel,hf⟩:=h
 obtain⟨_,l,hl,_,N0,hN⟩:=G8 ht hc he H enc w fuel _ _ hf
 have gq:v.cells.toList=[v]:=by cases v<;>first|rfl|exact absurd rfl (hv _)
 refine⟨l,hl,N0,fun N h=>?_⟩
 have:=hN N h
 rw[gq]at this
 exact this.head
end
end Go.AB
end
section
namespace Go.AB
open Go Go.ChangeShapes Go.WideShapes Go.ChangeAt Go.RowKit Go.Proofs.YtkeagffgdajggaaGreat Go.Proofs
open Go.Proofs.Tryz (prog)
theorem pT:ownKnob Tryz.prog.godebug=none:=by kernel_rfl
theorem oZ:laidOutB Tryz.prog=true:=by kernel_rfl
theorem qO:Tryz.prog.underlying 4=some .bool:=by kernel_rfl
set_option maxRecDepth 100000 in
theorem pS{H:Type}{enc:TypeId×Value->H}{W:World}{base:Nat}{args:Array Value}{ds gs:List (DataW H)}{before:List MemPlace}
 (ZY:∀(j:Nat) t v,Tryz.f4.params[j]? =some t->args[j]? =some v->Value.okWide Tryz.prog W .any base t v)
 (hW:DataW.Whole enc Tryz.prog Tryz.f4.params.toList Rows.scanTrailersSpec.vars false W args.toList ds gs before):
 Calls Tryz.prog 4 args W fun e w'=>e=.returned (.bool true)/\Below W.heap.size W w':=by
 obtain⟨p,q,hA0,hV,rfl,hfz,hnd⟩:=hW
 have wc:=ZY
 have hA:DataW.TrodAll enc Tryz.prog W 0 (fun _=>true) true Tryz.f4.params.toList args.toList ds p:=hA0
 have hp:Tryz.f4.params= #[22]:=by kernel_rfl
 rw[hp]at hA wc
 obtain⟨v0,d0,rfl,rfl,h0⟩:=trodAll_one hA
 obtain⟨x0,w0,N0,k0⟩:=P6 (by kernel_rfl) (by kernel_rfl) (P7 (P:=prog) (t:=5) (by kernel_rfl)) h0 (okWide_slice (e:=5) (by kernel_rfl) (wc 0 22 v0 rfl rfl))
 refine KN N0 ?_ (Y3 (k0 _ (by omega)))
 exact(qN (o6 x0)).app rfl
end Go.AB
namespace Go.Proofs.YtkeagffgdajggaaGreat
open Go.ChangeShapes Go.WideShapes Go.ChangeAt Go.RowKit
set_option maxRecDepth 100000 in
theorem tN(os:Os)(started:os.Started)(H:Type)(enc:TypeId×Value->H):
 ReturnsInHanded {} Tryz.checked os 4 .any (Rows.scanTrailersSpec.pre6 enc Tryz.prog Tryz.f4 Rows.scanTrailersRow.domain false) (Rows.scanTrailersSpec.post enc Tryz.prog Tryz.f4 false true false false):=by
 refine returnsInHanded_of_change (C:=Tryz.checked) AB.pT started (by kernel_rfl) Tryz.func4
  (ChangeSpec.witness6 (enc:=enc) (C:=Tryz.checked) false ⟨#[],#[.slice none 0 0],[]⟩ 8 (by kernel_rfl) (by kernel_rfl) (by kernel_rfl) (by kernel_rfl)) ?_
 intro W base args ds gs before wc hW _ _
 exact AB.PM rfl (by kernel_rfl) AB.qO AB.oZ (of_decide_eq_true (by kernel_rfl)) (fun ds h=>by
  match ds,h with
  |[_],_=>rfl) hW (AB.pS wc hW)
theorem eO{a b:Bool}(h:a=true)(k:b=true):(a&&b)=true:=by rw[h,k];rfl
noncomputable abbrev cp:=Tryz.checked.prog
noncomputable abbrev sR:=Rows.scanTrailersRow
theorem AE:(sR.wf (OpenSpec.ofChange Rows.scanTrailersSpec))=true:=by kernel_rfl
theorem AF:(laidOutB cp)=true:=by kernel_rfl
theorem AG:(mapsRowed cp)=true:=by kernel_rfl
theorem AH:(Tryz.f4.params.all (cp.readableRec ·))=true:=by kernel_rfl
theorem AI:(namedTie cp sR.named Rows.scanTrailersSpec.vars)=true:=by kernel_rfl
theorem AJ:((sR.stops==[]))=true:=by kernel_rfl
theorem AK:((cp.stops==[]))=true:=by kernel_rfl
theorem AL:((sR.knobs==[]))=true:=by kernel_rfl
theorem AM:((cp.stopKnobs==[]))=true:=by kernel_rfl
theorem AN:((sR.inPlace==cp.inPlace 4))=true:=by kernel_rfl
theorem yJ:((sR.unfollowed==cp.unfollowed 4))=true:=by kernel_rfl
theorem yK:((sR.recurses==cp.recurses 4))=true:=by kernel_rfl
theorem yL:((sR.named==cp.varsNamed 4))=true:=by kernel_rfl
theorem yM:((sR.maps==(Tryz.f4.params.toList++Rows.scanTrailersSpec.plain.varTypes cp).any (cp.mapsRec ·)))=true:=by kernel_rfl
theorem yN:((sR.ifaces==(Tryz.f4.params.toList++Rows.scanTrailersSpec.plain.varTypes cp).any (cp.ifacesRec ·)))=true:=by kernel_rfl
theorem yO:((sR.mapsOut==cp.mapsAmong Tryz.f4.resultTypes.toList))=true:=by kernel_rfl
theorem yP:((sR.loops==(Tryz.f4.params.toList++Rows.scanTrailersSpec.plain.varTypes cp).any (cp.loopsFrom ·)))=true:=by kernel_rfl
theorem yQ:((sR.wideKeys==(Tryz.f4.params.toList++Rows.scanTrailersSpec.plain.varTypes cp++Tryz.f4.resultTypes.toList).any (cp.wideKeysFrom ·)))=true:=by kernel_rfl
theorem yR:(Rows.scanTrailersSpec.vars.all (cp.varReadable ·))=true:=by kernel_rfl
theorem yS:(Tryz.f4.resultTypes.all (fun t=>cp.readableRec t&&decide (t<cp.types.size)))=true:=by kernel_rfl
theorem yT:((sR.ifacesOut==Tryz.f4.resultTypes.toList.any (cp.ifacesRec ·)))=true:=by kernel_rfl
theorem yU:((sR.loopsOut==Tryz.f4.resultTypes.toList.any (cp.loopsFrom ·)))=true:=by kernel_rfl
theorem yV:((sR.plainKeys==cp.plainKeys))=true:=by kernel_rfl
theorem yW:(sR.shortTexts.isNone)=true:=by kernel_rfl
theorem yX:(cp.stopsHeard)=true:=by kernel_rfl
theorem yY:(cp.mayEnter)=true:=by kernel_rfl
theorem yZ:((sR.lifted==cp.liftsFinal))=true:=by kernel_rfl
theorem y5:((cp.make==some sR.make))=true:=by kernel_rfl
theorem y6:((sR.kinds==(if sR.domain.isEmpty then[]else Tryz.f4.params.toList.map fun t=>match cp.underlying t with|some (.int k)=>some k|_=>none)))=true:=by kernel_rfl
theorem y7:((sR.pinned==sR.pinnedBy))=true:=by kernel_rfl
theorem y8:((sR.veiled==(Tryz.f4.params.toList++Rows.scanTrailersSpec.plain.varTypes cp++Tryz.f4.resultTypes.toList).any (cp.veiledRec ·)))=true:=by kernel_rfl
theorem y9:(sR.veiledFits cp Tryz.f4.params.toList (Tryz.f4.params.toList++Rows.scanTrailersSpec.plain.varTypes cp++Tryz.f4.resultTypes.toList))=true:=by kernel_rfl
set_option maxRecDepth 100000 in
theorem tM:joinedFacts Tryz.checked.prog 4 Tryz.f4 Rows.scanTrailersSpec Rows.scanTrailersRow=true:=(eO (eO (eO (eO (eO (eO (eO (eO (eO (eO (eO (eO (eO (eO (eO (eO (eO (eO (eO (eO (eO (eO (eO (eO (eO (eO (eO (eO (eO (eO (eO AE AF) AG) AH) AI) AJ) AK) AL) AM) AN) yJ) yK) yL) yM) yN) yO) yP) yQ) yR) yS) yT) yU) yV) yW) yX) yY) yZ) y5) y6) y7) y8) y9)
theorem scanTrailers_holds:Rows.ScanTrailersSaid:=
 OpenClaim.holds_of_wide 4 Tryz.f4 rfl rfl rfl rfl rfl rfl rfl ⟨rfl,rfl,rfl,rfl,rfl⟩ rfl rfl rfl rfl rfl (by kernel_rfl) Tryz.func4 tM
  (of_decide_eq_true (by kernel_rfl)) (by unfold Func.isWrapper;first|(rw[if_pos (by decide+kernel)];kernel_rfl)|(rw[if_neg (by decide+kernel)];exact⟨rfl,rfl⟩))
  (fun os started H enc _=>tN os started H enc)
end Go.Proofs.YtkeagffgdajggaaGreat
end
