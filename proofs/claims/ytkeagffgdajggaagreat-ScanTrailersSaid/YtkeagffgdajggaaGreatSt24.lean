/- A part. -/
import Derived.Test.YtkeagffgdajggaaGreatSt19
import Derived.Test.YtkeagffgdajggaaGreatSt13
set_option linter.unusedSimpArgs false
set_option linter.unusedVariables false
section
set_option maxRecDepth 4000
namespace Go.AB
open Go
open Go.Proofs.Tryz (prog)
attribute[-go_sem] Nat.add_zero tz du cV dB cg cU
def IY:IC:=
 (ag [i1 2 (.qE 1 (.t 0)),i1 3 (.qE 1 (.t 1)),cY 4 (.nn)] [2,3]
 (.seq (ag [ld 5 1 3,bn 6 .lss 5 1] [2,3,6]
 (.cond (.t 6) .dead
 .skip))
 (ag [i1 8 (.lI 262 [] [(.t 2),(.t 3)]),mv 4 8] [4]
 .ret)))
theorem PE:aY prog 222 9 [⟨4,true,none⟩] IY=true:=by kernel_rfl
def uU:IC:=
 (.bP none [cY 2 (.arr 0 0 0 0),mi 3 0] [0])
def uV:IC:=(.bP none [i1 4 (.gH [.arr 0 0 0 0])] [0,4])
def uW:IC:=
 (.bP none [mv 7 0,i1 8 (.call 222 [(.t 7),(.c (.int .i64 2))])] [4,8])
def mK:IC:=
 (ag [ld 14 1 4,i1 15 (.call 223 [(.t 14),(.c (.fn 224 [] []))])] [4]
 (.seq (ag [mi 6 1] [4,6]
 (.block 2 (.loop [(4,false),(6,false)] (.seq (ag [mv 16 6,ld 17 1 4,le 18 0 17,bt 19 .lss 16 18] [4,6,19]
 (.cond (.t 19) .skip
 (.exit 2)))
 (.seq (.block 3 (.seq (.bP (some 16) [ld 22 1 4,mv 23 6,ia 24 [.sl false 4 0 []] 22 23,ld 25 1 24,i1 26 (.indexAddr CS (.t 25) (.c (.int .i64 0))),fa 27 2 26,ld 28 1 27,ld 29 1 4,mv 30 6,bn 31 .sub 30 1,ia 32 [.sl false 4 0 []] 29 31,ld 33 1 32,i1 34 (.indexAddr CS (.t 33) (.c (.int .i64 0))),fa 35 2 34,ld 36 1 35,bt 37 .eql 28 36] [4,6,37])
 (.cond (.t 37) (ag [cY 2 (.sl true 4 0 []),mi 3 16] [2,3]
 .ret)
 .skip)))
 (.bP none [mv 20 6,bn 21 .add 20 1,mv 6 21] [4,6]))))))
 (ag [ld 38 1 4,c1 39 226 38,i1 2 (.NY 4 true (.t 39)),mi 3 0] [2,3]
 .ret)))
def uX:IC:=
 (.block 1 (.bP none [ld 10 1 4,mv 11 5,i1 12 (.bB 1 1 [.sl false 4 0 []] [(0,1,(.t 11))]),i1 13 (.fL 1 24 [.sl false 4 0 []] (.t 10) (.t 12)),st 1 4 13] []))
def fY:List mw:=[⟨2,false,none⟩,⟨3,true,none⟩]
abbrev pz(l:List aa):AV:=.sl false 4 l.length (flat l)
theorem Ig{s:ab}{l:List aa}{Q:List AV->ab->Prop}(hq:∀Bs,s Bs=none->∀Bn,(s.set Bs (.cells [pz l])) Bn=none->Q [.fn 262 [] [.ref Bs 0,.ref Bn 0]] ((s.set Bs (.cells [pz l])).set Bn (.cells [.int .i64 2]))):FN prog 222 [pz l,.int .i64 2] s Q:=by
 refine FO PE rfl rfl ?_
 rw[IY]
 have h0:decide ((2:Int)<1)=false:=rfl
 simp -implicitDefEqProofs only[go_sem,Nat.reduceBEq,Nat.reduceAdd,Nat.reduceMul,Nat.reduceLeDiff,Nat.reduceEqDiff,Nat.reduceBNe,UInt8.reduceToNat,UInt32.reduceToNat]
 intro Bs h1 Bn h2
 simp -implicitDefEqProofs only[go_sem,Nat.reduceBEq,Nat.reduceAdd,Nat.reduceMul,Nat.reduceLeDiff,Nat.reduceEqDiff,Nat.reduceBNe,UInt8.reduceToNat,UInt32.reduceToNat,h0,Bool.true_eq_false,Bool.false_eq_true,false_implies,true_implies,true_and,and_true]
 exact hq Bs h1 Bn h2
def cA:Code->Code
 |.seq a _=>a
 |c=>c
def cB:Code->Code
 |.seq _ b=>b
 |c=>c
def rfA:Code->Code
 |.rangeFunc _ _ a _=>a
 |c=>c
def rfB:Code->Code
 |.rangeFunc _ _ _ b=>b
 |c=>c
def cIn:Code->Code
 |.block _ c=>c
 |c=>c
def W1:Code->Array Oper
 |.region _ ops _=>ops
 |_=> #[]
def Pt:IC->List ai
 |.block _ (.bP _ l _)=>l
 |_=>[]
noncomputable def Cy:Code:=(Go.Proofs.Tryz.f182.body).getD .skip
noncomputable def pC1:Code:=cA Cy
noncomputable def pC2:Code:=cA (cB Cy)
noncomputable def pC3:Code:=cA (cA (cB (cB Cy)))
noncomputable def pRf:Code:=cIn (cB (cA (cB (cB Cy))))
noncomputable def pC4:Code:=cB (cB (cB Cy))
noncomputable def Sz:Array Oper:=W1 (cIn (rfB pRf))
theorem Cz:Go.Proofs.Tryz.f182.body=some (.seq pC1 (.seq pC2 (.seq (.seq pC3 (.block 0 (.rangeFunc (.tmp 8) #[9] (rfA pRf) (rfB pRf)))) pC4))):=by kernel_rfl
theorem Oo:rfB pRf=.block 1 (.region 4 Sz false):=by kernel_rfl
theorem Ty:rfA pRf=.region 3 #[{dst:=some 5,op:=.assign (.tmp 9),type:=30,pos:= "parse.go:116",after:= #[],guard:=none}] false:=by kernel_rfl
theorem CA:ks prog 40 pC1 uU=true:=by kernel_rfl
theorem CB:ks prog 40 pC2 uV=true:=by kernel_rfl
theorem CC:ks prog 40 pC3 uW=true:=by kernel_rfl
theorem CD:ks prog 40 pC4 mK=true:=by kernel_rfl
theorem K3:bS prog 40 Sz Sz.toList (Pt uX)=true:=by kernel_rfl
theorem Jt:Sz.toList.all wZ=true:=by kernel_rfl
theorem Fg:iW prog Go.Proofs.Tryz.f182.results.toList fY=true:=by kernel_rfl
theorem Ju:Go.Proofs.Tryz.f182.ntmps=40:=by kernel_rfl
def gI(l:List aa)(k:Nat):List aa:=(l.drop (2*k)).take 2
def dR(l:List aa)(k:Nat):List VL:=(List.range k).map (gI l)
theorem pH(l:List aa)(k:Nat):dR l (k+1)=dR l k++[gI l k]:=by unfold dR;rw[List.range_succ,List.map_append];rfl
theorem zx(l:List aa)(k:Nat):(dR l k).length=k:=by simp[dR]
theorem mB(l:List aa)(k:Nat)(h:2*k+2<=l.length):(gI l k).length=2:=by unfold gI;rw[List.length_take,List.length_drop];omega
theorem OD{w:World}{R:Nat->Nat}{l:List aa}{b off k:Nat}(hR:off+(flat l).length<=R b)(ha:At w R b off (flat l))(hk:2*k+2<=l.length):VR w R (pz (gI l k)) (eh b off k):=by
 obtain⟨u,h1,h2,h3⟩:=ha
 have hs:=jS l 4 (2*k) 2 rfl
 have hl:(flat (gI l k)).length=2*4:=by rw[aE,mB l k hk];rfl
 have hfl:(flat l).length=l.length*4:=aE l
 have hg:∀(j:Nat)(c:AV),(flat (gI l k))[j]? =some c->(flat l)[2*k*4+j]? =some c:=fun j c hj=>by
  unfold gI at hj
  rw[<-hs,Bd]at hj
  split at hj
  ·exact hj
  ·cases hj
 unfold pz eh
 rw[mB l k hk]
 refine .sl false 4 2 _ b _ 2 (fun j=>u (2*k*4+j)) (fun c hc=>?_) hl (by omega) (Nat.le_refl _) (fun j c hj=>?_) (fun j c hj=>h2 _ c (hg j c hj))
 ·obtain⟨j,hj⟩:=List.mem_iff_getElem?.1 hc
  exact h3 c (List.mem_of_getElem? (hg j c hj))
 ·rw[Nat.add_assoc];exact h1 _ c (hg j c hj)
def nbB(ls:List VL)(i:Int):Option (Int⊕Bool):=
 bif decide (i<ls.length)then aH (1<=i/\i<2^62/\0<(ix ls i).length/\0<(ix ls (i -1)).length)<|
  bif(ix (ix ls i) 0).S.b==(ix (ix ls (i -1)) 0).S.b then some (.inr true)else some (.inl (i+1))
 else some (.inr false)
theorem Qy{s:ab}{r:cm}{ls:List VL}{B:Nat}{o o':SO}(h:fH s r ls)(hB:s B=some o):(fc s r ls).set B o'=fc (s.set B o') r ls/\fH (s.set B o') r ls:=by
 cases r with
 |none=>exact⟨rfl,h⟩
 |some x=>
  obtain⟨rb,cap,sp⟩:=x
  obtain⟨h1,h2⟩:=h
  have hne:B≠rb:=fun e=>by subst e;rw[h1]at hB;cases hB
  refine⟨set_comm hne,⟨by rw[aW hne.symm];exact h1,h2⟩⟩
def FG(s:ab)(B2:Nat)(l:List aa)(k:Nat)(s':ab):Prop:=∃s1 r,s1 B2=some (.cells [ga r k])/\Sub s s1/\fH s1 r (dR l k)/\s'=fc s1 r (dR l k)
theorem R7{n i j:Nat}{x y:AV}{G:Gh}{W:World}{s:ab}{t:Array Value}(hij:i≠j)(hi:i<n)(hj:j<n)(hg:bR G W)(hs:aO G W s)(ht:t.size=n)(hx:view x=x/\cO x=true)(hy:view y=y/\cO y=true)
 (h1:∀v,t[i]? =some v->VR W G.R x v)(h2:∀v,t[j]? =some v->VR W G.R y v):Inv G n [] ⟨[(i,x),(j,y)],[],s⟩ {tmps:=t,defers:=[]} W:=by
 have lk:∀k,look [(i,x),(j,y)] k=if i=k then x else if j=k then y else .undef:=fun k=>by rw[aM,aM];rfl
 refine⟨hg,hs,ht,fun k v hk=>?_,fun k hk=>?_,fun k d hd=>?_,rfl⟩
 ·show cN G W _ t k (look [(i,x),(j,y)] k) v
  rw[lk]
  by_cases e1:i=k
  ·subst e1;rw[if_pos rfl,<-hx.1];exact cN.wW hx.2 (h1 v hk)
  ·rw[if_neg e1]
   by_cases e2:j=k
   ·subst e2;rw[if_pos rfl,<-hy.1];exact cN.wW hy.2 (h2 v hk)
   ·rw[if_neg e2];exact⟨.undef _,trivial⟩
 ·show look [(i,x),(j,y)] k=.undef
  rw[lk,if_neg (by omega),if_neg (by omega)]
 ·have hd:bd (look [(i,x),(j,y)] k) d:=hd
  rw[lk]at hd
  split at hd
  ·exact(dN hx.2 d hd).elim
  ·split at hd
   ·exact(dN hy.2 d hd).elim
   ·exact hd.elim
end Go.AB
end
section
namespace Go.AB
open Go
theorem nQ:∀x y:List UInt8,Op.bytesLess x y=false->Op.bytesLess y x=false->x=y
 |[],[],_,_=>rfl
 |[],_::_,h,_=>by cases h
 |_::_,[],_,h=>by cases h
 |a::x,b::y,h1,h2=>by
  rw[mA]at h1 h2
  simp only[Bool.or_eq_false_iff,decide_eq_false_iff_not,Bool.and_eq_false_iff,beq_eq_false_iff_ne,UInt8.lt_iff_toNat_lt]at h1 h2
  have hab:a=b:=UInt8.toNat_inj.1 (by omega)
  subst hab
  rw[nQ x y (h1.2.resolve_left fun h=>h rfl) (h2.2.resolve_left fun h=>h rfl)]
theorem Wf{x y:VL}(h1:jb y x=false)(h2:((ix y 0).S.b==(ix x 0).S.b)=false):jb x y=true:=by
 cases h:jb x y with
 |true=>rfl
 |false=>
  have:=nQ _ _ h1 h
  rw[this,beq_self_eq_true]at h2
  cases h2
theorem We{x y z:VL}(h1:jb x y=true)(h2:jb z y=false):jb x z=true:=by
 cases h:jb x z with
 |true=>rfl
 |false=>rw[<-h1];exact(lH.tr _ _ _ h2 h).symm▸rfl
def lT:List VL->Bool
 |x::y::t=>((ix y 0).S.b==(ix x 0).S.b)||lT (y::t)
 |_=>false
theorem Ey(x y:VL)(t:List VL):lT (x::y::t)=(((ix y 0).S.b==(ix x 0).S.b)||lT (y::t)):=rfl
theorem strict:∀{Z:List VL},iM jb Z->lT Z=false->Z.Pairwise fun x y=>jb x y=true
 |[],_,_=>List.Pairwise.nil
 |[x],_,_=>List.pairwise_singleton _ _
 |x::y::t,h,ha=>by
  unfold lT at ha
  rw[Bool.or_eq_false_iff]at ha
  obtain⟨h1,h2⟩:=List.pairwise_cons.1 h
  have ih:=strict h2 ha.2
  have hxy:=Wf (h1 y (by simp)) ha.1
  refine List.pairwise_cons.2 ⟨fun z hz=>?_,ih⟩
  rcases List.mem_cons.1 hz with rfl|hz
  ·exact hxy
  ·exact We hxy ((List.pairwise_cons.1 h2).1 z hz)
theorem UK{Z W:List VL}(p:Z.Perm W)(h1:iM jb Z)(h2:iM jb W)(ha:lT Z=false):Z=W:=by
 have hs:=strict h1 ha
 refine List.Perm.eq_of_pairwise (le:=fun x y=>jb y x=false) (fun a b ha hb e1 e2=>?_) h1 h2 p
 have hb:=p.mem_iff.2 hb
 have key:∀{L:List VL},L.Pairwise (fun x y=>jb x y=true)->a∈L->b∈L->a=b:=by
  intro L
  induction L with
  |nil=>intro _ h;cases h
  |cons c L ih=>
   intro hL ha hb
   obtain⟨k1,k2⟩:=List.pairwise_cons.1 hL
   rcases List.mem_cons.1 ha with ea|ha2<;>rcases List.mem_cons.1 hb with eb|hb2
   ·rw[ea,eb]
   ·rw[<-ea]at k1;rw[k1 b hb2]at e2;cases e2
   ·rw[<-eb]at k1;rw[k1 a ha2]at e1;cases e1
   ·exact ih k2 ha2 hb2
 exact key hs ha hb
theorem Wj(Z:List VL)(gQ:∀c∈Z,0<c.length)(hl:Z.length<2^60):iter (nbB Z) 1=some (lT Z):=by
 obtain⟨o,h1,rfl⟩:=dn (body:=nbB Z) (s0:=1) (fun q=>∃i:Nat,q=(i:Int)+1/\lT (Z.drop i)=lT Z/\i<=Z.length) (fun q=>((Z.length:Int)+1 -q).toNat) (fun o=>o=lT Z)
  ⟨0,rfl,by rw[List.drop_zero],Nat.zero_le _⟩ (by omega) (by
    rintro q ⟨i,rfl,ha,hi⟩
    unfold nbB
    by_cases h:i+1<Z.length
    ·have e1:Z.drop i=Z[i]::Z[i+1]::Z.drop (i+2):=by rw[List.drop_eq_getElem_cons (by omega),List.drop_eq_getElem_cons (i:=i+1) h]
     have e2:Z.drop (i+1)=Z[i+1]::Z.drop (i+2):=List.drop_eq_getElem_cons h
     have i1:ix Z ((i:Int)+1)=Z[i+1]:=by have:=jZ (l:=Z) h;rw[<-this];congr 1
     have i2:ix Z ((i:Int)+1 -1)=Z[i]:=by rw[show(i:Int)+1 -1=(i:Int) by omega];exact jZ (by omega)
     rw[e1,Ey]at ha
     rw[show decide ((i:Int)+1<Z.length)=true by simp;omega,cond_true,i1,i2,c9 ⟨by omega,by omega,gQ _ (List.getElem_mem _),gQ _ (List.getElem_mem _)⟩]
     cases he:((ix Z[i+1] 0).S.b==(ix Z[i] 0).S.b)with
     |true=>exact⟨.inr true,rfl,by rw[<-ha,he];rfl⟩
     |false=>
      rw[he,Bool.false_or]at ha
      refine⟨.inl ((i:Int)+1+1),rfl,⟨i+1,by omega,by rw[e2];exact ha,by omega⟩,by omega⟩
    ·rw[show decide ((i:Int)+1<Z.length)=false by simp;omega,cond_false]
     refine⟨.inr false,rfl,?_⟩
     rw[<-ha]
     rcases hd:Z.drop i with _|⟨x,t⟩
     ·rfl
     ·have:=congrArg List.length hd
      rw[List.length_drop,List.length_cons]at this
      obtain rfl:t=[]:=List.eq_nil_of_length_eq_zero (by omega)
      rfl)
 exact h1
def x5(x:VL):List VL->List VL
 |[]=>[x]
 |y::t=>if jb x y then x::y::t else y::x5 x t
theorem kD(x:VL):∀l,(x5 x l).Perm (x::l)
 |[]=>List.Perm.refl _
 |y::t=>by
  unfold x5
  split
  ·exact List.Perm.refl _
  ·exact((kD x t).cons y).trans (List.Perm.swap x y t)
theorem BQ(x:VL):∀{l},iM jb l->iM jb (x5 x l)
 |[],_=>iM.one x
 |y::t,h=>by
  obtain⟨h1,h2⟩:=List.pairwise_cons.1 h
  unfold x5
  split
  ·rename_i hxy
   refine List.pairwise_cons.2 ⟨fun z hz=>?_,h⟩
   have h3:=lH.asy _ _ hxy
   rcases List.mem_cons.1 hz with rfl|hz
   ·exact h3
   ·exact lH.tr _ _ _ h3 (h1 z hz)
  ·rename_i hxy
   refine List.pairwise_cons.2 ⟨fun z hz=>?_,BQ x h2⟩
   rcases List.mem_cons.1 ((kD x t).mem_iff.1 hz)with rfl|hz
   ·simpa using hxy
   ·exact h1 z hz
def tP(l:List VL):List VL:=l.foldr x5 []
theorem tm:∀l,(tP l).Perm l
 |[]=>List.Perm.refl _
 |x::l=>(kD x _).trans ((tm l).cons x)
theorem xu:∀l,iM jb (tP l)
 |[]=>List.Pairwise.nil
 |x::l=>BQ x (xu l)
def fX(l:List aa):Option (List aa×Int):=
 aH ((l.length:Int)<2^30/\l.length % 2=0)<|
 bif lT (tP (dR l (l.length/2)))then some ([],16)else some ((tP (dR l (l.length/2))).flatten,0)
theorem yy{Z C:List VL}(p:Z.Perm C)(h:iM jb Z):lT Z=lT (tP C)/\(lT Z=false->Z=tP C):=by
 have p2:Z.Perm (tP C):=p.trans (tm C).symm
 have k:lT Z=false->Z=tP C:=UK p2 h (xu C)
 refine⟨?_,k⟩
 cases h1:lT Z with
 |false=>rw[<-k h1,h1]
 |true=>
  cases h2:lT (tP C)with
  |true=>rfl
  |false=>
   have:=UK p2.symm (xu C) h h2
   rw[this,h1]at h2;cases h2
end Go.AB
end
section
set_option maxRecDepth 4000
namespace Go.AB
open Go
open Go.Proofs.Tryz (prog)
attribute[-go_sem] Nat.add_zero tz du cV dB cg cU
theorem PZ{α:Type}{c:Prop}[Decidable c]{o:Option α}{r:α}(h:aH c o=some r):c/\o=some r:=by
 by_cases hc:c
 ·rw[c9 hc]at h;exact⟨hc,h⟩
 ·unfold aH at h
  rw[if_neg hc]at h;cases h
theorem Jw{s s1:ab}{B2 rb cap:Nat}{sp:List AV}{ls:List VL}{Q:List AV->ab->Prop}(hB:s1 B2=some (.cells [.arr rb 0 ls.length cap]))(hrb:s1 rb=none)(hs:Sub s s1)(hl:(ls.length:Int)<2^40)(hz:∀c∈ls,0<c.length)(hfl:ls.flatten.length*56<=room)
 (q1:lT (tP ls)=true->∀s',Sub s s'->Q [.sl false 4 0 [],.int .i64 16] s')(q0:lT (tP ls)=false->∀s',Sub s s'->Q [.sl false 4 (tP ls).flatten.length (flat (tP ls).flatten),.int .i64 0] s'):
 fN prog mK (Hx fY Q) ⟨[(4,.ref B2 0)],[],s1.set rb (.cells (flat ls++sp))⟩:=by
 have bz:room=140737488355328:=rfl
 have hne:B2≠rb:=fun e=>by subst e;rw[hrb]at hB;cases hB
 have hB':∀cs,(s1.set rb (.cells cs)) B2=some (.cells [.arr rb 0 ls.length cap]):=fun cs=>by rw[aW hne];exact hB
 rw[mK,fY]
 simp -implicitDefEqProofs only[go_sem,Nat.reduceBEq,Nat.reduceAdd,Nat.reduceMul,Nat.reduceLeDiff,Nat.reduceEqDiff,Nat.reduceBNe,UInt8.reduceToNat,UInt32.reduceToNat,hB']
 refine QF hrb (by omega) hz fun two p1 s1'=>?_
 have hlen:=p1.length_eq
 have gQ:∀c∈two,0<c.length:=fun c hc=>hz c (p1.mem_iff.1 hc)
 obtain⟨ka,kb⟩:=yy p1 s1'
 have afe:two.flatten.length=ls.flatten.length:=p1.flatten.length_eq
 have hn:ok (iter (nbB two) 1) fun d=>(d=true->∀s',Sub s s'->Q [.sl false 4 0 [],.int .i64 16] s')/\(d=false->∀s',Sub s s'->Q [.sl false 4 two.flatten.length (flat two.flatten),.int .i64 0] s'):=⟨_,Wj two gQ (by omega),fun e=>q1 (ka▸e),fun e=>by rw[kb e];exact q0 (ka▸e)⟩
 rw[<-hlen]
 rw[<-hlen]at hB' hl
 simp -implicitDefEqProofs only[go_sem,Nat.reduceBEq,Nat.reduceAdd,Nat.reduceMul,Nat.reduceLeDiff,Nat.reduceEqDiff,Nat.reduceBNe,UInt8.reduceToNat,UInt32.reduceToNat]
 refine ch (fun(i:Int)=>(⟨[(4,.ref B2 0),(6,.int .i64 i)],[],s1.set rb (.cells (flat two++sp))⟩:St)) rfl ?_ hn
 ·intro J i hb
  unfold nbB at hb
  cases hlt:decide (i<two.length)with
  |false=>
   rw[hlt,cond_false,aP]at hb
   simp -implicitDefEqProofs only[go_sem,Nat.reduceBEq,Nat.reduceAdd,Nat.reduceMul,Nat.reduceLeDiff,Nat.reduceEqDiff,Nat.reduceBNe,UInt8.reduceToNat,UInt32.reduceToNat,hB',hlt,Bool.true_eq_false,Bool.false_eq_true,false_implies,true_implies,true_and,and_true]
   simp only[sQ]at hb
   refine MR hrb gQ (by omega) (by omega) fun s' r' hs' hr'=>?_
   simp -implicitDefEqProofs only[go_sem,Nat.reduceBEq,Nat.reduceAdd,Nat.reduceMul,Nat.reduceLeDiff,Nat.reduceEqDiff,Nat.reduceBNe,UInt8.reduceToNat,UInt32.reduceToNat]
   refine A2 rfl hr' rfl ?_
   simp -implicitDefEqProofs only[go_sem,Nat.reduceBEq,Nat.reduceAdd,Nat.reduceMul,Nat.reduceLeDiff,Nat.reduceEqDiff,Nat.reduceBNe,UInt8.reduceToNat,UInt32.reduceToNat]
   exact hb.2 trivial s' fun b o h=>hs' b o ((hs.set hrb) b o h)
  |true=>
   rw[hlt,cond_true,fM]at hb
   obtain⟨⟨h1,h2,h3,h4⟩,hb⟩:=hb
   have hi:i<two.length:=by simpa using hlt
   obtain⟨r1,r2⟩:=na two sp (j:=i) (by omega) hi
   obtain⟨r3,r4⟩:=na two sp (j:=i -1) (by omega) (by omega)
   have w1:ao (i -1)=i -1:=au (by omega) (by omega)
   have w2:ao (i+1)=i+1:=au (by omega) (by omega)
   generalize hcs:flat two++sp=cs at*
   have d1:=decide_eq_true r1
   have d3:=decide_eq_true r3
   simp -implicitDefEqProofs only[go_sem,Nat.reduceBEq,Nat.reduceAdd,Nat.reduceMul,Nat.reduceLeDiff,Nat.reduceEqDiff,Nat.reduceBNe,UInt8.reduceToNat,UInt32.reduceToNat,hB',hlt,w1,w2,r2,r4,d1,d3,Bool.true_eq_false,Bool.false_eq_true,false_implies,true_implies,true_and,and_true]
   refine⟨⟨by omega,hi⟩,⟨Int.le_refl _,by omega⟩,⟨by omega,by omega⟩,⟨Int.le_refl _,by omega⟩,fun he=>?_,fun he=>?_⟩
   ·rw[he,cond_true,aP]at hb
    simp only[sQ]at hb
    exact hb.1 trivial _ (hs.set hrb)
   ·rw[he,cond_false,aP]at hb
    exact hb
theorem K1{s:ab}{B2:Nat}{l:List aa}{k:Nat}{s':ab}(hs0:s B2=none)(hk:k<2^36)(hch:(gI l k).length=2)(h:FG s B2 l k s'):
 swp prog (Pt uX) ⟨[(4,.ref B2 0),(5,pz (gI l k))],[],s'⟩ fun E'=>FG s B2 l (k+1) E'.s:=by
 have bz:room=140737488355328:=rfl
 obtain⟨s1,r,h1,h2,h3,rfl⟩:=h
 have hB:fc s1 r (dR l k) B2=some (.cells [ga r k]):=gX h3 h1
 have hkl:(dR l k).length=k:=zx l k
 generalize cj:fc s1 r (dR l k)=st at hB
 rw[uX,Pt]
 unfold pz
 simp -implicitDefEqProofs only[go_sem,seval,hB]
 rw[kQ]
 have fin:=sL (E:=?_) (d:=?_) (K:=?_) (by':=24) (s:=s1) (r:=r) (l:=dR l k) (z:=([]:VL)) (v:=(gI l k:VL)) (sz:=1) ?_ h3 rfl (by rw[hkl];omega) ?_
 ·rw[hkl]at fin
  exact fin
 ·exact cj.symm
 ·intro s2 r' g1 g2
  have hB2:s2 B2=some (.cells [ga r k]):=g1 _ _ h1
  have hB3:fc s2 r' (dR l k++[gI l k]) B2=some (.cells [ga r k]):=gX g2 hB2
  rw[hkl]
  generalize Ps:fc s2 r' (dR l k++[gI l k])=st2 at hB3
  simp -implicitDefEqProofs only[go_sem,seval,hB3]
  obtain⟨q1,q2⟩:=Qy (o':=.cells [ga r' (k+1)]) g2 hB2
  refine⟨s2.set B2 (.cells [ga r' (k+1)]),r',bc ..,fun b o hb=>?_,?_,?_⟩
  ·have hne:b≠B2:=fun e=>by subst e;rw[hs0]at hb;cases hb
   rw[aW hne]
   exact g1 _ _ (h2 _ _ hb)
  ·rw[pH];exact q2
  ·rw[pH,<-Ps];exact q1
theorem No{l:List aa}{r:List aa×Int}{s:ab}(hl0:0<l.length)(h:fX l=some r):FE prog 182 [pz l] s [.sl false 4 r.1.length (flat r.1),.int .i64 r.2] s:=by
 have bz:room=140737488355328:=rfl
 unfold fX at h
 obtain⟨⟨aff,hl2⟩,h⟩:=PZ h
 obtain⟨K,hK⟩:∃K,l.length=2*K:=⟨l.length/2,by omega⟩
 have hK2:l.length/2=K:=by omega
 rw[hK2]at h
 have gQ:∀c∈dR l K,0<c.length:=fun c hc=>by
  unfold dR at hc
  obtain⟨k,hk,rfl⟩:=List.mem_map.1 hc
  rw[mB l k (by have:=List.mem_range.1 hk;omega)];decide
 have ZL:∀k,2*k<=l.length->(dR l k).flatten.length=2*k:=fun k=>by
  induction k with
  |zero=>intro _;rfl
  |succ k ih=>
   intro hk
   rw[pH,List.flatten_append,List.length_append,ih (by omega)]
   simp[mB l k (by omega)]
   omega
 have O6:(dR l K).length=K:=zx l K
 refine FN.qf ?_
 intro G w vs hg ho hs ha
 have hI:=zf (n:=40) hg hs ha (by rfl) (show 1<=40 by decide)
 refine callsIn_wide.1 (callsIn_of_wp_marks (n:=3) Go.Proofs.Tryz.func182 Cz trivial ?_ rfl)
 rw[Ju]
 have mixed:=mix
 refine piece (lY mix) CA hI (az.refl G w) (fun E'=>E'=⟨[(0,pz l)],[],s⟩) ?_ ?_
 ·rw[uU];unfold pz
  simp -implicitDefEqProofs only[go_sem,seval]
 rintro G1 σ1 a1 w1 hI1 hp1 rfl
 refine piece (lY mix) CB hI1 hp1 (fun E'=>∃B2,s B2=none/\E'=⟨[(0,pz l),(4,.ref B2 0)],[],s.set B2 (.cells [.arr 0 0 0 0])⟩) ?_ ?_
 ·rw[uV];unfold pz
  simp -implicitDefEqProofs only[go_sem,seval]
  intro B2 hB2
  exact⟨B2,hB2,rfl⟩
 rintro G2 σ2 a2 w2 hI2 hp2 ⟨B2,hB2,rfl⟩
 refine wpIn_seq (piece (lY mix) CC hI2 hp2 (fun E'=>∃Bs,(s.set B2 (.cells [.arr 0 0 0 0])) Bs=none/\∃Bn,((s.set B2 (.cells [.arr 0 0 0 0])).set Bs (.cells [pz l])) Bn=none/\
  E'=⟨[(4,.ref B2 0),(8,.fn 262 [] [.ref Bs 0,.ref Bn 0])],[],((s.set B2 (.cells [.arr 0 0 0 0])).set Bs (.cells [pz l])).set Bn (.cells [.int .i64 2])⟩) ?_ ?_)
 ·rw[uW];unfold pz
  simp -implicitDefEqProofs only[go_sem,seval]
  refine Ig fun Bs h1 Bn h2=>?_
  simp -implicitDefEqProofs only[go_sem,seval]
  exact⟨Bs,h1,Bn,h2,rfl⟩
 rintro G3 σ3 a3 w3 hI3 hp3 ⟨Bs,hBs,Bn,hBn,rfl⟩
 have n1:=hBs
 rw[eU]at n1
 have n2:=hBn
 rw[eU]at n2
 have n3:=n2.2
 rw[eU]at n3
 have hsz:=hI3.size
 have e8:a3.tmps[8]? =some (a3.eval (.tmp 8)):=fh (by rw[hsz];decide)
 have e4:a3.tmps[4]? =some (a3.eval (.tmp 4)):=fh (by rw[hsz];decide)
 have v8:VR w3 G3.R (.fn 262 [] [.ref Bs 0,.ref Bn 0]) (a3.eval (.tmp 8)):=(hI3.bO 8 _ e8).1
 have v4:VR w3 G3.R (.ref B2 0) (a3.eval (.tmp 4)):=(hI3.bO 4 _ e4).1
 obtain⟨vf,vc,hv8,hvf,_,hvc,Gm⟩:=VR.Gr v8
 obtain rfl:vf= #[]:=Array.eq_empty_of_size_eq_zero hvf
 obtain rfl:vc= #[.pointer (some ⟨Bs,0,none⟩),.pointer (some ⟨Bn,0,none⟩)]:=by
  obtain⟨vl⟩:=vc
  match vl,hvc,Gm with
  |[x,y],_,Gm=>rw[VR.fu (Gm 0 _ x rfl rfl),VR.fu (Gm 1 _ y rfl rfl)]
 have hBx:(((s.set B2 (.cells [.arr 0 0 0 0])).set Bs (.cells [pz l])).set Bn (.cells [.int .i64 2])) Bs=some (.cells [pz l]):=by rw[aW n2.1.symm,bc]
 have hBy:(((s.set B2 (.cells [.arr 0 0 0 0])).set Bs (.cells [pz l])).set Bn (.cells [.int .i64 2])) Bn=some (.cells [.int .i64 2]):=bc ..
 obtain⟨hOs,_,cs,ts,hhs,⟨Vu,Vv⟩,_⟩:=hI3.store Bs _ hBx
 obtain⟨hOn,_,cn,tn,hhn,⟨Vr,Vs⟩,_⟩:=hI3.store Bn _ hBy
 obtain⟨x,rfl⟩:∃x,cs= #[x]:=by
  obtain⟨cl⟩:=cs
  match cl,Vu with
  |[x],_=>exact⟨x,rfl⟩
 obtain⟨y,rfl⟩:∃y,cn= #[y]:=by
  obtain⟨cl⟩:=cn
  match cl,Vr with
  |[x],_=>exact⟨x,rfl⟩
 have hx:VR w3 G3.R (pz l) x:=(Vv 0 _ x rfl rfl).1
 have hy:y=.int .i64 2:=VR.bT (Vs 0 _ y rfl rfl).1
 subst hy
 unfold pz at hx
 rcases VR.fD hx with⟨_,he,_⟩|⟨b,off,cap,rfl,hlen,hRb,fQ,hat⟩
 ·exact absurd he (by omega)
 refine wpIn_block ?_
 rw[Ty,Oo]
 let tA:Nat->Array Value:=fun k=>a3.tmps.setIfInBounds 9 (eh b off k)
 have Pc:∀k,((#[9]:Array Tmp).zip #[eh b off k]).foldl (fun t(p,v)=>t.setIfInBounds p v) a3.tmps=tA k:=fun k=>by simp[tA]
 have hav:∀k,k<K->VR w3 G3.R (pz (gI l k)) (eh b off k):=fun k hk=>OD hRb hat (by omega)
 refine Ux hI3 hv8 (fun args w=>mc Go.Proofs.Tryz.func262 (by kernel_rfl) (by kernel_rfl) args) (K:=K) (ki:=eh b off) (avs:=fun k=>pz (gI l k)) (S:=FG s B2 l) [Bs,Bn] ?_ hav ?_ (fun k=>({tmps:=tA k,defers:=[]}:Act).put (some 5) (eh b off k)) ?_ ?_ ?_ ?_
 ·intro b' hb'
  simp only[List.mem_cons,List.not_mem_nil,or_false]at hb'
  rcases hb' with rfl|rfl
  ·exact j7.2 hOs
  ·exact j7.2 hOn
 ·refine⟨_,none,?_,fun b' o hb'=>?_,rfl,rfl⟩
  ·show(if B2∈[Bs,Bn]then none else(((s.set B2 (.cells [.arr 0 0 0 0])).set Bs (.cells [pz l])).set Bn (.cells [.int .i64 2])) B2)=_
   rw[if_neg (by simp only[List.mem_cons,List.not_mem_nil,or_false,not_or];exact⟨n1.1.symm,n3.1.symm⟩),aW n3.1.symm,aW n1.1.symm,bc]
   rfl
  ·have e1:b'≠B2:=fun e=>by subst e;rw[hB2]at hb';cases hb'
   have e2:b'≠Bs:=fun e=>by subst e;rw[n1.2]at hb';cases hb'
   have e3:b'≠Bn:=fun e=>by subst e;rw[n3.2]at hb';cases hb'
   show(if b'∈[Bs,Bn]then none else(((s.set B2 (.cells [.arr 0 0 0 0])).set Bs (.cells [pz l])).set Bn (.cells [.int .i64 2])) b')=_
   rw[if_neg (by simp only[List.mem_cons,List.not_mem_nil,or_false,not_or];exact⟨e2,e3⟩),aW e3,aW e2,aW e1]
   exact hb'
 ·intro lo J W hbx hdr hY h0
  have c1:w3.cell? ⟨Bs,0,none⟩=some (.slice (some ⟨b,off,none⟩) (2*K) cap):=by rw[<-hK];simp[World.cell?,hhs]
  have c2:w3.cell? ⟨Bn,0,none⟩=some (.int .i64 2):=by simp[World.cell?,hhn]
  exact MQ (lo:=lo) (Bs:=Bs) (Bn:=Bn) (b:=b) (off:=off) (K:=K) (cap:=cap) (by omega) (by omega) (fun k W h=>⟨(World.cell?_of_block (hbx k W h Bs (by simp))).trans c1,(World.cell?_of_block (hbx k W h Bn (by simp))).trans c2⟩) hdr hY h0
 ·intro lo k W K' hk
  rw[Pc]
  have hev:({tmps:=tA k,defers:=[]}:Act).eval (.tmp 9)=eh b off k:=by
   show(a3.tmps.setIfInBounds 9 (eh b off k)).getD 9 undef=_
   rw[Array.getD_eq_getD_getElem?,Array.getElem?_setIfInBounds_self_of_lt (by rw[hsz];decide)]
   rfl
  refine wpIn_region_list (wpListIn_plain rfl fun K2 hK2=>⟨fun _ _=>trivial,?_⟩)
  rw[<-hev]at hk
  exact hK2 _ _ hk
 ·intro k hk lo G' W s' g1 g2 g3 hS hv R hR
  refine Qx K3 Jt (R7 (n:=40) (i:=4) (j:=5) (x:=.ref B2 0) (y:=pz (gI l k)) (t:=(tA k).setIfInBounds 5 (eh b off k)) (by decide) (by decide) (by decide) g1 g3 ?_ ⟨rfl,rfl⟩ ⟨rfl,rfl⟩ ?_ ?_) (K1 hB2 (by omega) (mB l k (by omega)) hS) hR
  ·show((a3.tmps.setIfInBounds 9 _).setIfInBounds 5 _).size=_
   rw[Array.size_setIfInBounds,Array.size_setIfInBounds,hsz]
  ·intro v hv4
   have hv4:((a3.tmps.setIfInBounds 9 (eh b off k)).setIfInBounds 5 (eh b off k))[4]? =some v:=hv4
   rw[Array.getElem?_setIfInBounds_ne (by decide),Array.getElem?_setIfInBounds_ne (by decide),e4,VR.fu v4]at hv4
   injection hv4 with hv4
   rw[<-hv4]
   exact .ref _ _
  ·intro v hv5
   have hv5:((a3.tmps.setIfInBounds 9 (eh b off k)).setIfInBounds 5 (eh b off k))[5]? =some v:=hv5
   rw[Array.getElem?_setIfInBounds_self_of_lt (by rw[Array.size_setIfInBounds,hsz];decide)]at hv5
   injection hv5 with hv5
   rw[<-hv5]
   exact hv
 ·intro G4 W4 s4 hS hI4 hp4 adC
  obtain⟨s1,r1,h1,h2,h3,rfl⟩:=hS
  obtain⟨rb,ae6,sp,rfl⟩:=Hz h3 (by rw[O6];omega)
  have hlt:w3.heap.size<(w3.alloc (.deferred (some []))).heap.size:=by rw[World.size_alloc];omega
  refine last (lY mix) CD (hI4.tG [4]) hp4 (Hx fY fun rs s''=>∃s2,Sub s2 s''/\(rs=[.sl false 4 r.1.length (flat r.1),.int .i64 r.2]/\s2=s)) ?_ ?_
  ·refine Jw (s:=s) (by rw[O6];exact h1) h3.1 h2 (by rw[O6];omega) gQ (by rw[ZL K (by omega)];omega) (fun e s' hs'=>?_) (fun e s' hs'=>?_)
   ·rw[e,cond_true]at h
    cases h
    exact⟨s,hs',rfl,rfl⟩
   ·rw[e,cond_false]at h
    cases h
    exact⟨s,hs',rfl,rfl⟩
  ·intro x G5 E' a' W5 k1 k2 k3
   have qH:∀(cE:Bm (kC E' fY)=true)(hq:∃s2,Sub s2 E'.s/\(kC E' fY=[.sl false 4 r.1.length (flat r.1),.int .i64 r.2]/\s2=s)),_:=fun cE hq=>JG (Q:=fun rs s''=>∃s2,Sub s2 s''/\(rs=[.sl false 4 r.1.length (flat r.1),.int .i64 r.2]/\s2=s)) Fg k1 ((hp3.trans (eG hI3.aJ _ .frame 0).2.1).trans k2) (k2.iG _ hlt (by simp)).1 ((k2.iG _ hlt (by simp)).2.trans (by simp)) ((k2.frame _ hlt (.inl (by simp))).trans (World.alloc_heap_new w3 _)) hp3.size cE hq
   cases x with
   |ret=>exact qH k3.1 k3.2
   |normal=>exact qH k3.1 k3.2
   |_=>exact k3.elim
theorem RV{s:ab}{Q:List AV->ab->Prop}(hq:Q [] s):FN prog 297 [.arr 0 0 0 0,.int .i64 0,.int .i64 0,.fn 224 [] []] s Q:=by
 refine FO B5 rfl rfl ?_
 rw[uT]
 have w1:ao ((0:Int)+1)=1:=rfl
 have h1:decide ((1:Int)<0)=false:=rfl
 simp -implicitDefEqProofs only[go_sem,seval,w1]
 refine nD 0 (fun _ τ=>τ=(⟨[(0,.arr 0 0 0 0),(1,.int .i64 0),(2,.int .i64 0),(3,.fn 224 [] []),(8,.int .i64 1)],[],s⟩:St)) (by decide) rfl (fun k hk=>by omega) ?_
 rintro J τ rfl
 simp -implicitDefEqProofs only[go_sem,seval,h1,Bool.true_eq_false,Bool.false_eq_true,false_implies,true_implies,true_and,and_true,Bool.not_true,Bool.not_false,Bool.true_or,Bool.false_or]
 exact hq
theorem QI{s:ab}{Q:List AV->ab->Prop}(hq:Q [] s):FN prog 263 [.arr 0 0 0 0,.int .i64 0,.fn 224 [] []] s Q:=by
 refine FO L3 rfl rfl ?_
 rw[Gs]
 have h1:decide ((20:Int)<=0)=false:=rfl
 have h2:decide ((20:Int)<0)=false:=rfl
 simp -implicitDefEqProofs only[go_sem,seval]
 refine nD 0 (fun _ τ=>τ=(⟨[(0,.arr 0 0 0 0),(1,.int .i64 0),(2,.fn 224 [] []),(6,.int .i64 20),(7,.int .i64 0),(8,.int .i64 20)],[],s⟩:St)) (by decide) rfl (fun k hk=>by omega) ?_
 rintro J τ rfl
 simp -implicitDefEqProofs only[go_sem,seval,h1,Bool.true_eq_false,Bool.false_eq_true,false_implies,true_implies,true_and,and_true,Bool.not_true,Bool.not_false,Bool.true_or,Bool.false_or]
 refine RV ?_
 simp -implicitDefEqProofs only[go_sem,seval,Bool.true_eq_false,Bool.false_eq_true,false_implies,true_implies,true_and,and_true,Bool.not_true,Bool.not_false,Bool.true_or,Bool.false_or]
 refine nD 0 (fun _ τ=>τ=(⟨[(0,.arr 0 0 0 0),(1,.int .i64 0),(2,.fn 224 [] []),(6,.int .i64 20)],[],s⟩:St)) (by decide) rfl (fun k hk=>by omega) ?_
 rintro J τ rfl
 simp -implicitDefEqProofs only[go_sem,seval,h2,Bool.true_eq_false,Bool.false_eq_true,false_implies,true_implies,true_and,and_true,Bool.not_true,Bool.not_false,Bool.true_or,Bool.false_or]
 exact hq
theorem QE{s:ab}{Q:List AV->ab->Prop}(hq:Q [] s):FN prog 223 [.arr 0 0 0 0,.fn 224 [] []] s Q:=by
 refine FO EW rfl rfl ?_
 rw[x8]
 simp -implicitDefEqProofs only[go_sem,seval]
 refine QI ?_
 simp -implicitDefEqProofs only[go_sem,seval,Bool.true_eq_false,Bool.false_eq_true,false_implies,true_implies,true_and,and_true,Bool.not_true,Bool.not_false,Bool.true_or,Bool.false_or]
 exact hq
theorem Kh{s:ab}{Q:List AV->ab->Prop}(hq:∀s' r',Sub s s'->fH s' r' ([]:List aa)->Q [ga r' 0] (fc s' r' ([]:List aa))):FN prog 226 [.arr 0 0 0 0] s Q:=by
 have bz:room=140737488355328:=rfl
 refine FO EV rfl rfl ?_
 rw[x7]
 have h1:decide ((0:Int)<0)=false:=rfl
 simp -implicitDefEqProofs only[go_sem,seval]
 refine nD 0 (fun _ τ=>τ=(⟨[(0,.arr 0 0 0 0),(3,.int .i64 0),(9,.arr 0 0 0 0),(10,.int .i64 0),(11,.int .i64 0)],[],s⟩:St)) (by decide) rfl (fun k hk=>by omega) ?_
 rintro J τ rfl
 simp -implicitDefEqProofs only[go_sem,seval,h1,Bool.true_eq_false,Bool.false_eq_true,false_implies,true_implies,true_and,and_true,Bool.not_true,Bool.not_false,Bool.true_or,Bool.false_or]
 refine LR (k:=0) (by omega) fun s1 r1 hs1 hr1=>?_
 simp -implicitDefEqProofs only[go_sem,seval,Bool.true_eq_false,Bool.false_eq_true,false_implies,true_implies,true_and,and_true,Bool.not_true,Bool.not_false,Bool.true_or,Bool.false_or]
 refine nD 0 (fun _ τ=>τ=(⟨[(6,ga r1 0),(25,.arr 0 0 0 0),(26,.int .i64 0),(27,.int .i64 0)],[],fc s1 r1 ([]:List aa)⟩:St)) (by decide) ?_ (fun k hk=>by omega) ?_
 ·first|rfl|trace_state
 rintro J τ rfl
 simp -implicitDefEqProofs only[go_sem,seval,h1,Bool.true_eq_false,Bool.false_eq_true,false_implies,true_implies,true_and,and_true,Bool.not_true,Bool.not_false,Bool.true_or,Bool.false_or]
 exact hq s1 r1 hs1 hr1
theorem Jv{s s1:ab}{B2:Nat}{Q:List AV->ab->Prop}(hB:s1 B2=some (.cells [.arr 0 0 0 0]))(hs:Sub s s1)(q0:∀s',Sub s s'->Q [.sl false 4 0 [],.int .i64 0] s'):
 fN prog mK (Hx fY Q) ⟨[(4,.ref B2 0)],[],s1⟩:=by
 rw[mK,fY]
 have h1:decide ((1:Int)<0)=false:=rfl
 simp -implicitDefEqProofs only[go_sem,seval,hB]
 refine QE ?_
 simp -implicitDefEqProofs only[go_sem,seval,Bool.true_eq_false,Bool.false_eq_true,false_implies,true_implies,true_and,and_true,Bool.not_true,Bool.not_false,Bool.true_or,Bool.false_or]
 refine nD 0 (fun _ τ=>τ=(⟨[(4,.ref B2 0),(6,.int .i64 1)],[],s1⟩:St)) (by decide) rfl (fun k hk=>by omega) ?_
 rintro J τ rfl
 simp -implicitDefEqProofs only[go_sem,seval,hB,h1,Bool.true_eq_false,Bool.false_eq_true,false_implies,true_implies,true_and,and_true,Bool.not_true,Bool.not_false,Bool.true_or,Bool.false_or]
 refine Kh fun s' r' hs' hr'=>?_
 simp -implicitDefEqProofs only[go_sem,seval,Bool.true_eq_false,Bool.false_eq_true,false_implies,true_implies,true_and,and_true,Bool.not_true,Bool.not_false,Bool.true_or,Bool.false_or]
 refine A2 rfl hr' rfl ?_
 simp -implicitDefEqProofs only[go_sem,seval,Bool.true_eq_false,Bool.false_eq_true,false_implies,true_implies,true_and,and_true,Bool.not_true,Bool.not_false,Bool.true_or,Bool.false_or]
 exact q0 s' fun b o h=>hs' b o (hs b o h)
end Go.AB
end
section
set_option maxRecDepth 4000
namespace Go.AB
open Go Go.Proofs Go.RowKit
open Go.Proofs.Tryz (prog)
attribute[local go_sem] Oper.semAt_some
set_option maxHeartbeats 2000000 in
theorem MP{lo Bs Bn cap:Nat}{pt:Option Addr}{J:World->Prop}{W:World}(RN:∀W,J W->W.cell? ⟨Bs,0,none⟩=some (.slice pt 0 cap)/\W.cell? ⟨Bn,0,none⟩=some (.int .i64 2))(hd:∀W,J W->J W.drew)(h0:J W):
 CallsIn Fence.wide 2 prog 262 #[.func (.yield lo) #[] #[],.pointer (some ⟨Bs,0,none⟩),.pointer (some ⟨Bn,0,none⟩)] W fun e W'=>(∃v,e=.returned v)/\J W':=by
 have mixed:=mix
 refine callsIn_of_wp Go.Proofs.Tryz.func262 rfl trivial ?_ rfl
 simp only[show Go.Proofs.Tryz.f262.ntmps=31 from rfl,List.size_toArray,List.length_cons,List.length_nil,Nat.reduceAdd,Nat.reduceSub,Array.replicate_succ,Array.replicate_zero,List.push_toArray,List.append_toArray,List.nil_append,List.cons_append]
 gi_wp2
 gi_loopw [4] (fun i wr=>i=.int .i64 0/\J wr) (fun _ _=>0)
 case atStart=>exact⟨rfl,h0⟩
 case round=>
  obtain⟨rfl,hJ⟩:=hrel
  obtain⟨hb1,hb2⟩:=RN _ hJ
  gi_wp2
  go_end0
  exact⟨⟨_,rfl⟩,hJ⟩
end Go.AB
end
section
set_option maxRecDepth 4000
namespace Go.AB
open Go
open Go.Proofs.Tryz (prog)
attribute[-go_sem] Nat.add_zero tz du cV dB cg cU
theorem Nn{s:ab}:FE prog 182 [pz []] s [.sl false 4 0 [],.int .i64 0] s:=by
 have bz:room=140737488355328:=rfl
 refine FN.qf ?_
 intro G w vs hg ho hs ha
 have hI:=zf (n:=40) hg hs ha (by rfl) (show 1<=40 by decide)
 refine callsIn_wide.1 (callsIn_of_wp_marks (n:=3) Go.Proofs.Tryz.func182 Cz trivial ?_ rfl)
 rw[Ju]
 have mixed:=mix
 refine piece (lY mix) CA hI (az.refl G w) (fun E'=>E'=⟨[(0,pz [])],[],s⟩) ?_ ?_
 ·rw[uU];unfold pz
  simp -implicitDefEqProofs only[go_sem,seval]
 rintro G1 σ1 a1 w1 hI1 hp1 rfl
 refine piece (lY mix) CB hI1 hp1 (fun E'=>∃B2,s B2=none/\E'=⟨[(0,pz []),(4,.ref B2 0)],[],s.set B2 (.cells [.arr 0 0 0 0])⟩) ?_ ?_
 ·rw[uV];unfold pz
  simp -implicitDefEqProofs only[go_sem,seval]
  intro B2 hB2
  exact⟨B2,hB2,rfl⟩
 rintro G2 σ2 a2 w2 hI2 hp2 ⟨B2,hB2,rfl⟩
 refine wpIn_seq (piece (lY mix) CC hI2 hp2 (fun E'=>∃Bs,(s.set B2 (.cells [.arr 0 0 0 0])) Bs=none/\∃Bn,((s.set B2 (.cells [.arr 0 0 0 0])).set Bs (.cells [pz []])) Bn=none/\
  E'=⟨[(4,.ref B2 0),(8,.fn 262 [] [.ref Bs 0,.ref Bn 0])],[],((s.set B2 (.cells [.arr 0 0 0 0])).set Bs (.cells [pz []])).set Bn (.cells [.int .i64 2])⟩) ?_ ?_)
 ·rw[uW];unfold pz
  simp -implicitDefEqProofs only[go_sem,seval]
  refine Ig (l:=[]) fun Bs h1 Bn h2=>?_
  simp -implicitDefEqProofs only[go_sem,seval]
  exact⟨Bs,h1,Bn,h2,rfl⟩
 rintro G3 σ3 a3 w3 hI3 hp3 ⟨Bs,hBs,Bn,hBn,rfl⟩
 have n1:=hBs
 rw[eU]at n1
 have n2:=hBn
 rw[eU]at n2
 have n3:=n2.2
 rw[eU]at n3
 have hsz:=hI3.size
 have e8:a3.tmps[8]? =some (a3.eval (.tmp 8)):=fh (by rw[hsz];decide)
 have e4:a3.tmps[4]? =some (a3.eval (.tmp 4)):=fh (by rw[hsz];decide)
 have v8:VR w3 G3.R (.fn 262 [] [.ref Bs 0,.ref Bn 0]) (a3.eval (.tmp 8)):=(hI3.bO 8 _ e8).1
 have v4:VR w3 G3.R (.ref B2 0) (a3.eval (.tmp 4)):=(hI3.bO 4 _ e4).1
 obtain⟨vf,vc,hv8,hvf,_,hvc,Gm⟩:=VR.Gr v8
 obtain rfl:vf= #[]:=Array.eq_empty_of_size_eq_zero hvf
 obtain rfl:vc= #[.pointer (some ⟨Bs,0,none⟩),.pointer (some ⟨Bn,0,none⟩)]:=by
  obtain⟨vl⟩:=vc
  match vl,hvc,Gm with
  |[x,y],_,Gm=>rw[VR.fu (Gm 0 _ x rfl rfl),VR.fu (Gm 1 _ y rfl rfl)]
 have hBx:(((s.set B2 (.cells [.arr 0 0 0 0])).set Bs (.cells [pz []])).set Bn (.cells [.int .i64 2])) Bs=some (.cells [pz []]):=by rw[aW n2.1.symm,bc]
 have hBy:(((s.set B2 (.cells [.arr 0 0 0 0])).set Bs (.cells [pz []])).set Bn (.cells [.int .i64 2])) Bn=some (.cells [.int .i64 2]):=bc ..
 obtain⟨hOs,_,cs,ts,hhs,⟨Vu,Vv⟩,_⟩:=hI3.store Bs _ hBx
 obtain⟨hOn,_,cn,tn,hhn,⟨Vr,Vs⟩,_⟩:=hI3.store Bn _ hBy
 obtain⟨x,rfl⟩:∃x,cs= #[x]:=by
  obtain⟨cl⟩:=cs
  match cl,Vu with
  |[x],_=>exact⟨x,rfl⟩
 obtain⟨y,rfl⟩:∃y,cn= #[y]:=by
  obtain⟨cl⟩:=cn
  match cl,Vr with
  |[x],_=>exact⟨x,rfl⟩
 have hx:VR w3 G3.R (pz []) x:=(Vv 0 _ x rfl rfl).1
 have hy:y=.int .i64 2:=VR.bT (Vs 0 _ y rfl rfl).1
 subst hy
 unfold pz at hx
 obtain⟨pt,cap,rfl⟩:∃pt cap,x=.slice pt 0 cap:=by
  rcases VR.fD hx with⟨he,_,_⟩|⟨b,off,cap,rfl,_,_,_,_⟩
  ·exact he.ex
  ·exact⟨_,_,rfl⟩
 have Pc:((#[9]:Array Tmp).zip #[undef]).foldl (fun t(p,v)=>t.setIfInBounds p v) a3.tmps=a3.tmps.setIfInBounds 9 undef:=by simp
 refine wpIn_block ?_
 rw[Ty,Oo]
 refine Ux hI3 hv8 (fun args w=>mc Go.Proofs.Tryz.func262 (by kernel_rfl) (by kernel_rfl) args) (K:=0) (ki:=fun _=>undef) (avs:=fun _=>.undef) (S:=fun _ s'=>s' B2=some (.cells [.arr 0 0 0 0])/\Sub s s') [Bs,Bn] ?_ (fun k hk=>by omega) ?_ (fun k=>({tmps:=a3.tmps.setIfInBounds 9 undef,defers:=[]}:Act).put (some 5) undef) ?_ ?_ (fun k hk=>by omega) ?_
 ·intro b' hb'
  simp only[List.mem_cons,List.not_mem_nil,or_false]at hb'
  rcases hb' with rfl|rfl
  ·exact j7.2 hOs
  ·exact j7.2 hOn
 ·refine⟨?_,fun b' o hb'=>?_⟩
  ·show(if B2∈[Bs,Bn]then none else(((s.set B2 (.cells [.arr 0 0 0 0])).set Bs (.cells [pz []])).set Bn (.cells [.int .i64 2])) B2)=_
   rw[if_neg (by simp only[List.mem_cons,List.not_mem_nil,or_false,not_or];exact⟨n1.1.symm,n3.1.symm⟩),aW n3.1.symm,aW n1.1.symm,bc]
  ·have e1:b'≠B2:=fun e=>by subst e;rw[hB2]at hb';cases hb'
   have e2:b'≠Bs:=fun e=>by subst e;rw[n1.2]at hb';cases hb'
   have e3:b'≠Bn:=fun e=>by subst e;rw[n3.2]at hb';cases hb'
   show(if b'∈[Bs,Bn]then none else(((s.set B2 (.cells [.arr 0 0 0 0])).set Bs (.cells [pz []])).set Bn (.cells [.int .i64 2])) b')=_
   rw[if_neg (by simp only[List.mem_cons,List.not_mem_nil,or_false,not_or];exact⟨e2,e3⟩),aW e3,aW e2,aW e1]
   exact hb'
 ·intro lo J W hbx hdr hY h0
  have c1:w3.cell? ⟨Bs,0,none⟩=some (.slice pt 0 cap):=by simp[World.cell?,hhs]
  have c2:w3.cell? ⟨Bn,0,none⟩=some (.int .i64 2):=by simp[World.cell?,hhn]
  exact MP (lo:=lo) (Bs:=Bs) (Bn:=Bn) (J:=J 0) (fun W h=>⟨(World.cell?_of_block (hbx 0 W h Bs (by simp))).trans c1,(World.cell?_of_block (hbx 0 W h Bn (by simp))).trans c2⟩) (fun W h=>hdr 0 W h) h0
 ·intro lo k W K' hk
  rw[Pc]
  have hev:({tmps:=a3.tmps.setIfInBounds 9 undef,defers:=[]}:Act).eval (.tmp 9)=undef:=by
   show(a3.tmps.setIfInBounds 9 (undef)).getD 9 undef=_
   rw[Array.getD_eq_getD_getElem?,Array.getElem?_setIfInBounds_self_of_lt (by rw[hsz];decide)]
   rfl
  refine wpIn_region_list (wpListIn_plain rfl fun K2 hK2=>⟨fun _ _=>trivial,?_⟩)
  have hk2:K' (({tmps:=a3.tmps.setIfInBounds 9 undef,defers:=[]}:Act).put (some 5) (({tmps:=a3.tmps.setIfInBounds 9 undef,defers:=[]}:Act).eval (.tmp 9))) W:=by rw[hev];exact hk
  exact hK2 _ _ hk2
 ·intro G4 W4 s4 hS hI4 hp4 adC
  obtain⟨h1,h2⟩:=hS
  have hlt:w3.heap.size<(w3.alloc (.deferred (some []))).heap.size:=by rw[World.size_alloc];omega
  refine last (lY mix) CD (hI4.tG [4]) hp4 (Hx fY fun rs s''=>∃s2,Sub s2 s''/\(rs=[.sl false 4 0 [],.int .i64 0]/\s2=s)) ?_ ?_
  ·exact Jv (s:=s) h1 h2 fun s' hs'=>⟨s,hs',rfl,rfl⟩
  ·intro x G5 E' a' W5 k1 k2 k3
   have qH:∀(cE:Bm (kC E' fY)=true)(hq:∃s2,Sub s2 E'.s/\(kC E' fY=[.sl false 4 0 [],.int .i64 0]/\s2=s)),_:=fun cE hq=>JG (Q:=fun rs s''=>∃s2,Sub s2 s''/\(rs=[.sl false 4 0 [],.int .i64 0]/\s2=s)) Fg k1 ((hp3.trans (eG hI3.aJ _ .frame 0).2.1).trans k2) (k2.iG _ hlt (by simp)).1 ((k2.iG _ hlt (by simp)).2.trans (by simp)) ((k2.frame _ hlt (.inl (by simp))).trans (World.alloc_heap_new w3 _)) hp3.size cE hq
   cases x with
   |ret=>exact qH k3.1 k3.2
   |normal=>exact qH k3.1 k3.2
   |_=>exact k3.elim
end Go.AB
end
section
namespace Go.AB
open Go
open Go.Proofs.Tryz (prog)
theorem Qb:vD fX:=fun s l r h=>by
 cases l with
 |nil=>
  have e:fX []=some ([],0):=rfl
  rw[e]at h;cases h
  exact Nn
 |cons x l=>exact No (by simp) h
def jB(b:List UInt8)(a:Int)(last:Bool):Option (aa×Int×Int):=pX fX b a last
theorem CE{b:List UInt8}{a:Int}{last:Bool}{s:ab}{r:aa×Int×Int}(h:jB b a last=some r):FE prog 36 [.sl false 1 b.length (flat b),.int .i64 a,.bool last] s
 [.agg [.int .i64 r.1.Kind,.int .i64 r.1.N,.str r.1.S.b,.sl false 4 r.1.L.length (flat r.1.L)],.int .i64 r.2.1,.int .i64 r.2.2] s:=
 FN.qf (QW Qb ⟨r,h,fun s' hs=>⟨s,hs,rfl,rfl⟩⟩)
end Go.AB
end
section
end
section
set_option maxRecDepth 4000
namespace Go.AB
open Go
open Go.Proofs.Tryz (prog)
theorem FN.args{P:Program}{f:FuncId}{args Ez:List AV}{s:ab}{Q:List AV->ab->Prop}(h:FN P f Ez s Q)(ha:∀(G:Gh)(w:World)(vs:Array Value),aO G w s->nq w G.R args vs->nq w G.R Ez vs):FN P f args s Q:=fun G w vs h1 h2 h3 h4=>h G w vs h1 h2 h3 (ha G w vs h3 h4)
structure an where
 bA:Int
 To:Int
 deriving DecidableEq
instance:aR an:=⟨2,fun x=>[.int .i64 x.bA,.int .i64 x.To],(an.mk 0 0),by decide,fun _=>rfl,fun _=>rfl⟩
@[go_sem]theorem rf(x:an):aR.cells x=[.int .i64 x.bA,.int .i64 x.To]:=rfl
@[go_sem]theorem SB(l:List an)(i:Int):pad [.int .i64 0,.int .i64 0] (views (AB.sub (flat l) (i.toNat*2) 2))=[.int .i64 ((ix l i).bA),.int .i64 ((ix l i).To)]:=by rw[<-rf];exact vT _ 2 l i (by rw[rf];rfl) rfl
def jr(x_0:an):Option (Bool):=some ((decide (x_0.bA<0))||(decide (x_0.To<=x_0.bA)))
def uv:IC:=
 (ag [i1 1 (.jf 2 (.t 0)),cY 2 (.bool false)] [1]
 (ag [fa 3 0 1,ld 4 1 3,bn 5 .lss 4 0,mv 6 5,fg 7 6 false 1 1,lg 8 6 false 1 7,fg 9 6 false 0 1,lg 10 6 false 1 9,sm 11 6 false .leq 8 10,po 12 6 11,mv 2 12] [2]
 .ret))
theorem D2:aY prog 175 13 [⟨2,true,none⟩] uv=true:=by kernel_rfl
theorem Et{x_0}{s:ab}{Q:List AV->ab->Prop}:ok (jr x_0) (fun r=>Q [.bool r] s)->FN prog 175 [.agg [.int .i64 x_0.bA,.int .i64 x_0.To]] s Q:=by
 intro h
 refine FO D2 rfl rfl ?_
 revert h
 rw[uv,jr]
 repeat'(first
  |simp -implicitDefEqProofs only[go_sem,seval])
theorem oe{x_0}{s:ab}{r:Bool}(h:jr x_0=some r):FE prog 175 [.agg [.int .i64 x_0.bA,.int .i64 x_0.To]] s [.bool r] s:=Et ⟨r,h,rfl,rfl⟩
def aQ(s_0:(List an)):Option (Int):=
 oU (
  kU (
   iter (fun(t2:Int)=>
    if decide (t2<(s_0.length:Int))then
     aH (0<=t2/\t2<s_0.length)<|
     ba (jr (ix s_0 t2)) fun r4=>
     if r4 then
      some (.inr (.inr t2))
     else
      some (.inl (ao (t2+1)))
    else
     some (.inr (.inl ()))) 0) (fun(_:Unit)=>
   some (.inl ()))
  (fun(t3:Int)=>some (.inr t3))) (fun(_:Unit)=>
  some (-1))
 (fun(t1:Int)=>some t1)
theorem IK:(uQ prog 175=true)=True:=eq_true (by kernel_rfl)
def er:IC:=
 (ag [mi 4 0] [0,1]
 (.join [] (ag [mv 6 0,le 7 0 6,mi 8 0] [0,1,7,8]
 (.block 0 (.loop [(0,true),(1,false),(7,false),(8,false)] (ag [bt 9 .lss 8 7] [0,1,7,8,9]
 (.seq (.cond (.t 9) .skip
 (.exit 0))
 (.seq (.block 1 (ag [mv 10 8,mv 5 10] [0,1,5,7,8]
 (ag [mv 11 1,mv 12 0,mv 13 5,ia 14 [.int .i64 0,.int .i64 0] 12 13,lm 15 2 14,i1 16 (.dj (.t 11) [(.t 15)])] [0,1,5,7,8,16]
 (.cond (.t 16) (ag [mv 17 5,mv 4 17] [4]
 .ret)
 .skip))))
 (.bP none [bn 18 .add 8 1,mv 8 18] [0,1,7,8])))))))
 (ag [mi 4 (-1)] [4]
 .ret)))
theorem iI:aY prog 249 19 [⟨4,true,none⟩] er=true:=by kernel_rfl
theorem iK{s_0}{s:ab}{Q:List AV->ab->Prop}:ok (aQ s_0) (fun r=>Q [.int .i64 r] s)->FN prog 249 [.sl false 2 s_0.length (flat s_0),.fn 175 [] []] s Q:=by
 intro h
 refine FO iI rfl rfl ?_
 revert h
 rw[er,aQ]
 repeat'(first
  |(with_reducible first|exact dh|refine b9 ?_ ?_|refine dT ?_|refine ax (fun _(h:jr (ix s_0 t2)=some _)=>oe h) (fun r4=>?_))
  |((with_reducible refine ch (fun(t2:Int)=>⟨[(0,.sl false 2 s_0.length (flat s_0)),(1,.fn 175 [] []),(7,.int .i64 (s_0.length:Int)),(8,.int .i64 t2)],[],s⟩) ?_ ?_);(first|exact rfl|simp -implicitDefEqProofs only[go_sem,seval,IK]);rintro J t2)
  |((with_reducible refine bV (fun(_:Unit)=>⟨[],[],s⟩) (fun J=>?_) ?_);rotate_left;rintro _)
  |simp -implicitDefEqProofs only[go_sem,seval,IK])
theorem ez{s_0}{s:ab}{r:Int}(h:aQ s_0=some r):FE prog 249 [.sl false 2 s_0.length (flat s_0),.fn 175 [] []] s [.int .i64 r] s:=iK ⟨r,h,rfl,rfl⟩
def eD(x_0:Int):Option (Bool):=some (x_0 !=x_0)
def qo:IC:=
 (ag [cY 2 (.bool false)] [0]
 (ag [mv 3 0,mv 4 0,bt 5 .neq 3 4,mv 2 5] [2]
 .ret))
theorem Ac:aY prog 201 6 [⟨2,true,none⟩] qo=true:=by kernel_rfl
theorem zY{x_0}{s:ab}{Q:List AV->ab->Prop}:ok (eD x_0) (fun r=>Q [.bool r] s)->FN prog 201 [.int .i64 x_0] s Q:=by
 intro h
 refine FO Ac rfl rfl ?_
 revert h
 rw[qo,eD]
 repeat'(first
  |simp -implicitDefEqProofs only[go_sem,seval])
theorem qj{x_0}{s:ab}{r:Bool}(h:eD x_0=some r):FE prog 201 [.int .i64 x_0] s [.bool r] s:=zY ⟨r,h,rfl,rfl⟩
def dm(x_0:Int)(y_1:Int):Option (Int):=
 ba (eD x_0) fun r1=>
 ba (eD y_1) fun r2=>
 if r1 then
  if r2 then
   some 0
  else
   some (-1)
 else
  if r2 then
   some 1
  else
   if decide (x_0<y_1)then
    some (-1)
   else
    if decide (x_0>y_1)then
     some 1
    else
     some 0
def nv:IC:=
 (ag [mi 4 0] [0,1]
 (ag [mv 7 0,c1 8 201 7,mv 5 8] [0,1,5]
 (ag [mv 9 1,c1 10 201 9,mv 6 10] [0,1,5,6]
 (.seq (ag [mv 11 5] [0,1,6,11]
 (.cond (.t 11) (.seq (ag [mv 12 6] [12]
 (.cond (.t 12) (ag [mi 4 0] [4]
 .ret)
 .skip))
 (ag [mi 4 (-1)] [4]
 .ret))
 .skip))
 (.seq (ag [mv 13 6] [0,1,13]
 (.cond (.t 13) (ag [mi 4 1] [4]
 .ret)
 .skip))
 (.seq (ag [mv 14 0,mv 15 1,bt 16 .lss 14 15] [0,1,16]
 (.cond (.t 16) (ag [mi 4 (-1)] [4]
 .ret)
 .skip))
 (.seq (ag [mv 17 0,mv 18 1,bt 19 .gtr 17 18] [19]
 (.cond (.t 19) (ag [mi 4 1] [4]
 .ret)
 .skip))
 (ag [mi 4 0] [4]
 .ret))))))))
theorem wL:aY prog 165 20 [⟨4,true,none⟩] nv=true:=by kernel_rfl
theorem vO{x_0 y_1}{s:ab}{Q:List AV->ab->Prop}:ok (dm x_0 y_1) (fun r=>Q [.int .i64 r] s)->FN prog 165 [.int .i64 x_0,.int .i64 y_1] s Q:=by
 intro h
 refine FO wL rfl rfl ?_
 revert h
 rw[nv,dm]
 repeat'(first
  |(with_reducible first|refine ax (fun _(h:eD x_0=some _)=>qj h) (fun r1=>?_)|refine ax (fun _(h:eD y_1=some _)=>qj h) (fun r2=>?_))
  |simp -implicitDefEqProofs only[go_sem,seval])
theorem nt{x_0 y_1}{s:ab}{r:Int}(h:dm x_0 y_1=some r):FE prog 165 [.int .i64 x_0,.int .i64 y_1] s [.int .i64 r] s:=vO ⟨r,h,rfl,rfl⟩
def mh(jt:(List Int)):Option (Int):=
 oU (
  kU (
   iter (fun(t3:Int)=>
    if decide (t3<(jt.length:Int))then
     aH (0<=t3/\t3<jt.length)<|
     if(ix jt t3)!=0 then
      some (.inr (.inr (ix jt t3)))
     else
      some (.inl (ao (t3+1)))
    else
     some (.inr (.inl ()))) 0) (fun(_:Unit)=>
   some (.inl ()))
  (fun(t5:Int)=>some (.inr t5))) (fun(_:Unit)=>
  some 0)
 (fun(t2:Int)=>some t2)
def wo:IC:=
 (ag [mi 2 0] [0]
 (ag [mi 3 0] [0,3]
 (.join [(3,false)] (ag [mt 6 0,le 7 0 6,mi 8 0] [3,6,7,8]
 (.block 0 (.loop [(3,false),(6,true),(7,false),(8,false)] (ag [bt 9 .lss 8 7] [3,6,7,8,9]
 (.seq (.cond (.t 9) .skip
 (.exit 0))
 (.seq (.block 1 (ag [ia 10 vm 6 8,ld 11 1 10,mv 5 11] [3,5,6,7,8]
 (ag [mv 12 5,mv 13 3,bt 14 .neq 12 13] [3,5,6,7,8,14]
 (.cond (.t 14) (ag [mv 15 5,mv 2 15] [2]
 .ret)
 .skip))))
 (.bP none [bn 16 .add 8 1,mv 8 16] [3,6,7,8])))))))
 (ag [mv 17 3,mv 2 17] [2]
 .ret))))
theorem Gu:aY prog 164 18 [⟨2,true,none⟩] wo=true:=by kernel_rfl
theorem F0{jt}{s:ab}{Q:List AV->ab->Prop}:ok (mh jt) (fun r=>Q [.int .i64 r] s)->FN prog 164 [.sl false 1 jt.length (flat jt)] s Q:=by
 intro h
 refine FO Gu rfl rfl ?_
 revert h
 rw[wo,mh]
 repeat'(first
  |((with_reducible refine ch (fun(t3:Int)=>⟨[(3,.int .i64 0),(6,.sl false 1 jt.length (flat jt)),(7,.int .i64 (jt.length:Int)),(8,.int .i64 t3)],[],s⟩) ?_ ?_);(first|exact rfl|simp -implicitDefEqProofs only[go_sem,seval]);rintro J t3)
  |((with_reducible refine bV (fun(_:Unit)=>⟨[(3,.int .i64 0)],[],s⟩) (fun J=>?_) ?_);rotate_left;rintro _)
  |simp -implicitDefEqProofs only[go_sem,seval])
theorem FZ{jt}{s:ab}{r:Int}(h:mh jt=some r):FE prog 164 [.sl false 1 jt.length (flat jt)] s [.int .i64 r] s:=F0 ⟨r,h,rfl,rfl⟩
def nJ(a_0:an)(b_1:an):Option (Int):=
 ba (dm a_0.bA b_1.bA) fun r1=>
 ba (dm a_0.To b_1.To) fun r2=>
 ba (mh [r1,r2]) fun r3=>
 some r3
def rN:IC:=
 (ag [i1 2 (.jf 2 (.t 0)),i1 3 (.jf 2 (.t 1)),mi 4 0] [2,3]
 (.seq (.bP (some 13) [fa 5 0 2,ld 6 1 5,fa 7 0 3,ld 8 1 7,c2 9 165 6 8,fa 10 1 2,ld 11 1 10,fa 12 1 3,ld 13 1 12,c2 14 165 11 13,i1 15 (.bB 1 2 [.int .i64 0,.int .i64 0] [(0,1,(.t 9)),(1,1,(.t 14))]),c1 16 164 15,mv 4 16] [4])
 .ret))
theorem Cj:aY prog 213 17 [⟨4,true,none⟩] rN=true:=by kernel_rfl
theorem Dg{a_0 b_1}{s:ab}{Q:List AV->ab->Prop}:ok (nJ a_0 b_1) (fun r=>Q [.int .i64 r] s)->FN prog 213 [.agg [.int .i64 a_0.bA,.int .i64 a_0.To],.agg [.int .i64 b_1.bA,.int .i64 b_1.To]] s Q:=by
 intro h
 refine FO Cj rfl rfl ?_
 revert h
 rw[rN,nJ]
 repeat'(first
  |(with_reducible first|refine dF (fun _(h:dm a_0.bA b_1.bA=some _)=>nt h) (fun _=>rfl) (fun r1=>?_)|refine dF (fun _(h:dm a_0.To b_1.To=some _)=>nt h) (fun _=>rfl) (fun r2=>?_)|refine dF (fun _(h:mh [r1,r2]=some _)=>(by refine FF ?_ (FZ h);simp -implicitDefEqProofs only[go_sem,seval])) (fun _=>rfl) (fun r3=>?_))
  |simp -implicitDefEqProofs only[go_sem,seval])
theorem Df{a_0 b_1}{s:ab}{r:Int}(h:nJ a_0 b_1=some r):FE prog 213 [.agg [.int .i64 a_0.bA,.int .i64 a_0.To],.agg [.int .i64 b_1.bA,.int .i64 b_1.To]] s [.int .i64 r] s:=Dg ⟨r,h,rfl,rfl⟩
def zD:IC:=
 (ag [cY 2 (.arr 0 0 0 0)] [0]
 (.seq (ag [mv 3 0,i1 4 (.RH false (.t 3))] [0,4]
 (.cond (.t 4) (ag [cY 2 (.arr 0 0 0 0)] [2]
 .ret)
 .skip))
 (ag [i1 5 (.jP 2 0 [] []),mv 6 0,i1 7 (.fL 2 16 [.int .i64 0,.int .i64 0] (.t 5) (.t 6)),mv 2 7] [2]
 .ret)))
theorem I1:aY prog 203 8 [⟨2,true,none⟩] zD=true:=by kernel_rfl
def xQ(l:List an)(s:ab)(rs:List AV)(s':ab):Prop:=(∃b cap sp,rs=[.arr b 0 l.length cap]/\s b=none/\0<cap/\l.length<=cap/\(flat l++sp).length=cap*2/\views (flat l++sp)=flat l++sp/\s'=s.set b (.cells (flat l++sp)))\/(l=[]/\s'=s/\∃b,rs=[.arr b 0 0 0])
theorem vN{o:Bool}{l:List an}{s:ab}(hr:l.length*16<=room):FN prog 203 [.sl o 2 l.length (flat l)] s (xQ l s):=by
 refine FN.qf (FO I1 rfl rfl ?_)
 generalize hQ:(fun rs s'=>∃s2,Sub s2 s'/\xQ l s rs s2)=Q
 have hq:∀rs s' s2,Sub s2 s'->xQ l s rs s2->Q rs s':=fun rs s' s2 h1 h2=>by rw[<-hQ];exact⟨s2,h1,h2⟩
 rw[zD]
 simp -implicitDefEqProofs only[go_sem,Nat.reduceBEq,Nat.reduceAdd,Nat.reduceMul,Nat.reduceLeDiff,Nat.reduceEqDiff,Nat.reduceBNe,UInt8.reduceToNat,UInt32.reduceToNat]
 intro v hv
 refine⟨fun h=>hq _ _ s (Sub.refl s) (.inr ⟨List.eq_nil_of_length_eq_zero (hv (by simpa using h)),rfl,0,rfl⟩),fun _ b1 hb1=>?_⟩
 rw[kQ,bX]
 by_cases hl:l=[]
 ·subst hl
  refine DB rfl rfl (Nat.le_refl 0) ?_
  simp -implicitDefEqProofs only[go_sem,Nat.reduceBEq,Nat.reduceAdd,Nat.reduceMul,Nat.reduceLeDiff,Nat.reduceEqDiff,Nat.reduceBNe,UInt8.reduceToNat,UInt32.reduceToNat]
  exact hq _ _ s ((Sub.refl s).set hb1) (.inr ⟨rfl,rfl,_,rfl⟩)
 ·have hn:0<l.length:=List.length_pos_iff.2 hl
  refine jM rfl rfl (by omega) (by rw[Nat.zero_add];exact hr) fun b2 cap hb2 fQ=>?_
  rw[Nat.zero_add]at fQ
  have hz:(List.replicate (cap -(0+l.length)) [.int .i64 0,.int .i64 0]).flatten=flat (List.replicate (cap -l.length) (an.mk 0 0:an)):=by rw[mF,Nat.zero_add];rfl
  rw[hz]
  simp -implicitDefEqProofs only[go_sem,Nat.reduceBEq,Nat.reduceAdd,Nat.reduceMul,Nat.reduceLeDiff,Nat.reduceEqDiff,Nat.reduceBNe,UInt8.reduceToNat,UInt32.reduceToNat,Nat.zero_add,List.nil_append]
  have adv:s b2=none:=((Sub.refl s).set hb1).none hb2
  refine hq _ _ _ (Sub.aeo ((Sub.refl s).set hb1)) (.inl ⟨b2,cap,_,rfl,adv,by omega,fQ,?_,?_,rfl⟩)
  ·rw[List.length_append,aE,aE,List.length_replicate]
   show l.length*2+(cap -l.length)*2=cap*2
   omega
  ·rw[xA,bX,bX]
theorem Ij{o:Bool}{l:List an}{s:ab}(hr:l.length*16<=room):FE prog 203 [.sl o 2 l.length (flat l)] s [.us 2 l.length (flat l)] s:=
 FN.W9 (aE l) ⟨rfl,rfl⟩ ((vN hr).mono fun rs s' h=>by
  rcases h with⟨b,cap,sp,h1,h2,h3,h4,h5,h6,h7⟩|⟨h1,h2,h3⟩
  ·exact .inl ⟨b,cap,sp,h1,by rw[h7];exact gY,h3,h4,h5,h6,by rw[h7,AZ h2];exact Sub.refl s⟩
  ·subst h1;exact .inr ⟨rfl,rfl,by rw[h2];exact Sub.refl s,h3⟩)
def x6:IC:=
 (ag [cY 4 (.arr 0 0 0 0)] [0,1]
 (ag [mv 8 0,mv 9 1,c2 10 249 8 9,mv 5 10] [0,1,5]
 (.seq (ag [mv 11 5,bn 12 .eql 11 (-1)] [0,1,5,12]
 (.cond (.t 12) (ag [mv 13 0,mv 4 13] [4]
 .ret)
 .skip))
 (.seq (ag [mv 14 5,bn 15 .add 14 1,mv 6 15] [0,1,5,6]
 (.block 0 (.loop [(0,false),(1,false),(5,false),(6,false)] (.seq (ag [mv 16 6,mv 17 0,le 18 0 17,bt 19 .lss 16 18] [0,1,5,6,19]
 (.cond (.t 19) .skip
 (.exit 0)))
 (.seq (.block 1 (ag [mv 22 0,mv 23 6,ia 24 [.int .i64 0,.int .i64 0] 22 23,lm 25 2 24,i1 7 (.aA [.int .i64 0,.int .i64 0]),st 2 7 25] [0,1,5,6,7]
 (ag [mv 26 1,lm 27 2 7,i1 28 (.dj (.t 26) [(.t 27)]),no 29 28] [0,1,5,6,7,29]
 (.cond (.t 29) (ag [mv 30 0,mv 31 5,lm 32 2 7,ia 33 [.int .i64 0,.int .i64 0] 30 31,st 2 33 32] [0,1,5,6]
 (.bP none [mv 34 5,bn 35 .add 34 1,mv 5 35] [0,1,5,6]))
 .skip))))
 (.bP none [mv 20 6,bn 21 .add 20 1,mv 6 21] [0,1,5,6]))))))
 (ag [mv 36 0,mv 37 5,YJ 38 2 36 37,i0 (.pI [.int .i64 0,.int .i64 0] (.t 38))] [0,5]
 (ag [mv 39 0,mv 40 5,WW 41 2 39 40,mv 4 41] [4]
 .ret))))))
theorem EU:aY prog 211 42 [⟨4,true,none⟩] x6=true:=by kernel_rfl
theorem BP{T:Type}[aR T]{w:World}{R R':Nat->Nat}{b cap f:Nat}{l:List T}{vs:Array Value}(mono:∀a u,VR w R a u->VR w R' a u)(hv:∀u,VR w R (.arr b 0 l.length cap) u->VR w R' (.sl false 2 l.length (flat l)) u)
 (ha:nq w R [.arr b 0 l.length cap,.fn f [] []] vs):nq w R' [.sl false 2 l.length (flat l),.fn f [] []] vs:=by
 refine⟨ha.1,fun j a v hj hvs=>?_⟩
 match j,hj with
 |0,hj=>cases hj;exact hv v (ha.2 0 _ v rfl hvs)
 |1,hj=>cases hj;exact mono _ _ (ha.2 1 _ v rfl hvs)
theorem tZ{b cap:Nat}{l:List an}{sp:List AV}{r:Int}{s:ab}{Q:List AV->ab->Prop}(hs:s b=some (.cells (flat l++sp)))(hn:l.length<=cap)(h:aQ l=some r)(hq:Q [.int .i64 r] s):
 FN prog 249 [.arr b 0 l.length cap,.fn 175 [] []] s Q:=by
 refine FN.borrow b (l.length*2) (Ez:=[.sl false 2 l.length (flat l),.fn 175 [] []]) (FE.app (ez h) ⟨rfl,hq⟩) fun G w vs cj ha=>?_
 refine BP (fun a u h=>h.mono (fun i=>?_) fun _ _ _=>rfl) (fun u hu=>Og cj (aE l) hn (bX l) (fun _=>⟨sp,hs⟩) hu (by decide)) ha
 show G.R i<=if i=b/\b<w.heap.size then l.length*2 else G.R i
 split
 ·rename_i e
  obtain⟨q2,q3,_⟩:=cj b _ hs
  rw[e.1,q3];exact Nat.zero_le _
 ·exact Nat.le_refl _
theorem Of{w:World}{R:Nat->Nat}{b off sz:Nat}{v:Value}(hv:VR w R (.arr b off 0 0) v):VR w R (.sl false sz 0 []) v:=by
 rcases VR.cc hv with e|⟨_,_,e⟩
 ·rw[e];exact .sle sz _ _
 ·rw[e];exact .slnil false sz
theorem DM{b off:Nat}{r:Int}{s:ab}{Q:List AV->ab->Prop}(h:aQ []=some r)(hq:Q [.int .i64 r] s):
 FN prog 249 [.arr b off 0 0,.fn 175 [] []] s Q:=
 FN.args (FE.app (ez h) hq) fun G w vs _ ha=>⟨ha.1,fun j a v hj hv=>by
  match j,hj with
  |0,hj=>cases hj;exact Of (ha.2 0 _ v rfl hv)
  |1,hj=>cases hj;exact ha.2 1 _ v rfl hv⟩
theorem Fv{s:ab}{b:Nat}{o:SO}(h:s b=some o):s.set b o=s:=by
 funext c
 unfold ab.set
 split
 ·rename_i e;subst e;rw[h]
 ·rfl
def zR(x:an):Bool:=(decide (x.bA<0))||(decide (x.To<=x.bA))
theorem Xe(x:an)(s:ab):FE prog 175 [.agg [.int .i64 x.bA,.int .i64 x.To]] s [.bool (zR x)] s:=oe rfl
theorem Kj{b cap i:Nat}{l:List an}{sp:List AV}{s:ab}{Q:List AV->ab->Prop}(hs:s b=some (.cells (flat l++sp)))(hl:(flat l++sp).length=cap*2)(hn:l.length<=cap)(adw:(l.length:Int)<=9223372036854775807)
 (DL:aQ l=some (i:Int))(hi:i<l.length)(hk:(l.take (i+1)).filter (fun x=>!zR x)=l.take i)
 (hq:∀sp',(flat (l.filter (fun x=>!zR x))++sp').length=cap*2->Q [.arr b 0 (l.filter (fun x=>!zR x)).length cap] (s.set b (.cells (flat (l.filter (fun x=>!zR x))++sp')))):
 FN prog 211 [.arr b 0 l.length cap,.fn 175 [] []] s Q:=by
 refine FO EU rfl rfl ?_
 rw[x6]
 simp -implicitDefEqProofs only[go_sem,seval]
 refine tZ hs hn DL ?_
 simp -implicitDefEqProofs only[go_sem,seval]
 have e1:(((i:Int))==-1)=false:=by rw[beq_eq_false_iff_ne];omega
 rw[e1]
 refine⟨fun h=>(by cases h),fun _=>?_⟩
 have w1:ao ((i:Int)+1)=((i+1:Nat):Int):=by rw[au (by omega) (by omega)];omega
 rw[w1]
 refine⟨fun τ=>∃(a j:Nat)(l':List an),τ=⟨[(0,.arr b 0 l.length cap),(1,.fn 175 [] []),(5,.int .i64 (a:Int)),(6,.int .i64 (j:Int))],[],s.set b (.cells (flat l'++sp))⟩/\l'.length=l.length/\a<j/\j<=l.length/\l'.take a=(l.take j).filter (fun x=>!zR x)/\l'.drop j=l.drop j/\a=((l.take j).filter (fun x=>!zR x)).length,
  fun τ=>match look τ.e 6 with|.int _ j=>l.length -j.toNat|_=>0,?_,?_⟩
 ·refine⟨i,i+1,l,?_,rfl,by omega,by omega,hk.symm,rfl,?_⟩
  ·rw[Fv hs];rfl
  ·rw[hk];simp;omega
 ·rintro τ ⟨a,j,l',rfl,h1,h2,h3,h4,h5,h6⟩
  have hlen:(flat l'++sp).length=cap*2:=by rw[<-hl,List.length_append,List.length_append,aE,aE,h1]
  simp -implicitDefEqProofs only[go_sem,seval,gY]
  refine⟨fun hj=>⟨⟨by omega,of_decide_eq_true hj⟩,?_⟩,fun hj=>⟨by omega,?_⟩⟩
  ·have hj:=of_decide_eq_true hj
   have hj':j<l.length:=by omega
   have hx:∃x,l.drop j=x::l.drop (j+1)/\(l.take (j+1)).filter (fun x=>!zR x)=(l.take j).filter (fun x=>!zR x)++(if zR x then[]else[x]):=by
    refine⟨l[j],List.drop_eq_getElem_cons hj',?_⟩
    rw[List.take_succ_eq_append_getElem hj',List.filter_append]
    cases hg:zR l[j]<;>simp[hg]
   obtain⟨x,hx1,hx2⟩:=hx
   have hd:decide (j*2+2<=(flat l').length+sp.length)=true:=decide_eq_true (by rw[aE,h1];show j*2+2<=l.length*2+_;omega)
   have hv:views (AB.sub (flat l'++sp) (j*2) 2)=[.int .i64 x.bA,.int .i64 x.To]:=by
    have:=nI l' sp 2 j 1 rfl (by omega)
    rw[Nat.one_mul]at this
    rw[this,h5,hx1];rfl
   rw[hd,hv]
   simp -implicitDefEqProofs only[go_sem,seval]
   refine⟨(by kernel_rfl),FE.app (Xe x _) ?_⟩
   have w2:ao ((j:Int)+1)=((j+1:Nat):Int):=by rw[au (by omega) (by omega)];omega
   have w3:ao ((a:Int)+1)=((a+1:Nat):Int):=by rw[au (by omega) (by omega)];omega
   simp -implicitDefEqProofs only[go_sem,seval,gY,w2,w3]
   have st:=p7 l' [x] sp 2 a rfl (by simp;omega)
   have d1:l'.drop (j+1)=l.drop (j+1):=by rw[<-List.drop_drop,<-List.drop_drop,h5]
   have ht:(l'.take a++[x]).length=a+1:=by simp;omega
   refine⟨fun hg=>⟨⟨by omega,by omega⟩,by rw[aE,h1];show a*2+2<=l.length*2+_;omega,⟨a+1,j+1,l'.take a++[x]++l'.drop (a+1),?_,?_,by omega,by omega,?_,?_,?_⟩,by omega⟩,
    fun hg=>⟨⟨a,j+1,l',rfl,h1,by omega,by omega,?_,d1,?_⟩,by omega⟩⟩
   ·rw[show setAt (flat l'++sp) (a*2) [AV.int .i64 x.bA,AV.int .i64 x.To]=_ from st];rfl
   ·rw[List.length_append,ht,List.length_drop];omega
   ·rw[List.take_append_of_le_length (by omega),List.take_of_length_le (by omega),hx2,h4]
    have:zR x=false:=by cases h:zR x<;>simp_all
    simp[this]
   ·rw[List.drop_append,List.drop_of_length_le (by omega),List.nil_append,ht,List.drop_drop,show a+1+(j+1 -(a+1))=j+1 by omega,d1]
   ·have:zR x=false:=by cases h:zR x<;>simp_all
    rw[hx2,List.length_append,<-h6,this];rfl
   ·have:zR x=true:=by cases h:zR x<;>simp_all
    rw[h4,hx2,this];simp
   ·have:zR x=true:=by cases h:zR x<;>simp_all
    rw[hx2,this,h6];simp
  ·have hj:=of_decide_eq_false hj
   obtain rfl:j=l.length:=by omega
   rw[MJ (by omega)]
   have hsp:(flat l'++sp).length=cap*2:=by omega
   refine Kg rfl gY (by
    rw[hsp]
    show 0+a*2+(l.length -a)*2<=cap*2
    omega) ?_
   have hz:(List.replicate (l.length -a) [AV.int .i64 0,AV.int .i64 0]).flatten=flat (List.replicate (l.length -a) (an.mk 0 0)):=by rw[mF];rfl
   have st:=p7 l' (List.replicate (l.length -a) (an.mk 0 0)) sp 2 a rfl (by simp;omega)
   have e3:l'.drop (a+(List.replicate (l.length -a) (an.mk 0 0)).length)=[]:=by rw[List.drop_eq_nil_iff];simp;omega
   rw[e3,List.append_nil,h4,List.take_length,eH,List.append_assoc]at st
   rw[List.take_length]at h6
   rw[Nat.zero_add,hz,st]
   generalize hF:l.filter (fun x=>!zR x)=F at hq h6
   have hq':=hq (flat (List.replicate (l.length -a) (an.mk 0 0))++sp) (by
    rw[List.length_append,List.length_append,aE,aE,List.length_replicate,<-h6]
    rw[List.length_append,aE,h1]at hsp
    have q1:aR.w an=2:=rfl
    rw[q1]at hsp⊢
    omega)
   rw[<-h6]at hq'
   generalize flat (List.replicate (l.length -a) (an.mk 0 0))++sp=sp' at hq'
   simp -implicitDefEqProofs only[go_sem,seval]
   exact⟨by omega,hq'⟩
theorem zz{b off n cap:Nat}{s:ab}{Q:List AV->ab->Prop}(hx:∀Q:List AV->ab->Prop,Q [.int .i64 (-1)] s->FN prog 249 [.arr b off n cap,.fn 175 [] []] s Q)(hq:Q [.arr b off n cap] s):
 FN prog 211 [.arr b off n cap,.fn 175 [] []] s Q:=by
 refine FO EU rfl rfl ?_
 rw[x6]
 simp -implicitDefEqProofs only[go_sem,seval]
 refine hx _ ?_
 simp -implicitDefEqProofs only[go_sem,seval]
 exact⟨fun _=>hq,fun h=>(by cases h)⟩
theorem EP(l:List an)(hb:l.length<4611686018427387904):
 aQ l=some (match l.findIdx? zR with|some i=>(i:Int)|none=>-1):=by
 unfold aQ
 have step:∀k(hk:k<l.length),jr (ix l (k:Int))=some (zR l[k]):=fun k hk=>by
  have e:ix l (k:Int)=l[k]:=T4 (i:=(k:Int)) hk
  rw[e];rfl
 cases h:l.findIdx? zR with
 |none=>
  rw[List.findIdx?_eq_none_iff]at h
  refine aN (z:=.inl ()) (gm (z:=.inl ()) (mP l.length hb (fun k hk=>?_) ?_) rfl) rfl
  ·refine al (decide_eq_true (by omega)) (af ⟨by omega,by omega⟩ (ah (step k hk) ?_))
   rw[h _ (List.getElem_mem hk)];rfl
  ·exact ae (by simp) rfl
 |some i=>
  rw[List.findIdx?_eq_some_iff_getElem]at h
  obtain⟨hi,h1,h2⟩:=h
  refine aN (z:=.inr (i:Int)) (gm (z:=.inr (i:Int)) (mP i (by omega) (fun k hk=>?_) ?_) rfl) rfl
  ·refine al (decide_eq_true (by omega)) (af ⟨by omega,by omega⟩ (ah (step k (by omega)) ?_))
   have:=h2 k hk
   rw[Bool.not_eq_true]at this
   rw[this];rfl
  ·refine al (decide_eq_true (by omega)) (af ⟨by omega,by omega⟩ (ah (step i hi) ?_))
   rw[h1];rfl
def full(l:List an):List an:=l.filter fun x=>!zR x
theorem Kl{l:List an}{s:ab}{Q:List AV->ab->Prop}(hb:l.length*16<=room){b cap:Nat}{sp:List AV}(hs:s b=some (.cells (flat l++sp)))(hn:l.length<=cap)(hl:(flat l++sp).length=cap*2)
 (hq:∀sp',(flat (full l)++sp').length=cap*2->Q [.arr b 0 (full l).length cap] (s.set b (.cells (flat (full l)++sp')))):FN prog 211 [.arr b 0 l.length cap,.fn 175 [] []] s Q:=by
 have hb':l.length<4611686018427387904:=by unfold room at hb;omega
 have DL:=EP l hb'
 cases h:l.findIdx? zR with
 |none=>
  rw[h]at DL
  have cE:full l=l:=by
   rw[List.findIdx?_eq_none_iff]at h
   exact List.filter_eq_self.2 fun x hx=>by simp[h x hx]
  rw[cE]at hq
  refine zz (fun Q' hq'=>tZ hs hn DL hq') ?_
  have:=hq sp hl
  rwa[Fv hs]at this
 |some i=>
  rw[h]at DL
  rw[List.findIdx?_eq_some_iff_getElem]at h
  obtain⟨hi,h1,h2⟩:=h
  refine Kj hs hl hn (by omega) DL hi ?_ hq
  rw[List.take_succ_eq_append_getElem hi,List.filter_append]
  have e1:(l.take i).filter (fun x=>!zR x)=l.take i:=by
   refine List.filter_eq_self.2 fun x hx=>?_
   obtain⟨k,hk,rfl⟩:=List.getElem_of_mem hx
   rw[List.length_take]at hk
   rw[List.getElem_take]
   have:=h2 k (by omega)
   simpa using this
  rw[e1]
  simp[h1]
theorem Kk{b off:Nat}{s:ab}{Q:List AV->ab->Prop}(hq:Q [.arr b off 0 0] s):FN prog 211 [.arr b off 0 0,.fn 175 [] []] s Q:=zz (fun Q' hq'=>DM (r:=-1) (EP [] (by decide)) hq') hq
def Form(l:List an):Prop:=(∀x∈l,0<=x.bA/\x.bA<x.To)/\l.Pairwise fun x y=>x.To<y.bA
theorem Form.tail{x:an}{l:List an}(h:Form (x::l)):Form l:=⟨fun y hy=>h.1 y (List.mem_cons_of_mem _ hy),(List.pairwise_cons.1 h.2).2⟩
def eQ(gap:Int)(out:List an)(x:an):List an:=match out.getLast? with
 |none=>[x]
 |some y=>if ao (x.bA -y.To)<=gap then out.dropLast++[⟨y.bA,max y.To x.To⟩]else out++[x]
def L5(gap:Int)(l:List an):List an:=l.foldl (eQ gap) []
def leS(x y:an):Prop:=x.bA<y.bA\/(x.bA=y.bA/\x.To<=y.To)
def Asc(l:List an):Prop:=l.Pairwise leS
theorem D4(gap:Int)(O:List an)(y x:an):eQ gap (O++[y]) x=if ao (x.bA -y.To)<=gap then O++[⟨y.bA,max y.To x.To⟩]else O++[y]++[x]:=by
 unfold eQ
 rw[List.getLast?_append]
 simp
theorem Form.snoc{O:List an}{y:an}(h:Form O)(hy:0<=y.bA/\y.bA<y.To)(hl:∀a∈O,a.To<y.bA):Form (O++[y]):=
 ⟨fun x hx=>by
   rcases List.mem_append.1 hx with hx|hx
   ·exact h.1 x hx
   ·rw[List.mem_singleton.1 hx];exact hy,List.pairwise_append.2 ⟨h.2,List.pairwise_singleton _ _,fun a ha b hb=>by rw[List.mem_singleton.1 hb];exact hl a ha⟩⟩
end Go.AB
end
