/- A part of the proof: Pc, Is, It, Ar, Pp, Pw, Pn, Sort1, Spl, Ovl, Lt, Lu. -/
import Derived.Test.YtkeagffgdajggaaGreatNu13
import Derived.Test.YtkeagffgdajggaaGreatNu14
import Derived.Test.YtkeagffgdajggaaGreatNu11
import Derived.Shelf.SlSortCmp.WholeK
import Derived.Test.YtkeagffgdajggaaGreatProg
import Derived.Ground.SlsfProg
import Derived.Laws.Externs
import Derived.Test.YtkeagffgdajggaaGreatNu10
set_option linter.unusedSimpArgs false
set_option linter.unusedVariables false
section
set_option maxRecDepth 4000
namespace Go.AB
open Go
open Go.Proofs.Tryz (prog)
attribute[-go_sem] cE da bM cD
@[go_sem]theorem XE(l:List aa):pad [.int .i64 0,.int .i64 0,.str [],.sl false 4 0 []] (views (AB.sub (flat l) 0 4))=[.int .i64 ((ix l 0).Kind),.int .i64 ((ix l 0).N),.str ((ix l 0).S).b,.sl false 4 ((ix l 0).L).length (flat ((ix l 0).L))]:=JB l 0
def eY(x_0:aw):Option (Bool):=some (!(x_0.b==x_0.b))
def pD:IC:=
 (af [c6 2 (.bool false)] [0]
 (af [mv 3 0,mv 4 0,bt 5 .neq 3 4,mv 2 5] [2]
 .ret))
theorem zd:aE prog 264 6 [⟨2,true,none⟩] pD=true:=by kernel_rfl
theorem yP{x_0}{s:ab}{Q:List AV->ab->Prop}:ok (eY x_0) (fun r=>Q [.bool r] s)->FN prog 264 [.str x_0.b] s Q:=by
 intro h
 refine FO zd rfl rfl ?_
 revert h
 rw[pD,eY]
 repeat'(first
  |simp -implicitDefEqProofs only[go_sem,seval])
theorem pr{x_0}{s:ab}{r:Bool}(h:eY x_0=some r):FE prog 264 [.str x_0.b] s [.bool r] s:=yP ⟨r,h,rfl,rfl⟩
def fV(x_0:aw)(y_1:aw):Option (Int):=
 aW (eY x_0) fun r1=>
 aW (eY y_1) fun r2=>
 if r1 then
  none
 else
  if r2 then
   none
  else
   if Op.bytesLess x_0.b y_1.b then
    none
   else
    if !((Op.bytesLess x_0.b y_1.b)||(x_0.b==y_1.b))then
     some 1
    else
     none
def nv:IC:=
 (af [mi 4 0] [0,1]
 (af [mv 7 0,c1 8 264 7,mv 5 8] [0,1,5]
 (af [mv 9 1,c1 10 264 9,mv 6 10] [0,1,5,6]
 (.seq (af [mv 11 5] [0,1,6,11]
 (.cond (.t 11) .dead
 .skip))
 (.seq (af [mv 13 6] [0,1,13]
 (.cond (.t 13) .dead
 .skip))
 (.seq (af [mv 14 0,mv 15 1,bt 16 .lss 14 15] [0,1,16]
 (.cond (.t 16) .dead
 .skip))
 (.seq (af [mv 17 0,mv 18 1,bt 19 .gtr 17 18] [19]
 (.cond (.t 19) (af [mi 4 1] [4]
 .ret)
 .dead))
 .dead)))))))
theorem vC:aE prog 225 20 [⟨4,true,none⟩] nv=true:=by kernel_rfl
theorem uM{x_0 y_1}{s:ab}{Q:List AV->ab->Prop}:ok (fV x_0 y_1) (fun r=>Q [.int .i64 r] s)->FN prog 225 [.str x_0.b,.str y_1.b] s Q:=by
 intro h
 refine FO vC rfl rfl ?_
 revert h
 rw[nv,fV]
 repeat'(first
  |(with_reducible first|refine ak (fun _(h:eY x_0=some _)=>pr h) (fun r1=>?_)|refine ak (fun _(h:eY y_1=some _)=>pr h) (fun r2=>?_))
  |simp -implicitDefEqProofs only[go_sem,seval])
theorem uL{x_0 y_1}{s:ab}{r:Int}(h:fV x_0 y_1=some r):FE prog 225 [.str x_0.b,.str y_1.b] s [.int .i64 r] s:=uM ⟨r,h,rfl,rfl⟩
def mY(a_0:(List aa))(b_1:(List aa)):Option (Int):=
 aG (0<=(0:Int)/\(0:Int)<a_0.length)<|
 aG (0<=(0:Int)/\(0:Int)<b_1.length)<|
 aW (fV ((ix a_0 0).S) ((ix b_1 0).S)) fun r1=>
 some r1
def rI:IC:=
 (af [mi 4 0] [0,1]
 (.seq (.bN (some 10) [mv 5 0,i1 6 (.indexAddr qT (.t 5) (.c (.int .i64 0))),fa 7 2 6,ld 8 1 7,mv 9 1,i1 10 (.indexAddr qT (.t 9) (.c (.int .i64 0))),fa 11 2 10,ld 12 1 11,c2 13 225 8 12,mv 4 13] [4])
 .ret))
theorem B5:aE prog 224 14 [⟨4,true,none⟩] rI=true:=by kernel_rfl
theorem Cw{a_0 b_1}{s:ab}{Q:List AV->ab->Prop}:ok (mY a_0 b_1) (fun r=>Q [.int .i64 r] s)->FN prog 224 [.sl false 4 a_0.length (flat a_0),.sl false 4 b_1.length (flat b_1)] s Q:=by
 intro h
 refine FO B5 rfl rfl ?_
 revert h
 rw[rI,mY]
 repeat'(first
  |(with_reducible first|exact cW|refine bK ?_ ?_|refine b6 (fun _(h:fV ((ix a_0 0).S) ((ix b_1 0).S)=some _)=>uL h) (fun _=>rfl) (fun r1=>?_))
  |simp -implicitDefEqProofs only[go_sem,seval])
theorem Cv{a_0 b_1}{s:ab}{r:Int}(h:mY a_0 b_1=some r):FE prog 224 [.sl false 4 a_0.length (flat a_0),.sl false 4 b_1.length (flat b_1)] s [.int .i64 r] s:=Cw ⟨r,h,rfl,rfl⟩
end Go.AB
end
section
set_option maxRecDepth 4000
namespace Go.AB
open Go
open Go.Proofs.Tryz (prog)
attribute[-go_sem] Nat.add_zero nr bV cE da bM cD
def Gc:IC:=
 (af [mv 10 1,bn 11 .add 10 1,mv 8 11] [0,1,2,3,8]
 (.block 0 (.loop [(0,false),(1,false),(2,false),(3,false),(8,false)] (.seq (af [mv 12 8,mv 13 2,bt 14 .lss 12 13] [0,1,2,3,8,14]
 (.cond (.t 14) .skip
 (.exit 0)))
 (.seq (.block 1 (af [mv 17 8,mv 9 17] [0,1,2,3,8,9]
 (.block 2 (.loop [(0,false),(1,false),(2,false),(3,false),(8,false),(9,false)] (.seq (.seq (.bN (some 17) [mv 18 9,mv 19 1,bt 20 .gtr 18 19,mv 21 20,dh 22 3 21 true,dh 23 0 21 true,dh 24 9 21 true,dq 25 21 true (.indexAddr [.sl false 4 0 []] (.t 23) (.t 24)),dq 26 21 true (.bf [.sl false 4 0 []] false (.t 25)),dh 27 0 21 true,dh 28 9 21 true,kS 29 21 true .sub 28 1,dq 30 21 true (.indexAddr [.sl false 4 0 []] (.t 27) (.t 29)),dq 31 21 true (.bf [.sl false 4 0 []] false (.t 30)),dq 32 21 true (.cu (.t 22) [(.t 26),(.t 31)]),kS 33 21 true .lss 32 0,pf 34 21 33] [0,1,2,3,8,9,34])
 (.cond (.t 34) .skip
 (.exit 2)))
 (.seq (.block 3 (.HM [] [(0,0,mv 37 0),(0,1,mv 38 9),(1,2,mv 39 0),(1,3,mv 40 9),(1,4,bn 41 .sub 40 1),(0,5,mv 42 0),(0,6,mv 43 9),(0,7,bn 44 .sub 43 1),(0,8,ia 45 [.sl false 4 0 []] 42 44),(0,9,ld 46 1 45),(0,10,mv 47 0),(0,11,mv 48 9),(0,12,ia 49 [.sl false 4 0 []] 47 48),(0,13,ld 50 1 49),(0,14,ia 51 [.sl false 4 0 []] 37 38),(2,15,st 1 51 46),(0,16,ia 52 [.sl false 4 0 []] 39 41),(2,17,st 1 52 50)] [0,1,2,3,8,9]))
 (.bN none [mv 35 9,bn 36 .sub 35 1,mv 9 36] [0,1,2,3,8,9])))))))
 (.bN none [mv 15 8,bn 16 .add 15 1,mv 8 16] [0,1,2,3,8]))))))
theorem Rm:aE prog 297 53 [] Gc=true:=by kernel_rfl
abbrev VL:=List aa
def SU(a:Int)(q:List VL×Int):Option ((List VL×Int)⊕List VL):=
 aG (0<=q.2/\q.2<q.1.length/\q.2<2^62)<|bif decide (q.2>a)then
  aG (1<=q.2)<|aW (mY (ix q.1 q.2) (ix q.1 (q.2 -1))) fun c=>
  bif decide (c<0)then some (.inl ((q.1.set q.2.toNat (ix q.1 (q.2 -1))).set (q.2 -1).toNat (ix q.1 q.2),q.2 -1))else some (.inr q.1)
 else some (.inr q.1)
def insOuter(a b:Int)(q:List VL×Int):Option ((List VL×Int)⊕List VL):=bif decide (q.2<b)then aG (0<=q.2/\q.2+1<2^62)<|aW (iter (SU a) (q.1,q.2)) fun l=>some (.inl (l,q.2+1))else some (.inr q.1)
def Ub(l:List VL)(a b:Int):Option (List VL):=iter (insOuter a b) (l,a+1)
theorem JZ(l:List VL)(sp:List AV){j:Int}(h0:0<=j)(h:j<l.length):j.toNat*1+1<=(flat l++sp).length/\views (AB.sub (flat l++sp) (j.toNat*1) 1)=[.sl false 4 (ix l j).length (flat (ix l j))]:=by
 have hj:j.toNat<l.length:=by omega
 have hs:=gA l sp 1 j.toNat 1 rfl (by omega)
 refine⟨?_,?_⟩
 ·rw[List.length_append,al]
  have:aK.w VL=1:=rfl
  rw[this];omega
 ·rw[Nat.one_mul]at hs
  rw[hs,List.drop_eq_getElem_cons hj]
  have:ix l j=l[j.toNat]:=by unfold ix;simp[hj]
  rw[this]
  rfl
theorem aiQ(l:List VL)(sp:List AV)(x:VL){j:Int}(h0:0<=j)(h:j<l.length):setAt (flat l++sp) (j.toNat*1) [.sl false 4 x.length (flat x)]=flat (l.set j.toNat x)++sp:=by
 have hj:j.toNat<l.length:=by omega
 have hs:=gz l [x] sp 1 j.toNat rfl (by simp;omega)
 have e:flat [x]=[.sl false 4 x.length (flat x)]:=rfl
 rw[e]at hs
 rw[hs,List.set_eq_take_append_cons_drop,if_pos hj]
 simp
theorem ada{s:ab}{rb cap:Nat}{sp:List AV}{l:List VL}{a b:Int}{Q:List AV->ab->Prop}(hs:s rb=none)(ha:0<=a/\a+1<2^62)(hr:l.length<=room)
 (hm:ok (Ub l a b) fun l'=>Q [] (s.set rb (.cells (flat l'++sp)))):FN prog 297 [.arr rb 0 l.length cap,.int .i64 a,.int .i64 b,.fn 224 [] []] (s.set rb (.cells (flat l++sp))) Q:=by
 unfold Ub at hm
 refine FO Rm rfl rfl ?_
 rw[Gc]
 simp -implicitDefEqProofs only[go_sem,seval]
 rw[aI (by omega) (by omega)]
 refine bF (fun(q:List VL×Int)=>(⟨[(0,.arr rb 0 q.1.length cap),(1,.int .i64 a),(2,.int .i64 b),(3,.fn 224 [] []),(8,.int .i64 q.2)],[],s.set rb (.cells (flat q.1++sp))⟩:St)) rfl ?_ hm
 intro J q hb
 unfold insOuter at hb
 cases hlt:decide (q.2<b)with
 |false=>
  rw[hlt,cond_false,aA]at hb
  simp -implicitDefEqProofs only[go_sem,seval,hlt,Bool.true_eq_false,Bool.false_eq_true,false_implies,true_implies,true_and,and_true]
  exact hb
 |true=>
  rw[hlt,cond_true,dB,dF]at hb
  obtain⟨hb0,hb⟩:=hb
  simp -implicitDefEqProofs only[go_sem,seval,hlt,Bool.true_eq_false,Bool.false_eq_true,false_implies,true_implies,true_and,and_true]
  refine bF (fun(q':List VL×Int)=>(⟨[(0,.arr rb 0 q'.1.length cap),(1,.int .i64 a),(2,.int .i64 b),(3,.fn 224 [] []),(8,.int .i64 q.2),(9,.int .i64 q'.2)],[],s.set rb (.cells (flat q'.1++sp))⟩:St)) rfl ?_ hb
  intro J2 q' hb2
  unfold SU at hb2
  rw[dB]at hb2
  obtain⟨hb3,hb2⟩:=hb2
  have hw:bj (q'.2 -1)=q'.2 -1:=aI (by omega) (by omega)
  obtain⟨r1,r2⟩:=JZ q'.1 sp (j:=q'.2) (by omega) hb3.2.1
  cases hgt:decide (q'.2>a)with
  |false=>
   rw[hgt,cond_false,aA]at hb2
   obtain⟨r3,r4⟩:=JZ q'.1 sp (j:=((q'.2 -1).toNat:Int)) (by omega) (by omega)
   rw[Int.toNat_natCast]at r3 r4
   generalize hcs:flat q'.1++sp=cs
   rw[hcs]at r1 r2 r3 r4
   have d1:=decide_eq_true r1
   have d3:=decide_eq_true r3
   simp -implicitDefEqProofs only[go_sem,seval,hgt,hw,r2,r4,d1,d3,Bool.true_eq_false,Bool.false_eq_true,false_implies,true_implies,true_and,and_true]
   refine⟨[.int .i64 0],rfl,?_⟩
   simp -implicitDefEqProofs only[go_sem,seval,Bool.true_eq_false,Bool.false_eq_true,false_implies,true_implies,true_and,and_true]
   subst hcs
   rw[aI (by omega) (by omega)]
   simp only[aA]at hb2
   exact hb2
  |true=>
   rw[hgt,cond_true,dB,dF]at hb2
   obtain⟨hb4,c,hc,hb2⟩:=hb2
   obtain⟨r3,r4⟩:=JZ q'.1 sp (j:=q'.2 -1) (by omega) (by omega)
   generalize hcs:flat q'.1++sp=cs
   rw[hcs]at r1 r2 r3 r4
   have d1:=decide_eq_true r1
   have d3:=decide_eq_true r3
   simp -implicitDefEqProofs only[go_sem,seval,hgt,hw,r2,r4,d1,d3,Bool.true_eq_false,Bool.false_eq_true,false_implies,true_implies,true_and,and_true]
   refine⟨⟨hb3.1,hb3.2.1⟩,r1,⟨by omega,by omega⟩,r3,[.int .i64 c],rfl,⟨224,[.sl false 4 (ix q'.1 q'.2).length (flat (ix q'.1 q'.2)),.sl false 4 (ix q'.1 (q'.2 -1)).length (flat (ix q'.1 (q'.2 -1)))],⟨[],[],_,rfl,rfl,rfl⟩,by kernel_rfl,Cv hc⟩,?_⟩
   ·simp -implicitDefEqProofs only[go_sem,seval,hw,r2,r4,d1,d3,Bool.true_eq_false,Bool.false_eq_true,false_implies,true_implies,true_and,and_true]
    refine⟨fun hx=>?_,fun hx=>?_⟩
    ·rw[hx,cond_true,aA]at hb2
     subst hcs
     have hl:(q'.1.set q'.2.toNat (ix q'.1 (q'.2 -1))).length=q'.1.length:=List.length_set ..
     rw[aiQ q'.1 sp (ix q'.1 (q'.2 -1)) hb3.1 hb3.2.1,aiQ _ sp (ix q'.1 q'.2) (j:=q'.2 -1) (by omega) (by rw[hl];omega)]
     obtain⟨r5,_⟩:=JZ (q'.1.set q'.2.toNat (ix q'.1 (q'.2 -1))) sp (j:=q'.2 -1) (by omega) (by rw[hl];omega)
     have hl2:((q'.1.set q'.2.toNat (ix q'.1 (q'.2 -1))).set (q'.2 -1).toNat (ix q'.1 q'.2)).length=q'.1.length:=by rw[List.length_set,List.length_set]
     refine⟨⟨by omega,by omega⟩,⟨hb3.1,hb3.2.1⟩,⟨hb3.1,hb3.2.1⟩,r1,⟨by omega,by omega⟩,r5,?_⟩
     have hb5:=hb2
     simp only[gU,hl2]at hb5
     exact hb5
    ·rw[hx,cond_false,aA]at hb2
     subst hcs
     rw[aI (by omega) (by omega)]
     simp only[mU,gU,aA]at hb2
     exact hb2
end Go.AB
end
section
namespace Go.AB
open Go
theorem kJ{S O:Type}{body:S->Option (S⊕O)}{s0:S}{o:O}(n:Nat)(st:Nat->S)(h0:st 0=s0)(hn:n<18446744073709551615)(hs:∀k,k<n->body (st k)=some (.inl (st (k+1))))(he:body (st n)=some (.inr o)):iter body s0=some o:=by
 have key:∀j,j<=n->∀m,cX body (m+1+j) (st (n -j))=some o:=by
  intro j
  induction j with
  |zero=>
   intro _ m
   show cX body (m+1) (st n)=some o
   unfold cX
   rw[he]
  |succ j ih=>
   intro hj m
   show cX body (m+1+j+1) (st (n -(j+1)))=some o
   unfold cX
   rw[hs _ (by omega),show n -(j+1)+1=n -j by omega]
   exact ih (by omega) m
 have:=key n (Nat.le_refl n) (18446744073709551616 -1 -n)
 rw[Nat.sub_self,h0,show 18446744073709551616 -1 -n+1+n=18446744073709551616 by omega]at this
 exact this
theorem jd{A O:Type}{body:A×Int->Option ((A×Int)⊕O)}{a0:A}{o:O}(n:Nat)(acc:Nat->A)(h0:acc 0=a0)(hn:n<4611686018427387904)(hs:∀k,k<n->body (acc k,(k:Int))=some (.inl (acc (k+1),bj ((k:Int)+1))))(he:body (acc n,(n:Int))=some (.inr o)):iter body (a0,0)=some o:=
 kJ n (fun k=>(acc k,(k:Int))) (by rw[h0];rfl) (by omega) (fun k hk=>by rw[hs k hk,aI (by omega) (by omega)];rfl) he
theorem eP{O:Type}{body:Int->Option (Int⊕O)}{o:O}(n:Nat)(hn:n<4611686018427387904)(hs:∀k,k<n->body (k:Int)=some (.inl (bj ((k:Int)+1))))(he:body (n:Int)=some (.inr o)):iter body 0=some o:=
 kJ n (fun k=>(k:Int)) rfl (by omega) (fun k hk=>by rw[hs k hk,aI (by omega) (by omega)];rfl) he
theorem jT{α β:Type}{o:Option α}{a:α}{K:α->Option β}{r:Option β}(h:o=some a)(k:K a=r):jn o K=r:=by rw[h];exact k
theorem aB{α β:Type}{o:Option α}{a:α}{K:α->Option β}{r:Option β}(h:o=some a)(k:K a=r):aW o K=r:=by rw[h];exact k
theorem fN{X Y α:Type}{o:Option (X⊕Y)}{z:X⊕Y}{F:X->Option α}{G:Y->Option α}{r:Option α}(h:o=some z)(k:(match z with|.inl a=>F a|.inr b=>G b)=r):yp o F G=r:=by
 rw[h]
 cases z<;>exact k
theorem fm{X Y α:Type}{o:Option (X⊕Y)}{z:X⊕Y}{F:X->Option α}{G:Y->Option α}{r:Option α}(h:o=some z)(k:(match z with|.inl a=>F a|.inr b=>G b)=r):jG o F G=r:=by
 rw[h]
 cases z<;>exact k
theorem az{α:Type}{c:Prop}[Decidable c]{o r:Option α}(h:c)(k:o=r):aG c o=r:=by rw[dM h];exact k
theorem aU{α:Type}{c:Prop}[Decidable c]{a b r:α}(h:c)(k:a=r):(if c then a else b)=r:=by rw[if_pos h];exact k
theorem aF{α:Type}{c:Prop}[Decidable c]{a b r:α}(h:¬c)(k:b=r):(if c then a else b)=r:=by rw[if_neg h];exact k
inductive yF{S O:Type}(body:S->Option (S⊕O)):Nat->S->O->Prop
 |stop {m:Nat} {s:S} {o:O} (h:body s=some (.inr o)):yF body (m+1) s o
 |step {m:Nat} {s t:S} {o:O} (h:body s=some (.inl t)) (k:yF body m t o):yF body (m+1) s o
theorem yF.cX{S O:Type}{body:S->Option (S⊕O)}{m:Nat}{s:S}{o:O}(h:yF body m s o):∀n,m<=n->cX body n s=some o:=by
 induction h with
 |stop h=>
  intro n hn
  obtain⟨k,rfl⟩:∃k,n=k+1:=⟨n -1,by omega⟩
  unfold AB.cX;rw[h]
 |step h _ ih=>
  intro n hn
  obtain⟨k,rfl⟩:∃k,n=k+1:=⟨n -1,by omega⟩
  unfold AB.cX;rw[h]
  exact ih k (by omega)
theorem yF.iter{S O:Type}{body:S->Option (S⊕O)}{m:Nat}{s:S}{o:O}(h:yF body m s o)(hm:m<=18446744073709551616):iter body s=some o:=h.cX _ hm
end Go.AB
end
section
set_option maxRecDepth 4000
namespace Go.AB
open Go
theorem NW{α:Type}[aK α]{E:St}{d:Option Nat}{K:St->Prop}{sz by':Nat}{s:ab}{r:cU}{l:List α}{z:α}{x:List α}(hσ:E.s=gp s r l)(h:gB s r l)(hz:sz=aK.w α)(hx:0<x.length)(hr:(l.length+x.length)*by'<=room)
 (hK:∀s' r',Sub s s'->gB s' r' (l++x)->K ({E with s:=gp s' r' (l++x)}.put d (iB r' (l.length+x.length)))):
 eN sz by' (aK.cells z) E d K (iB r l.length) (some (x.length,flat x)):=by
 subst hz
 have hcz:(aK.cells z).length=aK.w α:=aK.len z
 have hvz:views (aK.cells z)=aK.cells z:=aK.vw z
 have fresh:∀(s':ab)(b' dn:Nat),s' b'=none->l.length+x.length<=dn->gB s' (some (b',dn,flat (List.replicate (dn -(l.length+x.length)) z))) (l++x):=fun s' b' dn hb hc=>by
  refine⟨hb,by omega,by simpa using hc,?_,aC _⟩
  rw[List.length_append,al,al,List.length_replicate,List.length_append,<-Nat.add_mul]
  congr 1
  omega
 cases r with
 |none=>
  obtain rfl:l=[]:=h
  show eN (aK.w α) by' (aK.cells z) E d K (.arr 0 0 0 0) _
  refine fS hcz (olds:=[]) rfl (by simpa using hx) hr fun b' dn hb' hc=>?_
  rw[List.nil_append,<-fX]
  rw[hσ]at hb'⊢
  have:=hK s (some (b',dn,flat (List.replicate (dn -(0+x.length)) z))) (Sub.refl s) (fresh s b' dn hb' hc)
  exact this
 |some y=>
  obtain⟨b,cap,sp⟩:=y
  obtain⟨h1,h2,h3,h4,h5⟩:=h
  have hs:E.s b=some (.cells (flat l++sp)):=by rw[hσ];exact bP
  show eN (aK.w α) by' (aK.cells z) E d K (.arr b 0 l.length cap) _
  by_cases hc:l.length+x.length<=cap
  ·refine nh hcz hs (by rw[h4,Nat.zero_add];exact Nat.le_refl _) hc ?_
   have hsp:x.length*aK.w α<=sp.length:=by
    rw[List.length_append,al]at h4
    have:(l.length+x.length)*aK.w α<=cap*aK.w α:=Nat.mul_le_mul_right _ hc
    rw[Nat.add_mul]at this
    simp;omega
   have st:=HQ l x sp (aK.w α) rfl hsp
   rw[Nat.zero_add,st]
   have e:E.s.set b (.cells (flat (l++x)++sp.drop (x.length*aK.w α)))=gp s (some (b,cap,sp.drop (x.length*aK.w α))) (l++x):=by
    rw[hσ]
    show(s.set b _).set b _=s.set b _
    exact set_set ..
   rw[e]
   refine hK s _ (Sub.refl s) ⟨h1,h2,by simpa using hc,?_,?_⟩
   ·rw[List.length_append,al]at h4⊢
    rw[List.length_drop,List.length_append,Nat.add_mul]
    omega
   ·unfold views at h5⊢
    rw[List.map_drop,h5]
  ·refine fS hcz (rY hs (by
    rw[Nat.zero_add,h4];exact Nat.mul_le_mul_right _ h3)) (by omega) hr fun b' dn hb' hc'=>?_
   have ho:views (AB.sub (flat l++sp) 0 (l.length*aK.w α))=flat l:=by
    have:=gA l sp (aK.w α) 0 l.length rfl (by omega)
    rw[Nat.zero_mul]at this
    rw[this,List.drop_zero,List.take_length,aC]
   rw[ho,<-fX,<-bT]
   rw[hσ]at hb'⊢
   have hb0:(s.set b (.cells (flat l++sp))) b'=none:=hb'
   exact hK (s.set b (.cells (flat l++sp))) (some (b',dn,flat (List.replicate (dn -(l.length+x.length)) z))) ((Sub.refl s).set h1) (fresh _ b' dn hb0 hc')
end Go.AB
end
section
set_option maxRecDepth 4000
namespace Go.AB
open Go
open Go.Proofs.Tryz (prog)
attribute[-go_sem] Nat.add_zero nr bV cE da bM cD
def SX:IC:=
 (af [c6 4 (.arr 0 0 0 0)] [0,1]
 (.seq (af [mv 5 1,bn 6 .lss 5 0] [0,1,6]
 (.cond (.t 6) .dead
 .skip))
 (.seq (af [mv 8 1,mv 9 0,i1 10 (.cap (.t 9)),mv 11 0,le 12 0 11,bt 13 .sub 10 12,bt 14 .sub 8 13,mv 1 14] [0,1]
 (af [mv 15 1,bn 16 .gtr 15 0] [0,1,16]
 (.cond (.t 16) (.bN none [mv 17 0,mv 18 0,i1 19 (.cap (.t 18)),PV 20 4 17 19,mv 21 1,i1 22 (.lz 4 56 qT (.t 20) (.t 21)),mv 23 0,le 24 0 23,PV 25 4 22 24,mv 0 25] [0])
 .skip)))
 (af [mv 26 0,mv 4 26] [4]
 .ret))))
theorem Zx:aE prog 265 27 [⟨4,true,none⟩] SX=true:=by kernel_rfl
def KF:IC:=
 (af [c6 2 (.arr 0 0 0 0)] [0]
 (af [mi 3 0] [0,3]
 (.seq (af [mv 9 0,le 10 0 9,mi 11 0] [0,3,9,10,11]
 (.block 0 (.loop [(0,false),(3,false),(9,false),(10,false),(11,false)] (af [bt 12 .lss 11 10] [0,3,9,10,11,12]
 (.seq (.cond (.t 12) .skip
 (.exit 0))
 (.seq (.block 1 (af [ia 13 [.sl false 4 0 []] 9 11,ld 14 1 13,mv 5 14] [0,3,5,9,10,11]
 (af [mv 15 3,mv 16 5,le 17 0 16,bt 18 .add 15 17,mv 3 18] [0,3,9,10,11]
 (af [mv 19 3,bn 20 .lss 19 0] [0,3,9,10,11,20]
 (.cond (.t 20) .dead
 .skip)))))
 (.bN none [bn 22 .add 11 1,mv 11 22] [0,3,9,10,11])))))))
 (af [mv 23 3,i1 24 (.call 265 [(.c (.arr 0 0 0 0)),(.t 23)]),mv 6 24] [0,6]
 (.seq (af [mv 25 0,le 26 0 25,mi 27 0] [6,25,26,27]
 (.block 2 (.loop [(6,false),(25,false),(26,false),(27,false)] (af [bt 28 .lss 27 26] [6,25,26,27,28]
 (.seq (.cond (.t 28) .skip
 (.exit 2))
 (.seq (.block 3 (af [ia 29 [.sl false 4 0 []] 25 27,ld 30 1 29,mv 8 30] [6,8,25,26,27]
 (.bN none [mv 31 6,mv 32 8,i1 33 (.eV 4 56 qT (.t 31) (.t 32)),mv 6 33] [6,25,26,27])))
 (.bN none [bn 34 .add 27 1,mv 27 34] [6,25,26,27])))))))
 (af [mv 35 6,mv 2 35] [2]
 .ret))))))
theorem Uf:aE prog 226 36 [⟨2,true,none⟩] KF=true:=by kernel_rfl
def SY:IC:=
 (af [mi 6 20] [0,1,2,6]
 (af [mv 10 6,mi 7 0,mv 8 10] [0,1,2,6,7,8]
 (.seq (.block 0 (.loop [(0,false),(1,false),(2,false),(6,false),(7,false),(8,false)] (.seq (af [mv 11 8,mv 12 1,bt 13 .leq 11 12] [0,1,2,6,7,8,13]
 (.cond (.t 13) .skip
 (.exit 0)))
 (.block 1 (af [mv 14 0,mv 15 7,mv 16 8,mv 17 2,UG 18 297 14 15 16 17] [0,1,2,6,8]
 (af [mv 19 8,mv 7 19] [0,1,2,6,7,8]
 (.bN none [mv 20 8,mv 21 6,bt 22 .add 20 21,mv 8 22] [0,1,2,6,7,8])))))))
 (af [mv 23 0,mv 24 7,mv 25 1,mv 26 2,UG 27 297 23 24 25 26] [0,1,2,6]
 (.block 2 (.loop [(0,false),(1,false),(2,false),(6,false)] (.seq (af [mv 28 6,mv 29 1,bt 30 .lss 28 29] [0,1,2,6,30]
 (.cond (.t 30) .skip
 (.exit 2)))
 (.block 3 (af [mv 31 6,i1 32 (.bin .mul (.c (.int .i64 2)) (.t 31)),mi 7 0,mv 8 32] [0,1,2,6,7,8]
 (.seq (.block 4 (.loop [(0,false),(1,false),(2,false),(6,false),(7,false),(8,false)] (.seq (af [mv 33 8,mv 34 1,bt 35 .leq 33 34] [0,1,2,6,7,8,35]
 (.cond (.t 35) .skip
 (.exit 4)))
 (.block 5 (af [mv 36 0,mv 37 7,mv 38 7,mv 39 6,bt 40 .add 38 39,mv 41 8,mv 42 2,i1 43 (.call 298 [(.t 36),(.t 37),(.t 40),(.t 41),(.t 42)])] [0,1,2,6,8]
 (af [mv 44 8,mv 7 44] [0,1,2,6,7,8]
 (.bN none [mv 45 8,mv 46 6,i1 47 (.bin .mul (.c (.int .i64 2)) (.t 46)),bt 48 .add 45 47,mv 8 48] [0,1,2,6,7,8])))))))
 (.seq (af [mv 49 7,mv 50 6,bt 51 .add 49 50,mv 9 51] [0,1,2,6,7,9]
 (af [mv 52 9,mv 53 1,bt 54 .lss 52 53] [0,1,2,6,7,9,54]
 (.cond (.t 54) (.bN none [mv 55 0,mv 56 7,mv 57 9,mv 58 1,mv 59 2,i1 60 (.call 298 [(.t 55),(.t 56),(.t 57),(.t 58),(.t 59)])] [0,1,2,6])
 .skip)))
 (.bN none [mv 61 6,bn 62 .mul 61 2,mv 6 62] [0,1,2,6]))))))))))))
theorem Zy:aE prog 263 63 [] SY=true:=by kernel_rfl
def KG:IC:=
 (.bN none [mv 4 0,mv 5 0,le 6 0 5,mv 7 1,c3 8 263 4 6 7] [])
theorem Ug:aE prog 223 9 [] KG=true:=by kernel_rfl
theorem Zh{s:ab}{k:Nat}{Q:List AV->ab->Prop}(hn:k*56<=room)(hq:∀s' r',Sub s s'->gB s' r' ([]:List aa)->Q [iB r' 0] (gp s' r' ([]:List aa))):FN prog 265 [.arr 0 0 0 0,.int .i64 k] s Q:=by
 have hr:room=140737488355328:=rfl
 refine FO Zx rfl rfl ?_
 rw[SX]
 have h0:decide ((k:Int)<0)=false:=by simp
 have e00:((0:Nat):Int)=0:=rfl
 have w1:bj 0=0:=by decide
 have w2:bj (k:Int)=k:=aI (by omega) (by omega)
 simp -implicitDefEqProofs only[go_sem,Nat.reduceBEq,Nat.reduceAdd,Nat.reduceMul,Nat.reduceLeDiff,Nat.reduceEqDiff,Nat.reduceBNe,UInt8.reduceToNat,UInt32.reduceToNat,h0,e00,w1,w2,Bool.true_eq_false,Bool.false_eq_true,false_implies,true_implies,true_and,and_true]
 refine⟨fun hk=>?_,fun hk=>?_⟩
 ·have hk:0<k:=by simpa using hk
  refine⟨Int.le_refl _,?_⟩
  refine zX (n:=0) (cap:=0) (m:=k) (b:=0) (off:=0) (by':=56) (olds:=[]) rfl rfl rfl (by omega) (by omega) fun b' dn hb' hc=>?_
  rw[List.nil_append]
  simp -implicitDefEqProofs only[go_sem,Nat.reduceBEq,Nat.reduceAdd,Nat.reduceMul,Nat.reduceLeDiff,Nat.reduceEqDiff,Nat.reduceBNe,UInt8.reduceToNat,UInt32.reduceToNat]
  have:=hq s (some (b',dn,(List.replicate k [.int .i64 0,.int .i64 0,.str [],.sl false 4 0 []]).flatten++(List.replicate (dn -(0+k)) [.int .i64 0,.int .i64 0,.str [],.sl false 4 0 []]).flatten)) (Sub.refl s)
   ⟨hb',by omega,by simp,by
     have e:(flat ([]:List aa)).length=0:=rfl
     rw[List.length_append,e,List.length_append]
     simp[show aK.w aa=4 from rfl]
     omega,by
     have hz:∀m,views (List.replicate m [AV.int .i64 0,.int .i64 0,.str [],.sl false 4 0 []]).flatten=(List.replicate m [AV.int .i64 0,.int .i64 0,.str [],.sl false 4 0 []]).flatten:=fun m=>by
      rw[show([.int .i64 0,.int .i64 0,.str [],.sl false 4 0 []]:List AV)=aK.cells (⟨0,0,⟨[]⟩,[]⟩:aa) from rfl,<-fX]
      exact aC _
     unfold views at hz⊢
     rw[List.map_append,hz,hz]⟩
  simp only[Nat.zero_add]at this
  exact⟨⟨Int.le_refl _,Int.le_refl _,by omega⟩,this⟩
 ·have hk:k=0:=by
   have:¬(0<k):=by simpa using hk
   omega
  have:=hq s none (Sub.refl s) rfl
  first|exact this|trace_state
def aaC(ls:List VL)(q:Int×Int):Option ((Int×Int)⊕Int):=bif decide (q.2<ls.length)then some (.inl (q.1+(ix ls q.2).length,q.2+1))else some (.inr q.1)
theorem aaD(ls:List VL)(hl:ls.length<4611686018427387904):iter (aaC ls) (0,0)=some (ls.flatten.length:Int):=by
 refine jd ls.length (fun k=>((ls.take k).flatten.length:Int)) (by simp) hl (fun k hk=>?_) ?_
 ·unfold aaC
  have h1:decide ((k:Int)<ls.length)=true:=by simpa using hk
  have h2:ix ls (k:Int)=ls[k]:=by unfold ix;simp[hk]
  have h3:bj ((k:Int)+1)=(k:Int)+1:=aI (by omega) (by omega)
  show(bif decide ((k:Int)<ls.length)then _ else _)=_
  rw[h1,cond_true,h2,h3,List.take_succ_eq_append_getElem hk,List.flatten_append,List.length_append]
  simp
 ·unfold aaC
  have h1:decide ((ls.length:Int)<ls.length)=false:=by simp
  show(bif decide ((ls.length:Int)<ls.length)then _ else _)=_
  rw[h1,cond_false,List.take_length]
def YX(ls:List VL)(q:List aa×Int):Option ((List aa×Int)⊕List aa):=bif decide (q.2<ls.length)then some (.inl (q.1++ix ls q.2,q.2+1))else some (.inr q.1)
theorem YY(ls:List VL)(hl:ls.length<4611686018427387904):iter (YX ls) ([],0)=some ls.flatten:=by
 refine jd ls.length (fun k=>(ls.take k).flatten) (by simp) hl (fun k hk=>?_) ?_
 ·unfold YX
  have h1:decide ((k:Int)<ls.length)=true:=by simpa using hk
  have h2:ix ls (k:Int)=ls[k]:=by unfold ix;simp[hk]
  have h3:bj ((k:Int)+1)=(k:Int)+1:=aI (by omega) (by omega)
  show(bif decide ((k:Int)<ls.length)then _ else _)=_
  rw[h1,cond_true,h2,h3,List.take_succ_eq_append_getElem hk,List.flatten_append]
  simp
 ·unfold YX
  have h1:decide ((ls.length:Int)<ls.length)=false:=by simp
  show(bif decide ((ls.length:Int)<ls.length)then _ else _)=_
  rw[h1,cond_false,List.take_length]
theorem Bp(ls:List VL)(k:Nat):(ls.take k).flatten.length<=ls.flatten.length:=by
 conv=>rhs;rw[<-List.take_append_drop k ls]
 rw[List.flatten_append,List.length_append];omega
theorem TR{s:ab}{rb cap:Nat}{sp:List AV}{ls:List VL}{Q:List AV->ab->Prop}(hs:s rb=none)(oF:∀c∈ls,0<c.length)(hr:ls.flatten.length*56<=room)(hl:ls.length<2^40)
 (hq:∀s' r',Sub (s.set rb (.cells (flat ls++sp))) s'->gB s' r' ls.flatten->Q [iB r' ls.flatten.length] (gp s' r' ls.flatten)):FN prog 226 [.arr rb 0 ls.length cap] (s.set rb (.cells (flat ls++sp))) Q:=by
 have cJ:room=140737488355328:=rfl
 refine FO Uf rfl rfl ?_
 rw[KF]
 simp -implicitDefEqProofs only[go_sem,seval]
 generalize hcs:flat ls++sp=cs at*
 refine ga (kf:=fun _=>True) (fun(q:Int×Int) U=>∃k:Nat,k<=ls.length/\q=(((ls.take k).flatten.length:Int),(k:Int))/\U=(⟨[(0,.arr rb 0 ls.length cap),(3,.int .i64 (ls.take k).flatten.length),(9,.arr rb 0 ls.length cap),(10,.int .i64 ls.length),(11,.int .i64 k)],[],s.set rb (.cells cs)⟩:St)) ⟨0,Nat.zero_le _,rfl,rfl⟩ ?_ ⟨_,aaD ls (by omega),trivial⟩
 rintro J q U ⟨k,hk,rfl,rfl⟩ hb
 unfold aaC at hb
 by_cases h:k<ls.length
 ·have h1:decide ((k:Int)<ls.length)=true:=by simpa using h
  have h2:ix ls (k:Int)=ls[k]:=by unfold ix;simp[h]
  obtain⟨r1,r2⟩:=JZ ls sp (j:=(k:Int)) (by omega) (by omega)
  rw[hcs,h2,Int.toNat_natCast]at r2
  rw[hcs,Int.toNat_natCast]at r1
  have d1:=decide_eq_true r1
  have le:=Bp ls (k+1)
  rw[List.take_succ_eq_append_getElem h,List.flatten_append,List.length_append,List.flatten_cons,List.flatten_nil,List.append_nil]at le
  have w1:bj (((ls.take k).flatten.length:Int)+(ls[k].length:Int))=((ls.take k).flatten.length:Int)+(ls[k].length:Int):=aI (by omega) (by omega)
  have w2:bj ((k:Int)+1)=(k:Int)+1:=aI (by omega) (by omega)
  have h0:decide (((ls.take k).flatten.length:Int)+(ls[k].length:Int)<0)=false:=decide_eq_false (by omega)
  simp only[h1,cond_true,h2,aA,gU]at hb
  simp -implicitDefEqProofs only[go_sem,seval,h1,r2,d1,w1,w2,h0,Bool.true_eq_false,Bool.false_eq_true,false_implies,true_implies,true_and,and_true]
  have fin:=hb _ ⟨k+1,h,by rw[List.take_succ_eq_append_getElem h,List.flatten_append,List.length_append];simp,rfl⟩
  rw[List.take_succ_eq_append_getElem h,List.flatten_append,List.length_append,List.flatten_cons,List.flatten_nil,List.append_nil]at fin
  have e1:(((ls.take k).flatten.length+ls[k].length:Nat):Int)=((ls.take k).flatten.length:Int)+(ls[k].length:Int):=by omega
  have e2:((k+1:Nat):Int)=(k:Int)+1:=by omega
  rw[e1,e2]at fin
  first|exact fin|(refine⟨?_,?_,fin⟩<;>omega)|(refine⟨?_,fin⟩;omega)|(refine⟨⟨?_,?_⟩,?_,fin⟩<;>omega)|trace_state
 ·have h1:decide ((k:Int)<ls.length)=false:=by simpa using h
  obtain rfl:k=ls.length:=by omega
  clear hb
  rw[List.take_length]
  simp -implicitDefEqProofs only[go_sem,seval,h1,Bool.true_eq_false,Bool.false_eq_true,false_implies,true_implies,true_and,and_true]
  refine Zh hr fun s1 r1 hs1 h1'=>?_
  simp -implicitDefEqProofs only[go_sem,seval]
  have hq2:(s.set rb (.cells cs)) rb=some (.cells cs):=bP
  refine ga (kf:=fun _=>True) (fun(q:List aa×Int) U=>∃(k:Nat)(s':ab)(r':cU),k<=ls.length/\q=((ls.take k).flatten,(k:Int))/\Sub (s.set rb (.cells cs)) s'/\gB s' r' (ls.take k).flatten/\U=(⟨[(6,iB r' (ls.take k).flatten.length),(25,.arr rb 0 ls.length cap),(26,.int .i64 ls.length),(27,.int .i64 k)],[],gp s' r' (ls.take k).flatten⟩:St)) ⟨0,s1,r1,Nat.zero_le _,rfl,hs1,h1',rfl⟩ ?_ ⟨_,YY ls (by omega),trivial⟩
  ·rintro J q U ⟨k,s',r',hk,rfl,hs',h',rfl⟩ hb
   unfold YX at hb
   by_cases h:k<ls.length
   ·have h1:decide ((k:Int)<ls.length)=true:=by simpa using h
    have h2:ix ls (k:Int)=ls[k]:=by unfold ix;simp[h]
    obtain⟨r1,r2⟩:=JZ ls sp (j:=(k:Int)) (by omega) (by omega)
    rw[hcs,h2,Int.toNat_natCast]at r2
    rw[hcs,Int.toNat_natCast]at r1
    have d1:=decide_eq_true r1
    have hrb:gp s' r' (ls.take k).flatten rb=some (.cells cs):=jm h' (hs' _ _ hq2)
    have w2:bj ((k:Int)+1)=(k:Int)+1:=aI (by omega) (by omega)
    have le:=Bp ls (k+1)
    have ek:ls.take (k+1)=ls.take k++[ls[k]]:=List.take_succ_eq_append_getElem h
    have ef:(ls.take (k+1)).flatten=(ls.take k).flatten++ls[k]:=by rw[ek,List.flatten_append];simp
    rw[ef,List.length_append]at le
    simp only[h1,cond_true,h2,aA,gU]at hb
    generalize hst:gp s' r' (ls.take k).flatten=st at hrb⊢
    simp -implicitDefEqProofs only[go_sem,seval,h1,hrb,r2,d1,w2,Bool.true_eq_false,Bool.false_eq_true,false_implies,true_implies,true_and,and_true]
    first
     |refine⟨⟨by omega,by omega⟩,r1,?_⟩
     |refine⟨by omega,?_⟩
     |skip
    rw[gb,aC]
    refine NW (by':=56) (s:=s') (r:=r') (l:=(ls.take k).flatten) (x:=ls[k]) (z:=(⟨0,0,⟨[]⟩,[]⟩:aa)) (by exact hst.symm) h' rfl (oF _ (List.getElem_mem h)) (by omega) fun s2 r2' hs2 h2'=>?_
    simp -implicitDefEqProofs only[go_sem,seval,w2]
    have fin:=hb _ ⟨k+1,s2,r2',h,by rw[ef];rfl,(fun b o hb=>hs2 b o (hs' b o hb)),by rw[ef];exact h2',rfl⟩
    rw[ef,List.length_append]at fin
    have e2:((k+1:Nat):Int)=(k:Int)+1:=by omega
    rw[e2]at fin
    exact fin
   ·have h1:decide ((k:Int)<ls.length)=false:=by simpa using h
    obtain rfl:k=ls.length:=by omega
    clear hb
    rw[List.take_length]at h'⊢
    simp -implicitDefEqProofs only[go_sem,seval,h1,Bool.true_eq_false,Bool.false_eq_true,false_implies,true_implies,true_and,and_true]
    first|exact hq s' r' hs' h'|trace_state
theorem K6:iter (fun _:Unit=>(some (.inr ()):Option (Unit⊕Unit))) ()=some ():=kJ 0 (fun _=>()) rfl (by decide) (fun k hk=>by omega) rfl
theorem aaA{s:ab}{rb cap:Nat}{sp:List AV}{l:List VL}{Q:List AV->ab->Prop}(hs:s rb=none)(hl:l.length<20)
 (hm:ok (Ub l 0 l.length) fun l'=>Q [] (s.set rb (.cells (flat l'++sp)))):FN prog 263 [.arr rb 0 l.length cap,.int .i64 l.length,.fn 224 [] []] (s.set rb (.cells (flat l++sp))) Q:=by
 have cJ:room=140737488355328:=rfl
 refine FO Zy rfl rfl ?_
 rw[SY]
 have h1:decide ((20:Int)<=l.length)=false:=decide_eq_false (by omega)
 have h2:decide ((20:Int)<l.length)=false:=decide_eq_false (by omega)
 simp -implicitDefEqProofs only[go_sem,seval]
 refine bF (fun(_:Unit)=>(⟨[(0,.arr rb 0 l.length cap),(1,.int .i64 l.length),(2,.fn 224 [] []),(6,.int .i64 20),(7,.int .i64 0),(8,.int .i64 20)],[],s.set rb (.cells (flat l++sp))⟩:St)) rfl ?_ (⟨_,K6,trivial⟩:ok _ fun _=>True)
 intro J _ hb
 clear hb
 simp -implicitDefEqProofs only[go_sem,seval,h1,Bool.true_eq_false,Bool.false_eq_true,false_implies,true_implies,true_and,and_true]
 refine ada hs ⟨by decide,by decide⟩ (by omega) (cI hm fun l' h'=>?_)
 simp -implicitDefEqProofs only[go_sem,seval]
 refine bF (fun(_:Unit)=>(⟨[(0,.arr rb 0 l.length cap),(1,.int .i64 l.length),(2,.fn 224 [] []),(6,.int .i64 20)],[],s.set rb (.cells (flat l'++sp))⟩:St)) rfl ?_ (⟨_,K6,trivial⟩:ok _ fun _=>True)
 intro J _ hb
 clear hb
 simp -implicitDefEqProofs only[go_sem,seval,h2,Bool.true_eq_false,Bool.false_eq_true,false_implies,true_implies,true_and,and_true]
 exact h'
theorem UR{s:ab}{rb cap:Nat}{sp:List AV}{l:List VL}{Q:List AV->ab->Prop}(hs:s rb=none)(hl:l.length<20)
 (hm:ok (Ub l 0 l.length) fun l'=>Q [] (s.set rb (.cells (flat l'++sp)))):FN prog 223 [.arr rb 0 l.length cap,.fn 224 [] []] (s.set rb (.cells (flat l++sp))) Q:=by
 refine FO Ug rfl rfl ?_
 rw[KG]
 simp -implicitDefEqProofs only[go_sem,seval]
 refine aaA hs hl (cI hm fun l' h'=>?_)
 simp -implicitDefEqProofs only[go_sem,seval]
 exact h'
end Go.AB
end
section
set_option maxRecDepth 4000
namespace Go.AB
open Go
open Go.Proofs.Tryz (prog)
attribute[-go_sem] cE da bM cD
def lR(t_0:bA)(c_1:aw):Option (Bool):=some ((t_0.Kind==6)&&(t_0.S.b==c_1.b))
def tJ:IC:=
 (af [i1 2 (.dc 8 (.t 0)),c6 3 (.bool false)] [1,2]
 (af [fa 4 0 2,ld 5 1 4,bn 6 .eql 5 6,mv 7 6,fg 8 7 true 7 2,lg 9 7 true 1 8,dq 10 7 true (.bf [.str []] false (.t 1)),sY 11 7 true .eql 9 10,pf 12 7 11,mv 3 12] [3]
 .ret))
theorem DW:aE prog 125 13 [⟨3,true,none⟩] tJ=true:=by kernel_rfl
theorem Eb{t_0 c_1}{B1:Nat}{s:ab}{Q:List AV->ab->Prop}(hB1:s B1=some (.cells [.str c_1.b])):ok (lR t_0 c_1) (fun r=>Q [.bool r] s)->FN prog 125 [.agg [.int .i64 t_0.Kind,.int .i64 t_0.bW,.int .i64 t_0.To,.int .i64 t_0.V.Kind,.int .i64 t_0.V.N,.str t_0.V.S.b,sF 4 t_0.V.L,.str t_0.S.b],.ref B1 0] s Q:=by
 have hS:s=(s.set B1 (.cells [.str c_1.b])):=by simp only[dN hB1]
 rw[hS]
 intro h
 refine FO DW rfl rfl ?_
 revert h
 rw[tJ,lR]
 repeat'(first
  |simp -implicitDefEqProofs only[go_sem,seval])
theorem Ea{t_0 c_1}{B1:Nat}{s:ab}{r:Bool}(hB1:s B1=some (.cells [.str c_1.b]))(h:lR t_0 c_1=some r):FE prog 125 [.agg [.int .i64 t_0.Kind,.int .i64 t_0.bW,.int .i64 t_0.To,.int .i64 t_0.V.Kind,.int .i64 t_0.V.N,.str t_0.V.S.b,sF 4 t_0.V.L,.str t_0.S.b],.ref B1 0] s [.bool r] s:=Eb hB1 ⟨r,h,rfl,rfl⟩
def pS(b_0:(List UInt8))(cN:Int)(bG:Bool)(LF:aw):Option (bA×Int):=
 aW (dT b_0 cN bG) fun r1=>
 if r1.2 !=0 then
  none
 else
  if r1.1.Kind==0 then
   none
  else
   aW (lR r1.1 LF) fun r2=>
   if !r2 then
    some ((bA.mk 0 0 0 (aa.mk 0 0 (aw.mk []) ([]:List aa)) (aw.mk [])),11)
   else
    some (r1.1,0)
theorem OI:(pz prog 125=true)=True:=eq_true (by kernel_rfl)
def xV:IC:=
 (af [i1 8 (.aq BB),mi 9 0] [0,1,2,3,8]
 (af [mt 13 0,mv 14 1,mv 15 2,c3 16 127 13 14 15,iV 12 16,ex 17 12 0,ex 18 12 1,i1 10 (.aq BB),st 8 10 17,mv 11 18] [3,8,10,11]
 (.seq (.block 0 (af [mv 20 11,bn 21 .neq 20 0,mv 19 21] [3,8,10,19]
 (.cond (.t 19) .dead
 (af [fa 25 0 10,ld 26 1 25,bn 27 .eql 26 0,mv 24 27] [3,8,10,24]
 (.cond (.t 24) .dead
 (af [mv 30 3,lm 31 8 10,i1 32 (.cu (.t 30) [(.t 31)]),no 33 32,mv 29 33] [8,10,29]
 (.cond (.t 29) (af [i1 34 (.build BB []),st 8 8 34,mi 9 11] [8,9]
 .ret)
 .skip)))))))
 (af [lm 35 8 10,st 8 8 35,mi 9 0] [8,9]
 .ret))))
theorem Jb:aE prog 123 36 [⟨8,false,some (8,true)⟩,⟨9,true,none⟩] xV=true:=by kernel_rfl
theorem JF{b_0 cN bG LF}{B3_0:Nat}{s:ab}{Q:List AV->ab->Prop}(V6:s B3_0=some (.cells [.str LF.b])):ok (pS b_0 cN bG LF) (fun r=>Q [.agg [.int .i64 r.1.Kind,.int .i64 r.1.bW,.int .i64 r.1.To,.int .i64 r.1.V.Kind,.int .i64 r.1.V.N,.str r.1.V.S.b,sF 4 r.1.V.L,.str r.1.S.b],.int .i64 r.2] s)->FN prog 123 [sF 1 b_0,.int .i64 cN,.bool bG,.fn 125 [] [.ref B3_0 0]] s Q:=by
 have hS:s=(s.set B3_0 (.cells [.str LF.b])):=by simp only[dN V6]
 rw[hS]
 intro h
 refine FO Jb rfl rfl ?_
 revert h
 rw[xV,pS]
 repeat'(first
  |(with_reducible first|exact cW|refine bK ?_ ?_|refine de ?_|refine ak (fun _(h:dT b_0 cN bG=some _)=>kN h) (fun r1=>?_)|refine ak (fun _(h:lR r1.1 LF=some _)=>Ea (B1:=B3_0) (by simp -implicitDefEqProofs only[go_sem,seval,OI]<;>simp only[bH]) h) (fun r2=>?_))
  |simp -implicitDefEqProofs only[go_sem,seval,OI])
theorem JE{b_0 cN bG LF}{B3_0:Nat}{s:ab}{r:bA×Int}(V6:s B3_0=some (.cells [.str LF.b]))(h:pS b_0 cN bG LF=some r):FE prog 123 [sF 1 b_0,.int .i64 cN,.bool bG,.fn 125 [] [.ref B3_0 0]] s [.agg [.int .i64 r.1.Kind,.int .i64 r.1.bW,.int .i64 r.1.To,.int .i64 r.1.V.Kind,.int .i64 r.1.V.N,.str r.1.V.S.b,sF 4 r.1.V.L,.str r.1.S.b],.int .i64 r.2] s:=JF V6 ⟨r,h,rfl,rfl⟩
def kz(b_0:(List UInt8))(cN:Int)(bG:Bool)(wL:aw):Option (Int×Int):=
 aW (pS b_0 cN bG wL) fun r1=>
 some (r1.1.To,r1.2)
def xT:IC:=
 (af [i1 7 (.oz 1 (.t 3)),mi 8 0,mi 9 0] [0,1,2,7]
 (af [mt 13 0,mv 14 1,mv 15 2,i1 16 (.kq 125 [] [(.t 7)]),UG 17 123 13 14 15 16,iV 12 17,ex 18 12 0,ex 19 12 1,i1 10 (.aq BB),st 8 10 18,mv 11 19] [10,11]
 (af [fa 20 2 10,ld 21 1 20,mv 22 11,mv 8 21,mv 9 22] [8,9]
 .ret)))
theorem I9:aE prog 70 23 [⟨8,true,none⟩,⟨9,true,none⟩] xT=true:=by kernel_rfl
theorem JC{b_0 cN bG wL}{s:ab}{Q:List AV->ab->Prop}:ok (kz b_0 cN bG wL) (fun r=>Q [.int .i64 r.1,.int .i64 r.2] s)->FN prog 70 [sF 1 b_0,.int .i64 cN,.bool bG,.str wL.b] s Q:=by
 intro h
 refine FN.forget ?_
 refine FO I9 rfl rfl ?_
 revert h
 rw[xT,kz]
 repeat'(first
  |with_reducible refine ak (fun _(h:pS b_0 cN bG wL=some _)=>JE (B3_0:=N1) (by simp -implicitDefEqProofs only[go_sem,seval]<;>simp only[bH]) h) (fun r1=>?_)
  |((fail_if_success (have _x:=sN1));with_reducible intro hh N1 hN1;(try simp only[cY]at hN1);have sN1:=hN1;revert hh)
  |with_reducible exact fun hh=>⟨_,lx.set (lx.refl _) (by simp[ab.set,sN1]),hh⟩
  |simp -implicitDefEqProofs only[go_sem,seval])
theorem yu{b_0 cN bG wL}{s:ab}{r:Int×Int}(h:kz b_0 cN bG wL=some r):FE prog 70 [sF 1 b_0,.int .i64 cN,.bool bG,.str wL.b] s [.int .i64 r.1,.int .i64 r.2] s:=JC ⟨r,h,rfl,rfl⟩
end Go.AB
end
section
set_option maxRecDepth 4000
namespace Go.AB
open Go
open Go.Proofs.Tryz (prog)
attribute[-go_sem] cE da bM cD
def lS(t_0:bA):Option (Bool):=some ((t_0.Kind==1)&&(t_0.V.Kind==2))
def tK:IC:=
 (af [i1 1 (.dc 8 (.t 0)),c6 2 (.bool false)] [1]
 (af [fa 3 0 1,ld 4 1 3,bn 5 .eql 4 1,mv 6 5,fg 7 6 true 3 1,fg 8 6 true 0 7,lg 9 6 true 1 8,kS 10 6 true .eql 9 2,pf 11 6 10,mv 2 11] [2]
 .ret))
theorem DX:aE prog 124 12 [⟨2,true,none⟩] tK=true:=by kernel_rfl
theorem Ed{t_0}{s:ab}{Q:List AV->ab->Prop}:ok (lS t_0) (fun r=>Q [.bool r] s)->FN prog 124 [.agg [.int .i64 t_0.Kind,.int .i64 t_0.bW,.int .i64 t_0.To,.int .i64 t_0.V.Kind,.int .i64 t_0.V.N,.str t_0.V.S.b,sF 4 t_0.V.L,.str t_0.S.b]] s Q:=by
 intro h
 refine FO DX rfl rfl ?_
 revert h
 rw[tK,lS]
 repeat'(first
  |simp -implicitDefEqProofs only[go_sem,seval])
theorem Ec{t_0}{s:ab}{r:Bool}(h:lS t_0=some r):FE prog 124 [.agg [.int .i64 t_0.Kind,.int .i64 t_0.bW,.int .i64 t_0.To,.int .i64 t_0.V.Kind,.int .i64 t_0.V.N,.str t_0.V.S.b,sF 4 t_0.V.L,.str t_0.S.b]] s [.bool r] s:=Ed ⟨r,h,rfl,rfl⟩
def nK(b_0:(List UInt8))(cN:Int)(bG:Bool):Option (bA×Int):=
 aW (dT b_0 cN bG) fun r1=>
 if r1.2 !=0 then
  none
 else
  if r1.1.Kind==0 then
   none
  else
   aW (lS r1.1) fun r2=>
   if !r2 then
    some ((bA.mk 0 0 0 (aa.mk 0 0 (aw.mk []) ([]:List aa)) (aw.mk [])),11)
   else
    some (r1.1,0)
theorem VY:(pz prog 124=true)=True:=eq_true (by kernel_rfl)
def ve:IC:=
 (af [i1 8 (.aq BB),mi 9 0] [0,1,2,3,8]
 (af [mt 13 0,mv 14 1,mv 15 2,c3 16 127 13 14 15,iV 12 16,ex 17 12 0,ex 18 12 1,i1 10 (.aq BB),st 8 10 17,mv 11 18] [3,8,10,11]
 (.seq (.block 0 (af [mv 20 11,bn 21 .neq 20 0,mv 19 21] [3,8,10,19]
 (.cond (.t 19) .dead
 (af [fa 25 0 10,ld 26 1 25,bn 27 .eql 26 0,mv 24 27] [3,8,10,24]
 (.cond (.t 24) .dead
 (af [mv 30 3,lm 31 8 10,i1 32 (.cu (.t 30) [(.t 31)]),no 33 32,mv 29 33] [8,10,29]
 (.cond (.t 29) (af [i1 34 (.build BB []),st 8 8 34,mi 9 11] [8,9]
 .ret)
 .skip)))))))
 (af [lm 35 8 10,st 8 8 35,mi 9 0] [8,9]
 .ret))))
theorem Gx:aE prog 123 36 [⟨8,false,some (8,true)⟩,⟨9,true,none⟩] ve=true:=by kernel_rfl
theorem Hk{b_0 cN bG}{s:ab}{Q:List AV->ab->Prop}:ok (nK b_0 cN bG) (fun r=>Q [.agg [.int .i64 r.1.Kind,.int .i64 r.1.bW,.int .i64 r.1.To,.int .i64 r.1.V.Kind,.int .i64 r.1.V.N,.str r.1.V.S.b,sF 4 r.1.V.L,.str r.1.S.b],.int .i64 r.2] s)->FN prog 123 [sF 1 b_0,.int .i64 cN,.bool bG,.fn 124 [] []] s Q:=by
 intro h
 refine FO Gx rfl rfl ?_
 revert h
 rw[ve,nK]
 repeat'(first
  |(with_reducible first|exact cW|refine bK ?_ ?_|refine de ?_|refine ak (fun _(h:dT b_0 cN bG=some _)=>kN h) (fun r1=>?_)|refine ak (fun _(h:lS r1.1=some _)=>Ec h) (fun r2=>?_))
  |simp -implicitDefEqProofs only[go_sem,seval,VY])
theorem Hj{b_0 cN bG}{s:ab}{r:bA×Int}(h:nK b_0 cN bG=some r):FE prog 123 [sF 1 b_0,.int .i64 cN,.bool bG,.fn 124 [] []] s [.agg [.int .i64 r.1.Kind,.int .i64 r.1.bW,.int .i64 r.1.To,.int .i64 r.1.V.Kind,.int .i64 r.1.V.N,.str r.1.V.S.b,sF 4 r.1.V.L,.str r.1.S.b],.int .i64 r.2] s:=Hk ⟨r,h,rfl,rfl⟩
def fq(b_0:(List UInt8))(cN:Int)(bG:Bool):Option (Int×Int×Int):=
 aW (nK b_0 cN bG) fun r1=>
 some (r1.1.V.N,r1.1.To,r1.2)
def tH:IC:=
 (af [mi 6 0,mi 7 0,mi 8 0] [0,1,2]
 (af [mt 12 0,mv 13 1,mv 14 2,i1 15 (.call 123 [(.t 12),(.t 13),(.t 14),(.c (.fn 124 [] []))]),iV 11 15,ex 16 11 0,ex 17 11 1,i1 9 (.aq BB),st 8 9 16,mv 10 17] [9,10]
 (.seq (.bN (some 9) [fa 18 3 9,fa 19 1 18,ld 20 1 19,fa 21 2 9,ld 22 1 21,mv 23 10,mv 6 20,mv 7 22,mv 8 23] [6,7,8])
 .ret)))
theorem DU:aE prog 69 24 [⟨6,true,none⟩,⟨7,true,none⟩,⟨8,true,none⟩] tH=true:=by kernel_rfl
theorem D9{b_0 cN bG}{s:ab}{Q:List AV->ab->Prop}:ok (fq b_0 cN bG) (fun r=>Q [.int .i64 r.1,.int .i64 r.2.1,.int .i64 r.2.2] s)->FN prog 69 [sF 1 b_0,.int .i64 cN,.bool bG] s Q:=by
 intro h
 refine FO DU rfl rfl ?_
 revert h
 rw[tH,fq]
 repeat'(first
  |with_reducible refine ak (fun _(h:nK b_0 cN bG=some _)=>Hj h) (fun r1=>?_)
  |simp -implicitDefEqProofs only[go_sem,seval])
theorem n9{b_0 cN bG}{s:ab}{r:Int×Int×Int}(h:fq b_0 cN bG=some r):FE prog 69 [sF 1 b_0,.int .i64 cN,.bool bG] s [.int .i64 r.1,.int .i64 r.2.1,.int .i64 r.2.2] s:=D9 ⟨r,h,rfl,rfl⟩
end Go.AB
end
section
namespace Go.AB
open Go Go.Sort Go.Proofs Go.Shelf
theorem I0{G G':Gh}{w w':World}(hn:∀b,G.O b=.none)(h:ax G w G' w'):∃q os,w'=grow (w.drewN q) os:=by
 refine⟨w'.drawn -w.drawn,w'.heap.extract w.heap.size w'.heap.size,?_⟩
 have We:w'.heap=w.heap++w'.heap.extract w.heap.size w'.heap.size:=by
  apply Array.ext_getElem?
  intro i
  rcases Nat.lt_or_ge i w.heap.size with hi|hi
  ·rw[Array.getElem?_append_left hi];exact h.frame i hi (.inr (hn i))
  ·rw[Array.getElem?_append_right hi,Array.getElem?_extract]
   have e:w.heap.size+(i -w.heap.size)=i:=by omega
   rw[e]
   split
   ·rfl
   ·rename_i h2
    rw[Array.getElem?_eq_none (by omega)]
 have hd:=h.drawn
 have ho:=h.os
 have ht:=h.tape
 have hp:=h.output
 generalize w'.heap.extract w.heap.size w'.heap.size=os at We
 obtain⟨hp',tp,dr,o,ou⟩:=w'
 simp only at We hd ho ht hp
 subst We;subst ho;subst ht;subst hp
 show _={w.drewN (dr -w.drawn)with heap:=w.heap++os}
 unfold World.drewN
 have:w.drawn+(dr -w.drawn)=dr:=by omega
 rw[this]
section
variable{P:Program}{f g:FuncId}{α:Type}[aK α][Inhabited α]{enc:α->List Value}{k:Nat}{cf:α->α->Int}
theorem Rq(hfe:∀x y:α,FE P g [.agg (aK.cells x),.agg (aK.cells y)] xd [.int .i64 (cf x y)] xd)(ag5:∀(w:World)(R:Nat->Nat)(x:α),VR w R (.agg (aK.cells x)) (.agg (enc x).toArray))(wR off size:Nat)(w:World):
 CmpLays P g #[] enc k cf wR off size w:=by
 intro m os dk hs x y
 have h:=hfe x y ⟨fun _=>0,fun _=>.none⟩ (sortWorldK enc k w wR off m dk os) #[.agg (enc x).toArray,.agg (enc y).toArray] ⟨fun _ _=>rfl,fun _ _=>rfl⟩ (fun b=>.inl rfl) (fun b o h=>by cases h)
  ⟨rfl,fun j a v hj hv=>by
    match j,hj,hv with
    |0,hj,hv=>cases hj;cases hv;exact ag5 _ _ x
    |1,hj,hv=>cases hj;cases hv;exact ag5 _ _ y⟩
 rw[Array.append_empty]
 refine h.mono ?_
 rintro e w' ⟨v,rs,s',G',rfl,⟨rfl,rfl⟩,_,_,hr,hp⟩
 have hv:v=.int .i64 (cf x y):=VR.ct hr.1
 subst hv
 exact⟨rfl,I0 (fun _=>rfl) hp⟩
omit[Inhabited α]in
theorem Ku(l:List α)(sp:List AV){i r:Nat}(hi:i<l.length)(hr:r<aK.w α):(flat l++sp)[i*aK.w α+r]? =(aK.cells l[i])[r]? :=by
 have hlt:i*aK.w α+r<(flat l).length:=by
  rw[al]
  calc i*aK.w α+r<(i+1)*aK.w α:=by rw[Nat.add_mul];omega
   _<=l.length*aK.w α:=Nat.mul_le_mul_right _ hi
 rw[List.getElem?_append_left hlt]
 have h:=lC l (aK.w α) i 1 rfl
 rw[Nat.one_mul,List.drop_eq_getElem_cons hi]at h
 have h2:(AB.sub (flat l) (i*aK.w α) (aK.w α))[r]? =(aK.cells l[i])[r]? :=by
  rw[h]
  show(flat [l[i]])[r]? =_
  unfold flat
  simp
 rw[E7,if_pos hr]at h2
 exact h2
theorem aaw(hk:k=aK.w α)(hlen:∀x,(enc x).length=k)
 (akN:∀(w:World)(R:Nat->Nat)(x:α)(vs:List Value),vs.length=k->(∀(j:Nat)(c:AV)(v:Value),(aK.cells x)[j]? =some c->vs[j]? =some v->VR w R c v)->vs=enc x)
 (hvr:∀(w:World)(R:Nat->Nat)(x:α)(j:Nat)(c:AV)(v:Value),(aK.cells x)[j]? =some c->(enc x)[j]? =some v->VR w R c v)
 (akL:∀(wR off cap:Nat)(d:Array α)(w:World),HoldsK enc k w wR off d->wR<w.heap.size->d.size<4611686018427387904->Calls P f #[.slice (some ⟨wR,off,none⟩) d.size cap,.func (.func g) #[] #[]] w fun e w'=>e=.returned (.tuple #[])/\∃d' n os,PermIn 0 d.size d d'/\SortedIn (ltOf cf) 0 d.size d'/\w'=sortWorldK enc k w wR off n d' os)
 {b cap:Nat}{l:List α}{sp:List AV}{s:ab}{Q:List AV->ab->Prop}(hs:s b=some (.cells (flat l++sp)))(hc:0<cap)(hb:l.length<4611686018427387904)
 (hq:∀l':List α,l'.Perm l->l'.Pairwise (fun x y=>ltOf cf y x=false)->Q [] (s.set b (.cells (flat l'++sp)))):FN P f [.arr b 0 l.length cap,.fn g [] []] s Q:=by
 subst hk
 intro G w vs hg ho hst ha
 have hvs:vs= #[.slice (some ⟨b,0,none⟩) l.length cap,.func (.func g) #[] #[]]:=by
  obtain⟨h1,h2⟩:=ha
  have h1':vs.size=2:=h1
  apply Array.ext (by simpa using h1')
  intro i hi1 hi2
  have hi:i<2:=by omega
  match i,hi with
  |0,_=>exact VR.sJ (h2 0 _ _ rfl (Array.getElem?_eq_getElem (by omega))) hc
  |1,_=>
   obtain⟨vf,vc,e,s1,_,s2,_⟩:=VR.Rc (h2 1 _ _ rfl (Array.getElem?_eq_getElem (by omega)))
   rw[e]
   rw[Array.eq_empty_of_size_eq_zero s1,Array.eq_empty_of_size_eq_zero s2]
   rfl
 subst hvs
 obtain⟨q2,q3,c,t,q4,q5,q6⟩:=hst b _ hs
 have hbl:b<w.heap.size:=(Array.getElem?_eq_some_iff.1 q4).1
 have hw0:0<aK.w α:=aK.pos
 have hcs:c.size=l.length*aK.w α+sp.length:=by rw[q5.1,List.length_append,al]
 have dy:∀i(hi:i<l.length),(c.toList.drop (i*aK.w α)).take (aK.w α)=enc l[i]:=fun i hi=>by
  have hle:i*aK.w α+aK.w α<=l.length*aK.w α:=by rw[<-Nat.succ_mul];exact Nat.mul_le_mul_right _ hi
  refine akN w G.R l[i] _ (by simp;omega) fun j x v hx hv=>?_
  have hj:j<aK.w α:=by
   have:=(List.getElem?_eq_some_iff.1 hv).1
   simp at this;omega
  rw[List.getElem?_take,if_pos hj,List.getElem?_drop]at hv
  exact(q5.2 _ x v (by rw[Ku l sp hi hj];exact hx) (by simpa using hv)).1
 have kg:∀(l2:List α)(i r:Nat)(hi:i<l2.length),r<aK.w α->(flatK enc (aK.w α) l2.toArray)[i*aK.w α+r]! =(enc l2[i])[r]!:=fun l2 i r hi hr=>by
  rw[get_flatK _ _ _ _ (by
   calc i*aK.w α+r<(i+1)*aK.w α:=by rw[Nat.add_mul];omega
    _<=l2.toArray.size*aK.w α:=Nat.mul_le_mul_right _ (by rw[List.size_toArray];exact hi))]
  have e1:(i*aK.w α+r)/aK.w α=i:=by rw[Nat.mul_comm,Nat.mul_add_div hw0,Nat.div_eq_of_lt hr,Nat.add_zero]
  have e2:(i*aK.w α+r)% aK.w α=r:=by rw[Nat.mul_comm,Nat.mul_add_mod,Nat.mod_eq_of_lt hr]
  rw[e1,e2]
  simp[hi]
 have hH:HoldsK enc (aK.w α) w b 0 l.toArray:=by
  intro j hj
  rw[size_flatK]at hj
  have hj:j<l.length*aK.w α:=by simpa using hj
  have hi:j/aK.w α<l.length:=by rw[Nat.div_lt_iff_lt_mul hw0];exact hj
  have hr:j % aK.w α<aK.w α:=Nat.mod_lt _ hw0
  have ej:j/aK.w α*aK.w α+j % aK.w α=j:=by
   have:=Nat.div_add_mod j (aK.w α)
   rw[Nat.mul_comm]at this;exact this
  refine⟨?_,?_⟩
  ·rw[Nat.zero_add,cell_of_row w q4]
   have h1:=dy _ hi
   have h2:((c.toList.drop (j/aK.w α*aK.w α)).take (aK.w α))[j % aK.w α]? =c[j]? :=by rw[List.getElem?_take,if_pos hr,List.getElem?_drop,ej];simp
   rw[<-h2,h1]
   have h3:=kg l _ _ hi hr
   rw[ej]at h3
   show _=some ((flatK enc (aK.w α) l.toArray)[j]!)
   rw[h3]
   have:j % aK.w α<(enc l[j/aK.w α]).length:=by rw[hlen];exact hr
   simp[this]
  ·unfold World.frozen?
   simp[q4]
 have abm:=akL b 0 cap l.toArray w hH hbl (by simpa using hb)
 rw[List.size_toArray]at abm
 refine abm.mono ?_
 rintro e w' ⟨rfl,d',m,os,hp,hsd,rfl⟩
 obtain⟨p1,_,p3⟩:=hp
 have p1:d'.size=l.length:=by simpa using p1
 have SS:d'.toList.Perm l:=by
  have e1:d'.extract 0 l.toArray.size=d':=by rw[List.size_toArray,<-p1];exact Array.extract_size
  have e2:l.toArray.extract 0 l.toArray.size=l.toArray:=Array.extract_size
  have:(d'.extract 0 l.toArray.size).toList.Perm (l.toArray.extract 0 l.toArray.size).toList:=by simpa using p3
  rw[e1,e2]at this
  simpa using this
 obtain⟨l',rfl⟩:∃l':List α,d'=l'.toArray:=⟨d'.toList,by simp⟩
 have hl':l'.length=l.length:=by simpa using p1
 have SS:l'.Perm l:=by simpa using SS
 have uS:l'.Pairwise (fun x y=>ltOf cf y x=false):=by
  rw[List.pairwise_iff_getElem]
  intro i j hi hj hij
  have:=hsd i j (Nat.zero_le _) hij (by omega)
  simpa[hi,hj]using this
 generalize hF:flatK enc (aK.w α) l'.toArray=F
 have hFs:F.size=l.length*aK.w α:=by rw[<-hF,size_flatK];simp[hl']
 generalize hw':sortWorldK enc (aK.w α) w b 0 m l'.toArray os=w'
 have ew:w'=grow (mapBlock (Go.Sort.ahead w m) b (putCells id 0 F)) os:=by rw[<-hw',<-hF];rfl
 have hsz:w.heap.size<=w'.heap.size:=by rw[ew];simp[grow,mapBlock,Go.Sort.ahead]
 have L3:∀i,i<w.heap.size->i≠b->w'.heap[i]? =w.heap[i]? :=fun i hi hib=>by
  rw[ew,heap_grow_old _ _ (by simpa[mapBlock,Go.Sort.ahead]using hi)]
  unfold mapBlock
  show((Go.Sort.ahead w m).heap.modify b _)[i]? =_
  rw[Array.getElem?_modify,if_neg (fun e=>hib e.symm)]
  rfl
 have Wi:w'.heap[b]? =some (.cells (putCells id 0 F c) t (0,0)):=by
  rw[ew,heap_grow_old _ _ (by simpa[mapBlock,Go.Sort.ahead]using hbl)]
  unfold mapBlock
  show((Go.Sort.ahead w m).heap.modify b _)[b]? =_
  rw[Array.getElem?_modify,if_pos rfl]
  show Option.map _ (w.heap[b]?)=_
  rw[q4];rfl
 have bw:ax G w G w':=by
  refine⟨by rw[ew];rfl,by rw[ew];rfl,by rw[ew];rfl,by rw[ew];exact Nat.le_add_right _ _,hsz,fun _ _=>Nat.le_refl _,fun i j hi hj=>?_,fun i hi hof=>?_,fun _ _ h=>⟨h,rfl⟩,fun _ _ h=>⟨h,rfl⟩⟩
  ·have hib:i≠b:=fun e=>by subst e;rw[q3]at hj;omega
   exact World.cell?_of_block (L3 i hi hib)
  ·exact L3 i hi fun e=>by subst e;rw[q2]at hof;rcases hof with h|h<;>cases h
 have hg':b9 G w':=⟨fun i hi=>hg.jM i (Nat.le_trans hsz hi),fun i hi=>hg.jU i (Nat.le_trans hsz hi)⟩
 have hlt:∀i,G.O i≠.none->i<w.heap.size:=fun i hi=>hg.lt hi
 refine⟨_,[],_,G,rfl,hq l' SS uS,hg',fun i o hi=>?_,⟨#[],rfl,rfl,fun j x y hx=>by simp at hx⟩,bw⟩
 unfold ab.set at hi
 by_cases hib:i=b
 ·rw[if_pos hib]at hi;injection hi with hi;subst hi;subst hib
  refine⟨q2,q3,_,t,Wi,⟨?_,fun j x y hx hy=>?_⟩,?_⟩
  ·unfold putCells
   rw[Array.size_mapIdx,hcs,List.length_append,al,hl']
  ·unfold putCells at hy
   rw[Array.getElem?_mapIdx]at hy
   by_cases hj:j<l.length*aK.w α
   ·have hjc:j<c.size:=by omega
    have hi':j/aK.w α<l'.length:=by rw[Nat.div_lt_iff_lt_mul hw0,hl'];exact hj
    have hr:j % aK.w α<aK.w α:=Nat.mod_lt _ hw0
    have ej:j/aK.w α*aK.w α+j % aK.w α=j:=by
     have:=Nat.div_add_mod j (aK.w α)
     rw[Nat.mul_comm]at this;exact this
    rw[Array.getElem?_eq_getElem hjc]at hy
    simp only[Option.map_some,Nat.zero_le,Nat.zero_add,hFs,hj,and_self,if_true,Nat.sub_zero,id]at hy
    have hx2:(aK.cells l'[j/aK.w α])[j % aK.w α]? =some x:=by rw[<-Ku l' sp hi' hr,ej];exact hx
    have hy2:(enc l'[j/aK.w α])[j % aK.w α]? =some y:=by
     have h3:=kg l' _ _ hi' hr
     rw[ej,hF]at h3
     rw[h3]at hy
     have:j % aK.w α<(enc l'[j/aK.w α]).length:=by rw[hlen];exact hr
     simp[this]at hy⊢
     exact hy
    refine⟨hvr w' G.R _ _ _ _ hx2 hy2,?_⟩
    have hxm:x∈flat l':=by
     have:j<(flat l').length:=by rw[al,hl'];exact hj
     rw[List.getElem?_append_left this]at hx
     exact List.mem_of_getElem? hx
    have hv:=aC l'
    rw[<-hv]at hxm
    obtain⟨x0,_,rfl⟩:=List.mem_map.1 hxm
    exact dm.view ..
   ·have hnj:¬(0<=j/\j<0+F.size):=fun h=>hj (by have:=h.2;omega)
    have hy':c[j]? =some y:=by
     cases hcj:c[j]? with
     |none=>rw[hcj]at hy;cases hy
     |some u=>rw[hcj]at hy;simp only[Option.map_some,if_neg hnj]at hy;exact hy
    have hx':(flat l++sp)[j]? =some x:=by
     rw[List.getElem?_append_right (by rw[al,hl'];omega),al,hl']at hx
     rw[List.getElem?_append_right (by rw[al];omega),al]
     exact hx
    obtain⟨h1,h2⟩:=q5.2 j x y hx' hy'
    exact⟨bw.vr hg h1,h2.mono fun i hi=>⟨hi,rfl,L3 i (hlt i (by rw[hi];simp)) (fun e=>by subst e;rw[q2]at hi;cases hi)⟩⟩
  ·intro x hx
   rcases List.mem_append.1 hx with hx|hx
   ·refine q6 x (List.mem_append_left _ ?_)
    unfold flat at hx⊢
    rw[List.mem_flatten]at hx⊢
    obtain⟨cs,h1,h2⟩:=hx
    obtain⟨a,h3,rfl⟩:=List.mem_map.1 h1
    exact⟨_,List.mem_map.2 ⟨a,SS.mem_iff.1 h3,rfl⟩,h2⟩
   ·exact q6 x (List.mem_append_right _ hx)
 ·rw[if_neg hib]at hi
  obtain⟨r1,r2,r3⟩:=hst i o hi
  refine⟨r1,r2,?_⟩
  have hbk:=L3 i (hlt i (by rw[r1];simp)) hib
  cases o with
  |cells cs=>
   obtain⟨c0,t0,r4,r5,r6⟩:=r3
   exact⟨c0,t0,hbk.trans r4,r5.mono (fun _ _ hv=>bw.vr hg hv) (fun b' j hb'=>⟨hb',rfl,L3 b' (hlt b' (by rw[hb'];simp)) (fun e=>by subst e;rw[q2]at hb';cases hb')⟩),r6⟩
  |map es=>
   obtain⟨iu,clock,r4,r5,r6⟩:=r3
   exact⟨iu,clock,hbk.trans r4,r5,fun j x y hx hy=>⟨bw.vr hg (r6 j x y hx hy).1,bw.vr hg (r6 j x y hx hy).2⟩⟩
end
end Go.AB
end
section
namespace Go.Proofs
open Go.Shelf
def Tryz.Dz:Go.Shelf.Ren:=⟨fun|6=>212|15=>251|14=>250|28=>286|29=>287|20=>278|21=>279|22=>280|23=>281|24=>282|25=>283|26=>284|27=>285|46=>319|47=>320|48=>321|49=>322|50=>323|57=>350|n=>n,fun|22=>179|24=>188|25=>289|3=>3|39=>326|0=>0|53=>321|55=>371|4=>4|46=>364|45=>363|50=>71|5=>5|9=>9|66=>402|70=>317|76=>432|77=>122|n=>n,fun|n=>n⟩
theorem Tryz.Ts:Go.Proofs.SlLaysF0.n6 Tryz.prog Tryz.Dz:={
 mixed:=by kernel_rfl
 f6:=⟨Tryz.f212.name,by decide,Tryz.func212.trans (congrArg some (by kernel_rfl))⟩
 f14:=⟨Tryz.f250.name,by decide,Tryz.func250.trans (congrArg some (by kernel_rfl))⟩
 f15:=Tryz.func251.trans (congrArg some (by kernel_rfl))
 f20:=⟨Tryz.f278.name,by decide,Tryz.func278.trans (congrArg some (by kernel_rfl))⟩
 f21:=⟨Tryz.f279.name,by decide,Tryz.func279.trans (congrArg some (by kernel_rfl))⟩
 f22:=⟨Tryz.f280.name,by decide,Tryz.func280.trans (congrArg some (by kernel_rfl))⟩
 f23:=⟨Tryz.f281.name,by decide,Tryz.func281.trans (congrArg some (by kernel_rfl))⟩
 f24:=⟨Tryz.f282.name,by decide,Tryz.func282.trans (congrArg some (by kernel_rfl))⟩
 f25:=⟨Tryz.f283.name,by decide,Tryz.func283.trans (congrArg some (by kernel_rfl))⟩
 f26:=⟨Tryz.f284.name,by decide,Tryz.func284.trans (congrArg some (by kernel_rfl))⟩
 f27:=⟨Tryz.f285.name,by decide,Tryz.func285.trans (congrArg some (by kernel_rfl))⟩
 f28:=Tryz.func286.trans (congrArg some (by kernel_rfl))
 f29:=Tryz.func287.trans (congrArg some (by kernel_rfl))
 f46:=⟨Tryz.f319.name,by decide,Tryz.func319.trans (congrArg some (by kernel_rfl))⟩
 f47:=Tryz.func320.trans (congrArg some (by kernel_rfl))
 f48:=Tryz.func321.trans (congrArg some (by kernel_rfl))
 f49:=⟨Tryz.f322.name,by decide,Tryz.func322.trans (congrArg some (by kernel_rfl))⟩
 f50:=⟨Tryz.f323.name,by decide,Tryz.func323.trans (congrArg some (by kernel_rfl))⟩
 f57:=⟨Tryz.f350.name,by decide,Tryz.func350.trans (congrArg some (by kernel_rfl))⟩
 t0:=Tryz.underlying0
 a0:=Tryz.isAgg0
 z0:=Tryz.sizeOf0
 v0:=Tryz.zeroValue0
 t3:=Tryz.underlying3
 a3:=Tryz.isAgg3
 z3:=Tryz.sizeOf3
 v3:=Tryz.zeroValue3
 t4:=Tryz.underlying4
 a4:=Tryz.isAgg4
 z4:=Tryz.sizeOf4
 v4:=Tryz.zeroValue4
 t5:=Tryz.underlying5
 a5:=Tryz.isAgg5
 z5:=Tryz.sizeOf5
 v5:=Tryz.zeroValue5
 t9:=Tryz.underlying9
 a9:=Tryz.isAgg9
 z9:=Tryz.sizeOf9
 v9:=Tryz.zeroValue9
 t22:=Tryz.underlying179
 a22:=Tryz.isAgg179
 z22:=Tryz.sizeOf179
 v22:=Tryz.zeroValue179
 t25:=Tryz.underlying289
 a25:=Tryz.isAgg289
 z25:=Tryz.sizeOf289
 v25:=Tryz.zeroValue289
 t39:=Tryz.underlying326
 a39:=Tryz.isAgg326
 z39:=Tryz.sizeOf326
 v39:=Tryz.zeroValue326
 t45:=Tryz.underlying363
 a45:=Tryz.isAgg363
 z45:=Tryz.sizeOf363
 v45:=Tryz.zeroValue363
 t46:=Tryz.underlying364
 a46:=Tryz.isAgg364
 z46:=Tryz.sizeOf364
 v46:=Tryz.zeroValue364
 t50:=Tryz.underlying71
 a50:=Tryz.isAgg71
 z50:=Tryz.sizeOf71
 v50:=Tryz.zeroValue71
 t53:=Tryz.underlying321
 a53:=Tryz.isAgg321
 z53:=Tryz.sizeOf321
 v53:=Tryz.zeroValue321
 t55:=Tryz.underlying371
 a55:=Tryz.isAgg371
 z55:=Tryz.sizeOf371
 v55:=Tryz.zeroValue371
 t66:=Tryz.underlying402
 a66:=Tryz.isAgg402
 z66:=Tryz.sizeOf402
 v66:=Tryz.zeroValue402
 t70:=Tryz.underlying317
 a70:=Tryz.isAgg317
 z70:=Tryz.sizeOf317
 v70:=Tryz.zeroValue317
 t76:=Tryz.underlying432
 a76:=Tryz.isAgg432
 z76:=Tryz.sizeOf432
 v76:=Tryz.zeroValue432
 t77:=Tryz.underlying122
 a77:=Tryz.isAgg122
 z77:=Tryz.sizeOf122
 v77:=Tryz.zeroValue122}
end Go.Proofs
end
section
namespace Go.AB
open Go
theorem Z1{P:Program}(w:World)(tS tR e:TypeId)(ht:P.underlying tS=some (.slice e))(size:Nat)(hz:∀w,(Go.sizeOf e).run P w=.ok size w)
 (a b oa ob la ca lb cb:Nat)(hne:a≠b)(x y:Array Value)(ta tb:TypeId)(fa:Nat×Nat)(hA:w.heap[a]? =some (.cells x ta fa))(hB:w.heap[b]? =some (.cells y tb (0,0)))(hx:x.size≠0):
 (Extern.SlicesOverlaps.overlaps #[tS,tS] #[tR] #[.slice (some ⟨a,oa,none⟩) la ca,.slice (some ⟨b,ob,none⟩) lb cb]).run P w=.ok (.bool false) w:=by
 have hnb:(a !=b)=true:=by simpa using hne
 have akS:(a==b)=false:=by simpa using hne
 have hfb:∀o,w.frozen? ⟨b,o,none⟩=false:=fun o=>by unfold World.frozen?;simp[hB]
 have hsa:w.shape? a=some (ta,x.size):=by unfold World.shape?;rw[hA]
 have hsb:w.shape? b=some (tb,y.size):=by unfold World.shape?;rw[hB]
 change Sem.run P (α:=Value) (do
  let some t:=(#[tS,tS]:Array TypeId)[0]? |stuck "slices.overlaps: no parameter types"
  let .slice elem<-underlying t|stuck "slices.overlaps: slice type expected"
  let size<-sizeOf elem
  match(some ⟨a,oa,none⟩:Option Addr),(some ⟨b,ob,none⟩:Option Addr)with
  |some a,some b=>
   if la=0\/lb=0\/size=0 then pure (Value.bool false)
   else if a.block !=b.block&&(<-frozen a)&&(<-frozen b)then unsupported .addressObserved
   else do
    if a.block !=b.block then do
     noView a;noView b
     if<-mayBeOne a b then return Value.bool ((<-choose (.extern "sameAddr.stringBytes" 2))==1)
    pure (Value.bool (a.block==b.block&&a.off<b.off+lb*size&&b.off<a.off+la*size))
  |_,_=>pure (Value.bool false)) w=_
 by_cases h0:la=0\/lb=0\/size=0
 ·simp[run_underlying ht,hz,h0]
 ·cases hk:x.size with
  |zero=>exact absurd hk hx
  |succ kB=>
   rw[hk]at hsa
   cases hfa:w.frozen? ⟨a,oa,none⟩<;>cases hfe:w.frozen? ⟨a,kB+1,none⟩<;>
    simp[run_underlying ht,hz,h0,hnb,akS,frozen,noView,viewAt,mayBeOne,stringish,shape,Sem.run,hsa,hsb,hfa,hfe,hfb]
theorem adP{P:Program}{f:FuncId}{tS tR e:TypeId}{m:Nat}(hs:(P.funcs[f]?).isSome=true)(Wh:(((P.funcs[f]?).get hs).name== "runtime.NumGoroutine")=false)
 (hb:((P.funcs[f]?).get hs).body.isNone=true)(hn:Extern.findNext ((P.funcs[f]?).get hs)=none)(he:Extern.find ((P.funcs[f]?).get hs)=some (Extern.SlicesOverlaps.overlaps #[tS,tS] #[tR]))
 (ht:P.underlying tS=some (.slice e))(hi:c8 P e m=true):NO P f:=by
 intro w a b oa la ca ob lb cb ta tb x y fa hne hA hx hB _
 refine⟨w,?_,rfl,rfl,rfl,rfl,Nat.le_refl _⟩
 rw[run_callFunc_extern (Option.some_get hs).symm Wh hb hn he,Z1 w tS tR e ht m (fun w=>run_sizeOf hi w) a b oa ob la ca lb cb hne x y ta tb fa hA hB hx]
 rfl
end Go.AB
end
section
namespace Go.AB
open Go
@[go_sem]theorem ajE:((10:Int)≠0)=True:=eq_true (by decide)
@[go_sem]theorem ajF(l:List UInt8)(n:Nat):AB.sub (flat l) 0 (n*1)=flat (part l 0 (n:Int)):=by
  have:=BP 1 l 0 (n:Int) rfl
  rw[Int.sub_zero]at this
  exact this
end Go.AB
end
section
namespace Go.AB
open Go
theorem FN.iU{P:Program}{f:FuncId}{args tv:List AV}{s:ab}{Q:List AV->ab->Prop}(b k:Nat){cs:List AV}(hs:s b=some (.cells cs))(h:FN P f tv (s.del b) Q)
 (ha:∀(G:Gh)(w:World)(vs:Array Value),aP G w s->kH w G.R args vs->kH w (fun i=>if i=b/\b<w.heap.size then k else G.R i) tv vs):FN P f args s Q:=by
 intro G w vs h1 h2 h3 h4
 obtain⟨q2,q3,c,t,q4,q5,q6⟩:=h3 b _ hs
 have hlt:b<w.heap.size:=h1.lt (by rw[q2];simp)
 let G1:Gh:=⟨fun i=>if i=b/\b<w.heap.size then k else G.R i,fun i=>@ite _ (i=b\/∃j,G.O i=.cell b j) (Classical.propDecidable _) .frame (G.O i)⟩
 have hO:∀i,¬(i=b\/∃j,G.O i=.cell b j)->G1.O i=G.O i:=fun i hi=>if_neg hi
 have hOf:∀i,(i=b\/∃j,G.O i=.cell b j)->G1.O i=.frame:=fun i hi=>if_pos hi
 have hR:∀i,i≠b->G1.R i=G.R i:=fun i hi=>if_neg fun e=>hi e.1
 have hle:∀i,G.R i<=G1.R i:=fun i=>by
  by_cases e:i=b
  ·rw[e,q3];exact Nat.zero_le _
  ·rw[hR i e];exact Nat.le_refl _
 have hb:∀i o,G.O i=o->o≠.sh->(∀j,o≠.cell b j)->¬(i=b\/∃j,G.O i=.cell b j):=fun i o e h1 h2 h=>by
  rcases h with rfl|⟨j,h⟩
  ·exact h1 (e.symm.trans q2)
  ·exact h2 j (e.symm.trans h)
 have hv:∀a v,VR w G.R a v->VR w G1.R a v:=fun a v h=>h.mono hle fun _ _ _=>rfl
 have hg1:b9 G1 w:=⟨fun i hi=>(hO i (hb i _ (h1.jM i hi) (by simp) (by simp))).trans (h1.jM i hi),fun i hi=>(hR i (by omega)).trans (h1.jU i hi)⟩
 have ho1:zT G1:=fun i=>by
  by_cases e:i=b\/∃j,G.O i=.cell b j
  ·exact .inr (.inl (hOf i e))
  ·rcases h2 i with h|h|h|⟨b',j,dy,h'⟩
   ·exact .inl ((hO i e).trans h)
   ·exact .inr (.inl ((hO i e).trans h))
   ·exact .inr (.inr (.inl ((hO i e).trans h)))
   ·refine .inr (.inr (.inr ⟨b',j,(hO i e).trans dy,(hO b' fun e'=>?_).trans h'⟩))
    rcases e' with rfl|⟨j',e'⟩
    ·exact e (.inr ⟨j,dy⟩)
    ·rw[h']at e';cases e'
 have hs1:aP G1 w (s.del b):=by
  intro b' o hb'
  unfold ab.del at hb'
  split at hb'
  ·cases hb'
  ·rename_i hne
   obtain⟨r1,r2,r3⟩:=h3 b' o hb'
   have hn:¬(b'=b\/∃j,G.O b'=.cell b j):=fun e=>by
    rcases e with e|⟨j,e⟩
    ·exact hne e
    ·rw[r1]at e;cases e
   refine⟨(hO b' hn).trans r1,(hR b' hne).trans r2,?_⟩
   cases o with
   |cells cs'=>
    obtain⟨c',t',r4,r5,r6⟩:=r3
    exact⟨c',t',r4,r5.mono hv (fun b'' j ns=>by
     have:b''≠b:=fun e=>by subst e;rw[q2]at ns;cases ns
     refine⟨(hO b'' (hb b'' _ ns (by simp) fun j' e=>?_)).trans ns,hR b'' this,rfl⟩
     injection e with e1 _
     exact hne e1),r6⟩
   |map es=>
    obtain⟨iu,clock,r4,r5,r6⟩:=r3
    exact⟨iu,clock,r4,r5,fun j x y hx hy=>⟨hv _ _ (r6 j x y hx hy).1,hv _ _ (r6 j x y hx hy).2⟩⟩
 refine(h G1 w vs hg1 ho1 hs1 (ha G w vs h3 h4)).mono fun e w'⟨v,rs,s',G',he,hq,hg',hs',hr,hp⟩=>⟨v,rs,s',G',he,hq,hg',hs',hr,?_⟩
 refine⟨hp.os,hp.tape,hp.output,hp.drawn,hp.size,fun i hi=>Nat.le_trans (hle i) (hp.mono i hi),fun i j hi hj=>hp.mP i j hi (Nat.lt_of_lt_of_le hj (hle i)),fun i hi ho=>?_,fun i hi ho=>?_,fun i hi ho=>?_⟩
 ·refine hp.frame i hi ?_
  rcases ho with ho|ho
  ·exact .inl ((hO i (hb i _ ho (by simp) (by simp))).trans ho)
  ·exact .inr ((hO i (hb i _ ho (by simp) (by simp))).trans ho)
 ·have hi':i≠b:=fun e=>by rw[e,q2]at ho;cases ho
  obtain⟨a1,a2⟩:=hp.jJ i hi ((hO i (hb i _ ho (by simp) (by simp))).trans ho)
  exact⟨a1,a2.trans (hR i hi')⟩
 ·have hi':i≠b:=fun e=>by rw[e,q2]at ho;cases ho
  obtain⟨a1,a2⟩:=hp.pP i hi ((hO i (hb i _ ho (by simp) (by simp))).trans ho)
  exact⟨a1,a2.trans (hR i hi')⟩
theorem E1{P:Program}{live:List (Nat×Bool)}{b:IC}{Q:Exit->St->Prop}{E:St}(n:Nat)(R:Nat->St->Prop)(hn:n<4611686018427387904)(h0:R 0 (E.ep live))
 (h1:∀k,k<n->∀(J:St->Prop)(U:St),R k U->(∀U',R (k+1) U'->J U')->gO P b (tV live J Q) U)(h2:∀(J:St->Prop)(U:St),R n U->gO P b (tV live J Q) U):gO P (.loop live b) Q E:=by
 refine ga (body:=fun k:Nat=>if k<n then some (.inl (k+1))else some (.inr ())) (s0:=0) (kf:=fun _=>True) (fun k U=>k<=n/\R k U) ⟨Nat.zero_le _,h0⟩ ?_ ⟨(),kJ n (fun k=>k) rfl (by omega) (fun k hk=>if_pos hk) (if_neg (Nat.lt_irrefl _)),trivial⟩
 rintro J k U ⟨hk,hR⟩ hb
 by_cases hlt:k<n
 ·rw[if_pos hlt,aA]at hb
  exact h1 k hlt J U hR fun U' h'=>hb U' ⟨hlt,h'⟩
 ·obtain rfl:k=n:=by omega
  exact h2 J U hR
theorem R2{α:Type}[aK α](l:List α)(sp:List AV){n:Nat}(hn:n=aK.w α){j:Int}(h0:0<=j)(h:j<l.length):j.toNat*n+n<=(flat l++sp).length/\views (AB.sub (flat l++sp) (j.toNat*n) n)=aK.cells (ix l j):=by
 subst hn
 have hj:j.toNat<l.length:=by omega
 have hs:=gA l sp (aK.w α) j.toNat 1 rfl (by omega)
 refine⟨?_,?_⟩
 ·rw[List.length_append,al]
  have:(j.toNat+1)*aK.w α<=l.length*aK.w α:=Nat.mul_le_mul_right _ (by omega)
  rw[Nat.add_mul,Nat.one_mul]at this
  omega
 ·rw[Nat.one_mul]at hs
  rw[hs,List.drop_eq_getElem_cons hj]
  have:ix l j=l[j.toNat]:=by unfold ix;simp[hj]
  rw[this]
  show views (flat [l[j.toNat]])=_
  rw[aC]
  unfold flat
  simp
theorem Yf{α:Type}[aK α](l:List α)(sp:List AV){n:Nat}(hn:n=aK.w α)(x:α){j:Int}(h0:0<=j)(h:j<l.length):setAt (flat l++sp) (j.toNat*n) (aK.cells x)=flat (l.set j.toNat x)++sp:=by
 have hj:j.toNat<l.length:=by omega
 have hs:=gz l [x] sp n j.toNat hn (by simp;omega)
 have e:flat [x]=aK.cells x:=by unfold flat;simp
 rw[e]at hs
 rw[hs,List.set_eq_take_append_cons_drop,if_pos hj]
 simp
theorem HS{α:Type}[aK α](l:List α){n:Nat}(hn:n=aK.w α){j:Int}(h0:0<=j)(h:j<l.length):j.toNat*n+n<=(flat l).length/\views (AB.sub (flat l) (j.toNat*n) n)=aK.cells (ix l j):=by
 have:=R2 l [] hn h0 h
 rwa[List.append_nil]at this
theorem Tr{α:Type}[aK α](l:List α){n:Nat}(hn:n=aK.w α)(x:α){j:Int}(h0:0<=j)(h:j<l.length):setAt (flat l) (j.toNat*n) (aK.cells x)=flat (l.set j.toNat x):=by
 have:=Yf l [] hn x h0 h
 rwa[List.append_nil,List.append_nil]at this
end Go.AB
end
