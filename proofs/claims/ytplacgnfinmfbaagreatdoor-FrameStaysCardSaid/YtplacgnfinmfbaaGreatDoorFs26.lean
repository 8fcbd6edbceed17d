/- A part. -/
import Derived.Test.YtplacgnfinmfbaaGreatDoorFs25
import Derived.Test.YtplacgnfinmfbaaGreatDoorFs24
set_option linter.unusedSimpArgs false
set_option linter.unusedVariables false
section
set_option maxRecDepth 16000
namespace Go.AB
open Go
open Go.Proofs.Tryz (prog)
attribute[-go_sem] Nat.add_zero pj cT
def xQ(v_0:aa)(ey:aH)(x_2:aa):Option aa:=none
theorem FL{v_0:aa}{ey:aH}{x_2:aa}{s:ae}{r:aa}(h:xQ v_0 ey x_2=some r):FE prog 30 [oV v_0,.str ey.b,oV x_2] s [oV r] s:=by cases h
def kY(l_0:(List aa)):Option (aa):=
 jn (
  iter (fun((v3,i4):aa×Int)=>
   if decide (aw (i4+1)<(l_0.length:Int))then
    aL (0<=i4/\i4<l_0.length)<|
    aL (0<=aw (i4+1)/\aw (i4+1)<l_0.length)<|
    aP (xQ v3 ((ix l_0 i4).S) (ix l_0 (aw (i4+1)))) fun r7=>
    some (.inl (r7,aw (i4+2)))
   else
    some (.inr v3)) ((aa.mk 7 0 (aH.mk []) ([]:List aa)),0)) fun(v2:aa)=>
 some v2
def rW:IC:=dec 0x18085dfb18e6ca827f165f14e062d6f0fdf11b32467ab35fca26017b14e34b45687b8ab477e24b6ca2fd4a46ab88cc500d5772e053732dafc449df1999e19bec8afeed70e267dc19a800a9da1277367e2ec1cda689f78a503aa059dcc47d9416df736d32a606d21cfa16b9fed78fed091826a263c3549f991eb37e0092753a
theorem Bt:aS prog 13 26 [⟨2,false,some (4,true)⟩] rW=true:=by kernel_rfl
theorem BL{l_0}{s:ae}{Q:List AV->ae->Prop}:ok (kY l_0) (fun r=>Q [oV r] s)->FN prog 13 [sF 4 l_0] s Q:=by
 intro h
 refine FO Bt rfl rfl ?_
 revert h
 rw[rW,kY]
 conv in dec _=>reduce
 repeat'(first
  |(with_reducible first|exact cU|refine bP ?_ ?_|refine cX ?_|refine cK (fun _(h:xQ v3 ((ix l_0 i4).S) (ix l_0 (aw (i4+1)))=some _)=>FL h) (fun _=>rfl) (fun r7=>?_))
  |((with_reducible refine dk (fun((v3,i4):aa×Int)=>⟨[(0,sF 4 l_0),(2,.loc [.int .i64 0,.int .i64 0,.str (aH.mk []).b,.sl true 4 0 []]),(3,.loc [.int .i64 v3.Kind,.int .i64 v3.N,.str v3.S.b,sF 4 v3.L]),(4,.int .i64 i4)],[],s⟩) ?_ ?_);(first|exact rfl|simp -implicitDefEqProofs only[go_sem,seval]);rintro J ⟨v3,i4⟩)
  |((with_reducible refine dm (fun(v2:aa)=>⟨[(2,.loc [.int .i64 0,.int .i64 0,.str (aH.mk []).b,.sl true 4 0 []]),(3,.loc [.int .i64 v2.Kind,.int .i64 v2.N,.str v2.S.b,sF 4 v2.L])],[],s⟩) (fun J=>?_) ?_);rotate_left;rintro v2)
  |simp -implicitDefEqProofs only[go_sem,seval])
theorem BK{l_0}{s:ae}{r:aa}(h:kY l_0=some r):FE prog 13 [sF 4 l_0] s [oV r] s:=BL ⟨r,h,rfl,rfl⟩
def fp:Option (Bool):=
 aP (jb 7) fun r1=>
 aP (ib r1) fun r2=>
 aP (lS 5 r2 true) fun r3=>
 aP (cJ [53,32,48,32,111,98,106,10,60,60,47,76,101,110,103,116,104,32,50,62,62,10,115,116,114,101,97,109,10,97,98,10,101,110,100,115,116,114,101,97,109,10,101,110,100,111,98,106,10] 0 false) fun r4=>
 aP (en ((((((((aH.mk r3.1).b==(aH.mk [53,32,48,32,111,98,106,10,55,10,101,110,100,111,98,106,10]).b)&&(r3.2==0))&&(r4.1==5))&&r4.2.1.Stream)&&(r4.2.1.Data.b==(aH.mk [97,98]).b))&&(r4.2.2.1==48))&&(r4.2.2.2==0)) (aa.mk 0 0 (aH.mk []) []) (kY ([]:List aa))) fun r5=>
 aP (en ((((((((aH.mk r3.1).b==(aH.mk [53,32,48,32,111,98,106,10,55,10,101,110,100,111,98,106,10]).b)&&(r3.2==0))&&(r4.1==5))&&r4.2.1.Stream)&&(r4.2.1.Data.b==(aH.mk [97,98]).b))&&(r4.2.2.1==48))&&(r4.2.2.2==0)) (a8.mk (aa.mk 0 0 (aH.mk []) []) false (aH.mk [])) (ie r5 (aH.mk [97,98]))) fun r6=>
 aP (en ((((((((aH.mk r3.1).b==(aH.mk [53,32,48,32,111,98,106,10,55,10,101,110,100,111,98,106,10]).b)&&(r3.2==0))&&(r4.1==5))&&r4.2.1.Stream)&&(r4.2.1.Data.b==(aH.mk [97,98]).b))&&(r4.2.2.1==48))&&(r4.2.2.2==0)) false (fG r4.2.1 r6)) fun r7=>
 some (((((((((aH.mk r3.1).b==(aH.mk [53,32,48,32,111,98,106,10,55,10,101,110,100,111,98,106,10]).b)&&(r3.2==0))&&(r4.1==5))&&r4.2.1.Stream)&&(r4.2.1.Data.b==(aH.mk [97,98]).b))&&(r4.2.2.1==48))&&(r4.2.2.2==0))&&r7)
def tj:IC:=dec 0x1194ac1d54f7fcd512471c62334218a40510471190178d19a4930a627f3ece81caf878e963a79d11077d0f50965d715f46551d03832ce1960896453121a9cb0d685f0d5fc215549af242f9096e1cb9b8eb02c9da99f86495b22abc67b34e90b1e4bbfa442a20b5bb0fc6adc93bfb416cb16d5bb435d84c919a06ec60b038213a48e81acf2879f9134512a34679c807ecbba5a171b0c2f3c900ecd27359701ec1baa62e1cd2ec7fe4bc953787295bf460e654e7b9d11399742148df516a83e39019c79d151842d0bc4c66efa3fe16fbad663ea4f4d5ad56af275e8c4ed46c1472deb47300a65f773f55a330c4541e646b8701073895a68f5c97b6aa534d6ac93aff1ad54467427e8bd6b13046286265e5d56fee09d571f81abec0791c3f733b142a77471d901bf82fbdaefdbec79075a5372747dabf42a025777ff85b8246845d49f7250ebe650b6b45b6ef992c8d769168724d2ad9ef21c72db695f47840564a7951c952b5bb5bb5bb5bb5bb5bb5bb5bb5bb5bb5bb5bb5bb5bb5bb5bb5bb5bb5bb5bb5bb5bb5bb5bb5bb5bb5bb5bb5bb5bb5bb5bb5bb5bb5bb5bb5bb5bb5bb5bb5bb5bb5bb5bb5bb5bb9d0705b7ac5a980962ceed85e7f95aa8096449eac528c4c95fc2922a52bdbbe417417640a7a
theorem Df:aS prog 5 55 [⟨0,true,none⟩] tj=true:=by kernel_rfl
theorem Dw{s:ae}{Q:List AV->ae->Prop}:ok (fp) (fun r=>Q [.bool r] s)->FN prog 5 [] s Q:=by
 intro h
 refine FO Df rfl rfl ?_
 revert h
 rw[tj,fp]
 conv in dec _=>reduce
 repeat'(first
  |(with_reducible first|refine aF (fun _(h:jb 7=some _)=>uG h) (fun r1=>?_)|refine aF (fun _(h:ib r1=some _)=>rN h) (fun r2=>?_)|refine aF (fun _(h:lS 5 r2 true=some _)=>CS h) (fun r3=>?_)|refine aF (fun _(h:cJ [53,32,48,32,111,98,106,10,60,60,47,76,101,110,103,116,104,32,50,62,62,10,115,116,114,101,97,109,10,97,98,10,101,110,100,115,116,114,101,97,109,10,101,110,100,111,98,106,10] 0 false=some _)=>(by refine mX ?_ (kB h);simp -implicitDefEqProofs only[go_sem,seval])) (fun r4=>?_)|refine dn rfl (fun _(h:kY ([]:List aa)=some _)=>(by refine mX ?_ (BK h);simp -implicitDefEqProofs only[go_sem,seval])) (fun _=>rfl) (fun r5=>?_)|refine dn rfl (fun _(h:ie r5 (aH.mk [97,98])=some _)=>rO h) (fun _=>rfl) (fun r6=>?_)|refine dn rfl (fun _(h:fG r4.2.1 r6=some _)=>pB h) (fun _=>rfl) (fun r7=>?_))
  |simp -implicitDefEqProofs only[go_sem,seval])
theorem tV{s:ae}{r:Bool}(h:fp=some r):FE prog 5 [] s [.bool r] s:=Dw ⟨r,h,rfl,rfl⟩
def gF(b_0:(List UInt8))(n_1:UInt16)(aM:Bool):Option (Bool):=
 if decide ((b_0.length:Int)>400)then
  aP (fp) fun r1=>
  some r1
 else
  aL (aw ((b_0.length:Int)+1)≠0)<|
  aL (0<=(0:Int)/\0<=Int.tmod (aw ((n_1.toNat:Int))) (aw ((b_0.length:Int)+1))/\Int.tmod (aw ((n_1.toNat:Int))) (aw ((b_0.length:Int)+1))<=b_0.length)<|
  aP (cJ (part b_0 0 (Int.tmod (aw ((n_1.toNat:Int))) (aw ((b_0.length:Int)+1)))) 0 false) fun r2=>
  if r2.2.2.2==6 then
   aP (fp) fun r3=>
   some r3
  else
   aP (cJ b_0 0 aM) fun r4=>
   aL (0<=(0:Int)/\0<=Int.tmod (aw ((n_1.toNat:Int))) (aw ((b_0.length:Int)+1))/\Int.tmod (aw ((n_1.toNat:Int))) (aw ((b_0.length:Int)+1))<=b_0.length)<|
   aP (cJ (part b_0 0 (Int.tmod (aw ((n_1.toNat:Int))) (aw ((b_0.length:Int)+1)))) 0 true) fun r5=>
   aP (en (r2.1==r4.1) false (fG r2.2.1 r4.2.1)) fun r6=>
   aP (en (((((r2.1==r4.1)&&r6)&&(r2.2.2.1==r4.2.2.1))&&(r2.2.2.2==r4.2.2.2))&&(r2.1==r5.1)) false (fG r2.2.1 r5.2.1)) fun r7=>
   aP (en ((((((((r2.1==r4.1)&&r6)&&(r2.2.2.1==r4.2.2.1))&&(r2.2.2.2==r4.2.2.2))&&(r2.1==r5.1))&&r7)&&(r2.2.2.1==r5.2.2.1))&&(r2.2.2.2==r5.2.2.2)) false (fp)) fun r8=>
   some (((((((((r2.1==r4.1)&&r6)&&(r2.2.2.1==r4.2.2.1))&&(r2.2.2.2==r4.2.2.2))&&(r2.1==r5.1))&&r7)&&(r2.2.2.1==r5.2.2.1))&&(r2.2.2.2==r5.2.2.2))&&r8)
def mR:IC:=dec 0x93c94946dfd07994083d006c6870ee632ae5d99d539e38592e0d3d5beef3d88b6b5b28f5a9df3b2365ead5800a959a6150866770e99db36136e68e63607d226048d0e23666ff098fa54ca9142ea56ea123a9f0da3f1fa769c5e4a28920ff7b04782cefde8c8957751b5408d5d47073c8df091ab49d395a26fe936dd863e33243e2778e21df44658708b423801893014bec61712cc1e03f04818b3f3a767e3f34d5c45abf05062e65810351c5cefd6c08d21a02c7ac0c919666f1195639dc96c25d1f49440d7287a1a07556319abacb1d939a1594c3247e0f19e13ec4949c06ded230886b2fff5be86daa0a731eccad76b3fb8bceb430ef7318e3469c110755a8be30c59ee941f73e90b5f751cffac4ed81674abbf2e7fa507350672a5d5b2ffbb937fcf5fd010a40c4524bcd7f935794c012b7ea9e9ee4338008f48a274e9cbe5c340f9b2aa2e95561623162b31ea129c1b139a7930952bf8de8a2ad1cdb226867c6810981a4c0ba
theorem vP:aS prog 4 100 [⟨6,true,none⟩] mR=true:=by kernel_rfl
theorem vW{b_0 n_1 aM}{s:ae}{Q:List AV->ae->Prop}:ok (gF b_0 n_1 aM) (fun r=>Q [.bool r] s)->FN prog 4 [sF 1 b_0,.int .u16 n_1.toNat,.bool aM] s Q:=by
 intro h
 refine FO vP rfl rfl ?_
 revert h
 rw[mR,gF]
 conv in dec _=>reduce
 repeat'(first
  |(with_reducible first|exact cU|refine bP ?_ ?_|refine cX ?_)
  |((fail_if_success (have _x:=r1));with_reducible refine aF (fun _(h:fp=some _)=>tV h) (fun r1=>?_))
  |(with_reducible first|refine aF (fun _(h:cJ (part b_0 0 (Int.tmod (aw ((n_1.toNat:Int))) (aw ((b_0.length:Int)+1)))) 0 false=some _)=>kB h) (fun r2=>?_)|refine aF (fun _(h:cJ b_0 0 aM=some _)=>kB h) (fun r4=>?_)|refine aF (fun _(h:cJ (part b_0 0 (Int.tmod (aw ((n_1.toNat:Int))) (aw ((b_0.length:Int)+1)))) 0 true=some _)=>kB h) (fun r5=>?_)|refine dn rfl (fun _(h:fG r2.2.1 r4.2.1=some _)=>pB h) (fun _=>rfl) (fun r6=>?_)|refine dn rfl (fun _(h:fG r2.2.1 r5.2.1=some _)=>pB h) (fun _=>rfl) (fun r7=>?_))
  |((fail_if_success (have _x:=r8));with_reducible refine dn rfl (fun _(h:fp=some _)=>tV h) (fun _=>rfl) (fun r8=>?_))
  |simp -implicitDefEqProofs only[go_sem,seval])
theorem vV{b_0 n_1 aM}{s:ae}{r:Bool}(h:gF b_0 n_1 aM=some r):FE prog 4 [sF 1 b_0,.int .u16 n_1.toNat,.bool aM] s [.bool r] s:=vW ⟨r,h,rfl,rfl⟩
end Go.AB
end
section
namespace Go.AB
open Go
def pr(s:aH)(v:aa):VL:=[⟨5,0,s,[]⟩,v]
def ko(C:List VL):Prop:=∀c∈C,∃s v,c=pr s v
def nm(c:VL):List UInt8:=(ix c 0).S.b
theorem X3(s:aH)(v:aa):nm (pr s v)=s.b:=rfl
theorem ko.len:∀{C:List VL},ko C->C.flatten.length=2*C.length
 |[],_=>rfl
 |c::C,h=>by
  obtain⟨s,v,rfl⟩:=h c (by simp)
  have:=ko.len (C:=C) fun c hc=>h c (by simp[hc])
  rw[List.flatten_cons,List.length_append,this,List.length_cons]
  show 2+_=_
  omega
theorem ko.get:∀{C:List VL},ko C->∀(q:Nat)(h:q<C.length),∃s v,C[q]=pr s v/\C.flatten[2*q]? =some ⟨5,0,s,[]⟩/\C.flatten[2*q+1]? =some v
 |[],_,q,h=>by cases h
 |c::C,hC,q,h=>by
  obtain⟨s,v,rfl⟩:=hC c (by simp)
  cases q with
  |zero=>exact⟨s,v,rfl,rfl,rfl⟩
  |succ q=>
   obtain⟨s',v',e1,e2,e3⟩:=ko.get (C:=C) (fun c hc=>hC c (by simp[hc])) q (by simpa using h)
   refine⟨s',v',by simpa using e1,?_,?_⟩
   ·rw[List.flatten_cons,List.getElem?_append_right (by show 2<=_;omega),show 2*(q+1) -(pr s v).length=2*q by show 2*(q+1) -2=_;omega]
    exact e2
   ·rw[List.flatten_cons,List.getElem?_append_right (by show 2<=_;omega),show 2*(q+1)+1 -(pr s v).length=2*q+1 by show 2*(q+1)+1 -2=_;omega]
    exact e3
theorem y8{α:Type}[bp α]{l:List α}{k:Nat}{x:α}(h:l[k]? =some x):ix l (k:Int)=x:=by grind [List.getElem?_eq_some_iff,fo]
def dV(C:List VL):aa:=⟨7,0,⟨[]⟩,C.flatten⟩
theorem UT{C:List VL}(hC:ko C)(hl:C.length<2^40)(key:aH):(dF (dV C) key=some (-1)/\∀c∈C,nm c≠key.b)\/(∃q:Nat,q<C.length/\dF (dV C) key=some ((2*q:Nat):Int)/\∃c∈C,nm c=key.b):=by
 have hlen:=hC.len
 unfold dF
 obtain⟨o,h1,h2⟩:=fh (body:=fun(k2:Int)=>
  if((dV C).Kind==7)&&(decide (k2<((dV C).L.length:Int)))then
   aL (0<=k2/\k2<(dV C).L.length)<|
   aL ((((ix (dV C).L k2).Kind)==5)=true->0<=k2/\k2<(dV C).L.length)<|
   if(((ix (dV C).L k2).Kind)==5)&&(((ix (dV C).L k2).S).b==key.b)then
    some (.inr (.inr k2))
   else
    some (.inl (aw (k2+2)))
  else
   some (.inr (.inl ()))) (s0:=0) (fun k2=>∃q:Nat,k2=((2*q:Nat):Int)/\q<=C.length/\∀c∈C.take q,nm c≠key.b) (fun k2=>(2*C.length -k2.toNat)) (fun o:Unit⊕Int=>match o with
    |.inl _=>∀c∈C,nm c≠key.b
    |.inr i=>∃q:Nat,q<C.length/\i=((2*q:Nat):Int)/\∃c∈C,nm c=key.b)
  ⟨0,rfl,Nat.zero_le _,fun c hc=>by simp at hc⟩ (by omega) (by
    rintro k2 ⟨q,rfl,hq,hno⟩
    have hL:(dV C).L.length=2*C.length:=hlen
    by_cases hlt:q<C.length
    ·obtain⟨s,v,e1,e2,e3⟩:=hC.get q hlt
     have i1:ix (dV C).L ((2*q:Nat):Int)=⟨5,0,s,[]⟩:=y8 e2
     have hc:(((dV C).Kind==7)&&(decide (((2*q:Nat):Int)<((dV C).L.length:Int))))=true:=by rw[show((dV C).Kind==7)=true from rfl,Bool.true_and,hL];simp;omega
     have hr:0<=((2*q:Nat):Int)/\((2*q:Nat):Int)<(dV C).L.length:=by rw[hL];omega
     rw[if_pos hc,bB hr,bB (fun _=>hr),i1]
     cases hs:(s.b==key.b)with
     |true=>
      refine⟨.inr (.inr ((2*q:Nat):Int)),if_pos rfl,q,hlt,rfl,C[q],List.getElem_mem hlt,?_⟩
      grind [X3]
     |false=>
      refine⟨.inl (aw (((2*q:Nat):Int)+2)),by grind,⟨q+1,by grind [ar],hlt,fun c hc=>?_⟩,by grind [ar]⟩
      grind [List.take_succ_eq_append_getElem,X3]
    ·have hc:¬(((dV C).Kind==7)&&(decide (((2*q:Nat):Int)<((dV C).L.length:Int))))=true:=by
      rw[show((dV C).Kind==7)=true from rfl,Bool.true_and,hL];simp;omega
     rw[if_neg hc]
     grind)
 rw[h1]
 cases o with
 |inl u=>simp_all
 |inr i=>simp_all
theorem nle{x y:List UInt8}:(!(Op.bytesLess y x||(y==x)))=Op.bytesLess x y:=by
 cases h:Op.bytesLess x y with
 |true=>
  have h2:=m7.Nl _ _ h
  grind
 |false=>grind [Op.bytesLess,pg]
theorem Vg{C:List VL}(hC:ko C)(s:aH)(v:aa):ko (zT (pr s v) C):=fun c hc=>by
 rcases List.mem_cons.1 ((lz _ C).mem_iff.1 hc)with rfl|hc
 ·grind
 ·exact hC c hc
theorem Kf(x:VL):∀(C:List VL),∃A B,C=A++B/\zT x C=A++x::B/\(∀c∈A,jL x c=false)/\∀c,B.head?=some c->jL x c=true
 |[]=>⟨[],[],rfl,rfl,fun c h=>(by cases h),fun c h=>(by cases h)⟩
 |y::t=>by
  unfold zT
  cases h:jL x y with
  |true=>exact⟨[],y::t,rfl,by grind,fun c h=>(by cases h),fun c hc=>by grind⟩
  |false=>
   obtain⟨A,B,e1,e2,h1,h2⟩:=Kf x t
   grind
theorem DX(C:List VL)(s:aH)(v:aa):(C++[pr s v]).flatten=C.flatten++[⟨5,0,s,[]⟩,v]:=by rw[List.flatten_append];rfl
theorem Wa{C:List VL}(hC:ko C)(hl:C.length<2^30)(key:aH)(x:aa)(hf:dF (dV C) key=some (-1)):nw (dV C) key x=some (dV (zT (pr key x) C)):=by
 have cf:room=140737488355328:=rfl
 obtain⟨A,B,eC,eI,hA,hB⟩:=Kf (pr key x) C
 have hlen:=hC.len
 have hL:(dV C).L.length=2*C.length:=hlen
 have hCl:C.length=A.length+B.length:=by rw[eC,List.length_append]
 let S:Nat->List VL:=fun q=>if q<=A.length then A.take q else A++pr key x::B.take (q -A.length)
 have hS:∀q,q<=C.length->ko (S q)/\(S q).length<=q+1:=fun q hq=>by
  show ko (if _ then _ else _)/\(if _ then _ else _:List VL).length<=_
  split
  ·exact⟨fun c hc=>hC c (by grind),by grind⟩
  ·refine⟨fun c hc=>?_,by grind⟩
   rcases List.mem_append.1 hc with hc|hc
   ·exact hC c (by grind)
   ·rcases List.mem_cons.1 hc with rfl|hc
    ·grind
    ·exact hC c (by grind)
 have hSl:∀q,q<=C.length->(S q).flatten.length<=2*q+2:=fun q hq=>by rw[(hS q hq).1.len];grind
 unfold nw
 refine an (by show¬((7:Int)!=7)=true;decide) (aj hf ?_)
 refine dI (a:=((S C.length).flatten,decide (C.length>A.length))) (gD C.length (fun q=>((S q).flatten,decide (q>A.length),((2*q:Nat):Int))) ?_ (by omega) (fun q hq=>?_) ?_) ?_
 ·grind
 ·obtain⟨s,v,e1,e2,e3⟩:=hC.get q hq
  have i1:ix (dV C).L ((2*q:Nat):Int)=⟨5,0,s,[]⟩:=y8 e2
  have i2:ix (dV C).L (((2*q:Nat):Int)+1)=v:=by have:=y8 e3;rw[<-this];rfl
  have w1:aw (((2*q:Nat):Int)+1)=((2*q:Nat):Int)+1:=ar (by omega) (by omega)
  have w2:aw (((2*q:Nat):Int)+2)=((2*(q+1):Nat):Int):=by rw[ar (by omega) (by omega)];omega
  have hr:0<=((2*q:Nat):Int)/\((2*q:Nat):Int)<(dV C).L.length:=by rw[hL];omega
  have hr2:0<=((2*q:Nat):Int)+1/\((2*q:Nat):Int)+1<(dV C).L.length:=by rw[hL];omega
  have hsl:=hSl q (by omega)
  have lt1:decide (((2*q:Nat):Int)<((dV C).L.length:Int))=true:=decide_eq_true hr.2
  have lt2:decide (((2*q:Nat):Int)+1<((dV C).L.length:Int))=true:=decide_eq_true hr2.2
  have ne1:(((2*q:Nat):Int)==-1)=false:=by simp;omega
  let M:List aa:=if q=A.length then(S q).flatten++[⟨5,0,key,[]⟩,x]else(S q).flatten
  have hM:M.length<=2*q+4:=by
   show(if _ then _ else _:List aa).length<=_
   split
   ·grind
   ·omega
  have adZ:M++[⟨5,0,s,[]⟩]++[v]=(S (q+1)).flatten:=by
   show(if _ then _ else _:List aa)++_++_=(if _ then _ else _:List VL).flatten
   by_cases h1:q<A.length
   ·have ea:A[q]=C[q]:=by simp only[eC];rw[List.getElem_append_left h1]
    rw[if_neg (by omega),if_pos (by omega)]
    show(if _ then _ else _:List VL).flatten++_++_=_
    rw[if_pos (by omega),List.take_succ_eq_append_getElem h1,ea,e1,DX]
    simp
   ·have hb1:q -A.length<B.length:=by omega
    have eb:B[q -A.length]=C[q]:=by simp only[eC];rw[List.getElem_append_right (by omega)]
    have e4:A++pr key x::B.take (q+1 -A.length)=(A++pr key x::B.take (q -A.length))++[pr s v]:=by rw[show q+1 -A.length=(q -A.length)+1 by omega,List.take_succ_eq_append_getElem hb1,eb,e1];simp
    rw[if_neg (c:=q+1<=A.length) (by omega),e4,DX]
    by_cases h2:q=A.length
    ·rw[if_pos h2]
     show(if _ then _ else _:List VL).flatten++_++_++_=_
     rw[if_pos (by omega),List.take_of_length_le (by omega),show q -A.length=0 by omega,List.take_zero,DX]
     simp
    grind
  refine aN lt1 (dI (a:=((S (q+1)).flatten,decide (q+1>A.length))) (dI (a:=(M,decide (q+1>A.length))) (ay (fun _=>hr) (ay (fun _=>hr) ?_)) (ay hr (ay ?_ ?_))) ?_)
  ·show(if(((decide ((-1:Int)<0)&&(!decide (q>A.length)))&&((ix (dV C).L ((2*q:Nat):Int)).Kind==5))&&(!(Op.bytesLess (ix (dV C).L ((2*q:Nat):Int)).S.b key.b||((ix (dV C).L ((2*q:Nat):Int)).S.b==key.b))))=true then _ else _)=_
   rw[i1,nle]
   show(if(((true&&(!decide (q>A.length)))&&true)&&Op.bytesLess key.b s.b)=true then _ else _)=_
   by_cases h1:q=A.length
   ·have hbl:Op.bytesLess key.b s.b=true:=by
     have hb0:B.head?=some C[q]:=by
      have:C[q]=B[0]'(by omega):=by simp only[eC];rw[List.getElem_append_right (by omega)];congr 1;omega
      rw[this,List.head?_eq_getElem?,List.getElem?_eq_getElem (by omega)]
     have:=hB _ hb0
     rw[e1]at this;exact this
    rw[if_pos (by grind)]
    refine ay (by grind) ?_
    grind
   ·have hno:¬(((true&&(!decide (q>A.length)))&&true)&&Op.bytesLess key.b s.b)=true:=by
     by_cases h2:q<A.length
     ·have:jL (pr key x) C[q]=false:=hA _ (by
       grind)
      rw[e1]at this
      have this:Op.bytesLess key.b s.b=false:=this
      grind
     ·simp;omega
    grind
  ·grind
  ·show(if((((2*q:Nat):Int))==-1)=true then _ else _)=_
   rw[ne1,if_neg (by decide),w1,lt2,if_pos rfl,bB hr2,i1,i2,bB (by grind)]
   rw[adZ]
  grind
 ·grind
 ·have hsl:=hSl C.length (Nat.le_refl _)
  refine dI (a:=(zT (pr key x) C).flatten) ?_ rfl
  show(if(decide ((-1:Int)<0)&&(!decide (C.length>A.length)))=true then _ else _)=_
  rw[eI]
  by_cases h1:B=[]
  ·subst h1
   have h2:C.length=A.length:=by rw[hCl];rfl
   rw[if_pos (by rw[h2];simp)]
   refine ay (by grind) ?_
   show some ((if _ then _ else _:List VL).flatten++[⟨5,0,key,[]⟩,x])=_
   rw[if_pos (by omega),h2,List.take_of_length_le (Nat.le_refl _),show A++pr key x::[]=A++[pr key x] from rfl,DX]
  ·have h2:0<B.length:=List.length_pos_iff.2 h1
   rw[if_neg (by simp;omega)]
   show some ((if _ then _ else _:List VL).flatten)=_
   rw[if_neg (by omega),show C.length -A.length=B.length by omega,List.take_of_length_le (Nat.le_refl _)]
theorem Wb{C:List VL}(hC:ko C)(hl:C.length<2^30)(key:aH)(x:aa){q0:Nat}(hq0:q0<C.length)(hf:dF (dV C) key=some ((2*q0:Nat):Int)):∃C',nw (dV C) key x=some (dV C')/\ko C'/\C'.length=C.length/\∀c∈C',c∈C\/∃s,c=pr s x:=by
 have cf:room=140737488355328:=rfl
 obtain⟨s0,v0,g1,_,_⟩:=hC.get q0 hq0
 have hlen:=hC.len
 have hL:(dV C).L.length=2*C.length:=hlen
 let D:List VL:=C.set q0 (pr s0 x)
 have hDl:D.length=C.length:=List.length_set ..
 have hD:ko D:=fun c hc=>by
  rcases List.mem_or_eq_of_mem_set hc with hc|rfl
  ·exact hC c hc
  grind
 have hS:∀q,q<=C.length->(D.take q).flatten.length=2*q:=fun q hq=>by
  have:=ko.len (C:=D.take q) fun c hc=>hD c (List.mem_of_mem_take hc)
  grind
 refine⟨D,?_,hD,hDl,fun c hc=>(List.mem_or_eq_of_mem_set hc).imp id fun e=>⟨s0,e⟩⟩
 unfold nw
 refine an (by show¬((7:Int)!=7)=true;decide) (aj hf ?_)
 have hr0:decide (((2*q0:Nat):Int)<0)=false:=decide_eq_false (by omega)
 refine dI (a:=((D.take C.length).flatten,false)) (gD C.length (fun q=>((D.take q).flatten,false,((2*q:Nat):Int))) rfl (by omega) (fun q hq=>?_) ?_) ?_
 ·obtain⟨s,v,e1,e2,e3⟩:=hC.get q hq
  have i1:ix (dV C).L ((2*q:Nat):Int)=⟨5,0,s,[]⟩:=y8 e2
  have i2:ix (dV C).L (((2*q:Nat):Int)+1)=v:=by have:=y8 e3;rw[<-this];rfl
  have w1:aw (((2*q:Nat):Int)+1)=((2*q:Nat):Int)+1:=ar (by omega) (by omega)
  have w2:aw (((2*q:Nat):Int)+2)=((2*(q+1):Nat):Int):=by rw[ar (by omega) (by omega)];omega
  have hr:0<=((2*q:Nat):Int)/\((2*q:Nat):Int)<(dV C).L.length:=by rw[hL];omega
  have hr2:0<=((2*q:Nat):Int)+1/\((2*q:Nat):Int)+1<(dV C).L.length:=by rw[hL];omega
  have hsl:=hS q (by omega)
  have lt1:decide (((2*q:Nat):Int)<((dV C).L.length:Int))=true:=decide_eq_true hr.2
  have lt2:decide (((2*q:Nat):Int)+1<((dV C).L.length:Int))=true:=decide_eq_true hr2.2
  have hn:(D.take (q+1)).flatten=(D.take q).flatten++D[q]'(by omega):=by rw[List.take_succ_eq_append_getElem (by omega),List.flatten_append];simp
  refine aN lt1 (dI (a:=((D.take (q+1)).flatten,false)) (dI (a:=((D.take q).flatten,false)) (ay (fun _=>hr) (ay (fun _=>hr) ?_)) (ay hr (ay ?_ ?_))) ?_)
  ·grind
  ·grind
  ·show(if(((2*q:Nat):Int)==((2*q0:Nat):Int))=true then _ else _)=_
   rw[hn]
   by_cases h1:q=q0
   ·subst h1
    have:D[q]'(by omega)=pr s0 x:=by show(C.set q (pr s0 x))[q]'_=_;rw[List.getElem_set_self]
    have es:s=s0:=by rw[e1]at g1;injection g1 with g1;injection g1
    rw[if_pos (by simp),i1,bB (by grind),this,es]
    show some (((D.take q).flatten++[_])++[x],false)=some ((D.take q).flatten++[_,x],false)
    simp
   ·have:D[q]'(by omega)=pr s v:=by show(C.set q0 (pr s0 x))[q]'_=_;rw[List.getElem_set_ne (fun e=>h1 e.symm)];exact e1
    rw[if_neg (by simp;omega),w1,lt2,if_pos rfl,bB hr2,i1,i2,bB (by grind),this]
    show some (((D.take q).flatten++[_])++[v],false)=some ((D.take q).flatten++[_,v],false)
    simp
  grind
 ·grind
 ·refine dI (a:=D.flatten) ?_ rfl
  grind
def Dn(C:List VL):Prop:=C.Pairwise fun x y=>nm x≠nm y
theorem Dn.perm{C D:List VL}(h:C.Perm D):Dn C↔Dn D:=h.pairwise_iff fun h e=>h e.symm
set_option maxRecDepth 4000
section
variable{b:List UInt8}{last:Bool}
end
structure DI(l:List aa)(d:aa)(tw:Bool)(Cs C:List VL):Prop where
 l:l=Cs.flatten
 ps:ko Cs
 d:d=dV C
 pc:ko C
 len:C.length<=Cs.length
 no:tw=false->C.Perm Cs/\fk jL C/\Dn Cs
 yes:tw=true->¬Dn Cs
theorem DI.nil:DI [] (dV []) false [] []:=⟨rfl,fun c h=>(by cases h),rfl,fun c h=>(by cases h),Nat.le_refl _,fun _=>⟨List.Perm.refl _,List.Pairwise.nil,List.Pairwise.nil⟩,fun h=>(by cases h)⟩
theorem Dn.app{C:List VL}{c:VL}(h:Dn C)(hn:∀x∈C,nm x≠nm c):Dn (C++[c]):=List.pairwise_append.2 ⟨h,List.pairwise_singleton _ _,fun x hx y hy=>by
 have:y=c:=by simpa using hy
 rw[this];exact hn x hx⟩
theorem DI.put{l:List aa}{d:aa}{tw:Bool}{Cs C:List VL}(h:DI l d tw Cs C)(hl:Cs.length<2^29)(s:aH)(v:aa):∃i d',aP (en (!tw) 0 (dF d s)) (fun r16=>aP (nw d s v) fun r17=>(some (r17,tw||decide (r16>=0)):Option (aa×Bool)))=some (d',i)/\∃C',DI (l++[⟨5,0,s,[]⟩,v]) d' i (Cs++[pr s v]) C'/\∀c∈C',c∈C\/∃s',c=pr s' v:=by
 obtain⟨rfl,ps,rfl,pc,len,no,yes⟩:=h
 have ps2:ko (Cs++[pr s v]):=fun c hc=>by
  rcases List.mem_append.1 hc with hc|hc
  ·exact ps c hc
  ·exact⟨s,v,by simpa using hc⟩
 have el:Cs.flatten++[⟨5,0,s,[]⟩,v]=(Cs++[pr s v]).flatten:=(DX Cs s v).symm
 have aeU:¬Dn Cs->¬Dn (Cs++[pr s v]):=fun h1 h2=>h1 (List.pairwise_append.1 h2).1
 rcases UT pc (by omega) s with⟨hf,hno⟩|⟨q,hq,hf,c,hc,hcn⟩
 ·have hp:=Wa pc (by omega) s v hf
  refine⟨tw,dV (zT (pr s v) C),?_,zT (pr s v) C,⟨el,ps2,rfl,Vg pc s v,?_,fun htw=>?_,fun htw=>aeU (yes htw)⟩,fun c hc=>(List.mem_cons.1 ((lz _ C).mem_iff.1 hc)).symm.imp id fun e=>⟨s,e⟩⟩
  ·rw[hf,hp]
   cases tw<;>rfl
  ·rw[(lz _ C).length_eq,List.length_append];show C.length+1<=Cs.length+1;omega
  ·obtain⟨p1,p2,p3⟩:=no htw
   refine⟨((lz _ C).trans (p1.cons _)).trans (List.perm_append_singleton _ _).symm,C0 _ p2,p3.app fun x hx=>?_⟩
   exact hno x (p1.mem_iff.2 hx)
 ·obtain⟨C',hp,h1,h2,hmm⟩:=Wb pc (by omega) s v hq hf
  refine⟨true,dV C',?_,C',⟨el,ps2,rfl,h1,by rw[h2,List.length_append];omega,(fun h=>by cases h),fun _=>?_⟩,hmm⟩
  ·rw[hf,hp]
   cases tw with
   |true=>rfl
   |false=>
    show some (dV C',false||decide (((2*q:Nat):Int)>=0))=_
    rw[decide_eq_true (by omega)];rfl
  ·cases tw with
   |true=>exact aeU (yes rfl)
   |false=>
    obtain⟨p1,_,_⟩:=no rfl
    intro h3
    have hm:=p1.mem_iff.1 hc
    exact(List.pairwise_append.1 h3).2.2 c hm (pr s v) (by simp) (by rw[hcn];rfl)
section
variable{b:List UInt8}{last:Bool}
abbrev Mc:=qG ry
def Dlv(b:List UInt8)(last:Bool)(m:Nat)(st:List aQ)(v:aa)(j:Nat)(o:aa×Int×Int):Prop:=match st with
 |[]=>o=(v,(j:Int),0)
 |w::ws=>Bc Mc m ⟨b,(j:Int),last,⟨w.fe,w.l_++[v]⟩::ws⟩ o
def J1(r:aa×Bool×Int×PS):Option (PS⊕(aa×Int×Int)):=
 bif r.2.2.1 !=0 then some (.inr (zV,0,r.2.2.1))else
 bif !r.2.1 then some (.inl r.2.2.2)else
 aL (r.2.2.2.st.length<=64)<|match r.2.2.2.st with
 |[]=>some (.inr (r.1,r.2.2.2.at_,0))
 |v::vs=>aL ((v.l_.length+1)*56<=room)<|some (.inl {r.2.2.2 with st:=⟨v.fe,v.l_++[r.1]⟩::vs})
theorem Of(hb:b.length<1048576){k:Nat}(hk:k<=b.length){st:List aQ}(eM:st.length<=64)(h:(iA b last k).2≠0):Mc ⟨b,(k:Int),last,st⟩=some (.inr (zV,0,(iA b last k).2)):=by
 unfold Mc qG
 rw[bB eM,Dv hb k hk,aJ]
 have:((iA b last k).2 !=0)=true:=by simpa using h
 rw[this,cond_true]
theorem Sd(hb:b.length<1048576){k:Nat}(hk:k<=b.length){st:List aQ}(eM:st.length<=64)(h:(iA b last k).2=0):Mc ⟨b,(k:Int),last,st⟩=aP (wL ry ⟨b,(iA b last k).1.To,last,st⟩ (iA b last k).1) J1:=by
 unfold Mc qG
 rw[bB eM,Dv hb k hk,aJ]
 have:((iA b last k).2 !=0)=false:=by rw[h];rfl
 rw[this,cond_false]
 rfl
theorem lQ{v:aa}{c:Bool}{e:Int}{p:PS}(h:e≠0):J1 (v,c,e,p)=some (.inr (zV,0,e)):=by
 unfold J1
 have:(e !=0)=true:=by simpa using h
 show(bif(e !=0)then _ else _)=_
 rw[this,cond_true]
end
section
variable{b:List UInt8}{last:Bool}
def YJ(b:List UInt8)(last:Bool)(k:Nat)(mst dst:List aQ)(v:aa)(to e:Int):Prop:=
 (e≠0->v=zV/\to=0/\∃m,m<=b.length+1 -k/\Bc Mc m ⟨b,(k:Int),last,mst⟩ (zV,0,e))/\
 (e=0->∃j:Nat,to=(j:Int)/\k<j/\j<=b.length/\∀m' o,Dlv b last m' dst v j o->∃m,m<=m'+(j -k)/\Bc Mc m ⟨b,(k:Int),last,mst⟩ o)
theorem YJ.step{k j:Nat}{mst aeJ dst:List aQ}{v:aa}{to e:Int}(h:Mc ⟨b,(k:Int),last,mst⟩=some (.inl ⟨b,(j:Int),last,aeJ⟩))(hkj:k<j)(hj:j<=b.length)(r:YJ b last j aeJ dst v to e):YJ b last k mst dst v to e:=by
 refine⟨fun he=>?_,fun he=>?_⟩
 ·obtain⟨h1,h2,m,h3,h4⟩:=r.1 he
  exact⟨h1,h2,m+1,by omega,Bc.step h h4⟩
 ·obtain⟨j2,h1,h2,h3,h4⟩:=r.2 he
  refine⟨j2,h1,by omega,h3,fun m' o hd=>?_⟩
  obtain⟨m,h5,h6⟩:=h4 m' o hd
  exact⟨m+1,by omega,Bc.step h h6⟩
theorem YJ.seq{k j:Nat}{mst dst:List aQ}{w:aQ}{ws:List aQ}{v v2:aa}{to2 e2:Int}(r1:YJ b last k mst (w::ws) v (j:Int) 0)(r2:YJ b last j (⟨w.fe,w.l_++[v]⟩::ws) dst v2 to2 e2):YJ b last k mst dst v2 to2 e2:=by
 obtain⟨j',e1,h1,h2,h3⟩:=r1.2 rfl
 obtain rfl:j=j':=by omega
 refine⟨fun he=>?_,fun he=>?_⟩
 ·obtain⟨g1,g2,m,g3,g4⟩:=r2.1 he
  obtain⟨m2,g5,g6⟩:=h3 m _ g4
  grind
 ·obtain⟨j2,g1,g2,g3,g4⟩:=r2.2 he
  refine⟨j2,g1,by omega,g3,fun m' o hd=>?_⟩
  obtain⟨m,g5,g6⟩:=g4 m' o hd
  obtain⟨m2,g7,g8⟩:=h3 m _ g6
  grind
theorem s0{pf:List aa->Option (List aa×Int)}{p:PS}{t:aC}(h:t.Kind=0):wL pf p t=some (zV,false,10,p):=by grind [wL]
theorem v0{f:Nat}{t:aC}{D:Int}(h:t.Kind=0):gW (f+1) b (tR t) last D=some (zV,0,10):=by
 rw[gW]
 exact if_pos (by show(t.Kind==0)=true;rw[h];rfl)
theorem v2{f:Nat}{t:aC}{D:Int}(h:t.Kind=2)(hD:¬D>=64){r:aa×Int×Int}(hr:A6 f b t.To last (aw (D+1))=some r):gW (f+1) b (tR t) last D=some r:=by
 rw[gW]
 exact an (by show¬(t.Kind==0)=true;simp;omega) (aN (by show((t.Kind==2)||(t.Kind==4))=true;simp;omega) (an (by grind) (aN (by show(t.Kind==2)=true;rw[h];rfl) (aj hr rfl))))
theorem v4{f:Nat}{t:aC}{D:Int}(h:t.Kind=4)(hD:¬D>=64){r:aa×Int×Int}(hr:D3 f b t.To last (aw (D+1))=some r):gW (f+1) b (tR t) last D=some r:=by
 rw[gW]
 exact an (by show¬(t.Kind==0)=true;simp;omega) (aN (by show((t.Kind==2)||(t.Kind==4))=true;simp;omega) (an (by grind) (an (by show¬(t.Kind==2)=true;grind) (aj hr rfl))))
def Wd:Nat->aa->Prop
 |0,_=>False
 |n+1,v=>v.L.length<1048577/\∀x∈v.L,Wd n x
theorem Wd.leaf{n:Nat}{v:aa}(h:v.L=[]):Wd (n+1) v:=⟨by grind,fun x hx=>by grind⟩
theorem fb{α β:Type}{o:Option α}{f:α->Option β}{r:β}(h:aP o f=some r):∃a,o=some a/\f a=some r:=by
 cases o with
 |none=>cases h
 |some a=>simp_all
end
theorem KQ{α:Type}{c:Prop}[Decidable c](h:¬c)(o:Option α):aL c o=none:=if_neg h
section
variable{b c:List UInt8}{last l:Bool}
def moE(e:Int):Int:=if e==6 then e else 0
theorem Ip(e:Int):fF e=some (moE e):=by
 unfold fF moE
 split<;>rfl
def YH(t:aC):Bool:=(t.Kind==1)&&(t.V.Kind==2)
def Aw(b:List UInt8)(last:Bool)(j:Nat)(v:aa):aa×Int×Int:=
 if((iA b last j).2 !=0)||!YH (iA b last j).1 then(v,moE (iA b last j).2,(j:Int))else
 if(((iA b last (iA b last j).1.To.toNat).2 !=0)||((iA b last (iA b last j).1.To.toNat).1.Kind !=6))||!((iA b last (iA b last j).1.To.toNat).1.S.b==[82])then(v,moE (iA b last (iA b last j).1.To.toNat).2,(j:Int))else
 if((decide (v.N<1))||(decide (v.N>4096)))||((iA b last j).1.V.N !=0)then(v,26,(j:Int))else(⟨8,v.N,⟨[]⟩,[]⟩,0,(iA b last (iA b last j).1.To.toNat).1.To)
theorem MX(hb:b.length<1048576){j:Nat}(hj:j<=b.length)(o:AV)(v:aa):cP ⟨b,(j:Int),last,o⟩ v=some ((Aw b last j v).1,(Aw b last j v).2.1,⟨b,(Aw b last j v).2.2,last,o⟩):=by
 unfold cP Aw
 refine aj (Dv hb j hj) ?_
 have hx:=DF (b:=b) (last:=last) hj
 generalize iA b last j=q at hx
 obtain⟨t,e⟩:=q
 dsimp only at hx⊢
 by_cases he:e=0
 ·subst he
  obtain⟨⟨i,ei,hi,_⟩,_,_⟩:=hx rfl
  refine aj (a:=YH t) rfl ?_
  cases hw:YH t with
  |false=>exact aN rfl (aj (Ip _) rfl)
  |true=>
   rw[if_neg (by decide),if_neg (by decide),ei,Int.toNat_natCast]
   refine aj (Dv hb i hi) ?_
   generalize iA b last i=r
   obtain⟨t2,e2⟩:=r
   dsimp only
   split
   ·exact aj (Ip _) rfl
   ·split<;>rfl
 ·have h1:(e !=0)=true:=by simpa using he
  rw[h1]
  exact aj (a:=false) rfl (aN rfl (aj (Ip _) rfl))
theorem SY{j:Nat}(hj:j<=b.length){v:aa}(hL:v.L=[]):(Aw b last j v).1.L=[]/\∃q:Nat,(Aw b last j v).2.2=(q:Int)/\j<=q/\q<=b.length:=by
 have hx:=DF (b:=b) (last:=last) hj
 unfold Aw
 generalize iA b last j=q at hx
 obtain⟨t,e⟩:=q
 dsimp only at hx⊢
 split
 ·exact⟨hL,j,rfl,Nat.le_refl _,hj⟩
 ·rename_i h
  have he:e=0:=by
   have:=(Bool.or_eq_false_iff.1 (by simpa using h:((e !=0)||!YH t)=false)).1
   simpa using this
  obtain⟨⟨i,ei,hi,hji,_⟩,_,_⟩:=hx he
  rw[ei,Int.toNat_natCast]
  have hy:=DF (b:=b) (last:=last) hi
  generalize iA b last i=r at hy
  obtain⟨t2,e2⟩:=r
  dsimp only at hy⊢
  split
  ·exact⟨hL,j,rfl,Nat.le_refl _,hj⟩
  ·rename_i h2
   have he2:e2=0:=by
    have:=(Bool.or_eq_false_iff.1 (Bool.or_eq_false_iff.1 (by simpa using h2:(((e2 !=0)||(t2.Kind !=6))||!(t2.S.b==[82]))=false)).1).1
    simpa using this
   obtain⟨⟨i2,ei2,hi2,ajZ,_⟩,_,_⟩:=hy he2
   split
   ·exact⟨hL,j,rfl,Nat.le_refl _,hj⟩
   ·exact⟨rfl,i2,ei2,by omega,hi2⟩
theorem SX(hp:B6 b c){j:Nat}(hj:j<=b.length)(v:aa)(h:(Aw b false j v).2.1≠6):Aw c l j v=Aw b false j v:=by
 have hx:=DF (b:=b) (last:=false) hj
 have h1:(iA b false j).2≠6:=fun e=>by
  unfold Aw at h
  rw[if_pos (by rw[e];rfl),e]at h
  exact h rfl
 have e1:=u7 (l:=l) hp hj h1
 unfold Aw at h⊢
 rw[e1]
 generalize iA b false j=q at hx h
 obtain⟨t,e⟩:=q
 dsimp only at hx h⊢
 split
 ·rfl
 ·rename_i hc
  rw[if_neg hc]at h
  have he:e=0:=by
   have:=(Bool.or_eq_false_iff.1 (by simpa using hc:((e !=0)||!YH t)=false)).1
   simpa using this
  obtain⟨⟨i,ei,hi,hji,_⟩,_,_⟩:=hx he
  rw[ei,Int.toNat_natCast]at h⊢
  have h2:(iA b false i).2≠6:=fun e=>by
   rw[if_pos (by rw[e];rfl),e]at h
   exact h rfl
  rw[u7 (l:=l) hp hi h2]
def QB(c:List UInt8)(l:Bool)(p:PS):PS:={p with b:=c,last:=l}
theorem sgl(hb:b.length<1048576){k:Nat}{t:aC}(ht:AL b k t)(hL:t.V.L=[])(h0:t.Kind≠0)(st:List aQ):∃v e,∃q:Nat,oS ⟨b,t.To,last,st⟩ t=some (v,e,(q:Int))/\v.L=[]/\k<q/\q<=b.length:=by
 obtain⟨⟨j,ej,hj1,hj2,hj3⟩,_,_⟩:=ht
 have hj3:=hj3 h0
 unfold oS
 dsimp only
 rw[ej]
 split
 ·exact⟨_,_,j,rfl,rfl,hj3,hj1⟩
 ·split
  ·unfold od
   split
   ·exact⟨_,_,j,rfl,rfl,hj3,hj1⟩
   ·split
    ·exact⟨_,_,j,rfl,rfl,hj3,hj1⟩
    ·split<;>exact⟨_,_,j,rfl,rfl,hj3,hj1⟩
  ·show∃v e,∃q:Nat,(if YH t=true then _ else _)=some (v,e,(q:Int))/\_
   split
   ·obtain⟨h1,q,h2,h3,h4⟩:=SY (b:=b) (last:=last) hj1 hL
    refine⟨_,_,q,by rw[MX hb hj1,aJ,h2],h1,by omega,h4⟩
   ·exact⟨_,_,j,rfl,hL,hj3,hj1⟩
theorem Wy(hc:c.length<1048576)(hp:B6 b c){k:Nat}{t:aC}(ht:AL b k t)(st:List aQ){v:aa}{e q:Int}(h:oS ⟨b,t.To,false,st⟩ t=some (v,e,q))(he:e≠6):oS ⟨c,t.To,l,st⟩ t=some (v,e,q):=by
 obtain⟨⟨j,ej,hj1,hj2,hj3⟩,_,_⟩:=ht
 have hpl:=hp.1
 unfold oS at h⊢
 dsimp only at h⊢
 rw[ej]at h⊢
 split<;>rename_i h1
 ·rw[if_pos h1]at h;exact h
 rw[if_neg h1]at h
 split<;>rename_i h2
 ·rw[if_pos h2]at h;exact h
 rw[if_neg h2]at h
 have h:(if YH t=true then aP (cP ⟨b,(j:Int),false,.fj⟩ t.V) fun r=>some (r.1,r.2.1,r.2.2.at_)else some (t.V,0,(j:Int)))=some (v,e,q):=h
 show(if YH t=true then aP (cP ⟨c,(j:Int),l,.fj⟩ t.V) fun r=>some (r.1,r.2.1,r.2.2.at_)else some (t.V,0,(j:Int)))=some (v,e,q)
 split<;>rename_i h3
 ·rw[if_pos h3,MX (by omega) hj1,aJ]at h
  injection h with h
  have h6:(Aw b false j t.V).2.1≠6:=by rw[<-(Prod.mk.inj (Prod.mk.inj h).2).1]at he;exact he
  rw[MX hc (by omega),aJ,SX hp hj1 _ h6,h]
 ·rw[if_neg h3]at h;exact h
theorem OV(p:PS)(d:Bool):nA (QB c l p) d=((nA p d).1,QB c l (nA p d).2):=by
 unfold nA QB
 dsimp only
 cases eh p.st with
 |true=>rfl
 |false=>cases decide (64<=p.st.length)<;>rfl
theorem UP{pf:List aa->Option (List aa×Int)}(p:PS)(d:Bool){r:aa×Int×PS}(h:L6 pf p d=some r):L6 pf (QB c l p) d=some (r.1,r.2.1,QB c l r.2.2):=by
 obtain⟨b,at_,last,st⟩:=p
 unfold L6 at h⊢
 unfold QB
 dsimp only at h⊢
 cases he:ph st d with
 |true=>simp only[he,cond_true]at h⊢;injection h with h;subst h;rfl
 |false=>
  simp only[he,cond_false]at h⊢
  cases st with
  |nil=>cases h
  |cons v vs=>
   dsimp only at h⊢
   cases d with
   |false=>injection h with h;subst h;rfl
   |true=>
    simp only[cond_true]at h⊢
    obtain⟨x,h1,h2⟩:=fb h
    rw[h1,aJ]
    cases hx:(x.2 !=0)<;>simp only[hx,cond_true,cond_false]at h2⊢<;>injection h2 with h2<;>subst h2<;>rfl
theorem Tu(hc:c.length<1048576)(hp:B6 b c){pf:List aa->Option (List aa×Int)}{k:Nat}{t:aC}(ht:AL b k t)(st:List aQ){r:aa×Bool×Int×PS}(h:wL pf ⟨b,t.To,false,st⟩ t=some r)(he:r.2.2.1≠6):wL pf ⟨c,t.To,l,st⟩ t=some (r.1,r.2.1,r.2.2.1,QB c l r.2.2.2):=by
 have e0:(⟨c,t.To,l,st⟩:PS)=QB c l ⟨b,t.To,false,st⟩:=rfl
 unfold wL at h⊢
 by_cases h0:(t.Kind==0)=true
 ·simp only[h0,cond_true]at h⊢;injection h with h;subst h;rfl
 by_cases h1:(t.Kind==2||t.Kind==4)=true
 ·simp only[h0,h1,cond_true,cond_false]at h⊢
  injection h with h
  subst h
  rw[e0,OV]
 by_cases h2:(t.Kind==3||t.Kind==5)=true
 ·simp only[h0,h1,h2,cond_true,cond_false]at h⊢
  obtain⟨x,g1,g2⟩:=fb h
  injection g2 with g2
  subst g2
  rw[e0,UP _ _ g1]
  rfl
 ·simp only[h0,h1,h2,cond_false]at h⊢
  obtain⟨⟨v,e,q⟩,g1,g2⟩:=fb h
  dsimp only at g2⊢
  have he6:e≠6:=fun h6=>by
   subst h6
   have:((6:Int)==0&&decide (64<=st.length))=false:=rfl
   rw[this,cond_false]at g2
   injection g2 with g2
   subst g2
   exact he rfl
  rw[Wy hc hp ht st g1 he6,aJ]
  dsimp only
  cases hx:(e==0&&decide (64<=st.length))<;>simp only[hx,cond_true,cond_false]at g2⊢<;>injection g2 with g2<;>subst g2<;>rfl
def adn(c:List UInt8)(l:Bool):PS⊕(aa×Int×Int)->PS⊕(aa×Int×Int)
 |.inl p=>.inl (QB c l p)
 |.inr o=>.inr o
theorem Q4{r:aa×Bool×Int×PS}{x:PS⊕(aa×Int×Int)}(h:J1 r=some x):J1 (r.1,r.2.1,r.2.2.1,QB c l r.2.2.2)=some (adn c l x):=by
 obtain⟨v,s,e,b,at_,last,st⟩:=r
 unfold J1 at h⊢
 unfold QB
 dsimp only at h⊢
 by_cases h1:(e !=0)=true
 ·simp only[h1,cond_true]at h⊢;injection h with h;subst h;rfl
 by_cases h2:(!s)=true
 ·simp only[h1,h2,cond_true,cond_false]at h⊢;injection h with h;subst h;rfl
 simp only[h1,h2,cond_false]at h⊢
 by_cases h3:st.length<=64
 ·rw[bB h3]at h⊢
  cases st with
  |nil=>injection h with h;subst h;rfl
  |cons v vs=>
   dsimp only at h⊢
   by_cases h4:(v.l_.length+1)*56<=room
   ·rw[bB h4]at h⊢
    injection h with h
    subst h
    rfl
   ·rw[KQ h4]at h;cases h
 ·rw[KQ h3]at h;cases h
def Ui:List aQ->Nat->Prop
 |[],_=>True
 |w::ws,k=>w.l_.length<=k/\(∀x∈w.l_,Wd (66 -ws.length) x)/\Ui ws k
theorem Ui.mono:∀{st:List aQ}{j k:Nat},j<=k->Ui st j->Ui st k
 |[],_,_,_,_=>trivial
 |_::_,_,_,h,⟨h1,h2,h3⟩=>⟨by omega,h2,Ui.mono h h3⟩
def Uj(b:List UInt8)(o:aa×Int×Int):Prop:=(∃j:Nat,o.2.1=(j:Int)/\j<=b.length)/\Wd 67 o.1
theorem KX(e:Int):Uj b (zV,0,e):=⟨⟨0,rfl,Nat.zero_le _⟩,Wd.leaf rfl⟩
def GoV(b:List UInt8)(last:Bool)(k:Nat):PS⊕(aa×Int×Int)->Prop
 |.inl p=>∃(j:Nat)(st:List aQ),p=⟨b,(j:Int),last,st⟩/\k<j/\j<=b.length/\st.length<=64/\Ui st j
 |.inr o=>Uj b o
theorem L9(hb:b.length<1048576){k q:Nat}(hk:k<q)(hq:q<=b.length){st:List aQ}(h64:st.length<=64)(hw:Ui st k){v:aa}(hv:Wd (67 -st.length) v){e:Int}{s:Bool}(hs:s=(e==0)):∃x,J1 (v,s,e,⟨b,(q:Int),last,st⟩)=some x/\GoV b last k x:=by
 have cf:room=140737488355328:=rfl
 subst hs
 by_cases he:e=0
 ·subst he
  unfold J1
  show∃x,aL (st.length<=64) _=some x/\_
  rw[bB h64]
  cases st with
  |nil=>exact⟨_,rfl,⟨q,rfl,hq⟩,hv⟩
  |cons w ws=>
   obtain⟨h1,h2,h3⟩:=hw
   refine⟨_,ay (by show(w.l_.length+1)*56<=room;omega) rfl,q,_,rfl,hk,hq,h64,?_,?_,h3.mono (by omega)⟩
   ·show(w.l_++[v]).length<=q
    rw[List.length_append]
    show w.l_.length+1<=q
    omega
   ·intro x hx
    rcases List.mem_append.1 hx with hx|hx
    ·exact h2 x hx
    ·have ex:x=v:=by simpa using hx
     rw[ex]
     have:67 -(w::ws:List aQ).length=66 -ws.length:=by show 67 -(ws.length+1)=_;omega
     rwa[this]at hv
 ·exact⟨_,lQ he,KX _⟩
theorem LR{L:List aa}(h:L.length % 2=0):(c7 L (L.length/2)).flatten=L:=by
 have:∀k,(c7 L k).flatten=L.take (2*k):=by
  intro k
  induction k with
  |zero=>simp[c7]
  |succ k ih=>
   rw[m8,List.flatten_append,ih]
   show _++(iH L k++[])=_
   rw[List.append_nil]
   unfold iH
   rw[show 2*(k+1)=2*k+2 by omega,List.take_add]
 rw[this]
 exact List.take_of_length_le (by omega)
theorem SA{L:List aa}{n:Nat}(h1:L.length<1048576)(h2:L.length % 2=0)(hw:∀x∈L,Wd n x):∃M e,ry L=some (M,e)/\(e=0->M.length<1048577/\∀x∈M,Wd n x):=by
 unfold ry
 rw[bB ⟨by omega,h2⟩]
 cases pJ (xO (c7 L (L.length/2)))with
 |true=>exact⟨_,_,rfl,fun h=>by cases h⟩
 |false=>
  refine⟨_,_,rfl,fun _=>?_⟩
  have hp:=AF (c7 L (L.length/2))
  have hf:(xO (c7 L (L.length/2))).flatten.Perm (c7 L (L.length/2)).flatten:=hp.flatten
  have hc:(c7 L (L.length/2)).flatten=L:=LR h2
  rw[hc]at hf
  exact⟨by rw[hf.length_eq];omega,fun x hx=>hw x (hf.mem_iff.1 hx)⟩
theorem ai0(hb:b.length<1048576){k:Nat}(hk:k<=b.length){st:List aQ}(h64:st.length<=64)(hw:Ui st k):∃x,Mc ⟨b,(k:Int),last,st⟩=some x/\GoV b last k x:=by
 by_cases hok:(iA b last k).2=0
 ·have hM:=Sd (last:=last) hb hk h64 hok
  have ht:=DF hk hok
  have hL:=aiy b last k
  generalize(iA b last k).1=t at hM ht hL
  rw[hM]
  obtain⟨⟨j,ej,hj1,hj2,hj3⟩,kd,_⟩:=ht
  unfold wL
  cases h0:(t.Kind==0)with
  |true=>exact⟨_,lQ (by decide),KX _⟩
  |false=>
  have hk0:t.Kind≠0:=by simpa using h0
  have hj3:=hj3 hk0
  rw[cond_false]
  cases h1:(t.Kind==2||t.Kind==4)with
  |true=>
   rw[cond_true,aJ]
   unfold nA
   dsimp only
   rw[ej]
   cases eh st with
   |true=>exact⟨_,lQ (e:=11) (by decide),KX _⟩
   |false=>
    by_cases hD:64<=st.length
    ·rw[decide_eq_true hD];exact⟨_,lQ (e:=15) (by decide),KX _⟩
    ·rw[decide_eq_false hD]
     exact⟨_,rfl,j,_,rfl,hj3,hj1,by show st.length+1<=64;omega,Nat.zero_le _,fun x hx=>(by cases hx),hw.mono hj2⟩
  |false=>
  rw[cond_false]
  cases h2:(t.Kind==3||t.Kind==5)with
  |true=>
   rw[cond_true]
   unfold L6
   dsimp only
   rw[ej]
   cases he:ph st (t.Kind==5)with
   |true=>exact⟨_,lQ (e:=11) (by decide),KX _⟩
   |false=>
    rw[cond_false]
    cases st with
    |nil=>cases he
    |cons w ws=>
     obtain⟨w1,w2,w3⟩:=hw
     have hws:ws.length<64:=h64
     dsimp only
     cases hd:(t.Kind==5)with
     |false=>
      rw[cond_false]
      exact L9 hb hj3 hj1 (by omega) w3 (by rw[show 67 -ws.length=(66 -ws.length)+1 by omega];exact⟨by show w.l_.length<_;omega,w2⟩) rfl
     |true=>
      rw[cond_true]
      have hev:w.l_.length % 2=0:=by
       rw[hd]at he
       have he:((w.fe !=true)||(true&&!(w.fe&&((w.l_.length:Int).tmod 2==0))))=false:=he
       cases hdd:w.fe with
       |false=>rw[hdd]at he;cases he
       |true=>
        rw[hdd]at he
        have he:((w.l_.length:Int).tmod 2==0)=true:=by simpa using he
        have:=eq_of_beq he
        rw[Int.tmod_eq_emod_of_nonneg (by omega)]at this
        omega
      obtain⟨M,e,p1,p2⟩:=SA (by omega) hev w2
      rw[p1,aJ]
      dsimp only
      by_cases he0:e=0
      ·subst he0
       exact L9 hb hj3 hj1 (by omega) w3 (by rw[show 67 -ws.length=(66 -ws.length)+1 by omega];exact p2 rfl) rfl
      ·have:(e !=0)=true:=by simpa using he0
       rw[this,cond_true,aJ]
       exact⟨_,lQ he0,KX _⟩
  |false=>
   rw[cond_false]
   obtain⟨v,e,q,s1,s2,s3,s4⟩:=sgl (last:=last) hb ⟨⟨j,ej,hj1,hj2,fun _=>hj3⟩,kd,by assumption⟩ hL hk0 st
   rw[s1,aJ]
   dsimp only
   cases hx:(e==0&&decide (64<=st.length))with
   |true=>exact⟨_,lQ (e:=15) (by decide),KX _⟩
   |false=>exact L9 hb s3 s4 h64 hw (by rw[show 67 -st.length=(66 -st.length)+1 by omega];exact Wd.leaf s2) rfl
 ·exact⟨_,Of hb hk h64 hok,KX _⟩
theorem aga(hc:c.length<1048576)(hp:B6 b c){k:Nat}(hk:k<=b.length){st:List aQ}(h64:st.length<=64){x:PS⊕(aa×Int×Int)}(h:Mc ⟨b,(k:Int),false,st⟩=some x):(∃v to,x=.inr (v,to,6))\/Mc ⟨c,(k:Int),l,st⟩=some (adn c l x):=by
 have hpl:=hp.1
 by_cases h6:(iA b false k).2=6
 ·left
  rw[Of (by omega) hk h64 (by rw[h6];decide),h6]at h
  injection h with h
  exact⟨_,_,h.symm⟩
 ·have e1:=u7 (l:=l) hp hk h6
  by_cases hok:(iA b false k).2=0
  ·have ht:=DF hk hok
   rw[Sd (by omega) hk h64 hok]at h
   obtain⟨r,r1,r2⟩:=fb h
   by_cases h7:r.2.2.1=6
   ·left
    have:r=(r.1,r.2.1,6,r.2.2.2):=by rw[<-h7]
    rw[this,lQ (by decide)]at r2
    injection r2 with r2
    exact⟨_,_,r2.symm⟩
   ·right
    rw[Sd hc (by omega) h64 (by rw[e1];exact hok),e1,Tu hc hp ht st r1 h7,aJ,Q4 r2]
  ·right
   rw[Of (by omega) hk h64 hok]at h
   injection h with h
   subst h
   rw[Of hc (by omega) h64 (by rw[e1];exact hok),e1]
   rfl
theorem Ow{S T O:Type}{f:S->Option (S⊕O)}{g:T->Option (T⊕O)}(I:S->T->Prop)(μ:S->Nat)(J bad:O->Prop)
 (step:∀s t,I s t->∃x,f s=some x/\match x with
   |.inl s'=>(∃t',g t=some (.inl t')/\I s' t')/\μ s'<μ s
   |.inr o=>J o/\(bad o\/g t=some (.inr o))):∀(n:Nat)(s:S)(t:T),I s t->μ s<n->∃o,bV f n s=some o/\J o/\(bad o\/bV g n t=some o)
 |0,_,_,_,h=>absurd h (Nat.not_lt_zero _)
 |n+1,s,t,hi,hn=>by
  obtain⟨x,hx,h⟩:=step s t hi
  cases x with
  |inl s'=>
   obtain⟨⟨t',ht,hi'⟩,hm⟩:=h
   obtain⟨o,h1,h2,h3⟩:=Ow I μ J bad step n s' t' hi' (by omega)
   refine⟨o,by unfold bV;rw[hx];exact h1,h2,h3.imp id fun h3=>by unfold bV;rw[ht];exact h3⟩
  |inr o=>exact⟨o,by unfold bV;rw[hx],h.1,h.2.imp id fun h2=>by unfold bV;rw[h2]⟩
theorem WQ(hc:c.length<1048576)(hp:B6 b c){k:Nat}(hk:k<=b.length):∃o,mq b (k:Int) false=some o/\Uj b o/\(o.2.2=6\/mq c (k:Int) l=some o):=by
 have hpl:=hp.1
 have:=Ow (f:=Mc) (g:=Mc) (fun s t=>∃(j:Nat)(st:List aQ),s=⟨b,(j:Int),false,st⟩/\t=⟨c,(j:Int),l,st⟩/\j<=b.length/\st.length<=64/\Ui st j) (fun s=>b.length -s.at_.toNat) (Uj b) (fun o=>o.2.2=6)
  (by
    rintro s t ⟨j,st,rfl,rfl,hj,h64,hw⟩
    obtain⟨x,h1,h2⟩:=ai0 (last:=false) (by omega) hj h64 hw
    refine⟨x,h1,?_⟩
    have h3:=aga (l:=l) hc hp hj h64 h1
    cases x with
    |inl p=>
     obtain⟨j',st',rfl,g1,g2,g3,g4⟩:=h2
     rcases h3 with⟨_,_,h3⟩|h3
     ·cases h3
     ·exact⟨⟨_,h3,j',st',rfl,rfl,g2,g3,g4⟩,by show b.length -((j':Int)).toNat<b.length -((j:Int)).toNat;omega⟩
    |inr o=>
     refine⟨h2,?_⟩
     rcases h3 with⟨v,to,h3⟩|h3
     ·left;injection h3 with h3;rw[h3]
     ·exact .inr h3) 18446744073709551616 ⟨b,(k:Int),false,[]⟩ ⟨c,(k:Int),l,[]⟩ ⟨k,[],rfl,rfl,hk,Nat.zero_le _,trivial⟩ (by show b.length -((k:Int)).toNat<_;omega)
 exact this
end
namespace Fq
theorem J3(p:Nat->Bool):∀n,(∀k,k<n->p k=true)\/∃j,j<n/\p j=false/\∀k,k<j->p k=true
 |0=>.inl fun k h=>absurd h (Nat.not_lt_zero k)
 |n+1=>by
  rcases J3 p n with h|⟨j,h1,h2,h3⟩
  ·cases e:p n with
   |true=>
    refine .inl fun k hk=>?_
    rcases Nat.lt_or_ge k n with h'|h'
    ·exact h k h'
    ·have:k=n:=by omega
     subst this;exact e
   |false=>exact .inr ⟨n,by omega,e,h⟩
  ·exact .inr ⟨j,by omega,h2,h3⟩
theorem aeX{b:Bool}(h:(!b)=true):b=false:=by cases b<;>first|rfl|cases h
theorem aix{b:Bool}(h:(!b)=false):b=true:=by cases b<;>first|rfl|cases h
theorem Cq(v:aa)(key:aH)(hL:v.L.length<1048577):∃i,iu v key=some i/\dF v key=some i/\(i=-1\/(0<=i/\i<v.L.length)):=by
 by_cases hk:v.Kind=7
 ·have hk1:(v.Kind==7)=true:=by rw[hk];rfl
  have hk2:(v.Kind !=7)=false:=by show(!(v.Kind==7))=false;rw[hk1];rfl
  have w2:∀k:Nat,k<=2000000->aw ((k:Int)+2)=((k+2:Nat):Int):=fun k hk=>by rw[ar (by omega) (by omega)];omega
  rcases J3 (fun k=>!(((ix v.L ((2*k:Nat):Int)).Kind==5)&&(((ix v.L ((2*k:Nat):Int)).S).b==key.b))) ((v.L.length+1)/2)with g|⟨j,g1,g2,g3⟩
  ·have lp:∀(B:Int->Option (Int⊕(Unit⊕Int))),(∀i:Nat,i<v.L.length->(((ix v.L (i:Int)).Kind==5)&&(((ix v.L (i:Int)).S).b==key.b))=false->B i=some (.inl (aw ((i:Int)+2))))->(∀i:Nat,v.L.length<=i->B (i:Int)=some (.inr (.inl ())))->iter B 0=some (.inl ()):=fun B hb he=>by
    refine gD ((v.L.length+1)/2) (fun k=>((2*k:Nat):Int)) rfl (by omega) (fun k hk=>?_) (he _ (by omega))
    rw[hb (2*k) (by omega) (aeX (g k hk)),w2 _ (by omega)];rfl
   refine⟨-1,?_,?_,.inl rfl⟩
   ·unfold iu
    rw[hk2]
    refine an (by decide) (di (z:=.inl ()) (uP (z:=.inl ()) (lp _ (fun i hi hc=>?_) (fun i hi=>an (by simp;omega) rfl)) rfl) rfl)
    exact aN (decide_eq_true (by omega)) (ay ⟨by omega,by omega⟩ (ay (fun _=>⟨by omega,by omega⟩) (an (by rw[hc];decide) rfl)))
   ·unfold dF
    rw[hk1]
    refine di (z:=.inl ()) (uP (z:=.inl ()) (lp _ (fun i hi hc=>?_) (fun i hi=>an (by simp;omega) rfl)) rfl) rfl
    exact aN (by simp;omega) (ay ⟨by omega,by omega⟩ (ay (fun _=>⟨by omega,by omega⟩) (an (by rw[hc];decide) rfl)))
  ·have lp:∀(B:Int->Option (Int⊕(Unit⊕Int))),(∀i:Nat,i<v.L.length->(((ix v.L (i:Int)).Kind==5)&&(((ix v.L (i:Int)).S).b==key.b))=false->B i=some (.inl (aw ((i:Int)+2))))->(∀i:Nat,i<v.L.length->(((ix v.L (i:Int)).Kind==5)&&(((ix v.L (i:Int)).S).b==key.b))=true->B (i:Int)=some (.inr (.inr (i:Int))))->iter B 0=some (.inr ((2*j:Nat):Int)):=fun B hb he=>by
    refine gD j (fun k=>((2*k:Nat):Int)) rfl (by omega) (fun k hk=>?_) (he _ (by omega) (aix g2))
    rw[hb (2*k) (by omega) (aeX (g3 k hk)),w2 _ (by omega)];rfl
   refine⟨((2*j:Nat):Int),?_,?_,.inr ⟨by omega,by omega⟩⟩
   ·unfold iu
    rw[hk2]
    refine an (by decide) (di (z:=.inr ((2*j:Nat):Int)) (uP (z:=.inr ((2*j:Nat):Int)) (lp _ (fun i hi hc=>?_) (fun i hi hc=>?_)) rfl) rfl)
    ·exact aN (decide_eq_true (by omega)) (ay ⟨by omega,by omega⟩ (ay (fun _=>⟨by omega,by omega⟩) (an (by rw[hc];decide) rfl)))
    ·exact aN (decide_eq_true (by omega)) (ay ⟨by omega,by omega⟩ (ay (fun _=>⟨by omega,by omega⟩) (aN hc rfl)))
   ·unfold dF
    rw[hk1]
    refine di (z:=.inr ((2*j:Nat):Int)) (uP (z:=.inr ((2*j:Nat):Int)) (lp _ (fun i hi hc=>?_) (fun i hi hc=>?_)) rfl) rfl
    ·exact aN (by simp;omega) (ay ⟨by omega,by omega⟩ (ay (fun _=>⟨by omega,by omega⟩) (an (by rw[hc];decide) rfl)))
    ·exact aN (by simp;omega) (ay ⟨by omega,by omega⟩ (ay (fun _=>⟨by omega,by omega⟩) (aN hc rfl)))
 ·have hk1:(v.Kind==7)=false:=by simpa using hk
  refine⟨-1,aN (by show(!(v.Kind==7))=true;rw[hk1];rfl) rfl,?_,.inl rfl⟩
  unfold dF
  rw[hk1]
  exact di (z:=.inl ()) (uP (z:=.inl ()) (Kx 0 (by omega) (fun k hk=>by omega) (an (by simp) rfl)) rfl) rfl
theorem U0(v:aa)(key:aH)(hL:v.L.length<1048577):∃i:Int,eH v key=some (decide (i>=0))/\dF v key=some i:=by
 obtain⟨i,h1,h2,h3⟩:=Cq v key hL
 refine⟨i,?_,h2⟩
 unfold eH fS
 rw[h1,aJ]
 rcases h3 with rfl|⟨h3,h4⟩
 ·rfl
 ·have e:decide (i<0)=false:=decide_eq_false (by omega)
  have e1:decide (i>=0)=true:=decide_eq_true h3
  have w:aw (i+1)=i+1:=ar (by omega) (by omega)
  rw[e,e1,w]
  by_cases hc:((i+1)==(v.L.length:Int))=true
  ·exact aj (an (by decide) (aN hc rfl)) rfl
  ·have:¬i+1=(v.L.length:Int):=by simpa using hc
   exact aj (an (by decide) (an hc (ay ⟨by omega,by omega⟩ rfl))) rfl
abbrev z0:aa:=aa.mk 0 0 (aH.mk []) ([]:List aa)
theorem Rc(v:aa)(key:aH)(hL:v.L.length<1048577):∃g:aa×Bool,fS v key=some g/\Av v key=some g/\(g.2=false->g.1=z0):=by
 obtain⟨i,h1,h2,h3⟩:=Cq v key hL
 unfold fS Av
 rw[h1,h2,aJ,aJ]
 rcases h3 with rfl|⟨h3,h4⟩
 ·exact⟨(z0,false),aN (by decide) rfl,aN (by decide) rfl,fun _=>rfl⟩
 ·have w:aw (i+1)=i+1:=ar (by omega) (by omega)
  have w2:aw ((v.L.length:Int) -1)=(v.L.length:Int) -1:=ar (by omega) (by omega)
  rw[w,w2]
  by_cases hc:i+1=v.L.length
  ·exact⟨(z0,true),an (by simp;omega) (aN (by simpa using hc) rfl),an (by simp;omega) (aN (by simp;omega) rfl),fun h=>by cases h⟩
  ·exact⟨(ix v.L (i+1),true),an (by simp;omega) (an (by simpa using hc) (ay (by omega) rfl)),an (by simp;omega) (an (by simp;omega) (ay (by omega) rfl)),fun h=>by cases h⟩
theorem PD(v:aa)(hL:v.L.length<1048577):∃p:Bool×Bool,ij v=some p/\uj v=some p:=by
 obtain⟨⟨g,is⟩,h1,h2,h3⟩:=Rc v (aH.mk [70,105,108,116,101,114]) hL
 unfold ij uj
 rw[h1,h2,aJ,aJ]
 cases is with
 |false=>
  have hg:g=z0:=h3 rfl
  subst hg
  exact⟨(false,true),dI (a:=z0) (an (by decide) rfl) rfl,aN rfl rfl⟩
 |true=>
  by_cases hc:((g.Kind==6)&&((g.L.length:Int)==1))=true
  ·have hl:g.L.length=1:=by simp at hc;omega
   exact⟨_,dI (aN hc (ay ⟨Int.le_refl _,by show(0:Int)<(g.L.length:Int);omega⟩ rfl)) rfl,an (by show¬(false=true);decide) (dI (aN hc (ay ⟨Int.le_refl _,by show(0:Int)<(g.L.length:Int);omega⟩ rfl)) rfl)⟩
  ·exact⟨_,dI (an hc rfl) rfl,an (by show¬(false=true);decide) (dI (an hc rfl) rfl)⟩
theorem NB(v:aa)(key:aH)(hW:Wd 67 v):∃w,fI v key=some w/\rE v key=some w/\Wd 67 w:=by
 have cf:room=140737488355328:=rfl
 have hL:v.L.length<1048577:=hW.1
 obtain⟨i,h1,h2,h3⟩:=Cq v key hL
 unfold fI rE
 rw[h1,h2,aJ,aJ]
 rcases h3 with rfl|⟨h3,h4⟩
 ·exact⟨v,aN (by decide) rfl,aN (by decide) rfl,hW⟩
 ·obtain⟨n,rfl⟩:∃n:Nat,i=n:=⟨i.toNat,by omega⟩
  have w:aw ((n:Int)+2)=((n+2:Nat):Int):=by rw[ar (by omega) (by omega)];omega
  have hp:part v.L 0 (n:Int)=v.L.take n:=by
   unfold part
   rw[Int.sub_zero];rfl
  have hpl:(part v.L 0 (n:Int)).length=n:=by rw[hp,List.length_take];omega
  rw[w]
  refine⟨⟨v.Kind,v.N,v.S,v.L.take n++v.L.drop (min (n+2) v.L.length)⟩,an (by simp) (ay ⟨by omega,by omega,by omega⟩ rfl),an (by simp) (ay ⟨by omega,by omega,by omega⟩ (ay (by rw[hpl];show(0+n)*56<=_;omega) ?_)),?_⟩
  ·by_cases hc:n+2<v.L.length
   ·have hq:part v.L ((n+2:Nat):Int) (v.L.length:Int)=v.L.drop (n+2):=by
     unfold part
     rw[Int.toNat_natCast,List.take_of_length_le (by rw[List.length_drop];omega)]
    rw[hq,show min (n+2) v.L.length=n+2 by omega]
    refine dI (aN (by simp;omega) (ay ⟨by omega,by omega,by omega⟩ (ay (by simp only[hpl,List.length_drop];omega) rfl))) ?_
    rw[hp]
   ·rw[show min (n+2) v.L.length=v.L.length by omega,List.drop_length,List.append_nil]
    refine dI (an (by simp;omega) rfl) ?_
    rw[hp]
  ·refine⟨?_,fun x hx=>hW.2 x ?_⟩
   ·show(v.L.take n++v.L.drop (min (n+2) v.L.length)).length<_
    rw[List.length_append,List.length_take,List.length_drop];omega
   ·rcases List.mem_append.1 hx with hx|hx
    ·exact List.mem_of_mem_take hx
    ·exact List.mem_of_mem_drop hx
theorem JE:∀(n:Nat)(v:aa)(fuel:Nat),Wd n v->n<=fuel->c5 fuel v v=some 0
 |0,_,_,h,_=>h.elim
 |n+1,v,0,_,h=>by omega
 |n+1,v,fuel+1,h,hf=>by
  obtain⟨h1,h2⟩:=h
  rw[c5]
  have b0:Op.bytesLess v.S.b v.S.b=false:=EG _
  have lp:iter (fun(k4:Int)=>
   if(decide (k4<(v.L.length:Int)))&&(decide (k4<(v.L.length:Int)))then
    aL (0<=k4/\k4<v.L.length)<|
    aL (0<=k4/\k4<v.L.length)<|
    aP (c5 fuel (ix v.L k4) (ix v.L k4)) fun r8=>
    if r8 !=0 then
     some (.inr (.inr r8))
    else
     some (.inl (aw (k4+1)))
   else
    some (.inr (.inl ():Unit⊕Int))) 0=some (.inl ()):=by
   refine Kx v.L.length (by omega) (fun k hk=>?_) (an (by simp) rfl)
   have hx:ix v.L (k:Int)=v.L[k]:=fo hk
   exact aN (by simp;omega) (ay ⟨by omega,by omega⟩ (ay ⟨by omega,by omega⟩ (aj (by rw[hx];exact JE n _ fuel (h2 _ (List.getElem_mem hk)) (by omega)) (an (by decide) rfl))))
  refine an (by rw[b0];simp) (an (by simp) (di (z:=.inl ()) (uP (z:=.inl ()) lp rfl) ?_))
  exact an (by simp) (an (by simp) rfl)
theorem PV{v:aa}(h:Wd 67 v):jQ v v=some true:=by
 unfold jQ
 have hb:67<=Un:=by decide
 exact aj (JE 67 v Un h hb) rfl
end Fq
namespace Fq
abbrev R(b:List UInt8)(at_:Int)(last:Bool)(e:Int):ai:=ai.mk (b8.mk b at_ last) e
abbrev o0:a8:=a8.mk z0 false (aH.mk [])
def adp(last:Bool):Int:=if last then 10 else 6
section
variable{r:ai}(h:r.e_≠0)
include h
theorem adA(x y:Int):bU r x y=some (0,r):=by unfold bU;grind
theorem Y3(w:aH):aG r w=some r:=by unfold aG;grind
theorem Xt:bR r=some (z0,r):=by unfold bR;grind
theorem Xs:a9 r=some (false,r):=by unfold a9;grind
theorem Nz(n:Int):aU r n=some ([],r):=by unfold aU;grind
end
theorem AP(b:List UInt8)(at_:Int)(last:Bool)(e:Int):aD (R b at_ last 0) e=some (R b at_ last e):=by unfold aD;grind
theorem Iy(b:List UInt8)(at_:Int)(last:Bool):c8 (b8.mk b at_ last)=some (adp last):=by grind [c8,adp,last]
section
variable{b:List UInt8}{last:Bool}
theorem YP{j:Nat}(hb:b.length<1048576)(hj:j<=b.length)(e:Int):∃k:Nat,k<=b.length/\
 aL ((decide ((j:Int)<(b.length:Int)))=true->0<=(j:Int)/\(j:Int)<b.length) (if(decide ((j:Int)<(b.length:Int)))&&(((ix b (j:Int)).toNat:Int)==13)then some (aw ((j:Int)+1))else some (j:Int))=some (k:Int)/\
 aL ((decide ((j:Int)<(b.length:Int)))=true->0<=(j:Int)/\(j:Int)<b.length) (if(decide ((j:Int)<(b.length:Int)))&&(((ix b (j:Int)).toNat:Int)==13)then some (R b (aw ((j:Int)+1)) last e)else some (R b (j:Int) last e))=some (R b (k:Int) last e):=by
 have w:aw ((j:Int)+1)=((j+1:Nat):Int):=by rw[ar (by omega) (by omega)];omega
 rw[w]
 have hn:(decide ((j:Int)<(b.length:Int)))=true->0<=(j:Int)/\(j:Int)<b.length:=fun h=>⟨by omega,of_decide_eq_true h⟩
 by_cases hc:((decide ((j:Int)<(b.length:Int)))&&(((ix b (j:Int)).toNat:Int)==13))=true
 ·have hlt:(j:Int)<b.length:=of_decide_eq_true (Bool.and_eq_true_iff.1 hc).1
  exact⟨j+1,by omega,ay hn (aN hc rfl),ay hn (aN hc rfl)⟩
 ·exact⟨j,hj,ay hn (an hc rfl),ay hn (an hc rfl)⟩
theorem adE(v:aa)(hW:Wd 67 v):∃w1 w2,fI v (aH.mk [76,101,110,103,116,104])=some w1/\fI w1 (aH.mk [70,105,108,116,101,114])=some w2/\rE v (aH.mk [76,101,110,103,116,104])=some w1/\rE w1 (aH.mk [70,105,108,116,101,114])=some w2/\Wd 67 w2:=by
 obtain⟨w1,a1,a2,aW⟩:=NB v (aH.mk [76,101,110,103,116,104]) hW
 obtain⟨w2,b1,b2,bW⟩:=NB w1 (aH.mk [70,105,108,116,101,114]) aW
 grind
theorem Py:¬((0:Int)!=0)=true:=by decide
abbrev A7(v g:aa):Bool:=(((v.Kind !=7)||(g.Kind !=2))||(decide (g.N<0)))||(decide (g.N>16777216))
def eN(q:Int×Int×Int)(x y:Int):Int:=if(q.2.2==0)&&((decide (q.1<x))||(decide (q.1>y)))then 18 else q.2.2
theorem GI{at_:Int}{q:Int×Int×Int}(h:ga b at_ last=some q)(x y:Int):bU (R b at_ last 0) x y=some (q.1,R b q.2.1 last (eN q x y)):=by
 unfold bU eN
 refine an Py (aj h (dI (a:=eN q x y) ?_ rfl))
 grind [eN]
def tl(n:Int)(v:aa)(r:ai):Option (Int×a8×Int×Int):=
 jn (
  aP (a9 r) fun r10=>
  if r10.1 then
   aP (bt r10.2 v) fun r11=>
   some (r11.1,r11.2)
  else
   some (a8.mk v false (aH.mk []),r10.2)) fun((o8,o9):a8×ai)=>
 if o9.e_ !=0 then
  some (0,o0,0,o9.e_)
 else
  some (n,o8,o9.af.at_,0)
theorem Wd0:Wd 67 z0:=Wd.leaf rfl
end
end Fq
end Go.AB
end
