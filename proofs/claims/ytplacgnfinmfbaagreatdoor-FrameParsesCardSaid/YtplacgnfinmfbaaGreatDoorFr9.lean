/- A part. -/
import Derived.Test.YtplacgnfinmfbaaGreatDoorFr8
set_option linter.defProp false
set_option linter.unusedSimpArgs false
set_option linter.unusedVariables false
section
set_option maxRecDepth 16000
namespace Go.AB
open Go
open Go.Proofs.Tryz (prog)
structure aa where
 Kind:Int
 N:Int
 S:aC
 L:(List aa)
mutual
def iX:aa->List AV
 |⟨k,n,s,l⟩=>[.int .i64 k,.int .i64 n,.str s.b,.sl false 4 l.length (oe l)]
def oe:List aa->List AV
 |[]=>[]
 |v::l=>iX v++oe l
end
def FU(x:aa):views (iX x)=iX x:=by cases x;simp[iX,views,view]
def FT(x:aa):(iX x).length=4:=by cases x;simp[iX]
instance:bz aa:=⟨4,iX,⟨0,0,⟨[]⟩,[]⟩,BY,FT,FU⟩
theorem sk:∀l:List aa,oe l=flat l
 |[]=>by rw[oe];rfl
 |v::l=>by rw[oe,sk l];rfl
@[go_sem]theorem nx(x:aa):bz.cells x=[.int .i64 x.Kind,.int .i64 x.N,.str x.S.b,sF 4 x.L]:=by
  cases x
  show iX _=_
  rw[iX,sk]
@[go_sem]theorem VT:bz.w aa=4:=rfl
@[go_sem]abbrev ot(x:aa):List AV:=[.int .i64 x.Kind,.int .i64 x.N,.str x.S.b,sF 4 x.L]
@[go_sem]theorem D2(l:List aa)(i:Int):pad [.int .i64 0,.int .i64 0,.str [],.sl false 4 0 []] (views (AB.sub (flat l) (i.toNat*4) 4))=[.int .i64 ((ix l i).Kind),.int .i64 ((ix l i).N),.str ((ix l i).S).b,sF 4 ((ix l i).L)]:=by rw[<-nx];exact qm _ 4 l i (by rw[nx];rfl) rfl
attribute[-go_sem] cL dm cg cK
def afZ{P:Program}{X:Prop}{iP:List (List Bool)}{ops f:List aH}{live:List Nat}{Q:Exit->St->Prop}{d:List Bool}{σ φ:St}
 (h1:∀Q':St->Prop,Q' φ->NL P iP ops (fun τ=>Q' (τ.xJ live)) f d σ)(h2:X->Q .normal φ):X->NL P iP ops (Ei live Q) f d σ:=fun x=>h1 (fun τ=>Q .normal τ) (h2 x)
@[go_sem]theorem af9:Nat.ble 1 1=true:=rfl
@[go_sem]theorem aga:Nat.ble 1 4=true:=rfl
@[go_sem]theorem agE{α:Type}[bz α](n:Nat)(l:List α)(hi:Int)(hn:n=bz.w α):AB.sub (flat l) 0 (hi.toNat*n)=flat (part l 0 hi):=by
  have:=ER n l 0 hi hn
  rwa[Int.sub_zero,show((0:Int).toNat*n)=0 from by simp]at this
@[go_sem]theorem abb{α:Type}[bz α](l:List α)(i:Int):ix l ((i.toNat:Nat):Int)=ix l i:=rfl
@[go_sem]theorem Zq(l:List Int)(n:Nat):pad [.int .i64 0] (views (AB.sub (flat l) (n*1) 1))=[.int .i64 (ix l (n:Int))]:=Tp l n
def kM{P:Program}{f:FuncId}{as1 as2:List AV}{s:ae}{Q:List AV->ae->Prop}(e:as1=as2)(h:FN P f as1 s Q):FN P f as2 s Q:=e▸h
def Km{c p:Bool}{A:Prop}(h:p=true->A):(c&&p)=true->A:=fun hh=>h (by cases c<;>simp_all)
def kH:Cv prog 137 5 0 109=true:=C_
structure aE where
 Kind:Int
 mj:Int
 To:Int
 V:aa
 S:aC
instance:bz aE:=⟨8,fun x=>[.int .i64 x.Kind,.int .i64 x.mj,.int .i64 x.To,.int .i64 x.V.Kind,.int .i64 x.V.N,.str x.V.S.b,sF 4 x.V.L,.str x.S.b],(aE.mk 0 0 0 (aa.mk 0 0 (aC.mk []) []) (aC.mk [])),BY,fun _=>rfl,fun _=>rfl⟩
def j6(c_0:UInt8):Option (Bool):=some (((((((c_0.toNat:Int)==0)||((c_0.toNat:Int)==9))||((c_0.toNat:Int)==10))||((c_0.toNat:Int)==12))||((c_0.toNat:Int)==13))||((c_0.toNat:Int)==32))
def rO{c_0}:FF 121 [.int .u8 c_0.toNat] (j6 c_0) fun r=>[.bool r]:=by
 intro s Q
 exact FC 25 [⟨2,true,none⟩] 0xed19766602fba43c17dcbf92032600a23740e83d88d1271c0d327740db7487564aa977ee8d901727d7d69f91f30e1cc9b704c9f59c7cb5ce9e39c35dc125f2a6b298824473a j6.eq_1
def qD(b_0:(List UInt8))(aQ:Int):Option (Int):=
 if decide (aQ<0)then
  some 0
 else
  nD (
   lJ (
    iter (fun((at3,sQ):Int×Bool)=>
     if decide (at3<(b_0.length:Int))then
      nD (
       aI (0<=at3/\at3<b_0.length)<|
       if sQ then
        some (.inl ((((ix b_0 at3).toNat:Int)!=10)&&(((ix b_0 at3).toNat:Int)!=13)))
       else
        if((ix b_0 at3).toNat:Int)==37 then
         some (.inl true)
        else
         aL (j6 (ix b_0 at3)) fun r11=>
         if !r11 then
          some (.inr at3)
         else
          some (.inl sQ)) (fun(xm:Bool)=>
       some (.inl (ao (at3+1),xm)))
      (fun(t10:Int)=>some (.inr (.inr t10)))
     else
      some (.inr (.inl ()))) (aQ,false)) (fun(_:Unit)=>
    some (.inl ()))
   (fun(t6:Int)=>some (.inr t6))) (fun(_:Unit)=>
   some (b_0.length:Int))
  (fun(t2:Int)=>some t2)
def IS{b_0 aQ}:FF 78 [sF 1 b_0,.int .i64 aQ] (qD b_0 aQ) fun r=>[.int .i64 r]:=by
 intro s Q
 refine FR 37 [⟨4,true,none⟩] 0x55e0511afece2d67e0c0297019d4b4a6f5f8f528cce5415dfd4ea81acb7aee22f94c7f61c48ea513cca95db257512bffae143162ae66b2a27752633f20b109a513b695d2ac41fe72af7f886d6a90dd5dbd7214ab262fe957607dac62bc6274ccc898949275357186e8ecd4f11858c332170d8e2268e0a4aa4307df40257ea187993741c3d736d952244ac8cf91f5d66a09a22962316cc5ba245b8116802ef069ca13980083fa qD.eq_1 ?_
 repeat'(first
  |(with_reducible first|exact bG|refine aV ?_ ?_|refine bI ?_|refine au (fun _(h:j6 (ix b_0 at3)=some _)=>(c6 rO h:)) (fun r11=>?_))
  |((with_reducible refine bR (live:=[(0,true),(1,false),(5,false)]) (fun(xm:Bool)=>⟨[(0,sF 1 b_0),(1,.int .i64 at3),(5,.bool xm)],[],s⟩) (fun J=>?_) ?_);rotate_left;rintro xm)
  |((with_reducible refine bk (fun((at3,sQ):Int×Bool)=>⟨[(0,sF 1 b_0),(1,.int .i64 at3),(5,.bool sQ)],[],s⟩) ?_ ?_);(first|exact rfl|simp -implicitDefEqProofs only[go_sem,seval]);rintro J ⟨at3,sQ⟩)
  |((with_reducible refine bR (live:=[(0,true)]) (fun(_:Unit)=>⟨[(0,sF 1 b_0)],[],s⟩) (fun J=>?_) ?_);rotate_left;rintro _)
  |refine Xh2 ?_|exact Xh3)
structure az where
 Builder:vq
 b_:(List UInt8)
 at_:Int
 a9:Bool
@[go_sem]abbrev uY(B0:Nat)(x:az):List AV:=[sv 137 B0 0 x.Builder,oi x.Builder,sF 1 x.b_,.int .i64 x.at_,.bool x.a9]
def dJ(s_0:aC)(c_1:UInt8):Option (Int):=
 aL (gu s_0 c_1) fun r1=>
 some r1
def nu{s_0 c_1}:FF 142 [.str s_0.b,.int .u8 c_1.toNat] (dJ s_0 c_1) fun r=>[.int .i64 r]:=by
 intro s Q
 refine FR 8 [⟨4,true,none⟩] 0x13ca928775a3e4835b495f9593980083fa dJ.eq_1 ?_
 repeat'(first
  |with_reducible refine au (fun _(h:gu s_0 c_1=some _)=>(c6 qb h:)) (fun r1=>?_)
  |refine Xh2 ?_|exact Xh3)
def qC(c_0:UInt8):Option (Bool):=
 aL (dJ (aC.mk [40,41,60,62,91,93,123,125,47,37]) c_0) fun r1=>
 some (decide (r1>=0))
def Gz{c_0}:FF 150 [.int .u8 c_0.toNat] (qC c_0) fun r=>[.bool r]:=by
 intro s Q
 refine FR 6 [⟨2,true,none⟩] 0xa1c396336384fd8d13a951013c745c9a05440fbbced918d920824473a qC.eq_1 ?_
 repeat'(first
  |with_reducible refine au (fun _(h:dJ (aC.mk [40,41,60,62,91,93,123,125,47,37]) c_0=some _)=>(c6 nu h:)) (fun r1=>?_)
  |refine Xh2 ?_|exact Xh3)
def fU(c_0:UInt8):Option (Bool):=
 aL (j6 c_0) fun r1=>
 aL (eu (!r1) false (qC c_0)) fun r2=>
 some ((!r1)&&(!r2))
def tC{c_0}:FF 122 [.int .u8 c_0.toNat] (fU c_0) fun r=>[.bool r]:=by
 intro s Q
 refine FR 11 [⟨2,true,none⟩] 0x19674524ab3e59203f68dbee221833dc97698ba209647e77dc540824473a fU.eq_1 ?_
 repeat'(first
  |(with_reducible first|refine cw (fun _(h:j6 c_0=some _)=>(c6 rO h:)) (fun _=>rfl) (fun r1=>?_)|refine cP rfl (fun _(h:qC c_0=some _)=>(c6 Gz h:)) (fun _=>rfl) (fun r2=>?_))
  |refine Xh2 ?_|exact Xh3)
def fV(s_0:az):Option (aC×Bool×az):=
 jn (
  iter (fun(o3:az)=>
   aI ((decide (o3.at_<(o3.b_.length:Int)))=true->0<=o3.at_/\o3.at_<o3.b_.length)<|
   aL (eu (decide (o3.at_<(o3.b_.length:Int))) false (fU (ix o3.b_ o3.at_))) fun r6=>
   if(decide (o3.at_<(o3.b_.length:Int)))&&r6 then
    some (.inl (az.mk o3.Builder o3.b_ (ao (o3.at_+1)) o3.a9))
   else
    some (.inr o3)) s_0) fun(o2:az)=>
 aI (0<=s_0.at_/\s_0.at_<=o2.at_/\o2.at_<=o2.b_.length)<|
 some (aC.mk (part o2.b_ s_0.at_ o2.at_),(decide (o2.at_<(o2.b_.length:Int)))||o2.a9,o2)
def qF{s_0}{B0:Nat}{s:ae}{Q:List AV->ae->Prop}(hB0:s B0=some (.cells (uY B0 s_0))):ok (fV s_0) (fun r=>Q [.str r.1.b,.bool r.2.1] (s.set B0 (.cells (uY B0 r.2.2))))->FN prog 127 [.ref B0 0] s Q:=by
 rw[<-aZ hB0]
 refine FR 66 [⟨2,true,none⟩,⟨3,true,none⟩] 0x1e71539ecd6d71b44eced0f320b7a679524aeb539b9ae1563fdd8aad207797bad5834eef3f4e32557785bfd4a5b72ccca6e2921dc1ecd39b7050f250a355e3c30f2261c07d98d8525e17d9d32b81c9e2a611e655cb0842a73e66c04e871950553171dd98da17a6694810cc66353042b4fccaa356cbcbfef1e53effb7ac6bb8069f01acbe69f4571f360bbfbae7e18bd3025c0af06956fe7008567efdb67b3640053bdfb15669271e8ec18285634fe7543849626425a569fecbf08ed7381271678560951ccbb076fb71c8846f38fa1519a6af45d6211aeac4e457fa6fe229da325182317c43e6a31a5d48db518ebf42fea3a368ecf161b3defc478b fV.eq_1 ?_
 repeat'(first
  |(with_reducible first|exact bG|refine aV ?_ ?_|refine cP rfl (fun _(h:fU (ix o3.b_ o3.at_)=some _)=>(c6 tC h:)) (fun _=>rfl) (fun r6=>?_))
  |((with_reducible refine bk (fun(o3:az)=>⟨[(0,.ref B0 0),(4,.int .i64 s_0.at_)],[],(s.set B0 (.cells (uY B0 o3)))⟩) ?_ ?_);(first|exact rfl|simp -implicitDefEqProofs only[go_sem,seval]);rintro J o3)
  |((with_reducible refine aS (fun(o2:az)=>⟨[(0,.ref B0 0),(4,.int .i64 s_0.at_)],[],(s.set B0 (.cells (uY B0 o2)))⟩) (fun J=>?_) ?_);rotate_left;rintro o2)
  |refine Xh2 ?_|exact Xh3)
def cW(s_0:aC)(gp:aC):Option (Bool):=
 aI ((decide ((s_0.b.length:Int)>=(gp.b.length:Int)))=true->0<=(0:Int)/\0<=(gp.b.length:Int)/\(gp.b.length:Int)<=s_0.b.length)<|
 some ((decide ((s_0.b.length:Int)>=(gp.b.length:Int)))&&((aC.mk (part s_0.b 0 (gp.b.length:Int))).b==gp.b))
def lN{s_0 gp}:FF 264 [.str s_0.b,.str gp.b] (cW s_0 gp) fun r=>[.bool r]:=by
 intro s Q
 exact FC 18 [⟨4,true,none⟩] 0xa10c3beea36cba2014615743edd982503d1383bba5f524a79466103a002513cd19b41144e483fa cW.eq_1
def cY(s_0:aC)(gp:aC):Option (Bool):=
 aL (cW s_0 gp) fun r1=>
 some r1
def nt{s_0 gp}:FF 217 [.str s_0.b,.str gp.b] (cY s_0 gp) fun r=>[.bool r]:=by
 intro s Q
 refine FR 8 [⟨4,true,none⟩] 0x13ca928775b767bf43495f95944e483fa cY.eq_1 ?_
 repeat'(first
  |with_reducible refine au (fun _(h:cW s_0 gp=some _)=>(c6 lN h:)) (fun r1=>?_)
  |refine Xh2 ?_|exact Xh3)
def dZ(s_0:aC)(pJ:aC):Option (aC×aC×Bool):=
 aL (gP s_0 pJ) fun r1=>
 if decide (r1>=0)then
  aI (0<=(0:Int)/\0<=r1/\r1<=s_0.b.length)<|
  aI (0<=ao (r1+(pJ.b.length:Int))/\ao (r1+(pJ.b.length:Int))<=(s_0.b.length:Int)/\(s_0.b.length:Int)<=s_0.b.length)<|
  some (aC.mk (part s_0.b 0 r1),aC.mk (part s_0.b (ao (r1+(pJ.b.length:Int))) (s_0.b.length:Int)),true)
 else
  some (s_0,(aC.mk []),false)
def nO{s_0 pJ}:FF 265 [.str s_0.b,.str pJ.b] (dZ s_0 pJ) fun r=>[.str r.1.b,.str r.2.1.b,.bool r.2.2]:=by
 intro s Q
 refine FR 23 [⟨4,true,none⟩,⟨5,true,none⟩,⟨6,true,none⟩] 0x4566d085658667f36f5c70e61bff6b5d746edfbfac6cf1c14f635a8546a7fe52951d71a693f4081945bafc3dd4b3d279421d6bbb0f8c16edb741d89f5f8b2f391183ce39b095ecb9586dcc36c06e73d3defc849c dZ.eq_1 ?_
 repeat'(first
  |with_reducible refine au (fun _(h:gP s_0 pJ=some _)=>(c6 uc h:)) (fun r1=>?_)
  |refine Xh2 ?_|exact Xh3)
def lF(s_0:aC)(pJ:aC):Option (aC×aC×Bool):=
 aL (dZ s_0 pJ) fun r1=>
 some (r1.1,r1.2.1,r1.2.2)
def Dx{s_0 pJ}:FF 218 [.str s_0.b,.str pJ.b] (lF s_0 pJ) fun r=>[.str r.1.b,.str r.2.1.b,.bool r.2.2]:=by
 intro s Q
 refine FR 13 [⟨4,true,none⟩,⟨5,true,none⟩,⟨6,true,none⟩] 0x4fb00ea327c318c3f520f19c9b4ecd7ddee57d4679f3bf6c06e73d3defc849c lF.eq_1 ?_
 repeat'(first
  |with_reducible refine au (fun _(h:dZ s_0 pJ=some _)=>(c6 nO h:)) (fun r1=>?_)
  |refine Xh2 ?_|exact Xh3)
def iI(s_0:aC):Option (Int):=
 aI (((s_0.b.length+(aC.mk [48,48,48,48,48,48]).b.length:Nat):Int)<=Iw)<|
 aI (0<=(0:Int)/\0<=6/\6<=(aC.mk (s_0.b++(aC.mk [48,48,48,48,48,48]).b)).b.length)<|
 aL (mF (aC.mk (part (aC.mk (s_0.b++(aC.mk [48,48,48,48,48,48]).b)).b 0 6))) fun r1=>
 some r1.1
def xY{s_0}:FF 221 [.str s_0.b] (iI s_0) fun r=>[.int .i64 r]:=by
 intro s Q
 refine FR 14 [⟨2,true,none⟩] 0x13749e7fbe8e2dc2b57eb9e91e1e40ec525273ba7e22774cd910af30e26eeed1bbeccccccdfc2c13cf657085fcc00473a iI.eq_1 ?_
 repeat'(first
  |(with_reducible first|exact bG|refine aV ?_ ?_)
  |((fail_if_success (have _x:=r1));with_reducible refine au (fun _ h=>(c6 vE h:)) (fun r1=>?_))
  |refine Xh2 ?_|exact Xh3)
def js(v_0:aa):Option (Int):=
 nD (
  if v_0.Kind==2 then
   some (.inl 2147483647)
  else
   if v_0.Kind==3 then
    some (.inl 2147483647000000)
   else
    some (.inr (2:Int))) (fun(Cw:Int)=>
  if(((decide (v_0.N<ao (0 -Cw)))||(decide (v_0.N>Cw)))||(!(v_0.S.b==(aC.mk []).b)))||(decide ((v_0.L.length:Int)>0))then
   some 2
  else
   some 0)
 (fun(t3:Int)=>some t3)
def rS{v_0}:FF 141 [.agg (ot v_0)] (js v_0) fun r=>[.int .i64 r]:=by
 intro s Q
 refine FR 32 [⟨2,true,none⟩] 0x1ac1ed7f522246eb1bb86a08164e3d8af792f37deaeba81484ef74628005c67944ad5b22f6241a8665d54f06e7478c4bc44ae9f8382c76946ba084ae9edfd78ba016ce20fc34639ea4745cf77f6384bd912dee079fc71b43985a2a099f6876dfc6207473e6f7e382d000735699529cfccf7593c6841cc0aa464664b7c5b0ebf3184553559ed614d2008303995b js.eq_1 ?_
 repeat'(first
  |((with_reducible refine bR (fun(Cw:Int)=>⟨[(1,.loc (ot v_0)),(3,.int .i64 Cw)],[],s⟩) (fun J=>?_) ?_);rotate_left;rintro Cw)
  |refine Xh2 ?_|exact Xh3)
def oc(s_0:aC):Option (aa×Int):=
 jn (
  aL (cY s_0 (aC.mk [45])) fun r4=>
  if r4 then
   aI (0<=(1:Int)/\1<=(s_0.b.length:Int)/\(s_0.b.length:Int)<=s_0.b.length)<|
   some ((-1),aC.mk (part s_0.b 1 (s_0.b.length:Int)))
  else
   aL (cY s_0 (aC.mk [43])) fun r5=>
   if r5 then
    aI (0<=(1:Int)/\1<=(s_0.b.length:Int)/\(s_0.b.length:Int)<=s_0.b.length)<|
    some (1,aC.mk (part s_0.b 1 (s_0.b.length:Int)))
   else
    some (1,s_0)) fun((Dr,HI):Int×aC)=>
 aL (lF HI (aC.mk [46])) fun r6=>
 aL (eu (!((ao ((r6.1.b.length:Int)+(r6.2.1.b.length:Int)))==0)) false (nQ r6.1)) fun r7=>
 aL (eu (!(((ao ((r6.1.b.length:Int)+(r6.2.1.b.length:Int)))==0)||(!r7))) false (nQ r6.2.1)) fun r8=>
 if(((ao ((r6.1.b.length:Int)+(r6.2.1.b.length:Int)))==0)||(!r7))||(!r8)then
  some ((aa.mk 0 0 (aC.mk []) ([]:List aa)),11)
 else
  aI ((((aC.mk [48]).b.length+r6.1.b.length:Nat):Int)<=Iw)<|
  aL (mF (aC.mk ((aC.mk [48]).b++r6.1.b))) fun r9=>
  if r9.2 !=0 then
   some ((aa.mk 0 0 (aC.mk []) ([]:List aa)),r9.2)
  else
   if !r6.2.2 then
    some ((aa.mk 2 (ao (Dr*r9.1)) (aC.mk []) ([]:List aa)),0)
   else
    aL (iI r6.2.1) fun r10=>
    aL (js (aa.mk 3 (ao (Dr*(ao ((ao (r9.1*1000000))+r10)))) (aC.mk []) ([]:List aa))) fun r11=>
    if r11 !=0 then
     some ((aa.mk 0 0 (aC.mk []) ([]:List aa)),5)
    else
     some ((aa.mk 3 (ao (Dr*(ao ((ao (r9.1*1000000))+r10)))) (aC.mk []) ([]:List aa)),0)
def GF{s_0}:FF 162 [.str s_0.b] (oc s_0) fun r=>[.agg (ot r.1),.int .i64 r.2]:=by
 intro s Q
 refine FR 75 [⟨2,false,some (4,true)⟩,⟨3,true,none⟩] 0x14d9a4599bc4b9adb84b5bde2331367625b0faef861ddefd027471147f6e4b131775b5ae90345634f534820c5060a2271ff36fe427a6846661c6f693afedfd3ebd2610ed19f395631d4cd3a6bb96a2e0637b210abbc829cc2ef811a791cb0815fedd14b47520182d3f28e3c7400ded6a0e8a7ab7f7082b266409e366f4c1f638a490e2a2bc78a2e0ee19d240831880f1ff58d9ea1d728af42e83c806ab2a7bda995339639299a3635e262c9fdf5af2076b46efcea05351d2edfaf5c864fa5d97a5714cbd0e3941fb2358f66e2fd662312ddd81c838e8618e2b9510bda4339c14ddb12eff32bd2124311860bcd2aefd7e24e18376251428f1b4f92ff959928ee49cbecdbd0b72b5f2ab6ca7d4905bd7150b05f4aeebc4a3739670f0bea978a05730e2acc29d1bf9258e25f8a5b4610dd0d5c08062a989cc6c8388af7b55ac0fba98d6f2af5ebadc62a28b5161e2009a8946ef8ab8a540031c8cda7089a31aec57c3cb5c43350040de274c3b6b357b2003cd1eb37e0092758b oc.eq_1 ?_
 repeat'(first
  |(with_reducible first|exact bG|refine aV ?_ ?_|refine bI ?_|refine au (fun _(h:cY s_0 (aC.mk [45])=some _)=>(c6 nt h:)) (fun r4=>?_)|refine au (fun _(h:cY s_0 (aC.mk [43])=some _)=>(c6 nt h:)) (fun r5=>?_)|refine au (fun _(h:lF HI (aC.mk [46])=some _)=>(c6 Dx h:)) (fun r6=>?_)|refine cP rfl (fun _(h:nQ r6.1=some _)=>(c6 CD h:)) (fun _=>rfl) (fun r7=>?_)|refine cP rfl (fun _(h:nQ r6.2.1=some _)=>(c6 CD h:)) (fun _=>rfl) (fun r8=>?_))
  |((fail_if_success (have _x:=r9));with_reducible refine au (fun _ h=>(c6 vE h:)) (fun r9=>?_))
  |(with_reducible first|refine au (fun _(h:iI r6.2.1=some _)=>(c6 xY h:)) (fun r10=>?_)|refine au (fun _(h:js (aa.mk 3 (ao (Dr*(ao ((ao (r9.1*1000000))+r10)))) (aC.mk []) ([]:List aa))=some _)=>(by refine nJ ?_ ((c6 rS h:));simp -implicitDefEqProofs only[go_sem,seval])) (fun r11=>?_))
  |((with_reducible refine aS (fun((Dr,HI):Int×aC)=>⟨[(2,.loc [.int .i64 0,.int .i64 0,.str (aC.mk []).b,.sl true 4 0 []]),(4,.int .i64 Dr),(5,.str HI.b)],[],s⟩) (fun J=>?_) ?_);rotate_left;rintro⟨Dr,HI⟩)
  |refine Xh2 ?_|exact Xh3)
def fF(s_0:az):Option (aE×Int×az):=
 aL (fV s_0) fun r1=>
 if !r1.2.1 then
  some ((aE.mk 0 0 0 (aa.mk 0 0 (aC.mk []) ([]:List aa)) (aC.mk [])),6,r1.2.2)
 else
  aI (0<=(0:Int)/\(0:Int)<r1.1.b.length)<|
  if((((decide (((ix r1.1.b 0).toNat:Int)>=48))&&(decide (((ix r1.1.b 0).toNat:Int)<=57)))||(((ix r1.1.b 0).toNat:Int)==43))||(((ix r1.1.b 0).toNat:Int)==45))||(((ix r1.1.b 0).toNat:Int)==46)then
   aL (oc r1.1) fun r2=>
   some ((aE.mk 1 0 0 r2.1 (aC.mk [])),r2.2,r1.2.2)
  else
   some ((aE.mk 6 0 0 (aa.mk 0 0 (aC.mk []) ([]:List aa)) r1.1),0,r1.2.2)
def tD{s_0}{B0:Nat}{s:ae}{Q:List AV->ae->Prop}(hB0:s B0=some (.cells (uY B0 s_0))):ok (fF s_0) (fun r=>Q [.agg [.int .i64 r.1.Kind,.int .i64 r.1.mj,.int .i64 r.1.To,.int .i64 r.1.V.Kind,.int .i64 r.1.V.N,.str r.1.V.S.b,sF 4 r.1.V.L,.str r.1.S.b],.int .i64 r.2.1] (s.set B0 (.cells (uY B0 r.2.2))))->FN prog 123 [.ref B0 0] s Q:=by
 rw[<-aZ hB0]
 refine FR 47 [⟨2,false,some (8,true)⟩,⟨3,true,none⟩] 0xb227c2a021021c42d7e39b77b7c20f3dd0171c29a84d3410d8f156487105ff4b052996cadbf2f65dd59935dd31dee89db3e37278e73749e17c59b2ba17c9ced0883f79b20956a8636bbd083dd7788c911f74d8921731a0869ffb59efaec7a7b3f9ef3587bb4621d3345c24be864f001073215f420b465f5be4f6230bd5af8ba4bd120e07832b76259e815ba3afd119a1ffaa08bd45b13bdd98dbdf340f149227bd7e3cb05a646e2c1c4bff2bfcb3bf5e08b4e02dfc396c4932bf6c6dd85431f1d5083dcbfd7004d0b377b7b2003defd1eb37e000000010bf58b fF.eq_1 ?_
 repeat'(first
  |(with_reducible first|exact bG|refine aV ?_ ?_|refine bI ?_|refine fun hh=>qF (B0:=B0) DO (aF (show ok (fV s_0) _ from hh) fun r1=>?_)|refine au (fun _(h:oc r1.1=some _)=>(c6 GF h:)) (fun r2=>?_))
  |refine Xh2 ?_|exact Xh3)
def bX(s_0:az):Option (UInt8×Bool):=
 if decide (s_0.at_>=(s_0.b_.length:Int))then
  some (0,false)
 else
  aI (0<=s_0.at_/\s_0.at_<s_0.b_.length)<|
  some (ix s_0.b_ s_0.at_,true)
def y7{s_0}{B0:Nat}{s:ae}{Q:List AV->ae->Prop}(hB0:s B0=some (.cells (uY B0 s_0))):ok (bX s_0) (fun r=>Q [.int .u8 r.1.toNat,.bool r.2] s)->FN prog 163 [.ref B0 0] s Q:=by
 rw[<-aZ hB0]
 exact FC 24 [⟨2,true,none⟩,⟨3,true,none⟩] 0x60e09ac11cd95a91706a17959ef62897da132fe79d11c283aaa3e19e41cf3d05d9f9dee1930108f804080e632b73e51b717e74abfc8b7bd773ac096db9458b81565809d4c3a38917736f857cafe118c8051371361b3cc798478b bX.eq_1
def fe{s_0}{B0:Nat}{s:ae}{r:UInt8×Bool}(hB0:s B0=some (.cells (uY B0 s_0)))(h:bX s_0=some r):FE prog 163 [.ref B0 0] s [.int .u8 r.1.toNat,.bool r.2] s:=y7 hB0 ⟨r,h,rfl,rfl⟩
def cO(s_0:az):Option (Int):=
 if s_0.a9 then
  some 10
 else
  some 6
def y6{s_0}{B0:Nat}{s:ae}{Q:List AV->ae->Prop}(hB0:s B0=some (.cells (uY B0 s_0))):ok (cO s_0) (fun r=>Q [.int .i64 r] s)->FN prog 164 [.ref B0 0] s Q:=by
 rw[<-aZ hB0]
 exact FC 7 [⟨2,true,none⟩] 0x6de8cfafaf9a6b582a0ce164a71a255e1d4fdd8784ba1ffcc00473a cO.eq_1
def iE{s_0}{B0:Nat}{s:ae}{r:Int}(hB0:s B0=some (.cells (uY B0 s_0)))(h:cO s_0=some r):FE prog 164 [.ref B0 0] s [.int .i64 r] s:=y6 hB0 ⟨r,h,rfl,rfl⟩
def jD(c_0:UInt8):Option (Int):=
 if(decide ((c_0.toNat:Int)>=48))&&(decide ((c_0.toNat:Int)<=57))then
  some (ao (((eR ((c_0.toNat:Int) -48)).toNat:Int)))
 else
  if(decide ((c_0.toNat:Int)>=97))&&(decide ((c_0.toNat:Int)<=102))then
   some (ao ((ao (((eR ((c_0.toNat:Int) -97)).toNat:Int)))+10))
  else
   if(decide ((c_0.toNat:Int)>=65))&&(decide ((c_0.toNat:Int)<=70))then
    some (ao ((ao (((eR ((c_0.toNat:Int) -65)).toNat:Int)))+10))
   else
    some (-1)
def oE{c_0}:FF 168 [.int .u8 c_0.toNat] (jD c_0) fun r=>[.int .i64 r]:=by
 intro s Q
 exact FC 35 [⟨2,true,none⟩] 0x5a7bd2a41efd5a2161ca771502a4fdd566838b1c0356334808800ec6d8682357e3e6f0339f2056249218662267855c8fd429f4b4f4deace826ea8f4ed5ab84aed2daf36deb2dc5911f2bc9aebe87acfbcdd6f581a89fac9b51705da339436121f9d0b59929b7180edf9779b98a8f13674506ffa2ff46d99f8deb822fe12dfcc00473a jD.eq_1
def gm(s_0:az):Option (aa×Int×az):=
 iter (fun((vz,o2):Int×az)=>
  aL (bX o2) fun r6=>
  if !r6.2 then
   aL (cO o2) fun r7=>
   some (.inr ((aa.mk 0 0 (aC.mk []) ([]:List aa)),r7,o2))
  else
   aL (jD r6.1) fun r8=>
   nD (
    if((r6.1.toNat:Int)==62)&&(decide (vz>=0))then
     aL (aK o2.Builder (eR (ao (16*vz)))) fun r15=>
     aL (bD r15.2) fun r16=>
     some (.inr ((aa.mk 4 0 r16.1 ([]:List aa)),(0:Int),(az.mk r16.2 o2.b_ (ao (o2.at_+1)) o2.a9)))
    else
     if(r6.1.toNat:Int)==62 then
      aL (bD o2.Builder) fun r17=>
      some (.inr ((aa.mk 4 0 r17.1 ([]:List aa)),(0:Int),(az.mk r17.2 o2.b_ (ao (o2.at_+1)) o2.a9)))
     else
      aL (j6 r6.1) fun r18=>
      if r18 then
       some (.inl (vz,(az.mk o2.Builder o2.b_ (ao (o2.at_+1)) o2.a9)))
      else
       if decide (r8<0)then
        some (.inr ((aa.mk 0 0 (aC.mk []) ([]:List aa)),(11:Int),(az.mk o2.Builder o2.b_ (ao (o2.at_+1)) o2.a9)))
       else
        if decide (vz<0)then
         some (.inl (r8,(az.mk o2.Builder o2.b_ (ao (o2.at_+1)) o2.a9)))
        else
         aL (aK o2.Builder (eR (ao ((ao (16*vz))+r8)))) fun r19=>
         some (.inl ((-1),(az.mk r19.2 o2.b_ (ao (o2.at_+1)) o2.a9)))) (fun((Gp,o11):Int×az)=>
    some (.inl (Gp,o11)))
   (fun((t12,t13,o14):aa×Int×az)=>some (.inr (t12,t13,o14)))) ((-1),s_0)
def xK{s_0}{B0:Nat}{s:ae}{Q:List AV->ae->Prop}(hB0:s B0=some (.cells (uY B0 s_0))):ok (gm s_0) (fun r=>Q [.agg (ot r.1),.int .i64 r.2.1] (s.set B0 (.cells (uY B0 r.2.2))))->FN prog 165 [.ref B0 0] s Q:=by
 rw[<-aZ hB0]
 refine FR 74 [⟨2,false,some (4,true)⟩,⟨3,true,none⟩] 0xa759657d0c7c18a2ad0b99798d9a883357b771c77fef86f653d7c774ebd36adf4a474967deba05c4fb336f90ad292bb44bb46952f4b00fca9890d67f4011e474fd2fd062f535bb28886cbb482bf981d534d93224ee362d5da9e6d534e98e4705bbcca1abaa687609f3eb060053c88f40c8bd6c373f2349c982f7a0e8f1222e4c6d38a7c42e9b58d685751b0d07d79e68345bbbd0353b0132b31fa448c96519c553365b3f64311b200dfe44bcda50dacd07e138c7940b929365db4ba5afd0b924c5504cb0e3fc6f3f11efbb894e0f4c28b1cce314456551ea9d6ea1a62e428406b5fbaf766aff120c198893387ec76de6972d368d16a1965ab8216eb2c1f9f7fda12b05c757377c3909d348f7e7a8251e7ef36995aa57625264b98ab18cd618be9010947c5e01296026ceb814d26995c1ac31a23d5017dbb359e84938bac7b2003cd1eb37e0092758b gm.eq_1 ?_
 repeat'(first
  |(with_reducible first|exact bG|refine aV ?_ ?_|refine bI ?_|refine au (fun _(h:bX o2=some _)=>fe (B0:=B0) DO h) (fun r6=>?_)|refine au (fun _(h:cO o2=some _)=>iE (B0:=B0) DO h) (fun r7=>?_)|refine au (fun _(h:jD r6.1=some _)=>(c6 oE h:)) (fun r8=>?_)|refine fun hh=>kM R_ (ck (B0:=B0) (preB0:=[]) (postB0:=[sF 1 o2.b_,.int .i64 (ao (o2.at_+1)),.bool o2.a9]) (TB0:=137) DO IF kH (aF (show ok (aK o2.Builder (eR (ao (16*vz)))) _ from hh) fun r15=>?_))|refine fun hh=>kM R_ (eY (B0:=B0) (preB0:=[]) (postB0:=[sF 1 o2.b_,.int .i64 (ao (o2.at_+1)),.bool o2.a9]) (TB0:=137) DO IF kH (aF (show ok (bD r15.2) _ from hh) fun r16=>?_))|refine fun hh=>kM R_ (eY (B0:=B0) (preB0:=[]) (postB0:=[sF 1 o2.b_,.int .i64 (ao (o2.at_+1)),.bool o2.a9]) (TB0:=137) DO IF kH (aF (show ok (bD o2.Builder) _ from hh) fun r17=>?_))|refine au (fun _(h:j6 r6.1=some _)=>(c6 rO h:)) (fun r18=>?_)|refine fun hh=>kM R_ (ck (B0:=B0) (preB0:=[]) (postB0:=[sF 1 o2.b_,.int .i64 (ao (o2.at_+1)),.bool o2.a9]) (TB0:=137) DO IF kH (aF (show ok (aK o2.Builder (eR (ao ((ao (16*vz))+r8)))) _ from hh) fun r19=>?_)))
  |((with_reducible refine bR (fun((Gp,o11):Int×az)=>⟨[(0,.ref B0 0),(2,.loc [.int .i64 0,.int .i64 0,.str (aC.mk []).b,.sl true 4 0 []]),(4,.int .i64 Gp)],[],(s.set B0 (.cells (uY B0 o11)))⟩) (fun J=>?_) ?_);rotate_left;rintro⟨Gp,o11⟩)
  |((with_reducible refine xI (fun((vz,o2):Int×az)=>⟨[(0,.ref B0 0),(2,.loc [.int .i64 0,.int .i64 0,.str (aC.mk []).b,.sl true 4 0 []]),(4,.int .i64 vz)],[],(s.set B0 (.cells (uY B0 o2)))⟩) ?_ ?_);(first|exact rfl|simp -implicitDefEqProofs only[go_sem,seval]);rintro J ⟨vz,o2⟩)
  |refine Xh2 ?_|exact Xh3)
def iG(s_0:az):Option (aE×Int×az):=
 aL (bX s_0) fun r1=>
 if !r1.2 then
  aL (cO s_0) fun r2=>
  some ((aE.mk 0 0 0 (aa.mk 0 0 (aC.mk []) ([]:List aa)) (aC.mk [])),r2,s_0)
 else
  if(r1.1.toNat:Int)==60 then
   some ((aE.mk 4 0 0 (aa.mk 0 0 (aC.mk []) ([]:List aa)) (aC.mk [])),0,(az.mk s_0.Builder s_0.b_ (ao (s_0.at_+1)) s_0.a9))
  else
   aL (gm s_0) fun r3=>
   some ((aE.mk 1 0 0 r3.1 (aC.mk [])),r3.2.1,r3.2.2)
def vd{s_0}{B0:Nat}{s:ae}{Q:List AV->ae->Prop}(hB0:s B0=some (.cells (uY B0 s_0))):ok (iG s_0) (fun r=>Q [.agg [.int .i64 r.1.Kind,.int .i64 r.1.mj,.int .i64 r.1.To,.int .i64 r.1.V.Kind,.int .i64 r.1.V.N,.str r.1.V.S.b,sF 4 r.1.V.L,.str r.1.S.b],.int .i64 r.2.1] (s.set B0 (.cells (uY B0 r.2.2))))->FN prog 124 [.ref B0 0] s Q:=by
 rw[<-aZ hB0]
 refine FR 36 [⟨2,false,some (8,true)⟩,⟨3,true,none⟩] 0x149b1c16ce50c65be9c79b3b24e61f00f1bc24750ad4424632eee970a67ab7b32a741e6281e40bc1f428292118066064d474d41ebd0a46c259e36a8244c8055c134158df76ba036bcb537ad2f7db3800fa4f1d3cb3d5ed2afefb2545d4b94f4ceb9f6344e145cd2aee0486394d37d82dbf456ff26ec12295c7578c053f0134f05ad01c4bff2c09de5cd20a498a49893527b9b028d3160ed431f1d3e44cdd8c2f73eb4b81b7b2003defd1eb37e000000010bf58b iG.eq_1 ?_
 repeat'(first
  |(with_reducible first|exact bG|refine aV ?_ ?_|refine bI ?_|refine au (fun _(h:bX s_0=some _)=>fe (B0:=B0) DO h) (fun r1=>?_)|refine au (fun _(h:cO s_0=some _)=>iE (B0:=B0) DO h) (fun r2=>?_)|refine fun hh=>xK (B0:=B0) DO (aF (show ok (gm s_0) _ from hh) fun r3=>?_))
  |refine Xh2 ?_|exact Xh3)
def iD(s_0:az):Option (aE×Int×az):=
 aL (bX s_0) fun r1=>
 if(!r1.2)&&(!s_0.a9)then
  some ((aE.mk 0 0 0 (aa.mk 0 0 (aC.mk []) ([]:List aa)) (aC.mk [])),6,s_0)
 else
  if(!r1.2)||((r1.1.toNat:Int)!=62)then
   some ((aE.mk 0 0 0 (aa.mk 0 0 (aC.mk []) ([]:List aa)) (aC.mk [])),11,s_0)
  else
   some ((aE.mk 5 0 0 (aa.mk 0 0 (aC.mk []) ([]:List aa)) (aC.mk [])),0,(az.mk s_0.Builder s_0.b_ (ao (s_0.at_+1)) s_0.a9))
def vb{s_0}{B0:Nat}{s:ae}{Q:List AV->ae->Prop}(hB0:s B0=some (.cells (uY B0 s_0))):ok (iD s_0) (fun r=>Q [.agg [.int .i64 r.1.Kind,.int .i64 r.1.mj,.int .i64 r.1.To,.int .i64 r.1.V.Kind,.int .i64 r.1.V.N,.str r.1.V.S.b,sF 4 r.1.V.L,.str r.1.S.b],.int .i64 r.2.1] (s.set B0 (.cells (uY B0 r.2.2))))->FN prog 125 [.ref B0 0] s Q:=by
 rw[<-aZ hB0]
 refine FR 38 [⟨2,false,some (8,true)⟩,⟨3,true,none⟩] 0x61afcd709b7d7dae17988911332bb189f30b933047a06907506fc2d08457afe4472e284f211a19f5730b161e07bd5013023e8a676c9e4d19971a93e3a90a9e4b1f541b1625c975eb1782675d34b5d3341d5e953cea61d694b2364ef0feb637dcc4ac272daec8ad07022e5ea849faa9c2e0803e1c15c7b905cbceae7dd6bf376a23ae001f8a8ae8e23571b6a8e820904bd431f1d19c6b00976f73e07b95b7b2003defd1eb37e000000010bf58b iD.eq_1 ?_
 repeat'(first
  |with_reducible refine au (fun _(h:bX s_0=some _)=>fe (B0:=B0) DO h) (fun r1=>?_)
  |refine Xh2 ?_|exact Xh3)
def gn(s_0:az)(c_1:UInt8):Option (Bool×az):=
 nD (
  lJ (
   iter (fun((n5,k6,o7):Int×Int×az)=>
    if decide (k6<2)then
     aL (bX o7) fun r12=>
     if !r12.2 then
      if o7.a9 then
       aL (aK o7.Builder (eR (n5))) fun r13=>
       some (.inr (.inr (o7.a9||false,(az.mk r13.2 o7.b_ o7.at_ o7.a9))))
      else
       some (.inr (.inr (o7.a9||false,o7)))
     else
      if(decide ((r12.1.toNat:Int)<48))||(decide ((r12.1.toNat:Int)>55))then
       some (.inr (.inl (n5,o7)))
      else
       some (.inl (ao ((ao (8*n5))+(ao (((eR ((r12.1.toNat:Int) -48)).toNat:Int)))),ao (k6+1),(az.mk o7.Builder o7.b_ (ao (o7.at_+1)) o7.a9)))
    else
     some (.inr (.inl (n5,o7)))) (ao (((eR ((c_1.toNat:Int) -48)).toNat:Int)),0,s_0)) (fun((n8,o9):Int×az)=>
   some (.inl (n8,o9)))
  (fun((t10,o11):Bool×az)=>some (.inr (t10,o11)))) (fun((n1,o2):Int×az)=>
  aL (aK o2.Builder (eR (n1))) fun r14=>
  some (true,(az.mk r14.2 o2.b_ o2.at_ o2.a9)))
 (fun((t3,o4):Bool×az)=>some (t3,o4))
def xL{s_0 c_1}{B0:Nat}{s:ae}{Q:List AV->ae->Prop}(hB0:s B0=some (.cells (uY B0 s_0))):ok (gn s_0 c_1) (fun r=>Q [.bool r.1] (s.set B0 (.cells (uY B0 r.2))))->FN prog 222 [.ref B0 0,.int .u8 c_1.toNat] s Q:=by
 rw[<-aZ hB0]
 refine FR 62 [⟨4,true,none⟩] 0x4969ec937a3c6b5cbe6c2c73d689c436fa0dae4f5e27be26cdc1abf32893b9087f31ea1a2cb34734d914a1c1a9e7b89cc0a7991024fbfdb05f2fdd5268bdeb06bbb608367a9895cb02f4cdfda6a814fd2ee9da2b486b39a07758088ebb32cbd94a4b8a22e8b924498710f050223a3145206eaacb9a1cb908a2dea2456d7b9b42e9e573a5905e452a332133126be5c60a593c79b08bc460247d566ece9c4acb27551fb1be258a5cc07b1d068b81cca7e6c38cf435f4ca6d736d3466c5e1b147dcad1db95911d653dfe4c91b3c2b5263d4cd5a9944e483fa gn.eq_1 ?_
 repeat'(first
  |((fail_if_success (have _x:=hgG1));(have _x:=o7.a9);clear _x;cases hgG1:o7.a9)
  |(with_reducible first|exact bG|refine aV ?_ ?_|refine bI ?_|refine au (fun _(h:bX o7=some _)=>fe (B0:=B0) Xd6 h) (fun r12=>?_)|refine fun hh=>kM R_ (ck (B0:=B0) (preB0:=[]) (postB0:=[sF 1 o7.b_,.int .i64 o7.at_,.bool o7.a9]) (TB0:=137) Xd6 IF kH (aF (show ok (aK o7.Builder (eR (n5))) _ from hh) fun r13=>?_))|refine fun hh=>kM R_ (ck (B0:=B0) (preB0:=[]) (postB0:=[sF 1 o2.b_,.int .i64 o2.at_,.bool o2.a9]) (TB0:=137) Xd6 IF kH (aF (show ok (aK o2.Builder (eR (n1))) _ from hh) fun r14=>?_)))
  |((with_reducible refine bk (fun((n5,k6,o7):Int×Int×az)=>⟨[(0,.ref B0 0),(5,.int .i64 n5),(6,.int .i64 k6)],[],(s.set B0 (.cells (uY B0 o7)))⟩) ?_ ?_);(first|exact rfl|simp -implicitDefEqProofs only[go_sem,seval]);rintro J ⟨n5,k6,o7⟩)
  |((with_reducible refine bR (fun((n1,o2):Int×az)=>⟨[(0,.ref B0 0),(5,.int .i64 n1)],[],(s.set B0 (.cells (uY B0 o2)))⟩) (fun J=>?_) ?_);rotate_left;rintro⟨n1,o2⟩)
  |simp -implicitDefEqProofs only[go_sem,seval,hgG1,Bool.false_eq_true,if_false,if_true,Bool.true_eq_false,false_implies,true_implies,true_and,and_true]
  |refine Xh2 ?_|exact Xh3)
def di(s_0:az)(c_1:UInt8):Option (Bool×az):=
 if(c_1.toNat:Int)!=13 then
  some (true,s_0)
 else
  aL (bX s_0) fun r1=>
  jn (
   if r1.2&&((r1.1.toNat:Int)==10)then
    some (az.mk s_0.Builder s_0.b_ (ao (s_0.at_+1)) s_0.a9)
   else
    some s_0) fun(o3:az)=>
  some (r1.2||o3.a9,o3)
def qE{s_0 c_1}{B0:Nat}{s:ae}{Q:List AV->ae->Prop}(hB0:s B0=some (.cells (uY B0 s_0))):ok (di s_0 c_1) (fun r=>Q [.bool r.1] (s.set B0 (.cells (uY B0 r.2))))->FN prog 167 [.ref B0 0,.int .u8 c_1.toNat] s Q:=by
 rw[<-aZ hB0]
 refine FR 33 [⟨4,true,none⟩] 0x21deed279f7756ce5af7093082ea7a001df7daf97f4af3fc975f0533c77bc59e71fa69c0b2755b906028bb69c2f8e5cb829b6981194ef3b9f6a4fc7fc34ddd0fa7ccd5ee16ef81540850267d267b5a2c9b68a425d31d0fc8f2352d069ca144e483fa di.eq_1 ?_
 repeat'(first
  |(with_reducible first|exact bG|refine aV ?_ ?_|refine bI ?_|refine au (fun _(h:bX s_0=some _)=>fe (B0:=B0) DO h) (fun r1=>?_))
  |((with_reducible refine aS (fun(o3:az)=>⟨[(0,.ref B0 0),(6,.bool r1.2)],[],(s.set B0 (.cells (uY B0 o3)))⟩) (fun J=>?_) ?_);rotate_left;rintro o3)
  |refine Xh2 ?_|exact Xh3)
def de(s_0:az):Option (Bool×az):=
 aL (bX s_0) fun r1=>
 if !r1.2 then
  some (false,s_0)
 else
  aL (dJ (aC.mk [110,114,116,98,102]) r1.1) fun r2=>
  if decide (r2>=0)then
   aI (0<=r2/\r2<(aC.mk [10,13,9,8,12]).b.length)<|
   aL (aK s_0.Builder (ix (aC.mk [10,13,9,8,12]).b r2)) fun r3=>
   some (true,(az.mk r3.2 s_0.b_ (ao (s_0.at_+1)) s_0.a9))
  else
   if(decide ((r1.1.toNat:Int)>=48))&&(decide ((r1.1.toNat:Int)<=55))then
    aL (gn (az.mk s_0.Builder s_0.b_ (ao (s_0.at_+1)) s_0.a9) r1.1) fun r4=>
    some (r4.1,r4.2)
   else
    if((r1.1.toNat:Int)==10)||((r1.1.toNat:Int)==13)then
     aL (di (az.mk s_0.Builder s_0.b_ (ao (s_0.at_+1)) s_0.a9) r1.1) fun r5=>
     some (r5.1,r5.2)
    else
     aL (aK s_0.Builder r1.1) fun r6=>
     some (true,(az.mk r6.2 s_0.b_ (ao (s_0.at_+1)) s_0.a9))
def wC{s_0}{B0:Nat}{s:ae}{Q:List AV->ae->Prop}(hB0:s B0=some (.cells (uY B0 s_0))):ok (de s_0) (fun r=>Q [.bool r.1] (s.set B0 (.cells (uY B0 r.2))))->FN prog 166 [.ref B0 0] s Q:=by
 rw[<-aZ hB0]
 refine FR 55 [⟨2,true,none⟩] 0x96df6fd2fd01136db3b6a7d863f89dfdd40f0ff9b9fc6de12f0960667d2782a1fc9dc7610ddd389f3d9213bda620767884766aa7a06c698690ed53ef1db6a2458a62f7c92ad8cd2e0a8a6ee6ca58c5d320ee86aa5fcf3b2d047f25da7f7dc1b7041fdf78a0a78d38856ef11fb15e44a9d9a3e7f424bd6d1599f95d6a05244f2598b4e16df54108eee5c87dfc73ff0f10d90a694724a5e7170d4efbbc187e4c022c724ca7a3788d3eaf862209917e321fa6cd3621ea472d8c17172781a8587fee0bf841af23966cd08eab74948c1614c04824473a de.eq_1 ?_
 repeat'(first
  |(with_reducible first|exact bG|refine aV ?_ ?_|refine bI ?_|refine au (fun _(h:bX s_0=some _)=>fe (B0:=B0) DO h) (fun r1=>?_)|refine au (fun _(h:dJ (aC.mk [110,114,116,98,102]) r1.1=some _)=>(c6 nu h:)) (fun r2=>?_)|refine fun hh=>kM R_ (ck (B0:=B0) (preB0:=[]) (postB0:=[sF 1 s_0.b_,.int .i64 (ao (s_0.at_+1)),.bool s_0.a9]) (TB0:=137) DO IF kH (aF (show ok (aK s_0.Builder (ix (aC.mk [10,13,9,8,12]).b r2)) _ from hh) fun r3=>?_))|refine fun hh=>xL (B0:=B0) DO (aF (show ok (gn (az.mk s_0.Builder s_0.b_ (ao (s_0.at_+1)) s_0.a9) r1.1) _ from hh) fun r4=>?_)|refine fun hh=>qE (B0:=B0) DO (aF (show ok (di (az.mk s_0.Builder s_0.b_ (ao (s_0.at_+1)) s_0.a9) r1.1) _ from hh) fun r5=>?_)|refine fun hh=>kM R_ (ck (B0:=B0) (preB0:=[]) (postB0:=[sF 1 s_0.b_,.int .i64 (ao (s_0.at_+1)),.bool s_0.a9]) (TB0:=137) DO IF kH (aF (show ok (aK s_0.Builder r1.1) _ from hh) fun r6=>?_)))
  |refine Xh2 ?_|exact Xh3)
def gV(s_0:az):Option (aa×Int×az):=
 iter (fun((zK,o2):Int×az)=>
  aL (bX o2) fun r6=>
  if !r6.2 then
   aL (cO o2) fun r7=>
   some (.inr ((aa.mk 0 0 (aC.mk []) ([]:List aa)),r7,o2))
  else
   nD (
    if(r6.1.toNat:Int)==92 then
     aL (de (az.mk o2.Builder o2.b_ (ao (o2.at_+1)) o2.a9)) fun r18=>
     if !r18.1 then
      aL (cO r18.2) fun r19=>
      some (.inr (.inr (r19,r18.2)))
     else
      some (.inr (.inl r18.2))
    else
     if(r6.1.toNat:Int)==13 then
      aL (di (az.mk o2.Builder o2.b_ (ao (o2.at_+1)) o2.a9) r6.1) fun r20=>
      if !r20.1 then
       aL (cO r20.2) fun r21=>
       some (.inr (.inr (r21,r20.2)))
      else
       some (.inl (zK,10,r20.2))
     else
      if(r6.1.toNat:Int)==40 then
       some (.inl (ao (zK+1),r6.1,(az.mk o2.Builder o2.b_ (ao (o2.at_+1)) o2.a9)))
      else
       if(r6.1.toNat:Int)==41 then
        some (.inl (ao (zK -1),r6.1,(az.mk o2.Builder o2.b_ (ao (o2.at_+1)) o2.a9)))
       else
        some (.inl (zK,r6.1,(az.mk o2.Builder o2.b_ (ao (o2.at_+1)) o2.a9)))) (fun((H9,c10,o11):Int×UInt8×az)=>
    if H9==0 then
     aL (bD o11.Builder) fun r22=>
     some (.inr ((aa.mk 4 0 r22.1 ([]:List aa)),(0:Int),(az.mk r22.2 o11.b_ o11.at_ o11.a9)))
    else
     aL (aK o11.Builder c10) fun r23=>
     some (.inl (H9,(az.mk r23.2 o11.b_ o11.at_ o11.a9))))
   (ir (fun(o14:az)=>some (.inl (zK,o14))) (fun((t16,o17):Int×az)=>some (.inr ((aa.mk 0 0 (aC.mk []) ([]:List aa)),t16,o17))))) (1,s_0)
def y8{s_0}{B0:Nat}{s:ae}{Q:List AV->ae->Prop}(hB0:s B0=some (.cells (uY B0 s_0))):ok (gV s_0) (fun r=>Q [.agg (ot r.1),.int .i64 r.2.1] (s.set B0 (.cells (uY B0 r.2.2))))->FN prog 126 [.ref B0 0] s Q:=by
 rw[<-aZ hB0]
 refine FR 62 [⟨2,false,some (4,true)⟩,⟨3,true,none⟩] 0xa86295d0fe82fef23ba8828f47edb0d2b92d93a6a3053ee98320ae5b3b9234916e1f44547bbec3f5a8937b51ce871dfa1d98e796b69aaa56db32f7797d5db3e59ff7d88a5c1b8c064afea68b39d5da8057379a7a3467a1e85086bacc6e781c169c32c8d9744e56a8fad5edf718b457b5d5fe8172df86041f25c7e3a0926759dd1dca42620aee5bee668425db654e7dc70641f163ec9b4c505b7940a960a796f64096ebb18664d861de852616bc2c8f2fc11a4e601f60ab8e2bb282f3bc1a24890a4548e2141ab0a4253d56e612abf9c70bec0afffaccfeb8883f36f306dd5004a9ba3229e2f1d2c9657dd281caba8d3a46165d83876eb2c1f9f7fd7412f1311532fd473411d987e7a8251e7ef36995aa57617435717b34cf3ba8d3001f28a6ba1f996e86ce4a7ad39dd7fdc22a0ff8659847d291e84938bac7b2003cd1eb37e0092758b gV.eq_1 ?_
 repeat'(first
  |(with_reducible first|exact bG|refine aV ?_ ?_|refine bI ?_|refine au (fun _(h:bX o2=some _)=>fe (B0:=B0) DO h) (fun r6=>?_)|refine au (fun _(h:cO o2=some _)=>iE (B0:=B0) DO h) (fun r7=>?_)|refine fun hh=>wC (B0:=B0) DO (aF (show ok (de (az.mk o2.Builder o2.b_ (ao (o2.at_+1)) o2.a9)) _ from hh) fun r18=>?_)|refine au (fun _(h:cO r18.2=some _)=>iE (B0:=B0) DO h) (fun r19=>?_)|refine fun hh=>qE (B0:=B0) DO (aF (show ok (di (az.mk o2.Builder o2.b_ (ao (o2.at_+1)) o2.a9) r6.1) _ from hh) fun r20=>?_)|refine au (fun _(h:cO r20.2=some _)=>iE (B0:=B0) DO h) (fun r21=>?_)|refine fun hh=>kM R_ (eY (B0:=B0) (preB0:=[]) (postB0:=[sF 1 o11.b_,.int .i64 o11.at_,.bool o11.a9]) (TB0:=137) DO IF kH (aF (show ok (bD o11.Builder) _ from hh) fun r22=>?_))|refine fun hh=>kM R_ (ck (B0:=B0) (preB0:=[]) (postB0:=[sF 1 o11.b_,.int .i64 o11.at_,.bool o11.a9]) (TB0:=137) DO IF kH (aF (show ok (aK o11.Builder c10) _ from hh) fun r23=>?_)))
  |((with_reducible refine bR (fun((H9,c10,o11):Int×UInt8×az)=>⟨[(0,.ref B0 0),(2,.loc [.int .i64 0,.int .i64 0,.str (aC.mk []).b,.sl true 4 0 []]),(4,.int .i64 H9),(5,.int .u8 c10.toNat)],[],(s.set B0 (.cells (uY B0 o11)))⟩) (fun J=>?_) ?_);rotate_left;rintro⟨H9,c10,o11⟩)
  |((with_reducible refine xI (fun((zK,o2):Int×az)=>⟨[(0,.ref B0 0),(2,.loc [.int .i64 0,.int .i64 0,.str (aC.mk []).b,.sl true 4 0 []]),(4,.int .i64 zK)],[],(s.set B0 (.cells (uY B0 o2)))⟩) ?_ ?_);(first|exact rfl|simp -implicitDefEqProofs only[go_sem,seval]);rintro J ⟨zK,o2⟩)
  |refine Xh2 ?_|exact Xh3)
def oF(w_0:aC):Option (aa×Int):=
 nD (
  lJ (
   iter (fun((kt,i6):(List UInt8)×Int)=>
    if decide (i6<(w_0.b.length:Int))then
     aI (0<=i6/\i6<w_0.b.length)<|
     nD (
      if((ix w_0.b i6).toNat:Int)==35 then
       aI ((!(decide (ao (i6+2)>=(w_0.b.length:Int))))=true->0<=ao (i6+1)/\ao (i6+1)<w_0.b.length)<|
       aL (eu (!(decide (ao (i6+2)>=(w_0.b.length:Int)))) 0 (jD (ix w_0.b (ao (i6+1))))) fun r18=>
       aI ((!((decide (ao (i6+2)>=(w_0.b.length:Int)))||(decide (r18<0))))=true->0<=ao (i6+2)/\ao (i6+2)<w_0.b.length)<|
       aL (eu (!((decide (ao (i6+2)>=(w_0.b.length:Int)))||(decide (r18<0)))) 0 (jD (ix w_0.b (ao (i6+2))))) fun r19=>
       if((decide (ao (i6+2)>=(w_0.b.length:Int)))||(decide (r18<0)))||(decide (r19<0))then
        some (.inr (17:Int))
       else
        aI (0<=ao (i6+1)/\ao (i6+1)<w_0.b.length)<|
        aL (jD (ix w_0.b (ao (i6+1)))) fun r20=>
        aI (0<=ao (i6+2)/\ao (i6+2)<w_0.b.length)<|
        aL (jD (ix w_0.b (ao (i6+2)))) fun r21=>
        some (.inl (ao (i6+2),eR (ao ((ao (16*r20))+r21))))
      else
       some (.inl (i6,ix w_0.b i6))) (fun((i14,c15):Int×UInt8)=>
      aI ((kt.length+[c15].length)*1<=room)<|
      some (.inl (kt++[c15],ao (i14+1))))
     (fun(t17:Int)=>some (.inr (.inr t17)))
    else
     some (.inr (.inl kt))) (([]:List UInt8),0)) (fun(P8:(List UInt8))=>
   some (.inl P8))
  (fun(t10:Int)=>some (.inr t10))) (fun(mo:(List UInt8))=>
  aL (eu (!(decide ((mo.length:Int)>127))) 0 (fI mo 0)) fun r22=>
  if(decide ((mo.length:Int)>127))||(decide (r22>=0))then
   some ((aa.mk 0 0 (aC.mk []) ([]:List aa)),17)
  else
   some ((aa.mk 5 0 (aC.mk mo) ([]:List aa)),0))
 (fun(t4:Int)=>some ((aa.mk 0 0 (aC.mk []) ([]:List aa)),t4))
def IT{w_0}:FF 128 [.str w_0.b] (oF w_0) fun r=>[.agg (ot r.1),.int .i64 r.2]:=by
 intro s Q
 refine FR 71 [⟨2,false,some (4,true)⟩,⟨3,true,none⟩] 0x5ac6c236011ef576bfcd7a7a984053c4d095ea8a2d08ac35d672baccd8944e78fd707811d8214f597536ba3435bed1fb71d77c72e9abb3eef074d536ab58219a462fa94787a46f12b557bea16f75bfd233fa342794ffc99178d57e59ba1577d629a27958097127f71108949f6214ad8b103e1ab564697ca4c605f61f1234d2e830174e83bcd2adbafb7aeeb42c4278351b6392dc0fb05a989f3bd6e4b57e471761ee13bab0624db4b6edf72dc1982bb7a404442273909bb6f981ba154c67136a5b65678bd001f076e0ec6974aef8e7065109160e7d713f112f97734fd1623f86390f225decb3b5b67cc640165b8fb3f9ff63f45188ac6bd6b17b377902fa989189fa78ae05001bc9d1d422a8ea4d0e33646f7e93e671282918971da8ac6dd2f39ca3bbcdb9270cb261491a0cee9781fe17c996ecda9ae9391db032a1357b2003cd1eb37e0092758b oF.eq_1 ?_
 repeat'(first
  |(with_reducible first|exact bG|refine aV ?_ ?_|refine bI ?_)
  |((fail_if_success (have _x:=r18));with_reducible refine cP rfl (fun _(h:jD (ix w_0.b (ao (i6+1)))=some _)=>(c6 oE h:)) (fun _=>rfl) (fun r18=>?_))
  |((fail_if_success (have _x:=r19));with_reducible refine cP rfl (fun _(h:jD (ix w_0.b (ao (i6+2)))=some _)=>(c6 oE h:)) (fun _=>rfl) (fun r19=>?_))
  |((fail_if_success (have _x:=r20));with_reducible refine cw (fun _(h:jD (ix w_0.b (ao (i6+1)))=some _)=>(c6 oE h:)) (fun _=>rfl) (fun r20=>?_))
  |((fail_if_success (have _x:=r21));with_reducible refine cw (fun _(h:jD (ix w_0.b (ao (i6+2)))=some _)=>(c6 oE h:)) (fun _=>rfl) (fun r21=>?_))
  |with_reducible refine cP rfl (fun _(h:fI mo 0=some _)=>(by refine nJ ?_ ((c6 vX h:));simp -implicitDefEqProofs only[go_sem,seval])) (fun _=>rfl) (fun r22=>?_)
  |((with_reducible refine bR (live:=[(0,false),(2,false),(4,false),(5,false),(6,false)]) (fun((i14,c15):Int×UInt8)=>⟨[(0,.str w_0.b),(2,.loc [.int .i64 0,.int .i64 0,.str (aC.mk []).b,.sl true 4 0 []]),(4,sT 1 kt),(5,.int .i64 i14),(6,.int .u8 c15.toNat)],[],s⟩) (fun J=>?_) ?_);rotate_left;rintro⟨i14,c15⟩)
  |((with_reducible refine bk (fun((kt,i6):(List UInt8)×Int)=>⟨[(0,.str w_0.b),(2,.loc [.int .i64 0,.int .i64 0,.str (aC.mk []).b,.sl true 4 0 []]),(4,sT 1 kt),(5,.int .i64 i6)],[],s⟩) ?_ ?_);(first|exact rfl|simp -implicitDefEqProofs only[go_sem,seval]);rintro J ⟨kt,i6⟩)
  |((with_reducible refine bR (live:=[(2,false),(4,false)]) (fun(mo:(List UInt8))=>⟨[(2,.loc [.int .i64 0,.int .i64 0,.str (aC.mk []).b,.sl true 4 0 []]),(4,sT 1 mo)],[],s⟩) (fun J=>?_) ?_);rotate_left;rintro mo)
  |refine Xh2 ?_|exact Xh3)
def iH(s_0:az)(c_1:UInt8):Option (aE×Int×az):=
 aL (fU c_1) fun r1=>
 if r1 then
  aL (fF s_0) fun r2=>
  some (r2.1,r2.2.1,r2.2.2)
 else
  if(c_1.toNat:Int)==91 then
   some ((aE.mk 2 0 0 (aa.mk 0 0 (aC.mk []) ([]:List aa)) (aC.mk [])),0,(az.mk s_0.Builder s_0.b_ (ao (s_0.at_+1)) s_0.a9))
  else
   if(c_1.toNat:Int)==93 then
    some ((aE.mk 3 0 0 (aa.mk 0 0 (aC.mk []) ([]:List aa)) (aC.mk [])),0,(az.mk s_0.Builder s_0.b_ (ao (s_0.at_+1)) s_0.a9))
   else
    if(c_1.toNat:Int)==60 then
     aL (iG (az.mk s_0.Builder s_0.b_ (ao (s_0.at_+1)) s_0.a9)) fun r3=>
     some (r3.1,r3.2.1,r3.2.2)
    else
     if(c_1.toNat:Int)==62 then
      aL (iD (az.mk s_0.Builder s_0.b_ (ao (s_0.at_+1)) s_0.a9)) fun r4=>
      some (r4.1,r4.2.1,r4.2.2)
     else
      if(c_1.toNat:Int)==40 then
       aL (gV (az.mk s_0.Builder s_0.b_ (ao (s_0.at_+1)) s_0.a9)) fun r5=>
       some ((aE.mk 1 0 0 r5.1 (aC.mk [])),r5.2.1,r5.2.2)
      else
       if(c_1.toNat:Int)==47 then
        aL (fV (az.mk s_0.Builder s_0.b_ (ao (s_0.at_+1)) s_0.a9)) fun r6=>
        if !r6.2.1 then
         some ((aE.mk 0 0 0 (aa.mk 0 0 (aC.mk []) ([]:List aa)) (aC.mk [])),6,r6.2.2)
        else
         aL (oF r6.1) fun r7=>
         some ((aE.mk 1 0 0 r7.1 (aC.mk [])),r7.2,r6.2.2)
       else
        some ((aE.mk 0 0 0 (aa.mk 0 0 (aC.mk []) ([]:List aa)) (aC.mk [])),11,(az.mk s_0.Builder s_0.b_ (ao (s_0.at_+1)) s_0.a9))
def xM{s_0 c_1}{B0:Nat}{s:ae}{Q:List AV->ae->Prop}(hB0:s B0=some (.cells (uY B0 s_0))):ok (iH s_0 c_1) (fun r=>Q [.agg [.int .i64 r.1.Kind,.int .i64 r.1.mj,.int .i64 r.1.To,.int .i64 r.1.V.Kind,.int .i64 r.1.V.N,.str r.1.V.S.b,sF 4 r.1.V.L,.str r.1.S.b],.int .i64 r.2.1] (s.set B0 (.cells (uY B0 r.2.2))))->FN prog 79 [.ref B0 0,.int .u8 c_1.toNat] s Q:=by
 rw[<-aZ hB0]
 refine FR 73 [⟨4,false,some (8,true)⟩,⟨5,true,none⟩] 0x1243d8b62dc1abcd8b6a9745045c9d8cd97fe20d9a42cab0e3fcbb5cdf63a9f74cdd84bfca3e254b00c7f04e0eeda6511648579571f252bdfd3a6c705d90a2c690c9cfeceb834a69787bbd855f44e99696173330c6dacbb1a5b784481e736da49a2dd4a592d6daa0708789d68c13391268a7c9ef5b4e34a4c66b3a5a2aa17a0ed4ad8735d6dbc14eceb4f8f903c82626a934fbaa4a1a36a3634e3d3676af8e5dec432d0c597abb5ff831128068420fc4e6333b5c66d23c9b8f40994efc59e2b196814f293daa1e8e1a5c14a36db777dfd25b414efee9097bfe68b96f03bf086a9e1a6e00e7765f14fa7c4d5434137a18f3aa3a89ef9485faa65816da7e3b119dec5f0ea4fea3ada1dafc39ef96ab4f427a8facc5c1c0b007a82bc38815c03f9e67b187cdd04a9f5d7a1b92f9982bf51f99034b7b412c1d638c62904e0ceae5e8173d5a9800a3f8eb04a6291c8ebf23ea0d2540b8c77284423bb310bfde061b538e0e367678b0bebe916a71d17382784d033e786a4e8180d6a797394292ffa05ac5d63a630f20923a88be395234bf7e101882e7faf55eb92eb2d3db72bc01049421c619b6918b003defd1eb37e000000010c324b iH.eq_1 ?_
 repeat'(first
  |(with_reducible first|exact bG|refine aV ?_ ?_|refine bI ?_|refine au (fun _(h:fU c_1=some _)=>(c6 tC h:)) (fun r1=>?_)|refine fun hh=>tD (B0:=B0) DO (aF (show ok (fF s_0) _ from hh) fun r2=>?_)|refine fun hh=>vd (B0:=B0) DO (aF (show ok (iG (az.mk s_0.Builder s_0.b_ (ao (s_0.at_+1)) s_0.a9)) _ from hh) fun r3=>?_)|refine fun hh=>vb (B0:=B0) DO (aF (show ok (iD (az.mk s_0.Builder s_0.b_ (ao (s_0.at_+1)) s_0.a9)) _ from hh) fun r4=>?_)|refine fun hh=>y8 (B0:=B0) DO (aF (show ok (gV (az.mk s_0.Builder s_0.b_ (ao (s_0.at_+1)) s_0.a9)) _ from hh) fun r5=>?_)|refine fun hh=>qF (B0:=B0) DO (aF (show ok (fV (az.mk s_0.Builder s_0.b_ (ao (s_0.at_+1)) s_0.a9)) _ from hh) fun r6=>?_)|refine au (fun _(h:oF r6.1=some _)=>(c6 IT h:)) (fun r7=>?_))
  |refine Xh2 ?_|exact Xh3)
def eh(b_0:(List UInt8))(aQ:Int)(aq:Bool):Option (aE×Int):=
 if(decide (aQ<0))||(decide (aQ>(b_0.length:Int)))then
  some ((aE.mk 0 0 0 (aa.mk 0 0 (aC.mk []) ([]:List aa)) (aC.mk [])),2)
 else
  aL (qD b_0 aQ) fun r1=>
  if r1==(b_0.length:Int)then
   if aq then
    some ((aE.mk 0 r1 r1 (aa.mk 0 0 (aC.mk []) ([]:List aa)) (aC.mk [])),0)
   else
    some ((aE.mk 0 r1 r1 (aa.mk 0 0 (aC.mk []) ([]:List aa)) (aC.mk [])),6)
  else
   aI (0<=r1/\r1<b_0.length)<|
   aL (iH (az.mk vq.zero b_0 r1 aq) (ix b_0 r1)) fun r2=>
   if r2.2.1 !=0 then
    some ((aE.mk 0 r1 r1 (aa.mk 0 0 (aC.mk []) ([]:List aa)) (aC.mk [])),r2.2.1)
   else
    some ((aE.mk r2.1.Kind r1 r2.2.2.at_ r2.1.V r2.1.S),0)
set_option maxHeartbeats 8000000 in
def lg{b_0 aQ aq}:FF 35 [sF 1 b_0,.int .i64 aQ,.bool aq] (eh b_0 aQ aq) fun r=>[.agg [.int .i64 r.1.Kind,.int .i64 r.1.mj,.int .i64 r.1.To,.int .i64 r.1.V.Kind,.int .i64 r.1.V.N,.str r.1.V.S.b,sF 4 r.1.V.L,.str r.1.S.b],.int .i64 r.2]:=by
 intro s Q
 intro h
 refine FN.forget ?_
 refine FP 63 [⟨6,false,some (8,true)⟩,⟨7,true,none⟩] (dec 0x698cf77fa6bc81548657e9f5227c872cdfa39fc948acdb5bc667896732fa6982c7f1ae993195b1fdb11d1994507b0ec1a3d171ea80a109e71ad94b6a2ab6352a1d7f35c7a1a94303b3dd450ab7ab6e373de3577b538295978c7546dfa4eec6427c33fb580466b2bc0724d84b6d643958479a70397749d5b274f6a2e0f4b65baa4fa815e8996d2b5e110164d15a1e4334b83b7e0d23b2ec7c5c80545dd710a606315ad295061c3cf535abb5b925e97a8811112a7bcddf316c991710338e6245aa071c2439a4baaa69a71aa1ebccf14a830dce87a668ecb7dd71293b172af277844db0fba8f399f9c18bb610bf9cfca9c5fdb62d48e662a72e149c2bd82fe74d7aa257c32f80b4b640c0528f8fd33db6065107c3d7a15de9e39934e6dc4b624af4732b16a3af9ca40b359ce5148188418a47464003defd1eb37e000000010c6f0b) C_ rfl ?_
 revert h
 rw[eh]
 refine Xh4 ?_
 repeat'(first
  |(with_reducible first|exact bG|refine aV ?_ ?_|refine bI ?_)
  |((with_reducible apply afZ);(·intro Q' hQ;repeat'(first|exact hQ|(simp only[dm,cL,cg,cK,vo,wR,Bool.not_true,Bool.not_false,Bool.or_true,Bool.true_or,Bool.false_or,Bool.or_false,Bool.and_true,Bool.true_and,Bool.and_false,Bool.false_and,cond_true,cond_false,true_and,and_true];done)|with_reducible refine⟨?_,?_⟩|with_reducible exact trivial|simp only[dm,cL,cg,cK,vo,wR,Bool.not_true,Bool.not_false,Bool.or_true,Bool.true_or,Bool.false_or,Bool.or_false,Bool.and_true,Bool.true_and,Bool.and_false,Bool.false_and,cond_true,cond_false,true_and,and_true]|simp -implicitDefEqProofs only[go_sem,seval])))
  |(with_reducible first|refine au (fun _(h:qD b_0 aQ=some _)=>(c6 IS h:)) (fun r1=>?_)|refine fun hh=>xM (B0:=N1) DO (aF (show ok (iH (az.mk vq.zero b_0 r1 aq) (ix b_0 r1)) _ from hh) fun r2=>?_))
  |((fail_if_success (have _x:=sN1));with_reducible intro hh N1 hN1;(try simp only[jq]at hN1);have sN1:=hN1;revert hh)
  |(with_reducible first|exact fun hh=>⟨_,qg.set (qg.refl _) v_,hh⟩|exact fun hh=>⟨_,qg.refl _,hh⟩)
  |refine Xh2 ?_|exact Xh3)
@[go_sem]abbrev oV(v:aa):AV:=.agg [.int .i64 v.Kind,.int .i64 v.N,.str v.S.b,sF 4 v.L]
end Go.AB
end
section
set_option maxRecDepth 16000
namespace Go.AB
open Go
open Go.Proofs.Tryz (prog)
attribute[local irreducible] gx
attribute[-go_sem] Nat.add_zero rE dE
def Ib{b cap i j:Nat}{l:List aa}{sp:List AV}{s:ae}{Q:List AV->ae->Prop}(hs:s b=some (.cells (flat l++sp)))(hl:(flat l++sp).length=cap*4)(hn:l.length<=cap)(hij:i<j)(hj:j<=l.length)(aeJ:(l.length:Int)<=9223372036854775807)
 (hq:Q [.arr b 0 (l.length -(j -i)) cap] (s.set b (.cells (flat (l.take i++l.drop j)++(flat (List.replicate (j -i) (⟨0,0,⟨[]⟩,[]⟩:aa))++sp))))):
 FN prog 85 [.arr b 0 l.length cap,.int .i64 i,.int .i64 j] s Q:=by
 refine FS 33 [⟨6,true,none⟩] 0xcfb46a1005abcb8e750fe31bd4a07ad19705899129c12dda43779154bb11afef7dbfe78249760f8bf68b7554f4189ed78af4ca5879bd2058349f5d73d285e69c85a14194c0610878bde5c9f7095645fb46854f2d6c53241c913428730b24fc810303f701bfde1f07602c8f76d349af34c0ba ?_
 refine Xh5 hs ?_
 refine⟨AT,fun h=>by have:=eq_of_beq h;omega,fun _=>⟨AT,AT,?_⟩⟩
 have fN:zu s 4 (.arr b (kU 0 cap j 4) (l.length -j) (cap -j))=some (l.length -j,flat (l.drop j)):=by
  by_cases hjn:j=l.length
  ·subst hjn
   rw[Nat.sub_self,Nx,List.drop_length];rfl
  ·rw[EA AT,Nat.zero_add,QL hs (by rw[hl,<-Nat.add_mul];exact Nat.mul_le_mul_right _ AT),pH l sp 4 j _ rfl AT,bt,List.take_of_length_le B_]
 rw[fN]
 refine pg rfl hs k_ AT ?_
 have dQ:=yq l (l.drop j) sp 4 i rfl By
 rw[Nat.zero_add,dQ]
 generalize hl1:l.take i++l.drop j++l.drop (i+(l.drop j).length)=l1
 have aaK:l1.length=l.length:=by subst hl1;simp;omega
 have hz:(List.replicate (j -i) [.int .i64 0,.int .i64 0,.str [],.sl false 4 0 []]).flatten=flat (List.replicate (j -i) (⟨0,0,⟨[]⟩,[]⟩:aa)):=by rw[jl];rfl
 have hsp:(flat l1++sp).length=cap*4:=by rw[<-hl,List.length_append,List.length_append,a8,a8,aaK]
 have e1:i+(l.length -j)<cap:=AT
 have Ph:=yq l1 (List.replicate (j -i) (⟨0,0,⟨[]⟩,[]⟩:aa)) sp 4 (i+(l.length -j)) rfl By
 have e2:l1.take (i+(l.length -j))=l.take i++l.drop j:=by
  subst hl1
  rw[List.take_append_of_le_length By,List.take_of_length_le By]
 have e3:l1.drop (i+(l.length -j)+(List.replicate (j -i) (⟨0,0,⟨[]⟩,[]⟩:aa)).length)=[]:=by rw[List.drop_eq_nil_iff];simp;omega
 rw[e2,e3,List.append_nil]at Ph
 generalize hl2:l.take i++l.drop j=l2 at Ph hq
 refine Xh2 ?_
 refine⟨AT,?_⟩
 rw[EA e1]
 refine JT rfl cc (by
  rw[hsp]
  show 0+(i+(l.length -j))*4+(l.length -(i+(l.length -j)))*4<=cap*4
  omega) ?_
 rw[show l.length -(i+(l.length -j))=j -i by omega,Nat.zero_add,hz,Ph]
 refine Xh2 ?_
 rw[show i+(l.length -j)=l.length -(j -i) by omega,List.append_assoc]
 exact hq
def EX:IC:=dec 0x29333185ffdb805e4cf1a0b40f49067d0d001c4c1f8d7c56c7cd23b460c898342c022b5b4473a
def M0:m5 prog 68 8 [⟨2,true,none⟩] EX=true:=C_
def F6(l:List aa)(s:ae)(rs:List AV)(s':ae):Prop:=(∃b cap sp,rs=[.arr b 0 l.length cap]/\s b=none/\0<cap/\l.length<=cap/\(flat l++sp).length=cap*4/\views (flat l++sp)=flat l++sp/\s'=s.set b (.cells (flat l++sp)))\/(l=[]/\s'=s/\∃b,rs=[.arr b 0 0 0])
def JW{o:Bool}{l:List aa}{s:ae}(hr:l.length*56<=room):FN prog 68 [.sl o 4 l.length (flat l)] s (F6 l s):=by
 refine FN.Hv (FO M0 rfl rfl ?_)
 generalize hQ:(fun rs s'=>∃s2,Sub s2 s'/\F6 l s rs s2)=Q
 have hq:∀rs s' s2,Sub s2 s'->F6 l s rs s2->Q rs s':=fun rs s' s2 h1 h2=>Xd7
 rw[EX]
 refine Xh4 ?_
 refine Xh2 ?_
 intro v hv
 refine⟨fun h=>hq _ _ s (Sub.refl s) (.inr ⟨List.eq_nil_of_length_eq_zero (hv IN),rfl,0,rfl⟩),fun _ b1 hb1=>?_⟩
 rw[pL,bt]
 by_cases hl:l=[]
 ·subst hl
  refine pS rfl rfl (Nat.le_refl 0) ?_
  refine Xh2 ?_
  exact hq _ _ s ((Sub.refl s).set hb1) (.inr ⟨rfl,rfl,_,rfl⟩)
 ·have hn:0<l.length:=List.length_pos_iff.2 hl
  refine fP rfl rfl AT Xd8 fun b2 cap hb2 gv=>?_
  rw[Nat.zero_add]at gv
  have hz:(List.replicate (cap -(0+l.length)) [.int .i64 0,.int .i64 0,.str [],.sl false 4 0 []]).flatten=flat (List.replicate (cap -l.length) (⟨0,0,⟨[]⟩,[]⟩:aa)):=Xd9
  rw[hz]
  simp -implicitDefEqProofs only[go_sem,seval,Nat.zero_add,List.nil_append]
  have O1:s b2=none:=((Sub.refl s).set hb1).none hb2
  refine hq _ _ _ (Sub.Hf ((Sub.refl s).set hb1)) (.inl ⟨b2,cap,_,rfl,O1,AT,gv,?_,?_,rfl⟩)
  ·rw[List.length_append,a8,a8,List.length_replicate]
   show l.length*4+(cap -l.length)*4=cap*4
   omega
  ·rw[nY,bt,bt]
def MG{o:Bool}{l:List aa}{s:ae}(hr:l.length*56<=room):FE prog 68 [.sl o 4 l.length (flat l)] s [.us 4 l.length (flat l)] s:=
 FN.Yl (a8 l) ⟨rfl,rfl⟩ ((JW hr).mono fun rs s' h=>by
  rcases h with⟨b,cap,sp,h1,h2,h3,h4,h5,h6,h7⟩|⟨h1,h2,h3⟩
  ·exact .inl ⟨b,cap,sp,h1,Xe0,h3,h4,h5,h6,Xe1⟩
  ·subst h1;exact .inr ⟨rfl,rfl,Xe2,h3⟩)
end Go.AB
end
section
namespace Go.AB
open Go
end Go.AB
end
section
set_option maxRecDepth 16000
namespace Go.AB
open Go
open Go.Proofs.Tryz (prog)
attribute[-go_sem] Nat.add_zero rE dE
def jk(v_0:aa)(cX:aC):Option (Int):=
 if v_0.Kind !=7 then
  some (-1)
 else
  nD (
   lJ (
    iter (fun(i2:Int)=>
     if decide (i2<(v_0.L.length:Int))then
      aI (0<=i2/\i2<v_0.L.length)<|
      aI ((((ix v_0.L i2).Kind)==5)=true->0<=i2/\i2<v_0.L.length)<|
      if(((ix v_0.L i2).Kind)==5)&&(((ix v_0.L i2).S).b==cX.b)then
       some (.inr (.inr i2))
      else
       some (.inl (ao (i2+2)))
     else
      some (.inr (.inl ()))) 0) (fun(_:Unit)=>
    some (.inl ()))
   (fun(t3:Int)=>some (.inr t3))) (fun(_:Unit)=>
   some (-1))
  (fun(t1:Int)=>some t1)
def Es{v_0 cX}:FF 69 [.agg [.int .i64 v_0.Kind,.int .i64 v_0.N,.str v_0.S.b,.sl false 4 v_0.L.length (flat v_0.L)],.str cX.b] (jk v_0 cX) fun r=>[.int .i64 r]:=by
 intro s Q
 refine FR 34 [⟨4,true,none⟩] 0x5d3ae0e90ac7bda64a3995d5c32d55c11fa1fdd8296414842d35b58def8678a24feb77046130580228d84e40167e32ce0efda3348733eaccebc9101728a9c83ad3a3b11871e837728bef8169f43cce9e4c2ff739cf92af3d5af316b3089a3253d0c9af6f968636ac2eb2e6bc114c3fa25282279909702d5e50e513e8c5952f7c979c61988400c60839818b jk.eq_1 ?_
 repeat'(first
  |(with_reducible first|exact bG|refine aV ?_ ?_|refine bI ?_)
  |((with_reducible refine bk (fun(i2:Int)=>⟨[(1,.str cX.b),(2,.loc [.int .i64 v_0.Kind,.int .i64 v_0.N,.str v_0.S.b,.sl false 4 v_0.L.length (flat v_0.L)]),(5,.int .i64 i2)],[],s⟩) ?_ ?_);(first|exact rfl|simp -implicitDefEqProofs only[go_sem,seval]);rintro J i2)
  |((with_reducible refine bR (fun(_:Unit)=>⟨[],[],s⟩) (fun J=>?_) ?_);rotate_left;rintro _)
  |refine Xh2 ?_|exact Xh3)
def vM{v_0 cX}{s:ae}{r:Int}(h:jk v_0 cX=some r):FE prog 69 [.agg [.int .i64 v_0.Kind,.int .i64 v_0.N,.str v_0.S.b,.sl false 4 v_0.L.length (flat v_0.L)],.str cX.b] s [.int .i64 r] s:=Es ⟨r,h,rfl,rfl⟩
def fh(v:aa)(key:aC):Option aa:=
 aL (jk v key) fun i=>
 if decide (i<0)then some v else
 aI (0<=i/\i<v.L.length/\v.L.length*56<=room)<|
 some ⟨v.Kind,v.N,v.S,v.L.take i.toNat++v.L.drop (min (i.toNat+2) v.L.length)⟩
def Ep{v:aa}{key:aC}{s:ae}{Q:List AV->ae->Prop}(h:ok (fh v key) fun r=>Q [.agg [.int .i64 r.Kind,.int .i64 r.N,.str r.S.b,.sl false 4 r.L.length (flat r.L)]] s):
 FN prog 43 [.agg [.int .i64 v.Kind,.int .i64 v.N,.str v.S.b,.sl false 4 v.L.length (flat v.L)],.str key.b] s Q:=by
 obtain⟨vk,vn,vs,vl⟩:=v
 refine FP 25 [⟨4,false,some (4,true)⟩] (dec 0xba6084f6474725de8e1806a0418fa83d2eb5d11637a563a9909fdf7df1deb6d6557133d5f75dcbbbce91d29880640988be02b2d2227c42dbacf7077041311a8fe3190791c2fc536cc5f30fee6bc1fc4836f45add0065e37ae0d3d00dc0b0839818b) C_ rfl ?_
 unfold fh at h
 rw[kX]at h
 obtain⟨i,hfi,h⟩:=h
 rw[P3,il,bK,bK]at h
 refine Xh4 ?_
 refine Xh2 ?_
 refine FE.app (vM hfi) ?_
 refine Xh2 ?_
 refine⟨fun hi=>h.1 hi,fun hi=>?_⟩
 obtain⟨⟨h1,h2,h3⟩,hq⟩:=h.2 hi
 obtain⟨j,rfl⟩:∃j:Nat,i=(j:Int):=⟨i.toNat,AT⟩
 replace h2:j<vl.length:=by have:(j:Int)<vl.length:=h2;omega
 replace h3:vl.length*56<=room:=h3
 replace hq:Q [.agg [.int .i64 vk,.int .i64 vn,.str vs.b,.sl false 4 (vl.take j++vl.drop (min (j+2) vl.length)).length (flat (vl.take j++vl.drop (min (j+2) vl.length)))]] s:=hq
 have hw2:ao ((j:Int)+2)=((j+2:Nat):Int):=by unfold room at h3;rw[ak AT AT];omega
 refine⟨_,rfl,MG h3,?_⟩
 refine Xh5 hw2 ?_
 refine⟨fun b cap sp hb h0 hn hl hfl hvw=>?_,fun h0=>AT⟩
 refine Xh2 ?_
 generalize hm:min (j+2) vl.length=m at hq
 rw[show min ((j+2:Nat):Int) (vl.length:Int)=(m:Int) by omega]
 have el:(vl.take j++vl.drop m).length=vl.length -(m -j):=by simp only[List.length_append,List.length_take,List.length_drop];omega
 rw[el]at hq
 refine FN.G9 (n:=vl.length -(m -j)) (cs:=flat (vl.take j++vl.drop m)) (s2:=s) (sz:=4) (by rw[a8,el];rfl) (bt _) ?_ (Ib cc hl hn AT AT (by unfold room at h3;omega) ?_)
 ·generalize vl.take j++vl.drop m=L at hq
  refine Xh2 ?_
  exact hq
 ·refine .inl ⟨b,cap,_,rfl,cc,h0,AT,?_,?_⟩
  ·have hl':=hl
   rw[List.length_append,a8]at hl'
   rw[List.length_append,List.length_append,a8,a8,el,List.length_replicate]
   have hw:bz.w aa=4:=rfl
   rw[hw]at hl'⊢
   omega
  ·rw[set_set,po hb];exact Sub.refl s
def vL{v_0:aa}{cX:aC}{s:ae}{r:aa}(h:fh v_0 cX=some r):FE prog 43 [.agg [.int .i64 v_0.Kind,.int .i64 v_0.N,.str v_0.S.b,.sl false 4 v_0.L.length (flat v_0.L)],.str cX.b] s [.agg [.int .i64 r.Kind,.int .i64 r.N,.str r.S.b,.sl false 4 r.L.length (flat r.L)]] s:=Ep ⟨r,h,rfl,rfl⟩
end Go.AB
end
section
namespace Go.AB
open Go
@[go_sem]theorem adv:((10:Int)≠0)=True:=eq_true BY
@[go_sem]theorem adw:((16:Int)≠0)=True:=eq_true BY
@[go_sem]theorem adD(l:List UInt8):pad [.int .u8 0] (views (AB.sub (flat l) 0 1))=[.int .u8 (ix l 0).toNat]:=Qc l 0
end Go.AB
end
section
set_option maxRecDepth 16000
namespace Go.AB
open Go
open Go.Proofs.Tryz (prog)
attribute[-go_sem] Nat.add_zero rE dE
structure aM where
 V:aa
 Stream:Bool
 Data:aC
instance:bz aM:=⟨6,fun x=>[.int .i64 x.V.Kind,.int .i64 x.V.N,.str x.V.S.b,sF 4 x.V.L,.bool x.Stream,.str x.Data.b],(aM.mk (aa.mk 0 0 (aC.mk []) []) false (aC.mk [])),BY,fun _=>rfl,fun _=>rfl⟩
@[go_sem]abbrev Od(x:aM):List AV:=[.int .i64 x.V.Kind,.int .i64 x.V.N,.str x.V.S.b,sF 4 x.V.L,.bool x.Stream,.str x.Data.b]
def pN(v_0:aa):Option (Int):=
 if(v_0.Kind==6)||(v_0.Kind==7)then
  none
 else
  some (ao (1+0))
def DG{v_0}:FF 97 [oV v_0] (pN v_0) fun r=>[.int .i64 r]:=by
 intro s Q
 exact FC 28 [⟨2,true,none⟩] 0xafe801cf343aceaba624ca045062959be59f1abcc14a1a11d7fa4145f53a7f761ca7cd22e426966d31ed614d2008303995b pN.eq_1
def uP(v_0:aa):Option (Int):=
 if v_0.Kind==0 then
  none
 else
  if v_0.Kind==1 then
   none
  else
   if v_0.Kind==2 then
    if v_0.Kind==2 then
     aL (js v_0) fun r1=>
     some r1
    else
     none
   else
    none
def Hu{v_0}:FF 100 [oV v_0] (uP v_0) fun r=>[.int .i64 r]:=by
 intro s Q
 refine FR 113 [⟨2,true,none⟩] 0x1685d940452758275ffc437be1aba261779ea576eead04fea8151275048a68fbf247b8627a492ffa58cfc69be49ed0d488430191992df16c3af1d6b36f5614d2008303995b uP.eq_1 ?_
 repeat'(first
  |(with_reducible first|exact bG|refine aV ?_ ?_|refine bI ?_|refine au (fun _(h:js v_0=some _)=>(c6 rS h:)) (fun r1=>?_))
  |refine Xh2 ?_|exact Xh3)
def mW(x_0:aa)(c_1:Int):Option (Bool×Int):=
 aL (uP x_0) fun r1=>
 some (r1==0,r1)
def zB{x_0 c_1}{B1:Nat}{s:ae}{Q:List AV->ae->Prop}(hB1:s B1=some (.cells [.int .i64 c_1])):ok (mW x_0 c_1) (fun r=>Q [.bool r.1] (s.set B1 (.cells [.int .i64 r.2])))->FN prog 99 [oV x_0,.ref B1 0] s Q:=by
 rw[<-aZ hB1]
 refine FR 8 [⟨3,true,none⟩] 0x160630767d6ca1f2bd49500a0e5789d41f0c4e7adcf9995683039818b mW.eq_1 ?_
 repeat'(first
  |with_reducible refine au (fun _(h:uP x_0=some _)=>(c6 Hu h:)) (fun r1=>?_)
  |refine Xh2 ?_|exact Xh3)
def sf(v_0:aa)(Oc:Int):Option (Bool×Int):=
 aL (mW v_0 Oc) fun r1=>
 if !r1.1 then
  none
 else
  if(v_0.Kind !=6)&&(v_0.Kind !=7)then
   some (true,r1.2)
  else
   none
theorem Lu:(we prog 99=true)=True:=eq_true C_
def Et{v_0 Oc}{B1_0:Nat}{s:ae}{Q:List AV->ae->Prop}(aaB:s B1_0=some (.cells [.int .i64 Oc])):ok (sf v_0 Oc) (fun r=>Q [.bool r.1] (s.set B1_0 (.cells [.int .i64 r.2])))->FN prog 98 [oV v_0,.fn 99 [] [.ref B1_0 0]] s Q:=by
 rw[<-aZ aaB]
 refine FR 31 [⟨4,true,none⟩] 0x10b617320086a0e3a5813e289942e8aeefd8ce3b8d4be99c34f88eb59925cf4375ff3a94d45803ec455ee7e8cdca5abb9956c60839818b sf.eq_1 ?_
 repeat'(first
  |with_reducible refine fun hh=>zB (B1:=B1_0) (by simp -implicitDefEqProofs only[go_sem,seval,Lu]<;>simp only[al]) (aF (show ok (mW v_0 Oc) _ from hh) fun r1=>?_)
  |simp -implicitDefEqProofs only[go_sem,seval,Lu])
def lH(v_0:aa):Option (Int):=
 aL (pN v_0) fun r1=>
 if decide (r1>64)then
  none
 else
  aL (sf v_0 0) fun r2=>
  some r2.2
def ue{v_0}:FF 60 [oV v_0] (lH v_0) fun r=>[.int .i64 r]:=by
 intro s Q
 intro h
 refine FN.forget ?_
 refine FP 11 [⟨2,true,none⟩] (dec 0x57a617fca1f89988d7a77b345f4dd5624bf2ca8e872aa15356065eed380963a0dd410232f3d89b03e7c57c4a2898d2008303995b) C_ rfl ?_
 revert h
 rw[lH]
 refine Xh4 ?_
 repeat'(first
  |(with_reducible first|exact bG|refine aV ?_ ?_|refine bI ?_|refine au (fun _(h:pN v_0=some _)=>(c6 DG h:)) (fun r1=>?_)|refine fun hh=>Et (B1_0:=N1) DO (aF (show ok (sf v_0 0) _ from hh) fun r2=>?_))
  |((fail_if_success (have _x:=sN1));with_reducible intro hh N1 hN1;(try simp only[jq]at hN1);have sN1:=hN1;revert hh)
  |with_reducible exact fun hh=>⟨_,qg.set (qg.refl _) v_,hh⟩
  |refine Xh2 ?_|exact Xh3)
def iO(v_0:aa)(cX:aC):Option (aa×Bool):=
 aL (jk v_0 cX) fun r1=>
 if decide (r1<0)then
  some ((aa.mk 0 0 (aC.mk []) ([]:List aa)),false)
 else
  if(ao (r1+1))==(v_0.L.length:Int)then
   some ((aa.mk 0 0 (aC.mk []) ([]:List aa)),true)
  else
   aI (0<=ao (r1+1)/\ao (r1+1)<v_0.L.length)<|
   some (ix v_0.L (ao (r1+1)),true)
def se{v_0 cX}:FF 37 [oV v_0,.str cX.b] (iO v_0 cX) fun r=>[oV r.1,.bool r.2]:=by
 intro s Q
 refine FR 28 [⟨4,false,some (4,true)⟩,⟨5,true,none⟩] 0x66242f50c889fdfacc0083efd2f41cdd7c2f9a61b202f8a12f384ed29e464e359227259eb1dcff4ac8769d8af9026a99b14cba318a026bb7ef13e8450f900f3d2d967a18b42b03818f3bf82dd7cb4fc1f0876254fe93780eb3482926366c1913a1f1a98d6c3d4254244a61b14c7758db3ae0d3d00dc0b083981dc iO.eq_1 ?_
 repeat'(first
  |with_reducible refine au (fun _(h:jk v_0 cX=some _)=>vM h) (fun r1=>?_)
  |refine Xh2 ?_|exact Xh3)
def gC(v_0:aa)(CA:aC):Option (Bool):=
 aL (iO v_0 CA) fun r1=>
 some r1.2
def nN{v_0 CA}:FF 39 [oV v_0,.str CA.b] (gC v_0 CA) fun r=>[.bool r]:=by
 intro s Q
 refine FR 14 [⟨4,true,none⟩] 0x140fb26c6ec835a6dd49ddc81fa80893b15211226593a0e166ebd387d28f5e9a710cfc59956c60839818b gC.eq_1 ?_
 repeat'(first
  |with_reducible refine au (fun _(h:iO v_0 CA=some _)=>(c6 se h:)) (fun r1=>?_)
  |refine Xh2 ?_|exact Xh3)
def pq(o_0:aM):Option (Int):=
 aL (lH o_0.V) fun r1=>
 if r1 !=0 then
  none
 else
  if(!o_0.Stream)&&(!(o_0.Data.b==(aC.mk []).b))then
   none
  else
   aL (eu (o_0.Stream&&(!(o_0.V.Kind !=7))) false (gC o_0.V (aC.mk [76,101,110,103,116,104]))) fun r2=>
   aL (eu (o_0.Stream&&(!((o_0.V.Kind !=7)||r2))) false (gC o_0.V (aC.mk [70,105,108,116,101,114]))) fun r3=>
   aL (eu (o_0.Stream&&(!(((o_0.V.Kind !=7)||r2)||r3))) false (gC o_0.V (aC.mk [68,101,99,111,100,101,80,97,114,109,115]))) fun r4=>
   if o_0.Stream&&((((o_0.V.Kind !=7)||r2)||r3)||r4)then
    none
   else
    if decide ((o_0.Data.b.length:Int)>16777216)then
     none
    else
     some 0
def Cd{o_0}:FF 25 [.agg (Od o_0)] (pq o_0) fun r=>[.int .i64 r]:=by
 intro s Q
 refine FR 49 [⟨2,true,none⟩] 0x2dc5fe2698581a5593f8bf9182aeb7dc27271aff36b245cbd5051c14d419b2637a23b58b762e3a51a9800f5e1b98e4009d019674c98db57059b1bff2f990c9e293421e05c47a51f56d9abbc6bf11e3af287bdd61717fc8f1493b7b23868f92692f31574c40524c712b2c064d7ffe766928f66858cf8a6fb78f00aec823d253afb5325dfe0ff62bcbf1b5c61e3dc45d769436707b8071423cfe82eda4331fe237737b8133fb5d989d4a5480f8fcaf9ece00f8c4eec5d87da43a80fcae440ace62ad20083f6995b pq.eq_1 ?_
 repeat'(first
  |(with_reducible first|exact bG|refine aV ?_ ?_|refine bI ?_|refine au (fun _(h:lH o_0.V=some _)=>(c6 ue h:)) (fun r1=>?_)|refine cP rfl (fun _(h:gC o_0.V (aC.mk [76,101,110,103,116,104])=some _)=>(c6 nN h:)) (fun _=>rfl) (fun r2=>?_)|refine cP rfl (fun _(h:gC o_0.V (aC.mk [70,105,108,116,101,114])=some _)=>(c6 nN h:)) (fun _=>rfl) (fun r3=>?_)|refine cP rfl (fun _(h:gC o_0.V (aC.mk [68,101,99,111,100,101,80,97,114,109,115])=some _)=>(c6 nN h:)) (fun _=>rfl) (fun r4=>?_))
  |refine Xh2 ?_|exact Xh3)
def jZ(v_0:aa):Option (aM):=some (aM.mk v_0 false (aC.mk []))
def sm{v_0}:FF 10 [oV v_0] (jZ v_0) fun r=>[.agg (Od r)]:=by
 intro s Q
 exact FC 5 [⟨2,false,some (6,true)⟩] 0x130807c14316a340430ea3b2b86d5c8fadcf98a18b7ae0d3d0136e803995b jZ.eq_1
def jb(v_0:aa)(F8:aC):Option (aM):=some (aM.mk v_0 true F8)
def sn{v_0 F8}:FF 12 [oV v_0,.str F8.b] (jb v_0 F8) fun r=>[.agg (Od r)]:=by
 intro s Q
 exact FC 8 [⟨4,false,some (6,true)⟩] 0xed80152a7d83516dc4792d624afac60a522bf1123a2aa65e538b7ae0d3d01372b0839818b jb.eq_1
end Go.AB
end
section
set_option maxRecDepth 4000
namespace Go.AB
open Go
open Go.Proofs.Tryz (prog)
end Go.AB
end
section
set_option maxRecDepth 16000
namespace Go.AB
open Go
open Go.Proofs.Tryz (prog)
attribute[-go_sem] cL dm cg cK
def mb(t_0:aE)(c_1:aC):Option (Bool):=some ((t_0.Kind==6)&&(t_0.S.b==c_1.b))
def AP{t_0 c_1}{B1:Nat}{s:ae}{Q:List AV->ae->Prop}(hB1:s B1=some (.cells [.str c_1.b])):ok (mb t_0 c_1) (fun r=>Q [.bool r] s)->FN prog 74 [.agg [.int .i64 t_0.Kind,.int .i64 t_0.mj,.int .i64 t_0.To,.int .i64 t_0.V.Kind,.int .i64 t_0.V.N,.str t_0.V.S.b,sF 4 t_0.V.L,.str t_0.S.b],.ref B1 0] s Q:=by
 rw[<-aZ hB1]
 exact FC 13 [⟨3,true,none⟩] 0x2ecd26ff768054815cabcba2ff5bf3d10a3cde1e4a960c9632d28a8b77995684e99818b mb.eq_1
def AO{t_0 c_1}{B1:Nat}{s:ae}{r:Bool}(hB1:s B1=some (.cells [.str c_1.b]))(h:mb t_0 c_1=some r):FE prog 74 [.agg [.int .i64 t_0.Kind,.int .i64 t_0.mj,.int .i64 t_0.To,.int .i64 t_0.V.Kind,.int .i64 t_0.V.N,.str t_0.V.S.b,sF 4 t_0.V.L,.str t_0.S.b],.ref B1 0] s [.bool r] s:=AP hB1 ⟨r,h,rfl,rfl⟩
def mI(b_0:(List UInt8))(aQ:Int)(aq:Bool)(HQ:aC):Option (aE×Int):=
 aL (eh b_0 aQ aq) fun r1=>
 if r1.2 !=0 then
  some ((aE.mk 0 0 0 (aa.mk 0 0 (aC.mk []) ([]:List aa)) (aC.mk [])),r1.2)
 else
  if r1.1.Kind==0 then
   some ((aE.mk 0 0 0 (aa.mk 0 0 (aC.mk []) ([]:List aa)) (aC.mk [])),10)
  else
   aL (mb r1.1 HQ) fun r2=>
   if !r2 then
    some ((aE.mk 0 0 0 (aa.mk 0 0 (aC.mk []) ([]:List aa)) (aC.mk [])),11)
   else
    some (r1.1,0)
theorem Lt:(we prog 74=true)=True:=eq_true C_
def D5{b_0 aQ aq HQ}{B3_0:Nat}{s:ae}{Q:List AV->ae->Prop}(OY:s B3_0=some (.cells [.str HQ.b])):ok (mI b_0 aQ aq HQ) (fun r=>Q [.agg [.int .i64 r.1.Kind,.int .i64 r.1.mj,.int .i64 r.1.To,.int .i64 r.1.V.Kind,.int .i64 r.1.V.N,.str r.1.V.S.b,sF 4 r.1.V.L,.str r.1.S.b],.int .i64 r.2] s)->FN prog 72 [sF 1 b_0,.int .i64 aQ,.bool aq,.fn 74 [] [.ref B3_0 0]] s Q:=by
 rw[<-aZ OY]
 refine FR 36 [⟨8,false,some (8,true)⟩,⟨9,true,none⟩] 0x189baaf8529fb4c63a7f0b29a43e477188dc8a88d91680772e2188e201ff361b8f70c9dc7730a2dea76ddc27cdf9884299f96e5000d9cc7d613fec626c16e975785fc45ee09ca4c3dc5523bcdb896dfa63bc9992c8888ae740cf1bff7983d8c051b72195aba15c79e2ecaea9d2713cad3885e89e839c838b37194608cbb41349097d419471e6273e7015d4d3314168683427e56d000cc6ea4eb0bc401a6b353277a209622831bebca21d9773d003defd1eb37e000000010cabcb mI.eq_1 ?_
 repeat'(first
  |(with_reducible first|exact bG|refine aV ?_ ?_|refine bI ?_|refine au (fun _(h:eh b_0 aQ aq=some _)=>(c6 lg h:)) (fun r1=>?_)|refine au (fun _(h:mb r1.1 HQ=some _)=>AO (B1:=B3_0) (by simp -implicitDefEqProofs only[go_sem,seval,Lt]<;>simp only[al]) h) (fun r2=>?_))
  |simp -implicitDefEqProofs only[go_sem,seval,Lt])
def D4{b_0 aQ aq HQ}{B3_0:Nat}{s:ae}{r:aE×Int}(OY:s B3_0=some (.cells [.str HQ.b]))(h:mI b_0 aQ aq HQ=some r):FE prog 72 [sF 1 b_0,.int .i64 aQ,.bool aq,.fn 74 [] [.ref B3_0 0]] s [.agg [.int .i64 r.1.Kind,.int .i64 r.1.mj,.int .i64 r.1.To,.int .i64 r.1.V.Kind,.int .i64 r.1.V.N,.str r.1.V.S.b,sF 4 r.1.V.L,.str r.1.S.b],.int .i64 r.2] s:=D5 OY ⟨r,h,rfl,rfl⟩
def mH(b_0:(List UInt8))(aQ:Int)(aq:Bool)(qd:aC):Option (Int×Int):=
 aL (mI b_0 aQ aq qd) fun r1=>
 some (r1.1.To,r1.2)
def D3{b_0 aQ aq qd}:FF 33 [sF 1 b_0,.int .i64 aQ,.bool aq,.str qd.b] (mH b_0 aQ aq qd) fun r=>[.int .i64 r.1,.int .i64 r.2]:=by
 intro s Q
 intro h
 refine FN.forget ?_
 refine FP 23 [⟨8,true,none⟩,⟨9,true,none⟩] (dec 0x6ca41d382e9dec24d71c318871f71949092f3245660f540b40655d4eab3886a80397f1f77361ebaa6050164a1262e1430a024afd6e04a9e3093042e96005b200cd946b9bc) C_ rfl ?_
 revert h
 rw[mH]
 refine Xh4 ?_
 repeat'(first
  |with_reducible refine au (fun _(h:mI b_0 aQ aq qd=some _)=>D4 (B3_0:=N1) DO h) (fun r1=>?_)
  |((fail_if_success (have _x:=sN1));with_reducible intro hh N1 hN1;(try simp only[jq]at hN1);have sN1:=hN1;revert hh)
  |with_reducible exact fun hh=>⟨_,qg.set (qg.refl _) v_,hh⟩
  |refine Xh2 ?_|exact Xh3)
def nS(t_0:aE):Option (Bool):=some ((t_0.Kind==1)&&(t_0.V.Kind==2))
def AQ{t_0}:FF 73 [.agg [.int .i64 t_0.Kind,.int .i64 t_0.mj,.int .i64 t_0.To,.int .i64 t_0.V.Kind,.int .i64 t_0.V.N,.str t_0.V.S.b,sF 4 t_0.V.L,.str t_0.S.b]] (nS t_0) fun r=>[.bool r]:=by
 intro s Q
 exact FC 12 [⟨2,true,none⟩] 0x16f1440b844ae3ea6d1cde8652f01354bd3b953622ebee9632d28a8b77e3684e9995b nS.eq_1
def ll(b_0:(List UInt8))(aQ:Int)(aq:Bool):Option (aE×Int):=
 aL (eh b_0 aQ aq) fun r1=>
 if r1.2 !=0 then
  some ((aE.mk 0 0 0 (aa.mk 0 0 (aC.mk []) ([]:List aa)) (aC.mk [])),r1.2)
 else
  if r1.1.Kind==0 then
   some ((aE.mk 0 0 0 (aa.mk 0 0 (aC.mk []) ([]:List aa)) (aC.mk [])),10)
  else
   aL (nS r1.1) fun r2=>
   if !r2 then
    some ((aE.mk 0 0 0 (aa.mk 0 0 (aC.mk []) ([]:List aa)) (aC.mk [])),11)
   else
    some (r1.1,0)
theorem R5:(we prog 73=true)=True:=eq_true C_
def CP{b_0 aQ aq}:FF 72 [sF 1 b_0,.int .i64 aQ,.bool aq,.fn 73 [] []] (ll b_0 aQ aq) fun r=>[.agg [.int .i64 r.1.Kind,.int .i64 r.1.mj,.int .i64 r.1.To,.int .i64 r.1.V.Kind,.int .i64 r.1.V.N,.str r.1.V.S.b,sF 4 r.1.V.L,.str r.1.S.b],.int .i64 r.2]:=by
 intro s Q
 refine FR 36 [⟨8,false,some (8,true)⟩,⟨9,true,none⟩] 0x189baaf8529fb4c63a7f0b29a43e477188dc8a88d91680772e2188e201ff361b8f70c9dc7730a2dea76ddc27cdf9884299f96e5000d9cc7d613fec626c16e975785fc45ee09ca4c3dc5523bcdb896dfa63bc9992c8888ae740cf1bff7983d8c051b72195aba15c79e2ecaea9d2713cad3885e89e839c838b37194608cbb41349097d419471e6273e7015d4d3314168683427e56d000cc6ea4eb0bc401a6b353277a209622831bebca21d9773d003defd1eb37e000000010cabcb ll.eq_1 ?_
 repeat'(first
  |(with_reducible first|exact bG|refine aV ?_ ?_|refine bI ?_|refine au (fun _(h:eh b_0 aQ aq=some _)=>(c6 lg h:)) (fun r1=>?_)|refine au (fun _(h:nS r1.1=some _)=>(c6 AQ h:)) (fun r2=>?_))
  |simp -implicitDefEqProofs only[go_sem,seval,R5])
def fQ(b_0:(List UInt8))(aQ:Int)(aq:Bool):Option (Int×Int×Int):=
 aL (ll b_0 aQ aq) fun r1=>
 some (r1.1.V.N,r1.1.To,r1.2)
def AN{b_0 aQ aq}:FF 32 [sF 1 b_0,.int .i64 aQ,.bool aq] (fQ b_0 aQ aq) fun r=>[.int .i64 r.1,.int .i64 r.2.1,.int .i64 r.2.2]:=by
 intro s Q
 refine FR 24 [⟨6,true,none⟩,⟨7,true,none⟩,⟨8,true,none⟩] 0x719b7d7a937bf2fc3aba7891468915ef5337b87246df855135548a28542a8d31de0d78c9b53412cb957c21c9c4e3bd82380132835406a4250c292b13bd401e5e0eac2f87e254aff7889528402d9003cc00c15c fQ.eq_1 ?_
 repeat'(first
  |with_reducible refine au (fun _(h:ll b_0 aQ aq=some _)=>(c6 CP h:)) (fun r1=>?_)
  |refine Xh2 ?_|exact Xh3)
end Go.AB
end
