/- A part. -/
import Derived.Test.YtgecakgfnjkkbaaGreatTt14
import Derived.Test.YtgecakgfnjkkbaaGreatTt13
set_option linter.defProp false
set_option linter.unusedSimpArgs false
set_option linter.unusedVariables false
section
set_option maxRecDepth 16000
namespace Go.AB
open Go
open Go.Proofs.Tryz (prog)
structure aa where
 Kind:Int
 N:Int
 S:aO
 L:(List aa)
mutual
def iR:aa->List AV
 |⟨k,n,s,l⟩=>[.int .i64 k,.int .i64 n,.str s.b,.sl false 4 l.length (ot l)]
def ot:List aa->List AV
 |[]=>[]
 |v::l=>iR v++ot l
end
def HA(x:aa):views (iR x)=iR x:=by cases x;simp[iR,views,view]
def Hz(x:aa):(iR x).length=4:=by cases x;simp[iR]
instance:aP aa:=⟨4,iR,⟨0,0,⟨[]⟩,[]⟩,By,Hz,HA⟩
theorem sH:∀l:List aa,ot l=flat l
 |[]=>by rw[ot];rfl
 |v::l=>by rw[ot,sH l];rfl
@[go_sem]theorem ji(x:aa):aP.cells x=[.int .i64 x.Kind,.int .i64 x.N,.str x.S.b,sF 4 x.L]:=by
  cases x
  show iR _=_
  rw[iR,sH]
@[go_sem]abbrev MB(x:aa):List AV:=[.int .i64 x.Kind,.int .i64 x.N,.str x.S.b,sF 4 x.L]
@[go_sem]theorem EV(l:List aa)(i:Int):pad [.int .i64 0,.int .i64 0,.str [],.sl false 4 0 []] (views (AB.sub (flat l) (i.toNat*4) 4))=[.int .i64 ((ix l i).Kind),.int .i64 ((ix l i).N),.str ((ix l i).S).b,sF 4 ((ix l i).L)]:=by rw[<-ji];exact qJ _ 4 l i (by rw[ji];rfl) rfl
attribute[-go_sem] cj cS bK ch
def akP{P:Program}{X:Prop}{iH:List (List Bool)}{ops f:List ar}{live:List Nat}{Q:Exit->St->Prop}{d:List Bool}{E φ:St}
 (h1:∀Q':St->Prop,Q' φ->Rw P iH ops (fun τ=>Q' (τ.xb live)) f d E)(h2:X->Q .normal φ):X->Rw P iH ops (Ac live Q) f d E:=fun x=>h1 (fun τ=>Q .normal τ) (h2 x)
@[go_sem]theorem akZ:Nat.ble 1 1=true:=rfl
@[go_sem]theorem als{α:Type}[aP α](n:Nat)(l:List α)(hi:Int)(hn:n=aP.w α):AB.sub (flat l) 0 (hi.toNat*n)=flat (part l 0 hi):=by
  have:=Ge n l 0 hi hn
  rwa[Int.sub_zero,show((0:Int).toNat*n)=0 from by simp]at this
@[go_sem]theorem agd{α:Type}[aP α](l:List α)(i:Int):ix l ((i.toNat:Nat):Int)=ix l i:=rfl
@[go_sem]theorem aeq(l:List Int)(n:Nat):pad [.int .i64 0] (views (AB.sub (flat l) (n*1) 1))=[.int .i64 (ix l (n:Int))]:=Ps l n
def jv{P:Program}{f:FuncId}{as1 as2:List AV}{s:ae}{Q:List AV->ae->Prop}(e:as1=as2)(h:FN P f as1 s Q):FN P f as2 s Q:=e▸h
def kq:Lh prog 245 5 0 243=true:=B_
structure aG where
 Kind:Int
 aS:Int
 To:Int
 V:aa
 S:aO
instance:aP aG:=⟨8,fun x=>[.int .i64 x.Kind,.int .i64 x.aS,.int .i64 x.To,.int .i64 x.V.Kind,.int .i64 x.V.N,.str x.V.S.b,sF 4 x.V.L,.str x.S.b],(aG.mk 0 0 0 (aa.mk 0 0 (aO.mk []) []) (aO.mk [])),By,fun _=>rfl,fun _=>rfl⟩
def jX(c_0:UInt8):Option (Bool):=some (((((((c_0.toNat:Int)==0)||((c_0.toNat:Int)==9))||((c_0.toNat:Int)==10))||((c_0.toNat:Int)==12))||((c_0.toNat:Int)==13))||((c_0.toNat:Int)==32))
def sk{c_0}:FF 158 [.int .u8 c_0.toNat] (jX c_0) fun r=>[.bool r]:=by
 intro s Q
 exact FC 25 [⟨2,true,none⟩] 0xed19766602fba43c17dcbf92032600a23740e83d88d1271c0d327740db7487564aa977ee8d901727d7d69f91f30e1cc9b704c9f59c7cb5ce9e39c35dc125f2a6b298824473a jX.eq_1
def qY(b_0:(List UInt8))(fL:Int):Option (Int):=
 if decide (fL<0)then
  some 0
 else
  yx (
   nE (
    iter (fun((at3,tD):Int×Bool)=>
     if decide (at3<(b_0.length:Int))then
      yx (
       a8 (0<=at3/\at3<b_0.length)<|
       if tD then
        some (.inl ((((ix b_0 at3).toNat:Int)!=10)&&(((ix b_0 at3).toNat:Int)!=13)))
       else
        if((ix b_0 at3).toNat:Int)==37 then
         some (.inl true)
        else
         aQ (jX (ix b_0 at3)) fun r11=>
         if !r11 then
          some (.inr at3)
         else
          some (.inl tD)) (fun(xX:Bool)=>
       some (.inl (aC (at3+1),xX)))
      (fun(t10:Int)=>some (.inr (.inr t10)))
     else
      some (.inr (.inl ()))) (fL,false)) (fun(_:Unit)=>
    some (.inl ()))
   (fun(t6:Int)=>some (.inr t6))) (fun(_:Unit)=>
   some (b_0.length:Int))
  (fun(t2:Int)=>some t2)
def Ld{b_0 fL}:FF 167 [sF 1 b_0,.int .i64 fL] (qY b_0 fL) fun r=>[.int .i64 r]:=by
 intro s Q
 refine FR 37 [⟨4,true,none⟩] 0x55e0511afc9b323d1f3581ac070460ae5cfd7a9bb4c56ce0e54b13c16e9201465a6c7f61ef8836a38fab71f89e1ab4de50e2c7b8556a26fe8ec346f186f689a513b695d2ac41fe72af7f886d6a90dd5dbd7214ab262fe957607dac62bc6274ccc898949275357186e8ecd4f1185c28fd2e3482e64cc8962260d1f6e0257ea1878b091bbc1f7a06d3be46c8cf91f5d66a09a22962316cc5ba245b8116802ef069ca13980083fa qY.eq_1 ?_
 repeat'(first
  |(with_reducible first|exact dm|refine b8 ?_ ?_|refine dv ?_|refine au (fun _(h:jX (ix b_0 at3)=some _)=>(iW sk h:)) (fun r11=>?_))
  |((with_reducible refine eH (live:=[(0,true),(1,false),(5,false)]) (fun(xX:Bool)=>⟨[(0,sF 1 b_0),(1,.int .i64 at3),(5,.bool xX)],[],s⟩) (fun J=>?_) ?_);rotate_left;rintro xX)
  |((with_reducible refine cX (fun((at3,tD):Int×Bool)=>⟨[(0,sF 1 b_0),(1,.int .i64 at3),(5,.bool tD)],[],s⟩) ?_ ?_);(first|exact rfl|simp -implicitDefEqProofs only[go_sem,seval]);rintro J ⟨at3,tD⟩)
  |((with_reducible refine eH (live:=[(0,true)]) (fun(_:Unit)=>⟨[(0,sF 1 b_0)],[],s⟩) (fun J=>?_) ?_);rotate_left;rintro _)
  |refine Xe2 ?_|exact Xf6)
structure aq where
 Builder:Ba
 b_:(List UInt8)
 at_:Int
 aU:Bool
@[go_sem]abbrev vu(B0:Nat)(x:aq):List AV:=[zj 245 B0 0 x.Builder,wM x.Builder,sF 1 x.b_,.int .i64 x.at_,.bool x.aU]
def ed(s_0:aO)(c_1:UInt8):Option (Int):=
 aQ (gm s_0 c_1) fun r1=>
 some r1
def mZ{s_0 c_1}:FF 185 [.str s_0.b,.int .u8 c_1.toNat] (ed s_0 c_1) fun r=>[.int .i64 r]:=by
 intro s Q
 refine FR 8 [⟨4,true,none⟩] 0x13ca928775ab3dd5c3495f9593980083fa ed.eq_1 ?_
 repeat'(first
  |with_reducible refine au (fun _(h:gm s_0 c_1=some _)=>(iW qp h:)) (fun r1=>?_)
  |refine Xe2 ?_|exact Xf6)
def uR(c_0:UInt8):Option (Bool):=
 aQ (ed (aO.mk [40,41,60,62,91,93,123,125,47,37]) c_0) fun r1=>
 some (decide (r1>=0))
def Ix{c_0}:FF 159 [.int .u8 c_0.toNat] (uR c_0) fun r=>[.bool r]:=by
 intro s Q
 refine FR 6 [⟨2,true,none⟩] 0xa1c396336384fd8d13a951013c745c9a05440fca563e38d920824473a uR.eq_1 ?_
 repeat'(first
  |with_reducible refine au (fun _(h:ed (aO.mk [40,41,60,62,91,93,123,125,47,37]) c_0=some _)=>(iW mZ h:)) (fun r1=>?_)
  |refine Xe2 ?_|exact Xf6)
def gJ(c_0:UInt8):Option (Bool):=
 aQ (jX c_0) fun r1=>
 aQ (jA (!r1) false (uR c_0)) fun r2=>
 some ((!r1)&&(!r2))
def tZ{c_0}:FF 199 [.int .u8 c_0.toNat] (gJ c_0) fun r=>[.bool r]:=by
 intro s Q
 refine FR 11 [⟨2,true,none⟩] 0x19674524ab3e5922a732a9c50dc50ddc976c145dd6689737dc540824473a gJ.eq_1 ?_
 repeat'(first
  |(with_reducible first|refine c9 (fun _(h:jX c_0=some _)=>(iW sk h:)) (fun _=>rfl) (fun r1=>?_)|refine jo rfl (fun _(h:uR c_0=some _)=>(iW Ix h:)) (fun _=>rfl) (fun r2=>?_))
  |refine Xe2 ?_|exact Xf6)
def gU(s_0:aq):Option (aO×Bool×aq):=
 jn (
  iter (fun(o3:aq)=>
   a8 ((decide (o3.at_<(o3.b_.length:Int)))=true->0<=o3.at_/\o3.at_<o3.b_.length)<|
   aQ (jA (decide (o3.at_<(o3.b_.length:Int))) false (gJ (ix o3.b_ o3.at_))) fun r6=>
   if(decide (o3.at_<(o3.b_.length:Int)))&&r6 then
    some (.inl (aq.mk o3.Builder o3.b_ (aC (o3.at_+1)) o3.aU))
   else
    some (.inr o3)) s_0) fun(o2:aq)=>
 a8 (0<=s_0.at_/\s_0.at_<=o2.at_/\o2.at_<=o2.b_.length)<|
 some (aO.mk (part o2.b_ s_0.at_ o2.at_),(decide (o2.at_<(o2.b_.length:Int)))||o2.aU,o2)
def q9{s_0}{B0:Nat}{s:ae}{Q:List AV->ae->Prop}(hB0:s B0=some (.cells (vu B0 s_0))):ok (gU s_0) (fun r=>Q [.str r.1.b,.bool r.2.1] (s.set B0 (.cells (vu B0 r.2.2))))->FN prog 204 [.ref B0 0] s Q:=by
 rw[<-bq hB0]
 refine FR 66 [⟨2,true,none⟩,⟨3,true,none⟩] 0x1e71539ecd7ed6db23bd7c4da2ff371626489baf6e226382cdb8a5742a5339ca8697a81536e1c6e0920d137fbd183e9c760441f442589bd2bc49a77a1cf589c52a524bce62f5cdf4eec4f6e0e74ea843c944cd5cd10185cb3727feebb52d452144bd15c7d1fcd330f3e0d3999e0673dbd032fc63679d2dafbdf6f2ac8a82c0c3de552b11aff58ed24ec074dd59a4c7068f8b5661ae1dcae98c1794b2975d6606ee7ec4b4ee896cf9ada31a5d48db518f5139f0a3a368ecf161b3defc478b gU.eq_1 ?_
 repeat'(first
  |(with_reducible first|exact dm|refine b8 ?_ ?_|refine jo rfl (fun _(h:gJ (ix o3.b_ o3.at_)=some _)=>(iW tZ h:)) (fun _=>rfl) (fun r6=>?_))
  |((with_reducible refine cX (fun(o3:aq)=>⟨[(0,.ref B0 0),(4,.int .i64 s_0.at_)],[],(s.set B0 (.cells (vu B0 o3)))⟩) ?_ ?_);(first|exact rfl|simp -implicitDefEqProofs only[go_sem,seval]);rintro J o3)
  |((with_reducible refine dZ (fun(o2:aq)=>⟨[(0,.ref B0 0),(4,.int .i64 s_0.at_)],[],(s.set B0 (.cells (vu B0 o2)))⟩) (fun J=>?_) ?_);rotate_left;rintro o2)
  |refine Xe2 ?_|exact Xf6)
def cV(s_0:aO)(gj:aO):Option (Bool):=
 a8 ((decide ((s_0.b.length:Int)>=(gj.b.length:Int)))=true->0<=(0:Int)/\0<=(gj.b.length:Int)/\(gj.b.length:Int)<=s_0.b.length)<|
 some ((decide ((s_0.b.length:Int)>=(gj.b.length:Int)))&&((aO.mk (part s_0.b 0 (gj.b.length:Int))).b==gj.b))
def lx{s_0 gj}:FF 280 [.str s_0.b,.str gj.b] (cV s_0 gj) fun r=>[.bool r]:=by
 intro s Q
 exact FC 18 [⟨4,true,none⟩] 0xa10c3beea36cba2014615743f0265b483e4b30cf25f524a79465f7e62d1fabd719b41144e483fa cV.eq_1
def cY(s_0:aO)(gj:aO):Option (Bool):=
 aQ (cV s_0 gj) fun r1=>
 some r1
def mY{s_0 gj}:FF 255 [.str s_0.b,.str gj.b] (cY s_0 gj) fun r=>[.bool r]:=by
 intro s Q
 refine FR 8 [⟨4,true,none⟩] 0x13ca928775bb75b7c3495f95944e483fa cY.eq_1 ?_
 repeat'(first
  |with_reducible refine au (fun _(h:cV s_0 gj=some _)=>(iW lx h:)) (fun r1=>?_)
  |refine Xe2 ?_|exact Xf6)
def fj(s_0:aO)(pT:aO):Option (aO×aO×Bool):=
 aQ (gL s_0 pT) fun r1=>
 if decide (r1>=0)then
  a8 (0<=(0:Int)/\0<=r1/\r1<=s_0.b.length)<|
  a8 (0<=aC (r1+(pT.b.length:Int))/\aC (r1+(pT.b.length:Int))<=(s_0.b.length:Int)/\(s_0.b.length:Int)<=s_0.b.length)<|
  some (aO.mk (part s_0.b 0 r1),aO.mk (part s_0.b (aC (r1+(pT.b.length:Int))) (s_0.b.length:Int)),true)
 else
  some (s_0,(aO.mk []),false)
def nO{s_0 pT}:FF 281 [.str s_0.b,.str pT.b] (fj s_0 pT) fun r=>[.str r.1.b,.str r.2.1.b,.bool r.2.2]:=by
 intro s Q
 refine FR 23 [⟨4,true,none⟩,⟨5,true,none⟩,⟨6,true,none⟩] 0x4566d085658667f36f5c70e61bff6b5d746c6e0ef75dc39ea855960bad82c18dfcf323d400a5d0427224c7685029c1dd41d89f5f8b2f391183ce41631bafb9586dcc36c06e73d3defc849c fj.eq_1 ?_
 repeat'(first
  |with_reducible refine au (fun _(h:gL s_0 pT=some _)=>(iW uy h:)) (fun r1=>?_)
  |refine Xe2 ?_|exact Xf6)
def mX(s_0:aO)(pT:aO):Option (aO×aO×Bool):=
 aQ (fj s_0 pT) fun r1=>
 some (r1.1,r1.2.1,r1.2.2)
def D8{s_0 pT}:FF 256 [.str s_0.b,.str pT.b] (mX s_0 pT) fun r=>[.str r.1.b,.str r.2.1.b,.bool r.2.2]:=by
 intro s Q
 refine FR 13 [⟨4,true,none⟩,⟨5,true,none⟩,⟨6,true,none⟩] 0x4fb00ea327c318c3f520f19c9b4ecd8026c1454679f3bf6c06e73d3defc849c mX.eq_1 ?_
 repeat'(first
  |with_reducible refine au (fun _(h:fj s_0 pT=some _)=>(iW nO h:)) (fun r1=>?_)
  |refine Xe2 ?_|exact Xf6)
def jM(s_0:aO):Option (Int):=
 a8 (((s_0.b.length+(aO.mk [48,48,48,48,48,48]).b.length:Nat):Int)<=Th)<|
 a8 (0<=(0:Int)/\0<=6/\6<=(aO.mk (s_0.b++(aO.mk [48,48,48,48,48,48]).b)).b.length)<|
 aQ (mn (aO.mk (part (aO.mk (s_0.b++(aO.mk [48,48,48,48,48,48]).b)).b 0 6))) fun r1=>
 some r1.1
def yM{s_0}:FF 259 [.str s_0.b] (jM s_0) fun r=>[.int .i64 r]:=by
 intro s Q
 refine FR 14 [⟨2,true,none⟩] 0x13749e7fbe8e2dc2b57eb9e91e1e40ec52527411e657649dd910af30e2778c81cbeccccccdfc2c13cf657085fcc00473a jM.eq_1 ?_
 repeat'(first
  |(with_reducible first|exact dm|refine b8 ?_ ?_)
  |((fail_if_success (have _x:=r1));with_reducible refine au (fun _ h=>(iW wi h:)) (fun r1=>?_))
  |refine Xe2 ?_|exact Xf6)
def oe(v_0:aa):Option (Int):=
 yx (
  if v_0.Kind==2 then
   some (.inl 2147483647)
  else
   if v_0.Kind==3 then
    some (.inl 2147483647000000)
   else
    some (.inr (2:Int))) (fun(Dk:Int)=>
  if(((decide (v_0.N<aC (0 -Dk)))||(decide (v_0.N>Dk)))||(!(v_0.S.b==(aO.mk []).b)))||(decide ((v_0.L.length:Int)>0))then
   some 2
  else
   some 0)
 (fun(t3:Int)=>some t3)
def IG{v_0}:FF 260 [.agg (MB v_0)] (oe v_0) fun r=>[.int .i64 r]:=by
 intro s Q
 refine FR 32 [⟨2,true,none⟩] 0x1ac1ed7f522246eb1bb86a08164e3d8af792f37deaeba76210217f327c8fd3b25ca8e0aca90b0150dfd54f06e7478c4bc44ae9f8382c76946ba084ae9ee24210aadd2c8a26cdf2e2fde7a0f77f6384bd912dee079fc71b43985a2a099f6876dfc6207473e6f7e382d000735699529cfccf7593c6841cc0aa464664b7c5b0ebf3184553559ed614d2008303995b oe.eq_1 ?_
 repeat'(first
  |((with_reducible refine eH (fun(Dk:Int)=>⟨[(1,.loc (MB v_0)),(3,.int .i64 Dk)],[],s⟩) (fun J=>?_) ?_);rotate_left;rintro Dk)
  |refine Xe2 ?_|exact Xf6)
def og(s_0:aO):Option (aa×Int):=
 jn (
  aQ (cY s_0 (aO.mk [45])) fun r4=>
  if r4 then
   a8 (0<=(1:Int)/\1<=(s_0.b.length:Int)/\(s_0.b.length:Int)<=s_0.b.length)<|
   some ((-1),aO.mk (part s_0.b 1 (s_0.b.length:Int)))
  else
   aQ (cY s_0 (aO.mk [43])) fun r5=>
   if r5 then
    a8 (0<=(1:Int)/\1<=(s_0.b.length:Int)/\(s_0.b.length:Int)<=s_0.b.length)<|
    some (1,aO.mk (part s_0.b 1 (s_0.b.length:Int)))
   else
    some (1,s_0)) fun((DW,JX):Int×aO)=>
 aQ (mX JX (aO.mk [46])) fun r6=>
 aQ (jA (!((aC ((r6.1.b.length:Int)+(r6.2.1.b.length:Int)))==0)) false (nQ r6.1)) fun r7=>
 aQ (jA (!(((aC ((r6.1.b.length:Int)+(r6.2.1.b.length:Int)))==0)||(!r7))) false (nQ r6.2.1)) fun r8=>
 if(((aC ((r6.1.b.length:Int)+(r6.2.1.b.length:Int)))==0)||(!r7))||(!r8)then
  some ((aa.mk 0 0 (aO.mk []) ([]:List aa)),11)
 else
  a8 ((((aO.mk [48]).b.length+r6.1.b.length:Nat):Int)<=Th)<|
  aQ (mn (aO.mk ((aO.mk [48]).b++r6.1.b))) fun r9=>
  if r9.2 !=0 then
   some ((aa.mk 0 0 (aO.mk []) ([]:List aa)),r9.2)
  else
   if !r6.2.2 then
    some ((aa.mk 2 (aC (DW*r9.1)) (aO.mk []) ([]:List aa)),0)
   else
    aQ (jM r6.2.1) fun r10=>
    aQ (oe (aa.mk 3 (aC (DW*(aC ((aC (r9.1*1000000))+r10)))) (aO.mk []) ([]:List aa))) fun r11=>
    if r11 !=0 then
     some ((aa.mk 0 0 (aO.mk []) ([]:List aa)),5)
    else
     some ((aa.mk 3 (aC (DW*(aC ((aC (r9.1*1000000))+r10)))) (aO.mk []) ([]:List aa)),0)
def IH{s_0}:FF 226 [.str s_0.b] (og s_0) fun r=>[.agg (MB r.1),.int .i64 r.2]:=by
 intro s Q
 refine FR 75 [⟨2,false,some (4,true)⟩,⟨3,true,none⟩] 0x14d9a4599bc4b9adb84b5bde2331367625b0faef861ddefd02746ed8e61afe4daa9d7f2748f2f72952bd9caac882bbe6cf6a60a90a1e6eaa310c2385eed204a933910bfcdf062e47fd483693d9f218a215835217f1eb342b8dfacbb32f103a1bb504f6da77d8761ee1731a3226c9f5c7f1f85bd6e1bbaca8f63599b34b399dfdaa0ca4d13a4a8e4ac623625eedac5fda21944d0cd033ff74171db6ccfff6c065d9d5718a450eb1db6b98fbefdf5af20772d1df7b861a6835090d7856b1adcd55b919cdf0baab61298361b1ec0dfd49f2087d9956a89bbcbc0676f46be9036c7542c3bd8202cf69d6273311f4b97808688c6117f0081c903837d3695ee5ec17ce95738c920b72b5f2ab6ca7d4905bd7150b05f4aeebdb3ac3e6b7837f421ff67f44beec1a2ac054797a67c23974610dd0d5c19a231aa900194babcafb54be79988045526e29d5d4a2ecf992d27e976f8ab8a6478f13a9d03289a31aec57c3cb5c43350040de274c3b6b357b2003cd1eb37e00908f8b og.eq_1 ?_
 repeat'(first
  |(with_reducible first|exact dm|refine b8 ?_ ?_|refine dv ?_|refine au (fun _(h:cY s_0 (aO.mk [45])=some _)=>(iW mY h:)) (fun r4=>?_)|refine au (fun _(h:cY s_0 (aO.mk [43])=some _)=>(iW mY h:)) (fun r5=>?_)|refine au (fun _(h:mX JX (aO.mk [46])=some _)=>(iW D8 h:)) (fun r6=>?_)|refine jo rfl (fun _(h:nQ r6.1=some _)=>(iW Dt h:)) (fun _=>rfl) (fun r7=>?_)|refine jo rfl (fun _(h:nQ r6.2.1=some _)=>(iW Dt h:)) (fun _=>rfl) (fun r8=>?_))
  |((fail_if_success (have _x:=r9));with_reducible refine au (fun _ h=>(iW wi h:)) (fun r9=>?_))
  |(with_reducible first|refine au (fun _(h:jM r6.2.1=some _)=>(iW yM h:)) (fun r10=>?_)|refine au (fun _(h:oe (aa.mk 3 (aC (DW*(aC ((aC (r9.1*1000000))+r10)))) (aO.mk []) ([]:List aa))=some _)=>(by refine pB ?_ ((iW IG h:));simp -implicitDefEqProofs only[go_sem,seval])) (fun r11=>?_))
  |((with_reducible refine dZ (fun((DW,JX):Int×aO)=>⟨[(2,.loc [.int .i64 0,.int .i64 0,.str (aO.mk []).b,.sl true 4 0 []]),(4,.int .i64 DW),(5,.str JX.b)],[],s⟩) (fun J=>?_) ?_);rotate_left;rintro⟨DW,JX⟩)
  |refine Xe2 ?_|exact Xf6)
def gK(s_0:aq):Option (aG×Int×aq):=
 aQ (gU s_0) fun r1=>
 if !r1.2.1 then
  some ((aG.mk 0 0 0 (aa.mk 0 0 (aO.mk []) ([]:List aa)) (aO.mk [])),6,r1.2.2)
 else
  a8 (0<=(0:Int)/\(0:Int)<r1.1.b.length)<|
  if((((decide (((ix r1.1.b 0).toNat:Int)>=48))&&(decide (((ix r1.1.b 0).toNat:Int)<=57)))||(((ix r1.1.b 0).toNat:Int)==43))||(((ix r1.1.b 0).toNat:Int)==45))||(((ix r1.1.b 0).toNat:Int)==46)then
   aQ (og r1.1) fun r2=>
   some ((aG.mk 1 0 0 r2.1 (aO.mk [])),r2.2,r1.2.2)
  else
   some ((aG.mk 6 0 0 (aa.mk 0 0 (aO.mk []) ([]:List aa)) r1.1),0,r1.2.2)
def ua{s_0}{B0:Nat}{s:ae}{Q:List AV->ae->Prop}(hB0:s B0=some (.cells (vu B0 s_0))):ok (gK s_0) (fun r=>Q [.agg [.int .i64 r.1.Kind,.int .i64 r.1.aS,.int .i64 r.1.To,.int .i64 r.1.V.Kind,.int .i64 r.1.V.N,.str r.1.V.S.b,sF 4 r.1.V.L,.str r.1.S.b],.int .i64 r.2.1] (s.set B0 (.cells (vu B0 r.2.2))))->FN prog 200 [.ref B0 0] s Q:=by
 rw[<-bq hB0]
 refine FR 47 [⟨2,false,some (8,true)⟩,⟨3,true,none⟩] 0xb227c2a021021c42d7e39b77b7c20f3dd0171c29a846c1d5dafddaa4969338c2797e25eb7afc6c88b0bf091959dee89db3c187b45f25c9ebfaa48c0aeb74d5c6d227b84eea484f2b8bcde36b9a1bd912ca5894c2e2c93bbcc5bbc56ac6020210fe7f3587bb4621d3345c24be864f001073215f420b465f5be4f6230bd5af8ba4bd120e07832b76259e815ba3afd119a1ffaa08c01662321a8b85a93d04949227bd7e3cb05a646e2c1c4bff2984b5ca92b147954754e3f84932bf6c6dd85431f1d5083dcc10f340b8b377b7b2003defd1eb37e000000010a0f8b gK.eq_1 ?_
 repeat'(first
  |(with_reducible first|exact dm|refine b8 ?_ ?_|refine dv ?_|refine fun hh=>q9 (B0:=B0) C_ (aL (show ok (gU s_0) _ from hh) fun r1=>?_)|refine au (fun _(h:og r1.1=some _)=>(iW IH h:)) (fun r2=>?_))
  |refine Xe2 ?_|exact Xf6)
def bU(s_0:aq):Option (UInt8×Bool):=
 if decide (s_0.at_>=(s_0.b_.length:Int))then
  some (0,false)
 else
  a8 (0<=s_0.at_/\s_0.at_<s_0.b_.length)<|
  some (ix s_0.b_ s_0.at_,true)
def zP{s_0}{B0:Nat}{s:ae}{Q:List AV->ae->Prop}(hB0:s B0=some (.cells (vu B0 s_0))):ok (bU s_0) (fun r=>Q [.int .u8 r.1.toNat,.bool r.2] s)->FN prog 227 [.ref B0 0] s Q:=by
 rw[<-bq hB0]
 exact FC 24 [⟨2,true,none⟩,⟨3,true,none⟩] 0x60e09abf77c0315b8f48c04e5125cfdda67311c524e4adc7662c9ae7bf9a2b0813edce25e70d58717e74abfc8b4b40492a1f90e82b3df68b80a6040e5e9987561647a061b3cc798478b bU.eq_1
def ff{s_0}{B0:Nat}{s:ae}{r:UInt8×Bool}(hB0:s B0=some (.cells (vu B0 s_0)))(h:bU s_0=some r):FE prog 227 [.ref B0 0] s [.int .u8 r.1.toNat,.bool r.2] s:=zP hB0 ⟨r,h,rfl,rfl⟩
def cL(s_0:aq):Option (Int):=
 if s_0.aU then
  some 10
 else
  some 6
def zN{s_0}{B0:Nat}{s:ae}{Q:List AV->ae->Prop}(hB0:s B0=some (.cells (vu B0 s_0))):ok (cL s_0) (fun r=>Q [.int .i64 r] s)->FN prog 228 [.ref B0 0] s Q:=by
 rw[<-bq hB0]
 exact FC 7 [⟨2,true,none⟩] 0x6de8cfafaf9a6b582a0ce164a71a2564f4e3358784ba1ffcc00473a cL.eq_1
def iA{s_0}{B0:Nat}{s:ae}{r:Int}(hB0:s B0=some (.cells (vu B0 s_0)))(h:cL s_0=some r):FE prog 228 [.ref B0 0] s [.int .i64 r] s:=zN hB0 ⟨r,h,rfl,rfl⟩
def jy(c_0:UInt8):Option (Int):=
 if(decide ((c_0.toNat:Int)>=48))&&(decide ((c_0.toNat:Int)<=57))then
  some (aC (((ju ((c_0.toNat:Int) -48)).toNat:Int)))
 else
  if(decide ((c_0.toNat:Int)>=97))&&(decide ((c_0.toNat:Int)<=102))then
   some (aC ((aC (((ju ((c_0.toNat:Int) -97)).toNat:Int)))+10))
  else
   if(decide ((c_0.toNat:Int)>=65))&&(decide ((c_0.toNat:Int)<=70))then
    some (aC ((aC (((ju ((c_0.toNat:Int) -65)).toNat:Int)))+10))
   else
    some (-1)
def oR{c_0}:FF 234 [.int .u8 c_0.toNat] (jy c_0) fun r=>[.int .i64 r]:=by
 intro s Q
 exact FC 35 [⟨2,true,none⟩] 0x5a7bd2a41efd5a2161ca771502a54e61b61d5ab55437fd2d052d067a36be290ff37910339f2056249218662267855c8fd429f4b4f4deace82e9afc7a080c70671002d9eef29ec5911f2bc9aebe87acfbcdd6f581a89fac9b51705da339480f0a5950f28b4cb7180edf9779b98a8f13674506ffa2ff46d99f8deb822fe12dfcc00473a jy.eq_1
def gb(s_0:aq):Option (aa×Int×aq):=
 iter (fun((vV,o2):Int×aq)=>
  aQ (bU o2) fun r6=>
  if !r6.2 then
   aQ (cL o2) fun r7=>
   some (.inr ((aa.mk 0 0 (aO.mk []) ([]:List aa)),r7,o2))
  else
   aQ (jy r6.1) fun r8=>
   yx (
    if((r6.1.toNat:Int)==62)&&(decide (vV>=0))then
     aQ (aF o2.Builder (ju (aC (16*vV)))) fun r15=>
     aQ (bV r15.2) fun r16=>
     some (.inr ((aa.mk 4 0 r16.1 ([]:List aa)),(0:Int),(aq.mk r16.2 o2.b_ (aC (o2.at_+1)) o2.aU)))
    else
     if(r6.1.toNat:Int)==62 then
      aQ (bV o2.Builder) fun r17=>
      some (.inr ((aa.mk 4 0 r17.1 ([]:List aa)),(0:Int),(aq.mk r17.2 o2.b_ (aC (o2.at_+1)) o2.aU)))
     else
      aQ (jX r6.1) fun r18=>
      if r18 then
       some (.inl (vV,(aq.mk o2.Builder o2.b_ (aC (o2.at_+1)) o2.aU)))
      else
       if decide (r8<0)then
        some (.inr ((aa.mk 0 0 (aO.mk []) ([]:List aa)),(11:Int),(aq.mk o2.Builder o2.b_ (aC (o2.at_+1)) o2.aU)))
       else
        if decide (vV<0)then
         some (.inl (r8,(aq.mk o2.Builder o2.b_ (aC (o2.at_+1)) o2.aU)))
        else
         aQ (aF o2.Builder (ju (aC ((aC (16*vV))+r8)))) fun r19=>
         some (.inl ((-1),(aq.mk r19.2 o2.b_ (aC (o2.at_+1)) o2.aU)))) (fun((Ie,o11):Int×aq)=>
    some (.inl (Ie,o11)))
   (fun((t12,t13,o14):aa×Int×aq)=>some (.inr (t12,t13,o14)))) ((-1),s_0)
def yA{s_0}{B0:Nat}{s:ae}{Q:List AV->ae->Prop}(hB0:s B0=some (.cells (vu B0 s_0))):ok (gb s_0) (fun r=>Q [.agg (MB r.1),.int .i64 r.2.1] (s.set B0 (.cells (vu B0 r.2.2))))->FN prog 229 [.ref B0 0] s Q:=by
 rw[<-bq hB0]
 refine FR 74 [⟨2,false,some (4,true)⟩,⟨3,true,none⟩] 0xa759657d0c7c18a2ad0e6c16ba89d992b82ddcaf89c7ffbf7cc553854f2a27e692d4bbb1f091edddbcc9918d37f2980d28a7ac9bf31583ca9890d67f4011e474fd2fd062f399ed0ff49c10ca77a0f6b69d1ec92c449f312e5a5ad054198462739b68dc610711afdd6c7b67b87ffcf8775a09365d662926f40eeac451f4427127c2f68bbf3fe3fde70666cffb3c79222525e4dc2bd2c28e62b31fa448c96519c553365b3f64304e684d292a620c6dd0286e1f591f44766405a0d1f583fc1e6025538ca305e6e826ae131880894e0f4c28b1cce314456551ea9d6ea1a62e428406b5fbaf766aff120c2c509f1997f1bcbe59f5d4b50d76a6fab82173744c25d0f41a8e8752bdf84c3909d36a556e50e4806e3af034bd13a4bedae4ad6b63e0d80f8cbd947c5e01296026ceb814d26fac787af1223d5017dbb359e84938bac7b2003cd1eb37e00908f8b gb.eq_1 ?_
 repeat'(first
  |(with_reducible first|exact dm|refine b8 ?_ ?_|refine dv ?_|refine au (fun _(h:bU o2=some _)=>ff (B0:=B0) C_ h) (fun r6=>?_)|refine au (fun _(h:cL o2=some _)=>iA (B0:=B0) C_ h) (fun r7=>?_)|refine au (fun _(h:jy r6.1=some _)=>(iW oR h:)) (fun r8=>?_)|refine fun hh=>jv Q_ (bZ (B0:=B0) (preB0:=[]) (postB0:=[sF 1 o2.b_,.int .i64 (aC (o2.at_+1)),.bool o2.aU]) (TB0:=245) C_ Gq kq (aL (show ok (aF o2.Builder (ju (aC (16*vV)))) _ from hh) fun r15=>?_))|refine fun hh=>jv Q_ (gu (B0:=B0) (preB0:=[]) (postB0:=[sF 1 o2.b_,.int .i64 (aC (o2.at_+1)),.bool o2.aU]) (TB0:=245) C_ Gq kq (aL (show ok (bV r15.2) _ from hh) fun r16=>?_))|refine fun hh=>jv Q_ (gu (B0:=B0) (preB0:=[]) (postB0:=[sF 1 o2.b_,.int .i64 (aC (o2.at_+1)),.bool o2.aU]) (TB0:=245) C_ Gq kq (aL (show ok (bV o2.Builder) _ from hh) fun r17=>?_))|refine au (fun _(h:jX r6.1=some _)=>(iW sk h:)) (fun r18=>?_)|refine fun hh=>jv Q_ (bZ (B0:=B0) (preB0:=[]) (postB0:=[sF 1 o2.b_,.int .i64 (aC (o2.at_+1)),.bool o2.aU]) (TB0:=245) C_ Gq kq (aL (show ok (aF o2.Builder (ju (aC ((aC (16*vV))+r8)))) _ from hh) fun r19=>?_)))
  |((with_reducible refine eH (fun((Ie,o11):Int×aq)=>⟨[(0,.ref B0 0),(2,.loc [.int .i64 0,.int .i64 0,.str (aO.mk []).b,.sl true 4 0 []]),(4,.int .i64 Ie)],[],(s.set B0 (.cells (vu B0 o11)))⟩) (fun J=>?_) ?_);rotate_left;rintro⟨Ie,o11⟩)
  |((with_reducible refine yy (fun((vV,o2):Int×aq)=>⟨[(0,.ref B0 0),(2,.loc [.int .i64 0,.int .i64 0,.str (aO.mk []).b,.sl true 4 0 []]),(4,.int .i64 vV)],[],(s.set B0 (.cells (vu B0 o2)))⟩) ?_ ?_);(first|exact rfl|simp -implicitDefEqProofs only[go_sem,seval]);rintro J ⟨vV,o2⟩)
  |refine Xe2 ?_|exact Xf6)
def iB(s_0:aq):Option (aG×Int×aq):=
 aQ (bU s_0) fun r1=>
 if !r1.2 then
  aQ (cL s_0) fun r2=>
  some ((aG.mk 0 0 0 (aa.mk 0 0 (aO.mk []) ([]:List aa)) (aO.mk [])),r2,s_0)
 else
  if(r1.1.toNat:Int)==60 then
   some ((aG.mk 4 0 0 (aa.mk 0 0 (aO.mk []) ([]:List aa)) (aO.mk [])),0,(aq.mk s_0.Builder s_0.b_ (aC (s_0.at_+1)) s_0.aU))
  else
   aQ (gb s_0) fun r3=>
   some ((aG.mk 1 0 0 r3.1 (aO.mk [])),r3.2.1,r3.2.2)
def vH{s_0}{B0:Nat}{s:ae}{Q:List AV->ae->Prop}(hB0:s B0=some (.cells (vu B0 s_0))):ok (iB s_0) (fun r=>Q [.agg [.int .i64 r.1.Kind,.int .i64 r.1.aS,.int .i64 r.1.To,.int .i64 r.1.V.Kind,.int .i64 r.1.V.N,.str r.1.V.S.b,sF 4 r.1.V.L,.str r.1.S.b],.int .i64 r.2.1] (s.set B0 (.cells (vu B0 r.2.2))))->FN prog 201 [.ref B0 0] s Q:=by
 rw[<-bq hB0]
 refine FR 36 [⟨2,false,some (8,true)⟩,⟨3,true,none⟩] 0x149b1c16ce50c65be9c79b3b24e61f00f1bc24750ad44147b503d4a85a80b63f085914215ea481729b53e7e3567a78db63370e28cbfdd456964da2f47348c9eb1469fe68141b036bcb537ad2f7db37f93ccfa617f4a14391cce24e357086dfa9e387371fa68af88123da86394d37d82dbf456ff26ec1229620374271d74d02705ad01c4bff2991e06806b2d95b9b1ebfd079b028d3160ed431f1d3e44cdd9c6755eb4b81b7b2003defd1eb37e000000010a0f8b iB.eq_1 ?_
 repeat'(first
  |(with_reducible first|exact dm|refine b8 ?_ ?_|refine dv ?_|refine au (fun _(h:bU s_0=some _)=>ff (B0:=B0) C_ h) (fun r1=>?_)|refine au (fun _(h:cL s_0=some _)=>iA (B0:=B0) C_ h) (fun r2=>?_)|refine fun hh=>yA (B0:=B0) C_ (aL (show ok (gb s_0) _ from hh) fun r3=>?_))
  |refine Xe2 ?_|exact Xf6)
def iw(s_0:aq):Option (aG×Int×aq):=
 aQ (bU s_0) fun r1=>
 if(!r1.2)&&(!s_0.aU)then
  some ((aG.mk 0 0 0 (aa.mk 0 0 (aO.mk []) ([]:List aa)) (aO.mk [])),6,s_0)
 else
  if(!r1.2)||((r1.1.toNat:Int)!=62)then
   some ((aG.mk 0 0 0 (aa.mk 0 0 (aO.mk []) ([]:List aa)) (aO.mk [])),11,s_0)
  else
   some ((aG.mk 5 0 0 (aa.mk 0 0 (aO.mk []) ([]:List aa)) (aO.mk [])),0,(aq.mk s_0.Builder s_0.b_ (aC (s_0.at_+1)) s_0.aU))
def vG{s_0}{B0:Nat}{s:ae}{Q:List AV->ae->Prop}(hB0:s B0=some (.cells (vu B0 s_0))):ok (iw s_0) (fun r=>Q [.agg [.int .i64 r.1.Kind,.int .i64 r.1.aS,.int .i64 r.1.To,.int .i64 r.1.V.Kind,.int .i64 r.1.V.N,.str r.1.V.S.b,sF 4 r.1.V.L,.str r.1.S.b],.int .i64 r.2.1] (s.set B0 (.cells (vu B0 r.2.2))))->FN prog 202 [.ref B0 0] s Q:=by
 rw[<-bq hB0]
 refine FR 38 [⟨2,false,some (8,true)⟩,⟨3,true,none⟩] 0x61afcd709b7d7dae17988911332bb189f30b93300f12a690eb098b41f8c1e2c58e0a0d9b22fa06e143e2166367635e6b8cd070676c9e4d19971a93e35b55eef45915ce293ceb9fae36b7675d34b5d3341d5ead49c2297141c2b7497a4b3637dcc4ac272daec8ad0701f8fc373bfba6aa6e0f3e1c15c7c7d5bf8c1089f6320d463bae001fa648cd00345db6a8e820904bd431f1d19c6b00a7a755e07b95b7b2003defd1eb37e000000010a0f8b iw.eq_1 ?_
 repeat'(first
  |with_reducible refine au (fun _(h:bU s_0=some _)=>ff (B0:=B0) C_ h) (fun r1=>?_)
  |refine Xe2 ?_|exact Xf6)
def gh(s_0:aq)(c_1:UInt8):Option (Bool×aq):=
 yx (
  nE (
   iter (fun((n5,k6,o7):Int×Int×aq)=>
    if decide (k6<2)then
     aQ (bU o7) fun r12=>
     if !r12.2 then
      if o7.aU then
       aQ (aF o7.Builder (ju (n5))) fun r13=>
       some (.inr (.inr (o7.aU||false,(aq.mk r13.2 o7.b_ o7.at_ o7.aU))))
      else
       some (.inr (.inr (o7.aU||false,o7)))
     else
      if(decide ((r12.1.toNat:Int)<48))||(decide ((r12.1.toNat:Int)>55))then
       some (.inr (.inl (n5,o7)))
      else
       some (.inl (aC ((aC (8*n5))+(aC (((ju ((r12.1.toNat:Int) -48)).toNat:Int)))),aC (k6+1),(aq.mk o7.Builder o7.b_ (aC (o7.at_+1)) o7.aU)))
    else
     some (.inr (.inl (n5,o7)))) (aC (((ju ((c_1.toNat:Int) -48)).toNat:Int)),0,s_0)) (fun((n8,o9):Int×aq)=>
   some (.inl (n8,o9)))
  (fun((t10,o11):Bool×aq)=>some (.inr (t10,o11)))) (fun((n1,o2):Int×aq)=>
  aQ (aF o2.Builder (ju (n1))) fun r14=>
  some (true,(aq.mk r14.2 o2.b_ o2.at_ o2.aU)))
 (fun((t3,o4):Bool×aq)=>some (t3,o4))
def yB{s_0 c_1}{B0:Nat}{s:ae}{Q:List AV->ae->Prop}(hB0:s B0=some (.cells (vu B0 s_0))):ok (gh s_0 c_1) (fun r=>Q [.bool r.1] (s.set B0 (.cells (vu B0 r.2))))->FN prog 261 [.ref B0 0,.int .u8 c_1.toNat] s Q:=by
 rw[<-bq hB0]
 refine FR 62 [⟨4,true,none⟩] 0x4969ec937679dbde5275737bd4d7e3c761e891b760749036cdadbed1da7ee3299e546fd5f8db68d2b9d66e81abf4dc7cff3210543520fe688052a0689b92604cddc6022d3e979e131e5259a6f8418fa4205a07e3001639a07758088ebb32cbd94a4b8a22e8b924498710f050219d46a16d75d8eaee79d63db9c54b1096fe2bf78db5c5ce343d8dc9c7350a22bef501d1efa81b5013eddf23e257ac8f984acb27551fb1be258b1b700d83ced0265d5ebb8d8cf435f4ca6d736d3466c5e1b147dcad1db95911d653dfe4cd6a14335263d4cd5a9944e483fa gh.eq_1 ?_
 repeat'(first
  |((fail_if_success (have _x:=hgG1));(have _x:=o7.aU);clear _x;cases hgG1:o7.aU)
  |(with_reducible first|exact dm|refine b8 ?_ ?_|refine dv ?_|refine au (fun _(h:bU o7=some _)=>ff (B0:=B0) Xd2 h) (fun r12=>?_)|refine fun hh=>jv Q_ (bZ (B0:=B0) (preB0:=[]) (postB0:=[sF 1 o7.b_,.int .i64 o7.at_,.bool o7.aU]) (TB0:=245) Xd2 Gq kq (aL (show ok (aF o7.Builder (ju (n5))) _ from hh) fun r13=>?_))|refine fun hh=>jv Q_ (bZ (B0:=B0) (preB0:=[]) (postB0:=[sF 1 o2.b_,.int .i64 o2.at_,.bool o2.aU]) (TB0:=245) Xd2 Gq kq (aL (show ok (aF o2.Builder (ju (n1))) _ from hh) fun r14=>?_)))
  |((with_reducible refine cX (fun((n5,k6,o7):Int×Int×aq)=>⟨[(0,.ref B0 0),(5,.int .i64 n5),(6,.int .i64 k6)],[],(s.set B0 (.cells (vu B0 o7)))⟩) ?_ ?_);(first|exact rfl|simp -implicitDefEqProofs only[go_sem,seval]);rintro J ⟨n5,k6,o7⟩)
  |((with_reducible refine eH (fun((n1,o2):Int×aq)=>⟨[(0,.ref B0 0),(5,.int .i64 n1)],[],(s.set B0 (.cells (vu B0 o2)))⟩) (fun J=>?_) ?_);rotate_left;rintro⟨n1,o2⟩)
  |simp -implicitDefEqProofs only[go_sem,seval,hgG1,Bool.false_eq_true,if_false,if_true,Bool.true_eq_false,false_implies,true_implies,true_and,and_true]
  |refine Xe2 ?_|exact Xf6)
def dD(s_0:aq)(c_1:UInt8):Option (Bool×aq):=
 if(c_1.toNat:Int)!=13 then
  some (true,s_0)
 else
  aQ (bU s_0) fun r1=>
  jn (
   if r1.2&&((r1.1.toNat:Int)==10)then
    some (aq.mk s_0.Builder s_0.b_ (aC (s_0.at_+1)) s_0.aU)
   else
    some s_0) fun(o3:aq)=>
  some (r1.2||o3.aU,o3)
def qZ{s_0 c_1}{B0:Nat}{s:ae}{Q:List AV->ae->Prop}(hB0:s B0=some (.cells (vu B0 s_0))):ok (dD s_0 c_1) (fun r=>Q [.bool r.1] (s.set B0 (.cells (vu B0 r.2))))->FN prog 231 [.ref B0 0,.int .u8 c_1.toNat] s Q:=by
 rw[<-bq hB0]
 refine FR 33 [⟨4,true,none⟩] 0x21deed279f7756ce6d780de956c393e590339e5ba27a8b0e975f0533c77bc59e721590404acaf8f001c390691f78e5cb829b6981194ef3b9f6a4fc7fc34ddd0fa7ccd5ee16ef815414bf847d987fa32c9b68a425d31d0fc8f2352d069ca144e483fa dD.eq_1 ?_
 repeat'(first
  |(with_reducible first|exact dm|refine b8 ?_ ?_|refine dv ?_|refine au (fun _(h:bU s_0=some _)=>ff (B0:=B0) C_ h) (fun r1=>?_))
  |((with_reducible refine dZ (fun(o3:aq)=>⟨[(0,.ref B0 0),(6,.bool r1.2)],[],(s.set B0 (.cells (vu B0 o3)))⟩) (fun J=>?_) ?_);rotate_left;rintro o3)
  |refine Xe2 ?_|exact Xf6)
def dy(s_0:aq):Option (Bool×aq):=
 aQ (bU s_0) fun r1=>
 if !r1.2 then
  some (false,s_0)
 else
  aQ (ed (aO.mk [110,114,116,98,102]) r1.1) fun r2=>
  if decide (r2>=0)then
   a8 (0<=r2/\r2<(aO.mk [10,13,9,8,12]).b.length)<|
   aQ (aF s_0.Builder (ix (aO.mk [10,13,9,8,12]).b r2)) fun r3=>
   some (true,(aq.mk r3.2 s_0.b_ (aC (s_0.at_+1)) s_0.aU))
  else
   if(decide ((r1.1.toNat:Int)>=48))&&(decide ((r1.1.toNat:Int)<=55))then
    aQ (gh (aq.mk s_0.Builder s_0.b_ (aC (s_0.at_+1)) s_0.aU) r1.1) fun r4=>
    some (r4.1,r4.2)
   else
    if((r1.1.toNat:Int)==10)||((r1.1.toNat:Int)==13)then
     aQ (dD (aq.mk s_0.Builder s_0.b_ (aC (s_0.at_+1)) s_0.aU) r1.1) fun r5=>
     some (r5.1,r5.2)
    else
     aQ (aF s_0.Builder r1.1) fun r6=>
     some (true,(aq.mk r6.2 s_0.b_ (aC (s_0.at_+1)) s_0.aU))
def xf{s_0}{B0:Nat}{s:ae}{Q:List AV->ae->Prop}(hB0:s B0=some (.cells (vu B0 s_0))):ok (dy s_0) (fun r=>Q [.bool r.1] (s.set B0 (.cells (vu B0 r.2))))->FN prog 230 [.ref B0 0] s Q:=by
 rw[<-bq hB0]
 refine FR 55 [⟨2,true,none⟩] 0x96df6fd2fd0113a07c1b90e0135107dc21e34e05d1212def5711ae2205f65f4cab40831ae71c3b137fd98650ca5e7f453ad4a4703c6c698690ed53ef1dbb05437500daba905dc4687434589afa3d21c2a60ec65774b8bb2d047f25da7f7dc1b7041fdf78a0a78d3dafec6fc87beb8e8b549d3ac1d5cdd971b452a5337ae8db84a784e16df54108eee5c87dfc73ff0f10d90a694724a5f0bf5584766c4efad69c865642a7a3788d3f1a4b04258f84630488cd3621ea472d8c1b33494d36687fee0bf841af23966cd08eab8a34641614c04824473a dy.eq_1 ?_
 repeat'(first
  |(with_reducible first|exact dm|refine b8 ?_ ?_|refine dv ?_|refine au (fun _(h:bU s_0=some _)=>ff (B0:=B0) C_ h) (fun r1=>?_)|refine au (fun _(h:ed (aO.mk [110,114,116,98,102]) r1.1=some _)=>(iW mZ h:)) (fun r2=>?_)|refine fun hh=>jv Q_ (bZ (B0:=B0) (preB0:=[]) (postB0:=[sF 1 s_0.b_,.int .i64 (aC (s_0.at_+1)),.bool s_0.aU]) (TB0:=245) C_ Gq kq (aL (show ok (aF s_0.Builder (ix (aO.mk [10,13,9,8,12]).b r2)) _ from hh) fun r3=>?_))|refine fun hh=>yB (B0:=B0) C_ (aL (show ok (gh (aq.mk s_0.Builder s_0.b_ (aC (s_0.at_+1)) s_0.aU) r1.1) _ from hh) fun r4=>?_)|refine fun hh=>qZ (B0:=B0) C_ (aL (show ok (dD (aq.mk s_0.Builder s_0.b_ (aC (s_0.at_+1)) s_0.aU) r1.1) _ from hh) fun r5=>?_)|refine fun hh=>jv Q_ (bZ (B0:=B0) (preB0:=[]) (postB0:=[sF 1 s_0.b_,.int .i64 (aC (s_0.at_+1)),.bool s_0.aU]) (TB0:=245) C_ Gq kq (aL (show ok (aF s_0.Builder r1.1) _ from hh) fun r6=>?_)))
  |refine Xe2 ?_|exact Xf6)
def gT(s_0:aq):Option (aa×Int×aq):=
 iter (fun((AE,o2):Int×aq)=>
  aQ (bU o2) fun r6=>
  if !r6.2 then
   aQ (cL o2) fun r7=>
   some (.inr ((aa.mk 0 0 (aO.mk []) ([]:List aa)),r7,o2))
  else
   yx (
    if(r6.1.toNat:Int)==92 then
     aQ (dy (aq.mk o2.Builder o2.b_ (aC (o2.at_+1)) o2.aU)) fun r18=>
     if !r18.1 then
      aQ (cL r18.2) fun r19=>
      some (.inr (.inr (r19,r18.2)))
     else
      some (.inr (.inl r18.2))
    else
     if(r6.1.toNat:Int)==13 then
      aQ (dD (aq.mk o2.Builder o2.b_ (aC (o2.at_+1)) o2.aU) r6.1) fun r20=>
      if !r20.1 then
       aQ (cL r20.2) fun r21=>
       some (.inr (.inr (r21,r20.2)))
      else
       some (.inl (AE,10,r20.2))
     else
      if(r6.1.toNat:Int)==40 then
       some (.inl (aC (AE+1),r6.1,(aq.mk o2.Builder o2.b_ (aC (o2.at_+1)) o2.aU)))
      else
       if(r6.1.toNat:Int)==41 then
        some (.inl (aC (AE -1),r6.1,(aq.mk o2.Builder o2.b_ (aC (o2.at_+1)) o2.aU)))
       else
        some (.inl (AE,r6.1,(aq.mk o2.Builder o2.b_ (aC (o2.at_+1)) o2.aU)))) (fun((Kj,c10,o11):Int×UInt8×aq)=>
    if Kj==0 then
     aQ (bV o11.Builder) fun r22=>
     some (.inr ((aa.mk 4 0 r22.1 ([]:List aa)),(0:Int),(aq.mk r22.2 o11.b_ o11.at_ o11.aU)))
    else
     aQ (aF o11.Builder c10) fun r23=>
     some (.inl (Kj,(aq.mk r23.2 o11.b_ o11.at_ o11.aU))))
   (eY (fun(o14:aq)=>some (.inl (AE,o14))) (fun((t16,o17):Int×aq)=>some (.inr ((aa.mk 0 0 (aO.mk []) ([]:List aa)),t16,o17))))) (1,s_0)
def zQ{s_0}{B0:Nat}{s:ae}{Q:List AV->ae->Prop}(hB0:s B0=some (.cells (vu B0 s_0))):ok (gT s_0) (fun r=>Q [.agg (MB r.1),.int .i64 r.2.1] (s.set B0 (.cells (vu B0 r.2.2))))->FN prog 203 [.ref B0 0] s Q:=by
 rw[<-bq hB0]
 refine FR 62 [⟨2,false,some (4,true)⟩,⟨3,true,none⟩] 0xa86295d111aed52c51cbbdd5d7a89babba97561b89d3b93852e77d04ee586a04ff645f38a1c423305659d5cd8af9c3920f67296bdb9523ea829b48aec3bad8d3591a3238d109951137a17b063b8dda8057379a7a3467a1e85086bacc6e781c169c32c8d9744e56a8fad5edf718b457b5d5fe8172df86041f25c7e3a092675a79bf27ae9d9c7ddcc9dc7a5de38acb432cef4d1ac5f8dc9411b8d09a9def1ed4fbfcda09f7c2762c1663fb0995e68c8f2fc11a4e6057fec6fec7520a0e56e2b857d9633380b2e4de401bdbf14d527484e7c3e88607581ffd783d6ab6f306dd5004a9ba3229e2f1d2c9657dd281caba8d3a46165d838773744c25d0f3ed7672bc7bf3cd473411fae56e50e4806e3af034bd13a3e0ab9c9deea6466823fccc28a6ba1f996e86ce4a7ad3a3eeb490e98ff8659847d291e84938bac7b2003cd1eb37e00908f8b gT.eq_1 ?_
 repeat'(first
  |(with_reducible first|exact dm|refine b8 ?_ ?_|refine dv ?_|refine au (fun _(h:bU o2=some _)=>ff (B0:=B0) C_ h) (fun r6=>?_)|refine au (fun _(h:cL o2=some _)=>iA (B0:=B0) C_ h) (fun r7=>?_)|refine fun hh=>xf (B0:=B0) C_ (aL (show ok (dy (aq.mk o2.Builder o2.b_ (aC (o2.at_+1)) o2.aU)) _ from hh) fun r18=>?_)|refine au (fun _(h:cL r18.2=some _)=>iA (B0:=B0) C_ h) (fun r19=>?_)|refine fun hh=>qZ (B0:=B0) C_ (aL (show ok (dD (aq.mk o2.Builder o2.b_ (aC (o2.at_+1)) o2.aU) r6.1) _ from hh) fun r20=>?_)|refine au (fun _(h:cL r20.2=some _)=>iA (B0:=B0) C_ h) (fun r21=>?_)|refine fun hh=>jv Q_ (gu (B0:=B0) (preB0:=[]) (postB0:=[sF 1 o11.b_,.int .i64 o11.at_,.bool o11.aU]) (TB0:=245) C_ Gq kq (aL (show ok (bV o11.Builder) _ from hh) fun r22=>?_))|refine fun hh=>jv Q_ (bZ (B0:=B0) (preB0:=[]) (postB0:=[sF 1 o11.b_,.int .i64 o11.at_,.bool o11.aU]) (TB0:=245) C_ Gq kq (aL (show ok (aF o11.Builder c10) _ from hh) fun r23=>?_)))
  |((with_reducible refine eH (fun((Kj,c10,o11):Int×UInt8×aq)=>⟨[(0,.ref B0 0),(2,.loc [.int .i64 0,.int .i64 0,.str (aO.mk []).b,.sl true 4 0 []]),(4,.int .i64 Kj),(5,.int .u8 c10.toNat)],[],(s.set B0 (.cells (vu B0 o11)))⟩) (fun J=>?_) ?_);rotate_left;rintro⟨Kj,c10,o11⟩)
  |((with_reducible refine yy (fun((AE,o2):Int×aq)=>⟨[(0,.ref B0 0),(2,.loc [.int .i64 0,.int .i64 0,.str (aO.mk []).b,.sl true 4 0 []]),(4,.int .i64 AE)],[],(s.set B0 (.cells (vu B0 o2)))⟩) ?_ ?_);(first|exact rfl|simp -implicitDefEqProofs only[go_sem,seval]);rintro J ⟨AE,o2⟩)
  |refine Xe2 ?_|exact Xf6)
def oS(w_0:aO):Option (aa×Int):=
 yx (
  nE (
   iter (fun((NH,i6):(List UInt8)×Int)=>
    if decide (i6<(w_0.b.length:Int))then
     a8 (0<=i6/\i6<w_0.b.length)<|
     yx (
      if((ix w_0.b i6).toNat:Int)==35 then
       a8 ((!(decide (aC (i6+2)>=(w_0.b.length:Int))))=true->0<=aC (i6+1)/\aC (i6+1)<w_0.b.length)<|
       aQ (jA (!(decide (aC (i6+2)>=(w_0.b.length:Int)))) 0 (jy (ix w_0.b (aC (i6+1))))) fun r18=>
       a8 ((!((decide (aC (i6+2)>=(w_0.b.length:Int)))||(decide (r18<0))))=true->0<=aC (i6+2)/\aC (i6+2)<w_0.b.length)<|
       aQ (jA (!((decide (aC (i6+2)>=(w_0.b.length:Int)))||(decide (r18<0)))) 0 (jy (ix w_0.b (aC (i6+2))))) fun r19=>
       if((decide (aC (i6+2)>=(w_0.b.length:Int)))||(decide (r18<0)))||(decide (r19<0))then
        some (.inr (17:Int))
       else
        a8 (0<=aC (i6+1)/\aC (i6+1)<w_0.b.length)<|
        aQ (jy (ix w_0.b (aC (i6+1)))) fun r20=>
        a8 (0<=aC (i6+2)/\aC (i6+2)<w_0.b.length)<|
        aQ (jy (ix w_0.b (aC (i6+2)))) fun r21=>
        some (.inl (aC (i6+2),ju (aC ((aC (16*r20))+r21))))
      else
       some (.inl (i6,ix w_0.b i6))) (fun((i14,c15):Int×UInt8)=>
      a8 ((NH.length+[c15].length)*1<=room)<|
      some (.inl (NH++[c15],aC (i14+1))))
     (fun(t17:Int)=>some (.inr (.inr t17)))
    else
     some (.inr (.inl NH))) (([]:List UInt8),0)) (fun(acs:(List UInt8))=>
   some (.inl acs))
  (fun(t10:Int)=>some (.inr t10))) (fun(yQ:(List UInt8))=>
  aQ (jA (!(decide ((yQ.length:Int)>127))) 0 (fE yQ 0)) fun r22=>
  if(decide ((yQ.length:Int)>127))||(decide (r22>=0))then
   some ((aa.mk 0 0 (aO.mk []) ([]:List aa)),17)
  else
   some ((aa.mk 5 0 (aO.mk yQ) ([]:List aa)),0))
 (fun(t4:Int)=>some ((aa.mk 0 0 (aO.mk []) ([]:List aa)),t4))
def Lg{w_0}:FF 205 [.str w_0.b] (oS w_0) fun r=>[.agg (MB r.1),.int .i64 r.2]:=by
 intro s Q
 refine FR 71 [⟨2,false,some (4,true)⟩,⟨3,true,none⟩] 0x5ac6c236011ef576bfcd7a7a984053c4d092a354e13a3349e05bde66f6fe7056c6c9f252025b7c80673e8d7163505ff6840c4a5ea241377b623045dfafad3306a2f321c687e2db87297321384213267ba0afd38d8ed4ca22425ce15c47f9dfc116be1e3b0e25a97a5bde4c345958a39fda2f9f11be561e69a27a7cc89ebd786e2aeac791340d4c046403ff8f1cc3574b8794c2642d751e60e59b0004b0bf3be978b2acd79c046b583eb093bd6dce643d28d26c926660d3b5e797d30d116b2aae2ad7e08a5489cff8eb7a481236a260e016985d8489c5997a2448dafa0d15f0d20010eb4dcdada9a7ddbcff2a5fae9ac8074e65505e07949fa78ae05001bc9d1d422a8ea4d0e33646fc1e0ecefc932439d03d5a86dd2f39ca3b99bf3dbad4836491a0cee9781fe17c996ecda9ae9391db032a1357b2003cd1eb37e00908f8b oS.eq_1 ?_
 repeat'(first
  |(with_reducible first|exact dm|refine b8 ?_ ?_|refine dv ?_)
  |((fail_if_success (have _x:=r18));with_reducible refine jo rfl (fun _(h:jy (ix w_0.b (aC (i6+1)))=some _)=>(iW oR h:)) (fun _=>rfl) (fun r18=>?_))
  |((fail_if_success (have _x:=r19));with_reducible refine jo rfl (fun _(h:jy (ix w_0.b (aC (i6+2)))=some _)=>(iW oR h:)) (fun _=>rfl) (fun r19=>?_))
  |((fail_if_success (have _x:=r20));with_reducible refine c9 (fun _(h:jy (ix w_0.b (aC (i6+1)))=some _)=>(iW oR h:)) (fun _=>rfl) (fun r20=>?_))
  |((fail_if_success (have _x:=r21));with_reducible refine c9 (fun _(h:jy (ix w_0.b (aC (i6+2)))=some _)=>(iW oR h:)) (fun _=>rfl) (fun r21=>?_))
  |with_reducible refine jo rfl (fun _(h:fE yQ 0=some _)=>(by refine pB ?_ ((iW wO h:));simp -implicitDefEqProofs only[go_sem,seval])) (fun _=>rfl) (fun r22=>?_)
  |((with_reducible refine eH (live:=[(0,false),(2,false),(4,false),(5,false),(6,false)]) (fun((i14,c15):Int×UInt8)=>⟨[(0,.str w_0.b),(2,.loc [.int .i64 0,.int .i64 0,.str (aO.mk []).b,.sl true 4 0 []]),(4,sT 1 NH),(5,.int .i64 i14),(6,.int .u8 c15.toNat)],[],s⟩) (fun J=>?_) ?_);rotate_left;rintro⟨i14,c15⟩)
  |((with_reducible refine cX (fun((NH,i6):(List UInt8)×Int)=>⟨[(0,.str w_0.b),(2,.loc [.int .i64 0,.int .i64 0,.str (aO.mk []).b,.sl true 4 0 []]),(4,sT 1 NH),(5,.int .i64 i6)],[],s⟩) ?_ ?_);(first|exact rfl|simp -implicitDefEqProofs only[go_sem,seval]);rintro J ⟨NH,i6⟩)
  |((with_reducible refine eH (live:=[(2,false),(4,false)]) (fun(yQ:(List UInt8))=>⟨[(2,.loc [.int .i64 0,.int .i64 0,.str (aO.mk []).b,.sl true 4 0 []]),(4,sT 1 yQ)],[],s⟩) (fun J=>?_) ?_);rotate_left;rintro yQ)
  |refine Xe2 ?_|exact Xf6)
def iC(s_0:aq)(c_1:UInt8):Option (aG×Int×aq):=
 aQ (gJ c_1) fun r1=>
 if r1 then
  aQ (gK s_0) fun r2=>
  some (r2.1,r2.2.1,r2.2.2)
 else
  if(c_1.toNat:Int)==91 then
   some ((aG.mk 2 0 0 (aa.mk 0 0 (aO.mk []) ([]:List aa)) (aO.mk [])),0,(aq.mk s_0.Builder s_0.b_ (aC (s_0.at_+1)) s_0.aU))
  else
   if(c_1.toNat:Int)==93 then
    some ((aG.mk 3 0 0 (aa.mk 0 0 (aO.mk []) ([]:List aa)) (aO.mk [])),0,(aq.mk s_0.Builder s_0.b_ (aC (s_0.at_+1)) s_0.aU))
   else
    if(c_1.toNat:Int)==60 then
     aQ (iB (aq.mk s_0.Builder s_0.b_ (aC (s_0.at_+1)) s_0.aU)) fun r3=>
     some (r3.1,r3.2.1,r3.2.2)
    else
     if(c_1.toNat:Int)==62 then
      aQ (iw (aq.mk s_0.Builder s_0.b_ (aC (s_0.at_+1)) s_0.aU)) fun r4=>
      some (r4.1,r4.2.1,r4.2.2)
     else
      if(c_1.toNat:Int)==40 then
       aQ (gT (aq.mk s_0.Builder s_0.b_ (aC (s_0.at_+1)) s_0.aU)) fun r5=>
       some ((aG.mk 1 0 0 r5.1 (aO.mk [])),r5.2.1,r5.2.2)
      else
       if(c_1.toNat:Int)==47 then
        aQ (gU (aq.mk s_0.Builder s_0.b_ (aC (s_0.at_+1)) s_0.aU)) fun r6=>
        if !r6.2.1 then
         some ((aG.mk 0 0 0 (aa.mk 0 0 (aO.mk []) ([]:List aa)) (aO.mk [])),6,r6.2.2)
        else
         aQ (oS r6.1) fun r7=>
         some ((aG.mk 1 0 0 r7.1 (aO.mk [])),r7.2,r6.2.2)
       else
        some ((aG.mk 0 0 0 (aa.mk 0 0 (aO.mk []) ([]:List aa)) (aO.mk [])),11,(aq.mk s_0.Builder s_0.b_ (aC (s_0.at_+1)) s_0.aU))
def yC{s_0 c_1}{B0:Nat}{s:ae}{Q:List AV->ae->Prop}(hB0:s B0=some (.cells (vu B0 s_0))):ok (iC s_0 c_1) (fun r=>Q [.agg [.int .i64 r.1.Kind,.int .i64 r.1.aS,.int .i64 r.1.To,.int .i64 r.1.V.Kind,.int .i64 r.1.V.N,.str r.1.V.S.b,sF 4 r.1.V.L,.str r.1.S.b],.int .i64 r.2.1] (s.set B0 (.cells (vu B0 r.2.2))))->FN prog 168 [.ref B0 0,.int .u8 c_1.toNat] s Q:=by
 rw[<-bq hB0]
 refine FR 73 [⟨4,false,some (8,true)⟩,⟨5,true,none⟩] 0x1243d8b62dc1abcd8b6a9745045c9d8cd97f394e15fada8ad90eb47261b85f604d8dd84c0b4ecb6aba191bca0e3f013c04db2d8e20e80a5a1d4eceff1a0445608f05f39802e28116f331a700c0d0c06accd3a0d5eb6b6b7d9edbfbeb5e051e65c5282721f7e0d73e416f7959bd39c72455832e2bc8b59f5f944dd952f529f492ef8c388b8d86a9615a0688e62a35d300edb462b5f67aa2c8cdf4ee8e9ceed28b5ca31f9e65a2bb5ff831120cb7bc2ce5cabdd0945d845274d0edad94a94896c18bddcc5364deeab32b08d101ef7038a45d00f389c23b3bd595e9a48e37ae44ce07cbd179a4d8a75df27c524dc0866a0306e25e72a6d56029cfe68e123c2a6858d77bd4272c9bada1dafc3a4bde02f1f9d28cd4d72df758f15697404e89981b7b5aa987cdd04a9f5d7a1b92f9982bf51f99034b7b3e0bd71fa411e4e1e17600d86fda3b51155998eb04a6291c8ebf23ea0d2540b8c77284423bb310b9c065580d6f1402a1c60bbc52cd4a71d17382784d033e786a4e8180d6a797394292ffa05ac6213724fac1122fecbe395234bf7e101882e7fb06f382a3aefbdb72bc0bfe65d44619b6918b003defd1eb37e000000010a4c4b iC.eq_1 ?_
 repeat'(first
  |(with_reducible first|exact dm|refine b8 ?_ ?_|refine dv ?_|refine au (fun _(h:gJ c_1=some _)=>(iW tZ h:)) (fun r1=>?_)|refine fun hh=>ua (B0:=B0) C_ (aL (show ok (gK s_0) _ from hh) fun r2=>?_)|refine fun hh=>vH (B0:=B0) C_ (aL (show ok (iB (aq.mk s_0.Builder s_0.b_ (aC (s_0.at_+1)) s_0.aU)) _ from hh) fun r3=>?_)|refine fun hh=>vG (B0:=B0) C_ (aL (show ok (iw (aq.mk s_0.Builder s_0.b_ (aC (s_0.at_+1)) s_0.aU)) _ from hh) fun r4=>?_)|refine fun hh=>zQ (B0:=B0) C_ (aL (show ok (gT (aq.mk s_0.Builder s_0.b_ (aC (s_0.at_+1)) s_0.aU)) _ from hh) fun r5=>?_)|refine fun hh=>q9 (B0:=B0) C_ (aL (show ok (gU (aq.mk s_0.Builder s_0.b_ (aC (s_0.at_+1)) s_0.aU)) _ from hh) fun r6=>?_)|refine au (fun _(h:oS r6.1=some _)=>(iW Lg h:)) (fun r7=>?_))
  |refine Xe2 ?_|exact Xf6)
def eI(b_0:(List UInt8))(fL:Int)(cQ:Bool):Option (aG×Int):=
 if(decide (fL<0))||(decide (fL>(b_0.length:Int)))then
  some ((aG.mk 0 0 0 (aa.mk 0 0 (aO.mk []) ([]:List aa)) (aO.mk [])),2)
 else
  aQ (qY b_0 fL) fun r1=>
  if r1==(b_0.length:Int)then
   if cQ then
    some ((aG.mk 0 r1 r1 (aa.mk 0 0 (aO.mk []) ([]:List aa)) (aO.mk [])),0)
   else
    some ((aG.mk 0 r1 r1 (aa.mk 0 0 (aO.mk []) ([]:List aa)) (aO.mk [])),6)
  else
   a8 (0<=r1/\r1<b_0.length)<|
   aQ (iC (aq.mk Ba.zero b_0 r1 cQ) (ix b_0 r1)) fun r2=>
   if r2.2.1 !=0 then
    some ((aG.mk 0 r1 r1 (aa.mk 0 0 (aO.mk []) ([]:List aa)) (aO.mk [])),r2.2.1)
   else
    some ((aG.mk r2.1.Kind r1 r2.2.2.at_ r2.1.V r2.1.S),0)
set_option maxHeartbeats 8000000 in
def k9{b_0 fL cQ}:FF 132 [sF 1 b_0,.int .i64 fL,.bool cQ] (eI b_0 fL cQ) fun r=>[.agg [.int .i64 r.1.Kind,.int .i64 r.1.aS,.int .i64 r.1.To,.int .i64 r.1.V.Kind,.int .i64 r.1.V.N,.str r.1.V.S.b,sF 4 r.1.V.L,.str r.1.S.b],.int .i64 r.2]:=by
 intro s Q
 intro h
 refine FN.forget ?_
 refine FP 63 [⟨6,false,some (8,true)⟩,⟨7,true,none⟩] (dec 0x698cf77fa6bc81548657e9f5227c872cdfa39fc948acdb5bf902f264aead947127b182fe00832022dd4b7447a1755568ed16f66d2b295e031ad94b6a2ab6352a1d7f35c7a1a9430335a1c38415201f59d268df9ba32f1f52b71a94f1ffe67dc850d597ea8466b2bc0724d84b6d6437a13eeb4febdce92763dfa201f193060f4b4e694d3bb92a1ba04bc5d9d9e4c925eff08cf3dffed94534675ff49ea5d12501e8b3b6fa50069f7364004246fd8ae1c11c445ccf8ddf316c991710338c0a10f718dfa3a88422fe9de9904a769c7982830dce87a668ecb7dd7063dae4ccc96bc568ee7e2f8777fe20cbb610bf9cfc7ede7cc5736ca7c217a49a5c2ce10f7e42c639f2c99de4b4b640c0528f8fd33db6065107c3d791b53aa0aad0b0dc4b624af472fa048ef47ca40b359ce5148188418a47464003defd1eb37e000000010a890b) B_ rfl ?_
 revert h
 rw[eI]
 refine Xf7 ?_
 repeat'(first
  |(with_reducible first|exact dm|refine b8 ?_ ?_|refine dv ?_)
  |((with_reducible apply akP);(·intro Q' hQ;repeat'(first|exact hQ|(simp only[cS,cj,bK,ch,vN,xA,Bool.not_true,Bool.not_false,Bool.or_true,Bool.true_or,Bool.false_or,Bool.or_false,Bool.and_true,Bool.true_and,Bool.and_false,Bool.false_and,cond_true,cond_false,true_and,and_true];done)|with_reducible refine⟨?_,?_⟩|with_reducible exact trivial|simp only[cS,cj,bK,ch,vN,xA,Bool.not_true,Bool.not_false,Bool.or_true,Bool.true_or,Bool.false_or,Bool.or_false,Bool.and_true,Bool.true_and,Bool.and_false,Bool.false_and,cond_true,cond_false,true_and,and_true]|simp -implicitDefEqProofs only[go_sem,seval])))
  |(with_reducible first|refine au (fun _(h:qY b_0 fL=some _)=>(iW Ld h:)) (fun r1=>?_)|refine fun hh=>yC (B0:=N1) C_ (aL (show ok (iC (aq.mk Ba.zero b_0 r1 cQ) (ix b_0 r1)) _ from hh) fun r2=>?_))
  |((fail_if_success (have _x:=sN1));with_reducible intro hh N1 hN1;(try simp only[fB]at hN1);have sN1:=hN1;revert hh)
  |(with_reducible first|exact fun hh=>⟨_,wG.set (wG.refl _) Xa6,hh⟩|exact fun hh=>⟨_,wG.refl _,hh⟩)
  |refine Xe2 ?_|exact Xf6)
@[go_sem]abbrev oV(v:aa):AV:=.agg [.int .i64 v.Kind,.int .i64 v.N,.str v.S.b,sF 4 v.L]
end Go.AB
end
section
set_option maxRecDepth 4000
namespace Go.AB
open Go
open Go.Proofs.Tryz (prog)
end Go.AB
end
section
set_option maxRecDepth 16000
namespace Go.AB
open Go
open Go.Proofs.Tryz (prog)
attribute[-go_sem] cj cS bK ch
@[go_sem]theorem Uz(l:List aa):pad [.int .i64 0,.int .i64 0,.str [],.sl false 4 0 []] (views (AB.sub (flat l) 0 4))=[.int .i64 ((ix l 0).Kind),.int .i64 ((ix l 0).N),.str ((ix l 0).S).b,.sl false 4 ((ix l 0).L).length (flat ((ix l 0).L))]:=EV l 0
def fG(x_0:aO):Option (Bool):=some (!(x_0.b==x_0.b))
def oD{x_0}:FF 278 [.str x_0.b] (fG x_0) fun r=>[.bool r]:=by
 intro s Q
 exact FC 6 [⟨2,true,none⟩] 0xa1c396387ce7f58100d920824473a fG.eq_1
def gD(x_0:aO)(y_1:aO):Option (Int):=
 aQ (fG x_0) fun r1=>
 aQ (fG y_1) fun r2=>
 if r1 then
  if r2 then
   some 0
  else
   some (-1)
 else
  if r2 then
   some 1
  else
   if Op.bytesLess x_0.b y_1.b then
    some (-1)
   else
    if !((Op.bytesLess x_0.b y_1.b)||(x_0.b==y_1.b))then
     some 1
    else
     some 0
def tB{x_0 y_1}:FF 251 [.str x_0.b,.str y_1.b] (gD x_0 y_1) fun r=>[.int .i64 r]:=by
 intro s Q
 refine FR 20 [⟨4,true,none⟩] 0x77a655631f5dd007c75a30eb93b9ca53d795df717bd0288dc7a31dc467332a089a32fd50510ca3614e8f5f3aa60b97ba8a7ac8e50adc412df602ac320dfe0bca690463c48f2ce6a5c751af3ec7191f72cef8a47f1a53200d4eb3ed07eccb2efe10ae7e0d3980083fa gD.eq_1 ?_
 repeat'(first
  |(with_reducible first|refine au (fun _(h:fG x_0=some _)=>(iW oD h:)) (fun r1=>?_)|refine au (fun _(h:fG y_1=some _)=>(iW oD h:)) (fun r2=>?_))
  |refine Xe2 ?_|exact Xf6)
def js(a_0:(List aa))(b_1:(List aa)):Option (Int):=
 a8 (0<=(0:Int)/\(0:Int)<a_0.length)<|
 a8 (0<=(0:Int)/\(0:Int)<b_1.length)<|
 aQ (gD ((ix a_0 0).S) ((ix b_1 0).S)) fun r1=>
 some r1
def z8{a_0 b_1}:FF 250 [.sl false 4 a_0.length (flat a_0),.sl false 4 b_1.length (flat b_1)] (js a_0 b_1) fun r=>[.int .i64 r]:=by
 intro s Q
 refine FR 14 [⟨4,true,none⟩] 0x8ce5a42a08a37c9988da8fb432cb7321239d7ac772d8dddd9f50443bbb49921c4e869620ad93980083fa js.eq_1 ?_
 repeat'(first
  |(with_reducible first|exact dm|refine b8 ?_ ?_|refine c9 (fun _(h:gD ((ix a_0 0).S) ((ix b_1 0).S)=some _)=>(iW tB h:)) (fun _=>rfl) (fun r1=>?_))
  |refine Xe2 ?_|exact Xf6)
def z7{a_0 b_1}{s:ae}{r:Int}(h:js a_0 b_1=some r):FE prog 250 [.sl false 4 a_0.length (flat a_0),.sl false 4 b_1.length (flat b_1)] s [.int .i64 r] s:=z8 ⟨r,h,rfl,rfl⟩
end Go.AB
end
section
set_option maxRecDepth 4000
namespace Go.AB
open Go
open Go.Proofs.Tryz (prog)
abbrev VL:=List aa
def Dp(x y:VL):Bool:=Op.bytesLess (ix x 0).S.b (ix y 0).S.b
def IA:TP Dp:=⟨fun _ _=>rS.V9 _ _,fun _ _ _=>rS.tr _ _ _⟩
def Ew(l:List UInt8):Op.bytesLess l l=false:=by
 cases e:Op.bytesLess l l with
 |false=>rfl
 |true=>rw[<-e];exact rS.V9 l l e
def aje{x y:VL}(hx:0<x.length)(hy:0<y.length):∃c,js x y=some c/\decide (c<0)=Dp x y:=by
 unfold js gD fG Dp
 have e1:∀z:aO,(!(z.b==z.b))=false:=fun z=>by rw[beq_self_eq_true];rfl
 rw[bk AT,bk AT,e1,e1,aN,aN,if_neg By,if_neg By]
 cases h:Op.bytesLess (ix x 0).S.b (ix y 0).S.b with
 |true=>exact⟨-1,rfl,rfl⟩
 |false=>
  rw[if_neg By,Bool.false_or]
  cases h2:(ix x 0).S.b==(ix y 0).S.b with
  |true=>exact⟨0,rfl,rfl⟩
  |false=>exact⟨1,rfl,rfl⟩
def sgR:SG (VL)where
 lt:=Dp
 tp:=IA
 Bf:=fun x y=>0<x.length/\0<y.length
 cm:=js
 cv:=fun h=>aje h.2 h.1
 z:=.sl false 4 0 []
 fc:=250
 cl:=[]
 w1:=rfl
 en:=fun _=>⟨rfl,fun _=>rfl,rfl,rfl,rfl,fun _ d=>IF,rfl,rfl,rfl,fun _=>rfl,rfl,rfl⟩
 ok:=B_
 fi:=293
 fw:=306
 fr:=300
 fy:=294
 fs:=277
 fo:=249
 hi:=B_
 hw:=B_
 hr:=B_
 hy:=B_
 hs:=B_
 ho:=B_
def Q4(l:List VL)(sp:List AV){j:Int}(h0:0<=j)(h:j<l.length):j.toNat*1+1<=(flat l++sp).length/\views (AB.sub (flat l++sp) (j.toNat*1) 1)=[.sl false 4 (ix l j).length (flat (ix l j))]:=ll sgR l sp h0 h
def Ve{s:ae}{rb cap:Nat}{sp:List AV}{l:List VL}{Q:List AV->ae->Prop}(hl:(l.length:Int)<2^46)(hz:∀z∈l,0<z.length)
 (hq:∀Z,Z.Perm l->jT Dp Z->Q [] (s.set rb (.cells (flat Z++sp)))):FN prog 249 [.arr rb 0 l.length cap,.fn 250 [] []] (s.set rb (.cells (flat l++sp))) Q:=
 Hf (I:=sgR) (fun hc=>z7 hc) hl ((List.pairwise_of_forall (R:=fun _ _=>True) fun _ _=>trivial).imp_of_mem fun ha hb _=>⟨hz _ ha,hz _ hb⟩) hq
def Vd{s:ae}{Q:List AV->ae->Prop}(hq:Q [] s):FN prog 249 [.arr 0 0 0 0,.fn 250 [] []] s Q:=He sgR hq
def JU{α:Type}[aP α]{E:St}{d:Option Nat}{K:St->Prop}{sz by':Nat}{s:ae}{r:cZ}{l:List α}{z:α}{x:List α}(hσ:E.s=jb s r l)(h:fY s r l)(hz:sz=aP.w α)(hx:0<x.length)(hr:(l.length+x.length)*by'<=room)
 (hK:∀s' r',Sub s s'->fY s' r' (l++x)->K ({E with s:=jb s' r' (l++x)}.put d (jk r' (l.length+x.length)))):
 eS sz by' (aP.cells z) E d K (jk r l.length) (some (x.length,flat x)):=by
 subst hz
 have hcz:(aP.cells z).length=aP.w α:=aP.len z
 have hvz:views (aP.cells z)=aP.cells z:=aP.vw z
 have fresh:∀(s':ae)(b' cP:Nat),s' b'=none->l.length+x.length<=cP->fY s' (some (b',cP,flat (List.replicate (cP -(l.length+x.length)) z))) (l++x):=fun s' b' cP hb hc=>by
  refine⟨hb,AT,A_,?_,aH _⟩
  rw[List.length_append,ax,ax,List.length_replicate,List.length_append,<-Nat.add_mul]
  grind
 cases r with
 |none=>
  obtain rfl:l=[]:=h
  show eS (aP.w α) by' (aP.cells z) E d K (.arr 0 0 0 0) _
  refine er hcz (olds:=[]) rfl A_ hr fun b' cP hb' hc=>?_
  rw[List.nil_append,<-fq]
  rw[hσ]at hb'⊢
  have:=hK s (some (b',cP,flat (List.replicate (cP -(0+x.length)) z))) (Sub.refl s) (fresh s b' cP hb' hc)
  exact this
 |some y=>
  obtain⟨b,cap,sp⟩:=y
  obtain⟨h1,h2,h3,h4,h5⟩:=h
  have hs:E.s b=some (.cells (flat l++sp)):=Xa0
  show eS (aP.w α) by' (aP.cells z) E d K (.arr b 0 l.length cap) _
  by_cases hc:l.length+x.length<=cap
  ·refine k8 hcz hs A_ hc ?_
   have hsp:x.length*aP.w α<=sp.length:=by
    rw[List.length_append,ax]at h4
    have:(l.length+x.length)*aP.w α<=cap*aP.w α:=Nat.mul_le_mul_right _ hc
    rw[Nat.add_mul]at this
    simp;omega
   have st:=yZ l x sp (aP.w α) rfl hsp
   rw[Nat.zero_add,st]
   have e:E.s.set b (.cells (flat (l++x)++sp.drop (x.length*aP.w α)))=jb s (some (b,cap,sp.drop (x.length*aP.w α))) (l++x):=by
    rw[hσ]
    show(s.set b _).set b _=s.set b _
    exact set_set ..
   rw[e]
   refine hK s _ (Sub.refl s) ⟨h1,h2,A_,?_,?_⟩
   ·grind [List.length_append,ax,List.length_drop,Nat.add_mul]
   grind [views,List.map_drop]
  ·refine er hcz (oi hs (by
    rw[Nat.zero_add,h4];exact Nat.mul_le_mul_right _ h3)) AT hr fun b' cP hb' hc'=>?_
   have ho:views (AB.sub (flat l++sp) 0 (l.length*aP.w α))=flat l:=by
    have:=ik l sp (aP.w α) 0 l.length rfl AT
    rw[Nat.zero_mul]at this
    rw[this,List.drop_zero,List.take_length,aH]
   rw[ho,<-fq,<-c8]
   rw[hσ]at hb'⊢
   have hb0:(s.set b (.cells (flat l++sp))) b'=none:=hb'
   exact hK (s.set b (.cells (flat l++sp))) (some (b',cP,flat (List.replicate (cP -(l.length+x.length)) z))) ((Sub.refl s).set h1) (fresh _ b' cP hb0 hc')
end Go.AB
end
