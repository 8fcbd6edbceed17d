/- A part. -/
import Derived.Test.YtgecakgfnjkkbaaGreatRt17
import Derived.Test.YtgecakgfnjkkbaaGreatRt16
set_option linter.defProp false
set_option linter.unusedSimpArgs false
set_option linter.unusedVariables false
section
set_option maxRecDepth 16000
namespace Go.AB
open Go
open Go.Proofs.Tryz (prog)
attribute[-go_sem] bX cP bD bV
structure iV where
 at_:Int
 tJ:Bool
 wj:Bool
 deriving DecidableEq
instance:aO iV:=⟨3,fun x=>[.int .i64 x.at_,.bool x.tJ,.bool x.wj],(iV.mk 0 false false),B_,fun _=>rfl,fun _=>rfl⟩
@[go_sem]abbrev cX7(x:iV):List AV:=[.int .i64 x.at_,.bool x.tJ,.bool x.wj]
structure bJ where
 aB:iV
 b_:(List UInt8)
instance:aO bJ:=⟨4,fun x=>[.int .i64 x.aB.at_,.bool x.aB.tJ,.bool x.aB.wj,sF 1 x.b_],(bJ.mk (iV.mk 0 false false) []),B_,fun _=>rfl,fun _=>rfl⟩
@[go_sem]abbrev rG(x:bJ):List AV:=[.int .i64 x.aB.at_,.bool x.aB.tJ,.bool x.aB.wj,sF 1 x.b_]
def bP(r_0:bJ):Option (Bool):=some (false||(!r_0.aB.wj))
def vt{r_0}{B0:Nat}{s:ae}{Q:List AV->ae->Prop}(hB0:s B0=some (.cells (rG r_0))):ok (bP r_0) (fun r=>Q [.bool r] s)->FN prog 244 [.ref B0 0] s Q:=by
 rw[<-aU hB0]
 exact FC 13 [⟨2,true,none⟩] 0xf3df6487d5e30b4bc36f3d471d68afc7097ca603104a85be7bc53d341f4824473a bP.eq_1
def ij{r_0}{B0:Nat}{s:ae}{r:Bool}(hB0:s B0=some (.cells (rG r_0)))(h:bP r_0=some r):FE prog 244 [.ref B0 0] s [.bool r] s:=vt hB0 ⟨r,h,rfl,rfl⟩
def fW(r_0:bJ):Option (Int):=
 aZ (bP r_0) fun r1=>
 if r1 then
  some 0
 else
  some (aC ((aC (8*(r_0.b_.length:Int))) -r_0.aB.at_))
def vq{r_0}{B0:Nat}{s:ae}{Q:List AV->ae->Prop}(hB0:s B0=some (.cells (rG r_0))):ok (fW r_0) (fun r=>Q [.int .i64 r] s)->FN prog 284 [.ref B0 0] s Q:=by
 rw[<-aU hB0]
 refine FR 17 [⟨2,true,none⟩] 0x22ec2d896e2e8b16f968842e1da06ad64b65ff662873c7bf19c7d7b72c85e5cbb0be04e2eebb9ed182b3489a40a0227cc00473a fW.eq_1 ?_
 repeat'(first
  |with_reducible refine aN (fun _(h:bP r_0=some _)=>ij (B0:=B0) DO h) (fun r1=>?_)
  |refine Xe4 ?_|exact Xf8)
def vp{r_0}{B0:Nat}{s:ae}{r:Int}(hB0:s B0=some (.cells (rG r_0)))(h:fW r_0=some r):FE prog 284 [.ref B0 0] s [.int .i64 r] s:=vq hB0 ⟨r,h,rfl,rfl⟩
def gu(p_0:iV):Option (UInt8):=
 if p_0.tJ then
  a8 (0<=aC (ql .i64 p_0.at_ 7))<|
  some (jt (lA .u8 128 (aC (ql .i64 p_0.at_ 7))))
 else
  a8 (0<=aC (ql .i64 p_0.at_ 7))<|
  some (jt (lz .u8 1 (aC (ql .i64 p_0.at_ 7))))
def wI{p_0}{B0:Nat}{preB0 postB0:List AV}{oB0:Nat}{s:ae}{Q:List AV->ae->Prop}(hB0:s B0=some (.cells (Wi preB0 (cX7 p_0) postB0)))(eB0:preB0.length=oB0):ok (gu p_0) (fun r=>Q [.int .u8 r.toNat] s)->FN prog 285 [.ref B0 oB0] s Q:=by
 subst eB0
 rw[<-aU hB0]
 exact FC 19 [⟨2,true,none⟩] 0x46f6b8878e16351683b16f559e67f0f5e43c7cac54736d8652dc0b70ccefeb7ea2feba88158965c1ca480cf99a17768d10a5a1ffcc798473a gu.eq_1
def wH{p_0}{B0:Nat}{preB0 postB0:List AV}{oB0:Nat}{s:ae}{r:UInt8}(hB0:s B0=some (.cells (Wi preB0 (cX7 p_0) postB0)))(eB0:preB0.length=oB0)(h:gu p_0=some r):FE prog 285 [.ref B0 oB0] s [.int .u8 r.toNat] s:=wI hB0 eB0 ⟨r,h,rfl,rfl⟩
def gv(p_0:iV)(k_1:Int)(n_2:Int):Option (Int):=
 if p_0.tJ then
  some (aC ((aC (n_2 -1)) -k_1))
 else
  some k_1
def wK{p_0 k_1 n_2}{B0:Nat}{preB0 postB0:List AV}{oB0:Nat}{s:ae}{Q:List AV->ae->Prop}(hB0:s B0=some (.cells (Wi preB0 (cX7 p_0) postB0)))(eB0:preB0.length=oB0):ok (gv p_0 k_1 n_2) (fun r=>Q [.int .i64 r] s)->FN prog 286 [.ref B0 oB0,.int .i64 k_1,.int .i64 n_2] s Q:=by
 subst eB0
 rw[<-aU hB0]
 exact FC 16 [⟨6,true,none⟩] 0x7f230395bea515565de09b8e64517f62fa6a8437a8e36917afebb517768f17a1e23c976400c0ba gv.eq_1
def wJ{p_0 k_1 n_2}{B0:Nat}{preB0 postB0:List AV}{oB0:Nat}{s:ae}{r:Int}(hB0:s B0=some (.cells (Wi preB0 (cX7 p_0) postB0)))(eB0:preB0.length=oB0)(h:gv p_0 k_1 n_2=some r):FE prog 286 [.ref B0 oB0,.int .i64 k_1,.int .i64 n_2] s [.int .i64 r] s:=wK hB0 eB0 ⟨r,h,rfl,rfl⟩
def fA(r_0:bJ)(n_1:Int):Option (UInt32×Int×bJ):=
 aZ (bP r_0) fun r1=>
 if r1 then
  some (0,1,r_0)
 else
  if(decide (n_1<0))||(decide (n_1>32))then
   some (0,2,r_0)
  else
   aZ (fW r_0) fun r2=>
   if decide (n_1>r2)then
    some (0,10,r_0)
   else
    jn (
     iter (fun((x5,t6,o7):UInt32×Int×bJ)=>
      if decide (t6<n_1)then
       jn (
        a8 (0<=lA .i64 o7.aB.at_ 3/\lA .i64 o7.aB.at_ 3<o7.b_.length)<|
        aZ (gu o7.aB) fun r15=>
        if((jt (ql .u8 ((ix o7.b_ (lA .i64 o7.aB.at_ 3)).toNat:Int) (r15.toNat:Int))).toNat:Int)!=0 then
         aZ (gv o7.aB t6 n_1) fun r16=>
         a8 (0<=r16)<|
         some (eu (J3 .u32 (x5.toNat:Int) ((eu (lz .u32 1 r16)).toNat:Int)))
        else
         some x5) fun(x11:UInt32)=>
       some (.inl (x11,aC (t6+1),(bJ.mk (iV.mk (aC (o7.aB.at_+1)) o7.aB.tJ o7.aB.wj) o7.b_)))
      else
       some (.inr (x5,o7))) (0,0,r_0)) fun((x3,o4):UInt32×bJ)=>
    some (x3,0,o4)
def oO{r_0 n_1}{B0:Nat}{s:ae}{Q:List AV->ae->Prop}(hB0:s B0=some (.cells (rG r_0))):ok (fA r_0 n_1) (fun r=>Q [.int .u32 r.1.toNat,.int .i64 r.2.1] (s.set B0 (.cells (rG r.2.2))))->FN prog 264 [.ref B0 0,.int .i64 n_1] s Q:=by
 rw[<-aU hB0]
 refine FR 65 [⟨4,true,none⟩,⟨5,true,none⟩] 0xe568b4a9572002c09554986cb37804ab67fe40b581cf0026ebd36f8a28a49b77ac9c7cd3b97669f01d1280248e9f8d6731474e4ba614755de672d866125dac41b29a9b3a7fef64f09ee8c22290d97555343fe22a033bcc80231c04631b57a35d8faffb2da90166e51678e00bcf51ba3eca2121d37f20c3d799c5704709815bb08f07e4192081c29c5fe6acf93f04619af4a82a79bfce81726aaa98219eb38dd0f9e235541d2d6f7291ecce370018c2b70fd1cc10cd787c77312281a3e4810e38d3dea40a8232dc4371985b169544ff6cad30c9dc8b3cde13838fabcccb4d9558b0af7b1da3d61729e4a1056334ef5714053620e56f904807d37073f16ed219d0172d5b0bdfdef09759001edd4c844b fA.eq_1 ?_
 repeat'(first
  |(with_reducible first|exact dj|refine cj ?_ ?_|refine dw ?_|refine aN (fun _(h:bP r_0=some _)=>ij (B0:=B0) DO h) (fun r1=>?_)|refine aN (fun _(h:fW r_0=some _)=>vp (B0:=B0) DO h) (fun r2=>?_)|refine c7 (fun _(h:gu o7.aB=some _)=>wH (B0:=B0) (preB0:=[]) (postB0:=[sF 1 o7.b_]) DO GU h) (fun _=>rfl) (fun r15=>?_)|refine aN (fun _(h:gv o7.aB t6 n_1=some _)=>wJ (B0:=B0) (preB0:=[]) (postB0:=[sF 1 o7.b_]) DO GU h) (fun r16=>?_))
  |((with_reducible refine dT (live:=[(0,false),(1,false),(6,false),(23,false),(24,false)]) (fun(x11:UInt32)=>⟨[(0,.ref B0 0),(1,.int .i64 n_1),(6,.int .u32 x11.toNat),(23,.int .i64 n_1),(24,.int .i64 t6)],[],(s.set B0 (.cells (rG o7)))⟩) (fun J=>?_) ?_);rotate_left;rintro x11)
  |((with_reducible refine cY (fun((x5,t6,o7):UInt32×Int×bJ)=>⟨[(0,.ref B0 0),(1,.int .i64 n_1),(6,.int .u32 x5.toNat),(23,.int .i64 n_1),(24,.int .i64 t6)],[],(s.set B0 (.cells (rG o7)))⟩) ?_ ?_);(first|exact rfl|simp -implicitDefEqProofs only[go_sem,seval]);rintro J ⟨x5,t6,o7⟩)
  |((with_reducible refine dT (live:=[(6,false)]) (fun((x3,o4):UInt32×bJ)=>⟨[(6,.int .u32 x3.toNat)],[],(s.set B0 (.cells (rG o4)))⟩) (fun J=>?_) ?_);rotate_left;rintro⟨x3,o4⟩)
  |refine Xe4 ?_|exact Xf8)
def gA(r_0:bJ):Option (bJ):=
 aZ (bP r_0) fun r1=>
 if !r1 then
  some (bJ.mk (iV.mk (aC (xK .i64 (aC (r_0.aB.at_+7)) 7)) r_0.aB.tJ r_0.aB.wj) r_0.b_)
 else
  some r_0
def tq{r_0}{B0:Nat}{s:ae}{Q:List AV->ae->Prop}(hB0:s B0=some (.cells (rG r_0))):ok (gA r_0) (fun r=>Q [] (s.set B0 (.cells (rG r))))->FN prog 265 [.ref B0 0] s Q:=by
 rw[<-aU hB0]
 refine FR 16 [] 0x4a87a10776d1f55c00b95b1530b76548eb65770f457689982a862a18534701cb4c4c92907dc gA.eq_1 ?_
 repeat'(first
  |with_reducible refine aN (fun _(h:bP r_0=some _)=>ij (B0:=B0) DO h) (fun r1=>?_)
  |refine Xe4 ?_|exact Xf8)
def jB(r_0:bJ):Option (Int):=
 aZ (bP r_0) fun r1=>
 if r1 then
  some 0
 else
  some r_0.aB.at_
def xQ{r_0}{B0:Nat}{s:ae}{Q:List AV->ae->Prop}(hB0:s B0=some (.cells (rG r_0))):ok (jB r_0) (fun r=>Q [.int .i64 r] s)->FN prog 208 [.ref B0 0] s Q:=by
 rw[<-aU hB0]
 refine FR 10 [⟨2,true,none⟩] 0x172ccbdb4c3101e0986d4fe725721b73c84a7c2ebb9ed182b3489a40a0227cc00473a jB.eq_1 ?_
 repeat'(first
  |with_reducible refine aN (fun _(h:bP r_0=some _)=>ij (B0:=B0) DO h) (fun r1=>?_)
  |refine Xe4 ?_|exact Xf8)
def xP{r_0}{B0:Nat}{s:ae}{r:Int}(hB0:s B0=some (.cells (rG r_0)))(h:jB r_0=some r):FE prog 208 [.ref B0 0] s [.int .i64 r] s:=xQ hB0 ⟨r,h,rfl,rfl⟩
structure cC where
 Reader:bJ
 e_:Int
def az(s_0:cC)(e_1:Int):Option (cC):=
 if s_0.e_==0 then
  some (cC.mk s_0.Reader e_1)
 else
  some s_0
def bH{s_0 e_1}{B0 B0_Reader:Nat}{preB0 postB0:List AV}{oB0:Nat}{s:ae}{Q:List AV->ae->Prop}(hB0:s B0=some (.cells (Wi preB0 [.ref B0_Reader 0,.int .i64 s_0.e_] postB0)))(c9:s B0_Reader=some (.cells (rG s_0.Reader)))(eB0:preB0.length=oB0)(ab:B0≠B0_Reader):ok (az s_0 e_1) (fun r=>Q [] ((s.set B0 (.cells (Wi preB0 [.ref B0_Reader 0,.int .i64 r.e_] postB0))).set B0_Reader (.cells (rG r.Reader))))->FN prog 243 [.ref B0 oB0,.int .i64 e_1] s Q:=by
 subst eB0
 rw[<-aU c9,<-aU hB0]
 refine FR 13 [] 0x189bdbb9b380ecb52c04b8efcb9da2151040493dd1650a71453e az.eq_1 ?_
 repeat'(first
  |simp -implicitDefEqProofs only[go_sem,seval,af ab,af ab.symm,set_comm ab])
def aK(s_0:cC)(n_1:Int):Option (Int×cC):=
 if s_0.e_ !=0 then
  some (0,s_0)
 else
  aZ (fA s_0.Reader n_1) fun r1=>
  aZ (az (cC.mk r1.2.2 s_0.e_) r1.2.1) fun r2=>
  some (aC ((r1.1.toNat:Int)),r2)
def bR{s_0 n_1}{B0 B0_Reader:Nat}{preB0 postB0:List AV}{oB0:Nat}{s:ae}{Q:List AV->ae->Prop}(hB0:s B0=some (.cells (Wi preB0 [.ref B0_Reader 0,.int .i64 s_0.e_] postB0)))(c9:s B0_Reader=some (.cells (rG s_0.Reader)))(eB0:preB0.length=oB0)(ab:B0≠B0_Reader):ok (aK s_0 n_1) (fun r=>Q [.int .i64 r.1] ((s.set B0 (.cells (Wi preB0 [.ref B0_Reader 0,.int .i64 r.2.e_] postB0))).set B0_Reader (.cells (rG r.2.Reader))))->FN prog 237 [.ref B0 oB0,.int .i64 n_1] s Q:=by
 subst eB0
 rw[<-aU c9,<-aU hB0]
 refine FR 26 [⟨4,true,none⟩] 0x17631cdddcfceb93665e392da8c43d8d8363b734a0ba9b18823fab60b7030c6891421f80e8dc9d6bcf02857e4170b88ad1f990ff0568dba78b6a84f9e23ce6cc6f68e152980c653980083fa aK.eq_1 ?_
 repeat'(first
  |(with_reducible first|exact dj|refine cj ?_ ?_|refine dw ?_|refine fun hh=>oO (B0:=B0_Reader) Dd (aJ (show ok (fA s_0.Reader n_1) _ from hh) fun r1=>?_)|refine fun hh=>bH (B0:=B0) (B0_Reader:=B0_Reader) (preB0:=preB0) (postB0:=postB0) Dd Dd GU ab (aJ (show ok (az (cC.mk r1.2.2 s_0.e_) r1.2.1) _ from hh) fun r2=>?_))
  |simp -implicitDefEqProofs only[go_sem,seval,af ab,af ab.symm,set_comm ab])
structure ak where
 bk:cC
 ie:(List UInt8)
 fT:Int
@[go_sem]abbrev Ic(x:ak):List AV:=[sT 1 x.ie,.int .i64 x.fT]
@[go_sem]abbrev E2(B0_Reader:Nat)(x:ak):List AV:=[.ref B0_Reader 0,.int .i64 x.bk.e_,sT 1 x.ie,.int .i64 x.fT]
def cJ(s_0:ak)(x_1:UInt8):Option (ak):=
 if decide ((s_0.ie.length:Int)>=s_0.fT)then
  aZ (az s_0.bk 3) fun r1=>
  some (ak.mk r1 s_0.ie s_0.fT)
 else
  a8 ((s_0.ie.length+[x_1].length)*1<=room)<|
  some (ak.mk s_0.bk (s_0.ie++[x_1]) s_0.fT)
def mZ{s_0 x_1}{B0 B0_Reader:Nat}{s:ae}{Q:List AV->ae->Prop}(hB0:s B0=some (.cells (E2 B0_Reader s_0)))(c9:s B0_Reader=some (.cells (rG s_0.bk.Reader)))(ab:B0≠B0_Reader):ok (cJ s_0 x_1) (fun r=>Q [] ((s.set B0 (.cells (E2 B0_Reader r))).set B0_Reader (.cells (rG r.bk.Reader))))->FN prog 266 [.ref B0 0,.int .u8 x_1.toNat] s Q:=by
 rw[<-aU c9,<-aU hB0]
 refine FR 28 [] 0x488165aad8c866220b9eb087fef7f19afb987f3ff6c5ffe2573a9fc8e19b7d2213df2c7f8ae7feef3a6d53be381b9e104ca2be3f1f21b5d490a2aa9e63abd2f5265 cJ.eq_1 ?_
 repeat'(first
  |(with_reducible first|exact dj|refine cj ?_ ?_|refine dw ?_|refine fun hh=>bH (B0:=B0) (B0_Reader:=B0_Reader) (preB0:=[]) (postB0:=(Ic s_0)) Dd Dd GU ab (aJ (show ok (az s_0.bk 3) _ from hh) fun r1=>?_))
  |simp -implicitDefEqProofs only[go_sem,seval,af ab,af ab.symm,set_comm ab])
def gE(s_0:ak):Option (ak):=
 aZ (gA s_0.bk.Reader) fun r1=>
 aZ (aK (cC.mk r1 s_0.bk.e_) 16) fun r2=>
 jn (
  aZ (aK r2.2 16) fun r5=>
  if(aC (ZD .i64 r5.1 65535))!=r2.1 then
   aZ (az r5.2 11) fun r6=>
   some (ak.mk r6 s_0.ie s_0.fT)
  else
   some (ak.mk r5.2 s_0.ie s_0.fT)) fun(o4:ak)=>
 iter (fun((n7,o8):Int×ak)=>
  if(decide (n7>0))&&(o8.bk.e_==0)then
   jn (
    aZ (aK o8.bk 8) fun r12=>
    if r12.2.e_==0 then
     aZ (cJ (ak.mk r12.2 o8.ie o8.fT) (jt (r12.1))) fun r13=>
     some r13
    else
     some (ak.mk r12.2 o8.ie o8.fT)) fun(o11:ak)=>
   some (.inl (aC (n7 -1),o11))
  else
   some (.inr o8)) (r2.1,o4)
def qW{s_0}{B0 B0_Reader:Nat}{s:ae}{Q:List AV->ae->Prop}(hB0:s B0=some (.cells (E2 B0_Reader s_0)))(c9:s B0_Reader=some (.cells (rG s_0.bk.Reader)))(ab:B0≠B0_Reader):ok (gE s_0) (fun r=>Q [] ((s.set B0 (.cells (E2 B0_Reader r))).set B0_Reader (.cells (rG r.bk.Reader))))->FN prog 238 [.ref B0 0] s Q:=by
 rw[<-aU c9,<-aU hB0]
 refine FR 51 [] 0x740b52af7368f87ef19f86072d3f90f60e3231677dca7c131f0fb06fe38907a39b879c509ab9ed70ef47a79b1d0885a69348940f495f43d212d6444a20fbda4a7aaaef303532e2f5cdf47efd49c1338c34efeb5a0fae72cfd406142b07058920a48be535241fba2d77415f3a26f4f7a786957a17ddc1deedd8eb08ff1e8870857eb216221aabfac591b384298e4a0ed2bcd1c7af25a372ebba8e373301e3ab5198da0a71458f gE.eq_1 ?_
 repeat'(first
  |(with_reducible first|exact dj|refine cj ?_ ?_|refine dw ?_|refine fun hh=>tq (B0:=B0_Reader) Dd (aJ (show ok (gA s_0.bk.Reader) _ from hh) fun r1=>?_)|refine fun hh=>bR (B0:=B0) (B0_Reader:=B0_Reader) (preB0:=[]) (postB0:=(Ic s_0)) Dd Dd GU ab (aJ (show ok (aK (cC.mk r1 s_0.bk.e_) 16) _ from hh) fun r2=>?_)|refine fun hh=>bR (B0:=B0) (B0_Reader:=B0_Reader) (preB0:=[]) (postB0:=(Ic s_0)) Dd Dd GU ab (aJ (show ok (aK r2.2 16) _ from hh) fun r5=>?_)|refine fun hh=>bH (B0:=B0) (B0_Reader:=B0_Reader) (preB0:=[]) (postB0:=(Ic s_0)) Dd Dd GU ab (aJ (show ok (az r5.2 11) _ from hh) fun r6=>?_)|refine fun hh=>bR (B0:=B0) (B0_Reader:=B0_Reader) (preB0:=[]) (postB0:=(Ic o8)) Dd Dd GU ab (aJ (show ok (aK o8.bk 8) _ from hh) fun r12=>?_)|refine fun hh=>mZ (B0:=B0) (B0_Reader:=B0_Reader) Dd Dd ab (aJ (show ok (cJ (ak.mk r12.2 o8.ie o8.fT) (jt (r12.1))) _ from hh) fun r13=>?_))
  |((have _x:=n7);clear _x;(with_reducible refine dT (live:=[(0,false),(2,false)]) (fun(o11:ak)=>⟨[(0,.ref B0 0),(2,.int .i64 n7)],[],((s.set B0 (.cells (E2 B0_Reader o11))).set B0_Reader (.cells (rG o11.bk.Reader)))⟩) (fun J=>?_) ?_);rotate_left;rintro o11)
  |((with_reducible refine dT (live:=[(0,false),(2,false)]) (fun(o4:ak)=>⟨[(0,.ref B0 0),(2,.int .i64 r2.1)],[],((s.set B0 (.cells (E2 B0_Reader o4))).set B0_Reader (.cells (rG o4.bk.Reader)))⟩) (fun J=>?_) ?_);rotate_left;rintro o4)
  |((with_reducible refine cY (fun((n7,o8):Int×ak)=>⟨[(0,.ref B0 0),(2,.int .i64 n7)],[],((s.set B0 (.cells (E2 B0_Reader o8))).set B0_Reader (.cells (rG o8.bk.Reader)))⟩) ?_ ?_);(first|exact rfl|simp -implicitDefEqProofs only[go_sem,seval,af ab,af ab.symm,set_comm ab]);rintro J ⟨n7,o8⟩)
  |simp -implicitDefEqProofs only[go_sem,seval,af ab,af ab.symm,set_comm ab])
def eD(s_0:ak)(qZ:Int)(yb:Int):Option (ak):=
 if s_0.bk.e_ !=0 then
  some s_0
 else
  if decide (yb>(s_0.ie.length:Int))then
   aZ (az s_0.bk 14) fun r1=>
   some (ak.mk r1 s_0.ie s_0.fT)
  else
   if decide (qZ>aC (s_0.fT -(s_0.ie.length:Int)))then
    aZ (az s_0.bk 3) fun r2=>
    some (ak.mk r2 s_0.ie s_0.fT)
   else
    iter (fun((t3,o4):Int×ak)=>
     if decide (t3<qZ)then
      a8 (0<=aC ((o4.ie.length:Int) -yb)/\aC ((o4.ie.length:Int) -yb)<o4.ie.length)<|
      a8 ((o4.ie.length+[ix o4.ie (aC ((o4.ie.length:Int) -yb))].length)*1<=room)<|
      some (.inl (aC (t3+1),(ak.mk o4.bk (o4.ie++[ix o4.ie (aC ((o4.ie.length:Int) -yb))]) o4.fT)))
     else
      some (.inr o4)) (0,s_0)
def qV{s_0 qZ yb}{B0 B0_Reader:Nat}{s:ae}{Q:List AV->ae->Prop}(hB0:s B0=some (.cells (E2 B0_Reader s_0)))(c9:s B0_Reader=some (.cells (rG s_0.bk.Reader)))(ab:B0≠B0_Reader):ok (eD s_0 qZ yb) (fun r=>Q [] ((s.set B0 (.cells (E2 B0_Reader r))).set B0_Reader (.cells (rG r.bk.Reader))))->FN prog 270 [.ref B0 0,.int .i64 qZ,.int .i64 yb] s Q:=by
 rw[<-aU c9,<-aU hB0]
 refine FR 68 [] 0xf4a6e94cc9a385a1af6753f7bef13306596b92f9789342cb73849a0336020795cc06a2d6f0721a0ef048a950d8055a4eb3072f1e3f563b0544f8af4dd950bbf801a715f8beedc055948c9c33bf02ba20d7682cf804d05e412f3d9ae68d67dae08b8c53ee54952cc3d0d3c78a4700d0c93545c98897a0b1f5599eb1579f7d1cb4308ac134a7bf91a40b995b0adb61524f470e9a8dc5ad26396928d088d91acfba7468bb12ed4ada52dee7cf645403a39b55676339ab3775231817e3eace009705810523ac2a2b220152dcc4ea01708fd14adf96d7d7e1da2232c9f730a2b37faa5df81404a05 eD.eq_1 ?_
 repeat'(first
  |(with_reducible first|exact dj|refine cj ?_ ?_|refine dw ?_|refine fun hh=>bH (B0:=B0) (B0_Reader:=B0_Reader) (preB0:=[]) (postB0:=(Ic s_0)) Dd Dd GU ab (aJ (show ok (az s_0.bk 14) _ from hh) fun r1=>?_)|refine fun hh=>bH (B0:=B0) (B0_Reader:=B0_Reader) (preB0:=[]) (postB0:=(Ic s_0)) Dd Dd GU ab (aJ (show ok (az s_0.bk 3) _ from hh) fun r2=>?_))
  |((with_reducible refine cY (fun((t3,o4):Int×ak)=>⟨[(0,.ref B0 0),(2,.int .i64 yb),(6,.int .i64 qZ),(7,.int .i64 t3)],[],((s.set B0 (.cells (E2 B0_Reader o4))).set B0_Reader (.cells (rG o4.bk.Reader)))⟩) ?_ ?_);(first|exact rfl|simp -implicitDefEqProofs only[go_sem,seval,af ab,af ab.symm,set_comm ab]);rintro J ⟨t3,o4⟩)
  |simp -implicitDefEqProofs only[go_sem,seval,af ab,af ab.symm,set_comm ab])
def fj(bM:Int):Option (Int×Int×Bool):=
 if(decide (bM<257))||(decide (bM>285))then
  some (0,0,false)
 else
  if bM==285 then
   some (258,0,true)
  else
   if decide (bM<265)then
    some (aC (bM -254),0,true)
   else
    a8 (0<=aC (Int.tdiv (aC (bM -261)) 4))<|
    some (aC (3+(aC (lz .i64 (aC (4+(Int.tmod (aC (bM -261)) 4))) (aC (Int.tdiv (aC (bM -261)) 4))))),aC (Int.tdiv (aC (bM -261)) 4),true)
def yq{bM}:FF 268 [.int .i64 bM] (fj bM) fun r=>[.int .i64 r.1,.int .i64 r.2.1,.bool r.2.2]:=by
 intro s Q
 exact FC 34 [⟨2,true,none⟩,⟨3,true,none⟩,⟨4,true,none⟩] 0x7f5a2f6c722ade8f7d8e9f738c488f35803dad5020735c582325a9fa2a6383dd60ac6be3cc975413bbb0634774b4c07be310c7e79928dc9b02716d382e1489a5f32dcd2399bdcd9f5394ea6946731ecb5acf63254c6fc3a122f52bbefc89934ab0df21ab1532cb772959e1ef3d42740eb1fafb42625270581c7d2f0b1a45614a4a89923f86815c0b6b91543de3a512d0a14f4bfd1df6c9e4946d9003cc0047dc fj.eq_1
def eC(bM:Int):Option (Int×Int×Bool):=
 if(decide (bM<0))||(decide (bM>29))then
  some (0,0,false)
 else
  if decide (bM<4)then
   some (aC (bM+1),0,true)
  else
   a8 (0<=aC (Int.tdiv (aC (bM -2)) 2))<|
   some (aC (1+(aC (lz .i64 (aC (2+(Int.tmod bM 2))) (aC (Int.tdiv (aC (bM -2)) 2))))),aC (Int.tdiv (aC (bM -2)) 2),true)
def vC{bM}:FF 269 [.int .i64 bM] (eC bM) fun r=>[.int .i64 r.1,.int .i64 r.2.1,.bool r.2.2]:=by
 intro s Q
 exact FC 30 [⟨2,true,none⟩,⟨3,true,none⟩,⟨4,true,none⟩] 0x1a0dfc38146f066fffe5e7babbe508308d39504c623d27c287ca1c96a43d4e7624987991e591aecec6868263783c8523c36fbc8712d4f9a28f1c640e7aee6f2c97642cd30df7321bea1acc7510031dc467dd49c16071f4bc2c691585292a2648fef2782a1a6942de3957de309f7fd1df6c9e4946d9003cc0047dc eC.eq_1
def qo:Option ((List Int)):=some [16,17,18,0,8,7,9,6,10,5,11,4,12,3,13,2,14,1,15]
def zP{s:ae}{Q:List AV->ae->Prop}:ok (qo) (fun r=>Q [sT 1 r] s)->FN prog 272 [] s Q:=by exact FC 2 [⟨0,true,none⟩] 0x81ee5e1c409f72c397a5e89b6df532507cd02194ce0ddd61fd738955d09f3c9a2ad50105aaffd962cebbd4ddc497cca814d448bbde38ed7f3f54f409b1bf6c8380000000000000000000000000000000000152dd68657dab080d0f26a7a qo.eq_1
def zN{s:ae}{r:(List Int)}(h:qo=some r):FE prog 272 [] s [sT 1 r] s:=zP ⟨r,h,rfl,rfl⟩
def pL(b_0:(List UInt8)):Option (Int):=
 if decide ((b_0.length:Int)<2)then
  some 10
 else
  a8 (0<=(0:Int)/\(0:Int)<b_0.length)<|
  a8 ((!(((jt (ql .u8 ((ix b_0 0).toNat:Int) 15)).toNat:Int)!=8))=true->0<=(0:Int)/\(0:Int)<b_0.length)<|
  a8 ((!((((jt (ql .u8 ((ix b_0 0).toNat:Int) 15)).toNat:Int)!=8)||(decide (((jt (lA .u8 ((ix b_0 0).toNat:Int) 4)).toNat:Int)>7))))=true->0<=(1:Int)/\(1:Int)<b_0.length)<|
  a8 ((!(((((jt (ql .u8 ((ix b_0 0).toNat:Int) 15)).toNat:Int)!=8)||(decide (((jt (lA .u8 ((ix b_0 0).toNat:Int) 4)).toNat:Int)>7)))||(((jt (ql .u8 ((ix b_0 1).toNat:Int) 32)).toNat:Int)!=0)))=true->0<=(0:Int)/\(0:Int)<b_0.length)<|
  a8 ((!(((((jt (ql .u8 ((ix b_0 0).toNat:Int) 15)).toNat:Int)!=8)||(decide (((jt (lA .u8 ((ix b_0 0).toNat:Int) 4)).toNat:Int)>7)))||(((jt (ql .u8 ((ix b_0 1).toNat:Int) 32)).toNat:Int)!=0)))=true->0<=(1:Int)/\(1:Int)<b_0.length)<|
  if(((((jt (ql .u8 ((ix b_0 0).toNat:Int) 15)).toNat:Int)!=8)||(decide (((jt (lA .u8 ((ix b_0 0).toNat:Int) 4)).toNat:Int)>7)))||(((jt (ql .u8 ((ix b_0 1).toNat:Int) 32)).toNat:Int)!=0))||((Int.tmod (aC (J3 .i64 (aC (lz .i64 (aC (((ix b_0 0).toNat:Int))) 8)) (aC (((ix b_0 1).toNat:Int))))) 31)!=0)then
   some 11
  else
   some 0
def Gj{b_0}:FF 171 [sF 1 b_0] (pL b_0) fun r=>[.int .i64 r]:=by
 intro s Q
 exact FC 41 [⟨2,true,none⟩] 0x1a7a28cbcd0d59abcd83a0bfe70574e8bc8b36e760dbf40a069ce8c938b61e1144b9f23cdb8586681273e05749d99ac099cd5ab14eccc9b50dc95beef88fb96f30b3c6e5af2b2b7d129f9e412946810fd7b7605bd068c14f0e2aa96d4c8cbfab6e15fc4ace3c652fb5f9911e0d6a3f7cae81b7f9ceb0e6f000e344deaede11e4a6a14d25725bc646fda42de831d131f31264e606c124cff180478514abf349fcc00473a pL.eq_1
def Gi{b_0}{s:ae}{r:Int}(h:pL b_0=some r):FE prog 171 [sF 1 b_0] s [.int .i64 r] s:=Gj ⟨r,h,rfl,rfl⟩
structure eO where
 a_:UInt32
 b_:UInt32
 deriving DecidableEq
instance:aO eO:=⟨2,fun x=>[.int .u32 x.a_.toNat,.int .u32 x.b_.toNat],(eO.mk 0 0),B_,fun _=>rfl,fun _=>rfl⟩
def fq(h_0:eO)(p_1:(List UInt8)):Option (eO):=
 jn (
  iter (fun((p4,a5,b6):(List UInt8)×UInt32×UInt32)=>
   if decide ((p4.length:Int)>0)then
    jn (
     a8 (0<=(0:Int)/\0<=min (p4.length:Int) 5552/\min (p4.length:Int) 5552<=p4.length)<|
     iter (fun((a15,b16,n17,t18,t19,t20):UInt32×UInt32×Int×(List UInt8)×Int×Int)=>
      if decide (t20<t19)then
       a8 (0<=t20/\t20<t18.length)<|
       some (.inl (eu ((a15.toNat:Int)+((eu (((ix t18 t20).toNat:Int))).toNat:Int)),eu ((b16.toNat:Int)+((eu ((a15.toNat:Int)+((eu (((ix t18 t20).toNat:Int))).toNat:Int))).toNat:Int)),n17,t18,t19,aC (t20+1)))
      else
       some (.inr (a15,b16,n17))) (a5,b6,min (p4.length:Int) 5552,part p4 0 (min (p4.length:Int) 5552),((part p4 0 (min (p4.length:Int) 5552)).length:Int),0)) fun((a11,b12,n13):UInt32×UInt32×Int)=>
    a8 (0<=n13/\n13<=(p4.length:Int)/\(p4.length:Int)<=p4.length)<|
    some (.inl (part p4 n13 (p4.length:Int),eu (Int.tmod (a11.toNat:Int) 65521),eu (Int.tmod (b12.toNat:Int) 65521)))
   else
    some (.inr (a5,b6))) (p_1,eu ((h_0.a_.toNat:Int)+1),h_0.b_)) fun((a1,b2):UInt32×UInt32)=>
 some (eO.mk (eu (Int.tmod ((eu (((eu ((a1.toNat:Int)+65521)).toNat:Int) -1)).toNat:Int) 65521)) b2)
def tg{h_0 p_1}{B0:Nat}{s:ae}{Q:List AV->ae->Prop}(hB0:s B0=some (.cells [.int .u32 h_0.a_.toNat,.int .u32 h_0.b_.toNat])):ok (fq h_0 p_1) (fun r=>Q [] (s.set B0 (.cells [.int .u32 r.a_.toNat,.int .u32 r.b_.toNat])))->FN prog 209 [.ref B0 0,sF 1 p_1] s Q:=by
 rw[<-aU hB0]
 refine FR 58 [] 0x12e2a4b014ecbcd3da7b44305a890956b3753e4aabc2f44904f3e200936b7130f89f91f706698c12b32cd855d40835b26231982a3111cf3d0f4009f3959462c4b7c8b6b0a3ffaa6732b9704b170041b9816ac18f1692d2bacccf7012ef1fd753cce15be7b53b8cc4bd946398b5d7a14832e66f8849b942ae093a679d2315d24b626d57516019de5fb12bb714f8c24cc7cad1c4aa65fd2c4c2b9818d7a03e1c250d3722a3113f7fb53f1a1461dfb4f225fafb4f276a75270b9a4823e15575fca62c79dbbadecc469a48e1f2670efeb4f6d03bff92e60a49f91c18acc29c08f81da2052ae1db85c68581c6d23edf6e053c9a3153d7877dd8846872b8047 fq.eq_1 ?_
 repeat'(first
  |(with_reducible first|exact dj|refine cj ?_ ?_|refine dw ?_)
  |((with_reducible refine cY (fun((a15,b16,n17,t18,t19,t20):UInt32×UInt32×Int×(List UInt8)×Int×Int)=>⟨[(0,.ref B0 0),(1,sF 1 p4),(4,.int .u32 a15.toNat),(5,.int .u32 b16.toNat),(6,.int .i64 n17),(26,sF 1 t18),(27,.int .i64 t19),(28,.int .i64 t20)],[],(s.set B0 (.cells [.int .u32 h_0.a_.toNat,.int .u32 h_0.b_.toNat]))⟩) ?_ ?_);(first|exact rfl|simp -implicitDefEqProofs only[go_sem,seval]);rintro J ⟨a15,b16,n17,t18,t19,t20⟩)
  |((with_reducible refine dT (live:=[(0,false),(1,true),(4,false),(5,false),(6,false)]) (fun((a11,b12,n13):UInt32×UInt32×Int)=>⟨[(0,.ref B0 0),(1,sF 1 p4),(4,.int .u32 a11.toNat),(5,.int .u32 b12.toNat),(6,.int .i64 n13)],[],(s.set B0 (.cells [.int .u32 h_0.a_.toNat,.int .u32 h_0.b_.toNat]))⟩) (fun J=>?_) ?_);rotate_left;rintro⟨a11,b12,n13⟩)
  |((with_reducible refine cY (fun((p4,a5,b6):(List UInt8)×UInt32×UInt32)=>⟨[(0,.ref B0 0),(1,sF 1 p4),(4,.int .u32 a5.toNat),(5,.int .u32 b6.toNat)],[],(s.set B0 (.cells [.int .u32 h_0.a_.toNat,.int .u32 h_0.b_.toNat]))⟩) ?_ ?_);(first|exact rfl|simp -implicitDefEqProofs only[go_sem,seval]);rintro J ⟨p4,a5,b6⟩)
  |((with_reducible refine dT (live:=[(0,false),(4,false),(5,false)]) (fun((a1,b2):UInt32×UInt32)=>⟨[(0,.ref B0 0),(4,.int .u32 a1.toNat),(5,.int .u32 b2.toNat)],[],(s.set B0 (.cells [.int .u32 h_0.a_.toNat,.int .u32 h_0.b_.toNat]))⟩) (fun J=>?_) ?_);rotate_left;rintro⟨a1,b2⟩)
  |refine Xe4 ?_|exact Xf8)
def eZ(h_0:eO):Option (UInt32):=some (eu (J3 .u32 ((eu (lz .u32 (h_0.b_.toNat:Int) 16)).toNat:Int) ((eu (Int.tmod ((eu ((h_0.a_.toNat:Int)+1)).toNat:Int) 65521)).toNat:Int)))
def sN{h_0}{B0:Nat}{s:ae}{Q:List AV->ae->Prop}(hB0:s B0=some (.cells [.int .u32 h_0.a_.toNat,.int .u32 h_0.b_.toNat])):ok (eZ h_0) (fun r=>Q [.int .u32 r.toNat] s)->FN prog 210 [.ref B0 0] s Q:=by
 rw[<-aU hB0]
 exact FC 15 [⟨2,true,none⟩] 0x1235f9f6346067c0b50e5284cb13179b0088f34eeb128dcd8e5855c2040132b398b3a3b42495dc3edd4c473a eZ.eq_1
def sM{h_0}{B0:Nat}{s:ae}{r:UInt32}(hB0:s B0=some (.cells [.int .u32 h_0.a_.toNat,.int .u32 h_0.b_.toNat]))(h:eZ h_0=some r):FE prog 210 [.ref B0 0] s [.int .u32 r.toNat] s:=sN hB0 ⟨r,h,rfl,rfl⟩
def qF(b_0:(List UInt8)):Option (UInt32):=
 aZ (fq (eO.mk 0 0) b_0) fun r1=>
 aZ (eZ r1) fun r2=>
 some r2
def HZ{b_0}:FF 174 [sF 1 b_0] (qF b_0) fun r=>[.int .u32 r.toNat]:=by
 intro s Q
 intro h
 refine FN.forget ?_
 refine FP 7 [⟨2,true,none⟩] (dec 0x5b73c5b76920138d89bb01d77f5768ef3f027c23fc238fdedd4c473a) By rfl ?_
 revert h
 rw[qF]
 refine Xf9 ?_
 repeat'(first
  |(with_reducible first|refine fun hh=>tg (B0:=N1) DO (aJ (show ok (fq (eO.mk 0 0) b_0) _ from hh) fun r1=>?_)|refine aN (fun _(h:eZ r1=some _)=>sM (B0:=N1) DO h) (fun r2=>?_))
  |((fail_if_success (have _x:=sN1));with_reducible intro hh N1 hN1;(try simp only[di]at hN1);have sN1:=hN1;revert hh)
  |with_reducible exact fun hh=>⟨_,nu.set (nu.refl _) Y_,hh⟩
  |refine Xe4 ?_|exact Xf8)
def HY{b_0}{s:ae}{r:UInt32}(h:qF b_0=some r):FE prog 174 [sF 1 b_0] s [.int .u32 r.toNat] s:=HZ ⟨r,h,rfl,rfl⟩
def mT(x_0:UInt32):Option ((List UInt8)):=some [jt (((eu (lA .u32 (x_0.toNat:Int) 24)).toNat:Int)),jt (((eu (lA .u32 (x_0.toNat:Int) 16)).toNat:Int)),jt (((eu (lA .u32 (x_0.toNat:Int) 8)).toNat:Int)),jt ((x_0.toNat:Int))]
def Cv{x_0}:FF 173 [.int .u32 x_0.toNat] (mT x_0) fun r=>[sT 1 r]:=by
 intro s Q
 exact FC 15 [⟨2,true,none⟩] 0x1b6ca970b4a476d7e45cbd6cd88b1ba68a842eca27b13f5fb4bf0cb90752f717eccc0bc6c9ec325f3af4bf5f8c1cd9383521798d0f2a73a mT.eq_1
def Cu{x_0}{s:ae}{r:(List UInt8)}(h:mT x_0=some r):FE prog 173 [.int .u32 x_0.toNat] s [sT 1 r] s:=Cv ⟨r,h,rfl,rfl⟩
def tv(a_0:(List UInt8))(b_1:(List UInt8)):Option (Bool):=some ((bg.mk a_0).b==(bg.mk b_1).b)
def CF{a_0 b_1}:FF 152 [sF 1 a_0,sF 1 b_1] (tv a_0 b_1) fun r=>[.bool r]:=by
 intro s Q
 exact FC 10 [⟨4,true,none⟩] 0x17a82325fb78a419acfc02b1997a87144e483fa tv.eq_1
def CE{a_0 b_1}{s:ae}{r:Bool}(h:tv a_0 b_1=some r):FE prog 152 [sF 1 a_0,sF 1 b_1] s [.bool r] s:=CF ⟨r,h,rfl,rfl⟩
def pj(eS:(List Int)):Option (Int):=
 if(decide ((eS.length:Int)<1))||(decide ((eS.length:Int)>320))then
  some (-1)
 else
  zj (
   nV (
    iter (fun((RZ,t4):Int×Int)=>
     if decide (t4<(eS.length:Int))then
      zj (
       a8 (0<=t4/\t4<eS.length)<|
       if(decide (ix eS t4<0))||(decide (ix eS t4>15))then
        some (.inr ((-1):Int))
       else
        if decide (ix eS t4>0)then
         a8 (0<=ix eS t4)<|
         some (.inl (aC (RZ+(lA .i64 32768 (ix eS t4)))))
        else
         some (.inl RZ)) (fun(Zg:Int)=>
       some (.inl (Zg,aC (t4+1))))
      (fun(t11:Int)=>some (.inr (.inr t11)))
     else
      some (.inr (.inl RZ))) (0,0)) (fun(alr:Int)=>
    some (.inl alr))
   (fun(t6:Int)=>some (.inr t6))) (fun(VY:Int)=>
   if decide (VY>32768)then
    some (-1)
   else
    some VY)
  (fun(t2:Int)=>some t2)
def Fg{eS}:FF 297 [sF 1 eS] (pj eS) fun r=>[.int .i64 r]:=by
 intro s Q
 refine FR 38 [⟨2,true,none⟩] 0xa0033211092672547d86549628a79433010ac68588b1a7be6aa67491c736a4bd3b5ab26a3614c017789d74f09fa7d46b890afe15bf46e26463ab36614e39aefc68de86f33d6848edd31e5baa737a6d9afaef9794393e199cf5a2558bdd16210327aaa4a9e1dbee85e1b4a1d18aa52621fe6c8723330ee03785892767f683ef05907cc7e5e09079e8543244a0e8ea3d3e7c352f3a17bdf0521d0d079bbc45f8438b983f40e6b384edfe3e405ccd13ed2ab26313e9c07f25fe8836fcc00473a pj.eq_1 ?_
 repeat'(first
  |(with_reducible first|exact dj|refine cj ?_ ?_|refine dw ?_)
  |((with_reducible refine eF (live:=[(3,false),(14,true),(15,false),(16,false)]) (fun(Zg:Int)=>⟨[(3,.int .i64 Zg),(14,sF 1 eS),(15,.int .i64 (eS.length:Int)),(16,.int .i64 t4)],[],s⟩) (fun J=>?_) ?_);rotate_left;rintro Zg)
  |((with_reducible refine cY (fun((RZ,t4):Int×Int)=>⟨[(3,.int .i64 RZ),(14,sF 1 eS),(15,.int .i64 (eS.length:Int)),(16,.int .i64 t4)],[],s⟩) ?_ ?_);(first|exact rfl|simp -implicitDefEqProofs only[go_sem,seval]);rintro J ⟨RZ,t4⟩)
  |((with_reducible refine eF (live:=[(3,false)]) (fun(VY:Int)=>⟨[(3,.int .i64 VY)],[],s⟩) (fun J=>?_) ?_);rotate_left;rintro VY)
  |refine Xe4 ?_|exact Xf8)
set_option maxRecDepth 4000
def Bg(n_0:Int):Option (Int):=
 jn (
  iter (fun((x2,k3):Int×Int)=>
   if decide (k3<n_0)then
    some (.inl (aC (2*x2),aC (k3+1)))
   else
    some (.inr x2)) (1,0)) fun(x1:Int)=>
 some x1
def sq(bM:Int):Option (Int×Int×Bool):=
 if(decide (bM<257))||(decide (bM>285))then
  some (0,0,false)
 else
  if bM==285 then
   some (258,0,true)
  else
   jn (
    iter (fun((at3,k4):Int×Int)=>
     if decide (k4<bM)then
      jn (
       if decide (k4>=265)then
        some (aC (Int.tdiv (aC (k4 -261)) 4))
       else
        some 0) fun(n10:Int)=>
      aZ (Bg n10) fun r11=>
      some (.inl (aC (at3+r11),aC (k4+1)))
     else
      some (.inr at3)) (3,257)) fun(at2:Int)=>
   if decide (bM<265)then
    some (at2,0,true)
   else
    some (at2,aC (Int.tdiv (aC (bM -261)) 4),true)
def pC(bM:Int):Option (Int×Int×Bool):=
 if(decide (bM<0))||(decide (bM>29))then
  some (0,0,false)
 else
  jn (
   iter (fun((at3,k4):Int×Int)=>
    if decide (k4<bM)then
     jn (
      if decide (k4>=4)then
       some (aC (Int.tdiv (aC (k4 -2)) 2))
      else
       some 0) fun(n10:Int)=>
     aZ (Bg n10) fun r11=>
     some (.inl (aC (at3+r11),aC (k4+1)))
    else
     some (.inr at3)) (1,0)) fun(at2:Int)=>
  if decide (bM<4)then
   some (at2,0,true)
  else
   some (at2,aC (Int.tdiv (aC (bM -2)) 2),true)
end Go.AB
end
section
namespace Go.AB
open Go
structure HT where
 B:Nat
 lens:List Int
instance:Inhabited HT:=⟨⟨0,[]⟩⟩
def ir(l:List Int)(n:Nat):Int:=if n=0 then 0 else((l.filter fun x=>x==(n:Int)).length:Int)
def vx(l:List Int)(n:Int):Int:=ir l n.toNat
def idxs(l:List Int):List Int:=(List.range l.length).map fun(k:Nat)=>(k:Int)
def uz(l:List Int):List Int:=((List.range 15).map fun n=>(idxs l).filter fun k=>ix l k==((n+1:Nat):Int)).flatten
def iw(t:HT)(r:bJ):Option (Int×Int×bJ):=
 iter (fun((code,first,at_,n,r):Int×Int×Int×Int×bJ)=>
  if decide (n<=15)then
   if at_==((uz t.lens).length:Int)then
    some (.inr (0,13,r))
   else
    aZ (fA r 1) fun g=>
    if g.2.1 !=0 then
     some (.inr (0,g.2.1,g.2.2))
    else
     a8 (0<=n/\n<16)<|
     if decide (aC ((aC (J3 .i64 (aC (lz .i64 code 1)) (aC (g.1.toNat:Int)))) -(aC (lz .i64 first 1)))<vx t.lens n)then
      a8 (0<=aC ((aC (at_+(aC (J3 .i64 (aC (lz .i64 code 1)) (aC (g.1.toNat:Int)))))) -(aC (lz .i64 first 1)))/\aC ((aC (at_+(aC (J3 .i64 (aC (lz .i64 code 1)) (aC (g.1.toNat:Int)))))) -(aC (lz .i64 first 1)))<(uz t.lens).length)<|
      some (.inr (ix (uz t.lens) (aC ((aC (at_+(aC (J3 .i64 (aC (lz .i64 code 1)) (aC (g.1.toNat:Int)))))) -(aC (lz .i64 first 1)))),0,g.2.2))
     else
      some (.inl (aC (J3 .i64 (aC (lz .i64 code 1)) (aC (g.1.toNat:Int))),aC ((aC (lz .i64 first 1))+vx t.lens n),aC (at_+vx t.lens n),aC (n+1),g.2.2))
  else
   some (.inr (0,13,r))) (0,0,0,1,r)
def PG{X Y α:Type}{o:Option (X⊕Y)}{z:X⊕Y}{F:X->Option α}{G:Y->Option α}{r:Option α}(h:o=some z)(k:jg F G z=r):zj o F G=r:=by
 rw[h]
 cases z<;>exact k
def MV{X Y α:Type}{o:Option (X⊕Y)}{z:X⊕Y}{F:X->Option α}{G:Y->Option α}{r:Option α}(h:o=some z)(k:jg F G z=r):nV o F G=r:=by
 rw[h]
 cases z<;>exact k
def rT{X Y α:Type}{o:Option (X⊕Y)}{F:X->Option α}{G:Y->Option α}{P:α->Prop}(Q:X⊕Y->Prop)(h:∃z,o=some z/\Q z)(k:∀z,Q z->∃x,jg F G z=some x/\P x):∃x,zj o F G=some x/\P x:=by
 obtain⟨z,hz,hq⟩:=h
 obtain⟨x,hx,hp⟩:=k z hq
 exact⟨x,PG hz hx,hp⟩
def Cf{X Y α:Type}{o:Option (X⊕Y)}{F:X->Option α}{G:Y->Option α}{P:α->Prop}(Q:X⊕Y->Prop)(h:∃z,o=some z/\Q z)(k:∀z,Q z->∃x,jg F G z=some x/\P x):∃x,nV o F G=some x/\P x:=by
 obtain⟨z,hz,hq⟩:=h
 obtain⟨x,hx,hp⟩:=k z hq
 exact⟨x,MV hz hx,hp⟩
def kS{X α:Type}{o:Option X}{F:X->Option α}{P:α->Prop}(Q:X->Prop)(h:∃z,o=some z/\Q z)(k:∀z,Q z->∃x,F z=some x/\P x):∃x,aZ o F=some x/\P x:=by
 obtain⟨z,hz,hq⟩:=h
 obtain⟨x,hx,hp⟩:=k z hq
 exact⟨x,ah hz hx,hp⟩
def Pj{X α:Type}{o:Option X}{F:X->Option α}{P:α->Prop}(Q:X->Prop)(h:∃z,o=some z/\Q z)(k:∀z,Q z->∃x,F z=some x/\P x):∃x,jn o F=some x/\P x:=by
 obtain⟨z,hz,hq⟩:=h
 obtain⟨x,hx,hp⟩:=k z hq
 exact⟨x,eJ hz hx,hp⟩
def nE(p:UInt8->Bool)(h:((List.range 256).all fun n=>p (UInt8.ofNat n))=true)(c:UInt8):p c=true:=by
 have:=List.all_eq_true.1 h c.toNat (List.mem_range.2 c.toNat_lt)
 simpa using this
def WR(c:UInt8):List Bool:=(List.range 8).map fun j=>c.toNat.testBit j
def ai(b:List UInt8):List Bool:=(b.map WR).flatten
def uI(b:List UInt8):(ai b).length=8*b.length:=by
 induction b with
 |nil=>rfl
 |cons c b ih=>grind [WR,ai,List.length_append,List.length_cons]
def Gn:∀(b:List UInt8)(n:Nat)(h:n/8<b.length),(ai b)[n]? =some ((b[n/8]).toNat.testBit (n % 8))
 |[],n,h=>absurd h (Nat.not_lt_zero _)
 |c::b,n,h=>by
  show(WR c++ai b)[n]? =_
  by_cases hn:n<8
  ·have e:n/8=0:=AT
   rw[List.getElem?_append_left (by exact hn)]
   simp[e]
   have hm:n % 8=n:=AT
   rw[hm]
   unfold WR
   rw[List.getElem?_map,List.getElem?_range hn];rfl
  ·have ih:=Gn b (n -8) A_
   rw[List.getElem?_append_right (by show 8<=n;omega)]
   show(ai b)[n -8]? =_
   rw[ih]
   have e:n/8=(n -8)/8+1:=AT
   have e2:(n -8)% 8=n % 8:=AT
   simp[e,List.getElem_cons_succ,e2]
def bv:List Bool->Nat
 |[]=>0
 |x::l=>(if x then 1 else 0)+2*bv l
theorem OW:∀l:List Bool,bv l<2^l.length
 |[]=>by decide
 |x::l=>by have:=OW l;rw[bv,List.length_cons];split<;>omega
theorem OX:∀(l:List Bool)(x:Bool),bv (l++[x])=bv l+(if x then 2^l.length else 0)
 |[],x=>by simp[bv]
 |y::l,x=>by
  rw[List.cons_append,bv,OX l x,bv,List.length_cons]
  split<;>split<;>omega
theorem UR(c:UInt8)(j:Nat)(hj:j<8):(((jt (ql .u8 (c.toNat:Int) ((jt (lz .u8 1 (j:Int))).toNat:Int))).toNat:Int)!=0)=c.toNat.testBit j:=by
 have:=nE (fun c=>(List.range 8).all fun j=>(((jt (ql .u8 c.toNat ((jt (lz .u8 1 j)).toNat:Int))).toNat:Int)!=0)==c.toNat.testBit j) x_ c
 simp_all
theorem ajP(n:Nat)(h:n<9223372036854775808):aC (ql .i64 (n:Int) 7)=((n % 8:Nat):Int):=by
 have e:ql .i64 n 7=((n % 8:Nat)):=by
  unfold ql
  have h1:(BitVec.ofInt IntKind.i64.bits n)=BitVec.ofNat 64 n:=rfl
  have h2:(BitVec.ofInt IntKind.i64.bits 7)=BitVec.ofNat 64 7:=rfl
  congr 1
  show(BitVec.ofNat 64 n&&&BitVec.ofNat 64 7).toNat=_
  rw[BitVec.toNat_and,BitVec.toNat_ofNat,Nat.mod_eq_of_lt AT]
  exact Nat.and_two_pow_sub_one_eq_mod n 3
 grind [ao]
theorem aln(n:Nat):lA .i64 (n:Int) 3=((n/8:Nat):Int):=by
 show(n:Int).fdiv 8=_
 grind
theorem gL(n:Nat)(h:n<4294967296):(eu (n:Int)).toNat=n:=by
 unfold eu
 rw[EP _ _ rfl]
 have:(2^IntKind.u32.bits)=4294967296:=D_
 grind [UInt32.toNat_ofNat']
def ac7(x k:Nat)(hx:x<2^k)(hk:k<32):(eu (J3 .u32 (x:Int) ((eu (lz .u32 1 (k:Int))).toNat:Int))).toNat=x+2^k:=by
 have hp2:2^(k+1)<=2^32:=Nat.pow_le_pow_right BY hk
 have e1:lz .u32 1 k=((2^k):Int):=by
  unfold lz
  rw[Int.one_mul,Nat.min_eq_left (by show k<=32;omega)]
  exact(Int.natCast_pow 2 k).symm
 have e2:J3 .u32 x ((2^k:Nat))=((x+2^k:Nat)):=by
  show(((BitVec.ofNat 32 x |||BitVec.ofNat 32 (2^k)).toNat):Int)=_
  rw[BitVec.toNat_or,BitVec.toNat_ofNat,BitVec.toNat_ofNat,Nat.mod_eq_of_lt AT,Nat.mod_eq_of_lt AT]
  have:=Nat.two_pow_add_eq_or_of_lt hx 1
  rw[Nat.mul_one]at this
  rw[Nat.or_comm,<-this,Nat.add_comm]
 grind [gL]
structure ZS where
 at_:Nat
 e:Int
 out:List UInt8
abbrev YO(b:List UInt8)(n:Nat):bJ:=⟨⟨(n:Int),false,true⟩,b⟩
abbrev HG(b:List UInt8)(s:ZS):cC:=⟨YO b s.at_,s.e⟩
abbrev qC(b:List UInt8)(most:Int)(s:ZS):ak:=⟨HG b s,s.out,most⟩
def ZS.fail(s:ZS)(e:Int):ZS:=if s.e=0 then{s with e:=e}else s
def aE(B:List Bool)(n:Nat)(s:ZS):Int×ZS:=if s.e≠0 then(0,s)else if B.length<s.at_+n then(0,{s with e:=10})else((bv ((B.drop s.at_).take n):Int),{s with at_:=s.at_+n})
theorem ac4{B:List Bool}{n:Nat}{s:ZS}(h:s.e≠0):aE B n s=(0,s):=if_pos h
theorem ac3{B:List Bool}{n:Nat}{s:ZS}(h:s.e=0)(h2:B.length<s.at_+n):aE B n s=(0,{s with e:=10}):=by unfold aE;grind
theorem ac5{B:List Bool}{n:Nat}{s:ZS}(h:s.e=0)(h2:¬B.length<s.at_+n):aE B n s=((bv ((B.drop s.at_).take n):Int),{s with at_:=s.at_+n}):=by unfold aE;grind
section
variable{b:List UInt8}{most:Int}
theorem sK(s:ZS)(e:Int):az (HG b s) e=some (HG b (s.fail e)):=by grind [az,ZS.fail]
theorem aht(hb:b.length<576460752303423488){at_ n:Nat}(hn:n<=32)(ha:at_<=8*b.length):fA (YO b at_) (n:Int)=
 some (if(ai b).length<at_+n then(0,10,YO b at_)else(eu (bv (((ai b).drop at_).take n):Nat),0,YO b (at_+n))):=by
 have hl:=uI b
 unfold fA bP fW
 simp only[bP,Bool.false_or,Bool.not_true,aL,Bool.false_eq_true,if_false]
 rw[if_neg C_]
 rw[ao (n:=8*(b.length:Int)) AT AT,ao AT AT]
 by_cases hlt:(ai b).length<at_+n
 ·grind
 ·rw[if_neg hlt,if_neg C_]
  refine eJ (a:=(eu (bv (((ai b).drop at_).take n):Nat),YO b (at_+n))) (oE n (fun k=>(eu (bv (((ai b).drop at_).take k):Nat),(k:Int),YO b (at_+k))) rfl AT (fun k hk=>?_) BY) rfl
  have hg:=Gn b (at_+k) AT
  have hi:ix b (((at_+k)/8:Nat):Int)=b[(at_+k)/8]:=gh AT
  have ht:((ai b).drop at_).take (k+1)=((ai b).drop at_).take k++[(b[(at_+k)/8]).toNat.testBit ((at_+k)% 8)]:=by rw[List.take_add_one,List.getElem?_drop,hg];rfl
  have hlen:(((ai b).drop at_).take k).length=k:=Xa3
  have hbv:=OW (((ai b).drop at_).take k)
  rw[hlen]at hbv
  have h32:2^k<2^32:=Nat.pow_lt_pow_right B_ AT
  have e32:(2:Nat)^32=4294967296:=B_
  simp only[]
  rw[if_pos C_,ht,OX,hlen]
  generalize bv (((ai b).drop at_).take k)=x at hbv
  refine eJ (a:=eu ((x+(if(b[(at_+k)/8]).toNat.testBit ((at_+k)% 8)then 2^k else 0):Nat):Int)) ?_ ?_
  ·rw[aln,bI AT]
   unfold gu gv
   simp only[Bool.false_eq_true,if_false]
   rw[ajP _ AT,bI AT,aL,hi,UR _ _ AT]
   cases(b[(at_+k)/8]).toNat.testBit ((at_+k)% 8)with
   |false=>simp
   |true=>
    simp only[if_true,aL]
    rw[bI AT,gL x AT]
    have:=ac7 x k hbv AT
    have h2:x+2^k<2^32:=by
     have:2^(k+1)<=2^32:=Nat.pow_le_pow_right B_ AT
     rw[Nat.pow_succ]at this;omega
    grind [eu,J3,lz,UInt32.toNat_inj,gL]
  grind [ao]
theorem ep{n:Nat}{s:ZS}(ha:s.at_<=8*b.length):(aE (ai b) n s).2.at_<=8*b.length/\s.at_<=(aE (ai b) n s).2.at_/\0<=(aE (ai b) n s).1/\(aE (ai b) n s).1<2^n/\(aE (ai b) n s).2.out=s.out/\((aE (ai b) n s).2.e=0->s.e=0/\(aE (ai b) n s).2.at_=s.at_+n):=by
 have hl:=uI b
 have hp:(0:Int)<2^n:=Int.pow_pos BY
 unfold aE
 split
 ·grind
 ·split
  ·grind
  ·grind [OW,ai,List.length_take,List.length_drop,bv]
def Oa(hb:b.length<576460752303423488){n:Nat}(hn:n<=31){s:ZS}(ha:s.at_<=8*b.length):aK (HG b s) (n:Int)=some ((aE (ai b) n s).1,HG b (aE (ai b) n s).2):=by
 have hbv:=OW (((ai b).drop s.at_).take n)
 have hlen:(((ai b).drop s.at_).take n).length<=n:=List.length_take_le _ _
 have h31:2^(((ai b).drop s.at_).take n).length<=2^31:=Nat.pow_le_pow_right B_ AT
 unfold aK
 by_cases he:s.e=0
 ·rw[if_neg A_,aht hb AT ha]
  by_cases hlt:(ai b).length<s.at_+n
  ·rw[if_pos hlt,ac3 he hlt]
   simp[he]
   rfl
  ·rw[if_neg hlt,ac5 he hlt]
   show aZ (az (HG b {s with at_:=s.at_+n}) 0) _=_
   rw[sK,aL]
   grind [aC,eu,gL,ao,ZS.fail]
 ·rw[if_pos A_,ac4 he]
end
def hv(x:Int):Int:=32768/2^x.toNat
def krL:List Int->Int->Option Int
 |[],s=>some s
 |x::l,s=>if x<0\/x>15 then none else krL l (if x>0 then s+hv x else s)
def PI(l:List Int):Int:=if l.length<1\/l.length>320 then -1 else match krL l 0 with
 |none=>-1
 |some s=>if s>32768 then -1 else s
def Fo(l:List Int):Prop:=0<l.length/\l.length<=320/\∀x∈l,0<=x/\x<=15
def Uf(x:Int):0<=hv x/\hv x<=32768:=by
 have h1:(0:Int)<2^x.toNat:=Int.pow_pos BY
 refine⟨Int.ediv_nonneg BY AT,?_⟩
 have:=Int.ediv_le_self (a:=32768) (2^x.toNat) BY
 exact this
def UD:∀(l:List Int)(s r:Int),krL l s=some r->0<=s->(∀x∈l,0<=x/\x<=15)/\0<=r
 |[],s,r,h,h0=>⟨fun x hx=>absurd hx List.not_mem_nil,by injection h with h;omega⟩
 |x::l,s,r,h,h0=>by
  rw[krL]at h
  split at h
  ·cases h
  ·have:=Uf x
   obtain⟨h1,h2⟩:=UD l _ r h A_
   grind
theorem NQ{l:List Int}(h:0<=PI l):Fo l:=by
 unfold PI at h
 split at h
 ·omega
 ·cases hk:krL l 0 with
  |none=>grind
  |some s=>exact⟨AT,AT,(UD l 0 s hk (Int.le_refl _)).1⟩
theorem adQ{x:Int}(h0:0<=x)(h:x<=15):lA .i64 32768 x=hv x:=by
 have:x=0\/x=1\/x=2\/x=3\/x=4\/x=5\/x=6\/x=7\/x=8\/x=9\/x=10\/x=11\/x=12\/x=13\/x=14\/x=15:=AT
 rcases this with h|h|h|h|h|h|h|h|h|h|h|h|h|h|h|h<;>subst h<;>rfl
def UE(l:List Int):pj l=some (PI l):=by
 unfold pj PI
 by_cases hl:l.length<1\/l.length>320
 ·grind
 ·rw[if_neg C_,if_neg hl]
  generalize hr:krL l 0=r
  refine PG (z:=match r with|none=>.inr (-1)|some s=>.inl s) (MV (z:=match r with|none=>.inr (-1)|some s=>.inl s) (iter_eq (fun(s:Int×Int)=>∃k:Nat,s.2=k/\k<=l.length/\0<=s.1/\s.1<=32768*k/\krL (l.drop k) s.1=r) (fun s=>l.length -s.2.toNat) ⟨0,rfl,Nat.zero_le _,Int.le_refl _,Int.le_refl _,hr⟩ C_ ?_) (by cases r<;>rfl)) ?_
  ·rintro⟨sum,t⟩ ⟨k,rfl,hk,h0,h1,hz⟩
   simp only at h0 h1 hz⊢
   by_cases hlt:k<l.length
   ·rw[List.drop_eq_getElem_cons hlt,krL]at hz
    have hix:=gh hlt
    rw[if_pos C_]
    simp only[hix]
    generalize l[k]=x at hz
    by_cases hx:x<0\/x>15
    ·subst hz
     simp_all
    ·rw[if_neg hx]at hz
     have hh:=Uf x
     refine .inl ⟨((if x>0 then sum+hv x else sum),((k+1:Nat):Int)),PG (z:=.inl (if x>0 then sum+hv x else sum)) (ay AT (an C_ ?_)) ?_,⟨k+1,rfl,hlt,?_,?_,hz⟩,?_⟩
     ·by_cases hx0:x>0
      ·rw[if_pos C_,if_pos hx0,bI AT,adQ AT AT,ao AT AT]
      grind
     ·grind [nW,ao]
     ·grind
     ·grind
     grind
   ·rw[List.drop_eq_nil_of_le AT]at hz
    rw[if_neg C_]
    subst hz
    exact .inr rfl
  ·cases r with
   |none=>rfl
   |some s=>
    show(if decide (s>32768)=true then _ else _)=_
    grind
def sy(n:Nat):List Int->Nat->List Int
 |[],_=>[]
 |x::l,o=>if x=(n:Int)then(o:Int)::sy n l (o+1)else sy n l (o+1)
def ct(l:List Int)(n:Nat):Nat:=if n=0 then 0 else(sy n l 0).length
theorem EE(n:Nat):∀(l:List Int)(o:Nat),(sy n l o).length=(l.filter fun x=>x==(n:Int)).length
 |[],_=>rfl
 |x::l,o=>by
  rw[sy,List.filter_cons]
  by_cases h:x=n
  ·rw[if_pos h,if_pos A_,List.length_cons,List.length_cons,EE n l]
  ·rw[if_neg h,if_neg A_,EE n l]
def JP{n:Nat}:∀(l:List Int)(o:Nat)(x:Int),x∈sy n l o->(o:Int)<=x/\x<((o+l.length:Nat):Int)
 |[],_,_,h=>absurd h List.not_mem_nil
 |y::l,o,x,h=>by
  have ih:=JP (n:=n) l (o+1) x
  rw[sy]at h
  grind
theorem abG(l:List Int)(n:Nat):ir l n=(ct l n:Int):=by grind [ir,ct,EE]
theorem V0(L:List Int)(n:Nat):∀(l:List Int)(o:Nat),L.drop o=l->((List.range' o l.length).map fun k=>((k:Nat):Int)).filter (fun k=>ix L k==(n:Int))=sy n l o
 |[],_,_=>rfl
 |x::l,o,h=>by
  have ho:o<L.length:=by
   have:=congrArg List.length h
   rw[List.length_drop,List.length_cons]at this;omega
  rw[List.drop_eq_getElem_cons ho]at h
  injection h with h1 h2
  have hi:ix L o=x:=by rw[gh ho,h1]
  rw[List.length_cons,List.range'_succ,List.map_cons,List.filter_cons,V0 L n l (o+1) h2,sy]
  grind
theorem NC(l:List Int)(n:Nat):(idxs l).filter (fun k=>ix l k==(n:Int))=sy n l 0:=by
 have:=V0 l n l 0 rfl
 rw[<-List.range_eq_range']at this
 exact this
def pre(l:List Int):Nat->List Int
 |0=>[]
 |m+1=>pre l m++sy (m+1) l 0
theorem Ey(l:List Int):uz l=pre l 15:=by
 unfold uz
 simp only[NC]
 have:∀n,((List.range n).map fun n=>sy (n+1) l 0).flatten=pre l n:=by
  intro n
  induction n with
  |zero=>rfl
  |succ n ih=>grind [List.range_succ,List.flatten_append,pre]
 exact this 15
def PW(l:List Int)(m:Nat):∀j,∃r,pre l (m+j)=pre l m++r
 |0=>⟨[],(List.append_nil _).symm⟩
 |j+1=>by
  obtain⟨r,hr⟩:=PW l m j
  grind [sy,pre,List.append_assoc]
def cp(l:List Int)(m:Nat):Nat:=(l.filter fun x=>decide (0<x/\x<=(m:Int))).length
theorem O8(m:Nat):∀l:List Int,cp l (m+1)=cp l m+(l.filter fun x=>x==((m+1:Nat):Int)).length
 |[]=>rfl
 |x::l=>by
  have ih:=O8 m l
  unfold cp at ih⊢
  grind
theorem Cj(l:List Int):∀m,(pre l m).length=cp l m
 |0=>by
  unfold cp
  rw[List.filter_eq_nil_iff.2]
  ·rfl
  grind
 |m+1=>by rw[pre,List.length_append,Cj l m,O8,EE]
def Z9{m M:Nat}(hm:m<=M):∀l:List Int,cp l m<=cp l M/\(cp l m=cp l M↔∀x∈l,¬((m:Int)<x/\x<=(M:Int)))
 |[]=>⟨Nat.le_refl _,by simp[cp]⟩
 |x::l=>by
  have ih:=Z9 hm l
  unfold cp at ih⊢
  grind
def wU(l:List Int):Nat->Nat
 |0=>0
 |n+1=>2*(wU l n+ct l n)
def MI(l:List Int)(B:List Bool):Nat->Nat->Nat->Int×Nat×Int
 |0,n,_=>(0,n -1,13)
 |f+1,n,code=>if l.any (fun x=>decide (x>=(n:Int)))=false then(0,n -1,13)else match B[n -1]? with
  |none=>(0,n -1,10)
  |some x=>if 2*code+(if x then 1 else 0) -wU l n<(sy n l 0).length then((sy n l 0).getD (2*code+(if x then 1 else 0) -wU l n) 0,n,0)else MI l B f (n+1) (2*code+(if x then 1 else 0))
def tk(l:List Int)(B:List Bool):Int×Nat×Int:=MI l B 15 1 0
theorem aic(c:Nat)(h:c<4611686018427387904):aC (lz .i64 (c:Int) 1)=((2*c:Nat):Int):=by
 have:lz .i64 c 1=c*2:=rfl
 grind [ao]
theorem or1(c:Nat)(x:Bool)(h:c<2305843009213693952):aC (J3 .i64 (((2*c:Nat):Nat):Int) (aC (((if x then 1 else 0:Nat):Nat):Int)))=((2*c+(if x then 1 else 0):Nat):Int):=by
 have hx:(if x then 1 else 0)<2:=A_
 generalize(if x then 1 else 0)=y at*
 have e:J3 .i64 (((2*c:Nat):Nat)) y=((2*c+y:Nat)):=by
  show(((BitVec.ofNat 64 (2*c)|||BitVec.ofNat 64 y).toNat):Int)=_
  rw[BitVec.toNat_or,BitVec.toNat_ofNat,BitVec.toNat_ofNat,Nat.mod_eq_of_lt AT,Nat.mod_eq_of_lt AT]
  have:=Nat.two_pow_add_eq_or_of_lt (i:=1) AT c
  rw[<-this]
 grind [ao]
theorem Ti{b:List UInt8}{a m:Nat}:((ai b).drop a)[m]? =(ai b)[a+m]? :=BY
theorem ahx{b:List UInt8}(hb:b.length<576460752303423488){l:List Int}(hl:Fo l)(B:Nat){a:Nat}(ha:a<=8*b.length):
 iw ⟨B,l⟩ (YO b a)=some ((tk l ((ai b).drop a)).1,(tk l ((ai b).drop a)).2.2,YO b (a+(tk l ((ai b).drop a)).2.1)):=by
 have hbl:=uI b
 obtain⟨hl0,hl1,hl2⟩:=hl
 unfold iw tk
 generalize hR:MI l ((ai b).drop a) 15 1 0=R
 refine iter_eq (fun(s:Int×Int×Int×Int×bJ)=>∃m c:Nat,m<=15/\s=((c:Int),((wU l m+ct l m:Nat):Int),((pre l m).length:Int),((m+1:Nat):Int),YO b (a+m))/\a+m<=8*b.length/\wU l m+ct l m<=c/\c<2^m/\MI l ((ai b).drop a) (15 -m) (m+1) c=R)
  (fun s=>(16 -s.2.2.2.1).toNat) ⟨0,0,AT,rfl,ha,Nat.le_refl _,B_,hR⟩ A_ ?_
 rintro s ⟨m,c,hm,rfl,ham,hfc,hc,hz⟩
 have amF:2^m<=2^15:=Nat.pow_le_pow_right B_ hm
 have e15:(2:Nat)^15=32768:=B_
 simp only
 by_cases h15:m=15
 ·subst h15
  rw[show(15 -15:Nat)=0 from rfl,MI]at hz
  grind
 obtain⟨f,hf⟩:∃f,15 -m=f+1:=⟨14 -m,AT⟩
 rw[hf,MI]at hz
 rw[if_pos C_]
 rw[Ey]
 have hcl:=Z9 (m:=m) (M:=15) hm l
 rw[<-Cj,<-Cj]at hcl
 have aj9:l.any (fun x=>decide (x>=((m+1:Nat):Int)))=false↔(pre l m).length=(pre l 15).length:=by
  rw[hcl.2,List.any_eq_false]
  refine⟨fun h x hx=>?_,fun h x hx=>?_⟩
  ·grind
  ·grind
 by_cases QZ:(pre l m).length=(pre l 15).length
 ·grind
 rw[if_neg (fun h=>QZ (aj9.1 h))]at hz
 rw[show m+1 -1=m from rfl,Ti]at hz
 rw[if_neg (fun h=>QZ A_)]
 have hG:=aht hb (at_:=a+m) (n:=1) B_ ham
 rw[show((1:Nat):Int)=1 from rfl]at hG
 rw[hG]
 by_cases hcut:(ai b).length<a+m+1
 ·rw[List.getElem?_eq_none AT]at hz
  simp only at hz
  subst hz
  simp_all
 ·rw[if_neg hcut,aL]
  obtain⟨x,hx⟩:∃x,(ai b)[a+m]? =some x:=⟨_,List.getElem?_eq_getElem AT⟩
  rw[hx]at hz
  simp only at hz
  have htk:((ai b).drop (a+m)).take 1=[x]:=by
   rw[List.drop_eq_getElem_cons AT,List.take_succ_cons,List.take_zero]
   rw[List.getElem?_eq_getElem AT]at hx
   injection hx with hx;rw[hx]
  rw[htk,show bv [x]=(if x then 1 else 0:Nat) by unfold bv;rfl]
  have hx2:(if x then 1 else 0:Nat)<2:=by split<;>omega
  have hu:((eu (((if x then 1 else 0:Nat):Nat):Int)).toNat:Int)=((if x then 1 else 0:Nat):Int):=by rw[gL _ AT]
  simp only[bne_self_eq_false,Bool.false_eq_true,if_false,hu]
  rw[bI AT,aic c AT,or1 c x AT,aic _ AT]
  have hfs:wU l (m+1)=2*(wU l m+ct l m):=rfl
  rw[<-hfs]
  have hcz:vx l ((m+1:Nat):Int)=((sy (m+1) l 0).length:Int):=by
   unfold vx
   rw[Int.toNat_natCast,abG];rfl
  have hpl:(pre l m).length<=320:=by rw[Cj];exact Nat.le_trans (List.length_filter_le _ _) hl1
  have hsl:(sy (m+1) l 0).length<=320:=by rw[EE];exact Nat.le_trans (List.length_filter_le _ _) hl1
  rw[hcz]
  generalize hq:2*c+(if x then 1 else 0)=c' at*
  have hc':wU l (m+1)<=c'/\c'<65536:=by rw[hfs];omega
  have hc2:c'<2^(m+1):=by rw[Nat.pow_succ];omega
  have ew1:aC ((c':Int) -((wU l (m+1):Nat):Int))=((c' -wU l (m+1):Nat):Int):=E_
  have ew2:aC (aC (((pre l m).length:Int)+(c':Int)) -((wU l (m+1):Nat):Int))=(((pre l m).length+(c' -wU l (m+1)):Nat):Int):=by rw[ao (n:=((pre l m).length:Int)+(c':Int)) AT AT,ao AT AT];omega
  rw[ew1,ew2]
  by_cases hin:c' -wU l (m+1)<(sy (m+1) l 0).length
  ·rw[if_pos hin]at hz
   subst hz
   obtain⟨r,hr⟩:=PW l (m+1) (14 -m)
   rw[show m+1+(14 -m)=15 by omega,show pre l (m+1)=pre l m++sy (m+1) l 0 from rfl]at hr
   have kq:(pre l 15)[(pre l m).length+(c' -wU l (m+1))]? =some ((sy (m+1) l 0).getD (c' -wU l (m+1)) 0):=by rw[hr,List.append_assoc,List.getElem?_append_right AT,Nat.add_sub_cancel_left,List.getElem?_append_left hin,List.getElem?_eq_getElem hin,List.getD_eq_getElem?_getD,List.getElem?_eq_getElem hin];rfl
   have hlt:=(List.getElem?_eq_some_iff.1 kq).1
   rw[if_pos C_,bI AT,UA kq]
   grind
  ·rw[if_neg hin]at hz
   rw[if_neg C_]
   refine .inl ⟨_,rfl,⟨m+1,c',AT,?_,AT,?_,hc2,?_⟩,?_⟩
   ·have e1:ct l (m+1)=(sy (m+1) l 0).length:=rfl
    rw[ao AT AT,ao AT AT,ao AT AT,pre,List.length_append,e1]
    grind
   ·have e1:ct l (m+1)=(sy (m+1) l 0).length:=rfl
    grind
   ·grind
   grind [ao]
theorem HM{α:Type}(l:List α){i:Int}{x:α}(h0:0<=i)(h:i<l.length):(JU l i x).length=l.length:=by unfold JU;simp;omega
end Go.AB
end
section
set_option maxRecDepth 16000
namespace Go.AB
open Go
open Go.Proofs.Tryz (prog)
def fL(x_0:Int):Option (Bool):=some (x_0 !=x_0)
def sH{x_0}:FF 181 [.int .i64 x_0] (fL x_0) fun r=>[.bool r]:=by
 intro s Q
 exact FC 6 [⟨2,true,none⟩] 0xa1c396387ce7f58100d920824473a fL.eq_1
def dp(x_0:Int)(y_1:Int):Option (Int):=
 aZ (fL x_0) fun r1=>
 aZ (fL y_1) fun r2=>
 if r1 then
  if r2 then
   some 0
  else
   some (-1)
 else
  if r2 then
   some 1
  else
   if decide (x_0<y_1)then
    some (-1)
   else
    if decide (x_0>y_1)then
     some 1
    else
     some 0
def xZ{x_0 y_1}:FF 148 [.int .i64 x_0,.int .i64 y_1] (dp x_0 y_1) fun r=>[.int .i64 r]:=by
 intro s Q
 refine FR 20 [⟨4,true,none⟩] 0x77a655631f5dd007c75a30eb93b9ca53d795df717bd0288dc7a31dc467332a089a32fd50510ca3614e8f5f3aa60b97ba8a7ac8e50adc412df602ac320dfe0bca690463c48f2ce6a5c751af3ec7191f72cef8a47aba5c19b8ceb3ed07ecc92299daae7e0d3980083fa dp.eq_1 ?_
 repeat'(first
  |(with_reducible first|refine aN (fun _(h:fL x_0=some _)=>(kK sH h:)) (fun r1=>?_)|refine aN (fun _(h:fL y_1=some _)=>(kK sH h:)) (fun r2=>?_))
  |refine Xe4 ?_|exact Xf8)
def lF{x_0 y_1}{s:ae}{r:Int}(h:dp x_0 y_1=some r):FE prog 148 [.int .i64 x_0,.int .i64 y_1] s [.int .i64 r] s:=xZ ⟨r,h,rfl,rfl⟩
attribute[-go_sem] Nat.add_zero mi cy bX cP bD bV
namespace SI
abbrev slL(l:List Int):AV:=.sl false 1 l.length (flat l)
def C5(lens:List Int)(x y:Int):Option Int:=a8 (0<=x/\x<lens.length)<|a8 (0<=y/\y<lens.length)<|dp (ix lens x) (ix lens y)
def BL(lens:List Int)(x y:Int):Bool:=decide (ix lens x<ix lens y)||(ix lens x==ix lens y&&decide (x<y))
def Yg(lens:List Int):TP (BL lens):=by
 refine⟨fun x y h=>?_,fun x y z h1 h2=>?_⟩
 ·simp only[BL,Bool.or_eq_true,decide_eq_true_eq,Bool.and_eq_true,beq_iff_eq,Bool.or_eq_false_iff,decide_eq_false_iff_not,Bool.and_eq_false_iff,beq_eq_false_iff_ne]at*
  omega
 ·simp only[BL,Bool.or_eq_false_iff,decide_eq_false_iff_not,Bool.and_eq_false_iff,beq_eq_false_iff_ne]at*
  omega
def OKc(lens:List Int)(y x:Int):Prop:=0<=x/\x<y/\y<lens.length
section
variable{lens:List Int}{Lb:Nat}
def af0{x y:Int}(h:OKc lens x y):∃c,C5 lens x y=some c/\decide (c<0)=BL lens x y:=by
 obtain⟨h1,h2,h3⟩:=h
 unfold C5 dp fL BL
 have e1:∀z:Int,(z !=z)=false:=fun z=>BY
 rw[bI AT,bI AT,e1,e1,aL,aL,if_neg B_,if_neg B_]
 have e2:decide (x<y)=false:=C_
 rw[e2,Bool.and_false,Bool.or_false]
 cases h:decide (ix lens x<ix lens y)with
 |true=>exact⟨-1,BY,rfl⟩
 |false=>
  by_cases h2:decide (ix lens x>ix lens y)=true
  ·exact⟨1,by simp[h2],rfl⟩
  ·exact⟨0,by simp[h2],rfl⟩
def XD{x y c:Int}{s:ae}(hLb:s Lb=some (.cells [slL lens]))(hc:C5 lens x y=some c):FE prog 292 [.int .i64 x,.int .i64 y,.ref Lb 0] s [.int .i64 c] s:=by
 have h:ok (C5 lens x y) (fun r=>r=c):=⟨c,hc,rfl⟩
 revert h
 intro h
 refine FP 15 [⟨5,true,none⟩] (dec 0x8f9a688af76cf1f4716db204c98839da7c8158260a739992e0b7adc976400a25a) By rfl ?_
 unfold C5 at h
 rw[fu,fu]at h
 obtain⟨h1,h2,r,hr,rfl⟩:=h
 refine Xf9 ?_
 refine Xg2 hLb ?_
 refine⟨h1,h2,?_⟩
 refine⟨_,rfl,lF hr,?_⟩
 exact Xf8
def TT{x y c:Int}{s:ae}{rb:Nat}{o:SO}(hLb:s Lb=some (.cells [slL lens]))(hne:Lb≠rb)(hc:C5 lens x y=some c):FE prog 292 [.int .i64 x,.int .i64 y,.ref Lb 0] (s.set rb o) [.int .i64 c] (s.set rb o):=XD (by simp[ae.set,hne,hLb]) hc
def sgH(lens:List Int)(Lb:Nat):SG (Int)where
 lt:=BL lens
 tp:=Yg lens
 Bf:=fun x y=>OKc lens y x
 cm:=C5 lens
 cv:=af0
 z:=.int .i64 0
 fc:=292
 cl:=[.ref Lb 0]
 w1:=rfl
 en:=fun _=>⟨rfl,fun _=>rfl,rfl,rfl,rfl,fun _ d=>IN,rfl,rfl,rfl,fun _=>rfl,rfl,rfl⟩
 ok:=By
 fi:=304
 fw:=309
 fr:=308
 fy:=305
 fs:=299
 fo:=291
 hi:=By
 hw:=By
 hr:=By
 hy:=By
 hs:=By
 ho:=By
def RN{s:ae}{rb cap:Nat}{sp:List AV}{l:List Int}{Q:List AV->ae->Prop}(hLb:s Lb=some (.cells [slL lens]))(hne:Lb≠rb)(hl:(l.length:Int)<2^46)(hz:l.Pairwise fun u v=>u<v)(hzb:∀z∈l,0<=z/\z<lens.length)
 (hq:∀Z,Z.Perm l->jS (BL lens) Z->Q [] (s.set rb (.cells (flat Z++sp)))):FN prog 291 [.arr rb 0 l.length cap,.fn 292 [] [.ref Lb 0]] (s.set rb (.cells (flat l++sp))) Q:=
 HF (I:=sgH lens Lb) (fun hc=>TT hLb hne hc) hl (hz.imp_of_mem fun ha hb h=>⟨(hzb _ ha).1,h,(hzb _ hb).2⟩) hq
def RM{Lb:Nat}{s:ae}{Q:List AV->ae->Prop}(hq:Q [] s):FN prog 291 [.arr 0 0 0 0,.fn 292 [] [.ref Lb 0]] s Q:=HE (sgH [] Lb) hq
end
end SI
end Go.AB
end
