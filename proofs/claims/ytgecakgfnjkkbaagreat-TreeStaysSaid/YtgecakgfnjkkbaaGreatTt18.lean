/- A part. -/
import Derived.Test.YtgecakgfnjkkbaaGreatTt17
import Derived.Test.YtgecakgfnjkkbaaGreatTt16
set_option linter.defProp false
set_option linter.unusedSimpArgs false
set_option linter.unusedVariables false
section
set_option maxRecDepth 16000
namespace Go.AB
open Go
open Go.Proofs.Tryz (prog)
attribute[-go_sem] cj cS bK ch
structure iT where
 at_:Int
 tK:Bool
 wg:Bool
 deriving DecidableEq
instance:aP iT:=⟨3,fun x=>[.int .i64 x.at_,.bool x.tK,.bool x.wg],(iT.mk 0 false false),By,fun _=>rfl,fun _=>rfl⟩
@[go_sem]abbrev cX7(x:iT):List AV:=[.int .i64 x.at_,.bool x.tK,.bool x.wg]
structure bM where
 aB:iT
 b_:(List UInt8)
instance:aP bM:=⟨4,fun x=>[.int .i64 x.aB.at_,.bool x.aB.tK,.bool x.aB.wg,sF 1 x.b_],(bM.mk (iT.mk 0 false false) []),By,fun _=>rfl,fun _=>rfl⟩
@[go_sem]abbrev rI(x:bM):List AV:=[.int .i64 x.aB.at_,.bool x.aB.tK,.bool x.aB.wg,sF 1 x.b_]
def bQ(r_0:bM):Option (Bool):=some (false||(!r_0.aB.wg))
def vt{r_0}{B0:Nat}{s:ae}{Q:List AV->ae->Prop}(hB0:s B0=some (.cells (rI r_0))):ok (bQ r_0) (fun r=>Q [.bool r] s)->FN prog 244 [.ref B0 0] s Q:=by
 rw[<-bq hB0]
 exact FC 13 [⟨2,true,none⟩] 0xf3df6487d5dc8caae6e73d471d68afc7097eedded84a85be7bc53d341f4824473a bQ.eq_1
def ib{r_0}{B0:Nat}{s:ae}{r:Bool}(hB0:s B0=some (.cells (rI r_0)))(h:bQ r_0=some r):FE prog 244 [.ref B0 0] s [.bool r] s:=vt hB0 ⟨r,h,rfl,rfl⟩
def fV(r_0:bM):Option (Int):=
 aQ (bQ r_0) fun r1=>
 if r1 then
  some 0
 else
  some (aC ((aC (8*(r_0.b_.length:Int))) -r_0.aB.at_))
def vq{r_0}{B0:Nat}{s:ae}{Q:List AV->ae->Prop}(hB0:s B0=some (.cells (rI r_0))):ok (fV r_0) (fun r=>Q [.int .i64 r] s)->FN prog 284 [.ref B0 0] s Q:=by
 rw[<-bq hB0]
 refine FR 17 [⟨2,true,none⟩] 0x22ec2d896e2e8b16f968842e1db68c8bf8f0ec475a93243ea51af5f1b11315116a8e04e2eebb9ed182b3489a40a0227cc00473a fV.eq_1 ?_
 repeat'(first
  |with_reducible refine au (fun _(h:bQ r_0=some _)=>ib (B0:=B0) C_ h) (fun r1=>?_)
  |refine Xe2 ?_|exact Xf6)
def vp{r_0}{B0:Nat}{s:ae}{r:Int}(hB0:s B0=some (.cells (rI r_0)))(h:fV r_0=some r):FE prog 284 [.ref B0 0] s [.int .i64 r] s:=vq hB0 ⟨r,h,rfl,rfl⟩
def gw(p_0:iT):Option (UInt8):=
 if p_0.tK then
  a8 (0<=aC (qb .i64 p_0.at_ 7))<|
  some (ju (lz .u8 128 (aC (qb .i64 p_0.at_ 7))))
 else
  a8 (0<=aC (qb .i64 p_0.at_ 7))<|
  some (ju (ly .u8 1 (aC (qb .i64 p_0.at_ 7))))
def wJ{p_0}{B0:Nat}{preB0 postB0:List AV}{oB0:Nat}{s:ae}{Q:List AV->ae->Prop}(hB0:s B0=some (.cells (Wi preB0 (cX7 p_0) postB0)))(eB0:preB0.length=oB0):ok (gw p_0) (fun r=>Q [.int .u8 r.toNat] s)->FN prog 285 [.ref B0 oB0] s Q:=by
 subst eB0
 rw[<-bq hB0]
 exact FC 19 [⟨2,true,none⟩] 0x46f6b8878e16351683b16f559e67f0f60e902821d48ba78944dc0b70ccefeb7ea2feba88207f1535efc80cf99a1776bdb84ba1ffcc798473a gw.eq_1
def wI{p_0}{B0:Nat}{preB0 postB0:List AV}{oB0:Nat}{s:ae}{r:UInt8}(hB0:s B0=some (.cells (Wi preB0 (cX7 p_0) postB0)))(eB0:preB0.length=oB0)(h:gw p_0=some r):FE prog 285 [.ref B0 oB0] s [.int .u8 r.toNat] s:=wJ hB0 eB0 ⟨r,h,rfl,rfl⟩
def gx(p_0:iT)(k_1:Int)(n_2:Int):Option (Int):=
 if p_0.tK then
  some (aC ((aC (n_2 -1)) -k_1))
 else
  some k_1
def wL{p_0 k_1 n_2}{B0:Nat}{preB0 postB0:List AV}{oB0:Nat}{s:ae}{Q:List AV->ae->Prop}(hB0:s B0=some (.cells (Wi preB0 (cX7 p_0) postB0)))(eB0:preB0.length=oB0):ok (gx p_0 k_1 n_2) (fun r=>Q [.int .i64 r] s)->FN prog 286 [.ref B0 oB0,.int .i64 k_1,.int .i64 n_2] s Q:=by
 subst eB0
 rw[<-bq hB0]
 exact FC 16 [⟨6,true,none⟩] 0x7f230395bea515565de09b8e64517f62fa6a8437a8e36917afebb51776bfbf47e23c976400c0ba gx.eq_1
def wK{p_0 k_1 n_2}{B0:Nat}{preB0 postB0:List AV}{oB0:Nat}{s:ae}{r:Int}(hB0:s B0=some (.cells (Wi preB0 (cX7 p_0) postB0)))(eB0:preB0.length=oB0)(h:gx p_0 k_1 n_2=some r):FE prog 286 [.ref B0 oB0,.int .i64 k_1,.int .i64 n_2] s [.int .i64 r] s:=wL hB0 eB0 ⟨r,h,rfl,rfl⟩
def fD(r_0:bM)(n_1:Int):Option (UInt32×Int×bM):=
 aQ (bQ r_0) fun r1=>
 if r1 then
  some (0,1,r_0)
 else
  if(decide (n_1<0))||(decide (n_1>32))then
   some (0,2,r_0)
  else
   aQ (fV r_0) fun r2=>
   if decide (n_1>r2)then
    some (0,10,r_0)
   else
    jn (
     iter (fun((x5,t6,o7):UInt32×Int×bM)=>
      if decide (t6<n_1)then
       jn (
        a8 (0<=lz .i64 o7.aB.at_ 3/\lz .i64 o7.aB.at_ 3<o7.b_.length)<|
        aQ (gw o7.aB) fun r15=>
        if((ju (qb .u8 ((ix o7.b_ (lz .i64 o7.aB.at_ 3)).toNat:Int) (r15.toNat:Int))).toNat:Int)!=0 then
         aQ (gx o7.aB t6 n_1) fun r16=>
         a8 (0<=r16)<|
         some (eC (JK .u32 (x5.toNat:Int) ((eC (ly .u32 1 r16)).toNat:Int)))
        else
         some x5) fun(x11:UInt32)=>
       some (.inl (x11,aC (t6+1),(bM.mk (iT.mk (aC (o7.aB.at_+1)) o7.aB.tK o7.aB.wg) o7.b_)))
      else
       some (.inr (x5,o7))) (0,0,r_0)) fun((x3,o4):UInt32×bM)=>
    some (x3,0,o4)
def ov{r_0 n_1}{B0:Nat}{s:ae}{Q:List AV->ae->Prop}(hB0:s B0=some (.cells (rI r_0))):ok (fD r_0 n_1) (fun r=>Q [.int .u32 r.1.toNat,.int .i64 r.2.1] (s.set B0 (.cells (rI r.2.2))))->FN prog 264 [.ref B0 0,.int .i64 n_1] s Q:=by
 rw[<-bq hB0]
 refine FR 65 [⟨4,true,none⟩,⟨5,true,none⟩] 0xe568b4a9572002c09554986cb37804ab67fe40b581cf0026ebd36f8a27d509cd62a57dd734ef07cbe68dfbcb7f5581eb9d3cca8da53503f74e62c7850b5eee34669199f0d81511b55a306d468db2c807e919c2647389c5d8d80960baaf0a1093d7262d69534638ae8668b0b80ba2e567a376feba6653a89979b9684bd169b136721be7dcaca64afc630d23cd2d075568b80a784deaba81726aaa98219eb38dd0f9e235541d2d6f7291ecce370018c2b70fd1cc10cd787c77312281a3e4810e38d3dea40a8232dc4371985b169544ff6cad30c9dc8b3cde13838fabcccb4d9558b0abf424af60bfcfb9b7856334ef5714053620e56f904807d37073f16ed219d0172d5b0bdfdef09759001edd4c844b fD.eq_1 ?_
 repeat'(first
  |(with_reducible first|exact dm|refine b8 ?_ ?_|refine dv ?_|refine au (fun _(h:bQ r_0=some _)=>ib (B0:=B0) C_ h) (fun r1=>?_)|refine au (fun _(h:fV r_0=some _)=>vp (B0:=B0) C_ h) (fun r2=>?_)|refine c9 (fun _(h:gw o7.aB=some _)=>wI (B0:=B0) (preB0:=[]) (postB0:=[sF 1 o7.b_]) C_ Gq h) (fun _=>rfl) (fun r15=>?_)|refine au (fun _(h:gx o7.aB t6 n_1=some _)=>wK (B0:=B0) (preB0:=[]) (postB0:=[sF 1 o7.b_]) C_ Gq h) (fun r16=>?_))
  |((with_reducible refine dZ (live:=[(0,false),(1,false),(6,false),(23,false),(24,false)]) (fun(x11:UInt32)=>⟨[(0,.ref B0 0),(1,.int .i64 n_1),(6,.int .u32 x11.toNat),(23,.int .i64 n_1),(24,.int .i64 t6)],[],(s.set B0 (.cells (rI o7)))⟩) (fun J=>?_) ?_);rotate_left;rintro x11)
  |((with_reducible refine cX (fun((x5,t6,o7):UInt32×Int×bM)=>⟨[(0,.ref B0 0),(1,.int .i64 n_1),(6,.int .u32 x5.toNat),(23,.int .i64 n_1),(24,.int .i64 t6)],[],(s.set B0 (.cells (rI o7)))⟩) ?_ ?_);(first|exact rfl|simp -implicitDefEqProofs only[go_sem,seval]);rintro J ⟨x5,t6,o7⟩)
  |((with_reducible refine dZ (live:=[(6,false)]) (fun((x3,o4):UInt32×bM)=>⟨[(6,.int .u32 x3.toNat)],[],(s.set B0 (.cells (rI o4)))⟩) (fun J=>?_) ?_);rotate_left;rintro⟨x3,o4⟩)
  |refine Xe2 ?_|exact Xf6)
def gB(r_0:bM):Option (bM):=
 aQ (bQ r_0) fun r1=>
 if !r1 then
  some (bM.mk (iT.mk (aC (xG .i64 (aC (r_0.aB.at_+7)) 7)) r_0.aB.tK r_0.aB.wg) r_0.b_)
 else
  some r_0
def tq{r_0}{B0:Nat}{s:ae}{Q:List AV->ae->Prop}(hB0:s B0=some (.cells (rI r_0))):ok (gB r_0) (fun r=>Q [] (s.set B0 (.cells (rI r))))->FN prog 265 [.ref B0 0] s Q:=by
 rw[<-bq hB0]
 refine FR 16 [] 0x4a879fde864842855ca707c33a376548eb65770f4576974751362a18534701cb4c4c92907dc gB.eq_1 ?_
 repeat'(first
  |with_reducible refine au (fun _(h:bQ r_0=some _)=>ib (B0:=B0) C_ h) (fun r1=>?_)
  |refine Xe2 ?_|exact Xf6)
def jG(r_0:bM):Option (Int):=
 aQ (bQ r_0) fun r1=>
 if r1 then
  some 0
 else
  some r_0.aB.at_
def xM{r_0}{B0:Nat}{s:ae}{Q:List AV->ae->Prop}(hB0:s B0=some (.cells (rI r_0))):ok (jG r_0) (fun r=>Q [.int .i64 r] s)->FN prog 208 [.ref B0 0] s Q:=by
 rw[<-bq hB0]
 refine FR 10 [⟨2,true,none⟩] 0x172ccbdb4c3101e0986d5044c65400b024ca7c2ebb9ed182b3489a40a0227cc00473a jG.eq_1 ?_
 repeat'(first
  |with_reducible refine au (fun _(h:bQ r_0=some _)=>ib (B0:=B0) C_ h) (fun r1=>?_)
  |refine Xe2 ?_|exact Xf6)
def xL{r_0}{B0:Nat}{s:ae}{r:Int}(hB0:s B0=some (.cells (rI r_0)))(h:jG r_0=some r):FE prog 208 [.ref B0 0] s [.int .i64 r] s:=xM hB0 ⟨r,h,rfl,rfl⟩
structure cz where
 Reader:bM
 e_:Int
def az(s_0:cz)(e_1:Int):Option (cz):=
 if s_0.e_==0 then
  some (cz.mk s_0.Reader e_1)
 else
  some s_0
def bH{s_0 e_1}{B0 B0_Reader:Nat}{preB0 postB0:List AV}{oB0:Nat}{s:ae}{Q:List AV->ae->Prop}(hB0:s B0=some (.cells (Wi preB0 [.ref B0_Reader 0,.int .i64 s_0.e_] postB0)))(dc:s B0_Reader=some (.cells (rI s_0.Reader)))(eB0:preB0.length=oB0)(ab:B0≠B0_Reader):ok (az s_0 e_1) (fun r=>Q [] ((s.set B0 (.cells (Wi preB0 [.ref B0_Reader 0,.int .i64 r.e_] postB0))).set B0_Reader (.cells (rI r.Reader))))->FN prog 243 [.ref B0 oB0,.int .i64 e_1] s Q:=by
 subst eB0
 rw[<-bq dc,<-bq hB0]
 refine FR 13 [] 0x189bdb578f57a2137755b8efcb9da2151040493dd1652139453e az.eq_1 ?_
 repeat'(first
  |simp -implicitDefEqProofs only[go_sem,seval,ai ab,ai ab.symm,set_comm ab])
def aK(s_0:cz)(n_1:Int):Option (Int×cz):=
 if s_0.e_ !=0 then
  some (0,s_0)
 else
  aQ (fD s_0.Reader n_1) fun r1=>
  aQ (az (cz.mk r1.2.2 s_0.e_) r1.2.1) fun r2=>
  some (aC ((r1.1.toNat:Int)),r2)
def bT{s_0 n_1}{B0 B0_Reader:Nat}{preB0 postB0:List AV}{oB0:Nat}{s:ae}{Q:List AV->ae->Prop}(hB0:s B0=some (.cells (Wi preB0 [.ref B0_Reader 0,.int .i64 s_0.e_] postB0)))(dc:s B0_Reader=some (.cells (rI s_0.Reader)))(eB0:preB0.length=oB0)(ab:B0≠B0_Reader):ok (aK s_0 n_1) (fun r=>Q [.int .i64 r.1] ((s.set B0 (.cells (Wi preB0 [.ref B0_Reader 0,.int .i64 r.2.e_] postB0))).set B0_Reader (.cells (rI r.2.Reader))))->FN prog 237 [.ref B0 oB0,.int .i64 n_1] s Q:=by
 subst eB0
 rw[<-bq dc,<-bq hB0]
 refine FR 26 [⟨4,true,none⟩] 0x5d8c737773f3ae4d9978e4b6a310f6360d8edcd282ea6c6208fead82dc0c31a6ca4f558e894b4338c2857e9560730dd3967dbf0568dba78b6a84f9e23ce6cc6f6bebccf80c653980083fa aK.eq_1 ?_
 repeat'(first
  |(with_reducible first|exact dm|refine b8 ?_ ?_|refine dv ?_|refine fun hh=>ov (B0:=B0_Reader) DO (aL (show ok (fD s_0.Reader n_1) _ from hh) fun r1=>?_)|refine fun hh=>bH (B0:=B0) (B0_Reader:=B0_Reader) (preB0:=preB0) (postB0:=postB0) DO DO Gq ab (aL (show ok (az (cz.mk r1.2.2 s_0.e_) r1.2.1) _ from hh) fun r2=>?_))
  |simp -implicitDefEqProofs only[go_sem,seval,ai ab,ai ab.symm,set_comm ab])
structure ak where
 bn:cz
 gZ:(List UInt8)
 fT:Int
@[go_sem]abbrev HE(x:ak):List AV:=[sT 1 x.gZ,.int .i64 x.fT]
@[go_sem]abbrev Ex(B0_Reader:Nat)(x:ak):List AV:=[.ref B0_Reader 0,.int .i64 x.bn.e_,sT 1 x.gZ,.int .i64 x.fT]
def cK(s_0:ak)(x_1:UInt8):Option (ak):=
 if decide ((s_0.gZ.length:Int)>=s_0.fT)then
  aQ (az s_0.bn 3) fun r1=>
  some (ak.mk r1 s_0.gZ s_0.fT)
 else
  a8 ((s_0.gZ.length+[x_1].length)*1<=room)<|
  some (ak.mk s_0.bn (s_0.gZ++[x_1]) s_0.fT)
def mP{s_0 x_1}{B0 B0_Reader:Nat}{s:ae}{Q:List AV->ae->Prop}(hB0:s B0=some (.cells (Ex B0_Reader s_0)))(dc:s B0_Reader=some (.cells (rI s_0.bn.Reader)))(ab:B0≠B0_Reader):ok (cK s_0 x_1) (fun r=>Q [] ((s.set B0 (.cells (Ex B0_Reader r))).set B0_Reader (.cells (rI r.bn.Reader))))->FN prog 266 [.ref B0 0,.int .u8 x_1.toNat] s Q:=by
 rw[<-bq dc,<-bq hB0]
 refine FR 28 [] 0x487feb86e2a54cf7c8d1978cef928a9843eba47e6b3fc820b39497ad72c6b8a213df2c8039939b3a501553be381b9e104ca337e23e3cbda290a2aa9e6bae22f5265 cK.eq_1 ?_
 repeat'(first
  |(with_reducible first|exact dm|refine b8 ?_ ?_|refine dv ?_|refine fun hh=>bH (B0:=B0) (B0_Reader:=B0_Reader) (preB0:=[]) (postB0:=(HE s_0)) DO DO Gq ab (aL (show ok (az s_0.bn 3) _ from hh) fun r1=>?_))
  |simp -implicitDefEqProofs only[go_sem,seval,ai ab,ai ab.symm,set_comm ab])
def gG(s_0:ak):Option (ak):=
 aQ (gB s_0.bn.Reader) fun r1=>
 aQ (aK (cz.mk r1 s_0.bn.e_) 16) fun r2=>
 jn (
  aQ (aK r2.2 16) fun r5=>
  if(aC (YW .i64 r5.1 65535))!=r2.1 then
   aQ (az r5.2 11) fun r6=>
   some (ak.mk r6 s_0.gZ s_0.fT)
  else
   some (ak.mk r5.2 s_0.gZ s_0.fT)) fun(o4:ak)=>
 iter (fun((n7,o8):Int×ak)=>
  if(decide (n7>0))&&(o8.bn.e_==0)then
   jn (
    aQ (aK o8.bn 8) fun r12=>
    if r12.2.e_==0 then
     aQ (cK (ak.mk r12.2 o8.gZ o8.fT) (ju (r12.1))) fun r13=>
     some r13
    else
     some (ak.mk r12.2 o8.gZ o8.fT)) fun(o11:ak)=>
   some (.inl (aC (n7 -1),o11))
  else
   some (.inr o8)) (r2.1,o4)
def qT{s_0}{B0 B0_Reader:Nat}{s:ae}{Q:List AV->ae->Prop}(hB0:s B0=some (.cells (Ex B0_Reader s_0)))(dc:s B0_Reader=some (.cells (rI s_0.bn.Reader)))(ab:B0≠B0_Reader):ok (gG s_0) (fun r=>Q [] ((s.set B0 (.cells (Ex B0_Reader r))).set B0_Reader (.cells (rI r.bn.Reader))))->FN prog 238 [.ref B0 0] s Q:=by
 rw[<-bq dc,<-bq hB0]
 refine FR 51 [] 0x740b52af7368f87ef19f86072d3f90f60e3231677dca7c131f0fb06fe38907a39b879c509ae93821eb78987d6c61b0fe1a290748e40d1e09a4791a2aabe797f413e62428395094be7ec5d7ad0f7b1fde1a6c3b05915ffb301ea3c452007c3f80a48be535241fba2d7746a9af95a4faaec6f3ba17ddc1deedd8eb08ff1e8870857eb3d2005c8be98591b384298e4a0ed2bcd1c7af4eb0e6fbba8e373301e3ab5198da2139458f gG.eq_1 ?_
 repeat'(first
  |(with_reducible first|exact dm|refine b8 ?_ ?_|refine dv ?_|refine fun hh=>tq (B0:=B0_Reader) DO (aL (show ok (gB s_0.bn.Reader) _ from hh) fun r1=>?_)|refine fun hh=>bT (B0:=B0) (B0_Reader:=B0_Reader) (preB0:=[]) (postB0:=(HE s_0)) DO DO Gq ab (aL (show ok (aK (cz.mk r1 s_0.bn.e_) 16) _ from hh) fun r2=>?_)|refine fun hh=>bT (B0:=B0) (B0_Reader:=B0_Reader) (preB0:=[]) (postB0:=(HE s_0)) DO DO Gq ab (aL (show ok (aK r2.2 16) _ from hh) fun r5=>?_)|refine fun hh=>bH (B0:=B0) (B0_Reader:=B0_Reader) (preB0:=[]) (postB0:=(HE s_0)) DO DO Gq ab (aL (show ok (az r5.2 11) _ from hh) fun r6=>?_)|refine fun hh=>bT (B0:=B0) (B0_Reader:=B0_Reader) (preB0:=[]) (postB0:=(HE o8)) DO DO Gq ab (aL (show ok (aK o8.bn 8) _ from hh) fun r12=>?_)|refine fun hh=>mP (B0:=B0) (B0_Reader:=B0_Reader) DO DO ab (aL (show ok (cK (ak.mk r12.2 o8.gZ o8.fT) (ju (r12.1))) _ from hh) fun r13=>?_))
  |((have _x:=n7);clear _x;(with_reducible refine dZ (live:=[(0,false),(2,false)]) (fun(o11:ak)=>⟨[(0,.ref B0 0),(2,.int .i64 n7)],[],((s.set B0 (.cells (Ex B0_Reader o11))).set B0_Reader (.cells (rI o11.bn.Reader)))⟩) (fun J=>?_) ?_);rotate_left;rintro o11)
  |((with_reducible refine dZ (live:=[(0,false),(2,false)]) (fun(o4:ak)=>⟨[(0,.ref B0 0),(2,.int .i64 r2.1)],[],((s.set B0 (.cells (Ex B0_Reader o4))).set B0_Reader (.cells (rI o4.bn.Reader)))⟩) (fun J=>?_) ?_);rotate_left;rintro o4)
  |((with_reducible refine cX (fun((n7,o8):Int×ak)=>⟨[(0,.ref B0 0),(2,.int .i64 n7)],[],((s.set B0 (.cells (Ex B0_Reader o8))).set B0_Reader (.cells (rI o8.bn.Reader)))⟩) ?_ ?_);(first|exact rfl|simp -implicitDefEqProofs only[go_sem,seval,ai ab,ai ab.symm,set_comm ab]);rintro J ⟨n7,o8⟩)
  |simp -implicitDefEqProofs only[go_sem,seval,ai ab,ai ab.symm,set_comm ab])
def eF(s_0:ak)(qX:Int)(x7:Int):Option (ak):=
 if s_0.bn.e_ !=0 then
  some s_0
 else
  if decide (x7>(s_0.gZ.length:Int))then
   aQ (az s_0.bn 14) fun r1=>
   some (ak.mk r1 s_0.gZ s_0.fT)
  else
   if decide (qX>aC (s_0.fT -(s_0.gZ.length:Int)))then
    aQ (az s_0.bn 3) fun r2=>
    some (ak.mk r2 s_0.gZ s_0.fT)
   else
    iter (fun((t3,o4):Int×ak)=>
     if decide (t3<qX)then
      a8 (0<=aC ((o4.gZ.length:Int) -x7)/\aC ((o4.gZ.length:Int) -x7)<o4.gZ.length)<|
      a8 ((o4.gZ.length+[ix o4.gZ (aC ((o4.gZ.length:Int) -x7))].length)*1<=room)<|
      some (.inl (aC (t3+1),(ak.mk o4.bn (o4.gZ++[ix o4.gZ (aC ((o4.gZ.length:Int) -x7))]) o4.fT)))
     else
      some (.inr o4)) (0,s_0)
def qS{s_0 qX x7}{B0 B0_Reader:Nat}{s:ae}{Q:List AV->ae->Prop}(hB0:s B0=some (.cells (Ex B0_Reader s_0)))(dc:s B0_Reader=some (.cells (rI s_0.bn.Reader)))(ab:B0≠B0_Reader):ok (eF s_0 qX x7) (fun r=>Q [] ((s.set B0 (.cells (Ex B0_Reader r))).set B0_Reader (.cells (rI r.bn.Reader))))->FN prog 270 [.ref B0 0,.int .i64 qX,.int .i64 x7] s Q:=by
 rw[<-bq dc,<-bq hB0]
 refine FR 68 [] 0xf4a6e94cc9a385a1af6753f7bea8e19245c357bfebc03dbf6563a69634ef5c7e150d80c29c8f0cc382c0cb1a38709fc16494cbc91c159ac63f2c8e4c9f2116e2445b74fa5c5a1c01415a0d2b3c40d645813c28008a8d88b7a97ef881f149d6363da5b7f0be79d1daba5f64d70694d0c93545c98897a0b1f5599eb1579f7d1d214a926fc23efc7d4a38ffc247d201524f470ec2c6ce8ed477e3eb4212e2235404be0ad2b39f4b108f5de3b9e45403a39b588a07a12ff6e1bb0417e3eace009705f6ec2d2ba596222441fc072189708fd14adf96d7d7e1da2232c9f730a2b37fab2b001404a05 eF.eq_1 ?_
 repeat'(first
  |(with_reducible first|exact dm|refine b8 ?_ ?_|refine dv ?_|refine fun hh=>bH (B0:=B0) (B0_Reader:=B0_Reader) (preB0:=[]) (postB0:=(HE s_0)) DO DO Gq ab (aL (show ok (az s_0.bn 14) _ from hh) fun r1=>?_)|refine fun hh=>bH (B0:=B0) (B0_Reader:=B0_Reader) (preB0:=[]) (postB0:=(HE s_0)) DO DO Gq ab (aL (show ok (az s_0.bn 3) _ from hh) fun r2=>?_))
  |((with_reducible refine cX (fun((t3,o4):Int×ak)=>⟨[(0,.ref B0 0),(2,.int .i64 x7),(6,.int .i64 qX),(7,.int .i64 t3)],[],((s.set B0 (.cells (Ex B0_Reader o4))).set B0_Reader (.cells (rI o4.bn.Reader)))⟩) ?_ ?_);(first|exact rfl|simp -implicitDefEqProofs only[go_sem,seval,ai ab,ai ab.symm,set_comm ab]);rintro J ⟨t3,o4⟩)
  |simp -implicitDefEqProofs only[go_sem,seval,ai ab,ai ab.symm,set_comm ab])
def ft(bO:Int):Option (Int×Int×Bool):=
 if(decide (bO<257))||(decide (bO>285))then
  some (0,0,false)
 else
  if bO==285 then
   some (258,0,true)
  else
   if decide (bO<265)then
    some (aC (bO -254),0,true)
   else
    a8 (0<=aC (Int.tdiv (aC (bO -261)) 4))<|
    some (aC (3+(aC (ly .i64 (aC (4+(Int.tmod (aC (bO -261)) 4))) (aC (Int.tdiv (aC (bO -261)) 4))))),aC (Int.tdiv (aC (bO -261)) 4),true)
def yn{bO}:FF 268 [.int .i64 bO] (ft bO) fun r=>[.int .i64 r.1,.int .i64 r.2.1,.bool r.2.2]:=by
 intro s Q
 exact FC 34 [⟨2,true,none⟩,⟨3,true,none⟩,⟨4,true,none⟩] 0x7f5a2f6c722ade8f7d8e9f738c488f35803dad5020735c582325a9fa2a6383dd60ac6be3cc975413bbb0634774b4c07be310c7e79928dc9b02716d382e1489a5f32dcd2399bdcd9f5394ea6946731ecb5acf63254c6fc3a122f52bbefc89934ab0df21ab1532cb772959e1ef3d42740eb1fafb42625270581c7d2f0b1a45614a4a89922987a6912ad391543de3a512d0a14f4bfd1df6c9e4946d9003cc0047dc ft.eq_1
def eD(bO:Int):Option (Int×Int×Bool):=
 if(decide (bO<0))||(decide (bO>29))then
  some (0,0,false)
 else
  if decide (bO<4)then
   some (aC (bO+1),0,true)
  else
   a8 (0<=aC (Int.tdiv (aC (bO -2)) 2))<|
   some (aC (1+(aC (ly .i64 (aC (2+(Int.tmod bO 2))) (aC (Int.tdiv (aC (bO -2)) 2))))),aC (Int.tdiv (aC (bO -2)) 2),true)
def vC{bO}:FF 269 [.int .i64 bO] (eD bO) fun r=>[.int .i64 r.1,.int .i64 r.2.1,.bool r.2.2]:=by
 intro s Q
 exact FC 30 [⟨2,true,none⟩,⟨3,true,none⟩,⟨4,true,none⟩] 0x1a0dfc38146f066fffe5e7babbe508308d39504c623d27c287ca1c96a43d4e7624987991e591aecec6868263783c8523c36fbc8712d4f9a28f1c640e7aee6f2c97642cd30df7321bea1acc7510031dc467dd49c16071f4bc2c691585292a2648a6f70cfe980942de3957de309f7fd1df6c9e4946d9003cc0047dc eD.eq_1
def qf:Option ((List Int)):=some [16,17,18,0,8,7,9,6,10,5,11,4,12,3,13,2,14,1,15]
def zF{s:ae}{Q:List AV->ae->Prop}:ok (qf) (fun r=>Q [sT 1 r] s)->FN prog 272 [] s Q:=by exact FC 2 [⟨0,true,none⟩] 0x81ee5e1c409f72c397a5e89b6df532507cd02194ce0ddd61fd738955d09f3c9a2ad50105aaffd962cebbd4ddc497cca814d448bbde38ed7f3f54f409b1bf6c8380000000000000000000000000000000000152dd6873e83b080d0f26a7a qf.eq_1
def zE{s:ae}{r:(List Int)}(h:qf=some r):FE prog 272 [] s [sT 1 r] s:=zF ⟨r,h,rfl,rfl⟩
def po(b_0:(List UInt8)):Option (Int):=
 if decide ((b_0.length:Int)<2)then
  some 10
 else
  a8 (0<=(0:Int)/\(0:Int)<b_0.length)<|
  a8 ((!(((ju (qb .u8 ((ix b_0 0).toNat:Int) 15)).toNat:Int)!=8))=true->0<=(0:Int)/\(0:Int)<b_0.length)<|
  a8 ((!((((ju (qb .u8 ((ix b_0 0).toNat:Int) 15)).toNat:Int)!=8)||(decide (((ju (lz .u8 ((ix b_0 0).toNat:Int) 4)).toNat:Int)>7))))=true->0<=(1:Int)/\(1:Int)<b_0.length)<|
  a8 ((!(((((ju (qb .u8 ((ix b_0 0).toNat:Int) 15)).toNat:Int)!=8)||(decide (((ju (lz .u8 ((ix b_0 0).toNat:Int) 4)).toNat:Int)>7)))||(((ju (qb .u8 ((ix b_0 1).toNat:Int) 32)).toNat:Int)!=0)))=true->0<=(0:Int)/\(0:Int)<b_0.length)<|
  a8 ((!(((((ju (qb .u8 ((ix b_0 0).toNat:Int) 15)).toNat:Int)!=8)||(decide (((ju (lz .u8 ((ix b_0 0).toNat:Int) 4)).toNat:Int)>7)))||(((ju (qb .u8 ((ix b_0 1).toNat:Int) 32)).toNat:Int)!=0)))=true->0<=(1:Int)/\(1:Int)<b_0.length)<|
  if(((((ju (qb .u8 ((ix b_0 0).toNat:Int) 15)).toNat:Int)!=8)||(decide (((ju (lz .u8 ((ix b_0 0).toNat:Int) 4)).toNat:Int)>7)))||(((ju (qb .u8 ((ix b_0 1).toNat:Int) 32)).toNat:Int)!=0))||((Int.tmod (aC (JK .i64 (aC (ly .i64 (aC (((ix b_0 0).toNat:Int))) 8)) (aC (((ix b_0 1).toNat:Int))))) 31)!=0)then
   some 11
  else
   some 0
def FT{b_0}:FF 171 [sF 1 b_0] (po b_0) fun r=>[.int .i64 r]:=by
 intro s Q
 exact FC 41 [⟨2,true,none⟩] 0x1a7a28cbcd0d59abcd83a0bfe70574e8bc8b36e2fb1eb93cb4a9740fef843d29de80ccd204f206681273e05749d99ac099e1f400ebdf1a6158d4d544972638544833c82c794ad75a29c0f2c119d47cbe64d4ea5bf3b722570e2aed322d99506fd327d97d53b0ddd747bd1d203d6a3f7cae9dd389aab7f70686d7f8deaede11e4a6a14d268a2589510304986831d131f31264e606c124cff18062e3620bf349fcc00473a po.eq_1
def FQ{b_0}{s:ae}{r:Int}(h:po b_0=some r):FE prog 171 [sF 1 b_0] s [.int .i64 r] s:=FT ⟨r,h,rfl,rfl⟩
structure eR where
 a_:UInt32
 b_:UInt32
 deriving DecidableEq
instance:aP eR:=⟨2,fun x=>[.int .u32 x.a_.toNat,.int .u32 x.b_.toNat],(eR.mk 0 0),By,fun _=>rfl,fun _=>rfl⟩
def fC(h_0:eR)(p_1:(List UInt8)):Option (eR):=
 jn (
  iter (fun((p4,a5,b6):(List UInt8)×UInt32×UInt32)=>
   if decide ((p4.length:Int)>0)then
    jn (
     a8 (0<=(0:Int)/\0<=min (p4.length:Int) 5552/\min (p4.length:Int) 5552<=p4.length)<|
     iter (fun((a15,b16,n17,t18,t19,t20):UInt32×UInt32×Int×(List UInt8)×Int×Int)=>
      if decide (t20<t19)then
       a8 (0<=t20/\t20<t18.length)<|
       some (.inl (eC ((a15.toNat:Int)+((eC (((ix t18 t20).toNat:Int))).toNat:Int)),eC ((b16.toNat:Int)+((eC ((a15.toNat:Int)+((eC (((ix t18 t20).toNat:Int))).toNat:Int))).toNat:Int)),n17,t18,t19,aC (t20+1)))
      else
       some (.inr (a15,b16,n17))) (a5,b6,min (p4.length:Int) 5552,part p4 0 (min (p4.length:Int) 5552),((part p4 0 (min (p4.length:Int) 5552)).length:Int),0)) fun((a11,b12,n13):UInt32×UInt32×Int)=>
    a8 (0<=n13/\n13<=(p4.length:Int)/\(p4.length:Int)<=p4.length)<|
    some (.inl (part p4 n13 (p4.length:Int),eC (Int.tmod (a11.toNat:Int) 65521),eC (Int.tmod (b12.toNat:Int) 65521)))
   else
    some (.inr (a5,b6))) (p_1,eC ((h_0.a_.toNat:Int)+1),h_0.b_)) fun((a1,b2):UInt32×UInt32)=>
 some (eR.mk (eC (Int.tmod ((eC (((eC ((a1.toNat:Int)+65521)).toNat:Int) -1)).toNat:Int) 65521)) b2)
def tg{h_0 p_1}{B0:Nat}{s:ae}{Q:List AV->ae->Prop}(hB0:s B0=some (.cells [.int .u32 h_0.a_.toNat,.int .u32 h_0.b_.toNat])):ok (fC h_0 p_1) (fun r=>Q [] (s.set B0 (.cells [.int .u32 r.a_.toNat,.int .u32 r.b_.toNat])))->FN prog 209 [.ref B0 0,sF 1 p_1] s Q:=by
 rw[<-bq hB0]
 refine FR 58 [] 0x12e269106c76d28c8da8908d114aefe8ed22e2257b3a973819ecc0f77dbdf69f09c2e8e0f34f00e1ba3a74ab2e6a47f53a65c069e825dc4656c6dab6ec91b5fa4dbed636498a486f14cae5c12c5c0106e605ab063c5a4b4aeb333dc04bbc7f5d4f33856f9ed4ee3312f6518e62d75e8520cb99be2126e50ab824e99e748c57492d89b55d458067797ecb8d46b818fe73c858c36bf87d3ffd6a025f4f4e80f8709434dc8a8c44fdfed4fc743fef11bbd9754aeca170adc01116e9d4823e15575fca62bec9c23988936919a4f3a666ba2b4f6d03c022a199fb70f55f8acc29c08f81da2052ae1db85c68581c6d23efc26501c9a3153d7877dd8854c42b8047 fC.eq_1 ?_
 repeat'(first
  |(with_reducible first|exact dm|refine b8 ?_ ?_|refine dv ?_)
  |((with_reducible refine cX (fun((a15,b16,n17,t18,t19,t20):UInt32×UInt32×Int×(List UInt8)×Int×Int)=>⟨[(0,.ref B0 0),(1,sF 1 p4),(4,.int .u32 a15.toNat),(5,.int .u32 b16.toNat),(6,.int .i64 n17),(26,sF 1 t18),(27,.int .i64 t19),(28,.int .i64 t20)],[],(s.set B0 (.cells [.int .u32 h_0.a_.toNat,.int .u32 h_0.b_.toNat]))⟩) ?_ ?_);(first|exact rfl|simp -implicitDefEqProofs only[go_sem,seval]);rintro J ⟨a15,b16,n17,t18,t19,t20⟩)
  |((with_reducible refine dZ (live:=[(0,false),(1,true),(4,false),(5,false),(6,false)]) (fun((a11,b12,n13):UInt32×UInt32×Int)=>⟨[(0,.ref B0 0),(1,sF 1 p4),(4,.int .u32 a11.toNat),(5,.int .u32 b12.toNat),(6,.int .i64 n13)],[],(s.set B0 (.cells [.int .u32 h_0.a_.toNat,.int .u32 h_0.b_.toNat]))⟩) (fun J=>?_) ?_);rotate_left;rintro⟨a11,b12,n13⟩)
  |((with_reducible refine cX (fun((p4,a5,b6):(List UInt8)×UInt32×UInt32)=>⟨[(0,.ref B0 0),(1,sF 1 p4),(4,.int .u32 a5.toNat),(5,.int .u32 b6.toNat)],[],(s.set B0 (.cells [.int .u32 h_0.a_.toNat,.int .u32 h_0.b_.toNat]))⟩) ?_ ?_);(first|exact rfl|simp -implicitDefEqProofs only[go_sem,seval]);rintro J ⟨p4,a5,b6⟩)
  |((with_reducible refine dZ (live:=[(0,false),(4,false),(5,false)]) (fun((a1,b2):UInt32×UInt32)=>⟨[(0,.ref B0 0),(4,.int .u32 a1.toNat),(5,.int .u32 b2.toNat)],[],(s.set B0 (.cells [.int .u32 h_0.a_.toNat,.int .u32 h_0.b_.toNat]))⟩) (fun J=>?_) ?_);rotate_left;rintro⟨a1,b2⟩)
  |refine Xe2 ?_|exact Xf6)
def fe(h_0:eR):Option (UInt32):=some (eC (JK .u32 ((eC (ly .u32 (h_0.b_.toNat:Int) 16)).toNat:Int) ((eC (Int.tmod ((eC ((h_0.a_.toNat:Int)+1)).toNat:Int) 65521)).toNat:Int)))
def sP{h_0}{B0:Nat}{s:ae}{Q:List AV->ae->Prop}(hB0:s B0=some (.cells [.int .u32 h_0.a_.toNat,.int .u32 h_0.b_.toNat])):ok (fe h_0) (fun r=>Q [.int .u32 r.toNat] s)->FN prog 210 [.ref B0 0] s Q:=by
 rw[<-bq hB0]
 exact FC 15 [⟨2,true,none⟩] 0x1235f9f6346067c0b50e5284cb13179b0088f34eeb15f62b70ac55c2040132b398b3bebbf295dc3edd4c473a fe.eq_1
def sO{h_0}{B0:Nat}{s:ae}{r:UInt32}(hB0:s B0=some (.cells [.int .u32 h_0.a_.toNat,.int .u32 h_0.b_.toNat]))(h:fe h_0=some r):FE prog 210 [.ref B0 0] s [.int .u32 r.toNat] s:=sP hB0 ⟨r,h,rfl,rfl⟩
def qz(b_0:(List UInt8)):Option (UInt32):=
 aQ (fC (eR.mk 0 0) b_0) fun r1=>
 aQ (fe r1) fun r2=>
 some r2
def Hy{b_0}:FF 174 [sF 1 b_0] (qz b_0) fun r=>[.int .u32 r.toNat]:=by
 intro s Q
 intro h
 refine FN.forget ?_
 refine FP 7 [⟨2,true,none⟩] (dec 0x5b73c5b76920138d89bb01d77f5768ef3f027c23c2794fdedd4c473a) B_ rfl ?_
 revert h
 rw[qz]
 refine Xf7 ?_
 repeat'(first
  |(with_reducible first|refine fun hh=>tg (B0:=N1) C_ (aL (show ok (fC (eR.mk 0 0) b_0) _ from hh) fun r1=>?_)|refine au (fun _(h:fe r1=some _)=>sO (B0:=N1) C_ h) (fun r2=>?_))
  |((fail_if_success (have _x:=sN1));with_reducible intro hh N1 hN1;(try simp only[fB]at hN1);have sN1:=hN1;revert hh)
  |with_reducible exact fun hh=>⟨_,wG.set (wG.refl _) Xa6,hh⟩
  |refine Xe2 ?_|exact Xf6)
def Hx{b_0}{s:ae}{r:UInt32}(h:qz b_0=some r):FE prog 174 [sF 1 b_0] s [.int .u32 r.toNat] s:=Hy ⟨r,h,rfl,rfl⟩
def mJ(x_0:UInt32):Option ((List UInt8)):=some [ju (((eC (lz .u32 (x_0.toNat:Int) 24)).toNat:Int)),ju (((eC (lz .u32 (x_0.toNat:Int) 16)).toNat:Int)),ju (((eC (lz .u32 (x_0.toNat:Int) 8)).toNat:Int)),ju ((x_0.toNat:Int))]
def Cj{x_0}:FF 173 [.int .u32 x_0.toNat] (mJ x_0) fun r=>[sT 1 r]:=by
 intro s Q
 exact FC 15 [⟨2,true,none⟩] 0x1b6ca970b4a476d7e45cbd6cd88b1ba68a845d87b8a05ca2b4bf0cb90752f717eccc0bc6c9ec325f3af4bf5f8c1cd9383521798d0f2a73a mJ.eq_1
def Ci{x_0}{s:ae}{r:(List UInt8)}(h:mJ x_0=some r):FE prog 173 [.int .u32 x_0.toNat] s [sT 1 r] s:=Cj ⟨r,h,rfl,rfl⟩
def tv(a_0:(List UInt8))(b_1:(List UInt8)):Option (Bool):=some ((aO.mk a_0).b==(aO.mk b_1).b)
def Cs{a_0 b_1}:FF 152 [sF 1 a_0,sF 1 b_1] (tv a_0 b_1) fun r=>[.bool r]:=by
 intro s Q
 exact FC 10 [⟨4,true,none⟩] 0x17a82325fb78a419acfc02b1997a87144e483fa tv.eq_1
def Cr{a_0 b_1}{s:ae}{r:Bool}(h:tv a_0 b_1=some r):FE prog 152 [sF 1 a_0,sF 1 b_1] s [.bool r] s:=Cs ⟨r,h,rfl,rfl⟩
def oM(eV:(List Int)):Option (Int):=
 if(decide ((eV.length:Int)<1))||(decide ((eV.length:Int)>320))then
  some (-1)
 else
  yx (
   nE (
    iter (fun((Rp,t4):Int×Int)=>
     if decide (t4<(eV.length:Int))then
      yx (
       a8 (0<=t4/\t4<eV.length)<|
       if(decide (ix eV t4<0))||(decide (ix eV t4>15))then
        some (.inr ((-1):Int))
       else
        if decide (ix eV t4>0)then
         a8 (0<=ix eV t4)<|
         some (.inl (aC (Rp+(lz .i64 32768 (ix eV t4)))))
        else
         some (.inl Rp)) (fun(YB:Int)=>
       some (.inl (YB,aC (t4+1))))
      (fun(t11:Int)=>some (.inr (.inr t11)))
     else
      some (.inr (.inl Rp))) (0,0)) (fun(akJ:Int)=>
    some (.inl akJ))
   (fun(t6:Int)=>some (.inr t6))) (fun(Vh:Int)=>
   if decide (Vh>32768)then
    some (-1)
   else
    some Vh)
  (fun(t2:Int)=>some t2)
def EM{eV}:FF 297 [sF 1 eV] (oM eV) fun r=>[.int .i64 r]:=by
 intro s Q
 refine FR 38 [⟨2,true,none⟩] 0xa0033211092672547d86549628a79433010ac68588b1a7be6aa67491c736a4bd3b5ab26a3614c017789d74f09fa7d46b890afe15bf46e26463ab36614e39aefc68de86f33d6848edd31e5baa737a6d9afaef9794393e199cba14def8f4ca595cdd4e237b4bf5800fba1a243d8aa52621fe6c8751759aae492449e5058bec645d877674e5e09079e8543244a0e8ef42ebf4464219f9d767121d0d079bbc45f8438b983f3fade040c5123e405dd2c9b110b26313e9c0afcda48836fcc00473a oM.eq_1 ?_
 repeat'(first
  |(with_reducible first|exact dm|refine b8 ?_ ?_|refine dv ?_)
  |((with_reducible refine eH (live:=[(3,false),(14,true),(15,false),(16,false)]) (fun(YB:Int)=>⟨[(3,.int .i64 YB),(14,sF 1 eV),(15,.int .i64 (eV.length:Int)),(16,.int .i64 t4)],[],s⟩) (fun J=>?_) ?_);rotate_left;rintro YB)
  |((with_reducible refine cX (fun((Rp,t4):Int×Int)=>⟨[(3,.int .i64 Rp),(14,sF 1 eV),(15,.int .i64 (eV.length:Int)),(16,.int .i64 t4)],[],s⟩) ?_ ?_);(first|exact rfl|simp -implicitDefEqProofs only[go_sem,seval]);rintro J ⟨Rp,t4⟩)
  |((with_reducible refine eH (live:=[(3,false)]) (fun(Vh:Int)=>⟨[(3,.int .i64 Vh)],[],s⟩) (fun J=>?_) ?_);rotate_left;rintro Vh)
  |refine Xe2 ?_|exact Xf6)
set_option maxRecDepth 4000
def A3(n_0:Int):Option (Int):=
 jn (
  iter (fun((x2,k3):Int×Int)=>
   if decide (k3<n_0)then
    some (.inl (aC (2*x2),aC (k3+1)))
   else
    some (.inr x2)) (1,0)) fun(x1:Int)=>
 some x1
def su(bO:Int):Option (Int×Int×Bool):=
 if(decide (bO<257))||(decide (bO>285))then
  some (0,0,false)
 else
  if bO==285 then
   some (258,0,true)
  else
   jn (
    iter (fun((at3,k4):Int×Int)=>
     if decide (k4<bO)then
      jn (
       if decide (k4>=265)then
        some (aC (Int.tdiv (aC (k4 -261)) 4))
       else
        some 0) fun(n10:Int)=>
      aQ (A3 n10) fun r11=>
      some (.inl (aC (at3+r11),aC (k4+1)))
     else
      some (.inr at3)) (3,257)) fun(at2:Int)=>
   if decide (bO<265)then
    some (at2,0,true)
   else
    some (at2,aC (Int.tdiv (aC (bO -261)) 4),true)
def pd(bO:Int):Option (Int×Int×Bool):=
 if(decide (bO<0))||(decide (bO>29))then
  some (0,0,false)
 else
  jn (
   iter (fun((at3,k4):Int×Int)=>
    if decide (k4<bO)then
     jn (
      if decide (k4>=4)then
       some (aC (Int.tdiv (aC (k4 -2)) 2))
      else
       some 0) fun(n10:Int)=>
     aQ (A3 n10) fun r11=>
     some (.inl (aC (at3+r11),aC (k4+1)))
    else
     some (.inr at3)) (1,0)) fun(at2:Int)=>
  if decide (bO<4)then
   some (at2,0,true)
  else
   some (at2,aC (Int.tdiv (aC (bO -2)) 2),true)
end Go.AB
end
section
namespace Go.AB
open Go
structure HT where
 B:Nat
 lens:List Int
instance:Inhabited HT:=⟨⟨0,[]⟩⟩
def im(l:List Int)(n:Nat):Int:=if n=0 then 0 else((l.filter fun x=>x==(n:Int)).length:Int)
def vx(l:List Int)(n:Int):Int:=im l n.toNat
def idxs(l:List Int):List Int:=(List.range l.length).map fun(k:Nat)=>(k:Int)
def uw(l:List Int):List Int:=((List.range 15).map fun n=>(idxs l).filter fun k=>ix l k==((n+1:Nat):Int)).flatten
def ir(t:HT)(r:bM):Option (Int×Int×bM):=
 iter (fun((code,first,at_,n,r):Int×Int×Int×Int×bM)=>
  if decide (n<=15)then
   if at_==((uw t.lens).length:Int)then
    some (.inr (0,13,r))
   else
    aQ (fD r 1) fun g=>
    if g.2.1 !=0 then
     some (.inr (0,g.2.1,g.2.2))
    else
     a8 (0<=n/\n<16)<|
     if decide (aC ((aC (JK .i64 (aC (ly .i64 code 1)) (aC (g.1.toNat:Int)))) -(aC (ly .i64 first 1)))<vx t.lens n)then
      a8 (0<=aC ((aC (at_+(aC (JK .i64 (aC (ly .i64 code 1)) (aC (g.1.toNat:Int)))))) -(aC (ly .i64 first 1)))/\aC ((aC (at_+(aC (JK .i64 (aC (ly .i64 code 1)) (aC (g.1.toNat:Int)))))) -(aC (ly .i64 first 1)))<(uw t.lens).length)<|
      some (.inr (ix (uw t.lens) (aC ((aC (at_+(aC (JK .i64 (aC (ly .i64 code 1)) (aC (g.1.toNat:Int)))))) -(aC (ly .i64 first 1)))),0,g.2.2))
     else
      some (.inl (aC (JK .i64 (aC (ly .i64 code 1)) (aC (g.1.toNat:Int))),aC ((aC (ly .i64 first 1))+vx t.lens n),aC (at_+vx t.lens n),aC (n+1),g.2.2))
  else
   some (.inr (0,13,r))) (0,0,0,1,r)
def Pf{X Y α:Type}{o:Option (X⊕Y)}{z:X⊕Y}{F:X->Option α}{G:Y->Option α}{r:Option α}(h:o=some z)(k:eY F G z=r):yx o F G=r:=by
 rw[h]
 cases z<;>exact k
def Mw{X Y α:Type}{o:Option (X⊕Y)}{z:X⊕Y}{F:X->Option α}{G:Y->Option α}{r:Option α}(h:o=some z)(k:eY F G z=r):nE o F G=r:=by
 rw[h]
 cases z<;>exact k
def oH{X Y α:Type}{o:Option (X⊕Y)}{F:X->Option α}{G:Y->Option α}{P:α->Prop}(Q:X⊕Y->Prop)(h:∃z,o=some z/\Q z)(k:∀z,Q z->∃x,eY F G z=some x/\P x):∃x,yx o F G=some x/\P x:=by
 obtain⟨z,hz,hq⟩:=h
 obtain⟨x,hx,hp⟩:=k z hq
 exact⟨x,Pf hz hx,hp⟩
def x4{X Y α:Type}{o:Option (X⊕Y)}{F:X->Option α}{G:Y->Option α}{P:α->Prop}(Q:X⊕Y->Prop)(h:∃z,o=some z/\Q z)(k:∀z,Q z->∃x,eY F G z=some x/\P x):∃x,nE o F G=some x/\P x:=by
 obtain⟨z,hz,hq⟩:=h
 obtain⟨x,hx,hp⟩:=k z hq
 exact⟨x,Mw hz hx,hp⟩
def eK{X α:Type}{o:Option X}{F:X->Option α}{P:α->Prop}(Q:X->Prop)(h:∃z,o=some z/\Q z)(k:∀z,Q z->∃x,F z=some x/\P x):∃x,aQ o F=some x/\P x:=by
 obtain⟨z,hz,hq⟩:=h
 obtain⟨x,hx,hp⟩:=k z hq
 exact⟨x,ah hz hx,hp⟩
def CI{X α:Type}{o:Option X}{F:X->Option α}{P:α->Prop}(Q:X->Prop)(h:∃z,o=some z/\Q z)(k:∀z,Q z->∃x,F z=some x/\P x):∃x,jn o F=some x/\P x:=by
 obtain⟨z,hz,hq⟩:=h
 obtain⟨x,hx,hp⟩:=k z hq
 exact⟨x,e7 hz hx,hp⟩
def nr(p:UInt8->Bool)(h:((List.range 256).all fun n=>p (UInt8.ofNat n))=true)(c:UInt8):p c=true:=by
 have:=List.all_eq_true.1 h c.toNat (List.mem_range.2 c.toNat_lt)
 simpa using this
def We(c:UInt8):List Bool:=(List.range 8).map fun j=>c.toNat.testBit j
def ag(b:List UInt8):List Bool:=(b.map We).flatten
def uG(b:List UInt8):(ag b).length=8*b.length:=by
 induction b with
 |nil=>rfl
 |cons c b ih=>grind [We,ag,List.length_append,List.length_cons]
def FW:∀(b:List UInt8)(n:Nat)(h:n/8<b.length),(ag b)[n]? =some ((b[n/8]).toNat.testBit (n % 8))
 |[],n,h=>absurd h (Nat.not_lt_zero _)
 |c::b,n,h=>by
  show(We c++ag b)[n]? =_
  by_cases hn:n<8
  ·have e:n/8=0:=AT
   rw[List.getElem?_append_left (by exact hn)]
   simp[e]
   have hm:n % 8=n:=AT
   rw[hm]
   unfold We
   rw[List.getElem?_map,List.getElem?_range hn];rfl
  ·have ih:=FW b (n -8) A_
   rw[List.getElem?_append_right (by show 8<=n;omega)]
   show(ag b)[n -8]? =_
   rw[ih]
   have e:n/8=(n -8)/8+1:=AT
   have e2:(n -8)% 8=n % 8:=AT
   simp[e,List.getElem_cons_succ,e2]
def bv:List Bool->Nat
 |[]=>0
 |x::l=>(if x then 1 else 0)+2*bv l
theorem Oz:∀l:List Bool,bv l<2^l.length
 |[]=>by decide
 |x::l=>by have:=Oz l;rw[bv,List.length_cons];split<;>omega
theorem OA:∀(l:List Bool)(x:Bool),bv (l++[x])=bv l+(if x then 2^l.length else 0)
 |[],x=>by simp[bv]
 |y::l,x=>by
  rw[List.cons_append,bv,OA l x,bv,List.length_cons]
  split<;>split<;>omega
theorem Ub(c:UInt8)(j:Nat)(hj:j<8):(((ju (qb .u8 (c.toNat:Int) ((ju (ly .u8 1 (j:Int))).toNat:Int))).toNat:Int)!=0)=c.toNat.testBit j:=by
 have:=nr (fun c=>(List.range 8).all fun j=>(((ju (qb .u8 c.toNat ((ju (ly .u8 1 j)).toNat:Int))).toNat:Int)!=0)==c.toNat.testBit j) u_ c
 simp_all
theorem ai9(n:Nat)(h:n<9223372036854775808):aC (qb .i64 (n:Int) 7)=((n % 8:Nat):Int):=by
 have e:qb .i64 n 7=((n % 8:Nat)):=by
  unfold qb
  have h1:(BitVec.ofInt IntKind.i64.bits n)=BitVec.ofNat 64 n:=rfl
  have h2:(BitVec.ofInt IntKind.i64.bits 7)=BitVec.ofNat 64 7:=rfl
  congr 1
  show(BitVec.ofNat 64 n&&&BitVec.ofNat 64 7).toNat=_
  rw[BitVec.toNat_and,BitVec.toNat_ofNat,Nat.mod_eq_of_lt AT]
  exact Nat.and_two_pow_sub_one_eq_mod n 3
 grind [an]
theorem akG(n:Nat):lz .i64 (n:Int) 3=((n/8:Nat):Int):=by
 show(n:Int).fdiv 8=_
 grind
theorem gM(n:Nat)(h:n<4294967296):(eC (n:Int)).toNat=n:=by
 unfold eC
 rw[Ek _ _ rfl]
 have:(2^IntKind.u32.bits)=4294967296:=D_
 grind [UInt32.toNat_ofNat']
def acr(x k:Nat)(hx:x<2^k)(hk:k<32):(eC (JK .u32 (x:Int) ((eC (ly .u32 1 (k:Int))).toNat:Int))).toNat=x+2^k:=by
 have hp2:2^(k+1)<=2^32:=Nat.pow_le_pow_right BY hk
 have e1:ly .u32 1 k=((2^k):Int):=by
  unfold ly
  rw[Int.one_mul,Nat.min_eq_left (by show k<=32;omega)]
  exact(Int.natCast_pow 2 k).symm
 have e2:JK .u32 x ((2^k:Nat))=((x+2^k:Nat)):=by
  show(((BitVec.ofNat 32 x |||BitVec.ofNat 32 (2^k)).toNat):Int)=_
  rw[BitVec.toNat_or,BitVec.toNat_ofNat,BitVec.toNat_ofNat,Nat.mod_eq_of_lt AT,Nat.mod_eq_of_lt AT]
  have:=Nat.two_pow_add_eq_or_of_lt hx 1
  rw[Nat.mul_one]at this
  rw[Nat.or_comm,<-this,Nat.add_comm]
 grind [gM]
structure ZS where
 at_:Nat
 e:Int
 out:List UInt8
abbrev Yc(b:List UInt8)(n:Nat):bM:=⟨⟨(n:Int),false,true⟩,b⟩
abbrev Hg(b:List UInt8)(s:ZS):cz:=⟨Yc b s.at_,s.e⟩
abbrev qw(b:List UInt8)(most:Int)(s:ZS):ak:=⟨Hg b s,s.out,most⟩
def ZS.fail(s:ZS)(e:Int):ZS:=if s.e=0 then{s with e:=e}else s
def aE(B:List Bool)(n:Nat)(s:ZS):Int×ZS:=if s.e≠0 then(0,s)else if B.length<s.at_+n then(0,{s with e:=10})else((bv ((B.drop s.at_).take n):Int),{s with at_:=s.at_+n})
theorem aco{B:List Bool}{n:Nat}{s:ZS}(h:s.e≠0):aE B n s=(0,s):=if_pos h
theorem acn{B:List Bool}{n:Nat}{s:ZS}(h:s.e=0)(h2:B.length<s.at_+n):aE B n s=(0,{s with e:=10}):=by unfold aE;grind
theorem acp{B:List Bool}{n:Nat}{s:ZS}(h:s.e=0)(h2:¬B.length<s.at_+n):aE B n s=((bv ((B.drop s.at_).take n):Int),{s with at_:=s.at_+n}):=by unfold aE;grind
section
variable{b:List UInt8}{most:Int}
theorem sM(s:ZS)(e:Int):az (Hg b s) e=some (Hg b (s.fail e)):=by grind [az,ZS.fail]
theorem agM(hb:b.length<576460752303423488){at_ n:Nat}(hn:n<=32)(ha:at_<=8*b.length):fD (Yc b at_) (n:Int)=
 some (if(ag b).length<at_+n then(0,10,Yc b at_)else(eC (bv (((ag b).drop at_).take n):Nat),0,Yc b (at_+n))):=by
 have hl:=uG b
 unfold fD bQ fV
 simp only[bQ,Bool.false_or,Bool.not_true,aN,Bool.false_eq_true,if_false]
 rw[if_neg C3]
 rw[an (n:=8*(b.length:Int)) AT AT,an AT AT]
 by_cases hlt:(ag b).length<at_+n
 ·grind
 ·rw[if_neg hlt,if_neg C3]
  refine e7 (a:=(eC (bv (((ag b).drop at_).take n):Nat),Yc b (at_+n))) (od n (fun k=>(eC (bv (((ag b).drop at_).take k):Nat),(k:Int),Yc b (at_+k))) rfl AT (fun k hk=>?_) BY) rfl
  have hg:=FW b (at_+k) AT
  have hi:ix b (((at_+k)/8:Nat):Int)=b[(at_+k)/8]:=gr AT
  have ht:((ag b).drop at_).take (k+1)=((ag b).drop at_).take k++[(b[(at_+k)/8]).toNat.testBit ((at_+k)% 8)]:=by rw[List.take_add_one,List.getElem?_drop,hg];rfl
  have hlen:(((ag b).drop at_).take k).length=k:=Xa5
  have hbv:=Oz (((ag b).drop at_).take k)
  rw[hlen]at hbv
  have h32:2^k<2^32:=Nat.pow_lt_pow_right By AT
  have e32:(2:Nat)^32=4294967296:=By
  simp only[]
  rw[if_pos C3,ht,OA,hlen]
  generalize bv (((ag b).drop at_).take k)=x at hbv
  refine e7 (a:=eC ((x+(if(b[(at_+k)/8]).toNat.testBit ((at_+k)% 8)then 2^k else 0):Nat):Int)) ?_ ?_
  ·rw[akG,bk AT]
   unfold gw gx
   simp only[Bool.false_eq_true,if_false]
   rw[ai9 _ AT,bk AT,aN,hi,Ub _ _ AT]
   cases(b[(at_+k)/8]).toNat.testBit ((at_+k)% 8)with
   |false=>simp
   |true=>
    simp only[if_true,aN]
    rw[bk AT,gM x AT]
    have:=acr x k hbv AT
    have h2:x+2^k<2^32:=by
     have:2^(k+1)<=2^32:=Nat.pow_le_pow_right By AT
     rw[Nat.pow_succ]at this;omega
    grind [eC,JK,ly,UInt32.toNat_inj,gM]
  grind [an]
theorem eu{n:Nat}{s:ZS}(ha:s.at_<=8*b.length):(aE (ag b) n s).2.at_<=8*b.length/\s.at_<=(aE (ag b) n s).2.at_/\0<=(aE (ag b) n s).1/\(aE (ag b) n s).1<2^n/\(aE (ag b) n s).2.out=s.out/\((aE (ag b) n s).2.e=0->s.e=0/\(aE (ag b) n s).2.at_=s.at_+n):=by
 have hl:=uG b
 have hp:(0:Int)<2^n:=Int.pow_pos BY
 unfold aE
 split
 ·grind
 ·split
  ·grind
  ·grind [Oz,ag,List.length_take,List.length_drop,bv]
def NJ(hb:b.length<576460752303423488){n:Nat}(hn:n<=31){s:ZS}(ha:s.at_<=8*b.length):aK (Hg b s) (n:Int)=some ((aE (ag b) n s).1,Hg b (aE (ag b) n s).2):=by
 have hbv:=Oz (((ag b).drop s.at_).take n)
 have hlen:(((ag b).drop s.at_).take n).length<=n:=List.length_take_le _ _
 have h31:2^(((ag b).drop s.at_).take n).length<=2^31:=Nat.pow_le_pow_right By AT
 unfold aK
 by_cases he:s.e=0
 ·rw[if_neg A_,agM hb AT ha]
  by_cases hlt:(ag b).length<s.at_+n
  ·rw[if_pos hlt,acn he hlt]
   simp[he]
   rfl
  ·rw[if_neg hlt,acp he hlt]
   show aQ (az (Hg b {s with at_:=s.at_+n}) 0) _=_
   rw[sM,aN]
   grind [aC,eC,gM,an,ZS.fail]
 ·rw[if_pos A_,aco he]
end
def hv(x:Int):Int:=32768/2^x.toNat
def ZQ:List Int->Int->Option Int
 |[],s=>some s
 |x::l,s=>if x<0\/x>15 then none else ZQ l (if x>0 then s+hv x else s)
def Ph(l:List Int):Int:=if l.length<1\/l.length>320 then -1 else match ZQ l 0 with
 |none=>-1
 |some s=>if s>32768 then -1 else s
def ET(l:List Int):Prop:=0<l.length/\l.length<=320/\∀x∈l,0<=x/\x<=15
def Tv(x:Int):0<=hv x/\hv x<=32768:=by
 have h1:(0:Int)<2^x.toNat:=Int.pow_pos BY
 refine⟨Int.ediv_nonneg BY AT,?_⟩
 have:=Int.ediv_le_self (a:=32768) (2^x.toNat) BY
 exact this
def TT:∀(l:List Int)(s r:Int),ZQ l s=some r->0<=s->(∀x∈l,0<=x/\x<=15)/\0<=r
 |[],s,r,h,h0=>⟨fun x hx=>absurd hx List.not_mem_nil,by injection h with h;omega⟩
 |x::l,s,r,h,h0=>by
  rw[ZQ]at h
  split at h
  ·cases h
  ·have:=Tv x
   obtain⟨h1,h2⟩:=TT l _ r h A_
   grind
theorem Nr{l:List Int}(h:0<=Ph l):ET l:=by
 unfold Ph at h
 split at h
 ·omega
 ·cases hk:ZQ l 0 with
  |none=>grind
  |some s=>exact⟨AT,AT,(TT l 0 s hk (Int.le_refl _)).1⟩
theorem ac9{x:Int}(h0:0<=x)(h:x<=15):lz .i64 32768 x=hv x:=by
 have:x=0\/x=1\/x=2\/x=3\/x=4\/x=5\/x=6\/x=7\/x=8\/x=9\/x=10\/x=11\/x=12\/x=13\/x=14\/x=15:=AT
 rcases this with h|h|h|h|h|h|h|h|h|h|h|h|h|h|h|h<;>subst h<;>rfl
def TU(l:List Int):oM l=some (Ph l):=by
 unfold oM Ph
 by_cases hl:l.length<1\/l.length>320
 ·grind
 ·rw[if_neg C3,if_neg hl]
  generalize hr:ZQ l 0=r
  refine Pf (z:=match r with|none=>.inr (-1)|some s=>.inl s) (Mw (z:=match r with|none=>.inr (-1)|some s=>.inl s) (iter_eq (fun(s:Int×Int)=>∃k:Nat,s.2=k/\k<=l.length/\0<=s.1/\s.1<=32768*k/\ZQ (l.drop k) s.1=r) (fun s=>l.length -s.2.toNat) ⟨0,rfl,Nat.zero_le _,Int.le_refl _,Int.le_refl _,hr⟩ C3 ?_) (by cases r<;>rfl)) ?_
  ·rintro⟨sum,t⟩ ⟨k,rfl,hk,h0,h1,hz⟩
   simp only at h0 h1 hz⊢
   by_cases hlt:k<l.length
   ·rw[List.drop_eq_getElem_cons hlt,ZQ]at hz
    have hix:=gr hlt
    rw[if_pos C3]
    simp only[hix]
    generalize l[k]=x at hz
    by_cases hx:x<0\/x>15
    ·subst hz
     simp_all
    ·rw[if_neg hx]at hz
     have hh:=Tv x
     refine .inl ⟨((if x>0 then sum+hv x else sum),((k+1:Nat):Int)),Pf (z:=.inl (if x>0 then sum+hv x else sum)) (aA AT (al C3 ?_)) ?_,⟨k+1,rfl,hlt,?_,?_,hz⟩,?_⟩
     ·by_cases hx0:x>0
      ·rw[if_pos C3,if_pos hx0,bk AT,ac9 AT AT,an AT AT]
      grind
     ·grind [nG,an]
     ·grind
     ·grind
     grind
   ·rw[List.drop_eq_nil_of_le AT]at hz
    rw[if_neg C3]
    subst hz
    exact .inr rfl
  ·cases r with
   |none=>rfl
   |some s=>
    show(if decide (s>32768)=true then _ else _)=_
    grind
def sy(n:Nat):List Int->Nat->List Int
 |[],_=>[]
 |x::l,o=>if x=(n:Int)then(o:Int)::sy n l (o+1)else sy n l (o+1)
def ct(l:List Int)(n:Nat):Nat:=if n=0 then 0 else(sy n l 0).length
theorem D9(n:Nat):∀(l:List Int)(o:Nat),(sy n l o).length=(l.filter fun x=>x==(n:Int)).length
 |[],_=>rfl
 |x::l,o=>by
  rw[sy,List.filter_cons]
  by_cases h:x=n
  ·rw[if_pos h,if_pos A_,List.length_cons,List.length_cons,D9 n l]
  ·rw[if_neg h,if_neg A_,D9 n l]
def Ji{n:Nat}:∀(l:List Int)(o:Nat)(x:Int),x∈sy n l o->(o:Int)<=x/\x<((o+l.length:Nat):Int)
 |[],_,_,h=>absurd h List.not_mem_nil
 |y::l,o,x,h=>by
  have ih:=Ji (n:=n) l (o+1) x
  rw[sy]at h
  grind
theorem aaY(l:List Int)(n:Nat):im l n=(ct l n:Int):=by grind [im,ct,D9]
theorem Vj(L:List Int)(n:Nat):∀(l:List Int)(o:Nat),L.drop o=l->((List.range' o l.length).map fun k=>((k:Nat):Int)).filter (fun k=>ix L k==(n:Int))=sy n l o
 |[],_,_=>rfl
 |x::l,o,h=>by
  have ho:o<L.length:=by
   have:=congrArg List.length h
   rw[List.length_drop,List.length_cons]at this;omega
  rw[List.drop_eq_getElem_cons ho]at h
  injection h with h1 h2
  have hi:ix L o=x:=by rw[gr ho,h1]
  rw[List.length_cons,List.range'_succ,List.map_cons,List.filter_cons,Vj L n l (o+1) h2,sy]
  grind
theorem Nc(l:List Int)(n:Nat):(idxs l).filter (fun k=>ix l k==(n:Int))=sy n l 0:=by
 have:=Vj l n l 0 rfl
 rw[<-List.range_eq_range']at this
 exact this
def pre(l:List Int):Nat->List Int
 |0=>[]
 |m+1=>pre l m++sy (m+1) l 0
theorem D2(l:List Int):uw l=pre l 15:=by
 unfold uw
 simp only[Nc]
 have:∀n,((List.range n).map fun n=>sy (n+1) l 0).flatten=pre l n:=by
  intro n
  induction n with
  |zero=>rfl
  |succ n ih=>grind [List.range_succ,List.flatten_append,pre]
 exact this 15
def Pu(l:List Int)(m:Nat):∀j,∃r,pre l (m+j)=pre l m++r
 |0=>⟨[],(List.append_nil _).symm⟩
 |j+1=>by
  obtain⟨r,hr⟩:=Pu l m j
  grind [sy,pre,List.append_assoc]
def cp(l:List Int)(m:Nat):Nat:=(l.filter fun x=>decide (0<x/\x<=(m:Int))).length
theorem OK(m:Nat):∀l:List Int,cp l (m+1)=cp l m+(l.filter fun x=>x==((m+1:Nat):Int)).length
 |[]=>rfl
 |x::l=>by
  have ih:=OK m l
  unfold cp at ih⊢
  grind
theorem B7(l:List Int):∀m,(pre l m).length=cp l m
 |0=>by
  unfold cp
  rw[List.filter_eq_nil_iff.2]
  ·rfl
  grind
 |m+1=>by rw[pre,List.length_append,B7 l m,OK,D9]
def Zq{m M:Nat}(hm:m<=M):∀l:List Int,cp l m<=cp l M/\(cp l m=cp l M↔∀x∈l,¬((m:Int)<x/\x<=(M:Int)))
 |[]=>⟨Nat.le_refl _,by simp[cp]⟩
 |x::l=>by
  have ih:=Zq hm l
  unfold cp at ih⊢
  grind
def wS(l:List Int):Nat->Nat
 |0=>0
 |n+1=>2*(wS l n+ct l n)
def Ml(l:List Int)(B:List Bool):Nat->Nat->Nat->Int×Nat×Int
 |0,n,_=>(0,n -1,13)
 |f+1,n,code=>if l.any (fun x=>decide (x>=(n:Int)))=false then(0,n -1,13)else match B[n -1]? with
  |none=>(0,n -1,10)
  |some x=>if 2*code+(if x then 1 else 0) -wS l n<(sy n l 0).length then((sy n l 0).getD (2*code+(if x then 1 else 0) -wS l n) 0,n,0)else Ml l B f (n+1) (2*code+(if x then 1 else 0))
def tk(l:List Int)(B:List Bool):Int×Nat×Int:=Ml l B 15 1 0
theorem ahu(c:Nat)(h:c<4611686018427387904):aC (ly .i64 (c:Int) 1)=((2*c:Nat):Int):=by
 have:ly .i64 c 1=c*2:=rfl
 grind [an]
theorem or1(c:Nat)(x:Bool)(h:c<2305843009213693952):aC (JK .i64 (((2*c:Nat):Nat):Int) (aC (((if x then 1 else 0:Nat):Nat):Int)))=((2*c+(if x then 1 else 0):Nat):Int):=by
 have hx:(if x then 1 else 0)<2:=A_
 generalize(if x then 1 else 0)=y at*
 have e:JK .i64 (((2*c:Nat):Nat)) y=((2*c+y:Nat)):=by
  show(((BitVec.ofNat 64 (2*c)|||BitVec.ofNat 64 y).toNat):Int)=_
  rw[BitVec.toNat_or,BitVec.toNat_ofNat,BitVec.toNat_ofNat,Nat.mod_eq_of_lt AT,Nat.mod_eq_of_lt AT]
  have:=Nat.two_pow_add_eq_or_of_lt (i:=1) AT c
  rw[<-this]
 grind [an]
theorem Sr{b:List UInt8}{a m:Nat}:((ag b).drop a)[m]? =(ag b)[a+m]? :=BY
theorem agQ{b:List UInt8}(hb:b.length<576460752303423488){l:List Int}(hl:ET l)(B:Nat){a:Nat}(ha:a<=8*b.length):
 ir ⟨B,l⟩ (Yc b a)=some ((tk l ((ag b).drop a)).1,(tk l ((ag b).drop a)).2.2,Yc b (a+(tk l ((ag b).drop a)).2.1)):=by
 have hbl:=uG b
 obtain⟨hl0,hl1,hl2⟩:=hl
 unfold ir tk
 generalize hR:Ml l ((ag b).drop a) 15 1 0=R
 refine iter_eq (fun(s:Int×Int×Int×Int×bM)=>∃m c:Nat,m<=15/\s=((c:Int),((wS l m+ct l m:Nat):Int),((pre l m).length:Int),((m+1:Nat):Int),Yc b (a+m))/\a+m<=8*b.length/\wS l m+ct l m<=c/\c<2^m/\Ml l ((ag b).drop a) (15 -m) (m+1) c=R)
  (fun s=>(16 -s.2.2.2.1).toNat) ⟨0,0,AT,rfl,ha,Nat.le_refl _,By,hR⟩ A_ ?_
 rintro s ⟨m,c,hm,rfl,ham,hfc,hc,hz⟩
 have al0:2^m<=2^15:=Nat.pow_le_pow_right By hm
 have e15:(2:Nat)^15=32768:=By
 simp only
 by_cases h15:m=15
 ·subst h15
  rw[show(15 -15:Nat)=0 from rfl,Ml]at hz
  grind
 obtain⟨f,hf⟩:∃f,15 -m=f+1:=⟨14 -m,AT⟩
 rw[hf,Ml]at hz
 rw[if_pos C3]
 rw[D2]
 have hcl:=Zq (m:=m) (M:=15) hm l
 rw[<-B7,<-B7]at hcl
 have aju:l.any (fun x=>decide (x>=((m+1:Nat):Int)))=false↔(pre l m).length=(pre l 15).length:=by
  rw[hcl.2,List.any_eq_false]
  refine⟨fun h x hx=>?_,fun h x hx=>?_⟩
  ·grind
  ·grind
 by_cases Qx:(pre l m).length=(pre l 15).length
 ·grind
 rw[if_neg (fun h=>Qx (aju.1 h))]at hz
 rw[show m+1 -1=m from rfl,Sr]at hz
 rw[if_neg (fun h=>Qx A_)]
 have hG:=agM hb (at_:=a+m) (n:=1) By ham
 rw[show((1:Nat):Int)=1 from rfl]at hG
 rw[hG]
 by_cases hcut:(ag b).length<a+m+1
 ·rw[List.getElem?_eq_none AT]at hz
  simp only at hz
  subst hz
  simp_all
 ·rw[if_neg hcut,aN]
  obtain⟨x,hx⟩:∃x,(ag b)[a+m]? =some x:=⟨_,List.getElem?_eq_getElem AT⟩
  rw[hx]at hz
  simp only at hz
  have htk:((ag b).drop (a+m)).take 1=[x]:=by
   rw[List.drop_eq_getElem_cons AT,List.take_succ_cons,List.take_zero]
   rw[List.getElem?_eq_getElem AT]at hx
   injection hx with hx;rw[hx]
  rw[htk,show bv [x]=(if x then 1 else 0:Nat) by unfold bv;rfl]
  have hx2:(if x then 1 else 0:Nat)<2:=by split<;>omega
  have hu:((eC (((if x then 1 else 0:Nat):Nat):Int)).toNat:Int)=((if x then 1 else 0:Nat):Int):=by rw[gM _ AT]
  simp only[bne_self_eq_false,Bool.false_eq_true,if_false,hu]
  rw[bk AT,ahu c AT,or1 c x AT,ahu _ AT]
  have hfs:wS l (m+1)=2*(wS l m+ct l m):=rfl
  rw[<-hfs]
  have hcz:vx l ((m+1:Nat):Int)=((sy (m+1) l 0).length:Int):=by
   unfold vx
   rw[Int.toNat_natCast,aaY];rfl
  have hpl:(pre l m).length<=320:=by rw[B7];exact Nat.le_trans (List.length_filter_le _ _) hl1
  have hsl:(sy (m+1) l 0).length<=320:=by rw[D9];exact Nat.le_trans (List.length_filter_le _ _) hl1
  rw[hcz]
  generalize hq:2*c+(if x then 1 else 0)=c' at*
  have hc':wS l (m+1)<=c'/\c'<65536:=by rw[hfs];omega
  have hc2:c'<2^(m+1):=by rw[Nat.pow_succ];omega
  have ew1:aC ((c':Int) -((wS l (m+1):Nat):Int))=((c' -wS l (m+1):Nat):Int):=E_
  have ew2:aC (aC (((pre l m).length:Int)+(c':Int)) -((wS l (m+1):Nat):Int))=(((pre l m).length+(c' -wS l (m+1)):Nat):Int):=by rw[an (n:=((pre l m).length:Int)+(c':Int)) AT AT,an AT AT];omega
  rw[ew1,ew2]
  by_cases hin:c' -wS l (m+1)<(sy (m+1) l 0).length
  ·rw[if_pos hin]at hz
   subst hz
   obtain⟨r,hr⟩:=Pu l (m+1) (14 -m)
   rw[show m+1+(14 -m)=15 by omega,show pre l (m+1)=pre l m++sy (m+1) l 0 from rfl]at hr
   have kj:(pre l 15)[(pre l m).length+(c' -wS l (m+1))]? =some ((sy (m+1) l 0).getD (c' -wS l (m+1)) 0):=by rw[hr,List.append_assoc,List.getElem?_append_right AT,Nat.add_sub_cancel_left,List.getElem?_append_left hin,List.getElem?_eq_getElem hin,List.getD_eq_getElem?_getD,List.getElem?_eq_getElem hin];rfl
   have hlt:=(List.getElem?_eq_some_iff.1 kj).1
   rw[if_pos C3,bk AT,TQ kj]
   grind
  ·rw[if_neg hin]at hz
   rw[if_neg C3]
   refine .inl ⟨_,rfl,⟨m+1,c',AT,?_,AT,?_,hc2,?_⟩,?_⟩
   ·have e1:ct l (m+1)=(sy (m+1) l 0).length:=rfl
    rw[an AT AT,an AT AT,an AT AT,pre,List.length_append,e1]
    grind
   ·have e1:ct l (m+1)=(sy (m+1) l 0).length:=rfl
    grind
   ·grind
   grind [an]
theorem Hl{α:Type}(l:List α){i:Int}{x:α}(h0:0<=i)(h:i<l.length):(JC l i x).length=l.length:=by unfold JC;simp;omega
end Go.AB
end
section
set_option maxRecDepth 16000
namespace Go.AB
open Go
open Go.Proofs.Tryz (prog)
def fM(x_0:Int):Option (Bool):=some (x_0 !=x_0)
def sJ{x_0}:FF 181 [.int .i64 x_0] (fM x_0) fun r=>[.bool r]:=by
 intro s Q
 exact FC 6 [⟨2,true,none⟩] 0xa1c396387ce7f58100d920824473a fM.eq_1
def dt(x_0:Int)(y_1:Int):Option (Int):=
 aQ (fM x_0) fun r1=>
 aQ (fM y_1) fun r2=>
 if r1 then
  if r2 then
   some 0
  else
   some (-1)
 else
  if r2 then
   some 1
  else
   if decide (x_0<y_1)then
    some (-1)
   else
    if decide (x_0>y_1)then
     some 1
    else
     some 0
def xV{x_0 y_1}:FF 148 [.int .i64 x_0,.int .i64 y_1] (dt x_0 y_1) fun r=>[.int .i64 r]:=by
 intro s Q
 refine FR 20 [⟨4,true,none⟩] 0x77a655631f5dd007c75a30eb93b9ca53d795df717bd0288dc7a31dc467332a089a32fd50510ca3614e8f5f3aa60b97ba8a7ac8e50adc412df602ac320dfe0bca690463c48f2ce6a5c751af3ec7191f72cef8a47aba5c19b8ceb3ed07ecc92299daae7e0d3980083fa dt.eq_1 ?_
 repeat'(first
  |(with_reducible first|refine au (fun _(h:fM x_0=some _)=>(iW sJ h:)) (fun r1=>?_)|refine au (fun _(h:fM y_1=some _)=>(iW sJ h:)) (fun r2=>?_))
  |refine Xe2 ?_|exact Xf6)
def lE{x_0 y_1}{s:ae}{r:Int}(h:dt x_0 y_1=some r):FE prog 148 [.int .i64 x_0,.int .i64 y_1] s [.int .i64 r] s:=xV ⟨r,h,rfl,rfl⟩
attribute[-go_sem] Nat.add_zero mO cF cj cS bK ch
namespace SI
abbrev slL(l:List Int):AV:=.sl false 1 l.length (flat l)
def CT(lens:List Int)(x y:Int):Option Int:=a8 (0<=x/\x<lens.length)<|a8 (0<=y/\y<lens.length)<|dt (ix lens x) (ix lens y)
def BC(lens:List Int)(x y:Int):Bool:=decide (ix lens x<ix lens y)||(ix lens x==ix lens y&&decide (x<y))
def XB(lens:List Int):TP (BC lens):=by
 refine⟨fun x y h=>?_,fun x y z h1 h2=>?_⟩
 ·simp only[BC,Bool.or_eq_true,decide_eq_true_eq,Bool.and_eq_true,beq_iff_eq,Bool.or_eq_false_iff,decide_eq_false_iff_not,Bool.and_eq_false_iff,beq_eq_false_iff_ne]at*
  omega
 ·simp only[BC,Bool.or_eq_false_iff,decide_eq_false_iff_not,Bool.and_eq_false_iff,beq_eq_false_iff_ne]at*
  omega
def OKc(lens:List Int)(y x:Int):Prop:=0<=x/\x<y/\y<lens.length
section
variable{lens:List Int}{Lb:Nat}
def afn{x y:Int}(h:OKc lens x y):∃c,CT lens x y=some c/\decide (c<0)=BC lens x y:=by
 obtain⟨h1,h2,h3⟩:=h
 unfold CT dt fM BC
 have e1:∀z:Int,(z !=z)=false:=fun z=>BY
 rw[bk AT,bk AT,e1,e1,aN,aN,if_neg By,if_neg By]
 have e2:decide (x<y)=false:=C3
 rw[e2,Bool.and_false,Bool.or_false]
 cases h:decide (ix lens x<ix lens y)with
 |true=>exact⟨-1,BY,rfl⟩
 |false=>
  by_cases h2:decide (ix lens x>ix lens y)=true
  ·exact⟨1,by simp[h2],rfl⟩
  ·exact⟨0,by simp[h2],rfl⟩
def WV{x y c:Int}{s:ae}(hLb:s Lb=some (.cells [slL lens]))(hc:CT lens x y=some c):FE prog 292 [.int .i64 x,.int .i64 y,.ref Lb 0] s [.int .i64 c] s:=by
 have h:ok (CT lens x y) (fun r=>r=c):=⟨c,hc,rfl⟩
 revert h
 intro h
 refine FP 15 [⟨5,true,none⟩] (dec 0x8f9a688af76cf1f4716db2119dbc7eda7c8158265b8b0392e0b7adc976400a25a) B_ rfl ?_
 unfold CT at h
 rw[fO,fO]at h
 obtain⟨h1,h2,r,hr,rfl⟩:=h
 refine Xf7 ?_
 refine Xg0 hLb ?_
 refine⟨h1,h2,?_⟩
 refine⟨_,rfl,lE hr,?_⟩
 exact Xf6
def Tb{x y c:Int}{s:ae}{rb:Nat}{o:SO}(hLb:s Lb=some (.cells [slL lens]))(hne:Lb≠rb)(hc:CT lens x y=some c):FE prog 292 [.int .i64 x,.int .i64 y,.ref Lb 0] (s.set rb o) [.int .i64 c] (s.set rb o):=WV (by simp[ae.set,hne,hLb]) hc
def sgH(lens:List Int)(Lb:Nat):SG (Int)where
 lt:=BC lens
 tp:=XB lens
 Bf:=fun x y=>OKc lens y x
 cm:=CT lens
 cv:=afn
 z:=.int .i64 0
 fc:=292
 cl:=[.ref Lb 0]
 w1:=rfl
 en:=fun _=>⟨rfl,fun _=>rfl,rfl,rfl,rfl,fun _ d=>IF,rfl,rfl,rfl,fun _=>rfl,rfl,rfl⟩
 ok:=B_
 fi:=304
 fw:=309
 fr:=308
 fy:=305
 fs:=299
 fo:=291
 hi:=B_
 hw:=B_
 hr:=B_
 hy:=B_
 hs:=B_
 ho:=B_
def Rc{s:ae}{rb cap:Nat}{sp:List AV}{l:List Int}{Q:List AV->ae->Prop}(hLb:s Lb=some (.cells [slL lens]))(hne:Lb≠rb)(hl:(l.length:Int)<2^46)(hz:l.Pairwise fun u v=>u<v)(hzb:∀z∈l,0<=z/\z<lens.length)
 (hq:∀Z,Z.Perm l->jT (BC lens) Z->Q [] (s.set rb (.cells (flat Z++sp)))):FN prog 291 [.arr rb 0 l.length cap,.fn 292 [] [.ref Lb 0]] (s.set rb (.cells (flat l++sp))) Q:=
 Hf (I:=sgH lens Lb) (fun hc=>Tb hLb hne hc) hl (hz.imp_of_mem fun ha hb h=>⟨(hzb _ ha).1,h,(hzb _ hb).2⟩) hq
def Rb{Lb:Nat}{s:ae}{Q:List AV->ae->Prop}(hq:Q [] s):FN prog 291 [.arr 0 0 0 0,.fn 292 [] [.ref Lb 0]] s Q:=He (sgH [] Lb) hq
end
end SI
end Go.AB
end
