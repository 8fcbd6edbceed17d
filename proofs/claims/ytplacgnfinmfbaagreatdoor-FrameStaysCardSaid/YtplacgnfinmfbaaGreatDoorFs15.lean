/- A part. -/
import Derived.Test.YtplacgnfinmfbaaGreatDoorFs14
set_option linter.unusedSimpArgs false
set_option linter.unusedVariables false
section
set_option maxRecDepth 16000
namespace Go.AB
open Go
open Go.Proofs.Tryz (prog)
attribute[-go_sem] ck cN bK cj
structure iS where
 at_:Int
 bT:Bool
 bX:Bool
 deriving DecidableEq
instance:bp iS:=⟨3,fun x=>[.int .i64 x.at_,.bool x.bT,.bool x.bX],(iS.mk 0 false false),by decide,fun _=>rfl,fun _=>rfl⟩
structure bH where
 af:iS
 b_:(List UInt8)
instance:bp bH:=⟨4,fun x=>[.int .i64 x.af.at_,.bool x.af.bT,.bool x.af.bX,sF 1 x.b_],(bH.mk (iS.mk 0 false false) []),by decide,fun _=>rfl,fun _=>rfl⟩
def bJ(r_0:bH):Option (Bool):=some (false||(!r_0.af.bX))
def mO:IC:=dec 0xf3df6487d5dc8c93cf55f350ccb04fc7097ca603104a85be7bc53d341f4824473a
theorem vM:aS prog 177 13 [⟨2,true,none⟩] mO=true:=by kernel_rfl
theorem vz{r_0}{B0:Nat}{s:ae}{Q:List AV->ae->Prop}(hB0:s B0=some (.cells [.int .i64 r_0.af.at_,.bool r_0.af.bT,.bool r_0.af.bX,sF 1 r_0.b_])):ok (bJ r_0) (fun r=>Q [.bool r] s)->FN prog 177 [.ref B0 0] s Q:=by
 have hS:s=(s.set B0 (.cells [.int .i64 r_0.af.at_,.bool r_0.af.bT,.bool r_0.af.bX,sF 1 r_0.b_])):=by simp only[aY hB0]
 rw[hS]
 intro h
 refine FO vM rfl rfl ?_
 revert h
 rw[mO,bJ]
 conv in dec _=>reduce
 repeat'(first
  |simp -implicitDefEqProofs only[go_sem,seval])
theorem gq{r_0}{B0:Nat}{s:ae}{r:Bool}(hB0:s B0=some (.cells [.int .i64 r_0.af.at_,.bool r_0.af.bT,.bool r_0.af.bX,sF 1 r_0.b_]))(h:bJ r_0=some r):FE prog 177 [.ref B0 0] s [.bool r] s:=vz hB0 ⟨r,h,rfl,rfl⟩
def fx(r_0:bH):Option (Int):=
 aP (bJ r_0) fun r1=>
 if r1 then
  some 0
 else
  some (aw ((aw (8*(r_0.b_.length:Int))) -r_0.af.at_))
def mN:IC:=dec 0x22ec2d896e2e8b16e6bc12e3b0688d7aa465ff6878f1dd3d3816f40ccfa3d1cbb0be04e2eebb9ed182a68cb9cea0227cc00473a
theorem vL:aS prog 267 17 [⟨2,true,none⟩] mN=true:=by kernel_rfl
theorem vy{r_0}{B0:Nat}{s:ae}{Q:List AV->ae->Prop}(hB0:s B0=some (.cells [.int .i64 r_0.af.at_,.bool r_0.af.bT,.bool r_0.af.bX,sF 1 r_0.b_])):ok (fx r_0) (fun r=>Q [.int .i64 r] s)->FN prog 267 [.ref B0 0] s Q:=by
 have hS:s=(s.set B0 (.cells [.int .i64 r_0.af.at_,.bool r_0.af.bT,.bool r_0.af.bX,sF 1 r_0.b_])):=by simp only[aY hB0]
 rw[hS]
 intro h
 refine FO vL rfl rfl ?_
 revert h
 rw[mN,fx]
 conv in dec _=>reduce
 repeat'(first
  |with_reducible refine aF (fun _(h:bJ r_0=some _)=>gq (B0:=B0) (by simp -implicitDefEqProofs only[go_sem,seval]<;>simp only[ao]) h) (fun r1=>?_)
  |simp -implicitDefEqProofs only[go_sem,seval])
theorem vx{r_0}{B0:Nat}{s:ae}{r:Int}(hB0:s B0=some (.cells [.int .i64 r_0.af.at_,.bool r_0.af.bT,.bool r_0.af.bX,sF 1 r_0.b_]))(h:fx r_0=some r):FE prog 267 [.ref B0 0] s [.int .i64 r] s:=vy hB0 ⟨r,h,rfl,rfl⟩
def fP(p_0:iS):Option (UInt8):=
 if p_0.bT then
  aL (0<=aw (o6 .i64 p_0.at_ 7))<|
  some (gX (jA .u8 128 (aw (o6 .i64 p_0.at_ 7))))
 else
  aL (0<=aw (o6 .i64 p_0.at_ 7))<|
  some (gX (kl .u8 1 (aw (o6 .i64 p_0.at_ 7))))
def nN:IC:=dec 0x46f6b8878e16351683b16f559e08b4b41bdc4629cdd2ed8652dc0b70ccefeb7ea2e611bd503505c1ca480cf92c9e410d10a5a1ffcc798473a
theorem xw:aS prog 268 19 [⟨2,true,none⟩] nN=true:=by kernel_rfl
theorem wX{p_0}{B0:Nat}{preB0 postB0:List AV}{oB0:Nat}{s:ae}{Q:List AV->ae->Prop}(hB0:s B0=some (.cells (Wi preB0 [.int .i64 p_0.at_,.bool p_0.bT,.bool p_0.bX] postB0)))(eB0:preB0.length=oB0):ok (fP p_0) (fun r=>Q [.int .u8 r.toNat] s)->FN prog 268 [.ref B0 oB0] s Q:=by
 subst eB0
 have hS:s=(s.set B0 (.cells (Wi preB0 [.int .i64 p_0.at_,.bool p_0.bT,.bool p_0.bX] postB0))):=by simp only[aY hB0]
 rw[hS]
 intro h
 refine FO xw rfl rfl ?_
 revert h
 rw[nN,fP]
 conv in dec _=>reduce
 repeat'(first
  |simp -implicitDefEqProofs only[go_sem,seval])
theorem wW{p_0}{B0:Nat}{preB0 postB0:List AV}{oB0:Nat}{s:ae}{r:UInt8}(hB0:s B0=some (.cells (Wi preB0 [.int .i64 p_0.at_,.bool p_0.bT,.bool p_0.bX] postB0)))(eB0:preB0.length=oB0)(h:fP p_0=some r):FE prog 268 [.ref B0 oB0] s [.int .u8 r.toNat] s:=wX hB0 eB0 ⟨r,h,rfl,rfl⟩
def fQ(p_0:iS)(k_1:Int)(n_2:Int):Option (Int):=
 if p_0.bT then
  some (aw ((aw (n_2 -1)) -k_1))
 else
  some k_1
def nO:IC:=dec 0x7f230395bea515565de09b8e64517f62fa6a8437a8e36917afeb479e410f17a1e23c976400c0ba
theorem xx:aS prog 243 16 [⟨6,true,none⟩] nO=true:=by kernel_rfl
theorem wZ{p_0 k_1 n_2}{B0:Nat}{preB0 postB0:List AV}{oB0:Nat}{s:ae}{Q:List AV->ae->Prop}(hB0:s B0=some (.cells (Wi preB0 [.int .i64 p_0.at_,.bool p_0.bT,.bool p_0.bX] postB0)))(eB0:preB0.length=oB0):ok (fQ p_0 k_1 n_2) (fun r=>Q [.int .i64 r] s)->FN prog 243 [.ref B0 oB0,.int .i64 k_1,.int .i64 n_2] s Q:=by
 subst eB0
 have hS:s=(s.set B0 (.cells (Wi preB0 [.int .i64 p_0.at_,.bool p_0.bT,.bool p_0.bX] postB0))):=by simp only[aY hB0]
 rw[hS]
 intro h
 refine FO xx rfl rfl ?_
 revert h
 rw[nO,fQ]
 conv in dec _=>reduce
 repeat'(first
  |simp -implicitDefEqProofs only[go_sem,seval])
theorem wY{p_0 k_1 n_2}{B0:Nat}{preB0 postB0:List AV}{oB0:Nat}{s:ae}{r:Int}(hB0:s B0=some (.cells (Wi preB0 [.int .i64 p_0.at_,.bool p_0.bT,.bool p_0.bX] postB0)))(eB0:preB0.length=oB0)(h:fQ p_0 k_1 n_2=some r):FE prog 243 [.ref B0 oB0,.int .i64 k_1,.int .i64 n_2] s [.int .i64 r] s:=wZ hB0 eB0 ⟨r,h,rfl,rfl⟩
def eZ(r_0:bH)(n_1:Int):Option (UInt32×Int×bH):=
 aP (bJ r_0) fun r1=>
 if r1 then
  some (0,1,r_0)
 else
  if(decide (n_1<0))||(decide (n_1>32))then
   some (0,2,r_0)
  else
   aP (fx r_0) fun r2=>
   if decide (n_1>r2)then
    some (0,10,r_0)
   else
    jn (
     iter (fun((x5,t6,o7):UInt32×Int×bH)=>
      if decide (t6<n_1)then
       jn (
        aL (0<=jA .i64 o7.af.at_ 3/\jA .i64 o7.af.at_ 3<o7.b_.length)<|
        aP (fP o7.af) fun r15=>
        if((gX (o6 .u8 ((ix o7.b_ (jA .i64 o7.af.at_ 3)).toNat:Int) (r15.toNat:Int))).toNat:Int)!=0 then
         aP (fQ o7.af t6 n_1) fun r16=>
         aL (0<=r16)<|
         some (dw (Fk .u32 (x5.toNat:Int) ((dw (kl .u32 1 r16)).toNat:Int)))
        else
         some x5) fun(x11:UInt32)=>
       some (.inl (x11,aw (t6+1),(bH.mk (iS.mk (aw (o7.af.at_+1)) o7.af.bT o7.af.bX) o7.b_)))
      else
       some (.inr (x5,o7))) (0,0,r_0)) fun((x3,o4):UInt32×bH)=>
    some (x3,0,o4)
def nM:IC:=dec 0xe568b4a9572002c09554986cb37804ab67fe40b581cf0026ebd36f8a28a49b77ac9c7cd3b97669efe99ea305c3fd9021c875d9cc1ef3ac7443567c18ce56118ee9aa668314252ef3e0f3d1908481a1d74ca97c8c9521da30a2162772c8141a4015b3a31a8cc819598fe4353ed1d4bd9cc6ed450016019be9aa802599be0e23ff0722335a436b7bda704667d4b00cc46bd7479779bfce81726aaa98219eb38dd0f9e235541d2d6f7291ecce370018c2b70fd1cc10cd787c77312281a3e4810e38d3dea40a8232dc4371984573e7979b3344fc027acfbf2813838fabcccb4d9558b0abf424af60bfcfb9b7856334ef5714053620e56f904807d37073f16ed219cfec33458b1fdef09759001edd4c844b
theorem xu:aS prog 224 65 [⟨4,true,none⟩,⟨5,true,none⟩] nM=true:=by kernel_rfl
theorem nB{r_0 n_1}{B0:Nat}{s:ae}{Q:List AV->ae->Prop}(hB0:s B0=some (.cells [.int .i64 r_0.af.at_,.bool r_0.af.bT,.bool r_0.af.bX,sF 1 r_0.b_])):ok (eZ r_0 n_1) (fun r=>Q [.int .u32 r.1.toNat,.int .i64 r.2.1] (s.set B0 (.cells [.int .i64 r.2.2.af.at_,.bool r.2.2.af.bT,.bool r.2.2.af.bX,sF 1 r.2.2.b_])))->FN prog 224 [.ref B0 0,.int .i64 n_1] s Q:=by
 have hS:s=(s.set B0 (.cells [.int .i64 r_0.af.at_,.bool r_0.af.bT,.bool r_0.af.bX,sF 1 r_0.b_])):=by simp only[aY hB0]
 rw[hS]
 intro h
 refine FO xu rfl rfl ?_
 revert h
 rw[nM,eZ]
 conv in dec _=>reduce
 repeat'(first
  |(with_reducible first|exact cU|refine bP ?_ ?_|refine cX ?_|refine aF (fun _(h:bJ r_0=some _)=>gq (B0:=B0) (by simp -implicitDefEqProofs only[go_sem,seval]<;>simp only[ao]) h) (fun r1=>?_)|refine aF (fun _(h:fx r_0=some _)=>vx (B0:=B0) (by simp -implicitDefEqProofs only[go_sem,seval]<;>simp only[ao]) h) (fun r2=>?_)|refine cK (fun _(h:fP o7.af=some _)=>wW (B0:=B0) (preB0:=[]) (postB0:=[sF 1 o7.b_]) (by simp -implicitDefEqProofs only[go_sem,seval]<;>simp only[ao]) (by first|rfl|simp) h) (fun _=>rfl) (fun r15=>?_)|refine aF (fun _(h:fQ o7.af t6 n_1=some _)=>wY (B0:=B0) (preB0:=[]) (postB0:=[sF 1 o7.b_]) (by simp -implicitDefEqProofs only[go_sem,seval]<;>simp only[ao]) (by first|rfl|simp) h) (fun r16=>?_))
  |((with_reducible refine dm (live:=[(0,false),(1,false),(6,false),(23,false),(24,false)]) (fun(x11:UInt32)=>⟨[(0,.ref B0 0),(1,.int .i64 n_1),(6,.int .u32 x11.toNat),(23,.int .i64 n_1),(24,.int .i64 t6)],[],(s.set B0 (.cells [.int .i64 o7.af.at_,.bool o7.af.bT,.bool o7.af.bX,sF 1 o7.b_]))⟩) (fun J=>?_) ?_);rotate_left;rintro x11)
  |((with_reducible refine dk (fun((x5,t6,o7):UInt32×Int×bH)=>⟨[(0,.ref B0 0),(1,.int .i64 n_1),(6,.int .u32 x5.toNat),(23,.int .i64 n_1),(24,.int .i64 t6)],[],(s.set B0 (.cells [.int .i64 o7.af.at_,.bool o7.af.bT,.bool o7.af.bX,sF 1 o7.b_]))⟩) ?_ ?_);(first|exact rfl|simp -implicitDefEqProofs only[go_sem,seval]);rintro J ⟨x5,t6,o7⟩)
  |((with_reducible refine dm (live:=[(6,false)]) (fun((x3,o4):UInt32×bH)=>⟨[(6,.int .u32 x3.toNat)],[],(s.set B0 (.cells [.int .i64 o4.af.at_,.bool o4.af.bT,.bool o4.af.bX,sF 1 o4.b_]))⟩) (fun J=>?_) ?_);rotate_left;rintro⟨x3,o4⟩)
  |simp -implicitDefEqProofs only[go_sem,seval])
def fV(r_0:bH):Option (bH):=
 aP (bJ r_0) fun r1=>
 if !r1 then
  some (bH.mk (iS.mk (aw (xZ .i64 (aw (r_0.af.at_+7)) 7)) r_0.af.bT r_0.af.bX) r_0.b_)
 else
  some r_0
def lY:IC:=dec 0x4a87a10776d1f55c00b95b1530b76548eb59eb46a0f689982a862a185346f0b546563a907dc
theorem tH:aS prog 225 16 [] lY=true:=by kernel_rfl
theorem sG{r_0}{B0:Nat}{s:ae}{Q:List AV->ae->Prop}(hB0:s B0=some (.cells [.int .i64 r_0.af.at_,.bool r_0.af.bT,.bool r_0.af.bX,sF 1 r_0.b_])):ok (fV r_0) (fun r=>Q [] (s.set B0 (.cells [.int .i64 r.af.at_,.bool r.af.bT,.bool r.af.bX,sF 1 r.b_])))->FN prog 225 [.ref B0 0] s Q:=by
 have hS:s=(s.set B0 (.cells [.int .i64 r_0.af.at_,.bool r_0.af.bT,.bool r_0.af.bX,sF 1 r_0.b_])):=by simp only[aY hB0]
 rw[hS]
 intro h
 refine FO tH rfl rfl ?_
 revert h
 rw[lY,fV]
 conv in dec _=>reduce
 repeat'(first
  |with_reducible refine aF (fun _(h:bJ r_0=some _)=>gq (B0:=B0) (by simp -implicitDefEqProofs only[go_sem,seval]<;>simp only[ao]) h) (fun r1=>?_)
  |simp -implicitDefEqProofs only[go_sem,seval])
def iR(r_0:bH):Option (Int):=
 aP (bJ r_0) fun r1=>
 if r1 then
  some 0
 else
  some r_0.af.at_
def oC:IC:=dec 0x172ccbdb4c30b2e0d9d3e4f919721b73c84a7c2ebb9ed182a68cb9cea0227cc00473a
theorem yX:aS prog 131 10 [⟨2,true,none⟩] oC=true:=by kernel_rfl
theorem x8{r_0}{B0:Nat}{s:ae}{Q:List AV->ae->Prop}(hB0:s B0=some (.cells [.int .i64 r_0.af.at_,.bool r_0.af.bT,.bool r_0.af.bX,sF 1 r_0.b_])):ok (iR r_0) (fun r=>Q [.int .i64 r] s)->FN prog 131 [.ref B0 0] s Q:=by
 have hS:s=(s.set B0 (.cells [.int .i64 r_0.af.at_,.bool r_0.af.bT,.bool r_0.af.bX,sF 1 r_0.b_])):=by simp only[aY hB0]
 rw[hS]
 intro h
 refine FO yX rfl rfl ?_
 revert h
 rw[oC,iR]
 conv in dec _=>reduce
 repeat'(first
  |with_reducible refine aF (fun _(h:bJ r_0=some _)=>gq (B0:=B0) (by simp -implicitDefEqProofs only[go_sem,seval]<;>simp only[ao]) h) (fun r1=>?_)
  |simp -implicitDefEqProofs only[go_sem,seval])
theorem x7{r_0}{B0:Nat}{s:ae}{r:Int}(hB0:s B0=some (.cells [.int .i64 r_0.af.at_,.bool r_0.af.bT,.bool r_0.af.bX,sF 1 r_0.b_]))(h:iR r_0=some r):FE prog 131 [.ref B0 0] s [.int .i64 r] s:=x8 hB0 ⟨r,h,rfl,rfl⟩
structure cg where
 Reader:bH
 e_:Int
def ax(s_0:cg)(e_1:Int):Option (cg):=
 if s_0.e_==0 then
  some (cg.mk s_0.Reader e_1)
 else
  some s_0
def kI:IC:=dec 0x189bdbb9b380ecb52c04b8efcb9da2151040490a8f650a71453e
theorem rk:aS prog 176 13 [] kI=true:=by kernel_rfl
theorem bA{s_0 e_1}{B0 B0_Reader:Nat}{preB0 postB0:List AV}{oB0:Nat}{s:ae}{Q:List AV->ae->Prop}(hB0:s B0=some (.cells (Wi preB0 [.ref B0_Reader 0,.int .i64 s_0.e_] postB0)))(cM:s B0_Reader=some (.cells [.int .i64 s_0.Reader.af.at_,.bool s_0.Reader.af.bT,.bool s_0.Reader.af.bX,sF 1 s_0.Reader.b_]))(eB0:preB0.length=oB0)(ab:B0≠B0_Reader):ok (ax s_0 e_1) (fun r=>Q [] ((s.set B0 (.cells (Wi preB0 [.ref B0_Reader 0,.int .i64 r.e_] postB0))).set B0_Reader (.cells [.int .i64 r.Reader.af.at_,.bool r.Reader.af.bT,.bool r.Reader.af.bX,sF 1 r.Reader.b_])))->FN prog 176 [.ref B0 oB0,.int .i64 e_1] s Q:=by
 subst eB0
 have hS:s=((s.set B0 (.cells (Wi preB0 [.ref B0_Reader 0,.int .i64 s_0.e_] postB0))).set B0_Reader (.cells [.int .i64 s_0.Reader.af.at_,.bool s_0.Reader.af.bT,.bool s_0.Reader.af.bX,sF 1 s_0.Reader.b_])):=by simp only[aY hB0,aY cM]
 rw[hS]
 intro h
 refine FO rk rfl rfl ?_
 revert h
 rw[kI,ax]
 conv in dec _=>reduce
 repeat'(first
  |simp -implicitDefEqProofs only[go_sem,seval,ah ab,ah ab.symm,set_comm ab])
def aI(s_0:cg)(n_1:Int):Option (Int×cg):=
 if s_0.e_ !=0 then
  some (0,s_0)
 else
  aP (eZ s_0.Reader n_1) fun r1=>
  aP (ax (cg.mk r1.2.2 s_0.e_) r1.2.1) fun r2=>
  some (aw ((r1.1.toNat:Int)),r2)
def ju:IC:=dec 0x5d8c7377718e66cf3790a7759b74c410ab51a58d53474c6208fead82dc0c31a6ca4f5484f4c720b4eb25031aad177621f990ff0568dba78b6a84f9e23cdff4dc10e152980c653980083fa
theorem pq:aS prog 170 26 [⟨4,true,none⟩] ju=true:=by kernel_rfl
theorem bM{s_0 n_1}{B0 B0_Reader:Nat}{preB0 postB0:List AV}{oB0:Nat}{s:ae}{Q:List AV->ae->Prop}(hB0:s B0=some (.cells (Wi preB0 [.ref B0_Reader 0,.int .i64 s_0.e_] postB0)))(cM:s B0_Reader=some (.cells [.int .i64 s_0.Reader.af.at_,.bool s_0.Reader.af.bT,.bool s_0.Reader.af.bX,sF 1 s_0.Reader.b_]))(eB0:preB0.length=oB0)(ab:B0≠B0_Reader):ok (aI s_0 n_1) (fun r=>Q [.int .i64 r.1] ((s.set B0 (.cells (Wi preB0 [.ref B0_Reader 0,.int .i64 r.2.e_] postB0))).set B0_Reader (.cells [.int .i64 r.2.Reader.af.at_,.bool r.2.Reader.af.bT,.bool r.2.Reader.af.bX,sF 1 r.2.Reader.b_])))->FN prog 170 [.ref B0 oB0,.int .i64 n_1] s Q:=by
 subst eB0
 have hS:s=((s.set B0 (.cells (Wi preB0 [.ref B0_Reader 0,.int .i64 s_0.e_] postB0))).set B0_Reader (.cells [.int .i64 s_0.Reader.af.at_,.bool s_0.Reader.af.bT,.bool s_0.Reader.af.bX,sF 1 s_0.Reader.b_])):=by simp only[aY hB0,aY cM]
 rw[hS]
 intro h
 refine FO pq rfl rfl ?_
 revert h
 rw[ju,aI]
 conv in dec _=>reduce
 repeat'(first
  |(with_reducible first|exact cU|refine bP ?_ ?_|refine cX ?_|refine fun hh=>nB (B0:=B0_Reader) (by simp -implicitDefEqProofs only[go_sem,seval,ah ab,ah ab.symm,set_comm ab]<;>simp only[ao]) (aO (show ok (eZ s_0.Reader n_1) _ from hh) fun r1=>?_)|refine fun hh=>bA (B0:=B0) (B0_Reader:=B0_Reader) (preB0:=preB0) (postB0:=postB0) (by simp -implicitDefEqProofs only[go_sem,seval,ah ab,ah ab.symm,set_comm ab]<;>simp only[ao]) (by simp -implicitDefEqProofs only[go_sem,seval,ah ab,ah ab.symm,set_comm ab]<;>simp only[ao]) (by first|rfl|simp) ab (aO (show ok (ax (cg.mk r1.2.2 s_0.e_) r1.2.1) _ from hh) fun r2=>?_))
  |simp -implicitDefEqProofs only[go_sem,seval,ah ab,ah ab.symm,set_comm ab])
structure ak where
 al:cg
 cD:(List UInt8)
 bF:Int
def cw(s_0:ak)(x_1:UInt8):Option (ak):=
 if decide ((s_0.cD.length:Int)>=s_0.bF)then
  aP (ax s_0.al 3) fun r1=>
  some (ak.mk r1 s_0.cD s_0.bF)
 else
  aL ((s_0.cD.length+[x_1].length)*1<=room)<|
  some (ak.mk s_0.al (s_0.cD++[x_1]) s_0.bF)
def l8:IC:=dec 0x488165aad8c866220ba5b1327ae0e68dfdf71f58dcb2631ea1b719fce19b7d1ba62647ec1add1eef3a6d53be381b9cfe9d9cfe3f1f72cd3e9090a56a63abd2f5265
theorem tM:aS prog 226 28 [] l8=true:=by kernel_rfl
theorem lT{s_0 x_1}{B0 B0_Reader:Nat}{s:ae}{Q:List AV->ae->Prop}(hB0:s B0=some (.cells [.ref B0_Reader 0,.int .i64 s_0.al.e_,sT 1 s_0.cD,.int .i64 s_0.bF]))(cM:s B0_Reader=some (.cells [.int .i64 s_0.al.Reader.af.at_,.bool s_0.al.Reader.af.bT,.bool s_0.al.Reader.af.bX,sF 1 s_0.al.Reader.b_]))(ab:B0≠B0_Reader):ok (cw s_0 x_1) (fun r=>Q [] ((s.set B0 (.cells [.ref B0_Reader 0,.int .i64 r.al.e_,sT 1 r.cD,.int .i64 r.bF])).set B0_Reader (.cells [.int .i64 r.al.Reader.af.at_,.bool r.al.Reader.af.bT,.bool r.al.Reader.af.bX,sF 1 r.al.Reader.b_])))->FN prog 226 [.ref B0 0,.int .u8 x_1.toNat] s Q:=by
 have hS:s=((s.set B0 (.cells [.ref B0_Reader 0,.int .i64 s_0.al.e_,sT 1 s_0.cD,.int .i64 s_0.bF])).set B0_Reader (.cells [.int .i64 s_0.al.Reader.af.at_,.bool s_0.al.Reader.af.bT,.bool s_0.al.Reader.af.bX,sF 1 s_0.al.Reader.b_])):=by simp only[aY hB0,aY cM]
 rw[hS]
 intro h
 refine FO tM rfl rfl ?_
 revert h
 rw[l8,cw]
 conv in dec _=>reduce
 repeat'(first
  |(with_reducible first|exact cU|refine bP ?_ ?_|refine cX ?_|refine fun hh=>bA (B0:=B0) (B0_Reader:=B0_Reader) (preB0:=[]) (postB0:=[sT 1 s_0.cD,.int .i64 s_0.bF]) (by simp -implicitDefEqProofs only[go_sem,seval,ah ab,ah ab.symm,set_comm ab]<;>simp only[ao]) (by simp -implicitDefEqProofs only[go_sem,seval,ah ab,ah ab.symm,set_comm ab]<;>simp only[ao]) (by first|rfl|simp) ab (aO (show ok (ax s_0.al 3) _ from hh) fun r1=>?_))
  |simp -implicitDefEqProofs only[go_sem,seval,ah ab,ah ab.symm,set_comm ab])
def fY(s_0:ak):Option (ak):=
 aP (fV s_0.al.Reader) fun r1=>
 aP (aI (cg.mk r1 s_0.al.e_) 16) fun r2=>
 jn (
  aP (aI r2.2 16) fun r5=>
  if(aw (TY .i64 r5.1 65535))!=r2.1 then
   aP (ax r5.2 11) fun r6=>
   some (ak.mk r6 s_0.cD s_0.bF)
  else
   some (ak.mk r5.2 s_0.cD s_0.bF)) fun(o4:ak)=>
 iter (fun((n7,o8):Int×ak)=>
  if(decide (n7>0))&&(o8.al.e_==0)then
   jn (
    aP (aI o8.al 8) fun r12=>
    if r12.2.e_==0 then
     aP (cw (ak.mk r12.2 o8.cD o8.bF) (gX (r12.1))) fun r13=>
     some r13
    else
     some (ak.mk r12.2 o8.cD o8.bF)) fun(o11:ak)=>
   some (.inl (aw (n7 -1),o11))
  else
   some (.inr o8)) (r2.1,o4)
def jW:IC:=dec 0x740b52af7368f87ef19f86072d3f514b7b7122b34b9b4e54aa8bd5bd2d6a047413e969fbb358d2adfc0b15c14fa74d0c8fa88a85159d0cb275f125503142033996f9f8b832215abe7ec5d7a7ed2068f891ccb453bf3d34bae386142b07058920a48be53523ede0a3085f02b1d47cf4a786957a17ddc1deedd8eb08ff1e781a736a0838a91aabfac591b384298e4a0ed13a07062865a372ebba8bf68c81d0729198da0a71458f
theorem qj:aS prog 171 51 [] jW=true:=by kernel_rfl
theorem pX{s_0}{B0 B0_Reader:Nat}{s:ae}{Q:List AV->ae->Prop}(hB0:s B0=some (.cells [.ref B0_Reader 0,.int .i64 s_0.al.e_,sT 1 s_0.cD,.int .i64 s_0.bF]))(cM:s B0_Reader=some (.cells [.int .i64 s_0.al.Reader.af.at_,.bool s_0.al.Reader.af.bT,.bool s_0.al.Reader.af.bX,sF 1 s_0.al.Reader.b_]))(ab:B0≠B0_Reader):ok (fY s_0) (fun r=>Q [] ((s.set B0 (.cells [.ref B0_Reader 0,.int .i64 r.al.e_,sT 1 r.cD,.int .i64 r.bF])).set B0_Reader (.cells [.int .i64 r.al.Reader.af.at_,.bool r.al.Reader.af.bT,.bool r.al.Reader.af.bX,sF 1 r.al.Reader.b_])))->FN prog 171 [.ref B0 0] s Q:=by
 have hS:s=((s.set B0 (.cells [.ref B0_Reader 0,.int .i64 s_0.al.e_,sT 1 s_0.cD,.int .i64 s_0.bF])).set B0_Reader (.cells [.int .i64 s_0.al.Reader.af.at_,.bool s_0.al.Reader.af.bT,.bool s_0.al.Reader.af.bX,sF 1 s_0.al.Reader.b_])):=by simp only[aY hB0,aY cM]
 rw[hS]
 intro h
 refine FO qj rfl rfl ?_
 revert h
 rw[jW,fY]
 conv in dec _=>reduce
 repeat'(first
  |(with_reducible first|exact cU|refine bP ?_ ?_|refine cX ?_|refine fun hh=>sG (B0:=B0_Reader) (by simp -implicitDefEqProofs only[go_sem,seval,ah ab,ah ab.symm,set_comm ab]<;>simp only[ao]) (aO (show ok (fV s_0.al.Reader) _ from hh) fun r1=>?_)|refine fun hh=>bM (B0:=B0) (B0_Reader:=B0_Reader) (preB0:=[]) (postB0:=[sT 1 s_0.cD,.int .i64 s_0.bF]) (by simp -implicitDefEqProofs only[go_sem,seval,ah ab,ah ab.symm,set_comm ab]<;>simp only[ao]) (by simp -implicitDefEqProofs only[go_sem,seval,ah ab,ah ab.symm,set_comm ab]<;>simp only[ao]) (by first|rfl|simp) ab (aO (show ok (aI (cg.mk r1 s_0.al.e_) 16) _ from hh) fun r2=>?_)|refine fun hh=>bM (B0:=B0) (B0_Reader:=B0_Reader) (preB0:=[]) (postB0:=[sT 1 s_0.cD,.int .i64 s_0.bF]) (by simp -implicitDefEqProofs only[go_sem,seval,ah ab,ah ab.symm,set_comm ab]<;>simp only[ao]) (by simp -implicitDefEqProofs only[go_sem,seval,ah ab,ah ab.symm,set_comm ab]<;>simp only[ao]) (by first|rfl|simp) ab (aO (show ok (aI r2.2 16) _ from hh) fun r5=>?_)|refine fun hh=>bA (B0:=B0) (B0_Reader:=B0_Reader) (preB0:=[]) (postB0:=[sT 1 s_0.cD,.int .i64 s_0.bF]) (by simp -implicitDefEqProofs only[go_sem,seval,ah ab,ah ab.symm,set_comm ab]<;>simp only[ao]) (by simp -implicitDefEqProofs only[go_sem,seval,ah ab,ah ab.symm,set_comm ab]<;>simp only[ao]) (by first|rfl|simp) ab (aO (show ok (ax r5.2 11) _ from hh) fun r6=>?_)|refine fun hh=>bM (B0:=B0) (B0_Reader:=B0_Reader) (preB0:=[]) (postB0:=[sT 1 o8.cD,.int .i64 o8.bF]) (by simp -implicitDefEqProofs only[go_sem,seval,ah ab,ah ab.symm,set_comm ab]<;>simp only[ao]) (by simp -implicitDefEqProofs only[go_sem,seval,ah ab,ah ab.symm,set_comm ab]<;>simp only[ao]) (by first|rfl|simp) ab (aO (show ok (aI o8.al 8) _ from hh) fun r12=>?_)|refine fun hh=>lT (B0:=B0) (B0_Reader:=B0_Reader) (by simp -implicitDefEqProofs only[go_sem,seval,ah ab,ah ab.symm,set_comm ab]<;>simp only[ao]) (by simp -implicitDefEqProofs only[go_sem,seval,ah ab,ah ab.symm,set_comm ab]<;>simp only[ao]) ab (aO (show ok (cw (ak.mk r12.2 o8.cD o8.bF) (gX (r12.1))) _ from hh) fun r13=>?_))
  |((have _x:=n7);clear _x;(with_reducible refine dm (live:=[(0,false),(2,false)]) (fun(o11:ak)=>⟨[(0,.ref B0 0),(2,.int .i64 n7)],[],((s.set B0 (.cells [.ref B0_Reader 0,.int .i64 o11.al.e_,sT 1 o11.cD,.int .i64 o11.bF])).set B0_Reader (.cells [.int .i64 o11.al.Reader.af.at_,.bool o11.al.Reader.af.bT,.bool o11.al.Reader.af.bX,sF 1 o11.al.Reader.b_]))⟩) (fun J=>?_) ?_);rotate_left;rintro o11)
  |((with_reducible refine dm (live:=[(0,false),(2,false)]) (fun(o4:ak)=>⟨[(0,.ref B0 0),(2,.int .i64 r2.1)],[],((s.set B0 (.cells [.ref B0_Reader 0,.int .i64 o4.al.e_,sT 1 o4.cD,.int .i64 o4.bF])).set B0_Reader (.cells [.int .i64 o4.al.Reader.af.at_,.bool o4.al.Reader.af.bT,.bool o4.al.Reader.af.bX,sF 1 o4.al.Reader.b_]))⟩) (fun J=>?_) ?_);rotate_left;rintro o4)
  |((with_reducible refine dk (fun((n7,o8):Int×ak)=>⟨[(0,.ref B0 0),(2,.int .i64 n7)],[],((s.set B0 (.cells [.ref B0_Reader 0,.int .i64 o8.al.e_,sT 1 o8.cD,.int .i64 o8.bF])).set B0_Reader (.cells [.int .i64 o8.al.Reader.af.at_,.bool o8.al.Reader.af.bT,.bool o8.al.Reader.af.bX,sF 1 o8.al.Reader.b_]))⟩) ?_ ?_);(first|exact rfl|simp -implicitDefEqProofs only[go_sem,seval,ah ab,ah ab.symm,set_comm ab]);rintro J ⟨n7,o8⟩)
  |simp -implicitDefEqProofs only[go_sem,seval,ah ab,ah ab.symm,set_comm ab])
def dH(s_0:ak)(qn:Int)(yr:Int):Option (ak):=
 if s_0.al.e_ !=0 then
  some s_0
 else
  if decide (yr>(s_0.cD.length:Int))then
   aP (ax s_0.al 14) fun r1=>
   some (ak.mk r1 s_0.cD s_0.bF)
  else
   if decide (qn>aw (s_0.bF -(s_0.cD.length:Int)))then
    aP (ax s_0.al 3) fun r2=>
    some (ak.mk r2 s_0.cD s_0.bF)
   else
    iter (fun((t3,o4):Int×ak)=>
     if decide (t3<qn)then
      aL (0<=aw ((o4.cD.length:Int) -yr)/\aw ((o4.cD.length:Int) -yr)<o4.cD.length)<|
      aL ((o4.cD.length+[ix o4.cD (aw ((o4.cD.length:Int) -yr))].length)*1<=room)<|
      some (.inl (aw (t3+1),(ak.mk o4.al (o4.cD++[ix o4.cD (aw ((o4.cD.length:Int) -yr))]) o4.bF)))
     else
      some (.inr o4)) (0,s_0)
def jV:IC:=dec 0xf4a6e94cc9a385a1af6753f7bef13306596b92f9789342cb73849f5e93f085d3686105d5fccb8591b50b777d5ceb1ff5e6eec8c9ca6a7006efa72b5406e4ad819959e41ebb5beb84f445ffef0e4cf0f842be12857618ce412f3d9ae68d67dae08b8c53ee54952cc3d0d3c78a4700d0c93545c98897a0b1f5599ead53ae3cbc162398c4f2f3febcf1a7eddb0adb61524f470f1338e052162428b5f011d9c923054ad83a98e52d23833ee7cf6436793e9bfeabd01247a775231817e3eace009706e2ba402a4dd21bac55eac4ea01708fd14adf96d7d7e1da2232c9f683a3f37faa5df81404a05
theorem qi:aS prog 230 68 [] jV=true:=by kernel_rfl
theorem pW{s_0 qn yr}{B0 B0_Reader:Nat}{s:ae}{Q:List AV->ae->Prop}(hB0:s B0=some (.cells [.ref B0_Reader 0,.int .i64 s_0.al.e_,sT 1 s_0.cD,.int .i64 s_0.bF]))(cM:s B0_Reader=some (.cells [.int .i64 s_0.al.Reader.af.at_,.bool s_0.al.Reader.af.bT,.bool s_0.al.Reader.af.bX,sF 1 s_0.al.Reader.b_]))(ab:B0≠B0_Reader):ok (dH s_0 qn yr) (fun r=>Q [] ((s.set B0 (.cells [.ref B0_Reader 0,.int .i64 r.al.e_,sT 1 r.cD,.int .i64 r.bF])).set B0_Reader (.cells [.int .i64 r.al.Reader.af.at_,.bool r.al.Reader.af.bT,.bool r.al.Reader.af.bX,sF 1 r.al.Reader.b_])))->FN prog 230 [.ref B0 0,.int .i64 qn,.int .i64 yr] s Q:=by
 have hS:s=((s.set B0 (.cells [.ref B0_Reader 0,.int .i64 s_0.al.e_,sT 1 s_0.cD,.int .i64 s_0.bF])).set B0_Reader (.cells [.int .i64 s_0.al.Reader.af.at_,.bool s_0.al.Reader.af.bT,.bool s_0.al.Reader.af.bX,sF 1 s_0.al.Reader.b_])):=by simp only[aY hB0,aY cM]
 rw[hS]
 intro h
 refine FO qi rfl rfl ?_
 revert h
 rw[jV,dH]
 conv in dec _=>reduce
 repeat'(first
  |(with_reducible first|exact cU|refine bP ?_ ?_|refine cX ?_|refine fun hh=>bA (B0:=B0) (B0_Reader:=B0_Reader) (preB0:=[]) (postB0:=[sT 1 s_0.cD,.int .i64 s_0.bF]) (by simp -implicitDefEqProofs only[go_sem,seval,ah ab,ah ab.symm,set_comm ab]<;>simp only[ao]) (by simp -implicitDefEqProofs only[go_sem,seval,ah ab,ah ab.symm,set_comm ab]<;>simp only[ao]) (by first|rfl|simp) ab (aO (show ok (ax s_0.al 14) _ from hh) fun r1=>?_)|refine fun hh=>bA (B0:=B0) (B0_Reader:=B0_Reader) (preB0:=[]) (postB0:=[sT 1 s_0.cD,.int .i64 s_0.bF]) (by simp -implicitDefEqProofs only[go_sem,seval,ah ab,ah ab.symm,set_comm ab]<;>simp only[ao]) (by simp -implicitDefEqProofs only[go_sem,seval,ah ab,ah ab.symm,set_comm ab]<;>simp only[ao]) (by first|rfl|simp) ab (aO (show ok (ax s_0.al 3) _ from hh) fun r2=>?_))
  |((with_reducible refine dk (fun((t3,o4):Int×ak)=>⟨[(0,.ref B0 0),(2,.int .i64 yr),(6,.int .i64 qn),(7,.int .i64 t3)],[],((s.set B0 (.cells [.ref B0_Reader 0,.int .i64 o4.al.e_,sT 1 o4.cD,.int .i64 o4.bF])).set B0_Reader (.cells [.int .i64 o4.al.Reader.af.at_,.bool o4.al.Reader.af.bT,.bool o4.al.Reader.af.bX,sF 1 o4.al.Reader.b_]))⟩) ?_ ?_);(first|exact rfl|simp -implicitDefEqProofs only[go_sem,seval,ah ab,ah ab.symm,set_comm ab]);rintro J ⟨t3,o4⟩)
  |simp -implicitDefEqProofs only[go_sem,seval,ah ab,ah ab.symm,set_comm ab])
def dZ(bg:Int):Option (Int×Int×Bool):=
 if(decide (bg<257))||(decide (bg>285))then
  some (0,0,false)
 else
  if bg==285 then
   some (258,0,true)
  else
   if decide (bg<265)then
    some (aw (bg -254),0,true)
   else
    aL (0<=aw (Int.tdiv (aw (bg -261)) 4))<|
    some (aw (3+(aw (kl .i64 (aw (4+(Int.tmod (aw (bg -261)) 4))) (aw (Int.tdiv (aw (bg -261)) 4))))),aw (Int.tdiv (aw (bg -261)) 4),true)
def oE:IC:=dec 0x7f5a2f6c722ade8f7d8e9f738c488f35803dad5020735c582325a9fa2a6383dd60ac6be3cc975413bbb0634774b4c07be310c7e79928dc9b02716d382e1489a5f32dcd2399bdcd9f5394ea6946731ecb5acf63254c6fc3a122f52bbefc89934ab0df21ab1532cb772959e1ef3d42740eb1fafb42625270581c7d2f0b1a45614a4a89922987a6912ad391543de3a512d0a14f4bfd1df6c9e4946d9003cc0047dc
theorem yZ:aS prog 228 34 [⟨2,true,none⟩,⟨3,true,none⟩,⟨4,true,none⟩] oE=true:=by kernel_rfl
theorem yL{bg}{s:ae}{Q:List AV->ae->Prop}:ok (dZ bg) (fun r=>Q [.int .i64 r.1,.int .i64 r.2.1,.bool r.2.2] s)->FN prog 228 [.int .i64 bg] s Q:=by
 intro h
 refine FO yZ rfl rfl ?_
 revert h
 rw[oE,dZ]
 conv in dec _=>reduce
 repeat'(first
  |simp -implicitDefEqProofs only[go_sem,seval])
theorem yK{bg}{s:ae}{r:Int×Int×Bool}(h:dZ bg=some r):FE prog 228 [.int .i64 bg] s [.int .i64 r.1,.int .i64 r.2.1,.bool r.2.2] s:=yL ⟨r,h,rfl,rfl⟩
def c9(bg:Int):Option (Int×Int×Bool):=
 if(decide (bg<0))||(decide (bg>29))then
  some (0,0,false)
 else
  if decide (bg<4)then
   some (aw (bg+1),0,true)
  else
   aL (0<=aw (Int.tdiv (aw (bg -2)) 2))<|
   some (aw (1+(aw (kl .i64 (aw (2+(Int.tmod bg 2))) (aw (Int.tdiv (aw (bg -2)) 2))))),aw (Int.tdiv (aw (bg -2)) 2),true)
def mQ:IC:=dec 0x1a0dfc38146f066fffe5e7babbe508308d39504c623d27c287ca1c96a43d4e7624987991e591aecec6868263783c8523c36fbc8712d4f9a28f1c640e7aee6f2c97642cd30df7321bea1acc7510031dc467dd49c16071f4bc2c691585292a2648a6f70cfe980942de3957de309f7fd1df6c9e4946d9003cc0047dc
theorem vO:aS prog 229 30 [⟨2,true,none⟩,⟨3,true,none⟩,⟨4,true,none⟩] mQ=true:=by kernel_rfl
theorem vK{bg}{s:ae}{Q:List AV->ae->Prop}:ok (c9 bg) (fun r=>Q [.int .i64 r.1,.int .i64 r.2.1,.bool r.2.2] s)->FN prog 229 [.int .i64 bg] s Q:=by
 intro h
 refine FO vO rfl rfl ?_
 revert h
 rw[mQ,c9]
 conv in dec _=>reduce
 repeat'(first
  |simp -implicitDefEqProofs only[go_sem,seval])
theorem vJ{bg}{s:ae}{r:Int×Int×Bool}(h:c9 bg=some r):FE prog 229 [.int .i64 bg] s [.int .i64 r.1,.int .i64 r.2.1,.bool r.2.2] s:=vK ⟨r,h,rfl,rfl⟩
def pn:Option ((List Int)):=some [16,17,18,0,8,7,9,6,10,5,11,4,12,3,13,2,14,1,15]
def pZ:IC:=dec 0x81ee5e1c409f72c397a5e89b6df532507cd02194ce0ddd61fd738955d09f3c9a2ad50105aaffd962cebbd4ddc497cca814d448bbde38ed7f3f54f409b1bf6c8380000000000000000000000000000000000152dd68657dab080d0f26a7a
theorem zX:aS prog 207 2 [⟨0,true,none⟩] pZ=true:=by kernel_rfl
theorem zS{s:ae}{Q:List AV->ae->Prop}:ok (pn) (fun r=>Q [sT 1 r] s)->FN prog 207 [] s Q:=by
 intro h
 refine FO zX rfl rfl ?_
 revert h
 rw[pZ,pn]
 conv in dec _=>reduce
 repeat'(first
  |simp -implicitDefEqProofs only[go_sem,seval])
theorem zR{s:ae}{r:(List Int)}(h:pn=some r):FE prog 207 [] s [sT 1 r] s:=zS ⟨r,h,rfl,rfl⟩
def ou(b_0:(List UInt8)):Option (Int):=
 if decide ((b_0.length:Int)<2)then
  some 10
 else
  aL (0<=(0:Int)/\(0:Int)<b_0.length)<|
  aL ((!(((gX (o6 .u8 ((ix b_0 0).toNat:Int) 15)).toNat:Int)!=8))=true->0<=(0:Int)/\(0:Int)<b_0.length)<|
  aL ((!((((gX (o6 .u8 ((ix b_0 0).toNat:Int) 15)).toNat:Int)!=8)||(decide (((gX (jA .u8 ((ix b_0 0).toNat:Int) 4)).toNat:Int)>7))))=true->0<=(1:Int)/\(1:Int)<b_0.length)<|
  aL ((!(((((gX (o6 .u8 ((ix b_0 0).toNat:Int) 15)).toNat:Int)!=8)||(decide (((gX (jA .u8 ((ix b_0 0).toNat:Int) 4)).toNat:Int)>7)))||(((gX (o6 .u8 ((ix b_0 1).toNat:Int) 32)).toNat:Int)!=0)))=true->0<=(0:Int)/\(0:Int)<b_0.length)<|
  aL ((!(((((gX (o6 .u8 ((ix b_0 0).toNat:Int) 15)).toNat:Int)!=8)||(decide (((gX (jA .u8 ((ix b_0 0).toNat:Int) 4)).toNat:Int)>7)))||(((gX (o6 .u8 ((ix b_0 1).toNat:Int) 32)).toNat:Int)!=0)))=true->0<=(1:Int)/\(1:Int)<b_0.length)<|
  if(((((gX (o6 .u8 ((ix b_0 0).toNat:Int) 15)).toNat:Int)!=8)||(decide (((gX (jA .u8 ((ix b_0 0).toNat:Int) 4)).toNat:Int)>7)))||(((gX (o6 .u8 ((ix b_0 1).toNat:Int) 32)).toNat:Int)!=0))||((Int.tmod (aw (Fk .i64 (aw (kl .i64 (aw (((ix b_0 0).toNat:Int))) 8)) (aw (((ix b_0 1).toNat:Int))))) 31)!=0)then
   some 11
  else
   some 0
def wH:IC:=dec 0x1a7a28cbcd0d59abcd83a0bfe70574e8bc8b36e2fb1eb93cb4a9740fef843d29de80ccd204f093a0796896ab2c92cc38949c791d649ca15ee8438849f30a6471048e37820e4bc251da0dd1866a2ddb240114ea5bf3b722570e2a878adc0677493b50d077b93a5dd747bd1d203d6a3f7cae73aa31e0ad5ee4bde8eadeaede11e4a6a14d24e676e4c1faf3f8a831d131f31264e606c124cff180999ffccbf349fcc00473a
theorem Fh:aS prog 82 41 [⟨2,true,none⟩] wH=true:=by kernel_rfl
theorem FT{b_0}{s:ae}{Q:List AV->ae->Prop}:ok (ou b_0) (fun r=>Q [.int .i64 r] s)->FN prog 82 [sF 1 b_0] s Q:=by
 intro h
 refine FO Fh rfl rfl ?_
 revert h
 rw[wH,ou]
 conv in dec _=>reduce
 repeat'(first
  |simp -implicitDefEqProofs only[go_sem,seval])
theorem FR{b_0}{s:ae}{r:Int}(h:ou b_0=some r):FE prog 82 [sF 1 b_0] s [.int .i64 r] s:=FT ⟨r,h,rfl,rfl⟩
structure dU where
 a_:UInt32
 b_:UInt32
 deriving DecidableEq
instance:bp dU:=⟨2,fun x=>[.int .u32 x.a_.toNat,.int .u32 x.b_.toNat],(dU.mk 0 0),by decide,fun _=>rfl,fun _=>rfl⟩
def eS(h_0:dU)(p_1:(List UInt8)):Option (dU):=
 jn (
  iter (fun((p4,a5,b6):(List UInt8)×UInt32×UInt32)=>
   if decide ((p4.length:Int)>0)then
    jn (
     aL (0<=(0:Int)/\0<=min (p4.length:Int) 5552/\min (p4.length:Int) 5552<=p4.length)<|
     iter (fun((a15,b16,n17,t18,t19,t20):UInt32×UInt32×Int×(List UInt8)×Int×Int)=>
      if decide (t20<t19)then
       aL (0<=t20/\t20<t18.length)<|
       some (.inl (dw ((a15.toNat:Int)+((dw (((ix t18 t20).toNat:Int))).toNat:Int)),dw ((b16.toNat:Int)+((dw ((a15.toNat:Int)+((dw (((ix t18 t20).toNat:Int))).toNat:Int))).toNat:Int)),n17,t18,t19,aw (t20+1)))
      else
       some (.inr (a15,b16,n17))) (a5,b6,min (p4.length:Int) 5552,part p4 0 (min (p4.length:Int) 5552),((part p4 0 (min (p4.length:Int) 5552)).length:Int),0)) fun((a11,b12,n13):UInt32×UInt32×Int)=>
    aL (0<=n13/\n13<=(p4.length:Int)/\(p4.length:Int)<=p4.length)<|
    some (.inl (part p4 n13 (p4.length:Int),dw (Int.tmod (a11.toNat:Int) 65521),dw (Int.tmod (b12.toNat:Int) 65521)))
   else
    some (.inr (a5,b6))) (p_1,dw ((h_0.a_.toNat:Int)+1),h_0.b_)) fun((a1,b2):UInt32×UInt32)=>
 some (dU.mk (dw (Int.tmod ((dw (((dw ((a1.toNat:Int)+65521)).toNat:Int) -1)).toNat:Int) 65521)) b2)
def lX:IC:=dec 0x12e2a4b014ecbcd3da7b44305a890956b3753e4aabc2f44904f3e200936b7130f89f91f706698c12b32cd65195e68615e3ff59f949b00cc66de7d973c8518fcedee799051557a75d94cae5c12c5c0106e605ab063c5a4b4aeb333dc04bbc7f5d4f33856f9ed4ee3312f6518e62d75e8520cb99be20e4e130f548d4a9229bcf5059e8bfd09207c256b0073fa721c80e92ca9488e602254f0b140460ed6680f8709434dc8a8c44fdfed4fc8c1cc56658c5101e7458bf3036f9f782d4823e15575fca6328b98847845de5a3fd4303524eab4f6d03c075880ca913bc9b8acc29c08f81da2052ae1db85c68581863396676e053c9a3153d7857d44846872b8047
theorem tG:aS prog 113 58 [] lX=true:=by kernel_rfl
theorem sB{h_0 p_1}{B0:Nat}{s:ae}{Q:List AV->ae->Prop}(hB0:s B0=some (.cells [.int .u32 h_0.a_.toNat,.int .u32 h_0.b_.toNat])):ok (eS h_0 p_1) (fun r=>Q [] (s.set B0 (.cells [.int .u32 r.a_.toNat,.int .u32 r.b_.toNat])))->FN prog 113 [.ref B0 0,sF 1 p_1] s Q:=by
 have hS:s=(s.set B0 (.cells [.int .u32 h_0.a_.toNat,.int .u32 h_0.b_.toNat])):=by simp only[aY hB0]
 rw[hS]
 intro h
 refine FO tG rfl rfl ?_
 revert h
 rw[lX,eS]
 conv in dec _=>reduce
 repeat'(first
  |(with_reducible first|exact cU|refine bP ?_ ?_|refine cX ?_)
  |((with_reducible refine dk (fun((a15,b16,n17,t18,t19,t20):UInt32×UInt32×Int×(List UInt8)×Int×Int)=>⟨[(0,.ref B0 0),(1,sF 1 p4),(4,.int .u32 a15.toNat),(5,.int .u32 b16.toNat),(6,.int .i64 n17),(26,sF 1 t18),(27,.int .i64 t19),(28,.int .i64 t20)],[],(s.set B0 (.cells [.int .u32 h_0.a_.toNat,.int .u32 h_0.b_.toNat]))⟩) ?_ ?_);(first|exact rfl|simp -implicitDefEqProofs only[go_sem,seval]);rintro J ⟨a15,b16,n17,t18,t19,t20⟩)
  |((with_reducible refine dm (live:=[(0,false),(1,true),(4,false),(5,false),(6,false)]) (fun((a11,b12,n13):UInt32×UInt32×Int)=>⟨[(0,.ref B0 0),(1,sF 1 p4),(4,.int .u32 a11.toNat),(5,.int .u32 b12.toNat),(6,.int .i64 n13)],[],(s.set B0 (.cells [.int .u32 h_0.a_.toNat,.int .u32 h_0.b_.toNat]))⟩) (fun J=>?_) ?_);rotate_left;rintro⟨a11,b12,n13⟩)
  |((with_reducible refine dk (fun((p4,a5,b6):(List UInt8)×UInt32×UInt32)=>⟨[(0,.ref B0 0),(1,sF 1 p4),(4,.int .u32 a5.toNat),(5,.int .u32 b6.toNat)],[],(s.set B0 (.cells [.int .u32 h_0.a_.toNat,.int .u32 h_0.b_.toNat]))⟩) ?_ ?_);(first|exact rfl|simp -implicitDefEqProofs only[go_sem,seval]);rintro J ⟨p4,a5,b6⟩)
  |((with_reducible refine dm (live:=[(0,false),(4,false),(5,false)]) (fun((a1,b2):UInt32×UInt32)=>⟨[(0,.ref B0 0),(4,.int .u32 a1.toNat),(5,.int .u32 b2.toNat)],[],(s.set B0 (.cells [.int .u32 h_0.a_.toNat,.int .u32 h_0.b_.toNat]))⟩) (fun J=>?_) ?_);rotate_left;rintro⟨a1,b2⟩)
  |simp -implicitDefEqProofs only[go_sem,seval])
def eG(h_0:dU):Option (UInt32):=some (dw (Fk .u32 ((dw (kl .u32 (h_0.b_.toNat:Int) 16)).toNat:Int) ((dw (Int.tmod ((dw ((h_0.a_.toNat:Int)+1)).toNat:Int) 65521)).toNat:Int)))
def lg:IC:=dec 0x1235f9f6346067c0b50e5284cb13179b0088eba417d550cd8e5855c204013276c72423b42495dc3edd4c473a
theorem si:aS prog 114 15 [⟨2,true,none⟩] lg=true:=by kernel_rfl
theorem sa{h_0}{B0:Nat}{s:ae}{Q:List AV->ae->Prop}(hB0:s B0=some (.cells [.int .u32 h_0.a_.toNat,.int .u32 h_0.b_.toNat])):ok (eG h_0) (fun r=>Q [.int .u32 r.toNat] s)->FN prog 114 [.ref B0 0] s Q:=by
 have hS:s=(s.set B0 (.cells [.int .u32 h_0.a_.toNat,.int .u32 h_0.b_.toNat])):=by simp only[aY hB0]
 rw[hS]
 intro h
 refine FO si rfl rfl ?_
 revert h
 rw[lg,eG]
 conv in dec _=>reduce
 repeat'(first
  |simp -implicitDefEqProofs only[go_sem,seval])
theorem rZ{h_0}{B0:Nat}{s:ae}{r:UInt32}(hB0:s B0=some (.cells [.int .u32 h_0.a_.toNat,.int .u32 h_0.b_.toNat]))(h:eG h_0=some r):FE prog 114 [.ref B0 0] s [.int .u32 r.toNat] s:=sa hB0 ⟨r,h,rfl,rfl⟩
def pK(b_0:(List UInt8)):Option (UInt32):=
 aP (eS (dU.mk 0 0) b_0) fun r1=>
 aP (eG r1) fun r2=>
 some r2
def yO:IC:=dec 0x5b73c5b761d19e9570bae30d684b68ef3f027c23c2794fdedd4c473a
theorem HV:aS prog 67 7 [⟨2,true,none⟩] yO=true:=by kernel_rfl
theorem Hi{b_0}{s:ae}{Q:List AV->ae->Prop}:ok (pK b_0) (fun r=>Q [.int .u32 r.toNat] s)->FN prog 67 [sF 1 b_0] s Q:=by
 intro h
 refine FN.forget ?_
 refine FO HV rfl rfl ?_
 revert h
 rw[yO,pK]
 conv in dec _=>reduce
 repeat'(first
  |(with_reducible first|refine fun hh=>sB (B0:=N1) (by simp -implicitDefEqProofs only[go_sem,seval]<;>simp only[ao]) (aO (show ok (eS (dU.mk 0 0) b_0) _ from hh) fun r1=>?_)|refine aF (fun _(h:eG r1=some _)=>rZ (B0:=N1) (by simp -implicitDefEqProofs only[go_sem,seval]<;>simp only[ao]) h) (fun r2=>?_))
  |((fail_if_success (have _x:=sN1));with_reducible intro hh N1 hN1;(try simp only[iD]at hN1);have sN1:=hN1;revert hh)
  |with_reducible exact fun hh=>⟨_,lx.set (lx.refl _) (by simp[ae.set,sN1]),hh⟩
  |simp -implicitDefEqProofs only[go_sem,seval])
theorem Hh{b_0}{s:ae}{r:UInt32}(h:pK b_0=some r):FE prog 67 [sF 1 b_0] s [.int .u32 r.toNat] s:=Hi ⟨r,h,rfl,rfl⟩
def lM(x_0:UInt32):Option ((List UInt8)):=some [gX (((dw (jA .u32 (x_0.toNat:Int) 24)).toNat:Int)),gX (((dw (jA .u32 (x_0.toNat:Int) 16)).toNat:Int)),gX (((dw (jA .u32 (x_0.toNat:Int) 8)).toNat:Int)),gX ((x_0.toNat:Int))]
def tc:IC:=dec 0x1b6ca970b4a476d7e45cbd6cd88b1ba68a842eca1fe6fc8d2205325f378af7177136366149ec325f36a5e7578c1cd9383521798d0f2a73a
theorem C9:aS prog 66 15 [⟨2,true,none⟩] tc=true:=by kernel_rfl
theorem B8{x_0}{s:ae}{Q:List AV->ae->Prop}:ok (lM x_0) (fun r=>Q [sT 1 r] s)->FN prog 66 [.int .u32 x_0.toNat] s Q:=by
 intro h
 refine FO C9 rfl rfl ?_
 revert h
 rw[tc,lM]
 conv in dec _=>reduce
 repeat'(first
  |simp -implicitDefEqProofs only[go_sem,seval])
theorem B7{x_0}{s:ae}{r:(List UInt8)}(h:lM x_0=some r):FE prog 66 [.int .u32 x_0.toNat] s [sT 1 r] s:=B8 ⟨r,h,rfl,rfl⟩
def sI(a_0:(List UInt8))(b_1:(List UInt8)):Option (Bool):=some ((aH.mk a_0).b==(aH.mk b_1).b)
def td:IC:=dec 0x17a82325fb78a17081e7dcd9df7a87144e483fa
theorem Da:aS prog 84 10 [⟨4,true,none⟩] td=true:=by kernel_rfl
theorem Ce{a_0 b_1}{s:ae}{Q:List AV->ae->Prop}:ok (sI a_0 b_1) (fun r=>Q [.bool r] s)->FN prog 84 [sF 1 a_0,sF 1 b_1] s Q:=by
 intro h
 refine FO Da rfl rfl ?_
 revert h
 rw[td,sI]
 conv in dec _=>reduce
 repeat'(first
  |simp -implicitDefEqProofs only[go_sem,seval])
theorem Cd{a_0 b_1}{s:ae}{r:Bool}(h:sI a_0 b_1=some r):FE prog 84 [sF 1 a_0,sF 1 b_1] s [.bool r] s:=Ce ⟨r,h,rfl,rfl⟩
def ly(da:(List Int)):Option (Int):=
 if(decide ((da.length:Int)<1))||(decide ((da.length:Int)>320))then
  some (-1)
 else
  uY (
   m5 (
    iter (fun((Qb,t4):Int×Int)=>
     if decide (t4<(da.length:Int))then
      uY (
       aL (0<=t4/\t4<da.length)<|
       if(decide (ix da t4<0))||(decide (ix da t4>15))then
        some (.inr ((-1):Int))
       else
        if decide (ix da t4>0)then
         aL (0<=ix da t4)<|
         some (.inl (aw (Qb+(jA .i64 32768 (ix da t4)))))
        else
         some (.inl Qb)) (fun(WC:Int)=>
       some (.inl (WC,aw (t4+1))))
      (fun(t11:Int)=>some (.inr (.inr t11)))
     else
      some (.inr (.inl Qb))) (0,0)) (fun(aiT:Int)=>
    some (.inl aiT))
   (fun(t6:Int)=>some (.inr t6))) (fun(Ty:Int)=>
   if decide (Ty>32768)then
    some (-1)
   else
    some Ty)
  (fun(t2:Int)=>some t2)
def wu:IC:=dec 0xa0033211092672547d86549628a79433010ac68588b1a7be6aa67491c736a4bd3b5ab26a3614c017789d74f09fa7d46b890afe15bf46e26463ab36614e39aefc68de86f33d6848edd31e5baa737a6d9afaef9794393e199cba14def8f4ca595cdd4e237b4bf5800fba1a243d8aa52621fe6c870c11c8f92eb628c8992bcfb45994fff165e09079e8543244a0e8f94e46e46867d9be0a54921d0d079bbc45f8438b983f3fade040c5123e405fde3538dcb26313e9c1111cf08836fcc00473a
theorem E5:aS prog 277 38 [⟨2,true,none⟩] wu=true:=by kernel_rfl
theorem E2{da}{s:ae}{Q:List AV->ae->Prop}:ok (ly da) (fun r=>Q [.int .i64 r] s)->FN prog 277 [sF 1 da] s Q:=by
 intro h
 refine FO E5 rfl rfl ?_
 revert h
 rw[wu,ly]
 conv in dec _=>reduce
 repeat'(first
  |(with_reducible first|exact cU|refine bP ?_ ?_|refine cX ?_)
  |((with_reducible refine gE (live:=[(3,false),(14,true),(15,false),(16,false)]) (fun(WC:Int)=>⟨[(3,.int .i64 WC),(14,sF 1 da),(15,.int .i64 (da.length:Int)),(16,.int .i64 t4)],[],s⟩) (fun J=>?_) ?_);rotate_left;rintro WC)
  |((with_reducible refine dk (fun((Qb,t4):Int×Int)=>⟨[(3,.int .i64 Qb),(14,sF 1 da),(15,.int .i64 (da.length:Int)),(16,.int .i64 t4)],[],s⟩) ?_ ?_);(first|exact rfl|simp -implicitDefEqProofs only[go_sem,seval]);rintro J ⟨Qb,t4⟩)
  |((with_reducible refine gE (live:=[(3,false)]) (fun(Ty:Int)=>⟨[(3,.int .i64 Ty)],[],s⟩) (fun J=>?_) ?_);rotate_left;rintro Ty)
  |simp -implicitDefEqProofs only[go_sem,seval])
theorem E1{da}{s:ae}{r:Int}(h:ly da=some r):FE prog 277 [sF 1 da] s [.int .i64 r] s:=E2 ⟨r,h,rfl,rfl⟩
set_option maxRecDepth 4000
def A4(n_0:Int):Option (Int):=
 jn (
  iter (fun((x2,k3):Int×Int)=>
   if decide (k3<n_0)then
    some (.inl (aw (2*x2),aw (k3+1)))
   else
    some (.inr x2)) (1,0)) fun(x1:Int)=>
 some x1
def rD(bg:Int):Option (Int×Int×Bool):=
 if(decide (bg<257))||(decide (bg>285))then
  some (0,0,false)
 else
  if bg==285 then
   some (258,0,true)
  else
   jn (
    iter (fun((at3,k4):Int×Int)=>
     if decide (k4<bg)then
      jn (
       if decide (k4>=265)then
        some (aw (Int.tdiv (aw (k4 -261)) 4))
       else
        some 0) fun(n10:Int)=>
      aP (A4 n10) fun r11=>
      some (.inl (aw (at3+r11),aw (k4+1)))
     else
      some (.inr at3)) (3,257)) fun(at2:Int)=>
   if decide (bg<265)then
    some (at2,0,true)
   else
    some (at2,aw (Int.tdiv (aw (bg -261)) 4),true)
def oe(bg:Int):Option (Int×Int×Bool):=
 if(decide (bg<0))||(decide (bg>29))then
  some (0,0,false)
 else
  jn (
   iter (fun((at3,k4):Int×Int)=>
    if decide (k4<bg)then
     jn (
      if decide (k4>=4)then
       some (aw (Int.tdiv (aw (k4 -2)) 2))
      else
       some 0) fun(n10:Int)=>
     aP (A4 n10) fun r11=>
     some (.inl (aw (at3+r11),aw (k4+1)))
    else
     some (.inr at3)) (1,0)) fun(at2:Int)=>
  if decide (bg<4)then
   some (at2,0,true)
  else
   some (at2,aw (Int.tdiv (aw (bg -2)) 2),true)
end Go.AB
end
section
namespace Go.AB
open Go
structure HT where
 B:Nat
 lens:List Int
instance:Inhabited HT:=⟨⟨0,[]⟩⟩
def gx(l:List Int)(n:Nat):Int:=if n=0 then 0 else((l.filter fun x=>x==(n:Int)).length:Int)
def vC(l:List Int)(n:Int):Int:=gx l n.toNat
def idxs(l:List Int):List Int:=(List.range l.length).map fun(k:Nat)=>(k:Int)
def uw(l:List Int):List Int:=((List.range 15).map fun n=>(idxs l).filter fun k=>ix l k==((n+1:Nat):Int)).flatten
def gC(t:HT)(r:bH):Option (Int×Int×bH):=
 iter (fun((code,first,at_,n,r):Int×Int×Int×Int×bH)=>
  if decide (n<=15)then
   if at_==((uw t.lens).length:Int)then
    some (.inr (0,13,r))
   else
    aP (eZ r 1) fun g=>
    if g.2.1 !=0 then
     some (.inr (0,g.2.1,g.2.2))
    else
     aL (0<=n/\n<16)<|
     if decide (aw ((aw (Fk .i64 (aw (kl .i64 code 1)) (aw (g.1.toNat:Int)))) -(aw (kl .i64 first 1)))<vC t.lens n)then
      aL (0<=aw ((aw (at_+(aw (Fk .i64 (aw (kl .i64 code 1)) (aw (g.1.toNat:Int)))))) -(aw (kl .i64 first 1)))/\aw ((aw (at_+(aw (Fk .i64 (aw (kl .i64 code 1)) (aw (g.1.toNat:Int)))))) -(aw (kl .i64 first 1)))<(uw t.lens).length)<|
      some (.inr (ix (uw t.lens) (aw ((aw (at_+(aw (Fk .i64 (aw (kl .i64 code 1)) (aw (g.1.toNat:Int)))))) -(aw (kl .i64 first 1)))),0,g.2.2))
     else
      some (.inl (aw (Fk .i64 (aw (kl .i64 code 1)) (aw (g.1.toNat:Int))),aw ((aw (kl .i64 first 1))+vC t.lens n),aw (at_+vC t.lens n),aw (n+1),g.2.2))
  else
   some (.inr (0,13,r))) (0,0,0,1,r)
theorem Ky{X Y α:Type}{o:Option (X⊕Y)}{z:X⊕Y}{F:X->Option α}{G:Y->Option α}{r:Option α}(h:o=some z)(k:jS F G z=r):uY o F G=r:=by
 rw[h]
 cases z<;>exact k
theorem LM{X Y α:Type}{o:Option (X⊕Y)}{z:X⊕Y}{F:X->Option α}{G:Y->Option α}{r:Option α}(h:o=some z)(k:jS F G z=r):m5 o F G=r:=by
 rw[h]
 cases z<;>exact k
theorem xe{X Y α:Type}{o:Option (X⊕Y)}{F:X->Option α}{G:Y->Option α}{P:α->Prop}(Q:X⊕Y->Prop)(h:∃z,o=some z/\Q z)(k:∀z,Q z->∃x,jS F G z=some x/\P x):∃x,uY o F G=some x/\P x:=by
 obtain⟨z,hz,hq⟩:=h
 obtain⟨x,hx,hp⟩:=k z hq
 exact⟨x,Ky hz hx,hp⟩
theorem NJ{X Y α:Type}{o:Option (X⊕Y)}{F:X->Option α}{G:Y->Option α}{P:α->Prop}(Q:X⊕Y->Prop)(h:∃z,o=some z/\Q z)(k:∀z,Q z->∃x,jS F G z=some x/\P x):∃x,m5 o F G=some x/\P x:=by
 obtain⟨z,hz,hq⟩:=h
 obtain⟨x,hx,hp⟩:=k z hq
 exact⟨x,LM hz hx,hp⟩
theorem L8{X α:Type}{o:Option X}{F:X->Option α}{P:α->Prop}(Q:X->Prop)(h:∃z,o=some z/\Q z)(k:∀z,Q z->∃x,F z=some x/\P x):∃x,aP o F=some x/\P x:=by
 obtain⟨z,hz,hq⟩:=h
 obtain⟨x,hx,hp⟩:=k z hq
 exact⟨x,aj hz hx,hp⟩
theorem XE{X α:Type}{o:Option X}{F:X->Option α}{P:α->Prop}(Q:X->Prop)(h:∃z,o=some z/\Q z)(k:∀z,Q z->∃x,F z=some x/\P x):∃x,jn o F=some x/\P x:=by
 obtain⟨z,hz,hq⟩:=h
 obtain⟨x,hx,hp⟩:=k z hq
 exact⟨x,dI hz hx,hp⟩
theorem mK(p:UInt8->Bool)(h:((List.range 256).all fun n=>p (UInt8.ofNat n))=true)(c:UInt8):p c=true:=by
 have:=List.all_eq_true.1 h c.toNat (List.mem_range.2 c.toNat_lt)
 simpa using this
def Uo(c:UInt8):List Bool:=(List.range 8).map fun j=>c.toNat.testBit j
def ag(b:List UInt8):List Bool:=(b.map Uo).flatten
theorem uO(b:List UInt8):(ag b).length=8*b.length:=by
 induction b with
 |nil=>rfl
 |cons c b ih=>show(Uo c++ag b).length=_;rw[List.length_append,ih];show 8+_=_;rw[List.length_cons];omega
theorem FW:∀(b:List UInt8)(n:Nat)(h:n/8<b.length),(ag b)[n]? =some ((b[n/8]).toNat.testBit (n % 8))
 |[],n,h=>absurd h (Nat.not_lt_zero _)
 |c::b,n,h=>by
  show(Uo c++ag b)[n]? =_
  by_cases hn:n<8
  ·have e:n/8=0:=by omega
   rw[List.getElem?_append_left (by exact hn)]
   simp only[e,List.getElem_cons_zero]
   have hm:n % 8=n:=by omega
   rw[hm]
   unfold Uo
   rw[List.getElem?_map,List.getElem?_range hn];rfl
  ·have ih:=FW b (n -8) (by rw[List.length_cons]at h;omega)
   rw[List.getElem?_append_right (by show 8<=n;omega)]
   show(ag b)[n -8]? =_
   rw[ih]
   have e:n/8=(n -8)/8+1:=by omega
   have e2:(n -8)% 8=n % 8:=by omega
   simp only[e,List.getElem_cons_succ,e2]
def bv:List Bool->Nat
 |[]=>0
 |x::l=>(if x then 1 else 0)+2*bv l
theorem No:∀l:List Bool,bv l<2^l.length
 |[]=>by decide
 |x::l=>by have:=No l;rw[bv,List.length_cons,Nat.pow_succ];split<;>omega
theorem Np:∀(l:List Bool)(x:Bool),bv (l++[x])=bv l+(if x then 2^l.length else 0)
 |[],x=>by simp[bv]
 |y::l,x=>by
  rw[List.cons_append,bv,Np l x,bv,List.length_cons,Nat.pow_succ]
  split<;>split<;>omega
theorem Se(c:UInt8)(j:Nat)(hj:j<8):(((gX (o6 .u8 (c.toNat:Int) ((gX (kl .u8 1 (j:Int))).toNat:Int))).toNat:Int)!=0)=c.toNat.testBit j:=by
 have:=mK (fun c=>(List.range 8).all fun j=>(((gX (o6 .u8 (c.toNat:Int) ((gX (kl .u8 1 (j:Int))).toNat:Int))).toNat:Int)!=0)==c.toNat.testBit j) (by decide+kernel) c
 exact eq_of_beq (List.all_eq_true.1 this j (List.mem_range.2 hj))
theorem ahy(n:Nat)(h:n<9223372036854775808):aw (o6 .i64 (n:Int) 7)=((n % 8:Nat):Int):=by
 have e:o6 .i64 (n:Int) 7=((n % 8:Nat):Int):=by
  unfold o6
  have h1:(BitVec.ofInt IntKind.i64.bits (n:Int))=BitVec.ofNat 64 n:=rfl
  have h2:(BitVec.ofInt IntKind.i64.bits 7)=BitVec.ofNat 64 7:=rfl
  rw[h1,h2]
  congr 1
  show(BitVec.ofNat 64 n&&&BitVec.ofNat 64 7).toNat=_
  rw[BitVec.toNat_and,BitVec.toNat_ofNat,BitVec.toNat_ofNat,Nat.mod_eq_of_lt (a:=n) (by omega)]
  exact Nat.and_two_pow_sub_one_eq_mod n 3
 rw[e,ar (by omega) (by omega)]
theorem aiS(n:Nat):jA .i64 (n:Int) 3=((n/8:Nat):Int):=by
 unfold jA
 show(n:Int).fdiv 8=_
 rw[Int.fdiv_eq_ediv_of_nonneg _ (by omega)];rfl
theorem fJ(n:Nat)(h:n<4294967296):(dw (n:Int)).toNat=n:=by
 unfold dw
 rw[Ez _ _ rfl]
 have:(2^IntKind.u32.bits:Int)=4294967296:=by decide
 rw[this,UInt32.toNat_ofNat']
 omega
theorem aaA(x k:Nat)(hx:x<2^k)(hk:k<32):(dw (Fk .u32 (x:Int) ((dw (kl .u32 1 (k:Int))).toNat:Int))).toNat=x+2^k:=by
 have hp:2^k<2^32:=Nat.pow_lt_pow_right (by decide) hk
 have hp2:2^(k+1)<=2^32:=Nat.pow_le_pow_right (by decide) hk
 have e32:(2:Nat)^32=4294967296:=by decide
 rw[Nat.pow_succ]at hp2
 have e1:kl .u32 1 (k:Int)=((2^k:Nat):Int):=by
  unfold kl
  rw[Int.one_mul,Int.toNat_natCast,show min k IntKind.u32.bits=k from Nat.min_eq_left (by show k<=32;omega)]
  exact(Int.natCast_pow 2 k).symm
 rw[e1,fJ _ (by omega)]
 have e2:Fk .u32 (x:Int) ((2^k:Nat):Int)=((x+2^k:Nat):Int):=by
  unfold Fk
  show(((BitVec.ofNat 32 x |||BitVec.ofNat 32 (2^k)).toNat:Nat):Int)=_
  rw[BitVec.toNat_or,BitVec.toNat_ofNat,BitVec.toNat_ofNat,Nat.mod_eq_of_lt (by omega),Nat.mod_eq_of_lt (by omega)]
  have:=Nat.two_pow_add_eq_or_of_lt hx 1
  rw[Nat.mul_one]at this
  rw[Nat.or_comm,<-this,Nat.add_comm]
 rw[e2,fJ _ (by omega)]
structure ZS where
 at_:Nat
 e:Int
 out:List UInt8
abbrev Wp(b:List UInt8)(n:Nat):bH:=⟨⟨(n:Int),false,true⟩,b⟩
abbrev BH(b:List UInt8)(s:ZS):cg:=⟨Wp b s.at_,s.e⟩
abbrev pG(b:List UInt8)(most:Int)(s:ZS):ak:=⟨BH b s,s.out,most⟩
def ZS.fail(s:ZS)(e:Int):ZS:=if s.e=0 then{s with e:=e}else s
def aB(B:List Bool)(n:Nat)(s:ZS):Int×ZS:=if s.e≠0 then(0,s)else if B.length<s.at_+n then(0,{s with e:=10})else((bv ((B.drop s.at_).take n):Int),{s with at_:=s.at_+n})
theorem aaw{B:List Bool}{n:Nat}{s:ZS}(h:s.e≠0):aB B n s=(0,s):=if_pos h
theorem aav{B:List Bool}{n:Nat}{s:ZS}(h:s.e=0)(h2:B.length<s.at_+n):aB B n s=(0,{s with e:=10}):=by unfold aB;rw[if_neg (by simp[h]),if_pos h2]
theorem aax{B:List Bool}{n:Nat}{s:ZS}(h:s.e=0)(h2:¬B.length<s.at_+n):aB B n s=((bv ((B.drop s.at_).take n):Int),{s with at_:=s.at_+n}):=by unfold aB;rw[if_neg (by simp[h]),if_neg h2]
section
variable{b:List UInt8}{most:Int}
theorem qy(s:ZS)(e:Int):ax (BH b s) e=some (BH b (s.fail e)):=by
 unfold ax ZS.fail
 by_cases h:s.e=0<;>simp[h]
theorem ae6(hb:b.length<576460752303423488){at_ n:Nat}(hn:n<=32)(ha:at_<=8*b.length):eZ (Wp b at_) (n:Int)=
 some (if(ag b).length<at_+n then(0,10,Wp b at_)else(dw (bv (((ag b).drop at_).take n):Nat),0,Wp b (at_+n))):=by
 have hl:=uO b
 unfold eZ bJ fx
 simp only[bJ,Bool.false_or,Bool.not_true,aJ,Bool.false_eq_true,if_false]
 rw[if_neg (by simp;omega)]
 rw[ar (n:=8*(b.length:Int)) (by omega) (by omega),ar (by omega) (by omega)]
 by_cases hlt:(ag b).length<at_+n
 ·rw[if_pos hlt,if_pos (by simp;omega)]
 ·rw[if_neg hlt,if_neg (by simp;omega)]
  refine dI (a:=(dw (bv (((ag b).drop at_).take n):Nat),Wp b (at_+n))) (gD n (fun k=>(dw (bv (((ag b).drop at_).take k):Nat),(k:Int),Wp b (at_+k))) rfl (by omega) (fun k hk=>?_) (by simp)) rfl
  have hg:=FW b (at_+k) (by omega)
  have hi:ix b (((at_+k)/8:Nat):Int)=b[(at_+k)/8]:=fo (by omega)
  have ht:((ag b).drop at_).take (k+1)=((ag b).drop at_).take k++[(b[(at_+k)/8]).toNat.testBit ((at_+k)% 8)]:=by rw[List.take_add_one,List.getElem?_drop,hg];rfl
  have hlen:(((ag b).drop at_).take k).length=k:=by rw[List.length_take,List.length_drop];omega
  have hbv:=No (((ag b).drop at_).take k)
  rw[hlen]at hbv
  have h32:2^k<2^32:=Nat.pow_lt_pow_right (by decide) (by omega)
  have e32:(2:Nat)^32=4294967296:=by decide
  simp only[]
  rw[if_pos (by simp;omega),ht,Np,hlen]
  generalize bv (((ag b).drop at_).take k)=x at hbv
  refine dI (a:=dw ((x+(if(b[(at_+k)/8]).toNat.testBit ((at_+k)% 8)then 2^k else 0):Nat):Int)) ?_ ?_
  ·rw[aiS,bB (by omega)]
   unfold fP fQ
   simp only[Bool.false_eq_true,if_false]
   rw[ahy _ (by omega),bB (by omega),aJ,hi,Se _ _ (by omega)]
   cases(b[(at_+k)/8]).toNat.testBit ((at_+k)% 8)with
   |false=>simp
   |true=>
    simp only[if_true,aJ]
    rw[bB (by omega),fJ x (by omega)]
    have:=aaA x k hbv (by omega)
    have h2:x+2^k<2^32:=by
     have:2^(k+1)<=2^32:=Nat.pow_le_pow_right (by decide) (by omega)
     rw[Nat.pow_succ]at this;omega
    have h3:dw (Fk .u32 (x:Int) ((dw (kl .u32 1 (k:Int))).toNat:Int))=dw ((x+2^k:Nat):Int):=UInt32.toNat_inj.1 (by rw[this,fJ _ (by omega)])
    rw[h3]
  ·rw[ar (by omega) (by omega),ar (by omega) (by omega)]
   rfl
theorem db{n:Nat}{s:ZS}(ha:s.at_<=8*b.length):(aB (ag b) n s).2.at_<=8*b.length/\s.at_<=(aB (ag b) n s).2.at_/\0<=(aB (ag b) n s).1/\(aB (ag b) n s).1<2^n/\(aB (ag b) n s).2.out=s.out/\((aB (ag b) n s).2.e=0->s.e=0/\(aB (ag b) n s).2.at_=s.at_+n):=by
 have hl:=uO b
 have hp:(0:Int)<2^n:=Int.pow_pos (by decide)
 unfold aB
 split
 ·rename_i h;exact⟨ha,Nat.le_refl _,Int.le_refl _,hp,rfl,fun e=>absurd e h⟩
 ·rename_i h
  split
  ·exact⟨ha,Nat.le_refl _,Int.le_refl _,hp,rfl,fun e=>by cases e⟩
  ·refine⟨by show s.at_+n<=_;omega,by show s.at_<=s.at_+n;omega,by show(0:Int)<=(_:Nat);omega,?_,rfl,fun _=>⟨by simpa using h,rfl⟩⟩
   have:=No (((ag b).drop s.at_).take n)
   rw[show(((ag b).drop s.at_).take n).length=n by rw[List.length_take,List.length_drop];omega]at this
   show((bv _:Nat):Int)<2^n
   have h2:((2^n:Nat):Int)=2^n:=by simp
   omega
theorem MJ(hb:b.length<576460752303423488){n:Nat}(hn:n<=31){s:ZS}(ha:s.at_<=8*b.length):aI (BH b s) (n:Int)=some ((aB (ag b) n s).1,BH b (aB (ag b) n s).2):=by
 have hbv:=No (((ag b).drop s.at_).take n)
 have hlen:(((ag b).drop s.at_).take n).length<=n:=List.length_take_le _ _
 have h31:2^(((ag b).drop s.at_).take n).length<=2^31:=Nat.pow_le_pow_right (by decide) (by omega)
 have e31:(2:Nat)^31=2147483648:=by decide
 unfold aI
 by_cases he:s.e=0
 ·rw[if_neg (by simp[he]),ae6 hb (by omega) ha]
  by_cases hlt:(ag b).length<s.at_+n
  ·rw[if_pos hlt,aav he hlt,aJ]
   show aP (ax (BH b s) 10) _=_
   rw[qy,aJ]
   simp[ZS.fail,he]
   rfl
  ·rw[if_neg hlt,aax he hlt,aJ]
   show aP (ax (BH b {s with at_:=s.at_+n}) 0) _=_
   rw[qy,aJ]
   show some (aw ((dw _).toNat:Int),_)=_
   rw[fJ _ (by omega),ar (by omega) (by omega)]
   simp[ZS.fail,he]
 ·rw[if_pos (by simp[he]),aaw he]
end
def hv(x:Int):Int:=32768/2^x.toNat
def XV:List Int->Int->Option Int
 |[],s=>some s
 |x::l,s=>if x<0\/x>15 then none else XV l (if x>0 then s+hv x else s)
def Oa(l:List Int):Int:=if l.length<1\/l.length>320 then -1 else match XV l 0 with
 |none=>-1
 |some s=>if s>32768 then -1 else s
def Fi(l:List Int):Prop:=0<l.length/\l.length<=320/\∀x∈l,0<=x/\x<=15
theorem Rz(x:Int):0<=hv x/\hv x<=32768:=by
 unfold hv
 have h1:(0:Int)<2^x.toNat:=Int.pow_pos (by decide)
 refine⟨Int.ediv_nonneg (by decide) (by omega),?_⟩
 have:=Int.ediv_le_self (a:=32768) (2^x.toNat) (by decide)
 exact this
theorem RY:∀(l:List Int)(s r:Int),XV l s=some r->0<=s->(∀x∈l,0<=x/\x<=15)/\0<=r
 |[],s,r,h,h0=>⟨fun x hx=>absurd hx List.not_mem_nil,by injection h with h;omega⟩
 |x::l,s,r,h,h0=>by
  rw[XV]at h
  split at h
  ·cases h
  ·rename_i hx
   have:=Rz x
   obtain⟨h1,h2⟩:=RY l _ r h (by split<;>omega)
   refine⟨fun y hy=>?_,h2⟩
   rcases List.mem_cons.1 hy with rfl|hy
   ·omega
   ·exact h1 y hy
theorem Ie{l:List Int}(h:0<=Oa l):Fi l:=by
 unfold Oa at h
 split at h
 ·omega
 ·rename_i hl
  cases hk:XV l 0 with
  |none=>rw[hk]at h;simp at h
  |some s=>exact⟨by omega,by omega,(RY l 0 s hk (Int.le_refl _)).1⟩
theorem abg{x:Int}(h0:0<=x)(h:x<=15):jA .i64 32768 x=hv x:=by
 have:x=0\/x=1\/x=2\/x=3\/x=4\/x=5\/x=6\/x=7\/x=8\/x=9\/x=10\/x=11\/x=12\/x=13\/x=14\/x=15:=by omega
 rcases this with h|h|h|h|h|h|h|h|h|h|h|h|h|h|h|h<;>subst h<;>rfl
theorem RZ(l:List Int):ly l=some (Oa l):=by
 unfold ly Oa
 by_cases hl:l.length<1\/l.length>320
 ·rw[if_pos (by simp;omega),if_pos hl]
 ·rw[if_neg (by simp;omega),if_neg hl]
  generalize hr:XV l 0=r
  refine Ky (z:=match r with|none=>.inr (-1)|some s=>.inl s) (LM (z:=match r with|none=>.inr (-1)|some s=>.inl s) (iter_eq (fun(s:Int×Int)=>∃k:Nat,s.2=k/\k<=l.length/\0<=s.1/\s.1<=32768*k/\XV (l.drop k) s.1=r) (fun s=>l.length -s.2.toNat) ⟨0,rfl,Nat.zero_le _,Int.le_refl _,Int.le_refl _,hr⟩ (by simp;omega) ?_) (by cases r<;>rfl)) ?_
  ·rintro⟨sum,t⟩ ⟨k,rfl,hk,h0,h1,hz⟩
   simp only at h0 h1 hz⊢
   by_cases hlt:k<l.length
   ·rw[List.drop_eq_getElem_cons hlt,XV]at hz
    have hix:ix l (k:Int)=l[k]:=fo hlt
    rw[if_pos (by simp;omega)]
    simp only[hix]
    generalize l[k]=x at hz
    by_cases hx:x<0\/x>15
    ·rw[if_pos hx]at hz;subst hz
     refine .inr (Ky (z:=.inr (-1)) (ay (by omega) (aN (by simp;omega) rfl)) rfl)
    ·rw[if_neg hx]at hz
     have hh:=Rz x
     refine .inl ⟨((if x>0 then sum+hv x else sum),((k+1:Nat):Int)),Ky (z:=.inl (if x>0 then sum+hv x else sum)) (ay (by omega) (an (by simp;omega) ?_)) ?_,⟨k+1,rfl,hlt,?_,?_,hz⟩,?_⟩
     ·by_cases hx0:x>0
      ·rw[if_pos (by simp;omega),if_pos hx0,bB (by omega),abg (by omega) (by omega),ar (by omega) (by omega)]
      ·rw[if_neg (by simp;omega),if_neg hx0]
     ·simp only[jd];rw[ar (n:=(k:Int)+1) (by omega) (by omega)];rfl
     ·simp only;split<;>omega
     ·simp only;split<;>omega
     ·simp;omega
   ·rw[List.drop_eq_nil_of_le (by omega)]at hz
    rw[if_neg (by simp;omega)]
    subst hz
    exact .inr rfl
  ·cases r with
   |none=>rfl
   |some s=>
    show(if decide (s>32768)=true then _ else _)=_
    by_cases hs:s>32768
    ·rw[if_pos (by simpa using hs)];simp[hs]
    ·rw[if_neg (by simpa using hs)];simp[hs]
end Go.AB
end
