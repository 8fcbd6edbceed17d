/- A part. -/
import Derived.Test.YtplacgnfinmfbaaGreatDoorFs12
set_option linter.unusedSimpArgs false
set_option linter.unusedVariables false
section
set_option maxRecDepth 16000
namespace Go.AB
open Go
open Go.Proofs.Tryz (prog)
structure aa where
 Kind:Int
 N:Int
 S:aH
 L:(List aa)
mutual
def gY:aa->List AV
 |⟨k,n,s,l⟩=>[.int .i64 k,.int .i64 n,.str s.b,.sl false 4 l.length (nz l)]
def nz:List aa->List AV
 |[]=>[]
 |v::l=>gY v++nz l
end
theorem Hk(x:aa):views (gY x)=gY x:=by cases x;simp[gY,views,view]
theorem Hj(x:aa):(gY x).length=4:=by cases x;simp[gY]
instance:bp aa:=⟨4,gY,⟨0,0,⟨[]⟩,[]⟩,by decide,Hj,Hk⟩
theorem rM:∀l:List aa,nz l=flat l
 |[]=>by rw[nz];rfl
 |v::l=>by rw[nz,rM l];rfl
@[go_sem]theorem mE(x:aa):bp.cells x=[.int .i64 x.Kind,.int .i64 x.N,.str x.S.b,sF 4 x.L]:=by
  cases x
  show gY _=_
  rw[gY,rM]
@[go_sem]theorem Fo(l:List aa)(i:Int):pad [.int .i64 0,.int .i64 0,.str [],.sl false 4 0 []] (views (AB.sub (flat l) (i.toNat*4) 4))=[.int .i64 ((ix l i).Kind),.int .i64 ((ix l i).N),.str ((ix l i).S).b,sF 4 ((ix l i).L)]:=by rw[<-mE];exact yw _ 4 l i (by rw[mE];rfl) rfl
attribute[-go_sem] ck cN bK cj
theorem ai1{P:Program}{X:Prop}{fO:List (List Bool)}{ops f:List au}{live:List Nat}{Q:Exit->St->Prop}{d:List Bool}{E φ:St}
 (h1:∀Q':St->Prop,Q' φ->ON P fO ops (fun τ=>Q' (τ.vU live)) f d E)(h2:X->Q .normal φ):X->ON P fO ops (uk live Q) f d E:=fun x=>h1 (fun τ=>Q .normal τ) (h2 x)
@[go_sem]theorem ajb:Nat.ble 1 1=true:=rfl
@[go_sem]theorem ajB{α:Type}[bp α](n:Nat)(l:List α)(hi:Int)(hn:n=bp.w α):AB.sub (flat l) 0 (hi.toNat*n)=flat (part l 0 hi):=by
  have:=Gb n l 0 hi hn
  rwa[Int.sub_zero,show((0:Int).toNat*n)=0 from by simp]at this
@[go_sem]theorem aeq{α:Type}[bp α](l:List α)(i:Int):ix l ((i.toNat:Nat):Int)=ix l i:=rfl
@[go_sem]theorem aco(l:List Int)(n:Nat):pad [.int .i64 0] (views (AB.sub (flat l) (n*1) 1))=[.int .i64 (ix l (n:Int))]:=V4 l n
theorem jB{P:Program}{f:FuncId}{as1 as2:List AV}{s:ae}{Q:List AV->ae->Prop}(e:as1=as2)(h:FN P f as1 s Q):FN P f as2 s Q:=e▸h
theorem RB{c p:Bool}{A:Prop}(h:p=true->A):(c&&p)=true->A:=fun hh=>h (by cases c<;>simp_all)
theorem jy:Dy prog 137 5 0 109=true:=by kernel_rfl
structure aC where
 Kind:Int
 mY:Int
 To:Int
 V:aa
 S:aH
instance:bp aC:=⟨8,fun x=>[.int .i64 x.Kind,.int .i64 x.mY,.int .i64 x.To,.int .i64 x.V.Kind,.int .i64 x.V.N,.str x.V.S.b,sF 4 x.V.L,.str x.S.b],(aC.mk 0 0 0 (aa.mk 0 0 (aH.mk []) []) (aH.mk [])),by decide,fun _=>rfl,fun _=>rfl⟩
def iE(c_0:UInt8):Option (Bool):=some (((((((c_0.toNat:Int)==0)||((c_0.toNat:Int)==9))||((c_0.toNat:Int)==10))||((c_0.toNat:Int)==12))||((c_0.toNat:Int)==13))||((c_0.toNat:Int)==32))
def yR:IC:=dec 0xed19766602fba43c17dcbf92032600a23740e83d88d1271c0d327740db7487564aa977ee8d901727d7d69f91f30e1cc9b704c9f59c7cb5ce9e39c35dc125f2a6b298824473a
theorem HY:aS prog 121 25 [⟨2,true,none⟩] yR=true:=by kernel_rfl
theorem Ij{c_0}{s:ae}{Q:List AV->ae->Prop}:ok (iE c_0) (fun r=>Q [.bool r] s)->FN prog 121 [.int .u8 c_0.toNat] s Q:=by
 intro h
 refine FO HY rfl rfl ?_
 revert h
 rw[yR,iE]
 conv in dec _=>reduce
 repeat'(first
  |simp -implicitDefEqProofs only[go_sem,seval])
theorem rp{c_0}{s:ae}{r:Bool}(h:iE c_0=some r):FE prog 121 [.int .u8 c_0.toNat] s [.bool r] s:=Ij ⟨r,h,rfl,rfl⟩
def nW(b_0:(List UInt8))(bq:Int):Option (Int):=
 if decide (bq<0)then
  some 0
 else
  uY (
   m5 (
    iter (fun((at3,sN):Int×Bool)=>
     if decide (at3<(b_0.length:Int))then
      uY (
       aL (0<=at3/\at3<b_0.length)<|
       if sN then
        some (.inl ((((ix b_0 at3).toNat:Int)!=10)&&(((ix b_0 at3).toNat:Int)!=13)))
       else
        if((ix b_0 at3).toNat:Int)==37 then
         some (.inl true)
        else
         aP (iE (ix b_0 at3)) fun r11=>
         if !r11 then
          some (.inr at3)
         else
          some (.inl sN)) (fun(yk:Bool)=>
       some (.inl (aw (at3+1),yk)))
      (fun(t10:Int)=>some (.inr (.inr t10)))
     else
      some (.inr (.inl ()))) (bq,false)) (fun(_:Unit)=>
    some (.inl ()))
   (fun(t6:Int)=>some (.inr t6))) (fun(_:Unit)=>
   some (b_0.length:Int))
  (fun(t2:Int)=>some t2)
def AW:IC:=dec 0x55e0511b01012892a24ad1342ca5089f8ef46fb5e50515db15523c742863daff982c7f61c48ea513cca95db257512bffae143162ae66b2a27752633f20b109a513b695d2ac41fe72af7f886d6a90dd5dbd7214ab262fe957607dac62bc6274ccc898949275357186e8ecd4f11857104c8b7a13c076ecabee3422d370257ea187a76567cb8ef3abd08a4ec8cf91f5d66a09a22962316cc5ba245b8116802ef069ca13980083fa
theorem Kt:aS prog 78 37 [⟨4,true,none⟩] AW=true:=by kernel_rfl
theorem KE{b_0 bq}{s:ae}{Q:List AV->ae->Prop}:ok (nW b_0 bq) (fun r=>Q [.int .i64 r] s)->FN prog 78 [sF 1 b_0,.int .i64 bq] s Q:=by
 intro h
 refine FO Kt rfl rfl ?_
 revert h
 rw[AW,nW]
 conv in dec _=>reduce
 repeat'(first
  |(with_reducible first|exact cU|refine bP ?_ ?_|refine cX ?_|refine aF (fun _(h:iE (ix b_0 at3)=some _)=>rp h) (fun r11=>?_))
  |((with_reducible refine gE (live:=[(0,true),(1,false),(5,false)]) (fun(yk:Bool)=>⟨[(0,sF 1 b_0),(1,.int .i64 at3),(5,.bool yk)],[],s⟩) (fun J=>?_) ?_);rotate_left;rintro yk)
  |((with_reducible refine dk (fun((at3,sN):Int×Bool)=>⟨[(0,sF 1 b_0),(1,.int .i64 at3),(5,.bool sN)],[],s⟩) ?_ ?_);(first|exact rfl|simp -implicitDefEqProofs only[go_sem,seval]);rintro J ⟨at3,sN⟩)
  |((with_reducible refine gE (live:=[(0,true)]) (fun(_:Unit)=>⟨[(0,sF 1 b_0)],[],s⟩) (fun J=>?_) ?_);rotate_left;rintro _)
  |simp -implicitDefEqProofs only[go_sem,seval])
theorem KD{b_0 bq}{s:ae}{r:Int}(h:nW b_0 bq=some r):FE prog 78 [sF 1 b_0,.int .i64 bq] s [.int .i64 r] s:=KE ⟨r,h,rfl,rfl⟩
structure aq where
 Builder:wg
 b_:(List UInt8)
 at_:Int
 az:Bool
def cW(s_0:aH)(c_1:UInt8):Option (Int):=
 aP (eF s_0 c_1) fun r1=>
 some r1
def me:IC:=dec 0x13ca928775a3e4835b495f9593980083fa
theorem tS:aS prog 142 8 [⟨4,true,none⟩] me=true:=by kernel_rfl
theorem uA{s_0 c_1}{s:ae}{Q:List AV->ae->Prop}:ok (cW s_0 c_1) (fun r=>Q [.int .i64 r] s)->FN prog 142 [.str s_0.b,.int .u8 c_1.toNat] s Q:=by
 intro h
 refine FO tS rfl rfl ?_
 revert h
 rw[me,cW]
 conv in dec _=>reduce
 repeat'(first
  |with_reducible refine aF (fun _(h:eF s_0 c_1=some _)=>pD h) (fun r1=>?_)
  |simp -implicitDefEqProofs only[go_sem,seval])
theorem mA{s_0 c_1}{s:ae}{r:Int}(h:cW s_0 c_1=some r):FE prog 142 [.str s_0.b,.int .u8 c_1.toNat] s [.int .i64 r] s:=uA ⟨r,h,rfl,rfl⟩
def nt(c_0:UInt8):Option (Bool):=
 aP (cW (aH.mk [40,41,60,62,91,93,123,125,47,37]) c_0) fun r1=>
 some (decide (r1>=0))
def yQ:IC:=dec 0xa1c396336384fd8d13a951013c745c9a05440fbbced918d920824473a
theorem HX:aS prog 150 6 [⟨2,true,none⟩] yQ=true:=by kernel_rfl
theorem Ii{c_0}{s:ae}{Q:List AV->ae->Prop}:ok (nt c_0) (fun r=>Q [.bool r] s)->FN prog 150 [.int .u8 c_0.toNat] s Q:=by
 intro h
 refine FO HX rfl rfl ?_
 revert h
 rw[yQ,nt]
 conv in dec _=>reduce
 repeat'(first
  |with_reducible refine aF (fun _(h:cW (aH.mk [40,41,60,62,91,93,123,125,47,37]) c_0=some _)=>mA h) (fun r1=>?_)
  |simp -implicitDefEqProofs only[go_sem,seval])
theorem Ih{c_0}{s:ae}{r:Bool}(h:nt c_0=some r):FE prog 150 [.int .u8 c_0.toNat] s [.bool r] s:=Ii ⟨r,h,rfl,rfl⟩
def eQ(c_0:UInt8):Option (Bool):=
 aP (iE c_0) fun r1=>
 aP (en (!r1) false (nt c_0)) fun r2=>
 some ((!r1)&&(!r2))
def tq:IC:=dec 0x19674524ab3e59203f68dbee221833dc97698ba209647e77dc540824473a
theorem Dg:aS prog 122 11 [⟨2,true,none⟩] tq=true:=by kernel_rfl
theorem Dx{c_0}{s:ae}{Q:List AV->ae->Prop}:ok (eQ c_0) (fun r=>Q [.bool r] s)->FN prog 122 [.int .u8 c_0.toNat] s Q:=by
 intro h
 refine FO Dg rfl rfl ?_
 revert h
 rw[tq,eQ]
 conv in dec _=>reduce
 repeat'(first
  |(with_reducible first|refine cK (fun _(h:iE c_0=some _)=>rp h) (fun _=>rfl) (fun r1=>?_)|refine dn rfl (fun _(h:nt c_0=some _)=>Ih h) (fun _=>rfl) (fun r2=>?_))
  |simp -implicitDefEqProofs only[go_sem,seval])
theorem tW{c_0}{s:ae}{r:Bool}(h:eQ c_0=some r):FE prog 122 [.int .u8 c_0.toNat] s [.bool r] s:=Dx ⟨r,h,rfl,rfl⟩
def fq(s_0:aq):Option (aH×Bool×aq):=
 jn (
  iter (fun(o3:aq)=>
   aL ((decide (o3.at_<(o3.b_.length:Int)))=true->0<=o3.at_/\o3.at_<o3.b_.length)<|
   aP (en (decide (o3.at_<(o3.b_.length:Int))) false (eQ (ix o3.b_ o3.at_))) fun r6=>
   if(decide (o3.at_<(o3.b_.length:Int)))&&r6 then
    some (.inl (aq.mk o3.Builder o3.b_ (aw (o3.at_+1)) o3.az))
   else
    some (.inr o3)) s_0) fun(o2:aq)=>
 aL (0<=s_0.at_/\s_0.at_<=o2.at_/\o2.at_<=o2.b_.length)<|
 some (aH.mk (part o2.b_ s_0.at_ o2.at_),(decide (o2.at_<(o2.b_.length:Int)))||o2.az,o2)
def qc:IC:=dec 0x1e71539ecd7ed6db23bd7c4da2e7b77742c968529e82b0c827874f32b524230edc4db88dd9b770430dd16dc891f4e2731784142678a99b704bc2e7c6b0c753b4646c43a5acad44a13802243f4003f407a14aaf90c85941886afea3dddad5587ef8551c26d1e89505ffca63d7ad403853f8fb7b4e4cc3d31212e97c771bdeefa6735353d04f1ec0eb015c25b81ce43005330161c7b06cfe5a71273089fcfdf6a9f26d50d5ee896cf9ada31a5d48db518ebf42fe62c3e0ecf161b3defc478b
theorem z8:aS prog 127 66 [⟨2,true,none⟩,⟨3,true,none⟩] qc=true:=by kernel_rfl
theorem qp{s_0}{B0:Nat}{s:ae}{Q:List AV->ae->Prop}(hB0:s B0=some (.cells [dD 137 B0 0 s_0.Builder,de s_0.Builder,sF 1 s_0.b_,.int .i64 s_0.at_,.bool s_0.az])):ok (fq s_0) (fun r=>Q [.str r.1.b,.bool r.2.1] (s.set B0 (.cells [dD 137 B0 0 r.2.2.Builder,de r.2.2.Builder,sF 1 r.2.2.b_,.int .i64 r.2.2.at_,.bool r.2.2.az])))->FN prog 127 [.ref B0 0] s Q:=by
 have hS:s=(s.set B0 (.cells [dD 137 B0 0 s_0.Builder,de s_0.Builder,sF 1 s_0.b_,.int .i64 s_0.at_,.bool s_0.az])):=by simp only[aY hB0]
 rw[hS]
 intro h
 refine FO z8 rfl rfl ?_
 revert h
 rw[qc,fq]
 conv in dec _=>reduce
 repeat'(first
  |(with_reducible first|exact cU|refine bP ?_ ?_|refine dn rfl (fun _(h:eQ (ix o3.b_ o3.at_)=some _)=>tW h) (fun _=>rfl) (fun r6=>?_))
  |((with_reducible refine dk (fun(o3:aq)=>⟨[(0,.ref B0 0),(4,.int .i64 s_0.at_)],[],(s.set B0 (.cells [dD 137 B0 0 o3.Builder,de o3.Builder,sF 1 o3.b_,.int .i64 o3.at_,.bool o3.az]))⟩) ?_ ?_);(first|exact rfl|simp -implicitDefEqProofs only[go_sem,seval]);rintro J o3)
  |((with_reducible refine dm (fun(o2:aq)=>⟨[(0,.ref B0 0),(4,.int .i64 s_0.at_)],[],(s.set B0 (.cells [dD 137 B0 0 o2.Builder,de o2.Builder,sF 1 o2.b_,.int .i64 o2.at_,.bool o2.az]))⟩) (fun J=>?_) ?_);rotate_left;rintro o2)
  |simp -implicitDefEqProofs only[go_sem,seval])
def cc(s_0:aH)(dv:aH):Option (Bool):=
 aL ((decide ((s_0.b.length:Int)>=(dv.b.length:Int)))=true->0<=(0:Int)/\0<=(dv.b.length:Int)/\(dv.b.length:Int)<=s_0.b.length)<|
 some ((decide ((s_0.b.length:Int)>=(dv.b.length:Int)))&&((aH.mk (part s_0.b 0 (dv.b.length:Int))).b==dv.b))
def fN:IC:=dec 0xa10c3beea36cba2014615743eb8ca9583bdbd6a825f524a79466288dd32a7bc319b41144e483fa
theorem kj:aS prog 264 18 [⟨4,true,none⟩] fN=true:=by kernel_rfl
theorem ki{s_0 dv}{s:ae}{Q:List AV->ae->Prop}:ok (cc s_0 dv) (fun r=>Q [.bool r] s)->FN prog 264 [.str s_0.b,.str dv.b] s Q:=by
 intro h
 refine FO kj rfl rfl ?_
 revert h
 rw[fN,cc]
 conv in dec _=>reduce
 repeat'(first
  |simp -implicitDefEqProofs only[go_sem,seval])
theorem ke{s_0 dv}{s:ae}{r:Bool}(h:cc s_0 dv=some r):FE prog 264 [.str s_0.b,.str dv.b] s [.bool r] s:=ki ⟨r,h,rfl,rfl⟩
def cy(s_0:aH)(dv:aH):Option (Bool):=
 aP (cc s_0 dv) fun r1=>
 some r1
def mc:IC:=dec 0x13ca928775b767bf43495f95944e483fa
theorem tQ:aS prog 217 8 [⟨4,true,none⟩] mc=true:=by kernel_rfl
theorem uz{s_0 dv}{s:ae}{Q:List AV->ae->Prop}:ok (cy s_0 dv) (fun r=>Q [.bool r] s)->FN prog 217 [.str s_0.b,.str dv.b] s Q:=by
 intro h
 refine FO tQ rfl rfl ?_
 revert h
 rw[mc,cy]
 conv in dec _=>reduce
 repeat'(first
  |with_reducible refine aF (fun _(h:cc s_0 dv=some _)=>ke h) (fun r1=>?_)
  |simp -implicitDefEqProofs only[go_sem,seval])
theorem mz{s_0 dv}{s:ae}{r:Bool}(h:cy s_0 dv=some r):FE prog 217 [.str s_0.b,.str dv.b] s [.bool r] s:=uz ⟨r,h,rfl,rfl⟩
def cQ(s_0:aH)(j7:aH):Option (aH×aH×Bool):=
 aP (eX s_0 j7) fun r1=>
 if decide (r1>=0)then
  aL (0<=(0:Int)/\0<=r1/\r1<=s_0.b.length)<|
  aL (0<=aw (r1+(j7.b.length:Int))/\aw (r1+(j7.b.length:Int))<=(s_0.b.length:Int)/\(s_0.b.length:Int)<=s_0.b.length)<|
  some (aH.mk (part s_0.b 0 r1),aH.mk (part s_0.b (aw (r1+(j7.b.length:Int))) (s_0.b.length:Int)),true)
 else
  some (s_0,(aH.mk []),false)
def iK:IC:=dec 0x4566d085658667f36f5c70e61bff6b5d746c6e0ef75dc39e736cffb8cdbcffe1049ed7552740eebd6f7492285029c1dd41d89f5f8b2f391183ce39b095ecb9586dcc36c06e73d3defc849c
theorem ng:aS prog 265 23 [⟨4,true,none⟩,⟨5,true,none⟩,⟨6,true,none⟩] iK=true:=by kernel_rfl
theorem nf{s_0 j7}{s:ae}{Q:List AV->ae->Prop}:ok (cQ s_0 j7) (fun r=>Q [.str r.1.b,.str r.2.1.b,.bool r.2.2] s)->FN prog 265 [.str s_0.b,.str j7.b] s Q:=by
 intro h
 refine FO ng rfl rfl ?_
 revert h
 rw[iK,cQ]
 conv in dec _=>reduce
 repeat'(first
  |with_reducible refine aF (fun _(h:eX s_0 j7=some _)=>uB h) (fun r1=>?_)
  |simp -implicitDefEqProofs only[go_sem,seval])
theorem nc{s_0 j7}{s:ae}{r:aH×aH×Bool}(h:cQ s_0 j7=some r):FE prog 265 [.str s_0.b,.str j7.b] s [.str r.1.b,.str r.2.1.b,.bool r.2.2] s:=nf ⟨r,h,rfl,rfl⟩
def iZ(s_0:aH)(j7:aH):Option (aH×aH×Bool):=
 aP (cQ s_0 j7) fun r1=>
 some (r1.1,r1.2.1,r1.2.2)
def tz:IC:=dec 0x4fb00ea327c318c3f520f19c9b4ecd7ddee57d4679f3bf6c06e73d3defc849c
theorem Dl:aS prog 218 13 [⟨4,true,none⟩,⟨5,true,none⟩,⟨6,true,none⟩] tz=true:=by kernel_rfl
theorem Em{s_0 j7}{s:ae}{Q:List AV->ae->Prop}:ok (iZ s_0 j7) (fun r=>Q [.str r.1.b,.str r.2.1.b,.bool r.2.2] s)->FN prog 218 [.str s_0.b,.str j7.b] s Q:=by
 intro h
 refine FO Dl rfl rfl ?_
 revert h
 rw[tz,iZ]
 conv in dec _=>reduce
 repeat'(first
  |with_reducible refine aF (fun _(h:cQ s_0 j7=some _)=>nc h) (fun r1=>?_)
  |simp -implicitDefEqProofs only[go_sem,seval])
theorem El{s_0 j7}{s:ae}{r:aH×aH×Bool}(h:iZ s_0 j7=some r):FE prog 218 [.str s_0.b,.str j7.b] s [.str r.1.b,.str r.2.1.b,.bool r.2.2] s:=Em ⟨r,h,rfl,rfl⟩
def fE(s_0:aH):Option (Int):=
 aL (((s_0.b.length+(aH.mk [48,48,48,48,48,48]).b.length:Nat):Int)<=Ka)<|
 aL (0<=(0:Int)/\0<=6/\6<=(aH.mk (s_0.b++(aH.mk [48,48,48,48,48,48]).b)).b.length)<|
 aP (jN (aH.mk (part (aH.mk (s_0.b++(aH.mk [48,48,48,48,48,48]).b)).b 0 6))) fun r1=>
 some r1.1
def oI:IC:=dec 0x13749e7fbe8e2dc2b57eb9e91e1e40ec525273ba7e22774cd910af30e2665121abeccccccdfc2c13cf657085fcc00473a
theorem y7:aS prog 221 14 [⟨2,true,none⟩] oI=true:=by kernel_rfl
theorem zl{s_0}{s:ae}{Q:List AV->ae->Prop}:ok (fE s_0) (fun r=>Q [.int .i64 r] s)->FN prog 221 [.str s_0.b] s Q:=by
 intro h
 refine FO y7 rfl rfl ?_
 revert h
 rw[oI,fE]
 conv in dec _=>reduce
 repeat'(first
  |(with_reducible first|exact cU|refine bP ?_ ?_)
  |((fail_if_success (have _x:=r1));with_reducible refine aF (fun _ h=>wI h) (fun r1=>?_))
  |simp -implicitDefEqProofs only[go_sem,seval])
theorem zk{s_0}{s:ae}{r:Int}(h:fE s_0=some r):FE prog 221 [.str s_0.b] s [.int .i64 r] s:=zl ⟨r,h,rfl,rfl⟩
def gL(v_0:aa):Option (Int):=
 uY (
  if v_0.Kind==2 then
   some (.inl 2147483647)
  else
   if v_0.Kind==3 then
    some (.inl 2147483647000000)
   else
    some (.inr (2:Int))) (fun(Dz:Int)=>
  if(((decide (v_0.N<aw (0 -Dz)))||(decide (v_0.N>Dz)))||(!(v_0.S.b==(aH.mk []).b)))||(decide ((v_0.L.length:Int)>0))then
   some 2
  else
   some 0)
 (fun(t3:Int)=>some t3)
def yS:IC:=dec 0x1ac1ed7f522246eb1bb86a08164e3d8af792f37deaeba8c6f9bd6992837bb9402cb1d599433d33bbebd54f06e7478c4bc44ae9f8382c76946ba084ae9edfd78ba016ce20fc34639ea4745cf77f6384bd912dee079fc71b43985a2a099f6876dfc6207473e6f7e382d000735699529cfccf7593c6841cc0aa464664b7c5b0ebf3184553559ed614d2008303995b
theorem HZ:aS prog 141 32 [⟨2,true,none⟩] yS=true:=by kernel_rfl
theorem Is{v_0}{s:ae}{Q:List AV->ae->Prop}:ok (gL v_0) (fun r=>Q [.int .i64 r] s)->FN prog 141 [.agg [.int .i64 v_0.Kind,.int .i64 v_0.N,.str v_0.S.b,sF 4 v_0.L]] s Q:=by
 intro h
 refine FO HZ rfl rfl ?_
 revert h
 rw[yS,gL]
 conv in dec _=>reduce
 repeat'(first
  |((with_reducible refine gE (fun(Dz:Int)=>⟨[(1,.loc [.int .i64 v_0.Kind,.int .i64 v_0.N,.str v_0.S.b,sF 4 v_0.L]),(3,.int .i64 Dz)],[],s⟩) (fun J=>?_) ?_);rotate_left;rintro Dz)
  |simp -implicitDefEqProofs only[go_sem,seval])
theorem ru{v_0}{s:ae}{r:Int}(h:gL v_0=some r):FE prog 141 [.agg [.int .i64 v_0.Kind,.int .i64 v_0.N,.str v_0.S.b,sF 4 v_0.L]] s [.int .i64 r] s:=Is ⟨r,h,rfl,rfl⟩
def lE(s_0:aH):Option (aa×Int):=
 jn (
  aP (cy s_0 (aH.mk [45])) fun r4=>
  if r4 then
   aL (0<=(1:Int)/\1<=(s_0.b.length:Int)/\(s_0.b.length:Int)<=s_0.b.length)<|
   some ((-1),aH.mk (part s_0.b 1 (s_0.b.length:Int)))
  else
   aP (cy s_0 (aH.mk [43])) fun r5=>
   if r5 then
    aL (0<=(1:Int)/\1<=(s_0.b.length:Int)/\(s_0.b.length:Int)<=s_0.b.length)<|
    some (1,aH.mk (part s_0.b 1 (s_0.b.length:Int)))
   else
    some (1,s_0)) fun((Ed,Jv):Int×aH)=>
 aP (iZ Jv (aH.mk [46])) fun r6=>
 aP (en (!((aw ((r6.1.b.length:Int)+(r6.2.1.b.length:Int)))==0)) false (lK r6.1)) fun r7=>
 aP (en (!(((aw ((r6.1.b.length:Int)+(r6.2.1.b.length:Int)))==0)||(!r7))) false (lK r6.2.1)) fun r8=>
 if(((aw ((r6.1.b.length:Int)+(r6.2.1.b.length:Int)))==0)||(!r7))||(!r8)then
  some ((aa.mk 0 0 (aH.mk []) ([]:List aa)),11)
 else
  aL ((((aH.mk [48]).b.length+r6.1.b.length:Nat):Int)<=Ka)<|
  aP (jN (aH.mk ((aH.mk [48]).b++r6.1.b))) fun r9=>
  if r9.2 !=0 then
   some ((aa.mk 0 0 (aH.mk []) ([]:List aa)),r9.2)
  else
   if !r6.2.2 then
    some ((aa.mk 2 (aw (Ed*r9.1)) (aH.mk []) ([]:List aa)),0)
   else
    aP (fE r6.2.1) fun r10=>
    aP (gL (aa.mk 3 (aw (Ed*(aw ((aw (r9.1*1000000))+r10)))) (aH.mk []) ([]:List aa))) fun r11=>
    if r11 !=0 then
     some ((aa.mk 0 0 (aH.mk []) ([]:List aa)),5)
    else
     some ((aa.mk 3 (aw (Ed*(aw ((aw (r9.1*1000000))+r10)))) (aH.mk []) ([]:List aa)),0)
def yT:IC:=dec 0x14d9a4599bc4ba3e91ba68139f29f642549f628a18ffdef1205b115f42fe1a39f9cc6432c63cb57c5d197d13d468f62c2d08e753cf6339ca52b0e5b482e02043135ae2b406b8345086e14cffd83db6526b2cc4fe0ce1f785aef811a791cb0815fee72c946eb585c467f8dd261e204cd990300ff55c1e6c8640fb126a89a16daf6becd76abc78bb888d661dffb87fbfefeac28a5a6a8bfc9fe54432424952585308be9c639299a3635e262c9fdf5af2076b46efcea05351d2edfaf5c864fa5d97a572c6306fd2a4cd52b4fe5c855127ad252af45748350d8e2b9510bda4339c14ddb12eff32bd2124311860bcd2aefd7e253d090bc26b21ab321ef693cd3905faa40a0ee80b72b5f2ab6ca7d4905bd7150b05f4aeebc4a3739670f0bea978a05730e26d6b0f779dd1a1e42f11f4610dd0d5c08062a989cc6c8388af7b54be79988045085e67260063c1b992d27e976f8ab8a540031c8cda7089a31aec57c3cb5c43350040de274c3b6b357b2003cd1eb37e0092758b
theorem H7:aS prog 162 75 [⟨2,false,some (4,true)⟩,⟨3,true,none⟩] yT=true:=by kernel_rfl
theorem Iu{s_0}{s:ae}{Q:List AV->ae->Prop}:ok (lE s_0) (fun r=>Q [.agg [.int .i64 r.1.Kind,.int .i64 r.1.N,.str r.1.S.b,sF 4 r.1.L],.int .i64 r.2] s)->FN prog 162 [.str s_0.b] s Q:=by
 intro h
 refine FO H7 rfl rfl ?_
 revert h
 rw[yT,lE]
 conv in dec _=>reduce
 repeat'(first
  |(with_reducible first|exact cU|refine bP ?_ ?_|refine cX ?_|refine aF (fun _(h:cy s_0 (aH.mk [45])=some _)=>mz h) (fun r4=>?_)|refine aF (fun _(h:cy s_0 (aH.mk [43])=some _)=>mz h) (fun r5=>?_)|refine aF (fun _(h:iZ Jv (aH.mk [46])=some _)=>El h) (fun r6=>?_)|refine dn rfl (fun _(h:lK r6.1=some _)=>DE h) (fun _=>rfl) (fun r7=>?_)|refine dn rfl (fun _(h:lK r6.2.1=some _)=>DE h) (fun _=>rfl) (fun r8=>?_))
  |((fail_if_success (have _x:=r9));with_reducible refine aF (fun _ h=>wI h) (fun r9=>?_))
  |(with_reducible first|refine aF (fun _(h:fE r6.2.1=some _)=>zk h) (fun r10=>?_)|refine aF (fun _(h:gL (aa.mk 3 (aw (Ed*(aw ((aw (r9.1*1000000))+r10)))) (aH.mk []) ([]:List aa))=some _)=>(by refine mX ?_ (ru h);simp -implicitDefEqProofs only[go_sem,seval])) (fun r11=>?_))
  |((with_reducible refine dm (fun((Ed,Jv):Int×aH)=>⟨[(2,.loc [.int .i64 0,.int .i64 0,.str (aH.mk []).b,.sl true 4 0 []]),(4,.int .i64 Ed),(5,.str Jv.b)],[],s⟩) (fun J=>?_) ?_);rotate_left;rintro⟨Ed,Jv⟩)
  |simp -implicitDefEqProofs only[go_sem,seval])
theorem It{s_0}{s:ae}{r:aa×Int}(h:lE s_0=some r):FE prog 162 [.str s_0.b] s [.agg [.int .i64 r.1.Kind,.int .i64 r.1.N,.str r.1.S.b,sF 4 r.1.L],.int .i64 r.2] s:=Iu ⟨r,h,rfl,rfl⟩
def eU(s_0:aq):Option (aC×Int×aq):=
 aP (fq s_0) fun r1=>
 if !r1.2.1 then
  some ((aC.mk 0 0 0 (aa.mk 0 0 (aH.mk []) ([]:List aa)) (aH.mk [])),6,r1.2.2)
 else
  aL (0<=(0:Int)/\(0:Int)<r1.1.b.length)<|
  if((((decide (((ix r1.1.b 0).toNat:Int)>=48))&&(decide (((ix r1.1.b 0).toNat:Int)<=57)))||(((ix r1.1.b 0).toNat:Int)==43))||(((ix r1.1.b 0).toNat:Int)==45))||(((ix r1.1.b 0).toNat:Int)==46)then
   aP (lE r1.1) fun r2=>
   some ((aC.mk 1 0 0 r2.1 (aH.mk [])),r2.2,r1.2.2)
  else
   some ((aC.mk 6 0 0 (aa.mk 0 0 (aH.mk []) ([]:List aa)) r1.1),0,r1.2.2)
def l9:IC:=dec 0xb227c2a0210221188422121472a5e552b67fdcbe4fd5ecf838ccf9ea03e7ff4b183da55765caf076cb7ef86621aafe1421403a3a477749e17c59b2ba17c9d0ccb6ddf8e7c33188bbd671c8f8b905055a8a0ad8921731a0869ffb59efaec7a7b3f9ef3587bb4621d3345c24be864f001073215f420b465f5be4f6230bd5af8ba4bd120e07832b76259e815ba3afd119a1ffaa08bf081fd5c3b085fd79a8849227bf583b27f2e602741c4bff2bfcb3bf5e08b4e02dfc396c4932bf6c6dd85431f1d5083dcbfd7004d0b377b7b2003defd1eb37e000000010bf58b
theorem tN:aS prog 123 47 [⟨2,false,some (8,true)⟩,⟨3,true,none⟩] l9=true:=by kernel_rfl
theorem tZ{s_0}{B0:Nat}{s:ae}{Q:List AV->ae->Prop}(hB0:s B0=some (.cells [dD 137 B0 0 s_0.Builder,de s_0.Builder,sF 1 s_0.b_,.int .i64 s_0.at_,.bool s_0.az])):ok (eU s_0) (fun r=>Q [.agg [.int .i64 r.1.Kind,.int .i64 r.1.mY,.int .i64 r.1.To,.int .i64 r.1.V.Kind,.int .i64 r.1.V.N,.str r.1.V.S.b,sF 4 r.1.V.L,.str r.1.S.b],.int .i64 r.2.1] (s.set B0 (.cells [dD 137 B0 0 r.2.2.Builder,de r.2.2.Builder,sF 1 r.2.2.b_,.int .i64 r.2.2.at_,.bool r.2.2.az])))->FN prog 123 [.ref B0 0] s Q:=by
 have hS:s=(s.set B0 (.cells [dD 137 B0 0 s_0.Builder,de s_0.Builder,sF 1 s_0.b_,.int .i64 s_0.at_,.bool s_0.az])):=by simp only[aY hB0]
 rw[hS]
 intro h
 refine FO tN rfl rfl ?_
 revert h
 rw[l9,eU]
 conv in dec _=>reduce
 repeat'(first
  |(with_reducible first|exact cU|refine bP ?_ ?_|refine cX ?_|refine fun hh=>qp (B0:=B0) (by simp -implicitDefEqProofs only[go_sem,seval]<;>simp only[ao]) (aO (show ok (fq s_0) _ from hh) fun r1=>?_)|refine aF (fun _(h:lE r1.1=some _)=>It h) (fun r2=>?_))
  |simp -implicitDefEqProofs only[go_sem,seval])
def bN(s_0:aq):Option (UInt8×Bool):=
 if decide (s_0.at_>=(s_0.b_.length:Int))then
  some (0,false)
 else
  aL (0<=s_0.at_/\s_0.at_<s_0.b_.length)<|
  some (ix s_0.b_ s_0.at_,true)
def qa:IC:=dec 0x60e09abf77c0315b8f48bf6dfb0fc61061a669fcb975bff33f3d2666feceef7ddb8f0525e70d58717e74abfc8b4b4c7697bd0bd906b253b426f1d0bd8d6eb8c04647a061b3cc798478b
theorem z6:aS prog 163 24 [⟨2,true,none⟩,⟨3,true,none⟩] qa=true:=by kernel_rfl
theorem Ae{s_0}{B0:Nat}{s:ae}{Q:List AV->ae->Prop}(hB0:s B0=some (.cells [dD 137 B0 0 s_0.Builder,de s_0.Builder,sF 1 s_0.b_,.int .i64 s_0.at_,.bool s_0.az])):ok (bN s_0) (fun r=>Q [.int .u8 r.1.toNat,.bool r.2] s)->FN prog 163 [.ref B0 0] s Q:=by
 have hS:s=(s.set B0 (.cells [dD 137 B0 0 s_0.Builder,de s_0.Builder,sF 1 s_0.b_,.int .i64 s_0.at_,.bool s_0.az])):=by simp only[aY hB0]
 rw[hS]
 intro h
 refine FO z6 rfl rfl ?_
 revert h
 rw[qa,bN]
 conv in dec _=>reduce
 repeat'(first
  |simp -implicitDefEqProofs only[go_sem,seval])
theorem eJ{s_0}{B0:Nat}{s:ae}{r:UInt8×Bool}(hB0:s B0=some (.cells [dD 137 B0 0 s_0.Builder,de s_0.Builder,sF 1 s_0.b_,.int .i64 s_0.at_,.bool s_0.az]))(h:bN s_0=some r):FE prog 163 [.ref B0 0] s [.int .u8 r.1.toNat,.bool r.2] s:=Ae hB0 ⟨r,h,rfl,rfl⟩
def cC(s_0:aq):Option (Int):=
 if s_0.az then
  some 10
 else
  some 6
def p9:IC:=dec 0x6de8cfafaf9a6b582a0ce164a71a255e1d4fda7d0a5a1ffcc00473a
theorem zZ:aS prog 164 7 [⟨2,true,none⟩] p9=true:=by kernel_rfl
theorem Ad{s_0}{B0:Nat}{s:ae}{Q:List AV->ae->Prop}(hB0:s B0=some (.cells [dD 137 B0 0 s_0.Builder,de s_0.Builder,sF 1 s_0.b_,.int .i64 s_0.at_,.bool s_0.az])):ok (cC s_0) (fun r=>Q [.int .i64 r] s)->FN prog 164 [.ref B0 0] s Q:=by
 have hS:s=(s.set B0 (.cells [dD 137 B0 0 s_0.Builder,de s_0.Builder,sF 1 s_0.b_,.int .i64 s_0.at_,.bool s_0.az])):=by simp only[aY hB0]
 rw[hS]
 intro h
 refine FO zZ rfl rfl ?_
 revert h
 rw[p9,cC]
 conv in dec _=>reduce
 repeat'(first
  |simp -implicitDefEqProofs only[go_sem,seval])
theorem gH{s_0}{B0:Nat}{s:ae}{r:Int}(hB0:s B0=some (.cells [dD 137 B0 0 s_0.Builder,de s_0.Builder,sF 1 s_0.b_,.int .i64 s_0.at_,.bool s_0.az]))(h:cC s_0=some r):FE prog 164 [.ref B0 0] s [.int .i64 r] s:=Ad hB0 ⟨r,h,rfl,rfl⟩
def im(c_0:UInt8):Option (Int):=
 if(decide ((c_0.toNat:Int)>=48))&&(decide ((c_0.toNat:Int)<=57))then
  some (aw (((gX ((c_0.toNat:Int) -48)).toNat:Int)))
 else
  if(decide ((c_0.toNat:Int)>=97))&&(decide ((c_0.toNat:Int)<=102))then
   some (aw ((aw (((gX ((c_0.toNat:Int) -97)).toNat:Int)))+10))
  else
   if(decide ((c_0.toNat:Int)>=65))&&(decide ((c_0.toNat:Int)<=70))then
    some (aw ((aw (((gX ((c_0.toNat:Int) -65)).toNat:Int)))+10))
   else
    some (-1)
def C4:IC:=dec 0x5a7bd2a41efd5a2161ca771502a4fdd566838b1c0356334808800ec6d8682357e3e6f0339f2056249218662267855c8fd429f4b4f4deace826ea8f4ed5ab84aed2daf36deb2dc5911f2bc9aebe87acfbcdd6f581a89fac9b51705da339436121f9d0b59929b7180edf9779b98a8f13674506ffa2ff46d99f8deb822fe12dfcc00473a
theorem Ms:aS prog 168 35 [⟨2,true,none⟩] C4=true:=by kernel_rfl
theorem My{c_0}{s:ae}{Q:List AV->ae->Prop}:ok (im c_0) (fun r=>Q [.int .i64 r] s)->FN prog 168 [.int .u8 c_0.toNat] s Q:=by
 intro h
 refine FO Ms rfl rfl ?_
 revert h
 rw[C4,im]
 conv in dec _=>reduce
 repeat'(first
  |simp -implicitDefEqProofs only[go_sem,seval])
theorem nX{c_0}{s:ae}{r:Int}(h:im c_0=some r):FE prog 168 [.int .u8 c_0.toNat] s [.int .i64 r] s:=My ⟨r,h,rfl,rfl⟩
def fC(s_0:aq):Option (aa×Int×aq):=
 iter (fun((wj,o2):Int×aq)=>
  aP (bN o2) fun r6=>
  if !r6.2 then
   aP (cC o2) fun r7=>
   some (.inr ((aa.mk 0 0 (aH.mk []) ([]:List aa)),r7,o2))
  else
   aP (im r6.1) fun r8=>
   uY (
    if((r6.1.toNat:Int)==62)&&(decide (wj>=0))then
     aP (aE o2.Builder (gX (aw (16*wj)))) fun r15=>
     aP (bk r15.2) fun r16=>
     some (.inr ((aa.mk 4 0 r16.1 ([]:List aa)),(0:Int),(aq.mk r16.2 o2.b_ (aw (o2.at_+1)) o2.az)))
    else
     if(r6.1.toNat:Int)==62 then
      aP (bk o2.Builder) fun r17=>
      some (.inr ((aa.mk 4 0 r17.1 ([]:List aa)),(0:Int),(aq.mk r17.2 o2.b_ (aw (o2.at_+1)) o2.az)))
     else
      aP (iE r6.1) fun r18=>
      if r18 then
       some (.inl (wj,(aq.mk o2.Builder o2.b_ (aw (o2.at_+1)) o2.az)))
      else
       if decide (r8<0)then
        some (.inr ((aa.mk 0 0 (aH.mk []) ([]:List aa)),(11:Int),(aq.mk o2.Builder o2.b_ (aw (o2.at_+1)) o2.az)))
       else
        if decide (wj<0)then
         some (.inl (r8,(aq.mk o2.Builder o2.b_ (aw (o2.at_+1)) o2.az)))
        else
         aP (aE o2.Builder (gX (aw ((aw (16*wj))+r8)))) fun r19=>
         some (.inl ((-1),(aq.mk r19.2 o2.b_ (aw (o2.at_+1)) o2.az)))) (fun((HO,o11):Int×aq)=>
    some (.inl (HO,o11)))
   (fun((t12,t13,o14):aa×Int×aq)=>some (.inr (t12,t13,o14)))) ((-1),s_0)
def oF:IC:=dec 0xa759657d0c7c18a2ad0b99798d9a883357b771c77fef86f653d7c51d80de8a5302672e0b75721c06f97c01c3c5ea0e8825699a19c81fcee3c0207826b08b9952f44e0ce2d37cfd90df5e8716e678b3125854db2896d234c9177f24e2e8fc44e1a3cca1abaa687609f3eb060053c8d9c3e8c07345ebe98b01cd481c8bfc474157168b70dcfa0a5aed7869717bef5064ab2680d917c8047baa3ca786e25bb5525ee3d0460bddf5299be95e86f916843d9ba57c0a210572793f4334484843cc57fc76eb50ca62c26cc3829cc121ad5b333c594e69d4456551ea9d6ea1a62e428406b5fbaf766aff120c198893387ec76de69760609d6b98453ef33e97f664d2f792c79fed9163e17727d6d4d2378b8a81fbe8316995aa57625264b98ab18cd618be9010947c5e01296026ceb814d26995c1ac31a23d5017dbb359e84938bac7b2003cd1eb37e0092758b
theorem y0:aS prog 165 74 [⟨2,false,some (4,true)⟩,⟨3,true,none⟩] oF=true:=by kernel_rfl
theorem za{s_0}{B0:Nat}{s:ae}{Q:List AV->ae->Prop}(hB0:s B0=some (.cells [dD 137 B0 0 s_0.Builder,de s_0.Builder,sF 1 s_0.b_,.int .i64 s_0.at_,.bool s_0.az])):ok (fC s_0) (fun r=>Q [.agg [.int .i64 r.1.Kind,.int .i64 r.1.N,.str r.1.S.b,sF 4 r.1.L],.int .i64 r.2.1] (s.set B0 (.cells [dD 137 B0 0 r.2.2.Builder,de r.2.2.Builder,sF 1 r.2.2.b_,.int .i64 r.2.2.at_,.bool r.2.2.az])))->FN prog 165 [.ref B0 0] s Q:=by
 have hS:s=(s.set B0 (.cells [dD 137 B0 0 s_0.Builder,de s_0.Builder,sF 1 s_0.b_,.int .i64 s_0.at_,.bool s_0.az])):=by simp only[aY hB0]
 rw[hS]
 intro h
 refine FO y0 rfl rfl ?_
 revert h
 rw[oF,fC]
 conv in dec _=>reduce
 repeat'(first
  |(with_reducible first|exact cU|refine bP ?_ ?_|refine cX ?_|refine aF (fun _(h:bN o2=some _)=>eJ (B0:=B0) (by simp -implicitDefEqProofs only[go_sem,seval]<;>simp only[ao]) h) (fun r6=>?_)|refine aF (fun _(h:cC o2=some _)=>gH (B0:=B0) (by simp -implicitDefEqProofs only[go_sem,seval]<;>simp only[ao]) h) (fun r7=>?_)|refine aF (fun _(h:im r6.1=some _)=>nX h) (fun r8=>?_)|refine fun hh=>jB (by simp -implicitDefEqProofs only[go_sem,seval]) (bS (B0:=B0) (preB0:=[]) (postB0:=[sF 1 o2.b_,.int .i64 (aw (o2.at_+1)),.bool o2.az]) (TB0:=137) (by simp -implicitDefEqProofs only[go_sem,seval]<;>simp only[ao]) (by first|rfl|simp) jy (aO (show ok (aE o2.Builder (gX (aw (16*wj)))) _ from hh) fun r15=>?_))|refine fun hh=>jB (by simp -implicitDefEqProofs only[go_sem,seval]) (ez (B0:=B0) (preB0:=[]) (postB0:=[sF 1 o2.b_,.int .i64 (aw (o2.at_+1)),.bool o2.az]) (TB0:=137) (by simp -implicitDefEqProofs only[go_sem,seval]<;>simp only[ao]) (by first|rfl|simp) jy (aO (show ok (bk r15.2) _ from hh) fun r16=>?_))|refine fun hh=>jB (by simp -implicitDefEqProofs only[go_sem,seval]) (ez (B0:=B0) (preB0:=[]) (postB0:=[sF 1 o2.b_,.int .i64 (aw (o2.at_+1)),.bool o2.az]) (TB0:=137) (by simp -implicitDefEqProofs only[go_sem,seval]<;>simp only[ao]) (by first|rfl|simp) jy (aO (show ok (bk o2.Builder) _ from hh) fun r17=>?_))|refine aF (fun _(h:iE r6.1=some _)=>rp h) (fun r18=>?_)|refine fun hh=>jB (by simp -implicitDefEqProofs only[go_sem,seval]) (bS (B0:=B0) (preB0:=[]) (postB0:=[sF 1 o2.b_,.int .i64 (aw (o2.at_+1)),.bool o2.az]) (TB0:=137) (by simp -implicitDefEqProofs only[go_sem,seval]<;>simp only[ao]) (by first|rfl|simp) jy (aO (show ok (aE o2.Builder (gX (aw ((aw (16*wj))+r8)))) _ from hh) fun r19=>?_)))
  |((with_reducible refine gE (fun((HO,o11):Int×aq)=>⟨[(0,.ref B0 0),(2,.loc [.int .i64 0,.int .i64 0,.str (aH.mk []).b,.sl true 4 0 []]),(4,.int .i64 HO)],[],(s.set B0 (.cells [dD 137 B0 0 o11.Builder,de o11.Builder,sF 1 o11.b_,.int .i64 o11.at_,.bool o11.az]))⟩) (fun J=>?_) ?_);rotate_left;rintro⟨HO,o11⟩)
  |((with_reducible refine y9 (fun((wj,o2):Int×aq)=>⟨[(0,.ref B0 0),(2,.loc [.int .i64 0,.int .i64 0,.str (aH.mk []).b,.sl true 4 0 []]),(4,.int .i64 wj)],[],(s.set B0 (.cells [dD 137 B0 0 o2.Builder,de o2.Builder,sF 1 o2.b_,.int .i64 o2.at_,.bool o2.az]))⟩) ?_ ?_);(first|exact rfl|simp -implicitDefEqProofs only[go_sem,seval]);rintro J ⟨wj,o2⟩)
  |simp -implicitDefEqProofs only[go_sem,seval])
def gI(s_0:aq):Option (aC×Int×aq):=
 aP (bN s_0) fun r1=>
 if !r1.2 then
  aP (cC s_0) fun r2=>
  some ((aC.mk 0 0 0 (aa.mk 0 0 (aH.mk []) ([]:List aa)) (aH.mk [])),r2,s_0)
 else
  if(r1.1.toNat:Int)==60 then
   some ((aC.mk 4 0 0 (aa.mk 0 0 (aH.mk []) ([]:List aa)) (aH.mk [])),0,(aq.mk s_0.Builder s_0.b_ (aw (s_0.at_+1)) s_0.az))
  else
   aP (fC s_0) fun r3=>
   some ((aC.mk 1 0 0 r3.1 (aH.mk [])),r3.2.1,r3.2.2)
def mT:IC:=dec 0x149b1c16ce515582be034be5e186f05420f1e918de920ee82a52e970a67ab7b32a741e6290c91e50ce9978065f8db2dc97a77834696ca6c259e36a8244c8055c1341b5c1704fbc624346a92c21effcb3a04f1d3cf511f530ecb3bb7799e7858959e5416f8320886179f14376b537d82dbf456ff26ec1333fb98be893758934f05ad01c4bff2c09de5cd20a498a49893527b9b028d3160ed431f1d3e44cdd8c2f73eb4b81b7b2003defd1eb37e000000010bf58b
theorem vR:aS prog 124 36 [⟨2,false,some (8,true)⟩,⟨3,true,none⟩] mT=true:=by kernel_rfl
theorem vZ{s_0}{B0:Nat}{s:ae}{Q:List AV->ae->Prop}(hB0:s B0=some (.cells [dD 137 B0 0 s_0.Builder,de s_0.Builder,sF 1 s_0.b_,.int .i64 s_0.at_,.bool s_0.az])):ok (gI s_0) (fun r=>Q [.agg [.int .i64 r.1.Kind,.int .i64 r.1.mY,.int .i64 r.1.To,.int .i64 r.1.V.Kind,.int .i64 r.1.V.N,.str r.1.V.S.b,sF 4 r.1.V.L,.str r.1.S.b],.int .i64 r.2.1] (s.set B0 (.cells [dD 137 B0 0 r.2.2.Builder,de r.2.2.Builder,sF 1 r.2.2.b_,.int .i64 r.2.2.at_,.bool r.2.2.az])))->FN prog 124 [.ref B0 0] s Q:=by
 have hS:s=(s.set B0 (.cells [dD 137 B0 0 s_0.Builder,de s_0.Builder,sF 1 s_0.b_,.int .i64 s_0.at_,.bool s_0.az])):=by simp only[aY hB0]
 rw[hS]
 intro h
 refine FO vR rfl rfl ?_
 revert h
 rw[mT,gI]
 conv in dec _=>reduce
 repeat'(first
  |(with_reducible first|exact cU|refine bP ?_ ?_|refine cX ?_|refine aF (fun _(h:bN s_0=some _)=>eJ (B0:=B0) (by simp -implicitDefEqProofs only[go_sem,seval]<;>simp only[ao]) h) (fun r1=>?_)|refine aF (fun _(h:cC s_0=some _)=>gH (B0:=B0) (by simp -implicitDefEqProofs only[go_sem,seval]<;>simp only[ao]) h) (fun r2=>?_)|refine fun hh=>za (B0:=B0) (by simp -implicitDefEqProofs only[go_sem,seval]<;>simp only[ao]) (aO (show ok (fC s_0) _ from hh) fun r3=>?_))
  |simp -implicitDefEqProofs only[go_sem,seval])
def gG(s_0:aq):Option (aC×Int×aq):=
 aP (bN s_0) fun r1=>
 if(!r1.2)&&(!s_0.az)then
  some ((aC.mk 0 0 0 (aa.mk 0 0 (aH.mk []) ([]:List aa)) (aH.mk [])),6,s_0)
 else
  if(!r1.2)||((r1.1.toNat:Int)!=62)then
   some ((aC.mk 0 0 0 (aa.mk 0 0 (aH.mk []) ([]:List aa)) (aH.mk [])),11,s_0)
  else
   some ((aC.mk 5 0 0 (aa.mk 0 0 (aH.mk []) ([]:List aa)) (aH.mk [])),0,(aq.mk s_0.Builder s_0.b_ (aw (s_0.at_+1)) s_0.az))
def mS:IC:=dec 0x61afcd709b7d8054bcb615d1fdc66014f8a903ddfaf48485948265218bcf7c7be9d3941a20210c20b194bf37a2b7dbe87fc7c702acdafbd348c93a4456b3368b1f541b1625c975eb1782675d34b5d3341d5e953cea61d694b2364ef0feb65fe69976a670011e81c7022e5ea849faa9c2e0803e1c15c7b905cbceae7dd6bf25dbf95304ce328ae8e23571b6a8e820904bd431f1d19c6b00976f73e07b95b7b2003defd1eb37e000000010bf58b
theorem vQ:aS prog 125 38 [⟨2,false,some (8,true)⟩,⟨3,true,none⟩] mS=true:=by kernel_rfl
theorem vY{s_0}{B0:Nat}{s:ae}{Q:List AV->ae->Prop}(hB0:s B0=some (.cells [dD 137 B0 0 s_0.Builder,de s_0.Builder,sF 1 s_0.b_,.int .i64 s_0.at_,.bool s_0.az])):ok (gG s_0) (fun r=>Q [.agg [.int .i64 r.1.Kind,.int .i64 r.1.mY,.int .i64 r.1.To,.int .i64 r.1.V.Kind,.int .i64 r.1.V.N,.str r.1.V.S.b,sF 4 r.1.V.L,.str r.1.S.b],.int .i64 r.2.1] (s.set B0 (.cells [dD 137 B0 0 r.2.2.Builder,de r.2.2.Builder,sF 1 r.2.2.b_,.int .i64 r.2.2.at_,.bool r.2.2.az])))->FN prog 125 [.ref B0 0] s Q:=by
 have hS:s=(s.set B0 (.cells [dD 137 B0 0 s_0.Builder,de s_0.Builder,sF 1 s_0.b_,.int .i64 s_0.at_,.bool s_0.az])):=by simp only[aY hB0]
 rw[hS]
 intro h
 refine FO vQ rfl rfl ?_
 revert h
 rw[mS,gG]
 conv in dec _=>reduce
 repeat'(first
  |with_reducible refine aF (fun _(h:bN s_0=some _)=>eJ (B0:=B0) (by simp -implicitDefEqProofs only[go_sem,seval]<;>simp only[ao]) h) (fun r1=>?_)
  |simp -implicitDefEqProofs only[go_sem,seval])
def fD(s_0:aq)(c_1:UInt8):Option (Bool×aq):=
 uY (
  m5 (
   iter (fun((n5,k6,o7):Int×Int×aq)=>
    if decide (k6<2)then
     aP (bN o7) fun r12=>
     if !r12.2 then
      if o7.az then
       aP (aE o7.Builder (gX (n5))) fun r13=>
       some (.inr (.inr (o7.az||false,(aq.mk r13.2 o7.b_ o7.at_ o7.az))))
      else
       some (.inr (.inr (o7.az||false,o7)))
     else
      if(decide ((r12.1.toNat:Int)<48))||(decide ((r12.1.toNat:Int)>55))then
       some (.inr (.inl (n5,o7)))
      else
       some (.inl (aw ((aw (8*n5))+(aw (((gX ((r12.1.toNat:Int) -48)).toNat:Int)))),aw (k6+1),(aq.mk o7.Builder o7.b_ (aw (o7.at_+1)) o7.az)))
    else
     some (.inr (.inl (n5,o7)))) (aw (((gX ((c_1.toNat:Int) -48)).toNat:Int)),0,s_0)) (fun((n8,o9):Int×aq)=>
   some (.inl (n8,o9)))
  (fun((t10,o11):Bool×aq)=>some (.inr (t10,o11)))) (fun((n1,o2):Int×aq)=>
  aP (aE o2.Builder (gX (n1))) fun r14=>
  some (true,(aq.mk r14.2 o2.b_ o2.at_ o2.az)))
 (fun((t3,o4):Bool×aq)=>some (t3,o4))
def oG:IC:=dec 0x4969ec937679dbb63723cb250aeb9dd45e7e155e113c65df360df9bd661b3b56b80671ab6dff140bc0df19df76241aad63c89b411cc7c36ccdffe9cf8c8510b3bd6902540ba0577637cb3971a6a814fd2ee9da2b486b39a07758088ebb32cbd94a4b8a22e8b924498710f050219d46a13927a247f5fbc355e16bd30800ea70b64110d58de0493326f7713df09bf7f7ac8b5adbc20bc460247d566ece9c4acb27551fb1be258a5cc07b1d068b81cca7e6c38cf435f4ca6d736d3466c5e1b147dcad1db95911d653dfe4c91b3c2b5263d4cd5a9944e483fa
theorem y5:aS prog 222 62 [⟨4,true,none⟩] oG=true:=by kernel_rfl
theorem zb{s_0 c_1}{B0:Nat}{s:ae}{Q:List AV->ae->Prop}(hB0:s B0=some (.cells [dD 137 B0 0 s_0.Builder,de s_0.Builder,sF 1 s_0.b_,.int .i64 s_0.at_,.bool s_0.az])):ok (fD s_0 c_1) (fun r=>Q [.bool r.1] (s.set B0 (.cells [dD 137 B0 0 r.2.Builder,de r.2.Builder,sF 1 r.2.b_,.int .i64 r.2.at_,.bool r.2.az])))->FN prog 222 [.ref B0 0,.int .u8 c_1.toNat] s Q:=by
 have hS:s=(s.set B0 (.cells [dD 137 B0 0 s_0.Builder,de s_0.Builder,sF 1 s_0.b_,.int .i64 s_0.at_,.bool s_0.az])):=by simp only[aY hB0]
 rw[hS]
 intro h
 refine FO y5 rfl rfl ?_
 revert h
 rw[oG,fD]
 conv in dec _=>reduce
 repeat'(first
  |((fail_if_success (have _x:=hgG1));(have _x:=o7.az);clear _x;cases hgG1:o7.az)
  |(with_reducible first|exact cU|refine bP ?_ ?_|refine cX ?_|refine aF (fun _(h:bN o7=some _)=>eJ (B0:=B0) (by first|(simp -implicitDefEqProofs only[go_sem,seval,hgG0];done)|(simp -implicitDefEqProofs only[go_sem,seval,hgG1];done)|(simp -implicitDefEqProofs only[go_sem,seval,hgG2];done)|(simp -implicitDefEqProofs only[go_sem,seval];done)) h) (fun r12=>?_)|refine fun hh=>jB (by simp -implicitDefEqProofs only[go_sem,seval]) (bS (B0:=B0) (preB0:=[]) (postB0:=[sF 1 o7.b_,.int .i64 o7.at_,.bool o7.az]) (TB0:=137) (by first|(simp -implicitDefEqProofs only[go_sem,seval,hgG0];done)|(simp -implicitDefEqProofs only[go_sem,seval,hgG1];done)|(simp -implicitDefEqProofs only[go_sem,seval,hgG2];done)|(simp -implicitDefEqProofs only[go_sem,seval];done)) (by first|rfl|simp) jy (aO (show ok (aE o7.Builder (gX (n5))) _ from hh) fun r13=>?_))|refine fun hh=>jB (by simp -implicitDefEqProofs only[go_sem,seval]) (bS (B0:=B0) (preB0:=[]) (postB0:=[sF 1 o2.b_,.int .i64 o2.at_,.bool o2.az]) (TB0:=137) (by first|(simp -implicitDefEqProofs only[go_sem,seval,hgG0];done)|(simp -implicitDefEqProofs only[go_sem,seval,hgG1];done)|(simp -implicitDefEqProofs only[go_sem,seval,hgG2];done)|(simp -implicitDefEqProofs only[go_sem,seval];done)) (by first|rfl|simp) jy (aO (show ok (aE o2.Builder (gX (n1))) _ from hh) fun r14=>?_)))
  |((with_reducible refine dk (fun((n5,k6,o7):Int×Int×aq)=>⟨[(0,.ref B0 0),(5,.int .i64 n5),(6,.int .i64 k6)],[],(s.set B0 (.cells [dD 137 B0 0 o7.Builder,de o7.Builder,sF 1 o7.b_,.int .i64 o7.at_,.bool o7.az]))⟩) ?_ ?_);(first|exact rfl|simp -implicitDefEqProofs only[go_sem,seval]);rintro J ⟨n5,k6,o7⟩)
  |((with_reducible refine gE (fun((n1,o2):Int×aq)=>⟨[(0,.ref B0 0),(5,.int .i64 n1)],[],(s.set B0 (.cells [dD 137 B0 0 o2.Builder,de o2.Builder,sF 1 o2.b_,.int .i64 o2.at_,.bool o2.az]))⟩) (fun J=>?_) ?_);rotate_left;rintro⟨n1,o2⟩)
  |simp -implicitDefEqProofs only[go_sem,seval,hgG1,Bool.false_eq_true,if_false,if_true,Bool.true_eq_false,false_implies,true_implies,true_and,and_true]
  |simp -implicitDefEqProofs only[go_sem,seval])
def cS(s_0:aq)(c_1:UInt8):Option (Bool×aq):=
 if(c_1.toNat:Int)!=13 then
  some (true,s_0)
 else
  aP (bN s_0) fun r1=>
  jn (
   if r1.2&&((r1.1.toNat:Int)==10)then
    some (aq.mk s_0.Builder s_0.b_ (aw (s_0.at_+1)) s_0.az)
   else
    some s_0) fun(o3:aq)=>
  some (r1.2||o3.az,o3)
def p8:IC:=dec 0x21deed279f7756ce5af7093080dc2424783510fc7299a5649b188e54c070b40d9d30903574ff4d08abe2c9cc9a9a3b69829b6981194ef3b9f6a4fc7fc34ddd0fa7ccd5ee16ef81540850267d267b5a2c9b68a425d31d0fc8f2352d069ca144e483fa
theorem zY:aS prog 167 33 [⟨4,true,none⟩] p8=true:=by kernel_rfl
theorem qo{s_0 c_1}{B0:Nat}{s:ae}{Q:List AV->ae->Prop}(hB0:s B0=some (.cells [dD 137 B0 0 s_0.Builder,de s_0.Builder,sF 1 s_0.b_,.int .i64 s_0.at_,.bool s_0.az])):ok (cS s_0 c_1) (fun r=>Q [.bool r.1] (s.set B0 (.cells [dD 137 B0 0 r.2.Builder,de r.2.Builder,sF 1 r.2.b_,.int .i64 r.2.at_,.bool r.2.az])))->FN prog 167 [.ref B0 0,.int .u8 c_1.toNat] s Q:=by
 have hS:s=(s.set B0 (.cells [dD 137 B0 0 s_0.Builder,de s_0.Builder,sF 1 s_0.b_,.int .i64 s_0.at_,.bool s_0.az])):=by simp only[aY hB0]
 rw[hS]
 intro h
 refine FO zY rfl rfl ?_
 revert h
 rw[p8,cS]
 conv in dec _=>reduce
 repeat'(first
  |(with_reducible first|exact cU|refine bP ?_ ?_|refine cX ?_|refine aF (fun _(h:bN s_0=some _)=>eJ (B0:=B0) (by simp -implicitDefEqProofs only[go_sem,seval]<;>simp only[ao]) h) (fun r1=>?_))
  |((with_reducible refine dm (fun(o3:aq)=>⟨[(0,.ref B0 0),(6,.bool r1.2)],[],(s.set B0 (.cells [dD 137 B0 0 o3.Builder,de o3.Builder,sF 1 o3.b_,.int .i64 o3.at_,.bool o3.az]))⟩) (fun J=>?_) ?_);rotate_left;rintro o3)
  |simp -implicitDefEqProofs only[go_sem,seval])
def cF(s_0:aq):Option (Bool×aq):=
 aP (bN s_0) fun r1=>
 if !r1.2 then
  some (false,s_0)
 else
  aP (cW (aH.mk [110,114,116,98,102]) r1.1) fun r2=>
  if decide (r2>=0)then
   aL (0<=r2/\r2<(aH.mk [10,13,9,8,12]).b.length)<|
   aP (aE s_0.Builder (ix (aH.mk [10,13,9,8,12]).b r2)) fun r3=>
   some (true,(aq.mk r3.2 s_0.b_ (aw (s_0.at_+1)) s_0.az))
  else
   if(decide ((r1.1.toNat:Int)>=48))&&(decide ((r1.1.toNat:Int)<=55))then
    aP (fD (aq.mk s_0.Builder s_0.b_ (aw (s_0.at_+1)) s_0.az) r1.1) fun r4=>
    some (r4.1,r4.2)
   else
    if((r1.1.toNat:Int)==10)||((r1.1.toNat:Int)==13)then
     aP (cS (aq.mk s_0.Builder s_0.b_ (aw (s_0.at_+1)) s_0.az) r1.1) fun r5=>
     some (r5.1,r5.2)
    else
     aP (aE s_0.Builder r1.1) fun r6=>
     some (true,(aq.mk r6.2 s_0.b_ (aw (s_0.at_+1)) s_0.az))
def nQ:IC:=dec 0x96df6fd2fd01136db3b6a7d863bc6e1def48531f298ca9576a3d6ae599a2e65e264d4649134a07a81936eef8b220767884766aa7a06c698690ed53ef1db6a2458a62f7c92ad8cd2e0a8a6ee6ca58c5d320ee86aa5fcf3b2d047f25da7f7dc1b7041fdf78a0a78d38856ef11fb15e44a9d9ac841aa28169566a2fdb6471791994aafa4abc5ea6bb522dc87dfc73ff0f10d90a694724a5e7170d4efbbc187e507ec678bf4d08fcb4f859bfc94a1d8b7b0415d3ecd9ea472d8c17172781a8587fee0bf841af23966cd08eab74948c1614c04824473a
theorem xz:aS prog 166 55 [⟨2,true,none⟩] nQ=true:=by kernel_rfl
theorem xE{s_0}{B0:Nat}{s:ae}{Q:List AV->ae->Prop}(hB0:s B0=some (.cells [dD 137 B0 0 s_0.Builder,de s_0.Builder,sF 1 s_0.b_,.int .i64 s_0.at_,.bool s_0.az])):ok (cF s_0) (fun r=>Q [.bool r.1] (s.set B0 (.cells [dD 137 B0 0 r.2.Builder,de r.2.Builder,sF 1 r.2.b_,.int .i64 r.2.at_,.bool r.2.az])))->FN prog 166 [.ref B0 0] s Q:=by
 have hS:s=(s.set B0 (.cells [dD 137 B0 0 s_0.Builder,de s_0.Builder,sF 1 s_0.b_,.int .i64 s_0.at_,.bool s_0.az])):=by simp only[aY hB0]
 rw[hS]
 intro h
 refine FO xz rfl rfl ?_
 revert h
 rw[nQ,cF]
 conv in dec _=>reduce
 repeat'(first
  |(with_reducible first|exact cU|refine bP ?_ ?_|refine cX ?_|refine aF (fun _(h:bN s_0=some _)=>eJ (B0:=B0) (by simp -implicitDefEqProofs only[go_sem,seval]<;>simp only[ao]) h) (fun r1=>?_)|refine aF (fun _(h:cW (aH.mk [110,114,116,98,102]) r1.1=some _)=>mA h) (fun r2=>?_)|refine fun hh=>jB (by simp -implicitDefEqProofs only[go_sem,seval]) (bS (B0:=B0) (preB0:=[]) (postB0:=[sF 1 s_0.b_,.int .i64 (aw (s_0.at_+1)),.bool s_0.az]) (TB0:=137) (by simp -implicitDefEqProofs only[go_sem,seval]<;>simp only[ao]) (by first|rfl|simp) jy (aO (show ok (aE s_0.Builder (ix (aH.mk [10,13,9,8,12]).b r2)) _ from hh) fun r3=>?_))|refine fun hh=>zb (B0:=B0) (by simp -implicitDefEqProofs only[go_sem,seval]<;>simp only[ao]) (aO (show ok (fD (aq.mk s_0.Builder s_0.b_ (aw (s_0.at_+1)) s_0.az) r1.1) _ from hh) fun r4=>?_)|refine fun hh=>qo (B0:=B0) (by simp -implicitDefEqProofs only[go_sem,seval]<;>simp only[ao]) (aO (show ok (cS (aq.mk s_0.Builder s_0.b_ (aw (s_0.at_+1)) s_0.az) r1.1) _ from hh) fun r5=>?_)|refine fun hh=>jB (by simp -implicitDefEqProofs only[go_sem,seval]) (bS (B0:=B0) (preB0:=[]) (postB0:=[sF 1 s_0.b_,.int .i64 (aw (s_0.at_+1)),.bool s_0.az]) (TB0:=137) (by simp -implicitDefEqProofs only[go_sem,seval]<;>simp only[ao]) (by first|rfl|simp) jy (aO (show ok (aE s_0.Builder r1.1) _ from hh) fun r6=>?_)))
  |simp -implicitDefEqProofs only[go_sem,seval])
def gn(s_0:aq):Option (aa×Int×aq):=
 iter (fun((AO,o2):Int×aq)=>
  aP (bN o2) fun r6=>
  if !r6.2 then
   aP (cC o2) fun r7=>
   some (.inr ((aa.mk 0 0 (aH.mk []) ([]:List aa)),r7,o2))
  else
   uY (
    if(r6.1.toNat:Int)==92 then
     aP (cF (aq.mk o2.Builder o2.b_ (aw (o2.at_+1)) o2.az)) fun r18=>
     if !r18.1 then
      aP (cC r18.2) fun r19=>
      some (.inr (.inr (r19,r18.2)))
     else
      some (.inr (.inl r18.2))
    else
     if(r6.1.toNat:Int)==13 then
      aP (cS (aq.mk o2.Builder o2.b_ (aw (o2.at_+1)) o2.az) r6.1) fun r20=>
      if !r20.1 then
       aP (cC r20.2) fun r21=>
       some (.inr (.inr (r21,r20.2)))
      else
       some (.inl (AO,10,r20.2))
     else
      if(r6.1.toNat:Int)==40 then
       some (.inl (aw (AO+1),r6.1,(aq.mk o2.Builder o2.b_ (aw (o2.at_+1)) o2.az)))
      else
       if(r6.1.toNat:Int)==41 then
        some (.inl (aw (AO -1),r6.1,(aq.mk o2.Builder o2.b_ (aw (o2.at_+1)) o2.az)))
       else
        some (.inl (AO,r6.1,(aq.mk o2.Builder o2.b_ (aw (o2.at_+1)) o2.az)))) (fun((JL,c10,o11):Int×UInt8×aq)=>
    if JL==0 then
     aP (bk o11.Builder) fun r22=>
     some (.inr ((aa.mk 4 0 r22.1 ([]:List aa)),(0:Int),(aq.mk r22.2 o11.b_ o11.at_ o11.az)))
    else
     aP (aE o11.Builder c10) fun r23=>
     some (.inl (JL,(aq.mk r23.2 o11.b_ o11.at_ o11.az))))
   (jS (fun(o14:aq)=>some (.inl (AO,o14))) (fun((t16,o17):Int×aq)=>some (.inr ((aa.mk 0 0 (aH.mk []) ([]:List aa)),t16,o17))))) (1,s_0)
def qb:IC:=dec 0xa86295d0fe82fef23ba86bd695e1bc830aa10f3ae2045113adb607b1ca2f806d140b6deb682d48b9426b591b608516b99108507e2386c99126c5341ed3a08431de47217a17b3bee0deca657662d6480814379a7a3467a1e85086bacc6e781c169c32c8d9744e56a8fad5edf718b457b5d5fe8172df86041f25c7e3a09284b81ea2156dacf31782dd682ce7dce1bb8a51a7b16d1c8d07907ab98200a960a796f64096ebb18664d861de852616bc2c8f2fc11a58fdc485c8bc15077ff9a34e654a206d101ae6ef3f14253d56e612abf9c70bec0afffaccfeb8883f36f306dd5004a9ba3229e2f1d2c9657dd281fde49d8f3cc541bea497f664d2f7929a87d8fb21dcf836011362c78b8a81fbe8316995aa57617435717b34cf3ba8d3001f28a6ba1f996e86ce4a7ad39dd7fdc22a0ff8659847d291e84938bac7b2003cd1eb37e0092758b
theorem z7:aS prog 126 62 [⟨2,false,some (4,true)⟩,⟨3,true,none⟩] qb=true:=by kernel_rfl
theorem Af{s_0}{B0:Nat}{s:ae}{Q:List AV->ae->Prop}(hB0:s B0=some (.cells [dD 137 B0 0 s_0.Builder,de s_0.Builder,sF 1 s_0.b_,.int .i64 s_0.at_,.bool s_0.az])):ok (gn s_0) (fun r=>Q [.agg [.int .i64 r.1.Kind,.int .i64 r.1.N,.str r.1.S.b,sF 4 r.1.L],.int .i64 r.2.1] (s.set B0 (.cells [dD 137 B0 0 r.2.2.Builder,de r.2.2.Builder,sF 1 r.2.2.b_,.int .i64 r.2.2.at_,.bool r.2.2.az])))->FN prog 126 [.ref B0 0] s Q:=by
 have hS:s=(s.set B0 (.cells [dD 137 B0 0 s_0.Builder,de s_0.Builder,sF 1 s_0.b_,.int .i64 s_0.at_,.bool s_0.az])):=by simp only[aY hB0]
 rw[hS]
 intro h
 refine FO z7 rfl rfl ?_
 revert h
 rw[qb,gn]
 conv in dec _=>reduce
 repeat'(first
  |(with_reducible first|exact cU|refine bP ?_ ?_|refine cX ?_|refine aF (fun _(h:bN o2=some _)=>eJ (B0:=B0) (by simp -implicitDefEqProofs only[go_sem,seval]<;>simp only[ao]) h) (fun r6=>?_)|refine aF (fun _(h:cC o2=some _)=>gH (B0:=B0) (by simp -implicitDefEqProofs only[go_sem,seval]<;>simp only[ao]) h) (fun r7=>?_)|refine fun hh=>xE (B0:=B0) (by simp -implicitDefEqProofs only[go_sem,seval]<;>simp only[ao]) (aO (show ok (cF (aq.mk o2.Builder o2.b_ (aw (o2.at_+1)) o2.az)) _ from hh) fun r18=>?_)|refine aF (fun _(h:cC r18.2=some _)=>gH (B0:=B0) (by simp -implicitDefEqProofs only[go_sem,seval]<;>simp only[ao]) h) (fun r19=>?_)|refine fun hh=>qo (B0:=B0) (by simp -implicitDefEqProofs only[go_sem,seval]<;>simp only[ao]) (aO (show ok (cS (aq.mk o2.Builder o2.b_ (aw (o2.at_+1)) o2.az) r6.1) _ from hh) fun r20=>?_)|refine aF (fun _(h:cC r20.2=some _)=>gH (B0:=B0) (by simp -implicitDefEqProofs only[go_sem,seval]<;>simp only[ao]) h) (fun r21=>?_)|refine fun hh=>jB (by simp -implicitDefEqProofs only[go_sem,seval]) (ez (B0:=B0) (preB0:=[]) (postB0:=[sF 1 o11.b_,.int .i64 o11.at_,.bool o11.az]) (TB0:=137) (by simp -implicitDefEqProofs only[go_sem,seval]<;>simp only[ao]) (by first|rfl|simp) jy (aO (show ok (bk o11.Builder) _ from hh) fun r22=>?_))|refine fun hh=>jB (by simp -implicitDefEqProofs only[go_sem,seval]) (bS (B0:=B0) (preB0:=[]) (postB0:=[sF 1 o11.b_,.int .i64 o11.at_,.bool o11.az]) (TB0:=137) (by simp -implicitDefEqProofs only[go_sem,seval]<;>simp only[ao]) (by first|rfl|simp) jy (aO (show ok (aE o11.Builder c10) _ from hh) fun r23=>?_)))
  |((with_reducible refine gE (fun((JL,c10,o11):Int×UInt8×aq)=>⟨[(0,.ref B0 0),(2,.loc [.int .i64 0,.int .i64 0,.str (aH.mk []).b,.sl true 4 0 []]),(4,.int .i64 JL),(5,.int .u8 c10.toNat)],[],(s.set B0 (.cells [dD 137 B0 0 o11.Builder,de o11.Builder,sF 1 o11.b_,.int .i64 o11.at_,.bool o11.az]))⟩) (fun J=>?_) ?_);rotate_left;rintro⟨JL,c10,o11⟩)
  |((with_reducible refine y9 (fun((AO,o2):Int×aq)=>⟨[(0,.ref B0 0),(2,.loc [.int .i64 0,.int .i64 0,.str (aH.mk []).b,.sl true 4 0 []]),(4,.int .i64 AO)],[],(s.set B0 (.cells [dD 137 B0 0 o2.Builder,de o2.Builder,sF 1 o2.b_,.int .i64 o2.at_,.bool o2.az]))⟩) ?_ ?_);(first|exact rfl|simp -implicitDefEqProofs only[go_sem,seval]);rintro J ⟨AO,o2⟩)
  |simp -implicitDefEqProofs only[go_sem,seval])
def mf(w_0:aH):Option (aa×Int):=
 uY (
  m5 (
   iter (fun((Ao,i6):(List UInt8)×Int)=>
    if decide (i6<(w_0.b.length:Int))then
     aL (0<=i6/\i6<w_0.b.length)<|
     uY (
      if((ix w_0.b i6).toNat:Int)==35 then
       aL ((!(decide (aw (i6+2)>=(w_0.b.length:Int))))=true->0<=aw (i6+1)/\aw (i6+1)<w_0.b.length)<|
       aP (en (!(decide (aw (i6+2)>=(w_0.b.length:Int)))) 0 (im (ix w_0.b (aw (i6+1))))) fun r18=>
       aL ((!((decide (aw (i6+2)>=(w_0.b.length:Int)))||(decide (r18<0))))=true->0<=aw (i6+2)/\aw (i6+2)<w_0.b.length)<|
       aP (en (!((decide (aw (i6+2)>=(w_0.b.length:Int)))||(decide (r18<0)))) 0 (im (ix w_0.b (aw (i6+2))))) fun r19=>
       if((decide (aw (i6+2)>=(w_0.b.length:Int)))||(decide (r18<0)))||(decide (r19<0))then
        some (.inr (17:Int))
       else
        aL (0<=aw (i6+1)/\aw (i6+1)<w_0.b.length)<|
        aP (im (ix w_0.b (aw (i6+1)))) fun r20=>
        aL (0<=aw (i6+2)/\aw (i6+2)<w_0.b.length)<|
        aP (im (ix w_0.b (aw (i6+2)))) fun r21=>
        some (.inl (aw (i6+2),gX (aw ((aw (16*r20))+r21))))
      else
       some (.inl (i6,ix w_0.b i6))) (fun((i14,c15):Int×UInt8)=>
      aL ((Ao.length+[c15].length)*1<=room)<|
      some (.inl (Ao++[c15],aw (i14+1))))
     (fun(t17:Int)=>some (.inr (.inr t17)))
    else
     some (.inr (.inl Ao))) (([]:List UInt8),0)) (fun(aaB:(List UInt8))=>
   some (.inl aaB))
  (fun(t10:Int)=>some (.inr t10))) (fun(zm:(List UInt8))=>
  aP (en (!(decide ((zm.length:Int)>127))) 0 (ep zm 0)) fun r22=>
  if(decide ((zm.length:Int)>127))||(decide (r22>=0))then
   some ((aa.mk 0 0 (aH.mk []) ([]:List aa)),17)
  else
   some ((aa.mk 5 0 (aH.mk zm) ([]:List aa)),0))
 (fun(t4:Int)=>some ((aa.mk 0 0 (aH.mk []) ([]:List aa)),t4))
def AX:IC:=dec 0x5ac6c236011ef7ed6317fa95569810c89ee643cc3d7f049f8c569b33bd8fdf699b4644061f3a74e082d414aa26a3561e39efb59aa54fa358f34251773ca2c68ab93ccb9c9503a8bf932a078a9a7855d8c0603be8ba7ed028c8abf8df60effa1b140e9b5c61079f90948a1f05ce69c8d030481a66f312eefa0f9c5aff6d70086a6e786408ad00a368a65744e574314f10848dc2a2114b9a0d55deb3ba22ac513ae18fcd6a63b225677fe9c9c803f26a4e69947259619eb6b45e8293aeddd23a0ed3b8c1de7eac6a7bd9b2414acb7a3bc0807c6b5a6fe063983511402fef7f746d5147945f4b8d6904b50fb1eb2dcc3b675fa0bb0ef50a9c9fa78ae05001bc9d1d422a8ea4d0e33646fa8a40a804cced37acd84c9edd2f39ca3bdff7e726c1c8c491a0cee9781fe17c996ecda9ae9391db032a1357b2003cd1eb37e0092758b
theorem Ku:aS prog 128 71 [⟨2,false,some (4,true)⟩,⟨3,true,none⟩] AX=true:=by kernel_rfl
theorem KG{w_0}{s:ae}{Q:List AV->ae->Prop}:ok (mf w_0) (fun r=>Q [.agg [.int .i64 r.1.Kind,.int .i64 r.1.N,.str r.1.S.b,sF 4 r.1.L],.int .i64 r.2] s)->FN prog 128 [.str w_0.b] s Q:=by
 intro h
 refine FO Ku rfl rfl ?_
 revert h
 rw[AX,mf]
 conv in dec _=>reduce
 repeat'(first
  |(with_reducible first|exact cU|refine bP ?_ ?_|refine cX ?_)
  |((fail_if_success (have _x:=r18));with_reducible refine dn rfl (fun _(h:im (ix w_0.b (aw (i6+1)))=some _)=>nX h) (fun _=>rfl) (fun r18=>?_))
  |((fail_if_success (have _x:=r19));with_reducible refine dn rfl (fun _(h:im (ix w_0.b (aw (i6+2)))=some _)=>nX h) (fun _=>rfl) (fun r19=>?_))
  |((fail_if_success (have _x:=r20));with_reducible refine cK (fun _(h:im (ix w_0.b (aw (i6+1)))=some _)=>nX h) (fun _=>rfl) (fun r20=>?_))
  |((fail_if_success (have _x:=r21));with_reducible refine cK (fun _(h:im (ix w_0.b (aw (i6+2)))=some _)=>nX h) (fun _=>rfl) (fun r21=>?_))
  |with_reducible refine dn rfl (fun _(h:ep zm 0=some _)=>(by refine mX ?_ (w9 h);simp -implicitDefEqProofs only[go_sem,seval])) (fun _=>rfl) (fun r22=>?_)
  |((with_reducible refine gE (live:=[(0,false),(2,false),(4,false),(5,false),(6,false)]) (fun((i14,c15):Int×UInt8)=>⟨[(0,.str w_0.b),(2,.loc [.int .i64 0,.int .i64 0,.str (aH.mk []).b,.sl true 4 0 []]),(4,sT 1 Ao),(5,.int .i64 i14),(6,.int .u8 c15.toNat)],[],s⟩) (fun J=>?_) ?_);rotate_left;rintro⟨i14,c15⟩)
  |((with_reducible refine dk (fun((Ao,i6):(List UInt8)×Int)=>⟨[(0,.str w_0.b),(2,.loc [.int .i64 0,.int .i64 0,.str (aH.mk []).b,.sl true 4 0 []]),(4,sT 1 Ao),(5,.int .i64 i6)],[],s⟩) ?_ ?_);(first|exact rfl|simp -implicitDefEqProofs only[go_sem,seval]);rintro J ⟨Ao,i6⟩)
  |((with_reducible refine gE (live:=[(2,false),(4,false)]) (fun(zm:(List UInt8))=>⟨[(2,.loc [.int .i64 0,.int .i64 0,.str (aH.mk []).b,.sl true 4 0 []]),(4,sT 1 zm)],[],s⟩) (fun J=>?_) ?_);rotate_left;rintro zm)
  |simp -implicitDefEqProofs only[go_sem,seval])
theorem KF{w_0}{s:ae}{r:aa×Int}(h:mf w_0=some r):FE prog 128 [.str w_0.b] s [.agg [.int .i64 r.1.Kind,.int .i64 r.1.N,.str r.1.S.b,sF 4 r.1.L],.int .i64 r.2] s:=KG ⟨r,h,rfl,rfl⟩
def gJ(s_0:aq)(c_1:UInt8):Option (aC×Int×aq):=
 aP (eQ c_1) fun r1=>
 if r1 then
  aP (eU s_0) fun r2=>
  some (r2.1,r2.2.1,r2.2.2)
 else
  if(c_1.toNat:Int)==91 then
   some ((aC.mk 2 0 0 (aa.mk 0 0 (aH.mk []) ([]:List aa)) (aH.mk [])),0,(aq.mk s_0.Builder s_0.b_ (aw (s_0.at_+1)) s_0.az))
  else
   if(c_1.toNat:Int)==93 then
    some ((aC.mk 3 0 0 (aa.mk 0 0 (aH.mk []) ([]:List aa)) (aH.mk [])),0,(aq.mk s_0.Builder s_0.b_ (aw (s_0.at_+1)) s_0.az))
   else
    if(c_1.toNat:Int)==60 then
     aP (gI (aq.mk s_0.Builder s_0.b_ (aw (s_0.at_+1)) s_0.az)) fun r3=>
     some (r3.1,r3.2.1,r3.2.2)
    else
     if(c_1.toNat:Int)==62 then
      aP (gG (aq.mk s_0.Builder s_0.b_ (aw (s_0.at_+1)) s_0.az)) fun r4=>
      some (r4.1,r4.2.1,r4.2.2)
     else
      if(c_1.toNat:Int)==40 then
       aP (gn (aq.mk s_0.Builder s_0.b_ (aw (s_0.at_+1)) s_0.az)) fun r5=>
       some ((aC.mk 1 0 0 r5.1 (aH.mk [])),r5.2.1,r5.2.2)
      else
       if(c_1.toNat:Int)==47 then
        aP (fq (aq.mk s_0.Builder s_0.b_ (aw (s_0.at_+1)) s_0.az)) fun r6=>
        if !r6.2.1 then
         some ((aC.mk 0 0 0 (aa.mk 0 0 (aH.mk []) ([]:List aa)) (aH.mk [])),6,r6.2.2)
        else
         aP (mf r6.1) fun r7=>
         some ((aC.mk 1 0 0 r7.1 (aH.mk [])),r7.2,r6.2.2)
       else
        some ((aC.mk 0 0 0 (aa.mk 0 0 (aH.mk []) ([]:List aa)) (aH.mk [])),11,(aq.mk s_0.Builder s_0.b_ (aw (s_0.at_+1)) s_0.az))
def oH:IC:=dec 0x1243d8b62dc1ac4c1b0dcd3920e4d012095e22858b8246723acbeef7b0c317ee0baa6e05045d63dc9b634fc73c72b7557a529d65f4dabd90924aded54dc61d45cc4c3a6aa103fd0fc8947fcff16a27978bba4356e3fec428e6d9b2109151e515ead720e8363c9318ac3d59f38a70deb14fee3d8b731db045800d10ac36d4764b38358735d6dbc14eceb4f8f903c82626a934fbaa4a1a36a3634e7e49c1ff2bdd5e4f3d91954e712b06d5ab4f21fc758a40b7fa8dcba93745d4b11230b91bee7b6fe1050f6168f0414c7a75debd2c642c02ea5d1caf905fa43e68b96f03bf086a9e1a6e00e792482f99ecdc4baae3970c7375a6e0cc5fed422e45541c299fcaba6c5f0ea4fea5b35a027fd42d0860e2e0c47f2f8e58a49f09454d12d495c03f9e67b187cdd04a9f82fd66c1dd6035072913c00753e6a3706b08e2904e0ceae5e8173d5a9800a3f8eb04a6291c8ebf6d4d964c8a2c81e07ca1f7d01df15e061b538e0e367678b0bebe916a71d17382784d033e786a4e8180d9ce4a5604df20ffa12a08f442edccadd1cfa1cc4234bf7e72bbadfd4c755eb92eb2d3db72bc01049421c619b6918b003defd1eb37e000000010c324b
theorem y6:aS prog 79 73 [⟨4,false,some (8,true)⟩,⟨5,true,none⟩] oH=true:=by kernel_rfl
theorem zc{s_0 c_1}{B0:Nat}{s:ae}{Q:List AV->ae->Prop}(hB0:s B0=some (.cells [dD 137 B0 0 s_0.Builder,de s_0.Builder,sF 1 s_0.b_,.int .i64 s_0.at_,.bool s_0.az])):ok (gJ s_0 c_1) (fun r=>Q [.agg [.int .i64 r.1.Kind,.int .i64 r.1.mY,.int .i64 r.1.To,.int .i64 r.1.V.Kind,.int .i64 r.1.V.N,.str r.1.V.S.b,sF 4 r.1.V.L,.str r.1.S.b],.int .i64 r.2.1] (s.set B0 (.cells [dD 137 B0 0 r.2.2.Builder,de r.2.2.Builder,sF 1 r.2.2.b_,.int .i64 r.2.2.at_,.bool r.2.2.az])))->FN prog 79 [.ref B0 0,.int .u8 c_1.toNat] s Q:=by
 have hS:s=(s.set B0 (.cells [dD 137 B0 0 s_0.Builder,de s_0.Builder,sF 1 s_0.b_,.int .i64 s_0.at_,.bool s_0.az])):=by simp only[aY hB0]
 rw[hS]
 intro h
 refine FO y6 rfl rfl ?_
 revert h
 rw[oH,gJ]
 conv in dec _=>reduce
 repeat'(first
  |(with_reducible first|exact cU|refine bP ?_ ?_|refine cX ?_|refine aF (fun _(h:eQ c_1=some _)=>tW h) (fun r1=>?_)|refine fun hh=>tZ (B0:=B0) (by simp -implicitDefEqProofs only[go_sem,seval]<;>simp only[ao]) (aO (show ok (eU s_0) _ from hh) fun r2=>?_)|refine fun hh=>vZ (B0:=B0) (by simp -implicitDefEqProofs only[go_sem,seval]<;>simp only[ao]) (aO (show ok (gI (aq.mk s_0.Builder s_0.b_ (aw (s_0.at_+1)) s_0.az)) _ from hh) fun r3=>?_)|refine fun hh=>vY (B0:=B0) (by simp -implicitDefEqProofs only[go_sem,seval]<;>simp only[ao]) (aO (show ok (gG (aq.mk s_0.Builder s_0.b_ (aw (s_0.at_+1)) s_0.az)) _ from hh) fun r4=>?_)|refine fun hh=>Af (B0:=B0) (by simp -implicitDefEqProofs only[go_sem,seval]<;>simp only[ao]) (aO (show ok (gn (aq.mk s_0.Builder s_0.b_ (aw (s_0.at_+1)) s_0.az)) _ from hh) fun r5=>?_)|refine fun hh=>qp (B0:=B0) (by simp -implicitDefEqProofs only[go_sem,seval]<;>simp only[ao]) (aO (show ok (fq (aq.mk s_0.Builder s_0.b_ (aw (s_0.at_+1)) s_0.az)) _ from hh) fun r6=>?_)|refine aF (fun _(h:mf r6.1=some _)=>KF h) (fun r7=>?_))
  |simp -implicitDefEqProofs only[go_sem,seval])
def du(b_0:(List UInt8))(bq:Int)(aM:Bool):Option (aC×Int):=
 if(decide (bq<0))||(decide (bq>(b_0.length:Int)))then
  some ((aC.mk 0 0 0 (aa.mk 0 0 (aH.mk []) ([]:List aa)) (aH.mk [])),2)
 else
  aP (nW b_0 bq) fun r1=>
  if r1==(b_0.length:Int)then
   if aM then
    some ((aC.mk 0 r1 r1 (aa.mk 0 0 (aH.mk []) ([]:List aa)) (aH.mk [])),0)
   else
    some ((aC.mk 0 r1 r1 (aa.mk 0 0 (aH.mk []) ([]:List aa)) (aH.mk [])),6)
  else
   aL (0<=r1/\r1<b_0.length)<|
   aP (gJ (aq.mk wg.zero b_0 r1 aM) (ix b_0 r1)) fun r2=>
   if r2.2.1 !=0 then
    some ((aC.mk 0 r1 r1 (aa.mk 0 0 (aH.mk []) ([]:List aa)) (aH.mk [])),r2.2.1)
   else
    some ((aC.mk r2.1.Kind r1 r2.2.2.at_ r2.1.V r2.1.S),0)
def AU:IC:=dec 0x698cf77fa6bc842e16e6aabcbc9a3f4970fb657bc3eb5a638e11f4a3e8ff1e2170482dcef3f0219af9e8546d8f445147b681de749a9f08b808d1d445e6249186a9f4193574d8358a6be04920648016fbf6486f68eb8295978c7546dfa4eec6427c33fb5818fb1af18ac814d39913394fde2163aa3f849c134026769b54b65baa4fa77bbc1cb7dc7e979d3426eba14a6083c4c6a185b93f5e8bff8300967a1067ea683d5d6c81fbc535abb5b925e97c4a38975d292e4c09de59efde5b4ffa2a03dd1c2439a4baaa69a71aa27fd5171121d69db3384707c8f6ede1cb172af277844db0fba8f399f9c18bb610bf9cfcd4ad7ea6e725250336b78edc2bd82fe74d7aa257c32f80b4b640c05e4e134570812ed107c3d7a15de9e39934e6dc4b624af4735c28b86abca40b359ce5148188418a47464003defd1eb37e000000010c6f0b
theorem Ks:aS prog 35 63 [⟨6,false,some (8,true)⟩,⟨7,true,none⟩] AU=true:=by kernel_rfl
set_option maxHeartbeats 8000000 in
theorem KC{b_0 bq aM}{s:ae}{Q:List AV->ae->Prop}:ok (du b_0 bq aM) (fun r=>Q [.agg [.int .i64 r.1.Kind,.int .i64 r.1.mY,.int .i64 r.1.To,.int .i64 r.1.V.Kind,.int .i64 r.1.V.N,.str r.1.V.S.b,sF 4 r.1.V.L,.str r.1.S.b],.int .i64 r.2] s)->FN prog 35 [sF 1 b_0,.int .i64 bq,.bool aM] s Q:=by
 intro h
 refine FN.forget ?_
 refine FO Ks rfl rfl ?_
 revert h
 rw[AU,du]
 conv in dec _=>reduce
 repeat'(first
  |(with_reducible first|exact cU|refine bP ?_ ?_|refine cX ?_)
  |((with_reducible apply ai1);(·intro Q' hQ;repeat'(first|exact hQ|(simp only[cN,ck,bK,cj,we,xR,Bool.not_true,Bool.not_false,Bool.or_true,Bool.true_or,Bool.false_or,Bool.or_false,Bool.and_true,Bool.true_and,Bool.and_false,Bool.false_and,cond_true,cond_false,true_and,and_true];done)|with_reducible refine⟨?_,?_⟩|with_reducible exact trivial|simp only[cN,ck,bK,cj,we,xR,Bool.not_true,Bool.not_false,Bool.or_true,Bool.true_or,Bool.false_or,Bool.or_false,Bool.and_true,Bool.true_and,Bool.and_false,Bool.false_and,cond_true,cond_false,true_and,and_true]|simp -implicitDefEqProofs only[go_sem,seval])))
  |(with_reducible first|refine aF (fun _(h:nW b_0 bq=some _)=>KD h) (fun r1=>?_)|refine fun hh=>zc (B0:=N1) (by simp -implicitDefEqProofs only[go_sem,seval]<;>simp only[ao]) (aO (show ok (gJ (aq.mk wg.zero b_0 r1 aM) (ix b_0 r1)) _ from hh) fun r2=>?_))
  |((fail_if_success (have _x:=sN1));with_reducible intro hh N1 hN1;(try simp only[iD]at hN1);have sN1:=hN1;revert hh)
  |(with_reducible first|exact fun hh=>⟨_,lx.set (lx.refl _) (by simp[ae.set,sN1]),hh⟩|exact fun hh=>⟨_,lx.refl _,hh⟩)
  |simp -implicitDefEqProofs only[go_sem,seval])
theorem jY{b_0 bq aM}{s:ae}{r:aC×Int}(h:du b_0 bq aM=some r):FE prog 35 [sF 1 b_0,.int .i64 bq,.bool aM] s [.agg [.int .i64 r.1.Kind,.int .i64 r.1.mY,.int .i64 r.1.To,.int .i64 r.1.V.Kind,.int .i64 r.1.V.N,.str r.1.V.S.b,sF 4 r.1.V.L,.str r.1.S.b],.int .i64 r.2] s:=KC ⟨r,h,rfl,rfl⟩
@[go_sem]abbrev oV(v:aa):AV:=.agg [.int .i64 v.Kind,.int .i64 v.N,.str v.S.b,sF 4 v.L]
end Go.AB
end
