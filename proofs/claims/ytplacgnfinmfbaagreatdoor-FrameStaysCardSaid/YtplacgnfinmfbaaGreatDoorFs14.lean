/- A part. -/
import Derived.Test.YtplacgnfinmfbaaGreatDoorFs13
set_option linter.unusedSimpArgs false
set_option linter.unusedVariables false
section
set_option maxRecDepth 16000
namespace Go.AB
open Go
open Go.Proofs.Tryz (prog)
attribute[-go_sem] Nat.add_zero pj cT
def C2:IC:=dec 0xcfb46a1005abcb8e750fe31bd4a07ad19701f09c022f51b31b5df86d0d63391f996862c8ae431923867f5c629b73e550a9783197dea45c1f29853402bc4c8db3514790efff1f2ccdb7fb46854f2d6c53241c913428730b24fc8103031c0f795bdb87602c8f76d349af34c0ba
theorem Mq:aS prog 85 33 [⟨6,true,none⟩] C2=true:=by kernel_rfl
theorem JM{b cap i j:Nat}{l:List aa}{sp:List AV}{s:ae}{Q:List AV->ae->Prop}(hs:s b=some (.cells (flat l++sp)))(hl:(flat l++sp).length=cap*4)(hn:l.length<=cap)(hij:i<j)(hj:j<=l.length)(ajX:(l.length:Int)<=9223372036854775807)
 (hq:Q [.arr b 0 (l.length -(j -i)) cap] (s.set b (.cells (flat (l.take i++l.drop j)++(flat (List.replicate (j -i) (⟨0,0,⟨[]⟩,[]⟩:aa))++sp))))):
 FN prog 85 [.arr b 0 l.length cap,.int .i64 i,.int .i64 j] s Q:=by
 refine FO Mq rfl rfl ?_
 rw[C2]
 conv in dec _=>reduce
 simp -implicitDefEqProofs only[go_sem,seval,hs]
 refine⟨by omega,fun h=>by have:=eq_of_beq h;omega,fun _=>⟨by omega,by omega,?_⟩⟩
 have ff:zy s 4 (.arr b (jF 0 cap j 4) (l.length -j) (cap -j))=some (l.length -j,flat (l.drop j)):=by
  by_cases hjn:j=l.length
  ·subst hjn
   rw[Nat.sub_self,P4,List.drop_length];rfl
  ·rw[FU (by omega),Nat.zero_add,Tq hs (by rw[hl,<-Nat.add_mul];exact Nat.mul_le_mul_right _ (by omega)),nk l sp 4 j _ rfl (by omega),bd,List.take_of_length_le (by simp)]
 rw[ff]
 refine oz rfl hs (by rw[hl];omega) (by omega) ?_
 have eM:=ve l (l.drop j) sp 4 i rfl (by simp;omega)
 rw[Nat.zero_add,eM]
 generalize hl1:l.take i++l.drop j++l.drop (i+(l.drop j).length)=l1
 have adU:l1.length=l.length:=by subst hl1;simp;omega
 have hz:(List.replicate (j -i) [.int .i64 0,.int .i64 0,.str [],.sl false 4 0 []]).flatten=flat (List.replicate (j -i) (⟨0,0,⟨[]⟩,[]⟩:aa)):=by rw[iw];rfl
 have hsp:(flat l1++sp).length=cap*4:=by rw[<-hl,List.length_append,List.length_append,aR,aR,adU]
 have e1:i+(l.length -j)<cap:=by omega
 have Ry:=ve l1 (List.replicate (j -i) (⟨0,0,⟨[]⟩,[]⟩:aa)) sp 4 (i+(l.length -j)) rfl (by simp;omega)
 have e2:l1.take (i+(l.length -j))=l.take i++l.drop j:=by
  subst hl1
  rw[List.take_append_of_le_length (by simp;omega),List.take_of_length_le (by simp;omega)]
 have e3:l1.drop (i+(l.length -j)+(List.replicate (j -i) (⟨0,0,⟨[]⟩,[]⟩:aa)).length)=[]:=by rw[List.drop_eq_nil_iff];simp;omega
 rw[e2,e3,List.append_nil]at Ry
 generalize hl2:l.take i++l.drop j=l2 at Ry hq
 simp -implicitDefEqProofs only[go_sem,seval]
 refine⟨by omega,?_⟩
 rw[FU e1]
 refine LS rfl ch (by
  rw[hsp]
  show 0+(i+(l.length -j))*4+(l.length -(i+(l.length -j)))*4<=cap*4
  omega) ?_
 rw[show l.length -(i+(l.length -j))=j -i by omega,Nat.zero_add,hz,Ry]
 simp -implicitDefEqProofs only[go_sem,seval]
 rw[show i+(l.length -j)=l.length -(j -i) by omega,List.append_assoc]
 exact hq
def Gn:IC:=dec 0x29333185ffdb805e4cf1a0b40ae57be64e2bc64c1f8d7c56c7cd23b460c898342c022b5b4473a
theorem Po:aS prog 68 8 [⟨2,true,none⟩] Gn=true:=by kernel_rfl
def Hy(l:List aa)(s:ae)(rs:List AV)(s':ae):Prop:=(∃b cap sp,rs=[.arr b 0 l.length cap]/\s b=none/\0<cap/\l.length<=cap/\(flat l++sp).length=cap*4/\views (flat l++sp)=flat l++sp/\s'=s.set b (.cells (flat l++sp)))\/(l=[]/\s'=s/\∃b,rs=[.arr b 0 0 0])
theorem LW{o:Bool}{l:List aa}{s:ae}(hr:l.length*56<=room):FN prog 68 [.sl o 4 l.length (flat l)] s (Hy l s):=by
 refine FN.Lt (FO Po rfl rfl ?_)
 generalize hQ:(fun rs s'=>∃s2,Sub s2 s'/\Hy l s rs s2)=Q
 have hq:∀rs s' s2,Sub s2 s'->Hy l s rs s2->Q rs s':=fun rs s' s2 h1 h2=>by rw[<-hQ];exact⟨s2,h1,h2⟩
 rw[Gn]
 conv in dec _=>reduce
 simp -implicitDefEqProofs only[go_sem,seval]
 intro v hv
 refine⟨fun h=>hq _ _ s (Sub.refl s) (.inr ⟨List.eq_nil_of_length_eq_zero (hv (by simpa using h)),rfl,0,rfl⟩),fun _ b1 hb1=>?_⟩
 rw[oU,bd]
 by_cases hl:l=[]
 ·subst hl
  refine pa rfl rfl (Nat.le_refl 0) ?_
  simp -implicitDefEqProofs only[go_sem,seval]
  exact hq _ _ s ((Sub.refl s).set hb1) (.inr ⟨rfl,rfl,_,rfl⟩)
 ·have hn:0<l.length:=List.length_pos_iff.2 hl
  refine fm rfl rfl (by omega) (by rw[Nat.zero_add];exact hr) fun b2 cap hb2 fL=>?_
  rw[Nat.zero_add]at fL
  have hz:(List.replicate (cap -(0+l.length)) [.int .i64 0,.int .i64 0,.str [],.sl false 4 0 []]).flatten=flat (List.replicate (cap -l.length) (⟨0,0,⟨[]⟩,[]⟩:aa)):=by rw[iw,Nat.zero_add];rfl
  rw[hz]
  simp -implicitDefEqProofs only[go_sem,seval,Nat.zero_add,List.nil_append]
  have Rm:s b2=none:=((Sub.refl s).set hb1).none hb2
  refine hq _ _ _ (Sub.IV ((Sub.refl s).set hb1)) (.inl ⟨b2,cap,_,rfl,Rm,by omega,fL,?_,?_,rfl⟩)
  ·rw[List.length_append,aR,aR,List.length_replicate]
   show l.length*4+(cap -l.length)*4=cap*4
   omega
  ·rw[nr,bd,bd]
theorem O5{o:Bool}{l:List aa}{s:ae}(hr:l.length*56<=room):FE prog 68 [.sl o 4 l.length (flat l)] s [.us 4 l.length (flat l)] s:=
 FN.abb (aR l) ⟨rfl,rfl⟩ ((LW hr).mono fun rs s' h=>by
  rcases h with⟨b,cap,sp,h1,h2,h3,h4,h5,h6,h7⟩|⟨h1,h2,h3⟩
  ·exact .inl ⟨b,cap,sp,h1,by rw[h7];exact ch,h3,h4,h5,h6,by rw[h7,qW h2];exact Sub.refl s⟩
  ·subst h1;exact .inr ⟨rfl,rfl,by rw[h2];exact Sub.refl s,h3⟩)
end Go.AB
end
section
namespace Go.AB
open Go
end Go.AB
end
section
set_option maxRecDepth 16000
namespace Go.AB
open Go
open Go.Proofs.Tryz (prog)
attribute[-go_sem] Nat.add_zero pj cT
def iu(v_0:aa)(ey:aH):Option (Int):=
 if v_0.Kind !=7 then
  some (-1)
 else
  uY (
   m5 (
    iter (fun(i2:Int)=>
     if decide (i2<(v_0.L.length:Int))then
      aL (0<=i2/\i2<v_0.L.length)<|
      aL ((((ix v_0.L i2).Kind)==5)=true->0<=i2/\i2<v_0.L.length)<|
      if(((ix v_0.L i2).Kind)==5)&&(((ix v_0.L i2).S).b==ey.b)then
       some (.inr (.inr i2))
      else
       some (.inl (aw (i2+2)))
     else
      some (.inr (.inl ()))) 0) (fun(_:Unit)=>
    some (.inl ()))
   (fun(t3:Int)=>some (.inr t3))) (fun(_:Unit)=>
   some (-1))
  (fun(t1:Int)=>some t1)
def wF:IC:=dec 0x5d3ae0e90ac7bda64a3995d5c32d55c11fa1fdd8296414842d35b58def8678a24feb77046130580228d84e40167e32ce0efd9be30015d1034e4b10a905a337d04123d29871e837728bef5f034bf264300ccc6accef65110e26f316b3089bb131d39a1059c9daf9182eb2e6bc114c3fa25282279909702d5e50e513e8c5952f7c979c61988400c60839818b
theorem Ff:aS prog 69 34 [⟨4,true,none⟩] wF=true:=by kernel_rfl
theorem FM{v_0 ey}{s:ae}{Q:List AV->ae->Prop}:ok (iu v_0 ey) (fun r=>Q [.int .i64 r] s)->FN prog 69 [.agg [.int .i64 v_0.Kind,.int .i64 v_0.N,.str v_0.S.b,.sl false 4 v_0.L.length (flat v_0.L)],.str ey.b] s Q:=by
 intro h
 refine FO Ff rfl rfl ?_
 revert h
 rw[wF,iu]
 conv in dec _=>reduce
 repeat'(first
  |(with_reducible first|exact cU|refine bP ?_ ?_|refine cX ?_)
  |((with_reducible refine dk (fun(i2:Int)=>⟨[(1,.str ey.b),(2,.loc [.int .i64 v_0.Kind,.int .i64 v_0.N,.str v_0.S.b,.sl false 4 v_0.L.length (flat v_0.L)]),(5,.int .i64 i2)],[],s⟩) ?_ ?_);(first|exact rfl|simp -implicitDefEqProofs only[go_sem,seval]);rintro J i2)
  |((with_reducible refine gE (fun(_:Unit)=>⟨[],[],s⟩) (fun J=>?_) ?_);rotate_left;rintro _)
  |simp -implicitDefEqProofs only[go_sem,seval])
theorem wP{v_0 ey}{s:ae}{r:Int}(h:iu v_0 ey=some r):FE prog 69 [.agg [.int .i64 v_0.Kind,.int .i64 v_0.N,.str v_0.S.b,.sl false 4 v_0.L.length (flat v_0.L)],.str ey.b] s [.int .i64 r] s:=FM ⟨r,h,rfl,rfl⟩
theorem Sub.trans{s1 s2 s3:ae}(h:Sub s1 s2)(k:Sub s2 s3):Sub s1 s3:=fun b o h'=>k b o (h b o h')
theorem FN.args{P:Program}{f:FuncId}{args W9:List AV}{s:ae}{Q:List AV->ae->Prop}(h:FN P f W9 s Q)(ha:∀(G:Gh)(w:World)(vs:Array Value),bc G w s->rL w G.R args vs->rL w G.R W9 vs):FN P f args s Q:=fun G w vs h1 h2 h3 h4=>h G w vs h1 h2 h3 (ha G w vs h3 h4)
def wE:IC:=dec 0x2e98214be31f12ccc98379a636fd221929f33e60b235f0219e5f16a561a58045d01560c5124336fc6b51c654ccfd0bc26ac7793ea1cb463190791c2fc536cc5f30fee6bc1fc4836f45add0065e37ae0d3d00dc0b0839818b
theorem Fe:aS prog 43 25 [⟨4,false,some (4,true)⟩] wE=true:=by kernel_rfl
def fI(v:aa)(key:aH):Option aa:=
 aP (iu v key) fun i=>
 if decide (i<0)then some v else
 aL (0<=i/\i<v.L.length/\v.L.length*56<=room)<|
 some ⟨v.Kind,v.N,v.S,v.L.take i.toNat++v.L.drop (min (i.toNat+2) v.L.length)⟩
theorem FK{v:aa}{key:aH}{s:ae}{Q:List AV->ae->Prop}(h:ok (fI v key) fun r=>Q [.agg [.int .i64 r.Kind,.int .i64 r.N,.str r.S.b,.sl false 4 r.L.length (flat r.L)]] s):
 FN prog 43 [.agg [.int .i64 v.Kind,.int .i64 v.N,.str v.S.b,.sl false 4 v.L.length (flat v.L)],.str key.b] s Q:=by
 obtain⟨vk,vn,vs,vl⟩:=v
 refine FO Fe rfl rfl ?_
 unfold fI at h
 rw[gM]at h
 obtain⟨i,hfi,h⟩:=h
 rw[Sq,eW,ba,ba]at h
 rw[wE]
 conv in dec _=>reduce
 simp -implicitDefEqProofs only[go_sem,seval]
 refine FE.app (wP hfi) ?_
 simp -implicitDefEqProofs only[go_sem,seval]
 refine⟨fun hi=>h.1 hi,fun hi=>?_⟩
 obtain⟨⟨h1,h2,h3⟩,hq⟩:=h.2 hi
 obtain⟨j,rfl⟩:∃j:Nat,i=(j:Int):=⟨i.toNat,by omega⟩
 replace h2:j<vl.length:=by have:(j:Int)<vl.length:=h2;omega
 replace h3:vl.length*56<=room:=h3
 replace hq:Q [.agg [.int .i64 vk,.int .i64 vn,.str vs.b,.sl false 4 (vl.take j++vl.drop (min (j+2) vl.length)).length (flat (vl.take j++vl.drop (min (j+2) vl.length)))]] s:=hq
 have hw2:aw ((j:Int)+2)=((j+2:Nat):Int):=by unfold room at h3;rw[ar (by omega) (by omega)];omega
 refine⟨_,rfl,O5 h3,?_⟩
 simp -implicitDefEqProofs only[go_sem,seval,hw2]
 refine⟨fun b cap sp hb h0 hn hl hfl hvw=>?_,fun h0=>by omega⟩
 simp -implicitDefEqProofs only[go_sem,seval]
 generalize hm:min (j+2) vl.length=m at hq
 rw[show min ((j+2:Nat):Int) (vl.length:Int)=(m:Int) by omega]
 have el:(vl.take j++vl.drop m).length=vl.length -(m -j):=by simp only[List.length_append,List.length_take,List.length_drop];omega
 rw[el]at hq
 refine FN.IP (n:=vl.length -(m -j)) (cs:=flat (vl.take j++vl.drop m)) (s2:=s) (sz:=4) (by rw[aR,el];rfl) (bd _) ?_ (JM ch hl hn (by omega) (by omega) (by unfold room at h3;omega) ?_)
 ·generalize vl.take j++vl.drop m=L at hq
  simp -implicitDefEqProofs only[go_sem,seval]
  exact hq
 ·refine .inl ⟨b,cap,_,rfl,ch,h0,by omega,?_,?_⟩
  ·have hl':=hl
   rw[List.length_append,aR]at hl'
   rw[List.length_append,List.length_append,aR,aR,el,List.length_replicate]
   have hw:bp.w aa=4:=rfl
   rw[hw]at hl'⊢
   omega
  ·rw[set_set,qW hb];exact Sub.refl s
theorem wO{v_0:aa}{ey:aH}{s:ae}{r:aa}(h:fI v_0 ey=some r):FE prog 43 [.agg [.int .i64 v_0.Kind,.int .i64 v_0.N,.str v_0.S.b,.sl false 4 v_0.L.length (flat v_0.L)],.str ey.b] s [.agg [.int .i64 r.Kind,.int .i64 r.N,.str r.S.b,.sl false 4 r.L.length (flat r.L)]] s:=FK ⟨r,h,rfl,rfl⟩
end Go.AB
end
section
namespace Go.AB
open Go
@[go_sem]theorem agP(l:List UInt8):pad [.int .u8 0] (views (AB.sub (flat l) 0 1))=[.int .u8 (ix l 0).toNat]:=Sy l 0
end Go.AB
end
section
set_option maxRecDepth 16000
namespace Go.AB
open Go
open Go.Proofs.Tryz (prog)
attribute[-go_sem] Nat.add_zero pj cT
structure a8 where
 V:aa
 Stream:Bool
 Data:aH
instance:bp a8:=⟨6,fun x=>[.int .i64 x.V.Kind,.int .i64 x.V.N,.str x.V.S.b,sF 4 x.V.L,.bool x.Stream,.str x.Data.b],(a8.mk (aa.mk 0 0 (aH.mk []) []) false (aH.mk [])),by decide,fun _=>rfl,fun _=>rfl⟩
def mB(v_0:aa):Option (Int):=
 if(v_0.Kind==6)||(v_0.Kind==7)then
  none
 else
  some (aw (1+0))
def tC:IC:=dec 0xafe801cf343aceaba624ca045062959be59f1abcc14a1a11d7fa4145f53a7f761ca7cd22e426966d31ed614d2008303995b
theorem Dp:aS prog 97 28 [⟨2,true,none⟩] tC=true:=by kernel_rfl
theorem Et{v_0}{s:ae}{Q:List AV->ae->Prop}:ok (mB v_0) (fun r=>Q [.int .i64 r] s)->FN prog 97 [oV v_0] s Q:=by
 intro h
 refine FO Dp rfl rfl ?_
 revert h
 rw[tC,mB]
 conv in dec _=>reduce
 repeat'(first
  |simp -implicitDefEqProofs only[go_sem,seval])
theorem Es{v_0}{s:ae}{r:Int}(h:mB v_0=some r):FE prog 97 [oV v_0] s [.int .i64 r] s:=Et ⟨r,h,rfl,rfl⟩
def qH(v_0:aa):Option (Int):=
 if v_0.Kind==0 then
  none
 else
  if v_0.Kind==1 then
   none
  else
   if v_0.Kind==2 then
    if v_0.Kind==2 then
     aP (gL v_0) fun r1=>
     some r1
    else
     none
   else
    none
def yW:IC:=dec 0x1685d940452758275ffc437be1aba261779ea576eead04fea8151275048a68fbf247b8627a492ffa58cfc69be49ed0d488430191992df16c3af1d6b36f5614d2008303995b
theorem Ia:aS prog 100 113 [⟨2,true,none⟩] yW=true:=by kernel_rfl
theorem Jg{v_0}{s:ae}{Q:List AV->ae->Prop}:ok (qH v_0) (fun r=>Q [.int .i64 r] s)->FN prog 100 [oV v_0] s Q:=by
 intro h
 refine FO Ia rfl rfl ?_
 revert h
 rw[yW,qH]
 conv in dec _=>reduce
 repeat'(first
  |(with_reducible first|exact cU|refine bP ?_ ?_|refine cX ?_|refine aF (fun _(h:gL v_0=some _)=>ru h) (fun r1=>?_))
  |simp -implicitDefEqProofs only[go_sem,seval])
theorem Jf{v_0}{s:ae}{r:Int}(h:qH v_0=some r):FE prog 100 [oV v_0] s [.int .i64 r] s:=Jg ⟨r,h,rfl,rfl⟩
def lL(x_0:aa)(c_1:Int):Option (Bool×Int):=
 aP (qH x_0) fun r1=>
 some (r1==0,r1)
def qg:IC:=dec 0x160630767d6ca1f2bd49500a0e57eb236b0c4e7adcf9995683039818b
theorem Ab:aS prog 99 8 [⟨3,true,none⟩] qg=true:=by kernel_rfl
theorem AI{x_0 c_1}{B1:Nat}{s:ae}{Q:List AV->ae->Prop}(hB1:s B1=some (.cells [.int .i64 c_1])):ok (lL x_0 c_1) (fun r=>Q [.bool r.1] (s.set B1 (.cells [.int .i64 r.2])))->FN prog 99 [oV x_0,.ref B1 0] s Q:=by
 have hS:s=(s.set B1 (.cells [.int .i64 c_1])):=by simp only[aY hB1]
 rw[hS]
 intro h
 refine FO Ab rfl rfl ?_
 revert h
 rw[qg,lL]
 conv in dec _=>reduce
 repeat'(first
  |with_reducible refine aF (fun _(h:qH x_0=some _)=>Jf h) (fun r1=>?_)
  |simp -implicitDefEqProofs only[go_sem,seval])
def rK(v_0:aa)(OY:Int):Option (Bool×Int):=
 aP (lL v_0 OY) fun r1=>
 if !r1.1 then
  none
 else
  if(v_0.Kind !=6)&&(v_0.Kind !=7)then
   some (true,r1.2)
  else
   none
theorem NN:(vE prog 99=true)=True:=eq_true (by kernel_rfl)
def wG:IC:=dec 0x10b617320086a0e3a5813e289942e8aeefd8ce3b8d4be99c34f88eb59925cf4375ff3a94d45803eac636aca8cdca5abb9956c60839818b
theorem Fg:aS prog 98 31 [⟨4,true,none⟩] wG=true:=by kernel_rfl
theorem FP{v_0 OY}{B1_0:Nat}{s:ae}{Q:List AV->ae->Prop}(adM:s B1_0=some (.cells [.int .i64 OY])):ok (rK v_0 OY) (fun r=>Q [.bool r.1] (s.set B1_0 (.cells [.int .i64 r.2])))->FN prog 98 [oV v_0,.fn 99 [] [.ref B1_0 0]] s Q:=by
 have hS:s=(s.set B1_0 (.cells [.int .i64 OY])):=by simp only[aY adM]
 rw[hS]
 intro h
 refine FO Fg rfl rfl ?_
 revert h
 rw[wG,rK]
 conv in dec _=>reduce
 repeat'(first
  |with_reducible refine fun hh=>AI (B1:=B1_0) (by simp -implicitDefEqProofs only[go_sem,seval,NN]<;>simp only[ao]) (aO (show ok (lL v_0 OY) _ from hh) fun r1=>?_)
  |simp -implicitDefEqProofs only[go_sem,seval,NN])
def ja(v_0:aa):Option (Int):=
 aP (mB v_0) fun r1=>
 if decide (r1>64)then
  none
 else
  aP (rK v_0 0) fun r2=>
  some r2.2
def tB:IC:=dec 0x57a617fca1f89988d7a77b345f4dd5481108819e0620a553687275571f12c9bf69410232f3d89b03e7c57c4a2898d2008303995b
theorem Dm:aS prog 60 11 [⟨2,true,none⟩] tB=true:=by kernel_rfl
theorem Er{v_0}{s:ae}{Q:List AV->ae->Prop}:ok (ja v_0) (fun r=>Q [.int .i64 r] s)->FN prog 60 [oV v_0] s Q:=by
 intro h
 refine FN.forget ?_
 refine FO Dm rfl rfl ?_
 revert h
 rw[tB,ja]
 conv in dec _=>reduce
 repeat'(first
  |(with_reducible first|exact cU|refine bP ?_ ?_|refine cX ?_|refine aF (fun _(h:mB v_0=some _)=>Es h) (fun r1=>?_)|refine fun hh=>FP (B1_0:=N1) (by simp -implicitDefEqProofs only[go_sem,seval]<;>simp only[ao]) (aO (show ok (rK v_0 0) _ from hh) fun r2=>?_))
  |((fail_if_success (have _x:=sN1));with_reducible intro hh N1 hN1;(try simp only[iD]at hN1);have sN1:=hN1;revert hh)
  |with_reducible exact fun hh=>⟨_,lx.set (lx.refl _) (by simp[ae.set,sN1]),hh⟩
  |simp -implicitDefEqProofs only[go_sem,seval])
theorem uF{v_0}{s:ae}{r:Int}(h:ja v_0=some r):FE prog 60 [oV v_0] s [.int .i64 r] s:=Er ⟨r,h,rfl,rfl⟩
def fS(v_0:aa)(ey:aH):Option (aa×Bool):=
 aP (iu v_0 ey) fun r1=>
 if decide (r1<0)then
  some ((aa.mk 0 0 (aH.mk []) ([]:List aa)),false)
 else
  if(aw (r1+1))==(v_0.L.length:Int)then
   some ((aa.mk 0 0 (aH.mk []) ([]:List aa)),true)
  else
   aL (0<=aw (r1+1)/\aw (r1+1)<v_0.L.length)<|
   some (ix v_0.L (aw (r1+1)),true)
def yV:IC:=dec 0x66242f50c88a2a373b4a5e62d4dca1ef7100f567317f1faed75868c145a22d6d9227a76ec3ed58a339b349d55df4ae99b14cba318a028d9e41fe5b8476c63b1ebd967a18b42b0381aeb5de1ef8662889f0876254fe93780eb3482926366c1913a1f1a98d6c3d4254244a61b14c7758db3ae0d3d00dc0b083981dc
theorem H9:aS prog 37 28 [⟨4,false,some (4,true)⟩,⟨5,true,none⟩] yV=true:=by kernel_rfl
theorem Je{v_0 ey}{s:ae}{Q:List AV->ae->Prop}:ok (fS v_0 ey) (fun r=>Q [oV r.1,.bool r.2] s)->FN prog 37 [oV v_0,.str ey.b] s Q:=by
 intro h
 refine FO H9 rfl rfl ?_
 revert h
 rw[yV,fS]
 conv in dec _=>reduce
 repeat'(first
  |with_reducible refine aF (fun _(h:iu v_0 ey=some _)=>wP h) (fun r1=>?_)
  |simp -implicitDefEqProofs only[go_sem,seval])
theorem rJ{v_0 ey}{s:ae}{r:aa×Bool}(h:fS v_0 ey=some r):FE prog 37 [oV v_0,.str ey.b] s [oV r.1,.bool r.2] s:=Je ⟨r,h,rfl,rfl⟩
def eH(v_0:aa)(uc:aH):Option (Bool):=
 aP (fS v_0 uc) fun r1=>
 some r1.2
def yP:IC:=dec 0x140fb26c6ec835a6dd49ddc84dd72b25b15211226593a0e166ebd387d28f5e9a710cfc59956c60839818b
theorem HW:aS prog 39 14 [⟨4,true,none⟩] yP=true:=by kernel_rfl
theorem HL{v_0 uc}{s:ae}{Q:List AV->ae->Prop}:ok (eH v_0 uc) (fun r=>Q [.bool r] s)->FN prog 39 [oV v_0,.str uc.b] s Q:=by
 intro h
 refine FO HW rfl rfl ?_
 revert h
 rw[yP,eH]
 conv in dec _=>reduce
 repeat'(first
  |with_reducible refine aF (fun _(h:fS v_0 uc=some _)=>rJ h) (fun r1=>?_)
  |simp -implicitDefEqProofs only[go_sem,seval])
theorem na{v_0 uc}{s:ae}{r:Bool}(h:eH v_0 uc=some r):FE prog 39 [oV v_0,.str uc.b] s [.bool r] s:=HL ⟨r,h,rfl,rfl⟩
def lR(o_0:a8):Option (Int):=
 aP (ja o_0.V) fun r1=>
 if r1 !=0 then
  none
 else
  if(!o_0.Stream)&&(!(o_0.Data.b==(aH.mk []).b))then
   none
  else
   aP (en (o_0.Stream&&(!(o_0.V.Kind !=7))) false (eH o_0.V (aH.mk [76,101,110,103,116,104]))) fun r2=>
   aP (en (o_0.Stream&&(!((o_0.V.Kind !=7)||r2))) false (eH o_0.V (aH.mk [70,105,108,116,101,114]))) fun r3=>
   aP (en (o_0.Stream&&(!(((o_0.V.Kind !=7)||r2)||r3))) false (eH o_0.V (aH.mk [68,101,99,111,100,101,80,97,114,109,115]))) fun r4=>
   if o_0.Stream&&((((o_0.V.Kind !=7)||r2)||r3)||r4)then
    none
   else
    if decide ((o_0.Data.b.length:Int)>16777216)then
     none
    else
     some 0
def te:IC:=dec 0x2dc5fe2698581a5593f8bf9182aeb7dc27271aff36b41570e271563f60b530ad06712ae60f4be008df480f5e1b98e4009d019674c98db57059b1bff2f990c9e293421e05c47a51f56d9abbc6bf11e3af287bdd61717fc8f1493b7b23868f92692f31574c40524c712b2c064d7ffe766928f66858cf8a6fb78f00aec823d253afb5325dfe0ff62bcbf1b5c61e3dc45d769436707b8071423cfe82eda4331fe237737b8133fb5d989d4a5480f8fcaf9ece00f8c4eec5d87da43a80fcae440ace62ad20083f6995b
theorem Db:aS prog 25 49 [⟨2,true,none⟩] te=true:=by kernel_rfl
theorem CQ{o_0}{s:ae}{Q:List AV->ae->Prop}:ok (lR o_0) (fun r=>Q [.int .i64 r] s)->FN prog 25 [.agg [.int .i64 o_0.V.Kind,.int .i64 o_0.V.N,.str o_0.V.S.b,sF 4 o_0.V.L,.bool o_0.Stream,.str o_0.Data.b]] s Q:=by
 intro h
 refine FO Db rfl rfl ?_
 revert h
 rw[te,lR]
 conv in dec _=>reduce
 repeat'(first
  |(with_reducible first|exact cU|refine bP ?_ ?_|refine cX ?_|refine aF (fun _(h:ja o_0.V=some _)=>uF h) (fun r1=>?_)|refine dn rfl (fun _(h:eH o_0.V (aH.mk [76,101,110,103,116,104])=some _)=>na h) (fun _=>rfl) (fun r2=>?_)|refine dn rfl (fun _(h:eH o_0.V (aH.mk [70,105,108,116,101,114])=some _)=>na h) (fun _=>rfl) (fun r3=>?_)|refine dn rfl (fun _(h:eH o_0.V (aH.mk [68,101,99,111,100,101,80,97,114,109,115])=some _)=>na h) (fun _=>rfl) (fun r4=>?_))
  |simp -implicitDefEqProofs only[go_sem,seval])
theorem CP{o_0}{s:ae}{r:Int}(h:lR o_0=some r):FE prog 25 [.agg [.int .i64 o_0.V.Kind,.int .i64 o_0.V.N,.str o_0.V.S.b,sF 4 o_0.V.L,.bool o_0.Stream,.str o_0.Data.b]] s [.int .i64 r] s:=CQ ⟨r,h,rfl,rfl⟩
def ib(v_0:aa):Option (a8):=some (a8.mk v_0 false (aH.mk []))
def rQ:IC:=dec 0x130807c7580b6340430ea3b2b86d5c8fadcf98a18b7ae0d3d0136e803995b
theorem Bl:aS prog 10 5 [⟨2,false,some (6,true)⟩] rQ=true:=by kernel_rfl
theorem Bf{v_0}{s:ae}{Q:List AV->ae->Prop}:ok (ib v_0) (fun r=>Q [.agg [.int .i64 r.V.Kind,.int .i64 r.V.N,.str r.V.S.b,sF 4 r.V.L,.bool r.Stream,.str r.Data.b]] s)->FN prog 10 [oV v_0] s Q:=by
 intro h
 refine FO Bl rfl rfl ?_
 revert h
 rw[rQ,ib]
 conv in dec _=>reduce
 repeat'(first
  |simp -implicitDefEqProofs only[go_sem,seval])
theorem rN{v_0}{s:ae}{r:a8}(h:ib v_0=some r):FE prog 10 [oV v_0] s [.agg [.int .i64 r.V.Kind,.int .i64 r.V.N,.str r.V.S.b,sF 4 r.V.L,.bool r.Stream,.str r.Data.b]] s:=Bf ⟨r,h,rfl,rfl⟩
def ie(v_0:aa)(xd:aH):Option (a8):=some (a8.mk v_0 true xd)
def rR:IC:=dec 0xed80157378fc516dc4792d624afac60a522bf1123a2aa65e538b7ae0d3d01372b0839818b
theorem Bm:aS prog 12 8 [⟨4,false,some (6,true)⟩] rR=true:=by kernel_rfl
theorem Bg{v_0 xd}{s:ae}{Q:List AV->ae->Prop}:ok (ie v_0 xd) (fun r=>Q [.agg [.int .i64 r.V.Kind,.int .i64 r.V.N,.str r.V.S.b,sF 4 r.V.L,.bool r.Stream,.str r.Data.b]] s)->FN prog 12 [oV v_0,.str xd.b] s Q:=by
 intro h
 refine FO Bm rfl rfl ?_
 revert h
 rw[rR,ie]
 conv in dec _=>reduce
 repeat'(first
  |simp -implicitDefEqProofs only[go_sem,seval])
theorem rO{v_0 xd}{s:ae}{r:a8}(h:ie v_0 xd=some r):FE prog 12 [oV v_0,.str xd.b] s [.agg [.int .i64 r.V.Kind,.int .i64 r.V.N,.str r.V.S.b,sF 4 r.V.L,.bool r.Stream,.str r.Data.b]] s:=Bg ⟨r,h,rfl,rfl⟩
end Go.AB
end
section
set_option maxRecDepth 4000
namespace Go.AB
open Go
open Go.Proofs.Tryz (prog)
end Go.AB
end
section
set_option maxRecDepth 16000
namespace Go.AB
open Go
open Go.Proofs.Tryz (prog)
attribute[-go_sem] ck cN bK cj
def kS(t_0:aC)(c_1:aH):Option (Bool):=some ((t_0.Kind==6)&&(t_0.S.b==c_1.b))
def rU:IC:=dec 0x2ecd26ff768054815cabcba2ff5bf3d10a3cde1e4a960c9632d28a8b77995684e99818b
theorem Bq:aS prog 74 13 [⟨3,true,none⟩] rU=true:=by kernel_rfl
theorem BB{t_0 c_1}{B1:Nat}{s:ae}{Q:List AV->ae->Prop}(hB1:s B1=some (.cells [.str c_1.b])):ok (kS t_0 c_1) (fun r=>Q [.bool r] s)->FN prog 74 [.agg [.int .i64 t_0.Kind,.int .i64 t_0.mY,.int .i64 t_0.To,.int .i64 t_0.V.Kind,.int .i64 t_0.V.N,.str t_0.V.S.b,sF 4 t_0.V.L,.str t_0.S.b],.ref B1 0] s Q:=by
 have hS:s=(s.set B1 (.cells [.str c_1.b])):=by simp only[aY hB1]
 rw[hS]
 intro h
 refine FO Bq rfl rfl ?_
 revert h
 rw[rU,kS]
 conv in dec _=>reduce
 repeat'(first
  |simp -implicitDefEqProofs only[go_sem,seval])
theorem BA{t_0 c_1}{B1:Nat}{s:ae}{r:Bool}(hB1:s B1=some (.cells [.str c_1.b]))(h:kS t_0 c_1=some r):FE prog 74 [.agg [.int .i64 t_0.Kind,.int .i64 t_0.mY,.int .i64 t_0.To,.int .i64 t_0.V.Kind,.int .i64 t_0.V.N,.str t_0.V.S.b,sF 4 t_0.V.L,.str t_0.S.b],.ref B1 0] s [.bool r] s:=BB hB1 ⟨r,h,rfl,rfl⟩
def lG(b_0:(List UInt8))(bq:Int)(aM:Bool)(Hs:aH):Option (aC×Int):=
 aP (du b_0 bq aM) fun r1=>
 if r1.2 !=0 then
  some ((aC.mk 0 0 0 (aa.mk 0 0 (aH.mk []) ([]:List aa)) (aH.mk [])),r1.2)
 else
  if r1.1.Kind==0 then
   some ((aC.mk 0 0 0 (aa.mk 0 0 (aH.mk []) ([]:List aa)) (aH.mk [])),10)
  else
   aP (kS r1.1 Hs) fun r2=>
   if !r2 then
    some ((aC.mk 0 0 0 (aa.mk 0 0 (aH.mk []) ([]:List aa)) (aH.mk [])),11)
   else
    some (r1.1,0)
theorem NM:(vE prog 74=true)=True:=eq_true (by kernel_rfl)
def wy:IC:=dec 0x189baaf8529fb4d0d513815ca768b22bb4f3004b91d9f2f1a4da7c20dc02485794135ffeecb4a2dea76ddc27cdf8432bb06d66f15d06aa454df73bf1277dffa1eec4d5e5fa34857d6f8b23bcdb896dfa63bc9992c8888ae740cf1bff7983d8c051b721c27cb1424ccf66576dd2713cad3885e89e839c838b37194608cbb41349097d419471e6273e7015d4d4465c37d43427e56d000cc6ea4eb0bc401a6b353277a209622831bebca21d9773d003defd1eb37e000000010cabcb
theorem E8:aS prog 72 36 [⟨8,false,some (8,true)⟩,⟨9,true,none⟩] wy=true:=by kernel_rfl
theorem Fv{b_0 bq aM Hs}{B3_0:Nat}{s:ae}{Q:List AV->ae->Prop}(Rh:s B3_0=some (.cells [.str Hs.b])):ok (lG b_0 bq aM Hs) (fun r=>Q [.agg [.int .i64 r.1.Kind,.int .i64 r.1.mY,.int .i64 r.1.To,.int .i64 r.1.V.Kind,.int .i64 r.1.V.N,.str r.1.V.S.b,sF 4 r.1.V.L,.str r.1.S.b],.int .i64 r.2] s)->FN prog 72 [sF 1 b_0,.int .i64 bq,.bool aM,.fn 74 [] [.ref B3_0 0]] s Q:=by
 have hS:s=(s.set B3_0 (.cells [.str Hs.b])):=by simp only[aY Rh]
 rw[hS]
 intro h
 refine FO E8 rfl rfl ?_
 revert h
 rw[wy,lG]
 conv in dec _=>reduce
 repeat'(first
  |(with_reducible first|exact cU|refine bP ?_ ?_|refine cX ?_|refine aF (fun _(h:du b_0 bq aM=some _)=>jY h) (fun r1=>?_)|refine aF (fun _(h:kS r1.1 Hs=some _)=>BA (B1:=B3_0) (by simp -implicitDefEqProofs only[go_sem,seval,NM]<;>simp only[ao]) h) (fun r2=>?_))
  |simp -implicitDefEqProofs only[go_sem,seval,NM])
theorem Fu{b_0 bq aM Hs}{B3_0:Nat}{s:ae}{r:aC×Int}(Rh:s B3_0=some (.cells [.str Hs.b]))(h:lG b_0 bq aM Hs=some r):FE prog 72 [sF 1 b_0,.int .i64 bq,.bool aM,.fn 74 [] [.ref B3_0 0]] s [.agg [.int .i64 r.1.Kind,.int .i64 r.1.mY,.int .i64 r.1.To,.int .i64 r.1.V.Kind,.int .i64 r.1.V.N,.str r.1.V.S.b,sF 4 r.1.V.L,.str r.1.S.b],.int .i64 r.2] s:=Fv Rh ⟨r,h,rfl,rfl⟩
def jO(b_0:(List UInt8))(bq:Int)(aM:Bool)(uJ:aH):Option (Int×Int):=
 aP (lG b_0 bq aM uJ) fun r1=>
 some (r1.1.To,r1.2)
def wv:IC:=dec 0x6ca41d382e9dec24d71c318871f71949092f3245660f54592fefb3aeab3886a80397f1f77361ebaa6050164a1262e14309fedf33c204a9e3093042e96005b200cd909f9bc
theorem E6:aS prog 33 23 [⟨8,true,none⟩,⟨9,true,none⟩] wv=true:=by kernel_rfl
theorem Fs{b_0 bq aM uJ}{s:ae}{Q:List AV->ae->Prop}:ok (jO b_0 bq aM uJ) (fun r=>Q [.int .i64 r.1,.int .i64 r.2] s)->FN prog 33 [sF 1 b_0,.int .i64 bq,.bool aM,.str uJ.b] s Q:=by
 intro h
 refine FN.forget ?_
 refine FO E6 rfl rfl ?_
 revert h
 rw[wv,jO]
 conv in dec _=>reduce
 repeat'(first
  |with_reducible refine aF (fun _(h:lG b_0 bq aM uJ=some _)=>Fu (B3_0:=N1) (by simp -implicitDefEqProofs only[go_sem,seval]<;>simp only[ao]) h) (fun r1=>?_)
  |((fail_if_success (have _x:=sN1));with_reducible intro hh N1 hN1;(try simp only[iD]at hN1);have sN1:=hN1;revert hh)
  |with_reducible exact fun hh=>⟨_,lx.set (lx.refl _) (by simp[ae.set,sN1]),hh⟩
  |simp -implicitDefEqProofs only[go_sem,seval])
theorem Fp{b_0 bq aM uJ}{s:ae}{r:Int×Int}(h:jO b_0 bq aM uJ=some r):FE prog 33 [sF 1 b_0,.int .i64 bq,.bool aM,.str uJ.b] s [.int .i64 r.1,.int .i64 r.2] s:=Fs ⟨r,h,rfl,rfl⟩
def kT(t_0:aC):Option (Bool):=some ((t_0.Kind==1)&&(t_0.V.Kind==2))
def rV:IC:=dec 0x16f1440b844ae3ea6d1cde8652f01354bd3b953622ebee9632d28a8b77e3684e9995b
theorem Br:aS prog 73 12 [⟨2,true,none⟩] rV=true:=by kernel_rfl
theorem BD{t_0}{s:ae}{Q:List AV->ae->Prop}:ok (kT t_0) (fun r=>Q [.bool r] s)->FN prog 73 [.agg [.int .i64 t_0.Kind,.int .i64 t_0.mY,.int .i64 t_0.To,.int .i64 t_0.V.Kind,.int .i64 t_0.V.N,.str t_0.V.S.b,sF 4 t_0.V.L,.str t_0.S.b]] s Q:=by
 intro h
 refine FO Br rfl rfl ?_
 revert h
 rw[rV,kT]
 conv in dec _=>reduce
 repeat'(first
  |simp -implicitDefEqProofs only[go_sem,seval])
theorem BC{t_0}{s:ae}{r:Bool}(h:kT t_0=some r):FE prog 73 [.agg [.int .i64 t_0.Kind,.int .i64 t_0.mY,.int .i64 t_0.To,.int .i64 t_0.V.Kind,.int .i64 t_0.V.N,.str t_0.V.S.b,sF 4 t_0.V.L,.str t_0.S.b]] s [.bool r] s:=BD ⟨r,h,rfl,rfl⟩
def j4(b_0:(List UInt8))(bq:Int)(aM:Bool):Option (aC×Int):=
 aP (du b_0 bq aM) fun r1=>
 if r1.2 !=0 then
  some ((aC.mk 0 0 0 (aa.mk 0 0 (aH.mk []) ([]:List aa)) (aH.mk [])),r1.2)
 else
  if r1.1.Kind==0 then
   some ((aC.mk 0 0 0 (aa.mk 0 0 (aH.mk []) ([]:List aa)) (aH.mk [])),10)
  else
   aP (kT r1.1) fun r2=>
   if !r2 then
    some ((aC.mk 0 0 0 (aa.mk 0 0 (aH.mk []) ([]:List aa)) (aH.mk [])),11)
   else
    some (r1.1,0)
theorem UU:(vE prog 73=true)=True:=eq_true (by kernel_rfl)
def tv:IC:=dec 0x189baaf8529fb4d0d513815ca768b22bb4f3004b91d9f2f1a4da7c20dc02485794135ffeecb4a2dea76ddc27cdf8432bb06d66f15d06aa454df73bf1277dffa1eec4d5e5fa34857d6f8b23bcdb896dfa63bc9992c8888ae740cf1bff7983d8c051b721c27cb1424ccf66576dd2713cad3885e89e839c838b37194608cbb41349097d419471e6273e7015d4d4465c37d43427e56d000cc6ea4eb0bc401a6b353277a209622831bebca21d9773d003defd1eb37e000000010cabcb
theorem Di:aS prog 72 36 [⟨8,false,some (8,true)⟩,⟨9,true,none⟩] tv=true:=by kernel_rfl
theorem DU{b_0 bq aM}{s:ae}{Q:List AV->ae->Prop}:ok (j4 b_0 bq aM) (fun r=>Q [.agg [.int .i64 r.1.Kind,.int .i64 r.1.mY,.int .i64 r.1.To,.int .i64 r.1.V.Kind,.int .i64 r.1.V.N,.str r.1.V.S.b,sF 4 r.1.V.L,.str r.1.S.b],.int .i64 r.2] s)->FN prog 72 [sF 1 b_0,.int .i64 bq,.bool aM,.fn 73 [] []] s Q:=by
 intro h
 refine FO Di rfl rfl ?_
 revert h
 rw[tv,j4]
 conv in dec _=>reduce
 repeat'(first
  |(with_reducible first|exact cU|refine bP ?_ ?_|refine cX ?_|refine aF (fun _(h:du b_0 bq aM=some _)=>jY h) (fun r1=>?_)|refine aF (fun _(h:kT r1.1=some _)=>BC h) (fun r2=>?_))
  |simp -implicitDefEqProofs only[go_sem,seval,UU])
theorem DT{b_0 bq aM}{s:ae}{r:aC×Int}(h:j4 b_0 bq aM=some r):FE prog 72 [sF 1 b_0,.int .i64 bq,.bool aM,.fn 73 [] []] s [.agg [.int .i64 r.1.Kind,.int .i64 r.1.mY,.int .i64 r.1.To,.int .i64 r.1.V.Kind,.int .i64 r.1.V.N,.str r.1.V.S.b,sF 4 r.1.V.L,.str r.1.S.b],.int .i64 r.2] s:=DU ⟨r,h,rfl,rfl⟩
def ga(b_0:(List UInt8))(bq:Int)(aM:Bool):Option (Int×Int×Int):=
 aP (j4 b_0 bq aM) fun r1=>
 some (r1.1.V.N,r1.1.To,r1.2)
def rT:IC:=dec 0x1c66df5ea4d93d50f46beaa86cce5c95bd98c4f9fb46123ae1fb0b614007d3412cbaf76a53be4e3bd82380132835406a4250c292b13bd401e5e0eac2f87e254aff7889528402d9003cc00c15c
theorem Bp:aS prog 32 24 [⟨6,true,none⟩,⟨7,true,none⟩,⟨8,true,none⟩] rT=true:=by kernel_rfl
theorem Bz{b_0 bq aM}{s:ae}{Q:List AV->ae->Prop}:ok (ga b_0 bq aM) (fun r=>Q [.int .i64 r.1,.int .i64 r.2.1,.int .i64 r.2.2] s)->FN prog 32 [sF 1 b_0,.int .i64 bq,.bool aM] s Q:=by
 intro h
 refine FO Bp rfl rfl ?_
 revert h
 rw[rT,ga]
 conv in dec _=>reduce
 repeat'(first
  |with_reducible refine aF (fun _(h:j4 b_0 bq aM=some _)=>DT h) (fun r1=>?_)
  |simp -implicitDefEqProofs only[go_sem,seval])
theorem Bx{b_0 bq aM}{s:ae}{r:Int×Int×Int}(h:ga b_0 bq aM=some r):FE prog 32 [sF 1 b_0,.int .i64 bq,.bool aM] s [.int .i64 r.1,.int .i64 r.2.1,.int .i64 r.2.2] s:=Bz ⟨r,h,rfl,rfl⟩
end Go.AB
end
section
set_option maxRecDepth 4000
namespace Go.AB
open Go
open Go.Proofs.Tryz (prog)
attribute[-go_sem] ck cN bK cj Nat.add_zero pj cT
structure bz where
 Kind:Int
 mY:Int
 To:Int
 V:aa
 S:aH
instance:bp bz:=⟨8,fun x=>[.int .i64 x.Kind,.int .i64 x.mY,.int .i64 x.To,.int .i64 x.V.Kind,.int .i64 x.V.N,.str x.V.S.b,sF 4 x.V.L,.str x.S.b],(bz.mk 0 0 0 (aa.mk 0 0 (aH.mk []) []) (aH.mk [])),by decide,fun _=>rfl,fun _=>rfl⟩
def ui(c_0:UInt8):Option (Bool):=
 jn (
  if(c_0.toNat:Int)==0 then
   some ((c_0.toNat:Int)==0)
  else
   if(c_0.toNat:Int)==9 then
    some ((c_0.toNat:Int)==9)
   else
    if(c_0.toNat:Int)==10 then
     some ((c_0.toNat:Int)==10)
    else
     if(c_0.toNat:Int)==12 then
      some ((c_0.toNat:Int)==12)
     else
      if(c_0.toNat:Int)==13 then
       some ((c_0.toNat:Int)==13)
      else
       some ((c_0.toNat:Int)==32)) fun(t1:Bool)=>
 if t1 then
  some true
 else
  some false
def MU(b_0:(List UInt8))(bq:Int):Option (Int):=
 if decide (bq<0)then
  some 0
 else
  uY (
   m5 (
    iter (fun(at3:Int)=>
     if decide (at3<(b_0.length:Int))then
      aL (0<=at3/\at3<b_0.length)<|
      aP (ui (ix b_0 at3)) fun r6=>
      if r6 then
       some (.inl (aw (at3+1)))
      else
       aL (0<=at3/\at3<b_0.length)<|
       if((ix b_0 at3).toNat:Int)!=37 then
        some (.inr (.inr at3))
       else
        aP (
         iter (fun(at7:Int)=>
          aL ((decide (at7<(b_0.length:Int)))=true->0<=at7/\at7<b_0.length)<|
          aL (((decide (at7<(b_0.length:Int)))&&(((ix b_0 at7).toNat:Int)!=10))=true->0<=at7/\at7<b_0.length)<|
          if((decide (at7<(b_0.length:Int)))&&(((ix b_0 at7).toNat:Int)!=10))&&(((ix b_0 at7).toNat:Int)!=13)then
           some (.inl (aw (at7+1)))
          else
           some (.inr at7)) at3) fun(at9:Int)=>
        some (.inl at9)
     else
      some (.inr (.inl ()))) bq) (fun(_:Unit)=>
    some (.inl ()))
   (fun(t5:Int)=>some (.inr t5))) (fun(_:Unit)=>
   some (b_0.length:Int))
  (fun(t2:Int)=>some t2)
def A5(c_0:UInt8):Option (Bool):=
 jn (
  if(c_0.toNat:Int)==40 then
   some ((c_0.toNat:Int)==40)
  else
   if(c_0.toNat:Int)==41 then
    some ((c_0.toNat:Int)==41)
   else
    if(c_0.toNat:Int)==60 then
     some ((c_0.toNat:Int)==60)
    else
     if(c_0.toNat:Int)==62 then
      some ((c_0.toNat:Int)==62)
     else
      if(c_0.toNat:Int)==91 then
       some ((c_0.toNat:Int)==91)
      else
       if(c_0.toNat:Int)==93 then
        some ((c_0.toNat:Int)==93)
       else
        if(c_0.toNat:Int)==123 then
         some ((c_0.toNat:Int)==123)
        else
         if(c_0.toNat:Int)==125 then
          some ((c_0.toNat:Int)==125)
         else
          if(c_0.toNat:Int)==47 then
           some ((c_0.toNat:Int)==47)
          else
           some ((c_0.toNat:Int)==37)) fun(t1:Bool)=>
 if t1 then
  some true
 else
  some false
def GS(b_0:(List UInt8))(bq:Int):Option (Int):=
 jn (
  iter (fun(at2:Int)=>
   aL ((decide (at2<(b_0.length:Int)))=true->0<=at2/\at2<b_0.length)<|
   aP (en (decide (at2<(b_0.length:Int))) false (ui (ix b_0 at2))) fun r4=>
   aL (((decide (at2<(b_0.length:Int)))&&(!r4))=true->0<=at2/\at2<b_0.length)<|
   aP (en ((decide (at2<(b_0.length:Int)))&&(!r4)) false (A5 (ix b_0 at2))) fun r5=>
   if((decide (at2<(b_0.length:Int)))&&(!r4))&&(!r5)then
    some (.inl (aw (at2+1)))
   else
    some (.inr at2)) bq) fun(at1:Int)=>
 some at1
def nv(c_0:UInt8):Option (Int):=
 if(decide ((c_0.toNat:Int)>=48))&&(decide ((c_0.toNat:Int)<=57))then
  some (aw ((aw ((c_0.toNat:Int))) -48))
 else
  if(decide ((c_0.toNat:Int)>=97))&&(decide ((c_0.toNat:Int)<=102))then
   some (aw ((aw ((c_0.toNat:Int))) -87))
  else
   if(decide ((c_0.toNat:Int)>=65))&&(decide ((c_0.toNat:Int)<=70))then
    some (aw ((aw ((c_0.toNat:Int))) -55))
   else
    some (-1)
def Ar(ZV:Bool):Option (Int):=
 if ZV then
  some 10
 else
  some 6
def La(b_0:(List UInt8))(bq:Int)(aM:Bool):Option ((List UInt8)×Int×Int):=
 uY (
  m5 (
   iter (fun((at5,qY):Int×(List Int))=>
    if decide (at5<(b_0.length:Int))then
     aL (0<=at5/\at5<b_0.length)<|
     uY (
      if((ix b_0 at5).toNat:Int)==62 then
       jn (
        if(Int.tmod (qY.length:Int) 2)==1 then
         aL ((qY.length+[0].length)*8<=room)<|
         some (qY++[0])
        else
         some qY) fun(nH:(List Int))=>
       jn (
        iter (fun((rX,k24):(List UInt8)×Int)=>
         if decide (k24<(nH.length:Int))then
          aL (0<=k24/\k24<nH.length)<|
          aL (0<=aw (k24+1)/\aw (k24+1)<nH.length)<|
          aL ((rX.length+[gX (aw ((aw (16*(ix nH k24)))+(ix nH (aw (k24+1)))))].length)*1<=room)<|
          some (.inl (rX++[gX (aw ((aw (16*(ix nH k24)))+(ix nH (aw (k24+1)))))],aw (k24+2)))
         else
          some (.inr rX)) (([]:List UInt8),0)) fun(ae3:(List UInt8))=>
       some (.inr (ae3,aw (at5+1),(0:Int)))
      else
       some (.inl ())) (fun(_:Unit)=>
      aP (ui (ix b_0 at5)) fun r27=>
      if r27 then
       some (.inl (aw (at5+1),qY))
      else
       aP (nv (ix b_0 at5)) fun r28=>
       if decide (r28<0)then
        some (.inr (.inr (([]:List UInt8),(0:Int),(11:Int))))
       else
        aP (nv (ix b_0 at5)) fun r29=>
        aL ((qY.length+[r29].length)*8<=room)<|
        some (.inl (aw (at5+1),qY++[r29])))
     (fun((t16,t17,t18):(List UInt8)×Int×Int)=>some (.inr (.inr (t16,t17,t18))))
    else
     some (.inr (.inl ()))) (bq,([]:List Int))) (fun(_:Unit)=>
   some (.inl ()))
  (fun((t8,t9,t10):(List UInt8)×Int×Int)=>some (.inr (t8,t9,t10)))) (fun(_:Unit)=>
  aP (Ar aM) fun r30=>
  some (([]:List UInt8),0,r30))
 (fun((t2,t3,t4):(List UInt8)×Int×Int)=>some (t2,t3,t4))
def IK(b_0:(List UInt8))(bq:Int)(aM:Bool):Option (UInt8×Int×Bool×Int):=
 if decide (bq>=(b_0.length:Int))then
  aP (Ar aM) fun r1=>
  some (0,0,false,r1)
 else
  aL (0<=bq/\bq<b_0.length)<|
  if((ix b_0 bq).toNat:Int)==110 then
   some (10,aw (bq+1),true,0)
  else
   if((ix b_0 bq).toNat:Int)==114 then
    some (13,aw (bq+1),true,0)
   else
    if((ix b_0 bq).toNat:Int)==116 then
     some (9,aw (bq+1),true,0)
    else
     if((ix b_0 bq).toNat:Int)==98 then
      some (8,aw (bq+1),true,0)
     else
      if((ix b_0 bq).toNat:Int)==102 then
       some (12,aw (bq+1),true,0)
      else
       if((ix b_0 bq).toNat:Int)==10 then
        some (0,aw (bq+1),false,0)
       else
        if((ix b_0 bq).toNat:Int)==13 then
         if(decide (aw (bq+1)>=(b_0.length:Int)))&&(!aM)then
          some (0,0,false,6)
         else
          aL ((decide (aw (bq+1)<(b_0.length:Int)))=true->0<=aw (bq+1)/\aw (bq+1)<b_0.length)<|
          if(decide (aw (bq+1)<(b_0.length:Int)))&&(((ix b_0 (aw (bq+1))).toNat:Int)==10)then
           some (0,aw (bq+2),false,0)
          else
           some (0,aw (bq+1),false,0)
        else
         if(decide (((ix b_0 bq).toNat:Int)<48))||(decide (((ix b_0 bq).toNat:Int)>55))then
          some (ix b_0 bq,aw (bq+1),true,0)
         else
          jn (
           iter (fun((n7,k8):Int×Int)=>
            aL (((decide (k8<3))&&(decide (aw (bq+k8)<(b_0.length:Int))))=true->0<=aw (bq+k8)/\aw (bq+k8)<b_0.length)<|
            aL ((((decide (k8<3))&&(decide (aw (bq+k8)<(b_0.length:Int))))&&(decide (((ix b_0 (aw (bq+k8))).toNat:Int)>=48)))=true->0<=aw (bq+k8)/\aw (bq+k8)<b_0.length)<|
            if(((decide (k8<3))&&(decide (aw (bq+k8)<(b_0.length:Int))))&&(decide (((ix b_0 (aw (bq+k8))).toNat:Int)>=48)))&&(decide (((ix b_0 (aw (bq+k8))).toNat:Int)<=55))then
             aL (0<=aw (bq+k8)/\aw (bq+k8)<b_0.length)<|
             some (.inl (aw ((aw ((aw (8*n7))+(aw (((ix b_0 (aw (bq+k8))).toNat:Int))))) -48),aw (k8+1)))
            else
             some (.inr (n7,k8))) (0,0)) fun((n5,k6):Int×Int)=>
          if((decide (k6<3))&&(decide (aw (bq+k6)>=(b_0.length:Int))))&&(!aM)then
           some (0,0,false,6)
          else
           some (gX (Int.tmod n5 256),aw (bq+k6),true,0)
def MV(b_0:(List UInt8))(bq:Int)(aM:Bool):Option ((List UInt8)×Int×Int):=
 uY (
  m5 (
   iter (fun((at5,Fm,JK):Int×(List UInt8)×Int)=>
    if decide (at5<(b_0.length:Int))then
     aL (0<=at5/\at5<b_0.length)<|
     uY (
      if((ix b_0 at5).toNat:Int)==92 then
       aP (IK b_0 (aw (at5+1)) aM) fun r26=>
       if r26.2.2.2 !=0 then
        some (.inr (.inr (([]:List UInt8),(0:Int),r26.2.2.2)))
       else
        jn (
         if r26.2.2.1 then
          aL ((Fm.length+[r26.1].length)*1<=room)<|
          some (Fm++[r26.1])
         else
          some Fm) fun(ae4:(List UInt8))=>
        some (.inr (.inl (r26.2.1,ae4)))
      else
       if((ix b_0 at5).toNat:Int)==13 then
        if(decide (aw (at5+1)>=(b_0.length:Int)))&&(!aM)then
         some (.inr (.inr (([]:List UInt8),(0:Int),(6:Int))))
        else
         jn (
          aL ((decide (aw (at5+1)<(b_0.length:Int)))=true->0<=aw (at5+1)/\aw (at5+1)<b_0.length)<|
          if(decide (aw (at5+1)<(b_0.length:Int)))&&(((ix b_0 (aw (at5+1))).toNat:Int)==10)then
           some (aw (at5+1))
          else
           some at5) fun(ahC:Int)=>
         some (.inl (ahC,JK,10))
       else
        if((ix b_0 at5).toNat:Int)==40 then
         some (.inl (at5,aw (JK+1),ix b_0 at5))
        else
         if((ix b_0 at5).toNat:Int)==41 then
          some (.inl (at5,aw (JK -1),ix b_0 at5))
         else
          some (.inl (at5,JK,ix b_0 at5))) (fun((ac4,QO,c17):Int×Int×UInt8)=>
      if QO==0 then
       some (.inr (.inr (Fm,aw (ac4+1),(0:Int))))
      else
       aL ((Fm.length+[c17].length)*1<=room)<|
       some (.inl (aw (ac4+1),Fm++[c17],QO)))
     (jS (fun((ahB,ae2):Int×(List UInt8))=>some (.inl (ahB,ae2,JK))) (fun((t23,t24,t25):(List UInt8)×Int×Int)=>some (.inr (.inr (t23,t24,t25)))))
    else
     some (.inr (.inl ()))) (bq,([]:List UInt8),1)) (fun(_:Unit)=>
   some (.inl ()))
  (fun((t9,t10,t11):(List UInt8)×Int×Int)=>some (.inr (t9,t10,t11)))) (fun(_:Unit)=>
  aP (Ar aM) fun r37=>
  some (([]:List UInt8),0,r37))
 (fun((t2,t3,t4):(List UInt8)×Int×Int)=>some (t2,t3,t4))
def MT(w_0:(List UInt8)):Option (aa×Int):=
 uY (
  m5 (
   iter (fun((Ao,k6):(List UInt8)×Int)=>
    if decide (k6<(w_0.length:Int))then
     uY (
      aL (0<=k6/\k6<w_0.length)<|
      if((ix w_0 k6).toNat:Int)!=35 then
       aL (0<=k6/\k6<w_0.length)<|
       aL ((Ao.length+[ix w_0 k6].length)*1<=room)<|
       some (.inl (Ao++[ix w_0 k6],k6))
      else
       aL ((!(decide (aw (k6+2)>=(w_0.length:Int))))=true->0<=aw (k6+1)/\aw (k6+1)<w_0.length)<|
       aP (en (!(decide (aw (k6+2)>=(w_0.length:Int)))) 0 (nv (ix w_0 (aw (k6+1))))) fun r17=>
       aL ((!((decide (aw (k6+2)>=(w_0.length:Int)))||(decide (r17<0))))=true->0<=aw (k6+2)/\aw (k6+2)<w_0.length)<|
       aP (en (!((decide (aw (k6+2)>=(w_0.length:Int)))||(decide (r17<0)))) 0 (nv (ix w_0 (aw (k6+2))))) fun r18=>
       if((decide (aw (k6+2)>=(w_0.length:Int)))||(decide (r17<0)))||(decide (r18<0))then
        some (.inr (17:Int))
       else
        aL (0<=aw (k6+1)/\aw (k6+1)<w_0.length)<|
        aP (nv (ix w_0 (aw (k6+1)))) fun r19=>
        aL (0<=aw (k6+2)/\aw (k6+2)<w_0.length)<|
        aP (nv (ix w_0 (aw (k6+2)))) fun r20=>
        aL ((Ao.length+[gX (aw ((aw (16*r19))+r20))].length)*1<=room)<|
        some (.inl (Ao++[gX (aw ((aw (16*r19))+r20))],aw (k6+2)))) (fun((ae1,k14):(List UInt8)×Int)=>
      some (.inl (ae1,aw (k14+1))))
     (fun(t16:Int)=>some (.inr (.inr t16)))
    else
     some (.inr (.inl Ao))) (([]:List UInt8),0)) (fun(aaB:(List UInt8))=>
   some (.inl aaB))
  (fun(t10:Int)=>some (.inr t10))) (fun(zm:(List UInt8))=>
  uY (
   m5 (
    iter (fun(k25:Int)=>
     if decide (k25<(zm.length:Int))then
      aL (0<=k25/\k25<zm.length)<|
      if((ix zm k25).toNat:Int)==0 then
       some (.inr (.inr (17:Int)))
      else
       some (.inl (aw (k25+1)))
     else
      some (.inr (.inl ()))) 0) (fun(_:Unit)=>
    some (.inl ()))
   (fun(t29:Int)=>some (.inr t29))) (fun(_:Unit)=>
   if decide ((zm.length:Int)>127)then
    some ((aa.mk 0 0 (aH.mk []) ([]:List aa)),17)
   else
    some ((aa.mk 5 0 (aH.mk zm) ([]:List aa)),0))
  (fun(t24:Int)=>some ((aa.mk 0 0 (aH.mk []) ([]:List aa)),t24)))
 (fun(t4:Int)=>some ((aa.mk 0 0 (aH.mk []) ([]:List aa)),t4))
def K9(s_0:aH):Option (aa×Int):=
 jn (
  aL ((decide ((s_0.b.length:Int)>0))=true->0<=(0:Int)/\(0:Int)<s_0.b.length)<|
  aL ((!(((ix s_0.b 0).toNat:Int)==43))=true->0<=(0:Int)/\(0:Int)<s_0.b.length)<|
  if(decide ((s_0.b.length:Int)>0))&&((((ix s_0.b 0).toNat:Int)==43)||(((ix s_0.b 0).toNat:Int)==45))then
   some 1
  else
   some 0) fun(at3:Int)=>
 uY (
  m5 (
   iter (fun((n14,BV,yp,vb,DK,k19):Int×Int×Int×Int×Bool×Int)=>
    if decide (k19<(s_0.b.length:Int))then
     uY (
      aL (0<=k19/\k19<s_0.b.length)<|
      if(((ix s_0.b k19).toNat:Int)==46)&&(decide (vb<0))then
       some (.inl (n14,BV,yp,k19,DK))
      else
       aL (0<=k19/\k19<s_0.b.length)<|
       aL ((decide (((ix s_0.b k19).toNat:Int)>=48))=true->0<=k19/\k19<s_0.b.length)<|
       if((decide (((ix s_0.b k19).toNat:Int)>=48))&&(decide (((ix s_0.b k19).toNat:Int)<=57)))&&(decide (vb<0))then
        jn (
         if !DK then
          aL (0<=k19/\k19<s_0.b.length)<|
          some (aw ((aw ((aw (10*n14))+(aw (((ix s_0.b k19).toNat:Int))))) -48))
         else
          some n14) fun(n44:Int)=>
        some (.inl (n44,BV,aw (yp+1),vb,DK||(decide (n44>2147483647))))
       else
        aL (0<=k19/\k19<s_0.b.length)<|
        aL ((decide (((ix s_0.b k19).toNat:Int)>=48))=true->0<=k19/\k19<s_0.b.length)<|
        if(decide (((ix s_0.b k19).toNat:Int)>=48))&&(decide (((ix s_0.b k19).toNat:Int)<=57))then
         jn (
          iter (fun((adh,j61):Int×Int)=>
           if(decide (j61<aw (k19 -vb)))&&(decide (j61<7))then
            some (.inl (aw (Int.tdiv adh 10),aw (j61+1)))
           else
            some (.inr adh)) (100000,1)) fun(ahG:Int)=>
         aL (0<=k19/\k19<s_0.b.length)<|
         some (.inl (n14,aw (BV+(aw (ahG*(aw ((aw (((ix s_0.b k19).toNat:Int))) -48))))),aw (yp+1),vb,DK))
        else
         some (.inr (11:Int))) (fun((n33,V6,QS,V8,aaE):Int×Int×Int×Int×Bool)=>
      some (.inl (n33,V6,QS,V8,aaE,aw (k19+1))))
     (fun(t40:Int)=>some (.inr (.inr t40)))
    else
     some (.inr (.inl (n14,BV,yp,vb,DK)))) (0,0,0,(-1),false,at3)) (fun((n23,V5,QR,V7,aaD):Int×Int×Int×Int×Bool)=>
   some (.inl (n23,V5,QR,V7,aaD)))
  (fun(t29:Int)=>some (.inr t29))) (fun((n7,SD,UI,Oh,aaC):Int×Int×Int×Int×Bool)=>
  if UI==0 then
   some ((aa.mk 0 0 (aH.mk []) ([]:List aa)),11)
  else
   if aaC||(((decide (Oh>=0))&&(n7==2147483647))&&(decide (SD>0)))then
    some ((aa.mk 0 0 (aH.mk []) ([]:List aa)),5)
   else
    jn (
     if decide (Oh>=0)then
      some (aa.mk 3 (aw ((aw (1000000*n7))+SD)) (aH.mk []) ([]:List aa))
     else
      some (aa.mk 2 n7 (aH.mk []) ([]:List aa))) fun(v75:aa)=>
    jn (
     aL ((at3==1)=true->0<=(0:Int)/\(0:Int)<s_0.b.length)<|
     if(at3==1)&&(((ix s_0.b 0).toNat:Int)==45)then
      some (aa.mk v75.Kind (aw (0 -v75.N)) v75.S v75.L)
     else
      some v75) fun(v77:aa)=>
    some (v77,0))
 (fun(t13:Int)=>some ((aa.mk 0 0 (aH.mk []) ([]:List aa)),t13))
def og(b_0:(List UInt8))(bq:Int)(aM:Bool):Option (bz×Int):=
 if(decide (bq<0))||(decide (bq>(b_0.length:Int)))then
  some ((bz.mk 0 0 0 (aa.mk 0 0 (aH.mk []) ([]:List aa)) (aH.mk [])),2)
 else
  aP (MU b_0 bq) fun r1=>
  if r1==(b_0.length:Int)then
   if aM then
    some ((bz.mk 0 r1 r1 (aa.mk 0 0 (aH.mk []) ([]:List aa)) (aH.mk [])),0)
   else
    some ((bz.mk 0 r1 r1 (aa.mk 0 0 (aH.mk []) ([]:List aa)) (aH.mk [])),6)
  else
   aL (0<=r1/\r1<b_0.length)<|
   aP (GS b_0 r1) fun r2=>
   if((ix b_0 r1).toNat:Int)==91 then
    some ((bz.mk 2 r1 (aw (r1+1)) (aa.mk 0 0 (aH.mk []) ([]:List aa)) (aH.mk [])),0)
   else
    if((ix b_0 r1).toNat:Int)==93 then
     some ((bz.mk 3 r1 (aw (r1+1)) (aa.mk 0 0 (aH.mk []) ([]:List aa)) (aH.mk [])),0)
    else
     aL (((((ix b_0 r1).toNat:Int)==60)&&(decide (aw (r1+1)<(b_0.length:Int))))=true->0<=aw (r1+1)/\aw (r1+1)<b_0.length)<|
     if((((ix b_0 r1).toNat:Int)==60)&&(decide (aw (r1+1)<(b_0.length:Int))))&&(((ix b_0 (aw (r1+1))).toNat:Int)==60)then
      some ((bz.mk 4 r1 (aw (r1+2)) (aa.mk 0 0 (aH.mk []) ([]:List aa)) (aH.mk [])),0)
     else
      aL (((((ix b_0 r1).toNat:Int)==62)&&(decide (aw (r1+1)<(b_0.length:Int))))=true->0<=aw (r1+1)/\aw (r1+1)<b_0.length)<|
      if((((ix b_0 r1).toNat:Int)==62)&&(decide (aw (r1+1)<(b_0.length:Int))))&&(((ix b_0 (aw (r1+1))).toNat:Int)==62)then
       some ((bz.mk 5 r1 (aw (r1+2)) (aa.mk 0 0 (aH.mk []) ([]:List aa)) (aH.mk [])),0)
      else
       if((((ix b_0 r1).toNat:Int)==62)&&((aw (r1+1))==(b_0.length:Int)))&&(!aM)then
        some ((bz.mk 0 r1 r1 (aa.mk 0 0 (aH.mk []) ([]:List aa)) (aH.mk [])),6)
       else
        if(((ix b_0 r1).toNat:Int)==60)||(((ix b_0 r1).toNat:Int)==40)then
         aP (La b_0 (aw (r1+1)) aM) fun r3=>
         jn (
          if((ix b_0 r1).toNat:Int)==40 then
           aP (MV b_0 (aw (r1+1)) aM) fun r10=>
           some ((bz.mk 0 r1 r1 (aa.mk 0 0 (aH.mk []) ([]:List aa)) (aH.mk [])),r10.1,r10.2.1,r10.2.2)
          else
           some ((bz.mk 0 r1 r1 (aa.mk 0 0 (aH.mk []) ([]:List aa)) (aH.mk [])),r3.1,r3.2.1,r3.2.2)) fun((no6,s7,to8,e9):bz×(List UInt8)×Int×Int)=>
         if e9 !=0 then
          some (no6,e9)
         else
          some ((bz.mk 1 r1 to8 (aa.mk 4 0 (aH.mk s7) ([]:List aa)) (aH.mk [])),0)
        else
         if((ix b_0 r1).toNat:Int)==47 then
          aP (GS b_0 (aw (r1+1))) fun r11=>
          if(r11==(b_0.length:Int))&&(!aM)then
           some ((bz.mk 0 r1 r1 (aa.mk 0 0 (aH.mk []) ([]:List aa)) (aH.mk [])),6)
          else
           aL (0<=aw (r1+1)/\aw (r1+1)<=r11/\r11<=b_0.length)<|
           aP (MT (part b_0 (aw (r1+1)) r11)) fun r12=>
           if r12.2 !=0 then
            some ((bz.mk 0 r1 r1 (aa.mk 0 0 (aH.mk []) ([]:List aa)) (aH.mk [])),r12.2)
           else
            some ((bz.mk 1 r1 r11 r12.1 (aH.mk [])),0)
         else
          aP (A5 (ix b_0 r1)) fun r13=>
          if r13 then
           some ((bz.mk 0 r1 r1 (aa.mk 0 0 (aH.mk []) ([]:List aa)) (aH.mk [])),11)
          else
           if(r2==(b_0.length:Int))&&(!aM)then
            some ((bz.mk 0 r1 r1 (aa.mk 0 0 (aH.mk []) ([]:List aa)) (aH.mk [])),6)
           else
            if((((decide (((ix b_0 r1).toNat:Int)>=48))&&(decide (((ix b_0 r1).toNat:Int)<=57)))||(((ix b_0 r1).toNat:Int)==43))||(((ix b_0 r1).toNat:Int)==45))||(((ix b_0 r1).toNat:Int)==46)then
             aL (0<=r1/\r1<=r2/\r2<=b_0.length)<|
             aP (K9 (aH.mk (part b_0 r1 r2))) fun r14=>
             if r14.2 !=0 then
              some ((bz.mk 0 r1 r1 (aa.mk 0 0 (aH.mk []) ([]:List aa)) (aH.mk [])),r14.2)
             else
              some ((bz.mk 1 r1 r2 r14.1 (aH.mk [])),0)
            else
             aL (0<=r1/\r1<=r2/\r2<=b_0.length)<|
             some ((bz.mk 6 r1 r2 (aa.mk 0 0 (aH.mk []) ([]:List aa)) (aH.mk (part b_0 r1 r2))),0)
def A8(t_0:bz):Option (Bool):=some ((t_0.Kind==1)&&(t_0.V.Kind==2))
def PQ(b_0:(List UInt8))(bq:Int)(aM:Bool)(n_3:Int):Option (Bool×Int×Int):=
 aP (og b_0 bq aM) fun r1=>
 if r1.2==6 then
  some (false,0,r1.2)
 else
  aP (en (!(r1.2 !=0)) false (A8 r1.1)) fun r2=>
  if(r1.2 !=0)||(!r2)then
   some (false,0,0)
  else
   aP (og b_0 r1.1.To aM) fun r3=>
   if r3.2==6 then
    some (false,0,r3.2)
   else
    if((r3.2 !=0)||(r3.1.Kind !=6))||(!(r3.1.S.b==(aH.mk [82]).b))then
     some (false,0,0)
    else
     if((decide (n_3<1))||(decide (n_3>4096)))||(r1.1.V.N !=0)then
      some (false,0,26)
     else
      some (true,r3.1.To,0)
def dF(v_0:aa)(ey:aH):Option (Int):=
 uY (
  m5 (
   iter (fun(k2:Int)=>
    if(v_0.Kind==7)&&(decide (k2<(v_0.L.length:Int)))then
     aL (0<=k2/\k2<v_0.L.length)<|
     aL ((((ix v_0.L k2).Kind)==5)=true->0<=k2/\k2<v_0.L.length)<|
     if(((ix v_0.L k2).Kind)==5)&&(((ix v_0.L k2).S).b==ey.b)then
      some (.inr (.inr k2))
     else
      some (.inl (aw (k2+2)))
    else
     some (.inr (.inl ()))) 0) (fun(_:Unit)=>
   some (.inl ()))
  (fun(t3:Int)=>some (.inr t3))) (fun(_:Unit)=>
  some (-1))
 (fun(t1:Int)=>some t1)
def nw(v_0:aa)(ey:aH)(x_2:aa):Option (aa):=
 if v_0.Kind !=7 then
  some v_0
 else
  aP (dF v_0 ey) fun r1=>
  jn (
   iter (fun((VZ,Cp,k11):(List aa)×Bool×Int)=>
    if decide (k11<(v_0.L.length:Int))then
     jn (
      jn (
       aL (((decide (r1<0))&&(!Cp))=true->0<=k11/\k11<v_0.L.length)<|
       aL ((((decide (r1<0))&&(!Cp))&&(((ix v_0.L k11).Kind)==5))=true->0<=k11/\k11<v_0.L.length)<|
       if(((decide (r1<0))&&(!Cp))&&(((ix v_0.L k11).Kind)==5))&&(!((Op.bytesLess ((ix v_0.L k11).S).b ey.b)||(((ix v_0.L k11).S).b==ey.b)))then
        aL ((VZ.length+[(aa.mk 5 0 ey ([]:List aa)),x_2].length)*56<=room)<|
        some (VZ++[(aa.mk 5 0 ey ([]:List aa)),x_2],true)
       else
        some (VZ,Cp)) fun((GM,LZ):(List aa)×Bool)=>
      aL (0<=k11/\k11<v_0.L.length)<|
      aL ((GM.length+[ix v_0.L k11].length)*56<=room)<|
      if k11==r1 then
       aL (((GM++[ix v_0.L k11]).length+[x_2].length)*56<=room)<|
       some ((GM++[ix v_0.L k11])++[x_2],LZ)
      else
       if decide (aw (k11+1)<(v_0.L.length:Int))then
        aL (0<=aw (k11+1)/\aw (k11+1)<v_0.L.length)<|
        aL (((GM++[ix v_0.L k11]).length+[ix v_0.L (aw (k11+1))].length)*56<=room)<|
        some ((GM++[ix v_0.L k11])++[ix v_0.L (aw (k11+1))],LZ)
       else
        some (GM++[ix v_0.L k11],LZ)) fun((rX,Y4):(List aa)×Bool)=>
     some (.inl (rX,Y4,aw (k11+2)))
    else
     some (.inr (VZ,Cp))) (([]:List aa),false,0)) fun((Fm,adC):(List aa)×Bool)=>
  jn (
   if(decide (r1<0))&&(!adC)then
    aL ((Fm.length+[(aa.mk 5 0 ey ([]:List aa)),x_2].length)*56<=room)<|
    some (Fm++[(aa.mk 5 0 ey ([]:List aa)),x_2])
   else
    some Fm) fun(ae5:(List aa))=>
  some (aa.mk v_0.Kind v_0.N v_0.S ae5)
end Go.AB
end
section
namespace Go.AB
open Go
theorem gD{S O:Type}{body:S->Option (S⊕O)}{s0:S}{o:O}(n:Nat)(st:Nat->S)(h0:st 0=s0)(hn:n<18446744073709551615)(hs:∀k,k<n->body (st k)=some (.inl (st (k+1))))(he:body (st n)=some (.inr o)):iter body s0=some o:=by
 have key:∀j,j<=n->∀m,bV body (m+1+j) (st (n -j))=some o:=by
  intro j
  induction j with
  |zero=>
   intro _ m
   show bV body (m+1) (st n)=some o
   unfold bV
   rw[he]
  |succ j ih=>
   intro hj m
   show bV body (m+1+j+1) (st (n -(j+1)))=some o
   unfold bV
   rw[hs _ (by omega),show n -(j+1)+1=n -j by omega]
   exact ih (by omega) m
 have:=key n (Nat.le_refl n) (18446744073709551616 -1 -n)
 rw[Nat.sub_self,h0,show 18446744073709551616 -1 -n+1+n=18446744073709551616 by omega]at this
 exact this
theorem Ds{A O:Type}{body:A×Int->Option ((A×Int)⊕O)}{a0:A}{o:O}(n:Nat)(acc:Nat->A)(h0:acc 0=a0)(hn:n<4611686018427387904)(hs:∀k,k<n->body (acc k,(k:Int))=some (.inl (acc (k+1),aw ((k:Int)+1))))(he:body (acc n,(n:Int))=some (.inr o)):iter body (a0,0)=some o:=
 gD n (fun k=>(acc k,(k:Int))) (by rw[h0];rfl) (by omega) (fun k hk=>by rw[hs k hk,ar (by omega) (by omega)];rfl) he
theorem Kx{O:Type}{body:Int->Option (Int⊕O)}{o:O}(n:Nat)(hn:n<4611686018427387904)(hs:∀k,k<n->body (k:Int)=some (.inl (aw ((k:Int)+1))))(he:body (n:Int)=some (.inr o)):iter body 0=some o:=
 gD n (fun k=>(k:Int)) rfl (by omega) (fun k hk=>by rw[hs k hk,ar (by omega) (by omega)];rfl) he
theorem dI{α β:Type}{o:Option α}{a:α}{K:α->Option β}{r:Option β}(h:o=some a)(k:K a=r):jn o K=r:=by rw[h];exact k
theorem aj{α β:Type}{o:Option α}{a:α}{K:α->Option β}{r:Option β}(h:o=some a)(k:K a=r):aP o K=r:=by rw[h];exact k
theorem di{X Y α:Type}{o:Option (X⊕Y)}{z:X⊕Y}{F:X->Option α}{G:Y->Option α}{r:Option α}(h:o=some z)(k:(match z with|.inl a=>F a|.inr b=>G b)=r):uY o F G=r:=by
 rw[h]
 cases z<;>exact k
theorem uP{X Y α:Type}{o:Option (X⊕Y)}{z:X⊕Y}{F:X->Option α}{G:Y->Option α}{r:Option α}(h:o=some z)(k:(match z with|.inl a=>F a|.inr b=>G b)=r):m5 o F G=r:=by
 rw[h]
 cases z<;>exact k
theorem ay{α:Type}{c:Prop}[Decidable c]{o r:Option α}(h:c)(k:o=r):aL c o=r:=by rw[bB h];exact k
theorem aN{α:Type}{c:Prop}[Decidable c]{a b r:α}(h:c)(k:a=r):(if c then a else b)=r:=by rw[if_pos h];exact k
theorem an{α:Type}{c:Prop}[Decidable c]{a b r:α}(h:¬c)(k:b=r):(if c then a else b)=r:=by rw[if_neg h];exact k
inductive Bc{S O:Type}(body:S->Option (S⊕O)):Nat->S->O->Prop
 |stop {m:Nat} {s:S} {o:O} (h:body s=some (.inr o)):Bc body (m+1) s o
 |step {m:Nat} {s t:S} {o:O} (h:body s=some (.inl t)) (k:Bc body m t o):Bc body (m+1) s o
theorem Bc.bV{S O:Type}{body:S->Option (S⊕O)}{m:Nat}{s:S}{o:O}(h:Bc body m s o):∀n,m<=n->bV body n s=some o:=by
 induction h with
 |stop h=>
  intro n hn
  obtain⟨k,rfl⟩:∃k,n=k+1:=⟨n -1,by omega⟩
  unfold AB.bV;rw[h]
 |step h _ ih=>
  intro n hn
  obtain⟨k,rfl⟩:∃k,n=k+1:=⟨n -1,by omega⟩
  unfold AB.bV;rw[h]
  exact ih k (by omega)
theorem Bc.iter{S O:Type}{body:S->Option (S⊕O)}{m:Nat}{s:S}{o:O}(h:Bc body m s o)(hm:m<=18446744073709551616):iter body s=some o:=h.bV _ hm
theorem eV{P:Program}{live:List (Nat×Bool)}{b:IC}{Q:Exit->St->Prop}{E:St}(n:Nat)(R:Nat->St->Prop)(hn:n<4611686018427387904)(h0:R 0 (E.ed live))
 (h1:∀k,k<n->∀(J:St->Prop)(τ:St),R k τ->(∀U',R (k+1) U'->J U')->fK P b (oJ live J Q) τ)(h2:∀(J:St->Prop)(τ:St),R n τ->fK P b (oJ live J Q) τ):fK P (.loop live b) Q E:=by
 refine Dt (body:=fun k:Nat=>if k<n then some (.inl (k+1))else some (.inr ())) (s0:=0) (kf:=fun _=>True) (fun k τ=>k<=n/\R k τ) ⟨Nat.zero_le _,h0⟩ ?_ ⟨(),gD n (fun k=>k) rfl (by omega) (fun k hk=>if_pos hk) (if_neg (Nat.lt_irrefl _)),trivial⟩
 rintro J k τ ⟨hk,hR⟩ hb
 by_cases hlt:k<n
 ·rw[if_pos hlt,ba]at hb
  exact h1 k hlt J τ hR fun U' h'=>hb U' ⟨hlt,h'⟩
 ·obtain rfl:k=n:=by omega
  exact h2 J τ hR
theorem afN{α:Type}[bp α](l:List α)(sp:List AV){n:Nat}(hn:n=bp.w α){j:Int}(h0:0<=j)(h:j<l.length):j.toNat*n+n<=(flat l++sp).length/\views (AB.sub (flat l++sp) (j.toNat*n) n)=bp.cells (ix l j):=by
 subst hn
 have hj:j.toNat<l.length:=by omega
 have hs:=nk l sp (bp.w α) j.toNat 1 rfl (by omega)
 refine⟨?_,?_⟩
 ·rw[List.length_append,aR]
  have:(j.toNat+1)*bp.w α<=l.length*bp.w α:=Nat.mul_le_mul_right _ (by omega)
  rw[Nat.add_mul,Nat.one_mul]at this
  omega
 ·rw[Nat.one_mul]at hs
  rw[hs,List.drop_eq_getElem_cons hj]
  have:ix l j=l[j.toNat]:=by unfold ix;simp[hj]
  rw[this]
  show views (flat [l[j.toNat]])=_
  rw[bd]
  unfold flat
  simp
theorem aiR{α:Type}[bp α](l:List α)(sp:List AV){n:Nat}(hn:n=bp.w α)(x:α){j:Int}(h0:0<=j)(h:j<l.length):setAt (flat l++sp) (j.toNat*n) (bp.cells x)=flat (l.set j.toNat x)++sp:=by
 have hj:j.toNat<l.length:=by omega
 have hs:=ve l [x] sp n j.toNat hn (by simp;omega)
 have e:flat [x]=bp.cells x:=by unfold flat;simp
 rw[e]at hs
 rw[hs,List.set_eq_take_append_cons_drop,if_pos hj]
 simp
theorem GZ{α:Type}[bp α](l:List α){n:Nat}(hn:n=bp.w α){j:Int}(h0:0<=j)(h:j<l.length):j.toNat*n+n<=(flat l).length/\views (AB.sub (flat l) (j.toNat*n) n)=bp.cells (ix l j):=by
 have:=afN l [] hn h0 h
 rwa[List.append_nil]at this
theorem Lj{α:Type}[bp α](l:List α){n:Nat}(hn:n=bp.w α)(x:α){j:Int}(h0:0<=j)(h:j<l.length):setAt (flat l) (j.toNat*n) (bp.cells x)=flat (l.set j.toNat x):=by
 have:=aiR l [] hn x h0 h
 rwa[List.append_nil,List.append_nil]at this
@[go_sem]theorem af4(x:UInt32)(c:Int)(h:(0<=c)=True):((dw (Int.tmod (x.toNat:Int) c)).toNat:Int)=Int.tmod (x.toNat:Int) c:=by
  have hx:=x.toNat_lt
  obtain⟨n,rfl⟩:=Int.eq_ofNat_of_zero_le (of_eq_true h)
  have e:Int.tmod (x.toNat:Int) (n:Int)=((x.toNat % n:Nat):Int):=by rw[Int.tmod_eq_emod_of_nonneg (by omega)];rfl
  have hle:=Nat.mod_le x.toNat n
  rw[e]
  unfold dw
  rw[Ez _ _ rfl]
  have:(2^IntKind.u32.bits:Int)=4294967296:=by decide
  rw[this,UInt32.toNat_ofNat']
  omega
@[go_sem]theorem agQ(l:List UInt8):pad [.int .u8 0] (views (AB.sub (flat l) 1 1))=[.int .u8 (ix l 1).toNat]:=Sy l 1
@[go_sem]theorem adf(s:ae)(C:AV->ae->Prop)(b off:Nat):nC s C (.ref b off)=uR b off s C (s b):=rfl
@[go_sem]theorem abF(s:ae)(C:AV->ae->Prop)(b off:Nat)(cs:List AV):uR b off s C (some (.cells cs))=j9 off cs fun cs' a=>C a (s.set b (.cells cs')):=rfl
end Go.AB
end
