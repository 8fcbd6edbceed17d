/- A part. -/
import Derived.Test.YtgecakgfnjkkbaaGreatFt15
set_option linter.unusedSimpArgs false
set_option linter.unusedVariables false
section
set_option maxRecDepth 16000
namespace Go.AB
open Go
open Go.Proofs.Tryz (prog)
attribute[-go_sem] cy cU bQ cw
def kV(t_0:aF)(c_1:bk):Option (Bool):=some ((t_0.Kind==6)&&(t_0.S.b==c_1.b))
theorem zY{t_0 c_1}{B1:Nat}{s:ae}{Q:List AV->ae->Prop}(hB1:s B1=some (.cells [.str c_1.b])):ok (kV t_0 c_1) (fun r=>Q [.bool r] s)->FN prog 166 [.agg [.int .i64 t_0.Kind,.int .i64 t_0.aR,.int .i64 t_0.To,.int .i64 t_0.V.Kind,.int .i64 t_0.V.N,.str t_0.V.S.b,sF 4 t_0.V.L,.str t_0.S.b],.ref B1 0] s Q:=by
 rw[<-bj hB1]
 exact FC 13 [⟨3,true,none⟩] 0x2ecd26ff768054815cabcba2ff5bf3d10a3cde1e4a960c9632d28a8b77995684e99818b kV.eq_1
theorem zX{t_0 c_1}{B1:Nat}{s:ae}{r:Bool}(hB1:s B1=some (.cells [.str c_1.b]))(h:kV t_0 c_1=some r):FE prog 166 [.agg [.int .i64 t_0.Kind,.int .i64 t_0.aR,.int .i64 t_0.To,.int .i64 t_0.V.Kind,.int .i64 t_0.V.N,.str t_0.V.S.b,sF 4 t_0.V.L,.str t_0.S.b],.ref B1 0] s [.bool r] s:=zY hB1 ⟨r,h,rfl,rfl⟩
def lD(b_0:(List UInt8))(ff:Int)(cG:Bool)(HL:bk):Option (aF×Int):=
 bn (dI b_0 ff cG) fun r1=>
 if r1.2 !=0 then
  some ((aF.mk 0 0 0 (ab.mk 0 0 (bk.mk []) ([]:List ab)) (bk.mk [])),r1.2)
 else
  if r1.1.Kind==0 then
   some ((aF.mk 0 0 0 (ab.mk 0 0 (bk.mk []) ([]:List ab)) (bk.mk [])),10)
  else
   bn (kV r1.1 HL) fun r2=>
   if !r2 then
    some ((aF.mk 0 0 0 (ab.mk 0 0 (bk.mk []) ([]:List ab)) (bk.mk [])),11)
   else
    some (r1.1,0)
theorem Iu:(tJ prog 166=true)=True:=eq_true (by kernel_rfl)
theorem Dz{b_0 ff cG HL}{B3_0:Nat}{s:ae}{Q:List AV->ae->Prop}(Qz:s B3_0=some (.cells [.str HL.b])):ok (lD b_0 ff cG HL) (fun r=>Q [.agg [.int .i64 r.1.Kind,.int .i64 r.1.aR,.int .i64 r.1.To,.int .i64 r.1.V.Kind,.int .i64 r.1.V.N,.str r.1.V.S.b,sF 4 r.1.V.L,.str r.1.S.b],.int .i64 r.2] s)->FN prog 154 [sF 1 b_0,.int .i64 ff,.bool cG,.fn 166 [] [.ref B3_0 0]] s Q:=by
 rw[<-bj Qz]
 refine FR 36 [⟨8,false,some (8,true)⟩,⟨9,true,none⟩] 0x189baaf8529fb4d0d513815ca768b22bb4f3004b91d9f2f1a4da7c20dc02485794135ffeecb4a2dea76ddc27cdf8719cad38436c99004171e3019e4a7a7dffa1eec4d5e5fa34857d6f8b23bcdb896dfa63bc9992c8888ae740cf1bff7983d8c051b721c27cb1424ccf66576dd2713cad3885e89e839c838b37194608cbb41349097d419471e6273e7015d4d4465c37d43427e56d000cc6ea4eb0bc401a6b35328575adcea831bebca21d9773d003defd1eb37e000000010cabcb lD.eq_1 ?_
 repeat'(first
  |(with_reducible first|exact dQ|refine cI ?_ ?_|refine er ?_|refine aQ (fun _(h:dI b_0 ff cG=some _)=>(kc ke h:)) (fun r1=>?_)|refine aQ (fun _(h:kV r1.1 HL=some _)=>zX (B1:=B3_0) (by simp -implicitDefEqProofs only[go_sem,seval,Iu]<;>simp only[an]) h) (fun r2=>?_))
  |simp -implicitDefEqProofs only[go_sem,seval,Iu])
theorem Dy{b_0 ff cG HL}{B3_0:Nat}{s:ae}{r:aF×Int}(Qz:s B3_0=some (.cells [.str HL.b]))(h:lD b_0 ff cG HL=some r):FE prog 154 [sF 1 b_0,.int .i64 ff,.bool cG,.fn 166 [] [.ref B3_0 0]] s [.agg [.int .i64 r.1.Kind,.int .i64 r.1.aR,.int .i64 r.1.To,.int .i64 r.1.V.Kind,.int .i64 r.1.V.N,.str r.1.V.S.b,sF 4 r.1.V.L,.str r.1.S.b],.int .i64 r.2] s:=Dz Qz ⟨r,h,rfl,rfl⟩
def lC(b_0:(List UInt8))(ff:Int)(cG:Bool)(Cu:bk):Option (Int×Int):=
 bn (lD b_0 ff cG Cu) fun r1=>
 some (r1.1.To,r1.2)
theorem Dx{b_0 ff cG Cu}:FF 131 [sF 1 b_0,.int .i64 ff,.bool cG,.str Cu.b] (lC b_0 ff cG Cu) fun r=>[.int .i64 r.1,.int .i64 r.2]:=by
 intro s Q
 intro h
 refine FN.forget ?_
 refine FP 23 [⟨8,true,none⟩,⟨9,true,none⟩] (dec 0x6ca41d382e9dec24d71c318871f71949092f3245660f54592fefb3aeab3886a80397f1f77361ebaa6050164a46fc1df7d8a3ba4abe04a9e3093042e96005b200cd8cd39bc) (by kernel_rfl) rfl ?_
 revert h
 rw[lC]
 conv in dec _=>reduce
 repeat'(first
  |with_reducible refine aQ (fun _(h:lD b_0 ff cG Cu=some _)=>Dy (B3_0:=N1) (by simp -implicitDefEqProofs only[go_sem,seval]<;>simp only[an]) h) (fun r1=>?_)
  |((fail_if_success (have _x:=sN1));with_reducible intro hh N1 hN1;(try simp only[eT]at hN1);have sN1:=hN1;revert hh)
  |with_reducible exact fun hh=>⟨_,uO.set (uO.refl _) (by simp[ae.set,sN1]),hh⟩
  |simp -implicitDefEqProofs only[go_sem,seval])
def mO(t_0:aF):Option (Bool):=some ((t_0.Kind==1)&&(t_0.V.Kind==2))
theorem zZ{t_0}:FF 155 [.agg [.int .i64 t_0.Kind,.int .i64 t_0.aR,.int .i64 t_0.To,.int .i64 t_0.V.Kind,.int .i64 t_0.V.N,.str t_0.V.S.b,sF 4 t_0.V.L,.str t_0.S.b]] (mO t_0) fun r=>[.bool r]:=by
 intro s Q
 exact FC 12 [⟨2,true,none⟩] 0x16f1440b844ae3ea6d1cde8652f01354bd3b953622ebee9632d28a8b77e3684e9995b mO.eq_1
def lZ(b_0:(List UInt8))(ff:Int)(cG:Bool):Option (aF×Int):=
 bn (dI b_0 ff cG) fun r1=>
 if r1.2 !=0 then
  some ((aF.mk 0 0 0 (ab.mk 0 0 (bk.mk []) ([]:List ab)) (bk.mk [])),r1.2)
 else
  if r1.1.Kind==0 then
   some ((aF.mk 0 0 0 (ab.mk 0 0 (bk.mk []) ([]:List ab)) (bk.mk [])),10)
  else
   bn (mO r1.1) fun r2=>
   if !r2 then
    some ((aF.mk 0 0 0 (ab.mk 0 0 (bk.mk []) ([]:List ab)) (bk.mk [])),11)
   else
    some (r1.1,0)
theorem Qs:(tJ prog 155=true)=True:=eq_true (by kernel_rfl)
theorem BQ{b_0 ff cG}:FF 154 [sF 1 b_0,.int .i64 ff,.bool cG,.fn 155 [] []] (lZ b_0 ff cG) fun r=>[.agg [.int .i64 r.1.Kind,.int .i64 r.1.aR,.int .i64 r.1.To,.int .i64 r.1.V.Kind,.int .i64 r.1.V.N,.str r.1.V.S.b,sF 4 r.1.V.L,.str r.1.S.b],.int .i64 r.2]:=by
 intro s Q
 refine FR 36 [⟨8,false,some (8,true)⟩,⟨9,true,none⟩] 0x189baaf8529fb4d0d513815ca768b22bb4f3004b91d9f2f1a4da7c20dc02485794135ffeecb4a2dea76ddc27cdf8719cad38436c99004171e3019e4a7a7dffa1eec4d5e5fa34857d6f8b23bcdb896dfa63bc9992c8888ae740cf1bff7983d8c051b721c27cb1424ccf66576dd2713cad3885e89e839c838b37194608cbb41349097d419471e6273e7015d4d4465c37d43427e56d000cc6ea4eb0bc401a6b35328575adcea831bebca21d9773d003defd1eb37e000000010cabcb lZ.eq_1 ?_
 repeat'(first
  |(with_reducible first|exact dQ|refine cI ?_ ?_|refine er ?_|refine aQ (fun _(h:dI b_0 ff cG=some _)=>(kc ke h:)) (fun r1=>?_)|refine aQ (fun _(h:mO r1.1=some _)=>(kc zZ h:)) (fun r2=>?_))
  |simp -implicitDefEqProofs only[go_sem,seval,Qs])
def iu(b_0:(List UInt8))(ff:Int)(cG:Bool):Option (Int×Int×Int):=
 bn (lZ b_0 ff cG) fun r1=>
 some (r1.1.V.N,r1.1.To,r1.2)
theorem zW{b_0 ff cG}:FF 119 [sF 1 b_0,.int .i64 ff,.bool cG] (iu b_0 ff cG) fun r=>[.int .i64 r.1,.int .i64 r.2.1,.int .i64 r.2.2]:=by
 intro s Q
 refine FR 24 [⟨6,true,none⟩,⟨7,true,none⟩,⟨8,true,none⟩] 0x1c66df5ea4d93d50f46beaa86cce5c95bd98c4f9fb46123ae1fb0b614007d3412cbaf76a53be4e3bd82380132835406a4250c292b14d5c6b7769aef7c13e254aff7889528402d9003cc00c15c iu.eq_1 ?_
 repeat'(first
  |with_reducible refine aQ (fun _(h:lZ b_0 ff cG=some _)=>(kc BQ h:)) (fun r1=>?_)
  |simp -implicitDefEqProofs only[go_sem,seval])
end Go.AB
end
section
set_option maxRecDepth 16000
namespace Go.AB
open Go
open Go.Proofs.Tryz (prog)
attribute[local irreducible] fD
attribute[-go_sem] Nat.add_zero mI cE
theorem HZ{b cap i j:Nat}{l:List ab}{sp:List AV}{s:ae}{Q:List AV->ae->Prop}(hs:s b=some (.cells (flat l++sp)))(hl:(flat l++sp).length=cap*4)(hn:l.length<=cap)(hij:i<j)(hj:j<=l.length)(agE:(l.length:Int)<=9223372036854775807)
 (hq:Q [.arr b 0 (l.length -(j -i)) cap] (s.set b (.cells (flat (l.take i++l.drop j)++(flat (List.replicate (j -i) (⟨0,0,⟨[]⟩,[]⟩:ab))++sp))))):
 FN prog 113 [.arr b 0 l.length cap,.int .i64 i,.int .i64 j] s Q:=by
 refine FS 33 [⟨6,true,none⟩] 0xcfb46a1005abcb8e750fe31bd48ae512a991fbbf877c0e883a8d28bef5e15aa8fbcf6c48ae43192384804b7949dd07b1f4ac4bfe3ea45c1f29853402bc4c8db2879ac965c9f7095645fb46854f2d6c53241c913428730b24fc8103031c0f54de1f07602c8f76d349af34c0ba ?_
 simp -implicitDefEqProofs only[go_sem,seval,hs]
 refine⟨by omega,fun h=>by have:=eq_of_beq h;omega,fun _=>⟨by omega,by omega,?_⟩⟩
 have dS:tV s 4 (.arr b (iT 0 cap j 4) (l.length -j) (cap -j))=some (l.length -j,flat (l.drop j)):=by
  by_cases hjn:j=l.length
  ·subst hjn
   rw[Nat.sub_self,O4,List.drop_length];rfl
  ·rw[xN (by omega),Nat.zero_add,JK hs (by rw[hl,<-Nat.add_mul];exact Nat.mul_le_mul_right _ (by omega)),lL l sp 4 j _ rfl (by omega),aN,List.take_of_length_le (by simp)]
 rw[dS]
 refine nZ rfl hs (by rw[hl];omega) (by omega) ?_
 have dZ:=mP l (l.drop j) sp 4 i rfl (by simp;omega)
 rw[Nat.zero_add,dZ]
 generalize hl1:l.take i++l.drop j++l.drop (i+(l.drop j).length)=l1
 have ac2:l1.length=l.length:=by subst hl1;simp;omega
 have hz:(List.replicate (j -i) [.int .i64 0,.int .i64 0,.str [],.sl false 4 0 []]).flatten=flat (List.replicate (j -i) (⟨0,0,⟨[]⟩,[]⟩:ab)):=by rw[fX];rfl
 have hsp:(flat l1++sp).length=cap*4:=by rw[<-hl,List.length_append,List.length_append,aA,aA,ac2]
 have e1:i+(l.length -j)<cap:=by omega
 have QV:=mP l1 (List.replicate (j -i) (⟨0,0,⟨[]⟩,[]⟩:ab)) sp 4 (i+(l.length -j)) rfl (by simp;omega)
 have e2:l1.take (i+(l.length -j))=l.take i++l.drop j:=by
  subst hl1
  rw[List.take_append_of_le_length (by simp;omega),List.take_of_length_le (by simp;omega)]
 have e3:l1.drop (i+(l.length -j)+(List.replicate (j -i) (⟨0,0,⟨[]⟩,[]⟩:ab)).length)=[]:=by rw[List.drop_eq_nil_iff];simp;omega
 rw[e2,e3,List.append_nil]at QV
 generalize hl2:l.take i++l.drop j=l2 at QV hq
 simp -implicitDefEqProofs only[go_sem,seval]
 refine⟨by omega,?_⟩
 rw[xN e1]
 refine AU (cap:=cap -(i+(l.length -j))) rfl bD (by
  rw[hsp]
  show 0+(i+(l.length -j))*4+(l.length -(i+(l.length -j)))*4<=cap*4
  omega) ?_
 rw[show l.length -(i+(l.length -j))=j -i by omega,Nat.zero_add,hz,QV]
 simp -implicitDefEqProofs only[go_sem,seval]
 rw[show i+(l.length -j)=l.length -(j -i) by omega,List.append_assoc]
 exact hq
def El:IC:=dec 0x29333185ffdb805e4cf1a0b408b3b69aeec19b4c1f8d7c56c7cd23b460c898342c022b5b4473a
theorem On:eH prog 107 8 [⟨2,true,none⟩] El=true:=by kernel_rfl
def Fx(l:List ab)(s:ae)(rs:List AV)(s':ae):Prop:=(∃b cap sp,rs=[.arr b 0 l.length cap]/\s b=none/\0<cap/\l.length<=cap/\(flat l++sp).length=cap*4/\views (flat l++sp)=flat l++sp/\s'=s.set b (.cells (flat l++sp)))\/(l=[]/\s'=s/\∃b,rs=[.arr b 0 0 0])
theorem Kl{o:Bool}{l:List ab}{s:ae}(hr:l.length*56<=room):FN prog 107 [.sl o 4 l.length (flat l)] s (Fx l s):=by
 refine FN.ji (FO On rfl rfl ?_)
 generalize hQ:(fun rs s'=>∃s2,Sub s2 s'/\Fx l s rs s2)=Q
 have hq:∀rs s' s2,Sub s2 s'->Fx l s rs s2->Q rs s':=fun rs s' s2 h1 h2=>by rw[<-hQ];exact⟨s2,h1,h2⟩
 rw[El]
 conv in dec _=>reduce
 simp -implicitDefEqProofs only[go_sem,seval]
 intro v hv
 refine⟨fun h=>hq _ _ s (Sub.refl s) (.inr ⟨List.eq_nil_of_length_eq_zero (hv (by simpa using h)),rfl,0,rfl⟩),fun _ b1 hb1=>?_⟩
 rw[js,aN]
 by_cases hl:l=[]
 ·subst hl
  refine lI rfl rfl (Nat.le_refl 0) ?_
  simp -implicitDefEqProofs only[go_sem,seval]
  exact hq _ _ s ((Sub.refl s).set hb1) (.inr ⟨rfl,rfl,_,rfl⟩)
 ·have hn:0<l.length:=List.length_pos_iff.2 hl
  refine eD rfl rfl (by omega) (by rw[Nat.zero_add];exact hr) fun b2 cap hb2 fh=>?_
  rw[Nat.zero_add]at fh
  have hz:(List.replicate (cap -(0+l.length)) [.int .i64 0,.int .i64 0,.str [],.sl false 4 0 []]).flatten=flat (List.replicate (cap -l.length) (⟨0,0,⟨[]⟩,[]⟩:ab)):=by rw[fX,Nat.zero_add];rfl
  rw[hz]
  simp -implicitDefEqProofs only[go_sem,seval,Nat.zero_add,List.nil_append]
  have KH:s b2=none:=((Sub.refl s).set hb1).none hb2
  refine hq _ _ _ (Sub.DG ((Sub.refl s).set hb1)) (.inl ⟨b2,cap,_,rfl,KH,by omega,fh,?_,?_,rfl⟩)
  ·rw[List.length_append,aA,aA,List.length_replicate]
   show l.length*4+(cap -l.length)*4=cap*4
   omega
  ·rw[k7,aN,aN]
theorem NV{o:Bool}{l:List ab}{s:ae}(hr:l.length*56<=room):FE prog 107 [.sl o 4 l.length (flat l)] s [.us 4 l.length (flat l)] s:=
 FN.Sx (aA l) ⟨rfl,rfl⟩ ((Kl hr).mono fun rs s' h=>by
  rcases h with⟨b,cap,sp,h1,h2,h3,h4,h5,h6,h7⟩|⟨h1,h2,h3⟩
  ·exact .inl ⟨b,cap,sp,h1,by rw[h7];exact bD,h3,h4,h5,h6,by rw[h7,mE h2];exact Sub.refl s⟩
  ·subst h1;exact .inr ⟨rfl,rfl,by rw[h2];exact Sub.refl s,h3⟩)
end Go.AB
end
section
namespace Go.AB
open Go
end Go.AB
end
section
set_option maxRecDepth 16000
namespace Go.AB
open Go
open Go.Proofs.Tryz (prog)
attribute[-go_sem] Nat.add_zero mI cE
def jh(v_0:ab)(lU:bk):Option (Int):=
 if v_0.Kind !=7 then
  some (-1)
 else
  Dt (
   rA (
    iter (fun(i2:Int)=>
     if decide (i2<(v_0.L.length:Int))then
      bt (0<=i2/\i2<v_0.L.length)<|
      bt ((((ix v_0.L i2).Kind)==5)=true->0<=i2/\i2<v_0.L.length)<|
      if(((ix v_0.L i2).Kind)==5)&&(((ix v_0.L i2).S).b==lU.b)then
       some (.inr (.inr i2))
      else
       some (.inl (aC (i2+2)))
     else
      some (.inr (.inl ()))) 0) (fun(_:Unit)=>
    some (.inl ()))
   (fun(t3:Int)=>some (.inr t3))) (fun(_:Unit)=>
   some (-1))
  (fun(t1:Int)=>some t1)
theorem DP{v_0 lU}:FF 81 [.agg [.int .i64 v_0.Kind,.int .i64 v_0.N,.str v_0.S.b,.sl false 4 v_0.L.length (flat v_0.L)],.str lU.b] (jh v_0 lU) fun r=>[.int .i64 r]:=by
 intro s Q
 refine FR 34 [⟨4,true,none⟩] 0x5d3ae0e90ac7bda64a3995d5c32d55c11fa1fdd8296414842d35b58def8678a24feb77046130580228d84e40167e32ce0efda3348733eaccebc9101728a9c83ad3a3b11871e837728bef8169f43cce9e4c2ff739cf92af3d5af316b3089a3253d0c9af6f968636ac2eb2e6bc114c3fa25282279909702d5e50e513e8c5952f7c979c61988400c60839818b jh.eq_1 ?_
 repeat'(first
  |(with_reducible first|exact dQ|refine cI ?_ ?_|refine er ?_)
  |((with_reducible refine ed (fun(i2:Int)=>⟨[(1,.str lU.b),(2,.loc [.int .i64 v_0.Kind,.int .i64 v_0.N,.str v_0.S.b,.sl false 4 v_0.L.length (flat v_0.L)]),(5,.int .i64 i2)],[],s⟩) ?_ ?_);(first|exact rfl|simp -implicitDefEqProofs only[go_sem,seval]);rintro J i2)
  |((with_reducible refine fF (fun(_:Unit)=>⟨[],[],s⟩) (fun J=>?_) ?_);rotate_left;rintro _)
  |simp -implicitDefEqProofs only[go_sem,seval])
theorem uJ{v_0 lU}{s:ae}{r:Int}(h:jh v_0 lU=some r):FE prog 81 [.agg [.int .i64 v_0.Kind,.int .i64 v_0.N,.str v_0.S.b,.sl false 4 v_0.L.length (flat v_0.L)],.str lU.b] s [.int .i64 r] s:=DP ⟨r,h,rfl,rfl⟩
theorem FN.args{P:Program}{f:FuncId}{args DU:List AV}{s:ae}{Q:List AV->ae->Prop}(h:FN P f DU s Q)(ha:∀(G:Gh)(w:World)(vs:Array Value),a8 G w s->mn w G.R args vs->mn w G.R DU vs):FN P f args s Q:=fun G w vs h1 h2 h3 h4=>h G w vs h1 h2 h3 (ha G w vs h3 h4)
def gz(v:ab)(key:bk):Option ab:=
 bn (jh v key) fun i=>
 if decide (i<0)then some v else
 bt (0<=i/\i<v.L.length/\v.L.length*56<=room)<|
 some ⟨v.Kind,v.N,v.S,v.L.take i.toNat++v.L.drop (min (i.toNat+2) v.L.length)⟩
theorem DN{v:ab}{key:bk}{s:ae}{Q:List AV->ae->Prop}(h:ok (gz v key) fun r=>Q [.agg [.int .i64 r.Kind,.int .i64 r.N,.str r.S.b,.sl false 4 r.L.length (flat r.L)]] s):
 FN prog 79 [.agg [.int .i64 v.Kind,.int .i64 v.N,.str v.S.b,.sl false 4 v.L.length (flat v.L)],.str key.b] s Q:=by
 obtain⟨vk,vn,vs,vl⟩:=v
 refine FP 25 [⟨4,false,some (4,true)⟩] (dec 0x2e98214be31f12ccc98379a636fd221929f37caacc689996a21b40d8b0f1ea8438c0d2e913dcddf1bc0dbfdcd79c9bc26ac7793ea1cb463190791c2fc536cc5f30fee6bc68bffc6f45add0065e37ae0d3d00dc0b0839818b) (by kernel_rfl) rfl ?_
 unfold gz at h
 rw[j4]at h
 obtain⟨i,hfi,h⟩:=h
 rw[RL,ir,bO,bO]at h
 conv in dec _=>reduce
 simp -implicitDefEqProofs only[go_sem,seval]
 refine FE.app (uJ hfi) ?_
 simp -implicitDefEqProofs only[go_sem,seval]
 refine⟨fun hi=>h.1 hi,fun hi=>?_⟩
 obtain⟨⟨h1,h2,h3⟩,hq⟩:=h.2 hi
 obtain⟨j,rfl⟩:∃j:Nat,i=(j:Int):=⟨i.toNat,by omega⟩
 replace h2:j<vl.length:=by have:(j:Int)<vl.length:=h2;omega
 replace h3:vl.length*56<=room:=h3
 replace hq:Q [.agg [.int .i64 vk,.int .i64 vn,.str vs.b,.sl false 4 (vl.take j++vl.drop (min (j+2) vl.length)).length (flat (vl.take j++vl.drop (min (j+2) vl.length)))]] s:=hq
 have hw2:aC ((j:Int)+2)=((j+2:Nat):Int):=by unfold room at h3;rw[ar (by omega) (by omega)];omega
 refine⟨_,rfl,NV h3,?_⟩
 simp -implicitDefEqProofs only[go_sem,seval,hw2]
 refine⟨fun b cap sp hb h0 hn hl hfl hvw=>?_,fun h0=>by omega⟩
 simp -implicitDefEqProofs only[go_sem,seval]
 generalize hm:min (j+2) vl.length=m at hq
 rw[show min ((j+2:Nat):Int) (vl.length:Int)=(m:Int) by omega]
 have el:(vl.take j++vl.drop m).length=vl.length -(m -j):=by simp only[List.length_append,List.length_take,List.length_drop];omega
 rw[el]at hq
 refine FN.GU (n:=vl.length -(m -j)) (cs:=flat (vl.take j++vl.drop m)) (s2:=s) (sz:=4) (by rw[aA,el];rfl) (aN _) ?_ (HZ bD hl hn (by omega) (by omega) (by unfold room at h3;omega) ?_)
 ·generalize vl.take j++vl.drop m=L at hq
  simp -implicitDefEqProofs only[go_sem,seval]
  exact hq
 ·refine .inl ⟨b,cap,_,rfl,bD,h0,by omega,?_,?_⟩
  ·have hl':=hl
   rw[List.length_append,aA]at hl'
   rw[List.length_append,List.length_append,aA,aA,el,List.length_replicate]
   have hw:aP.w ab=4:=rfl
   rw[hw]at hl'⊢
   omega
  ·rw[set_set,mE hb];exact Sub.refl s
theorem uI{v_0:ab}{lU:bk}{s:ae}{r:ab}(h:gz v_0 lU=some r):FE prog 79 [.agg [.int .i64 v_0.Kind,.int .i64 v_0.N,.str v_0.S.b,.sl false 4 v_0.L.length (flat v_0.L)],.str lU.b] s [.agg [.int .i64 r.Kind,.int .i64 r.N,.str r.S.b,.sl false 4 r.L.length (flat r.L)]] s:=DN ⟨r,h,rfl,rfl⟩
end Go.AB
end
section
namespace Go.AB
open Go
@[go_sem]theorem afA(l:List UInt8):pad [.int .u8 0] (views (AB.sub (flat l) 0 1))=[.int .u8 (ix l 0).toNat]:=RX l 0
end Go.AB
end
section
set_option maxRecDepth 16000
namespace Go.AB
open Go
open Go.Proofs.Tryz (prog)
attribute[-go_sem] Nat.add_zero mI cE
def jt(v_0:ab)(lU:bk):Option (ab×Bool):=
 bn (jh v_0 lU) fun r1=>
 if decide (r1<0)then
  some ((ab.mk 0 0 (bk.mk []) ([]:List ab)),false)
 else
  if(aC (r1+1))==(v_0.L.length:Int)then
   some ((ab.mk 0 0 (bk.mk []) ([]:List ab)),true)
  else
   bt (0<=aC (r1+1)/\aC (r1+1)<v_0.L.length)<|
   some (ix v_0.L (aC (r1+1)),true)
theorem qM{v_0 lU}:FF 53 [oV v_0,.str lU.b] (jt v_0 lU) fun r=>[oV r.1,.bool r.2]:=by
 intro s Q
 refine FR 28 [⟨4,false,some (4,true)⟩,⟨5,true,none⟩] 0x66242f50c88a2a373b4a5e62d4dca1f45b46367f772a00a12f384ed29e464e359227a76ec3ed58a339b349d55df4ae99b14cba318a026bb7ef13e8450f900f3d2d967a18b42b0381aeb5de1ef8662889f0876254fe93780eb3482926366c1913a1f1a98d6fa90c00244a61b14c7758db3ae0d3d00dc0b083981dc jt.eq_1 ?_
 repeat'(first
  |with_reducible refine aQ (fun _(h:jh v_0 lU=some _)=>uJ h) (fun r1=>?_)
  |simp -implicitDefEqProofs only[go_sem,seval])
def ll(v_0:ab)(BC:bk):Option (Bool):=
 bn (jt v_0 BC) fun r1=>
 some r1.2
theorem F8{v_0 BC}:FF 135 [oV v_0,.str BC.b] (ll v_0 BC) fun r=>[.bool r]:=by
 intro s Q
 refine FR 14 [⟨4,true,none⟩] 0x140fb26c6ec835a6dd49ddc84dd72b25b15211226593a0e166ebd38de7841e9a710cfc59956c60839818b ll.eq_1 ?_
 repeat'(first
  |with_reducible refine aQ (fun _(h:jt v_0 BC=some _)=>(kc qM h:)) (fun r1=>?_)
  |simp -implicitDefEqProofs only[go_sem,seval])
structure aL where
 V:ab
 Stream:Bool
 Data:bk
instance:aP aL:=⟨6,fun x=>[.int .i64 x.V.Kind,.int .i64 x.V.N,.str x.V.S.b,sF 4 x.V.L,.bool x.Stream,.str x.Data.b],(aL.mk (ab.mk 0 0 (bk.mk []) []) false (bk.mk [])),by decide,fun _=>rfl,fun _=>rfl⟩
@[go_sem]theorem pg(x:aL):aP.cells x=[.int .i64 x.V.Kind,.int .i64 x.V.N,.str x.V.S.b,sF 4 x.V.L,.bool x.Stream,.str x.Data.b]:=rfl
@[go_sem]abbrev cX5(x:aL):List AV:=[.int .i64 x.V.Kind,.int .i64 x.V.N,.str x.V.S.b,sF 4 x.V.L,.bool x.Stream,.str x.Data.b]
@[go_sem]theorem RV(l:List aL)(i:Int):pad [.int .i64 0,.int .i64 0,.str [],.sl false 4 0 [],.bool false,.str []] (views (AB.sub (flat l) (i.toNat*6) 6))=[.int .i64 (((ix l i).V).Kind),.int .i64 (((ix l i).V).N),.str (((ix l i).V).S).b,.sl false 4 (((ix l i).V).L).length (flat (((ix l i).V).L)),.bool ((ix l i).Stream),.str ((ix l i).Data).b]:=by rw[<-pg];exact rM _ 6 l i (by rw[pg];rfl) rfl
def mG(v_0:ab):Option (aL):=some (aL.mk v_0 false (bk.mk []))
theorem zz{v_0}:FF 102 [oV v_0] (mG v_0) fun r=>[.agg (cX5 r)]:=by
 intro s Q
 exact FC 5 [⟨2,false,some (6,true)⟩] 0x130807c7580b6340430ea3b2b86d5c8fadcf98a18b7ae0d3d0136e803995b mG.eq_1
def mH(v_0:ab)(FG:bk):Option (aL):=some (aL.mk v_0 true FG)
theorem zA{v_0 FG}:FF 139 [oV v_0,.str FG.b] (mH v_0 FG) fun r=>[.agg (cX5 r)]:=by
 intro s Q
 exact FC 8 [⟨4,false,some (6,true)⟩] 0xed80157378fc516dc4792d624afac60a522bf1123a2aa65e538b7ae0d3d01372b0839818b mH.eq_1
end Go.AB
end
section
namespace Go.AB
open Go
@[go_sem]theorem aeR(x:UInt32)(c:Int)(h:(0<=c)=True):((dF (Int.tmod (x.toNat:Int) c)).toNat:Int)=Int.tmod (x.toNat:Int) c:=by
  have hx:=x.toNat_lt
  obtain⟨n,rfl⟩:=Int.eq_ofNat_of_zero_le (of_eq_true h)
  have e:Int.tmod (x.toNat:Int) (n:Int)=((x.toNat % n:Nat):Int):=by rw[Int.tmod_eq_emod_of_nonneg (by omega)];rfl
  have hle:=Nat.mod_le x.toNat n
  rw[e]
  unfold dF
  rw[Cw _ _ rfl]
  have:(2^IntKind.u32.bits:Int)=4294967296:=by decide
  rw[this,UInt32.toNat_ofNat']
  omega
@[go_sem]theorem afB(l:List UInt8):pad [.int .u8 0] (views (AB.sub (flat l) 1 1))=[.int .u8 (ix l 1).toNat]:=RX l 1
@[go_sem]theorem acq(s:ae)(C:AV->ae->Prop)(b off:Nat):nf s C (.ref b off)=sJ b off s C (s b):=rfl
@[go_sem]theorem aaV(s:ae)(C:AV->ae->Prop)(b off:Nat)(cs:List AV):sJ b off s C (some (.cells cs))=jM off cs fun cs' a=>C a (s.set b (.cells cs')):=rfl
end Go.AB
end
section
set_option maxRecDepth 16000
namespace Go.AB
open Go
open Go.Proofs.Tryz (prog)
attribute[-go_sem] cy cU bQ cw
structure ie where
 at_:Int
 rO:Bool
 uA:Bool
 deriving DecidableEq
instance:aP ie:=⟨3,fun x=>[.int .i64 x.at_,.bool x.rO,.bool x.uA],(ie.mk 0 false false),by decide,fun _=>rfl,fun _=>rfl⟩
@[go_sem]abbrev cX7(x:ie):List AV:=[.int .i64 x.at_,.bool x.rO,.bool x.uA]
structure bC where
 az:ie
 b_:(List UInt8)
instance:aP bC:=⟨4,fun x=>[.int .i64 x.az.at_,.bool x.az.rO,.bool x.az.uA,sF 1 x.b_],(bC.mk (ie.mk 0 false false) []),by decide,fun _=>rfl,fun _=>rfl⟩
@[go_sem]abbrev pZ(x:bC):List AV:=[.int .i64 x.az.at_,.bool x.az.rO,.bool x.az.uA,sF 1 x.b_]
def bH(r_0:bC):Option (Bool):=some (false||(!r_0.az.uA))
theorem tF{r_0}{B0:Nat}{s:ae}{Q:List AV->ae->Prop}(hB0:s B0=some (.cells (pZ r_0))):ok (bH r_0) (fun r=>Q [.bool r] s)->FN prog 244 [.ref B0 0] s Q:=by
 rw[<-bj hB0]
 exact FC 13 [⟨2,true,none⟩] 0xf3df6487d5dc8c93cf55f350ccb04fc7097ca603104a85be765d47341f4824473a bH.eq_1
theorem gD{r_0}{B0:Nat}{s:ae}{r:Bool}(hB0:s B0=some (.cells (pZ r_0)))(h:bH r_0=some r):FE prog 244 [.ref B0 0] s [.bool r] s:=tF hB0 ⟨r,h,rfl,rfl⟩
def fx(r_0:bC):Option (Int):=
 bn (bH r_0) fun r1=>
 if r1 then
  some 0
 else
  some (aC ((aC (8*(r_0.b_.length:Int))) -r_0.az.at_))
theorem tE{r_0}{B0:Nat}{s:ae}{Q:List AV->ae->Prop}(hB0:s B0=some (.cells (pZ r_0))):ok (fx r_0) (fun r=>Q [.int .i64 r] s)->FN prog 284 [.ref B0 0] s Q:=by
 rw[<-bj hB0]
 refine FR 17 [⟨2,true,none⟩] 0x22ec2d896e2e8b16e6bc12e3b0688d7aa465ff67b37280bdacc3d60ccfa3d1cbb0be04e2eebb9ed182b3489a40a0227cc00473a fx.eq_1 ?_
 repeat'(first
  |with_reducible refine aQ (fun _(h:bH r_0=some _)=>gD (B0:=B0) (by simp -implicitDefEqProofs only[go_sem,seval]<;>simp only[an]) h) (fun r1=>?_)
  |simp -implicitDefEqProofs only[go_sem,seval])
theorem tD{r_0}{B0:Nat}{s:ae}{r:Int}(hB0:s B0=some (.cells (pZ r_0)))(h:fx r_0=some r):FE prog 284 [.ref B0 0] s [.int .i64 r] s:=tE hB0 ⟨r,h,rfl,rfl⟩
def fO(p_0:ie):Option (UInt8):=
 if p_0.rO then
  bt (0<=aC (oH .i64 p_0.at_ 7))<|
  some (iM (j8 .u8 128 (aC (oH .i64 p_0.at_ 7))))
 else
  bt (0<=aC (oH .i64 p_0.at_ 7))<|
  some (iM (kC .u8 1 (aC (oH .i64 p_0.at_ 7))))
theorem uR{p_0}{B0:Nat}{preB0 postB0:List AV}{oB0:Nat}{s:ae}{Q:List AV->ae->Prop}(hB0:s B0=some (.cells (Wi preB0 (cX7 p_0) postB0)))(eB0:preB0.length=oB0):ok (fO p_0) (fun r=>Q [.int .u8 r.toNat] s)->FN prog 285 [.ref B0 oB0] s Q:=by
 subst eB0
 rw[<-bj hB0]
 exact FC 19 [⟨2,true,none⟩] 0x46f6b8878e16351683b16f559e08b4b41bdc4629cdd2ed8652dc0b70ccefeb7ea2e611bd503505c1ca480cf92c9e410d10a5a1ffcc798473a fO.eq_1
theorem uQ{p_0}{B0:Nat}{preB0 postB0:List AV}{oB0:Nat}{s:ae}{r:UInt8}(hB0:s B0=some (.cells (Wi preB0 (cX7 p_0) postB0)))(eB0:preB0.length=oB0)(h:fO p_0=some r):FE prog 285 [.ref B0 oB0] s [.int .u8 r.toNat] s:=uR hB0 eB0 ⟨r,h,rfl,rfl⟩
def fP(p_0:ie)(k_1:Int)(n_2:Int):Option (Int):=
 if p_0.rO then
  some (aC ((aC (n_2 -1)) -k_1))
 else
  some k_1
theorem uT{p_0 k_1 n_2}{B0:Nat}{preB0 postB0:List AV}{oB0:Nat}{s:ae}{Q:List AV->ae->Prop}(hB0:s B0=some (.cells (Wi preB0 (cX7 p_0) postB0)))(eB0:preB0.length=oB0):ok (fP p_0 k_1 n_2) (fun r=>Q [.int .i64 r] s)->FN prog 286 [.ref B0 oB0,.int .i64 k_1,.int .i64 n_2] s Q:=by
 subst eB0
 rw[<-bj hB0]
 exact FC 16 [⟨6,true,none⟩] 0x7f230395bea515565de09b8e64517f62fa6a8437a8e36917afeb479e410f17a1e23c976400c0ba fP.eq_1
theorem uS{p_0 k_1 n_2}{B0:Nat}{preB0 postB0:List AV}{oB0:Nat}{s:ae}{r:Int}(hB0:s B0=some (.cells (Wi preB0 (cX7 p_0) postB0)))(eB0:preB0.length=oB0)(h:fP p_0 k_1 n_2=some r):FE prog 286 [.ref B0 oB0,.int .i64 k_1,.int .i64 n_2] s [.int .i64 r] s:=uT hB0 eB0 ⟨r,h,rfl,rfl⟩
def eW(r_0:bC)(n_1:Int):Option (UInt32×Int×bC):=
 bn (bH r_0) fun r1=>
 if r1 then
  some (0,1,r_0)
 else
  if(decide (n_1<0))||(decide (n_1>32))then
   some (0,2,r_0)
  else
   bn (fx r_0) fun r2=>
   if decide (n_1>r2)then
    some (0,10,r_0)
   else
    jn (
     iter (fun((x5,t6,o7):UInt32×Int×bC)=>
      if decide (t6<n_1)then
       jn (
        bt (0<=j8 .i64 o7.az.at_ 3/\j8 .i64 o7.az.at_ 3<o7.b_.length)<|
        bn (fO o7.az) fun r15=>
        if((iM (oH .u8 ((ix o7.b_ (j8 .i64 o7.az.at_ 3)).toNat:Int) (r15.toNat:Int))).toNat:Int)!=0 then
         bn (fP o7.az t6 n_1) fun r16=>
         bt (0<=r16)<|
         some (dF (Ht .u32 (x5.toNat:Int) ((dF (kC .u32 1 r16)).toNat:Int)))
        else
         some x5) fun(x11:UInt32)=>
       some (.inl (x11,aC (t6+1),(bC.mk (ie.mk (aC (o7.az.at_+1)) o7.az.rO o7.az.uA) o7.b_)))
      else
       some (.inr (x5,o7))) (0,0,r_0)) fun((x3,o4):UInt32×bC)=>
    some (x3,0,o4)
theorem nc{r_0 n_1}{B0:Nat}{s:ae}{Q:List AV->ae->Prop}(hB0:s B0=some (.cells (pZ r_0))):ok (eW r_0 n_1) (fun r=>Q [.int .u32 r.1.toNat,.int .i64 r.2.1] (s.set B0 (.cells (pZ r.2.2))))->FN prog 264 [.ref B0 0,.int .i64 n_1] s Q:=by
 rw[<-bj hB0]
 refine FR 65 [⟨4,true,none⟩,⟨5,true,none⟩] 0xe568b4a9572002c09554986cb37804ab67fe40b581cf0026ebd36f8a28a49b77ac9c7cd3b97669efe99ea305c3fd9021c875d9cc1ef3ac7443567c18ce56118ee9ae2d3c8a73ea94800882c770d97555343fe22a033bcc80231c04631b57a35d8faffb2da90166e51678e00bcf518c11d86ff10516a9603e47a5cc2b5ada87a5050446de436b7bda704667d4b00cc46bd7479779bfce81726aaa98219eb38dd0f9e235541d2d6f7291ecce370018c2b70fd1cc10cd787c77312281a3e4810e38d3dea40a8232dc4371985b169544ff6cad30c9dc8b3cde13838fabcccb4d9558b0abf424af60bfcfb9b7856334ef5714053620e56f904807d37073f16ed219d0172d5b0bdfdef09759001edd4c844b eW.eq_1 ?_
 repeat'(first
  |(with_reducible first|exact dQ|refine cI ?_ ?_|refine er ?_|refine aQ (fun _(h:bH r_0=some _)=>gD (B0:=B0) (by simp -implicitDefEqProofs only[go_sem,seval]<;>simp only[an]) h) (fun r1=>?_)|refine aQ (fun _(h:fx r_0=some _)=>tD (B0:=B0) (by simp -implicitDefEqProofs only[go_sem,seval]<;>simp only[an]) h) (fun r2=>?_)|refine cY (fun _(h:fO o7.az=some _)=>uQ (B0:=B0) (preB0:=[]) (postB0:=[sF 1 o7.b_]) (by simp -implicitDefEqProofs only[go_sem,seval]<;>simp only[an]) (by first|rfl|simp) h) (fun _=>rfl) (fun r15=>?_)|refine aQ (fun _(h:fP o7.az t6 n_1=some _)=>uS (B0:=B0) (preB0:=[]) (postB0:=[sF 1 o7.b_]) (by simp -implicitDefEqProofs only[go_sem,seval]<;>simp only[an]) (by first|rfl|simp) h) (fun r16=>?_))
  |((with_reducible refine eJ (live:=[(0,false),(1,false),(6,false),(23,false),(24,false)]) (fun(x11:UInt32)=>⟨[(0,.ref B0 0),(1,.int .i64 n_1),(6,.int .u32 x11.toNat),(23,.int .i64 n_1),(24,.int .i64 t6)],[],(s.set B0 (.cells (pZ o7)))⟩) (fun J=>?_) ?_);rotate_left;rintro x11)
  |((with_reducible refine ed (fun((x5,t6,o7):UInt32×Int×bC)=>⟨[(0,.ref B0 0),(1,.int .i64 n_1),(6,.int .u32 x5.toNat),(23,.int .i64 n_1),(24,.int .i64 t6)],[],(s.set B0 (.cells (pZ o7)))⟩) ?_ ?_);(first|exact rfl|simp -implicitDefEqProofs only[go_sem,seval]);rintro J ⟨x5,t6,o7⟩)
  |((with_reducible refine eJ (live:=[(6,false)]) (fun((x3,o4):UInt32×bC)=>⟨[(6,.int .u32 x3.toNat)],[],(s.set B0 (.cells (pZ o4)))⟩) (fun J=>?_) ?_);rotate_left;rintro⟨x3,o4⟩)
  |simp -implicitDefEqProofs only[go_sem,seval])
def fT(r_0:bC):Option (bC):=
 bn (bH r_0) fun r1=>
 if !r1 then
  some (bC.mk (ie.mk (aC (vZ .i64 (aC (r_0.az.at_+7)) 7)) r_0.az.rO r_0.az.uA) r_0.b_)
 else
  some r_0
theorem ry{r_0}{B0:Nat}{s:ae}{Q:List AV->ae->Prop}(hB0:s B0=some (.cells (pZ r_0))):ok (fT r_0) (fun r=>Q [] (s.set B0 (.cells (pZ r))))->FN prog 265 [.ref B0 0] s Q:=by
 rw[<-bj hB0]
 refine FR 16 [] 0x4a87a10776d1f55c00b95b1530b76548eb59eb46a0f689982a862a185346f0b54c4c92907dc fT.eq_1 ?_
 repeat'(first
  |with_reducible refine aQ (fun _(h:bH r_0=some _)=>gD (B0:=B0) (by simp -implicitDefEqProofs only[go_sem,seval]<;>simp only[an]) h) (fun r1=>?_)
  |simp -implicitDefEqProofs only[go_sem,seval])
def iU(r_0:bC):Option (Int):=
 bn (bH r_0) fun r1=>
 if r1 then
  some 0
 else
  some r_0.az.at_
theorem wg{r_0}{B0:Nat}{s:ae}{Q:List AV->ae->Prop}(hB0:s B0=some (.cells (pZ r_0))):ok (iU r_0) (fun r=>Q [.int .i64 r] s)->FN prog 208 [.ref B0 0] s Q:=by
 rw[<-bj hB0]
 refine FR 10 [⟨2,true,none⟩] 0x172ccbdb4c30b2e0d9d3e4f919721b73c84a7c2ebb9ed182b3489a40a0227cc00473a iU.eq_1 ?_
 repeat'(first
  |with_reducible refine aQ (fun _(h:bH r_0=some _)=>gD (B0:=B0) (by simp -implicitDefEqProofs only[go_sem,seval]<;>simp only[an]) h) (fun r1=>?_)
  |simp -implicitDefEqProofs only[go_sem,seval])
theorem we{r_0}{B0:Nat}{s:ae}{r:Int}(hB0:s B0=some (.cells (pZ r_0)))(h:iU r_0=some r):FE prog 208 [.ref B0 0] s [.int .i64 r] s:=wg hB0 ⟨r,h,rfl,rfl⟩
structure cc where
 Reader:bC
 e_:Int
def ay(s_0:cc)(e_1:Int):Option (cc):=
 if s_0.e_==0 then
  some (cc.mk s_0.Reader e_1)
 else
  some s_0
theorem bz{s_0 e_1}{B0 B0_Reader:Nat}{preB0 postB0:List AV}{oB0:Nat}{s:ae}{Q:List AV->ae->Prop}(hB0:s B0=some (.cells (Wi preB0 [.ref B0_Reader 0,.int .i64 s_0.e_] postB0)))(cS:s B0_Reader=some (.cells (pZ s_0.Reader)))(eB0:preB0.length=oB0)(aa:B0≠B0_Reader):ok (ay s_0 e_1) (fun r=>Q [] ((s.set B0 (.cells (Wi preB0 [.ref B0_Reader 0,.int .i64 r.e_] postB0))).set B0_Reader (.cells (pZ r.Reader))))->FN prog 243 [.ref B0 oB0,.int .i64 e_1] s Q:=by
 subst eB0
 rw[<-bj cS,<-bj hB0]
 refine FR 13 [] 0x189bdbb9b380ecb52c04b8efcb9da2151040490a8f650a71453e ay.eq_1 ?_
 repeat'(first
  |simp -implicitDefEqProofs only[go_sem,seval,ai aa,ai aa.symm,set_comm aa])
def aH(s_0:cc)(n_1:Int):Option (Int×cc):=
 if s_0.e_ !=0 then
  some (0,s_0)
 else
  bn (eW s_0.Reader n_1) fun r1=>
  bn (ay (cc.mk r1.2.2 s_0.e_) r1.2.1) fun r2=>
  some (aC ((r1.1.toNat:Int)),r2)
theorem bM{s_0 n_1}{B0 B0_Reader:Nat}{preB0 postB0:List AV}{oB0:Nat}{s:ae}{Q:List AV->ae->Prop}(hB0:s B0=some (.cells (Wi preB0 [.ref B0_Reader 0,.int .i64 s_0.e_] postB0)))(cS:s B0_Reader=some (.cells (pZ s_0.Reader)))(eB0:preB0.length=oB0)(aa:B0≠B0_Reader):ok (aH s_0 n_1) (fun r=>Q [.int .i64 r.1] ((s.set B0 (.cells (Wi preB0 [.ref B0_Reader 0,.int .i64 r.2.e_] postB0))).set B0_Reader (.cells (pZ r.2.Reader))))->FN prog 237 [.ref B0 oB0,.int .i64 n_1] s Q:=by
 subst eB0
 rw[<-bj cS,<-bj hB0]
 refine FR 26 [⟨4,true,none⟩] 0x5d8c7377718e66cf3790a791ca1c49174d8edcd282ea6c6208fead82dc0c31a6ca4f558e894b433805aa1a9aad177621f990ff0568dba78b6a84f9e23cdff4dc10e152980c653980083fa aH.eq_1 ?_
 repeat'(first
  |(with_reducible first|exact dQ|refine cI ?_ ?_|refine er ?_|refine fun hh=>nc (B0:=B0_Reader) (by simp -implicitDefEqProofs only[go_sem,seval,ai aa,ai aa.symm,set_comm aa]<;>simp only[an]) (aK (show ok (eW s_0.Reader n_1) _ from hh) fun r1=>?_)|refine fun hh=>bz (B0:=B0) (B0_Reader:=B0_Reader) (preB0:=preB0) (postB0:=postB0) (by simp -implicitDefEqProofs only[go_sem,seval,ai aa,ai aa.symm,set_comm aa]<;>simp only[an]) (by simp -implicitDefEqProofs only[go_sem,seval,ai aa,ai aa.symm,set_comm aa]<;>simp only[an]) (by first|rfl|simp) aa (aK (show ok (ay (cc.mk r1.2.2 s_0.e_) r1.2.1) _ from hh) fun r2=>?_))
  |simp -implicitDefEqProofs only[go_sem,seval,ai aa,ai aa.symm,set_comm aa])
structure ak where
 bd:cc
 gB:(List UInt8)
 ft:Int
@[go_sem]abbrev Fs(x:ak):List AV:=[sT 1 x.gB,.int .i64 x.ft]
@[go_sem]abbrev CH(B0_Reader:Nat)(x:ak):List AV:=[.ref B0_Reader 0,.int .i64 x.bd.e_,sT 1 x.gB,.int .i64 x.ft]
def cC(s_0:ak)(x_1:UInt8):Option (ak):=
 if decide ((s_0.gB.length:Int)>=s_0.ft)then
  bn (ay s_0.bd 3) fun r1=>
  some (ak.mk r1 s_0.gB s_0.ft)
 else
  bt ((s_0.gB.length+[x_1].length)*1<=room)<|
  some (ak.mk s_0.bd (s_0.gB++[x_1]) s_0.ft)
theorem lT{s_0 x_1}{B0 B0_Reader:Nat}{s:ae}{Q:List AV->ae->Prop}(hB0:s B0=some (.cells (CH B0_Reader s_0)))(cS:s B0_Reader=some (.cells (pZ s_0.bd.Reader)))(aa:B0≠B0_Reader):ok (cC s_0 x_1) (fun r=>Q [] ((s.set B0 (.cells (CH B0_Reader r))).set B0_Reader (.cells (pZ r.bd.Reader))))->FN prog 266 [.ref B0 0,.int .u8 x_1.toNat] s Q:=by
 rw[<-bj cS,<-bj hB0]
 refine FR 28 [] 0x488165aad8c866220bacb1dcf6c9db810055bf6129568432ba8b42b8e19b7d2213df2c7f8ae7feef3a6d53be381b9cfe9d9cfe3f1f57c5709090a56a63abd2f5265 cC.eq_1 ?_
 repeat'(first
  |(with_reducible first|exact dQ|refine cI ?_ ?_|refine er ?_|refine fun hh=>bz (B0:=B0) (B0_Reader:=B0_Reader) (preB0:=[]) (postB0:=(Fs s_0)) (by simp -implicitDefEqProofs only[go_sem,seval,ai aa,ai aa.symm,set_comm aa]<;>simp only[an]) (by simp -implicitDefEqProofs only[go_sem,seval,ai aa,ai aa.symm,set_comm aa]<;>simp only[an]) (by first|rfl|simp) aa (aK (show ok (ay s_0.bd 3) _ from hh) fun r1=>?_))
  |simp -implicitDefEqProofs only[go_sem,seval,ai aa,ai aa.symm,set_comm aa])
def fY(s_0:ak):Option (ak):=
 bn (fT s_0.bd.Reader) fun r1=>
 bn (aH (cc.mk r1 s_0.bd.e_) 16) fun r2=>
 jn (
  bn (aH r2.2 16) fun r5=>
  if(aC (We .i64 r5.1 65535))!=r2.1 then
   bn (ay r5.2 11) fun r6=>
   some (ak.mk r6 s_0.gB s_0.ft)
  else
   some (ak.mk r5.2 s_0.gB s_0.ft)) fun(o4:ak)=>
 iter (fun((n7,o8):Int×ak)=>
  if(decide (n7>0))&&(o8.bd.e_==0)then
   jn (
    bn (aH o8.bd 8) fun r12=>
    if r12.2.e_==0 then
     bn (cC (ak.mk r12.2 o8.gB o8.ft) (iM (r12.1))) fun r13=>
     some r13
    else
     some (ak.mk r12.2 o8.gB o8.ft)) fun(o11:ak)=>
   some (.inl (aC (n7 -1),o11))
  else
   some (.inr o8)) (r2.1,o4)
theorem pD{s_0}{B0 B0_Reader:Nat}{s:ae}{Q:List AV->ae->Prop}(hB0:s B0=some (.cells (CH B0_Reader s_0)))(cS:s B0_Reader=some (.cells (pZ s_0.bd.Reader)))(aa:B0≠B0_Reader):ok (fY s_0) (fun r=>Q [] ((s.set B0 (.cells (CH B0_Reader r))).set B0_Reader (.cells (pZ r.bd.Reader))))->FN prog 238 [.ref B0 0] s Q:=by
 rw[<-bj cS,<-bj hB0]
 refine FR 51 [] 0x740b52af7368f87ef19f86072d3f90f60dee4842b408d20a21b666572d9974700dd3ce79c658d2adfc0b15c14fa74d0c95741f72795f43d212d6444a20fbda4a7aaaef3032215abe7ec5d7a7ed2068f891ccb453bf3d34bae386142b07058920a48be535241fba2d77415f3a26f4f7a786957a17ddc1deedd8eb08ff1e8870857eb216221aabfac591b384298e4a0ed2bcd1c7af25a372ebba8e373301d0729198da0a71458f fY.eq_1 ?_
 repeat'(first
  |(with_reducible first|exact dQ|refine cI ?_ ?_|refine er ?_|refine fun hh=>ry (B0:=B0_Reader) (by simp -implicitDefEqProofs only[go_sem,seval,ai aa,ai aa.symm,set_comm aa]<;>simp only[an]) (aK (show ok (fT s_0.bd.Reader) _ from hh) fun r1=>?_)|refine fun hh=>bM (B0:=B0) (B0_Reader:=B0_Reader) (preB0:=[]) (postB0:=(Fs s_0)) (by simp -implicitDefEqProofs only[go_sem,seval,ai aa,ai aa.symm,set_comm aa]<;>simp only[an]) (by simp -implicitDefEqProofs only[go_sem,seval,ai aa,ai aa.symm,set_comm aa]<;>simp only[an]) (by first|rfl|simp) aa (aK (show ok (aH (cc.mk r1 s_0.bd.e_) 16) _ from hh) fun r2=>?_)|refine fun hh=>bM (B0:=B0) (B0_Reader:=B0_Reader) (preB0:=[]) (postB0:=(Fs s_0)) (by simp -implicitDefEqProofs only[go_sem,seval,ai aa,ai aa.symm,set_comm aa]<;>simp only[an]) (by simp -implicitDefEqProofs only[go_sem,seval,ai aa,ai aa.symm,set_comm aa]<;>simp only[an]) (by first|rfl|simp) aa (aK (show ok (aH r2.2 16) _ from hh) fun r5=>?_)|refine fun hh=>bz (B0:=B0) (B0_Reader:=B0_Reader) (preB0:=[]) (postB0:=(Fs s_0)) (by simp -implicitDefEqProofs only[go_sem,seval,ai aa,ai aa.symm,set_comm aa]<;>simp only[an]) (by simp -implicitDefEqProofs only[go_sem,seval,ai aa,ai aa.symm,set_comm aa]<;>simp only[an]) (by first|rfl|simp) aa (aK (show ok (ay r5.2 11) _ from hh) fun r6=>?_)|refine fun hh=>bM (B0:=B0) (B0_Reader:=B0_Reader) (preB0:=[]) (postB0:=(Fs o8)) (by simp -implicitDefEqProofs only[go_sem,seval,ai aa,ai aa.symm,set_comm aa]<;>simp only[an]) (by simp -implicitDefEqProofs only[go_sem,seval,ai aa,ai aa.symm,set_comm aa]<;>simp only[an]) (by first|rfl|simp) aa (aK (show ok (aH o8.bd 8) _ from hh) fun r12=>?_)|refine fun hh=>lT (B0:=B0) (B0_Reader:=B0_Reader) (by simp -implicitDefEqProofs only[go_sem,seval,ai aa,ai aa.symm,set_comm aa]<;>simp only[an]) (by simp -implicitDefEqProofs only[go_sem,seval,ai aa,ai aa.symm,set_comm aa]<;>simp only[an]) aa (aK (show ok (cC (ak.mk r12.2 o8.gB o8.ft) (iM (r12.1))) _ from hh) fun r13=>?_))
  |((have _x:=n7);clear _x;(with_reducible refine eJ (live:=[(0,false),(2,false)]) (fun(o11:ak)=>⟨[(0,.ref B0 0),(2,.int .i64 n7)],[],((s.set B0 (.cells (CH B0_Reader o11))).set B0_Reader (.cells (pZ o11.bd.Reader)))⟩) (fun J=>?_) ?_);rotate_left;rintro o11)
  |((with_reducible refine eJ (live:=[(0,false),(2,false)]) (fun(o4:ak)=>⟨[(0,.ref B0 0),(2,.int .i64 r2.1)],[],((s.set B0 (.cells (CH B0_Reader o4))).set B0_Reader (.cells (pZ o4.bd.Reader)))⟩) (fun J=>?_) ?_);rotate_left;rintro o4)
  |((with_reducible refine ed (fun((n7,o8):Int×ak)=>⟨[(0,.ref B0 0),(2,.int .i64 n7)],[],((s.set B0 (.cells (CH B0_Reader o8))).set B0_Reader (.cells (pZ o8.bd.Reader)))⟩) ?_ ?_);(first|exact rfl|simp -implicitDefEqProofs only[go_sem,seval,ai aa,ai aa.symm,set_comm aa]);rintro J ⟨n7,o8⟩)
  |simp -implicitDefEqProofs only[go_sem,seval,ai aa,ai aa.symm,set_comm aa])
def dH(s_0:ak)(pI:Int)(wD:Int):Option (ak):=
 if s_0.bd.e_ !=0 then
  some s_0
 else
  if decide (wD>(s_0.gB.length:Int))then
   bn (ay s_0.bd 14) fun r1=>
   some (ak.mk r1 s_0.gB s_0.ft)
  else
   if decide (pI>aC (s_0.ft -(s_0.gB.length:Int)))then
    bn (ay s_0.bd 3) fun r2=>
    some (ak.mk r2 s_0.gB s_0.ft)
   else
    iter (fun((t3,o4):Int×ak)=>
     if decide (t3<pI)then
      bt (0<=aC ((o4.gB.length:Int) -wD)/\aC ((o4.gB.length:Int) -wD)<o4.gB.length)<|
      bt ((o4.gB.length+[ix o4.gB (aC ((o4.gB.length:Int) -wD))].length)*1<=room)<|
      some (.inl (aC (t3+1),(ak.mk o4.bd (o4.gB++[ix o4.gB (aC ((o4.gB.length:Int) -wD))]) o4.ft)))
     else
      some (.inr o4)) (0,s_0)
theorem pC{s_0 pI wD}{B0 B0_Reader:Nat}{s:ae}{Q:List AV->ae->Prop}(hB0:s B0=some (.cells (CH B0_Reader s_0)))(cS:s B0_Reader=some (.cells (pZ s_0.bd.Reader)))(aa:B0≠B0_Reader):ok (dH s_0 pI wD) (fun r=>Q [] ((s.set B0 (.cells (CH B0_Reader r))).set B0_Reader (.cells (pZ r.bd.Reader))))->FN prog 270 [.ref B0 0,.int .i64 pI,.int .i64 wD] s Q:=by
 rw[<-bj cS,<-bj hB0]
 refine FR 68 [] 0xf4a6e94cc9a385a1af6753f7bef13306596b92f9789342cb7384a4b9f1df0410cb977ee51becaa39a381eac9d4b6179a31a6fff5923d6865c1e2af4dd950e1bd534f14a13301b8d8dc9efcbd1bdedeb0744c1b565055fe412f3d9ae68d67dae08b8c53ee54952cc3d0d3c78a4700d0c93545c98897a0b1f5599eb1579f7d1cb4308ac134a7bf91a40b995b0adb61524f470eeaffd77067e5adff6980f72d23054ad83a98e52d23833ee7cf645403a39b55676339ab3775231817e3eace0097066cd336aad2671bac55eac4ea01708fd14adf96d7d7e1da2232c9f683a3f37faa5df81404a05 dH.eq_1 ?_
 repeat'(first
  |(with_reducible first|exact dQ|refine cI ?_ ?_|refine er ?_|refine fun hh=>bz (B0:=B0) (B0_Reader:=B0_Reader) (preB0:=[]) (postB0:=(Fs s_0)) (by simp -implicitDefEqProofs only[go_sem,seval,ai aa,ai aa.symm,set_comm aa]<;>simp only[an]) (by simp -implicitDefEqProofs only[go_sem,seval,ai aa,ai aa.symm,set_comm aa]<;>simp only[an]) (by first|rfl|simp) aa (aK (show ok (ay s_0.bd 14) _ from hh) fun r1=>?_)|refine fun hh=>bz (B0:=B0) (B0_Reader:=B0_Reader) (preB0:=[]) (postB0:=(Fs s_0)) (by simp -implicitDefEqProofs only[go_sem,seval,ai aa,ai aa.symm,set_comm aa]<;>simp only[an]) (by simp -implicitDefEqProofs only[go_sem,seval,ai aa,ai aa.symm,set_comm aa]<;>simp only[an]) (by first|rfl|simp) aa (aK (show ok (ay s_0.bd 3) _ from hh) fun r2=>?_))
  |((with_reducible refine ed (fun((t3,o4):Int×ak)=>⟨[(0,.ref B0 0),(2,.int .i64 wD),(6,.int .i64 pI),(7,.int .i64 t3)],[],((s.set B0 (.cells (CH B0_Reader o4))).set B0_Reader (.cells (pZ o4.bd.Reader)))⟩) ?_ ?_);(first|exact rfl|simp -implicitDefEqProofs only[go_sem,seval,ai aa,ai aa.symm,set_comm aa]);rintro J ⟨t3,o4⟩)
  |simp -implicitDefEqProofs only[go_sem,seval,ai aa,ai aa.symm,set_comm aa])
def eO(bF:Int):Option (Int×Int×Bool):=
 if(decide (bF<257))||(decide (bF>285))then
  some (0,0,false)
 else
  if bF==285 then
   some (258,0,true)
  else
   if decide (bF<265)then
    some (aC (bF -254),0,true)
   else
    bt (0<=aC (Int.tdiv (aC (bF -261)) 4))<|
    some (aC (3+(aC (kC .i64 (aC (4+(Int.tmod (aC (bF -261)) 4))) (aC (Int.tdiv (aC (bF -261)) 4))))),aC (Int.tdiv (aC (bF -261)) 4),true)
theorem wR{bF}:FF 268 [.int .i64 bF] (eO bF) fun r=>[.int .i64 r.1,.int .i64 r.2.1,.bool r.2.2]:=by
 intro s Q
 exact FC 34 [⟨2,true,none⟩,⟨3,true,none⟩,⟨4,true,none⟩] 0x7f5a2f6c722ade8f7d8e9f738c488f35803dad5020735c582325a9fa2a6383dd60ac6be3cc975413bbb0634774b4c07be310c7e79928dc9b02716d382e1489a5f32dcd2399bdcd9f5394ea6946731ecb5acf63254c6fc3a122f52bbefc89934ab0df21ab1532cb772959e1ef3d42740eb1fafb42625270581c7d2f0b1a45614a4a89922987a6912ad391543de3a512d0a14f4bfd1df6c9e4946d9003cc0047dc eO.eq_1
def dG(bF:Int):Option (Int×Int×Bool):=
 if(decide (bF<0))||(decide (bF>29))then
  some (0,0,false)
 else
  if decide (bF<4)then
   some (aC (bF+1),0,true)
  else
   bt (0<=aC (Int.tdiv (aC (bF -2)) 2))<|
   some (aC (1+(aC (kC .i64 (aC (2+(Int.tmod bF 2))) (aC (Int.tdiv (aC (bF -2)) 2))))),aC (Int.tdiv (aC (bF -2)) 2),true)
theorem tM{bF}:FF 269 [.int .i64 bF] (dG bF) fun r=>[.int .i64 r.1,.int .i64 r.2.1,.bool r.2.2]:=by
 intro s Q
 exact FC 30 [⟨2,true,none⟩,⟨3,true,none⟩,⟨4,true,none⟩] 0x1a0dfc38146f066fffe5e7babbe508308d39504c623d27c287ca1c96a43d4e7624987991e591aecec6868263783c8523c36fbc8712d4f9a28f1c640e7aee6f2c97642cd30df7321bea1acc7510031dc467dd49c16071f4bc2c691585292a2648a6f70cfe980942de3957de309f7fd1df6c9e4946d9003cc0047dc dG.eq_1
def oL:Option ((List Int)):=some [16,17,18,0,8,7,9,6,10,5,11,4,12,3,13,2,14,1,15]
theorem yd{s:ae}{Q:List AV->ae->Prop}:ok (oL) (fun r=>Q [sT 1 r] s)->FN prog 272 [] s Q:=by exact FC 2 [⟨0,true,none⟩] 0x81ee5e1c409f72c397a5e89b6df532507cd02194ce0ddd61fd738955d09f3c9a2ad50105aaffd962cebbd4ddc497cca814d448bbde38ed7f3f54f409b1bf6c8380000000000000000000000000000000000152dd68657dab080d0f26a7a oL.eq_1
theorem yc{s:ae}{r:(List Int)}(h:oL=some r):FE prog 272 [] s [sT 1 r] s:=yd ⟨r,h,rfl,rfl⟩
def nR(b_0:(List UInt8)):Option (Int):=
 if decide ((b_0.length:Int)<2)then
  some 10
 else
  bt (0<=(0:Int)/\(0:Int)<b_0.length)<|
  bt ((!(((iM (oH .u8 ((ix b_0 0).toNat:Int) 15)).toNat:Int)!=8))=true->0<=(0:Int)/\(0:Int)<b_0.length)<|
  bt ((!((((iM (oH .u8 ((ix b_0 0).toNat:Int) 15)).toNat:Int)!=8)||(decide (((iM (j8 .u8 ((ix b_0 0).toNat:Int) 4)).toNat:Int)>7))))=true->0<=(1:Int)/\(1:Int)<b_0.length)<|
  bt ((!(((((iM (oH .u8 ((ix b_0 0).toNat:Int) 15)).toNat:Int)!=8)||(decide (((iM (j8 .u8 ((ix b_0 0).toNat:Int) 4)).toNat:Int)>7)))||(((iM (oH .u8 ((ix b_0 1).toNat:Int) 32)).toNat:Int)!=0)))=true->0<=(0:Int)/\(0:Int)<b_0.length)<|
  bt ((!(((((iM (oH .u8 ((ix b_0 0).toNat:Int) 15)).toNat:Int)!=8)||(decide (((iM (j8 .u8 ((ix b_0 0).toNat:Int) 4)).toNat:Int)>7)))||(((iM (oH .u8 ((ix b_0 1).toNat:Int) 32)).toNat:Int)!=0)))=true->0<=(1:Int)/\(1:Int)<b_0.length)<|
  if(((((iM (oH .u8 ((ix b_0 0).toNat:Int) 15)).toNat:Int)!=8)||(decide (((iM (j8 .u8 ((ix b_0 0).toNat:Int) 4)).toNat:Int)>7)))||(((iM (oH .u8 ((ix b_0 1).toNat:Int) 32)).toNat:Int)!=0))||((Int.tmod (aC (Ht .i64 (aC (kC .i64 (aC (((ix b_0 0).toNat:Int))) 8)) (aC (((ix b_0 1).toNat:Int))))) 31)!=0)then
   some 11
  else
   some 0
theorem DS{b_0}:FF 171 [sF 1 b_0] (nR b_0) fun r=>[.int .i64 r]:=by
 intro s Q
 exact FC 41 [⟨2,true,none⟩] 0x1a7a28cbcd0d59abcd83a0bfe70574e8bc8b36e2fb1eb93cb4a9740fef843d29de80ccd204f093a0796896ab2c92cc3894a6c5c53325c9b50dc944f4c255a3e3904e3825735b9840659edc99fa1011022254ea5bf3b722570e2aa96d4c8cbfab6dedd3799761ddd747bd1d203d6a3f7cae81b7f9ceb0e6f000e344deaede11e4a6a14d25725bc646fda42de831d131f31264e606c124cff1807e41af6bf349fcc00473a nR.eq_1
theorem DR{b_0}{s:ae}{r:Int}(h:nR b_0=some r):FE prog 171 [sF 1 b_0] s [.int .i64 r] s:=DS ⟨r,h,rfl,rfl⟩
structure dU where
 a_:UInt32
 b_:UInt32
 deriving DecidableEq
instance:aP dU:=⟨2,fun x=>[.int .u32 x.a_.toNat,.int .u32 x.b_.toNat],(dU.mk 0 0),by decide,fun _=>rfl,fun _=>rfl⟩
def eU(h_0:dU)(p_1:(List UInt8)):Option (dU):=
 jn (
  iter (fun((p4,a5,b6):(List UInt8)×UInt32×UInt32)=>
   if decide ((p4.length:Int)>0)then
    jn (
     bt (0<=(0:Int)/\0<=min (p4.length:Int) 5552/\min (p4.length:Int) 5552<=p4.length)<|
     iter (fun((a15,b16,n17,t18,t19,t20):UInt32×UInt32×Int×(List UInt8)×Int×Int)=>
      if decide (t20<t19)then
       bt (0<=t20/\t20<t18.length)<|
       some (.inl (dF ((a15.toNat:Int)+((dF (((ix t18 t20).toNat:Int))).toNat:Int)),dF ((b16.toNat:Int)+((dF ((a15.toNat:Int)+((dF (((ix t18 t20).toNat:Int))).toNat:Int))).toNat:Int)),n17,t18,t19,aC (t20+1)))
      else
       some (.inr (a15,b16,n17))) (a5,b6,min (p4.length:Int) 5552,part p4 0 (min (p4.length:Int) 5552),((part p4 0 (min (p4.length:Int) 5552)).length:Int),0)) fun((a11,b12,n13):UInt32×UInt32×Int)=>
    bt (0<=n13/\n13<=(p4.length:Int)/\(p4.length:Int)<=p4.length)<|
    some (.inl (part p4 n13 (p4.length:Int),dF (Int.tmod (a11.toNat:Int) 65521),dF (Int.tmod (b12.toNat:Int) 65521)))
   else
    some (.inr (a5,b6))) (p_1,dF ((h_0.a_.toNat:Int)+1),h_0.b_)) fun((a1,b2):UInt32×UInt32)=>
 some (dU.mk (dF (Int.tmod ((dF (((dF ((a1.toNat:Int)+65521)).toNat:Int) -1)).toNat:Int) 65521)) b2)
theorem rq{h_0 p_1}{B0:Nat}{s:ae}{Q:List AV->ae->Prop}(hB0:s B0=some (.cells [.int .u32 h_0.a_.toNat,.int .u32 h_0.b_.toNat])):ok (eU h_0 p_1) (fun r=>Q [] (s.set B0 (.cells [.int .u32 r.a_.toNat,.int .u32 r.b_.toNat])))->FN prog 209 [.ref B0 0,sF 1 p_1] s Q:=by
 rw[<-bj hB0]
 refine FR 58 [] 0x12e2a4b014ecbcd3da7b44305a890956b3753e4aabc2f44904f3e200936b7130f89f91f706698c12b32cd65195e68615e3ff59f949b00cc66de7d973c8518fcedee799051557a75d94cae5c12c5c0106e605ab063c5a4b4aeb333dc04bbc7f5d4f33856f9ed4ee3312f6518e62d75e8520cb99be20e4e130f548d4a9229bcf5059e8bfd09207c256b00aaedc53e309331f2b4712a997f4b130ae60635e80f8709434dc8a8c44fdfed4fc802e5a53e7256797efce24f810b9f782d4823e15575fca62ad21cdd8165f3b034b0568dc846b4f6d03c04c14d3524258fd8acc29c08f81da2052ae1db85c68581863396676e053c9a3153d7857d44846872b8047 eU.eq_1 ?_
 repeat'(first
  |(with_reducible first|exact dQ|refine cI ?_ ?_|refine er ?_)
  |((with_reducible refine ed (fun((a15,b16,n17,t18,t19,t20):UInt32×UInt32×Int×(List UInt8)×Int×Int)=>⟨[(0,.ref B0 0),(1,sF 1 p4),(4,.int .u32 a15.toNat),(5,.int .u32 b16.toNat),(6,.int .i64 n17),(26,sF 1 t18),(27,.int .i64 t19),(28,.int .i64 t20)],[],(s.set B0 (.cells [.int .u32 h_0.a_.toNat,.int .u32 h_0.b_.toNat]))⟩) ?_ ?_);(first|exact rfl|simp -implicitDefEqProofs only[go_sem,seval]);rintro J ⟨a15,b16,n17,t18,t19,t20⟩)
  |((with_reducible refine eJ (live:=[(0,false),(1,true),(4,false),(5,false),(6,false)]) (fun((a11,b12,n13):UInt32×UInt32×Int)=>⟨[(0,.ref B0 0),(1,sF 1 p4),(4,.int .u32 a11.toNat),(5,.int .u32 b12.toNat),(6,.int .i64 n13)],[],(s.set B0 (.cells [.int .u32 h_0.a_.toNat,.int .u32 h_0.b_.toNat]))⟩) (fun J=>?_) ?_);rotate_left;rintro⟨a11,b12,n13⟩)
  |((with_reducible refine ed (fun((p4,a5,b6):(List UInt8)×UInt32×UInt32)=>⟨[(0,.ref B0 0),(1,sF 1 p4),(4,.int .u32 a5.toNat),(5,.int .u32 b6.toNat)],[],(s.set B0 (.cells [.int .u32 h_0.a_.toNat,.int .u32 h_0.b_.toNat]))⟩) ?_ ?_);(first|exact rfl|simp -implicitDefEqProofs only[go_sem,seval]);rintro J ⟨p4,a5,b6⟩)
  |((with_reducible refine eJ (live:=[(0,false),(4,false),(5,false)]) (fun((a1,b2):UInt32×UInt32)=>⟨[(0,.ref B0 0),(4,.int .u32 a1.toNat),(5,.int .u32 b2.toNat)],[],(s.set B0 (.cells [.int .u32 h_0.a_.toNat,.int .u32 h_0.b_.toNat]))⟩) (fun J=>?_) ?_);rotate_left;rintro⟨a1,b2⟩)
  |simp -implicitDefEqProofs only[go_sem,seval])
def ez(h_0:dU):Option (UInt32):=some (dF (Ht .u32 ((dF (kC .u32 (h_0.b_.toNat:Int) 16)).toNat:Int) ((dF (Int.tmod ((dF ((h_0.a_.toNat:Int)+1)).toNat:Int) 65521)).toNat:Int)))
theorem re{h_0}{B0:Nat}{s:ae}{Q:List AV->ae->Prop}(hB0:s B0=some (.cells [.int .u32 h_0.a_.toNat,.int .u32 h_0.b_.toNat])):ok (ez h_0) (fun r=>Q [.int .u32 r.toNat] s)->FN prog 210 [.ref B0 0] s Q:=by
 rw[<-bj hB0]
 exact FC 15 [⟨2,true,none⟩] 0x1235f9f6346067c0b50e5284cb13179b0088eba417d550cd8e5855c204013276c72423b42495dc3edd4c473a ez.eq_1
theorem q9{h_0}{B0:Nat}{s:ae}{r:UInt32}(hB0:s B0=some (.cells [.int .u32 h_0.a_.toNat,.int .u32 h_0.b_.toNat]))(h:ez h_0=some r):FE prog 210 [.ref B0 0] s [.int .u32 r.toNat] s:=re hB0 ⟨r,h,rfl,rfl⟩
def o6(b_0:(List UInt8)):Option (UInt32):=
 bn (eU (dU.mk 0 0) b_0) fun r1=>
 bn (ez r1) fun r2=>
 some r2
theorem Fh{b_0}:FF 174 [sF 1 b_0] (o6 b_0) fun r=>[.int .u32 r.toNat]:=by
 intro s Q
 intro h
 refine FN.forget ?_
 refine FP 7 [⟨2,true,none⟩] (dec 0x5b73c5b76920138d89bb01d77f5768ef3f027c234f24cfdedd4c473a) (by kernel_rfl) rfl ?_
 revert h
 rw[o6]
 conv in dec _=>reduce
 repeat'(first
  |(with_reducible first|refine fun hh=>rq (B0:=N1) (by simp -implicitDefEqProofs only[go_sem,seval]<;>simp only[an]) (aK (show ok (eU (dU.mk 0 0) b_0) _ from hh) fun r1=>?_)|refine aQ (fun _(h:ez r1=some _)=>q9 (B0:=N1) (by simp -implicitDefEqProofs only[go_sem,seval]<;>simp only[an]) h) (fun r2=>?_))
  |((fail_if_success (have _x:=sN1));with_reducible intro hh N1 hN1;(try simp only[eT]at hN1);have sN1:=hN1;revert hh)
  |with_reducible exact fun hh=>⟨_,uO.set (uO.refl _) (by simp[ae.set,sN1]),hh⟩
  |simp -implicitDefEqProofs only[go_sem,seval])
theorem Fg{b_0}{s:ae}{r:UInt32}(h:o6 b_0=some r):FE prog 174 [sF 1 b_0] s [.int .u32 r.toNat] s:=Fh ⟨r,h,rfl,rfl⟩
def lP(x_0:UInt32):Option ((List UInt8)):=some [iM (((dF (j8 .u32 (x_0.toNat:Int) 24)).toNat:Int)),iM (((dF (j8 .u32 (x_0.toNat:Int) 16)).toNat:Int)),iM (((dF (j8 .u32 (x_0.toNat:Int) 8)).toNat:Int)),iM ((x_0.toNat:Int))]
theorem AD{x_0}:FF 173 [.int .u32 x_0.toNat] (lP x_0) fun r=>[sT 1 r]:=by
 intro s Q
 exact FC 15 [⟨2,true,none⟩] 0x1b6ca970b4a476d7e45cbd6cd88b1ba68a842eca1fe6fc8d2205325f378af7177136366149ec325f36a5e7578c1cd9383521798d0f2a73a lP.eq_1
theorem AA{x_0}{s:ae}{r:(List UInt8)}(h:lP x_0=some r):FE prog 173 [.int .u32 x_0.toNat] s [sT 1 r] s:=AD ⟨r,h,rfl,rfl⟩
def rC(a_0:(List UInt8))(b_1:(List UInt8)):Option (Bool):=some ((bk.mk a_0).b==(bk.mk b_1).b)
theorem AL{a_0 b_1}:FF 152 [sF 1 a_0,sF 1 b_1] (rC a_0 b_1) fun r=>[.bool r]:=by
 intro s Q
 exact FC 10 [⟨4,true,none⟩] 0x17a82325fb78a419acfc02b1997a87144e483fa rC.eq_1
theorem AK{a_0 b_1}{s:ae}{r:Bool}(h:rC a_0 b_1=some r):FE prog 152 [sF 1 a_0,sF 1 b_1] s [.bool r] s:=AL ⟨r,h,rfl,rfl⟩
def nt(eo:(List Int)):Option (Int):=
 if(decide ((eo.length:Int)<1))||(decide ((eo.length:Int)>320))then
  some (-1)
 else
  Dt (
   rA (
    iter (fun((Pc,t4):Int×Int)=>
     if decide (t4<(eo.length:Int))then
      Dt (
       bt (0<=t4/\t4<eo.length)<|
       if(decide (ix eo t4<0))||(decide (ix eo t4>15))then
        some (.inr ((-1):Int))
       else
        if decide (ix eo t4>0)then
         bt (0<=ix eo t4)<|
         some (.inl (aC (Pc+(j8 .i64 32768 (ix eo t4)))))
        else
         some (.inl Pc)) (fun(VP:Int)=>
       some (.inl (VP,aC (t4+1))))
      (fun(t11:Int)=>some (.inr (.inr t11)))
     else
      some (.inr (.inl Pc))) (0,0)) (fun(ahK:Int)=>
    some (.inl ahK))
   (fun(t6:Int)=>some (.inr t6))) (fun(SK:Int)=>
   if decide (SK>32768)then
    some (-1)
   else
    some SK)
  (fun(t2:Int)=>some t2)
theorem Dl{eo}:FF 297 [sF 1 eo] (nt eo) fun r=>[.int .i64 r]:=by
 intro s Q
 refine FR 38 [⟨2,true,none⟩] 0xa0033211092672547d86549628a79433010ac68588b1a7be6aa67491c736a4bd3b5ab26a3614c017789d74f09fa7d46b890afe15bf46e26463ab36614e39aefc68de86f33d6848edd31e5baa737a6d9afaef9794393e199cba14def8f4ca595cdd4e237b4bf5800fba1a243d8aa52621fe6c8723330ee03785892767f683ef05907cc7e5e09079e8543244a0e8f448996c5754f9dbf0ddd21d0d079bbc45f8438b983f3fade040c5123e405ed87f74f6b26313e9c0e0754a8836fcc00473a nt.eq_1 ?_
 repeat'(first
  |(with_reducible first|exact dQ|refine cI ?_ ?_|refine er ?_)
  |((with_reducible refine fF (live:=[(3,false),(14,true),(15,false),(16,false)]) (fun(VP:Int)=>⟨[(3,.int .i64 VP),(14,sF 1 eo),(15,.int .i64 (eo.length:Int)),(16,.int .i64 t4)],[],s⟩) (fun J=>?_) ?_);rotate_left;rintro VP)
  |((with_reducible refine ed (fun((Pc,t4):Int×Int)=>⟨[(3,.int .i64 Pc),(14,sF 1 eo),(15,.int .i64 (eo.length:Int)),(16,.int .i64 t4)],[],s⟩) ?_ ?_);(first|exact rfl|simp -implicitDefEqProofs only[go_sem,seval]);rintro J ⟨Pc,t4⟩)
  |((with_reducible refine fF (live:=[(3,false)]) (fun(SK:Int)=>⟨[(3,.int .i64 SK)],[],s⟩) (fun J=>?_) ?_);rotate_left;rintro SK)
  |simp -implicitDefEqProofs only[go_sem,seval])
set_option maxRecDepth 4000
def zm(n_0:Int):Option (Int):=
 jn (
  iter (fun((x2,k3):Int×Int)=>
   if decide (k3<n_0)then
    some (.inl (aC (2*x2),aC (k3+1)))
   else
    some (.inr x2)) (1,0)) fun(x1:Int)=>
 some x1
def qG(bF:Int):Option (Int×Int×Bool):=
 if(decide (bF<257))||(decide (bF>285))then
  some (0,0,false)
 else
  if bF==285 then
   some (258,0,true)
  else
   jn (
    iter (fun((at3,k4):Int×Int)=>
     if decide (k4<bF)then
      jn (
       if decide (k4>=265)then
        some (aC (Int.tdiv (aC (k4 -261)) 4))
       else
        some 0) fun(n10:Int)=>
      bn (zm n10) fun r11=>
      some (.inl (aC (at3+r11),aC (k4+1)))
     else
      some (.inr at3)) (3,257)) fun(at2:Int)=>
   if decide (bF<265)then
    some (at2,0,true)
   else
    some (at2,aC (Int.tdiv (aC (bF -261)) 4),true)
def nJ(bF:Int):Option (Int×Int×Bool):=
 if(decide (bF<0))||(decide (bF>29))then
  some (0,0,false)
 else
  jn (
   iter (fun((at3,k4):Int×Int)=>
    if decide (k4<bF)then
     jn (
      if decide (k4>=4)then
       some (aC (Int.tdiv (aC (k4 -2)) 2))
      else
       some 0) fun(n10:Int)=>
     bn (zm n10) fun r11=>
     some (.inl (aC (at3+r11),aC (k4+1)))
    else
     some (.inr at3)) (1,0)) fun(at2:Int)=>
  if decide (bF<4)then
   some (at2,0,true)
  else
   some (at2,aC (Int.tdiv (aC (bF -2)) 2),true)
end Go.AB
end
section
namespace Go.AB
open Go
structure HT where
 B:Nat
 lens:List Int
instance:Inhabited HT:=⟨⟨0,[]⟩⟩
def gG(l:List Int)(n:Nat):Int:=if n=0 then 0 else((l.filter fun x=>x==(n:Int)).length:Int)
def tH(l:List Int)(n:Int):Int:=gG l n.toNat
def idxs(l:List Int):List Int:=(List.range l.length).map fun(k:Nat)=>(k:Int)
def su(l:List Int):List Int:=((List.range 15).map fun n=>(idxs l).filter fun k=>ix l k==((n+1:Nat):Int)).flatten
def gJ(t:HT)(r:bC):Option (Int×Int×bC):=
 iter (fun((code,first,at_,n,r):Int×Int×Int×Int×bC)=>
  if decide (n<=15)then
   if at_==((su t.lens).length:Int)then
    some (.inr (0,13,r))
   else
    bn (eW r 1) fun g=>
    if g.2.1 !=0 then
     some (.inr (0,g.2.1,g.2.2))
    else
     bt (0<=n/\n<16)<|
     if decide (aC ((aC (Ht .i64 (aC (kC .i64 code 1)) (aC (g.1.toNat:Int)))) -(aC (kC .i64 first 1)))<tH t.lens n)then
      bt (0<=aC ((aC (at_+(aC (Ht .i64 (aC (kC .i64 code 1)) (aC (g.1.toNat:Int)))))) -(aC (kC .i64 first 1)))/\aC ((aC (at_+(aC (Ht .i64 (aC (kC .i64 code 1)) (aC (g.1.toNat:Int)))))) -(aC (kC .i64 first 1)))<(su t.lens).length)<|
      some (.inr (ix (su t.lens) (aC ((aC (at_+(aC (Ht .i64 (aC (kC .i64 code 1)) (aC (g.1.toNat:Int)))))) -(aC (kC .i64 first 1)))),0,g.2.2))
     else
      some (.inl (aC (Ht .i64 (aC (kC .i64 code 1)) (aC (g.1.toNat:Int))),aC ((aC (kC .i64 first 1))+tH t.lens n),aC (at_+tH t.lens n),aC (n+1),g.2.2))
  else
   some (.inr (0,13,r))) (0,0,0,1,r)
theorem MT{X Y α:Type}{o:Option (X⊕Y)}{z:X⊕Y}{F:X->Option α}{G:Y->Option α}{r:Option α}(h:o=some z)(k:kF F G z=r):Dt o F G=r:=by
 rw[h]
 cases z<;>exact k
theorem Ka{X Y α:Type}{o:Option (X⊕Y)}{z:X⊕Y}{F:X->Option α}{G:Y->Option α}{r:Option α}(h:o=some z)(k:kF F G z=r):rA o F G=r:=by
 rw[h]
 cases z<;>exact k
theorem uX{X Y α:Type}{o:Option (X⊕Y)}{F:X->Option α}{G:Y->Option α}{P:α->Prop}(Q:X⊕Y->Prop)(h:∃z,o=some z/\Q z)(k:∀z,Q z->∃x,kF F G z=some x/\P x):∃x,Dt o F G=some x/\P x:=by
 obtain⟨z,hz,hq⟩:=h
 obtain⟨x,hx,hp⟩:=k z hq
 exact⟨x,MT hz hx,hp⟩
theorem My{X Y α:Type}{o:Option (X⊕Y)}{F:X->Option α}{G:Y->Option α}{P:α->Prop}(Q:X⊕Y->Prop)(h:∃z,o=some z/\Q z)(k:∀z,Q z->∃x,kF F G z=some x/\P x):∃x,rA o F G=some x/\P x:=by
 obtain⟨z,hz,hq⟩:=h
 obtain⟨x,hx,hp⟩:=k z hq
 exact⟨x,Ka hz hx,hp⟩
theorem KA{X α:Type}{o:Option X}{F:X->Option α}{P:α->Prop}(Q:X->Prop)(h:∃z,o=some z/\Q z)(k:∀z,Q z->∃x,F z=some x/\P x):∃x,bn o F=some x/\P x:=by
 obtain⟨z,hz,hq⟩:=h
 obtain⟨x,hx,hp⟩:=k z hq
 exact⟨x,ag hz hx,hp⟩
theorem WS{X α:Type}{o:Option X}{F:X->Option α}{P:α->Prop}(Q:X->Prop)(h:∃z,o=some z/\Q z)(k:∀z,Q z->∃x,F z=some x/\P x):∃x,jn o F=some x/\P x:=by
 obtain⟨z,hz,hq⟩:=h
 obtain⟨x,hx,hp⟩:=k z hq
 exact⟨x,ey hz hx,hp⟩
theorem ml(p:UInt8->Bool)(h:((List.range 256).all fun n=>p (UInt8.ofNat n))=true)(c:UInt8):p c=true:=by
 have:=List.all_eq_true.1 h c.toNat (List.mem_range.2 c.toNat_lt)
 simpa using this
end Go.AB
end
