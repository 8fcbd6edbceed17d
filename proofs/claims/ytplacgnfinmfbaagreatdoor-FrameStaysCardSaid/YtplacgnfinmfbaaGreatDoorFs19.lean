/- A part. -/
import Derived.Test.YtplacgnfinmfbaaGreatDoorFs18
set_option linter.unusedSimpArgs false
set_option linter.unusedVariables false
section
set_option maxRecDepth 16000
namespace Go.AB
open Go
open Go.Proofs.Tryz (prog)
attribute[-go_sem] Nat.add_zero pj cT ck cN bK cj
def Km:IC:=dec 0x1b18d247fb45d73f931512e1726055e8917ca603104a85be7bc53d20e68824473a
theorem RS:aS prog 259 12 [⟨2,true,none⟩] Km=true:=by kernel_rfl
def C3:IC:=dec 0x91ff951982b66d76f5e581b30eeea30f1efb6c8fdc211acdcc339a25b46942de1cbbc6e892847f128cabe557f2ddf6d893b62ede0e969ced7ac885632659cd397f15b391b9804ef5f2af02d66aefbdaf4fe78797092a17f7e6a73071a68af5a57ec00000000000000000000000000000a8c164b8fcc000000000000000000000000000000058e353a
theorem Mr:aS prog 246 21 [⟨2,false,some (16,true)⟩] C3=true:=by kernel_rfl
def Gp:IC:=dec 0x177e6ab2dbb0d0e46d6fb01b3a6c6f125f66c07ca3bdf034e15b8bb79be402178e6885900d2f25b6005980e8707b046a89aba55d2d7e814a3790d0d6bd1b85f6dd6b4fe44c4c790feab470a97acd4f3617c2c88d0d2eb5538748917abd563e313f654f1dd0cbd4333594e561c41086661ede4cf5b62a2391a0b41682d05a0b41682d05a0b41682d05a0b41682688216eac4dc0981302604c0981302604c0981302604c098130260155662dda995b
theorem Pp:aS prog 278 24 [⟨2,false,some (16,true)⟩] Gp=true:=by kernel_rfl
def Kg:IC:=dec 0xa0b3bba5e7f034a219f087598e7eaa047e1b1b14726be6c82988f2fc4e2e5ea68dac617610e2a3125df87fa5222ee624c880eb445315d9857cc514e75613d663ecef7b216d3d46d99df20f444258031ad8541b5c757a2cc9876bd4f7987cfbfd786b99aae962411a8e737eb2a75bef04ad957790163fc69cca3c8cba9e6c840df49b43283f2ee5bf43ed411c31cd0e0835dfc00c5a97d8dbd1796e20bc1782f05e0bc1782f05e0bc1782ecd366cca391b3aa88c1cbc35aca4dc511eed4beb5aba2129d0ba0e28ae0f5e445f173db200798d0f2a78b
theorem RM:aS prog 244 39 [⟨2,true,none⟩,⟨3,true,none⟩] Kg=true:=by kernel_rfl
def Gm:IC:=dec 0x149998c2ffec42e531ba59904d02c48a9c0a56c7cd23b460c898342c022b5b4473a
theorem Pn:aS prog 245 8 [⟨2,true,none⟩] Gm=true:=by kernel_rfl
def Hx(l:List Int)(s:ae)(rs:List AV)(s':ae):Prop:=(∃b cap sp,rs=[.arr b 0 l.length cap]/\s b=none/\0<cap/\l.length<=cap/\(flat l++sp).length=cap*1/\views (flat l++sp)=flat l++sp/\s'=s.set b (.cells (flat l++sp)))\/(l=[]/\s'=s/\∃b,rs=[.arr b 0 0 0])
theorem LV{o:Bool}{l:List Int}{s:ae}(hr:l.length*8<=room):FN prog 245 [.sl o 1 l.length (flat l)] s (Hx l s):=by
 refine FN.Lt (FO Pn rfl rfl ?_)
 generalize hQ:(fun rs s'=>∃s2,Sub s2 s'/\Hx l s rs s2)=Q
 have hq:∀rs s' s2,Sub s2 s'->Hx l s rs s2->Q rs s':=fun rs s' s2 h1 h2=>by rw[<-hQ];exact⟨s2,h1,h2⟩
 rw[Gm]
 conv in dec _=>reduce
 simp -implicitDefEqProofs only[go_sem,seval]
 intro v hv
 refine⟨fun h=>hq _ _ s (Sub.refl s) (.inr ⟨List.eq_nil_of_length_eq_zero (hv (by simpa using h)),rfl,0,rfl⟩),fun _ b1 hb1=>?_⟩
 rw[oU,bd]
 by_cases hl:l=[]
 ·subst hl
  refine pa rfl rfl (Nat.le_refl 0) ?_
  simp -implicitDefEqProofs only[go_sem,seval]
  exact hq _ _ s ((Sub.refl s).set hb1) (.inr ⟨rfl,rfl,_,rfl⟩)
 ·have hn:0<l.length:=List.length_pos_iff.2 hl
  refine fm rfl rfl (by omega) (by rw[Nat.zero_add];exact hr) fun b2 cap hb2 fL=>?_
  rw[Nat.zero_add]at fL
  have hz:(List.replicate (cap -(0+l.length)) [.int .i64 0]).flatten=flat (List.replicate (cap -l.length) (0:Int)):=by rw[iw,Nat.zero_add];rfl
  rw[hz]
  simp -implicitDefEqProofs only[go_sem,seval,Nat.zero_add,List.nil_append]
  have Rm:s b2=none:=((Sub.refl s).set hb1).none hb2
  refine hq _ _ _ (Sub.IV ((Sub.refl s).set hb1)) (.inl ⟨b2,cap,_,rfl,Rm,by omega,fL,?_,?_,rfl⟩)
  ·rw[List.length_append,aR,aR,List.length_replicate]
   show l.length*1+(cap -l.length)*1=cap*1
   omega
  ·rw[nr,bd,bd]
theorem O4{o:Bool}{l:List Int}{s:ae}(hr:l.length*8<=room):FE prog 245 [.sl o 1 l.length (flat l)] s [.sl true 1 l.length (flat l)] s:=
 FN.IP (aR l) (bd l) ⟨rfl,rfl⟩ ((LV hr).mono fun rs s' h=>by
  rcases h with⟨b,cap,sp,h1,h2,h3,h4,h5,h6,h7⟩|⟨h1,h2,h3⟩
  ·exact .inl ⟨b,cap,sp,h1,by rw[h7];exact ch,h3,h4,h5,by rw[h7,qW h2];exact Sub.refl s⟩
  ·subst h1;exact .inr ⟨rfl,rfl,by rw[h2];exact Sub.refl s,h3⟩)
abbrev Oz(l:List Int):AV:=.sl false 1 l.length (flat l)
def kc(l:List Int):List AV:=[.int .i64 (gx l 0),.int .i64 (gx l 1),.int .i64 (gx l 2),.int .i64 (gx l 3),.int .i64 (gx l 4),.int .i64 (gx l 5),.int .i64 (gx l 6),.int .i64 (gx l 7),.int .i64 (gx l 8),.int .i64 (gx l 9),.int .i64 (gx l 10),.int .i64 (gx l 11),.int .i64 (gx l 12),.int .i64 (gx l 13),.int .i64 (gx l 14),.int .i64 (gx l 15)]
def used(l:List Int):List Int:=(idxs l).filter fun k=>decide (ix l k>0)
def FJ(l:List Int)(cd:List UInt32)(b cap:Nat):List AV:=Oz l::.sl false 1 cd.length (flat cd)::(kc l++[.arr b 0 (uw l).length cap])
def C8:AV->Bool
 |.ref _ _=>true
 |.bool _=>true
 |_=>false
def uf:SO->Bool
 |.cells cs=>cs.any C8
 |_=>true
theorem A3(pre post cs:List AV)(b o:Nat):uf (.cells (Wi pre (.ref b o::cs) post))=true:=by
 show(pre++.ref b o::cs++post).any C8=true
 simp[C8]
theorem zi(k:IntKind)(n:Int)(x:Bool)(l:List AV):uf (.cells (.int k n::.bool x::l))=true:=rfl
theorem zj(b o:Nat)(l:List AV):uf (.cells (.ref b o::l))=true:=rfl
theorem yu(l:List Int):(flat l).any C8=false:=by
 induction l with
 |nil=>rfl
 |cons a l ih=>rw[jT];show(false||(flat l).any C8)=false;rw[ih];rfl
theorem TD(l:List Int)(cd:List UInt32)(b cap:Nat):(FJ l cd b cap).any C8=false:=rfl
def gv(s:ae)(x:HT):Prop:=Fi x.lens/\∃(cd:List UInt32)(b cap:Nat)(sp:List AV),s x.B=some (.cells (FJ x.lens cd b cap))/\(uw x.lens≠[]->sp.any C8=false/\s b=some (.cells (flat (uw x.lens)++sp)))
theorem gv.ne{s:ae}{x:HT}(h:gv s x){B:Nat}{o:SO}(hB:s B=some o)(hn:uf o=true):x.B≠B:=fun e=>by
 obtain⟨_,cd,b,cap,sp,h1,_⟩:=h
 rw[e,hB]at h1
 injection h1 with h1;subst h1
 have:(FJ x.lens cd b cap).any C8=true:=hn
 rw[TD]at this;cases this
theorem gv.set{s:ae}{x:HT}(h:gv s x){B:Nat}{o p:SO}(hB:s B=some o)(hn:uf o=true):gv (s.set B p) x:=by
 have hne:=h.ne hB hn
 obtain⟨h0,cd,b,cap,sp,h1,h2⟩:=h
 refine⟨h0,cd,b,cap,sp,by rw[ah hne];exact h1,fun hs=>⟨(h2 hs).1,?_⟩⟩
 rw[ah fun e=>?_]
 ·exact(h2 hs).2
 ·subst e
  rw[(h2 hs).2]at hB
  injection hB with hB;subst hB
  have:(flat (uw x.lens)++sp).any C8=true:=hn
  rw[List.any_append,yu,(h2 hs).1]at this;cases this
theorem gv.IV{s:ae}{x:HT}(h:gv s x){B0 B1:Nat}{o0 o1 p0 p1:SO}(h0:s B0=some o0)(n0:uf o0=true)(h1:s B1=some o1)(n1:uf o1=true)(hne:B0≠B1):gv ((s.set B0 p0).set B1 p1) x:=(h.set h0 n0).set (by rw[ah hne.symm];exact h1) n1
theorem gv.mono{s s':ae}{x:HT}(h:gv s x)(hs:Sub s s'):gv s' x:=by
 obtain⟨h0,cd,b,cap,sp,h1,h2⟩:=h
 exact⟨h0,cd,b,cap,sp,hs _ _ h1,fun h=>⟨(h2 h).1,hs _ _ (h2 h).2⟩⟩
theorem TH{s:ae}{x:HT}(h:gv s x):FE prog 259 [.ref x.B 0] s [.bool false] s:=by
 obtain⟨h0,cd,b,cap,sp,h1,h2⟩:=h
 obtain⟨B,l⟩:=x
 obtain⟨x,xs,rfl⟩:∃x xs,l=x::xs:=by
  cases l with
  |nil=>exact absurd h0.1 (Nat.lt_irrefl 0)
  |cons x xs=>exact⟨x,xs,rfl⟩
 refine FO RS rfl rfl ?_
 rw[Km]
 conv in dec _=>reduce
 unfold FJ Oz kc at h1
 rw[List.length_cons]at h1
 simp -implicitDefEqProofs only[go_sem,seval,h1,List.cons_append,List.nil_append]
theorem F0(m:List Int)(x:Int)(n:Nat):gx (m++[x]) n=if n≠0/\x=(n:Int)then gx m n+1 else gx m n:=by
 unfold gx
 by_cases h0:n=0
 ·simp[h0]
 ·by_cases hx:x=(n:Int)
  ·simp[h0,hx,List.filter_append]
  ·simp[h0,hx,List.filter_append]
theorem ku(m:List Int):(kc m).length=16:=rfl
theorem Ck(m:List Int){n:Nat}(h:n<16):(kc m)[n]? =some (.int .i64 (gx m n)):=by
 have:n=0\/n=1\/n=2\/n=3\/n=4\/n=5\/n=6\/n=7\/n=8\/n=9\/n=10\/n=11\/n=12\/n=13\/n=14\/n=15:=by omega
 rcases this with h|h|h|h|h|h|h|h|h|h|h|h|h|h|h|h<;>subst h<;>rfl
theorem sub_one{cs:List AV}{n:Nat}{a:AV}(h:cs[n]? =some a):AB.sub cs n 1=[a]:=by
 unfold AB.sub
 obtain⟨h1,h2⟩:=List.getElem?_eq_some_iff.1 h
 rw[List.drop_eq_getElem_cons h1,h2];rfl
theorem JF(m:List Int){n:Int}(h0:0<=n)(h:n<16):views (AB.sub (kc m) (n.toNat*1) 1)=[.int .i64 (vC m n)]:=by rw[Nat.mul_one,sub_one (Ck m (n:=n.toNat) (by omega))];rfl
theorem QH(m:List Int){x:Int}(h0:0<x)(h:x<16):setAt (kc m) (x.toNat*1) [.int .i64 (vC m x+1)]=kc (m++[x]):=by
 rw[Nat.mul_one]
 have hx:x=(x.toNat:Int):=by omega
 generalize x.toNat=k at hx h0 h
 subst hx
 apply List.ext_getElem?
 intro j
 have hl:(setAt (kc m) k [AV.int .i64 (vC m (k:Int)+1)]).length=16:=by
  have:=ku m
  simp[setAt,this];omega
 by_cases hj:j<16
 ·rw[Ck _ hj,F0]
  have hk:k<16:=by omega
  unfold setAt
  by_cases hjk:j=k
  ·subst hjk
   have ht:(List.take j (kc m)).length=j:=by rw[List.length_take,ku];omega
   rw[List.append_assoc,List.getElem?_append_right (by omega),if_pos ⟨by omega,rfl⟩,ht,Nat.sub_self]
   simp[vC]
  ·rw[if_neg (by omega),<-Ck m hj]
   rcases Nat.lt_or_ge j k with h1|h1
   ·rw[List.append_assoc,List.getElem?_append_left (by simp[ku];omega),List.getElem?_take,if_pos h1]
   ·rw[List.getElem?_append_right (by simp[ku];omega),List.getElem?_drop]
    congr 1
    simp[ku];omega
 ·rw[List.getElem?_eq_none (by omega),List.getElem?_eq_none (by rw[ku];omega)]
theorem O6(m:List Int){x:Int}(h:¬0<x):kc (m++[x])=kc m:=by
 unfold kc
 simp only[F0]
 simp;omega
theorem I8(l:List Int){k:Nat}(h:k<l.length):l.take (k+1)=l.take k++[ix l (k:Int)]:=by rw[List.take_succ_eq_append_getElem h,fo h]
theorem UD(m:List Int)(x:Int):0<=vC m x/\vC m x<=m.length:=by
 unfold vC gx
 split
 ·omega
 ·have:=List.length_filter_le (fun y=>y==(x.toNat:Int)) m;omega
theorem Cl{l:List Int}{s:ae}(hl:l.length<4611686018427387904)(hx:∀x∈l,0<=x/\x<=15):FE prog 246 [Oz l] s [.agg (kc l)] s:=by
 refine FO Mr rfl rfl ?_
 rw[C3]
 conv in dec _=>reduce
 simp -implicitDefEqProofs only[go_sem,seval]
 refine eV l.length (fun k τ=>τ=⟨[(2,.loc (kc [])),(3,.loc (kc (l.take k))),(6,Oz l),(7,.int .i64 l.length),(8,.int .i64 k)],[],s⟩) hl rfl (fun k hk J τ hτ hJ=>?_) (fun J τ hτ=>?_)
 ·subst hτ
  have hlt:decide ((k:Int)<(l.length:Int))=true:=by simp;omega
  have hw:aw ((k:Int)+1)=((k+1:Nat):Int):=by rw[ar (by omega) (by omega)];omega
  have hn:=hJ _ rfl
  rw[I8 l hk]at hn
  have hix:=hx (ix l (k:Int)) (by rw[fo hk];exact List.getElem_mem _)
  have hml:(l.take k).length=k:=by rw[List.length_take];omega
  generalize l.take k=m at hn hml
  have hc:=ku m
  simp -implicitDefEqProofs only[go_sem,seval,hlt,hw,bL]
  generalize ix l (k:Int)=x at hn hix
  refine⟨⟨by omega,by omega⟩,fun hg=>⟨⟨by omega,by omega⟩,?_⟩,fun hg=>?_⟩
  ·have hg:0<x:=of_decide_eq_true hg
   have hd:decide (x.toNat*1+1<=(kc m).length)=true:=by rw[hc];simp;omega
   have hv:=JF m (n:=x) (by omega) (by omega)
   have hz:=UD m x
   have hw2:aw (vC m x+1)=vC m x+1:=ar (by omega) (by omega)
   simp -implicitDefEqProofs only[go_sem,seval,hd,hv,hw2,hw,bL]
   refine⟨⟨by omega,by omega⟩,by rw[hc];omega,?_⟩
   rw[QH m hg (by omega)]
   exact hn
  ·have hg:¬0<x:=of_decide_eq_false hg
   rw[O6 m hg]at hn
   exact hn
 ·subst hτ
  have hlt:decide ((l.length:Int)<(l.length:Int))=false:=by simp
  rw[List.take_length]
  simp -implicitDefEqProofs only[go_sem,seval,hlt,ku l,bL]
  have e1:views (AB.sub (kc l) 0 16)=kc l:=rfl
  simp -implicitDefEqProofs only[go_sem,seval,e1,bL]
  exact⟨rfl,Nat.le_refl _,rfl,rfl⟩
theorem Pj{l:List Int}{s:ae}{Q:List AV->ae->Prop}(hq:∀fs:List UInt32,fs.length=16->Q [.agg (flat fs)] s):FN prog 278 [.agg (kc l)] s Q:=by
 refine FO Pp rfl rfl ?_
 rw[Gp]
 conv in dec _=>reduce
 simp -implicitDefEqProofs only[go_sem,Nat.reduceBEq,Nat.reduceAdd,Nat.reduceMul,Nat.reduceLeDiff,Nat.reduceEqDiff,Nat.reduceBNe,UInt8.reduceToNat,UInt32.reduceToNat]
 have ev:views (kc l)=kc l:=rfl
 refine⟨by rfl,?_⟩
 simp -implicitDefEqProofs only[go_sem,Nat.reduceBEq,Nat.reduceAdd,Nat.reduceMul,Nat.reduceLeDiff,Nat.reduceEqDiff,Nat.reduceBNe,UInt8.reduceToNat,UInt32.reduceToNat,ev]
 refine eV 16 (fun k τ=>∃(fs:List UInt32)(c:UInt32),fs.length=16/\τ=⟨[(1,.loc (kc l)),(2,.loc (flat (List.replicate 16 (0:UInt32)))),(3,.loc (flat fs)),(4,.int .u32 c.toNat),(6,.int .i64 k)],[],s⟩) (by decide) ⟨List.replicate 16 0,0,rfl,rfl⟩ (fun k hk J τ hτ hJ=>?_) (fun J τ hτ=>?_)
 ·obtain⟨fs,c,hf,rfl⟩:=hτ
  have hlt:decide ((k:Int)<16)=true:=by simp;omega
  have hw:aw ((k:Int)+1)=((k+1:Nat):Int):=by rw[ar (by omega) (by omega)];omega
  simp -implicitDefEqProofs only[go_sem,Nat.reduceBEq,Nat.reduceAdd,Nat.reduceMul,Nat.reduceLeDiff,Nat.reduceEqDiff,Nat.reduceBNe,UInt8.reduceToNat,UInt32.reduceToNat,hlt,hw,bL]
  refine⟨fun hg=>?_,fun hg=>?_⟩
  ·have hg:0<(k:Int):=of_decide_eq_true hg
   have hw2:aw ((k:Int) -1)=(k:Int) -1:=ar (by omega) (by omega)
   have hd:decide (((k:Int) -1).toNat*1+1<=(kc l).length)=true:=by rw[ku];simp;omega
   have hv:=JF l (n:=(k:Int) -1) (by omega) (by omega)
   simp -implicitDefEqProofs only[go_sem,Nat.reduceBEq,Nat.reduceAdd,Nat.reduceMul,Nat.reduceLeDiff,Nat.reduceEqDiff,Nat.reduceBNe,UInt8.reduceToNat,UInt32.reduceToNat,hw2,hd,hv,bL]
   have hs:=fun x=>Lj fs (n:=1) rfl x (j:=(k:Int)) (by omega) (by omega)
   have hr:=GZ fs (n:=1) rfl (j:=(k:Int)) (by omega) (by omega)
   rw[Int.toNat_natCast]at hr
   refine⟨⟨by omega,by omega⟩,⟨by omega,by omega⟩,hr.1,?_⟩
   generalize dw (kl .u32 _ 1)=c'
   have h2:=hs c'
   rw[Int.toNat_natCast]at h2
   rw[hw,show setAt (flat fs) (k*1) [.int .u32 c'.toNat]=flat (fs.set k c') from h2]
   exact hJ _ ⟨fs.set k c',c',by rw[List.length_set,hf],rfl⟩
  ·exact hJ _ ⟨fs,c,hf,rfl⟩
 ·obtain⟨fs,c,hf,rfl⟩:=hτ
  have hlt:decide ((16:Int)<16)=false:=by decide
  have hlf:(flat fs).length=16:=by rw[aR,hf];rfl
  have e1:views (AB.sub (flat fs) 0 16)=flat fs:=by
   unfold AB.sub
   rw[List.drop_zero,List.take_of_length_le (by omega),bd]
  have e2:setAt (flat (List.replicate 16 (0:UInt32))) 0 (flat fs)=flat fs:=by
   have h16:(flat (List.replicate 16 (0:UInt32))).length=16:=rfl
   unfold setAt
   rw[List.take_zero,List.nil_append,hlf,List.drop_eq_nil_of_le (by omega),List.append_nil]
  simp -implicitDefEqProofs only[go_sem,Nat.reduceBEq,Nat.reduceAdd,Nat.reduceMul,Nat.reduceLeDiff,Nat.reduceEqDiff,Nat.reduceBNe,UInt8.reduceToNat,UInt32.reduceToNat,hlt,hlf,e1,e2,bL]
  exact⟨by decide,hq fs hf⟩
theorem QJ{l:List Int}{s:ae}{Q:List AV->ae->Prop}{k0:Int}(hk:ly l=some k0)(hx:0<=k0->0<l.length/\l.length<=320/\∀x∈l,0<=x/\x<=15)
 (h0:k0<0->Q [.sl true 1 0 [],.int .i64 13] s)(h1:0<=k0->∀cd:List UInt32,cd.length=l.length->Q [.sl true 1 cd.length (flat cd),.int .i64 0] s):FN prog 244 [Oz l] s Q:=by
 refine FO RM rfl rfl ?_
 rw[Kg]
 conv in dec _=>reduce
 simp -implicitDefEqProofs only[go_sem,seval]
 refine aF (fun _ h=>E1 h) (fun r hr=>?_) ⟨k0,hk,rfl⟩
 subst hr
 simp -implicitDefEqProofs only[go_sem,seval,bL]
 refine⟨fun hc=>h0 (of_decide_eq_true hc),fun hc=>?_⟩
 have hc:¬k0<0:=of_decide_eq_false hc
 obtain⟨hl0,hl1,hx⟩:=hx (by omega)
 have h1:=h1 (by omega)
 clear h0 hk
 refine FE.app (Cl (by omega) hx) ?_
 simp -implicitDefEqProofs only[go_sem,seval,bL]
 refine Pj fun fs hfs=>?_
 have hlf:(flat fs).length=16:=by rw[aR,hfs];rfl
 have hvf:=bd fs
 simp -implicitDefEqProofs only[go_sem,seval,hlf,hvf,bL]
 refine⟨by omega,by omega,by unfold room;omega,fun b hb=>?_⟩
 rw[List.append_nil]
 clear hlf hvf
 refine eV l.length (fun k τ=>∃fs cd:List UInt32,fs.length=16/\cd.length=l.length/\τ=⟨[(4,.loc (flat fs)),(5,.arr b 0 l.length l.length),(17,Oz l),(18,.int .i64 l.length),(19,.int .i64 k)],[],s.set b (.cells (flat cd))⟩) (by omega) ⟨fs,List.replicate l.length 0,hfs,by simp,rfl⟩ (fun k hk J τ hτ hJ=>?_) (fun J τ hτ=>?_)
 ·obtain⟨fs,cd,hf,hcd,rfl⟩:=hτ
  have hlt:decide ((k:Int)<(l.length:Int))=true:=by simp;omega
  have hw:aw ((k:Int)+1)=((k+1:Nat):Int):=by rw[ar (by omega) (by omega)];omega
  have hix:=hx (ix l (k:Int)) (by rw[fo hk];exact List.getElem_mem _)
  simp -implicitDefEqProofs only[go_sem,seval,hlt,bL]
  generalize ix l (k:Int)=x at hix
  refine⟨⟨by omega,by omega⟩,fun hg=>?_,fun hg=>?_⟩
  ·have hg:0<x:=of_decide_eq_true hg
   have hr:=GZ fs (n:=1) rfl (j:=x) (by omega) (by omega)
   have hd:=decide_eq_true hr.1
   have hr2:views (AB.sub (flat fs) (x.toNat*1) 1)=[.int .u32 (ix fs x).toNat]:=hr.2
   have hs:=fun c=>Lj fs (n:=1) rfl c (j:=x) (by omega) (by omega)
   have hs2:setAt (flat cd) (k*1) [.int .u32 (ix fs x).toNat]=flat (cd.set k (ix fs x)):=by
    have:=Lj cd (n:=1) rfl (ix fs x) (j:=(k:Int)) (by omega) (by omega)
    rwa[Int.toNat_natCast]at this
   have hk1:k*1+1<=(flat cd).length:=by
    have:=(GZ cd (n:=1) rfl (j:=(k:Int)) (by omega) (by omega)).1
    rwa[Int.toNat_natCast]at this
   simp -implicitDefEqProofs only[go_sem,seval,hd,hr2,hs2,hw,bL]
   refine⟨⟨by omega,by omega⟩,⟨by omega,by omega⟩,hk1,⟨by omega,by omega⟩,⟨by omega,by omega⟩,hr.1,?_⟩
   exact hJ _ ⟨_,cd.set k _,by rw[Ha fs (by omega) (by omega),hf],by rw[List.length_set,hcd],rfl⟩
  ·simp -implicitDefEqProofs only[go_sem,seval,hw,bL]
   exact hJ _ ⟨fs,cd,hf,hcd,rfl⟩
 ·obtain⟨fs,cd,hf,hcd,rfl⟩:=hτ
  have hlt:decide ((l.length:Int)<(l.length:Int))=false:=by simp
  simp -implicitDefEqProofs only[go_sem,seval,hlt,bL]
  right
  have hlc:(flat cd).length=l.length:=by rw[aR,hcd];exact Nat.mul_one _
  have dt:decide (l.length*1<=(flat cd).length)=true:=by rw[hlc];simp
  have e1:views (AB.sub (flat cd) 0 (l.length*1))=flat cd:=by
   unfold AB.sub
   rw[List.drop_zero,List.take_of_length_le (by omega),bd]
  refine⟨hl0,Nat.le_refl _,fun _=>⟨rfl,?_,?_⟩,?_⟩
  ·simp only[ch,xM];omega
  ·simp only[ch,vG.sizeV];omega
  ·have h1:=h1 cd hcd
   rw[hcd]at h1
   simp -implicitDefEqProofs only[go_sem,seval,ch,jf,vG.frzK,dt,e1,qW hb,cond_true,bL]
   exact h1
def N3:IC:=dec 0x1ff0ab553080736dfe6da5a5016746a128bf26c047b370519613f41d2f1d0a4544c66c96caa0f7c6749a9986e437c94411ac75b07ff2d0148a6352e7b8c04c133e06dea3f840cfe9590f0caeadabe780e5568cf2cdf2d852656d8f08256f3f18c467312b5ec51bfa173efe73ce161467f10a37dbd101cd5b29453e830b76d35878b8d7f8bd7c89f82ec5f2ee724f67f1e2a1bc3f3807def6e30a51f89c6bd92824b126902000000000000039d64e83085e8642674c348bac76189ddc92e0c70907b5bbe22c28206c393e0586e647bb4629339e8adcae22b78376847e4aeabf8c5cb228a135081f35f89d807d4c81a097ac
theorem Vr:aS prog 197 51 [⟨2,true,none⟩,⟨3,true,none⟩] N3=true:=by kernel_rfl
def N7:IC:=dec 0xed146486bd4d4e88c059262de53264f86fd294a7895cb5bed24c664d4a89e0c43bce191bb8d8b6ffefa3aa6db795e869edfbac68d8d6cbf98eba43e1ed337c4cec5cf6f89e31831cff30c5e28e159b22eef16a25ffceddc323987055136b504800a1f6ab987ed8f5cf3e52fa41a8cf1c7bcf5fca17828f48c08f303fb20c51ba5ae4502df3040ea03e6b73a8dda8c1869cb09dea82f10140bef82777045a368b145b897a7e89db9a22bceb8b5a4d75260eebc44edd18ff3e3c298e97a8e415c57d68320cfab3757076ebe542b7ada1ed4f4fde354a3146c406832fff73dce0e2cc44db246a0a78d89a8f464a7b6d2256c486f1d8644b57e2dd3ce687aba1cfde1421f1d2c6d1095c78dc0d6859a1810b7bb947b1892365bd05fc41d0eb7079603c311ac076ea0e155a0f7055815870a4302ab0d697eb2003cc00844b
theorem Vv:aS prog 269 77 [⟨4,true,none⟩,⟨5,true,none⟩] N7=true:=by kernel_rfl
section
variable{α:Type}[bp α]
def Ov:cO->List AV
 |none=>[]
 |some (_,_,sp)=>sp
theorem Qo{E:St}{d:Option Nat}{K:St->Prop}{sz by':Nat}{s:ae}{r:cO}{l:List α}{z v:α}(hσ:E.s=ji s r l)(h:gR s r l)(hz:sz=bp.w α)(hr:(l.length+1)*by'<=room)
 (hK:∀s' r',Sub s s'->gR s' r' (l++[v])->(∀c∈Ov r',c∈Ov r\/c∈bp.cells z)->K ({E with s:=ji s' r' (l++[v])}.put d (iO r' (l.length+1)))):
 dG sz by' (bp.cells z) E d K (iO r l.length) (some (1,bp.cells v)):=by
 subst hz
 have hcz:(bp.cells z).length=bp.w α:=bp.len z
 have hcv:flat [v]=bp.cells v:=by unfold flat;simp
 have hvz:views (bp.cells z)=bp.cells z:=bp.vw z
 have fresh:∀(s':ae)(b' c6:Nat),s' b'=none->l.length+1<=c6->gR s' (some (b',c6,flat (List.replicate (c6 -(l.length+1)) z))) (l++[v]):=fun s' b' c6 hb hc=>by
  refine⟨hb,by omega,by simpa using hc,?_,bd _⟩
  rw[List.length_append,aR,aR,List.length_replicate,List.length_append,<-Nat.add_mul]
  congr 1
  simp;omega
 have zs:∀k,∀c∈flat (List.replicate k z),c∈Ov r\/c∈bp.cells z:=fun k c hc=>by
  rw[iw]at hc
  obtain⟨x,hx,hc⟩:=List.mem_flatten.1 hc
  rw[List.eq_of_mem_replicate hx]at hc
  exact .inr hc
 cases r with
 |none=>
  obtain rfl:l=[]:=h
  show dG (bp.w α) by' (bp.cells z) E d K (.arr 0 0 0 0) _
  refine fm hcz (olds:=[]) rfl (by simp) hr fun b' c6 hb' hc=>?_
  rw[List.nil_append,<-iw,<-hcv]
  rw[hσ]at hb'⊢
  have:=hK s (some (b',c6,flat (List.replicate (c6 -(0+1)) z))) (Sub.refl s) (fresh s b' c6 hb' hc) (zs _)
  exact this
 |some x=>
  obtain⟨b,cap,sp⟩:=x
  obtain⟨h1,h2,h3,h4,h5⟩:=h
  have hs:E.s b=some (.cells (flat l++sp)):=by rw[hσ];exact ch
  show dG (bp.w α) by' (bp.cells z) E d K (.arr b 0 l.length cap) _
  by_cases hc:l.length+1<=cap
  ·refine oz hcz hs (by rw[h4,Nat.zero_add];exact Nat.le_refl _) hc ?_
   have hsp:[v].length*bp.w α<=sp.length:=by
    rw[List.length_append,aR]at h4
    have:(l.length+1)*bp.w α<=cap*bp.w α:=Nat.mul_le_mul_right _ hc
    rw[Nat.add_mul,Nat.one_mul]at this
    simp;omega
   have st:=D9 l [v] sp (bp.w α) rfl hsp
   rw[Nat.zero_add,<-hcv,st]
   have e:E.s.set b (.cells (flat (l++[v])++sp.drop ([v].length*bp.w α)))=ji s (some (b,cap,sp.drop ([v].length*bp.w α))) (l++[v]):=by
    rw[hσ]
    show(s.set b _).set b _=s.set b _
    exact set_set ..
   rw[e]
   refine hK s _ (Sub.refl s) ⟨h1,h2,by simpa using hc,?_,?_⟩ fun c hc=>.inl (List.mem_of_mem_drop hc)
   ·rw[List.length_append,aR]at h4⊢
    rw[List.length_drop,List.length_append,Nat.add_mul]
    omega
   ·unfold views at h5⊢
    rw[List.map_drop,h5]
  ·refine fm hcz (va hs (by
    rw[Nat.zero_add,h4];exact Nat.mul_le_mul_right _ h3)) (by omega) hr fun b' c6 hb' hc'=>?_
   have ho:views (AB.sub (flat l++sp) 0 (l.length*bp.w α))=flat l:=by
    have:=nk l sp (bp.w α) 0 l.length rfl (by omega)
    rw[Nat.zero_mul]at this
    rw[this,List.drop_zero,List.take_length,bd]
   rw[ho,<-iw,<-hcv,<-ew]
   rw[hσ]at hb'⊢
   have hb0:(s.set b (.cells (flat l++sp))) b'=none:=hb'
   exact hK (s.set b (.cells (flat l++sp))) (some (b',c6,flat (List.replicate (c6 -(l.length+1)) z))) ((Sub.refl s).set h1) (fresh _ b' c6 hb0 hc') (zs _)
end
namespace SI
theorem RC{Lb:Nat}{s:ae}{Q:List AV->ae->Prop}(hq:Q [] s):FN prog 296 [.arr 0 0 0 0,.int .i64 0,.int .i64 0,.fn 248 [] [.ref Lb 0]] s Q:=by
 refine FO AZ rfl rfl ?_
 rw[th]
 conv in dec _=>reduce
 have w1:aw ((0:Int)+1)=1:=rfl
 have h1:decide ((1:Int)<0)=false:=rfl
 simp -implicitDefEqProofs only[go_sem,seval,w1]
 refine eV 0 (fun _ τ=>τ=(⟨[(0,.arr 0 0 0 0),(1,.int .i64 0),(2,.int .i64 0),(3,.fn 248 [] [.ref Lb 0]),(8,.int .i64 1)],[],s⟩:St)) (by decide) rfl (fun k hk=>by omega) ?_
 rintro J τ rfl
 simp -implicitDefEqProofs only[go_sem,seval,h1,bL]
 exact hq
theorem P6{Lb:Nat}{s:ae}{Q:List AV->ae->Prop}(hq:Q [] s):FN prog 279 [.arr 0 0 0 0,.int .i64 0,.fn 248 [] [.ref Lb 0]] s Q:=by
 refine FO Kw rfl rfl ?_
 rw[C6]
 conv in dec _=>reduce
 have h1:decide ((20:Int)<=0)=false:=rfl
 have h2:decide ((20:Int)<0)=false:=rfl
 simp -implicitDefEqProofs only[go_sem,seval]
 refine eV 0 (fun _ τ=>τ=(⟨[(0,.arr 0 0 0 0),(1,.int .i64 0),(2,.fn 248 [] [.ref Lb 0]),(6,.int .i64 20),(7,.int .i64 0),(8,.int .i64 20)],[],s⟩:St)) (by decide) rfl (fun k hk=>by omega) ?_
 rintro J τ rfl
 simp -implicitDefEqProofs only[go_sem,seval,h1,bL]
 refine RC ?_
 simp -implicitDefEqProofs only[go_sem,seval,bL]
 refine eV 0 (fun _ τ=>τ=(⟨[(0,.arr 0 0 0 0),(1,.int .i64 0),(2,.fn 248 [] [.ref Lb 0]),(6,.int .i64 20)],[],s⟩:St)) (by decide) rfl (fun k hk=>by omega) ?_
 rintro J τ rfl
 simp -implicitDefEqProofs only[go_sem,seval,h2,bL]
 exact hq
theorem P1{Lb:Nat}{s:ae}{Q:List AV->ae->Prop}(hq:Q [] s):FN prog 247 [.arr 0 0 0 0,.fn 248 [] [.ref Lb 0]] s Q:=by
 refine FO Dk rfl rfl ?_
 rw[xr]
 conv in dec _=>reduce
 simp -implicitDefEqProofs only[go_sem,seval]
 refine P6 ?_
 simp -implicitDefEqProofs only[go_sem,seval,bL]
 exact hq
end SI
def ul(l:List Int)(k:Nat):List Int:=((List.range k).map fun(i:Nat)=>(i:Int)).filter fun i=>decide (0<ix l i)
theorem Jc(l:List Int)(k:Nat):ul l (k+1)=if 0<ix l (k:Int)then ul l k++[(k:Int)]else ul l k:=by
 unfold ul
 rw[List.range_succ,List.map_append,List.filter_append]
 by_cases h:0<ix l (k:Int)
 ·rw[if_pos h];simp[h]
 ·rw[if_neg h];simp[h]
theorem TM(l:List Int)(k:Nat):(ul l k).length<=k:=by
 unfold ul
 refine Nat.le_trans (List.length_filter_le _ _) ?_
 simp
theorem TN{l:List Int}{k:Nat}{x:Int}(h:x∈ul l k):0<=x/\x<k:=by
 unfold ul at h
 obtain⟨i,hi,rfl⟩:=List.mem_map.1 (List.mem_filter.1 h).1
 have:=List.mem_range.1 hi
 omega
theorem TO(l:List Int):∀k,(ul l k).Pairwise fun u v=>u<v
 |0=>List.Pairwise.nil
 |k+1=>by
  rw[Jc]
  split
  ·refine List.pairwise_append.2 ⟨TO l k,List.pairwise_singleton _ _,fun x hx y hy=>?_⟩
   rw[List.mem_singleton]at hy
   have:=TN hx
   omega
  ·exact TO l k
theorem TC(n:Nat):∀(l:List Int)(o:Nat),(sy n l o).Pairwise fun u v=>u<v
 |[],_=>List.Pairwise.nil
 |x::l,o=>by
  rw[sy]
  split
  ·refine List.pairwise_cons.2 ⟨fun y hy=>?_,TC n l _⟩
   have:=I7 (n:=n) l (o+1) y hy
   omega
  ·exact TC n l _
theorem ZE{l:List Int}{p:Int->Bool}{x:Int}(h:x∈(idxs l).filter p):0<=x/\x<l.length/\p x=true:=by
 have h2:=List.mem_filter.1 h
 unfold idxs at h2
 obtain⟨i,hi,rfl⟩:=List.mem_map.1 h2.1
 have:=List.mem_range.1 hi
 exact⟨by omega,by omega,h2.2⟩
theorem OG{n:Nat}{l:List Int}{x:Int}(h:x∈sy n l 0):ix l x=(n:Int):=by
 rw[<-Mo]at h
 have:=(ZE h).2.2
 simpa using this
theorem SG{l:List Int}{x:Int}:∀m,x∈pre l m->0<ix l x/\ix l x<=(m:Int)
 |0,h=>absurd h List.not_mem_nil
 |m+1,h=>by
  rw[pre]at h
  rcases List.mem_append.1 h with h|h
  ·have:=SG m h;omega
  ·have:=OG h;omega
theorem Ok(l:List Int):∀m,fk (SI.fy l) (pre l m)
 |0=>List.Pairwise.nil
 |m+1=>by
  rw[pre]
  refine fk.app.2 ⟨Ok l m,?_,fun a ha b hb=>?_⟩
  ·refine List.Pairwise.imp_of_mem (fun{x y} hx hy hxy=>?_) (TC (m+1) l 0)
   have h1:=OG hx
   have h2:=OG hy
   unfold SI.fy
   rw[h1,h2];simp;omega
  ·have h1:=SG m ha
   have h2:=OG hb
   unfold SI.fy
   rw[h2];simp;omega
theorem K3(l:List Int):∀m,(pre l m).Perm ((idxs l).filter fun x=>decide (0<ix l x/\ix l x<=(m:Int)))
 |0=>by
  rw[List.filter_eq_nil_iff.2]
  ·exact List.Perm.refl _
  ·intro x _;simp<;>omega
 |m+1=>by
  rw[pre]
  have h:=List.filter_append_perm (fun x=>decide (0<ix l x/\ix l x<=(m:Int))) ((idxs l).filter fun x=>decide (0<ix l x/\ix l x<=((m+1:Nat):Int)))
  rw[List.filter_filter,List.filter_filter]at h
  refine List.Perm.trans (List.Perm.append (K3 l m) (List.Perm.refl _)) ?_
  rw[<-Mo]
  refine List.Perm.trans (List.Perm.of_eq ?_) h
  congr 1
  ·refine List.filter_congr fun x _=>?_
   rw[Bool.eq_iff_iff];simp;omega
  ·refine List.filter_congr fun x _=>?_
   rw[Bool.eq_iff_iff];simp;omega
theorem P5{l Z:List Int}(hl:Fi l)(h1:Z.Perm (ul l l.length))(h2:fk (SI.fy l) Z):Z=uw l:=by
 have hp:=K3 l 15
 rw[<-Eg]at hp
 have e:((idxs l).filter fun x=>decide (0<ix l x/\ix l x<=((15:Nat):Int)))=ul l l.length:=by
  unfold ul
  refine List.filter_congr fun x hx=>?_
  unfold idxs at hx
  obtain⟨i,hi,rfl⟩:=List.mem_map.1 hx
  have hi:=List.mem_range.1 hi
  have:=hl.2.2 _ (List.getElem_mem hi)
  rw[<-fo hi]at this
  rw[Bool.eq_iff_iff];simp;omega
 rw[e]at hp
 refine List.Perm.eq_of_pairwise (le:=fun x y=>SI.fy l y x=false) (fun a b _ _ h1 h2=>?_) h2 (by rw[Eg];exact Ok l 15) (h1.trans hp.symm)
 unfold SI.fy at h1 h2
 simp only[Bool.or_eq_false_iff,decide_eq_false_iff_not,Bool.and_eq_false_iff,beq_eq_false_iff_ne]at h1 h2
 omega
theorem GY{α:Type}[bp α]{S:ae}{r:cO}{l:List α}(h:gR S r l){B:Nat}{o:SO}(hB:S B=some o)(p:SO):(ji S r l).set B p=ji (S.set B p) r l/\gR (S.set B p) r l:=by
 cases r with
 |none=>exact⟨rfl,h⟩
 |some x=>
  obtain⟨rb,cap,sp⟩:=x
  obtain⟨h1,h2⟩:=h
  have hne:B≠rb:=fun e=>by subst e;rw[h1]at hB;cases hB
  exact⟨set_comm hne,by rw[ah hne.symm];exact h1,h2⟩
abbrev TE(l:List Int)(cd:List UInt32)(a:AV):List AV:=Oz l::.sl false 1 cd.length (flat cd)::(kc l++[a])
theorem aaj{l:List Int}{s:ae}{Q:List AV->ae->Prop}(h0:Oa l<0->∀s',Sub s s'->Q [.fj,.int .i64 13] s')(h1:0<=Oa l->∀s' x,Sub s s'->gv s' x->x.lens=l->Q [.ref x.B 0,.int .i64 0] s'):FN prog 197 [Oz l] s Q:=by
 have cf:room=140737488355328:=rfl
 refine FN.Lt (FO Vr rfl rfl ?_)
 generalize hQ:(fun rs s'=>∃s2,Sub s2 s'/\Q rs s2)=Q'
 rw[N3]
 conv in dec _=>reduce
 simp -implicitDefEqProofs only[go_sem,Nat.reduceBEq,Nat.reduceAdd,Nat.reduceMul,Nat.reduceLeDiff,Nat.reduceEqDiff,Nat.reduceBNe,UInt8.reduceToNat,UInt32.reduceToNat,bL]
 intro b hb
 refine QJ (RZ l) (fun h=>Ie h) (fun h=>?_) (fun h cd hcd=>?_)
 ·simp -implicitDefEqProofs only[go_sem,Nat.reduceBEq,Nat.reduceAdd,Nat.reduceMul,Nat.reduceLeDiff,Nat.reduceEqDiff,Nat.reduceBNe,UInt8.reduceToNat,UInt32.reduceToNat,bL]
  refine⟨fun _=>?_,fun hc=>absurd hc (by decide)⟩
  subst hQ
  exact⟨s,(Sub.refl s).set hb,h0 h s (Sub.refl s)⟩
 ·have hok:=Ie h
  obtain⟨hl0,hl1,hl2⟩:=hok
  have hl8:l.length*8<=room:=by omega
  simp -implicitDefEqProofs only[go_sem,Nat.reduceBEq,Nat.reduceAdd,Nat.reduceMul,Nat.reduceLeDiff,Nat.reduceEqDiff,Nat.reduceBNe,UInt8.reduceToNat,UInt32.reduceToNat,ch,bL]
  refine⟨_,rfl,O4 hl8,_,rfl,Cl (by omega) hl2,?_⟩
  have hcv:views (flat cd)=flat cd:=bd cd
  have hlv:views (flat l)=flat l:=bd l
  have hca:views (kc l)=kc l:=rfl
  simp -implicitDefEqProofs only[go_sem,Nat.reduceBEq,Nat.reduceAdd,Nat.reduceMul,Nat.reduceLeDiff,Nat.reduceEqDiff,Nat.reduceBNe,UInt8.reduceToNat,UInt32.reduceToNat,kc,bL]
  intro B hB
  have hne:B≠b:=fun e=>by subst e;rw[ch]at hB;cases hB
  have hsB:s B=none:=by rw[ah hne]at hB;exact hB
  have hbB:=fun o:SO=>(ah hne.symm:((s.set b (.cells [Oz l])).set B o) b=(s.set b (.cells [Oz l])) b)
  simp -implicitDefEqProofs only[go_sem,Nat.reduceBEq,Nat.reduceAdd,Nat.reduceMul,Nat.reduceLeDiff,Nat.reduceEqDiff,Nat.reduceBNe,UInt8.reduceToNat,UInt32.reduceToNat,ah hne.symm,ch]
  refine eV l.length (fun k τ=>∃(S:ae)(r:cO),τ=⟨[(1,.ref b 0),(6,.ref B 0),(24,Oz l),(25,.int .i64 l.length),(26,.int .i64 k)],[],ji S r (ul l k)⟩/\gR S r (ul l k)/\Sub s S/\S b=some (.cells [Oz l])/\S B=some (.cells (TE l cd (iO r (ul l k).length)))/\(∀c∈Ov r,c=.int .i64 0)) (by omega) ?_ (fun k hk J τ hτ hJ=>?_) (fun J τ hτ=>?_)
  ·refine⟨_,none,rfl,rfl,?_,?_,ch,fun c hc=>absurd hc List.not_mem_nil⟩
   ·exact((Sub.refl s).set hb).set hB
   ·show((s.set b (.cells [Oz l])).set B _) b=_
    rw[ah hne.symm,ch]
  ·obtain⟨S,r,rfl,hr,hs,hSb,hSB,hsp⟩:=hτ
   have hlt:decide ((k:Int)<(l.length:Int))=true:=by simp;omega
   have hw:aw ((k:Int)+1)=((k+1:Nat):Int):=by rw[ar (by omega) (by omega)];omega
   have hul:=TM l k
   simp -implicitDefEqProofs only[go_sem,Nat.reduceBEq,Nat.reduceAdd,Nat.reduceMul,Nat.reduceLeDiff,Nat.reduceEqDiff,Nat.reduceBNe,UInt8.reduceToNat,UInt32.reduceToNat,hlt,bL]
   refine⟨⟨by omega,by omega⟩,fun hg=>?_,fun hg=>?_⟩
   ·have hg:0<ix l (k:Int):=of_decide_eq_true hg
    have hB2:=oo hr hSB
    have hu:=Jc l k
    rw[if_pos hg]at hu
    unfold TE kc at hB2
    simp -implicitDefEqProofs only[go_sem,Nat.reduceBEq,Nat.reduceAdd,Nat.reduceMul,Nat.reduceLeDiff,Nat.reduceEqDiff,Nat.reduceBNe,UInt8.reduceToNat,UInt32.reduceToNat,hB2,List.cons_append,List.nil_append,oU,bL]
    refine Qo (z:=(0:Int)) (v:=(k:Int)) rfl hr rfl (by omega) fun S' r' hs' hr' aid=>?_
    have hB3:=oo hr' (hs' _ _ hSB)
    unfold TE kc at hB3
    simp -implicitDefEqProofs only[go_sem,Nat.reduceBEq,Nat.reduceAdd,Nat.reduceMul,Nat.reduceLeDiff,Nat.reduceEqDiff,Nat.reduceBNe,UInt8.reduceToNat,UInt32.reduceToNat,hB3,hw,List.cons_append,List.nil_append,bL]
    refine hJ _ ⟨S'.set B (.cells (TE l cd (iO r' (ul l (k+1)).length))),r',?_,?_,?_,?_,ch,fun c hc=>?_⟩
    ·rw[hu,List.length_append,(GY hr' (hs' _ _ hSB) _).1];rfl
    ·rw[hu];exact(GY hr' (hs' _ _ hSB) _).2
    ·intro b' o hb'
     have:b'≠B:=fun e=>by subst e;rw[hsB]at hb';cases hb'
     rw[ah this]
     exact hs' _ _ (hs _ _ hb')
    ·rw[ah hne.symm];exact hs' _ _ hSb
    ·rcases aid c hc with h|h
     ·exact hsp c h
     ·have h:c∈[AV.int .i64 0]:=h
      simpa using h
   ·have hg:¬0<ix l (k:Int):=of_decide_eq_false hg
    have hu:=Jc l k
    rw[if_neg hg]at hu
    simp -implicitDefEqProofs only[go_sem,Nat.reduceBEq,Nat.reduceAdd,Nat.reduceMul,Nat.reduceLeDiff,Nat.reduceEqDiff,Nat.reduceBNe,UInt8.reduceToNat,UInt32.reduceToNat,hw,bL]
    exact hJ _ ⟨S,r,by rw[hu],by rw[hu];exact hr,hs,hSb,by rw[hu];exact hSB,hsp⟩
  ·obtain⟨S,r,rfl,hr,hs,hSb,hSB,hsp⟩:=hτ
   have hlt:decide ((l.length:Int)<(l.length:Int))=false:=by simp
   have hB2:=oo hr hSB
   have hb2:=oo hr hSb
   unfold TE kc at hB2
   simp -implicitDefEqProofs only[go_sem,Nat.reduceBEq,Nat.reduceAdd,Nat.reduceMul,Nat.reduceLeDiff,Nat.reduceEqDiff,Nat.reduceBNe,UInt8.reduceToNat,UInt32.reduceToNat,hlt,hB2,List.cons_append,List.nil_append,bL]
   have fin:∀s',Sub s s'->gv s' ⟨B,l⟩->Q' [.ref B 0,.int .i64 0] s':=fun s' h2 h3=>by
    subst hQ
    exact⟨s',Sub.refl s',h1 h s' ⟨B,l⟩ h2 h3 rfl⟩
   have NT:=fun Z h1 h2=>P5 (l:=l) (Z:=Z) ⟨hl0,hl1,hl2⟩ h1 h2
   cases r with
   |none=>
    have hu0:ul l l.length=[]:=hr
    rw[hu0]at hSB NT⊢
    refine SI.P1 ?_
    simp -implicitDefEqProofs only[go_sem,Nat.reduceBEq,Nat.reduceAdd,Nat.reduceMul,Nat.reduceLeDiff,Nat.reduceEqDiff,Nat.reduceBNe,UInt8.reduceToNat,UInt32.reduceToNat,bL]
    refine fin S hs ⟨⟨hl0,hl1,hl2⟩,cd,0,0,[],?_,fun hne=>?_⟩
    ·have:=NT [] (List.Perm.refl _) List.Pairwise.nil
     rw[hSB]
     unfold FJ
     rw[<-this];rfl
    ·exact absurd (NT [] (List.Perm.refl _) List.Pairwise.nil).symm hne
   |some x=>
    obtain⟨rb,cap,sp⟩:=x
    have hrb:S rb=none:=hr.1
    have ah8:b≠rb:=fun e=>by subst e;rw[hSb]at hrb;cases hrb
    have ah7:B≠rb:=fun e=>by subst e;rw[hSB]at hrb;cases hrb
    refine SI.P2 (Lb:=b) (lens:=l) hSb ah8 (by have:=TM l l.length;omega) (TO l _) (fun z hz=>TN hz) fun Z hZ hs2=>?_
    have hZe:=NT Z hZ hs2
    simp -implicitDefEqProofs only[go_sem,Nat.reduceBEq,Nat.reduceAdd,Nat.reduceMul,Nat.reduceLeDiff,Nat.reduceEqDiff,Nat.reduceBNe,UInt8.reduceToNat,UInt32.reduceToNat,bL]
    refine fin _ ?_ ⟨⟨hl0,hl1,hl2⟩,cd,rb,cap,sp,?_,fun _=>⟨?_,?_⟩⟩
    ·exact fun b' o hb'=>by
      have h3:=hs _ _ hb'
      have:b'≠rb:=fun e=>by subst e;rw[hrb]at h3;cases h3
      show S.set rb _ b'=_
      rw[ah this];exact h3
    ·show S.set rb _ B=_
     rw[ah ah7,hSB]
     unfold FJ
     rw[<-hZe,hZ.length_eq]
     rfl
    ·rw[List.any_eq_false]
     intro c hc
     rw[hsp c hc]
     simp[C8]
    ·show S.set rb _ rb=_
     rw[hZe,ch]
theorem gv.row{s:ae}{x:HT}(h:gv s x){B:Nat}{o:SO}(hB:s B=some o)(hn:uf o=true):x.B≠B/\∃(cd:List UInt32)(b cap:Nat)(sp:List AV),(∀p,(s.set B p) x.B=some (.cells (FJ x.lens cd b cap)))/\(uw x.lens≠[]->∀p,(s.set B p) b=some (.cells (flat (uw x.lens)++sp))):=by
 have hne:=h.ne hB hn
 have E0:=fun p=>h.set (p:=p) hB hn
 obtain⟨h0,cd,b,cap,sp,h1,h2⟩:=h
 refine⟨hne,cd,b,cap,sp,fun p=>by rw[ah hne];exact h1,fun hs p=>?_⟩
 rw[ah fun e=>?_]
 ·exact(h2 hs).2
 ·subst e
  rw[(h2 hs).2]at hB
  injection hB with hB;subst hB
  have:(flat (uw x.lens)++sp).any C8=true:=hn
  rw[List.any_append,yu,(h2 hs).1]at this;cases this
abbrev rdC(r:bH):List AV:=[.int .i64 r.af.at_,.bool r.af.bT,.bool r.af.bX,.sl false 1 r.b_.length (flat r.b_)]
theorem Eo(l:List Int)(cd:List UInt32)(b cap:Nat):FJ l cd b cap=[Oz l,.sl false 1 cd.length (flat cd),.int .i64 (gx l 0),.int .i64 (gx l 1),.int .i64 (gx l 2),.int .i64 (gx l 3),.int .i64 (gx l 4),.int .i64 (gx l 5),.int .i64 (gx l 6),.int .i64 (gx l 7),.int .i64 (gx l 8),.int .i64 (gx l 9),.int .i64 (gx l 10),.int .i64 (gx l 11),.int .i64 (gx l 12),.int .i64 (gx l 13),.int .i64 (gx l 14),.int .i64 (gx l 15),.arr b 0 (uw l).length cap]:=rfl
theorem WJ(l:List Int)(cd:List UInt32)(b cap:Nat){n:Int}(h0:0<=n)(h:n<16)(cs:List AV)(e:cs=FJ l cd b cap):views (List.take 1 (List.drop (2+n.toNat*1) cs))=[.int .i64 (vC l n)]:=by
 subst e
 unfold vC
 have h2:n.toNat<16:=by omega
 generalize n.toNat=m at h2
 have:m=0\/m=1\/m=2\/m=3\/m=4\/m=5\/m=6\/m=7\/m=8\/m=9\/m=10\/m=11\/m=12\/m=13\/m=14\/m=15:=by omega
 rcases this with h|h|h|h|h|h|h|h|h|h|h|h|h|h|h|h<;>subst h<;>rfl
theorem yJ{t_0:HT}{r_1:bH}{B1:Nat}{s:ae}{Q:List AV->ae->Prop}(hB1:s B1=some (.cells [.int .i64 r_1.af.at_,.bool r_1.af.bT,.bool r_1.af.bX,.sl false 1 r_1.b_.length (flat r_1.b_)]))(va0:gv s t_0):ok (gC t_0 r_1) (fun r=>Q [.int .i64 r.1,.int .i64 r.2.1] (s.set B1 (.cells [.int .i64 r.2.2.af.at_,.bool r.2.2.af.bT,.bool r.2.2.af.bX,.sl false 1 r.2.2.b_.length (flat r.2.2.b_)])))->FN prog 269 [.ref t_0.B 0,.ref B1 0] s Q:=by
 intro h
 refine FO Vv rfl rfl ?_
 rw[N7]
 conv in dec _=>reduce
 obtain⟨hne,cd,b,cap,sp,hT,hR⟩:=va0.row hB1 rfl
 simp -implicitDefEqProofs only[go_sem,seval,bL]
 refine FE.app (TH va0) ?_
 simp -implicitDefEqProofs only[go_sem,seval,bL]
 unfold gC at h
 refine dk (fun((code,first,at_,n,r):Int×Int×Int×Int×bH)=>(⟨[(0,.ref t_0.B 0),(1,.ref B1 0),(6,.int .i64 code),(7,.int .i64 first),(8,.int .i64 at_),(9,.int .i64 n)],[],s.set B1 (.cells (rdC r))⟩:St)) ?_ ?_ h
 ·simp -implicitDefEqProofs only[go_sem,seval,aY hB1]
 ·rintro J ⟨code,first,at_,n,r⟩
  simp only[Eo]at hT
  simp -implicitDefEqProofs only[go_sem,seval,hT,bL]
  refine bP (cX (bP cU (cX fun hh=>?_))) cU
  refine nB (B0:=B1) ch (aO hh fun g hg=>?_)
  simp -implicitDefEqProofs only[go_sem,seval,hT,set_set,bL]
  obtain⟨hg1,hg2⟩:=hg
  refine⟨hg1,fun he=>?_⟩
  obtain⟨hn,hg3,hg4⟩:=hg2 he
  clear hg1 hg2 hh h
  have hd:decide (2+n.toNat*1<=18)=true:=by simp;omega
  have hv:=fun cs(e:cs=FJ t_0.lens cd b cap)=>WJ t_0.lens cd b cap hn.1 hn.2 cs e
  have hv:=hv _ rfl
  simp only[Eo]at hv
  refine⟨hn,?_⟩
  rw[hd,cond_true,hv]
  simp -implicitDefEqProofs only[go_sem,seval,bL]
  refine⟨fun hc=>?_,fun hc=>?_⟩
  ·obtain⟨h1,h2⟩:=hg3 hc
   have ah6:uw t_0.lens≠[]:=fun e=>by rw[e]at h1;have:=h1.1;have:=h1.2;simp at this;omega
   have eO:=afN (uw t_0.lens) sp (n:=1) rfl h1.1 h1.2
   have hR:=hR ah6
   generalize flat (uw t_0.lens)++sp=rc at eO hR
   have hd2:=decide_eq_true eO.1
   have hv2:views (AB.sub rc _ 1)=[.int .i64 _]:=eO.2
   simp -implicitDefEqProofs only[go_sem,seval,hT,hR,hd2,hv2,bL]
   exact⟨h1,h2⟩
  ·have h2:=hg4 hc
   simp -implicitDefEqProofs only[go_sem,seval,hT,hd,cond_true,hv,bL]
   exact⟨hn,hn,h2⟩
end Go.AB
end
section
set_option maxRecDepth 16000
namespace Go.AB
open Go
open Go.Proofs.Tryz (prog)
attribute[-go_sem] ck cN bK cj
def bO(s_0:cg)(t_1:HT):Option (Int×cg):=
 if s_0.e_ !=0 then
  some (0,s_0)
 else
  aP (gC t_1 s_0.Reader) fun r1=>
  aP (ax (cg.mk r1.2.2 s_0.e_) r1.2.1) fun r2=>
  some (r1.1,r2)
def gl:IC:=dec 0x7cbb44c5983d9fc2c63f21975fa84ac198d53474c6208fead82dc0c31a6ca51d3142388b9e0f80244fdf401cc1063581d0568dba78b6a84f9e23cdff4dc10e152980c653980083fa
theorem jv:aS prog 227 25 [⟨4,true,none⟩] gl=true:=by kernel_rfl
theorem gk{s_0 t_1}{B0 B0_Reader:Nat}{preB0 postB0:List AV}{oB0:Nat}{s:ae}{Q:List AV->ae->Prop}(hB0:s B0=some (.cells (Wi preB0 [.ref B0_Reader 0,.int .i64 s_0.e_] postB0)))(cM:s B0_Reader=some (.cells [.int .i64 s_0.Reader.af.at_,.bool s_0.Reader.af.bT,.bool s_0.Reader.af.bX,sF 1 s_0.Reader.b_]))(eB0:preB0.length=oB0)(ab:B0≠B0_Reader)(va1:gv s t_1):ok (bO s_0 t_1) (fun r=>Q [.int .i64 r.1] ((s.set B0 (.cells (Wi preB0 [.ref B0_Reader 0,.int .i64 r.2.e_] postB0))).set B0_Reader (.cells [.int .i64 r.2.Reader.af.at_,.bool r.2.Reader.af.bT,.bool r.2.Reader.af.bX,sF 1 r.2.Reader.b_])))->FN prog 227 [.ref B0 oB0,.ref t_1.B 0] s Q:=by
 subst eB0
 have hS:s=((s.set B0 (.cells (Wi preB0 [.ref B0_Reader 0,.int .i64 s_0.e_] postB0))).set B0_Reader (.cells [.int .i64 s_0.Reader.af.at_,.bool s_0.Reader.af.bT,.bool s_0.Reader.af.bX,sF 1 s_0.Reader.b_])):=by simp only[aY hB0,aY cM]
 rw[hS]
 intro h
 refine FO jv rfl rfl ?_
 revert h
 rw[gl,bO]
 conv in dec _=>reduce
 repeat'(first
  |(with_reducible first|exact cU|refine bP ?_ ?_|refine cX ?_|refine fun hh=>yJ (B1:=B0_Reader) (by simp -implicitDefEqProofs only[go_sem,seval,ah ab,ah ab.symm,set_comm ab]<;>simp only[ao]) (gv.IV (by assumption) hB0 (by first|exact A3 _ _ _ _ _|exact zi _ _ _ _|exact zj _ _ _) cM (by first|exact A3 _ _ _ _ _|exact zi _ _ _ _|exact zj _ _ _) ab) (aO (show ok (gC t_1 s_0.Reader) _ from hh) fun r1=>?_)|refine fun hh=>bA (B0:=B0) (B0_Reader:=B0_Reader) (preB0:=preB0) (postB0:=postB0) (by simp -implicitDefEqProofs only[go_sem,seval,ah ab,ah ab.symm,set_comm ab]<;>simp only[ao]) (by simp -implicitDefEqProofs only[go_sem,seval,ah ab,ah ab.symm,set_comm ab]<;>simp only[ao]) (by first|rfl|simp) ab (aO (show ok (ax (cg.mk r1.2.2 s_0.e_) r1.2.1) _ from hh) fun r2=>?_))
  |simp -implicitDefEqProofs only[go_sem,seval,ah ab,ah ab.symm,set_comm ab])
def gu(s_0:ak)(t_1:HT)(d_2:HT):Option (ak):=
 iter (fun(o1:ak)=>
  aP (bO o1.al t_1) fun r3=>
  if(r3.2.e_ !=0)||(r3.1==256)then
   some (.inr (ak.mk r3.2 o1.cD o1.bF))
  else
   if decide (r3.1<256)then
    aP (cw (ak.mk r3.2 o1.cD o1.bF) (gX (r3.1))) fun r4=>
    some (.inl r4)
   else
    aP (dZ r3.1) fun r5=>
    jn (
     if !r5.2.2 then
      aP (ax r3.2 11) fun r11=>
      some (ak.mk r11 o1.cD o1.bF)
     else
      some (ak.mk r3.2 o1.cD o1.bF)) fun(o10:ak)=>
    aP (aI o10.al r5.2.1) fun r12=>
    aP (bO r12.2 d_2) fun r13=>
    aP (c9 r13.1) fun r14=>
    jn (
     if !r14.2.2 then
      aP (ax r13.2 11) fun r21=>
      some (ak.mk r21 o10.cD o10.bF)
     else
      some (ak.mk r13.2 o10.cD o10.bF)) fun(o20:ak)=>
    aP (aI o20.al r14.2.1) fun r22=>
    aP (dH (ak.mk r22.2 o20.cD o20.bF) (aw (r5.1+r12.1)) (aw (r14.1+r22.1))) fun r23=>
    some (.inl r23)) s_0
def il:IC:=dec 0x3efe2862f428ab3898c6e2283bf7cda3315931c27f3e4e03efc0fdbd066b51ef0ee61763da272184ad89e9d388533cb50bdc3bd3d7c6a52cc8a5139d3e9b2e1894f987ab1a2f9d582933ef4aa66e6afae59b26fa9eeeb83267b960b86a3323951eafacd957350d505e3ebda64035beda31e57af6353d844b2dde361a9639c9a8c392b9f1804505e2dfb5314108b74fe2f3c805f52b6326399cdb1dfa507d9eb9ea579dc0bf817096b53680eda0044d4811442d48a01b16039d055302121b13238c4d38154da95d515c1b3ac5f7b9e850a79570f051eb80c3916be07278f9e9eb62e83b426fd380c095b219d5e90c26a1cb411f8b7e9d5109c30465f83351a29b6409eaa1ca32cc48bc9ec9eca8735139
theorem kK:aS prog 173 81 [] il=true:=by kernel_rfl
theorem rf{s_0 t_1 d_2}{B0 B0_Reader:Nat}{s:ae}{Q:List AV->ae->Prop}(hB0:s B0=some (.cells [.ref B0_Reader 0,.int .i64 s_0.al.e_,sT 1 s_0.cD,.int .i64 s_0.bF]))(cM:s B0_Reader=some (.cells [.int .i64 s_0.al.Reader.af.at_,.bool s_0.al.Reader.af.bT,.bool s_0.al.Reader.af.bX,sF 1 s_0.al.Reader.b_]))(ab:B0≠B0_Reader)(va1:gv s t_1)(va2:gv s d_2):ok (gu s_0 t_1 d_2) (fun r=>Q [] ((s.set B0 (.cells [.ref B0_Reader 0,.int .i64 r.al.e_,sT 1 r.cD,.int .i64 r.bF])).set B0_Reader (.cells [.int .i64 r.al.Reader.af.at_,.bool r.al.Reader.af.bT,.bool r.al.Reader.af.bX,sF 1 r.al.Reader.b_])))->FN prog 173 [.ref B0 0,.ref t_1.B 0,.ref d_2.B 0] s Q:=by
 have hS:s=((s.set B0 (.cells [.ref B0_Reader 0,.int .i64 s_0.al.e_,sT 1 s_0.cD,.int .i64 s_0.bF])).set B0_Reader (.cells [.int .i64 s_0.al.Reader.af.at_,.bool s_0.al.Reader.af.bT,.bool s_0.al.Reader.af.bX,sF 1 s_0.al.Reader.b_])):=by simp only[aY hB0,aY cM]
 rw[hS]
 intro h
 refine FO kK rfl rfl ?_
 revert h
 rw[il,gu]
 conv in dec _=>reduce
 repeat'(first
  |(with_reducible first|exact cU|refine bP ?_ ?_|refine cX ?_|refine fun hh=>gk (B0:=B0) (B0_Reader:=B0_Reader) (preB0:=[]) (postB0:=[sT 1 o1.cD,.int .i64 o1.bF]) (by simp -implicitDefEqProofs only[go_sem,seval,ah ab,ah ab.symm,set_comm ab]<;>simp only[ao]) (by simp -implicitDefEqProofs only[go_sem,seval,ah ab,ah ab.symm,set_comm ab]<;>simp only[ao]) (by first|rfl|simp) ab (gv.IV (by assumption) hB0 (by first|exact A3 _ _ _ _ _|exact zi _ _ _ _|exact zj _ _ _) cM (by first|exact A3 _ _ _ _ _|exact zi _ _ _ _|exact zj _ _ _) ab) (aO (show ok (bO o1.al t_1) _ from hh) fun r3=>?_)|refine fun hh=>lT (B0:=B0) (B0_Reader:=B0_Reader) (by simp -implicitDefEqProofs only[go_sem,seval,ah ab,ah ab.symm,set_comm ab]<;>simp only[ao]) (by simp -implicitDefEqProofs only[go_sem,seval,ah ab,ah ab.symm,set_comm ab]<;>simp only[ao]) ab (aO (show ok (cw (ak.mk r3.2 o1.cD o1.bF) (gX (r3.1))) _ from hh) fun r4=>?_)|refine aF (fun _(h:dZ r3.1=some _)=>yK h) (fun r5=>?_)|refine fun hh=>bA (B0:=B0) (B0_Reader:=B0_Reader) (preB0:=[]) (postB0:=[sT 1 o1.cD,.int .i64 o1.bF]) (by simp -implicitDefEqProofs only[go_sem,seval,ah ab,ah ab.symm,set_comm ab]<;>simp only[ao]) (by simp -implicitDefEqProofs only[go_sem,seval,ah ab,ah ab.symm,set_comm ab]<;>simp only[ao]) (by first|rfl|simp) ab (aO (show ok (ax r3.2 11) _ from hh) fun r11=>?_)|refine fun hh=>bM (B0:=B0) (B0_Reader:=B0_Reader) (preB0:=[]) (postB0:=[sT 1 o10.cD,.int .i64 o10.bF]) (by simp -implicitDefEqProofs only[go_sem,seval,ah ab,ah ab.symm,set_comm ab]<;>simp only[ao]) (by simp -implicitDefEqProofs only[go_sem,seval,ah ab,ah ab.symm,set_comm ab]<;>simp only[ao]) (by first|rfl|simp) ab (aO (show ok (aI o10.al r5.2.1) _ from hh) fun r12=>?_)|refine fun hh=>gk (B0:=B0) (B0_Reader:=B0_Reader) (preB0:=[]) (postB0:=[sT 1 o10.cD,.int .i64 o10.bF]) (by simp -implicitDefEqProofs only[go_sem,seval,ah ab,ah ab.symm,set_comm ab]<;>simp only[ao]) (by simp -implicitDefEqProofs only[go_sem,seval,ah ab,ah ab.symm,set_comm ab]<;>simp only[ao]) (by first|rfl|simp) ab (gv.IV (by assumption) hB0 (by first|exact A3 _ _ _ _ _|exact zi _ _ _ _|exact zj _ _ _) cM (by first|exact A3 _ _ _ _ _|exact zi _ _ _ _|exact zj _ _ _) ab) (aO (show ok (bO r12.2 d_2) _ from hh) fun r13=>?_)|refine aF (fun _(h:c9 r13.1=some _)=>vJ h) (fun r14=>?_)|refine fun hh=>bA (B0:=B0) (B0_Reader:=B0_Reader) (preB0:=[]) (postB0:=[sT 1 o10.cD,.int .i64 o10.bF]) (by simp -implicitDefEqProofs only[go_sem,seval,ah ab,ah ab.symm,set_comm ab]<;>simp only[ao]) (by simp -implicitDefEqProofs only[go_sem,seval,ah ab,ah ab.symm,set_comm ab]<;>simp only[ao]) (by first|rfl|simp) ab (aO (show ok (ax r13.2 11) _ from hh) fun r21=>?_)|refine fun hh=>bM (B0:=B0) (B0_Reader:=B0_Reader) (preB0:=[]) (postB0:=[sT 1 o20.cD,.int .i64 o20.bF]) (by simp -implicitDefEqProofs only[go_sem,seval,ah ab,ah ab.symm,set_comm ab]<;>simp only[ao]) (by simp -implicitDefEqProofs only[go_sem,seval,ah ab,ah ab.symm,set_comm ab]<;>simp only[ao]) (by first|rfl|simp) ab (aO (show ok (aI o20.al r14.2.1) _ from hh) fun r22=>?_)|refine fun hh=>pW (B0:=B0) (B0_Reader:=B0_Reader) (by simp -implicitDefEqProofs only[go_sem,seval,ah ab,ah ab.symm,set_comm ab]<;>simp only[ao]) (by simp -implicitDefEqProofs only[go_sem,seval,ah ab,ah ab.symm,set_comm ab]<;>simp only[ao]) ab (aO (show ok (dH (ak.mk r22.2 o20.cD o20.bF) (aw (r5.1+r12.1)) (aw (r14.1+r22.1))) _ from hh) fun r23=>?_))
  |((with_reducible refine dm (live:=[(0,false),(1,false),(2,false),(7,false),(8,false)]) (fun(o10:ak)=>⟨[(0,.ref B0 0),(1,.ref t_1.B 0),(2,.ref d_2.B 0),(7,.int .i64 r5.1),(8,.int .i64 r5.2.1)],[],((s.set B0 (.cells [.ref B0_Reader 0,.int .i64 o10.al.e_,sT 1 o10.cD,.int .i64 o10.bF])).set B0_Reader (.cells [.int .i64 o10.al.Reader.af.at_,.bool o10.al.Reader.af.bT,.bool o10.al.Reader.af.bX,sF 1 o10.al.Reader.b_]))⟩) (fun J=>?_) ?_);rotate_left;rintro o10)
  |((with_reducible refine dm (live:=[(0,false),(1,false),(2,false),(7,false),(10,false),(11,false)]) (fun(o20:ak)=>⟨[(0,.ref B0 0),(1,.ref t_1.B 0),(2,.ref d_2.B 0),(7,.int .i64 (aw (r5.1+r12.1))),(10,.int .i64 r14.1),(11,.int .i64 r14.2.1)],[],((s.set B0 (.cells [.ref B0_Reader 0,.int .i64 o20.al.e_,sT 1 o20.cD,.int .i64 o20.bF])).set B0_Reader (.cells [.int .i64 o20.al.Reader.af.at_,.bool o20.al.Reader.af.bT,.bool o20.al.Reader.af.bX,sF 1 o20.al.Reader.b_]))⟩) (fun J=>?_) ?_);rotate_left;rintro o20)
  |((with_reducible refine y9 (fun(o1:ak)=>⟨[(0,.ref B0 0),(1,.ref t_1.B 0),(2,.ref d_2.B 0)],[],((s.set B0 (.cells [.ref B0_Reader 0,.int .i64 o1.al.e_,sT 1 o1.cD,.int .i64 o1.bF])).set B0_Reader (.cells [.int .i64 o1.al.Reader.af.at_,.bool o1.al.Reader.af.bT,.bool o1.al.Reader.af.bX,sF 1 o1.al.Reader.b_]))⟩) ?_ ?_);(first|exact rfl|simp -implicitDefEqProofs only[go_sem,seval,ah ab,ah ab.symm,set_comm ab]);rintro J o1)
  |simp -implicitDefEqProofs only[go_sem,seval,ah ab,ah ab.symm,set_comm ab])
def eE(s_0:ak)(t_1:HT)(n_2:Int):Option ((List Int)×ak):=
 iter (fun((v7,o2):(List Int)×ak)=>
  if((v7.length:Int)==n_2)||(o2.al.e_ !=0)then
   some (.inr (v7,o2))
  else
   aP (bO o2.al t_1) fun r5=>
   uY (
    if r5.1==16 then
     if(v7.length:Int)==0 then
      aP (ax r5.2 11) fun r16=>
      some (.inr (ak.mk r16 o2.cD o2.bF))
     else
      aL (0<=aw ((v7.length:Int) -1)/\aw ((v7.length:Int) -1)<v7.length)<|
      aP (aI r5.2 2) fun r17=>
      some (.inl (ix v7 (aw ((v7.length:Int) -1)),aw (r17.1+3),(ak.mk r17.2 o2.cD o2.bF)))
    else
     if r5.1==17 then
      aP (aI r5.2 3) fun r18=>
      some (.inl (0,aw (r18.1+3),(ak.mk r18.2 o2.cD o2.bF)))
     else
      if r5.1==18 then
       aP (aI r5.2 7) fun r19=>
       some (.inl (0,aw (r19.1+11),(ak.mk r19.2 o2.cD o2.bF)))
      else
       some (.inl (r5.1,1,(ak.mk r5.2 o2.cD o2.bF)))) (fun((x9,vo,o11):Int×Int×ak)=>
    if decide (vo>aw (n_2 -(v7.length:Int)))then
     aP (ax o11.al 11) fun r20=>
     some (.inl (v7,(ak.mk r20 o11.cD o11.bF)))
    else
     jn (
      iter (fun((oN,t26):(List Int)×Int)=>
       if decide (t26<vo)then
        aL ((oN.length+[x9].length)*8<=room)<|
        some (.inl (oN++[x9],aw (t26+1)))
       else
        some (.inr oN)) (v7,0)) fun(rX:(List Int))=>
     some (.inl (rX,o11)))
   (fun(o15:ak)=>some (.inl (v7,o15)))) (([]:List Int),s_0)
def gm:IC:=dec 0x1f8717efe01a160c9e6d4a23edd9b226cdb00cab0238493595820d023a9718dd11db891ef5c76e3c25e1226cdadc00e7e1648ad35f9acbe6672c6f3b3325c2c9f1572c5fb6811f0096694ffdaed5617e876f2134fa87824fa172918547cc635569b979f19c02076b7e4d92c81b18dfcb01ee2985518602c3c74965072e4d54e49bf782ca80d841221f76c272c1701f7c53b283c31dd8801a4d38bbc45796c5a7f03f6525e1fde32ffb18c2154dab9d923e09e2b3fe1832331ecb9f02c4332f2f9eee9ba71db657f5cefe046aa52f8d27c81afd2671dffcee82df0921396bfc09e878da04c67bdb23c96ce5fd2ea56b6fe7e73c378be0de4c33591fd1ca309105ff3bcbbd5553c21fa074ced776ca21ced8f9058ebce255bdc5f95df1169261dfb3af2d415c866c9ab97ca9496a1f7d44226ec5303e39469d2a7a6664cfbd1a80ffc4c513c4895dc51adb86dcd8d63f8dd0518d559da78aa83fe29a0b8b804651034825e1eb4cbbe81eee179e543e5e381c9157faff12cd9bdb80592ec8d0f320ba
theorem jx:aS prog 231 81 [⟨6,true,none⟩] gm=true:=by kernel_rfl
theorem po{s_0 t_1 n_2}{B0 B0_Reader:Nat}{s:ae}{Q:List AV->ae->Prop}(hB0:s B0=some (.cells [.ref B0_Reader 0,.int .i64 s_0.al.e_,sT 1 s_0.cD,.int .i64 s_0.bF]))(cM:s B0_Reader=some (.cells [.int .i64 s_0.al.Reader.af.at_,.bool s_0.al.Reader.af.bT,.bool s_0.al.Reader.af.bX,sF 1 s_0.al.Reader.b_]))(ab:B0≠B0_Reader)(va1:gv s t_1):ok (eE s_0 t_1 n_2) (fun r=>Q [sT 1 r.1] ((s.set B0 (.cells [.ref B0_Reader 0,.int .i64 r.2.al.e_,sT 1 r.2.cD,.int .i64 r.2.bF])).set B0_Reader (.cells [.int .i64 r.2.al.Reader.af.at_,.bool r.2.al.Reader.af.bT,.bool r.2.al.Reader.af.bX,sF 1 r.2.al.Reader.b_])))->FN prog 231 [.ref B0 0,.ref t_1.B 0,.int .i64 n_2] s Q:=by
 have hS:s=((s.set B0 (.cells [.ref B0_Reader 0,.int .i64 s_0.al.e_,sT 1 s_0.cD,.int .i64 s_0.bF])).set B0_Reader (.cells [.int .i64 s_0.al.Reader.af.at_,.bool s_0.al.Reader.af.bT,.bool s_0.al.Reader.af.bX,sF 1 s_0.al.Reader.b_])):=by simp only[aY hB0,aY cM]
 rw[hS]
 intro h
 refine FO jx rfl rfl ?_
 revert h
 rw[gm,eE]
 conv in dec _=>reduce
 repeat'(first
  |(with_reducible first|exact cU|refine bP ?_ ?_|refine cX ?_|refine fun hh=>gk (B0:=B0) (B0_Reader:=B0_Reader) (preB0:=[]) (postB0:=[sT 1 o2.cD,.int .i64 o2.bF]) (by simp -implicitDefEqProofs only[go_sem,seval,ah ab,ah ab.symm,set_comm ab]<;>simp only[ao]) (by simp -implicitDefEqProofs only[go_sem,seval,ah ab,ah ab.symm,set_comm ab]<;>simp only[ao]) (by first|rfl|simp) ab (gv.IV (by assumption) hB0 (by first|exact A3 _ _ _ _ _|exact zi _ _ _ _|exact zj _ _ _) cM (by first|exact A3 _ _ _ _ _|exact zi _ _ _ _|exact zj _ _ _) ab) (aO (show ok (bO o2.al t_1) _ from hh) fun r5=>?_)|refine fun hh=>bA (B0:=B0) (B0_Reader:=B0_Reader) (preB0:=[]) (postB0:=[sT 1 o2.cD,.int .i64 o2.bF]) (by simp -implicitDefEqProofs only[go_sem,seval,ah ab,ah ab.symm,set_comm ab]<;>simp only[ao]) (by simp -implicitDefEqProofs only[go_sem,seval,ah ab,ah ab.symm,set_comm ab]<;>simp only[ao]) (by first|rfl|simp) ab (aO (show ok (ax r5.2 11) _ from hh) fun r16=>?_)|refine fun hh=>bM (B0:=B0) (B0_Reader:=B0_Reader) (preB0:=[]) (postB0:=[sT 1 o2.cD,.int .i64 o2.bF]) (by simp -implicitDefEqProofs only[go_sem,seval,ah ab,ah ab.symm,set_comm ab]<;>simp only[ao]) (by simp -implicitDefEqProofs only[go_sem,seval,ah ab,ah ab.symm,set_comm ab]<;>simp only[ao]) (by first|rfl|simp) ab (aO (show ok (aI r5.2 2) _ from hh) fun r17=>?_)|refine fun hh=>bM (B0:=B0) (B0_Reader:=B0_Reader) (preB0:=[]) (postB0:=[sT 1 o2.cD,.int .i64 o2.bF]) (by simp -implicitDefEqProofs only[go_sem,seval,ah ab,ah ab.symm,set_comm ab]<;>simp only[ao]) (by simp -implicitDefEqProofs only[go_sem,seval,ah ab,ah ab.symm,set_comm ab]<;>simp only[ao]) (by first|rfl|simp) ab (aO (show ok (aI r5.2 3) _ from hh) fun r18=>?_)|refine fun hh=>bM (B0:=B0) (B0_Reader:=B0_Reader) (preB0:=[]) (postB0:=[sT 1 o2.cD,.int .i64 o2.bF]) (by simp -implicitDefEqProofs only[go_sem,seval,ah ab,ah ab.symm,set_comm ab]<;>simp only[ao]) (by simp -implicitDefEqProofs only[go_sem,seval,ah ab,ah ab.symm,set_comm ab]<;>simp only[ao]) (by first|rfl|simp) ab (aO (show ok (aI r5.2 7) _ from hh) fun r19=>?_)|refine fun hh=>bA (B0:=B0) (B0_Reader:=B0_Reader) (preB0:=[]) (postB0:=[sT 1 o11.cD,.int .i64 o11.bF]) (by simp -implicitDefEqProofs only[go_sem,seval,ah ab,ah ab.symm,set_comm ab]<;>simp only[ao]) (by simp -implicitDefEqProofs only[go_sem,seval,ah ab,ah ab.symm,set_comm ab]<;>simp only[ao]) (by first|rfl|simp) ab (aO (show ok (ax o11.al 11) _ from hh) fun r20=>?_))
  |((with_reducible refine gE (live:=[(0,false),(1,false),(2,false),(7,false),(8,false),(9,false)]) (fun((x9,vo,o11):Int×Int×ak)=>⟨[(0,.ref B0 0),(1,.ref t_1.B 0),(2,.int .i64 n_2),(7,sT 1 v7),(8,.int .i64 x9),(9,.int .i64 vo)],[],((s.set B0 (.cells [.ref B0_Reader 0,.int .i64 o11.al.e_,sT 1 o11.cD,.int .i64 o11.bF])).set B0_Reader (.cells [.int .i64 o11.al.Reader.af.at_,.bool o11.al.Reader.af.bT,.bool o11.al.Reader.af.bX,sF 1 o11.al.Reader.b_]))⟩) (fun J=>?_) ?_);rotate_left;rintro⟨x9,vo,o11⟩)
  |((with_reducible refine dk (fun((oN,t26):(List Int)×Int)=>⟨[(0,.ref B0 0),(1,.ref t_1.B 0),(2,.int .i64 n_2),(7,sT 1 oN),(8,.int .i64 x9),(73,.int .i64 vo),(74,.int .i64 t26)],[],((s.set B0 (.cells [.ref B0_Reader 0,.int .i64 o11.al.e_,sT 1 o11.cD,.int .i64 o11.bF])).set B0_Reader (.cells [.int .i64 o11.al.Reader.af.at_,.bool o11.al.Reader.af.bT,.bool o11.al.Reader.af.bX,sF 1 o11.al.Reader.b_]))⟩) ?_ ?_);(first|exact rfl|simp -implicitDefEqProofs only[go_sem,seval,ah ab,ah ab.symm,set_comm ab]);rintro J ⟨oN,t26⟩)
  |((with_reducible refine dm (live:=[(0,false),(1,false),(2,false),(7,false)]) (fun(rX:(List Int))=>⟨[(0,.ref B0 0),(1,.ref t_1.B 0),(2,.int .i64 n_2),(7,sT 1 rX)],[],((s.set B0 (.cells [.ref B0_Reader 0,.int .i64 o11.al.e_,sT 1 o11.cD,.int .i64 o11.bF])).set B0_Reader (.cells [.int .i64 o11.al.Reader.af.at_,.bool o11.al.Reader.af.bT,.bool o11.al.Reader.af.bX,sF 1 o11.al.Reader.b_]))⟩) (fun J=>?_) ?_);rotate_left;rintro rX)
  |((with_reducible refine y9 (fun((v7,o2):(List Int)×ak)=>⟨[(0,.ref B0 0),(1,.ref t_1.B 0),(2,.int .i64 n_2),(7,sT 1 v7)],[],((s.set B0 (.cells [.ref B0_Reader 0,.int .i64 o2.al.e_,sT 1 o2.cD,.int .i64 o2.bF])).set B0_Reader (.cells [.int .i64 o2.al.Reader.af.at_,.bool o2.al.Reader.af.bT,.bool o2.al.Reader.af.bX,sF 1 o2.al.Reader.b_]))⟩) ?_ ?_);(first|exact rfl|simp -implicitDefEqProofs only[go_sem,seval,ah ab,ah ab.symm,set_comm ab]);rintro J ⟨v7,o2⟩)
  |simp -implicitDefEqProofs only[go_sem,seval,ah ab,ah ab.symm,set_comm ab])
end Go.AB
end
section
set_option maxRecDepth 4000
namespace Go.AB
open Go
open Go.Proofs.Tryz (prog)
attribute[-go_sem] Nat.add_zero pj cT ck cN bK cj
end Go.AB
end
section
set_option maxRecDepth 4000
namespace Go.AB
open Go
open Go.Proofs.Tryz (prog)
attribute[-go_sem] ck cN bK cj
end Go.AB
end
