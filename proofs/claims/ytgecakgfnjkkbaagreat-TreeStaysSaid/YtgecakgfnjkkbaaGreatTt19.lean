/- A part. -/
import Derived.Test.YtgecakgfnjkkbaaGreatTt18
set_option linter.defProp false
set_option linter.unusedSimpArgs false
set_option linter.unusedVariables false
section
set_option maxRecDepth 16000
namespace Go.AB
open Go
open Go.Proofs.Tryz (prog)
attribute[-go_sem] Nat.add_zero mO cF cj cS bK ch
def Gn:IC:=dec 0x149998c2ffec42e531ba59904ef61e94b7f6eec7cd23b460cba2ae8c022b5b4473a
def QB:eO prog 289 8 [⟨2,true,none⟩] Gn=true:=B_
def HJ(l:List Int)(s:ae)(rs:List AV)(s':ae):Prop:=(∃b cap sp,rs=[.arr b 0 l.length cap]/\s b=none/\0<cap/\l.length<=cap/\(flat l++sp).length=cap*1/\views (flat l++sp)=flat l++sp/\s'=s.set b (.cells (flat l++sp)))\/(l=[]/\s'=s/\∃b,rs=[.arr b 0 0 0])
def MG{o:Bool}{l:List Int}{s:ae}(hr:l.length*8<=room):FN prog 289 [.sl o 1 l.length (flat l)] s (HJ l s):=by
 refine FN.j4 (FO QB rfl rfl ?_)
 generalize hQ:(fun rs s'=>∃s2,Sub s2 s'/\HJ l s rs s2)=Q
 have hq:∀rs s' s2,Sub s2 s'->HJ l s rs s2->Q rs s':=fun rs s' s2 h1 h2=>Xa8
 rw[Gn]
 refine Xf7 ?_
 refine Xe2 ?_
 intro v hv
 refine⟨fun h=>hq _ _ s (Sub.refl s) (.inr ⟨List.eq_nil_of_length_eq_zero (hv KT),rfl,0,rfl⟩),fun _ b1 hb1=>?_⟩
 rw[gl,aH]
 by_cases hl:l=[]
 ·subst hl
  refine mE rfl rfl (Nat.le_refl 0) ?_
  refine Xe2 ?_
  exact hq _ _ s ((Sub.refl s).set hb1) (.inr ⟨rfl,rfl,_,rfl⟩)
 ·have hn:0<l.length:=List.length_pos_iff.2 hl
  refine er rfl rfl AT r_ fun b2 cap hb2 fI=>?_
  rw[Nat.zero_add]at fI
  have hz:(List.replicate (cap -(0+l.length)) [.int .i64 0]).flatten=flat (List.replicate (cap -l.length) (0:Int)):=Xa9
  rw[hz]
  simp -implicitDefEqProofs only[go_sem,seval,Nat.zero_add,List.nil_append]
  have M5:s b2=none:=((Sub.refl s).set hb1).none hb2
  refine hq _ _ _ (Sub.E7 ((Sub.refl s).set hb1)) (.inl ⟨b2,cap,_,rfl,M5,AT,fI,?_,?_,rfl⟩)
  ·rw[List.length_append,ax,ax,List.length_replicate]
   show l.length*1+(cap -l.length)*1=cap*1
   omega
  ·rw[lV,aH,aH]
def Qf{o:Bool}{l:List Int}{s:ae}(hr:l.length*8<=room):FE prog 289 [.sl o 1 l.length (flat l)] s [.sl true 1 l.length (flat l)] s:=
 FN.Ae (ax l) (aH l) ⟨rfl,rfl⟩ ((MG hr).mono fun rs s' h=>by
  rcases h with⟨b,cap,sp,h1,h2,h3,h4,h5,h6,h7⟩|⟨h1,h2,h3⟩
  ·exact .inl ⟨b,cap,sp,h1,s7,h3,h4,h5,s_⟩
  ·subst h1;exact .inr ⟨rfl,rfl,t_,h3⟩)
abbrev PF(l:List Int):AV:=.sl false 1 l.length (flat l)
def lX(l:List Int):List AV:=[.int .i64 (im l 0),.int .i64 (im l 1),.int .i64 (im l 2),.int .i64 (im l 3),.int .i64 (im l 4),.int .i64 (im l 5),.int .i64 (im l 6),.int .i64 (im l 7),.int .i64 (im l 8),.int .i64 (im l 9),.int .i64 (im l 10),.int .i64 (im l 11),.int .i64 (im l 12),.int .i64 (im l 13),.int .i64 (im l 14),.int .i64 (im l 15)]
def used(l:List Int):List Int:=(idxs l).filter fun k=>decide (ix l k>0)
def Fe(l:List Int)(cd:List UInt32)(b cap:Nat):List AV:=PF l::.sl false 1 cd.length (flat cd)::(lX l++[.arr b 0 (uw l).length cap])
def C9:AV->Bool
 |.ref _ _=>true
 |.bool _=>true
 |_=>false
def uf:SO->Bool
 |.cells cs=>cs.any C9
 |_=>true
def A1(pre post cs:List AV)(b o:Nat):uf (.cells (Wi pre (.ref b o::cs) post))=true:=by
 show(pre++.ref b o::cs++post).any C9=true
 simp[C9]
def yJ(k:IntKind)(n:Int)(x:Bool)(l:List AV):uf (.cells (.int k n::.bool x::l))=true:=rfl
def yK(b o:Nat)(l:List AV):uf (.cells (.ref b o::l))=true:=rfl
theorem yc(l:List Int):(flat l).any C9=false:=by
 induction l with
 |nil=>rfl
 |cons a l ih=>rw[n9];show(false||(flat l).any C9)=false;rw[ih];rfl
theorem ahC(l:List Int)(cd:List UInt32)(b cap:Nat):(Fe l cd b cap).any C9=false:=rfl
def il(s:ae)(x:HT):Prop:=ET x.lens/\∃(cd:List UInt32)(b cap:Nat)(sp:List AV),s x.B=some (.cells (Fe x.lens cd b cap))/\(uw x.lens≠[]->sp.any C9=false/\s b=some (.cells (flat (uw x.lens)++sp)))
theorem il.ne{s:ae}{x:HT}(h:il s x){B:Nat}{o:SO}(hB:s B=some o)(hn:uf o=true):x.B≠B:=fun e=>by
 obtain⟨_,cd,b,cap,sp,h1,_⟩:=h
 rw[e,hB]at h1
 injection h1 with h1;subst h1
 have:(Fe x.lens cd b cap).any C9=true:=hn
 rw[ahC]at this;cases this
theorem il.set{s:ae}{x:HT}(h:il s x){B:Nat}{o p:SO}(hB:s B=some o)(hn:uf o=true):il (s.set B p) x:=by
 have hne:=h.ne hB hn
 obtain⟨h0,cd,b,cap,sp,h1,h2⟩:=h
 refine⟨h0,cd,b,cap,sp,by rw[ai hne];exact h1,fun hs=>⟨(h2 hs).1,?_⟩⟩
 rw[ai fun e=>?_]
 ·exact(h2 hs).2
 ·subst e
  rw[(h2 hs).2]at hB
  injection hB with hB;subst hB
  have:(flat (uw x.lens)++sp).any C9=true:=hn
  rw[List.any_append,yc,(h2 hs).1]at this;cases this
def il.E7{s:ae}{x:HT}(h:il s x){B0 B1:Nat}{o0 o1 p0 p1:SO}(h0:s B0=some o0)(n0:uf o0=true)(h1:s B1=some o1)(n1:uf o1=true)(hne:B0≠B1):il ((s.set B0 p0).set B1 p1) x:=(h.set h0 n0).set Xd6 n1
def il.mono{s s':ae}{x:HT}(h:il s x)(hs:Sub s s'):il s' x:=by
 obtain⟨h0,cd,b,cap,sp,h1,h2⟩:=h
 exact⟨h0,cd,b,cap,sp,hs _ _ h1,fun h=>⟨(h2 h).1,hs _ _ (h2 h).2⟩⟩
def Vq{s:ae}{x:HT}(h:il s x):FE prog 296 [.ref x.B 0] s [.bool false] s:=by
 obtain⟨h0,cd,b,cap,sp,h1,h2⟩:=h
 obtain⟨B,l⟩:=x
 obtain⟨x,xs,rfl⟩:∃x xs,l=x::xs:=by
  cases l with
  |nil=>exact absurd h0.1 (Nat.lt_irrefl 0)
  |cons x xs=>exact⟨x,xs,rfl⟩
 refine FS 12 [⟨2,true,none⟩] 0x1b18d247fb45d73f93155075a07855e8917eedded84a85be7bc53d20e68824473a ?_
 unfold Fe PF lX at h1
 rw[List.length_cons]at h1
 simp -implicitDefEqProofs only[go_sem,seval,h1,List.cons_append,List.nil_append]
theorem FZ(m:List Int)(x:Int)(n:Nat):im (m++[x]) n=if n≠0/\x=(n:Int)then im m n+1 else im m n:=by
 unfold im
 by_cases h0:n=0
 ·simp[h0]
 ·by_cases hx:x=(n:Int)
  ·simp[h0,hx,List.filter_append]
  ·simp[h0,hx,List.filter_append]
theorem mM(m:List Int):(lX m).length=16:=rfl
theorem CB(m:List Int){n:Nat}(h:n<16):(lX m)[n]? =some (.int .i64 (im m n)):=by
 have:n=0\/n=1\/n=2\/n=3\/n=4\/n=5\/n=6\/n=7\/n=8\/n=9\/n=10\/n=11\/n=12\/n=13\/n=14\/n=15:=AT
 rcases this with h|h|h|h|h|h|h|h|h|h|h|h|h|h|h|h<;>subst h<;>rfl
theorem sub_one{cs:List AV}{n:Nat}{a:AV}(h:cs[n]? =some a):AB.sub cs n 1=[a]:=by
 unfold AB.sub
 obtain⟨h1,h2⟩:=List.getElem?_eq_some_iff.1 h
 rw[List.drop_eq_getElem_cons h1,h2];rfl
def Ke(m:List Int){n:Int}(h0:0<=n)(h:n<16):views (AB.sub (lX m) (n.toNat*1) 1)=[.int .i64 (vx m n)]:=by rw[Nat.mul_one,sub_one (CB m (n:=n.toNat) AT)];rfl
theorem Sd(m:List Int){x:Int}(h0:0<x)(h:x<16):setAt (lX m) (x.toNat*1) [.int .i64 (vx m x+1)]=lX (m++[x]):=by
 rw[Nat.mul_one]
 have hx:x=(x.toNat:Int):=AT
 generalize x.toNat=k at hx h0 h
 subst hx
 apply List.ext_getElem?
 intro j
 have hl:(setAt (lX m) k [AV.int .i64 (vx m (k:Int)+1)]).length=16:=by
  have:=mM m
  simp[setAt,this];omega
 by_cases hj:j<16
 ·rw[CB _ hj,FZ]
  have hk:k<16:=AT
  unfold setAt
  by_cases hjk:j=k
  ·subst hjk
   have ht:(List.take j (lX m)).length=j:=by rw[List.length_take,mM];omega
   rw[List.append_assoc,List.getElem?_append_right AT,if_pos ⟨AT,rfl⟩,ht,Nat.sub_self]
   simp[vx]
  ·rw[if_neg AT,<-CB m hj]
   rcases Nat.lt_or_ge j k with h1|h1
   ·rw[List.append_assoc,List.getElem?_append_left (by simp[mM];omega),List.getElem?_take,if_pos h1]
   ·rw[List.getElem?_append_right (by simp[mM];omega),List.getElem?_drop]
    congr 1
    simp[mM];omega
 ·rw[List.getElem?_eq_none AT,List.getElem?_eq_none (by rw[mM];omega)]
theorem Qh(m:List Int){x:Int}(h:¬0<x):lX (m++[x])=lX m:=by
 unfold lX
 simp only[FZ]
 simp;omega
theorem Jj(l:List Int){k:Nat}(h:k<l.length):l.take (k+1)=l.take k++[ix l (k:Int)]:=by rw[List.take_succ_eq_append_getElem h,gr h]
def Wn(m:List Int)(x:Int):0<=vx m x/\vx m x<=m.length:=by
 unfold vx im
 split
 ·omega
 ·have:=List.length_filter_le (fun y=>y==(x.toNat:Int)) m;omega
def CE{l:List Int}{s:ae}(hl:l.length<4611686018427387904)(hx:∀x∈l,0<=x/\x<=15):FE prog 290 [PF l] s [.agg (lX l)] s:=by
 refine FS 21 [⟨2,false,some (16,true)⟩] 0x91ff9519540eb017118035afd29083c5465406a0b1b11acdcc1df137010aacf9d96b648cf70331f162cf0af648c6d6d66c9e26e18e969ced7ac885632659cd39ced9497d23066efcf08582d66aefbdaf4fe78797092a17f7e64ad22c828af5a57ec00000000000000000000000000000a887ba78fcc000000000000000000000000000000058c4f3a ?_
 refine Xe2 ?_
 refine iY l.length (fun k τ=>τ=⟨[(2,.loc (lX [])),(3,.loc (lX (l.take k))),(6,PF l),(7,.int .i64 l.length),(8,.int .i64 k)],[],s⟩) hl rfl (fun k hk J τ hτ hJ=>?_) (fun J τ hτ=>?_)
 ·subst hτ
  have hlt:decide ((k:Int)<(l.length:Int))=true:=C3
  have hw:aC ((k:Int)+1)=((k+1:Nat):Int):=E_
  have hn:=hJ _ rfl
  rw[Jj l hk]at hn
  have hix:=hx (ix l (k:Int)) Xd7
  have hml:(l.take k).length=k:=N_
  generalize l.take k=m at hn hml
  have hc:=mM m
  refine Xe9 hlt hw ?_
  generalize ix l (k:Int)=x at hn hix
  refine⟨⟨AT,AT⟩,fun hg=>⟨⟨AT,AT⟩,?_⟩,fun hg=>?_⟩
  ·have hg:0<x:=of_decide_eq_true hg
   have hd:decide (x.toNat*1+1<=(lX m).length)=true:=by rw[hc];simp;omega
   have hv:=Ke m (n:=x) AT AT
   have hz:=Wn m x
   have hw2:aC (vx m x+1)=vx m x+1:=an AT AT
   refine Xg7 hd hv hw2 hw ?_
   refine⟨⟨AT,AT⟩,by rw[hc];omega,?_⟩
   rw[Sd m hg AT]
   exact hn
  ·have hg:¬0<x:=of_decide_eq_false hg
   rw[Qh m hg]at hn
   exact hn
 ·subst hτ
  have hlt:decide ((l.length:Int)<(l.length:Int))=false:=BY
  rw[List.take_length]
  refine Xe9 hlt (mM l) ?_
  have e1:views (AB.sub (lX l) 0 16)=lX l:=rfl
  refine Xe3 e1 ?_
  exact⟨rfl,Nat.le_refl _,rfl,rfl⟩
def Qu{l:List Int}{s:ae}{Q:List AV->ae->Prop}(hq:∀fs:List UInt32,fs.length=16->Q [.agg (flat fs)] s):FN prog 298 [.agg (lX l)] s Q:=by
 refine FS 24 [⟨2,false,some (16,true)⟩] 0x177e6ab2d42ed963a43ab26dd9a889a139ecf5abaa7bcc440aabc7373fd9b7ae54325ff0f13a99a1e3db5c9d5ad2496a9e3afff1a71a677587aad3e352db585e184e57656ec0790feab470a97acd4f3617c2c88d0d2eb5538748917abd563e313f654f1dd0cbd4333594e561c41086661ede4cf5b62a2391a0b41682d05a0b41682d05a0b41682d05a0b41682682b978ac4dc0981302604c0981302604c0981302604c0981302601528d2dda995b ?_
 refine Xe2 ?_
 have ev:views (lX l)=lX l:=rfl
 refine⟨D_,?_⟩
 refine Xg0 ev ?_
 refine iY 16 (fun k τ=>∃(fs:List UInt32)(c:UInt32),fs.length=16/\τ=⟨[(1,.loc (lX l)),(2,.loc (flat (List.replicate 16 (0:UInt32)))),(3,.loc (flat fs)),(4,.int .u32 c.toNat),(6,.int .i64 k)],[],s⟩) By ⟨List.replicate 16 0,0,rfl,rfl⟩ (fun k hk J τ hτ hJ=>?_) (fun J τ hτ=>?_)
 ·obtain⟨fs,c,hf,rfl⟩:=hτ
  have hlt:decide ((k:Int)<16)=true:=C3
  have hw:aC ((k:Int)+1)=((k+1:Nat):Int):=E_
  refine Xe9 hlt hw ?_
  refine⟨fun hg=>?_,fun hg=>?_⟩
  ·have hg:0<(k:Int):=of_decide_eq_true hg
   have hw2:aC ((k:Int) -1)=(k:Int) -1:=an AT AT
   have hd:decide (((k:Int) -1).toNat*1+1<=(lX l).length)=true:=by rw[mM];simp;omega
   have hv:=Ke l (n:=(k:Int) -1) AT AT
   refine Xf1 hw2 hd hv ?_
   have hs:=fun x=>LZ fs (n:=1) rfl x (j:=(k:Int)) AT AT
   have hr:=Ha fs (n:=1) rfl (j:=(k:Int)) AT AT
   rw[Int.toNat_natCast]at hr
   refine⟨⟨AT,AT⟩,⟨AT,AT⟩,hr.1,?_⟩
   generalize eC (ly .u32 _ 1)=c'
   have h2:=hs c'
   rw[Int.toNat_natCast]at h2
   rw[hw,show setAt (flat fs) (k*1) [.int .u32 c'.toNat]=flat (fs.set k c') from h2]
   exact hJ _ ⟨fs.set k c',c',by rw[List.length_set,hf],rfl⟩
  ·exact hJ _ ⟨fs,c,hf,rfl⟩
 ·obtain⟨fs,c,hf,rfl⟩:=hτ
  have hlt:decide ((16:Int)<16)=false:=By
  have hlf:(flat fs).length=16:=by rw[ax,hf];rfl
  have e1:views (AB.sub (flat fs) 0 16)=flat fs:=by
   unfold AB.sub
   rw[List.drop_zero,List.take_of_length_le AT,aH]
  have e2:setAt (flat (List.replicate 16 (0:UInt32))) 0 (flat fs)=flat fs:=by
   have h16:(flat (List.replicate 16 (0:UInt32))).length=16:=rfl
   unfold setAt
   rw[List.take_zero,List.nil_append,hlf,List.drop_eq_nil_of_le AT,List.append_nil]
  refine Xf8 hlt hlf e1 e2 ?_
  exact⟨By,hq fs hf⟩
def Sf{l:List Int}{s:ae}{Q:List AV->ae->Prop}{k0:Int}(hk:oM l=some k0)(hx:0<=k0->0<l.length/\l.length<=320/\∀x∈l,0<=x/\x<=15)
 (h0:k0<0->Q [.sl true 1 0 [],.int .i64 13] s)(h1:0<=k0->∀cd:List UInt32,cd.length=l.length->Q [.sl true 1 cd.length (flat cd),.int .i64 0] s):FN prog 288 [PF l] s Q:=by
 refine FS 39 [⟨2,true,none⟩,⟨3,true,none⟩] 0xa0b3bba5e7f034a5bc4aa9718bc6e2d241e0250d99dc8b87fafb98af2e1ba55a37dbd10b1aca97f97e9509a7463a140c9caec91cfa55f59626afe75db088f8a6748b934c2024d84490e1b69ee02dd94ad93fc6dc757a2cc9876bd4f7987cfc0c2e6af759922e987da57c40d56ac1f1760b957790163fc69cca3b214de1c0b80fa5e1ce9bbb2ee5b5cfd0bfee95c28fce5001f7faa60681397a5f7da0bc1782f05e0bc1782f05e0bc1782ecd0735f63a764e7dac5d1fbca555dc511eed4beb5aba2129d0ba0e28b3c303b85f173db200798d0f2a78b ?_
 refine Xe2 ?_
 refine au (fun _ h=>(iW EM h:)) (fun r hr=>?_) ⟨k0,hk,rfl⟩
 subst hr
 refine Xe5 ?_
 refine⟨fun hc=>h0 (of_decide_eq_true hc),fun hc=>?_⟩
 have hc:¬k0<0:=of_decide_eq_false hc
 obtain⟨hl0,hl1,hx⟩:=hx AT
 have h1:=h1 AT
 clear h0 hk
 refine FE.app (CE AT hx) ?_
 refine Xe5 ?_
 refine Qu fun fs hfs=>?_
 have hlf:(flat fs).length=16:=by rw[ax,hfs];rfl
 have hvf:=aH fs
 refine Xe9 hlf hvf ?_
 refine⟨AT,AT,iN,fun b hb=>?_⟩
 rw[List.append_nil]
 clear hlf hvf
 refine iY l.length (fun k τ=>∃fs cd:List UInt32,fs.length=16/\cd.length=l.length/\τ=⟨[(4,.loc (flat fs)),(5,.arr b 0 l.length l.length),(17,PF l),(18,.int .i64 l.length),(19,.int .i64 k)],[],s.set b (.cells (flat cd))⟩) AT ⟨fs,List.replicate l.length 0,hfs,BY,rfl⟩ (fun k hk J τ hτ hJ=>?_) (fun J τ hτ=>?_)
 ·obtain⟨fs,cd,hf,hcd,rfl⟩:=hτ
  have hlt:decide ((k:Int)<(l.length:Int))=true:=C3
  have hw:aC ((k:Int)+1)=((k+1:Nat):Int):=E_
  have hix:=hx (ix l (k:Int)) Xd7
  refine Xe3 hlt ?_
  generalize ix l (k:Int)=x at hix
  refine⟨⟨AT,AT⟩,fun hg=>?_,fun hg=>?_⟩
  ·have hg:0<x:=of_decide_eq_true hg
   have hr:=Ha fs (n:=1) rfl (j:=x) AT AT
   have hd:=decide_eq_true hr.1
   have hr2:views (AB.sub (flat fs) (x.toNat*1) 1)=[.int .u32 (ix fs x).toNat]:=hr.2
   have hs:=fun c=>LZ fs (n:=1) rfl c (j:=x) AT AT
   have hs2:setAt (flat cd) (k*1) [.int .u32 (ix fs x).toNat]=flat (cd.set k (ix fs x)):=by
    have:=LZ cd (n:=1) rfl (ix fs x) (j:=(k:Int)) AT AT
    rwa[Int.toNat_natCast]at this
   have hk1:k*1+1<=(flat cd).length:=by
    have:=(Ha cd (n:=1) rfl (j:=(k:Int)) AT AT).1
    rwa[Int.toNat_natCast]at this
   refine Xg7 hd hr2 hs2 hw ?_
   refine⟨⟨AT,AT⟩,⟨AT,AT⟩,hk1,⟨AT,AT⟩,⟨AT,AT⟩,hr.1,?_⟩
   exact hJ _ ⟨_,cd.set k _,by rw[Hl fs AT AT,hf],by rw[List.length_set,hcd],rfl⟩
  ·refine Xe3 hw ?_
   exact hJ _ ⟨fs,cd,hf,hcd,rfl⟩
 ·obtain⟨fs,cd,hf,hcd,rfl⟩:=hτ
  have hlt:decide ((l.length:Int)<(l.length:Int))=false:=BY
  refine Xe3 hlt ?_
  right
  have hlc:(flat cd).length=l.length:=by rw[ax,hcd];exact Nat.mul_one _
  have dn:decide (l.length*1<=(flat cd).length)=true:=by rw[hlc];simp
  have e1:views (AB.sub (flat cd) 0 (l.length*1))=flat cd:=by
   unfold AB.sub
   rw[List.drop_zero,List.take_of_length_le AT,aH]
  refine⟨hl0,Nat.le_refl _,fun _=>⟨rfl,?_,?_⟩,?_⟩
  ·simp only[bp,xr];omega
  ·simp only[bp,ye.sizeV];omega
  ·have h1:=h1 cd hcd
   rw[hcd]at h1
   simp -implicitDefEqProofs only[go_sem,seval,bp,jU,ye.frzK,dn,e1,jV hb,cond_true,bL]
   exact h1
def Pb:IC:=dec 0x1ff0ab553080736dfe6da5a56c8b8f7738df06a89f5abc1861a6e1b89a2fd5acc5c3ac87e9affbed670c8daa3efda84d43a9c02666c4bcaf21009a66389db98c8e5eef20fb2b835dc283c65964dbaed03afe948434a5dd74c7c4301d3cbca430c467312b5ec51bfa17664473bcc00d2af795d1aa42c97be1ce6ac5e62b76d35878b8d7f8bd7c862df4ab020a09941cb6ccc0167f3807def6e30a51f89c6bd92824b126902000000000000039d64e8307d7ee22f439c2d28ed907dc9396466464c5ba5be22c28206c393e0586e647bb4629339e8adcae22b78376847e4aeabf8c5cb2395ad6181f35f89d807d4c81a097ac
def Xq:eO prog 271 51 [⟨2,true,none⟩,⟨3,true,none⟩] Pb=true:=B_
section
variable{α:Type}[aP α]
def PC:cZ->List AV
 |none=>[]
 |some (_,_,sp)=>sp
def RL{E:St}{d:Option Nat}{K:St->Prop}{sz by':Nat}{s:ae}{r:cZ}{l:List α}{z v:α}(hσ:E.s=jb s r l)(h:fY s r l)(hz:sz=aP.w α)(hr:(l.length+1)*by'<=room)
 (hK:∀s' r',Sub s s'->fY s' r' (l++[v])->(∀c∈PC r',c∈PC r\/c∈aP.cells z)->K ({E with s:=jb s' r' (l++[v])}.put d (jk r' (l.length+1)))):
 eS sz by' (aP.cells z) E d K (jk r l.length) (some (1,aP.cells v)):=by
 subst hz
 have hcz:=aP.len z
 have hcv:flat [v]=aP.cells v:=ω
 have fresh:∀(s':ae)(b' cP:Nat),s' b'=none->l.length+1<=cP->fY s' (some (b',cP,flat (List.replicate (cP -(l.length+1)) z))) (l++[v]):=fun s' b' cP hb hc=>by
  refine⟨hb,AT,J_,?_,aH _⟩
  rw[List.length_append,ax,ax,List.length_replicate,List.length_append,<-Nat.add_mul]
  congr 1
  simp;omega
 have zs:∀k,∀c∈flat (List.replicate k z),c∈PC r\/c∈aP.cells z:=fun k c hc=>by
  rw[fq]at hc
  obtain⟨x,hx,hc⟩:=List.mem_flatten.1 hc
  rw[List.eq_of_mem_replicate hx]at hc
  exact .inr hc
 cases r with
 |none=>
  obtain rfl:l=[]:=h
  show eS (aP.w α) by' (aP.cells z) E d K (.arr 0 0 0 0) _
  refine er hcz (olds:=[]) rfl BY hr fun b' cP hb' hc=>?_
  rw[List.nil_append,<-fq,<-hcv]
  rw[hσ]at hb'⊢
  have:=hK s (some (b',cP,flat (List.replicate (cP -(0+1)) z))) (Sub.refl s) (fresh s b' cP hb' hc) (zs _)
  exact this
 |some x=>
  obtain⟨b,cap,sp⟩:=x
  obtain⟨h1,h2,h3,h4,h5⟩:=h
  have hs:E.s b=some (.cells (flat l++sp)):=Xa0
  show eS (aP.w α) by' (aP.cells z) E d K (.arr b 0 l.length cap) _
  by_cases hc:l.length+1<=cap
  ·refine k8 hcz hs AT hc ?_
   have hsp:[v].length*aP.w α<=sp.length:=by
    rw[List.length_append,ax]at h4
    have:(l.length+1)*aP.w α<=cap*aP.w α:=Nat.mul_le_mul_right _ hc
    rw[Nat.add_mul,Nat.one_mul]at this
    simp;omega
   have st:=yZ l [v] sp (aP.w α) rfl hsp
   rw[Nat.zero_add,<-hcv,st]
   have e:E.s.set b (.cells (flat (l++[v])++sp.drop ([v].length*aP.w α)))=jb s (some (b,cap,sp.drop ([v].length*aP.w α))) (l++[v]):=by
    rw[hσ]
    exact set_set ..
   rw[e]
   refine hK s _ (Sub.refl s) ⟨h1,h2,J_,?_,?_⟩ fun c hc=>.inl (List.mem_of_mem_drop hc)
   ·rw[List.length_append,ax]at h4⊢
    rw[List.length_drop,List.length_append,Nat.add_mul]
    omega
   ·unfold views at h5⊢
    rw[List.map_drop,h5]
  ·refine er hcz (oi hs A_) AT hr fun b' cP hb' hc'=>?_
   have ho:views (AB.sub (flat l++sp) 0 (l.length*aP.w α))=flat l:=by
    have:=ik l sp (aP.w α) 0 l.length rfl AT
    rw[Nat.zero_mul]at this
    rw[this,List.drop_zero,List.take_length,aH]
   rw[ho,<-fq,<-hcv,<-c8]
   rw[hσ]at hb'⊢
   have hb0:=hb'
   exact hK (s.set b (.cells (flat l++sp))) (some (b',cP,flat (List.replicate (cP -(l.length+1)) z))) ((Sub.refl s).set h1) (fresh _ b' cP hb0 hc') (zs _)
end
namespace SI
end SI
def ul(l:List Int)(k:Nat):List Int:=((List.range k).map fun(i:Nat)=>(i:Int)).filter fun i=>decide (0<ix l i)
theorem JB(l:List Int)(k:Nat):ul l (k+1)=if 0<ix l (k:Int)then ul l k++[(k:Int)]else ul l k:=by
 unfold ul
 rw[List.range_succ,List.map_append]
 by_cases h:0<ix l k
 ·simp[h]
 ·simp[h]
def Vv(l:List Int)(k:Nat):(ul l k).length<=k:=by
 refine Nat.le_trans (List.length_filter_le _ _) ?_
 simp
def Vw{l:List Int}{k:Nat}{x:Int}(h:x∈ul l k):0<=x/\x<k:=by
 obtain⟨i,hi,rfl⟩:=List.mem_map.1 (List.mem_filter.1 h).1
 have:=List.mem_range.1 hi
 omega
def Vx(l:List Int):∀k,(ul l k).Pairwise fun u v=>u<v
 |0=>List.Pairwise.nil
 |k+1=>by
  rw[JB]
  split
  ·refine List.pairwise_append.2 ⟨Vx l k,List.pairwise_singleton _ _,fun x hx y hy=>?_⟩
   rw[List.mem_singleton]at hy
   have:=Vw hx
   omega
  ·exact Vx l k
def Vk(n:Nat):∀(l:List Int)(o:Nat),(sy n l o).Pairwise fun u v=>u<v
 |[],_=>List.Pairwise.nil
 |x::l,o=>by
  rw[sy]
  split
  ·refine List.pairwise_cons.2 ⟨fun y hy=>?_,Vk n l _⟩
   have:=Ji l (o+1) y hy
   omega
  ·exact Vk n l _
def abD{l:List Int}{p:Int->Bool}{x:Int}(h:x∈(idxs l).filter p):0<=x/\x<l.length/\p x=true:=by
 have h2:=List.mem_filter.1 h
 obtain⟨i,hi,rfl⟩:=List.mem_map.1 h2.1
 have:=List.mem_range.1 hi
 exact⟨BY,AT,h2.2⟩
def PQ{n:Nat}{l:List Int}{x:Int}(h:x∈sy n l 0):ix l x=(n:Int):=by
 rw[<-Nc]at h
 have:=(abD h).2.2
 simpa using this
def UH{l:List Int}{x:Int}:∀m,x∈pre l m->0<ix l x/\ix l x<=(m:Int)
 |0,h=>absurd h List.not_mem_nil
 |m+1,h=>by
  rcases List.mem_append.1 h with h|h
  ·have:=UH m h;omega
  ·have:=PQ h;omega
def Pv(l:List Int):∀m,jT (SI.BC l) (pre l m)
 |0=>List.Pairwise.nil
 |m+1=>by
  refine jT.app.2 ⟨Pv l m,?_,fun a ha b hb=>?_⟩
  ·refine List.Pairwise.imp_of_mem (fun{x y} hx hy hxy=>?_) (Vk (m+1) l 0)
   have h1:=PQ hx
   have h2:=PQ hy
   unfold SI.BC
   simp;omega
  ·have h1:=UH m ha
   have h2:=PQ hb
   unfold SI.BC
   simp;omega
def LD(l:List Int):∀m,(pre l m).Perm ((idxs l).filter fun x=>decide (0<ix l x/\ix l x<=(m:Int)))
 |0=>by
  rw[List.filter_eq_nil_iff.2]
  ·exact List.Perm.refl _
  ·simp
 |m+1=>by
  have h:=List.filter_append_perm (fun x=>decide (0<ix l x/\ix l x<=m)) ((idxs l).filter fun x=>decide (0<ix l x/\ix l x<=((m+1):Int)))
  rw[List.filter_filter,List.filter_filter]at h
  refine List.Perm.trans (List.Perm.append (LD l m) (List.Perm.refl _)) ?_
  rw[<-Nc]
  refine List.Perm.trans (List.Perm.of_eq ?_) h
  congr 1
  ·refine List.filter_congr fun x _=>?_
   simp;omega
  ·refine List.filter_congr fun x _=>?_
   rw[Bool.eq_iff_iff];simp;omega
def Ri{l Z:List Int}(hl:ET l)(h1:Z.Perm (ul l l.length))(h2:jT (SI.BC l) Z):Z=uw l:=by
 have hp:=LD l 15
 rw[<-D2]at hp
 have e:((idxs l).filter fun x=>decide (0<ix l x/\ix l x<=((15:Nat))))=ul l l.length:=by
  refine List.filter_congr fun x hx=>?_
  obtain⟨i,hi,rfl⟩:=List.mem_map.1 hx
  have hi:=List.mem_range.1 hi
  have:=hl.2.2 _ (List.getElem_mem hi)
  rw[<-gr hi]at this
  simp;omega
 rw[e]at hp
 refine List.Perm.eq_of_pairwise (fun a b _ _ h1 h2=>?_) h2 (by rw[D2];exact Pv l 15) (h1.trans hp.symm)
 unfold SI.BC at h1 h2
 simp[Bool.or_eq_false_iff,decide_eq_false_iff_not,Bool.and_eq_false_iff,beq_eq_false_iff_ne]at h1 h2
 omega
theorem G9{α:Type}[aP α]{S:ae}{r:cZ}{l:List α}(h:fY S r l){B:Nat}{o:SO}(hB:S B=some o)(p:SO):(jb S r l).set B p=jb (S.set B p) r l/\fY (S.set B p) r l:=by
 cases r with
 |none=>exact⟨rfl,h⟩
 |some x=>
  obtain⟨rb,cap,sp⟩:=x
  obtain⟨h1,h2⟩:=h
  have hne:B≠rb:=fun e=>A_
  exact⟨set_comm hne,Xd6,h2⟩
abbrev Vl(l:List Int)(cd:List UInt32)(a:AV):List AV:=PF l::.sl false 1 cd.length (flat cd)::(lX l++[a])
def acd{l:List Int}{s:ae}{Q:List AV->ae->Prop}(h0:Ph l<0->∀s',Sub s s'->Q [.fN,.int .i64 13] s')(h1:0<=Ph l->∀s' x,Sub s s'->il s' x->x.lens=l->Q [.ref x.B 0,.int .i64 0] s'):FN prog 271 [PF l] s Q:=by
 have cg:room=140737488355328:=rfl
 refine FN.j4 (FO Xq rfl rfl ?_)
 generalize hQ:(fun rs s'=>∃s2,Sub s2 s'/\Q rs s2)=Q'
 rw[Pb]
 refine Xf7 ?_
 refine Xe5 ?_
 intro b hb
 refine Sf (TU l) (fun h=>Nr h) (fun h=>?_) (fun h cd hcd=>?_)
 ·refine Xg8 ?_
  refine⟨fun _=>?_,fun hc=>absurd hc By⟩
  subst hQ
  exact⟨s,(Sub.refl s).set hb,h0 h s (Sub.refl s)⟩
 ·have hok:=Nr h
  obtain⟨hl0,hl1,hl2⟩:=hok
  have hl8:l.length*8<=room:=AT
  simp -implicitDefEqProofs only[go_sem,seval,bp,bL]
  refine⟨_,rfl,Qf hl8,_,rfl,CE AT hl2,?_⟩
  have hcv:views (flat cd)=flat cd:=aH cd
  have hlv:views (flat l)=flat l:=aH l
  have hca:views (lX l)=lX l:=rfl
  simp -implicitDefEqProofs only[go_sem,seval,lX,bL]
  intro B hB
  have hne:B≠b:=fun e=>by subst e;rw[bp]at hB;cases hB
  have hsB:s B=none:=by rw[ai hne]at hB;exact hB
  have hbB:=fun o:SO=>(ai hne.symm:((s.set b (.cells [PF l])).set B o) b=(s.set b (.cells [PF l])) b)
  simp -implicitDefEqProofs only[go_sem,seval,ai hne.symm,bp]
  refine iY l.length (fun k τ=>∃(S:ae)(r:cZ),τ=⟨[(1,.ref b 0),(6,.ref B 0),(24,PF l),(25,.int .i64 l.length),(26,.int .i64 k)],[],jb S r (ul l k)⟩/\fY S r (ul l k)/\Sub s S/\S b=some (.cells [PF l])/\S B=some (.cells (Vl l cd (jk r (ul l k).length)))/\(∀c∈PC r,c=.int .i64 0)) AT ?_ (fun k hk J τ hτ hJ=>?_) (fun J τ hτ=>?_)
  ·refine⟨_,none,rfl,rfl,?_,?_,bp,fun c hc=>absurd hc List.not_mem_nil⟩
   ·exact((Sub.refl s).set hb).set hB
   ·show((s.set b (.cells [PF l])).set B _) b=_
    rw[ai hne.symm,bp]
  ·obtain⟨S,r,rfl,hr,hs,hSb,hSB,hsp⟩:=hτ
   have hlt:decide ((k:Int)<(l.length:Int))=true:=C3
   have hw:aC ((k:Int)+1)=((k+1:Nat):Int):=E_
   have hul:=Vv l k
   refine Xe3 hlt ?_
   refine⟨⟨AT,AT⟩,fun hg=>?_,fun hg=>?_⟩
   ·have hg:0<ix l (k:Int):=of_decide_eq_true hg
    have hB2:=jR hr hSB
    have hu:=JB l k
    rw[if_pos hg]at hu
    unfold Vl lX at hB2
    simp -implicitDefEqProofs only[go_sem,seval,hB2,List.cons_append,List.nil_append,gl,bL]
    refine RL (z:=(0:Int)) (v:=(k:Int)) rfl hr rfl AT fun S' r' hs' hr' ajW=>?_
    have hB3:=jR hr' (hs' _ _ hSB)
    unfold Vl lX at hB3
    simp -implicitDefEqProofs only[go_sem,seval,hB3,hw,List.cons_append,List.nil_append,bL]
    refine hJ _ ⟨S'.set B (.cells (Vl l cd (jk r' (ul l (k+1)).length))),r',?_,?_,?_,?_,bp,fun c hc=>?_⟩
    ·rw[hu,List.length_append,(G9 hr' (hs' _ _ hSB) _).1];rfl
    ·rw[hu];exact(G9 hr' (hs' _ _ hSB) _).2
    ·intro b' o hb'
     have:b'≠B:=fun e=>by subst e;rw[hsB]at hb';cases hb'
     rw[ai this]
     exact hs' _ _ (hs _ _ hb')
    ·rw[ai hne.symm];exact hs' _ _ hSb
    ·rcases ajW c hc with h|h
     ·exact hsp c h
     ·have h:c∈[AV.int .i64 0]:=h
      simpa using h
   ·have hg:¬0<ix l (k:Int):=of_decide_eq_false hg
    have hu:=JB l k
    rw[if_neg hg]at hu
    refine Xe3 hw ?_
    exact hJ _ ⟨S,r,by rw[hu],by rw[hu];exact hr,hs,hSb,by rw[hu];exact hSB,hsp⟩
  ·obtain⟨S,r,rfl,hr,hs,hSb,hSB,hsp⟩:=hτ
   have hlt:decide ((l.length:Int)<(l.length:Int))=false:=BY
   have hB2:=jR hr hSB
   have hb2:=jR hr hSb
   unfold Vl lX at hB2
   simp -implicitDefEqProofs only[go_sem,seval,hlt,hB2,List.cons_append,List.nil_append,bL]
   have fin:∀s',Sub s s'->il s' ⟨B,l⟩->Q' [.ref B 0,.int .i64 0] s':=fun s' h2 h3=>by
    subst hQ
    exact⟨s',Sub.refl s',h1 h s' ⟨B,l⟩ h2 h3 rfl⟩
   have O4:=fun Z h1 h2=>Ri (l:=l) (Z:=Z) ⟨hl0,hl1,hl2⟩ h1 h2
   cases r with
   |none=>
    have hu0:ul l l.length=[]:=hr
    rw[hu0]at hSB O4⊢
    refine SI.Rb ?_
    refine Xe5 ?_
    refine fin S hs ⟨⟨hl0,hl1,hl2⟩,cd,0,0,[],?_,fun hne=>?_⟩
    ·have:=O4 [] (List.Perm.refl _) List.Pairwise.nil
     rw[hSB]
     unfold Fe
     rw[<-this];rfl
    ·exact absurd (O4 [] (List.Perm.refl _) List.Pairwise.nil).symm hne
   |some x=>
    obtain⟨rb,cap,sp⟩:=x
    have hrb:S rb=none:=hr.1
    have ajM:b≠rb:=fun e=>by subst e;rw[hSb]at hrb;cases hrb
    have ajL:B≠rb:=fun e=>by subst e;rw[hSB]at hrb;cases hrb
    refine SI.Rc (Lb:=b) (lens:=l) hSb ajM (by have:=Vv l l.length;omega) (Vx l _) (fun z hz=>Vw hz) fun Z hZ hs2=>?_
    have hZe:=O4 Z hZ hs2
    refine Xe5 ?_
    refine fin _ ?_ ⟨⟨hl0,hl1,hl2⟩,cd,rb,cap,sp,?_,fun _=>⟨?_,?_⟩⟩
    ·exact fun b' o hb'=>by
      have h3:=hs _ _ hb'
      have:b'≠rb:=fun e=>by subst e;rw[hrb]at h3;cases h3
      show S.set rb _ b'=_
      rw[ai this];exact h3
    ·show S.set rb _ B=_
     rw[ai ajL,hSB]
     unfold Fe
     rw[<-hZe,hZ.length_eq]
     rfl
    ·rw[List.any_eq_false]
     intro c hc
     rw[hsp c hc]
     simp[C9]
    ·show S.set rb _ rb=_
     rw[hZe,bp]
def il.row{s:ae}{x:HT}(h:il s x){B:Nat}{o:SO}(hB:s B=some o)(hn:uf o=true):x.B≠B/\∃(cd:List UInt32)(b cap:Nat)(sp:List AV),(∀p,(s.set B p) x.B=some (.cells (Fe x.lens cd b cap)))/\(uw x.lens≠[]->∀p,(s.set B p) b=some (.cells (flat (uw x.lens)++sp))):=by
 have hne:=h.ne hB hn
 obtain⟨h0,cd,b,cap,sp,h1,h2⟩:=h
 refine⟨hne,cd,b,cap,sp,fun p=>by rw[ai hne];exact h1,fun hs p=>?_⟩
 rw[ai fun e=>?_]
 ·exact(h2 hs).2
 ·subst e
  rw[(h2 hs).2]at hB
  injection hB with hB;subst hB
  have:(flat (uw x.lens)++sp).any C9=true:=hn
  rw[List.any_append,yc,(h2 hs).1]at this;cases this
abbrev rdC(r:bM):List AV:=[.int .i64 r.aB.at_,.bool r.aB.tK,.bool r.aB.wg,.sl false 1 r.b_.length (flat r.b_)]
theorem Ea(l:List Int)(cd:List UInt32)(b cap:Nat):Fe l cd b cap=[PF l,.sl false 1 cd.length (flat cd),.int .i64 (im l 0),.int .i64 (im l 1),.int .i64 (im l 2),.int .i64 (im l 3),.int .i64 (im l 4),.int .i64 (im l 5),.int .i64 (im l 6),.int .i64 (im l 7),.int .i64 (im l 8),.int .i64 (im l 9),.int .i64 (im l 10),.int .i64 (im l 11),.int .i64 (im l 12),.int .i64 (im l 13),.int .i64 (im l 14),.int .i64 (im l 15),.arr b 0 (uw l).length cap]:=rfl
def YG(l:List Int)(cd:List UInt32)(b cap:Nat){n:Int}(h0:0<=n)(h:n<16)(cs:List AV)(e:cs=Fe l cd b cap):views (List.take 1 (List.drop (2+n.toNat*1) cs))=[.int .i64 (vx l n)]:=by
 subst e
 unfold vx
 have h2:n.toNat<16:=AT
 generalize n.toNat=m at h2
 have:m=0\/m=1\/m=2\/m=3\/m=4\/m=5\/m=6\/m=7\/m=8\/m=9\/m=10\/m=11\/m=12\/m=13\/m=14\/m=15:=AT
 rcases this with h|h|h|h|h|h|h|h|h|h|h|h|h|h|h|h<;>subst h<;>rfl
def ym{t_0:HT}{r_1:bM}{B1:Nat}{s:ae}{Q:List AV->ae->Prop}(hB1:s B1=some (.cells [.int .i64 r_1.aB.at_,.bool r_1.aB.tK,.bool r_1.aB.wg,.sl false 1 r_1.b_.length (flat r_1.b_)]))(va0:il s t_0):ok (ir t_0 r_1) (fun r=>Q [.int .i64 r.1,.int .i64 r.2.1] (s.set B1 (.cells [.int .i64 r.2.2.aB.at_,.bool r.2.2.aB.tK,.bool r.2.2.aB.wg,.sl false 1 r.2.2.b_.length (flat r.2.2.b_)])))->FN prog 287 [.ref t_0.B 0,.ref B1 0] s Q:=by
 intro h
 refine FS 77 [⟨4,true,none⟩,⟨5,true,none⟩] 0xed146486bd4d4e88c059262de53264f86fd294a7895cb5bed24c664d4a89e0c43bce1cd8c63468cbfba312e4619ea971868e7e62fcec13524e0b8818178cf9762bbb98711c5c55924a07895f06d9cb77dfef4e52d4b9a2cebe9e42c131071ef92ad2ddfb1db9b9dc6d841a5521d023015cd8bc85cb45418f984b10237709ec63339513a1c93295367e7ca9758173ef1af695097937e4222cfb69eb77139246b3dad19128d7fd830ac88a249e382c6460c898781b9e1453d2b2298e97a8e415c57d68320cfab3757076ebe542b7ada1ed4f4fde354a326a0230a2a09826a0bac23426bf5fb8a9c870083dedc80f9897d97c5d0a07b3c2d6f82e6f0f6d8af4bdde1421f1d2c6d1095c78dc0d6859a1810b7bb947b1892365bd05fc41d0eb7079603c311ac076ea0e155a0f7055815a4b4fbe23b0d697eb2003cc00844b ?_
 obtain⟨hne,cd,b,cap,sp,hT,hR⟩:=va0.row hB1 rfl
 refine FE.app (Vq va0) ?_
 refine Xe5 ?_
 unfold ir at h
 refine cX (fun((code,first,at_,n,r):Int×Int×Int×Int×bM)=>(⟨[(0,.ref t_0.B 0),(1,.ref B1 0),(6,.int .i64 code),(7,.int .i64 first),(8,.int .i64 at_),(9,.int .i64 n)],[],s.set B1 (.cells (rdC r))⟩:St)) ?_ ?_ h
 ·simp -implicitDefEqProofs only[go_sem,seval,bq hB1]
 ·rintro J ⟨code,first,at_,n,r⟩
  simp only[Ea]at hT
  refine Xe3 hT ?_
  refine b8 (dv (b8 dm (dv fun hh=>?_))) dm
  refine ov (B0:=B1) bp (aL hh fun g hg=>?_)
  refine Xg9 hT ?_
  obtain⟨hg1,hg2⟩:=hg
  refine⟨hg1,fun he=>?_⟩
  obtain⟨hn,hg3,hg4⟩:=hg2 he
  clear hg1 hg2 hh h
  have hd:decide (2+n.toNat*1<=18)=true:=C3
  have hv:=fun cs(e:cs=Fe t_0.lens cd b cap)=>YG t_0.lens cd b cap hn.1 hn.2 cs e
  have hv:=hv _ rfl
  simp only[Ea]at hv
  refine⟨hn,?_⟩
  rw[hd,cond_true,hv]
  refine⟨fun hc=>?_,fun hc=>?_⟩
  ·obtain⟨h1,h2⟩:=hg3 hc
   have ajK:uw t_0.lens≠[]:=fun e=>by rw[e]at h1;have:=h1.1;have:=h1.2;simp at this;omega
   have dE:=ahn (uw t_0.lens) sp (n:=1) rfl h1.1 h1.2
   have hR:=hR ajK
   generalize flat (uw t_0.lens)++sp=rc at dE hR
   have hd2:=decide_eq_true dE.1
   have hv2:views (AB.sub rc _ 1)=[.int .i64 _]:=dE.2
   refine Xg7 hT hR hd2 hv2 ?_
   exact⟨h1,h2⟩
  ·have h2:=hg4 hc
   simp -implicitDefEqProofs only[go_sem,seval,hT,hd,cond_true,hv,bL]
   exact⟨hn,hn,h2⟩
end Go.AB
end
section
set_option maxRecDepth 16000
namespace Go.AB
open Go
open Go.Proofs.Tryz (prog)
attribute[-go_sem] cj cS bK ch
def bX(s_0:cz)(t_1:HT):Option (Int×cz):=
 if s_0.e_ !=0 then
  some (0,s_0)
 else
  aQ (ir t_1 s_0.Reader) fun r1=>
  aQ (az (cz.mk r1.2.2 s_0.e_) r1.2.1) fun r2=>
  some (r1.1,r2)
def gR:IC:=dec 0x7cbb44c5983d9fc2c8020c0fb0126e950d282ea6c6208fead82dc0c31a6ca51d38ba65dd2430ca11cc63f1e1f6b7c581d0568dba78b6a84f9e23ce6cc6f6bebccf80c653980083fa
def ko:eO prog 267 25 [⟨4,true,none⟩] gR=true:=B_
def gQ{s_0 t_1}{B0 B0_Reader:Nat}{preB0 postB0:List AV}{oB0:Nat}{s:ae}{Q:List AV->ae->Prop}(hB0:s B0=some (.cells (Wi preB0 [.ref B0_Reader 0,.int .i64 s_0.e_] postB0)))(dc:s B0_Reader=some (.cells (rI s_0.Reader)))(eB0:preB0.length=oB0)(ab:B0≠B0_Reader)(va1:il s t_1):ok (bX s_0 t_1) (fun r=>Q [.int .i64 r.1] ((s.set B0 (.cells (Wi preB0 [.ref B0_Reader 0,.int .i64 r.2.e_] postB0))).set B0_Reader (.cells (rI r.2.Reader))))->FN prog 267 [.ref B0 oB0,.ref t_1.B 0] s Q:=by
 subst eB0
 rw[<-bq dc,<-bq hB0]
 intro h
 refine FO ko rfl rfl ?_
 revert h
 rw[gR,bX]
 refine Xf7 ?_
 repeat'(first
  |(with_reducible first|exact dm|refine b8 ?_ ?_|refine dv ?_|refine fun hh=>ym (B1:=B0_Reader) DO (il.E7 I_ hB0 W_ dc W_ ab) (aL (show ok (ir t_1 s_0.Reader) _ from hh) fun r1=>?_)|refine fun hh=>bH (B0:=B0) (B0_Reader:=B0_Reader) (preB0:=preB0) (postB0:=postB0) DO DO Gq ab (aL (show ok (az (cz.mk r1.2.2 s_0.e_) r1.2.1) _ from hh) fun r2=>?_))
  |simp -implicitDefEqProofs only[go_sem,seval,ai ab,ai ab.symm,set_comm ab])
def ij(s_0:ak)(t_1:HT)(d_2:HT):Option (ak):=
 iter (fun(o1:ak)=>
  aQ (bX o1.bn t_1) fun r3=>
  if(r3.2.e_ !=0)||(r3.1==256)then
   some (.inr (ak.mk r3.2 o1.gZ o1.fT))
  else
   if decide (r3.1<256)then
    aQ (cK (ak.mk r3.2 o1.gZ o1.fT) (ju (r3.1))) fun r4=>
    some (.inl r4)
   else
    aQ (ft r3.1) fun r5=>
    jn (
     if !r5.2.2 then
      aQ (az r3.2 11) fun r11=>
      some (ak.mk r11 o1.gZ o1.fT)
     else
      some (ak.mk r3.2 o1.gZ o1.fT)) fun(o10:ak)=>
    aQ (aK o10.bn r5.2.1) fun r12=>
    aQ (bX r12.2 d_2) fun r13=>
    aQ (eD r13.1) fun r14=>
    jn (
     if !r14.2.2 then
      aQ (az r13.2 11) fun r21=>
      some (ak.mk r21 o10.gZ o10.fT)
     else
      some (ak.mk r13.2 o10.gZ o10.fT)) fun(o20:ak)=>
    aQ (aK o20.bn r14.2.1) fun r22=>
    aQ (eF (ak.mk r22.2 o20.gZ o20.fT) (aC (r5.1+r12.1)) (aC (r14.1+r22.1))) fun r23=>
    some (.inl r23)) s_0
def iX:IC:=dec 0x3efe2862f44c98b499f008808bfe1a0a215417f8297af57f378d5f22cb011ec865c5fc09dc1a0652cd19b8d6396646493669f4b22c5f135b903a3d4a706508313901ee5077b592e35ffdb030c8fd5284dcb942d577aeb83267b960b86b536927add01569a66dd6b3495f4998ba6564d6fd07f5a6d07cd9dca4e22b8088bfef7b0c8329d8e0af56d59de1b0e6917ffb40ae0cacd8957ee4ba8a3914fd6d46ffc8f9964826eeb17096b53680eda0044d48114435509f7d15848209cc96ad221db54a212b44a35d8a00735021cb3df96850a79570f051eb80c3916be07278f9e9eb62e83b426fd380c095b219d5e90c26a1d639fa045bbd290cb113e4983351a29b640cec5e0a5ecc5423e9b1eca8735139
def lL:eO prog 240 81 [] iX=true:=B_
def sc{s_0 t_1 d_2}{B0 B0_Reader:Nat}{s:ae}{Q:List AV->ae->Prop}(hB0:s B0=some (.cells (Ex B0_Reader s_0)))(dc:s B0_Reader=some (.cells (rI s_0.bn.Reader)))(ab:B0≠B0_Reader)(va1:il s t_1)(va2:il s d_2):ok (ij s_0 t_1 d_2) (fun r=>Q [] ((s.set B0 (.cells (Ex B0_Reader r))).set B0_Reader (.cells (rI r.bn.Reader))))->FN prog 240 [.ref B0 0,.ref t_1.B 0,.ref d_2.B 0] s Q:=by
 rw[<-bq dc,<-bq hB0]
 intro h
 refine FO lL rfl rfl ?_
 revert h
 rw[iX,ij]
 refine Xf7 ?_
 repeat'(first
  |(with_reducible first|exact dm|refine b8 ?_ ?_|refine dv ?_|refine fun hh=>gQ (B0:=B0) (B0_Reader:=B0_Reader) (preB0:=[]) (postB0:=(HE o1)) DO DO Gq ab (il.E7 I_ hB0 W_ dc W_ ab) (aL (show ok (bX o1.bn t_1) _ from hh) fun r3=>?_)|refine fun hh=>mP (B0:=B0) (B0_Reader:=B0_Reader) DO DO ab (aL (show ok (cK (ak.mk r3.2 o1.gZ o1.fT) (ju (r3.1))) _ from hh) fun r4=>?_)|refine au (fun _(h:ft r3.1=some _)=>(iW yn h:)) (fun r5=>?_)|refine fun hh=>bH (B0:=B0) (B0_Reader:=B0_Reader) (preB0:=[]) (postB0:=(HE o1)) DO DO Gq ab (aL (show ok (az r3.2 11) _ from hh) fun r11=>?_)|refine fun hh=>bT (B0:=B0) (B0_Reader:=B0_Reader) (preB0:=[]) (postB0:=(HE o10)) DO DO Gq ab (aL (show ok (aK o10.bn r5.2.1) _ from hh) fun r12=>?_)|refine fun hh=>gQ (B0:=B0) (B0_Reader:=B0_Reader) (preB0:=[]) (postB0:=(HE o10)) DO DO Gq ab (il.E7 I_ hB0 W_ dc W_ ab) (aL (show ok (bX r12.2 d_2) _ from hh) fun r13=>?_)|refine au (fun _(h:eD r13.1=some _)=>(iW vC h:)) (fun r14=>?_)|refine fun hh=>bH (B0:=B0) (B0_Reader:=B0_Reader) (preB0:=[]) (postB0:=(HE o10)) DO DO Gq ab (aL (show ok (az r13.2 11) _ from hh) fun r21=>?_)|refine fun hh=>bT (B0:=B0) (B0_Reader:=B0_Reader) (preB0:=[]) (postB0:=(HE o20)) DO DO Gq ab (aL (show ok (aK o20.bn r14.2.1) _ from hh) fun r22=>?_)|refine fun hh=>qS (B0:=B0) (B0_Reader:=B0_Reader) DO DO ab (aL (show ok (eF (ak.mk r22.2 o20.gZ o20.fT) (aC (r5.1+r12.1)) (aC (r14.1+r22.1))) _ from hh) fun r23=>?_))
  |((with_reducible refine dZ (live:=[(0,false),(1,false),(2,false),(7,false),(8,false)]) (fun(o10:ak)=>⟨[(0,.ref B0 0),(1,.ref t_1.B 0),(2,.ref d_2.B 0),(7,.int .i64 r5.1),(8,.int .i64 r5.2.1)],[],((s.set B0 (.cells (Ex B0_Reader o10))).set B0_Reader (.cells (rI o10.bn.Reader)))⟩) (fun J=>?_) ?_);rotate_left;rintro o10)
  |((with_reducible refine dZ (live:=[(0,false),(1,false),(2,false),(7,false),(10,false),(11,false)]) (fun(o20:ak)=>⟨[(0,.ref B0 0),(1,.ref t_1.B 0),(2,.ref d_2.B 0),(7,.int .i64 (aC (r5.1+r12.1))),(10,.int .i64 r14.1),(11,.int .i64 r14.2.1)],[],((s.set B0 (.cells (Ex B0_Reader o20))).set B0_Reader (.cells (rI o20.bn.Reader)))⟩) (fun J=>?_) ?_);rotate_left;rintro o20)
  |((with_reducible refine yy (fun(o1:ak)=>⟨[(0,.ref B0 0),(1,.ref t_1.B 0),(2,.ref d_2.B 0)],[],((s.set B0 (.cells (Ex B0_Reader o1))).set B0_Reader (.cells (rI o1.bn.Reader)))⟩) ?_ ?_);(first|exact rfl|simp -implicitDefEqProofs only[go_sem,seval,ai ab,ai ab.symm,set_comm ab]);rintro J o1)
  |simp -implicitDefEqProofs only[go_sem,seval,ai ab,ai ab.symm,set_comm ab])
def eZ(s_0:ak)(t_1:HT)(n_2:Int):Option ((List Int)×ak):=
 iter (fun((vJ,o2):(List Int)×ak)=>
  if((vJ.length:Int)==n_2)||(o2.bn.e_ !=0)then
   some (.inr (vJ,o2))
  else
   aQ (bX o2.bn t_1) fun r5=>
   yx (
    if r5.1==16 then
     if(vJ.length:Int)==0 then
      aQ (az r5.2 11) fun r16=>
      some (.inr (ak.mk r16 o2.gZ o2.fT))
     else
      a8 (0<=aC ((vJ.length:Int) -1)/\aC ((vJ.length:Int) -1)<vJ.length)<|
      aQ (aK r5.2 2) fun r17=>
      some (.inl (ix vJ (aC ((vJ.length:Int) -1)),aC (r17.1+3),(ak.mk r17.2 o2.gZ o2.fT)))
    else
     if r5.1==17 then
      aQ (aK r5.2 3) fun r18=>
      some (.inl (0,aC (r18.1+3),(ak.mk r18.2 o2.gZ o2.fT)))
     else
      if r5.1==18 then
       aQ (aK r5.2 7) fun r19=>
       some (.inl (0,aC (r19.1+11),(ak.mk r19.2 o2.gZ o2.fT)))
      else
       some (.inl (r5.1,1,(ak.mk r5.2 o2.gZ o2.fT)))) (fun((x9,vh,o11):Int×Int×ak)=>
    if decide (vh>aC (n_2 -(vJ.length:Int)))then
     aQ (az o11.bn 11) fun r20=>
     some (.inl (vJ,(ak.mk r20 o11.gZ o11.fT)))
    else
     jn (
      iter (fun((pO,t26):(List Int)×Int)=>
       if decide (t26<vh)then
        a8 ((pO.length+[x9].length)*8<=room)<|
        some (.inl (pO++[x9],aC (t26+1)))
       else
        some (.inr pO)) (vJ,0)) fun(GS:(List Int))=>
     some (.inl (GS,o11)))
   (fun(o15:ak)=>some (.inl (vJ,o15)))) (([]:List Int),s_0)
def gS:IC:=dec 0x1f8717efe01a160c9e6d4a23edd9b226cdb00cab02384935957e7c5f86720bc14232649ec6eaedc9ea3b577ab786c58740a5b257de994af661f50638d4e0b5f53babd14e6c2638001d221b82f446e6d6afcfb5fbe9ddc84dbd6d05084d803af409087c0334a3fd334d103c87dbb2efce1841e343f656c6678fcbd46d2826ebd183cad394d716bceb4a985c999e84839cf218a3637632e2f88eefa5f1cdde57a7703f654a1f202c34acdffa71c6fc7205e4068e501a02736030a8f5d3f443174aa3860655bdb657f5cefe046aa52f8d27c81f28c3c9f076fff3e38629f282e0ae833eb6eda1f9048780aac7e4d6ac4e3f587a7ab812aea2dcc6fc6d813aa0420699e9660bf0b963b8068dce9c135611b57e8912769472e96de72dd5ca769261dfb3af2d415c866c9ab97ca9496a1f7d44226ec5303e39469d2a96ae7f0e6b9eda8addbcc3c0d5ef2bf28d26dcd8d63f8dd0518d559da78aa840db4d6394689c0750cb555f5463bbe81edbd379e7ffde381c9157faff12cd9bdb80592ec8d0f320ba
def kp:eO prog 273 81 [⟨6,true,none⟩] gS=true:=B_
def qg{s_0 t_1 n_2}{B0 B0_Reader:Nat}{s:ae}{Q:List AV->ae->Prop}(hB0:s B0=some (.cells (Ex B0_Reader s_0)))(dc:s B0_Reader=some (.cells (rI s_0.bn.Reader)))(ab:B0≠B0_Reader)(va1:il s t_1):ok (eZ s_0 t_1 n_2) (fun r=>Q [sT 1 r.1] ((s.set B0 (.cells (Ex B0_Reader r.2))).set B0_Reader (.cells (rI r.2.bn.Reader))))->FN prog 273 [.ref B0 0,.ref t_1.B 0,.int .i64 n_2] s Q:=by
 rw[<-bq dc,<-bq hB0]
 intro h
 refine FO kp rfl rfl ?_
 revert h
 rw[gS,eZ]
 refine Xf7 ?_
 repeat'(first
  |(with_reducible first|exact dm|refine b8 ?_ ?_|refine dv ?_|refine fun hh=>gQ (B0:=B0) (B0_Reader:=B0_Reader) (preB0:=[]) (postB0:=(HE o2)) DO DO Gq ab (il.E7 I_ hB0 W_ dc W_ ab) (aL (show ok (bX o2.bn t_1) _ from hh) fun r5=>?_)|refine fun hh=>bH (B0:=B0) (B0_Reader:=B0_Reader) (preB0:=[]) (postB0:=(HE o2)) DO DO Gq ab (aL (show ok (az r5.2 11) _ from hh) fun r16=>?_)|refine fun hh=>bT (B0:=B0) (B0_Reader:=B0_Reader) (preB0:=[]) (postB0:=(HE o2)) DO DO Gq ab (aL (show ok (aK r5.2 2) _ from hh) fun r17=>?_)|refine fun hh=>bT (B0:=B0) (B0_Reader:=B0_Reader) (preB0:=[]) (postB0:=(HE o2)) DO DO Gq ab (aL (show ok (aK r5.2 3) _ from hh) fun r18=>?_)|refine fun hh=>bT (B0:=B0) (B0_Reader:=B0_Reader) (preB0:=[]) (postB0:=(HE o2)) DO DO Gq ab (aL (show ok (aK r5.2 7) _ from hh) fun r19=>?_)|refine fun hh=>bH (B0:=B0) (B0_Reader:=B0_Reader) (preB0:=[]) (postB0:=(HE o11)) DO DO Gq ab (aL (show ok (az o11.bn 11) _ from hh) fun r20=>?_))
  |((with_reducible refine eH (live:=[(0,false),(1,false),(2,false),(7,false),(8,false),(9,false)]) (fun((x9,vh,o11):Int×Int×ak)=>⟨[(0,.ref B0 0),(1,.ref t_1.B 0),(2,.int .i64 n_2),(7,sT 1 vJ),(8,.int .i64 x9),(9,.int .i64 vh)],[],((s.set B0 (.cells (Ex B0_Reader o11))).set B0_Reader (.cells (rI o11.bn.Reader)))⟩) (fun J=>?_) ?_);rotate_left;rintro⟨x9,vh,o11⟩)
  |((with_reducible refine cX (fun((pO,t26):(List Int)×Int)=>⟨[(0,.ref B0 0),(1,.ref t_1.B 0),(2,.int .i64 n_2),(7,sT 1 pO),(8,.int .i64 x9),(73,.int .i64 vh),(74,.int .i64 t26)],[],((s.set B0 (.cells (Ex B0_Reader o11))).set B0_Reader (.cells (rI o11.bn.Reader)))⟩) ?_ ?_);(first|exact rfl|simp -implicitDefEqProofs only[go_sem,seval,ai ab,ai ab.symm,set_comm ab]);rintro J ⟨pO,t26⟩)
  |((with_reducible refine dZ (live:=[(0,false),(1,false),(2,false),(7,false)]) (fun(GS:(List Int))=>⟨[(0,.ref B0 0),(1,.ref t_1.B 0),(2,.int .i64 n_2),(7,sT 1 GS)],[],((s.set B0 (.cells (Ex B0_Reader o11))).set B0_Reader (.cells (rI o11.bn.Reader)))⟩) (fun J=>?_) ?_);rotate_left;rintro GS)
  |((with_reducible refine yy (fun((vJ,o2):(List Int)×ak)=>⟨[(0,.ref B0 0),(1,.ref t_1.B 0),(2,.int .i64 n_2),(7,sT 1 vJ)],[],((s.set B0 (.cells (Ex B0_Reader o2))).set B0_Reader (.cells (rI o2.bn.Reader)))⟩) ?_ ?_);(first|exact rfl|simp -implicitDefEqProofs only[go_sem,seval,ai ab,ai ab.symm,set_comm ab]);rintro J ⟨vJ,o2⟩)
  |simp -implicitDefEqProofs only[go_sem,seval,ai ab,ai ab.symm,set_comm ab])
end Go.AB
end
section
set_option maxRecDepth 4000
namespace Go.AB
open Go
open Go.Proofs.Tryz (prog)
attribute[-go_sem] Nat.add_zero mO cF cj cS bK ch
end Go.AB
end
section
set_option maxRecDepth 4000
namespace Go.AB
open Go
open Go.Proofs.Tryz (prog)
attribute[-go_sem] cj cS bK ch
end Go.AB
end
section
namespace Go.AB
open Go
def Vs(l:List Int)(B:List Bool):∀(f n c:Nat),1<=n->n -1<=B.length->(Ml l B f n c).2.1<=B.length/\((Ml l B f n c).2.2=0->n<=(Ml l B f n c).2.1)/\0<=(Ml l B f n c).1/\(Ml l B f n c).1<=l.length/\((Ml l B f n c).2.2≠0->(Ml l B f n c).1=0)/\(Ml l B f n c).2.1<n+f
 |0,n,c,h,h2=>by rw[Ml];grind
 |f+1,n,c,h,h2=>by
  rw[Ml]
  split
  ·grind
  ·cases hx:B[n -1]? with
   |none=>grind
   |some x=>
    have hlt:=(List.getElem?_eq_some_iff.1 hx).1
    simp
    generalize 2*c+(if x then 1 else 0)=c'
    split
    ·rename_i hin
     refine⟨A_,fun _=>Nat.le_refl _,?_,?_,fun e=>absurd rfl e,A_⟩
     ·have:=Ji l 0 _ (List.getElem_mem hin)
      grind
     ·have:=Ji l 0 _ (List.getElem_mem hin)
      grind
    ·have ih:=Vs l B f (n+1) c' BY AT
     exact⟨ih.1,fun e=>AT,ih.2.2.1,ih.2.2.2.1,ih.2.2.2.2.1,A_⟩
def ahF(l:List Int)(B:List Bool):(tk l B).2.1<=B.length/\((tk l B).2.2=0->1<=(tk l B).2.1)/\0<=(tk l B).1/\(tk l B).1<=l.length/\((tk l B).2.2≠0->(tk l B).1=0)/\(tk l B).2.1<16:=Vs l B 15 1 0 (Nat.le_refl _) (Nat.zero_le _)
def iI(B:List Bool)(l:List Int)(s:ZS):Int×ZS:=if s.e≠0 then(0,s)else((tk l (B.drop s.at_)).1,{s with at_:=s.at_+(tk l (B.drop s.at_)).2.1,e:=(tk l (B.drop s.at_)).2.2})
def BJ(most:Int)(x:UInt8)(s:ZS):ZS:=if s.e≠0 then s else if(s.out.length:Int)>=most then{s with e:=3}else{s with out:=s.out++[x]}
def Fc(B:List Bool)(most:Int):Nat->ZS->ZS
 |0,s=>s
 |k+1,s=>if s.e≠0 then s else Fc B most k (BJ most (ju (aE B 8 s).1) (aE B 8 s).2)
def vM(B:List Bool)(s:ZS):Int×ZS:=
 let r:=aE B 16 {s with at_:=(s.at_+7)/8*8}
 let q:=aE B 16 r.2
 (r.1,if q.1≠65535 -r.1 then q.2.fail 11 else q.2)
def D6(B:List Bool)(most:Int)(s:ZS):ZS:=Fc B most (vM B s).1.toNat (vM B s).2
section
variable{b:List UInt8}{most:Int}
theorem vg{l:List Int}{s:ZS}(ha:s.at_<=8*b.length):(iI (ag b) l s).2.at_<=8*b.length/\s.at_<=(iI (ag b) l s).2.at_/\0<=(iI (ag b) l s).1/\(iI (ag b) l s).1<=l.length/\(iI (ag b) l s).2.out=s.out/\((iI (ag b) l s).2.e=0->s.e=0/\s.at_<(iI (ag b) l s).2.at_)/\((iI (ag b) l s).2.e≠0->(iI (ag b) l s).1=0):=by
 have hl:=uG b
 have ht:=ahF l ((ag b).drop s.at_)
 unfold iI
 grind
def acz(hb:b.length<576460752303423488){l:List Int}(hl:ET l)(K:Nat){s:ZS}(ha:s.at_<=8*b.length):bX (Hg b s) ⟨K,l⟩=some ((iI (ag b) l s).1,Hg b (iI (ag b) l s).2):=by
 unfold bX iI
 by_cases he:s.e=0
 ·rw[if_neg A_,agQ hb hl K ha]
  show aQ (az (Hg b {s with at_:=s.at_+(tk l ((ag b).drop s.at_)).2.1}) _) _=_
  rw[sM]
  simp[ZS.fail,he]
 grind
theorem agO{s:ZS}(he:s.e=0)(hm:most<=16777216)(x:UInt8):cK (qw b most s) x=some (qw b most (BJ most x s)):=by
 have cg:room=140737488355328:=rfl
 unfold cK BJ
 rw[if_neg (c:=s.e≠0) AT]
 by_cases h:s.out.length>=most
 ·grind [sM,aN,ZS.fail]
 ·rw[if_neg A_,if_neg h,bk A_]
theorem IP{x:UInt8}{s:ZS}:(BJ most x s).at_=s.at_/\((BJ most x s).e=0->s.e=0):=by
 unfold BJ
 grind
theorem ai8(n:Nat)(h:n<4611686018427387904):aC (xG .i64 (aC ((n:Int)+7)) 7)=(((n+7)/8*8:Nat):Int):=by
 rw[an (n:=(n:Int)+7) AT AT]
 have e:xG .i64 ((n:Int)+7) 7=(((n+7)/8*8:Nat):Int):=by
  rw[show(n:Int)+7=((n+7:Nat):Int) by omega]
  have hm:n+7<2^64:=AT
  generalize n+7=m at*
  unfold xG
  show(((BitVec.ofNat 64 m&&& ~~~BitVec.ofNat 64 7).toNat:Nat):Int)=_
  congr 1
  refine Nat.eq_of_testBit_eq fun i=>?_
  have e8:m/8*8=(m>>>3)<<<3:=by rw[Nat.shiftRight_eq_div_pow,Nat.shiftLeft_eq]
  rw[e8,Nat.testBit_shiftLeft,Nat.testBit_shiftRight,BitVec.testBit_toNat,BitVec.getLsbD_and,BitVec.getLsbD_not,BitVec.getLsbD_ofNat,BitVec.getLsbD_ofNat]
  rw[show(7:Nat)=2^3 -1 from rfl,Nat.testBit_two_pow_sub_one]
  by_cases h64:i<64
  ·grind
  ·have:m.testBit i=false:=Nat.testBit_lt_two_pow (Nat.lt_of_lt_of_le hm (Nat.pow_le_pow_right By AT))
   grind
 grind [an]
def akQ(m:Int)(h0:0<=m)(h:m<65536):aC (YW .i64 m 65535)=65535 -m:=by
 obtain⟨m,rfl⟩:=Int.eq_ofNat_of_zero_le h0
 have hm:m<2^16:=AT
 have e:YW .i64 (m:Int) 65535=((2^16 -(m+1):Nat)):=by
  show(((BitVec.ofNat 64 m^^^BitVec.ofNat 64 65535).toNat):Int)=_
  congr 1
  refine Nat.eq_of_testBit_eq fun i=>?_
  rw[Nat.testBit_two_pow_sub_succ hm,BitVec.testBit_toNat,BitVec.getLsbD_xor,BitVec.getLsbD_ofNat,BitVec.getLsbD_ofNat,show 65535=2^16 -1 from rfl,Nat.testBit_two_pow_sub_one]
  by_cases h16:i<16
  ·grind
  ·have:m.testBit i=false:=Nat.testBit_lt_two_pow (Nat.lt_of_lt_of_le hm (Nat.pow_le_pow_right BY AT))
   grind
 grind [an]
theorem Jf{s:ZS}(ha:s.at_<=8*b.length):(vM (ag b) s).2.at_<=8*b.length/\(s.at_+7)/8*8<=(vM (ag b) s).2.at_/\0<=(vM (ag b) s).1/\(vM (ag b) s).1<65536:=by grind [eu,aE,ag,vM,ZS.fail]
def aaa(hb:b.length<576460752303423488)(hM:most<=16777216):∀(k:Nat)(s:ZS),k<65536->s.at_<=8*b.length->∀m,k+1<=m->cC (fun((n7,o8):Int×ak)=>
 if(decide (n7>0))&&(o8.bn.e_==0)then
  jn (
   aQ (aK o8.bn 8) fun r12=>
   if r12.2.e_==0 then
    aQ (cK (ak.mk r12.2 o8.gZ o8.fT) (ju (r12.1))) fun r13=>
    some r13
   else
    some (ak.mk r12.2 o8.gZ o8.fT)) fun(o11:ak)=>
  some (.inl (aC (n7 -1),o11))
 else
  some (.inr o8)) m ((k:Int),qw b most s)=some (qw b most (Fc (ag b) most k s))
 |0,s,_,_,m,hm=>by
  obtain⟨j,rfl⟩:∃j,m=j+1:=⟨m -1,AT⟩
  rfl
 |k+1,s,hk,ha,m,hm=>by
  obtain⟨j,rfl⟩:∃j,m=j+1:=⟨m -1,AT⟩
  rw[cC,Fc]
  by_cases he:s.e=0
  ·rw[if_neg w_]
   have hn:=eu (b:=b) (n:=8) ha
   have hp:=IP (most:=most) (x:=ju (aE (ag b) 8 s).1) (s:=(aE (ag b) 8 s).2)
   have hN:=NJ hb (n:=8) By ha
   rw[show((8:Nat):Int)=8 from rfl]at hN
   have Tn:=hn.2.2.2.2.1
   simp only[if_pos (show(decide (((k+1:Nat):Int)>0)&&(s.e==0))=true by simp[he])]
   rw[hN]
   generalize aE (ag b) 8 s=r at*
   rw[aN]
   have eJ:ak.mk (Hg b r.2) s.out most=qw b most r.2:=by rw[<-Tn]
   have e:(if(r.2.e==0)=true then aQ (cK (ak.mk (Hg b r.2) s.out most) (ju r.1)) fun r13=>some r13 else some (ak.mk (Hg b r.2) s.out most))=some (qw b most (BJ most (ju r.1) r.2)):=by
    rw[eJ]
    by_cases hr:r.2.e=0
    ·rw[if_pos (by simp[hr]),agO hr hM,aN]
    ·unfold BJ
     grind
   simp only[e,Iu]
   rw[an AT AT,show((k+1:Nat):Int) -1=(k:Int) by omega]
   exact aaa hb hM k _ AT A_ j AT
  grind
def XU(hb:b.length<576460752303423488)(hM:most<=16777216){s:ZS}(ha:s.at_<=8*b.length):gG (qw b most s)=some (qw b most (D6 (ag b) most s)):=by
 have hH:=Jf ha
 have ha1:({s with at_:=(s.at_+7)/8*8}).at_<=8*b.length:=A_
 have h1:=eu (n:=16) ha1
 have h2:=eu (n:=16) h1.1
 unfold gG gB bQ D6
 simp only[aN,Bool.false_or,Bool.not_true,Bool.not_false,if_true]
 rw[ai8 _ AT]
 have hN:=NJ hb (n:=16) BY ha1
 have hN2:=NJ hb (n:=16) BY h1.1
 refine ah hN ?_
 refine e7 (a:=qw b most (vM (ag b) s).2) (ah hN2 ?_) ?_
 ·have hx:=akQ (aE (ag b) 16 (aE (ag b) 16 {s with at_:=(s.at_+7)/8*8}).2).1 h2.2.2.1 h2.2.2.2.1
  have ho:s.out=(aE (ag b) 16 (aE (ag b) 16 {s with at_:=(s.at_+7)/8*8}).2).2.out:=A_
  unfold vM
  simp
  generalize aE (ag b) 16 (aE (ag b) 16 {s with at_:=(s.at_+7)/8*8}).2=q at*
  generalize aE (ag b) 16 {s with at_:=(s.at_+7)/8*8}=r at*
  by_cases hq:q.1≠65535 -r.1
  ·rw[sM,aN]
   grind [ZS.fail]
  grind
 ·have:=aaa hb hM (vM (ag b) s).1.toNat (vM (ag b) s).2 AT hH.1 18446744073709551616 AT
  rw[show(((vM (ag b) s).1.toNat):Int)=(vM (ag b) s).1 by omega]at this
  exact this
theorem PM:∀(k:Nat)(s:ZS),s.at_<=8*b.length->(Fc (ag b) most k s).at_<=8*b.length/\s.at_<=(Fc (ag b) most k s).at_/\((Fc (ag b) most k s).e=0->s.e=0)
 |0,s,h=>⟨h,Nat.le_refl _,fun h=>h⟩
 |k+1,s,h=>by
  rw[Fc]
  split
  ·grind
  ·have hn:=eu (n:=8) h
   have hp:=IP (most:=most) (x:=ju (aE (ag b) 8 s).1) (s:=(aE (ag b) 8 s).2)
   have ih:=PM k (BJ most (ju (aE (ag b) 8 s).1) (aE (ag b) 8 s).2) A_
   exact⟨ih.1,AT,fun e=>(hn.2.2.2.2.2 (hp.2 (ih.2.2 e))).1⟩
theorem Yz{s:ZS}(ha:s.at_<=8*b.length):(D6 (ag b) most s).at_<=8*b.length/\s.at_<=(D6 (ag b) most s).at_:=by grind [Jf,PM,vM,ag,D6]
end
end Go.AB
end
