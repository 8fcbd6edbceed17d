/- A part. -/
import Derived.Test.YtgecakgfnjkkbaaGreatRt18
set_option linter.defProp false
set_option linter.unusedSimpArgs false
set_option linter.unusedVariables false
section
set_option maxRecDepth 16000
namespace Go.AB
open Go
open Go.Proofs.Tryz (prog)
attribute[-go_sem] Nat.add_zero mi cy bX cP bD bV
def GR:IC:=dec 0x149998c2ffec42e531ba599050e9789ed3e386c7cd23b460cead28ec022b5b4473a
def Q5:ey prog 289 8 [⟨2,true,none⟩] GR=true:=By
def Ij(l:List Int)(s:ae)(rs:List AV)(s':ae):Prop:=(∃b cap sp,rs=[.arr b 0 l.length cap]/\s b=none/\0<cap/\l.length<=cap/\(flat l++sp).length=cap*1/\views (flat l++sp)=flat l++sp/\s'=s.set b (.cells (flat l++sp)))\/(l=[]/\s'=s/\∃b,rs=[.arr b 0 0 0])
def M7{o:Bool}{l:List Int}{s:ae}(hr:l.length*8<=room):FN prog 289 [.sl o 1 l.length (flat l)] s (Ij l s):=by
 refine FN.j8 (FO Q5 rfl rfl ?_)
 generalize hQ:(fun rs s'=>∃s2,Sub s2 s'/\Ij l s rs s2)=Q
 have hq:∀rs s' s2,Sub s2 s'->Ij l s rs s2->Q rs s':=fun rs s' s2 h1 h2=>Xa6
 rw[GR]
 refine Xf9 ?_
 refine Xe4 ?_
 intro v hv
 refine⟨fun h=>hq _ _ s (Sub.refl s) (.inr ⟨List.eq_nil_of_length_eq_zero (hv J_),rfl,0,rfl⟩),fun _ b1 hb1=>?_⟩
 rw[gn,aF]
 by_cases hl:l=[]
 ·subst hl
  refine mL rfl rfl (Nat.le_refl 0) ?_
  refine Xe4 ?_
  exact hq _ _ s ((Sub.refl s).set hb1) (.inr ⟨rfl,rfl,_,rfl⟩)
 ·have hn:0<l.length:=List.length_pos_iff.2 hl
  refine eo rfl rfl AT s_ fun b2 cap hb2 fh=>?_
  rw[Nat.zero_add]at fh
  have hz:(List.replicate (cap -(0+l.length)) [.int .i64 0]).flatten=flat (List.replicate (cap -l.length) (0:Int)):=Xa7
  rw[hz]
  simp -implicitDefEqProofs only[go_sem,seval,Nat.zero_add,List.nil_append]
  have Nw:s b2=none:=((Sub.refl s).set hb1).none hb2
  refine hq _ _ _ (Sub.F0 ((Sub.refl s).set hb1)) (.inl ⟨b2,cap,_,rfl,Nw,AT,fh,?_,?_,rfl⟩)
  ·rw[List.length_append,au,au,List.length_replicate]
   show l.length*1+(cap -l.length)*1=cap*1
   omega
  ·rw[lX,aF,aF]
def QF{o:Bool}{l:List Int}{s:ae}(hr:l.length*8<=room):FE prog 289 [.sl o 1 l.length (flat l)] s [.sl true 1 l.length (flat l)] s:=
 FN.xy (au l) (aF l) ⟨rfl,rfl⟩ ((M7 hr).mono fun rs s' h=>by
  rcases h with⟨b,cap,sp,h1,h2,h3,h4,h5,h6,h7⟩|⟨h1,h2,h3⟩
  ·exact .inl ⟨b,cap,sp,h1,t_,h3,h4,h5,u_⟩
  ·subst h1;exact .inr ⟨rfl,rfl,w_,h3⟩)
abbrev P7(l:List Int):AV:=.sl false 1 l.length (flat l)
def l5(l:List Int):List AV:=[.int .i64 (ir l 0),.int .i64 (ir l 1),.int .i64 (ir l 2),.int .i64 (ir l 3),.int .i64 (ir l 4),.int .i64 (ir l 5),.int .i64 (ir l 6),.int .i64 (ir l 7),.int .i64 (ir l 8),.int .i64 (ir l 9),.int .i64 (ir l 10),.int .i64 (ir l 11),.int .i64 (ir l 12),.int .i64 (ir l 13),.int .i64 (ir l 14),.int .i64 (ir l 15)]
def used(l:List Int):List Int:=(idxs l).filter fun k=>decide (ix l k>0)
def F8(l:List Int)(cd:List UInt32)(b cap:Nat):List AV:=P7 l::.sl false 1 cd.length (flat cd)::(l5 l++[.arr b 0 (uz l).length cap])
def Dj:AV->Bool
 |.ref _ _=>true
 |.bool _=>true
 |_=>false
def uh:SO->Bool
 |.cells cs=>cs.any Dj
 |_=>true
def Bc(pre post cs:List AV)(b o:Nat):uh (.cells (Wi pre (.ref b o::cs) post))=true:=by
 show(pre++.ref b o::cs++post).any Dj=true
 simp[Dj]
def yK(k:IntKind)(n:Int)(x:Bool)(l:List AV):uh (.cells (.int k n::.bool x::l))=true:=rfl
def yL(b o:Nat)(l:List AV):uh (.cells (.ref b o::l))=true:=rfl
theorem ye(l:List Int):(flat l).any Dj=false:=by
 induction l with
 |nil=>rfl
 |cons a l ih=>rw[oC];show(false||(flat l).any Dj)=false;rw[ih];rfl
theorem ail(l:List Int)(cd:List UInt32)(b cap:Nat):(F8 l cd b cap).any Dj=false:=rfl
def iq(s:ae)(x:HT):Prop:=Fo x.lens/\∃(cd:List UInt32)(b cap:Nat)(sp:List AV),s x.B=some (.cells (F8 x.lens cd b cap))/\(uz x.lens≠[]->sp.any Dj=false/\s b=some (.cells (flat (uz x.lens)++sp)))
theorem iq.ne{s:ae}{x:HT}(h:iq s x){B:Nat}{o:SO}(hB:s B=some o)(hn:uh o=true):x.B≠B:=fun e=>by
 obtain⟨_,cd,b,cap,sp,h1,_⟩:=h
 rw[e,hB]at h1
 injection h1 with h1;subst h1
 have:(F8 x.lens cd b cap).any Dj=true:=hn
 rw[ail]at this;cases this
theorem iq.set{s:ae}{x:HT}(h:iq s x){B:Nat}{o p:SO}(hB:s B=some o)(hn:uh o=true):iq (s.set B p) x:=by
 have hne:=h.ne hB hn
 obtain⟨h0,cd,b,cap,sp,h1,h2⟩:=h
 refine⟨h0,cd,b,cap,sp,by rw[af hne];exact h1,fun hs=>⟨(h2 hs).1,?_⟩⟩
 rw[af fun e=>?_]
 ·exact(h2 hs).2
 ·subst e
  rw[(h2 hs).2]at hB
  injection hB with hB;subst hB
  have:(flat (uz x.lens)++sp).any Dj=true:=hn
  rw[List.any_append,ye,(h2 hs).1]at this;cases this
def iq.F0{s:ae}{x:HT}(h:iq s x){B0 B1:Nat}{o0 o1 p0 p1:SO}(h0:s B0=some o0)(n0:uh o0=true)(h1:s B1=some o1)(n1:uh o1=true)(hne:B0≠B1):iq ((s.set B0 p0).set B1 p1) x:=(h.set h0 n0).set Xd4 n1
def iq.mono{s s':ae}{x:HT}(h:iq s x)(hs:Sub s s'):iq s' x:=by
 obtain⟨h0,cd,b,cap,sp,h1,h2⟩:=h
 exact⟨h0,cd,b,cap,sp,hs _ _ h1,fun h=>⟨(h2 h).1,hs _ _ (h2 h).2⟩⟩
def V7{s:ae}{x:HT}(h:iq s x):FE prog 296 [.ref x.B 0] s [.bool false] s:=by
 obtain⟨h0,cd,b,cap,sp,h1,h2⟩:=h
 obtain⟨B,l⟩:=x
 obtain⟨x,xs,rfl⟩:∃x xs,l=x::xs:=by
  cases l with
  |nil=>exact absurd h0.1 (Nat.lt_irrefl 0)
  |cons x xs=>exact⟨x,xs,rfl⟩
 refine FS 12 [⟨2,true,none⟩] 0x1b18d247fb468ffc1d5dcb9dfca855e8917ca603104a85be7bc53d20e68824473a ?_
 unfold F8 P7 l5 at h1
 rw[List.length_cons]at h1
 simp -implicitDefEqProofs only[go_sem,seval,h1,List.cons_append,List.nil_append]
theorem Gr(m:List Int)(x:Int)(n:Nat):ir (m++[x]) n=if n≠0/\x=(n:Int)then ir m n+1 else ir m n:=by
 unfold ir
 by_cases h0:n=0
 ·simp[h0]
 ·by_cases hx:x=(n:Int)
  ·simp[h0,hx,List.filter_append]
  ·simp[h0,hx,List.filter_append]
theorem mW(m:List Int):(l5 m).length=16:=rfl
theorem CN(m:List Int){n:Nat}(h:n<16):(l5 m)[n]? =some (.int .i64 (ir m n)):=by
 have:n=0\/n=1\/n=2\/n=3\/n=4\/n=5\/n=6\/n=7\/n=8\/n=9\/n=10\/n=11\/n=12\/n=13\/n=14\/n=15:=AT
 rcases this with h|h|h|h|h|h|h|h|h|h|h|h|h|h|h|h<;>subst h<;>rfl
theorem sub_one{cs:List AV}{n:Nat}{a:AV}(h:cs[n]? =some a):AB.sub cs n 1=[a]:=by
 unfold AB.sub
 obtain⟨h1,h2⟩:=List.getElem?_eq_some_iff.1 h
 rw[List.drop_eq_getElem_cons h1,h2];rfl
def Kw(m:List Int){n:Int}(h0:0<=n)(h:n<16):views (AB.sub (l5 m) (n.toNat*1) 1)=[.int .i64 (vx m n)]:=by rw[Nat.mul_one,sub_one (CN m (n:=n.toNat) AT)];rfl
theorem SV(m:List Int){x:Int}(h0:0<x)(h:x<16):setAt (l5 m) (x.toNat*1) [.int .i64 (vx m x+1)]=l5 (m++[x]):=by
 rw[Nat.mul_one]
 have hx:x=(x.toNat:Int):=AT
 generalize x.toNat=k at hx h0 h
 subst hx
 apply List.ext_getElem?
 intro j
 have hl:(setAt (l5 m) k [AV.int .i64 (vx m (k:Int)+1)]).length=16:=by
  have:=mW m
  simp[setAt,this];omega
 by_cases hj:j<16
 ·rw[CN _ hj,Gr]
  have hk:k<16:=AT
  unfold setAt
  by_cases hjk:j=k
  ·subst hjk
   have ht:(List.take j (l5 m)).length=j:=by rw[List.length_take,mW];omega
   rw[List.append_assoc,List.getElem?_append_right AT,if_pos ⟨AT,rfl⟩,ht,Nat.sub_self]
   simp[vx]
  ·rw[if_neg AT,<-CN m hj]
   rcases Nat.lt_or_ge j k with h1|h1
   ·rw[List.append_assoc,List.getElem?_append_left (by simp[mW];omega),List.getElem?_take,if_pos h1]
   ·rw[List.getElem?_append_right (by simp[mW];omega),List.getElem?_drop]
    congr 1
    simp[mW];omega
 ·rw[List.getElem?_eq_none AT,List.getElem?_eq_none (by rw[mW];omega)]
theorem QH(m:List Int){x:Int}(h:¬0<x):l5 (m++[x])=l5 m:=by
 unfold l5
 simp only[Gr]
 simp;omega
theorem JQ(l:List Int){k:Nat}(h:k<l.length):l.take (k+1)=l.take k++[ix l (k:Int)]:=by rw[List.take_succ_eq_append_getElem h,gh h]
def WZ(m:List Int)(x:Int):0<=vx m x/\vx m x<=m.length:=by
 unfold vx ir
 split
 ·omega
 ·have:=List.length_filter_le (fun y=>y==(x.toNat:Int)) m;omega
def CP{l:List Int}{s:ae}(hl:l.length<4611686018427387904)(hx:∀x∈l,0<=x/\x<=15):FE prog 290 [P7 l] s [.agg (l5 l)] s:=by
 refine FS 21 [⟨2,false,some (16,true)⟩] 0x91ff951982b66d76f5e581b30eeea30f1efb6c8fdc211acdcc339a25b4b175f9c8b7982b3d854aec1857d45dde410ed5e2d824e26e969ced7ac885632659cd3999ac3ae0320259a2f1f682d66aefbdaf4fe78797092a17f7e61ca309f08af5a57ec00000000000000000000000000000a8c164b8fcc000000000000000000000000000000058e353a ?_
 refine Xe4 ?_
 refine ja l.length (fun k τ=>τ=⟨[(2,.loc (l5 [])),(3,.loc (l5 (l.take k))),(6,P7 l),(7,.int .i64 l.length),(8,.int .i64 k)],[],s⟩) hl rfl (fun k hk J τ hτ hJ=>?_) (fun J τ hτ=>?_)
 ·subst hτ
  have hlt:decide ((k:Int)<(l.length:Int))=true:=C_
  have hw:aC ((k:Int)+1)=((k+1:Nat):Int):=E_
  have hn:=hJ _ rfl
  rw[JQ l hk]at hn
  have hix:=hx (ix l (k:Int)) Xd5
  have hml:(l.take k).length=k:=M_
  generalize l.take k=m at hn hml
  have hc:=mW m
  refine Xf1 hlt hw ?_
  generalize ix l (k:Int)=x at hn hix
  refine⟨⟨AT,AT⟩,fun hg=>⟨⟨AT,AT⟩,?_⟩,fun hg=>?_⟩
  ·have hg:0<x:=of_decide_eq_true hg
   have hd:decide (x.toNat*1+1<=(l5 m).length)=true:=by rw[hc];simp;omega
   have hv:=Kw m (n:=x) AT AT
   have hz:=WZ m x
   have hw2:aC (vx m x+1)=vx m x+1:=ao AT AT
   refine Xg9 hd hv hw2 hw ?_
   refine⟨⟨AT,AT⟩,by rw[hc];omega,?_⟩
   rw[SV m hg AT]
   exact hn
  ·have hg:¬0<x:=of_decide_eq_false hg
   rw[QH m hg]at hn
   exact hn
 ·subst hτ
  have hlt:decide ((l.length:Int)<(l.length:Int))=false:=BY
  rw[List.take_length]
  refine Xf1 hlt (mW l) ?_
  have e1:views (AB.sub (l5 l) 0 16)=l5 l:=rfl
  refine Xe5 e1 ?_
  exact⟨rfl,Nat.le_refl _,rfl,rfl⟩
def QW{l:List Int}{s:ae}{Q:List AV->ae->Prop}(hq:∀fs:List UInt32,fs.length=16->Q [.agg (flat fs)] s):FN prog 298 [.agg (l5 l)] s Q:=by
 refine FS 24 [⟨2,false,some (16,true)⟩] 0x177e6ab2dbb0d0e46d6fb01b3a6c6f125f66c07ca3bdf034e15b8bb79c9de66e187a892aea13acbaaa94bbe295681aaa9e3afff1a71a6807bbf61027a768bf72e7071945b75d790feab470a97acd4f3617c2c88d0d2eb5538748917abd563e313f654f1dd0cbd4333594e561c41086661ede4cf5b62a2391a0b41682d05a0b41682d05a0b41682d05a0b41682688216eac4dc0981302604c0981302604c0981302604c098130260155662dda995b ?_
 refine Xe4 ?_
 have ev:views (l5 l)=l5 l:=rfl
 refine⟨D_,?_⟩
 refine Xg2 ev ?_
 refine ja 16 (fun k τ=>∃(fs:List UInt32)(c:UInt32),fs.length=16/\τ=⟨[(1,.loc (l5 l)),(2,.loc (flat (List.replicate 16 (0:UInt32)))),(3,.loc (flat fs)),(4,.int .u32 c.toNat),(6,.int .i64 k)],[],s⟩) B_ ⟨List.replicate 16 0,0,rfl,rfl⟩ (fun k hk J τ hτ hJ=>?_) (fun J τ hτ=>?_)
 ·obtain⟨fs,c,hf,rfl⟩:=hτ
  have hlt:decide ((k:Int)<16)=true:=C_
  have hw:aC ((k:Int)+1)=((k+1:Nat):Int):=E_
  refine Xf1 hlt hw ?_
  refine⟨fun hg=>?_,fun hg=>?_⟩
  ·have hg:0<(k:Int):=of_decide_eq_true hg
   have hw2:aC ((k:Int) -1)=(k:Int) -1:=ao AT AT
   have hd:decide (((k:Int) -1).toNat*1+1<=(l5 l).length)=true:=by rw[mW];simp;omega
   have hv:=Kw l (n:=(k:Int) -1) AT AT
   refine Xf3 hw2 hd hv ?_
   have hs:=fun x=>Mo fs (n:=1) rfl x (j:=(k:Int)) AT AT
   have hr:=HC fs (n:=1) rfl (j:=(k:Int)) AT AT
   rw[Int.toNat_natCast]at hr
   refine⟨⟨AT,AT⟩,⟨AT,AT⟩,hr.1,?_⟩
   generalize eu (lz .u32 _ 1)=c'
   have h2:=hs c'
   rw[Int.toNat_natCast]at h2
   rw[hw,show setAt (flat fs) (k*1) [.int .u32 c'.toNat]=flat (fs.set k c') from h2]
   exact hJ _ ⟨fs.set k c',c',by rw[List.length_set,hf],rfl⟩
  ·exact hJ _ ⟨fs,c,hf,rfl⟩
 ·obtain⟨fs,c,hf,rfl⟩:=hτ
  have hlt:decide ((16:Int)<16)=false:=B_
  have hlf:(flat fs).length=16:=by rw[au,hf];rfl
  have e1:views (AB.sub (flat fs) 0 16)=flat fs:=by
   unfold AB.sub
   rw[List.drop_zero,List.take_of_length_le AT,aF]
  have e2:setAt (flat (List.replicate 16 (0:UInt32))) 0 (flat fs)=flat fs:=by
   have h16:(flat (List.replicate 16 (0:UInt32))).length=16:=rfl
   unfold setAt
   rw[List.take_zero,List.nil_append,hlf,List.drop_eq_nil_of_le AT,List.append_nil]
  refine Xg0 hlt hlf e1 e2 ?_
  exact⟨B_,hq fs hf⟩
def SY{l:List Int}{s:ae}{Q:List AV->ae->Prop}{k0:Int}(hk:pj l=some k0)(hx:0<=k0->0<l.length/\l.length<=320/\∀x∈l,0<=x/\x<=15)
 (h0:k0<0->Q [.sl true 1 0 [],.int .i64 13] s)(h1:0<=k0->∀cd:List UInt32,cd.length=l.length->Q [.sl true 1 cd.length (flat cd),.int .i64 0] s):FN prog 288 [P7 l] s Q:=by
 refine FS 39 [⟨2,true,none⟩,⟨3,true,none⟩] 0xa0b3bba5e7f034a5bc4aa9718bc6e2d241e0250d99dc8b87fafb98af322840f7b89b73830a61d89980f13723fe1d1b478f8d9221cbd14015ad1ae7944228dd50d018a72d0c86dc36aae28fbf40fe4ed6d97ab1bc757a2cc9876bd4f7987cfc025fc0b8e521a65e3b962114be3dd3452a77957790163fc69cca3a6b97836ad2107e851455792ee5b5cfcf2c9506ae257e0913140c5a97d8dbd1796e20bc1782f05e0bc1782f05e0bc1782ecd366ccf242736c2d85d1fbca555dc511eed4beb5aba2129d0ba0e28b3c303b85f173db200798d0f2a78b ?_
 refine Xe4 ?_
 refine aN (fun _ h=>(kK Fg h:)) (fun r hr=>?_) ⟨k0,hk,rfl⟩
 subst hr
 refine Xe7 ?_
 refine⟨fun hc=>h0 (of_decide_eq_true hc),fun hc=>?_⟩
 have hc:¬k0<0:=of_decide_eq_false hc
 obtain⟨hl0,hl1,hx⟩:=hx AT
 have h1:=h1 AT
 clear h0 hk
 refine FE.app (CP AT hx) ?_
 refine Xe7 ?_
 refine QW fun fs hfs=>?_
 have hlf:(flat fs).length=16:=by rw[au,hfs];rfl
 have hvf:=aF fs
 refine Xf1 hlf hvf ?_
 refine⟨AT,AT,i_,fun b hb=>?_⟩
 rw[List.append_nil]
 clear hlf hvf
 refine ja l.length (fun k τ=>∃fs cd:List UInt32,fs.length=16/\cd.length=l.length/\τ=⟨[(4,.loc (flat fs)),(5,.arr b 0 l.length l.length),(17,P7 l),(18,.int .i64 l.length),(19,.int .i64 k)],[],s.set b (.cells (flat cd))⟩) AT ⟨fs,List.replicate l.length 0,hfs,BY,rfl⟩ (fun k hk J τ hτ hJ=>?_) (fun J τ hτ=>?_)
 ·obtain⟨fs,cd,hf,hcd,rfl⟩:=hτ
  have hlt:decide ((k:Int)<(l.length:Int))=true:=C_
  have hw:aC ((k:Int)+1)=((k+1:Nat):Int):=E_
  have hix:=hx (ix l (k:Int)) Xd5
  refine Xe5 hlt ?_
  generalize ix l (k:Int)=x at hix
  refine⟨⟨AT,AT⟩,fun hg=>?_,fun hg=>?_⟩
  ·have hg:0<x:=of_decide_eq_true hg
   have hr:=HC fs (n:=1) rfl (j:=x) AT AT
   have hd:=decide_eq_true hr.1
   have hr2:views (AB.sub (flat fs) (x.toNat*1) 1)=[.int .u32 (ix fs x).toNat]:=hr.2
   have hs:=fun c=>Mo fs (n:=1) rfl c (j:=x) AT AT
   have hs2:setAt (flat cd) (k*1) [.int .u32 (ix fs x).toNat]=flat (cd.set k (ix fs x)):=by
    have:=Mo cd (n:=1) rfl (ix fs x) (j:=(k:Int)) AT AT
    rwa[Int.toNat_natCast]at this
   have hk1:k*1+1<=(flat cd).length:=by
    have:=(HC cd (n:=1) rfl (j:=(k:Int)) AT AT).1
    rwa[Int.toNat_natCast]at this
   refine Xg9 hd hr2 hs2 hw ?_
   refine⟨⟨AT,AT⟩,⟨AT,AT⟩,hk1,⟨AT,AT⟩,⟨AT,AT⟩,hr.1,?_⟩
   exact hJ _ ⟨_,cd.set k _,by rw[HM fs AT AT,hf],by rw[List.length_set,hcd],rfl⟩
  ·refine Xe5 hw ?_
   exact hJ _ ⟨fs,cd,hf,hcd,rfl⟩
 ·obtain⟨fs,cd,hf,hcd,rfl⟩:=hτ
  have hlt:decide ((l.length:Int)<(l.length:Int))=false:=BY
  refine Xe5 hlt ?_
  right
  have hlc:(flat cd).length=l.length:=by rw[au,hcd];exact Nat.mul_one _
  have dE:decide (l.length*1<=(flat cd).length)=true:=by rw[hlc];simp
  have e1:views (AB.sub (flat cd) 0 (l.length*1))=flat cd:=by
   unfold AB.sub
   rw[List.drop_zero,List.take_of_length_le AT,aF]
  refine⟨hl0,Nat.le_refl _,fun _=>⟨rfl,?_,?_⟩,?_⟩
  ·simp only[aY,xw];omega
  ·simp only[aY,yg.sizeV];omega
  ·have h1:=h1 cd hcd
   rw[hcd]at h1
   simp -implicitDefEqProofs only[go_sem,seval,aY,jU,yg.frzK,dE,e1,iX hb,cond_true,bL]
   exact h1
def PD:IC:=dec 0x7fc2ad54c201cdb7f9b69695b22e3ddce03cf1a407fc6cea58f99e87b4f1c0e78bc24ebff607492de777238750df251046b1d6c1ffcb4052298d4b9ee301304cf81b7a8fe60807b4a07823ae4eefd4f1a6c91c2b14f7cbe1676ec9f895bcfc63119cc4ad7b146fe85d305724769047f92238572d31117375814703e5addb4d61e2e35fe2f5f211235e76265f54d9dc65073d0e7ce01f7bdb8c2947e271af64a092c49a4080000000000000e7593a0c217a20bfc5ef54a26a9587524e5919919316e96f88b0a081b0e4f8161b991eed18a4ce7a2b72b88ade0dda11f92baafe21185c0225ad6181f35f89d807d4c81a097ac
def X4:ey prog 271 51 [⟨2,true,none⟩,⟨3,true,none⟩] PD=true:=By
section
variable{α:Type}[aO α]
def P4:c5->List AV
 |none=>[]
 |some (_,_,sp)=>sp
def Su{E:St}{d:Option Nat}{K:St->Prop}{sz by':Nat}{s:ae}{r:c5}{l:List α}{z v:α}(hσ:E.s=jc s r l)(h:fZ s r l)(hz:sz=aO.w α)(hr:(l.length+1)*by'<=room)
 (hK:∀s' r',Sub s s'->fZ s' r' (l++[v])->(∀c∈P4 r',c∈P4 r\/c∈aO.cells z)->K ({E with s:=jc s' r' (l++[v])}.put d (jj r' (l.length+1)))):
 eP sz by' (aO.cells z) E d K (jj r l.length) (some (1,aO.cells v)):=by
 subst hz
 have hcz:=aO.len z
 have hcv:flat [v]=aO.cells v:=υ
 have fresh:∀(s':ae)(b' cQ:Nat),s' b'=none->l.length+1<=cQ->fZ s' (some (b',cQ,flat (List.replicate (cQ -(l.length+1)) z))) (l++[v]):=fun s' b' cQ hb hc=>by
  refine⟨hb,AT,I_,?_,aF _⟩
  rw[List.length_append,au,au,List.length_replicate,List.length_append,<-Nat.add_mul]
  congr 1
  simp;omega
 have zs:∀k,∀c∈flat (List.replicate k z),c∈P4 r\/c∈aO.cells z:=fun k c hc=>by
  rw[eW]at hc
  obtain⟨x,hx,hc⟩:=List.mem_flatten.1 hc
  rw[List.eq_of_mem_replicate hx]at hc
  exact .inr hc
 cases r with
 |none=>
  obtain rfl:l=[]:=h
  show eP (aO.w α) by' (aO.cells z) E d K (.arr 0 0 0 0) _
  refine eo hcz (olds:=[]) rfl BY hr fun b' cQ hb' hc=>?_
  rw[List.nil_append,<-eW,<-hcv]
  rw[hσ]at hb'⊢
  have:=hK s (some (b',cQ,flat (List.replicate (cQ -(0+1)) z))) (Sub.refl s) (fresh s b' cQ hb' hc) (zs _)
  exact this
 |some x=>
  obtain⟨b,cap,sp⟩:=x
  obtain⟨h1,h2,h3,h4,h5⟩:=h
  have hs:E.s b=some (.cells (flat l++sp)):=χ
  show eP (aO.w α) by' (aO.cells z) E d K (.arr b 0 l.length cap) _
  by_cases hc:l.length+1<=cap
  ·refine lf hcz hs AT hc ?_
   have hsp:[v].length*aO.w α<=sp.length:=by
    rw[List.length_append,au]at h4
    have:(l.length+1)*aO.w α<=cap*aO.w α:=Nat.mul_le_mul_right _ hc
    rw[Nat.add_mul,Nat.one_mul]at this
    simp;omega
   have st:=y6 l [v] sp (aO.w α) rfl hsp
   rw[Nat.zero_add,<-hcv,st]
   have e:E.s.set b (.cells (flat (l++[v])++sp.drop ([v].length*aO.w α)))=jc s (some (b,cap,sp.drop ([v].length*aO.w α))) (l++[v]):=by
    rw[hσ]
    exact set_set ..
   rw[e]
   refine hK s _ (Sub.refl s) ⟨h1,h2,I_,?_,?_⟩ fun c hc=>.inl (List.mem_of_mem_drop hc)
   ·rw[List.length_append,au]at h4⊢
    rw[List.length_drop,List.length_append,Nat.add_mul]
    omega
   ·unfold views at h5⊢
    rw[List.map_drop,h5]
  ·refine eo hcz (oI hs A_) AT hr fun b' cQ hb' hc'=>?_
   have ho:views (AB.sub (flat l++sp) 0 (l.length*aO.w α))=flat l:=by
    have:=gJ l sp (aO.w α) 0 l.length rfl AT
    rw[Nat.zero_mul]at this
    rw[this,List.drop_zero,List.take_length,aF]
   rw[ho,<-eW,<-hcv,<-cT]
   rw[hσ]at hb'⊢
   have hb0:=hb'
   exact hK (s.set b (.cells (flat l++sp))) (some (b',cQ,flat (List.replicate (cQ -(l.length+1)) z))) ((Sub.refl s).set h1) (fresh _ b' cQ hb0 hc') (zs _)
end
namespace SI
end SI
def ul(l:List Int)(k:Nat):List Int:=((List.range k).map fun(i:Nat)=>(i:Int)).filter fun i=>decide (0<ix l i)
theorem JT(l:List Int)(k:Nat):ul l (k+1)=if 0<ix l (k:Int)then ul l k++[(k:Int)]else ul l k:=by
 unfold ul
 rw[List.range_succ,List.map_append]
 by_cases h:0<ix l k
 ·simp[h]
 ·simp[h]
def Wc(l:List Int)(k:Nat):(ul l k).length<=k:=by
 refine Nat.le_trans (List.length_filter_le _ _) ?_
 simp
def We{l:List Int}{k:Nat}{x:Int}(h:x∈ul l k):0<=x/\x<k:=by
 obtain⟨i,hi,rfl⟩:=List.mem_map.1 (List.mem_filter.1 h).1
 have:=List.mem_range.1 hi
 omega
def Wf(l:List Int):∀k,(ul l k).Pairwise fun u v=>u<v
 |0=>List.Pairwise.nil
 |k+1=>by
  rw[JT]
  split
  ·refine List.pairwise_append.2 ⟨Wf l k,List.pairwise_singleton _ _,fun x hx y hy=>?_⟩
   rw[List.mem_singleton]at hy
   have:=We hx
   omega
  ·exact Wf l k
def V1(n:Nat):∀(l:List Int)(o:Nat),(sy n l o).Pairwise fun u v=>u<v
 |[],_=>List.Pairwise.nil
 |x::l,o=>by
  rw[sy]
  split
  ·refine List.pairwise_cons.2 ⟨fun y hy=>?_,V1 n l _⟩
   have:=JP l (o+1) y hy
   omega
  ·exact V1 n l _
def acm{l:List Int}{p:Int->Bool}{x:Int}(h:x∈(idxs l).filter p):0<=x/\x<l.length/\p x=true:=by
 have h2:=List.mem_filter.1 h
 obtain⟨i,hi,rfl⟩:=List.mem_map.1 h2.1
 have:=List.mem_range.1 hi
 exact⟨BY,AT,h2.2⟩
def Qf{n:Nat}{l:List Int}{x:Int}(h:x∈sy n l 0):ix l x=(n:Int):=by
 rw[<-NC]at h
 have:=(acm h).2.2
 simpa using this
def Vm{l:List Int}{x:Int}:∀m,x∈pre l m->0<ix l x/\ix l x<=(m:Int)
 |0,h=>absurd h List.not_mem_nil
 |m+1,h=>by
  rcases List.mem_append.1 h with h|h
  ·have:=Vm m h;omega
  ·have:=Qf h;omega
def PX(l:List Int):∀m,jS (SI.BL l) (pre l m)
 |0=>List.Pairwise.nil
 |m+1=>by
  refine jS.app.2 ⟨PX l m,?_,fun a ha b hb=>?_⟩
  ·refine List.Pairwise.imp_of_mem (fun{x y} hx hy hxy=>?_) (V1 (m+1) l 0)
   have h1:=Qf hx
   have h2:=Qf hy
   unfold SI.BL
   simp;omega
  ·have h1:=Vm m ha
   have h2:=Qf hb
   unfold SI.BL
   simp;omega
def L3(l:List Int):∀m,(pre l m).Perm ((idxs l).filter fun x=>decide (0<ix l x/\ix l x<=(m:Int)))
 |0=>by
  rw[List.filter_eq_nil_iff.2]
  ·exact List.Perm.refl _
  ·simp
 |m+1=>by
  have h:=List.filter_append_perm (fun x=>decide (0<ix l x/\ix l x<=m)) ((idxs l).filter fun x=>decide (0<ix l x/\ix l x<=((m+1):Int)))
  rw[List.filter_filter,List.filter_filter]at h
  refine List.Perm.trans (List.Perm.append (L3 l m) (List.Perm.refl _)) ?_
  rw[<-NC]
  refine List.Perm.trans (List.Perm.of_eq ?_) h
  congr 1
  ·refine List.filter_congr fun x _=>?_
   simp;omega
  ·refine List.filter_congr fun x _=>?_
   rw[Bool.eq_iff_iff];simp;omega
def RS{l Z:List Int}(hl:Fo l)(h1:Z.Perm (ul l l.length))(h2:jS (SI.BL l) Z):Z=uz l:=by
 have hp:=L3 l 15
 rw[<-Ey]at hp
 have e:((idxs l).filter fun x=>decide (0<ix l x/\ix l x<=((15:Nat))))=ul l l.length:=by
  refine List.filter_congr fun x hx=>?_
  obtain⟨i,hi,rfl⟩:=List.mem_map.1 hx
  have hi:=List.mem_range.1 hi
  have:=hl.2.2 _ (List.getElem_mem hi)
  rw[<-gh hi]at this
  simp;omega
 rw[e]at hp
 refine List.Perm.eq_of_pairwise (fun a b _ _ h1 h2=>?_) h2 (by rw[Ey];exact PX l 15) (h1.trans hp.symm)
 unfold SI.BL at h1 h2
 simp[Bool.or_eq_false_iff,decide_eq_false_iff_not,Bool.and_eq_false_iff,beq_eq_false_iff_ne]at h1 h2
 omega
theorem HB{α:Type}[aO α]{S:ae}{r:c5}{l:List α}(h:fZ S r l){B:Nat}{o:SO}(hB:S B=some o)(p:SO):(jc S r l).set B p=jc (S.set B p) r l/\fZ (S.set B p) r l:=by
 cases r with
 |none=>exact⟨rfl,h⟩
 |some x=>
  obtain⟨rb,cap,sp⟩:=x
  obtain⟨h1,h2⟩:=h
  have hne:B≠rb:=fun e=>A_
  exact⟨set_comm hne,Xd4,h2⟩
abbrev V2(l:List Int)(cd:List UInt32)(a:AV):List AV:=P7 l::.sl false 1 cd.length (flat cd)::(l5 l++[a])
def acU{l:List Int}{s:ae}{Q:List AV->ae->Prop}(h0:PI l<0->∀s',Sub s s'->Q [.fM,.int .i64 13] s')(h1:0<=PI l->∀s' x,Sub s s'->iq s' x->x.lens=l->Q [.ref x.B 0,.int .i64 0] s'):FN prog 271 [P7 l] s Q:=by
 have cg:room=140737488355328:=rfl
 refine FN.j8 (FO X4 rfl rfl ?_)
 generalize hQ:(fun rs s'=>∃s2,Sub s2 s'/\Q rs s2)=Q'
 rw[PD]
 refine Xf9 ?_
 refine Xe7 ?_
 intro b hb
 refine SY (UE l) (fun h=>NQ h) (fun h=>?_) (fun h cd hcd=>?_)
 ·refine Xh0 ?_
  refine⟨fun _=>?_,fun hc=>absurd hc B_⟩
  subst hQ
  exact⟨s,(Sub.refl s).set hb,h0 h s (Sub.refl s)⟩
 ·have hok:=NQ h
  obtain⟨hl0,hl1,hl2⟩:=hok
  have hl8:l.length*8<=room:=AT
  simp -implicitDefEqProofs only[go_sem,seval,aY,bL]
  refine⟨_,rfl,QF hl8,_,rfl,CP AT hl2,?_⟩
  have hcv:views (flat cd)=flat cd:=aF cd
  have hlv:views (flat l)=flat l:=aF l
  have hca:views (l5 l)=l5 l:=rfl
  simp -implicitDefEqProofs only[go_sem,seval,l5,bL]
  intro B hB
  have hne:B≠b:=fun e=>by subst e;rw[aY]at hB;cases hB
  have hsB:s B=none:=by rw[af hne]at hB;exact hB
  have hbB:=fun o:SO=>(af hne.symm:((s.set b (.cells [P7 l])).set B o) b=(s.set b (.cells [P7 l])) b)
  simp -implicitDefEqProofs only[go_sem,seval,af hne.symm,aY]
  refine ja l.length (fun k τ=>∃(S:ae)(r:c5),τ=⟨[(1,.ref b 0),(6,.ref B 0),(24,P7 l),(25,.int .i64 l.length),(26,.int .i64 k)],[],jc S r (ul l k)⟩/\fZ S r (ul l k)/\Sub s S/\S b=some (.cells [P7 l])/\S B=some (.cells (V2 l cd (jj r (ul l k).length)))/\(∀c∈P4 r,c=.int .i64 0)) AT ?_ (fun k hk J τ hτ hJ=>?_) (fun J τ hτ=>?_)
  ·refine⟨_,none,rfl,rfl,?_,?_,aY,fun c hc=>absurd hc List.not_mem_nil⟩
   ·exact((Sub.refl s).set hb).set hB
   ·show((s.set b (.cells [P7 l])).set B _) b=_
    rw[af hne.symm,aY]
  ·obtain⟨S,r,rfl,hr,hs,hSb,hSB,hsp⟩:=hτ
   have hlt:decide ((k:Int)<(l.length:Int))=true:=C_
   have hw:aC ((k:Int)+1)=((k+1:Nat):Int):=E_
   have hul:=Wc l k
   refine Xe5 hlt ?_
   refine⟨⟨AT,AT⟩,fun hg=>?_,fun hg=>?_⟩
   ·have hg:0<ix l (k:Int):=of_decide_eq_true hg
    have hB2:=jO hr hSB
    have hu:=JT l k
    rw[if_pos hg]at hu
    unfold V2 l5 at hB2
    simp -implicitDefEqProofs only[go_sem,seval,hB2,List.cons_append,List.nil_append,gn,bL]
    refine Su (z:=(0:Int)) (v:=(k:Int)) rfl hr rfl AT fun S' r' hs' hr' akB=>?_
    have hB3:=jO hr' (hs' _ _ hSB)
    unfold V2 l5 at hB3
    simp -implicitDefEqProofs only[go_sem,seval,hB3,hw,List.cons_append,List.nil_append,bL]
    refine hJ _ ⟨S'.set B (.cells (V2 l cd (jj r' (ul l (k+1)).length))),r',?_,?_,?_,?_,aY,fun c hc=>?_⟩
    ·rw[hu,List.length_append,(HB hr' (hs' _ _ hSB) _).1];rfl
    ·rw[hu];exact(HB hr' (hs' _ _ hSB) _).2
    ·intro b' o hb'
     have:b'≠B:=fun e=>by subst e;rw[hsB]at hb';cases hb'
     rw[af this]
     exact hs' _ _ (hs _ _ hb')
    ·rw[af hne.symm];exact hs' _ _ hSb
    ·rcases akB c hc with h|h
     ·exact hsp c h
     ·have h:c∈[AV.int .i64 0]:=h
      simpa using h
   ·have hg:¬0<ix l (k:Int):=of_decide_eq_false hg
    have hu:=JT l k
    rw[if_neg hg]at hu
    refine Xe5 hw ?_
    exact hJ _ ⟨S,r,by rw[hu],by rw[hu];exact hr,hs,hSb,by rw[hu];exact hSB,hsp⟩
  ·obtain⟨S,r,rfl,hr,hs,hSb,hSB,hsp⟩:=hτ
   have hlt:decide ((l.length:Int)<(l.length:Int))=false:=BY
   have hB2:=jO hr hSB
   have hb2:=jO hr hSb
   unfold V2 l5 at hB2
   simp -implicitDefEqProofs only[go_sem,seval,hlt,hB2,List.cons_append,List.nil_append,bL]
   have fin:∀s',Sub s s'->iq s' ⟨B,l⟩->Q' [.ref B 0,.int .i64 0] s':=fun s' h2 h3=>by
    subst hQ
    exact⟨s',Sub.refl s',h1 h s' ⟨B,l⟩ h2 h3 rfl⟩
   have Pw:=fun Z h1 h2=>RS (l:=l) (Z:=Z) ⟨hl0,hl1,hl2⟩ h1 h2
   cases r with
   |none=>
    have hu0:ul l l.length=[]:=hr
    rw[hu0]at hSB Pw⊢
    refine SI.RM ?_
    refine Xe7 ?_
    refine fin S hs ⟨⟨hl0,hl1,hl2⟩,cd,0,0,[],?_,fun hne=>?_⟩
    ·have:=Pw [] (List.Perm.refl _) List.Pairwise.nil
     rw[hSB]
     unfold F8
     rw[<-this];rfl
    ·exact absurd (Pw [] (List.Perm.refl _) List.Pairwise.nil).symm hne
   |some x=>
    obtain⟨rb,cap,sp⟩:=x
    have hrb:S rb=none:=hr.1
    have akr:b≠rb:=fun e=>by subst e;rw[hSb]at hrb;cases hrb
    have akq:B≠rb:=fun e=>by subst e;rw[hSB]at hrb;cases hrb
    refine SI.RN (Lb:=b) (lens:=l) hSb akr (by have:=Wc l l.length;omega) (Wf l _) (fun z hz=>We hz) fun Z hZ hs2=>?_
    have hZe:=Pw Z hZ hs2
    refine Xe7 ?_
    refine fin _ ?_ ⟨⟨hl0,hl1,hl2⟩,cd,rb,cap,sp,?_,fun _=>⟨?_,?_⟩⟩
    ·exact fun b' o hb'=>by
      have h3:=hs _ _ hb'
      have:b'≠rb:=fun e=>by subst e;rw[hrb]at h3;cases h3
      show S.set rb _ b'=_
      rw[af this];exact h3
    ·show S.set rb _ B=_
     rw[af akq,hSB]
     unfold F8
     rw[<-hZe,hZ.length_eq]
     rfl
    ·rw[List.any_eq_false]
     intro c hc
     rw[hsp c hc]
     simp[Dj]
    ·show S.set rb _ rb=_
     rw[hZe,aY]
def iq.row{s:ae}{x:HT}(h:iq s x){B:Nat}{o:SO}(hB:s B=some o)(hn:uh o=true):x.B≠B/\∃(cd:List UInt32)(b cap:Nat)(sp:List AV),(∀p,(s.set B p) x.B=some (.cells (F8 x.lens cd b cap)))/\(uz x.lens≠[]->∀p,(s.set B p) b=some (.cells (flat (uz x.lens)++sp))):=by
 have hne:=h.ne hB hn
 obtain⟨h0,cd,b,cap,sp,h1,h2⟩:=h
 refine⟨hne,cd,b,cap,sp,fun p=>by rw[af hne];exact h1,fun hs p=>?_⟩
 rw[af fun e=>?_]
 ·exact(h2 hs).2
 ·subst e
  rw[(h2 hs).2]at hB
  injection hB with hB;subst hB
  have:(flat (uz x.lens)++sp).any Dj=true:=hn
  rw[List.any_append,ye,(h2 hs).1]at this;cases this
abbrev rdC(r:bJ):List AV:=[.int .i64 r.aB.at_,.bool r.aB.tJ,.bool r.aB.wj,.sl false 1 r.b_.length (flat r.b_)]
theorem EF(l:List Int)(cd:List UInt32)(b cap:Nat):F8 l cd b cap=[P7 l,.sl false 1 cd.length (flat cd),.int .i64 (ir l 0),.int .i64 (ir l 1),.int .i64 (ir l 2),.int .i64 (ir l 3),.int .i64 (ir l 4),.int .i64 (ir l 5),.int .i64 (ir l 6),.int .i64 (ir l 7),.int .i64 (ir l 8),.int .i64 (ir l 9),.int .i64 (ir l 10),.int .i64 (ir l 11),.int .i64 (ir l 12),.int .i64 (ir l 13),.int .i64 (ir l 14),.int .i64 (ir l 15),.arr b 0 (uz l).length cap]:=rfl
def Zm(l:List Int)(cd:List UInt32)(b cap:Nat){n:Int}(h0:0<=n)(h:n<16)(cs:List AV)(e:cs=F8 l cd b cap):views (List.take 1 (List.drop (2+n.toNat*1) cs))=[.int .i64 (vx l n)]:=by
 subst e
 unfold vx
 have h2:n.toNat<16:=AT
 generalize n.toNat=m at h2
 have:m=0\/m=1\/m=2\/m=3\/m=4\/m=5\/m=6\/m=7\/m=8\/m=9\/m=10\/m=11\/m=12\/m=13\/m=14\/m=15:=AT
 rcases this with h|h|h|h|h|h|h|h|h|h|h|h|h|h|h|h<;>subst h<;>rfl
def yp{t_0:HT}{r_1:bJ}{B1:Nat}{s:ae}{Q:List AV->ae->Prop}(hB1:s B1=some (.cells [.int .i64 r_1.aB.at_,.bool r_1.aB.tJ,.bool r_1.aB.wj,.sl false 1 r_1.b_.length (flat r_1.b_)]))(va0:iq s t_0):ok (iw t_0 r_1) (fun r=>Q [.int .i64 r.1,.int .i64 r.2.1] (s.set B1 (.cells [.int .i64 r.2.2.aB.at_,.bool r.2.2.aB.tJ,.bool r.2.2.aB.wj,.sl false 1 r.2.2.b_.length (flat r.2.2.b_)])))->FN prog 287 [.ref t_0.B 0,.ref B1 0] s Q:=by
 intro h
 refine FS 77 [⟨4,true,none⟩,⟨5,true,none⟩] 0x3b451921af5353a23016498b794c993e1bf4a529e2572d6fb493199352a278310ef387720262d33c0d923fb9473082a991c3d9f2e4900601cd10464357db221ccfaf03b0ffb30d4df523712e46e07d83ebbf17a63f0738afbc6166bc8a72341e4f1fe2711de9ff0924e3fb9d9625eafbe3bfd38c33e0e94c3bb78277256e584b7b8e5970a1415b931a16bddf6d4bacec1540e492e75c3fc42fbe09ddc4e491acf6b4644a35ff60c2b22289278e0b191832261e06e78514f4ac8a63a5ea3905715f5a0c833eacdd5c1dbaf950adeb687b52a648465c158eec1a45301593c1fffaacc75b53dce8e2c7fca701a59b5c2878e93baf1c23dcadcb3333b77e07aba1cfde1421f1d2c6d1095c78dc0d6859a1810b7bb947b1892365bd05fc41d0eb7079603c311ac076ea0e155a0f7055815a4b4fbe23b0d697eb2003cc00844b ?_
 obtain⟨hne,cd,b,cap,sp,hT,hR⟩:=va0.row hB1 rfl
 refine FE.app (V7 va0) ?_
 refine Xe7 ?_
 unfold iw at h
 refine cY (fun((code,first,at_,n,r):Int×Int×Int×Int×bJ)=>(⟨[(0,.ref t_0.B 0),(1,.ref B1 0),(6,.int .i64 code),(7,.int .i64 first),(8,.int .i64 at_),(9,.int .i64 n)],[],s.set B1 (.cells (rdC r))⟩:St)) ?_ ?_ h
 ·simp -implicitDefEqProofs only[go_sem,seval,aU hB1]
 ·rintro J ⟨code,first,at_,n,r⟩
  simp only[EF]at hT
  refine Xe5 hT ?_
  refine cj (dw (cj dj (dw fun hh=>?_))) dj
  refine oO (B0:=B1) aY (aJ hh fun g hg=>?_)
  refine Xh1 hT ?_
  obtain⟨hg1,hg2⟩:=hg
  refine⟨hg1,fun he=>?_⟩
  obtain⟨hn,hg3,hg4⟩:=hg2 he
  clear hg1 hg2 hh h
  have hd:decide (2+n.toNat*1<=18)=true:=C_
  have hv:=fun cs(e:cs=F8 t_0.lens cd b cap)=>Zm t_0.lens cd b cap hn.1 hn.2 cs e
  have hv:=hv _ rfl
  simp only[EF]at hv
  refine⟨hn,?_⟩
  rw[hd,cond_true,hv]
  refine⟨fun hc=>?_,fun hc=>?_⟩
  ·obtain⟨h1,h2⟩:=hg3 hc
   have akp:uz t_0.lens≠[]:=fun e=>by rw[e]at h1;have:=h1.1;have:=h1.2;simp at this;omega
   have dv:=ah5 (uz t_0.lens) sp (n:=1) rfl h1.1 h1.2
   have hR:=hR akp
   generalize flat (uz t_0.lens)++sp=rc at dv hR
   have hd2:=decide_eq_true dv.1
   have hv2:views (AB.sub rc _ 1)=[.int .i64 _]:=dv.2
   refine Xg9 hT hR hd2 hv2 ?_
   exact⟨h1,h2⟩
  ·have h2:=hg4 hc
   simp -implicitDefEqProofs only[go_sem,seval,hT,hd,cond_true,hv,bL]
   exact⟨hn,hn,h2⟩
end Go.AB
end
section
set_option maxRecDepth 16000
namespace Go.AB
open Go
open Go.Proofs.Tryz (prog)
attribute[-go_sem] bX cP bD bV
def bZ(s_0:cC)(t_1:HT):Option (Int×cC):=
 if s_0.e_ !=0 then
  some (0,s_0)
 else
  aZ (iw t_1 s_0.Reader) fun r1=>
  aZ (az (cC.mk r1.2.2 s_0.e_) r1.2.1) fun r2=>
  some (r1.1,r2)
def gS:IC:=dec 0x1f2ed131660f67f0b2008303ec049ba5434a0ba9b18823fab60b7030c68914221fee5f9affad94c9d2d8980fa0c1063581d0568dba78b6a84f9e23ce6cc6f68e152980c653980083fa
def ku:ey prog 267 25 [⟨4,true,none⟩] gS=true:=By
def gQ{s_0 t_1}{B0 B0_Reader:Nat}{preB0 postB0:List AV}{oB0:Nat}{s:ae}{Q:List AV->ae->Prop}(hB0:s B0=some (.cells (Wi preB0 [.ref B0_Reader 0,.int .i64 s_0.e_] postB0)))(c9:s B0_Reader=some (.cells (rG s_0.Reader)))(eB0:preB0.length=oB0)(ab:B0≠B0_Reader)(va1:iq s t_1):ok (bZ s_0 t_1) (fun r=>Q [.int .i64 r.1] ((s.set B0 (.cells (Wi preB0 [.ref B0_Reader 0,.int .i64 r.2.e_] postB0))).set B0_Reader (.cells (rG r.2.Reader))))->FN prog 267 [.ref B0 oB0,.ref t_1.B 0] s Q:=by
 subst eB0
 rw[<-aU c9,<-aU hB0]
 intro h
 refine FO ku rfl rfl ?_
 revert h
 rw[gS,bZ]
 refine Xf9 ?_
 repeat'(first
  |(with_reducible first|exact dj|refine cj ?_ ?_|refine dw ?_|refine fun hh=>yp (B1:=B0_Reader) Dd (iq.F0 L_ hB0 U_ c9 U_ ab) (aJ (show ok (iw t_1 s_0.Reader) _ from hh) fun r1=>?_)|refine fun hh=>bH (B0:=B0) (B0_Reader:=B0_Reader) (preB0:=preB0) (postB0:=postB0) Dd Dd GU ab (aJ (show ok (az (cC.mk r1.2.2 s_0.e_) r1.2.1) _ from hh) fun r2=>?_))
  |simp -implicitDefEqProofs only[go_sem,seval,af ab,af ab.symm,set_comm ab])
def il(s_0:ak)(t_1:HT)(d_2:HT):Option (ak):=
 iter (fun(o1:ak)=>
  aZ (bZ o1.bk t_1) fun r3=>
  if(r3.2.e_ !=0)||(r3.1==256)then
   some (.inr (ak.mk r3.2 o1.ie o1.fT))
  else
   if decide (r3.1<256)then
    aZ (cJ (ak.mk r3.2 o1.ie o1.fT) (jt (r3.1))) fun r4=>
    some (.inl r4)
   else
    aZ (fj r3.1) fun r5=>
    jn (
     if !r5.2.2 then
      aZ (az r3.2 11) fun r11=>
      some (ak.mk r11 o1.ie o1.fT)
     else
      some (ak.mk r3.2 o1.ie o1.fT)) fun(o10:ak)=>
    aZ (aK o10.bk r5.2.1) fun r12=>
    aZ (bZ r12.2 d_2) fun r13=>
    aZ (eC r13.1) fun r14=>
    jn (
     if !r14.2.2 then
      aZ (az r13.2 11) fun r21=>
      some (ak.mk r21 o10.ie o10.fT)
     else
      some (ak.mk r13.2 o10.ie o10.fT)) fun(o20:ak)=>
    aZ (aK o20.bk r14.2.1) fun r22=>
    aZ (eD (ak.mk r22.2 o20.ie o20.fT) (aC (r5.1+r12.1)) (aC (r14.1+r22.1))) fun r23=>
    some (.inl r23)) s_0
def iZ:IC:=dec 0x3efe2862f44c98b499f008808bfe1a0a215417f8297af57f378d5f22cb010cfdc2dcde8cdf0238a95c6e4816c0ad2e2bea97e3e15b9e7b6005d34e2407bded40896ffff41d349e9f98fedcfac0fd5284dcb942d577aeb832676e1f914e26ec750aa86567cfe9bf07d1f0525047f02a8b77d7a5ba702b063861c5316e07f30740d310909a118f2a9ad6dcb9b5db6cdac3f87c8cf7b0cdfa35b046169c4cbc9bff23e659209bbac5c25ad4da03b680112cc8a13765bb96760134c228ac251882e2b354a212b44a35d8a00735021cb3df96850a79570f051eb80c3916be07278f9e9eb62eb2bbc90dff436641f59d5e90c26a1d639fa045bb02809c30465f83351a29b640cec5e0a5ecc48bc9ec9eca8735139
def lM:ey prog 240 81 [] iZ=true:=By
def rX{s_0 t_1 d_2}{B0 B0_Reader:Nat}{s:ae}{Q:List AV->ae->Prop}(hB0:s B0=some (.cells (E2 B0_Reader s_0)))(c9:s B0_Reader=some (.cells (rG s_0.bk.Reader)))(ab:B0≠B0_Reader)(va1:iq s t_1)(va2:iq s d_2):ok (il s_0 t_1 d_2) (fun r=>Q [] ((s.set B0 (.cells (E2 B0_Reader r))).set B0_Reader (.cells (rG r.bk.Reader))))->FN prog 240 [.ref B0 0,.ref t_1.B 0,.ref d_2.B 0] s Q:=by
 rw[<-aU c9,<-aU hB0]
 intro h
 refine FO lM rfl rfl ?_
 revert h
 rw[iZ,il]
 refine Xf9 ?_
 repeat'(first
  |(with_reducible first|exact dj|refine cj ?_ ?_|refine dw ?_|refine fun hh=>gQ (B0:=B0) (B0_Reader:=B0_Reader) (preB0:=[]) (postB0:=(Ic o1)) Dd Dd GU ab (iq.F0 L_ hB0 U_ c9 U_ ab) (aJ (show ok (bZ o1.bk t_1) _ from hh) fun r3=>?_)|refine fun hh=>mZ (B0:=B0) (B0_Reader:=B0_Reader) Dd Dd ab (aJ (show ok (cJ (ak.mk r3.2 o1.ie o1.fT) (jt (r3.1))) _ from hh) fun r4=>?_)|refine aN (fun _(h:fj r3.1=some _)=>(kK yq h:)) (fun r5=>?_)|refine fun hh=>bH (B0:=B0) (B0_Reader:=B0_Reader) (preB0:=[]) (postB0:=(Ic o1)) Dd Dd GU ab (aJ (show ok (az r3.2 11) _ from hh) fun r11=>?_)|refine fun hh=>bR (B0:=B0) (B0_Reader:=B0_Reader) (preB0:=[]) (postB0:=(Ic o10)) Dd Dd GU ab (aJ (show ok (aK o10.bk r5.2.1) _ from hh) fun r12=>?_)|refine fun hh=>gQ (B0:=B0) (B0_Reader:=B0_Reader) (preB0:=[]) (postB0:=(Ic o10)) Dd Dd GU ab (iq.F0 L_ hB0 U_ c9 U_ ab) (aJ (show ok (bZ r12.2 d_2) _ from hh) fun r13=>?_)|refine aN (fun _(h:eC r13.1=some _)=>(kK vC h:)) (fun r14=>?_)|refine fun hh=>bH (B0:=B0) (B0_Reader:=B0_Reader) (preB0:=[]) (postB0:=(Ic o10)) Dd Dd GU ab (aJ (show ok (az r13.2 11) _ from hh) fun r21=>?_)|refine fun hh=>bR (B0:=B0) (B0_Reader:=B0_Reader) (preB0:=[]) (postB0:=(Ic o20)) Dd Dd GU ab (aJ (show ok (aK o20.bk r14.2.1) _ from hh) fun r22=>?_)|refine fun hh=>qV (B0:=B0) (B0_Reader:=B0_Reader) Dd Dd ab (aJ (show ok (eD (ak.mk r22.2 o20.ie o20.fT) (aC (r5.1+r12.1)) (aC (r14.1+r22.1))) _ from hh) fun r23=>?_))
  |((with_reducible refine dT (live:=[(0,false),(1,false),(2,false),(7,false),(8,false)]) (fun(o10:ak)=>⟨[(0,.ref B0 0),(1,.ref t_1.B 0),(2,.ref d_2.B 0),(7,.int .i64 r5.1),(8,.int .i64 r5.2.1)],[],((s.set B0 (.cells (E2 B0_Reader o10))).set B0_Reader (.cells (rG o10.bk.Reader)))⟩) (fun J=>?_) ?_);rotate_left;rintro o10)
  |((with_reducible refine dT (live:=[(0,false),(1,false),(2,false),(7,false),(10,false),(11,false)]) (fun(o20:ak)=>⟨[(0,.ref B0 0),(1,.ref t_1.B 0),(2,.ref d_2.B 0),(7,.int .i64 (aC (r5.1+r12.1))),(10,.int .i64 r14.1),(11,.int .i64 r14.2.1)],[],((s.set B0 (.cells (E2 B0_Reader o20))).set B0_Reader (.cells (rG o20.bk.Reader)))⟩) (fun J=>?_) ?_);rotate_left;rintro o20)
  |((with_reducible refine yA (fun(o1:ak)=>⟨[(0,.ref B0 0),(1,.ref t_1.B 0),(2,.ref d_2.B 0)],[],((s.set B0 (.cells (E2 B0_Reader o1))).set B0_Reader (.cells (rG o1.bk.Reader)))⟩) ?_ ?_);(first|exact rfl|simp -implicitDefEqProofs only[go_sem,seval,af ab,af ab.symm,set_comm ab]);rintro J o1)
  |simp -implicitDefEqProofs only[go_sem,seval,af ab,af ab.symm,set_comm ab])
def eX(s_0:ak)(t_1:HT)(n_2:Int):Option ((List Int)×ak):=
 iter (fun((vK,o2):(List Int)×ak)=>
  if((vK.length:Int)==n_2)||(o2.bk.e_ !=0)then
   some (.inr (vK,o2))
  else
   aZ (bZ o2.bk t_1) fun r5=>
   zj (
    if r5.1==16 then
     if(vK.length:Int)==0 then
      aZ (az r5.2 11) fun r16=>
      some (.inr (ak.mk r16 o2.ie o2.fT))
     else
      a8 (0<=aC ((vK.length:Int) -1)/\aC ((vK.length:Int) -1)<vK.length)<|
      aZ (aK r5.2 2) fun r17=>
      some (.inl (ix vK (aC ((vK.length:Int) -1)),aC (r17.1+3),(ak.mk r17.2 o2.ie o2.fT)))
    else
     if r5.1==17 then
      aZ (aK r5.2 3) fun r18=>
      some (.inl (0,aC (r18.1+3),(ak.mk r18.2 o2.ie o2.fT)))
     else
      if r5.1==18 then
       aZ (aK r5.2 7) fun r19=>
       some (.inl (0,aC (r19.1+11),(ak.mk r19.2 o2.ie o2.fT)))
      else
       some (.inl (r5.1,1,(ak.mk r5.2 o2.ie o2.fT)))) (fun((x9,vh,o11):Int×Int×ak)=>
    if decide (vh>aC (n_2 -(vK.length:Int)))then
     aZ (az o11.bk 11) fun r20=>
     some (.inl (vK,(ak.mk r20 o11.ie o11.fT)))
    else
     jn (
      iter (fun((p8,t26):(List Int)×Int)=>
       if decide (t26<vh)then
        a8 ((p8.length+[x9].length)*8<=room)<|
        some (.inl (p8++[x9],aC (t26+1)))
       else
        some (.inr p8)) (vK,0)) fun(Hs:(List Int))=>
     some (.inl (Hs,o11)))
   (fun(o15:ak)=>some (.inl (vK,o15)))) (([]:List Int),s_0)
def gT:IC:=dec 0x1f8717efe01a160c9e6d4a23edd9b226cdb00cab02384935958044b0e084924e91ebd8d8b17f035dcd4c2630fae745b092467e9960b24664607d65c1d7828f7a93590af6003936d64ea278fdaed561a775cfb5f791bbc1dad68ef4f2bc305ff308247f54acd06ce1aa5344eea2053d98a9af251da6b2908634e6672e581640fb937166e6492aa31a370b37641dece747e47587d09d99bb0ee66b0f57a196c5a7f03f654a1f202c30d43cb5fc835cd2679ea53511f8d4ac036dedaf95f01bd054ea6e9ba71db657f5cefe046aa52f8d27c81f28c3c9f076fff3e385b8a28de8b289e0ffd3b72fe9ede3cbb5d8b89bfc77b5ccaffe801f2d8e9c20f4ea9615140b1a6c0a60f6545274fcaed9faaae831052c6a98ea803b3345f7c811b7269261dfb3af2d415c866c9ab97ca9496a1f7d44226ec5303e39469d2a96ae7f0e6b9e6f481b62f31a395dc51adb86dcd8d63f8dd05221f8cd44dd83796f4d6394689c05034825e1eb4cbbe81ed2b167b1e09e381c9157faff12cd9bdb80592ec8d0f320ba
def kz:ey prog 273 81 [⟨6,true,none⟩] gT=true:=By
def qp{s_0 t_1 n_2}{B0 B0_Reader:Nat}{s:ae}{Q:List AV->ae->Prop}(hB0:s B0=some (.cells (E2 B0_Reader s_0)))(c9:s B0_Reader=some (.cells (rG s_0.bk.Reader)))(ab:B0≠B0_Reader)(va1:iq s t_1):ok (eX s_0 t_1 n_2) (fun r=>Q [sT 1 r.1] ((s.set B0 (.cells (E2 B0_Reader r.2))).set B0_Reader (.cells (rG r.2.bk.Reader))))->FN prog 273 [.ref B0 0,.ref t_1.B 0,.int .i64 n_2] s Q:=by
 rw[<-aU c9,<-aU hB0]
 intro h
 refine FO kz rfl rfl ?_
 revert h
 rw[gT,eX]
 refine Xf9 ?_
 repeat'(first
  |(with_reducible first|exact dj|refine cj ?_ ?_|refine dw ?_|refine fun hh=>gQ (B0:=B0) (B0_Reader:=B0_Reader) (preB0:=[]) (postB0:=(Ic o2)) Dd Dd GU ab (iq.F0 L_ hB0 U_ c9 U_ ab) (aJ (show ok (bZ o2.bk t_1) _ from hh) fun r5=>?_)|refine fun hh=>bH (B0:=B0) (B0_Reader:=B0_Reader) (preB0:=[]) (postB0:=(Ic o2)) Dd Dd GU ab (aJ (show ok (az r5.2 11) _ from hh) fun r16=>?_)|refine fun hh=>bR (B0:=B0) (B0_Reader:=B0_Reader) (preB0:=[]) (postB0:=(Ic o2)) Dd Dd GU ab (aJ (show ok (aK r5.2 2) _ from hh) fun r17=>?_)|refine fun hh=>bR (B0:=B0) (B0_Reader:=B0_Reader) (preB0:=[]) (postB0:=(Ic o2)) Dd Dd GU ab (aJ (show ok (aK r5.2 3) _ from hh) fun r18=>?_)|refine fun hh=>bR (B0:=B0) (B0_Reader:=B0_Reader) (preB0:=[]) (postB0:=(Ic o2)) Dd Dd GU ab (aJ (show ok (aK r5.2 7) _ from hh) fun r19=>?_)|refine fun hh=>bH (B0:=B0) (B0_Reader:=B0_Reader) (preB0:=[]) (postB0:=(Ic o11)) Dd Dd GU ab (aJ (show ok (az o11.bk 11) _ from hh) fun r20=>?_))
  |((with_reducible refine eF (live:=[(0,false),(1,false),(2,false),(7,false),(8,false),(9,false)]) (fun((x9,vh,o11):Int×Int×ak)=>⟨[(0,.ref B0 0),(1,.ref t_1.B 0),(2,.int .i64 n_2),(7,sT 1 vK),(8,.int .i64 x9),(9,.int .i64 vh)],[],((s.set B0 (.cells (E2 B0_Reader o11))).set B0_Reader (.cells (rG o11.bk.Reader)))⟩) (fun J=>?_) ?_);rotate_left;rintro⟨x9,vh,o11⟩)
  |((with_reducible refine cY (fun((p8,t26):(List Int)×Int)=>⟨[(0,.ref B0 0),(1,.ref t_1.B 0),(2,.int .i64 n_2),(7,sT 1 p8),(8,.int .i64 x9),(73,.int .i64 vh),(74,.int .i64 t26)],[],((s.set B0 (.cells (E2 B0_Reader o11))).set B0_Reader (.cells (rG o11.bk.Reader)))⟩) ?_ ?_);(first|exact rfl|simp -implicitDefEqProofs only[go_sem,seval,af ab,af ab.symm,set_comm ab]);rintro J ⟨p8,t26⟩)
  |((with_reducible refine dT (live:=[(0,false),(1,false),(2,false),(7,false)]) (fun(Hs:(List Int))=>⟨[(0,.ref B0 0),(1,.ref t_1.B 0),(2,.int .i64 n_2),(7,sT 1 Hs)],[],((s.set B0 (.cells (E2 B0_Reader o11))).set B0_Reader (.cells (rG o11.bk.Reader)))⟩) (fun J=>?_) ?_);rotate_left;rintro Hs)
  |((with_reducible refine yA (fun((vK,o2):(List Int)×ak)=>⟨[(0,.ref B0 0),(1,.ref t_1.B 0),(2,.int .i64 n_2),(7,sT 1 vK)],[],((s.set B0 (.cells (E2 B0_Reader o2))).set B0_Reader (.cells (rG o2.bk.Reader)))⟩) ?_ ?_);(first|exact rfl|simp -implicitDefEqProofs only[go_sem,seval,af ab,af ab.symm,set_comm ab]);rintro J ⟨vK,o2⟩)
  |simp -implicitDefEqProofs only[go_sem,seval,af ab,af ab.symm,set_comm ab])
end Go.AB
end
section
set_option maxRecDepth 4000
namespace Go.AB
open Go
open Go.Proofs.Tryz (prog)
attribute[-go_sem] Nat.add_zero mi cy bX cP bD bV
end Go.AB
end
section
set_option maxRecDepth 4000
namespace Go.AB
open Go
open Go.Proofs.Tryz (prog)
attribute[-go_sem] bX cP bD bV
end Go.AB
end
section
namespace Go.AB
open Go
def V9(l:List Int)(B:List Bool):∀(f n c:Nat),1<=n->n -1<=B.length->(MI l B f n c).2.1<=B.length/\((MI l B f n c).2.2=0->n<=(MI l B f n c).2.1)/\0<=(MI l B f n c).1/\(MI l B f n c).1<=l.length/\((MI l B f n c).2.2≠0->(MI l B f n c).1=0)/\(MI l B f n c).2.1<n+f
 |0,n,c,h,h2=>by rw[MI];grind
 |f+1,n,c,h,h2=>by
  rw[MI]
  split
  ·grind
  ·cases hx:B[n -1]? with
   |none=>grind
   |some x=>
    have hlt:=(List.getElem?_eq_some_iff.1 hx).1
    simp
    generalize 2*c+(if x then 1 else 0)=c'
    split
    ·rename_i hin
     refine⟨A_,fun _=>Nat.le_refl _,?_,?_,fun e=>absurd rfl e,A_⟩
     ·have:=JP l 0 _ (List.getElem_mem hin)
      grind
     ·have:=JP l 0 _ (List.getElem_mem hin)
      grind
    ·have ih:=V9 l B f (n+1) c' BY AT
     exact⟨ih.1,fun e=>AT,ih.2.2.1,ih.2.2.2.1,ih.2.2.2.2.1,A_⟩
def aio(l:List Int)(B:List Bool):(tk l B).2.1<=B.length/\((tk l B).2.2=0->1<=(tk l B).2.1)/\0<=(tk l B).1/\(tk l B).1<=l.length/\((tk l B).2.2≠0->(tk l B).1=0)/\(tk l B).2.1<16:=V9 l B 15 1 0 (Nat.le_refl _) (Nat.zero_le _)
def iI(B:List Bool)(l:List Int)(s:ZS):Int×ZS:=if s.e≠0 then(0,s)else((tk l (B.drop s.at_)).1,{s with at_:=s.at_+(tk l (B.drop s.at_)).2.1,e:=(tk l (B.drop s.at_)).2.2})
def BT(most:Int)(x:UInt8)(s:ZS):ZS:=if s.e≠0 then s else if(s.out.length:Int)>=most then{s with e:=3}else{s with out:=s.out++[x]}
def F7(B:List Bool)(most:Int):Nat->ZS->ZS
 |0,s=>s
 |k+1,s=>if s.e≠0 then s else F7 B most k (BT most (jt (aE B 8 s).1) (aE B 8 s).2)
def vN(B:List Bool)(s:ZS):Int×ZS:=
 let r:=aE B 16 {s with at_:=(s.at_+7)/8*8}
 let q:=aE B 16 r.2
 (r.1,if q.1≠65535 -r.1 then q.2.fail 11 else q.2)
def EB(B:List Bool)(most:Int)(s:ZS):ZS:=F7 B most (vN B s).1.toNat (vN B s).2
section
variable{b:List UInt8}{most:Int}
theorem vg{l:List Int}{s:ZS}(ha:s.at_<=8*b.length):(iI (ai b) l s).2.at_<=8*b.length/\s.at_<=(iI (ai b) l s).2.at_/\0<=(iI (ai b) l s).1/\(iI (ai b) l s).1<=l.length/\(iI (ai b) l s).2.out=s.out/\((iI (ai b) l s).2.e=0->s.e=0/\s.at_<(iI (ai b) l s).2.at_)/\((iI (ai b) l s).2.e≠0->(iI (ai b) l s).1=0):=by
 have hl:=uI b
 have ht:=aio l ((ai b).drop s.at_)
 unfold iI
 grind
def adg(hb:b.length<576460752303423488){l:List Int}(hl:Fo l)(K:Nat){s:ZS}(ha:s.at_<=8*b.length):bZ (HG b s) ⟨K,l⟩=some ((iI (ai b) l s).1,HG b (iI (ai b) l s).2):=by
 unfold bZ iI
 by_cases he:s.e=0
 ·rw[if_neg A_,ahx hb hl K ha]
  show aZ (az (HG b {s with at_:=s.at_+(tk l ((ai b).drop s.at_)).2.1}) _) _=_
  rw[sK]
  simp[ZS.fail,he]
 grind
theorem ahv{s:ZS}(he:s.e=0)(hm:most<=16777216)(x:UInt8):cJ (qC b most s) x=some (qC b most (BT most x s)):=by
 have cg:room=140737488355328:=rfl
 unfold cJ BT
 rw[if_neg (c:=s.e≠0) AT]
 by_cases h:s.out.length>=most
 ·grind [sK,aL,ZS.fail]
 ·rw[if_neg A_,if_neg h,bI A_]
theorem Jl{x:UInt8}{s:ZS}:(BT most x s).at_=s.at_/\((BT most x s).e=0->s.e=0):=by
 unfold BT
 grind
theorem ajO(n:Nat)(h:n<4611686018427387904):aC (xK .i64 (aC ((n:Int)+7)) 7)=(((n+7)/8*8:Nat):Int):=by
 rw[ao (n:=(n:Int)+7) AT AT]
 have e:xK .i64 ((n:Int)+7) 7=(((n+7)/8*8:Nat):Int):=by
  rw[show(n:Int)+7=((n+7:Nat):Int) by omega]
  have hm:n+7<2^64:=AT
  generalize n+7=m at*
  unfold xK
  show(((BitVec.ofNat 64 m&&& ~~~BitVec.ofNat 64 7).toNat:Nat):Int)=_
  congr 1
  refine Nat.eq_of_testBit_eq fun i=>?_
  have e8:m/8*8=(m>>>3)<<<3:=by rw[Nat.shiftRight_eq_div_pow,Nat.shiftLeft_eq]
  rw[e8,Nat.testBit_shiftLeft,Nat.testBit_shiftRight,BitVec.testBit_toNat,BitVec.getLsbD_and,BitVec.getLsbD_not,BitVec.getLsbD_ofNat,BitVec.getLsbD_ofNat]
  rw[show(7:Nat)=2^3 -1 from rfl,Nat.testBit_two_pow_sub_one]
  by_cases h64:i<64
  ·grind
  ·have:m.testBit i=false:=Nat.testBit_lt_two_pow (Nat.lt_of_lt_of_le hm (Nat.pow_le_pow_right B_ AT))
   grind
 grind [ao]
def alz(m:Int)(h0:0<=m)(h:m<65536):aC (ZD .i64 m 65535)=65535 -m:=by
 obtain⟨m,rfl⟩:=Int.eq_ofNat_of_zero_le h0
 have hm:m<2^16:=AT
 have e:ZD .i64 (m:Int) 65535=((2^16 -(m+1):Nat)):=by
  show(((BitVec.ofNat 64 m^^^BitVec.ofNat 64 65535).toNat):Int)=_
  congr 1
  refine Nat.eq_of_testBit_eq fun i=>?_
  rw[Nat.testBit_two_pow_sub_succ hm,BitVec.testBit_toNat,BitVec.getLsbD_xor,BitVec.getLsbD_ofNat,BitVec.getLsbD_ofNat,show 65535=2^16 -1 from rfl,Nat.testBit_two_pow_sub_one]
  by_cases h16:i<16
  ·grind
  ·have:m.testBit i=false:=Nat.testBit_lt_two_pow (Nat.lt_of_lt_of_le hm (Nat.pow_le_pow_right BY AT))
   grind
 grind [ao]
theorem JM{s:ZS}(ha:s.at_<=8*b.length):(vN (ai b) s).2.at_<=8*b.length/\(s.at_+7)/8*8<=(vN (ai b) s).2.at_/\0<=(vN (ai b) s).1/\(vN (ai b) s).1<65536:=by grind [ep,aE,ai,vN,ZS.fail]
def aaS(hb:b.length<576460752303423488)(hM:most<=16777216):∀(k:Nat)(s:ZS),k<65536->s.at_<=8*b.length->∀m,k+1<=m->cD (fun((n7,o8):Int×ak)=>
 if(decide (n7>0))&&(o8.bk.e_==0)then
  jn (
   aZ (aK o8.bk 8) fun r12=>
   if r12.2.e_==0 then
    aZ (cJ (ak.mk r12.2 o8.ie o8.fT) (jt (r12.1))) fun r13=>
    some r13
   else
    some (ak.mk r12.2 o8.ie o8.fT)) fun(o11:ak)=>
  some (.inl (aC (n7 -1),o11))
 else
  some (.inr o8)) m ((k:Int),qC b most s)=some (qC b most (F7 (ai b) most k s))
 |0,s,_,_,m,hm=>by
  obtain⟨j,rfl⟩:∃j,m=j+1:=⟨m -1,AT⟩
  rfl
 |k+1,s,hk,ha,m,hm=>by
  obtain⟨j,rfl⟩:∃j,m=j+1:=⟨m -1,AT⟩
  rw[cD,F7]
  by_cases he:s.e=0
  ·rw[if_neg y_]
   have hn:=ep (b:=b) (n:=8) ha
   have hp:=Jl (most:=most) (x:=jt (aE (ai b) 8 s).1) (s:=(aE (ai b) 8 s).2)
   have hN:=Oa hb (n:=8) B_ ha
   rw[show((8:Nat):Int)=8 from rfl]at hN
   have T8:=hn.2.2.2.2.1
   simp only[if_pos (show(decide (((k+1:Nat):Int)>0)&&(s.e==0))=true by simp[he])]
   rw[hN]
   generalize aE (ai b) 8 s=r at*
   rw[aL]
   have ez:ak.mk (HG b r.2) s.out most=qC b most r.2:=by rw[<-T8]
   have e:(if(r.2.e==0)=true then aZ (cJ (ak.mk (HG b r.2) s.out most) (jt r.1)) fun r13=>some r13 else some (ak.mk (HG b r.2) s.out most))=some (qC b most (BT most (jt r.1) r.2)):=by
    rw[ez]
    by_cases hr:r.2.e=0
    ·rw[if_pos (by simp[hr]),ahv hr hM,aL]
    ·unfold BT
     grind
   simp only[e,I1]
   rw[ao AT AT,show((k+1:Nat):Int) -1=(k:Int) by omega]
   exact aaS hb hM k _ AT A_ j AT
  grind
def Yz(hb:b.length<576460752303423488)(hM:most<=16777216){s:ZS}(ha:s.at_<=8*b.length):gE (qC b most s)=some (qC b most (EB (ai b) most s)):=by
 have hH:=JM ha
 have ha1:({s with at_:=(s.at_+7)/8*8}).at_<=8*b.length:=A_
 have h1:=ep (n:=16) ha1
 have h2:=ep (n:=16) h1.1
 unfold gE gA bP EB
 simp only[aL,Bool.false_or,Bool.not_true,Bool.not_false,if_true]
 rw[ajO _ AT]
 have hN:=Oa hb (n:=16) BY ha1
 have hN2:=Oa hb (n:=16) BY h1.1
 refine ah hN ?_
 refine eJ (a:=qC b most (vN (ai b) s).2) (ah hN2 ?_) ?_
 ·have hx:=alz (aE (ai b) 16 (aE (ai b) 16 {s with at_:=(s.at_+7)/8*8}).2).1 h2.2.2.1 h2.2.2.2.1
  have ho:s.out=(aE (ai b) 16 (aE (ai b) 16 {s with at_:=(s.at_+7)/8*8}).2).2.out:=A_
  unfold vN
  simp
  generalize aE (ai b) 16 (aE (ai b) 16 {s with at_:=(s.at_+7)/8*8}).2=q at*
  generalize aE (ai b) 16 {s with at_:=(s.at_+7)/8*8}=r at*
  by_cases hq:q.1≠65535 -r.1
  ·rw[sK,aL]
   grind [ZS.fail]
  grind
 ·have:=aaS hb hM (vN (ai b) s).1.toNat (vN (ai b) s).2 AT hH.1 18446744073709551616 AT
  rw[show(((vN (ai b) s).1.toNat):Int)=(vN (ai b) s).1 by omega]at this
  exact this
theorem Qd:∀(k:Nat)(s:ZS),s.at_<=8*b.length->(F7 (ai b) most k s).at_<=8*b.length/\s.at_<=(F7 (ai b) most k s).at_/\((F7 (ai b) most k s).e=0->s.e=0)
 |0,s,h=>⟨h,Nat.le_refl _,fun h=>h⟩
 |k+1,s,h=>by
  rw[F7]
  split
  ·grind
  ·have hn:=ep (n:=8) h
   have hp:=Jl (most:=most) (x:=jt (aE (ai b) 8 s).1) (s:=(aE (ai b) 8 s).2)
   have ih:=Qd k (BT most (jt (aE (ai b) 8 s).1) (aE (ai b) 8 s).2) A_
   exact⟨ih.1,AT,fun e=>(hn.2.2.2.2.2 (hp.2 (ih.2.2 e))).1⟩
theorem Zd{s:ZS}(ha:s.at_<=8*b.length):(EB (ai b) most s).at_<=8*b.length/\s.at_<=(EB (ai b) most s).at_:=by grind [JM,Qd,vN,ai,EB]
end
end Go.AB
end
