/- A part. -/
import Derived.Test.YtgecakgfnjkkbaaGreatRt26
set_option linter.defProp false
set_option linter.unusedSimpArgs false
set_option linter.unusedVariables false
section
set_option maxRecDepth 4000
namespace Go.AB
open Go
section
variable{b:List UInt8}{last:Bool}
end
section
variable{b:List UInt8}{last:Bool}
abbrev Mc:=rD mB
def IA(r:aa×Bool×Int×PS):Option (PS⊕(aa×Int×Int)):=
 bif r.2.2.1 !=0 then some (.inr (zV,0,r.2.2.1))else
 bif !r.2.1 then some (.inl r.2.2.2)else
 a8 (r.2.2.2.st.length<=64)<|match r.2.2.2.st with
 |[]=>some (.inr (r.1,r.2.2.2.at_,0))
 |v::vs=>a8 ((v.l_.length+1)*56<=room)<|some (.inl {r.2.2.2 with st:=⟨v.gb,v.l_++[r.1]⟩::vs})
theorem LH(hb:b.length<1048576){k:Nat}(hk:k<=b.length){st:List aV}(ez:st.length<=64)(h:(iQ b last k).2≠0):Mc ⟨b,(k:Int),last,st⟩=some (.inr (zV,0,(iQ b last k).2)):=by
 unfold Mc rD
 rw[bI ez,A5 hb k hk,aL]
 grind
theorem PN(hb:b.length<1048576){k:Nat}(hk:k<=b.length){st:List aV}(ez:st.length<=64)(h:(iQ b last k).2=0):Mc ⟨b,(k:Int),last,st⟩=aZ (wv mB ⟨b,(iQ b last k).1.To,last,st⟩ (iQ b last k).1) IA:=by
 unfold Mc rD
 rw[bI ez,A5 hb k hk,aL]
 have:((iQ b last k).2 !=0)=false:=A_
 rw[this]
 rfl
theorem mX{v:aa}{c:Bool}{e:Int}{p:PS}(h:e≠0):IA (v,c,e,p)=some (.inr (zV,0,e)):=by
 unfold IA
 grind
end
section
variable{b:List UInt8}{last:Bool}
def Wd:Nat->aa->Prop
 |0,_=>False
 |n+1,v=>v.L.length<1048577/\(∀x∈v.L,Wd n x)/\(v.Kind=8->1<=v.N/\v.N<=4096)
def Wd.leaf{n:Nat}{v:aa}(h:v.L=[])(k:v.Kind=8->1<=v.N/\v.N<=4096):Wd (n+1) v:=⟨A_,fun x hx=>A_,k⟩
def c6{α β:Type}{o:Option α}{f:α->Option β}{r:β}(h:aZ o f=some r):∃a,o=some a/\f a=some r:=by
 cases o with
 |none=>cases h
 |some a=>simp_all
end
theorem LL{α:Type}{c:Prop}[Decidable c](h:¬c)(o:Option α):a8 c o=none:=if_neg h
section
variable{b c:List UInt8}{last l:Bool}
def moE(e:Int):Int:=if e==6 then e else 0
def Ja(e:Int):gW e=some (moE e):=by grind [gW,moE]
def whB(t:aH):Bool:=(t.Kind==1)&&(t.V.Kind==2)
def xr(b:List UInt8)(last:Bool)(j:Nat)(v:aa):aa×Int×Int:=
 if((iQ b last j).2 !=0)||!whB (iQ b last j).1 then(v,moE (iQ b last j).2,(j:Int))else
 if(((iQ b last (iQ b last j).1.To.toNat).2 !=0)||((iQ b last (iQ b last j).1.To.toNat).1.Kind !=6))||!((iQ b last (iQ b last j).1.To.toNat).1.S.b==[82])then(v,moE (iQ b last (iQ b last j).1.To.toNat).2,(j:Int))else
 if((decide (v.N<1))||(decide (v.N>4096)))||((iQ b last j).1.V.N !=0)then(v,26,(j:Int))else(⟨8,v.N,⟨[]⟩,[]⟩,0,(iQ b last (iQ b last j).1.To.toNat).1.To)
theorem On(hb:b.length<1048576){j:Nat}(hj:j<=b.length)(o:AV)(v:aa):dc ⟨b,(j:Int),last,o⟩ v=some ((xr b last j v).1,(xr b last j v).2.1,⟨b,(xr b last j v).2.2,last,o⟩):=by
 unfold dc xr
 refine ah (A5 hb j hj) ?_
 have hx:=Be (last:=last) hj
 generalize iQ b last j=q at hx
 obtain⟨t,e⟩:=q
 by_cases he:e=0
 ·subst he
  obtain⟨⟨i,ei,hi,_⟩,_,_⟩:=hx rfl
  refine ah (a:=whB t) rfl ?_
  cases hw:whB t with
  |false=>exact aM rfl (ah (Ja _) rfl)
  |true=>
   rw[ei,Int.toNat_natCast]
   refine ah (A5 hb i hi) ?_
   generalize iQ b last i=r
   split
   ·exact ah (Ja _) rfl
   grind
 ·have h1:(e !=0)=true:=A_
  rw[h1]
  exact ah rfl (aM rfl (ah (Ja _) rfl))
def Lr(v:aa):Prop:=v.L=[]/\(v.Kind=8->1<=v.N/\v.N<=4096)
theorem Lf.r{v:aa}(h:Lf v):Lr v:=⟨h.1,fun k=>absurd k h.2⟩
def VC{j:Nat}(hj:j<=b.length){v:aa}(hL:Lf v):Lr (xr b last j v).1/\∃q:Nat,(xr b last j v).2.2=(q:Int)/\j<=q/\q<=b.length:=by
 have hr:=hL.r
 have hx:=Be (last:=last) hj
 unfold xr
 generalize iQ b last j=q at hx
 obtain⟨t,e⟩:=q
 split
 ·grind
 ·have he:e=0:=A_
  obtain⟨⟨i,ei,hi,hji,_⟩,_,_⟩:=hx he
  rw[ei,Int.toNat_natCast]
  have hy:=Be (last:=last) hi
  generalize iQ b last i=r at hy
  obtain⟨t2,e2⟩:=r
  split
  ·grind
  ·have he2:e2=0:=A_
   obtain⟨⟨i2,ei2,hi2,amA,_⟩,_,_⟩:=hy he2
   grind [Lr]
theorem VB(hp:EZ b c){j:Nat}(hj:j<=b.length)(v:aa)(h:(xr b false j v).2.1≠6):xr c l j v=xr b false j v:=by
 have hx:=Be (last:=false) hj
 have h1:(iQ b false j).2≠6:=fun e=>by
  unfold xr at h
  rw[e]at h
  exact h rfl
 have e1:=uX (l:=l) hp hj h1
 unfold xr at h⊢
 rw[e1]
 generalize iQ b false j=q at hx h
 obtain⟨t,e⟩:=q
 split
 ·rfl
 ·rename_i hc
  rw[if_neg hc]at h
  have he:e=0:=A_
  obtain⟨⟨i,ei,hi,hji,_⟩,_,_⟩:=hx he
  rw[ei,Int.toNat_natCast]at h⊢
  have h2:(iQ b false i).2≠6:=fun e=>by
   rw[e]at h
   exact h rfl
  grind [uX]
def SN(c:List UInt8)(l:Bool)(p:PS):PS:={p with b:=c,last:=l}
def sgl(hb:b.length<1048576){k:Nat}{t:aH}(ht:AG b k t)(hL:Lf t.V)(h0:t.Kind≠0)(st:List aV):∃v e,∃q:Nat,mR ⟨b,t.To,last,st⟩ t=some (v,e,(q:Int))/\Lr v/\k<q/\q<=b.length:=by
 obtain⟨⟨j,ej,hj1,hj2,hj3⟩,_,_⟩:=ht
 have hj3:=hj3 h0
 unfold mR
 rw[ej]
 split
 ·exact⟨_,_,j,rfl,(by first|exact hL.r|exact⟨rfl,fun h=>F_⟩),hj3,hj1⟩
 ·split
  ·unfold kY
   split
   ·exact⟨_,_,j,rfl,(by first|exact hL.r|exact⟨rfl,fun h=>BY⟩),hj3,hj1⟩
   ·split
    ·exact⟨_,_,j,rfl,(by first|exact hL.r|exact⟨rfl,fun h=>A_⟩),hj3,hj1⟩
    ·split<;>exact⟨_,_,j,rfl,(by first|exact hL.r|exact⟨rfl,fun h=>A_⟩),hj3,hj1⟩
  ·show∃v e,∃q:Nat,(if whB t=true then _ else _)=some (v,e,(q:Int))/\_
   split
   ·obtain⟨h1,q,h2,h3,h4⟩:=VC (last:=last) hj1 hL
    grind [On,aL]
   have hr:=hL.r
   grind
theorem Y5(hc:c.length<1048576)(hp:EZ b c){k:Nat}{t:aH}(ht:AG b k t)(st:List aV){v:aa}{e q:Int}(h:mR ⟨b,t.To,false,st⟩ t=some (v,e,q))(he:e≠6):mR ⟨c,t.To,l,st⟩ t=some (v,e,q):=by
 obtain⟨⟨j,ej,hj1,hj2,hj3⟩,_,_⟩:=ht
 have hpl:=hp.1
 unfold mR at h⊢
 rw[ej]at h⊢
 split<;>rename_i h1
 ·grind
 rw[if_neg h1]at h
 split<;>rename_i h2
 ·grind
 rw[if_neg h2]at h
 have h:(if whB t=true then aZ (dc ⟨b,j,false,.fM⟩ t.V) fun r=>some (r.1,r.2.1,r.2.2.at_)else some (t.V,0,j))=some (v,e,q):=h
 show(if whB t=true then aZ (dc ⟨c,j,l,.fM⟩ t.V) fun r=>some (r.1,r.2.1,r.2.2.at_)else some (t.V,0,j))=some (v,e,q)
 grind [xr,Prod.mk.inj,On,aL,VB]
theorem Qw(p:PS)(d:Bool):mc (SN c l p) d=((mc p d).1,SN c l (mc p d).2):=by grind [mc,SN,eY,decide]
theorem Xm{pf:List aa->Option (List aa×Int)}(p:PS)(d:Bool){r:aa×Int×PS}(h:Ix pf p d=some r):Ix pf (SN c l p) d=some (r.1,r.2.1,SN c l r.2.2):=by
 obtain⟨b,at_,last,st⟩:=p
 unfold Ix at h⊢
 unfold SN
 cases he:pa st d with
 |true=>grind
 |false=>
  simp[he]at h⊢
  cases st with
  |nil=>cases h
  |cons v vs=>
   cases d with
   |false=>grind
   |true=>
    obtain⟨x,h1,h2⟩:=c6 h
    grind [aL]
theorem VW(hc:c.length<1048576)(hp:EZ b c){pf:List aa->Option (List aa×Int)}{k:Nat}{t:aH}(ht:AG b k t)(st:List aV){r:aa×Bool×Int×PS}(h:wv pf ⟨b,t.To,false,st⟩ t=some r)(he:r.2.2.1≠6):wv pf ⟨c,t.To,l,st⟩ t=some (r.1,r.2.1,r.2.2.1,SN c l r.2.2.2):=by
 have e0:(⟨c,t.To,l,st⟩)=SN c l ⟨b,t.To,false,st⟩:=rfl
 unfold wv at h⊢
 by_cases h0:(t.Kind==0)=true
 ·grind
 by_cases h1:(t.Kind==2||t.Kind==4)=true
 ·grind [Qw]
 by_cases h2:(t.Kind==3||t.Kind==5)=true
 ·simp[h0,h1,h2]at h⊢
  obtain⟨x,g1,g2⟩:=c6 h
  injection g2 with g2
  subst g2
  rw[e0,Xm _ _ g1]
  rfl
 ·simp[h0,h1,h2]at h⊢
  obtain⟨⟨v,e,q⟩,g1,g2⟩:=c6 h
  have he6:e≠6:=fun h6=>A_
  rw[Y5 hc hp ht st g1 he6,aL]
  cases hx:(e==0&&decide (64<=st.length))<;>simp only[hx]at g2⊢<;>injection g2 with g2<;>subst g2<;>rfl
def afZ(c:List UInt8)(l:Bool):PS⊕(aa×Int×Int)->PS⊕(aa×Int×Int)
 |.inl p=>.inl (SN c l p)
 |.inr o=>.inr o
theorem Tz{r:aa×Bool×Int×PS}{x:PS⊕(aa×Int×Int)}(h:IA r=some x):IA (r.1,r.2.1,r.2.2.1,SN c l r.2.2.2)=some (afZ c l x):=by
 obtain⟨v,s,e,b,at_,last,st⟩:=r
 unfold IA at h⊢
 unfold SN
 by_cases h1:(e !=0)=true
 ·simp only[h1]at h⊢;injection h with h;subst h;rfl
 by_cases h2:(!s)=true
 ·simp only[h1,h2]at h⊢;injection h with h;subst h;rfl
 simp[h1,h2]at h⊢
 by_cases h3:st.length<=64
 ·rw[bI h3]at h⊢
  cases st with
  |nil=>injection h with h;subst h;rfl
  |cons v vs=>
   dsimp at h⊢
   by_cases h4:(v.l_.length+1)*56<=room
   ·rw[bI h4]at h⊢
    injection h with h
    subst h
    rfl
   grind [LL]
 grind [LL]
def Wz:List aV->Nat->Prop
 |[],_=>True
 |w::ws,k=>w.l_.length<=k/\(∀x∈w.l_,Wd (66 -ws.length) x)/\Wz ws k
def Wz.mono:∀{st:List aV}{j k:Nat},j<=k->Wz st j->Wz st k
 |[],_,_,_,_=>trivial
 |_::_,_,_,h,⟨h1,h2,h3⟩=>⟨AT,h2,Wz.mono h h3⟩
def Qo(b:List UInt8)(o:aa×Int×Int):Prop:=(∃j:Nat,o.2.1=(j:Int)/\j<=b.length)/\Wd 67 o.1
def LW(e:Int):Qo b (zV,0,e):=⟨⟨0,rfl,Nat.zero_le _⟩,Wd.leaf rfl (fun h=>F_)⟩
def GoV(b:List UInt8)(last:Bool)(k:Nat):PS⊕(aa×Int×Int)->Prop
 |.inl p=>∃(j:Nat)(st:List aV),p=⟨b,(j:Int),last,st⟩/\k<j/\j<=b.length/\st.length<=64/\Wz st j
 |.inr o=>Qo b o
def Ns(hb:b.length<1048576){k q:Nat}(hk:k<q)(hq:q<=b.length){st:List aV}(h64:st.length<=64)(hw:Wz st k){v:aa}(hv:Wd (67 -st.length) v){e:Int}{s:Bool}(hs:s=(e==0)):∃x,IA (v,s,e,⟨b,(q:Int),last,st⟩)=some x/\GoV b last k x:=by
 have cg:room=140737488355328:=rfl
 subst hs
 by_cases he:e=0
 ·subst he
  unfold IA
  rw[bI h64]
  cases st with
  |nil=>exact⟨_,rfl,⟨q,rfl,hq⟩,hv⟩
  |cons w ws=>
   obtain⟨h1,h2,h3⟩:=hw
   refine⟨_,ay A_ rfl,q,_,rfl,hk,hq,h64,?_,?_,h3.mono AT⟩
   ·grind
   grind
 ·exact⟨_,mX he,LW _⟩
theorem M5{L:List aa}(h:L.length % 2=0):(dQ L (L.length/2)).flatten=L:=by
 have:∀k,(dQ L k).flatten=L.take (2*k):=by
  intro k
  induction k with
  |zero=>simp[dQ]
  |succ k ih=>grind [nX,List.flatten_append,jC]
 grind [List.take_of_length_le]
def Vi{L:List aa}{n:Nat}(h1:L.length<1048576)(h2:L.length % 2=0)(hw:∀x∈L,Wd n x):∃M e,mB L=some (M,e)/\(e=0->M.length<1048577/\∀x∈M,Wd n x):=by
 unfold mB
 rw[bI ⟨AT,h2⟩]
 cases qk (xB (dQ L (L.length/2)))with
 |true=>grind
 |false=>
  have hp:=Ax (dQ L (L.length/2))
  have hf:=hp.flatten
  grind [dQ,M5]
def aix(hb:b.length<1048576){k:Nat}(hk:k<=b.length){st:List aV}(h64:st.length<=64)(hw:Wz st k):∃x,Mc ⟨b,(k:Int),last,st⟩=some x/\GoV b last k x:=by
 by_cases hok:(iQ b last k).2=0
 ·have hM:=PN (last:=last) hb hk h64 hok
  have ht:=Be hk hok
  have hL:=ak0 b last k
  generalize(iQ b last k).1=t at hM ht hL
  rw[hM]
  obtain⟨⟨j,ej,hj1,hj2,hj3⟩,kd,_⟩:=ht
  unfold wv
  cases h0:(t.Kind==0)with
  |true=>exact⟨_,mX B_,LW _⟩
  |false=>
  have hk0:t.Kind≠0:=Li
  have hj3:=hj3 hk0
  rw[cond_false]
  cases h1:(t.Kind==2||t.Kind==4)with
  |true=>
   unfold mc
   dsimp only
   rw[ej]
   cases eY st with
   |true=>exact⟨_,mX (e:=11) B_,LW _⟩
   |false=>
    by_cases hD:64<=st.length
    ·rw[decide_eq_true hD];exact⟨_,mX (e:=15) B_,LW _⟩
    ·rw[decide_eq_false hD]
     exact⟨_,rfl,j,_,rfl,hj3,hj1,A_,Nat.zero_le _,fun x hx=>r_,hw.mono hj2⟩
  |false=>
  rw[cond_false]
  cases h2:(t.Kind==3||t.Kind==5)with
  |true=>
   rw[cond_true]
   unfold Ix
   dsimp only
   rw[ej]
   cases he:pa st (t.Kind==5)with
   |true=>exact⟨_,mX (e:=11) B_,LW _⟩
   |false=>
    rw[cond_false]
    cases st with
    |nil=>cases he
    |cons w ws=>
     obtain⟨w1,w2,w3⟩:=hw
     have hws:ws.length<64:=h64
     dsimp only
     cases hd:(t.Kind==5)with
     |false=>exact Ns hb hj3 hj1 AT w3 (by rw[show 67 -ws.length=(66 -ws.length)+1 by omega];exact⟨A_,w2,fun h=>F_⟩) rfl
     |true=>
      rw[cond_true]
      have hev:w.l_.length % 2=0:=by
       rw[hd]at he
       have he:((w.gb !=true)||(true&&!(w.gb&&((w.l_.length:Int).tmod 2==0))))=false:=he
       cases hdd:w.gb with
       |false=>grind
       |true=>grind
      obtain⟨M,e,p1,p2⟩:=Vi AT hev w2
      rw[p1,aL]
      by_cases he0:e=0
      ·subst he0
       exact Ns hb hj3 hj1 AT w3 (by rw[show 67 -ws.length=(66 -ws.length)+1 by omega];exact⟨(p2 rfl).1,(p2 rfl).2,fun h=>F_⟩) rfl
      ·have:(e !=0)=true:=by simpa using he0
       rw[this,cond_true,aL]
       exact⟨_,mX he0,LW _⟩
  |false=>
   obtain⟨v,e,q,s1,s2,s3,s4⟩:=sgl (last:=last) hb ⟨⟨j,ej,hj1,hj2,fun _=>hj3⟩,kd,L_⟩ hL hk0 st
   rw[s1,aL]
   dsimp only
   cases hx:(e==0&&decide (64<=st.length))with
   |true=>exact⟨_,mX (e:=15) B_,LW _⟩
   |false=>exact Ns hb s3 s4 h64 hw (by rw[show 67 -st.length=(66 -st.length)+1 by omega];exact Wd.leaf s2.1 s2.2) rfl
 ·exact⟨_,LH hb hk h64 hok,LW _⟩
def aiw(hc:c.length<1048576)(hp:EZ b c){k:Nat}(hk:k<=b.length){st:List aV}(h64:st.length<=64){x:PS⊕(aa×Int×Int)}(h:Mc ⟨b,(k:Int),false,st⟩=some x):(∃v to,x=.inr (v,to,6))\/Mc ⟨c,(k:Int),l,st⟩=some (afZ c l x):=by
 have hpl:=hp.1
 by_cases h6:(iQ b false k).2=6
 ·grind [LH]
 ·have e1:=uX (l:=l) hp hk h6
  by_cases hok:(iQ b false k).2=0
  ·have ht:=Be hk hok
   rw[PN AT hk h64 hok]at h
   obtain⟨r,r1,r2⟩:=c6 h
   grind [mX,PN,VW,aL,Tz]
  ·right
   rw[LH AT hk h64 hok]at h
   injection h with h
   subst h
   rw[LH hc AT h64 A_,e1]
   rfl
def P5{S T O:Type}{f:S->Option (S⊕O)}{g:T->Option (T⊕O)}(I:S->T->Prop)(μ:S->Nat)(J bad:O->Prop)
 (step:∀s t,I s t->∃x,f s=some x/\match x with
   |.inl s'=>(∃t',g t=some (.inl t')/\I s' t')/\μ s'<μ s
   |.inr o=>J o/\(bad o\/g t=some (.inr o))):∀(n:Nat)(s:S)(t:T),I s t->μ s<n->∃o,cD f n s=some o/\J o/\(bad o\/cD g n t=some o)
 |0,_,_,_,h=>absurd h (Nat.not_lt_zero _)
 |n+1,s,t,hi,hn=>by
  obtain⟨x,hx,h⟩:=step s t hi
  cases x with
  |inl s'=>
   obtain⟨⟨t',ht,hi'⟩,hm⟩:=h
   obtain⟨o,h1,h2,h3⟩:=P5 I μ J bad step n s' t' hi' AT
   grind [cD,id]
  |inr o=>grind [cD,id]
def Zv(hc:c.length<1048576)(hp:EZ b c){k:Nat}(hk:k<=b.length):∃o,ll b (k:Int) false=some o/\Qo b o/\(o.2.2=6\/ll c (k:Int) l=some o):=by
 have hpl:=hp.1
 have:=P5 (f:=Mc) (g:=Mc) (fun s t=>∃(j:Nat)(st:List aV),s=⟨b,j,false,st⟩/\t=⟨c,j,l,st⟩/\j<=b.length/\st.length<=64/\Wz st j) (fun s=>b.length -s.at_.toNat) (Qo b) (fun o=>o.2.2=6)
  (by
    rintro s t ⟨j,st,rfl,rfl,hj,h64,hw⟩
    obtain⟨x,h1,h2⟩:=aix AT hj h64 hw
    refine⟨x,h1,?_⟩
    have h3:=aiw (l:=l) hc hp hj h64 h1
    cases x with
    |inl p=>
     obtain⟨j',st',rfl,g1,g2,g3,g4⟩:=h2
     rcases h3 with⟨_,_,h3⟩|h3
     ·cases h3
     ·exact⟨⟨_,h3,j',st',rfl,rfl,g2,g3,g4⟩,A_⟩
    |inr o=>
     refine⟨h2,?_⟩
     rcases h3 with⟨v,to,h3⟩|h3
     ·grind
     ·exact .inr h3) 18446744073709551616 ⟨b,k,false,[]⟩ ⟨c,k,l,[]⟩ ⟨k,[],rfl,rfl,hk,Nat.zero_le _,trivial⟩ A_
 exact this
end
namespace Fq
abbrev z0:aa:=aa.mk 0 0 (bg.mk []) ([]:List aa)
def IB(v:aa)(key:bg)(h:v.L.length<1048578):∃r,gY v key=some r/\-1<=r/\r<v.L.length:=by
 by_cases hk:(v.Kind !=7)=true
 ·exact⟨-1,aM hk rfl,AT,AT⟩
 ·obtain⟨o,h1,h2⟩:∃o:Unit⊕Int,iter (fun(i2:Int)=>
   if decide (i2<(v.L.length:Int))then
    a8 (0<=i2/\i2<v.L.length)<|
    a8 ((((ix v.L i2).Kind)==5)=true->0<=i2/\i2<v.L.length)<|
    if(((ix v.L i2).Kind)==5)&&(((ix v.L i2).S).b==key.b)then
     some (.inr (.inr i2))
    else
     some (.inl (aC (i2+2)))
   else
    some (.inr (.inl ()))) 0=some o/\(∀r,o=.inr r->0<=r/\r<v.L.length):=by
   refine eh (fun i=>0<=i) (fun i=>((v.L.length:Int) -i).toNat) _ (Int.le_refl 0) AT fun i hi=>?_
   by_cases hl:i<(v.L.length:Int)
   ·rw[if_pos (by simpa using hl),bI ⟨hi,hl⟩,bI (fun _=>⟨hi,hl⟩)]
    split
    ·exact⟨_,rfl,fun r e=>by injection e with e;subst e;exact⟨hi,hl⟩⟩
    ·refine⟨_,rfl,?_⟩
     show 0<=aC (i+2)/\((v.L.length:Int) -aC (i+2)).toNat<((v.L.length:Int) -i).toNat
     rw[ao AT AT]
     exact⟨AT,AT⟩
   ·rw[if_neg (by simpa using hl)]
    exact⟨_,rfl,fun r e=>f_⟩
  unfold gY
  rw[if_neg hk,h1]
  cases o with
  |inl u=>exact⟨-1,rfl,AT,AT⟩
  |inr r=>exact⟨r,rfl,by have:=h2 r rfl;omega,by have:=h2 r rfl;omega⟩
def got(v:aa)(key:bg)(hL:v.L.length<1048578):∃g:aa×Bool,j7 v key=some g/\(g.1=z0\/g.1∈v.L):=by
 obtain⟨i,h1,h2,h3⟩:=IB v key hL
 by_cases h0:i<0
 ·exact⟨_,ah h1 (aM Li rfl),.inl rfl⟩
 have e:aC (i+1)=i+1:=ao AT AT
 by_cases h4:i+1=(v.L.length:Int)
 ·exact⟨_,ah h1 (an Li (aM (by rw[e];simpa using h4) rfl)),.inl rfl⟩
 ·refine⟨_,ah h1 (an Li (an (by rw[e];simpa using h4) (ay (by rw[e];omega) rfl))),.inr ?_⟩
  obtain⟨k,hk⟩:∃k:Nat,i+1=k:=⟨(i+1).toNat,AT⟩
  rw[e,hk,gh AT]
  exact List.getElem_mem _
def XA(v:aa)(key:bg)(hL:v.L.length<1048577):∃i:Int,mh v key=some (decide (i>=0)):=by
 obtain⟨g,h1,_⟩:=got v key AT
 obtain⟨x,b⟩:=g
 cases b with
 |true=>exact⟨0,ah h1 rfl⟩
 |false=>exact⟨-1,ah h1 rfl⟩
def Rp(v:aa)(hL:v.L.length<1048577):∃p:Bool×Bool,lI v=some p:=by
 obtain⟨⟨g,i⟩,h1,_⟩:=got v (bg.mk [70,105,108,116,101,114]) AT
 refine⟨_,ah h1 (eJ (a:=if((g.Kind==6)&&((g.L.length:Int)==1))=true then ix g.L 0 else g) ?_ rfl)⟩
 by_cases hc:((g.Kind==6)&&((g.L.length:Int)==1))=true
 ·exact aM hc (ay (by have h2:=eq_of_beq (Bool.and_eq_true_iff.1 hc).2;show 0<=(0:Int)/\(0:Int)<(g.L.length:Int);omega) (by rw[if_pos hc]))
 ·exact an hc (by rw[if_neg hc])
def Ce(v:aa)(key:bg)(hW:Wd 67 v):∃w,e9 v key=some w/\Wd 67 w:=by
 have cg:room=140737488355328:=rfl
 have hL:=hW.1
 obtain⟨i,h1,h2,h3⟩:=IB v key AT
 by_cases h0:i<0
 ·exact⟨v,ah h1 (aM Li rfl),hW⟩
 ·refine⟨_,ah h1 (an Li (ay ⟨AT,AT,AT⟩ rfl)),?_,fun x hx=>?_,hW.2.2⟩
  ·simp only[List.length_append,List.length_take,List.length_drop];omega
  ·rcases List.mem_append.1 hx with hx|hx
   ·exact hW.2.1 x (List.mem_of_mem_take hx)
   ·exact hW.2.1 x (List.mem_of_mem_drop hx)
def af8(v:aa)(hW:Wd 67 v):∃w1 w2,e9 v (bg.mk [76,101,110,103,116,104])=some w1/\e9 w1 (bg.mk [70,105,108,116,101,114])=some w2/\Wd 67 w2:=by
 obtain⟨w1,a1,aW⟩:=Ce v (bg.mk [76,101,110,103,116,104]) hW
 obtain⟨w2,b1,bW⟩:=Ce w1 (bg.mk [70,105,108,116,101,114]) aW
 exact⟨w1,w2,a1,b1,bW⟩
end Fq
namespace Fq
abbrev R(b:List UInt8)(at_:Int)(last:Bool)(e:Int):ag:=ag.mk (cu.mk b at_ last) e
abbrev o0:aA:=aA.mk z0 false (bg.mk [])
def af2(last:Bool):Int:=if last then 10 else 6
section
variable{r:ag}(h:r.e_≠0)
include h
theorem aaa(x y:Int):cc r x y=some (0,r):=by unfold cc;grind
theorem Te(w:bg):aD r w=some r:=by unfold aD;grind
theorem Td:cz r=some (z0,r):=by unfold cz;grind
theorem Tc:bu r=some (false,r):=by unfold bu;grind
theorem Cd(n:Int):bd r n=some ([],r):=by unfold bd;grind
end
theorem pd(b:List UInt8)(at_:Int)(last:Bool)(e:Int):ax (R b at_ last 0) e=some (R b at_ last e):=D_
theorem uY(b:List UInt8)(at_:Int)(last:Bool):dD (cu.mk b at_ last)=some (af2 last):=by grind [dD,af2,last]
section
variable{b:List UInt8}{last:Bool}
def Sx{j:Nat}(hb:b.length<1048576)(hj:j<=b.length)(e:Int):∃k:Nat,k<=b.length/\
 a8 ((decide ((j:Int)<(b.length:Int)))=true->0<=(j:Int)/\(j:Int)<b.length) (if(decide ((j:Int)<(b.length:Int)))&&(((ix b (j:Int)).toNat:Int)==13)then some (aC ((j:Int)+1))else some (j:Int))=some (k:Int)/\
 a8 ((decide ((j:Int)<(b.length:Int)))=true->0<=(j:Int)/\(j:Int)<b.length) (if(decide ((j:Int)<(b.length:Int)))&&(((ix b (j:Int)).toNat:Int)==13)then some (R b (aC ((j:Int)+1)) last e)else some (R b (j:Int) last e))=some (R b (k:Int) last e):=by
 have w:aC (j+1)=((j+1:Nat)):=E_
 rw[w]
 have hn:(decide (j<(b.length:Int)))=true->0<=(j:Int)/\(j:Int)<b.length:=fun h=>⟨BY,of_decide_eq_true h⟩
 by_cases hc:((decide ((j:Int)<b.length))&&(((ix b j).toNat:Int)==13))=true
 ·have hlt:=of_decide_eq_true (Bool.and_eq_true_iff.1 hc).1
  exact⟨j+1,AT,ay hn (aM hc rfl),ay hn (aM hc rfl)⟩
 ·exact⟨j,hj,ay hn (an hc rfl),ay hn (an hc rfl)⟩
theorem zk:¬((0:Int)!=0)=true:=BY
abbrev A7(v g:aa):Bool:=(((v.Kind !=7)||(g.Kind !=2))||(decide (g.N<0)))||(decide (g.N>16777216))
def eN(q:Int×Int×Int)(x y:Int):Int:=if(q.2.2==0)&&((decide (q.1<x))||(decide (q.1>y)))then 18 else q.2.2
def Af{at_:Int}{q:Int×Int×Int}(h:jb b at_ last=some q)(x y:Int):cc (R b at_ last 0) x y=some (q.1,R b q.2.1 last (eN q x y)):=by
 refine an zk (ah h (eJ ?_ rfl))
 grind [eN]
theorem Wd0:Wd 67 z0:=Wd.leaf rfl (fun h=>F_)
end
end Fq
namespace Fq
section
variable{b c:List UInt8}{l:Bool}
def Tw(b c:List UInt8)(l:Bool)(r s:ag):Prop:=∃(j:Nat)(e:Int),r=R b (j:Int) false e/\j<=b.length/\(e≠6->∃i:Nat,s=R c (i:Int) l e/\i<=c.length/\(e=0->i=j))
def Tw.Y7{j:Nat}(hj:j<=b.length)(s:ag):Tw b c l (R b (j:Int) false 6) s:=⟨j,6,rfl,hj,fun h=>absurd rfl h⟩
def Tw.both{j:Nat}{e:Int}(hp:EZ b c)(hj:j<=b.length):Tw b c l (R b (j:Int) false e) (R c (j:Int) l e):=⟨j,e,rfl,hj,fun _=>⟨j,rfl,by have:=hp.1;omega,fun _=>rfl⟩⟩
def qD{α:Type}(b c:List UInt8)(l:Bool)(r s:ag)(F:ag->Option (α×ag)):Prop:=∃x r' s',F r=some (x,r')/\Tw b c l r' s'/\(r'.e_≠6->r.e_≠6/\F s=some (x,s'))
def qD.dead{α:Type}{r s:ag}(h:Tw b c l r s)(he:r.e_≠0){F:ag->Option (α×ag)}(x:α)(hF:∀r:ag,r.e_≠0->F r=some (x,r)):qD b c l r s F:=by
 refine⟨x,r,s,hF r he,h,fun h6=>⟨h6,hF s ?_⟩⟩
 obtain⟨j,e,rfl,hj,h2⟩:=h
 obtain⟨i,rfl,_⟩:=h2 h6
 exact he
theorem Tw.live{r s:ag}(h:Tw b c l r s)(he:r.e_=0):∃j:Nat,j<=b.length/\r=R b (j:Int) false 0/\s=R c (j:Int) l 0:=by
 obtain⟨j,e,rfl,hj,h2⟩:=h
 obtain rfl:e=0:=he
 obtain⟨i,rfl,_,h3⟩:=h2 BY
 obtain rfl:=h3 rfl
 exact⟨i,hj,rfl,rfl⟩
theorem qD.by{α:Type}{r s:ag}(h:Tw b c l r s){F:ag->Option (α×ag)}(x:α)(hF:∀r:ag,r.e_≠0->F r=some (x,r))(T5:∀j:Nat,j<=b.length->qD b c l (R b (j:Int) false 0) (R c (j:Int) l 0) F):qD b c l r s F:=by
 by_cases he:r.e_=0
 ·obtain⟨j,hj,rfl,rfl⟩:=h.live he
  exact T5 j hj
 ·exact qD.dead h he x hF
def n06{b:List UInt8}{j:Int}{l:Bool}:(R b j l 0).e_≠6:=BY
variable(hc:c.length<1048576)(hp:EZ b c)
def Ag{last:Bool}{k:Nat}(hk:k<=b.length):∃j:Nat,(iQ b last k).1.To=(j:Int)/\j<=b.length:=by
 by_cases h:(iQ b last k).2=0
 ·obtain⟨⟨j,h1,h2,_⟩,_,_⟩:=Be hk h
  exact⟨j,h1,h2⟩
 ·have hs:=Ow k hk
  refine⟨F5 b k,?_,hs.2⟩
  unfold iQ at h⊢
  cases hx:b[F5 b k]? with
  |none=>rfl
  |some x=>
   have tk:∀f t q,(tok f t q).2≠0->(tok f t q).1.To=f:=fun f t q h=>by
    unfold tok at h⊢
    split
    ·rfl
    ·rename_i hn;rw[if_neg hn]at h;exact absurd rfl h
   have sr:∀f q,(Ay f q).2≠0->(Ay f q).1.To=f:=fun f q h=>by
    cases q with
    |inl q=>exact absurd rfl h
    |inr e=>rfl
   grind [MH,U3]
include hc hp
theorem Hn{r s:ag}(h:Tw b c l r s)(x y:Int):qD b c l r s (fun r=>cc r x y):=by
 have hpl:=hp.1
 refine qD.by h 0 (fun r hr=>aaa hr x y) fun j hj=>?_
 have h1:=Af (I3 (last:=false) AT j hj) x y
 by_cases h6:(iQ b false j).2=6
 ·have:yM b false j=(0,0,6):=by unfold yM;rw[h6];rfl
  rw[this]at h1
  exact⟨_,_,R c 0 l 0,h1,Tw.Y7 (Nat.zero_le _) _,fun h=>absurd rfl h⟩
 ·have e1:yM c l j=yM b false j:=by unfold yM;rw[uX hp hj h6]
  have h2:=Af (I3 (last:=l) hc j AT) x y
  rw[e1]at h2
  obtain⟨i,i1,i2⟩:∃i:Nat,(yM b false j).2.1=i/\i<=b.length:=by
   obtain⟨i,i1,i2⟩:=Ag (last:=false) hj
   unfold yM
   split
   ·exact⟨0,rfl,Nat.zero_le _⟩
   ·split
    ·exact⟨0,rfl,Nat.zero_le _⟩
    ·split
     ·exact⟨0,rfl,Nat.zero_le _⟩
     grind [i1]
  rw[i1]at h1 h2
  exact⟨_,_,_,h1,Tw.both hp i2,fun _=>⟨n06,h2⟩⟩
def W1(F:ag->Option ag):ag->Option (Unit×ag):=fun r=>aZ (F r) fun r=>some ((),r)
theorem JY{r s:ag}(h:Tw b c l r s)(w:List UInt8):qD b c l r s (W1 fun r=>aD r ⟨w⟩):=by
 have hpl:=hp.1
 refine qD.by h () (fun r hr=>ah (Te hr ⟨w⟩) rfl) fun j hj=>?_
 have wd:∀{b:List UInt8}{last:Bool},b.length<1048576->j<=b.length->W1 (fun r=>aD r ⟨w⟩) (R b j last 0)=some ((),R b (ns b last j w).1 last (ns b last j w).2):=fun hb hj=>by
  refine ah ?_ rfl
  exact an zk (ah (UF hb j hj w) rfl)
 have h1:=wd (last:=false) AT hj
 by_cases h6:(iQ b false j).2=6
 ·have:ns b false j w=(0,6):=by unfold ns;rw[h6];rfl
  rw[this]at h1
  exact⟨_,_,R c 0 l 0,h1,Tw.Y7 (Nat.zero_le _) _,fun h=>absurd rfl h⟩
 ·have e1:ns c l j w=ns b false j w:=by unfold ns;rw[uX hp hj h6]
  have h2:=wd (last:=l) hc AT
  rw[e1]at h2
  obtain⟨i,i1,i2⟩:∃i:Nat,(ns b false j w).1=i/\i<=b.length:=by
   obtain⟨i,i1,i2⟩:=Ag (last:=false) hj
   unfold ns
   split
   ·exact⟨0,rfl,Nat.zero_le _⟩
   ·split
    ·exact⟨0,rfl,Nat.zero_le _⟩
    ·split
     ·exact⟨0,rfl,Nat.zero_le _⟩
     grind [i1]
  rw[i1]at h1 h2
  exact⟨_,_,_,h1,Tw.both hp i2,fun _=>⟨n06,h2⟩⟩
theorem Wm{r s:ag}(h:Tw b c l r s):qD b c l r s cz/\∀v r',cz r=some (v,r')->Wd 67 v:=by
 by_cases he:r.e_=0
 ·obtain⟨j,hj,rfl,rfl⟩:=h.live he
  obtain⟨⟨v,to,e⟩,h1,h2,h3⟩:=Zv hc hp hj
  obtain⟨⟨i,i1,i2⟩,h2⟩:=h2
  subst i1
  have g1:cz (R b j false 0)=some (v,R b i false e):=by exact an zk (ah h1 rfl)
  refine⟨?_,fun v' r' hv=>?_⟩
  ·by_cases h6:e=6
   ·subst h6
    exact⟨_,_,R c 0 l 0,g1,Tw.Y7 i2 _,fun h=>absurd rfl h⟩
   ·have g2:cz (R c j l 0)=some (v,R c i l e):=by
     exact an zk (ah (h3.resolve_left h6) rfl)
    exact⟨_,_,_,g1,Tw.both hp i2,fun _=>⟨n06,g2⟩⟩
  grind [hv]
 ·refine⟨qD.dead h he _ fun r hr=>Td hr,fun v' r' hv=>?_⟩
  grind [Td,hv,Wd0]
theorem OE{r s:ag}(h:Tw b c l r s):qD b c l r s bu/\∀x r',bu r=some (x,r')->x=true->r'.e_=0:=by
 have hpl:=hp.1
 have go:∀{b:List UInt8}{last:Bool}{j:Nat},b.length<1048576->j<=b.length->∃x e,bu (R b j last 0)=some (x,R b (iQ b last j).1.To last e)/\((iQ b last j).2≠0->e=(iQ b last j).2)/\(x=true->e=0)/\∀c l,c.length<1048576->j<=c.length->iQ c l j=iQ b last j->bu (R c j l 0)=some (x,R c (iQ b last j).1.To l e):=by
  intro b last j hb hj
  have key:∃x e,((iQ b last j).2≠0->e=(iQ b last j).2)/\(x=true->e=0)/\∀c l,c.length<1048576->j<=c.length->iQ c l j=iQ b last j->bu (R c j l 0)=some (x,R c (iQ b last j).1.To l e):=by
   generalize iQ b last j=q
   obtain⟨t,e⟩:=q
   have st:∀x e2,(∀c l,(jn (
    if e !=0 then
     some (R c t.To l e)
    else
     if t.Kind==0 then
      aZ (ax (R c t.To l e) 10) fun r4=>
      some r4
     else
      if(t.Kind !=6)||((!(t.S.b==(bg.mk [101,110,100,111,98,106]).b))&&(!(t.S.b==(bg.mk [115,116,114,101,97,109]).b)))then
       aZ (ax (R c t.To l e) 18) fun r5=>
       some r5
      else
       some (R c t.To l e)) fun o3=>
    some ((o3.e_==0)&&(t.S.b==(bg.mk [115,116,114,101,97,109]).b),o3))=some (x,R c t.To l e2))->∀c l,c.length<1048576->j<=c.length->iQ c l j=(t,e)->bu (R c j l 0)=some (x,R c t.To l e2):=fun x e2 h c l hc hj hn=>by
    exact an zk (ah (A5 hc j hj) A_)
   by_cases he:e=0
   ·subst he
    by_cases h0:(t.Kind==0)=true
    ·exact⟨false,10,fun h=>absurd rfl h,(fun h=>A_),st _ _ fun c l=>eJ (an zk (aM h0 (ah (pd _ _ _ _) rfl))) rfl⟩
    ·by_cases hw:((t.Kind !=6)||((!(t.S.b==(bg.mk [101,110,100,111,98,106]).b))&&(!(t.S.b==(bg.mk [115,116,114,101,97,109]).b))))=true
     ·exact⟨false,18,fun h=>absurd rfl h,(fun h=>A_),st _ _ fun c l=>eJ (an zk (an h0 (aM hw (ah (pd _ _ _ _) rfl)))) rfl⟩
     ·exact⟨_,0,fun h=>absurd rfl h,fun _=>rfl,st _ _ fun c l=>eJ (an zk (an h0 (an hw rfl))) rfl⟩
   ·have hn:(e !=0)=true:=A_
    refine⟨false,e,fun _=>rfl,(fun h=>A_),st _ _ fun c l=>eJ (aM hn rfl) ?_⟩
    rw[show(e==0)=false by simpa using he];rfl
  obtain⟨x,e,h1,h2,h3⟩:=key
  exact⟨x,e,h3 b last hb hj rfl,h1,h2,h3⟩
 refine⟨qD.by h false (fun r hr=>Tc hr) fun j hj=>?_,fun x r' hx hx2=>?_⟩
 ·obtain⟨x,e,h1,h2,_,h3⟩:=go AT hj
  obtain⟨i,i1,i2⟩:=Ag hj
  by_cases h6:(iQ b false j).2=6
  ·rw[h2 (by rw[h6];decide),h6,i1]at h1
   exact⟨_,_,R c 0 l 0,h1,Tw.Y7 i2 _,fun h=>absurd rfl h⟩
  ·have h4:=h3 c l hc AT (uX hp hj h6)
   rw[i1]at h1 h4
   exact⟨_,_,_,h1,Tw.both hp i2,fun _=>⟨n06,h4⟩⟩
 ·by_cases he:r.e_=0
  ·obtain⟨j,hj,rfl,rfl⟩:=h.live he
   obtain⟨x',e,h1,_,h2,_⟩:=go AT hj
   rw[h1]at hx
   injection hx with hx
   injection hx with hx1 hx3
   subst hx1 hx3
   exact h2 hx2
  grind [Tc]
omit hp in
theorem pq{j:Nat}{last:Bool}(hj:j<=c.length){e:Int}(he:e≠0):∃k:Nat,k<=c.length/\bG (R c (j:Int) last e)=some (R c (k:Int) last e):=by
 obtain⟨k,hk,_,h2⟩:=Sx (last:=last) hc hj e
 refine⟨k,hk,?_⟩
 unfold bG
 exact eJ h2 (aM G_ rfl)
theorem Yc{r s:ag}(h:Tw b c l r s):qD b c l r s (W1 bG):=by
 have hpl:=hp.1
 by_cases he:r.e_=0
 ·obtain⟨j,hj,rfl,rfl⟩:=h.live he
  have hix:∀k:Nat,k<b.length->ix c (k:Int)=ix b (k:Int):=fun k hk=>by
   have:=hp.2 _ _ (List.getElem?_eq_getElem hk)
   grind [dy,List.getElem?_eq_getElem]
  have pl:∃k:Nat,k<=b.length/\∀(c:List UInt8)(l:Bool),b.length<=c.length->c.length<1048576->(∀k:Nat,k<b.length->ix c (k:Int)=ix b (k:Int))->k<b.length\/c=b->
   a8 ((decide ((j:Int)<(c.length:Int)))=true->0<=(j:Int)/\(j:Int)<c.length) (if(decide ((j:Int)<(c.length:Int)))&&(((ix c (j:Int)).toNat:Int)==13)then some (R c (aC ((j:Int)+1)) l 0)else some (R c (j:Int) l 0))=some (R c (k:Int) l 0):=by
   have w:aC ((j:Int)+1)=((j+1:Nat):Int):=E_
   by_cases hjl:j<b.length
   ·by_cases h13:(((ix b (j:Int)).toNat:Int)==13)=true
    ·refine⟨j+1,AT,fun c l h1 h2 h3 _=>ay (fun _=>AT) (aM (by grind [decide_eq_true]) (by rw[w]))⟩
    ·refine⟨j,AT,fun c l h1 h2 h3 _=>ay (fun _=>AT) (an (by rw[h3 j hjl];simp[h13]) rfl)⟩
   ·refine⟨j,hj,fun c l h1 h2 h3 h4=>?_⟩
    rcases h4 with h4|rfl
    ·omega
    ·exact ay (fun h=>⟨AT,of_decide_eq_true h⟩) (an (by grind [decide_eq_false]) rfl)
  obtain⟨k,hk,agC⟩:=pl
  have pb:=agC b false (Nat.le_refl _) AT (fun _ _=>rfl) (.inr rfl)
  by_cases hkl:k<b.length
  ·have pc:=agC c l hpl hc hix (.inl hkl)
   have fin:∀(c:List UInt8)(l:Bool),b.length<=c.length->c.length<1048576->(∀k:Nat,k<b.length->ix c (k:Int)=ix b (k:Int))->a8 ((decide ((j:Int)<(c.length:Int)))=true->0<=(j:Int)/\(j:Int)<c.length) (if(decide ((j:Int)<(c.length:Int)))&&(((ix c (j:Int)).toNat:Int)==13)then some (R c (aC ((j:Int)+1)) l 0)else some (R c (j:Int) l 0))=some (R c (k:Int) l 0)->
    W1 bG (R c (j:Int) l 0)=some ((),if(((ix b (k:Int)).toNat:Int)!=10)=true then R c (k:Int) l 18 else R c ((k+1:Nat):Int) l 0):=fun c l h1 h2 h3 h4=>by
    have w:aC ((k:Int)+1)=((k+1:Nat):Int):=E_
    refine ah ?_ rfl
    unfold bG
    refine eJ h4 (an zk (an (by grind [decide]) (ay A_ ?_)))
    rw[h3 k hkl]
    split
    ·exact ah (pd _ _ _ _) rfl
    ·rw[w]
   have f1:=fin b false (Nat.le_refl _) AT (fun _ _=>rfl) pb
   have f2:=fin c l hpl hc hix pc
   refine⟨_,_,_,f1,?_,fun _=>⟨n06,f2⟩⟩
   split
   ·exact Tw.both hp hk
   ·exact Tw.both hp hkl
  ·refine⟨(),R b (k:Int) false 6,R c 0 l 0,ah ?_ rfl,Tw.Y7 hk _,fun h=>absurd rfl h⟩
   unfold bG
   exact eJ pb (an zk (aM C_ (ah (uY b _ false) (ah (pd _ _ _ _) rfl))))
 ·obtain⟨j,e,rfl,hj,h2⟩:=h
  have he:e≠0:=he
  obtain⟨k,hk,hl⟩:=pq (c:=b) (last:=false) AT hj he
  by_cases h6:e=6
  ·subst h6
   exact⟨(),_,R c 0 l 0,ah hl rfl,Tw.Y7 hk _,fun h=>absurd rfl h⟩
  ·obtain⟨i,rfl,hi,_⟩:=h2 h6
   obtain⟨k2,hk2,hl2⟩:=pq (last:=l) hc hi he
   exact⟨(),_,_,ah hl rfl,⟨k,e,rfl,hk,fun _=>⟨k2,rfl,hk2,fun h=>absurd h he⟩⟩,fun _=>⟨h6,ah hl2 rfl⟩⟩
theorem SF{r s:ag}(h:Tw b c l r s)(n:Int)(hn:r.e_=0->0<=n/\n<=16777216):qD b c l r s (fun r=>bd r n):=by
 have hpl:=hp.1
 by_cases he:r.e_=0
 ·obtain⟨j,hj,rfl,rfl⟩:=h.live he
  obtain⟨m,rfl⟩:∃m:Nat,n=m:=⟨n.toNat,AT⟩
  have w3:∀c:List UInt8,c.length<1048576->aC (c.length -j)=c.length -j:=fun c hc=>ao AT AT
  by_cases hlt:b.length -j<m
  ·refine⟨[],R b j false 6,R c 0 l 0,?_,Tw.Y7 hj _,fun h=>absurd rfl h⟩
   exact an zk (aM A_ (ah (uY b _ false) (ah (pd _ _ _ _) rfl)))
  ·have w4:aC (j+m)=((j+m:Nat):Int):=E_
   have w5:aC (((j+m:Nat):Int) -m)=j:=E_
   have hby:∀c(l:Bool),c.length<1048576->j+m<=c.length->bd (R c j l 0) m=some (part c j ((j+m:Nat):Int),R c ((j+m:Nat):Int) l 0):=fun c l hc hm=>by
    refine an zk (an A_ ?_)
    show a8 (0<=aC ((aC (j+m)) -m)/\aC ((aC (j+m)) -m)<=aC (j+m)/\aC (j+m)<=c.length) (some (part c (aC ((aC (j+m)) -m)) (aC (j+m)),R c (aC (j+m)) l 0))=_
    rw[w4,w5]
    exact ay AT rfl
   have h1:=hby b false AT AT
   have h2:=hby c l hc AT
   rw[hp.part AT]at h2
   exact⟨_,_,_,h1,Tw.both hp AT,fun _=>⟨n06,h2⟩⟩
 ·exact qD.dead h he [] fun r hr=>Cd hr n
omit hc hp in
theorem Pk{r s:ag}(h:Tw b c l r s){e:Int}(h6:e≠6):qD b c l r s (W1 fun r=>ax r e):=by
 obtain⟨j,e1,rfl,hj,h2⟩:=h
 by_cases h0:e1=0
 ·subst h0
  obtain⟨i,rfl,hi,h3⟩:=h2 B_
  obtain rfl:=h3 rfl
  exact⟨(),_,_,ah (pd _ _ _ _) rfl,⟨i,e,rfl,hj,fun _=>⟨i,rfl,hi,fun _=>rfl⟩⟩,fun _=>⟨n06,ah (pd _ _ _ _) rfl⟩⟩
 ·refine qD.dead ⟨j,e1,rfl,hj,h2⟩ h0 () fun r hr=>ah (a:=r) ?_ rfl
  unfold ax
  exact an (by simpa using hr) rfl
def Xg(p:Bool)(x:List UInt8)(r:ag):Option (List UInt8×ag):=
 if p&&(r.e_==0)then
  aZ (gM x 16777216) fun r18=>
  jn (
   if r18.2.2 !=0 then
    aZ (ax r 18) fun r23=>
    some r23
   else
    some r) fun(o22:ag)=>
  some (r18.1,o22)
  else
   some (x,r)
omit hc hp in
theorem W8{r s:ag}(h:Tw b c l r s)(p:Bool){x:List UInt8}(hx:r.e_=0->x.length<1048576):qD b c l r s (Xg p x):=by
 cases p with
 |false=>refine⟨x,r,s,an BY rfl,h,fun h6=>⟨h6,an BY rfl⟩⟩
 |true=>
  by_cases he:r.e_=0
  ·obtain⟨j,hj,rfl,rfl⟩:=h.live he
   have hu:gM x 16777216=some (s9 x 16777216):=by unfold gM;exact ay ⟨by have:=hx rfl;omega,B_,B_⟩ rfl
   generalize s9 x 16777216=u at hu
   by_cases h0:(u.2.2 !=0)=true
   ·obtain⟨_,r',s',h1,h2,h3⟩:=Pk h (e:=18) B_
    obtain⟨r1,h4,h5⟩:=c6 h1
    injection h5 with h5
    injection h5 with _ h5
    subst h5
    refine⟨u.1,r1,s',aM rfl (ah hu (eJ (aM h0 (ah h4 rfl)) rfl)),h2,fun h6=>?_⟩
    obtain⟨g1,g2⟩:=h3 h6
    obtain⟨s1,g4,g5⟩:=c6 g2
    injection g5 with g5
    injection g5 with _ g5
    subst g5
    exact⟨g1,aM rfl (ah hu (eJ (aM h0 (ah g4 rfl)) rfl))⟩
   ·refine⟨u.1,_,_,aM rfl (ah hu (eJ (an h0 rfl) rfl)),h,fun h6=>⟨h6,aM rfl (ah hu (eJ (an h0 rfl) rfl))⟩⟩
  ·refine qD.dead h he x fun r hr=>an (by simp[hr]) rfl
omit hc hp in
theorem qD.seq{α β:Type}{r s:ag}{F:ag->Option (α×ag)}{K:α->ag->Option (β×ag)}(h:qD b c l r s F)(hk:∀x r' s',F r=some (x,r')->Tw b c l r' s'->qD b c l r' s' (K x)):qD b c l r s (fun r=>aZ (F r) fun q=>K q.1 q.2):=by
 obtain⟨x,r',s',h1,h2,h3⟩:=h
 obtain⟨y,r2,s2,g1,g2,g3⟩:=hk x r' s' h1 h2
 refine⟨y,r2,s2,ah h1 g1,g2,fun h6=>?_⟩
 obtain⟨k1,k2⟩:=g3 h6
 obtain⟨k3,k4⟩:=h3 k1
 exact⟨k3,ah k4 k2⟩
omit hc hp in
theorem qD.pure{α:Type}{r s:ag}(h:Tw b c l r s)(x:α):qD b c l r s (fun r=>some (x,r)):=⟨x,r,s,rfl,h,fun h6=>⟨h6,rfl⟩⟩
omit hc hp in
theorem qD.eq{α:Type}{r s:ag}{F G:ag->Option (α×ag)}(h:qD b c l r s F)(e:∀r,F r=G r):qD b c l r s G:=by
 have:F=G:=funext e
 rw[<-this];exact h
omit hc hp in
theorem HI{v:aa}(hW:Wd 67 v):∃(g:aa)(i:Int)(p:Bool×Bool)(w2:aa),Wd 67 w2/\∀r,(aZ (W1 (fun r=>if((A7 v g||decide (i>=0))||!p.2)=true then ax r 18 else some r) r) fun q1=>aZ (W1 bG q1.2) fun q2=>aZ (bd q2.2 g.N) fun q3=>aZ (W1 (fun r=>aD r (bg.mk [101,110,100,115,116,114,101,97,109])) q3.2) fun q4=>aZ (W1 (fun r=>aD r (bg.mk [101,110,100,111,98,106])) q4.2) fun q5=>aZ (Xg p.1 q3.1 q5.2) fun q6=>some ((⟨w2,true,⟨q6.1⟩⟩:aA),q6.2))=bt r v:=by
 obtain⟨⟨g,gi⟩,g1,_⟩:=got v (bg.mk [76,101,110,103,116,104]) (by have:=hW.1;omega)
 obtain⟨p,p1⟩:=Rp v hW.1
 obtain⟨i,i1⟩:=XA v (bg.mk [68,101,99,111,100,101,80,97,114,109,115]) hW.1
 obtain⟨w1,w2,a1,a2,hW2⟩:=af8 v hW
 have hA:aZ (kc (!A7 v g) false (mh v (bg.mk [68,101,99,111,100,101,80,97,114,109,115]))) (fun r8=>some ((A7 v g||r8)||(!p.2)))=some ((A7 v g||decide (i>=0))||!p.2):=by
  cases hA:A7 v g with
  |true=>rfl
  |false=>exact ah i1 rfl
 refine⟨g,i,p,w2,hW2,fun r=>?_⟩
 unfold bt
 rw[g1,aL,p1,aL]
 have hB:∀(r:ag),(aZ (kc (!((((v.Kind !=7)||(g.Kind !=2))||(decide (g.N<0)))||(decide (g.N>16777216)))) false (mh v (bg.mk [68,101,99,111,100,101,80,97,114,109,115]))) fun r8=>
 if(((((v.Kind !=7)||(g.Kind !=2))||(decide (g.N<0)))||(decide (g.N>16777216)))||r8)||(!p.2)then
  aZ (ax r 18) fun r9=>
  some r9
 else
  some r)=if((A7 v g||decide (i>=0))||!p.2)=true then ax r 18 else some r:=fun r=>by
  obtain⟨q,h1,h2⟩:=c6 hA
  injection h2 with h2
  refine ah h1 ?_
  show(if((A7 v g||q)||(!p.2))=true then aZ (ax r 18) (fun r9=>some r9)else some r)=_
  rw[h2]
  split
  ·cases ax r 18<;>rfl
  ·rfl
 rw[hB]
 simp only[W1]
 cases(if((A7 v g||decide (i>=0))||!p.2)=true then ax r 18 else some r)with
 |none=>rfl
 |some r1=>
 show aZ (aZ (bG r1) _) _=jn (some r1) _
 rw[I1]
 cases bG r1 with
 |none=>rfl
 |some r2=>
 rw[aL,aL,aL]
 cases bd r2 g.N with
 |none=>rfl
 |some r3=>
 rw[aL,aL]
 cases aD r3.2 (bg.mk [101,110,100,115,116,114,101,97,109])with
 |none=>rfl
 |some r4=>
 rw[aL,aL,aL]
 cases aD r4 (bg.mk [101,110,100,111,98,106])with
 |none=>rfl
 |some r5=>
 rw[aL,aL,aL]
 unfold Xg
 rw[a1]
 generalize(if(p.1&&(r5.e_==0))=true then _ else _:Option (List UInt8×ag))=z
 cases z with
 |none=>rfl
 |some z=>
  rw[aL,I1]
  rw[aL,a2]
  rfl
theorem RX{r s:ag}(h:Tw b c l r s){v:aa}(hW:Wd 67 v):qD b c l r s (fun r=>bt r v)/\∀o r',bt r v=some (o,r')->Wd 67 o.V:=by
 have hpl:=hp.1
 obtain⟨g,i,p,w2,hW2,e⟩:=HI hW
 have main:qD b c l r s (fun r=>bt r v):=by
  refine qD.eq ?_ e
  refine qD.seq (K:=fun _ q=>aZ (W1 bG q) fun q2=>aZ (bd q2.2 g.N) fun q3=>aZ (W1 (fun r=>aD r (bg.mk [101,110,100,115,116,114,101,97,109])) q3.2) fun q4=>aZ (W1 (fun r=>aD r (bg.mk [101,110,100,111,98,106])) q4.2) fun q5=>aZ (Xg p.1 q3.1 q5.2) fun q6=>some ((⟨w2,true,⟨q6.1⟩⟩:aA),q6.2)) ?_ fun _ r1 s1 f1 t1=>?_
  ·split
   ·exact Pk h B_
   ·exact qD.pure h ()
  have hN:r1.e_=0->0<=g.N/\g.N<=16777216:=fun h0=>by
   by_cases K4:((A7 v g||decide (i>=0))||!p.2)=true
   ·have f1:(aZ (if((A7 v g||decide (i>=0))||!p.2)=true then ax r 18 else some r) fun r=>some ((),r))=some ((),r1):=f1
    rw[if_pos K4]at f1
    obtain⟨r0,f2,f3⟩:=c6 f1
    injection f3 with f3
    injection f3 with _ f3
    subst f3
    unfold ax at f2
    by_cases h00:(r.e_==0)=true
    ·rw[if_pos h00]at f2;injection f2 with f2;subst f2;cases h0
    ·rw[if_neg h00]at f2;grind [absurd]
   ·grind [Bool.or_eq_false_iff,of_decide_eq_false]
  refine qD.seq (K:=fun _ q=>aZ (bd q g.N) fun q3=>aZ (W1 (fun r=>aD r (bg.mk [101,110,100,115,116,114,101,97,109])) q3.2) fun q4=>aZ (W1 (fun r=>aD r (bg.mk [101,110,100,111,98,106])) q4.2) fun q5=>aZ (Xg p.1 q3.1 q5.2) fun q6=>some ((⟨w2,true,⟨q6.1⟩⟩:aA),q6.2)) (Yc hc hp t1) fun _ r2 s2 f2 t2=>?_
  have hN2:r2.e_=0->0<=g.N/\g.N<=16777216:=fun h0=>by
   by_cases h1:r1.e_=0
   ·exact hN h1
   ·obtain⟨j,e,rfl,hj,_⟩:=t1
    obtain⟨k,hk,hl⟩:=pq (c:=b) (last:=false) AT hj h1
    grind [W1,aL,absurd]
  refine qD.seq (K:=fun x q=>aZ (W1 (fun r=>aD r (bg.mk [101,110,100,115,116,114,101,97,109])) q) fun q4=>aZ (W1 (fun r=>aD r (bg.mk [101,110,100,111,98,106])) q4.2) fun q5=>aZ (Xg p.1 x q5.2) fun q6=>some ((⟨w2,true,⟨q6.1⟩⟩:aA),q6.2)) (SF hc hp t2 g.N hN2) fun x r3 s3 f3 t3=>?_
  have hx:x.length<1048576:=by
   by_cases h2:r2.e_=0
   ·obtain⟨j,hj,rfl,_⟩:=t2.live h2
    unfold bd at f3
    rw[if_neg zk]at f3
    grind [uY,aL,pd,a8,AB.part,List.length_take,List.length_drop,min]
   ·grind [bd,Cd]
  refine qD.seq (K:=fun _ q=>aZ (W1 (fun r=>aD r (bg.mk [101,110,100,111,98,106])) q) fun q5=>aZ (Xg p.1 x q5.2) fun q6=>some ((⟨w2,true,⟨q6.1⟩⟩:aA),q6.2)) (JY hc hp t3 _) fun _ r4 s4 f4 t4=>?_
  refine qD.seq (K:=fun _ q=>aZ (Xg p.1 x q) fun q6=>some ((⟨w2,true,⟨q6.1⟩⟩:aA),q6.2)) (JY hc hp t4 _) fun _ r5 s5 f5 t5=>?_
  exact qD.seq (K:=fun y q=>some ((⟨w2,true,⟨y⟩⟩:aA),q)) (W8 t5 p.1 fun _=>hx) fun y r6 s6 f6 t6=>qD.pure t6 _
 refine⟨main,fun o r' ho=>?_⟩
 rw[<-e]at ho
 obtain⟨_,_,ho⟩:=c6 ho
 obtain⟨_,_,ho⟩:=c6 ho
 obtain⟨_,_,ho⟩:=c6 ho
 obtain⟨_,_,ho⟩:=c6 ho
 obtain⟨_,_,ho⟩:=c6 ho
 obtain⟨_,_,ho⟩:=c6 ho
 injection ho with ho
 injection ho with ho _
 subst ho
 exact hW2
theorem GJ:∃z,eV b 0 false=some z/\Wd 67 z.2.1.V/\(z.2.2.2≠6->eV c 0 l=some z):=by
 have t0:Tw b c l (R b ((0:Nat):Int) false 0) (R c ((0:Nat):Int) l 0):=Tw.both hp (Nat.zero_le _)
 obtain⟨n,r1,s1,a1,t1,k1⟩:=Hn hc hp t0 1 4096
 obtain⟨m,r2,s2,a2,t2,k2⟩:=Hn hc hp t1 0 0
 obtain⟨_,r3,s3,a3,t3,k3⟩:=JY hc hp t2 [111,98,106]
 obtain⟨⟨v,r4,s4,a4,t4,k4⟩,hv⟩:=Wm hc hp t3
 obtain⟨⟨x,r5,s5,a5,t5,k5⟩,_⟩:=OE hc hp t4
 have a3':aD r2 ⟨[111,98,106]⟩=some r3:=by
  obtain⟨q,h1,h2⟩:=c6 a3
  have h1:aD r2 ⟨[111,98,106]⟩=some q:=h1
  injection h2 with h2
  injection h2 with _ h2
  rw[h1,h2]
 have k3':r3.e_≠6->r2.e_≠6/\aD s2 ⟨[111,98,106]⟩=some s3:=fun h=>by
  obtain⟨h0,h⟩:=k3 h
  obtain⟨q,h1,h2⟩:=c6 h
  grind [aD]
 have tail:∀o(r6 s6:ag),(Wd 67 o.V)->(if x=true then aZ (bt r5 v) fun r11=>some (r11.1,r11.2)else some (aA.mk v false (bg.mk []),r5))=some (o,r6)->Tw b c l r6 s6->
  (r6.e_≠6->r5.e_≠6/\(if x=true then aZ (bt s5 v) fun r11=>some (r11.1,r11.2)else some (aA.mk v false (bg.mk []),s5))=some (o,s6))->
  ∃z,eV b 0 false=some z/\Wd 67 z.2.1.V/\(z.2.2.2≠6->eV c 0 l=some z):=fun o r6 s6 hW f1 t6 f2=>by
  refine⟨if(r6.e_ !=0)=true then(0,o0,0,r6.e_)else(n,o,r6.aB.at_,0),?_,?_,fun h6=>?_⟩
  ·refine ah a1 (ah a2 (ah a3' (ah a4 (ah rfl (eJ (a:=(o,r6)) (ah a5 f1) ?_)))))
   dsimp only
   split<;>rfl
  ·grind [Wd0]
  ·have h6':r6.e_≠6:=fun h=>A_
   obtain⟨q5,f3⟩:=f2 h6'
   obtain⟨q4,b5⟩:=k5 q5
   obtain⟨q3,b4⟩:=k4 q4
   obtain⟨q2,b3⟩:=k3' q3
   obtain⟨q1,b2⟩:=k2 q2
   obtain⟨_,b1⟩:=k1 q1
   obtain⟨j,e,rfl,hj,t7⟩:=t6
   obtain⟨i,rfl,hi,t8⟩:=t7 h6'
   refine ah b1 (ah b2 (ah b3 (ah b4 (ah rfl (eJ (ah b5 f3) ?_)))))
   dsimp only
   by_cases he:e=0
   ·rw[if_neg (by rw[he];decide),if_neg (by rw[he];decide),t8 he]
   ·rw[if_pos G_,if_pos G_]
 cases hxx:x with
 |false=>
  subst hxx
  exact tail _ r5 s5 (hv _ _ a4) rfl t5 fun h=>⟨h,rfl⟩
 |true=>
  subst hxx
  have hW:=hv _ _ a4
  obtain⟨⟨o,r6,s6,a6,t6,k6⟩,ho⟩:=RX hc hp t5 hW
  have a6:bt r5 v=some (o,r6):=a6
  exact tail o r6 s6 (ho _ _ a6) (by rw[if_pos rfl,a6];rfl) t6 fun h=>H_
end
end Fq
namespace Fq
section
variable{b:List UInt8}
def K9:∀(f:Nat)(q:List UInt8×Int)(j:Nat),GN b true f q j≠.inr 6
 |0,q,j=>by rw[GN];intro h;exact absurd h B_
 |f+1,q,j=>by
  rw[GN]
  repeat' split
  all_goals first
   |exact K9 f _ _
   |(intro h;cases h)
   |(injection h with h)
def Tx(j:Nat):Nq b true j≠.inr 6:=by
 unfold Nq
 repeat' split
 all_goals first
  |(intro h;cases h;done)
  |grind [absurd]
  |simp_all
def Mw:∀(f:Nat)(d:Int)(o:List UInt8)(j:Nat),zl b true f d o j≠.inr 6
 |0,d,o,j=>by rw[zl];intro h;exact absurd h B_
 |f+1,d,o,j=>by
  rw[zl]
  repeat' split
  all_goals first
   |exact Mw f _ _ _
   |(done)
   |(intro h;exact absurd h B_)
   |(rename_i h1;intro h;injection h with h;subst h;exact Tx _ h1)
   |simp_all
theorem akZ(sg:Int)(wh:List UInt8)(ro:Option (List UInt8)):(Yo sg wh ro).2≠6:=by
 unfold Yo
 repeat' split
 all_goals(dsimp;decide)
def akY(s:List UInt8):(Sh s).2≠6:=by
 unfold Sh nuB
 grind [akZ]
theorem ahe(w:List UInt8):∀(f:Nat)(o:List UInt8)(i:Nat),Sg w f o i≠.inr 6
 |0,o,i=>by grind [Sg]
 |f+1,o,i=>by
  rw[Sg]
  repeat' split
  all_goals first
   |exact ahe w f _ _
   |(intro h;cases h)
   |(injection h with h)
def akT(w:List UInt8):(Sf w).2≠6:=by grind [Sf,ahe,naF]
def aip{f t:Nat}{q:aa×Int}(h:q.2≠6):(tok f t q).2≠6:=by grind [tok]
def abh{f:Nat}{r:(List UInt8×Nat)⊕Int}(h:r≠.inr 6):(Ay f r).2≠6:=by
 cases r with
 |inl r=>show 0≠6;decide
 |inr e=>exact fun h2=>h (congrArg Sum.inr h2)
theorem V8(f:Nat)(c:UInt8):(MH b true f c).2≠6:=by
 unfold MH
 repeat' split
 all_goals first
  |exact aip (akY _)
  |exact aip (akT _)
  |exact abh (K9 _ _ _)
  |exact abh (Mw _ _ _ _)
  |(dsimp;decide)
  |simp_all
theorem ui(k:Nat):(iQ b true k).2≠6:=by grind [iQ,V8]
theorem UT{e:Int}(h:e≠6):moE e≠6:=by grind [moE]
theorem RC(j:Nat)(v:aa):(xr b true j v).2.1≠6:=by grind [xr,UT,ui]
theorem aiG{w:bg}{r:aa×Int}(h:kY w=some r):r.2≠6:=by grind [kY]
def Y6(hb:b.length<1048576){j:Nat}(hj:j<=b.length){t:aH}{st:List aV}{r:aa×Int×Int}(h:mR ⟨b,(j:Int),true,st⟩ t=some r):r.2.1≠6:=by
 unfold mR at h
 split at h
 ·injection h with h;subst h;show 11≠6;decide
 split at h
 ·obtain⟨q,h1,h2⟩:=c6 h
  grind [aiG]
 ·obtain⟨w,_,h2⟩:=c6 h
  cases w with
  |false=>injection h2 with h2;subst h2;show 0≠6;decide
  |true=>
   obtain⟨q,h3,h4⟩:=c6 h2
   grind [On,RC]
theorem adh{l:List aa}{r:List aa×Int}(h:mB l=some r):r.2≠6:=by grind [mB,a8,qk,xB,dQ]
theorem abz(p:PS)(d:Bool):(mc p d).1≠6:=by
 unfold mc
 cases eY p.st with
 |true=>show 11≠6;decide
 |false=>grind [decide]
theorem aj2{p:PS}{d:Bool}{r:aa×Int×PS}(h:Ix mB p d=some r):r.2.1≠6:=by
 unfold Ix at h
 cases hb:pa p.st d with
 |true=>rw[hb]at h;injection h with h;subst h;show 11≠6;decide
 |false=>
  rw[hb,cond_false]at h
  obtain⟨b,a,l,st⟩:=p
  cases st with
  |nil=>cases h
  |cons v vs=>
   cases d with
   |false=>injection h with h;subst h;show 0≠6;decide
   |true=>
    dsimp only at h
    rw[cond_true]at h
    obtain⟨q,g1,g2⟩:=c6 h
    grind [adh]
def aie(hb:b.length<1048576){j:Nat}(hj:j<=b.length){t:aH}{st:List aV}{r:aa×Bool×Int×PS}(h:wv mB ⟨b,(j:Int),true,st⟩ t=some r):r.2.2.1≠6:=by
 unfold wv at h
 cases h0:(t.Kind==0)with
 |true=>rw[h0]at h;injection h with h;subst h;show 10≠6;decide
 |false=>
  rw[h0]at h
  cases h1:(t.Kind==2||t.Kind==4)with
  |true=>grind [abz]
  |false=>
   rw[h1]at h
   cases h2:(t.Kind==3||t.Kind==5)with
   |true=>
    rw[h2]at h
    obtain⟨q,g1,g2⟩:=c6 h
    grind [aj2]
   |false=>
    rw[h2]at h
    obtain⟨q,g1,g2⟩:=c6 h
    have h6:=Y6 hb hj g1
    cases hx:(q.2.1==0&&decide (64<=st.length))<;>simp only[hx,cond_true]at g2<;>injection g2 with g2<;>subst g2
    ·exact h6
    ·show 15≠6;decide
def acP(hb:b.length<1048576){k:Nat}(hk:k<=b.length){st:List aV}(h64:st.length<=64){o:aa×Int×Int}(h:Mc ⟨b,(k:Int),true,st⟩=some (.inr o)):o.2.2≠6:=by
 by_cases hok:(iQ b true k).2=0
 ·obtain⟨⟨j,e1,hj,_⟩,_,_⟩:=Be hk hok
  rw[PN hb hk h64 hok,e1]at h
  obtain⟨r,r1,r2⟩:=c6 h
  have h6:=aie hb hj r1
  unfold IA at r2
  cases hx:(r.2.2.1 !=0)with
  |true=>rw[hx]at r2;injection r2 with r2;injection r2 with r2;subst r2;exact h6
  |false=>
   rw[hx]at r2
   cases hy:(!r.2.1)with
   |true=>rw[hy]at r2;cases r2
   |false=>grind [a8]
 grind [LH,ui]
def val_last(hb:b.length<1048576){k:Nat}(hk:k<=b.length):∃o,ll b (k:Int) true=some o/\Qo b o/\o.2.2≠6:=by
 have:=eh (body:=Mc) (fun s=>∃(j:Nat)(st:List aV),s=⟨b,j,true,st⟩/\j<=b.length/\st.length<=64/\Wz st j) (fun s=>b.length -s.at_.toNat) (fun o=>Qo b o/\o.2.2≠6)
  ⟨k,[],rfl,hk,Nat.zero_le _,trivial⟩ A_ (by
    rintro s ⟨j,st,rfl,hj,h64,hw⟩
    obtain⟨x,h1,h2⟩:=aix hb hj h64 hw
    refine⟨x,h1,?_⟩
    cases x with
    |inl p=>
     obtain⟨j',st',rfl,g1,g2,g3,g4⟩:=h2
     exact⟨⟨j',st',rfl,g2,g3,g4⟩,A_⟩
    |inr o=>exact⟨h2,acP hb hj h64 h1⟩)
 exact this
def Un(b:List UInt8)(r:ag):Prop:=∃(j:Nat)(e:Int),r=R b (j:Int) true e/\j<=b.length/\e≠6
theorem Un.mk{j:Nat}{e:Int}(hj:j<=b.length)(he:e≠6):Un b (R b (j:Int) true e):=⟨j,e,rfl,hj,he⟩
def OP{α:Type}(b:List UInt8)(r:ag)(F:ag->Option (α×ag)):Prop:=∃x r',F r=some (x,r')/\Un b r'
theorem OP.by{α:Type}{r:ag}(h:Un b r){F:ag->Option (α×ag)}(x:α)(hF:∀r:ag,r.e_≠0->F r=some (x,r))(T5:∀j:Nat,j<=b.length->OP b (R b (j:Int) true 0) F):OP b r F:=by
 by_cases he:r.e_=0
 ·obtain⟨j,e,rfl,hj,_⟩:=h
  obtain rfl:e=0:=he
  exact T5 j hj
 ·exact⟨x,r,hF r he,h⟩
variable(hb:b.length<1048576)
include hb
theorem Ho{r:ag}(h:Un b r)(x y:Int):OP b r (fun r=>cc r x y):=by
 refine OP.by h 0 (fun r hr=>aaa hr x y) fun j hj=>?_
 have h1:=Af (I3 (last:=true) hb j hj) x y
 obtain⟨i,i1,i2⟩:∃i:Nat,(yM b true j).2.1=i/\i<=b.length:=by
  obtain⟨i,i1,i2⟩:=Ag (last:=true) hj
  unfold yM
  split
  ·exact⟨0,rfl,Nat.zero_le _⟩
  ·split
   ·exact⟨0,rfl,Nat.zero_le _⟩
   ·split
    ·exact⟨0,rfl,Nat.zero_le _⟩
    grind [i1]
 have h6:(yM b true j).2.2≠6:=by
  unfold yM
  all_goals grind [ui]
 have he:eN (yM b true j) x y≠6:=by
  unfold eN
  repeat' split
  all_goals first
   |exact h6
   |decide
 rw[i1]at h1
 exact⟨_,_,h1,Un.mk i2 he⟩
theorem JZ{r:ag}(h:Un b r)(w:List UInt8):OP b r (W1 fun r=>aD r ⟨w⟩):=by
 refine OP.by h () (fun r hr=>ah (Te hr ⟨w⟩) rfl) fun j hj=>?_
 have h1:W1 (fun r=>aD r ⟨w⟩) (R b j true 0)=some ((),R b (ns b true j w).1 true (ns b true j w).2):=by
  refine ah ?_ rfl
  exact an zk (ah (UF hb j hj w) rfl)
 obtain⟨i,i1,i2⟩:∃i:Nat,(ns b true j w).1=i/\i<=b.length:=by
  obtain⟨i,i1,i2⟩:=Ag (last:=true) hj
  unfold ns
  split
  ·exact⟨0,rfl,Nat.zero_le _⟩
  ·split
   ·exact⟨0,rfl,Nat.zero_le _⟩
   ·split
    ·exact⟨0,rfl,Nat.zero_le _⟩
    grind [i1]
 have h6:(ns b true j w).2≠6:=by
  unfold ns
  all_goals grind [ui]
 rw[i1]at h1
 exact⟨_,_,h1,Un.mk i2 h6⟩
theorem Wn{r:ag}(h:Un b r):∃v r',cz r=some (v,r')/\Un b r'/\Wd 67 v:=by
 by_cases he:r.e_=0
 ·obtain⟨j,e,rfl,hj,_⟩:=h
  obtain rfl:e=0:=he
  obtain⟨⟨v,to,e⟩,h1,⟨⟨i,i1,i2⟩,hw⟩,h3⟩:=val_last hb hj
  subst i1
  exact⟨v,R b i true e,by exact an zk (ah h1 rfl),Un.mk i2 h3,hw⟩
 grind [Td,Wd0]
theorem OF{r:ag}(h:Un b r):OP b r bu:=by
 refine OP.by h false (fun r hr=>Tc hr) fun j hj=>?_
 obtain⟨i,i1,i2⟩:=Ag hj
 have h6:=ui (b:=b) j
 have hn:=A5 (last:=true) hb j hj
 generalize iQ b true j=q at hn i1 h6
 obtain⟨t,e⟩:=q
 have un:∀{e:Int},e≠6->Un b (R b t.To true e):=fun he=>by grind [i1,Un.mk]
 by_cases he:e=0
 ·subst he
  by_cases h0:(t.Kind==0)=true
  ·refine⟨_,_,by exact an zk (ah hn (eJ (an zk (aM h0 (ah (pd _ _ _ _) rfl))) rfl)),un BY⟩
  ·by_cases hw:((t.Kind !=6)||((!(t.S.b==(bg.mk [101,110,100,111,98,106]).b))&&(!(t.S.b==(bg.mk [115,116,114,101,97,109]).b))))=true
   ·refine⟨_,_,by exact an zk (ah hn (eJ (an zk (an h0 (aM hw (ah (pd _ _ _ _) rfl)))) rfl)),un BY⟩
   ·refine⟨_,_,by exact an zk (ah hn (eJ (an zk (an h0 (an hw rfl))) rfl)),un (e:=0) BY⟩
 ·refine⟨_,_,by exact an zk (ah hn (eJ (aM A_ rfl) rfl)),un h6⟩
theorem Yd{r:ag}(h:Un b r):OP b r (W1 bG):=by
 obtain⟨j,e,rfl,hj,h6⟩:=h
 by_cases he:e=0
 ·subst he
  obtain⟨k,hk,_,h2⟩:=Sx hb hj 0
  by_cases hkl:k<b.length
  ·by_cases h10:(((ix b k).toNat:Int)!=10)=true
   ·refine⟨(),R b k true 18,ah ?_ rfl,Un.mk hk BY⟩
    exact eJ h2 (an zk (an A_ (ay A_ (aM h10 (ah (pd _ _ _ _) rfl)))))
   ·refine⟨(),R b ((k+1:Nat)) true 0,ah ?_ rfl,Un.mk hkl BY⟩
    have w:aC (k+1)=((k+1:Nat)):=E_
    refine eJ h2 (an zk (an A_ (ay A_ (an h10 ?_))))
    rw[w]
  ·refine⟨(),R b k true 10,ah ?_ rfl,Un.mk hk BY⟩
   exact eJ h2 (an zk (aM A_ (ah (uY b _ true) (ah (pd _ _ _ _) rfl))))
 ·obtain⟨k,hk,hl⟩:=pq hb hj he
  exact⟨(),_,ah hl rfl,Un.mk hk h6⟩
theorem SH{r:ag}(h:Un b r)(n:Int)(hn:r.e_=0->0<=n/\n<=16777216):OP b r (fun r=>bd r n):=by
 by_cases he:r.e_=0
 ·obtain⟨n0,n1⟩:=hn he
  obtain⟨j,e,rfl,hj,_⟩:=h
  obtain rfl:e=0:=he
  obtain⟨m,rfl⟩:∃m:Nat,n=m:=⟨n.toNat,AT⟩
  have w3:aC (b.length -j)=b.length -j:=ao AT AT
  by_cases hlt:b.length -j<m
  ·refine⟨[],R b j true 10,?_,Un.mk hj BY⟩
   exact an zk (aM A_ (ah (uY b _ true) (ah (pd _ _ _ _) rfl)))
  ·have w4:aC (j+m)=((j+m:Nat)):=E_
   have w5:aC (((j+m:Nat)) -m)=j:=by rw[ao BY AT];omega
   refine⟨part b j ((j+m:Nat)),R b ((j+m:Nat)) true 0,?_,Un.mk AT BY⟩
   refine an zk (an A_ ?_)
   show a8 (0<=aC ((aC (j+m)) -m)/\aC ((aC (j+m)) -m)<=aC (j+m)/\aC (j+m)<=b.length) (some (part b (aC ((aC (j+m)) -m)) (aC (j+m)),R b (aC (j+m)) true 0))=_
   rw[w4,w5]
   exact ay AT rfl
 ·exact⟨[],r,Cd he n,h⟩
omit hb in
theorem Pl{r:ag}(h:Un b r){e:Int}(h6:e≠6):OP b r (W1 fun r=>ax r e):=by
 obtain⟨j,e1,rfl,hj,h2⟩:=h
 by_cases h0:e1=0
 ·subst h0
  exact⟨(),_,ah (pd _ _ _ _) rfl,Un.mk hj h6⟩
 ·refine⟨(),R b (j:Int) true e1,ah (a:=R b (j:Int) true e1) ?_ rfl,Un.mk hj h2⟩
  unfold ax
  exact an Li rfl
omit hb in
theorem W9{r:ag}(h:Un b r)(p:Bool){x:List UInt8}(hx:r.e_=0->x.length<1048576):OP b r (Xg p x):=by
 cases p with
 |false=>exact⟨x,r,an BY rfl,h⟩
 |true=>
  by_cases he:r.e_=0
  ·have hu:gM x 16777216=some (s9 x 16777216):=by unfold gM;exact ay ⟨by have:=hx he;omega,B_,B_⟩ rfl
   generalize s9 x 16777216=u at hu
   have hc:(true&&(r.e_==0))=true:=by rw[he];rfl
   by_cases h0:(u.2.2 !=0)=true
   ·obtain⟨_,r',h1,h2⟩:=Pl h (e:=18) B_
    obtain⟨r1,h4,h5⟩:=c6 h1
    injection h5 with h5
    injection h5 with _ h5
    subst h5
    exact⟨u.1,r1,aM hc (ah hu (eJ (aM h0 (ah h4 rfl)) rfl)),h2⟩
   ·exact⟨u.1,r,aM hc (ah hu (eJ (an h0 rfl) rfl)),h⟩
  ·exact⟨x,r,an y_ rfl,h⟩
theorem RY{r:ag}(h:Un b r){v:aa}(hW:Wd 67 v):∃o r',bt r v=some (o,r')/\Un b r'/\Wd 67 o.V:=by
 obtain⟨g,i,p,w2,hW2,e⟩:=HI hW
 rw[<-e]
 obtain⟨_,r1,f1,u1⟩:OP b r (W1 fun r=>if((A7 v g||decide (i>=0))||!p.2)=true then ax r 18 else some r):=by
  by_cases K4:((A7 v g||decide (i>=0))||!p.2)=true
  ·simp only[if_pos K4]
   exact Pl h B_
  ·simp only[if_neg K4]
   exact⟨(),r,rfl,h⟩
 have hN:r1.e_=0->0<=g.N/\g.N<=16777216:=fun h0=>by
  by_cases K4:((A7 v g||decide (i>=0))||!p.2)=true
  ·have f1:(aZ (if((A7 v g||decide (i>=0))||!p.2)=true then ax r 18 else some r) fun r=>some ((),r))=some ((),r1):=f1
   rw[if_pos K4]at f1
   obtain⟨r0,f2,f3⟩:=c6 f1
   injection f3 with f3
   injection f3 with _ f3
   subst f3
   unfold ax at f2
   by_cases h00:(r.e_==0)=true
   ·rw[if_pos h00]at f2;injection f2 with f2;subst f2;cases h0
   ·rw[if_neg h00]at f2;grind [absurd]
  ·grind [Bool.or_eq_false_iff,of_decide_eq_false]
 obtain⟨_,r2,f2,u2⟩:=Yd hb u1
 have hN2:r2.e_=0->0<=g.N/\g.N<=16777216:=fun h0=>by
  by_cases h1:r1.e_=0
  ·exact hN h1
  ·obtain⟨j,e,rfl,hj,_⟩:=u1
   obtain⟨k,hk,hl⟩:=pq (c:=b) (last:=true) hb hj h1
   grind [W1,aL,absurd]
 obtain⟨x,r3,f3,u3⟩:=SH hb u2 g.N hN2
 have f3:bd r2 g.N=some (x,r3):=f3
 have hx:x.length<1048576:=by
  by_cases h2:r2.e_=0
  ·obtain⟨j,e,rfl,hj,_⟩:=u2
   obtain rfl:e=0:=h2
   unfold bd at f3
   rw[if_neg zk]at f3
   grind [uY,aL,pd,a8,AB.part,List.length_take,List.length_drop,min]
  ·grind [Cd]
 obtain⟨_,r4,f4,u4⟩:=JZ hb u3 [101,110,100,115,116,114,101,97,109]
 obtain⟨_,r5,f5,u5⟩:=JZ hb u4 [101,110,100,111,98,106]
 obtain⟨y,r6,f6,u6⟩:=W9 u5 p.1 (fun _=>hx)
 exact⟨_,r6,ah f1 (ah f2 (ah f3 (ah f4 (ah f5 (ah f6 rfl))))),u6,hW2⟩
theorem Nu:∃z,eV b 0 true=some z/\Wd 67 z.2.1.V/\z.2.2.2≠6:=by
 have t0:Un b (R b (0:Int) true 0):=Un.mk (Nat.zero_le _) BY
 obtain⟨n,r1,a1,t1⟩:=Ho hb t0 1 4096
 obtain⟨m,r2,a2,t2⟩:=Ho hb t1 0 0
 obtain⟨_,r3,a3,t3⟩:=JZ hb t2 [111,98,106]
 obtain⟨v,r4,a4,t4,hv⟩:=Wn hb t3
 obtain⟨x,r5,a5,t5⟩:=OF hb t4
 have a3':aD r2 ⟨[111,98,106]⟩=some r3:=by
  obtain⟨q,h1,h2⟩:=c6 a3
  have h1:aD r2 ⟨[111,98,106]⟩=some q:=h1
  injection h2 with h2
  injection h2 with _ h2
  rw[h1,h2]
 have tail:∀o r6,Wd 67 o.V->(if x=true then aZ (bt r5 v) fun r11=>some (r11.1,r11.2)else some (aA.mk v false (bg.mk []),r5))=some (o,r6)->Un b r6->∃z,eV b 0 true=some z/\Wd 67 z.2.1.V/\z.2.2.2≠6:=fun o r6 hW f1 t6=>by
  refine⟨if(r6.e_ !=0)=true then(0,o0,0,r6.e_)else(n,o,r6.aB.at_,0),?_,?_,?_⟩
  ·refine ah a1 (ah a2 (ah a3' (ah a4 (ah rfl (eJ (ah a5 f1) ?_)))))
   dsimp
   split<;>rfl
  ·grind [Wd0]
  ·obtain⟨j,e,rfl,hj,h6⟩:=t6
   split
   ·exact h6
   ·dsimp;decide
 cases hxx:x with
 |false=>
  subst hxx
  exact tail _ r5 hv rfl t5
 |true=>
  obtain⟨o,r6,g1,g2,g3⟩:=RY hb t5 hv
  exact tail o r6 g3 H_ g2
end
end Fq
end Go.AB
end
