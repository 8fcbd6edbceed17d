/- A part. -/
import Derived.Test.YtgecakgfnjkkbaaGreatTt26
set_option linter.defProp false
set_option linter.unusedSimpArgs false
set_option linter.unusedVariables false
section
set_option maxRecDepth 4000
namespace Go.AB
open Go
theorem Lo{α:Type}{c:Prop}[Decidable c](h:¬c)(o:Option α):a8 c o=none:=if_neg h
section
variable{b c:List UInt8}{last l:Bool}
def moE(e:Int):Int:=if e==6 then e else 0
def IE(e:Int):gV e=some (moE e):=by grind [gV,moE]
def whB(t:aG):Bool:=(t.Kind==1)&&(t.V.Kind==2)
def xn(b:List UInt8)(last:Bool)(j:Nat)(v:aa):aa×Int×Int:=
 if((iO b last j).2 !=0)||!whB (iO b last j).1 then(v,moE (iO b last j).2,(j:Int))else
 if(((iO b last (iO b last j).1.To.toNat).2 !=0)||((iO b last (iO b last j).1.To.toNat).1.Kind !=6))||!((iO b last (iO b last j).1.To.toNat).1.S.b==[82])then(v,moE (iO b last (iO b last j).1.To.toNat).2,(j:Int))else
 if((decide (v.N<1))||(decide (v.N>4096)))||((iO b last j).1.V.N !=0)then(v,26,(j:Int))else(⟨8,v.N,⟨[]⟩,[]⟩,0,(iO b last (iO b last j).1.To.toNat).1.To)
theorem NV(hb:b.length<1048576){j:Nat}(hj:j<=b.length)(o:AV)(v:aa):dh ⟨b,(j:Int),last,o⟩ v=some ((xn b last j v).1,(xn b last j v).2.1,⟨b,(xn b last j v).2.2,last,o⟩):=by
 unfold dh xn
 refine ah (AU hb j hj) ?_
 have hx:=A2 (last:=last) hj
 generalize iO b last j=q at hx
 obtain⟨t,e⟩:=q
 by_cases he:e=0
 ·subst he
  obtain⟨⟨i,ei,hi,_⟩,_,_⟩:=hx rfl
  refine ah (a:=whB t) rfl ?_
  cases hw:whB t with
  |false=>exact aM rfl (ah (IE _) rfl)
  |true=>
   rw[ei,Int.toNat_natCast]
   refine ah (AU hb i hi) ?_
   generalize iO b last i=r
   split
   ·exact ah (IE _) rfl
   grind
 ·have h1:(e !=0)=true:=A_
  rw[h1]
  exact ah rfl (aM rfl (ah (IE _) rfl))
def Lr(v:aa):Prop:=v.L=[]/\(v.Kind=8->1<=v.N/\v.N<=4096)
theorem Lf.r{v:aa}(h:Lf v):Lr v:=⟨h.1,fun k=>absurd k h.2⟩
def UZ{j:Nat}(hj:j<=b.length){v:aa}(hL:Lf v):Lr (xn b last j v).1/\∃q:Nat,(xn b last j v).2.2=(q:Int)/\j<=q/\q<=b.length:=by
 have hr:=hL.r
 have hx:=A2 (last:=last) hj
 unfold xn
 generalize iO b last j=q at hx
 obtain⟨t,e⟩:=q
 split
 ·grind
 ·have he:e=0:=A_
  obtain⟨⟨i,ei,hi,hji,_⟩,_,_⟩:=hx he
  rw[ei,Int.toNat_natCast]
  have hy:=A2 (last:=last) hi
  generalize iO b last i=r at hy
  obtain⟨t2,e2⟩:=r
  split
  ·grind
  ·have he2:e2=0:=A_
   obtain⟨⟨i2,ei2,hi2,alV,_⟩,_,_⟩:=hy he2
   grind [Lr]
theorem UY(hp:Ev b c){j:Nat}(hj:j<=b.length)(v:aa)(h:(xn b false j v).2.1≠6):xn c l j v=xn b false j v:=by
 have hx:=A2 (last:=false) hj
 have h1:(iO b false j).2≠6:=fun e=>by
  unfold xn at h
  rw[e]at h
  exact h rfl
 have e1:=uX (l:=l) hp hj h1
 unfold xn at h⊢
 rw[e1]
 generalize iO b false j=q at hx h
 obtain⟨t,e⟩:=q
 split
 ·rfl
 ·rename_i hc
  rw[if_neg hc]at h
  have he:e=0:=A_
  obtain⟨⟨i,ei,hi,hji,_⟩,_,_⟩:=hx he
  rw[ei,Int.toNat_natCast]at h⊢
  have h2:(iO b false i).2≠6:=fun e=>by
   rw[e]at h
   exact h rfl
  grind [uX]
def R7(c:List UInt8)(l:Bool)(p:PS):PS:={p with b:=c,last:=l}
def sgl(hb:b.length<1048576){k:Nat}{t:aG}(ht:Ax b k t)(hL:Lf t.V)(h0:t.Kind≠0)(st:List aX):∃v e,∃q:Nat,mH ⟨b,t.To,last,st⟩ t=some (v,e,(q:Int))/\Lr v/\k<q/\q<=b.length:=by
 obtain⟨⟨j,ej,hj1,hj2,hj3⟩,_,_⟩:=ht
 have hj3:=hj3 h0
 unfold mH
 rw[ej]
 split
 ·exact⟨_,_,j,rfl,(by first|exact hL.r|exact⟨rfl,fun h=>F_⟩),hj3,hj1⟩
 ·split
  ·unfold kW
   split
   ·exact⟨_,_,j,rfl,(by first|exact hL.r|exact⟨rfl,fun h=>BY⟩),hj3,hj1⟩
   ·split
    ·exact⟨_,_,j,rfl,(by first|exact hL.r|exact⟨rfl,fun h=>A_⟩),hj3,hj1⟩
    ·split<;>exact⟨_,_,j,rfl,(by first|exact hL.r|exact⟨rfl,fun h=>A_⟩),hj3,hj1⟩
  ·show∃v e,∃q:Nat,(if whB t=true then _ else _)=some (v,e,(q:Int))/\_
   split
   ·obtain⟨h1,q,h2,h3,h4⟩:=UZ (last:=last) hj1 hL
    grind [NV,aN]
   have hr:=hL.r
   grind
theorem Yq(hc:c.length<1048576)(hp:Ev b c){k:Nat}{t:aG}(ht:Ax b k t)(st:List aX){v:aa}{e q:Int}(h:mH ⟨b,t.To,false,st⟩ t=some (v,e,q))(he:e≠6):mH ⟨c,t.To,l,st⟩ t=some (v,e,q):=by
 obtain⟨⟨j,ej,hj1,hj2,hj3⟩,_,_⟩:=ht
 have hpl:=hp.1
 unfold mH at h⊢
 rw[ej]at h⊢
 split<;>rename_i h1
 ·grind
 rw[if_neg h1]at h
 split<;>rename_i h2
 ·grind
 rw[if_neg h2]at h
 have h:(if whB t=true then aQ (dh ⟨b,j,false,.fN⟩ t.V) fun r=>some (r.1,r.2.1,r.2.2.at_)else some (t.V,0,j))=some (v,e,q):=h
 show(if whB t=true then aQ (dh ⟨c,j,l,.fN⟩ t.V) fun r=>some (r.1,r.2.1,r.2.2.at_)else some (t.V,0,j))=some (v,e,q)
 grind [xn,Prod.mk.inj,NV,aN,UY]
theorem P7(p:PS)(d:Bool):l8 (R7 c l p) d=((l8 p d).1,R7 c l (l8 p d).2):=by grind [l8,R7,e9,decide]
theorem WC{pf:List aa->Option (List aa×Int)}(p:PS)(d:Bool){r:aa×Int×PS}(h:HX pf p d=some r):HX pf (R7 c l p) d=some (r.1,r.2.1,R7 c l r.2.2):=by
 obtain⟨b,at_,last,st⟩:=p
 unfold HX at h⊢
 unfold R7
 cases he:oG st d with
 |true=>grind
 |false=>
  simp[he]at h⊢
  cases st with
  |nil=>cases h
  |cons v vs=>
   cases d with
   |false=>grind
   |true=>
    obtain⟨x,h1,h2⟩:=c6 h
    grind [aN]
theorem Vf(hc:c.length<1048576)(hp:Ev b c){pf:List aa->Option (List aa×Int)}{k:Nat}{t:aG}(ht:Ax b k t)(st:List aX){r:aa×Bool×Int×PS}(h:wu pf ⟨b,t.To,false,st⟩ t=some r)(he:r.2.2.1≠6):wu pf ⟨c,t.To,l,st⟩ t=some (r.1,r.2.1,r.2.2.1,R7 c l r.2.2.2):=by
 have e0:(⟨c,t.To,l,st⟩)=R7 c l ⟨b,t.To,false,st⟩:=rfl
 unfold wu at h⊢
 by_cases h0:(t.Kind==0)=true
 ·grind
 by_cases h1:(t.Kind==2||t.Kind==4)=true
 ·grind [P7]
 by_cases h2:(t.Kind==3||t.Kind==5)=true
 ·simp[h0,h1,h2]at h⊢
  obtain⟨x,g1,g2⟩:=c6 h
  injection g2 with g2
  subst g2
  rw[e0,WC _ _ g1]
  rfl
 ·simp[h0,h1,h2]at h⊢
  obtain⟨⟨v,e,q⟩,g1,g2⟩:=c6 h
  have he6:e≠6:=fun h6=>A_
  rw[Yq hc hp ht st g1 he6,aN]
  cases hx:(e==0&&decide (64<=st.length))<;>simp only[hx]at g2⊢<;>injection g2 with g2<;>subst g2<;>rfl
def afm(c:List UInt8)(l:Bool):PS⊕(aa×Int×Int)->PS⊕(aa×Int×Int)
 |.inl p=>.inl (R7 c l p)
 |.inr o=>.inr o
theorem SF{r:aa×Bool×Int×PS}{x:PS⊕(aa×Int×Int)}(h:H8 r=some x):H8 (r.1,r.2.1,r.2.2.1,R7 c l r.2.2.2)=some (afm c l x):=by
 obtain⟨v,s,e,b,at_,last,st⟩:=r
 unfold H8 at h⊢
 unfold R7
 by_cases h1:(e !=0)=true
 ·simp only[h1]at h⊢;injection h with h;subst h;rfl
 by_cases h2:(!s)=true
 ·simp only[h1,h2]at h⊢;injection h with h;subst h;rfl
 simp[h1,h2]at h⊢
 by_cases h3:st.length<=64
 ·rw[bk h3]at h⊢
  cases st with
  |nil=>injection h with h;subst h;rfl
  |cons v vs=>
   dsimp at h⊢
   by_cases h4:(v.l_.length+1)*56<=room
   ·rw[bk h4]at h⊢
    injection h with h
    subst h
    rfl
   grind [Lo]
 grind [Lo]
def VP:List aX->Nat->Prop
 |[],_=>True
 |w::ws,k=>w.l_.length<=k/\(∀x∈w.l_,Wd (66 -ws.length) x)/\VP ws k
def VP.mono:∀{st:List aX}{j k:Nat},j<=k->VP st j->VP st k
 |[],_,_,_,_=>trivial
 |_::_,_,_,h,⟨h1,h2,h3⟩=>⟨AT,h2,VP.mono h h3⟩
def P0(b:List UInt8)(o:aa×Int×Int):Prop:=(∃j:Nat,o.2.1=(j:Int)/\j<=b.length)/\Wd 67 o.1
def Lx(e:Int):P0 b (zV,0,e):=⟨⟨0,rfl,Nat.zero_le _⟩,Wd.leaf rfl (fun h=>F_)⟩
def GoV(b:List UInt8)(last:Bool)(k:Nat):PS⊕(aa×Int×Int)->Prop
 |.inl p=>∃(j:Nat)(st:List aX),p=⟨b,(j:Int),last,st⟩/\k<j/\j<=b.length/\st.length<=64/\VP st j
 |.inr o=>P0 b o
def MZ(hb:b.length<1048576){k q:Nat}(hk:k<q)(hq:q<=b.length){st:List aX}(h64:st.length<=64)(hw:VP st k){v:aa}(hv:Wd (67 -st.length) v){e:Int}{s:Bool}(hs:s=(e==0)):∃x,H8 (v,s,e,⟨b,(q:Int),last,st⟩)=some x/\GoV b last k x:=by
 have cg:room=140737488355328:=rfl
 subst hs
 by_cases he:e=0
 ·subst he
  unfold H8
  rw[bk h64]
  cases st with
  |nil=>exact⟨_,rfl,⟨q,rfl,hq⟩,hv⟩
  |cons w ws=>
   obtain⟨h1,h2,h3⟩:=hw
   refine⟨_,aA A_ rfl,q,_,rfl,hk,hq,h64,?_,?_,h3.mono AT⟩
   ·grind
   grind
 ·exact⟨_,mN he,Lx _⟩
theorem ME{L:List aa}(h:L.length % 2=0):(dY L (L.length/2)).flatten=L:=by
 have:∀k,(dY L k).flatten=L.take (2*k):=by
  intro k
  induction k with
  |zero=>simp[dY]
  |succ k ih=>grind [nH,List.flatten_append,jH]
 grind [List.take_of_length_le]
def UC{L:List aa}{n:Nat}(h1:L.length<1048576)(h2:L.length % 2=0)(hw:∀x∈L,Wd n x):∃M e,mq L=some (M,e)/\(e=0->M.length<1048577/\∀x∈M,Wd n x):=by
 unfold mq
 rw[bk ⟨AT,h2⟩]
 cases qa (xx (dY L (L.length/2)))with
 |true=>grind
 |false=>
  have hp:=Am (dY L (L.length/2))
  have hf:=hp.flatten
  grind [dY,ME]
def ahO(hb:b.length<1048576){k:Nat}(hk:k<=b.length){st:List aX}(h64:st.length<=64)(hw:VP st k):∃x,Mc ⟨b,(k:Int),last,st⟩=some x/\GoV b last k x:=by
 by_cases hok:(iO b last k).2=0
 ·have hM:=Pm (last:=last) hb hk h64 hok
  have ht:=A2 hk hok
  have hL:=akl b last k
  generalize(iO b last k).1=t at hM ht hL
  rw[hM]
  obtain⟨⟨j,ej,hj1,hj2,hj3⟩,kd,_⟩:=ht
  unfold wu
  cases h0:(t.Kind==0)with
  |true=>exact⟨_,mN By,Lx _⟩
  |false=>
  have hk0:t.Kind≠0:=M_
  have hj3:=hj3 hk0
  rw[cond_false]
  cases h1:(t.Kind==2||t.Kind==4)with
  |true=>
   unfold l8
   dsimp only
   rw[ej]
   cases e9 st with
   |true=>exact⟨_,mN (e:=11) By,Lx _⟩
   |false=>
    by_cases hD:64<=st.length
    ·rw[decide_eq_true hD];exact⟨_,mN (e:=15) By,Lx _⟩
    ·rw[decide_eq_false hD]
     exact⟨_,rfl,j,_,rfl,hj3,hj1,A_,Nat.zero_le _,fun x hx=>o_,hw.mono hj2⟩
  |false=>
  rw[cond_false]
  cases h2:(t.Kind==3||t.Kind==5)with
  |true=>
   rw[cond_true]
   unfold HX
   dsimp only
   rw[ej]
   cases he:oG st (t.Kind==5)with
   |true=>exact⟨_,mN (e:=11) By,Lx _⟩
   |false=>
    rw[cond_false]
    cases st with
    |nil=>cases he
    |cons w ws=>
     obtain⟨w1,w2,w3⟩:=hw
     have hws:ws.length<64:=h64
     dsimp only
     cases hd:(t.Kind==5)with
     |false=>exact MZ hb hj3 hj1 AT w3 (by rw[show 67 -ws.length=(66 -ws.length)+1 by omega];exact⟨A_,w2,fun h=>F_⟩) rfl
     |true=>
      rw[cond_true]
      have hev:w.l_.length % 2=0:=by
       rw[hd]at he
       have he:((w.ga !=true)||(true&&!(w.ga&&((w.l_.length:Int).tmod 2==0))))=false:=he
       cases hdd:w.ga with
       |false=>grind
       |true=>grind
      obtain⟨M,e,p1,p2⟩:=UC AT hev w2
      rw[p1,aN]
      by_cases he0:e=0
      ·subst he0
       exact MZ hb hj3 hj1 AT w3 (by rw[show 67 -ws.length=(66 -ws.length)+1 by omega];exact⟨(p2 rfl).1,(p2 rfl).2,fun h=>F_⟩) rfl
      ·have:(e !=0)=true:=by simpa using he0
       rw[this,cond_true,aN]
       exact⟨_,mN he0,Lx _⟩
  |false=>
   obtain⟨v,e,q,s1,s2,s3,s4⟩:=sgl (last:=last) hb ⟨⟨j,ej,hj1,hj2,fun _=>hj3⟩,kd,I_⟩ hL hk0 st
   rw[s1,aN]
   dsimp only
   cases hx:(e==0&&decide (64<=st.length))with
   |true=>exact⟨_,mN (e:=15) By,Lx _⟩
   |false=>exact MZ hb s3 s4 h64 hw (by rw[show 67 -st.length=(66 -st.length)+1 by omega];exact Wd.leaf s2.1 s2.2) rfl
 ·exact⟨_,Ll hb hk h64 hok,Lx _⟩
def ahN(hc:c.length<1048576)(hp:Ev b c){k:Nat}(hk:k<=b.length){st:List aX}(h64:st.length<=64){x:PS⊕(aa×Int×Int)}(h:Mc ⟨b,(k:Int),false,st⟩=some x):(∃v to,x=.inr (v,to,6))\/Mc ⟨c,(k:Int),l,st⟩=some (afm c l x):=by
 have hpl:=hp.1
 by_cases h6:(iO b false k).2=6
 ·grind [Ll]
 ·have e1:=uX (l:=l) hp hk h6
  by_cases hok:(iO b false k).2=0
  ·have ht:=A2 hk hok
   rw[Pm AT hk h64 hok]at h
   obtain⟨r,r1,r2⟩:=c6 h
   grind [mN,Pm,Vf,aN,SF]
  ·right
   rw[Ll AT hk h64 hok]at h
   injection h with h
   subst h
   rw[Ll hc AT h64 A_,e1]
   rfl
def PD{S T O:Type}{f:S->Option (S⊕O)}{g:T->Option (T⊕O)}(I:S->T->Prop)(μ:S->Nat)(J bad:O->Prop)
 (step:∀s t,I s t->∃x,f s=some x/\match x with
   |.inl s'=>(∃t',g t=some (.inl t')/\I s' t')/\μ s'<μ s
   |.inr o=>J o/\(bad o\/g t=some (.inr o))):∀(n:Nat)(s:S)(t:T),I s t->μ s<n->∃o,cC f n s=some o/\J o/\(bad o\/cC g n t=some o)
 |0,_,_,_,h=>absurd h (Nat.not_lt_zero _)
 |n+1,s,t,hi,hn=>by
  obtain⟨x,hx,h⟩:=step s t hi
  cases x with
  |inl s'=>
   obtain⟨⟨t',ht,hi'⟩,hm⟩:=h
   obtain⟨o,h1,h2,h3⟩:=PD I μ J bad step n s' t' hi' AT
   grind [cC,id]
  |inr o=>grind [cC,id]
def YP(hc:c.length<1048576)(hp:Ev b c){k:Nat}(hk:k<=b.length):∃o,lg b (k:Int) false=some o/\P0 b o/\(o.2.2=6\/lg c (k:Int) l=some o):=by
 have hpl:=hp.1
 have:=PD (f:=Mc) (g:=Mc) (fun s t=>∃(j:Nat)(st:List aX),s=⟨b,j,false,st⟩/\t=⟨c,j,l,st⟩/\j<=b.length/\st.length<=64/\VP st j) (fun s=>b.length -s.at_.toNat) (P0 b) (fun o=>o.2.2=6)
  (by
    rintro s t ⟨j,st,rfl,rfl,hj,h64,hw⟩
    obtain⟨x,h1,h2⟩:=ahO AT hj h64 hw
    refine⟨x,h1,?_⟩
    have h3:=ahN (l:=l) hc hp hj h64 h1
    cases x with
    |inl p=>
     obtain⟨j',st',rfl,g1,g2,g3,g4⟩:=h2
     rcases h3 with⟨_,_,h3⟩|h3
     ·cases h3
     ·exact⟨⟨_,h3,j',st',rfl,rfl,g2,g3,g4⟩,A_⟩
    |inr o=>
     refine⟨h2,?_⟩
     rcases h3 with⟨v,to,h3⟩|h3
     ·grind
     ·exact .inr h3) 18446744073709551616 ⟨b,k,false,[]⟩ ⟨c,k,l,[]⟩ ⟨k,[],rfl,rfl,hk,Nat.zero_le _,trivial⟩ A_
 exact this
end
namespace Fq
abbrev z0:aa:=aa.mk 0 0 (aO.mk []) ([]:List aa)
def yb(v:aa)(key:aO)(h:v.L.length<1048578):∃r,gW v key=some r/\-1<=r/\r<v.L.length:=by
 by_cases hk:(v.Kind !=7)=true
 ·exact⟨-1,aM hk rfl,AT,AT⟩
 ·obtain⟨o,h1,h2⟩:∃o:Unit⊕Int,iter (fun(i2:Int)=>
   if decide (i2<(v.L.length:Int))then
    a8 (0<=i2/\i2<v.L.length)<|
    a8 ((((ix v.L i2).Kind)==5)=true->0<=i2/\i2<v.L.length)<|
    if(((ix v.L i2).Kind)==5)&&(((ix v.L i2).S).b==key.b)then
     some (.inr (.inr i2))
    else
     some (.inl (aC (i2+2)))
   else
    some (.inr (.inl ()))) 0=some o/\(∀r,o=.inr r->0<=r/\r<v.L.length):=by
   refine dw (fun i=>0<=i) (fun i=>((v.L.length:Int) -i).toNat) _ (Int.le_refl 0) AT fun i hi=>?_
   by_cases hl:i<(v.L.length:Int)
   ·rw[if_pos Xb8,bk ⟨hi,hl⟩,bk (fun _=>⟨hi,hl⟩)]
    split
    ·exact⟨_,rfl,fun r e=>by injection e with e;subst e;exact⟨hi,hl⟩⟩
    ·refine⟨_,rfl,?_⟩
     show 0<=aC (i+2)/\((v.L.length:Int) -aC (i+2)).toNat<((v.L.length:Int) -i).toNat
     rw[an AT AT]
     exact⟨AT,AT⟩
   ·rw[if_neg Xb8]
    exact⟨_,rfl,fun r e=>f_⟩
  unfold gW
  rw[if_neg hk,h1]
  cases o with
  |inl u=>exact⟨-1,rfl,AT,AT⟩
  |inr r=>exact⟨r,rfl,by have:=h2 r rfl;omega,by have:=h2 r rfl;omega⟩
def got(v:aa)(key:aO)(hL:v.L.length<1048578):∃g:aa×Bool,cM v key=some g/\(g.1=z0\/g.1∈v.L):=by
 obtain⟨i,h1,h2,h3⟩:=yb v key hL
 by_cases h0:i<0
 ·exact⟨_,ah h1 (aM M_ rfl),.inl rfl⟩
 have e:aC (i+1)=i+1:=an AT AT
 by_cases h4:i+1=(v.L.length:Int)
 ·exact⟨_,ah h1 (al M_ (aM (by rw[e];simpa using h4) rfl)),.inl rfl⟩
 ·refine⟨_,ah h1 (al M_ (al (by rw[e];simpa using h4) (aA (by rw[e];omega) rfl))),.inr ?_⟩
  obtain⟨k,hk⟩:∃k:Nat,i+1=k:=⟨(i+1).toNat,AT⟩
  rw[e,hk,gr AT]
  exact List.getElem_mem _
def WR(v:aa)(key:aO)(hL:v.L.length<1048577):∃i:Int,mb v key=some (decide (i>=0)):=by
 obtain⟨g,h1,_⟩:=got v key AT
 obtain⟨x,b⟩:=g
 cases b with
 |true=>exact⟨0,ah h1 rfl⟩
 |false=>exact⟨-1,ah h1 rfl⟩
def QP(v:aa)(hL:v.L.length<1048577):∃p:Bool×Bool,lH v=some p:=by
 obtain⟨⟨g,i⟩,h1,_⟩:=got v (aO.mk [70,105,108,116,101,114]) AT
 refine⟨_,ah h1 (e7 (a:=if((g.Kind==6)&&((g.L.length:Int)==1))=true then ix g.L 0 else g) ?_ rfl)⟩
 by_cases hc:((g.Kind==6)&&((g.L.length:Int)==1))=true
 ·exact aM hc (aA (by have h2:=eq_of_beq (Bool.and_eq_true_iff.1 hc).2;show 0<=(0:Int)/\(0:Int)<(g.L.length:Int);omega) (by rw[if_pos hc]))
 ·exact al hc (by rw[if_neg hc])
def BW(v:aa)(key:aO)(hW:Wd 67 v):∃w,fg v key=some w/\Wd 67 w:=by
 have cg:room=140737488355328:=rfl
 have hL:=hW.1
 obtain⟨i,h1,h2,h3⟩:=yb v key AT
 by_cases h0:i<0
 ·exact⟨v,ah h1 (aM M_ rfl),hW⟩
 ·refine⟨_,ah h1 (al M_ (aA ⟨AT,AT,AT⟩ rfl)),?_,fun x hx=>?_,hW.2.2⟩
  ·simp only[List.length_append,List.length_take,List.length_drop];omega
  ·rcases List.mem_append.1 hx with hx|hx
   ·exact hW.2.1 x (List.mem_of_mem_take hx)
   ·exact hW.2.1 x (List.mem_of_mem_drop hx)
def afv(v:aa)(hW:Wd 67 v):∃w1 w2,fg v (aO.mk [76,101,110,103,116,104])=some w1/\fg w1 (aO.mk [70,105,108,116,101,114])=some w2/\Wd 67 w2:=by
 obtain⟨w1,a1,aW⟩:=BW v (aO.mk [76,101,110,103,116,104]) hW
 obtain⟨w2,b1,bW⟩:=BW w1 (aO.mk [70,105,108,116,101,114]) aW
 exact⟨w1,w2,a1,b1,bW⟩
end Fq
namespace Fq
abbrev R(b:List UInt8)(at_:Int)(last:Bool)(e:Int):af:=af.mk (cw.mk b at_ last) e
abbrev o0:aJ:=aJ.mk z0 false (aO.mk [])
def afp(last:Bool):Int:=if last then 10 else 6
section
variable{r:af}(h:r.e_≠0)
include h
theorem Zr(x y:Int):b9 r x y=some (0,r):=by unfold b9;grind
theorem Sm(w:aO):aD r w=some r:=by unfold aD;grind
theorem Sl:cy r=some (z0,r):=by unfold cy;grind
theorem Sk:bz r=some (false,r):=by unfold bz;grind
theorem BV(n:Int):bd r n=some ([],r):=by unfold bd;grind
end
theorem oI(b:List UInt8)(at_:Int)(last:Bool)(e:Int):ay (R b at_ last 0) e=some (R b at_ last e):=D_
theorem uY(b:List UInt8)(at_:Int)(last:Bool):dI (cw.mk b at_ last)=some (afp last):=by grind [dI,afp,last]
section
variable{b:List UInt8}{last:Bool}
def RP{j:Nat}(hb:b.length<1048576)(hj:j<=b.length)(e:Int):∃k:Nat,k<=b.length/\
 a8 ((decide ((j:Int)<(b.length:Int)))=true->0<=(j:Int)/\(j:Int)<b.length) (if(decide ((j:Int)<(b.length:Int)))&&(((ix b (j:Int)).toNat:Int)==13)then some (aC ((j:Int)+1))else some (j:Int))=some (k:Int)/\
 a8 ((decide ((j:Int)<(b.length:Int)))=true->0<=(j:Int)/\(j:Int)<b.length) (if(decide ((j:Int)<(b.length:Int)))&&(((ix b (j:Int)).toNat:Int)==13)then some (R b (aC ((j:Int)+1)) last e)else some (R b (j:Int) last e))=some (R b (k:Int) last e):=by
 have w:aC (j+1)=((j+1:Nat)):=E_
 rw[w]
 have hn:(decide (j<(b.length:Int)))=true->0<=(j:Int)/\(j:Int)<b.length:=fun h=>⟨BY,of_decide_eq_true h⟩
 by_cases hc:((decide ((j:Int)<b.length))&&(((ix b j).toNat:Int)==13))=true
 ·have hlt:=of_decide_eq_true (Bool.and_eq_true_iff.1 hc).1
  exact⟨j+1,AT,aA hn (aM hc rfl),aA hn (aM hc rfl)⟩
 ·exact⟨j,hj,aA hn (al hc rfl),aA hn (al hc rfl)⟩
theorem ze:¬((0:Int)!=0)=true:=BY
abbrev A7(v g:aa):Bool:=(((v.Kind !=7)||(g.Kind !=2))||(decide (g.N<0)))||(decide (g.N>16777216))
def eN(q:Int×Int×Int)(x y:Int):Int:=if(q.2.2==0)&&((decide (q.1<x))||(decide (q.1>y)))then 18 else q.2.2
def zZ{at_:Int}{q:Int×Int×Int}(h:ja b at_ last=some q)(x y:Int):b9 (R b at_ last 0) x y=some (q.1,R b q.2.1 last (eN q x y)):=by
 refine al ze (ah h (e7 ?_ rfl))
 grind [eN]
theorem Wd0:Wd 67 z0:=Wd.leaf rfl (fun h=>F_)
end
end Fq
namespace Fq
section
variable{b c:List UInt8}{l:Bool}
def Tw(b c:List UInt8)(l:Bool)(r s:af):Prop:=∃(j:Nat)(e:Int),r=R b (j:Int) false e/\j<=b.length/\(e≠6->∃i:Nat,s=R c (i:Int) l e/\i<=c.length/\(e=0->i=j))
def Tw.Ys{j:Nat}(hj:j<=b.length)(s:af):Tw b c l (R b (j:Int) false 6) s:=⟨j,6,rfl,hj,fun h=>absurd rfl h⟩
def Tw.both{j:Nat}{e:Int}(hp:Ev b c)(hj:j<=b.length):Tw b c l (R b (j:Int) false e) (R c (j:Int) l e):=⟨j,e,rfl,hj,fun _=>⟨j,rfl,by have:=hp.1;omega,fun _=>rfl⟩⟩
def qx{α:Type}(b c:List UInt8)(l:Bool)(r s:af)(F:af->Option (α×af)):Prop:=∃x r' s',F r=some (x,r')/\Tw b c l r' s'/\(r'.e_≠6->r.e_≠6/\F s=some (x,s'))
def qx.dead{α:Type}{r s:af}(h:Tw b c l r s)(he:r.e_≠0){F:af->Option (α×af)}(x:α)(hF:∀r:af,r.e_≠0->F r=some (x,r)):qx b c l r s F:=by
 refine⟨x,r,s,hF r he,h,fun h6=>⟨h6,hF s ?_⟩⟩
 obtain⟨j,e,rfl,hj,h2⟩:=h
 obtain⟨i,rfl,_⟩:=h2 h6
 exact he
theorem Tw.live{r s:af}(h:Tw b c l r s)(he:r.e_=0):∃j:Nat,j<=b.length/\r=R b (j:Int) false 0/\s=R c (j:Int) l 0:=by
 obtain⟨j,e,rfl,hj,h2⟩:=h
 obtain rfl:e=0:=he
 obtain⟨i,rfl,_,h3⟩:=h2 BY
 obtain rfl:=h3 rfl
 exact⟨i,hj,rfl,rfl⟩
theorem qx.by{α:Type}{r s:af}(h:Tw b c l r s){F:af->Option (α×af)}(x:α)(hF:∀r:af,r.e_≠0->F r=some (x,r))(Tk:∀j:Nat,j<=b.length->qx b c l (R b (j:Int) false 0) (R c (j:Int) l 0) F):qx b c l r s F:=by
 by_cases he:r.e_=0
 ·obtain⟨j,hj,rfl,rfl⟩:=h.live he
  exact Tk j hj
 ·exact qx.dead h he x hF
def n06{b:List UInt8}{j:Int}{l:Bool}:(R b j l 0).e_≠6:=BY
variable(hc:c.length<1048576)(hp:Ev b c)
def z6{last:Bool}{k:Nat}(hk:k<=b.length):∃j:Nat,(iO b last k).1.To=(j:Int)/\j<=b.length:=by
 by_cases h:(iO b last k).2=0
 ·obtain⟨⟨j,h1,h2,_⟩,_,_⟩:=A2 hk h
  exact⟨j,h1,h2⟩
 ·have hs:=N5 k hk
  refine⟨Fa b k,?_,hs.2⟩
  unfold iO at h⊢
  cases hx:b[Fa b k]? with
  |none=>rfl
  |some x=>
   have tk:∀f t q,(tok f t q).2≠0->(tok f t q).1.To=f:=fun f t q h=>by
    unfold tok at h⊢
    split
    ·rfl
    ·rename_i hn;rw[if_neg hn]at h;exact absurd rfl h
   have sr:∀f q,(An f q).2≠0->(An f q).1.To=f:=fun f q h=>by
    cases q with
    |inl q=>exact absurd rfl h
    |inr e=>rfl
   grind [Mk,Uk]
include hc hp
theorem GO{r s:af}(h:Tw b c l r s)(x y:Int):qx b c l r s (fun r=>b9 r x y):=by
 have hpl:=hp.1
 refine qx.by h 0 (fun r hr=>Zr hr x y) fun j hj=>?_
 have h1:=zZ (Iw (last:=false) AT j hj) x y
 by_cases h6:(iO b false j).2=6
 ·have:yL b false j=(0,0,6):=by unfold yL;rw[h6];rfl
  rw[this]at h1
  exact⟨_,_,R c 0 l 0,h1,Tw.Ys (Nat.zero_le _) _,fun h=>absurd rfl h⟩
 ·have e1:yL c l j=yL b false j:=by unfold yL;rw[uX hp hj h6]
  have h2:=zZ (Iw (last:=l) hc j AT) x y
  rw[e1]at h2
  obtain⟨i,i1,i2⟩:∃i:Nat,(yL b false j).2.1=i/\i<=b.length:=by
   obtain⟨i,i1,i2⟩:=z6 (last:=false) hj
   unfold yL
   split
   ·exact⟨0,rfl,Nat.zero_le _⟩
   ·split
    ·exact⟨0,rfl,Nat.zero_le _⟩
    ·split
     ·exact⟨0,rfl,Nat.zero_le _⟩
     grind [i1]
  rw[i1]at h1 h2
  exact⟨_,_,_,h1,Tw.both hp i2,fun _=>⟨n06,h2⟩⟩
def W1(F:af->Option af):af->Option (Unit×af):=fun r=>aQ (F r) fun r=>some ((),r)
theorem JG{r s:af}(h:Tw b c l r s)(w:List UInt8):qx b c l r s (W1 fun r=>aD r ⟨w⟩):=by
 have hpl:=hp.1
 refine qx.by h () (fun r hr=>ah (Sm hr ⟨w⟩) rfl) fun j hj=>?_
 have wd:∀{b:List UInt8}{last:Bool},b.length<1048576->j<=b.length->W1 (fun r=>aD r ⟨w⟩) (R b j last 0)=some ((),R b (nc b last j w).1 last (nc b last j w).2):=fun hb hj=>by
  refine ah ?_ rfl
  exact al ze (ah (TV hb j hj w) rfl)
 have h1:=wd (last:=false) AT hj
 by_cases h6:(iO b false j).2=6
 ·have:nc b false j w=(0,6):=by unfold nc;rw[h6];rfl
  rw[this]at h1
  exact⟨_,_,R c 0 l 0,h1,Tw.Ys (Nat.zero_le _) _,fun h=>absurd rfl h⟩
 ·have e1:nc c l j w=nc b false j w:=by unfold nc;rw[uX hp hj h6]
  have h2:=wd (last:=l) hc AT
  rw[e1]at h2
  obtain⟨i,i1,i2⟩:∃i:Nat,(nc b false j w).1=i/\i<=b.length:=by
   obtain⟨i,i1,i2⟩:=z6 (last:=false) hj
   unfold nc
   split
   ·exact⟨0,rfl,Nat.zero_le _⟩
   ·split
    ·exact⟨0,rfl,Nat.zero_le _⟩
    ·split
     ·exact⟨0,rfl,Nat.zero_le _⟩
     grind [i1]
  rw[i1]at h1 h2
  exact⟨_,_,_,h1,Tw.both hp i2,fun _=>⟨n06,h2⟩⟩
theorem VD{r s:af}(h:Tw b c l r s):qx b c l r s cy/\∀v r',cy r=some (v,r')->Wd 67 v:=by
 by_cases he:r.e_=0
 ·obtain⟨j,hj,rfl,rfl⟩:=h.live he
  obtain⟨⟨v,to,e⟩,h1,h2,h3⟩:=YP hc hp hj
  obtain⟨⟨i,i1,i2⟩,h2⟩:=h2
  subst i1
  have g1:cy (R b j false 0)=some (v,R b i false e):=by exact al ze (ah h1 rfl)
  refine⟨?_,fun v' r' hv=>?_⟩
  ·by_cases h6:e=6
   ·subst h6
    exact⟨_,_,R c 0 l 0,g1,Tw.Ys i2 _,fun h=>absurd rfl h⟩
   ·have g2:cy (R c j l 0)=some (v,R c i l e):=by
     exact al ze (ah (h3.resolve_left h6) rfl)
    exact⟨_,_,_,g1,Tw.both hp i2,fun _=>⟨n06,g2⟩⟩
  grind [hv]
 ·refine⟨qx.dead h he _ fun r hr=>Sl hr,fun v' r' hv=>?_⟩
  grind [Sl,hv,Wd0]
theorem Oc{r s:af}(h:Tw b c l r s):qx b c l r s bz/\∀x r',bz r=some (x,r')->x=true->r'.e_=0:=by
 have hpl:=hp.1
 have go:∀{b:List UInt8}{last:Bool}{j:Nat},b.length<1048576->j<=b.length->∃x e,bz (R b j last 0)=some (x,R b (iO b last j).1.To last e)/\((iO b last j).2≠0->e=(iO b last j).2)/\(x=true->e=0)/\∀c l,c.length<1048576->j<=c.length->iO c l j=iO b last j->bz (R c j l 0)=some (x,R c (iO b last j).1.To l e):=by
  intro b last j hb hj
  have key:∃x e,((iO b last j).2≠0->e=(iO b last j).2)/\(x=true->e=0)/\∀c l,c.length<1048576->j<=c.length->iO c l j=iO b last j->bz (R c j l 0)=some (x,R c (iO b last j).1.To l e):=by
   generalize iO b last j=q
   obtain⟨t,e⟩:=q
   have st:∀x e2,(∀c l,(jn (
    if e !=0 then
     some (R c t.To l e)
    else
     if t.Kind==0 then
      aQ (ay (R c t.To l e) 10) fun r4=>
      some r4
     else
      if(t.Kind !=6)||((!(t.S.b==(aO.mk [101,110,100,111,98,106]).b))&&(!(t.S.b==(aO.mk [115,116,114,101,97,109]).b)))then
       aQ (ay (R c t.To l e) 18) fun r5=>
       some r5
      else
       some (R c t.To l e)) fun o3=>
    some ((o3.e_==0)&&(t.S.b==(aO.mk [115,116,114,101,97,109]).b),o3))=some (x,R c t.To l e2))->∀c l,c.length<1048576->j<=c.length->iO c l j=(t,e)->bz (R c j l 0)=some (x,R c t.To l e2):=fun x e2 h c l hc hj hn=>by
    exact al ze (ah (AU hc j hj) A_)
   by_cases he:e=0
   ·subst he
    by_cases h0:(t.Kind==0)=true
    ·exact⟨false,10,fun h=>absurd rfl h,(fun h=>A_),st _ _ fun c l=>e7 (al ze (aM h0 (ah (oI _ _ _ _) rfl))) rfl⟩
    ·by_cases hw:((t.Kind !=6)||((!(t.S.b==(aO.mk [101,110,100,111,98,106]).b))&&(!(t.S.b==(aO.mk [115,116,114,101,97,109]).b))))=true
     ·exact⟨false,18,fun h=>absurd rfl h,(fun h=>A_),st _ _ fun c l=>e7 (al ze (al h0 (aM hw (ah (oI _ _ _ _) rfl)))) rfl⟩
     ·exact⟨_,0,fun h=>absurd rfl h,fun _=>rfl,st _ _ fun c l=>e7 (al ze (al h0 (al hw rfl))) rfl⟩
   ·have hn:(e !=0)=true:=A_
    refine⟨false,e,fun _=>rfl,(fun h=>A_),st _ _ fun c l=>e7 (aM hn rfl) ?_⟩
    rw[show(e==0)=false by simpa using he];rfl
  obtain⟨x,e,h1,h2,h3⟩:=key
  exact⟨x,e,h3 b last hb hj rfl,h1,h2,h3⟩
 refine⟨qx.by h false (fun r hr=>Sk hr) fun j hj=>?_,fun x r' hx hx2=>?_⟩
 ·obtain⟨x,e,h1,h2,_,h3⟩:=go AT hj
  obtain⟨i,i1,i2⟩:=z6 hj
  by_cases h6:(iO b false j).2=6
  ·rw[h2 (by rw[h6];decide),h6,i1]at h1
   exact⟨_,_,R c 0 l 0,h1,Tw.Ys i2 _,fun h=>absurd rfl h⟩
  ·have h4:=h3 c l hc AT (uX hp hj h6)
   rw[i1]at h1 h4
   exact⟨_,_,_,h1,Tw.both hp i2,fun _=>⟨n06,h4⟩⟩
 ·by_cases he:r.e_=0
  ·obtain⟨j,hj,rfl,rfl⟩:=h.live he
   obtain⟨x',e,h1,_,h2,_⟩:=go AT hj
   rw[h1]at hx
   injection hx with hx
   injection hx with hx1 hx3
   subst hx1 hx3
   exact h2 hx2
  grind [Sk]
omit hp in
theorem oT{j:Nat}{last:Bool}(hj:j<=c.length){e:Int}(he:e≠0):∃k:Nat,k<=c.length/\bG (R c (j:Int) last e)=some (R c (k:Int) last e):=by
 obtain⟨k,hk,_,h2⟩:=RP (last:=last) hc hj e
 refine⟨k,hk,?_⟩
 unfold bG
 exact e7 h2 (aM G_ rfl)
theorem Xx{r s:af}(h:Tw b c l r s):qx b c l r s (W1 bG):=by
 have hpl:=hp.1
 by_cases he:r.e_=0
 ·obtain⟨j,hj,rfl,rfl⟩:=h.live he
  have hix:∀k:Nat,k<b.length->ix c (k:Int)=ix b (k:Int):=fun k hk=>by
   have:=hp.2 _ _ (List.getElem?_eq_getElem hk)
   grind [dH,List.getElem?_eq_getElem]
  have pl:∃k:Nat,k<=b.length/\∀(c:List UInt8)(l:Bool),b.length<=c.length->c.length<1048576->(∀k:Nat,k<b.length->ix c (k:Int)=ix b (k:Int))->k<b.length\/c=b->
   a8 ((decide ((j:Int)<(c.length:Int)))=true->0<=(j:Int)/\(j:Int)<c.length) (if(decide ((j:Int)<(c.length:Int)))&&(((ix c (j:Int)).toNat:Int)==13)then some (R c (aC ((j:Int)+1)) l 0)else some (R c (j:Int) l 0))=some (R c (k:Int) l 0):=by
   have w:aC ((j:Int)+1)=((j+1:Nat):Int):=E_
   by_cases hjl:j<b.length
   ·by_cases h13:(((ix b (j:Int)).toNat:Int)==13)=true
    ·refine⟨j+1,AT,fun c l h1 h2 h3 _=>aA (fun _=>AT) (aM (by grind [decide_eq_true]) (by rw[w]))⟩
    ·refine⟨j,AT,fun c l h1 h2 h3 _=>aA (fun _=>AT) (al (by rw[h3 j hjl];simp[h13]) rfl)⟩
   ·refine⟨j,hj,fun c l h1 h2 h3 h4=>?_⟩
    rcases h4 with h4|rfl
    ·omega
    ·exact aA (fun h=>⟨AT,of_decide_eq_true h⟩) (al (by grind [decide_eq_false]) rfl)
  obtain⟨k,hk,afW⟩:=pl
  have pb:=afW b false (Nat.le_refl _) AT (fun _ _=>rfl) (.inr rfl)
  by_cases hkl:k<b.length
  ·have pc:=afW c l hpl hc hix (.inl hkl)
   have fin:∀(c:List UInt8)(l:Bool),b.length<=c.length->c.length<1048576->(∀k:Nat,k<b.length->ix c (k:Int)=ix b (k:Int))->a8 ((decide ((j:Int)<(c.length:Int)))=true->0<=(j:Int)/\(j:Int)<c.length) (if(decide ((j:Int)<(c.length:Int)))&&(((ix c (j:Int)).toNat:Int)==13)then some (R c (aC ((j:Int)+1)) l 0)else some (R c (j:Int) l 0))=some (R c (k:Int) l 0)->
    W1 bG (R c (j:Int) l 0)=some ((),if(((ix b (k:Int)).toNat:Int)!=10)=true then R c (k:Int) l 18 else R c ((k+1:Nat):Int) l 0):=fun c l h1 h2 h3 h4=>by
    have w:aC ((k:Int)+1)=((k+1:Nat):Int):=E_
    refine ah ?_ rfl
    unfold bG
    refine e7 h4 (al ze (al (by grind [decide]) (aA A_ ?_)))
    rw[h3 k hkl]
    split
    ·exact ah (oI _ _ _ _) rfl
    ·rw[w]
   have f1:=fin b false (Nat.le_refl _) AT (fun _ _=>rfl) pb
   have f2:=fin c l hpl hc hix pc
   refine⟨_,_,_,f1,?_,fun _=>⟨n06,f2⟩⟩
   split
   ·exact Tw.both hp hk
   ·exact Tw.both hp hkl
  ·refine⟨(),R b (k:Int) false 6,R c 0 l 0,ah ?_ rfl,Tw.Ys hk _,fun h=>absurd rfl h⟩
   unfold bG
   exact e7 pb (al ze (aM C3 (ah (uY b _ false) (ah (oI _ _ _ _) rfl))))
 ·obtain⟨j,e,rfl,hj,h2⟩:=h
  have he:e≠0:=he
  obtain⟨k,hk,hl⟩:=oT (c:=b) (last:=false) AT hj he
  by_cases h6:e=6
  ·subst h6
   exact⟨(),_,R c 0 l 0,ah hl rfl,Tw.Ys hk _,fun h=>absurd rfl h⟩
  ·obtain⟨i,rfl,hi,_⟩:=h2 h6
   obtain⟨k2,hk2,hl2⟩:=oT (last:=l) hc hi he
   exact⟨(),_,_,ah hl rfl,⟨k,e,rfl,hk,fun _=>⟨k2,rfl,hk2,fun h=>absurd h he⟩⟩,fun _=>⟨h6,ah hl2 rfl⟩⟩
theorem RX{r s:af}(h:Tw b c l r s)(n:Int)(hn:r.e_=0->0<=n/\n<=16777216):qx b c l r s (fun r=>bd r n):=by
 have hpl:=hp.1
 by_cases he:r.e_=0
 ·obtain⟨j,hj,rfl,rfl⟩:=h.live he
  obtain⟨m,rfl⟩:∃m:Nat,n=m:=⟨n.toNat,AT⟩
  have w3:∀c:List UInt8,c.length<1048576->aC (c.length -j)=c.length -j:=fun c hc=>an AT AT
  by_cases hlt:b.length -j<m
  ·refine⟨[],R b j false 6,R c 0 l 0,?_,Tw.Ys hj _,fun h=>absurd rfl h⟩
   exact al ze (aM A_ (ah (uY b _ false) (ah (oI _ _ _ _) rfl)))
  ·have w4:aC (j+m)=((j+m:Nat):Int):=E_
   have w5:aC (((j+m:Nat):Int) -m)=j:=E_
   have hby:∀c(l:Bool),c.length<1048576->j+m<=c.length->bd (R c j l 0) m=some (part c j ((j+m:Nat):Int),R c ((j+m:Nat):Int) l 0):=fun c l hc hm=>by
    refine al ze (al A_ ?_)
    show a8 (0<=aC ((aC (j+m)) -m)/\aC ((aC (j+m)) -m)<=aC (j+m)/\aC (j+m)<=c.length) (some (part c (aC ((aC (j+m)) -m)) (aC (j+m)),R c (aC (j+m)) l 0))=_
    rw[w4,w5]
    exact aA AT rfl
   have h1:=hby b false AT AT
   have h2:=hby c l hc AT
   rw[hp.part AT]at h2
   exact⟨_,_,_,h1,Tw.both hp AT,fun _=>⟨n06,h2⟩⟩
 ·exact qx.dead h he [] fun r hr=>BV hr n
omit hc hp in
theorem OU{r s:af}(h:Tw b c l r s){e:Int}(h6:e≠6):qx b c l r s (W1 fun r=>ay r e):=by
 obtain⟨j,e1,rfl,hj,h2⟩:=h
 by_cases h0:e1=0
 ·subst h0
  obtain⟨i,rfl,hi,h3⟩:=h2 By
  obtain rfl:=h3 rfl
  exact⟨(),_,_,ah (oI _ _ _ _) rfl,⟨i,e,rfl,hj,fun _=>⟨i,rfl,hi,fun _=>rfl⟩⟩,fun _=>⟨n06,ah (oI _ _ _ _) rfl⟩⟩
 ·refine qx.dead ⟨j,e1,rfl,hj,h2⟩ h0 () fun r hr=>ah (a:=r) ?_ rfl
  unfold ay
  exact al (by simpa using hr) rfl
def Ww(p:Bool)(x:List UInt8)(r:af):Option (List UInt8×af):=
 if p&&(r.e_==0)then
  aQ (gN x 16777216) fun r18=>
  jn (
   if r18.2.2 !=0 then
    aQ (ay r 18) fun r23=>
    some r23
   else
    some r) fun(o22:af)=>
  some (r18.1,o22)
  else
   some (x,r)
omit hc hp in
theorem Wr{r s:af}(h:Tw b c l r s)(p:Bool){x:List UInt8}(hx:r.e_=0->x.length<1048576):qx b c l r s (Ww p x):=by
 cases p with
 |false=>refine⟨x,r,s,al BY rfl,h,fun h6=>⟨h6,al BY rfl⟩⟩
 |true=>
  by_cases he:r.e_=0
  ·obtain⟨j,hj,rfl,rfl⟩:=h.live he
   have hu:gN x 16777216=some (tc x 16777216):=by unfold gN;exact aA ⟨by have:=hx rfl;omega,By,By⟩ rfl
   generalize tc x 16777216=u at hu
   by_cases h0:(u.2.2 !=0)=true
   ·obtain⟨_,r',s',h1,h2,h3⟩:=OU h (e:=18) By
    obtain⟨r1,h4,h5⟩:=c6 h1
    injection h5 with h5
    injection h5 with _ h5
    subst h5
    refine⟨u.1,r1,s',aM rfl (ah hu (e7 (aM h0 (ah h4 rfl)) rfl)),h2,fun h6=>?_⟩
    obtain⟨g1,g2⟩:=h3 h6
    obtain⟨s1,g4,g5⟩:=c6 g2
    injection g5 with g5
    injection g5 with _ g5
    subst g5
    exact⟨g1,aM rfl (ah hu (e7 (aM h0 (ah g4 rfl)) rfl))⟩
   ·refine⟨u.1,_,_,aM rfl (ah hu (e7 (al h0 rfl) rfl)),h,fun h6=>⟨h6,aM rfl (ah hu (e7 (al h0 rfl) rfl))⟩⟩
  ·refine qx.dead h he x fun r hr=>al (by simp[hr]) rfl
omit hc hp in
theorem qx.seq{α β:Type}{r s:af}{F:af->Option (α×af)}{K:α->af->Option (β×af)}(h:qx b c l r s F)(hk:∀x r' s',F r=some (x,r')->Tw b c l r' s'->qx b c l r' s' (K x)):qx b c l r s (fun r=>aQ (F r) fun q=>K q.1 q.2):=by
 obtain⟨x,r',s',h1,h2,h3⟩:=h
 obtain⟨y,r2,s2,g1,g2,g3⟩:=hk x r' s' h1 h2
 refine⟨y,r2,s2,ah h1 g1,g2,fun h6=>?_⟩
 obtain⟨k1,k2⟩:=g3 h6
 obtain⟨k3,k4⟩:=h3 k1
 exact⟨k3,ah k4 k2⟩
omit hc hp in
theorem qx.pure{α:Type}{r s:af}(h:Tw b c l r s)(x:α):qx b c l r s (fun r=>some (x,r)):=⟨x,r,s,rfl,h,fun h6=>⟨h6,rfl⟩⟩
omit hc hp in
theorem qx.eq{α:Type}{r s:af}{F G:af->Option (α×af)}(h:qx b c l r s F)(e:∀r,F r=G r):qx b c l r s G:=by
 have:F=G:=funext e
 rw[<-this];exact h
omit hc hp in
theorem Hi{v:aa}(hW:Wd 67 v):∃(g:aa)(i:Int)(p:Bool×Bool)(w2:aa),Wd 67 w2/\∀r,(aQ (W1 (fun r=>if((A7 v g||decide (i>=0))||!p.2)=true then ay r 18 else some r) r) fun q1=>aQ (W1 bG q1.2) fun q2=>aQ (bd q2.2 g.N) fun q3=>aQ (W1 (fun r=>aD r (aO.mk [101,110,100,115,116,114,101,97,109])) q3.2) fun q4=>aQ (W1 (fun r=>aD r (aO.mk [101,110,100,111,98,106])) q4.2) fun q5=>aQ (Ww p.1 q3.1 q5.2) fun q6=>some ((⟨w2,true,⟨q6.1⟩⟩:aJ),q6.2))=bw r v:=by
 obtain⟨⟨g,gi⟩,g1,_⟩:=got v (aO.mk [76,101,110,103,116,104]) (by have:=hW.1;omega)
 obtain⟨p,p1⟩:=QP v hW.1
 obtain⟨i,i1⟩:=WR v (aO.mk [68,101,99,111,100,101,80,97,114,109,115]) hW.1
 obtain⟨w1,w2,a1,a2,hW2⟩:=afv v hW
 have hA:aQ (jA (!A7 v g) false (mb v (aO.mk [68,101,99,111,100,101,80,97,114,109,115]))) (fun r8=>some ((A7 v g||r8)||(!p.2)))=some ((A7 v g||decide (i>=0))||!p.2):=by
  cases hA:A7 v g with
  |true=>rfl
  |false=>exact ah i1 rfl
 refine⟨g,i,p,w2,hW2,fun r=>?_⟩
 unfold bw
 rw[g1,aN,p1,aN]
 have hB:∀(r:af),(aQ (jA (!((((v.Kind !=7)||(g.Kind !=2))||(decide (g.N<0)))||(decide (g.N>16777216)))) false (mb v (aO.mk [68,101,99,111,100,101,80,97,114,109,115]))) fun r8=>
 if(((((v.Kind !=7)||(g.Kind !=2))||(decide (g.N<0)))||(decide (g.N>16777216)))||r8)||(!p.2)then
  aQ (ay r 18) fun r9=>
  some r9
 else
  some r)=if((A7 v g||decide (i>=0))||!p.2)=true then ay r 18 else some r:=fun r=>by
  obtain⟨q,h1,h2⟩:=c6 hA
  injection h2 with h2
  refine ah h1 ?_
  show(if((A7 v g||q)||(!p.2))=true then aQ (ay r 18) (fun r9=>some r9)else some r)=_
  rw[h2]
  split
  ·cases ay r 18<;>rfl
  ·rfl
 rw[hB]
 simp only[W1]
 cases(if((A7 v g||decide (i>=0))||!p.2)=true then ay r 18 else some r)with
 |none=>rfl
 |some r1=>
 show aQ (aQ (bG r1) _) _=jn (some r1) _
 rw[Iu]
 cases bG r1 with
 |none=>rfl
 |some r2=>
 rw[aN,aN,aN]
 cases bd r2 g.N with
 |none=>rfl
 |some r3=>
 rw[aN,aN]
 cases aD r3.2 (aO.mk [101,110,100,115,116,114,101,97,109])with
 |none=>rfl
 |some r4=>
 rw[aN,aN,aN]
 cases aD r4 (aO.mk [101,110,100,111,98,106])with
 |none=>rfl
 |some r5=>
 rw[aN,aN,aN]
 unfold Ww
 rw[a1]
 generalize(if(p.1&&(r5.e_==0))=true then _ else _:Option (List UInt8×af))=z
 cases z with
 |none=>rfl
 |some z=>
  rw[aN,Iu]
  rw[aN,a2]
  rfl
theorem Rn{r s:af}(h:Tw b c l r s){v:aa}(hW:Wd 67 v):qx b c l r s (fun r=>bw r v)/\∀o r',bw r v=some (o,r')->Wd 67 o.V:=by
 have hpl:=hp.1
 obtain⟨g,i,p,w2,hW2,e⟩:=Hi hW
 have main:qx b c l r s (fun r=>bw r v):=by
  refine qx.eq ?_ e
  refine qx.seq (K:=fun _ q=>aQ (W1 bG q) fun q2=>aQ (bd q2.2 g.N) fun q3=>aQ (W1 (fun r=>aD r (aO.mk [101,110,100,115,116,114,101,97,109])) q3.2) fun q4=>aQ (W1 (fun r=>aD r (aO.mk [101,110,100,111,98,106])) q4.2) fun q5=>aQ (Ww p.1 q3.1 q5.2) fun q6=>some ((⟨w2,true,⟨q6.1⟩⟩:aJ),q6.2)) ?_ fun _ r1 s1 f1 t1=>?_
  ·split
   ·exact OU h By
   ·exact qx.pure h ()
  have hN:r1.e_=0->0<=g.N/\g.N<=16777216:=fun h0=>by
   by_cases KJ:((A7 v g||decide (i>=0))||!p.2)=true
   ·have f1:(aQ (if((A7 v g||decide (i>=0))||!p.2)=true then ay r 18 else some r) fun r=>some ((),r))=some ((),r1):=f1
    rw[if_pos KJ]at f1
    obtain⟨r0,f2,f3⟩:=c6 f1
    injection f3 with f3
    injection f3 with _ f3
    subst f3
    unfold ay at f2
    by_cases h00:(r.e_==0)=true
    ·rw[if_pos h00]at f2;injection f2 with f2;subst f2;cases h0
    ·rw[if_neg h00]at f2;grind [absurd]
   ·grind [Bool.or_eq_false_iff,of_decide_eq_false]
  refine qx.seq (K:=fun _ q=>aQ (bd q g.N) fun q3=>aQ (W1 (fun r=>aD r (aO.mk [101,110,100,115,116,114,101,97,109])) q3.2) fun q4=>aQ (W1 (fun r=>aD r (aO.mk [101,110,100,111,98,106])) q4.2) fun q5=>aQ (Ww p.1 q3.1 q5.2) fun q6=>some ((⟨w2,true,⟨q6.1⟩⟩:aJ),q6.2)) (Xx hc hp t1) fun _ r2 s2 f2 t2=>?_
  have hN2:r2.e_=0->0<=g.N/\g.N<=16777216:=fun h0=>by
   by_cases h1:r1.e_=0
   ·exact hN h1
   ·obtain⟨j,e,rfl,hj,_⟩:=t1
    obtain⟨k,hk,hl⟩:=oT (c:=b) (last:=false) AT hj h1
    grind [W1,aN,absurd]
  refine qx.seq (K:=fun x q=>aQ (W1 (fun r=>aD r (aO.mk [101,110,100,115,116,114,101,97,109])) q) fun q4=>aQ (W1 (fun r=>aD r (aO.mk [101,110,100,111,98,106])) q4.2) fun q5=>aQ (Ww p.1 x q5.2) fun q6=>some ((⟨w2,true,⟨q6.1⟩⟩:aJ),q6.2)) (RX hc hp t2 g.N hN2) fun x r3 s3 f3 t3=>?_
  have hx:x.length<1048576:=by
   by_cases h2:r2.e_=0
   ·obtain⟨j,hj,rfl,_⟩:=t2.live h2
    unfold bd at f3
    rw[if_neg ze]at f3
    grind [uY,aN,oI,a8,AB.part,List.length_take,List.length_drop,min]
   ·grind [bd,BV]
  refine qx.seq (K:=fun _ q=>aQ (W1 (fun r=>aD r (aO.mk [101,110,100,111,98,106])) q) fun q5=>aQ (Ww p.1 x q5.2) fun q6=>some ((⟨w2,true,⟨q6.1⟩⟩:aJ),q6.2)) (JG hc hp t3 _) fun _ r4 s4 f4 t4=>?_
  refine qx.seq (K:=fun _ q=>aQ (Ww p.1 x q) fun q6=>some ((⟨w2,true,⟨q6.1⟩⟩:aJ),q6.2)) (JG hc hp t4 _) fun _ r5 s5 f5 t5=>?_
  exact qx.seq (K:=fun y q=>some ((⟨w2,true,⟨y⟩⟩:aJ),q)) (Wr t5 p.1 fun _=>hx) fun y r6 s6 f6 t6=>qx.pure t6 _
 refine⟨main,fun o r' ho=>?_⟩
 rw[<-e]at ho
 obtain⟨_,_,ho⟩:=c6 ho
 obtain⟨_,_,ho⟩:=c6 ho
 obtain⟨_,_,ho⟩:=c6 ho
 obtain⟨_,_,ho⟩:=c6 ho
 obtain⟨_,_,ho⟩:=c6 ho
 obtain⟨_,_,ho⟩:=c6 ho
 injection ho with ho
 injection ho with ho _
 subst ho
 exact hW2
theorem Gg:∃z,eX b 0 false=some z/\Wd 67 z.2.1.V/\(z.2.2.2≠6->eX c 0 l=some z):=by
 have t0:Tw b c l (R b ((0:Nat):Int) false 0) (R c ((0:Nat):Int) l 0):=Tw.both hp (Nat.zero_le _)
 obtain⟨n,r1,s1,a1,t1,k1⟩:=GO hc hp t0 1 4096
 obtain⟨m,r2,s2,a2,t2,k2⟩:=GO hc hp t1 0 0
 obtain⟨_,r3,s3,a3,t3,k3⟩:=JG hc hp t2 [111,98,106]
 obtain⟨⟨v,r4,s4,a4,t4,k4⟩,hv⟩:=VD hc hp t3
 obtain⟨⟨x,r5,s5,a5,t5,k5⟩,_⟩:=Oc hc hp t4
 have a3':aD r2 ⟨[111,98,106]⟩=some r3:=by
  obtain⟨q,h1,h2⟩:=c6 a3
  have h1:aD r2 ⟨[111,98,106]⟩=some q:=h1
  injection h2 with h2
  injection h2 with _ h2
  rw[h1,h2]
 have k3':r3.e_≠6->r2.e_≠6/\aD s2 ⟨[111,98,106]⟩=some s3:=fun h=>by
  obtain⟨h0,h⟩:=k3 h
  obtain⟨q,h1,h2⟩:=c6 h
  grind [aD]
 have tail:∀o(r6 s6:af),(Wd 67 o.V)->(if x=true then aQ (bw r5 v) fun r11=>some (r11.1,r11.2)else some (aJ.mk v false (aO.mk []),r5))=some (o,r6)->Tw b c l r6 s6->
  (r6.e_≠6->r5.e_≠6/\(if x=true then aQ (bw s5 v) fun r11=>some (r11.1,r11.2)else some (aJ.mk v false (aO.mk []),s5))=some (o,s6))->
  ∃z,eX b 0 false=some z/\Wd 67 z.2.1.V/\(z.2.2.2≠6->eX c 0 l=some z):=fun o r6 s6 hW f1 t6 f2=>by
  refine⟨if(r6.e_ !=0)=true then(0,o0,0,r6.e_)else(n,o,r6.aB.at_,0),?_,?_,fun h6=>?_⟩
  ·refine ah a1 (ah a2 (ah a3' (ah a4 (ah rfl (e7 (a:=(o,r6)) (ah a5 f1) ?_)))))
   dsimp only
   split<;>rfl
  ·grind [Wd0]
  ·have h6':r6.e_≠6:=fun h=>A_
   obtain⟨q5,f3⟩:=f2 h6'
   obtain⟨q4,b5⟩:=k5 q5
   obtain⟨q3,b4⟩:=k4 q4
   obtain⟨q2,b3⟩:=k3' q3
   obtain⟨q1,b2⟩:=k2 q2
   obtain⟨_,b1⟩:=k1 q1
   obtain⟨j,e,rfl,hj,t7⟩:=t6
   obtain⟨i,rfl,hi,t8⟩:=t7 h6'
   refine ah b1 (ah b2 (ah b3 (ah b4 (ah rfl (e7 (ah b5 f3) ?_)))))
   dsimp only
   by_cases he:e=0
   ·rw[if_neg (by rw[he];decide),if_neg (by rw[he];decide),t8 he]
   ·rw[if_pos G_,if_pos G_]
 cases hxx:x with
 |false=>
  subst hxx
  exact tail _ r5 s5 (hv _ _ a4) rfl t5 fun h=>⟨h,rfl⟩
 |true=>
  subst hxx
  have hW:=hv _ _ a4
  obtain⟨⟨o,r6,s6,a6,t6,k6⟩,ho⟩:=Rn hc hp t5 hW
  have a6:bw r5 v=some (o,r6):=a6
  exact tail o r6 s6 (ho _ _ a6) (by rw[if_pos rfl,a6];rfl) t6 fun h=>H_
end
end Fq
namespace Fq
section
variable{b:List UInt8}
def KP:∀(f:Nat)(q:List UInt8×Int)(j:Nat),Gk b true f q j≠.inr 6
 |0,q,j=>by rw[Gk];intro h;exact absurd h By
 |f+1,q,j=>by
  rw[Gk]
  repeat' split
  all_goals first
   |exact KP f _ _
   |(intro h;cases h)
   |(injection h with h)
def SE(j:Nat):MX b true j≠.inr 6:=by
 unfold MX
 repeat' split
 all_goals first
  |(intro h;cases h;done)
  |grind [absurd]
  |simp_all
def Ma:∀(f:Nat)(d:Int)(o:List UInt8)(j:Nat),zf b true f d o j≠.inr 6
 |0,d,o,j=>by rw[zf];intro h;exact absurd h By
 |f+1,d,o,j=>by
  rw[zf]
  repeat' split
  all_goals first
   |exact Ma f _ _ _
   |(done)
   |(intro h;exact absurd h By)
   |(rename_i h1;intro h;injection h with h;subst h;exact SE _ h1)
   |simp_all
theorem akk(sg:Int)(wh:List UInt8)(ro:Option (List UInt8)):(XI sg wh ro).2≠6:=by
 unfold XI
 repeat' split
 all_goals(dsimp;decide)
def akj(s:List UInt8):(RE s).2≠6:=by
 unfold RE Z0
 grind [akk]
theorem agx(w:List UInt8):∀(f:Nat)(o:List UInt8)(i:Nat),RD w f o i≠.inr 6
 |0,o,i=>by grind [RD]
 |f+1,o,i=>by
  rw[RD]
  repeat' split
  all_goals first
   |exact agx w f _ _
   |(intro h;cases h)
   |(injection h with h)
def ake(w:List UInt8):(RC w).2≠6:=by grind [RC,agx,naF]
def ahG{f t:Nat}{q:aa×Int}(h:q.2≠6):(tok f t q).2≠6:=by grind [tok]
def aaz{f:Nat}{r:(List UInt8×Nat)⊕Int}(h:r≠.inr 6):(An f r).2≠6:=by
 cases r with
 |inl r=>show 0≠6;decide
 |inr e=>exact fun h2=>h (congrArg Sum.inr h2)
theorem Vr(f:Nat)(c:UInt8):(Mk b true f c).2≠6:=by
 unfold Mk
 repeat' split
 all_goals first
  |exact ahG (akj _)
  |exact ahG (ake _)
  |exact aaz (KP _ _ _)
  |exact aaz (Ma _ _ _ _)
  |(dsimp;decide)
  |simp_all
theorem ug(k:Nat):(iO b true k).2≠6:=by grind [iO,Vr]
theorem Ud{e:Int}(h:e≠6):moE e≠6:=by grind [moE]
theorem Q2(j:Nat)(v:aa):(xn b true j v).2.1≠6:=by grind [xn,Ud,ug]
theorem ahX{w:aO}{r:aa×Int}(h:kW w=some r):r.2≠6:=by grind [kW]
def Yr(hb:b.length<1048576){j:Nat}(hj:j<=b.length){t:aG}{st:List aX}{r:aa×Int×Int}(h:mH ⟨b,(j:Int),true,st⟩ t=some r):r.2.1≠6:=by
 unfold mH at h
 split at h
 ·injection h with h;subst h;show 11≠6;decide
 split at h
 ·obtain⟨q,h1,h2⟩:=c6 h
  grind [ahX]
 ·obtain⟨w,_,h2⟩:=c6 h
  cases w with
  |false=>injection h2 with h2;subst h2;show 0≠6;decide
  |true=>
   obtain⟨q,h3,h4⟩:=c6 h2
   grind [NV,Q2]
theorem acA{l:List aa}{r:List aa×Int}(h:mq l=some r):r.2≠6:=by grind [mq,a8,qa,xx,dY]
theorem aaQ(p:PS)(d:Bool):(l8 p d).1≠6:=by
 unfold l8
 cases e9 p.st with
 |true=>show 11≠6;decide
 |false=>grind [decide]
theorem ajn{p:PS}{d:Bool}{r:aa×Int×PS}(h:HX mq p d=some r):r.2.1≠6:=by
 unfold HX at h
 cases hb:oG p.st d with
 |true=>rw[hb]at h;injection h with h;subst h;show 11≠6;decide
 |false=>
  rw[hb,cond_false]at h
  obtain⟨b,a,l,st⟩:=p
  cases st with
  |nil=>cases h
  |cons v vs=>
   cases d with
   |false=>injection h with h;subst h;show 0≠6;decide
   |true=>
    dsimp only at h
    rw[cond_true]at h
    obtain⟨q,g1,g2⟩:=c6 h
    grind [acA]
def ahw(hb:b.length<1048576){j:Nat}(hj:j<=b.length){t:aG}{st:List aX}{r:aa×Bool×Int×PS}(h:wu mq ⟨b,(j:Int),true,st⟩ t=some r):r.2.2.1≠6:=by
 unfold wu at h
 cases h0:(t.Kind==0)with
 |true=>rw[h0]at h;injection h with h;subst h;show 10≠6;decide
 |false=>
  rw[h0]at h
  cases h1:(t.Kind==2||t.Kind==4)with
  |true=>grind [aaQ]
  |false=>
   rw[h1]at h
   cases h2:(t.Kind==3||t.Kind==5)with
   |true=>
    rw[h2]at h
    obtain⟨q,g1,g2⟩:=c6 h
    grind [ajn]
   |false=>
    rw[h2]at h
    obtain⟨q,g1,g2⟩:=c6 h
    have h6:=Yr hb hj g1
    cases hx:(q.2.1==0&&decide (64<=st.length))<;>simp only[hx,cond_true]at g2<;>injection g2 with g2<;>subst g2
    ·exact h6
    ·show 15≠6;decide
def ab6(hb:b.length<1048576){k:Nat}(hk:k<=b.length){st:List aX}(h64:st.length<=64){o:aa×Int×Int}(h:Mc ⟨b,(k:Int),true,st⟩=some (.inr o)):o.2.2≠6:=by
 by_cases hok:(iO b true k).2=0
 ·obtain⟨⟨j,e1,hj,_⟩,_,_⟩:=A2 hk hok
  rw[Pm hb hk h64 hok,e1]at h
  obtain⟨r,r1,r2⟩:=c6 h
  have h6:=ahw hb hj r1
  unfold H8 at r2
  cases hx:(r.2.2.1 !=0)with
  |true=>rw[hx]at r2;injection r2 with r2;injection r2 with r2;subst r2;exact h6
  |false=>
   rw[hx]at r2
   cases hy:(!r.2.1)with
   |true=>rw[hy]at r2;cases r2
   |false=>grind [a8]
 grind [Ll,ug]
def val_last(hb:b.length<1048576){k:Nat}(hk:k<=b.length):∃o,lg b (k:Int) true=some o/\P0 b o/\o.2.2≠6:=by
 have:=dw (body:=Mc) (fun s=>∃(j:Nat)(st:List aX),s=⟨b,j,true,st⟩/\j<=b.length/\st.length<=64/\VP st j) (fun s=>b.length -s.at_.toNat) (fun o=>P0 b o/\o.2.2≠6)
  ⟨k,[],rfl,hk,Nat.zero_le _,trivial⟩ A_ (by
    rintro s ⟨j,st,rfl,hj,h64,hw⟩
    obtain⟨x,h1,h2⟩:=ahO hb hj h64 hw
    refine⟨x,h1,?_⟩
    cases x with
    |inl p=>
     obtain⟨j',st',rfl,g1,g2,g3,g4⟩:=h2
     exact⟨⟨j',st',rfl,g2,g3,g4⟩,A_⟩
    |inr o=>exact⟨h2,ab6 hb hj h64 h1⟩)
 exact this
def Un(b:List UInt8)(r:af):Prop:=∃(j:Nat)(e:Int),r=R b (j:Int) true e/\j<=b.length/\e≠6
theorem Un.mk{j:Nat}{e:Int}(hj:j<=b.length)(he:e≠6):Un b (R b (j:Int) true e):=⟨j,e,rfl,hj,he⟩
def Oq{α:Type}(b:List UInt8)(r:af)(F:af->Option (α×af)):Prop:=∃x r',F r=some (x,r')/\Un b r'
theorem Oq.by{α:Type}{r:af}(h:Un b r){F:af->Option (α×af)}(x:α)(hF:∀r:af,r.e_≠0->F r=some (x,r))(Tk:∀j:Nat,j<=b.length->Oq b (R b (j:Int) true 0) F):Oq b r F:=by
 by_cases he:r.e_=0
 ·obtain⟨j,e,rfl,hj,_⟩:=h
  obtain rfl:e=0:=he
  exact Tk j hj
 ·exact⟨x,r,hF r he,h⟩
variable(hb:b.length<1048576)
include hb
theorem GP{r:af}(h:Un b r)(x y:Int):Oq b r (fun r=>b9 r x y):=by
 refine Oq.by h 0 (fun r hr=>Zr hr x y) fun j hj=>?_
 have h1:=zZ (Iw (last:=true) hb j hj) x y
 obtain⟨i,i1,i2⟩:∃i:Nat,(yL b true j).2.1=i/\i<=b.length:=by
  obtain⟨i,i1,i2⟩:=z6 (last:=true) hj
  unfold yL
  split
  ·exact⟨0,rfl,Nat.zero_le _⟩
  ·split
   ·exact⟨0,rfl,Nat.zero_le _⟩
   ·split
    ·exact⟨0,rfl,Nat.zero_le _⟩
    grind [i1]
 have h6:(yL b true j).2.2≠6:=by
  unfold yL
  all_goals grind [ug]
 have he:eN (yL b true j) x y≠6:=by
  unfold eN
  repeat' split
  all_goals first
   |exact h6
   |decide
 rw[i1]at h1
 exact⟨_,_,h1,Un.mk i2 he⟩
theorem JH{r:af}(h:Un b r)(w:List UInt8):Oq b r (W1 fun r=>aD r ⟨w⟩):=by
 refine Oq.by h () (fun r hr=>ah (Sm hr ⟨w⟩) rfl) fun j hj=>?_
 have h1:W1 (fun r=>aD r ⟨w⟩) (R b j true 0)=some ((),R b (nc b true j w).1 true (nc b true j w).2):=by
  refine ah ?_ rfl
  exact al ze (ah (TV hb j hj w) rfl)
 obtain⟨i,i1,i2⟩:∃i:Nat,(nc b true j w).1=i/\i<=b.length:=by
  obtain⟨i,i1,i2⟩:=z6 (last:=true) hj
  unfold nc
  split
  ·exact⟨0,rfl,Nat.zero_le _⟩
  ·split
   ·exact⟨0,rfl,Nat.zero_le _⟩
   ·split
    ·exact⟨0,rfl,Nat.zero_le _⟩
    grind [i1]
 have h6:(nc b true j w).2≠6:=by
  unfold nc
  all_goals grind [ug]
 rw[i1]at h1
 exact⟨_,_,h1,Un.mk i2 h6⟩
theorem VE{r:af}(h:Un b r):∃v r',cy r=some (v,r')/\Un b r'/\Wd 67 v:=by
 by_cases he:r.e_=0
 ·obtain⟨j,e,rfl,hj,_⟩:=h
  obtain rfl:e=0:=he
  obtain⟨⟨v,to,e⟩,h1,⟨⟨i,i1,i2⟩,hw⟩,h3⟩:=val_last hb hj
  subst i1
  exact⟨v,R b i true e,by exact al ze (ah h1 rfl),Un.mk i2 h3,hw⟩
 grind [Sl,Wd0]
theorem Od{r:af}(h:Un b r):Oq b r bz:=by
 refine Oq.by h false (fun r hr=>Sk hr) fun j hj=>?_
 obtain⟨i,i1,i2⟩:=z6 hj
 have h6:=ug (b:=b) j
 have hn:=AU (last:=true) hb j hj
 generalize iO b true j=q at hn i1 h6
 obtain⟨t,e⟩:=q
 have un:∀{e:Int},e≠6->Un b (R b t.To true e):=fun he=>by grind [i1,Un.mk]
 by_cases he:e=0
 ·subst he
  by_cases h0:(t.Kind==0)=true
  ·refine⟨_,_,by exact al ze (ah hn (e7 (al ze (aM h0 (ah (oI _ _ _ _) rfl))) rfl)),un BY⟩
  ·by_cases hw:((t.Kind !=6)||((!(t.S.b==(aO.mk [101,110,100,111,98,106]).b))&&(!(t.S.b==(aO.mk [115,116,114,101,97,109]).b))))=true
   ·refine⟨_,_,by exact al ze (ah hn (e7 (al ze (al h0 (aM hw (ah (oI _ _ _ _) rfl)))) rfl)),un BY⟩
   ·refine⟨_,_,by exact al ze (ah hn (e7 (al ze (al h0 (al hw rfl))) rfl)),un (e:=0) BY⟩
 ·refine⟨_,_,by exact al ze (ah hn (e7 (aM A_ rfl) rfl)),un h6⟩
theorem Xy{r:af}(h:Un b r):Oq b r (W1 bG):=by
 obtain⟨j,e,rfl,hj,h6⟩:=h
 by_cases he:e=0
 ·subst he
  obtain⟨k,hk,_,h2⟩:=RP hb hj 0
  by_cases hkl:k<b.length
  ·by_cases h10:(((ix b k).toNat:Int)!=10)=true
   ·refine⟨(),R b k true 18,ah ?_ rfl,Un.mk hk BY⟩
    exact e7 h2 (al ze (al A_ (aA A_ (aM h10 (ah (oI _ _ _ _) rfl)))))
   ·refine⟨(),R b ((k+1:Nat)) true 0,ah ?_ rfl,Un.mk hkl BY⟩
    have w:aC (k+1)=((k+1:Nat)):=E_
    refine e7 h2 (al ze (al A_ (aA A_ (al h10 ?_))))
    rw[w]
  ·refine⟨(),R b k true 10,ah ?_ rfl,Un.mk hk BY⟩
   exact e7 h2 (al ze (aM A_ (ah (uY b _ true) (ah (oI _ _ _ _) rfl))))
 ·obtain⟨k,hk,hl⟩:=oT hb hj he
  exact⟨(),_,ah hl rfl,Un.mk hk h6⟩
theorem RY{r:af}(h:Un b r)(n:Int)(hn:r.e_=0->0<=n/\n<=16777216):Oq b r (fun r=>bd r n):=by
 by_cases he:r.e_=0
 ·obtain⟨n0,n1⟩:=hn he
  obtain⟨j,e,rfl,hj,_⟩:=h
  obtain rfl:e=0:=he
  obtain⟨m,rfl⟩:∃m:Nat,n=m:=⟨n.toNat,AT⟩
  have w3:aC (b.length -j)=b.length -j:=an AT AT
  by_cases hlt:b.length -j<m
  ·refine⟨[],R b j true 10,?_,Un.mk hj BY⟩
   exact al ze (aM A_ (ah (uY b _ true) (ah (oI _ _ _ _) rfl)))
  ·have w4:aC (j+m)=((j+m:Nat)):=E_
   have w5:aC (((j+m:Nat)) -m)=j:=by rw[an BY AT];omega
   refine⟨part b j ((j+m:Nat)),R b ((j+m:Nat)) true 0,?_,Un.mk AT BY⟩
   refine al ze (al A_ ?_)
   show a8 (0<=aC ((aC (j+m)) -m)/\aC ((aC (j+m)) -m)<=aC (j+m)/\aC (j+m)<=b.length) (some (part b (aC ((aC (j+m)) -m)) (aC (j+m)),R b (aC (j+m)) true 0))=_
   rw[w4,w5]
   exact aA AT rfl
 ·exact⟨[],r,BV he n,h⟩
omit hb in
theorem OV{r:af}(h:Un b r){e:Int}(h6:e≠6):Oq b r (W1 fun r=>ay r e):=by
 obtain⟨j,e1,rfl,hj,h2⟩:=h
 by_cases h0:e1=0
 ·subst h0
  exact⟨(),_,ah (oI _ _ _ _) rfl,Un.mk hj h6⟩
 ·refine⟨(),R b (j:Int) true e1,ah (a:=R b (j:Int) true e1) ?_ rfl,Un.mk hj h2⟩
  unfold ay
  exact al M_ rfl
omit hb in
theorem Ws{r:af}(h:Un b r)(p:Bool){x:List UInt8}(hx:r.e_=0->x.length<1048576):Oq b r (Ww p x):=by
 cases p with
 |false=>exact⟨x,r,al BY rfl,h⟩
 |true=>
  by_cases he:r.e_=0
  ·have hu:gN x 16777216=some (tc x 16777216):=by unfold gN;exact aA ⟨by have:=hx he;omega,By,By⟩ rfl
   generalize tc x 16777216=u at hu
   have hc:(true&&(r.e_==0))=true:=by rw[he];rfl
   by_cases h0:(u.2.2 !=0)=true
   ·obtain⟨_,r',h1,h2⟩:=OV h (e:=18) By
    obtain⟨r1,h4,h5⟩:=c6 h1
    injection h5 with h5
    injection h5 with _ h5
    subst h5
    exact⟨u.1,r1,aM hc (ah hu (e7 (aM h0 (ah h4 rfl)) rfl)),h2⟩
   ·exact⟨u.1,r,aM hc (ah hu (e7 (al h0 rfl) rfl)),h⟩
  ·exact⟨x,r,al w_ rfl,h⟩
theorem Ro{r:af}(h:Un b r){v:aa}(hW:Wd 67 v):∃o r',bw r v=some (o,r')/\Un b r'/\Wd 67 o.V:=by
 obtain⟨g,i,p,w2,hW2,e⟩:=Hi hW
 rw[<-e]
 obtain⟨_,r1,f1,u1⟩:Oq b r (W1 fun r=>if((A7 v g||decide (i>=0))||!p.2)=true then ay r 18 else some r):=by
  by_cases KJ:((A7 v g||decide (i>=0))||!p.2)=true
  ·simp only[if_pos KJ]
   exact OV h By
  ·simp only[if_neg KJ]
   exact⟨(),r,rfl,h⟩
 have hN:r1.e_=0->0<=g.N/\g.N<=16777216:=fun h0=>by
  by_cases KJ:((A7 v g||decide (i>=0))||!p.2)=true
  ·have f1:(aQ (if((A7 v g||decide (i>=0))||!p.2)=true then ay r 18 else some r) fun r=>some ((),r))=some ((),r1):=f1
   rw[if_pos KJ]at f1
   obtain⟨r0,f2,f3⟩:=c6 f1
   injection f3 with f3
   injection f3 with _ f3
   subst f3
   unfold ay at f2
   by_cases h00:(r.e_==0)=true
   ·rw[if_pos h00]at f2;injection f2 with f2;subst f2;cases h0
   ·rw[if_neg h00]at f2;grind [absurd]
  ·grind [Bool.or_eq_false_iff,of_decide_eq_false]
 obtain⟨_,r2,f2,u2⟩:=Xy hb u1
 have hN2:r2.e_=0->0<=g.N/\g.N<=16777216:=fun h0=>by
  by_cases h1:r1.e_=0
  ·exact hN h1
  ·obtain⟨j,e,rfl,hj,_⟩:=u1
   obtain⟨k,hk,hl⟩:=oT (c:=b) (last:=true) hb hj h1
   grind [W1,aN,absurd]
 obtain⟨x,r3,f3,u3⟩:=RY hb u2 g.N hN2
 have f3:bd r2 g.N=some (x,r3):=f3
 have hx:x.length<1048576:=by
  by_cases h2:r2.e_=0
  ·obtain⟨j,e,rfl,hj,_⟩:=u2
   obtain rfl:e=0:=h2
   unfold bd at f3
   rw[if_neg ze]at f3
   grind [uY,aN,oI,a8,AB.part,List.length_take,List.length_drop,min]
  ·grind [BV]
 obtain⟨_,r4,f4,u4⟩:=JH hb u3 [101,110,100,115,116,114,101,97,109]
 obtain⟨_,r5,f5,u5⟩:=JH hb u4 [101,110,100,111,98,106]
 obtain⟨y,r6,f6,u6⟩:=Ws u5 p.1 (fun _=>hx)
 exact⟨_,r6,ah f1 (ah f2 (ah f3 (ah f4 (ah f5 (ah f6 rfl))))),u6,hW2⟩
theorem M1:∃z,eX b 0 true=some z/\Wd 67 z.2.1.V/\z.2.2.2≠6:=by
 have t0:Un b (R b (0:Int) true 0):=Un.mk (Nat.zero_le _) BY
 obtain⟨n,r1,a1,t1⟩:=GP hb t0 1 4096
 obtain⟨m,r2,a2,t2⟩:=GP hb t1 0 0
 obtain⟨_,r3,a3,t3⟩:=JH hb t2 [111,98,106]
 obtain⟨v,r4,a4,t4,hv⟩:=VE hb t3
 obtain⟨x,r5,a5,t5⟩:=Od hb t4
 have a3':aD r2 ⟨[111,98,106]⟩=some r3:=by
  obtain⟨q,h1,h2⟩:=c6 a3
  have h1:aD r2 ⟨[111,98,106]⟩=some q:=h1
  injection h2 with h2
  injection h2 with _ h2
  rw[h1,h2]
 have tail:∀o r6,Wd 67 o.V->(if x=true then aQ (bw r5 v) fun r11=>some (r11.1,r11.2)else some (aJ.mk v false (aO.mk []),r5))=some (o,r6)->Un b r6->∃z,eX b 0 true=some z/\Wd 67 z.2.1.V/\z.2.2.2≠6:=fun o r6 hW f1 t6=>by
  refine⟨if(r6.e_ !=0)=true then(0,o0,0,r6.e_)else(n,o,r6.aB.at_,0),?_,?_,?_⟩
  ·refine ah a1 (ah a2 (ah a3' (ah a4 (ah rfl (e7 (ah a5 f1) ?_)))))
   dsimp
   split<;>rfl
  ·grind [Wd0]
  ·obtain⟨j,e,rfl,hj,h6⟩:=t6
   split
   ·exact h6
   ·dsimp;decide
 cases hxx:x with
 |false=>
  subst hxx
  exact tail _ r5 hv rfl t5
 |true=>
  obtain⟨o,r6,g1,g2,g3⟩:=Ro hb t5 hv
  exact tail o r6 g3 H_ g2
end
end Fq
end Go.AB
end
