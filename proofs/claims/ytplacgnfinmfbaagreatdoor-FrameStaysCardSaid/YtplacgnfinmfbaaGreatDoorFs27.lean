/- A part. -/
import Derived.Test.YtplacgnfinmfbaaGreatDoorFs26
import Derived.OpenShut
import Derived.ChangeCalls
import Derived.JoinedCond
import Derived.Lay
import Derived.LaidOnce
import Derived.RowKit
set_option linter.unusedSimpArgs false
set_option linter.unusedVariables false
section
set_option maxRecDepth 4000
namespace Go.AB
open Go
namespace Fq
section
variable{b c:List UInt8}{l:Bool}
def Tw(b c:List UInt8)(l:Bool)(r s:ai):Prop:=∃(j:Nat)(e:Int),r=R b (j:Int) false e/\j<=b.length/\(e≠6->∃i:Nat,s=R c (i:Int) l e/\i<=c.length/\(e=0->i=j))
theorem Tw.six{j:Nat}(hj:j<=b.length)(s:ai):Tw b c l (R b (j:Int) false 6) s:=⟨j,6,rfl,hj,fun h=>absurd rfl h⟩
theorem Tw.both{j:Nat}{e:Int}(hp:B6 b c)(hj:j<=b.length):Tw b c l (R b (j:Int) false e) (R c (j:Int) l e):=⟨j,e,rfl,hj,fun _=>⟨j,rfl,by have:=hp.1;omega,fun _=>rfl⟩⟩
def pH{α:Type}(b c:List UInt8)(l:Bool)(r s:ai)(F:ai->Option (α×ai)):Prop:=∃x r' s',F r=some (x,r')/\Tw b c l r' s'/\(r'.e_≠6->r.e_≠6/\F s=some (x,s'))
theorem pH.dead{α:Type}{r s:ai}(h:Tw b c l r s)(he:r.e_≠0){F:ai->Option (α×ai)}(x:α)(hF:∀r:ai,r.e_≠0->F r=some (x,r)):pH b c l r s F:=by
 refine⟨x,r,s,hF r he,h,fun h6=>⟨h6,hF s ?_⟩⟩
 obtain⟨j,e,rfl,hj,h2⟩:=h
 obtain⟨i,rfl,_⟩:=h2 h6
 exact he
theorem Tw.live{r s:ai}(h:Tw b c l r s)(he:r.e_=0):∃j:Nat,j<=b.length/\r=R b (j:Int) false 0/\s=R c (j:Int) l 0:=by
 obtain⟨j,e,rfl,hj,h2⟩:=h
 obtain rfl:e=0:=he
 obtain⟨i,rfl,_,h3⟩:=h2 (by decide)
 obtain rfl:=h3 rfl
 exact⟨i,hj,rfl,rfl⟩
theorem pH.by{α:Type}{r s:ai}(h:Tw b c l r s){F:ai->Option (α×ai)}(x:α)(hF:∀r:ai,r.e_≠0->F r=some (x,r))(adV:∀j:Nat,j<=b.length->pH b c l (R b (j:Int) false 0) (R c (j:Int) l 0) F):pH b c l r s F:=by
 by_cases he:r.e_=0
 ·obtain⟨j,hj,rfl,rfl⟩:=h.live he
  exact adV j hj
 ·exact pH.dead h he x hF
theorem n06{b:List UInt8}{j:Int}{l:Bool}:(R b j l 0).e_≠6:=by show(0:Int)≠6;decide
variable(hc:c.length<1048576)(hp:B6 b c)
theorem MF{last:Bool}{k:Nat}(hk:k<=b.length):∃j:Nat,(iA b last k).1.To=(j:Int)/\j<=b.length:=by
 by_cases h:(iA b last k).2=0
 ·obtain⟨⟨j,h1,h2,_⟩,_,_⟩:=DF hk h
  exact⟨j,h1,h2⟩
 ·have hs:=M3 (b:=b) k hk
  refine⟨Ee b k,?_,hs.2⟩
  unfold iA at h⊢
  cases hx:b[Ee b k]? with
  |none=>rfl
  |some x=>
   rw[hx]at h
   have h:(LB b last (Ee b k) x).2≠0:=h
   show(LB b last (Ee b k) x).1.To=_
   have tk:∀(f t:Nat)(q:aa×Int),(tok f t q).2≠0->(tok f t q).1.To=f:=fun f t q h=>by
    unfold tok at h⊢
    split
    ·rfl
    ·rename_i hn;rw[if_neg hn]at h;exact absurd rfl h
   have sr:∀(f:Nat)(q:(List UInt8×Nat)⊕Int),(BI f q).2≠0->(BI f q).1.To=f:=fun f q h=>by
    cases q with
    |inl q=>exact absurd rfl h
    |inr e=>rfl
   unfold LB at h⊢
   repeat' split
   all_goals simp_all [Sl]
include hc hp
theorem GJ{r s:ai}(h:Tw b c l r s)(x y:Int):pH b c l r s (fun r=>bU r x y):=by
 have hpl:=hp.1
 refine pH.by h 0 (fun r hr=>adA hr x y) fun j hj=>?_
 have h1:=GI (Ob (last:=false) (by omega) j hj) x y
 by_cases h6:(iA b false j).2=6
 ·have:Ir b false j=(0,0,6):=by unfold Ir;rw[h6];rfl
  rw[this]at h1
  exact⟨_,_,R c 0 l 0,h1,Tw.six (j:=0) (Nat.zero_le _) _,fun h=>absurd rfl h⟩
 ·have e1:Ir c l j=Ir b false j:=by unfold Ir;rw[u7 hp hj h6]
  have h2:=GI (Ob (last:=l) hc j (by omega)) x y
  rw[e1]at h2
  obtain⟨i,i1,i2⟩:∃i:Nat,(Ir b false j).2.1=(i:Int)/\i<=b.length:=by
   obtain⟨i,i1,i2⟩:=MF (last:=false) hj
   unfold Ir
   split
   ·exact⟨0,rfl,Nat.zero_le _⟩
   ·split
    ·exact⟨0,rfl,Nat.zero_le _⟩
    ·split
     ·exact⟨0,rfl,Nat.zero_le _⟩
     ·exact⟨i,i1,i2⟩
  rw[i1]at h1 h2
  exact⟨_,_,_,h1,Tw.both hp i2,fun _=>⟨n06,h2⟩⟩
def W1(F:ai->Option ai):ai->Option (Unit×ai):=fun r=>aP (F r) fun r=>some ((),r)
theorem Ji{r s:ai}(h:Tw b c l r s)(w:List UInt8):pH b c l r s (W1 fun r=>aG r ⟨w⟩):=by
 have hpl:=hp.1
 refine pH.by h () (fun r hr=>aj (Y3 hr ⟨w⟩) rfl) fun j hj=>?_
 have wd:∀{b:List UInt8}{last:Bool},b.length<1048576->j<=b.length->W1 (fun r=>aG r ⟨w⟩) (R b (j:Int) last 0)=some ((),R b (uI b last j w).1 last (uI b last j w).2):=fun hb hj=>by
  refine aj ?_ rfl
  unfold aG
  exact an Py (aj (ZU hb j hj w) rfl)
 have h1:=wd (last:=false) (b:=b) (by omega) hj
 by_cases h6:(iA b false j).2=6
 ·have:uI b false j w=(0,6):=by unfold uI;rw[h6];rfl
  rw[this]at h1
  exact⟨_,_,R c 0 l 0,h1,Tw.six (j:=0) (Nat.zero_le _) _,fun h=>absurd rfl h⟩
 ·have e1:uI c l j w=uI b false j w:=by unfold uI;rw[u7 hp hj h6]
  have h2:=wd (last:=l) hc (by omega)
  rw[e1]at h2
  obtain⟨i,i1,i2⟩:∃i:Nat,(uI b false j w).1=(i:Int)/\i<=b.length:=by
   obtain⟨i,i1,i2⟩:=MF (last:=false) hj
   unfold uI
   split
   ·exact⟨0,rfl,Nat.zero_le _⟩
   ·split
    ·exact⟨0,rfl,Nat.zero_le _⟩
    ·split
     ·exact⟨0,rfl,Nat.zero_le _⟩
     ·exact⟨i,i1,i2⟩
  rw[i1]at h1 h2
  exact⟨_,_,_,h1,Tw.both hp i2,fun _=>⟨n06,h2⟩⟩
theorem TT{r s:ai}(h:Tw b c l r s):pH b c l r s bR/\∀v r',bR r=some (v,r')->Wd 67 v:=by
 have hpl:=hp.1
 by_cases he:r.e_=0
 ·obtain⟨j,hj,rfl,rfl⟩:=h.live he
  obtain⟨⟨v,to,e⟩,h1,h2,h3⟩:=WQ (l:=l) hc hp hj
  obtain⟨⟨i,i1,i2⟩,h2⟩:=h2
  dsimp only at h3
  have i1:to=(i:Int):=i1
  subst i1
  have g1:bR (R b (j:Int) false 0)=some (v,R b (i:Int) false e):=by
   unfold bR
   exact an Py (aj h1 rfl)
  refine⟨?_,fun v' r' hv=>?_⟩
  ·by_cases h6:e=6
   ·subst h6
    exact⟨_,_,R c 0 l 0,g1,Tw.six i2 _,fun h=>absurd rfl h⟩
   ·have g2:bR (R c (j:Int) l 0)=some (v,R c (i:Int) l e):=by
     unfold bR
     exact an Py (aj (h3.resolve_left h6) rfl)
    exact⟨_,_,_,g1,Tw.both hp i2,fun _=>⟨n06,g2⟩⟩
  ·rw[g1]at hv
   injection hv with hv
   injection hv with hv1 hv2
   subst hv1 hv2
   exact h2
 ·refine⟨pH.dead h he _ fun r hr=>Xt hr,fun v' r' hv=>?_⟩
  rw[Xt he]at hv
  injection hv with hv
  injection hv with hv1 hv2
  subst hv1
  exact Wd0
theorem M9{r s:ai}(h:Tw b c l r s):pH b c l r s a9/\∀x r',a9 r=some (x,r')->x=true->r'.e_=0:=by
 have hpl:=hp.1
 have go:∀{b:List UInt8}{last:Bool}{j:Nat},b.length<1048576->j<=b.length->∃x e,a9 (R b (j:Int) last 0)=some (x,R b (iA b last j).1.To last e)/\((iA b last j).2≠0->e=(iA b last j).2)/\(x=true->e=0)/\∀(c:List UInt8)(l:Bool),c.length<1048576->j<=c.length->iA c l j=iA b last j->a9 (R c (j:Int) l 0)=some (x,R c (iA b last j).1.To l e):=by
  intro b last j hb hj
  have key:∃x e,((iA b last j).2≠0->e=(iA b last j).2)/\(x=true->e=0)/\∀(c:List UInt8)(l:Bool),c.length<1048576->j<=c.length->iA c l j=iA b last j->a9 (R c (j:Int) l 0)=some (x,R c (iA b last j).1.To l e):=by
   generalize iA b last j=q
   obtain⟨t,e⟩:=q
   dsimp only
   have st:∀(x:Bool)(e2:Int),(∀(c:List UInt8)(l:Bool),(jn (
    if e !=0 then
     some (R c t.To l e)
    else
     if t.Kind==0 then
      aP (aD (R c t.To l e) 10) fun r4=>
      some r4
     else
      if(t.Kind !=6)||((!(t.S.b==(aH.mk [101,110,100,111,98,106]).b))&&(!(t.S.b==(aH.mk [115,116,114,101,97,109]).b)))then
       aP (aD (R c t.To l e) 18) fun r5=>
       some r5
      else
       some (R c t.To l e)) fun(o3:ai)=>
    some ((o3.e_==0)&&(t.S.b==(aH.mk [115,116,114,101,97,109]).b),o3))=some (x,R c t.To l e2))->∀(c:List UInt8)(l:Bool),c.length<1048576->j<=c.length->iA c l j=(t,e)->a9 (R c (j:Int) l 0)=some (x,R c t.To l e2):=fun x e2 h c l hc hj hn=>by
    unfold a9
    exact an Py (aj (Dv hc j hj) (by rw[hn];exact h c l))
   by_cases he:e=0
   ·subst he
    by_cases h0:(t.Kind==0)=true
    ·exact⟨false,10,fun h=>absurd rfl h,(fun h=>by cases h),st _ _ fun c l=>dI (an Py (aN h0 (aj (AP _ _ _ _) rfl))) rfl⟩
    ·by_cases hw:((t.Kind !=6)||((!(t.S.b==(aH.mk [101,110,100,111,98,106]).b))&&(!(t.S.b==(aH.mk [115,116,114,101,97,109]).b))))=true
     ·exact⟨false,18,fun h=>absurd rfl h,(fun h=>by cases h),st _ _ fun c l=>dI (an Py (an h0 (aN hw (aj (AP _ _ _ _) rfl)))) rfl⟩
     ·exact⟨_,0,fun h=>absurd rfl h,fun _=>rfl,st _ _ fun c l=>dI (an Py (an h0 (an hw rfl))) rfl⟩
   ·have hn:(e !=0)=true:=by simpa using he
    refine⟨false,e,fun _=>rfl,(fun h=>by cases h),st _ _ fun c l=>dI (aN hn rfl) ?_⟩
    show some ((e==0)&&_,_)=_
    rw[show(e==0)=false by simpa using he];rfl
  obtain⟨x,e,h1,h2,h3⟩:=key
  exact⟨x,e,h3 b last hb hj rfl,h1,h2,h3⟩
 refine⟨pH.by h false (fun r hr=>Xs hr) fun j hj=>?_,fun x r' hx hx2=>?_⟩
 ·obtain⟨x,e,h1,h2,_,h3⟩:=go (last:=false) (b:=b) (by omega) hj
  obtain⟨i,i1,i2⟩:=MF (last:=false) hj
  by_cases h6:(iA b false j).2=6
  ·rw[h2 (by rw[h6];decide),h6,i1]at h1
   exact⟨_,_,R c 0 l 0,h1,Tw.six i2 _,fun h=>absurd rfl h⟩
  ·have h4:=h3 c l hc (by omega) (u7 hp hj h6)
   rw[i1]at h1 h4
   exact⟨_,_,_,h1,Tw.both hp i2,fun _=>⟨n06,h4⟩⟩
 ·by_cases he:r.e_=0
  ·obtain⟨j,hj,rfl,rfl⟩:=h.live he
   obtain⟨x',e,h1,_,h2,_⟩:=go (last:=false) (b:=b) (by omega) hj
   rw[h1]at hx
   injection hx with hx
   injection hx with hx1 hx3
   subst hx1 hx3
   exact h2 hx2
  ·rw[Xs he]at hx
   injection hx with hx
   injection hx with hx1 hx3
   rw[<-hx1]at hx2;cases hx2
omit hp in
theorem xF{j:Nat}{last:Bool}(hj:j<=c.length){e:Int}(he:e≠0):∃k:Nat,k<=c.length/\bI (R c (j:Int) last e)=some (R c (k:Int) last e):=by
 obtain⟨k,hk,_,h2⟩:=YP (last:=last) hc hj e
 refine⟨k,hk,?_⟩
 unfold bI
 exact dI h2 (aN (by simpa using he) rfl)
theorem VD{r s:ai}(h:Tw b c l r s):pH b c l r s (W1 bI):=by
 have hpl:=hp.1
 by_cases he:r.e_=0
 ·obtain⟨j,hj,rfl,rfl⟩:=h.live he
  have hix:∀k:Nat,k<b.length->ix c (k:Int)=ix b (k:Int):=fun k hk=>by
   have:=hp.2 _ _ (List.getElem?_eq_getElem hk)
   rw[(cL this).2,(cL (List.getElem?_eq_getElem hk)).2]
  have pl:∃k:Nat,k<=b.length/\∀(c:List UInt8)(l:Bool),b.length<=c.length->c.length<1048576->(∀k:Nat,k<b.length->ix c (k:Int)=ix b (k:Int))->k<b.length\/c=b->
   aL ((decide ((j:Int)<(c.length:Int)))=true->0<=(j:Int)/\(j:Int)<c.length) (if(decide ((j:Int)<(c.length:Int)))&&(((ix c (j:Int)).toNat:Int)==13)then some (R c (aw ((j:Int)+1)) l 0)else some (R c (j:Int) l 0))=some (R c (k:Int) l 0):=by
   have w:aw ((j:Int)+1)=((j+1:Nat):Int):=by rw[ar (by omega) (by omega)];omega
   by_cases hjl:j<b.length
   ·by_cases h13:(((ix b (j:Int)).toNat:Int)==13)=true
    ·refine⟨j+1,by omega,fun c l h1 h2 h3 _=>ay (fun _=>by omega) (aN (by rw[h3 j hjl,h13,decide_eq_true (by omega)];rfl) (by rw[w]))⟩
    ·refine⟨j,by omega,fun c l h1 h2 h3 _=>ay (fun _=>by omega) (an (by rw[h3 j hjl];simp[h13]) rfl)⟩
   ·refine⟨j,hj,fun c l h1 h2 h3 h4=>?_⟩
    rcases h4 with h4|rfl
    ·omega
    ·exact ay (fun h=>⟨by omega,of_decide_eq_true h⟩) (an (by rw[decide_eq_false (by omega)];simp) rfl)
  obtain⟨k,hk,ad3⟩:=pl
  have pb:=ad3 b false (Nat.le_refl _) (by omega) (fun _ _=>rfl) (.inr rfl)
  by_cases hkl:k<b.length
  ·have pc:=ad3 c l hpl hc hix (.inl hkl)
   have fin:∀(c:List UInt8)(l:Bool),b.length<=c.length->c.length<1048576->(∀k:Nat,k<b.length->ix c (k:Int)=ix b (k:Int))->aL ((decide ((j:Int)<(c.length:Int)))=true->0<=(j:Int)/\(j:Int)<c.length) (if(decide ((j:Int)<(c.length:Int)))&&(((ix c (j:Int)).toNat:Int)==13)then some (R c (aw ((j:Int)+1)) l 0)else some (R c (j:Int) l 0))=some (R c (k:Int) l 0)->
    W1 bI (R c (j:Int) l 0)=some ((),if(((ix b (k:Int)).toNat:Int)!=10)=true then R c (k:Int) l 18 else R c ((k+1:Nat):Int) l 0):=fun c l h1 h2 h3 h4=>by
    have w:aw ((k:Int)+1)=((k+1:Nat):Int):=by rw[ar (by omega) (by omega)];omega
    refine aj ?_ rfl
    unfold bI
    refine dI h4 (an Py (an (by show¬decide ((k:Int)>=(c.length:Int))=true;simp;omega) (ay (by show 0<=(k:Int)/\(k:Int)<c.length;omega) ?_)))
    show(if((ix c (k:Int)).toNat:Int)!=10 then _ else _)=_
    rw[h3 k hkl]
    split
    ·exact aj (AP _ _ _ _) rfl
    ·show some (R c (aw ((k:Int)+1)) l 0)=_
     rw[w]
   have f1:=fin b false (Nat.le_refl _) (by omega) (fun _ _=>rfl) pb
   have f2:=fin c l hpl hc hix pc
   refine⟨_,_,_,f1,?_,fun _=>⟨n06,f2⟩⟩
   split
   ·exact Tw.both hp hk
   ·exact Tw.both hp hkl
  ·refine⟨(),R b (k:Int) false 6,R c 0 l 0,aj ?_ rfl,Tw.six hk _,fun h=>absurd rfl h⟩
   unfold bI
   exact dI pb (an Py (aN (by simp;omega) (aj (Iy b _ false) (aj (AP _ _ _ _) rfl))))
 ·obtain⟨j,e,rfl,hj,h2⟩:=h
  have he:e≠0:=he
  obtain⟨k,hk,hl⟩:=xF (c:=b) (last:=false) (by omega) hj he
  by_cases h6:e=6
  ·subst h6
   exact⟨(),_,R c 0 l 0,aj hl rfl,Tw.six hk _,fun h=>absurd rfl h⟩
  ·obtain⟨i,rfl,hi,_⟩:=h2 h6
   obtain⟨k2,hk2,hl2⟩:=xF (last:=l) hc hi he
   exact⟨(),_,_,aj hl rfl,⟨k,e,rfl,hk,fun _=>⟨k2,rfl,hk2,fun h=>absurd h he⟩⟩,fun _=>⟨h6,aj hl2 rfl⟩⟩
theorem Qy{r s:ai}(h:Tw b c l r s)(n:Int)(hn:r.e_=0->0<=n/\n<=16777216):pH b c l r s (fun r=>aU r n):=by
 have hpl:=hp.1
 by_cases he:r.e_=0
 ·obtain⟨j,hj,rfl,rfl⟩:=h.live he
  obtain⟨n0,n1⟩:=hn rfl
  obtain⟨m,rfl⟩:∃m:Nat,n=m:=⟨n.toNat,by omega⟩
  have w3:∀c:List UInt8,c.length<1048576->aw ((c.length:Int) -(j:Int))=(c.length:Int) -(j:Int):=fun c hc=>ar (by omega) (by omega)
  by_cases hlt:(b.length:Int) -(j:Int)<(m:Int)
  ·refine⟨[],R b (j:Int) false 6,R c 0 l 0,?_,Tw.six hj _,fun h=>absurd rfl h⟩
   show aU _ _=_
   unfold aU
   exact an Py (aN (by show decide ((m:Int)>aw ((b.length:Int) -(j:Int)))=true;rw[w3 b (by omega)];exact decide_eq_true hlt) (aj (Iy b _ false) (aj (AP _ _ _ _) rfl)))
  ·have w4:aw ((j:Int)+(m:Int))=((j+m:Nat):Int):=by rw[ar (by omega) (by omega)];omega
   have w5:aw (((j+m:Nat):Int) -(m:Int))=(j:Int):=by rw[ar (by omega) (by omega)];omega
   have hby:∀(c:List UInt8)(l:Bool),c.length<1048576->j+m<=c.length->aU (R c (j:Int) l 0) (m:Int)=some (part c (j:Int) ((j+m:Nat):Int),R c ((j+m:Nat):Int) l 0):=fun c l hc hm=>by
    unfold aU
    refine an Py (an (by show¬decide ((m:Int)>aw ((c.length:Int) -(j:Int)))=true;rw[w3 c hc];simp;omega) ?_)
    show aL (0<=aw ((aw ((j:Int)+(m:Int))) -(m:Int))/\aw ((aw ((j:Int)+(m:Int))) -(m:Int))<=aw ((j:Int)+(m:Int))/\aw ((j:Int)+(m:Int))<=c.length) (some (part c (aw ((aw ((j:Int)+(m:Int))) -(m:Int))) (aw ((j:Int)+(m:Int))),R c (aw ((j:Int)+(m:Int))) l 0))=_
    rw[w4,w5]
    exact ay (by omega) rfl
   have h1:=hby b false (by omega) (by omega)
   have h2:=hby c l hc (by omega)
   rw[hp.part (by omega)]at h2
   exact⟨_,_,_,h1,Tw.both hp (by omega),fun _=>⟨n06,h2⟩⟩
 ·exact pH.dead h he [] fun r hr=>Nz hr n
omit hc hp in
theorem NK{r s:ai}(h:Tw b c l r s){e:Int}(h6:e≠6):pH b c l r s (W1 fun r=>aD r e):=by
 obtain⟨j,e1,rfl,hj,h2⟩:=h
 by_cases h0:e1=0
 ·subst h0
  obtain⟨i,rfl,hi,h3⟩:=h2 (by decide)
  obtain rfl:=h3 rfl
  exact⟨(),_,_,aj (AP _ _ _ _) rfl,⟨i,e,rfl,hj,fun _=>⟨i,rfl,hi,fun _=>rfl⟩⟩,fun _=>⟨n06,aj (AP _ _ _ _) rfl⟩⟩
 ·refine pH.dead ⟨j,e1,rfl,hj,h2⟩ h0 () fun r hr=>aj (a:=r) ?_ rfl
  unfold aD
  exact an (by simpa using hr) rfl
def XA(p:Bool)(x:List UInt8)(r:ai):Option (List UInt8×ai):=
 if p&&(r.e_==0)then
  aP (jc x 16777216) fun r18=>
  jn (
   if r18.2.2 !=0 then
    aP (aD r 18) fun r23=>
    some r23
   else
    some r) fun(o22:ai)=>
  some (r18.1,o22)
  else
   some (x,r)
omit hc hp in
theorem UH{r s:ai}(h:Tw b c l r s)(p:Bool){x:List UInt8}(hx:r.e_=0->x.length<1048576):pH b c l r s (XA p x):=by
 cases p with
 |false=>refine⟨x,r,s,an (by simp) rfl,h,fun h6=>⟨h6,an (by simp) rfl⟩⟩
 |true=>
  by_cases he:r.e_=0
  ·obtain⟨j,hj,rfl,rfl⟩:=h.live he
   have hu:jc x 16777216=some (wc x 16777216):=by unfold jc;exact ay ⟨by have:=hx rfl;omega,by decide,by decide⟩ rfl
   generalize wc x 16777216=u at hu
   by_cases h0:(u.2.2 !=0)=true
   ·obtain⟨_,r',s',h1,h2,h3⟩:=NK h (e:=18) (by decide)
    obtain⟨r1,h4,h5⟩:=fb h1
    injection h5 with h5
    injection h5 with _ h5
    subst h5
    refine⟨u.1,r1,s',aN rfl (aj hu (dI (aN h0 (aj h4 rfl)) rfl)),h2,fun h6=>?_⟩
    obtain⟨g1,g2⟩:=h3 h6
    obtain⟨s1,g4,g5⟩:=fb g2
    injection g5 with g5
    injection g5 with _ g5
    subst g5
    exact⟨g1,aN rfl (aj hu (dI (aN h0 (aj g4 rfl)) rfl))⟩
   ·refine⟨u.1,_,_,aN rfl (aj hu (dI (an h0 rfl) rfl)),h,fun h6=>⟨h6,aN rfl (aj hu (dI (an h0 rfl) rfl))⟩⟩
  ·refine pH.dead h he x fun r hr=>an (by simp[hr]) rfl
omit hc hp in
theorem pH.seq{α β:Type}{r s:ai}{F:ai->Option (α×ai)}{K:α->ai->Option (β×ai)}(h:pH b c l r s F)(hk:∀x r' s',F r=some (x,r')->Tw b c l r' s'->pH b c l r' s' (K x)):pH b c l r s (fun r=>aP (F r) fun q=>K q.1 q.2):=by
 obtain⟨x,r',s',h1,h2,h3⟩:=h
 obtain⟨y,r2,s2,g1,g2,g3⟩:=hk x r' s' h1 h2
 refine⟨y,r2,s2,aj h1 g1,g2,fun h6=>?_⟩
 obtain⟨k1,k2⟩:=g3 h6
 obtain⟨k3,k4⟩:=h3 k1
 exact⟨k3,aj k4 k2⟩
omit hc hp in
theorem pH.pure{α:Type}{r s:ai}(h:Tw b c l r s)(x:α):pH b c l r s (fun r=>some (x,r)):=⟨x,r,s,rfl,h,fun h6=>⟨h6,rfl⟩⟩
omit hc hp in
theorem pH.eq{α:Type}{r s:ai}{F G:ai->Option (α×ai)}(h:pH b c l r s F)(e:∀r,F r=G r):pH b c l r s G:=by
 have:F=G:=funext e
 rw[<-this];exact h
theorem Qa{r s:ai}(h:Tw b c l r s){v:aa}(hW:Wd 67 v):pH b c l r s (fun r=>bt r v)/\∀o r',bt r v=some (o,r')->Wd 67 o.V:=by
 have hpl:=hp.1
 obtain⟨⟨g,gi⟩,g1,_,_⟩:=Rc v (aH.mk [76,101,110,103,116,104]) hW.1
 obtain⟨p,p1,_⟩:=PD v hW.1
 obtain⟨i,i1,_⟩:=U0 v (aH.mk [68,101,99,111,100,101,80,97,114,109,115]) hW.1
 obtain⟨w1,w2,a1,a2,_,_,hW2⟩:=adE v hW
 have hA:aP (en (!A7 v g) false (eH v (aH.mk [68,101,99,111,100,101,80,97,114,109,115]))) (fun r8=>some ((A7 v g||r8)||(!p.2)))=some ((A7 v g||decide (i>=0))||!p.2):=by
  cases hA:A7 v g with
  |true=>rfl
  |false=>exact aj i1 rfl
 have e:∀r,(aP (W1 (fun r=>if((A7 v g||decide (i>=0))||!p.2)=true then aD r 18 else some r) r) fun q1=>aP (W1 bI q1.2) fun q2=>aP (aU q2.2 g.N) fun q3=>aP (W1 (fun r=>aG r (aH.mk [101,110,100,115,116,114,101,97,109])) q3.2) fun q4=>aP (W1 (fun r=>aG r (aH.mk [101,110,100,111,98,106])) q4.2) fun q5=>aP (XA p.1 q3.1 q5.2) fun q6=>some ((⟨w2,true,⟨q6.1⟩⟩:a8),q6.2))=bt r v:=fun r=>by
  unfold bt
  rw[g1,aJ,p1,aJ]
  have hB:∀(r:ai),(aP (en (!((((v.Kind !=7)||(g.Kind !=2))||(decide (g.N<0)))||(decide (g.N>16777216)))) false (eH v (aH.mk [68,101,99,111,100,101,80,97,114,109,115]))) fun r8=>
  if(((((v.Kind !=7)||(g.Kind !=2))||(decide (g.N<0)))||(decide (g.N>16777216)))||r8)||(!p.2)then
   aP (aD r 18) fun r9=>
   some r9
  else
   some r)=if((A7 v g||decide (i>=0))||!p.2)=true then aD r 18 else some r:=fun r=>by
   obtain⟨q,h1,h2⟩:=fb hA
   injection h2 with h2
   refine aj h1 ?_
   show(if((A7 v g||q)||(!p.2))=true then aP (aD r 18) (fun r9=>some r9)else some r)=_
   rw[h2]
   split
   ·cases aD r 18<;>rfl
   ·rfl
  rw[hB]
  simp only[W1]
  cases(if((A7 v g||decide (i>=0))||!p.2)=true then aD r 18 else some r)with
  |none=>rfl
  |some r1=>
  show aP (aP (bI r1) _) _=jn (some r1) _
  rw[Ic]
  cases bI r1 with
  |none=>rfl
  |some r2=>
  rw[aJ,aJ,aJ]
  cases aU r2 g.N with
  |none=>rfl
  |some r3=>
  rw[aJ,aJ]
  cases aG r3.2 (aH.mk [101,110,100,115,116,114,101,97,109])with
  |none=>rfl
  |some r4=>
  rw[aJ,aJ,aJ]
  cases aG r4 (aH.mk [101,110,100,111,98,106])with
  |none=>rfl
  |some r5=>
  rw[aJ,aJ,aJ]
  unfold XA
  rw[a1]
  generalize(if(p.1&&(r5.e_==0))=true then _ else _:Option (List UInt8×ai))=z
  cases z with
  |none=>rfl
  |some z=>
   rw[aJ,Ic]
   rw[aJ,a2]
   rfl
 have main:pH b c l r s (fun r=>bt r v):=by
  refine pH.eq ?_ e
  refine pH.seq (K:=fun _ q=>aP (W1 bI q) fun q2=>aP (aU q2.2 g.N) fun q3=>aP (W1 (fun r=>aG r (aH.mk [101,110,100,115,116,114,101,97,109])) q3.2) fun q4=>aP (W1 (fun r=>aG r (aH.mk [101,110,100,111,98,106])) q4.2) fun q5=>aP (XA p.1 q3.1 q5.2) fun q6=>some ((⟨w2,true,⟨q6.1⟩⟩:a8),q6.2)) ?_ fun _ r1 s1 f1 t1=>?_
  ·split
   ·exact NK h (by decide)
   ·exact pH.pure h ()
  have hN:r1.e_=0->0<=g.N/\g.N<=16777216:=fun h0=>by
   by_cases U1:((A7 v g||decide (i>=0))||!p.2)=true
   ·have f1:(aP (if((A7 v g||decide (i>=0))||!p.2)=true then aD r 18 else some r) fun r=>some ((),r))=some ((),r1):=f1
    rw[if_pos U1]at f1
    obtain⟨r0,f2,f3⟩:=fb f1
    injection f3 with f3
    injection f3 with _ f3
    subst f3
    unfold aD at f2
    by_cases h00:(r.e_==0)=true
    ·rw[if_pos h00]at f2;injection f2 with f2;subst f2;cases h0
    ·rw[if_neg h00]at f2;injection f2 with f2;subst f2;exact absurd (by simpa using h0) h00
   ·have hA:=(Bool.or_eq_false_iff.1 (Bool.or_eq_false_iff.1 (by simpa using U1:((A7 v g||decide (i>=0))||!p.2)=false)).1).1
    have h1:=(Bool.or_eq_false_iff.1 hA).2
    have h2:=(Bool.or_eq_false_iff.1 (Bool.or_eq_false_iff.1 hA).1).2
    exact⟨by have:=of_decide_eq_false h2;omega,by have:=of_decide_eq_false h1;omega⟩
  refine pH.seq (K:=fun _ q=>aP (aU q g.N) fun q3=>aP (W1 (fun r=>aG r (aH.mk [101,110,100,115,116,114,101,97,109])) q3.2) fun q4=>aP (W1 (fun r=>aG r (aH.mk [101,110,100,111,98,106])) q4.2) fun q5=>aP (XA p.1 q3.1 q5.2) fun q6=>some ((⟨w2,true,⟨q6.1⟩⟩:a8),q6.2)) (VD hc hp t1) fun _ r2 s2 f2 t2=>?_
  have hN2:r2.e_=0->0<=g.N/\g.N<=16777216:=fun h0=>by
   by_cases h1:r1.e_=0
   ·exact hN h1
   ·obtain⟨j,e,rfl,hj,_⟩:=t1
    obtain⟨k,hk,hl⟩:=xF (c:=b) (last:=false) (by omega) hj h1
    unfold W1 at f2
    rw[hl,aJ]at f2
    injection f2 with f2
    injection f2 with _ f2
    subst f2
    exact absurd h0 h1
  refine pH.seq (K:=fun x q=>aP (W1 (fun r=>aG r (aH.mk [101,110,100,115,116,114,101,97,109])) q) fun q4=>aP (W1 (fun r=>aG r (aH.mk [101,110,100,111,98,106])) q4.2) fun q5=>aP (XA p.1 x q5.2) fun q6=>some ((⟨w2,true,⟨q6.1⟩⟩:a8),q6.2)) (Qy hc hp t2 g.N hN2) fun x r3 s3 f3 t3=>?_
  have hx:x.length<1048576:=by
   by_cases h2:r2.e_=0
   ·obtain⟨j,hj,rfl,_⟩:=t2.live h2
    have f3:aU (R b (j:Int) false 0) g.N=some (x,r3):=f3
    unfold aU at f3
    rw[if_neg Py]at f3
    split at f3
    ·rw[Iy,aJ,AP,aJ]at f3
     injection f3 with f3
     injection f3 with f3 _
     subst f3
     decide
    ·unfold aL at f3
     split at f3
     ·injection f3 with f3
      injection f3 with f3 _
      subst f3
      unfold AB.part
      rw[List.length_take,List.length_drop]
      show min _ (b.length -_)<_
      omega
     ·cases f3
   ·have f3:aU r2 g.N=some (x,r3):=f3
    rw[Nz h2]at f3
    injection f3 with f3
    injection f3 with f3 _
    subst f3
    decide
  refine pH.seq (K:=fun _ q=>aP (W1 (fun r=>aG r (aH.mk [101,110,100,111,98,106])) q) fun q5=>aP (XA p.1 x q5.2) fun q6=>some ((⟨w2,true,⟨q6.1⟩⟩:a8),q6.2)) (Ji hc hp t3 _) fun _ r4 s4 f4 t4=>?_
  refine pH.seq (K:=fun _ q=>aP (XA p.1 x q) fun q6=>some ((⟨w2,true,⟨q6.1⟩⟩:a8),q6.2)) (Ji hc hp t4 _) fun _ r5 s5 f5 t5=>?_
  exact pH.seq (K:=fun y q=>some ((⟨w2,true,⟨y⟩⟩:a8),q)) (UH t5 p.1 fun _=>hx) fun y r6 s6 f6 t6=>pH.pure t6 _
 refine⟨main,fun o r' ho=>?_⟩
 rw[<-e]at ho
 obtain⟨_,_,ho⟩:=fb ho
 obtain⟨_,_,ho⟩:=fb ho
 obtain⟨_,_,ho⟩:=fb ho
 obtain⟨_,_,ho⟩:=fb ho
 obtain⟨_,_,ho⟩:=fb ho
 obtain⟨_,_,ho⟩:=fb ho
 injection ho with ho
 injection ho with ho _
 subst ho
 exact hW2
theorem Ge:∃z,cJ b 0 false=some z/\Wd 67 z.2.1.V/\(z.2.2.2≠6->cJ c 0 l=some z):=by
 have t0:Tw b c l (R b ((0:Nat):Int) false 0) (R c ((0:Nat):Int) l 0):=Tw.both hp (Nat.zero_le _)
 obtain⟨n,r1,s1,a1,t1,k1⟩:=GJ hc hp t0 1 4096
 obtain⟨m,r2,s2,a2,t2,k2⟩:=GJ hc hp t1 0 0
 obtain⟨_,r3,s3,a3,t3,k3⟩:=Ji hc hp t2 [111,98,106]
 obtain⟨⟨v,r4,s4,a4,t4,k4⟩,hv⟩:=TT hc hp t3
 obtain⟨⟨x,r5,s5,a5,t5,k5⟩,_⟩:=M9 hc hp t4
 have a3':aG r2 ⟨[111,98,106]⟩=some r3:=by
  obtain⟨q,h1,h2⟩:=fb a3
  have h1:aG r2 ⟨[111,98,106]⟩=some q:=h1
  injection h2 with h2
  injection h2 with _ h2
  rw[h1,h2]
 have k3':r3.e_≠6->r2.e_≠6/\aG s2 ⟨[111,98,106]⟩=some s3:=fun h=>by
  obtain⟨h0,h⟩:=k3 h
  obtain⟨q,h1,h2⟩:=fb h
  have h1:aG s2 ⟨[111,98,106]⟩=some q:=h1
  injection h2 with h2
  injection h2 with _ h2
  exact⟨h0,by rw[h1,h2]⟩
 have tail:∀o(r6 s6:ai),(Wd 67 o.V)->(if x=true then aP (bt r5 v) fun r11=>some (r11.1,r11.2)else some (a8.mk v false (aH.mk []),r5))=some (o,r6)->Tw b c l r6 s6->
  (r6.e_≠6->r5.e_≠6/\(if x=true then aP (bt s5 v) fun r11=>some (r11.1,r11.2)else some (a8.mk v false (aH.mk []),s5))=some (o,s6))->
  ∃z,cJ b 0 false=some z/\Wd 67 z.2.1.V/\(z.2.2.2≠6->cJ c 0 l=some z):=fun o r6 s6 hW f1 t6 f2=>by
  refine⟨if(r6.e_ !=0)=true then(0,o0,0,r6.e_)else(n,o,r6.af.at_,0),?_,?_,fun h6=>?_⟩
  ·unfold cJ
   refine aj a1 (aj a2 (aj a3' (aj a4 (aj rfl (dI (a:=(o,r6)) (aj a5 f1) ?_)))))
   dsimp only
   split<;>rfl
  ·split
   ·exact Wd0
   ·exact hW
  ·have h6':r6.e_≠6:=fun h=>by rw[h]at h6;exact h6 rfl
   obtain⟨q5,f3⟩:=f2 h6'
   obtain⟨q4,b5⟩:=k5 q5
   obtain⟨q3,b4⟩:=k4 q4
   obtain⟨q2,b3⟩:=k3' q3
   obtain⟨q1,b2⟩:=k2 q2
   obtain⟨_,b1⟩:=k1 q1
   obtain⟨j,e,rfl,hj,t7⟩:=t6
   obtain⟨i,rfl,hi,t8⟩:=t7 h6'
   unfold cJ
   refine aj b1 (aj b2 (aj b3 (aj b4 (aj rfl (dI (aj b5 f3) ?_)))))
   dsimp only
   by_cases he:e=0
   ·rw[if_neg (by rw[he];decide),if_neg (by rw[he];decide),t8 he]
   ·rw[if_pos (by simpa using he),if_pos (by simpa using he)]
 cases hxx:x with
 |false=>
  subst hxx
  exact tail _ r5 s5 (hv _ _ a4) rfl t5 fun h=>⟨h,rfl⟩
 |true=>
  subst hxx
  have hW:=hv _ _ a4
  obtain⟨⟨o,r6,s6,a6,t6,k6⟩,ho⟩:=Qa hc hp t5 hW
  have a6:bt r5 v=some (o,r6):=a6
  exact tail o r6 s6 (ho _ _ a6) (by rw[if_pos rfl,a6];rfl) t6 fun h=>by
   obtain⟨g1,g2⟩:=k6 h
   have g2:bt s5 v=some (o,s6):=g2
   exact⟨g1,by rw[if_pos rfl,g2];rfl⟩
end
end Fq
end Go.AB
end
section
namespace Go.AB
open Go Go.AB.Fq
theorem ql:fp=some true:=by kernel_rfl
theorem ss(b:List UInt8)(n:UInt16)(last:Bool):gF b n last=some true:=by
 have w:(aP fp fun r3=>some r3)=some true:=by rw[ql];rfl
 unfold gF
 by_cases h:decide ((b.length:Int)>400)=true
 ·exact aN h w
 ·have hb:b.length<=400:=by
   have:¬(b.length:Int)>400:=by simpa using h
   omega
  have hn:=n.toNat_lt
  have w1:aw ((n.toNat:Int))=(n.toNat:Int):=ar (by omega) (by omega)
  have w2:aw ((b.length:Int)+1)=((b.length+1:Nat):Int):=by rw[ar (by omega) (by omega)];omega
  have hk:n.toNat % (b.length+1)<=b.length:=Nat.le_of_lt_succ (Nat.mod_lt n.toNat (Nat.succ_pos b.length))
  have w3:Int.tmod (n.toNat:Int) ((b.length+1:Nat):Int)=((n.toNat % (b.length+1):Nat):Int):=by rw[Int.tmod_eq_emod_of_nonneg (by omega)];rfl
  rw[w1,w2,w3]
  generalize n.toNat % (b.length+1)=k at hk
  have hp:part b 0 (k:Int)=b.take k:=by
   unfold part
   rw[Int.sub_zero];rfl
  rw[hp]
  obtain⟨z,z1,z2,z3⟩:=Ge (l:=last) (show b.length<1048576 by omega) (B6.take b k)
  obtain⟨z',y1,_,y3⟩:=Ge (l:=true) (show(b.take k).length<1048576 by rw[List.length_take];omega) (B6.refl (b.take k))
  obtain rfl:z=z':=Option.some.inj (z1.symm.trans y1)
  refine an h (ay (by omega) (ay (by omega) (aj z1 ?_)))
  by_cases h6:(z.2.2.2==6)=true
  ·exact aN h6 w
  ·have hne:z.2.2.2≠6:=by simpa using h6
   have hs:fG z.2.1 z.2.1=some true:=by
    unfold fG
    refine aj (PV z2) ?_
    simp
   refine an h6 (aj (z3 hne) (ay (by omega) (aj (y3 hne) ?_)))
   simp only[beq_self_eq_true,Bool.true_and,Bool.and_true]
   refine aj (a:=true) hs (aj (a:=true) hs (aj (a:=true) ?_ rfl))
   rw[ql];rfl
end Go.AB
end
section
namespace Go.AB
open Go Go.RowKit Go.ChangeShapes Go.WideShapes
def wV(N:Nat)(w:World)(b:Nat):Nat:=if b<w.heap.size then N else 0
theorem Mv{P:Program}{w:World}{f:FuncId}{args:List AV}{vs:Array Value}(N:Nat)(hf:FN P f args VQ fun rs _=>rs=[.bool true])(ha:rL w (wV N w) args vs):
 Calls P f vs w fun e w'=>e=.returned (.bool true)/\Below w.heap.size w w':=by
 refine(hf ⟨wV N w,fun _=>.none⟩ w vs ⟨fun _ _=>rfl,fun b hb=>?_⟩ (fun b=>.inl rfl) (fun b o h=>by cases h) ha).mono fun e w'⟨v,rs,s',G',he,hq,_,_,hr,hp⟩=>?_
 ·show wV N w b=0
  unfold wV
  rw[if_neg (by omega)]
 ·subst hq
  refine⟨?_,⟨hp.os,hp.tape,hp.output,hp.size,fun b hb=>hp.frame b hb (.inr rfl)⟩⟩
  rw[he]
  have:=VR.lU hr.1
  rw[this]
def Jk(w:World)(R:Nat->Nat)(as1:List AV)(cs:List Value):Prop:=cs.length=as1.length/\∀(j:Nat)(a:AV)(v:Value),as1[j]? =some a->cs[j]? =some v->VR w R a v
theorem Jk.one{w:World}{R:Nat->Nat}{a:AV}{v:Value}(h:VR w R a v):Jk w R [a] [v]:=by
 refine⟨rfl,fun j a' v' h1 h2=>?_⟩
 cases j with
 |zero=>cases h1;cases h2;exact h
 |succ j=>simp at h1
theorem Jk.append{w:World}{R:Nat->Nat}{as1 bs:List AV}{cs ds:List Value}(h:Jk w R as1 cs)(k:Jk w R bs ds):Jk w R (as1++bs) (cs++ds):=by
 refine⟨by rw[List.length_append,List.length_append,h.1,k.1],fun j a v h1 h2=>?_⟩
 rcases Nat.lt_or_ge j as1.length with hj|hj
 ·rw[List.getElem?_append_left hj]at h1
  rw[List.getElem?_append_left (by rw[h.1];exact hj)]at h2
  exact h.2 j a v h1 h2
 ·rw[List.getElem?_append_right hj]at h1
  rw[List.getElem?_append_right (by rw[h.1];exact hj),h.1]at h2
  exact k.2 _ a v h1 h2
def qO(P:Program)(t:TypeId){α:Type}(n:Nat)(C:α->List AV)(wf:α->Prop):Prop:=
 ∀(H:Type)(enc:TypeId×Value->H)(w:World)(fuel:Nat)(cs:List Value)(x:DataW H×List MemPlace),DataW.trod enc P w 0 (fun _=>true) true fuel t cs=some x->
  cs.length=n/\∃a:α,wf a/\Fl (C a)/\∃N0,∀N,N0<=N->Jk w (wV N w) (C a) cs
def Jp(P:Program)(t:TypeId)(α:Type)[bp α](wf:α->Prop):Prop:=qO P t (bp.w α) (bp.cells:α->List AV) wf
section
variable{P:Program}{t:TypeId}
theorem Cr{a:AV}(h:pQ a=true):Fl [a]:=by
 intro c hc
 rw[List.mem_singleton]at hc;rw[hc];exact h
theorem Su(ht:P.underlying t=some (.int .u8)):Jp P t UInt8 fun _=>True:=by
 intro H enc w fuel cs x h
 obtain⟨n,rfl,_,hw⟩:=DataW.trod_int ht h
 have hb:0<=n/\n<=255:=by simpa[Lit.wf,IntKind.min,IntKind.max,IntKind.signed,IntKind.bits]using hw
 refine⟨rfl,UInt8.ofNat n.toNat,trivial,Cr rfl,0,fun N _=>?_⟩
 have e:((UInt8.ofNat n.toNat).toNat:Int)=n:=by rw[UInt8.toNat_ofNat'];omega
 show Jk _ _ [.int .u8 ((UInt8.ofNat n.toNat).toNat:Int)] _
 rw[e]
 exact Jk.one (.int _ n)
theorem AM{α:Type}{Q:Nat->α->Prop}:∀n:Nat,(∀i,i<n->∃a,Q i a)->∃l:List α,l.length=n/\∀(i:Nat)(a:α),l[i]? =some a->Q i a
 |0,_=>⟨[],rfl,fun i a h=>by simp at h⟩
 |n+1,h=>by
  obtain⟨l,h1,h2⟩:=AM n fun i hi=>h i (by omega)
  obtain⟨a,ha⟩:=h n (by omega)
  refine⟨l++[a],by simp[h1],fun i x hx=>?_⟩
  rcases Nat.lt_or_ge i n with hi|hi
  ·rw[List.getElem?_append_left (by omega)]at hx;exact h2 i x hx
  ·rw[List.getElem?_append_right (by omega)]at hx
   have:i=n:=by
    have:=(List.getElem?_eq_some_iff.1 hx).1
    simp at this;omega
   subst this
   rw[h1,Nat.sub_self]at hx
   injection hx with hx;rw[<-hx];exact ha
theorem common{Q:Nat->Nat->Prop}:∀n:Nat,(∀i,i<n->∃N0,∀N,N0<=N->Q i N)->∃N0,∀N,N0<=N->∀i,i<n->Q i N
 |0,_=>⟨0,fun _ _ i h=>absurd h (Nat.not_lt_zero i)⟩
 |n+1,h=>by
  obtain⟨a,ha⟩:=common n fun i hi=>h i (by omega)
  obtain⟨b,hb⟩:=h n (by omega)
  refine⟨max a b,fun N hN i hi=>?_⟩
  rcases Nat.lt_or_ge i n with h1|h1
  ·exact ha N (by omega) i h1
  ·have:i=n:=by omega
   rw[this];exact hb N (by omega)
theorem Q8{α:Type}[bp α](l:List α){i r:Nat}{a:α}(hi:l[i]? =some a)(hr:r<bp.w α):(flat l)[i*bp.w α+r]? =(bp.cells a)[r]? :=by
 have h1:=pR l (bp.w α) i 1 rfl
 obtain⟨hlt,he⟩:=List.getElem?_eq_some_iff.1 hi
 have h2:(l.drop i).take 1=[a]:=by rw[List.drop_eq_getElem_cons hlt,he];rfl
 rw[h2,jT,sR,List.append_nil,Nat.one_mul]at h1
 rw[<-h1]
 unfold AB.sub
 rw[List.getElem?_take,if_pos hr,List.getElem?_drop]
end
end Go.AB
end
section
namespace Go.AB
open Go Go.RowKit Go.ChangeShapes Go.WideShapes
section
variable{P:Program}
theorem wM{H:Type}{enc:TypeId×Value->H}(hl:laidOutB P=true){W W':World}(hb:Below W.heap.size W W'):
 ∀{ts:List TypeId}{vs:List Value}{ds:List (DataW H)}{ps:List MemPlace},(∀t∈ts,P.readableRec t=true/\t<P.types.size)->DataW.TrodAll enc P W 0 (fun _=>true) true ts vs ds ps->
  DataW.TrodAll enc P W' 0 (fun b=>decide (b<W.heap.size)) true ts vs ds ps
 |[],[],[],_,_,h=>h
 |t::ts,v::vs,d::ds,_,hr,h=>by
  have hlt:=h.lt
  obtain⟨p,q,h1,h2,rfl⟩:=h
  have ht:=hr t List.mem_cons_self
  exact⟨p,q,Below.trod hl ht.1 ht.2 h1 hb fun x hx=>hlt x (List.mem_append_left _ hx),wM hl hb (fun t ht=>hr t (List.mem_cons_of_mem _ ht)) h2,rfl⟩
 |[],_::_,_,_,_,h=>h.elim
 |[],[],_::_,_,_,h=>h.elim
 |_::_,[],_,_,_,h=>h.elim
 |_::_,_::_,[],_,_,h=>h.elim
theorem R4{H:Type}{enc:TypeId×Value->H}{fn:Func}{s:ChangeSpec}{f:FuncId}{W:World}{args:Array Value}{ds gs:List (DataW H)}{before:List MemPlace}{tb:TypeId}
 (XN:s.vars=[])(nb:fn.resultTypes= #[tb])(htb:P.underlying tb=some .bool)(hl:laidOutB P=true)(hr:∀t∈fn.params.toList,P.readableRec t=true/\t<P.types.size)
 (ad5:∀ds:List (DataW H),ds.length=fn.params.toList.length->s.fn H ds={results:=[.lit (.bool true)],args:=ds})
 (hW:DataW.Whole enc P fn.params.toList s.vars false W args.toList ds gs before)
 (hc:Calls P f args W fun e w'=>e=.returned (.bool true)/\Below W.heap.size W w'):
 Calls P f args W fun e W'=>∃v,e=.returned v/\s.post enc P fn false true false false W args v W':=by
 refine hc.mono fun e W'⟨he,hb⟩=>⟨.bool true,he,?_⟩
 have hW':=hW
 obtain⟨p,q,hA,hV,rfl,hfz,hnd⟩:=hW
 rw[XN]at hV
 obtain⟨rfl,rfl⟩:=trodVars_none hV
 have hs:=ad5 ds (trodAll_length hA).2
 refine⟨ds,[],_,[],p,[],hW',?_,?_,?_,?_,fun h=>by cases h⟩
 ·rw[List.append_nil,hs,nb]
  exact trodAll_mk1 (shut_bool htb true)
 ·rw[List.append_nil,hs]
  exact wM hl hb hr hA
 ·rw[List.append_nil,hs,XN]
  exact rfl
 ·exact World.keptBut_mono (fun p hp=>hp.elim) (hb.frame fun _=>False)
theorem qO.map{t:TypeId}{n:Nat}{α β:Type}{C:α->List AV}{wf:α->Prop}(h:qO P t n C wf){C':β->List AV}{wf':β->Prop}(g:α->β)(hC:∀a,C' (g a)=C a)(hw:∀a,wf a->wf' (g a)):qO P t n C' wf':=by
 intro H enc w fuel cs x hx
 obtain⟨h1,a,h2,h3,N0,h4⟩:=h H enc w fuel cs x hx
 exact⟨h1,g a,hw a h2,by rw[hC];exact h3,N0,by rw[hC];exact h4⟩
section
variable{H:Type}{enc:TypeId×Value->H}{w:World}{t:TypeId}{α:Type}[bp α]{wf:α->Prop}{b0:Nat}{v:Value}{d:DataW H}{ps:List MemPlace}
theorem MH(hs:∀cs,v≠.agg cs)(he:Jp P t α wf)(h:DataW.Trod enc P w 0 (fun _=>true) true t v d ps):
 ∃a:α,wf a/\∃N0,∀N,N0<=N->Jk w (wV N w) (bp.cells a) [v]:=by
 obtain⟨fuel,hf⟩:=h
 obtain⟨_,a,ha,_,N0,hN⟩:=he H enc w fuel _ _ hf
 refine⟨a,ha,N0,fun N h=>?_⟩
 have h1:=hN N h
 have:v.cells.toList=[v]:=by cases v<;>first|rfl|exact absurd rfl (hs _)
 rwa[this]at h1
theorem Jk.head{R:Nat->Nat}{a:AV}(h:Jk w R [a] [v]):VR w R a v:=h.2 0 a v rfl rfl
theorem MI(ht:P.underlying t=some .bool)(q9:Value.okWide P w .any b0 t v)(h:DataW.Trod enc P w 0 (fun _=>true) true t v d ps):
 ∃b:Bool,True/\∃N0,∀N,N0<=N->VR w (wV N w) (.bool b) v:=by
 obtain⟨n,rfl,_⟩:=open_bool ht q9 h
 exact⟨n,trivial,0,fun N _=>.bool n⟩
end
theorem ac3{w:World}{R:Nat->Nat}{a0 a1 a2:AV}{v0 v1 v2:Value}(h0:VR w R a0 v0)(h1:VR w R a1 v1)(h2:VR w R a2 v2):rL w R [a0,a1,a2] #[v0,v1,v2]:=⟨rfl,fun j a v k1 k2=>by match j,k1,k2 with|0,k1,k2=>(cases k1;cases k2;exact h0)|1,k1,k2=>(cases k1;cases k2;exact h1)|2,k1,k2=>(cases k1;cases k2;exact h2)⟩
end
end Go.AB
end
section
namespace Go.AB
open Go
end Go.AB
end
section
namespace Go.AB
open Go Go.RowKit Go.ChangeShapes Go.WideShapes
def kp(K:Nat)(P:Program)(t:TypeId){α:Type}(n:Nat)(C:α->List AV)(wf:α->Prop):Prop:=
 ∀(H:Type)(enc:TypeId×Value->H)(w:World)(fuel:Nat)(cs:List Value)(x:DataW H×List MemPlace),fuel<=K->DataW.trod enc P w 0 (fun _=>true) true fuel t cs=some x->
  cs.length=n/\∃a:α,wf a/\Fl (C a)/\∃N0,∀N,N0<=N->Jk w (wV N w) (C a) cs
section
variable{P:Program}{t:TypeId}
theorem qO.b{n:Nat}{α:Type}{C:α->List AV}{wf:α->Prop}(h:qO P t n C wf)(K:Nat):kp K P t n C wf:=fun H enc w fuel cs x _ hx=>h H enc w fuel cs x hx
theorem kp.all{n:Nat}{α:Type}{C:α->List AV}{wf:α->Prop}(h:∀K,kp K P t n C wf):qO P t n C wf:=fun H enc w fuel cs x hx=>h fuel H enc w fuel cs x (Nat.le_refl _) hx
theorem kp.le{n:Nat}{α:Type}{C:α->List AV}{wf:α->Prop}{K K':Nat}(h:kp K P t n C wf)(hk:K'<=K):kp K' P t n C wf:=fun H enc w fuel cs x hf hx=>h H enc w fuel cs x (Nat.le_trans hf hk) hx
theorem kp.zero{n:Nat}{α:Type}{C:α->List AV}{wf:α->Prop}:kp 0 P t n C wf:=fun H enc w fuel cs x hf hx=>by
 have:fuel=0:=by omega
 subst this
 simp[DataW.trod]at hx
theorem kp.map{K n:Nat}{α β:Type}{C:α->List AV}{wf:α->Prop}(h:kp K P t n C wf){C':β->List AV}{wf':β->Prop}(g:α->β)(hC:∀a,C' (g a)=C a)(hw:∀a,wf a->wf' (g a)):kp K P t n C' wf':=by
 intro H enc w fuel cs x hf hx
 obtain⟨h1,a,h2,h3,N0,h4⟩:=h H enc w fuel cs x hf hx
 exact⟨h1,g a,hw a h2,by rw[hC];exact h3,N0,by rw[hC];exact h4⟩
theorem M5{w:World}{α:Type}[bp α]{wf:α->Prop}{a:Addr}{len cap:Nat}(hl:len<=cap)(hm:cap<=maxLen)
 (each:∀i,i<len->∃x:α×List Value,wf x.1/\Fl (bp.cells x.1)/\w.cells? 0 (a.add (i*bp.w α)) (bp.w α)=some x.2/\∃N0,∀N,N0<=N->Jk w (wV N w) (bp.cells x.1) x.2):
 ∃l:List α,(l.length<=maxLen/\∀a∈l,wf a)/\Fl [.sl false (bp.w α) l.length (flat l)]/\∃N0,∀N,N0<=N->Jk w (wV N w) [.sl false (bp.w α) l.length (flat l)] [.slice (some a) len cap]:=by
 have hw:0<bp.w α:=bp.pos
 rcases Nat.eq_zero_or_pos len with h0|h0
 ·subst h0
  exact⟨[],⟨Nat.zero_le _,fun _ h=>absurd h List.not_mem_nil⟩,Cr rfl,0,fun N _=>.one (.sle _ _ _)⟩
 obtain⟨b,off,spot⟩:=a
 have ZA:spot=none/\b<w.heap.size:=by
  obtain⟨x,_,_,h2,_⟩:=each 0 h0
  obtain⟨_,h3,h4⟩:=World.cells?_some h2
  have h5:=h4 0 hw
  have hxl:0<x.2.length:=by omega
  rw[List.getElem?_eq_getElem hxl]at h5
  unfold World.cell? at h5
  have e1:(((⟨b,off,spot⟩:Addr).add (0*bp.w α)).add 0).block=b:=by
   unfold Addr.add;repeat' split
   all_goals rfl
  have e2:(((⟨b,off,spot⟩:Addr).add (0*bp.w α)).add 0).spot.isSome=spot.isSome:=by
   cases spot with
   |none=>unfold Addr.add;repeat' split
          all_goals simp_all
   |some q=>unfold Addr.add;repeat' split
            all_goals simp_all
  rw[e1,e2]at h5
  split at h5
  ·rename_i hh
   refine⟨?_,(Array.getElem?_eq_some_iff.1 hh).1⟩
   cases spot with
   |none=>rfl
   |some q=>simp at h5
  ·cases h5
 obtain⟨rfl,hb⟩:=ZA
 obtain⟨L,hL,hQ⟩:=AM len each
 have hx:∀i,i<len->∃x,L[i]? =some x:=fun i hi=>⟨L[i]'(by omega),List.getElem?_eq_getElem (by omega)⟩
 obtain⟨N0,hN0⟩:=common (Q:=fun i N=>∀x,L[i]? =some x->Jk w (wV N w) (bp.cells x.1) x.2) len fun i hi=>by
  obtain⟨x,hx⟩:=hx i hi
  obtain⟨_,_,_,N0,h⟩:=hQ i x hx
  exact⟨N0,fun N hN y hy=>by rw[hx]at hy;cases hy;exact h N hN⟩
 have hwf:∀a∈L.map (·.1),wf a/\Fl (bp.cells a):=by
  intro a ha
  obtain⟨x,hx,rfl⟩:=List.mem_map.1 ha
  obtain⟨i,hi⟩:=List.getElem?_of_mem hx
  have:=hQ i x hi
  exact⟨this.1,this.2.1⟩
 have sf:∀(j:Nat)(c:AV),(flat (L.map (·.1)))[j]? =some c->∃v,w.cell? ⟨b,off+j,none⟩=some v/\∀N,N0<=N->VR w (wV N w) c v:=by
  intro j c hj
  have hjl:=(List.getElem?_eq_some_iff.1 hj).1
  rw[aR,List.length_map,hL]at hjl
  have hi:j/bp.w α<len:=Nat.div_lt_of_lt_mul (by rw[Nat.mul_comm];exact hjl)
  have hr:j % bp.w α<bp.w α:=Nat.mod_lt _ hw
  have hje:j=j/bp.w α*bp.w α+j % bp.w α:=by rw[Nat.mul_comm];exact(Nat.div_add_mod _ _).symm
  obtain⟨x,hx⟩:=hx _ hi
  have h1:=Q8 (L.map (·.1)) (i:=j/bp.w α) (a:=x.1) (by rw[List.getElem?_map,hx];rfl) hr
  rw[<-hje,hj]at h1
  obtain⟨_,_,h2,_⟩:=hQ _ x hx
  obtain⟨_,h3,h4⟩:=World.cells?_some h2
  have h5:=h4 _ hr
  rw[add_plain,add_plain,Nat.add_assoc,<-hje]at h5
  refine⟨x.2[j % bp.w α]'(by omega),by rw[h5,List.getElem?_eq_getElem],fun N hN=>?_⟩
  exact(hN0 N hN _ hi x hx).2 _ _ _ h1.symm (List.getElem?_eq_getElem _)
 refine⟨L.map (·.1),⟨by rw[List.length_map,hL];omega,fun a ha=>(hwf a ha).1⟩,Cr rfl,max N0 (off+len*bp.w α),fun N hN=>.one ?_⟩
 rw[List.length_map,hL]
 refine .sl false (bp.w α) len _ b off cap (fun j=>(w.cell? ⟨b,off+j,none⟩).getD default) ?_ ?_ ?_ hl ?_ ?_
 ·intro c hcm
  unfold flat at hcm
  obtain⟨l,hl,hcl⟩:=List.mem_flatten.1 hcm
  obtain⟨a,ha,rfl⟩:=List.mem_map.1 hl
  exact(hwf a ha).2 c hcl
 ·rw[aR,List.length_map,hL]
 ·rw[aR,List.length_map,hL]
  unfold wV
  rw[if_pos hb];omega
 ·intro j c hj
  obtain⟨v,h1,_⟩:=sf j c hj
  rw[h1];rfl
 ·intro j c hj
  obtain⟨v,h1,h2⟩:=sf j c hj
  simp only[h1,Option.getD_some];exact h2 N (by omega)
theorem Iz{K:Nat}{e:TypeId}{α:Type}[bp α]{wf:α->Prop}(ht:P.underlying t=some (.slice e))(hc:P.cellsOf e=bp.w α)(he:kp K P e (bp.w α) (bp.cells:α->List AV) wf):
 kp (K+1) P t 1 (fun l:List α=>[.sl false (bp.w α) l.length (flat l)]) fun l=>l.length<=maxLen/\∀a∈l,wf a:=by
 intro H enc w fuel cs x hk h
 rcases DataW.trod_slice ht h with⟨rfl,_⟩|⟨a,len,cap,elems,rest,n,rfl,rfl,_,_,hl,hm,hlen,hel,_⟩
 ·exact⟨rfl,[],⟨Nat.zero_le _,fun _ h=>absurd h List.not_mem_nil⟩,Cr rfl,0,fun N _=>.one (.slnil _ _)⟩
 ·refine⟨rfl,M5 hl hm fun i hi=>?_⟩
  have h1:=hel i hi
  rw[hc,List.getElem?_eq_getElem (by omega),Option.bind_eq_some_iff]at h1
  obtain⟨cs,h2,h3⟩:=h1
  obtain⟨_,x,h4,h5,h6⟩:=he H enc w n cs _ (by omega) h3
  exact⟨(x,cs),h4,h5,h2,h6⟩
theorem IA{e:TypeId}{α:Type}[bp α]{wf:α->Prop}(ht:P.underlying t=some (.slice e))(hc:P.cellsOf e=bp.w α)(he:Jp P e α wf):
 qO P t 1 (fun l:List α=>[.sl false (bp.w α) l.length (flat l)]) fun l=>l.length<=maxLen/\∀a∈l,wf a:=
 kp.all fun K=>(Iz ht hc (qO.b he K)).le (Nat.le_succ K)
theorem okWide_slice{w:World}{e:TypeId}{b0:Nat}{v:Value}(ht:P.underlying t=some (.slice e))(q9:Value.okWide P w .any b0 t v):∀cs,v≠.agg cs:=by
 intro cs h
 subst h
 unfold Value.okWide Cell.okWide Cell.ok at q9
 rw[ht]at q9
 exact q9
theorem Sr{H:Type}{enc:TypeId×Value->H}{w:World}{e:TypeId}{α:Type}[bp α]{wf:α->Prop}{v:Value}{d:DataW H}{ps:List MemPlace}
 (ht:P.underlying t=some (.slice e))(hc:P.cellsOf e=bp.w α)(he:Jp P e α wf)(h:DataW.Trod enc P w 0 (fun _=>true) true t v d ps)(hv:∀cs,v≠.agg cs):
 ∃l:List α,(l.length<=maxLen/\∀a∈l,wf a)/\∃N0,∀N,N0<=N->VR w (wV N w) (.sl false (bp.w α) l.length (flat l)) v:=by
 obtain⟨fuel,hf⟩:=h
 obtain⟨_,l,hl,_,N0,hN⟩:=IA ht hc he H enc w fuel _ _ hf
 have nL:v.cells.toList=[v]:=by cases v<;>first|rfl|exact absurd rfl (hv _)
 refine⟨l,hl,N0,fun N h=>?_⟩
 have:=hN N h
 rw[nL]at this
 exact this.head
end
end Go.AB
end
section
namespace Go.AB
open Go Go.ChangeShapes Go.WideShapes Go.ChangeAt Go.RowKit Go.Proofs.YtplacgnfinmfbaaGreatDoor Go.Proofs
open Go.Proofs.Tryz (prog)
section
variable{P:Program}{H:Type}{enc:TypeId×Value->H}{w:World}{b0:Nat}{t:TypeId}{v:Value}{d:DataW H}{ps:List MemPlace}
instance:bp UInt16:=⟨1,fun n=>[.int .u16 n.toNat],0,Nat.one_pos,fun _=>rfl,fun _=>rfl⟩
theorem PB(ht:P.underlying t=some (.int .u16)):Jp P t UInt16 fun _=>True:=by
 intro H enc w fuel cs x h
 obtain⟨n,rfl,_,hw⟩:=DataW.trod_int ht h
 have hb:0<=n/\n<=65535:=by simpa[Lit.wf,IntKind.min,IntKind.max,IntKind.signed,IntKind.bits]using hw
 refine⟨rfl,UInt16.ofNat n.toNat,trivial,Cr rfl,0,fun N _=>?_⟩
 have e:((UInt16.ofNat n.toNat).toNat:Int)=n:=by rw[UInt16.toNat_ofNat'];omega
 show Jk _ _ [.int .u16 ((UInt16.ofNat n.toNat).toNat:Int)] _
 rw[e]
 exact Jk.one (.int _ n)
theorem Ss(ht:P.underlying t=some (.int .u16))(q9:Value.okWide P w .any b0 t v)(h:DataW.Trod enc P w 0 (fun _=>true) true t v d ps):
 ∃n:UInt16,True/\∃N0,∀N,N0<=N->VR w (wV N w) (.int .u16 n.toNat) v:=by
 obtain⟨n,rfl,_⟩:=open_int ht q9 h
 obtain⟨a,ha,N0,hN⟩:=MH (fun _ h=>by cases h) (PB ht) h
 exact⟨a,ha,N0,fun N h=>(hN N h).head⟩
end
theorem tU:ownKnob Tryz.prog.godebug=none:=by kernel_rfl
theorem sq:laidOutB Tryz.prog=true:=by kernel_rfl
theorem vX:Tryz.prog.underlying 4=some .bool:=by kernel_rfl
set_option maxRecDepth 100000 in
theorem tT{H:Type}{enc:TypeId×Value->H}{W:World}{base:Nat}{args:Array Value}{ds gs:List (DataW H)}{before:List MemPlace}
 (ad7:∀(j:Nat) t v,Tryz.f4.params[j]? =some t->args[j]? =some v->Value.okWide Tryz.prog W .any base t v)
 (hW:DataW.Whole enc Tryz.prog Tryz.f4.params.toList Rows.frameStaysSpec.vars false W args.toList ds gs before):
 Calls Tryz.prog 4 args W fun e w'=>e=.returned (.bool true)/\Below W.heap.size W w':=by
 obtain⟨p,q,hA0,hV,rfl,hfz,hnd⟩:=hW
 have q9:=ad7
 have hA:DataW.TrodAll enc Tryz.prog W 0 (fun _=>true) true Tryz.f4.params.toList args.toList ds p:=hA0
 have hp:Tryz.f4.params= #[22,36,4]:=by kernel_rfl
 rw[hp]at hA q9
 obtain⟨v0,v1,v2,d0,d1,d2,p0,p1,p2,rfl,rfl,rfl,h0,h1,h2⟩:=trodAll_three hA
 obtain⟨x0,w0,N0,k0⟩:=Sr (by kernel_rfl) (by kernel_rfl) (Su (P:=prog) (t:=5) (by kernel_rfl)) h0 (okWide_slice (e:=5) (by kernel_rfl) (q9 0 22 v0 rfl rfl))
 obtain⟨x1,w1,N1,k1⟩:=Ss (by kernel_rfl) (q9 1 36 v1 rfl rfl) h1
 obtain⟨x2,w2,N2,k2⟩:=MI (by kernel_rfl) (q9 2 4 v2 rfl rfl) h2
 refine Mv (max N0 (max N1 N2)) ?_ (ac3 (k0 _ (by omega)) (k1 _ (by omega)) (k2 _ (by omega)))
 exact(vV (ss x0 x1 x2)).app rfl
end Go.AB
namespace Go.Proofs.YtplacgnfinmfbaaGreatDoor
open Go.ChangeShapes Go.WideShapes Go.ChangeAt Go.RowKit
set_option maxRecDepth 100000 in
theorem yz(os:Os)(started:os.Started)(H:Type)(enc:TypeId×Value->H):
 ReturnsInHanded {} Tryz.checked os 4 .any (fun w args=>(Rows.frameStaysSpec.pre enc Tryz.prog Tryz.f4 [] false w args/\laidMetH Tryz.prog Rows.frameStaysRow.laid w)/\sizedMet enc Tryz.prog Tryz.f4 (OpenSpec.ofChange Rows.frameStaysSpec) false w args)
  (Rows.frameStaysSpec.post enc Tryz.prog Tryz.f4 false true false false):=by
 refine returnsInHanded_of_change_and (C:=Tryz.checked) (X:=fun w _=>laidMetH Tryz.prog Rows.frameStaysRow.laid w) (fun _ _ _ hh h=>h.of_heap hh) AB.tU started (by kernel_rfl) Tryz.func4
  (ChangeSpec.witness_shaped (enc:=enc) (C:=Tryz.checked) (os:=os) (X:=fun w _=>laidMetH Tryz.prog Rows.frameStaysRow.laid w) false (World.laidAll Tryz.prog os Rows.frameStaysRow.laid) #[.slice none 0 0,.int .u16 0,.bool false] 8 (World.laidAll_os _ _ _)
    (World.shaped_of_ZipB (by kernel_rfl) (by kernel_rfl)) (by kernel_rfl) (by kernel_rfl) (by kernel_rfl)
    (by rw[MakeChecks.laidMetH_plain _ _ _ (by kernel_rfl)];exact laidMet_laidAll _ (by kernel_rfl) (by kernel_rfl))) ?_
 intro W base args ds gs before q9 hW _ _ _ _
 exact AB.R4 rfl (by kernel_rfl) AB.vX AB.sq (of_decide_eq_true (by kernel_rfl)) (fun ds h=>by
  match ds,h with
  |[_,_,_],_=>rfl) hW (AB.tT q9 hW)
theorem fA{a b:Bool}(h:a=true)(k:b=true):(a&&b)=true:=by rw[h,k];rfl
theorem EM:(Rows.frameStaysRow.wf (OpenSpec.ofChange Rows.frameStaysSpec))=true:=by kernel_rfl
theorem EN:(laidOutB Tryz.checked.prog)=true:=by kernel_rfl
theorem EO:(mapsRowed Tryz.checked.prog)=true:=by kernel_rfl
theorem EP:(Tryz.f4.params.all (Tryz.checked.prog.readableRec ·))=true:=by kernel_rfl
theorem ER:(namedTie Tryz.checked.prog Rows.frameStaysRow.named Rows.frameStaysSpec.vars)=true:=by kernel_rfl
theorem ES:((Rows.frameStaysRow.stops==[]))=true:=by kernel_rfl
theorem ET:((Tryz.checked.prog.stops==[]))=true:=by kernel_rfl
theorem EU:((Rows.frameStaysRow.knobs==[]))=true:=by kernel_rfl
theorem EV:((Tryz.checked.prog.stopKnobs==[]))=true:=by kernel_rfl
theorem EW:((Rows.frameStaysRow.inPlace==Tryz.checked.prog.inPlace 4))=true:=by kernel_rfl
theorem Ct:((Rows.frameStaysRow.unfollowed==Tryz.checked.prog.unfollowed 4))=true:=by kernel_rfl
theorem Cu:((Rows.frameStaysRow.recurses==Tryz.checked.prog.recurses 4))=true:=by kernel_rfl
theorem Cv:((Rows.frameStaysRow.named==Tryz.checked.prog.varsNamed 4))=true:=by kernel_rfl
theorem Cw:((Rows.frameStaysRow.maps==(Tryz.f4.params.toList++Rows.frameStaysSpec.plain.varTypes Tryz.checked.prog).any (Tryz.checked.prog.mapsRec ·)))=true:=by kernel_rfl
theorem Cx:((Rows.frameStaysRow.ifaces==(Tryz.f4.params.toList++Rows.frameStaysSpec.plain.varTypes Tryz.checked.prog).any (Tryz.checked.prog.ifacesRec ·)))=true:=by kernel_rfl
theorem Cy:((Rows.frameStaysRow.mapsOut==Tryz.checked.prog.mapsAmong Tryz.f4.resultTypes.toList))=true:=by kernel_rfl
theorem Cz:((Rows.frameStaysRow.loops==(Tryz.f4.params.toList++Rows.frameStaysSpec.plain.varTypes Tryz.checked.prog).any (Tryz.checked.prog.loopsFrom ·)))=true:=by kernel_rfl
theorem CA:((Rows.frameStaysRow.wideKeys==(Tryz.f4.params.toList++Rows.frameStaysSpec.plain.varTypes Tryz.checked.prog++Tryz.f4.resultTypes.toList).any (Tryz.checked.prog.wideKeysFrom ·)))=true:=by kernel_rfl
theorem CB:(Rows.frameStaysSpec.vars.all (Tryz.checked.prog.varReadable ·))=true:=by kernel_rfl
theorem CC:(Tryz.f4.resultTypes.all (fun t=>Tryz.checked.prog.readableRec t&&decide (t<Tryz.checked.prog.types.size)))=true:=by kernel_rfl
theorem CD:((Rows.frameStaysRow.ifacesOut==Tryz.f4.resultTypes.toList.any (Tryz.checked.prog.ifacesRec ·)))=true:=by kernel_rfl
theorem CE:((Rows.frameStaysRow.loopsOut==Tryz.f4.resultTypes.toList.any (Tryz.checked.prog.loopsFrom ·)))=true:=by kernel_rfl
theorem CF:((Rows.frameStaysRow.plainKeys==Tryz.checked.prog.plainKeys))=true:=by kernel_rfl
theorem CG:(Rows.frameStaysRow.shortTexts.isNone)=true:=by kernel_rfl
theorem CH:(Tryz.checked.prog.stopsHeard)=true:=by kernel_rfl
theorem CI:(Tryz.checked.prog.mayEnter)=true:=by kernel_rfl
theorem CJ:((Rows.frameStaysRow.lifted==Tryz.checked.prog.liftsFinal))=true:=by kernel_rfl
theorem CK:((Tryz.checked.prog.make==some Rows.frameStaysRow.make))=true:=by kernel_rfl
theorem CL:((Rows.frameStaysRow.kinds==(if Rows.frameStaysRow.domain.isEmpty then[]else Tryz.f4.params.toList.map fun t=>match Tryz.checked.prog.underlying t with|some (.int k)=>some k|_=>none)))=true:=by kernel_rfl
theorem CM:((Rows.frameStaysRow.pinned==Rows.frameStaysRow.pinnedBy))=true:=by kernel_rfl
theorem CN:((Rows.frameStaysRow.veiled==(Tryz.f4.params.toList++Rows.frameStaysSpec.plain.varTypes Tryz.checked.prog++Tryz.f4.resultTypes.toList).any (Tryz.checked.prog.veiledRec ·)))=true:=by kernel_rfl
theorem CO:(Rows.frameStaysRow.veiledFits Tryz.checked.prog Tryz.f4.params.toList (Tryz.f4.params.toList++Rows.frameStaysSpec.plain.varTypes Tryz.checked.prog++Tryz.f4.resultTypes.toList))=true:=by kernel_rfl
set_option maxRecDepth 100000 in
theorem yy:joinedFacts Tryz.checked.prog 4 Tryz.f4 Rows.frameStaysSpec Rows.frameStaysRow=true:=(fA (fA (fA (fA (fA (fA (fA (fA (fA (fA (fA (fA (fA (fA (fA (fA (fA (fA (fA (fA (fA (fA (fA (fA (fA (fA (fA (fA (fA (fA (fA EM EN) EO) EP) ER) ES) ET) EU) EV) EW) Ct) Cu) Cv) Cw) Cx) Cy) Cz) CA) CB) CC) CD) CE) CF) CG) CH) CI) CJ) CK) CL) CM) CN) CO)
theorem zM:Rows.FrameStaysSaid:=
 OpenClaim.holds_of_wide 4 Tryz.f4 rfl rfl rfl rfl rfl rfl rfl ⟨rfl,rfl,rfl,rfl,rfl⟩ rfl rfl rfl rfl rfl (by kernel_rfl) Tryz.func4 yy
  (of_decide_eq_true (by kernel_rfl)) (by unfold Func.isWrapper;first|(rw[if_pos (by decide+kernel)];kernel_rfl)|(rw[if_neg (by decide+kernel)];exact⟨rfl,rfl⟩))
  (fun os started H enc _=>yz os started H enc)
end Go.Proofs.YtplacgnfinmfbaaGreatDoor
end
section
namespace Go.Proofs.YtplacgnfinmfbaaGreatDoor
open Go
theorem frameStays_card:Rows.FrameStaysCardSaid:=
 Claim7.holds_tied_plain_at .later [] [.data,.pinned] true (true, "b2177a98a635e4c490ed61a895036120674d964ff060c9bdf97e9f060d3466ee") false zM (fun _ h=>by cases h) Ur (fun _ h=>by cases h) frameStays_row_tie rfl ⟨rfl,rfl⟩ Us rfl
  (fun f fn hf hfn=>by
    obtain rfl:f=4:=Option.some.inj (Ut.symm.trans hf)|>.symm
    obtain rfl:fn=Tryz.f4:=(Option.some.inj (Tryz.func4.symm.trans hfn)).symm
    exact⟨Uu,fun j t ht=>by
     rw[Uv]at ht
     have hm:t∈[22,36,4]:=by simpa using Array.mem_of_getElem? ht
     exact(show Tryz.prog.wantsStandIn t=false by simpa using List.all_eq_true.1 Uw t hm)⟩)
  Ux
end Go.Proofs.YtplacgnfinmfbaaGreatDoor
end
