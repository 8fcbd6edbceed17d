/- A part of the proof: Xq, Xr, Xs, Xt, Xu. -/
import Derived.Test.YtkeagffgdajggaaGreatNu25
set_option linter.unusedSimpArgs false
set_option linter.unusedVariables false
section
set_option linter.unusedSimpArgs false
namespace Go.AB
open Go
theorem FP(p:Nat->Bool):∀n,(∀k,k<n->p k=true)\/∃j,j<n/\p j=false/\∀k,k<j->p k=true
 |0=>.inl fun k h=>absurd h (Nat.not_lt_zero k)
 |n+1=>by
  rcases FP p n with h|⟨j,h1,h2,h3⟩
  ·cases e:p n with
   |true=>
    refine .inl fun k hk=>?_
    rcases Nat.lt_or_ge k n with h'|h'
    ·exact h k h'
    ·have:k=n:=by omega
     subst this;exact e
   |false=>exact .inr ⟨n,by omega,e,h⟩
  ·exact .inr ⟨j,by omega,h2,h3⟩
theorem abM{α:Type}{n:Nat}{p:Nat->α->Prop}(d:α)(h:∀k,k<n->∃a,p k a):∃f:Nat->α,∀k,k<n->p k (f k):=⟨fun k=>if hk:k<n then(h k hk).choose else d,fun k hk=>by simp only[dif_pos hk];exact(h k hk).choose_spec⟩
theorem kid{n:Nat}{v:aa}(h:W (n+1) v){k:Nat}(hk:k<v.L.length):W n (ix v.L (k:Int)):=by rw[cQ hk];exact h.2 _ (List.getElem_mem hk)
theorem Pf:∀a b:List UInt8,(!Op.bytesLess a b)=(Op.bytesLess b a||(b==a))
 |[],[]=>rfl
 |[],b::y=>by
  show(!true)=(false||_)
  simp
 |a::x,[]=>by
  show(!false)=(true||_)
  simp
 |a::x,b::y=>by
  have ih:=Pf x y
  rw[Op.bytesLess,Op.bytesLess,List.cons_beq_cons]
  rcases Nat.lt_trichotomy a.toNat b.toNat with h|h|h
  ·have h1:a<b:=UInt8.lt_iff_toNat_lt.2 h
   have h2:¬b<a:=fun h'=>by have:=UInt8.lt_iff_toNat_lt.1 h';omega
   have h3:(b==a)=false:=by simp;intro e;subst e;omega
   simp[h1,h2,h3]
  ·obtain rfl:a=b:=UInt8.toNat_inj.1 h
   have h1:¬a<a:=fun h'=>by have:=UInt8.lt_iff_toNat_lt.1 h';omega
   simp[h1]at ih⊢
   exact ih
  ·have h1:b<a:=UInt8.lt_iff_toNat_lt.2 h
   have h2:¬a<b:=fun h'=>by have:=UInt8.lt_iff_toNat_lt.1 h';omega
   have h3:(a==b)=false:=by simp;intro e;subst e;omega
   simp[h1,h2,h3]
theorem SC(x y:Int):∃c,bR x y=some c/\(c=0↔x=y):=by
 have nn:∀z:Int,(z !=z)=false:=fun z=>by simp
 unfold bR eL
 rw[nn,nn,a8,a8]
 by_cases h1:x<y
 ·exact⟨-1,aF (by decide) (aF (by decide) (aU (by simpa using h1) rfl)),by constructor<;>intro h<;>omega⟩
 ·by_cases h2:x>y
  ·exact⟨1,aF (by decide) (aF (by decide) (aF (by simpa using h1) (aU (by simpa using h2) rfl))),by constructor<;>intro h<;>omega⟩
  ·exact⟨0,aF (by decide) (aF (by decide) (aF (by simpa using h1) (aF (by simpa using h2) rfl))),by constructor<;>intro h<;>omega⟩
theorem SD:∀a b:List UInt8,Lib.compareBytes a b=0↔a=b
 |[],[]=>⟨fun _=>rfl,fun _=>rfl⟩
 |[],_::_=>⟨fun h=>(by rw[Lib.compareBytes]at h;cases h),fun h=>(by cases h)⟩
 |_::_,[]=>⟨fun h=>(by rw[Lib.compareBytes]at h;cases h),fun h=>(by cases h)⟩
 |a::x,b::y=>by
  rw[Lib.compareBytes]
  by_cases h1:a<b
  ·rw[if_pos h1]
   refine⟨fun h=>(by cases h),fun h=>?_⟩
   injection h with h _
   subst h
   exact absurd (UInt8.lt_iff_toNat_lt.1 h1) (Nat.lt_irrefl _)
  ·rw[if_neg h1]
   by_cases h2:b<a
   ·rw[if_pos h2]
    refine⟨fun h=>(by cases h),fun h=>?_⟩
    injection h with h _
    subst h
    exact absurd (UInt8.lt_iff_toNat_lt.1 h2) (Nat.lt_irrefl _)
   ·rw[if_neg h2,SD x y]
    have e:a=b:=UInt8.toNat_inj.1 (by
     have k1:¬a.toNat<b.toNat:=fun h=>h1 (UInt8.lt_iff_toNat_lt.2 h)
     have k2:¬b.toNat<a.toNat:=fun h=>h2 (UInt8.lt_iff_toNat_lt.2 h)
     omega)
    subst e
    constructor
    ·intro h;rw[h]
    ·intro h;injection h
theorem ah1(a b c:Int):∃r,fQ [a,b,c]=some r/\(r=0↔a=0/\b=0/\c=0):=by
 by_cases ha:a=0
 ·by_cases hb:b=0
  ·by_cases hc:c=0
   ·subst ha;subst hb;subst hc
    exact⟨0,by kernel_rfl,by simp⟩
   ·subst ha;subst hb
    refine⟨c,?_,by simp⟩
    unfold fQ
    refine fN (z:=.inr c) (fm (z:=.inr c) (eP 2 (by omega) (fun k hk=>?_) ?_) rfl) rfl
    ·have:k=0\/k=1:=by omega
     rcases this with rfl|rfl<;>rfl
    ·exact aU rfl (az (show(0:Int)<=2/\(2:Int)<3 by decide) (aU (by show(c !=0)=true;simpa using hc) rfl))
  ·subst ha
   refine⟨b,?_,by simp[hb]⟩
   unfold fQ
   refine fN (z:=.inr b) (fm (z:=.inr b) (eP 1 (by omega) (fun k hk=>?_) ?_) rfl) rfl
   ·obtain rfl:k=0:=by omega
    rfl
   ·exact aU rfl (az (show(0:Int)<=1/\(1:Int)<3 by decide) (aU (by show(b !=0)=true;simpa using hb) rfl))
 ·refine⟨a,?_,by simp[ha]⟩
  unfold fQ
  refine fN (z:=.inr a) (fm (z:=.inr a) (eP 0 (by omega) (fun k hk=>by omega) ?_) rfl) rfl
  exact aU rfl (az (show(0:Int)<=0/\(0:Int)<3 by decide) (aU (by show(a !=0)=true;simpa using ha) rfl))
theorem TA{a b:aa}(h1:a.Kind=b.Kind)(h2:a.N=b.N)(h3:a.S.b=b.S.b)(h4:a.L=b.L):a=b:=by
 obtain⟨K,N,⟨S⟩,L⟩:=a
 obtain⟨K',N',⟨S'⟩,L'⟩:=b
 simp only at h1 h2 h3 h4
 rw[h1,h2,h3,h4]
theorem Po{a b:List aa}(hl:a.length=b.length)(h:∀k,k<a.length->ix a (k:Int)=ix b (k:Int)):a=b:=by
 refine List.ext_getElem hl fun k h1 h2=>?_
 have:=h k h1
 rwa[cQ h1,cQ h2]at this
theorem FJ:∀(n:Nat)(a b:aa)(fuel:Nat),W n a->2*n<=fuel->n<=1000->∃c,cq fuel a b=some c/\(c=0↔a=b)
 |0,_,_,_,h,_,_=>h.elim
 |n+1,a,b,0,_,h,_=>by omega
 |n+1,a,b,1,_,h,_=>by omega
 |n+1,a,b,fuel+2,h,hf,hn=>by
  have hl:=h.1
  obtain⟨c1,e1,k1⟩:=SC a.Kind b.Kind
  obtain⟨c2,e2,k2⟩:=SC a.N b.N
  have k3:=SD a.S.b b.S.b
  obtain⟨r,e4,k4⟩:=ah1 c1 c2 (Lib.compareBytes a.S.b b.S.b)
  have e3:fR a.S b.S=some (Lib.compareBytes a.S.b b.S.b):=rfl
  rw[cq,e1,a8,e2,a8,e3,a8,e4,a8]
  by_cases hr:r=0
  ·obtain⟨z1,z2,z3⟩:=k4.1 hr
   have q1:=k1.1 z1
   have q2:=k2.1 z2
   have q3:=k3.1 z3
   have fin:∀x:Option Int,(∃c,x=some c/\(c=0↔a.L=b.L))->∃c,(if(r !=0)=true then some r else aW x fun r5=>some r5)=some c/\(c=0↔a=b):=by
    rintro x ⟨c,rfl,hc⟩
    refine⟨c,aF (by simp[hr]) rfl,hc.trans ⟨fun e=>TA q1 q2 q3 e,fun e=>by rw[e]⟩⟩
   refine fin _ ?_
   rw[au]
   have ih:∀k,k<a.L.length->∃c,cq fuel (ix a.L (k:Int)) (ix b.L (k:Int))=some c/\(c=0↔ix a.L (k:Int)=ix b.L (k:Int)):=fun k hk=>FJ n _ _ fuel (kid h hk) (by omega) (by omega)
   obtain⟨f,hfk⟩:∃f:Nat->Int,∀k,k<a.L.length->cq fuel (ix a.L (k:Int)) (ix b.L (k:Int))=some (f k)/\(f k=0↔ix a.L (k:Int)=ix b.L (k:Int)):=abM 0 ih
   rcases FP (fun k=>decide (k<b.L.length)&&(f k==0)) a.L.length with g|⟨j,g1,g2,g3⟩
   ·have gk:∀k,k<a.L.length->k<b.L.length/\f k=0:=fun k hk=>by have:=g k hk;simpa using this
    have hle:a.L.length<=b.L.length:=by
     rcases Nat.lt_or_ge b.L.length a.L.length with hh|hh
     ·have:=(gk b.L.length hh).1;omega
     ·exact hh
    refine⟨if(a.L.length:Int)<(b.L.length:Int)then -1 else 0,fN (z:=.inl ()) (fm (z:=.inl ()) (eP a.L.length (by omega) (fun k hk=>?_) (aF (by simp) rfl)) rfl) ?_,?_⟩
    ·obtain⟨g4,g5⟩:=gk k hk
     have e:=(hfk k hk).1
     rw[g5]at e
     exact aU (decide_eq_true (by omega)) (az ⟨by omega,by omega⟩ (aF (by simp;omega) (az ⟨by omega,by omega⟩ (aB e (aF (by decide) rfl)))))
    ·by_cases hh:(a.L.length:Int)<(b.L.length:Int)
     ·rw[if_pos hh];exact aU (by simpa using hh) rfl
     ·rw[if_neg hh];exact aF (by simpa using hh) rfl
    ·by_cases hh:(a.L.length:Int)<(b.L.length:Int)
     ·rw[if_pos hh]
      exact⟨fun e=>(by cases e),fun e=>by rw[e]at hh;omega⟩
     ·rw[if_neg hh]
      exact⟨fun _=>Po (by omega) fun k hk=>(hfk k hk).2.1 (gk k hk).2,fun _=>rfl⟩
   ·have gk:∀k,k<j->k<b.L.length/\f k=0:=fun k hk=>by have:=g3 k hk;simpa using this
    have lp:∀k,k<j->(if decide ((k:Int)<(a.L.length:Int))=true then
     aG (0<=(k:Int)/\(k:Int)<a.L.length)<|
     if decide ((k:Int)>=(b.L.length:Int))then
      some (.inr (.inr (1:Int)))
     else
      aG (0<=(k:Int)/\(k:Int)<b.L.length)<|
      aW (cq fuel (ix a.L (k:Int)) (ix b.L (k:Int))) fun r8=>
      if r8 !=0 then
       some (.inr (.inr r8))
      else
       some (.inl (bj ((k:Int)+1)))
     else
      some (.inr (.inl ())))=(some (.inl (bj ((k:Int)+1))):Option (Int⊕(Unit⊕Int))):=fun k hk=>by
     obtain⟨g4,g5⟩:=gk k hk
     have e:=(hfk k (by omega)).1
     rw[g5]at e
     exact aU (decide_eq_true (by omega)) (az ⟨by omega,by omega⟩ (aF (by simp;omega) (az ⟨by omega,by omega⟩ (aB e (aF (by decide) rfl)))))
    by_cases hj:j<b.L.length
    ·have gne:¬f j=0:=by
      intro e
      rw[e,decide_eq_true hj]at g2
      cases g2
     refine⟨f j,fN (z:=.inr (f j)) (fm (z:=.inr (f j)) (eP j (by omega) lp ?_) rfl) rfl,fun e=>absurd e gne,fun e=>absurd ((hfk j g1).2.2 (by rw[e])) gne⟩
     exact aU (decide_eq_true (by omega)) (az ⟨by omega,by omega⟩ (aF (by simp;omega) (az ⟨by omega,by omega⟩ (aB (hfk j g1).1 (aU (by simpa using gne) rfl)))))
    ·refine⟨1,fN (z:=.inr 1) (fm (z:=.inr 1) (eP j (by omega) lp ?_) rfl) rfl,fun e=>(by cases e),fun e=>by rw[e]at g1;omega⟩
     exact aU (decide_eq_true (by omega)) (az ⟨by omega,by omega⟩ (aU (by simp;omega) rfl))
  ·refine⟨r,aU (by simpa using hr) rfl,⟨fun e=>absurd e hr,fun e=>?_⟩⟩
   subst e
   exact absurd (k4.2 ⟨k1.2 rfl,k2.2 rfl,k3.2 rfl⟩) hr
theorem Pe(a:List UInt8):Op.bytesLess a a=false:=by
 have:=Pf a a
 cases h:Op.bytesLess a a with
 |false=>rfl
 |true=>rw[h]at this;simp at this
theorem Dw:∀(n:Nat)(a b:aa)(fuel:Nat),W n a->n<=fuel->n<=1000->∃c,cm fuel a b=some c/\(c=0↔a=b)
 |0,_,_,_,h,_,_=>h.elim
 |n+1,a,b,0,_,h,_=>by omega
 |n+1,a,b,fuel+1,h,hf,hn=>by
  have hl:=h.1
  rw[cm]
  by_cases h1:((decide (a.Kind<b.Kind))||((a.Kind==b.Kind)&&((decide (a.N<b.N))||((a.N==b.N)&&(Op.bytesLess a.S.b b.S.b)))))=true
  ·refine⟨-1,aU h1 rfl,fun e=>(by cases e),fun e=>?_⟩
   subst e
   simp[Pe]at h1
  ·rw[if_neg h1]
   by_cases h2:(((a.Kind !=b.Kind)||(a.N !=b.N))||(!(a.S.b==b.S.b)))=true
   ·refine⟨1,aU h2 rfl,fun e=>(by cases e),fun e=>?_⟩
    subst e
    simp at h2
   ·rw[if_neg h2]
    have h3:a.Kind=b.Kind/\a.N=b.N/\a.S.b=b.S.b:=by
     simp at h2
     exact⟨h2.1.1,h2.1.2,h2.2⟩
    obtain⟨q1,q2,q3⟩:=h3
    have ih:∀k,k<a.L.length->∃c,cm fuel (ix a.L (k:Int)) (ix b.L (k:Int))=some c/\(c=0↔ix a.L (k:Int)=ix b.L (k:Int)):=fun k hk=>Dw n _ _ fuel (kid h hk) (by omega) (by omega)
    obtain⟨f,hfk⟩:∃f:Nat->Int,∀k,k<a.L.length->cm fuel (ix a.L (k:Int)) (ix b.L (k:Int))=some (f k)/\(f k=0↔ix a.L (k:Int)=ix b.L (k:Int)):=abM 0 ih
    have lp:∀k,k<a.L.length->k<b.L.length->f k=0->(if((decide ((k:Int)<(a.L.length:Int)))&&(decide ((k:Int)<(b.L.length:Int))))=true then
     aG (0<=(k:Int)/\(k:Int)<a.L.length)<|
     aG (0<=(k:Int)/\(k:Int)<b.L.length)<|
     aW (cm fuel (ix a.L (k:Int)) (ix b.L (k:Int))) fun r8=>
     if r8 !=0 then
      some (.inr (.inr r8))
     else
      some (.inl (bj ((k:Int)+1)))
     else
      some (.inr (.inl ())))=(some (.inl (bj ((k:Int)+1))):Option (Int⊕(Unit⊕Int))):=fun k hk hk2 e0=>by
     have e:=(hfk k hk).1
     rw[e0]at e
     exact aU (by simp;omega) (az ⟨by omega,by omega⟩ (az ⟨by omega,by omega⟩ (aB e (aF (by decide) rfl))))
    rcases FP (fun k=>f k==0) (min a.L.length b.L.length)with g|⟨j,g1,g2,g3⟩
    ·have gk:∀k,k<min a.L.length b.L.length->f k=0:=fun k hk=>by have:=g k hk;simpa using this
     have fin:∀c,(if decide ((a.L.length:Int)<(b.L.length:Int))=true then some (-1)else if decide ((a.L.length:Int)>(b.L.length:Int))=true then some 1 else some 0)=some c->∃c,yp (jG (iter (fun(k4:Int)=>
      if(decide (k4<(a.L.length:Int)))&&(decide (k4<(b.L.length:Int)))then
       aG (0<=k4/\k4<a.L.length)<|
       aG (0<=k4/\k4<b.L.length)<|
       aW (cm fuel (ix a.L k4) (ix b.L k4)) fun r8=>
       if r8 !=0 then
        some (.inr (.inr r8))
       else
        some (.inl (bj (k4+1)))
      else
       some (.inr (.inl ()))) 0) (fun(_:Unit)=>some (.inl ())) (fun(t7:Int)=>some (.inr t7))) (fun(_:Unit)=>
      if decide ((a.L.length:Int)<(b.L.length:Int))then some (-1)else if decide ((a.L.length:Int)>(b.L.length:Int))then some 1 else some 0) (fun(t3:Int)=>some t3)=some c/\(c=0↔a=b):=fun c hc=>by
      refine⟨c,fN (z:=.inl ()) (fm (z:=.inl ()) (eP (min a.L.length b.L.length) (by omega) (fun k hk=>lp k (by omega) (by omega) (gk k hk)) (aF (by simp;omega) rfl)) rfl) hc,?_⟩
      by_cases e1:(a.L.length:Int)<(b.L.length:Int)
      ·rw[if_pos (by simpa using e1)]at hc
       injection hc with hc
       exact⟨fun e=>by omega,fun e=>by rw[e]at e1;omega⟩
      ·rw[if_neg (by simpa using e1)]at hc
       by_cases e2:(a.L.length:Int)>(b.L.length:Int)
       ·rw[if_pos (by simpa using e2)]at hc
        injection hc with hc
        exact⟨fun e=>by omega,fun e=>by rw[e]at e2;omega⟩
       ·rw[if_neg (by simpa using e2)]at hc
        injection hc with hc
        exact⟨fun _=>TA q1 q2 q3 (Po (by omega) fun k hk=>(hfk k hk).2.1 (gk k (by omega))),fun _=>hc.symm⟩
     by_cases e1:(a.L.length:Int)<(b.L.length:Int)
     ·exact fin (-1) (aU (by simpa using e1) rfl)
     ·by_cases e2:(a.L.length:Int)>(b.L.length:Int)
      ·exact fin 1 (aF (by simpa using e1) (aU (by simpa using e2) rfl))
      ·exact fin 0 (aF (by simpa using e1) (aF (by simpa using e2) rfl))
    ·have gne:¬f j=0:=by simpa using g2
     refine⟨f j,fN (z:=.inr (f j)) (fm (z:=.inr (f j)) (eP j (by omega) (fun k hk=>lp k (by omega) (by omega) (by have:=g3 k hk;simpa using this)) ?_) rfl) rfl,fun e=>absurd e gne,fun e=>absurd ((hfk j (by omega)).2.2 (by rw[e])) gne⟩
     exact aU (by simp;omega) (az ⟨by omega,by omega⟩ (az ⟨by omega,by omega⟩ (aB (hfk j (by omega)).1 (aU (by simpa using gne) rfl))))
theorem aav(a b:aa)(h:W 302 a):∃x,il a b=some x/\ij a b=some x/\(x=true↔a=b):=by
 obtain⟨c1,e1,k1⟩:=FJ 302 a b lf h (by decide) (by decide)
 obtain⟨c2,e2,k2⟩:=Dw 302 a b lf h (by decide) (by decide)
 refine⟨c1==0,aB e1 rfl,aB e2 ?_,?_⟩
 ·have:(c2==0)=(c1==0):=by
   rw[Bool.eq_iff_iff]
   simp only[beq_iff_eq]
   rw[k1,k2]
  rw[this]
 ·simp only[beq_iff_eq];exact k1
end Go.AB
end
section
set_option linter.unusedSimpArgs false
set_option maxRecDepth 20000
namespace Go.AB
open Go
def dH(g:Int->aa):Nat->aa->aa
 |0,v=>v
 |n+1,v=>if(v.Kind==8)=true then g v.N else if((v.Kind==6)||(v.Kind==7))=true then⟨v.Kind,v.N,v.S,v.L.map (dH g n)⟩else v
theorem ME(g:Int->aa):∀(n m:Nat)(v:aa),n<=m->W n v->dH g m v=dH g n v
 |0,_,_,_,h=>h.elim
 |n+1,0,_,hm,_=>by omega
 |n+1,m+1,v,hm,h=>by rw[dH,dH,List.map_congr_left fun x hx=>ME g n m x (by omega) (h.2 x hx)]
theorem zo(g:Int->aa)(hg:∀n,(g n).L=[]):∀(n:Nat)(v:aa),W n v->W n (dH g n v)
 |0,_,h=>h.elim
 |n+1,v,h=>by
  rw[dH]
  split
  ·exact⟨by rw[hg];exact Nat.zero_le _,fun x hx=>by rw[hg]at hx;cases hx⟩
  ·split
   ·refine⟨by show(v.L.map _).length<=n;rw[List.length_map];exact h.1,fun x hx=>?_⟩
    obtain⟨y,hy,rfl⟩:=List.mem_map.1 hx
    exact zo g hg n y (h.2 y hy)
   ·exact h
def mw(row:List Int)(n:Int):Int:=match row.findIdx? (fun x=>x==n)with
 |some i=>((i+1:Nat):Int)
 |none=>0
def iJ(row:List Int)(n:Int):Int:=if((decide (n>=1))&&(decide (n<=4096)))=true then mw row n else 0
def nP(k:Int):aa:=if(k==0)=true then zeroV else⟨8,k,⟨[]⟩,[]⟩
theorem aap(k:Int):(nP k).L=[]:=by unfold nP;split<;>rfl
def Ig(row:List Int)(v:aa):aa:=dH (fun n=>nP (iJ row n)) 302 v
theorem T5{α:Type}(l:List α)(p:α->Bool)(j:Nat)(h:j<l.length):(l.drop j).findIdx? p=if p l[j]=true then some 0 else((l.drop (j+1)).findIdx? p).map (·+1):=by rw[List.drop_eq_getElem_cons h,List.findIdx?_cons]
theorem Kt{α O:Type}(l:List α)(p:α->Bool)(hl:l.length<=1000000){body:Int->Option (Int⊕O)}(yes:Nat->O)(no:O)(hb:∀(k:Nat)(h:k<l.length),body (k:Int)=some (if p l[k]=true then .inr (yes k)else .inl (bj ((k:Int)+1))))(he:body (l.length:Int)=some (.inr no)):
 ∀(r j:Nat),j+r=l.length->yF body (r+1) (j:Int) (match(l.drop j).findIdx? p with|some i=>yes (j+i)|none=>no)
 |0,j,h=>by
  have hj:j=l.length:=by omega
  subst hj
  rw[List.drop_length]
  exact .stop he
 |r+1,j,h=>by
  have hj:j<l.length:=by omega
  rw[T5 l p j hj]
  by_cases hp:p l[j]=true
  ·rw[if_pos hp]
   exact .stop (by rw[hb j hj,if_pos hp];rfl)
  ·rw[if_neg hp]
   have ih:=Kt l p hl yes no hb he r (j+1) (by omega)
   have e:(match((l.drop (j+1)).findIdx? p).map (·+1)with|some i=>yes (j+i)|none=>no)=(match(l.drop (j+1)).findIdx? p with|some i=>yes (j+1+i)|none=>no):=by
    cases(l.drop (j+1)).findIdx? p with
    |none=>rfl
    |some i=>show yes (j+(i+1))=yes (j+1+i);congr 1;omega
   rw[e]
   refine .step ?_ ih
   rw[hb j hj,if_neg hp,aI (by omega) (by omega)];rfl
theorem T6{α O:Type}(l:List α)(p:α->Bool)(hl:l.length<=1000000){body:Int->Option (Int⊕O)}(yes:Nat->O)(no:O)(hb:∀(k:Nat)(h:k<l.length),body (k:Int)=some (if p l[k]=true then .inr (yes k)else .inl (bj ((k:Int)+1))))(he:body (l.length:Int)=some (.inr no)):
 iter body 0=some (match l.findIdx? p with|some i=>yes i|none=>no):=by
 have h:=(Kt l p hl yes no hb he l.length 0 (by omega)).iter (by omega)
 rw[List.drop_zero]at h
 refine h.trans ?_
 cases l.findIdx? p with
 |none=>rfl
 |some i=>show some (yes (0+i))=some (yes i);rw[Nat.zero_add]
def Ns(row:List Int):List Int:=(List.range 4096).map fun(i:Nat)=>mw row ((i:Int)+1)
theorem j8(row:List Int):(Ns row).length=4096:=by unfold Ns;rw[List.length_map,List.length_range]
theorem CN(row:List Int){i:Nat}(h:i<4096):(Ns row)[i]'(by rw[j8];exact h)=mw row ((i:Int)+1):=by
 unfold Ns
 rw[List.getElem_map,List.getElem_range]
theorem R9(row:List Int){n:Int}(h1:1<=n)(h2:n<=4096):ix (Ns row) (n -1)=mw row n:=by
 obtain⟨i,rfl⟩:∃i:Nat,n=(i:Int)+1:=⟨(n -1).toNat,by omega⟩
 rw[show(i:Int)+1 -1=(i:Int) by omega,cQ (by rw[j8];omega)]
 exact CN row (by omega)
theorem C8(row:List Int)(a n:Int):mw (row++[a]) n=if mw row n=0 then(if a=n then((row.length+1:Nat):Int)else 0)else mw row n:=by
 unfold mw
 rw[List.findIdx?_append]
 cases hf:row.findIdx? (fun x=>x==n)with
 |some i=>
  have:¬((i+1:Nat):Int)=0:=by omega
  simp only[Option.some_or,if_neg this]
 |none=>
  simp only[Option.none_or,if_true]
  by_cases h:a=n
  ·subst h;simp[List.findIdx?_cons]
  ·have:(a==n)=false:=by simpa using h
   simp[List.findIdx?_cons,this,h]
theorem aez(row:List Int)(hl:row.length<=1000000):toM row=some (Ns row):=by
 unfold toM
 have h0:Ns (row.take 0)=List.replicate 4096 0:=by
  refine List.ext_getElem (by rw[j8,List.length_replicate]) fun i h1 h2=>?_
  rw[CN _ (by rw[j8]at h1;exact h1),List.getElem_replicate];rfl
 refine jd row.length (fun k=>Ns (row.take k)) h0 (by omega) (fun k hk=>?_) ?_
 ·have hx:ix row (k:Int)=row[k]:=cQ hk
  have hs:row.take (k+1)=row.take k++[row[k]]:=List.take_succ_eq_append_getElem hk
  have hlen:(row.take k).length=k:=by rw[List.length_take];omega
  show toB row (Ns (row.take k),(k:Int))=some (.inl (Ns (row.take (k+1)),bj ((k:Int)+1)))
  unfold toB
  rw[show(decide (((Ns (row.take k),(k:Int)):List Int×Int).2<(row.length:Int)))=true by simp;omega,cond_true]
  refine az (by show 0<=(k:Int)/\(k:Int)<2^61;omega) ?_
  show some (Sum.inl ((bif decide (ix row (k:Int)>=1)&&decide (ix row (k:Int)<=4096)&&(ix (Ns (row.take k)) (ix row (k:Int) -1)==0)then(Ns (row.take k)).set (ix row (k:Int) -1).toNat ((k:Int)+1)else Ns (row.take k)),(k:Int)+1))=_
  rw[aI (by omega) (by omega),hx]
  congr 3
  cases hc:decide (row[k]>=1)&&decide (row[k]<=4096)&&(ix (Ns (row.take k)) (row[k] -1)==0)with
  |true=>
   simp only[Bool.and_eq_true,decide_eq_true_eq,beq_iff_eq]at hc
   obtain⟨⟨c1,c2⟩,c3⟩:=hc
   rw[R9 _ c1 c2]at c3
   rw[cond_true]
   refine List.ext_getElem (by rw[List.length_set,j8,j8]) fun i h1 h2=>?_
   have hi:i<4096:=by rw[j8]at h2;exact h2
   rw[List.getElem_set,CN _ hi,CN _ hi,hs,C8,hlen]
   by_cases e:(row[k] -1).toNat=i
   ·rw[if_pos e]
    have e2:row[k]=(i:Int)+1:=by omega
    rw[<-e2,if_pos c3,if_pos rfl];omega
   ·rw[if_neg e]
    have e2:¬row[k]=(i:Int)+1:=by omega
    rw[if_neg e2]
    split
    ·assumption
    ·rfl
  |false=>
   rw[cond_false]
   refine List.ext_getElem (by rw[j8,j8]) fun i h1 h2=>?_
   have hi:i<4096:=by rw[j8]at h2;exact h2
   rw[CN _ hi,CN _ hi,hs,C8,hlen]
   by_cases e:row[k]=(i:Int)+1
   ·have hz:¬mw (row.take k) ((i:Int)+1)=0:=fun hz=>by
     rw[e,R9 _ (by omega) (by omega),hz]at hc
     simp at hc
     omega
    rw[if_neg hz]
   ·rw[if_neg e]
    split
    ·assumption
    ·rfl
 ·show toB row (Ns (row.take row.length),(row.length:Int))=_
  unfold toB
  rw[show(decide (((Ns (row.take row.length),(row.length:Int)):List Int×Int).2<(row.length:Int)))=false by simp,cond_false,List.take_length]
theorem CP(row:List Int):∀(n:Nat)(v:aa)(fuel:Nat),W n v->n<=fuel->n<=1000->gQ fuel v (Ns row)=some (dH (fun n=>nP (iJ row n)) n v)
 |0,_,_,h,_,_=>h.elim
 |n+1,_,0,_,h,_=>by omega
 |n+1,v,fuel+1,h,hf,hn=>by
  have hL:=h.1
  rw[gQ,dH]
  cases h8:(v.Kind==8)with
  |true=>
   rw[cond_true,if_pos rfl]
   unfold nP iJ
   cases hc:decide (v.N<1)||decide (v.N>((Ns row).length:Int))with
   |true=>
    rw[cond_true]
    rw[j8]at hc
    have:((decide (v.N>=1))&&(decide (v.N<=4096)))=false:=by
     simp only[Bool.or_eq_true,decide_eq_true_eq]at hc
     rw[Bool.and_eq_false_iff,decide_eq_false_iff_not,decide_eq_false_iff_not];omega
    rw[this];rfl
   |false=>
    rw[cond_false]
    rw[j8]at hc⊢
    simp only[Bool.or_eq_false_iff,decide_eq_false_iff_not]at hc
    have:((decide (v.N>=1))&&(decide (v.N<=4096)))=true:=by simp;omega
    rw[this,if_pos rfl,R9 row (by omega) (by omega)]
    refine az (by omega) ?_
    cases h0:(mw row v.N==0)with
    |true=>rfl
    |false=>rfl
  |false=>
   rw[cond_false,if_neg (by decide)]
   cases h6:((v.Kind==6)||(v.Kind==7))with
   |false=>rfl
   |true=>
    rw[cond_true,if_pos rfl]
    refine az (by unfold room;omega) (aB (a:=v.L.map (dH (fun n=>nP (iJ row n)) n)) ?_ rfl)
    refine kJ v.L.length (fun k=>((v.L.take k).map (dH (fun n=>nP (iJ row n)) n)++List.replicate (v.L.length -k) zV,(k:Int))) (by simp) (by omega) (fun k hk=>?_) ?_
    ·have hx:ix v.L (k:Int)=v.L[k]:=cQ hk
     have hlt:(v.L.take k).length=k:=by rw[List.length_take];omega
     have hlen:((v.L.take k).map (dH (fun n=>nP (iJ row n)) n)++List.replicate (v.L.length -k) zV).length=v.L.length:=by rw[List.length_append,List.length_map,hlt,List.length_replicate];omega
     unfold Qk
     rw[show decide ((((v.L.take k).map (dH (fun n=>nP (iJ row n)) n)++List.replicate (v.L.length -k) zV,(k:Int)):List aa×Int).2<(v.L.length:Int))=true by simp;omega,cond_true]
     dsimp only
     refine az (by rw[hlen];omega) (aB (by rw[hx];exact CP row n v.L[k] fuel (h.2 _ (List.getElem_mem hk)) (by omega) (by omega)) ?_)
     congr 3
     rw[List.take_succ_eq_append_getElem hk,List.map_append]
     rw[List.set_append_right _ _ (by rw[List.length_map,hlt];simp)]
     rw[List.length_map,hlt,show((k:Int)).toNat -k=0 by simp,show v.L.length -k=(v.L.length -(k+1))+1 by omega,List.replicate_succ]
     simp
    ·unfold Qk
     rw[show decide ((((v.L.take v.L.length).map (dH (fun n=>nP (iJ row n)) n)++List.replicate (v.L.length -v.L.length) zV,(v.L.length:Int)):List aa×Int).2<(v.L.length:Int))=false by simp,cond_false]
     simp
end Go.AB
end
section
set_option linter.unusedSimpArgs false
set_option maxRecDepth 20000
namespace Go.AB
open Go
noncomputable def wY{α:Type}(a b:α):Bool:=@decide (a=b) (Classical.propDecidable _)
theorem lB{α:Type}{a b:α}:wY a b=true↔a=b:=by unfold wY;simp
theorem Ou{α:Type}(a:α):wY a a=true:=lB.2 rfl
theorem acO{α:Type}{a b:α}{x:Bool}(h:x=true↔a=b):x=wY a b:=by rw[Bool.eq_iff_iff,lB];exact h
theorem acf(a b:aa)(h:W 302 a):il a b=some (wY a b)/\ij a b=some (wY a b):=by
 obtain⟨x,e1,e2,e3⟩:=aav a b h
 rw[<-acO e3];exact⟨e1,e2⟩
theorem adM(a b:ag):a=b↔a.V=b.V/\a.Stream=b.Stream/\a.Data.b=b.Data.b:=by
 obtain⟨v,s,⟨d⟩⟩:=a
 obtain⟨v',s',⟨d'⟩⟩:=b
 constructor
 ·intro h;cases h;exact⟨rfl,rfl,rfl⟩
 ·rintro⟨rfl,rfl,h⟩;cases h;rfl
theorem abJ(a b:ag)(h:W 302 a.V):ke a b=some (wY a b)/\kD a b=some (wY a b):=by
 obtain⟨e1,e2⟩:=acf a.V b.V h
 have key:(wY a.V b.V&&(a.Stream==b.Stream)&&(a.Data.b==b.Data.b))=wY a b:=by rw[Bool.eq_iff_iff,lB,adM,Bool.and_eq_true,Bool.and_eq_true,lB,beq_iff_eq,beq_iff_eq,and_assoc]
 rw[<-key]
 unfold ke kD
 rw[e1,e2]
 generalize wY a.V b.V=x
 cases x<;>cases(a.Stream==b.Stream)<;>cases(a.Data.b==b.Data.b)<;>exact⟨rfl,rfl⟩
theorem aeI{α:Type}{a b:List α}(hl:a.length=b.length):a=b↔(a.zip b).findIdx? (fun p=>!wY p.1 p.2)=none:=by
 rw[List.findIdx?_eq_none_iff]
 constructor
 ·rintro rfl p hp
  obtain⟨i,hi,rfl⟩:=List.getElem_of_mem hp
  rw[List.getElem_zip,Ou];rfl
 ·intro h
  refine List.ext_getElem hl fun i h1 h2=>?_
  have:=h (a[i],b[i]) (List.getElem_mem (l:=a.zip b) (n:=i) (by rw[List.length_zip];omega)|>fun m=>by rwa[List.getElem_zip]at m)
  exact lB.1 (by simpa using this)
theorem ahP(a b:List ag)(h:∀o∈a,W 302 o.V)(hl:a.length<=1000000):ar a b=some (wY a b)/\kE a b=some (wY a b):=by
 unfold ar kE
 by_cases hn:a.length=b.length
 ·have hz:(a.zip b).length=a.length:=by rw[List.length_zip];omega
  have hc:¬(((a.length:Int)!=(b.length:Int))=true):=by rw[hn];simp
  rw[if_neg hc,if_neg hc]
  have run:∀{body:Int->Option (Int⊕(Unit⊕Bool))},(∀(k:Nat)(hk:k<a.length),body (k:Int)=some (if(!wY a[k] (b[k]'(by omega)))=true then .inr (.inr false)else .inl (bj ((k:Int)+1))))->body (a.length:Int)=some (.inr (.inl ()))->
   iter body 0=some (if wY a b=true then .inl ()else .inr false):=fun{body} hb he=>by
   have r:=T6 (O:=Unit⊕Bool) (a.zip b) (fun p=>!wY p.1 p.2) (by omega) (body:=body) (fun _=>.inr false) (.inl ()) (fun k hk=>by
    rw[hb k (by omega)]
    simp only[List.getElem_zip]) (by rw[hz];exact he)
   rw[r]
   have e:=aeI hn
   cases hf:(a.zip b).findIdx? (fun p=>!wY p.1 p.2)with
   |none=>rw[if_pos (lB.2 (e.2 hf))]
   |some i=>rw[if_neg fun hh=>by rw[e.1 (lB.1 hh)]at hf;cases hf]
  have fin:∀{it:Option (Unit⊕Bool)},it=some (if wY a b=true then .inl ()else .inr false)->yp (jG it (fun(_:Unit)=>some (.inl ())) (fun(t3:Bool)=>some (.inr t3))) (fun(_:Unit)=>some true) (fun(t1:Bool)=>some t1)=some (wY a b):=fun{it} hh=>by
   rw[hh]
   cases wY a b<;>rfl
  have jb:∀{k:Nat}(hk:k<a.length){o:Option Bool},o=some (wY a[k] (b[k]'(by omega)))->(aW o fun r4=>if(!r4)=true then some (.inr (.inr false))else some (.inl (bj ((k:Int)+1))))=(some (if(!wY a[k] (b[k]'(by omega)))=true then .inr (.inr false)else .inl (bj ((k:Int)+1))):Option (Int⊕(Unit⊕Bool))):=fun{k} hk{o} ho=>by
   rw[ho,a8]
   cases wY a[k] (b[k]'(by omega))<;>rfl
  refine⟨fin (run (fun k hk=>?_) (aF (by simp) rfl)),fin (run (fun k hk=>?_) (aF (by simp) rfl))⟩
  ·refine aU (by simp;omega) (az (by omega) (az (by omega) (jb hk ?_)))
   rw[cQ hk,cQ (l:=b) (by omega)]
   exact(abJ _ _ (h _ (List.getElem_mem hk))).1
  ·refine aU (by simp;omega) (az (by omega) (az (by omega) (jb hk ?_)))
   rw[cQ hk,cQ (l:=b) (by omega)]
   exact(abJ _ _ (h _ (List.getElem_mem hk))).2
 ·have e:wY a b=false:=by
   rw[<-Bool.not_eq_true,lB]
   intro h;exact hn (by rw[h])
  rw[e]
  have hc:((a.length:Int)!=(b.length:Int))=true:=by simp;omega
  exact⟨aU hc rfl,aU hc rfl⟩
def WP(a:dP):Prop:=(∀o∈a.ae,W 302 o.V)/\W 302 a.an/\a.ae.length<=1000000
theorem ah5(a b:dP)(h:WP a):oZ a b=some (wY a b)/\mK a b=some (wY a b):=by
 obtain⟨e1,e2⟩:=ahP a.ae b.ae h.1 h.2.2
 obtain⟨e3,e4⟩:=acf a.an b.an h.2.1
 have key:(wY a.ae b.ae&&wY a.an b.an)=wY a b:=by
  rw[Bool.eq_iff_iff,Bool.and_eq_true,lB,lB,lB]
  obtain⟨l,g⟩:=a
  obtain⟨l',g'⟩:=b
  constructor
  ·rintro⟨h1,h2⟩;cases h1;cases h2;rfl
  ·intro h;cases h;exact⟨rfl,rfl⟩
 rw[<-key]
 refine⟨aB e1 ?_,aB e2 ?_⟩
 ·rw[e3];generalize wY a.ae b.ae=x;generalize wY a.an b.an=y;cases x<;>rfl
 ·rw[e4];generalize wY a.ae b.ae=x;generalize wY a.an b.an=y;cases x<;>rfl
def lJ:aw:=⟨[80,97,114,101,110,116]⟩
def iZ(v:aa):aa:=(bS v lJ).getD zeroV
theorem Ah{v:aa}(h:im v):bS v lJ=some (iZ v)/\zA v lJ=some (iZ v)/\im (iZ v):=by
 obtain⟨v',d1,d2,d3⟩:=drop_eq h lJ
 have e:iZ v=v':=by unfold iZ;rw[d1];rfl
 rw[e];exact⟨d1,d2,d3⟩
def aej(row:List Int)(k:Nat)(o:ag):ag:=⟨Ig row (if k=0 then iZ o.V else o.V),o.Stream,o.Data⟩
def Bh(row:List Int)(l:List ag)(n:Nat):List ag:=(List.range n).map fun k=>aej row k (ix l (k:Int))
theorem UI(row:List Int)(l:List ag)(n:Nat):Bh row l (n+1)=Bh row l n++[aej row n (ix l (n:Int))]:=by unfold Bh;rw[List.range_succ,List.map_append];rfl
theorem P1(row:List Int)(l:List ag)(n:Nat):(Bh row l n).length=n:=by unfold Bh;simp
def Du(row:List Int)(l:List ag)(g:aa):dP:=⟨Bh row l l.length,Ig row g⟩
theorem Tx(row:List Int){v:aa}(h:W 302 v):W 302 (Ig row v):=zo _ (fun n=>aap _) 302 v h
theorem Z6(row:List Int){l:List ag}{g:aa}(ho:∀o∈l,im o.V)(hl:l.length<=100000)(hg:im g):WP (Du row l g):=by
 refine⟨fun o h=>?_,Tx row hg.1,by show(Bh row l l.length).length<=_;rw[P1];omega⟩
 obtain⟨k,hk,rfl⟩:=List.mem_map.1 h
 have hk:=List.mem_range.1 hk
 have hx:ix l (k:Int)=l[k]:=cQ hk
 refine Tx row ?_
 rw[hx]
 split
 ·exact(Ah (ho _ (List.getElem_mem hk))).2.2.1
 ·exact(ho _ (List.getElem_mem hk)).1
theorem RZ(row:List Int){l:List ag}{g:aa}(hr:row.length<=1000000)(ho:∀o∈l,im o.V)(hl:l.length<=100000)(hg:im g):iI row l g=some (Du row l g):=by
 have big:302<=lf:=by decide
 refine aB (aez row hr) (aB (CP row 302 g lf hg.1 big (by decide)) (aB (a:=Bh row l l.length) ?_ rfl))
 refine kJ l.length (fun k=>(Bh row l k,(k:Int))) rfl (by omega) (fun k hk=>?_) ?_
 ·have hx:ix l (k:Int)=l[k]:=cQ hk
  have hf:=ho _ (List.getElem_mem hk)
  have hlen:=P1 row l k
  unfold aas
  rw[show decide (((Bh row l k,(k:Int)):List ag×Int).2<(l.length:Int))=true by simp;omega,cond_true]
  dsimp only
  refine az (by rw[hlen];unfold room;omega) ?_
  rw[UI,hx]
  refine aB (a:=if k=0 then iZ l[k].V else l[k].V) ?_ (aB (a:=Ig row (if k=0 then iZ l[k].V else l[k].V)) (CP row 302 _ lf ?_ big (by decide)) rfl)
  ·by_cases h0:k=0
   ·subst h0;exact(Ah hf).1
   ·rw[if_neg h0,show(((k:Nat):Int)==0)=false by simp;omega];rfl
  ·split
   ·exact(Ah hf).2.2.1
   ·exact hf.1
 ·unfold aas
  rw[show decide (((Bh row l l.length,(l.length:Int)):List ag×Int).2<(l.length:Int))=false by simp,cond_false]
end Go.AB
end
section
set_option linter.unusedSimpArgs false
set_option maxRecDepth 20000
namespace Go.AB
open Go
theorem o4:jQ zeroV:=⟨⟨Nat.zero_le _,fun x hx=>by cases hx⟩,by decide⟩
theorem XJ(v:aa)(key:aw):(cP v key).1=zeroV\/(cP v key).1∈v.L:=by
 unfold cP
 cases hg:bk v key with
 |none=>exact .inl rfl
 |some r=>
  show r.1=zeroV\/r.1∈v.L
  unfold bk at hg
  cases hf:bX v key with
  |none=>rw[hf]at hg;cases hg
  |some i=>
   rw[hf,a8]at hg
   split at hg
   ·injection hg with hg;subst hg;exact .inl rfl
   ·split at hg
    ·injection hg with hg;subst hg;exact .inl rfl
    ·unfold aG at hg
     split at hg
     ·rename_i hb
      injection hg with hg;subst hg
      refine .inr ?_
      show ix v.L _∈v.L
      rw[kK (by omega)]
      exact List.getElem_mem (l:=v.L) (n:=(bj ((i:Int)+1)).toNat) (by omega)
     ·cases hg
theorem WM{x:aa}{g:aa->Nat}:∀{l:List aa},x∈l->g x<=(l.map g).sum
 |a::l,h=>by
  rcases List.mem_cons.1 h with e|e
  ·subst e;simp
  ·have:=WM (g:=g) e
   simp;omega
theorem VO{v x:aa}(h:jQ v)(hx:x∈v.L):jQ x:=by
 have h1:W 299 x:=h.1.2 x hx
 refine⟨uC 299 300 _ (by decide) h1,?_⟩
 rw[Oc 299 300 x (by decide) h1]
 have h2:=WM (g:=mc 299) hx
 have h3:=h.2
 have e:mc 300 v=1+(v.L.map (mc 299)).sum:=rfl
 omega
theorem La{v:aa}(h:jQ v)(key:aw):jQ (cP v key).1:=by
 rcases XJ v key with e|e
 ·rw[e];exact o4
 ·exact VO h e
theorem GS{d:aH}(hd:k7 d)(key:aw):∀(way:List Int)(l:aa),jQ l->jQ (abz d key l way)
 |[],_,h=>h
 |a::way,l,h=>by
  refine GS hd key way _ ?_
  show jQ (if(cP (ay d a).V key).2 then(cP (ay d a).V key).1 else l)
  split
  ·exact La (hd.V2 a) key
  ·exact h
theorem Oo:∀(G:List (aw×aa)),(∀x∈G,jQ x.2)->(∀v∈jS G,W 301 v)/\((jS G).map (mc 301)).sum<=301*G.length
 |[],_=>⟨fun v hv=>(by cases hv),by simp[jS]⟩
 |p::G,h=>by
  obtain⟨i1,i2⟩:=Oo G fun x hx=>h x (List.mem_cons_of_mem _ hx)
  have hp:=h p List.mem_cons_self
  refine⟨fun v hv=>?_,?_⟩
  ·rcases List.mem_cons.1 hv with rfl|hv
   ·exact⟨Nat.zero_le _,fun x hx=>by cases hx⟩
   ·rcases List.mem_cons.1 hv with rfl|hv
    ·exact uC 300 301 _ (by decide) hp.1
    ·exact i1 v hv
  ·have e1:mc 301 ⟨5,0,p.1,[]⟩=1:=rfl
   have e2:=Oc 300 301 p.2 (by decide) hp.1
   have e3:=hp.2
   show mc 301 ⟨5,0,p.1,[]⟩+(mc 301 p.2+((jS G).map (mc 301)).sum)<=301*(G.length+1)
   omega
theorem VD(G:List (aw×aa))(hl:G.length<=4)(h:∀x∈G,jQ x.2):im (iO G):=by
 obtain⟨h1,h2⟩:=Oo G h
 refine⟨⟨by show(jS G).length<=301;rw[np];omega,h1⟩,?_⟩
 show 1+((jS G).map (mc 301)).sum<=1300
 omega
theorem xf(f:DV)(h:k7 f.aQ)(p:Int):im (kQ f p).1.an:=by
 unfold kQ
 split
 ·split
  ·split
   ·rename_i hp
    rcases Hn 64 (oc f) p [] ⟨none,none,none,none⟩ hp.1 hp.2 with⟨_,e⟩|⟨way,m,e1,e2,e3⟩
    ·rw[e];exact o4.wide
    ·rw[e3]
     refine VD _ (Gv.len _) fun x hx=>?_
     obtain⟨_,hl⟩:=Zf hx
     have hx2:=Pa f.aQ x.1 _ none zeroV x.2 (fun y hy=>by cases hy) hl
     rw[<-hx2]
     exact GS h _ _ _ o4
   ·exact o4.wide
  ·exact o4.wide
 ·exact o4.wide
def NM(d:aH)(g:aa)(p:Int):List Int:=dU d g p 4098
theorem ael{d:aH}{g:aa}{p:Int}{n:Nat}(h1:n<=4097)(h2:(dU d g p n).length=n):dU d g p n=NM d g p:=by
 have key:∀j,dU d g p (n+j)=dU d g p n:=by
  intro j
  induction j with
  |zero=>rfl
  |succ j ih=>rw[<-Nat.add_assoc,dU,ih,if_neg (by omega)]
 unfold NM
 rw[show 4098=n+(4098 -n) by omega,key]
def ajh:dP:=⟨[],zeroV⟩
def tZ(d:aH)(p:Int):dP×Int:=if(kQ ⟨0,d⟩ p).2=0 then(Du (NM d (kQ ⟨0,d⟩ p).1.an (kQ ⟨0,d⟩ p).1.eA) (ku d (NM d (kQ ⟨0,d⟩ p).1.an (kQ ⟨0,d⟩ p).1.eA)) (kQ ⟨0,d⟩ p).1.an,0)else(ajh,(kQ ⟨0,d⟩ p).2)
theorem Tp{d:aH}{g:aa}(hd:k7 d)(hg:im g)(p:Int):(NM d g p).length<=4097:=Bi hd hg p _
theorem PJ{d:aH}(hd:k7 d)(l:List Int):∀o∈ku d l,im o.V:=fun o ho=>by
 obtain⟨n,_,rfl⟩:=List.mem_map.1 ho
 exact hd.get n
theorem aaI{d:aH}(hd:k7 d)(p:Int):WP (tZ d p).1:=by
 unfold tZ
 split
 ·have hg:=xf ⟨0,d⟩ hd p
  refine Z6 _ (PJ hd _) ?_ hg
  unfold ku;rw[List.length_map]
  have:=Tp hd hg (kQ ⟨0,d⟩ p).1.eA
  omega
 ·exact⟨fun o h=>(by cases h),⟨Nat.zero_le _,fun x hx=>(by cases hx)⟩,Nat.zero_le _⟩
theorem Qm(B:Nat)(d:aH)(hd:k7 d)(p:Int):oP (FK B d) p=some ((tZ d p).1,0,(tZ d p).2):=by
 have f1:jD (FK B d) p=_:=find_eq ⟨B,d⟩ p hd
 have e0:kQ ⟨B,d⟩ p=kQ ⟨0,d⟩ p:=rfl
 rw[e0]at f1
 have hg:=xf ⟨0,d⟩ hd p
 unfold tZ
 generalize kQ ⟨0,d⟩ p=r at f1 hg⊢
 obtain⟨x,e⟩:=r
 by_cases he:e=0
 ·subst he
  rw[if_pos rfl]
  have hg:im x.an:=hg
  have f1:jD (FK B d) p=some (x,0,0):=f1
  show oP (FK B d) p=some (Du (NM d x.an x.eA) (ku d (NM d x.an x.eA)) x.an,0,0)
  obtain⟨n,n1,n2,n3,c1⟩:=QL ⟨B,d⟩ x hd hg
  have hn:dU d x.an x.eA n=NM d x.an x.eA:=ael n1 n2
  have c1:fx (FK B d) x=some (dU d x.an x.eA n,ku d (dU d x.an x.eA n),0,0):=c1
  rw[hn]at c1
  have hl:=Tp hd hg x.eA
  have g1:=RZ (NM d x.an x.eA) (l:=ku d (NM d x.an x.eA)) (g:=x.an) (by omega) (PJ hd _) (by unfold ku;rw[List.length_map];omega) hg
  have n0:¬((0:Int)!=0)=true:=by decide
  generalize Du (NM d x.an x.eA) (ku d (NM d x.an x.eA)) x.an=pg at g1⊢
  generalize NM d x.an x.eA=R at c1 g1
  generalize ku d R=O at c1 g1
  unfold oP
  rw[f1,a8,if_neg n0,c1,a8,if_neg n0,g1]
  rfl
 ·rw[if_neg he]
  have hb:(e !=0)=true:=by simpa using he
  exact aB f1 (aU hb rfl)
end Go.AB
end
section
set_option linter.unusedSimpArgs false
set_option maxRecDepth 20000
namespace Go.AB
open Go
def lu(n:Nat)(k:Int):Prop:=1<=k/\k<=n
structure Fh(n:Nat)(E:Int->Int):Prop where
 few:n<=40
 YL:∀k,lu n k->lu n (E k)
 inj:∀j k,lu n j->lu n k->E j=E k->j=k
def gS(n:Nat)(E:Int->Int)(N:Int):aa:=if(decide (1<=N)&&decide (N<=n))=true then⟨8,E N,⟨[]⟩,[]⟩else zeroV
theorem agQ(n:Nat)(E:Int->Int)(N:Int):(gS n E N).L=[]:=by unfold gS;split<;>rfl
theorem V0{n:Nat}{E:Int->Int}{N:Int}(h:lu n N):gS n E N=⟨8,E N,⟨[]⟩,[]⟩:=by unfold gS;rw[if_pos (by simp;exact⟨h.1,h.2⟩)]
def In(n:Nat):Nat->aa->Prop
 |0,_=>True
 |m+1,v=>(v.Kind=8->lu n v.N)/\(v.Kind=6\/v.Kind=7->∀x∈v.L,In n m x)
theorem TF{n:Nat}:∀(m j:Nat)(v:aa),m<=j->W m v->(In n j v↔In n m v)
 |0,_,_,_,h=>h.elim
 |m+1,0,_,hm,_=>by omega
 |m+1,j+1,v,hm,h=>by
  unfold In
  constructor
  ·rintro⟨h1,h2⟩;exact⟨h1,fun hk x hx=>(TF m j x (by omega) (h.2 x hx)).1 (h2 hk x hx)⟩
  ·rintro⟨h1,h2⟩;exact⟨h1,fun hk x hx=>(TF m j x (by omega) (h.2 x hx)).2 (h2 hk x hx)⟩
structure Gd(n:Nat)(v:aa):Prop where
 w:W 301 v
 r:In n 302 v
theorem Gd.ref{n:Nat}{v:aa}(h:Gd n v)(hk:v.Kind=8):lu n v.N:=h.r.1 hk
theorem Gd.kid{n:Nat}{v x:aa}(h:Gd n v)(hk:v.Kind=6\/v.Kind=7)(hx:x∈v.L):Gd n x:=by
 have hw:W 300 x:=h.w.2 x hx
 have hi:=h.r.2 hk x hx
 exact⟨uC 300 301 _ (by decide) hw,(TF 300 302 x (by decide) hw).2 ((TF 300 301 x (by decide) hw).1 hi)⟩
theorem Gd.zero(n:Nat):Gd n zeroV:=⟨⟨Nat.zero_le _,fun x hx=>(by cases hx)⟩,(fun h=>by cases h),fun _ x hx=>(by cases hx)⟩
section
variable{n:Nat}{E:Int->Int}
def mV(n:Nat)(E:Int->Int)(v:aa):aa:=dH (gS n E) 302 v
theorem WV{v:aa}(h:W 301 v):mV n E v=if(v.Kind==8)=true then gS n E v.N else if((v.Kind==6)||(v.Kind==7))=true then⟨v.Kind,v.N,v.S,v.L.map (mV n E)⟩else v:=by
 unfold mV
 rw[dH]
 rw[List.map_congr_left fun x hx=>(ME (gS n E) 300 301 x (by decide) (h.2 x hx)).trans (ME (gS n E) 300 302 x (by decide) (h.2 x hx)).symm]
theorem Rv{v:aa}(h:Gd n v)(hk:v.Kind=8):mV n E v=⟨8,E v.N,⟨[]⟩,[]⟩:=by rw[WV h.w,if_pos (by rw[hk];rfl),V0 (h.ref hk)]
theorem pM{v:aa}(h:W 301 v)(hk:v.Kind=6\/v.Kind=7):mV n E v=⟨v.Kind,v.N,v.S,v.L.map (mV n E)⟩:=by
 rw[WV h]
 rcases hk with hk|hk<;>rw[hk]<;>rfl
theorem vV{v:aa}(h:W 301 v)(h8:v.Kind≠8)(h6:v.Kind≠6)(h7:v.Kind≠7):mV n E v=v:=by rw[WV h,if_neg (by simpa using h8),if_neg (by simp;exact⟨h6,h7⟩)]
theorem qo{v:aa}(h:Gd n v):(mV n E v).Kind=v.Kind:=by
 by_cases h8:v.Kind=8
 ·rw[Rv h h8,h8]
 ·by_cases hk:v.Kind=6\/v.Kind=7
  ·rw[pM h.w hk]
  ·rw[vV h.w h8 (fun e=>hk (.inl e)) (fun e=>hk (.inr e))]
theorem S9:mV n E zeroV=zeroV:=by rw[vV (Gd.zero n).w (by decide) (by decide) (by decide)]
theorem S8{v:aa}(h:Gd n v)(hk:v.Kind=5):mV n E v=v:=vV h.w (by omega) (by omega) (by omega)
def C6(L:List aa)(key:aw):Int->Option (Int⊕(Unit⊕Int)):=fun(i2:Int)=>
 if decide (i2<(L.length:Int))then
  aG (0<=i2/\i2<L.length)<|
  aG ((((ix L i2).Kind)==5)=true->0<=i2/\i2<L.length)<|
  if(((ix L i2).Kind)==5)&&(((ix L i2).S).b==key.b)then
   some (.inr (.inr i2))
  else
   some (.inl (bj (i2+2)))
 else
  some (.inr (.inl ()))
theorem Oy(L:List aa)(key:aw){k:Nat}(hk:k<L.length):C6 L key (k:Int)=if((L[k].Kind==5)&&(L[k].S.b==key.b))=true then some (.inr (.inr (k:Int)))else some (.inl (bj ((k:Int)+2))):=by
 have e1:ix L (k:Int)=L[k]:=cQ hk
 unfold C6
 refine aU (by simp;omega) (az (by omega) (az (fun _=>by omega) ?_))
 rw[e1]
theorem Kp(L:List aa)(key:aw){i:Int}(h:¬i<(L.length:Int)):C6 L key i=some (.inr (.inl ())):=aF (by simpa using h) rfl
theorem Oz(L:List aa)(key:aw){i:Int}(h:i<(L.length:Int))(h0:¬0<=i):C6 L key i=none:=aU (by simpa using h) (by unfold aG;exact if_neg fun hh=>h0 hh.1)
theorem VQ{v:aa}(h:Gd n v)(key:aw):bX (mV n E v) key=bX v key:=by
 show(if(mV n E v).Kind !=7 then some (-1)else yp (jG (iter (C6 (mV n E v).L key) 0) (fun(_:Unit)=>some (.inl ())) (fun(t3:Int)=>some (.inr t3))) (fun(_:Unit)=>some (-1)) (fun(t1:Int)=>some t1))=
  (if v.Kind !=7 then some (-1)else yp (jG (iter (C6 v.L key) 0) (fun(_:Unit)=>some (.inl ())) (fun(t3:Int)=>some (.inr t3))) (fun(_:Unit)=>some (-1)) (fun(t1:Int)=>some t1))
 rw[qo h]
 by_cases h7:v.Kind=7
 ·have hl:(mV n E v).L=v.L.map (mV n E):=by rw[pM h.w (.inr h7)]
  have e:C6 (v.L.map (mV n E)) key=C6 v.L key:=by
   funext i
   by_cases hi:i<(v.L.length:Int)
   ·by_cases h0:0<=i
    ·obtain⟨k,rfl⟩:∃k:Nat,i=(k:Int):=⟨i.toNat,by omega⟩
     have hk:k<v.L.length:=by omega
     have hg:=h.kid (.inr h7) (List.getElem_mem hk)
     rw[Oy _ key hk,Oy _ key (by rw[List.length_map];exact hk),List.getElem_map,qo hg]
     by_cases h5:v.L[k].Kind=5
     ·rw[S8 hg h5]
     ·have:(v.L[k].Kind==5)=false:=by simpa using h5
      rw[this,Bool.false_and,Bool.false_and]
    ·rw[Oz _ key hi h0,Oz _ key (by rw[List.length_map];exact hi) h0]
   ·rw[Kp _ key hi,Kp _ key (by rw[List.length_map];exact hi)]
  rw[hl,e]
 ·have e:(v.Kind !=7)=true:=by simpa using h7
  exact(aU e rfl).trans (aU e rfl).symm
theorem get_at{v:aa}{key:aw}{r:Int}(hs:(v.L.length:Int)<=4611686018427387904)(h:bX v key=some r)(h2:-1<=r)(h3:r<v.L.length):
 bk v key=if r<0 then some (zeroV,false)else if r+1=v.L.length then some (zeroV,true)else some (ix v.L (r+1),true):=by
 refine aB h ?_
 by_cases h0:r<0
 ·rw[if_pos h0];exact aU (decide_eq_true h0) rfl
 ·rw[if_neg h0]
  refine aF (by simpa using h0) ?_
  rw[aI (by omega) (by omega)]
  by_cases h4:r+1=(v.L.length:Int)
  ·rw[if_pos h4];exact aU (by simpa using h4) rfl
  ·rw[if_neg h4];exact aF (by simpa using h4) (az (by omega) rfl)
theorem Gd.small{v:aa}(h:Gd n v):Small v:=Small.ZS h.w (by decide)
theorem mH{v:aa}(h:Gd n v)(key:aw):cP (mV n E v) key=(mV n E (cP v key).1,(cP v key).2)/\Gd n (cP v key).1:=by
 obtain⟨r,r1,r2,r3⟩:=ka v key h.small
 have r4:=(VQ (E:=E) h key).trans r1
 have hs:(v.L.length:Int)<=4611686018427387904:=h.small
 have g1:=get_at hs r1 r2 r3
 by_cases h0:r<0
 ·have g2:bk (mV n E v) key=some (zeroV,false):=aB r4 (aU (decide_eq_true h0) rfl)
  rw[if_pos h0]at g1
  unfold cP
  rw[g1,g2]
  exact⟨by show(zeroV,false)=(mV n E zeroV,false);rw[S9],Gd.zero n⟩
 ·have h7:v.Kind=7:=by
   apply Classical.byContradiction
   intro h7
   have:bX v key=some (-1):=aU (by simpa using h7) rfl
   rw[this]at r1
   injection r1 with r1
   omega
  have hl:(mV n E v).L=v.L.map (mV n E):=by rw[pM h.w (.inr h7)]
  have hll:((mV n E v).L.length:Int)=(v.L.length:Int):=by rw[hl,List.length_map]
  have g2:=get_at (v:=mV n E v) (by omega) r4 r2 (by omega)
  rw[if_neg h0]at g1 g2
  unfold cP
  by_cases h4:r+1=(v.L.length:Int)
  ·rw[if_pos h4]at g1
   rw[if_pos (by omega)]at g2
   rw[g1,g2]
   exact⟨by show(zeroV,true)=(mV n E zeroV,true);rw[S9],Gd.zero n⟩
  ·rw[if_neg h4]at g1
   rw[if_neg (by omega)]at g2
   obtain⟨k,hk⟩:∃k:Nat,r+1=(k:Int):=⟨(r+1).toNat,by omega⟩
   have hk2:k<v.L.length:=by omega
   rw[hk,cQ hk2]at g1
   rw[hk,hl,cQ (by rw[List.length_map];exact hk2),List.getElem_map]at g2
   rw[g1,g2]
   exact⟨rfl,h.kid (.inr h7) (List.getElem_mem hk2)⟩
def mO(n:Nat)(E:Int->Int)(o:ag):ag:=⟨mV n E o.V,o.Stream,o.Data⟩
theorem Ty{o:ag}(h:Gd n o.V)(name:aw):lP (mO n E o) name=lP o name:=by
 obtain⟨e,hg⟩:=mH (E:=E) h A3
 unfold lP
 show((!o.Stream&&((cP (mV n E o.V) A3).1.Kind==5))&&((cP (mV n E o.V) A3).1.S.b==name.b))=_
 rw[e]
 show((!o.Stream&&((mV n E (cP o.V A3).1).Kind==5))&&((mV n E (cP o.V A3).1).S.b==name.b))=_
 rw[qo hg]
 by_cases h5:(cP o.V A3).1.Kind=5
 ·rw[S8 hg h5]
 ·have:((cP o.V A3).1.Kind==5)=false:=by simpa using h5
  rw[this,Bool.and_false,Bool.false_and,Bool.false_and]
theorem W1:∀{l:List aa},(∀x∈l,Gd n x)->iX l=true->zt (l.map (mV n E))=(zt l).map E/\∀k∈zt l,lu n k
 |[],_,_=>⟨rfl,fun k hk=>(by cases hk)⟩
 |a::l,h,ha=>by
  unfold iX at ha
  rw[List.all_cons,Bool.and_eq_true,beq_iff_eq]at ha
  obtain⟨i1,i2⟩:=W1 (l:=l) (fun x hx=>h x (List.mem_cons_of_mem _ hx)) ha.2
  have hg:=h a List.mem_cons_self
  refine⟨?_,fun k hk=>?_⟩
  ·show(mV n E a).N::zt (l.map (mV n E))=E a.N::(zt l).map E
   rw[i1,Rv hg ha.1]
  ·rcases List.mem_cons.1 (show k∈a.N::zt l from hk)with e|e
   ·subst e;exact hg.ref ha.1
   ·exact i2 k e
theorem NT:∀{l:List aa},(∀x∈l,Gd n x)->iX (l.map (mV n E))=iX l
 |[],_=>rfl
 |a::l,h=>by
  have ih:=NT (l:=l) fun x hx=>h x (List.mem_cons_of_mem _ hx)
  unfold iX at ih⊢
  rw[List.map_cons,List.all_cons,List.all_cons,ih,qo (h a List.mem_cons_self)]
theorem adE{o:ag}(h:Gd n o.V):isNode (mO n E o)=isNode o/\(isNode o=true->c7 (mO n E o)=c7 o/\df (mO n E o)=(df o).map E/\∀k∈df o,lu n k):=by
 obtain⟨ek,gk⟩:=mH (E:=E) h A2
 obtain⟨ec,gc⟩:=mH (E:=E) h sM
 have gk:Gd n (kL o):=gk
 have e1:kL (mO n E o)=mV n E (kL o):=by show(cP (mV n E o.V) A2).1=_;rw[ek];rfl
 have e2:(cP (mO n E o).V sM).1=mV n E (cP o.V sM).1:=by show(cP (mV n E o.V) sM).1=_;rw[ec]
 have ht:=Ty (E:=E) h nZ
 by_cases h6:(kL o).Kind=6
 ·have hL:(kL (mO n E o)).L=(kL o).L.map (mV n E):=by rw[e1,pM gk.w (.inl h6)]
  have hb:jt (mO n E o)=jt o:=by
   unfold jt
   rw[ht,hL,List.length_map,e2,qo gc,e1,qo gk]
  have hk:=fun x hx=>gk.kid (.inl h6) (x:=x) hx
  by_cases h2:(cP o.V sM).1.Kind=2
  ·have hc:c7 (mO n E o)=c7 o:=by
    unfold c7;rw[e2,vV gc.w (by omega) (by omega) (by omega)]
   refine⟨?_,fun hn=>?_⟩
   ·unfold isNode
    rw[hb,hL,NT hk,List.length_map,hc]
   ·have ha:iX (kL o).L=true:=by
     unfold isNode at hn
     simp only[Bool.and_eq_true]at hn
     exact hn.2.1
    obtain⟨n1,n2⟩:=W1 (E:=E) hk ha
    exact⟨hc,by unfold df;rw[hL];exact n1,n2⟩
  ·have b1:jt o=true:=by
    unfold jt
    have:((cP o.V sM).1.Kind !=2)=true:=by simpa using h2
    rw[this,Bool.or_true]
   have n1:isNode o=false:=by unfold isNode;rw[b1];rfl
   have n2:isNode (mO n E o)=false:=by unfold isNode;rw[hb,b1];rfl
   exact⟨by rw[n1,n2],fun hh=>by rw[n1]at hh;cases hh⟩
 ·have b1:jt o=true:=by
   unfold jt
   have:((kL o).Kind !=6)=true:=by simpa using h6
   rw[this,Bool.or_true,Bool.true_or,Bool.true_or]
  have b2:jt (mO n E o)=true:=by
   unfold jt
   have:((kL (mO n E o)).Kind !=6)=true:=by rw[e1,qo gk];simpa using h6
   rw[this,Bool.or_true,Bool.true_or,Bool.true_or]
  have n1:isNode o=false:=by unfold isNode;rw[b1];rfl
  have n2:isNode (mO n E o)=false:=by unfold isNode;rw[b2];rfl
  exact⟨by rw[n1,n2],fun hh=>by rw[n1]at hh;cases hh⟩
structure pc(n:Nat)(E:Int->Int)(d e:aH):Prop where
 t:Fh n E
 len:d.ae.length=n
 fd:k7 d
 fe:k7 e
 get:∀k,lu n k->ay e (E k)=mO n E (ay d k)
 root:e.cM=E d.cM
 aek:lu n d.cM
 refs:∀k,lu n k->In n 302 (ay d k).V
variable{d e:aH}
theorem pc.gd(S:pc n E d e){k:Int}(hk:lu n k):Gd n (ay d k).V:=⟨uC 300 301 _ (by decide) (S.fd.V2 k).1,S.refs k hk⟩
def mG(n:Nat)(E:Int->Int)(g:Gv):Gv:=⟨g.c.map (mV n E),g.m.map (mV n E),g.r.map (mV n E),g.t.map (mV n E)⟩
theorem MM(o:Option aa)(r:aa×Bool):Hh (o.map (mV n E)) (mV n E r.1,r.2)=(Hh o r).map (mV n E):=by unfold Hh;cases r.2<;>rfl
theorem My(o:Option aa)(r:aa×Bool):rS (o.map (mV n E)) (mV n E r.1,r.2)=(rS o r).map (mV n E):=by unfold rS;cases r.2<;>rfl
theorem acS(g:Gv){v:aa}(h:Gd n v):(mG n E g).iU (mV n E v)=mG n E (g.iU v):=by
 unfold Gv.iU mG
 rw[(mH h kC).1,(mH h kM).1,(mH h kR).1,(mH h kT).1,MM,MM,MM,MM]
theorem ZD(g:Gv){v:aa}(h:Gd n v):(mG n E g).leave (mV n E v)=mG n E (g.leave v):=by
 unfold Gv.leave mG
 rw[(mH h kC).1,(mH h kM).1,(mH h kR).1,(mH h kT).1,My,My,My,My]
theorem ML(k:aw)(o:Option aa):jS (Cs k (o.map (mV n E)))=(jS (Cs k o)).map (mV n E):=by
 cases o with
 |none=>rfl
 |some x=>
  show[⟨5,0,k,[]⟩,mV n E x]=[mV n E ⟨5,0,k,[]⟩,mV n E x]
  rw[vV (v:=⟨5,0,k,[]⟩) ⟨Nat.zero_le _,fun x hx=>(by cases hx)⟩ (fun h=>by cases h) (fun h=>by cases h) (fun h=>by cases h)]
def GdG(n:Nat)(g:Gv):Prop:=∀x∈g.L,Gd n x.2/\jQ x.2
theorem SG{G:List (aw×aa)}(hl:G.length<=4)(h:∀x∈G,Gd n x.2/\jQ x.2):W 301 (iO G)/\In n 302 (iO G):=by
 have hm:∀v∈jS G,W 300 v/\In n 302 v:=by
  clear hl
  induction G with
  |nil=>intro v hv;cases hv
  |cons p G ih=>
   intro v hv
   rcases List.mem_cons.1 hv with rfl|hv
   ·exact⟨⟨Nat.zero_le _,fun x hx=>(by cases hx)⟩,(fun h=>by cases h),fun h=>(by rcases h with h|h<;>cases h)⟩
   ·rcases List.mem_cons.1 hv with rfl|hv
    ·have:=h p List.mem_cons_self
     exact⟨this.2.1,this.1.r⟩
    ·exact ih (fun x hx=>h x (List.mem_cons_of_mem _ hx)) v hv
 refine⟨⟨by show(jS G).length<=300;rw[np];omega,fun v hv=>(hm v hv).1⟩,(fun h=>by cases h),fun _ v hv=>?_⟩
 have:=hm v hv
 exact(TF 300 301 v (by decide) this.1).2 ((TF 300 302 v (by decide) this.1).1 this.2)
theorem v_m{g:Gv}(h:GdG n g):(mG n E g).v=mV n E g.v:=by
 have hw:=(SG g.len h).1
 rw[show mV n E g.v=mV n E (iO g.L) from rfl,pM hw (.inr rfl)]
 show iO (mG n E g).L=⟨7,0,⟨[]⟩,(jS g.L).map (mV n E)⟩
 unfold iO Gv.L
 rw[px,px,px,px,px,px,List.map_append,List.map_append,List.map_append]
 show(⟨7,0,⟨[]⟩,jS (Cs kC (g.c.map (mV n E)))++(jS (Cs kM (g.m.map (mV n E)))++(jS (Cs kR (g.r.map (mV n E)))++jS (Cs kT (g.t.map (mV n E)))))⟩:aa)=_
 rw[ML,ML,ML,ML]
theorem Zd{g:Gv}{v:aa}(hg:∀x,(g.c=some x\/g.m=some x\/g.r=some x\/g.t=some x)->Gd n x/\jQ x)(h:Gd n v)(hf:jQ v):∀x,((g.iU v).c=some x\/(g.iU v).m=some x\/(g.iU v).r=some x\/(g.iU v).t=some x)->Gd n x/\jQ x:=by
 have key:∀(o:Option aa)(k:aw)(x:aa),(∀y,o=some y->Gd n y/\jQ y)->Hh o (cP v k)=some x->Gd n x/\jQ x:=fun o k x ho hx=>by
  unfold Hh at hx
  split at hx
  ·injection hx with hx
   rw[<-hx];exact⟨(mH (E:=fun k=>k) h k).2,La hf k⟩
  ·exact ho x hx
 intro x hx
 rcases hx with hx|hx|hx|hx
 ·exact key _ _ _ (fun y hy=>hg y (.inl hy)) hx
 ·exact key _ _ _ (fun y hy=>hg y (.inr (.inl hy))) hx
 ·exact key _ _ _ (fun y hy=>hg y (.inr (.inr (.inl hy)))) hx
 ·exact key _ _ _ (fun y hy=>hg y (.inr (.inr (.inr hy)))) hx
theorem WN{g:Gv}{v:aa}(hg:∀x,(g.c=some x\/g.m=some x\/g.r=some x\/g.t=some x)->Gd n x/\jQ x):GdG n (g.leave v):=by
 intro x hx
 obtain⟨_,h⟩:=S4 hx
 refine hg x.2 ?_
 rcases h with⟨_,h⟩|⟨_,h⟩|⟨_,h⟩|⟨_,h⟩
 ·exact .inl h
 ·exact .inr (.inl h)
 ·exact .inr (.inr (.inl h))
 ·exact .inr (.inr (.inr h))
end
end Go.AB
end
