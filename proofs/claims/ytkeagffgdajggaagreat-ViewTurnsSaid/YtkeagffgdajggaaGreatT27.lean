/- A part of the proof: Xe, Xf, Xg, Xh, Xi, Xj, Xk, Xl, Xm, Xn, Xo, Xp, Xq, Xr, Xs, Xt, Xv, Open1, Open2, Open3. -/
import Derived.Test.YtkeagffgdajggaaGreatT26
import Derived.Test.YtkeagffgdajggaaGreatT11
import Derived.ProofKit
import Derived.OpenShut
import Derived.ChangeCalls
set_option linter.unusedSimpArgs false
set_option linter.unusedVariables false
section
set_option linter.unusedSimpArgs false
namespace Go.AB
open Go
theorem PJ(m:List (Int×Int))(a b k:Int):jI (wV m a b) k=if a=k then some b else jI m k:=by
 induction m with
 |nil=>
  show(bif k==a then some b else none)=_
  by_cases e:a=k
  ·subst e;simp
  ·rw[if_neg e]
   have:(k==a)=false:=by rw[beq_eq_false_iff_ne];exact fun h=>e h.symm
   rw[this];rfl
 |cons x m ih=>
  obtain⟨c,d⟩:=x
  show jI (bif a==c then(a,b)::m else(c,d)::wV m a b) k=_
  by_cases e:a=c
  ·subst e
   rw[show(a==a)=true by simp,cond_true]
   show(bif k==a then some b else jI m k)=if a=k then some b else(bif k==a then some d else jI m k)
   by_cases e2:a=k
   ·subst e2;simp
   ·rw[if_neg e2]
    have:(k==a)=false:=by rw[beq_eq_false_iff_ne];exact fun h=>e2 h.symm
    rw[this];rfl
  ·have e1:(a==c)=false:=by rw[beq_eq_false_iff_ne];exact e
   rw[e1,cond_false]
   show(bif k==c then some d else jI (wV m a b) k)=if a=k then some b else(bif k==c then some d else jI m k)
   rw[ih]
   by_cases e2:a=k
   ·subst e2;rw[e1];simp
   ·rw[if_neg e2,if_neg e2]
def InL(m:List (Int×Int))(l:List Int):Prop:=∀k,PL m k=l.contains k
theorem InL.add{m:List (Int×Int)}{l:List Int}(h:InL m l)(n b:Int):InL (wV m n b) (l++[n]):=fun k=>by
 have:=h k
 unfold PL at this⊢
 rw[PJ,List.contains_eq_mem]
 rw[List.contains_eq_mem]at this
 by_cases e:n=k
 ·subst e;simp
 ·rw[if_neg e,this]
  have e':¬k=n:=fun h=>e h.symm
  simp[e']
end Go.AB
end
section
set_option linter.unusedSimpArgs false
namespace Go.AB
open Go
def Ku(v:aa):Prop:=W 300 v∧He 300 v≤300
theorem Ku.wide{v:aa}(h:Ku v):Eg v:=⟨OK _ _ _ (by decide) h.1,by rw[Tf 300 302 v (by decide) h.1];have:=h.2;omega⟩
theorem acs(v:aa):∃r,dS iB v 300=some r∧(0≤r→Ku v):=by
 obtain⟨r,h1,h2,h3,h4⟩:=few iB v 300 (by decide) (by decide) (by decide)
 refine⟨r,h1,fun h=>?_⟩
 obtain⟨h5,h6⟩:=h4 h
 exact⟨h5,by have:(He 300 v:Int)≤300 -r:=h6;omega⟩
theorem My{α:Type}{g:Bool}{z:α}{o:Option α}(hg:g=false):fY g z o=some z:=by rw[hg,Rj]
theorem Gp(o:ag)(n:Int):∃b,jL o n=some b∧(b=true→Ku o.V):=by
 obtain⟨r,h1,h4⟩:=acs o.V
 unfold jL
 rw[h1,dt]
 by_cases hc:((decide (r≥0))&&(decide ((o.Data.b.length:Int)≤n)))=true
 ·have hr:0≤r:=by simp at hc;exact hc.1
  obtain⟨b,hb⟩:=texts 300 o.V iB (h4 hr).1 (by decide) (by decide)
  rw[hc,wI,hb,dt]
  exact⟨_,rfl,fun _=>h4 hr⟩
 ·have hc':((decide (r≥0))&&(decide ((o.Data.b.length:Int)≤n)))=false:=by simpa using hc
  rw[hc',Rj,dt]
  exact⟨_,rfl,fun h=>by cases h⟩
theorem VB(l:List ag)(most:Int)(hm:most≤1000):∃b,lx l most=some b∧(b=true→(l.length:Int)≤most∧∀o∈l,Ku o.V):=by
 unfold lx
 by_cases hl:(l.length:Int)>most
 ·rw[if_pos (by simpa using hl)]
  exact⟨false,rfl,fun h=>by cases h⟩
 rw[if_neg (by simpa using hl)]
 have key:∃o:Unit⊕Bool,iter (fun(k2:Int)=>
  if decide (k2<(l.length:Int))then
   aK (0≤k2∧k2<l.length)<|
   aP (jL (ix l k2) 300) fun r4=>
   if !r4 then
    some (.inr (.inr false))
   else
    some (.inl (bz (k2+1)))
  else
   some (.inr (.inl ()))) 0=some o∧((o=.inl ()∧∀o∈l,Ku o.V)∨o=.inr false):=by
  refine uw (fun k=>∃j:Nat,k=(j:Int)∧j≤l.length∧∀i(h:i<j)(h':i<l.length),Ku (l[i]).V) (fun k=>((l.length:Int) -k).toNat) _ ⟨0,rfl,Nat.zero_le _,fun i h=>absurd h (Nat.not_lt_zero i)⟩ (by show((l.length:Int) -0).toNat<_;omega) ?_
  rintro k ⟨j,rfl,hj,hi⟩
  by_cases hjl:j<l.length
  ·obtain⟨b,h1,h2⟩:=Gp (ix l (j:Int)) 300
   rw[if_pos (by simpa using hjl),qm ⟨by omega,by omega⟩,h1,dt]
   cases b with
   |false=>exact⟨_,rfl,.inr rfl⟩
   |true=>
    refine⟨_,rfl,?_⟩
    show(∃j':Nat,bz ((j:Int)+1)=(j':Int)∧_)∧_
    rw[aS (by omega) (by omega)]
    refine⟨⟨j+1,by omega,by omega,fun i h h'=>?_⟩,by omega⟩
    rcases Nat.lt_or_ge i j with hij|hij
    ·exact hi i hij h'
    ·have:i=j:=by omega
     subst this
     rw[hU hjl]at h2
     exact h2 rfl
  ·rw[if_neg (by simpa using hjl)]
   refine⟨_,rfl,.inl ⟨rfl,fun o ho=>?_⟩⟩
   obtain⟨i,h,rfl⟩:=List.getElem_of_mem ho
   exact hi i (by omega) h
 obtain⟨o,h1,h2⟩:=key
 rw[h1]
 rcases h2 with⟨rfl,h2⟩|rfl
 ·exact⟨true,rfl,fun _=>⟨by omega,h2⟩⟩
 ·exact⟨false,rfl,fun h=>by cases h⟩
def Hy(d:dV)(n:Int):ag:=if(decide (n<1))||(decide (n>(d.an.length:Int)))then Kt else ix d.an (n -1)
structure MB(d:dV):Prop where
 len:d.an.length≤1000
 w:∀o∈d.an,Ku o.V
theorem MB.acv{d:dV}(h:MB d)(n:Int):Ku (Hy d n).V:=by
 unfold Hy
 split
 ·exact⟨⟨Nat.zero_le _,fun x hx=>by cases hx⟩,by decide⟩
 ·rename_i hc
  simp at hc
  rw[FL (by omega)]
  exact h.w _ (List.getElem_mem _)
theorem MB.get{d:dV}(h:MB d)(n:Int):Eg (Hy d n).V:=(h.acv n).wide
end Go.AB
end
section
set_option linter.unusedSimpArgs false
namespace Go.AB
open Go
def news(d:dV)(g:aa)(k:Nat)(n:Int):List Int:=if k=0 then(match jK (Hy d n).V g with|some l=>l|none=>[])else kept (rs3 (Hy d n).V)
end Go.AB
end
section
set_option linter.unusedSimpArgs false
namespace Go.AB
open Go
theorem abX{v:aa}{n:Nat}(h:W n v):(v.L.length:Int)≤n:=by
 cases n with
 |zero=>exact h.elim
 |succ n=>have:=h.1;omega
def Yu(l:List aa):Bool:=l.all fun x=>x.Kind==8
end Go.AB
end
section
set_option linter.unusedSimpArgs false
namespace Go.AB
open Go
abbrev zeroV:aa:=aa.mk 0 0 (aA.mk []) ([]:List aa)
end Go.AB
end
section
set_option linter.unusedSimpArgs false
namespace Go.AB
open Go
def kC:aA:=aA.mk [67,114,111,112,66,111,120]
def kM:aA:=aA.mk [77,101,100,105,97,66,111,120]
def kR:aA:=aA.mk [82,101,115,111,117,114,99,101,115]
def kT:aA:=aA.mk [82,111,116,97,116,101]
structure Gv where
 c:Option aa
 m:Option aa
 r:Option aa
 t:Option aa
def T2(k:aA):Option aa→List (aA×aa)
 |none=>[]
 |some x=>[(k,x)]
def Gv.L(g:Gv):List (aA×aa):=T2 kC g.c++(T2 kM g.m++(T2 kR g.r++T2 kT g.t))
theorem Gv.len(g:Gv):g.L.length≤4:=by
 obtain⟨c,m,r,t⟩:=g
 cases c<;>cases m<;>cases r<;>cases t<;>simp[Gv.L,T2]
def LD(v:aa)(key:aA):aa×Bool:=(cQ v key).getD (zeroV,false)
def Small(v:aa):Prop:=(v.L.length:Int)≤4611686018427387904
theorem Small.afG{n:Nat}{v:aa}(h:W n v)(hn:n≤1000):Small v:=by
 have:=abX h
 unfold Small;omega
def ovG(o:Option aa)(r:aa×Bool):Option aa:=if r.2 then some r.1 else o
def Gv.agA(g:Gv)(v:aa):Gv:=⟨ovG g.c (LD v kC),ovG g.m (LD v kM),ovG g.r (LD v kR),ovG g.t (LD v kT)⟩
end Go.AB
end
section
set_option linter.unusedSimpArgs false
namespace Go.AB
open Go
theorem MB.afw{d:dV}(h:MB d)(n:Int):W 300 (Hy d n).V:=(h.acv n).1
theorem MB.small{d:dV}(h:MB d)(n:Int):Small (Hy d n).V:=Small.afG (h.afw n) (by decide)
def Y9:aA:=aA.mk [80,97,103,101,115]
def acQ:aA:=aA.mk [75,105,100,115]
def TN:aA:=aA.mk [67,111,117,110,116]
def XJ:aA:=aA.mk [84,121,112,101]
def ZE(o:ag)(name:aA):Bool:=(!o.Stream&&((LD o.V XJ).1.Kind==5))&&((LD o.V XJ).1.S.b==name.b)
def QV(o:ag):aa:=(LD o.V acQ).1
def KM(o:ag):Int:=(LD o.V TN).1.N
def Vj(o:ag):Bool:=((!ZE o Y9||((QV o).Kind !=6))||(((QV o).L.length:Int)==0))||((LD o.V TN).1.Kind !=2)
def isNode(o:ag):Bool:=!Vj o&&(Yu (QV o).L&&(decide (KM o≥((QV o).L.length:Int))&&decide (KM o≤2048)))
def pick(d:dV):List Int→Int→Option (Int×Int)
 |[],_=>none
 |m::l,p=>if isNode (Hy d m)=true then(if p<KM (Hy d m)then some (m,p)else pick d l (p -KM (Hy d m)))else none
end Go.AB
end
section
set_option linter.unusedSimpArgs false
namespace Go.AB
open Go
end Go.AB
end
section
set_option linter.unusedSimpArgs false
namespace Go.AB
open Go
end Go.AB
end
section
set_option linter.unusedSimpArgs false
namespace Go.AB
open Go
end Go.AB
end
section
set_option linter.unusedSimpArgs false
namespace Go.AB
open Go
end Go.AB
end
section
set_option linter.unusedSimpArgs false
namespace Go.AB
open Go
end Go.AB
end
section
set_option linter.unusedSimpArgs false
namespace Go.AB
open Go
theorem ER(p:Nat→Bool):∀n,(∀k,k<n→p k=true)∨∃j,j<n∧p j=false∧∀k,k<j→p k=true
 |0=>.inl fun k h=>absurd h (Nat.not_lt_zero k)
 |n+1=>by
  rcases ER p n with h|⟨j,h1,h2,h3⟩
  ·cases e:p n with
   |true=>
    refine .inl fun k hk=>?_
    rcases Nat.lt_or_ge k n with h'|h'
    ·exact h k h'
    ·have:k=n:=by omega
     subst this;exact e
   |false=>exact .inr ⟨n,by omega,e,h⟩
  ·exact .inr ⟨j,by omega,h2,h3⟩
theorem XX{α:Type}{n:Nat}{p:Nat→α→Prop}(d:α)(h:∀k,k<n→∃a,p k a):∃f:Nat→α,∀k,k<n→p k (f k):=⟨fun k=>if hk:k<n then(h k hk).choose else d,fun k hk=>by simp only[dif_pos hk];exact(h k hk).choose_spec⟩
theorem kid{n:Nat}{v:aa}(h:W (n+1) v){k:Nat}(hk:k<v.L.length):W n (ix v.L (k:Int)):=by rw[hU hk];exact h.2 _ (List.getElem_mem hk)
theorem ND:∀a b:List UInt8,(!Op.bytesLess a b)=(Op.bytesLess b a||(b==a))
 |[],[]=>rfl
 |[],b::y=>by
  show(!true)=(false||_)
  simp
 |a::x,[]=>by
  show(!false)=(true||_)
  simp
 |a::x,b::y=>by
  have ih:=ND x y
  rw[Op.bytesLess,Op.bytesLess,List.cons_beq_cons]
  rcases Nat.lt_trichotomy a.toNat b.toNat with h|h|h
  ·have h1:a<b:=UInt8.lt_iff_toNat_lt.2 h
   have h2:¬b<a:=fun h'=>by have:=UInt8.lt_iff_toNat_lt.1 h';omega
   have h3:(b==a)=false:=by simp;intro e;subst e;omega
   simp[h1,h2,h3]
  ·obtain rfl:a=b:=UInt8.toNat_inj.1 h
   have h1:¬a<a:=fun h'=>by have:=UInt8.lt_iff_toNat_lt.1 h';omega
   simp[h1]at ih⊢
   exact ih
  ·have h1:b<a:=UInt8.lt_iff_toNat_lt.2 h
   have h2:¬a<b:=fun h'=>by have:=UInt8.lt_iff_toNat_lt.1 h';omega
   have h3:(a==b)=false:=by simp;intro e;subst e;omega
   simp[h1,h2,h3]
theorem QC(x y:Int):∃c,bG x y=some c∧(c=0↔x=y):=by
 have nn:∀z:Int,(z !=z)=false:=fun z=>by simp
 unfold bG dW
 rw[nn,nn,dt,dt]
 by_cases h1:x<y
 ·exact⟨-1,bP (by decide) (bP (by decide) (cC (by simpa using h1) rfl)),by constructor<;>intro h<;>omega⟩
 ·by_cases h2:x>y
  ·exact⟨1,bP (by decide) (bP (by decide) (bP (by simpa using h1) (cC (by simpa using h2) rfl))),by constructor<;>intro h<;>omega⟩
  ·exact⟨0,bP (by decide) (bP (by decide) (bP (by simpa using h1) (bP (by simpa using h2) rfl))),by constructor<;>intro h<;>omega⟩
theorem QD:∀a b:List UInt8,Lib.compareBytes a b=0↔a=b
 |[],[]=>⟨fun _=>rfl,fun _=>rfl⟩
 |[],_::_=>⟨fun h=>(by rw[Lib.compareBytes]at h;cases h),fun h=>(by cases h)⟩
 |_::_,[]=>⟨fun h=>(by rw[Lib.compareBytes]at h;cases h),fun h=>(by cases h)⟩
 |a::x,b::y=>by
  rw[Lib.compareBytes]
  by_cases h1:a<b
  ·rw[if_pos h1]
   refine⟨fun h=>(by cases h),fun h=>?_⟩
   injection h with h _
   subst h
   exact absurd (UInt8.lt_iff_toNat_lt.1 h1) (Nat.lt_irrefl _)
  ·rw[if_neg h1]
   by_cases h2:b<a
   ·rw[if_pos h2]
    refine⟨fun h=>(by cases h),fun h=>?_⟩
    injection h with h _
    subst h
    exact absurd (UInt8.lt_iff_toNat_lt.1 h2) (Nat.lt_irrefl _)
   ·rw[if_neg h2,QD x y]
    have e:a=b:=UInt8.toNat_inj.1 (by
     have k1:¬a.toNat<b.toNat:=fun h=>h1 (UInt8.lt_iff_toNat_lt.2 h)
     have k2:¬b.toNat<a.toNat:=fun h=>h2 (UInt8.lt_iff_toNat_lt.2 h)
     omega)
    subst e
    constructor
    ·intro h;rw[h]
    ·intro h;injection h
theorem adb(a b c:Int):∃r,eY [a,b,c]=some r∧(r=0↔a=0∧b=0∧c=0):=by
 by_cases ha:a=0
 ·by_cases hb:b=0
  ·by_cases hc:c=0
   ·subst ha;subst hb;subst hc
    exact⟨0,by kernel_rfl,by simp⟩
   ·subst ha;subst hb
    refine⟨c,?_,by simp⟩
    unfold eY
    refine gQ (z:=.inr c) (eV (z:=.inr c) (eA 2 (by omega) (fun k hk=>?_) ?_) rfl) rfl
    ·have:k=0∨k=1:=by omega
     rcases this with rfl|rfl<;>rfl
    ·exact cC rfl (bc (show(0:Int)≤2∧(2:Int)<3 by decide) (cC (by show(c !=0)=true;simpa using hc) rfl))
  ·subst ha
   refine⟨b,?_,by simp[hb]⟩
   unfold eY
   refine gQ (z:=.inr b) (eV (z:=.inr b) (eA 1 (by omega) (fun k hk=>?_) ?_) rfl) rfl
   ·obtain rfl:k=0:=by omega
    rfl
   ·exact cC rfl (bc (show(0:Int)≤1∧(1:Int)<3 by decide) (cC (by show(b !=0)=true;simpa using hb) rfl))
 ·refine⟨a,?_,by simp[ha]⟩
  unfold eY
  refine gQ (z:=.inr a) (eV (z:=.inr a) (eA 0 (by omega) (fun k hk=>by omega) ?_) rfl) rfl
  exact cC rfl (bc (show(0:Int)≤0∧(0:Int)<3 by decide) (cC (by show(a !=0)=true;simpa using ha) rfl))
theorem Ri{a b:aa}(h1:a.Kind=b.Kind)(h2:a.N=b.N)(h3:a.S.b=b.S.b)(h4:a.L=b.L):a=b:=by
 obtain⟨K,N,⟨S⟩,L⟩:=a
 obtain⟨K',N',⟨S'⟩,L'⟩:=b
 simp only at h1 h2 h3 h4
 rw[h1,h2,h3,h4]
theorem NK{a b:List aa}(hl:a.length=b.length)(h:∀k,k<a.length→ix a (k:Int)=ix b (k:Int)):a=b:=by
 refine List.ext_getElem hl fun k h1 h2=>?_
 have:=h k h1
 rwa[hU h1,hU h2]at this
theorem EJ:∀(n:Nat)(a b:aa)(fuel:Nat),W n a→2*n≤fuel→n≤1000→∃c,bZ fuel a b=some c∧(c=0↔a=b)
 |0,_,_,_,h,_,_=>h.elim
 |n+1,a,b,0,_,h,_=>by omega
 |n+1,a,b,1,_,h,_=>by omega
 |n+1,a,b,fuel+2,h,hf,hn=>by
  have hl:=h.1
  obtain⟨c1,e1,k1⟩:=QC a.Kind b.Kind
  obtain⟨c2,e2,k2⟩:=QC a.N b.N
  have k3:=QD a.S.b b.S.b
  obtain⟨r,e4,k4⟩:=adb c1 c2 (Lib.compareBytes a.S.b b.S.b)
  have e3:eZ a.S b.S=some (Lib.compareBytes a.S.b b.S.b):=rfl
  rw[bZ,e1,dt,e2,dt,e3,dt,e4,dt]
  by_cases hr:r=0
  ·obtain⟨z1,z2,z3⟩:=k4.1 hr
   have q1:=k1.1 z1
   have q2:=k2.1 z2
   have q3:=k3.1 z3
   have fin:∀x:Option Int,(∃c,x=some c∧(c=0↔a.L=b.L))→∃c,(if(r !=0)=true then some r else aP x fun r5=>some r5)=some c∧(c=0↔a=b):=by
    rintro x ⟨c,rfl,hc⟩
    refine⟨c,bP (by simp[hr]) rfl,hc.trans ⟨fun e=>Ri q1 q2 q3 e,fun e=>by rw[e]⟩⟩
   refine fin _ ?_
   rw[aw]
   have ih:∀k,k<a.L.length→∃c,bZ fuel (ix a.L (k:Int)) (ix b.L (k:Int))=some c∧(c=0↔ix a.L (k:Int)=ix b.L (k:Int)):=fun k hk=>EJ n _ _ fuel (kid h hk) (by omega) (by omega)
   obtain⟨f,hfk⟩:∃f:Nat→Int,∀k,k<a.L.length→bZ fuel (ix a.L (k:Int)) (ix b.L (k:Int))=some (f k)∧(f k=0↔ix a.L (k:Int)=ix b.L (k:Int)):=XX 0 ih
   rcases ER (fun k=>decide (k<b.L.length)&&(f k==0)) a.L.length with g|⟨j,g1,g2,g3⟩
   ·have gk:∀k,k<a.L.length→k<b.L.length∧f k=0:=fun k hk=>by have:=g k hk;simpa using this
    have hle:a.L.length≤b.L.length:=by
     rcases Nat.lt_or_ge b.L.length a.L.length with hh|hh
     ·have:=(gk b.L.length hh).1;omega
     ·exact hh
    refine⟨if(a.L.length:Int)<(b.L.length:Int)then -1 else 0,gQ (z:=.inl ()) (eV (z:=.inl ()) (eA a.L.length (by omega) (fun k hk=>?_) (bP (by simp) rfl)) rfl) ?_,?_⟩
    ·obtain⟨g4,g5⟩:=gk k hk
     have e:=(hfk k hk).1
     rw[g5]at e
     exact cC (decide_eq_true (by omega)) (bc ⟨by omega,by omega⟩ (bP (by simp;omega) (bc ⟨by omega,by omega⟩ (cg e (bP (by decide) rfl)))))
    ·by_cases hh:(a.L.length:Int)<(b.L.length:Int)
     ·rw[if_pos hh];exact cC (by simpa using hh) rfl
     ·rw[if_neg hh];exact bP (by simpa using hh) rfl
    ·by_cases hh:(a.L.length:Int)<(b.L.length:Int)
     ·rw[if_pos hh]
      exact⟨fun e=>(by cases e),fun e=>by rw[e]at hh;omega⟩
     ·rw[if_neg hh]
      exact⟨fun _=>NK (by omega) fun k hk=>(hfk k hk).2.1 (gk k hk).2,fun _=>rfl⟩
   ·have gk:∀k,k<j→k<b.L.length∧f k=0:=fun k hk=>by have:=g3 k hk;simpa using this
    have lp:∀k,k<j→(if decide ((k:Int)<(a.L.length:Int))=true then
     aK (0≤(k:Int)∧(k:Int)<a.L.length)<|
     if decide ((k:Int)≥(b.L.length:Int))then
      some (.inr (.inr (1:Int)))
     else
      aK (0≤(k:Int)∧(k:Int)<b.L.length)<|
      aP (bZ fuel (ix a.L (k:Int)) (ix b.L (k:Int))) fun r8=>
      if r8 !=0 then
       some (.inr (.inr r8))
      else
       some (.inl (bz ((k:Int)+1)))
     else
      some (.inr (.inl ())))=(some (.inl (bz ((k:Int)+1))):Option (Int⊕(Unit⊕Int))):=fun k hk=>by
     obtain⟨g4,g5⟩:=gk k hk
     have e:=(hfk k (by omega)).1
     rw[g5]at e
     exact cC (decide_eq_true (by omega)) (bc ⟨by omega,by omega⟩ (bP (by simp;omega) (bc ⟨by omega,by omega⟩ (cg e (bP (by decide) rfl)))))
    by_cases hj:j<b.L.length
    ·have gne:¬f j=0:=by
      intro e
      rw[e,decide_eq_true hj]at g2
      cases g2
     refine⟨f j,gQ (z:=.inr (f j)) (eV (z:=.inr (f j)) (eA j (by omega) lp ?_) rfl) rfl,fun e=>absurd e gne,fun e=>absurd ((hfk j g1).2.2 (by rw[e])) gne⟩
     exact cC (decide_eq_true (by omega)) (bc ⟨by omega,by omega⟩ (bP (by simp;omega) (bc ⟨by omega,by omega⟩ (cg (hfk j g1).1 (cC (by simpa using gne) rfl)))))
    ·refine⟨1,gQ (z:=.inr 1) (eV (z:=.inr 1) (eA j (by omega) lp ?_) rfl) rfl,fun e=>(by cases e),fun e=>by rw[e]at g1;omega⟩
     exact cC (decide_eq_true (by omega)) (bc ⟨by omega,by omega⟩ (cC (by simp;omega) rfl))
  ·refine⟨r,cC (by simpa using hr) rfl,⟨fun e=>absurd e hr,fun e=>?_⟩⟩
   subst e
   exact absurd (k4.2 ⟨k1.2 rfl,k2.2 rfl,k3.2 rfl⟩) hr
theorem NC(a:List UInt8):Op.bytesLess a a=false:=by
 have:=ND a a
 cases h:Op.bytesLess a a with
 |false=>rfl
 |true=>rw[h]at this;simp at this
theorem CT:∀(n:Nat)(a b:aa)(fuel:Nat),W n a→n≤fuel→n≤1000→∃c,bX fuel a b=some c∧(c=0↔a=b)
 |0,_,_,_,h,_,_=>h.elim
 |n+1,a,b,0,_,h,_=>by omega
 |n+1,a,b,fuel+1,h,hf,hn=>by
  have hl:=h.1
  rw[bX]
  by_cases h1:((decide (a.Kind<b.Kind))||((a.Kind==b.Kind)&&((decide (a.N<b.N))||((a.N==b.N)&&(Op.bytesLess a.S.b b.S.b)))))=true
  ·refine⟨-1,cC h1 rfl,fun e=>(by cases e),fun e=>?_⟩
   subst e
   simp[NC]at h1
  ·rw[if_neg h1]
   by_cases h2:(((a.Kind !=b.Kind)||(a.N !=b.N))||(!(a.S.b==b.S.b)))=true
   ·refine⟨1,cC h2 rfl,fun e=>(by cases e),fun e=>?_⟩
    subst e
    simp at h2
   ·rw[if_neg h2]
    have h3:a.Kind=b.Kind∧a.N=b.N∧a.S.b=b.S.b:=by
     simp at h2
     exact⟨h2.1.1,h2.1.2,h2.2⟩
    obtain⟨q1,q2,q3⟩:=h3
    have ih:∀k,k<a.L.length→∃c,bX fuel (ix a.L (k:Int)) (ix b.L (k:Int))=some c∧(c=0↔ix a.L (k:Int)=ix b.L (k:Int)):=fun k hk=>CT n _ _ fuel (kid h hk) (by omega) (by omega)
    obtain⟨f,hfk⟩:∃f:Nat→Int,∀k,k<a.L.length→bX fuel (ix a.L (k:Int)) (ix b.L (k:Int))=some (f k)∧(f k=0↔ix a.L (k:Int)=ix b.L (k:Int)):=XX 0 ih
    have lp:∀k,k<a.L.length→k<b.L.length→f k=0→(if((decide ((k:Int)<(a.L.length:Int)))&&(decide ((k:Int)<(b.L.length:Int))))=true then
     aK (0≤(k:Int)∧(k:Int)<a.L.length)<|
     aK (0≤(k:Int)∧(k:Int)<b.L.length)<|
     aP (bX fuel (ix a.L (k:Int)) (ix b.L (k:Int))) fun r8=>
     if r8 !=0 then
      some (.inr (.inr r8))
     else
      some (.inl (bz ((k:Int)+1)))
     else
      some (.inr (.inl ())))=(some (.inl (bz ((k:Int)+1))):Option (Int⊕(Unit⊕Int))):=fun k hk hk2 e0=>by
     have e:=(hfk k hk).1
     rw[e0]at e
     exact cC (by simp;omega) (bc ⟨by omega,by omega⟩ (bc ⟨by omega,by omega⟩ (cg e (bP (by decide) rfl))))
    rcases ER (fun k=>f k==0) (min a.L.length b.L.length)with g|⟨j,g1,g2,g3⟩
    ·have gk:∀k,k<min a.L.length b.L.length→f k=0:=fun k hk=>by have:=g k hk;simpa using this
     have fin:∀c,(if decide ((a.L.length:Int)<(b.L.length:Int))=true then some (-1)else if decide ((a.L.length:Int)>(b.L.length:Int))=true then some 1 else some 0)=some c→∃c,Hg (mO (iter (fun(k4:Int)=>
      if(decide (k4<(a.L.length:Int)))&&(decide (k4<(b.L.length:Int)))then
       aK (0≤k4∧k4<a.L.length)<|
       aK (0≤k4∧k4<b.L.length)<|
       aP (bX fuel (ix a.L k4) (ix b.L k4)) fun r8=>
       if r8 !=0 then
        some (.inr (.inr r8))
       else
        some (.inl (bz (k4+1)))
      else
       some (.inr (.inl ()))) 0) (fun(_:Unit)=>some (.inl ())) (fun(t7:Int)=>some (.inr t7))) (fun(_:Unit)=>
      if decide ((a.L.length:Int)<(b.L.length:Int))then some (-1)else if decide ((a.L.length:Int)>(b.L.length:Int))then some 1 else some 0) (fun(t3:Int)=>some t3)=some c∧(c=0↔a=b):=fun c hc=>by
      refine⟨c,gQ (z:=.inl ()) (eV (z:=.inl ()) (eA (min a.L.length b.L.length) (by omega) (fun k hk=>lp k (by omega) (by omega) (gk k hk)) (bP (by simp;omega) rfl)) rfl) hc,?_⟩
      by_cases e1:(a.L.length:Int)<(b.L.length:Int)
      ·rw[if_pos (by simpa using e1)]at hc
       injection hc with hc
       exact⟨fun e=>by omega,fun e=>by rw[e]at e1;omega⟩
      ·rw[if_neg (by simpa using e1)]at hc
       by_cases e2:(a.L.length:Int)>(b.L.length:Int)
       ·rw[if_pos (by simpa using e2)]at hc
        injection hc with hc
        exact⟨fun e=>by omega,fun e=>by rw[e]at e2;omega⟩
       ·rw[if_neg (by simpa using e2)]at hc
        injection hc with hc
        exact⟨fun _=>Ri q1 q2 q3 (NK (by omega) fun k hk=>(hfk k hk).2.1 (gk k (by omega))),fun _=>hc.symm⟩
     by_cases e1:(a.L.length:Int)<(b.L.length:Int)
     ·exact fin (-1) (cC (by simpa using e1) rfl)
     ·by_cases e2:(a.L.length:Int)>(b.L.length:Int)
      ·exact fin 1 (bP (by simpa using e1) (cC (by simpa using e2) rfl))
      ·exact fin 0 (bP (by simpa using e1) (bP (by simpa using e2) rfl))
    ·have gne:¬f j=0:=by simpa using g2
     refine⟨f j,gQ (z:=.inr (f j)) (eV (z:=.inr (f j)) (eA j (by omega) (fun k hk=>lp k (by omega) (by omega) (by have:=g3 k hk;simpa using this)) ?_) rfl) rfl,fun e=>absurd e gne,fun e=>absurd ((hfk j (by omega)).2.2 (by rw[e])) gne⟩
     exact cC (by simp;omega) (bc ⟨by omega,by omega⟩ (bc ⟨by omega,by omega⟩ (cg (hfk j (by omega)).1 (cC (by simpa using gne) rfl))))
theorem Wu(a b:aa)(h:W 302 a):∃x,gA a b=some x∧gv a b=some x∧(x=true↔a=b):=by
 obtain⟨c1,e1,k1⟩:=EJ 302 a b iB h (by decide) (by decide)
 obtain⟨c2,e2,k2⟩:=CT 302 a b iB h (by decide) (by decide)
 refine⟨c1==0,cg e1 rfl,cg e2 ?_,?_⟩
 ·have:(c2==0)=(c1==0):=by
   rw[Bool.eq_iff_iff]
   simp only[beq_iff_eq]
   rw[k1,k2]
  rw[this]
 ·simp only[beq_iff_eq];exact k1
end Go.AB
end
section
set_option linter.unusedSimpArgs false
set_option maxRecDepth 20000
namespace Go.AB
open Go
def wU(g:Int→aa):Nat→aa→aa
 |0,v=>v
 |n+1,v=>if(v.Kind==8)=true then g v.N else if((v.Kind==6)||(v.Kind==7))=true then⟨v.Kind,v.N,v.S,v.L.map (wU g n)⟩else v
theorem FX(g:Int→aa)(hg:∀n,(g n).L=[]):∀(n:Nat)(v:aa),W n v→W n (wU g n v)
 |0,_,h=>h.elim
 |n+1,v,h=>by
  rw[wU]
  split
  ·exact⟨by rw[hg];exact Nat.zero_le _,fun x hx=>by rw[hg]at hx;cases hx⟩
  ·split
   ·refine⟨by show(v.L.map _).length≤n;rw[List.length_map];exact h.1,fun x hx=>?_⟩
    obtain⟨y,hy,rfl⟩:=List.mem_map.1 hx
    exact FX g hg n y (h.2 y hy)
   ·exact h
def nx(row:List Int)(n:Int):Int:=match row.findIdx? (fun x=>x==n)with
 |some i=>((i+1:Nat):Int)
 |none=>0
def jv(row:List Int)(n:Int):Int:=if((decide (n≥1))&&(decide (n≤4096)))=true then nx row n else 0
def nU(k:Int):aa:=if(k==0)=true then zeroV else⟨8,k,⟨[]⟩,[]⟩
theorem Wp(k:Int):(nU k).L=[]:=by unfold nU;split<;>rfl
def Ox(row:List Int)(v:aa):aa:=wU (fun n=>nU (jv row n)) 302 v
theorem RO{α:Type}(l:List α)(p:α→Bool)(j:Nat)(h:j<l.length):(l.drop j).findIdx? p=if p l[j]=true then some 0 else((l.drop (j+1)).findIdx? p).map (·+1):=by rw[List.drop_eq_getElem_cons h,List.findIdx?_cons]
theorem JF{α O:Type}(l:List α)(p:α→Bool)(hl:l.length≤1000000){body:Int→Option (Int⊕O)}(yes:Nat→O)(no:O)(hb:∀(k:Nat)(h:k<l.length),body (k:Int)=some (if p l[k]=true then .inr (yes k)else .inl (bz ((k:Int)+1))))(he:body (l.length:Int)=some (.inr no)):
 ∀(r j:Nat),j+r=l.length→Kw body (r+1) (j:Int) (match(l.drop j).findIdx? p with|some i=>yes (j+i)|none=>no)
 |0,j,h=>by
  have hj:j=l.length:=by omega
  subst hj
  rw[List.drop_length]
  exact .stop he
 |r+1,j,h=>by
  have hj:j<l.length:=by omega
  rw[RO l p j hj]
  by_cases hp:p l[j]=true
  ·rw[if_pos hp]
   exact .stop (by rw[hb j hj,if_pos hp];rfl)
  ·rw[if_neg hp]
   have ih:=JF l p hl yes no hb he r (j+1) (by omega)
   have e:(match((l.drop (j+1)).findIdx? p).map (·+1)with|some i=>yes (j+i)|none=>no)=(match(l.drop (j+1)).findIdx? p with|some i=>yes (j+1+i)|none=>no):=by
    cases(l.drop (j+1)).findIdx? p with
    |none=>rfl
    |some i=>show yes (j+(i+1))=yes (j+1+i);congr 1;omega
   rw[e]
   refine .step ?_ ih
   rw[hb j hj,if_neg hp,aS (by omega) (by omega)];rfl
theorem JE{α O:Type}(l:List α)(p:α→Bool)(hl:l.length≤1000000){body:Int→Option (Int⊕O)}(yes:Nat→O)(no:O)(hb:∀(k:Nat)(h:k<l.length),body (k:Int)=some (if p l[k]=true then .inr (yes k)else .inl (bz ((k:Int)+1))))(he:body (l.length:Int)=some (.inr no)):
 iter body 0=some (match l.findIdx? p with|some i=>yes i|none=>no):=by
 have h:=(JF l p hl yes no hb he l.length 0 (by omega)).iter (by omega)
 rw[List.drop_zero]at h
 refine h.trans ?_
 cases l.findIdx? p with
 |none=>rfl
 |some i=>show some (yes (0+i))=some (yes i);rw[Nat.zero_add]
theorem Ub(row:List Int)(n:Int)(hl:row.length≤1000000):ik row n=some (jv row n):=by
 unfold ik jv
 cases hc:(decide (n≥1))&&(decide (n≤4096))with
 |false=>
  refine gQ (z:=.inl ()) (eV (z:=.inl ()) (eA row.length (by omega) (fun k hk=>?_) (bP (by simp) rfl)) rfl) rfl
  refine cC (by simp;omega) (bc (by omega) (bP ?_ rfl))
  rw[Bool.and_assoc,hc,Bool.and_false];decide
 |true=>
  have h:=JE (O:=Unit⊕Int) (body:=fun(k2:Int)=>
   if decide (k2<(row.length:Int))then
    aK (0≤k2∧k2<row.length)<|
    if(((ix row k2)==n)&&(decide (n≥1)))&&(decide (n≤4096))then
     some (.inr (.inr (bz (k2+1))))
    else
     some (.inl (bz (k2+1)))
   else
    some (.inr (.inl ()))) row (fun x=>x==n) hl (fun k=>.inr ((k+1:Nat):Int)) (.inl ()) (fun k hk=>by
   have hx:ix row (k:Int)=row[k]:=hU hk
   refine cC (by simp;omega) (bc (by omega) ?_)
   rw[hx,Bool.and_assoc,hc,Bool.and_true]
   by_cases hp:(row[k]==n)=true
   ·rw[if_pos hp,if_pos hp,aS (by omega) (by omega)];rfl
   ·rw[if_neg hp,if_neg hp]) (bP (by simp) rfl)
  unfold nx
  cases hf:row.findIdx? (fun x=>x==n)with
  |none=>rw[hf]at h;exact gQ (z:=.inl ()) (eV (z:=.inl ()) h rfl) rfl
  |some i=>rw[hf]at h;exact gQ (z:=.inr ((i+1:Nat):Int)) (eV (z:=.inr ((i+1:Nat):Int)) h rfl) rfl
theorem ze(row:List Int)(hl:row.length≤1000000):∀(n:Nat)(v:aa)(fuel:Nat),W n v→n≤fuel→n≤1000→c8 fuel v row=some (wU (fun n=>nU (jv row n)) n v)
 |0,_,_,h,_,_=>h.elim
 |n+1,_,0,_,h,_=>by omega
 |n+1,v,fuel+1,h,hf,hn=>by
  have hL:=h.1
  rw[c8,wU]
  by_cases h8:(v.Kind==8)=true
  ·rw[if_pos h8,if_pos h8]
   refine cg (Ub row v.N hl) ?_
   unfold nU
   by_cases h0:(jv row v.N==0)=true
   ·rw[if_pos h0,if_pos h0]
   ·rw[if_neg h0,if_neg h0]
  ·rw[if_neg h8,if_neg h8]
   by_cases h6:((v.Kind==6)||(v.Kind==7))=true
   ·rw[if_pos h6,if_pos h6]
    refine Nz (a:=⟨v.Kind,v.N,v.S,v.L.map (wU (fun n=>nU (jv row n)) n)⟩) (Nz (a:=v.L.map (wU (fun n=>nU (jv row n)) n)) ?_ rfl) rfl
    refine uv v.L.length (fun k=>(v.L.take k).map (wU (fun n=>nU (jv row n)) n)) (by simp) (by omega) (fun k hk=>?_) ?_
    ·have hx:ix v.L (k:Int)=v.L[k]:=hU hk
     refine cC (by simp;omega) (bc (by omega) (cg (by rw[hx];exact ze row hl n v.L[k] fuel (h.2 _ (List.getElem_mem hk)) (by omega) (by omega)) (bc (by simp;unfold room;omega) ?_)))
     rw[List.take_succ_eq_append_getElem hk,List.map_append];rfl
    ·refine bP (by simp) ?_
     rw[List.take_length]
   ·rw[if_neg h6,if_neg h6]
    rfl
def L7(row:List Int):List Int:=(List.range 4096).map fun(i:Nat)=>nx row ((i:Int)+1)
theorem jc(row:List Int):(L7 row).length=4096:=by unfold L7;rw[List.length_map,List.length_range]
theorem Cd(row:List Int){i:Nat}(h:i<4096):(L7 row)[i]'(by rw[jc];exact h)=nx row ((i:Int)+1):=by
 unfold L7
 rw[List.getElem_map,List.getElem_range]
theorem Qh(row:List Int){n:Int}(h1:1≤n)(h2:n≤4096):ix (L7 row) (n -1)=nx row n:=by
 obtain⟨i,rfl⟩:∃i:Nat,n=(i:Int)+1:=⟨(n -1).toNat,by omega⟩
 rw[show(i:Int)+1 -1=(i:Int) by omega,hU (by rw[jc];omega)]
 exact Cd row (by omega)
theorem CA(row:List Int)(a n:Int):nx (row++[a]) n=if nx row n=0 then(if a=n then((row.length+1:Nat):Int)else 0)else nx row n:=by
 unfold nx
 rw[List.findIdx?_append]
 cases hf:row.findIdx? (fun x=>x==n)with
 |some i=>
  have:¬((i+1:Nat):Int)=0:=by omega
  simp only[Option.some_or,if_neg this]
 |none=>
  simp only[Option.none_or,if_true]
  by_cases h:a=n
  ·subst h;simp[List.findIdx?_cons]
  ·have:(a==n)=false:=by simpa using h
   simp[List.findIdx?_cons,this,h]
theorem aam(row:List Int)(hl:row.length≤1000000):toM row=some (L7 row):=by
 unfold toM
 have h0:L7 (row.take 0)=List.replicate 4096 0:=by
  refine List.ext_getElem (by rw[jc,List.length_replicate]) fun i h1 h2=>?_
  rw[Cd _ (by rw[jc]at h1;exact h1),List.getElem_replicate];rfl
 refine uv row.length (fun k=>L7 (row.take k)) h0 (by omega) (fun k hk=>?_) ?_
 ·have hx:ix row (k:Int)=row[k]:=hU hk
  have hs:row.take (k+1)=row.take k++[row[k]]:=List.take_succ_eq_append_getElem hk
  have hlen:(row.take k).length=k:=by rw[List.length_take];omega
  show toB row (L7 (row.take k),(k:Int))=some (.inl (L7 (row.take (k+1)),bz ((k:Int)+1)))
  unfold toB
  rw[show(decide (((L7 (row.take k),(k:Int)):List Int×Int).2<(row.length:Int)))=true by simp;omega,cond_true]
  refine bc (by show 0≤(k:Int)∧(k:Int)<2^61;omega) ?_
  show some (Sum.inl ((bif decide (ix row (k:Int)≥1)&&decide (ix row (k:Int)≤4096)&&(ix (L7 (row.take k)) (ix row (k:Int) -1)==0)then(L7 (row.take k)).set (ix row (k:Int) -1).toNat ((k:Int)+1)else L7 (row.take k)),(k:Int)+1))=_
  rw[aS (by omega) (by omega),hx]
  congr 3
  cases hc:decide (row[k]≥1)&&decide (row[k]≤4096)&&(ix (L7 (row.take k)) (row[k] -1)==0)with
  |true=>
   simp only[Bool.and_eq_true,decide_eq_true_eq,beq_iff_eq]at hc
   obtain⟨⟨c1,c2⟩,c3⟩:=hc
   rw[Qh _ c1 c2]at c3
   rw[cond_true]
   refine List.ext_getElem (by rw[List.length_set,jc,jc]) fun i h1 h2=>?_
   have hi:i<4096:=by rw[jc]at h2;exact h2
   rw[List.getElem_set,Cd _ hi,Cd _ hi,hs,CA,hlen]
   by_cases e:(row[k] -1).toNat=i
   ·rw[if_pos e]
    have e2:row[k]=(i:Int)+1:=by omega
    rw[←e2,if_pos c3,if_pos rfl];omega
   ·rw[if_neg e]
    have e2:¬row[k]=(i:Int)+1:=by omega
    rw[if_neg e2]
    split
    ·assumption
    ·rfl
  |false=>
   rw[cond_false]
   refine List.ext_getElem (by rw[jc,jc]) fun i h1 h2=>?_
   have hi:i<4096:=by rw[jc]at h2;exact h2
   rw[Cd _ hi,Cd _ hi,hs,CA,hlen]
   by_cases e:row[k]=(i:Int)+1
   ·have hz:¬nx (row.take k) ((i:Int)+1)=0:=fun hz=>by
     rw[e,Qh _ (by omega) (by omega),hz]at hc
     simp at hc
     omega
    rw[if_neg hz]
   ·rw[if_neg e]
    split
    ·assumption
    ·rfl
 ·show toB row (L7 (row.take row.length),(row.length:Int))=_
  unfold toB
  rw[show(decide (((L7 (row.take row.length),(row.length:Int)):List Int×Int).2<(row.length:Int)))=false by simp,cond_false,List.take_length]
theorem Cf(row:List Int):∀(n:Nat)(v:aa)(fuel:Nat),W n v→n≤fuel→n≤1000→fX fuel v (L7 row)=some (wU (fun n=>nU (jv row n)) n v)
 |0,_,_,h,_,_=>h.elim
 |n+1,_,0,_,h,_=>by omega
 |n+1,v,fuel+1,h,hf,hn=>by
  have hL:=h.1
  rw[fX,wU]
  cases h8:(v.Kind==8)with
  |true=>
   rw[cond_true,if_pos rfl]
   unfold nU jv
   cases hc:decide (v.N<1)||decide (v.N>((L7 row).length:Int))with
   |true=>
    rw[cond_true]
    rw[jc]at hc
    have:((decide (v.N≥1))&&(decide (v.N≤4096)))=false:=by
     simp only[Bool.or_eq_true,decide_eq_true_eq]at hc
     rw[Bool.and_eq_false_iff,decide_eq_false_iff_not,decide_eq_false_iff_not];omega
    rw[this];rfl
   |false=>
    rw[cond_false]
    rw[jc]at hc⊢
    simp only[Bool.or_eq_false_iff,decide_eq_false_iff_not]at hc
    have:((decide (v.N≥1))&&(decide (v.N≤4096)))=true:=by simp;omega
    rw[this,if_pos rfl,Qh row (by omega) (by omega)]
    refine bc (by omega) ?_
    cases h0:(nx row v.N==0)with
    |true=>rfl
    |false=>rfl
  |false=>
   rw[cond_false,if_neg (by decide)]
   cases h6:((v.Kind==6)||(v.Kind==7))with
   |false=>rfl
   |true=>
    rw[cond_true,if_pos rfl]
    refine bc (by unfold room;omega) (cg (a:=v.L.map (wU (fun n=>nU (jv row n)) n)) ?_ rfl)
    refine qg v.L.length (fun k=>((v.L.take k).map (wU (fun n=>nU (jv row n)) n)++List.replicate (v.L.length -k) zV,(k:Int))) (by simp) (by omega) (fun k hk=>?_) ?_
    ·have hx:ix v.L (k:Int)=v.L[k]:=hU hk
     have hlt:(v.L.take k).length=k:=by rw[List.length_take];omega
     have hlen:((v.L.take k).map (wU (fun n=>nU (jv row n)) n)++List.replicate (v.L.length -k) zV).length=v.L.length:=by rw[List.length_append,List.length_map,hlt,List.length_replicate];omega
     unfold Ow
     rw[show decide ((((v.L.take k).map (wU (fun n=>nU (jv row n)) n)++List.replicate (v.L.length -k) zV,(k:Int)):List aa×Int).2<(v.L.length:Int))=true by simp;omega,cond_true]
     dsimp only
     refine bc (by rw[hlen];omega) (cg (by rw[hx];exact Cf row n v.L[k] fuel (h.2 _ (List.getElem_mem hk)) (by omega) (by omega)) ?_)
     congr 3
     rw[List.take_succ_eq_append_getElem hk,List.map_append]
     rw[List.set_append_right _ _ (by rw[List.length_map,hlt];simp)]
     rw[List.length_map,hlt,show((k:Int)).toNat -k=0 by simp,show v.L.length -k=(v.L.length -(k+1))+1 by omega,List.replicate_succ]
     simp
    ·unfold Ow
     rw[show decide ((((v.L.take v.L.length).map (wU (fun n=>nU (jv row n)) n)++List.replicate (v.L.length -v.L.length) zV,(v.L.length:Int)):List aa×Int).2<(v.L.length:Int))=false by simp,cond_false]
     simp
end Go.AB
end
section
set_option linter.unusedSimpArgs false
set_option maxRecDepth 20000
namespace Go.AB
open Go
noncomputable def wj{α:Type}(a b:α):Bool:=@decide (a=b) (Classical.propDecidable _)
theorem j5{α:Type}{a b:α}:wj a b=true↔a=b:=by unfold wj;simp
theorem EM{α:Type}(a:α):wj a a=true:=j5.2 rfl
theorem YV{α:Type}{a b:α}{x:Bool}(h:x=true↔a=b):x=wj a b:=by rw[Bool.eq_iff_iff,j5];exact h
theorem Yq(a b:aa)(h:W 302 a):gA a b=some (wj a b)∧gv a b=some (wj a b):=by
 obtain⟨x,e1,e2,e3⟩:=Wu a b h
 rw[←YV e3];exact⟨e1,e2⟩
theorem ZB(a b:ag):a=b↔a.V=b.V∧a.Stream=b.Stream∧a.Data.b=b.Data.b:=by
 obtain⟨v,s,⟨d⟩⟩:=a
 obtain⟨v',s',⟨d'⟩⟩:=b
 constructor
 ·intro h;cases h;exact⟨rfl,rfl,rfl⟩
 ·rintro⟨rfl,rfl,h⟩;cases h;rfl
theorem XW(a b:ag)(h:W 302 a.V):jj a b=some (wj a b)∧jA a b=some (wj a b):=by
 obtain⟨e1,e2⟩:=Yq a.V b.V h
 have key:(wj a.V b.V&&(a.Stream==b.Stream)&&(a.Data.b==b.Data.b))=wj a b:=by rw[Bool.eq_iff_iff,j5,ZB,Bool.and_eq_true,Bool.and_eq_true,j5,beq_iff_eq,beq_iff_eq,and_assoc]
 rw[←key]
 unfold jj jA
 rw[e1,e2]
 generalize wj a.V b.V=x
 cases x<;>cases(a.Stream==b.Stream)<;>cases(a.Data.b==b.Data.b)<;>exact⟨rfl,rfl⟩
theorem aat{α:Type}{a b:List α}(hl:a.length=b.length):a=b↔(a.zip b).findIdx? (fun p=>!wj p.1 p.2)=none:=by
 rw[List.findIdx?_eq_none_iff]
 constructor
 ·rintro rfl p hp
  obtain⟨i,hi,rfl⟩:=List.getElem_of_mem hp
  rw[List.getElem_zip,EM];rfl
 ·intro h
  refine List.ext_getElem hl fun i h1 h2=>?_
  have:=h (a[i],b[i]) (List.getElem_mem (l:=a.zip b) (n:=i) (by rw[List.length_zip];omega)|>fun m=>by rwa[List.getElem_zip]at m)
  exact j5.1 (by simpa using this)
theorem ac1(a b:List ag)(h:∀o∈a,W 302 o.V)(hl:a.length≤1000000):au a b=some (wj a b)∧jB a b=some (wj a b):=by
 unfold au jB
 by_cases hn:a.length=b.length
 ·have hz:(a.zip b).length=a.length:=by rw[List.length_zip];omega
  have hc:¬(((a.length:Int)!=(b.length:Int))=true):=by rw[hn];simp
  rw[if_neg hc,if_neg hc]
  have run:∀{body:Int→Option (Int⊕(Unit⊕Bool))},(∀(k:Nat)(hk:k<a.length),body (k:Int)=some (if(!wj a[k] (b[k]'(by omega)))=true then .inr (.inr false)else .inl (bz ((k:Int)+1))))→body (a.length:Int)=some (.inr (.inl ()))→
   iter body 0=some (if wj a b=true then .inl ()else .inr false):=fun{body} hb he=>by
   have r:=JE (O:=Unit⊕Bool) (a.zip b) (fun p=>!wj p.1 p.2) (by omega) (body:=body) (fun _=>.inr false) (.inl ()) (fun k hk=>by
    rw[hb k (by omega)]
    simp only[List.getElem_zip]) (by rw[hz];exact he)
   rw[r]
   have e:=aat hn
   cases hf:(a.zip b).findIdx? (fun p=>!wj p.1 p.2)with
   |none=>rw[if_pos (j5.2 (e.2 hf))]
   |some i=>rw[if_neg fun hh=>by rw[e.1 (j5.1 hh)]at hf;cases hf]
  have fin:∀{it:Option (Unit⊕Bool)},it=some (if wj a b=true then .inl ()else .inr false)→Hg (mO it (fun(_:Unit)=>some (.inl ())) (fun(t3:Bool)=>some (.inr t3))) (fun(_:Unit)=>some true) (fun(t1:Bool)=>some t1)=some (wj a b):=fun{it} hh=>by
   rw[hh]
   cases wj a b<;>rfl
  have hstep:∀{k:Nat}(hk:k<a.length){o:Option Bool},o=some (wj a[k] (b[k]'(by omega)))→(aP o fun r4=>if(!r4)=true then some (.inr (.inr false))else some (.inl (bz ((k:Int)+1))))=(some (if(!wj a[k] (b[k]'(by omega)))=true then .inr (.inr false)else .inl (bz ((k:Int)+1))):Option (Int⊕(Unit⊕Bool))):=fun{k} hk{o} ho=>by
   rw[ho,dt]
   cases wj a[k] (b[k]'(by omega))<;>rfl
  refine⟨fin (run (fun k hk=>?_) (bP (by simp) rfl)),fin (run (fun k hk=>?_) (bP (by simp) rfl))⟩
  ·refine cC (by simp;omega) (bc (by omega) (bc (by omega) (hstep hk ?_)))
   rw[hU hk,hU (l:=b) (by omega)]
   exact(XW _ _ (h _ (List.getElem_mem hk))).1
  ·refine cC (by simp;omega) (bc (by omega) (bc (by omega) (hstep hk ?_)))
   rw[hU hk,hU (l:=b) (by omega)]
   exact(XW _ _ (h _ (List.getElem_mem hk))).2
 ·have e:wj a b=false:=by
   rw[←Bool.not_eq_true,j5]
   intro h;exact hn (by rw[h])
  rw[e]
  have hc:((a.length:Int)!=(b.length:Int))=true:=by simp;omega
  exact⟨cC hc rfl,cC hc rfl⟩
def WP(a:bF):Prop:=(∀o∈a.an,W 302 o.V)∧W 302 a.ar∧a.an.length≤1000000
theorem Q2(a b:bF)(h:WP a):fS a b=some (wj a b)∧gx a b=some (wj a b):=by
 obtain⟨e1,e2⟩:=ac1 a.an b.an h.1 h.2.2
 obtain⟨e3,e4⟩:=Yq a.ar b.ar h.2.1
 have key:(wj a.an b.an&&wj a.ar b.ar)=wj a b:=by
  rw[Bool.eq_iff_iff,Bool.and_eq_true,j5,j5,j5]
  obtain⟨l,g⟩:=a
  obtain⟨l',g'⟩:=b
  constructor
  ·rintro⟨h1,h2⟩;cases h1;cases h2;rfl
  ·intro h;cases h;exact⟨rfl,rfl⟩
 rw[←key]
 refine⟨cg e1 ?_,cg e2 ?_⟩
 ·rw[e3];generalize wj a.an b.an=x;generalize wj a.ar b.ar=y;cases x<;>rfl
 ·rw[e4];generalize wj a.an b.an=x;generalize wj a.ar b.ar=y;cases x<;>rfl
def D9:aA:=⟨[80,97,114,101,110,116]⟩
def tB(v:aa):aa:=(eU v D9).getD zeroV
theorem tC{v:aa}(h:Eg v):eU v D9=some (tB v)∧jy v D9=some (tB v)∧Eg (tB v):=by
 obtain⟨v',d1,d2,d3⟩:=drop_eq h D9
 have e:tB v=v':=by unfold tB;rw[d1];rfl
 rw[e];exact⟨d1,d2,d3⟩
def adJ(row:List Int)(k:Nat)(o:ag):ag:=⟨Ox row (if k=0 then tB o.V else o.V),o.Stream,o.Data⟩
def B3(row:List Int)(l:List ag)(n:Nat):List ag:=(List.range n).map fun k=>adJ row k (ix l (k:Int))
theorem Kh(row:List Int)(l:List ag)(n:Nat):B3 row l (n+1)=B3 row l n++[adJ row n (ix l (n:Int))]:=by unfold B3;rw[List.range_succ,List.map_append];rfl
theorem Gz(row:List Int)(l:List ag)(n:Nat):(B3 row l n).length=n:=by unfold B3;simp
def Q1(row:List Int)(l:List ag)(g:aa):bF:=⟨B3 row l l.length,Ox row g⟩
theorem Rg(row:List Int){v:aa}(h:W 302 v):W 302 (Ox row v):=FX _ (fun n=>Wp _) 302 v h
theorem V8(row:List Int){l:List ag}{g:aa}(ho:∀o∈l,Eg o.V)(hl:l.length≤100000)(hg:Eg g):WP (Q1 row l g):=by
 refine⟨fun o h=>?_,Rg row hg.1,by show(B3 row l l.length).length≤_;rw[Gz];omega⟩
 obtain⟨k,hk,rfl⟩:=List.mem_map.1 h
 have hk:=List.mem_range.1 hk
 have hx:ix l (k:Int)=l[k]:=hU hk
 refine Rg row ?_
 rw[hx]
 split
 ·exact(tC (ho _ (List.getElem_mem hk))).2.2.1
 ·exact(ho _ (List.getElem_mem hk)).1
theorem Ob(row:List Int){l:List ag}{g:aa}(hr:row.length≤1000000)(ho:∀o∈l,Eg o.V)(hl:l.length≤100000)(hg:Eg g):eL row l g=some (Q1 row l g)∧fR row l g=some (Q1 row l g):=by
 have big:302≤iB:=by decide
 constructor
 ·refine cg (aam row hr) (cg (Cf row 302 g iB hg.1 big (by decide)) (cg (a:=B3 row l l.length) ?_ rfl))
  refine qg l.length (fun k=>(B3 row l k,(k:Int))) rfl (by omega) (fun k hk=>?_) ?_
  ·have hx:ix l (k:Int)=l[k]:=hU hk
   have hf:=ho _ (List.getElem_mem hk)
   have hlen:=Gz row l k
   unfold Wr
   rw[show decide (((B3 row l k,(k:Int)):List ag×Int).2<(l.length:Int))=true by simp;omega,cond_true]
   dsimp only
   refine bc (by rw[hlen];unfold room;omega) ?_
   rw[Kh,hx]
   refine cg (a:=if k=0 then tB l[k].V else l[k].V) ?_ (cg (a:=Ox row (if k=0 then tB l[k].V else l[k].V)) (Cf row 302 _ iB ?_ big (by decide)) rfl)
   ·by_cases h0:k=0
    ·subst h0;exact(tC hf).1
    ·rw[if_neg h0,show(((k:Nat):Int)==0)=false by simp;omega];rfl
   ·split
    ·exact(tC hf).2.2.1
    ·exact hf.1
  ·unfold Wr
   rw[show decide (((B3 row l l.length,(l.length:Int)):List ag×Int).2<(l.length:Int))=false by simp,cond_false]
 ·refine Nz (a:=⟨B3 row l l.length,zeroV⟩) ?_ (cg (ze row hr 302 g iB hg.1 big (by decide)) rfl)
  refine uv l.length (fun k=>(⟨B3 row l k,zeroV⟩:bF)) rfl (by omega) (fun k hk=>?_) (bP (by simp) rfl)
  have hx:ix l (k:Int)=l[k]:=hU hk
  have hf:=ho _ (List.getElem_mem hk)
  have hlen:=Gz row l k
  refine cC (by simp;omega) (bc (by omega) (Nz (a:=⟨if k=0 then tB l[k].V else l[k].V,l[k].Stream,l[k].Data⟩) ?_ ?_))
  ·rw[hx]
   by_cases h0:k=0
   ·subst h0;exact cC rfl (cg (tC hf).2.1 rfl)
   ·rw[if_neg h0];exact bP (by simp;omega) rfl
  ·refine cg (a:=Ox row (if k=0 then tB l[k].V else l[k].V)) (ze row hr 302 _ iB ?_ big (by decide)) (bc (by dsimp only;rw[hlen];simp only[List.length_cons,List.length_nil];unfold room;omega) ?_)
   ·show W 302 (if k=0 then tB l[k].V else l[k].V)
    split
    ·exact(tC hf).2.2.1
    ·exact hf.1
   ·rw[Kh,hx];rfl
end Go.AB
end
section
set_option linter.unusedSimpArgs false
set_option maxRecDepth 20000
namespace Go.AB
open Go
end Go.AB
end
section
set_option linter.unusedSimpArgs false
namespace Go.AB
open Go
theorem uz(row:List Int)(l:List ag)(g:aa):gE row l g=some true:=by
 obtain⟨b,hb,hb2⟩:=VB l 40 (by decide)
 obtain⟨r,hr,hr2⟩:=acs g
 unfold gE
 have no:aP jG (fun r3=>some r3)=some true:=rfl
 rcases hc:decide ((row.length:Int)>60)with _|_
 ·rw[Bool.not_false,wI,hb,dt]
  cases b with
  |false=>exact cg (My rfl) (cC rfl no)
  |true=>
   rw[Bool.not_true,Bool.or_false,Bool.not_false,wI,hr,dt]
   by_cases h0:r<0
   ·exact cC (by rw[Bool.false_or];simpa using h0) no
   ·obtain⟨hl,ho⟩:=hb2 rfl
    have hg:=hr2 (by omega)
    have hrow:¬(row.length:Int)>60:=of_decide_eq_false hc
    have ho3:∀o∈l,Eg o.V:=fun o h=>(ho o h).wide
    obtain⟨v1,v2⟩:=Ob row (l:=l) (g:=g) (by omega) ho3 (by omega) hg.wide
    have w:=V8 row (l:=l) (g:=g) ho3 (by omega) hg.wide
    refine bP (by rw[Bool.false_or];simpa using h0) ?_
    rw[v1,v2]
    generalize Q1 row l g=pg at w
    rw[dt,dt,(Q2 pg pg w).2,EM,dt,wI,wI,(Q2 pg ⟨l,g⟩ w).1,(Q2 pg ⟨l,g⟩ w).2,dt,dt,beq_self_eq_true]
    show aP (fY true false (fS pg pg)) _=_
    rw[wI,(Q2 pg pg w).1,EM]
    rfl
 ·exact cg (My rfl) (cg (My rfl) (cC rfl no))
end Go.AB
end
section
namespace Go.AB
open Go Go.RowKit Go.ChangeShapes Go.WideShapes
def wL(N:Nat)(w:World)(b:Nat):Nat:=if b<w.heap.size then N else 0
theorem PE{P:Program}{w:World}{f:FuncId}{args:List AV}{vs:Array Value}(N:Nat)(hf:FN P f args wz fun rs _=>rs=[.bool true])(ha:kF w (wL N w) args vs):
 Calls P f vs w fun e w'=>e=.returned (.bool true)∧Below w.heap.size w w':=by
 refine(hf ⟨wL N w,fun _=>.none⟩ w vs ⟨fun _ _=>rfl,fun b hb=>?_⟩ (fun b=>.inl rfl) (fun b o h=>by cases h) ha).mono fun e w'⟨v,rs,s',G',he,hq,_,_,hr,hp⟩=>?_
 ·show wL N w b=0
  unfold wL
  rw[if_neg (by omega)]
 ·subst hq
  refine⟨?_,⟨hp.os,hp.tape,hp.output,hp.size,fun b hb=>hp.frame b hb (.inr rfl)⟩⟩
  rw[he]
  have:=VR.fq hr.1
  rw[this]
def Jt(w:World)(R:Nat→Nat)(as1:List AV)(cs:List Value):Prop:=cs.length=as1.length∧∀(j:Nat)(a:AV)(v:Value),as1[j]? =some a→cs[j]? =some v→VR w R a v
theorem Jt.one{w:World}{R:Nat→Nat}{a:AV}{v:Value}(h:VR w R a v):Jt w R [a] [v]:=by
 refine⟨rfl,fun j a' v' h1 h2=>?_⟩
 cases j with
 |zero=>cases h1;cases h2;exact h
 |succ j=>simp at h1
theorem Jt.append{w:World}{R:Nat→Nat}{as1 bs:List AV}{cs ds:List Value}(h:Jt w R as1 cs)(k:Jt w R bs ds):Jt w R (as1++bs) (cs++ds):=by
 refine⟨by rw[List.length_append,List.length_append,h.1,k.1],fun j a v h1 h2=>?_⟩
 rcases Nat.lt_or_ge j as1.length with hj|hj
 ·rw[List.getElem?_append_left hj]at h1
  rw[List.getElem?_append_left (by rw[h.1];exact hj)]at h2
  exact h.2 j a v h1 h2
 ·rw[List.getElem?_append_right hj]at h1
  rw[List.getElem?_append_right (by rw[h.1];exact hj),h.1]at h2
  exact k.2 _ a v h1 h2
def kX(P:Program)(t:TypeId){α:Type}(n:Nat)(C:α→List AV)(wf:α→Prop):Prop:=
 ∀(H:Type)(enc:TypeId×Value→H)(w:World)(fuel:Nat)(cs:List Value)(x:DataW H×List MemPlace),DataW.trod enc P w 0 (fun _=>true) true fuel t cs=some x→
  cs.length=n∧∃a:α,wf a∧Fl (C a)∧∃N0,∀N,N0≤N→Jt w (wL N w) (C a) cs
def Cp(P:Program)(t:TypeId)(α:Type)[aH α](wf:α→Prop):Prop:=kX P t (aH.w α) (aH.cells:α→List AV) wf
section
variable{P:Program}{t:TypeId}
theorem Bi{a:AV}(h:pR a=true):Fl [a]:=by
 intro c hc
 rw[List.mem_singleton]at hc;rw[hc];exact h
theorem PU(ht:P.underlying t=some .bool):Cp P t Bool fun _=>True:=by
 intro H enc w fuel cs x h
 obtain⟨b,rfl,_⟩:=DataW.trod_bool ht h
 exact⟨rfl,b,trivial,Bi rfl,0,fun N _=>Jt.one (.bool b)⟩
theorem BN(ht:P.underlying t=some (.int .i64)):Cp P t Int fun n=>-9223372036854775808≤n∧n≤9223372036854775807:=by
 intro H enc w fuel cs x h
 obtain⟨n,rfl,_,hw⟩:=DataW.trod_int ht h
 refine⟨rfl,n,?_,Bi rfl,0,fun N _=>Jt.one (.int _ n)⟩
 simpa[Lit.wf,IntKind.min,IntKind.max,IntKind.signed,IntKind.bits]using hw
theorem Kc(ht:P.underlying t=some .string):Cp P t aA fun s=>s.b.length≤maxLen:=by
 intro H enc w fuel cs x h
 obtain⟨s,rfl,_,hs⟩:=DataW.trod_string ht h
 refine⟨rfl,⟨s.data.toList⟩,by simpa using hs,Bi rfl,0,fun N _=>?_⟩
 have:=VR.str (w:=w) (R:=wL N w) s.data.toList
 exact Jt.one this
theorem Cu{α:Type}{Q:Nat→α→Prop}:∀n:Nat,(∀i,i<n→∃a,Q i a)→∃l:List α,l.length=n∧∀(i:Nat)(a:α),l[i]? =some a→Q i a
 |0,_=>⟨[],rfl,fun i a h=>by simp at h⟩
 |n+1,h=>by
  obtain⟨l,h1,h2⟩:=Cu n fun i hi=>h i (by omega)
  obtain⟨a,ha⟩:=h n (by omega)
  refine⟨l++[a],by simp[h1],fun i x hx=>?_⟩
  rcases Nat.lt_or_ge i n with hi|hi
  ·rw[List.getElem?_append_left (by omega)]at hx;exact h2 i x hx
  ·rw[List.getElem?_append_right (by omega)]at hx
   have:i=n:=by
    have:=(List.getElem?_eq_some_iff.1 hx).1
    simp at this;omega
   subst this
   rw[h1,Nat.sub_self]at hx
   injection hx with hx;rw[←hx];exact ha
theorem common{Q:Nat→Nat→Prop}:∀n:Nat,(∀i,i<n→∃N0,∀N,N0≤N→Q i N)→∃N0,∀N,N0≤N→∀i,i<n→Q i N
 |0,_=>⟨0,fun _ _ i h=>absurd h (Nat.not_lt_zero i)⟩
 |n+1,h=>by
  obtain⟨a,ha⟩:=common n fun i hi=>h i (by omega)
  obtain⟨b,hb⟩:=h n (by omega)
  refine⟨max a b,fun N hN i hi=>?_⟩
  rcases Nat.lt_or_ge i n with h1|h1
  ·exact ha N (by omega) i h1
  ·have:i=n:=by omega
   rw[this];exact hb N (by omega)
theorem TA{α:Type}[aH α](l:List α){i r:Nat}{a:α}(hi:l[i]? =some a)(hr:r<aH.w α):(flat l)[i*aH.w α+r]? =(aH.cells a)[r]? :=by
 have h1:=j6 l (aH.w α) i 1 rfl
 obtain⟨hlt,he⟩:=List.getElem?_eq_some_iff.1 hi
 have h2:(l.drop i).take 1=[a]:=by rw[List.drop_eq_getElem_cons hlt,he];rfl
 rw[h2,k9,pS,List.append_nil,Nat.one_mul]at h1
 rw[←h1]
 unfold AB.sub
 rw[List.getElem?_take,if_pos hr,List.getElem?_drop]
end
end Go.AB
end
section
namespace Go.AB
open Go Go.RowKit Go.ChangeShapes Go.WideShapes
section
variable{P:Program}
theorem yj{H:Type}{enc:TypeId×Value→H}(hl:laidOutB P=true){W W':World}(hb:Below W.heap.size W W'):
 ∀{ts:List TypeId}{vs:List Value}{ds:List (DataW H)}{ps:List MemPlace},(∀t∈ts,P.readableRec t=true∧t<P.types.size)→DataW.TrodAll enc P W 0 (fun _=>true) true ts vs ds ps→
  DataW.TrodAll enc P W' 0 (fun b=>decide (b<W.heap.size)) true ts vs ds ps
 |[],[],[],_,_,h=>h
 |t::ts,v::vs,d::ds,_,hr,h=>by
  have hlt:=h.lt
  obtain⟨p,q,h1,h2,rfl⟩:=h
  have ht:=hr t List.mem_cons_self
  exact⟨p,q,Below.trod hl ht.1 ht.2 h1 hb fun x hx=>hlt x (List.mem_append_left _ hx),yj hl hb (fun t ht=>hr t (List.mem_cons_of_mem _ ht)) h2,rfl⟩
 |[],_::_,_,_,_,h=>h.elim
 |[],[],_::_,_,_,h=>h.elim
 |_::_,[],_,_,_,h=>h.elim
 |_::_,_::_,[],_,_,h=>h.elim
theorem TQ{H:Type}{enc:TypeId×Value→H}{fn:Func}{s:ChangeSpec}{f:FuncId}{W:World}{args:Array Value}{ds gs:List (DataW H)}{before:List MemPlace}{tb:TypeId}
 (hvars:s.vars=[])(hres:fn.resultTypes= #[tb])(htb:P.underlying tb=some .bool)(hl:laidOutB P=true)(hr:∀t∈fn.params.toList,P.readableRec t=true∧t<P.types.size)
 (hspec:∀ds:List (DataW H),ds.length=fn.params.toList.length→s.fn H ds={results:=[.lit (.bool true)],args:=ds})
 (hW:DataW.Whole enc P fn.params.toList s.vars false W args.toList ds gs before)
 (hc:Calls P f args W fun e w'=>e=.returned (.bool true)∧Below W.heap.size W w'):
 Calls P f args W fun e W'=>∃v,e=.returned v∧s.post enc P fn false true false false W args v W':=by
 refine hc.mono fun e W'⟨he,hb⟩=>⟨.bool true,he,?_⟩
 have hW':=hW
 obtain⟨p,q,hA,hV,rfl,hfz,hnd⟩:=hW
 rw[hvars]at hV
 obtain⟨rfl,rfl⟩:=trodVars_none hV
 have hs:=hspec ds (trodAll_length hA).2
 refine⟨ds,[],_,[],p,[],hW',?_,?_,?_,?_,fun h=>by cases h⟩
 ·rw[List.append_nil,hs,hres]
  exact trodAll_mk1 (shut_bool htb true)
 ·rw[List.append_nil,hs]
  exact yj hl hb hr hA
 ·rw[List.append_nil,hs,hvars]
  exact rfl
 ·exact World.keptBut_mono (fun p hp=>hp.elim) (hb.frame fun _=>False)
def Eh(P:Program)(fs:List (TypeId×Nat))(o:Nat){α:Type}(n:Nat)(C:α→List AV)(wf:α→Prop):Prop:=
 ∀(H:Type)(enc:TypeId×Value→H)(w:World)(fuel:Nat)(cs:List Value),(∀f∈fs,∃x,DataW.trod enc P w 0 (fun _=>true) true fuel f.1 ((cs.drop f.2).take (P.cellsOf f.1))=some x)→
  ∃a:α,wf a∧Fl (C a)∧∃N0,∀N,N0≤N→Jt w (wL N w) (C a) ((cs.drop o).take n)
theorem PT{o:Nat}:Eh P [] o 0 (fun _:Unit=>[]) fun _=>True:=fun _ _ _ _ _ _=>⟨(),trivial,(fun _ h=>absurd h List.not_mem_nil),0,fun _ _=>⟨by simp,fun j a v h=>by simp at h⟩⟩
theorem uL{t:TypeId}{o n1 n2:Nat}{fs:List (TypeId×Nat)}{α β:Type}{C1:α→List AV}{C2:β→List AV}{wf1:α→Prop}{wf2:β→Prop}
 (h1:kX P t n1 C1 wf1)(hc:P.cellsOf t=n1)(h2:Eh P fs (o+n1) n2 C2 wf2):Eh P ((t,o)::fs) o (n1+n2) (fun p:α×β=>C1 p.1++C2 p.2) fun p=>wf1 p.1∧wf2 p.2:=by
 intro H enc w fuel cs h
 obtain⟨x,hx⟩:=h _ List.mem_cons_self
 obtain⟨_,a,ha,hfa,N1,hN1⟩:=h1 H enc w fuel _ x hx
 obtain⟨b,hb,hfb,N2,hN2⟩:=h2 H enc w fuel cs fun f hf=>h f (List.mem_cons_of_mem _ hf)
 refine⟨(a,b),⟨ha,hb⟩,fun c hc=>(List.mem_append.1 hc).elim (hfa c) (hfb c),max N1 N2,fun N hN=>?_⟩
 rw[List.take_add,List.drop_drop]
 refine Jt.append ?_ (hN2 N (by omega))
 rw[←hc]
 exact hN1 N (by omega)
theorem kX.map{t:TypeId}{n:Nat}{α β:Type}{C:α→List AV}{wf:α→Prop}(h:kX P t n C wf){C':β→List AV}{wf':β→Prop}(g:α→β)(hC:∀a,C' (g a)=C a)(hw:∀a,wf a→wf' (g a)):kX P t n C' wf':=by
 intro H enc w fuel cs x hx
 obtain⟨h1,a,h2,h3,N0,h4⟩:=h H enc w fuel cs x hx
 exact⟨h1,g a,hw a h2,by rw[hC];exact h3,N0,by rw[hC];exact h4⟩
theorem LB{t:TypeId}{fs:Array Field}{n:Nat}{α:Type}{C:α→List AV}{wf:α→Prop}(ht:P.underlying t=some (.struct fs))(hn:P.cellsOf t=n)
 (hf:Eh P (fs.toList.map fun f=>(f.type,f.offset)) 0 n C wf):kX P t n C wf:=by
 intro H enc w fuel cs x h
 obtain⟨xs,m,_,_,hl,hxl,hel⟩:=DataW.trod_struct ht h
 obtain⟨a,ha,hfa,N0,hN⟩:=hf H enc w m cs fun f hf=>by
  obtain⟨g,hg,rfl⟩:=List.mem_map.1 hf
  obtain⟨i,hi⟩:=List.getElem?_of_mem hg
  have h1:=hel i g (by rw[←Array.getElem?_toList];exact hi)
  have hi':=(List.getElem?_eq_some_iff.1 hi).1
  rw[List.getElem?_eq_getElem (by simpa[hxl]using hi')]at h1
  exact⟨_,h1⟩
 refine⟨by rw[hl,hn],a,ha,hfa,N0,fun N h=>?_⟩
 have:=hN N h
 rwa[List.drop_zero,List.take_of_length_le (by omega)]at this
section
variable{H:Type}{enc:TypeId×Value→H}{w:World}{t:TypeId}{α:Type}[aH α]{wf:α→Prop}{b0:Nat}{v:Value}{d:DataW H}{ps:List MemPlace}
theorem T0(hs:(∃fs,P.underlying t=some (.struct fs))∨∃n e,P.underlying t=some (.array n e))(he:Cp P t α wf)(hval:Value.okWide P w .any b0 t v)(h:DataW.Trod enc P w 0 (fun _=>true) true t v d ps):
 ∃a:α,wf a∧∃N0,∀N,N0≤N→VR w (wL N w) (.agg (aH.cells a)) v:=by
 have hv:∃cs,v=.agg cs:=by
  unfold Value.okWide at hval
  rcases hs with⟨fs,hs⟩|⟨n,e,hs⟩<;>rw[hs]at hval<;>obtain⟨cs,rfl,_⟩:=hval<;>exact⟨cs,rfl⟩
 obtain⟨cs,rfl⟩:=hv
 obtain⟨fuel,hf⟩:=h
 obtain⟨_,a,ha,hfl,N0,hN⟩:=he H enc w fuel _ _ hf
 refine⟨a,ha,N0,fun N h=>?_⟩
 have h1:=hN N h
 exact .agg _ _ hfl (by simpa[Value.cells]using h1.1) fun j c v h2 h3=>h1.2 j c v h2 (by simpa[Value.cells]using h3)
theorem Jt.head{R:Nat→Nat}{a:AV}(h:Jt w R [a] [v]):VR w R a v:=h.2 0 a v rfl rfl
end
theorem ab2{w:World}{R:Nat→Nat}{a0 a1 a2:AV}{v0 v1 v2:Value}(h0:VR w R a0 v0)(h1:VR w R a1 v1)(h2:VR w R a2 v2):kF w R [a0,a1,a2] #[v0,v1,v2]:=⟨rfl,fun j a v k1 k2=>by match j,k1,k2 with|0,k1,k2=>(cases k1;cases k2;exact h0)|1,k1,k2=>(cases k1;cases k2;exact h1)|2,k1,k2=>(cases k1;cases k2;exact h2)⟩
end
end Go.AB
end
section
namespace Go.AB
open Go
def nf(P:Program)(t:TypeId)(L:List (TypeId×Nat)):Bool:=match P.underlying t with
 |some (.struct fs)=>fs.toList.map (fun f=>(f.type,f.offset))==L
 |_=>false
theorem Lz{P:Program}{t:TypeId}{L:List (TypeId×Nat)}{n:Nat}{α:Type}{C:α→List AV}{wf:α→Prop}(hs:nf P t L=true)(hn:P.cellsOf t=n)(hf:Eh P L 0 n C wf):kX P t n C wf:=by
 unfold nf at hs
 split at hs
 ·rename_i fs ht
  have he:=eq_of_beq hs
  exact LB ht hn (by rw[he];exact hf)
 ·cases hs
end Go.AB
end
