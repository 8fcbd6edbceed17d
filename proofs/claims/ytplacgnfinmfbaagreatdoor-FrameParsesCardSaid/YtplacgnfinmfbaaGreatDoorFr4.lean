/- A part. -/
import Derived.Test.YtplacgnfinmfbaaGreatDoorFr3
import Derived.Lib.Builder
import Derived.Tactics
import Derived.Scope
import Derived.LoopN
import Derived.ScopeJumps
set_option linter.defProp false
set_option linter.unusedSimpArgs false
set_option linter.unusedVariables false
section
namespace Go.AB
open Go
section
variable{P:Program}{G G':Gh}{n:Nat}{D:List Deferred}{σ:St}{a:Act}{w w':World}
theorem Fw(cs:List AV)(k:Nat):setAt cs k []=cs:=by simp[setAt]
theorem ub{s:ae}{b:Nat}{o:SO}(h:s b=some o):s.set b o=s:=Ξ
def Fs{sz b off cap:Nat}{o:Option SO}(h:tT sz b off cap o):∃cs,o=some (.cells cs)/\off+cap*sz<=cs.length:=by
 unfold tT at h
 grind
def ui{e:TypeId}{z:List AV}(hz:oS P e z=true):∃v:Value,(∀w,(zeroValue e).run P w=.ok v w)/\(∃i,P.info? e=some i/\i.zero=some v/\i.size=z.length)/\∀(q:Nat),(Builtin.zeroCells v.cells q).toList.length=q*z.length/\(List.replicate q z).flatten.length=q*z.length/\
 (∀(j:Nat)(x:AV)(y:Value),(List.replicate q z).flatten[j]? =some x->(Builtin.zeroCells v.cells q).toList[j]? =some y->cR y x=true)/\Fl (List.replicate q z).flatten/\(∀y∈(Builtin.zeroCells v.cells q).toList,y.oneCell'=true):=by
 obtain⟨i,v,h1,h2,h3,h4,h5⟩:=uS hz
 refine⟨v,fun w=>by simp[zeroValue,typeInfo,h1,h2],⟨i,h1,h2,h3⟩,fun q=>?_⟩
 have e0:Builtin.zeroCells v.cells q=((List.replicate q v.cells.toList).flatten).toArray:=uh v.cells q
 rw[e0]
 have h4:=h4 default fun _=>0
 have hlz:v.cells.toList.length=z.length:=by simpa using h4.1
 have Kj:∀y∈v.cells.toList,y.oneCell'=true:=by
  intro y hy
  obtain⟨j,hj⟩:=List.mem_iff_getElem?.1 hy
  have hlt:j<z.length:=by rw[<-hlz];exact(List.getElem?_eq_some_iff.1 hj).1
  exact jm (h4.2.2 _ (List.getElem_mem hlt)) (h4.2.1 j _ y (List.getElem?_eq_getElem hlt) A_)
 have hlen:∀(α:Type)(l:List α),(List.replicate q l).flatten.length=q*l.length:=fun α l=>B_
 refine⟨A_,hlen _ z,?_,?_,?_⟩
 ·show∀(j:Nat)(x:AV)(y:Value),(List.replicate q z).flatten[j]? =some x->(List.replicate q v.cells.toList).flatten[j]? =some y->cR y x=true
  clear e0 hlen
  induction q with
  |zero=>grind
  |succ q ih=>grind
 ·intro x hx
  simp only[List.mem_flatten,List.mem_replicate]at hx
  obtain⟨l,⟨_,rfl⟩,hm⟩:=hx
  exact h4.2.2 x hm
 simp_all
theorem Ii(h:Inv G n D σ a w){op:Op}{ty:TypeId}{sz by':Nat}{z:List AV}{x y:IX}{d:Option Nat}{K:St->Prop}(hd:bN n d=true)(hc:aD P op ty (.pd sz by' z x y)=true)(hw:ki P (.pd sz by' z x y) d σ K):qW P G n D w a op ty d K:=by
 cases op<;>first|(simp[aD]at hc;done)|skip
 rename_i c
 simp only[aD]at hc
 split at hc<;>try(cases hc;done)
 rename_i u v t t' hb
 have hce:=rm hb
 subst hce
 simp only[Bool.and_eq_true]at hc
 obtain⟨⟨hu,hv⟩,hc⟩:=hc
 split at hc<;>try(cases hc;done)
 rename_i e ht
 have ht:=dq ht
 simp only[Bool.and_eq_true]at hc
 obtain⟨⟨⟨⟨⟨⟨hs,hby⟩,jR⟩,xz⟩,hzl⟩,hzi⟩,ht'⟩:=hc
 obtain⟨i,hi,qp⟩:=lE hs
 obtain⟨zv,_,⟨i1,hi1,hz,hz1⟩,Sn⟩:=ui hzi
 rw[hi]at hi1;injection hi1 with hi1;subst hi1
 have jR:=of_decide_eq_true jR
 have xz:=of_decide_eq_true xz
 have hby:i.bytes=by':=by
  unfold lS at hby
  rw[hi]at hby
  simpa using hby
 have ht2:(∃e',P.underlying t'=some (.slice e'))\/P.underlying t'=some .string:=by
  rcases Bool.or_eq_true .. ▸ht' with h|h
  ·grind [cZ,dq]
  ·grind [yz]
 have hw':eP sz by' z σ d K (σ.x x) (zu σ.s sz (σ.x y)):=hw
 have hbx:=XR.bn h hu
 generalize σ.x x=xv at hw' hbx
 cases hsv:zu σ.s sz (σ.x y)with
 |none=>grind [eP]
 |some md=>
 obtain⟨m,ds⟩:=md
 rw[hsv]at hw'
 obtain⟨news,Pf⟩:=KW (P:=P) h hv hsv
 have fN:=Pf.src
 unfold eP at hw'
 split at hw'<;>try(exact hw'.elim)
 rename_i b off k cap _ _ he0
 injection he0 with he0;injection he0 with e1 e2;subst e1;subst e2
 cases hol:oI σ.s sz b off k with
 |none=>rw[hol]at hw';exact hw'.elim
 |some olds=>
 rw[hol]at hw'
 obtain⟨WN,U3,Ck⟩:=hw'
 have hold:k=0/\olds=[]\/∃cs,σ.s b=some (.cells cs)/\off+k*sz<=cs.length/\olds=views (AB.sub cs off (k*sz)):=by
  unfold oI at hol
  by_cases hk:k=0
  ·grind
  ·rw[show(k==0)=false by grind]at hol
   cases hca:jA k sz off (σ.s b)with
   |none=>grind
   |some q=>grind [q1,q2,rn]
 by_cases dH:k+m<=cap
 ·rcases U3 dH with⟨rfl,hk⟩|⟨bP,hk⟩
  ·have vB:news=[]:=List.eq_nil_of_length_eq_zero Xa3
   subst vB
   intro pos after gd next Q hn
   refine bp (w':=w) (v:=a.eval u) ?_ (hn G _ _ _ (h.Qi hd rfl hbx rfl) (aR.refl G w) hk)
   rcases VR.dF hbx with e1|⟨rfl,rfl,e1⟩
   ·have cG:=jj (ty:=ty) (w:=w) ht ht2 hi qp fN (b:=b) (off:=off) (k:=k) (cap:=cap) dH (w':=w) rfl
    simp only[Nat.add_zero]at cG
    simp[execOp,resolve,invoke,builtin,e1,cG]
   ·have cG:=nV (ty:=ty) ht ht2 hi qp fN
    simp[execOp,resolve,invoke,builtin,e1,cG]
  ·obtain⟨cs,hsb,O7⟩:=Fs bP
   rw[hsb]at hk
   have hk':K ({σ with s:=σ.s.set b (.cells (setAt cs (off+k*sz) ds))}.put d (.arr b off (k+m) cap)):=hk
   obtain⟨_,_,c,et,hcb,hcr,hcf⟩:=h.store b _ hsb
   have hmul:off+k*sz+m*sz<=cs.length:=by
    rw[Nat.add_assoc,<-Nat.add_mul]
    exact Nat.le_trans (Nat.add_le_add_left (Nat.mul_le_mul_right _ dH) _) O7
   by_cases hm:m=0
   ·subst hm
    have vB:news=[]:=List.eq_nil_of_length_eq_zero Xa3
    have hds:ds=[]:=List.eq_nil_of_length_eq_zero Φ
    subst vB;subst hds
    rw[Fw,ub hsb,Nat.add_zero]at hk'
    intro pos after gd next Q hn
    refine bp (w':=w) (v:=a.eval u) ?_ (hn G _ _ _ (h.Qi hd rfl hbx rfl) (aR.refl G w) hk')
    rcases VR.dF hbx with e1|⟨rfl,rfl,e1⟩
    ·have cG:=jj (ty:=ty) (w:=w) ht ht2 hi qp fN (b:=b) (off:=off) (k:=k) (cap:=cap) dH (w':=w) rfl
     simp only[Nat.add_zero]at cG
     simp[execOp,resolve,invoke,builtin,e1,cG]
    ·have cG:=nV (ty:=ty) ht ht2 hi qp fN
     simp[execOp,resolve,invoke,builtin,e1,cG]
   ·have e1:=VR.xG hbx AT
    obtain⟨h2,hp2⟩:=h.Dj (off:=off+k*sz) (ds:=ds) (news:=news) hsb hcb (by rw[fN.len,fN.qA]) (by rw[fN.qA];exact hmul) fN.fl Pf.vw fN.mq
    have ags:off+k*sz+news.length<=c.size:=by rw[fN.len,hcr.1];exact hmul
    have dQ:=eU (P:=P) b (off+k*sz) et (0,0) news 0 c w hcb (fun j _ hj=>T_) A_ fN.one
    have cG:=jj (ty:=ty) (w:=w) ht ht2 hi qp fN (b:=b) (off:=off) (k:=k) (cap:=cap) dH (w':=w.setRow b (laid c (off+k*sz) news)) Xd2
    intro pos after gd next Q hn
    refine bp ?_ (hn G _ _ _ (h2.Qi hd rfl (.arr b off (k+m) cap) rfl) hp2 hk')
    simp[execOp,resolve,invoke,builtin,e1,cG]
 ·have hgr:cap<k+m:=AT
  obtain⟨bP,hk⟩:=Ck hgr
  have grow:∀(base:Option Addr)(us:List Value),a.eval u=.slice base k cap->us.length=k*sz->olds.length=k*sz->Fl olds->views olds=olds->
   (Builtin.firstCells sz k (.slice base k cap)).run P w.drew=.ok us.toArray w.drew->(∀(j:Nat)(c:AV)(u:Value),olds[j]? =some c->us[j]? =some u->VR w G.R c u)->
   qW P G n D w a (.call {callee:=.builtin .append,args:= #[u,v],argTypes:= #[t,t']}) ty d K:=by
   intro base us e1 hul Sk hof hov hfc tg
   have cG:=rZ (ty:=ty) ht ht2 hi hz qp fN hfc hgr A_ A_
   have hge:k+m<=grownCap w (k+m) cap e:=grownCap_ge w (k+m) cap e
   obtain⟨zz1,zz2,zz3,zz4,_⟩:=Sn (grownCap w (k+m) cap e -(k+m))
   obtain⟨G2,h3,h4⟩:=(h.drew).KA (t:=e) (c:=us.toArray++news.toArray++Builtin.zeroCells zv.cells (grownCap w (k+m) cap e -(k+m)))
    (cs:=olds++ds++(List.replicate (grownCap w (k+m) cap e -(k+m)) z).flatten) (d:=d) hd (.inr ⟨k+m,grownCap w (k+m) cap e,rfl,rfl⟩)
    (fun G' w' o hp=>by
      have hl1:=fN.len
      have hl2:=fN.qA
      refine⟨A_,fun j x y hx hy=>?_⟩
      have x8:∀(l:List AV)(q:Nat),views l=l->l[q]? =some x->ew G' w' (o j) x y:=by
       intro l q hvl hq
       rw[<-hvl,fG]at hq
       cases hz':l[q]? with
       |none=>grind
       |some x'=>grind [ew.view]
      by_cases hj1:j<olds.length
      ·rw[List.append_assoc,List.getElem?_append_left hj1]at hx
       rw[Array.append_assoc,Array.getElem?_append_left By]at hy
       exact⟨hp.vr h.drew.bF ((aR.drew G w).vr h.bF (tg j x y hx A_)),x8 _ _ hov hx⟩
      ·by_cases hj2:j<olds.length+ds.length
       ·rw[List.getElem?_append_left By,List.getElem?_append_right AT]at hx
        rw[Array.getElem?_append_left By,Array.getElem?_append_right By]at hy
        simp only[List.size_toArray,List.getElem?_toArray]at hy
        rw[hul,<-Sk]at hy
        exact⟨hp.vr h.drew.bF ((aR.drew G w).vr h.bF (fN.mq _ x y hx hy)),x8 _ _ Pf.vw hx⟩
       grind [List.getElem?_append_right,Array.getElem?_append_right,List.length_append,xi,BH])
    (fun c hc=>by
      rcases List.mem_append.1 hc with hc|hc
      ·rcases List.mem_append.1 hc with hc|hc
       ·exact hof c hc
       ·exact fN.fl c hc
      ·exact zz4 c hc)
   intro pos after gd next Q hn
   refine bp ?_ (hn G2 _ _ _ h3 ((aR.drew G w).trans h4) (hk _ _ (h.store.get_none h.bF) hge))
   simp[execOp,resolve,invoke,builtin,e1,cG]
  rcases VR.dF hbx with e1|⟨rfl,rfl,e1⟩
  ·rcases hold with⟨rfl,rfl⟩|⟨cs,hsb,hle,rfl⟩
   ·exact grow _ [] e1 B_ B_ Fl.nil rfl (run_firstCells_some w.drew sz 0 ⟨b,off,none⟩ 0 cap [] B_ (fun j v hj=>T_)) (fun j c u hc=>L_)
   ·have hat:=h.store.at hsb hle
    obtain⟨us,u1,u2,u3⟩:=hat.mq
    have hfl:Fl (views (AB.sub cs off (k*sz))):=Ω
    have hlen:(views (AB.sub cs off (k*sz))).length=k*sz:=by simp only[views,List.length_map];exact kP hle
    exact grow _ us e1 Xa5 hlen hfl (pO _) (run_firstCells_some w.drew sz k ⟨b,off,none⟩ k cap us Xa5 u2) u3
  ·rcases hold with⟨_,rfl⟩|⟨cs,hsb,hle,rfl⟩
   ·exact grow none [] e1 B_ B_ Fl.nil rfl h_ (fun j c u hc=>L_)
   ·have:views (AB.sub cs off (0*sz))=[]:=by simp[AB.sub,views]
    rw[this]at grow
    exact grow none [] e1 B_ B_ Fl.nil rfl h_ (fun j c u hc=>L_)
def Ej{t t' ty e:TypeId}{i:TypeInfo}{z:Value}{sz m:Nat}{k':IntKind}(ht:P.underlying t=some (.slice e))(ht':P.underlying t'=some (.int k'))(hi:P.info? e=some i)(hz:i.zero=some z)(hsz:i.size=sz)(ag8:0<sz){c:Int}(hc0:0<=c)(hm:c.toNat=m){base:Option Addr}{k cap:Nat}{olds:List Value}
 (hold:(Builtin.firstCells sz k (.slice base k cap)).run P w.drew=.ok olds.toArray w.drew)(bP:cap<k+m)(Ci:(k+m)*i.bytes<=room)(hb0:0<i.bytes):
 (Builtin.append_ #[t,t'] ty #[.slice base k cap,.int .i64 c]).run P w=.ok (.slice (some ⟨w.heap.size,0,none⟩) (k+m) (grownCap w (k+m) cap e))
   (w.drew.alloc (.cells (olds.toArray++Builtin.zeroCells z.cells m++Builtin.zeroCells z.cells (grownCap w (k+m) cap e -(k+m))) e)):=by
 subst hsz
 subst hm
 have h3:¬(k+c.toNat<=cap):=AT
 have h4:¬(281474976710656<Builtin.nextslicecap (k+c.toNat) cap*i.bytes):=by have:=growslice_fits bP Ci;omega
 have h5:k+c.toNat<=(k+c.toNat)*i.bytes:=Nat.le_mul_of_pos_right _ hb0
 have Sf:=Ci
 unfold room at Sf
 have hcb:c<=140737488355328:=AT
 have h6:¬((9223372036854775807:Int)<(k:Int)+(c.toNat:Int)):=AT
 have h6':¬((9223372036854775807:Int)<(k:Int)+c):=AT
 have aaA:¬((9223372036854775807:Int)<(k:Int)+max c 0):=AT
 have hw:IntKind.i64.wrap c=c:=zD hc0 AT
 have h7:¬(c<0):=AT
 have h8:¬((281474976710656:Int)<c*(i.bytes:Int)):=by
  have h9:c.toNat*i.bytes<=(k+c.toNat)*i.bytes:=Nat.mul_le_mul_right _ AT
  have h10:((c.toNat*i.bytes:Nat):Int)=c*(i.bytes:Int):=by rw[Int.natCast_mul,Int.toNat_of_nonneg hc0]
  omega
 by_cases hc1:c.toNat=0
 ·have:Builtin.zeroCells z.cells c.toNat= #[]:=by rw[hc1];simp[Builtin.zeroCells]
  have hm0:c.toNat*i.size=0:=by rw[hc1,Nat.zero_mul]
  simp[Builtin.append_,run_underlying ht,run_underlying ht',sizeOf,typeInfo,zeroValue,hi,hz,asInt,asIntOf,hw,h7,h8,h3,h4,h6,h6',aaA,hm0,Question.forced,hold,newRow,grownCap,this]<;>
   (congr 2;apply Array.ext';simp[List.append_assoc])
 ·have hm0:¬(c.toNat*i.size=0):=by
   intro e
   rcases Nat.mul_eq_zero.1 e with e|e<;>omega
  simp[Builtin.append_,run_underlying ht,run_underlying ht',sizeOf,typeInfo,zeroValue,hi,hz,asInt,asIntOf,hw,h7,h8,h3,h4,h6,h6',aaA,hm0,Question.forced,hold,newRow,grownCap]<;>
   (congr 2;apply Array.ext';simp[List.append_assoc])
theorem Ik(h:Inv G n D σ a w){op:Op}{ty:TypeId}{sz by':Nat}{z:List AV}{x y:IX}{d:Option Nat}{K:St->Prop}(hd:bN n d=true)(hc:aD P op ty (.pj sz by' z x y)=true)(hw:ki P (.pj sz by' z x y) d σ K):qW P G n D w a op ty d K:=by
 cases op<;>first|(simp[aD]at hc;done)|skip
 rename_i c
 simp only[aD]at hc
 split at hc<;>try(cases hc;done)
 rename_i u v t t' hb
 have hce:=rm hb
 subst hce
 simp only[Bool.and_eq_true]at hc
 obtain⟨⟨⟨hu,hv⟩,ht'⟩,hc⟩:=hc
 obtain⟨k',ht2⟩:=Sv ht'
 split at hc<;>try(cases hc;done)
 rename_i e ht
 have ht:=dq ht
 simp only[Bool.and_eq_true]at hc
 obtain⟨⟨⟨⟨hs,hby⟩,jR⟩,xz⟩,hzi⟩:=hc
 obtain⟨i,hi,qp⟩:=lE hs
 obtain⟨zv,_,⟨i1,hi1,hz,hz1⟩,Sn⟩:=ui hzi
 rw[hi]at hi1;injection hi1 with hi1;subst hi1
 have jR:=of_decide_eq_true jR
 have xz:=of_decide_eq_true xz
 have hby:i.bytes=by':=by
  unfold lS at hby
  rw[hi]at hby
  simpa using hby
 have hw':wZ sz by' z σ d K (σ.x x) (xg true σ y):=hw
 have hbx:=XR.bn h hu
 have hbv:=BR.bn h hv
 generalize σ.x x=xv at hw' hbx
 generalize xg true σ y=yv at hw' hbv
 unfold wZ at hw'
 split at hw'<;>try(exact hw'.elim)
 rename_i b off k cap q
 obtain⟨hq0,hgr,hvz,hw'⟩:=hw'
 have ev:=VR.dI hbv
 generalize hm:q.toNat=m at hw' hgr
 obtain⟨zm1,zm2,zm3,zm4,zm5⟩:=Sn m
 cases hol:oI σ.s sz b off k with
 |none=>rw[hol]at hw';exact hw'.elim
 |some olds=>
 rw[hol]at hw'
 obtain⟨WN,U3,Ck⟩:=hw'
 have hold:k=0/\olds=[]\/∃cs,σ.s b=some (.cells cs)/\off+k*sz<=cs.length/\olds=views (AB.sub cs off (k*sz)):=by
  unfold oI at hol
  by_cases hk:k=0
  ·grind
  ·rw[show(k==0)=false by grind]at hol
   cases hca:jA k sz off (σ.s b)with
   |none=>grind
   |some q=>grind [q1,q2,rn]
 obtain⟨bP,hk⟩:=Ck hgr
 obtain⟨ds,hds⟩:∃ds,ds=(List.replicate m z).flatten:=⟨_,rfl⟩
 obtain⟨news,vB⟩:∃news,news=(Builtin.zeroCells zv.cells m).toList:=⟨_,rfl⟩
 have ag9:views ds=ds:=by
  rw[hds];unfold views at hvz⊢
  rw[List.map_flatten,List.map_replicate,hvz]
 rw[<-hds]at hk
 have grow:∀(base:Option Addr)(us:List Value),a.eval u=.slice base k cap->us.length=k*sz->olds.length=k*sz->Fl olds->views olds=olds->
  (Builtin.firstCells sz k (.slice base k cap)).run P w.drew=.ok us.toArray w.drew->(∀(j:Nat)(c:AV)(u:Value),olds[j]? =some c->us[j]? =some u->VR w G.R c u)->
  qW P G n D w a (.call {callee:=.builtin .append,args:= #[u,v],argTypes:= #[t,t']}) ty d K:=by
  intro base us e1 hul Sk hof hov hfc tg
  have cG:=Ej (ty:=ty) ht ht2 hi hz qp jR hq0 hm hfc hgr A_ A_
  have hge:k+m<=grownCap w (k+m) cap e:=grownCap_ge w (k+m) cap e
  obtain⟨zz1,zz2,zz3,zz4,_⟩:=Sn (grownCap w (k+m) cap e -(k+m))
  obtain⟨G2,h3,h4⟩:=(h.drew).KA (t:=e) (c:=us.toArray++Builtin.zeroCells zv.cells m++Builtin.zeroCells zv.cells (grownCap w (k+m) cap e -(k+m)))
   (cs:=olds++ds++(List.replicate (grownCap w (k+m) cap e -(k+m)) z).flatten) (d:=d) hd (.inr ⟨k+m,grownCap w (k+m) cap e,rfl,rfl⟩)
   (fun G' w' o hp=>by
     have hl1:news.length=m*sz:=by rw[vB,zm1,WN]
     have hl2:ds.length=m*sz:=by rw[hds,zm2,WN]
     have hna:Builtin.zeroCells zv.cells m=news.toArray:=by rw[vB]
     rw[hna]
     refine⟨A_,fun j x y hx hy=>?_⟩
     have x8:∀(l:List AV)(q:Nat),views l=l->l[q]? =some x->ew G' w' (o j) x y:=by
      intro l q hvl hq
      rw[<-hvl,fG]at hq
      cases hz':l[q]? with
      |none=>grind
      |some x'=>grind [ew.view]
     by_cases hj1:j<olds.length
     ·rw[List.append_assoc,List.getElem?_append_left hj1]at hx
      rw[Array.append_assoc,Array.getElem?_append_left By]at hy
      exact⟨hp.vr h.drew.bF ((aR.drew G w).vr h.bF (tg j x y hx A_)),x8 _ _ hov hx⟩
     grind [List.getElem?_append_left,List.getElem?_append_right,Array.getElem?_append_left,Array.getElem?_append_right,List.size_toArray,aR.drew,xi,List.length_append,BH])
   (fun c hc=>by
     rcases List.mem_append.1 hc with hc|hc
     ·rcases List.mem_append.1 hc with hc|hc
      ·exact hof c hc
      ·exact zm4 c A_
     ·exact zz4 c hc)
  intro pos after gd next Q hn
  refine bp ?_ (hn G2 _ _ _ h3 ((aR.drew G w).trans h4) (hk _ _ (h.store.get_none h.bF) hge))
  simp[execOp,resolve,invoke,builtin,e1,ev,cG]
 rcases VR.dF hbx with e1|⟨rfl,rfl,e1⟩
 ·rcases hold with⟨rfl,rfl⟩|⟨cs,hsb,hle,rfl⟩
  ·exact grow _ [] e1 B_ B_ Fl.nil rfl (run_firstCells_some w.drew sz 0 ⟨b,off,none⟩ 0 cap [] B_ (fun j v hj=>T_)) (fun j c u hc=>L_)
  ·have hat:=h.store.at hsb hle
   obtain⟨us,u1,u2,u3⟩:=hat.mq
   have hfl:Fl (views (AB.sub cs off (k*sz))):=Ω
   have hlen:(views (AB.sub cs off (k*sz))).length=k*sz:=by simp only[views,List.length_map];exact kP hle
   exact grow _ us e1 Xa5 hlen hfl (pO _) (run_firstCells_some w.drew sz k ⟨b,off,none⟩ k cap us Xa5 u2) u3
 ·rcases hold with⟨_,rfl⟩|⟨cs,hsb,hle,rfl⟩
  ·exact grow none [] e1 B_ B_ Fl.nil rfl h_ (fun j c u hc=>L_)
  ·have:views (AB.sub cs off (0*sz))=[]:=by simp[AB.sub,views]
   rw[this]at grow
   exact grow none [] e1 B_ B_ Fl.nil rfl h_ (fun j c u hc=>L_)
end
section
variable{P:Program}{G G':Gh}{n:Nat}{D:List Deferred}{σ:St}{a:Act}{w w':World}
theorem J3(h:Inv G n D σ a w){op:Op}{ty:TypeId}{z:List AV}{x:IX}{d:Option Nat}{K:St->Prop}(hd:bN n d=true)(hc:aD P op ty (.sO z x)=true)(hw:ki P (.sO z x) d σ K):qW P G n D w a op ty d K:=by
 cases op<;>first|(simp[aD]at hc;done)|skip
 rename_i c
 simp only[aD]at hc
 split at hc<;>try(cases hc;done)
 rename_i u us t ts hb
 have hce:=rm hb
 subst hce
 simp only[Bool.and_eq_true]at hc
 obtain⟨hu,hc⟩:=hc
 split at hc<;>try(cases hc;done)
 rename_i e ht
 have ht:=dq ht
 have hw':A4 z σ d K (σ.x x):=hw
 have hbx:=XR.bn h hu
 generalize σ.x x=xv at hw' hbx
 unfold A4 at hw'
 split at hw'<;>try(exact hw'.elim)
 rename_i b off k cap
 obtain⟨v,hv1,_,hv2⟩:=ui hc
 obtain⟨z1,z2,z3',z4,z5⟩:=hv2 k
 have z3:∀(j:Nat)(x:AV)(y:Value),(List.replicate k z).flatten[j]? =some x->(Builtin.zeroCells v.cells k).toList[j]? =some y->VR w G.R x y:=fun j x y hx hy=>xi (z3' j x y hx hy) w G.R
 rcases hw' with⟨hk0,hk⟩|⟨bP,hvw,hk⟩
 ·subst hk0
  intro pos after gd next Q hn
  refine bp (w':=w) (v:=.tuple #[]) ?_ (hn G _ _ _ (h.XJ hd) (aR.refl G w) hk)
  rcases VR.dF hbx with e1|⟨_,rfl,e1⟩<;>simp[execOp,resolve,invoke,builtin,e1,Builtin.clear_,run_underlying ht]
 ·obtain⟨cs,hsb,dH⟩:=Fs bP
  rw[hsb]at hk
  have hk':K ({σ with s:=σ.s.set b (.cells (setAt cs off (List.replicate k z).flatten))}.put d (.jV [])):=hk
  obtain⟨_,_,c,et,hcb,hcr,hcf⟩:=h.store b _ hsb
  by_cases hk0:k=0
  ·subst hk0
   simp only[List.replicate_zero,List.flatten_nil,Fw,ub hsb]at hk'
   intro pos after gd next Q hn
   refine bp (w':=w) (v:=.tuple #[]) ?_ (hn G _ _ _ (h.XJ hd) (aR.refl G w) hk')
   rcases VR.dF hbx with e1|⟨_,rfl,e1⟩<;>simp[execOp,resolve,invoke,builtin,e1,Builtin.clear_,run_underlying ht]
  ·rcases VR.dF hbx with e1|⟨h0,_,_⟩
   ·obtain⟨h2,hp2⟩:=h.Dj (off:=off) (ds:=(List.replicate k z).flatten) (news:=(Builtin.zeroCells v.cells k).toList) hsb hcb (by rw[z1,z2]) A_ z4
     (by grind [views,List.map_replicate]) z3
    have dQ:=eU (P:=P) b off et (0,0) (Builtin.zeroCells v.cells k).toList 0 c w hcb (fun j _ hj=>T_) (by rw[z1,hcr.1];grind) z5
    have Pg:(storeCells ⟨b,off,none⟩ (Builtin.zeroCells v.cells k).toList).run P w=.ok () (w.setRow b (laid c off (Builtin.zeroCells v.cells k).toList)):=by simpa[laid]using dQ
    intro pos after gd next Q hn
    refine bp (v:=.tuple #[]) ?_ (hn G _ _ _ (h2.XJ hd) hp2 hk')
    have cG:(Builtin.clear_ (t::ts).toArray ty (Array.map a.eval (u::us).toArray)).run P w=.ok (.tuple #[]) (w.setRow b (laid c off (Builtin.zeroCells v.cells k).toList)):=by
     obtain⟨k',rfl⟩:∃k',k=k'+1:=⟨k -1,AT⟩
     simp[Builtin.clear_,run_underlying ht,e1,hv1,Pg]
    simp[execOp,resolve,invoke,builtin]at cG⊢;simp[cG]
   grind
end
section
variable{P:Program}{G G':Gh}{n:Nat}{D:List Deferred}{σ:St}{a:Act}{w w':World}
theorem Inv.frozen(h:Inv G n D σ a w){d:Option Nat}(hd:bN n d=true){b off sz k cap:Nat}{cs:List AV}{own:Bool}(hs:σ.s b=some (.cells cs))(dH:off+k*sz<=cs.length)(gv:k<=cap)(wo:own=true->off=0/\cs.length=off+cap*sz):
 ∃G',Inv G' n D ({σ with s:=σ.s.del b}.put d (.sl own sz k (views (AB.sub cs off (k*sz))))) (a.put d (.slice (some ⟨b,off,none⟩) k cap)) w/\aR G w G' w:=by
 obtain⟨q2,q3,c,t,q4,q5,q6⟩:=h.store b _ hs
 let ob:dp:=if own=true then AM d else .none
 let G':=G.wT b ob (off+k*sz)
 have cM:aR G w G' w:=⟨rfl,rfl,rfl,Nat.le_refl _,Nat.le_refl _,fun b' _=>by
  by_cases hb:b'=b
  ·grind
  ·simp[G',hb],fun _ _ _ _=>rfl,fun _ _ _=>rfl,fun b' _ hb'=>by
  have:b'≠b:=fun e=>A_
  simp[G',this,hb'],fun b' _ hb'=>by
  have:b'≠b:=fun e=>A_
  simp[G',this,hb']⟩
 have hlt:b<w.heap.size:=h.bF.lt U_
 have m7:cS G' w:=⟨fun b' hb'=>by
  have:b'≠b:=AT
  simp[G',this,h.bF.mn b' hb'],fun b' hb'=>by
  have:b'≠b:=AT
  simp[G',this,h.bF.nc b' hb']⟩
 have same:∀b',G.O b'≠.sh\/b'≠b->G'.O b'=G.O b'/\G'.R b'=G.R b'/\w.heap[b']? =w.heap[b']? :=fun b' hb'=>by
  have:b'≠b:=by
   rcases hb' with hb'|hb'
   ·grind
   ·exact hb'
  exact⟨by simp[G',this],by simp[G',this],rfl⟩
 have dQ:bB G' w (σ.s.del b):=by
  intro b' o hb'
  unfold ae.del at hb'
  split at hb'
  ·cases hb'
  ·rename_i hne
   obtain⟨r1,r2,r3⟩:=h.store b' o hb'
   refine⟨(same b' (.inr hne)).1.trans r1,(same b' (.inr hne)).2.1.trans r2,?_⟩
   cases o with
   |cells cs'=>
    obtain⟨c',t',r4,r5,r6⟩:=r3
    exact⟨c',t',r4,r5.mono (fun _ _ hv=>cM.vr h.bF hv) (fun b'' j u5=>A_),r6⟩
   |map es=>
    obtain⟨sW,clock,r4,r5,r6⟩:=r3
    exact⟨sW,clock,r4,r5,fun j x y hx hy=>⟨cM.vr h.bF (r6 j x y hx hy).1,cM.vr h.bF (r6 j x y hx hy).2⟩⟩
 have hat:=h.store.at hs dH
 obtain⟨u,u1,u2,u3⟩:=hat
 have hlen:(views (AB.sub cs off (k*sz))).length=k*sz:=by simp only[views,List.length_map];exact kP dH
 have:=h.put (s':=σ.s.del b) (lp':=σ.lp) d (fun i hi=>J_) (.sl own sz k (views (AB.sub cs off (k*sz)))) (.slice (some ⟨b,off,none⟩) k cap) m7 cM dQ (fun _ hx=>hx) (fun i t _ ht=>ht.elim) (fun i t _⟨cs',yV⟩=>Ψ)
  (fun i b' _ hb'=>same b' (.inl A_))
  (fun i b' c' j _ _ hc'=>A_)
  (fun i hi=>by
    subst hi
    refine⟨.sl own sz k _ b off cap u u3 hlen (by rw[hlen];simp[G']) gv u1 (fun j x hj=>cM.vr h.bF (u2 j x hj)),?_⟩
    cases own with
    |false=>trivial
    |true=>
     intro base m' dw hv _
     injection hv with e1 e2 e3
     subst e3
     exact⟨b,off,c,t,(0,0),e1.symm,by simp[G',ob,AM],by simp[G'],q4,by rw[q5.1,(wo rfl).2],fun j _ hj=>T_,Nat.le_refl _,(wo rfl).1,.inl rfl,fun j y _ hy=>by
      have hlt:j<cs.length:=by rw[<-q5.1];exact(Array.getElem?_eq_some_iff.1 hy).1
      exact qJ (q6 _ (List.getElem_mem hlt)) (q5.2 j _ y (List.getElem?_eq_getElem hlt) hy).1⟩)
 exact⟨G',Xd1,cM⟩
def Inv.OS(h:Inv G n D σ a w){sz:Nat}{own:Bool}{d:Option Nat}{K:St->Prop}(hd:bN n d=true){xv:AV}{v:Value}(hbx:ee xv=true->VR w G.R xv v)(hw':tc sz own σ d K xv):∃(G':Gh)(E':St),Inv G' n D E' (a.put d v) w/\aR G w G' w/\K E':=by
 unfold tc at hw'
 split at hw'<;>try(exact hw'.elim)
 rename_i b off k cap
 replace hbx:=hbx rfl
 have empty:k=0->cap=0->off=0\/v=.slice none 0 0->Inv G n D (σ.put d (.sl own sz 0 [])) (a.put d (v)) w:=by
  intro hk0 hc0 aeX
  subst hk0;subst hc0
  have hvr:VR w G.R (.sl own sz 0 []) (v):=by
   rcases VR.dF hbx with e1|⟨_,_,e1⟩
   ·rcases aeX with rfl|e2
    ·rw[e1];exact .sl own sz 0 [] b 0 0 (fun _=>undef) Fl.nil B_ B_ (Nat.le_refl _) (fun j c hj=>A_) (fun j c hj=>A_)
    grind
   ·rw[e1];exact .slnil _ _
  have:=h.put d (fun i hi=>J_) (.sl own sz 0 []) (v) h.bF (aR.refl G w) h.store (fun _ hx=>hx) (fun i t _ ht=>ht.elim) (fun i t _⟨cs,hcs⟩=>A_)
   (fun _ _ _ _=>⟨rfl,rfl,rfl⟩) (fun _ _ _ _ _ _ hcc=>⟨hcc,rfl,rfl⟩) (fun i hdi=>by
     refine⟨hvr,?_⟩
     cases own with
     |false=>trivial
     |true=>
      intro base m' dw hv hc'
      rcases VR.dF hbx with e1|⟨_,_,e1⟩<;>rw[e1]at hv<;>injection hv with _ e2 e3<;>omega)
  cases d<;>exact this
 rcases hw' with⟨rfl,rfl,rfl,hk⟩|⟨jR,gv,wo,hk⟩
 ·exact⟨G,_,empty rfl rfl (.inl rfl),aR.refl G w,hk⟩
 ·cases hca:jA k sz off (σ.s b)with
  |none=>rw[hca]at hk;exact hk.elim
  |some q=>
   obtain⟨q1,q2⟩:=q
   rw[hca]at hk
   obtain⟨cs,e1,e2,rfl,rfl⟩:=rn hca
   have LB:own=true->off=0/\cs.length=off+cap*sz:=fun ho=>by
    have:=(wo ho).2.2
    rw[e1]at this
    exact⟨(wo ho).1,this⟩
   obtain⟨G',h1,h2⟩:=h.frozen hd e1 e2 gv LB
   have e3:=VR.xG hbx jR
   exact⟨G',_,A_,h2,hk⟩
theorem RX(h:Inv G n D σ a w){op:Op}{ty:TypeId}{sz:Nat}{own:Bool}{x:IX}{d:Option Nat}{K:St->Prop}(hd:bN n d=true)(hc:aD P op ty (.R6 sz own x)=true)(hw:ki P (.R6 sz own x) d σ K):qW P G n D w a op ty d K:=by
 have key:∀y,cj y x=true->∃(G':Gh)(E':St),Inv G' n D E' (a.put d (a.eval y)) w/\aR G w G' w/\K E':=by
  intro y hy
  have hbx:=XR.bn h hy
  have hw':tc sz own σ d (fun τ=>K (R7 x d τ)) (σ.x x):=hw
  have hne:∀i,x=.t i->look σ.e i≠.undef:=fun i e e2=>by
   subst e
   have e3:σ.x (.t i)=.undef:=e2
   rw[e3]at hw';exact hw'
  generalize σ.x x=xv at hw' hbx
  obtain⟨G',E',h1,h2,hk⟩:=h.OS hd (v:=a.eval y) (fun hi=>by cases xv<;>first|exact hbx|grind [ee]) hw'
  refine⟨G',_,?_,h2,hk⟩
  unfold R7
  split
  ·rename_i i j
   split
   ·rename_i o z m cs he
    obtain rfl:=HS hy
    have hj:j<n:=h1.Cy (by rw[he];simp)
    have hsz:a.tmps.size=n:=h.size
    have hlj:(a.put (some j) (a.eval (.tmp i))).tmps[j]? =some (a.eval (.tmp i)):=by simp[Act.put,hsz,hj]
    have hv:=(h1.da j _ hlj)
    rw[he]at hv
    refine h1.Jj i (h.Cy (hne i rfl)) _ (fun t ht=>ht) (fun cs' e=>aT) fun v hv'=>?_
    have hve:v=a.eval (.tmp i):=by
     by_cases hij:j=i
     ·grind
     ·simp only[Act.put,Array.getElem?_setIfInBounds_ne hij]at hv'
      show v=a.tmps.getD i undef
      simp_all
    rw[hve]
    exact⟨hv.1.view,trivial⟩
   ·exact h1
  ·exact h1
 intro pos after g next Q hn
 cases op<;>first|(simp[aD]at hc;done)|skip
 all_goals
  rename_i y
  obtain⟨G',E',h1,h2,hk⟩:=key y hc
  exact bp rfl (hn G' _ _ _ h1 h2 hk)
theorem MS(h:Inv G n D σ a w){op:Op}{ty:TypeId}{sz:Nat}{own:Bool}{x:IX}{d:Option Nat}{K:St->Prop}(hd:bN n d=true)(hc:aD P op ty (.zU sz own x)=true)(hw:ki P (.zU sz own x) d σ K):qW P G n D w a op ty d K:=by
 cases op<;>first|(simp[aD]at hc;done)|skip
 simp[aD,Bool.and_eq_true]at hc
 obtain⟨⟨hs,hm⟩,hy⟩:=hc
 have hb:=BR.bn h hy
 have hw':Kv sz own σ d K (rd σ (xg true σ x) 1):=hw
 cases hr:rd σ (xg true σ x) 1 with
 |none=>rw[hr]at hw';exact hw'.elim
 |some cs=>
  rw[hr]at hw'
  obtain⟨b,off,e,hl,hat,hvw⟩:=CY h hb hr
  match cs,hl,hw' with
  |[c],hl,⟨hi,hw'⟩=>
   obtain⟨v,cG,hvr⟩:=pZ hs hm rfl hl hat
   obtain⟨G',E',h1,h2,hk⟩:=h.OS hd (fun _=>hvr) hw'
   intro pos after g next Q hn
   exact bp (by simp[execOp,e,Instr.loadAt,Instr.sureAddr,cG]) (hn G' _ _ _ h1 h2 hk)
def Dg(h:Inv G n D σ a w)(bl off:Nat)(T:dp)(hT:T≠.sh/\(∀i,T≠.loc i)/\(∀i j,T≠.cell i j)):
 cS (G.gY (.cell bl off) T) w/\aR G w (G.gY (.cell bl off) T) w/\(∀b,G.O b≠.cell bl off->(G.gY (.cell bl off) T).O b=G.O b):=by
 have hne:∀b,G.O b≠.cell bl off->(G.gY (.cell bl off) T).O b=G.O b:=fun b hb=>P_
 exact⟨⟨fun b hb=>by rw[hne b (by rw[h.bF.mn b hb];simp),h.bF.mn b hb],h.bF.nc⟩,
  ⟨rfl,rfl,rfl,Nat.le_refl _,Nat.le_refl _,fun _ _=>Nat.le_refl _,fun _ _ _ _=>rfl,fun _ _ _=>rfl,fun b _ hb=>⟨A_,rfl⟩,fun b _ hb=>⟨A_,rfl⟩⟩,hne⟩
def ew.gY{o T:dp}{av:AV}{v:Value}(h:ew G w o av v):ew (G.gY o T) w T av v:=by
 unfold ew at h⊢
 split
 ·intro base m' cap hv hc
  obtain⟨b,off,c,e,fz,q1,q2,q3⟩:=h base m' cap hv hc
  exact⟨b,off,c,e,fz,q1,by simp[q2],q3⟩
 ·intro base m' cap hv hc
  obtain⟨b,off,c,fz,q1,q2,q3⟩:=h base m' cap hv hc
  exact⟨b,off,c,fz,q1,by simp[q2],q3⟩
 ·trivial
def D0:AV->Bool
 |.sl _ _ _ _=>true
 |.bb _ _ _=>true
 |_=>false
theorem EY{av:AV}(h:D0 av=true):ql (view av)=true:=by cases av<;>first|rfl|(cases h)
theorem dS.take{bl off:Nat}{T:dp}{cs:List AV}{c:Array Value}{av:AV}(h:dS G w (.cell bl) cs c)(hcs:cs[off]? =some av):
 dS (G.gY (.cell bl off) T) w (.cell bl) (setAt cs off [view av]) c:=by
 refine⟨by rw[uJ _ _ _ A_];exact h.1,fun j x y hx hy=>?_⟩
 rw[uI _ _ _ _ A_]at hx
 by_cases hj:j=off
 ·subst hj
  rw[if_pos ⟨Nat.le_refl _,B_⟩,Nat.sub_self]at hx
  injection hx with hx;subst hx
  exact⟨(h.2 j _ y hcs hy).1.view,ew.view ..⟩
 ·rw[if_neg A_]at hx
  obtain⟨h1,h2⟩:=h.2 j x y hx hy
  refine⟨h1,h2.mono fun b hb=>⟨?_,rfl,rfl⟩⟩
  simp_all
def loadT:Option Nat->dp
 |some i=>.slot i 0
 |none=>.frame
theorem EL(h:Inv G n D σ a w){op:Op}{ty:TypeId}{x:IX}{d:Option Nat}{K:St->Prop}(hd:bN n d=true)(hc:aD P op ty (.nE x)=true)(hw:ki P (.nE x) d σ K):qW P G n D w a op ty d K:=by
 cases op<;>first|(simp[aD]at hc;done)|skip
 rename_i t y
 simp only[aD,Bool.and_eq_true]at hc
 obtain⟨⟨⟨_,hs⟩,hm⟩,hy⟩:=hc
 have hbx:=XR.bn h hy
 have hw':rP σ d K (σ.x x):=hw
 have hT:loadT d≠.sh/\(∀i,loadT d≠.loc i)/\(∀i j,loadT d≠.cell i j):=by cases d<;>simp[loadT]
 have cG:∀(b off:Nat)(u:Value),a.eval y=.pointer (some ⟨b,off,none⟩)->w.cell? ⟨b,off,none⟩=some u->∀(pos:String)(after:Array Edge)(g:Option (Nat×Bool)),(execOp a.eval ⟨d,.load t y,ty,pos,after,g⟩).run P w=.ok (.value u) w:=by
  intro b off u e1 e2 pos after g
  have:(loadVar t ⟨b,off,none⟩).run P w=.ok u w:=by simp[loadVar,zn hm,e2]
  simp[execOp,e1,Instr.loadAt,Instr.sureAddr,this]
 have abX:∀{G1:Gh}{σ1:St}{av:AV}{u:Value},D0 av=true->Inv G1 n D σ1 a w->VR w G1.R av u->ew G1 w (loadT d) av u->Inv G1 n D (σ1.put d av) (a.put d u) w:=by
  intro G1 σ1 av u hsl h1 hv ho
  have hiv:ee av=true:=by cases av<;>first|rfl|(cases hsl;done)
  have:=h1.put (s':=σ1.s) (lp':=σ1.lp) d (fun i hi=>J_) av u h1.bF (aR.refl G1 w) h1.store (fun _ hx=>hx) (fun i t _ ht=>(fA hiv t ht).elim) (fun i t _⟨cs,hcs⟩=>(nP hiv cs hcs).elim)
   (fun _ _ _ _=>⟨rfl,rfl,rfl⟩) (fun _ _ _ _ _ _ hcc=>⟨hcc,rfl,rfl⟩) (fun i hdi=>by subst hdi;rw[dT.rT hiv];exact⟨hv,ho⟩)
  cases d<;>exact this
 have QU:∀{off:Nat}{cs:List AV}{k:List AV->AV->Prop},lG off cs k->∃av,D0 av=true/\cs[off]? =some av/\k (setAt cs off [view av]) av:=by
  intro off cs k hk
  unfold lG at hk
  split at hk
  ·rename_i ow sz m ds he;exact⟨_,rfl,he,hk⟩
  ·rename_i t m ds he;exact⟨_,rfl,he,hk⟩
  ·exact hk.elim
 have QV:∀{off:Nat}{cs:List AV}{k:List AV->AV->Prop},DB off cs k->∃av,D0 av=true/\cs[off]? =some av/\k (setAt cs off [view av]) av:=by
  intro off cs k hk
  unfold DB at hk
  split at hk
  ·rename_i ow sz m ds he;exact⟨_,rfl,he,hk⟩
  ·exact hk.elim
 generalize σ.x x=xv at hw' hbx
 unfold rP at hw'
 split at hw'<;>try(exact hw'.elim)
 ·rename_i b off
  have e1:=VR.gK hbx
  cases hsb:σ.s b with
  |none=>grind
  |some so=>
   cases so with
   |map es=>grind
   |cells cs=>
   rw[hsb]at hw'
   obtain⟨av,hsl,hcs,hk⟩:=QU hw'
   obtain⟨q2,q3,c,et,q4,q5,q6⟩:=h.store b _ hsb
   have hlt:off<cs.length:=(List.getElem?_eq_some_iff.1 hcs).1
   have WI:off<c.size:=by rw[q5.1];exact hlt
   have gl:=Array.getElem?_eq_getElem WI
   obtain⟨hv,ho⟩:=q5.2 off _ _ hcs gl
   obtain⟨g1,g2,hne⟩:=Dg h b off (loadT d) hT
   have dQ:bB (G.gY (.cell b off) (loadT d)) w (σ.s.set b (.cells (setAt cs off [view av]))):=by
    intro b' o hb'
    unfold ae.set at hb'
    by_cases hbg:b'=b
    ·rw[if_pos hbg]at hb';injection hb' with hb';subst hb';subst hbg
     exact⟨A_,q3,c,et,q4,q5.take hcs,Ex.setAt q6 (by intro z hz;grind [List.mem_singleton,EY]) off⟩
    ·rw[if_neg hbg]at hb'
     obtain⟨r1,r2,r3⟩:=h.store b' o hb'
     refine⟨A_,r2,?_⟩
     cases o with
     |cells cs'=>
      obtain⟨c0,t0,r4,r5,r6⟩:=r3
      exact⟨c0,t0,r4,r5.mono (fun _ _ hv=>hv) (fun b'' j u5=>⟨A_,rfl,rfl⟩),r6⟩
     |map es=>exact r3
   have h1:Inv (G.gY (.cell b off) (loadT d)) n D {σ with s:=σ.s.set b (.cells (setAt cs off [view av]))} a w:=
    ⟨g1,dQ,h.size,fun k v hkv=>dT.frame (G:=G) (G':=G.gY (.cell b off) (loadT d)) (w:=w) (w':=w) (tmps:=a.tmps) (Mm:=a.tmps) (fun _ _ hv=>hv) (fun b' hb'=>⟨hne b' A_,rfl,rfl⟩)
      (fun b' c' j hb' hc'=>⟨A_,rfl,rfl⟩) _ _ (fun d _ cs hcs=>⟨cs,hcs,rfl⟩) (h.da k v hkv),h.EH,h.Kx,h.ry⟩
   intro pos after g next Q hn
   exact bp (cG b off _ e1 (by grind [cell_of_row]) pos after g) (hn _ _ _ _ (abX hsl h1 hv ho.gY) g2 hk)
 ·rename_i i off
  cases hl:look σ.e i<;>rw[hl]at hw'<;>first|exact hw'.elim|skip
  rename_i cs
  obtain⟨hdi,hw'⟩:=hw'
  obtain⟨av,hsl,hcs,hk⟩:=QV hw'
  obtain⟨b,e1,e2⟩:=hbx
  have htm:=e2 cs hl
  have Iz:=h.da i _ htm
  rw[hl]at Iz
  obtain⟨b',c,et,p1,p2,p3,p4,p5,p6⟩:=Iz
  injection p1 with p1;injection p1 with p1;injection p1 with p1 _ _
  subst p1
  have hlt:off<cs.length:=(List.getElem?_eq_some_iff.1 hcs).1
  have WI:off<c.size:=by rw[p5.1];exact hlt
  have gl:=Array.getElem?_eq_getElem WI
  obtain⟨hv,ho⟩:=p5.2 off _ _ hcs gl
  obtain⟨g1,g2,hne⟩:=Dg h b off (loadT d) hT
  have dQ:bB (G.gY (.cell b off) (loadT d)) w σ.s:=h.store.mono h.bF g2 (fun b' hb'=>⟨A_,rfl,rfl⟩)
   (fun b' c' j hb' hc'=>⟨A_,rfl,rfl⟩)
  have h1:Inv (G.gY (.cell b off) (loadT d)) n D (σ.put (some i) (.loc (setAt cs off [view av]))) a w:=by
   refine⟨g1,dQ,h.size,fun k v hkv=>?_,fun k hk'=>?_,fun k d' hk'=>?_,h.ry⟩
   ·by_cases hki:i=k
    ·subst hki
     have:look (σ.put (some i) (.loc (setAt cs off [view av]))).e i=.loc (setAt cs off [view av]):=p_
     rw[this]
     rw[htm]at hkv;injection hkv with hkv;subst hkv
     exact⟨b,c,et,rfl,A_,p3,p4,p5.take hcs,Fl.setAt p6 (by intro z hz;grind [List.mem_singleton,EY]) off⟩
    ·have:look (σ.put (some i) (.loc (setAt cs off [view av]))).e k=look σ.e k:=by simp[St.put,bA,hki]
     rw[this]
     refine dT.frame (G:=G) (G':=G.gY (.cell b off) (loadT d)) (w:=w) (w':=w) (tmps:=a.tmps) (Mm:=a.tmps) (fun _ _ hv=>hv) (fun b' hb'=>⟨hne b' A_,rfl,rfl⟩)
      (fun b' c' j hb' hc'=>⟨A_,rfl,rfl⟩) _ _ (fun d' _ cs' yV=>?_) (h.da k v hkv)
     by_cases hdi':i=d'
     ·grind
     ·simp only[St.put,bA,hdi',if_false]at yV
      grind
   ·by_cases hki:i=k
    ·subst hki
     have:=h.EH i hk'
     grind
    ·simp only[St.put,bA,hki,if_false];exact h.EH k hk'
   ·by_cases hki:i=k
    ·subst hki
     simp only[St.put,bA,if_true]at hk'
     exact hk'.elim
    ·simp only[St.put,bA,hki,if_false]at hk'
     exact h.Kx k d' hk'
  intro pos after g next Q hn
  exact bp (cG b off _ e1 (by grind [cell_of_row]) pos after g) (hn _ _ _ _ (abX hsl h1 hv ho.gY) g2 hk)
theorem MR(h:Inv G n D σ a w){op:Op}{ty:TypeId}{off:Nat}{j x:IX}{d:Option Nat}{K:St->Prop}(hd:bN n d=true)(hc:aD P op ty (.nG off j x)=true)(hw:ki P (.nG off j x) d σ K):qW P G n D w a op ty d K:=by
 have hc':aD P op ty (.nE x)=true:=by cases op<;>first|exact hc|(done)
 exact EL h hd hc' hw.2
theorem RW(h:Inv G n D σ a w){op:Op}{ty:TypeId}{ne:Bool}{x:IX}{d:Option Nat}{K:St->Prop}(hd:bN n d=true)(hc:aD P op ty (.UW ne x)=true)(hw:ki P (.UW ne x) d σ K):qW P G n D w a op ty d K:=by
 cases op<;>first|(simp[aD]at hc;done)|skip
 rename_i b t u v yt
 simp only[aD,Bool.and_eq_true,decide_eq_true_eq]at hc
 obtain⟨⟨⟨rfl,hx⟩,hy⟩,ht⟩:=hc
 cases hel:cZ P t with
 |none=>grind
 |some e=>
 have ht:=dq hel
 have e2:a.eval v=.slice none 0 0:=by
  split at hy
  ·rfl
  ·cases hy
 have hbx:=XR.bn h hx
 have hw':OI ne σ d K (σ.x x):=hw
 generalize σ.x x=xv at hw' hbx
 have some_:∀(ad:Addr)(l c:Nat),a.eval u=.slice (some ad) l c->K (σ.put d (.bool ne))->qW P G n D w a (.binOp (if ne=true then .neq else .eql) t u v yt) ty d K:=by
  intro ad l c e1 hk pos after g next Q hn
  have hr:(Op.equal t (.slice (some ad) l c) (.slice none 0 0)).run P w=.ok false w:=pI 9999 ht ad l c
  refine bp (v:=.bool ne) ?_ (hn G _ _ _ (h.Qi hd rfl (.bool _) rfl) (aR.refl G w) hk)
  cases ne<;>simp[execOp,e1,e2,eqGuard,binOp,hr]
 have none_:a.eval u=.slice none 0 0->K (σ.put d (.bool !ne))->qW P G n D w a (.binOp (if ne=true then .neq else .eql) t u v yt) ty d K:=by
  intro e1 hk pos after g next Q hn
  have key:∀q:Nat,(Op.equalIn (q+1) t (.slice none 0 0) (.slice none 0 0)).run P w=.ok true w:=fun q=>by simp[Op.equalIn,run_underlying ht]
  have hr:(Op.equal t (.slice none 0 0) (.slice none 0 0)).run P w=.ok true w:=key 9999
  refine bp (v:=.bool !ne) ?_ (hn G _ _ _ (h.Qi hd rfl (.bool _) rfl) (aR.refl G w) hk)
  cases ne<;>simp[execOp,e1,e2,eqGuard,binOp,hr]
 unfold OI at hw'
 split at hw'<;>try(exact hw'.elim)
 ·rename_i ow sz m cs
  rcases VR.jd hbx with⟨(e1|⟨_,_,_,e1⟩),rfl,_⟩|⟨b,off,cap,e1,_⟩
  ·grind
  ·grind
  grind
 ·rename_i b off m cap
  rcases VR.dF hbx with e1|⟨_,rfl,e1⟩
  ·grind
  grind
theorem Eu(a b:List AV):views (a++b)=views a++views b:=r_
theorem MO(h:Inv G n D σ a w){op:Op}{ty:TypeId}{f i:Nat}{args:List IX}{d:Option Nat}{K:St->Prop}(hd:bN n d=true)(hc:aD P op ty (.zF f i args)=true)(hw:ki P (.zF f i args) d σ K):qW P G n D w a op ty d K:=by
 have hcc:aD P op ty (.call f args)=true:=by
  cases op<;>first|(simp[aD]at hc;done)|skip
  simp only[aD,Bool.and_eq_true]at hc
  exact hc.2
 have hw':VJ i σ (fun τ=>vu P f τ d K (cQ (xg true τ) args)) (look σ.e i):=hw
 have later:∀(G1:Gh)(τ:St),Inv G1 n D τ a w->aR G w G1 w->vu P f τ d K (cQ (xg true τ) args)->qW P G n D w a op ty d K:=by
  intro G1 τ h1 hp hk pos after g next Q hn
  exact Im h1 hd hcc hk pos after g next Q fun G' E' a' w' k1 k2 k3=>hn G' E' a' w' k1 (hp.trans k2) k3
 cases hl:look σ.e i<;>rw[hl]at hw'<;>first|exact hw'.elim|skip
 rename_i sz m cs
 obtain⟨hw1,hw2⟩:=hw'
 have hin:i<n:=h.Cy (by rw[hl];simp)
 have hlt:i<a.tmps.size:=Xc9
 have hs:=h.da i _ (Array.getElem?_eq_getElem hlt)
 rw[hl]at hs
 rcases hs with⟨h1,h2,h3⟩|⟨b,cap,c,t,sp,h1,h2,h3,h4,h5,h6,h7,h8,h9,h10,h11,h12⟩
 ·subst h1;subst h2
  rcases h3 with h3|⟨b,off,h3⟩
  ·refine later G _ (h.Jj i hin (.arr 0 0 0 0) (fun t ht=>ht) (fun cs e=>aT) fun v hv=>?_) (aR.refl G w) (hw2 rfl 0 0)
   rw[Array.getElem?_eq_getElem hlt]at hv;injection hv with hv;subst hv
   exact⟨by rw[h3];exact .FX _ _,trivial⟩
  ·refine later G _ (h.Jj i hin (.arr b off 0 0) (fun t ht=>ht) (fun cs e=>aT) fun v hv=>?_) (aR.refl G w) (hw2 rfl b off)
   rw[Array.getElem?_eq_getElem hlt]at hv;injection hv with hv;subst hv
   exact⟨by rw[h3];exact .arr _ _ _ _,trivial⟩
 ·have agt:σ.s b=none:=by
   cases hsb:σ.s b with
   |none=>rfl
   |some o=>have:=(h.store b o hsb).1;grind
  have aha:views sp=sp:=by
   have:views cs++views sp=cs++sp:=by rw[<-Eu];exact h12
   exact(List.append_inj this r_).2
  let G1:Gh:=G.wT b .sh 0
  have same:∀b',b'≠b->G1.O b'=G.O b'/\G1.R b'=G.R b'/\w.heap[b']? =w.heap[b']? :=fun b' hb'=>⟨by simp[G1,hb'],by simp[G1,hb'],rfl⟩
  have hRe:∀b',G1.R b'=G.R b':=fun b'=>by
   by_cases hb:b'=b
   ·subst hb;simp[G1,h5]
   grind
  have cM:aR G w G1 w:=⟨rfl,rfl,rfl,Nat.le_refl _,Nat.le_refl _,fun b' _=>A_,fun _ _ _ _=>rfl,fun _ _ _=>rfl,fun b' _ hb'=>by
   grind,fun b' _ hb'=>by
   grind⟩
  have hbl:b<w.heap.size:=h.bF.lt (by rw[h4];simp)
  have m7:cS G1 w:=⟨fun b' hb'=>by
   have:b'≠b:=AT
   rw[(same b' this).1,h.bF.mn b' hb'],fun b' hb'=>by rw[hRe,h.bF.nc b' hb']⟩
  have dQ:bB G1 w (σ.s.set b (.cells (cs++sp))):=by
   intro b' o hb'
   unfold ae.set at hb'
   by_cases hbg:b'=b
   ·rw[if_pos hbg]at hb';injection hb' with hb';subst hb';subst hbg
    refine⟨by simp[G1],by simp[G1],c,t,h6,⟨by rw[h7,h9],fun j x y hx hy=>⟨cM.vr h.bF (h10 j x y hx hy),?_⟩⟩,h11.tag _⟩
    grind [fG,ew.view]
   ·rw[if_neg hbg]at hb'
    obtain⟨r1,r2,r3⟩:=h.store b' o hb'
    refine⟨(same b' hbg).1.trans r1,(same b' hbg).2.1.trans r2,?_⟩
    cases o with
    |cells cs'=>
     obtain⟨c0,t0,r4,r5,r6⟩:=r3
     exact⟨c0,t0,r4,r5.mono (fun _ _ hv=>cM.vr h.bF hv) (fun b'' j u5=>A_),r6⟩
    |map es=>
     obtain⟨sW,clock,r4,r5,r6⟩:=r3
     exact⟨sW,clock,r4,r5,fun j x y hx hy=>⟨cM.vr h.bF (r6 j x y hx hy).1,cM.vr h.bF (r6 j x y hx hy).2⟩⟩
  have h1':Inv G1 n D ({σ with s:=σ.s.set b (.cells (cs++sp))}.put (some i) (.arr b 0 m cap)) a w:=by
   have ha:a.put (some i) a.tmps[i]=a:=by
    have:a.tmps.setIfInBounds i a.tmps[i]=a.tmps:=by rw[Array.setIfInBounds,dif_pos hlt,Array.set_getElem_self]
    simp[Act.put,this]
   have:=h.put (s':=σ.s.set b (.cells (cs++sp))) (lp':=σ.lp) (some i) (fun j hj=>A_) (.arr b 0 m cap) a.tmps[i] m7 cM dQ (fun _ hx=>hx) (fun j t _ ht=>ht.elim) (fun j t _⟨cs,hcs⟩=>Q_)
    (fun j b' hj hb'=>same b' (fun e=>A_))
    (fun j b' c' q _ _ hc'=>A_)
    (fun j hj=>by
      injection hj with hj;subst hj
      exact⟨by rw[h3];exact .arr _ _ _ _,trivial⟩)
   rw[ha]at this
   exact this
  grind
def SX{R:Nat->Nat}{sz:Nat}{c:AV}{u:Value}(h:VR w R c u):VR w R (xU sz c) u:=by
 unfold xU
 split
 ·rename_i b
  rcases VR.dF h with e|⟨_,_,e⟩
  ·rw[e];exact .sl true sz 0 [] b 0 0 (fun _=>undef) Fl.nil B_ B_ (Nat.le_refl _) (fun j c hj=>A_) (fun j c hj=>A_)
  ·rw[e];exact .slnil _ _
 ·exact h
def PT{R:Nat->Nat}{o:dp}{sz:Nat}{c:AV}{u:Value}(h:VR w R c u):ew G w o (xU sz (view c)) u:=by
 unfold xU
 split
 ·rename_i b hb
  have:c=.arr b 0 0 0:=by cases c<;>simp[view]at hb<;>simp[hb]
  subst this
  intro base m cap hv hc
  rcases VR.dF h with e|⟨_,_,e⟩<;>rw[e]at hv<;>injection hv with _ e2 e3<;>omega
 ·exact ew.view ..
def M7{sz:Nat}{c:AV}(h:ql c=true):ql (xU sz c)=true:=by
 unfold xU
 split
 ·rfl
 ·exact h
theorem OC(h:Inv G n D σ a w){op:Op}{ty:TypeId}{sz m:Nat}{x:IX}{d:Option Nat}{K:St->Prop}(hd:bN n d=true)(hc:aD P op ty (.HK sz m x)=true)(hw:ki P (.HK sz m x) d σ K):qW P G n D w a op ty d K:=by
 cases op<;>first|(simp[aD]at hc;done)|skip
 rename_i t y
 simp only[aD,Bool.and_eq_true]at hc
 obtain⟨hi,_,hk⟩:=hw
 have hvr:VR w G.R (σ.x x) (a.eval y):=by
  have:=XR.bn h hc.2
  generalize σ.x x=av at hi this
  cases av<;>first|exact this|grind [ee]
 have ft:=iT hi hvr
 have hcs:∀(G':Gh)(w':World)(o:Nat->dp),aR G w G' w'->dS G' w' o ((views (cellsOf (σ.x x))).map (xU sz)) (a.eval y).cells:=by
  intro G' w' o hp
  refine⟨by simp only[List.length_map,views];exact ft.1,fun j c u hcj hu=>?_⟩
  simp only[List.getElem?_map]at hcj
  rw[fG]at hcj
  cases hz:(cellsOf (σ.x x))[j]? with
  |none=>grind
  |some c0=>
   rw[hz]at hcj;simp at hcj
   have h1:=hp.vr h.bF (ft.2.1 j c0 u hz hu)
   rw[<-hcj]
   exact⟨SX h1.view,PT h1⟩
 have hfl:Fl ((views (cellsOf (σ.x x))).map (xU sz)):=by
  intro c hc'
  simp only[List.mem_map]at hc'
  obtain⟨c',h1,rfl⟩:=hc'
  exact M7 (ft.2.2.views c' h1)
 intro pos after g next Q hn
 obtain⟨G',h1,h2⟩:=h.KA hd (t:=t) (.inl ⟨rfl,rfl⟩) hcs hfl
 refine bp ?_ (hn G' _ _ _ h1 h2 (hk w.heap.size (h.store.get_none h.bF)))
 simp[execOp,Instr.box,newVar,newRow]
end
section
variable{P:Program}{G G':Gh}{n:Nat}{D:List Deferred}{σ:St}{a:Act}{w w':World}
def VR.Sx{R:Nat->Nat}{t:Nat}{cs:List AV}{v:Value}(h:VR w R (.bb t 0 cs) v):v=.slice none 0 0:=by cases h with|bb _ _ _ _ h h0=>exact h0 rfl
def VR.Pn{R:Nat->Nat}{t n:Nat}{cs:List AV}{v:Value}(h:VR w R (.bb t n cs) v):VR w R (.sl true 1 n cs) v:=by cases h;assumption
def Inv.abz(h:Inv G n D σ a w){d:Option Nat}(hd:bN n d=true){m cap:Nat}{cs:List AV}{c:Array Value}{t:TypeId}{ob:dp}(hm0:0<m)(hob:∀i,d=some i->ob=.slot i 0)(aeW:d=none->ob=.none)
 (hl:cs.length=m*1)(gv:m<=cap)(hsz:c.size=cap*1)(hfl:Fl cs)
 (hcs:∀(j:Nat)(x:AV),cs[j]? =some x->∃y,c[j]? =some y/\VR w G.R x y)(fz:Nat×Nat)(hfz:(∀k,k<c.size->¬(fz.1<=k/\k<fz.2))/\fz.1<=fz.2)(hz0:fz=(0,0)\/(0<m/\∃x,c[0]? =some (.int .u8 x)))(hsp:∀(k:Nat)(y:Value),m*1<=k->c[k]? =some y->y.oneCell'=true):
 ∃G',Inv G' n D (σ.put d (.bb t m cs)) (a.put d (.slice (some ⟨w.heap.size,0,none⟩) m cap)) (w.alloc (.cells c t fz))/\aR G w G' (w.alloc (.cells c t fz)):=by
 have hp:=(gE h.bF (.cells c t fz) ob cs.length).2.1
 obtain⟨h1,h2⟩:=h.alloc (.cells c t fz) ob cs.length d hd (.bb t m cs) (.slice (some ⟨w.heap.size,0,none⟩) m cap) σ.lp (mY h.store h.bF _ ob cs.length) (fun _ hx=>hx) (fun i t' _ ht=>ht.elim)
  (fun i t' _⟨cs',yV⟩=>Ψ)
  (fun i hi=>by
    refine⟨?_,?_⟩
    ·refine .bb t m cs _ (.sl true 1 m cs w.heap.size 0 cap (fun j=>c.getD j undef) hfl hl B_ gv (fun j x hj=>?_) (fun j x hj=>?_)) (fun e=>AT)
     ·obtain⟨y,hy,_⟩:=hcs j x hj
      rw[Nat.zero_add,cell_of_row _ (heap_alloc_new w _),hy]
      simp_all
     ·obtain⟨y,hy,hv⟩:=hcs j x hj
      have:c.getD j undef=y:=by simp[Array.getD_eq_getD_getElem?,hy]
      rw[this]
      exact hp.vr h.bF hv
    ·intro base m' dw hv hc
     injection hv with e1 e2 e3
     subst e3
     exact⟨w.heap.size,0,c,fz,e1.symm,P_,by simp[hl],heap_alloc_new w _,A_,hfz.1,hfz.2,rfl,hz0,fun k y hk=>hsp k y AT⟩)
 exact⟨_,Xd0,h2⟩
def Inv.Wt(h:Inv G n D σ a w){d:Option Nat}(hd:bN n d=true){b off k m cap:Nat}{c:Array Value}{t:TypeId}{fz:Nat×Nat}{cs ds:List AV}{v:Value}{news:List Value}{R:Nat->Nat}
 (hb:w.heap[b]? =some (.cells c t fz))(hfz:(∀j,j<c.size->¬(fz.1<=j/\j<fz.2))/\fz.1<=fz.2)(hof:off=0)(hz0:fz=(0,0)\/(0<k/\0<1/\∃x,c[0]? =some (.int .u8 x)))(hsp:∀(i:Nat)(y:Value),off+k*1<=i->c[i]? =some y->y.oneCell'=true)(ho:∀i,d=some i->G.O b=.slot i 0)(hon:G.O b≠.none/\G.O b≠.frame/\G.O b≠.sh/\(∀i,G.O b≠.loc i)/\(∀i j,G.O b≠.cell i j)/\(∀i j,G.O b=.slot i j->d=some i/\j=0))
 (hR:G.R b=off+k*1)(hsz:c.size=off+cap*1)(gv:k+m<=cap)(hkm:0<k+m)(hlc:cs.length=k*1)(hat:At w G.R b off cs)(hs:Src P w R 1 m ds v news)(hRR:R=G.R):
 ∃G',Inv G' n D (σ.put d (.bb t (k+m) (cs++ds))) (a.put d (.slice (some ⟨b,off,none⟩) (k+m) cap)) (w.setRow b (laid c (off+k*1) news))/\aR G w G' (w.setRow b (laid c (off+k*1) news)):=by
 subst hRR
 have dH:off+k*1+news.length<=c.size:=by
  rw[hs.len,hsz,Nat.add_assoc,<-Nat.add_mul]
  exact Nat.add_le_add_left (Nat.mul_le_mul_right _ gv) _
 let G':=G.wT b (G.O b) (off+(k+m)*1)
 have hmul:(k+m)*1=k*1+m*1:=Nat.add_mul ..
 have cM:aR G w G' (w.setRow b (laid c (off+k*1) news)):=aR.write hb ⟨hon.2.1,hon.1⟩
  (fun j hj=>by rw[hR]at hj;rw[l7 _ _ _ dH,if_neg AT]) (by simp only[G',Gh.VQ,if_true,hR,hmul];omega) (fun b' hb'=>t_)
 have m7:cS G' (w.setRow b (laid c (off+k*1) news)):=by
  have hlt:b<w.heap.size:=h.bF.lt hon.1
  refine⟨fun b' hb'=>?_,fun b' hb'=>?_⟩
  ·have u5:w.heap.size<=b':=Xa0
   have:b'≠b:=AT
   simp[G',this,h.bF.mn b' u5]
  ·have u5:w.heap.size<=b':=Xa0
   have:b'≠b:=AT
   simp[G',this,h.bF.nc b' u5]
 have same:∀b',b'≠b->G'.O b'=G.O b'/\G'.R b'=G.R b'/\(w.setRow b (laid c (off+k*1) news)).heap[b']? =w.heap[b']? :=fun b' hb'=>⟨t_,t_,setRow_other w b b' _ hb'⟩
 have dQ:=h.store.mono h.bF cM (fun b' hb'=>by
  grind) (fun b' c' j _ hc'=>by
  grind)
 have:=h.put (s':=σ.s) (lp':=σ.lp) d (fun i hi=>J_) (.bb t (k+m) (cs++ds)) (.slice (some ⟨b,off,none⟩) (k+m) cap) m7 cM dQ (fun _ hx=>hx) (fun i t _ ht=>ht.elim) (fun i t _⟨cs',yV⟩=>Ψ)
  (fun i b' hdi hb'=>same b' (fun e=>A_))
  (fun i b' c' j hdi hb' hc'=>A_)
  (fun i hi=>by
    obtain⟨u,u1,u2,u3⟩:=hat
    subst hi
    refine⟨?_,?_⟩
    ·have hll:(cs++ds).length=(k+m)*1:=by rw[List.length_append,hlc,hs.qA,hmul]
     refine .bb t (k+m) (cs++ds) _ (.sl true 1 (k+m) (cs++ds) b off cap (fun j=>if j<k*1 then u j else news.getD (j -k*1) undef) (fun x hx=>?_) hll (by rw[hll];simp[G']) gv (fun j x hj=>?_) (fun j x hj=>?_)) (fun e=>AT)
     ·rcases List.mem_append.1 hx with hx|hx
      ·exact u3 x hx
      ·exact hs.fl x hx
     ·rw[tV hb,if_pos rfl,l7 _ _ _ dH]
      have hjl:j<(k+m)*1:=by rw[<-hll];exact(List.getElem?_eq_some_iff.1 hj).1
      by_cases hjk:j<k*1
      ·rw[if_neg AT,if_pos hjk]
       grind [List.getElem?_append_left,cell_of_row]
      ·have h1:=hs.len
       grind
     ·by_cases hjk:j<k*1
      ·rw[if_pos hjk]
       rw[List.getElem?_append_left A_]at hj
       exact cM.vr h.bF (u2 j x hj)
      ·rw[if_neg hjk]
       rw[List.getElem?_append_right A_,hlc]at hj
       have h1:=hs.len
       have h2:=hs.qA
       have hlt:j -k*1<news.length:=Xa1
       have hn:news[j -k*1]? =some (news.getD (j -k*1) undef):=by rw[List.getD_eq_getElem?_getD,List.getElem?_eq_getElem hlt];rfl
       exact cM.vr h.bF (hs.mq _ x _ hj hn)
    ·intro base m' dw hv hc
     injection hv with e1 e2 e3
     subst e3
     exact⟨b,off,_,fz,e1.symm,by simp only[G',Gh.Q6,if_true];grind,by simp[G'],setRow_heap w b c _ t fz hb,by grind [qy],by rw[qy _ _ _ dH];exact⟨hfz.1,hfz.2,hof,hz0.imp id fun⟨z1,z2,x,z3⟩=>⟨AT,x,by
      have zp:0<k*1:=Nat.mul_pos z1 z2
      rw[l7 _ _ _ dH,if_neg AT];exact z3⟩,fun i y hi hy=>by
      rw[l7 _ _ _ dH]at hy
      split at hy
      ·exact hs.one _ (List.mem_of_getElem? hy)
      grind⟩⟩)
 exact⟨G',Xd1,cM⟩
theorem Ij(h:Inv G n D σ a w){op:Op}{ty:TypeId}{tb:Nat}{x y:IX}{d:Option Nat}{K:St->Prop}(hd:bN n d=true)(hc:aD P op ty (.ph tb x y)=true)(hw:ki P (.ph tb x y) d σ K):qW P G n D w a op ty d K:=by
 cases op<;>first|(simp[aD]at hc;done)|skip
 rename_i c
 simp only[aD]at hc
 split at hc<;>try(cases hc;done)
 rename_i u v t t' hb
 have hce:=rm hb
 subst hce
 simp only[Bool.and_eq_true]at hc
 obtain⟨⟨hu,hv⟩,hc⟩:=hc
 split at hc<;>try(cases hc;done)
 rename_i e ht
 have ht:=dq ht
 simp only[Bool.and_eq_true]at hc
 obtain⟨⟨⟨⟨hs,hby⟩,hzl⟩,ht'⟩,heb⟩:=hc
 obtain rfl:e=tb:=A_
 obtain⟨i,z,hi,hz,hzs,hz1⟩:=DM hzl
 obtain⟨i',hi',qp⟩:=lE hs
 rw[hi]at hi';injection hi' with hi';subst hi'
 have jR:0<1:=Nat.one_pos
 have xz:0<1:=Nat.one_pos
 have hby:i.bytes=1:=by
  unfold lS at hby
  rw[hi]at hby
  simpa using hby
 have ht2:(∃e',P.underlying t'=some (.slice e'))\/P.underlying t'=some .string:=by
  rcases Bool.or_eq_true .. ▸ht' with h|h
  ·grind [cZ,dq]
  ·grind [yz]
 have hw':sI e σ x d K (σ.x x) (σ.x y):=hw
 have key:∃k m cs ds news,σ.x x=.bb e k cs/\Src P w G.R 1 m ds (a.eval v) news/\(k+m)*1<=room/\K ((σ.drain x).put d (.bb e (k+m) (cs++ds))):=by
  have hbx:=XR.bn h hu
  have hby:=XR.bn h hv
  generalize hx:σ.x x=xv at hw' hbx
  generalize hy:σ.x y=yv at hw' hby
  unfold sI at hw'
  split at hw'<;>try(exact hw'.elim)
  ·rename_i t' k cs o s' m ds
   obtain⟨rfl,h2,h3,h4⟩:=hw'
   obtain⟨news,fN⟩:=Src.Vj (P:=P) hby h2
   grind
  ·rename_i t' k cs ds
   obtain⟨rfl,h3,h4⟩:=hw'
   have e1:=VR.jC hby
   exact⟨k,ds.length,cs,_,_,rfl,by rw[e1];exact Src.GK,h3,h4⟩
 obtain⟨k,m,cs,ds,news,hx,fN,bP,hk⟩:=key
 have hiv:ee (σ.x x)=true:=by rw[hx];rfl
 obtain⟨G1,h1,hp1,hv1,vC,hR1,hsh,Ix,gl⟩:=h.drain hu hiv (AM d) Xa2 Xa2
 rw[hx]at hv1 vC
 have qq:Src P w G1.R 1 m ds (a.eval v) news:=by rw[hR1];exact fN
 have grow:∀(base:Option Addr)(cap:Nat)(olds:List Value),a.eval u=.slice base k cap->cap<k+m->olds.length=k*1->cs.length=k*1->Fl cs->
  (Builtin.firstCells 1 k (.slice base k cap)).run P w.drew=.ok olds.toArray w.drew->(∀(j:Nat)(c:AV)(u:Value),cs[j]? =some c->olds[j]? =some u->VR w G1.R c u)->
  qW P G n D w a (.call {callee:=.builtin .append,args:= #[u,v],argTypes:= #[t,t']}) ty d K:=by
  intro base cap olds e1 Ck hol hcl hcf hold tg
  have cG:=rZ (ty:=ty) ht ht2 hi hz qp qq hold Ck A_ A_
  have hge:k+m<=grownCap w (k+m) cap e:=grownCap_ge w (k+m) cap e
  obtain⟨G2,h3,h4⟩:=(h1.drew).abz (t:=e) (c:=olds.toArray++news.toArray++Builtin.zeroCells z.cells (grownCap w (k+m) cap e -(k+m))) (m:=k+m) (cs:=cs++ds) (cap:=grownCap w (k+m) cap e) (ob:=match d with|some i=>.slot i 0|none=>.none) hd AT
   (fun i hi=>χ) (fun hn=>ω) (by rw[List.length_append,hcl,fN.qA,Nat.add_mul]) hge (by
     simp only[Array.size_append,List.size_toArray,size_zeroCells,hol,fN.len,hzs,<-Nat.add_mul]
     grind) (fun c hc=>by
     rcases List.mem_append.1 hc with hc|hc
     ·exact hcf c hc
     ·exact fN.fl c hc)
   (fun j x hj=>by
     have hl1:=fN.len
     have hl2:=fN.qA
     by_cases hjk:j<k*1
     ·rw[List.getElem?_append_left A_]at hj
      have hlt:j<olds.length:=by rw[hol];exact hjk
      refine⟨olds[j],?_,?_⟩
      ·grind
      ·exact(aR.drew G1 w).vr h1.bF (tg j x _ hj (List.getElem?_eq_getElem hlt))
     ·rw[List.getElem?_append_right A_,hcl]at hj
      have hlt:j -k*1<news.length:=Xa1
      refine⟨news[j -k*1],?_,?_⟩
      ·grind
      ·exact(aR.drew G1 w).vr h1.bF (qq.mq _ x _ hj (List.getElem?_eq_getElem hlt))) (0,0) ⟨fun k _ hk=>by simp at hk,Nat.le_refl _⟩ (.inl rfl) (fun i y hi hy=>by
     rw[Array.append_assoc,<-Array.append_assoc,Array.getElem?_append_right (by simp only[Array.size_append,List.size_toArray,hol,fN.len,<-Nat.add_mul];exact hi)]at hy
     grind [vO,List.mem_of_getElem?])
  intro pos after gd next Q hn
  refine bp ?_ (hn G2 _ _ _ h3 (hp1.trans ((aR.drew G1 w).trans h4)) hk)
  simp[execOp,resolve,invoke,builtin,e1,cG]
 rcases VR.jd (VR.Pn hv1)with⟨e0,rfl,rfl⟩|⟨b,off,cap,e1,hcl,hRb,gv,hat⟩
 ·
  have e1:=e0.own
  by_cases hm:m=0
  ·subst hm
   have hds:ds=[]:=List.eq_nil_of_length_eq_zero Φ
   subst hds
   have cG:=nV (ty:=ty) ht ht2 hi qp qq
   have xC:Inv G1 n D ((σ.drain x).put d (.bb e 0 [])) (a.put d (.slice none 0 0)) w:=by
    have:=h1.put (s':=(σ.drain x).s) (lp':=(σ.drain x).lp) d (fun i hi=>J_) (.bb e 0 []) (.slice none 0 0) h1.bF (aR.refl G1 w) h1.store (fun _ hx=>hx) (fun i t _ ht=>ht.elim) (fun i t _⟨cs,hcs⟩=>Q_)
     (fun _ _ _ _=>⟨rfl,rfl,rfl⟩) (fun _ _ _ _ _ _ hcc=>⟨hcc,rfl,rfl⟩) (fun i hdi=>⟨.bb _ _ _ _ (.slnil _ _) (fun _=>rfl),fun base m' dw hv hc=>A_⟩)
    cases d<;>exact this
   intro pos after gd next Q hn
   refine bp (w':=w) ?_ (hn G1 _ _ _ xC hp1 hk)
   simp[execOp,resolve,invoke,builtin,e1,cG]
  ·exact grow none 0 [] e1 AT B_ B_ Fl.nil h_ (fun j c u hc=>L_)
 ·by_cases dH:k+m<=cap
  ·by_cases hm:m=0
   ·subst hm
    have hds:ds=[]:=List.eq_nil_of_length_eq_zero Φ
    have vB:news=[]:=List.eq_nil_of_length_eq_zero Xa3
    subst hds;subst vB
    have cG:=jj (ty:=ty) (w:=w) ht ht2 hi qp qq (b:=b) (off:=off) (k:=k) (cap:=cap) dH (w':=w) rfl
    simp only[List.append_nil,Nat.add_zero]at hk cG
    have xC:Inv G1 n D ((σ.drain x).put d (.bb e k cs)) (a.put d (a.eval u)) w:=by
     have:=h1.put (s':=(σ.drain x).s) (lp':=(σ.drain x).lp) d (fun i hi=>J_) (.bb e k cs) (a.eval u) h1.bF (aR.refl G1 w) h1.store (fun _ hx=>hx) (fun i t _ ht=>ht.elim) (fun i t _⟨cs,hcs⟩=>Q_)
      (fun _ _ _ _=>⟨rfl,rfl,rfl⟩) (fun _ _ _ _ _ _ hcc=>⟨hcc,rfl,rfl⟩) (fun i hdi=>by subst hdi;exact⟨hv1,vC⟩)
     cases d<;>exact this
    intro pos after gd next Q hn
    refine bp (w':=w) ?_ (hn G1 _ _ _ xC hp1 hk)
    simp[execOp,resolve,invoke,builtin,e1,cG]
   ·obtain⟨b',Xy,c,fz,q1,q2,q3,q4,q5,q6⟩:=vC _ _ _ e1 AT
    injection q1 with q1;injection q1 with q1 q1'
    subst q1;subst q1'
    have hon:G1.O b≠.none/\G1.O b≠.frame/\G1.O b≠.sh/\(∀i,G1.O b≠.loc i)/\(∀i j,G1.O b≠.cell i j)/\(∀i j,G1.O b=.slot i j->d=some i/\j=0):=by
     rw[q2]
     cases d with
     |none=>simp[AM]
     |some i=>grind [AM]
    obtain⟨G2,h3,h4⟩:=h1.Wt (k:=k) (m:=m) hd q4 ⟨q6.1,q6.2.1⟩ q6.2.2.1 (q6.2.2.2.1.imp id fun⟨z1,z2⟩=>⟨z1,jR,z2⟩) q6.2.2.2.2 (fun i hi=>by subst hi;exact q2) hon q3 q5 dH AT hcl hat qq rfl
    have O7:off+k*1+news.length<=c.size:=by
     rw[fN.len,q5,Nat.add_assoc,<-Nat.add_mul]
     exact Nat.add_le_add_left (Nat.mul_le_mul_right _ dH) _
    have dQ:=eU (P:=P) b (off+k*1) e fz news 0 c w q4 q6.1 A_ fN.one
    have cG:=jj (ty:=ty) (w:=w) ht ht2 hi qp qq (b:=b) (off:=off) (k:=k) (cap:=cap) dH (w':=w.setRow b (laid c (off+k*1) news)) Xd2
    intro pos after gd next Q hn
    refine bp ?_ (hn G2 _ _ _ h3 (hp1.trans h4) hk)
    simp[execOp,resolve,invoke,builtin,e1,cG]
  ·have hfl:Fl cs:=Ω
   obtain⟨us,u1,u2,u3⟩:=hat.mq
   exact grow _ cap us e1 AT Xa4 hcl hfl (run_firstCells_some w.drew 1 k ⟨b,off,none⟩ k cap us Xa4 u2) u3
end
section
variable{P:Program}{G G':Gh}{n:Nat}{D:List Deferred}{σ:St}{a:Act}{w w':World}
theorem bB.shape{s:ae}(h:bB G w s){b:Nat}{cs:List AV}(hs:s b=some (.cells cs)):∃t,w.shape? b=some (t,cs.length)/\Ex t cs:=by
 obtain⟨_,_,c,t,h4,h5,h6⟩:=h b _ hs
 exact⟨t,by simp[World.shape?,h4,h5.1],h6⟩
theorem XR.ref(h:Inv G n D σ a w){y:Operand}{x:IX}(hy:cj y x=true){b off:Nat}(hx:σ.x x=.ref b off):a.eval y=.pointer (some ⟨b,off,none⟩):=by
 have:=XR.bn h hy
 rw[hx]at this
 exact VR.gK this
theorem OD(h:Inv G n D σ a w){op:Op}{ty:TypeId}{m t0 j0 u0:Nat}{x:IX}{d:Option Nat}{K:St->Prop}(hd:bN n d=true)(hc:aD P op ty (.HL m t0 j0 u0 x)=true)(hw:ki P (.HL m t0 j0 u0 x) d σ K):qW P G n D w a op ty d K:=by
 cases op<;>first|(simp[aD]at hc;done)|skip
 rename_i t y
 simp only[aD,Bool.and_eq_true,beq_iff_eq]at hc
 obtain⟨⟨rfl,_⟩,hc⟩:=hc
 obtain⟨hi,_,hj0,hj1,hk⟩:=hw
 have hvr:VR w G.R (σ.x x) (a.eval y):=by
  have:=XR.bn h hc
  generalize σ.x x=av at hi this
  cases av<;>first|exact this|(simp[ee]at hi)
 have ft:=iT hi hvr
 have hj:j0+1<(cellsOf (σ.x x)).length:=(List.getElem?_eq_some_iff.1 hj1).1
 have hcs:∀(G':Gh)(w':World)(o:Nat->dp),aR G w G' w'->dS G' w' o (setAt (views (cellsOf (σ.x x))) j0 [.oo t0,.bb u0 0 []]) (a.eval y).cells:=by
  intro G' w' o hp
  have hlen:j0+[AV.oo t0,AV.bb u0 0 []].length<=(views (cellsOf (σ.x x))).length:=by simp[views];omega
  refine⟨by rw[uJ _ _ _ hlen];simp only[List.length_map,views];exact ft.1,fun j c u hcj hu=>?_⟩
  rw[uI _ _ _ _ hlen]at hcj
  by_cases h1:j=j0
  ·subst h1
   rw[if_pos ⟨Nat.le_refl _,B_⟩,Nat.sub_self]at hcj
   injection hcj with hcj;subst hcj
   have hu':=ft.2.1 j .fO u hj0 hu
   obtain rfl:u=.pointer none:=VR.tj hu'
   exact⟨.oo t0,trivial⟩
  ·by_cases h2:j=j0+1
   ·subst h2
    rw[if_pos ⟨AT,B_⟩,show j0+1 -j0=1 by omega]at hcj
    injection hcj with hcj;subst hcj
    have hu':=ft.2.1 _ _ u hj1 hu
    have e:u=.slice none 0 0:=by cases hu' with|bb _ _ _ _ h h0=>exact h0 rfl
    subst e
    exact⟨.bb _ _ _ _ (.slnil _ _) (fun _=>rfl),fun base m' dw hv hc=>by injection hv with _ e2 e3;omega⟩
   ·rw[if_neg By,fG]at hcj
    cases hz:(cellsOf (σ.x x))[j]? with
    |none=>rw[hz]at hcj;cases hcj
    |some c0=>
     rw[hz]at hcj;simp at hcj
     have h1:=hp.vr h.bF (ft.2.1 j c0 u hz hu)
     rw[<-hcj]
     exact⟨h1.view,ew.view ..⟩
 have hfl:Ex t0 (setAt (views (cellsOf (σ.x x))) j0 [.oo t0,.bb u0 0 []]):=by
  intro c hc'
  unfold setAt at hc'
  simp only[List.mem_append]at hc'
  have base:=ft.2.2.views
  rcases hc' with(hc'|hc')|hc'
  ·exact .inl (base c (List.mem_of_mem_take hc'))
  ·simp only[List.mem_cons,List.not_mem_nil,or_false]at hc'
   rcases hc' with rfl|rfl
   ·exact .inr rfl
   ·exact .inl rfl
  ·exact .inl (base c (List.mem_of_mem_drop hc'))
 intro pos after g next Q hn
 obtain⟨G',h1,h2⟩:=h.Vd hd (t:=t0) (.inl ⟨rfl,rfl⟩) hcs hfl
 refine bp ?_ (hn G' _ _ _ h1 h2 (hk w.heap.size (h.store.get_none h.bF)))
 simp[execOp,Instr.box,newVar,newRow]
end
section
variable{P:Program}{G G':Gh}{n:Nat}{D:List Deferred}{σ:St}{a:Act}{w w':World}
def Inv.KL(h:Inv G n D σ a w){d:Option Nat}(hd:bN n d=true){av:AV}{v:Value}(hv:NR G w σ a av v):Inv G n D ((cu σ av d).put d av) (a.put d v) w:=by
 have hd':∀i,d=some i->i<n:=fun i hi=>J_
 by_cases hlp:∃t off,av=.lp t off
 ·obtain⟨t,off,rfl⟩:=hlp
  cases d with
  |none=>exact h
  |some i=>
   obtain⟨b,hv1,hv2⟩:=hv
   refine h.put (s':=σ.s) (lp':=(i,t)::σ.lp) (some i) hd' (.lp t off) v h.bF (aR.refl G w) h.store (fun x hx=>List.mem_cons_of_mem _ hx) (fun j t' hj ht=>?_) (fun j t' _⟨cs,hcs⟩=>Q_)
    (fun _ _ _ _=>⟨rfl,rfl,rfl⟩) (fun _ _ _ _ _ _ hcc=>⟨hcc,rfl,rfl⟩) (fun j hj=>?_)
   ·injection hj with hj;subst hj
    have:t=t':=ht
    grind
   ·injection hj with hj;subst hj
    refine⟨b,hv1,fun cs hcs=>?_⟩
    by_cases hit:i=t
    ·grind [St.put,bA]
    ·simp only[St.put,bA,hit,if_false]at hcs
     grind [Act.put,Array.getElem?_setIfInBounds_ne]
 ·have hnr:ee av=true/\VR w G.R av v/\view av=av:=by
   cases av<;>first|exact hv|grind
  have hl:cu σ av d=σ:=by cases av<;>first|rfl|exact(hlp ⟨_,_,rfl⟩).elim|grind [absurd,ee]
  rw[hl]
  have:=h.put (s':=σ.s) (lp':=σ.lp) d hd' av v h.bF (aR.refl G w) h.store (fun _ hx=>hx) (fun i t _ ht=>(fA hnr.1 t ht).elim) (fun i t _⟨cs,hcs⟩=>(nP hnr.1 cs hcs).elim)
   (fun _ _ _ _=>⟨rfl,rfl,rfl⟩) (fun _ _ _ _ _ _ hcc=>⟨hcc,rfl,rfl⟩) (fun i hi=>by grind [dT.rT,ew.view])
  cases d<;>exact this
def Inv.Tt(h:Inv G n D σ a w){d:Option Nat}(hd:bN n d=true):Inv G n D (σ.put d (.jV [])) (a.put d undef) w:=by
 have:=h.put (s':=σ.s) (lp':=σ.lp) d (fun i hi=>J_) (.jV []) undef h.bF (aR.refl G w) h.store (fun _ hx=>hx) (fun i t _ ht=>ht.elim) (fun i t _⟨cs,hcs⟩=>Q_)
  (fun _ _ _ _=>⟨rfl,rfl,rfl⟩) (fun _ _ _ _ _ _ hcc=>⟨hcc,rfl,rfl⟩) (fun i hi=>⟨#[],rfl,rfl,fun j x y hx=>s_⟩)
 cases d<;>exact this
theorem MP(h:Inv G n D σ a w){op:Op}{ty:TypeId}{f:Nat}{x:IX}{d:Option Nat}{K:St->Prop}(hd:bN n d=true)(hc:aD P op ty (.zG f x)=true)(hw:ki P (.zG f x) d σ K):qW P G n D w a op ty d K:=by
 cases op<;>first|(simp[aD]at hc;done)|skip
 rename_i c
 obtain⟨callee,ys,ats⟩:=c
 simp only[aD]at hc
 split at hc<;>try(cases hc;done)
 rename_i g
 simp only[Bool.and_eq_true,beq_iff_eq]at hc
 obtain⟨rfl,hxs⟩:=hc
 obtain⟨hi,hid,hk⟩:=(show JR P f σ d K (σ.x x) from hw)
 obtain⟨l⟩:=ys
 match l,hxs with
 |[y],hxs=>
  have hy:cj y x=true:=by simpa[jB]using hxs
  have hvr:VR w G.R (σ.x x) (a.eval y):=by
   have:=XR.bn h hy
   generalize σ.x x=av at hi this
   cases av<;>first|exact this|grind [ee]
  have hiv:ee (view (σ.x x))=true:=by generalize σ.x x=av at hi;cases av<;>simp_all [ee,view]
  have hvv:view (view (σ.x x))=view (σ.x x):=by generalize σ.x x=av;cases av<;>rfl
  intro pos after gd next Q hn
  refine bp (v:=a.eval y) ?_ (hn G _ _ _ (h.KL hd (NR.mk hiv hvr.view hvv)) (aR.refl G w) ?_)
  ·have cG:=hid (a.eval y) w
   simp[execOp,resolve,Act.eval,Deferred.ofValue,invoke]at cG⊢
   grind
  ·have e:cu σ (view (σ.x x)) d=σ:=by
    generalize σ.x x=av at hi
    cases av<;>cases d<;>first|rfl|grind [ee]
   grind
 |[],hxs=>simp[jB]at hxs
 |_::_::_,hxs=>simp[jB]at hxs
theorem OF(h:Inv G n D σ a w){op:Op}{ty:TypeId}{x:IX}{d:Option Nat}{K:St->Prop}(hd:bN n d=true)(hc:aD P op ty (.H8 x)=true)(hw:ki P (.H8 x) d σ K):qW P G n D w a op ty d K:=by
 cases op<;>first|(simp[aD]at hc;done)|skip
 rename_i s t y
 simp only[aD,Bool.and_eq_true]at hc
 obtain⟨⟨hy,hs⟩,ht⟩:=hc
 have hw':Lm σ d K (σ.x x):=hw
 generalize hxv:σ.x x=xv at hw'
 unfold Lm at hw'
 split at hw'
 ·rename_i b off
  have e1:=XR.ref h hy hxv
  generalize hsb:σ.s b=ob at hw'
  unfold Ot at hw'
  split at hw'
  ·rename_i cs
   obtain⟨hlt,hk⟩:=hw'
   obtain⟨t',hsh,_⟩:=h.store.shape hsb
   split at hs<;>try(cases hs;done)
   rename_i e hse
   split at hs<;>try(cases hs;done)
   rename_i j hj
   split at ht<;>try(cases ht;done)
   rename_i htu
   have cG:=Lib.run_to_unsafe (P:=P) w ⟨b,off,none⟩ hse htu hj A_ hsh hlt
   intro pos after g next Q hn
   refine bp (v:=.pointer (some ⟨b,off,none⟩)) ?_ (hn G _ _ _ (h.KL hd (NR.mk rfl (.ref b off) rfl)) (aR.refl G w) hk)
   simp[execOp,e1,cG]
  grind
 grind
theorem OE(h:Inv G n D σ a w){op:Op}{ty:TypeId}{u:Nat}{x:IX}{d:Option Nat}{K:St->Prop}(hd:bN n d=true)(hc:aD P op ty (.H7 u x)=true)(hw:ki P (.H7 u x) d σ K):qW P G n D w a op ty d K:=by
 cases op<;>first|(simp[aD]at hc;done)|skip
 rename_i s t y
 simp only[aD,Bool.and_eq_true]at hc
 obtain⟨⟨hy,hs⟩,ht⟩:=hc
 have hw':Ll P u σ d K (σ.x x):=hw
 generalize hxv:σ.x x=xv at hw'
 unfold Ll at hw'
 split at hw'
 ·rename_i b off
  have e1:=XR.ref h hy hxv
  generalize hsb:σ.s b=ob at hw'
  unfold Oq at hw'
  split at hw'
  ·rename_i cs
   obtain⟨t0,hct,hl,hk⟩:=hw'
   obtain⟨t',hsh,hfl⟩:=h.store.shape hsb
   have:t'=t0:=by
    rcases hfl _ (List.mem_of_getElem? hct)with h1|h1
    ·cases h1
    ·grind
   subst this
   split at hs<;>try(cases hs;done)
   rename_i hse
   split at ht<;>try(cases ht;done)
   rename_i e hte
   simp only[Bool.and_eq_true,beq_iff_eq]at ht
   obtain⟨rfl,hj⟩:=ht
   obtain⟨j,hj⟩:=Option.isSome_iff_exists.1 hj
   have cG:=Lib.run_from_unsafe (P:=P) w ⟨b,off,none⟩ hse hte hj hsh hl
   intro pos after g next Q hn
   refine bp (v:=.pointer (some ⟨b,off,none⟩)) ?_ (hn G _ _ _ (h.KL hd (NR.mk rfl (.ref b off) rfl)) (aR.refl G w) hk)
   simp[execOp,e1,cG]
  grind
 grind
def Na(h:Inv G n D σ a w){op:Op}{ty:TypeId}{o:sj}{d:Option Nat}{K:St->Prop}(hd:bN n d=true)(hc:aD P op ty o=true)(hw:Zp P o d σ K):qW P G n D w a op ty d K:=by
 unfold Zp at hw
 cases hp:pv o (xg true σ) σ with
 |dG av=>
  rw[hp]at hw
  obtain⟨v,hr,hnr⟩:=yf h hc (av:=av) (.inl hp)
  exact fun pos after g next Q hn=>bp (hr d pos after g) (hn G _ _ _ (h.KL hd hnr) (aR.refl G w) hw)
 |fY c av=>
  rw[hp]at hw
  obtain⟨v,hr,hnr⟩:=yf h hc (av:=av) (.inr ⟨c,hp,hw.1⟩)
  exact fun pos after g next Q hn=>bp (hr d pos after g) (hn G _ _ _ (h.KL hd hnr) (aR.refl G w) hw.2)
 |no=>
  rw[hp]at hw
  have hw':ki P o d σ K:=hw
  cases o with
  |oU tr x=>grind [RY]
  |lQ z=>grind [EJ]
  |nv z=>exact(EJ h hd).2 hc hw'
  |HJ m x=>grind [Ls]
  |Ad m x=>exact(Ls h hd).2 hc hw'
  |iZ sz m z ps=>grind [Il]
  |store m p v=>grind [MT]
  |append sz by' x y=>grind [J1]
  |jM x=>grind [J5]
  |iw x=>grind [Gi]
  |call f args=>grind [Im]
  |l8 sz by' z l c=>grind [J6]
  |iq x args=>grind [MQ]
  |my x=>grind [J4]
  |ve x=>grind [OG]
  |mZ sz m z ps=>grind [Gg]
  |pd sz by' z x y=>grind [Ii]
  |pj sz by' z x y=>grind [Ik]
  |HK sz m x=>grind [OC]
  |HL m t j u x=>grind [OD]
  |ph t x y=>grind [Ij]
  |H8 x=>grind [OF]
  |zG f x=>grind [MP]
  |H7 u x=>grind [OE]
  |sO z x=>grind [J3]
  |R6 sz ow x=>grind [RX]
  |zU sz ow x=>grind [MS]
  |nE x=>grind [EL]
  |nG off j x=>grind [MR]
  |UW ne x=>grind [RW]
  |zF f i args=>grind [MO]
  |_=>exact hw'.elim
def x4(P:Program)(ops:Array Oper)(o:Oper)(a:Act)(w:World)(next:Act->World->Prop)(Q:Exit->Act->World->Prop):Prop:=if Region.wanted o (yielded ops a.tmps)then o.wp P a w next Q\/(o.asks P a w/\LetsOut Q)else next (a.put o.dst undef) w
def CE{ops:Array Oper}{o:Oper}{next:Act->World->Prop}{Q:Exit->Act->World->Prop}(hw:Region.wanted o (yielded ops a.tmps)=true)(h:o.wp P a w next Q):x4 P ops o a w next Q:=by unfold x4;grind
def Ff{ops:Array Oper}{o:Oper}{next:Act->World->Prop}{Q:Exit->Act->World->Prop}(hw:Region.wanted o (yielded ops a.tmps)=false)(h:next (a.put o.dst undef) w):x4 P ops o a w next Q:=by unfold x4;grind
def Ih(h:Inv G n D σ a w){d:Option Nat}(hd:bN n d=true)(av:AV)(hl:∀t,bS av t->∀i,d=some i->(i,t)∈σ.lp):Inv G n D (σ.put d (.when false av)) (a.put d undef) w:=by
 have:=h.put (s':=σ.s) (lp':=σ.lp) d (fun i hi=>J_) (.when false av) undef h.bF (aR.refl G w) h.store (fun _ hx=>hx) (fun i t hi ht=>hl t ht i hi) (fun i t _⟨cs,hcs⟩=>Q_)
  (fun _ _ _ _=>⟨rfl,rfl,rfl⟩) (fun _ _ _ _ _ _ hcc=>⟨hcc,rfl,rfl⟩) (fun i hi=>⟨fun hh=>Bool.noConfusion hh,fun _=>rfl⟩)
 cases d<;>exact this
theorem oH(σ:St):∀(av:AV)(d:Option Nat),(cu σ av d).e=σ.e/\(cu σ av d).s=σ.s/\∀x∈σ.lp,x∈(cu σ av d).lp
 |.lp t _,some i=>⟨rfl,rfl,fun x hx=>List.mem_cons_of_mem _ hx⟩
 |.lp t _,none=>⟨rfl,rfl,fun _ hx=>hx⟩
 |.when _ av,d=>oH σ av d
 |.undef,_|.bool _,_|.int _ _,_|.str _,_|.fO,_|.ref _ _,_|.sp _,_|.loc _,_|.sl _ _ _ _,_|.arr _ _ _ _,_|.agg _,_|.jV _,_|.fn _ _ _,_|.p8,_|.mp _,_|.tH,_|.us _ _ _,_|.one,_|.oo _,_|.l9,_|.bb _ _ _,_=>⟨rfl,rfl,fun _ hx=>hx⟩
def PG(h:Inv G n D σ a w)(av:AV)(d:Option Nat):Inv G n D (cu σ av d) a w:=by
 obtain⟨e1,e2,e3⟩:=oH σ av d
 exact⟨h.bF,by rw[e2];exact h.store,h.size,fun i v hv=>by rw[e1];exact h.da i v hv,fun i hi=>by rw[e1];exact h.EH i hi,fun i t ht=>e3 _ (h.Kx i t A_),h.ry⟩
def y9:∀(av:AV)(d:Option Nat)(t:Nat),bS av t->∀i,d=some i->(i,t)∈(cu σ av d).lp
 |.lp t' off,_,t,ht,i,rfl=>by have:t'=t:=ht;subst this;exact List.mem_cons_self
 |.when _ av,d,t,ht,i,hi=>y9 av d t ht i hi
 |.undef,_,_,ht,_,_|.bool _,_,_,ht,_,_|.int _ _,_,_,ht,_,_|.str _,_,_,ht,_,_|.fO,_,_,ht,_,_|.ref _ _,_,_,ht,_,_|.sp _,_,_,ht,_,_|.loc _,_,_,ht,_,_|.sl _ _ _ _,_,_,ht,_,_
 |.arr _ _ _ _,_,_,ht,_,_|.agg _,_,_,ht,_,_|.jV _,_,_,ht,_,_|.fn _ _ _,_,_,ht,_,_|.p8,_,_,ht,_,_|.mp _,_,_,ht,_,_|.tH,_,_,ht,_,_|.us _ _ _,_,_,ht,_,_|.one,_,_,ht,_,_|.oo _,_,_,ht,_,_|.l9,_,_,ht,_,_|.bb _ _ _,_,_,ht,_,_=>ht.elim
def Inv.ug{d:Option Nat}{av:AV}(h:Inv G n D (σ.put d av) a w)(hd:bN n d=true):Inv G n D (σ.put d (.when true av)) a w:=by
 cases d with
 |none=>exact h
 |some i=>
 have hlk:∀k,k≠i->look (σ.put (some i) (.when true av)).e k=look (σ.put (some i) av).e k:=fun k hk=>by simp[St.put,bA,Ne.symm hk]
 have e1:look (σ.put (some i) av).e i=av:=p_
 have e2:look (σ.put (some i) (.when true av)).e i=.when true av:=p_
 have Ix:∀d' cs,look (σ.put (some i) (.when true av)).e d'=.loc cs->look (σ.put (some i) av).e d'=.loc cs:=by
  intro d' cs hcs
  by_cases hd':d'=i
  ·grind
  ·grind
 have fr:∀k av' u,dT G w (σ.put (some i) av).e a.tmps k av' u->dT G w (σ.put (some i) (.when true av)).e a.tmps k av' u:=fun k av' u hv=>dT.frame (fun _ _ hv=>hv) (fun b _=>⟨rfl,rfl,rfl⟩) (fun _ _ _ _ hc=>⟨hc,rfl,rfl⟩) _ _ (fun d' _ cs hcs=>⟨cs,Ix d' cs hcs,rfl⟩) hv
 refine⟨h.bF,h.store,h.size,fun k u hu=>?_,fun k hk=>?_,fun k t ht=>?_,h.ry⟩
 ·have hs:=h.da k u hu
  by_cases hk:k=i
  ·subst hk
   rw[e1]at hs
   rw[e2]
   exact⟨fun _=>fr _ _ _ hs,fun hh=>Bool.noConfusion hh⟩
  grind
 ·have:k≠i:=by
   have:i<n:=by simpa[bN]using hd
   omega
  rw[hlk k this];exact h.EH k hk
 ·by_cases hk:k=i
  ·subst hk
   rw[e2]at ht
   exact h.Kx k t (by rw[e1];exact ht)
  ·rw[hlk k hk]at ht;exact h.Kx k t ht
theorem wS{ops:Array Oper}{tmps:Array Value}{j t:Nat}(h:(ops[j]?).bind (·.dst)=some t):yielded ops tmps j=(match tmps[t]? with|some (.bool b)=>some b|_=>none):=by grind [yielded]
def Cg{ops:Array Oper}{o:Oper}{j t:Nat}{want b:Bool}(hg:o.guard=some (j,want))(ht:(ops[j]?).bind (·.dst)=some t)(hv:a.tmps[t]? =some (.bool b)):Region.wanted o (yielded ops a.tmps)=(b==want):=by grind [Region.wanted,wS]
def Hj(h:Inv G n D σ a w){t:Nat}(hl:look σ.e t≠.undef):∃v,a.tmps[t]? =some v/\dT G w σ.e a.tmps t (look σ.e t) v:=by
 have hlt:t<a.tmps.size:=by rw[h.size];exact h.Cy hl
 exact⟨_,gB hlt,h.da t _ (gB hlt)⟩
def jr(h:Inv G n D σ a w){ops:Array Oper}{o:Oper}{o':aH}{K:St->Prop}(hc:ja P n ops o o'=true)(hw:JH P o' σ K){next:Act->World->Prop}{Q:Exit->Act->World->Prop}
 (hn:∀G' E' a' w',Inv G' n D E' a' w'->aR G w G' w'->K E'->next a' w'):x4 P ops o a w next Q:=by
 obtain⟨dst,op,ty,pos,after,g⟩:=o
 obtain⟨d,io,ig⟩:=o'
 simp only[ja,Bool.and_eq_true,beq_iff_eq]at hc
 obtain⟨⟨⟨rfl,hd⟩,hcg⟩,WA⟩:=hc
 have runs:∀{E₁:St},Inv G n D E₁ a w->Zp P io dst E₁ K->(⟨dst,op,ty,pos,after,g⟩:Oper).wp P a w next Q:=fun h1 ho=>Na h1 hd WA ho pos after g next Q hn
 cases ig with
 |none=>
  cases g with
  |some g=>simp[RN]at hcg
  |none=>exact CE rfl (runs h hw)
 |some tw=>
  obtain⟨t,want⟩:=tw
  cases g with
  |none=>simp[RN]at hcg
  |some jw=>
  obtain⟨j,z9⟩:=jw
  simp only[RN,Bool.and_eq_true,beq_iff_eq]at hcg
  obtain⟨rfl,ht⟩:=hcg
  have hw':yU P io dst t z9 σ K (look σ.e t):=hw
  have skip:∀{E₁:St},Inv G n D E₁ a w->K (E₁.put dst (.jV []))->next (a.put dst undef) w:=fun h1 hk=>hn G _ _ _ (h1.Tt hd) (aR.refl G w) hk
  have core:∀(g:Bool),Region.wanted ⟨dst,op,ty,pos,after,some (j,z9)⟩ (yielded ops a.tmps)=g->NQ P g io σ dst K (pv io (xg g σ) σ)->x4 P ops ⟨dst,op,ty,pos,after,some (j,z9)⟩ a w next Q:=by
   intro g hwt hx
   cases g with
   |true=>
    refine CE hwt ?_
    cases hp:pv io (xg true σ) σ with
    |dG av=>
     rw[hp]at hx
     obtain⟨v,hr,hnr⟩:=yf h WA (av:=av) (.inl hp)
     refine bp (hr _ _ _ _) (hn G _ _ _ ((h.KL hd hnr).ug hd) (aR.refl G w) hx)
    |fY c av=>
     rw[hp]at hx
     obtain⟨v,hr,hnr⟩:=yf h WA (av:=av) (.inr ⟨c,hp,hx.1 rfl⟩)
     refine bp (hr _ _ _ _) (hn G _ _ _ ((h.KL hd hnr).ug hd) (aR.refl G w) hx.2)
    |no=>
     rw[hp]at hx
     exact runs h (hx.1 rfl)
   |false=>
    refine Ff hwt ?_
    cases hp:pv io (xg false σ) σ with
    |dG av=>
     rw[hp]at hx
     exact hn G _ _ _ (Ih (PG h av dst) hd av (fun t' ht' i hi=>y9 av dst t' ht' i hi)) (aR.refl G w) hx
    |fY c av=>
     rw[hp]at hx
     exact hn G _ _ _ (Ih (PG h av dst) hd av (fun t' ht' i hi=>y9 av dst t' ht' i hi)) (aR.refl G w) hx.2
    |no=>
     rw[hp]at hx
     exact skip h (hx.2 rfl)
  cases hlk:look σ.e t with
  |bool b=>
   rw[hlk]at hw'
   obtain⟨v,hv1,hv2⟩:=Hj h (t:=t) A_
   rw[hlk]at hv2
   have:=VR.m9 hv2.1
   subst this
   exact core _ (Cg (o:=⟨dst,op,ty,pos,after,some (j,z9)⟩) rfl ht hv1) hw'
  | «when» b' g=>
    rw[hlk]at hw'
    obtain⟨v,hv1,hv2⟩:=Hj h (t:=t) A_
    rw[hlk]at hv2
    cases g with
    |bool b=>
     have hx:NQ P (b'&&(b==z9)) io σ dst K (pv io (xg (b'&&(b==z9)) σ) σ):=hw'
     cases b' with
     |true=>
      have hvb:=hv2.1 rfl
      have:=VR.m9 hvb.1
      subst this
      exact core _ (Cg (o:=⟨dst,op,ty,pos,after,some (j,z9)⟩) rfl ht hv1) hx
     |false=>
      have:=hv2.2 rfl
      grind [Region.wanted,yielded,wS]
    |_=>exact hw'.elim
  |jV vs=>
   rw[hlk]at hw'
   cases vs with
   |cons _ _=>exact hw'.elim
   |nil=>
    obtain⟨v,hv1,hv2⟩:=Hj h (t:=t) A_
    rw[hlk]at hv2
    obtain⟨ys,rfl,_⟩:=hv2
    have hwt:Region.wanted ⟨dst,op,ty,pos,after,some (j,z9)⟩ (yielded ops a.tmps)=false:=by
     unfold Region.wanted
     simp only[wS ht,hv1]
     rfl
    exact Ff hwt (skip h hw')
  |_=>rw[hlk]at hw';exact hw'.elim
end
section
variable{P:Program}{G G':Gh}{n:Nat}{D:List Deferred}{σ:St}{a:Act}{w w':World}
def uM{ops:Array Oper}{Q:Exit->Act->World->Prop}{K:St->Prop}(G₀:Gh)(w₀:World)
 (hn:∀G' E' a' w',Inv G' n D E' a' w'->aR G₀ w₀ G' w'->K E'->Q .normal a' w'):∀(l:List Oper)(l':List aH)(G:Gh)(σ:St)(a:Act)(w:World),eD P n ops l l'=true->Inv G n D σ a w->aR G₀ w₀ G w->Ua P l' σ K->wpList P ops Q l a w
 |[],[],G,σ,a,w,_,h,hp,hk=>hn G σ a w h hp hk
 |o::l,o'::l',G,σ,a,w,hc,h,hp,hk=>by
  simp only[eD,Bool.and_eq_true]at hc
  show x4 P ops o a w (wpList P ops Q l) Q
  exact jr h hc.1 hk fun G' E' a' w' h1 h2 h3=>uM G₀ w₀ hn l l' G' E' a' w' hc.2 h1 (hp.trans h2) h3
 |[],_::_,_,_,_,_,hc,_,_,_=>by simp[eD]at hc
 |_::_,[],_,_,_,_,hc,_,_,_=>by simp[eD]at hc
theorem E6(e:List (Nat×AV))(i:Nat):∀(live:List Nat),look (live.map fun j=>(j,dU (look e j))) i=if i∈live then dU (look e i)else .undef
 |[]=>rfl
 |j::live=>by
  rw[List.map_cons,bA,E6 e i live]
  grind
theorem yP(av:AV)(t:Nat):¬bS (dU av) t:=by cases av<;>simp[dU,bS]
theorem Inv.xJ(h:Inv G n D σ a w)(live:List Nat):Inv G n D (σ.xJ live) a w:=by
 have hl:∀i,look (σ.xJ live).e i=if i∈live then dU (look σ.e i)else .undef:=fun i=>E6 σ.e i live
 have hu:∀i v,dT G w (σ.xJ live).e a.tmps i .undef v:=fun i v=>⟨.undef _,trivial⟩
 refine⟨h.bF,h.store,h.size,fun i v hv=>?_,fun i hi=>?_,fun i t ht=>?_,h.ry⟩
 ·rw[hl i]
  by_cases hi:i∈live
  ·rw[if_pos hi]
   have hs:=h.da i v hv
   generalize look σ.e i=av at hs
   have fr:∀av,(∀t,¬bS av t)->dT G w σ.e a.tmps i av v->dT G w (σ.xJ live).e a.tmps i av v:=fun av hno hs=>dT.frame (fun _ _ hv=>hv) (fun b _=>⟨rfl,rfl,rfl⟩) (fun _ _ _ _ hc=>⟨hc,rfl,rfl⟩) _ _ (fun t ht=>(hno t ht).elim) hs
   cases av<;>first|exact hu i v|exact fr _ (fun t ht=>ht) hs
  grind
 ·rw[hl i]
  by_cases hi':i∈live
  ·rw[if_pos hi',h.EH i hi];rfl
  grind
 ·rw[hl i]at ht
  by_cases hi:i∈live
  ·rw[if_pos hi]at ht;grind [yP]
  ·rw[if_neg hi]at ht;exact ht.elim
def Cx(e:List (Nat×AV))(i:Nat):∀(live:List (Nat×Bool)),look (live.map fun p=>(p.1,Ra p.2 (dU (look e p.1)))) i=.undef\/look (live.map fun p=>(p.1,Ra p.2 (dU (look e p.1)))) i=dU (look e i)\/look (live.map fun p=>(p.1,Ra p.2 (dU (look e p.1)))) i=view (dU (look e i))
 |[]=>.inl rfl
 |p::live=>by
  rw[List.map_cons,bA]
  by_cases h:p.1=i
  ·rw[if_pos h,h]
   cases p.2 with
   |false=>exact .inr (.inl rfl)
   |true=>exact .inr (.inr rfl)
  ·rw[if_neg h];exact Cx e i live
theorem dT.ac1{e:List (Nat×AV)}{tmps:Array Value}{i:Nat}{av:AV}{v:Value}(h:dT G w e tmps i av v):dT G w e tmps i (view av) v:=by cases av<;>first|exact h|exact⟨VR.undef _,trivial⟩|exact⟨VR.view h.1,ew.view ..⟩
theorem Uj(av:AV)(h:∀t,¬bS av t)(t:Nat):¬bS (view av) t:=by cases av<;>first|exact h t|exact fun h=>h
theorem Inv.fk(h:Inv G n D σ a w)(live:List (Nat×Bool)):Inv G n D (σ.fk live) a w:=by
 have fr:∀i v,a.tmps[i]? =some v->dT G w (σ.fk live).e a.tmps i (dU (look σ.e i)) v:=fun i v hv=>by
  have hs:=h.da i v hv
  generalize look σ.e i=av at hs
  have fr:∀av,(∀t,¬bS av t)->dT G w σ.e a.tmps i av v->dT G w (σ.fk live).e a.tmps i av v:=fun av hno hs=>dT.frame (fun _ _ hv=>hv) (fun b _=>⟨rfl,rfl,rfl⟩) (fun _ _ _ _ hc=>⟨hc,rfl,rfl⟩) _ _ (fun t ht=>(hno t ht).elim) hs
  cases av<;>first|exact⟨.undef _,trivial⟩|exact fr _ (fun t ht=>ht) hs
 have hl:=fun i=>Cx σ.e i live
 refine⟨h.bF,h.store,h.size,fun i v hv=>?_,fun i hi=>?_,fun i t ht=>?_,h.ry⟩
 ·rcases hl i with e|e|e
  ·have e':look (σ.fk live).e i=.undef:=e
   rw[e'];exact⟨.undef _,trivial⟩
  ·have e':look (σ.fk live).e i=dU (look σ.e i):=e
   grind
  ·have e':look (σ.fk live).e i=view (dU (look σ.e i)):=e
   grind [dT.ac1]
 ·rcases hl i with e|e|e
  ·exact e
  ·have e':look (σ.fk live).e i=dU (look σ.e i):=e
   rw[e',h.EH i hi];rfl
  ·have e':look (σ.fk live).e i=view (dU (look σ.e i)):=e
   rw[e',h.EH i hi];rfl
 ·have ht':bS (look (σ.fk live).e i) t:=ht
  rcases hl i with e|e|e
  ·have e':look (σ.fk live).e i=.undef:=e
   rw[e']at ht';exact ht'.elim
  ·have e':look (σ.fk live).e i=dU (look σ.e i):=e
   grind [yP]
  ·have e':look (σ.fk live).e i=view (dU (look σ.e i)):=e
   grind [Uj,yP]
def Up(P:Program)(n:Nat):Prop:=
 ∀(D:List Deferred)(id:Nat)(ops:Array Oper)(jz:List aH)(q:Nat)(G:Gh)(σ:St)(a:Act)(w:World)(K:St->Prop)(Q:Exit->Act->World->Prop),
  eD P n ops ops.toList jz=true->Inv G n D σ a w->X9 P q jz σ K->
  (∀G' E' a' w',Inv G' n D E' a' w'->aR G w G' w'->K E'->Q .normal a' w')->(Code.region id ops false).wp P Q a w
def Uo(P:Program)(n:Nat):Prop:=
 ∀(D:List Deferred)(id:Nat)(ops:Array Oper)(T:List Nat)(l:List Item)(G:Gh)(σ:St)(a:Act)(w:World)(K:St->Prop)(Q:Exit->Act->World->Prop),
  V8 P T n ops l=true->Inv G n D σ a w->nh T σ.e=true->Hy P T l σ K->
  (∀G' E' a' w',Inv G' n D E' a' w'->aR G w G' w'->K E'->Q .normal a' w')->(Code.region id ops true).wp P Q a w
def Uq(P:Program)(n:Nat):Prop:=
 ∀(D:List Deferred)(id:Nat)(ops:Array Oper)(iP:List (List Bool))(jz:List aH)(G:Gh)(σ:St)(a:Act)(w:World)(K:St->Prop)(Q:Exit->Act->World->Prop),
  eD P n ops ops.toList jz=true->Lf ops iP=true->Inv G n D σ a w->NL P iP jz K jz (wQ jz) σ->
  (∀G' E' a' w',Inv G' n D E' a' w'->aR G w G' w'->K E'->Q .normal a' w')->(Code.region id ops true).wp P Q a w
def vP(P:Program)(n:Nat):Prop:=Up P n/\Uo P n/\Uq P n
def Rel(n:Nat)(D:List Deferred)(G₀:Gh)(w₀:World)(Q:Exit->St->Prop)(Q':Exit->Act->World->Prop):Prop:=∀x G' E' a' w',Inv G' n D E' a' w'->aR G₀ w₀ G' w'->Q x E'->Q' x a' w'
def Nw:∀(c:Code){L:List Code}{cr:Code}{l:Nat},zt c l=some (L,cr)->c=L.foldr Code.seq (.seq (.label l) cr)/\findLabel c l=some (Code.skip.seq cr):=by
 intro c
 induction c with
 |seq s c _ ih=>
  intro L cr l h
  have gen:(∀m,s≠.label m)->(if(findLabel s l).isNone then(zt c l).map fun p=>(s::p.1,p.2)else none)=some (L,cr)->Code.seq s c=L.foldr Code.seq (.seq (.label l) cr)/\findLabel (Code.seq s c) l=some (Code.skip.seq cr):=by
   intro _ h
   split at h
   ·rename_i hn
    cases hs:zt c l with
    |none=>grind
    |some p=>grind [findLabel,Option.isNone_iff_eq_none,q1,q2]
   ·cases h
  cases s with
  |label m=>
   have h:(if m==l then some (([]:List Code),c)else none)=some (L,cr):=h
   split at h
   ·rename_i hm
    injection h with h;injection h with h1 h2;subst h1;subst h2
    have hm':m=l:=by simpa using hm
    subst hm'
    exact⟨rfl,by simp[findLabel]⟩
   ·cases h
  |_=>exact gen (fun m e=>aT) h
 |_=>intro L cr l h;cases h
theorem nZ{a:IC}(h:wA a=true):a=.skip:=by cases a<;>first|rfl|cases h
def re(n:Nat)(D:List Deferred)(G₀:Gh)(w₀:World)(C:(St->Prop)->(St->Nat)->Prop)(a:Act)(w:World)(k:Nat):Prop:=∃I μ G τ,C I μ/\Inv G n D τ a w/\aR G₀ w₀ G w/\I τ/\μ τ<=k
noncomputable def Kr(n:Nat)(D:List Deferred)(G₀:Gh)(w₀:World)(C:(St->Prop)->(St->Nat)->Prop)(a:Act)(w:World):Nat:=Classical.epsilon fun k=>re n D G₀ w₀ C a w k/\∀j,re n D G₀ w₀ C a w j->k<=j
def zT{n:Nat}{D:List Deferred}{G₀:Gh}{w₀:World}{C:(St->Prop)->(St->Nat)->Prop}{a:Act}{w:World}(h:∃k,re n D G₀ w₀ C a w k):
 re n D G₀ w₀ C a w (Kr n D G₀ w₀ C a w)/\∀j,re n D G₀ w₀ C a w j->Kr n D G₀ w₀ C a w<=j:=by
 refine Classical.epsilon_spec (p:=fun k=>re n D G₀ w₀ C a w k/\∀j,re n D G₀ w₀ C a w j->k<=j) ?_
 obtain⟨k,hk⟩:=h
 induction k using Nat.strongRecOn with
 |_ k ih=>grind
def cV(hD:vP P n):∀(ic:IC)(c:Code)(G₀:Gh)(w₀:World)(Q:Exit->St->Prop)(Q':Exit->Act->World->Prop)(G:Gh)(σ:St)(a:Act)(w:World),
 mr P n c ic=true->Rel n D G₀ w₀ Q Q'->Inv G n D σ a w->aR G₀ w₀ G w->gx P ic Q σ->c.wp P Q' a w
 |.skip,c,G₀,w₀,Q,Q',G,σ,a,w,hc,hr,h,hp,hw=>by
  cases c<;>first|(simp[mr]at hc;done)|skip
  exact wp_skip (hr _ G σ a w h hp hw)
 |.Vw q jz live,c,G₀,w₀,Q,Q',G,σ,a,w,hc,hr,h,hp,hw=>by
  cases c<;>first|(simp[mr]at hc;done)|skip
  rename_i id ops draw
  simp only[mr,Bool.and_eq_true]at hc
  have hn:∀G' E' a' w',Inv G' n D E' a' w'->aR G₀ w₀ G' w'->Ei live Q E'->Q' .normal a' w':=fun G' E' a' w' h1 h2 h3=>hr _ G' _ a' w' (h1.xJ live) h2 h3
  cases q with
  |none=>
   have hdr:draw=false:=by simpa using hc.2
   subst hdr
   exact wp_region_list (uM G₀ w₀ hn ops.toList jz G σ a w hc.1 h hp hw)
  |some q=>
   have hdr:draw=false:=by simpa using hc.2
   subst hdr
   exact hD.1 D id ops jz q G σ a w _ Q' hc.1 h hw fun G' E' a' w' h1 h2 h3=>hn G' E' a' w' h1 (hp.trans h2) h3
 |.TM T q jz live,c,G₀,w₀,Q,Q',G,σ,a,w,hc,hr,h,hp,hw=>False.elim (show False from hw)
 |.Nn T l live,c,G₀,w₀,Q,Q',G,σ,a,w,hc,hr,h,hp,hw=>by
  cases c<;>first|(simp[mr]at hc;done)|skip
  rename_i id ops draw
  simp only[mr,Bool.and_eq_true]at hc
  obtain⟨rfl,hc⟩:=hc
  have hn:∀G' E' a' w',Inv G' n D E' a' w'->aR G₀ w₀ G' w'->Ei live Q E'->Q' .normal a' w':=fun G' E' a' w' h1 h2 h3=>hr _ G' _ a' w' (h1.xJ live) h2 h3
  exact hD.2.1 D id ops T l G σ a w _ Q' hc h hw.1 hw.2 fun G' E' a' w' h1 h2 h3=>hn G' E' a' w' h1 (hp.trans h2) h3
 |.TN iP jz live,c,G₀,w₀,Q,Q',G,σ,a,w,hc,hr,h,hp,hw=>by
  cases c<;>first|(simp[mr]at hc;done)|skip
  rename_i id ops draw
  simp only[mr,Bool.and_eq_true]at hc
  obtain⟨rfl,hc1,hc2⟩:=hc
  have hn:∀G' E' a' w',Inv G' n D E' a' w'->aR G₀ w₀ G' w'->Ei live Q E'->Q' .normal a' w':=fun G' E' a' w' h1 h2 h3=>hr _ G' _ a' w' (h1.xJ live) h2 h3
  exact hD.2.2 D id ops iP jz G σ a w _ Q' hc1 hc2 h hw fun G' E' a' w' h1 h2 h3=>hn G' E' a' w' h1 (hp.trans h2) h3
 |.seq x y,c,G₀,w₀,Q,Q',G,σ,a,w,hc,hr,h,hp,hw=>by
  cases c<;>first|(simp[mr]at hc;done)|skip
  rename_i c1 c2
  simp only[mr,Bool.and_eq_true]at hc
  refine wp_seq (cV hD x c1 G₀ w₀ (AY P y Q) _ G σ a w hc.1 ?_ h hp ?_)
  ·intro e G' E' a' w' h1 h2 h3
   cases e with
   |normal=>exact cV hD y c2 G₀ w₀ Q Q' G' E' a' w' hc.2 hr h1 h2 h3
   |_=>exact hr _ G' E' a' w' h1 h2 h3
  ·have:(fun x τ=>match x with|.normal=>gx P y Q τ|x=>Q x τ)=AY P y Q:=by
    funext e τ;cases e<;>rfl
   have hw':gx P x (fun x τ=>match x with|.normal=>gx P y Q τ|x=>Q x τ) σ:=hw
   grind
 |.cond cx x y,c,G₀,w₀,Q,Q',G,σ,a,w,hc,hr,h,hp,hw=>by
  cases c<;>first|(simp[mr]at hc;done)|skip
  rename_i o c1 c2
  simp only[mr,Bool.and_eq_true]at hc
  obtain⟨⟨hx,h1⟩,h2⟩:=hc
  have hb:=XR.bn h hx
  have hw':Lh P x y Q σ (σ.x cx):=by
   have:gx P (.cond cx x y) Q σ=Lh P x y Q σ (σ.x cx):=by
    show(match σ.x cx with|.bool v=>(v=true->gx P x Q σ)/\(v=false->gx P y Q σ)|_=>False)=_
    cases σ.x cx<;>rfl
   rw[<-this];exact hw
  generalize σ.x cx=xv at hb hw'
  cases xv<;>try exact hw'.elim
  rename_i v
  have hv:=VR.m9 hb
  exact wp_cond_split hv (fun hv=>cV hD x c1 G₀ w₀ Q Q' G σ a w h1 hr h hp (hw'.1 hv)) (fun hv=>cV hD y c2 G₀ w₀ Q Q' G σ a w h2 hr h hp (hw'.2 hv))
 |.block id x,c,G₀,w₀,Q,Q',G,σ,a,w,hc,hr,h,hp,hw=>by
  cases c<;>first|(simp[mr]at hc;done)|skip
  rename_i id' c1
  simp only[mr,Bool.and_eq_true,beq_iff_eq]at hc
  obtain⟨rfl,hc⟩:=hc
  refine wp_block (cV hD x c1 G₀ w₀ (Mz id' Q) _ G σ a w hc ?_ h hp hw)
  intro e G' E' a' w' h1 h2 h3
  cases e with
  |exit i=>
   have h3':(bif i==id' then Q .normal E' else Q (.exit i) E'):=h3
   by_cases hi:i=id'
   ·have:(i==id')=true:=by simpa using hi
    rw[this]at h3'
    simpa[Exit.inBlock,hi]using hr _ G' E' a' w' h1 h2 h3'
   ·have:(i==id')=false:=by simpa using hi
    rw[this]at h3'
    simpa[Exit.inBlock,hi]using hr _ G' E' a' w' h1 h2 h3'
  |_=>exact hr _ G' E' a' w' h1 h2 h3
 |.loop live x,c,G₀,w₀,Q,Q',G,σ,a,w,hc,hr,h,hp,hw=>by
  cases c<;>first|(simp[mr]at hc;done)|skip
  rename_i c1
  simp only[mr]at hc
  obtain⟨I,μ,h0,hI⟩:=hw
  have key:∀(m:Nat)(G:Gh)(σ:St)(a:Act)(w:World),Inv G n D σ a w->aR G₀ w₀ G w->I σ->μ σ<m->Code.rounds P c1 Q' m a w:=by
   intro m
   induction m with
   |zero=>intro G σ a w _ _ _ hm;omega
   |succ m ih=>
    intro G σ a w h hp hi hm
    rw[rounds_succ]
    refine cV hD x c1 G₀ w₀ (IY live I μ (μ σ) Q) _ G σ a w hc ?_ h hp (hI σ hi)
    intro e G' E' a' w' h1 h2 h3
    cases e with
    |normal=>exact ih G' _ a' w' (h1.fk live) h2 h3.1 (by have:=h3.2;omega)
    |_=>exact hr _ G' E' a' w' h1 h2 h3
  exact wp_loop_rounds (μ (σ.fk live)+1) (key _ G _ a w (h.fk live) hp h0 AT)
 |.join live x y,c,G₀,w₀,Q,Q',G,σ,a,w,hc,hr,h,hp,hw=>by
  cases c<;>first|(simp[mr]at hc;done)|skip
  rename_i c1 c2
  simp only[mr,Bool.and_eq_true]at hc
  obtain⟨J,h0,hJ⟩:=hw
  refine wp_seq (cV hD x c1 G₀ w₀ (px live J Q) _ G σ a w hc.1 ?_ h hp h0)
  intro e G' E' a' w' h1 h2 h3
  cases e with
  |normal=>exact cV hD y c2 G₀ w₀ Q Q' G' _ a' w' hc.2 hr (h1.fk live) h2 (hJ _ h3)
  |_=>exact hr _ G' E' a' w' h1 h2 h3
 |.exit id,c,G₀,w₀,Q,Q',G,σ,a,w,hc,hr,h,hp,hw=>by
  cases c<;>first|(simp[mr]at hc;done)|skip
  simp only[mr,beq_iff_eq]at hc
  subst hc
  exact wp_exit (hr _ G σ a w h hp hw)
 |.scope x,c,G₀,w₀,Q,Q',G,σ,a,w,hc,hr,h,hp,hw=>by
  cases c<;>first|(simp[mr]at hc;done)|skip
  rename_i c1
  simp only[mr]at hc
  have hw':gx P x (wK Q) σ:=by
   have:(fun x τ=>match x with|.goto _=>False|x=>Q x τ)=wK Q:=by funext e τ;cases e<;>rfl
   have hw':gx P x (fun x τ=>match x with|.goto _=>False|x=>Q x τ) σ:=hw
   rw[this]at hw'
   exact hw'
  refine wp_scope_straight (cV hD x c1 G₀ w₀ (wK Q) _ G σ a w hc ?_ h hp hw')
  intro e G' E' a' w' h1 h2 h3
  cases e with
  |goto l=>exact h3
  |_=>exact hr _ G' E' a' w' h1 h2 h3
 |.Dq l live x1 x2 x3 y,c,G₀,w₀,Q,Q',G,σ,a,w,hc,hr,h,hp,hw=>by
  unfold mr at hc
  split at hc<;>try(cases hc;done)
  all_goals first|(rename_i he;cases he;done)|skip
  rename_i c1 m agy x1' x2' x3' y' he
  injection he with e1 e2 e3 e4 e5 e6
  subst e1;subst e2;subst e3;subst e4;subst e5;subst e6
  have hw':gx P x1 (AY P x2 (AY P x3 (He live (Rm P l live y Q) Q))) σ:=by rw[<-J0];exact hw
  let C:(St->Prop)->(St->Nat)->Prop:=fun I μ=>∀τ,I τ->gx P y (Gw l live (fun ρ'=>I ρ'/\μ ρ'<μ τ) Q) τ
  have key:∀(L:List Code)(cr:Code),zt c1 l=some (L,cr)->mr P n cr y=true->
   (∀Q0:Exit->Act->World->Prop,(∀e a w,e≠.normal->(∃G τ,Inv G n D τ a w/\aR G₀ w₀ G w/\He live (Rm P l live y Q) Q e τ)->Q0 e a w)->
     (∀a w,(∃G τ,Inv G n D τ a w/\aR G₀ w₀ G w/\Rm P l live y Q (τ.fk live))->((Code.label l).seq cr).wp P Q0 a w)->(L.foldr Code.seq (.seq (.label l) cr)).wp P Q0 a w)->
   (Code.scope c1).wp P Q' a w:=by
   intro L cr hsp hcr WE
   obtain⟨hc1,hfl⟩:=Nw _ hsp
   refine wp_scope_jumps l (fun a w=>∃k,re n D G₀ w₀ C a w k) (Kr n D G₀ w₀ C) hfl ?_ ?_
   ·rw[hc1]
    refine WE _ (fun e a' w' he⟨G',τ,h1,h2,h3⟩=>?_) (fun a' w'⟨G',τ,h1,h2,h3⟩=>?_)
    ·cases e with
     |goto l=>exact h3.elim
     |normal=>grind
     |_=>exact hr _ G' τ a' w' h1 h2 h3
    ·obtain⟨I,μ,h4,hI⟩:=h3
     refine wp_seq (wp_label ?_)
     refine cV hD y cr G₀ w₀ _ _ G' _ a' w' hcr ?_ (h1.fk live) h2 (hI _ h4)
     intro e G2 σ2 a2 w2 q1 q2 q3
     cases e with
     |goto l=>exact⟨q3.1,_,I,μ,G2,_,hI,q1.fk live,q2,q3.2.1,Nat.le_refl _⟩
     |_=>exact hr _ G2 σ2 a2 w2 q1 q2 q3
   ·intro a' w' hJ
    obtain⟨I,μ,G',τ,hI,h1,h2,h3,h4⟩:=(zT hJ).1
    refine wp_seq (wp_skip ?_)
    refine cV hD y cr G₀ w₀ _ _ G' τ a' w' hcr ?_ h1 h2 (hI _ h3)
    intro e G2 σ2 a2 w2 q1 q2 q3
    cases e with
    |goto l=>
     have hk:re n D G₀ w₀ C a2 w2 (μ (σ2.fk live)):=⟨I,μ,G2,_,hI,q1.fk live,q2,q3.2.1,Nat.le_refl _⟩
     refine⟨q3.1,⟨_,hk⟩,?_⟩
     have:=(zT ⟨_,hk⟩).2 _ hk
     have:=q3.2.2
     omega
    |_=>exact hr _ G2 σ2 a2 w2 q1 q2 q3
  split at hc
  ·rename_i cr hsp
   simp only[Bool.and_eq_true]at hc
   obtain⟨k1,k2,k3,hcr⟩:=hc
   rw[nZ k1,nZ k2,nZ k3]at hw'
   exact key _ _ hsp hcr fun Q0 _ hb=>hb _ _ ⟨G,σ,h,hp,hw'⟩
  ·rename_i s1 cr hsp
   simp only[Bool.and_eq_true]at hc
   obtain⟨k1,k2,k3,hcr⟩:=hc
   rw[nZ k2,nZ k3]at hw'
   refine key _ _ hsp hcr fun Q0 ha hb=>wp_seq (cV hD x1 s1 G₀ w₀ _ _ G σ a w k1 ?_ h hp hw')
   intro e G' E' a' w' h1 h2 h3
   cases e with
   |normal=>exact hb _ _ ⟨G',E',h1,h2,h3⟩
   |_=>exact ha _ _ _ B_ ⟨G',E',h1,h2,h3⟩
  ·rename_i s1 s2 cr hsp
   simp only[Bool.and_eq_true]at hc
   obtain⟨k1,k2,k3,hcr⟩:=hc
   rw[nZ k3]at hw'
   refine key _ _ hsp hcr fun Q0 ha hb=>wp_seq (cV hD x1 s1 G₀ w₀ _ _ G σ a w k1 ?_ h hp hw')
   intro e G' E' a' w' h1 h2 h3
   cases e with
   |normal=>
    refine wp_seq (cV hD x2 s2 G₀ w₀ _ _ G' E' a' w' k2 ?_ h1 h2 h3)
    intro e G' E' a' w' h1 h2 h3
    cases e with
    |normal=>exact hb _ _ ⟨G',E',h1,h2,h3⟩
    |_=>exact ha _ _ _ B_ ⟨G',E',h1,h2,h3⟩
   |_=>exact ha _ _ _ B_ ⟨G',E',h1,h2,h3⟩
  ·rename_i s1 s2 s3 cr hsp
   simp only[Bool.and_eq_true]at hc
   obtain⟨k1,k2,k3,hcr⟩:=hc
   refine key _ _ hsp hcr fun Q0 ha hb=>wp_seq (cV hD x1 s1 G₀ w₀ _ _ G σ a w k1 ?_ h hp hw')
   intro e G' E' a' w' h1 h2 h3
   cases e with
   |normal=>
    refine wp_seq (cV hD x2 s2 G₀ w₀ _ _ G' E' a' w' k2 ?_ h1 h2 h3)
    intro e G' E' a' w' h1 h2 h3
    cases e with
    |normal=>
     refine wp_seq (cV hD x3 s3 G₀ w₀ _ _ G' E' a' w' k3 ?_ h1 h2 h3)
     intro e G' E' a' w' h1 h2 h3
     cases e with
     |normal=>exact hb _ _ ⟨G',E',h1,h2,h3⟩
     |_=>exact ha _ _ _ B_ ⟨G',E',h1,h2,h3⟩
    |_=>exact ha _ _ _ B_ ⟨G',E',h1,h2,h3⟩
   |_=>exact ha _ _ _ B_ ⟨G',E',h1,h2,h3⟩
  ·cases hc
 |.label l,c,G₀,w₀,Q,Q',G,σ,a,w,hc,hr,h,hp,hw=>by
  cases c<;>first|(simp[mr]at hc;done)|skip
  exact wp_label (hr _ G σ a w h hp hw)
 |.goto l,c,G₀,w₀,Q,Q',G,σ,a,w,hc,hr,h,hp,hw=>by
  cases c<;>first|(simp[mr]at hc;done)|skip
  simp only[mr,beq_iff_eq]at hc
  subst hc
  exact wp_goto (hr _ G σ a w h hp hw)
 |.dead,c,G₀,w₀,Q,Q',G,σ,a,w,hc,hr,h,hp,hw=>(show False from hw).elim
 |.ret,c,G₀,w₀,Q,Q',G,σ,a,w,hc,hr,h,hp,hw=>by
  cases c<;>first|(simp[mr]at hc;done)|skip
  exact wp_ret (hr _ G σ a w h hp hw)
end
end Go.AB
end
