/- A part of the proof: Ab15q, Ab15r, Ab15s. -/
import Derived.Test.YtkeagffgdajggaaGreatSo6
set_option linter.unusedSimpArgs false
set_option linter.unusedVariables false
section
namespace Go.AB
open Go
section
variable{P:Program}{G G':Gh}{n:Nat}{D:List Deferred}{σ:St}{a:Act}{w w':World}
theorem yh(cs:List AV)(k:Nat):setAt cs k []=cs:=by simp[setAt]
theorem na{s:ab}{b:Nat}{o:SO}(h:s b=some o):s.set b o=s:=by
 funext i
 unfold ab.set
 split
 ·rename_i e;subst e;exact h.symm
 ·rfl
theorem yd{sz b off cap:Nat}{o:Option SO}(h:yc sz b off cap o):∃cs,o=some (.cells cs)∧off+cap*sz≤cs.length:=by
 unfold yc at h
 split at h
 ·exact⟨_,rfl,h⟩
 ·exact h.elim
theorem sY{e:TypeId}{z:List AV}(hz:nf P e z=true):∃v:Value,(∀w,(zeroValue e).run P w=.ok v w)∧(∃i,P.info? e=some i∧i.zero=some v∧i.size=z.length)∧∀(q:Nat),(Builtin.zeroCells v.cells q).toList.length=q*z.length∧(List.replicate q z).flatten.length=q*z.length∧
 (∀(j:Nat)(x:AV)(y:Value),(List.replicate q z).flatten[j]? =some x→(Builtin.zeroCells v.cells q).toList[j]? =some y→cR y x=true)∧Fl (List.replicate q z).flatten∧(∀y∈(Builtin.zeroCells v.cells q).toList,y.oneCell'=true):=by
 obtain⟨i,v,h1,h2,h3,h4,h5⟩:=tE hz
 refine⟨v,fun w=>by simp[zeroValue,typeInfo,h1,h2],⟨i,h1,h2,h3⟩,fun q=>?_⟩
 have e0:Builtin.zeroCells v.cells q=((List.replicate q v.cells.toList).flatten).toArray:=sX v.cells q
 rw[e0]
 have h4:=h4 default fun _=>0
 have hlz:v.cells.toList.length=z.length:=by simpa using h4.1
 have hone:∀y∈v.cells.toList,y.oneCell'=true:=by
  intro y hy
  obtain⟨j,hj⟩:=List.mem_iff_getElem?.1 hy
  have hlt:j<z.length:=by rw[←hlz];exact(List.getElem?_eq_some_iff.1 hj).1
  exact gJ (h4.2.2 _ (List.getElem_mem hlt)) (h4.2.1 j _ y (List.getElem?_eq_getElem hlt) (by simpa using hj))
 have hlen:∀(α:Type)(l:List α),(List.replicate q l).flatten.length=q*l.length:=fun α l=>by simp
 refine⟨by show(List.replicate q v.cells.toList).flatten.length=_;rw[hlen,hlz],hlen _ z,?_,?_,?_⟩
 ·show∀(j:Nat)(x:AV)(y:Value),(List.replicate q z).flatten[j]? =some x→(List.replicate q v.cells.toList).flatten[j]? =some y→cR y x=true
  clear e0 hlen
  induction q with
  |zero=>intro j x y hx;simp at hx
  |succ q ih=>
   intro j x y hx hy
   simp only[List.replicate_succ,List.flatten_cons]at hx hy
   by_cases hj:j<z.length
   ·rw[List.getElem?_append_left hj]at hx
    rw[List.getElem?_append_left (by omega)]at hy
    exact h5 j x y hx (by simpa using hy)
   ·rw[List.getElem?_append_right (by omega)]at hx
    rw[List.getElem?_append_right (by omega),hlz]at hy
    exact ih _ x y hx hy
 ·intro x hx
  simp only[List.mem_flatten,List.mem_replicate]at hx
  obtain⟨l,⟨_,rfl⟩,hm⟩:=hx
  exact h4.2.2 x hm
 ·intro y hy
  simp only[List.mem_flatten,List.mem_replicate]at hy
  obtain⟨l,⟨_,rfl⟩,hm⟩:=hy
  exact hone y hm
theorem Gv(h:Inv G n D σ a w){op:Op}{ty:TypeId}{sz by':Nat}{z:List AV}{x y:IX}{d:Option Nat}{K:St→Prop}(hd:ba n d=true)(hc:au P op ty (.gh sz by' z x y)=true)(hw:gH P (.gh sz by' z x y) d σ K):mj P G n D w a op ty d K:=by
 cases op<;>first|(simp[au]at hc;done)|skip
 rename_i c
 simp only[au]at hc
 split at hc<;>try(cases hc;done)
 rename_i u v t t' hb
 have hce:=mC hb
 subst hce
 simp only[Bool.and_eq_true]at hc
 obtain⟨⟨hu,hv⟩,hc⟩:=hc
 split at hc<;>try(cases hc;done)
 rename_i e ht
 have ht:=cC ht
 simp only[Bool.and_eq_true]at hc
 obtain⟨⟨⟨⟨⟨⟨hs,hby⟩,hpos⟩,hbpos⟩,hzl⟩,hzi⟩,ht'⟩:=hc
 obtain⟨i,hi,hisz⟩:=iE hs
 obtain⟨zv,_,⟨i1,hi1,hz,hz1⟩,hzz0⟩:=sY hzi
 rw[hi]at hi1;injection hi1 with hi1;subst hi1
 have hpos:=of_decide_eq_true hpos
 have hbpos:=of_decide_eq_true hbpos
 have hby:i.bytes=by':=by
  unfold iY at hby
  rw[hi]at hby
  simpa using hby
 have ht2:(∃e',P.underlying t'=some (.slice e'))∨P.underlying t'=some .string:=by
  rcases Bool.or_eq_true .. ▸ht' with h|h
  ·cases he:ct P t' with
   |none=>rw[he]at h;cases h
   |some e'=>exact .inl ⟨e',cC he⟩
  ·exact .inr (xc h)
 have hw':eA sz by' z σ d K (σ.x x) (tL σ.s sz (σ.x y)):=hw
 have hbx:=XR.aJ h hu
 generalize σ.x x=xv at hw' hbx
 cases hsv:tL σ.s sz (σ.x y)with
 |none=>rw[hsv]at hw';unfold eA at hw';split at hw'<;>first|(rename_i hh;cases hh;done)|exact hw'.elim
 |some md=>
 obtain⟨m,ds⟩:=md
 rw[hsv]at hw'
 obtain⟨news,hsrcN⟩:=Cn (P:=P) h hv hsv
 have hsrc:=hsrcN.src
 unfold eA at hw'
 split at hw'<;>try(exact hw'.elim)
 rename_i b off k cap _ _ he0
 injection he0 with he0;injection he0 with e1 e2;subst e1;subst e2
 cases hol:mR σ.s sz b off k with
 |none=>rw[hol]at hw';exact hw'.elim
 |some olds=>
 rw[hol]at hw'
 obtain⟨hzl2,hstay,hgrow⟩:=hw'
 have hold:k=0∧olds=[]∨∃cs,σ.s b=some (.cells cs)∧off+k*sz≤cs.length∧olds=views (AB.sub cs off (k*sz)):=by
  unfold mR at hol
  by_cases hk:k=0
  ·subst hk
   injection hol with hol;exact .inl ⟨rfl,hol.symm⟩
  ·rw[show(k==0)=false by simpa using hk]at hol
   cases hca:ja k sz off (σ.s b)with
   |none=>rw[hca]at hol;cases hol
   |some q=>
    rw[hca]at hol;injection hol with hol
    obtain⟨q1,q2⟩:=q
    obtain⟨cs,e1,e2,_,e4⟩:=pH hca
    exact .inr ⟨cs,e1,e2,by rw[←hol];exact e4⟩
 by_cases hfit:k+m≤cap
 ·rcases hstay hfit with⟨rfl,hk⟩|⟨hroom,hk⟩
  ·have hnews:news=[]:=List.eq_nil_of_length_eq_zero (by simpa using hsrc.len)
   subst hnews
   intro pos after gd next Q hn
   refine aN (w':=w) (v:=a.eval u) ?_ (hn G _ _ _ (h.Hr hd rfl hbx rfl) (aG.refl G w) hk)
   rcases VR.cD hbx with e1|⟨rfl,rfl,e1⟩
   ·have hrun:=gF (ty:=ty) (w:=w) ht ht2 hi hisz hsrc (b:=b) (off:=off) (k:=k) (cap:=cap) hfit (w':=w) rfl
    simp only[Nat.add_zero]at hrun
    simp[execOp,resolve,invoke,builtin,e1,hrun]
   ·have hrun:=mf (ty:=ty) ht ht2 hi hisz hsrc
    simp[execOp,resolve,invoke,builtin,e1,hrun]
  ·obtain⟨cs,hsb,hfit2⟩:=yd hroom
   rw[hsb]at hk
   have hk':K ({σ with s:=σ.s.set b (.cells (setAt cs (off+k*sz) ds))}.put d (.arr b off (k+m) cap)):=hk
   obtain⟨_,_,c,et,hcb,hcr,hcf⟩:=h.store b _ hsb
   have hmul:off+k*sz+m*sz≤cs.length:=by
    rw[Nat.add_assoc,←Nat.add_mul]
    exact Nat.le_trans (Nat.add_le_add_left (Nat.mul_le_mul_right _ hfit) _) hfit2
   by_cases hm:m=0
   ·subst hm
    have hnews:news=[]:=List.eq_nil_of_length_eq_zero (by simpa using hsrc.len)
    have hds:ds=[]:=List.eq_nil_of_length_eq_zero (by simpa using hsrc.oe)
    subst hnews;subst hds
    rw[yh,na hsb,Nat.add_zero]at hk'
    intro pos after gd next Q hn
    refine aN (w':=w) (v:=a.eval u) ?_ (hn G _ _ _ (h.Hr hd rfl hbx rfl) (aG.refl G w) hk')
    rcases VR.cD hbx with e1|⟨rfl,rfl,e1⟩
    ·have hrun:=gF (ty:=ty) (w:=w) ht ht2 hi hisz hsrc (b:=b) (off:=off) (k:=k) (cap:=cap) hfit (w':=w) rfl
     simp only[Nat.add_zero]at hrun
     simp[execOp,resolve,invoke,builtin,e1,hrun]
    ·have hrun:=mf (ty:=ty) ht ht2 hi hisz hsrc
     simp[execOp,resolve,invoke,builtin,e1,hrun]
   ·have e1:=VR.nr hbx (by omega)
    obtain⟨h2,hp2⟩:=h.vm (off:=off+k*sz) (ds:=ds) (news:=news) hsb hcb (by rw[hsrc.len,hsrc.oe]) (by rw[hsrc.oe];exact hmul) hsrc.fl hsrcN.vw hsrc.jZ
    have hfit3:off+k*sz+news.length≤c.size:=by rw[hsrc.len,hcr.1];exact hmul
    have c6:=dj (P:=P) b (off+k*sz) et (0,0) news 0 c w hcb (fun j _ hj=>by simp at hj) (by simpa using hfit3) hsrc.one
    have hrun:=gF (ty:=ty) (w:=w) ht ht2 hi hisz hsrc (b:=b) (off:=off) (k:=k) (cap:=cap) hfit (w':=w.setRow b (laid c (off+k*sz) news)) (by simpa[laid]using c6)
    intro pos after gd next Q hn
    refine aN ?_ (hn G _ _ _ (h2.Hr hd rfl (.arr b off (k+m) cap) rfl) hp2 hk')
    simp[execOp,resolve,invoke,builtin,e1,hrun]
 ·have hgr:cap<k+m:=by omega
  obtain⟨hroom,hk⟩:=hgrow hgr
  have grow:∀(base:Option Addr)(us:List Value),a.eval u=.slice base k cap→us.length=k*sz→olds.length=k*sz→Fl olds→views olds=olds→
   (Builtin.firstCells sz k (.slice base k cap)).run P w.drew=.ok us.toArray w.drew→(∀(j:Nat)(c:AV)(u:Value),olds[j]? =some c→us[j]? =some u→VR w G.R c u)→
   mj P G n D w a (.call {callee:=.builtin .append,args:= #[u,v],argTypes:= #[t,t']}) ty d K:=by
   intro base us e1 hul hol2 hof hov hfc hvals
   have hrun:=qa (ty:=ty) ht ht2 hi hz hisz hsrc hfc hgr (by rw[hby];exact hroom) (by rw[hby];exact hbpos)
   have hge:k+m≤grownCap w (k+m) cap e:=grownCap_ge w (k+m) cap e
   obtain⟨zz1,zz2,zz3,zz4,_⟩:=hzz0 (grownCap w (k+m) cap e -(k+m))
   obtain⟨G2,h3,h4⟩:=(h.drew).I7 (t:=e) (c:=us.toArray++news.toArray++Builtin.zeroCells zv.cells (grownCap w (k+m) cap e -(k+m)))
    (cs:=olds++ds++(List.replicate (grownCap w (k+m) cap e -(k+m)) z).flatten) (d:=d) hd (.inr ⟨k+m,grownCap w (k+m) cap e,rfl,rfl⟩)
    (fun G' w' o hp=>by
      have hl1:=hsrc.len
      have hl2:=hsrc.oe
      refine⟨by simp only[Array.size_append,List.size_toArray,List.length_append,zz2];rw[Array.length_toList]at zz1;omega,fun j x y hx hy=>?_⟩
      have own_view:∀(l:List AV)(q:Nat),views l=l→l[q]? =some x→df G' w' (o j) x y:=by
       intro l q hvl hq
       rw[←hvl,eb]at hq
       cases hz':l[q]? with
       |none=>rw[hz']at hq;cases hq
       |some x'=>rw[hz']at hq;simp at hq;rw[←hq];exact df.view ..
      by_cases hj1:j<olds.length
      ·rw[List.append_assoc,List.getElem?_append_left hj1]at hx
       rw[Array.append_assoc,Array.getElem?_append_left (by simp;omega)]at hy
       exact⟨hp.vr h.drew.aO ((aG.drew G w).vr h.aO (hvals j x y hx (by simpa using hy))),own_view _ _ hov hx⟩
      ·by_cases hj2:j<olds.length+ds.length
       ·rw[List.getElem?_append_left (by simp;omega),List.getElem?_append_right (by omega)]at hx
        rw[Array.getElem?_append_left (by simp;omega),Array.getElem?_append_right (by simp;omega)]at hy
        simp only[List.size_toArray,List.getElem?_toArray]at hy
        rw[hul,←hol2]at hy
        exact⟨hp.vr h.drew.aO ((aG.drew G w).vr h.aO (hsrc.jZ _ x y hx hy)),own_view _ _ hsrcN.vw hx⟩
       ·rw[List.getElem?_append_right (by simp;omega)]at hx
        rw[Array.getElem?_append_right (by simp;omega)]at hy
        have ea:(us.toArray++news.toArray).size=olds.length+ds.length:=by simp;omega
        rw[ea]at hy
        rw[List.length_append]at hx
        have:=zz3 _ x y hx (by simpa using hy)
        exact⟨ru this w' G'.R,AL this G' w' _⟩)
    (fun c hc=>by
      rcases List.mem_append.1 hc with hc|hc
      ·rcases List.mem_append.1 hc with hc|hc
       ·exact hof c hc
       ·exact hsrc.fl c hc
      ·exact zz4 c hc)
   intro pos after gd next Q hn
   refine aN ?_ (hn G2 _ _ _ h3 ((aG.drew G w).trans h4) (hk _ _ (h.store.get_none h.aO) hge))
   simp[execOp,resolve,invoke,builtin,e1,hrun]
  rcases VR.cD hbx with e1|⟨rfl,rfl,e1⟩
  ·rcases hold with⟨rfl,rfl⟩|⟨cs,hsb,hle,rfl⟩
   ·exact grow _ [] e1 (by simp) (by simp) Fl.nil rfl (run_firstCells_some w.drew sz 0 ⟨b,off,none⟩ 0 cap [] (by simp) (fun j v hj=>by simp at hj)) (fun j c u hc=>by simp at hc)
   ·have hat:=h.store.at hsb hle
    obtain⟨us,u1,u2,u3⟩:=hat.jZ
    have hfl:Fl (views (AB.sub cs off (k*sz))):=by obtain⟨_,_,_,hf⟩:=hat;exact hf
    have hlen:(views (AB.sub cs off (k*sz))).length=k*sz:=by simp only[views,List.length_map];exact im hle
    exact grow _ us e1 (by rw[u1,hlen]) hlen hfl (nX _) (run_firstCells_some w.drew sz k ⟨b,off,none⟩ k cap us (by rw[u1,hlen]) u2) u3
  ·rcases hold with⟨_,rfl⟩|⟨cs,hsb,hle,rfl⟩
   ·exact grow none [] e1 (by simp) (by simp) Fl.nil rfl (by simp[Builtin.firstCells]) (fun j c u hc=>by simp at hc)
   ·have:views (AB.sub cs off (0*sz))=[]:=by simp[AB.sub,views]
    rw[this]at grow
    exact grow none [] e1 (by simp) (by simp) Fl.nil rfl (by simp[Builtin.firstCells]) (fun j c u hc=>by simp at hc)
theorem Dl{t t' ty e:TypeId}{i:TypeInfo}{z:Value}{sz m:Nat}{k':IntKind}(ht:P.underlying t=some (.slice e))(ht':P.underlying t'=some (.int k'))(hi:P.info? e=some i)(hz:i.zero=some z)(hsz:i.size=sz)(hsz0:0<sz){c:Int}(hc0:0≤c)(hm:c.toNat=m){base:Option Addr}{k cap:Nat}{olds:List Value}
 (hold:(Builtin.firstCells sz k (.slice base k cap)).run P w.drew=.ok olds.toArray w.drew)(hroom:cap<k+m)(hbytes:(k+m)*i.bytes≤room)(hb0:0<i.bytes):
 (Builtin.append_ #[t,t'] ty #[.slice base k cap,.int .i64 c]).run P w=.ok (.slice (some ⟨w.heap.size,0,none⟩) (k+m) (grownCap w (k+m) cap e))
   (w.drew.alloc (.cells (olds.toArray++Builtin.zeroCells z.cells m++Builtin.zeroCells z.cells (grownCap w (k+m) cap e -(k+m))) e)):=by
 subst hsz
 subst hm
 have h3:¬(k+c.toNat≤cap):=by omega
 have h4:¬(281474976710656<Builtin.nextslicecap (k+c.toNat) cap*i.bytes):=by have:=growslice_fits hroom hbytes;omega
 have h5:k+c.toNat≤(k+c.toNat)*i.bytes:=Nat.le_mul_of_pos_right _ hb0
 have hbytes':=hbytes
 unfold room at hbytes'
 have hcb:c≤140737488355328:=by omega
 have h6:¬((9223372036854775807:Int)<(k:Int)+(c.toNat:Int)):=by omega
 have h6':¬((9223372036854775807:Int)<(k:Int)+c):=by omega
 have h6'':¬((9223372036854775807:Int)<(k:Int)+max c 0):=by omega
 have hw:IntKind.i64.wrap c=c:=yq hc0 (by omega)
 have h7:¬(c<0):=by omega
 have h8:¬((281474976710656:Int)<c*(i.bytes:Int)):=by
  have h9:c.toNat*i.bytes≤(k+c.toNat)*i.bytes:=Nat.mul_le_mul_right _ (by omega)
  have h10:((c.toNat*i.bytes:Nat):Int)=c*(i.bytes:Int):=by rw[Int.natCast_mul,Int.toNat_of_nonneg hc0]
  omega
 by_cases hc1:c.toNat=0
 ·have:Builtin.zeroCells z.cells c.toNat= #[]:=by rw[hc1];simp[Builtin.zeroCells]
  have hm0:c.toNat*i.size=0:=by rw[hc1,Nat.zero_mul]
  simp[Builtin.append_,run_underlying ht,run_underlying ht',sizeOf,typeInfo,zeroValue,hi,hz,asInt,asIntOf,hw,h7,h8,h3,h4,h6,h6',h6'',hm0,Question.forced,hold,newRow,grownCap,this]<;>
   (congr 2;apply Array.ext';simp[List.append_assoc])
 ·have hm0:¬(c.toNat*i.size=0):=by
   intro e
   rcases Nat.mul_eq_zero.1 e with e|e<;>omega
  simp[Builtin.append_,run_underlying ht,run_underlying ht',sizeOf,typeInfo,zeroValue,hi,hz,asInt,asIntOf,hw,h7,h8,h3,h4,h6,h6',h6'',hm0,Question.forced,hold,newRow,grownCap]<;>
   (congr 2;apply Array.ext';simp[List.append_assoc])
theorem Gx(h:Inv G n D σ a w){op:Op}{ty:TypeId}{sz by':Nat}{z:List AV}{x y:IX}{d:Option Nat}{K:St→Prop}(hd:ba n d=true)(hc:au P op ty (.lY sz by' z x y)=true)(hw:gH P (.lY sz by' z x y) d σ K):mj P G n D w a op ty d K:=by
 cases op<;>first|(simp[au]at hc;done)|skip
 rename_i c
 simp only[au]at hc
 split at hc<;>try(cases hc;done)
 rename_i u v t t' hb
 have hce:=mC hb
 subst hce
 simp only[Bool.and_eq_true]at hc
 obtain⟨⟨⟨hu,hv⟩,ht'⟩,hc⟩:=hc
 obtain⟨k',ht2⟩:=J4 ht'
 split at hc<;>try(cases hc;done)
 rename_i e ht
 have ht:=cC ht
 simp only[Bool.and_eq_true]at hc
 obtain⟨⟨⟨⟨hs,hby⟩,hpos⟩,hbpos⟩,hzi⟩:=hc
 obtain⟨i,hi,hisz⟩:=iE hs
 obtain⟨zv,_,⟨i1,hi1,hz,hz1⟩,hzz0⟩:=sY hzi
 rw[hi]at hi1;injection hi1 with hi1;subst hi1
 have hpos:=of_decide_eq_true hpos
 have hbpos:=of_decide_eq_true hbpos
 have hby:i.bytes=by':=by
  unfold iY at hby
  rw[hi]at hby
  simpa using hby
 have hw':rk sz by' z σ d K (σ.x x) (xg true σ y):=hw
 have hbx:=XR.aJ h hu
 have hbv:=BR.aJ h hv
 generalize σ.x x=xv at hw' hbx
 generalize xg true σ y=yv at hw' hbv
 unfold rk at hw'
 split at hw'<;>try(exact hw'.elim)
 rename_i b off k cap q
 obtain⟨hq0,hgr,hvz,hw'⟩:=hw'
 have ev:=VR.bO hbv
 generalize hm:q.toNat=m at hw' hgr
 obtain⟨zm1,zm2,zm3,zm4,zm5⟩:=hzz0 m
 cases hol:mR σ.s sz b off k with
 |none=>rw[hol]at hw';exact hw'.elim
 |some olds=>
 rw[hol]at hw'
 obtain⟨hzl2,hstay,hgrow⟩:=hw'
 have hold:k=0∧olds=[]∨∃cs,σ.s b=some (.cells cs)∧off+k*sz≤cs.length∧olds=views (AB.sub cs off (k*sz)):=by
  unfold mR at hol
  by_cases hk:k=0
  ·subst hk
   injection hol with hol;exact .inl ⟨rfl,hol.symm⟩
  ·rw[show(k==0)=false by simpa using hk]at hol
   cases hca:ja k sz off (σ.s b)with
   |none=>rw[hca]at hol;cases hol
   |some q=>
    rw[hca]at hol;injection hol with hol
    obtain⟨q1,q2⟩:=q
    obtain⟨cs,e1,e2,_,e4⟩:=pH hca
    exact .inr ⟨cs,e1,e2,by rw[←hol];exact e4⟩
 obtain⟨hroom,hk⟩:=hgrow hgr
 obtain⟨ds,hds⟩:∃ds,ds=(List.replicate m z).flatten:=⟨_,rfl⟩
 obtain⟨news,hnews⟩:∃news,news=(Builtin.zeroCells zv.cells m).toList:=⟨_,rfl⟩
 have hvds:views ds=ds:=by
  rw[hds];unfold views at hvz⊢
  rw[List.map_flatten,List.map_replicate,hvz]
 rw[←hds]at hk
 have grow:∀(base:Option Addr)(us:List Value),a.eval u=.slice base k cap→us.length=k*sz→olds.length=k*sz→Fl olds→views olds=olds→
  (Builtin.firstCells sz k (.slice base k cap)).run P w.drew=.ok us.toArray w.drew→(∀(j:Nat)(c:AV)(u:Value),olds[j]? =some c→us[j]? =some u→VR w G.R c u)→
  mj P G n D w a (.call {callee:=.builtin .append,args:= #[u,v],argTypes:= #[t,t']}) ty d K:=by
  intro base us e1 hul hol2 hof hov hfc hvals
  have hrun:=Dl (ty:=ty) ht ht2 hi hz hisz hpos hq0 hm hfc hgr (by rw[hby];exact hroom) (by rw[hby];exact hbpos)
  have hge:k+m≤grownCap w (k+m) cap e:=grownCap_ge w (k+m) cap e
  obtain⟨zz1,zz2,zz3,zz4,_⟩:=hzz0 (grownCap w (k+m) cap e -(k+m))
  obtain⟨G2,h3,h4⟩:=(h.drew).I7 (t:=e) (c:=us.toArray++Builtin.zeroCells zv.cells m++Builtin.zeroCells zv.cells (grownCap w (k+m) cap e -(k+m)))
   (cs:=olds++ds++(List.replicate (grownCap w (k+m) cap e -(k+m)) z).flatten) (d:=d) hd (.inr ⟨k+m,grownCap w (k+m) cap e,rfl,rfl⟩)
   (fun G' w' o hp=>by
     have hl1:news.length=m*sz:=by rw[hnews,zm1,hzl2]
     have hl2:ds.length=m*sz:=by rw[hds,zm2,hzl2]
     have hna:Builtin.zeroCells zv.cells m=news.toArray:=by rw[hnews]
     rw[hna]
     refine⟨by simp only[Array.size_append,List.size_toArray,List.length_append,zz2];rw[Array.length_toList]at zz1;omega,fun j x y hx hy=>?_⟩
     have own_view:∀(l:List AV)(q:Nat),views l=l→l[q]? =some x→df G' w' (o j) x y:=by
      intro l q hvl hq
      rw[←hvl,eb]at hq
      cases hz':l[q]? with
      |none=>rw[hz']at hq;cases hq
      |some x'=>rw[hz']at hq;simp at hq;rw[←hq];exact df.view ..
     by_cases hj1:j<olds.length
     ·rw[List.append_assoc,List.getElem?_append_left hj1]at hx
      rw[Array.append_assoc,Array.getElem?_append_left (by simp;omega)]at hy
      exact⟨hp.vr h.drew.aO ((aG.drew G w).vr h.aO (hvals j x y hx (by simpa using hy))),own_view _ _ hov hx⟩
     ·by_cases hj2:j<olds.length+ds.length
      ·rw[List.getElem?_append_left (by simp;omega),List.getElem?_append_right (by omega)]at hx
       rw[Array.getElem?_append_left (by simp;omega),Array.getElem?_append_right (by simp;omega)]at hy
       simp only[List.size_toArray,List.getElem?_toArray]at hy
       rw[hul,←hol2]at hy
       exact⟨hp.vr h.drew.aO ((aG.drew G w).vr h.aO (ru (zm3 _ x y (by rw[←hds];exact hx) (by rw[←hnews];exact hy)) w G.R)),own_view _ _ hvds hx⟩
      ·rw[List.getElem?_append_right (by simp;omega)]at hx
       rw[Array.getElem?_append_right (by simp;omega)]at hy
       have ea:(us.toArray++news.toArray).size=olds.length+ds.length:=by simp;omega
       rw[ea]at hy
       rw[List.length_append]at hx
       have:=zz3 _ x y hx (by simpa using hy)
       exact⟨ru this w' G'.R,AL this G' w' _⟩)
   (fun c hc=>by
     rcases List.mem_append.1 hc with hc|hc
     ·rcases List.mem_append.1 hc with hc|hc
      ·exact hof c hc
      ·exact zm4 c (by rw[←hds];exact hc)
     ·exact zz4 c hc)
  intro pos after gd next Q hn
  refine aN ?_ (hn G2 _ _ _ h3 ((aG.drew G w).trans h4) (hk _ _ (h.store.get_none h.aO) hge))
  simp[execOp,resolve,invoke,builtin,e1,ev,hrun]
 rcases VR.cD hbx with e1|⟨rfl,rfl,e1⟩
 ·rcases hold with⟨rfl,rfl⟩|⟨cs,hsb,hle,rfl⟩
  ·exact grow _ [] e1 (by simp) (by simp) Fl.nil rfl (run_firstCells_some w.drew sz 0 ⟨b,off,none⟩ 0 cap [] (by simp) (fun j v hj=>by simp at hj)) (fun j c u hc=>by simp at hc)
  ·have hat:=h.store.at hsb hle
   obtain⟨us,u1,u2,u3⟩:=hat.jZ
   have hfl:Fl (views (AB.sub cs off (k*sz))):=by obtain⟨_,_,_,hf⟩:=hat;exact hf
   have hlen:(views (AB.sub cs off (k*sz))).length=k*sz:=by simp only[views,List.length_map];exact im hle
   exact grow _ us e1 (by rw[u1,hlen]) hlen hfl (nX _) (run_firstCells_some w.drew sz k ⟨b,off,none⟩ k cap us (by rw[u1,hlen]) u2) u3
 ·rcases hold with⟨_,rfl⟩|⟨cs,hsb,hle,rfl⟩
  ·exact grow none [] e1 (by simp) (by simp) Fl.nil rfl (by simp[Builtin.firstCells]) (fun j c u hc=>by simp at hc)
  ·have:views (AB.sub cs off (0*sz))=[]:=by simp[AB.sub,views]
   rw[this]at grow
   exact grow none [] e1 (by simp) (by simp) Fl.nil rfl (by simp[Builtin.firstCells]) (fun j c u hc=>by simp at hc)
end
end Go.AB
end
section
namespace Go.AB
open Go
section
variable{P:Program}{G G':Gh}{n:Nat}{D:List Deferred}{σ:St}{a:Act}{w w':World}
theorem w6{t t' ty e:TypeId}(ht:P.underlying t=some (.slice e)){sz m k cap:Nat}(hs:cy P e sz=true){R:Nat→Nat}{ds:List AV}{v:Value}{news:List Value}(h:qT P w R sz m ds v news){base:Option Addr}{w':World}
 (c6:∀ad,base=some ad→(storeCells ad (news.take (min m k*sz))).run P w=.ok () w')(hnone:base=none→w'=w):
 (Builtin.copy_ #[t,t'] ty #[.slice base k cap,v]).run P w=.ok (.int .i64 (min m k:Nat)) w':=by
 have h1:=h.lenOf w
 have h2:=h.first (min m k) (Nat.min_le_left _ _) w rfl
 cases base with
 |none=>
  have:=hnone rfl
  subst this
  simp[Builtin.copy_,run_underlying ht,run_sizeOf hs,h1,h2,goInt]
 |some ad=>
  have h3:=c6 ad rfl
  simp[Builtin.copy_,run_underlying ht,run_sizeOf hs,h1,h2,h3,goInt]
theorem K1(h:Inv G n D σ a w){op:Op}{ty:TypeId}{sz:Nat}{x y:IX}{d:Option Nat}{K:St→Prop}(hd:ba n d=true)(hc:au P op ty (.vP sz x y)=true)(hw:gH P (.vP sz x y) d σ K):mj P G n D w a op ty d K:=by
 cases op<;>first|(simp[au]at hc;done)|skip
 rename_i c
 simp only[au]at hc
 split at hc<;>try(cases hc;done)
 rename_i u v t t' hb
 have hce:=mC hb
 subst hce
 simp only[Bool.and_eq_true]at hc
 obtain⟨⟨hu,hv⟩,hc⟩:=hc
 split at hc<;>try(cases hc;done)
 rename_i e ht
 have ht:=cC ht
 have hw':uO sz σ d K (σ.x x) (tL σ.s sz (σ.x y)):=hw
 have hbx:=XR.aJ h hu
 generalize σ.x x=xv at hw' hbx
 cases hsv:tL σ.s sz (σ.x y)with
 |none=>rw[hsv]at hw';unfold uO at hw';split at hw'<;>first|(rename_i hh;cases hh;done)|exact hw'.elim
 |some md=>
 obtain⟨m,ds⟩:=md
 rw[hsv]at hw'
 obtain⟨news,hsrc⟩:=Cn (P:=P) h hv hsv
 unfold uO at hw'
 split at hw'<;>try(exact hw'.elim)
 rename_i b off k cap _ _ he0
 injection he0 with he0;injection he0 with e1 e2;subst e1;subst e2
 rcases hw' with⟨hmin,hk⟩|⟨hroom,hk⟩
 ·intro pos after gd next Q hn
  refine aN (w':=w) (v:=.int .i64 0) ?_ (hn G _ _ _ (h.Hr hd rfl (.int _ _) rfl) (aG.refl G w) hk)
  rcases VR.cD hbx with e1|⟨rfl,rfl,e1⟩
  ·have hrun:=w6 (ty:=ty) (t':=t') (w:=w) ht hc hsrc (base:=some ⟨b,off,none⟩) (k:=k) (cap:=cap) (w':=w) (fun ad _=>by rw[hmin];simp;rfl) (fun hh=>by cases hh)
   rw[hmin]at hrun
   simp[execOp,resolve,invoke,builtin,e1,hrun]
  ·have hrun:=w6 (ty:=ty) (t':=t') (w:=w) ht hc hsrc (base:=none) (k:=0) (cap:=0) (w':=w) (fun ad hh=>by cases hh) (fun _=>rfl)
   simp at hrun
   simp[execOp,resolve,invoke,builtin,e1,hrun]
 ·obtain⟨cs,hsb,hfit⟩:=yd hroom
  rw[hsb]at hk
  have hk':K ({σ with s:=σ.s.set b (.cells (setAt cs off (ds.take (min m k*sz))))}.put d (.int .i64 (min m k:Nat))):=hk
  obtain⟨_,_,c,et,hcb,hcr,hcf⟩:=h.store b _ hsb
  have hle1:min m k*sz≤m*sz:=Nat.mul_le_mul_right _ (Nat.min_le_left _ _)
  have hle2:min m k*sz≤k*sz:=Nat.mul_le_mul_right _ (Nat.min_le_right _ _)
  have hl1:(ds.take (min m k*sz)).length=min m k*sz:=by simp[hsrc.oe,hle1]
  have hl2:(news.take (min m k*sz)).length=min m k*sz:=by simp[hsrc.len,hle1]
  rcases VR.cD hbx with e1|⟨rfl,rfl,e1⟩
  ·obtain⟨h2,hp2⟩:=h.vm (off:=off) (ds:=ds.take (min m k*sz)) (news:=news.take (min m k*sz)) hsb hcb (by rw[hl1,hl2]) (by rw[hl1];omega) (fun c hc=>hsrc.fl c (List.mem_of_mem_take hc))
    (by
      have:=hsrc.vw
      unfold views at this⊢
      rw[List.map_take,this]) (fun j x y hx hy=>by
      rw[List.getElem?_take]at hx hy
      split at hx
      ·rename_i hj;rw[if_pos hj]at hy;exact hsrc.jZ j x y hx hy
      ·cases hx)
   have hfit3:off+(news.take (min m k*sz)).length≤c.size:=by rw[hl2,hcr.1];omega
   have c6:=dj (P:=P) b off et (0,0) (news.take (min m k*sz)) 0 c w hcb (fun j _ hj=>by simp at hj) (by simpa using hfit3) (fun u hu=>hsrc.one u (List.mem_of_mem_take hu))
   have hrun:=w6 (ty:=ty) (t':=t') (w:=w) ht hc hsrc (base:=some ⟨b,off,none⟩) (k:=k) (cap:=cap) (w':=w.setRow b (laid c off (news.take (min m k*sz)))) (fun ad had=>by injection had with had;subst had;simpa[laid]using c6) (fun hh=>by cases hh)
   intro pos after gd next Q hn
   refine aN ?_ (hn G _ _ _ (h2.Hr hd rfl (.int _ _) rfl) hp2 hk')
   simp[execOp,resolve,invoke,builtin,e1,hrun]
  ·have h0:min m 0=0:=Nat.min_zero m
   rw[h0,Nat.zero_mul,List.take_zero,yh,na hsb]at hk'
   have hrun:=w6 (ty:=ty) (t':=t') (w:=w) ht hc hsrc (base:=none) (k:=0) (cap:=0) (w':=w) (fun ad hh=>by cases hh) (fun _=>rfl)
   intro pos after gd next Q hn
   refine aN (w':=w) ?_ (hn G _ _ _ (h.Hr hd rfl (.int .i64 (0:Nat)) rfl) (aG.refl G w) hk')
   simp at hrun
   simp[execOp,resolve,invoke,builtin,e1,hrun]
theorem Iq(h:Inv G n D σ a w){op:Op}{ty:TypeId}{z:List AV}{x:IX}{d:Option Nat}{K:St→Prop}(hd:ba n d=true)(hc:au P op ty (.pJ z x)=true)(hw:gH P (.pJ z x) d σ K):mj P G n D w a op ty d K:=by
 cases op<;>first|(simp[au]at hc;done)|skip
 rename_i c
 simp only[au]at hc
 split at hc<;>try(cases hc;done)
 rename_i u us t ts hb
 have hce:=mC hb
 subst hce
 simp only[Bool.and_eq_true]at hc
 obtain⟨hu,hc⟩:=hc
 split at hc<;>try(cases hc;done)
 rename_i e ht
 have ht:=cC ht
 have hw':vM z σ d K (σ.x x):=hw
 have hbx:=XR.aJ h hu
 generalize σ.x x=xv at hw' hbx
 unfold vM at hw'
 split at hw'<;>try(exact hw'.elim)
 rename_i b off k cap
 obtain⟨v,hv1,_,hv2⟩:=sY hc
 obtain⟨z1,z2,z3',z4,z5⟩:=hv2 k
 have z3:∀(j:Nat)(x:AV)(y:Value),(List.replicate k z).flatten[j]? =some x→(Builtin.zeroCells v.cells k).toList[j]? =some y→VR w G.R x y:=fun j x y hx hy=>ru (z3' j x y hx hy) w G.R
 rcases hw' with⟨hk0,hk⟩|⟨hroom,hvw,hk⟩
 ·subst hk0
  intro pos after gd next Q hn
  refine aN (w':=w) (v:=.tuple #[]) ?_ (hn G _ _ _ (h.S2 hd) (aG.refl G w) hk)
  rcases VR.cD hbx with e1|⟨_,rfl,e1⟩<;>simp[execOp,resolve,invoke,builtin,e1,Builtin.clear_,run_underlying ht]
 ·obtain⟨cs,hsb,hfit⟩:=yd hroom
  rw[hsb]at hk
  have hk':K ({σ with s:=σ.s.set b (.cells (setAt cs off (List.replicate k z).flatten))}.put d (.gu [])):=hk
  obtain⟨_,_,c,et,hcb,hcr,hcf⟩:=h.store b _ hsb
  by_cases hk0:k=0
  ·subst hk0
   simp only[List.replicate_zero,List.flatten_nil,yh,na hsb]at hk'
   intro pos after gd next Q hn
   refine aN (w':=w) (v:=.tuple #[]) ?_ (hn G _ _ _ (h.S2 hd) (aG.refl G w) hk')
   rcases VR.cD hbx with e1|⟨_,rfl,e1⟩<;>simp[execOp,resolve,invoke,builtin,e1,Builtin.clear_,run_underlying ht]
  ·rcases VR.cD hbx with e1|⟨h0,_,_⟩
   ·obtain⟨h2,hp2⟩:=h.vm (off:=off) (ds:=(List.replicate k z).flatten) (news:=(Builtin.zeroCells v.cells k).toList) hsb hcb (by rw[z1,z2]) (by rw[z2];exact hfit) z4
     (by
       unfold views
       rw[List.map_flatten,List.map_replicate]
       unfold views at hvw
       rw[hvw]) z3
    have c6:=dj (P:=P) b off et (0,0) (Builtin.zeroCells v.cells k).toList 0 c w hcb (fun j _ hj=>by simp at hj) (by rw[z1,hcr.1];simpa using hfit) z5
    have hst':(storeCells ⟨b,off,none⟩ (Builtin.zeroCells v.cells k).toList).run P w=.ok () (w.setRow b (laid c off (Builtin.zeroCells v.cells k).toList)):=by simpa[laid]using c6
    intro pos after gd next Q hn
    refine aN (v:=.tuple #[]) ?_ (hn G _ _ _ (h2.S2 hd) hp2 hk')
    have hrun:(Builtin.clear_ (t::ts).toArray ty (Array.map a.eval (u::us).toArray)).run P w=.ok (.tuple #[]) (w.setRow b (laid c off (Builtin.zeroCells v.cells k).toList)):=by
     obtain⟨k',rfl⟩:∃k',k=k'+1:=⟨k -1,by omega⟩
     simp[Builtin.clear_,run_underlying ht,e1,hv1,hst']
    simp[execOp,resolve,invoke,builtin]at hrun⊢;simp[hrun]
   ·exact absurd h0 hk0
end
end Go.AB
end
section
namespace Go.AB
open Go
section
variable{P:Program}{G G':Gh}{n:Nat}{D:List Deferred}{σ:St}{a:Act}{w w':World}
theorem Inv.frozen(h:Inv G n D σ a w){d:Option Nat}(hd:ba n d=true){b off sz k cap:Nat}{cs:List AV}{own:Bool}(hs:σ.s b=some (.cells cs))(hfit:off+k*sz≤cs.length)(hcap:k≤cap)(hown:own=true→off=0∧cs.length=off+cap*sz):
 ∃G',Inv G' n D ({σ with s:=σ.s.del b}.put d (.sl own sz k (views (AB.sub cs off (k*sz))))) (a.put d (.slice (some ⟨b,off,none⟩) k cap)) w∧aG G w G' w:=by
 obtain⟨q2,q3,c,t,q4,q5,q6⟩:=h.store b _ hs
 let ob:cY:=if own=true then zq d else .none
 let G':=G.oA b ob (off+k*sz)
 have hpres:aG G w G' w:=⟨rfl,rfl,rfl,Nat.le_refl _,Nat.le_refl _,fun b' _=>by
  by_cases hb:b'=b
  ·subst hb;rw[q3];exact Nat.zero_le _
  ·simp[G',hb],fun _ _ _ _=>rfl,fun _ _ _=>rfl,fun b' _ hb'=>by
  have:b'≠b:=fun e=>by subst e;rw[q2]at hb';cases hb'
  simp[G',this,hb'],fun b' _ hb'=>by
  have:b'≠b:=fun e=>by subst e;rw[q2]at hb';cases hb'
  simp[G',this,hb']⟩
 have hlt:b<w.heap.size:=h.aO.lt (by rw[q2];simp)
 have hgood:b9 G' w:=⟨fun b' hb'=>by
  have:b'≠b:=by omega
  simp[G',this,h.aO.iA b' hb'],fun b' hb'=>by
  have:b'≠b:=by omega
  simp[G',this,h.aO.iU b' hb']⟩
 have same:∀b',G.O b'≠.sh∨b'≠b→G'.O b'=G.O b'∧G'.R b'=G.R b'∧w.heap[b']? =w.heap[b']? :=fun b' hb'=>by
  have:b'≠b:=by
   rcases hb' with hb'|hb'
   ·exact fun e=>by subst e;exact hb' q2
   ·exact hb'
  exact⟨by simp[G',this],by simp[G',this],rfl⟩
 have c6:aW G' w (σ.s.del b):=by
  intro b' o hb'
  unfold ab.del at hb'
  split at hb'
  ·cases hb'
  ·rename_i hne
   obtain⟨r1,r2,r3⟩:=h.store b' o hb'
   refine⟨(same b' (.inr hne)).1.trans r1,(same b' (.inr hne)).2.1.trans r2,?_⟩
   cases o with
   |cells cs'=>
    obtain⟨c',t',r4,r5,r6⟩:=r3
    exact⟨c',t',r4,r5.mono (fun _ _ hv=>hpres.vr h.aO hv) (fun b'' j hb''=>by
     obtain⟨x1,x2,x3⟩:=same b'' (.inl (by rw[hb''];simp))
     exact⟨x1.trans hb'',x2,x3⟩),r6⟩
   |map es=>
    obtain⟨ents,clock,r4,r5,r6⟩:=r3
    exact⟨ents,clock,r4,r5,fun j x y hx hy=>⟨hpres.vr h.aO (r6 j x y hx hy).1,hpres.vr h.aO (r6 j x y hx hy).2⟩⟩
 have hat:=h.store.at hs hfit
 obtain⟨u,u1,u2,u3⟩:=hat
 have hlen:(views (AB.sub cs off (k*sz))).length=k*sz:=by simp only[views,List.length_map];exact im hfit
 have:=h.put (s':=σ.s.del b) (lp':=σ.lp) d (fun i hi=>by subst hi;simpa[ba]using hd) (.sl own sz k (views (AB.sub cs off (k*sz)))) (.slice (some ⟨b,off,none⟩) k cap) hgood hpres c6 (fun _ hx=>hx) (fun i t _ ht=>ht.elim) (fun i t _⟨cs',hcs'⟩=>by cases hcs')
  (fun i b' _ hb'=>same b' (.inl (by rcases hb' with⟨j,hb'⟩|hb'<;>rw[hb']<;>simp)))
  (fun i b' c' j _ _ hc'=>by
    obtain⟨x1,x2,x3⟩:=same c' (.inl (by rw[hc'];simp))
    exact⟨x1.trans hc',x2,x3⟩)
  (fun i hi=>by
    subst hi
    refine⟨.sl own sz k _ b off cap u u3 hlen (by rw[hlen];simp[G']) hcap u1 (fun j x hj=>hpres.vr h.aO (u2 j x hj)),?_⟩
    cases own with
    |false=>trivial
    |true=>
     intro base m' cap' hv _
     injection hv with e1 e2 e3
     subst e3
     exact⟨b,off,c,t,(0,0),e1.symm,by simp[G',ob,zq],by simp[G'],q4,by rw[q5.1,(hown rfl).2],fun j _ hj=>by simp at hj,Nat.le_refl _,(hown rfl).1,.inl rfl,fun j y _ hy=>by
      have hlt:j<cs.length:=by rw[←q5.1];exact(Array.getElem?_eq_some_iff.1 hy).1
      exact oZ (q6 _ (List.getElem_mem hlt)) (q5.2 j _ y (List.getElem?_eq_getElem hlt) hy).1⟩)
 exact⟨G',by cases d<;>exact this,hpres⟩
theorem Inv.MI(h:Inv G n D σ a w){sz:Nat}{own:Bool}{d:Option Nat}{K:St→Prop}(hd:ba n d=true){xv:AV}{v:Value}(hbx:c9 xv=true→VR w G.R xv v)(hw':y8 sz own σ d K xv):∃(G':Gh)(σ':St),Inv G' n D σ' (a.put d v) w∧aG G w G' w∧K σ':=by
 unfold y8 at hw'
 split at hw'<;>try(exact hw'.elim)
 rename_i b off k cap
 replace hbx:=hbx rfl
 have empty:k=0→cap=0→off=0∨v=.slice none 0 0→Inv G n D (σ.put d (.sl own sz 0 [])) (a.put d (v)) w:=by
  intro hk0 hc0 hoff
  subst hk0;subst hc0
  have hvr:VR w G.R (.sl own sz 0 []) (v):=by
   rcases VR.cD hbx with e1|⟨_,_,e1⟩
   ·rcases hoff with rfl|e2
    ·rw[e1];exact .sl own sz 0 [] b 0 0 (fun _=>undef) Fl.nil (by simp) (by simp) (Nat.le_refl _) (fun j c hj=>by simp at hj) (fun j c hj=>by simp at hj)
    ·rw[e2];exact .slnil _ _
   ·rw[e1];exact .slnil _ _
  have:=h.put (s':=σ.s) (lp':=σ.lp) d (fun i hi=>by subst hi;simpa[ba]using hd) (.sl own sz 0 []) (v) h.aO (aG.refl G w) h.store (fun _ hx=>hx) (fun i t _ ht=>ht.elim) (fun i t _⟨cs,hcs⟩=>by cases hcs)
   (fun _ _ _ _=>⟨rfl,rfl,rfl⟩) (fun _ _ _ _ _ _ hcc=>⟨hcc,rfl,rfl⟩) (fun i hdi=>by
     refine⟨hvr,?_⟩
     cases own with
     |false=>trivial
     |true=>
      intro base m' cap' hv hc'
      rcases VR.cD hbx with e1|⟨_,_,e1⟩<;>rw[e1]at hv<;>injection hv with _ e2 e3<;>omega)
  cases d<;>exact this
 rcases hw' with⟨rfl,rfl,rfl,hk⟩|⟨hpos,hcap,hown,hk⟩
 ·exact⟨G,_,empty rfl rfl (.inl rfl),aG.refl G w,hk⟩
 ·cases hca:ja k sz off (σ.s b)with
  |none=>rw[hca]at hk;exact hk.elim
  |some q=>
   obtain⟨q1,q2⟩:=q
   rw[hca]at hk
   obtain⟨cs,e1,e2,rfl,rfl⟩:=pH hca
   have hown':own=true→off=0∧cs.length=off+cap*sz:=fun ho=>by
    have:=(hown ho).2.2
    rw[e1]at this
    exact⟨(hown ho).1,this⟩
   obtain⟨G',h1,h2⟩:=h.frozen hd (own:=own) e1 e2 hcap hown'
   have e3:=VR.nr hbx hpos
   exact⟨G',_,by rw[e3];exact h1,h2,hk⟩
theorem OO(h:Inv G n D σ a w){op:Op}{ty:TypeId}{sz:Nat}{own:Bool}{x:IX}{d:Option Nat}{K:St→Prop}(hd:ba n d=true)(hc:au P op ty (.K7 sz own x)=true)(hw:gH P (.K7 sz own x) d σ K):mj P G n D w a op ty d K:=by
 have key:∀y,bw y x=true→∃(G':Gh)(σ':St),Inv G' n D σ' (a.put d (a.eval y)) w∧aG G w G' w∧K σ':=by
  intro y hy
  have hbx:=XR.aJ h hy
  have hw':y8 sz own σ d K (σ.x x):=hw
  generalize σ.x x=xv at hw' hbx
  refine h.MI hd (fun hi=>?_) hw'
  cases xv<;>first|exact hbx|(simp[c9]at hi)
 intro pos after g next Q hn
 cases op<;>first|(simp[au]at hc;done)|skip
 all_goals
  rename_i y
  obtain⟨G',σ',h1,h2,hk⟩:=key y hc
  exact aN rfl (hn G' _ _ _ h1 h2 hk)
theorem K4(h:Inv G n D σ a w){op:Op}{ty:TypeId}{sz:Nat}{own:Bool}{x:IX}{d:Option Nat}{K:St→Prop}(hd:ba n d=true)(hc:au P op ty (.ug sz own x)=true)(hw:gH P (.ug sz own x) d σ K):mj P G n D w a op ty d K:=by
 cases op<;>first|(simp[au]at hc;done)|skip
 rename_i t y
 simp only[au,Bool.and_eq_true]at hc
 obtain⟨⟨hs,hm⟩,hy⟩:=hc
 have hb:=BR.aJ h hy
 have hw':Fe sz own σ d K (rd σ (xg true σ x) 1):=hw
 cases hr:rd σ (xg true σ x) 1 with
 |none=>rw[hr]at hw';exact hw'.elim
 |some cs=>
  rw[hr]at hw'
  obtain⟨b,off,e,hl,hat,hvw⟩:=BQ h hb hr
  match cs,hl,hw' with
  |[c],hl,⟨hi,hw'⟩=>
   obtain⟨v,hrun,hvr⟩:=oi hs hm rfl hl hat
   obtain⟨G',σ',h1,h2,hk⟩:=h.MI hd (v:=v) (fun _=>hvr) hw'
   intro pos after g next Q hn
   exact aN (w':=w) (by simp[execOp,e,Instr.loadAt,Instr.sureAddr,hrun]) (hn G' _ _ _ h1 h2 hk)
theorem B5(h:Inv G n D σ a w)(bl off:Nat)(T:cY)(hT:T≠.sh∧(∀i,T≠.loc i)∧(∀i j,T≠.cell i j)):
 b9 (G.gb (.cell bl off) T) w∧aG G w (G.gb (.cell bl off) T) w∧(∀b,G.O b≠.cell bl off→(G.gb (.cell bl off) T).O b=G.O b):=by
 have hne:∀b,G.O b≠.cell bl off→(G.gb (.cell bl off) T).O b=G.O b:=fun b hb=>by simp[hb]
 exact⟨⟨fun b hb=>by rw[hne b (by rw[h.aO.iA b hb];simp),h.aO.iA b hb],h.aO.iU⟩,
  ⟨rfl,rfl,rfl,Nat.le_refl _,Nat.le_refl _,fun _ _=>Nat.le_refl _,fun _ _ _ _=>rfl,fun _ _ _=>rfl,fun b _ hb=>⟨by rw[hne b (by rw[hb];simp),hb],rfl⟩,fun b _ hb=>⟨by rw[hne b (by rw[hb];simp),hb],rfl⟩⟩,hne⟩
theorem df.gb{o T:cY}{av:AV}{v:Value}(h:df G w o av v):df (G.gb o T) w T av v:=by
 unfold df at h⊢
 split
 ·rename_i sz m cs
  intro base m' cap hv hc
  obtain⟨b,off,c,e,fz,q1,q2,q3⟩:=h base m' cap hv hc
  exact⟨b,off,c,e,fz,q1,by simp[q2],q3⟩
 ·rename_i e m cs
  intro base m' cap hv hc
  obtain⟨b,off,c,fz,q1,q2,q3⟩:=h base m' cap hv hc
  exact⟨b,off,c,fz,q1,by simp[q2],q3⟩
 ·trivial
def CM:AV→Bool
 |.sl _ _ _ _=>true
 |.bb _ _ _=>true
 |_=>false
theorem DM{av:AV}(h:CM av=true):oH (view av)=true:=by cases av<;>first|rfl|(cases h;done)
theorem db.take{bl off:Nat}{T:cY}{cs:List AV}{c:Array Value}{av:AV}(h:db G w (.cell bl) cs c)(hcs:cs[off]? =some av):
 db (G.gb (.cell bl off) T) w (.cell bl) (setAt cs off [view av]) c:=by
 have hlt:off+1≤cs.length:=(List.getElem?_eq_some_iff.1 hcs).1
 refine⟨by rw[mz _ _ _ (by simpa using hlt)];exact h.1,fun j x y hx hy=>?_⟩
 rw[my _ _ _ _ (by simpa using hlt)]at hx
 by_cases hj:j=off
 ·subst hj
  rw[if_pos ⟨Nat.le_refl _,by simp⟩,Nat.sub_self]at hx
  injection hx with hx;subst hx
  exact⟨(h.2 j _ y hcs hy).1.view,df.view ..⟩
 ·rw[if_neg (by simp;omega)]at hx
  obtain⟨h1,h2⟩:=h.2 j x y hx hy
  refine⟨h1,h2.mono fun b hb=>⟨?_,rfl,rfl⟩⟩
  have:G.O b≠.cell bl off:=by rw[hb];intro e;injection e with _ e;exact hj e
  rw[Gh.P4,if_neg this,hb]
def loadT:Option Nat→cY
 |some i=>.slot i 0
 |none=>.frame
theorem DC(h:Inv G n D σ a w){op:Op}{ty:TypeId}{x:IX}{d:Option Nat}{K:St→Prop}(hd:ba n d=true)(hc:au P op ty (.kZ x)=true)(hw:gH P (.kZ x) d σ K):mj P G n D w a op ty d K:=by
 cases op<;>first|(simp[au]at hc;done)|skip
 rename_i t y
 simp only[au,Bool.and_eq_true]at hc
 obtain⟨⟨⟨_,hs⟩,hm⟩,hy⟩:=hc
 have hbx:=XR.aJ h hy
 have hw':og σ d K (σ.x x):=hw
 have hT:loadT d≠.sh∧(∀i,loadT d≠.loc i)∧(∀i j,loadT d≠.cell i j):=by cases d<;>simp[loadT]
 have hrun:∀(b off:Nat)(u:Value),a.eval y=.pointer (some ⟨b,off,none⟩)→w.cell? ⟨b,off,none⟩=some u→∀(pos:String)(after:Array Edge)(g:Option (Nat×Bool)),(execOp a.eval ⟨d,.load t y,ty,pos,after,g⟩).run P w=.ok (.value u) w:=by
  intro b off u e1 e2 pos after g
  have:(loadVar t ⟨b,off,none⟩).run P w=.ok u w:=by simp[loadVar,jv hm,e2]
  simp[execOp,e1,Instr.loadAt,Instr.sureAddr,this]
 have putD:∀{G1:Gh}{σ1:St}{av:AV}{u:Value},CM av=true→Inv G1 n D σ1 a w→VR w G1.R av u→df G1 w (loadT d) av u→Inv G1 n D (σ1.put d av) (a.put d u) w:=by
  intro G1 σ1 av u hsl h1 hv ho
  have hiv:c9 av=true:=by cases av<;>first|rfl|(cases hsl;done)
  have:=h1.put (s':=σ1.s) (lp':=σ1.lp) d (fun i hi=>by subst hi;simpa[ba]using hd) av u h1.aO (aG.refl G1 w) h1.store (fun _ hx=>hx) (fun i t _ ht=>(eH hiv t ht).elim) (fun i t _⟨cs,hcs⟩=>(l9 hiv cs hcs).elim)
   (fun _ _ _ _=>⟨rfl,rfl,rfl⟩) (fun _ _ _ _ _ _ hcc=>⟨hcc,rfl,rfl⟩) (fun i hdi=>by subst hdi;rw[da.oo hiv];exact⟨hv,ho⟩)
  cases d<;>exact this
 have takeC_eq:∀{off:Nat}{cs:List AV}{k:List AV→AV→Prop},iJ off cs k→∃av,CM av=true∧cs[off]? =some av∧k (setAt cs off [view av]) av:=by
  intro off cs k hk
  unfold iJ at hk
  split at hk
  ·rename_i ow sz m ds he;exact⟨_,rfl,he,hk⟩
  ·rename_i t m ds he;exact⟨_,rfl,he,hk⟩
  ·exact hk.elim
 have takeL_eq:∀{off:Nat}{cs:List AV}{k:List AV→AV→Prop},Cu off cs k→∃av,CM av=true∧cs[off]? =some av∧k (setAt cs off [view av]) av:=by
  intro off cs k hk
  unfold Cu at hk
  split at hk
  ·rename_i ow sz m ds he;exact⟨_,rfl,he,hk⟩
  ·exact hk.elim
 generalize σ.x x=xv at hw' hbx
 unfold og at hw'
 split at hw'<;>try(exact hw'.elim)
 ·rename_i b off
  have e1:=VR.gi hbx
  cases hsb:σ.s b with
  |none=>rw[hsb]at hw';exact hw'.elim
  |some so=>
   cases so with
   |map es=>rw[hsb]at hw';exact hw'.elim
   |cells cs=>
   rw[hsb]at hw'
   obtain⟨av,hsl,hcs,hk⟩:=takeC_eq hw'
   obtain⟨q2,q3,c,et,q4,q5,q6⟩:=h.store b _ hsb
   have hlt:off<cs.length:=(List.getElem?_eq_some_iff.1 hcs).1
   have hltc:off<c.size:=by rw[q5.1];exact hlt
   have hcell:=Array.getElem?_eq_getElem hltc
   obtain⟨hv,ho⟩:=q5.2 off _ _ hcs hcell
   obtain⟨g1,g2,hne⟩:=B5 h b off (loadT d) hT
   have c6:aW (G.gb (.cell b off) (loadT d)) w (σ.s.set b (.cells (setAt cs off [view av]))):=by
    intro b' o hb'
    unfold ab.set at hb'
    by_cases hbg:b'=b
    ·rw[if_pos hbg]at hb';injection hb' with hb';subst hb';subst hbg
     exact⟨by rw[hne b' (by rw[q2];simp),q2],q3,c,et,q4,q5.take hcs,xn.setAt q6 (by intro z hz;rw[List.mem_singleton]at hz;subst hz;exact DM hsl) off⟩
    ·rw[if_neg hbg]at hb'
     obtain⟨r1,r2,r3⟩:=h.store b' o hb'
     refine⟨by rw[hne b' (by rw[r1];simp),r1],r2,?_⟩
     cases o with
     |cells cs'=>
      obtain⟨c0,t0,r4,r5,r6⟩:=r3
      exact⟨c0,t0,r4,r5.mono (fun _ _ hv=>hv) (fun b'' j hb''=>⟨by rw[hne b'' (by rw[hb''];intro e;injection e with e _;exact hbg e),hb''],rfl,rfl⟩),r6⟩
     |map es=>exact r3
   have h1:Inv (G.gb (.cell b off) (loadT d)) n D {σ with s:=σ.s.set b (.cells (setAt cs off [view av]))} a w:=
    ⟨g1,c6,h.size,fun k v hkv=>da.frame (G:=G) (G':=G.gb (.cell b off) (loadT d)) (w:=w) (w':=w) (tmps:=a.tmps) (tmps':=a.tmps) (fun _ _ hv=>hv) (fun b' hb'=>⟨hne b' (by rcases hb' with⟨j,hb'⟩|hb'<;>rw[hb']<;>simp),rfl,rfl⟩)
      (fun b' c' j hb' hc'=>⟨by rw[hne c' (by rw[hc'];intro e;injection e with e _;subst e;rw[q2]at hb';cases hb'),hc'],rfl,rfl⟩) _ _ (fun d _ cs hcs=>⟨cs,hcs,rfl⟩) (h.ch k v hkv),h.CG,h.HR,h.qW⟩
   intro pos after g next Q hn
   exact aN (hrun b off _ e1 (by rw[cell_of_row w q4,hcell]) pos after g) (hn _ _ _ _ (putD hsl h1 hv ho.gb) g2 hk)
 ·rename_i i off
  cases hl:look σ.e i<;>rw[hl]at hw'<;>first|exact hw'.elim|skip
  rename_i cs
  obtain⟨hdi,hw'⟩:=hw'
  obtain⟨av,hsl,hcs,hk⟩:=takeL_eq hw'
  obtain⟨b,e1,e2⟩:=hbx
  have htm:=e2 cs hl
  have hslot:=h.ch i _ htm
  rw[hl]at hslot
  obtain⟨b',c,et,p1,p2,p3,p4,p5,p6⟩:=hslot
  injection p1 with p1;injection p1 with p1;injection p1 with p1 _ _
  subst p1
  have hlt:off<cs.length:=(List.getElem?_eq_some_iff.1 hcs).1
  have hltc:off<c.size:=by rw[p5.1];exact hlt
  have hcell:=Array.getElem?_eq_getElem hltc
  obtain⟨hv,ho⟩:=p5.2 off _ _ hcs hcell
  obtain⟨g1,g2,hne⟩:=B5 h b off (loadT d) hT
  have c6:aW (G.gb (.cell b off) (loadT d)) w σ.s:=h.store.mono h.aO g2 (fun b' hb'=>⟨by rw[hne b' (by rw[hb'];simp),hb'],rfl,rfl⟩)
   (fun b' c' j hb' hc'=>⟨by rw[hne c' (by rw[hc'];intro e;injection e with e _;subst e;rw[p2]at hb';cases hb'),hc'],rfl,rfl⟩)
  have h1:Inv (G.gb (.cell b off) (loadT d)) n D (σ.put (some i) (.loc (setAt cs off [view av]))) a w:=by
   refine⟨g1,c6,h.size,fun k v hkv=>?_,fun k hk'=>?_,fun k d' hk'=>?_,h.qW⟩
   ·by_cases hki:i=k
    ·subst hki
     have:look (σ.put (some i) (.loc (setAt cs off [view av]))).e i=.loc (setAt cs off [view av]):=by simp[St.put,aP]
     rw[this]
     rw[htm]at hkv;injection hkv with hkv;subst hkv
     exact⟨b,c,et,rfl,by rw[hne b (by rw[p2];simp),p2],p3,p4,p5.take hcs,Fl.setAt p6 (by intro z hz;rw[List.mem_singleton]at hz;subst hz;exact DM hsl) off⟩
    ·have:look (σ.put (some i) (.loc (setAt cs off [view av]))).e k=look σ.e k:=by simp[St.put,aP,hki]
     rw[this]
     refine da.frame (G:=G) (G':=G.gb (.cell b off) (loadT d)) (w:=w) (w':=w) (tmps:=a.tmps) (tmps':=a.tmps) (fun _ _ hv=>hv) (fun b' hb'=>⟨hne b' (by rcases hb' with⟨j,hb'⟩|hb'<;>rw[hb']<;>simp),rfl,rfl⟩)
      (fun b' c' j hb' hc'=>⟨by rw[hne c' (by rw[hc'];intro e;injection e with e _;subst e;rw[p2]at hb';injection hb' with hb';exact hki hb'),hc'],rfl,rfl⟩) _ _ (fun d' _ cs' hcs'=>?_) (h.ch k v hkv)
     by_cases hdi':i=d'
     ·subst hdi';exact⟨cs,hl,rfl⟩
     ·simp only[St.put,aP,hdi',if_false]at hcs'
      exact⟨cs',hcs',rfl⟩
   ·by_cases hki:i=k
    ·subst hki
     have:=h.CG i hk'
     rw[hl]at this;cases this
    ·simp only[St.put,aP,hki,if_false];exact h.CG k hk'
   ·by_cases hki:i=k
    ·subst hki
     simp only[St.put,aP,if_true]at hk'
     exact hk'.elim
    ·simp only[St.put,aP,hki,if_false]at hk'
     exact h.HR k d' hk'
  intro pos after g next Q hn
  exact aN (hrun b off _ e1 (by rw[cell_of_row w p4,hcell]) pos after g) (hn _ _ _ _ (putD hsl h1 hv ho.gb) g2 hk)
theorem K3(h:Inv G n D σ a w){op:Op}{ty:TypeId}{off:Nat}{j x:IX}{d:Option Nat}{K:St→Prop}(hd:ba n d=true)(hc:au P op ty (.lM off j x)=true)(hw:gH P (.lM off j x) d σ K):mj P G n D w a op ty d K:=by
 have hc':au P op ty (.kZ x)=true:=by cases op<;>first|exact hc|(cases hc;done)
 exact DC h hd hc' hw.2
theorem ON(h:Inv G n D σ a w){op:Op}{ty:TypeId}{ne:Bool}{x:IX}{d:Option Nat}{K:St→Prop}(hd:ba n d=true)(hc:au P op ty (.OR ne x)=true)(hw:gH P (.OR ne x) d σ K):mj P G n D w a op ty d K:=by
 cases op<;>first|(simp[au]at hc;done)|skip
 rename_i b t u v yt
 simp only[au,Bool.and_eq_true,decide_eq_true_eq]at hc
 obtain⟨⟨⟨rfl,hx⟩,hy⟩,ht⟩:=hc
 cases hel:ct P t with
 |none=>rw[hel]at ht;cases ht
 |some e=>
 have ht:=cC hel
 have e2:a.eval v=.slice none 0 0:=by
  split at hy
  ·rfl
  ·cases hy
 have hbx:=XR.aJ h hx
 have hw':K6 ne σ d K (σ.x x):=hw
 generalize σ.x x=xv at hw' hbx
 have some_:∀(ad:Addr)(l c:Nat),a.eval u=.slice (some ad) l c→K (σ.put d (.bool ne))→mj P G n D w a (.binOp (if ne=true then .neq else .eql) t u v yt) ty d K:=by
  intro ad l c e1 hk pos after g next Q hn
  have hr:(Op.equal t (.slice (some ad) l c) (.slice none 0 0)).run P w=.ok false w:=nV 9999 ht ad l c
  refine aN (v:=.bool ne) ?_ (hn G _ _ _ (h.Hr hd rfl (.bool _) rfl) (aG.refl G w) hk)
  cases ne<;>simp[execOp,e1,e2,eqGuard,binOp,hr]
 have none_:a.eval u=.slice none 0 0→K (σ.put d (.bool !ne))→mj P G n D w a (.binOp (if ne=true then .neq else .eql) t u v yt) ty d K:=by
  intro e1 hk pos after g next Q hn
  have key:∀q:Nat,(Op.equalIn (q+1) t (.slice none 0 0) (.slice none 0 0)).run P w=.ok true w:=fun q=>by simp[Op.equalIn,run_underlying ht]
  have hr:(Op.equal t (.slice none 0 0) (.slice none 0 0)).run P w=.ok true w:=key 9999
  refine aN (v:=.bool !ne) ?_ (hn G _ _ _ (h.Hr hd rfl (.bool _) rfl) (aG.refl G w) hk)
  cases ne<;>simp[execOp,e1,e2,eqGuard,binOp,hr]
 unfold K6 at hw'
 split at hw'<;>try(exact hw'.elim)
 ·rename_i ow sz m cs
  rcases VR.fR hbx with⟨(e1|⟨_,_,_,e1⟩),rfl,_⟩|⟨b,off,cap,e1,_⟩
  ·exact none_ e1 (hw' _ fun _=>rfl)
  ·exact some_ _ _ _ e1 (hw' _ fun hh=>by cases ne<;>cases hh)
  ·exact some_ _ _ _ e1 (hw' _ fun hh=>by cases ne<;>cases hh)
 ·rename_i b off m cap
  rcases VR.cD hbx with e1|⟨_,rfl,e1⟩
  ·exact some_ _ _ _ e1 (hw' _ fun hh=>by cases ne<;>cases hh)
  ·exact none_ e1 (hw' _ fun _=>rfl)
theorem OQ(h:Inv G n D σ a w){op:Op}{ty:TypeId}{f:Nat}{x y:IX}{d:Option Nat}{K:St→Prop}(hd:ba n d=true)(hc:au P op ty (.UK f x y)=true)(hw:gH P (.UK f x y) d σ K):mj P G n D w a op ty d K:=by
 cases op<;>first|(simp[au]at hc;done)|skip
 rename_i c
 obtain⟨callee,ys,ats⟩:=c
 simp only[au]at hc
 split at hc<;>try(cases hc;done)
 rename_i g
 simp only[Bool.and_eq_true,beq_iff_eq]at hc
 obtain⟨rfl,hxs⟩:=hc
 obtain⟨ys⟩:=ys
 have hys:∃u v,ys=[u,v]∧bw u x=true∧bw v y=true:=by
  match ys,hxs with
  |[u,v],hxs=>
   simp only[fZ,Bool.and_eq_true]at hxs
   exact⟨u,v,rfl,hxs.1,hxs.2.1⟩
  |[],hxs=>cases hxs
  |[_],hxs=>simp[fZ]at hxs
  |_::_::_::_,hxs=>simp[fZ]at hxs
 obtain⟨u,v,rfl,hu,hv⟩:=hys
 have hbx:=XR.aJ h hu
 have hby:=XR.aJ h hv
 have hw':SZ P f σ d K (σ.x x) (σ.x y):=hw
 generalize σ.x x=xv at hw' hbx
 generalize σ.x y=yv at hw' hby
 unfold SZ at hw'
 split at hw'<;>try(exact hw'.elim)
 rename_i ow sz l c0 cs0 b' o' l' cp'
 obtain⟨hov,hs2,hk⟩:=hw'
 rcases VR.fR hbx with⟨_,h0,_⟩|⟨b,o,cp,e1,hl,hR,hcap,hat⟩
 ·cases h0
 have e2:=VR.nr hby (Nat.succ_pos _)
 unfold cellsIn at hs2
 split at hs2<;>try(exact hs2.elim)
 rename_i hs2'
 obtain⟨q0,q1',x2,t2,q1,q2,_⟩:=h.store b' _ hs2'
 obtain⟨uu,hcell,_,_⟩:=hat
 have hc0:=hcell 0 c0 rfl
 have hblk:∃x1 t1 f1,w.heap[b]? =some (.cells x1 t1 f1)∧x1.size≠0:=by
  unfold World.cell? at hc0
  split at hc0
  ·rename_i x1 t1 f1 hh
   refine⟨x1,t1,f1,hh,fun h0=>?_⟩
   have hlt:=(Array.getElem?_eq_some_iff.1 hc0).1
   omega
  ·cases hc0
 obtain⟨x1,t1,f1,p1,p2⟩:=hblk
 have hbb:b≠b':=fun e=>by
  subst e
  rw[q1']at hR
  simp only[List.length_cons]at hR
  omega
 obtain⟨w',hr,r1,r2,r3,r4,r5⟩:=hov w b b' o (l+1) cp o' l' (cp'+1) t1 t2 x1 x2 f1 hbb p1 p2 q1 (by rw[q2.1];simp)
 have hpres:aG G w G w':=⟨r2,r3,r4,r5,by rw[r1];exact Nat.le_refl _,fun _ _=>Nat.le_refl _,fun b k _ _=>xu r1 _,fun b _ _=>by rw[r1],fun b _ hb=>⟨hb,rfl⟩,fun b _ hb=>⟨hb,rfl⟩⟩
 have hg':b9 G w':=⟨fun b hb=>h.aO.iA b (by rw[r1]at hb;exact hb),fun b hb=>h.aO.iU b (by rw[r1]at hb;exact hb)⟩
 have hinv:Inv G n D (σ.put d (.bool false)) (a.put d (.bool false)) w':=by
  have:=h.put (s':=σ.s) (lp':=σ.lp) d (fun i hi=>by subst hi;simpa[ba]using hd) (.bool false) (.bool false) hg' hpres (h.store.mono h.aO hpres (fun b hb=>⟨hb,rfl,by rw[r1]⟩) (fun _ c j _ hc=>⟨hc,rfl,by rw[r1]⟩)) (fun _ hx=>hx) (fun i t _ ht=>ht.elim) (fun i t _⟨cs,hcs⟩=>by cases hcs)
   (fun _ _ _ _=>⟨rfl,rfl,by rw[r1]⟩) (fun _ _ _ _ _ _ hcc=>⟨hcc,rfl,by rw[r1]⟩) (fun i hdi=>⟨.bool _,trivial⟩)
  cases d<;>exact this
 intro pos after gd next Q hn
 refine aN (w':=w') (v:=.bool false) ?_ (hn G _ _ _ hinv hpres hk)
 simp[execOp,resolve,Act.eval,Deferred.ofValue,invoke]
 simp[Act.eval]at e1 e2
 rw[e1,e2,hr]
theorem Ds(a b:List AV):views (a++b)=views a++views b:=by simp[views]
theorem KY(h:Inv G n D σ a w){op:Op}{ty:TypeId}{f i:Nat}{args:List IX}{d:Option Nat}{K:St→Prop}(hd:ba n d=true)(hc:au P op ty (.vI f i args)=true)(hw:gH P (.vI f i args) d σ K):mj P G n D w a op ty d K:=by
 have hcc:au P op ty (.call f args)=true:=by
  cases op<;>first|(simp[au]at hc;done)|skip
  simp only[au,Bool.and_eq_true]at hc
  exact hc.2
 have hw':N7 i σ (fun τ=>rv P f τ d K (cc (xg true τ) args)) (look σ.e i):=hw
 have later:∀(G1:Gh)(τ:St),Inv G1 n D τ a w→aG G w G1 w→rv P f τ d K (cc (xg true τ) args)→mj P G n D w a op ty d K:=by
  intro G1 τ h1 hp hk pos after g next Q hn
  exact Gz h1 hd hcc hk pos after g next Q fun G' σ' a' w' k1 k2 k3=>hn G' σ' a' w' k1 (hp.trans k2) k3
 cases hl:look σ.e i<;>rw[hl]at hw'<;>first|exact hw'.elim|skip
 rename_i sz m cs
 obtain⟨hw1,hw2⟩:=hw'
 have hin:i<n:=h.He (by rw[hl];simp)
 have hlt:i<a.tmps.size:=by rw[h.size];exact hin
 have hs:=h.ch i _ (Array.getElem?_eq_getElem hlt)
 rw[hl]at hs
 rcases hs with⟨h1,h2,h3⟩|⟨b,cap,c,t,sp,h1,h2,h3,h4,h5,h6,h7,h8,h9,h10,h11,h12⟩
 ·subst h1;subst h2
  rcases h3 with h3|⟨b,off,h3⟩
  ·refine later G _ (h.Kr i hin (.arr 0 0 0 0) (fun t ht=>ht) (fun cs e=>by cases e) fun v hv=>?_) (aG.refl G w) (hw2 rfl 0 0)
   rw[Array.getElem?_eq_getElem hlt]at hv;injection hv with hv;subst hv
   exact⟨by rw[h3];exact .Ex _ _,trivial⟩
  ·refine later G _ (h.Kr i hin (.arr b off 0 0) (fun t ht=>ht) (fun cs e=>by cases e) fun v hv=>?_) (aG.refl G w) (hw2 rfl b off)
   rw[Array.getElem?_eq_getElem hlt]at hv;injection hv with hv;subst hv
   exact⟨by rw[h3];exact .arr _ _ _ _,trivial⟩
 ·have hnone:σ.s b=none:=by
   cases hsb:σ.s b with
   |none=>rfl
   |some o=>have:=(h.store b o hsb).1;rw[h4]at this;cases this
  have hvsp:views sp=sp:=by
   have:views cs++views sp=cs++sp:=by rw[←Ds];exact h12
   exact(List.append_inj this (by simp[views])).2
  let G1:Gh:=G.oA b .sh 0
  have same:∀b',b'≠b→G1.O b'=G.O b'∧G1.R b'=G.R b'∧w.heap[b']? =w.heap[b']? :=fun b' hb'=>⟨by simp[G1,hb'],by simp[G1,hb'],rfl⟩
  have hRe:∀b',G1.R b'=G.R b':=fun b'=>by
   by_cases hb:b'=b
   ·subst hb;simp[G1,h5]
   ·simp[G1,hb]
  have hpres:aG G w G1 w:=⟨rfl,rfl,rfl,Nat.le_refl _,Nat.le_refl _,fun b' _=>by rw[hRe];exact Nat.le_refl _,fun _ _ _ _=>rfl,fun _ _ _=>rfl,fun b' _ hb'=>by
   have:b'≠b:=fun e=>by subst e;rw[h4]at hb';cases hb'
   exact⟨(same b' this).1.trans hb',(same b' this).2.1⟩,fun b' _ hb'=>by
   have:b'≠b:=fun e=>by subst e;rw[h4]at hb';cases hb'
   exact⟨(same b' this).1.trans hb',(same b' this).2.1⟩⟩
  have hbl:b<w.heap.size:=h.aO.lt (by rw[h4];simp)
  have hgood:b9 G1 w:=⟨fun b' hb'=>by
   have:b'≠b:=by omega
   rw[(same b' this).1,h.aO.iA b' hb'],fun b' hb'=>by rw[hRe,h.aO.iU b' hb']⟩
  have c6:aW G1 w (σ.s.set b (.cells (cs++sp))):=by
   intro b' o hb'
   unfold ab.set at hb'
   by_cases hbg:b'=b
   ·rw[if_pos hbg]at hb';injection hb' with hb';subst hb';subst hbg
    refine⟨by simp[G1],by simp[G1],c,t,h6,⟨by rw[h7,h9],fun j x y hx hy=>⟨hpres.vr h.aO (h10 j x y hx hy),?_⟩⟩,h11.tag _⟩
    rw[←h12,eb]at hx
    cases hz:(cs++sp)[j]? with
    |none=>rw[hz]at hx;cases hx
    |some x'=>rw[hz]at hx;simp at hx;rw[←hx];exact df.view ..
   ·rw[if_neg hbg]at hb'
    obtain⟨r1,r2,r3⟩:=h.store b' o hb'
    refine⟨(same b' hbg).1.trans r1,(same b' hbg).2.1.trans r2,?_⟩
    cases o with
    |cells cs'=>
     obtain⟨c0,t0,r4,r5,r6⟩:=r3
     exact⟨c0,t0,r4,r5.mono (fun _ _ hv=>hpres.vr h.aO hv) (fun b'' j hb''=>by
      obtain⟨x1,x2,x3⟩:=same b'' (fun e=>by subst e;rw[h4]at hb'';cases hb'')
      exact⟨x1.trans hb'',x2,x3⟩),r6⟩
    |map es=>
     obtain⟨ents,clock,r4,r5,r6⟩:=r3
     exact⟨ents,clock,r4,r5,fun j x y hx hy=>⟨hpres.vr h.aO (r6 j x y hx hy).1,hpres.vr h.aO (r6 j x y hx hy).2⟩⟩
  have h1':Inv G1 n D ({σ with s:=σ.s.set b (.cells (cs++sp))}.put (some i) (.arr b 0 m cap)) a w:=by
   have ha:a.put (some i) a.tmps[i]=a:=by
    have:a.tmps.setIfInBounds i a.tmps[i]=a.tmps:=by rw[Array.setIfInBounds,dif_pos hlt,Array.set_getElem_self]
    simp[Act.put,this]
   have:=h.put (s':=σ.s.set b (.cells (cs++sp))) (lp':=σ.lp) (some i) (fun j hj=>by injection hj with hj;subst hj;exact hin) (.arr b 0 m cap) a.tmps[i] hgood hpres c6 (fun _ hx=>hx) (fun j t _ ht=>ht.elim) (fun j t _⟨cs,hcs⟩=>by cases hcs)
    (fun j b' hj hb'=>same b' (fun e=>by
      subst e
      rcases hb' with⟨q,hb'⟩|hb'<;>rw[h4]at hb'
      ·injection hb' with hb' _;exact hj (by rw[hb'])
      ·cases hb'))
    (fun j b' c' q _ _ hc'=>by
      obtain⟨x1,x2,x3⟩:=same c' (fun e=>by subst e;rw[h4]at hc';cases hc')
      exact⟨x1.trans hc',x2,x3⟩)
    (fun j hj=>by
      injection hj with hj;subst hj
      exact⟨by rw[h3];exact .arr _ _ _ _,trivial⟩)
   rw[ha]at this
   exact this
  exact later G1 _ h1' hpres (hw1 b cap sp hnone h1 h2 h9 h11 hvsp)
theorem Kg{R:Nat→Nat}{sz:Nat}{c:AV}{u:Value}(h:VR w R c u):VR w R (wJ sz c) u:=by
 unfold wJ
 split
 ·rename_i b
  rcases VR.cD h with e|⟨_,_,e⟩
  ·rw[e];exact .sl true sz 0 [] b 0 0 (fun _=>undef) Fl.nil (by simp) (by simp) (Nat.le_refl _) (fun j c hj=>by simp at hj) (fun j c hj=>by simp at hj)
  ·rw[e];exact .slnil _ _
 ·exact h
theorem Hh{R:Nat→Nat}{o:cY}{sz:Nat}{c:AV}{u:Value}(h:VR w R c u):df G w o (wJ sz (view c)) u:=by
 unfold wJ
 split
 ·rename_i b hb
  have:c=.arr b 0 0 0:=by cases c<;>simp[view]at hb<;>simp[hb]
  subst this
  intro base m cap hv hc
  rcases VR.cD h with e|⟨_,_,e⟩<;>rw[e]at hv<;>injection hv with _ e2 e3<;>omega
 ·exact df.view ..
theorem D3{sz:Nat}{c:AV}(h:oH c=true):oH (wJ sz c)=true:=by
 unfold wJ
 split
 ·rfl
 ·exact h
theorem HL{sz:Nat}{av:AV}{v:Value}(hi:c9 av=true)(h:VR w G.R av v):Fl (cz sz av)∧v.cells.toList.length=(cz sz av).length∧(∀(j:Nat)(x:AV)(y:Value),(cz sz av)[j]? =some x→v.cells.toList[j]? =some y→VR w G.R x y)∧
 (∀y∈v.cells.toList,y.oneCell'=true):=by
 obtain⟨h1,h2,h3,h4⟩:=Co hi h
 cases av with
 |agg cs=>
  simp only[bp]at h1 h2 h3
  refine⟨fun c hc=>?_,by simp only[cz,List.length_map];exact h2,fun j x y hx hy=>?_,h4⟩
  ·simp only[cz,List.mem_map]at hc
   obtain⟨c',hc',rfl⟩:=hc
   exact D3 (h1 c' hc')
  ·simp only[cz,List.getElem?_map]at hx
   cases hz:(views cs)[j]? with
   |none=>rw[hz]at hx;cases hx
   |some x'=>rw[hz]at hx;simp at hx;rw[←hx];exact Kg (h3 j x' y hz hy)
 |_=>exact⟨h1,h2,h3,h4⟩
theorem Iz(h:Inv G n D σ a w){op:Op}{ty:TypeId}{sz m:Nat}{p v:IX}{d:Option Nat}{K:St→Prop}(hd:ba n d=true)(hc:au P op ty (.yl sz m p v)=true)(hw:gH P (.yl sz m p v) d σ K):mj P G n D w a op ty d K:=by
 cases op<;>first|(simp[au]at hc;done)|skip
 rename_i t q u
 simp only[au,Bool.and_eq_true]at hc
 obtain⟨⟨hs,hq⟩,hu⟩:=hc
 obtain⟨hi,hm,hk⟩:=hw
 have hvr:VR w G.R (σ.x v) (a.eval u):=by
  have:=XR.aJ h hu
  generalize σ.x v=av at hi this
  cases av<;>first|exact this|(simp[c9]at hi)
 have target:∃g off ez,a.eval q=.pointer (some ⟨g,off,none⟩)∧
  ((∃i,look σ.e i=.loc ez∧a.tmps[i]? =some (.pointer (some ⟨g,0,none⟩))∧Dt (σ.drain v) (σ.x p) p (cz sz (σ.x v))=Qj (σ.drain v) i (dQ off (cz sz (σ.x v)) ez))∨
   (σ.s g=some (.cells ez)∧Dt (σ.drain v) (σ.x p) p (cz sz (σ.x v))=Qk (σ.drain v) g (dQ off (cz sz (σ.x v)) ez))):=by
  have hb:=XR.aJ h hq
  cases hp:σ.x p with
  |loc ez=>
   rw[hp]at hb
   obtain⟨i,b,c,t',e1,e2,e3,e4,_⟩:=hb
   refine⟨b,0,ez,e4,.inl ⟨i,e2,by rw[e3,e4],?_⟩⟩
   subst e1;rfl
  |lp d0 off=>
   rw[hp]at hb hk
   obtain⟨b,e1,e2⟩:=hb
   have hk':HS d K (Er (σ.drain v) d0 off (cz sz (σ.x v)) (look (σ.drain v).e d0)):=hk
   cases hl:look (σ.drain v).e d0<;>rw[hl]at hk'<;>first|exact hk'.elim|skip
   rename_i ez
   have hl':=Bu hi hl
   exact⟨b,off,ez,e1,.inl ⟨d0,hl',e2 ez hl',by show Er _ _ _ _ (look (σ.drain v).e d0)=_;rw[hl];rfl⟩⟩
  |ref b off=>
   rw[hp]at hb hk
   have e1:=VR.gi hb
   have hk':HS d K (JF (σ.drain v) b off (cz sz (σ.x v)) ((σ.drain v).s b)):=hk
   have hs':(σ.drain v).s=σ.s:=by cases v<;>rfl
   rw[hs']at hk'
   cases hl:σ.s b with
   |none=>rw[hl]at hk';exact hk'.elim
   |some so=>
    cases so with
    |map es=>rw[hl]at hk';exact hk'.elim
    |cells ez=>exact⟨b,off,ez,e1,.inr ⟨hl,by show JF _ _ _ _ ((σ.drain v).s b)=_;rw[hs',hl];rfl⟩⟩
  |_=>rw[hp]at hk;exact hk.elim
 obtain⟨g,off,ez,e1,htar⟩:=target
 obtain⟨G1,h1,hp1,hv1,hown1,hR1,hsh,hloc,hcell⟩:=h.drain hu hi (.cell g off) (by simp) (by simp)
 obtain⟨hfl,hlen,hvals,hone⟩:=HL (sz:=sz) hi hv1
 have hown':∀(j:Nat)(x:AV)(y:Value),(cz sz (σ.x v))[j]? =some x→(a.eval u).cells.toList[j]? =some y→VR w G1.R x y∧df G1 w (.cell g (off+j)) x y:=by
  intro j x y hx hy
  refine⟨hvals j x y hx hy,?_⟩
  cases hv:σ.x v with
  |agg cs=>
   rw[hv]at hx hv1
   obtain⟨vs,e,hl,hr,_⟩:=VR.l6 hv1
   simp only[cz,List.getElem?_map]at hx
   rw[eb]at hx
   cases hc0:cs[j]? with
   |none=>rw[hc0]at hx;cases hx
   |some c0=>
    rw[hc0]at hx;simp at hx;rw[←hx]
    rw[e]at hy
    exact Hh (hr j c0 y hc0 (by simpa[Value.cells]using hy))
  |sl o s l cs=>
   rw[hv]at hx hown1 hv1
   cases j with
   |succ j=>simp[cz]at hx
   |zero=>
   simp[cz]at hx
   subst hx
   have:(a.eval u).cells= #[a.eval u]:=by rcases VR.fR hv1 with⟨(e|⟨_,_,_,e⟩),_⟩|⟨_,_,_,e,_⟩<;>rw[e]<;>rfl
   rw[this]at hy
   simp at hy
   subst hy
   exact hown1
  |bb t l cs=>
   rw[hv]at hx hown1 hv1
   cases j with
   |succ j=>simp[cz]at hx
   |zero=>
   simp[cz]at hx
   subst hx
   have hv1':VR w G1.R (.sl true 1 l cs) (a.eval u):=by cases hv1;assumption
   have:(a.eval u).cells= #[a.eval u]:=by rcases VR.fR hv1' with⟨(e|⟨_,_,_,e⟩),_⟩|⟨_,_,_,e,_⟩<;>rw[e]<;>rfl
   rw[this]at hy
   simp at hy
   subst hy
   exact hown1
  |_=>
   rw[hv]at hx
   cases j with
   |succ j=>simp[cz]at hx
   |zero=>simp[cz]at hx;subst hx;trivial
 have hlen':(a.eval u).cells.toList.length=m:=by rw[hlen,hm]
 have hput:∀(τ:St)(w':World),Inv G1 n D τ a w'→Inv G1 n D (τ.put d (.gu [])) (a.put d undef) w':=by
  intro τ w' hτ
  have:=hτ.put (s':=τ.s) (lp':=τ.lp) d (fun i hi=>by subst hi;simpa[ba]using hd) (.gu []) undef hτ.aO (aG.refl G1 w') hτ.store (fun _ hx=>hx) (fun i t _ ht=>ht.elim) (fun i t _⟨cs,hcs⟩=>by cases hcs)
   (fun _ _ _ _=>⟨rfl,rfl,rfl⟩) (fun _ _ _ _ _ _ hcc=>⟨hcc,rfl,rfl⟩) (fun i hdi=>⟨#[],rfl,rfl,fun j x y hx=>by simp at hx⟩)
  cases d<;>exact this
 rcases htar with⟨i,e2,e3,e4⟩|⟨e2,e4⟩
 ·
  rw[e4]at hk
  cases hwr:dQ off (cz sz (σ.x v)) ez with
  |none=>rw[hwr]at hk;exact hk.elim
  |some cs'=>
   rw[hwr]at hk
   obtain⟨hfit,rfl⟩:=qh hwr
   have e2':look (σ.drain v).e i=.loc ez:=yK hi e2
   have hslot:=h1.ch i _ e3
   rw[e2']at hslot
   obtain⟨b,c,t',q1,q2,q3,q4,q5,q6⟩:=hslot
   injection q1 with q1;injection q1 with q1;injection q1 with q1 _ _
   subst q1
   have hne:∀j,G1.O g≠.cell g j:=fun j=>by rw[q2];simp
   have hfit':off+(a.eval u).cells.toList.length≤c.size:=by rw[hlen,q5.1];exact hfit
   have hrun:=mg (P:=P) hs q4 (v:=a.eval u) (by simpa using hlen') (by rw[←hlen'];exact hfit') hone
   have hpres:aG G1 w G1 (w.setRow g (laid c off (a.eval u).cells.toList)):=aG.write q4 (by rw[q2];simp) (fun k hk=>by rw[q3]at hk;omega) (Nat.le_refl _) (fun _ _=>⟨rfl,rfl⟩)
   have hcells:=db.lay q4 hpres h1.aO q5 hlen hfit hne hown'
   obtain⟨h2,_⟩:=h1.written (σ':=(σ.drain v).put (some i) (.loc (setAt ez off (cz sz (σ.x v))))) q4 (.inl ⟨i,q2⟩) q3 rfl
    (h1.store.mono h1.aO hpres (fun b hb=>⟨hb,rfl,setRow_other w g b _ (fun e=>by subst e;rw[q2]at hb;cases hb)⟩) (fun b c j _ hc=>⟨hc,rfl,setRow_other w g c _ (fun e=>by subst e;rw[q2]at hc;cases hc)⟩))
    (fun k=>by
      by_cases hki:i=k
      ·subst hki
       exact .inr ⟨q2,e3,ez,_,e2',by simp[St.put,aP],hcells,Fl.setAt q6 hfl off⟩
      ·refine .inl ⟨by simp[St.put,aP,hki],?_⟩
       rw[q2];intro e;injection e with e;exact hki e)
   intro pos after gd next Q hn
   exact pB (w':=w.setRow g (laid c off (a.eval u).cells.toList)) (by simp[execOp,e1,Instr.storeAt,Instr.sureAddr,hrun]) (hn G1 _ _ _ (hput _ _ h2) (hp1.trans hpres) hk)
 ·
  rw[e4]at hk
  cases hwr:dQ off (cz sz (σ.x v)) ez with
  |none=>rw[hwr]at hk;exact hk.elim
  |some cs'=>
   rw[hwr]at hk
   obtain⟨hfit,rfl⟩:=qh hwr
   have hs':(σ.drain v).s=σ.s:=by cases v<;>rfl
   obtain⟨q2,q3,c,t',q4,q5,q6⟩:=h1.store g (.cells ez) (by rw[hs'];exact e2)
   have hne:∀j,G1.O g≠.cell g j:=fun j=>by rw[q2];simp
   have hfit':off+(a.eval u).cells.toList.length≤c.size:=by rw[hlen,q5.1];exact hfit
   have hrun:=mg (P:=P) hs q4 (v:=a.eval u) (by simpa using hlen') (by rw[←hlen'];exact hfit') hone
   have hpres:aG G1 w G1 (w.setRow g (laid c off (a.eval u).cells.toList)):=aG.write q4 (by rw[q2];simp) (fun k hk=>by rw[q3]at hk;omega) (Nat.le_refl _) (fun _ _=>⟨rfl,rfl⟩)
   have hcells:=db.lay q4 hpres h1.aO q5 hlen hfit hne hown'
   have c6:aW G1 (w.setRow g (laid c off (a.eval u).cells.toList)) ((σ.drain v).s.set g (.cells (setAt ez off (cz sz (σ.x v))))):=by
    intro b o hb
    unfold ab.set at hb
    by_cases hbg:b=g
    ·rw[if_pos hbg]at hb;injection hb with hb;subst hb;subst hbg
     exact⟨q2,q3,_,t',setRow_heap w b c _ t' _ q4,hcells,xn.setAt q6 hfl off⟩
    ·rw[if_neg hbg]at hb
     obtain⟨r1,r2,r3⟩:=h1.store b o hb
     refine⟨r1,r2,?_⟩
     have hbk:=setRow_other w g b (laid c off (a.eval u).cells.toList) hbg
     cases o with
     |cells cs=>
      obtain⟨c0,t0,r4,r5,r6⟩:=r3
      exact⟨c0,t0,hbk.trans r4,r5.mono (fun _ _ hv=>hpres.vr h1.aO hv) (fun b' j hb'=>⟨hb',rfl,setRow_other w g b' _ (fun e=>by subst e;rw[q2]at hb';cases hb')⟩),r6⟩
     |map es=>
      obtain⟨ents,clock,r4,r5,r6⟩:=r3
      exact⟨ents,clock,hbk.trans r4,r5,fun j x y hx hy=>⟨hpres.vr h1.aO (r6 j x y hx hy).1,hpres.vr h1.aO (r6 j x y hx hy).2⟩⟩
   obtain⟨h2,_⟩:=h1.written (σ':={σ.drain v with s:=(σ.drain v).s.set g (.cells (setAt ez off (cz sz (σ.x v))))}) q4 (.inr q2) q3 rfl c6
    (fun k=>.inl ⟨rfl,by rw[q2];simp⟩)
   intro pos after gd next Q hn
   exact pB (w':=w.setRow g (laid c off (a.eval u).cells.toList)) (by simp[execOp,e1,Instr.storeAt,Instr.sureAddr,hrun]) (hn G1 _ _ _ (hput _ _ h2) (hp1.trans hpres) hk)
theorem Mx(h:Inv G n D σ a w){op:Op}{ty:TypeId}{sz m:Nat}{x:IX}{d:Option Nat}{K:St→Prop}(hd:ba n d=true)(hc:au P op ty (.Ey sz m x)=true)(hw:gH P (.Ey sz m x) d σ K):mj P G n D w a op ty d K:=by
 cases op<;>first|(simp[au]at hc;done)|skip
 rename_i t y
 simp only[au,Bool.and_eq_true]at hc
 obtain⟨hi,_,hk⟩:=hw
 have hvr:VR w G.R (σ.x x) (a.eval y):=by
  have:=XR.aJ h hc.2
  generalize σ.x x=av at hi this
  cases av<;>first|exact this|(simp[c9]at hi)
 have hrow:=gv hi hvr
 have hcs:∀(G':Gh)(w':World)(o:Nat→cY),aG G w G' w'→db G' w' o ((views (cellsOf (σ.x x))).map (wJ sz)) (a.eval y).cells:=by
  intro G' w' o hp
  refine⟨by simp only[List.length_map,views];exact hrow.1,fun j c u hcj hu=>?_⟩
  simp only[List.getElem?_map]at hcj
  rw[eb]at hcj
  cases hz:(cellsOf (σ.x x))[j]? with
  |none=>rw[hz]at hcj;cases hcj
  |some c0=>
   rw[hz]at hcj;simp at hcj
   have h1:=hp.vr h.aO (hrow.2.1 j c0 u hz hu)
   rw[←hcj]
   exact⟨Kg h1.view,Hh h1⟩
 have hfl:Fl ((views (cellsOf (σ.x x))).map (wJ sz)):=by
  intro c hc'
  simp only[List.mem_map]at hc'
  obtain⟨c',h1,rfl⟩:=hc'
  exact D3 (hrow.2.2.views c' h1)
 intro pos after g next Q hn
 obtain⟨G',h1,h2⟩:=h.I7 hd (t:=t) (.inl ⟨rfl,rfl⟩) hcs hfl
 refine aN ?_ (hn G' _ _ _ h1 h2 (hk w.heap.size (h.store.get_none h.aO)))
 simp[execOp,Instr.box,newVar,newRow]
end
end Go.AB
end
