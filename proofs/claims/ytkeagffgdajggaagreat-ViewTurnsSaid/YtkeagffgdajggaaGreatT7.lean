/- A part of the proof: Ab15q, Ab15r, Ab15s. -/
import Derived.Test.YtkeagffgdajggaaGreatT6
set_option linter.unusedSimpArgs false
set_option linter.unusedVariables false
section
namespace Go.AB
open Go
section
variable{P:Program}{G G':Gh}{n:Nat}{D:List Deferred}{σ:St}{a:Act}{w w':World}
theorem B9(cs:List AV)(k:Nat):setAt cs k []=cs:=by simp[setAt]
theorem n5{s:ab}{b:Nat}{o:SO}(h:s b=some o):s.set b o=s:=by
 funext i
 unfold ab.set
 split
 ·rename_i e;subst e;exact h.symm
 ·rfl
theorem B5{sz b off cap:Nat}{o:Option SO}(h:B4 sz b off cap o):∃cs,o=some (.cells cs)∧off+cap*sz≤cs.length:=by
 unfold B4 at h
 split at h
 ·exact⟨_,rfl,h⟩
 ·exact h.elim
theorem vW{e:TypeId}{z:List AV}(hz:od P e z=true):∃v:Value,(∀w,(zeroValue e).run P w=.ok v w)∧(∃i,P.info? e=some i∧i.zero=some v∧i.size=z.length)∧∀(q:Nat),(Builtin.zeroCells v.cells q).toList.length=q*z.length∧(List.replicate q z).flatten.length=q*z.length∧
 (∀(j:Nat)(x:AV)(y:Value),(List.replicate q z).flatten[j]? =some x→(Builtin.zeroCells v.cells q).toList[j]? =some y→cR y x=true)∧Fl (List.replicate q z).flatten∧(∀y∈(Builtin.zeroCells v.cells q).toList,y.oneCell'=true):=by
 obtain⟨i,v,h1,h2,h3,h4,h5⟩:=wK hz
 refine⟨v,fun w=>by simp[zeroValue,typeInfo,h1,h2],⟨i,h1,h2,h3⟩,fun q=>?_⟩
 have e0:Builtin.zeroCells v.cells q=((List.replicate q v.cells.toList).flatten).toArray:=vV v.cells q
 rw[e0]
 have h4:=h4 default fun _=>0
 have hlz:v.cells.toList.length=z.length:=by simpa using h4.1
 have hone:∀y∈v.cells.toList,y.oneCell'=true:=by
  intro y hy
  obtain⟨j,hj⟩:=List.mem_iff_getElem?.1 hy
  have hlt:j<z.length:=by rw[←hlz];exact(List.getElem?_eq_some_iff.1 hj).1
  exact gF (h4.2.2 _ (List.getElem_mem hlt)) (h4.2.1 j _ y (List.getElem?_eq_getElem hlt) (by simpa using hj))
 have hlen:∀(α:Type)(l:List α),(List.replicate q l).flatten.length=q*l.length:=fun α l=>by simp
 refine⟨by show(List.replicate q v.cells.toList).flatten.length=_;rw[hlen,hlz],hlen _ z,?_,?_,?_⟩
 ·show∀(j:Nat)(x:AV)(y:Value),(List.replicate q z).flatten[j]? =some x→(List.replicate q v.cells.toList).flatten[j]? =some y→cR y x=true
  clear e0 hlen
  induction q with
  |zero=>intro j x y hx;simp at hx
  |succ q ih=>
   intro j x y hx hy
   simp only[List.replicate_succ,List.flatten_cons]at hx hy
   by_cases hj:j<z.length
   ·rw[List.getElem?_append_left hj]at hx
    rw[List.getElem?_append_left (by omega)]at hy
    exact h5 j x y hx (by simpa using hy)
   ·rw[List.getElem?_append_right (by omega)]at hx
    rw[List.getElem?_append_right (by omega),hlz]at hy
    exact ih _ x y hx hy
 ·intro x hx
  simp only[List.mem_flatten,List.mem_replicate]at hx
  obtain⟨l,⟨_,rfl⟩,hm⟩:=hx
  exact h4.2.2 x hm
 ·intro y hy
  simp only[List.mem_flatten,List.mem_replicate]at hy
  obtain⟨l,⟨_,rfl⟩,hm⟩:=hy
  exact hone y hm
theorem MW(h:Inv G n D σ a w){op:Op}{ty:TypeId}{sz by':Nat}{z:List AV}{x y:IX}{d:Option Nat}{K:St→Prop}(hd:aN n d=true)(hc:al P op ty (.ee sz by' z x y)=true)(hw:gM P (.ee sz by' z x y) d σ K):nd P G n D w a op ty d K:=by
 cases op<;>first|(simp[al]at hc;done)|skip
 rename_i c
 simp only[al]at hc
 split at hc<;>try(cases hc;done)
 rename_i u v t t' hb
 have hce:=ns hb
 subst hce
 simp only[Bool.and_eq_true]at hc
 obtain⟨⟨hu,hv⟩,hc⟩:=hc
 split at hc<;>try(cases hc;done)
 rename_i e ht
 have ht:=cz ht
 simp only[Bool.and_eq_true]at hc
 obtain⟨⟨⟨⟨⟨⟨hs,hby⟩,hpos⟩,hbpos⟩,hzl⟩,hzi⟩,ht'⟩:=hc
 obtain⟨i,hi,hisz⟩:=iJ hs
 obtain⟨zv,_,⟨i1,hi1,hz,hz1⟩,hzz0⟩:=vW hzi
 rw[hi]at hi1;injection hi1 with hi1;subst hi1
 have hpos:=of_decide_eq_true hpos
 have hbpos:=of_decide_eq_true hbpos
 have hby:i.bytes=by':=by
  unfold iY at hby
  rw[hi]at hby
  simpa using hby
 have ht2:(∃e',P.underlying t'=some (.slice e'))∨P.underlying t'=some .string:=by
  rcases Bool.or_eq_true .. ▸ht' with h|h
  ·cases he:b7 P t' with
   |none=>rw[he]at h;cases h
   |some e'=>exact .inl ⟨e',cz he⟩
  ·exact .inr (AR h)
 have hw':dX sz by' z σ d K (σ.x x) (s5 σ.s sz (σ.x y)):=hw
 have hbx:=XR.aB h hu
 generalize σ.x x=xv at hw' hbx
 cases hsv:s5 σ.s sz (σ.x y)with
 |none=>rw[hsv]at hw';unfold dX at hw';split at hw'<;>first|(rename_i hh;cases hh;done)|exact hw'.elim
 |some md=>
 obtain⟨m,ds⟩:=md
 rw[hsv]at hw'
 obtain⟨news,hsrcN⟩:=GQ (P:=P) h hv hsv
 have hsrc:=hsrcN.src
 unfold dX at hw'
 split at hw'<;>try(exact hw'.elim)
 rename_i b off k cap _ _ he0
 injection he0 with he0;injection he0 with e1 e2;subst e1;subst e2
 cases hol:nO σ.s sz b off k with
 |none=>rw[hol]at hw';exact hw'.elim
 |some olds=>
 rw[hol]at hw'
 obtain⟨hzl2,hstay,hgrow⟩:=hw'
 have hold:k=0∧olds=[]∨∃cs,σ.s b=some (.cells cs)∧off+k*sz≤cs.length∧olds=views (AB.sub cs off (k*sz)):=by
  unfold nO at hol
  by_cases hk:k=0
  ·subst hk
   injection hol with hol;exact .inl ⟨rfl,hol.symm⟩
  ·rw[show(k==0)=false by simpa using hk]at hol
   cases hca:ja k sz off (σ.s b)with
   |none=>rw[hca]at hol;cases hol
   |some q=>
    rw[hca]at hol;injection hol with hol
    obtain⟨q1,q2⟩:=q
    obtain⟨cs,e1,e2,_,e4⟩:=rf hca
    exact .inr ⟨cs,e1,e2,by rw[←hol];exact e4⟩
 by_cases hfit:k+m≤cap
 ·rcases hstay hfit with⟨rfl,hk⟩|⟨hroom,hk⟩
  ·have hnews:news=[]:=List.eq_nil_of_length_eq_zero (by simpa using hsrc.len)
   subst hnews
   intro pos after gd next Q hn
   refine aF (w':=w) (v:=a.eval u) ?_ (hn G _ _ _ (h.N6 hd rfl hbx rfl) (ax.refl G w) hk)
   rcases VR.bQ hbx with e1|⟨rfl,rfl,e1⟩
   ·have hrun:=gy (ty:=ty) (w:=w) ht ht2 hi hisz hsrc (b:=b) (off:=off) (k:=k) (cap:=cap) hfit (w':=w) rfl
    simp only[Nat.add_zero]at hrun
    simp[execOp,resolve,invoke,builtin,e1,hrun]
   ·have hrun:=mY (ty:=ty) ht ht2 hi hisz hsrc
    simp[execOp,resolve,invoke,builtin,e1,hrun]
  ·obtain⟨cs,hsb,hfit2⟩:=B5 hroom
   rw[hsb]at hk
   have hk':K ({σ with s:=σ.s.set b (.cells (setAt cs (off+k*sz) ds))}.put d (.arr b off (k+m) cap)):=hk
   obtain⟨_,_,c,et,hcb,hcr,hcf⟩:=h.store b _ hsb
   have hmul:off+k*sz+m*sz≤cs.length:=by
    rw[Nat.add_assoc,←Nat.add_mul]
    exact Nat.le_trans (Nat.add_le_add_left (Nat.mul_le_mul_right _ hfit) _) hfit2
   by_cases hm:m=0
   ·subst hm
    have hnews:news=[]:=List.eq_nil_of_length_eq_zero (by simpa using hsrc.len)
    have hds:ds=[]:=List.eq_nil_of_length_eq_zero (by simpa using hsrc.pn)
    subst hnews;subst hds
    rw[B9,n5 hsb,Nat.add_zero]at hk'
    intro pos after gd next Q hn
    refine aF (w':=w) (v:=a.eval u) ?_ (hn G _ _ _ (h.N6 hd rfl hbx rfl) (ax.refl G w) hk')
    rcases VR.bQ hbx with e1|⟨rfl,rfl,e1⟩
    ·have hrun:=gy (ty:=ty) (w:=w) ht ht2 hi hisz hsrc (b:=b) (off:=off) (k:=k) (cap:=cap) hfit (w':=w) rfl
     simp only[Nat.add_zero]at hrun
     simp[execOp,resolve,invoke,builtin,e1,hrun]
    ·have hrun:=mY (ty:=ty) ht ht2 hi hisz hsrc
     simp[execOp,resolve,invoke,builtin,e1,hrun]
   ·have e1:=VR.oj hbx (by omega)
    obtain⟨h2,hp2⟩:=h.zd (off:=off+k*sz) (ds:=ds) (news:=news) hsb hcb (by rw[hsrc.len,hsrc.pn]) (by rw[hsrc.pn];exact hmul) hsrc.fl hsrcN.vw hsrc.kE
    have hfit3:off+k*sz+news.length≤c.size:=by rw[hsrc.len,hcr.1];exact hmul
    have hst:=dc (P:=P) b (off+k*sz) et (0,0) news 0 c w hcb (fun j _ hj=>by simp at hj) (by simpa using hfit3) hsrc.one
    have hrun:=gy (ty:=ty) (w:=w) ht ht2 hi hisz hsrc (b:=b) (off:=off) (k:=k) (cap:=cap) hfit (w':=w.setRow b (laid c (off+k*sz) news)) (by simpa[laid]using hst)
    intro pos after gd next Q hn
    refine aF ?_ (hn G _ _ _ (h2.N6 hd rfl (.arr b off (k+m) cap) rfl) hp2 hk')
    simp[execOp,resolve,invoke,builtin,e1,hrun]
 ·have hgr:cap<k+m:=by omega
  obtain⟨hroom,hk⟩:=hgrow hgr
  have grow:∀(base:Option Addr)(us:List Value),a.eval u=.slice base k cap→us.length=k*sz→olds.length=k*sz→Fl olds→views olds=olds→
   (Builtin.firstCells sz k (.slice base k cap)).run P w.drew=.ok us.toArray w.drew→(∀(j:Nat)(c:AV)(u:Value),olds[j]? =some c→us[j]? =some u→VR w G.R c u)→
   nd P G n D w a (.call {callee:=.builtin .append,args:= #[u,v],argTypes:= #[t,t']}) ty d K:=by
   intro base us e1 hul hol2 hof hov hfc hvals
   have hrun:=rG (ty:=ty) ht ht2 hi hz hisz hsrc hfc hgr (by rw[hby];exact hroom) (by rw[hby];exact hbpos)
   have hge:k+m≤grownCap w (k+m) cap e:=grownCap_ge w (k+m) cap e
   obtain⟨zz1,zz2,zz3,zz4,_⟩:=hzz0 (grownCap w (k+m) cap e -(k+m))
   obtain⟨G2,h3,h4⟩:=(h.drew).PN (t:=e) (c:=us.toArray++news.toArray++Builtin.zeroCells zv.cells (grownCap w (k+m) cap e -(k+m)))
    (cs:=olds++ds++(List.replicate (grownCap w (k+m) cap e -(k+m)) z).flatten) (d:=d) hd (.inr ⟨k+m,grownCap w (k+m) cap e,rfl,rfl⟩)
    (fun G' w' o hp=>by
      have hl1:=hsrc.len
      have hl2:=hsrc.pn
      refine⟨by simp only[Array.size_append,List.size_toArray,List.length_append,zz2];rw[Array.length_toList]at zz1;omega,fun j x y hx hy=>?_⟩
      have own_view:∀(l:List AV)(q:Nat),views l=l→l[q]? =some x→c7 G' w' (o j) x y:=by
       intro l q hvl hq
       rw[←hvl,dU]at hq
       cases hz':l[q]? with
       |none=>rw[hz']at hq;cases hq
       |some x'=>rw[hz']at hq;simp at hq;rw[←hq];exact c7.view ..
      by_cases hj1:j<olds.length
      ·rw[List.append_assoc,List.getElem?_append_left hj1]at hx
       rw[Array.append_assoc,Array.getElem?_append_left (by simp;omega)]at hy
       exact⟨hp.vr h.drew.aG ((ax.drew G w).vr h.aG (hvals j x y hx (by simpa using hy))),own_view _ _ hov hx⟩
      ·by_cases hj2:j<olds.length+ds.length
       ·rw[List.getElem?_append_left (by simp;omega),List.getElem?_append_right (by omega)]at hx
        rw[Array.getElem?_append_left (by simp;omega),Array.getElem?_append_right (by simp;omega)]at hy
        simp only[List.size_toArray,List.getElem?_toArray]at hy
        rw[hul,←hol2]at hy
        exact⟨hp.vr h.drew.aG ((ax.drew G w).vr h.aG (hsrc.kE _ x y hx hy)),own_view _ _ hsrcN.vw hx⟩
       ·rw[List.getElem?_append_right (by simp;omega)]at hx
        rw[Array.getElem?_append_right (by simp;omega)]at hy
        have ea:(us.toArray++news.toArray).size=olds.length+ds.length:=by simp;omega
        rw[ea]at hy
        rw[List.length_append]at hx
        have:=zz3 _ x y hx (by simpa using hy)
        exact⟨tm this w' G'.R,EB this G' w' _⟩)
    (fun c hc=>by
      rcases List.mem_append.1 hc with hc|hc
      ·rcases List.mem_append.1 hc with hc|hc
       ·exact hof c hc
       ·exact hsrc.fl c hc
      ·exact zz4 c hc)
   intro pos after gd next Q hn
   refine aF ?_ (hn G2 _ _ _ h3 ((ax.drew G w).trans h4) (hk _ _ (h.store.get_none h.aG) hge))
   simp[execOp,resolve,invoke,builtin,e1,hrun]
  rcases VR.bQ hbx with e1|⟨rfl,rfl,e1⟩
  ·rcases hold with⟨rfl,rfl⟩|⟨cs,hsb,hle,rfl⟩
   ·exact grow _ [] e1 (by simp) (by simp) Fl.nil rfl (run_firstCells_some w.drew sz 0 ⟨b,off,none⟩ 0 cap [] (by simp) (fun j v hj=>by simp at hj)) (fun j c u hc=>by simp at hc)
   ·have hat:=h.store.at hsb hle
    obtain⟨us,u1,u2,u3⟩:=hat.kE
    have hfl:Fl (views (AB.sub cs off (k*sz))):=by obtain⟨_,_,_,hf⟩:=hat;exact hf
    have hlen:(views (AB.sub cs off (k*sz))).length=k*sz:=by simp only[views,List.length_map];exact iC hle
    exact grow _ us e1 (by rw[u1,hlen]) hlen hfl (pa _) (run_firstCells_some w.drew sz k ⟨b,off,none⟩ k cap us (by rw[u1,hlen]) u2) u3
  ·rcases hold with⟨_,rfl⟩|⟨cs,hsb,hle,rfl⟩
   ·exact grow none [] e1 (by simp) (by simp) Fl.nil rfl (by simp[Builtin.firstCells]) (fun j c u hc=>by simp at hc)
   ·have:views (AB.sub cs off (0*sz))=[]:=by simp[AB.sub,views]
    rw[this]at grow
    exact grow none [] e1 (by simp) (by simp) Fl.nil rfl (by simp[Builtin.firstCells]) (fun j c u hc=>by simp at hc)
theorem IS{t t' ty e:TypeId}{i:TypeInfo}{z:Value}{sz m:Nat}{k':IntKind}(ht:P.underlying t=some (.slice e))(ht':P.underlying t'=some (.int k'))(hi:P.info? e=some i)(hz:i.zero=some z)(hsz:i.size=sz)(hsz0:0<sz){c:Int}(hc0:0≤c)(hm:c.toNat=m){base:Option Addr}{k cap:Nat}{olds:List Value}
 (hold:(Builtin.firstCells sz k (.slice base k cap)).run P w.drew=.ok olds.toArray w.drew)(hroom:cap<k+m)(hbytes:(k+m)*i.bytes≤room)(hb0:0<i.bytes):
 (Builtin.append_ #[t,t'] ty #[.slice base k cap,.int .i64 c]).run P w=.ok (.slice (some ⟨w.heap.size,0,none⟩) (k+m) (grownCap w (k+m) cap e))
   (w.drew.alloc (.cells (olds.toArray++Builtin.zeroCells z.cells m++Builtin.zeroCells z.cells (grownCap w (k+m) cap e -(k+m))) e)):=by
 subst hsz
 subst hm
 have h3:¬(k+c.toNat≤cap):=by omega
 have h4:¬(281474976710656<Builtin.nextslicecap (k+c.toNat) cap*i.bytes):=by have:=growslice_fits hroom hbytes;omega
 have h5:k+c.toNat≤(k+c.toNat)*i.bytes:=Nat.le_mul_of_pos_right _ hb0
 have hbytes':=hbytes
 unfold room at hbytes'
 have hcb:c≤140737488355328:=by omega
 have h6:¬((9223372036854775807:Int)<(k:Int)+(c.toNat:Int)):=by omega
 have h6':¬((9223372036854775807:Int)<(k:Int)+c):=by omega
 have h6'':¬((9223372036854775807:Int)<(k:Int)+max c 0):=by omega
 have hw:IntKind.i64.wrap c=c:=Cm hc0 (by omega)
 have h7:¬(c<0):=by omega
 have h8:¬((281474976710656:Int)<c*(i.bytes:Int)):=by
  have h9:c.toNat*i.bytes≤(k+c.toNat)*i.bytes:=Nat.mul_le_mul_right _ (by omega)
  have h10:((c.toNat*i.bytes:Nat):Int)=c*(i.bytes:Int):=by rw[Int.natCast_mul,Int.toNat_of_nonneg hc0]
  omega
 by_cases hc1:c.toNat=0
 ·have:Builtin.zeroCells z.cells c.toNat= #[]:=by rw[hc1];simp[Builtin.zeroCells]
  have hm0:c.toNat*i.size=0:=by rw[hc1,Nat.zero_mul]
  simp[Builtin.append_,run_underlying ht,run_underlying ht',sizeOf,typeInfo,zeroValue,hi,hz,asInt,asIntOf,hw,h7,h8,h3,h4,h6,h6',h6'',hm0,Question.forced,hold,newRow,grownCap,this]<;>
   (congr 2;apply Array.ext';simp[List.append_assoc])
 ·have hm0:¬(c.toNat*i.size=0):=by
   intro e
   rcases Nat.mul_eq_zero.1 e with e|e<;>omega
  simp[Builtin.append_,run_underlying ht,run_underlying ht',sizeOf,typeInfo,zeroValue,hi,hz,asInt,asIntOf,hw,h7,h8,h3,h4,h6,h6',h6'',hm0,Question.forced,hold,newRow,grownCap]<;>
   (congr 2;apply Array.ext';simp[List.append_assoc])
theorem MY(h:Inv G n D σ a w){op:Op}{ty:TypeId}{sz by':Nat}{z:List AV}{x y:IX}{d:Option Nat}{K:St→Prop}(hd:aN n d=true)(hc:al P op ty (.j4 sz by' z x y)=true)(hw:gM P (.j4 sz by' z x y) d σ K):nd P G n D w a op ty d K:=by
 cases op<;>first|(simp[al]at hc;done)|skip
 rename_i c
 simp only[al]at hc
 split at hc<;>try(cases hc;done)
 rename_i u v t t' hb
 have hce:=ns hb
 subst hce
 simp only[Bool.and_eq_true]at hc
 obtain⟨⟨⟨hu,hv⟩,ht'⟩,hc⟩:=hc
 obtain⟨k',ht2⟩:=QO ht'
 split at hc<;>try(cases hc;done)
 rename_i e ht
 have ht:=cz ht
 simp only[Bool.and_eq_true]at hc
 obtain⟨⟨⟨⟨hs,hby⟩,hpos⟩,hbpos⟩,hzi⟩:=hc
 obtain⟨i,hi,hisz⟩:=iJ hs
 obtain⟨zv,_,⟨i1,hi1,hz,hz1⟩,hzz0⟩:=vW hzi
 rw[hi]at hi1;injection hi1 with hi1;subst hi1
 have hpos:=of_decide_eq_true hpos
 have hbpos:=of_decide_eq_true hbpos
 have hby:i.bytes=by':=by
  unfold iY at hby
  rw[hi]at hby
  simpa using hby
 have hw':th sz by' z σ d K (σ.x x) (xg true σ y):=hw
 have hbx:=XR.aB h hu
 have hbv:=BR.aB h hv
 generalize σ.x x=xv at hw' hbx
 generalize xg true σ y=yv at hw' hbv
 unfold th at hw'
 split at hw'<;>try(exact hw'.elim)
 rename_i b off k cap q
 obtain⟨hq0,hgr,hvz,hw'⟩:=hw'
 have ev:=VR.bk hbv
 generalize hm:q.toNat=m at hw' hgr
 obtain⟨zm1,zm2,zm3,zm4,zm5⟩:=hzz0 m
 cases hol:nO σ.s sz b off k with
 |none=>rw[hol]at hw';exact hw'.elim
 |some olds=>
 rw[hol]at hw'
 obtain⟨hzl2,hstay,hgrow⟩:=hw'
 have hold:k=0∧olds=[]∨∃cs,σ.s b=some (.cells cs)∧off+k*sz≤cs.length∧olds=views (AB.sub cs off (k*sz)):=by
  unfold nO at hol
  by_cases hk:k=0
  ·subst hk
   injection hol with hol;exact .inl ⟨rfl,hol.symm⟩
  ·rw[show(k==0)=false by simpa using hk]at hol
   cases hca:ja k sz off (σ.s b)with
   |none=>rw[hca]at hol;cases hol
   |some q=>
    rw[hca]at hol;injection hol with hol
    obtain⟨q1,q2⟩:=q
    obtain⟨cs,e1,e2,_,e4⟩:=rf hca
    exact .inr ⟨cs,e1,e2,by rw[←hol];exact e4⟩
 obtain⟨hroom,hk⟩:=hgrow hgr
 obtain⟨ds,hds⟩:∃ds,ds=(List.replicate m z).flatten:=⟨_,rfl⟩
 obtain⟨news,hnews⟩:∃news,news=(Builtin.zeroCells zv.cells m).toList:=⟨_,rfl⟩
 have hvds:views ds=ds:=by
  rw[hds];unfold views at hvz⊢
  rw[List.map_flatten,List.map_replicate,hvz]
 rw[←hds]at hk
 have grow:∀(base:Option Addr)(us:List Value),a.eval u=.slice base k cap→us.length=k*sz→olds.length=k*sz→Fl olds→views olds=olds→
  (Builtin.firstCells sz k (.slice base k cap)).run P w.drew=.ok us.toArray w.drew→(∀(j:Nat)(c:AV)(u:Value),olds[j]? =some c→us[j]? =some u→VR w G.R c u)→
  nd P G n D w a (.call {callee:=.builtin .append,args:= #[u,v],argTypes:= #[t,t']}) ty d K:=by
  intro base us e1 hul hol2 hof hov hfc hvals
  have hrun:=IS (ty:=ty) ht ht2 hi hz hisz hpos hq0 hm hfc hgr (by rw[hby];exact hroom) (by rw[hby];exact hbpos)
  have hge:k+m≤grownCap w (k+m) cap e:=grownCap_ge w (k+m) cap e
  obtain⟨zz1,zz2,zz3,zz4,_⟩:=hzz0 (grownCap w (k+m) cap e -(k+m))
  obtain⟨G2,h3,h4⟩:=(h.drew).PN (t:=e) (c:=us.toArray++Builtin.zeroCells zv.cells m++Builtin.zeroCells zv.cells (grownCap w (k+m) cap e -(k+m)))
   (cs:=olds++ds++(List.replicate (grownCap w (k+m) cap e -(k+m)) z).flatten) (d:=d) hd (.inr ⟨k+m,grownCap w (k+m) cap e,rfl,rfl⟩)
   (fun G' w' o hp=>by
     have hl1:news.length=m*sz:=by rw[hnews,zm1,hzl2]
     have hl2:ds.length=m*sz:=by rw[hds,zm2,hzl2]
     have hna:Builtin.zeroCells zv.cells m=news.toArray:=by rw[hnews]
     rw[hna]
     refine⟨by simp only[Array.size_append,List.size_toArray,List.length_append,zz2];rw[Array.length_toList]at zz1;omega,fun j x y hx hy=>?_⟩
     have own_view:∀(l:List AV)(q:Nat),views l=l→l[q]? =some x→c7 G' w' (o j) x y:=by
      intro l q hvl hq
      rw[←hvl,dU]at hq
      cases hz':l[q]? with
      |none=>rw[hz']at hq;cases hq
      |some x'=>rw[hz']at hq;simp at hq;rw[←hq];exact c7.view ..
     by_cases hj1:j<olds.length
     ·rw[List.append_assoc,List.getElem?_append_left hj1]at hx
      rw[Array.append_assoc,Array.getElem?_append_left (by simp;omega)]at hy
      exact⟨hp.vr h.drew.aG ((ax.drew G w).vr h.aG (hvals j x y hx (by simpa using hy))),own_view _ _ hov hx⟩
     ·by_cases hj2:j<olds.length+ds.length
      ·rw[List.getElem?_append_left (by simp;omega),List.getElem?_append_right (by omega)]at hx
       rw[Array.getElem?_append_left (by simp;omega),Array.getElem?_append_right (by simp;omega)]at hy
       simp only[List.size_toArray,List.getElem?_toArray]at hy
       rw[hul,←hol2]at hy
       exact⟨hp.vr h.drew.aG ((ax.drew G w).vr h.aG (tm (zm3 _ x y (by rw[←hds];exact hx) (by rw[←hnews];exact hy)) w G.R)),own_view _ _ hvds hx⟩
      ·rw[List.getElem?_append_right (by simp;omega)]at hx
       rw[Array.getElem?_append_right (by simp;omega)]at hy
       have ea:(us.toArray++news.toArray).size=olds.length+ds.length:=by simp;omega
       rw[ea]at hy
       rw[List.length_append]at hx
       have:=zz3 _ x y hx (by simpa using hy)
       exact⟨tm this w' G'.R,EB this G' w' _⟩)
   (fun c hc=>by
     rcases List.mem_append.1 hc with hc|hc
     ·rcases List.mem_append.1 hc with hc|hc
      ·exact hof c hc
      ·exact zm4 c (by rw[←hds];exact hc)
     ·exact zz4 c hc)
  intro pos after gd next Q hn
  refine aF ?_ (hn G2 _ _ _ h3 ((ax.drew G w).trans h4) (hk _ _ (h.store.get_none h.aG) hge))
  simp[execOp,resolve,invoke,builtin,e1,ev,hrun]
 rcases VR.bQ hbx with e1|⟨rfl,rfl,e1⟩
 ·rcases hold with⟨rfl,rfl⟩|⟨cs,hsb,hle,rfl⟩
  ·exact grow _ [] e1 (by simp) (by simp) Fl.nil rfl (run_firstCells_some w.drew sz 0 ⟨b,off,none⟩ 0 cap [] (by simp) (fun j v hj=>by simp at hj)) (fun j c u hc=>by simp at hc)
  ·have hat:=h.store.at hsb hle
   obtain⟨us,u1,u2,u3⟩:=hat.kE
   have hfl:Fl (views (AB.sub cs off (k*sz))):=by obtain⟨_,_,_,hf⟩:=hat;exact hf
   have hlen:(views (AB.sub cs off (k*sz))).length=k*sz:=by simp only[views,List.length_map];exact iC hle
   exact grow _ us e1 (by rw[u1,hlen]) hlen hfl (pa _) (run_firstCells_some w.drew sz k ⟨b,off,none⟩ k cap us (by rw[u1,hlen]) u2) u3
 ·rcases hold with⟨_,rfl⟩|⟨cs,hsb,hle,rfl⟩
  ·exact grow none [] e1 (by simp) (by simp) Fl.nil rfl (by simp[Builtin.firstCells]) (fun j c u hc=>by simp at hc)
  ·have:views (AB.sub cs off (0*sz))=[]:=by simp[AB.sub,views]
   rw[this]at grow
   exact grow none [] e1 (by simp) (by simp) Fl.nil rfl (by simp[Builtin.firstCells]) (fun j c u hc=>by simp at hc)
end
end Go.AB
end
section
namespace Go.AB
open Go
section
variable{P:Program}{G G':Gh}{n:Nat}{D:List Deferred}{σ:St}{a:Act}{w w':World}
theorem AO{t t' ty e:TypeId}(ht:P.underlying t=some (.slice e)){sz m k cap:Nat}(hs:ch P e sz=true){R:Nat→Nat}{ds:List AV}{v:Value}{news:List Value}(h:sU P w R sz m ds v news){base:Option Addr}{w':World}
 (hst:∀ad,base=some ad→(storeCells ad (news.take (min m k*sz))).run P w=.ok () w')(hnone:base=none→w'=w):
 (Builtin.copy_ #[t,t'] ty #[.slice base k cap,v]).run P w=.ok (.int .i64 (min m k:Nat)) w':=by
 have h1:=h.lenOf w
 have h2:=h.first (min m k) (Nat.min_le_left _ _) w rfl
 cases base with
 |none=>
  have:=hnone rfl
  subst this
  simp[Builtin.copy_,run_underlying ht,run_sizeOf hs,h1,h2,goInt]
 |some ad=>
  have h3:=hst ad rfl
  simp[Builtin.copy_,run_underlying ht,run_sizeOf hs,h1,h2,h3,goInt]
theorem RH(h:Inv G n D σ a w){op:Op}{ty:TypeId}{sz:Nat}{x y:IX}{d:Option Nat}{K:St→Prop}(hd:aN n d=true)(hc:al P op ty (.fV sz x y)=true)(hw:gM P (.fV sz x y) d σ K):nd P G n D w a op ty d K:=by
 cases op<;>first|(simp[al]at hc;done)|skip
 rename_i c
 simp only[al]at hc
 split at hc<;>try(cases hc;done)
 rename_i u v t t' hb
 have hce:=ns hb
 subst hce
 simp only[Bool.and_eq_true]at hc
 obtain⟨⟨hu,hv⟩,hc⟩:=hc
 split at hc<;>try(cases hc;done)
 rename_i e ht
 have ht:=cz ht
 have hw':yD sz σ d K (σ.x x) (s5 σ.s sz (σ.x y)):=hw
 have hbx:=XR.aB h hu
 generalize σ.x x=xv at hw' hbx
 cases hsv:s5 σ.s sz (σ.x y)with
 |none=>rw[hsv]at hw';unfold yD at hw';split at hw'<;>first|(rename_i hh;cases hh;done)|exact hw'.elim
 |some md=>
 obtain⟨m,ds⟩:=md
 rw[hsv]at hw'
 obtain⟨news,hsrc⟩:=GQ (P:=P) h hv hsv
 unfold yD at hw'
 split at hw'<;>try(exact hw'.elim)
 rename_i b off k cap _ _ he0
 injection he0 with he0;injection he0 with e1 e2;subst e1;subst e2
 rcases hw' with⟨hmin,hk⟩|⟨hroom,hk⟩
 ·intro pos after gd next Q hn
  refine aF (w':=w) (v:=.int .i64 0) ?_ (hn G _ _ _ (h.N6 hd rfl (.int _ _) rfl) (ax.refl G w) hk)
  rcases VR.bQ hbx with e1|⟨rfl,rfl,e1⟩
  ·have hrun:=AO (ty:=ty) (t':=t') (w:=w) ht hc hsrc (base:=some ⟨b,off,none⟩) (k:=k) (cap:=cap) (w':=w) (fun ad _=>by rw[hmin];simp;rfl) (fun hh=>by cases hh)
   rw[hmin]at hrun
   simp[execOp,resolve,invoke,builtin,e1,hrun]
  ·have hrun:=AO (ty:=ty) (t':=t') (w:=w) ht hc hsrc (base:=none) (k:=0) (cap:=0) (w':=w) (fun ad hh=>by cases hh) (fun _=>rfl)
   simp at hrun
   simp[execOp,resolve,invoke,builtin,e1,hrun]
 ·obtain⟨cs,hsb,hfit⟩:=B5 hroom
  rw[hsb]at hk
  have hk':K ({σ with s:=σ.s.set b (.cells (setAt cs off (ds.take (min m k*sz))))}.put d (.int .i64 (min m k:Nat))):=hk
  obtain⟨_,_,c,et,hcb,hcr,hcf⟩:=h.store b _ hsb
  have hle1:min m k*sz≤m*sz:=Nat.mul_le_mul_right _ (Nat.min_le_left _ _)
  have hle2:min m k*sz≤k*sz:=Nat.mul_le_mul_right _ (Nat.min_le_right _ _)
  have hl1:(ds.take (min m k*sz)).length=min m k*sz:=by simp[hsrc.pn,hle1]
  have hl2:(news.take (min m k*sz)).length=min m k*sz:=by simp[hsrc.len,hle1]
  rcases VR.bQ hbx with e1|⟨rfl,rfl,e1⟩
  ·obtain⟨h2,hp2⟩:=h.zd (off:=off) (ds:=ds.take (min m k*sz)) (news:=news.take (min m k*sz)) hsb hcb (by rw[hl1,hl2]) (by rw[hl1];omega) (fun c hc=>hsrc.fl c (List.mem_of_mem_take hc))
    (by
      have:=hsrc.vw
      unfold views at this⊢
      rw[List.map_take,this]) (fun j x y hx hy=>by
      rw[List.getElem?_take]at hx hy
      split at hx
      ·rename_i hj;rw[if_pos hj]at hy;exact hsrc.kE j x y hx hy
      ·cases hx)
   have hfit3:off+(news.take (min m k*sz)).length≤c.size:=by rw[hl2,hcr.1];omega
   have hst:=dc (P:=P) b off et (0,0) (news.take (min m k*sz)) 0 c w hcb (fun j _ hj=>by simp at hj) (by simpa using hfit3) (fun u hu=>hsrc.one u (List.mem_of_mem_take hu))
   have hrun:=AO (ty:=ty) (t':=t') (w:=w) ht hc hsrc (base:=some ⟨b,off,none⟩) (k:=k) (cap:=cap) (w':=w.setRow b (laid c off (news.take (min m k*sz)))) (fun ad had=>by injection had with had;subst had;simpa[laid]using hst) (fun hh=>by cases hh)
   intro pos after gd next Q hn
   refine aF ?_ (hn G _ _ _ (h2.N6 hd rfl (.int _ _) rfl) hp2 hk')
   simp[execOp,resolve,invoke,builtin,e1,hrun]
  ·have h0:min m 0=0:=Nat.min_zero m
   rw[h0,Nat.zero_mul,List.take_zero,B9,n5 hsb]at hk'
   have hrun:=AO (ty:=ty) (t':=t') (w:=w) ht hc hsrc (base:=none) (k:=0) (cap:=0) (w':=w) (fun ad hh=>by cases hh) (fun _=>rfl)
   intro pos after gd next Q hn
   refine aF (w':=w) ?_ (hn G _ _ _ (h.N6 hd rfl (.int .i64 (0:Nat)) rfl) (ax.refl G w) hk')
   simp at hrun
   simp[execOp,resolve,invoke,builtin,e1,hrun]
theorem O1(h:Inv G n D σ a w){op:Op}{ty:TypeId}{z:List AV}{x:IX}{d:Option Nat}{K:St→Prop}(hd:aN n d=true)(hc:al P op ty (.kZ z x)=true)(hw:gM P (.kZ z x) d σ K):nd P G n D w a op ty d K:=by
 cases op<;>first|(simp[al]at hc;done)|skip
 rename_i c
 simp only[al]at hc
 split at hc<;>try(cases hc;done)
 rename_i u us t ts hb
 have hce:=ns hb
 subst hce
 simp only[Bool.and_eq_true]at hc
 obtain⟨hu,hc⟩:=hc
 split at hc<;>try(cases hc;done)
 rename_i e ht
 have ht:=cz ht
 have hw':wh z σ d K (σ.x x):=hw
 have hbx:=XR.aB h hu
 generalize σ.x x=xv at hw' hbx
 unfold wh at hw'
 split at hw'<;>try(exact hw'.elim)
 rename_i b off k cap
 obtain⟨v,hv1,_,hv2⟩:=vW hc
 obtain⟨z1,z2,z3',z4,z5⟩:=hv2 k
 have z3:∀(j:Nat)(x:AV)(y:Value),(List.replicate k z).flatten[j]? =some x→(Builtin.zeroCells v.cells k).toList[j]? =some y→VR w G.R x y:=fun j x y hx hy=>tm (z3' j x y hx hy) w G.R
 rcases hw' with⟨hk0,hk⟩|⟨hroom,hvw,hk⟩
 ·subst hk0
  intro pos after gd next Q hn
  refine aF (w':=w) (v:=.tuple #[]) ?_ (hn G _ _ _ (h.ZF hd) (ax.refl G w) hk)
  rcases VR.bQ hbx with e1|⟨_,rfl,e1⟩<;>simp[execOp,resolve,invoke,builtin,e1,Builtin.clear_,run_underlying ht]
 ·obtain⟨cs,hsb,hfit⟩:=B5 hroom
  rw[hsb]at hk
  have hk':K ({σ with s:=σ.s.set b (.cells (setAt cs off (List.replicate k z).flatten))}.put d (.fE [])):=hk
  obtain⟨_,_,c,et,hcb,hcr,hcf⟩:=h.store b _ hsb
  by_cases hk0:k=0
  ·subst hk0
   simp only[List.replicate_zero,List.flatten_nil,B9,n5 hsb]at hk'
   intro pos after gd next Q hn
   refine aF (w':=w) (v:=.tuple #[]) ?_ (hn G _ _ _ (h.ZF hd) (ax.refl G w) hk')
   rcases VR.bQ hbx with e1|⟨_,rfl,e1⟩<;>simp[execOp,resolve,invoke,builtin,e1,Builtin.clear_,run_underlying ht]
  ·rcases VR.bQ hbx with e1|⟨h0,_,_⟩
   ·obtain⟨h2,hp2⟩:=h.zd (off:=off) (ds:=(List.replicate k z).flatten) (news:=(Builtin.zeroCells v.cells k).toList) hsb hcb (by rw[z1,z2]) (by rw[z2];exact hfit) z4
     (by
       unfold views
       rw[List.map_flatten,List.map_replicate]
       unfold views at hvw
       rw[hvw]) z3
    have hst:=dc (P:=P) b off et (0,0) (Builtin.zeroCells v.cells k).toList 0 c w hcb (fun j _ hj=>by simp at hj) (by rw[z1,hcr.1];simpa using hfit) z5
    have hst':(storeCells ⟨b,off,none⟩ (Builtin.zeroCells v.cells k).toList).run P w=.ok () (w.setRow b (laid c off (Builtin.zeroCells v.cells k).toList)):=by simpa[laid]using hst
    intro pos after gd next Q hn
    refine aF (v:=.tuple #[]) ?_ (hn G _ _ _ (h2.ZF hd) hp2 hk')
    have hrun:(Builtin.clear_ (t::ts).toArray ty (Array.map a.eval (u::us).toArray)).run P w=.ok (.tuple #[]) (w.setRow b (laid c off (Builtin.zeroCells v.cells k).toList)):=by
     obtain⟨k',rfl⟩:∃k',k=k'+1:=⟨k -1,by omega⟩
     simp[Builtin.clear_,run_underlying ht,e1,hv1,hst']
    simp[execOp,resolve,invoke,builtin]at hrun⊢;simp[hrun]
   ·exact absurd h0 hk0
end
end Go.AB
end
section
namespace Go.AB
open Go
section
variable{P:Program}{G G':Gh}{n:Nat}{D:List Deferred}{σ:St}{a:Act}{w w':World}
theorem Inv.frozen(h:Inv G n D σ a w){d:Option Nat}(hd:aN n d=true){b off sz k cap:Nat}{cs:List AV}{own:Bool}(hs:σ.s b=some (.cells cs))(hfit:off+k*sz≤cs.length)(hcap:k≤cap)(hown:own=true→off=0∧cs.length=off+cap*sz):
 ∃G',Inv G' n D ({σ with s:=σ.s.del b}.put d (.sl own sz k (views (AB.sub cs off (k*sz))))) (a.put d (.slice (some ⟨b,off,none⟩) k cap)) w∧ax G w G' w:=by
 obtain⟨q2,q3,c,t,q4,q5,q6⟩:=h.store b _ hs
 let ob:cy:=if own=true then DC d else .none
 let G':=G.pJ b ob (off+k*sz)
 have hpres:ax G w G' w:=⟨rfl,rfl,rfl,Nat.le_refl _,Nat.le_refl _,fun b' _=>by
  by_cases hb:b'=b
  ·subst hb;rw[q3];exact Nat.zero_le _
  ·simp[G',hb],fun _ _ _ _=>rfl,fun _ _ _=>rfl,fun b' _ hb'=>by
  have:b'≠b:=fun e=>by subst e;rw[q2]at hb';cases hb'
  simp[G',this,hb'],fun b' _ hb'=>by
  have:b'≠b:=fun e=>by subst e;rw[q2]at hb';cases hb'
  simp[G',this,hb']⟩
 have hlt:b<w.heap.size:=h.aG.lt (by rw[q2];simp)
 have hgood:bM G' w:=⟨fun b' hb'=>by
  have:b'≠b:=by omega
  simp[G',this,h.aG.iS b' hb'],fun b' hb'=>by
  have:b'≠b:=by omega
  simp[G',this,h.aG.iT b' hb']⟩
 have same:∀b',G.O b'≠.sh∨b'≠b→G'.O b'=G.O b'∧G'.R b'=G.R b'∧w.heap[b']? =w.heap[b']? :=fun b' hb'=>by
  have:b'≠b:=by
   rcases hb' with hb'|hb'
   ·exact fun e=>by subst e;exact hb' q2
   ·exact hb'
  exact⟨by simp[G',this],by simp[G',this],rfl⟩
 have hst:aL G' w (σ.s.del b):=by
  intro b' o hb'
  unfold ab.del at hb'
  split at hb'
  ·cases hb'
  ·rename_i hne
   obtain⟨r1,r2,r3⟩:=h.store b' o hb'
   refine⟨(same b' (.inr hne)).1.trans r1,(same b' (.inr hne)).2.1.trans r2,?_⟩
   cases o with
   |cells cs'=>
    obtain⟨c',t',r4,r5,r6⟩:=r3
    exact⟨c',t',r4,r5.mono (fun _ _ hv=>hpres.vr h.aG hv) (fun b'' j hb''=>by
     obtain⟨x1,x2,x3⟩:=same b'' (.inl (by rw[hb''];simp))
     exact⟨x1.trans hb'',x2,x3⟩),r6⟩
   |map es=>
    obtain⟨ents,clock,r4,r5,r6⟩:=r3
    exact⟨ents,clock,r4,r5,fun j x y hx hy=>⟨hpres.vr h.aG (r6 j x y hx hy).1,hpres.vr h.aG (r6 j x y hx hy).2⟩⟩
 have hat:=h.store.at hs hfit
 obtain⟨u,u1,u2,u3⟩:=hat
 have hlen:(views (AB.sub cs off (k*sz))).length=k*sz:=by simp only[views,List.length_map];exact iC hfit
 have:=h.put (s':=σ.s.del b) (lp':=σ.lp) d (fun i hi=>by subst hi;simpa[aN]using hd) (.sl own sz k (views (AB.sub cs off (k*sz)))) (.slice (some ⟨b,off,none⟩) k cap) hgood hpres hst (fun _ hx=>hx) (fun i t _ ht=>ht.elim) (fun i t _⟨cs',hcs'⟩=>by cases hcs')
  (fun i b' _ hb'=>same b' (.inl (by rcases hb' with⟨j,hb'⟩|hb'<;>rw[hb']<;>simp)))
  (fun i b' c' j _ _ hc'=>by
    obtain⟨x1,x2,x3⟩:=same c' (.inl (by rw[hc'];simp))
    exact⟨x1.trans hc',x2,x3⟩)
  (fun i hi=>by
    subst hi
    refine⟨.sl own sz k _ b off cap u u3 hlen (by rw[hlen];simp[G']) hcap u1 (fun j x hj=>hpres.vr h.aG (u2 j x hj)),?_⟩
    cases own with
    |false=>trivial
    |true=>
     intro base m' cap' hv _
     injection hv with e1 e2 e3
     subst e3
     exact⟨b,off,c,t,(0,0),e1.symm,by simp[G',ob,DC],by simp[G'],q4,by rw[q5.1,(hown rfl).2],fun j _ hj=>by simp at hj,Nat.le_refl _,(hown rfl).1,.inl rfl,fun j y _ hy=>by
      have hlt:j<cs.length:=by rw[←q5.1];exact(Array.getElem?_eq_some_iff.1 hy).1
      exact qp (q6 _ (List.getElem_mem hlt)) (q5.2 j _ y (List.getElem?_eq_getElem hlt) hy).1⟩)
 exact⟨G',by cases d<;>exact this,hpres⟩
theorem Inv.TD(h:Inv G n D σ a w){sz:Nat}{own:Bool}{d:Option Nat}{K:St→Prop}(hd:aN n d=true){xv:AV}{v:Value}(hbx:cU xv=true→VR w G.R xv v)(hw':Df sz own σ d K xv):∃(G':Gh)(σ':St),Inv G' n D σ' (a.put d v) w∧ax G w G' w∧K σ':=by
 unfold Df at hw'
 split at hw'<;>try(exact hw'.elim)
 rename_i b off k cap
 replace hbx:=hbx rfl
 have empty:k=0→cap=0→off=0∨v=.slice none 0 0→Inv G n D (σ.put d (.sl own sz 0 [])) (a.put d (v)) w:=by
  intro hk0 hc0 hoff
  subst hk0;subst hc0
  have hvr:VR w G.R (.sl own sz 0 []) (v):=by
   rcases VR.bQ hbx with e1|⟨_,_,e1⟩
   ·rcases hoff with rfl|e2
    ·rw[e1];exact .sl own sz 0 [] b 0 0 (fun _=>undef) Fl.nil (by simp) (by simp) (Nat.le_refl _) (fun j c hj=>by simp at hj) (fun j c hj=>by simp at hj)
    ·rw[e2];exact .slnil _ _
   ·rw[e1];exact .slnil _ _
  have:=h.put (s':=σ.s) (lp':=σ.lp) d (fun i hi=>by subst hi;simpa[aN]using hd) (.sl own sz 0 []) (v) h.aG (ax.refl G w) h.store (fun _ hx=>hx) (fun i t _ ht=>ht.elim) (fun i t _⟨cs,hcs⟩=>by cases hcs)
   (fun _ _ _ _=>⟨rfl,rfl,rfl⟩) (fun _ _ _ _ _ _ hcc=>⟨hcc,rfl,rfl⟩) (fun i hdi=>by
     refine⟨hvr,?_⟩
     cases own with
     |false=>trivial
     |true=>
      intro base m' cap' hv hc'
      rcases VR.bQ hbx with e1|⟨_,_,e1⟩<;>rw[e1]at hv<;>injection hv with _ e2 e3<;>omega)
  cases d<;>exact this
 rcases hw' with⟨rfl,rfl,rfl,hk⟩|⟨hpos,hcap,hown,hk⟩
 ·exact⟨G,_,empty rfl rfl (.inl rfl),ax.refl G w,hk⟩
 ·cases hca:ja k sz off (σ.s b)with
  |none=>rw[hca]at hk;exact hk.elim
  |some q=>
   obtain⟨q1,q2⟩:=q
   rw[hca]at hk
   obtain⟨cs,e1,e2,rfl,rfl⟩:=rf hca
   have hown':own=true→off=0∧cs.length=off+cap*sz:=fun ho=>by
    have:=(hown ho).2.2
    rw[e1]at this
    exact⟨(hown ho).1,this⟩
   obtain⟨G',h1,h2⟩:=h.frozen hd (own:=own) e1 e2 hcap hown'
   have e3:=VR.oj hbx hpos
   exact⟨G',_,by rw[e3];exact h1,h2,hk⟩
theorem Vw(h:Inv G n D σ a w){op:Op}{ty:TypeId}{sz:Nat}{own:Bool}{x:IX}{d:Option Nat}{K:St→Prop}(hd:aN n d=true)(hc:al P op ty (.RP sz own x)=true)(hw:gM P (.RP sz own x) d σ K):nd P G n D w a op ty d K:=by
 have key:∀y,aX y x=true→∃(G':Gh)(σ':St),Inv G' n D σ' (a.put d (a.eval y)) w∧ax G w G' w∧K σ':=by
  intro y hy
  have hbx:=XR.aB h hy
  have hw':Df sz own σ d K (σ.x x):=hw
  generalize σ.x x=xv at hw' hbx
  refine h.TD hd (fun hi=>?_) hw'
  cases xv<;>first|exact hbx|(simp[cU]at hi)
 intro pos after g next Q hn
 cases op<;>first|(simp[al]at hc;done)|skip
 all_goals
  rename_i y
  obtain⟨G',σ',h1,h2,hk⟩:=key y hc
  exact aF rfl (hn G' _ _ _ h1 h2 hk)
theorem RJ(h:Inv G n D σ a w){op:Op}{ty:TypeId}{sz:Nat}{own:Bool}{x:IX}{d:Option Nat}{K:St→Prop}(hd:aN n d=true)(hc:al P op ty (.xJ sz own x)=true)(hw:gM P (.xJ sz own x) d σ K):nd P G n D w a op ty d K:=by
 cases op<;>first|(simp[al]at hc;done)|skip
 rename_i t y
 simp only[al,Bool.and_eq_true]at hc
 obtain⟨⟨hs,hm⟩,hy⟩:=hc
 have hb:=BR.aB h hy
 have hw':Lr sz own σ d K (rd σ (xg true σ x) 1):=hw
 cases hr:rd σ (xg true σ x) 1 with
 |none=>rw[hr]at hw';exact hw'.elim
 |some cs=>
  rw[hr]at hw'
  obtain⟨b,off,e,hl,hat,hvw⟩:=Gf h hb hr
  match cs,hl,hw' with
  |[c],hl,⟨hi,hw'⟩=>
   obtain⟨v,hrun,hvr⟩:=pq hs hm rfl hl hat
   obtain⟨G',σ',h1,h2,hk⟩:=h.TD hd (v:=v) (fun _=>hvr) hw'
   intro pos after g next Q hn
   exact aF (w':=w) (by simp[execOp,e,Instr.loadAt,Instr.sureAddr,hrun]) (hn G' _ _ _ h1 h2 hk)
theorem GH(h:Inv G n D σ a w)(bl off:Nat)(T:cy)(hT:T≠.sh∧(∀i,T≠.loc i)∧(∀i j,T≠.cell i j)):
 bM (G.jN (.cell bl off) T) w∧ax G w (G.jN (.cell bl off) T) w∧(∀b,G.O b≠.cell bl off→(G.jN (.cell bl off) T).O b=G.O b):=by
 have hne:∀b,G.O b≠.cell bl off→(G.jN (.cell bl off) T).O b=G.O b:=fun b hb=>by simp[hb]
 exact⟨⟨fun b hb=>by rw[hne b (by rw[h.aG.iS b hb];simp),h.aG.iS b hb],h.aG.iT⟩,
  ⟨rfl,rfl,rfl,Nat.le_refl _,Nat.le_refl _,fun _ _=>Nat.le_refl _,fun _ _ _ _=>rfl,fun _ _ _=>rfl,fun b _ hb=>⟨by rw[hne b (by rw[hb];simp),hb],rfl⟩,fun b _ hb=>⟨by rw[hne b (by rw[hb];simp),hb],rfl⟩⟩,hne⟩
theorem c7.jN{o T:cy}{av:AV}{v:Value}(h:c7 G w o av v):c7 (G.jN o T) w T av v:=by
 unfold c7 at h⊢
 split
 ·rename_i sz m cs
  intro base m' cap hv hc
  obtain⟨b,off,c,e,fz,q1,q2,q3⟩:=h base m' cap hv hc
  exact⟨b,off,c,e,fz,q1,by simp[q2],q3⟩
 ·rename_i e m cs
  intro base m' cap hv hc
  obtain⟨b,off,c,fz,q1,q2,q3⟩:=h base m' cap hv hc
  exact⟨b,off,c,fz,q1,by simp[q2],q3⟩
 ·trivial
def HB:AV→Bool
 |.sl _ _ _ _=>true
 |.bb _ _ _=>true
 |_=>false
theorem JR{av:AV}(h:HB av=true):pR (view av)=true:=by cases av<;>first|rfl|(cases h;done)
theorem da.take{bl off:Nat}{T:cy}{cs:List AV}{c:Array Value}{av:AV}(h:da G w (.cell bl) cs c)(hcs:cs[off]? =some av):
 da (G.jN (.cell bl off) T) w (.cell bl) (setAt cs off [view av]) c:=by
 have hlt:off+1≤cs.length:=(List.getElem?_eq_some_iff.1 hcs).1
 refine⟨by rw[ly _ _ _ (by simpa using hlt)];exact h.1,fun j x y hx hy=>?_⟩
 rw[nj _ _ _ _ (by simpa using hlt)]at hx
 by_cases hj:j=off
 ·subst hj
  rw[if_pos ⟨Nat.le_refl _,by simp⟩,Nat.sub_self]at hx
  injection hx with hx;subst hx
  exact⟨(h.2 j _ y hcs hy).1.view,c7.view ..⟩
 ·rw[if_neg (by simp;omega)]at hx
  obtain⟨h1,h2⟩:=h.2 j x y hx hy
  refine⟨h1,h2.mono fun b hb=>⟨?_,rfl,rfl⟩⟩
  have:G.O b≠.cell bl off:=by rw[hb];intro e;injection e with _ e;exact hj e
  rw[Gh.Wt,if_neg this,hb]
def loadT:Option Nat→cy
 |some i=>.slot i 0
 |none=>.frame
theorem JC(h:Inv G n D σ a w){op:Op}{ty:TypeId}{x:IX}{d:Option Nat}{K:St→Prop}(hd:aN n d=true)(hc:al P op ty (.gW x)=true)(hw:gM P (.gW x) d σ K):nd P G n D w a op ty d K:=by
 cases op<;>first|(simp[al]at hc;done)|skip
 rename_i t y
 simp only[al,Bool.and_eq_true]at hc
 obtain⟨⟨⟨_,hs⟩,hm⟩,hy⟩:=hc
 have hbx:=XR.aB h hy
 have hw':nK σ d K (σ.x x):=hw
 have hT:loadT d≠.sh∧(∀i,loadT d≠.loc i)∧(∀i j,loadT d≠.cell i j):=by cases d<;>simp[loadT]
 have hrun:∀(b off:Nat)(u:Value),a.eval y=.pointer (some ⟨b,off,none⟩)→w.cell? ⟨b,off,none⟩=some u→∀(pos:String)(after:Array Edge)(g:Option (Nat×Bool)),(execOp a.eval ⟨d,.load t y,ty,pos,after,g⟩).run P w=.ok (.value u) w:=by
  intro b off u e1 e2 pos after g
  have:(loadVar t ⟨b,off,none⟩).run P w=.ok u w:=by simp[loadVar,jP hm,e2]
  simp[execOp,e1,Instr.loadAt,Instr.sureAddr,this]
 have putD:∀{G1:Gh}{σ1:St}{av:AV}{u:Value},HB av=true→Inv G1 n D σ1 a w→VR w G1.R av u→c7 G1 w (loadT d) av u→Inv G1 n D (σ1.put d av) (a.put d u) w:=by
  intro G1 σ1 av u hsl h1 hv ho
  have hiv:cU av=true:=by cases av<;>first|rfl|(cases hsl;done)
  have:=h1.put (s':=σ1.s) (lp':=σ1.lp) d (fun i hi=>by subst hi;simpa[aN]using hd) av u h1.aG (ax.refl G1 w) h1.store (fun _ hx=>hx) (fun i t _ ht=>(dZ hiv t ht).elim) (fun i t _⟨cs,hcs⟩=>(mW hiv cs hcs).elim)
   (fun _ _ _ _=>⟨rfl,rfl,rfl⟩) (fun _ _ _ _ _ _ hcc=>⟨hcc,rfl,rfl⟩) (fun i hdi=>by subst hdi;rw[c5.pr hiv];exact⟨hv,ho⟩)
  cases d<;>exact this
 have takeC_eq:∀{off:Nat}{cs:List AV}{k:List AV→AV→Prop},qR off cs k→∃av,HB av=true∧cs[off]? =some av∧k (setAt cs off [view av]) av:=by
  intro off cs k hk
  unfold qR at hk
  split at hk
  ·rename_i ow sz m ds he;exact⟨_,rfl,he,hk⟩
  ·rename_i t m ds he;exact⟨_,rfl,he,hk⟩
  ·exact hk.elim
 have takeL_eq:∀{off:Nat}{cs:List AV}{k:List AV→AV→Prop},oZ off cs k→∃av,HB av=true∧cs[off]? =some av∧k (setAt cs off [view av]) av:=by
  intro off cs k hk
  unfold oZ at hk
  split at hk
  ·rename_i ow sz m ds he;exact⟨_,rfl,he,hk⟩
  ·exact hk.elim
 generalize σ.x x=xv at hw' hbx
 unfold nK at hw'
 split at hw'<;>try(exact hw'.elim)
 ·rename_i b off
  have e1:=VR.gp hbx
  cases hsb:σ.s b with
  |none=>rw[hsb]at hw';exact hw'.elim
  |some so=>
   cases so with
   |map es=>rw[hsb]at hw';exact hw'.elim
   |cells cs=>
   rw[hsb]at hw'
   obtain⟨av,hsl,hcs,hk⟩:=takeC_eq hw'
   obtain⟨q2,q3,c,et,q4,q5,q6⟩:=h.store b _ hsb
   have hlt:off<cs.length:=(List.getElem?_eq_some_iff.1 hcs).1
   have hltc:off<c.size:=by rw[q5.1];exact hlt
   have hcell:=Array.getElem?_eq_getElem hltc
   obtain⟨hv,ho⟩:=q5.2 off _ _ hcs hcell
   obtain⟨g1,g2,hne⟩:=GH h b off (loadT d) hT
   have hst:aL (G.jN (.cell b off) (loadT d)) w (σ.s.set b (.cells (setAt cs off [view av]))):=by
    intro b' o hb'
    unfold ab.set at hb'
    by_cases hbg:b'=b
    ·rw[if_pos hbg]at hb';injection hb' with hb';subst hb';subst hbg
     exact⟨by rw[hne b' (by rw[q2];simp),q2],q3,c,et,q4,q5.take hcs,Co.setAt q6 (by intro z hz;rw[List.mem_singleton]at hz;subst hz;exact JR hsl) off⟩
    ·rw[if_neg hbg]at hb'
     obtain⟨r1,r2,r3⟩:=h.store b' o hb'
     refine⟨by rw[hne b' (by rw[r1];simp),r1],r2,?_⟩
     cases o with
     |cells cs'=>
      obtain⟨c0,t0,r4,r5,r6⟩:=r3
      exact⟨c0,t0,r4,r5.mono (fun _ _ hv=>hv) (fun b'' j hb''=>⟨by rw[hne b'' (by rw[hb''];intro e;injection e with e _;exact hbg e),hb''],rfl,rfl⟩),r6⟩
     |map es=>exact r3
   have h1:Inv (G.jN (.cell b off) (loadT d)) n D {σ with s:=σ.s.set b (.cells (setAt cs off [view av]))} a w:=
    ⟨g1,hst,h.size,fun k v hkv=>c5.frame (G:=G) (G':=G.jN (.cell b off) (loadT d)) (w:=w) (w':=w) (tmps:=a.tmps) (tmps':=a.tmps) (fun _ _ hv=>hv) (fun b' hb'=>⟨hne b' (by rcases hb' with⟨j,hb'⟩|hb'<;>rw[hb']<;>simp),rfl,rfl⟩)
      (fun b' c' j hb' hc'=>⟨by rw[hne c' (by rw[hc'];intro e;injection e with e _;subst e;rw[q2]at hb';cases hb'),hc'],rfl,rfl⟩) _ _ (fun d _ cs hcs=>⟨cs,hcs,rfl⟩) (h.bW k v hkv),h.Hs,h.OE,h.sV⟩
   intro pos after g next Q hn
   exact aF (hrun b off _ e1 (by rw[cell_of_row w q4,hcell]) pos after g) (hn _ _ _ _ (putD hsl h1 hv ho.jN) g2 hk)
 ·rename_i i off
  cases hl:look σ.e i<;>rw[hl]at hw'<;>first|exact hw'.elim|skip
  rename_i cs
  obtain⟨hdi,hw'⟩:=hw'
  obtain⟨av,hsl,hcs,hk⟩:=takeL_eq hw'
  obtain⟨b,e1,e2⟩:=hbx
  have htm:=e2 cs hl
  have hslot:=h.bW i _ htm
  rw[hl]at hslot
  obtain⟨b',c,et,p1,p2,p3,p4,p5,p6⟩:=hslot
  injection p1 with p1;injection p1 with p1;injection p1 with p1 _ _
  subst p1
  have hlt:off<cs.length:=(List.getElem?_eq_some_iff.1 hcs).1
  have hltc:off<c.size:=by rw[p5.1];exact hlt
  have hcell:=Array.getElem?_eq_getElem hltc
  obtain⟨hv,ho⟩:=p5.2 off _ _ hcs hcell
  obtain⟨g1,g2,hne⟩:=GH h b off (loadT d) hT
  have hst:aL (G.jN (.cell b off) (loadT d)) w σ.s:=h.store.mono h.aG g2 (fun b' hb'=>⟨by rw[hne b' (by rw[hb'];simp),hb'],rfl,rfl⟩)
   (fun b' c' j hb' hc'=>⟨by rw[hne c' (by rw[hc'];intro e;injection e with e _;subst e;rw[p2]at hb';cases hb'),hc'],rfl,rfl⟩)
  have h1:Inv (G.jN (.cell b off) (loadT d)) n D (σ.put (some i) (.loc (setAt cs off [view av]))) a w:=by
   refine⟨g1,hst,h.size,fun k v hkv=>?_,fun k hk'=>?_,fun k d' hk'=>?_,h.sV⟩
   ·by_cases hki:i=k
    ·subst hki
     have:look (σ.put (some i) (.loc (setAt cs off [view av]))).e i=.loc (setAt cs off [view av]):=by simp[St.put,aJ]
     rw[this]
     rw[htm]at hkv;injection hkv with hkv;subst hkv
     exact⟨b,c,et,rfl,by rw[hne b (by rw[p2];simp),p2],p3,p4,p5.take hcs,Fl.setAt p6 (by intro z hz;rw[List.mem_singleton]at hz;subst hz;exact JR hsl) off⟩
    ·have:look (σ.put (some i) (.loc (setAt cs off [view av]))).e k=look σ.e k:=by simp[St.put,aJ,hki]
     rw[this]
     refine c5.frame (G:=G) (G':=G.jN (.cell b off) (loadT d)) (w:=w) (w':=w) (tmps:=a.tmps) (tmps':=a.tmps) (fun _ _ hv=>hv) (fun b' hb'=>⟨hne b' (by rcases hb' with⟨j,hb'⟩|hb'<;>rw[hb']<;>simp),rfl,rfl⟩)
      (fun b' c' j hb' hc'=>⟨by rw[hne c' (by rw[hc'];intro e;injection e with e _;subst e;rw[p2]at hb';injection hb' with hb';exact hki hb'),hc'],rfl,rfl⟩) _ _ (fun d' _ cs' hcs'=>?_) (h.bW k v hkv)
     by_cases hdi':i=d'
     ·subst hdi';exact⟨cs,hl,rfl⟩
     ·simp only[St.put,aJ,hdi',if_false]at hcs'
      exact⟨cs',hcs',rfl⟩
   ·by_cases hki:i=k
    ·subst hki
     have:=h.Hs i hk'
     rw[hl]at this;cases this
    ·simp only[St.put,aJ,hki,if_false];exact h.Hs k hk'
   ·by_cases hki:i=k
    ·subst hki
     simp only[St.put,aJ,if_true]at hk'
     exact hk'.elim
    ·simp only[St.put,aJ,hki,if_false]at hk'
     exact h.OE k d' hk'
  intro pos after g next Q hn
  exact aF (hrun b off _ e1 (by rw[cell_of_row w p4,hcell]) pos after g) (hn _ _ _ _ (putD hsl h1 hv ho.jN) g2 hk)
theorem RI(h:Inv G n D σ a w){op:Op}{ty:TypeId}{off:Nat}{j x:IX}{d:Option Nat}{K:St→Prop}(hd:aN n d=true)(hc:al P op ty (.mA off j x)=true)(hw:gM P (.mA off j x) d σ K):nd P G n D w a op ty d K:=by
 have hc':al P op ty (.gW x)=true:=by cases op<;>first|exact hc|(cases hc;done)
 exact JC h hd hc' hw.2
theorem Vv(h:Inv G n D σ a w){op:Op}{ty:TypeId}{ne:Bool}{x:IX}{d:Option Nat}{K:St→Prop}(hd:aN n d=true)(hc:al P op ty (.U2 ne x)=true)(hw:gM P (.U2 ne x) d σ K):nd P G n D w a op ty d K:=by
 cases op<;>first|(simp[al]at hc;done)|skip
 rename_i b t u v yt
 simp only[al,Bool.and_eq_true,decide_eq_true_eq]at hc
 obtain⟨⟨⟨rfl,hx⟩,hy⟩,ht⟩:=hc
 cases hel:b7 P t with
 |none=>rw[hel]at ht;cases ht
 |some e=>
 have ht:=cz hel
 have e2:a.eval v=.slice none 0 0:=by
  split at hy
  ·rfl
  ·cases hy
 have hbx:=XR.aB h hx
 have hw':RM ne σ d K (σ.x x):=hw
 generalize σ.x x=xv at hw' hbx
 have some_:∀(ad:Addr)(l c:Nat),a.eval u=.slice (some ad) l c→K (σ.put d (.bool ne))→nd P G n D w a (.binOp (if ne=true then .neq else .eql) t u v yt) ty d K:=by
  intro ad l c e1 hk pos after g next Q hn
  have hr:(Op.equal t (.slice (some ad) l c) (.slice none 0 0)).run P w=.ok false w:=oV 9999 ht ad l c
  refine aF (v:=.bool ne) ?_ (hn G _ _ _ (h.N6 hd rfl (.bool _) rfl) (ax.refl G w) hk)
  cases ne<;>simp[execOp,e1,e2,eqGuard,binOp,hr]
 have none_:a.eval u=.slice none 0 0→K (σ.put d (.bool !ne))→nd P G n D w a (.binOp (if ne=true then .neq else .eql) t u v yt) ty d K:=by
  intro e1 hk pos after g next Q hn
  have key:∀q:Nat,(Op.equalIn (q+1) t (.slice none 0 0) (.slice none 0 0)).run P w=.ok true w:=fun q=>by simp[Op.equalIn,run_underlying ht]
  have hr:(Op.equal t (.slice none 0 0) (.slice none 0 0)).run P w=.ok true w:=key 9999
  refine aF (v:=.bool !ne) ?_ (hn G _ _ _ (h.N6 hd rfl (.bool _) rfl) (ax.refl G w) hk)
  cases ne<;>simp[execOp,e1,e2,eqGuard,binOp,hr]
 unfold RM at hw'
 split at hw'<;>try(exact hw'.elim)
 ·rename_i ow sz m cs
  rcases VR.fA hbx with⟨(e1|⟨_,_,_,e1⟩),rfl,_⟩|⟨b,off,cap,e1,_⟩
  ·exact none_ e1 (hw' _ fun _=>rfl)
  ·exact some_ _ _ _ e1 (hw' _ fun hh=>by cases ne<;>cases hh)
  ·exact some_ _ _ _ e1 (hw' _ fun hh=>by cases ne<;>cases hh)
 ·rename_i b off m cap
  rcases VR.bQ hbx with e1|⟨_,rfl,e1⟩
  ·exact some_ _ _ _ e1 (hw' _ fun hh=>by cases ne<;>cases hh)
  ·exact none_ e1 (hw' _ fun _=>rfl)
theorem Vy(h:Inv G n D σ a w){op:Op}{ty:TypeId}{f:Nat}{x y:IX}{d:Option Nat}{K:St→Prop}(hd:aN n d=true)(hc:al P op ty (.SJ f x y)=true)(hw:gM P (.SJ f x y) d σ K):nd P G n D w a op ty d K:=by
 cases op<;>first|(simp[al]at hc;done)|skip
 rename_i c
 obtain⟨callee,ys,ats⟩:=c
 simp only[al]at hc
 split at hc<;>try(cases hc;done)
 rename_i g
 simp only[Bool.and_eq_true,beq_iff_eq]at hc
 obtain⟨rfl,hxs⟩:=hc
 obtain⟨ys⟩:=ys
 have hys:∃u v,ys=[u,v]∧aX u x=true∧aX v y=true:=by
  match ys,hxs with
  |[u,v],hxs=>
   simp only[fD,Bool.and_eq_true]at hxs
   exact⟨u,v,rfl,hxs.1,hxs.2.1⟩
  |[],hxs=>cases hxs
  |[_],hxs=>simp[fD]at hxs
  |_::_::_::_,hxs=>simp[fD]at hxs
 obtain⟨u,v,rfl,hu,hv⟩:=hys
 have hbx:=XR.aB h hu
 have hby:=XR.aB h hv
 have hw':T4 P f σ d K (σ.x x) (σ.x y):=hw
 generalize σ.x x=xv at hw' hbx
 generalize σ.x y=yv at hw' hby
 unfold T4 at hw'
 split at hw'<;>try(exact hw'.elim)
 rename_i ow sz l c0 cs0 b' o' l' cp'
 obtain⟨hov,hs2,hk⟩:=hw'
 rcases VR.fA hbx with⟨_,h0,_⟩|⟨b,o,cp,e1,hl,hR,hcap,hat⟩
 ·cases h0
 have e2:=VR.oj hby (Nat.succ_pos _)
 unfold cellsIn at hs2
 split at hs2<;>try(exact hs2.elim)
 rename_i hs2'
 obtain⟨q0,q1',x2,t2,q1,q2,_⟩:=h.store b' _ hs2'
 obtain⟨uu,hcell,_,_⟩:=hat
 have hc0:=hcell 0 c0 rfl
 have hblk:∃x1 t1 f1,w.heap[b]? =some (.cells x1 t1 f1)∧x1.size≠0:=by
  unfold World.cell? at hc0
  split at hc0
  ·rename_i x1 t1 f1 hh
   refine⟨x1,t1,f1,hh,fun h0=>?_⟩
   have hlt:=(Array.getElem?_eq_some_iff.1 hc0).1
   omega
  ·cases hc0
 obtain⟨x1,t1,f1,p1,p2⟩:=hblk
 have hbb:b≠b':=fun e=>by
  subst e
  rw[q1']at hR
  simp only[List.length_cons]at hR
  omega
 obtain⟨w',hr,r1,r2,r3,r4,r5⟩:=hov w b b' o (l+1) cp o' l' (cp'+1) t1 t2 x1 x2 f1 hbb p1 p2 q1 (by rw[q2.1];simp)
 have hpres:ax G w G w':=⟨r2,r3,r4,r5,by rw[r1];exact Nat.le_refl _,fun _ _=>Nat.le_refl _,fun b k _ _=>Ba r1 _,fun b _ _=>by rw[r1],fun b _ hb=>⟨hb,rfl⟩,fun b _ hb=>⟨hb,rfl⟩⟩
 have hg':bM G w':=⟨fun b hb=>h.aG.iS b (by rw[r1]at hb;exact hb),fun b hb=>h.aG.iT b (by rw[r1]at hb;exact hb)⟩
 have hinv:Inv G n D (σ.put d (.bool false)) (a.put d (.bool false)) w':=by
  have:=h.put (s':=σ.s) (lp':=σ.lp) d (fun i hi=>by subst hi;simpa[aN]using hd) (.bool false) (.bool false) hg' hpres (h.store.mono h.aG hpres (fun b hb=>⟨hb,rfl,by rw[r1]⟩) (fun _ c j _ hc=>⟨hc,rfl,by rw[r1]⟩)) (fun _ hx=>hx) (fun i t _ ht=>ht.elim) (fun i t _⟨cs,hcs⟩=>by cases hcs)
   (fun _ _ _ _=>⟨rfl,rfl,by rw[r1]⟩) (fun _ _ _ _ _ _ hcc=>⟨hcc,rfl,by rw[r1]⟩) (fun i hdi=>⟨.bool _,trivial⟩)
  cases d<;>exact this
 intro pos after gd next Q hn
 refine aF (w':=w') (v:=.bool false) ?_ (hn G _ _ _ hinv hpres hk)
 simp[execOp,resolve,Act.eval,Deferred.ofValue,invoke]
 simp[Act.eval]at e1 e2
 rw[e1,e2,hr]
theorem Jp(a b:List AV):views (a++b)=views a++views b:=by simp[views]
theorem RE(h:Inv G n D σ a w){op:Op}{ty:TypeId}{f i:Nat}{args:List IX}{d:Option Nat}{K:St→Prop}(hd:aN n d=true)(hc:al P op ty (.tq f i args)=true)(hw:gM P (.tq f i args) d σ K):nd P G n D w a op ty d K:=by
 have hcc:al P op ty (.call f args)=true:=by
  cases op<;>first|(simp[al]at hc;done)|skip
  simp only[al,Bool.and_eq_true]at hc
  exact hc.2
 have hw':UJ i σ (fun τ=>tu P f τ d K (bJ (xg true τ) args)) (look σ.e i):=hw
 have later:∀(G1:Gh)(τ:St),Inv G1 n D τ a w→ax G w G1 w→tu P f τ d K (bJ (xg true τ) args)→nd P G n D w a op ty d K:=by
  intro G1 τ h1 hp hk pos after g next Q hn
  exact M0 h1 hd hcc hk pos after g next Q fun G' σ' a' w' k1 k2 k3=>hn G' σ' a' w' k1 (hp.trans k2) k3
 cases hl:look σ.e i<;>rw[hl]at hw'<;>first|exact hw'.elim|skip
 rename_i sz m cs
 obtain⟨hw1,hw2⟩:=hw'
 have hin:i<n:=h.NO (by rw[hl];simp)
 have hlt:i<a.tmps.size:=by rw[h.size];exact hin
 have hs:=h.bW i _ (Array.getElem?_eq_getElem hlt)
 rw[hl]at hs
 rcases hs with⟨h1,h2,h3⟩|⟨b,cap,c,t,sp,h1,h2,h3,h4,h5,h6,h7,h8,h9,h10,h11,h12⟩
 ·subst h1;subst h2
  rcases h3 with h3|⟨b,off,h3⟩
  ·refine later G _ (h.Q6 i hin (.arr 0 0 0 0) (fun t ht=>ht) (fun cs e=>by cases e) fun v hv=>?_) (ax.refl G w) (hw2 rfl 0 0)
   rw[Array.getElem?_eq_getElem hlt]at hv;injection hv with hv;subst hv
   exact⟨by rw[h3];exact .KA _ _,trivial⟩
  ·refine later G _ (h.Q6 i hin (.arr b off 0 0) (fun t ht=>ht) (fun cs e=>by cases e) fun v hv=>?_) (ax.refl G w) (hw2 rfl b off)
   rw[Array.getElem?_eq_getElem hlt]at hv;injection hv with hv;subst hv
   exact⟨by rw[h3];exact .arr _ _ _ _,trivial⟩
 ·have hnone:σ.s b=none:=by
   cases hsb:σ.s b with
   |none=>rfl
   |some o=>have:=(h.store b o hsb).1;rw[h4]at this;cases this
  have hvsp:views sp=sp:=by
   have:views cs++views sp=cs++sp:=by rw[←Jp];exact h12
   exact(List.append_inj this (by simp[views])).2
  let G1:Gh:=G.pJ b .sh 0
  have same:∀b',b'≠b→G1.O b'=G.O b'∧G1.R b'=G.R b'∧w.heap[b']? =w.heap[b']? :=fun b' hb'=>⟨by simp[G1,hb'],by simp[G1,hb'],rfl⟩
  have hRe:∀b',G1.R b'=G.R b':=fun b'=>by
   by_cases hb:b'=b
   ·subst hb;simp[G1,h5]
   ·simp[G1,hb]
  have hpres:ax G w G1 w:=⟨rfl,rfl,rfl,Nat.le_refl _,Nat.le_refl _,fun b' _=>by rw[hRe];exact Nat.le_refl _,fun _ _ _ _=>rfl,fun _ _ _=>rfl,fun b' _ hb'=>by
   have:b'≠b:=fun e=>by subst e;rw[h4]at hb';cases hb'
   exact⟨(same b' this).1.trans hb',(same b' this).2.1⟩,fun b' _ hb'=>by
   have:b'≠b:=fun e=>by subst e;rw[h4]at hb';cases hb'
   exact⟨(same b' this).1.trans hb',(same b' this).2.1⟩⟩
  have hbl:b<w.heap.size:=h.aG.lt (by rw[h4];simp)
  have hgood:bM G1 w:=⟨fun b' hb'=>by
   have:b'≠b:=by omega
   rw[(same b' this).1,h.aG.iS b' hb'],fun b' hb'=>by rw[hRe,h.aG.iT b' hb']⟩
  have hst:aL G1 w (σ.s.set b (.cells (cs++sp))):=by
   intro b' o hb'
   unfold ab.set at hb'
   by_cases hbg:b'=b
   ·rw[if_pos hbg]at hb';injection hb' with hb';subst hb';subst hbg
    refine⟨by simp[G1],by simp[G1],c,t,h6,⟨by rw[h7,h9],fun j x y hx hy=>⟨hpres.vr h.aG (h10 j x y hx hy),?_⟩⟩,h11.tag _⟩
    rw[←h12,dU]at hx
    cases hz:(cs++sp)[j]? with
    |none=>rw[hz]at hx;cases hx
    |some x'=>rw[hz]at hx;simp at hx;rw[←hx];exact c7.view ..
   ·rw[if_neg hbg]at hb'
    obtain⟨r1,r2,r3⟩:=h.store b' o hb'
    refine⟨(same b' hbg).1.trans r1,(same b' hbg).2.1.trans r2,?_⟩
    cases o with
    |cells cs'=>
     obtain⟨c0,t0,r4,r5,r6⟩:=r3
     exact⟨c0,t0,r4,r5.mono (fun _ _ hv=>hpres.vr h.aG hv) (fun b'' j hb''=>by
      obtain⟨x1,x2,x3⟩:=same b'' (fun e=>by subst e;rw[h4]at hb'';cases hb'')
      exact⟨x1.trans hb'',x2,x3⟩),r6⟩
    |map es=>
     obtain⟨ents,clock,r4,r5,r6⟩:=r3
     exact⟨ents,clock,r4,r5,fun j x y hx hy=>⟨hpres.vr h.aG (r6 j x y hx hy).1,hpres.vr h.aG (r6 j x y hx hy).2⟩⟩
  have h1':Inv G1 n D ({σ with s:=σ.s.set b (.cells (cs++sp))}.put (some i) (.arr b 0 m cap)) a w:=by
   have ha:a.put (some i) a.tmps[i]=a:=by
    have:a.tmps.setIfInBounds i a.tmps[i]=a.tmps:=by rw[Array.setIfInBounds,dif_pos hlt,Array.set_getElem_self]
    simp[Act.put,this]
   have:=h.put (s':=σ.s.set b (.cells (cs++sp))) (lp':=σ.lp) (some i) (fun j hj=>by injection hj with hj;subst hj;exact hin) (.arr b 0 m cap) a.tmps[i] hgood hpres hst (fun _ hx=>hx) (fun j t _ ht=>ht.elim) (fun j t _⟨cs,hcs⟩=>by cases hcs)
    (fun j b' hj hb'=>same b' (fun e=>by
      subst e
      rcases hb' with⟨q,hb'⟩|hb'<;>rw[h4]at hb'
      ·injection hb' with hb' _;exact hj (by rw[hb'])
      ·cases hb'))
    (fun j b' c' q _ _ hc'=>by
      obtain⟨x1,x2,x3⟩:=same c' (fun e=>by subst e;rw[h4]at hc';cases hc')
      exact⟨x1.trans hc',x2,x3⟩)
    (fun j hj=>by
      injection hj with hj;subst hj
      exact⟨by rw[h3];exact .arr _ _ _ _,trivial⟩)
   rw[ha]at this
   exact this
  exact later G1 _ h1' hpres (hw1 b cap sp hnone h1 h2 h9 h11 hvsp)
theorem QY{R:Nat→Nat}{sz:Nat}{c:AV}{u:Value}(h:VR w R c u):VR w R (uI sz c) u:=by
 unfold uI
 split
 ·rename_i b
  rcases VR.bQ h with e|⟨_,_,e⟩
  ·rw[e];exact .sl true sz 0 [] b 0 0 (fun _=>undef) Fl.nil (by simp) (by simp) (Nat.le_refl _) (fun j c hj=>by simp at hj) (fun j c hj=>by simp at hj)
  ·rw[e];exact .slnil _ _
 ·exact h
theorem NS{R:Nat→Nat}{o:cy}{sz:Nat}{c:AV}{u:Value}(h:VR w R c u):c7 G w o (uI sz (view c)) u:=by
 unfold uI
 split
 ·rename_i b hb
  have:c=.arr b 0 0 0:=by cases c<;>simp[view]at hb<;>simp[hb]
  subst this
  intro base m cap hv hc
  rcases VR.bQ h with e|⟨_,_,e⟩<;>rw[e]at hv<;>injection hv with _ e2 e3<;>omega
 ·exact c7.view ..
theorem J8{sz:Nat}{c:AV}(h:pR c=true):pR (uI sz c)=true:=by
 unfold uI
 split
 ·rfl
 ·exact h
theorem Oo{sz:Nat}{av:AV}{v:Value}(hi:cU av=true)(h:VR w G.R av v):Fl (cd sz av)∧v.cells.toList.length=(cd sz av).length∧(∀(j:Nat)(x:AV)(y:Value),(cd sz av)[j]? =some x→v.cells.toList[j]? =some y→VR w G.R x y)∧
 (∀y∈v.cells.toList,y.oneCell'=true):=by
 obtain⟨h1,h2,h3,h4⟩:=GR hi h
 cases av with
 |agg cs=>
  simp only[aR]at h1 h2 h3
  refine⟨fun c hc=>?_,by simp only[cd,List.length_map];exact h2,fun j x y hx hy=>?_,h4⟩
  ·simp only[cd,List.mem_map]at hc
   obtain⟨c',hc',rfl⟩:=hc
   exact J8 (h1 c' hc')
  ·simp only[cd,List.getElem?_map]at hx
   cases hz:(views cs)[j]? with
   |none=>rw[hz]at hx;cases hx
   |some x'=>rw[hz]at hx;simp at hx;rw[←hx];exact QY (h3 j x' y hz hy)
 |_=>exact⟨h1,h2,h3,h4⟩
theorem O8(h:Inv G n D σ a w){op:Op}{ty:TypeId}{sz m:Nat}{p v:IX}{d:Option Nat}{K:St→Prop}(hd:aN n d=true)(hc:al P op ty (.pD sz m p v)=true)(hw:gM P (.pD sz m p v) d σ K):nd P G n D w a op ty d K:=by
 cases op<;>first|(simp[al]at hc;done)|skip
 rename_i t q u
 simp only[al,Bool.and_eq_true]at hc
 obtain⟨⟨hs,hq⟩,hu⟩:=hc
 obtain⟨hi,hm,hk⟩:=hw
 have hvr:VR w G.R (σ.x v) (a.eval u):=by
  have:=XR.aB h hu
  generalize σ.x v=av at hi this
  cases av<;>first|exact this|(simp[cU]at hi)
 have target:∃g off dQ,a.eval q=.pointer (some ⟨g,off,none⟩)∧
  ((∃i,look σ.e i=.loc dQ∧a.tmps[i]? =some (.pointer (some ⟨g,0,none⟩))∧Jr (σ.drain v) (σ.x p) p (cd sz (σ.x v))=WN (σ.drain v) i (dG off (cd sz (σ.x v)) dQ))∨
   (σ.s g=some (.cells dQ)∧Jr (σ.drain v) (σ.x p) p (cd sz (σ.x v))=WO (σ.drain v) g (dG off (cd sz (σ.x v)) dQ))):=by
  have hb:=XR.aB h hq
  cases hp:σ.x p with
  |loc dQ=>
   rw[hp]at hb
   obtain⟨i,b,c,t',e1,e2,e3,e4,_⟩:=hb
   refine⟨b,0,dQ,e4,.inl ⟨i,e2,by rw[e3,e4],?_⟩⟩
   subst e1;rfl
  |lp d0 off=>
   rw[hp]at hb hk
   obtain⟨b,e1,e2⟩:=hb
   have hk':OG d K (Ks (σ.drain v) d0 off (cd sz (σ.x v)) (look (σ.drain v).e d0)):=hk
   cases hl:look (σ.drain v).e d0<;>rw[hl]at hk'<;>first|exact hk'.elim|skip
   rename_i dQ
   have hl':=FT hi hl
   exact⟨b,off,dQ,e1,.inl ⟨d0,hl',e2 dQ hl',by show Ks _ _ _ _ (look (σ.drain v).e d0)=_;rw[hl];rfl⟩⟩
  |ref b off=>
   rw[hp]at hb hk
   have e1:=VR.gp hb
   have hk':OG d K (Qm (σ.drain v) b off (cd sz (σ.x v)) ((σ.drain v).s b)):=hk
   have hs':(σ.drain v).s=σ.s:=by cases v<;>rfl
   rw[hs']at hk'
   cases hl:σ.s b with
   |none=>rw[hl]at hk';exact hk'.elim
   |some so=>
    cases so with
    |map es=>rw[hl]at hk';exact hk'.elim
    |cells dQ=>exact⟨b,off,dQ,e1,.inr ⟨hl,by show Qm _ _ _ _ ((σ.drain v).s b)=_;rw[hs',hl];rfl⟩⟩
  |_=>rw[hp]at hk;exact hk.elim
 obtain⟨g,off,dQ,e1,htar⟩:=target
 obtain⟨G1,h1,hp1,hv1,hown1,hR1,hsh,hloc,hcell⟩:=h.drain hu hi (.cell g off) (by simp) (by simp)
 obtain⟨hfl,hlen,hvals,hone⟩:=Oo (sz:=sz) hi hv1
 have hown':∀(j:Nat)(x:AV)(y:Value),(cd sz (σ.x v))[j]? =some x→(a.eval u).cells.toList[j]? =some y→VR w G1.R x y∧c7 G1 w (.cell g (off+j)) x y:=by
  intro j x y hx hy
  refine⟨hvals j x y hx hy,?_⟩
  cases hv:σ.x v with
  |agg cs=>
   rw[hv]at hx hv1
   obtain⟨vs,e,hl,hr,_⟩:=VR.lD hv1
   simp only[cd,List.getElem?_map]at hx
   rw[dU]at hx
   cases hc0:cs[j]? with
   |none=>rw[hc0]at hx;cases hx
   |some c0=>
    rw[hc0]at hx;simp at hx;rw[←hx]
    rw[e]at hy
    exact NS (hr j c0 y hc0 (by simpa[Value.cells]using hy))
  |sl o s l cs=>
   rw[hv]at hx hown1 hv1
   cases j with
   |succ j=>simp[cd]at hx
   |zero=>
   simp[cd]at hx
   subst hx
   have:(a.eval u).cells= #[a.eval u]:=by rcases VR.fA hv1 with⟨(e|⟨_,_,_,e⟩),_⟩|⟨_,_,_,e,_⟩<;>rw[e]<;>rfl
   rw[this]at hy
   simp at hy
   subst hy
   exact hown1
  |bb t l cs=>
   rw[hv]at hx hown1 hv1
   cases j with
   |succ j=>simp[cd]at hx
   |zero=>
   simp[cd]at hx
   subst hx
   have hv1':VR w G1.R (.sl true 1 l cs) (a.eval u):=by cases hv1;assumption
   have:(a.eval u).cells= #[a.eval u]:=by rcases VR.fA hv1' with⟨(e|⟨_,_,_,e⟩),_⟩|⟨_,_,_,e,_⟩<;>rw[e]<;>rfl
   rw[this]at hy
   simp at hy
   subst hy
   exact hown1
  |_=>
   rw[hv]at hx
   cases j with
   |succ j=>simp[cd]at hx
   |zero=>simp[cd]at hx;subst hx;trivial
 have hlen':(a.eval u).cells.toList.length=m:=by rw[hlen,hm]
 have hput:∀(τ:St)(w':World),Inv G1 n D τ a w'→Inv G1 n D (τ.put d (.fE [])) (a.put d undef) w':=by
  intro τ w' hτ
  have:=hτ.put (s':=τ.s) (lp':=τ.lp) d (fun i hi=>by subst hi;simpa[aN]using hd) (.fE []) undef hτ.aG (ax.refl G1 w') hτ.store (fun _ hx=>hx) (fun i t _ ht=>ht.elim) (fun i t _⟨cs,hcs⟩=>by cases hcs)
   (fun _ _ _ _=>⟨rfl,rfl,rfl⟩) (fun _ _ _ _ _ _ hcc=>⟨hcc,rfl,rfl⟩) (fun i hdi=>⟨#[],rfl,rfl,fun j x y hx=>by simp at hx⟩)
  cases d<;>exact this
 rcases htar with⟨i,e2,e3,e4⟩|⟨e2,e4⟩
 ·
  rw[e4]at hk
  cases hwr:dG off (cd sz (σ.x v)) dQ with
  |none=>rw[hwr]at hk;exact hk.elim
  |some cs'=>
   rw[hwr]at hk
   obtain⟨hfit,rfl⟩:=rN hwr
   have e2':look (σ.drain v).e i=.loc dQ:=CO hi e2
   have hslot:=h1.bW i _ e3
   rw[e2']at hslot
   obtain⟨b,c,t',q1,q2,q3,q4,q5,q6⟩:=hslot
   injection q1 with q1;injection q1 with q1;injection q1 with q1 _ _
   subst q1
   have hne:∀j,G1.O g≠.cell g j:=fun j=>by rw[q2];simp
   have hfit':off+(a.eval u).cells.toList.length≤c.size:=by rw[hlen,q5.1];exact hfit
   have hrun:=mZ (P:=P) hs q4 (v:=a.eval u) (by simpa using hlen') (by rw[←hlen'];exact hfit') hone
   have hpres:ax G1 w G1 (w.setRow g (laid c off (a.eval u).cells.toList)):=ax.write q4 (by rw[q2];simp) (fun k hk=>by rw[q3]at hk;omega) (Nat.le_refl _) (fun _ _=>⟨rfl,rfl⟩)
   have hcells:=da.lay q4 hpres h1.aG q5 hlen hfit hne hown'
   obtain⟨h2,_⟩:=h1.written (σ':=(σ.drain v).put (some i) (.loc (setAt dQ off (cd sz (σ.x v))))) q4 (.inl ⟨i,q2⟩) q3 rfl
    (h1.store.mono h1.aG hpres (fun b hb=>⟨hb,rfl,setRow_other w g b _ (fun e=>by subst e;rw[q2]at hb;cases hb)⟩) (fun b c j _ hc=>⟨hc,rfl,setRow_other w g c _ (fun e=>by subst e;rw[q2]at hc;cases hc)⟩))
    (fun k=>by
      by_cases hki:i=k
      ·subst hki
       exact .inr ⟨q2,e3,dQ,_,e2',by simp[St.put,aJ],hcells,Fl.setAt q6 hfl off⟩
      ·refine .inl ⟨by simp[St.put,aJ,hki],?_⟩
       rw[q2];intro e;injection e with e;exact hki e)
   intro pos after gd next Q hn
   exact qY (w':=w.setRow g (laid c off (a.eval u).cells.toList)) (by simp[execOp,e1,Instr.storeAt,Instr.sureAddr,hrun]) (hn G1 _ _ _ (hput _ _ h2) (hp1.trans hpres) hk)
 ·
  rw[e4]at hk
  cases hwr:dG off (cd sz (σ.x v)) dQ with
  |none=>rw[hwr]at hk;exact hk.elim
  |some cs'=>
   rw[hwr]at hk
   obtain⟨hfit,rfl⟩:=rN hwr
   have hs':(σ.drain v).s=σ.s:=by cases v<;>rfl
   obtain⟨q2,q3,c,t',q4,q5,q6⟩:=h1.store g (.cells dQ) (by rw[hs'];exact e2)
   have hne:∀j,G1.O g≠.cell g j:=fun j=>by rw[q2];simp
   have hfit':off+(a.eval u).cells.toList.length≤c.size:=by rw[hlen,q5.1];exact hfit
   have hrun:=mZ (P:=P) hs q4 (v:=a.eval u) (by simpa using hlen') (by rw[←hlen'];exact hfit') hone
   have hpres:ax G1 w G1 (w.setRow g (laid c off (a.eval u).cells.toList)):=ax.write q4 (by rw[q2];simp) (fun k hk=>by rw[q3]at hk;omega) (Nat.le_refl _) (fun _ _=>⟨rfl,rfl⟩)
   have hcells:=da.lay q4 hpres h1.aG q5 hlen hfit hne hown'
   have hst:aL G1 (w.setRow g (laid c off (a.eval u).cells.toList)) ((σ.drain v).s.set g (.cells (setAt dQ off (cd sz (σ.x v))))):=by
    intro b o hb
    unfold ab.set at hb
    by_cases hbg:b=g
    ·rw[if_pos hbg]at hb;injection hb with hb;subst hb;subst hbg
     exact⟨q2,q3,_,t',setRow_heap w b c _ t' _ q4,hcells,Co.setAt q6 hfl off⟩
    ·rw[if_neg hbg]at hb
     obtain⟨r1,r2,r3⟩:=h1.store b o hb
     refine⟨r1,r2,?_⟩
     have hbk:=setRow_other w g b (laid c off (a.eval u).cells.toList) hbg
     cases o with
     |cells cs=>
      obtain⟨c0,t0,r4,r5,r6⟩:=r3
      exact⟨c0,t0,hbk.trans r4,r5.mono (fun _ _ hv=>hpres.vr h1.aG hv) (fun b' j hb'=>⟨hb',rfl,setRow_other w g b' _ (fun e=>by subst e;rw[q2]at hb';cases hb')⟩),r6⟩
     |map es=>
      obtain⟨ents,clock,r4,r5,r6⟩:=r3
      exact⟨ents,clock,hbk.trans r4,r5,fun j x y hx hy=>⟨hpres.vr h1.aG (r6 j x y hx hy).1,hpres.vr h1.aG (r6 j x y hx hy).2⟩⟩
   obtain⟨h2,_⟩:=h1.written (σ':={σ.drain v with s:=(σ.drain v).s.set g (.cells (setAt dQ off (cd sz (σ.x v))))}) q4 (.inr q2) q3 rfl hst
    (fun k=>.inl ⟨rfl,by rw[q2];simp⟩)
   intro pos after gd next Q hn
   exact qY (w':=w.setRow g (laid c off (a.eval u).cells.toList)) (by simp[execOp,e1,Instr.storeAt,Instr.sureAddr,hrun]) (hn G1 _ _ _ (hput _ _ h2) (hp1.trans hpres) hk)
theorem Tp(h:Inv G n D σ a w){op:Op}{ty:TypeId}{sz m:Nat}{x:IX}{d:Option Nat}{K:St→Prop}(hd:aN n d=true)(hc:al P op ty (.Er sz m x)=true)(hw:gM P (.Er sz m x) d σ K):nd P G n D w a op ty d K:=by
 cases op<;>first|(simp[al]at hc;done)|skip
 rename_i t y
 simp only[al,Bool.and_eq_true]at hc
 obtain⟨hi,_,hk⟩:=hw
 have hvr:VR w G.R (σ.x x) (a.eval y):=by
  have:=XR.aB h hc.2
  generalize σ.x x=av at hi this
  cases av<;>first|exact this|(simp[cU]at hi)
 have hrow:=fU hi hvr
 have hcs:∀(G':Gh)(w':World)(o:Nat→cy),ax G w G' w'→da G' w' o ((views (cellsOf (σ.x x))).map (uI sz)) (a.eval y).cells:=by
  intro G' w' o hp
  refine⟨by simp only[List.length_map,views];exact hrow.1,fun j c u hcj hu=>?_⟩
  simp only[List.getElem?_map]at hcj
  rw[dU]at hcj
  cases hz:(cellsOf (σ.x x))[j]? with
  |none=>rw[hz]at hcj;cases hcj
  |some c0=>
   rw[hz]at hcj;simp at hcj
   have h1:=hp.vr h.aG (hrow.2.1 j c0 u hz hu)
   rw[←hcj]
   exact⟨QY h1.view,NS h1⟩
 have hfl:Fl ((views (cellsOf (σ.x x))).map (uI sz)):=by
  intro c hc'
  simp only[List.mem_map]at hc'
  obtain⟨c',h1,rfl⟩:=hc'
  exact J8 (hrow.2.2.views c' h1)
 intro pos after g next Q hn
 obtain⟨G',h1,h2⟩:=h.PN hd (t:=t) (.inl ⟨rfl,rfl⟩) hcs hfl
 refine aF ?_ (hn G' _ _ _ h1 h2 (hk w.heap.size (h.store.get_none h.aG)))
 simp[execOp,Instr.box,newVar,newRow]
end
end Go.AB
end
