/- A part. -/
import Derived.Test.YtgecakgfnjkkbaaGreatRt5
set_option linter.defProp false
set_option linter.unusedSimpArgs false
set_option linter.unusedVariables false
section
namespace Go.AB
open Go
section
variable{P:Program}{G G':Gh}{n:Nat}{D:List Deferred}{E:St}{a:Act}{w w':World}
theorem ba.at(h:ba G w E.s){b off m:Nat}{cs:List AV}(hs:E.s b=some (.cells cs))(dE:off+m<=cs.length):At w G.R b off (AB.views (AB.sub cs off m)):=by
 obtain⟨_,_,c,t,h4,h5,h6⟩:=h b _ hs
 have hat:=(At.Hp h4 h5 h6).sub off m
 rwa[Nat.zero_add,HR]at hat
structure vo(P:Program)(w:World)(R:Nat->Nat)(sz m:Nat)(ds:List AV)(v:Value)(news:List Value):Prop where
 len:news.length=m*sz
 qt:ds.length=m*sz
 lenOf:∀w',(Builtin.lenOf v).run P w'=.ok m w'
 first:∀k,k<=m->∀w',w'.heap=w.heap->(Builtin.firstCells sz k v).run P w'=.ok (news.take (k*sz)).toArray w'
 one:∀u∈news,u.oneCell'=true
 lV:∀(j:Nat)(c:AV)(u:Value),ds[j]? =some c->news[j]? =some u->VR w R c u
 fl:Fl ds
 vw:views ds=ds
theorem qi(ds:List AV):views (views ds)=views ds:=by
 unfold views
 rw[List.map_map]
 apply List.map_congr_left
 intro a _
 cases a<;>rfl
theorem vo.src{R:Nat->Nat}{sz m:Nat}{ds:List AV}{v:Value}{news:List Value}(h:vo P w R sz m ds v news):Src P w R sz m ds v news:=⟨h.len,h.qt,h.lenOf,fun w' hw'=>by rw[h.first m (Nat.le_refl m) w' hw',List.take_of_length_le (by rw[h.len];grind)],h.one,h.lV,h.fl⟩
def vo.aaO{R:Nat->Nat}{sz m b off cap:Nat}{cs:List AV}(hl:cs.length=m*sz)(hat:At w R b off cs):∃news,vo P w R sz m (views cs) (.slice (some ⟨b,off,none⟩) m cap) news:=by
 have TQ:=hat.views
 obtain⟨us,h1,h2,h3⟩:=TQ.lV
 have hfl:Fl (views cs):=by obtain⟨_,_,_,hf⟩:=TQ;exact hf
 have hlen:(views cs).length=m*sz:=by simp[views,hl]
 refine⟨us,AT,hlen,fun _=>rfl,fun k hk w' hw'=>?_,fun u hu=>?_,h3,hfl,qi cs⟩
 ·grind [Nat.mul_le_mul_right,run_firstCells_some,zw]
 ·obtain⟨j,hj⟩:=List.mem_iff_getElem?.1 hu
  have hlt:j<(views cs).length:=A_
  have hx:=List.getElem?_eq_getElem hlt
  exact ji (hfl _ (List.getElem_mem hlt)) (h3 j _ u hx hj)
def vo.empty{R:Nat->Nat}{sz cap:Nat}{base:Option Addr}:vo P w R sz 0 [] (.slice base 0 cap) []:=
 ⟨BY,BY,fun _=>rfl,fun k hk w' _=>by
   have:k=0:=AT
   subst this
   cases base with
   |none=>simp[Builtin.firstCells]
   |some x=>simp[Builtin.firstCells,loadCells,loadCellsFrom],fun u hu=>A_,fun j c u hc=>BY,Fl.nil,rfl⟩
theorem vo.str{R:Nat->Nat}{l:List UInt8}:vo P w R 1 l.length (l.map fun c=>.int .u8 c.toNat) (.string ⟨l.toArray⟩) (l.map fun c=>.int .u8 c.toNat)where
 len:=BY
 qt:=BY
 lenOf:=fun w'=>D_
 first:=fun k hk w' _=>by
  have:((ByteArray.mk l.toArray).extract 0 k).data=(l.take k).toArray:=BY
  simp[Builtin.firstCells,this]
 one:=(Src.Jg (P:=P) (w:=w) (R:=R)).one
 lV:=(Src.Jg (P:=P)).lV
 fl:=Km l
 vw:=by simp[views,view]
theorem rP{m sz off:Nat}{o:Option SO}{k:Nat}{ds:List AV}(h:jU m sz off o=some (k,ds)):∃cs,o=some (.cells cs)/\off+m*sz<=cs.length/\k=m/\ds=views (AB.sub cs off (m*sz)):=by
 unfold jU at h
 grind
def Ew(h:Inv G n D E a w){sz m:Nat}{x:IX}{o:Operand}{ds:List AV}(hx:bN o x=true)(hs:vM E.s sz (E.x x)=some (m,ds)):∃news,vo P w G.R sz m ds (a.eval o) news:=by
 have hb:=XR.aQ h hx
 generalize E.x x=av at hb hs
 unfold vM at hs
 split at hs
 ·rename_i ow s' k cs
  by_cases he:s'=sz
  ·subst he
   rw[beq_self_eq_true]at hs
   injection hs with hs;injection hs with h1 h2;subst h1;subst h2
   rcases VR.gR hb with⟨e0,rfl,rfl⟩|⟨b,off,cap,e,hl,_,_,hat⟩
   ·obtain⟨_,_,e⟩:=e0.ex
    rw[e];exact⟨[],vo.empty⟩
   ·rw[e];exact vo.aaO hl hat
  ·rw[show(s'==sz)=false by grind]at hs
   by_cases hk:k=0
   ·subst hk
    injection hs with hs;injection hs with h1 h2;subst h1;subst h2
    rcases VR.gR hb with⟨(e|⟨_,_,_,e⟩),_,_⟩|⟨b,off,cap,e,_⟩<;>rw[e]<;>exact⟨[],vo.empty⟩
   grind
 ·by_cases he:sz=1
  ·subst he
   injection hs with hs;injection hs with h1 h2;subst h1;subst h2
   rw[VR.gm hb];exact⟨_,vo.str⟩
  grind
 ·rename_i b off k cap
  by_cases hk:k=0
  ·subst hk
   injection hs with hs;injection hs with h1 h2;subst h1;subst h2
   rcases VR.cK hb with e|⟨_,_,e⟩<;>rw[e]<;>exact⟨[],vo.empty⟩
  ·rw[show(k==0)=false by grind]at hs
   obtain⟨cs,e1,e2,rfl,rfl⟩:=rP hs
   rcases VR.cK hb with e|⟨h0,_,_⟩
   ·rw[e]
    have hsn:=vo.aaO (P:=P) (cap:=cap) (show(AB.views (AB.sub cs off (m*sz))).length=m*sz by simp[views,kM e2]) (h.store.at e1 e2)
    rwa[qi]at hsn
   grind
 ·cases hs
def Inv.xx(h:Inv G n D E a w){b off:Nat}{cs ds:List AV}{news:List Value}{c:Array Value}{t:TypeId}(hs:E.s b=some (.cells cs))(hb:w.heap[b]? =some (.cells c t (0,0)))
 (hlen:news.length=ds.length)(dE:off+ds.length<=cs.length)(hfl:Fl ds)(hvw:views ds=ds)(tL:∀(j:Nat)(x:AV)(y:Value),ds[j]? =some x->news[j]? =some y->VR w G.R x y):
 Inv G n D {E with s:=E.s.set b (.cells (setAt cs off ds))} a (w.setRow b (laid c off news))/\aI G w G (w.setRow b (laid c off news)):=by
 obtain⟨q2,q3,c',t',q4,q5,q6⟩:=h.store b _ hs
 rw[hb]at q4;injection q4 with q4;injection q4 with q4 q4' _
 subst q4;have hne:∀j,G.O b≠.cell b j:=fun j=>A_
 have bK:aI G w G (w.setRow b (laid c off news)):=aI.write hb A_ (fun k hk=>A_) (Nat.le_refl _) (fun _ _=>⟨rfl,rfl⟩)
 have pg:=dY.lay hb bK h.bc q5 hlen dE hne (fun j x y hx hy=>⟨tL j x y hx hy,by grind [fx,dI.view]⟩)
 have ez:ba G (w.setRow b (laid c off news)) (E.s.set b (.cells (setAt cs off ds))):=by
  intro b' o hb'
  unfold ae.set at hb'
  by_cases hbg:b'=b
  ·grind [q2,setRow_heap,Gk.setAt]
  ·rw[if_neg hbg]at hb'
   obtain⟨r1,r2,r3⟩:=h.store b' o hb'
   refine⟨r1,r2,?_⟩
   have hbk:=setRow_other w b b' (laid c off news) hbg
   cases o with
   |cells cs=>
    obtain⟨c0,t0,r4,r5,r6⟩:=r3
    exact⟨c0,t0,hbk.trans r4,r5.mono (fun _ _ hv=>bK.vr h.bc hv) (fun b'' j vB=>⟨vB,rfl,setRow_other w b b'' _ (fun e=>A_)⟩),r6⟩
   |map es=>
    obtain⟨jV,clock,r4,r5,r6⟩:=r3
    exact⟨jV,clock,hbk.trans r4,r5,fun j x y hx hy=>⟨bK.vr h.bc (r6 j x y hx hy).1,bK.vr h.bc (r6 j x y hx hy).2⟩⟩
 obtain⟨h2,_⟩:=h.written (E':={E with s:=E.s.set b (.cells (setAt cs off ds))}) hb (.inr q2) q3 rfl ez (fun k=>.inl ⟨rfl,A_⟩)
 grind
def Inv.L5(h:Inv G n D E a w){d:Option Nat}(hd:bq n d=true){av:AV}{v:Value}(hi:dF av=true)(hv:VR w G.R av v)(Ug:view av=av):Inv G n D (E.put d av) (a.put d v) w:=by
 have:=h.put d (fun i hi=>IF) av v h.bc (aI.refl G w) h.store (fun _ hx=>hx) (fun i t _ ht=>(fp hi t ht).elim) (fun i t _⟨cs,hcs⟩=>(og hi cs hcs).elim)
  (fun _ _ _ _=>⟨rfl,rfl,rfl⟩) (fun _ _ _ _ _ _ hcc=>⟨hcc,rfl,rfl⟩) (fun i hdi=>by grind [dZ.si,dI.view])
 cases d<;>exact this
def Inv.adi(h:Inv G n D E a w){d:Option Nat}(hd:bq n d=true):Inv G n D (E.put d (.iJ [])) (a.put d (.tuple #[])) w:=by
 have:=h.put d (fun i hi=>IF) (.iJ []) (.tuple #[]) h.bc (aI.refl G w) h.store (fun _ hx=>hx) (fun i t _ ht=>ht.elim) (fun i t _⟨cs,hcs⟩=>A_)
  (fun _ _ _ _=>⟨rfl,rfl,rfl⟩) (fun _ _ _ _ _ _ hcc=>⟨hcc,rfl,rfl⟩) (fun i hdi=>⟨#[],rfl,rfl,fun j x y hx=>BY⟩)
 cases d<;>exact this
theorem Iw(h:Inv G n D E a w){op:Op}{ty:TypeId}{sz m:Nat}{z:List AV}{ps:List (Nat×Nat×IX)}{d:Option Nat}{K:St->Prop}(hd:bq n d=true)(hc:aw P op ty (.mV sz m z ps)=true)(hw:ju P (.mV sz m z ps) d E K):pM P G n D w a op ty d K:=by
 cases op<;>first|(simp[aw]at hc;done)|skip
 rename_i t m' qs
 simp only[aw,Bool.and_eq_true,beq_iff_eq]at hc
 obtain⟨rfl,hc⟩:=hc
 split at hc<;>try(cases hc;done)
 rename_i e ht
 have ht:=de ht
 simp only[Bool.and_eq_true]at hc
 obtain⟨⟨⟨⟨hs,jW⟩,hp⟩,T4⟩,hz⟩:=hc
 obtain⟨i,hi,qR⟩:=lx hs
 rw[hi]at hz
 simp only at hz
 split at hz<;>try(cases hz;done)
 rename_i zv hzv
 simp only[Bool.and_eq_true,beq_iff_eq]at hz
 obtain⟨hzr,hzs⟩:=hz
 have jW:=of_decide_eq_true jW
 have T4:=of_decide_eq_true T4
 have hw':zu sz m E d K (fill (xg true E) z ps):=hw
 cases hfl:fill (xg true E) z ps with
 |none=>rw[hfl]at hw';exact hw'.elim
 |some ds=>
  rw[hfl]at hw'
  obtain⟨hlen,hk⟩:=hw'
  obtain⟨hl,hpa⟩:=xn _ _ hp
  obtain⟨hz1,hz2⟩:=Cb hzr
  have dv:Row w G.R z ((Array.range (m*sz)).map (zv.cells[·% zv.cells.size]!)):=by
   rw[<-hzs,uF]
   exact⟨A_,fun j c u hc hu=>vS (hz2 j c u hc A_) w G.R,CH hzr⟩
  have hf:∀(o:Operand)(x:IX),bN o x=true->dF (xg true E x)=true->VR w G.R (xg true E x) (a.eval o):=fun o x hx hi=>by
   have:=BR.aQ h hx
   generalize xg true E x=av at hi this
   cases av<;>first|exact this|grind [dF]
  obtain⟨us,h1,h2⟩:=rU h hf (fun i=>some (i*sz,sz)) qs.toList ps z ds _ ⟨hl,fun j q p hq hp'=>A_⟩ dv hfl
  obtain⟨G1,h3,h4⟩:=h.N6 (t:=e) (c:=us) (cs:=views ds) hd (.inr ⟨m,m,rfl,rfl⟩) (fun G' w' o hp=>nw (h2.mono fun _ _ hv=>hp.vr h.bc hv)) h2.2.2.views
  intro pos after gd next Q hn
  refine aX ?_ (hn G1 _ _ _ h3 h4 (hk w.heap.size (h.store.get_none h.bc)))
  by_cases hm0:m*sz=0
  ·have hm:m=0:=by
    rcases Nat.mul_eq_zero.1 hm0 with h|h
    ·exact h
    ·omega
   subst hm
   simp only[Nat.zero_mul]at h1
   have:(Array.range 0).map (zv.cells[·% zv.cells.size]!)= #[]:=BY
   rw[this]at h1
   have hr0:Array.map (fun _:Nat=>(default:Value)) (Array.range 0)= #[]:=by apply Array.ext';simp
   simp[execOp,Instr.buildSlice,run_underlying ht,run_sizeOf hs,hr0,h1,newRow]
  ·have h24:¬(16777216<m*sz):=AT
   simp[execOp,Instr.buildSlice,run_underlying ht,run_sizeOf hs,h24,hm0,zeroValue,typeInfo,hi,hzv,h1,newRow]
end
section
variable{P:Program}{G G':Gh}{n:Nat}{D:List Deferred}{E:St}{a:Act}{w w':World}
theorem As(cs:List AV)(k:Nat):setAt cs k []=cs:=by simp[setAt]
theorem pG{s:ae}{b:Nat}{o:SO}(h:s b=some o):s.set b o=s:=q_
def Ao{sz b off cap:Nat}{o:Option SO}(h:xw sz b off cap o):∃cs,o=some (.cells cs)/\off+cap*sz<=cs.length:=by
 unfold xw at h
 grind
def uG{e:TypeId}{z:List AV}(hz:pK P e z=true):∃v:Value,(∀w,(zeroValue e).run P w=.ok v w)/\(∃i,P.info? e=some i/\i.zero=some v/\i.size=z.length)/\∀(q:Nat),(Builtin.zeroCells v.cells q).toList.length=q*z.length/\(List.replicate q z).flatten.length=q*z.length/\
 (∀(j:Nat)(x:AV)(y:Value),(List.replicate q z).flatten[j]? =some x->(Builtin.zeroCells v.cells q).toList[j]? =some y->cR y x=true)/\Fl (List.replicate q z).flatten/\(∀y∈(Builtin.zeroCells v.cells q).toList,y.oneCell'=true):=by
 obtain⟨i,v,h1,h2,h3,h4,h5⟩:=vm hz
 refine⟨v,fun w=>by simp[zeroValue,typeInfo,h1,h2],⟨i,h1,h2,h3⟩,fun q=>?_⟩
 have e0:Builtin.zeroCells v.cells q=((List.replicate q v.cells.toList).flatten).toArray:=uF v.cells q
 rw[e0]
 have h4:=h4 default fun _=>0
 have hlz:=by simpa using h4.1
 have IK:∀y∈v.cells.toList,y.oneCell'=true:=by
  intro y hy
  obtain⟨j,hj⟩:=List.mem_iff_getElem?.1 hy
  have hlt:j<z.length:=A_
  exact ji (h4.2.2 _ (List.getElem_mem hlt)) (h4.2.1 j _ y (List.getElem?_eq_getElem hlt) A_)
 have hlen:∀α(l:List α),(List.replicate q l).flatten.length=q*l.length:=fun α l=>BY
 refine⟨A_,hlen _ z,?_,?_,?_⟩
 ·clear e0 hlen
  induction q with
  |zero=>grind
  |succ q ih=>grind
 ·intro x hx
  simp[List.mem_flatten,List.mem_replicate]at hx
  obtain⟨l,⟨_,rfl⟩,hm⟩:=hx
  exact h4.2.2 x hm
 simp_all
theorem KJ(h:Inv G n D E a w){op:Op}{ty:TypeId}{sz by':Nat}{z:List AV}{x y:IX}{d:Option Nat}{K:St->Prop}(hd:bq n d=true)(hc:aw P op ty (.nU sz by' z x y)=true)(hw:ju P (.nU sz by' z x y) d E K):pM P G n D w a op ty d K:=by
 cases op<;>first|(simp[aw]at hc;done)|skip
 rename_i c
 simp only[aw]at hc
 split at hc<;>try(cases hc;done)
 rename_i u v t t' hb
 have hce:=qm hb
 subst hce
 simp only[Bool.and_eq_true]at hc
 obtain⟨⟨hu,hv⟩,hc⟩:=hc
 split at hc<;>try(cases hc;done)
 rename_i e ht
 have ht:=de ht
 simp only[Bool.and_eq_true]at hc
 obtain⟨⟨⟨⟨⟨⟨hs,hby⟩,jW⟩,yj⟩,hzl⟩,hzi⟩,ht'⟩:=hc
 obtain⟨i,hi,qR⟩:=lx hs
 obtain⟨zv,_,⟨i1,hi1,hz,hz1⟩,XM⟩:=uG hzi
 rw[hi]at hi1;injection hi1 with hi1;subst hi1
 have jW:=of_decide_eq_true jW
 have yj:=of_decide_eq_true yj
 have hby:i.bytes=by':=by
  unfold lE at hby
  rw[hi]at hby
  simpa using hby
 have ht2:(∃e',P.underlying t'=some (.slice e'))\/P.underlying t'=some .string:=by
  rcases Bool.or_eq_true .. ▸ht' with h|h
  ·grind [cV,de]
  ·grind [zc]
 have hw':eP sz by' z E d K (E.x x) (vM E.s sz (E.x y)):=hw
 have hbx:=XR.aQ h hu
 generalize E.x x=xv at hw' hbx
 cases hsv:vM E.s sz (E.x y)with
 |none=>grind [eP]
 |some md=>
 obtain⟨m,ds⟩:=md
 rw[hsv]at hw'
 obtain⟨news,Uc⟩:=Ew (P:=P) h hv hsv
 have eI:=Uc.src
 unfold eP at hw'
 split at hw'<;>try(exact hw'.elim)
 rename_i b off k cap _ _ he0
 injection he0 with he0;injection he0 with e1 e2;subst e1;subst e2
 cases hol:pA E.s sz b off k with
 |none=>rw[hol]at hw';exact hw'.elim
 |some olds=>
 rw[hol]at hw'
 obtain⟨ack,aaw,C6⟩:=hw'
 have hold:k=0/\olds=[]\/∃cs,E.s b=some (.cells cs)/\off+k*sz<=cs.length/\olds=views (AB.sub cs off (k*sz)):=by
  unfold pA at hol
  by_cases hk:k=0
  ·grind
  ·rw[show(k==0)=false by grind]at hol
   cases hca:jU k sz off (E.s b)with
   |none=>grind
   |some q=>grind [q1,q2,rP]
 by_cases dE:k+m<=cap
 ·rcases aaw dE with⟨rfl,hk⟩|⟨cg,hk⟩
  ·have vY:news=[]:=List.eq_nil_of_length_eq_zero ψ
   subst vY
   intro pos after gd next Q hn
   refine aX (w':=w) (v:=a.eval u) ?_ (hn G _ _ _ (h.L5 hd rfl hbx rfl) (aI.refl G w) hk)
   rcases VR.cK hbx with e1|⟨rfl,rfl,e1⟩
   ·have bU:=jd (ty:=ty) (w:=w) ht ht2 hi qR eI (b:=b) (off:=off) (k:=k) (cap:=cap) dE (w':=w) rfl
    simp only[Nat.add_zero]at bU
    simp[execOp,resolve,invoke,builtin,e1,bU]
   ·have bU:=ov (ty:=ty) ht ht2 hi qR eI
    simp[execOp,resolve,invoke,builtin,e1,bU]
  ·obtain⟨cs,hsb,TW⟩:=Ao cg
   rw[hsb]at hk
   have hk':K ({E with s:=E.s.set b (.cells (setAt cs (off+k*sz) ds))}.put d (.arr b off (k+m) cap)):=hk
   obtain⟨_,_,c,et,hcb,hcr,hcf⟩:=h.store b _ hsb
   have hmul:off+k*sz+m*sz<=cs.length:=by
    rw[Nat.add_assoc,<-Nat.add_mul]
    exact Nat.le_trans (Nat.add_le_add_left (Nat.mul_le_mul_right _ dE) _) TW
   by_cases hm:m=0
   ·subst hm
    have vY:news=[]:=List.eq_nil_of_length_eq_zero ψ
    have hds:ds=[]:=List.eq_nil_of_length_eq_zero o_
    subst vY;subst hds
    rw[As,pG hsb,Nat.add_zero]at hk'
    intro pos after gd next Q hn
    refine aX (w':=w) (v:=a.eval u) ?_ (hn G _ _ _ (h.L5 hd rfl hbx rfl) (aI.refl G w) hk')
    rcases VR.cK hbx with e1|⟨rfl,rfl,e1⟩
    ·have bU:=jd (ty:=ty) (w:=w) ht ht2 hi qR eI (b:=b) (off:=off) (k:=k) (cap:=cap) dE (w':=w) rfl
     simp only[Nat.add_zero]at bU
     simp[execOp,resolve,invoke,builtin,e1,bU]
    ·have bU:=ov (ty:=ty) ht ht2 hi qR eI
     simp[execOp,resolve,invoke,builtin,e1,bU]
   ·have e1:=VR.pW hbx AT
    obtain⟨h2,hp2⟩:=h.xx (off:=off+k*sz) (ds:=ds) (news:=news) hsb hcb (by rw[eI.len,eI.qt]) (by rw[eI.qt];exact hmul) eI.fl Uc.vw eI.lV
    have agt:off+k*sz+news.length<=c.size:=by rw[eI.len,hcr.1];exact hmul
    have ez:=dJ (P:=P) b (off+k*sz) et (0,0) news 0 c w hcb (fun j _ hj=>Lg) A_ eI.one
    have bU:=jd (ty:=ty) (w:=w) ht ht2 hi qR eI (b:=b) (off:=off) (k:=k) (cap:=cap) dE (w':=w.setRow b (laid c (off+k*sz) news)) ξ
    intro pos after gd next Q hn
    refine aX ?_ (hn G _ _ _ (h2.L5 hd rfl (.arr b off (k+m) cap) rfl) hp2 hk')
    simp[execOp,resolve,invoke,builtin,e1,bU]
 ·have hgr:cap<k+m:=AT
  obtain⟨cg,hk⟩:=C6 hgr
  have grow:∀(base:Option Addr)(us:List Value),a.eval u=.slice base k cap->us.length=k*sz->olds.length=k*sz->Fl olds->views olds=olds->
   (Builtin.firstCells sz k (.slice base k cap)).run P w.drew=.ok us.toArray w.drew->(∀(j:Nat)(c:AV)(u:Value),olds[j]? =some c->us[j]? =some u->VR w G.R c u)->
   pM P G n D w a (.call {callee:=.builtin .append,args:= #[u,v],argTypes:= #[t,t']}) ty d K:=by
   intro base us e1 hul acf hof hov hfc tL
   have bU:=ss (ty:=ty) ht ht2 hi hz qR eI hfc hgr A_ A_
   have hge:k+m<=grownCap w (k+m) cap e:=grownCap_ge w (k+m) cap e
   obtain⟨zz1,zz2,zz3,zz4,_⟩:=XM (grownCap w (k+m) cap e -(k+m))
   obtain⟨G2,h3,h4⟩:=(h.drew).N6 (t:=e) (c:=us.toArray++news.toArray++Builtin.zeroCells zv.cells (grownCap w (k+m) cap e -(k+m)))
    (cs:=olds++ds++(List.replicate (grownCap w (k+m) cap e -(k+m)) z).flatten) (d:=d) hd (.inr ⟨k+m,grownCap w (k+m) cap e,rfl,rfl⟩)
    (fun G' w' o hp=>by
      have hl1:=eI.len
      have hl2:=eI.qt
      refine⟨A_,fun j x y hx hy=>?_⟩
      have yS:∀(l:List AV)(q:Nat),views l=l->l[q]? =some x->dI G' w' (o j) x y:=by
       intro l q hvl hq
       rw[<-hvl,fx]at hq
       cases hz':l[q]? with
       |none=>grind
       |some x'=>grind [dI.view]
      by_cases hj1:j<olds.length
      ·rw[List.append_assoc,List.getElem?_append_left hj1]at hx
       rw[Array.append_assoc,Array.getElem?_append_left C_]at hy
       exact⟨hp.vr h.drew.bc ((aI.drew G w).vr h.bc (tL j x y hx A_)),yS _ _ hov hx⟩
      ·by_cases hj2:j<olds.length+ds.length
       ·rw[List.getElem?_append_left C_,List.getElem?_append_right AT]at hx
        rw[Array.getElem?_append_left C_,Array.getElem?_append_right C_]at hy
        simp only[List.size_toArray,List.getElem?_toArray]at hy
        rw[hul,<-acf]at hy
        exact⟨hp.vr h.drew.bc ((aI.drew G w).vr h.bc (eI.lV _ x y hx hy)),yS _ _ Uc.vw hx⟩
       grind [List.getElem?_append_right,Array.getElem?_append_right,List.length_append,vS,CG])
    (fun c hc=>by
      rcases List.mem_append.1 hc with hc|hc
      ·rcases List.mem_append.1 hc with hc|hc
       ·exact hof c hc
       ·exact eI.fl c hc
      ·exact zz4 c hc)
   intro pos after gd next Q hn
   refine aX ?_ (hn G2 _ _ _ h3 ((aI.drew G w).trans h4) (hk _ _ (h.store.get_none h.bc) hge))
   simp[execOp,resolve,invoke,builtin,e1,bU]
  rcases VR.cK hbx with e1|⟨rfl,rfl,e1⟩
  ·rcases hold with⟨rfl,rfl⟩|⟨cs,hsb,hle,rfl⟩
   ·exact grow _ [] e1 BY BY Fl.nil rfl (run_firstCells_some w.drew sz 0 ⟨b,off,none⟩ 0 cap [] BY (fun j v hj=>Lg)) (fun j c u hc=>NK)
   ·have hat:=h.store.at hsb hle
    obtain⟨us,u1,u2,u3⟩:=hat.lV
    have hfl:Fl (views (AB.sub cs off (k*sz))):=l7
    have hlen:(views (AB.sub cs off (k*sz))).length=k*sz:=by simp only[views,List.length_map];exact kM hle
    exact grow _ us e1 ζ hlen hfl (qi _) (run_firstCells_some w.drew sz k ⟨b,off,none⟩ k cap us ζ u2) u3
  ·rcases hold with⟨_,rfl⟩|⟨cs,hsb,hle,rfl⟩
   ·exact grow none [] e1 BY BY Fl.nil rfl d_ (fun j c u hc=>NK)
   ·have:views (AB.sub cs off (0*sz))=[]:=by simp[AB.sub,views]
    rw[this]at grow
    exact grow none [] e1 BY BY Fl.nil rfl d_ (fun j c u hc=>NK)
def FZ{t t' ty e:TypeId}{i:TypeInfo}{z:Value}{sz m:Nat}{k':IntKind}(ht:P.underlying t=some (.slice e))(ht':P.underlying t'=some (.int k'))(hi:P.info? e=some i)(hz:i.zero=some z)(hsz:i.size=sz)(amG:0<sz){c:Int}(hc0:0<=c)(hm:c.toNat=m){base:Option Addr}{k cap:Nat}{olds:List Value}
 (hold:(Builtin.firstCells sz k (.slice base k cap)).run P w.drew=.ok olds.toArray w.drew)(cg:cap<k+m)(C3:(k+m)*i.bytes<=room)(hb0:0<i.bytes):
 (Builtin.append_ #[t,t'] ty #[.slice base k cap,.int .i64 c]).run P w=.ok (.slice (some ⟨w.heap.size,0,none⟩) (k+m) (grownCap w (k+m) cap e))
   (w.drew.alloc (.cells (olds.toArray++Builtin.zeroCells z.cells m++Builtin.zeroCells z.cells (grownCap w (k+m) cap e -(k+m))) e)):=by
 subst hsz
 subst hm
 have h3:¬(k+c.toNat<=cap):=AT
 have h4:¬(281474976710656<Builtin.nextslicecap (k+c.toNat) cap*i.bytes):=by have:=growslice_fits cg C3;omega
 have h5:k+c.toNat<=(k+c.toNat)*i.bytes:=Nat.le_mul_of_pos_right _ hb0
 have XC:=C3
 unfold room at XC
 have hcb:c<=140737488355328:=AT
 have h6:¬((9223372036854775807:Int)<(k:Int)+(c.toNat:Int)):=AT
 have h6':¬((9223372036854775807:Int)<(k:Int)+c):=AT
 have agh:¬((9223372036854775807:Int)<(k:Int)+max c 0):=AT
 have hw:IntKind.i64.wrap c=c:=AA hc0 AT
 have h7:¬(c<0):=AT
 have h8:¬((281474976710656:Int)<c*(i.bytes:Int)):=by
  have h9:c.toNat*i.bytes<=(k+c.toNat)*i.bytes:=Nat.mul_le_mul_right _ AT
  have h10:((c.toNat*i.bytes:Nat):Int)=c*(i.bytes:Int):=by rw[Int.natCast_mul,Int.toNat_of_nonneg hc0]
  omega
 by_cases hc1:c.toNat=0
 ·have:Builtin.zeroCells z.cells c.toNat= #[]:=by rw[hc1];simp[Builtin.zeroCells]
  have hm0:c.toNat*i.size=0:=by rw[hc1,Nat.zero_mul]
  simp[Builtin.append_,run_underlying ht,run_underlying ht',sizeOf,typeInfo,zeroValue,hi,hz,asInt,asIntOf,hw,h7,h8,h3,h4,h6,h6',agh,hm0,Question.forced,hold,newRow,grownCap,this]<;>
   (congr 2;apply Array.ext';simp[List.append_assoc])
 ·have hm0:¬(c.toNat*i.size=0):=by
   intro e
   rcases Nat.mul_eq_zero.1 e with e|e<;>omega
  simp[Builtin.append_,run_underlying ht,run_underlying ht',sizeOf,typeInfo,zeroValue,hi,hz,asInt,asIntOf,hw,h7,h8,h3,h4,h6,h6',agh,hm0,Question.forced,hold,newRow,grownCap]<;>
   (congr 2;apply Array.ext';simp[List.append_assoc])
theorem KM(h:Inv G n D E a w){op:Op}{ty:TypeId}{sz by':Nat}{z:List AV}{x y:IX}{d:Option Nat}{K:St->Prop}(hd:bq n d=true)(hc:aw P op ty (.pU sz by' z x y)=true)(hw:ju P (.pU sz by' z x y) d E K):pM P G n D w a op ty d K:=by
 cases op<;>first|(simp[aw]at hc;done)|skip
 rename_i c
 simp only[aw]at hc
 split at hc<;>try(cases hc;done)
 rename_i u v t t' hb
 have hce:=qm hb
 subst hce
 simp only[Bool.and_eq_true]at hc
 obtain⟨⟨⟨hu,hv⟩,ht'⟩,hc⟩:=hc
 obtain⟨k',ht2⟩:=XW ht'
 split at hc<;>try(cases hc;done)
 rename_i e ht
 have ht:=de ht
 simp only[Bool.and_eq_true]at hc
 obtain⟨⟨⟨⟨hs,hby⟩,jW⟩,yj⟩,hzi⟩:=hc
 obtain⟨i,hi,qR⟩:=lx hs
 obtain⟨zv,_,⟨i1,hi1,hz,hz1⟩,XM⟩:=uG hzi
 rw[hi]at hi1;injection hi1 with hi1;subst hi1
 have jW:=of_decide_eq_true jW
 have yj:=of_decide_eq_true yj
 have hby:i.bytes=by':=by
  unfold lE at hby
  rw[hi]at hby
  simpa using hby
 have hw':xM sz by' z E d K (E.x x) (xg true E y):=hw
 have hbx:=XR.aQ h hu
 have hbv:=BR.aQ h hv
 generalize E.x x=xv at hw' hbx
 generalize xg true E y=yv at hw' hbv
 unfold xM at hw'
 split at hw'<;>try(exact hw'.elim)
 rename_i b off k cap q
 obtain⟨hq0,hgr,hvz,hw'⟩:=hw'
 have ev:=VR.b9 hbv
 generalize hm:q.toNat=m at hw' hgr
 obtain⟨zm1,zm2,zm3,zm4,zm5⟩:=XM m
 cases hol:pA E.s sz b off k with
 |none=>rw[hol]at hw';exact hw'.elim
 |some olds=>
 rw[hol]at hw'
 obtain⟨ack,aaw,C6⟩:=hw'
 have hold:k=0/\olds=[]\/∃cs,E.s b=some (.cells cs)/\off+k*sz<=cs.length/\olds=views (AB.sub cs off (k*sz)):=by
  unfold pA at hol
  by_cases hk:k=0
  ·grind
  ·rw[show(k==0)=false by grind]at hol
   cases hca:jU k sz off (E.s b)with
   |none=>grind
   |some q=>grind [q1,q2,rP]
 obtain⟨cg,hk⟩:=C6 hgr
 obtain⟨ds,hds⟩:∃ds,ds=(List.replicate m z).flatten:=⟨_,rfl⟩
 obtain⟨news,vY⟩:∃news,news=(Builtin.zeroCells zv.cells m).toList:=⟨_,rfl⟩
 have amH:views ds=ds:=by
  rw[hds];unfold views at hvz⊢
  rw[List.map_flatten,List.map_replicate,hvz]
 rw[<-hds]at hk
 have grow:∀(base:Option Addr)(us:List Value),a.eval u=.slice base k cap->us.length=k*sz->olds.length=k*sz->Fl olds->views olds=olds->
  (Builtin.firstCells sz k (.slice base k cap)).run P w.drew=.ok us.toArray w.drew->(∀(j:Nat)(c:AV)(u:Value),olds[j]? =some c->us[j]? =some u->VR w G.R c u)->
  pM P G n D w a (.call {callee:=.builtin .append,args:= #[u,v],argTypes:= #[t,t']}) ty d K:=by
  intro base us e1 hul acf hof hov hfc tL
  have bU:=FZ (ty:=ty) ht ht2 hi hz qR jW hq0 hm hfc hgr A_ A_
  have hge:k+m<=grownCap w (k+m) cap e:=grownCap_ge w (k+m) cap e
  obtain⟨zz1,zz2,zz3,zz4,_⟩:=XM (grownCap w (k+m) cap e -(k+m))
  obtain⟨G2,h3,h4⟩:=(h.drew).N6 (t:=e) (c:=us.toArray++Builtin.zeroCells zv.cells m++Builtin.zeroCells zv.cells (grownCap w (k+m) cap e -(k+m)))
   (cs:=olds++ds++(List.replicate (grownCap w (k+m) cap e -(k+m)) z).flatten) (d:=d) hd (.inr ⟨k+m,grownCap w (k+m) cap e,rfl,rfl⟩)
   (fun G' w' o hp=>by
     have hl1:news.length=m*sz:=by rw[vY,zm1,ack]
     have hl2:ds.length=m*sz:=by rw[hds,zm2,ack]
     have hna:Builtin.zeroCells zv.cells m=news.toArray:=by rw[vY]
     rw[hna]
     refine⟨A_,fun j x y hx hy=>?_⟩
     have yS:∀(l:List AV)(q:Nat),views l=l->l[q]? =some x->dI G' w' (o j) x y:=by
      intro l q hvl hq
      rw[<-hvl,fx]at hq
      cases hz':l[q]? with
      |none=>grind
      |some x'=>grind [dI.view]
     by_cases hj1:j<olds.length
     ·rw[List.append_assoc,List.getElem?_append_left hj1]at hx
      rw[Array.append_assoc,Array.getElem?_append_left C_]at hy
      exact⟨hp.vr h.drew.bc ((aI.drew G w).vr h.bc (tL j x y hx A_)),yS _ _ hov hx⟩
     grind [List.getElem?_append_left,List.getElem?_append_right,Array.getElem?_append_left,Array.getElem?_append_right,List.size_toArray,aI.drew,vS,List.length_append,CG])
   (fun c hc=>by
     rcases List.mem_append.1 hc with hc|hc
     ·rcases List.mem_append.1 hc with hc|hc
      ·exact hof c hc
      ·exact zm4 c A_
     ·exact zz4 c hc)
  intro pos after gd next Q hn
  refine aX ?_ (hn G2 _ _ _ h3 ((aI.drew G w).trans h4) (hk _ _ (h.store.get_none h.bc) hge))
  simp[execOp,resolve,invoke,builtin,e1,ev,bU]
 rcases VR.cK hbx with e1|⟨rfl,rfl,e1⟩
 ·rcases hold with⟨rfl,rfl⟩|⟨cs,hsb,hle,rfl⟩
  ·exact grow _ [] e1 BY BY Fl.nil rfl (run_firstCells_some w.drew sz 0 ⟨b,off,none⟩ 0 cap [] BY (fun j v hj=>Lg)) (fun j c u hc=>NK)
  ·have hat:=h.store.at hsb hle
   obtain⟨us,u1,u2,u3⟩:=hat.lV
   have hfl:Fl (views (AB.sub cs off (k*sz))):=l7
   have hlen:(views (AB.sub cs off (k*sz))).length=k*sz:=by simp only[views,List.length_map];exact kM hle
   exact grow _ us e1 ζ hlen hfl (qi _) (run_firstCells_some w.drew sz k ⟨b,off,none⟩ k cap us ζ u2) u3
 ·rcases hold with⟨_,rfl⟩|⟨cs,hsb,hle,rfl⟩
  ·exact grow none [] e1 BY BY Fl.nil rfl d_ (fun j c u hc=>NK)
  ·have:views (AB.sub cs off (0*sz))=[]:=by simp[AB.sub,views]
   rw[this]at grow
   exact grow none [] e1 BY BY Fl.nil rfl d_ (fun j c u hc=>NK)
end
section
variable{P:Program}{G G':Gh}{n:Nat}{D:List Deferred}{E:St}{a:Act}{w w':World}
def y8{t t' ty e:TypeId}(ht:P.underlying t=some (.slice e)){sz m k cap:Nat}(hs:df P e sz=true){R:Nat->Nat}{ds:List AV}{v:Value}{news:List Value}(h:vo P w R sz m ds v news){base:Option Addr}{w':World}
 (ez:∀ad,base=some ad->(storeCells ad (news.take (min m k*sz))).run P w=.ok () w')(aas:base=none->w'=w):
 (Builtin.copy_ #[t,t'] ty #[.slice base k cap,v]).run P w=.ok (.int .i64 (min m k:Nat)) w':=by
 have h1:=h.lenOf w
 have h2:=h.first (min m k) (Nat.min_le_left _ _) w rfl
 cases base with
 |none=>
  have:=aas rfl
  subst this
  simp[Builtin.copy_,run_underlying ht,run_sizeOf hs,h1,h2,goInt]
 |some ad=>
  have h3:=ez ad rfl
  simp[Builtin.copy_,run_underlying ht,run_sizeOf hs,h1,h2,h3,goInt]
theorem QR(h:Inv G n D E a w){op:Op}{ty:TypeId}{sz:Nat}{x y:IX}{d:Option Nat}{K:St->Prop}(hd:bq n d=true)(hc:aw P op ty (.AL sz x y)=true)(hw:ju P (.AL sz x y) d E K):pM P G n D w a op ty d K:=by
 cases op<;>first|(simp[aw]at hc;done)|skip
 rename_i c
 simp only[aw]at hc
 split at hc<;>try(cases hc;done)
 rename_i u v t t' hb
 have hce:=qm hb
 subst hce
 simp only[Bool.and_eq_true]at hc
 obtain⟨⟨hu,hv⟩,hc⟩:=hc
 split at hc<;>try(cases hc;done)
 rename_i e ht
 have ht:=de ht
 have hw':zA sz E d K (E.x x) (vM E.s sz (E.x y)):=hw
 have hbx:=XR.aQ h hu
 generalize E.x x=xv at hw' hbx
 cases hsv:vM E.s sz (E.x y)with
 |none=>grind [zA]
 |some md=>
 obtain⟨m,ds⟩:=md
 rw[hsv]at hw'
 obtain⟨news,eI⟩:=Ew (P:=P) h hv hsv
 unfold zA at hw'
 split at hw'<;>try(exact hw'.elim)
 rename_i b off k cap _ _ he0
 injection he0 with he0;injection he0 with e1 e2;subst e1;subst e2
 rcases hw' with⟨yn,hk⟩|⟨cg,hk⟩
 ·intro pos after gd next Q hn
  refine aX (w':=w) (v:=.int .i64 0) ?_ (hn G _ _ _ (h.L5 hd rfl (.int _ _) rfl) (aI.refl G w) hk)
  rcases VR.cK hbx with e1|⟨rfl,rfl,e1⟩
  ·have bU:=y8 (ty:=ty) (t':=t') (w:=w) ht hc eI (base:=some ⟨b,off,none⟩) (k:=k) (cap:=cap) (w':=w) (fun ad _=>by rw[yn];simp;rfl) (fun hh=>by cases hh)
   rw[yn]at bU
   simp[execOp,resolve,invoke,builtin,e1,bU]
  ·have bU:=y8 (ty:=ty) (t':=t') (w:=w) ht hc eI (base:=none) (k:=0) (cap:=0) (w':=w) (fun ad hh=>by cases hh) (fun _=>rfl)
   simp at bU
   simp[execOp,resolve,invoke,builtin,e1,bU]
 ·obtain⟨cs,hsb,dE⟩:=Ao cg
  rw[hsb]at hk
  have hk':K ({E with s:=E.s.set b (.cells (setAt cs off (ds.take (min m k*sz))))}.put d (.int .i64 (min m k:Nat))):=hk
  obtain⟨_,_,c,et,hcb,hcr,hcf⟩:=h.store b _ hsb
  have agw:min m k*sz<=m*sz:=Nat.mul_le_mul_right _ (Nat.min_le_left _ _)
  have amC:min m k*sz<=k*sz:=Nat.mul_le_mul_right _ (Nat.min_le_right _ _)
  have hl1:(ds.take (min m k*sz)).length=min m k*sz:=by simp[eI.qt,agw]
  have hl2:(news.take (min m k*sz)).length=min m k*sz:=by simp[eI.len,agw]
  rcases VR.cK hbx with e1|⟨rfl,rfl,e1⟩
  ·obtain⟨h2,hp2⟩:=h.xx (off:=off) (ds:=ds.take (min m k*sz)) (news:=news.take (min m k*sz)) hsb hcb (by rw[hl1,hl2]) A_ (fun c hc=>eI.fl c (List.mem_of_mem_take hc))
    (by
      have:=eI.vw
      grind [views,List.map_take]) (fun j x y hx hy=>by
      rw[List.getElem?_take]at hx hy
      split at hx
      ·rename_i hj;rw[if_pos hj]at hy;exact eI.lV j x y hx hy
      ·cases hx)
   have agt:off+(news.take (min m k*sz)).length<=c.size:=by rw[hl2,hcr.1];omega
   have ez:=dJ (P:=P) b off et (0,0) (news.take (min m k*sz)) 0 c w hcb (fun j _ hj=>Lg) A_ (fun u hu=>eI.one u (List.mem_of_mem_take hu))
   have bU:=y8 (ty:=ty) (t':=t') (w:=w) ht hc eI (base:=some ⟨b,off,none⟩) (k:=k) (cap:=cap) (w':=w.setRow b (laid c off (news.take (min m k*sz)))) (fun ad had=>ξ) (fun hh=>by cases hh)
   intro pos after gd next Q hn
   refine aX ?_ (hn G _ _ _ (h2.L5 hd rfl (.int _ _) rfl) hp2 hk')
   simp[execOp,resolve,invoke,builtin,e1,bU]
  ·have h0:min m 0=0:=Nat.min_zero m
   rw[h0,Nat.zero_mul,List.take_zero,As,pG hsb]at hk'
   have bU:=y8 (ty:=ty) (t':=t') (w:=w) ht hc eI (base:=none) (k:=0) (cap:=0) (w':=w) (fun ad hh=>by cases hh) (fun _=>rfl)
   intro pos after gd next Q hn
   refine aX (w':=w) ?_ (hn G _ _ _ (h.L5 hd rfl (.int .i64 (0:Nat)) rfl) (aI.refl G w) hk')
   simp at bU
   simp[execOp,resolve,invoke,builtin,e1,bU]
theorem Ni(h:Inv G n D E a w){op:Op}{ty:TypeId}{z:List AV}{x:IX}{d:Option Nat}{K:St->Prop}(hd:bq n d=true)(hc:aw P op ty (.tx z x)=true)(hw:ju P (.tx z x) d E K):pM P G n D w a op ty d K:=by
 cases op<;>first|(simp[aw]at hc;done)|skip
 rename_i c
 simp only[aw]at hc
 split at hc<;>try(cases hc;done)
 rename_i u us t ts hb
 have hce:=qm hb
 subst hce
 simp only[Bool.and_eq_true]at hc
 obtain⟨hu,hc⟩:=hc
 split at hc<;>try(cases hc;done)
 rename_i e ht
 have ht:=de ht
 have hw':xX z E d K (E.x x):=hw
 have hbx:=XR.aQ h hu
 generalize E.x x=xv at hw' hbx
 unfold xX at hw'
 split at hw'<;>try(exact hw'.elim)
 rename_i b off k cap
 obtain⟨v,hv1,_,hv2⟩:=uG hc
 obtain⟨z1,z2,z3',z4,z5⟩:=hv2 k
 have z3:∀(j:Nat)(x:AV)(y:Value),(List.replicate k z).flatten[j]? =some x->(Builtin.zeroCells v.cells k).toList[j]? =some y->VR w G.R x y:=fun j x y hx hy=>vS (z3' j x y hx hy) w G.R
 rcases hw' with⟨hk0,hk⟩|⟨cg,hvw,hk⟩
 ·subst hk0
  intro pos after gd next Q hn
  refine aX (w':=w) (v:=.tuple #[]) ?_ (hn G _ _ _ (h.adi hd) (aI.refl G w) hk)
  rcases VR.cK hbx with e1|⟨_,rfl,e1⟩<;>simp[execOp,resolve,invoke,builtin,e1,Builtin.clear_,run_underlying ht]
 ·obtain⟨cs,hsb,dE⟩:=Ao cg
  rw[hsb]at hk
  have hk':K ({E with s:=E.s.set b (.cells (setAt cs off (List.replicate k z).flatten))}.put d (.iJ [])):=hk
  obtain⟨_,_,c,et,hcb,hcr,hcf⟩:=h.store b _ hsb
  by_cases hk0:k=0
  ·subst hk0
   simp only[List.replicate_zero,List.flatten_nil,As,pG hsb]at hk'
   intro pos after gd next Q hn
   refine aX (w':=w) (v:=.tuple #[]) ?_ (hn G _ _ _ (h.adi hd) (aI.refl G w) hk')
   rcases VR.cK hbx with e1|⟨_,rfl,e1⟩<;>simp[execOp,resolve,invoke,builtin,e1,Builtin.clear_,run_underlying ht]
  ·rcases VR.cK hbx with e1|⟨h0,_,_⟩
   ·obtain⟨h2,hp2⟩:=h.xx (off:=off) (ds:=(List.replicate k z).flatten) (news:=(Builtin.zeroCells v.cells k).toList) hsb hcb (by rw[z1,z2]) A_ z4
     (by grind [views,List.map_replicate]) z3
    have ez:=dJ (P:=P) b off et (0,0) (Builtin.zeroCells v.cells k).toList 0 c w hcb (fun j _ hj=>Lg) (by rw[z1,hcr.1];grind) z5
    have Ud:(storeCells ⟨b,off,none⟩ (Builtin.zeroCells v.cells k).toList).run P w=.ok () (w.setRow b (laid c off (Builtin.zeroCells v.cells k).toList)):=by simpa[laid]using ez
    intro pos after gd next Q hn
    refine aX (v:=.tuple #[]) ?_ (hn G _ _ _ (h2.adi hd) hp2 hk')
    have bU:(Builtin.clear_ (t::ts).toArray ty (Array.map a.eval (u::us).toArray)).run P w=.ok (.tuple #[]) (w.setRow b (laid c off (Builtin.zeroCells v.cells k).toList)):=by
     obtain⟨k',rfl⟩:∃k',k=k'+1:=⟨k -1,AT⟩
     simp[Builtin.clear_,run_underlying ht,e1,hv1,Ud]
    simp[execOp,resolve,invoke,builtin]at bU⊢;simp[bU]
   grind
end
section
variable{P:Program}{G G':Gh}{n:Nat}{D:List Deferred}{E:St}{a:Act}{w w':World}
theorem Inv.frozen(h:Inv G n D E a w){d:Option Nat}(hd:bq n d=true){b off sz k cap:Nat}{cs:List AV}{own:Bool}(hs:E.s b=some (.cells cs))(dE:off+k*sz<=cs.length)(fh:k<=cap)(wW:own=true->off=0/\cs.length=off+cap*sz):
 ∃G',Inv G' n D ({E with s:=E.s.del b}.put d (.sl own sz k (views (AB.sub cs off (k*sz))))) (a.put d (.slice (some ⟨b,off,none⟩) k cap)) w/\aI G w G' w:=by
 obtain⟨q2,q3,c,t,q4,q5,q6⟩:=h.store b _ hs
 let ob:dh:=if own=true then BN d else .none
 let G':=G.pR b ob (off+k*sz)
 have bK:aI G w G' w:=⟨rfl,rfl,rfl,Nat.le_refl _,Nat.le_refl _,fun b' _=>by
  by_cases hb:b'=b
  ·grind
  ·simp[G',hb],fun _ _ _ _=>rfl,fun _ _ _=>rfl,fun b' _ hb'=>by
  have:b'≠b:=fun e=>A_
  simp[G',this,hb'],fun b' _ hb'=>by
  have:b'≠b:=fun e=>A_
  simp[G',this,hb']⟩
 have hlt:b<w.heap.size:=h.bc.lt T_
 have ks:cq G' w:=⟨fun b' hb'=>by
  have:b'≠b:=AT
  simp[G',this,h.bc.jI b' hb'],fun b' hb'=>by
  have:b'≠b:=AT
  simp[G',this,h.bc.jY b' hb']⟩
 have same:∀b',G.O b'≠.sh\/b'≠b->G'.O b'=G.O b'/\G'.R b'=G.R b'/\w.heap[b']? =w.heap[b']? :=fun b' hb'=>by
  have:b'≠b:=by
   rcases hb' with hb'|hb'
   ·grind
   ·exact hb'
  exact⟨by simp[G',this],by simp[G',this],rfl⟩
 have ez:ba G' w (E.s.del b):=by
  intro b' o hb'
  unfold ae.del at hb'
  split at hb'
  ·cases hb'
  ·rename_i hne
   obtain⟨r1,r2,r3⟩:=h.store b' o hb'
   refine⟨(same b' (.inr hne)).1.trans r1,(same b' (.inr hne)).2.1.trans r2,?_⟩
   cases o with
   |cells cs'=>
    obtain⟨c',t',r4,r5,r6⟩:=r3
    exact⟨c',t',r4,r5.mono (fun _ _ hv=>bK.vr h.bc hv) (fun b'' j vB=>A_),r6⟩
   |map es=>
    obtain⟨jV,clock,r4,r5,r6⟩:=r3
    exact⟨jV,clock,r4,r5,fun j x y hx hy=>⟨bK.vr h.bc (r6 j x y hx hy).1,bK.vr h.bc (r6 j x y hx hy).2⟩⟩
 have hat:=h.store.at hs dE
 obtain⟨u,u1,u2,u3⟩:=hat
 have hlen:(views (AB.sub cs off (k*sz))).length=k*sz:=by simp only[views,List.length_map];exact kM dE
 have:=h.put (s':=E.s.del b) (lp':=E.lp) d (fun i hi=>IF) (.sl own sz k (views (AB.sub cs off (k*sz)))) (.slice (some ⟨b,off,none⟩) k cap) ks bK ez (fun _ hx=>hx) (fun i t _ ht=>ht.elim) (fun i t _⟨cs',zJ⟩=>by cases zJ)
  (fun i b' _ hb'=>same b' (.inl A_))
  (fun i b' c' j _ _ hc'=>A_)
  (fun i hi=>by
    subst hi
    refine⟨.sl own sz k _ b off cap u u3 hlen (by rw[hlen];simp[G']) fh u1 (fun j x hj=>bK.vr h.bc (u2 j x hj)),?_⟩
    cases own with
    |false=>trivial
    |true=>
     intro base m' cQ hv _
     injection hv with e1 e2 e3
     subst e3
     exact⟨b,off,c,t,(0,0),e1.symm,by simp[G',ob,BN],by simp[G'],q4,by rw[q5.1,(wW rfl).2],fun j _ hj=>Lg,Nat.le_refl _,(wW rfl).1,.inl rfl,fun j y _ hy=>by
      have hlt:j<cs.length:=by rw[<-q5.1];exact(Array.getElem?_eq_some_iff.1 hy).1
      exact rj (q6 _ (List.getElem_mem hlt)) (q5.2 j _ y (List.getElem?_eq_getElem hlt) hy).1⟩)
 exact⟨G',Xc3,bK⟩
def Inv.TH(h:Inv G n D E a w){sz:Nat}{own:Bool}{d:Option Nat}{K:St->Prop}(hd:bq n d=true){xv:AV}{v:Value}(hbx:dF xv=true->VR w G.R xv v)(hw':yg sz own E d K xv):∃(G':Gh)(E':St),Inv G' n D E' (a.put d v) w/\aI G w G' w/\K E':=by
 unfold yg at hw'
 split at hw'<;>try(exact hw'.elim)
 rename_i b off k cap
 replace hbx:=hbx rfl
 have empty:k=0->cap=0->off=0\/v=.slice none 0 0->Inv G n D (E.put d (.sl own sz 0 [])) (a.put d (v)) w:=by
  intro hk0 hc0 akt
  subst hk0;subst hc0
  have hvr:VR w G.R (.sl own sz 0 []) (v):=by
   rcases VR.cK hbx with e1|⟨_,_,e1⟩
   ·rcases akt with rfl|e2
    ·rw[e1];exact .sl own sz 0 [] b 0 0 (fun _=>undef) Fl.nil BY BY (Nat.le_refl _) (fun j c hj=>A_) (fun j c hj=>A_)
    grind
   ·rw[e1];exact .slnil _ _
  have:=h.put d (fun i hi=>IF) (.sl own sz 0 []) (v) h.bc (aI.refl G w) h.store (fun _ hx=>hx) (fun i t _ ht=>ht.elim) (fun i t _⟨cs,hcs⟩=>A_)
   (fun _ _ _ _=>⟨rfl,rfl,rfl⟩) (fun _ _ _ _ _ _ hcc=>⟨hcc,rfl,rfl⟩) (fun i hdi=>by
     refine⟨hvr,?_⟩
     cases own with
     |false=>trivial
     |true=>
      intro base m' cQ hv hc'
      rcases VR.cK hbx with e1|⟨_,_,e1⟩<;>rw[e1]at hv<;>injection hv with _ e2 e3<;>omega)
  cases d<;>exact this
 rcases hw' with⟨rfl,rfl,rfl,hk⟩|⟨jW,fh,wW,hk⟩
 ·exact⟨G,_,empty rfl rfl (.inl rfl),aI.refl G w,hk⟩
 ·cases hca:jU k sz off (E.s b)with
  |none=>rw[hca]at hk;exact hk.elim
  |some q=>
   obtain⟨q1,q2⟩:=q
   rw[hca]at hk
   obtain⟨cs,e1,e2,rfl,rfl⟩:=rP hca
   have Pu:own=true->off=0/\cs.length=off+cap*sz:=fun ho=>by
    have:=(wW ho).2.2
    rw[e1]at this
    exact⟨(wW ho).1,this⟩
   obtain⟨G',h1,h2⟩:=h.frozen hd e1 e2 fh Pu
   have e3:=VR.pW hbx jW
   exact⟨G',_,A_,h2,hk⟩
theorem Xj(h:Inv G n D E a w){op:Op}{ty:TypeId}{sz:Nat}{own:Bool}{x:IX}{d:Option Nat}{K:St->Prop}(hd:bq n d=true)(hc:aw P op ty (.WD sz own x)=true)(hw:ju P (.WD sz own x) d E K):pM P G n D w a op ty d K:=by
 have key:∀y,bN y x=true->∃(G':Gh)(E':St),Inv G' n D E' (a.put d (a.eval y)) w/\aI G w G' w/\K E':=by
  intro y hy
  have hbx:=XR.aQ h hy
  have hw':yg sz own E d (fun τ=>K (Xs x d τ)) (E.x x):=hw
  have hne:∀i,x=.t i->look E.e i≠.undef:=fun i e e2=>by
   subst e
   have e3:E.x (.t i)=.undef:=e2
   rw[e3]at hw';exact hw'
  generalize E.x x=xv at hw' hbx
  obtain⟨G',E',h1,h2,hk⟩:=h.TH hd (v:=a.eval y) (fun hi=>by cases xv<;>first|exact hbx|grind [dF]) hw'
  refine⟨G',_,?_,h2,hk⟩
  unfold Xs
  split
  ·rename_i i j
   split
   ·rename_i o z m cs he
    obtain rfl:=Kq hy
    have hj:j<n:=h1.Dz (by rw[he];simp)
    have hsz:a.tmps.size=n:=h.size
    have hlj:(a.put (some j) (a.eval (.tmp i))).tmps[j]? =some (a.eval (.tmp i)):=by simp[Act.put,hsz,hj]
    have hv:=(h1.cH j _ hlj)
    rw[he]at hv
    refine h1.L9 i (h.Dz (hne i rfl)) _ (fun t ht=>ht) (fun cs' e=>f_) fun v hv'=>?_
    have hve:v=a.eval (.tmp i):=by
     by_cases hij:j=i
     ·grind
     ·simp only[Act.put,Array.getElem?_setIfInBounds_ne hij]at hv'
      show v=a.tmps.getD i undef
      simp_all
    rw[hve]
    exact⟨hv.1.view,trivial⟩
   ·exact h1
  ·exact h1
 intro pos after g next Q hn
 cases op<;>first|(simp[aw]at hc;done)|skip
 all_goals
  rename_i y
  obtain⟨G',E',h1,h2,hk⟩:=key y hc
  exact aX rfl (hn G' _ _ _ h1 h2 hk)
theorem QT(h:Inv G n D E a w){op:Op}{ty:TypeId}{sz:Nat}{own:Bool}{x:IX}{d:Option Nat}{K:St->Prop}(hd:bq n d=true)(hc:aw P op ty (.A9 sz own x)=true)(hw:ju P (.A9 sz own x) d E K):pM P G n D w a op ty d K:=by
 cases op<;>first|(simp[aw]at hc;done)|skip
 simp[aw,Bool.and_eq_true]at hc
 obtain⟨⟨hs,hm⟩,hy⟩:=hc
 have hb:=BR.aQ h hy
 have hw':NW sz own E d K (rd E (xg true E x) 1):=hw
 cases hr:rd E (xg true E x) 1 with
 |none=>rw[hr]at hw';exact hw'.elim
 |some cs=>
  rw[hr]at hw'
  obtain⟨b,off,e,hl,hat,hvw⟩:=DV h hb hr
  match cs,hl,hw' with
  |[c],hl,⟨hi,hw'⟩=>
   obtain⟨v,bU,hvr⟩:=qu hs hm rfl hl hat
   obtain⟨G',E',h1,h2,hk⟩:=h.TH hd (fun _=>hvr) hw'
   intro pos after g next Q hn
   exact aX (by simp[execOp,e,Instr.loadAt,Instr.sureAddr,bU]) (hn G' _ _ _ h1 h2 hk)
def Em(h:Inv G n D E a w)(bl off:Nat)(T:dh)(hT:T≠.sh/\(∀i,T≠.loc i)/\(∀i j,T≠.cell i j)):
 cq (G.ib (.cell bl off) T) w/\aI G w (G.ib (.cell bl off) T) w/\(∀b,G.O b≠.cell bl off->(G.ib (.cell bl off) T).O b=G.O b):=by
 have hne:∀b,G.O b≠.cell bl off->(G.ib (.cell bl off) T).O b=G.O b:=fun b hb=>H_
 exact⟨⟨fun b hb=>by rw[hne b (by rw[h.bc.jI b hb];simp),h.bc.jI b hb],h.bc.jY⟩,
  ⟨rfl,rfl,rfl,Nat.le_refl _,Nat.le_refl _,fun _ _=>Nat.le_refl _,fun _ _ _ _=>rfl,fun _ _ _=>rfl,fun b _ hb=>⟨A_,rfl⟩,fun b _ hb=>⟨A_,rfl⟩⟩,hne⟩
def dI.ib{o T:dh}{av:AV}{v:Value}(h:dI G w o av v):dI (G.ib o T) w T av v:=by
 unfold dI at h⊢
 split
 ·intro base m' cap hv hc
  obtain⟨b,off,c,e,fz,q1,q2,q3⟩:=h base m' cap hv hc
  exact⟨b,off,c,e,fz,q1,by simp[q2],q3⟩
 ·intro base m' cap hv hc
  obtain⟨b,off,c,fz,q1,q2,q3⟩:=h base m' cap hv hc
  exact⟨b,off,c,fz,q1,by simp[q2],q3⟩
 ·trivial
def Fi:AV->Bool
 |.sl _ _ _ _=>true
 |.bb _ _ _=>true
 |_=>false
theorem GV{av:AV}(h:Fi av=true):qO (view av)=true:=by cases av<;>first|rfl|(cases h)
theorem dY.take{bl off:Nat}{T:dh}{cs:List AV}{c:Array Value}{av:AV}(h:dY G w (.cell bl) cs c)(hcs:cs[off]? =some av):
 dY (G.ib (.cell bl off) T) w (.cell bl) (setAt cs off [view av]) c:=by
 refine⟨by rw[mH _ _ _ A_];exact h.1,fun j x y hx hy=>?_⟩
 rw[oK _ _ _ _ A_]at hx
 by_cases hj:j=off
 ·subst hj
  rw[if_pos ⟨Nat.le_refl _,BY⟩,Nat.sub_self]at hx
  injection hx with hx;subst hx
  exact⟨(h.2 j _ y hcs hy).1.view,dI.view ..⟩
 ·rw[if_neg A_]at hx
  obtain⟨h1,h2⟩:=h.2 j x y hx hy
  refine⟨h1,h2.mono fun b hb=>⟨?_,rfl,rfl⟩⟩
  simp_all
def loadT:Option Nat->dh
 |some i=>.slot i 0
 |none=>.frame
theorem Gw(h:Inv G n D E a w){op:Op}{ty:TypeId}{x:IX}{d:Option Nat}{K:St->Prop}(hd:bq n d=true)(hc:aw P op ty (.nK x)=true)(hw:ju P (.nK x) d E K):pM P G n D w a op ty d K:=by
 cases op<;>first|(simp[aw]at hc;done)|skip
 rename_i t y
 simp only[aw,Bool.and_eq_true]at hc
 obtain⟨⟨⟨_,hs⟩,hm⟩,hy⟩:=hc
 have hbx:=XR.aQ h hy
 have hw':sf E d K (E.x x):=hw
 have hT:loadT d≠.sh/\(∀i,loadT d≠.loc i)/\(∀i j,loadT d≠.cell i j):=by cases d<;>simp[loadT]
 have bU:∀(b off:Nat)(u:Value),a.eval y=.pointer (some ⟨b,off,none⟩)->w.cell? ⟨b,off,none⟩=some u->∀(pos:String)(after:Array Edge)(g:Option (Nat×Bool)),(execOp a.eval ⟨d,.load t y,ty,pos,after,g⟩).run P w=.ok (.value u) w:=by
  intro b off u e1 e2 pos after g
  have:(loadVar t ⟨b,off,none⟩).run P w=.ok u w:=by simp[loadVar,va hm,e2]
  simp[execOp,e1,Instr.loadAt,Instr.sureAddr,this]
 have ahA:∀{G1:Gh}{σ1:St}{av:AV}{u:Value},Fi av=true->Inv G1 n D σ1 a w->VR w G1.R av u->dI G1 w (loadT d) av u->Inv G1 n D (σ1.put d av) (a.put d u) w:=by
  intro G1 σ1 av u hsl h1 hv ho
  have hiv:dF av=true:=by cases av<;>first|rfl|(cases hsl;done)
  have:=h1.put (s':=σ1.s) (lp':=σ1.lp) d (fun i hi=>IF) av u h1.bc (aI.refl G1 w) h1.store (fun _ hx=>hx) (fun i t _ ht=>(fp hiv t ht).elim) (fun i t _⟨cs,hcs⟩=>(og hiv cs hcs).elim)
   (fun _ _ _ _=>⟨rfl,rfl,rfl⟩) (fun _ _ _ _ _ _ hcc=>⟨hcc,rfl,rfl⟩) (fun i hdi=>by subst hdi;rw[dZ.si hiv];exact⟨hv,ho⟩)
  cases d<;>exact this
 have V5:∀{off:Nat}{cs:List AV}{k:List AV->AV->Prop},kH off cs k->∃av,Fi av=true/\cs[off]? =some av/\k (setAt cs off [view av]) av:=by
  intro off cs k hk
  unfold kH at hk
  split at hk
  ·rename_i ow sz m ds he;exact⟨_,rfl,he,hk⟩
  ·rename_i t m ds he;exact⟨_,rfl,he,hk⟩
  ·exact hk.elim
 have V6:∀{off:Nat}{cs:List AV}{k:List AV->AV->Prop},EG off cs k->∃av,Fi av=true/\cs[off]? =some av/\k (setAt cs off [view av]) av:=by
  intro off cs k hk
  unfold EG at hk
  split at hk
  ·rename_i ow sz m ds he;exact⟨_,rfl,he,hk⟩
  ·exact hk.elim
 generalize E.x x=xv at hw' hbx
 unfold sf at hw'
 split at hw'<;>try(exact hw'.elim)
 ·rename_i b off
  have e1:=VR.gG hbx
  cases hsb:E.s b with
  |none=>grind
  |some so=>
   cases so with
   |map es=>grind
   |cells cs=>
   rw[hsb]at hw'
   obtain⟨av,hsl,hcs,hk⟩:=V5 hw'
   obtain⟨q2,q3,c,et,q4,q5,q6⟩:=h.store b _ hsb
   have hlt:off<cs.length:=(List.getElem?_eq_some_iff.1 hcs).1
   have ace:off<c.size:=by rw[q5.1];exact hlt
   have dG:=Array.getElem?_eq_getElem ace
   obtain⟨hv,ho⟩:=q5.2 off _ _ hcs dG
   obtain⟨g1,g2,hne⟩:=Em h b off (loadT d) hT
   have ez:ba (G.ib (.cell b off) (loadT d)) w (E.s.set b (.cells (setAt cs off [view av]))):=by
    intro b' o hb'
    unfold ae.set at hb'
    by_cases hbg:b'=b
    ·rw[if_pos hbg]at hb';injection hb' with hb';subst hb';subst hbg
     exact⟨A_,q3,c,et,q4,q5.take hcs,Gk.setAt q6 (by intro z hz;grind [List.mem_singleton,GV]) off⟩
    ·rw[if_neg hbg]at hb'
     obtain⟨r1,r2,r3⟩:=h.store b' o hb'
     refine⟨A_,r2,?_⟩
     cases o with
     |cells cs'=>
      obtain⟨c0,t0,r4,r5,r6⟩:=r3
      exact⟨c0,t0,r4,r5.mono (fun _ _ hv=>hv) (fun b'' j vB=>⟨A_,rfl,rfl⟩),r6⟩
     |map es=>exact r3
   have h1:Inv (G.ib (.cell b off) (loadT d)) n D {E with s:=E.s.set b (.cells (setAt cs off [view av]))} a w:=
    ⟨g1,ez,h.size,fun k v hkv=>dZ.frame (G:=G) (G':=G.ib (.cell b off) (loadT d)) (w:=w) (w':=w) (tmps:=a.tmps) (Qh:=a.tmps) (fun _ _ hv=>hv) (fun b' hb'=>⟨hne b' A_,rfl,rfl⟩)
      (fun b' c' j hb' hc'=>⟨A_,rfl,rfl⟩) _ _ (fun d _ cs hcs=>⟨cs,hcs,rfl⟩) (h.cH k v hkv),h.E6,h.MG,h.qL⟩
   intro pos after g next Q hn
   exact aX (bU b off _ e1 (by grind [cell_of_row]) pos after g) (hn _ _ _ _ (ahA hsl h1 hv ho.ib) g2 hk)
 ·rename_i i off
  cases hl:look E.e i<;>rw[hl]at hw'<;>first|exact hw'.elim|skip
  rename_i cs
  obtain⟨hdi,hw'⟩:=hw'
  obtain⟨av,hsl,hcs,hk⟩:=V6 hw'
  obtain⟨b,e1,e2⟩:=hbx
  have htm:=e2 cs hl
  have K7:=h.cH i _ htm
  rw[hl]at K7
  obtain⟨b',c,et,p1,p2,p3,p4,p5,p6⟩:=K7
  injection p1 with p1;injection p1 with p1;injection p1 with p1 _ _
  subst p1
  have hlt:off<cs.length:=(List.getElem?_eq_some_iff.1 hcs).1
  have ace:off<c.size:=by rw[p5.1];exact hlt
  have dG:=Array.getElem?_eq_getElem ace
  obtain⟨hv,ho⟩:=p5.2 off _ _ hcs dG
  obtain⟨g1,g2,hne⟩:=Em h b off (loadT d) hT
  have ez:ba (G.ib (.cell b off) (loadT d)) w E.s:=h.store.mono h.bc g2 (fun b' hb'=>⟨A_,rfl,rfl⟩)
   (fun b' c' j hb' hc'=>⟨A_,rfl,rfl⟩)
  have h1:Inv (G.ib (.cell b off) (loadT d)) n D (E.put (some i) (.loc (setAt cs off [view av]))) a w:=by
   refine⟨g1,ez,h.size,fun k v hkv=>?_,fun k hk'=>?_,fun k d' hk'=>?_,h.qL⟩
   ·by_cases hki:i=k
    ·subst hki
     have:look (E.put (some i) (.loc (setAt cs off [view av]))).e i=.loc (setAt cs off [view av]):=Z_
     rw[this]
     rw[htm]at hkv;injection hkv with hkv;subst hkv
     exact⟨b,c,et,rfl,A_,p3,p4,p5.take hcs,Fl.setAt p6 (by intro z hz;grind [List.mem_singleton,GV]) off⟩
    ·have:look (E.put (some i) (.loc (setAt cs off [view av]))).e k=look E.e k:=by simp[St.put,bj,hki]
     rw[this]
     refine dZ.frame (G:=G) (G':=G.ib (.cell b off) (loadT d)) (w:=w) (w':=w) (tmps:=a.tmps) (Qh:=a.tmps) (fun _ _ hv=>hv) (fun b' hb'=>⟨hne b' A_,rfl,rfl⟩)
      (fun b' c' j hb' hc'=>⟨A_,rfl,rfl⟩) _ _ (fun d' _ cs' zJ=>?_) (h.cH k v hkv)
     by_cases hdi':i=d'
     ·grind
     ·simp only[St.put,bj,hdi',if_false]at zJ
      grind
   ·by_cases hki:i=k
    ·subst hki
     have:=h.E6 i hk'
     grind
    ·simp only[St.put,bj,hki,if_false];exact h.E6 k hk'
   ·by_cases hki:i=k
    ·subst hki
     simp only[St.put,bj,if_true]at hk'
     exact hk'.elim
    ·simp only[St.put,bj,hki,if_false]at hk'
     exact h.MG k d' hk'
  intro pos after g next Q hn
  exact aX (bU b off _ e1 (by grind [cell_of_row]) pos after g) (hn _ _ _ _ (ahA hsl h1 hv ho.ib) g2 hk)
theorem QS(h:Inv G n D E a w){op:Op}{ty:TypeId}{off:Nat}{j x:IX}{d:Option Nat}{K:St->Prop}(hd:bq n d=true)(hc:aw P op ty (.nL off j x)=true)(hw:ju P (.nL off j x) d E K):pM P G n D w a op ty d K:=by
 have hc':aw P op ty (.nK x)=true:=by cases op<;>first|exact hc|(done)
 exact Gw h hd hc' hw.2
theorem Xi(h:Inv G n D E a w){op:Op}{ty:TypeId}{ne:Bool}{x:IX}{d:Option Nat}{K:St->Prop}(hd:bq n d=true)(hc:aw P op ty (.eqN ne x)=true)(hw:ju P (.eqN ne x) d E K):pM P G n D w a op ty d K:=by
 cases op<;>first|(simp[aw]at hc;done)|skip
 rename_i b t u v yt
 simp only[aw,Bool.and_eq_true,decide_eq_true_eq]at hc
 obtain⟨⟨⟨rfl,hx⟩,hy⟩,ht⟩:=hc
 cases hel:cV P t with
 |none=>grind
 |some e=>
 have ht:=de hel
 have e2:a.eval v=.slice none 0 0:=by
  split at hy
  ·rfl
  ·cases hy
 have hbx:=XR.aQ h hx
 have hw':Tu ne E d K (E.x x):=hw
 generalize E.x x=xv at hw' hbx
 have some_:∀(ad:Addr)(l c:Nat),a.eval u=.slice (some ad) l c->K (E.put d (.bool ne))->pM P G n D w a (.binOp (if ne=true then .neq else .eql) t u v yt) ty d K:=by
  intro ad l c e1 hk pos after g next Q hn
  have hr:(Op.equal t (.slice (some ad) l c) (.slice none 0 0)).run P w=.ok false w:=qc 9999 ht ad l c
  refine aX (v:=.bool ne) ?_ (hn G _ _ _ (h.L5 hd rfl (.bool _) rfl) (aI.refl G w) hk)
  cases ne<;>simp[execOp,e1,e2,eqGuard,binOp,hr]
 have none_:a.eval u=.slice none 0 0->K (E.put d (.bool !ne))->pM P G n D w a (.binOp (if ne=true then .neq else .eql) t u v yt) ty d K:=by
  intro e1 hk pos after g next Q hn
  have key:∀q:Nat,(Op.equalIn (q+1) t (.slice none 0 0) (.slice none 0 0)).run P w=.ok true w:=fun q=>by simp[Op.equalIn,run_underlying ht]
  have hr:(Op.equal t (.slice none 0 0) (.slice none 0 0)).run P w=.ok true w:=key 9999
  refine aX (v:=.bool !ne) ?_ (hn G _ _ _ (h.L5 hd rfl (.bool _) rfl) (aI.refl G w) hk)
  cases ne<;>simp[execOp,e1,e2,eqGuard,binOp,hr]
 unfold Tu at hw'
 split at hw'<;>try(exact hw'.elim)
 ·rename_i ow sz m cs
  rcases VR.gR hbx with⟨(e1|⟨_,_,_,e1⟩),rfl,_⟩|⟨b,off,cap,e1,_⟩
  ·grind
  ·grind
  grind
 ·rename_i b off m cap
  rcases VR.cK hbx with e1|⟨_,rfl,e1⟩
  ·grind
  grind
theorem Xl(h:Inv G n D E a w){op:Op}{ty:TypeId}{f:Nat}{x y:IX}{d:Option Nat}{K:St->Prop}(hd:bq n d=true)(hc:aw P op ty (.ovl f x y)=true)(hw:ju P (.ovl f x y) d E K):pM P G n D w a op ty d K:=by
 cases op<;>first|(simp[aw]at hc;done)|skip
 rename_i c
 obtain⟨callee,ys,ats⟩:=c
 simp only[aw]at hc
 split at hc<;>try(cases hc;done)
 rename_i g
 simp only[Bool.and_eq_true,beq_iff_eq]at hc
 obtain⟨rfl,hxs⟩:=hc
 obtain⟨ys⟩:=ys
 have hys:∃u v,ys=[u,v]/\bN u x=true/\bN v y=true:=by
  match ys,hxs with
  |[u,v],hxs=>
   simp only[gZ,Bool.and_eq_true]at hxs
   grind
  |[],hxs=>cases hxs
  |[_],hxs=>simp[gZ]at hxs
  |_::_::_::_,hxs=>simp[gZ]at hxs
 obtain⟨u,v,rfl,hu,hv⟩:=hys
 have hbx:=XR.aQ h hu
 have hby:=XR.aQ h hv
 have hw':Yv P f E d K (E.x x) (E.x y):=hw
 generalize E.x x=xv at hw' hbx
 generalize E.x y=yv at hw' hby
 unfold Yv at hw'
 split at hw'<;>try(exact hw'.elim)
 rename_i ow sz l c0 cs0 b' o' l' cp'
 obtain⟨hov,hs2,hk⟩:=hw'
 rcases VR.gR hbx with⟨_,h0,_⟩|⟨b,o,cp,e1,hl,hR,fh,hat⟩
 ·cases h0
 have e2:=VR.pW hby (Nat.succ_pos _)
 unfold cellsIn at hs2
 split at hs2<;>try(exact hs2.elim)
 rename_i akA
 obtain⟨q0,q1',x2,t2,q1,q2,_⟩:=h.store b' _ akA
 obtain⟨uu,dG,_,_⟩:=hat
 have hc0:=dG 0 c0 rfl
 have hblk:∃x1 t1 f1,w.heap[b]? =some (.cells x1 t1 f1)/\x1.size≠0:=by
  unfold World.cell? at hc0
  split at hc0
  ·grind
  ·cases hc0
 obtain⟨x1,t1,f1,p1,p2⟩:=hblk
 have hbb:b≠b':=fun e=>A_
 obtain⟨w',hr,r1,r2,r3,r4,r5⟩:=hov w b b' o (l+1) cp o' l' (cp'+1) t1 t2 x1 x2 f1 hbb p1 p2 q1 (by rw[q2.1];simp)
 have bK:aI G w G w':=⟨r2,r3,r4,r5,A_,fun _ _=>Nat.le_refl _,fun b k _ _=>zw r1 _,fun b _ _=>by rw[r1],fun b _ hb=>⟨hb,rfl⟩,fun b _ hb=>⟨hb,rfl⟩⟩
 have hg':cq G w':=⟨fun b hb=>h.bc.jI b A_,fun b hb=>h.bc.jY b A_⟩
 have hinv:Inv G n D (E.put d (.bool false)) (a.put d (.bool false)) w':=by
  have:=h.put (s':=E.s) (lp':=E.lp) d (fun i hi=>IF) (.bool false) (.bool false) hg' bK (h.store.mono h.bc bK (fun b hb=>⟨hb,rfl,by rw[r1]⟩) (fun _ c j _ hc=>⟨hc,rfl,by rw[r1]⟩)) (fun _ hx=>hx) (fun i t _ ht=>ht.elim) (fun i t _⟨cs,hcs⟩=>O_)
   (fun _ _ _ _=>⟨rfl,rfl,by rw[r1]⟩) (fun _ _ _ _ _ _ hcc=>⟨hcc,rfl,by rw[r1]⟩) (fun i hdi=>⟨.bool _,trivial⟩)
  cases d<;>exact this
 intro pos after gd next Q hn
 grind [aX,bool,execOp,resolve,Act.eval,Deferred.ofValue,invoke]
theorem Gf(a b:List AV):views (a++b)=views a++views b:=bY
theorem QO(h:Inv G n D E a w){op:Op}{ty:TypeId}{f i:Nat}{args:List IX}{d:Option Nat}{K:St->Prop}(hd:bq n d=true)(hc:aw P op ty (.xU f i args)=true)(hw:ju P (.xU f i args) d E K):pM P G n D w a op ty d K:=by
 have hcc:aw P op ty (.call f args)=true:=by
  cases op<;>first|(simp[aw]at hc;done)|skip
  simp only[aw,Bool.and_eq_true]at hc
  exact hc.2
 have hw':abj i E (fun τ=>vT P f τ d K (cL (xg true τ) args)) (look E.e i):=hw
 have later:∀(G1:Gh)(τ:St),Inv G1 n D τ a w->aI G w G1 w->vT P f τ d K (cL (xg true τ) args)->pM P G n D w a op ty d K:=by
  intro G1 τ h1 hp hk pos after g next Q hn
  exact KO h1 hd hcc hk pos after g next Q fun G' E' a' w' k1 k2 k3=>hn G' E' a' w' k1 (hp.trans k2) k3
 cases hl:look E.e i<;>rw[hl]at hw'<;>first|exact hw'.elim|skip
 rename_i sz m cs
 obtain⟨hw1,hw2⟩:=hw'
 have hin:i<n:=h.Dz (by rw[hl];simp)
 have hlt:i<a.tmps.size:=Xc2
 have hs:=h.cH i _ (Array.getElem?_eq_getElem hlt)
 rw[hl]at hs
 rcases hs with⟨h1,h2,h3⟩|⟨b,cap,c,t,sp,h1,h2,h3,h4,h5,h6,h7,h8,h9,h10,h11,h12⟩
 ·subst h1;subst h2
  rcases h3 with h3|⟨b,off,h3⟩
  ·refine later G _ (h.L9 i hin (.arr 0 0 0 0) (fun t ht=>ht) (fun cs e=>f_) fun v hv=>?_) (aI.refl G w) (hw2 rfl 0 0)
   rw[Array.getElem?_eq_getElem hlt]at hv;injection hv with hv;subst hv
   exact⟨by rw[h3];exact .Ia _ _,trivial⟩
  ·refine later G _ (h.L9 i hin (.arr b off 0 0) (fun t ht=>ht) (fun cs e=>f_) fun v hv=>?_) (aI.refl G w) (hw2 rfl b off)
   rw[Array.getElem?_eq_getElem hlt]at hv;injection hv with hv;subst hv
   exact⟨by rw[h3];exact .arr _ _ _ _,trivial⟩
 ·have aas:E.s b=none:=by
   cases hsb:E.s b with
   |none=>rfl
   |some o=>have:=(h.store b o hsb).1;grind
  have amI:views sp=sp:=by
   have:views cs++views sp=cs++sp:=by rw[<-Gf];exact h12
   exact(List.append_inj this bY).2
  let G1:Gh:=G.pR b .sh 0
  have same:∀b',b'≠b->G1.O b'=G.O b'/\G1.R b'=G.R b'/\w.heap[b']? =w.heap[b']? :=fun b' hb'=>⟨by simp[G1,hb'],by simp[G1,hb'],rfl⟩
  have hRe:∀b',G1.R b'=G.R b':=fun b'=>by
   by_cases hb:b'=b
   ·subst hb;simp[G1,h5]
   grind
  have bK:aI G w G1 w:=⟨rfl,rfl,rfl,Nat.le_refl _,Nat.le_refl _,fun b' _=>A_,fun _ _ _ _=>rfl,fun _ _ _=>rfl,fun b' _ hb'=>by
   grind,fun b' _ hb'=>by
   grind⟩
  have hbl:b<w.heap.size:=h.bc.lt (by rw[h4];simp)
  have ks:cq G1 w:=⟨fun b' hb'=>by
   have:b'≠b:=AT
   rw[(same b' this).1,h.bc.jI b' hb'],fun b' hb'=>by rw[hRe,h.bc.jY b' hb']⟩
  have ez:ba G1 w (E.s.set b (.cells (cs++sp))):=by
   intro b' o hb'
   unfold ae.set at hb'
   by_cases hbg:b'=b
   ·rw[if_pos hbg]at hb';injection hb' with hb';subst hb';subst hbg
    refine⟨by simp[G1],by simp[G1],c,t,h6,⟨by rw[h7,h9],fun j x y hx hy=>⟨bK.vr h.bc (h10 j x y hx hy),?_⟩⟩,h11.tag _⟩
    grind [fx,dI.view]
   ·rw[if_neg hbg]at hb'
    obtain⟨r1,r2,r3⟩:=h.store b' o hb'
    refine⟨(same b' hbg).1.trans r1,(same b' hbg).2.1.trans r2,?_⟩
    cases o with
    |cells cs'=>
     obtain⟨c0,t0,r4,r5,r6⟩:=r3
     exact⟨c0,t0,r4,r5.mono (fun _ _ hv=>bK.vr h.bc hv) (fun b'' j vB=>A_),r6⟩
    |map es=>
     obtain⟨jV,clock,r4,r5,r6⟩:=r3
     exact⟨jV,clock,r4,r5,fun j x y hx hy=>⟨bK.vr h.bc (r6 j x y hx hy).1,bK.vr h.bc (r6 j x y hx hy).2⟩⟩
  have h1':Inv G1 n D ({E with s:=E.s.set b (.cells (cs++sp))}.put (some i) (.arr b 0 m cap)) a w:=by
   have ha:a.put (some i) a.tmps[i]=a:=by
    have:a.tmps.setIfInBounds i a.tmps[i]=a.tmps:=by rw[Array.setIfInBounds,dif_pos hlt,Array.set_getElem_self]
    simp[Act.put,this]
   have:=h.put (s':=E.s.set b (.cells (cs++sp))) (lp':=E.lp) (some i) (fun j hj=>A_) (.arr b 0 m cap) a.tmps[i] ks bK ez (fun _ hx=>hx) (fun j t _ ht=>ht.elim) (fun j t _⟨cs,hcs⟩=>O_)
    (fun j b' hj hb'=>same b' (fun e=>A_))
    (fun j b' c' q _ _ hc'=>A_)
    (fun j hj=>by
      injection hj with hj;subst hj
      exact⟨by rw[h3];exact .arr _ _ _ _,trivial⟩)
   rw[ha]at this
   exact this
  grind
def Yl{R:Nat->Nat}{sz:Nat}{c:AV}{u:Value}(h:VR w R c u):VR w R (xi sz c) u:=by
 unfold xi
 split
 ·rename_i b
  rcases VR.cK h with e|⟨_,_,e⟩
  ·rw[e];exact .sl true sz 0 [] b 0 0 (fun _=>undef) Fl.nil BY BY (Nat.le_refl _) (fun j c hj=>A_) (fun j c hj=>A_)
  ·rw[e];exact .slnil _ _
 ·exact h
def U0{R:Nat->Nat}{o:dh}{sz:Nat}{c:AV}{u:Value}(h:VR w R c u):dI G w o (xi sz (view c)) u:=by
 unfold xi
 split
 ·rename_i b hb
  have:c=.arr b 0 0 0:=by cases c<;>simp[view]at hb<;>simp[hb]
  subst this
  intro base m cap hv hc
  rcases VR.cK h with e|⟨_,_,e⟩<;>rw[e]at hv<;>injection hv with _ e2 e3<;>omega
 ·exact dI.view ..
def Rl{sz:Nat}{c:AV}(h:qO c=true):qO (xi sz c)=true:=by
 unfold xi
 split
 ·rfl
 ·exact h
theorem Tk(h:Inv G n D E a w){op:Op}{ty:TypeId}{sz m:Nat}{x:IX}{d:Option Nat}{K:St->Prop}(hd:bq n d=true)(hc:aw P op ty (.Kh sz m x)=true)(hw:ju P (.Kh sz m x) d E K):pM P G n D w a op ty d K:=by
 cases op<;>first|(simp[aw]at hc;done)|skip
 rename_i t y
 simp only[aw,Bool.and_eq_true]at hc
 obtain⟨hi,_,hk⟩:=hw
 have hvr:VR w G.R (E.x x) (a.eval y):=by
  have:=XR.aQ h hc.2
  generalize E.x x=av at hi this
  cases av<;>first|exact this|grind [dF]
 have dv:=iM hi hvr
 have hcs:∀(G':Gh)(w':World)(o:Nat->dh),aI G w G' w'->dY G' w' o ((views (cellsOf (E.x x))).map (xi sz)) (a.eval y).cells:=by
  intro G' w' o hp
  refine⟨by simp only[List.length_map,views];exact dv.1,fun j c u hcj hu=>?_⟩
  simp only[List.getElem?_map]at hcj
  rw[fx]at hcj
  cases hz:(cellsOf (E.x x))[j]? with
  |none=>grind
  |some c0=>
   rw[hz]at hcj;simp at hcj
   have h1:=hp.vr h.bc (dv.2.1 j c0 u hz hu)
   rw[<-hcj]
   exact⟨Yl h1.view,U0 h1⟩
 have hfl:Fl ((views (cellsOf (E.x x))).map (xi sz)):=by
  intro c hc'
  simp only[List.mem_map]at hc'
  obtain⟨c',h1,rfl⟩:=hc'
  exact Rl (dv.2.2.views c' h1)
 intro pos after g next Q hn
 obtain⟨G',h1,h2⟩:=h.N6 hd (t:=t) (.inl ⟨rfl,rfl⟩) hcs hfl
 refine aX ?_ (hn G' _ _ _ h1 h2 (hk w.heap.size (h.store.get_none h.bc)))
 simp[execOp,Instr.box,newVar,newRow]
end
end Go.AB
end
