/- A part. -/
import Derived.Test.YtgecakgfnjkkbaaGreatTt5
set_option linter.defProp false
set_option linter.unusedSimpArgs false
set_option linter.unusedVariables false
section
namespace Go.AB
open Go
section
variable{P:Program}{G G':Gh}{n:Nat}{D:List Deferred}{E:St}{a:Act}{w w':World}
theorem bc.at(h:bc G w E.s){b off m:Nat}{cs:List AV}(hs:E.s b=some (.cells cs))(dn:off+m<=cs.length):At w G.R b off (AB.views (AB.sub cs off m)):=by
 obtain⟨_,_,c,t,h4,h5,h6⟩:=h b _ hs
 have hat:=(At.GQ h4 h5 h6).sub off m
 rwa[Nat.zero_add,Hr]at hat
structure vo(P:Program)(w:World)(R:Nat->Nat)(sz m:Nat)(ds:List AV)(v:Value)(news:List Value):Prop where
 len:news.length=m*sz
 qi:ds.length=m*sz
 lenOf:∀w',(Builtin.lenOf v).run P w'=.ok m w'
 first:∀k,k<=m->∀w',w'.heap=w.heap->(Builtin.firstCells sz k v).run P w'=.ok (news.take (k*sz)).toArray w'
 one:∀u∈news,u.oneCell'=true
 lU:∀(j:Nat)(c:AV)(u:Value),ds[j]? =some c->news[j]? =some u->VR w R c u
 fl:Fl ds
 vw:views ds=ds
theorem p8(ds:List AV):views (views ds)=views ds:=by
 unfold views
 rw[List.map_map]
 apply List.map_congr_left
 intro a _
 cases a<;>rfl
theorem vo.src{R:Nat->Nat}{sz m:Nat}{ds:List AV}{v:Value}{news:List Value}(h:vo P w R sz m ds v news):Src P w R sz m ds v news:=⟨h.len,h.qi,h.lenOf,fun w' hw'=>by rw[h.first m (Nat.le_refl m) w' hw',List.take_of_length_le (by rw[h.len];grind)],h.one,h.lU,h.fl⟩
def vo.Z5{R:Nat->Nat}{sz m b off cap:Nat}{cs:List AV}(hl:cs.length=m*sz)(hat:At w R b off cs):∃news,vo P w R sz m (views cs) (.slice (some ⟨b,off,none⟩) m cap) news:=by
 have S0:=hat.views
 obtain⟨us,h1,h2,h3⟩:=S0.lU
 have hfl:Fl (views cs):=by obtain⟨_,_,_,hf⟩:=S0;exact hf
 have hlen:(views cs).length=m*sz:=by simp[views,hl]
 refine⟨us,AT,hlen,fun _=>rfl,fun k hk w' hw'=>?_,fun u hu=>?_,h3,hfl,p8 cs⟩
 ·grind [Nat.mul_le_mul_right,run_firstCells_some,zn]
 ·obtain⟨j,hj⟩:=List.mem_iff_getElem?.1 hu
  have hlt:j<(views cs).length:=A_
  have hx:=List.getElem?_eq_getElem hlt
  exact jj (hfl _ (List.getElem_mem hlt)) (h3 j _ u hx hj)
def vo.empty{R:Nat->Nat}{sz cap:Nat}{base:Option Addr}:vo P w R sz 0 [] (.slice base 0 cap) []:=
 ⟨BY,BY,fun _=>rfl,fun k hk w' _=>by
   have:k=0:=AT
   subst this
   cases base with
   |none=>simp[Builtin.firstCells]
   |some x=>simp[Builtin.firstCells,loadCells,loadCellsFrom],fun u hu=>A_,fun j c u hc=>BY,Fl.nil,rfl⟩
theorem vo.str{R:Nat->Nat}{l:List UInt8}:vo P w R 1 l.length (l.map fun c=>.int .u8 c.toNat) (.string ⟨l.toArray⟩) (l.map fun c=>.int .u8 c.toNat)where
 len:=BY
 qi:=BY
 lenOf:=fun w'=>D_
 first:=fun k hk w' _=>by
  have:((ByteArray.mk l.toArray).extract 0 k).data=(l.take k).toArray:=BY
  simp[Builtin.firstCells,this]
 one:=(Src.II (P:=P) (w:=w) (R:=R)).one
 lU:=(Src.II (P:=P)).lU
 fl:=J5 l
 vw:=by simp[views,view]
theorem rU{m sz off:Nat}{o:Option SO}{k:Nat}{ds:List AV}(h:jU m sz off o=some (k,ds)):∃cs,o=some (.cells cs)/\off+m*sz<=cs.length/\k=m/\ds=views (AB.sub cs off (m*sz)):=by
 unfold jU at h
 grind
def D0(h:Inv G n D E a w){sz m:Nat}{x:IX}{o:Operand}{ds:List AV}(hx:bN o x=true)(hs:vL E.s sz (E.x x)=some (m,ds)):∃news,vo P w G.R sz m ds (a.eval o) news:=by
 have hb:=XR.aR h hx
 generalize E.x x=av at hb hs
 unfold vL at hs
 split at hs
 ·rename_i ow s' k cs
  by_cases he:s'=sz
  ·subst he
   rw[beq_self_eq_true]at hs
   injection hs with hs;injection hs with h1 h2;subst h1;subst h2
   rcases VR.gq hb with⟨e0,rfl,rfl⟩|⟨b,off,cap,e,hl,_,_,hat⟩
   ·obtain⟨_,_,e⟩:=e0.ex
    rw[e];exact⟨[],vo.empty⟩
   ·rw[e];exact vo.Z5 hl hat
  ·rw[show(s'==sz)=false by grind]at hs
   by_cases hk:k=0
   ·subst hk
    injection hs with hs;injection hs with h1 h2;subst h1;subst h2
    rcases VR.gq hb with⟨(e|⟨_,_,_,e⟩),_,_⟩|⟨b,off,cap,e,_⟩<;>rw[e]<;>exact⟨[],vo.empty⟩
   grind
 ·by_cases he:sz=1
  ·subst he
   injection hs with hs;injection hs with h1 h2;subst h1;subst h2
   rw[VR.gH hb];exact⟨_,vo.str⟩
  grind
 ·rename_i b off k cap
  by_cases hk:k=0
  ·subst hk
   injection hs with hs;injection hs with h1 h2;subst h1;subst h2
   rcases VR.cW hb with e|⟨_,_,e⟩<;>rw[e]<;>exact⟨[],vo.empty⟩
  ·rw[show(k==0)=false by grind]at hs
   obtain⟨cs,e1,e2,rfl,rfl⟩:=rU hs
   rcases VR.cW hb with e|⟨h0,_,_⟩
   ·rw[e]
    have hsn:=vo.Z5 (P:=P) (cap:=cap) (show(AB.views (AB.sub cs off (m*sz))).length=m*sz by simp[views,kI e2]) (h.store.at e1 e2)
    rwa[p8]at hsn
   grind
 ·cases hs
def Inv.xt(h:Inv G n D E a w){b off:Nat}{cs ds:List AV}{news:List Value}{c:Array Value}{t:TypeId}(hs:E.s b=some (.cells cs))(hb:w.heap[b]? =some (.cells c t (0,0)))
 (hlen:news.length=ds.length)(dn:off+ds.length<=cs.length)(hfl:Fl ds)(hvw:views ds=ds)(qR:∀(j:Nat)(x:AV)(y:Value),ds[j]? =some x->news[j]? =some y->VR w G.R x y):
 Inv G n D {E with s:=E.s.set b (.cells (setAt cs off ds))} a (w.setRow b (laid c off news))/\aI G w G (w.setRow b (laid c off news)):=by
 obtain⟨q2,q3,c',t',q4,q5,q6⟩:=h.store b _ hs
 rw[hb]at q4;injection q4 with q4;injection q4 with q4 q4' _
 subst q4;have hne:∀j,G.O b≠.cell b j:=fun j=>A_
 have bF:aI G w G (w.setRow b (laid c off news)):=aI.write hb A_ (fun k hk=>A_) (Nat.le_refl _) (fun _ _=>⟨rfl,rfl⟩)
 have mc:=dF.lay hb bF h.aZ q5 hlen dn hne (fun j x y hx hy=>⟨qR j x y hx hy,by grind [fh,dS.view]⟩)
 have eJ:bc G (w.setRow b (laid c off news)) (E.s.set b (.cells (setAt cs off ds))):=by
  intro b' o hb'
  unfold ae.set at hb'
  by_cases hbg:b'=b
  ·grind [q2,setRow_heap,Eu.setAt]
  ·rw[if_neg hbg]at hb'
   obtain⟨r1,r2,r3⟩:=h.store b' o hb'
   refine⟨r1,r2,?_⟩
   have hbk:=setRow_other w b b' (laid c off news) hbg
   cases o with
   |cells cs=>
    obtain⟨c0,t0,r4,r5,r6⟩:=r3
    exact⟨c0,t0,hbk.trans r4,r5.mono (fun _ _ hv=>bF.vr h.aZ hv) (fun b'' j vB=>⟨vB,rfl,setRow_other w b b'' _ (fun e=>A_)⟩),r6⟩
   |map es=>
    obtain⟨jC,clock,r4,r5,r6⟩:=r3
    exact⟨jC,clock,hbk.trans r4,r5,fun j x y hx hy=>⟨bF.vr h.aZ (r6 j x y hx hy).1,bF.vr h.aZ (r6 j x y hx hy).2⟩⟩
 obtain⟨h2,_⟩:=h.written (E':={E with s:=E.s.set b (.cells (setAt cs off ds))}) hb (.inr q2) q3 rfl eJ (fun k=>.inl ⟨rfl,A_⟩)
 grind
def Inv.LG(h:Inv G n D E a w){d:Option Nat}(hd:bt n d=true){av:AV}{v:Value}(hi:dJ av=true)(hv:VR w G.R av v)(Tx:view av=av):Inv G n D (E.put d av) (a.put d v) w:=by
 have:=h.put d (fun i hi=>IN) av v h.aZ (aI.refl G w) h.store (fun _ hx=>hx) (fun i t _ ht=>(fA hi t ht).elim) (fun i t _⟨cs,hcs⟩=>(nP hi cs hcs).elim)
  (fun _ _ _ _=>⟨rfl,rfl,rfl⟩) (fun _ _ _ _ _ _ hcc=>⟨hcc,rfl,rfl⟩) (fun i hdi=>by grind [ee.sm,dS.view])
 cases d<;>exact this
def Inv.acB(h:Inv G n D E a w){d:Option Nat}(hd:bt n d=true):Inv G n D (E.put d (.jg [])) (a.put d (.tuple #[])) w:=by
 have:=h.put d (fun i hi=>IN) (.jg []) (.tuple #[]) h.aZ (aI.refl G w) h.store (fun _ hx=>hx) (fun i t _ ht=>ht.elim) (fun i t _⟨cs,hcs⟩=>A_)
  (fun _ _ _ _=>⟨rfl,rfl,rfl⟩) (fun _ _ _ _ _ _ hcc=>⟨hcc,rfl,rfl⟩) (fun i hdi=>⟨#[],rfl,rfl,fun j x y hx=>BY⟩)
 cases d<;>exact this
theorem HW(h:Inv G n D E a w){op:Op}{ty:TypeId}{sz m:Nat}{z:List AV}{ps:List (Nat×Nat×IX)}{d:Option Nat}{K:St->Prop}(hd:bt n d=true)(hc:aw P op ty (.mL sz m z ps)=true)(hw:jq P (.mL sz m z ps) d E K):pq P G n D w a op ty d K:=by
 cases op<;>first|(simp[aw]at hc;done)|skip
 rename_i t m' qs
 simp only[aw,Bool.and_eq_true,beq_iff_eq]at hc
 obtain⟨rfl,hc⟩:=hc
 split at hc<;>try(cases hc;done)
 rename_i e ht
 have ht:=dj ht
 simp only[Bool.and_eq_true]at hc
 obtain⟨⟨⟨⟨hs,jW⟩,hp⟩,Tj⟩,hz⟩:=hc
 obtain⟨i,hi,qM⟩:=lq hs
 rw[hi]at hz
 simp only at hz
 split at hz<;>try(cases hz;done)
 rename_i zv hzv
 simp only[Bool.and_eq_true,beq_iff_eq]at hz
 obtain⟨hzr,hzs⟩:=hz
 have jW:=of_decide_eq_true jW
 have Tj:=of_decide_eq_true Tj
 have hw':zm sz m E d K (fill (xg true E) z ps):=hw
 cases hfl:fill (xg true E) z ps with
 |none=>rw[hfl]at hw';exact hw'.elim
 |some ds=>
  rw[hfl]at hw'
  obtain⟨hlen,hk⟩:=hw'
  obtain⟨hl,hpa⟩:=xl _ _ hp
  obtain⟨hz1,hz2⟩:=BT hzr
  have dE:Row w G.R z ((Array.range (m*sz)).map (zv.cells[·% zv.cells.size]!)):=by
   rw[<-hzs,uD]
   exact⟨A_,fun j c u hc hu=>vQ (hz2 j c u hc A_) w G.R,Cu hzr⟩
  have hf:∀(o:Operand)(x:IX),bN o x=true->dJ (xg true E x)=true->VR w G.R (xg true E x) (a.eval o):=fun o x hx hi=>by
   have:=BR.aR h hx
   generalize xg true E x=av at hi this
   cases av<;>first|exact this|grind [dJ]
  obtain⟨us,h1,h2⟩:=rY h hf (fun i=>some (i*sz,sz)) qs.toList ps z ds _ ⟨hl,fun j q p hq hp'=>A_⟩ dE hfl
  obtain⟨G1,h3,h4⟩:=h.NB (t:=e) (c:=us) (cs:=views ds) hd (.inr ⟨m,m,rfl,rfl⟩) (fun G' w' o hp=>nh (h2.mono fun _ _ hv=>hp.vr h.aZ hv)) h2.2.2.views
  intro pos after gd next Q hn
  refine aY ?_ (hn G1 _ _ _ h3 h4 (hk w.heap.size (h.store.get_none h.aZ)))
  by_cases hm0:m*sz=0
  ·have hm:m=0:=by
    rcases Nat.mul_eq_zero.1 hm0 with h|h
    ·exact h
    ·omega
   subst hm
   simp only[Nat.zero_mul]at h1
   have:(Array.range 0).map (zv.cells[·% zv.cells.size]!)= #[]:=BY
   rw[this]at h1
   have hr0:Array.map (fun _:Nat=>(default:Value)) (Array.range 0)= #[]:=by apply Array.ext';simp
   simp[execOp,Instr.buildSlice,run_underlying ht,run_sizeOf hs,hr0,h1,newRow]
  ·have h24:¬(16777216<m*sz):=AT
   simp[execOp,Instr.buildSlice,run_underlying ht,run_sizeOf hs,h24,hm0,zeroValue,typeInfo,hi,hzv,h1,newRow]
end
section
variable{P:Program}{G G':Gh}{n:Nat}{D:List Deferred}{E:St}{a:Act}{w w':World}
theorem Ai(cs:List AV)(k:Nat):setAt cs k []=cs:=by simp[setAt]
theorem pg{s:ae}{b:Nat}{o:SO}(h:s b=some o):s.set b o=s:=l4
def Ad{sz b off cap:Nat}{o:Option SO}(h:xr sz b off cap o):∃cs,o=some (.cells cs)/\off+cap*sz<=cs.length:=by
 unfold xr at h
 grind
def uE{e:TypeId}{z:List AV}(hz:pn P e z=true):∃v:Value,(∀w,(zeroValue e).run P w=.ok v w)/\(∃i,P.info? e=some i/\i.zero=some v/\i.size=z.length)/\∀(q:Nat),(Builtin.zeroCells v.cells q).toList.length=q*z.length/\(List.replicate q z).flatten.length=q*z.length/\
 (∀(j:Nat)(x:AV)(y:Value),(List.replicate q z).flatten[j]? =some x->(Builtin.zeroCells v.cells q).toList[j]? =some y->cR y x=true)/\Fl (List.replicate q z).flatten/\(∀y∈(Builtin.zeroCells v.cells q).toList,y.oneCell'=true):=by
 obtain⟨i,v,h1,h2,h3,h4,h5⟩:=vm hz
 refine⟨v,fun w=>by simp[zeroValue,typeInfo,h1,h2],⟨i,h1,h2,h3⟩,fun q=>?_⟩
 have e0:Builtin.zeroCells v.cells q=((List.replicate q v.cells.toList).flatten).toArray:=uD v.cells q
 rw[e0]
 have h4:=h4 default fun _=>0
 have hlz:=by simpa using h4.1
 have EL:∀y∈v.cells.toList,y.oneCell'=true:=by
  intro y hy
  obtain⟨j,hj⟩:=List.mem_iff_getElem?.1 hy
  have hlt:j<z.length:=A_
  exact jj (h4.2.2 _ (List.getElem_mem hlt)) (h4.2.1 j _ y (List.getElem?_eq_getElem hlt) A_)
 have hlen:∀α(l:List α),(List.replicate q l).flatten.length=q*l.length:=fun α l=>BY
 refine⟨A_,hlen _ z,?_,?_,?_⟩
 ·clear e0 hlen
  induction q with
  |zero=>grind
  |succ q ih=>grind
 ·intro x hx
  simp[List.mem_flatten,List.mem_replicate]at hx
  obtain⟨l,⟨_,rfl⟩,hm⟩:=hx
  exact h4.2.2 x hm
 simp_all
theorem Kq(h:Inv G n D E a w){op:Op}{ty:TypeId}{sz by':Nat}{z:List AV}{x y:IX}{d:Option Nat}{K:St->Prop}(hd:bt n d=true)(hc:aw P op ty (.nD sz by' z x y)=true)(hw:jq P (.nD sz by' z x y) d E K):pq P G n D w a op ty d K:=by
 cases op<;>first|(simp[aw]at hc;done)|skip
 rename_i c
 simp only[aw]at hc
 split at hc<;>try(cases hc;done)
 rename_i u v t t' hb
 have hce:=qc hb
 subst hce
 simp only[Bool.and_eq_true]at hc
 obtain⟨⟨hu,hv⟩,hc⟩:=hc
 split at hc<;>try(cases hc;done)
 rename_i e ht
 have ht:=dj ht
 simp only[Bool.and_eq_true]at hc
 obtain⟨⟨⟨⟨⟨⟨hs,hby⟩,jW⟩,yh⟩,hzl⟩,hzi⟩,ht'⟩:=hc
 obtain⟨i,hi,qM⟩:=lq hs
 obtain⟨zv,_,⟨i1,hi1,hz,hz1⟩,W9⟩:=uE hzi
 rw[hi]at hi1;injection hi1 with hi1;subst hi1
 have jW:=of_decide_eq_true jW
 have yh:=of_decide_eq_true yh
 have hby:i.bytes=by':=by
  unfold lD at hby
  rw[hi]at hby
  simpa using hby
 have ht2:(∃e',P.underlying t'=some (.slice e'))\/P.underlying t'=some .string:=by
  rcases Bool.or_eq_true .. ▸ht' with h|h
  ·grind [cU,dj]
  ·grind [y7]
 have hw':eS sz by' z E d K (E.x x) (vL E.s sz (E.x y)):=hw
 have hbx:=XR.aR h hu
 generalize E.x x=xv at hw' hbx
 cases hsv:vL E.s sz (E.x y)with
 |none=>grind [eS]
 |some md=>
 obtain⟨m,ds⟩:=md
 rw[hsv]at hw'
 obtain⟨news,Ts⟩:=D0 (P:=P) h hv hsv
 have eP:=Ts.src
 unfold eS at hw'
 split at hw'<;>try(exact hw'.elim)
 rename_i b off k cap _ _ he0
 injection he0 with he0;injection he0 with e1 e2;subst e1;subst e2
 cases hol:oZ E.s sz b off k with
 |none=>rw[hol]at hw';exact hw'.elim
 |some olds=>
 rw[hol]at hw'
 obtain⟨abC,ZL,CU⟩:=hw'
 have hold:k=0/\olds=[]\/∃cs,E.s b=some (.cells cs)/\off+k*sz<=cs.length/\olds=views (AB.sub cs off (k*sz)):=by
  unfold oZ at hol
  by_cases hk:k=0
  ·grind
  ·rw[show(k==0)=false by grind]at hol
   cases hca:jU k sz off (E.s b)with
   |none=>grind
   |some q=>grind [q1,q2,rU]
 by_cases dn:k+m<=cap
 ·rcases ZL dn with⟨rfl,hk⟩|⟨cg,hk⟩
  ·have vX:news=[]:=List.eq_nil_of_length_eq_zero ξ
   subst vX
   intro pos after gd next Q hn
   refine aY (w':=w) (v:=a.eval u) ?_ (hn G _ _ _ (h.LG hd rfl hbx rfl) (aI.refl G w) hk)
   rcases VR.cW hbx with e1|⟨rfl,rfl,e1⟩
   ·have bS:=jc (ty:=ty) (w:=w) ht ht2 hi qM eP (b:=b) (off:=off) (k:=k) (cap:=cap) dn (w':=w) rfl
    simp only[Nat.add_zero]at bS
    simp[execOp,resolve,invoke,builtin,e1,bS]
   ·have bS:=nV (ty:=ty) ht ht2 hi qM eP
    simp[execOp,resolve,invoke,builtin,e1,bS]
  ·obtain⟨cs,hsb,Te⟩:=Ad cg
   rw[hsb]at hk
   have hk':K ({E with s:=E.s.set b (.cells (setAt cs (off+k*sz) ds))}.put d (.arr b off (k+m) cap)):=hk
   obtain⟨_,_,c,et,hcb,hcr,hcf⟩:=h.store b _ hsb
   have hmul:off+k*sz+m*sz<=cs.length:=by
    rw[Nat.add_assoc,<-Nat.add_mul]
    exact Nat.le_trans (Nat.add_le_add_left (Nat.mul_le_mul_right _ dn) _) Te
   by_cases hm:m=0
   ·subst hm
    have vX:news=[]:=List.eq_nil_of_length_eq_zero ξ
    have hds:ds=[]:=List.eq_nil_of_length_eq_zero k_
    subst vX;subst hds
    rw[Ai,pg hsb,Nat.add_zero]at hk'
    intro pos after gd next Q hn
    refine aY (w':=w) (v:=a.eval u) ?_ (hn G _ _ _ (h.LG hd rfl hbx rfl) (aI.refl G w) hk')
    rcases VR.cW hbx with e1|⟨rfl,rfl,e1⟩
    ·have bS:=jc (ty:=ty) (w:=w) ht ht2 hi qM eP (b:=b) (off:=off) (k:=k) (cap:=cap) dn (w':=w) rfl
     simp only[Nat.add_zero]at bS
     simp[execOp,resolve,invoke,builtin,e1,bS]
    ·have bS:=nV (ty:=ty) ht ht2 hi qM eP
     simp[execOp,resolve,invoke,builtin,e1,bS]
   ·have e1:=VR.pJ hbx AT
    obtain⟨h2,hp2⟩:=h.xt (off:=off+k*sz) (ds:=ds) (news:=news) hsb hcb (by rw[eP.len,eP.qi]) (by rw[eP.qi];exact hmul) eP.fl Ts.vw eP.lU
    have afN:off+k*sz+news.length<=c.size:=by rw[eP.len,hcr.1];exact hmul
    have eJ:=dU (P:=P) b (off+k*sz) et (0,0) news 0 c w hcb (fun j _ hj=>K_) A_ eP.one
    have bS:=jc (ty:=ty) (w:=w) ht ht2 hi qM eP (b:=b) (off:=off) (k:=k) (cap:=cap) dn (w':=w.setRow b (laid c (off+k*sz) news)) θ
    intro pos after gd next Q hn
    refine aY ?_ (hn G _ _ _ (h2.LG hd rfl (.arr b off (k+m) cap) rfl) hp2 hk')
    simp[execOp,resolve,invoke,builtin,e1,bS]
 ·have hgr:cap<k+m:=AT
  obtain⟨cg,hk⟩:=CU hgr
  have grow:∀(base:Option Addr)(us:List Value),a.eval u=.slice base k cap->us.length=k*sz->olds.length=k*sz->Fl olds->views olds=olds->
   (Builtin.firstCells sz k (.slice base k cap)).run P w.drew=.ok us.toArray w.drew->(∀(j:Nat)(c:AV)(u:Value),olds[j]? =some c->us[j]? =some u->VR w G.R c u)->
   pq P G n D w a (.call {callee:=.builtin .append,args:= #[u,v],argTypes:= #[t,t']}) ty d K:=by
   intro base us e1 hul abv hof hov hfc qR
   have bS:=sv (ty:=ty) ht ht2 hi hz qM eP hfc hgr A_ A_
   have hge:k+m<=grownCap w (k+m) cap e:=grownCap_ge w (k+m) cap e
   obtain⟨zz1,zz2,zz3,zz4,_⟩:=W9 (grownCap w (k+m) cap e -(k+m))
   obtain⟨G2,h3,h4⟩:=(h.drew).NB (t:=e) (c:=us.toArray++news.toArray++Builtin.zeroCells zv.cells (grownCap w (k+m) cap e -(k+m)))
    (cs:=olds++ds++(List.replicate (grownCap w (k+m) cap e -(k+m)) z).flatten) (d:=d) hd (.inr ⟨k+m,grownCap w (k+m) cap e,rfl,rfl⟩)
    (fun G' w' o hp=>by
      have hl1:=eP.len
      have hl2:=eP.qi
      refine⟨A_,fun j x y hx hy=>?_⟩
      have yR:∀(l:List AV)(q:Nat),views l=l->l[q]? =some x->dS G' w' (o j) x y:=by
       intro l q hvl hq
       rw[<-hvl,fh]at hq
       cases hz':l[q]? with
       |none=>grind
       |some x'=>grind [dS.view]
      by_cases hj1:j<olds.length
      ·rw[List.append_assoc,List.getElem?_append_left hj1]at hx
       rw[Array.append_assoc,Array.getElem?_append_left C3]at hy
       exact⟨hp.vr h.drew.aZ ((aI.drew G w).vr h.aZ (qR j x y hx A_)),yR _ _ hov hx⟩
      ·by_cases hj2:j<olds.length+ds.length
       ·rw[List.getElem?_append_left C3,List.getElem?_append_right AT]at hx
        rw[Array.getElem?_append_left C3,Array.getElem?_append_right C3]at hy
        simp only[List.size_toArray,List.getElem?_toArray]at hy
        rw[hul,<-abv]at hy
        exact⟨hp.vr h.drew.aZ ((aI.drew G w).vr h.aZ (eP.lU _ x y hx hy)),yR _ _ Ts.vw hx⟩
       grind [List.getElem?_append_right,Array.getElem?_append_right,List.length_append,vQ,Ct])
    (fun c hc=>by
      rcases List.mem_append.1 hc with hc|hc
      ·rcases List.mem_append.1 hc with hc|hc
       ·exact hof c hc
       ·exact eP.fl c hc
      ·exact zz4 c hc)
   intro pos after gd next Q hn
   refine aY ?_ (hn G2 _ _ _ h3 ((aI.drew G w).trans h4) (hk _ _ (h.store.get_none h.aZ) hge))
   simp[execOp,resolve,invoke,builtin,e1,bS]
  rcases VR.cW hbx with e1|⟨rfl,rfl,e1⟩
  ·rcases hold with⟨rfl,rfl⟩|⟨cs,hsb,hle,rfl⟩
   ·exact grow _ [] e1 BY BY Fl.nil rfl (run_firstCells_some w.drew sz 0 ⟨b,off,none⟩ 0 cap [] BY (fun j v hj=>K_)) (fun j c u hc=>O_)
   ·have hat:=h.store.at hsb hle
    obtain⟨us,u1,u2,u3⟩:=hat.lU
    have hfl:Fl (views (AB.sub cs off (k*sz))):=j_
    have hlen:(views (AB.sub cs off (k*sz))).length=k*sz:=by simp only[views,List.length_map];exact kI hle
    exact grow _ us e1 υ hlen hfl (p8 _) (run_firstCells_some w.drew sz k ⟨b,off,none⟩ k cap us υ u2) u3
  ·rcases hold with⟨_,rfl⟩|⟨cs,hsb,hle,rfl⟩
   ·exact grow none [] e1 BY BY Fl.nil rfl d_ (fun j c u hc=>O_)
   ·have:views (AB.sub cs off (0*sz))=[]:=by simp[AB.sub,views]
    rw[this]at grow
    exact grow none [] e1 BY BY Fl.nil rfl d_ (fun j c u hc=>O_)
def E6{t t' ty e:TypeId}{i:TypeInfo}{z:Value}{sz m:Nat}{k':IntKind}(ht:P.underlying t=some (.slice e))(ht':P.underlying t'=some (.int k'))(hi:P.info? e=some i)(hz:i.zero=some z)(hsz:i.size=sz)(al1:0<sz){c:Int}(hc0:0<=c)(hm:c.toNat=m){base:Option Addr}{k cap:Nat}{olds:List Value}
 (hold:(Builtin.firstCells sz k (.slice base k cap)).run P w.drew=.ok olds.toArray w.drew)(cg:cap<k+m)(CR:(k+m)*i.bytes<=room)(hb0:0<i.bytes):
 (Builtin.append_ #[t,t'] ty #[.slice base k cap,.int .i64 c]).run P w=.ok (.slice (some ⟨w.heap.size,0,none⟩) (k+m) (grownCap w (k+m) cap e))
   (w.drew.alloc (.cells (olds.toArray++Builtin.zeroCells z.cells m++Builtin.zeroCells z.cells (grownCap w (k+m) cap e -(k+m))) e)):=by
 subst hsz
 subst hm
 have h3:¬(k+c.toNat<=cap):=AT
 have h4:¬(281474976710656<Builtin.nextslicecap (k+c.toNat) cap*i.bytes):=by have:=growslice_fits cg CR;omega
 have h5:k+c.toNat<=(k+c.toNat)*i.bytes:=Nat.le_mul_of_pos_right _ hb0
 have WU:=CR
 unfold room at WU
 have hcb:c<=140737488355328:=AT
 have h6:¬((9223372036854775807:Int)<(k:Int)+(c.toNat:Int)):=AT
 have h6':¬((9223372036854775807:Int)<(k:Int)+c):=AT
 have afD:¬((9223372036854775807:Int)<(k:Int)+max c 0):=AT
 have hw:IntKind.i64.wrap c=c:=Ar hc0 AT
 have h7:¬(c<0):=AT
 have h8:¬((281474976710656:Int)<c*(i.bytes:Int)):=by
  have h9:c.toNat*i.bytes<=(k+c.toNat)*i.bytes:=Nat.mul_le_mul_right _ AT
  have h10:((c.toNat*i.bytes:Nat):Int)=c*(i.bytes:Int):=by rw[Int.natCast_mul,Int.toNat_of_nonneg hc0]
  omega
 by_cases hc1:c.toNat=0
 ·have:Builtin.zeroCells z.cells c.toNat= #[]:=by rw[hc1];simp[Builtin.zeroCells]
  have hm0:c.toNat*i.size=0:=by rw[hc1,Nat.zero_mul]
  simp[Builtin.append_,run_underlying ht,run_underlying ht',sizeOf,typeInfo,zeroValue,hi,hz,asInt,asIntOf,hw,h7,h8,h3,h4,h6,h6',afD,hm0,Question.forced,hold,newRow,grownCap,this]<;>
   (congr 2;apply Array.ext';simp[List.append_assoc])
 ·have hm0:¬(c.toNat*i.size=0):=by
   intro e
   rcases Nat.mul_eq_zero.1 e with e|e<;>omega
  simp[Builtin.append_,run_underlying ht,run_underlying ht',sizeOf,typeInfo,zeroValue,hi,hz,asInt,asIntOf,hw,h7,h8,h3,h4,h6,h6',afD,hm0,Question.forced,hold,newRow,grownCap]<;>
   (congr 2;apply Array.ext';simp[List.append_assoc])
theorem Ks(h:Inv G n D E a w){op:Op}{ty:TypeId}{sz by':Nat}{z:List AV}{x y:IX}{d:Option Nat}{K:St->Prop}(hd:bt n d=true)(hc:aw P op ty (.pE sz by' z x y)=true)(hw:jq P (.pE sz by' z x y) d E K):pq P G n D w a op ty d K:=by
 cases op<;>first|(simp[aw]at hc;done)|skip
 rename_i c
 simp only[aw]at hc
 split at hc<;>try(cases hc;done)
 rename_i u v t t' hb
 have hce:=qc hb
 subst hce
 simp only[Bool.and_eq_true]at hc
 obtain⟨⟨⟨hu,hv⟩,ht'⟩,hc⟩:=hc
 obtain⟨k',ht2⟩:=Xk ht'
 split at hc<;>try(cases hc;done)
 rename_i e ht
 have ht:=dj ht
 simp only[Bool.and_eq_true]at hc
 obtain⟨⟨⟨⟨hs,hby⟩,jW⟩,yh⟩,hzi⟩:=hc
 obtain⟨i,hi,qM⟩:=lq hs
 obtain⟨zv,_,⟨i1,hi1,hz,hz1⟩,W9⟩:=uE hzi
 rw[hi]at hi1;injection hi1 with hi1;subst hi1
 have jW:=of_decide_eq_true jW
 have yh:=of_decide_eq_true yh
 have hby:i.bytes=by':=by
  unfold lD at hby
  rw[hi]at hby
  simpa using hby
 have hw':xI sz by' z E d K (E.x x) (xg true E y):=hw
 have hbx:=XR.aR h hu
 have hbv:=BR.aR h hv
 generalize E.x x=xv at hw' hbx
 generalize xg true E y=yv at hw' hbv
 unfold xI at hw'
 split at hw'<;>try(exact hw'.elim)
 rename_i b off k cap q
 obtain⟨hq0,hgr,hvz,hw'⟩:=hw'
 have ev:=VR.cu hbv
 generalize hm:q.toNat=m at hw' hgr
 obtain⟨zm1,zm2,zm3,zm4,zm5⟩:=W9 m
 cases hol:oZ E.s sz b off k with
 |none=>rw[hol]at hw';exact hw'.elim
 |some olds=>
 rw[hol]at hw'
 obtain⟨abC,ZL,CU⟩:=hw'
 have hold:k=0/\olds=[]\/∃cs,E.s b=some (.cells cs)/\off+k*sz<=cs.length/\olds=views (AB.sub cs off (k*sz)):=by
  unfold oZ at hol
  by_cases hk:k=0
  ·grind
  ·rw[show(k==0)=false by grind]at hol
   cases hca:jU k sz off (E.s b)with
   |none=>grind
   |some q=>grind [q1,q2,rU]
 obtain⟨cg,hk⟩:=CU hgr
 obtain⟨ds,hds⟩:∃ds,ds=(List.replicate m z).flatten:=⟨_,rfl⟩
 obtain⟨news,vX⟩:∃news,news=(Builtin.zeroCells zv.cells m).toList:=⟨_,rfl⟩
 have al2:views ds=ds:=by
  rw[hds];unfold views at hvz⊢
  rw[List.map_flatten,List.map_replicate,hvz]
 rw[<-hds]at hk
 have grow:∀(base:Option Addr)(us:List Value),a.eval u=.slice base k cap->us.length=k*sz->olds.length=k*sz->Fl olds->views olds=olds->
  (Builtin.firstCells sz k (.slice base k cap)).run P w.drew=.ok us.toArray w.drew->(∀(j:Nat)(c:AV)(u:Value),olds[j]? =some c->us[j]? =some u->VR w G.R c u)->
  pq P G n D w a (.call {callee:=.builtin .append,args:= #[u,v],argTypes:= #[t,t']}) ty d K:=by
  intro base us e1 hul abv hof hov hfc qR
  have bS:=E6 (ty:=ty) ht ht2 hi hz qM jW hq0 hm hfc hgr A_ A_
  have hge:k+m<=grownCap w (k+m) cap e:=grownCap_ge w (k+m) cap e
  obtain⟨zz1,zz2,zz3,zz4,_⟩:=W9 (grownCap w (k+m) cap e -(k+m))
  obtain⟨G2,h3,h4⟩:=(h.drew).NB (t:=e) (c:=us.toArray++Builtin.zeroCells zv.cells m++Builtin.zeroCells zv.cells (grownCap w (k+m) cap e -(k+m)))
   (cs:=olds++ds++(List.replicate (grownCap w (k+m) cap e -(k+m)) z).flatten) (d:=d) hd (.inr ⟨k+m,grownCap w (k+m) cap e,rfl,rfl⟩)
   (fun G' w' o hp=>by
     have hl1:news.length=m*sz:=by rw[vX,zm1,abC]
     have hl2:ds.length=m*sz:=by rw[hds,zm2,abC]
     have hna:Builtin.zeroCells zv.cells m=news.toArray:=by rw[vX]
     rw[hna]
     refine⟨A_,fun j x y hx hy=>?_⟩
     have yR:∀(l:List AV)(q:Nat),views l=l->l[q]? =some x->dS G' w' (o j) x y:=by
      intro l q hvl hq
      rw[<-hvl,fh]at hq
      cases hz':l[q]? with
      |none=>grind
      |some x'=>grind [dS.view]
     by_cases hj1:j<olds.length
     ·rw[List.append_assoc,List.getElem?_append_left hj1]at hx
      rw[Array.append_assoc,Array.getElem?_append_left C3]at hy
      exact⟨hp.vr h.drew.aZ ((aI.drew G w).vr h.aZ (qR j x y hx A_)),yR _ _ hov hx⟩
     grind [List.getElem?_append_left,List.getElem?_append_right,Array.getElem?_append_left,Array.getElem?_append_right,List.size_toArray,aI.drew,vQ,List.length_append,Ct])
   (fun c hc=>by
     rcases List.mem_append.1 hc with hc|hc
     ·rcases List.mem_append.1 hc with hc|hc
      ·exact hof c hc
      ·exact zm4 c A_
     ·exact zz4 c hc)
  intro pos after gd next Q hn
  refine aY ?_ (hn G2 _ _ _ h3 ((aI.drew G w).trans h4) (hk _ _ (h.store.get_none h.aZ) hge))
  simp[execOp,resolve,invoke,builtin,e1,ev,bS]
 rcases VR.cW hbx with e1|⟨rfl,rfl,e1⟩
 ·rcases hold with⟨rfl,rfl⟩|⟨cs,hsb,hle,rfl⟩
  ·exact grow _ [] e1 BY BY Fl.nil rfl (run_firstCells_some w.drew sz 0 ⟨b,off,none⟩ 0 cap [] BY (fun j v hj=>K_)) (fun j c u hc=>O_)
  ·have hat:=h.store.at hsb hle
   obtain⟨us,u1,u2,u3⟩:=hat.lU
   have hfl:Fl (views (AB.sub cs off (k*sz))):=j_
   have hlen:(views (AB.sub cs off (k*sz))).length=k*sz:=by simp only[views,List.length_map];exact kI hle
   exact grow _ us e1 υ hlen hfl (p8 _) (run_firstCells_some w.drew sz k ⟨b,off,none⟩ k cap us υ u2) u3
 ·rcases hold with⟨_,rfl⟩|⟨cs,hsb,hle,rfl⟩
  ·exact grow none [] e1 BY BY Fl.nil rfl d_ (fun j c u hc=>O_)
  ·have:views (AB.sub cs off (0*sz))=[]:=by simp[AB.sub,views]
   rw[this]at grow
   exact grow none [] e1 BY BY Fl.nil rfl d_ (fun j c u hc=>O_)
end
section
variable{P:Program}{G G':Gh}{n:Nat}{D:List Deferred}{E:St}{a:Act}{w w':World}
def y5{t t' ty e:TypeId}(ht:P.underlying t=some (.slice e)){sz m k cap:Nat}(hs:di P e sz=true){R:Nat->Nat}{ds:List AV}{v:Value}{news:List Value}(h:vo P w R sz m ds v news){base:Option Addr}{w':World}
 (eJ:∀ad,base=some ad->(storeCells ad (news.take (min m k*sz))).run P w=.ok () w')(ZG:base=none->w'=w):
 (Builtin.copy_ #[t,t'] ty #[.slice base k cap,v]).run P w=.ok (.int .i64 (min m k:Nat)) w':=by
 have h1:=h.lenOf w
 have h2:=h.first (min m k) (Nat.min_le_left _ _) w rfl
 cases base with
 |none=>
  have:=ZG rfl
  subst this
  simp[Builtin.copy_,run_underlying ht,run_sizeOf hs,h1,h2,goInt]
 |some ad=>
  have h3:=eJ ad rfl
  simp[Builtin.copy_,run_underlying ht,run_sizeOf hs,h1,h2,h3,goInt]
theorem Qq(h:Inv G n D E a w){op:Op}{ty:TypeId}{sz:Nat}{x y:IX}{d:Option Nat}{K:St->Prop}(hd:bt n d=true)(hc:aw P op ty (.AD sz x y)=true)(hw:jq P (.AD sz x y) d E K):pq P G n D w a op ty d K:=by
 cases op<;>first|(simp[aw]at hc;done)|skip
 rename_i c
 simp only[aw]at hc
 split at hc<;>try(cases hc;done)
 rename_i u v t t' hb
 have hce:=qc hb
 subst hce
 simp only[Bool.and_eq_true]at hc
 obtain⟨⟨hu,hv⟩,hc⟩:=hc
 split at hc<;>try(cases hc;done)
 rename_i e ht
 have ht:=dj ht
 have hw':zr sz E d K (E.x x) (vL E.s sz (E.x y)):=hw
 have hbx:=XR.aR h hu
 generalize E.x x=xv at hw' hbx
 cases hsv:vL E.s sz (E.x y)with
 |none=>grind [zr]
 |some md=>
 obtain⟨m,ds⟩:=md
 rw[hsv]at hw'
 obtain⟨news,eP⟩:=D0 (P:=P) h hv hsv
 unfold zr at hw'
 split at hw'<;>try(exact hw'.elim)
 rename_i b off k cap _ _ he0
 injection he0 with he0;injection he0 with e1 e2;subst e1;subst e2
 rcases hw' with⟨yl,hk⟩|⟨cg,hk⟩
 ·intro pos after gd next Q hn
  refine aY (w':=w) (v:=.int .i64 0) ?_ (hn G _ _ _ (h.LG hd rfl (.int _ _) rfl) (aI.refl G w) hk)
  rcases VR.cW hbx with e1|⟨rfl,rfl,e1⟩
  ·have bS:=y5 (ty:=ty) (t':=t') (w:=w) ht hc eP (base:=some ⟨b,off,none⟩) (k:=k) (cap:=cap) (w':=w) (fun ad _=>by rw[yl];simp;rfl) (fun hh=>by cases hh)
   rw[yl]at bS
   simp[execOp,resolve,invoke,builtin,e1,bS]
  ·have bS:=y5 (ty:=ty) (t':=t') (w:=w) ht hc eP (base:=none) (k:=0) (cap:=0) (w':=w) (fun ad hh=>by cases hh) (fun _=>rfl)
   simp at bS
   simp[execOp,resolve,invoke,builtin,e1,bS]
 ·obtain⟨cs,hsb,dn⟩:=Ad cg
  rw[hsb]at hk
  have hk':K ({E with s:=E.s.set b (.cells (setAt cs off (ds.take (min m k*sz))))}.put d (.int .i64 (min m k:Nat))):=hk
  obtain⟨_,_,c,et,hcb,hcr,hcf⟩:=h.store b _ hsb
  have afQ:min m k*sz<=m*sz:=Nat.mul_le_mul_right _ (Nat.min_le_left _ _)
  have alX:min m k*sz<=k*sz:=Nat.mul_le_mul_right _ (Nat.min_le_right _ _)
  have hl1:(ds.take (min m k*sz)).length=min m k*sz:=by simp[eP.qi,afQ]
  have hl2:(news.take (min m k*sz)).length=min m k*sz:=by simp[eP.len,afQ]
  rcases VR.cW hbx with e1|⟨rfl,rfl,e1⟩
  ·obtain⟨h2,hp2⟩:=h.xt (off:=off) (ds:=ds.take (min m k*sz)) (news:=news.take (min m k*sz)) hsb hcb (by rw[hl1,hl2]) A_ (fun c hc=>eP.fl c (List.mem_of_mem_take hc))
    (by
      have:=eP.vw
      grind [views,List.map_take]) (fun j x y hx hy=>by
      rw[List.getElem?_take]at hx hy
      split at hx
      ·rename_i hj;rw[if_pos hj]at hy;exact eP.lU j x y hx hy
      ·cases hx)
   have afN:off+(news.take (min m k*sz)).length<=c.size:=by rw[hl2,hcr.1];omega
   have eJ:=dU (P:=P) b off et (0,0) (news.take (min m k*sz)) 0 c w hcb (fun j _ hj=>K_) A_ (fun u hu=>eP.one u (List.mem_of_mem_take hu))
   have bS:=y5 (ty:=ty) (t':=t') (w:=w) ht hc eP (base:=some ⟨b,off,none⟩) (k:=k) (cap:=cap) (w':=w.setRow b (laid c off (news.take (min m k*sz)))) (fun ad had=>θ) (fun hh=>by cases hh)
   intro pos after gd next Q hn
   refine aY ?_ (hn G _ _ _ (h2.LG hd rfl (.int _ _) rfl) hp2 hk')
   simp[execOp,resolve,invoke,builtin,e1,bS]
  ·have h0:min m 0=0:=Nat.min_zero m
   rw[h0,Nat.zero_mul,List.take_zero,Ai,pg hsb]at hk'
   have bS:=y5 (ty:=ty) (t':=t') (w:=w) ht hc eP (base:=none) (k:=0) (cap:=0) (w':=w) (fun ad hh=>by cases hh) (fun _=>rfl)
   intro pos after gd next Q hn
   refine aY (w':=w) ?_ (hn G _ _ _ (h.LG hd rfl (.int .i64 (0:Nat)) rfl) (aI.refl G w) hk')
   simp at bS
   simp[execOp,resolve,invoke,builtin,e1,bS]
theorem MP(h:Inv G n D E a w){op:Op}{ty:TypeId}{z:List AV}{x:IX}{d:Option Nat}{K:St->Prop}(hd:bt n d=true)(hc:aw P op ty (.tx z x)=true)(hw:jq P (.tx z x) d E K):pq P G n D w a op ty d K:=by
 cases op<;>first|(simp[aw]at hc;done)|skip
 rename_i c
 simp only[aw]at hc
 split at hc<;>try(cases hc;done)
 rename_i u us t ts hb
 have hce:=qc hb
 subst hce
 simp only[Bool.and_eq_true]at hc
 obtain⟨hu,hc⟩:=hc
 split at hc<;>try(cases hc;done)
 rename_i e ht
 have ht:=dj ht
 have hw':xT z E d K (E.x x):=hw
 have hbx:=XR.aR h hu
 generalize E.x x=xv at hw' hbx
 unfold xT at hw'
 split at hw'<;>try(exact hw'.elim)
 rename_i b off k cap
 obtain⟨v,hv1,_,hv2⟩:=uE hc
 obtain⟨z1,z2,z3',z4,z5⟩:=hv2 k
 have z3:∀(j:Nat)(x:AV)(y:Value),(List.replicate k z).flatten[j]? =some x->(Builtin.zeroCells v.cells k).toList[j]? =some y->VR w G.R x y:=fun j x y hx hy=>vQ (z3' j x y hx hy) w G.R
 rcases hw' with⟨hk0,hk⟩|⟨cg,hvw,hk⟩
 ·subst hk0
  intro pos after gd next Q hn
  refine aY (w':=w) (v:=.tuple #[]) ?_ (hn G _ _ _ (h.acB hd) (aI.refl G w) hk)
  rcases VR.cW hbx with e1|⟨_,rfl,e1⟩<;>simp[execOp,resolve,invoke,builtin,e1,Builtin.clear_,run_underlying ht]
 ·obtain⟨cs,hsb,dn⟩:=Ad cg
  rw[hsb]at hk
  have hk':K ({E with s:=E.s.set b (.cells (setAt cs off (List.replicate k z).flatten))}.put d (.jg [])):=hk
  obtain⟨_,_,c,et,hcb,hcr,hcf⟩:=h.store b _ hsb
  by_cases hk0:k=0
  ·subst hk0
   simp only[List.replicate_zero,List.flatten_nil,Ai,pg hsb]at hk'
   intro pos after gd next Q hn
   refine aY (w':=w) (v:=.tuple #[]) ?_ (hn G _ _ _ (h.acB hd) (aI.refl G w) hk')
   rcases VR.cW hbx with e1|⟨_,rfl,e1⟩<;>simp[execOp,resolve,invoke,builtin,e1,Builtin.clear_,run_underlying ht]
  ·rcases VR.cW hbx with e1|⟨h0,_,_⟩
   ·obtain⟨h2,hp2⟩:=h.xt (off:=off) (ds:=(List.replicate k z).flatten) (news:=(Builtin.zeroCells v.cells k).toList) hsb hcb (by rw[z1,z2]) A_ z4
     (by grind [views,List.map_replicate]) z3
    have eJ:=dU (P:=P) b off et (0,0) (Builtin.zeroCells v.cells k).toList 0 c w hcb (fun j _ hj=>K_) (by rw[z1,hcr.1];grind) z5
    have Tt:(storeCells ⟨b,off,none⟩ (Builtin.zeroCells v.cells k).toList).run P w=.ok () (w.setRow b (laid c off (Builtin.zeroCells v.cells k).toList)):=by simpa[laid]using eJ
    intro pos after gd next Q hn
    refine aY (v:=.tuple #[]) ?_ (hn G _ _ _ (h2.acB hd) hp2 hk')
    have bS:(Builtin.clear_ (t::ts).toArray ty (Array.map a.eval (u::us).toArray)).run P w=.ok (.tuple #[]) (w.setRow b (laid c off (Builtin.zeroCells v.cells k).toList)):=by
     obtain⟨k',rfl⟩:∃k',k=k'+1:=⟨k -1,AT⟩
     simp[Builtin.clear_,run_underlying ht,e1,hv1,Tt]
    simp[execOp,resolve,invoke,builtin]at bS⊢;simp[bS]
   grind
end
section
variable{P:Program}{G G':Gh}{n:Nat}{D:List Deferred}{E:St}{a:Act}{w w':World}
theorem Inv.frozen(h:Inv G n D E a w){d:Option Nat}(hd:bt n d=true){b off sz k cap:Nat}{cs:List AV}{own:Bool}(hs:E.s b=some (.cells cs))(dn:off+k*sz<=cs.length)(fI:k<=cap)(wU:own=true->off=0/\cs.length=off+cap*sz):
 ∃G',Inv G' n D ({E with s:=E.s.del b}.put d (.sl own sz k (views (AB.sub cs off (k*sz))))) (a.put d (.slice (some ⟨b,off,none⟩) k cap)) w/\aI G w G' w:=by
 obtain⟨q2,q3,c,t,q4,q5,q6⟩:=h.store b _ hs
 let ob:dp:=if own=true then BE d else .none
 let G':=G.pA b ob (off+k*sz)
 have bF:aI G w G' w:=⟨rfl,rfl,rfl,Nat.le_refl _,Nat.le_refl _,fun b' _=>by
  by_cases hb:b'=b
  ·grind
  ·simp[G',hb],fun _ _ _ _=>rfl,fun _ _ _=>rfl,fun b' _ hb'=>by
  have:b'≠b:=fun e=>A_
  simp[G',this,hb'],fun b' _ hb'=>by
  have:b'≠b:=fun e=>A_
  simp[G',this,hb']⟩
 have hlt:b<w.heap.size:=h.aZ.lt L_
 have kl:cE G' w:=⟨fun b' hb'=>by
  have:b'≠b:=AT
  simp[G',this,h.aZ.kc b' hb'],fun b' hb'=>by
  have:b'≠b:=AT
  simp[G',this,h.aZ.kV b' hb']⟩
 have same:∀b',G.O b'≠.sh\/b'≠b->G'.O b'=G.O b'/\G'.R b'=G.R b'/\w.heap[b']? =w.heap[b']? :=fun b' hb'=>by
  have:b'≠b:=by
   rcases hb' with hb'|hb'
   ·grind
   ·exact hb'
  exact⟨by simp[G',this],by simp[G',this],rfl⟩
 have eJ:bc G' w (E.s.del b):=by
  intro b' o hb'
  unfold ae.del at hb'
  split at hb'
  ·cases hb'
  ·rename_i hne
   obtain⟨r1,r2,r3⟩:=h.store b' o hb'
   refine⟨(same b' (.inr hne)).1.trans r1,(same b' (.inr hne)).2.1.trans r2,?_⟩
   cases o with
   |cells cs'=>
    obtain⟨c',t',r4,r5,r6⟩:=r3
    exact⟨c',t',r4,r5.mono (fun _ _ hv=>bF.vr h.aZ hv) (fun b'' j vB=>A_),r6⟩
   |map es=>
    obtain⟨jC,clock,r4,r5,r6⟩:=r3
    exact⟨jC,clock,r4,r5,fun j x y hx hy=>⟨bF.vr h.aZ (r6 j x y hx hy).1,bF.vr h.aZ (r6 j x y hx hy).2⟩⟩
 have hat:=h.store.at hs dn
 obtain⟨u,u1,u2,u3⟩:=hat
 have hlen:(views (AB.sub cs off (k*sz))).length=k*sz:=by simp only[views,List.length_map];exact kI dn
 have:=h.put (s':=E.s.del b) (lp':=E.lp) d (fun i hi=>IN) (.sl own sz k (views (AB.sub cs off (k*sz)))) (.slice (some ⟨b,off,none⟩) k cap) kl bF eJ (fun _ hx=>hx) (fun i t _ ht=>ht.elim) (fun i t _⟨cs',zA⟩=>by cases zA)
  (fun i b' _ hb'=>same b' (.inl A_))
  (fun i b' c' j _ _ hc'=>A_)
  (fun i hi=>by
    subst hi
    refine⟨.sl own sz k _ b off cap u u3 hlen (by rw[hlen];simp[G']) fI u1 (fun j x hj=>bF.vr h.aZ (u2 j x hj)),?_⟩
    cases own with
    |false=>trivial
    |true=>
     intro base m' cP hv _
     injection hv with e1 e2 e3
     subst e3
     exact⟨b,off,c,t,(0,0),e1.symm,by simp[G',ob,BE],by simp[G'],q4,by rw[q5.1,(wU rfl).2],fun j _ hj=>K_,Nat.le_refl _,(wU rfl).1,.inl rfl,fun j y _ hy=>by
      have hlt:j<cs.length:=by rw[<-q5.1];exact(Array.getElem?_eq_some_iff.1 hy).1
      exact rh (q6 _ (List.getElem_mem hlt)) (q5.2 j _ y (List.getElem?_eq_getElem hlt) hy).1⟩)
 exact⟨G',Xc4,bF⟩
def Inv.SQ(h:Inv G n D E a w){sz:Nat}{own:Bool}{d:Option Nat}{K:St->Prop}(hd:bt n d=true){xv:AV}{v:Value}(hbx:dJ xv=true->VR w G.R xv v)(hw':ye sz own E d K xv):∃(G':Gh)(E':St),Inv G' n D E' (a.put d v) w/\aI G w G' w/\K E':=by
 unfold ye at hw'
 split at hw'<;>try(exact hw'.elim)
 rename_i b off k cap
 replace hbx:=hbx rfl
 have empty:k=0->cap=0->off=0\/v=.slice none 0 0->Inv G n D (E.put d (.sl own sz 0 [])) (a.put d (v)) w:=by
  intro hk0 hc0 ajO
  subst hk0;subst hc0
  have hvr:VR w G.R (.sl own sz 0 []) (v):=by
   rcases VR.cW hbx with e1|⟨_,_,e1⟩
   ·rcases ajO with rfl|e2
    ·rw[e1];exact .sl own sz 0 [] b 0 0 (fun _=>undef) Fl.nil BY BY (Nat.le_refl _) (fun j c hj=>A_) (fun j c hj=>A_)
    grind
   ·rw[e1];exact .slnil _ _
  have:=h.put d (fun i hi=>IN) (.sl own sz 0 []) (v) h.aZ (aI.refl G w) h.store (fun _ hx=>hx) (fun i t _ ht=>ht.elim) (fun i t _⟨cs,hcs⟩=>A_)
   (fun _ _ _ _=>⟨rfl,rfl,rfl⟩) (fun _ _ _ _ _ _ hcc=>⟨hcc,rfl,rfl⟩) (fun i hdi=>by
     refine⟨hvr,?_⟩
     cases own with
     |false=>trivial
     |true=>
      intro base m' cP hv hc'
      rcases VR.cW hbx with e1|⟨_,_,e1⟩<;>rw[e1]at hv<;>injection hv with _ e2 e3<;>omega)
  cases d<;>exact this
 rcases hw' with⟨rfl,rfl,rfl,hk⟩|⟨jW,fI,wU,hk⟩
 ·exact⟨G,_,empty rfl rfl (.inl rfl),aI.refl G w,hk⟩
 ·cases hca:jU k sz off (E.s b)with
  |none=>rw[hca]at hk;exact hk.elim
  |some q=>
   obtain⟨q1,q2⟩:=q
   rw[hca]at hk
   obtain⟨cs,e1,e2,rfl,rfl⟩:=rU hca
   have CV:own=true->off=0/\cs.length=off+cap*sz:=fun ho=>by
    have:=(wU ho).2.2
    rw[e1]at this
    exact⟨(wU ho).1,this⟩
   obtain⟨G',h1,h2⟩:=h.frozen hd e1 e2 fI CV
   have e3:=VR.pJ hbx jW
   exact⟨G',_,A_,h2,hk⟩
theorem Wz(h:Inv G n D E a w){op:Op}{ty:TypeId}{sz:Nat}{own:Bool}{x:IX}{d:Option Nat}{K:St->Prop}(hd:bt n d=true)(hc:aw P op ty (.VU sz own x)=true)(hw:jq P (.VU sz own x) d E K):pq P G n D w a op ty d K:=by
 have key:∀y,bN y x=true->∃(G':Gh)(E':St),Inv G' n D E' (a.put d (a.eval y)) w/\aI G w G' w/\K E':=by
  intro y hy
  have hbx:=XR.aR h hy
  have hw':ye sz own E d (fun τ=>K (WJ x d τ)) (E.x x):=hw
  have hne:∀i,x=.t i->look E.e i≠.undef:=fun i e e2=>by
   subst e
   have e3:E.x (.t i)=.undef:=e2
   rw[e3]at hw';exact hw'
  generalize E.x x=xv at hw' hbx
  obtain⟨G',E',h1,h2,hk⟩:=h.SQ hd (v:=a.eval y) (fun hi=>by cases xv<;>first|exact hbx|grind [dJ]) hw'
  refine⟨G',_,?_,h2,hk⟩
  unfold WJ
  split
  ·rename_i i j
   split
   ·rename_i o z m cs he
    obtain rfl:=J9 hy
    have hj:j<n:=h1.Dq (by rw[he];simp)
    have hsz:a.tmps.size=n:=h.size
    have hlj:(a.put (some j) (a.eval (.tmp i))).tmps[j]? =some (a.eval (.tmp i)):=by simp[Act.put,hsz,hj]
    have hv:=(h1.cG j _ hlj)
    rw[he]at hv
    refine h1.LK i (h.Dq (hne i rfl)) _ (fun t ht=>ht) (fun cs' e=>f_) fun v hv'=>?_
    have hve:v=a.eval (.tmp i):=by
     by_cases hij:j=i
     ·grind
     ·simp only[Act.put,Array.getElem?_setIfInBounds_ne hij]at hv'
      show v=a.tmps.getD i undef
      simp_all
    rw[hve]
    exact⟨hv.1.view,trivial⟩
   ·exact h1
  ·exact h1
 intro pos after g next Q hn
 cases op<;>first|(simp[aw]at hc;done)|skip
 all_goals
  rename_i y
  obtain⟨G',E',h1,h2,hk⟩:=key y hc
  exact aY rfl (hn G' _ _ _ h1 h2 hk)
theorem Qs(h:Inv G n D E a w){op:Op}{ty:TypeId}{sz:Nat}{own:Bool}{x:IX}{d:Option Nat}{K:St->Prop}(hd:bt n d=true)(hc:aw P op ty (.AX sz own x)=true)(hw:jq P (.AX sz own x) d E K):pq P G n D w a op ty d K:=by
 cases op<;>first|(simp[aw]at hc;done)|skip
 simp[aw,Bool.and_eq_true]at hc
 obtain⟨⟨hs,hm⟩,hy⟩:=hc
 have hb:=BR.aR h hy
 have hw':Nw sz own E d K (rd E (xg true E x) 1):=hw
 cases hr:rd E (xg true E x) 1 with
 |none=>rw[hr]at hw';exact hw'.elim
 |some cs=>
  rw[hr]at hw'
  obtain⟨b,off,e,hl,hat,hvw⟩:=DN h hb hr
  match cs,hl,hw' with
  |[c],hl,⟨hi,hw'⟩=>
   obtain⟨v,bS,hvr⟩:=qk hs hm rfl hl hat
   obtain⟨G',E',h1,h2,hk⟩:=h.SQ hd (fun _=>hvr) hw'
   intro pos after g next Q hn
   exact aY (by simp[execOp,e,Instr.loadAt,Instr.sureAddr,bS]) (hn G' _ _ _ h1 h2 hk)
def DS(h:Inv G n D E a w)(bl off:Nat)(T:dp)(hT:T≠.sh/\(∀i,T≠.loc i)/\(∀i j,T≠.cell i j)):
 cE (G.gY (.cell bl off) T) w/\aI G w (G.gY (.cell bl off) T) w/\(∀b,G.O b≠.cell bl off->(G.gY (.cell bl off) T).O b=G.O b):=by
 have hne:∀b,G.O b≠.cell bl off->(G.gY (.cell bl off) T).O b=G.O b:=fun b hb=>H_
 exact⟨⟨fun b hb=>by rw[hne b (by rw[h.aZ.kc b hb];simp),h.aZ.kc b hb],h.aZ.kV⟩,
  ⟨rfl,rfl,rfl,Nat.le_refl _,Nat.le_refl _,fun _ _=>Nat.le_refl _,fun _ _ _ _=>rfl,fun _ _ _=>rfl,fun b _ hb=>⟨A_,rfl⟩,fun b _ hb=>⟨A_,rfl⟩⟩,hne⟩
def dS.gY{o T:dp}{av:AV}{v:Value}(h:dS G w o av v):dS (G.gY o T) w T av v:=by
 unfold dS at h⊢
 split
 ·intro base m' cap hv hc
  obtain⟨b,off,c,e,fz,q1,q2,q3⟩:=h base m' cap hv hc
  exact⟨b,off,c,e,fz,q1,by simp[q2],q3⟩
 ·intro base m' cap hv hc
  obtain⟨b,off,c,fz,q1,q2,q3⟩:=h base m' cap hv hc
  exact⟨b,off,c,fz,q1,by simp[q2],q3⟩
 ·trivial
def EO:AV->Bool
 |.sl _ _ _ _=>true
 |.bb _ _ _=>true
 |_=>false
theorem Gr{av:AV}(h:EO av=true):qH (view av)=true:=by cases av<;>first|rfl|(cases h)
theorem dF.take{bl off:Nat}{T:dp}{cs:List AV}{c:Array Value}{av:AV}(h:dF G w (.cell bl) cs c)(hcs:cs[off]? =some av):
 dF (G.gY (.cell bl off) T) w (.cell bl) (setAt cs off [view av]) c:=by
 refine⟨by rw[mA _ _ _ A_];exact h.1,fun j x y hx hy=>?_⟩
 rw[oj _ _ _ _ A_]at hx
 by_cases hj:j=off
 ·subst hj
  rw[if_pos ⟨Nat.le_refl _,BY⟩,Nat.sub_self]at hx
  injection hx with hx;subst hx
  exact⟨(h.2 j _ y hcs hy).1.view,dS.view ..⟩
 ·rw[if_neg A_]at hx
  obtain⟨h1,h2⟩:=h.2 j x y hx hy
  refine⟨h1,h2.mono fun b hb=>⟨?_,rfl,rfl⟩⟩
  simp_all
def loadT:Option Nat->dp
 |some i=>.slot i 0
 |none=>.frame
theorem F5(h:Inv G n D E a w){op:Op}{ty:TypeId}{x:IX}{d:Option Nat}{K:St->Prop}(hd:bt n d=true)(hc:aw P op ty (.nv x)=true)(hw:jq P (.nv x) d E K):pq P G n D w a op ty d K:=by
 cases op<;>first|(simp[aw]at hc;done)|skip
 rename_i t y
 simp only[aw,Bool.and_eq_true]at hc
 obtain⟨⟨⟨_,hs⟩,hm⟩,hy⟩:=hc
 have hbx:=XR.aR h hy
 have hw':qj E d K (E.x x):=hw
 have hT:loadT d≠.sh/\(∀i,loadT d≠.loc i)/\(∀i j,loadT d≠.cell i j):=by cases d<;>simp[loadT]
 have bS:∀(b off:Nat)(u:Value),a.eval y=.pointer (some ⟨b,off,none⟩)->w.cell? ⟨b,off,none⟩=some u->∀(pos:String)(after:Array Edge)(g:Option (Nat×Bool)),(execOp a.eval ⟨d,.load t y,ty,pos,after,g⟩).run P w=.ok (.value u) w:=by
  intro b off u e1 e2 pos after g
  have:(loadVar t ⟨b,off,none⟩).run P w=.ok u w:=by simp[loadVar,va hm,e2]
  simp[execOp,e1,Instr.loadAt,Instr.sureAddr,this]
 have agU:∀{G1:Gh}{σ1:St}{av:AV}{u:Value},EO av=true->Inv G1 n D σ1 a w->VR w G1.R av u->dS G1 w (loadT d) av u->Inv G1 n D (σ1.put d av) (a.put d u) w:=by
  intro G1 σ1 av u hsl h1 hv ho
  have hiv:dJ av=true:=by cases av<;>first|rfl|(cases hsl;done)
  have:=h1.put (s':=σ1.s) (lp':=σ1.lp) d (fun i hi=>IN) av u h1.aZ (aI.refl G1 w) h1.store (fun _ hx=>hx) (fun i t _ ht=>(fA hiv t ht).elim) (fun i t _⟨cs,hcs⟩=>(nP hiv cs hcs).elim)
   (fun _ _ _ _=>⟨rfl,rfl,rfl⟩) (fun _ _ _ _ _ _ hcc=>⟨hcc,rfl,rfl⟩) (fun i hdi=>by subst hdi;rw[ee.sm hiv];exact⟨hv,ho⟩)
  cases d<;>exact this
 have Vo:∀{off:Nat}{cs:List AV}{k:List AV->AV->Prop},kA off cs k->∃av,EO av=true/\cs[off]? =some av/\k (setAt cs off [view av]) av:=by
  intro off cs k hk
  unfold kA at hk
  split at hk
  ·rename_i ow sz m ds he;exact⟨_,rfl,he,hk⟩
  ·rename_i t m ds he;exact⟨_,rfl,he,hk⟩
  ·exact hk.elim
 have Vp:∀{off:Nat}{cs:List AV}{k:List AV->AV->Prop},sN off cs k->∃av,EO av=true/\cs[off]? =some av/\k (setAt cs off [view av]) av:=by
  intro off cs k hk
  unfold sN at hk
  split at hk
  ·rename_i ow sz m ds he;exact⟨_,rfl,he,hk⟩
  ·exact hk.elim
 generalize E.x x=xv at hw' hbx
 unfold qj at hw'
 split at hw'<;>try(exact hw'.elim)
 ·rename_i b off
  have e1:=VR.gk hbx
  cases hsb:E.s b with
  |none=>grind
  |some so=>
   cases so with
   |map es=>grind
   |cells cs=>
   rw[hsb]at hw'
   obtain⟨av,hsl,hcs,hk⟩:=Vo hw'
   obtain⟨q2,q3,c,et,q4,q5,q6⟩:=h.store b _ hsb
   have hlt:off<cs.length:=(List.getElem?_eq_some_iff.1 hcs).1
   have abu:off<c.size:=by rw[q5.1];exact hlt
   have ep:=Array.getElem?_eq_getElem abu
   obtain⟨hv,ho⟩:=q5.2 off _ _ hcs ep
   obtain⟨g1,g2,hne⟩:=DS h b off (loadT d) hT
   have eJ:bc (G.gY (.cell b off) (loadT d)) w (E.s.set b (.cells (setAt cs off [view av]))):=by
    intro b' o hb'
    unfold ae.set at hb'
    by_cases hbg:b'=b
    ·rw[if_pos hbg]at hb';injection hb' with hb';subst hb';subst hbg
     exact⟨A_,q3,c,et,q4,q5.take hcs,Eu.setAt q6 (by intro z hz;grind [List.mem_singleton,Gr]) off⟩
    ·rw[if_neg hbg]at hb'
     obtain⟨r1,r2,r3⟩:=h.store b' o hb'
     refine⟨A_,r2,?_⟩
     cases o with
     |cells cs'=>
      obtain⟨c0,t0,r4,r5,r6⟩:=r3
      exact⟨c0,t0,r4,r5.mono (fun _ _ hv=>hv) (fun b'' j vB=>⟨A_,rfl,rfl⟩),r6⟩
     |map es=>exact r3
   have h1:Inv (G.gY (.cell b off) (loadT d)) n D {E with s:=E.s.set b (.cells (setAt cs off [view av]))} a w:=
    ⟨g1,eJ,h.size,fun k v hkv=>ee.frame (G:=G) (G':=G.gY (.cell b off) (loadT d)) (w:=w) (w':=w) (tmps:=a.tmps) (PU:=a.tmps) (fun _ _ hv=>hv) (fun b' hb'=>⟨hne b' A_,rfl,rfl⟩)
      (fun b' c' j hb' hc'=>⟨A_,rfl,rfl⟩) _ _ (fun d _ cs hcs=>⟨cs,hcs,rfl⟩) (h.cG k v hkv),h.EB,h.Mj,h.qE⟩
   intro pos after g next Q hn
   exact aY (bS b off _ e1 (by grind [cell_of_row]) pos after g) (hn _ _ _ _ (agU hsl h1 hv ho.gY) g2 hk)
 ·rename_i i off
  cases hl:look E.e i<;>rw[hl]at hw'<;>first|exact hw'.elim|skip
  rename_i cs
  obtain⟨hdi,hw'⟩:=hw'
  obtain⟨av,hsl,hcs,hk⟩:=Vp hw'
  obtain⟨b,e1,e2⟩:=hbx
  have htm:=e2 cs hl
  have AK:=h.cG i _ htm
  rw[hl]at AK
  obtain⟨b',c,et,p1,p2,p3,p4,p5,p6⟩:=AK
  injection p1 with p1;injection p1 with p1;injection p1 with p1 _ _
  subst p1
  have hlt:off<cs.length:=(List.getElem?_eq_some_iff.1 hcs).1
  have abu:off<c.size:=by rw[p5.1];exact hlt
  have ep:=Array.getElem?_eq_getElem abu
  obtain⟨hv,ho⟩:=p5.2 off _ _ hcs ep
  obtain⟨g1,g2,hne⟩:=DS h b off (loadT d) hT
  have eJ:bc (G.gY (.cell b off) (loadT d)) w E.s:=h.store.mono h.aZ g2 (fun b' hb'=>⟨A_,rfl,rfl⟩)
   (fun b' c' j hb' hc'=>⟨A_,rfl,rfl⟩)
  have h1:Inv (G.gY (.cell b off) (loadT d)) n D (E.put (some i) (.loc (setAt cs off [view av]))) a w:=by
   refine⟨g1,eJ,h.size,fun k v hkv=>?_,fun k hk'=>?_,fun k d' hk'=>?_,h.qE⟩
   ·by_cases hki:i=k
    ·subst hki
     have:look (E.put (some i) (.loc (setAt cs off [view av]))).e i=.loc (setAt cs off [view av]):=Z_
     rw[this]
     rw[htm]at hkv;injection hkv with hkv;subst hkv
     exact⟨b,c,et,rfl,A_,p3,p4,p5.take hcs,Fl.setAt p6 (by intro z hz;grind [List.mem_singleton,Gr]) off⟩
    ·have:look (E.put (some i) (.loc (setAt cs off [view av]))).e k=look E.e k:=by simp[St.put,bj,hki]
     rw[this]
     refine ee.frame (G:=G) (G':=G.gY (.cell b off) (loadT d)) (w:=w) (w':=w) (tmps:=a.tmps) (PU:=a.tmps) (fun _ _ hv=>hv) (fun b' hb'=>⟨hne b' A_,rfl,rfl⟩)
      (fun b' c' j hb' hc'=>⟨A_,rfl,rfl⟩) _ _ (fun d' _ cs' zA=>?_) (h.cG k v hkv)
     by_cases hdi':i=d'
     ·grind
     ·simp only[St.put,bj,hdi',if_false]at zA
      grind
   ·by_cases hki:i=k
    ·subst hki
     have:=h.EB i hk'
     grind
    ·simp only[St.put,bj,hki,if_false];exact h.EB k hk'
   ·by_cases hki:i=k
    ·subst hki
     simp only[St.put,bj,if_true]at hk'
     exact hk'.elim
    ·simp only[St.put,bj,hki,if_false]at hk'
     exact h.Mj k d' hk'
  intro pos after g next Q hn
  exact aY (bS b off _ e1 (by grind [cell_of_row]) pos after g) (hn _ _ _ _ (agU hsl h1 hv ho.gY) g2 hk)
theorem Qr(h:Inv G n D E a w){op:Op}{ty:TypeId}{off:Nat}{j x:IX}{d:Option Nat}{K:St->Prop}(hd:bt n d=true)(hc:aw P op ty (.nw off j x)=true)(hw:jq P (.nw off j x) d E K):pq P G n D w a op ty d K:=by
 have hc':aw P op ty (.nv x)=true:=by cases op<;>first|exact hc|(done)
 exact F5 h hd hc' hw.2
theorem Wy(h:Inv G n D E a w){op:Op}{ty:TypeId}{ne:Bool}{x:IX}{d:Option Nat}{K:St->Prop}(hd:bt n d=true)(hc:aw P op ty (.ZB ne x)=true)(hw:jq P (.ZB ne x) d E K):pq P G n D w a op ty d K:=by
 cases op<;>first|(simp[aw]at hc;done)|skip
 rename_i b t u v yt
 simp only[aw,Bool.and_eq_true,decide_eq_true_eq]at hc
 obtain⟨⟨⟨rfl,hx⟩,hy⟩,ht⟩:=hc
 cases hel:cU P t with
 |none=>grind
 |some e=>
 have ht:=dj hel
 have e2:a.eval v=.slice none 0 0:=by
  split at hy
  ·rfl
  ·cases hy
 have hbx:=XR.aR h hx
 have hw':SC ne E d K (E.x x):=hw
 generalize E.x x=xv at hw' hbx
 have some_:∀(ad:Addr)(l c:Nat),a.eval u=.slice (some ad) l c->K (E.put d (.bool ne))->pq P G n D w a (.binOp (if ne=true then .neq else .eql) t u v yt) ty d K:=by
  intro ad l c e1 hk pos after g next Q hn
  have hr:(Op.equal t (.slice (some ad) l c) (.slice none 0 0)).run P w=.ok false w:=pS 9999 ht ad l c
  refine aY (v:=.bool ne) ?_ (hn G _ _ _ (h.LG hd rfl (.bool _) rfl) (aI.refl G w) hk)
  cases ne<;>simp[execOp,e1,e2,eqGuard,binOp,hr]
 have none_:a.eval u=.slice none 0 0->K (E.put d (.bool !ne))->pq P G n D w a (.binOp (if ne=true then .neq else .eql) t u v yt) ty d K:=by
  intro e1 hk pos after g next Q hn
  have key:∀q:Nat,(Op.equalIn (q+1) t (.slice none 0 0) (.slice none 0 0)).run P w=.ok true w:=fun q=>by simp[Op.equalIn,run_underlying ht]
  have hr:(Op.equal t (.slice none 0 0) (.slice none 0 0)).run P w=.ok true w:=key 9999
  refine aY (v:=.bool !ne) ?_ (hn G _ _ _ (h.LG hd rfl (.bool _) rfl) (aI.refl G w) hk)
  cases ne<;>simp[execOp,e1,e2,eqGuard,binOp,hr]
 unfold SC at hw'
 split at hw'<;>try(exact hw'.elim)
 ·rename_i ow sz m cs
  rcases VR.gq hbx with⟨(e1|⟨_,_,_,e1⟩),rfl,_⟩|⟨b,off,cap,e1,_⟩
  ·grind
  ·grind
  grind
 ·rename_i b off m cap
  rcases VR.cW hbx with e1|⟨_,rfl,e1⟩
  ·grind
  grind
theorem WB(h:Inv G n D E a w){op:Op}{ty:TypeId}{f:Nat}{x y:IX}{d:Option Nat}{K:St->Prop}(hd:bt n d=true)(hc:aw P op ty (.Z9 f x y)=true)(hw:jq P (.Z9 f x y) d E K):pq P G n D w a op ty d K:=by
 cases op<;>first|(simp[aw]at hc;done)|skip
 rename_i c
 obtain⟨callee,ys,ats⟩:=c
 simp only[aw]at hc
 split at hc<;>try(cases hc;done)
 rename_i g
 simp only[Bool.and_eq_true,beq_iff_eq]at hc
 obtain⟨rfl,hxs⟩:=hc
 obtain⟨ys⟩:=ys
 have hys:∃u v,ys=[u,v]/\bN u x=true/\bN v y=true:=by
  match ys,hxs with
  |[u,v],hxs=>
   simp only[gX,Bool.and_eq_true]at hxs
   grind
  |[],hxs=>cases hxs
  |[_],hxs=>simp[gX]at hxs
  |_::_::_::_,hxs=>simp[gX]at hxs
 obtain⟨u,v,rfl,hu,hv⟩:=hys
 have hbx:=XR.aR h hu
 have hby:=XR.aR h hv
 have hw':XP P f E d K (E.x x) (E.x y):=hw
 generalize E.x x=xv at hw' hbx
 generalize E.x y=yv at hw' hby
 unfold XP at hw'
 split at hw'<;>try(exact hw'.elim)
 rename_i ow sz l c0 cs0 b' o' l' cp'
 obtain⟨hov,hs2,hk⟩:=hw'
 rcases VR.gq hbx with⟨_,h0,_⟩|⟨b,o,cp,e1,hl,hR,fI,hat⟩
 ·cases h0
 have e2:=VR.pJ hby (Nat.succ_pos _)
 unfold cellsIn at hs2
 split at hs2<;>try(exact hs2.elim)
 rename_i ajV
 obtain⟨q0,q1',x2,t2,q1,q2,_⟩:=h.store b' _ ajV
 obtain⟨uu,ep,_,_⟩:=hat
 have hc0:=ep 0 c0 rfl
 have hblk:∃x1 t1 f1,w.heap[b]? =some (.cells x1 t1 f1)/\x1.size≠0:=by
  unfold World.cell? at hc0
  split at hc0
  ·grind
  ·cases hc0
 obtain⟨x1,t1,f1,p1,p2⟩:=hblk
 have hbb:b≠b':=fun e=>A_
 obtain⟨w',hr,r1,r2,r3,r4,r5⟩:=hov w b b' o (l+1) cp o' l' (cp'+1) t1 t2 x1 x2 f1 hbb p1 p2 q1 (by rw[q2.1];simp)
 have bF:aI G w G w':=⟨r2,r3,r4,r5,A_,fun _ _=>Nat.le_refl _,fun b k _ _=>zn r1 _,fun b _ _=>by rw[r1],fun b _ hb=>⟨hb,rfl⟩,fun b _ hb=>⟨hb,rfl⟩⟩
 have hg':cE G w':=⟨fun b hb=>h.aZ.kc b A_,fun b hb=>h.aZ.kV b A_⟩
 have hinv:Inv G n D (E.put d (.bool false)) (a.put d (.bool false)) w':=by
  have:=h.put (s':=E.s) (lp':=E.lp) d (fun i hi=>IN) (.bool false) (.bool false) hg' bF (h.store.mono h.aZ bF (fun b hb=>⟨hb,rfl,by rw[r1]⟩) (fun _ c j _ hc=>⟨hc,rfl,by rw[r1]⟩)) (fun _ hx=>hx) (fun i t _ ht=>ht.elim) (fun i t _⟨cs,hcs⟩=>Pc)
   (fun _ _ _ _=>⟨rfl,rfl,by rw[r1]⟩) (fun _ _ _ _ _ _ hcc=>⟨hcc,rfl,by rw[r1]⟩) (fun i hdi=>⟨.bool _,trivial⟩)
  cases d<;>exact this
 intro pos after gd next Q hn
 grind [aY,bool,execOp,resolve,Act.eval,Deferred.ofValue,invoke]
theorem FL(a b:List AV):views (a++b)=views a++views b:=bY
theorem Qn(h:Inv G n D E a w){op:Op}{ty:TypeId}{f i:Nat}{args:List IX}{d:Option Nat}{K:St->Prop}(hd:bt n d=true)(hc:aw P op ty (.xQ f i args)=true)(hw:jq P (.xQ f i args) d E K):pq P G n D w a op ty d K:=by
 have hcc:aw P op ty (.call f args)=true:=by
  cases op<;>first|(simp[aw]at hc;done)|skip
  simp only[aw,Bool.and_eq_true]at hc
  exact hc.2
 have hw':aaB i E (fun τ=>vR P f τ d K (cN (xg true τ) args)) (look E.e i):=hw
 have later:∀(G1:Gh)(τ:St),Inv G1 n D τ a w->aI G w G1 w->vR P f τ d K (cN (xg true τ) args)->pq P G n D w a op ty d K:=by
  intro G1 τ h1 hp hk pos after g next Q hn
  exact Ku h1 hd hcc hk pos after g next Q fun G' E' a' w' k1 k2 k3=>hn G' E' a' w' k1 (hp.trans k2) k3
 cases hl:look E.e i<;>rw[hl]at hw'<;>first|exact hw'.elim|skip
 rename_i sz m cs
 obtain⟨hw1,hw2⟩:=hw'
 have hin:i<n:=h.Dq (by rw[hl];simp)
 have hlt:i<a.tmps.size:=Xc3
 have hs:=h.cG i _ (Array.getElem?_eq_getElem hlt)
 rw[hl]at hs
 rcases hs with⟨h1,h2,h3⟩|⟨b,cap,c,t,sp,h1,h2,h3,h4,h5,h6,h7,h8,h9,h10,h11,h12⟩
 ·subst h1;subst h2
  rcases h3 with h3|⟨b,off,h3⟩
  ·refine later G _ (h.LK i hin (.arr 0 0 0 0) (fun t ht=>ht) (fun cs e=>f_) fun v hv=>?_) (aI.refl G w) (hw2 rfl 0 0)
   rw[Array.getElem?_eq_getElem hlt]at hv;injection hv with hv;subst hv
   exact⟨by rw[h3];exact .HC _ _,trivial⟩
  ·refine later G _ (h.LK i hin (.arr b off 0 0) (fun t ht=>ht) (fun cs e=>f_) fun v hv=>?_) (aI.refl G w) (hw2 rfl b off)
   rw[Array.getElem?_eq_getElem hlt]at hv;injection hv with hv;subst hv
   exact⟨by rw[h3];exact .arr _ _ _ _,trivial⟩
 ·have ZG:E.s b=none:=by
   cases hsb:E.s b with
   |none=>rfl
   |some o=>have:=(h.store b o hsb).1;grind
  have al3:views sp=sp:=by
   have:views cs++views sp=cs++sp:=by rw[<-FL];exact h12
   exact(List.append_inj this bY).2
  let G1:Gh:=G.pA b .sh 0
  have same:∀b',b'≠b->G1.O b'=G.O b'/\G1.R b'=G.R b'/\w.heap[b']? =w.heap[b']? :=fun b' hb'=>⟨by simp[G1,hb'],by simp[G1,hb'],rfl⟩
  have hRe:∀b',G1.R b'=G.R b':=fun b'=>by
   by_cases hb:b'=b
   ·subst hb;simp[G1,h5]
   grind
  have bF:aI G w G1 w:=⟨rfl,rfl,rfl,Nat.le_refl _,Nat.le_refl _,fun b' _=>A_,fun _ _ _ _=>rfl,fun _ _ _=>rfl,fun b' _ hb'=>by
   grind,fun b' _ hb'=>by
   grind⟩
  have hbl:b<w.heap.size:=h.aZ.lt (by rw[h4];simp)
  have kl:cE G1 w:=⟨fun b' hb'=>by
   have:b'≠b:=AT
   rw[(same b' this).1,h.aZ.kc b' hb'],fun b' hb'=>by rw[hRe,h.aZ.kV b' hb']⟩
  have eJ:bc G1 w (E.s.set b (.cells (cs++sp))):=by
   intro b' o hb'
   unfold ae.set at hb'
   by_cases hbg:b'=b
   ·rw[if_pos hbg]at hb';injection hb' with hb';subst hb';subst hbg
    refine⟨by simp[G1],by simp[G1],c,t,h6,⟨by rw[h7,h9],fun j x y hx hy=>⟨bF.vr h.aZ (h10 j x y hx hy),?_⟩⟩,h11.tag _⟩
    grind [fh,dS.view]
   ·rw[if_neg hbg]at hb'
    obtain⟨r1,r2,r3⟩:=h.store b' o hb'
    refine⟨(same b' hbg).1.trans r1,(same b' hbg).2.1.trans r2,?_⟩
    cases o with
    |cells cs'=>
     obtain⟨c0,t0,r4,r5,r6⟩:=r3
     exact⟨c0,t0,r4,r5.mono (fun _ _ hv=>bF.vr h.aZ hv) (fun b'' j vB=>A_),r6⟩
    |map es=>
     obtain⟨jC,clock,r4,r5,r6⟩:=r3
     exact⟨jC,clock,r4,r5,fun j x y hx hy=>⟨bF.vr h.aZ (r6 j x y hx hy).1,bF.vr h.aZ (r6 j x y hx hy).2⟩⟩
  have h1':Inv G1 n D ({E with s:=E.s.set b (.cells (cs++sp))}.put (some i) (.arr b 0 m cap)) a w:=by
   have ha:a.put (some i) a.tmps[i]=a:=by
    have:a.tmps.setIfInBounds i a.tmps[i]=a.tmps:=by rw[Array.setIfInBounds,dif_pos hlt,Array.set_getElem_self]
    simp[Act.put,this]
   have:=h.put (s':=E.s.set b (.cells (cs++sp))) (lp':=E.lp) (some i) (fun j hj=>A_) (.arr b 0 m cap) a.tmps[i] kl bF eJ (fun _ hx=>hx) (fun j t _ ht=>ht.elim) (fun j t _⟨cs,hcs⟩=>Pc)
    (fun j b' hj hb'=>same b' (fun e=>A_))
    (fun j b' c' q _ _ hc'=>A_)
    (fun j hj=>by
      injection hj with hj;subst hj
      exact⟨by rw[h3];exact .arr _ _ _ _,trivial⟩)
   rw[ha]at this
   exact this
  grind
theorem Pp{R:Nat->Nat}{sz:Nat}{c:AV}{u:Value}(h:VR w R c u):VR w R (s9 sz c) u:=by
 unfold s9
 split
 ·rename_i b
  rcases VR.cW h with e|⟨_,_,e⟩
  ·rw[e];exact .sl true sz 0 [] b 0 0 (fun _=>undef) Fl.nil BY BY (Nat.le_refl _) (fun j c hj=>A_) (fun j c hj=>A_)
  ·rw[e];exact .slnil _ _
 ·exact h
theorem Lq{R:Nat->Nat}{o:dp}{sz:Nat}{c:AV}{u:Value}(h:VR w R c u):dS G w o (s9 sz (view c)) u:=by
 unfold s9
 split
 ·rename_i b hb
  have:c=.arr b 0 0 0:=by cases c<;>simp[view]at hb<;>simp[hb]
  subst this
  intro base m cap hv hc
  rcases VR.cW h with e|⟨_,_,e⟩<;>rw[e]at hv<;>injection hv with _ e2 e3<;>omega
 ·exact dS.view ..
def GM{sz:Nat}{c:AV}(h:qH c=true):qH (s9 sz c)=true:=by
 unfold s9
 split
 ·rfl
 ·exact h
def L5{sz:Nat}{av:AV}{v:Value}(hi:dJ av=true)(h:VR w G.R av v):Fl (cO sz av)/\v.cells.toList.length=(cO sz av).length/\(∀(j:Nat)(x:AV)(y:Value),(cO sz av)[j]? =some x->v.cells.toList[j]? =some y->VR w G.R x y)/\
 (∀y∈v.cells.toList,y.oneCell'=true):=by
 obtain⟨h1,h2,h3,h4⟩:=D3 hi h
 cases av with
 |agg cs=>
  simp[bB]at h1 h2 h3
  refine⟨fun c hc=>?_,by grind [cO,List.length_map],fun j x y hx hy=>?_,h4⟩
  ·simp[cO,List.mem_map]at hc
   obtain⟨c',hc',rfl⟩:=hc
   exact GM (h1 c' hc')
  grind [cO,views,Pp]
 |_=>exact⟨h1,h2,h3,h4⟩
theorem MU(h:Inv G n D E a w){op:Op}{ty:TypeId}{sz m:Nat}{p v:IX}{d:Option Nat}{K:St->Prop}(hd:bt n d=true)(hc:aw P op ty (.ux sz m p v)=true)(hw:jq P (.ux sz m p v) d E K):pq P G n D w a op ty d K:=by
 cases op<;>first|(simp[aw]at hc;done)|skip
 rename_i t q u
 simp only[aw,Bool.and_eq_true]at hc
 obtain⟨⟨hs,hq⟩,hu⟩:=hc
 obtain⟨hi,hm,hk⟩:=hw
 have hvr:VR w G.R (E.x v) (a.eval u):=by
  have:=XR.aR h hu
  generalize E.x v=av at hi this
  cases av<;>first|exact this|grind [dJ]
 have target:∃g off fX,a.eval q=.pointer (some ⟨g,off,none⟩)/\
  ((∃i,look E.e i=.loc fX/\a.tmps[i]? =some (.pointer (some ⟨g,0,none⟩))/\FM (E.drain v) (E.x p) p (cO sz (E.x v))=wrL (E.drain v) i (eU off (cO sz (E.x v)) fX))\/
   (E.s g=some (.cells fX)/\FM (E.drain v) (E.x p) p (cO sz (E.x v))=wrS (E.drain v) g (eU off (cO sz (E.x v)) fX))):=by
  have hb:=XR.aR h hq
  cases hp:E.x p with
  |loc fX=>
   rw[hp]at hb
   obtain⟨i,b,c,t',e1,e2,e3,e4,_⟩:=hb
   refine⟨b,0,fX,e4,.inl ⟨i,e2,by rw[e3,e4],?_⟩⟩
   subst e1;rfl
  |lp d0 off=>
   rw[hp]at hb hk
   obtain⟨b,e1,e2⟩:=hb
   have hk':PI d K (Ht (E.drain v) d0 off (cO sz (E.x v)) (look (E.drain v).e d0)):=hk
   cases hl:look (E.drain v).e d0<;>rw[hl]at hk'<;>first|exact hk'.elim|skip
   rename_i fX
   have hl':=Dl hi hl
   exact⟨b,off,fX,e1,.inl ⟨d0,hl',e2 fX hl',by show Ht _ _ _ _ (look (E.drain v).e d0)=_;rw[hl];rfl⟩⟩
  |ref b off=>
   rw[hp]at hb hk
   have e1:=VR.gk hb
   have hk':PI d K (Oj (E.drain v) b off (cO sz (E.x v)) ((E.drain v).s b)):=hk
   have hs':(E.drain v).s=E.s:=Ψ
   rw[hs']at hk'
   cases hl:E.s b with
   |none=>rw[hl]at hk';exact hk'.elim
   |some so=>
    cases so with
    |map es=>rw[hl]at hk';exact hk'.elim
    |cells fX=>exact⟨b,off,fX,e1,.inr ⟨hl,by show Oj _ _ _ _ ((E.drain v).s b)=_;rw[hs',hl];rfl⟩⟩
  |_=>rw[hp]at hk;exact hk.elim
 obtain⟨g,off,fX,e1,abA⟩:=target
 obtain⟨G1,h1,hp1,hv1,qN,hR1,hsh,Na,ep⟩:=h.drain hu hi (.cell g off) BY BY
 obtain⟨hfl,hlen,qR,EL⟩:=L5 (sz:=sz) hi hv1
 have CV:∀(j:Nat)(x:AV)(y:Value),(cO sz (E.x v))[j]? =some x->(a.eval u).cells.toList[j]? =some y->VR w G1.R x y/\dS G1 w (.cell g (off+j)) x y:=by
  intro j x y hx hy
  refine⟨qR j x y hx hy,?_⟩
  cases hv:E.x v with
  |agg cs=>grind [VR.uO,cO,fh,Lq,Value.cells]
  |sl o s l cs=>
   rw[hv]at hx qN hv1
   cases j with
   |succ j=>simp[cO]at hx
   |zero=>
   simp[cO]at hx
   subst hx
   have:(a.eval u).cells= #[a.eval u]:=by rcases VR.gq hv1 with⟨(e|⟨_,_,_,e⟩),_⟩|⟨_,_,_,e,_⟩<;>rw[e]<;>rfl
   grind
  |bb t l cs=>
   rw[hv]at hx qN hv1
   cases j with
   |succ j=>simp[cO]at hx
   |zero=>
   simp[cO]at hx
   subst hx
   have abB:VR w G1.R (.sl true 1 l cs) (a.eval u):=by cases hv1;assumption
   have:(a.eval u).cells= #[a.eval u]:=by rcases VR.gq abB with⟨(e|⟨_,_,_,e⟩),_⟩|⟨_,_,_,e,_⟩<;>rw[e]<;>rfl
   grind
  |_=>
   rw[hv]at hx
   cases j with
   |succ j=>simp[cO]at hx
   |zero=>simp[cO]at hx;subst hx;trivial
 have KL:(a.eval u).cells.toList.length=m:=by rw[hlen,hm]
 have qO:∀(τ:St)(w':World),Inv G1 n D τ a w'->Inv G1 n D (τ.put d (.jg [])) (a.put d undef) w':=by
  intro τ w' hτ
  have:=hτ.put (s':=τ.s) (lp':=τ.lp) d (fun i hi=>IN) (.jg []) undef hτ.aZ (aI.refl G1 w') hτ.store (fun _ hx=>hx) (fun i t _ ht=>ht.elim) (fun i t _⟨cs,hcs⟩=>Pc)
   (fun _ _ _ _=>⟨rfl,rfl,rfl⟩) (fun _ _ _ _ _ _ hcc=>⟨hcc,rfl,rfl⟩) (fun i hdi=>⟨#[],rfl,rfl,fun j x y hx=>T_⟩)
  cases d<;>exact this
 rcases abA with⟨i,e2,e3,e4⟩|⟨e2,e4⟩
 ·
  rw[e4]at hk
  cases hwr:eU off (cO sz (E.x v)) fX with
  |none=>rw[hwr]at hk;exact hk.elim
  |some cs'=>
   rw[hwr]at hk
   obtain⟨dn,rfl⟩:=sC hwr
   have e2':look (E.drain v).e i=.loc fX:=AY hi e2
   have AK:=h1.cG i _ e3
   rw[e2']at AK
   obtain⟨b,c,t',q1,q2,q3,q4,q5,q6⟩:=AK
   injection q1 with q1;injection q1 with q1;injection q1 with q1 _ _
   subst q1
   have hne:∀j,G1.O g≠.cell g j:=fun j=>L_
   have vW:off+(a.eval u).cells.toList.length<=c.size:=Φ
   have bS:=nW (P:=P) hs q4 (v:=a.eval u) A_ Ξ EL
   have bF:aI G1 w G1 (w.setRow g (laid c off (a.eval u).cells.toList)):=aI.write q4 L_ (fun k hk=>A_) (Nat.le_refl _) (fun _ _=>⟨rfl,rfl⟩)
   have mc:=dF.lay q4 bF h1.aZ q5 hlen dn hne CV
   obtain⟨h2,_⟩:=h1.written (E':=(E.drain v).put (some i) (.loc (setAt fX off (cO sz (E.x v))))) q4 (.inl ⟨i,q2⟩) q3 rfl
    (h1.store.mono h1.aZ bF (fun b hb=>⟨hb,rfl,setRow_other w g b _ (fun e=>A_)⟩) (fun b c j _ hc=>⟨hc,rfl,setRow_other w g c _ (fun e=>A_)⟩))
    (fun k=>by grind [q2,St.put,bj,Fl.setAt])
   intro pos after gd next Q hn
   exact rH (w':=w.setRow g (laid c off (a.eval u).cells.toList)) Δ (hn G1 _ _ _ (qO _ _ h2) (hp1.trans bF) hk)
 ·
  rw[e4]at hk
  cases hwr:eU off (cO sz (E.x v)) fX with
  |none=>rw[hwr]at hk;exact hk.elim
  |some cs'=>
   rw[hwr]at hk
   obtain⟨dn,rfl⟩:=sC hwr
   have hs':(E.drain v).s=E.s:=Ψ
   obtain⟨q2,q3,c,t',q4,q5,q6⟩:=h1.store g (.cells fX) A_
   have hne:∀j,G1.O g≠.cell g j:=fun j=>L_
   have vW:off+(a.eval u).cells.toList.length<=c.size:=Φ
   have bS:=nW (P:=P) hs q4 (v:=a.eval u) A_ Ξ EL
   have bF:aI G1 w G1 (w.setRow g (laid c off (a.eval u).cells.toList)):=aI.write q4 L_ (fun k hk=>A_) (Nat.le_refl _) (fun _ _=>⟨rfl,rfl⟩)
   have mc:=dF.lay q4 bF h1.aZ q5 hlen dn hne CV
   have eJ:bc G1 (w.setRow g (laid c off (a.eval u).cells.toList)) ((E.drain v).s.set g (.cells (setAt fX off (cO sz (E.x v))))):=by
    intro b o hb
    unfold ae.set at hb
    by_cases hbg:b=g
    ·rw[if_pos hbg]at hb;grind [q2,setRow_heap,Eu.setAt]
    ·rw[if_neg hbg]at hb
     obtain⟨r1,r2,r3⟩:=h1.store b o hb
     refine⟨r1,r2,?_⟩
     have hbk:=setRow_other w g b (laid c off (a.eval u).cells.toList) hbg
     cases o with
     |cells cs=>
      obtain⟨c0,t0,r4,r5,r6⟩:=r3
      exact⟨c0,t0,hbk.trans r4,r5.mono (fun _ _ hv=>bF.vr h1.aZ hv) (fun b' j hb'=>⟨hb',rfl,setRow_other w g b' _ (fun e=>A_)⟩),r6⟩
     |map es=>
      obtain⟨jC,clock,r4,r5,r6⟩:=r3
      exact⟨jC,clock,hbk.trans r4,r5,fun j x y hx hy=>⟨bF.vr h1.aZ (r6 j x y hx hy).1,bF.vr h1.aZ (r6 j x y hx hy).2⟩⟩
   obtain⟨h2,_⟩:=h1.written (E':={E.drain v with s:=(E.drain v).s.set g (.cells (setAt fX off (cO sz (E.x v))))}) q4 (.inr q2) q3 rfl eJ
    (fun k=>.inl ⟨rfl,L_⟩)
   intro pos after gd next Q hn
   exact rH (w':=w.setRow g (laid c off (a.eval u).cells.toList)) Δ (hn G1 _ _ _ (qO _ _ h2) (hp1.trans bF) hk)
theorem Su(h:Inv G n D E a w){op:Op}{ty:TypeId}{sz m:Nat}{x:IX}{d:Option Nat}{K:St->Prop}(hd:bt n d=true)(hc:aw P op ty (.JZ sz m x)=true)(hw:jq P (.JZ sz m x) d E K):pq P G n D w a op ty d K:=by
 cases op<;>first|(simp[aw]at hc;done)|skip
 rename_i t y
 simp only[aw,Bool.and_eq_true]at hc
 obtain⟨hi,_,hk⟩:=hw
 have hvr:VR w G.R (E.x x) (a.eval y):=by
  have:=XR.aR h hc.2
  generalize E.x x=av at hi this
  cases av<;>first|exact this|grind [dJ]
 have dE:=iK hi hvr
 have hcs:∀(G':Gh)(w':World)(o:Nat->dp),aI G w G' w'->dF G' w' o ((views (cellsOf (E.x x))).map (s9 sz)) (a.eval y).cells:=by
  intro G' w' o hp
  refine⟨by simp only[List.length_map,views];exact dE.1,fun j c u hcj hu=>?_⟩
  simp only[List.getElem?_map]at hcj
  rw[fh]at hcj
  cases hz:(cellsOf (E.x x))[j]? with
  |none=>grind
  |some c0=>
   rw[hz]at hcj;simp at hcj
   have h1:=hp.vr h.aZ (dE.2.1 j c0 u hz hu)
   rw[<-hcj]
   exact⟨Pp h1.view,Lq h1⟩
 have hfl:Fl ((views (cellsOf (E.x x))).map (s9 sz)):=by
  intro c hc'
  simp only[List.mem_map]at hc'
  obtain⟨c',h1,rfl⟩:=hc'
  exact GM (dE.2.2.views c' h1)
 intro pos after g next Q hn
 obtain⟨G',h1,h2⟩:=h.NB hd (t:=t) (.inl ⟨rfl,rfl⟩) hcs hfl
 refine aY ?_ (hn G' _ _ _ h1 h2 (hk w.heap.size (h.store.get_none h.aZ)))
 simp[execOp,Instr.box,newVar,newRow]
end
end Go.AB
end
