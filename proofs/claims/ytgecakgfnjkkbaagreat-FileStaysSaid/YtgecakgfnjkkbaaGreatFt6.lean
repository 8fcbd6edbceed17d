/- A part. -/
import Derived.Test.YtgecakgfnjkkbaaGreatFt5
set_option linter.unusedSimpArgs false
set_option linter.unusedVariables false
section
namespace Go.AB
open Go
section
variable{P:Program}{G G':Gh}{n:Nat}{D:List Deferred}{E:St}{a:Act}{w w':World}
theorem a8.at(h:a8 G w E.s){b off m:Nat}{cs:List AV}(hs:E.s b=some (.cells cs))(df:off+m<=cs.length):At w G.R b off (AB.views (AB.sub cs off m)):=by
 obtain⟨_,_,c,t,h4,h5,h6⟩:=h b _ hs
 have hat:=(At.EH h4 h5 h6).sub off m
 rwa[Nat.zero_add,Fa]at hat
structure tC(P:Program)(w:World)(R:Nat->Nat)(sz m:Nat)(ds:List AV)(v:Value)(news:List Value):Prop where
 len:news.length=m*sz
 oO:ds.length=m*sz
 lenOf:∀w',(Builtin.lenOf v).run P w'=.ok m w'
 first:∀k,k<=m->∀w',w'.heap=w.heap->(Builtin.firstCells sz k v).run P w'=.ok (news.take (k*sz)).toArray w'
 one:∀u∈news,u.oneCell'=true
 kZ:∀(j:Nat)(c:AV)(u:Value),ds[j]? =some c->news[j]? =some u->VR w R c u
 fl:Fl ds
 vw:views ds=ds
theorem oD(ds:List AV):views (views ds)=views ds:=by
 unfold views
 rw[List.map_map]
 apply List.map_congr_left
 intro a _
 cases a<;>rfl
theorem tC.src{R:Nat->Nat}{sz m:Nat}{ds:List AV}{v:Value}{news:List Value}(h:tC P w R sz m ds v news):Src P w R sz m ds v news:=⟨h.len,h.oO,h.lenOf,fun w' hw'=>by rw[h.first m (Nat.le_refl m) w' hw',List.take_of_length_le (by rw[h.len];grind)],h.one,h.kZ,h.fl⟩
theorem tC.Xo{R:Nat->Nat}{sz m b off cap:Nat}{cs:List AV}(hl:cs.length=m*sz)(hat:At w R b off cs):∃news,tC P w R sz m (views cs) (.slice (some ⟨b,off,none⟩) m cap) news:=by
 have QB:=hat.views
 obtain⟨us,h1,h2,h3⟩:=QB.kZ
 have hfl:Fl (views cs):=by obtain⟨_,_,_,hf⟩:=QB;exact hf
 have hlen:(views cs).length=m*sz:=by simp[views,hl]
 refine⟨us,by omega,hlen,fun _=>rfl,fun k hk w' hw'=>?_,fun u hu=>?_,h3,hfl,oD cs⟩
 ·grind [Nat.mul_le_mul_right,run_firstCells_some,DY]
 ·obtain⟨j,hj⟩:=List.mem_iff_getElem?.1 hu
  have hlt:j<(views cs).length:=by grind
  have hx:=List.getElem?_eq_getElem hlt
  exact iE (hfl _ (List.getElem_mem hlt)) (h3 j _ u hx hj)
theorem tC.empty{R:Nat->Nat}{sz cap:Nat}{base:Option Addr}:tC P w R sz 0 [] (.slice base 0 cap) []:=
 ⟨by simp,by simp,fun _=>rfl,fun k hk w' _=>by
   have:k=0:=by omega
   subst this
   cases base with
   |none=>simp[Builtin.firstCells]
   |some x=>simp[Builtin.firstCells,loadCells,loadCellsFrom],fun u hu=>by grind,fun j c u hc=>by simp,Fl.nil,rfl⟩
theorem tC.str{R:Nat->Nat}{l:List UInt8}:tC P w R 1 l.length (l.map fun c=>.int .u8 c.toNat) (.string ⟨l.toArray⟩) (l.map fun c=>.int .u8 c.toNat)where
 len:=by simp
 oO:=by simp
 lenOf:=fun w'=>by rfl
 first:=fun k hk w' _=>by
  have:((ByteArray.mk l.toArray).extract 0 k).data=(l.take k).toArray:=by simp
  simp[Builtin.firstCells,this]
 one:=(Src.GF (P:=P) (w:=w) (R:=R)).one
 kZ:=(Src.GF (P:=P)).kZ
 fl:=AM l
 vw:=by simp[views,view]
theorem qi{m sz off:Nat}{o:Option SO}{k:Nat}{ds:List AV}(h:jl m sz off o=some (k,ds)):∃cs,o=some (.cells cs)/\off+m*sz<=cs.length/\k=m/\ds=views (AB.sub cs off (m*sz)):=by
 unfold jl at h
 grind
theorem Ce(h:Inv G n D E a w){sz m:Nat}{x:IX}{o:Operand}{ds:List AV}(hx:bI o x=true)(hs:tV E.s sz (E.x x)=some (m,ds)):∃news,tC P w G.R sz m ds (a.eval o) news:=by
 have hb:=XR.aV h hx
 generalize E.x x=av at hb hs
 unfold tV at hs
 split at hs
 ·rename_i ow s' k cs
  by_cases he:s'=sz
  ·subst he
   rw[beq_self_eq_true]at hs
   injection hs with hs;injection hs with h1 h2;subst h1;subst h2
   rcases VR.il hb with⟨e0,rfl,rfl⟩|⟨b,off,cap,e,hl,_,_,hat⟩
   ·obtain⟨_,_,e⟩:=e0.ex
    rw[e];exact⟨[],tC.empty⟩
   ·rw[e];exact tC.Xo hl hat
  ·rw[show(s'==sz)=false by grind]at hs
   by_cases hk:k=0
   ·subst hk
    injection hs with hs;injection hs with h1 h2;subst h1;subst h2
    rcases VR.il hb with⟨(e|⟨_,_,_,e⟩),_,_⟩|⟨b,off,cap,e,_⟩<;>rw[e]<;>exact⟨[],tC.empty⟩
   grind
 ·by_cases he:sz=1
  ·subst he
   injection hs with hs;injection hs with h1 h2;subst h1;subst h2
   rw[VR.fJ hb];exact⟨_,tC.str⟩
  grind
 ·rename_i b off k cap
  by_cases hk:k=0
  ·subst hk
   injection hs with hs;injection hs with h1 h2;subst h1;subst h2
   rcases VR.cP hb with e|⟨_,_,e⟩<;>rw[e]<;>exact⟨[],tC.empty⟩
  ·rw[show(k==0)=false by grind]at hs
   obtain⟨cs,e1,e2,rfl,rfl⟩:=qi hs
   rcases VR.cP hb with e|⟨h0,_,_⟩
   ·rw[e]
    have hsn:=tC.Xo (P:=P) (cap:=cap) (show(AB.views (AB.sub cs off (m*sz))).length=m*sz by simp[views,jP e2]) (h.store.at e1 e2)
    rwa[oD]at hsn
   grind
 ·cases hs
theorem Inv.vL(h:Inv G n D E a w){b off:Nat}{cs ds:List AV}{news:List Value}{c:Array Value}{t:TypeId}(hs:E.s b=some (.cells cs))(hb:w.heap[b]? =some (.cells c t (0,0)))
 (hlen:news.length=ds.length)(df:off+ds.length<=cs.length)(hfl:Fl ds)(hvw:views ds=ds)(rQ:∀(j:Nat)(x:AV)(y:Value),ds[j]? =some x->news[j]? =some y->VR w G.R x y):
 Inv G n D {E with s:=E.s.set b (.cells (setAt cs off ds))} a (w.setRow b (laid c off news))/\aG G w G (w.setRow b (laid c off news)):=by
 obtain⟨q2,q3,c',t',q4,q5,q6⟩:=h.store b _ hs
 rw[hb]at q4;injection q4 with q4;injection q4 with q4 q4' _
 subst q4;have hne:∀j,G.O b≠.cell b j:=fun j=>by grind
 have bV:aG G w G (w.setRow b (laid c off news)):=aG.write hb (by grind) (fun k hk=>by grind) (Nat.le_refl _) (fun _ _=>⟨rfl,rfl⟩)
 have ns:=dt.lay hb bV h.ba q5 hlen df hne (fun j x y hx hy=>⟨rQ j x y hx hy,by grind [eV,dn.view]⟩)
 have dZ:a8 G (w.setRow b (laid c off news)) (E.s.set b (.cells (setAt cs off ds))):=by
  intro b' o hb'
  unfold ae.set at hb'
  by_cases hbg:b'=b
  ·grind [q2,setRow_heap,DT.setAt]
  ·rw[if_neg hbg]at hb'
   obtain⟨r1,r2,r3⟩:=h.store b' o hb'
   refine⟨r1,r2,?_⟩
   have hbk:=setRow_other w b b' (laid c off news) hbg
   cases o with
   |cells cs=>
    obtain⟨c0,t0,r4,r5,r6⟩:=r3
    exact⟨c0,t0,hbk.trans r4,r5.mono (fun _ _ hv=>bV.vr h.ba hv) (fun b'' j tL=>⟨tL,rfl,setRow_other w b b'' _ (fun e=>by grind)⟩),r6⟩
   |map es=>
    obtain⟨jm,clock,r4,r5,r6⟩:=r3
    exact⟨jm,clock,hbk.trans r4,r5,fun j x y hx hy=>⟨bV.vr h.ba (r6 j x y hx hy).1,bV.vr h.ba (r6 j x y hx hy).2⟩⟩
 obtain⟨h2,_⟩:=h.written (E':={E with s:=E.s.set b (.cells (setAt cs off ds))}) hb (.inr q2) q3 rfl dZ (fun k=>.inl ⟨rfl,by grind⟩)
 grind
theorem Inv.Jo(h:Inv G n D E a w){d:Option Nat}(hd:bq n d=true){av:AV}{v:Value}(hi:dh av=true)(hv:VR w G.R av v)(QX:view av=av):Inv G n D (E.put d av) (a.put d v) w:=by
 have:=h.put d (fun i hi=>by grind [bq]) av v h.ba (aG.refl G w) h.store (fun _ hx=>hx) (fun i t _ ht=>(eS hi t ht).elim) (fun i t _⟨cs,hcs⟩=>(mL hi cs hcs).elim)
  (fun _ _ _ _=>⟨rfl,rfl,rfl⟩) (fun _ _ _ _ _ _ hcc=>⟨hcc,rfl,rfl⟩) (fun i hdi=>by grind [du.qB,dn.view])
 cases d<;>exact this
theorem Inv.ZT(h:Inv G n D E a w){d:Option Nat}(hd:bq n d=true):Inv G n D (E.put d (.iL [])) (a.put d (.tuple #[])) w:=by
 have:=h.put d (fun i hi=>by grind [bq]) (.iL []) (.tuple #[]) h.ba (aG.refl G w) h.store (fun _ hx=>hx) (fun i t _ ht=>ht.elim) (fun i t _⟨cs,hcs⟩=>by grind)
  (fun _ _ _ _=>⟨rfl,rfl,rfl⟩) (fun _ _ _ _ _ _ hcc=>⟨hcc,rfl,rfl⟩) (fun i hdi=>⟨#[],rfl,rfl,fun j x y hx=>by simp⟩)
 cases d<;>exact this
theorem FL(h:Inv G n D E a w){op:Op}{ty:TypeId}{sz m:Nat}{z:List AV}{ps:List (Nat×Nat×IX)}{d:Option Nat}{K:St->Prop}(hd:bq n d=true)(hc:au P op ty (.lR sz m z ps)=true)(hw:iP P (.lR sz m z ps) d E K):nU P G n D w a op ty d K:=by
 cases op<;>first|(simp[au]at hc;done)|skip
 rename_i t m' qs
 simp only[au,Bool.and_eq_true,beq_iff_eq]at hc
 obtain⟨rfl,hc⟩:=hc
 split at hc<;>try(cases hc;done)
 rename_i e ht
 have ht:=cV ht
 simp only[Bool.and_eq_true]at hc
 obtain⟨⟨⟨⟨hs,jo⟩,hp⟩,QM⟩,hz⟩:=hc
 obtain⟨i,hi,pz⟩:=ku hs
 rw[hi]at hz
 simp only at hz
 split at hz<;>try(cases hz;done)
 rename_i zv hzv
 simp only[Bool.and_eq_true,beq_iff_eq]at hz
 obtain⟨hzr,hzs⟩:=hz
 have jo:=of_decide_eq_true jo
 have QM:=of_decide_eq_true QM
 have hw':xS sz m E d K (fill (xg true E) z ps):=hw
 cases hfl:fill (xg true E) z ps with
 |none=>rw[hfl]at hw';exact hw'.elim
 |some ds=>
  rw[hfl]at hw'
  obtain⟨hlen,hk⟩:=hw'
  obtain⟨hl,hpa⟩:=vF _ _ hp
  obtain⟨hz1,hz2⟩:=Ae hzr
  have e7:Row w G.R z ((Array.range (m*sz)).map (zv.cells[·% zv.cells.size]!)):=by
   rw[<-hzs,sB]
   exact⟨by grind,fun j c u hc hu=>ud (hz2 j c u hc (by grind)) w G.R,AO hzr⟩
  have hf:∀(o:Operand)(x:IX),bI o x=true->dh (xg true E x)=true->VR w G.R (xg true E x) (a.eval o):=fun o x hx hi=>by
   have:=BR.aV h hx
   generalize xg true E x=av at hi this
   cases av<;>first|exact this|grind [dh]
  obtain⟨us,h1,h2⟩:=qn h hf (fun i=>some (i*sz,sz)) qs.toList ps z ds _ ⟨hl,fun j q p hq hp'=>by grind⟩ e7 hfl
  obtain⟨G1,h3,h4⟩:=h.Lh (t:=e) (c:=us) (cs:=views ds) hd (.inr ⟨m,m,rfl,rfl⟩) (fun G' w' o hp=>mc (h2.mono fun _ _ hv=>hp.vr h.ba hv)) h2.2.2.views
  intro pos after gd next Q hn
  refine aY ?_ (hn G1 _ _ _ h3 h4 (hk w.heap.size (h.store.get_none h.ba)))
  by_cases hm0:m*sz=0
  ·have hm:m=0:=by
    rcases Nat.mul_eq_zero.1 hm0 with h|h
    ·exact h
    ·omega
   subst hm
   simp only[Nat.zero_mul]at h1
   have:(Array.range 0).map (zv.cells[·% zv.cells.size]!)= #[]:=by simp
   rw[this]at h1
   have hr0:Array.map (fun _:Nat=>(default:Value)) (Array.range 0)= #[]:=by apply Array.ext';simp
   simp[execOp,Instr.buildSlice,run_underlying ht,run_sizeOf hs,hr0,h1,newRow]
  ·have h24:¬(16777216<m*sz):=by omega
   simp[execOp,Instr.buildSlice,run_underlying ht,run_sizeOf hs,h24,hm0,zeroValue,typeInfo,hi,hzv,h1,newRow]
end
section
variable{P:Program}{G G':Gh}{n:Nat}{D:List Deferred}{E:St}{a:Act}{w w':World}
theorem yJ(cs:List AV)(k:Nat):setAt cs k []=cs:=by simp[setAt]
theorem nL{s:ae}{b:Nat}{o:SO}(h:s b=some o):s.set b o=s:=by grind [ae.set]
theorem yF{sz b off cap:Nat}{o:Option SO}(h:vK sz b off cap o):∃cs,o=some (.cells cs)/\off+cap*sz<=cs.length:=by
 unfold vK at h
 grind
theorem sC{e:TypeId}{z:List AV}(hz:nQ P e z=true):∃v:Value,(∀w,(zeroValue e).run P w=.ok v w)/\(∃i,P.info? e=some i/\i.zero=some v/\i.size=z.length)/\∀(q:Nat),(Builtin.zeroCells v.cells q).toList.length=q*z.length/\(List.replicate q z).flatten.length=q*z.length/\
 (∀(j:Nat)(x:AV)(y:Value),(List.replicate q z).flatten[j]? =some x->(Builtin.zeroCells v.cells q).toList[j]? =some y->cR y x=true)/\Fl (List.replicate q z).flatten/\(∀y∈(Builtin.zeroCells v.cells q).toList,y.oneCell'=true):=by
 obtain⟨i,v,h1,h2,h3,h4,h5⟩:=tB hz
 refine⟨v,fun w=>by simp[zeroValue,typeInfo,h1,h2],⟨i,h1,h2,h3⟩,fun q=>?_⟩
 have e0:Builtin.zeroCells v.cells q=((List.replicate q v.cells.toList).flatten).toArray:=sB v.cells q
 rw[e0]
 have h4:=h4 default fun _=>0
 have hlz:=by simpa using h4.1
 have KO:∀y∈v.cells.toList,y.oneCell'=true:=by
  intro y hy
  obtain⟨j,hj⟩:=List.mem_iff_getElem?.1 hy
  have hlt:j<z.length:=by grind
  exact iE (h4.2.2 _ (List.getElem_mem hlt)) (h4.2.1 j _ y (List.getElem?_eq_getElem hlt) (by grind))
 have hlen:∀α(l:List α),(List.replicate q l).flatten.length=q*l.length:=fun α l=>by simp
 refine⟨by grind,hlen _ z,?_,?_,?_⟩
 ·clear e0 hlen
  induction q with
  |zero=>grind
  |succ q ih=>grind
 ·intro x hx
  simp[List.mem_flatten,List.mem_replicate]at hx
  obtain⟨l,⟨_,rfl⟩,hm⟩:=hx
  exact h4.2.2 x hm
 simp_all
theorem Ic(h:Inv G n D E a w){op:Op}{ty:TypeId}{sz by':Nat}{z:List AV}{x y:IX}{d:Option Nat}{K:St->Prop}(hd:bq n d=true)(hc:au P op ty (.nY sz by' z x y)=true)(hw:iP P (.nY sz by' z x y) d E K):nU P G n D w a op ty d K:=by
 cases op<;>first|(simp[au]at hc;done)|skip
 rename_i c
 simp only[au]at hc
 split at hc<;>try(cases hc;done)
 rename_i u v t t' hb
 have hce:=oI hb
 subst hce
 simp only[Bool.and_eq_true]at hc
 obtain⟨⟨hu,hv⟩,hc⟩:=hc
 split at hc<;>try(cases hc;done)
 rename_i e ht
 have ht:=cV ht
 simp only[Bool.and_eq_true]at hc
 obtain⟨⟨⟨⟨⟨⟨hs,hby⟩,jo⟩,wK⟩,hzl⟩,hzi⟩,ht'⟩:=hc
 obtain⟨i,hi,pz⟩:=ku hs
 obtain⟨zv,_,⟨i1,hi1,hz,hz1⟩,Ux⟩:=sC hzi
 rw[hi]at hi1;injection hi1 with hi1;subst hi1
 have jo:=of_decide_eq_true jo
 have wK:=of_decide_eq_true wK
 have hby:i.bytes=by':=by
  unfold kE at hby
  rw[hi]at hby
  simpa using hby
 have ht2:(∃e',P.underlying t'=some (.slice e'))\/P.underlying t'=some .string:=by
  rcases Bool.or_eq_true .. ▸ht' with h|h
  ·grind [cK,cV]
  ·grind [xC]
 have hw':dY sz by' z E d K (E.x x) (tV E.s sz (E.x y)):=hw
 have hbx:=XR.aV h hu
 generalize E.x x=xv at hw' hbx
 cases hsv:tV E.s sz (E.x y)with
 |none=>grind [dY]
 |some md=>
 obtain⟨m,ds⟩:=md
 rw[hsv]at hw'
 obtain⟨news,QT⟩:=Ce (P:=P) h hv hsv
 have dS:=QT.src
 unfold dY at hw'
 split at hw'<;>try(exact hw'.elim)
 rename_i b off k cap _ _ he0
 injection he0 with he0;injection he0 with e1 e2;subst e1;subst e2
 cases hol:nH E.s sz b off k with
 |none=>rw[hol]at hw';exact hw'.elim
 |some olds=>
 rw[hol]at hw'
 obtain⟨YU,W7,Bc⟩:=hw'
 have hold:k=0/\olds=[]\/∃cs,E.s b=some (.cells cs)/\off+k*sz<=cs.length/\olds=views (AB.sub cs off (k*sz)):=by
  unfold nH at hol
  by_cases hk:k=0
  ·grind
  ·rw[show(k==0)=false by grind]at hol
   cases hca:jl k sz off (E.s b)with
   |none=>grind
   |some q=>grind [q1,q2,qi]
 by_cases df:k+m<=cap
 ·rcases W7 df with⟨rfl,hk⟩|⟨bX,hk⟩
  ·have uk:news=[]:=List.eq_nil_of_length_eq_zero (by simpa using dS.len)
   subst uk
   intro pos after gd next Q hn
   refine aY (w':=w) (v:=a.eval u) ?_ (hn G _ _ _ (h.Jo hd rfl hbx rfl) (aG.refl G w) hk)
   rcases VR.cP hbx with e1|⟨rfl,rfl,e1⟩
   ·have bR:=iA (ty:=ty) (w:=w) ht ht2 hi pz dS (b:=b) (off:=off) (k:=k) (cap:=cap) df (w':=w) rfl
    simp only[Nat.add_zero]at bR
    simp[execOp,resolve,invoke,builtin,e1,bR]
   ·have bR:=mQ (ty:=ty) ht ht2 hi pz dS
    simp[execOp,resolve,invoke,builtin,e1,bR]
  ·obtain⟨cs,hsb,QH⟩:=yF bX
   rw[hsb]at hk
   have hk':K ({E with s:=E.s.set b (.cells (setAt cs (off+k*sz) ds))}.put d (.arr b off (k+m) cap)):=hk
   obtain⟨_,_,c,et,hcb,hcr,hcf⟩:=h.store b _ hsb
   have hmul:off+k*sz+m*sz<=cs.length:=by
    rw[Nat.add_assoc,<-Nat.add_mul]
    exact Nat.le_trans (Nat.add_le_add_left (Nat.mul_le_mul_right _ df) _) QH
   by_cases hm:m=0
   ·subst hm
    have uk:news=[]:=List.eq_nil_of_length_eq_zero (by simpa using dS.len)
    have hds:ds=[]:=List.eq_nil_of_length_eq_zero (by simpa using dS.oO)
    subst uk;subst hds
    rw[yJ,nL hsb,Nat.add_zero]at hk'
    intro pos after gd next Q hn
    refine aY (w':=w) (v:=a.eval u) ?_ (hn G _ _ _ (h.Jo hd rfl hbx rfl) (aG.refl G w) hk')
    rcases VR.cP hbx with e1|⟨rfl,rfl,e1⟩
    ·have bR:=iA (ty:=ty) (w:=w) ht ht2 hi pz dS (b:=b) (off:=off) (k:=k) (cap:=cap) df (w':=w) rfl
     simp only[Nat.add_zero]at bR
     simp[execOp,resolve,invoke,builtin,e1,bR]
    ·have bR:=mQ (ty:=ty) ht ht2 hi pz dS
     simp[execOp,resolve,invoke,builtin,e1,bR]
   ·have e1:=VR.qt hbx (by omega)
    obtain⟨h2,hp2⟩:=h.vL (off:=off+k*sz) (ds:=ds) (news:=news) hsb hcb (by rw[dS.len,dS.oO]) (by rw[dS.oO];exact hmul) dS.fl QT.vw dS.kZ
    have acY:off+k*sz+news.length<=c.size:=by rw[dS.len,hcr.1];exact hmul
    have dZ:=di (P:=P) b (off+k*sz) et (0,0) news 0 c w hcb (fun j _ hj=>by simp at hj) (by grind) dS.one
    have bR:=iA (ty:=ty) (w:=w) ht ht2 hi pz dS (b:=b) (off:=off) (k:=k) (cap:=cap) df (w':=w.setRow b (laid c (off+k*sz) news)) (by grind [laid])
    intro pos after gd next Q hn
    refine aY ?_ (hn G _ _ _ (h2.Jo hd rfl (.arr b off (k+m) cap) rfl) hp2 hk')
    simp[execOp,resolve,invoke,builtin,e1,bR]
 ·have hgr:cap<k+m:=by omega
  obtain⟨bX,hk⟩:=Bc hgr
  have grow:∀(base:Option Addr)(us:List Value),a.eval u=.slice base k cap->us.length=k*sz->olds.length=k*sz->Fl olds->views olds=olds->
   (Builtin.firstCells sz k (.slice base k cap)).run P w.drew=.ok us.toArray w.drew->(∀(j:Nat)(c:AV)(u:Value),olds[j]? =some c->us[j]? =some u->VR w G.R c u)->
   nU P G n D w a (.call {callee:=.builtin .append,args:= #[u,v],argTypes:= #[t,t']}) ty d K:=by
   intro base us e1 hul YQ hof hov hfc rQ
   have bR:=qH (ty:=ty) ht ht2 hi hz pz dS hfc hgr (by grind) (by grind)
   have hge:k+m<=grownCap w (k+m) cap e:=grownCap_ge w (k+m) cap e
   obtain⟨zz1,zz2,zz3,zz4,_⟩:=Ux (grownCap w (k+m) cap e -(k+m))
   obtain⟨G2,h3,h4⟩:=(h.drew).Lh (t:=e) (c:=us.toArray++news.toArray++Builtin.zeroCells zv.cells (grownCap w (k+m) cap e -(k+m)))
    (cs:=olds++ds++(List.replicate (grownCap w (k+m) cap e -(k+m)) z).flatten) (d:=d) hd (.inr ⟨k+m,grownCap w (k+m) cap e,rfl,rfl⟩)
    (fun G' w' o hp=>by
      have hl1:=dS.len
      have hl2:=dS.oO
      refine⟨by grind,fun j x y hx hy=>?_⟩
      have xq:∀(l:List AV)(q:Nat),views l=l->l[q]? =some x->dn G' w' (o j) x y:=by
       intro l q hvl hq
       rw[<-hvl,eV]at hq
       cases hz':l[q]? with
       |none=>grind
       |some x'=>grind [dn.view]
      by_cases hj1:j<olds.length
      ·rw[List.append_assoc,List.getElem?_append_left hj1]at hx
       rw[Array.append_assoc,Array.getElem?_append_left (by simp;omega)]at hy
       exact⟨hp.vr h.drew.ba ((aG.drew G w).vr h.ba (rQ j x y hx (by grind))),xq _ _ hov hx⟩
      ·by_cases hj2:j<olds.length+ds.length
       ·rw[List.getElem?_append_left (by simp;omega),List.getElem?_append_right (by omega)]at hx
        rw[Array.getElem?_append_left (by simp;omega),Array.getElem?_append_right (by simp;omega)]at hy
        simp only[List.size_toArray,List.getElem?_toArray]at hy
        rw[hul,<-YQ]at hy
        exact⟨hp.vr h.drew.ba ((aG.drew G w).vr h.ba (dS.kZ _ x y hx hy)),xq _ _ QT.vw hx⟩
       grind [List.getElem?_append_right,Array.getElem?_append_right,List.length_append,ud,AN])
    (fun c hc=>by
      rcases List.mem_append.1 hc with hc|hc
      ·rcases List.mem_append.1 hc with hc|hc
       ·exact hof c hc
       ·exact dS.fl c hc
      ·exact zz4 c hc)
   intro pos after gd next Q hn
   refine aY ?_ (hn G2 _ _ _ h3 ((aG.drew G w).trans h4) (hk _ _ (h.store.get_none h.ba) hge))
   simp[execOp,resolve,invoke,builtin,e1,bR]
  rcases VR.cP hbx with e1|⟨rfl,rfl,e1⟩
  ·rcases hold with⟨rfl,rfl⟩|⟨cs,hsb,hle,rfl⟩
   ·exact grow _ [] e1 (by simp) (by simp) Fl.nil rfl (run_firstCells_some w.drew sz 0 ⟨b,off,none⟩ 0 cap [] (by simp) (fun j v hj=>by simp at hj)) (fun j c u hc=>by simp at hc)
   ·have hat:=h.store.at hsb hle
    obtain⟨us,u1,u2,u3⟩:=hat.kZ
    have hfl:Fl (views (AB.sub cs off (k*sz))):=by obtain⟨_,_,_,hf⟩:=hat;exact hf
    have hlen:(views (AB.sub cs off (k*sz))).length=k*sz:=by simp only[views,List.length_map];exact jP hle
    exact grow _ us e1 (by rw[u1,hlen]) hlen hfl (oD _) (run_firstCells_some w.drew sz k ⟨b,off,none⟩ k cap us (by rw[u1,hlen]) u2) u3
  ·rcases hold with⟨_,rfl⟩|⟨cs,hsb,hle,rfl⟩
   ·exact grow none [] e1 (by simp) (by simp) Fl.nil rfl (by simp[Builtin.firstCells]) (fun j c u hc=>by simp at hc)
   ·have:views (AB.sub cs off (0*sz))=[]:=by simp[AB.sub,views]
    rw[this]at grow
    exact grow none [] e1 (by simp) (by simp) Fl.nil rfl (by simp[Builtin.firstCells]) (fun j c u hc=>by simp at hc)
theorem DF{t t' ty e:TypeId}{i:TypeInfo}{z:Value}{sz m:Nat}{k':IntKind}(ht:P.underlying t=some (.slice e))(ht':P.underlying t'=some (.int k'))(hi:P.info? e=some i)(hz:i.zero=some z)(hsz:i.size=sz)(aiY:0<sz){c:Int}(hc0:0<=c)(hm:c.toNat=m){base:Option Addr}{k cap:Nat}{olds:List Value}
 (hold:(Builtin.firstCells sz k (.slice base k cap)).run P w.drew=.ok olds.toArray w.drew)(bX:cap<k+m)(Ba:(k+m)*i.bytes<=room)(hb0:0<i.bytes):
 (Builtin.append_ #[t,t'] ty #[.slice base k cap,.int .i64 c]).run P w=.ok (.slice (some ⟨w.heap.size,0,none⟩) (k+m) (grownCap w (k+m) cap e))
   (w.drew.alloc (.cells (olds.toArray++Builtin.zeroCells z.cells m++Builtin.zeroCells z.cells (grownCap w (k+m) cap e -(k+m))) e)):=by
 subst hsz
 subst hm
 have h3:¬(k+c.toNat<=cap):=by omega
 have h4:¬(281474976710656<Builtin.nextslicecap (k+c.toNat) cap*i.bytes):=by have:=growslice_fits bX Ba;omega
 have h5:k+c.toNat<=(k+c.toNat)*i.bytes:=Nat.le_mul_of_pos_right _ hb0
 have Uo:=Ba
 unfold room at Uo
 have hcb:c<=140737488355328:=by omega
 have h6:¬((9223372036854775807:Int)<(k:Int)+(c.toNat:Int)):=by omega
 have h6':¬((9223372036854775807:Int)<(k:Int)+c):=by omega
 have acO:¬((9223372036854775807:Int)<(k:Int)+max c 0):=by omega
 have hw:IntKind.i64.wrap c=c:=yP hc0 (by omega)
 have h7:¬(c<0):=by omega
 have h8:¬((281474976710656:Int)<c*(i.bytes:Int)):=by
  have h9:c.toNat*i.bytes<=(k+c.toNat)*i.bytes:=Nat.mul_le_mul_right _ (by omega)
  have h10:((c.toNat*i.bytes:Nat):Int)=c*(i.bytes:Int):=by rw[Int.natCast_mul,Int.toNat_of_nonneg hc0]
  omega
 by_cases hc1:c.toNat=0
 ·have:Builtin.zeroCells z.cells c.toNat= #[]:=by rw[hc1];simp[Builtin.zeroCells]
  have hm0:c.toNat*i.size=0:=by rw[hc1,Nat.zero_mul]
  simp[Builtin.append_,run_underlying ht,run_underlying ht',sizeOf,typeInfo,zeroValue,hi,hz,asInt,asIntOf,hw,h7,h8,h3,h4,h6,h6',acO,hm0,Question.forced,hold,newRow,grownCap,this]<;>
   (congr 2;apply Array.ext';simp[List.append_assoc])
 ·have hm0:¬(c.toNat*i.size=0):=by
   intro e
   rcases Nat.mul_eq_zero.1 e with e|e<;>omega
  simp[Builtin.append_,run_underlying ht,run_underlying ht',sizeOf,typeInfo,zeroValue,hi,hz,asInt,asIntOf,hw,h7,h8,h3,h4,h6,h6',acO,hm0,Question.forced,hold,newRow,grownCap]<;>
   (congr 2;apply Array.ext';simp[List.append_assoc])
theorem Ig(h:Inv G n D E a w){op:Op}{ty:TypeId}{sz by':Nat}{z:List AV}{x y:IX}{d:Option Nat}{K:St->Prop}(hd:bq n d=true)(hc:au P op ty (.oc sz by' z x y)=true)(hw:iP P (.oc sz by' z x y) d E K):nU P G n D w a op ty d K:=by
 cases op<;>first|(simp[au]at hc;done)|skip
 rename_i c
 simp only[au]at hc
 split at hc<;>try(cases hc;done)
 rename_i u v t t' hb
 have hce:=oI hb
 subst hce
 simp only[Bool.and_eq_true]at hc
 obtain⟨⟨⟨hu,hv⟩,ht'⟩,hc⟩:=hc
 obtain⟨k',ht2⟩:=UF ht'
 split at hc<;>try(cases hc;done)
 rename_i e ht
 have ht:=cV ht
 simp only[Bool.and_eq_true]at hc
 obtain⟨⟨⟨⟨hs,hby⟩,jo⟩,wK⟩,hzi⟩:=hc
 obtain⟨i,hi,pz⟩:=ku hs
 obtain⟨zv,_,⟨i1,hi1,hz,hz1⟩,Ux⟩:=sC hzi
 rw[hi]at hi1;injection hi1 with hi1;subst hi1
 have jo:=of_decide_eq_true jo
 have wK:=of_decide_eq_true wK
 have hby:i.bytes=by':=by
  unfold kE at hby
  rw[hi]at hby
  simpa using hby
 have hw':wb sz by' z E d K (E.x x) (xg true E y):=hw
 have hbx:=XR.aV h hu
 have hbv:=BR.aV h hv
 generalize E.x x=xv at hw' hbx
 generalize xg true E y=yv at hw' hbv
 unfold wb at hw'
 split at hw'<;>try(exact hw'.elim)
 rename_i b off k cap q
 obtain⟨hq0,hgr,hvz,hw'⟩:=hw'
 have ev:=VR.b8 hbv
 generalize hm:q.toNat=m at hw' hgr
 obtain⟨zm1,zm2,zm3,zm4,zm5⟩:=Ux m
 cases hol:nH E.s sz b off k with
 |none=>rw[hol]at hw';exact hw'.elim
 |some olds=>
 rw[hol]at hw'
 obtain⟨YU,W7,Bc⟩:=hw'
 have hold:k=0/\olds=[]\/∃cs,E.s b=some (.cells cs)/\off+k*sz<=cs.length/\olds=views (AB.sub cs off (k*sz)):=by
  unfold nH at hol
  by_cases hk:k=0
  ·grind
  ·rw[show(k==0)=false by grind]at hol
   cases hca:jl k sz off (E.s b)with
   |none=>grind
   |some q=>grind [q1,q2,qi]
 obtain⟨bX,hk⟩:=Bc hgr
 obtain⟨ds,hds⟩:∃ds,ds=(List.replicate m z).flatten:=⟨_,rfl⟩
 obtain⟨news,uk⟩:∃news,news=(Builtin.zeroCells zv.cells m).toList:=⟨_,rfl⟩
 have aiZ:views ds=ds:=by
  rw[hds];unfold views at hvz⊢
  rw[List.map_flatten,List.map_replicate,hvz]
 rw[<-hds]at hk
 have grow:∀(base:Option Addr)(us:List Value),a.eval u=.slice base k cap->us.length=k*sz->olds.length=k*sz->Fl olds->views olds=olds->
  (Builtin.firstCells sz k (.slice base k cap)).run P w.drew=.ok us.toArray w.drew->(∀(j:Nat)(c:AV)(u:Value),olds[j]? =some c->us[j]? =some u->VR w G.R c u)->
  nU P G n D w a (.call {callee:=.builtin .append,args:= #[u,v],argTypes:= #[t,t']}) ty d K:=by
  intro base us e1 hul YQ hof hov hfc rQ
  have bR:=DF (ty:=ty) ht ht2 hi hz pz jo hq0 hm hfc hgr (by grind) (by grind)
  have hge:k+m<=grownCap w (k+m) cap e:=grownCap_ge w (k+m) cap e
  obtain⟨zz1,zz2,zz3,zz4,_⟩:=Ux (grownCap w (k+m) cap e -(k+m))
  obtain⟨G2,h3,h4⟩:=(h.drew).Lh (t:=e) (c:=us.toArray++Builtin.zeroCells zv.cells m++Builtin.zeroCells zv.cells (grownCap w (k+m) cap e -(k+m)))
   (cs:=olds++ds++(List.replicate (grownCap w (k+m) cap e -(k+m)) z).flatten) (d:=d) hd (.inr ⟨k+m,grownCap w (k+m) cap e,rfl,rfl⟩)
   (fun G' w' o hp=>by
     have hl1:news.length=m*sz:=by rw[uk,zm1,YU]
     have hl2:ds.length=m*sz:=by rw[hds,zm2,YU]
     have hna:Builtin.zeroCells zv.cells m=news.toArray:=by rw[uk]
     rw[hna]
     refine⟨by grind,fun j x y hx hy=>?_⟩
     have xq:∀(l:List AV)(q:Nat),views l=l->l[q]? =some x->dn G' w' (o j) x y:=by
      intro l q hvl hq
      rw[<-hvl,eV]at hq
      cases hz':l[q]? with
      |none=>grind
      |some x'=>grind [dn.view]
     by_cases hj1:j<olds.length
     ·rw[List.append_assoc,List.getElem?_append_left hj1]at hx
      rw[Array.append_assoc,Array.getElem?_append_left (by simp;omega)]at hy
      exact⟨hp.vr h.drew.ba ((aG.drew G w).vr h.ba (rQ j x y hx (by grind))),xq _ _ hov hx⟩
     grind [List.getElem?_append_left,List.getElem?_append_right,Array.getElem?_append_left,Array.getElem?_append_right,List.size_toArray,aG.drew,ud,List.length_append,AN])
   (fun c hc=>by
     rcases List.mem_append.1 hc with hc|hc
     ·rcases List.mem_append.1 hc with hc|hc
      ·exact hof c hc
      ·exact zm4 c (by grind)
     ·exact zz4 c hc)
  intro pos after gd next Q hn
  refine aY ?_ (hn G2 _ _ _ h3 ((aG.drew G w).trans h4) (hk _ _ (h.store.get_none h.ba) hge))
  simp[execOp,resolve,invoke,builtin,e1,ev,bR]
 rcases VR.cP hbx with e1|⟨rfl,rfl,e1⟩
 ·rcases hold with⟨rfl,rfl⟩|⟨cs,hsb,hle,rfl⟩
  ·exact grow _ [] e1 (by simp) (by simp) Fl.nil rfl (run_firstCells_some w.drew sz 0 ⟨b,off,none⟩ 0 cap [] (by simp) (fun j v hj=>by simp at hj)) (fun j c u hc=>by simp at hc)
  ·have hat:=h.store.at hsb hle
   obtain⟨us,u1,u2,u3⟩:=hat.kZ
   have hfl:Fl (views (AB.sub cs off (k*sz))):=by obtain⟨_,_,_,hf⟩:=hat;exact hf
   have hlen:(views (AB.sub cs off (k*sz))).length=k*sz:=by simp only[views,List.length_map];exact jP hle
   exact grow _ us e1 (by rw[u1,hlen]) hlen hfl (oD _) (run_firstCells_some w.drew sz k ⟨b,off,none⟩ k cap us (by rw[u1,hlen]) u2) u3
 ·rcases hold with⟨_,rfl⟩|⟨cs,hsb,hle,rfl⟩
  ·exact grow none [] e1 (by simp) (by simp) Fl.nil rfl (by simp[Builtin.firstCells]) (fun j c u hc=>by simp at hc)
  ·have:views (AB.sub cs off (0*sz))=[]:=by simp[AB.sub,views]
   rw[this]at grow
   exact grow none [] e1 (by simp) (by simp) Fl.nil rfl (by simp[Builtin.firstCells]) (fun j c u hc=>by simp at hc)
end
section
variable{P:Program}{G G':Gh}{n:Nat}{D:List Deferred}{E:St}{a:Act}{w w':World}
theorem xz{t t' ty e:TypeId}(ht:P.underlying t=some (.slice e)){sz m k cap:Nat}(hs:cX P e sz=true){R:Nat->Nat}{ds:List AV}{v:Value}{news:List Value}(h:tC P w R sz m ds v news){base:Option Addr}{w':World}
 (dZ:∀ad,base=some ad->(storeCells ad (news.take (min m k*sz))).run P w=.ok () w')(WY:base=none->w'=w):
 (Builtin.copy_ #[t,t'] ty #[.slice base k cap,v]).run P w=.ok (.int .i64 (min m k:Nat)) w':=by
 have h1:=h.lenOf w
 have h2:=h.first (min m k) (Nat.min_le_left _ _) w rfl
 cases base with
 |none=>
  have:=WY rfl
  subst this
  simp[Builtin.copy_,run_underlying ht,run_sizeOf hs,h1,h2,goInt]
 |some ad=>
  have h3:=dZ ad rfl
  simp[Builtin.copy_,run_underlying ht,run_sizeOf hs,h1,h2,h3,goInt]
theorem N9(h:Inv G n D E a w){op:Op}{ty:TypeId}{sz:Nat}{x y:IX}{d:Option Nat}{K:St->Prop}(hd:bq n d=true)(hc:au P op ty (.yZ sz x y)=true)(hw:iP P (.yZ sz x y) d E K):nU P G n D w a op ty d K:=by
 cases op<;>first|(simp[au]at hc;done)|skip
 rename_i c
 simp only[au]at hc
 split at hc<;>try(cases hc;done)
 rename_i u v t t' hb
 have hce:=oI hb
 subst hce
 simp only[Bool.and_eq_true]at hc
 obtain⟨⟨hu,hv⟩,hc⟩:=hc
 split at hc<;>try(cases hc;done)
 rename_i e ht
 have ht:=cV ht
 have hw':xV sz E d K (E.x x) (tV E.s sz (E.x y)):=hw
 have hbx:=XR.aV h hu
 generalize E.x x=xv at hw' hbx
 cases hsv:tV E.s sz (E.x y)with
 |none=>grind [xV]
 |some md=>
 obtain⟨m,ds⟩:=md
 rw[hsv]at hw'
 obtain⟨news,dS⟩:=Ce (P:=P) h hv hsv
 unfold xV at hw'
 split at hw'<;>try(exact hw'.elim)
 rename_i b off k cap _ _ he0
 injection he0 with he0;injection he0 with e1 e2;subst e1;subst e2
 rcases hw' with⟨wP,hk⟩|⟨bX,hk⟩
 ·intro pos after gd next Q hn
  refine aY (w':=w) (v:=.int .i64 0) ?_ (hn G _ _ _ (h.Jo hd rfl (.int _ _) rfl) (aG.refl G w) hk)
  rcases VR.cP hbx with e1|⟨rfl,rfl,e1⟩
  ·have bR:=xz (ty:=ty) (t':=t') (w:=w) ht hc dS (base:=some ⟨b,off,none⟩) (k:=k) (cap:=cap) (w':=w) (fun ad _=>by rw[wP];simp;rfl) (fun hh=>by cases hh)
   rw[wP]at bR
   simp[execOp,resolve,invoke,builtin,e1,bR]
  ·have bR:=xz (ty:=ty) (t':=t') (w:=w) ht hc dS (base:=none) (k:=0) (cap:=0) (w':=w) (fun ad hh=>by cases hh) (fun _=>rfl)
   simp at bR
   simp[execOp,resolve,invoke,builtin,e1,bR]
 ·obtain⟨cs,hsb,df⟩:=yF bX
  rw[hsb]at hk
  have hk':K ({E with s:=E.s.set b (.cells (setAt cs off (ds.take (min m k*sz))))}.put d (.int .i64 (min m k:Nat))):=hk
  obtain⟨_,_,c,et,hcb,hcr,hcf⟩:=h.store b _ hsb
  have ac1:min m k*sz<=m*sz:=Nat.mul_le_mul_right _ (Nat.min_le_left _ _)
  have aiU:min m k*sz<=k*sz:=Nat.mul_le_mul_right _ (Nat.min_le_right _ _)
  have hl1:(ds.take (min m k*sz)).length=min m k*sz:=by simp[dS.oO,ac1]
  have hl2:(news.take (min m k*sz)).length=min m k*sz:=by simp[dS.len,ac1]
  rcases VR.cP hbx with e1|⟨rfl,rfl,e1⟩
  ·obtain⟨h2,hp2⟩:=h.vL (off:=off) (ds:=ds.take (min m k*sz)) (news:=news.take (min m k*sz)) hsb hcb (by rw[hl1,hl2]) (by grind) (fun c hc=>dS.fl c (List.mem_of_mem_take hc))
    (by
      have:=dS.vw
      grind [views,List.map_take]) (fun j x y hx hy=>by
      rw[List.getElem?_take]at hx hy
      split at hx
      ·rename_i hj;rw[if_pos hj]at hy;exact dS.kZ j x y hx hy
      ·cases hx)
   have acY:off+(news.take (min m k*sz)).length<=c.size:=by rw[hl2,hcr.1];omega
   have dZ:=di (P:=P) b off et (0,0) (news.take (min m k*sz)) 0 c w hcb (fun j _ hj=>by simp at hj) (by grind) (fun u hu=>dS.one u (List.mem_of_mem_take hu))
   have bR:=xz (ty:=ty) (t':=t') (w:=w) ht hc dS (base:=some ⟨b,off,none⟩) (k:=k) (cap:=cap) (w':=w.setRow b (laid c off (news.take (min m k*sz)))) (fun ad had=>by grind [laid]) (fun hh=>by cases hh)
   intro pos after gd next Q hn
   refine aY ?_ (hn G _ _ _ (h2.Jo hd rfl (.int _ _) rfl) hp2 hk')
   simp[execOp,resolve,invoke,builtin,e1,bR]
  ·have h0:min m 0=0:=Nat.min_zero m
   rw[h0,Nat.zero_mul,List.take_zero,yJ,nL hsb]at hk'
   have bR:=xz (ty:=ty) (t':=t') (w:=w) ht hc dS (base:=none) (k:=0) (cap:=0) (w':=w) (fun ad hh=>by cases hh) (fun _=>rfl)
   intro pos after gd next Q hn
   refine aY (w':=w) ?_ (hn G _ _ _ (h.Jo hd rfl (.int .i64 (0:Nat)) rfl) (aG.refl G w) hk')
   simp at bR
   simp[execOp,resolve,invoke,builtin,e1,bR]
theorem Ks(h:Inv G n D E a w){op:Op}{ty:TypeId}{z:List AV}{x:IX}{d:Option Nat}{K:St->Prop}(hd:bq n d=true)(hc:au P op ty (.rD z x)=true)(hw:iP P (.rD z x) d E K):nU P G n D w a op ty d K:=by
 cases op<;>first|(simp[au]at hc;done)|skip
 rename_i c
 simp only[au]at hc
 split at hc<;>try(cases hc;done)
 rename_i u us t ts hb
 have hce:=oI hb
 subst hce
 simp only[Bool.and_eq_true]at hc
 obtain⟨hu,hc⟩:=hc
 split at hc<;>try(cases hc;done)
 rename_i e ht
 have ht:=cV ht
 have hw':Ag z E d K (E.x x):=hw
 have hbx:=XR.aV h hu
 generalize E.x x=xv at hw' hbx
 unfold Ag at hw'
 split at hw'<;>try(exact hw'.elim)
 rename_i b off k cap
 obtain⟨v,hv1,_,hv2⟩:=sC hc
 obtain⟨z1,z2,z3',z4,z5⟩:=hv2 k
 have z3:∀(j:Nat)(x:AV)(y:Value),(List.replicate k z).flatten[j]? =some x->(Builtin.zeroCells v.cells k).toList[j]? =some y->VR w G.R x y:=fun j x y hx hy=>ud (z3' j x y hx hy) w G.R
 rcases hw' with⟨hk0,hk⟩|⟨bX,hvw,hk⟩
 ·subst hk0
  intro pos after gd next Q hn
  refine aY (w':=w) (v:=.tuple #[]) ?_ (hn G _ _ _ (h.ZT hd) (aG.refl G w) hk)
  rcases VR.cP hbx with e1|⟨_,rfl,e1⟩<;>simp[execOp,resolve,invoke,builtin,e1,Builtin.clear_,run_underlying ht]
 ·obtain⟨cs,hsb,df⟩:=yF bX
  rw[hsb]at hk
  have hk':K ({E with s:=E.s.set b (.cells (setAt cs off (List.replicate k z).flatten))}.put d (.iL [])):=hk
  obtain⟨_,_,c,et,hcb,hcr,hcf⟩:=h.store b _ hsb
  by_cases hk0:k=0
  ·subst hk0
   simp only[List.replicate_zero,List.flatten_nil,yJ,nL hsb]at hk'
   intro pos after gd next Q hn
   refine aY (w':=w) (v:=.tuple #[]) ?_ (hn G _ _ _ (h.ZT hd) (aG.refl G w) hk')
   rcases VR.cP hbx with e1|⟨_,rfl,e1⟩<;>simp[execOp,resolve,invoke,builtin,e1,Builtin.clear_,run_underlying ht]
  ·rcases VR.cP hbx with e1|⟨h0,_,_⟩
   ·obtain⟨h2,hp2⟩:=h.vL (off:=off) (ds:=(List.replicate k z).flatten) (news:=(Builtin.zeroCells v.cells k).toList) hsb hcb (by rw[z1,z2]) (by grind) z4
     (by grind [views,List.map_replicate]) z3
    have dZ:=di (P:=P) b off et (0,0) (Builtin.zeroCells v.cells k).toList 0 c w hcb (fun j _ hj=>by simp at hj) (by rw[z1,hcr.1];grind) z5
    have QU:(storeCells ⟨b,off,none⟩ (Builtin.zeroCells v.cells k).toList).run P w=.ok () (w.setRow b (laid c off (Builtin.zeroCells v.cells k).toList)):=by simpa[laid]using dZ
    intro pos after gd next Q hn
    refine aY (v:=.tuple #[]) ?_ (hn G _ _ _ (h2.ZT hd) hp2 hk')
    have bR:(Builtin.clear_ (t::ts).toArray ty (Array.map a.eval (u::us).toArray)).run P w=.ok (.tuple #[]) (w.setRow b (laid c off (Builtin.zeroCells v.cells k).toList)):=by
     obtain⟨k',rfl⟩:∃k',k=k'+1:=⟨k -1,by omega⟩
     simp[Builtin.clear_,run_underlying ht,e1,hv1,QU]
    simp[execOp,resolve,invoke,builtin]at bR⊢;simp[bR]
   grind
end
section
variable{P:Program}{G G':Gh}{n:Nat}{D:List Deferred}{E:St}{a:Act}{w w':World}
theorem Inv.frozen(h:Inv G n D E a w){d:Option Nat}(hd:bq n d=true){b off sz k cap:Nat}{cs:List AV}{own:Bool}(hs:E.s b=some (.cells cs))(df:off+k*sz<=cs.length)(fh:k<=cap)(vd:own=true->off=0/\cs.length=off+cap*sz):
 ∃G',Inv G' n D ({E with s:=E.s.del b}.put d (.sl own sz k (views (AB.sub cs off (k*sz))))) (a.put d (.slice (some ⟨b,off,none⟩) k cap)) w/\aG G w G' w:=by
 obtain⟨q2,q3,c,t,q4,q5,q6⟩:=h.store b _ hs
 let ob:c5:=if own=true then zU d else .none
 let G':=G.nS b ob (off+k*sz)
 have bV:aG G w G' w:=⟨rfl,rfl,rfl,Nat.le_refl _,Nat.le_refl _,fun b' _=>by
  by_cases hb:b'=b
  ·grind
  ·simp[G',hb],fun _ _ _ _=>rfl,fun _ _ _=>rfl,fun b' _ hb'=>by
  have:b'≠b:=fun e=>by grind
  simp[G',this,hb'],fun b' _ hb'=>by
  have:b'≠b:=fun e=>by grind
  simp[G',this,hb']⟩
 have hlt:b<w.heap.size:=h.ba.lt (by rw[q2];simp)
 have jE:cq G' w:=⟨fun b' hb'=>by
  have:b'≠b:=by omega
  simp[G',this,h.ba.jJ b' hb'],fun b' hb'=>by
  have:b'≠b:=by omega
  simp[G',this,h.ba.kB b' hb']⟩
 have same:∀b',G.O b'≠.sh\/b'≠b->G'.O b'=G.O b'/\G'.R b'=G.R b'/\w.heap[b']? =w.heap[b']? :=fun b' hb'=>by
  have:b'≠b:=by
   rcases hb' with hb'|hb'
   ·grind
   ·exact hb'
  exact⟨by simp[G',this],by simp[G',this],rfl⟩
 have dZ:a8 G' w (E.s.del b):=by
  intro b' o hb'
  unfold ae.del at hb'
  split at hb'
  ·cases hb'
  ·rename_i hne
   obtain⟨r1,r2,r3⟩:=h.store b' o hb'
   refine⟨(same b' (.inr hne)).1.trans r1,(same b' (.inr hne)).2.1.trans r2,?_⟩
   cases o with
   |cells cs'=>
    obtain⟨c',t',r4,r5,r6⟩:=r3
    exact⟨c',t',r4,r5.mono (fun _ _ hv=>bV.vr h.ba hv) (fun b'' j tL=>by grind),r6⟩
   |map es=>
    obtain⟨jm,clock,r4,r5,r6⟩:=r3
    exact⟨jm,clock,r4,r5,fun j x y hx hy=>⟨bV.vr h.ba (r6 j x y hx hy).1,bV.vr h.ba (r6 j x y hx hy).2⟩⟩
 have hat:=h.store.at hs df
 obtain⟨u,u1,u2,u3⟩:=hat
 have hlen:(views (AB.sub cs off (k*sz))).length=k*sz:=by simp only[views,List.length_map];exact jP df
 have:=h.put (s':=E.s.del b) (lp':=E.lp) d (fun i hi=>by grind [bq]) (.sl own sz k (views (AB.sub cs off (k*sz)))) (.slice (some ⟨b,off,none⟩) k cap) jE bV dZ (fun _ hx=>hx) (fun i t _ ht=>ht.elim) (fun i t _⟨cs',x8⟩=>by cases x8)
  (fun i b' _ hb'=>same b' (.inl (by grind)))
  (fun i b' c' j _ _ hc'=>by grind)
  (fun i hi=>by
    subst hi
    refine⟨.sl own sz k _ b off cap u u3 hlen (by rw[hlen];simp[G']) fh u1 (fun j x hj=>bV.vr h.ba (u2 j x hj)),?_⟩
    cases own with
    |false=>trivial
    |true=>
     intro base m' dp hv _
     injection hv with e1 e2 e3
     subst e3
     exact⟨b,off,c,t,(0,0),e1.symm,by simp[G',ob,zU],by simp[G'],q4,by rw[q5.1,(vd rfl).2],fun j _ hj=>by simp at hj,Nat.le_refl _,(vd rfl).1,.inl rfl,fun j y _ hy=>by
      have hlt:j<cs.length:=by rw[<-q5.1];exact(Array.getElem?_eq_some_iff.1 hy).1
      exact pO (q6 _ (List.getElem_mem hlt)) (q5.2 j _ y (List.getElem?_eq_getElem hlt) hy).1⟩)
 exact⟨G',by cases d<;>exact this,bV⟩
theorem Inv.Qt(h:Inv G n D E a w){sz:Nat}{own:Bool}{d:Option Nat}{K:St->Prop}(hd:bq n d=true){xv:AV}{v:Value}(hbx:dh xv=true->VR w G.R xv v)(hw':wH sz own E d K xv):∃(G':Gh)(E':St),Inv G' n D E' (a.put d v) w/\aG G w G' w/\K E':=by
 unfold wH at hw'
 split at hw'<;>try(exact hw'.elim)
 rename_i b off k cap
 replace hbx:=hbx rfl
 have empty:k=0->cap=0->off=0\/v=.slice none 0 0->Inv G n D (E.put d (.sl own sz 0 [])) (a.put d (v)) w:=by
  intro hk0 hc0 agT
  subst hk0;subst hc0
  have hvr:VR w G.R (.sl own sz 0 []) (v):=by
   rcases VR.cP hbx with e1|⟨_,_,e1⟩
   ·rcases agT with rfl|e2
    ·rw[e1];exact .sl own sz 0 [] b 0 0 (fun _=>undef) Fl.nil (by simp) (by simp) (Nat.le_refl _) (fun j c hj=>by grind) (fun j c hj=>by grind)
    grind
   ·rw[e1];exact .slnil _ _
  have:=h.put d (fun i hi=>by grind [bq]) (.sl own sz 0 []) (v) h.ba (aG.refl G w) h.store (fun _ hx=>hx) (fun i t _ ht=>ht.elim) (fun i t _⟨cs,hcs⟩=>by grind)
   (fun _ _ _ _=>⟨rfl,rfl,rfl⟩) (fun _ _ _ _ _ _ hcc=>⟨hcc,rfl,rfl⟩) (fun i hdi=>by
     refine⟨hvr,?_⟩
     cases own with
     |false=>trivial
     |true=>
      intro base m' dp hv hc'
      rcases VR.cP hbx with e1|⟨_,_,e1⟩<;>rw[e1]at hv<;>injection hv with _ e2 e3<;>omega)
  cases d<;>exact this
 rcases hw' with⟨rfl,rfl,rfl,hk⟩|⟨jo,fh,vd,hk⟩
 ·exact⟨G,_,empty rfl rfl (.inl rfl),aG.refl G w,hk⟩
 ·cases hca:jl k sz off (E.s b)with
  |none=>rw[hca]at hk;exact hk.elim
  |some q=>
   obtain⟨q1,q2⟩:=q
   rw[hca]at hk
   obtain⟨cs,e1,e2,rfl,rfl⟩:=qi hca
   have MI:own=true->off=0/\cs.length=off+cap*sz:=fun ho=>by
    have:=(vd ho).2.2
    rw[e1]at this
    exact⟨(vd ho).1,this⟩
   obtain⟨G',h1,h2⟩:=h.frozen hd e1 e2 fh MI
   have e3:=VR.qt hbx jo
   exact⟨G',_,by grind,h2,hk⟩
theorem T6(h:Inv G n D E a w){op:Op}{ty:TypeId}{sz:Nat}{own:Bool}{x:IX}{d:Option Nat}{K:St->Prop}(hd:bq n d=true)(hc:au P op ty (.Ue sz own x)=true)(hw:iP P (.Ue sz own x) d E K):nU P G n D w a op ty d K:=by
 have key:∀y,bI y x=true->∃(G':Gh)(E':St),Inv G' n D E' (a.put d (a.eval y)) w/\aG G w G' w/\K E':=by
  intro y hy
  have hbx:=XR.aV h hy
  have hw':wH sz own E d (fun τ=>K (Uf x d τ)) (E.x x):=hw
  have hne:∀i,x=.t i->look E.e i≠.undef:=fun i e e2=>by
   subst e
   have e3:E.x (.t i)=.undef:=e2
   rw[e3]at hw';exact hw'
  generalize E.x x=xv at hw' hbx
  obtain⟨G',E',h1,h2,hk⟩:=h.Qt hd (v:=a.eval y) (fun hi=>by cases xv<;>first|exact hbx|grind [dh]) hw'
  refine⟨G',_,?_,h2,hk⟩
  unfold Uf
  split
  ·rename_i i j
   split
   ·rename_i o z m cs he
    obtain rfl:=HN hy
    have hj:j<n:=h1.BA (by rw[he];simp)
    have hsz:a.tmps.size=n:=h.size
    have hlj:(a.put (some j) (a.eval (.tmp i))).tmps[j]? =some (a.eval (.tmp i)):=by simp[Act.put,hsz,hj]
    have hv:=(h1.cu j _ hlj)
    rw[he]at hv
    refine h1.Js i (h.BA (hne i rfl)) _ (fun t ht=>ht) (fun cs' e=>by cases e) fun v hv'=>?_
    have hve:v=a.eval (.tmp i):=by
     by_cases hij:j=i
     ·grind
     ·simp only[Act.put,Array.getElem?_setIfInBounds_ne hij]at hv'
      show v=a.tmps.getD i undef
      simp_all
    rw[hve]
    exact⟨hv.1.view,trivial⟩
   ·exact h1
  ·exact h1
 intro pos after g next Q hn
 cases op<;>first|(simp[au]at hc;done)|skip
 all_goals
  rename_i y
  obtain⟨G',E',h1,h2,hk⟩:=key y hc
  exact aY rfl (hn G' _ _ _ h1 h2 hk)
theorem Ob(h:Inv G n D E a w){op:Op}{ty:TypeId}{sz:Nat}{own:Bool}{x:IX}{d:Option Nat}{K:St->Prop}(hd:bq n d=true)(hc:au P op ty (.zi sz own x)=true)(hw:iP P (.zi sz own x) d E K):nU P G n D w a op ty d K:=by
 cases op<;>first|(simp[au]at hc;done)|skip
 simp[au,Bool.and_eq_true]at hc
 obtain⟨⟨hs,hm⟩,hy⟩:=hc
 have hb:=BR.aV h hy
 have hw':K9 sz own E d K (rd E (xg true E x) 1):=hw
 cases hr:rd E (xg true E x) 1 with
 |none=>rw[hr]at hw';exact hw'.elim
 |some cs=>
  rw[hr]at hw'
  obtain⟨b,off,e,hl,hat,hvw⟩:=BW h hb hr
  match cs,hl,hw' with
  |[c],hl,⟨hi,hw'⟩=>
   obtain⟨v,bR,hvr⟩:=oP hs hm rfl hl hat
   obtain⟨G',E',h1,h2,hk⟩:=h.Qt hd (fun _=>hvr) hw'
   intro pos after g next Q hn
   exact aY (by simp[execOp,e,Instr.loadAt,Instr.sureAddr,bR]) (hn G' _ _ _ h1 h2 hk)
theorem B3(h:Inv G n D E a w)(bl off:Nat)(T:c5)(hT:T≠.sh/\(∀i,T≠.loc i)/\(∀i j,T≠.cell i j)):
 cq (G.gA (.cell bl off) T) w/\aG G w (G.gA (.cell bl off) T) w/\(∀b,G.O b≠.cell bl off->(G.gA (.cell bl off) T).O b=G.O b):=by
 have hne:∀b,G.O b≠.cell bl off->(G.gA (.cell bl off) T).O b=G.O b:=fun b hb=>by simp_all
 exact⟨⟨fun b hb=>by rw[hne b (by rw[h.ba.jJ b hb];simp),h.ba.jJ b hb],h.ba.kB⟩,
  ⟨rfl,rfl,rfl,Nat.le_refl _,Nat.le_refl _,fun _ _=>Nat.le_refl _,fun _ _ _ _=>rfl,fun _ _ _=>rfl,fun b _ hb=>⟨by grind,rfl⟩,fun b _ hb=>⟨by grind,rfl⟩⟩,hne⟩
theorem dn.gA{o T:c5}{av:AV}{v:Value}(h:dn G w o av v):dn (G.gA o T) w T av v:=by
 unfold dn at h⊢
 split
 ·intro base m' cap hv hc
  obtain⟨b,off,c,e,fz,q1,q2,q3⟩:=h base m' cap hv hc
  exact⟨b,off,c,e,fz,q1,by simp[q2],q3⟩
 ·intro base m' cap hv hc
  obtain⟨b,off,c,fz,q1,q2,q3⟩:=h base m' cap hv hc
  exact⟨b,off,c,fz,q1,by simp[q2],q3⟩
 ·trivial
def Dn:AV->Bool
 |.sl _ _ _ _=>true
 |.bb _ _ _=>true
 |_=>false
theorem Em{av:AV}(h:Dn av=true):pw (view av)=true:=by cases av<;>first|rfl|(cases h)
theorem dt.take{bl off:Nat}{T:c5}{cs:List AV}{c:Array Value}{av:AV}(h:dt G w (.cell bl) cs c)(hcs:cs[off]? =some av):
 dt (G.gA (.cell bl off) T) w (.cell bl) (setAt cs off [view av]) c:=by
 refine⟨by rw[mY _ _ _ (by grind)];exact h.1,fun j x y hx hy=>?_⟩
 rw[mX _ _ _ _ (by grind)]at hx
 by_cases hj:j=off
 ·subst hj
  rw[if_pos ⟨Nat.le_refl _,by simp⟩,Nat.sub_self]at hx
  injection hx with hx;subst hx
  exact⟨(h.2 j _ y hcs hy).1.view,dn.view ..⟩
 ·rw[if_neg (by grind)]at hx
  obtain⟨h1,h2⟩:=h.2 j x y hx hy
  refine⟨h1,h2.mono fun b hb=>⟨?_,rfl,rfl⟩⟩
  simp_all
def loadT:Option Nat->c5
 |some i=>.slot i 0
 |none=>.frame
theorem D4(h:Inv G n D E a w){op:Op}{ty:TypeId}{x:IX}{d:Option Nat}{K:St->Prop}(hd:bq n d=true)(hc:au P op ty (.mw x)=true)(hw:iP P (.mw x) d E K):nU P G n D w a op ty d K:=by
 cases op<;>first|(simp[au]at hc;done)|skip
 rename_i t y
 simp only[au,Bool.and_eq_true]at hc
 obtain⟨⟨⟨_,hs⟩,hm⟩,hy⟩:=hc
 have hbx:=XR.aV h hy
 have hw':qA E d K (E.x x):=hw
 have hT:loadT d≠.sh/\(∀i,loadT d≠.loc i)/\(∀i j,loadT d≠.cell i j):=by cases d<;>simp[loadT]
 have bR:∀(b off:Nat)(u:Value),a.eval y=.pointer (some ⟨b,off,none⟩)->w.cell? ⟨b,off,none⟩=some u->∀(pos:String)(after:Array Edge)(g:Option (Nat×Bool)),(execOp a.eval ⟨d,.load t y,ty,pos,after,g⟩).run P w=.ok (.value u) w:=by
  intro b off u e1 e2 pos after g
  have:(loadVar t ⟨b,off,none⟩).run P w=.ok u w:=by simp[loadVar,th hm,e2]
  simp[execOp,e1,Instr.loadAt,Instr.sureAddr,this]
 have ad5:∀{G1:Gh}{σ1:St}{av:AV}{u:Value},Dn av=true->Inv G1 n D σ1 a w->VR w G1.R av u->dn G1 w (loadT d) av u->Inv G1 n D (σ1.put d av) (a.put d u) w:=by
  intro G1 σ1 av u hsl h1 hv ho
  have hiv:dh av=true:=by cases av<;>first|rfl|(cases hsl;done)
  have:=h1.put (s':=σ1.s) (lp':=σ1.lp) d (fun i hi=>by grind [bq]) av u h1.ba (aG.refl G1 w) h1.store (fun _ hx=>hx) (fun i t _ ht=>(eS hiv t ht).elim) (fun i t _⟨cs,hcs⟩=>(mL hiv cs hcs).elim)
   (fun _ _ _ _=>⟨rfl,rfl,rfl⟩) (fun _ _ _ _ _ _ hcc=>⟨hcc,rfl,rfl⟩) (fun i hdi=>by subst hdi;rw[du.qB hiv];exact⟨hv,ho⟩)
  cases d<;>exact this
 have SU:∀{off:Nat}{cs:List AV}{k:List AV->AV->Prop},jM off cs k->∃av,Dn av=true/\cs[off]? =some av/\k (setAt cs off [view av]) av:=by
  intro off cs k hk
  unfold jM at hk
  split at hk
  ·rename_i ow sz m ds he;exact⟨_,rfl,he,hk⟩
  ·rename_i t m ds he;exact⟨_,rfl,he,hk⟩
  ·exact hk.elim
 have SV:∀{off:Nat}{cs:List AV}{k:List AV->AV->Prop},Co off cs k->∃av,Dn av=true/\cs[off]? =some av/\k (setAt cs off [view av]) av:=by
  intro off cs k hk
  unfold Co at hk
  split at hk
  ·rename_i ow sz m ds he;exact⟨_,rfl,he,hk⟩
  ·exact hk.elim
 generalize E.x x=xv at hw' hbx
 unfold qA at hw'
 split at hw'<;>try(exact hw'.elim)
 ·rename_i b off
  have e1:=VR.fZ hbx
  cases hsb:E.s b with
  |none=>grind
  |some so=>
   cases so with
   |map es=>grind
   |cells cs=>
   rw[hsb]at hw'
   obtain⟨av,hsl,hcs,hk⟩:=SU hw'
   obtain⟨q2,q3,c,et,q4,q5,q6⟩:=h.store b _ hsb
   have hlt:off<cs.length:=(List.getElem?_eq_some_iff.1 hcs).1
   have YP:off<c.size:=by rw[q5.1];exact hlt
   have dT:=Array.getElem?_eq_getElem YP
   obtain⟨hv,ho⟩:=q5.2 off _ _ hcs dT
   obtain⟨g1,g2,hne⟩:=B3 h b off (loadT d) hT
   have dZ:a8 (G.gA (.cell b off) (loadT d)) w (E.s.set b (.cells (setAt cs off [view av]))):=by
    intro b' o hb'
    unfold ae.set at hb'
    by_cases hbg:b'=b
    ·rw[if_pos hbg]at hb';injection hb' with hb';subst hb';subst hbg
     exact⟨by grind,q3,c,et,q4,q5.take hcs,DT.setAt q6 (by intro z hz;grind [List.mem_singleton,Em]) off⟩
    ·rw[if_neg hbg]at hb'
     obtain⟨r1,r2,r3⟩:=h.store b' o hb'
     refine⟨by grind,r2,?_⟩
     cases o with
     |cells cs'=>
      obtain⟨c0,t0,r4,r5,r6⟩:=r3
      exact⟨c0,t0,r4,r5.mono (fun _ _ hv=>hv) (fun b'' j tL=>⟨by grind,rfl,rfl⟩),r6⟩
     |map es=>exact r3
   have h1:Inv (G.gA (.cell b off) (loadT d)) n D {E with s:=E.s.set b (.cells (setAt cs off [view av]))} a w:=
    ⟨g1,dZ,h.size,fun k v hkv=>du.frame (G:=G) (G':=G.gA (.cell b off) (loadT d)) (w:=w) (w':=w) (tmps:=a.tmps) (Nu:=a.tmps) (fun _ _ hv=>hv) (fun b' hb'=>⟨hne b' (by grind),rfl,rfl⟩)
      (fun b' c' j hb' hc'=>⟨by grind,rfl,rfl⟩) _ _ (fun d _ cs hcs=>⟨cs,hcs,rfl⟩) (h.cu k v hkv),h.CL,h.JY,h.pn⟩
   intro pos after g next Q hn
   exact aY (bR b off _ e1 (by grind [cell_of_row]) pos after g) (hn _ _ _ _ (ad5 hsl h1 hv ho.gA) g2 hk)
 ·rename_i i off
  cases hl:look E.e i<;>rw[hl]at hw'<;>first|exact hw'.elim|skip
  rename_i cs
  obtain⟨hdi,hw'⟩:=hw'
  obtain⟨av,hsl,hcs,hk⟩:=SV hw'
  obtain⟨b,e1,e2⟩:=hbx
  have htm:=e2 cs hl
  have IA:=h.cu i _ htm
  rw[hl]at IA
  obtain⟨b',c,et,p1,p2,p3,p4,p5,p6⟩:=IA
  injection p1 with p1;injection p1 with p1;injection p1 with p1 _ _
  subst p1
  have hlt:off<cs.length:=(List.getElem?_eq_some_iff.1 hcs).1
  have YP:off<c.size:=by rw[p5.1];exact hlt
  have dT:=Array.getElem?_eq_getElem YP
  obtain⟨hv,ho⟩:=p5.2 off _ _ hcs dT
  obtain⟨g1,g2,hne⟩:=B3 h b off (loadT d) hT
  have dZ:a8 (G.gA (.cell b off) (loadT d)) w E.s:=h.store.mono h.ba g2 (fun b' hb'=>⟨by grind,rfl,rfl⟩)
   (fun b' c' j hb' hc'=>⟨by grind,rfl,rfl⟩)
  have h1:Inv (G.gA (.cell b off) (loadT d)) n D (E.put (some i) (.loc (setAt cs off [view av]))) a w:=by
   refine⟨g1,dZ,h.size,fun k v hkv=>?_,fun k hk'=>?_,fun k d' hk'=>?_,h.pn⟩
   ·by_cases hki:i=k
    ·subst hki
     have:look (E.put (some i) (.loc (setAt cs off [view av]))).e i=.loc (setAt cs off [view av]):=by simp[St.put,bc]
     rw[this]
     rw[htm]at hkv;injection hkv with hkv;subst hkv
     exact⟨b,c,et,rfl,by grind,p3,p4,p5.take hcs,Fl.setAt p6 (by intro z hz;grind [List.mem_singleton,Em]) off⟩
    ·have:look (E.put (some i) (.loc (setAt cs off [view av]))).e k=look E.e k:=by simp[St.put,bc,hki]
     rw[this]
     refine du.frame (G:=G) (G':=G.gA (.cell b off) (loadT d)) (w:=w) (w':=w) (tmps:=a.tmps) (Nu:=a.tmps) (fun _ _ hv=>hv) (fun b' hb'=>⟨hne b' (by grind),rfl,rfl⟩)
      (fun b' c' j hb' hc'=>⟨by grind,rfl,rfl⟩) _ _ (fun d' _ cs' x8=>?_) (h.cu k v hkv)
     by_cases hdi':i=d'
     ·grind
     ·simp only[St.put,bc,hdi',if_false]at x8
      grind
   ·by_cases hki:i=k
    ·subst hki
     have:=h.CL i hk'
     grind
    ·simp only[St.put,bc,hki,if_false];exact h.CL k hk'
   ·by_cases hki:i=k
    ·subst hki
     simp only[St.put,bc,if_true]at hk'
     exact hk'.elim
    ·simp only[St.put,bc,hki,if_false]at hk'
     exact h.JY k d' hk'
  intro pos after g next Q hn
  exact aY (bR b off _ e1 (by grind [cell_of_row]) pos after g) (hn _ _ _ _ (ad5 hsl h1 hv ho.gA) g2 hk)
theorem Oa(h:Inv G n D E a w){op:Op}{ty:TypeId}{off:Nat}{j x:IX}{d:Option Nat}{K:St->Prop}(hd:bq n d=true)(hc:au P op ty (.my off j x)=true)(hw:iP P (.my off j x) d E K):nU P G n D w a op ty d K:=by
 have hc':au P op ty (.mw x)=true:=by cases op<;>first|exact hc|(done)
 exact D4 h hd hc' hw.2
theorem T5(h:Inv G n D E a w){op:Op}{ty:TypeId}{ne:Bool}{x:IX}{d:Option Nat}{K:St->Prop}(hd:bq n d=true)(hc:au P op ty (.WR ne x)=true)(hw:iP P (.WR ne x) d E K):nU P G n D w a op ty d K:=by
 cases op<;>first|(simp[au]at hc;done)|skip
 rename_i b t u v yt
 simp only[au,Bool.and_eq_true,decide_eq_true_eq]at hc
 obtain⟨⟨⟨rfl,hx⟩,hy⟩,ht⟩:=hc
 cases hel:cK P t with
 |none=>grind
 |some e=>
 have ht:=cV hel
 have e2:a.eval v=.slice none 0 0:=by
  split at hy
  ·rfl
  ·cases hy
 have hbx:=XR.aV h hx
 have hw':Qj ne E d K (E.x x):=hw
 generalize E.x x=xv at hw' hbx
 have some_:∀(ad:Addr)(l c:Nat),a.eval u=.slice (some ad) l c->K (E.put d (.bool ne))->nU P G n D w a (.binOp (if ne=true then .neq else .eql) t u v yt) ty d K:=by
  intro ad l c e1 hk pos after g next Q hn
  have hr:(Op.equal t (.slice (some ad) l c) (.slice none 0 0)).run P w=.ok false w:=oy 9999 ht ad l c
  refine aY (v:=.bool ne) ?_ (hn G _ _ _ (h.Jo hd rfl (.bool _) rfl) (aG.refl G w) hk)
  cases ne<;>simp[execOp,e1,e2,eqGuard,binOp,hr]
 have none_:a.eval u=.slice none 0 0->K (E.put d (.bool !ne))->nU P G n D w a (.binOp (if ne=true then .neq else .eql) t u v yt) ty d K:=by
  intro e1 hk pos after g next Q hn
  have key:∀q:Nat,(Op.equalIn (q+1) t (.slice none 0 0) (.slice none 0 0)).run P w=.ok true w:=fun q=>by simp[Op.equalIn,run_underlying ht]
  have hr:(Op.equal t (.slice none 0 0) (.slice none 0 0)).run P w=.ok true w:=key 9999
  refine aY (v:=.bool !ne) ?_ (hn G _ _ _ (h.Jo hd rfl (.bool _) rfl) (aG.refl G w) hk)
  cases ne<;>simp[execOp,e1,e2,eqGuard,binOp,hr]
 unfold Qj at hw'
 split at hw'<;>try(exact hw'.elim)
 ·rename_i ow sz m cs
  rcases VR.il hbx with⟨(e1|⟨_,_,_,e1⟩),rfl,_⟩|⟨b,off,cap,e1,_⟩
  ·grind
  ·grind
  grind
 ·rename_i b off m cap
  rcases VR.cP hbx with e1|⟨_,rfl,e1⟩
  ·grind
  grind
theorem DQ(a b:List AV):views (a++b)=views a++views b:=by simp[views]
theorem N6(h:Inv G n D E a w){op:Op}{ty:TypeId}{f i:Nat}{args:List IX}{d:Option Nat}{K:St->Prop}(hd:bq n d=true)(hc:au P op ty (.yV f i args)=true)(hw:iP P (.yV f i args) d E K):nU P G n D w a op ty d K:=by
 have hcc:au P op ty (.call f args)=true:=by
  cases op<;>first|(simp[au]at hc;done)|skip
  simp only[au,Bool.and_eq_true]at hc
  exact hc.2
 have hw':XW i E (fun τ=>ue P f τ d K (cF (xg true τ) args)) (look E.e i):=hw
 have later:∀(G1:Gh)(τ:St),Inv G1 n D τ a w->aG G w G1 w->ue P f τ d K (cF (xg true τ) args)->nU P G n D w a op ty d K:=by
  intro G1 τ h1 hp hk pos after g next Q hn
  exact Ii h1 hd hcc hk pos after g next Q fun G' E' a' w' k1 k2 k3=>hn G' E' a' w' k1 (hp.trans k2) k3
 cases hl:look E.e i<;>rw[hl]at hw'<;>first|exact hw'.elim|skip
 rename_i sz m cs
 obtain⟨hw1,hw2⟩:=hw'
 have hin:i<n:=h.BA (by rw[hl];simp)
 have hlt:i<a.tmps.size:=by rw[h.size];exact hin
 have hs:=h.cu i _ (Array.getElem?_eq_getElem hlt)
 rw[hl]at hs
 rcases hs with⟨h1,h2,h3⟩|⟨b,cap,c,t,sp,h1,h2,h3,h4,h5,h6,h7,h8,h9,h10,h11,h12⟩
 ·subst h1;subst h2
  rcases h3 with h3|⟨b,off,h3⟩
  ·refine later G _ (h.Js i hin (.arr 0 0 0 0) (fun t ht=>ht) (fun cs e=>by cases e) fun v hv=>?_) (aG.refl G w) (hw2 rfl 0 0)
   rw[Array.getElem?_eq_getElem hlt]at hv;injection hv with hv;subst hv
   exact⟨by rw[h3];exact .Fo _ _,trivial⟩
  ·refine later G _ (h.Js i hin (.arr b off 0 0) (fun t ht=>ht) (fun cs e=>by cases e) fun v hv=>?_) (aG.refl G w) (hw2 rfl b off)
   rw[Array.getElem?_eq_getElem hlt]at hv;injection hv with hv;subst hv
   exact⟨by rw[h3];exact .arr _ _ _ _,trivial⟩
 ·have WY:E.s b=none:=by
   cases hsb:E.s b with
   |none=>rfl
   |some o=>have:=(h.store b o hsb).1;grind
  have ai0:views sp=sp:=by
   have:views cs++views sp=cs++sp:=by rw[<-DQ];exact h12
   exact(List.append_inj this (by simp[views])).2
  let G1:Gh:=G.nS b .sh 0
  have same:∀b',b'≠b->G1.O b'=G.O b'/\G1.R b'=G.R b'/\w.heap[b']? =w.heap[b']? :=fun b' hb'=>⟨by simp[G1,hb'],by simp[G1,hb'],rfl⟩
  have hRe:∀b',G1.R b'=G.R b':=fun b'=>by
   by_cases hb:b'=b
   ·subst hb;simp[G1,h5]
   grind
  have bV:aG G w G1 w:=⟨rfl,rfl,rfl,Nat.le_refl _,Nat.le_refl _,fun b' _=>by grind,fun _ _ _ _=>rfl,fun _ _ _=>rfl,fun b' _ hb'=>by
   grind,fun b' _ hb'=>by
   grind⟩
  have hbl:b<w.heap.size:=h.ba.lt (by rw[h4];simp)
  have jE:cq G1 w:=⟨fun b' hb'=>by
   have:b'≠b:=by omega
   rw[(same b' this).1,h.ba.jJ b' hb'],fun b' hb'=>by rw[hRe,h.ba.kB b' hb']⟩
  have dZ:a8 G1 w (E.s.set b (.cells (cs++sp))):=by
   intro b' o hb'
   unfold ae.set at hb'
   by_cases hbg:b'=b
   ·rw[if_pos hbg]at hb';injection hb' with hb';subst hb';subst hbg
    refine⟨by simp[G1],by simp[G1],c,t,h6,⟨by rw[h7,h9],fun j x y hx hy=>⟨bV.vr h.ba (h10 j x y hx hy),?_⟩⟩,h11.tag _⟩
    grind [eV,dn.view]
   ·rw[if_neg hbg]at hb'
    obtain⟨r1,r2,r3⟩:=h.store b' o hb'
    refine⟨(same b' hbg).1.trans r1,(same b' hbg).2.1.trans r2,?_⟩
    cases o with
    |cells cs'=>
     obtain⟨c0,t0,r4,r5,r6⟩:=r3
     exact⟨c0,t0,r4,r5.mono (fun _ _ hv=>bV.vr h.ba hv) (fun b'' j tL=>by grind),r6⟩
    |map es=>
     obtain⟨jm,clock,r4,r5,r6⟩:=r3
     exact⟨jm,clock,r4,r5,fun j x y hx hy=>⟨bV.vr h.ba (r6 j x y hx hy).1,bV.vr h.ba (r6 j x y hx hy).2⟩⟩
  have h1':Inv G1 n D ({E with s:=E.s.set b (.cells (cs++sp))}.put (some i) (.arr b 0 m cap)) a w:=by
   have ha:a.put (some i) a.tmps[i]=a:=by
    have:a.tmps.setIfInBounds i a.tmps[i]=a.tmps:=by rw[Array.setIfInBounds,dif_pos hlt,Array.set_getElem_self]
    simp[Act.put,this]
   have:=h.put (s':=E.s.set b (.cells (cs++sp))) (lp':=E.lp) (some i) (fun j hj=>by grind) (.arr b 0 m cap) a.tmps[i] jE bV dZ (fun _ hx=>hx) (fun j t _ ht=>ht.elim) (fun j t _⟨cs,hcs⟩=>by cases hcs)
    (fun j b' hj hb'=>same b' (fun e=>by grind))
    (fun j b' c' q _ _ hc'=>by grind)
    (fun j hj=>by
      injection hj with hj;subst hj
      exact⟨by rw[h3];exact .arr _ _ _ _,trivial⟩)
   rw[ha]at this
   exact this
  grind
theorem U0{R:Nat->Nat}{sz:Nat}{c:AV}{u:Value}(h:VR w R c u):VR w R (vB sz c) u:=by
 unfold vB
 split
 ·rename_i b
  rcases VR.cP h with e|⟨_,_,e⟩
  ·rw[e];exact .sl true sz 0 [] b 0 0 (fun _=>undef) Fl.nil (by simp) (by simp) (Nat.le_refl _) (fun j c hj=>by grind) (fun j c hj=>by grind)
  ·rw[e];exact .slnil _ _
 ·exact h
theorem RE{R:Nat->Nat}{o:c5}{sz:Nat}{c:AV}{u:Value}(h:VR w R c u):dn G w o (vB sz (view c)) u:=by
 unfold vB
 split
 ·rename_i b hb
  have:c=.arr b 0 0 0:=by cases c<;>simp[view]at hb<;>simp[hb]
  subst this
  intro base m cap hv hc
  rcases VR.cP h with e|⟨_,_,e⟩<;>rw[e]at hv<;>injection hv with _ e2 e3<;>omega
 ·exact dn.view ..
theorem OB{sz:Nat}{c:AV}(h:pw c=true):pw (vB sz c)=true:=by
 unfold vB
 split
 ·rfl
 ·exact h
theorem Qd(h:Inv G n D E a w){op:Op}{ty:TypeId}{sz m:Nat}{x:IX}{d:Option Nat}{K:St->Prop}(hd:bq n d=true)(hc:au P op ty (.HG sz m x)=true)(hw:iP P (.HG sz m x) d E K):nU P G n D w a op ty d K:=by
 cases op<;>first|(simp[au]at hc;done)|skip
 rename_i t y
 simp only[au,Bool.and_eq_true]at hc
 obtain⟨hi,_,hk⟩:=hw
 have hvr:VR w G.R (E.x x) (a.eval y):=by
  have:=XR.aV h hc.2
  generalize E.x x=av at hi this
  cases av<;>first|exact this|grind [dh]
 have e7:=gT hi hvr
 have hcs:∀(G':Gh)(w':World)(o:Nat->c5),aG G w G' w'->dt G' w' o ((views (cellsOf (E.x x))).map (vB sz)) (a.eval y).cells:=by
  intro G' w' o hp
  refine⟨by simp only[List.length_map,views];exact e7.1,fun j c u hcj hu=>?_⟩
  simp only[List.getElem?_map]at hcj
  rw[eV]at hcj
  cases hz:(cellsOf (E.x x))[j]? with
  |none=>grind
  |some c0=>
   rw[hz]at hcj;simp at hcj
   have h1:=hp.vr h.ba (e7.2.1 j c0 u hz hu)
   rw[<-hcj]
   exact⟨U0 h1.view,RE h1⟩
 have hfl:Fl ((views (cellsOf (E.x x))).map (vB sz)):=by
  intro c hc'
  simp only[List.mem_map]at hc'
  obtain⟨c',h1,rfl⟩:=hc'
  exact OB (e7.2.2.views c' h1)
 intro pos after g next Q hn
 obtain⟨G',h1,h2⟩:=h.Lh hd (t:=t) (.inl ⟨rfl,rfl⟩) hcs hfl
 refine aY ?_ (hn G' _ _ _ h1 h2 (hk w.heap.size (h.store.get_none h.ba)))
 simp[execOp,Instr.box,newVar,newRow]
end
end Go.AB
end
