/- A part of the proof: Ab18, Ab19, Ab20, Ab21. -/
import Derived.Test.YtkeagffgdajggaaGreatT8
set_option linter.unusedSimpArgs false
set_option linter.unusedVariables false
section
namespace Go.AB
open Go
structure ay where
 t:Nat
 own:Bool
 cell:Option (Nat×Bool):=none
 deriving Inhabited
def cX(multi:Bool):Option (List AV)→AV
 |some cs=>mq multi cs
 |none=>.undef
def ct(σ:St)(r:ay):AV:=match r.cell with
 |none=>bif r.own then look σ.e r.t else view (look σ.e r.t)
 |some (n,multi)=>cX multi (rd σ (look σ.e r.t) n)
def aV(σ:St)(res:List ay):List AV:=res.map (ct σ)
def iW(P:Program):List ResultVar→List ay→Bool
 |[],[]=>true
 |.tmp t::r,i::s=>t==i.t&&i.cell.isNone&&(!i.own||s.all fun j=>!(j.own&&j.t==i.t))&&iW P r s
 |.cell t ty::r,i::s=>t==i.t&&!i.own&&(match i.cell with
  |some (n,multi)=>ch P ty n&&mo P ty multi&&(multi||n==1)
  |none=>false)&&iW P r s
 |_,_=>false
def aI:Nat→List AV→List (Nat×AV)
 |_,[]=>[]
 |i,a::r=>(i,view a)::aI (i+1) r
def start(args:List AV)(s:ab):St:={e:=aI 0 args,lp:=[],s:=s}
def cK(cs:List AV):Bool:=cs.all cU
def cT(res:List ay)(Q:List AV→ab→Prop):Exit→St→Prop
 |.ret,σ=>cK (aV σ res)=true∧Q (aV σ res) σ.s
 |.normal,σ=>cK (aV σ res)=true∧Q (aV σ res) σ.s
 |_,_=>False
def aC(P:Program)(f:FuncId)(n:Nat)(res:List ay)(ic:IC):Bool:=match P.funcs[f]? with
 |some fn=>fn.ntmps==n&&iW P fn.results.toList res&&(match fn.body with
  |some c=>kH P n c ic
  |none=>false)
 |none=>false
section
variable{P:Program}{G G':Gh}{n:Nat}{D:List Deferred}{σ:St}{a:Act}{w w':World}
theorem oz(i:Nat):∀(args:List AV)(k:Nat),look (aI k args) i=if k≤i then(match args[i -k]? with|some a=>view a|none=>.undef)else .undef
 |[],k=>by
  show AV.undef=_
  split<;>simp
 |a::r,k=>by
  show look ((k,view a)::aI (k+1) r) i=_
  rw[aJ,oz i r (k+1)]
  by_cases h:k=i
  ·subst h;simp
  ·by_cases h2:k≤i
   ·have h3:k+1≤i:=by omega
    have h4:i -k=(i -(k+1))+1:=by omega
    rw[if_neg h,if_pos h3,if_pos h2,h4,List.getElem?_cons_succ]
   ·rw[if_neg h,if_neg (by omega),if_neg h2]
theorem Km{args:List AV}{s:ab}{vs:Array Value}(hg:bM G w)(hs:aL G w s)(ha:kF w G.R args vs)(hv:cK args=true)(hn:args.length≤n):
 Inv G n [] (start args s) {tmps:=vs++Array.replicate (n -vs.size) undef,defers:=[]} w:=by
 have hsz:vs.size=args.length:=ha.1
 refine⟨hg,hs,by simp;omega,fun i v hi=>?_,fun i hi=>?_,fun i t ht=>?_,rfl⟩
 ·show c5 G w (aI 0 args) _ i (look (aI 0 args) i) v
  rw[oz,if_pos (Nat.zero_le _),Nat.sub_zero]
  cases hai:args[i]? with
  |none=>exact⟨.undef _,trivial⟩
  |some av=>
   have hlt:i<args.length:=(List.getElem?_eq_some_iff.1 hai).1
   have hvi:vs[i]? =some v:=by
    have hi':(vs++Array.replicate (n -vs.size) undef)[i]? =some v:=hi
    rw[Array.getElem?_append_left (by omega)]at hi'
    exact hi'
   have hV:cU av=true:=by
    have:=List.all_eq_true.1 hv
    exact this av (List.mem_of_getElem? hai)
   exact c5.Ap hV (ha.2 i av v hai hvi)
 ·show look (aI 0 args) i=.undef
  rw[oz,if_pos (Nat.zero_le _),Nat.sub_zero,List.getElem?_eq_none (by omega)]
 ·have ht':ba (look (aI 0 args) i) t:=ht
  rw[oz,if_pos (Nat.zero_le _),Nat.sub_zero]at ht'
  cases hai:args[i]? with
  |none=>rw[hai]at ht';exact ht'.elim
  |some av=>
   rw[hai]at ht'
   have hV:cU av=true:=List.all_eq_true.1 hv av (List.mem_of_getElem? hai)
   exact(dZ (kb hV) t ht').elim
def Ki:List ay→Nat→Nat→Option Nat
 |[],_,_=>none
 |r::s,k,i=>bif r.own&&r.t==i then some k else Ki s (k+1) i
def F3(G:Gh)(res:List ay):cy→cy
 |.none=>.none
 |.frame=>.frame
 |.sh=>.sh
 |.slot i j=>(match j,Ki res 0 i with
  |0,some k=>.res k
  |_,_=>.none)
 |.cell b j=>if G.O b=.sh then .cell b j else .none
 |_=>.none
theorem Kj:∀(vs:List ResultVar)(res:List ay),iW P vs res=true→vs.length=res.length
 |[],[],_=>rfl
 |v::vs,r::res,h=>by
  have:iW P vs res=true:=by cases v<;>simp only[iW,Bool.and_eq_true]at h<;>exact h.2
  simp[Kj vs res this]
 |[],_::_,h=>by simp[iW]at h
 |_::_,[],h=>by simp[iW]at h
theorem y9:∀(vs:List ResultVar)(res:List ay)(k j:Nat)(r:ay),iW P vs res=true→res[j]? =some r→r.own=true→Ki res k r.t=some (k+j)
 |v::vs,r0::res,k,0,r,_,hj,ho=>by
  simp at hj;subst hj
  simp[Ki,ho]
 |v::vs,r0::res,k,j+1,r,h,hj,ho=>by
  have hj':res[j]? =some r:=by simpa using hj
  have hrest:iW P vs res=true:=by cases v<;>simp only[iW,Bool.and_eq_true]at h<;>exact h.2
  have hne:(r0.own&&r0.t==r.t)=false:=by
   cases hr0:r0.own with
   |false=>rfl
   |true=>
    cases v with
    |cell=>simp[iW,hr0]at h
    |tmp t=>
    simp only[iW,Bool.and_eq_true]at h
    have h1:=h.1.2
    rw[hr0]at h1
    have h1':∀x∈res,x.own=false∨¬x.t=r0.t:=by simpa using h1
    rcases h1' r (List.mem_of_getElem? hj')with e|e
    ·rw[ho]at e;cases e
    ·simpa using fun e'=>e e'.symm
  show(bif r0.own&&r0.t==r.t then some k else Ki res (k+1) r.t)=_
  rw[hne]
  show Ki res (k+1) r.t=_
  rw[y9 vs res (k+1) j r hrest hj' ho]
  congr 1;omega
 |[],r0::res,_,_,_,h,_,_=>by simp[iW]at h
 |_,[],_,_,_,_,hj,_=>by simp at hj
theorem c5.VY{G:Gh}{w:World}{e:List (Nat×AV)}{tmps:Array Value}{i:Nat}{a:AV}{v:Value}(h:cU a=true∨cU (view a)=true):c5 G w e tmps i a v→(VR w G.R a v∧c7 G w (.slot i 0) a v):=by cases a<;>simp_all [cU,view,c5]
def Od(vs:Array Value):Value:=if h:vs.size=1 then vs[0]else .tuple vs
theorem mapM_some{α β:Type}(f:α→Sem β)(w:World):∀(l:List α)(vs:List β),l.length=vs.length→(∀(j:Nat)(x:α)(v:β),l[j]? =some x→vs[j]? =some v→(f x).run P w=.ok v w)→(l.mapM f).run P w=.ok vs w
 |[],[],_,_=>by simp
 |x::l,v::vs,hl,h=>by
  rw[List.mapM_cons]
  simp[h 0 x v rfl rfl,mapM_some f w l vs (by simpa using hl) (fun j y z hy hz=>h (j+1) y z (by simpa using hy) (by simpa using hz))]
 |[],_::_,hl,_=>by simp at hl
 |_::_,[],hl,_=>by simp at hl
def BM(tmps:Array Value):ResultVar→Sem Value
 |.tmp t=>pure (tmps.getD t undef)
 |.cell a t=>do loadVar t (←asAddr (tmps.getD a undef))
theorem Og{fn:Func}(tmps:Array Value)(w:World)(vs:List Value)(hl:fn.results.toList.length=vs.length)(h:∀(j:Nat)(x:ResultVar)(v:Value),fn.results.toList[j]? =some x→vs[j]? =some v→(BM tmps x).run P w=.ok v w):
 (results fn tmps).run P w=.ok (Od vs.toArray) w:=by
 have e:(fn.results.toList.mapM (BM tmps)).run P w=.ok vs w:=mapM_some _ w _ _ hl h
 unfold results
 rw[Array.mapM_eq_mapM_toList]
 have key:∀F:ResultVar→Sem Value,F=BM tmps→(do let vs←List.toArray<$>fn.results.toList.mapM F;pure (if h:vs.size=1 then vs[0]else .tuple vs):Sem Value).run P w=.ok (Od vs.toArray) w:=by
  intro F hF
  subst hF
  simp only[Sem.run_bind,Sem.run_map,e,Result.andThen_ok]
  rfl
 exact key _ (by funext x;cases x<;>rfl)
theorem Q7{fn:Func}{res:List ay}{Q:List AV→ab→Prop}{σ':St}{a':Act}(hres:iW P fn.results.toList res=true)(h:Inv G' n D σ' a' w')(hp:ax G w G' w')(hall:cK (aV σ' res)=true)(hQ:Q (aV σ' res) σ'.s):
 ∃v,(results fn a'.tmps).run P w'=.ok v w'∧∃v' rs s' G'',Ending.returned v=.returned v'∧Q rs s'∧bM G'' w'∧aL G'' w' s'∧nk G'' w' rs v'∧ax G w G'' w':=by
 let G2:Gh:=⟨G'.R,fun b=>F3 G' res (G'.O b)⟩
 have hV:∀(j:Nat)(r:ay),res[j]? =some r→cU (ct σ' r)=true:=fun j r hj=>by
  refine List.all_eq_true.1 hall _ ?_
  exact List.mem_map.2 ⟨r,List.mem_of_getElem? hj,rfl⟩
 have hlen:=Kj _ _ hres
 have get:∀(vs:List ResultVar)(rs:List ay),iW P vs rs=true→∀(j:Nat)(x:ResultVar)(r:ay),vs[j]? =some x→rs[j]? =some r→
  (x=.tmp r.t∧r.cell=none)∨∃ty n m,x=.cell r.t ty∧r.cell=some (n,m)∧r.own=false∧ch P ty n=true∧mo P ty m=true∧(m||n==1)=true:=by
  intro vs
  induction vs with
  |nil=>intro rs _ j x r hx;simp at hx
  |cons v vs ih=>
   intro rs hh j x r hx hr
   cases rs with
   |nil=>simp at hr
   |cons r0 rs=>
    cases j with
    |succ j=>
     refine ih rs ?_ j x r (by simpa using hx) (by simpa using hr)
     cases v<;>simp only[iW,Bool.and_eq_true]at hh<;>exact hh.2
    |zero=>
     simp at hx hr;subst hx;subst hr
     cases v with
     |tmp t=>
      simp only[iW,Bool.and_eq_true,beq_iff_eq]at hh
      exact .inl ⟨by rw[hh.1.1.1],by simpa using hh.1.1.2⟩
     |cell t ty=>
      simp only[iW,Bool.and_eq_true,beq_iff_eq]at hh
      obtain⟨⟨⟨h1,h2⟩,h3⟩,_⟩:=hh
      split at h3
      ·rename_i n m hc
       simp only[Bool.and_eq_true]at h3
       exact .inr ⟨ty,n,m,by rw[h1],hc,by simpa using h2,h3.1.1,h3.1.2,h3.2⟩
      ·cases h3
 have hone:∀(j:Nat)(x:ResultVar)(r:ay),fn.results.toList[j]? =some x→res[j]? =some r→∃v,(BM a'.tmps x).run P w'=.ok v w'∧VR w' G2.R (ct σ' r) v∧c7 G2 w' (.res j) (ct σ' r) v:=by
  intro j x r hx hj
  have hi:=hV j r hj
  have hlk:look σ'.e r.t≠.undef:=by
   intro e
   unfold ct at hi
   rw[e]at hi
   cases hr:r.cell with
   |none=>
    rw[hr]at hi
    cases ho:r.own with
    |true=>rw[ho]at hi;cases hi
    |false=>rw[ho]at hi;cases hi
   |some nm=>rw[hr]at hi;obtain⟨n1,m1⟩:=nm;cases hi
  have hlt:r.t<a'.tmps.size:=by rw[h.size];exact h.NO hlk
  rcases get _ _ hres j x r hx hj with⟨rfl,hcell⟩|⟨ty,n1,m1,rfl,hcell,ho,hs1,ha1,h11⟩
  ·refine⟨a'.tmps.getD r.t undef,rfl,?_⟩
   have hi':cU (look σ'.e r.t)=true∨cU (view (look σ'.e r.t))=true:=by
    unfold ct at hi
    rw[hcell]at hi
    cases hr:r.own with
    |true=>rw[hr]at hi;exact .inl hi
    |false=>rw[hr]at hi;exact .inr hi
   have hs:=h.bW r.t _ (gL hlt)
   replace hs:=c5.VY hi' hs
   have he:a'.eval (.tmp r.t)=a'.tmps.getD r.t undef:=rfl
   rw[he]at hs
   unfold ct
   rw[hcell]
   cases hr:r.own with
   |false=>exact⟨hs.1.view,c7.view ..⟩
   |true=>
    refine⟨hs.1,?_⟩
    have ho:=hs.2
    show c7 G2 w' (.res j) (look σ'.e r.t) _
    unfold c7 at ho⊢
    split
    ·rename_i sz m cs hsl
     rw[hsl]at ho
     intro base m' cap hv hc
     obtain⟨b,off,c,e,fz,q1,q2,q3⟩:=ho base m' cap hv hc
     refine⟨b,off,c,e,fz,q1,?_,q3⟩
     show F3 G' res (G'.O b)=.res j
     rw[q2]
     have:=y9 fn.results.toList res 0 j r hres hj hr
     simp[F3,this]
    ·rename_i e m cs hsl
     rw[hsl]at ho
     intro base m' cap hv hc
     obtain⟨b,off,c,fz,q1,q2,q3⟩:=ho base m' cap hv hc
     refine⟨b,off,c,fz,q1,?_,q3⟩
     show F3 G' res (G'.O b)=.res j
     rw[q2]
     have:=y9 fn.results.toList res 0 j r hres hj hr
     simp[F3,this]
    ·trivial
  ·unfold ct at hi⊢
   rw[hcell]at hi⊢
   have hb:BR G' w' σ' a' (.t r.t) (look σ'.e r.t) (a'.tmps.getD r.t undef):=by
    have:=BR.aB h (o:=.tmp r.t) (x:=.t r.t) (by simp[aX])
    have hun:xg true σ' (.t r.t)=zm true (look σ'.e r.t):=rfl
    rw[hun]at this
    generalize look σ'.e r.t=av at this hi
    cases av<;>first|exact this|(cases hi;done)|trivial
   have hi:cU (cX m1 (rd σ' (look σ'.e r.t) n1))=true:=hi
   show∃v,_∧VR w' G2.R (cX m1 (rd σ' (look σ'.e r.t) n1)) v∧c7 G2 w' (.res j) (cX m1 (rd σ' (look σ'.e r.t) n1)) v
   cases hrd:rd σ' (look σ'.e r.t) n1 with
   |none=>rw[hrd]at hi;cases hi
   |some cs=>
    obtain⟨b,off,e,hl,hat,hvw⟩:=Gf h hb hrd
    obtain⟨v,hrun,hvr⟩:=pq hs1 ha1 h11 hl hat
    refine⟨v,?_,hvr,?_⟩
    ·show(do loadVar ty (←asAddr (a'.tmps.getD r.t undef)):Sem Value).run P w'=_
     rw[e]
     simp[asAddr,hrun]
    ·have hview:=G9 (multi:=m1) hvw
     show c7 G2 w' (.res j) (mq m1 cs) v
     rw[←hview];exact c7.view ..
 have hall2:∃vs:List Value,fn.results.toList.length=vs.length∧∀(j:Nat)(x:ResultVar)(r:ay)(v:Value),fn.results.toList[j]? =some x→res[j]? =some r→vs[j]? =some v→(BM a'.tmps x).run P w'=.ok v w'∧VR w' G2.R (ct σ' r) v∧c7 G2 w' (.res j) (ct σ' r) v:=by
  have hch:∀j:Fin fn.results.toList.length,∃v,∀(x:ResultVar)(r:ay),fn.results.toList[j.1]? =some x→res[j.1]? =some r→(BM a'.tmps x).run P w'=.ok v w'∧VR w' G2.R (ct σ' r) v∧c7 G2 w' (.res j.1) (ct σ' r) v:=by
   intro j
   have hr:j.1<res.length:=by rw[←hlen];exact j.2
   obtain⟨v,hv⟩:=hone j.1 _ _ (List.getElem?_eq_getElem j.2) (List.getElem?_eq_getElem hr)
   refine⟨v,fun x r hx hr'=>?_⟩
   rw[List.getElem?_eq_getElem j.2]at hx
   rw[List.getElem?_eq_getElem hr]at hr'
   injection hx with hx;injection hr' with hr'
   subst hx;subst hr'
   exact hv
  refine⟨List.ofFn fun j=>(hch j).choose,by simp,fun j x r v hx hr hv=>?_⟩
  have hj:j<fn.results.toList.length:=(List.getElem?_eq_some_iff.1 hx).1
  have:=(hch ⟨j,hj⟩).choose_spec x r hx hr
  simp only[List.getElem?_ofFn,hj,dite_true]at hv
  injection hv with hv
  rw[hv]at this
  exact this
 obtain⟨vs,hvl,hvs⟩:=hall2
 refine⟨_,Og a'.tmps w' vs hvl (fun j x v hx hv=>by
  have hj:j<res.length:=by rw[←hlen];exact(List.getElem?_eq_some_iff.1 hx).1
  exact(hvs j x _ v hx (List.getElem?_eq_getElem hj) hv).1),?_⟩
 have hval:∀(j:Nat)(r:ay)(v:Value),res[j]? =some r→vs[j]? =some v→VR w' G2.R (ct σ' r) v∧c7 G2 w' (.res j) (ct σ' r) v:=by
  intro j r v hr hv
  have hj:j<fn.results.toList.length:=by rw[hvl];exact(List.getElem?_eq_some_iff.1 hv).1
  exact(hvs j _ r v (List.getElem?_eq_getElem hj) hr hv).2
 have hvl2:vs.length=res.length:=by rw[←hvl,hlen]
 refine⟨_,aV σ' res,σ'.s,G2,rfl,hQ,⟨fun b hb=>?_,h.aG.iT⟩,?_,?_,?_⟩
 ·show F3 G' res (G'.O b)=.none
  rw[h.aG.iS b hb];rfl
 ·refine h.store.CQ (fun _ _ hv=>hv) (fun b hb=>⟨?_,rfl,rfl⟩) (fun b c j hb hc=>⟨?_,rfl,rfl⟩)
  ·show F3 G' res (G'.O b)=.sh
   rw[hb];rfl
  ·show F3 G' res (G'.O c)=.cell b j
   rw[hc];simp[F3,hb]
 ·match res,vs,hvl2,hval with
  |[],[],_,_=>exact⟨#[],rfl,rfl,fun j x y hx=>by simp[aV]at hx⟩
  |[r],[v],_,hval=>
   have h1:=hval 0 r v rfl rfl
   have h2:=hV 0 r rfl
   show Uv G2 w' (ct σ' r) v
   generalize ct σ' r=av at h1 h2
   cases av<;>first|exact h1|cases h2
  |r1::r2::rr,v1::v2::vv,hl2,hval=>
   refine⟨_,rfl,by simpa[aV]using hl2,fun j x y hx hy=>?_⟩
   have hx':((r1::r2::rr).map (ct σ'))[j]? =some x:=hx
   rw[List.getElem?_map]at hx'
   cases hj:(r1::r2::rr)[j]? with
   |none=>rw[hj]at hx';cases hx'
   |some r=>
    rw[hj]at hx'
    injection hx' with hx'
    have hy':(v1::v2::vv)[j]? =some y:=by simpa using hy
    subst hx'
    exact hval j r y hj hy'
 ·refine⟨hp.os,hp.tape,hp.output,hp.drawn,hp.size,hp.mono,hp.mn,hp.frame,fun b hb ho=>?_,fun b hb ho=>?_⟩
  ·obtain⟨e1,e2⟩:=hp.ji b hb ho
   exact⟨by show F3 G' res (G'.O b)=_;rw[e1];rfl,e2⟩
  ·obtain⟨e1,e2⟩:=hp.oE b hb ho
   exact⟨by show F3 G' res (G'.O b)=_;rw[e1];rfl,e2⟩
theorem FN.of{f:FuncId}{res:List ay}{ic:IC}{args:List AV}{s:ab}{Q:List AV→ab→Prop}(hD:Ef P n)(hf:aC P f n res ic=true)(hv:cK args=true)(hn:args.length≤n)
 (hw:gK P ic (cT res Q) (start args s)):FN P f args s Q:=by
 intro G w vs hg ho hs ha
 unfold aC at hf
 split at hf<;>try(cases hf;done)
 rename_i fn hfn
 simp only[Bool.and_eq_true,beq_iff_eq]at hf
 obtain⟨⟨rfl,hres⟩,hf⟩:=hf
 split at hf<;>try(cases hf;done)
 rename_i c hb
 refine calls_of_wp hfn hb (cO hD ic c G w (cT res Q) _ G _ _ w hf ?_ (Km hg hs ha hv hn) (ax.refl G w) hw)
 intro x G' σ' a' w' h hp hq
 have fin:cK (aV σ' res)=true∧Q (aV σ' res) σ'.s→a'.defers=[]∧∃v,(results fn a'.tmps).run P w'=.ok v w'∧∃v' rs s' G'',Ending.returned v=.returned v'∧Q rs s'∧bM G'' w'∧aL G'' w' s'∧nk G'' w' rs v'∧ax G w G'' w':=by
  intro hq
  obtain⟨hall,hQ⟩:=hq
  exact⟨h.sV,Q7 hres h hp hall hQ⟩
 cases x with
 |ret=>exact fin hq
 |normal=>exact fin hq
 |_=>exact hq.elim
end
end Go.AB
end
section
namespace Go.AB
open Go
theorem ff{f f':IX→AV}:∀(xs:List IX),(∀x∈xs,f x=f' x)→bJ f xs=bJ f' xs
 |[],_=>rfl
 |x::xs,h=>by
  show Rp (f x) (bJ f xs)=Rp (f' x) (bJ f' xs)
  rw[h x List.mem_cons_self,ff xs fun y hy=>h y (List.mem_cons_of_mem _ hy)]
theorem yF{f f':IX→AV}:∀(ps:List (Nat×Nat×IX))(cs:List AV),(∀x∈ps.map (fun p=>p.2.2),f x=f' x)→fill f cs ps=fill f' cs ps
 |[],_,_=>rfl
 |(off,n,x)::ps,cs,h=>by
  have h1:f x=f' x:=h x (by simp)
  have ih:∀cs,fill f cs ps=fill f' cs ps:=fun cs=>yF ps cs fun y hy=>h y (by simp only[List.map_cons,List.mem_cons];exact .inr hy)
  unfold fill
  rw[h1]
  simp only[ih]
theorem lh{f f':IX→AV}(o:Option IX)(d:Int)(h:∀x∈oX o,f x=f' x):Hf f o d=Hf f' o d:=by
 cases o with
 |none=>rfl
 |some x=>simp only[Hf,h x (by simp[oX])]
theorem Ue{o:sT}{f f':IX→AV}{σ σ':St}(h:∀x∈cD o,f x=f' x)(hx:∀x∈cD o,σ.x x=σ'.x x)(hs:σ.s=σ'.s)(hrd:∀x∈cD o,∀n,rd σ (f x) n=rd σ' (f x) n):pv o f σ=pv o f' σ':=by
 cases o<;>(try rfl)
 case iR tr x=>cases tr<;>first|rfl|(show R5 (f x)=R5 (f' x);rw[h x (by simp[cD])])
 case pick c x y=>show Ke (σ.x x) (σ.x y) (f c)=Ke (σ'.x x) (σ'.x y) (f' c);rw[h c (by simp[cD]),hx x (by simp[cD]),hx y (by simp[cD])]
 case build z ps=>show Eu (fill f z ps)=Eu (fill f' z ps);rw[yF ps z h]
 case load n m x=>show mB m (rd σ (f x) n)=mB m (rd σ' (f' x) n);rw[hrd x (by simp[cD]),h x (by simp[cD])]
 case kL k x=>show BG k σ.s (f x)=BG k σ'.s (f' x);rw[h x (by simp[cD]),hs]
 case aU z m x=>show J1 z m σ.s (f x)=J1 z m σ'.s (f' x);rw[h x (by simp[cD]),hs]
 case eF x=>show rj (f x)=rj (f' x);rw[h x (by simp[cD])]
 case nilCheck x=>show lq (f x)=lq (f' x);rw[h x (by simp[cD])]
 case bin b x y=>show OM b (f x) (f y)=OM b (f' x) (f' y);rw[h x (by simp[cD]),h y (by simp[cD])]
 case Pa b x y=>show Pb b (f x) (f y)=Pb b (f' x) (f' y);rw[h x (by simp[cD]),h y (by simp[cD])]
 case M4 b x y=>show M5 b (f x) (f y)=M5 b (f' x) (f' y);rw[h x (by simp[cD]),h y (by simp[cD])]
 case VA b x y=>unfold pv;split<;>simp_all [cD]
 case un u x=>show Yl u (f x)=Yl u (f' x);rw[h x (by simp[cD])]
 case mj k x=>show wi k (f x)=wi k (f' x);rw[h x (by simp[cD])]
 case EK x=>show Bd (f x)=Bd (f' x);rw[h x (by simp[cD])]
 case field n m off x=>show Bf n m off (f x)=Bf n m off (f' x);rw[h x (by simp[cD])]
 case index n m l x i=>show Bm n m l (f x) (f i)=Bm n m l (f' x) (f' i);rw[h x (by simp[cD]),h i (by simp[cD])]
 case gR x i=>show wE (f x) (f i)=wE (f' x) (f' i);rw[h x (by simp[cD]),h i (by simp[cD])]
 case fieldAddr off x=>show fy off x (f x)=fy off x (f' x);rw[h x (by simp[cD])]
 case indexAddr sz x i=>show jk sz (f x) (f i)=jk sz (f' x) (f' i);rw[h x (by simp[cD]),h i (by simp[cD])]
 case jf sz l x i=>show e9 sz l x (f x) (f i)=e9 sz l x (f' x) (f' i);rw[h x (by simp[cD]),h i (by simp[cD])]
 case slice sz x lo hi mx=>
  cases mx with
  |some m=>
   have e1:=lh (f:=f) (f':=f') lo 0 fun y hy=>h y (by simp[cD,hy])
   have e2:=lh (f:=f) (f':=f') hi 0 fun y hy=>h y (by simp[cD,hy])
   have e3:=lh (f:=f) (f':=f') (some m) 0 fun y hy=>h y (by simp[cD,hy])
   show oW sz f lo hi m (f x)=oW sz f' lo hi m (f' x)
   rw[h x (by simp[cD])]
   unfold oW
   simp only[e1,e2,e3]
  |none=>
   have e1:=lh (f:=f) (f':=f') lo 0 fun y hy=>h y (by simp[cD,hy])
   have e2:=fun d=>lh (f:=f) (f':=f') hi d fun y hy=>h y (by simp[cD,hy])
   show vG sz f lo hi (f x)=vG sz f' lo hi (f' x)
   rw[h x (by simp[cD])]
   unfold vG
   simp only[e1,e2]
 case pC x lo hi=>
  have e1:=lh (f:=f) (f':=f') lo 0 fun y hy=>h y (by simp[cD,hy])
  have e2:=fun d=>lh (f:=f) (f':=f') hi d fun y hy=>h y (by simp[cD,hy])
  show lz f lo hi (f x)=lz f' lo hi (f' x)
  rw[h x (by simp[cD])]
  unfold lz
  simp only[e1,e2]
 case YT n b x y=>show Tv n b (f x) (f y)=Tv n b (f' x) (f' y);rw[h x (by simp[cD]),h y (by simp[cD])]
 case YU b x=>show RL b (f x)=RL b (f' x);rw[h x (by simp[cD])]
 case Vz b x=>show M3 b (f x)=M3 b (f' x);rw[h x (by simp[cD])]
 case cap x=>show OR (f x)=OR (f' x);rw[h x (by simp[cD])]
 case extract x k=>show pP k (f x)=pP k (f' x);rw[h x (by simp[cD])]
 case len c x=>show DA σ.s c (f x)=DA σ'.s c (f' x);rw[h x (by simp[cD]),hs]
 case eX m xs=>
  show wy m (xs.map f)=wy m (xs.map f')
  rw[show xs.map f=xs.map f' from List.map_congr_left h]
 case jr fi xs ys=>
  show wv fi (bJ f xs) (bJ f ys)=wv fi (bJ f' xs) (bJ f' ys)
  rw[ff xs fun x hx=>h x (by simp[cD,hx]),ff ys fun x hx=>h x (by simp[cD,hx])]
def dr(o:ah)(σ:St):St:=match o.op with
 |.iR true x=>σ.drain x
 |_=>σ
def step(σ:St)(o:ah)(v:AV):St:=(bB (dr o σ) v o.dst).put o.dst v
theorem Tl{o:ah}{σ:St}(h:qv o σ≠.no):dr o σ=σ:=by
 obtain⟨d,op,g⟩:=o
 unfold dr
 split
 ·rename_i x hop
  simp only at hop
  subst hop
  refine absurd ?_ h
  cases g with
  |none=>rfl
  |some tw=>
   obtain⟨t,want⟩:=tw
   show N8 (.iR true x) want σ (look σ.e t)=.no
   unfold N8
   split<;>rfl
 ·rfl
inductive Y(P:Program)(σ:St):ah→AV→Prop where
 |pure (o:ah) (v:AV) (h:(qv o σ=.cY v∨∃c,qv o σ=.prt c v∧c)):Y P σ o v
 |iR (d:Option Nat) (x:IX) (h:cU (σ.x x)=true):Y P σ ⟨d,.iR true x,none⟩ (σ.x x)
 |call (d:Option Nat) (f:Nat) (args:List IX) (as rs:List AV) (h1:bJ (xg true σ) args=some as) (h2:iO rs=true) (h3:FE P f as σ.s rs σ.s):Y P σ ⟨d,.call f args,none⟩ (eC rs)
 |MM (d:Option Nat) (f:Nat) (args:List IX) (t:Nat) (want g0 b:Bool) (rs:List AV) (h0:TE (look σ.e t)=some (g0,b)) (h2:iO rs=true)
   (h1:(g0&&(b==want))=true→∃as,bJ (xg true σ) args=some as∧FE P f as σ.s rs σ.s):Y P σ ⟨d,.call f args,some (t,want)⟩ (.when (g0&&(b==want)) (eC rs))
 |b6 (d:Option Nat) (x:IX) (args:List IX) (f:Nat) (as rs:List AV) (h1:callee x args true σ f as) (hf:ny P f=true) (h2:iO rs=true) (h3:FE P f as σ.s rs σ.s):Y P σ ⟨d,.b6 x args,none⟩ (eC rs)
 |ED (d:Option Nat) (x:IX) (args:List IX) (t:Nat) (want g0 b:Bool) (rs:List AV) (h0:TE (look σ.e t)=some (g0,b)) (h2:iO rs=true)
   (h1:(g0&&(b==want))=true→∃f as,callee x args true σ f as∧ny P f=true∧FE P f as σ.s rs σ.s):Y P σ ⟨d,.b6 x args,some (t,want)⟩ (.when (g0&&(b==want)) (eC rs))
 |YQ (o:ah) (v:AV) (h:(CS o σ=.cY v∨∃c,CS o σ=.prt c v∧c)):Y P σ o v
theorem Z7{o:sT}{want:Bool}{σ:St}{a:AV}:(∃g b,TE a=some (g,b)∧N8 o want σ a=SL (Z8 o) (g&&(b==want)) (pv o (xg (g&&(b==want)) σ) σ))∨N8 o want σ a=.no:=by
 unfold N8
 split
 ·exact .inl ⟨_,_,rfl,rfl⟩
 ·exact .inl ⟨_,_,rfl,rfl⟩
 ·exact .inr rfl
theorem Uo{o:sT}{want:Bool}{σ:St}{a:AV}:(∃g b,TE a=some (g,b)∧OF o want σ a=OA (g&&(b==want)) (qe (xg (g&&(b==want)) σ) σ.s o))∨OF o want σ a=.no:=by
 unfold OF
 split
 ·exact .inl ⟨_,_,rfl,rfl⟩
 ·exact .inl ⟨_,_,rfl,rfl⟩
 ·exact .inr rfl
theorem D7{P:Program}{o:sT}{d:Option Nat}{t:Nat}{want:Bool}{σ:St}{K:St→Prop}{a:AV}{g b:Bool}(h:TE a=some (g,b)):Bk P o d t want σ K a=SI P (g&&(b==want)) o σ d K (pv o (xg (g&&(b==want)) σ) σ):=by
 unfold TE at h
 split at h
 ·injection h with h;injection h with h1 h2;subst h1;subst h2;rfl
 ·injection h with h;injection h with h1 h2;subst h1;subst h2;rfl
 ·cases h
theorem Aw{v:AV}(h:y8 v=true):aW v=true∧(∀t,¬ba v t)∧(∀τ d,bB τ v d=τ):=by cases v<;>first|(simp[y8,cU]at h;done)|exact⟨rfl,fun t h=>h,fun τ d=>by cases d<;>rfl⟩
theorem Gb{f:IX→AV}{s:ab}{o:sT}{v:AV}(h:qe f s o=.cY v∨∃c,qe f s o=.prt c v):y8 v=true∧(∀g τ,pv o g τ=.no)∧(∀x,o≠.iR true x):=by
 have tt:∀{r:PR}{u:AV},r=.cY u→(r=.cY v∨∃c,r=.prt c v)→v=u:=by
  intro r u hr h
  subst hr
  rcases h with h|⟨c,h⟩
  ·injection h with h;exact h.symm
  ·cases h
 have tp:∀{r:PR}{u:AV}{c:Prop},r=.prt c u→(r=.cY v∨∃c,r=.prt c v)→v=u:=by
  intro r u c hr h
  subst hr
  rcases h with h|⟨c',h⟩
  ·cases h
  ·injection h with _ h;exact h.symm
 have tn:∀{r:PR},r=.no→¬(r=.cY v∨∃c,r=.prt c v):=by
  intro r hr h
  subst hr
  rcases h with h|⟨c',h⟩<;>cases h
 have ok:∀(k:Bool)(a:AV)(b:Bool),(k=false→cU a=true)→y8 (Hh k a b)=true:=by
  intro k a b ha
  cases k with
  |true=>rfl
  |false=>show y8 a=true;have:=ha rfl;cases a<;>first|exact this|rfl
 unfold qe at h
 split at h
 ·rename_i x
  refine⟨?_,fun g τ=>rfl,fun x h=>by cases h⟩
  cases hx:f x<;>rw[hx]at h<;>first|(exact absurd h (tn rfl))|(rw[tt rfl h];rfl)
 ·rename_i sz n z ps
  refine⟨?_,fun g τ=>rfl,fun x h=>by cases h⟩
  cases hx:fill f z ps<;>rw[hx]at h
  ·exact absurd h (tn rfl)
  ·rw[tp rfl h];rfl
 ·rename_i kk zero k x ky
  refine⟨?_,fun g τ=>rfl,fun x h=>by cases h⟩
  have ck:∀{c:Prop}{a:AV}{b:Bool},(MO k c (Hh k a b)=.cY v∨∃c',MO k c (Hh k a b)=.prt c' v)→y8 v=true:=by
   intro c a b h
   unfold MO at h
   cases hp:y7 k (Hh k a b)with
   |false=>rw[hp]at h;exact absurd h (tn rfl)
   |true=>
    rw[hp]at h
    rw[tp rfl h]
    refine ok k a b fun hk=>?_
    subst hk;exact hp
  have ck':∀{c:Prop}{o:Option AV},(MO k c (uG zero k o)=.cY v∨∃c',MO k c (uG zero k o)=.prt c' v)→y8 v=true:=by
   intro c o h
   cases o with
   |none=>exact ck h
   |some a=>exact ck h
  unfold gX at h
  split at h
  ·unfold mT at h
   split at h
   ·exact ck' h
   ·exact absurd h (tn rfl)
  ·exact ck h
  ·exact absurd h (tn rfl)
 ·rename_i x
  refine⟨?_,fun g τ=>rfl,fun x h=>by cases h⟩
  unfold DL at h
  split at h
  ·rw[tt rfl h];rfl
  ·exact absurd h (tn rfl)
 ·rename_i x
  refine⟨?_,fun g τ=>rfl,fun x h=>by cases h⟩
  unfold Ce at h
  split at h
  ·rw[tt rfl h];rfl
  ·exact absurd h (tn rfl)
 ·exact absurd h (tn rfl)
theorem Up{o:ah}{σ:St}{v:AV}(h:CS o σ=.cY v∨∃c,CS o σ=.prt c v∧c):
 aW v=true∧(∀t,¬ba v t)∧(∀τ d,bB τ v d=τ)∧dr o σ=σ:=by
 obtain⟨d,op,g⟩:=o
 have hdr:(∀x,op≠.iR true x)→dr ⟨d,op,g⟩ σ=σ:=by
  intro h
  unfold dr
  split
  ·rename_i x hx;exact absurd hx (h x)
  ·rfl
 have wk:∀{r:PR},(r=.cY v∨∃c,r=.prt c v∧c)→(r=.cY v∨∃c,r=.prt c v):=fun h=>h.imp id fun⟨c,h,_⟩=>⟨c,h⟩
 cases g with
 |none=>
  have h':qe (xg true σ) σ.s op=.cY v∨∃c,qe (xg true σ) σ.s op=.prt c v:=wk h
  obtain⟨h1,_,h3⟩:=Gb h'
  obtain⟨f1,f2,f3⟩:=Aw h1
  exact⟨f1,f2,f3,hdr h3⟩
 |some tw=>
  obtain⟨t,want⟩:=tw
  have h':OF op want σ (look σ.e t)=.cY v∨∃c,OF op want σ (look σ.e t)=.prt c v:=wk h
  rcases Uo (o:=op) (want:=want) (σ:=σ) (a:=look σ.e t)with⟨g0,b,hg0,hl⟩|hl<;>rw[hl]at h'
  case inr=>rcases h' with h'|⟨c,h'⟩<;>cases h'
  generalize(g0&&(b==want))=gg at h'
  have h2:OA gg (qe (xg gg σ) σ.s op)=.cY v∨∃c,OA gg (qe (xg gg σ) σ.s op)=.prt c v:=h'
  have:∃u,v=.when gg u∧(qe (xg gg σ) σ.s op=.cY u∨∃c,qe (xg gg σ) σ.s op=.prt c u):=by
   cases hq:qe (xg gg σ) σ.s op with
   |cY u=>
    rw[hq]at h2
    refine⟨u,?_,.inl rfl⟩
    rcases h2 with h2|⟨c,h2⟩
    ·injection h2 with h2;exact h2.symm
    ·cases h2
   |prt c u=>
    rw[hq]at h2
    refine⟨u,?_,.inr ⟨c,rfl⟩⟩
    rcases h2 with h2|⟨c,h2⟩
    ·cases h2
    ·injection h2 with _ h2;exact h2.symm
   |no=>rw[hq]at h2;rcases h2 with h2|⟨c,h2⟩<;>cases h2
  obtain⟨u,rfl,hu⟩:=this
  obtain⟨h1,_,h3⟩:=Gb hu
  obtain⟨f1,f2,f3⟩:=Aw h1
  exact⟨rfl,fun t ht=>f2 t ht,fun τ d=>f3 τ d,hdr h3⟩
section
variable{P:Program}{G G':Gh}{n:Nat}{D:List Deferred}{σ σ':St}{a:Act}{w w':World}
theorem oT{rs:List AV}(h:iO rs=true)(σ:St)(d:Option Nat):bB σ (eC rs) d=σ:=by
 match rs,h with
 |[],_=>cases d<;>rfl
 |[r],h=>
  show bB σ r d=σ
  cases r<;>first|(cases d<;>rfl)|(simp[iO,cU,TL]at h)
 |_::_::_,_=>cases d<;>rfl
theorem No{r:AV}(hr:cU r=true)(σ:St)(d:Option Nat):bB σ r d=σ:=by cases r<;>first|(cases d<;>rfl)|(simp[cU]at hr)
theorem oU{rs:List AV}(h:iO rs=true):aW (eC rs)=true:=by
 match rs,h with
 |[],_=>rfl
 |[r],h=>
  show aW r=true
  cases r<;>first|rfl|(simp[iO,cU,TL]at h)
 |_::_::_,_=>rfl
theorem P9{o:ah}{K:St→Prop}(h:q1 P o σ K):∃v,aW v=true∧Y P σ o v∧K (step σ o v):=by
 have gen:qK σ o.dst K (qv o σ)→∃v,aW v=true∧Y P σ o v∧K (step σ o v):=by
  intro hq
  cases hv:qv o σ with
  |cY v=>rw[hv]at hq;exact⟨v,hq.1,.pure o v (.inl hv),by unfold step;rw[Tl (by rw[hv];simp)];exact hq.2⟩
  |prt c v=>rw[hv]at hq;exact⟨v,hq.2.1,.pure o v (.inr ⟨c,hv,hq.1⟩),by unfold step;rw[Tl (by rw[hv];simp)];exact hq.2.2⟩
  |no=>rw[hv]at hq;exact hq.elim
 have gene:∀{o:ah},qK σ o.dst K (CS o σ)→∃v,aW v=true∧Y P σ o v∧K (step σ o v):=by
  intro o hq
  cases hv:CS o σ with
  |cY v=>rw[hv]at hq;exact⟨v,hq.1,.YQ o v (.inl hv),by unfold step;rw[(Up (.inl hv)).2.2.2];exact hq.2⟩
  |prt c v=>rw[hv]at hq;exact⟨v,hq.2.1,.YQ o v (.inr ⟨c,hv,hq.1⟩),by unfold step;rw[(Up (.inr ⟨c,hv,hq.1⟩)).2.2.2];exact hq.2.2⟩
  |no=>rw[hv]at hq;exact hq.elim
 unfold q1 at h
 split at h
 ·rename_i d f args
  cases ha:bJ (xg true σ) args with
  |none=>rw[ha]at h;exact h.elim
  |some as=>
   rw[ha]at h
   obtain⟨rs,h2,h3,h4⟩:=h
   refine⟨_,oU h2,.call d f args as rs ha h2 h3,?_⟩
   show K ((bB σ (eC rs) d).put d (eC rs))
   rw[oT h2];exact h4
 ·rename_i d x
  obtain⟨h1,h2⟩:=h
  refine⟨_,?_,.iR d x h1,?_⟩
  ·generalize σ.x x=av at h1
   cases av<;>first|rfl|(simp[cU]at h1)
  ·show K ((bB (σ.drain x) (σ.x x) d).put d (σ.x x))
   rw[No h1];exact h2
 ·rename_i d f args t want
  have h:∃g0 b,TE (look σ.e t)=some (g0,b)∧∃rs,iO rs=true∧((g0&&(b==want))=true→∃as,bJ (xg (g0&&(b==want)) σ) args=some as∧FE P f as σ.s rs σ.s)∧K (σ.put d (.when (g0&&(b==want)) (eC rs))):=by
   unfold Ga at h
   split at h
   ·rename_i b hl;exact⟨true,b,by rw[hl];rfl,h⟩
   ·rename_i g b hl;exact⟨g,b,by rw[hl];rfl,h⟩
   ·exact h.elim
  obtain⟨g0,b,hl,rs,h2,h3,h4⟩:=h
  refine⟨_,rfl,.MM d f args t want g0 b rs hl h2 (fun hb=>by
   obtain⟨as,q1,q2⟩:=h3 hb
   rw[hb]at q1
   exact⟨as,q1,q2⟩),?_⟩
  have:bB σ (.when (g0&&(b==want)) (eC rs)) d=σ:=oT h2 σ d
  show K ((bB σ (.when (g0&&(b==want)) (eC rs)) d).put d (.when (g0&&(b==want)) (eC rs)))
  rw[this];exact h4
 ·rename_i d x args
  cases hx:xg true σ x<;>rw[hx]at h<;>try exact h.elim
  rename_i f first caps
  cases ha:bJ (xg true σ) args with
  |none=>rw[ha]at h;exact h.elim
  |some as=>
   rw[ha]at h
   obtain⟨hf,rs,h2,h3,h4⟩:=h
   refine⟨_,oU h2,.b6 d x args f _ rs ⟨first,caps,as,hx,ha,rfl⟩ hf h2 h3,?_⟩
   show K ((bB σ (eC rs) d).put d (eC rs))
   rw[oT h2];exact h4
 ·rename_i d x args t want
  have h:∃g0 b,TE (look σ.e t)=some (g0,b)∧∃rs,iO rs=true∧((g0&&(b==want))=true→∃f as,callee x args (g0&&(b==want)) σ f as∧ny P f=true∧FE P f as σ.s rs σ.s)∧K (σ.put d (.when (g0&&(b==want)) (eC rs))):=by
   unfold Ed at h
   split at h
   ·rename_i b hl;exact⟨true,b,by rw[hl];rfl,h⟩
   ·rename_i g b hl;exact⟨g,b,by rw[hl];rfl,h⟩
   ·exact h.elim
  obtain⟨g0,b,hl,rs,h2,h3,h4⟩:=h
  refine⟨_,rfl,.ED d x args t want g0 b rs hl h2 (fun hb=>by
   obtain⟨f,as,q1,q2⟩:=h3 hb
   rw[hb]at q1
   exact⟨f,as,q1,q2⟩),?_⟩
  have:bB σ (.when (g0&&(b==want)) (eC rs)) d=σ:=oT h2 σ d
  show K ((bB σ (.when (g0&&(b==want)) (eC rs)) d).put d (.when (g0&&(b==want)) (eC rs)))
  rw[this];exact h4
 ·exact gene h
 ·exact gene h
 ·exact gene h
 ·exact gene h
 ·exact gene h
 ·exact gen h
end
end Go.AB
end
section
namespace Go.AB
open Go
theorem fW{i:Nat}:∀{l:List IX},IX.t i∈l→i∈D8 l
 |.t j::r,h=>by
  rcases List.mem_cons.1 h with h|h
  ·injection h with h;subst h;exact List.mem_cons_self
  ·exact List.mem_cons_of_mem _ (fW h)
 |.c a::r,h=>by
  rcases List.mem_cons.1 h with h|h
  ·cases h
  ·exact fW (l:=r) h
section
variable{P:Program}{G G':Gh}{n:Nat}{D:List Deferred}{σ σ':St}{a:Act}{w w':World}
structure MA(o:ah)(σ σ':St):Prop where
 xs:∀x∈cD o.op,σ.x x=σ'.x x
 g:∀t want,o.g=some (t,want)→look σ.e t=look σ'.e t
 s:σ.s=σ'.s
 rd:∀x∈cD o.op,∀g n,rd σ (AB.xg g σ x) n=rd σ' (AB.xg g σ x) n
theorem MA.symm{o:ah}(h:MA o σ σ'):MA o σ' σ:=⟨fun x hx=>(h.xs x hx).symm,fun t w hg=>(h.g t w hg).symm,h.s.symm,fun x hx g n=>by
 have e:AB.xg g σ' x=AB.xg g σ x:=by unfold AB.xg;rw[h.xs x hx]
 rw[e];exact(h.rd x hx g n).symm⟩
theorem MA.xg{o:ah}(h:MA o σ σ')(g:Bool):∀x∈cD o.op,xg g σ x=xg g σ' x:=fun x hx=>by unfold AB.xg;rw[h.xs x hx]
theorem MA.qv{o:ah}(h:MA o σ σ'):qv o σ=qv o σ':=by
 have hp:∀g,pv o.op (AB.xg g σ) σ=pv o.op (AB.xg g σ') σ':=fun g=>Ue (h.xg g) h.xs h.s fun x hx n=>h.rd x hx g n
 unfold AB.qv
 cases hg:o.g with
 |none=>exact hp true
 |some tw=>
  obtain⟨t,want⟩:=tw
  show N8 o.op want σ (look σ.e t)=N8 o.op want σ' (look σ'.e t)
  rw[h.g t want hg]
  unfold N8
  split
  ·rw[hp]
  ·rw[hp]
  ·rfl
theorem MA.qe{o:ah}(h:MA o σ σ')(g:Bool):qe (AB.xg g σ) σ.s o.op=qe (AB.xg g σ') σ'.s o.op:=by
 have hx:=h.xg g
 have hs:=h.s
 obtain⟨d,op,gg⟩:=o
 cases op<;>first|rfl|skip
 case fK x=>show wg (AB.xg g σ x)=wg (AB.xg g σ' x);rw[hx x (by simp[cD])]
 case aY sz n z ps=>show GI sz n (fill (AB.xg g σ) z ps)=GI sz n (fill (AB.xg g σ') z ps);rw[yF ps z hx]
 case lookup kk z ok x k=>show gX kk z ok σ.s (AB.xg g σ k) (AB.xg g σ x)=gX kk z ok σ'.s (AB.xg g σ' k) (AB.xg g σ' x);rw[hx x (by simp[cD]),hx k (by simp[cD]),hs]
 case ql x=>show Ce (AB.xg g σ x)=Ce (AB.xg g σ' x);rw[hx x (by simp[cD])]
 case jg x=>show DL (AB.xg g σ x)=DL (AB.xg g σ' x);rw[hx x (by simp[cD])]
theorem MA.CS{o:ah}(h:MA o σ σ'):CS o σ=CS o σ':=by
 unfold AB.CS
 cases hg:o.g with
 |none=>exact h.qe true
 |some tw=>
  obtain⟨t,want⟩:=tw
  show OF o.op want σ (look σ.e t)=OF o.op want σ' (look σ'.e t)
  rw[h.g t want hg]
  unfold OF
  split
  ·rw[h.qe]
  ·rw[h.qe]
  ·rfl
theorem Y.Qt{o:ah}{v:AV}(hy:Y P σ o v)(h:MA o σ σ'):Y P σ' o v:=by
 cases hy with
 |pure _ _ hq=>exact .pure o v (by rw[←h.qv];exact hq)
 |iR d x hi=>
  have hx:σ.x x=σ'.x x:=h.xs x (by simp[cD])
  rw[hx]at hi⊢
  exact .iR d x hi
 |call d f args as rs h1 h2 h3=>exact .call d f args as rs (by rw[←ff args (h.xg true)];exact h1) h2 (by rw[←h.s];exact h3)
 |MM d f args t want g0 b rs h0 h2 h1=>
  refine .MM d f args t want g0 b rs (by rw[←h.g t want rfl];exact h0) h2 fun hb=>?_
  obtain⟨as,q1,q2⟩:=h1 hb
  exact⟨as,by rw[←ff args (h.xg true)];exact q1,by rw[←h.s];exact q2⟩
 |b6 d x args f as rs h1 hf h2 h3=>
  obtain⟨first,caps,xs,q1,q2,q3⟩:=h1
  exact .b6 d x args f as rs ⟨first,caps,xs,by rw[←h.xg true x List.mem_cons_self];exact q1,by rw[←ff args fun y hy=>h.xg true y (List.mem_cons_of_mem _ hy)];exact q2,q3⟩ hf h2 (by rw[←h.s];exact h3)
 |ED d x args t want g0 b rs h0 h2 h1=>
  refine .ED d x args t want g0 b rs (by rw[←h.g t want rfl];exact h0) h2 fun hb=>?_
  obtain⟨f,as,⟨first,caps,xs,q1,q2,q3⟩,q4,q5⟩:=h1 hb
  exact⟨f,as,⟨first,caps,xs,by rw[←h.xg true x List.mem_cons_self];exact q1,by rw[←ff args fun y hy=>h.xg true y (List.mem_cons_of_mem _ hy)];exact q2,q3⟩,q4,by rw[←h.s];exact q5⟩
 |YQ _ _ hq=>exact .YQ o v (by rw[←h.CS];exact hq)
theorem VO(o:ah)(i:Nat):look (dr o σ).e i=if gj o i=true then view (look σ.e i)else look σ.e i:=by
 unfold dr gj
 split
 ·rename_i x hop
  cases x with
  |c a=>simp only[hop];rfl
  |t j=>
   simp only[hop]
   show look ((j,view (look σ.e j))::σ.e) i=_
   rw[aJ]
   by_cases hj:j=i
   ·subst hj;simp
   ·simp[hj]
 ·rename_i hop
  split
  ·rename_i j hop'
   exact absurd hop' (hop (.t j))
  ·simp
theorem gO(o:ah)(v:AV)(i:Nat):look (step σ o v).e i=if o.dst=some i then v else if gj o i=true then view (look σ.e i)else look σ.e i:=by
 unfold step
 rw[←VO]
 cases hd:o.dst with
 |none=>simp[St.put,(ib (dr o σ) v none).1]
 |some d=>
  show look ((d,v)::(bB (dr o σ) v (some d)).e) i=_
  rw[aJ,(ib (dr o σ) v (some d)).1]
  simp
theorem acq(o:ah):(dr o σ).s=σ.s∧(dr o σ).lp=σ.lp:=by
 unfold dr
 split
 ·rename_i x _
  cases x<;>exact⟨rfl,rfl⟩
 ·exact⟨rfl,rfl⟩
theorem vI(o:ah)(v:AV):(step σ o v).s=σ.s:=by
 unfold step
 have:∀(τ:St)(d:Option Nat)(x:AV),(τ.put d x).s=τ.s:=fun τ d x=>by cases d<;>rfl
 rw[this,(ib (dr o σ) v o.dst).2.1,(acq o).1]
theorem uK(av:AV):aW (view av)=aW av:=by cases av<;>rfl
theorem Ge(av:AV)(n off:Nat):kN n off (view av)=kN n off av:=by cases av<;>rfl
theorem iU{av:AV}(h:aW av=true)(n off:Nat):kN n off av=none:=by cases av<;>first|rfl|(simp[aW]at h)
theorem Wo{o:ah}{v:AV}(hf:aO σ o.dst=true)(hv:aW v=true):∀p n,rd (step σ o v) p n=rd σ p n:=by
 intro p n
 cases p<;>try rfl
 ·rename_i b off
  show Ay n off ((step σ o v).s b)=Ay n off (σ.s b)
  rw[vI]
 ·rename_i d off
  show kN n off (look (step σ o v).e d)=kN n off (look σ.e d)
  rw[gO]
  by_cases hd:o.dst=some d
  ·rw[if_pos hd,iU hv]
   rw[hd]at hf
   exact(iU hf n off).symm
  ·rw[if_neg hd]
   split
   ·exact Ge ..
   ·rfl
theorem MD{o y:ah}{v:AV}(hf:aO σ y.dst=true)(hv:aW v=true)(hn:fP y.dst (bW o)=true)(hdr:TZ y o=true):MA o σ (step σ y v):=by
 have key:∀i,i∈bW o→look (step σ y v).e i=look σ.e i:=by
  intro i hi
  have h1:¬gj y i=true:=by
   have:=List.all_eq_true.1 hdr i hi
   simpa using this
  rw[gO,if_neg,if_neg h1]
  intro hd
  rw[hd]at hn
  simp[fP]at hn
  exact hn hi
 refine⟨fun x hx=>?_,fun t want hg=>?_,(vI y v).symm,fun x _ g n=>(Wo hf hv _ n).symm⟩
 ·cases x with
  |c a=>rfl
  |t i=>exact(key i (List.mem_append_right _ (fW hx))).symm
 ·exact(key t (List.mem_append_left _ (by rw[hg];exact List.mem_cons_self))).symm
structure kG(σ σ':St):Prop where
 e:∀i,look σ.e i=look σ'.e i
 lp:∀x,x∈σ.lp↔x∈σ'.lp
 s:σ.s=σ'.s
theorem kG.refl(σ:St):kG σ σ:=⟨fun _=>rfl,fun _=>Iff.rfl,rfl⟩
theorem kG.symm(h:kG σ σ'):kG σ' σ:=⟨fun i=>(h.e i).symm,fun x=>(h.lp x).symm,h.s.symm⟩
theorem kG.trans{σ₃:St}(h:kG σ σ')(k:kG σ' σ₃):kG σ σ₃:=⟨fun i=>(h.e i).trans (k.e i),fun x=>(h.lp x).trans (k.lp x),h.s.trans k.s⟩
theorem kG.rd(h:kG σ σ'):∀p n,AB.rd σ p n=AB.rd σ' p n:=by
 intro p n
 cases p<;>try rfl
 ·rename_i b off
  show Ay n off (σ.s b)=Ay n off (σ'.s b)
  rw[h.s]
 ·rename_i d off
  show kN n off (look σ.e d)=kN n off (look σ'.e d)
  rw[h.e]
theorem kG.Qt(h:kG σ σ')(o:ah):MA o σ σ':=⟨fun x _=>by cases x with
 |c a=>rfl
 |t i=>exact h.e i,fun t _ _=>h.e t,h.s,fun x _ g n=>h.rd _ n⟩
theorem kG.free(h:kG σ σ')(d:Option Nat):aO σ d=aO σ' d:=by
 cases d with
 |none=>rfl
 |some d=>show aW (look σ.e d)=aW (look σ'.e d);rw[h.e]
theorem FW:∀(v:AV)(d:Option Nat)(x:Nat×Nat),x∈(bB σ v d).lp↔(x∈σ.lp∨∃i,d=some i∧x.1=i∧ba v x.2)
 |.lp t off,some i,(x1,x2)=>by
  show(x1,x2)∈(i,t)::σ.lp↔_
  rw[List.mem_cons]
  constructor
  ·rintro(h|h)
   ·injection h with h1 h2;exact .inr ⟨i,rfl,h1,h2.symm⟩
   ·exact .inl h
  ·rintro(h|⟨j,h1,h2,h3⟩)
   ·exact .inr h
   ·injection h1 with h1
    have h3':t=x2:=h3
    have h2':x1=j:=h2
    subst h1;subst h2';subst h3'
    exact .inl rfl
 |.lp t off,none,x=>⟨fun h=>.inl h,fun h=>h.elim id fun⟨_,h1,_⟩=>by cases h1⟩
 |.when _ v,d,x=>FW v d x
 |.undef,_,_|.bool _,_,_|.int _ _,_,_|.str _,_,_|.dq,_,_|.ref _ _,_,_|.sp _,_,_|.loc _,_,_|.sl _ _ _ _,_,_|.arr _ _ _ _,_,_|.agg _,_,_|.fE _,_,_|.fn _ _ _,_,_|.mU,_,_|.mp _,_,_|.mV,_,_|.us _ _ _,_,_|.one,_,_|.oe _,_,_|.wW,_,_|.bb _ _ _,_,_=>⟨fun h=>.inl h,fun h=>h.elim id fun⟨_,_,_,h3⟩=>h3.elim⟩
theorem wF(o:ah)(v:AV)(x:Nat×Nat):x∈(step σ o v).lp↔(x∈σ.lp∨∃i,o.dst=some i∧x.1=i∧ba v x.2):=by
 have h1:(step σ o v).lp=(bB (dr o σ) v o.dst).lp:=by unfold step;cases o.dst<;>rfl
 rw[h1,←(acq (σ:=σ) o).2]
 exact FW v o.dst x
theorem Inv.eqv(h:Inv G n D σ a w)(k:kG σ σ'):Inv G n D σ' a w:=
 ⟨h.aG,by rw[←k.s];exact h.store,h.size,fun i v hv=>by
   rw[←k.e i]
   exact c5.frame (fun _ _ hv=>hv) (fun b _=>⟨rfl,rfl,rfl⟩) (fun _ _ _ _ hc=>⟨hc,rfl,rfl⟩) _ _ (fun t _ cs hcs=>⟨cs,by rw[k.e];exact hcs,rfl⟩) (h.bW i v hv),
   fun i hi=>by rw[←k.e i];exact h.Hs i hi,fun i t ht=>(k.lp _).1 (h.OE i t (by rw[k.e];exact ht)),h.sV⟩
theorem kG.step(h:kG σ σ')(o:ah)(v:AV):kG (AB.step σ o v) (AB.step σ' o v):=⟨fun i=>by rw[gO,gO,h.e],fun x=>by rw[wF,wF,h.lp],by rw[vI,vI,h.s]⟩
theorem Sz{x y:ah}{u v:AV}(hne:∀i j,x.dst=some i→y.dst=some j→i≠j)(hxy:∀i,y.dst=some i→gj x i=false)(hyx:∀i,x.dst=some i→gj y i=false):kG (step (step σ x u) y v) (step (step σ y v) x u):=
 ⟨fun i=>by
   rw[gO,gO,gO,gO]
   by_cases h1:y.dst=some i
   ·by_cases h2:x.dst=some i
    ·exact absurd rfl (hne i i h2 h1)
    ·simp[h1,h2,hxy i h1]
   ·by_cases h2:x.dst=some i
    ·simp[h1,h2,hyx i h2]
    ·simp only[h1,h2,if_false]
     by_cases h3:gj x i=true<;>by_cases h4:gj y i=true<;>simp[h3,h4],fun z=>by
   rw[wF,wF,wF,wF]
   constructor
   ·rintro((h|h)|h)
    ·exact .inl (.inl h)
    ·exact .inr h
    ·exact .inl (.inr h)
   ·rintro((h|h)|h)
    ·exact .inl (.inl h)
    ·exact .inr h
    ·exact .inl (.inr h),by rw[vI,vI,vI,vI]⟩
end
end Go.AB
end
section
namespace Go.AB
open Go
section
variable{P:Program}{G G':Gh}{n:Nat}{D:List Deferred}{σ σ':St}{a:Act}{w w':World}
theorem Inv.wJ{d:Option Nat}{av:AV}(h:Inv G n D (σ.put d (.fE [])) a w)(hd:aN n d=true)(hnl:∀t,¬ba av t):Inv G n D (σ.put d (.when false av)) a w:=by
 cases d with
 |none=>exact h
 |some i=>
  have hi:i<n:=by simpa[aN]using hd
  have e1:look (σ.put (some i) (.fE [])).e i=.fE []:=by simp[St.put,aJ]
  have:=h.Q6 i hi (.when false av) hnl (fun cs e=>by cases e) (fun v hv=>by
   have hs:=h.bW i v hv
   rw[e1]at hs
   obtain⟨ys,rfl,h2⟩:=hs
   refine⟨fun hh=>Bool.noConfusion hh,fun _=>?_⟩
   have:ys= #[]:=Array.eq_empty_of_size_eq_zero (by simpa using h2.1)
   rw[this])
  refine this.eqv ⟨fun j=>?_,fun _=>Iff.rfl,rfl⟩
  simp only[St.put,aJ]
  split<;>rfl
theorem wB{rs:List AV}(h:iO rs=true)(t:Nat):¬ba (eC rs) t:=by
 match rs,h with
 |[],_=>exact fun h=>h
 |[r],h=>exact GL h t
 |_::_::_,_=>exact fun h=>h
theorem Uq{op:sT}{d:Option Nat}{v:AV}{K:St→Prop}(h:qe (xg true σ) σ.s op=.cY v∨∃c,qe (xg true σ) σ.s op=.prt c v∧c)(hk:K (σ.put d v)):gM P op d σ K:=by
 cases op<;>first|(rcases h with h|⟨c,h,_⟩<;>cases h;done)|skip
 case fK x=>
  show pO σ d K (xg true σ x)
  have h':wg (xg true σ x)=.cY v∨∃c,wg (xg true σ x)=.prt c v∧c:=h
  cases hx:xg true σ x<;>rw[hx]at h'<;>first|(rcases h' with h'|⟨c,h',_⟩<;>cases h';done)|skip
  rcases h' with h'|⟨c,h',_⟩
  ·injection h' with h';subst h';exact hk
  ·cases h'
 case lookup kk z ok x k=>
  show P4 σ d K (gX kk z ok σ.s (xg true σ k) (xg true σ x))
  have h':gX kk z ok σ.s (xg true σ k) (xg true σ x)=.cY v∨∃c,gX kk z ok σ.s (xg true σ k) (xg true σ x)=.prt c v∧c:=h
  rcases h' with h'|⟨c,h',hc⟩<;>rw[h']
  ·exact hk
  ·exact⟨hc,hk⟩
 case ql x=>
  show P4 σ d K (Ce (xg true σ x))
  have h':Ce (xg true σ x)=.cY v∨∃c,Ce (xg true σ x)=.prt c v∧c:=h
  rcases h' with h'|⟨c,h',hc⟩<;>rw[h']
  ·exact hk
  ·exact⟨hc,hk⟩
 case jg x=>
  show P4 σ d K (DL (xg true σ x))
  have h':DL (xg true σ x)=.cY v∨∃c,DL (xg true σ x)=.prt c v∧c:=h
  rcases h' with h'|⟨c,h',hc⟩<;>rw[h']
  ·exact hk
  ·exact⟨hc,hk⟩
 case aY sz m z ps=>
  show zz sz m σ d K (fill (xg true σ) z ps)
  have h':GI sz m (fill (xg true σ) z ps)=.cY v∨∃c,GI sz m (fill (xg true σ) z ps)=.prt c v∧c:=h
  cases hx:fill (xg true σ) z ps<;>rw[hx]at h'
  ·rcases h' with h'|⟨c,h',_⟩<;>cases h'
  ·rcases h' with h'|⟨c,h',hc⟩
   ·cases h'
   ·injection h' with h1 h2;subst h1;subst h2;exact⟨hc,hk⟩
theorem Y.run(h:Inv G n D σ a w){ops:Array Oper}{o:Oper}{o':ah}{v:AV}(hc:gh P n ops o o'=true)(hy:Y P σ o' v){next:Act→World→Prop}{Q:Exit→Act→World→Prop}
 (hn:∀G' a' w',Inv G' n D (step σ o' v) a' w'→ax G w G' w'→next a' w'):As P ops o a w next Q:=by
 have gen:OD P o' σ (fun τ=>τ=step σ o' v)→As P ops o a w next Q:=fun hg=>fM h hc hg fun G' σ' a' w' h1 h2 h3=>by subst h3;exact hn G' a' w' h1 h2
 cases hy with
 |iR d x hi=>
  refine gen ?_
  show TX σ x d (fun τ=>τ=step σ ⟨d,.iR true x,none⟩ (σ.x x)) (σ.x x)
  refine⟨hi,?_⟩
  show _=(bB (σ.drain x) (σ.x x) d).put d (σ.x x)
  rw[No hi]
 |pure _ _ hq=>
  have hdr:dr o' σ=σ:=Tl (by rcases hq with hq|⟨c,hq,_⟩<;>rw[hq]<;>simp)
  have hst:step σ o' v=(bB σ v o'.dst).put o'.dst v:=by unfold step;rw[hdr]
  rw[hst]at hn gen
  obtain⟨d,op,g⟩:=o'
  cases g with
  |none=>
   refine gen ?_
   show U5 P op σ d (fun τ=>τ=(bB σ v d).put d v) (pv op (xg true σ) σ)
   have hq':(pv op (xg true σ) σ=.cY v∨∃c,pv op (xg true σ) σ=.prt c v∧c):=hq
   rcases hq' with hq|⟨c,hq,hcc⟩
   ·rw[hq];rfl
   ·rw[hq];exact⟨hcc,rfl⟩
  |some tw=>
   obtain⟨t,want⟩:=tw
   have hq':(N8 op want σ (look σ.e t)=.cY v∨∃c,N8 op want σ (look σ.e t)=.prt c v∧c):=hq
   rcases Z7 (o:=op) (want:=want) (σ:=σ) (a:=look σ.e t)with⟨g0,b,hg0,hl⟩|hl<;>rw[hl]at hq'
   case inr=>rcases hq' with hq|⟨c,hq,_⟩<;>cases hq
   have hgs:=fun K=>D7 (P:=P) (o:=op) (d:=d) (t:=t) (want:=want) (σ:=σ) (K:=K) hg0
   generalize(g0&&(b==want))=gg at hq' hgs
   have hq2:(SL (Z8 op) gg (pv op (xg gg σ) σ)=.cY v∨∃c,SL (Z8 op) gg (pv op (xg gg σ) σ)=.prt c v∧c):=hq'
   cases hp:pv op (xg gg σ) σ with
   |cY x=>
    refine gen ?_
    show Bk P op d t want σ _ (look σ.e t)
    rw[hgs]
    show SI P gg op σ d (fun τ=>τ=(bB σ v d).put d v) (pv op (xg gg σ) σ)
    rw[hp]
    rw[hp]at hq2
    rcases hq2 with hq|⟨c,hq,_⟩
    ·injection hq with hq;subst hq;rfl
    ·cases hq
   |prt c x=>
    refine gen ?_
    show Bk P op d t want σ _ (look σ.e t)
    rw[hgs]
    show SI P gg op σ d (fun τ=>τ=(bB σ v d).put d v) (pv op (xg gg σ) σ)
    rw[hp]
    rw[hp]at hq2
    rcases hq2 with hq|⟨c',hq,hcc⟩
    ·cases hq
    ·injection hq with hq1 hq2;subst hq1;subst hq2;exact⟨hcc,rfl⟩
   |no=>
    rw[hp]at hq2
    cases hr:Z8 op with
    |false=>
     rw[hr]at hq2
     have hq3:(PR.no=.cY v∨∃c,PR.no=.prt c v∧c):=hq2
     rcases hq3 with hq|⟨c',hq,_⟩<;>cases hq
    |true=>
     rw[hr]at hq2
     have hq3:(PR.prt (gg=false) (.when gg .undef)=.cY v∨∃c,PR.prt (gg=false) (.when gg .undef)=.prt c v∧c):=hq2
     rcases hq3 with hq|⟨c',hq,hcc⟩
     ·cases hq
     injection hq with hq1 hq2
     subst hq1;subst hq2
     have hd:aN n d=true:=by
      simp only[gh,Bool.and_eq_true]at hc
      exact hc.1.1.2
     refine fM (K:=fun τ=>τ=σ.put d (.fE [])) h hc ?_ fun G' σ' a' w' k1 k2 k3=>?_
     ·show Bk P op d t want σ (fun τ=>τ=σ.put d (.fE [])) (look σ.e t)
      rw[hgs]
      show SI P gg op σ d (fun τ=>τ=σ.put d (.fE [])) (pv op (xg gg σ) σ)
      rw[hp]
      exact⟨fun hb=>absurd (hb.symm.trans hcc) (by decide),fun _=>rfl⟩
     ·subst k3
      have e:(bB σ (.when gg .undef) d).put d (.when gg .undef)=σ.put d (.when false .undef):=by
       rw[hcc]
       have:bB σ (.when false .undef) d=σ:=by cases d<;>rfl
       show(bB σ (.when false .undef) d).put d _=_
       rw[this]
      have hn':=hn
      simp only at hn'
      rw[e]at hn'
      exact hn' G' a' w' (k1.wJ hd (fun _ h=>h)) k2
 |call d f args as rs h1 h2 h3=>
  refine gen ?_
  show tu P f σ d _ (bJ (xg true σ) args)
  rw[h1]
  refine FE.app h3 ⟨h2,?_⟩
  show _=(bB σ (eC rs) d).put d (eC rs)
  rw[oT h2]
 |MM d f args t want g0 b rs h0 h2 h1=>
  have hd:aN n d=true:=by
   simp only[gh,Bool.and_eq_true]at hc
   exact hc.1.1.2
  have hst:step σ ⟨d,.call f args,some (t,want)⟩ (.when (g0&&(b==want)) (eC rs))=σ.put d (.when (g0&&(b==want)) (eC rs)):=by
   show(bB σ (.when (g0&&(b==want)) (eC rs)) d).put d (.when (g0&&(b==want)) (eC rs))=_
   have:bB σ (.when (g0&&(b==want)) (eC rs)) d=σ:=oT h2 σ d
   rw[this]
  rw[hst]at hn
  refine fM (K:=fun τ=>((g0&&(b==want))=true∧τ=σ.put d (eC rs))∨((g0&&(b==want))=false∧τ=σ.put d (.fE []))) h hc ?_ fun G' σ' a' w' k1 k2 k3=>?_
  ·show Bk P (.call f args) d t want σ _ (look σ.e t)
   rw[D7 h0]
   refine⟨fun hb=>?_,fun hb=>.inr ⟨hb,rfl⟩⟩
   obtain⟨as,q1,q2⟩:=h1 hb
   show tu P f σ d _ (bJ (xg true σ) args)
   rw[q1]
   exact FE.app q2 ⟨h2,.inl ⟨hb,rfl⟩⟩
  ·rcases k3 with⟨hb,rfl⟩|⟨hb,rfl⟩
   ·rw[hb]at hn;exact hn G' a' w' (k1.vT hd) k2
   ·rw[hb]at hn;exact hn G' a' w' (k1.wJ hd (wB h2)) k2
 |b6 d x args f as rs h1 hf h2 h3=>
  obtain⟨first,caps,xs,q1,q2,rfl⟩:=h1
  refine gen ?_
  show yz P σ (bJ (xg true σ) args) d _ (xg true σ x)
  rw[q1,q2]
  refine⟨hf,FE.app h3 ⟨h2,?_⟩⟩
  show _=(bB σ (eC rs) d).put d (eC rs)
  rw[oT h2]
 |ED d x args t want g0 b rs h0 h2 h1=>
  have hd:aN n d=true:=by
   simp only[gh,Bool.and_eq_true]at hc
   exact hc.1.1.2
  have hst:step σ ⟨d,.b6 x args,some (t,want)⟩ (.when (g0&&(b==want)) (eC rs))=σ.put d (.when (g0&&(b==want)) (eC rs)):=by
   show(bB σ (.when (g0&&(b==want)) (eC rs)) d).put d (.when (g0&&(b==want)) (eC rs))=_
   have:bB σ (.when (g0&&(b==want)) (eC rs)) d=σ:=oT h2 σ d
   rw[this]
  rw[hst]at hn
  refine fM (K:=fun τ=>((g0&&(b==want))=true∧τ=σ.put d (eC rs))∨((g0&&(b==want))=false∧τ=σ.put d (.fE []))) h hc ?_ fun G' σ' a' w' k1 k2 k3=>?_
  ·show Bk P (.b6 x args) d t want σ _ (look σ.e t)
   rw[D7 h0]
   refine⟨fun hb=>?_,fun hb=>.inr ⟨hb,rfl⟩⟩
   obtain⟨f,as,⟨first,caps,xs,q1,q2,rfl⟩,q4,q5⟩:=h1 hb
   show yz P σ (bJ (xg true σ) args) d _ (xg true σ x)
   rw[q1,q2]
   exact⟨q4,FE.app q5 ⟨h2,.inl ⟨hb,rfl⟩⟩⟩
  ·rcases k3 with⟨hb,rfl⟩|⟨hb,rfl⟩
   ·rw[hb]at hn;exact hn G' a' w' (k1.vT hd) k2
   ·rw[hb]at hn;exact hn G' a' w' (k1.wJ hd (wB h2)) k2
 |YQ _ _ hq=>
  obtain⟨_,hnl,hlp,hdr⟩:=Up hq
  have hst:step σ o' v=σ.put o'.dst v:=by unfold step;rw[hdr,hlp]
  obtain⟨d,op,g⟩:=o'
  cases g with
  |none=>
   refine gen ?_
   have hq':qe (xg true σ) σ.s op=.cY v∨∃c,qe (xg true σ) σ.s op=.prt c v∧c:=hq
   show U5 P op σ d (fun τ=>τ=step σ ⟨d,op,none⟩ v) (pv op (xg true σ) σ)
   rw[(Gb (hq'.imp id fun⟨c,h,_⟩=>⟨c,h⟩)).2.1]
   exact Uq hq' hst.symm
  |some tw=>
   obtain⟨t,want⟩:=tw
   have hd:aN n d=true:=by
    simp only[gh,Bool.and_eq_true]at hc
    exact hc.1.1.2
   have hq':OF op want σ (look σ.e t)=.cY v∨∃c,OF op want σ (look σ.e t)=.prt c v∧c:=hq
   rcases Uo (o:=op) (want:=want) (σ:=σ) (a:=look σ.e t)with⟨g0,b,hg0,hl⟩|hl<;>rw[hl]at hq'
   case inr=>rcases hq' with h'|⟨c,h',_⟩<;>cases h'
   have hgs:=fun K=>D7 (P:=P) (o:=op) (d:=d) (t:=t) (want:=want) (σ:=σ) (K:=K) hg0
   generalize(g0&&(b==want))=gg at hq' hgs
   obtain⟨u,hu,hv⟩:∃u,(gg=true→(qe (xg true σ) σ.s op=.cY u∨∃c,qe (xg true σ) σ.s op=.prt c u∧c))∧v=.when gg u:=by
    have h2:OA gg (qe (xg gg σ) σ.s op)=.cY v∨∃c,OA gg (qe (xg gg σ) σ.s op)=.prt c v∧c:=hq'
    cases hq2:qe (xg gg σ) σ.s op with
    |cY u=>
     rw[hq2]at h2
     refine⟨u,fun hb=>?_,?_⟩
     ·rw[hb]at hq2;exact .inl hq2
     ·rcases h2 with h2|⟨c,h2,_⟩
      ·injection h2 with h2;exact h2.symm
      ·cases h2
    |prt c u=>
     rw[hq2]at h2
     rcases h2 with h2|⟨c',h2,hc'⟩
     ·cases h2
     ·injection h2 with h3 h4
      refine⟨u,fun hb=>?_,h4.symm⟩
      rw[hb]at hq2
      subst h3
      exact .inr ⟨c,hq2,hc' hb⟩
    |no=>rw[hq2]at h2;rcases h2 with h2|⟨c,h2,_⟩<;>cases h2
   subst hv
   have hpn:∀f τ,pv op f τ=.no:=by
    intro f τ
    have h2:OA gg (qe (xg gg σ) σ.s op)=.cY _∨∃c,OA gg (qe (xg gg σ) σ.s op)=.prt c _∧c:=hq'
    cases op<;>first|rfl|(rcases h2 with h2|⟨c,h2,_⟩<;>cases h2)
   rw[hst]at hn
   refine fM (K:=fun τ=>(gg=true∧τ=σ.put d u)∨(gg=false∧τ=σ.put d (.fE []))) h hc ?_ fun G' σ' a' w' k1 k2 k3=>?_
   ·show Bk P op d t want σ _ (look σ.e t)
    rw[hgs,hpn]
    unfold SI
    refine⟨fun hb=>?_,fun hb=>.inr ⟨hb,rfl⟩⟩
    show U5 P op σ d _ (pv op (xg true σ) σ)
    rw[hpn]
    exact Uq (hu hb) (.inl ⟨hb,rfl⟩)
   ·rcases k3 with⟨hb,rfl⟩|⟨hb,rfl⟩
    ·rw[hb]at hn;exact hn G' a' w' (k1.vT hd) k2
    ·rw[hb]at hn;exact hn G' a' w' (k1.wJ hd fun t ht=>hnl t ht) k2
theorem Q5{ops:Array Oper}{Q:Exit→Act→World→Prop}{K:St→Prop}(G₀:Gh)(w₀:World)
 (hn:∀G' σ' a' w',Inv G' n D σ' a' w'→ax G₀ w₀ G' w'→K σ'→Q .normal a' w'):∀(q:Nat)(l:List Oper)(l':List ah)(G:Gh)(σ:St)(a:Act)(w:World),bN P n ops l l'=true→Inv G n D σ a w→ax G₀ w₀ G w→U9 P q l' σ K→wpList P ops Q l a w
 |0,l,l',G,σ,a,w,hc,h,hp,hk=>qQ G₀ w₀ hn l l' G σ a w hc h hp hk
 |_+1,[],[],G,σ,a,w,_,h,hp,hk=>hn G σ a w h hp hk
 |q+1,o::l,o'::l',G,σ,a,w,hc,h,hp,hk=>by
  simp only[bN,Bool.and_eq_true]at hc
  obtain⟨hf,hk⟩:=hk
  obtain⟨v,hv,hy,hk⟩:=P9 hk
  show As P ops o a w (wpList P ops Q l) Q
  exact hy.run h hc.1 fun G' a' w' h1 h2=>Q5 G₀ w₀ hn q l l' G' _ a' w' hc.2 h1 (hp.trans h2) hk
 |_+1,[],_::_,_,_,_,_,hc,_,_,_=>by simp[bN]at hc
 |_+1,_::_,[],_,_,_,_,hc,_,_,_=>by simp[bN]at hc
abbrev tc:=List (Nat×ah×AV)
def zn(P:Program):St→tc→Prop
 |_,[]=>True
 |σ,(_,o,v)::r=>aO σ o.dst=true∧aW v=true∧Y P σ o v∧zn P (step σ o v) r
def fin:St→tc→St
 |σ,[]=>σ
 |σ,(_,o,v)::r=>fin (step σ o v) r
theorem zn.eqv:∀{p:tc}{σ σ':St},kG σ σ'→zn P σ p→zn P σ' p
 |[],_,_,_,_=>trivial
 |(_,o,v)::r,_,_,h,⟨h1,h2,h3,h4⟩=>⟨by rw[←h.free];exact h1,h2,h3.Qt (h.Qt o),zn.eqv (h.step o v) h4⟩
theorem QK:∀(p:tc){σ σ':St},kG σ σ'→kG (fin σ p) (fin σ' p)
 |[],_,_,h=>h
 |(_,o,v)::r,_,_,h=>QK r (h.step o v)
theorem w6{o:ah}{i:Nat}(h:gj o i=true):i∈bW o:=by
 unfold gj at h
 split at h
 ·rename_i j hop
  have:j=i:=by simpa using h
  subst this
  refine List.mem_append_right _ ?_
  rw[hop]
  exact List.mem_cons_self
 ·cases h
theorem Vh{x y:ah}(h:ap x y=true):fP x.dst (bW y)=true∧fP y.dst (bW x)=true∧(∀i j,x.dst=some i→y.dst=some j→i≠j)∧TZ x y=true∧TZ y x=true∧(∀i,y.dst=some i→gj x i=false)∧(∀i,x.dst=some i→gj y i=false):=by
 unfold ap at h
 simp only[Bool.and_eq_true]at h
 refine⟨h.1.1.2,h.1.2,fun i j hi hj=>?_,h.1.1.1.1,h.1.1.1.2,fun i hi=>?_,fun i hi=>?_⟩
 ·have:=h.2
  rw[hi,hj]at this
  simpa using this
 ·have:=h.1.2
  rw[hi]at this
  simp[fP]at this
  cases hd:gj x i with
  |false=>rfl
  |true=>exact absurd (w6 hd) this
 ·have:=h.1.1.2
  rw[hi]at this
  simp[fP]at this
  cases hd:gj y i with
  |false=>rfl
  |true=>exact absurd (w6 hd) this
theorem pull{x:Nat×ah×AV}:∀(pre:tc)(post:tc)(σ:St),(∀y∈pre,ap y.2.1 x.2.1=true)→zn P σ (pre++x::post)→
 aO σ x.2.1.dst=true∧aW x.2.2=true∧Y P σ x.2.1 x.2.2∧zn P (step σ x.2.1 x.2.2) (pre++post)∧kG (fin (step σ x.2.1 x.2.2) (pre++post)) (fin σ (pre++x::post))
 |[],post,σ,_,h=>⟨h.1,h.2.1,h.2.2.1,h.2.2.2,kG.refl _⟩
 |(k,o,v)::pre,post,σ,hap,h=>by
  obtain⟨h1,h2,h3,h4⟩:=h
  obtain⟨i1,i2,i3,i4,i5⟩:=pull pre post (step σ o v) (fun y hy=>hap y (List.mem_cons_of_mem _ hy)) h4
  obtain⟨a1,a2,a3,a4,a5,a6,a7⟩:=Vh (hap (k,o,v) List.mem_cons_self)
  have hfx:aO σ x.2.1.dst=true:=by
   cases hd:x.2.1.dst with
   |none=>rfl
   |some j=>
    rw[hd]at i1
    have i1':aW (look (step σ o v).e j)=true:=i1
    rw[gO,if_neg (fun e=>a3 j j e hd rfl)]at i1'
    show aW (look σ.e j)=true
    split at i1'
    ·rw[uK]at i1';exact i1'
    ·exact i1'
  have hfo:aO (step σ x.2.1 x.2.2) o.dst=true:=by
   cases hd:o.dst with
   |none=>rfl
   |some j=>
    rw[hd]at h1
    show aW (look (step σ x.2.1 x.2.2).e j)=true
    rw[gO,if_neg (fun e=>a3 j j hd e rfl)]
    split
    ·rw[uK];exact h1
    ·exact h1
  have hcomm:kG (step (step σ o v) x.2.1 x.2.2) (step (step σ x.2.1 x.2.2) o v):=Sz a3 a6 a7
  refine⟨hfx,i2,i3.Qt (MD h1 h2 a1 a4).symm,⟨hfo,h2,h3.Qt (MD hfx i2 a2 a5),i4.eqv hcomm⟩,?_⟩
  exact(QK (pre++post) hcomm.symm).trans i5
end
end Go.AB
end
