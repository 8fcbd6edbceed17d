/- A part of the proof: Ab18, Ab19, Ab20, Ab21. -/
import Derived.Test.YtkeagffgdajggaaGreatSo8
set_option linter.unusedSimpArgs false
set_option linter.unusedVariables false
section
namespace Go.AB
open Go
structure bj where
 t:Nat
 own:Bool
 cell:Option (Nat×Bool):=none
 deriving Inhabited
def aD(multi:Bool):Option (List AV)→AV
 |some cs=>lF multi cs
 |none=>.undef
def aA(σ:St)(r:bj):AV:=match r.cell with
 |none=>bif r.own then look σ.e r.t else view (look σ.e r.t)
 |some (n,multi)=>aD multi (rd σ (look σ.e r.t) n)
def an(σ:St)(res:List bj):List AV:=res.map (aA σ)
def iW(P:Program):List ResultVar→List bj→Bool
 |[],[]=>true
 |.tmp t::r,i::s=>t==i.t&&i.cell.isNone&&(!i.own||s.all fun j=>!(j.own&&j.t==i.t))&&iW P r s
 |.cell t ty::r,i::s=>t==i.t&&!i.own&&(match i.cell with
  |some (n,multi)=>cy P ty n&&lE P ty multi&&(multi||n==1)
  |none=>false)&&iW P r s
 |_,_=>false
def ag:Nat→List AV→List (Nat×AV)
 |_,[]=>[]
 |i,a::r=>(i,view a)::ag (i+1) r
def start(args:List AV)(s:ab):St:={e:=ag 0 args,lp:=[],s:=s}
def aB(cs:List AV):Bool:=cs.all c9
def aC(res:List bj)(Q:List AV→ab→Prop):Exit→St→Prop
 |.ret,σ=>aB (an σ res)=true∧Q (an σ res) σ.s
 |.normal,σ=>aB (an σ res)=true∧Q (an σ res) σ.s
 |_,_=>False
def bG(P:Program)(f:FuncId)(n:Nat)(res:List bj)(ic:IC):Bool:=match P.funcs[f]? with
 |some fn=>fn.ntmps==n&&iW P fn.results.toList res&&(match fn.body with
  |some c=>j7 P n c ic
  |none=>false)
 |none=>false
section
variable{P:Program}{G G':Gh}{n:Nat}{D:List Deferred}{σ:St}{a:Act}{w w':World}
theorem nD(i:Nat):∀(args:List AV)(k:Nat),look (ag k args) i=if k≤i then(match args[i -k]? with|some a=>view a|none=>.undef)else .undef
 |[],k=>by
  show AV.undef=_
  split<;>simp
 |a::r,k=>by
  show look ((k,view a)::ag (k+1) r) i=_
  rw[aP,nD i r (k+1)]
  by_cases h:k=i
  ·subst h;simp
  ·by_cases h2:k≤i
   ·have h3:k+1≤i:=by omega
    have h4:i -k=(i -(k+1))+1:=by omega
    rw[if_neg h,if_pos h3,if_pos h2,h4,List.getElem?_cons_succ]
   ·rw[if_neg h,if_neg (by omega),if_neg h2]
theorem Ej{args:List AV}{s:ab}{vs:Array Value}(hg:b9 G w)(hs:aW G w s)(ha:nk w G.R args vs)(hv:aB args=true)(hn:args.length≤n):
 Inv G n [] (start args s) {tmps:=vs++Array.replicate (n -vs.size) undef,defers:=[]} w:=by
 have hsz:vs.size=args.length:=ha.1
 refine⟨hg,hs,by simp;omega,fun i v hi=>?_,fun i hi=>?_,fun i t ht=>?_,rfl⟩
 ·show da G w (ag 0 args) _ i (look (ag 0 args) i) v
  rw[nD,if_pos (Nat.zero_le _),Nat.sub_zero]
  cases hai:args[i]? with
  |none=>exact⟨.undef _,trivial⟩
  |some av=>
   have hlt:i<args.length:=(List.getElem?_eq_some_iff.1 hai).1
   have hvi:vs[i]? =some v:=by
    have hi':(vs++Array.replicate (n -vs.size) undef)[i]? =some v:=hi
    rw[Array.getElem?_append_left (by omega)]at hi'
    exact hi'
   have hV:c9 av=true:=by
    have:=List.all_eq_true.1 hv
    exact this av (List.mem_of_getElem? hai)
   exact da.wH hV (ha.2 i av v hai hvi)
 ·show look (ag 0 args) i=.undef
  rw[nD,if_pos (Nat.zero_le _),Nat.sub_zero,List.getElem?_eq_none (by omega)]
 ·have ht':bH (look (ag 0 args) i) t:=ht
  rw[nD,if_pos (Nat.zero_le _),Nat.sub_zero]at ht'
  cases hai:args[i]? with
  |none=>rw[hai]at ht';exact ht'.elim
  |some av=>
   rw[hai]at ht'
   have hV:c9 av=true:=List.all_eq_true.1 hv av (List.mem_of_getElem? hai)
   exact(eH (jI hV) t ht').elim
def Ed:List bj→Nat→Nat→Option Nat
 |[],_,_=>none
 |r::s,k,i=>bif r.own&&r.t==i then some k else Ed s (k+1) i
def BC(G:Gh)(res:List bj):cY→cY
 |.none=>.none
 |.frame=>.frame
 |.sh=>.sh
 |.slot i j=>(match j,Ed res 0 i with
  |0,some k=>.res k
  |_,_=>.none)
 |.cell b j=>if G.O b=.sh then .cell b j else .none
 |_=>.none
theorem Ee:∀(vs:List ResultVar)(res:List bj),iW P vs res=true→vs.length=res.length
 |[],[],_=>rfl
 |v::vs,r::res,h=>by
  have:iW P vs res=true:=by cases v<;>simp only[iW,Bool.and_eq_true]at h<;>exact h.2
  simp[Ee vs res this]
 |[],_::_,h=>by simp[iW]at h
 |_::_,[],h=>by simp[iW]at h
theorem vj:∀(vs:List ResultVar)(res:List bj)(k j:Nat)(r:bj),iW P vs res=true→res[j]? =some r→r.own=true→Ed res k r.t=some (k+j)
 |v::vs,r0::res,k,0,r,_,hj,ho=>by
  simp at hj;subst hj
  simp[Ed,ho]
 |v::vs,r0::res,k,j+1,r,h,hj,ho=>by
  have hj':res[j]? =some r:=by simpa using hj
  have hrest:iW P vs res=true:=by cases v<;>simp only[iW,Bool.and_eq_true]at h<;>exact h.2
  have hne:(r0.own&&r0.t==r.t)=false:=by
   cases hr0:r0.own with
   |false=>rfl
   |true=>
    cases v with
    |cell=>simp[iW,hr0]at h
    |tmp t=>
    simp only[iW,Bool.and_eq_true]at h
    have h1:=h.1.2
    rw[hr0]at h1
    have h1':∀x∈res,x.own=false∨¬x.t=r0.t:=by simpa using h1
    rcases h1' r (List.mem_of_getElem? hj')with e|e
    ·rw[ho]at e;cases e
    ·simpa using fun e'=>e e'.symm
  show(bif r0.own&&r0.t==r.t then some k else Ed res (k+1) r.t)=_
  rw[hne]
  show Ed res (k+1) r.t=_
  rw[vj vs res (k+1) j r hrest hj' ho]
  congr 1;omega
 |[],r0::res,_,_,_,h,_,_=>by simp[iW]at h
 |_,[],_,_,_,_,hj,_=>by simp at hj
theorem da.Pz{G:Gh}{w:World}{e:List (Nat×AV)}{tmps:Array Value}{i:Nat}{a:AV}{v:Value}(h:c9 a=true∨c9 (view a)=true):da G w e tmps i a v→(VR w G.R a v∧df G w (.slot i 0) a v):=by cases a<;>simp_all [c9,view,da]
def Hx(vs:Array Value):Value:=if h:vs.size=1 then vs[0]else .tuple vs
theorem mapM_some{α β:Type}(f:α→Sem β)(w:World):∀(l:List α)(vs:List β),l.length=vs.length→(∀(j:Nat)(x:α)(v:β),l[j]? =some x→vs[j]? =some v→(f x).run P w=.ok v w)→(l.mapM f).run P w=.ok vs w
 |[],[],_,_=>by simp
 |x::l,v::vs,hl,h=>by
  rw[List.mapM_cons]
  simp[h 0 x v rfl rfl,mapM_some f w l vs (by simpa using hl) (fun j y z hy hz=>h (j+1) y z (by simpa using hy) (by simpa using hz))]
 |[],_::_,hl,_=>by simp at hl
 |_::_,[],hl,_=>by simp at hl
def x6(tmps:Array Value):ResultVar→Sem Value
 |.tmp t=>pure (tmps.getD t undef)
 |.cell a t=>do loadVar t (←asAddr (tmps.getD a undef))
theorem HA{fn:Func}(tmps:Array Value)(w:World)(vs:List Value)(hl:fn.results.toList.length=vs.length)(h:∀(j:Nat)(x:ResultVar)(v:Value),fn.results.toList[j]? =some x→vs[j]? =some v→(x6 tmps x).run P w=.ok v w):
 (results fn tmps).run P w=.ok (Hx vs.toArray) w:=by
 have e:(fn.results.toList.mapM (x6 tmps)).run P w=.ok vs w:=mapM_some _ w _ _ hl h
 unfold results
 rw[Array.mapM_eq_mapM_toList]
 have key:∀F:ResultVar→Sem Value,F=x6 tmps→(do let vs←List.toArray<$>fn.results.toList.mapM F;pure (if h:vs.size=1 then vs[0]else .tuple vs):Sem Value).run P w=.ok (Hx vs.toArray) w:=by
  intro F hF
  subst hF
  simp only[Sem.run_bind,Sem.run_map,e,Result.andThen_ok]
  rfl
 exact key _ (by funext x;cases x<;>rfl)
theorem Ks{fn:Func}{res:List bj}{Q:List AV→ab→Prop}{σ':St}{a':Act}(hres:iW P fn.results.toList res=true)(h:Inv G' n D σ' a' w')(hp:aG G w G' w')(hall:aB (an σ' res)=true)(hQ:Q (an σ' res) σ'.s):
 ∃v,(results fn a'.tmps).run P w'=.ok v w'∧∃v' rs s' G'',Ending.returned v=.returned v'∧Q rs s'∧b9 G'' w'∧aW G'' w' s'∧ni G'' w' rs v'∧aG G w G'' w':=by
 let G2:Gh:=⟨G'.R,fun b=>BC G' res (G'.O b)⟩
 have hV:∀(j:Nat)(r:bj),res[j]? =some r→c9 (aA σ' r)=true:=fun j r hj=>by
  refine List.all_eq_true.1 hall _ ?_
  exact List.mem_map.2 ⟨r,List.mem_of_getElem? hj,rfl⟩
 have hlen:=Ee _ _ hres
 have get:∀(vs:List ResultVar)(rs:List bj),iW P vs rs=true→∀(j:Nat)(x:ResultVar)(r:bj),vs[j]? =some x→rs[j]? =some r→
  (x=.tmp r.t∧r.cell=none)∨∃ty n m,x=.cell r.t ty∧r.cell=some (n,m)∧r.own=false∧cy P ty n=true∧lE P ty m=true∧(m||n==1)=true:=by
  intro vs
  induction vs with
  |nil=>intro rs _ j x r hx;simp at hx
  |cons v vs ih=>
   intro rs hh j x r hx hr
   cases rs with
   |nil=>simp at hr
   |cons r0 rs=>
    cases j with
    |succ j=>
     refine ih rs ?_ j x r (by simpa using hx) (by simpa using hr)
     cases v<;>simp only[iW,Bool.and_eq_true]at hh<;>exact hh.2
    |zero=>
     simp at hx hr;subst hx;subst hr
     cases v with
     |tmp t=>
      simp only[iW,Bool.and_eq_true,beq_iff_eq]at hh
      exact .inl ⟨by rw[hh.1.1.1],by simpa using hh.1.1.2⟩
     |cell t ty=>
      simp only[iW,Bool.and_eq_true,beq_iff_eq]at hh
      obtain⟨⟨⟨h1,h2⟩,h3⟩,_⟩:=hh
      split at h3
      ·rename_i n m hc
       simp only[Bool.and_eq_true]at h3
       exact .inr ⟨ty,n,m,by rw[h1],hc,by simpa using h2,h3.1.1,h3.1.2,h3.2⟩
      ·cases h3
 have hone:∀(j:Nat)(x:ResultVar)(r:bj),fn.results.toList[j]? =some x→res[j]? =some r→∃v,(x6 a'.tmps x).run P w'=.ok v w'∧VR w' G2.R (aA σ' r) v∧df G2 w' (.res j) (aA σ' r) v:=by
  intro j x r hx hj
  have hi:=hV j r hj
  have hlk:look σ'.e r.t≠.undef:=by
   intro e
   unfold aA at hi
   rw[e]at hi
   cases hr:r.cell with
   |none=>
    rw[hr]at hi
    cases ho:r.own with
    |true=>rw[ho]at hi;cases hi
    |false=>rw[ho]at hi;cases hi
   |some nm=>rw[hr]at hi;obtain⟨n1,m1⟩:=nm;cases hi
  have hlt:r.t<a'.tmps.size:=by rw[h.size];exact h.He hlk
  rcases get _ _ hres j x r hx hj with⟨rfl,hcell⟩|⟨ty,n1,m1,rfl,hcell,ho,hs1,ha1,h11⟩
  ·refine⟨a'.tmps.getD r.t undef,rfl,?_⟩
   have hi':c9 (look σ'.e r.t)=true∨c9 (view (look σ'.e r.t))=true:=by
    unfold aA at hi
    rw[hcell]at hi
    cases hr:r.own with
    |true=>rw[hr]at hi;exact .inl hi
    |false=>rw[hr]at hi;exact .inr hi
   have hs:=h.ch r.t _ (gQ hlt)
   replace hs:=da.Pz hi' hs
   have he:a'.eval (.tmp r.t)=a'.tmps.getD r.t undef:=rfl
   rw[he]at hs
   unfold aA
   rw[hcell]
   cases hr:r.own with
   |false=>exact⟨hs.1.view,df.view ..⟩
   |true=>
    refine⟨hs.1,?_⟩
    have ho:=hs.2
    show df G2 w' (.res j) (look σ'.e r.t) _
    unfold df at ho⊢
    split
    ·rename_i sz m cs hsl
     rw[hsl]at ho
     intro base m' cap hv hc
     obtain⟨b,off,c,e,fz,q1,q2,q3⟩:=ho base m' cap hv hc
     refine⟨b,off,c,e,fz,q1,?_,q3⟩
     show BC G' res (G'.O b)=.res j
     rw[q2]
     have:=vj fn.results.toList res 0 j r hres hj hr
     simp[BC,this]
    ·rename_i e m cs hsl
     rw[hsl]at ho
     intro base m' cap hv hc
     obtain⟨b,off,c,fz,q1,q2,q3⟩:=ho base m' cap hv hc
     refine⟨b,off,c,fz,q1,?_,q3⟩
     show BC G' res (G'.O b)=.res j
     rw[q2]
     have:=vj fn.results.toList res 0 j r hres hj hr
     simp[BC,this]
    ·trivial
  ·unfold aA at hi⊢
   rw[hcell]at hi⊢
   have hb:BR G' w' σ' a' (.t r.t) (look σ'.e r.t) (a'.tmps.getD r.t undef):=by
    have:=BR.aJ h (o:=.tmp r.t) (x:=.t r.t) (by simp[bw])
    have hun:xg true σ' (.t r.t)=vy true (look σ'.e r.t):=rfl
    rw[hun]at this
    generalize look σ'.e r.t=av at this hi
    cases av<;>first|exact this|(cases hi;done)|trivial
   have hi:c9 (aD m1 (rd σ' (look σ'.e r.t) n1))=true:=hi
   show∃v,_∧VR w' G2.R (aD m1 (rd σ' (look σ'.e r.t) n1)) v∧df G2 w' (.res j) (aD m1 (rd σ' (look σ'.e r.t) n1)) v
   cases hrd:rd σ' (look σ'.e r.t) n1 with
   |none=>rw[hrd]at hi;cases hi
   |some cs=>
    obtain⟨b,off,e,hl,hat,hvw⟩:=BQ h hb hrd
    obtain⟨v,hrun,hvr⟩:=oi hs1 ha1 h11 hl hat
    refine⟨v,?_,hvr,?_⟩
    ·show(do loadVar ty (←asAddr (a'.tmps.getD r.t undef)):Sem Value).run P w'=_
     rw[e]
     simp[asAddr,hrun]
    ·have hview:=Cw (multi:=m1) hvw
     show df G2 w' (.res j) (lF m1 cs) v
     rw[←hview];exact df.view ..
 have hall2:∃vs:List Value,fn.results.toList.length=vs.length∧∀(j:Nat)(x:ResultVar)(r:bj)(v:Value),fn.results.toList[j]? =some x→res[j]? =some r→vs[j]? =some v→(x6 a'.tmps x).run P w'=.ok v w'∧VR w' G2.R (aA σ' r) v∧df G2 w' (.res j) (aA σ' r) v:=by
  have hch:∀j:Fin fn.results.toList.length,∃v,∀(x:ResultVar)(r:bj),fn.results.toList[j.1]? =some x→res[j.1]? =some r→(x6 a'.tmps x).run P w'=.ok v w'∧VR w' G2.R (aA σ' r) v∧df G2 w' (.res j.1) (aA σ' r) v:=by
   intro j
   have hr:j.1<res.length:=by rw[←hlen];exact j.2
   obtain⟨v,hv⟩:=hone j.1 _ _ (List.getElem?_eq_getElem j.2) (List.getElem?_eq_getElem hr)
   refine⟨v,fun x r hx hr'=>?_⟩
   rw[List.getElem?_eq_getElem j.2]at hx
   rw[List.getElem?_eq_getElem hr]at hr'
   injection hx with hx;injection hr' with hr'
   subst hx;subst hr'
   exact hv
  refine⟨List.ofFn fun j=>(hch j).choose,by simp,fun j x r v hx hr hv=>?_⟩
  have hj:j<fn.results.toList.length:=(List.getElem?_eq_some_iff.1 hx).1
  have:=(hch ⟨j,hj⟩).choose_spec x r hx hr
  simp only[List.getElem?_ofFn,hj,dite_true]at hv
  injection hv with hv
  rw[hv]at this
  exact this
 obtain⟨vs,hvl,hvs⟩:=hall2
 refine⟨_,HA a'.tmps w' vs hvl (fun j x v hx hv=>by
  have hj:j<res.length:=by rw[←hlen];exact(List.getElem?_eq_some_iff.1 hx).1
  exact(hvs j x _ v hx (List.getElem?_eq_getElem hj) hv).1),?_⟩
 have hval:∀(j:Nat)(r:bj)(v:Value),res[j]? =some r→vs[j]? =some v→VR w' G2.R (aA σ' r) v∧df G2 w' (.res j) (aA σ' r) v:=by
  intro j r v hr hv
  have hj:j<fn.results.toList.length:=by rw[hvl];exact(List.getElem?_eq_some_iff.1 hv).1
  exact(hvs j _ r v (List.getElem?_eq_getElem hj) hr hv).2
 have hvl2:vs.length=res.length:=by rw[←hvl,hlen]
 refine⟨_,an σ' res,σ'.s,G2,rfl,hQ,⟨fun b hb=>?_,h.aO.iU⟩,?_,?_,?_⟩
 ·show BC G' res (G'.O b)=.none
  rw[h.aO.iA b hb];rfl
 ·refine h.store.wI (fun _ _ hv=>hv) (fun b hb=>⟨?_,rfl,rfl⟩) (fun b c j hb hc=>⟨?_,rfl,rfl⟩)
  ·show BC G' res (G'.O b)=.sh
   rw[hb];rfl
  ·show BC G' res (G'.O c)=.cell b j
   rw[hc];simp[BC,hb]
 ·match res,vs,hvl2,hval with
  |[],[],_,_=>exact⟨#[],rfl,rfl,fun j x y hx=>by simp[an]at hx⟩
  |[r],[v],_,hval=>
   have h1:=hval 0 r v rfl rfl
   have h2:=hV 0 r rfl
   show NN G2 w' (aA σ' r) v
   generalize aA σ' r=av at h1 h2
   cases av<;>first|exact h1|cases h2
  |r1::r2::rr,v1::v2::vv,hl2,hval=>
   refine⟨_,rfl,by simpa[an]using hl2,fun j x y hx hy=>?_⟩
   have hx':((r1::r2::rr).map (aA σ'))[j]? =some x:=hx
   rw[List.getElem?_map]at hx'
   cases hj:(r1::r2::rr)[j]? with
   |none=>rw[hj]at hx';cases hx'
   |some r=>
    rw[hj]at hx'
    injection hx' with hx'
    have hy':(v1::v2::vv)[j]? =some y:=by simpa using hy
    subst hx'
    exact hval j r y hj hy'
 ·refine⟨hp.os,hp.tape,hp.output,hp.drawn,hp.size,hp.mono,hp.lD,hp.frame,fun b hb ho=>?_,fun b hb ho=>?_⟩
  ·obtain⟨e1,e2⟩:=hp.jG b hb ho
   exact⟨by show BC G' res (G'.O b)=_;rw[e1];rfl,e2⟩
  ·obtain⟨e1,e2⟩:=hp.oY b hb ho
   exact⟨by show BC G' res (G'.O b)=_;rw[e1];rfl,e2⟩
theorem FN.of{f:FuncId}{res:List bj}{ic:IC}{args:List AV}{s:ab}{Q:List AV→ab→Prop}(hD:As P n)(hf:bG P f n res ic=true)(hv:aB args=true)(hn:args.length≤n)
 (hw:gP P ic (aC res Q) (start args s)):FN P f args s Q:=by
 intro G w vs hg ho hs ha
 unfold bG at hf
 split at hf<;>try(cases hf;done)
 rename_i fn hfn
 simp only[Bool.and_eq_true,beq_iff_eq]at hf
 obtain⟨⟨rfl,hres⟩,hf⟩:=hf
 split at hf<;>try(cases hf;done)
 rename_i c hb
 refine calls_of_wp hfn hb (c5 hD ic c G w (aC res Q) _ G _ _ w hf ?_ (Ej hg hs ha hv hn) (aG.refl G w) hw)
 intro x G' σ' a' w' h hp hq
 have fin:aB (an σ' res)=true∧Q (an σ' res) σ'.s→a'.defers=[]∧∃v,(results fn a'.tmps).run P w'=.ok v w'∧∃v' rs s' G'',Ending.returned v=.returned v'∧Q rs s'∧b9 G'' w'∧aW G'' w' s'∧ni G'' w' rs v'∧aG G w G'' w':=by
  intro hq
  obtain⟨hall,hQ⟩:=hq
  exact⟨h.qW,Ks hres h hp hall hQ⟩
 cases x with
 |ret=>exact fin hq
 |normal=>exact fin hq
 |_=>exact hq.elim
end
end Go.AB
end
section
namespace Go.AB
open Go
theorem fG{f f':IX→AV}:∀(xs:List IX),(∀x∈xs,f x=f' x)→cc f xs=cc f' xs
 |[],_=>rfl
 |x::xs,h=>by
  show KH (f x) (cc f xs)=KH (f' x) (cc f' xs)
  rw[h x List.mem_cons_self,fG xs fun y hy=>h y (List.mem_cons_of_mem _ hy)]
theorem uQ{f f':IX→AV}:∀(ps:List (Nat×Nat×IX))(cs:List AV),(∀x∈ps.map (fun p=>p.2.2),f x=f' x)→fill f cs ps=fill f' cs ps
 |[],_,_=>rfl
 |(off,n,x)::ps,cs,h=>by
  have h1:f x=f' x:=h x (by simp)
  have ih:∀cs,fill f cs ps=fill f' cs ps:=fun cs=>uQ ps cs fun y hy=>h y (by simp only[List.map_cons,List.mem_cons];exact .inr hy)
  unfold fill
  rw[h1]
  simp only[ih]
theorem kq{f f':IX→AV}(o:Option IX)(d:Int)(h:∀x∈oX o,f x=f' x):CB f o d=CB f' o d:=by
 cases o with
 |none=>rfl
 |some x=>simp only[CB,h x (by simp[oX])]
theorem Nt{o:rh}{f f':IX→AV}{σ σ':St}(h:∀x∈cE o,f x=f' x)(hx:∀x∈cE o,σ.x x=σ'.x x)(hs:σ.s=σ'.s)(hrd:∀x∈cE o,∀n,rd σ (f x) n=rd σ' (f x) n):pv o f σ=pv o f' σ':=by
 cases o<;>(try rfl)
 case iT tr x=>cases tr<;>first|rfl|(show Lj (f x)=Lj (f' x);rw[h x (by simp[cE])])
 case pick c x y=>show Ea (σ.x x) (σ.x y) (f c)=Ea (σ'.x x) (σ'.x y) (f' c);rw[h c (by simp[cE]),hx x (by simp[cE]),hx y (by simp[cE])]
 case build z ps=>show AF (fill f z ps)=AF (fill f' z ps);rw[uQ ps z h]
 case load n m x=>show iI m (rd σ (f x) n)=iI m (rd σ' (f' x) n);rw[hrd x (by simp[cE]),h x (by simp[cE])]
 case lN k x=>show xV k σ.s (f x)=xV k σ'.s (f' x);rw[h x (by simp[cE]),hs]
 case bW z m x=>show DW z m σ.s (f x)=DW z m σ'.s (f' x);rw[h x (by simp[cE]),hs]
 case fA x=>show pK (f x)=pK (f' x);rw[h x (by simp[cE])]
 case nilCheck x=>show ku (f x)=ku (f' x);rw[h x (by simp[cE])]
 case bin b x y=>show H8 b (f x) (f y)=H8 b (f' x) (f' y);rw[h x (by simp[cE]),h y (by simp[cE])]
 case QO b x y=>show IB b (f x) (f y)=IB b (f' x) (f' y);rw[h x (by simp[cE]),h y (by simp[cE])]
 case F4 b x y=>show CJ b (f x) (f y)=CJ b (f' x) (f' y);rw[h x (by simp[cE]),h y (by simp[cE])]
 case OS b x y=>unfold pv;split<;>simp_all [cE]
 case un u x=>show RC u (f x)=RC u (f' x);rw[h x (by simp[cE])]
 case dN k x=>show tf k (f x)=tf k (f' x);rw[h x (by simp[cE])]
 case AQ x=>show xy (f x)=xy (f' x);rw[h x (by simp[cE])]
 case field n m off x=>show xA n m off (f x)=xA n m off (f' x);rw[h x (by simp[cE])]
 case index n m l x i=>show xG n m l (f x) (f i)=xG n m l (f' x) (f' i);rw[h x (by simp[cE]),h i (by simp[cE])]
 case dJ x i=>show tB (f x) (f i)=tB (f' x) (f' i);rw[h x (by simp[cE]),h i (by simp[cE])]
 case fieldAddr off x=>show fQ off x (f x)=fQ off x (f' x);rw[h x (by simp[cE])]
 case indexAddr sz x i=>show jk sz (f x) (f i)=jk sz (f' x) (f' i);rw[h x (by simp[cE]),h i (by simp[cE])]
 case jh sz l x i=>show fE sz l x (f x) (f i)=fE sz l x (f' x) (f' i);rw[h x (by simp[cE]),h i (by simp[cE])]
 case slice sz x lo hi mx=>
  cases mx with
  |some m=>
   have e1:=kq (f:=f) (f':=f') lo 0 fun y hy=>h y (by simp[cE,hy])
   have e2:=kq (f:=f) (f':=f') hi 0 fun y hy=>h y (by simp[cE,hy])
   have e3:=kq (f:=f) (f':=f') (some m) 0 fun y hy=>h y (by simp[cE,hy])
   show qc sz f lo hi m (f x)=qc sz f' lo hi m (f' x)
   rw[h x (by simp[cE])]
   unfold qc
   simp only[e1,e2,e3]
  |none=>
   have e1:=kq (f:=f) (f':=f') lo 0 fun y hy=>h y (by simp[cE,hy])
   have e2:=fun d=>kq (f:=f) (f':=f') hi d fun y hy=>h y (by simp[cE,hy])
   show sP sz f lo hi (f x)=sP sz f' lo hi (f' x)
   rw[h x (by simp[cE])]
   unfold sP
   simp only[e1,e2]
 case jq x lo hi=>
  have e1:=kq (f:=f) (f':=f') lo 0 fun y hy=>h y (by simp[cE,hy])
  have e2:=fun d=>kq (f:=f) (f':=f') hi d fun y hy=>h y (by simp[cE,hy])
  show kC f lo hi (f x)=kC f' lo hi (f' x)
  rw[h x (by simp[cE])]
  unfold kC
  simp only[e1,e2]
 case R8 n b x y=>show MC n b (f x) (f y)=MC n b (f' x) (f' y);rw[h x (by simp[cE]),h y (by simp[cE])]
 case Ol b x=>show GB b (f x)=GB b (f' x);rw[h x (by simp[cE])]
 case R9 b x=>show ID b (f x)=ID b (f' x);rw[h x (by simp[cE])]
 case cap x=>show Ih (f x)=Ih (f' x);rw[h x (by simp[cE])]
 case extract x k=>show oF k (f x)=oF k (f' x);rw[h x (by simp[cE])]
 case len c x=>show zn σ.s c (f x)=zn σ'.s c (f' x);rw[h x (by simp[cE]),hs]
 case hZ m xs=>
  show tu m (xs.map f)=tu m (xs.map f')
  rw[show xs.map f=xs.map f' from List.map_congr_left h]
 case lC fi xs ys=>
  show tm fi (cc f xs) (cc f ys)=tm fi (cc f' xs) (cc f' ys)
  rw[fG xs fun x hx=>h x (by simp[cE,hx]),fG ys fun x hx=>h x (by simp[cE,hx])]
def dr(o:aq)(σ:St):St:=match o.op with
 |.iT true x=>σ.drain x
 |_=>σ
def step(σ:St)(o:aq)(v:AV):St:=(bV (dr o σ) v o.dst).put o.dst v
theorem Mv{o:aq}{σ:St}(h:qv o σ≠.no):dr o σ=σ:=by
 obtain⟨d,op,g⟩:=o
 unfold dr
 split
 ·rename_i x hop
  simp only at hop
  subst hop
  refine absurd ?_ h
  cases g with
  |none=>rfl
  |some tw=>
   obtain⟨t,want⟩:=tw
   show Ht (.iT true x) want σ (look σ.e t)=.no
   unfold Ht
   split<;>rfl
 ·rfl
inductive Y(P:Program)(σ:St):aq→AV→Prop where
 |pure (o:aq) (v:AV) (h:(qv o σ=.c8 v∨∃c,qv o σ=.prt c v∧c)):Y P σ o v
 |iT (d:Option Nat) (x:IX) (h:c9 (σ.x x)=true):Y P σ ⟨d,.iT true x,none⟩ (σ.x x)
 |call (d:Option Nat) (f:Nat) (args:List IX) (as rs:List AV) (h1:cc (xg true σ) args=some as) (h2:iO rs=true) (h3:FE P f as σ.s rs σ.s):Y P σ ⟨d,.call f args,none⟩ (eR rs)
 |Gl (d:Option Nat) (f:Nat) (args:List IX) (t:Nat) (want g0 b:Bool) (rs:List AV) (h0:MJ (look σ.e t)=some (g0,b)) (h2:iO rs=true)
   (h1:(g0&&(b==want))=true→∃as,cc (xg true σ) args=some as∧FE P f as σ.s rs σ.s):Y P σ ⟨d,.call f args,some (t,want)⟩ (.when (g0&&(b==want)) (eR rs))
 |eC (d:Option Nat) (x:IX) (args:List IX) (f:Nat) (as rs:List AV) (h1:callee x args true σ f as) (hf:vS P f=true) (h2:iO rs=true) (h3:FE P f as σ.s rs σ.s):Y P σ ⟨d,.eC x args,none⟩ (eR rs)
 |AN (d:Option Nat) (x:IX) (args:List IX) (t:Nat) (want g0 b:Bool) (rs:List AV) (h0:MJ (look σ.e t)=some (g0,b)) (h2:iO rs=true)
   (h1:(g0&&(b==want))=true→∃f as,callee x args true σ f as∧vS P f=true∧FE P f as σ.s rs σ.s):Y P σ ⟨d,.eC x args,some (t,want)⟩ (.when (g0&&(b==want)) (eR rs))
 |QM (o:aq) (v:AV) (h:(BM o σ=.c8 v∨∃c,BM o σ=.prt c v∧c)):Y P σ o v
theorem Tt{o:rh}{want:Bool}{σ:St}{a:AV}:(∃g b,MJ a=some (g,b)∧Ht o want σ a=LY (Tx o) (g&&(b==want)) (pv o (xg (g&&(b==want)) σ) σ))∨Ht o want σ a=.no:=by
 unfold Ht
 split
 ·exact .inl ⟨_,_,rfl,rfl⟩
 ·exact .inl ⟨_,_,rfl,rfl⟩
 ·exact .inr rfl
theorem ND{o:rh}{want:Bool}{σ:St}{a:AV}:(∃g b,MJ a=some (g,b)∧Kn o want σ a=HT (g&&(b==want)) (qe (xg (g&&(b==want)) σ) σ.s o))∨Kn o want σ a=.no:=by
 unfold Kn
 split
 ·exact .inl ⟨_,_,rfl,rfl⟩
 ·exact .inl ⟨_,_,rfl,rfl⟩
 ·exact .inr rfl
theorem Ah{P:Program}{o:rh}{d:Option Nat}{t:Nat}{want:Bool}{σ:St}{K:St→Prop}{a:AV}{g b:Bool}(h:MJ a=some (g,b)):xE P o d t want σ K a=LX P (g&&(b==want)) o σ d K (pv o (xg (g&&(b==want)) σ) σ):=by
 unfold MJ at h
 split at h
 ·injection h with h;injection h with h1 h2;subst h1;subst h2;rfl
 ·injection h with h;injection h with h1 h2;subst h1;subst h2;rfl
 ·cases h
theorem wR{v:AV}(h:vh v=true):bA v=true∧(∀t,¬bH v t)∧(∀τ d,bV τ v d=τ):=by cases v<;>first|(simp[vh,c9]at h;done)|exact⟨rfl,fun t h=>h,fun τ d=>by cases d<;>rfl⟩
theorem BN{f:IX→AV}{s:ab}{o:rh}{v:AV}(h:qe f s o=.c8 v∨∃c,qe f s o=.prt c v):vh v=true∧(∀g τ,pv o g τ=.no)∧(∀x,o≠.iT true x):=by
 have tt:∀{r:PR}{u:AV},r=.c8 u→(r=.c8 v∨∃c,r=.prt c v)→v=u:=by
  intro r u hr h
  subst hr
  rcases h with h|⟨c,h⟩
  ·injection h with h;exact h.symm
  ·cases h
 have tp:∀{r:PR}{u:AV}{c:Prop},r=.prt c u→(r=.c8 v∨∃c,r=.prt c v)→v=u:=by
  intro r u c hr h
  subst hr
  rcases h with h|⟨c',h⟩
  ·cases h
  ·injection h with _ h;exact h.symm
 have tn:∀{r:PR},r=.no→¬(r=.c8 v∨∃c,r=.prt c v):=by
  intro r hr h
  subst hr
  rcases h with h|⟨c',h⟩<;>cases h
 have ok:∀(k:Bool)(a:AV)(b:Bool),(k=false→c9 a=true)→vh (Jc k a b)=true:=by
  intro k a b ha
  cases k with
  |true=>rfl
  |false=>show vh a=true;have:=ha rfl;cases a<;>first|exact this|rfl
 unfold qe at h
 split at h
 ·rename_i x
  refine⟨?_,fun g τ=>rfl,fun x h=>by cases h⟩
  cases hx:f x<;>rw[hx]at h<;>first|(exact absurd h (tn rfl))|(rw[tt rfl h];rfl)
 ·rename_i sz n z ps
  refine⟨?_,fun g τ=>rfl,fun x h=>by cases h⟩
  cases hx:fill f z ps<;>rw[hx]at h
  ·exact absurd h (tn rfl)
  ·rw[tp rfl h];rfl
 ·rename_i kk zero k x ky
  refine⟨?_,fun g τ=>rfl,fun x h=>by cases h⟩
  have ck:∀{c:Prop}{a:AV}{b:Bool},(LS k c (Jc k a b)=.c8 v∨∃c',LS k c (Jc k a b)=.prt c' v)→vh v=true:=by
   intro c a b h
   unfold LS at h
   cases hp:BJ k (Jc k a b)with
   |false=>rw[hp]at h;exact absurd h (tn rfl)
   |true=>
    rw[hp]at h
    rw[tp rfl h]
    refine ok k a b fun hk=>?_
    subst hk;exact hp
  have ck':∀{c:Prop}{o:Option AV},(LS k c (uh zero k o)=.c8 v∨∃c',LS k c (uh zero k o)=.prt c' v)→vh v=true:=by
   intro c o h
   cases o with
   |none=>exact ck h
   |some a=>exact ck h
  unfold iw at h
  split at h
  ·unfold tk at h
   split at h
   ·exact ck' h
   ·exact absurd h (tn rfl)
  ·exact ck h
  ·exact absurd h (tn rfl)
 ·rename_i x
  refine⟨?_,fun g τ=>rfl,fun x h=>by cases h⟩
  unfold zz at h
  split at h
  ·rw[tt rfl h];rfl
  ·exact absurd h (tn rfl)
 ·rename_i x
  refine⟨?_,fun g τ=>rfl,fun x h=>by cases h⟩
  unfold yn at h
  split at h
  ·rw[tt rfl h];rfl
  ·exact absurd h (tn rfl)
 ·exact absurd h (tn rfl)
theorem NF{o:aq}{σ:St}{v:AV}(h:BM o σ=.c8 v∨∃c,BM o σ=.prt c v∧c):
 bA v=true∧(∀t,¬bH v t)∧(∀τ d,bV τ v d=τ)∧dr o σ=σ:=by
 obtain⟨d,op,g⟩:=o
 have hdr:(∀x,op≠.iT true x)→dr ⟨d,op,g⟩ σ=σ:=by
  intro h
  unfold dr
  split
  ·rename_i x hx;exact absurd hx (h x)
  ·rfl
 have wk:∀{r:PR},(r=.c8 v∨∃c,r=.prt c v∧c)→(r=.c8 v∨∃c,r=.prt c v):=fun h=>h.imp id fun⟨c,h,_⟩=>⟨c,h⟩
 cases g with
 |none=>
  have h':qe (xg true σ) σ.s op=.c8 v∨∃c,qe (xg true σ) σ.s op=.prt c v:=wk h
  obtain⟨h1,_,h3⟩:=BN h'
  obtain⟨f1,f2,f3⟩:=wR h1
  exact⟨f1,f2,f3,hdr h3⟩
 |some tw=>
  obtain⟨t,want⟩:=tw
  have h':Kn op want σ (look σ.e t)=.c8 v∨∃c,Kn op want σ (look σ.e t)=.prt c v:=wk h
  rcases ND (o:=op) (want:=want) (σ:=σ) (a:=look σ.e t)with⟨g0,b,hg0,hl⟩|hl<;>rw[hl]at h'
  case inr=>rcases h' with h'|⟨c,h'⟩<;>cases h'
  generalize(g0&&(b==want))=gg at h'
  have h2:HT gg (qe (xg gg σ) σ.s op)=.c8 v∨∃c,HT gg (qe (xg gg σ) σ.s op)=.prt c v:=h'
  have:∃u,v=.when gg u∧(qe (xg gg σ) σ.s op=.c8 u∨∃c,qe (xg gg σ) σ.s op=.prt c u):=by
   cases hq:qe (xg gg σ) σ.s op with
   |c8 u=>
    rw[hq]at h2
    refine⟨u,?_,.inl rfl⟩
    rcases h2 with h2|⟨c,h2⟩
    ·injection h2 with h2;exact h2.symm
    ·cases h2
   |prt c u=>
    rw[hq]at h2
    refine⟨u,?_,.inr ⟨c,rfl⟩⟩
    rcases h2 with h2|⟨c,h2⟩
    ·cases h2
    ·injection h2 with _ h2;exact h2.symm
   |no=>rw[hq]at h2;rcases h2 with h2|⟨c,h2⟩<;>cases h2
  obtain⟨u,rfl,hu⟩:=this
  obtain⟨h1,_,h3⟩:=BN hu
  obtain⟨f1,f2,f3⟩:=wR h1
  exact⟨rfl,fun t ht=>f2 t ht,fun τ d=>f3 τ d,hdr h3⟩
section
variable{P:Program}{G G':Gh}{n:Nat}{D:List Deferred}{σ σ':St}{a:Act}{w w':World}
theorem nR{rs:List AV}(h:iO rs=true)(σ:St)(d:Option Nat):bV σ (eR rs) d=σ:=by
 match rs,h with
 |[],_=>cases d<;>rfl
 |[r],h=>
  show bV σ r d=σ
  cases r<;>first|(cases d<;>rfl)|(simp[iO,c9,MS]at h)
 |_::_::_,_=>cases d<;>rfl
theorem GN{r:AV}(hr:c9 r=true)(σ:St)(d:Option Nat):bV σ r d=σ:=by cases r<;>first|(cases d<;>rfl)|(simp[c9]at hr)
theorem nS{rs:List AV}(h:iO rs=true):bA (eR rs)=true:=by
 match rs,h with
 |[],_=>rfl
 |[r],h=>
  show bA r=true
  cases r<;>first|rfl|(simp[iO,c9,MS]at h)
 |_::_::_,_=>rfl
theorem Js{o:aq}{K:St→Prop}(h:q1 P o σ K):∃v,bA v=true∧Y P σ o v∧K (step σ o v):=by
 have gen:qK σ o.dst K (qv o σ)→∃v,bA v=true∧Y P σ o v∧K (step σ o v):=by
  intro hq
  cases hv:qv o σ with
  |c8 v=>rw[hv]at hq;exact⟨v,hq.1,.pure o v (.inl hv),by unfold step;rw[Mv (by rw[hv];simp)];exact hq.2⟩
  |prt c v=>rw[hv]at hq;exact⟨v,hq.2.1,.pure o v (.inr ⟨c,hv,hq.1⟩),by unfold step;rw[Mv (by rw[hv];simp)];exact hq.2.2⟩
  |no=>rw[hv]at hq;exact hq.elim
 have gene:∀{o:aq},qK σ o.dst K (BM o σ)→∃v,bA v=true∧Y P σ o v∧K (step σ o v):=by
  intro o hq
  cases hv:BM o σ with
  |c8 v=>rw[hv]at hq;exact⟨v,hq.1,.QM o v (.inl hv),by unfold step;rw[(NF (.inl hv)).2.2.2];exact hq.2⟩
  |prt c v=>rw[hv]at hq;exact⟨v,hq.2.1,.QM o v (.inr ⟨c,hv,hq.1⟩),by unfold step;rw[(NF (.inr ⟨c,hv,hq.1⟩)).2.2.2];exact hq.2.2⟩
  |no=>rw[hv]at hq;exact hq.elim
 unfold q1 at h
 split at h
 ·rename_i d f args
  cases ha:cc (xg true σ) args with
  |none=>rw[ha]at h;exact h.elim
  |some as=>
   rw[ha]at h
   obtain⟨rs,h2,h3,h4⟩:=h
   refine⟨_,nS h2,.call d f args as rs ha h2 h3,?_⟩
   show K ((bV σ (eR rs) d).put d (eR rs))
   rw[nR h2];exact h4
 ·rename_i d x
  obtain⟨h1,h2⟩:=h
  refine⟨_,?_,.iT d x h1,?_⟩
  ·generalize σ.x x=av at h1
   cases av<;>first|rfl|(simp[c9]at h1)
  ·show K ((bV (σ.drain x) (σ.x x) d).put d (σ.x x))
   rw[GN h1];exact h2
 ·rename_i d f args t want
  have h:∃g0 b,MJ (look σ.e t)=some (g0,b)∧∃rs,iO rs=true∧((g0&&(b==want))=true→∃as,cc (xg (g0&&(b==want)) σ) args=some as∧FE P f as σ.s rs σ.s)∧K (σ.put d (.when (g0&&(b==want)) (eR rs))):=by
   unfold BL at h
   split at h
   ·rename_i b hl;exact⟨true,b,by rw[hl];rfl,h⟩
   ·rename_i g b hl;exact⟨g,b,by rw[hl];rfl,h⟩
   ·exact h.elim
  obtain⟨g0,b,hl,rs,h2,h3,h4⟩:=h
  refine⟨_,rfl,.Gl d f args t want g0 b rs hl h2 (fun hb=>by
   obtain⟨as,q1,q2⟩:=h3 hb
   rw[hb]at q1
   exact⟨as,q1,q2⟩),?_⟩
  have:bV σ (.when (g0&&(b==want)) (eR rs)) d=σ:=nR h2 σ d
  show K ((bV σ (.when (g0&&(b==want)) (eR rs)) d).put d (.when (g0&&(b==want)) (eR rs)))
  rw[this];exact h4
 ·rename_i d x args
  cases hx:xg true σ x<;>rw[hx]at h<;>try exact h.elim
  rename_i f first caps
  cases ha:cc (xg true σ) args with
  |none=>rw[ha]at h;exact h.elim
  |some as=>
   rw[ha]at h
   obtain⟨hf,rs,h2,h3,h4⟩:=h
   refine⟨_,nS h2,.eC d x args f _ rs ⟨first,caps,as,hx,ha,rfl⟩ hf h2 h3,?_⟩
   show K ((bV σ (eR rs) d).put d (eR rs))
   rw[nR h2];exact h4
 ·rename_i d x args t want
  have h:∃g0 b,MJ (look σ.e t)=some (g0,b)∧∃rs,iO rs=true∧((g0&&(b==want))=true→∃f as,callee x args (g0&&(b==want)) σ f as∧vS P f=true∧FE P f as σ.s rs σ.s)∧K (σ.put d (.when (g0&&(b==want)) (eR rs))):=by
   unfold Ao at h
   split at h
   ·rename_i b hl;exact⟨true,b,by rw[hl];rfl,h⟩
   ·rename_i g b hl;exact⟨g,b,by rw[hl];rfl,h⟩
   ·exact h.elim
  obtain⟨g0,b,hl,rs,h2,h3,h4⟩:=h
  refine⟨_,rfl,.AN d x args t want g0 b rs hl h2 (fun hb=>by
   obtain⟨f,as,q1,q2⟩:=h3 hb
   rw[hb]at q1
   exact⟨f,as,q1,q2⟩),?_⟩
  have:bV σ (.when (g0&&(b==want)) (eR rs)) d=σ:=nR h2 σ d
  show K ((bV σ (.when (g0&&(b==want)) (eR rs)) d).put d (.when (g0&&(b==want)) (eR rs)))
  rw[this];exact h4
 ·exact gene h
 ·exact gene h
 ·exact gene h
 ·exact gene h
 ·exact gene h
 ·exact gen h
end
end Go.AB
end
section
namespace Go.AB
open Go
theorem gw{i:Nat}:∀{l:List IX},IX.t i∈l→i∈Aj l
 |.t j::r,h=>by
  rcases List.mem_cons.1 h with h|h
  ·injection h with h;subst h;exact List.mem_cons_self
  ·exact List.mem_cons_of_mem _ (gw h)
 |.c a::r,h=>by
  rcases List.mem_cons.1 h with h|h
  ·cases h
  ·exact gw (l:=r) h
section
variable{P:Program}{G G':Gh}{n:Nat}{D:List Deferred}{σ σ':St}{a:Act}{w w':World}
structure F6(o:aq)(σ σ':St):Prop where
 xs:∀x∈cE o.op,σ.x x=σ'.x x
 g:∀t want,o.g=some (t,want)→look σ.e t=look σ'.e t
 s:σ.s=σ'.s
 rd:∀x∈cE o.op,∀g n,rd σ (AB.xg g σ x) n=rd σ' (AB.xg g σ x) n
theorem F6.symm{o:aq}(h:F6 o σ σ'):F6 o σ' σ:=⟨fun x hx=>(h.xs x hx).symm,fun t w hg=>(h.g t w hg).symm,h.s.symm,fun x hx g n=>by
 have e:AB.xg g σ' x=AB.xg g σ x:=by unfold AB.xg;rw[h.xs x hx]
 rw[e];exact(h.rd x hx g n).symm⟩
theorem F6.xg{o:aq}(h:F6 o σ σ')(g:Bool):∀x∈cE o.op,xg g σ x=xg g σ' x:=fun x hx=>by unfold AB.xg;rw[h.xs x hx]
theorem F6.qv{o:aq}(h:F6 o σ σ'):qv o σ=qv o σ':=by
 have hp:∀g,pv o.op (AB.xg g σ) σ=pv o.op (AB.xg g σ') σ':=fun g=>Nt (h.xg g) h.xs h.s fun x hx n=>h.rd x hx g n
 unfold AB.qv
 cases hg:o.g with
 |none=>exact hp true
 |some tw=>
  obtain⟨t,want⟩:=tw
  show Ht o.op want σ (look σ.e t)=Ht o.op want σ' (look σ'.e t)
  rw[h.g t want hg]
  unfold Ht
  split
  ·rw[hp]
  ·rw[hp]
  ·rfl
theorem F6.qe{o:aq}(h:F6 o σ σ')(g:Bool):qe (AB.xg g σ) σ.s o.op=qe (AB.xg g σ') σ'.s o.op:=by
 have hx:=h.xg g
 have hs:=h.s
 obtain⟨d,op,gg⟩:=o
 cases op<;>first|rfl|skip
 case hE x=>show td (AB.xg g σ x)=td (AB.xg g σ' x);rw[hx x (by simp[cE])]
 case b5 sz n z ps=>show B6 sz n (fill (AB.xg g σ) z ps)=B6 sz n (fill (AB.xg g σ') z ps);rw[uQ ps z hx]
 case lookup kk z ok x k=>show iw kk z ok σ.s (AB.xg g σ k) (AB.xg g σ x)=iw kk z ok σ'.s (AB.xg g σ' k) (AB.xg g σ' x);rw[hx x (by simp[cE]),hx k (by simp[cE]),hs]
 case re x=>show yn (AB.xg g σ x)=yn (AB.xg g σ' x);rw[hx x (by simp[cE])]
 case ji x=>show zz (AB.xg g σ x)=zz (AB.xg g σ' x);rw[hx x (by simp[cE])]
theorem F6.BM{o:aq}(h:F6 o σ σ'):BM o σ=BM o σ':=by
 unfold AB.BM
 cases hg:o.g with
 |none=>exact h.qe true
 |some tw=>
  obtain⟨t,want⟩:=tw
  show Kn o.op want σ (look σ.e t)=Kn o.op want σ' (look σ'.e t)
  rw[h.g t want hg]
  unfold Kn
  split
  ·rw[h.qe]
  ·rw[h.qe]
  ·rfl
theorem Y.HZ{o:aq}{v:AV}(hy:Y P σ o v)(h:F6 o σ σ'):Y P σ' o v:=by
 cases hy with
 |pure _ _ hq=>exact .pure o v (by rw[←h.qv];exact hq)
 |iT d x hi=>
  have hx:σ.x x=σ'.x x:=h.xs x (by simp[cE])
  rw[hx]at hi⊢
  exact .iT d x hi
 |call d f args as rs h1 h2 h3=>exact .call d f args as rs (by rw[←fG args (h.xg true)];exact h1) h2 (by rw[←h.s];exact h3)
 |Gl d f args t want g0 b rs h0 h2 h1=>
  refine .Gl d f args t want g0 b rs (by rw[←h.g t want rfl];exact h0) h2 fun hb=>?_
  obtain⟨as,q1,q2⟩:=h1 hb
  exact⟨as,by rw[←fG args (h.xg true)];exact q1,by rw[←h.s];exact q2⟩
 |eC d x args f as rs h1 hf h2 h3=>
  obtain⟨first,caps,xs,q1,q2,q3⟩:=h1
  exact .eC d x args f as rs ⟨first,caps,xs,by rw[←h.xg true x List.mem_cons_self];exact q1,by rw[←fG args fun y hy=>h.xg true y (List.mem_cons_of_mem _ hy)];exact q2,q3⟩ hf h2 (by rw[←h.s];exact h3)
 |AN d x args t want g0 b rs h0 h2 h1=>
  refine .AN d x args t want g0 b rs (by rw[←h.g t want rfl];exact h0) h2 fun hb=>?_
  obtain⟨f,as,⟨first,caps,xs,q1,q2,q3⟩,q4,q5⟩:=h1 hb
  exact⟨f,as,⟨first,caps,xs,by rw[←h.xg true x List.mem_cons_self];exact q1,by rw[←fG args fun y hy=>h.xg true y (List.mem_cons_of_mem _ hy)];exact q2,q3⟩,q4,by rw[←h.s];exact q5⟩
 |QM _ _ hq=>exact .QM o v (by rw[←h.BM];exact hq)
theorem Pd(o:aq)(i:Nat):look (dr o σ).e i=if gD o i=true then view (look σ.e i)else look σ.e i:=by
 unfold dr gD
 split
 ·rename_i x hop
  cases x with
  |c a=>simp only[hop];rfl
  |t j=>
   simp only[hop]
   show look ((j,view (look σ.e j))::σ.e) i=_
   rw[aP]
   by_cases hj:j=i
   ·subst hj;simp
   ·simp[hj]
 ·rename_i hop
  split
  ·rename_i j hop'
   exact absurd hop' (hop (.t j))
  ·simp
theorem gR(o:aq)(v:AV)(i:Nat):look (step σ o v).e i=if o.dst=some i then v else if gD o i=true then view (look σ.e i)else look σ.e i:=by
 unfold step
 rw[←Pd]
 cases hd:o.dst with
 |none=>simp[St.put,(hU (dr o σ) v none).1]
 |some d=>
  show look ((d,v)::(bV (dr o σ) v (some d)).e) i=_
  rw[aP,(hU (dr o σ) v (some d)).1]
  simp
theorem VP(o:aq):(dr o σ).s=σ.s∧(dr o σ).lp=σ.lp:=by
 unfold dr
 split
 ·rename_i x _
  cases x<;>exact⟨rfl,rfl⟩
 ·exact⟨rfl,rfl⟩
theorem sQ(o:aq)(v:AV):(step σ o v).s=σ.s:=by
 unfold step
 have:∀(τ:St)(d:Option Nat)(x:AV),(τ.put d x).s=τ.s:=fun τ d x=>by cases d<;>rfl
 rw[this,(hU (dr o σ) v o.dst).2.1,(VP o).1]
theorem ss(av:AV):bA (view av)=bA av:=by cases av<;>rfl
theorem BP(av:AV)(n off:Nat):ka n off (view av)=ka n off av:=by cases av<;>rfl
theorem iV{av:AV}(h:bA av=true)(n off:Nat):ka n off av=none:=by cases av<;>first|rfl|(simp[bA]at h)
theorem P1{o:aq}{v:AV}(hf:bB σ o.dst=true)(hv:bA v=true):∀p n,rd (step σ o v) p n=rd σ p n:=by
 intro p n
 cases p<;>try rfl
 ·rename_i b off
  show tK n off ((step σ o v).s b)=tK n off (σ.s b)
  rw[sQ]
 ·rename_i d off
  show ka n off (look (step σ o v).e d)=ka n off (look σ.e d)
  rw[gR]
  by_cases hd:o.dst=some d
  ·rw[if_pos hd,iV hv]
   rw[hd]at hf
   exact(iV hf n off).symm
  ·rw[if_neg hd]
   split
   ·exact BP ..
   ·rfl
theorem Ga{o y:aq}{v:AV}(hf:bB σ y.dst=true)(hv:bA v=true)(hn:ga y.dst (ch o)=true)(hdr:Nb y o=true):F6 o σ (step σ y v):=by
 have key:∀i,i∈ch o→look (step σ y v).e i=look σ.e i:=by
  intro i hi
  have h1:¬gD y i=true:=by
   have:=List.all_eq_true.1 hdr i hi
   simpa using this
  rw[gR,if_neg,if_neg h1]
  intro hd
  rw[hd]at hn
  simp[ga]at hn
  exact hn hi
 refine⟨fun x hx=>?_,fun t want hg=>?_,(sQ y v).symm,fun x _ g n=>(P1 hf hv _ n).symm⟩
 ·cases x with
  |c a=>rfl
  |t i=>exact(key i (List.mem_append_right _ (gw hx))).symm
 ·exact(key t (List.mem_append_left _ (by rw[hg];exact List.mem_cons_self))).symm
structure j5(σ σ':St):Prop where
 e:∀i,look σ.e i=look σ'.e i
 lp:∀x,x∈σ.lp↔x∈σ'.lp
 s:σ.s=σ'.s
theorem j5.refl(σ:St):j5 σ σ:=⟨fun _=>rfl,fun _=>Iff.rfl,rfl⟩
theorem j5.symm(h:j5 σ σ'):j5 σ' σ:=⟨fun i=>(h.e i).symm,fun x=>(h.lp x).symm,h.s.symm⟩
theorem j5.trans{σ₃:St}(h:j5 σ σ')(k:j5 σ' σ₃):j5 σ σ₃:=⟨fun i=>(h.e i).trans (k.e i),fun x=>(h.lp x).trans (k.lp x),h.s.trans k.s⟩
theorem j5.rd(h:j5 σ σ'):∀p n,AB.rd σ p n=AB.rd σ' p n:=by
 intro p n
 cases p<;>try rfl
 ·rename_i b off
  show tK n off (σ.s b)=tK n off (σ'.s b)
  rw[h.s]
 ·rename_i d off
  show ka n off (look σ.e d)=ka n off (look σ'.e d)
  rw[h.e]
theorem j5.HZ(h:j5 σ σ')(o:aq):F6 o σ σ':=⟨fun x _=>by cases x with
 |c a=>rfl
 |t i=>exact h.e i,fun t _ _=>h.e t,h.s,fun x _ g n=>h.rd _ n⟩
theorem j5.free(h:j5 σ σ')(d:Option Nat):bB σ d=bB σ' d:=by
 cases d with
 |none=>rfl
 |some d=>show bA (look σ.e d)=bA (look σ'.e d);rw[h.e]
theorem Bx:∀(v:AV)(d:Option Nat)(x:Nat×Nat),x∈(bV σ v d).lp↔(x∈σ.lp∨∃i,d=some i∧x.1=i∧bH v x.2)
 |.lp t off,some i,(x1,x2)=>by
  show(x1,x2)∈(i,t)::σ.lp↔_
  rw[List.mem_cons]
  constructor
  ·rintro(h|h)
   ·injection h with h1 h2;exact .inr ⟨i,rfl,h1,h2.symm⟩
   ·exact .inl h
  ·rintro(h|⟨j,h1,h2,h3⟩)
   ·exact .inr h
   ·injection h1 with h1
    have h3':t=x2:=h3
    have h2':x1=j:=h2
    subst h1;subst h2';subst h3'
    exact .inl rfl
 |.lp t off,none,x=>⟨fun h=>.inl h,fun h=>h.elim id fun⟨_,h1,_⟩=>by cases h1⟩
 |.when _ v,d,x=>Bx v d x
 |.undef,_,_|.bool _,_,_|.int _ _,_,_|.str _,_,_|.dG,_,_|.ref _ _,_,_|.sp _,_,_|.loc _,_,_|.sl _ _ _ _,_,_|.arr _ _ _ _,_,_|.agg _,_,_|.gu _,_,_|.fn _ _ _,_,_|.nj,_,_|.mp _,_,_|.sq,_,_|.us _ _ _,_,_|.one,_,_|.l1 _,_,_|.jX,_,_|.bb _ _ _,_,_=>⟨fun h=>.inl h,fun h=>h.elim id fun⟨_,_,_,h3⟩=>h3.elim⟩
theorem tC(o:aq)(v:AV)(x:Nat×Nat):x∈(step σ o v).lp↔(x∈σ.lp∨∃i,o.dst=some i∧x.1=i∧bH v x.2):=by
 have h1:(step σ o v).lp=(bV (dr o σ) v o.dst).lp:=by unfold step;cases o.dst<;>rfl
 rw[h1,←(VP (σ:=σ) o).2]
 exact Bx v o.dst x
theorem Inv.eqv(h:Inv G n D σ a w)(k:j5 σ σ'):Inv G n D σ' a w:=
 ⟨h.aO,by rw[←k.s];exact h.store,h.size,fun i v hv=>by
   rw[←k.e i]
   exact da.frame (fun _ _ hv=>hv) (fun b _=>⟨rfl,rfl,rfl⟩) (fun _ _ _ _ hc=>⟨hc,rfl,rfl⟩) _ _ (fun t _ cs hcs=>⟨cs,by rw[k.e];exact hcs,rfl⟩) (h.ch i v hv),
   fun i hi=>by rw[←k.e i];exact h.CG i hi,fun i t ht=>(k.lp _).1 (h.HR i t (by rw[k.e];exact ht)),h.qW⟩
theorem j5.step(h:j5 σ σ')(o:aq)(v:AV):j5 (AB.step σ o v) (AB.step σ' o v):=⟨fun i=>by rw[gR,gR,h.e],fun x=>by rw[tC,tC,h.lp],by rw[sQ,sQ,h.s]⟩
theorem LJ{x y:aq}{u v:AV}(hne:∀i j,x.dst=some i→y.dst=some j→i≠j)(hxy:∀i,y.dst=some i→gD x i=false)(hyx:∀i,x.dst=some i→gD y i=false):j5 (step (step σ x u) y v) (step (step σ y v) x u):=
 ⟨fun i=>by
   rw[gR,gR,gR,gR]
   by_cases h1:y.dst=some i
   ·by_cases h2:x.dst=some i
    ·exact absurd rfl (hne i i h2 h1)
    ·simp[h1,h2,hxy i h1]
   ·by_cases h2:x.dst=some i
    ·simp[h1,h2,hyx i h2]
    ·simp only[h1,h2,if_false]
     by_cases h3:gD x i=true<;>by_cases h4:gD y i=true<;>simp[h3,h4],fun z=>by
   rw[tC,tC,tC,tC]
   constructor
   ·rintro((h|h)|h)
    ·exact .inl (.inl h)
    ·exact .inr h
    ·exact .inl (.inr h)
   ·rintro((h|h)|h)
    ·exact .inl (.inl h)
    ·exact .inr h
    ·exact .inl (.inr h),by rw[sQ,sQ,sQ,sQ]⟩
end
end Go.AB
end
section
namespace Go.AB
open Go
section
variable{P:Program}{G G':Gh}{n:Nat}{D:List Deferred}{σ σ':St}{a:Act}{w w':World}
theorem Inv.tD{d:Option Nat}{av:AV}(h:Inv G n D (σ.put d (.gu [])) a w)(hd:ba n d=true)(hnl:∀t,¬bH av t):Inv G n D (σ.put d (.when false av)) a w:=by
 cases d with
 |none=>exact h
 |some i=>
  have hi:i<n:=by simpa[ba]using hd
  have e1:look (σ.put (some i) (.gu [])).e i=.gu []:=by simp[St.put,aP]
  have:=h.Kr i hi (.when false av) hnl (fun cs e=>by cases e) (fun v hv=>by
   have hs:=h.ch i v hv
   rw[e1]at hs
   obtain⟨ys,rfl,h2⟩:=hs
   refine⟨fun hh=>Bool.noConfusion hh,fun _=>?_⟩
   have:ys= #[]:=Array.eq_empty_of_size_eq_zero (by simpa using h2.1)
   rw[this])
  refine this.eqv ⟨fun j=>?_,fun _=>Iff.rfl,rfl⟩
  simp only[St.put,aP]
  split<;>rfl
theorem tv{rs:List AV}(h:iO rs=true)(t:Nat):¬bH (eR rs) t:=by
 match rs,h with
 |[],_=>exact fun h=>h
 |[r],h=>exact B7 h t
 |_::_::_,_=>exact fun h=>h
theorem NG{op:rh}{d:Option Nat}{v:AV}{K:St→Prop}(h:qe (xg true σ) σ.s op=.c8 v∨∃c,qe (xg true σ) σ.s op=.prt c v∧c)(hk:K (σ.put d v)):gH P op d σ K:=by
 cases op<;>first|(rcases h with h|⟨c,h,_⟩<;>cases h;done)|skip
 case hE x=>
  show oE σ d K (xg true σ x)
  have h':td (xg true σ x)=.c8 v∨∃c,td (xg true σ x)=.prt c v∧c:=h
  cases hx:xg true σ x<;>rw[hx]at h'<;>first|(rcases h' with h'|⟨c,h',_⟩<;>cases h';done)|skip
  rcases h' with h'|⟨c,h',_⟩
  ·injection h' with h';subst h';exact hk
  ·cases h'
 case lookup kk z ok x k=>
  show Jn σ d K (iw kk z ok σ.s (xg true σ k) (xg true σ x))
  have h':iw kk z ok σ.s (xg true σ k) (xg true σ x)=.c8 v∨∃c,iw kk z ok σ.s (xg true σ k) (xg true σ x)=.prt c v∧c:=h
  rcases h' with h'|⟨c,h',hc⟩<;>rw[h']
  ·exact hk
  ·exact⟨hc,hk⟩
 case re x=>
  show Jn σ d K (yn (xg true σ x))
  have h':yn (xg true σ x)=.c8 v∨∃c,yn (xg true σ x)=.prt c v∧c:=h
  rcases h' with h'|⟨c,h',hc⟩<;>rw[h']
  ·exact hk
  ·exact⟨hc,hk⟩
 case ji x=>
  show Jn σ d K (zz (xg true σ x))
  have h':zz (xg true σ x)=.c8 v∨∃c,zz (xg true σ x)=.prt c v∧c:=h
  rcases h' with h'|⟨c,h',hc⟩<;>rw[h']
  ·exact hk
  ·exact⟨hc,hk⟩
 case b5 sz m z ps=>
  show vG sz m σ d K (fill (xg true σ) z ps)
  have h':B6 sz m (fill (xg true σ) z ps)=.c8 v∨∃c,B6 sz m (fill (xg true σ) z ps)=.prt c v∧c:=h
  cases hx:fill (xg true σ) z ps<;>rw[hx]at h'
  ·rcases h' with h'|⟨c,h',_⟩<;>cases h'
  ·rcases h' with h'|⟨c,h',hc⟩
   ·cases h'
   ·injection h' with h1 h2;subst h1;subst h2;exact⟨hc,hk⟩
theorem Y.run(h:Inv G n D σ a w){ops:Array Oper}{o:Oper}{o':aq}{v:AV}(hc:gB P n ops o o'=true)(hy:Y P σ o' v){next:Act→World→Prop}{Q:Exit→Act→World→Prop}
 (hn:∀G' a' w',Inv G' n D (step σ o' v) a' w'→aG G w G' w'→next a' w'):wP P ops o a w next Q:=by
 have gen:HQ P o' σ (fun τ=>τ=step σ o' v)→wP P ops o a w next Q:=fun hg=>gl h hc hg fun G' σ' a' w' h1 h2 h3=>by subst h3;exact hn G' a' w' h1 h2
 cases hy with
 |iT d x hi=>
  refine gen ?_
  show M6 σ x d (fun τ=>τ=step σ ⟨d,.iT true x,none⟩ (σ.x x)) (σ.x x)
  refine⟨hi,?_⟩
  show _=(bV (σ.drain x) (σ.x x) d).put d (σ.x x)
  rw[GN hi]
 |pure _ _ hq=>
  have hdr:dr o' σ=σ:=Mv (by rcases hq with hq|⟨c,hq,_⟩<;>rw[hq]<;>simp)
  have c6:step σ o' v=(bV σ v o'.dst).put o'.dst v:=by unfold step;rw[hdr]
  rw[c6]at hn gen
  obtain⟨d,op,g⟩:=o'
  cases g with
  |none=>
   refine gen ?_
   show Oo P op σ d (fun τ=>τ=(bV σ v d).put d v) (pv op (xg true σ) σ)
   have hq':(pv op (xg true σ) σ=.c8 v∨∃c,pv op (xg true σ) σ=.prt c v∧c):=hq
   rcases hq' with hq|⟨c,hq,hcc⟩
   ·rw[hq];rfl
   ·rw[hq];exact⟨hcc,rfl⟩
  |some tw=>
   obtain⟨t,want⟩:=tw
   have hq':(Ht op want σ (look σ.e t)=.c8 v∨∃c,Ht op want σ (look σ.e t)=.prt c v∧c):=hq
   rcases Tt (o:=op) (want:=want) (σ:=σ) (a:=look σ.e t)with⟨g0,b,hg0,hl⟩|hl<;>rw[hl]at hq'
   case inr=>rcases hq' with hq|⟨c,hq,_⟩<;>cases hq
   have hgs:=fun K=>Ah (P:=P) (o:=op) (d:=d) (t:=t) (want:=want) (σ:=σ) (K:=K) hg0
   generalize(g0&&(b==want))=gg at hq' hgs
   have hq2:(LY (Tx op) gg (pv op (xg gg σ) σ)=.c8 v∨∃c,LY (Tx op) gg (pv op (xg gg σ) σ)=.prt c v∧c):=hq'
   cases hp:pv op (xg gg σ) σ with
   |c8 x=>
    refine gen ?_
    show xE P op d t want σ _ (look σ.e t)
    rw[hgs]
    show LX P gg op σ d (fun τ=>τ=(bV σ v d).put d v) (pv op (xg gg σ) σ)
    rw[hp]
    rw[hp]at hq2
    rcases hq2 with hq|⟨c,hq,_⟩
    ·injection hq with hq;subst hq;rfl
    ·cases hq
   |prt c x=>
    refine gen ?_
    show xE P op d t want σ _ (look σ.e t)
    rw[hgs]
    show LX P gg op σ d (fun τ=>τ=(bV σ v d).put d v) (pv op (xg gg σ) σ)
    rw[hp]
    rw[hp]at hq2
    rcases hq2 with hq|⟨c',hq,hcc⟩
    ·cases hq
    ·injection hq with hq1 hq2;subst hq1;subst hq2;exact⟨hcc,rfl⟩
   |no=>
    rw[hp]at hq2
    cases hr:Tx op with
    |false=>
     rw[hr]at hq2
     have hq3:(PR.no=.c8 v∨∃c,PR.no=.prt c v∧c):=hq2
     rcases hq3 with hq|⟨c',hq,_⟩<;>cases hq
    |true=>
     rw[hr]at hq2
     have hq3:(PR.prt (gg=false) (.when gg .undef)=.c8 v∨∃c,PR.prt (gg=false) (.when gg .undef)=.prt c v∧c):=hq2
     rcases hq3 with hq|⟨c',hq,hcc⟩
     ·cases hq
     injection hq with hq1 hq2
     subst hq1;subst hq2
     have hd:ba n d=true:=by
      simp only[gB,Bool.and_eq_true]at hc
      exact hc.1.1.2
     refine gl (K:=fun τ=>τ=σ.put d (.gu [])) h hc ?_ fun G' σ' a' w' k1 k2 k3=>?_
     ·show xE P op d t want σ (fun τ=>τ=σ.put d (.gu [])) (look σ.e t)
      rw[hgs]
      show LX P gg op σ d (fun τ=>τ=σ.put d (.gu [])) (pv op (xg gg σ) σ)
      rw[hp]
      exact⟨fun hb=>absurd (hb.symm.trans hcc) (by decide),fun _=>rfl⟩
     ·subst k3
      have e:(bV σ (.when gg .undef) d).put d (.when gg .undef)=σ.put d (.when false .undef):=by
       rw[hcc]
       have:bV σ (.when false .undef) d=σ:=by cases d<;>rfl
       show(bV σ (.when false .undef) d).put d _=_
       rw[this]
      have hn':=hn
      simp only at hn'
      rw[e]at hn'
      exact hn' G' a' w' (k1.tD hd (fun _ h=>h)) k2
 |call d f args as rs h1 h2 h3=>
  refine gen ?_
  show rv P f σ d _ (cc (xg true σ) args)
  rw[h1]
  refine FE.app h3 ⟨h2,?_⟩
  show _=(bV σ (eR rs) d).put d (eR rs)
  rw[nR h2]
 |Gl d f args t want g0 b rs h0 h2 h1=>
  have hd:ba n d=true:=by
   simp only[gB,Bool.and_eq_true]at hc
   exact hc.1.1.2
  have c6:step σ ⟨d,.call f args,some (t,want)⟩ (.when (g0&&(b==want)) (eR rs))=σ.put d (.when (g0&&(b==want)) (eR rs)):=by
   show(bV σ (.when (g0&&(b==want)) (eR rs)) d).put d (.when (g0&&(b==want)) (eR rs))=_
   have:bV σ (.when (g0&&(b==want)) (eR rs)) d=σ:=nR h2 σ d
   rw[this]
  rw[c6]at hn
  refine gl (K:=fun τ=>((g0&&(b==want))=true∧τ=σ.put d (eR rs))∨((g0&&(b==want))=false∧τ=σ.put d (.gu []))) h hc ?_ fun G' σ' a' w' k1 k2 k3=>?_
  ·show xE P (.call f args) d t want σ _ (look σ.e t)
   rw[Ah h0]
   refine⟨fun hb=>?_,fun hb=>.inr ⟨hb,rfl⟩⟩
   obtain⟨as,q1,q2⟩:=h1 hb
   show rv P f σ d _ (cc (xg true σ) args)
   rw[q1]
   exact FE.app q2 ⟨h2,.inl ⟨hb,rfl⟩⟩
  ·rcases k3 with⟨hb,rfl⟩|⟨hb,rfl⟩
   ·rw[hb]at hn;exact hn G' a' w' (k1.sV hd) k2
   ·rw[hb]at hn;exact hn G' a' w' (k1.tD hd (tv h2)) k2
 |eC d x args f as rs h1 hf h2 h3=>
  obtain⟨first,caps,xs,q1,q2,rfl⟩:=h1
  refine gen ?_
  show uL P σ (cc (xg true σ) args) d _ (xg true σ x)
  rw[q1,q2]
  refine⟨hf,FE.app h3 ⟨h2,?_⟩⟩
  show _=(bV σ (eR rs) d).put d (eR rs)
  rw[nR h2]
 |AN d x args t want g0 b rs h0 h2 h1=>
  have hd:ba n d=true:=by
   simp only[gB,Bool.and_eq_true]at hc
   exact hc.1.1.2
  have c6:step σ ⟨d,.eC x args,some (t,want)⟩ (.when (g0&&(b==want)) (eR rs))=σ.put d (.when (g0&&(b==want)) (eR rs)):=by
   show(bV σ (.when (g0&&(b==want)) (eR rs)) d).put d (.when (g0&&(b==want)) (eR rs))=_
   have:bV σ (.when (g0&&(b==want)) (eR rs)) d=σ:=nR h2 σ d
   rw[this]
  rw[c6]at hn
  refine gl (K:=fun τ=>((g0&&(b==want))=true∧τ=σ.put d (eR rs))∨((g0&&(b==want))=false∧τ=σ.put d (.gu []))) h hc ?_ fun G' σ' a' w' k1 k2 k3=>?_
  ·show xE P (.eC x args) d t want σ _ (look σ.e t)
   rw[Ah h0]
   refine⟨fun hb=>?_,fun hb=>.inr ⟨hb,rfl⟩⟩
   obtain⟨f,as,⟨first,caps,xs,q1,q2,rfl⟩,q4,q5⟩:=h1 hb
   show uL P σ (cc (xg true σ) args) d _ (xg true σ x)
   rw[q1,q2]
   exact⟨q4,FE.app q5 ⟨h2,.inl ⟨hb,rfl⟩⟩⟩
  ·rcases k3 with⟨hb,rfl⟩|⟨hb,rfl⟩
   ·rw[hb]at hn;exact hn G' a' w' (k1.sV hd) k2
   ·rw[hb]at hn;exact hn G' a' w' (k1.tD hd (tv h2)) k2
 |QM _ _ hq=>
  obtain⟨_,hnl,hlp,hdr⟩:=NF hq
  have c6:step σ o' v=σ.put o'.dst v:=by unfold step;rw[hdr,hlp]
  obtain⟨d,op,g⟩:=o'
  cases g with
  |none=>
   refine gen ?_
   have hq':qe (xg true σ) σ.s op=.c8 v∨∃c,qe (xg true σ) σ.s op=.prt c v∧c:=hq
   show Oo P op σ d (fun τ=>τ=step σ ⟨d,op,none⟩ v) (pv op (xg true σ) σ)
   rw[(BN (hq'.imp id fun⟨c,h,_⟩=>⟨c,h⟩)).2.1]
   exact NG hq' c6.symm
  |some tw=>
   obtain⟨t,want⟩:=tw
   have hd:ba n d=true:=by
    simp only[gB,Bool.and_eq_true]at hc
    exact hc.1.1.2
   have hq':Kn op want σ (look σ.e t)=.c8 v∨∃c,Kn op want σ (look σ.e t)=.prt c v∧c:=hq
   rcases ND (o:=op) (want:=want) (σ:=σ) (a:=look σ.e t)with⟨g0,b,hg0,hl⟩|hl<;>rw[hl]at hq'
   case inr=>rcases hq' with h'|⟨c,h',_⟩<;>cases h'
   have hgs:=fun K=>Ah (P:=P) (o:=op) (d:=d) (t:=t) (want:=want) (σ:=σ) (K:=K) hg0
   generalize(g0&&(b==want))=gg at hq' hgs
   obtain⟨u,hu,hv⟩:∃u,(gg=true→(qe (xg true σ) σ.s op=.c8 u∨∃c,qe (xg true σ) σ.s op=.prt c u∧c))∧v=.when gg u:=by
    have h2:HT gg (qe (xg gg σ) σ.s op)=.c8 v∨∃c,HT gg (qe (xg gg σ) σ.s op)=.prt c v∧c:=hq'
    cases hq2:qe (xg gg σ) σ.s op with
    |c8 u=>
     rw[hq2]at h2
     refine⟨u,fun hb=>?_,?_⟩
     ·rw[hb]at hq2;exact .inl hq2
     ·rcases h2 with h2|⟨c,h2,_⟩
      ·injection h2 with h2;exact h2.symm
      ·cases h2
    |prt c u=>
     rw[hq2]at h2
     rcases h2 with h2|⟨c',h2,hc'⟩
     ·cases h2
     ·injection h2 with h3 h4
      refine⟨u,fun hb=>?_,h4.symm⟩
      rw[hb]at hq2
      subst h3
      exact .inr ⟨c,hq2,hc' hb⟩
    |no=>rw[hq2]at h2;rcases h2 with h2|⟨c,h2,_⟩<;>cases h2
   subst hv
   have hpn:∀f τ,pv op f τ=.no:=by
    intro f τ
    have h2:HT gg (qe (xg gg σ) σ.s op)=.c8 _∨∃c,HT gg (qe (xg gg σ) σ.s op)=.prt c _∧c:=hq'
    cases op<;>first|rfl|(rcases h2 with h2|⟨c,h2,_⟩<;>cases h2)
   rw[c6]at hn
   refine gl (K:=fun τ=>(gg=true∧τ=σ.put d u)∨(gg=false∧τ=σ.put d (.gu []))) h hc ?_ fun G' σ' a' w' k1 k2 k3=>?_
   ·show xE P op d t want σ _ (look σ.e t)
    rw[hgs,hpn]
    unfold LX
    refine⟨fun hb=>?_,fun hb=>.inr ⟨hb,rfl⟩⟩
    show Oo P op σ d _ (pv op (xg true σ) σ)
    rw[hpn]
    exact NG (hu hb) (.inl ⟨hb,rfl⟩)
   ·rcases k3 with⟨hb,rfl⟩|⟨hb,rfl⟩
    ·rw[hb]at hn;exact hn G' a' w' (k1.sV hd) k2
    ·rw[hb]at hn;exact hn G' a' w' (k1.tD hd fun t ht=>hnl t ht) k2
theorem Ko{ops:Array Oper}{Q:Exit→Act→World→Prop}{K:St→Prop}(G₀:Gh)(w₀:World)
 (hn:∀G' σ' a' w',Inv G' n D σ' a' w'→aG G₀ w₀ G' w'→K σ'→Q .normal a' w'):∀(q:Nat)(l:List Oper)(l':List aq)(G:Gh)(σ:St)(a:Act)(w:World),cd P n ops l l'=true→Inv G n D σ a w→aG G₀ w₀ G w→Ov P q l' σ K→wpList P ops Q l a w
 |0,l,l',G,σ,a,w,hc,h,hp,hk=>pz G₀ w₀ hn l l' G σ a w hc h hp hk
 |_+1,[],[],G,σ,a,w,_,h,hp,hk=>hn G σ a w h hp hk
 |q+1,o::l,o'::l',G,σ,a,w,hc,h,hp,hk=>by
  simp only[cd,Bool.and_eq_true]at hc
  obtain⟨hf,hk⟩:=hk
  obtain⟨v,hv,hy,hk⟩:=Js hk
  show wP P ops o a w (wpList P ops Q l) Q
  exact hy.run h hc.1 fun G' a' w' h1 h2=>Ko G₀ w₀ hn q l l' G' _ a' w' hc.2 h1 (hp.trans h2) hk
 |_+1,[],_::_,_,_,_,_,hc,_,_,_=>by simp[cd]at hc
 |_+1,_::_,[],_,_,_,_,hc,_,_,_=>by simp[cd]at hc
abbrev ri:=List (Nat×aq×AV)
def vz(P:Program):St→ri→Prop
 |_,[]=>True
 |σ,(_,o,v)::r=>bB σ o.dst=true∧bA v=true∧Y P σ o v∧vz P (step σ o v) r
def fin:St→ri→St
 |σ,[]=>σ
 |σ,(_,o,v)::r=>fin (step σ o v) r
theorem vz.eqv:∀{p:ri}{σ σ':St},j5 σ σ'→vz P σ p→vz P σ' p
 |[],_,_,_,_=>trivial
 |(_,o,v)::r,_,_,h,⟨h1,h2,h3,h4⟩=>⟨by rw[←h.free];exact h1,h2,h3.HZ (h.HZ o),vz.eqv (h.step o v) h4⟩
theorem JZ:∀(p:ri){σ σ':St},j5 σ σ'→j5 (fin σ p) (fin σ' p)
 |[],_,_,h=>h
 |(_,o,v)::r,_,_,h=>JZ r (h.step o v)
theorem tM{o:aq}{i:Nat}(h:gD o i=true):i∈ch o:=by
 unfold gD at h
 split at h
 ·rename_i j hop
  have:j=i:=by simpa using h
  subst this
  refine List.mem_append_right _ ?_
  rw[hop]
  exact List.mem_cons_self
 ·cases h
theorem OB{x y:aq}(h:ap x y=true):ga x.dst (ch y)=true∧ga y.dst (ch x)=true∧(∀i j,x.dst=some i→y.dst=some j→i≠j)∧Nb x y=true∧Nb y x=true∧(∀i,y.dst=some i→gD x i=false)∧(∀i,x.dst=some i→gD y i=false):=by
 unfold ap at h
 simp only[Bool.and_eq_true]at h
 refine⟨h.1.1.2,h.1.2,fun i j hi hj=>?_,h.1.1.1.1,h.1.1.1.2,fun i hi=>?_,fun i hi=>?_⟩
 ·have:=h.2
  rw[hi,hj]at this
  simpa using this
 ·have:=h.1.2
  rw[hi]at this
  simp[ga]at this
  cases hd:gD x i with
  |false=>rfl
  |true=>exact absurd (tM hd) this
 ·have:=h.1.1.2
  rw[hi]at this
  simp[ga]at this
  cases hd:gD y i with
  |false=>rfl
  |true=>exact absurd (tM hd) this
theorem pull{x:Nat×aq×AV}:∀(pre:ri)(post:ri)(σ:St),(∀y∈pre,ap y.2.1 x.2.1=true)→vz P σ (pre++x::post)→
 bB σ x.2.1.dst=true∧bA x.2.2=true∧Y P σ x.2.1 x.2.2∧vz P (step σ x.2.1 x.2.2) (pre++post)∧j5 (fin (step σ x.2.1 x.2.2) (pre++post)) (fin σ (pre++x::post))
 |[],post,σ,_,h=>⟨h.1,h.2.1,h.2.2.1,h.2.2.2,j5.refl _⟩
 |(k,o,v)::pre,post,σ,hap,h=>by
  obtain⟨h1,h2,h3,h4⟩:=h
  obtain⟨i1,i2,i3,i4,i5⟩:=pull pre post (step σ o v) (fun y hy=>hap y (List.mem_cons_of_mem _ hy)) h4
  obtain⟨a1,a2,a3,a4,a5,a6,a7⟩:=OB (hap (k,o,v) List.mem_cons_self)
  have hfx:bB σ x.2.1.dst=true:=by
   cases hd:x.2.1.dst with
   |none=>rfl
   |some j=>
    rw[hd]at i1
    have i1':bA (look (step σ o v).e j)=true:=i1
    rw[gR,if_neg (fun e=>a3 j j e hd rfl)]at i1'
    show bA (look σ.e j)=true
    split at i1'
    ·rw[ss]at i1';exact i1'
    ·exact i1'
  have hfo:bB (step σ x.2.1 x.2.2) o.dst=true:=by
   cases hd:o.dst with
   |none=>rfl
   |some j=>
    rw[hd]at h1
    show bA (look (step σ x.2.1 x.2.2).e j)=true
    rw[gR,if_neg (fun e=>a3 j j hd e rfl)]
    split
    ·rw[ss];exact h1
    ·exact h1
  have hcomm:j5 (step (step σ o v) x.2.1 x.2.2) (step (step σ x.2.1 x.2.2) o v):=LJ a3 a6 a7
  refine⟨hfx,i2,i3.HZ (Ga h1 h2 a1 a4).symm,⟨hfo,h2,h3.HZ (Ga hfx i2 a2 a5),i4.eqv hcomm⟩,?_⟩
  exact(JZ (pre++post) hcomm.symm).trans i5
end
end Go.AB
end
