/- A part. -/
import Derived.Test.YtplacgnfinmfbaaGreatDoorFr4
set_option linter.defProp false
set_option linter.unusedSimpArgs false
set_option linter.unusedVariables false
section
namespace Go.AB
open Go
structure kT where
 t:Nat
 own:Bool
 cell:Option (Nat×Bool):=none
 deriving Inhabited
def Qy(multi:Bool):Option (List AV)->AV
 |some cs=>od multi cs
 |none=>.undef
def tS(σ:St)(r:kT):AV:=match r.cell with
 |none=>bif r.own then look σ.e r.t else view (look σ.e r.t)
 |some (n,multi)=>Qy multi (rd σ (look σ.e r.t) n)
def lA(σ:St)(res:List kT):List AV:=res.map (tS σ)
def kl(P:Program):List ResultVar->List kT->Bool
 |[],[]=>true
 |.tmp t::r,i::s=>t==i.t&&i.cell.isNone&&(!i.own||s.all fun j=>!(j.own&&j.t==i.t))&&kl P r s
 |.cell t ty::r,i::s=>t==i.t&&!i.own&&(match i.cell with
  |some (n,multi)=>eM P ty n&&sH P ty multi&&(multi||n==1)
  |none=>false)&&kl P r s
 |_,_=>false
def sc:Nat->List AV->List (Nat×AV)
 |_,[]=>[]
 |i,a::r=>(i,view a)::sc (i+1) r
def start(args:List AV)(s:ae):St:={e:=sc 0 args,lp:=[],s:=s}
def rl(cs:List AV):Bool:=cs.all ee
def yn(res:List kT)(Q:List AV->ae->Prop):Exit->St->Prop
 |.ret,σ=>rl (lA σ res)=true/\Q (lA σ res) σ.s
 |.normal,σ=>rl (lA σ res)=true/\Q (lA σ res) σ.s
 |_,_=>False
def m5(P:Program)(f:FuncId)(n:Nat)(res:List kT)(ic:IC):Bool:=match P.funcs[f]? with
 |some fn=>fn.ntmps==n&&kl P fn.results.toList res&&(match fn.body with
  |some c=>mr P n c ic
  |none=>false)
 |none=>false
section
variable{P:Program}{G G':Gh}{n:Nat}{D:List Deferred}{σ:St}{a:Act}{w w':World}
theorem py(i:Nat):∀(args:List AV)(k:Nat),look (sc k args) i=if k<=i then(match args[i -k]? with|some a=>view a|none=>.undef)else .undef
 |[],k=>by
  show AV.undef=_
  grind
 |a::r,k=>by
  show look ((k,view a)::sc (k+1) r) i=_
  rw[bA,py i r (k+1)]
  grind
def qR{args:List AV}{s:ae}{vs:Array Value}(hg:cS G w)(hs:bB G w s)(ha:vp w G.R args vs)(hv:rl args=true)(hn:args.length<=n):
 Inv G n [] (start args s) {tmps:=vs++Array.replicate (n -vs.size) undef,defers:=[]} w:=by
 have hsz:vs.size=args.length:=ha.1
 refine⟨hg,hs,By,fun i v hi=>?_,fun i hi=>?_,fun i t ht=>?_,rfl⟩
 ·show dT G w (sc 0 args) _ i (look (sc 0 args) i) v
  rw[py,if_pos (Nat.zero_le _),Nat.sub_zero]
  cases hai:args[i]? with
  |none=>exact⟨.undef _,trivial⟩
  |some av=>
   have hlt:i<args.length:=(List.getElem?_eq_some_iff.1 hai).1
   have hvi:vs[i]? =some v:=by
    have hi':(vs++Array.replicate (n -vs.size) undef)[i]? =some v:=hi
    rw[Array.getElem?_append_left AT]at hi'
    exact hi'
   have hV:ee av=true:=by
    have:=List.all_eq_true.1 hv
    exact this av (List.mem_of_getElem? hai)
   exact dT.xS hV (ha.2 i av v hai hvi)
 ·show look (sc 0 args) i=.undef
  rw[py,if_pos (Nat.zero_le _),Nat.sub_zero,List.getElem?_eq_none AT]
 ·have ht':bS (look (sc 0 args) i) t:=ht
  rw[py,if_pos (Nat.zero_le _),Nat.sub_zero]at ht'
  cases hai:args[i]? with
  |none=>rw[hai]at ht';exact ht'.elim
  |some av=>
   rw[hai]at ht'
   have hV:ee av=true:=List.all_eq_true.1 hv av (List.mem_of_getElem? hai)
   grind [fA,lZ]
def Fo:List kT->Nat->Nat->Option Nat
 |[],_,_=>none
 |r::s,k,i=>bif r.own&&r.t==i then some k else Fo s (k+1) i
def CF(G:Gh)(res:List kT):dp->dp
 |.none=>.none
 |.frame=>.frame
 |.sh=>.sh
 |.slot i j=>(match j,Fo res 0 i with
  |0,some k=>.res k
  |_,_=>.none)
 |.cell b j=>if G.O b=.sh then .cell b j else .none
 |_=>.none
theorem Fp:∀(vs:List ResultVar)(res:List kT),kl P vs res=true->vs.length=res.length
 |[],[],_=>rfl
 |v::vs,r::res,h=>by
  have:kl P vs res=true:=by cases v<;>simp only[kl,Bool.and_eq_true]at h<;>exact h.2
  simp[Fp vs res this]
 |[],_::_,h=>by simp[kl]at h
 |_::_,[],h=>by simp[kl]at h
theorem wJ:∀(vs:List ResultVar)(res:List kT)(k j:Nat)(r:kT),kl P vs res=true->res[j]? =some r->r.own=true->Fo res k r.t=some (k+j)
 |v::vs,r0::res,k,0,r,_,hj,ho=>by grind [Fo]
 |v::vs,r0::res,k,j+1,r,h,hj,ho=>by
  have hj':res[j]? =some r:=by simpa using hj
  have aaS:kl P vs res=true:=by cases v<;>simp only[kl,Bool.and_eq_true]at h<;>exact h.2
  have hne:(r0.own&&r0.t==r.t)=false:=by
   cases hr0:r0.own with
   |false=>rfl
   |true=>
    cases v with
    |cell=>grind [kl]
    |tmp t=>
    simp only[kl,Bool.and_eq_true]at h
    grind
  show(bif r0.own&&r0.t==r.t then some k else Fo res (k+1) r.t)=_
  rw[hne]
  show Fo res (k+1) r.t=_
  rw[wJ vs res (k+1) j r aaS hj' ho]
  grind
 |[],r0::res,_,_,_,h,_,_=>by simp[kl]at h
 |_,[],_,_,_,_,hj,_=>T_
def dT.Te{G:Gh}{w:World}{e:List (Nat×AV)}{tmps:Array Value}{i:Nat}{a:AV}{v:Value}(h:ee a=true\/ee (view a)=true):dT G w e tmps i a v->(VR w G.R a v/\ew G w (.slot i 0) a v):=by cases a<;>simp_all [ee,view,dT]
def Jo(vs:Array Value):Value:=if h:vs.size=1 then vs[0]else .tuple vs
theorem mapM_some{α β:Type}(f:α->Sem β)(w:World):∀(l:List α)(vs:List β),l.length=vs.length->(∀(j:Nat)(x:α)(v:β),l[j]? =some x->vs[j]? =some v->(f x).run P w=.ok v w)->(l.mapM f).run P w=.ok vs w
 |[],[],_,_=>by simp
 |x::l,v::vs,hl,h=>by
  rw[List.mapM_cons]
  simp[h 0 x v rfl rfl,mapM_some f w l vs A_ (fun j y z hy hz=>h (j+1) y z A_ A_)]
 |[],_::_,hl,_=>by simp at hl
 |_::_,[],hl,_=>by simp at hl
def zd(tmps:Array Value):ResultVar->Sem Value
 |.tmp t=>pure (tmps.getD t undef)
 |.cell a t=>do loadVar t (<-asAddr (tmps.getD a undef))
def Jp{fn:Func}(tmps:Array Value)(w:World)(vs:List Value)(hl:fn.results.toList.length=vs.length)(h:∀(j:Nat)(x:ResultVar)(v:Value),fn.results.toList[j]? =some x->vs[j]? =some v->(zd tmps x).run P w=.ok v w):
 (results fn tmps).run P w=.ok (Jo vs.toArray) w:=by
 have e:(fn.results.toList.mapM (zd tmps)).run P w=.ok vs w:=mapM_some _ w _ _ hl h
 unfold results
 rw[Array.mapM_eq_mapM_toList]
 have key:∀F:ResultVar->Sem Value,F=zd tmps->(do let vs<-List.toArray<$>fn.results.toList.mapM F;pure (if h:vs.size=1 then vs[0]else .tuple vs):Sem Value).run P w=.ok (Jo vs.toArray) w:=by
  intro F hF
  subst hF
  simp only[Sem.run_bind,Sem.run_map,e,Result.andThen_ok]
  rfl
 exact key _ Xd3
def Bo{fn:Func}{res:List kT}{Q:List AV->ae->Prop}{E':St}{a':Act}(kC:kl P fn.results.toList res=true)(h:Inv G' n D E' a' w')(hp:aR G w G' w')(dY:rl (lA E' res)=true)(hQ:Q (lA E' res) E'.s):
 ∃v,(results fn a'.tmps).run P w'=.ok v w'/\∃v' rs s' G'',Ending.returned v=.returned v'/\Q rs s'/\cS G'' w'/\bB G'' w' s'/\ri G'' w' rs v'/\aR G w G'' w':=by
 let G2:Gh:=⟨G'.R,fun b=>CF G' res (G'.O b)⟩
 have hV:∀(j:Nat)(r:kT),res[j]? =some r->ee (tS E' r)=true:=fun j r hj=>by
  refine List.all_eq_true.1 dY _ ?_
  exact List.mem_map.2 ⟨r,List.mem_of_getElem? hj,rfl⟩
 have hlen:=Fp _ _ kC
 have get:∀(vs:List ResultVar)(rs:List kT),kl P vs rs=true->∀(j:Nat)(x:ResultVar)(r:kT),vs[j]? =some x->rs[j]? =some r->
  (x=.tmp r.t/\r.cell=none)\/∃ty n m,x=.cell r.t ty/\r.cell=some (n,m)/\r.own=false/\eM P ty n=true/\sH P ty m=true/\(m||n==1)=true:=by
  intro vs
  induction vs with
  |nil=>grind
  |cons v vs ih=>
   intro rs hh j x r hx hr
   cases rs with
   |nil=>simp at hr
   |cons r0 rs=>
    cases j with
    |succ j=>
     refine ih rs ?_ j x r A_ A_
     cases v<;>simp only[kl,Bool.and_eq_true]at hh<;>exact hh.2
    |zero=>
     simp at hx hr;subst hx;subst hr
     cases v with
     |tmp t=>
      simp only[kl,Bool.and_eq_true,beq_iff_eq]at hh
      simp_all
     |cell t ty=>
      simp only[kl,Bool.and_eq_true,beq_iff_eq]at hh
      grind
 have Kj:∀(j:Nat)(x:ResultVar)(r:kT),fn.results.toList[j]? =some x->res[j]? =some r->∃v,(zd a'.tmps x).run P w'=.ok v w'/\VR w' G2.R (tS E' r) v/\ew G2 w' (.res j) (tS E' r) v:=by
  intro j x r hx hj
  have hi:=hV j r hj
  have hlk:look E'.e r.t≠.undef:=by
   intro e
   unfold tS at hi
   rw[e]at hi
   cases hr:r.cell with
   |none=>
    rw[hr]at hi
    cases ho:r.own with
    |true=>rw[ho]at hi;cases hi
    |false=>rw[ho]at hi;cases hi
   |some nm=>rw[hr]at hi;obtain⟨n1,m1⟩:=nm;cases hi
  have hlt:r.t<a'.tmps.size:=by rw[h.size];exact h.Cy hlk
  rcases get _ _ kC j x r hx hj with⟨rfl,gl⟩|⟨ty,n1,m1,rfl,gl,ho,hs1,ha1,h11⟩
  ·refine⟨a'.tmps.getD r.t undef,rfl,?_⟩
   have hi':ee (look E'.e r.t)=true\/ee (view (look E'.e r.t))=true:=by
    unfold tS at hi
    rw[gl]at hi
    cases hr:r.own with
    |true=>grind
    |false=>grind
   have hs:=h.da r.t _ (gB hlt)
   replace hs:=dT.Te hi' hs
   have he:a'.eval (.tmp r.t)=a'.tmps.getD r.t undef:=rfl
   rw[he]at hs
   unfold tS
   rw[gl]
   cases hr:r.own with
   |false=>exact⟨hs.1.view,ew.view ..⟩
   |true=>
    refine⟨hs.1,?_⟩
    have ho:=hs.2
    show ew G2 w' (.res j) (look E'.e r.t) _
    unfold ew at ho⊢
    split
    ·rename_i sz m cs hsl
     rw[hsl]at ho
     intro base m' cap hv hc
     obtain⟨b,off,c,e,fz,q1,q2,q3⟩:=ho base m' cap hv hc
     refine⟨b,off,c,e,fz,q1,?_,q3⟩
     show CF G' res (G'.O b)=.res j
     rw[q2]
     have:=wJ fn.results.toList res 0 j r kC hj hr
     simp[CF,this]
    ·rename_i e m cs hsl
     rw[hsl]at ho
     intro base m' cap hv hc
     obtain⟨b,off,c,fz,q1,q2,q3⟩:=ho base m' cap hv hc
     refine⟨b,off,c,fz,q1,?_,q3⟩
     show CF G' res (G'.O b)=.res j
     rw[q2]
     have:=wJ fn.results.toList res 0 j r kC hj hr
     simp[CF,this]
    ·trivial
  ·unfold tS at hi⊢
   rw[gl]at hi⊢
   have hb:BR G' w' E' a' (.t r.t) (look E'.e r.t) (a'.tmps.getD r.t undef):=by
    have:=BR.bn h (o:=.tmp r.t) (x:=.t r.t) (by simp[cj])
    have hun:xg true E' (.t r.t)=vK true (look E'.e r.t):=rfl
    rw[hun]at this
    generalize look E'.e r.t=av at this hi
    cases av<;>first|exact this|(cases hi;done)|trivial
   have hi:ee (Qy m1 (rd E' (look E'.e r.t) n1))=true:=hi
   show∃v,_/\VR w' G2.R (Qy m1 (rd E' (look E'.e r.t) n1)) v/\ew G2 w' (.res j) (Qy m1 (rd E' (look E'.e r.t) n1)) v
   cases hrd:rd E' (look E'.e r.t) n1 with
   |none=>rw[hrd]at hi;cases hi
   |some cs=>
    obtain⟨b,off,e,hl,hat,hvw⟩:=CY h hb hrd
    obtain⟨v,cG,hvr⟩:=pZ hs1 ha1 h11 hl hat
    refine⟨v,?_,hvr,?_⟩
    ·show(do loadVar ty (<-asAddr (a'.tmps.getD r.t undef)):Sem Value).run P w'=_
     grind [asAddr]
    ·have aaX:=DH (multi:=m1) hvw
     show ew G2 w' (.res j) (od m1 cs) v
     grind [ew.view]
 have aaE:∃vs:List Value,fn.results.toList.length=vs.length/\∀(j:Nat)(x:ResultVar)(r:kT)(v:Value),fn.results.toList[j]? =some x->res[j]? =some r->vs[j]? =some v->(zd a'.tmps x).run P w'=.ok v w'/\VR w' G2.R (tS E' r) v/\ew G2 w' (.res j) (tS E' r) v:=by
  have hch:∀j:Fin fn.results.toList.length,∃v,∀(x:ResultVar)(r:kT),fn.results.toList[j.1]? =some x->res[j.1]? =some r->(zd a'.tmps x).run P w'=.ok v w'/\VR w' G2.R (tS E' r) v/\ew G2 w' (.res j.1) (tS E' r) v:=by
   intro j
   have hr:j.1<res.length:=by rw[<-hlen];exact j.2
   obtain⟨v,hv⟩:=Kj j.1 _ _ (List.getElem?_eq_getElem j.2) (List.getElem?_eq_getElem hr)
   refine⟨v,fun x r hx hr'=>?_⟩
   rw[List.getElem?_eq_getElem j.2]at hx
   rw[List.getElem?_eq_getElem hr]at hr'
   injection hx with hx;injection hr' with hr'
   subst hx;subst hr'
   exact hv
  refine⟨List.ofFn fun j=>(hch j).choose,B_,fun j x r v hx hr hv=>?_⟩
  have hj:j<fn.results.toList.length:=(List.getElem?_eq_some_iff.1 hx).1
  have:=(hch ⟨j,hj⟩).choose_spec x r hx hr
  simp only[List.getElem?_ofFn,hj,dite_true]at hv
  injection hv with hv
  rw[hv]at this
  exact this
 obtain⟨vs,hvl,hvs⟩:=aaE
 refine⟨_,Jp a'.tmps w' vs hvl (fun j x v hx hv=>by
  have hj:j<res.length:=by rw[<-hlen];exact(List.getElem?_eq_some_iff.1 hx).1
  exact(hvs j x _ v hx (List.getElem?_eq_getElem hj) hv).1),?_⟩
 have rF:∀(j:Nat)(r:kT)(v:Value),res[j]? =some r->vs[j]? =some v->VR w' G2.R (tS E' r) v/\ew G2 w' (.res j) (tS E' r) v:=by
  intro j r v hr hv
  have hj:j<fn.results.toList.length:=by rw[hvl];exact(List.getElem?_eq_some_iff.1 hv).1
  exact(hvs j _ r v (List.getElem?_eq_getElem hj) hr hv).2
 have ae7:vs.length=res.length:=by rw[<-hvl,hlen]
 refine⟨_,lA E' res,E'.s,G2,rfl,hQ,⟨fun b hb=>?_,h.bF.nc⟩,?_,?_,?_⟩
 ·show CF G' res (G'.O b)=.none
  rw[h.bF.mn b hb];rfl
 ·refine h.store.xT (fun _ _ hv=>hv) (fun b hb=>⟨?_,rfl,rfl⟩) (fun b c j hb hc=>⟨?_,rfl,rfl⟩)
  ·show CF G' res (G'.O b)=.sh
   rw[hb];rfl
  ·show CF G' res (G'.O c)=.cell b j
   rw[hc];simp[CF,hb]
 ·match res,vs,ae7,rF with
  |[],[],_,_=>exact⟨#[],rfl,rfl,fun j x y hx=>A_⟩
  |[r],[v],_,rF=>
   have h1:=rF 0 r v rfl rfl
   have h2:=hV 0 r rfl
   show Vx G2 w' (tS E' r) v
   generalize tS E' r=av at h1 h2
   cases av<;>first|exact h1|cases h2
  |r1::r2::rr,v1::v2::vv,hl2,rF=>
   refine⟨_,rfl,A_,fun j x y hx hy=>?_⟩
   grind
 ·refine⟨hp.os,hp.tape,hp.output,hp.drawn,hp.size,hp.mono,hp.nz,hp.frame,fun b hb ho=>?_,fun b hb ho=>?_⟩
  ·obtain⟨e1,e2⟩:=hp.kq b hb ho
   exact⟨by show CF G' res (G'.O b)=_;rw[e1];rfl,e2⟩
  ·obtain⟨e1,e2⟩:=hp.qI b hb ho
   exact⟨by show CF G' res (G'.O b)=_;rw[e1];rfl,e2⟩
theorem FN.of{f:FuncId}{res:List kT}{ic:IC}{args:List AV}{s:ae}{Q:List AV->ae->Prop}(hD:vP P n)(hf:m5 P f n res ic=true)(hv:rl args=true)(hn:args.length<=n)
 (hw:gx P ic (yn res Q) (start args s)):FN P f args s Q:=by
 intro G w vs hg ho hs ha
 unfold m5 at hf
 split at hf<;>try(cases hf;done)
 rename_i fn hfn
 simp only[Bool.and_eq_true,beq_iff_eq]at hf
 obtain⟨⟨rfl,kC⟩,hf⟩:=hf
 split at hf<;>try(cases hf;done)
 rename_i c hb
 refine calls_of_wp hfn hb (cV hD ic c G w (yn res Q) _ G _ _ w hf ?_ (qR hg hs ha hv hn) (aR.refl G w) hw)
 intro x G' E' a' w' h hp hq
 have fin:rl (lA E' res)=true/\Q (lA E' res) E'.s->a'.defers=[]/\∃v,(results fn a'.tmps).run P w'=.ok v w'/\∃v' rs s' G'',Ending.returned v=.returned v'/\Q rs s'/\cS G'' w'/\bB G'' w' s'/\ri G'' w' rs v'/\aR G w G'' w':=by
  intro hq
  obtain⟨dY,hQ⟩:=hq
  exact⟨h.ry,Bo kC h hp dY hQ⟩
 cases x with
 |ret=>exact fin hq
 |normal=>exact fin hq
 |_=>exact hq.elim
end
abbrev KK(α:Type):=Nat->Nat->(α->Nat->Nat->IC)->IC
def dR(r:Nat):KK Nat:=fun n p k=>match n/r with
 |0=>k (n % r) 0 p
 |m+1=>k (n % r) (m+1) p
def dN:KK Nat:=fun n p k=>dR 16 n p fun c n p=>match c with
 |14=>dR 256 n p fun x n p=>k (x+14) n p
 |15=>dR 4 n p fun s n p=>dR (2^(16*2^s)) n p k
 |c=>k c n p
def dB:KK Bool:=fun n p k=>dR 2 n p fun c n p=>match c with
 |0=>k false n p
 |_=>k true n p
def dM{α:Type}(f:KK α):Nat->KK (List α)
 |0,n,p,k=>k [] n p
 |m+1,n,p,k=>f n p fun x n p=>dM f m n p fun xs n p=>k (x::xs) n p
def dL{α:Type}(f:KK α):KK (List α):=fun n p k=>dN n p fun m n p=>dM f m n p k
def dP{α β:Type}(f:KK α)(g:KK β):KK (α×β):=fun n p k=>f n p fun a n p=>g n p fun b n p=>k (a,b) n p
def dO{α:Type}(f:KK α):KK (Option α):=fun n p k=>dB n p fun c n p=>match c with
 |false=>k none n p
 |true=>f n p fun a n p=>k (some a) n p
def dK:KK IntKind:=fun n p k=>dR 8 n p fun c n p=>match c with
 |0=>k .i64 n p
 |1=>k .u8 n p
 |2=>k .u32 n p
 |3=>k .u64 n p
 |4=>k .i32 n p
 |_=>k .u16 n p
def YC(l:List Nat):List UInt8:=l.map UInt8.ofNat
def dA:Nat->KK AV
 |0,_,_,_=>.dead
 |f+1,n,p,k=>dR 16 n p fun c n p=>match c with
  |0=>dN n p fun x n p=>k (.int .i64 (.ofNat x)) n p
  |1=>dK n p fun i n p=>dN n p fun x n p=>k (.int i (.ofNat x)) n p
  |2=>dR 256 n p fun x n p=>k (.int .u8 (.ofNat x)) n p
  |3=>k (.bool false) n p
  |4=>k (.bool true) n p
  |5=>dL (dR 256) n p fun s n p=>k (.str (YC s)) n p
  |6=>k .fO n p
  |7=>dB n p fun o n p=>dN n p fun s n p=>dN n p fun m n p=>dL (dA f) n p fun c n p=>k (.sl o s m c) n p
  |8=>dL (dA f) n p fun c n p=>k (.agg c) n p
  |9=>k .p8 n p
  |10=>dR 512 n p fun g n p=>dL (dA f) n p fun a n p=>dL (dA f) n p fun c n p=>k (.fn g a c) n p
  |11=>dN n p fun t n p=>dN n p fun m n p=>dL (dA f) n p fun c n p=>k (.bb t m c) n p
  |12=>k .l9 n p
  |13=>k .tH n p
  |14=>dN n p fun x n p=>k (.int .i64 (.negSucc x)) n p
  |_=>k (.arr 0 0 0 0) n p
def dX:KK IX:=fun n p k=>dR 16 n p fun c n p=>match c with
 |0=>dA 8 n p fun a n p=>k (.c a) n p
 |15=>dN n p fun i n p=>k (.t i) n p
 |c=>bif Nat.blt c 8 then k (.t (p+1 -c)) n p else k (.t (c -8)) n p
def dBo:KK BinOp:=fun n p k=>dR 17 n p fun c n p=>match c with
 |0=>k .add n p
 |1=>k .sub n p
 |2=>k .mul n p
 |3=>k .quo n p
 |4=>k .rem n p
 |5=>k .and n p
 |6=>k .or n p
 |7=>k .xor n p
 |8=>k .shl n p
 |9=>k .shr n p
 |10=>k .andNot n p
 |11=>k .lss n p
 |12=>k .leq n p
 |13=>k .gtr n p
 |14=>k .geq n p
 |15=>k .eql n p
 |_=>k .neq n p
def dUo:KK UnOp:=fun n p k=>dR 3 n p fun c n p=>match c with
 |0=>k .not n p
 |1=>k .neg n p
 |_=>k .xor n p
def dOq:KK sj:=fun n p k=>dR 64 n p fun c n p=>match c with
 |0=>dUo n p fun a n p=>dX n p fun b n p=>k (.un a b) n p
 |1=>dK n p fun a n p=>dX n p fun b n p=>k (.ko a b) n p
 |2=>dN n p fun a n p=>dX n p fun b n p=>k (.HJ a b) n p
 |3=>dN n p fun a n p=>dN n p fun b n p=>dL (dA 8) n p fun c n p=>dL (dP dN (dP dN dX)) n p fun d n p=>k (.iZ a b c d) n p
 |4=>dN n p fun a n p=>dX n p fun b n p=>dO dX n p fun c n p=>dO dX n p fun d n p=>dO dX n p fun e n p=>k (.slice a b c d e) n p
 |5=>dN n p fun a n p=>dN n p fun b n p=>dX n p fun c n p=>dX n p fun d n p=>k (.append a b c d) n p
 |6=>dX n p fun a n p=>dX n p fun b n p=>k (.kv a b) n p
 |7=>dX n p fun a n p=>k (.jM a) n p
 |8=>dN n p fun a n p=>dN n p fun b n p=>dX n p fun c n p=>dX n p fun d n p=>k (.jJ a b c d) n p
 |9=>dN n p fun a n p=>dX n p fun b n p=>k (.Ad a b) n p
 |10=>dN n p fun a n p=>dN n p fun b n p=>dL (dA 8) n p fun c n p=>dX n p fun d n p=>dX n p fun e n p=>k (.pd a b c d e) n p
 |11=>dB n p fun a n p=>dX n p fun b n p=>dX n p fun c n p=>k (.NM a b c) n p
 |12=>dX n p fun a n p=>dL dX n p fun b n p=>k (.iq a b) n p
 |13=>dN n p fun a n p=>dB n p fun b n p=>dX n p fun c n p=>k (.R6 a b c) n p
 |14=>dX n p fun a n p=>dO dX n p fun b n p=>dO dX n p fun c n p=>k (.ny a b c) n p
 |15=>dX n p fun a n p=>k (.nE a) n p
 |16=>dN n p fun a n p=>dN n p fun b n p=>dL (dA 8) n p fun c n p=>dX n p fun d n p=>dX n p fun e n p=>k (.l8 a b c d e) n p
 |17=>dL (dA 8) n p fun a n p=>k (.nv a) n p
 |18=>dR 512 n p fun a n p=>dL dX n p fun b n p=>dL dX n p fun c n p=>k (.tG a b c) n p
 |19=>dX n p fun a n p=>k (.cap a) n p
 |20=>dB n p fun a n p=>dX n p fun b n p=>k (.UW a b) n p
 |21=>dN n p fun a n p=>dN n p fun b n p=>dL (dA 8) n p fun c n p=>dL (dP dN (dP dN dX)) n p fun d n p=>k (.mZ a b c d) n p
 |22=>dN n p fun a n p=>dX n p fun b n p=>dX n p fun c n p=>k (.ph a b c) n p
 |23=>dB n p fun a n p=>dL dX n p fun b n p=>k (.mD a b) n p
 |24=>dN n p fun a n p=>dN n p fun b n p=>dX n p fun c n p=>k (.HK a b c) n p
 |25=>dN n p fun a n p=>dN n p fun b n p=>dN n p fun c n p=>dN n p fun d n p=>dX n p fun e n p=>k (.HL a b c d e) n p
 |26=>dX n p fun a n p=>k (.iw a) n p
 |27=>dX n p fun a n p=>k (.my a) n p
 |28=>dN n p fun a n p=>dN n p fun b n p=>dL (dA 8) n p fun c n p=>dX n p fun d n p=>dX n p fun e n p=>k (.pj a b c d e) n p
 |29=>dB n p fun a n p=>dX n p fun b n p=>k (.RZ a b) n p
 |30=>dB n p fun a n p=>dX n p fun b n p=>dX n p fun c n p=>k (.UU a b c) n p
 |31=>dN n p fun a n p=>dB n p fun b n p=>dX n p fun c n p=>k (.zU a b c) n p
 |32=>dX n p fun a n p=>k (.H8 a) n p
 |33=>dR 512 n p fun a n p=>dX n p fun b n p=>k (.zG a b) n p
 |34=>dN n p fun a n p=>dX n p fun b n p=>k (.H7 a b) n p
 |35=>dB n p fun a n p=>dX n p fun b n p=>dX n p fun c n p=>k (.Rk a b c) n p
 |36=>dL (dA 8) n p fun a n p=>dX n p fun b n p=>k (.sO a b) n p
 |_=>dR 512 n p fun a n p=>dN n p fun b n p=>dL dX n p fun c n p=>k (.zF a b c) n p
def dOp:KK sj:=fun n p k=>dR 16 n p fun c n p=>match c with
 |0=>dB n p fun a n p=>dX n p fun b n p=>k (.oU a b) n p
 |1=>dBo n p fun a n p=>dX n p fun b n p=>dX n p fun c n p=>k (.bin a b c) n p
 |2=>dN n p fun a n p=>dX n p fun b n p=>k (.fieldAddr a b) n p
 |3=>dN n p fun a n p=>dB n p fun b n p=>dX n p fun c n p=>k (.load a b c) n p
 |4=>dR 512 n p fun a n p=>dL dX n p fun b n p=>k (.call a b) n p
 |5=>dN n p fun a n p=>dX n p fun b n p=>dX n p fun c n p=>k (.store a b c) n p
 |6=>dX n p fun a n p=>k (.nilCheck a) n p
 |7=>dX n p fun a n p=>dN n p fun b n p=>k (.extract a b) n p
 |8=>dX n p fun a n p=>dX n p fun b n p=>dX n p fun c n p=>k (.pick a b c) n p
 |9=>dL (dA 8) n p fun a n p=>dB n p fun b n p=>dX n p fun c n p=>k (.kj a b c) n p
 |10=>dN n p fun a n p=>dX n p fun b n p=>k (.len a b) n p
 |11=>dL (dA 8) n p fun a n p=>dX n p fun b n p=>dX n p fun c n p=>k (.indexAddr a b c) n p
 |12=>dL (dA 8) n p fun a n p=>dL (dP dN (dP dN dX)) n p fun b n p=>k (.build a b) n p
 |13=>dL (dA 8) n p fun a n p=>k (.lQ a) n p
 |14=>dX n p fun a n p=>k (.ve a) n p
 |_=>dOq n p k
def dGd(c:Nat):KK (Option (Nat×Bool)):=fun n p k=>bif Nat.blt c 3 then k none n p else dX n p fun x n p=>dB n p fun w n p=>match x with
 |.t i=>k (some (i,w)) n p
 |_=>.dead
def dFo(x:Nat)(k:Nat->IC):IC:=match x with
 |0=>k 0
 |m+1=>k (m+1)
def dOr:KK aH:=fun n p k=>dR 6 n p fun c n p=>match c % 3 with
 |0=>dGd c n p fun g n p=>dOp n p fun o n p=>k ⟨none,o,g⟩ n p
 |1=>dGd c n p fun g n p=>dOp n p fun o n p=>dFo (p+1) fun d=>k ⟨some d,o,g⟩ n d
 |_=>dN n p fun d n p=>dGd c n p fun g n p=>dOp n p fun o n _=>dFo d fun d=>k ⟨some d,o,g⟩ n d
def dSl:Nat->Nat->KK (List Nat)
 |0,_,n,p,k=>k [] n p
 |m+1,q,n,p,k=>dN n p fun x n p=>dFo (q+x) fun q=>dSl m q n p fun xs n p=>k (q::xs) n p
def Wb:KK (List Nat):=fun n p k=>dN n p fun m n p=>dSl m 0 n p k
def dSb:Nat->Nat->KK (List (Nat×Bool))
 |0,_,n,p,k=>k [] n p
 |m+1,q,n,p,k=>dN n p fun x n p=>dB n p fun b n p=>dFo (q+x) fun q=>dSb m q n p fun xs n p=>k ((q,b)::xs) n p
def dW:KK (List (Nat×Bool)):=fun n p k=>dN n p fun m n p=>dSb m 0 n p k
def dC:Nat->KK IC
 |0,_,_,_=>.dead
 |f+1,n,p,k=>dR 9 n p fun c n p=>match c with
  |0=>dC f n p fun a n p=>dC f n p fun b n p=>k (.seq a b) n p
  |1=>dL dOr n p fun o n p=>Wb n p fun v n p=>k (.Vw none o v) n p
  |2=>dX n p fun x n p=>dC f n p fun a n p=>dC f n p fun b n p=>k (.cond x a b) n p
  |3=>k .ret n p
  |4=>k .skip n p
  |5=>dN n p fun m n p=>dC f n p fun a n p=>k (.block m a) n p
  |6=>dW n p fun v n p=>dC f n p fun a n p=>k (.loop v a) n p
  |7=>dW n p fun v n p=>dC f n p fun a n p=>dC f n p fun b n p=>k (.join v a b) n p
  |_=>dR 10 n p fun c n p=>match c with
   |0=>dN n p fun m n p=>k (.exit m) n p
   |1=>dN n p fun q n p=>dL dOr n p fun o n p=>Wb n p fun v n p=>k (.Vw (some q) o v) n p
   |2=>dN n p fun m n p=>k (.label m) n p
   |3=>dN n p fun m n p=>k (.goto m) n p
   |4=>dC f n p fun a n p=>k (.scope a) n p
   |5=>Wb n p fun t n p=>dN n p fun q n p=>dL dOr n p fun o n p=>Wb n p fun v n p=>k (.TM t q o v) n p
   |6=>dL (dL dB) n p fun t n p=>dL dOr n p fun o n p=>Wb n p fun v n p=>k (.TN t o v) n p
   |7=>k .dead n p
   |8=>Wb n p fun t n p=>dL (dP (dR 4) (dP dN dOr)) n p fun o n p=>Wb n p fun v n p=>k (.Nn t o v) n p
   |_=>dN n p fun m n p=>dW n p fun v n p=>dC f n p fun a n p=>dC f n p fun b n p=>dC f n p fun c n p=>dC f n p fun d n p=>k (.Dq m v a b c d) n p
def dec(n:Nat):IC:=dC 400 n 0 fun c _ _=>c
attribute[irreducible] YC
theorem ofN(n:Nat):Int.ofNat (no_index (OfNat.ofNat n))=OfNat.ofNat n:=rfl
theorem ngN(n:Nat):Int.negSucc n=-((n+1:Nat):Int):=rfl
theorem Uh:YC []=[]:=by unfold YC;rfl
theorem QZ(n:Nat)(l:List Nat):YC (no_index (OfNat.ofNat n)::l)=OfNat.ofNat n::YC l:=by unfold YC;rfl
attribute[go_sem] ofN ngN Uh QZ
theorem iS{f f':IX->AV}:∀(xs:List IX),(∀x∈xs,f x=f' x)->cQ f xs=cQ f' xs
 |[],_=>rfl
 |x::xs,h=>by
  show Mv (f x) (cQ f xs)=Mv (f' x) (cQ f' xs)
  rw[h x List.mem_cons_self,iS xs fun y hy=>h y (List.mem_cons_of_mem _ hy)]
theorem wc{f f':IX->AV}:∀(ps:List (Nat×Nat×IX))(cs:List AV),(∀x∈ps.map (fun p=>p.2.2),f x=f' x)->fill f cs ps=fill f' cs ps
 |[],_,_=>rfl
 |(off,n,x)::ps,cs,h=>by
  have h1:f x=f' x:=h x B_
  have ih:∀cs,fill f cs ps=fill f' cs ps:=fun cs=>wc ps cs fun y hy=>h y (by simp only[List.map_cons,List.mem_cons];exact .inr hy)
  unfold fill
  rw[h1]
  simp only[ih]
def mA{f f':IX->AV}(o:Option IX)(d:Int)(h:∀x∈oX o,f x=f' x):E2 f o d=E2 f' o d:=by
 cases o with
 |none=>rfl
 |some x=>grind [E2,oX]
def Qk{o:sj}{f f':IX->AV}{σ E':St}(h:∀x∈ff o,f x=f' x)(hx:∀x∈ff o,σ.x x=E'.x x)(hs:σ.s=E'.s)(hrd:∀x∈ff o,∀n,rd σ (f x) n=rd E' (f x) n):pv o f σ=pv o f' E':=by
 cases o<;>(try rfl)
 case oU tr x=>cases tr<;>first|rfl|(show M5 (f x)=M5 (f' x);grind [ff])
 case pick c x y=>show Fk (σ.x x) (σ.x y) (f c)=Fk (E'.x x) (E'.x y) (f' c);grind [ff]
 case build z ps=>show BB (fill f z ps)=BB (fill f' z ps);rw[wc ps z h]
 case load n m x=>show na m (rd σ (f x) n)=na m (rd E' (f' x) n);grind [ff]
 case kj z m x=>show E5 z m σ.s (f x)=E5 z m E'.s (f' x);grind [ff]
 case jM x=>show ru (f x)=ru (f' x);grind [ff]
 case nilCheck x=>show mE (f x)=mE (f' x);grind [ff]
 case bin b x y=>show JM b (f x) (f y)=JM b (f' x) (f' y);grind [ff]
 case UU b x y=>show J7 b (f x) (f y)=J7 b (f' x) (f' y);grind [ff]
 case NM b x y=>show DV b (f x) (f y)=DV b (f' x) (f' y);grind [ff]
 case Rk b x y=>unfold pv;grind [ff]
 case un u x=>show VN u (f x)=VN u (f' x);grind [ff]
 case ko k x=>show uw k (f x)=uw k (f' x);grind [ff]
 case kv x i=>show uK (f x) (f i)=uK (f' x) (f' i);grind [ff]
 case fieldAddr off x=>show gR off x (f x)=gR off x (f' x);grind [ff]
 case indexAddr sz x i=>show kW sz (f x) (f i)=kW sz (f' x) (f' i);grind [ff]
 case jJ sz l x i=>show gD sz l x (f x) (f i)=gD sz l x (f' x) (f' i);grind [ff]
 case slice sz x lo hi mx=>
  cases mx with
  |some m=>
   have e1:=mA (f:=f) (f':=f') lo 0 fun y hy=>h y iN
   have e2:=mA (f:=f) (f':=f') hi 0 fun y hy=>h y iN
   have e3:=mA (f:=f) (f':=f') (some m) 0 fun y hy=>h y iN
   show pK sz f lo hi m (f x)=pK sz f' lo hi m (f' x)
   rw[h x X_]
   unfold pK
   grind
  |none=>
   have e1:=mA (f:=f) (f':=f') lo 0 fun y hy=>h y iN
   have e2:=fun d=>mA (f:=f) (f':=f') hi d fun y hy=>h y iN
   show tZ sz f lo hi (f x)=tZ sz f' lo hi (f' x)
   rw[h x X_]
   unfold tZ
   grind
 case ny x lo hi=>
  have e1:=mA (f:=f) (f':=f') lo 0 fun y hy=>h y iN
  have e2:=fun d=>mA (f:=f) (f':=f') hi d fun y hy=>h y iN
  show mR f lo hi (f x)=mR f' lo hi (f' x)
  rw[h x X_]
  unfold mR
  grind
 case RZ b x=>show Io b (f x)=Io b (f' x);grind [ff]
 case cap x=>show JS (f x)=JS (f' x);grind [ff]
 case extract x k=>show qk k (f x)=qk k (f' x);grind [ff]
 case len c x=>show AK σ.s c (f x)=AK E'.s c (f' x);grind [ff]
 case mD m xs=>
  show uC m (xs.map f)=uC m (xs.map f')
  rw[show xs.map f=xs.map f' from List.map_congr_left h]
 case tG fi xs ys=>
  show uB fi (cQ f xs) (cQ f ys)=uB fi (cQ f' xs) (cQ f' ys)
  grind [iS,ff]
def dr(o:aH)(σ:St):St:=match o.op with
 |.oU true x=>σ.drain x
 |_=>σ
def step(σ:St)(o:aH)(v:AV):St:=(cu (dr o σ) v o.dst).put o.dst v
theorem Oz{o:aH}{σ:St}(h:qv o σ≠.no):dr o σ=σ:=by
 obtain⟨d,op,g⟩:=o
 unfold dr
 split
 ·rename_i x hop
  simp only at hop
  subst hop
  refine absurd ?_ h
  cases g with
  |none=>rfl
  |some tw=>
   obtain⟨t,want⟩:=tw
   show Ji (.oU true x) want σ (look σ.e t)=.no
   unfold Ji
   split<;>rfl
 ·rfl
inductive Y(P:Program)(σ:St):aH->AV->Prop where
 |pure (o:aH) (v:AV) (h:(qv o σ=.dG v\/∃c,qv o σ=.fY c v/\c)):Y P σ o v
 |oU (d:Option Nat) (x:IX) (h:ee (σ.x x)=true):Y P σ ⟨d,.oU true x,none⟩ (σ.x x)
 |call (d:Option Nat) (f:Nat) (args:List IX) (as rs:List AV) (h1:cQ (xg true σ) args=some as) (h2:ku rs=true) (h3:FE P f as σ.s rs σ.s):Y P σ ⟨d,.call f args,none⟩ (fS rs)
 |HR (d:Option Nat) (f:Nat) (args:List IX) (t:Nat) (want g0 b:Bool) (rs:List AV) (h0:OW (look σ.e t)=some (g0,b)) (h2:ku rs=true)
   (h1:(g0&&(b==want))=true->∃as,cQ (xg true σ) args=some as/\FE P f as σ.s rs σ.s):Y P σ ⟨d,.call f args,some (t,want)⟩ (.when (g0&&(b==want)) (fS rs))
 |iq (d:Option Nat) (x:IX) (args:List IX) (f:Nat) (as rs:List AV) (h1:callee x args true σ f as) (hf:we P f=true) (h2:ku rs=true) (h3:FE P f as σ.s rs σ.s):Y P σ ⟨d,.iq x args,none⟩ (fS rs)
 |BK (d:Option Nat) (x:IX) (args:List IX) (t:Nat) (want g0 b:Bool) (rs:List AV) (h0:OW (look σ.e t)=some (g0,b)) (h2:ku rs=true)
   (h1:(g0&&(b==want))=true->∃f as,callee x args true σ f as/\we P f=true/\FE P f as σ.s rs σ.s):Y P σ ⟨d,.iq x args,some (t,want)⟩ (.when (g0&&(b==want)) (fS rs))
 |US (o:aH) (v:AV) (h:(D8 o σ=.dG v\/∃c,D8 o σ=.fY c v/\c)):Y P σ o v
def X8{o:sj}{want:Bool}{σ:St}{a:AV}:(∃g b,OW a=some (g,b)/\Ji o want σ a=Uk (Yi o) (g&&(b==want)) (pv o (xg (g&&(b==want)) σ) σ))\/Ji o want σ a=.no:=by
 unfold Ji
 split
 ·exact .inl ⟨_,_,rfl,rfl⟩
 ·exact .inl ⟨_,_,rfl,rfl⟩
 grind
def Qq{o:sj}{want:Bool}{σ:St}{a:AV}:(∃g b,OW a=some (g,b)/\L8 o want σ a=NJ (g&&(b==want)) (qe (xg (g&&(b==want)) σ) σ.s o))\/L8 o want σ a=.no:=by
 unfold L8
 split
 ·exact .inl ⟨_,_,rfl,rfl⟩
 ·exact .inl ⟨_,_,rfl,rfl⟩
 grind
theorem Bc{P:Program}{o:sj}{d:Option Nat}{t:Nat}{want:Bool}{σ:St}{K:St->Prop}{a:AV}{g b:Bool}(h:OW a=some (g,b)):yU P o d t want σ K a=NQ P (g&&(b==want)) o σ d K (pv o (xg (g&&(b==want)) σ) σ):=by
 unfold OW at h
 split at h
 ·injection h with h;injection h with h1 h2;subst h1;subst h2;rfl
 ·injection h with h;injection h with h1 h2;subst h1;subst h2;rfl
 ·cases h
theorem yb{v:AV}(h:CS v=true):b8 v=true/\(∀t,¬bS v t)/\(∀τ d,cu τ v d=τ):=by cases v<;>first|(simp[CS,ee]at h;done)|exact⟨rfl,fun t h=>h,fun τ d=>G_⟩
theorem CW{f:IX->AV}{s:ae}{o:sj}{v:AV}(h:qe f s o=.dG v\/∃c,qe f s o=.fY c v):CS v=true/\(∀g τ,pv o g τ=.no)/\(∀x,o≠.oU true x):=by
 have tt:∀{r:PR}{u:AV},r=.dG u->(r=.dG v\/∃c,r=.fY c v)->v=u:=by
  intro r u hr h
  subst hr
  rcases h with h|⟨c,h⟩
  ·grind
  ·cases h
 have tp:∀{r:PR}{u:AV}{c:Prop},r=.fY c u->(r=.dG v\/∃c,r=.fY c v)->v=u:=by
  intro r u c hr h
  subst hr
  rcases h with h|⟨c',h⟩
  ·cases h
  ·grind
 have tn:∀{r:PR},r=.no->¬(r=.dG v\/∃c,r=.fY c v):=by
  intro r hr h
  subst hr
  rcases h with h|⟨c',h⟩<;>cases h
 have ok:∀(k:Bool)(a:AV)(b:Bool),(k=false->ee a=true)->CS (okV k a b)=true:=by
  intro k a b ha
  cases k with
  |true=>rfl
  |false=>show CS a=true;have:=ha rfl;cases a<;>first|exact this|rfl
 unfold qe at h
 split at h
 ·rename_i x
  refine⟨?_,fun g τ=>rfl,fun x h=>F_⟩
  cases hx:f x<;>rw[hx]at h<;>first|(exact absurd h (tn rfl))|(rw[tt rfl h];rfl)
 ·rename_i sz n z ps
  refine⟨?_,fun g τ=>rfl,fun x h=>F_⟩
  cases hx:fill f z ps<;>rw[hx]at h
  ·exact absurd h (tn rfl)
  ·rw[tp rfl h];rfl
 ·rename_i x
  refine⟨?_,fun g τ=>rfl,fun x h=>F_⟩
  unfold Di at h
  split at h
  ·rw[tt rfl h];rfl
  grind
 ·rename_i x
  refine⟨?_,fun g τ=>rfl,fun x h=>F_⟩
  unfold DE at h
  split at h
  ·rw[tt rfl h];rfl
  grind
 grind
theorem Qr{o:aH}{σ:St}{v:AV}(h:D8 o σ=.dG v\/∃c,D8 o σ=.fY c v/\c):
 b8 v=true/\(∀t,¬bS v t)/\(∀τ d,cu τ v d=τ)/\dr o σ=σ:=by
 obtain⟨d,op,g⟩:=o
 have hdr:(∀x,op≠.oU true x)->dr ⟨d,op,g⟩ σ=σ:=by
  intro h
  unfold dr
  split
  ·grind
  ·rfl
 have wk:∀{r:PR},(r=.dG v\/∃c,r=.fY c v/\c)->(r=.dG v\/∃c,r=.fY c v):=fun h=>h.imp id fun⟨c,h,_⟩=>⟨c,h⟩
 cases g with
 |none=>
  have h':qe (xg true σ) σ.s op=.dG v\/∃c,qe (xg true σ) σ.s op=.fY c v:=wk h
  grind [CW,yb]
 |some tw=>
  obtain⟨t,want⟩:=tw
  have h':L8 op want σ (look σ.e t)=.dG v\/∃c,L8 op want σ (look σ.e t)=.fY c v:=wk h
  rcases Qq (o:=op) (want:=want) (σ:=σ) (a:=look σ.e t)with⟨g0,b,hg0,hl⟩|hl<;>rw[hl]at h'
  case inr=>grind
  generalize(g0&&(b==want))=gg at h'
  have h2:NJ gg (qe (xg gg σ) σ.s op)=.dG v\/∃c,NJ gg (qe (xg gg σ) σ.s op)=.fY c v:=h'
  have:∃u,v=.when gg u/\(qe (xg gg σ) σ.s op=.dG u\/∃c,qe (xg gg σ) σ.s op=.fY c u):=by
   cases hq:qe (xg gg σ) σ.s op with
   |dG u=>
    rw[hq]at h2
    refine⟨u,?_,.inl rfl⟩
    rcases h2 with h2|⟨c,h2⟩
    ·injection h2 with h2;exact h2.symm
    ·cases h2
   |fY c u=>
    rw[hq]at h2
    refine⟨u,?_,.inr ⟨c,rfl⟩⟩
    rcases h2 with h2|⟨c,h2⟩
    ·cases h2
    ·injection h2 with _ h2;exact h2.symm
   |no=>rw[hq]at h2;rcases h2 with h2|⟨c,h2⟩<;>cases h2
  obtain⟨u,rfl,hu⟩:=this
  obtain⟨h1,_,h3⟩:=CW hu
  obtain⟨f1,f2,f3⟩:=yb h1
  exact⟨rfl,fun t ht=>f2 t ht,fun τ d=>f3 τ d,hdr h3⟩
section
variable{P:Program}{G G':Gh}{n:Nat}{D:List Deferred}{σ E':St}{a:Act}{w w':World}
theorem pF{rs:List AV}(h:ku rs=true)(σ:St)(d:Option Nat):cu σ (fS rs) d=σ:=by
 match rs,h with
 |[],_=>cases d<;>rfl
 |[r],h=>
  show cu σ r d=σ
  cases r<;>first|(cases d<;>rfl)|(simp[ku,ee,SD]at h)
 |_::_::_,_=>cases d<;>rfl
theorem IJ{r:AV}(hr:ee r=true)(σ:St)(d:Option Nat):cu σ r d=σ:=by cases r<;>first|(cases d<;>rfl)|grind [ee]
def pG{rs:List AV}(h:ku rs=true):b8 (fS rs)=true:=by
 match rs,h with
 |[],_=>rfl
 |[r],h=>
  show b8 r=true
  cases r<;>first|rfl|(simp[ku,ee,SD]at h)
 |_::_::_,_=>rfl
def Qn{o:aH}{K:St->Prop}(h:q1 P o σ K):∃v,b8 v=true/\Y P σ o v/\K (step σ o v):=by
 have gen:qK σ o.dst K (qv o σ)->∃v,b8 v=true/\Y P σ o v/\K (step σ o v):=by
  intro hq
  cases hv:qv o σ with
  |dG v=>rw[hv]at hq;exact⟨v,hq.1,.pure o v (.inl hv),by unfold step;rw[Oz (by rw[hv];simp)];exact hq.2⟩
  |fY c v=>rw[hv]at hq;exact⟨v,hq.2.1,.pure o v (.inr ⟨c,hv,hq.1⟩),by unfold step;rw[Oz (by rw[hv];simp)];exact hq.2.2⟩
  |no=>rw[hv]at hq;exact hq.elim
 have R8:∀{o:aH},qK σ o.dst K (D8 o σ)->∃v,b8 v=true/\Y P σ o v/\K (step σ o v):=by
  intro o hq
  cases hv:D8 o σ with
  |dG v=>rw[hv]at hq;exact⟨v,hq.1,.US o v (.inl hv),by unfold step;rw[(Qr (.inl hv)).2.2.2];exact hq.2⟩
  |fY c v=>rw[hv]at hq;exact⟨v,hq.2.1,.US o v (.inr ⟨c,hv,hq.1⟩),by unfold step;rw[(Qr (.inr ⟨c,hv,hq.1⟩)).2.2.2];exact hq.2.2⟩
  |no=>rw[hv]at hq;exact hq.elim
 unfold q1 at h
 split at h
 ·rename_i d f args
  cases ha:cQ (xg true σ) args with
  |none=>rw[ha]at h;exact h.elim
  |some as=>
   rw[ha]at h
   obtain⟨rs,h2,h3,h4⟩:=h
   refine⟨_,pG h2,.call d f args as rs ha h2 h3,?_⟩
   show K ((cu σ (fS rs) d).put d (fS rs))
   grind [pF]
 ·rename_i d x
  obtain⟨h1,h2⟩:=h
  refine⟨_,?_,.oU d x h1,?_⟩
  ·generalize σ.x x=av at h1
   cases av<;>first|rfl|grind [ee]
  ·show K ((cu (σ.drain x) (σ.x x) d).put d (σ.x x))
   grind [IJ]
 ·rename_i d f args t want
  have h:∃g0 b,OW (look σ.e t)=some (g0,b)/\∃rs,ku rs=true/\((g0&&(b==want))=true->∃as,cQ (xg (g0&&(b==want)) σ) args=some as/\FE P f as σ.s rs σ.s)/\K (σ.put d (.when (g0&&(b==want)) (fS rs))):=by
   unfold CV at h
   split at h
   ·rename_i b hl;exact⟨true,b,Xa6,h⟩
   ·rename_i g b hl;exact⟨g,b,Xa6,h⟩
   ·exact h.elim
  obtain⟨g0,b,hl,rs,h2,h3,h4⟩:=h
  refine⟨_,rfl,.HR d f args t want g0 b rs hl h2 (fun hb=>A_),?_⟩
  have:cu σ (.when (g0&&(b==want)) (fS rs)) d=σ:=pF h2 σ d
  show K ((cu σ (.when (g0&&(b==want)) (fS rs)) d).put d (.when (g0&&(b==want)) (fS rs)))
  grind
 ·rename_i d x args
  cases hx:xg true σ x<;>rw[hx]at h<;>try exact h.elim
  rename_i f first jv
  cases ha:cQ (xg true σ) args with
  |none=>rw[ha]at h;exact h.elim
  |some as=>
   rw[ha]at h
   obtain⟨hf,rs,h2,h3,h4⟩:=h
   refine⟨_,pG h2,.iq d x args f _ rs ⟨first,jv,as,hx,ha,rfl⟩ hf h2 h3,?_⟩
   show K ((cu σ (fS rs) d).put d (fS rs))
   grind [pF]
 ·rename_i d x args t want
  have h:∃g0 b,OW (look σ.e t)=some (g0,b)/\∃rs,ku rs=true/\((g0&&(b==want))=true->∃f as,callee x args (g0&&(b==want)) σ f as/\we P f=true/\FE P f as σ.s rs σ.s)/\K (σ.put d (.when (g0&&(b==want)) (fS rs))):=by
   unfold Bm at h
   split at h
   ·rename_i b hl;exact⟨true,b,Xa6,h⟩
   ·rename_i g b hl;exact⟨g,b,Xa6,h⟩
   ·exact h.elim
  obtain⟨g0,b,hl,rs,h2,h3,h4⟩:=h
  refine⟨_,rfl,.BK d x args t want g0 b rs hl h2 (fun hb=>A_),?_⟩
  have:cu σ (.when (g0&&(b==want)) (fS rs)) d=σ:=pF h2 σ d
  show K ((cu σ (.when (g0&&(b==want)) (fS rs)) d).put d (.when (g0&&(b==want)) (fS rs)))
  grind
 ·exact R8 h
 ·exact R8 h
 ·exact R8 h
 ·exact R8 h
 grind
end
theorem jS{i:Nat}:∀{l:List IX},IX.t i∈l->i∈Bd l
 |.t j::r,h=>by
  rcases List.mem_cons.1 h with h|h
  ·injection h with h;subst h;exact List.mem_cons_self
  ·exact List.mem_cons_of_mem _ (jS h)
 |.c a::r,h=>by
  rcases List.mem_cons.1 h with h|h
  ·cases h
  ·exact jS (l:=r) h
section
variable{P:Program}{G G':Gh}{n:Nat}{D:List Deferred}{σ E':St}{a:Act}{w w':World}
structure JE(o:aH)(σ E':St):Prop where
 xs:∀x∈ff o.op,σ.x x=E'.x x
 g:∀t want,o.g=some (t,want)->look σ.e t=look E'.e t
 s:σ.s=E'.s
 rd:∀x∈ff o.op,∀g n,rd σ (AB.xg g σ x) n=rd E' (AB.xg g σ x) n
theorem JE.symm{o:aH}(h:JE o σ E'):JE o E' σ:=⟨fun x hx=>(h.xs x hx).symm,fun t w hg=>(h.g t w hg).symm,h.s.symm,fun x hx g n=>by
 have e:AB.xg g E' x=AB.xg g σ x:=by unfold AB.xg;rw[h.xs x hx]
 rw[e];exact(h.rd x hx g n).symm⟩
theorem JE.xg{o:aH}(h:JE o σ E')(g:Bool):∀x∈ff o.op,xg g σ x=xg g E' x:=fun x hx=>by unfold AB.xg;rw[h.xs x hx]
theorem JE.qv{o:aH}(h:JE o σ E'):qv o σ=qv o E':=by
 have hp:∀g,pv o.op (AB.xg g σ) σ=pv o.op (AB.xg g E') E':=fun g=>Qk (h.xg g) h.xs h.s fun x hx n=>h.rd x hx g n
 unfold AB.qv
 cases hg:o.g with
 |none=>exact hp true
 |some tw=>
  obtain⟨t,want⟩:=tw
  show Ji o.op want σ (look σ.e t)=Ji o.op want E' (look E'.e t)
  rw[h.g t want hg]
  unfold Ji
  grind
theorem JE.qe{o:aH}(h:JE o σ E')(g:Bool):qe (AB.xg g σ) σ.s o.op=qe (AB.xg g E') E'.s o.op:=by
 have hx:=h.xg g
 have hs:=h.s
 obtain⟨d,op,gg⟩:=o
 cases op<;>first|rfl|skip
 case iw x=>show uq (AB.xg g σ x)=uq (AB.xg g E' x);grind [ff]
 case iZ sz n z ps=>show Fu sz n (fill (AB.xg g σ) z ps)=Fu sz n (fill (AB.xg g E') z ps);rw[wc ps z hx]
 case ve x=>show DE (AB.xg g σ x)=DE (AB.xg g E' x);grind [ff]
 case my x=>show Di (AB.xg g σ x)=Di (AB.xg g E' x);grind [ff]
theorem JE.D8{o:aH}(h:JE o σ E'):D8 o σ=D8 o E':=by
 unfold AB.D8
 cases hg:o.g with
 |none=>exact h.qe true
 |some tw=>
  obtain⟨t,want⟩:=tw
  show L8 o.op want σ (look σ.e t)=L8 o.op want E' (look E'.e t)
  rw[h.g t want hg]
  unfold L8
  split
  ·rw[h.qe]
  ·rw[h.qe]
  ·rfl
def Y.Ru{o:aH}{v:AV}(hy:Y P σ o v)(h:JE o σ E'):Y P E' o v:=by
 cases hy with
 |pure _ _ hq=>exact .pure o v (by rw[<-h.qv];exact hq)
 |oU d x hi=>
  have hx:σ.x x=E'.x x:=h.xs x X_
  rw[hx]at hi⊢
  exact .oU d x hi
 |call d f args as rs h1 h2 h3=>exact .call d f args as rs (by rw[<-iS args (h.xg true)];exact h1) h2 (by rw[<-h.s];exact h3)
 |HR d f args t want g0 b rs h0 h2 h1=>
  refine .HR d f args t want g0 b rs (by rw[<-h.g t want rfl];exact h0) h2 fun hb=>?_
  obtain⟨as,q1,q2⟩:=h1 hb
  exact⟨as,by rw[<-iS args (h.xg true)];exact q1,by rw[<-h.s];exact q2⟩
 |iq d x args f as rs h1 hf h2 h3=>
  obtain⟨first,jv,xs,q1,q2,q3⟩:=h1
  exact .iq d x args f as rs ⟨first,jv,xs,by rw[<-h.xg true x List.mem_cons_self];exact q1,by rw[<-iS args fun y hy=>h.xg true y (List.mem_cons_of_mem _ hy)];exact q2,q3⟩ hf h2 (by rw[<-h.s];exact h3)
 |BK d x args t want g0 b rs h0 h2 h1=>
  refine .BK d x args t want g0 b rs (by rw[<-h.g t want rfl];exact h0) h2 fun hb=>?_
  obtain⟨f,as,⟨first,jv,xs,q1,q2,q3⟩,q4,q5⟩:=h1 hb
  exact⟨f,as,⟨first,jv,xs,by rw[<-h.xg true x List.mem_cons_self];exact q1,by rw[<-iS args fun y hy=>h.xg true y (List.mem_cons_of_mem _ hy)];exact q2,q3⟩,q4,by rw[<-h.s];exact q5⟩
 |US _ _ hq=>exact .US o v (by rw[<-h.D8];exact hq)
theorem I5(av:AV):b8 (view av)=b8 av:=by cases av<;>rfl
theorem KQ(av:AV)(n off:Nat):nH n off (view av)=nH n off av:=by cases av<;>rfl
theorem nk{av:AV}(h:b8 av=true)(n off:Nat):nH n off av=none:=by cases av<;>first|rfl|(simp[b8]at h)
structure qX(σ E':St):Prop where
 e:∀i,look σ.e i=look E'.e i
 lp:∀x,x∈σ.lp↔x∈E'.lp
 s:σ.s=E'.s
theorem qX.refl(σ:St):qX σ σ:=⟨fun _=>rfl,fun _=>Iff.rfl,rfl⟩
theorem qX.symm(h:qX σ E'):qX E' σ:=⟨fun i=>(h.e i).symm,fun x=>(h.lp x).symm,h.s.symm⟩
def qX.trans{E₃:St}(h:qX σ E')(k:qX E' E₃):qX σ E₃:=⟨fun i=>(h.e i).trans (k.e i),fun x=>(h.lp x).trans (k.lp x),h.s.trans k.s⟩
theorem qX.rd(h:qX σ E'):∀p n,AB.rd σ p n=AB.rd E' p n:=by
 intro p n
 cases p<;>try rfl
 ·rename_i b off
  show vi n off (σ.s b)=vi n off (E'.s b)
  rw[h.s]
 ·rename_i d off
  show nH n off (look σ.e d)=nH n off (look E'.e d)
  rw[h.e]
def qX.Ru(h:qX σ E')(o:aH):JE o σ E':=⟨fun x _=>by cases x with
 |c a=>rfl
 |t i=>exact h.e i,fun t _ _=>h.e t,h.s,fun x _ g n=>h.rd _ n⟩
theorem qX.free(h:qX σ E')(d:Option Nat):aU σ d=aU E' d:=by
 cases d with
 |none=>rfl
 |some d=>show b8 (look σ.e d)=b8 (look E'.e d);rw[h.e]
theorem I1:∀(v:AV)(d:Option Nat)(x:Nat×Nat),x∈(cu σ v d).lp↔(x∈σ.lp\/∃i,d=some i/\x.1=i/\bS v x.2)
 |.lp t off,some i,(x1,x2)=>by
  show(x1,x2)∈(i,t)::σ.lp↔_
  rw[List.mem_cons]
  constructor
  ·rintro(h|h)
   ·injection h with h1 h2;exact .inr ⟨i,rfl,h1,h2.symm⟩
   grind
  ·rintro(h|⟨j,h1,h2,h3⟩)
   ·exact .inr h
   ·injection h1 with h1
    have h3':t=x2:=h3
    grind
 |.lp t off,none,x=>⟨fun h=>.inl h,fun h=>h.elim id fun⟨_,h1,_⟩=>by cases h1⟩
 |.when _ v,d,x=>I1 v d x
 |.undef,_,_|.bool _,_,_|.int _ _,_,_|.str _,_,_|.fO,_,_|.ref _ _,_,_|.sp _,_,_|.loc _,_,_|.sl _ _ _ _,_,_|.arr _ _ _ _,_,_|.agg _,_,_|.jV _,_,_|.fn _ _ _,_,_|.p8,_,_|.mp _,_,_|.tH,_,_|.us _ _ _,_,_|.one,_,_|.oo _,_,_|.l9,_,_|.bb _ _ _,_,_=>⟨fun h=>.inl h,fun h=>h.elim id fun⟨_,_,_,h3⟩=>h3.elim⟩
def Inv.eqv(h:Inv G n D σ a w)(k:qX σ E'):Inv G n D E' a w:=
 ⟨h.bF,by rw[<-k.s];exact h.store,h.size,fun i v hv=>by
   rw[<-k.e i]
   exact dT.frame (fun _ _ hv=>hv) (fun b _=>⟨rfl,rfl,rfl⟩) (fun _ _ _ _ hc=>⟨hc,rfl,rfl⟩) _ _ (fun t _ cs hcs=>⟨cs,by rw[k.e];exact hcs,rfl⟩) (h.da i v hv),
   fun i hi=>by rw[<-k.e i];exact h.EH i hi,fun i t ht=>(k.lp _).1 (h.Kx i t (by rw[k.e];exact ht)),h.ry⟩
end
section
variable{P:Program}{G G':Gh}{n:Nat}{D:List Deferred}{σ E':St}{a:Act}{w w':World}
def Inv.uR{d:Option Nat}{av:AV}(h:Inv G n D (σ.put d (.jV [])) a w)(hd:bN n d=true)(hnl:∀t,¬bS av t):Inv G n D (σ.put d (.when false av)) a w:=by
 cases d with
 |none=>exact h
 |some i=>
  have hi:i<n:=by simpa[bN]using hd
  have e1:look (σ.put (some i) (.jV [])).e i=.jV []:=p_
  have:=h.Jj i hi (.when false av) hnl (fun cs e=>aT) (fun v hv=>by
   have hs:=h.da i v hv
   rw[e1]at hs
   obtain⟨ys,rfl,h2⟩:=hs
   refine⟨fun hh=>Bool.noConfusion hh,fun _=>?_⟩
   have:ys= #[]:=Array.eq_empty_of_size_eq_zero (by simpa using h2.1)
   rw[this])
  refine this.eqv ⟨fun j=>?_,fun _=>Iff.rfl,rfl⟩
  grind [St.put,bA]
def uG{rs:List AV}(h:ku rs=true)(t:Nat):¬bS (fS rs) t:=by
 match rs,h with
 |[],_=>exact fun h=>h
 |[r],h=>exact Dl h t
 |_::_::_,_=>exact fun h=>h
def Qs{op:sj}{d:Option Nat}{v:AV}{K:St->Prop}(h:qe (xg true σ) σ.s op=.dG v\/∃c,qe (xg true σ) σ.s op=.fY c v/\c)(hk:K (σ.put d v)):ki P op d σ K:=by
 cases op<;>first|(rcases h with h|⟨c,h,_⟩<;>cases h;done)|skip
 case iw x=>
  show qj σ d K (xg true σ x)
  have h':uq (xg true σ x)=.dG v\/∃c,uq (xg true σ x)=.fY c v/\c:=h
  cases hx:xg true σ x<;>rw[hx]at h'<;>first|(rcases h' with h'|⟨c,h',_⟩<;>cases h';done)|skip
  rcases h' with h'|⟨c,h',_⟩
  ·injection h' with h';subst h';exact hk
  ·cases h'
 case ve x=>
  show Ts σ d K (DE (xg true σ x))
  have h':DE (xg true σ x)=.dG v\/∃c,DE (xg true σ x)=.fY c v/\c:=h
  rcases h' with h'|⟨c,h',hc⟩<;>rw[h']
  ·exact hk
  ·exact⟨hc,hk⟩
 case my x=>
  show Ts σ d K (Di (xg true σ x))
  have h':Di (xg true σ x)=.dG v\/∃c,Di (xg true σ x)=.fY c v/\c:=h
  rcases h' with h'|⟨c,h',hc⟩<;>rw[h']
  ·exact hk
  ·exact⟨hc,hk⟩
 case iZ sz m z ps=>
  show xf sz m σ d K (fill (xg true σ) z ps)
  have h':Fu sz m (fill (xg true σ) z ps)=.dG v\/∃c,Fu sz m (fill (xg true σ) z ps)=.fY c v/\c:=h
  cases hx:fill (xg true σ) z ps<;>rw[hx]at h'
  ·rcases h' with h'|⟨c,h',_⟩<;>cases h'
  ·rcases h' with h'|⟨c,h',hc⟩
   ·cases h'
   ·injection h' with h1 h2;subst h1;subst h2;exact⟨hc,hk⟩
theorem Y.run(h:Inv G n D σ a w){ops:Array Oper}{o:Oper}{o':aH}{v:AV}(hc:ja P n ops o o'=true)(hy:Y P σ o' v){next:Act->World->Prop}{Q:Exit->Act->World->Prop}
 (hn:∀G' a' w',Inv G' n D (step σ o' v) a' w'->aR G w G' w'->next a' w'):x4 P ops o a w next Q:=by
 have gen:JH P o' σ (fun τ=>τ=step σ o' v)->x4 P ops o a w next Q:=fun hg=>jr h hc hg fun G' E' a' w' h1 h2 h3=>A_
 cases hy with
 |oU d x hi=>
  refine gen ?_
  show PK σ x d (fun τ=>τ=step σ ⟨d,.oU true x,none⟩ (σ.x x)) (σ.x x)
  refine⟨hi,?_⟩
  show _=(cu (σ.drain x) (σ.x x) d).put d (σ.x x)
  rw[IJ hi]
 |pure _ _ hq=>
  have hdr:dr o' σ=σ:=Oz A_
  have dQ:step σ o' v=(cu σ v o'.dst).put o'.dst v:=by unfold step;rw[hdr]
  rw[dQ]at hn gen
  obtain⟨d,op,g⟩:=o'
  cases g with
  |none=>
   refine gen ?_
   show Tb P op σ d (fun τ=>τ=(cu σ v d).put d v) (pv op (xg true σ) σ)
   have hq':(pv op (xg true σ) σ=.dG v\/∃c,pv op (xg true σ) σ=.fY c v/\c):=hq
   rcases hq' with hq|⟨c,hq,hcc⟩
   ·rw[hq];rfl
   ·rw[hq];exact⟨hcc,rfl⟩
  |some tw=>
   obtain⟨t,want⟩:=tw
   have hq':(Ji op want σ (look σ.e t)=.dG v\/∃c,Ji op want σ (look σ.e t)=.fY c v/\c):=hq
   rcases X8 (o:=op) (want:=want) (σ:=σ) (a:=look σ.e t)with⟨g0,b,hg0,hl⟩|hl<;>rw[hl]at hq'
   case inr=>grind
   have hgs:=fun K=>Bc (P:=P) (o:=op) (d:=d) (t:=t) (want:=want) (σ:=σ) (K:=K) hg0
   generalize(g0&&(b==want))=gg at hq' hgs
   have hq2:(Uk (Yi op) gg (pv op (xg gg σ) σ)=.dG v\/∃c,Uk (Yi op) gg (pv op (xg gg σ) σ)=.fY c v/\c):=hq'
   cases hp:pv op (xg gg σ) σ with
   |dG x=>
    refine gen ?_
    show yU P op d t want σ _ (look σ.e t)
    rw[hgs]
    show NQ P gg op σ d (fun τ=>τ=(cu σ v d).put d v) (pv op (xg gg σ) σ)
    rw[hp]
    rw[hp]at hq2
    rcases hq2 with hq|⟨c,hq,_⟩
    ·injection hq with hq;subst hq;rfl
    ·cases hq
   |fY c x=>
    refine gen ?_
    show yU P op d t want σ _ (look σ.e t)
    rw[hgs]
    show NQ P gg op σ d (fun τ=>τ=(cu σ v d).put d v) (pv op (xg gg σ) σ)
    rw[hp]
    rw[hp]at hq2
    rcases hq2 with hq|⟨c',hq,hcc⟩
    ·cases hq
    ·injection hq with hq1 hq2;subst hq1;subst hq2;exact⟨hcc,rfl⟩
   |no=>
    rw[hp]at hq2
    cases hr:Yi op with
    |false=>
     rw[hr]at hq2
     have hq3:(PR.no=.dG v\/∃c,PR.no=.fY c v/\c):=hq2
     grind
    |true=>
     rw[hr]at hq2
     have hq3:(PR.fY (gg=false) (.when gg .undef)=.dG v\/∃c,PR.fY (gg=false) (.when gg .undef)=.fY c v/\c):=hq2
     rcases hq3 with hq|⟨c',hq,hcc⟩
     ·cases hq
     injection hq with hq1 hq2
     subst hq1;subst hq2
     have hd:bN n d=true:=by
      simp only[ja,Bool.and_eq_true]at hc
      exact hc.1.1.2
     refine jr (K:=fun τ=>τ=σ.put d (.jV [])) h hc ?_ fun G' E' a' w' k1 k2 k3=>?_
     ·show yU P op d t want σ (fun τ=>τ=σ.put d (.jV [])) (look σ.e t)
      rw[hgs]
      show NQ P gg op σ d (fun τ=>τ=σ.put d (.jV [])) (pv op (xg gg σ) σ)
      rw[hp]
      exact⟨fun hb=>absurd (hb.symm.trans hcc) BY,fun _=>rfl⟩
     ·subst k3
      have e:(cu σ (.when gg .undef) d).put d (.when gg .undef)=σ.put d (.when false .undef):=by
       rw[hcc]
       have:cu σ (.when false .undef) d=σ:=G_
       show(cu σ (.when false .undef) d).put d _=_
       rw[this]
      have hn':=hn
      simp only at hn'
      rw[e]at hn'
      exact hn' G' a' w' (k1.uR hd (fun _ h=>h)) k2
 |call d f args as rs h1 h2 h3=>
  refine gen ?_
  show vu P f σ d _ (cQ (xg true σ) args)
  rw[h1]
  refine FE.app h3 ⟨h2,?_⟩
  show _=(cu σ (fS rs) d).put d (fS rs)
  rw[pF h2]
 |HR d f args t want g0 b rs h0 h2 h1=>
  have hd:bN n d=true:=by
   simp only[ja,Bool.and_eq_true]at hc
   exact hc.1.1.2
  have dQ:step σ ⟨d,.call f args,some (t,want)⟩ (.when (g0&&(b==want)) (fS rs))=σ.put d (.when (g0&&(b==want)) (fS rs)):=by
   show(cu σ (.when (g0&&(b==want)) (fS rs)) d).put d (.when (g0&&(b==want)) (fS rs))=_
   have:cu σ (.when (g0&&(b==want)) (fS rs)) d=σ:=pF h2 σ d
   rw[this]
  rw[dQ]at hn
  refine jr (K:=fun τ=>((g0&&(b==want))=true/\τ=σ.put d (fS rs))\/((g0&&(b==want))=false/\τ=σ.put d (.jV []))) h hc ?_ fun G' E' a' w' k1 k2 k3=>?_
  ·show yU P (.call f args) d t want σ _ (look σ.e t)
   rw[Bc h0]
   refine⟨fun hb=>?_,fun hb=>.inr ⟨hb,rfl⟩⟩
   obtain⟨as,q1,q2⟩:=h1 hb
   show vu P f σ d _ (cQ (xg true σ) args)
   rw[q1]
   exact FE.app q2 ⟨h2,.inl ⟨hb,rfl⟩⟩
  ·rcases k3 with⟨hb,rfl⟩|⟨hb,rfl⟩
   ·rw[hb]at hn;exact hn G' a' w' (k1.ug hd) k2
   ·rw[hb]at hn;exact hn G' a' w' (k1.uR hd (uG h2)) k2
 |iq d x args f as rs h1 hf h2 h3=>
  obtain⟨first,jv,xs,q1,q2,rfl⟩:=h1
  refine gen ?_
  show vY P σ (cQ (xg true σ) args) d _ (xg true σ x)
  rw[q1,q2]
  refine⟨hf,FE.app h3 ⟨h2,?_⟩⟩
  show _=(cu σ (fS rs) d).put d (fS rs)
  rw[pF h2]
 |BK d x args t want g0 b rs h0 h2 h1=>
  have hd:bN n d=true:=by
   simp only[ja,Bool.and_eq_true]at hc
   exact hc.1.1.2
  have dQ:step σ ⟨d,.iq x args,some (t,want)⟩ (.when (g0&&(b==want)) (fS rs))=σ.put d (.when (g0&&(b==want)) (fS rs)):=by
   show(cu σ (.when (g0&&(b==want)) (fS rs)) d).put d (.when (g0&&(b==want)) (fS rs))=_
   have:cu σ (.when (g0&&(b==want)) (fS rs)) d=σ:=pF h2 σ d
   rw[this]
  rw[dQ]at hn
  refine jr (K:=fun τ=>((g0&&(b==want))=true/\τ=σ.put d (fS rs))\/((g0&&(b==want))=false/\τ=σ.put d (.jV []))) h hc ?_ fun G' E' a' w' k1 k2 k3=>?_
  ·show yU P (.iq x args) d t want σ _ (look σ.e t)
   rw[Bc h0]
   refine⟨fun hb=>?_,fun hb=>.inr ⟨hb,rfl⟩⟩
   obtain⟨f,as,⟨first,jv,xs,q1,q2,rfl⟩,q4,q5⟩:=h1 hb
   show vY P σ (cQ (xg true σ) args) d _ (xg true σ x)
   rw[q1,q2]
   exact⟨q4,FE.app q5 ⟨h2,.inl ⟨hb,rfl⟩⟩⟩
  ·rcases k3 with⟨hb,rfl⟩|⟨hb,rfl⟩
   ·rw[hb]at hn;exact hn G' a' w' (k1.ug hd) k2
   ·rw[hb]at hn;exact hn G' a' w' (k1.uR hd (uG h2)) k2
 |US _ _ hq=>
  obtain⟨_,hnl,hlp,hdr⟩:=Qr hq
  have dQ:step σ o' v=σ.put o'.dst v:=by unfold step;rw[hdr,hlp]
  obtain⟨d,op,g⟩:=o'
  cases g with
  |none=>
   refine gen ?_
   have hq':qe (xg true σ) σ.s op=.dG v\/∃c,qe (xg true σ) σ.s op=.fY c v/\c:=hq
   show Tb P op σ d (fun τ=>τ=step σ ⟨d,op,none⟩ v) (pv op (xg true σ) σ)
   rw[(CW (hq'.imp id fun⟨c,h,_⟩=>⟨c,h⟩)).2.1]
   exact Qs hq' dQ.symm
  |some tw=>
   obtain⟨t,want⟩:=tw
   have hd:bN n d=true:=by
    simp only[ja,Bool.and_eq_true]at hc
    exact hc.1.1.2
   have hq':L8 op want σ (look σ.e t)=.dG v\/∃c,L8 op want σ (look σ.e t)=.fY c v/\c:=hq
   rcases Qq (o:=op) (want:=want) (σ:=σ) (a:=look σ.e t)with⟨g0,b,hg0,hl⟩|hl<;>rw[hl]at hq'
   case inr=>grind
   have hgs:=fun K=>Bc (P:=P) (o:=op) (d:=d) (t:=t) (want:=want) (σ:=σ) (K:=K) hg0
   generalize(g0&&(b==want))=gg at hq' hgs
   obtain⟨u,hu,hv⟩:∃u,(gg=true->(qe (xg true σ) σ.s op=.dG u\/∃c,qe (xg true σ) σ.s op=.fY c u/\c))/\v=.when gg u:=by
    have h2:NJ gg (qe (xg gg σ) σ.s op)=.dG v\/∃c,NJ gg (qe (xg gg σ) σ.s op)=.fY c v/\c:=hq'
    cases hq2:qe (xg gg σ) σ.s op with
    |dG u=>
     rw[hq2]at h2
     refine⟨u,fun hb=>?_,?_⟩
     ·grind
     ·rcases h2 with h2|⟨c,h2,_⟩
      ·injection h2 with h2;exact h2.symm
      ·cases h2
    |fY c u=>
     rw[hq2]at h2
     rcases h2 with h2|⟨c',h2,hc'⟩
     ·cases h2
     ·injection h2 with h3 h4
      grind
    |no=>rw[hq2]at h2;rcases h2 with h2|⟨c,h2,_⟩<;>cases h2
   subst hv
   have hpn:∀f τ,pv op f τ=.no:=by
    intro f τ
    have h2:NJ gg (qe (xg gg σ) σ.s op)=.dG _\/∃c,NJ gg (qe (xg gg σ) σ.s op)=.fY c _/\c:=hq'
    cases op<;>first|rfl|(rcases h2 with h2|⟨c,h2,_⟩<;>cases h2)
   rw[dQ]at hn
   refine jr (K:=fun τ=>(gg=true/\τ=σ.put d u)\/(gg=false/\τ=σ.put d (.jV []))) h hc ?_ fun G' E' a' w' k1 k2 k3=>?_
   ·show yU P op d t want σ _ (look σ.e t)
    rw[hgs,hpn]
    unfold NQ
    refine⟨fun hb=>?_,fun hb=>.inr ⟨hb,rfl⟩⟩
    show Tb P op σ d _ (pv op (xg true σ) σ)
    rw[hpn]
    exact Qs (hu hb) (.inl ⟨hb,rfl⟩)
   ·rcases k3 with⟨hb,rfl⟩|⟨hb,rfl⟩
    ·rw[hb]at hn;exact hn G' a' w' (k1.ug hd) k2
    ·rw[hb]at hn;exact hn G' a' w' (k1.uR hd fun t ht=>hnl t ht) k2
theorem L9{ops:Array Oper}{Q:Exit->Act->World->Prop}{K:St->Prop}(G₀:Gh)(w₀:World)
 (hn:∀G' E' a' w',Inv G' n D E' a' w'->aR G₀ w₀ G' w'->K E'->Q .normal a' w'):∀(q:Nat)(l:List Oper)(l':List aH)(G:Gh)(σ:St)(a:Act)(w:World),eD P n ops l l'=true->Inv G n D σ a w->aR G₀ w₀ G w->X9 P q l' σ K->wpList P ops Q l a w
 |0,l,l',G,σ,a,w,hc,h,hp,hk=>uM G₀ w₀ hn l l' G σ a w hc h hp hk
 |_+1,[],[],G,σ,a,w,_,h,hp,hk=>hn G σ a w h hp hk
 |q+1,o::l,o'::l',G,σ,a,w,hc,h,hp,hk=>by
  simp only[eD,Bool.and_eq_true]at hc
  obtain⟨hf,hk⟩:=hk
  obtain⟨v,hv,hy,hk⟩:=Qn hk
  show x4 P ops o a w (wpList P ops Q l) Q
  exact hy.run h hc.1 fun G' a' w' h1 h2=>L9 G₀ w₀ hn q l l' G' _ a' w' hc.2 h1 (hp.trans h2) hk
 |_+1,[],_::_,_,_,_,_,hc,_,_,_=>by simp[eD]at hc
 |_+1,_::_,[],_,_,_,_,hc,_,_,_=>by simp[eD]at hc
abbrev Z0:=List (Nat×aH×AV)
def fin:St->Z0->St
 |σ,[]=>σ
 |σ,(_,o,v)::r=>fin (step σ o v) r
end
section
variable{P:Program}{G G':Gh}{n:Nat}{D:List Deferred}{σ E':St}{a:Act}{w w':World}{ops:Array Oper}{jz:List aH}{q:Nat}
def mk:Nat->List aH->List AV->Z0
 |k,o::l,v::vs=>(k,o,v)::mk (k+1) l vs
 |_,_,_=>[]
def rp:∀(l:List Oper)(l':List aH),eD P n ops l l'=true->l.length=l'.length/\∀(k:Nat)(o:Oper)(o':aH),l[k]? =some o->l'[k]? =some o'->ja P n ops o o'=true
 |[],[],_=>⟨rfl,fun k o o' h=>by simp at h⟩
 |o::l,o'::l',h=>by
  simp only[eD,Bool.and_eq_true]at h
  obtain⟨h1,h2⟩:=rp l l' h.2
  refine⟨by simp[h1],fun k x x' hx hx'=>?_⟩
  cases k with
  |zero=>simp at hx hx';subst hx;subst hx';exact h.1
  |succ k=>exact h2 k x x' i_ (by simpa using hx')
 |[],_::_,h=>by simp[eD]at h
 |_::_,[],h=>by simp[eD]at h
def yD{Q:Exit->Act->World->Prop}{i:Nat}{o:Oper}{next:Act->World->Prop}(ho:ops[i]? =some o)(h:x4 P ops o a w next Q):wpOp P ops Q i next a w:=by
 unfold wpOp
 simp only[ho]
 exact h
theorem sK{j i:Nat}{o:Oper}(ho:ops[j]? =some o):nL ops j i=true↔∃e∈o.after,Region.binds .any e=true/\e.on=i:=by
 unfold nL
 rw[ho]
 show(o.after.any fun e=>Region.binds .any e&&e.on==i)=true↔_
 rw[Array.any_eq_true']
 grind
def Gl{l:Array Bool}{i:Nat}(h:l.getD i false=true):l.getD i true=true:=A_
def rQ{j:Nat}{listed:Array Bool}(h:j∈Region.ready .any ops listed):j<ops.size/\listed.getD j true=false/\∀i,nL ops j i=true->listed.getD i false=true:=by grind [mem_ready,Array.getElem?_eq_some_iff,sK]
def Wg:Up P n:=by
 intro D id ops jz q G σ a w K Q hc h hw hn
 grind [wp_region_list,L9,aR.refl]
end
def kV(off:Nat):AV->AV
 |.loc cs=>.loc (match cs[off]? with|some (.sl _ sz n ds)=>setAt cs off [.sl false sz n ds]|_=>cs)
 |a=>a
def ML(o:aH)(σ:St):St:=match o.op with
 |.oU true x=>σ.drain x
 |.store _ _ x=>σ.drain x
 |.append _ _ x _=>σ.drain x
 |.nG off (.t i) _=>{σ with e:=(i,kV off (look σ.e i))::σ.e}
 |_=>σ
def dz(o:aH)(i:Nat)(a:AV):AV:=if iB o i=true then(match o.op with|.nG off _ _=>kV off a|_=>view a)else a
theorem DT(off:Nat)(a:AV):b8 (kV off a)=b8 a:=by cases a<;>rfl
theorem Gb{off:Nat}{a:AV}{c:Nat}(h:bS (kV off a) c):bS a c:=by cases a<;>first|exact h|exact h.elim
theorem JA(off:Nat)(a:AV):view (kV off a)=kV off (view a):=by cases a<;>rfl
theorem Nq(cs:List AV)(off:Nat)(x:AV)(h:off<cs.length)(j:Nat):(setAt cs off [x])[j]? =if j=off then some x else cs[j]? :=by
 unfold setAt
 grind
theorem oy(off:Nat)(cs:List AV)(j:Nat):(match cs[off]? with|some (.sl _ sz n ds)=>setAt cs off [.sl false sz n ds]|_=>cs)[j]? =if j=off then(cs[j]?).map (fun a=>match a with|.sl _ sz n ds=>.sl false sz n ds|a=>a)else cs[j]? :=by grind [List.getElem?_eq_some_iff,setAt,Nq]
theorem Ig(o1 o2:Nat)(a:AV):kV o1 (kV o2 a)=kV o2 (kV o1 a):=by
 cases a<;>first|rfl|skip
 show AV.loc _=AV.loc _
 congr 1
 apply List.ext_getElem?
 intro j
 rw[oy,oy,oy,oy]
 grind
def c4(σ:St)(o:aH)(v:AV):St:=(cu (ML o σ) v (qU o)).put (qU o) v
def Mu(sz bytes:Nat)(v:AV):AV->AV->Prop
 |.sl true s n cs,.sl _ s' m ds=>s=sz/\(s'=sz\/m=0)/\(n+m)*bytes<=room/\v=.sl true sz (n+m) (cs++views ds)
 |.sl true s n cs,.str ds=>s=sz/\sz=1/\(n+ds.length)*bytes<=room/\v=.sl true sz (n+ds.length) (cs++ds.map fun c=>.int .u8 c.toNat)
 |_,_=>False
def VZ{sz bytes:Nat}{σ:St}{x:IX}{d:Option Nat}{K:St->Prop}{a b:AV}(h:mT sz bytes σ x d K a b):∃v,Mu sz bytes v a b/\K ((σ.drain x).put d v):=by
 unfold mT at h
 split at h
 ·obtain⟨h1,h2,h3,h4⟩:=h;exact⟨_,⟨h1,h2,h3,rfl⟩,h4⟩
 ·obtain⟨h1,h2,h3,h4⟩:=h;exact⟨_,⟨h1,h2,h3,rfl⟩,h4⟩
 grind
def VY{sz bytes:Nat}{σ:St}{x:IX}{d:Option Nat}{K:St->Prop}{a b v:AV}(h:Mu sz bytes v a b)(hk:K ((σ.drain x).put d v)):mT sz bytes σ x d K a b:=by
 unfold Mu at h
 split at h
 ·obtain⟨h1,h2,h3,h4⟩:=h;subst h4;exact⟨h1,h2,h3,hk⟩
 ·obtain⟨h1,h2,h3,h4⟩:=h;subst h4;exact⟨h1,h2,h3,hk⟩
 grind
def FV{sz bytes:Nat}{a b v:AV}(h:Mu sz bytes v a b):∃n cs,v=.sl true sz n cs:=by
 unfold Mu at h
 grind
inductive Y2(P:Program)(σ:St):aH->AV->Prop where
 |jt (o:aH) (v:AV) (h0:PE o.op=false) (hf:aU σ o.dst=true) (hv:b8 v=true) (h:Y P σ o v):Y2 P σ o v
 |Yt (n c:Nat) (x:IX) (jt:List AV) (h0:look σ.e c=.loc jt) (h1:jt.length=n) (h2:ee (σ.x x)=true) (h3:(bM (σ.x x)).length=n):Y2 P σ ⟨none,.store n (.t c) x,none⟩ (.loc (bM (σ.x x)))
 |VV (d:Nat) (z:List AV) (h0:b8 (look σ.e d)=true) (h1:mB σ.lp (some d)=true):Y2 P σ ⟨some d,.lQ z,none⟩ (.loc z)
 |app (d sz bytes:Nat) (x y:IX) (v:AV) (h0:b8 (look σ.e d)=true) (h1:Mu sz bytes v (σ.x x) (σ.x y)):Y2 P σ ⟨some d,.append sz bytes x y,none⟩ v
 |Xc (d off i:Nat) (x:IX) (cs:List AV) (o:Bool) (s m:Nat) (ds:List AV) (h0:b8 (look σ.e d)=true) (h1:σ.x x=.lp i off) (h2:look σ.e i=.loc cs) (h3:cs[off]? =some (.sl o s m ds)) (h4:d≠i):Y2 P σ ⟨some d,.nG off (.t i) x,none⟩ (.sl o s m ds)
def SC(o:aH):Option Nat:=match o with
 |⟨none,.store _ (.t c) _,none⟩=>some c
 |⟨some d,.lQ _,none⟩=>some d
 |_=>none
section
variable{P:Program}{G G':Gh}{n:Nat}{D:List Deferred}{σ E':St}{a:Act}{w w':World}{T:List Nat}
theorem Ml{o:aH}(h:PE o.op=false):qU o=o.dst:=by
 obtain⟨d,op,g⟩:=o
 cases op<;>first|(cases h;done)|(cases d<;>rfl)
theorem RT{o:aH}(h:PE o.op=false):ML o σ=dr o σ:=by
 obtain⟨d,op,g⟩:=o
 cases op<;>first|(cases h;done)|rfl|skip
 rename_i b x
 cases b<;>rfl
theorem FA{o:aH}{v:AV}(h:PE o.op=false):c4 σ o v=step σ o v:=by grind [c4,step,Ml,RT]
def Qo{o:aH}{K:St->Prop}(h:q2 P o σ K):∃v,Y2 P σ o v/\K (c4 σ o v):=by
 unfold q2 at h
 split at h
 ·rename_i m c x
  cases hl:look σ.e c<;>rw[hl]at h<;>first|(exact h.elim)|skip
  rename_i jt
  obtain⟨h1,h2,h3,h4⟩:=h
  exact⟨_,.Yt m c x jt hl h1 h2 h3,h4⟩
 ·rename_i d z
  exact⟨_,.VV d z h.1 h.2.1,h.2.2⟩
 ·rename_i d sz bytes x y
  obtain⟨v,h1,h2⟩:=VZ h.2
  refine⟨v,.app d sz bytes x y v h.1 h1,?_⟩
  obtain⟨m,cs,rfl⟩:=FV h1
  exact h2
 ·rename_i d off i x
  obtain⟨k0,k1,k2⟩:=h
  have k1':∃i' o',σ.x x=.lp i' o'/\i'=i/\o'=off:=by
   unfold Cp at k1
   split at k1
   ·grind
   ·cases k1
  obtain⟨i',o',e1,rfl,rfl⟩:=k1'
  rw[e1]at k2
  have k2:(match look σ.e i' with
   |.loc cs=>some d≠some i'/\DB o' cs fun cs' a=>K ((σ.put (some i') (.loc cs')).put (some d) a)
   |_=>False):=k2
  cases hl:look σ.e i'<;>rw[hl]at k2<;>first|(exact k2.elim)|skip
  rename_i cs
  obtain⟨k3,k4⟩:=k2
  unfold DB at k4
  split at k4
  ·rename_i o s m ds hc
   refine⟨.sl o s m ds,.Xc d o' i' x cs o s m ds k0 e1 hl hc (fun e=>k3 (by rw[e])),?_⟩
   have e2:c4 σ ⟨some d,.nG o' (.t i') x,none⟩ (.sl o s m ds)=(σ.put (some i') (.loc (setAt cs o' [.sl false s m ds]))).put (some d) (.sl o s m ds):=by
    unfold c4 ML
    simp only[hl,kV,hc]
    rfl
   grind
  grind
 ·exact h.elim
 ·exact h.elim
 ·exact h.elim
 ·exact h.elim
 ·have h0:PE o.op=false:=by
   obtain⟨d,op,g⟩:=o
   cases op<;>first|rfl|grind|grind|grind|grind
  obtain⟨v,q1,q2,q3⟩:=Qn h.2
  exact⟨v,.jt o v h0 h.1 q1 q2,by grind [FA]⟩
theorem tE(x:IX)(i:Nat):look (σ.drain x).e i=if(match x with|.t j=>j==i|.c _=>false)=true then view (look σ.e i)else look σ.e i:=by
 cases x with
 |c a=>rfl
 |t j=>
  show look ((j,view (look σ.e j))::σ.e) i=_
  grind [bA]
theorem PF(o:aH)(i:Nat):look (ML o σ).e i=dz o i (look σ.e i):=by
 obtain⟨d,op,g⟩:=o
 cases op<;>first|rfl|skip
 case oU b x=>
  cases b with
  |false=>rfl
  |true=>
   show look (σ.drain x).e i=_
   rw[tE]
   cases x<;>rfl
 case store m p x=>
  show look (σ.drain x).e i=_
  rw[tE]
  cases x<;>rfl
 case append sz bytes x y=>
  show look (σ.drain x).e i=_
  rw[tE]
  cases x<;>rfl
 case nG off j x=>
  cases j with
  |c a=>rfl
  |t j=>
   show look ((j,kV off (look σ.e j))::σ.e) i=if(j==i)=true then kV off (look σ.e i)else look σ.e i
   grind [bA]
def Gc(x:IX):(σ.drain x).s=σ.s/\(σ.drain x).lp=σ.lp:=by cases x<;>exact⟨rfl,rfl⟩
theorem UN(o:aH):(ML o σ).s=σ.s/\(ML o σ).lp=σ.lp:=by
 unfold ML
 split
 ·exact Gc _
 ·exact Gc _
 ·exact Gc _
 ·grind
 grind
theorem ez(o:aH)(v:AV)(i:Nat):look (c4 σ o v).e i=if qU o=some i then v else dz o i (look σ.e i):=by
 unfold c4
 rw[<-PF]
 cases hd:qU o with
 |none=>grind [St.put,oH,ML]
 |some d=>
  show look ((d,v)::(cu (ML o σ) v (some d)).e) i=_
  grind [bA,oH,ML]
theorem pM(o:aH)(v:AV):(c4 σ o v).s=σ.s:=by
 unfold c4
 have:∀(τ:St) d x,(τ.put d x).s=τ.s:=fun τ d x=>G_
 grind [oH,ML,qU,UN]
theorem qS(o:aH)(v:AV)(x:Nat×Nat):x∈(c4 σ o v).lp↔(x∈σ.lp\/∃i,qU o=some i/\x.1=i/\bS v x.2):=by
 have h1:(c4 σ o v).lp=(cu (ML o σ) v (qU o)).lp:=by unfold c4;cases qU o<;>rfl
 grind [UN,I1,qU]
def yI(T:List Nat)(σ:St):Prop:=∀i c,c∈T->¬bS (look σ.e i) c
def GB(T:List Nat)(o:aH)(v:AV):Prop:=∀i,qU o=some i->∀c,c∈T->¬bS v c
def inT(T:List Nat)(o:aH):Prop:=∀c,SC o=some c->c∈T
def I0:∀{c:Nat}{a:AV},oG c a=true->¬bS a c
 |c,.lp t o,h=>fun e=>by
  subst e
  have h':(!Nat.beq t t)=true:=h
  simp_all
 |c,.when b a,h=>I0 (a:=a) h
 |_,.undef,_|_,.bool _,_|_,.int _ _,_|_,.str _,_|_,.fO,_|_,.ref _ _,_|_,.sp _,_|_,.loc _,_|_,.sl _ _ _ _,_|_,.arr _ _ _ _,_|_,.agg _,_|_,.jV _,_|_,.fn _ _ _,_|_,.p8,_|_,.mp _,_|_,.tH,_|_,.us _ _ _,_|_,.one,_|_,.oo _,_|_,.l9,_|_,.bb _ _ _,_=>fun h=>h
def E7:∀{T:List Nat}{a:AV},wE T a=true->∀c,c∈T->¬bS a c
 |c'::T,a,h,c,hc=>by
  have h':(oG c' a&&wE T a)=true:=h
  rw[Bool.and_eq_true]at h'
  rcases List.mem_cons.1 hc with rfl|hc
  ·exact I0 h'.1
  ·exact E7 h'.2 c hc
def tI:∀{e:List (Nat×AV)},nh T e=true->∀i c,c∈T->¬bS (look e i) c
 |[],_,i,c,_=>fun h=>h
 |(j,a)::e,h,i,c,hc=>by
  have h':(wE T a&&nh T e)=true:=h
  rw[Bool.and_eq_true]at h'
  rw[bA]
  split
  ·exact E7 h'.1 c hc
  ·exact tI h'.2 i c hc
theorem K3{v:AV}{c:Nat}(h:bS (view v) c):bS v c:=by cases v<;>first|exact h|exact h.elim
def OB{o:aH}{i:Nat}{a:AV}{c:Nat}(h:bS (dz o i a) c):bS a c:=by grind [dz,Gb,K3]
def MN(o:aH)(i:Nat)(a:AV):b8 (dz o i a)=b8 a:=by grind [dz,DT,I5]
theorem EI{o:aH}{i:Nat}{a:AV}(h:¬iB o i=true):dz o i a=a:=if_neg h
def RV(x y:aH)(i:Nat)(a:AV):dz x i (dz y i a)=dz y i (dz x i a):=by
 unfold dz
 grind [Ig,JA]
theorem GU(m off o:Nat)(a:AV):nH m off (kV o a)=nH m off a:=by
 cases a<;>first|rfl|skip
 rename_i cs
 have hv:views (match cs[o]? with|some (.sl _ sz n ds)=>setAt cs o [.sl false sz n ds]|_=>cs)=views cs:=by
  apply List.ext_getElem?
  intro j
  rw[fG,fG,oy]
  by_cases hj:j=o
  ·rw[if_pos hj]
   cases cs[j]? with
   |none=>rfl
   |some b=>cases b<;>rfl
  ·grind
 show jg m off _=jg m off cs
 grind [setAt,jg,views,AB.sub,List.map_take,List.map_drop]
def Qv(m off:Nat)(o:aH)(i:Nat)(a:AV):nH m off (dz o i a)=nH m off a:=by grind [dz,GU,KQ]
def Dv{o:aH}{v:AV}(h:yI T σ)(hs:GB T o v):yI T (c4 σ o v):=fun i c hc=>by
 rw[ez]
 split
 ·rename_i ht;exact hs i ht c hc
 ·exact fun hh=>h i c hc (OB hh)
def E8{o:aH}{v:AV}(h:yI T (c4 σ o v)):GB T o v:=fun i hi c hc=>by
 have:=h i c hc
 rw[ez,if_pos hi]at this
 exact this
def Qw{o:aH}{v:AV}(hy:Y2 P σ o v)(p:AV)(m:Nat)(hp:∀c,SC o=some c->¬bS p c):rd (c4 σ o v) p m=rd σ p m:=by
 cases p<;>try rfl
 ·rename_i b off
  show vi m off ((c4 σ o v).s b)=vi m off (σ.s b)
  rw[pM]
 ·rename_i d off
  show nH m off (look (c4 σ o v).e d)=nH m off (look σ.e d)
  rw[ez]
  by_cases hd:qU o=some d
  ·rw[if_pos hd]
   cases hy with
   |jt _ _ h0 hf hv h=>
    rw[Ml h0]at hd
    rw[hd]at hf
    rw[nk hv]
    exact(nk hf m off).symm
   |Yt m' c x jt h0 h1 h2 h3=>
    have e:=hd
    injection e with e
    subst e
    exact(hp c rfl rfl).elim
   |VV d' z h0 h1=>
    have e:=hd
    injection e with e
    subst e
    exact(hp d' rfl rfl).elim
   |app d' sz bytes x y _ h0 h1=>
    have e:=hd
    injection e with e
    obtain⟨k,cs,rfl⟩:=FV h1
    rw[nk rfl]
    grind [nk]
   |Xc d' Xy i x cs o s m' ds h0 h1 h2 h3 h4=>
    have e:=hd
    injection e with e
    rw[nk rfl]
    grind [nk]
  ·rw[if_neg hd]
   exact Qv ..
def aag{o:aH}(h:V3 o=true){a:AV}(ha:IX.c a∈ff o.op)(c:Nat):¬bS a c:=by
 have:=List.all_eq_true.1 h _ ha
 cases a<;>first|exact fun h=>h|grind
def NG{g:Bool}:∀{a:AV}{c:Nat},bS (vK g a) c->bS a c:=by
 intro a c h
 cases a
 case when b a=>
  have h':bS (bif(b==g||b)&&inner a then a else AV.undef) c:=h
  cases hb:((b==g||b)&&inner a)<;>rw[hb]at h'
  ·exact h'.elim
  ·exact h'
 all_goals exact h
def Rd{o:aH}(hc:V3 o=true)(h:yI T σ){x:IX}(hx:x∈ff o.op)(g:Bool){c:Nat}(ht:c∈T):¬bS (xg g σ x) c:=fun hh=>by
 have h':=NG hh
 cases x with
 |c a=>exact aag hc hx c h'
 |t i=>exact h i c ht h'
def Ez{o y:aH}{v:AV}(hy:Y2 P σ y v)(hn:ma (qU y) (da o)=true)(hdr:zW y o=true)(hc:V3 o=true)(hN:yI T σ)(hT:inT T y):JE o σ (c4 σ y v):=by
 have key:∀i,i∈da o->look (c4 σ y v).e i=look σ.e i:=by
  intro i hi
  have h1:¬iB y i=true:=by
   have:=List.all_eq_true.1 hdr i hi
   simpa using this
  rw[ez,if_neg,EI h1]
  intro hd
  rw[hd]at hn
  simp[ma]at hn
  exact hn hi
 refine⟨fun x hx=>?_,fun t want hg=>?_,(pM y v).symm,fun x hx g m=>(Qw hy _ m fun c hc'=>Rd hc hN hx g (hT c hc')).symm⟩
 ·cases x with
  |c a=>rfl
  |t i=>exact(key i (List.mem_append_right _ (jS hx))).symm
 ·exact(key t (List.mem_append_left _ (by rw[hg];exact List.mem_cons_self))).symm
def Y2.Ru{o:aH}{v:AV}(hy:Y2 P σ o v)(h:JE o σ E')(hf:∀i,o.dst=some i->b8 (look E'.e i)=b8 (look σ.e i))(hl:∀i,SC o=some i->mB σ.lp (some i)=true->mB E'.lp (some i)=true):Y2 P E' o v:=by
 cases hy with
 |jt _ _ h0 hs hv h1=>
  refine .jt o v h0 ?_ hv (h1.Ru h)
  cases hd:o.dst with
  |none=>rfl
  |some i=>
   rw[hd]at hs
   show b8 (look E'.e i)=true
   rw[hf i hd];exact hs
 |Yt m c x jt h0 h1 h2 h3=>
  have e1:look σ.e c=look E'.e c:=h.xs (.t c) X_
  have e2:=h.xs x X_
  rw[e2]at h2 h3⊢
  exact .Yt m c x jt A_ h1 h2 h3
 |VV d z h0 h1=>exact .VV d z A_ (hl d rfl h1)
 |app d sz bytes x y _ h0 h1=>
  have e1:=h.xs x X_
  have e2:=h.xs y X_
  exact .app d sz bytes x y v A_ A_
 |Xc d off i x cs o s m ds h0 h1 h2 h3 h4=>
  have e1:=h.xs x X_
  have e2:look σ.e i=look E'.e i:=h.xs (.t i) X_
  exact .Xc d off i x cs o s m ds A_ A_ A_ h3 h4
theorem qX.c4(h:qX σ E')(o:aH)(v:AV):qX (AB.c4 σ o v) (AB.c4 E' o v):=⟨fun i=>by rw[ez,ez,h.e],fun x=>by rw[qS,qS,h.lp],by rw[pM,pM,h.s]⟩
def tF{l l':List (Nat×Nat)}{i:Nat}(h:∀x∈l',x.2=i->x∈l)(hf:mB l (some i)=true):mB l' (some i)=true:=by
 refine List.all_eq_true.2 fun x hx=>?_
 cases hb:Nat.beq x.2 i with
 |false=>rfl
 |true=>
  have:=List.all_eq_true.1 hf x (h x hx (Nat.eq_of_beq_eq_true hb))
  grind
def Y2.eqv{o:aH}{v:AV}(hy:Y2 P σ o v)(h:qX σ E'):Y2 P E' o v:=hy.Ru (h.Ru o) (fun i _=>by rw[h.e]) fun i _ hf=>tF (fun x hx _=>(h.lp x).2 hx) hf
def KY{x y:aH}{u v:AV}(hne:∀i j,qU x=some i->qU y=some j->i≠j)(hxy:∀i,qU y=some i->iB x i=false)(hyx:∀i,qU x=some i->iB y i=false):qX (c4 (c4 σ x u) y v) (c4 (c4 σ y v) x u):=
 ⟨fun i=>by
   rw[ez,ez,ez,ez]
   by_cases h1:qU y=some i
   ·by_cases h2:qU x=some i
    ·grind
    ·rw[if_pos h1,if_neg h2,if_pos h1,EI A_]
   ·by_cases h2:qU x=some i
    ·rw[if_neg h1,if_pos h2,if_pos h2,EI A_]
    ·rw[if_neg h1,if_neg h2,if_neg h2,if_neg h1]
     exact RV _ _ _ _,fun z=>by
   grind [qS],by grind [pM]⟩
theorem Np{jt news:List AV}(h:news.length=jt.length):setAt jt 0 news=news:=by
 unfold setAt
 grind
theorem Sa(d sz bytes:Nat)(x y:IX)(K:St->Prop):JH P ⟨some d,.append sz bytes x y,none⟩ σ K=mT sz bytes σ x (some d) K (σ.x x) (σ.x y):=W_
theorem Y2.run(h:Inv G n D σ a w){ops:Array Oper}{o:Oper}{o':aH}{v:AV}(hc:ja P n ops o o'=true)(hy:Y2 P σ o' v){next:Act->World->Prop}{Q:Exit->Act->World->Prop}
 (hn:∀G' a' w',Inv G' n D (c4 σ o' v) a' w'->aR G w G' w'->next a' w'):x4 P ops o a w next Q:=by
 have gen:JH P o' σ (fun τ=>τ=c4 σ o' v)->x4 P ops o a w next Q:=fun hg=>jr h hc hg fun G' E' a' w' h1 h2 h3=>A_
 cases hy with
 |jt _ _ h0 _ _ h1=>exact h1.run h hc fun G' a' w' k1 k2=>hn G' a' w' (by grind [FA]) k2
 |Yt m c x jt h0 h1 h2 h3=>
  refine gen ?_
  refine⟨h2,h3,?_⟩
  have e:JC (σ.drain x) (σ.x (.t c)) (.t c) (bM (σ.x x))=some ((σ.drain x).put (some c) (.loc (bM (σ.x x)))):=by
   have e1:σ.x (.t c)=.loc jt:=h0
   rw[e1]
   show YH (σ.drain x) c (gQ 0 (bM (σ.x x)) jt)=_
   unfold gQ
   rw[decide_eq_true AT,Np AT]
   rfl
  rw[e]
  rfl
 |VV d z h0 h1=>exact gen ⟨h1,rfl⟩
 |app d sz bytes x y _ h0 h1=>
  refine gen ?_
  rw[Sa]
  refine VY h1 ?_
  obtain⟨k,cs,rfl⟩:=FV h1
  rfl
 |Xc d off i x cs o s m ds h0 h1 h2 h3 h4=>
  refine gen ?_
  show Cp (.t i) off (σ.x x)=true/\rP σ (some d) _ (σ.x x)
  rw[h1]
  refine⟨by simp[Cp],?_⟩
  show match look σ.e i with|.loc cs=>some d≠some i/\DB off cs _|_=>False
  rw[h2]
  refine⟨fun e=>h4 A_,?_⟩
  unfold DB
  unfold c4 ML
  simp[h2,kV,h3]
  rfl
theorem sS{o:aH}{i:Nat}(h:iB o i=true):i∈da o:=by
 unfold iB at h
 split at h
 ·rename_i j hop
  have:j=i:=A_
  subst this
  refine List.mem_append_right _ ?_
  rw[hop];exact List.mem_cons_self
 ·rename_i m p j hop
  have:j=i:=A_
  subst this
  refine List.mem_append_right _ ?_
  rw[hop]
  cases p with
  |t k=>exact List.mem_cons_of_mem _ List.mem_cons_self
  |c k=>exact List.mem_cons_self
 ·rename_i sz bytes j y hop
  have:j=i:=A_
  subst this
  refine List.mem_append_right _ ?_
  rw[hop];exact List.mem_cons_self
 ·rename_i off j x hop
  have:j=i:=A_
  subst this
  refine List.mem_append_right _ ?_
  rw[hop];exact List.mem_cons_self
 ·cases h
def NW{x y:aH}(h:Z3 x y=true):ma (qU x) (da y)=true/\ma (qU y) (da x)=true/\(∀i j,qU x=some i->qU y=some j->i≠j)/\zW x y=true/\zW y x=true/\(∀i,qU y=some i->iB x i=false)/\(∀i,qU x=some i->iB y i=false)/\V3 x=true/\V3 y=true:=by
 unfold Z3 at h
 grind [ma,iB,absurd,sS]
theorem Bb{o:aH}{i:Nat}(h:o.dst=some i):qU o=some i:=by
 obtain⟨d,op,g⟩:=o
 have h':=h
 subst h'
 cases op<;>rfl
def rR{y:aH}{v:AV}{i:Nat}(h:qU y≠some i):b8 (look (c4 σ y v).e i)=b8 (look σ.e i):=by
 rw[ez,if_neg h]
 exact MN _ _ _
end
section
variable{P:Program}{G G':Gh}{n:Nat}{D:List Deferred}{σ E':St}{a:Act}{w w':World}{ops:Array Oper}{jz:List aH}{q:Nat}{T:List Nat}
end
end Go.AB
end
