/- A part of the proof: Ab15, Ab15m, Ab15n, Ab15p. -/
import Derived.Test.YtkeagffgdajggaaGreatSo5
import Derived.MapKept
import Derived.ChangeKeysEq
set_option linter.unusedSimpArgs false
set_option linter.unusedVariables false
section
namespace Go.AB
open Go
section
variable{P:Program}{G G':Gh}{n:Nat}{D:List Deferred}{σ:St}{a:Act}{w w':World}
def Gh.outer(G:Gh):Gh:=⟨G.R,fun b=>match G.O b with
 |.none=>.none
 |.sh=>.sh
 |.cell b' j=>if G.O b'=.sh then .cell b' j else .frame
 |_=>.frame⟩
theorem kz{b:Nat}:G.outer.O b=.none↔G.O b=.none:=by
 simp only[Gh.outer]
 split<;>simp_all
 split<;>simp
theorem mS{b:Nat}:G.outer.O b=.sh↔G.O b=.sh:=by
 simp only[Gh.outer]
 split<;>simp_all
 split<;>simp
theorem BD{b b' j:Nat}:G.outer.O b=.cell b' j↔(G.O b=.cell b' j∧G.O b'=.sh):=by
 simp only[Gh.outer]
 split<;>simp_all
 rename_i b1 j1 _
 by_cases hb:G.O b1=.sh
 ·rw[if_pos hb]
  constructor
  ·intro e;injection e with e1 e2;subst e1;subst e2;exact⟨⟨rfl,rfl⟩,hb⟩
  ·rintro⟨⟨rfl,rfl⟩,_⟩;rfl
 ·rw[if_neg hb]
  constructor
  ·intro e;cases e
  ·rintro⟨⟨rfl,rfl⟩,h⟩;exact absurd h hb
theorem jt{b:Nat}(h1:G.O b≠.none)(h2:G.O b≠.sh)(h3:∀b' j,G.O b=.cell b' j→G.O b'≠.sh):G.outer.O b=.frame:=by
 simp only[Gh.outer]
 split<;>first|(rename_i e;exact absurd e h1)|(rename_i e;exact absurd e h2)|rfl|skip
 rename_i b' j e
 rw[if_neg (h3 b' j e)]
theorem su(G:Gh):yu G.outer:=by
 intro b
 by_cases h1:G.O b=.none
 ·exact .inl (kz.2 h1)
 ·by_cases h2:G.O b=.sh
  ·exact .inr (.inr (.inl (mS.2 h2)))
  ·by_cases h3:∃b' j,G.O b=.cell b' j∧G.O b'=.sh
   ·obtain⟨b',j,e1,e2⟩:=h3
    exact .inr (.inr (.inr ⟨b',j,BD.2 ⟨e1,e2⟩,mS.2 e2⟩))
   ·exact .inr (.inl (jt h1 h2 fun b' j e hb'=>h3 ⟨b',j,e,hb'⟩))
def MR:List AV→Bool
 |[_]=>true
 |_=>false
def Zs(single:Bool):Option Nat→Nat→cY
 |some i,j=>.slot i (if single then j else j+1)
 |none,_=>.none
def Xi(single:Bool)(d:Option Nat):cY→cY
 |.none=>.none
 |.sh=>.sh
 |.cell b' j=>.cell b' j
 |.res j=>Zs single d j
 |_=>.none
theorem Inv.args(h:Inv G n D σ a w){ys:List Operand}{xs:List IX}{as:List AV}(hc:fZ ys xs=true)(hv:cc (xg true σ) xs=some as):nk w G.R as (ys.map a.eval).toArray:=by
 have hf:∀(o:Operand)(x:IX),bw o x=true→c9 (xg true σ x)=true→VR w G.R (xg true σ x) (a.eval o):=fun o x hx hi=>by
  have:=BR.aJ h hx
  generalize xg true σ x=av at hi this
  cases av<;>first|exact this|(simp[c9]at hi)
 obtain⟨h1,_,h3⟩:=rl h hf ys xs as hc hv
 exact⟨by simp[h1],fun j c u hc hu=>h3 j c u hc (by simpa using hu)⟩
theorem Inv.o6(h:Inv G n D σ a w):b9 G.outer w∧aW G.outer w σ.s:=⟨⟨fun b hb=>kz.2 (h.aO.iA b hb),h.aO.iU⟩,h.store.wI (fun _ _ hv=>hv) (fun _ hb=>⟨mS.2 hb,rfl,rfl⟩) (fun _ _ _ hb hc=>⟨BD.2 ⟨hc,hb⟩,rfl,rfl⟩)⟩
theorem B8{r:AV}(h:iO [r]=true):(∃sz m cs,r=.us sz m cs)∨(c9 r=true∧∀sz m cs,r≠.us sz m cs):=by cases r<;>first|exact .inl ⟨_,_,_,rfl⟩|exact .inr ⟨by simpa[iO,MS]using h,fun _ _ _ e=>by cases e⟩
theorem B7{r:AV}(h:iO [r]=true)(t:Nat):¬bH r t:=by
 rcases B8 h with⟨_,_,_,rfl⟩|⟨h,_⟩
 ·exact fun h=>h
 ·exact eH h t
theorem NU{r:AV}(h:iO [r]=true)(cs:List AV):r≠.loc cs:=by
 rcases B8 h with⟨_,_,_,rfl⟩|⟨h,_⟩
 ·exact fun h=>by cases h
 ·exact l9 h cs
theorem Inv.behind(h:Inv G n D σ a w){d:Option Nat}(hd:ba n d=true){rs:List AV}{s':ab}{v:Value}(hok:iO rs=true)(hg:b9 G' w')(hs:aW G' w' s')(hr:ni G' w' rs v)(hp:aG G.outer w G' w'):
 ∃G2,Inv G2 n D ({σ with s:=s'}.put d (eR rs)) (a.put d v) w'∧aG G w G2 w':=by
 obtain⟨O2,hO2⟩:∃O2:Nat→cY,∀b,O2 b=if G.outer.O b=.frame then G.O b else Xi (MR rs) d (G'.O b):=⟨_,fun _=>rfl⟩
 let G2:Gh:=⟨G'.R,O2⟩
 have hfr:∀b,G.outer.O b=.frame→b<w.heap.size∧w'.heap[b]? =w.heap[b]? ∧G'.O b=.frame∧G'.R b=G.R b∧G2.O b=G.O b:=by
  intro b hb
  have hlt:b<w.heap.size:=h.o6.1.lt (by rw[hb];simp)
  obtain⟨q1,q2⟩:=hp.jG b hlt hb
  exact⟨hlt,hp.frame b hlt (.inl hb),q1,q2,(hO2 b).trans (if_pos hb)⟩
 have hnf:∀b,G.outer.O b≠.frame→G2.O b=Xi (MR rs) d (G'.O b):=by
  intro b hb
  exact(hO2 b).trans (if_neg hb)
 have hgood:b9 G2 w':=by
  refine⟨fun b hb=>?_,fun b hb=>hg.iU b hb⟩
  have hbs:w.heap.size≤b:=Nat.le_trans hp.size hb
  rw[hnf b (by rw[kz.2 (h.aO.iA b hbs)];simp),hg.iA b hb];rfl
 have hpres:aG G w G2 w':=by
  refine⟨hp.os,hp.tape,hp.output,hp.drawn,hp.size,hp.mono,hp.lD,fun b hb ho=>?_,fun b hb ho=>?_,fun b hb ho=>?_⟩
  ·rcases ho with ho|ho
   ·exact hp.frame b hb (.inl (jt (by rw[ho];simp) (by rw[ho];simp) (by rw[ho];simp)))
   ·exact hp.frame b hb (.inr (kz.2 ho))
  ·obtain⟨_,_,_,q4,q5⟩:=hfr b (jt (by rw[ho];simp) (by rw[ho];simp) (by rw[ho];simp))
   exact⟨q5.trans ho,q4⟩
  ·have ho':=kz.2 ho
   obtain⟨q1,q2⟩:=hp.oY b hb ho'
   exact⟨by rw[hnf b (by rw[ho'];simp),q1];rfl,q2⟩
 have hkeep:∀b,(G'.O b=.sh∨∃b' j,G'.O b=.cell b' j)→G2.O b=G'.O b:=by
  intro b hb
  by_cases hf:G.outer.O b=.frame
  ·have:=(hfr b hf).2.2.1
   rcases hb with hb|⟨_,_,hb⟩<;>rw[this]at hb<;>cases hb
  ·rw[hnf b hf]
   rcases hb with hb|⟨_,_,hb⟩<;>rw[hb]<;>rfl
 have c6:aW G2 w' s':=hs.wI (fun _ _ hv=>hv) (fun b hb=>⟨(hkeep b (.inl hb)).trans hb,rfl,rfl⟩) (fun b c j _ hc=>⟨(hkeep c (.inr ⟨b,j,hc⟩)).trans hc,rfl,rfl⟩)
 have hres:∀(i j:Nat)(x:AV)(y:Value),d=some i→df G' w' (.res j) x y→df G2 w' (.slot i (if MR rs then j else j+1)) x y:=by
  intro i j x y hdi ho
  unfold df at ho⊢
  split
  ·rename_i sz m cs
   intro base m' cap hv hc
   obtain⟨b,off,c,e,fz,q1,q2,q3⟩:=ho base m' cap hv hc
   refine⟨b,off,c,e,fz,q1,?_,q3⟩
   have hf:G.outer.O b≠.frame:=fun hf=>by have:=(hfr b hf).2.2.1;rw[q2]at this;cases this
   rw[hnf b hf,q2,hdi];rfl
  ·rename_i e m cs
   intro base m' cap hv hc
   obtain⟨b,off,c,fz,q1,q2,q3⟩:=ho base m' cap hv hc
   refine⟨b,off,c,fz,q1,?_,q3⟩
   have hf:G.outer.O b≠.frame:=fun hf=>by have:=(hfr b hf).2.2.1;rw[q2]at this;cases this
   rw[hnf b hf,q2,hdi];rfl
  ·trivial
 have hput:=h.put (s':=s') (lp':=σ.lp) d (fun i hi=>by subst hi;simpa[ba]using hd) (eR rs) v hgood hpres c6 (fun _ hx=>hx)
  (fun i t _ ht=>by
    match rs,hok,ht with
    |[r],hok,ht=>exact(B7 hok t ht).elim
    |[],_,ht=>exact ht.elim
    |_::_::_,_,ht=>exact ht.elim)
  (fun i t _⟨cs,hcs⟩=>by
    match rs,hok,hcs with
    |[r],hok,hcs=>exact(NU hok cs hcs).elim
    |[],_,hcs=>cases hcs
    |_::_::_,_,hcs=>cases hcs)
  (fun i b _ hb=>by
    have hf:G.outer.O b=.frame:=by rcases hb with⟨j,hb⟩|hb<;>exact jt (by rw[hb];simp) (by rw[hb];simp) (by rw[hb];simp)
    obtain⟨_,q2,_,q4,q5⟩:=hfr b hf
    exact⟨q5,q4,q2⟩)
  (fun i b c j _ hb hc=>by
    have hf:G.outer.O c=.frame:=jt (by rw[hc];simp) (by rw[hc];simp) (fun b' j' e=>by rw[hc]at e;injection e with e1 e2;subst e1;rw[hb];simp)
    obtain⟨_,q2,_,q4,q5⟩:=hfr c hf
    exact⟨q5.trans hc,q4,q2⟩)
  (fun i hi=>by
    match rs,hok,hr,hres with
    |[r],hok,hr,hres=>
     show da G2 w' _ _ i r v
     rcases B8 hok with⟨sz,m,cs,rfl⟩|⟨hV,hnu⟩
     ·rcases hr with hr|⟨b,cap,c,t,sp,h1,h2,h3,h4,h5,h6⟩
      ·exact .inl hr
      ·refine .inr ⟨b,cap,c,t,sp,h1,h2,h3,?_,h5,h6⟩
       have hf:G.outer.O b≠.frame:=fun hf=>by have:=(hfr b hf).2.2.1;rw[h4]at this;cases this
       show O2 b=_
       rw[show O2 b=G2.O b from rfl,hnf b hf,h4,hi];rfl
     ·rw[da.oo hV]
      have hr':VR w' G'.R r v∧df G' w' (.res 0) r v:=by cases r<;>first|exact hr|exact absurd rfl (hnu _ _ _)
      exact⟨hr'.1,hres i 0 r v hi hr'.2⟩
    |[],_,hr,hres=>
     obtain⟨ys,q1,q2⟩:=hr
     exact⟨ys,q1,q2.1,fun j x y hx=>by simp at hx⟩
    |r1::r2::rr,_,hr,hres=>
     obtain⟨ys,q1,q2⟩:=hr
     exact⟨ys,q1,q2.1,fun j x y hx hy=>⟨(q2.2 j x y hx hy).1,hres i j x y hi (q2.2 j x y hx hy).2⟩⟩)
 exact⟨G2,by cases d<;>exact hput,hpres⟩
theorem DB(h:Inv G n D σ a w){op:Op}{ty:TypeId}{d:Option Nat}{K:St→Prop}(hd:ba n d=true){f:FuncId}{as:List AV}{vs:Array Value}
 (hr:∀(pos:String)(after:Array Edge)(g:Option (Nat×Bool)),(execOp a.eval ⟨d,op,ty,pos,after,g⟩).run P w=.ok (.enter f vs) w)(ha:nk w G.R as vs)(hw:FN P f as σ.s (JO σ d K)):mj P G n D w a op ty d K:=by
 intro pos after g next Q hn
 unfold Oper.wp
 rw[hr pos after g]
 obtain⟨g1,g2⟩:=h.o6
 refine(hw G.outer w vs g1 (su G) g2 ha).mono fun e w'⟨v,rs,s',G',he,⟨hok,hk⟩,q1,q2,q3,q4⟩=>?_
 subst he
 obtain⟨G2,h1,h2⟩:=h.behind hd hok q1 q2 q3 q4
 exact hn G2 _ _ _ h1 h2 hk
theorem qb{f:FuncId}{fn:Func}(hf:P.funcs[f]? =some fn)(hname:(fn.name != "runtime.NumGoroutine")=true)(hb:fn.body.isSome=true)(args:Array Value):(callFunc f args).run P w=.ok (.enter f args) w:=by
 have h1:¬(fn.name= "runtime.NumGoroutine"):=by simpa using hname
 have h2:fn.body.isNone=false:=by cases hbb:fn.body<;>simp_all
 have h3:fn.body≠none:=by intro e;rw[e]at hb;cases hb
 simp[callFunc,hf,h1,h3]
theorem Gz(h:Inv G n D σ a w){op:Op}{ty:TypeId}{f:Nat}{args:List IX}{d:Option Nat}{K:St→Prop}(hd:ba n d=true)(hc:au P op ty (.call f args)=true)(hw:gH P (.call f args) d σ K):mj P G n D w a op ty d K:=by
 cases op<;>first|(simp[au]at hc;done)|skip
 rename_i c
 obtain⟨callee,ys,ats⟩:=c
 simp only[au]at hc
 split at hc<;>try(cases hc;done)
 rename_i g
 simp only[Bool.and_eq_true,beq_iff_eq]at hc
 obtain⟨⟨rfl,hxs⟩,hfn⟩:=hc
 split at hfn<;>try(cases hfn;done)
 rename_i fn hf
 rw[Bool.and_eq_true]at hfn
 have hw':rv P f σ d K (cc (xg true σ) args):=hw
 cases has:cc (xg true σ) args with
 |none=>rw[has]at hw';exact hw'.elim
 |some as=>
  rw[has]at hw'
  refine DB h hd (as:=as) (vs:=ys.map a.eval) (fun _ _ _=>?_) ?_ hw'
  ·simp[execOp,resolve,Act.eval,Deferred.ofValue,invoke,qb hf hfn.1 hfn.2]
  ·have:=h.args hxs has
   rwa[show(ys.toList.map a.eval).toArray=ys.map a.eval from by apply Array.ext';simp]at this
theorem AH{t:TypeId}{m:Nat}(h:iY P t m=true):∃i,P.info? t=some i∧i.bytes=m:=by
 unfold iY at h
 split at h
 ·exact⟨_,by assumption,by simpa using h⟩
 ·cases h
theorem yq{c:Int}(h0:0≤c)(h1:c≤9223372036854775807):IntKind.i64.wrap c=c:=by rw[IntKind.wrap_i64];omega
theorem NP{c:Int}{by':Nat}(h0:0≤c)(hb:0<by')(hr:c*by'≤room):c≤room∧IntKind.i64.wrap c=c∧¬(281474976710656<by'*c):=by
 have h1:c≤c*by':=by
  have:=Int.mul_le_mul_of_nonneg_left (show(1:Int)≤by' by omega) h0
  omega
 have h2:c≤room:=Int.le_trans h1 hr
 refine⟨h2,?_,?_⟩
 ·unfold room at h2
  exact yq (by omega) (by omega)
 ·rw[Int.mul_comm]at hr
  unfold room at hr
  omega
theorem vR{α:Type}(u:α)(l:List α):∀(m:Nat),((List.replicate m l).flatten)=((List.range (m*l.length)).map fun i=>l.getD (i % l.length) u):=by
 intro m
 apply List.ext_getElem?
 intro j
 rcases Nat.eq_zero_or_pos l.length with h0|hp
 ·have:l=[]:=List.eq_nil_of_length_eq_zero h0
  subst this
  simp
 ·induction m generalizing j with
  |zero=>simp
  |succ m ih=>
   rw[List.replicate_succ,List.flatten_cons]
   by_cases hj:j<l.length
   ·rw[List.getElem?_append_left hj,List.getElem?_map,List.getElem?_range (by rw[Nat.add_mul,Nat.one_mul];omega)]
    simp[Nat.mod_eq_of_lt hj,List.getD_eq_getElem?_getD,List.getElem?_eq_getElem hj]
   ·rw[List.getElem?_append_right (by omega),ih,List.getElem?_map,List.getElem?_map]
    by_cases hlt:j<(m+1)*l.length
    ·have h1:j -l.length<m*l.length:=by rw[Nat.add_mul,Nat.one_mul]at hlt;omega
     rw[List.getElem?_range hlt,List.getElem?_range h1]
     simp only[Option.map_some]
     congr 2
     rw[Nat.mod_eq_sub_mod (by omega:l.length≤j)]
    ·have h1:¬(j -l.length<m*l.length):=by rw[Nat.add_mul,Nat.one_mul]at hlt;omega
     rw[List.getElem?_eq_none (by simp;omega),List.getElem?_eq_none (by simp;omega)]
theorem run_makeSlice{t e:TypeId}{i:TypeInfo}{z:Value}{l c:Int}{k k':IntKind}(ht:P.underlying t=some (.slice e))(hi:P.info? e=some i)(hz:i.zero=some z)(hsz:z.cells.size=i.size)(hb:0<i.bytes)(h0:0≤l)(hlc:l≤c)(hr:c*i.bytes≤room)(w:World):
 (Instr.makeSlice t (.int k l) (.int k' c)).run P w=.ok (.slice (some ⟨w.heap.size,0,none⟩) l.toNat c.toNat) (w.alloc (.cells ((List.replicate c.toNat z.cells.toList).flatten).toArray e)):=by
 obtain⟨h1,h2,h3⟩:=NP (Int.le_trans h0 hlc) hb hr
 have h4:IntKind.i64.wrap l=l:=yq (by omega) (by unfold room at h1;omega)
 have h5:¬(c<0):=by omega
 have h6:¬(l<0):=by omega
 have h7:¬(c<l):=by omega
 have hrow:(Array.map (fun x=>(if c.toNat*i.size=0 then(#[]:Array Value)else z.cells)[x % (if c.toNat*i.size=0 then(#[]:Array Value)else z.cells).size]!) (Array.range (c.toNat*i.size)))=((List.replicate c.toNat z.cells.toList).flatten).toArray:=by
  rw[←sX,hsz]
  by_cases hn:c.toNat*i.size=0
  ·simp[hn]
  ·simp[hn,hsz]
 by_cases hn:c.toNat*i.size=0
 ·simp only[hn,if_true]at hrow
  simp[Instr.makeSlice,asInt,asIntOf,run_underlying ht,typeInfo,sizeOf,hi,h2,h4,h3,h5,h6,h7,newRow,hn,←hrow]
 ·simp only[hn,if_false]at hrow
  simp[Instr.makeSlice,asInt,asIntOf,run_underlying ht,typeInfo,sizeOf,hi,h2,h4,h3,h5,h6,h7,newRow,hn,zeroValue,hz,hrow]
theorem K0(h:Inv G n D σ a w){op:Op}{ty:TypeId}{x:IX}{args:List IX}{d:Option Nat}{K:St→Prop}(hd:ba n d=true)(hc:au P op ty (.eC x args)=true)(hw:gH P (.eC x args) d σ K):mj P G n D w a op ty d K:=by
 cases op<;>first|(simp[au]at hc;done)|skip
 rename_i c
 obtain⟨callee,ys,ats⟩:=c
 simp only[au]at hc
 split at hc<;>try(cases hc;done)
 rename_i y
 simp only[Bool.and_eq_true]at hc
 obtain⟨hx,hxs⟩:=hc
 have hb:=BR.aJ h hx
 have hw':uL P σ (cc (xg true σ) args) d K (xg true σ x):=hw
 generalize xg true σ x=xv at hb hw'
 unfold uL at hw'
 split at hw'<;>try(exact hw'.elim)
 rename_i f first caps
 cases has:cc (xg true σ) args with
 |none=>rw[has]at hw';exact hw'.elim
 |some as=>
  rw[has]at hw'
  have hv:VR w G.R (.fn f first caps) (a.eval y):=hb
  generalize hev:a.eval y=yv at hv
  cases hv with
  |fn _ _ _ vf vc hl hr hl' hr'=>
  have hargs:=h.args hxs has
  obtain⟨hfs,hw'⟩:=hw'
  unfold vS at hfs
  split at hfs<;>try(cases hfs;done)
  rename_i fn hf
  rw[Bool.and_eq_true]at hfs
  refine DB h hd (as:=first++as++caps) (vs:=vf++(ys.toList.map a.eval).toArray++vc) (fun _ _ _=>?_) ?_ hw'
  ·rw[show(ys.toList.map a.eval).toArray=ys.map a.eval from by apply Array.ext';simp]
   simp[execOp,resolve,hev,Deferred.ofValue,invoke,qb hf hfs.1 hfs.2]
  ·refine⟨by have:=hargs.1;simp at this;simp[hl,hl',this],fun j c u hc hu=>?_⟩
   have h1:=hargs.1
   rw[List.append_assoc,List.getElem?_append]at hc
   rw[Array.append_assoc,Array.getElem?_append]at hu
   by_cases hj:j<first.length
   ·rw[if_pos hj]at hc
    rw[if_pos (by omega)]at hu
    exact hr j c u hc hu
   ·rw[if_neg hj,List.getElem?_append]at hc
    rw[if_neg (by omega),Array.getElem?_append,hl,h1]at hu
    by_cases hj2:j -first.length<as.length
    ·rw[if_pos hj2]at hc hu
     exact hargs.2 _ c u hc hu
    ·rw[if_neg hj2]at hc hu
     exact hr' _ c u hc hu
theorem Iy(h:Inv G n D σ a w){op:Op}{ty:TypeId}{sz by':Nat}{z:List AV}{l c:IX}{d:Option Nat}{K:St→Prop}(hd:ba n d=true)(hc:au P op ty (.gE sz by' z l c)=true)(hw:gH P (.gE sz by' z l c) d σ K):mj P G n D w a op ty d K:=by
 cases op<;>first|(simp[au]at hc;done)|skip
 rename_i t l' c'
 simp only[au,Bool.and_eq_true]at hc
 obtain⟨⟨hl,hcc⟩,hc⟩:=hc
 split at hc<;>try(cases hc;done)
 rename_i e he
 simp only[Bool.and_eq_true,decide_eq_true_eq]at hc
 obtain⟨⟨⟨⟨hs,hby⟩,hz⟩,hsz⟩,hbp⟩:=hc
 have hb1:=BR.aJ h hl
 have hb2:=BR.aJ h hcc
 have hw':wG by' z σ d K (xg true σ l) (xg true σ c):=hw
 generalize xg true σ l=lv at hb1 hw'
 generalize xg true σ c=cv at hb2 hw'
 unfold wG at hw'
 split at hw'<;>try(exact hw'.elim)
 rename_i k l0 k' c0
 obtain⟨q1,q2,q3,q4⟩:=hw'
 obtain⟨i,v,h1,h2,h3,h4,h5⟩:=tE hz
 obtain⟨i',h6,h7⟩:=AH hby
 rw[h1]at h6;injection h6 with h6;subst h6
 have e1:=VR.bO hb1
 have e2:=VR.bO hb2
 have hrow0:=h4 w G.R
 have hcells:v.cells.toList.length=z.length:=by simpa using hrow0.1
 have hfl:Fl (List.replicate c0.toNat z).flatten:=by
  intro x hx
  simp only[List.mem_flatten,List.mem_replicate]at hx
  obtain⟨l',⟨_,rfl⟩,hx⟩:=hx
  exact hrow0.2.2 x hx
 have hcs:∀(G':Gh)(w':World)(o:Nat→cY),aG G w G' w'→db G' w' o (List.replicate c0.toNat z).flatten ((List.replicate c0.toNat v.cells.toList).flatten).toArray:=by
  intro G' w' o _
  have hall:∀(j:Nat)(x:AV)(y:Value),((List.replicate c0.toNat z).flatten)[j]? =some x→((List.replicate c0.toNat v.cells.toList).flatten)[j]? =some y→cR y x=true:=by
   intro j x y hx hy
   have hjz:(List.replicate c0.toNat z).flatten=(List.range (c0.toNat*z.length)).map fun i=>z.getD (i % z.length) .undef:=vR .undef z c0.toNat
   have hjv:(List.replicate c0.toNat v.cells.toList).flatten=(List.range (c0.toNat*z.length)).map fun i=>v.cells.toList.getD (i % z.length) undef:=by rw[vR undef,hcells]
   rw[hjz,List.getElem?_map]at hx
   rw[hjv,List.getElem?_map]at hy
   cases hrg:(List.range (c0.toNat*z.length))[j]? with
   |none=>rw[hrg]at hx;cases hx
   |some q=>
    rw[hrg]at hx hy
    simp only[Option.map_some,Option.some.injEq]at hx hy
    have hzp:0<z.length:=by
     rcases Nat.eq_zero_or_pos z.length with h0|h0
     ·rw[h0]at hrg;simp at hrg
     ·exact h0
    have hlt:=Nat.mod_lt q hzp
    refine h5 (q % z.length) x y ?_ ?_
    ·rw[←hx];simp[List.getD_eq_getElem?_getD,hlt]
    ·rw[←hy]
     have hlt2:q % z.length<v.cells.size:=by have:=hrow0.1;omega
     simp[List.getD_eq_getElem?_getD,hlt2]
  refine⟨by simp[hcells],fun j x y hx hy=>?_⟩
  have:=hall j x y hx (by simpa using hy)
  exact⟨ru this w' G'.R,AL this G' w' _⟩
 obtain⟨G',g1,g2⟩:=h.I7 hd (t:=e) (.inr ⟨l0.toNat,c0.toNat,rfl,rfl⟩) hcs hfl
 intro pos after g next Q hn
 refine aN (v:=.slice (some ⟨w.heap.size,0,none⟩) l0.toNat c0.toNat) (w':=w.alloc (.cells ((List.replicate c0.toNat v.cells.toList).flatten).toArray e)) ?_ (hn G' _ _ _ g1 g2 (q4 w.heap.size (h.store.get_none h.aO)))
 have:=run_makeSlice (k:=k) (k':=k') (cC he) h1 h2 (by rw[h3];simpa using hcells) (by omega) q1 q2 (by rw[h7];exact q3) w
 simp[execOp,e1,e2,this]
theorem Ix(h:Inv G n D σ a w){op:Op}{ty:TypeId}{sz by':Nat}{c:IX}{d:Option Nat}{K:St→Prop}(hd:ba n d=true)(hc:au P op ty (.xZ sz by' c)=true)(hw:gH P (.xZ sz by' c) d σ K):mj P G n D w a op ty d K:=by
 cases op<;>first|(simp[au]at hc;done)|skip
 rename_i t l' c'
 simp only[au,Bool.and_eq_true]at hc
 obtain⟨⟨hl,hcc⟩,hc⟩:=hc
 split at hl<;>try(cases hl;done)
 split at hc<;>try(cases hc;done)
 rename_i e he
 simp only[Bool.and_eq_true,decide_eq_true_eq]at hc
 obtain⟨⟨⟨⟨hs,hby⟩,hz⟩,hsz⟩,hbp⟩:=hc
 have hb2:=BR.aJ h hcc
 have hw':Ak sz by' σ d K (xg true σ c):=hw
 generalize xg true σ c=cv at hb2 hw'
 unfold Ak at hw'
 split at hw'<;>try(exact hw'.elim)
 rename_i k' c0
 obtain⟨q2,q3,q4⟩:=hw'
 obtain⟨i,h1,h3⟩:=iE hs
 obtain⟨i',h6,h7⟩:=AH hby
 rw[h1]at h6;injection h6 with h6;subst h6
 unfold qi at hz
 rw[h1]at hz
 simp only at hz
 split at hz<;>try(cases hz;done)
 rename_i v h2
 rw[Bool.and_eq_true]at hz
 have hcells:v.cells.size=sz:=by simpa using hz.1
 have e2:=VR.bO hb2
 obtain⟨G',g1,g2⟩:=h.Kf (t:=e) (c:=((List.replicate c0.toNat v.cells.toList).flatten).toArray) (m:=0) (cs:=[]) (cap:=c0.toNat) (sz:=sz) (ob:=match d with|some i=>.slot i 0|none=>.none) hd (fun i hi=>by subst hi;rfl) (fun hn=>by subst hn;rfl) (by simp) (Nat.zero_le _) (by simp[hcells]) Fl.nil
  (fun j x hx=>by simp at hx) (0,0) ⟨fun k hk hh=>by omega,Nat.le_refl _⟩ (own:=true) (fun _=>.inl rfl) (fun k y _ hy=>by
    have hm:y∈(List.replicate c0.toNat v.cells.toList).flatten:=by rw[List.getElem?_toArray]at hy;exact List.mem_of_getElem? hy
    simp only[List.mem_flatten,List.mem_replicate]at hm
    obtain⟨l,⟨_,rfl⟩,hm⟩:=hm
    exact List.all_eq_true.1 hz.2 y hm)
 intro pos after g next Q hn
 refine aN (v:=.slice (some ⟨w.heap.size,0,none⟩) 0 c0.toNat) (w':=w.alloc (.cells ((List.replicate c0.toNat v.cells.toList).flatten).toArray e)) ?_ (hn G' _ _ _ g1 g2 q4)
 have:=run_makeSlice (k:=.i64) (k':=k') (l:=0) (cC he) h1 h2 (by rw[hcells,h3]) (by omega) (Int.le_refl 0) q2 (by rw[h7];exact q3) w
 have e0:a.eval (.const (.int .i64 0))=.int .i64 0:=rfl
 simp[execOp,e0,e2,this]
theorem GA(h:Inv G n D σ a w){op:Op}{ty:TypeId}{d:Option Nat}{K:St→Prop}(hd:ba n d=true)(hc:au P op ty .makeMap=true)(hw:gH P .makeMap d σ K):mj P G n D w a op ty d K:=by
 cases op<;>first|(simp[au]at hc;done)|skip
 rename_i t r
 cases r with
 |some r=>simp[au]at hc
 |none=>
 have hp:=(fF h.aO (.map #[] 0) .sh 0).2.1
 have hs:aW (G.oA w.heap.size .sh 0) (w.alloc (.map #[] 0)) (σ.s.set w.heap.size (.map [])):=by
  intro b o hb
  unfold ab.set at hb
  by_cases he:b=w.heap.size
  ·rw[if_pos he]at hb
   injection hb with hb
   subst hb;subst he
   exact⟨by simp,by simp,#[],0,heap_alloc_new w _,rfl,fun j x y hx=>by simp at hx⟩
  ·rw[if_neg he]at hb
   exact jr h.store h.aO _ .sh 0 b o hb
 obtain⟨h1,h2⟩:=h.alloc (.map #[] 0) .sh 0 d hd (.mp w.heap.size) (.map (some w.heap.size)) σ.lp hs (fun _ hx=>hx) (fun i t' _ ht=>ht.elim) (fun i t' _⟨cs',hcs'⟩=>by cases hcs')
  (fun i hi=>⟨.mp _,trivial⟩)
 intro pos after g next Q hn
 refine aN (v:=.map (some w.heap.size)) (w':=w.alloc (.map #[] 0)) ?_ (hn _ _ _ _ (by cases d<;>exact h1) h2 (hw w.heap.size (h.store.get_none h.aO)))
 simp[execOp,Instr.makeMap]
end
end Go.AB
end
section
namespace Go.AB
open Go Go.MapKept
def KV:ly→Value→Prop
 |.int k,v=>∃n,v=.int k n
 |.str,v=>∃s,v=.string s
 |.bool,v=>∃b,v=.bool b
 |.bytes n,v=>∃xs:Array Value,v=.agg xs∧xs.size=n∧∀u∈xs,∃m,u=.int .u8 m
section
variable{P:Program}{w:World}
structure L2(P:Program)(kt:TypeId)(kk:ly):Prop where
 check:∀(w:World)(em:Bool)(v:Value),KV kk v→(Instr.checkKey em 10000 kt v).run P w=.ok () w
 find:∀(w:World)(x:Value),KV kk x→∀es:List MapEntry,(∀e∈es,KV kk e.key)→
  ((Instr.findKey kt x es).run P w=.ok none w∧∀e∈es,e.key≠x)∨∃j e,(Instr.findKey kt x es).run P w=.ok (some (j,e.val)) w∧es[j]? =some e∧e.key=x∧∀(i:Nat)(e':MapEntry),i<j→es[i]? =some e'→e'.key≠x
 stays:∀(w:World)(v:Value),KV kk v→(Instr.keyThatStays v v).run P w=.ok v w
theorem tN{d:TypeDesc}{k:Value}(hk:IsKey d k):∀(l:List MapEntry)(i:Nat),(∀x∈l,IsKey d x.key)→
 (Instr.findNow d k l i=some none∧∀x∈l,x.key≠k)∨∃j e,Instr.findNow d k l i=some (some (i+j,e.val))∧l[j]? =some e∧e.key=k∧∀(m:Nat)(e':MapEntry),m<j→l[m]? =some e'→e'.key≠k
 |[],_,_=>.inl ⟨rfl,by simp⟩
 |e::es,i,h=>by
  obtain⟨r,hr,hiff⟩:=sameNow_of_keys hk (h e (.head _))
  cases r with
  |true=>exact .inr ⟨0,e,by simp[Instr.findNow,hr],rfl,(hiff.1 rfl).symm,fun m e' hm=>by omega⟩
  |false=>
   have hne:e.key≠k:=fun q=>by have:=hiff.2 q.symm;cases this
   rcases tN hk es (i+1) (fun x hx=>h x (.tail _ hx))with⟨h1,h2⟩|⟨j,e',h1,h2,h3,h4⟩
   ·exact .inl ⟨by simp[Instr.findNow,hr,h1],fun x hx=>by
     cases hx with
     |head=>exact hne
     |tail _ hx=>exact h2 x hx⟩
   ·refine .inr ⟨j+1,e',by simp[Instr.findNow,hr,h1];omega,by simpa using h2,h3,fun m x hm hx=>?_⟩
    cases m with
    |zero=>simp at hx;subst hx;exact hne
    |succ m=>exact h4 m x (by omega) (by simpa using hx)
theorem od{kt:TypeId}{d:TypeDesc}{kk:ly}(hd:P.underlying kt=some d)(hK:∀v,KV kk v→IsKey d v):L2 P kt kk where
 check:=fun w em v hv=>run_checkKey hd (hK v hv) em 9999
 find:=fun w x hx es hes=>by
  rcases tN (hK x hx) es 0 (fun e he=>hK _ (hes e he))with⟨h1,h2⟩|⟨j,e,h1,h2,h3,h4⟩
  ·exact .inl ⟨run_findKey hd h1,h2⟩
  ·exact .inr ⟨j,e,by rw[run_findKey hd h1,Nat.zero_add],h2,h3,h4⟩
 stays:=fun w v hv=>run_keyThatStays (hK v hv)
theorem vo{e off:Nat}{i:TypeInfo}(he:P.underlying e=some (.int .u8))(hi:P.info? e=some i)(h1:i.size=1)(xs:Array Value)(x:Value)(hx:xs[off]? =some x)(w:World):(part e xs off).run P w=.ok x w:=by
 have hag:(isAgg e).run P w=.ok false w:=jv (multi:=false) (by unfold lE;rw[he];rfl) w
 simp[part,hag,hx]
theorem sN{e:TypeId}{i:TypeInfo}(he:P.underlying e=some (.int .u8))(hi:P.info? e=some i)(h1:i.size=1)(d:Nat)(xs ys:Array Value)(n:Nat)
 (hx:∀j,j<n→∃a b,xs[j]? =some (.int .u8 a)∧ys[j]? =some (.int .u8 b)):∀(l:List Nat),(∀j∈l,j<n)→∀w,
 ∃r:Bool,(Op.eqItems (d+1) e (P.cellsOf e) xs ys l).run P w=.ok r w∧(r=true↔∀j∈l,xs[j]? =ys[j]?)
 |[],_,w=>⟨true,by simp[Op.eqItems],by simp⟩
 |j::l,hl,w=>by
  obtain⟨a,b,ha,hb⟩:=hx j (hl j (.head _))
  have hc:P.cellsOf e=1:=by unfold Program.cellsOf;rw[hi];simpa using h1
  have e1:=vo he hi h1 xs _ ha w
  have e2:=vo he hi h1 ys _ hb w
  have e3:=run_equalIn_int (P:=P) w d e .u8 .u8 a b he
  obtain⟨r,hr,hiff⟩:=sN he hi h1 d xs ys n hx l (fun j hj=>hl j (.tail _ hj)) w
  rw[hc]at hr
  by_cases hab:a=b
  ·subst hab
   refine⟨r,?_,?_⟩
   ·simp only[Op.eqItems,hc,Nat.mul_one,Sem.run_bind,e1,e2,e3,Result.andThen_ok,beq_self_eq_true,Bool.not_true,Bool.false_eq_true,if_false]
    exact hr
   ·rw[hiff]
    simp[ha,hb]
  ·refine⟨false,?_,?_⟩
   ·have:(a==b)=false:=by simpa using hab
    simp[Op.eqItems,hc,e1,e2,e3,this]
   ·simp[ha,hb,hab]
theorem zA{kt e:TypeId}{n:Nat}{i:TypeInfo}(hk:P.underlying kt=some (.array n e))(he:P.underlying e=some (.int .u8))(hi:P.info? e=some i)(h1:i.size=1){x y:Value}(hx:KV (.bytes n) x)(hy:KV (.bytes n) y)(w:World):
 ∃r:Bool,(Op.equal kt x y).run P w=.ok r w∧(r=true↔y=x):=by
 obtain⟨xs,rfl,hxs,hx'⟩:=hx
 obtain⟨ys,rfl,hys,hy'⟩:=hy
 have hxy:∀j,j<n→∃a b,xs[j]? =some (.int .u8 a)∧ys[j]? =some (.int .u8 b):=fun j hj=>by
  obtain⟨a,ha⟩:=hx' xs[j] (Array.getElem_mem _)
  obtain⟨b,hb⟩:=hy' ys[j] (Array.getElem_mem _)
  exact⟨a,b,by rw[Array.getElem?_eq_getElem (by omega),ha],by rw[Array.getElem?_eq_getElem (by omega),hb]⟩
 obtain⟨r,hr,hiff⟩:=sN he hi h1 9997 xs ys n hxy (List.range n) (fun j hj=>List.mem_range.1 hj) w
 refine⟨r,?_,?_⟩
 ·show(Op.equalIn (9999+1) kt (.agg xs) (.agg ys)).run P w=_
  rw[run_equalIn_array w 9999 xs ys hk hi]
  obtain⟨r',hr',hiff'⟩:=sN he hi h1 9998 xs ys n hxy (List.range n) (fun j hj=>List.mem_range.1 hj) w
  have:r=r':=by cases r<;>cases r'<;>simp_all
  rw[this];exact hr'
 ·rw[hiff]
  constructor
  ·intro h
   have:ys=xs:=by
    apply Array.ext (by omega)
    intro j h1 h2
    have:=h j (List.mem_range.2 (by omega))
    rw[Array.getElem?_eq_getElem (by omega),Array.getElem?_eq_getElem (by omega)]at this
    injection this with this;exact this.symm
   rw[this]
  ·intro h j _
   injection h with h
   rw[h]
theorem oG{kt e:TypeId}{n:Nat}{i:TypeInfo}(hk:P.underlying kt=some (.array n e))(he:P.underlying e=some (.int .u8))(hi:P.info? e=some i)(h1:i.size=1){k:Value}(hkv:KV (.bytes n) k):∀(l:List MapEntry)(i:Nat),(∀x∈l,KV (.bytes n) x.key)→∀w:World,
 ((Instr.findAsking kt k l i).run P w=.ok none w∧∀x∈l,x.key≠k)∨∃j e,(Instr.findAsking kt k l i).run P w=.ok (some (i+j,e.val)) w∧l[j]? =some e∧e.key=k∧∀(m:Nat)(e':MapEntry),m<j→l[m]? =some e'→e'.key≠k
 |[],_,_,w=>.inl ⟨by simp[Instr.findAsking],by simp⟩
 |x::es,i0,h,w=>by
  obtain⟨r,hr,hiff⟩:=zA hk he hi h1 hkv (h x (.head _)) w
  cases r with
  |true=>exact .inr ⟨0,x,by simp[Instr.findAsking,hr],rfl,hiff.1 rfl,fun m e' hm=>by omega⟩
  |false=>
   have hne:x.key≠k:=fun q=>by have:=hiff.2 q;cases this
   rcases oG hk he hi h1 hkv es (i0+1) (fun x hx=>h x (.tail _ hx)) w with⟨h1,h2⟩|⟨j,e',h1,h2,h3,h4⟩
   ·exact .inl ⟨by simp[Instr.findAsking,hr,h1],fun y hy=>by
     cases hy with
     |head=>exact hne
     |tail _ hy=>exact h2 y hy⟩
   ·refine .inr ⟨j+1,e',by simp[Instr.findAsking,hr,h1];omega,by simpa using h2,h3,fun m x hm hx=>?_⟩
    cases m with
    |zero=>simp at hx;subst hx;exact hne
    |succ m=>exact h4 m x (by omega) (by simpa using hx)
theorem AO{kt e:TypeId}{n:Nat}{i:TypeInfo}(hk:P.underlying kt=some (.array n e))(he:P.underlying e=some (.int .u8))(hi:P.info? e=some i)(h1:i.size=1){k:Value}(hkv:KV (.bytes n) k)(em:Bool)(w:World):(Instr.checkKey em 10000 kt k).run P w=.ok () w:=by
 obtain⟨xs,rfl,hxs,hx'⟩:=hkv
 show(Instr.checkKey em (9999+1) kt (.agg xs)).run P w=_
 unfold Instr.checkKey
 simp only[Sem.run_bind,run_underlying hk,Result.andThen_ok]
 have key:∀(l:List Nat),(∀j∈l,j<n)→∀w:World,(forIn (m:=Sem) l PUnit.unit fun i _=>do
  let a←part e xs (i*(←sizeOf e))
  Instr.checkKey em 9999 e a
  pure (ForInStep.yield PUnit.unit)).run P w=.ok PUnit.unit w:=by
  intro l
  induction l with
  |nil=>intro _ w;simp
  |cons j l ih=>
   intro hl w
   have hj:=hl j (.head _)
   obtain⟨a,ha⟩:=hx' xs[j] (Array.getElem_mem _)
   have e1:=vo he hi h1 xs (.int .u8 a) (off:=j) (by rw[Array.getElem?_eq_getElem (by omega),ha]) w
   have e2:(Instr.checkKey em (9998+1) e (.int .u8 a)).run P w=.ok () w:=run_checkKey (d:=.int .u8) (k:=.int .u8 a) he (show IsKey (.int .u8) (.int .u8 a) from rfl) em 9998
   have hs:cy P e 1=true:=by unfold cy;rw[hi];simpa using h1
   rw[List.forIn_cons]
   simp only[Sem.run_bind,run_sizeOf hs w,Result.andThen_ok,Nat.mul_one,e1,e2,Sem.run_pure]
   exact ih (fun j hj=>hl j (.tail _ hj)) w
 simp only[Std.Legacy.Range.forIn_eq_forIn_range',Std.Legacy.Range.size,Nat.sub_zero,Nat.add_one_sub_one,Nat.div_one]
 rw[key (List.range' 0 n) (fun j hj=>by simp at hj;omega) w]
 simp
theorem DU{kt:TypeId}{kk:ly}(h:IZ P kt kk=true):L2 P kt kk:=by
 cases kk with
 |int k=>
  simp only[IZ]at h
  split at h<;>first|(cases h;done)|skip
  rename_i k' hk
  have:k=k':=by simpa[Kb]using h
  subst this
  exact od hk fun v⟨n,e⟩=>by subst e;rfl
 |str=>
  simp only[IZ]at h
  split at h<;>first|(cases h;done)|skip
  rename_i hk
  exact od hk fun v⟨n,e⟩=>by subst e;trivial
 |bool=>
  simp only[IZ]at h
  split at h<;>first|(cases h;done)|skip
  rename_i hk
  exact od hk fun v⟨n,e⟩=>by subst e;trivial
 |bytes n=>
  simp only[IZ]at h
  split at h<;>first|(cases h;done)|skip
  rename_i m e hk
  simp only[Bool.and_eq_true,beq_iff_eq]at h
  obtain⟨⟨rfl,he⟩,hs⟩:=h
  split at he<;>first|(cases he;done)|skip
  rename_i he'
  have he:=he'
  unfold cy at hs
  split at hs<;>first|(cases hs;done)|skip
  rename_i i hi
  have h1:i.size=1:=by simpa using hs
  refine⟨fun w em v hv=>AO hk he hi h1 hv em w,fun w x hx es hes=>?_,fun w v hv=>?_⟩
  ·obtain⟨xs,rfl,hx1,hx2⟩:=hx
   have hrun:∀r,(Instr.findAsking kt (.agg xs) es).run P w=.ok r w→(∀e∈es,True)→((Instr.findNow (.array m e) (.agg xs) es 0=none)∨es=[])→(Instr.findKey kt (.agg xs) es).run P w=.ok r w:=by
    intro r hr _ hn
    rcases hn with hn|hn
    ·simp[Instr.findKey,run_underlying hk,hn,hr]
    ·subst hn
     simp[Instr.findAsking]at hr
     simp[Instr.findKey,run_underlying hk,Instr.findNow,hr]
   have hn:Instr.findNow (.array m e) (.agg xs) es 0=none∨es=[]:=by
    cases es with
    |nil=>exact .inr rfl
    |cons x l=>exact .inl (by simp[Instr.findNow,Instr.sameNow])
   rcases oG hk he hi h1 ⟨xs,rfl,hx1,hx2⟩ es 0 hes w with⟨q1,q2⟩|⟨j,e',q1,q2,q3,q4⟩
   ·exact .inl ⟨hrun _ q1 (fun _ _=>trivial) hn,q2⟩
   ·rw[Nat.zero_add]at q1
    exact .inr ⟨j,e',hrun _ q1 (fun _ _=>trivial) hn,q2,q3,q4⟩
  ·obtain⟨xs,rfl,hx1,hx2⟩:=hv
   have:Instr.sameBits 10000 (.agg xs) (.agg xs)=true:=by
    show Instr.sameBits (9999+1) (.agg xs) (.agg xs)=true
    unfold Instr.sameBits
    simp only[beq_self_eq_true,Bool.true_and,List.all_eq_true]
    intro p hp
    have h2:=List.of_mem_zip hp
    have h3:p.1=p.2:=by
     obtain⟨i,hi⟩:=List.mem_iff_getElem?.1 hp
     rw[List.getElem?_zip_eq_some]at hi
     rw[hi.1]at hi
     exact Option.some.inj hi.2
    obtain⟨mm,hm⟩:=hx2 p.1 (by simpa using h2.1)
    obtain⟨p1,p2⟩:=p
    simp only at h3 hm⊢
    subst h3;subst hm
    simp[Instr.sameBits]
   simp[Instr.keyThatStays,this]
theorem si{kk:ly}{a:AV}{v:Value}{R:Nat→Nat}(h:fL kk a=true)(hv:VR w R a v):KV kk v:=by
 unfold fL at h
 split at h
 ·rename_i k k' n
  have:k=k':=by simpa[Kb]using h
  subst this
  exact⟨n,VR.bO hv⟩
 ·exact⟨_,VR.eT hv⟩
 ·exact⟨_,VR.gm hv⟩
 ·rename_i n cs
  simp only[Bool.and_eq_true,beq_iff_eq]at h
  obtain⟨vs,rfl,hs,hr,_⟩:=VR.l6 hv
  refine⟨vs,rfl,by omega,fun u hu=>?_⟩
  obtain⟨i,hi⟩:=Array.mem_iff_getElem?.1 hu
  have hlt:i<cs.length:=by have:=(Array.getElem?_eq_some_iff.1 hi).1;omega
  have hc:=List.getElem?_eq_getElem hlt
  have h8:A8 cs[i]=true:=List.all_eq_true.1 h.2 _ (List.getElem_mem hlt)
  have hvr:=hr i _ u hc hi
  generalize cs[i]=c at h8 hvr
  unfold A8 at h8
  split at h8
  ·exact⟨_,VR.bO hvr⟩
  ·cases h8
 ·cases h
theorem DT:∀(cs ds:List AV),cs.all A8=true→ds.all A8=true→(pR cs ds=true↔cs=ds)
 |[],[],_,_=>by simp[pR]
 |[],_::_,_,_=>by simp[pR]
 |_::_,[],_,_=>by simp[pR]
 |a::cs,b::ds,h1,h2=>by
  simp only[List.all_cons,Bool.and_eq_true]at h1 h2
  have ih:=DT cs ds h1.2 h2.2
  have ha:=h1.1;have hb:=h2.1
  unfold A8 at ha hb
  split at ha<;>first|(cases ha;done)|skip
  split at hb<;>first|(cases hb;done)|skip
  simp[pR,MW,ih]
theorem Ld{kk:ly}{a b:AV}{x y:Value}{R:Nat→Nat}(ha:fL kk a=true)(hb:fL kk b=true)(hx:VR w R a x)(hy:VR w R b y):sf a b=true↔y=x:=by
 cases kk with
 |int k=>
  cases a<;>first|(simp[fL]at ha;done)|skip
  cases b<;>first|(simp[fL]at hb;done)|skip
  rename_i k1 n1 k2 n2
  have e1:k=k1:=by simpa[fL,Kb]using ha
  have e2:k=k2:=by simpa[fL,Kb]using hb
  subst e1;subst e2
  rw[VR.bO hx,VR.bO hy]
  show((n1==n2)&&true)=true↔_
  rw[Bool.and_true,beq_iff_eq]
  exact⟨fun h=>by rw[h],fun h=>by injection h with _ h;exact h.symm⟩
 |str=>
  cases a<;>first|(simp[fL]at ha;done)|skip
  cases b<;>first|(simp[fL]at hb;done)|skip
  rename_i s1 s2
  rw[VR.eT hx,VR.eT hy]
  show((s1==s2)&&true)=true↔_
  rw[Bool.and_true,beq_iff_eq]
  refine⟨fun h=>by rw[h],fun h=>?_⟩
  injection h with h
  have:s2.toArray=s1.toArray:=congrArg ByteArray.data h
  have:=congrArg Array.toList this
  simpa using this.symm
 |bool=>
  cases a<;>first|(simp[fL]at ha;done)|skip
  cases b<;>first|(simp[fL]at hb;done)|skip
  rename_i s1 s2
  rw[VR.gm hx,VR.gm hy]
  show((s1==s2)&&true)=true↔_
  rw[Bool.and_true,beq_iff_eq]
  exact⟨fun h=>by rw[h],fun h=>by injection h with h;exact h.symm⟩
 |bytes n=>
  cases a<;>first|(simp[fL]at ha;done)|skip
  cases b<;>first|(simp[fL]at hb;done)|skip
  rename_i cs ds
  simp only[fL,Bool.and_eq_true,beq_iff_eq]at ha hb
  show pR cs ds=true↔_
  rw[DT cs ds ha.2 hb.2]
  obtain⟨vs,rfl,h1,h2,_⟩:=VR.l6 hx
  obtain⟨us,rfl,k1,k2,_⟩:=VR.l6 hy
  constructor
  ·intro e
   subst e
   congr 1
   apply Array.ext (by omega)
   intro j q1 q2
   have hlt:j<cs.length:=by omega
   have hc:=List.getElem?_eq_getElem hlt
   have r1:=h2 j _ vs[j] hc (Array.getElem?_eq_getElem q2)
   have r2:=k2 j _ us[j] hc (Array.getElem?_eq_getElem q1)
   have h8:A8 cs[j]=true:=List.all_eq_true.1 ha.2 _ (List.getElem_mem hlt)
   generalize cs[j]=c at h8 r1 r2
   unfold A8 at h8
   split at h8
   ·rw[VR.bO r1,VR.bO r2]
   ·cases h8
  ·intro e
   injection e with e
   subst e
   apply List.ext_getElem (by omega)
   intro j q1 q2
   have r1:=h2 j _ us[j] (List.getElem?_eq_getElem q1) (Array.getElem?_eq_getElem (by omega))
   have r2:=k2 j _ us[j] (List.getElem?_eq_getElem q2) (Array.getElem?_eq_getElem (by omega))
   have h8:A8 cs[j]=true:=List.all_eq_true.1 ha.2 _ (List.getElem_mem q1)
   have h9:A8 ds[j]=true:=List.all_eq_true.1 hb.2 _ (List.getElem_mem q2)
   generalize cs[j]=c at h8 r1⊢
   generalize ds[j]=d at h9 r2⊢
   unfold A8 at h8 h9
   split at h8<;>first|(cases h8;done)|skip
   split at h9<;>first|(cases h9;done)|skip
   have:=VR.bO r1
   rw[VR.bO r2]at this
   injection this with _ this
   rw[this]
end
end Go.AB
end
section
namespace Go.AB
open Go Go.MapKept
section
variable{P:Program}{G:Gh}{n:Nat}{D:List Deferred}{σ:St}{a:Act}{w:World}
theorem xB{R:Nat→Nat}{kk:ly}{k:AV}{x:Value}(hk:fL kk k=true)(hx:VR w R k x):∀(es:List (AV×AV))(l:List MapEntry),l.length=es.length→
 (∀(j:Nat)(p:AV×AV)(y:MapEntry),es[j]? =some p→l[j]? =some y→VR w R p.1 y.key∧VR w R p.2 y.val)→mO kk es=true→
 ((∀e∈l,e.key≠x)→fw k es=none∧∀v,wT k v es=es++[(k,v)])∧
 (∀(j:Nat)(e:MapEntry),l[j]? =some e→e.key=x→(∀(i:Nat)(e':MapEntry),i<j→l[i]? =some e'→e'.key≠x)→∃p,es[j]? =some p∧fw k es=some p.2∧∀v,wT k v es=es.set j (k,v))
 |[],[],_,_,_=>⟨fun _=>⟨rfl,fun v=>rfl⟩,fun j e hj=>by simp at hj⟩
 |[],_::_,hl,_,_=>by simp at hl
 |_::_,[],hl,_,_=>by simp at hl
 |p::es,y::l,hl,hr,hks=>by
  have hks':fL kk p.1=true∧mO kk es=true:=by simpa[mO]using hks
  have h0:=(hr 0 p y rfl rfl).1
  have hiff:=Ld hk hks'.1 hx h0
  obtain⟨i1,i2⟩:=xB hk hx es l (by simpa using hl) (fun j q z hq hz=>hr (j+1) q z (by simpa using hq) (by simpa using hz)) hks'.2
  constructor
  ·intro hne
   have hf:sf k p.1=false:=by
    cases hh:sf k p.1 with
    |false=>rfl
    |true=>exact absurd (hiff.1 hh) (hne y (.head _))
   obtain⟨j1,j2⟩:=i1 fun e he=>hne e (.tail _ he)
   refine⟨by simp[fw,hf,j1],fun v=>by simp[wT,hf,j2 v]⟩
  ·intro j e hj hek hfirst
   cases j with
   |zero=>
    simp at hj;subst hj
    have hf:sf k p.1=true:=hiff.2 hek
    exact⟨p,rfl,by simp[fw,hf],fun v=>by simp[wT,hf]⟩
   |succ j=>
    have hf:sf k p.1=false:=by
     cases hh:sf k p.1 with
     |false=>rfl
     |true=>exact absurd (hiff.1 hh) (hfirst 0 y (by omega) rfl)
    obtain⟨q,q1,q2,q3⟩:=i2 j e (by simpa using hj) hek fun i e' hi he'=>hfirst (i+1) e' (by omega) (by simpa using he')
    exact⟨q,by simpa using q1,by simp[fw,hf,q2],fun v=>by simp[wT,hf,q3 v]⟩
theorem Inv.Ho(h:Inv G n D σ a w){d:Option Nat}(hd:ba n d=true){av:AV}{v:Value}(hi:c9 av=true)(hv:VR w G.R av v):Inv G n D (σ.put d (view av)) (a.put d v) w:=by
 have h2:NR G w σ a (view av) v:=NR.view hi hv
 have:=h.put (s':=σ.s) (lp':=σ.lp) d (fun i hi=>by subst hi;simpa[ba]using hd) (view av) v h.aO (aG.refl G w) h.store (fun _ hx=>hx) (fun i t _ ht=>(eH (jI hi) t ht).elim) (fun i t _⟨cs,hcs⟩=>(l9 (jI hi) cs hcs).elim)
  (fun _ _ _ _=>⟨rfl,rfl,rfl⟩) (fun _ _ _ _ _ _ hcc=>⟨hcc,rfl,rfl⟩) (fun i hdi=>da.wH hi hv)
 cases d<;>exact this
theorem Inv.S4(h:Inv G n D σ a w){d:Option Nat}(hd:ba n d=true){av:AV}{v:Value}(b:Bool)(hv:VR w G.R av v):Inv G n D (σ.put d (.gu [view av,.bool b])) (a.put d (.tuple #[v,.bool b])) w:=by
 have:=h.put (s':=σ.s) (lp':=σ.lp) d (fun i hi=>by subst hi;simpa[ba]using hd) (.gu [view av,.bool b]) (.tuple #[v,.bool b]) h.aO (aG.refl G w) h.store (fun _ hx=>hx) (fun i t _ ht=>ht.elim) (fun i t _⟨cs,hcs⟩=>by cases hcs)
  (fun _ _ _ _=>⟨rfl,rfl,rfl⟩) (fun _ _ _ _ _ _ hcc=>⟨hcc,rfl,rfl⟩) (fun i hdi=>⟨_,rfl,rfl,fun j x y hx hy=>by
    match j with
    |0=>simp at hx hy;subst hx;subst hy;exact⟨hv.view,df.view ..⟩
    |1=>simp at hx hy;subst hx;subst hy;exact⟨.bool b,trivial⟩
    |j+2=>simp at hx⟩)
 cases d<;>exact this
theorem BR.key{x:IX}{kk:ly}{av:AV}{v:Value}(hk:fL kk av=true)(h:BR G w σ a x av v):VR w G.R av v:=by cases av<;>first|exact h|(cases kk<;>simp[fL]at hk)
theorem JJ{t:TypeId}{z:AV}(h:JI P t z=true):∃v,(∀w:World,(zeroValue t).run P w=.ok v w)∧(∀(w:World)(R:Nat→Nat),VR w R z v)∧c9 z=true:=by
 unfold JI at h
 split at h<;>first|(cases h;done)|skip
 rename_i i hi
 split at h<;>first|(cases h;done)|skip
 rename_i v hv
 refine⟨v,fun w=>by simp[zeroValue,typeInfo,hi,hv],?_⟩
 split at h
 ·exact⟨fun w R=>JN h w R,rfl⟩
 ·exact⟨fun w R=>ru h w R,Mh h⟩
theorem Iw(h:Inv G n D σ a w){op:Op}{ty:TypeId}{kk:ly}{z:AV}{ok:Bool}{x k:IX}{d:Option Nat}{K:St→Prop}(hd:ba n d=true)(hc:au P op ty (.lookup kk z ok x k)=true)(hw:gH P (.lookup kk z ok x k) d σ K):mj P G n D w a op ty d K:=by
 cases op<;>first|(simp[au]at hc;done)|skip
 rename_i t y j ok'
 simp only[au,Bool.and_eq_true,beq_iff_eq]at hc
 obtain⟨⟨⟨hy,hj⟩,rfl⟩,hc⟩:=hc
 split at hc<;>try(cases hc;done)
 rename_i kt et ht
 simp only[Bool.and_eq_true]at hc
 obtain⟨hkt,hz⟩:=hc
 have hrun:=DU hkt
 obtain⟨zv,hz1,hz2,hz3⟩:=JJ hz
 have hb:=BR.aJ h hy
 have hbk:=BR.aJ h hj
 have hw':Jn σ d K (iw kk z ok σ.s (xg true σ k) (xg true σ x)):=hw
 generalize xg true σ x=xv at hb hw'
 generalize xg true σ k=kv at hbk hw'
 have fin:∀(av:AV)(v:Value)(b:Bool),(ok=false→c9 av=true)→VR w G.R av v→K (σ.put d (Jc ok av b))→view av=av→
  (∀(pos:String)(after:Array Edge)(g:Option (Nat×Bool)),(execOp a.eval ⟨d,.lookup t y j ok,ty,pos,after,g⟩).run P w=.ok (.value (if ok then .tuple #[v,.bool b]else v)) w)→mj P G n D w a (.lookup t y j ok) ty d K:=by
  intro av v b hi hvr hk hvw hr pos after g next Q hn
  refine aN (hr pos after g) (hn G _ _ _ ?_ (aG.refl G w) hk)
  cases ok with
  |true=>
   have:=h.S4 hd b hvr
   rw[hvw]at this
   exact this
  |false=>
   have:=h.Ho hd (hi rfl) hvr
   rw[hvw]at this
   exact this
 have pl:∀{av:AV}{b:Bool},BJ ok (Jc ok av b)=true→ok=false→c9 av=true:=by
  intro av b hp ho
  subst ho
  exact hp
 unfold iw at hw'
 split at hw'
 ·rename_i b
  have e1:a.eval y=.map (some b):=VR.IM hb
  unfold tk at hw'
  split at hw'<;>try(exact hw'.elim)
  rename_i es hes
  unfold LS at hw'
  cases hp:BJ ok (uh z ok (fw kv es))with
  |false=>rw[hp]at hw';exact hw'.elim
  |true=>
  rw[hp]at hw'
  obtain⟨⟨hkk,hks⟩,hK⟩:=hw'
  have hvk:=hbk.key hkk
  have hkv:=si hkk hvk
  obtain⟨_,_,ents,clock,hh,hsz,hent⟩:=h.store b _ hes
  have hall:∀e∈ents.toList,KV kk e.key:=fun e he=>by
   obtain⟨i,hi⟩:=List.mem_iff_getElem?.1 he
   have hlt:i<es.length:=by rw[←hsz];have:=(List.getElem?_eq_some_iff.1 hi).1;simpa using this
   have h1:=hent i _ e (List.getElem?_eq_getElem hlt) (by simpa using hi)
   exact si (List.all_eq_true.1 hks _ (List.getElem_mem hlt)) h1.1
  obtain⟨f1,f2⟩:=xB hkk hvk es ents.toList (by simpa using hsz) (fun j p y hp hy=>hent j p y hp (by simpa using hy)) hks
  have hget:=Go.MapKept.run_getObj_map (P:=P) hh
  have hck:=hrun.check w ents.isEmpty _ hkv
  rcases hrun.find w _ hkv ents.toList hall with⟨q1,q2⟩|⟨m,e,q1,q2,q3,q4⟩
  ·obtain⟨g1,_⟩:=f1 q2
   rw[g1]at hK hp
   refine fin (view z) zv false (pl hp) (hz2 w G.R).view hK (iH _) fun pos after g=>?_
   cases ok<;>simp[execOp,Instr.lookup,run_underlying ht,e1,hget,hck,q1,hz1]
  ·obtain⟨p,g1,g2,_⟩:=f2 m e q2 q3 q4
   rw[g2]at hK hp
   have hvr:=(hent m p e g1 (by simpa using q2)).2
   refine fin (view p.2) e.val true (pl hp) hvr.view hK (iH _) fun pos after g=>?_
   cases ok<;>simp[execOp,Instr.lookup,run_underlying ht,e1,hget,hck,q1]
 ·have e1:a.eval y=.map none:=VR.GL hb
  unfold LS at hw'
  cases hp:BJ ok (Jc ok (view z) false)with
  |false=>rw[hp]at hw';exact hw'.elim
  |true=>
  rw[hp]at hw'
  obtain⟨hkk,hK⟩:=hw'
  have hkv:=si hkk (hbk.key hkk)
  have hck:=hrun.check w true _ hkv
  refine fin (view z) zv false (pl hp) (hz2 w G.R).view hK (iH _) fun pos after g=>?_
  ·rcases hrun.find w _ hkv [] (by simp)with⟨q1,_⟩|⟨m,e,_,q2,_⟩
   ·cases ok<;>simp[execOp,Instr.lookup,run_underlying ht,e1,hck,q1,hz1]
   ·simp at q2
 ·exact hw'.elim
theorem Inv.Rr(h:Inv G n D σ a w){b:Nat}{ents ents':Array MapEntry}{clock clock':Nat}(hb:w.heap[b]? =some (.map ents clock))(ho:G.O b=.sh)(hR:G.R b=0){es':List (AV×AV)}
 (hent:ents'.size=es'.length∧∀(j:Nat)(x:AV×AV)(y:MapEntry),es'[j]? =some x→ents'[j]? =some y→Vp G w x y):
 Inv G n D {σ with s:=σ.s.set b (.map es')} a {w with heap:=w.heap.setIfInBounds b (.map ents' clock')}∧aG G w G {w with heap:=w.heap.setIfInBounds b (.map ents' clock')}:=by
 obtain⟨hs1,hs2⟩:=heap_set (w:=w) (o':=.map ents' clock') hb
 have hcell:∀c k,({w with heap:=w.heap.setIfInBounds b (.map ents' clock')}:World).cell? ⟨c,k,none⟩=w.cell? ⟨c,k,none⟩:=by
  intro c k
  by_cases hc:c=b
  ·subst hc
   unfold World.cell?
   simp only[hs1,hb]
  ·exact World.cell?_of_block (hs2 c hc)
 have hsz:({w with heap:=w.heap.setIfInBounds b (.map ents' clock')}:World).heap.size=w.heap.size:=by simp
 have hp:aG G w G {w with heap:=w.heap.setIfInBounds b (.map ents' clock')}:=⟨rfl,rfl,rfl,Nat.le_refl _,by rw[hsz];exact Nat.le_refl _,fun _ _=>Nat.le_refl _,fun c k _ _=>hcell c k,fun c _ hc=>hs2 c (fun e=>by subst e;rw[ho]at hc;rcases hc with hc|hc<;>cases hc),fun _ _ h=>⟨h,rfl⟩,fun _ _ h=>⟨h,rfl⟩⟩
 have hne:∀c,G.O c≠.sh→({w with heap:=w.heap.setIfInBounds b (.map ents' clock')}:World).heap[c]? =w.heap[c]? :=fun c hc=>hs2 c fun e=>hc (by rw[e];exact ho)
 refine⟨⟨⟨fun c hc=>h.aO.iA c (by rw[hsz]at hc;exact hc),fun c hc=>h.aO.iU c (by rw[hsz]at hc;exact hc)⟩,?_,h.size,fun i v hi=>?_,h.CG,h.HR,h.qW⟩,hp⟩
 ·intro c o hc
  have hc':(if c=b then some (SO.map es')else σ.s c)=some o:=hc
  by_cases hcb:c=b
  ·rw[if_pos hcb]at hc'
   injection hc' with hc'
   subst hcb;subst hc'
   exact⟨ho,hR,ents',clock',hs1,hent.1,fun j x y hx hy=>⟨hp.vr h.aO (hent.2 j x y hx hy).1,hp.vr h.aO (hent.2 j x y hx hy).2⟩⟩
  ·rw[if_neg hcb]at hc'
   obtain⟨r1,r2,r3⟩:=h.store c o hc'
   refine⟨r1,r2,?_⟩
   cases o with
   |cells cs=>
    obtain⟨c0,t0,k1,k2,k3⟩:=r3
    exact⟨c0,t0,(hs2 c hcb).trans k1,k2.mono (fun _ _ hv=>hp.vr h.aO hv) (fun c' j hc'=>⟨hc',rfl,hne c' (by rw[hc'];simp)⟩),k3⟩
   |map es=>
    obtain⟨e0,t0,k1,k2,k3⟩:=r3
    exact⟨e0,t0,(hs2 c hcb).trans k1,k2,fun j x y hx hy=>⟨hp.vr h.aO (k3 j x y hx hy).1,hp.vr h.aO (k3 j x y hx hy).2⟩⟩
 ·exact da.frame (fun _ _ hv=>hp.vr h.aO hv) (fun c hc=>⟨rfl,rfl,hne c (by rcases hc with⟨j,hc⟩|hc<;>rw[hc]<;>simp)⟩) (fun c c' j _ hc=>⟨hc,rfl,hne c' (by rw[hc];simp)⟩) _ _ (fun d _ cs hcs=>⟨cs,hcs,rfl⟩) (h.ch i v hi)
theorem CI(h:Inv G n D σ a w){op:Op}{ty:TypeId}{kk:ly}{x k v:IX}{d:Option Nat}{K:St→Prop}(hd:ba n d=true)(hc:au P op ty (.mapUpdate kk x k v)=true)(hw:gH P (.mapUpdate kk x k v) d σ K):mj P G n D w a op ty d K:=by
 cases op<;>first|(simp[au]at hc;done)|skip
 rename_i t y j u
 simp only[au,Bool.and_eq_true]at hc
 obtain⟨⟨⟨hy,hj⟩,hu⟩,hc⟩:=hc
 split at hc<;>try(cases hc;done)
 rename_i kt et ht
 have hrun:=DU hc
 have hb:=BR.aJ h hy
 have hbk:=BR.aJ h hj
 have hbv:=BR.aJ h hu
 have hw':tq kk σ (xg true σ k) (xg true σ v) d K (xg true σ x):=hw
 generalize xg true σ x=xv at hb hw'
 generalize xg true σ k=kv at hbk hw'
 generalize xg true σ v=vv at hbv hw'
 unfold tq at hw'
 split at hw'<;>try(exact hw'.elim)
 rename_i b
 unfold TL at hw'
 split at hw'<;>try(exact hw'.elim)
 rename_i es hes
 obtain⟨⟨hi,hkk,hks⟩,hK⟩:=hw'
 have e1:a.eval y=.map (some b):=VR.IM hb
 have hvv:VR w G.R vv (a.eval u):=by cases vv<;>first|exact hbv|(simp[c9]at hi)
 have hvk:=hbk.key hkk
 have hkv:=si hkk hvk
 obtain⟨ho,hR,ents,clock,hh,hsz,hent⟩:=h.store b _ hes
 have hall:∀e∈ents.toList,KV kk e.key:=fun e he=>by
  obtain⟨i,hi⟩:=List.mem_iff_getElem?.1 he
  have hlt:i<es.length:=by rw[←hsz];have:=(List.getElem?_eq_some_iff.1 hi).1;simpa using this
  have h1:=hent i _ e (List.getElem?_eq_getElem hlt) (by simpa using hi)
  exact si (List.all_eq_true.1 hks _ (List.getElem_mem hlt)) h1.1
 have hview:fL kk (view kv)=true∧view kv=kv:=by cases kv<;>cases kk<;>simp_all [fL,view]
 rw[hview.2]at hK
 obtain⟨f1,f2⟩:=xB hkk hvk es ents.toList (by simpa using hsz) (fun j p y hp hy=>hent j p y hp (by simpa using hy)) hks
 have hget:=Go.MapKept.run_getObj_map (P:=P) hh
 have hck:=hrun.check w false _ hkv
 have hput:∀(τ:St)(w':World),Inv G n D τ a w'→Inv G n D (τ.put d (.gu [])) (a.put d undef) w':=by
  intro τ w' hτ
  have:=hτ.put (s':=τ.s) (lp':=τ.lp) d (fun i hi=>by subst hi;simpa[ba]using hd) (.gu []) undef hτ.aO (aG.refl G w') hτ.store (fun _ hx=>hx) (fun i t _ ht=>ht.elim) (fun i t _⟨cs,hcs⟩=>by cases hcs)
   (fun _ _ _ _=>⟨rfl,rfl,rfl⟩) (fun _ _ _ _ _ _ hcc=>⟨hcc,rfl,rfl⟩) (fun i hdi=>⟨#[],rfl,rfl,fun j x y hx=>by simp at hx⟩)
  cases d<;>exact this
 intro pos after gd next Q hn
 rcases hrun.find w _ hkv ents.toList hall with⟨q1,q2⟩|⟨m,e,q1,q2,q3,q4⟩
 ·obtain⟨_,g2⟩:=f1 q2
  rw[g2]at hK
  obtain⟨h1,h2⟩:=h.Rr (clock':=clock+1) (ents':=ents.push {key:=a.eval j,val:=a.eval u,born:=clock}) (es':=es++[(kv,view vv)]) hh ho hR ⟨by simp[hsz],fun i p z hp hz=>by
   rw[Array.getElem?_push]at hz
   by_cases hi':i=es.length
   ·subst hi'
    rw[if_pos hsz.symm]at hz
    simp at hp
    injection hz with hz
    subst hp;subst hz
    exact⟨hvk,hvv.view⟩
   ·rw[if_neg (by omega)]at hz
    have hlt:i<es.length:=by
     have:=(List.getElem?_eq_some_iff.1 hp).1
     simp at this;omega
    rw[List.getElem?_append_left hlt]at hp
    exact hent i p z hp hz⟩
  refine pB (w':=_) ?_ (hn G _ _ _ (hput _ _ h1) h2 hK)
  simp[execOp,Instr.mapUpdate,run_underlying ht,e1,hget,hck,q1,run_setObj_map _ hh]
 ·obtain⟨p,g1,_,g2⟩:=f2 m e q2 q3 q4
  rw[g2]at hK
  have hmlt:m<ents.size:=by have:=(List.getElem?_eq_some_iff.1 q2).1;simpa using this
  have hem:ents[m]? =some e:=by simpa using q2
  have c6:=hrun.stays w _ hkv
  obtain⟨h1,h2⟩:=h.Rr (clock':=clock) (ents':=ents.modify m fun e=>{e with key:=a.eval j,val:=a.eval u}) (es':=es.set m (kv,view vv)) hh ho hR ⟨by simp[hsz],fun i p z hp hz=>by
   rw[Array.getElem?_modify]at hz
   by_cases hi':m=i
   ·subst hi'
    rw[if_pos rfl,hem]at hz
    simp at hz
    rw[List.getElem?_set_self (by omega)]at hp
    injection hp with hp
    subst hp;subst hz
    exact⟨hvk,hvv.view⟩
   ·rw[if_neg hi']at hz
    rw[List.getElem?_set_ne hi']at hp
    exact hent i p z hp hz⟩
  refine pB (w':=_) ?_ (hn G _ _ _ (hput _ _ h1) h2 hK)
  simp[execOp,Instr.mapUpdate,run_underlying ht,e1,hget,hck,q1,hem,q3,c6,run_setObj_map _ hh]
theorem Iu(h:Inv G n D σ a w){op:Op}{ty:TypeId}{x:IX}{d:Option Nat}{K:St→Prop}(hd:ba n d=true)(hc:au P op ty (.ji x)=true)(hw:gH P (.ji x) d σ K):mj P G n D w a op ty d K:=by
 cases op<;>first|(simp[au]at hc;done)|skip
 rename_i s t y
 cases x with
 |c _=>simp[au]at hc
 |t i=>
 simp only[au,Bool.and_eq_true,beq_iff_eq]at hc
 obtain⟨⟨hy,rfl⟩,hc⟩:=hc
 split at hc<;>try(cases hc;done)
 rename_i e ht
 split at hc<;>try(cases hc;done)
 rename_i he
 have hw':Jn σ d K (zz (xg true σ (.t i))):=hw
 have hrow:∃m x0 cs cs',cs=.int .u8 x0::cs'∧xg true σ (.t i)=.sl true 1 (m+1) cs∧K (σ.put d (.sl false 1 (m+1) cs)):=by
  generalize xg true σ (.t i)=xv at hw'
  unfold zz at hw'
  split at hw'
  ·exact⟨_,_,_,_,rfl,rfl,hw'⟩
  ·exact hw'.elim
 obtain⟨m,x0,cs,cs',hcs,hx,hK⟩:=hrow
 have hx':look σ.e i=.sl true 1 (m+1) cs∨look σ.e i=.when true (.sl true 1 (m+1) cs):=by
  have hx2:vy true (look σ.e i)=.sl true 1 (m+1) cs:=hx
  generalize look σ.e i=av at hx2
  cases av<;>first|exact .inl hx2|skip
  rename_i b a'
  have hx2:(bif(b==true||b)&&inner a' then a' else .undef)=.sl true 1 (m+1) cs:=hx2
  cases b with
  |false=>simp at hx2
  |true=>
   refine .inr ?_
   cases hin:inner a' with
   |false=>rw[hin]at hx2;simp at hx2
   |true=>rw[hin]at hx2;simp at hx2;rw[hx2]
 have hin:i<n:=h.He (fun e=>by rcases hx' with h'|h'<;>rw[h']at e<;>cases e)
 have hey:a.tmps[i]? =some (a.eval y):=by
  have hyy:y=.tmp i:=by
   cases y<;>simp[bw]at hy
   rw[hy]
  subst hyy
  exact gQ (by rw[h.size];exact hin)
 have hsl:VR w G.R (.sl true 1 (m+1) cs) (a.eval y)∧df G w (.slot i 0) (.sl true 1 (m+1) cs) (a.eval y):=by
  have hs:=h.ch i _ hey
  rcases hx' with h'|h'<;>rw[h']at hs
  ·exact hs
  ·exact hs.1 rfl
 obtain⟨hvr,hown⟩:=hsl
 rcases VR.fR hvr with⟨_,hm0,_⟩|⟨b0,off0,cap0,e1,hl,hR,hcap,hat⟩
 ·omega
 obtain⟨b,off,c,et,fz,q1,q2,q3,q4,q5,q6⟩:=hown _ _ _ e1 (.inr (by omega))
 injection q1 with q1;injection q1 with q1 q1' _
 subst q1;subst q1'
 let fz':Nat×Nat:=if fz.1==fz.2 then(c.size,c.size+1)else(min fz.1 c.size,max fz.2 (c.size+1))
 let w':World:=w.freeze ⟨b0,c.size,none⟩ 1
 have hlt:b0<w.heap.size:=(Array.getElem?_eq_some_iff.1 q4).1
 have hb0:w'.heap[b0]? =some (.cells c et fz'):=by
  show(w.freeze ⟨b0,c.size,none⟩ 1).heap[b0]? =_
  unfold World.freeze
  simp only[Nat.succ_ne_self,if_false,Array.getElem?_modify,if_true,q4,Option.map_some]
  rfl
 have hoth:∀k,k≠b0→w'.heap[k]? =w.heap[k]? :=by
  intro k hk
  show(w.freeze ⟨b0,c.size,none⟩ 1).heap[k]? =_
  unfold World.freeze
  simp only[Nat.succ_ne_self,if_false,Array.getElem?_modify]
  rw[if_neg (Ne.symm hk)]
 have hsz:w'.heap.size=w.heap.size:=by
  show(w.freeze ⟨b0,c.size,none⟩ 1).heap.size=_
  unfold World.freeze
  simp
 have hcell:∀b k,w'.cell? ⟨b,k,none⟩=w.cell? ⟨b,k,none⟩:=by
  intro k j
  by_cases hk:k=b0
  ·subst hk
   unfold World.cell?
   simp only[hb0,q4]
  ·exact World.cell?_of_block (hoth k hk)
 have hfz:∀k,k<c.size→¬(fz'.1≤k∧k<fz'.2):=by
  intro k hk
  show¬((if fz.1==fz.2 then(c.size,c.size+1)else(min fz.1 c.size,max fz.2 (c.size+1)):Nat×Nat).1≤k∧k<(if fz.1==fz.2 then(c.size,c.size+1)else(min fz.1 c.size,max fz.2 (c.size+1)):Nat×Nat).2)
  by_cases hf:fz.1=fz.2
  ·simp only[hf,beq_self_eq_true,if_true];omega
  ·have:(fz.1==fz.2)=false:=by simpa using hf
   rw[this]
   simp only[Bool.false_eq_true,if_false]
   intro hh
   have q7:=q6.2
   by_cases hc2:fz.1<c.size
   ·exact q6.1 fz.1 hc2 ⟨Nat.le_refl _,by omega⟩
   ·omega
 have hfz2:fz'.1≤fz'.2:=by
  show(if fz.1==fz.2 then(c.size,c.size+1)else(min fz.1 c.size,max fz.2 (c.size+1)):Nat×Nat).1≤(if fz.1==fz.2 then(c.size,c.size+1)else(min fz.1 c.size,max fz.2 (c.size+1)):Nat×Nat).2
  split
  ·show c.size≤c.size+1;omega
  ·show min fz.1 c.size≤max fz.2 (c.size+1);omega
 have hp:aG G w G w':=⟨rfl,rfl,rfl,Nat.le_refl _,by rw[hsz];exact Nat.le_refl _,fun _ _=>Nat.le_refl _,fun b k _ _=>hcell b k,fun b _ hb=>hoth b (fun e=>by subst e;rw[q2]at hb;rcases hb with hb|hb<;>cases hb),fun _ _ h=>⟨h,rfl⟩,fun _ _ h=>⟨h,rfl⟩⟩
 have hne:∀k,G.O k≠.slot i 0→w'.heap[k]? =w.heap[k]? :=fun k hk=>hoth k fun e=>hk (by rw[e];exact q2)
 have hI:Inv G n D σ a w':=by
  refine⟨⟨fun c hc=>h.aO.iA c (by rw[hsz]at hc;exact hc),fun c hc=>h.aO.iU c (by rw[hsz]at hc;exact hc)⟩,?_,h.size,fun k v hk=>?_,h.CG,h.HR,h.qW⟩
  ·exact h.store.mono h.aO hp (fun b hb=>⟨hb,rfl,hne b (by rw[hb];simp)⟩) (fun b c j _ hc=>⟨hc,rfl,hne c (by rw[hc];simp)⟩)
  ·by_cases hki:k=i
   ·subst hki
    have hv:v=a.eval y:=by rw[hey]at hk;exact(Option.some.inj hk).symm
    subst hv
    have hO:df G w' (.slot k 0) (.sl true 1 (m+1) cs) (a.eval y):=by
     intro base m' cap' hv hc
     rw[e1]at hv
     injection hv with v1 v2 v3
     exact⟨b0,off0,c,et,fz',v1.symm,q2,q3,hb0,by rw[q5,v3],hfz,hfz2,q6.2.2.1,.inr ⟨Nat.succ_pos _,x0,by
      obtain⟨u,u1,u2,_⟩:=hat
      have k1:=u1 0 (.int .u8 x0) (by rw[hcs];rfl)
      have k2:=VR.bO (u2 0 (.int .u8 x0) (by rw[hcs];rfl))
      rw[q6.2.2.1,cell_of_row w q4,k2]at k1
      exact k1⟩,q6.2.2.2.2⟩
    have hV:da G w' σ.e a.tmps k (.sl true 1 (m+1) cs) (a.eval y):=⟨hp.vr h.aO hvr,hO⟩
    rcases hx' with h'|h'<;>rw[h']
    ·exact hV
    ·exact⟨fun _=>hV,fun h=>by cases h⟩
   ·exact da.frame (fun _ _ hv=>hp.vr h.aO hv) (fun c hc=>⟨rfl,rfl,hne c (by rcases hc with⟨j,hc⟩|hc<;>rw[hc]<;>simp[hki])⟩) (fun c c' j _ hc=>⟨hc,rfl,hne c' (by rw[hc];simp)⟩) _ _ (fun d _ cs hcs=>⟨cs,hcs,rfl⟩) (h.ch k v hk)
 have uS:Inv G n D (σ.put d (.sl false 1 (m+1) cs)) (a.put d (a.eval y)) w':=hI.Ho hd (av:=.sl true 1 (m+1) cs) rfl (hp.vr h.aO hvr)
 intro pos after gd next Q hn
 refine aN (v:=a.eval y) (w':=w') ?_ (hn G _ _ _ uS hp hK)
 have hshape:w.shape? b0=some (et,c.size):=by
  unfold World.shape?
  rw[q4]
 have hconv:(convert s s (.slice (some ⟨b0,off0,none⟩) (m+1) cap0)).run P w=.ok (.slice (some ⟨b0,off0,none⟩) (m+1) cap0) w':=by
  simp[convert,run_underlying ht,run_underlying he,markStringish,hshape]
  rfl
 simp[execOp,e1,hconv]
theorem MB(h:Inv G n D σ a w){op:Op}{ty:TypeId}{x:IX}{d:Option Nat}{K:St→Prop}(hd:ba n d=true)(hc:au P op ty (.re x)=true)(hw:gH P (.re x) d σ K):mj P G n D w a op ty d K:=by
 have hw':Jn σ d K (yn (xg true σ x)):=hw
 have key:∀y,bw y x=true→∃vs,K (σ.put d (.gu (views vs)))∧Inv G n D (σ.put d (.gu (views vs))) (a.put d (a.eval y)) w:=by
  intro y hy
  have hb:=BR.aJ h hy
  generalize xg true σ x=xv at hb hw'
  unfold yn at hw'
  split at hw'<;>try(exact hw'.elim)
  rename_i vs
  refine⟨vs,hw',?_⟩
  obtain⟨ys,e,hl,hr⟩:=VR.J5 (show VR w G.R (.gu vs) (a.eval y) from hb)
  have:=h.put (s':=σ.s) (lp':=σ.lp) d (fun i hi=>by subst hi;simpa[ba]using hd) (.gu (views vs)) (a.eval y) h.aO (aG.refl G w) h.store (fun _ hx=>hx) (fun i t _ ht=>ht.elim) (fun i t _⟨cs,hcs⟩=>by cases hcs)
   (fun _ _ _ _=>⟨rfl,rfl,rfl⟩) (fun _ _ _ _ _ _ hcc=>⟨hcc,rfl,rfl⟩) (fun i hdi=>⟨ys,e,by simpa[views]using hl,fun j x y hx hy=>by
     rw[eb]at hx
     cases hj:vs[j]? with
     |none=>rw[hj]at hx;cases hx
     |some c=>
      rw[hj]at hx
      simp at hx
      subst hx
      exact⟨(hr j c y hj hy).view,df.view ..⟩⟩)
  cases d<;>exact this
 intro pos after g next Q hn
 cases op<;>first|(simp[au]at hc;done)|skip
 ·rename_i y
  obtain⟨vs,h1,h2⟩:=key y hc
  exact aN rfl (hn G _ _ _ h2 (aG.refl G w) h1)
 ·rename_i y
  obtain⟨vs,h1,h2⟩:=key y hc
  exact aN rfl (hn G _ _ _ h2 (aG.refl G w) h1)
end
end Go.AB
end
section
namespace Go.AB
open Go
section
variable{P:Program}{G G':Gh}{n:Nat}{D:List Deferred}{σ:St}{a:Act}{w w':World}
theorem aW.at(h:aW G w σ.s){b off m:Nat}{cs:List AV}(hs:σ.s b=some (.cells cs))(hfit:off+m≤cs.length):At w G.R b off (AB.views (AB.sub cs off m)):=by
 obtain⟨_,_,c,t,h4,h5,h6⟩:=h b _ hs
 have hat:=(At.D4 h4 h5 h6).sub off m
 rwa[Nat.zero_add,Ep]at hat
structure qT(P:Program)(w:World)(R:Nat→Nat)(sz m:Nat)(ds:List AV)(v:Value)(news:List Value):Prop where
 len:news.length=m*sz
 oe:ds.length=m*sz
 lenOf:∀w',(Builtin.lenOf v).run P w'=.ok m w'
 first:∀k,k≤m→∀w',w'.heap=w.heap→(Builtin.firstCells sz k v).run P w'=.ok (news.take (k*sz)).toArray w'
 one:∀u∈news,u.oneCell'=true
 jZ:∀(j:Nat)(c:AV)(u:Value),ds[j]? =some c→news[j]? =some u→VR w R c u
 fl:Fl ds
 vw:views ds=ds
theorem nX(ds:List AV):views (views ds)=views ds:=by
 unfold views
 rw[List.map_map]
 apply List.map_congr_left
 intro a _
 cases a<;>rfl
theorem qT.src{R:Nat→Nat}{sz m:Nat}{ds:List AV}{v:Value}{news:List Value}(h:qT P w R sz m ds v news):Src P w R sz m ds v news:=⟨h.len,h.oe,h.lenOf,fun w' hw'=>by rw[h.first m (Nat.le_refl m) w' hw',List.take_of_length_le (by rw[h.len];exact Nat.le_refl _)],h.one,h.jZ,h.fl⟩
theorem qT.Q7{R:Nat→Nat}{sz m b off cap:Nat}{cs:List AV}(hl:cs.length=m*sz)(hat:At w R b off cs):∃news,qT P w R sz m (views cs) (.slice (some ⟨b,off,none⟩) m cap) news:=by
 have hatv:=hat.views
 obtain⟨us,h1,h2,h3⟩:=hatv.jZ
 have hfl:Fl (views cs):=by obtain⟨_,_,_,hf⟩:=hatv;exact hf
 have hlen:(views cs).length=m*sz:=by simp[views,hl]
 refine⟨us,by rw[h1,hlen],hlen,fun _=>rfl,fun k hk w' hw'=>?_,fun u hu=>?_,h3,hfl,nX cs⟩
 ·have hkl:k*sz≤us.length:=by rw[h1,hlen];exact Nat.mul_le_mul_right _ hk
  exact run_firstCells_some w' sz k ⟨b,off,none⟩ m cap (us.take (k*sz)) (by simp;omega) fun j v hj=>by
   rw[xu hw']
   rw[List.getElem?_take]at hj
   split at hj
   ·exact h2 j v hj
   ·cases hj
 ·obtain⟨j,hj⟩:=List.mem_iff_getElem?.1 hu
  have hlt:j<(views cs).length:=by rw[←h1];exact(List.getElem?_eq_some_iff.1 hj).1
  have hx:=List.getElem?_eq_getElem hlt
  exact gJ (hfl _ (List.getElem_mem hlt)) (h3 j _ u hx hj)
theorem qT.none{R:Nat→Nat}{sz:Nat}:qT P w R sz 0 [] (.slice none 0 0) []:=
 ⟨by simp,by simp,fun _=>rfl,fun k hk w' _=>by
   have:k=0:=by omega
   subst this;simp[Builtin.firstCells],fun u hu=>by simp at hu,fun j c u hc=>by simp at hc,Fl.nil,rfl⟩
theorem qT.empty{R:Nat→Nat}{sz cap:Nat}{base:Option Addr}:qT P w R sz 0 [] (.slice base 0 cap) []:=
 ⟨by simp,by simp,fun _=>rfl,fun k hk w' _=>by
   have:k=0:=by omega
   subst this
   cases base with
   |none=>simp[Builtin.firstCells]
   |some x=>
    obtain⟨b,off,sp⟩:=x
    simp[Builtin.firstCells,loadCells,loadCellsFrom],fun u hu=>by simp at hu,fun j c u hc=>by simp at hc,Fl.nil,rfl⟩
theorem qT.str{R:Nat→Nat}{l:List UInt8}:qT P w R 1 l.length (l.map fun c=>.int .u8 c.toNat) (.string ⟨l.toArray⟩) (l.map fun c=>.int .u8 c.toNat)where
 len:=by simp
 oe:=by simp
 lenOf:=fun w'=>by simp[Builtin.lenOf,ByteArray.size]
 first:=fun k hk w' _=>by
  have:((ByteArray.mk l.toArray).extract 0 k).data=(l.take k).toArray:=by
   rw[ByteArray.data_extract]
   apply Array.ext'
   simp
  simp[Builtin.firstCells,this,List.map_take]
 one:=(Src.Fq (P:=P) (w:=w) (R:=R)).one
 jZ:=(Src.Fq (P:=P) (w:=w) (R:=R)).jZ
 fl:=AK l
 vw:=by simp[views,view]
theorem pH{m sz off:Nat}{o:Option SO}{k:Nat}{ds:List AV}(h:ja m sz off o=some (k,ds)):∃cs,o=some (.cells cs)∧off+m*sz≤cs.length∧k=m∧ds=views (AB.sub cs off (m*sz)):=by
 unfold ja at h
 split at h
 ·rename_i cs
  by_cases hl:off+m*sz≤cs.length
  ·rw[decide_eq_true hl]at h;injection h with h;injection h with h1 h2;exact⟨cs,rfl,hl,h1.symm,h2.symm⟩
  ·rw[decide_eq_false hl]at h;cases h
 ·cases h
theorem Cn(h:Inv G n D σ a w){sz m:Nat}{x:IX}{o:Operand}{ds:List AV}(hx:bw o x=true)(hs:tL σ.s sz (σ.x x)=some (m,ds)):∃news,qT P w G.R sz m ds (a.eval o) news:=by
 have hb:=XR.aJ h hx
 generalize σ.x x=av at hb hs
 unfold tL at hs
 split at hs
 ·rename_i ow s' k cs
  by_cases he:s'=sz
  ·subst he
   rw[beq_self_eq_true]at hs
   injection hs with hs;injection hs with h1 h2;subst h1;subst h2
   rcases VR.fR hb with⟨e0,rfl,rfl⟩|⟨b,off,cap,e,hl,_,_,hat⟩
   ·obtain⟨_,_,e⟩:=e0.ex
    rw[e];exact⟨[],qT.empty⟩
   ·rw[e];exact qT.Q7 hl hat
  ·rw[show(s'==sz)=false by simpa using he]at hs
   by_cases hk:k=0
   ·subst hk
    injection hs with hs;injection hs with h1 h2;subst h1;subst h2
    rcases VR.fR hb with⟨(e|⟨_,_,_,e⟩),_,_⟩|⟨b,off,cap,e,_⟩<;>rw[e]<;>exact⟨[],qT.empty⟩
   ·rw[show(k==0)=false by simpa using hk]at hs;cases hs
 ·rename_i l
  by_cases he:sz=1
  ·subst he
   rw[beq_self_eq_true]at hs
   injection hs with hs;injection hs with h1 h2;subst h1;subst h2
   rw[VR.eT hb];exact⟨_,qT.str⟩
  ·rw[show(sz==1)=false by simpa using he]at hs;cases hs
 ·rename_i b off k cap
  by_cases hk:k=0
  ·subst hk
   injection hs with hs;injection hs with h1 h2;subst h1;subst h2
   rcases VR.cD hb with e|⟨_,_,e⟩<;>rw[e]<;>exact⟨[],qT.empty⟩
  ·rw[show(k==0)=false by simpa using hk]at hs
   obtain⟨cs,e1,e2,rfl,rfl⟩:=pH hs
   rcases VR.cD hb with e|⟨h0,_,_⟩
   ·rw[e]
    have hsn:=qT.Q7 (P:=P) (cap:=cap) (show(AB.views (AB.sub cs off (m*sz))).length=m*sz by simp[views,im e2]) (h.store.at e1 e2)
    rwa[nX]at hsn
   ·exact absurd h0 hk
 ·cases hs
theorem Inv.vm(h:Inv G n D σ a w){b off:Nat}{cs ds:List AV}{news:List Value}{c:Array Value}{t:TypeId}(hs:σ.s b=some (.cells cs))(hb:w.heap[b]? =some (.cells c t (0,0)))
 (hlen:news.length=ds.length)(hfit:off+ds.length≤cs.length)(hfl:Fl ds)(hvw:views ds=ds)(hvals:∀(j:Nat)(x:AV)(y:Value),ds[j]? =some x→news[j]? =some y→VR w G.R x y):
 Inv G n D {σ with s:=σ.s.set b (.cells (setAt cs off ds))} a (w.setRow b (laid c off news))∧aG G w G (w.setRow b (laid c off news)):=by
 obtain⟨q2,q3,c',t',q4,q5,q6⟩:=h.store b _ hs
 rw[hb]at q4;injection q4 with q4;injection q4 with q4 q4' _
 subst q4;subst q4'
 have hne:∀j,G.O b≠.cell b j:=fun j=>by rw[q2];simp
 have hpres:aG G w G (w.setRow b (laid c off news)):=aG.write hb (by rw[q2];simp) (fun k hk=>by rw[q3]at hk;omega) (Nat.le_refl _) (fun _ _=>⟨rfl,rfl⟩)
 have hcells:=db.lay hb hpres h.aO q5 hlen hfit hne (fun j x y hx hy=>⟨hvals j x y hx hy,by
  rw[←hvw,eb]at hx
  cases hz:ds[j]? with
  |none=>rw[hz]at hx;cases hx
  |some x'=>rw[hz]at hx;simp at hx;rw[←hx];exact df.view ..⟩)
 have c6:aW G (w.setRow b (laid c off news)) (σ.s.set b (.cells (setAt cs off ds))):=by
  intro b' o hb'
  unfold ab.set at hb'
  by_cases hbg:b'=b
  ·rw[if_pos hbg]at hb';injection hb' with hb';subst hb';subst hbg
   exact⟨q2,q3,_,t,setRow_heap w b' c _ t _ hb,hcells,xn.setAt q6 hfl off⟩
  ·rw[if_neg hbg]at hb'
   obtain⟨r1,r2,r3⟩:=h.store b' o hb'
   refine⟨r1,r2,?_⟩
   have hbk:=setRow_other w b b' (laid c off news) hbg
   cases o with
   |cells cs=>
    obtain⟨c0,t0,r4,r5,r6⟩:=r3
    exact⟨c0,t0,hbk.trans r4,r5.mono (fun _ _ hv=>hpres.vr h.aO hv) (fun b'' j hb''=>⟨hb'',rfl,setRow_other w b b'' _ (fun e=>by subst e;rw[q2]at hb'';cases hb'')⟩),r6⟩
   |map es=>
    obtain⟨ents,clock,r4,r5,r6⟩:=r3
    exact⟨ents,clock,hbk.trans r4,r5,fun j x y hx hy=>⟨hpres.vr h.aO (r6 j x y hx hy).1,hpres.vr h.aO (r6 j x y hx hy).2⟩⟩
 obtain⟨h2,_⟩:=h.written (σ':={σ with s:=σ.s.set b (.cells (setAt cs off ds))}) hb (.inr q2) q3 rfl c6 (fun k=>.inl ⟨rfl,by rw[q2];simp⟩)
 exact⟨h2,hpres⟩
theorem Inv.Hr(h:Inv G n D σ a w){d:Option Nat}(hd:ba n d=true){av:AV}{v:Value}(hi:c9 av=true)(hv:VR w G.R av v)(hview:view av=av):Inv G n D (σ.put d av) (a.put d v) w:=by
 have:=h.put (s':=σ.s) (lp':=σ.lp) d (fun i hi=>by subst hi;simpa[ba]using hd) av v h.aO (aG.refl G w) h.store (fun _ hx=>hx) (fun i t _ ht=>(eH hi t ht).elim) (fun i t _⟨cs,hcs⟩=>(l9 hi cs hcs).elim)
  (fun _ _ _ _=>⟨rfl,rfl,rfl⟩) (fun _ _ _ _ _ _ hcc=>⟨hcc,rfl,rfl⟩) (fun i hdi=>by
    rw[da.oo hi]
    refine⟨hv,?_⟩
    rw[←hview];exact df.view ..)
 cases d<;>exact this
theorem Inv.S2(h:Inv G n D σ a w){d:Option Nat}(hd:ba n d=true):Inv G n D (σ.put d (.gu [])) (a.put d (.tuple #[])) w:=by
 have:=h.put (s':=σ.s) (lp':=σ.lp) d (fun i hi=>by subst hi;simpa[ba]using hd) (.gu []) (.tuple #[]) h.aO (aG.refl G w) h.store (fun _ hx=>hx) (fun i t _ ht=>ht.elim) (fun i t _⟨cs,hcs⟩=>by cases hcs)
  (fun _ _ _ _=>⟨rfl,rfl,rfl⟩) (fun _ _ _ _ _ _ hcc=>⟨hcc,rfl,rfl⟩) (fun i hdi=>⟨#[],rfl,rfl,fun j x y hx=>by simp at hx⟩)
 cases d<;>exact this
theorem EM(h:Inv G n D σ a w){op:Op}{ty:TypeId}{sz m:Nat}{z:List AV}{ps:List (Nat×Nat×IX)}{d:Option Nat}{K:St→Prop}(hd:ba n d=true)(hc:au P op ty (.jE sz m z ps)=true)(hw:gH P (.jE sz m z ps) d σ K):mj P G n D w a op ty d K:=by
 cases op<;>first|(simp[au]at hc;done)|skip
 rename_i t m' qs
 simp only[au,Bool.and_eq_true,beq_iff_eq]at hc
 obtain⟨rfl,hc⟩:=hc
 split at hc<;>try(cases hc;done)
 rename_i e ht
 have ht:=cC ht
 simp only[Bool.and_eq_true]at hc
 obtain⟨⟨⟨⟨hs,hpos⟩,hp⟩,hlim⟩,hz⟩:=hc
 obtain⟨i,hi,hisz⟩:=iE hs
 rw[hi]at hz
 simp only at hz
 split at hz<;>try(cases hz;done)
 rename_i zv hzv
 simp only[Bool.and_eq_true,beq_iff_eq]at hz
 obtain⟨hzr,hzs⟩:=hz
 have hpos:=of_decide_eq_true hpos
 have hlim:=of_decide_eq_true hlim
 have hw':tc sz m σ d K (fill (xg true σ) z ps):=hw
 cases hfl:fill (xg true σ) z ps with
 |none=>rw[hfl]at hw';exact hw'.elim
 |some ds=>
  rw[hfl]at hw'
  obtain⟨hlen,hk⟩:=hw'
  obtain⟨hl,hpa⟩:=vg _ _ hp
  obtain⟨hz1,hz2⟩:=Ac hzr
  have hrow:Row w G.R z ((Array.range (m*sz)).map (zv.cells[·% zv.cells.size]!)):=by
   rw[←hzs,sX]
   exact⟨by simpa using hz1,fun j c u hc hu=>ru (hz2 j c u hc (by simpa using hu)) w G.R,AM hzr⟩
  have hf:∀(o:Operand)(x:IX),bw o x=true→c9 (xg true σ x)=true→VR w G.R (xg true σ x) (a.eval o):=fun o x hx hi=>by
   have:=BR.aJ h hx
   generalize xg true σ x=av at hi this
   cases av<;>first|exact this|(simp[c9]at hi)
  obtain⟨us,h1,h2⟩:=pM h hf (fun i=>some (i*sz,sz)) qs.toList ps z ds _ ⟨hl,fun j q p hq hp'=>by
   obtain⟨⟨e1,e2⟩,hx⟩:=hpa j q p hq hp'
   exact⟨by rw[e1,e2],hx⟩⟩ hrow hfl
  obtain⟨G1,h3,h4⟩:=h.I7 (t:=e) (c:=us) (cs:=views ds) hd (.inr ⟨m,m,rfl,rfl⟩) (fun G' w' o hp=>lz (h2.mono fun _ _ hv=>hp.vr h.aO hv)) h2.2.2.views
  intro pos after gd next Q hn
  refine aN ?_ (hn G1 _ _ _ h3 h4 (hk w.heap.size (h.store.get_none h.aO)))
  by_cases hm0:m*sz=0
  ·have hm:m=0:=by
    rcases Nat.mul_eq_zero.1 hm0 with h|h
    ·exact h
    ·omega
   subst hm
   simp only[Nat.zero_mul]at h1
   have:(Array.range 0).map (zv.cells[·% zv.cells.size]!)= #[]:=by simp
   rw[this]at h1
   have hr0:Array.map (fun _:Nat=>(default:Value)) (Array.range 0)= #[]:=by apply Array.ext';simp
   simp[execOp,Instr.buildSlice,run_underlying ht,run_sizeOf hs,hr0,h1,newRow]
  ·have h24:¬(16777216<m*sz):=by omega
   simp[execOp,Instr.buildSlice,run_underlying ht,run_sizeOf hs,h24,hm0,zeroValue,typeInfo,hi,hzv,h1,newRow]
end
end Go.AB
end
