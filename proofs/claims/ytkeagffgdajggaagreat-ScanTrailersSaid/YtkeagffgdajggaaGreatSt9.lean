/- A part. -/
import Derived.Test.YtkeagffgdajggaaGreatSt8
set_option linter.unusedSimpArgs false
set_option linter.unusedVariables false
section
namespace Go.AB
open Go
theorem gj{i:Nat}:∀{l:List IX},IX.t i∈l->i∈A4 l
 |.t j::r,h=>by
  rcases List.mem_cons.1 h with h|h
  ·injection h with h;subst h;exact List.mem_cons_self
  ·exact List.mem_cons_of_mem _ (gj h)
 |.c a::r,h=>by
  rcases List.mem_cons.1 h with h|h
  ·cases h
  ·exact gj (l:=r) h
section
variable{P:Program}{G G':Gh}{n:Nat}{D:List Deferred}{E E':St}{a:Act}{w w':World}
structure HQ(o:ai)(E E':St):Prop where
 xs:∀x∈cJ o.op,E.x x=E'.x x
 g:∀t want,o.g=some (t,want)->look E.e t=look E'.e t
 s:E.s=E'.s
 rd:∀x∈cJ o.op,∀g n,rd E (AB.xg g E x) n=rd E' (AB.xg g E x) n
theorem HQ.symm{o:ai}(h:HQ o E E'):HQ o E' E:=⟨fun x hx=>(h.xs x hx).symm,fun t w hg=>(h.g t w hg).symm,h.s.symm,fun x hx g n=>by
 have e:AB.xg g E' x=AB.xg g E x:=by unfold AB.xg;rw[h.xs x hx]
 rw[e];exact(h.rd x hx g n).symm⟩
theorem HQ.xg{o:ai}(h:HQ o E E')(g:Bool):∀x∈cJ o.op,xg g E x=xg g E' x:=fun x hx=>by unfold AB.xg;rw[h.xs x hx]
theorem HQ.qv{o:ai}(h:HQ o E E'):qv o E=qv o E':=by
 have hp:∀g,pv o.op (AB.xg g E) E=pv o.op (AB.xg g E') E':=fun g=>Qe (h.xg g) h.xs h.s fun x hx n=>h.rd x hx g n
 unfold AB.qv
 cases hg:o.g with
 |none=>exact hp true
 |some tw=>
  obtain⟨t,want⟩:=tw
  show JB o.op want E (look E.e t)=JB o.op want E' (look E'.e t)
  rw[h.g t want hg]
  unfold JB
  split
  ·rw[hp]
  ·rw[hp]
  ·rfl
theorem HQ.qe{o:ai}(h:HQ o E E')(g:Bool):qe (AB.xg g E) E.s o.op=qe (AB.xg g E') E'.s o.op:=by
 have hx:=h.xg g
 have hs:=h.s
 obtain⟨d,op,gg⟩:=o
 cases op<;>first|rfl|skip
 case gN x=>show sP (AB.xg g E x)=sP (AB.xg g E' x);rw[hx x (by simp[cJ])]
 case bB sz n z ps=>show C9 sz n (fill (AB.xg g E) z ps)=C9 sz n (fill (AB.xg g E') z ps);rw[uO ps z hx]
 case lookup kk z ok x k=>show ij kk z ok E.s (AB.xg g E k) (AB.xg g E x)=ij kk z ok E'.s (AB.xg g E' k) (AB.xg g E' x);rw[hx x (by simp[cJ]),hx k (by simp[cJ]),hs]
 case qP x=>show zk (AB.xg g E x)=zk (AB.xg g E' x);rw[hx x (by simp[cJ])]
 case jg x=>show AA (AB.xg g E x)=AA (AB.xg g E' x);rw[hx x (by simp[cJ])]
theorem HQ.CP{o:ai}(h:HQ o E E'):CP o E=CP o E':=by
 unfold AB.CP
 cases hg:o.g with
 |none=>exact h.qe true
 |some tw=>
  obtain⟨t,want⟩:=tw
  show Mp o.op want E (look E.e t)=Mp o.op want E' (look E'.e t)
  rw[h.g t want hg]
  unfold Mp
  split
  ·rw[h.qe]
  ·rw[h.qe]
  ·rfl
theorem Y.J7{o:ai}{v:AV}(hy:Y P E o v)(h:HQ o E E'):Y P E' o v:=by
 cases hy with
 |pure _ _ hq=>exact .pure o v (by rw[<-h.qv];exact hq)
 |iJ d x hi=>
  have hx:E.x x=E'.x x:=h.xs x (by simp[cJ])
  rw[hx]at hi⊢
  exact .iJ d x hi
 |call d f args as rs h1 h2 h3=>exact .call d f args as rs (by rw[<-fm args (h.xg true)];exact h1) h2 (by rw[<-h.s];exact h3)
 |Ie d f args t want g0 b rs h0 h2 h1=>
  refine .Ie d f args t want g0 b rs (by rw[<-h.g t want rfl];exact h0) h2 fun hb=>?_
  obtain⟨as,q1,q2⟩:=h1 hb
  exact⟨as,by rw[<-fm args (h.xg true)];exact q1,by rw[<-h.s];exact q2⟩
 |dj d x args f as rs h1 hf h2 h3=>
  obtain⟨first,dZ,xs,q1,q2,q3⟩:=h1
  exact .dj d x args f as rs ⟨first,dZ,xs,by rw[<-h.xg true x List.mem_cons_self];exact q1,by rw[<-fm args fun y hy=>h.xg true y (List.mem_cons_of_mem _ hy)];exact q2,q3⟩ hf h2 (by rw[<-h.s];exact h3)
 |BB d x args t want g0 b rs h0 h2 h1=>
  refine .BB d x args t want g0 b rs (by rw[<-h.g t want rfl];exact h0) h2 fun hb=>?_
  obtain⟨f,as,⟨first,dZ,xs,q1,q2,q3⟩,q4,q5⟩:=h1 hb
  exact⟨f,as,⟨first,dZ,xs,by rw[<-h.xg true x List.mem_cons_self];exact q1,by rw[<-fm args fun y hy=>h.xg true y (List.mem_cons_of_mem _ hy)];exact q2,q3⟩,q4,by rw[<-h.s];exact q5⟩
 |TR _ _ hq=>exact .TR o v (by rw[<-h.CP];exact hq)
theorem Sh(o:ai)(i:Nat):look (dr o E).e i=if gp o i=true then view (look E.e i)else look E.e i:=by
 unfold dr gp
 split
 ·rename_i x hop
  cases x with
  |c a=>simp only[hop];rfl
  |t j=>
   simp only[hop]
   show look ((j,view (look E.e j))::E.e) i=_
   rw[aM]
   by_cases hj:j=i
   ·subst hj;simp
   ·simp[hj]
 ·rename_i hop
  split
  ·rename_i j adI
   exact absurd adI (hop (.t j))
  ·simp
theorem gE(o:ai)(v:AV)(i:Nat):look (step E o v).e i=if o.dst=some i then v else if gp o i=true then view (look E.e i)else look E.e i:=by
 unfold step
 rw[<-Sh]
 cases hd:o.dst with
 |none=>simp[St.put,(gR (dr o E) v none).1]
 |some d=>
  show look ((d,v)::(bI (dr o E) v (some d)).e) i=_
  rw[aM,(gR (dr o E) v (some d)).1]
  simp
theorem Zt(o:ai):(dr o E).s=E.s/\(dr o E).lp=E.lp:=by
 unfold dr
 split
 ·rename_i x _
  cases x<;>exact⟨rfl,rfl⟩
 ·exact⟨rfl,rfl⟩
theorem sx(o:ai)(v:AV):(step E o v).s=E.s:=by
 unfold step
 have:∀(τ:St)(d:Option Nat)(x:AV),(τ.put d x).s=τ.s:=fun τ d x=>by cases d<;>rfl
 rw[this,(gR (dr o E) v o.dst).2.1,(Zt o).1]
theorem sf(av:AV):aZ (view av)=aZ av:=by cases av<;>rfl
theorem CT(av:AV)(n off:Nat):kB n off (view av)=kB n off av:=by cases av<;>rfl
theorem iU{av:AV}(h:aZ av=true)(n off:Nat):kB n off av=none:=by cases av<;>first|rfl|(simp[aZ]at h)
theorem SV{o:ai}{v:AV}(hf:aX E o.dst=true)(hv:aZ v=true):∀p n,rd (step E o v) p n=rd E p n:=by
 intro p n
 cases p<;>try rfl
 ·rename_i b off
  show tL n off ((step E o v).s b)=tL n off (E.s b)
  rw[sx]
 ·rename_i d off
  show kB n off (look (step E o v).e d)=kB n off (look E.e d)
  rw[gE]
  by_cases hd:o.dst=some d
  ·rw[if_pos hd,iU hv]
   rw[hd]at hf
   exact(iU hf n off).symm
  ·rw[if_neg hd]
   split
   ·exact CT ..
   ·rfl
theorem HU{o y:ai}{v:AV}(hf:aX E y.dst=true)(hv:aZ v=true)(hn:fJ y.dst (bO o)=true)(hdr:P2 y o=true):HQ o E (step E y v):=by
 have key:∀i,i∈bO o->look (step E y v).e i=look E.e i:=by
  intro i hi
  have h1:¬gp y i=true:=by
   have:=List.all_eq_true.1 hdr i hi
   simpa using this
  rw[gE,if_neg,if_neg h1]
  intro hd
  rw[hd]at hn
  simp[fJ]at hn
  exact hn hi
 refine⟨fun x hx=>?_,fun t want hg=>?_,(sx y v).symm,fun x _ g n=>(SV hf hv _ n).symm⟩
 ·cases x with
  |c a=>rfl
  |t i=>exact(key i (List.mem_append_right _ (gj hx))).symm
 ·exact(key t (List.mem_append_left _ (by rw[hg];exact List.mem_cons_self))).symm
structure kq(E E':St):Prop where
 e:∀i,look E.e i=look E'.e i
 lp:∀x,x∈E.lp↔x∈E'.lp
 s:E.s=E'.s
theorem kq.refl(E:St):kq E E:=⟨fun _=>rfl,fun _=>Iff.rfl,rfl⟩
theorem kq.symm(h:kq E E'):kq E' E:=⟨fun i=>(h.e i).symm,fun x=>(h.lp x).symm,h.s.symm⟩
theorem kq.trans{E₃:St}(h:kq E E')(k:kq E' E₃):kq E E₃:=⟨fun i=>(h.e i).trans (k.e i),fun x=>(h.lp x).trans (k.lp x),h.s.trans k.s⟩
theorem kq.rd(h:kq E E'):∀p n,AB.rd E p n=AB.rd E' p n:=by
 intro p n
 cases p<;>try rfl
 ·rename_i b off
  show tL n off (E.s b)=tL n off (E'.s b)
  rw[h.s]
 ·rename_i d off
  show kB n off (look E.e d)=kB n off (look E'.e d)
  rw[h.e]
theorem kq.J7(h:kq E E')(o:ai):HQ o E E':=⟨fun x _=>by cases x with
 |c a=>rfl
 |t i=>exact h.e i,fun t _ _=>h.e t,h.s,fun x _ g n=>h.rd _ n⟩
theorem kq.free(h:kq E E')(d:Option Nat):aX E d=aX E' d:=by
 cases d with
 |none=>rfl
 |some d=>show aZ (look E.e d)=aZ (look E'.e d);rw[h.e]
theorem Cq:∀(v:AV)(d:Option Nat)(x:Nat×Nat),x∈(bI E v d).lp↔(x∈E.lp\/∃i,d=some i/\x.1=i/\bd v x.2)
 |.lp t off,some i,(x1,x2)=>by
  show(x1,x2)∈(i,t)::E.lp↔_
  rw[List.mem_cons]
  constructor
  ·rintro(h|h)
   ·injection h with h1 h2;exact .inr ⟨i,rfl,h1,h2.symm⟩
   ·exact .inl h
  ·rintro(h|⟨j,h1,h2,h3⟩)
   ·exact .inr h
   ·injection h1 with h1
    have h3':t=x2:=h3
    have h2':x1=j:=h2
    subst h1;subst h2';subst h3'
    exact .inl rfl
 |.lp t off,none,x=>⟨fun h=>.inl h,fun h=>h.elim id fun⟨_,h1,_⟩=>by cases h1⟩
 |.when _ v,d,x=>Cq v d x
 |.undef,_,_|.bool _,_,_|.int _ _,_,_|.str _,_,_|.cZ,_,_|.ref _ _,_,_|.sp _,_,_|.loc _,_,_|.sl _ _ _ _,_,_|.arr _ _ _ _,_,_|.agg _,_,_|.gb _,_,_|.fn _ _ _,_,_|.nn,_,_|.mp _,_,_|.sd,_,_|.us _ _ _,_,_|.one,_,_|.lW _,_,_|.kp,_,_|.bb _ _ _,_,_=>⟨fun h=>.inl h,fun h=>h.elim id fun⟨_,_,_,h3⟩=>h3.elim⟩
theorem tq(o:ai)(v:AV)(x:Nat×Nat):x∈(step E o v).lp↔(x∈E.lp\/∃i,o.dst=some i/\x.1=i/\bd v x.2):=by
 have h1:(step E o v).lp=(bI (dr o E) v o.dst).lp:=by unfold step;cases o.dst<;>rfl
 rw[h1,<-(Zt (E:=E) o).2]
 exact Cq v o.dst x
theorem Inv.eqv(h:Inv G n D E a w)(k:kq E E'):Inv G n D E' a w:=
 ⟨h.aJ,by rw[<-k.s];exact h.store,h.size,fun i v hv=>by
   rw[<-k.e i]
   exact cN.frame (fun _ _ hv=>hv) (fun b _=>⟨rfl,rfl,rfl⟩) (fun _ _ _ _ hc=>⟨hc,rfl,rfl⟩) _ _ (fun t _ cs hcs=>⟨cs,by rw[k.e];exact hcs,rfl⟩) (h.bO i v hv),
   fun i hi=>by rw[<-k.e i];exact h.DE i hi,fun i t ht=>(k.lp _).1 (h.JX i t (by rw[k.e];exact ht)),h.qG⟩
theorem kq.step(h:kq E E')(o:ai)(v:AV):kq (AB.step E o v) (AB.step E' o v):=⟨fun i=>by rw[gE,gE,h.e],fun x=>by rw[tq,tq,h.lp],by rw[sx,sx,h.s]⟩
theorem NJ{x y:ai}{u v:AV}(hne:∀i j,x.dst=some i->y.dst=some j->i≠j)(hxy:∀i,y.dst=some i->gp x i=false)(hyx:∀i,x.dst=some i->gp y i=false):kq (step (step E x u) y v) (step (step E y v) x u):=
 ⟨fun i=>by
   rw[gE,gE,gE,gE]
   by_cases h1:y.dst=some i
   ·by_cases h2:x.dst=some i
    ·exact absurd rfl (hne i i h2 h1)
    ·simp[h1,h2,hxy i h1]
   ·by_cases h2:x.dst=some i
    ·simp[h1,h2,hyx i h2]
    ·simp only[h1,h2,if_false]
     by_cases h3:gp x i=true<;>by_cases h4:gp y i=true<;>simp[h3,h4],fun z=>by
   rw[tq,tq,tq,tq]
   constructor
   ·rintro((h|h)|h)
    ·exact .inl (.inl h)
    ·exact .inr h
    ·exact .inl (.inr h)
   ·rintro((h|h)|h)
    ·exact .inl (.inl h)
    ·exact .inr h
    ·exact .inl (.inr h),by rw[sx,sx,sx,sx]⟩
end
section
variable{P:Program}{G G':Gh}{n:Nat}{D:List Deferred}{E E':St}{a:Act}{w w':World}
theorem Inv.tu{d:Option Nat}{av:AV}(h:Inv G n D (E.put d (.gb [])) a w)(hd:aS n d=true)(hnl:∀t,¬bd av t):Inv G n D (E.put d (.when false av)) a w:=by
 cases d with
 |none=>exact h
 |some i=>
  have hi:i<n:=by simpa[aS]using hd
  have e1:look (E.put (some i) (.gb [])).e i=.gb []:=by simp[St.put,aM]
  have:=h.Mr i hi (.when false av) hnl (fun cs e=>by cases e) (fun v hv=>by
   have hs:=h.bO i v hv
   rw[e1]at hs
   obtain⟨ys,rfl,h2⟩:=hs
   refine⟨fun hh=>Bool.noConfusion hh,fun _=>?_⟩
   have:ys= #[]:=Array.eq_empty_of_size_eq_zero (by simpa using h2.1)
   rw[this])
  refine this.eqv ⟨fun j=>?_,fun _=>Iff.rfl,rfl⟩
  simp only[St.put,aM]
  split<;>rfl
theorem td{rs:List AV}(h:iw rs=true)(t:Nat):¬bd (dX rs) t:=by
 match rs,h with
 |[],_=>exact fun h=>h
 |[r],h=>exact Da h t
 |_::_::_,_=>exact fun h=>h
theorem Qm{op:qT}{d:Option Nat}{v:AV}{K:St->Prop}(h:qe (xg true E) E.s op=.cT v\/∃c,qe (xg true E) E.s op=.prt c v/\c)(hk:K (E.put d v)):gz P op d E K:=by
 cases op<;>first|(rcases h with h|⟨c,h,_⟩<;>cases h;done)|skip
 case gN x=>
  show oB E d K (xg true E x)
  have h':sP (xg true E x)=.cT v\/∃c,sP (xg true E x)=.prt c v/\c:=h
  cases hx:xg true E x<;>rw[hx]at h'<;>first|(rcases h' with h'|⟨c,h',_⟩<;>cases h';done)|skip
  rcases h' with h'|⟨c,h',_⟩
  ·injection h' with h';subst h';exact hk
  ·cases h'
 case lookup kk z ok x k=>
  show K6 E d K (ij kk z ok E.s (xg true E k) (xg true E x))
  have h':ij kk z ok E.s (xg true E k) (xg true E x)=.cT v\/∃c,ij kk z ok E.s (xg true E k) (xg true E x)=.prt c v/\c:=h
  rcases h' with h'|⟨c,h',hc⟩<;>rw[h']
  ·exact hk
  ·exact⟨hc,hk⟩
 case qP x=>
  show K6 E d K (zk (xg true E x))
  have h':zk (xg true E x)=.cT v\/∃c,zk (xg true E x)=.prt c v/\c:=h
  rcases h' with h'|⟨c,h',hc⟩<;>rw[h']
  ·exact hk
  ·exact⟨hc,hk⟩
 case jg x=>
  show K6 E d K (AA (xg true E x))
  have h':AA (xg true E x)=.cT v\/∃c,AA (xg true E x)=.prt c v/\c:=h
  rcases h' with h'|⟨c,h',hc⟩<;>rw[h']
  ·exact hk
  ·exact⟨hc,hk⟩
 case bB sz m z ps=>
  show vH sz m E d K (fill (xg true E) z ps)
  have h':C9 sz m (fill (xg true E) z ps)=.cT v\/∃c,C9 sz m (fill (xg true E) z ps)=.prt c v/\c:=h
  cases hx:fill (xg true E) z ps<;>rw[hx]at h'
  ·rcases h' with h'|⟨c,h',_⟩<;>cases h'
  ·rcases h' with h'|⟨c,h',hc⟩
   ·cases h'
   ·injection h' with h1 h2;subst h1;subst h2;exact⟨hc,hk⟩
theorem Y.run(h:Inv G n D E a w){ops:Array Oper}{o:Oper}{o':ai}{v:AV}(hc:gn P n ops o o'=true)(hy:Y P E o' v){next:Act->World->Prop}{Q:Exit->Act->World->Prop}
 (hn:∀G' a' w',Inv G' n D (step E o' v) a' w'->az G w G' w'->next a' w'):xb P ops o a w next Q:=by
 have gen:JW P o' E (fun τ=>τ=step E o' v)->xb P ops o a w next Q:=fun hg=>fP h hc hg fun G' E' a' w' h1 h2 h3=>by subst h3;exact hn G' a' w' h1 h2
 cases hy with
 |iJ d x hi=>
  refine gen ?_
  show Nj E x d (fun τ=>τ=step E ⟨d,.iJ true x,none⟩ (E.x x)) (E.x x)
  refine⟨hi,?_⟩
  show _=(bI (E.drain x) (E.x x) d).put d (E.x x)
  rw[I0 hi]
 |pure _ _ hq=>
  have hdr:dr o' E=E:=OM (by rcases hq with hq|⟨c,hq,_⟩<;>rw[hq]<;>simp)
  have cj:step E o' v=(bI E v o'.dst).put o'.dst v:=by unfold step;rw[hdr]
  rw[cj]at hn gen
  obtain⟨d,op,g⟩:=o'
  cases g with
  |none=>
   refine gen ?_
   show Ra P op E d (fun τ=>τ=(bI E v d).put d v) (pv op (xg true E) E)
   have hq':(pv op (xg true E) E=.cT v\/∃c,pv op (xg true E) E=.prt c v/\c):=hq
   rcases hq' with hq|⟨c,hq,hcc⟩
   ·rw[hq];rfl
   ·rw[hq];exact⟨hcc,rfl⟩
  |some tw=>
   obtain⟨t,want⟩:=tw
   have hq':(JB op want E (look E.e t)=.cT v\/∃c,JB op want E (look E.e t)=.prt c v/\c):=hq
   rcases WX (o:=op) (want:=want) (E:=E) (a:=look E.e t)with⟨g0,b,hg0,hl⟩|hl<;>rw[hl]at hq'
   case inr=>rcases hq' with hq|⟨c,hq,_⟩<;>cases hq
   have hgs:=fun K=>A3 (P:=P) (o:=op) (d:=d) (t:=t) (want:=want) (E:=E) (K:=K) hg0
   generalize(g0&&(b==want))=gg at hq' hgs
   have hq2:(N5 (W0 op) gg (pv op (xg gg E) E)=.cT v\/∃c,N5 (W0 op) gg (pv op (xg gg E) E)=.prt c v/\c):=hq'
   cases hp:pv op (xg gg E) E with
   |cT x=>
    refine gen ?_
    show xY P op d t want E _ (look E.e t)
    rw[hgs]
    show N4 P gg op E d (fun τ=>τ=(bI E v d).put d v) (pv op (xg gg E) E)
    rw[hp]
    rw[hp]at hq2
    rcases hq2 with hq|⟨c,hq,_⟩
    ·injection hq with hq;subst hq;rfl
    ·cases hq
   |prt c x=>
    refine gen ?_
    show xY P op d t want E _ (look E.e t)
    rw[hgs]
    show N4 P gg op E d (fun τ=>τ=(bI E v d).put d v) (pv op (xg gg E) E)
    rw[hp]
    rw[hp]at hq2
    rcases hq2 with hq|⟨c',hq,hcc⟩
    ·cases hq
    ·injection hq with hq1 hq2;subst hq1;subst hq2;exact⟨hcc,rfl⟩
   |no=>
    rw[hp]at hq2
    cases hr:W0 op with
    |false=>
     rw[hr]at hq2
     have hq3:(PR.no=.cT v\/∃c,PR.no=.prt c v/\c):=hq2
     rcases hq3 with hq|⟨c',hq,_⟩<;>cases hq
    |true=>
     rw[hr]at hq2
     have hq3:(PR.prt (gg=false) (.when gg .undef)=.cT v\/∃c,PR.prt (gg=false) (.when gg .undef)=.prt c v/\c):=hq2
     rcases hq3 with hq|⟨c',hq,hcc⟩
     ·cases hq
     injection hq with hq1 hq2
     subst hq1;subst hq2
     have hd:aS n d=true:=by
      simp only[gn,Bool.and_eq_true]at hc
      exact hc.1.1.2
     refine fP (K:=fun τ=>τ=E.put d (.gb [])) h hc ?_ fun G' E' a' w' k1 k2 k3=>?_
     ·show xY P op d t want E (fun τ=>τ=E.put d (.gb [])) (look E.e t)
      rw[hgs]
      show N4 P gg op E d (fun τ=>τ=E.put d (.gb [])) (pv op (xg gg E) E)
      rw[hp]
      exact⟨fun hb=>absurd (hb.symm.trans hcc) (by decide),fun _=>rfl⟩
     ·subst k3
      have e:(bI E (.when gg .undef) d).put d (.when gg .undef)=E.put d (.when false .undef):=by
       rw[hcc]
       have:bI E (.when false .undef) d=E:=by cases d<;>rfl
       show(bI E (.when false .undef) d).put d _=_
       rw[this]
      have hn':=hn
      simp only at hn'
      rw[e]at hn'
      exact hn' G' a' w' (k1.tu hd (fun _ h=>h)) k2
 |call d f args as rs h1 h2 h3=>
  refine gen ?_
  show re P f E d _ (bQ (xg true E) args)
  rw[h1]
  refine FE.app h3 ⟨h2,?_⟩
  show _=(bI E (dX rs) d).put d (dX rs)
  rw[nG h2]
 |Ie d f args t want g0 b rs h0 h2 h1=>
  have hd:aS n d=true:=by
   simp only[gn,Bool.and_eq_true]at hc
   exact hc.1.1.2
  have cj:step E ⟨d,.call f args,some (t,want)⟩ (.when (g0&&(b==want)) (dX rs))=E.put d (.when (g0&&(b==want)) (dX rs)):=by
   show(bI E (.when (g0&&(b==want)) (dX rs)) d).put d (.when (g0&&(b==want)) (dX rs))=_
   have:bI E (.when (g0&&(b==want)) (dX rs)) d=E:=nG h2 E d
   rw[this]
  rw[cj]at hn
  refine fP (K:=fun τ=>((g0&&(b==want))=true/\τ=E.put d (dX rs))\/((g0&&(b==want))=false/\τ=E.put d (.gb []))) h hc ?_ fun G' E' a' w' k1 k2 k3=>?_
  ·show xY P (.call f args) d t want E _ (look E.e t)
   rw[A3 h0]
   refine⟨fun hb=>?_,fun hb=>.inr ⟨hb,rfl⟩⟩
   obtain⟨as,q1,q2⟩:=h1 hb
   show re P f E d _ (bQ (xg true E) args)
   rw[q1]
   exact FE.app q2 ⟨h2,.inl ⟨hb,rfl⟩⟩
  ·rcases k3 with⟨hb,rfl⟩|⟨hb,rfl⟩
   ·rw[hb]at hn;exact hn G' a' w' (k1.sE hd) k2
   ·rw[hb]at hn;exact hn G' a' w' (k1.tu hd (td h2)) k2
 |dj d x args f as rs h1 hf h2 h3=>
  obtain⟨first,dZ,xs,q1,q2,rfl⟩:=h1
  refine gen ?_
  show uK P E (bQ (xg true E) args) d _ (xg true E x)
  rw[q1,q2]
  refine⟨hf,FE.app h3 ⟨h2,?_⟩⟩
  show _=(bI E (dX rs) d).put d (dX rs)
  rw[nG h2]
 |BB d x args t want g0 b rs h0 h2 h1=>
  have hd:aS n d=true:=by
   simp only[gn,Bool.and_eq_true]at hc
   exact hc.1.1.2
  have cj:step E ⟨d,.dj x args,some (t,want)⟩ (.when (g0&&(b==want)) (dX rs))=E.put d (.when (g0&&(b==want)) (dX rs)):=by
   show(bI E (.when (g0&&(b==want)) (dX rs)) d).put d (.when (g0&&(b==want)) (dX rs))=_
   have:bI E (.when (g0&&(b==want)) (dX rs)) d=E:=nG h2 E d
   rw[this]
  rw[cj]at hn
  refine fP (K:=fun τ=>((g0&&(b==want))=true/\τ=E.put d (dX rs))\/((g0&&(b==want))=false/\τ=E.put d (.gb []))) h hc ?_ fun G' E' a' w' k1 k2 k3=>?_
  ·show xY P (.dj x args) d t want E _ (look E.e t)
   rw[A3 h0]
   refine⟨fun hb=>?_,fun hb=>.inr ⟨hb,rfl⟩⟩
   obtain⟨f,as,⟨first,dZ,xs,q1,q2,rfl⟩,q4,q5⟩:=h1 hb
   show uK P E (bQ (xg true E) args) d _ (xg true E x)
   rw[q1,q2]
   exact⟨q4,FE.app q5 ⟨h2,.inl ⟨hb,rfl⟩⟩⟩
  ·rcases k3 with⟨hb,rfl⟩|⟨hb,rfl⟩
   ·rw[hb]at hn;exact hn G' a' w' (k1.sE hd) k2
   ·rw[hb]at hn;exact hn G' a' w' (k1.tu hd (td h2)) k2
 |TR _ _ hq=>
  obtain⟨_,hnl,hlp,hdr⟩:=Ql hq
  have cj:step E o' v=E.put o'.dst v:=by unfold step;rw[hdr,hlp]
  obtain⟨d,op,g⟩:=o'
  cases g with
  |none=>
   refine gen ?_
   have hq':qe (xg true E) E.s op=.cT v\/∃c,qe (xg true E) E.s op=.prt c v/\c:=hq
   show Ra P op E d (fun τ=>τ=step E ⟨d,op,none⟩ v) (pv op (xg true E) E)
   rw[(CQ (hq'.imp id fun⟨c,h,_⟩=>⟨c,h⟩)).2.1]
   exact Qm hq' cj.symm
  |some tw=>
   obtain⟨t,want⟩:=tw
   have hd:aS n d=true:=by
    simp only[gn,Bool.and_eq_true]at hc
    exact hc.1.1.2
   have hq':Mp op want E (look E.e t)=.cT v\/∃c,Mp op want E (look E.e t)=.prt c v/\c:=hq
   rcases Qk (o:=op) (want:=want) (E:=E) (a:=look E.e t)with⟨g0,b,hg0,hl⟩|hl<;>rw[hl]at hq'
   case inr=>rcases hq' with h'|⟨c,h',_⟩<;>cases h'
   have hgs:=fun K=>A3 (P:=P) (o:=op) (d:=d) (t:=t) (want:=want) (E:=E) (K:=K) hg0
   generalize(g0&&(b==want))=gg at hq' hgs
   obtain⟨u,hu,hv⟩:∃u,(gg=true->(qe (xg true E) E.s op=.cT u\/∃c,qe (xg true E) E.s op=.prt c u/\c))/\v=.when gg u:=by
    have h2:J0 gg (qe (xg gg E) E.s op)=.cT v\/∃c,J0 gg (qe (xg gg E) E.s op)=.prt c v/\c:=hq'
    cases hq2:qe (xg gg E) E.s op with
    |cT u=>
     rw[hq2]at h2
     refine⟨u,fun hb=>?_,?_⟩
     ·rw[hb]at hq2;exact .inl hq2
     ·rcases h2 with h2|⟨c,h2,_⟩
      ·injection h2 with h2;exact h2.symm
      ·cases h2
    |prt c u=>
     rw[hq2]at h2
     rcases h2 with h2|⟨c',h2,hc'⟩
     ·cases h2
     ·injection h2 with h3 h4
      refine⟨u,fun hb=>?_,h4.symm⟩
      rw[hb]at hq2
      subst h3
      exact .inr ⟨c,hq2,hc' hb⟩
    |no=>rw[hq2]at h2;rcases h2 with h2|⟨c,h2,_⟩<;>cases h2
   subst hv
   have hpn:∀f τ,pv op f τ=.no:=by
    intro f τ
    have h2:J0 gg (qe (xg gg E) E.s op)=.cT _\/∃c,J0 gg (qe (xg gg E) E.s op)=.prt c _/\c:=hq'
    cases op<;>first|rfl|(rcases h2 with h2|⟨c,h2,_⟩<;>cases h2)
   rw[cj]at hn
   refine fP (K:=fun τ=>(gg=true/\τ=E.put d u)\/(gg=false/\τ=E.put d (.gb []))) h hc ?_ fun G' E' a' w' k1 k2 k3=>?_
   ·show xY P op d t want E _ (look E.e t)
    rw[hgs,hpn]
    unfold N4
    refine⟨fun hb=>?_,fun hb=>.inr ⟨hb,rfl⟩⟩
    show Ra P op E d _ (pv op (xg true E) E)
    rw[hpn]
    exact Qm (hu hb) (.inl ⟨hb,rfl⟩)
   ·rcases k3 with⟨hb,rfl⟩|⟨hb,rfl⟩
    ·rw[hb]at hn;exact hn G' a' w' (k1.sE hd) k2
    ·rw[hb]at hn;exact hn G' a' w' (k1.tu hd fun t ht=>hnl t ht) k2
theorem Mq{ops:Array Oper}{Q:Exit->Act->World->Prop}{K:St->Prop}(G₀:Gh)(w₀:World)
 (hn:∀G' E' a' w',Inv G' n D E' a' w'->az G₀ w₀ G' w'->K E'->Q .normal a' w'):∀(q:Nat)(l:List Oper)(l':List ai)(G:Gh)(E:St)(a:Act)(w:World),bS P n ops l l'=true->Inv G n D E a w->az G₀ w₀ G w->Re P q l' E K->wpList P ops Q l a w
 |0,l,l',G,E,a,w,hc,h,hp,hk=>pn G₀ w₀ hn l l' G E a w hc h hp hk
 |_+1,[],[],G,E,a,w,_,h,hp,hk=>hn G E a w h hp hk
 |q+1,o::l,o'::l',G,E,a,w,hc,h,hp,hk=>by
  simp only[bS,Bool.and_eq_true]at hc
  obtain⟨hf,hk⟩:=hk
  obtain⟨v,hv,hy,hk⟩:=Lb hk
  show xb P ops o a w (wpList P ops Q l) Q
  exact hy.run h hc.1 fun G' a' w' h1 h2=>Mq G₀ w₀ hn q l l' G' _ a' w' hc.2 h1 (hp.trans h2) hk
 |_+1,[],_::_,_,_,_,_,hc,_,_,_=>by simp[bS]at hc
 |_+1,_::_,[],_,_,_,_,hc,_,_,_=>by simp[bS]at hc
abbrev qU:=List (Nat×ai×AV)
def vB(P:Program):St->qU->Prop
 |_,[]=>True
 |E,(_,o,v)::r=>aX E o.dst=true/\aZ v=true/\Y P E o v/\vB P (step E o v) r
def fin:St->qU->St
 |E,[]=>E
 |E,(_,o,v)::r=>fin (step E o v) r
theorem vB.eqv:∀{p:qU}{E E':St},kq E E'->vB P E p->vB P E' p
 |[],_,_,_,_=>trivial
 |(_,o,v)::r,_,_,h,⟨h1,h2,h3,h4⟩=>⟨by rw[<-h.free];exact h1,h2,h3.J7 (h.J7 o),vB.eqv (h.step o v) h4⟩
theorem LO:∀(p:qU){E E':St},kq E E'->kq (fin E p) (fin E' p)
 |[],_,_,h=>h
 |(_,o,v)::r,_,_,h=>LO r (h.step o v)
theorem tS{o:ai}{i:Nat}(h:gp o i=true):i∈bO o:=by
 unfold gp at h
 split at h
 ·rename_i j hop
  have:j=i:=by simpa using h
  subst this
  refine List.mem_append_right _ ?_
  rw[hop]
  exact List.mem_cons_self
 ·cases h
theorem Rl{x y:ai}(h:ap x y=true):fJ x.dst (bO y)=true/\fJ y.dst (bO x)=true/\(∀i j,x.dst=some i->y.dst=some j->i≠j)/\P2 x y=true/\P2 y x=true/\(∀i,y.dst=some i->gp x i=false)/\(∀i,x.dst=some i->gp y i=false):=by
 unfold ap at h
 simp only[Bool.and_eq_true]at h
 refine⟨h.1.1.2,h.1.2,fun i j hi hj=>?_,h.1.1.1.1,h.1.1.1.2,fun i hi=>?_,fun i hi=>?_⟩
 ·have:=h.2
  rw[hi,hj]at this
  simpa using this
 ·have:=h.1.2
  rw[hi]at this
  simp[fJ]at this
  cases hd:gp x i with
  |false=>rfl
  |true=>exact absurd (tS hd) this
 ·have:=h.1.1.2
  rw[hi]at this
  simp[fJ]at this
  cases hd:gp y i with
  |false=>rfl
  |true=>exact absurd (tS hd) this
theorem pull{x:Nat×ai×AV}:∀(pre:qU)(post:qU)(E:St),(∀y∈pre,ap y.2.1 x.2.1=true)->vB P E (pre++x::post)->
 aX E x.2.1.dst=true/\aZ x.2.2=true/\Y P E x.2.1 x.2.2/\vB P (step E x.2.1 x.2.2) (pre++post)/\kq (fin (step E x.2.1 x.2.2) (pre++post)) (fin E (pre++x::post))
 |[],post,E,_,h=>⟨h.1,h.2.1,h.2.2.1,h.2.2.2,kq.refl _⟩
 |(k,o,v)::pre,post,E,hap,h=>by
  obtain⟨h1,h2,h3,h4⟩:=h
  obtain⟨i1,i2,i3,i4,i5⟩:=pull pre post (step E o v) (fun y hy=>hap y (List.mem_cons_of_mem _ hy)) h4
  obtain⟨a1,a2,a3,a4,a5,a6,a7⟩:=Rl (hap (k,o,v) List.mem_cons_self)
  have hfx:aX E x.2.1.dst=true:=by
   cases hd:x.2.1.dst with
   |none=>rfl
   |some j=>
    rw[hd]at i1
    have i1':aZ (look (step E o v).e j)=true:=i1
    rw[gE,if_neg (fun e=>a3 j j e hd rfl)]at i1'
    show aZ (look E.e j)=true
    split at i1'
    ·rw[sf]at i1';exact i1'
    ·exact i1'
  have hfo:aX (step E x.2.1 x.2.2) o.dst=true:=by
   cases hd:o.dst with
   |none=>rfl
   |some j=>
    rw[hd]at h1
    show aZ (look (step E x.2.1 x.2.2).e j)=true
    rw[gE,if_neg (fun e=>a3 j j hd e rfl)]
    split
    ·rw[sf];exact h1
    ·exact h1
  have BL:kq (step (step E o v) x.2.1 x.2.2) (step (step E x.2.1 x.2.2) o v):=NJ a3 a6 a7
  refine⟨hfx,i2,i3.J7 (HU h1 h2 a1 a4).symm,⟨hfo,h2,h3.J7 (HU hfx i2 a2 a5),i4.eqv BL⟩,?_⟩
  exact(LO (pre++post) BL.symm).trans i5
end
section
variable{P:Program}{G G':Gh}{n:Nat}{D:List Deferred}{E E':St}{a:Act}{w w':World}{ops:Array Oper}{bj:List ai}{q:Nat}
def mk:Nat->List ai->List AV->qU
 |k,o::l,v::vs=>(k,o,v)::mk (k+1) l vs
 |_,_,_=>[]
theorem JD{K:St->Prop}:∀(q:Nat)(l:List ai)(E:St)(k:Nat),q<=l.length->Re P q l E K->∃vs:List AV,vs.length=q/\vB P E (mk k l vs)/\swp P (l.drop q) (fin E (mk k l vs)) K
 |0,l,E,k,_,h=>⟨[],rfl,by cases l<;>trivial,by cases l<;>exact h⟩
 |q+1,[],_,_,hl,_=>by simp at hl
 |q+1,o::l,E,k,hl,h=>by
  obtain⟨hf,h1⟩:=h
  obtain⟨v,hv,hy,hk⟩:=Lb h1
  obtain⟨vs,h2,h3,h4⟩:=JD q l (step E o v) (k+1) (by simpa using hl) hk
  exact⟨v::vs,by simp[h2],⟨hf,hv,hy,h3⟩,h4⟩
theorem GS:∀(l:List ai)(vs:List AV)(k:Nat)(i:Nat)(o:ai)(v:AV),(i,o,v)∈mk k l vs->∃j,i=k+j/\j<vs.length/\l[j]? =some o
 |[],_,_,_,_,_,h=>by simp[mk]at h
 |_::_,[],_,_,_,_,h=>by simp[mk]at h
 |o'::l,v'::vs,k,i,o,v,h=>by
  rcases List.mem_cons.1 h with h|h
  ·injection h with h1 h2;injection h2 with h2 h3;subst h1;subst h2
   exact⟨0,rfl,by simp,rfl⟩
  ·obtain⟨j,h1,h2,h3⟩:=GS l vs (k+1) i o v h
   exact⟨j+1,by omega,by simpa using h2,by simpa using h3⟩
theorem yu:∀(l:List ai)(vs:List AV)(k:Nat),(mk k l vs).Pairwise fun x y=>x.1<y.1
 |[],_,_=>by simp[mk]
 |_::_,[],_=>by simp[mk]
 |o::l,v::vs,k=>by
  refine List.Pairwise.cons (fun y hy=>?_) (yu l vs (k+1))
  obtain⟨i,o',v'⟩:=y
  obtain⟨j,h1,_⟩:=GS l vs (k+1) i o' v' hy
  show k<i
  omega
theorem KT:∀(l:List ai)(vs:List AV)(k j:Nat),j<vs.length->j<l.length->∃o v,(k+j,o,v)∈mk k l vs
 |[],_,_,_,_,h=>by simp at h
 |_::_,[],_,_,h,_=>by simp at h
 |o::l,v::vs,k,0,_,_=>⟨o,v,List.mem_cons_self⟩
 |o::l,v::vs,k,j+1,h1,h2=>by
  obtain⟨o',v',h⟩:=KT l vs (k+1) j (by simpa using h1) (by simpa using h2)
  refine⟨o',v',List.mem_cons_of_mem _ ?_⟩
  rw[show k+(j+1)=k+1+j by omega]
  exact h
theorem fo:∀(l:List Oper)(l':List ai),bS P n ops l l'=true->l.length=l'.length/\∀(k:Nat)(o:Oper)(o':ai),l[k]? =some o->l'[k]? =some o'->gn P n ops o o'=true
 |[],[],_=>⟨rfl,fun k o o' h=>by simp at h⟩
 |o::l,o'::l',h=>by
  simp only[bS,Bool.and_eq_true]at h
  obtain⟨h1,h2⟩:=fo l l' h.2
  refine⟨by simp[h1],fun k x x' hx hx'=>?_⟩
  cases k with
  |zero=>simp at hx hx';subst hx;subst hx';exact h.1
  |succ k=>exact h2 k x x' (by simpa using hx) (by simpa using hx')
 |[],_::_,h=>by simp[bS]at h
 |_::_,[],h=>by simp[bS]at h
theorem nh{Q:Exit->Act->World->Prop}{i:Nat}{o:Oper}{next:Act->World->Prop}(ho:ops[i]? =some o)(h:xb P ops o a w next Q):wpOp P ops Q i next a w:=by
 unfold wpOp
 simp only[ho]
 exact h
theorem kT{j i:Nat}{o:Oper}(ho:ops[j]? =some o):gl ops j i=true↔∃e∈o.after,Region.binds .any e=true/\e.on=i:=by
 unfold gl
 rw[ho]
 show(o.after.any fun e=>Region.binds .any e&&e.on==i)=true↔_
 rw[Array.any_eq_true']
 simp only[Bool.and_eq_true,beq_iff_eq]
theorem vx{K:St->Prop}{Q:Exit->Act->World->Prop}(G₀:Gh)(w₀:World)(hc:bS P n ops ops.toList bj=true)
 (hn:∀G' E' a' w',Inv G' n D E' a' w'->az G₀ w₀ G' w'->K E'->Q .normal a' w'):∀(l:List ai)(k:Nat)(aF:Array Bool)(G:Gh)(E:St)(a:Act)(w:World),l=bj.drop k->pG ops l.length k aF=true->
 swp P l E K->Inv G n D E a w->az G₀ w₀ G w->wpAny P .any ops Q l.length aF a w
 |[],_,aF,G,E,a,w,_,ht,hk,h,hp=>⟨List.isEmpty_iff.1 ht,hn G E a w h hp hk⟩
 |o'::l,k,aF,G,E,a,w,hl,ht,hk,h,hp=>by
  have ht':(Region.ready .any ops aF==[k]&&pG ops l.length (k+1) (aF.setIfInBounds k true))=true:=ht
  simp only[Bool.and_eq_true,beq_iff_eq]at ht'
  obtain⟨hr,ht'⟩:=ht'
  obtain⟨hlen,jU⟩:=fo _ _ hc
  have hk':bj[k]? =some o':=by
   have:(bj.drop k)[0]? =some o':=by rw[<-hl];rfl
   simpa using this
  have ZI:l=bj.drop (k+1):=by
   have:(bj.drop k).tail=l:=by rw[<-hl];rfl
   rw[<-this];simp
  have RQ:k<ops.toList.length:=by rw[hlen];exact(List.getElem?_eq_some_iff.1 hk').1
  have ho:ops.toList[k]? =some ops.toList[k]:=List.getElem?_eq_getElem RQ
  refine⟨fun h0=>absurd h0 (by rw[hr];simp),fun i hi=>?_⟩
  rw[hr]at hi
  have:i=k:=by simpa using hi
  subst this
  refine nh (by simp) (fP h (jU i _ _ ho hk') hk fun G' E' a' w' h1 h2 h3=>?_)
  exact vx G₀ w₀ hc hn l (i+1) _ G' E' a' w' ZI ht' h3 h1 (hp.trans h2)
structure Good(ops:Array Oper)(bj:List ai)(q:Nat)(jm:qU)(aF:Array Bool):Prop where
 size:aF.size=ops.size
 un:∀k o v,(k,o,v)∈jm->k<q/\aF.getD k true=false/\bj[k]? =some o
 li:∀k,k<q->(∀o v,(k,o,v)∉jm)->aF.getD k false=true
 tl:∀j,q<=j->j<ops.size->aF.getD j true=false
 cl:∀m,m<q->aF.getD m false=true->∀i,gl ops m i=true->aF.getD i false=true
 sorted:jm.Pairwise fun x y=>x.1<y.1
theorem jT{l:Array Bool}{i:Nat}(h:l.getD i false=true):l.getD i true=true:=by
 rcases Nat.lt_or_ge i l.size with hi|hi
 ·simp[hi]at h⊢;exact h
 ·simp[Array.getElem?_eq_none hi]at h
theorem MC{aF:Array Bool}(hg:Good ops bj q [] aF):aF=oo ops.size q:=by
 apply Array.ext
 ·simp[oo,hg.size]
 ·intro i h1 h2
  simp only[oo,Array.getElem_map,Array.getElem_range]
  have hi:i<ops.size:=by rw[<-hg.size];exact h1
  by_cases hq:i<q
  ·have:=hg.li i hq (fun o v=>by simp)
   simp[h1]at this
   simp[hq,this]
  ·have:=hg.tl i (by omega) hi
   simp[h1]at this
   simp[hq,this]
theorem jj{j:Nat}{aF:Array Bool}(h:j∈Region.ready .any ops aF):j<ops.size/\aF.getD j true=false/\∀i,gl ops j i=true->aF.getD i false=true:=by
 obtain⟨h0,o,ho,cE⟩:=mem_ready.1 h
 refine⟨(Array.getElem?_eq_some_iff.1 ho).1,h0,fun i hi=>?_⟩
 obtain⟨e,he,hb,hon⟩:=(kT ho).1 hi
 rw[<-hon]
 exact cE e he hb
theorem EN{pre post:qU}{x:Nat×ai×AV}{aF:Array Bool}(hg:Good ops bj q (pre++x::post) aF)(hr:x.1∈Region.ready .any ops aF):Good ops bj q (pre++post) (aF.setIfInBounds x.1 true):=by
 obtain⟨xk,xo,xv⟩:=x
 obtain⟨r1,r2,r3⟩:=jj hr
 have hxq:xk<q:=(hg.un xk xo xv (by simp)).1
 have hxs:xk<aF.size:=by rw[hg.size];exact r1
 have iH:∀y,y∈pre++post->y∈pre++(xk,xo,xv)::post:=fun y hy=>by
  rcases List.mem_append.1 hy with h|h
  ·exact List.mem_append_left _ h
  ·exact List.mem_append_right _ (List.mem_cons_of_mem _ h)
 have rn:=List.pairwise_append.1 hg.sorted
 have Pm:∀y∈pre,y.1<xk:=fun y hy=>rn.2.2 y hy (xk,xo,xv) List.mem_cons_self
 have Pl:∀y∈post,xk<y.1:=fun y hy=>(List.pairwise_cons.1 rn.2.1).1 y hy
 have hne:∀y∈pre++post,y.1≠xk:=fun y hy=>by
  rcases List.mem_append.1 hy with h|h
  ·have:=Pm y h;omega
  ·have:=Pl y h;omega
 refine⟨by simp[hg.size],fun k o v hk=>?_,fun k hk hno=>?_,fun j h1 h2=>?_,fun m hm hl i hi=>?_,?_⟩
 ·obtain⟨u1,u2,u3⟩:=hg.un k o v (iH _ hk)
  exact⟨u1,by rw[getD_set_ne true (Ne.symm (hne _ hk))];exact u2,u3⟩
 ·by_cases hkx:xk=k
  ·subst hkx;simp[hxs]
  ·rw[getD_set_ne false hkx]
   refine hg.li k hk fun o v hm=>?_
   rcases List.mem_append.1 hm with h|h
   ·exact hno o v (List.mem_append_left _ h)
   ·rcases List.mem_cons.1 h with h|h
    ·injection h with h;exact hkx h.symm
    ·exact hno o v (List.mem_append_right _ h)
 ·rw[getD_set_ne true (by omega)];exact hg.tl j h1 h2
 ·by_cases hmx:xk=m
  ·subst hmx;exact getD_set_true (r3 i hi)
  ·rw[getD_set_ne false hmx]at hl
   exact getD_set_true (hg.cl m hm hl i hi)
 ·rw[List.pairwise_append]
  exact⟨rn.1,(List.pairwise_cons.1 rn.2.1).2,fun y hy z hz=>rn.2.2 y hy z (List.mem_cons_of_mem _ hz)⟩
theorem QB{Q:Exit->Act->World->Prop}(G₀:Gh)(w₀:World)(f:Nat)(hc:bS P n ops ops.toList bj=true)(hq:q<=ops.size)(h1:LC ops q=true)(h2:ED ops q=true)(h3:TK ops q bj=true)(h4:q<ops.size->Region.ready .any ops (oo ops.size q)=[q]):
 ∀(m:Nat)(jm:qU),jm.length=m->∀(aF:Array Bool)(E:St),Good ops bj q jm aF->vB P E jm->
  (∀G a w,Inv G n D (fin E jm) a w->az G₀ w₀ G w->wpAny P .any ops Q f (oo ops.size q) a w)->∀(G:Gh)(a:Act)(w:World),Inv G n D E a w->az G₀ w₀ G w->wpAny P .any ops Q (m+f) aF a w:=by
 intro m
 induction m with
 |zero=>
  intro jm hp aF E hg _ hT G a w h hpr
  have:jm=[]:=List.eq_nil_of_length_eq_zero hp
  subst this
  rw[MC hg,Nat.zero_add]
  exact hT G a w h hpr
 |succ m ih=>
  intro jm hp aF E hg hch hT G a w h hpr
  obtain⟨hlen,jU⟩:=fo _ _ hc
  rw[show m+1+f=(m+f)+1 by omega]
  refine⟨fun h0=>?_,fun i hi=>?_⟩
  ·
   cases jm with
   |nil=>simp at hp
   |cons x jm=>
    obtain⟨k,o,v⟩:=x
    obtain⟨u1,u2,u3⟩:=hg.un k o v List.mem_cons_self
    have lZ:k∈Region.ready .any ops aF:=by
     have hk:k<ops.size:=by omega
     refine mem_ready.2 ⟨u2,ops[k],Array.getElem?_eq_getElem hk,fun e he hb=>?_⟩
     have hs:=List.all_eq_true.1 h1 k (List.mem_range.2 u1)
     rw[Array.getElem?_eq_getElem hk]at hs
     have:=Array.all_eq_true_iff_forall_mem.1 hs e he
     rw[hb]at this
     have hlt:e.on<k:=by simpa using this
     refine hg.li e.on (by omega) fun o' v' hm=>?_
     rcases List.mem_cons.1 hm with hm|hm
     ·injection hm with hm;omega
     ·have:=(List.pairwise_cons.1 hg.sorted).1 _ hm
      simp at this
      omega
    rw[h0]at lZ
    cases lZ
  ·obtain⟨r1,r2,r3⟩:=jj hi
   have hne:∃k o v,(k,o,v)∈jm:=by
    cases jm with
    |nil=>simp at hp
    |cons x jm=>exact⟨x.1,x.2.1,x.2.2,List.mem_cons_self⟩
   have hiq:i<q:=by
    refine Classical.byContradiction fun hge=>?_
    have hqs:q<ops.size:=by omega
    by_cases hiq':i=q
    ·subst hiq'
     have cE:∀(d k:Nat),k<i->i -k=d->aF.getD k false=true:=by
      intro d
      induction d using Nat.strongRecOn with
      |_ d ihd=>
       intro k hk hd
       have hs:((List.range i).all fun k=>(List.range (i+1)).any fun m=>decide (k<m)&&gl ops m k)=true:=by
        unfold ED at h2
        rw[Bool.or_eq_true]at h2
        rcases h2 with h2|h2
        ·have:=beq_iff_eq.1 h2;omega
        ·exact h2
       obtain⟨m',hm1,hm2⟩:=List.any_eq_true.1 (List.all_eq_true.1 hs k (List.mem_range.2 hk))
       rw[Bool.and_eq_true,decide_eq_true_eq]at hm2
       have adF:=List.mem_range.1 hm1
       by_cases hmi:m'=i
       ·subst hmi;exact r3 k hm2.2
       ·exact hg.cl m' (by omega) (ihd (i -m') (by omega) m' (by omega) rfl) k hm2.2
     obtain⟨k,o,v,hk⟩:=hne
     obtain⟨u1,u2,u3⟩:=hg.un k o v hk
     have:=jT (cE _ k u1 rfl)
     rw[u2]at this
     cases this
    ·have hnr:i∉Region.ready .any ops (oo ops.size q):=by rw[h4 hqs];simpa using hiq'
     apply hnr
     refine mem_ready.2 ⟨?_,ops[i],Array.getElem?_eq_getElem r1,fun e he hb=>?_⟩
     ·simp[oo,r1];omega
     ·have hl:=r3 e.on ((kT (Array.getElem?_eq_getElem r1)).2 ⟨e,he,hb,rfl⟩)
      have hlt:e.on<q:=by
       refine Classical.byContradiction fun hnl=>?_
       by_cases hs:e.on<ops.size
       ·have:=hg.tl e.on (by omega) hs
        have:=jT hl
        simp_all
       ·have:aF.getD e.on false=false:=by simp[Array.getElem?_eq_none (show aF.size<=e.on by rw[hg.size];omega)]
        rw[this]at hl;cases hl
      simp[oo,show e.on<ops.size by omega,hlt]
   have hin:∃o v,(i,o,v)∈jm:=by
    apply Classical.byContradiction
    intro hno
    have:=hg.li i hiq fun o v hm=>hno ⟨o,v,hm⟩
    have:=jT this
    rw[r2]at this
    cases this
   obtain⟨o',v,hin⟩:=hin
   obtain⟨pre,post,rfl⟩:=List.append_of_mem hin
   have rn:=List.pairwise_append.1 hg.sorted
   have hap:∀y∈pre,ap y.2.1 o'=true:=by
    intro y hy
    obtain⟨k,o,u⟩:=y
    have hlt:k<i:=rn.2.2 _ hy _ List.mem_cons_self
    obtain⟨u1,u2,u3⟩:=hg.un k o u (List.mem_append_left _ hy)
    obtain⟨_,_,u4⟩:=hg.un i o' v (by simp)
    have hs:=List.all_eq_true.1 (List.all_eq_true.1 h3 i (List.mem_range.2 hiq)) k (List.mem_range.2 hlt)
    rw[Bool.or_eq_true]at hs
    rcases hs with hs|hs
    ·have:=jT (r3 k hs)
     rw[u2]at this
     cases this
    ·unfold Y0 at hs
     rw[u3,u4]at hs
     exact hs
   obtain⟨p1,p2,p3,p4,p5⟩:=pull pre post E hap hch
   obtain⟨_,_,u4⟩:=hg.un i o' v (by simp)
   have ho:ops.toList[i]? =some ops[i]:=by simp[r1]
   refine nh (o:=ops[i]) (by simp[r1]) (Y.run h (jU i _ _ ho u4) p3 fun G' a' w' k1 k2=>?_)
   exact ih (pre++post) (by simp at hp⊢;omega) _ (step E o' v) (EN hg hi) p4 (fun G'' a'' w'' z1 z2=>hT G'' a'' w'' (z1.eqv p5) z2) G' a' w' k1 (hpr.trans k2)
theorem U8(hm:P.follows .mixedOrders=true):Tq P n:=by
 intro D draw id ops bj q G E a w K Q hc hd h hw hn
 cases draw with
 |false=>exact wp_region_list (Mq G w hn q ops.toList bj G E a w hc h (az.refl G w) hw)
 |true=>
 have hd:=hd rfl
 simp only[LB,Bool.and_eq_true,decide_eq_true_eq]at hd
 obtain⟨hq,h1,h2,h3,h4⟩:=hd
 obtain⟨hlen,jU⟩:=fo _ _ hc
 have hsz:bj.length=ops.size:=by rw[<-hlen];simp
 obtain⟨vs,e1,e2,e3⟩:=JD q bj E 0 (by omega) hw
 have hmk:(mk 0 bj vs).length=q:=by
  have:∀(l:List ai)(vs:List AV)(k:Nat),vs.length<=l.length->(mk k l vs).length=vs.length:=by
   intro l
   induction l with
   |nil=>intro vs k hl;cases vs with
    |nil=>rfl
    |cons=>simp at hl
   |cons o l ih=>intro vs k hl;cases vs with
    |nil=>rfl
    |cons v vs=>simp[mk,ih vs (k+1) (by simpa using hl)]
  rw[this bj vs 0 (by omega),e1]
 refine wp_region_any hm ?_
 have hrq:q<ops.size->Region.ready .any ops (oo ops.size q)=[q]:=by
  intro hlt
  obtain⟨d,hd⟩:∃d,ops.size -q=d+1:=⟨ops.size -q -1,by omega⟩
  rw[hd]at h4
  simp only[pG,Bool.and_eq_true,beq_iff_eq]at h4
  exact h4.1
 have hT:∀G' a' w',Inv G' n D (fin E (mk 0 bj vs)) a' w'->az G w G' w'->wpAny P .any ops Q (ops.size -q) (oo ops.size q) a' w':=by
  intro G' a' w' z1 z2
  have hl:(bj.drop q).length=ops.size -q:=by rw[List.length_drop];omega
  have:=vx G w hc hn (bj.drop q) q (oo ops.size q) G' _ a' w' rfl (by rw[hl];exact h4) e3 z1 z2
  rwa[hl]at this
 have iR:Good ops bj q (mk 0 bj vs) (Array.replicate ops.size false):=by
  have KC:∀k b,k<ops.size->(Array.replicate ops.size false).getD k b=false:=fun k b hk=>by simp[hk]
  refine⟨by simp,fun k o v hk=>?_,fun k hk hno=>?_,fun j _ hj=>KC j _ hj,fun m hm hl i hi=>?_,yu bj vs 0⟩
  ·obtain⟨j,j1,j2,j3⟩:=GS bj vs 0 k o v hk
   have:k=j:=by omega
   subst this
   exact⟨by omega,KC k _ (by omega),j3⟩
  ·obtain⟨o,v,hh⟩:=KT bj vs 0 k (by omega) (by omega)
   rw[Nat.zero_add]at hh
   exact absurd hh (hno o v)
  ·rw[KC m _ (by omega)]at hl;cases hl
 have:=QB (P:=P) (n:=n) (Q:=Q) G w (ops.size -q) hc hq h1 h2 h3 hrq q (mk 0 bj vs) hmk _ E iR e2 hT G a {w with drawn:=w.drawn+1} h.drew (az.drew G w)
 rwa[show q+(ops.size -q)=ops.size by omega]at this
end
end Go.AB
end
