/- A part. -/
import Derived.Test.YtplacgnfinmfbaaGreatDoorFr5
import Derived.ProofKit
import Derived.Test.YtplacgnfinmfbaaGreatDoorProg
import Derived.KernelRfl
set_option linter.defProp false
set_option linter.unusedSimpArgs false
set_option linter.unusedVariables false
section
namespace Go.AB
open Go
section
variable{P:Program}{G G':Gh}{n:Nat}{D:List Deferred}{σ E':St}{a:Act}{w w':World}{T:List Nat}
def ud(a:AV):Prop:=b8 a=true/\∀t,¬bS a t
def JO{f:Nat}{s:ae}{C C':AV->ae->Prop}(hc:∀a s',ud a->C a s'->C' a s'):∀{o:Option (List AV)},yL P f s C o->yL P f s C' o
 |some _,h=>FN.mono (P:=P) h fun rs s'⟨h1,h2⟩=>⟨h1,hc _ _ ⟨pG h1,uG h1⟩ h2⟩
 |none,h=>h
def HN{s:ae}{C C':AV->ae->Prop}(hc:∀a s',ud a->C a s'->C' a s'){o:Option (List AV)}{x:AV}(h:uj P o s C x):uj P o s C' x:=by
 unfold uj at h⊢
 split at h
 ·unfold HM at h⊢
  split at h
  ·exact⟨h.1,FN.mono (P:=P) h.2 fun rs s'⟨h1,h2⟩=>⟨h1,hc _ _ ⟨pG h1,uG h1⟩ h2⟩⟩
  ·exact h
 ·exact h
theorem FG(b o l c:Nat):ud (.arr b o l c):=⟨rfl,fun _ h=>h⟩
def FH(b o:Nat):ud (.ref b o):=⟨rfl,fun _ h=>h⟩
def ac0(b:Nat):ud (.mp b):=⟨rfl,fun _ h=>h⟩
theorem NH(l:List AV):ud (.jV l):=⟨rfl,fun _ h=>h⟩
def xe{o:sj}{C C':AV->ae->Prop}(hc:∀a s',ud a->C a s'->C' a s')(h:uX P o σ C):uX P o σ C':=by
 cases o<;>first|(exact h.elim)|skip
 case call f args=>exact JO hc h
 case iq x args=>exact HN hc h
 case nv z=>exact fun b hb=>hc _ _ (FH b 0) (h b hb)
 case Ad m x=>exact⟨h.1,h.2.1,fun b hb=>hc _ _ (FH b 0) (h.2.2 b hb)⟩
 case l8 sz by' z l c=>
  have h:sM by' z σ.s C (xg true σ l) (xg true σ c):=h
  show sM by' z σ.s C' (xg true σ l) (xg true σ c)
  unfold sM at h⊢
  grind [FG]
 case store m p v=>
  have h:pk m σ.s C (σ.x v) (σ.x p):=h
  show pk m σ.s C' (σ.x v) (σ.x p)
  unfold pk at h⊢
  split at h
  ·refine⟨h.1,h.2.1,h.2.2.1,?_⟩
   have h4:=h.2.2.2
   unfold La at h4⊢
   grind [NH]
  ·exact h
 case nE x=>
  have h:oj σ.s C (σ.x x):=h
  show oj σ.s C' (σ.x x)
  unfold oj at h⊢
  split at h
  ·unfold uk at h⊢
   split at h
   ·unfold lG at h⊢
    split at h
    ·exact hc _ _ ⟨rfl,fun _ h=>h⟩ h
    ·exact hc _ _ ⟨rfl,fun _ h=>h⟩ h
    ·exact h
   ·exact h
  ·exact h
def BA{o:sj}{C:AV->ae->Prop}(hx:∀x∈ff o,σ.x x=E'.x x)(hs:σ.s=E'.s)(h:uX P o σ C):uX P o E' C:=by
 have hg:∀x∈ff o,xg true σ x=xg true E' x:=fun x h=>by grind [xg]
 cases o<;>first|(exact h.elim)|skip
 case call f args=>
  show yL P f E'.s C (cQ (xg true E') args)
  rw[<-hs,<-iS args hg];exact h
 case iq x args=>
  show uj P (cQ (xg true E') args) E'.s C (xg true E' x)
  rw[<-hs,<-iS args fun y hy=>hg y (List.mem_cons_of_mem _ hy),<-hg x List.mem_cons_self];exact h
 case nv z=>grind [uX]
 case Ad m x=>rw[uX,<-hs,<-hg x List.mem_cons_self];exact h
 case l8 sz by' z l c=>grind [uX,ff]
 case store m p v=>grind [uX,ff]
 case nE x=>rw[uX,<-hs,<-hx x List.mem_cons_self];exact h
def K4{a:AV}(h:I4 a=true)(hv:ee a=true):view a=a:=by
 cases a<;>first|rfl|skip
 ·rename_i o z m cs
  cases o
  ·rfl
  ·cases h
 ·cases hv
 ·cases hv
 ·cases h
theorem qX.put(h:qX σ E')(d:Option Nat)(v:AV):qX (σ.put d v) (E'.put d v):=by
 cases d with
 |none=>exact h
 |some d=>exact⟨fun i=>by show look ((d,v)::σ.e) i=look ((d,v)::E'.e) i;rw[bA,bA,h.e],h.lp,h.s⟩
def qX.Mn(h:qX σ E')(s:ae):qX {σ with s:=s} {E' with s:=s}:=⟨h.e,h.lp,rfl⟩
def MM{x:IX}(h:view (σ.x x)=σ.x x):qX (σ.drain x) σ:=by
 cases x with
 |c a=>exact qX.refl _
 |t i=>
  refine⟨fun j=>?_,fun _=>Iff.rfl,rfl⟩
  show look ((i,view (look σ.e i))::σ.e) j=_
  rw[bA]
  by_cases e:i=j
  ·subst e;simp;exact h
  ·simp[e]
def Rw{o:aH}{K:St->Prop}(hK:∀τ U',qX τ U'->K τ->K U')(h:Rj P o σ K):JH P o σ K:=by
 obtain⟨d,op,g⟩:=o
 cases g with
 |some _=>exact h.elim
 |none=>
 replace h:=h.2
 cases op<;>first|(exact h.elim)|skip
 case call f args=>
  show vu P f σ d K (cQ (xg true σ) args)
  have h:yL P f σ.s (Ri σ d K) (cQ (xg true σ) args):=h
  cases hh:cQ (xg true σ) args<;>rw[hh]at h<;>exact h
 case iq x args=>
  show vY P σ (cQ (xg true σ) args) d K (xg true σ x)
  have h:uj P (cQ (xg true σ) args) σ.s (Ri σ d K) (xg true σ x):=h
  cases hh:cQ (xg true σ) args<;>cases hx:xg true σ x<;>rw[hh,hx]at h<;>exact h
 case nv z=>exact h
 case Ad m x=>exact h
 case l8 sz by' z l c=>
  show xQ by' z σ d K (xg true σ l) (xg true σ c)
  have h:sM by' z σ.s (Ri σ d K) (xg true σ l) (xg true σ c):=h
  cases hl:xg true σ l<;>cases hc:xg true σ c<;>rw[hl,hc]at h<;>exact h
 case store m p v=>
  show Hk m σ p v d K (σ.x v)
  have h:pk m σ.s (Ri σ d K) (σ.x v) (σ.x p):=h
  unfold pk at h
  split at h
  ·rename_i b off hp
   obtain⟨h1,h2,h3,h4⟩:=h
   refine⟨h1,h3,?_⟩
   have hd:=MM (K4 h2 h1)
   rw[hp]
   show QN d K (Rb (σ.drain v) b off (bM (σ.x v)) ((σ.drain v).s b))
   rw[hd.s]
   unfold La at h4
   split at h4
   ·rename_i jt ho
    rw[ho]
    show QN d K (ZW (σ.drain v) b (gQ off (bM (σ.x v)) jt))
    unfold gQ
    rw[decide_eq_true h4.1]
    refine hK _ _ ?_ h4.2
    have e:qX {σ with s:=σ.s.set b (.cells (setAt jt off (bM (σ.x v))))} {σ.drain v with s:=(σ.drain v).s.set b (.cells (setAt jt off (bM (σ.x v))))}:=by rw[hd.s];exact hd.symm.Mn _
    exact e.put d _
   grind
  grind
 case nE x=>
  show rP σ d K (σ.x x)
  have h:oj σ.s (Ri σ d K) (σ.x x):=h
  unfold oj at h
  split at h
  ·rename_i b off hx
   rw[hx]
   unfold rP
   simp only
   unfold uk at h
   split at h
   ·rename_i cs he
    first|exact h|(rw[he];exact h)
   grind
  grind
theorem abY{o:aH}{g:Bool}(h:nr o σ=true)(s:ae):pv o.op (xg g {σ with s:=s}) {σ with s:=s}=pv o.op (xg g σ) σ:=by
 have hf:xg g {σ with s:=s}=xg g σ:=Xd3
 rw[hf]
 obtain⟨d,op,gg⟩:=o
 cases op<;>first|rfl|skip
 case oU tr x=>cases tr<;>rfl
 case slice sz x lo hi mx=>cases mx<;>rfl
 case load m multi x=>
  have h:lh (σ.x x)=true:=h
  have hn:lh (xg g σ x)=true:=by
   unfold xg vK
   split
   ·rename_i b a hb
    rw[hb]at h
    cases hc:((b==g)||b)&&inner a
    ·rfl
    ·exact h
   ·exact h
  show na multi (rd {σ with s:=s} (xg g σ x) m)=na multi (rd σ (xg g σ x) m)
  cases he:xg g σ x<;>first|rfl|(rw[he]at hn;cases hn)
 case kj z m x=>cases h
 case len c x=>
  have h:(!Nat.beq c 2)=true:=h
  show AK s c (xg g σ x)=AK σ.s c (xg g σ x)
  match c,h with
  |0,_=>cases xg g σ x<;>rfl
  |1,_=>cases xg g σ x<;>rfl
  |c+3,_=>cases xg g σ x<;>rfl
 case Rk ne x y=>
  cases y with
  |t i=>rfl
  |c a=>
   cases a<;>first|rfl|skip
   rename_i o z m cs
   cases o<;>cases m<;>cases cs<;>rfl
theorem afD{o:aH}(h:nr o σ=true)(s:ae):qv o {σ with s:=s}=qv o σ:=by
 unfold qv
 split
 ·exact abY h s
 ·rename_i t want _
  show Ji o.op want {σ with s:=s} (look σ.e t)=Ji o.op want σ (look σ.e t)
  unfold Ji
  grind [Uk,abY]
theorem acn{o:aH}(h:nr o σ=true)(s:ae)(f:IX->AV):qe f s o.op=qe f σ.s o.op:=by
 obtain⟨d,op,gg⟩:=o
 cases op<;>first|rfl|(cases h;done)
theorem acm{o:aH}(h:nr o σ=true)(s:ae):D8 o {σ with s:=s}=D8 o σ:=by
 have hf:∀g,xg g {σ with s:=s}=xg g σ:=fun g=>Xd3
 unfold D8
 split
 ·grind [acn]
 ·rename_i t want _
  show L8 o.op want {σ with s:=s} (look σ.e t)=L8 o.op want σ (look σ.e t)
  unfold L8
  grind [NJ,qe,xg,acn]
theorem sa(d:Option Nat)(s:ae):aU {σ with s:=s} d=aU σ d:=G_
def Y2.Mn{o:aH}{v:AV}(hy:Y2 P σ o v)(h:nr o σ=true)(s:ae):Y2 P {σ with s:=s} o v:=by
 cases hy with
 |jt _ _ h0 hf hv hy=>
  refine .jt o v h0 Xa7 hv ?_
  cases hy with
  |pure _ _ hq=>exact .pure o v (by grind [afD])
  |oU d x hi=>exact .oU (σ:={σ with s:=s}) d x hi
  |call=>cases h
  |HR=>cases h
  |iq=>cases h
  |BK=>cases h
  |US _ _ hq=>exact .US o v (by grind [acm])
 |Yt m c x jt h0 h1 h2 h3=>exact .Yt (σ:={σ with s:=s}) m c x jt h0 h1 h2 h3
 |VV d z h0 h1=>exact .VV d z h0 h1
 |app d sz bytes x y _ h0 h1=>exact .app d sz bytes x y v h0 h1
 |Xc d off i x cs o s' m ds h0 h1 h2 h3 h4=>exact .Xc d off i x cs o s' m ds h0 h1 h2 h3 h4
def behind(σ:St)(d:Option Nat)(a:AV)(s:ae):St:={σ with s:=s}.put d a
theorem nb(σ:St)(d:Option Nat)(a:AV)(i:Nat):look (σ.put d a).e i=if d=some i then a else look σ.e i:=by
 cases d with
 |none=>simp[St.put]
 |some d=>
  show look ((d,a)::σ.e) i=_
  grind [bA]
theorem Fm(σ:St)(d:Option Nat)(a:AV):(σ.put d a).s=σ.s/\(σ.put d a).lp=σ.lp:=by cases d<;>exact⟨rfl,rfl⟩
theorem N7(σ:St)(d:Option Nat)(a:AV)(s:ae):(behind σ d a s).s=s:=(Fm _ d a).1
theorem tJ{d:Option Nat}{l:List Nat}(h:ma d l=true){i:Nat}(hi:i∈l):d≠some i:=fun e=>by grind [ma]
def NX{y x:aH}(h:VX y x=true):zW y x=true/\ma (qU y) (da x)=true/\ma x.dst (da y)=true/\∀i,qU y=some i->x.dst≠some i:=by
 unfold VX at h
 grind
def K7{y:aH}{d:Option Nat}{v:AV}(hd:ma d (da y)=true)(hf:aU σ d=true)(hv:b8 v=true):JE y σ (σ.put d v):=by
 have key:∀i,i∈da y->look σ.e i=look (σ.put d v).e i:=fun i hi=>by rw[nb,if_neg (tJ hd hi)]
 refine⟨fun x hx=>?_,fun t want hg=>key t (List.mem_append_left _ (by rw[hg];exact List.mem_cons_self)),(Fm σ d v).1.symm,fun x _ g m=>?_⟩
 ·cases x with
  |c a=>rfl
  |t i=>exact key i (List.mem_append_right _ (jS hx))
 ·cases he:xg g σ x<;>try rfl
  ·rename_i b off
   show vi m off (σ.s b)=vi m off ((σ.put d v).s b)
   grind [Fm]
  ·rename_i c off
   show nH m off (look σ.e c)=nH m off (look (σ.put d v).e c)
   rw[nb]
   by_cases e:d=some c
   ·rw[if_pos e,nk hv]
    rw[e]at hf
    exact nk hf m off
   grind
theorem Ns{y:aH}{d:Option Nat}{v:AV}{s:ae}(hd:ma d (da y)=true):nr y (behind σ d v s)=nr y σ:=by
 obtain⟨dd,op,g⟩:=y
 cases op<;>first|rfl|skip
 rename_i m mu x
 show lh ((behind σ d v s).x x)=lh (σ.x x)
 cases x with
 |c a=>rfl
 |t i=>
  show lh (look (behind σ d v s).e i)=lh (look σ.e i)
  unfold behind
  rw[nb,if_neg (tJ hd (List.mem_append_right _ (jS (List.mem_cons_self))))]
theorem Y2.behind{y:aH}{v av:AV}{d:Option Nat}{s:ae}(hy:Y2 P σ y v)(h:nr y σ=true)(hd:ma d (da y)=true)(hf:aU σ d=true)(hv:ud av)(hne:∀i,qU y=some i->d≠some i):Y2 P (behind σ d av s) y v:=by
 have h1:Y2 P {σ with s:=s} y v:=hy.Mn h s
 unfold AB.behind
 refine h1.Ru (K7 hd Xa7 hv.1) (fun i hi=>?_) (fun i hi hf=>?_)
 ·rw[nb,if_neg (hne i (Bb hi))]
 grind [Fm]
def pQ(s s':ae):Prop:=∀b m off cs,vi m off (s b)=some cs->vi m off (s' b)=some cs
def Y2.Ul{d:Option Nat}{m:Nat}{mu:Bool}{x:IX}{v:AV}{s:ae}(hy:Y2 P σ ⟨d,.load m mu x,none⟩ v)(hs:pQ σ.s s):Y2 P {σ with s:=s} ⟨d,.load m mu x,none⟩ v:=by
 have hx:xg true {σ with s:=s} x=xg true σ x:=by cases x<;>rfl
 have key:qv ⟨d,.load m mu x,none⟩ σ≠.no->qv ⟨d,.load m mu x,none⟩ {σ with s:=s}=qv ⟨d,.load m mu x,none⟩ σ:=by
  show na mu (rd σ (xg true σ x) m)≠.no->na mu (rd {σ with s:=s} (xg true {σ with s:=s} x) m)=na mu (rd σ (xg true σ x) m)
  rw[hx]
  intro hn
  cases he:xg true σ x<;>try rfl
  rename_i b off
  rw[he]at hn
  have hn:na mu (vi m off (σ.s b))≠.no:=hn
  show na mu (vi m off (s b))=na mu (vi m off (σ.s b))
  cases hb:vi m off (σ.s b)with
  |none=>rw[hb]at hn;exact absurd rfl hn
  |some cs=>rw[hs b m off cs hb]
 cases hy with
 |jt _ _ h0 hf hv hy=>
  refine .jt _ v h0 Xa7 hv ?_
  cases hy with
  |pure _ _ hq=>
   refine .pure _ v ?_
   grind
  |US _ _ hq=>rcases hq with h|⟨c,h,_⟩<;>exact nomatch h
def E4{y x:aH}(h:Gx y x=true):(∃d m mu p,y=⟨d,.load m mu p,none⟩)/\((∃d sz by' z l c g,x=⟨d,.l8 sz by' z l c,g⟩)\/∃d p g,x=⟨d,.nE p,g⟩):=by
 unfold Gx at h
 grind
def Y2.Rx{y x:aH}{v av:AV}{d:Option Nat}{s:ae}(hy:Y2 P σ y v)(hl:Gx y x=true)(hs:pQ σ.s s)(hd:ma d (da y)=true)(hf:aU σ d=true)(hv:ud av)(hne:∀i,qU y=some i->d≠some i):Y2 P (AB.behind σ d av s) y v:=by
 have h1:Y2 P {σ with s:=s} y v:=by
  obtain⟨⟨d,m,mu,p,rfl⟩,_⟩:=E4 hl
  exact hy.Ul hs
 unfold AB.behind
 refine h1.Ru (K7 hd Xa7 hv.1) (fun i hi=>?_) (fun i hi hf=>?_)
 ·rw[nb,if_neg (hne i (Bb hi))]
 grind [Fm]
theorem pQ.grow{s:ae}{b:Nat}(h:s b=none)(o:SO):pQ s (s.set b o):=by
 intro b' m off cs hr
 have:b'≠b:=fun e=>by rw[e,h]at hr;cases hr
 grind [ae.set]
theorem pQ.take{s:ae}{b off:Nat}{cs ds:List AV}(h:s b=some (.cells cs))(hv:views ds=views cs):pQ s (s.set b (.cells ds)):=by
 intro b' m o zs hr
 by_cases e:b'=b
 ·subst e
  rw[h]at hr
  have hl:ds.length=cs.length:=by have:=congrArg List.length hv;simpa[views]using this
  have hs:views (sub ds o m)=views (sub cs o m):=by
   have:=congrArg (fun l=>(l.drop o).take m) hv
   simpa[views,sub,List.map_take,List.map_drop]using this
  have hr:jg m o cs=some zs:=hr
  have e2:(s.set b' (.cells ds)) b'=some (.cells ds):=by simp[ae.set]
  rw[e2]
  show jg m o ds=some zs
  grind [jg]
 grind [ae.set]
def MA{y x:aH}{C C':AV->ae->Prop}(hl:Gx y x=true)(hc:∀a s',ud a->pQ σ.s s'->C a s'->C' a s')(h:uX P x.op σ C):uX P x.op σ C':=by
 rcases(E4 hl).2 with⟨d,sz,by',z,l,c,g,rfl⟩|⟨d,p,g,rfl⟩
 ·have h:sM by' z σ.s C (xg true σ l) (xg true σ c):=h
  show sM by' z σ.s C' (xg true σ l) (xg true σ c)
  unfold sM at h⊢
  grind [FG,pQ.grow]
 ·have h:oj σ.s C (σ.x p):=h
  show oj σ.s C' (σ.x p)
  unfold oj at h⊢
  split at h
  ·rename_i b off hp
   unfold uk at h⊢
   split at h
   ·rename_i cs hcs
    have hvw:∀a,cs[off]? =some a->views (setAt cs off [view a])=views cs:=fun a ha=>by
     have hlt:off<cs.length:=(List.getElem?_eq_some_iff.1 ha).1
     have he:cs[off]=a:=(List.getElem?_eq_some_iff.1 ha).2
     have:cs=cs.take off++[a]++cs.drop (off+1):=by rw[<-he];simp
     unfold setAt
     conv=>rhs;rw[this]
     have hvv:∀z:AV,view (view z)=view z:=fun z=>by cases z<;>rfl
     simp[views,hvv]
    unfold lG at h⊢
    split at h
    ·rename_i o sz n ds he
     exact hc _ _ ⟨rfl,fun _ h=>h⟩ (pQ.take (off:=off) hcs (hvw _ he)) h
    ·rename_i t n ds he
     exact hc _ _ ⟨rfl,fun _ h=>h⟩ (pQ.take (off:=off) hcs (hvw _ he)) h
    ·exact h
   ·exact h
  ·exact h
def xa{y:aH}{v av:AV}{d:Option Nat}{s:ae}(hd:ma d (da y)=true)(hne:∀i,qU y=some i->d≠some i):qX (c4 (behind σ d av s) y v) (AB.behind (c4 σ y v) d av s):=by
 refine⟨fun i=>?_,fun x=>?_,?_⟩
 ·rw[ez]
  unfold AB.behind
  rw[nb,nb]
  show _=if d=some i then av else look (c4 σ y v).e i
  rw[ez]
  by_cases h1:qU y=some i
  ·grind
  ·rw[if_neg h1,if_neg h1]
   by_cases h2:d=some i
   ·rw[if_pos h2,if_pos h2]
    grind [EI,tJ,sS]
   grind
 ·grind [qS,AB.behind,Fm,c4]
 grind [pM,N7]
def bE(P:Program)(T:List Nat):List Item->(St->Prop)->St->Prop
 |[],K,σ=>∃τ,qX τ σ/\K τ
 |(k,_,o)::r,K,σ=>if 3<=k then∃τ,qX τ σ/\JH P o τ (fun ρ=>nh T ρ.e=true/\Hy P T r ρ K)else if 2<=k then aU σ o.dst=true/\o.g=none/\uX P o.op σ (fun a s=>bE P T r K (behind σ o.dst a s))
  else∃v,Y2 P σ o v/\GB T o v/\(k=1->nr o σ=true)/\bE P T r K (c4 σ o v)
def BC{K:St->Prop}:∀(l:List Item)(σ:St),Hy P T l σ K->bE P T l K σ
 |[],σ,h=>⟨σ,qX.refl _,h⟩
 |(0,_,o)::r,σ,h=>by
  obtain⟨v,h1,h2,h3⟩:=Qo (show q2 P o σ (fun τ=>nh T τ.e=true/\Hy P T r τ K) from h)
  unfold bE
  rw[if_neg BY,if_neg BY]
  exact⟨v,h1,E8 fun i c hc=>tI h2 i c hc,fun e=>aT,BC r _ h3⟩
 |(1,_,o)::r,σ,h=>by
  obtain⟨h0,h⟩:=h
  obtain⟨v,h1,h2,h3⟩:=Qo (show q2 P o σ (fun τ=>nh T τ.e=true/\Hy P T r τ K) from h)
  unfold bE
  rw[if_neg BY,if_neg BY]
  exact⟨v,h1,E8 fun i c hc=>tI h2 i c hc,fun _=>h0,BC r _ h3⟩
 |(k+3,_,o)::r,σ,h=>by
  have h:JH P o σ (fun τ=>nh T τ.e=true/\Hy P T r τ K):=h
  unfold bE
  rw[if_pos AT]
  grind [qX.refl]
 |(2,_,o)::r,σ,h=>by
  have h:Rj P o σ (fun τ=>nh T τ.e=true/\Hy P T r τ K):=h
  unfold bE
  rw[if_neg BY,if_pos BY]
  unfold Rj at h
  split at h
  ·rename_i hg
   exact⟨h.1,hg,xe (fun a s _ hk=>BC r _ hk.2) h.2⟩
  grind
theorem Nr{o:aH}(h:qX σ E'):nr o σ=nr o E':=by
 obtain⟨d,op,g⟩:=o
 cases op<;>first|rfl|skip
 rename_i m mu x
 show lh (σ.x x)=lh (E'.x x)
 cases x with
 |c a=>rfl
 |t i=>show lh (look σ.e i)=lh (look E'.e i);rw[h.e]
theorem yK{K:St->Prop}:∀(l:List Item){σ E':St},qX σ E'->bE P T l K σ->bE P T l K E'
 |[],_,_,h,⟨τ,h1,h2⟩=>⟨τ,h1.trans h,h2⟩
 |(k,i,o)::r,σ,E',h,hb=>by
  unfold bE at hb⊢
  by_cases hk3:3<=k
  ·rw[if_pos hk3]at hb⊢
   obtain⟨τ,h1,h2⟩:=hb
   exact⟨τ,h1.trans h,h2⟩
  rw[if_neg hk3]at hb⊢
  by_cases hk:2<=k
  ·rw[if_pos hk]at hb⊢
   refine⟨by rw[<-h.free];exact hb.1,hb.2.1,?_⟩
   refine BA (σ:=σ) (fun x _=>by cases x with|c a=>rfl|t i=>exact h.e i) h.s (xe (fun a s _ hh=>?_) hb.2.2)
   exact yK r ((h.Mn s).put o.dst a) hh
  ·rw[if_neg hk]at hb⊢
   obtain⟨v,h1,h2,h3,h4⟩:=hb
   exact⟨v,h1.eqv h,h2,fun e=>by grind [Nr],yK r (h.c4 o v) h4⟩
theorem z6{o y:aH}{v:AV}(hn:ma (qU y) (da o)=true)(hdr:zW y o=true):nr o (c4 σ y v)=nr o σ:=by
 obtain⟨d,op,g⟩:=o
 cases op<;>first|rfl|skip
 rename_i m mu x
 show lh ((c4 σ y v).x x)=lh (σ.x x)
 cases x with
 |c a=>rfl
 |t i=>
  have hi:i∈da ⟨d,.load m mu (.t i),g⟩:=List.mem_append_right _ (jS List.mem_cons_self)
  show lh (look (c4 σ y v).e i)=lh (look σ.e i)
  rw[ez,if_neg (tJ hn hi),EI]
  have:=List.all_eq_true.1 hdr i hi
  grind
def Vl{K:St->Prop}{kx ix:Nat}{x:aH}(hkx:¬2<=kx)(hTx:inT T x):∀(pre:List Item)(post:List Item)(σ:St),yI T σ->(∀y∈pre,¬2<=y.1/\Z3 y.2.2 x=true/\inT T y.2.2)->bE P T (pre++(kx,ix,x)::post) K σ->
 ∃v,Y2 P σ x v/\GB T x v/\(kx=1->nr x σ=true)/\bE P T (pre++post) K (c4 σ x v)
 |[],post,σ,_,_,h=>by
  have h:bE P T ((kx,ix,x)::post) K σ:=h
  unfold bE at h
  grind
 |(k,i,o)::pre,post,σ,hN,hap,h=>by
  have h:bE P T ((k,i,o)::(pre++(kx,ix,x)::post)) K σ:=h
  obtain⟨hk,Wx,hT0⟩:=hap _ List.mem_cons_self
  unfold bE at h
  rw[if_neg AT,if_neg hk]at h
  obtain⟨v,h1,h2,h3,h4⟩:=h
  obtain⟨u,i1,i2,i3,i4⟩:=Vl hkx hTx pre post (c4 σ o v) (Dv hN h2) (fun y hy=>hap y (List.mem_cons_of_mem _ hy)) h4
  obtain⟨a1,a2,a3,a4,a5,a6,a7,c1,c2⟩:=NW Wx
  have hx:Y2 P σ x u:=i1.Ru (Ez h1 a1 a4 c2 hN hT0).symm
   (fun i hi=>(rR fun e=>a3 i i e (Bb hi) rfl).symm)
   (fun i hi hf=>tF (fun z hz _=>(qS o v z).2 (.inl hz)) hf)
  have ho:Y2 P (c4 σ x u) o v:=h1.Ru (Ez hx a2 a5 c1 hN hTx)
   (fun i hi=>rR fun e=>a3 i i (Bb hi) e rfl)
   (fun i hi hf=>tF (fun z hz hzi=>by
     rcases(qS _ _ z).1 hz with hz|⟨j,j1,_,j3⟩
     ·exact hz
     ·rw[hzi]at j3;exact(i2 j j1 i (hT0 i hi) j3).elim) hf)
  have agq:qX (c4 (c4 σ o v) x u) (c4 (c4 σ x u) o v):=KY a3 a6 a7
  refine⟨u,hx,i2,fun e=>by grind [z6],?_⟩
  show bE P T ((k,i,o)::(pre++post)) K (c4 σ x u)
  unfold bE
  rw[if_neg AT,if_neg hk]
  grind [z6,yK]
def Vm{K:St->Prop}{kx ix:Nat}{x:aH}(hkx:2<=kx)(aeR:¬3<=kx):∀(pre:List Item)(post:List Item)(σ:St),(∀y∈pre,(y.1=1\/y.1=0/\Gx y.2.2 x=true)/\VX y.2.2 x=true)->bE P T (pre++(kx,ix,x)::post) K σ->
 aU σ x.dst=true/\x.g=none/\uX P x.op σ (fun a s=>bE P T (pre++post) K (behind σ x.dst a s))
 |[],post,σ,_,h=>by
  have h:bE P T ((kx,ix,x)::post) K σ:=h
  unfold bE at h
  grind
 |(k,i,o)::pre,post,σ,hap,h=>by
  have h:bE P T ((k,i,o)::(pre++(kx,ix,x)::post)) K σ:=h
  obtain⟨Sh,Wx⟩:=hap _ List.mem_cons_self
  have Sh:k=1\/k=0/\Gx o x=true:=Sh
  have aaJ:¬3<=k/\¬2<=k:=by rcases Sh with h|⟨h,_⟩<;>omega
  unfold bE at h
  rw[if_neg aaJ.1,if_neg aaJ.2]at h
  obtain⟨v,h1,h2,h3,h4⟩:=h
  obtain⟨i1,i2,i3⟩:=Vm hkx aeR pre post (c4 σ o v) (fun y hy=>hap y (List.mem_cons_of_mem _ hy)) h4
  obtain⟨a1,a2,a3,a4⟩:=NX Wx
  have hf:aU σ x.dst=true:=by
   cases hd:x.dst with
   |none=>rfl
   |some d=>
    rw[hd]at i1
    have e:b8 (look (c4 σ o v).e d)=b8 (look σ.e d):=rR fun e=>a4 d e hd
    show b8 (look σ.e d)=true
    rw[<-e];exact i1
  have hcg:∀{C:AV->ae->Prop},uX P x.op (c4 σ o v) C->uX P x.op σ C:=fun hh=>BA (σ:=c4 σ o v) (fun y hy=>by
   cases y with
   |c a=>rfl
   |t j=>
    have hj:j∈da x:=List.mem_append_right _ (jS hy)
    show look (c4 σ o v).e j=look σ.e j
    rw[ez,if_neg (tJ a2 hj),EI]
    have:=List.all_eq_true.1 a1 j hj
    grind) (pM o v) hh
  rcases Sh with rfl|⟨rfl,hl⟩
  ·refine⟨hf,i2,hcg (xe (fun av s hv hb=>?_) i3)⟩
   show bE P T ((1,i,o)::(pre++post)) K (behind σ x.dst av s)
   unfold bE
   rw[if_neg AT,if_neg AT]
   refine⟨v,h1.behind (h3 rfl) a3 hf hv a4,h2,fun _=>by rw[Ns a3];exact h3 rfl,?_⟩
   exact yK _ (xa a3 a4).symm hb
  ·refine⟨hf,i2,hcg ?_⟩
   refine MA hl (fun av s hv xD hb=>?_) i3
   show bE P T ((0,i,o)::(pre++post)) K (behind σ x.dst av s)
   unfold bE
   rw[if_neg AT,if_neg AT]
   refine⟨v,h1.Rx hl (by grind [pM]) a3 hf hv a4,h2,fun e=>aT,?_⟩
   exact yK _ (xa a3 a4).symm hb
end
section
variable{P:Program}{n:Nat}{D:List Deferred}{ops:Array Oper}{T:List Nat}
def Bef(ops:Array Oper)(j i:Nat):Prop:=∀L:Nat->Prop,(∀m,L m->∀d,nL ops m d=true->L d)->(∀d,nL ops j d=true->L d)->L i
def ES(acc:List Nat)(i:Nat):∀(l:List Edge)(s:Nat),(l.foldl (fun s e=>bif Region.binds .any e then s |||(1<<<e.on)|||acc.getD e.on 0 else s) s).testBit i=true->
 s.testBit i=true\/∃e∈l,Region.binds .any e=true/\(i=e.on\/(acc.getD e.on 0).testBit i=true)
 |[],s,h=>.inl h
 |e::l,s,h=>by
  rw[List.foldl_cons]at h
  rcases ES acc i l _ h with h|⟨e',h1,h2⟩
  ·cases hb:Region.binds .any e with
   |false=>grind
   |true=>
    rw[hb,cond_true,Nat.testBit_or,Nat.testBit_or,Bool.or_eq_true,Bool.or_eq_true]at h
    rcases h with(h|h)|h
    ·exact .inl h
    ·refine .inr ⟨e,List.mem_cons_self,hb,.inl ?_⟩
     rw[Nat.testBit_shiftLeft,Bool.and_eq_true,decide_eq_true_eq]at h
     grind [Nat.testBit_one_eq_true_iff_self_eq_zero]
    grind
  grind
def Fa:∀(l:List Oper)(acc:List Nat),l=ops.toList.drop acc.length->(∀j i,(acc.getD j 0).testBit i=true->Bef ops j i)->∀j i,((E9 l acc).getD j 0).testBit i=true->Bef ops j i
 |[],acc,_,h=>h
 |o::l,acc,hl,h=>by
  have ho:ops[acc.length]? =some o:=by
   have:(ops.toList.drop acc.length)[0]? =some o:=by rw[<-hl];rfl
   simpa using this
  refine Fa l (acc++[GD acc o]) ?_ fun j i hb=>?_
  ·have:(ops.toList.drop acc.length).tail=l:=by rw[<-hl];rfl
   simp_all
  ·by_cases hj:j<acc.length
   ·grind
   ·by_cases he:j=acc.length
    ·subst he
     have hb:(GD acc o).testBit i=true:=by simpa[List.getD_eq_getElem?_getD]using hb
     unfold GD at hb
     rcases ES acc i _ _ hb with h0|⟨e,e1,e2,e3⟩
     ·simp at h0
     ·intro L hc hd
      have hle:L e.on:=hd _ ((sK ho).2 ⟨e,A_,e2,rfl⟩)
      rcases e3 with rfl|e3
      ·exact hle
      ·exact h e.on i e3 L hc (hc _ hle)
    grind
def Fg{ms:List Nat}:∀{l:List Item},GP ops ms l=true->l.Pairwise fun x y=>ya ops ms x y=true
 |[],_=>.nil
 |x::r,h=>by
  simp only[GP,Bool.and_eq_true]at h
  exact .cons (fun y hy=>List.all_eq_true.1 h.1 y hy) (Fg h.2)
structure NS(ops:Array Oper)(L0 L:List Item)(listed:Array Bool):Prop where
 size:listed.size=ops.size
 sub:L.Sublist L0
 un:∀x∈L,listed.getD x.2.1 true=false
 li:∀k,k<ops.size->(∀x∈L,x.2.1≠k)->listed.getD k false=true
 cl:∀m,listed.getD m false=true->∀i,nL ops m i=true->listed.getD i false=true
theorem xy{l:Array Bool}{i j:Nat}{b:Bool}(h:j≠i):(l.setIfInBounds i true).getD j b=l.getD j b:=by simp[Array.getElem?_setIfInBounds,h.symm]
def DX{l:Array Bool}{i:Nat}{b:Bool}(h:i<l.size):(l.setIfInBounds i true).getD i b=true:=by simp[h]
def vy{l:Array Bool}{i j:Nat}(h:l.getD j false=true):(l.setIfInBounds i true).getD j false=true:=by
 by_cases e:j=i
 ·subst e
  rcases Nat.lt_or_ge j l.size with hj|hj
  ·simp_all
  grind
 ·rw[xy e];exact h
def LM{x:Item}(h:Cr P T n ops x=true)(hk:¬2<=x.1):inT T x.2.2:=fun c hc=>by
 simp only[Cr,Bool.and_eq_true]at h
 have h2:=h.2
 unfold SC at hc
 grind
theorem yI.behind{σ:St}(h:yI T σ){d:Option Nat}{a:AV}{s:ae}(ha:ud a):yI T (behind σ d a s):=fun i c hc=>by
 unfold AB.behind
 rw[nb]
 by_cases e:d=some i
 ·rw[if_pos e];exact ha.2 c
 ·rw[if_neg e];exact h i c hc
def acJ{K:St->Prop}{Q:Exit->Act->World->Prop}(G₀:Gh)(w₀:World){L0:List Item}(hI:∀x∈L0,Cr P T n ops x=true)(hP:L0.Pairwise fun x y=>ya ops (E9 ops.toList []) x y=true)
 (hn:∀G' E' a' w',Inv G' n D E' a' w'->aR G₀ w₀ G' w'->K E'->Q .normal a' w'):
 ∀(m:Nat)(L:List Item),L.length=m->∀(listed:Array Bool)(σ:St),NS ops L0 L listed->yI T σ->bE P T L K σ->∀(G:Gh)(a:Act)(w:World),Inv G n D σ a w->aR G₀ w₀ G w->wpAny P .any ops Q m listed a w:=by
 intro m
 induction m with
 |zero=>
  intro L hL listed σ hg _ hb G a w h hp
  obtain rfl:=List.eq_nil_of_length_eq_zero hL
  refine⟨List.eq_nil_iff_forall_not_mem.2 fun j hj=>?_,?_⟩
  ·obtain⟨r1,r2,r3⟩:=rQ hj
   have:=Gl (hg.li j r1 fun x hx=>u_)
   grind
  ·obtain⟨τ,t1,t2⟩:=hb
   exact hn G τ a w (h.eqv t1.symm) hp t2
 |succ m ih=>
  intro L hL listed σ hg hN hb G a w h hp
  have hPL:=hP.sublist hg.sub
  refine⟨fun h0=>?_,fun i hi=>?_⟩
  ·cases L with
   |nil=>simp at hL
   |cons x r=>
    have hx:=hI x (hg.sub.subset List.mem_cons_self)
    simp only[Cr,Bool.and_eq_true]at hx
    have Si:x.2.1∈Region.ready .any ops listed:=by
     cases ho:ops[x.2.1]? with
     |none=>grind
     |some o=>
      rw[ho]at hx
      have hx1:(ja P n ops o x.2.2&&o.after.all fun e=>!Region.binds .any e||(decide (e.on<ops.size)&&e.on !=x.2.1))=true:=hx.1
      rw[Bool.and_eq_true]at hx1
      refine mem_ready.2 ⟨hg.un x List.mem_cons_self,o,ho,fun e he hbn=>?_⟩
      have h3:=Array.all_eq_true_iff_forall_mem.1 hx1.2 e he
      rw[hbn]at h3
      simp only[Bool.not_true,Bool.false_or,Bool.and_eq_true,decide_eq_true_eq,bne_iff_ne]at h3
      refine hg.li e.on h3.1 fun y hy=>?_
      rcases List.mem_cons.1 hy with rfl|hy
      ·grind
      ·intro e'
       have:=(List.pairwise_cons.1 hPL).1 y hy
       simp only[ya,Bool.and_eq_true,Bool.not_eq_true']at this
       grind [nL,sK]
    grind
  ·obtain⟨r1,r2,r3⟩:=rQ hi
   have hex:∃x∈L,x.2.1=i:=by
    apply Classical.byContradiction
    intro hno
    have:=Gl (hg.li i r1 fun x hx e=>hno ⟨x,hx,e⟩)
    rw[r2]at this;cases this
   obtain⟨⟨kx,ix,x⟩,hx,e0⟩:=hex
   have e0:ix=i:=e0
   subst e0
   obtain⟨pre,post,rfl⟩:=List.append_of_mem hx
   have hxi:=hI _ (hg.sub.subset hx)
   have hPw:=List.pairwise_append.1 hPL
   have hpx:∀y∈pre,ya ops (E9 ops.toList []) y (kx,ix,x)=true:=fun y hy=>hPw.2.2 y hy _ List.mem_cons_self
   have hxp:∀y∈post,ya ops (E9 ops.toList []) (kx,ix,x) y=true:=(List.pairwise_cons.1 hPw.2.1).1
   have O9:∀y∈pre,U9 y.1 kx y.2.2 x=true:=fun y hy=>by
    have h1:=hpx y hy
    simp only[ya,Bool.and_eq_true,Bool.or_eq_true]at h1
    rcases h1.2.2 with h2|h2
    ·have hbf:=Fa (ops:=ops) ops.toList [] B_ (fun j i hh=>by simp at hh) _ _ h2
     have:=Gl (hbf (fun m=>listed.getD m false=true) hg.cl r3)
     rw[hg.un y (List.mem_append_left _ hy)]at this;cases this
    ·exact h2
   have hne:∀y∈pre++post,y.2.1≠ix:=fun y hy=>by
    rcases List.mem_append.1 hy with hy|hy
    ·have:=hpx y hy
     simp only[ya,Bool.and_eq_true,bne_iff_ne]at this
     grind
    ·have:=hxp y hy
     simp only[ya,Bool.and_eq_true,bne_iff_ne]at this
     grind
   have hg':NS ops L0 (pre++post) (listed.setIfInBounds ix true):=by
    refine⟨by simp[hg.size],((List.sublist_cons_self _ post).append_left pre).trans hg.sub,fun y hy=>?_,fun k hk hno=>?_,fun m' hm' d hd=>?_⟩
    ·rw[xy (hne y hy)]
     refine hg.un y ?_
     grind
    ·by_cases e:k=ix
     ·subst e;exact DX A_
     ·refine vy (hg.li k hk fun y hy=>?_)
      grind
    ·refine vy ?_
     by_cases e:m'=ix
     ·grind
     ·rw[xy e]at hm';exact hg.cl m' hm' d hd
   have hlen:(pre++post).length=m:=by simp at hL⊢;omega
   have hxo:ja P n ops ops[ix] x=true:=by
    simp only[Cr,Bool.and_eq_true]at hxi
    have h1:=hxi.1
    rw[Array.getElem?_eq_getElem r1]at h1
    have h1:(ja P n ops ops[ix] x&&_)=true:=h1
    rw[Bool.and_eq_true]at h1
    exact h1.1
   by_cases hk3:3<=kx
   ·obtain rfl:pre=[]:=by
     cases pre with
     |nil=>rfl
     |cons y pre=>
      have h1:=O9 y List.mem_cons_self
      obtain⟨ky,iy,yo⟩:=y
      obtain⟨k,rfl⟩:∃k,kx=k+3:=⟨kx -3,AT⟩
      match ky with
      |0=>cases h1
      |1=>cases h1
      |_+2=>cases h1
    have hb:bE P T ((kx,ix,x)::post) K σ:=hb
    unfold bE at hb
    rw[if_pos hk3]at hb
    obtain⟨τ,t1,t2⟩:=hb
    refine yD (o:=ops[ix]) Δ (jr (h.eqv t1.symm) hxo t2 fun G' E' a' w' k1 k2 k3=>?_)
    exact ih ([]++post) hlen _ E' hg' (fun i c hc=>tI k3.1 i c hc) (BC _ _ k3.2) G' a' w' k1 (hp.trans k2)
   by_cases hk:2<=kx
   ·have hap:∀y∈pre,(y.1=1\/y.1=0/\Gx y.2.2 x=true)/\VX y.2.2 x=true:=fun y hy=>by
     have h1:=O9 y hy
     obtain⟨ky,iy,yo⟩:=y
     obtain rfl:kx=2:=AT
     match ky with
     |0=>
      have h1:(Gx yo x&&VX yo x)=true:=h1
      grind
     |1=>exact⟨.inl rfl,h1⟩
     |_+2=>cases h1
    obtain⟨p1,p2,p3⟩:=Vm hk hk3 pre post σ hap hb
    have hbb:Rj P x σ (fun τ=>yI T τ/\bE P T (pre++post) K τ):=by
     unfold Rj
     rw[p2]
     exact⟨p1,xe (fun av s hv hh=>⟨hN.behind hv,hh⟩) p3⟩
    have hK':∀τ U',qX τ U'->(yI T τ/\bE P T (pre++post) K τ)->yI T U'/\bE P T (pre++post) K U':=fun τ U' e hh=>⟨fun i c hc=>by rw[<-e.e i];exact hh.1 i c hc,yK _ e hh.2⟩
    refine yD (o:=ops[ix]) Δ (jr h hxo (Rw hK' hbb) fun G' E' a' w' k1 k2 k3=>?_)
    exact ih (pre++post) hlen _ E' hg' k3.1 k3.2 G' a' w' k1 (hp.trans k2)
   ·have hap:∀y∈pre,¬2<=y.1/\Z3 y.2.2 x=true/\inT T y.2.2:=fun y hy=>by
     have h1:=O9 y hy
     have hyT:=fun hh=>LM (hI y (hg.sub.subset (List.mem_append_left _ hy))) hh
     obtain⟨ky,iy,yo⟩:=y
     match ky,kx,hk with
     |0,0,_=>exact⟨fun hh=>absurd hh B_,h1,hyT B_⟩
     |0,1,_=>exact⟨fun hh=>absurd hh B_,h1,hyT B_⟩
     |1,0,_=>exact⟨fun hh=>absurd hh B_,h1,hyT B_⟩
     |1,1,_=>exact⟨fun hh=>absurd hh B_,h1,hyT B_⟩
     |k+2,0,_=>cases h1
     |k+2,1,_=>cases h1
     |_,k+2,hk=>grind
    obtain⟨v,p1,p2,p3,p4⟩:=Vl hk (LM hxi hk) pre post σ hN hap hb
    refine yD (o:=ops[ix]) Δ (Y2.run h hxo p1 fun G' a' w' k1 k2=>?_)
    exact ih (pre++post) hlen _ (c4 σ x v) hg' (Dv hN p2) p4 G' a' w' k1 (hp.trans k2)
def Wf(hm:P.follows .mixedOrders=true):Uo P n:=by
 intro D id ops T l G σ a w K Q hc h hno hw hn
 simp only[V8,Bool.and_eq_true,beq_iff_eq]at hc
 obtain⟨⟨h1,h2⟩,h3,h4⟩:=hc
 refine wp_region_any hm ?_
 have hg:NS ops l l (Array.replicate ops.size false):=by
  refine⟨B_,List.Sublist.refl l,fun x hx=>?_,fun k hk hno=>?_,fun m hm i hi=>?_⟩
  ·have hlt:x.2.1<ops.size:=by
    have:=List.all_eq_true.1 h3 x hx
    simp only[Cr,Bool.and_eq_true]at this
    cases ho:ops[x.2.1]? with
    |none=>grind
    |some o=>grind
   simp[hlt]
  ·obtain⟨x,hx,e⟩:=List.any_eq_true.1 (List.all_eq_true.1 h2 k (List.mem_range.2 hk))
   grind
  ·rcases Nat.lt_or_ge m ops.size with hlt|hge
   ·simp_all
   grind
 have:=acJ (T:=T) (P:=P) (n:=n) (K:=K) (Q:=Q) G w (fun x hx=>List.all_eq_true.1 h3 x hx) (Fg h4) hn l.length l rfl _ σ hg (fun i c hc=>tI hno i c hc) (BC l σ hw) G a {w with drawn:=w.drawn+1} h.drew (aR.drew G w)
 grind
theorem yE:∀(p s:List Bool),wR p s=p.reverse++s
 |[],s=>rfl
 |x::p,s=>by unfold wR;rw[yE p];simp
def JD{done:List Bool}{F:aH->List Bool->Prop}:∀{rows:List (List Bool)}{pre xs:List Bool}{r:List aH}{j:Nat}{row:List Bool}{o:aH},K5 done rows pre xs r F->rows[j]? =some row->r[j]? =some o->xs[j]? =some false->vo row done=true->F o (wR pre (xs.set j true))
 |row::rows,pre,x::xs,o::r,0,row',o',h,h1,h2,h3,h4=>by
  injection h1 with h1;injection h2 with h2;injection h3 with h3
  subst h1;subst h2;subst h3
  have:=h.1
  grind
 |row::rows,pre,x::xs,o::r,j+1,row',o',h,h1,h2,h3,h4=>by
  have:=JD (j:=j) h.2 K_ Y_ (by simpa using h3) h4
  rw[yE]at this⊢
  simpa using this
 |[],_,_,_,_,_,_,_,h1,_,_,_=>by simp at h1
 |_::_,_,[],_,_,_,_,_,_,_,h3,_=>by simp at h3
 |_::_,_,_::_,[],_,_,_,_,_,h2,_,_=>by simp at h2
def Mp:∀{row done:List Bool},(∀i,row.getD i false=true->done.getD i false=true)->vo row done=true
 |[],_,_=>rfl
 |_::_,[],_=>rfl
 |d::row,x::done,h=>by
  have h0:=h 0
  have ht:=Mp (row:=row) (done:=done) fun i hi=>by have:=h (i+1);grind
  unfold vo
  grind
structure ZY(ops:Array Oper)(done:List Bool)(listed:Array Bool):Prop where
 size:listed.size=ops.size
 len:done.length=ops.size
 eq:∀j,done.getD j false=listed.getD j false
theorem count_set:∀{l:List Bool}{j:Nat},l[j]? =some false->(l.set j true).count false+1=l.count false
 |x::l,0,h=>by grind
 |x::l,j+1,h=>by grind
 |[],_,h=>by simp at h
def VA{K:St->Prop}{Q:Exit->Act->World->Prop}{iP:List (List Bool)}{jz:List aH}(G₀:Gh)(w₀:World)(hI:eD P n ops ops.toList jz=true)(hX:Lf ops iP=true)
 (hn:∀G' E' a' w',Inv G' n D E' a' w'->aR G₀ w₀ G' w'->K E'->Q .normal a' w'):
 ∀(f:List aH)(done:List Bool)(listed:Array Bool)(σ:St),ZY ops done listed->done.count false=f.length->NL P iP jz K f done σ->∀(G:Gh)(a:Act)(w:World),Inv G n D σ a w->aR G₀ w₀ G w->wpAny P .any ops Q f.length listed a w
 |[],done,listed,σ,hg,hc,hw,G,a,w,h,hp=>by
  refine⟨List.eq_nil_iff_forall_not_mem.2 fun j hj=>?_,hn G σ a w h hp hw⟩
  obtain⟨r1,r2,r3⟩:=rQ hj
  have h2:listed.getD j false=false:=by
   have hlt:j<listed.size:=by rw[hg.size];exact r1
   simp only[Array.getD_eq_getD_getElem?,Array.getElem?_eq_getElem hlt,Option.getD_some]at r2⊢
   exact r2
  rw[<-hg.eq j]at h2
  have hlt:j<done.length:=by rw[hg.len];exact r1
  grind
 |o0::f,done,listed,σ,hg,hc,hw,G,a,w,h,hp=>by
  have hX':=hX
  simp only[Lf,Bool.and_eq_true,beq_iff_eq]at hX'
  obtain⟨hl,dY⟩:=hX'
  refine⟨fun h0=>?_,fun i hi=>?_⟩
  ·exfalso
   have hex:∃j,j<ops.size/\listed.getD j false=false:=by
    apply Classical.byContradiction
    intro hno
    have:done.count false=0:=List.count_eq_zero.2 fun hm=>by
     obtain⟨j,hj,e⟩:=List.getElem_of_mem hm
     refine hno ⟨j,by rw[<-hg.len];exact hj,?_⟩
     rw[<-hg.eq,List.getD_eq_getElem?_getD,List.getElem?_eq_getElem hj,Option.getD_some,e]
    rw[this]at hc;simp at hc
   obtain⟨j,hj⟩:=hex
   induction j using Nat.strongRecOn with
   |_ j ih=>
    by_cases hk:∃k,k<j/\k<ops.size/\listed.getD k false=false
    ·grind
    ·have hj2:=List.all_eq_true.1 dY j (List.mem_range.2 hj.1)
     simp only[Bool.and_eq_true]at hj2
     have h3:=hj2.2
     rw[Array.getElem?_eq_getElem hj.1]at h3
     have Si:j∈Region.ready .any ops listed:=by
      refine mem_ready.2 ⟨?_,ops[j],Array.getElem?_eq_getElem hj.1,fun e he hb=>?_⟩
      ·have hlt:j<listed.size:=by rw[hg.size];exact hj.1
       grind
      ·have h4:=Array.all_eq_true_iff_forall_mem.1 h3 e he
       grind
     grind
  ·obtain⟨r1,r2,r3⟩:=rQ hi
   have hlt:i<listed.size:=by rw[hg.size];exact r1
   have AH:i<done.length:=by rw[hg.len];exact r1
   have r2':listed.getD i false=false:=by
    simp only[Array.getD_eq_getD_getElem?,Array.getElem?_eq_getElem hlt,Option.getD_some]at r2⊢
    exact r2
   have hd:done[i]? =some false:=by
    rw[<-hg.eq i,List.getD_eq_getElem?_getD,List.getElem?_eq_getElem AH,Option.getD_some]at r2'
    rw[List.getElem?_eq_getElem AH,r2']
   obtain⟨hlen,DY⟩:=rp _ _ hI
   have hli:i<jz.length:=by rw[<-hlen];simpa using r1
   have hio:jz[i]? =some jz[i]:=List.getElem?_eq_getElem hli
   have hco:ja P n ops ops[i] jz[i]=true:=DY i ops[i] jz[i] Δ hio
   have hj2:=List.all_eq_true.1 dY i (List.mem_range.2 r1)
   simp only[Bool.and_eq_true,beq_iff_eq]at hj2
   have ft:iP[i]? =some (iP.getD i []):=by
    have:i<iP.length:=by rw[hl];exact r1
    rw[List.getD_eq_getElem?_getD,List.getElem?_eq_getElem this,Option.getD_some]
   have hrd:vo (iP.getD i []) done=true:=Mp fun k hk=>by
    have hkl:k<ops.size:=by
     rw[<-hj2.1.1]
     apply Classical.byContradiction
     intro hno
     rw[List.getD_eq_getElem?_getD,List.getElem?_eq_none AT]at hk
     cases hk
    have:=List.all_eq_true.1 hj2.1.2 k (List.mem_range.2 hkl)
    rw[hk]at this
    rw[hg.eq]
    grind
   have hx:=JD (F:=fun o d=>JH P o σ (fun τ=>NL P iP jz K f d τ)) hw ft hio hd hrd
   refine yD (o:=ops[i]) Δ (jr h hco hx fun G' E' a' w' k1 k2 k3=>?_)
   refine VA G₀ w₀ hI hX hn f _ _ E' ⟨by simp[hg.size],by rw[yE];simp[hg.len],fun k=>?_⟩ ?_ k3 G' a' w' k1 (hp.trans k2)
   ·rw[yE]
    show(([]:List Bool).reverse++done.set i true).getD k false=_
    rw[List.reverse_nil,List.nil_append]
    by_cases e:k=i
    ·simp_all
    ·rw[xy e,<-hg.eq,List.getD_eq_getElem?_getD,List.getD_eq_getElem?_getD,List.getElem?_set_ne (Ne.symm e)]
   grind [yE,List.reverse_nil,count_set]
def Wh(hm:P.follows .mixedOrders=true):Uq P n:=by
 intro D id ops iP jz G σ a w K Q hc hx h hw hn
 refine wp_region_any hm ?_
 have hlen:jz.length=ops.size:=by have:=(rp _ _ hc).1;simpa using this.symm
 have hf:∀l:List aH,wQ l=List.replicate l.length false:=by
  intro l
  induction l with
  |nil=>rfl
  |cons o r ih=>grind [wQ]
 have:=VA (P:=P) (n:=n) (K:=K) (Q:=Q) G w hc hx hn jz (wQ jz) (Array.replicate ops.size false) σ ⟨B_,A_,fun j=>by
  rw[hf,hlen]
  rcases Nat.lt_or_ge j ops.size with hj|hj
  ·simp[hj]
  grind⟩ (by rw[hf];simp) hw G a {w with drawn:=w.drawn+1} h.drew (aR.drew G w)
 grind
def kO(hm:P.follows .mixedOrders=true):vP P n:=⟨Wg,Wf hm,Wh hm⟩
end
end Go.AB
end
section
namespace Go.AB
open Go Go.RowKit
def SY:ae:=fun _=>none
section
variable{P:Program}{w w':World}
end
end Go.AB
end
section
namespace Go.AB
open Go
theorem nY(a b:List AV):views (a++b)=views a++views b:=r_
theorem vN:∀l:List (List AV),(∀x∈l,views x=x)->views l.flatten=l.flatten
 |[],_=>rfl
 |a::l,h=>by rw[List.flatten_cons,nY,h a List.mem_cons_self,vN l fun x hx=>h x (List.mem_cons_of_mem _ hx)]
class bz(α:Type)where
 w:Nat
 cells:α->List AV
 zero:α
 pos:0<w
 len:∀x,(cells x).length=w
 vw:∀x,views (cells x)=cells x
structure aC where
 b:List UInt8
 deriving DecidableEq,Inhabited
section
variable{α:Type}[bz α]
def flat(l:List α):List AV:=(l.map bz.cells).flatten
def ix(l:List α)(i:Int):α:=l.getD i.toNat bz.zero
theorem a8:∀l:List α,(flat l).length=l.length*bz.w α
 |[]=>by simp[flat]
 |a::l=>by
  have:=a8 l
  simp only[flat,List.map_cons,List.flatten_cons,List.length_append,bz.len]at this⊢
  rw[this,List.length_cons,Nat.add_mul,Nat.one_mul,Nat.add_comm]
@[go_sem]theorem s6:flat ([]:List α)=[]:=rfl
@[go_sem]theorem lf(a:α)(l:List α):flat (a::l)=bz.cells a++flat l:=rfl
@[go_sem]theorem fq(a b:List α):flat (a++b)=flat a++flat b:=by simp[flat]
@[go_sem]theorem bt(l:List α):views (flat l)=flat l:=vN _ fun x hx=>by
  obtain⟨y,_,rfl⟩:=List.mem_map.1 hx
  exact bz.vw y
theorem yS(l:List α):∀k,(flat l).drop (k*bz.w α)=flat (l.drop k):=by
 induction l with
 |nil=>intro k;simp[flat]
 |cons a l ih=>intro k;cases k with
  |zero=>simp
  |succ k=>
   rw[lf,List.drop_succ_cons,<-ih k,Nat.succ_mul,Nat.add_comm,<-List.drop_drop]
   congr 1
   rw[<-bz.len a,List.drop_left]
theorem yT(l:List α):∀k,(flat l).take (k*bz.w α)=flat (l.take k):=by
 induction l with
 |nil=>intro k;simp[flat]
 |cons a l ih=>intro k;cases k with
  |zero=>simp[s6]
  |succ k=>
   rw[lf,List.take_succ_cons,lf,<-ih k,Nat.succ_mul,Nat.add_comm,List.take_append]
   rw[bz.len a,List.take_of_length_le (by rw[bz.len];omega)]
   congr 2
   omega
theorem qn(l:List α)(n lo m:Nat)(hn:n=bz.w α):AB.sub (flat l) (lo*n) (m*n)=flat ((l.drop lo).take m):=by
 subst hn
 unfold AB.sub
 rw[yS,yT]
def qm(z:List AV)(n:Nat)(l:List α)(i:Int)(hz:z=bz.cells (bz.zero:α))(hn:n=bz.w α):pad z (views (AB.sub (flat l) (i.toNat*n) n))=bz.cells (ix l i):=by
 subst hn
 have h1:AB.sub (flat l) (i.toNat*bz.w α) (bz.w α)=flat ((l.drop i.toNat).take 1):=by
  have:=qn l (bz.w α) i.toNat 1 rfl
  rwa[Nat.one_mul]at this
 rw[h1,bt]
 unfold pad ix
 rcases Nat.lt_or_ge i.toNat l.length with hlt|hge
 ·rw[List.drop_eq_getElem_cons hlt,List.take_succ_cons,List.take_zero,lf,s6,List.append_nil,hz,bz.len,bz.len,beq_self_eq_true]
  simp[List.getD,List.getElem?_eq_getElem hlt]
 ·rw[List.drop_eq_nil_of_le hge,List.take_nil,s6,hz,bz.len]
  have:(([]:List AV).length==bz.w α)=false:=by
   have:=bz.pos (α:=α)
   simp;omega
  rw[this]
  simp[List.getD,List.getElem?_eq_none hge]
def part(l:List α)(lo hi:Int):List α:=(l.drop lo.toNat).take (hi -lo).toNat
theorem ER(n:Nat)(l:List α)(lo hi:Int)(hn:n=bz.w α):AB.sub (flat l) (lo.toNat*n) ((hi -lo).toNat*n)=flat (part l lo hi):=qn l n _ _ hn
theorem OP(n:Nat)(l:List α)(hn:n=bz.w α):(flat l).length/n=l.length:=by
 subst hn
 rw[a8];exact Nat.mul_div_cancel _ bz.pos
end
instance:bz Bool:=⟨1,fun b=>[.bool b],false,Nat.one_pos,fun _=>rfl,fun _=>rfl⟩
instance:bz Int:=⟨1,fun n=>[.int .i64 n],0,Nat.one_pos,fun _=>rfl,fun _=>rfl⟩
instance:bz UInt8:=⟨1,fun n=>[.int .u8 n.toNat],0,Nat.one_pos,fun _=>rfl,fun _=>rfl⟩
instance:bz UInt32:=⟨1,fun n=>[.int .u32 n.toNat],0,Nat.one_pos,fun _=>rfl,fun _=>rfl⟩
instance:bz UInt64:=⟨1,fun n=>[.int .u64 n.toNat],0,Nat.one_pos,fun _=>rfl,fun _=>rfl⟩
instance:bz aC:=⟨1,fun s=>[.str s.b],⟨[]⟩,Nat.one_pos,fun _=>rfl,fun _=>rfl⟩
instance{α:Type}[bz α]:bz (List α):=⟨1,fun l=>[.sl false (bz.w α) l.length (flat l)],[],Nat.one_pos,fun _=>rfl,fun _=>rfl⟩
@[go_sem]theorem V6(x:Bool):bz.cells x=[.bool x]:=rfl
@[go_sem]theorem YP(x:Int):bz.cells x=[.int .i64 x]:=rfl
@[go_sem]theorem aak(x:UInt8):bz.cells x=[.int .u8 x.toNat]:=rfl
@[go_sem]theorem V7{α:Type}[bz α](x:List α):bz.cells x=[.sl false (bz.w α) x.length (flat x)]:=rfl
@[go_sem]theorem afY:bz.w Bool=1:=rfl
@[go_sem]theorem agP:bz.w Int=1:=rfl
@[go_sem]theorem ahv:bz.w UInt8=1:=rfl
@[go_sem]theorem abT(l:List Bool)(i:Int):pad [.bool false] (views (AB.sub (flat l) (i.toNat*1) 1))=[.bool (ix l i)]:=qm _ 1 l i rfl rfl
@[go_sem]theorem Tp(l:List Int)(i:Int):pad [.int .i64 0] (views (AB.sub (flat l) (i.toNat*1) 1))=[.int .i64 (ix l i)]:=qm _ 1 l i rfl rfl
@[go_sem]theorem Qc(l:List UInt8)(i:Int):pad [.int .u8 0] (views (AB.sub (flat l) (i.toNat*1) 1))=[.int .u8 (ix l i).toNat]:=qm _ 1 l i rfl rfl
@[go_sem]theorem adC(l:List UInt32)(i:Int):pad [.int .u32 0] (views (AB.sub (flat l) (i.toNat*1) 1))=[.int .u32 (ix l i).toNat]:=qm _ 1 l i rfl rfl
@[go_sem]theorem abV{α:Type}[bz α](l:List (List α))(i:Int)(n:Nat)(hn:n=bz.w α):pad [.sl false n 0 []] (views (AB.sub (flat l) (i.toNat*1) 1))=[.sl false (bz.w α) (ix l i).length (flat (ix l i))]:=by
  subst hn
  exact qm _ 1 l i rfl rfl
def ok{α:Type}(o:Option α)(K:α->Prop):Prop:=∃a,o=some a/\K a
def aI{α:Type}(c:Prop)[Decidable c](o:Option α):Option α:=if c then o else none
def eu{α:Type}(g:Bool)(z:α)(o:Option α):Option α:=bif g then o else some z
def aL{α β:Type}(o:Option α)(f:α->Option β):Option β:=match o with
 |some a=>f a
 |none=>none
def cE{S O:Type}(body:S->Option (S⊕O)):Nat->S->Option O
 |0,_=>none
 |n+1,s=>match body s with
  |none=>none
  |some (.inl t)=>cE body n t
  |some (.inr o)=>some o
def iter{S O:Type}(body:S->Option (S⊕O))(s:S):Option O:=cE body 18446744073709551616 s
def ir{A B C:Type}(f:A->C)(g:B->C):A⊕B->C
 |.inl a=>f a
 |.inr b=>g b
section
variable{α β:Type}(K:α->Prop)
@[go_sem]theorem bK(a:α):ok (some a) K=K a:=by simp[ok]
@[go_sem]theorem ok_none:ok none K=False:=by simp[ok]
@[go_sem]theorem il(c:Prop)[Decidable c](o:Option α):ok (aI c o) K=(c/\ok o K):=by grind [aI,ok]
@[go_sem]theorem kX(o:Option β)(f:β->Option α):ok (aL o f) K=ok o (fun b=>ok (f b) K):=by cases o<;>simp[aL,ok]
@[go_sem]theorem P3(c:Bool)(a b:Option α):ok (if c=true then a else b) K=((c=true->ok a K)/\(c=false->ok b K)):=A_
theorem Tg(g:Bool)(z:α)(o:Option α):ok (eu g z o) K=∃a,(g=true->o=some a)/\(g=false->a=z)/\K a:=by grind [eu,ok]
@[go_sem]theorem kN{A B C:Type}(f:A->C)(g:B->C)(a:A):ir f g (.inl a)=f a:=rfl
@[go_sem]theorem ur{A B C:Type}(f:A->C)(g:B->C)(b:B):ir f g (.inr b)=g b:=rfl
end
def aV{A B C D:Prop}(h:A->C)(k:B->D):A/\B->C/\D:=fun x=>⟨h x.1,k x.2⟩
def bI{p A B:Prop}(h:A->B):(p->A)->p->B:=fun x y=>h (x y)
def bG{A:Prop}:A->A:=fun h=>h
variable{P:Program}
def au{β:Type}{o:Option β}{kf:β->Prop}{f:FuncId}{as1:List AV}{s:ae}{enc:β->List AV}{Q:List AV->ae->Prop}
 (hf:∀r,o=some r->FE P f as1 s (enc r) s)(hk:∀r,kf r->Q (enc r) s):ok o kf->FN P f as1 s Q:=fun⟨r,h,k⟩=>FE.app (hf r h) (hk r k)
def cw{β:Type}{o:Option β}{kf:β->Prop}{f:FuncId}{as1:List AV}{s:ae}{enc:β->List AV}{Q:List AV->Prop}
 (hf:∀r,o=some r->FE P f as1 s (enc r) s)(hr:∀r,ku (enc r)=true)(hk:∀r,kf r->Q (enc r)):ok o kf->∃rs,ku rs=true/\FE P f as1 s rs s/\Q rs:=
 fun⟨r,h,k⟩=>⟨enc r,hr r,hf r h,hk r k⟩
def cP{β:Type}{g:Bool}{z:β}{o:Option β}{kf:β->Prop}{f:FuncId}{as1:Option (List AV)}{as2:List AV}{s:ae}{enc:β->List AV}{Q:List AV->Prop}
 (ha:as1=some as2)(hf:∀r,o=some r->FE P f as2 s (enc r) s)(hr:∀r,ku (enc r)=true)(hk:∀r,kf r->Q (enc r)):
 ok (eu g z o) kf->∃rs,ku rs=true/\(g=true->∃as2,as1=some as2/\FE P f as2 s rs s)/\Q rs:=fun h=>by
 grind [Tg]
def okj{α:Type}(o:Option α)(K:α->Prop):Prop:=ok o K
def jn{α β:Type}(o:Option α)(f:α->Option β):Option β:=aL o f
@[go_sem]theorem abL{α β:Type}(K:α->Prop)(o:Option β)(f:β->Option α):ok (jn o f) K=okj o (fun b=>ok (f b) K):=kX ..
def aS{X:Type}{M:Option X}{kf:X->Prop}{live:List (Nat×Bool)}{a b:IC}{Q:Exit->St->Prop}{σ:St}(enc:X->St)
 (ha:∀J:St->Prop,ok M (fun x=>J (enc x))->gx P a (px live J Q) σ)(hb:∀x,kf x->gx P b Q (enc x)):okj M kf->gx P (.join live a b) Q σ:=fun⟨x,h,k⟩=>
 ⟨fun τ=>∃x,τ=enc x/\kf x,ha _ ⟨x,h,x,rfl,k⟩,fun _⟨x,e,k⟩=>e▸hb x k⟩
theorem rI{S O:Type}{body:S->Option (S⊕O)}{s:S}{K:O->Prop}:¬ok (cE body 0 s) K:=fun⟨_,h,_⟩=>F_
def rH{S O:Type}{body:S->Option (S⊕O)}{n:Nat}{s:S}{K:O->Prop}(h:ok (cE body (n+1) s) K):ok (body s) (ir (fun t=>ok (cE body n t) K) K):=by
 obtain⟨o,h,k⟩:=h
 unfold cE at h
 cases hb:body s with
 |none=>grind
 |some x=>
  rw[hb]at h
  cases x with
  |inl t=>exact⟨_,rfl,⟨o,h,k⟩⟩
  |inr o'=>cases h;exact⟨_,rfl,k⟩
theorem wD{live:List (Nat×Bool)}{I:St->Prop}{μ:St->Nat}{m:Nat}{Q:Exit->St->Prop}:IY live I μ m Q=px live (fun ρ=>I ρ/\μ ρ<m) Q:=by funext x ρ;cases x<;>rfl
def bk{S O:Type}{body:S->Option (S⊕O)}{s0:S}{kf:O->Prop}{live:List (Nat×Bool)}{b:IC}{Q:Exit->St->Prop}{σ:St}(enc:S->St)
 (h0:σ.fk live=enc s0)
 (hb:∀(J:St->Prop)(s:S),ok (body s) (ir (fun t=>J (enc t)) kf)->gx P b (px live J Q) (enc s)):ok (iter body s0) kf->gx P (.loop live b) Q σ:=by
 intro h
 have Gq:∀τ,(∃m s,τ=enc s/\ok (cE body m s) kf)->∃m,(∃s,τ=enc s/\ok (cE body m s) kf)/\∀k,k<m->¬∃s,τ=enc s/\ok (cE body k s) kf:=by
  rintro τ ⟨m,s,h⟩
  induction m using Nat.strongRecOn generalizing s with
  |_ m ih=>grind
 have hμ:∃μ:St->Nat,∀τ,(∃m s,τ=enc s/\ok (cE body m s) kf)->(∃s,τ=enc s/\ok (cE body (μ τ) s) kf)/\∀k,k<μ τ->¬∃s,τ=enc s/\ok (cE body k s) kf:=by exact⟨fun τ=>Classical.epsilon fun m=>(∃s,τ=enc s/\ok (cE body m s) kf)/\∀k,k<m->¬∃s,τ=enc s/\ok (cE body k s) kf,fun τ hτ=>Classical.epsilon_spec (Gq τ hτ)⟩
 obtain⟨μ,hμ⟩:=hμ
 refine⟨fun τ=>∃m s,τ=enc s/\ok (cE body m s) kf,μ,?_,?_⟩
 ·exact⟨_,s0,h0,h⟩
 ·intro τ hτ
  obtain⟨⟨s,e,hs⟩,_⟩:=hμ τ hτ
  generalize hm:μ τ=m at hs
  cases m with
  |zero=>grind [rI]
  |succ m=>
   subst e
   rw[wD]
   obtain⟨x,hx,k⟩:=rH hs
   refine hb _ s ⟨x,hx,?_⟩
   cases x with
   |inr o=>exact k
   |inl t=>
    refine⟨⟨m,t,rfl,k⟩,?_⟩
    have h2:=(hμ (enc t) ⟨m,t,rfl,k⟩).2
    rcases Nat.lt_or_ge m (μ (enc t))with hlt|hge
    ·exact(h2 m hlt ⟨t,rfl,k⟩).elim
    ·omega
def xI{S O:Type}{body:S->Option (S⊕O)}{s0:S}{kf:O->Prop}{live:List (Nat×Bool)}{l:Nat}{r:IC}{Q:Exit->St->Prop}{σ:St}(enc:S->St)
 (h0:σ=enc s0)
 (hb:∀(J:St->Prop)(s:S),ok (body s) (ir (fun t=>J (enc t)) kf)->gx P r (Gw l live J Q) (enc s)):ok (iter body s0) kf->Rm P l live r Q σ:=by
 intro h
 have Gq:∀τ,(∃m s,τ=enc s/\ok (cE body m s) kf)->∃m,(∃s,τ=enc s/\ok (cE body m s) kf)/\∀k,k<m->¬∃s,τ=enc s/\ok (cE body k s) kf:=by
  rintro τ ⟨m,s,h⟩
  induction m using Nat.strongRecOn generalizing s with
  |_ m ih=>grind
 have hμ:∃μ:St->Nat,∀τ,(∃m s,τ=enc s/\ok (cE body m s) kf)->(∃s,τ=enc s/\ok (cE body (μ τ) s) kf)/\∀k,k<μ τ->¬∃s,τ=enc s/\ok (cE body k s) kf:=by exact⟨fun τ=>Classical.epsilon fun m=>(∃s,τ=enc s/\ok (cE body m s) kf)/\∀k,k<m->¬∃s,τ=enc s/\ok (cE body k s) kf,fun τ hτ=>Classical.epsilon_spec (Gq τ hτ)⟩
 obtain⟨μ,hμ⟩:=hμ
 refine⟨fun τ=>∃m s,τ=enc s/\ok (cE body m s) kf,μ,?_,?_⟩
 ·exact⟨_,s0,h0,h⟩
 ·intro τ hτ
  obtain⟨⟨s,e,hs⟩,_⟩:=hμ τ hτ
  generalize hm:μ τ=m at hs
  cases m with
  |zero=>grind [rI]
  |succ m=>
   subst e
   obtain⟨x,hx,k⟩:=rH hs
   refine hb _ s ⟨x,hx,?_⟩
   cases x with
   |inr o=>exact k
   |inl t=>
    refine⟨⟨m,t,rfl,k⟩,?_⟩
    have h2:=(hμ (enc t) ⟨m,t,rfl,k⟩).2
    rcases Nat.lt_or_ge m (μ (enc t))with hlt|hge
    ·exact(h2 m hlt ⟨t,rfl,k⟩).elim
    ·omega
def lJ{X Y α:Type}(M:Option (X⊕Y))(F:X->Option α)(G:Y->Option α):Option α:=match M with
 |some (.inl x)=>F x
 |some (.inr y)=>G y
 |none=>none
@[go_sem]theorem Tf{X Y α:Type}(M:Option (X⊕Y))(F:X->Option α)(G:Y->Option α)(K:α->Prop):ok (lJ M F G) K=ok M (ir (fun x=>ok (F x) K) (fun y=>ok (G y) K)):=by
  cases M with
  |none=>simp[lJ,ok]
  |some x=>grind [lJ,ok,ir]
def nD{X Y α:Type}(M:Option (X⊕Y))(F:X->Option α)(G:Y->Option α):Option α:=lJ M F G
@[go_sem]theorem afp{X Y α:Type}(M:Option (X⊕Y))(F:X->Option α)(G:Y->Option α)(K:α->Prop):ok (nD M F G) K=okj M (ir (fun x=>ok (F x) K) (fun y=>ok (G y) K)):=Tf ..
def bR{X Y:Type}{M:Option (X⊕Y)}{kf:X->Prop}{kr:Y->Prop}{live:List (Nat×Bool)}{a b:IC}{Q:Exit->St->Prop}{σ:St}(enc:X->St)
 (ha:∀J:St->Prop,ok M (ir (fun x=>J (enc x)) kr)->gx P a (px live J Q) σ)(hb:∀x,kf x->gx P b Q (enc x)):okj M (ir kf kr)->gx P (.join live a b) Q σ:=fun⟨x,h,k⟩=>by
 refine⟨fun τ=>∃x,τ=enc x/\kf x,ha _ ⟨x,h,?_⟩,fun _⟨x,e,k⟩=>e▸hb x k⟩
 cases x with
 |inl x=>exact⟨x,rfl,k⟩
 |inr y=>exact k
@[go_sem]theorem MB(c:UInt8):byteOf (.int .u8 c.toNat)=some c:=by
  unfold byteOf
  have:=c.toNat_lt
  simp only[Int.natCast_nonneg,true_and,Int.toNat_natCast]
  rw[if_pos AT]
  simp
@[go_sem]theorem FZ:∀l:List UInt8,bytesOf (flat l)=some l
  |[]=>rfl
  |c::l=>by
   rw[lf]
   show Om (byteOf (.int .u8 c.toNat)) (bytesOf (flat l))=_
   rw[MB,FZ l];rfl
@[go_sem]theorem abr(l:List UInt8):(l.map fun c=>AV.int .u8 c.toNat)=flat l:=by
  induction l with
  |nil=>rfl
  |cons a l ih=>rw[List.map_cons,ih];rfl
def ao(n:Int):Int:=IntKind.i64.wrap n
def eR(n:Int):UInt8:=UInt8.ofNat (IntKind.u8.wrap n).toNat
def cf(n:Int):UInt32:=UInt32.ofNat (IntKind.u32.wrap n).toNat
def Hs(n:Int):UInt64:=UInt64.ofNat (IntKind.u64.wrap n).toNat
@[go_sem]theorem ac9(n:Int):kn .i64 n=ao n:=rfl
theorem Aa(k:IntKind)(n:Int)(hk:k.signed=false):k.wrap n=n % (2^k.bits:Int):=by grind [IntKind.wrap]
@[go_sem]theorem wrap_u8(n:Int):kn .u8 n=(eR n).toNat:=by
  show IntKind.u8.wrap n=((UInt8.ofNat (IntKind.u8.wrap n).toNat).toNat:Int)
  rw[Aa _ _ rfl,UInt8.toNat_ofNat']
  have:(2^IntKind.u8.bits:Int)=256:=BY
  grind
@[go_sem]theorem wrap_u32(n:Int):kn .u32 n=(cf n).toNat:=by
  show IntKind.u32.wrap n=((UInt32.ofNat (IntKind.u32.wrap n).toNat).toNat:Int)
  rw[Aa _ _ rfl,UInt32.toNat_ofNat']
  have:(2^IntKind.u32.bits:Int)=4294967296:=BY
  grind
@[go_sem]theorem wrap_u64(n:Int):kn .u64 n=(Hs n).toNat:=by
  show IntKind.u64.wrap n=((UInt64.ofNat (IntKind.u64.wrap n).toNat).toNat:Int)
  rw[Aa _ _ rfl,UInt64.toNat_ofNat']
  have:(2^IntKind.u64.bits:Int)=18446744073709551616:=BY
  grind
def lO(k:IntKind)(a b:Int):Int:=a*2^(min b.toNat k.bits)
def kJ(k:IntKind)(a b:Int):Int:=a.fdiv (2^(min b.toNat k.bits))
def pR(k:IntKind)(a b:Int):Int:=(BitVec.ofInt k.bits a&&&BitVec.ofInt k.bits b).toNat
def D1(k:IntKind)(a b:Int):Int:=(BitVec.ofInt k.bits a |||BitVec.ofInt k.bits b).toNat
def Re(k:IntKind)(a b:Int):Int:=(BitVec.ofInt k.bits a^^^BitVec.ofInt k.bits b).toNat
def wY(k:IntKind)(a b:Int):Int:=(BitVec.ofInt k.bits a&&& ~~~BitVec.ofInt k.bits b).toNat
@[go_sem]theorem Z9(k k':IntKind)(a b:Int):su .shl k k' a b=.fY (0<=b) (.int k (kn k (lO k a b))):=rfl
@[go_sem]theorem aaa(k k':IntKind)(a b:Int):su .shr k k' a b=.fY (0<=b) (.int k (kJ k a b)):=rfl
@[go_sem]theorem Z8(k k':IntKind)(a b:Int):su .and k k' a b=kk k k' (.dG (.int k (kn k (pR k a b)))):=rfl
@[go_sem]theorem adf(k k':IntKind)(a b:Int):su .or k k' a b=kk k k' (.dG (.int k (kn k (D1 k a b)))):=rfl
@[go_sem]theorem aab(k k':IntKind)(a b:Int):su .xor k k' a b=kk k k' (.dG (.int k (kn k (Re k a b)))):=rfl
@[go_sem]theorem Uw(k k':IntKind)(a b:Int):su .andNot k k' a b=kk k k' (.dG (.int k (kn k (wY k a b)))):=rfl
@[go_sem]theorem adm(l:List UInt8)(k:Int):l.getD k.toNat 0=ix l k:=rfl
@[go_sem]theorem adF(l:List UInt8)(lo hi:Int):(l.drop lo.toNat).take (hi -lo).toNat=part l lo hi:=rfl
attribute[go_sem] List.length_append true_or or_true eq_self_iff_true imp_self Bool.cond_true_left Bool.cond_false_right and_self and_true
def mv(d x:Nat):aH:=⟨some d,.oU false (.t x),none⟩
def mt(d x:Nat):aH:=⟨some d,.oU true (.t x),none⟩
def mvg(d x t:Nat)(w:Bool):aH:=⟨some d,.oU false (.t x),some (t,w)⟩
def mtg(d x t:Nat)(w:Bool):aH:=⟨some d,.oU true (.t x),some (t,w)⟩
def i1(d:Nat)(o:sj):aH:=⟨some d,o,none⟩
def i1g(d t:Nat)(w:Bool)(o:sj):aH:=⟨some d,o,some (t,w)⟩
def i0(o:sj):aH:=⟨none,o,none⟩
def i0g(t:Nat)(w:Bool)(o:sj):aH:=⟨none,o,some (t,w)⟩
attribute[go_sem] mv mt mvg mtg i1 i1g i0 i0g
@[go_sem]theorem acP(a:AV)(l:List AV)(off n:Nat):AB.sub (a::l) off n=((a::l).drop off).take n:=rfl
attribute[go_sem] ER OP
@[go_sem]theorem Xk(σ:St)(b:Bool)(a:AV)(d:Option Nat):cu σ (.when b a) d=cu σ a d:=by rw[cu]
end Go.AB
end
section
namespace Go.AB
open Go
def qg(t s:ae):Prop:=∀b o,t b=some o->s b=some o
theorem qg.refl(s:ae):qg s s:=fun _ _ h=>h
theorem qg.set{t s:ae}{b:Nat}{o:SO}(h:qg t s)(hb:t b=none):qg t (s.set b o):=fun c p hc=>by
 unfold ae.set
 by_cases hcb:c=b
 ·grind
 ·rw[if_neg hcb];exact h c p hc
variable{P:Program}
def FN.forget{f:FuncId}{args:List AV}{s:ae}{Q:List AV->ae->Prop}(h:FN P f args s fun rs t=>∃t',qg t' t/\Q rs t'):FN P f args s Q:=by
 intro G w vs h1 h2 h3 h4
 refine(h G w vs h1 h2 h3 h4).mono fun e w'⟨v,rs,s',G',a1,⟨t',ht,hq⟩,a3,a4,a5⟩=>⟨v,rs,t',G',a1,hq,a3,fun b o hb=>a4 b o (ht b o hb),a5⟩
theorem gq(s:ae)(b:Nat)(o:SO):(s.set b o) b=some o:=by simp[ae.set]
theorem aj{s:ae}{b c:Nat}{o:SO}(h:c≠b):(s.set b o) c=s c:=by simp[ae.set,h]
theorem set_set(s:ae)(b:Nat)(o p:SO):(s.set b o).set b p=s.set b p:=Ξ
theorem set_comm{a b:Nat}(h:a≠b){s:ae}{o p:SO}:(s.set b p).set a o=(s.set a o).set b p:=Ξ
def Yo{s:ae}{b:Nat}{o:SO}(h:s b=some o):s=s.set b o:=Ξ
theorem aZ{s:ae}{b:Nat}{o:SO}(h:s b=some o):s.set b o=s:=(Yo h).symm
theorem jq(s:ae)(b c:Nat)(o:SO):((s.set b o) c=none)=(c≠b/\s c=none):=Ξ
attribute[go_sem] gq set_set
def aF{α:Type}{o:Option α}{K K':α->Prop}(h:ok o K)(hk:∀r,K r->K' r):ok o K':=h.imp fun r⟨h1,h2⟩=>⟨h1,hk r h2⟩
section
variable(Q:Exit->St->Prop)(σ τ:St)
@[go_sem]theorem YR(b:IC):gx P (.scope b) Q σ=gx P b (wK Q) σ:=by
  have:(fun x τ=>match x with|.goto _=>False|x=>Q x τ)=wK Q:=by funext e τ;cases e<;>rfl
  show gx P b (fun x τ=>match x with|.goto _=>False|x=>Q x τ) σ=_
  rw[this]
@[go_sem]theorem Ym:wK Q .ret τ=Q .ret τ:=rfl
@[go_sem]theorem VB(i:Nat):wK Q (.exit i) τ=Q (.exit i) τ:=rfl
end
def A2(sz len n:Nat)(x:IX):AV->PR
 |.lp d o=>.fY (n+1<=len) (.lp d (o+n*sz))
 |.sp cs=>bif decide (len*sz<=cs.length)then .fY (n+1<=len) (.sp (cs.drop (n*sz)))else .no
 |.ref b o=>.fY (n+1<=len) (.ref b (o+n*sz))
 |.loc _=>M4 (n+1<=len) (n*sz) x
 |_=>.no
attribute[go_sem] A2.eq_1 A2.eq_2 A2.eq_3 A2.eq_4
def vm{α:Type}(l:List α)(i:Int)(x:α):List α:=l.take i.toNat++[x]++l.drop (i.toNat+1)
def BX{α:Type}[bz α](l:List α)(i:Int)(x:α)(n:Nat)(hn:n=bz.w α):setAt (flat l) (i.toNat*n) (bz.cells x)=flat (vm l i x):=by
 subst hn
 unfold setAt vm
 rw[fq,fq,lf,s6,List.append_nil,yT,bz.len]
 congr 1
 rw[show i.toNat*bz.w α+bz.w α=(i.toNat+1)*bz.w α from by grind,yS]
@[go_sem]theorem aee(l:List UInt32)(i:Int)(x:UInt32):setAt (flat l) (i.toNat*1) [.int .u32 x.toNat]=flat (vm l i x):=BX l i x 1 rfl
@[go_sem]theorem Yn(a:AV)(l:List AV)(off:Nat)(news:List AV):setAt (a::l) off news=(a::l).take off++news++(a::l).drop (off+news.length):=rfl
@[go_sem]theorem abU(z:List AV)(a:AV)(l:List AV):pad z (a::l)=bif(a::l).length==z.length then a::l else z:=rfl
@[go_sem]theorem De{α:Type}[bz α](n:Nat)(z:α):(List.replicate n (bz.cells z)).flatten=flat (List.replicate n z):=by simp[flat]
section
variable{d d':Option Nat}{K:St->Prop}{σ:St}{b off:Nat}{news jt:List AV}
@[go_sem]theorem ad3:QN d K (ZW σ b (gQ off news jt))=(off+news.length<=jt.length/\K (({σ with s:=σ.s.set b (.cells (setAt jt off news))}:St).put d (.jV []))):=by grind [gQ,ZW,QN]
@[go_sem]theorem ad2{i:Nat}:QN d K (YH σ i (gQ off news jt))=(off+news.length<=jt.length/\K ((σ.put (some i) (.loc (setAt jt off news))).put d (.jV []))):=by grind [gQ,YH,QN]
end
@[go_sem]theorem Vc(n:Nat):(((no_index (OfNat.ofNat n)):Nat):Int)=OfNat.ofNat n:=rfl
def aeA{κ ν:Type}(ek:κ->AV)(ev:ν->AV)(m:List (κ×ν)):List (AV×AV):=m.map fun p=>(ek p.1,ev p.2)
section
variable{κ ν:Type}[BEq κ]{ek:κ->AV}{ev:ν->AV}
end
attribute[go_sem] SS.eq_1
theorem al{κ ν:Type}(ek:κ->AV)(ev:ν->AV):aeA ek ev []=[]:=rfl
@[go_sem]theorem adY(n:Nat):(List.replicate n [AV.int .i64 0]).flatten=flat (List.replicate n (0:Int)):=De n (0:Int)
@[go_sem]theorem afL(n:Nat):(List.replicate n [AV.int .u8 0]).flatten=flat (List.replicate n (0:UInt8)):=De n (0:UInt8)
@[go_sem]theorem adZ(n:Nat):(List.replicate n [AV.int .u32 0]).flatten=flat (List.replicate n (0:UInt32)):=De n (0:UInt32)
end Go.AB
end
section
namespace Go.AB
open Go
def q9(G G2:Gh):Prop:=∀b,G.R b<=G2.R b/\(G.O b≠.sh->G2.O b=G.O b/\G2.R b=G.R b)
def FN.conv{P:Program}{f:FuncId}{args:List AV}{s:ae}{Q Q':List AV->ae->Prop}(h:FN P f args s Q)
 (k:∀rs s',Q rs s'->∀G w v,cS G w->bB G w s'->ri G w rs v->∃rs2 s2 G2,Q' rs2 s2/\q9 G G2/\cS G2 w/\bB G2 w s2/\ri G2 w rs2 v):FN P f args s Q':=by
 intro G w vs h1 h2 h3 h4
 refine(h G w vs h1 h2 h3 h4).mono fun e w'⟨v,rs,s',G',a,hq,hg,hs,hr,hp⟩=>?_
 obtain⟨rs2,s2,G2,k1,k2,k3,k4,k5⟩:=k rs s' hq G' w' v hg hs hr
 refine⟨v,rs2,s2,G2,a,k1,k3,k4,k5,hp.os,hp.tape,hp.output,hp.drawn,hp.size,fun b hb=>Nat.le_trans (hp.mono b hb) (k2 b).1,hp.nz,hp.frame,fun b hb ho=>?_,fun b hb ho=>?_⟩
 ·obtain⟨q1,q2⟩:=hp.kq b hb ho
  obtain⟨q3,q4⟩:=(k2 b).2 (by rw[q1];simp)
  grind
 ·obtain⟨q1,q2⟩:=hp.qI b hb ho
  obtain⟨q3,q4⟩:=(k2 b).2 (by rw[q1];simp)
  grind
section
variable{G:Gh}{w:World}{s:ae}{b:Nat}
def Mf(h:bB G w s)(hg:cS G w){cs:List AV}(hs:s b=some (.cells cs))(r:Nat):
 q9 G (G.wT b (.res 0) r)/\cS (G.wT b (.res 0) r) w/\bB (G.wT b (.res 0) r) w (s.del b)/\(∀a v,VR w G.R a v->VR w (G.wT b (.res 0) r).R a v):=by
 obtain⟨q2,q3,c,t,q4,q5,q6⟩:=h b _ hs
 have hR:∀b',G.R b'<=(G.wT b (.res 0) r).R b':=fun b'=>by
  by_cases hb:b'=b
  ·grind
  ·simp[hb]
 have hv:∀a v,VR w G.R a v->VR w (G.wT b (.res 0) r).R a v:=fun a v h=>h.mono hR fun _ _ _=>rfl
 have same:∀b',b'≠b->(G.wT b (.res 0) r).O b'=G.O b'/\(G.wT b (.res 0) r).R b'=G.R b':=fun b' hb'=>⟨by simp[hb'],by simp[hb']⟩
 have hlt:b<w.heap.size:=hg.lt U_
 refine⟨fun b'=>⟨hR b',fun hb'=>same b' fun e=>A_⟩,⟨fun b' hb'=>?_,fun b' hb'=>?_⟩,?_,hv⟩
 ·have:b'≠b:=AT
  rw[(same b' this).1,hg.mn b' hb']
 ·have:b'≠b:=AT
  rw[(same b' this).2,hg.nc b' hb']
 ·intro b' o hb'
  unfold ae.del at hb'
  split at hb'
  ·cases hb'
  ·rename_i hne
   obtain⟨r1,r2,r3⟩:=h b' o hb'
   refine⟨(same b' hne).1.trans r1,(same b' hne).2.trans r2,?_⟩
   cases o with
   |cells cs'=>
    obtain⟨c',t',r4,r5,r6⟩:=r3
    exact⟨c',t',r4,r5.mono hv (fun b'' j u5=>A_),r6⟩
   |map es=>
    obtain⟨sW,clock,r4,r5,r6⟩:=r3
    exact⟨sW,clock,r4,r5,fun j x y hx hy=>⟨hv _ _ (r6 j x y hx hy).1,hv _ _ (r6 j x y hx hy).2⟩⟩
def Tn(h:bB G w s)(hg:cS G w){n cap sz:Nat}{cs sp:List AV}{v:Value}(hs:s b=some (.cells (cs++sp)))(hc:0<cap)(hn:n<=cap)(hl:(cs++sp).length=cap*sz)(hl2:cs.length=n*sz)(hvw:views (cs++sp)=cs++sp)
 (hr:ri G w [.arr b 0 n cap] v):∃G2,q9 G G2/\cS G2 w/\bB G2 w (s.del b)/\ri G2 w [.us sz n cs] v:=by
 obtain⟨k1,k2,k3,k4⟩:=Mf h hg hs 0
 obtain⟨q2,q3,c,t,q4,q5,q6⟩:=h b _ hs
 refine⟨_,k1,k2,k3,.inr ⟨b,cap,c,t,sp,hc,hn,VR.xG hr.1 hc,B_,B_,q4,by rw[q5.1,hl],hl2,hl,fun j x u hx hu=>k4 _ _ (q5.2 j x u hx hu).1,q6.flat hvw,hvw⟩⟩
def Qa{sz:Nat}{v:Value}(hr:ri G w [.arr b 0 0 0] v):ri G w [.us sz 0 []] v:=by
 rcases VR.dF hr.1 with e|⟨_,_,e⟩
 ·exact .inl ⟨rfl,rfl,.inr ⟨b,0,e⟩⟩
 ·exact .inl ⟨rfl,rfl,.inl e⟩
def Tm(h:bB G w s)(hg:cS G w){n cap sz:Nat}{cs sp:List AV}{v:Value}(hs:s b=some (.cells (cs++sp)))(hc:0<cap)(hn:n<=cap)(hl:(cs++sp).length=cap*sz)(hl2:cs.length=n*sz)(hvw:views cs=cs)
 (hr:ri G w [.arr b 0 n cap] v):∃G2,q9 G G2/\cS G2 w/\bB G2 w (s.del b)/\ri G2 w [.sl true sz n cs] v:=by
 obtain⟨k1,k2,k3,k4⟩:=Mf h hg hs (n*sz)
 obtain⟨q2,q3,c,t,q4,q5,q6⟩:=h b _ hs
 have e:=VR.xG hr.1 hc
 refine⟨_,k1,k2,k3,?_,?_⟩
 ·rw[e]
  refine .sl true sz n cs b 0 cap (fun j=>c.getD j undef) (q6.left.flat hvw) hl2 (by simp[hl2]) hn (fun j x hj=>?_) (fun j x hj=>?_)
  all_goals
   have hj':(cs++sp)[j]? =some x:=by rw[List.getElem?_append_left (List.getElem?_eq_some_iff.1 hj).1];exact hj
   have hlt:j<c.size:=by rw[q5.1];exact(List.getElem?_eq_some_iff.1 hj').1
   have DY:c[j]? =some (c.getD j undef):=Xc7
  ·rw[Nat.zero_add,cell_of_row w q4,DY]
  ·exact k4 _ _ (q5.2 j x _ hj' DY).1
 ·intro base m' dw hv _
  rw[e]at hv
  injection hv with e1 e2 e3
  subst e3
  exact⟨b,0,c,t,(0,0),e1.symm,B_,B_,q4,by rw[q5.1,hl,Nat.zero_add],fun j _ hj=>T_,Nat.le_refl _,rfl,.inl rfl,fun j y _ hy=>by
   have hlt:j<(cs++sp).length:=by rw[<-q5.1];exact(Array.getElem?_eq_some_iff.1 hy).1
   exact qJ (q6 _ (List.getElem_mem hlt)) (q5.2 j _ y (List.getElem?_eq_getElem hlt) hy).1⟩
def P9{sz:Nat}{v:Value}(hr:ri G w [.arr b 0 0 0] v):ri G w [.sl true sz 0 []] v:=by
 rcases VR.dF hr.1 with e|⟨_,_,e⟩
 ·refine⟨?_,?_⟩
  ·rw[e];exact .sl true sz 0 [] b 0 0 (fun _=>undef) Fl.nil B_ B_ (Nat.le_refl _) (fun j c hj=>T_) (fun j c hj=>T_)
  ·intro base m' dw hv hc;grind
 ·refine⟨by rw[e];exact .slnil _ _,?_⟩
  intro base m' dw hv hc;grind
end
theorem po{s:ae}{b:Nat}{o:SO}(h:s b=none):(s.set b o).del b=s:=by grind [ae.set,ae.del]
@[go_sem]theorem cc{s:ae}{b:Nat}{o:SO}:(s.set b o) b=some o:=by unfold ae.set;simp
def Sub(s2 s:ae):Prop:=∀b o,s2 b=some o->s b=some o
theorem Sub.refl(s:ae):Sub s s:=fun _ _ h=>h
theorem Sub.set{s s2:ae}(h:Sub s2 s){b:Nat}{o:SO}(hb:s b=none):Sub s2 (s.set b o):=fun b' o' h'=>by
 have:=h b' o' h'
 grind [ae.set]
def Sub.Hf{s s2:ae}(h:Sub s2 s){b:Nat}{o:SO}:Sub (s2.set b o) (s.set b o):=fun b' o' h'=>by
 unfold ae.set at h'⊢
 split
 ·grind
 ·rename_i e;rw[if_neg e]at h';exact h b' o' h'
theorem Sub.none{s s2:ae}(h:Sub s2 s){b:Nat}(hb:s b=none):s2 b=none:=by
 cases h2:s2 b with
 |none=>rfl
 |some o=>have:=h b o h2;grind
theorem bB.sub{G:Gh}{w:World}{s s2:ae}(h:bB G w s)(hs:Sub s2 s):bB G w s2:=fun b o hb=>h b o (hs b o hb)
theorem q9.refl(G:Gh):q9 G G:=fun _=>⟨Nat.le_refl _,fun _=>⟨rfl,rfl⟩⟩
def FN.Hv{P:Program}{f:FuncId}{args:List AV}{s:ae}{Q:List AV->ae->Prop}(h:FN P f args s fun rs s'=>∃s2,Sub s2 s'/\Q rs s2):FN P f args s Q:=h.conv fun rs _⟨s2,h1,h2⟩ G _ _ hg hs hr=>⟨rs,s2,G,h2,q9.refl G,hg,hs.sub h1,hr⟩
def FN.G9{P:Program}{f:FuncId}{args:List AV}{s s2:ae}{Q:List AV->ae->Prop}{sz:Nat}{cs:List AV}{n:Nat}(hl2:cs.length=n*sz)(hvw:views cs=cs)(hq:Q [.sl true sz n cs] s2)
 (h:FN P f args s fun rs s'=>(∃b cap sp,rs=[.arr b 0 n cap]/\s' b=some (.cells (cs++sp))/\0<cap/\n<=cap/\(cs++sp).length=cap*sz/\Sub s2 (s'.del b))\/(n=0/\cs=[]/\Sub s2 s'/\∃b,rs=[.arr b 0 0 0])):FN P f args s Q:=by
 refine h.conv fun rs s' hq' G w v hg hs hr=>?_
 rcases hq' with⟨b,cap,sp,rfl,hb,hc,hn,hl,xD⟩|⟨rfl,rfl,xD,b,rfl⟩
 ·obtain⟨G2,k1,k2,k3,k4⟩:=Tm hs hg hb hc hn hl hl2 hvw hr
  exact⟨_,_,G2,hq,k1,k2,k3.sub xD,k4⟩
 ·exact⟨_,_,G,hq,q9.refl G,hg,hs.sub xD,P9 hr⟩
def FN.Yl{P:Program}{f:FuncId}{args:List AV}{s s2:ae}{Q:List AV->ae->Prop}{sz:Nat}{cs:List AV}{n:Nat}(hl2:cs.length=n*sz)(hq:Q [.us sz n cs] s2)
 (h:FN P f args s fun rs s'=>(∃b cap sp,rs=[.arr b 0 n cap]/\s' b=some (.cells (cs++sp))/\0<cap/\n<=cap/\(cs++sp).length=cap*sz/\views (cs++sp)=cs++sp/\Sub s2 (s'.del b))\/(n=0/\cs=[]/\Sub s2 s'/\∃b,rs=[.arr b 0 0 0])):FN P f args s Q:=by
 refine h.conv fun rs s' hq' G w v hg hs hr=>?_
 rcases hq' with⟨b,cap,sp,rfl,hb,hc,hn,hl,hvw,xD⟩|⟨rfl,rfl,xD,b,rfl⟩
 ·obtain⟨G2,k1,k2,k3,k4⟩:=Tn hs hg hb hc hn hl hl2 hvw hr
  exact⟨_,_,G2,hq,k1,k2,k3.sub xD,k4⟩
 ·exact⟨_,_,G,hq,q9.refl G,hg,hs.sub xD,Qa hr⟩
def HF:Nat:=18446744073709551616
@[go_sem]theorem ady(a b:Nat):Nat.beq a b=(a==b):=Bool.eq_iff_iff.2 P_
def My{A C:Prop}{b:Bool}(h:b=true)(k:A->C):A->b=true/\C:=fun x=>⟨h,k x⟩
def abv{A C:Prop}{a b:Nat}(h:a=b)(k:A->C):A->a=b/\C:=fun x=>⟨h,k x⟩
def nJ{P:Program}{f:FuncId}{as1 as2 rs:List AV}{s s':ae}(e:as1=as2)(h:FE P f as1 s rs s'):FE P f as2 s rs s':=e▸h
def Ku(σ:St)(d:Option Nat)(K:St->Prop)(b off:Nat):Option SO->Prop
 |some (.cells cs)=>lG off cs fun cs' a=>K ({σ with s:=σ.s.set b (.cells cs')}.put d a)
 |_=>False
@[go_sem]theorem W7(σ:St)(d:Option Nat)(K:St->Prop)(b off:Nat):rP σ d K (.ref b off)=Ku σ d K b off (σ.s b):=by
  show(match σ.s b with|some (.cells cs)=>lG off cs fun cs' a=>K ({σ with s:=σ.s.set b (.cells cs')}.put d a)|_=>False)=_
  grind [Ku]
@[go_sem]theorem SN(σ:St)(d:Option Nat)(K:St->Prop)(b off:Nat)(cs:List AV):Ku σ d K b off (some (.cells cs))=lG off cs fun cs' a=>K ({σ with s:=σ.s.set b (.cells cs')}.put d a):=rfl
@[go_sem]theorem YA(o:Bool)(sz n:Nat)(ds cs:List AV)(k:List AV->AV->Prop):lG 0 (.sl o sz n ds::cs) k=k (.sl false sz n ds::cs) (.sl o sz n ds):=rfl
@[go_sem]theorem acS(t n:Nat)(ds cs:List AV)(k:List AV->AV->Prop):lG 0 (.bb t n ds::cs) k=k (.sl false 1 n ds::cs) (.bb t n ds):=rfl
@[go_sem]theorem Yz(a:AV)(n:Nat)(cs:List AV)(k:List AV->AV->Prop):lG (n+1) (a::cs) k=lG n cs fun cs' x=>k (a::cs') x:=by grind [setAt,Nat.add_right_comm,lG,List.getElem?_cons_succ]
def ixI:AV->Option Int
 |.int _ n=>some n
 |_=>none
@[go_sem]theorem aa9(f:IX->AV)(d:Int):E2 f none d=some d:=rfl
@[go_sem]theorem aba(f:IX->AV)(x:IX)(d:Int):E2 f (some x) d=ixI (f x):=rfl
@[go_sem]theorem ads(k:IntKind)(n:Int):ixI (.int k n)=some n:=rfl
attribute[go_sem] Option.isSome_some Bool.cond_true
@[go_sem]theorem Uu(off cap sz:Nat):kU off cap 0 sz=off:=by grind [kU]
@[go_sem]theorem toNat_zero:(0:Int).toNat=0:=rfl
attribute[go_sem] Int.toNat_natCast Int.sub_zero Nat.sub_zero
@[go_sem]theorem toNat_sub'(a b:Nat):((a:Int) -(b:Int)).toNat=a -b:=AT
section
variable{σ:St}{d:Option Nat}{K:St->Prop}{sz by':Nat}{zero:List AV}{b off n cap m:Nat}{cs ds:List AV}
theorem QL{s:ae}(hs:s b=some (.cells cs))(hf:off+m*sz<=cs.length):zu s sz (.arr b off m cap)=some (m,views (AB.sub cs off (m*sz))):=by
 show(bif m==0 then some (0,[])else jA m sz off (s b))=_
 by_cases hm:m=0
 ·subst hm;simp[AB.sub,views]
 ·rw[show(m==0)=false by grind,hs]
  show(bif decide (off+m*sz<=cs.length)then some (m,views (AB.sub cs off (m*sz)))else none)=_
  grind
theorem pL(s:ae)(ow:Bool):zu s sz (.sl ow sz m ds)=some (m,views ds):=by unfold zu;simp
theorem Nx(s:ae):zu s sz (.arr b off 0 cap)=some (0,[]):=rfl
theorem uF{s:ae}(hs:s b=some (.cells cs))(hf:off+n*sz<=cs.length):oI s sz b off n=some (views (AB.sub cs off (n*sz))):=by
 unfold oI
 by_cases hm:n=0
 ·subst hm;simp[AB.sub,views]
 ·rw[show(n==0)=false by grind,hs]
  show((bif decide (off+n*sz<=cs.length)then some (n,views (AB.sub cs off (n*sz)))else none):Option (Nat×List AV)).map Prod.snd=_
  grind
def pg(hz:zero.length=sz)(hs:σ.s b=some (.cells cs))(hf:off+cap*sz<=cs.length)(hm:n+m<=cap)
 (hk:K ({σ with s:=σ.s.set b (.cells (setAt cs (off+n*sz) ds))}.put d (.arr b off (n+m) cap))):eP sz by' zero σ d K (.arr b off n cap) (some (m,ds)):=by
 have hn:off+n*sz<=cs.length:=Nat.le_trans (Nat.add_le_add_left (Nat.mul_le_mul_right _ AT) _) hf
 show Mt sz by' zero σ d K b off n cap m ds (oI σ.s sz b off n)
 rw[uF hs hn]
 refine⟨hz,fun _=>.inr ⟨by rw[hs];exact hf,?_⟩,fun h=>AT⟩
 rw[hs];exact hk
def fP(hz:zero.length=sz){olds:List AV}(ho:oI σ.s sz b off n=some olds)(hm:cap<n+m)(hr:(n+m)*by'<=room)
 (hk:∀b' dw,σ.s b'=none->n+m<=dw->K ({σ with s:=σ.s.set b' (.cells (olds++ds++(List.replicate (dw -(n+m)) zero).flatten))}.put d (.arr b' 0 (n+m) dw))):eP sz by' zero σ d K (.arr b off n cap) (some (m,ds)):=by
 show Mt sz by' zero σ d K b off n cap m ds (oI σ.s sz b off n)
 rw[ho]
 exact⟨hz,fun h=>AT,fun _=>⟨hr,hk⟩⟩
def pS(hz:zero.length=sz){olds:List AV}(ho:oI σ.s sz b off n=some olds)(hm:n<=cap)(hk:K (σ.put d (.arr b off n cap))):eP sz by' zero σ d K (.arr b off n cap) (some (0,ds)):=by
 show Mt sz by' zero σ d K b off n cap 0 ds (oI σ.s sz b off n)
 rw[ho]
 exact⟨hz,fun _=>.inl ⟨rfl,hk⟩,fun h=>AT⟩
def JT(hz:views zero=zero)(hs:σ.s b=some (.cells cs))(hf:off+n*zero.length<=cs.length)
 (hk:K ({σ with s:=σ.s.set b (.cells (setAt cs off (List.replicate n zero).flatten))}.put d (.jV []))):A4 zero σ d K (.arr b off n cap):=by
 refine .inr ⟨by rw[hs];exact hf,hz,?_⟩
 rw[hs];exact hk
def w9(hz:zero.length=sz)(hv:views zero=zero){olds:List AV}(ho:oI σ.s sz b off n=some olds)(hm:cap<n+m)(hr:(n+m)*by'<=room)
 (hk:∀b' dw,σ.s b'=none->n+m<=dw->K ({σ with s:=σ.s.set b' (.cells (olds++(List.replicate m zero).flatten++(List.replicate (dw -(n+m)) zero).flatten))}.put d (.arr b' 0 (n+m) dw))):wZ sz by' zero σ d K (.arr b off n cap) (.int .i64 (m:Nat)):=by
 show 0<=((m:Nat):Int)/\_
 grind [Int.natCast_nonneg,Int.toNat_natCast,Mt,oI]
theorem EA{off cap l sz:Nat}(h:l<cap):kU off cap l sz=off+l*sz:=by grind [kU]
end
section
variable{α:Type}[bz α]
theorem Ka(l:List α)(k:Nat):flat (l.take k)=(flat l).take (k*bz.w α):=(yT l k).symm
theorem J9(l:List α)(k:Nat):flat (l.drop k)=(flat l).drop (k*bz.w α):=(yS l k).symm
theorem pH(l:List α)(sp:List AV)(n j m:Nat)(hn:n=bz.w α)(h:j+m<=l.length):AB.sub (flat l++sp) (j*n) (m*n)=flat ((l.drop j).take m):=by
 subst hn
 rw[<-qn l _ j m rfl]
 unfold AB.sub
 have h1:j*bz.w α<=(flat l).length:=by rw[a8];exact Nat.mul_le_mul_right _ AT
 rw[List.drop_append_of_le_length h1,List.take_append_of_le_length]
 rw[List.length_drop,a8,<-Nat.sub_mul]
 exact Nat.mul_le_mul_right _ AT
def yq(l l':List α)(sp:List AV)(n i:Nat)(hn:n=bz.w α)(h:i+l'.length<=l.length):setAt (flat l++sp) (i*n) (flat l')=flat (l.take i++l'++l.drop (i+l'.length))++sp:=by
 subst hn
 unfold setAt
 have e1:i*bz.w α+(flat l').length=(i+l'.length)*bz.w α:=by rw[a8,Nat.add_mul]
 grind [bz.w,flat,a8,Nat.mul_le_mul_right,fq,Ka,J9,List.append_assoc]
def Dk(l l':List α)(sp:List AV)(n:Nat)(hn:n=bz.w α)(h:l'.length*n<=sp.length):setAt (flat l++sp) (l.length*n) (flat l')=flat (l++l')++sp.drop (l'.length*n):=by
 subst hn
 unfold setAt
 have e0:l.length*bz.w α=(flat l).length:=(a8 l).symm
 have e1:(flat l').length=l'.length*bz.w α:=a8 l'
 rw[e0,List.take_left,List.drop_append,e1,fq]
 simp_all
theorem jl(z:α)(k:Nat):flat (List.replicate k z)=(List.replicate k (bz.cells z)).flatten:=by unfold flat;simp_all
end
attribute[go_sem] start sc lA tS Qy rl yn Nat.ble_eq
def mix:Go.Proofs.Tryz.prog.follows .mixedOrders=true:=C_
theorem bL:((true=false)=False)/\((false=true)=False)/\(∀p:Prop,(False->p)=True)/\(∀p:Prop,(True->p)=p)/\(∀p:Prop,(True/\p)=p)/\(∀p:Prop,(p/\True)=p)/\((!true)=false)/\((!false)=true)/\(∀b,(true||b)=true)/\(∀b,(false||b)=b):=B_
abbrev FF{α:Type}(f:Nat)(args:List AV)(m:Option α)(g:α->List AV):Prop:=∀{s:ae}{Q:List AV->ae->Prop},ok m (fun r=>Q (g r) s)->FN Go.Proofs.Tryz.prog f args s Q
def FP{f:Nat}{args:List AV}{s:ae}{Q:List AV->ae->Prop}(n:Nat)(res:List kT)(ic:IC)(hf:m5 Go.Proofs.Tryz.prog f n res ic=true)(hv:(rl args&&Nat.ble args.length n)=true)(hw:gx Go.Proofs.Tryz.prog ic (yn res Q) (start args s)):FN Go.Proofs.Tryz.prog f args s Q:=FN.of (kO mix) hf (Bool.and_eq_true_iff.1 hv).1 (Nat.le_of_ble_eq_true (Bool.and_eq_true_iff.1 hv).2) hw
def FS{f:Nat}{args:List AV}{s:ae}{Q:List AV->ae->Prop}{Z:Prop}(n:Nat)(res:List kT)(num:Nat)(z:Z)(hf:m5 Go.Proofs.Tryz.prog f n res (dec num)=true:=by kernel_rfl)(hv:(rl args&&Nat.ble args.length n)=true:=by rfl)(e:Z->gx Go.Proofs.Tryz.prog (dec num) (yn res Q) (start args s):=by intro h;(conv in dec _=>reduce);exact h):FN Go.Proofs.Tryz.prog f args s Q:=FP n res (dec num) hf hv (e z)
def FR{f:Nat}{args:List AV}{s:ae}{Q:List AV->ae->Prop}{X Z C:Prop}(n:Nat)(res:List kT)(num:Nat)(m:C)(z:Z)(hf:m5 Go.Proofs.Tryz.prog f n res (dec num)=true:=by kernel_rfl)(hv:(rl args&&Nat.ble args.length n)=true:=by rfl)(e:C->Z->X->gx Go.Proofs.Tryz.prog (dec num) (yn res Q) (start args s):=by intro m h;(conv in dec _=>reduce);rw[m];exact h):X->FN Go.Proofs.Tryz.prog f args s Q:=fun x=>FP n res (dec num) hf hv (e m z x)
def FC{f:Nat}{args:List AV}{s:ae}{Q:List AV->ae->Prop}{X C:Prop}(n:Nat)(res:List kT)(num:Nat)(m:C)(hf:m5 Go.Proofs.Tryz.prog f n res (dec num)=true:=by kernel_rfl)(hv:(rl args&&Nat.ble args.length n)=true:=by rfl)(e:C->X->gx Go.Proofs.Tryz.prog (dec num) (yn res Q) (start args s):=by intro m;(conv in dec _=>reduce);rw[m];repeat'(first|simp -implicitDefEqProofs only[go_sem,seval])):X->FN Go.Proofs.Tryz.prog f args s Q:=fun x=>FP n res (dec num) hf hv (e m x)
def c6{α:Type}{m:Option α}{f:Nat}{args:List AV}{s:ae}{g:α->List AV}{k:α->ae}{r:α}(hf:∀{Q:List AV->ae->Prop},ok m (fun r=>Q (g r) (k r))->FN Go.Proofs.Tryz.prog f args s Q)(h:m=some r):FE Go.Proofs.Tryz.prog f args s (g r) (k r):=hf ⟨r,h,rfl,rfl⟩
def FO{f n:Nat}{res:List kT}{ic:IC}{args:List AV}{s:ae}{Q:List AV->ae->Prop}(hf:m5 Go.Proofs.Tryz.prog f n res ic=true)(hv:rl args=true)(hn:Nat.ble args.length n=true)(hw:gx Go.Proofs.Tryz.prog ic (yn res Q) (start args s)):FN Go.Proofs.Tryz.prog f args s Q:=FN.of (kO mix) hf hv (Nat.le_of_ble_eq_true hn) hw
def tq{P:Program}{S O:Type}{body:S->Option (S⊕O)}{s0:S}{kf:O->Prop}{live:List (Nat×Bool)}{b:IC}{Q:Exit->St->Prop}{σ:St}(R:S->St->Prop)
 (h0:R s0 (σ.fk live))
 (hb:∀(J:St->Prop)(s:S)(τ:St),R s τ->ok (body s) (ir (fun t=>∀U',R t U'->J U') kf)->gx P b (px live J Q) τ):ok (iter body s0) kf->gx P (.loop live b) Q σ:=by
 intro h
 have Gq:∀τ,(∃m s,R s τ/\ok (cE body m s) kf)->∃m,(∃s,R s τ/\ok (cE body m s) kf)/\∀k,k<m->¬∃s,R s τ/\ok (cE body k s) kf:=by
  rintro τ ⟨m,s,h⟩
  induction m using Nat.strongRecOn generalizing s with
  |_ m ih=>grind
 have hμ:∃μ:St->Nat,∀τ,(∃m s,R s τ/\ok (cE body m s) kf)->(∃s,R s τ/\ok (cE body (μ τ) s) kf)/\∀k,k<μ τ->¬∃s,R s τ/\ok (cE body k s) kf:=⟨fun τ=>Classical.epsilon fun m=>(∃s,R s τ/\ok (cE body m s) kf)/\∀k,k<m->¬∃s,R s τ/\ok (cE body k s) kf,fun τ hτ=>Classical.epsilon_spec (Gq τ hτ)⟩
 obtain⟨μ,hμ⟩:=hμ
 refine⟨fun τ=>∃m s,R s τ/\ok (cE body m s) kf,μ,⟨_,s0,h0,h⟩,?_⟩
 intro τ hτ
 obtain⟨⟨s,e,hs⟩,_⟩:=hμ τ hτ
 generalize hm:μ τ=m at hs
 cases m with
 |zero=>grind [rI]
 |succ m=>
  rw[wD]
  obtain⟨x,hx,k⟩:=rH hs
  refine hb _ s τ e ⟨x,hx,?_⟩
  cases x with
  |inr o=>exact k
  |inl t=>
   intro U' ht
   refine⟨⟨m,t,ht,k⟩,?_⟩
   have h2:=(hμ U' ⟨m,t,ht,k⟩).2
   rcases Nat.lt_or_ge m (μ U')with hlt|hge
   ·exact(h2 m hlt ⟨t,ht,k⟩).elim
   ·omega
def J8{α:Type}[bz α](l:List α)(sp:List AV){i r:Nat}(hi:i<l.length)(hr:r<bz.w α):(flat l++sp)[i*bz.w α+r]? =(bz.cells l[i])[r]? :=by
 have hlt:i*bz.w α+r<(flat l).length:=by
  rw[a8]
  calc i*bz.w α+r<(i+1)*bz.w α:=by grind
   _<=l.length*bz.w α:=Nat.mul_le_mul_right _ hi
 rw[List.getElem?_append_left hlt]
 have h:=qn l (bz.w α) i 1 rfl
 rw[Nat.one_mul,List.drop_eq_getElem_cons hi]at h
 have h2:(AB.sub (flat l) (i*bz.w α) (bz.w α))[r]? =(bz.cells l[i])[r]? :=by
  rw[h]
  show(flat [l[i]])[r]? =_
  unfold flat
  simp
 rw[Hl,if_pos hr]at h2
 exact h2
abbrev db:=Option (Nat×Nat×List AV)
section
variable{α:Type}[bz α]
def KS:db->Nat
 |none=>0
 |some (b,_,_)=>b
def G8:db->Nat
 |none=>0
 |some (_,cap,_)=>cap
abbrev jG(r:db)(n:Nat):AV:=.arr (KS r) 0 n (G8 r)
def kc(s:ae)(r:db)(l:List α):ae:=match r with
 |none=>s
 |some (b,_,sp)=>s.set b (.cells (flat l++sp))
def iR(s:ae)(r:db)(l:List α):Prop:=match r with
 |none=>l=[]
 |some (b,cap,sp)=>s b=none/\0<cap/\l.length<=cap/\(flat l++sp).length=cap*bz.w α/\views sp=sp
def QE{s:ae}{r:db}{l:List α}(h:iR s r l):Sub s (kc s r l):=by
 cases r with
 |none=>exact Sub.refl s
 |some x=>exact(Sub.refl s).set h.1
def oR{s:ae}{r:db}{l:List α}(h:iR s r l){b:Nat}{o:SO}(hb:s b=some o):kc s r l b=some o:=QE h b o hb
def FW{σ:St}{d:Option Nat}{K:St->Prop}{sz by':Nat}{s:ae}{r:db}{l:List α}{z v:α}(hσ:σ.s=kc s r l)(h:iR s r l)(hz:sz=bz.w α)(hr:(l.length+1)*by'<=room)
 (hK:∀s' r',Sub s s'->iR s' r' (l++[v])->K ({σ with s:=kc s' r' (l++[v])}.put d (jG r' (l.length+1)))):
 eP sz by' (bz.cells z) σ d K (jG r l.length) (some (1,bz.cells v)):=by
 subst hz
 have hcz:(bz.cells z).length=bz.w α:=bz.len z
 have hcv:flat [v]=bz.cells v:=Xd4
 have hvz:views (bz.cells z)=bz.cells z:=bz.vw z
 have fresh:∀(s':ae)(b' dw:Nat),s' b'=none->l.length+1<=dw->iR s' (some (b',dw,flat (List.replicate (dw -(l.length+1)) z))) (l++[v]):=fun s' b' dw hb hc=>by
  refine⟨hb,AT,A_,?_,bt _⟩
  rw[List.length_append,a8,a8,List.length_replicate,List.length_append,<-Nat.add_mul]
  grind
 cases r with
 |none=>
  obtain rfl:l=[]:=h
  show eP (bz.w α) by' (bz.cells z) σ d K (.arr 0 0 0 0) _
  refine fP hcz (olds:=[]) rfl B_ hr fun b' dw hb' hc=>?_
  rw[List.nil_append,<-jl,<-hcv]
  rw[hσ]at hb'⊢
  have:=hK s (some (b',dw,flat (List.replicate (dw -(0+1)) z))) (Sub.refl s) (fresh s b' dw hb' hc)
  exact this
 |some x=>
  obtain⟨b,cap,sp⟩:=x
  obtain⟨h1,h2,h3,h4,h5⟩:=h
  have hs:σ.s b=some (.cells (flat l++sp)):=Xa8
  show eP (bz.w α) by' (bz.cells z) σ d K (.arr b 0 l.length cap) _
  by_cases hc:l.length+1<=cap
  ·refine pg hcz hs A_ hc ?_
   have hsp:[v].length*bz.w α<=sp.length:=by
    rw[List.length_append,a8]at h4
    have:(l.length+1)*bz.w α<=cap*bz.w α:=Nat.mul_le_mul_right _ hc
    rw[Nat.add_mul,Nat.one_mul]at this
    simp;omega
   have st:=Dk l [v] sp (bz.w α) rfl hsp
   rw[Nat.zero_add,<-hcv,st]
   have e:σ.s.set b (.cells (flat (l++[v])++sp.drop ([v].length*bz.w α)))=kc s (some (b,cap,sp.drop ([v].length*bz.w α))) (l++[v]):=by
    rw[hσ]
    show(s.set b _).set b _=s.set b _
    exact set_set ..
   rw[e]
   refine hK s _ (Sub.refl s) ⟨h1,h2,A_,?_,?_⟩
   ·grind [List.length_append,a8,List.length_drop,Nat.add_mul]
   grind [views,List.map_drop]
  ·refine fP hcz (uF hs (by
    grind)) AT hr fun b' dw hb' hc'=>?_
   have ho:views (AB.sub (flat l++sp) 0 (l.length*bz.w α))=flat l:=by
    have:=pH l sp (bz.w α) 0 l.length rfl AT
    rw[Nat.zero_mul]at this
    rw[this,List.drop_zero,List.take_length,bt]
   rw[ho,<-jl,<-hcv,<-fq]
   rw[hσ]at hb'⊢
   have hb0:(s.set b (.cells (flat l++sp))) b'=none:=hb'
   exact hK (s.set b (.cells (flat l++sp))) (some (b',dw,flat (List.replicate (dw -(l.length+1)) z))) ((Sub.refl s).set h1) (fresh _ b' dw hb0 hc')
def QF{s:ae}{r:db}{l:List α}(h:iR s r l)(hl:0<l.length):∃b cap sp,r=some (b,cap,sp):=by
 cases r with
 |none=>rw[show l=[] from h]at hl;simp at hl
 |some x=>grind
def Lv{σ:St}{d:Option Nat}{K:St->Prop}{sz:Nat}{s:ae}{r:db}{l:List α}(hσ:σ.s=kc s r l)(h:iR s r l)(hz:sz=bz.w α)
 (hK:K ({σ with s:=s}.put d (.sl true sz l.length (flat l)))):tc sz true σ d K (jG r l.length):=by
 subst hz
 cases r with
 |none=>
  obtain rfl:l=[]:=h
  show tc (bz.w α) true σ d K (.arr 0 0 0 0)
  refine .inl ⟨rfl,rfl,rfl,?_⟩
  have e:{σ with s:=s}=σ:=by
   have:σ.s=s:=hσ
   rw[<-this]
  rw[e]at hK
  exact hK
 |some x=>
  obtain⟨b,cap,sp⟩:=x
  obtain⟨h1,h2,h3,h4,h5⟩:=h
  have hs:σ.s b=some (.cells (flat l++sp)):=Xa8
  show tc (bz.w α) true σ d K (.arr b 0 l.length cap)
  refine .inr ⟨h2,h3,fun _=>⟨rfl,?_,?_⟩,?_⟩
  ·rw[hs];show 0+cap*bz.w α<=_;grind
  ·rw[hs];show _=0+cap*bz.w α;grind
  ·have ho:views (AB.sub (flat l++sp) 0 (l.length*bz.w α))=flat l:=by
    have:=pH l sp (bz.w α) 0 l.length rfl AT
    rw[Nat.zero_mul]at this
    rw[this,List.drop_zero,List.take_length,bt]
   rw[hs]
   show tc.frzK _ _ σ d K b l.length (bif decide (0+l.length*bz.w α<=(flat l++sp).length)then some (l.length,views (AB.sub (flat l++sp) 0 (l.length*bz.w α)))else none)
   rw[decide_eq_true (by rw[Nat.zero_add,h4];exact Nat.mul_le_mul_right _ h3),ho]
   have e:σ.s.del b=s:=by
    rw[hσ]
    exact po h1
   show K ({σ with s:=σ.s.del b}.put d (.sl true _ l.length (flat l)))
   grind
end
end Go.AB
end
