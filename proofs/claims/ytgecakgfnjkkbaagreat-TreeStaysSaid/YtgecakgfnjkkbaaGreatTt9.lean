/- A part. -/
import Derived.Test.YtgecakgfnjkkbaaGreatTt8
import Derived.ProofKit
set_option linter.defProp false
set_option linter.unusedSimpArgs false
set_option linter.unusedVariables false
section
namespace Go.AB
open Go
def kP(off:Nat):AV->AV
 |.loc cs=>.loc (match cs[off]? with|some (.sl _ sz n ds)=>setAt cs off [.sl false sz n ds]|_=>cs)
 |a=>a
def Qk(o:ar)(E:St):St:=match o.op with
 |.oU true x=>E.drain x
 |.store _ _ x=>E.drain x
 |.append _ _ x _=>E.drain x
 |.nw off (.t i) _=>{E with e:=(i,kP off (look E.e i))::E.e}
 |_=>E
def dz(o:ar)(i:Nat)(a:AV):AV:=if jI o i=true then(match o.op with|.nw off _ _=>kP off a|_=>view a)else a
theorem EC(off:Nat)(a:AV):bI (kP off a)=bI a:=by cases a<;>rfl
theorem HU{off:Nat}{a:AV}{c:Nat}(h:bP (kP off a) c):bP a c:=by cases a<;>first|exact h|exact h.elim
theorem Md(off:Nat)(a:AV):view (kP off a)=kP off (view a):=by cases a<;>rfl
theorem vb(cs:List AV)(off:Nat)(x:AV)(h:off<cs.length)(j:Nat):(setAt cs off [x])[j]? =if j=off then some x else cs[j]? :=by
 unfold setAt
 grind
theorem oF(off:Nat)(cs:List AV)(j:Nat):(match cs[off]? with|some (.sl _ sz n ds)=>setAt cs off [.sl false sz n ds]|_=>cs)[j]? =if j=off then(cs[j]?).map (fun a=>match a with|.sl _ sz n ds=>.sl false sz n ds|a=>a)else cs[j]? :=by grind [List.getElem?_eq_some_iff,setAt,vb]
theorem Kn(o1 o2:Nat)(a:AV):kP o1 (kP o2 a)=kP o2 (kP o1 a):=by
 cases a<;>first|rfl|skip
 show AV.loc _=AV.loc _
 congr 1
 apply List.ext_getElem?
 intro j
 rw[oF,oF,oF,oF]
 grind
def cH(E:St)(o:ar)(v:AV):St:=(cq (Qk o E) v (rB o)).put (rB o) v
def P4(sz bytes:Nat)(v:AV):AV->AV->Prop
 |.sl true s n cs,.sl _ s' m ds=>s=sz/\(s'=sz\/m=0)/\(n+m)*bytes<=room/\v=.sl true sz (n+m) (cs++views ds)
 |.sl true s n cs,.str ds=>s=sz/\sz=1/\(n+ds.length)*bytes<=room/\v=.sl true sz (n+ds.length) (cs++ds.map fun c=>.int .u8 c.toNat)
 |_,_=>False
def aaP{sz bytes:Nat}{E:St}{x:IX}{d:Option Nat}{K:St->Prop}{a b:AV}(h:mF sz bytes E x d K a b):∃v,P4 sz bytes v a b/\K ((E.drain x).put d v):=by
 unfold mF at h
 split at h
 ·obtain⟨h1,h2,h3,h4⟩:=h;exact⟨_,⟨h1,h2,h3,rfl⟩,h4⟩
 ·obtain⟨h1,h2,h3,h4⟩:=h;exact⟨_,⟨h1,h2,h3,rfl⟩,h4⟩
 grind
def aaO{sz bytes:Nat}{E:St}{x:IX}{d:Option Nat}{K:St->Prop}{a b v:AV}(h:P4 sz bytes v a b)(hk:K ((E.drain x).put d v)):mF sz bytes E x d K a b:=by
 unfold P4 at h
 split at h
 ·obtain⟨h1,h2,h3,h4⟩:=h;subst h4;exact⟨h1,h2,h3,hk⟩
 ·obtain⟨h1,h2,h3,h4⟩:=h;subst h4;exact⟨h1,h2,h3,hk⟩
 grind
def HB{sz bytes:Nat}{a b v:AV}(h:P4 sz bytes v a b):∃n cs,v=.sl true sz n cs:=by
 unfold P4 at h
 grind
inductive Y2(P:Program)(E:St):ar->AV->Prop where
 |fX (o:ar) (v:AV) (h0:T6 o.op=false) (hf:bg E o.dst=true) (hv:bI v=true) (h:Y P E o v):Y2 P E o v
 |sto (n c:Nat) (x:IX) (fX:List AV) (h0:look E.e c=.loc fX) (h1:fX.length=n) (h2:dJ (E.x x)=true) (h3:(bB (E.x x)).length=n):Y2 P E ⟨none,.store n (.t c) x,none⟩ (.loc (bB (E.x x)))
 |alo (d:Nat) (z:List AV) (h0:bI (look E.e d)=true) (h1:mf E.lp (some d)=true):Y2 P E ⟨some d,.j7 z,none⟩ (.loc z)
 |app (d sz bytes:Nat) (x y:IX) (v:AV) (h0:bI (look E.e d)=true) (h1:P4 sz bytes v (E.x x) (E.x y)):Y2 P E ⟨some d,.append sz bytes x y,none⟩ v
 |lod (d off i:Nat) (x:IX) (cs:List AV) (o:Bool) (s m:Nat) (ds:List AV) (h0:bI (look E.e d)=true) (h1:E.x x=.lp i off) (h2:look E.e i=.loc cs) (h3:cs[off]? =some (.sl o s m ds)) (h4:d≠i):Y2 P E ⟨some d,.nw off (.t i) x,none⟩ (.sl o s m ds)
def TJ(o:ar):Option Nat:=match o with
 |⟨none,.store _ (.t c) _,none⟩=>some c
 |⟨some d,.j7 _,none⟩=>some d
 |_=>none
section
variable{P:Program}{G G':Gh}{n:Nat}{D:List Deferred}{E E':St}{a:Act}{w w':World}{T:List Nat}
theorem PT{o:ar}(h:T6 o.op=false):rB o=o.dst:=by
 obtain⟨d,op,g⟩:=o
 cases op<;>first|(cases h;done)|(cases d<;>rfl)
theorem Wv{o:ar}(h:T6 o.op=false):Qk o E=dr o E:=by
 obtain⟨d,op,g⟩:=o
 cases op<;>first|(cases h;done)|rfl|skip
 rename_i b x
 cases b<;>rfl
theorem Hh{o:ar}{v:AV}(h:T6 o.op=false):cH E o v=step E o v:=by grind [cH,step,PT,Wv]
def IU{o:ar}{K:St->Prop}(h:q2 P o E K):∃v,Y2 P E o v/\K (cH E o v):=by
 unfold q2 at h
 split at h
 ·rename_i m c x
  cases hl:look E.e c<;>rw[hl]at h<;>first|(exact h.elim)|skip
  rename_i fX
  obtain⟨h1,h2,h3,h4⟩:=h
  exact⟨_,.sto m c x fX hl h1 h2 h3,h4⟩
 ·rename_i d z
  exact⟨_,.alo d z h.1 h.2.1,h.2.2⟩
 ·rename_i d sz bytes x y
  obtain⟨v,h1,h2⟩:=aaP h.2
  refine⟨v,.app d sz bytes x y v h.1 h1,?_⟩
  obtain⟨m,cs,rfl⟩:=HB h1
  exact h2
 ·rename_i d off i x
  obtain⟨k0,k1,k2⟩:=h
  have k1':∃i' o',E.x x=.lp i' o'/\i'=i/\o'=off:=by
   unfold C8 at k1
   split at k1
   ·grind
   ·cases k1
  obtain⟨i',o',e1,rfl,rfl⟩:=k1'
  rw[e1]at k2
  have k2:(match look E.e i' with
   |.loc cs=>some d≠some i'/\sN o' cs fun cs' a=>K ((E.put (some i') (.loc cs')).put (some d) a)
   |_=>False):=k2
  cases hl:look E.e i'<;>rw[hl]at k2<;>first|(exact k2.elim)|skip
  rename_i cs
  obtain⟨k3,k4⟩:=k2
  unfold sN at k4
  split at k4
  ·rename_i o s m ds hc
   refine⟨.sl o s m ds,.lod d o' i' x cs o s m ds k0 e1 hl hc (fun e=>k3 (by rw[e])),?_⟩
   have e2:cH E ⟨some d,.nw o' (.t i') x,none⟩ (.sl o s m ds)=(E.put (some i') (.loc (setAt cs o' [.sl false s m ds]))).put (some d) (.sl o s m ds):=by
    unfold cH Qk
    simp only[hl,kP,hc]
    rfl
   grind
  grind
 ·exact h.elim
 ·exact h.elim
 ·exact h.elim
 ·exact h.elim
 ·have h0:T6 o.op=false:=by
   obtain⟨d,op,g⟩:=o
   cases op<;>first|rfl|grind|grind|grind|grind
  obtain⟨v,q1,q2,q3⟩:=NS h.2
  exact⟨v,.fX o v h0 h.1 q1 q2,by grind [Hh]⟩
theorem ub(x:IX)(i:Nat):look (E.drain x).e i=if(match x with|.t j=>j==i|.c _=>false)=true then view (look E.e i)else look E.e i:=by
 cases x with
 |c a=>rfl
 |t j=>
  show look ((j,view (look E.e j))::E.e) i=_
  grind [bj]
theorem T7(o:ar)(i:Nat):look (Qk o E).e i=dz o i (look E.e i):=by
 obtain⟨d,op,g⟩:=o
 cases op<;>first|rfl|skip
 case oU b x=>
  cases b with
  |false=>rfl
  |true=>
   show look (E.drain x).e i=_
   rw[ub]
   cases x<;>rfl
 case store m p x=>
  show look (E.drain x).e i=_
  rw[ub]
  cases x<;>rfl
 case append sz bytes x y=>
  show look (E.drain x).e i=_
  rw[ub]
  cases x<;>rfl
 case nw off j x=>
  cases j with
  |c a=>rfl
  |t j=>
   show look ((j,kP off (look E.e j))::E.e) i=if(j==i)=true then kP off (look E.e i)else look E.e i
   grind [bj]
def HV(x:IX):(E.drain x).s=E.s/\(E.drain x).lp=E.lp:=by cases x<;>exact⟨rfl,rfl⟩
theorem Zu(o:ar):(Qk o E).s=E.s/\(Qk o E).lp=E.lp:=by
 unfold Qk
 split
 ·exact HV _
 ·exact HV _
 ·exact HV _
 ·grind
 grind
theorem ez(o:ar)(v:AV)(i:Nat):look (cH E o v).e i=if rB o=some i then v else dz o i (look E.e i):=by
 unfold cH
 rw[<-T7]
 cases hd:rB o with
 |none=>grind [St.put,jL,Qk]
 |some d=>
  show look ((d,v)::(cq (Qk o E) v (some d)).e) i=_
  grind [bj,jL,Qk]
theorem pW(o:ar)(v:AV):(cH E o v).s=E.s:=by
 unfold cH
 have:∀(τ:St) d x,(τ.put d x).s=τ.s:=fun τ d x=>IF
 grind [jL,Qk,rB,Zu]
theorem mW(o:ar)(v:AV)(x:Nat×Nat):x∈(cH E o v).lp↔(x∈E.lp\/∃i,rB o=some i/\x.1=i/\bP v x.2):=by
 have h1:(cH E o v).lp=(cq (Qk o E) v (rB o)).lp:=by unfold cH;cases rB o<;>rfl
 grind [Zu,Dn,rB]
def wF(T:List Nat)(E:St):Prop:=∀i c,c∈T->¬bP (look E.e i) c
def zU(T:List Nat)(o:ar)(v:AV):Prop:=∀i,rB o=some i->∀c,c∈T->¬bP v c
def Xg(T:List Nat)(o:ar):Prop:=∀c,TJ o=some c->c∈T
def Lk:∀{c:Nat}{a:AV},mS c a=true->¬bP a c
 |c,.lp t o,h=>fun e=>by
  subst e
  have h':(!Nat.beq t t)=true:=h
  simp_all
 |c,.when b a,h=>Lk (a:=a) h
 |_,.undef,_|_,.bool _,_|_,.int _ _,_|_,.str _,_|_,.fN,_|_,.ref _ _,_|_,.sp _,_|_,.loc _,_|_,.sl _ _ _ _,_|_,.arr _ _ _ _,_|_,.agg _,_|_,.jg _,_|_,.fn _ _ _,_|_,.py,_|_,.mp _,_|_,.ud,_|_,.us _ _ _,_|_,.one,_|_,.oy _,_|_,.ml,_|_,.bb _ _ _,_=>fun h=>h
def GI:∀{T:List Nat}{a:AV},xi T a=true->∀c,c∈T->¬bP a c
 |c'::T,a,h,c,hc=>by
  have h':(mS c' a&&xi T a)=true:=h
  rw[Bool.and_eq_true]at h'
  rcases List.mem_cons.1 hc with rfl|hc
  ·exact Lk h'.1
  ·exact GI h'.2 c hc
def oW:∀{e:List (Nat×AV)},ku T e=true->∀i c,c∈T->¬bP (look e i) c
 |[],_,i,c,_=>fun h=>h
 |(j,a)::e,h,i,c,hc=>by
  have h':(xi T a&&ku T e)=true:=h
  rw[Bool.and_eq_true]at h'
  rw[bj]
  split
  ·exact GI h'.1 c hc
  ·exact oW h'.2 i c hc
theorem Oh{v:AV}{c:Nat}(h:bP (view v) c):bP v c:=by cases v<;>first|exact h|exact h.elim
def Ss{o:ar}{i:Nat}{a:AV}{c:Nat}(h:bP (dz o i a) c):bP a c:=by grind [dz,HU,Oh]
def Qm(o:ar)(i:Nat)(a:AV):bI (dz o i a)=bI a:=by grind [dz,EC,Lt]
theorem F0{o:ar}{i:Nat}{a:AV}(h:¬jI o i=true):dz o i a=a:=if_neg h
def Wx(x y:ar)(i:Nat)(a:AV):dz x i (dz y i a)=dz y i (dz x i a):=by
 unfold dz
 grind [Kn,Md]
theorem IY(m off o:Nat)(a:AV):l6 m off (kP o a)=l6 m off a:=by
 cases a<;>first|rfl|skip
 rename_i cs
 have hv:views (match cs[o]? with|some (.sl _ sz n ds)=>setAt cs o [.sl false sz n ds]|_=>cs)=views cs:=by
  apply List.ext_getElem?
  intro j
  rw[fh,fh,oF]
  by_cases hj:j=o
  ·rw[if_pos hj]
   cases cs[j]? with
   |none=>rfl
   |some b=>cases b<;>rfl
  ·grind
 show fP m off _=fP m off cs
 grind [setAt,fP,views,AB.sub,List.map_take,List.map_drop]
def UU(m off:Nat)(o:ar)(i:Nat)(a:AV):l6 m off (dz o i a)=l6 m off a:=by grind [dz,IY,DM]
def sB{o:ar}{v:AV}(h:wF T E)(hs:zU T o v):wF T (cH E o v):=fun i c hc=>by
 rw[ez]
 split
 ·rename_i ht;exact hs i ht c hc
 ·exact fun hh=>h i c hc (Ss hh)
def zW{o:ar}{v:AV}(h:wF T (cH E o v)):zU T o v:=fun i hi c hc=>by
 have:=h i c hc
 rw[ez,if_pos hi]at this
 exact this
def UX{o:ar}{v:AV}(hy:Y2 P E o v)(p:AV)(m:Nat)(hp:∀c,TJ o=some c->¬bP p c):rd (cH E o v) p m=rd E p m:=by
 cases p<;>try rfl
 ·rename_i b off
  show rj m off ((cH E o v).s b)=rj m off (E.s b)
  rw[pW]
 ·rename_i d off
  show l6 m off (look (cH E o v).e d)=l6 m off (look E.e d)
  rw[ez]
  by_cases hd:rB o=some d
  ·rw[if_pos hd]
   cases hy with
   |fX _ _ h0 hf hv h=>
    rw[PT h0]at hd
    rw[hd]at hf
    rw[kz hv]
    exact(kz hf m off).symm
   |sto m' c x fX h0 h1 h2 h3=>
    have e:=hd
    injection e with e
    subst e
    exact(hp c rfl rfl).elim
   |alo d' z h0 h1=>
    have e:=hd
    injection e with e
    subst e
    exact(hp d' rfl rfl).elim
   |app d' sz bytes x y _ h0 h1=>
    have e:=hd
    injection e with e
    obtain⟨k,cs,rfl⟩:=HB h1
    rw[kz rfl]
    grind [kz]
   |lod d' Up i x cs o s m' ds h0 h1 h2 h3 h4=>
    have e:=hd
    injection e with e
    rw[kz rfl]
    grind [kz]
  ·rw[if_neg hd]
   exact UU ..
def afh{o:ar}(h:cOK o=true){a:AV}(ha:IX.c a∈eW o.op)(c:Nat):¬bP a c:=by
 have:=List.all_eq_true.1 h _ ha
 cases a<;>first|exact fun h=>h|grind
def Rt{g:Bool}:∀{a:AV}{c:Nat},bP (vi g a) c->bP a c:=by
 intro a c h
 cases a
 case when b a=>
  have h':bP (bif(b==g||b)&&inner a then a else AV.undef) c:=h
  cases hb:((b==g||b)&&inner a)<;>rw[hb]at h'
  ·exact h'.elim
  ·exact h'
 all_goals exact h
def VM{o:ar}(hc:cOK o=true)(h:wF T E){x:IX}(hx:x∈eW o.op)(g:Bool){c:Nat}(ht:c∈T):¬bP (xg g E x) c:=fun hh=>by
 have h':=Rt hh
 cases x with
 |c a=>exact afh hc hx c h'
 |t i=>exact h i c ht h'
def uF{o y:ar}{v:AV}(hy:Y2 P E y v)(hn:iM (rB y) (cG o)=true)(hdr:AZ y o=true)(hc:cOK o=true)(hN:wF T E)(hT:Xg T y):JN o E (cH E y v):=by
 have key:∀i,i∈cG o->look (cH E y v).e i=look E.e i:=by
  intro i hi
  have h1:¬jI y i=true:=by
   have:=List.all_eq_true.1 hdr i hi
   simpa using this
  rw[ez,if_neg,F0 h1]
  intro hd
  rw[hd]at hn
  simp[iM]at hn
  exact hn hi
 refine⟨fun x hx=>?_,fun t want hg=>?_,(pW y v).symm,fun x hx g m=>(UX hy _ m fun c hc'=>VM hc hN hx g (hT c hc')).symm⟩
 ·cases x with
  |c a=>rfl
  |t i=>exact(key i (List.mem_append_right _ (iL hx))).symm
 ·exact(key t (List.mem_append_left _ Xc5)).symm
def Y2.Mt{o:ar}{v:AV}(hy:Y2 P E o v)(h:JN o E E')(hf:∀i,o.dst=some i->bI (look E'.e i)=bI (look E.e i))(hl:∀i,TJ o=some i->mf E.lp (some i)=true->mf E'.lp (some i)=true):Y2 P E' o v:=by
 cases hy with
 |fX _ _ h0 hs hv h1=>
  refine .fX o v h0 ?_ hv (h1.Mt h)
  cases hd:o.dst with
  |none=>rfl
  |some i=>
   rw[hd]at hs
   show bI (look E'.e i)=true
   rw[hf i hd];exact hs
 |sto m c x fX h0 h1 h2 h3=>
  have e1:look E.e c=look E'.e c:=h.xs (.t c) QD
  have e2:=h.xs x QD
  rw[e2]at h2 h3⊢
  exact .sto m c x fX A_ h1 h2 h3
 |alo d z h0 h1=>exact .alo d z A_ (hl d rfl h1)
 |app d sz bytes x y _ h0 h1=>
  have e1:=h.xs x QD
  have e2:=h.xs y QD
  exact .app d sz bytes x y v A_ A_
 |lod d off i x cs o s m ds h0 h1 h2 h3 h4=>
  have e1:=h.xs x QD
  have e2:look E.e i=look E'.e i:=h.xs (.t i) QD
  exact .lod d off i x cs o s m ds A_ A_ A_ h3 h4
theorem lZ.cH(h:lZ E E')(o:ar)(v:AV):lZ (AB.cH E o v) (AB.cH E' o v):=⟨fun i=>by rw[ez,ez,h.e],fun x=>by rw[mW,mW,h.lp],by rw[pW,pW,h.s]⟩
def mR{l l':List (Nat×Nat)}{i:Nat}(h:∀x∈l',x.2=i->x∈l)(hf:mf l (some i)=true):mf l' (some i)=true:=by
 refine List.all_eq_true.2 fun x hx=>?_
 cases hb:Nat.beq x.2 i with
 |false=>rfl
 |true=>
  have:=List.all_eq_true.1 hf x (h x hx (Nat.eq_of_beq_eq_true hb))
  grind
def Y2.eqv{o:ar}{v:AV}(hy:Y2 P E o v)(h:lZ E E'):Y2 P E' o v:=hy.Mt (h.Mt o) (fun i _=>by rw[h.e]) fun i _ hf=>mR (fun x hx _=>(h.lp x).2 hx) hf
def D4{x y:ar}{u v:AV}(hne:∀i j,rB x=some i->rB y=some j->i≠j)(hxy:∀i,rB y=some i->jI x i=false)(hyx:∀i,rB x=some i->jI y i=false):lZ (cH (cH E x u) y v) (cH (cH E y v) x u):=
 ⟨fun i=>by
   rw[ez,ez,ez,ez]
   by_cases h1:rB y=some i
   ·by_cases h2:rB x=some i
    ·grind
    ·rw[if_pos h1,if_neg h2,if_pos h1,F0 A_]
   ·by_cases h2:rB x=some i
    ·rw[if_neg h1,if_pos h2,if_pos h2,F0 A_]
    ·rw[if_neg h1,if_neg h2,if_neg h2,if_neg h1]
     exact Wx _ _ _ _,fun z=>by
   grind [mW],by grind [pW]⟩
theorem Q7{fX news:List AV}(h:news.length=fX.length):setAt fX 0 news=news:=by
 unfold setAt
 grind
theorem WO(d sz bytes:Nat)(x y:IX)(K:St->Prop):Mi P ⟨some d,.append sz bytes x y,none⟩ E K=mF sz bytes E x (some d) K (E.x x) (E.x y):=D_
theorem Y2.run(h:Inv G n D E a w){ops:Array Oper}{o:Oper}{o':ar}{v:AV}(hc:iU P n ops o o'=true)(hy:Y2 P E o' v){next:Act->World->Prop}{Q:Exit->Act->World->Prop}
 (hn:∀G' a' w',Inv G' n D (cH E o' v) a' w'->aI G w G' w'->next a' w'):BD P ops o a w next Q:=by
 have gen:Mi P o' E (fun τ=>τ=cH E o' v)->BD P ops o a w next Q:=fun hg=>iq h hc hg fun G' E' a' w' h1 h2 h3=>A_
 cases hy with
 |fX _ _ h0 _ _ h1=>exact h1.run h hc fun G' a' w' k1 k2=>hn G' a' w' (by grind [Hh]) k2
 |sto m c x fX h0 h1 h2 h3=>
  refine gen ?_
  refine⟨h2,h3,?_⟩
  have e:FM (E.drain x) (E.x (.t c)) (.t c) (bB (E.x x))=some ((E.drain x).put (some c) (.loc (bB (E.x x)))):=by
   have e1:E.x (.t c)=.loc fX:=h0
   rw[e1]
   show wrL (E.drain x) c (eU 0 (bB (E.x x)) fX)=_
   unfold eU
   rw[decide_eq_true AT,Q7 AT]
   rfl
  rw[e]
  rfl
 |alo d z h0 h1=>exact gen ⟨h1,rfl⟩
 |app d sz bytes x y _ h0 h1=>
  refine gen ?_
  rw[WO]
  refine aaO h1 ?_
  obtain⟨k,cs,rfl⟩:=HB h1
  rfl
 |lod d off i x cs o s m ds h0 h1 h2 h3 h4=>
  refine gen ?_
  show C8 (.t i) off (E.x x)=true/\qj E (some d) _ (E.x x)
  rw[h1]
  refine⟨by simp[C8],?_⟩
  show match look E.e i with|.loc cs=>some d≠some i/\sN off cs _|_=>False
  rw[h2]
  refine⟨fun e=>h4 A_,?_⟩
  unfold sN
  unfold cH Qk
  simp[h2,kP,h3]
  rfl
theorem LI{ops:Array Oper}{Q:Exit->Act->World->Prop}{K:St->Prop}(G₀:Gh)(w₀:World)
 (hn:∀G' E' a' w',Inv G' n D E' a' w'->aI G₀ w₀ G' w'->K E'->Q .normal a' w'):∀(q:Nat)(l:List Oper)(l':List ar)(G:Gh)(E:St)(a:Act)(w:World),cJ P n ops l l'=true->Inv G n D E a w->aI G₀ w₀ G w->E2 P T q l' E K->wpList P ops Q l a w
 |0,l,l',G,E,a,w,hc,h,hp,hk=>ry G₀ w₀ hn l l' G E a w hc h hp hk
 |_+1,[],[],G,E,a,w,_,h,hp,hk=>hn G E a w h hp hk
 |q+1,o::l,o'::l',G,E,a,w,hc,h,hp,hk=>by
  simp[cJ,Bool.and_eq_true]at hc
  obtain⟨v,hy,hk⟩:=IU hk
  exact hy.run h hc.1 fun G' a' w' h1 h2=>LI G₀ w₀ hn q l l' G' _ a' w' hc.2 h1 (hp.trans h2) hk.2
 |_+1,[],_::_,_,_,_,_,hc,_,_,_=>by simp[cJ]at hc
 |_+1,_::_,[],_,_,_,_,hc,_,_,_=>by simp[cJ]at hc
def rK(P:Program)(T:List Nat):St->te->Prop
 |_,[]=>True
 |E,(_,o,v)::r=>Y2 P E o v/\zU T o v/\Xg T o/\rK P T (cH E o v) r
def KA:St->te->St
 |E,[]=>E
 |E,(_,o,v)::r=>KA (cH E o v) r
def rK.eqv:∀{p:te}{E E':St},lZ E E'->rK P T E p->rK P T E' p
 |[],_,_,_,_=>trivial
 |(_,o,v)::r,_,_,h,⟨h1,h2,h3,h4⟩=>⟨h1.eqv h,h2,h3,rK.eqv (h.cH o v) h4⟩
def KB:∀(p:te){E E':St},lZ E E'->lZ (KA E p) (KA E' p)
 |[],_,_,h=>h
 |(_,o,v)::r,_,_,h=>KB r (h.cH o v)
theorem tE{o:ar}{i:Nat}(h:jI o i=true):i∈cG o:=by
 unfold jI at h
 split at h
 ·rename_i j hop
  have:j=i:=A_
  subst this
  refine List.mem_append_right _ ?_
  rw[hop];exact List.mem_cons_self
 ·rename_i m p j hop
  have:j=i:=A_
  subst this
  refine List.mem_append_right _ ?_
  rw[hop]
  cases p with
  |t k=>exact List.mem_cons_of_mem _ List.mem_cons_self
  |c k=>exact List.mem_cons_self
 ·rename_i sz bytes j y hop
  have:j=i:=A_
  subst this
  refine List.mem_append_right _ ?_
  rw[hop];exact List.mem_cons_self
 ·rename_i off j x hop
  have:j=i:=A_
  subst this
  refine List.mem_append_right _ ?_
  rw[hop];exact List.mem_cons_self
 ·cases h
def JT{x y:ar}(h:Y7 x y=true):iM (rB x) (cG y)=true/\iM (rB y) (cG x)=true/\(∀i j,rB x=some i->rB y=some j->i≠j)/\AZ x y=true/\AZ y x=true/\(∀i,rB y=some i->jI x i=false)/\(∀i,rB x=some i->jI y i=false)/\cOK x=true/\cOK y=true:=by
 unfold Y7 at h
 grind [iM,jI,absurd,tE]
theorem uK{o:ar}{i:Nat}(h:o.dst=some i):rB o=some i:=by
 obtain⟨d,op,g⟩:=o
 have h':=h
 subst h'
 cases op<;>rfl
def lP{y:ar}{v:AV}{i:Nat}(h:rB y≠some i):bI (look (cH E y v).e i)=bI (look E.e i):=by
 rw[ez,if_neg h]
 exact Qm _ _ _
def aab{x:Nat×ar×AV}:∀(pre:te)(post:te)(E:St),wF T E->(∀y∈pre,Y7 y.2.1 x.2.1=true)->rK P T E (pre++x::post)->
 Y2 P E x.2.1 x.2.2/\zU T x.2.1 x.2.2/\Xg T x.2.1/\rK P T (cH E x.2.1 x.2.2) (pre++post)/\lZ (KA (cH E x.2.1 x.2.2) (pre++post)) (KA E (pre++x::post))
 |[],post,E,_,_,h=>⟨h.1,h.2.1,h.2.2.1,h.2.2.2,lZ.refl _⟩
 |(k,o,v)::pre,post,E,hN,hap,h=>by
  obtain⟨h1,h2,h3,h4⟩:=h
  obtain⟨i1,i2,i3,i4,i5⟩:=aab pre post (cH E o v) (sB hN h2) (fun y hy=>hap y (List.mem_cons_of_mem _ hy)) h4
  obtain⟨a1,a2,a3,a4,a5,a6,a7,c1,c2⟩:=JT (hap (k,o,v) List.mem_cons_self)
  have hx:=i1.Mt (uF h1 a1 a4 c2 hN h3).symm
   (fun i hi=>(lP fun e=>a3 i i e (uK hi) rfl).symm)
   (fun i hi hf=>mR (fun z hz _=>(mW o v z).2 (.inl hz)) hf)
  have ho:=h1.Mt (uF hx a2 a5 c1 hN i3)
   (fun i hi=>lP fun e=>a3 i i (uK hi) e rfl)
   (fun i hi hf=>mR (fun z hz hzi=>by
     rcases(mW _ _ z).1 hz with hz|⟨j,j1,_,j3⟩
     ·exact hz
     ·rw[hzi]at j3;exact(i2 j j1 i (h3 i hi) j3).elim) hf)
  have Gj:lZ (cH (cH E o v) x.2.1 x.2.2) (cH (cH E x.2.1 x.2.2) o v):=D4 a3 a6 a7
  refine⟨hx,i2,i3,⟨ho,h2,h3,i4.eqv Gj⟩,?_⟩
  exact(KB (pre++post) Gj.symm).trans i5
end
section
variable{P:Program}{G G':Gh}{n:Nat}{D:List Deferred}{E E':St}{a:Act}{w w':World}{ops:Array Oper}{bR:List ar}{q:Nat}{T:List Nat}
def Qb{l:List ar}{o:ar}(h:R8 T bR q=true)(hl:l=bR.take q)(ho:o∈l):Xg T o:=fun c hc=>by
 subst hl
 have:=List.all_eq_true.1 h o ho
 grind [TJ]
def GZ{K:St->Prop}:∀(q:Nat)(l:List ar)(E:St)(k:Nat),q<=l.length->(∀o∈l.take q,Xg T o)->E2 P T q l E K->∃vs:List AV,vs.length=q/\rK P T E (mk k l vs)/\swp P (l.drop q) (KA E (mk k l vs)) K
 |0,l,E,k,_,_,h=>⟨[],rfl,by cases l<;>trivial,by cases l<;>exact h⟩
 |q+1,[],_,_,hl,_,_=>by grind
 |q+1,o::l,E,k,hl,hT,h=>by
  obtain⟨v,hy,hno,hk⟩:=IU (h)
  obtain⟨vs,h2,h3,h4⟩:=GZ q l (cH E o v) (k+1) A_ (fun o' ho'=>hT o' A_) hk
  exact⟨v::vs,A_,⟨hy,zW fun i c hc=>oW hno i c hc,hT o BY,h3⟩,h4⟩
def Q5{Q:Exit->Act->World->Prop}(G₀:Gh)(w₀:World)(f:Nat)(hc:cJ P n ops ops.toList bR=true)(hq:q<=ops.size)(h1:OD ops q=true)(h2:FY ops q=true)(h3:R9 ops q bR=true)(h4:q<ops.size->Region.ready .any ops (qt ops.size q)=[q]):
 ∀(m:Nat)(kX:te),kX.length=m->∀(aV:Array Bool)(E:St),Good ops bR q kX aV->wF T E->rK P T E kX->
  (∀G a w,Inv G n D (KA E kX) a w->aI G₀ w₀ G w->wpAny P .any ops Q f (qt ops.size q) a w)->∀(G:Gh)(a:Act)(w:World),Inv G n D E a w->aI G₀ w₀ G w->wpAny P .any ops Q (m+f) aV a w:=by
 intro m
 induction m with
 |zero=>
  intro kX hp aV E hg _ _ hT G a w h hpr
  have:kX=[]:=List.eq_nil_of_length_eq_zero hp
  subst this
  rw[PW hg,Nat.zero_add]
  exact hT G a w h hpr
 |succ m ih=>
  intro kX hp aV E hg hNo hch hT G a w h hpr
  obtain⟨hlen,kj⟩:=gC _ _ hc
  rw[show m+1+f=(m+f)+1 by omega]
  refine⟨fun h0=>?_,fun i hi=>?_⟩
  ·
   cases kX with
   |nil=>simp at hp
   |cons x kX=>
    obtain⟨k,o,v⟩:=x
    obtain⟨u1,u2,u3⟩:=hg.un k o v List.mem_cons_self
    have Ig:k∈Region.ready .any ops aV:=by
     have hk:k<ops.size:=AT
     refine mem_ready.2 ⟨u2,ops[k],Array.getElem?_eq_getElem hk,fun e he hb=>?_⟩
     have hs:=List.all_eq_true.1 h1 k (List.mem_range.2 u1)
     rw[Array.getElem?_eq_getElem hk]at hs
     have:=Array.all_eq_true_iff_forall_mem.1 hs e he
     rw[hb]at this
     have hlt:e.on<k:=by simpa using this
     refine hg.li e.on AT fun o' v' hm=>?_
     rcases List.mem_cons.1 hm with hm|hm
     ·grind
     ·have:=(List.pairwise_cons.1 hg.sorted).1 _ hm
      grind
    grind
  ·obtain⟨r1,r2,r3⟩:=kU hi
   have hne:∃k o v,(k,o,v)∈kX:=by
    cases kX with
    |nil=>simp at hp
    |cons x kX=>grind
   have hiq:i<q:=by
    refine Classical.byContradiction fun hge=>?_
    have hqs:q<ops.size:=AT
    by_cases hiq':i=q
    ·subst hiq'
     have eo:∀(d k:Nat),k<i->i -k=d->aV.getD k false=true:=by
      intro d
      induction d using Nat.strongRecOn with
      |_ d ihd=>
       intro k hk hd
       have hs:((List.range i).all fun k=>(List.range (i+1)).any fun m=>decide (k<m)&&iS ops m k)=true:=by
        unfold FY at h2
        rw[Bool.or_eq_true]at h2
        rcases h2 with h2|h2
        ·grind
        ·exact h2
       obtain⟨m',hm1,hm2⟩:=List.any_eq_true.1 (List.all_eq_true.1 hs k (List.mem_range.2 hk))
       rw[Bool.and_eq_true,decide_eq_true_eq]at hm2
       have ajH:=List.mem_range.1 hm1
       by_cases hmi:m'=i
       ·grind
       ·exact hg.cl m' AT (ihd (i -m') AT m' AT rfl) k hm2.2
     obtain⟨k,o,v,hk⟩:=hne
     obtain⟨u1,u2,u3⟩:=hg.un k o v hk
     grind
    ·have hnr:i∉Region.ready .any ops (qt ops.size q):=by rw[h4 hqs];simpa using hiq'
     apply hnr
     refine mem_ready.2 ⟨?_,ops[i],Array.getElem?_eq_getElem r1,fun e he hb=>?_⟩
     ·simp[qt,r1];omega
     ·have hl:=r3 e.on ((mK (Array.getElem?_eq_getElem r1)).2 ⟨e,he,hb,rfl⟩)
      have hlt:e.on<q:=by
       refine Classical.byContradiction fun hnl=>?_
       by_cases hs:e.on<ops.size
       ·have:=hg.tl e.on AT hs
        grind
       ·have:aV.getD e.on false=false:=by simp[Array.getElem?_eq_none (show aV.size<=e.on by rw[hg.size];omega)]
        grind
      simp[qt,show e.on<ops.size by omega,hlt]
   have hin:∃o v,(i,o,v)∈kX:=by
    apply Classical.byContradiction
    intro hno
    have:=hg.li i hiq fun o v hm=>hno ⟨o,v,hm⟩
    have:=yf this
    rw[r2]at this
    cases this
   obtain⟨o',v,hin⟩:=hin
   obtain⟨pre,post,rfl⟩:=List.append_of_mem hin
   have AL:=List.pairwise_append.1 hg.sorted
   have hap:∀y∈pre,Y7 y.2.1 o'=true:=by
    intro y hy
    obtain⟨k,o,u⟩:=y
    have hlt:k<i:=AL.2.2 _ hy _ List.mem_cons_self
    obtain⟨u1,u2,u3⟩:=hg.un k o u (List.mem_append_left _ hy)
    obtain⟨_,_,u4⟩:=hg.un i o' v BY
    have hs:=List.all_eq_true.1 (List.all_eq_true.1 h3 i (List.mem_range.2 hiq)) k (List.mem_range.2 hlt)
    rw[Bool.or_eq_true]at hs
    rcases hs with hs|hs
    ·grind
    ·grind [Y8]
   obtain⟨p1,p2,p3,p4,p5⟩:=aab pre post E hNo hap hch
   obtain⟨_,_,u4⟩:=hg.un i o' v BY
   have ho:ops.toList[i]? =some ops[i]:=TN
   refine pk (o:=ops[i]) TN (Y2.run h (kj i _ _ ho u4) p1 fun G' a' w' k1 k2=>?_)
   exact ih (pre++post) A_ _ (cH E o' v) (Gi hg hi) (sB hNo p2) p4 (fun G'' a'' w'' z1 z2=>hT G'' a'' w'' (z1.eqv p5) z2) G' a' w' k1 (hpr.trans k2)
def aa3(hm:P.follows .mixedOrders=true):Y0 P n:=by
 intro D draw id ops bR T q G E a w K Q hc hd h hno hw hn
 cases draw with
 |false=>grind [wp_region_list,LI,aI.refl]
 |true=>
 have hd:=hd rfl
 simp only[HG,Bool.and_eq_true,decide_eq_true_eq]at hd
 obtain⟨hq,h1,h2,h3,hl0,h4⟩:=hd
 obtain⟨hlen,kj⟩:=gC _ _ hc
 have hsz:bR.length=ops.size:=by rw[<-hlen];simp
 obtain⟨vs,e1,e2,e3⟩:=GZ q bR E 0 AT (fun o ho=>Qb hl0 rfl ho) hw
 have hmk:(mk 0 bR vs).length=q:=by
  have:∀(l:List ar)(vs:List AV)(k:Nat),vs.length<=l.length->(mk k l vs).length=vs.length:=by
   intro l
   induction l with
   |nil=>intro vs k hl;cases vs with
    |nil=>rfl
    |cons=>simp at hl
   |cons o l ih=>intro vs k hl;cases vs with
    |nil=>rfl
    |cons v vs=>grind [mk]
  rw[this bR vs 0 AT,e1]
 refine wp_region_any hm ?_
 have hrq:q<ops.size->Region.ready .any ops (qt ops.size q)=[q]:=by
  intro hlt
  obtain⟨d,hd⟩:∃d,ops.size -q=d+1:=⟨ops.size -q -1,AT⟩
  rw[hd]at h4
  simp only[rV,Bool.and_eq_true,beq_iff_eq]at h4
  exact h4.1
 have hT:∀G' a' w',Inv G' n D (KA E (mk 0 bR vs)) a' w'->aI G w G' w'->wpAny P .any ops Q (ops.size -q) (qt ops.size q) a' w':=by
  intro G' a' w' z1 z2
  have hl:(bR.drop q).length=ops.size -q:=P_
  have:=xy G w hc hn (bR.drop q) q (qt ops.size q) G' _ a' w' rfl A_ e3 z1 z2
  rwa[hl]at this
 have kl:Good ops bR q (mk 0 bR vs) (Array.replicate ops.size false):=by
  have Nb:∀k b,k<ops.size->(Array.replicate ops.size false).getD k b=false:=fun k b hk=>by simp[hk]
  refine⟨BY,fun k o v hk=>?_,fun k hk hno=>?_,fun j _ hj=>Nb j _ hj,fun m hm hl i hi=>?_,zX bR vs 0⟩
  ·obtain⟨j,j1,j2,j3⟩:=ID bR vs 0 k o v hk
   have:k=j:=AT
   subst this
   exact⟨AT,Nb k _ AT,j3⟩
  ·obtain⟨o,v,hh⟩:=NA bR vs 0 k AT AT
   grind
  ·rw[Nb m _ AT]at hl;cases hl
 have:=Q5 (T:=T) (P:=P) (n:=n) (Q:=Q) G w (ops.size -q) hc hq h1 h2 h3 hrq q (mk 0 bR vs) hmk _ E kl (fun i c hc=>oW hno i c hc) e2 hT G a {w with drawn:=w.drawn+1} h.drew (aI.drew G w)
 grind
end
section
variable{P:Program}{G G':Gh}{n:Nat}{D:List Deferred}{E E':St}{a:Act}{w w':World}{T:List Nat}
def uA(a:AV):Prop:=bI a=true/\∀t,¬bP a t
def Mx{f:Nat}{s:ae}{C C':AV->ae->Prop}(hc:∀a s',uA a->C a s'->C' a s'):∀{o:Option (List AV)},zl P f s C o->zl P f s C' o
 |some _,h=>FN.mono h fun rs s'⟨h1,h2⟩=>⟨h1,hc _ _ ⟨pR h1,uZ h1⟩ h2⟩
 |none,h=>h
def J3{s:ae}{C C':AV->ae->Prop}(hc:∀a s',uA a->C a s'->C' a s'){o:Option (List AV)}{x:AV}(h:uH P o s C x):uH P o s C' x:=by
 unfold uH at h⊢
 split at h
 ·unfold J1 at h⊢
  split at h
  ·exact⟨h.1,FN.mono h.2 fun rs s'⟨h1,h2⟩=>⟨h1,hc _ _ ⟨pR h1,uZ h1⟩ h2⟩⟩
  ·exact h
 ·exact h
theorem Hn(b o l c:Nat):uA (.arr b o l c):=⟨rfl,fun _ h=>h⟩
def Ho(b o:Nat):uA (.ref b o):=⟨rfl,fun _ h=>h⟩
def VA(b:Nat):uA (.mp b):=⟨rfl,fun _ h=>h⟩
theorem Hp(l:List AV):uA (.jg l):=⟨rfl,fun _ h=>h⟩
def xN{o:sD}{C C':AV->ae->Prop}(hc:∀a s',uA a->C a s'->C' a s')(h:sR P o E C):sR P o E C':=by
 cases o<;>first|(exact h.elim)|skip
 case call f args=>exact Mx hc h
 case jh x args=>exact J3 hc h
 case makeMap=>exact fun b hb=>hc _ _ (VA b) (h b hb)
 case ng z=>exact fun b hb=>hc _ _ (Ho b 0) (h b hb)
 case Bg m x=>exact⟨h.1,h.2.1,fun b hb=>hc _ _ (Ho b 0) (h.2.2 b hb)⟩
 case lO sz by' z l c=>
  have h:tu by' z E.s C (xg true E l) (xg true E c):=h
  show tu by' z E.s C' (xg true E l) (xg true E c)
  unfold tu at h⊢
  grind [Hn]
 case store m p v=>
  have h:pF m E.s C (E.x v) (E.x p):=h
  show pF m E.s C' (E.x v) (E.x p)
  unfold pF at h⊢
  split at h
  ·have h4:=h.2.2.2
   unfold Oy at h4⊢
   grind [Hp]
  ·exact h
 case nv x=>
  have h:ox E.s C (E.x x):=h
  show ox E.s C' (E.x x)
  unfold ox at h⊢
  split at h
  ·unfold uI at h⊢
   split at h
   ·unfold kA at h⊢
    split at h
    ·exact hc _ _ ⟨rfl,fun _ h=>h⟩ h
    ·exact hc _ _ ⟨rfl,fun _ h=>h⟩ h
    ·exact h
   ·exact h
  ·exact h
 case mapUpdate kk x k v=>
  have h:FX kk E.s (xg true E k) (xg true E v) C (xg true E x):=h
  show FX kk E.s (xg true E k) (xg true E v) C' (xg true E x)
  unfold FX at h⊢
  split at h
  ·unfold My at h⊢
   grind [Hp]
  ·exact h
def Cn{o:sD}{C:AV->ae->Prop}(hx:∀x∈eW o,E.x x=E'.x x)(hs:E.s=E'.s)(h:sR P o E C):sR P o E' C:=by
 have hg:∀x∈eW o,xg true E x=xg true E' x:=fun x h=>by grind [xg]
 cases o<;>first|(exact h.elim)|skip
 case call f args=>
  show zl P f E'.s C (cN (xg true E') args)
  rw[<-hs,<-iJ args hg];exact h
 case jh x args=>
  show uH P (cN (xg true E') args) E'.s C (xg true E' x)
  rw[<-hs,<-iJ args fun y hy=>hg y (List.mem_cons_of_mem _ hy),<-hg x List.mem_cons_self];exact h
 case makeMap=>grind [sR]
 case ng z=>grind [sR]
 case Bg m x=>rw[sR,<-hs,<-hg x List.mem_cons_self];exact h
 case lO sz by' z l c=>grind [sR,eW]
 case store m p v=>grind [sR,eW]
 case nv x=>rw[sR,<-hs,<-hx x List.mem_cons_self];exact h
 grind [kk,sR,eW]
def Oi{a:AV}(h:Ls a=true)(hv:dJ a=true):view a=a:=by
 cases a<;>first|rfl|skip
 ·rename_i o z m cs
  cases o
  ·rfl
  ·cases h
 ·cases hv
 ·cases hv
 ·cases h
theorem lZ.put(h:lZ E E')(d:Option Nat)(v:AV):lZ (E.put d v) (E'.put d v):=by
 cases d with
 |none=>exact h
 |some d=>exact⟨fun i=>by show look ((d,v)::E.e) i=look ((d,v)::E'.e) i;rw[bj,bj,h.e],h.lp,h.s⟩
def lZ.PX(h:lZ E E')(s:ae):lZ {E with s:=s} {E' with s:=s}:=⟨h.e,h.lp,rfl⟩
def Ql{x:IX}(h:view (E.x x)=E.x x):lZ (E.drain x) E:=by
 cases x with
 |c a=>exact lZ.refl _
 |t i=>
  refine⟨fun j=>?_,fun _=>Iff.rfl,rfl⟩
  show look ((i,view (look E.e i))::E.e) j=_
  rw[bj]
  by_cases e:i=j
  ·subst e;simp;exact h
  ·simp[e]
def Wa{o:ar}{K:St->Prop}(hK:∀τ U',lZ τ U'->K τ->K U')(h:VQ P o E K):Mi P o E K:=by
 obtain⟨d,op,g⟩:=o
 cases g with
 |some _=>exact h.elim
 |none=>
 replace h:=h.2
 cases op<;>first|(exact h.elim)|skip
 case call f args=>
  show vR P f E d K (cN (xg true E) args)
  have h:zl P f E.s (RQ E d K) (cN (xg true E) args):=h
  cases hh:cN (xg true E) args<;>rw[hh]at h<;>exact h
 case jh x args=>
  show wP P E (cN (xg true E) args) d K (xg true E x)
  have h:uH P (cN (xg true E) args) E.s (RQ E d K) (xg true E x):=h
  cases hh:cN (xg true E) args<;>cases hx:xg true E x<;>rw[hh,hx]at h<;>exact h
 case makeMap=>exact h
 case ng z=>exact h
 case Bg m x=>exact h
 case lO sz by' z l c=>
  show yE by' z E d K (xg true E l) (xg true E c)
  have h:tu by' z E.s (RQ E d K) (xg true E l) (xg true E c):=h
  cases hl:xg true E l<;>cases hc:xg true E c<;>rw[hl,hc]at h<;>exact h
 case store m p v=>
  show Oa m E p v d K (E.x v)
  have h:pF m E.s (RQ E d K) (E.x v) (E.x p):=h
  unfold pF at h
  split at h
  ·rename_i b off hp
   obtain⟨h1,h2,h3,h4⟩:=h
   refine⟨h1,h3,?_⟩
   have hd:=Ql (Oi h2 h1)
   rw[hp]
   show PI d K (Oj (E.drain v) b off (bB (E.x v)) ((E.drain v).s b))
   rw[hd.s]
   unfold Oy at h4
   split at h4
   ·rename_i fX ho
    rw[ho]
    show PI d K (wrS (E.drain v) b (eU off (bB (E.x v)) fX))
    unfold eU
    rw[decide_eq_true h4.1]
    refine hK _ _ ?_ h4.2
    have e:lZ {E with s:=E.s.set b (.cells (setAt fX off (bB (E.x v))))} {E.drain v with s:=(E.drain v).s.set b (.cells (setAt fX off (bB (E.x v))))}:=by rw[hd.s];exact hd.symm.PX _
    exact e.put d _
   grind
  grind
 case nv x=>
  show qj E d K (E.x x)
  have h:ox E.s (RQ E d K) (E.x x):=h
  unfold ox at h
  split at h
  ·rename_i b off hx
   rw[hx]
   unfold qj
   simp only
   unfold uI at h
   split at h
   ·rename_i cs he
    first|exact h|(rw[he];exact h)
   grind
  grind
 case mapUpdate kk x k v=>
  show yF kk E (xg true E k) (xg true E v) d K (xg true E x)
  have h:FX kk E.s (xg true E k) (xg true E v) (RQ E d K) (xg true E x):=h
  unfold FX at h
  split at h
  ·rename_i b hx
   rw[hx]
   show adw kk b E (xg true E k) (xg true E v) d K (E.s b)
   unfold My at h
   split at h
   ·rename_i es he
    rw[he];exact h
   grind
  grind
theorem agV{o:ar}{g:Bool}(h:mV o E=true)(s:ae):pv o.op (xg g {E with s:=s}) {E with s:=s}=pv o.op (xg g E) E:=by
 have hf:xg g {E with s:=s}=xg g E:=D_
 obtain⟨d,op,gg⟩:=o
 cases op<;>first|rfl|skip
 case oU tr x=>cases tr<;>rfl
 case slice sz x lo hi mx=>cases mx<;>rfl
 case load m multi x=>
  have h:oY (E.x x)=true:=h
  have hn:oY (xg g E x)=true:=by
   unfold xg vi
   split
   ·rename_i b a hb
    rw[hb]at h
    cases hc:((b==g)||b)&&inner a
    ·rfl
    ·exact h
   ·exact h
  show j5 multi (rd {E with s:=s} (xg g E x) m)=j5 multi (rd E (xg g E x) m)
  cases he:xg g E x<;>first|rfl|(rw[he]at hn;cases hn)
 case ks z m x=>cases h
 case nx k x=>cases h
 case len c x=>
  show BB s c (xg g E x)=BB E.s c (xg g E x)
  match c,h with
  |0,_=>cases xg g E x<;>rfl
  |1,_=>cases xg g E x<;>rfl
  |c+3,_=>cases xg g E x<;>rfl
 case VT ne x y=>
  cases y with
  |t i=>rfl
  |c a=>
   cases a<;>first|rfl|skip
   rename_i o z m cs
   cases o<;>cases m<;>cases cs<;>rfl
theorem akz{o:ar}(h:mV o E=true)(s:ae):qv o {E with s:=s}=qv o E:=by
 unfold qv
 split
 ·exact agV h s
 ·unfold NT
  grind [YR,agV]
theorem ahg{o:ar}(h:mV o E=true)(s:ae)(f:IX->AV):qe f s o.op=qe f E.s o.op:=by
 obtain⟨d,op,gg⟩:=o
 cases op<;>first|rfl|(cases h)
theorem ahf{o:ar}(h:mV o E=true)(s:ae):E1 o {E with s:=s}=E1 o E:=by
 have hf:∀g,xg g {E with s:=s}=xg g E:=fun g=>D_
 unfold E1
 split
 ·grind [ahg]
 ·unfold RH
  grind [VG,qe,xg,ahg]
def ada(d:Option Nat)(s:ae):bg {E with s:=s} d=bg E d:=D_
def Y2.PX{o:ar}{v:AV}(hy:Y2 P E o v)(h:mV o E=true)(s:ae):Y2 P {E with s:=s} o v:=by
 cases hy with
 |fX _ _ h0 hf hv hy=>
  refine .fX o v h0 I_ hv ?_
  cases hy with
  |pure _ _ hq=>exact .pure o v (by grind [akz])
  |oU d x hi=>exact .oU d x hi
  |call=>cases h
  |J7=>cases h
  |jh=>cases h
  |Cw=>cases h
  |Zy _ _ hq=>exact .Zy o v (by grind [ahf])
 |sto m c x fX h0 h1 h2 h3=>exact .sto m c x fX h0 h1 h2 h3
 |alo d z h0 h1=>exact .alo d z h0 h1
 |app d sz bytes x y _ h0 h1=>exact .app d sz bytes x y v h0 h1
 |lod d off i x cs o s' m ds h0 h1 h2 h3 h4=>exact .lod d off i x cs o s' m ds h0 h1 h2 h3 h4
def behind(E:St)(d:Option Nat)(a:AV)(s:ae):St:={E with s:=s}.put d a
theorem mQ(E:St)(d:Option Nat)(a:AV)(i:Nat):look (E.put d a).e i=if d=some i then a else look E.e i:=by
 cases d with
 |none=>simp[St.put]
 |some d=>
  show look ((d,a)::E.e) i=_
  grind [bj]
theorem GY(E:St)(d:Option Nat)(a:AV):(E.put d a).s=E.s/\(E.put d a).lp=E.lp:=by cases d<;>exact⟨rfl,rfl⟩
theorem RS(E:St)(d:Option Nat)(a:AV)(s:ae):(behind E d a s).s=s:=(GY _ d a).1
theorem ue{d:Option Nat}{l:List Nat}(h:iM d l=true){i:Nat}(hi:i∈l):d≠some i:=fun e=>by grind [iM]
def RK{y x:ar}(h:apB y x=true):AZ y x=true/\iM (rB y) (cG x)=true/\iM x.dst (cG y)=true/\∀i,rB y=some i->x.dst≠some i:=by
 unfold apB at h
 grind
def Ot{y:ar}{d:Option Nat}{v:AV}(hd:iM d (cG y)=true)(hf:bg E d=true)(hv:bI v=true):JN y E (E.put d v):=by
 have key:∀i,i∈cG y->look E.e i=look (E.put d v).e i:=fun i hi=>by rw[mQ,if_neg (ue hd hi)]
 refine⟨fun x hx=>?_,fun t want hg=>key t (List.mem_append_left _ Xc5),(GY E d v).1.symm,fun x _ g m=>?_⟩
 ·cases x with
  |c a=>rfl
  |t i=>exact key i (List.mem_append_right _ (iL hx))
 ·cases he:xg g E x<;>try rfl
  ·rename_i b off
   show rj m off (E.s b)=rj m off ((E.put d v).s b)
   grind [GY]
  ·rename_i c off
   show l6 m off (look E.e c)=l6 m off (look (E.put d v).e c)
   rw[mQ]
   by_cases e:d=some c
   ·rw[if_pos e,kz hv]
    rw[e]at hf
    exact kz hf m off
   grind
theorem Q9{y:ar}{d:Option Nat}{v:AV}{s:ae}(hd:iM d (cG y)=true):mV y (behind E d v s)=mV y E:=by
 obtain⟨dd,op,g⟩:=y
 cases op<;>first|rfl|skip
 rename_i m mu x
 cases x with
 |c a=>rfl
 |t i=>
  show oY (look (behind E d v s).e i)=oY (look E.e i)
  unfold behind
  rw[mQ,if_neg (ue hd (List.mem_append_right _ (iL (List.mem_cons_self))))]
theorem Y2.behind{y:ar}{v av:AV}{d:Option Nat}{s:ae}(hy:Y2 P E y v)(h:mV y E=true)(hd:iM d (cG y)=true)(hf:bg E d=true)(hv:uA av)(hne:∀i,rB y=some i->d≠some i):Y2 P (behind E d av s) y v:=by
 have h1:=hy.PX h s
 unfold AB.behind
 refine h1.Mt (Ot hd I_ hv.1) (fun i hi=>?_) (fun i hi hf=>?_)
 ·rw[mQ,if_neg (hne i (uK hi))]
 grind [GY]
def p9(s s':ae):Prop:=∀b m off cs,rj m off (s b)=some cs->rj m off (s' b)=some cs
def Y2.YT{d:Option Nat}{m:Nat}{mu:Bool}{x:IX}{v:AV}{s:ae}(hy:Y2 P E ⟨d,.load m mu x,none⟩ v)(hs:p9 E.s s):Y2 P {E with s:=s} ⟨d,.load m mu x,none⟩ v:=by
 have hx:xg true {E with s:=s} x=xg true E x:=D_
 have key:qv ⟨d,.load m mu x,none⟩ E≠.no->qv ⟨d,.load m mu x,none⟩ {E with s:=s}=qv ⟨d,.load m mu x,none⟩ E:=by
  show j5 mu (rd E (xg true E x) m)≠.no->j5 mu (rd {E with s:=s} (xg true {E with s:=s} x) m)=j5 mu (rd E (xg true E x) m)
  rw[hx]
  intro hn
  cases he:xg true E x<;>try rfl
  rename_i b off
  rw[he]at hn
  have hn:j5 mu (rj m off (E.s b))≠.no:=hn
  show j5 mu (rj m off (s b))=j5 mu (rj m off (E.s b))
  cases hb:rj m off (E.s b)with
  |none=>rw[hb]at hn;exact absurd rfl hn
  |some cs=>rw[hs b m off cs hb]
 cases hy with
 |fX _ _ h0 hf hv hy=>
  refine .fX _ v h0 I_ hv ?_
  cases hy with
  |pure _ _ hq=>
   refine .pure _ v ?_
   grind
  |Zy _ _ hq=>rcases hq with h|⟨c,h,_⟩<;>exact nomatch h
def GD{y x:ar}(h:La y x=true):(∃d m mu p,y=⟨d,.load m mu p,none⟩)/\((∃d sz by' z l c g,x=⟨d,.lO sz by' z l c,g⟩)\/∃d p g,x=⟨d,.nv p,g⟩):=by
 unfold La at h
 grind
def Y2.Wb{y x:ar}{v av:AV}{d:Option Nat}{s:ae}(hy:Y2 P E y v)(hl:La y x=true)(hs:p9 E.s s)(hd:iM d (cG y)=true)(hf:bg E d=true)(hv:uA av)(hne:∀i,rB y=some i->d≠some i):Y2 P (AB.behind E d av s) y v:=by
 have h1:Y2 P {E with s:=s} y v:=by
  obtain⟨⟨d,m,mu,p,rfl⟩,_⟩:=GD hl
  exact hy.YT hs
 unfold AB.behind
 refine h1.Mt (Ot hd I_ hv.1) (fun i hi=>?_) (fun i hi hf=>?_)
 ·rw[mQ,if_neg (hne i (uK hi))]
 grind [GY]
theorem p9.grow{s:ae}{b:Nat}(h:s b=none)(o:SO):p9 s (s.set b o):=by
 intro b' m off cs hr
 have:b'≠b:=fun e=>by rw[e,h]at hr;cases hr
 grind [ae.set]
theorem p9.take{s:ae}{b off:Nat}{cs ds:List AV}(h:s b=some (.cells cs))(hv:views ds=views cs):p9 s (s.set b (.cells ds)):=by
 intro b' m o zs hr
 by_cases e:b'=b
 ·subst e
  rw[h]at hr
  have hl:=by have:=congrArg List.length hv;simpa[views]using this
  have hs:views (sub ds o m)=views (sub cs o m):=by
   have:=congrArg (fun l=>(l.drop o).take m) hv
   simpa[views,sub,List.map_take,List.map_drop]using this
  have hr:fP m o cs=some zs:=hr
  have e2:(s.set b' (.cells ds)) b'=some (.cells ds):=by simp[ae.set]
  rw[e2]
  show fP m o ds=some zs
  grind [fP]
 grind [ae.set]
def P9{y x:ar}{C C':AV->ae->Prop}(hl:La y x=true)(hc:∀a s',uA a->p9 E.s s'->C a s'->C' a s')(h:sR P x.op E C):sR P x.op E C':=by
 rcases(GD hl).2 with⟨d,sz,by',z,l,c,g,rfl⟩|⟨d,p,g,rfl⟩
 ·have h:tu by' z E.s C (xg true E l) (xg true E c):=h
  show tu by' z E.s C' (xg true E l) (xg true E c)
  unfold tu at h⊢
  grind [Hn,p9.grow]
 ·have h:ox E.s C (E.x p):=h
  show ox E.s C' (E.x p)
  unfold ox at h⊢
  split at h
  ·rename_i b off hp
   unfold uI at h⊢
   split at h
   ·rename_i cs hcs
    have hvw:∀a,cs[off]? =some a->views (setAt cs off [view a])=views cs:=fun a ha=>by
     have hlt:=(List.getElem?_eq_some_iff.1 ha).1
     have he:=(List.getElem?_eq_some_iff.1 ha).2
     have:cs=cs.take off++[a]++cs.drop (off+1):=by rw[<-he];simp
     unfold setAt
     conv=>rhs;rw[this]
     have hvv:∀z,view (view z)=view z:=fun z=>by cases z<;>rfl
     simp[views,hvv]
    unfold kA at h⊢
    split at h
    ·rename_i o sz n ds he
     exact hc _ _ ⟨rfl,fun _ h=>h⟩ (p9.take (off:=off) hcs (hvw _ he)) h
    ·rename_i t n ds he
     exact hc _ _ ⟨rfl,fun _ h=>h⟩ (p9.take (off:=off) hcs (hvw _ he)) h
    ·exact h
   ·exact h
  ·exact h
def xK{y:ar}{v av:AV}{d:Option Nat}{s:ae}(hd:iM d (cG y)=true)(hne:∀i,rB y=some i->d≠some i):lZ (cH (behind E d av s) y v) (AB.behind (cH E y v) d av s):=by
 refine⟨fun i=>?_,fun x=>?_,?_⟩
 ·rw[ez]
  unfold AB.behind
  rw[mQ,mQ]
  rw[ez]
  by_cases h1:rB y=some i
  ·grind
  ·by_cases h2:d=some i
   ·grind [F0,ue,tE]
   grind
 ·grind [mW,AB.behind,GY,cH]
 grind [pW,RS]
def bE(P:Program)(T:List Nat):List Item->(St->Prop)->St->Prop
 |[],K,E=>∃τ,lZ τ E/\K τ
 |(k,_,o)::r,K,E=>if 3<=k then∃τ,lZ τ E/\Mi P o τ (fun ρ=>ku T ρ.e=true/\Mh P T r ρ K)else if 2<=k then bg E o.dst=true/\o.g=none/\sR P o.op E (fun a s=>bE P T r K (behind E o.dst a s))
  else∃v,Y2 P E o v/\zU T o v/\(k=1->mV o E=true)/\bE P T r K (cH E o v)
def Cp{K:St->Prop}:∀(l:List Item)(E:St),Mh P T l E K->bE P T l K E
 |[],E,h=>⟨E,lZ.refl _,h⟩
 |(0,_,o)::r,E,h=>by
  obtain⟨v,h1,h2,h3⟩:=IU (h)
  exact⟨v,h1,zW fun i c hc=>oW h2 i c hc,fun e=>AT,Cp r _ h3⟩
 |(1,_,o)::r,E,h=>by
  obtain⟨h0,h⟩:=h
  obtain⟨v,h1,h2,h3⟩:=IU (h)
  exact⟨v,h1,zW fun i c hc=>oW h2 i c hc,fun _=>h0,Cp r _ h3⟩
 |(k+3,_,o)::r,E,h=>by
  have h:Mi P o E (fun τ=>ku T τ.e=true/\Mh P T r τ K):=h
  unfold bE
  grind [lZ.refl]
 |(2,_,o)::r,E,h=>by
  have h:VQ P o E (fun τ=>ku T τ.e=true/\Mh P T r τ K):=h
  unfold VQ at h
  split at h
  ·rename_i hg
   exact⟨h.1,hg,xN (fun a s _ hk=>Cp r _ hk.2) h.2⟩
  grind
theorem Q8{o:ar}(h:lZ E E'):mV o E=mV o E':=by
 obtain⟨d,op,g⟩:=o
 cases op<;>first|rfl|skip
 rename_i m mu x
 cases x with
 |c a=>rfl
 |t i=>show oY (look E.e i)=oY (look E'.e i);rw[h.e]
theorem zi{K:St->Prop}:∀(l:List Item){E E':St},lZ E E'->bE P T l K E->bE P T l K E'
 |[],_,_,h,⟨τ,h1,h2⟩=>⟨τ,h1.trans h,h2⟩
 |(k,i,o)::r,E,E',h,hb=>by
  unfold bE at hb⊢
  by_cases hk3:3<=k
  ·rw[if_pos hk3]at hb⊢
   obtain⟨τ,h1,h2⟩:=hb
   exact⟨τ,h1.trans h,h2⟩
  rw[if_neg hk3]at hb⊢
  by_cases hk:2<=k
  ·rw[if_pos hk]at hb⊢
   refine⟨by rw[<-h.free];exact hb.1,hb.2.1,?_⟩
   refine Cn (fun x _=>by cases x with|c a=>rfl|t i=>exact h.e i) h.s (xN (fun a s _ hh=>?_) hb.2.2)
   exact zi r ((h.PX s).put o.dst a) hh
  ·rw[if_neg hk]at hb⊢
   obtain⟨v,h1,h2,h3,h4⟩:=hb
   exact⟨v,h1.eqv h,h2,fun e=>by grind [Q8],zi r (h.cH o v) h4⟩
theorem A5{o y:ar}{v:AV}(hn:iM (rB y) (cG o)=true)(hdr:AZ y o=true):mV o (cH E y v)=mV o E:=by
 obtain⟨d,op,g⟩:=o
 cases op<;>first|rfl|skip
 rename_i m mu x
 cases x with
 |c a=>rfl
 |t i=>
  have hi:i∈cG ⟨d,.load m mu (.t i),g⟩:=List.mem_append_right _ (iL List.mem_cons_self)
  show oY (look (cH E y v).e i)=oY (look E.e i)
  rw[ez,if_neg (ue hn hi),F0]
  have:=List.all_eq_true.1 hdr i hi
  grind
def aac{K:St->Prop}{kx ix:Nat}{x:ar}(hkx:¬2<=kx)(hTx:Xg T x):∀(pre:List Item)(post:List Item)(E:St),wF T E->(∀y∈pre,¬2<=y.1/\Y7 y.2.2 x=true/\Xg T y.2.2)->bE P T (pre++(kx,ix,x)::post) K E->
 ∃v,Y2 P E x v/\zU T x v/\(kx=1->mV x E=true)/\bE P T (pre++post) K (cH E x v)
 |[],post,E,_,_,h=>by
  unfold bE at h
  grind
 |(k,i,o)::pre,post,E,hN,hap,h=>by
  have h:bE P T ((k,i,o)::(pre++(kx,ix,x)::post)) K E:=h
  obtain⟨hk,abj,hT0⟩:=hap _ List.mem_cons_self
  unfold bE at h
  rw[if_neg AT,if_neg hk]at h
  obtain⟨v,h1,h2,h3,h4⟩:=h
  obtain⟨u,i1,i2,i3,i4⟩:=aac hkx hTx pre post (cH E o v) (sB hN h2) (fun y hy=>hap y (List.mem_cons_of_mem _ hy)) h4
  obtain⟨a1,a2,a3,a4,a5,a6,a7,c1,c2⟩:=JT abj
  have hx:=i1.Mt (uF h1 a1 a4 c2 hN hT0).symm
   (fun i hi=>(lP fun e=>a3 i i e (uK hi) rfl).symm)
   (fun i hi hf=>mR (fun z hz _=>(mW o v z).2 (.inl hz)) hf)
  have ho:=h1.Mt (uF hx a2 a5 c1 hN hTx)
   (fun i hi=>lP fun e=>a3 i i (uK hi) e rfl)
   (fun i hi hf=>mR (fun z hz hzi=>by
     rcases(mW _ _ z).1 hz with hz|⟨j,j1,_,j3⟩
     ·exact hz
     ·rw[hzi]at j3;exact(i2 j j1 i (hT0 i hi) j3).elim) hf)
  have Gj:lZ (cH (cH E o v) x u) (cH (cH E x u) o v):=D4 a3 a6 a7
  refine⟨u,hx,i2,fun e=>by grind [A5],?_⟩
  show bE P T ((k,i,o)::(pre++post)) K (cH E x u)
  unfold bE
  grind [A5,zi]
def aad{K:St->Prop}{kx ix:Nat}{x:ar}(hkx:2<=kx)(ajE:¬3<=kx):∀(pre:List Item)(post:List Item)(E:St),(∀y∈pre,(y.1=1\/y.1=0/\La y.2.2 x=true)/\apB y.2.2 x=true)->bE P T (pre++(kx,ix,x)::post) K E->
 bg E x.dst=true/\x.g=none/\sR P x.op E (fun a s=>bE P T (pre++post) K (behind E x.dst a s))
 |[],post,E,_,h=>by
  unfold bE at h
  grind
 |(k,i,o)::pre,post,E,hap,h=>by
  have h:bE P T ((k,i,o)::(pre++(kx,ix,x)::post)) K E:=h
  obtain⟨ajD,abj⟩:=hap _ List.mem_cons_self
  have WZ:¬3<=k/\¬2<=k:=AT
  unfold bE at h
  rw[if_neg WZ.1,if_neg WZ.2]at h
  obtain⟨v,h1,h2,h3,h4⟩:=h
  obtain⟨i1,i2,i3⟩:=aad hkx ajE pre post (cH E o v) (fun y hy=>hap y (List.mem_cons_of_mem _ hy)) h4
  obtain⟨a1,a2,a3,a4⟩:=RK abj
  have hf:bg E x.dst=true:=by
   cases hd:x.dst with
   |none=>rfl
   |some d=>
    rw[hd]at i1
    have e:bI (look (cH E o v).e d)=bI (look E.e d):=lP fun e=>a4 d e hd
    show bI (look E.e d)=true
    rw[<-e];exact i1
  have hcg:∀{C:AV->ae->Prop},sR P x.op (cH E o v) C->sR P x.op E C:=fun hh=>Cn (fun y hy=>by
   cases y with
   |c a=>rfl
   |t j=>
    have hj:j∈cG x:=List.mem_append_right _ (iL hy)
    show look (cH E o v).e j=look E.e j
    rw[ez,if_neg (ue a2 hj),F0]
    have:=List.all_eq_true.1 a1 j hj
    grind) (pW o v) hh
  rcases ajD with rfl|⟨rfl,hl⟩
  ·refine⟨hf,i2,hcg (xN (fun av s hv hb=>?_) i3)⟩
   show bE P T ((1,i,o)::(pre++post)) K (behind E x.dst av s)
   unfold bE
   refine⟨v,h1.behind (h3 rfl) a3 hf hv a4,h2,fun _=>by rw[Q9 a3];exact h3 rfl,?_⟩
   exact zi _ (xK a3 a4).symm hb
  ·refine⟨hf,i2,hcg ?_⟩
   refine P9 hl (fun av s hv gn hb=>?_) i3
   show bE P T ((0,i,o)::(pre++post)) K (behind E x.dst av s)
   unfold bE
   refine⟨v,h1.Wb hl (by grind [pW]) a3 hf hv a4,h2,fun e=>f_,?_⟩
   exact zi _ (xK a3 a4).symm hb
end
section
variable{P:Program}{n:Nat}{D:List Deferred}{ops:Array Oper}{T:List Nat}
def Bef(ops:Array Oper)(j i:Nat):Prop:=∀L:Nat->Prop,(∀m,L m->∀d,iS ops m d=true->L d)->(∀d,iS ops j d=true->L d)->L i
def Gf(acc:List Nat)(i:Nat):∀(l:List Edge)(s:Nat),(l.foldl (fun s e=>bif Region.binds .any e then s |||(1<<<e.on)|||acc.getD e.on 0 else s) s).testBit i=true->
 s.testBit i=true\/∃e∈l,Region.binds .any e=true/\(i=e.on\/(acc.getD e.on 0).testBit i=true)
 |[],s,h=>.inl h
 |e::l,s,h=>by
  rw[List.foldl_cons]at h
  rcases Gf acc i l _ h with h|⟨e',h1,h2⟩
  ·cases hb:Region.binds .any e with
   |false=>grind
   |true=>
    rw[hb,cond_true,Nat.testBit_or,Nat.testBit_or,Bool.or_eq_true,Bool.or_eq_true]at h
    rcases h with(h|h)|h
    ·exact .inl h
    ·grind [Nat.testBit_one_eq_true_iff_self_eq_zero]
    grind
  grind
def GK:∀(l:List Oper)(acc:List Nat),l=ops.toList.drop acc.length->(∀j i,(acc.getD j 0).testBit i=true->Bef ops j i)->∀j i,((GJ l acc).getD j 0).testBit i=true->Bef ops j i
 |[],acc,_,h=>h
 |o::l,acc,hl,h=>by
  have ho:=by
   have:(ops.toList.drop acc.length)[0]? =some o:=A_
   simpa using this
  refine GK l (acc++[Nz acc o]) ?_ fun j i hb=>?_
  ·have:(ops.toList.drop acc.length).tail=l:=A_
   simp_all
  ·by_cases hj:j<acc.length
   ·grind
   ·by_cases he:j=acc.length
    ·subst he
     have hb:(Nz acc o).testBit i=true:=A_
     rcases Gf acc i _ _ hb with h0|⟨e,e1,e2,e3⟩
     ·simp at h0
     ·intro L hc hd
      have hle:=hd _ ((mK ho).2 ⟨e,A_,e2,rfl⟩)
      rcases e3 with rfl|e3
      ·exact hle
      ·exact h e.on i e3 L hc (hc _ hle)
    grind
def GU{ms:List Nat}:∀{l:List Item},IL ops ms l=true->l.Pairwise fun x y=>yS ops ms x y=true
 |[],_=>.nil
 |x::r,h=>by
  simp only[IL,Bool.and_eq_true]at h
  exact .cons (fun y hy=>List.all_eq_true.1 h.1 y hy) (GU h.2)
structure RI(ops:Array Oper)(L0 L:List Item)(aV:Array Bool):Prop where
 size:aV.size=ops.size
 sub:L.Sublist L0
 un:∀x∈L,aV.getD x.2.1 true=false
 li:∀k,k<ops.size->(∀x∈L,x.2.1≠k)->aV.getD k false=true
 cl:∀m,aV.getD m false=true->∀i,iS ops m i=true->aV.getD i false=true
theorem yg{l:Array Bool}{i j:Nat}{b:Bool}(h:j≠i):(l.setIfInBounds i true).getD j b=l.getD j b:=by simp[h.symm]
def EH{l:Array Bool}{i:Nat}{b:Bool}(h:i<l.size):(l.setIfInBounds i true).getD i b=true:=H_
def vU{l:Array Bool}{i j:Nat}(h:l.getD j false=true):(l.setIfInBounds i true).getD j false=true:=by
 by_cases e:j=i
 ·rcases Nat.lt_or_ge j l.size with hj|hj
  ·simp_all
  grind
 ·rw[yg e];exact h
def Pd{x:Item}(h:Df P T n ops x=true)(hk:¬2<=x.1):Xg T x.2.2:=fun c hc=>by
 simp[Df,Bool.and_eq_true]at h
 unfold TJ at hc
 grind
theorem wF.behind{E:St}(h:wF T E){d:Option Nat}{a:AV}{s:ae}(ha:uA a):wF T (behind E d a s):=fun i c hc=>by
 unfold AB.behind
 rw[mQ]
 by_cases e:d=some i
 ·rw[if_pos e];exact ha.2 c
 ·rw[if_neg e];exact h i c hc
def ahq{K:St->Prop}{Q:Exit->Act->World->Prop}(G₀:Gh)(w₀:World){L0:List Item}(hI:∀x∈L0,Df P T n ops x=true)(hP:L0.Pairwise fun x y=>yS ops (GJ ops.toList []) x y=true)
 (hn:∀G' E' a' w',Inv G' n D E' a' w'->aI G₀ w₀ G' w'->K E'->Q .normal a' w'):
 ∀(m:Nat)(L:List Item),L.length=m->∀(aV:Array Bool)(E:St),RI ops L0 L aV->wF T E->bE P T L K E->∀(G:Gh)(a:Act)(w:World),Inv G n D E a w->aI G₀ w₀ G w->wpAny P .any ops Q m aV a w:=by
 intro m
 induction m with
 |zero=>
  intro L hL aV E hg _ hb G a w h hp
  obtain rfl:=List.eq_nil_of_length_eq_zero hL
  refine⟨List.eq_nil_iff_forall_not_mem.2 fun j hj=>?_,?_⟩
  ·obtain⟨r1,r2,r3⟩:=kU hj
   have:=yf (hg.li j r1 fun x hx=>o_)
   grind
  ·obtain⟨τ,t1,t2⟩:=hb
   exact hn G τ a w (h.eqv t1.symm) hp t2
 |succ m ih=>
  intro L hL aV E hg hN hb G a w h hp
  have hPL:=hP.sublist hg.sub
  refine⟨fun h0=>?_,fun i hi=>?_⟩
  ·cases L with
   |nil=>simp at hL
   |cons x r=>
    have hx:=hI x (hg.sub.subset List.mem_cons_self)
    simp only[Df,Bool.and_eq_true]at hx
    have Ig:x.2.1∈Region.ready .any ops aV:=by
     cases ho:ops[x.2.1]? with
     |none=>grind
     |some o=>
      rw[ho]at hx
      have hx1:(iU P n ops o x.2.2&&o.after.all fun e=>!Region.binds .any e||(decide (e.on<ops.size)&&e.on !=x.2.1))=true:=hx.1
      rw[Bool.and_eq_true]at hx1
      refine mem_ready.2 ⟨hg.un x List.mem_cons_self,o,ho,fun e he hbn=>?_⟩
      have h3:=Array.all_eq_true_iff_forall_mem.1 hx1.2 e he
      rw[hbn]at h3
      simp only[Bool.not_true,Bool.false_or,Bool.and_eq_true,decide_eq_true_eq,bne_iff_ne]at h3
      refine hg.li e.on h3.1 fun y hy=>?_
      rcases List.mem_cons.1 hy with rfl|hy
      ·grind
      ·intro e'
       have:=(List.pairwise_cons.1 hPL).1 y hy
       simp only[yS,Bool.and_eq_true,Bool.not_eq_true']at this
       grind [iS,mK]
    grind
  ·obtain⟨r1,r2,r3⟩:=kU hi
   have hex:∃x∈L,x.2.1=i:=by
    apply Classical.byContradiction
    intro hno
    have:=yf (hg.li i r1 fun x hx e=>hno ⟨x,hx,e⟩)
    rw[r2]at this;cases this
   obtain⟨⟨kx,ix,x⟩,hx,e0⟩:=hex
   have e0:ix=i:=e0
   subst e0
   obtain⟨pre,post,rfl⟩:=List.append_of_mem hx
   have hxi:=hI _ (hg.sub.subset hx)
   have hPw:=List.pairwise_append.1 hPL
   have hpx:∀y∈pre,yS ops (GJ ops.toList []) y (kx,ix,x)=true:=fun y hy=>hPw.2.2 y hy _ List.mem_cons_self
   have hxp:∀y∈post,yS ops (GJ ops.toList []) (kx,ix,x) y=true:=(List.pairwise_cons.1 hPw.2.1).1
   have Ti:∀y∈pre,ZP y.1 kx y.2.2 x=true:=fun y hy=>by
    have h1:=hpx y hy
    simp only[yS,Bool.and_eq_true,Bool.or_eq_true]at h1
    rcases h1.2.2 with h2|h2
    ·have hbf:=GK (ops:=ops) ops.toList [] BY (fun j i hh=>by simp at hh) _ _ h2
     have:=yf (hbf (fun m=>aV.getD m false=true) hg.cl r3)
     rw[hg.un y (List.mem_append_left _ hy)]at this;cases this
    ·exact h2
   have hne:∀y∈pre++post,y.2.1≠ix:=fun y hy=>by
    rcases List.mem_append.1 hy with hy|hy
    ·have:=hpx y hy
     simp only[yS,Bool.and_eq_true,bne_iff_ne]at this
     grind
    ·have:=hxp y hy
     simp only[yS,Bool.and_eq_true,bne_iff_ne]at this
     grind
   have hg':RI ops L0 (pre++post) (aV.setIfInBounds ix true):=by
    refine⟨by simp[hg.size],((List.sublist_cons_self _ post).append_left pre).trans hg.sub,fun y hy=>?_,fun k hk hno=>?_,fun m' hm' d hd=>?_⟩
    ·rw[yg (hne y hy)]
     refine hg.un y ?_
     grind
    ·by_cases e:k=ix
     ·subst e;exact EH A_
     ·refine vU (hg.li k hk fun y hy=>?_)
      grind
    ·refine vU ?_
     by_cases e:m'=ix
     ·grind
     ·rw[yg e]at hm';exact hg.cl m' hm' d hd
   have hlen:(pre++post).length=m:=by simp at hL⊢;omega
   have hxo:iU P n ops ops[ix] x=true:=by
    simp only[Df,Bool.and_eq_true]at hxi
    have h1:=hxi.1
    rw[Array.getElem?_eq_getElem r1]at h1
    have h1:(iU P n ops ops[ix] x&&_)=true:=h1
    rw[Bool.and_eq_true]at h1
    exact h1.1
   by_cases hk3:3<=kx
   ·obtain rfl:pre=[]:=by
     cases pre with
     |nil=>rfl
     |cons y pre=>
      have h1:=Ti y List.mem_cons_self
      obtain⟨ky,iy,yo⟩:=y
      obtain⟨k,rfl⟩:∃k,kx=k+3:=⟨kx -3,AT⟩
      match ky with
      |0=>cases h1
      |1=>cases h1
      |_+2=>cases h1
    have hb:bE P T ((kx,ix,x)::post) K E:=hb
    unfold bE at hb
    rw[if_pos hk3]at hb
    obtain⟨τ,t1,t2⟩:=hb
    refine pk (o:=ops[ix]) TN (iq (h.eqv t1.symm) hxo t2 fun G' E' a' w' k1 k2 k3=>?_)
    exact ih ([]++post) hlen _ E' hg' (fun i c hc=>oW k3.1 i c hc) (Cp _ _ k3.2) G' a' w' k1 (hp.trans k2)
   by_cases hk:2<=kx
   ·have hap:∀y∈pre,(y.1=1\/y.1=0/\La y.2.2 x=true)/\apB y.2.2 x=true:=fun y hy=>by
     have h1:=Ti y hy
     obtain⟨ky,iy,yo⟩:=y
     obtain rfl:kx=2:=AT
     match ky with
     |0=>
      have h1:(La yo x&&apB yo x)=true:=h1
      grind
     |1=>exact⟨.inl rfl,h1⟩
     |_+2=>cases h1
    obtain⟨p1,p2,p3⟩:=aad hk hk3 pre post E hap hb
    have hbb:VQ P x E (fun τ=>wF T τ/\bE P T (pre++post) K τ):=by
     unfold VQ
     rw[p2]
     exact⟨p1,xN (fun av s hv hh=>⟨hN.behind hv,hh⟩) p3⟩
    have hK':∀τ U',lZ τ U'->(wF T τ/\bE P T (pre++post) K τ)->wF T U'/\bE P T (pre++post) K U':=fun τ U' e hh=>⟨fun i c hc=>by rw[<-e.e i];exact hh.1 i c hc,zi _ e hh.2⟩
    refine pk (o:=ops[ix]) TN (iq h hxo (Wa hK' hbb) fun G' E' a' w' k1 k2 k3=>?_)
    exact ih (pre++post) hlen _ E' hg' k3.1 k3.2 G' a' w' k1 (hp.trans k2)
   ·have hap:∀y∈pre,¬2<=y.1/\Y7 y.2.2 x=true/\Xg T y.2.2:=fun y hy=>by
     have h1:=Ti y hy
     have hyT:=fun hh=>Pd (hI y (hg.sub.subset (List.mem_append_left _ hy))) hh
     obtain⟨ky,iy,yo⟩:=y
     match ky,kx,hk with
     |0,0,_=>exact⟨fun hh=>absurd hh BY,h1,hyT BY⟩
     |0,1,_=>exact⟨fun hh=>absurd hh BY,h1,hyT BY⟩
     |1,0,_=>exact⟨fun hh=>absurd hh BY,h1,hyT BY⟩
     |1,1,_=>exact⟨fun hh=>absurd hh BY,h1,hyT BY⟩
     |k+2,0,_=>cases h1
     |k+2,1,_=>cases h1
     |_,k+2,hk=>grind
    obtain⟨v,p1,p2,p3,p4⟩:=aac hk (Pd hxi hk) pre post E hN hap hb
    refine pk (o:=ops[ix]) TN (Y2.run h hxo p1 fun G' a' w' k1 k2=>?_)
    exact ih (pre++post) hlen _ (cH E x v) hg' (sB hN p2) p4 G' a' w' k1 (hp.trans k2)
def aa1(hm:P.follows .mixedOrders=true):YY P n:=by
 intro D id ops T l G E a w K Q hc h hno hw hn
 simp only[aaX,Bool.and_eq_true]at hc
 obtain⟨⟨h1,h2⟩,h3,h4⟩:=hc
 refine wp_region_any hm ?_
 have hg:RI ops l l (Array.replicate ops.size false):=by
  refine⟨BY,List.Sublist.refl l,fun x hx=>?_,fun k hk hno=>?_,fun m hm i hi=>?_⟩
  ·have hlt:x.2.1<ops.size:=by
    have:=List.all_eq_true.1 h3 x hx
    simp[Df]at this
    cases ho:ops[x.2.1]? with
    |none=>grind
    |some o=>grind
   simp[hlt]
  ·obtain⟨x,hx,e⟩:=List.any_eq_true.1 (List.all_eq_true.1 h2 k (List.mem_range.2 hk))
   grind
  ·rcases Nat.lt_or_ge m ops.size with hlt|hge
   ·simp_all
   grind
 have:=ahq G w (fun x hx=>List.all_eq_true.1 h3 x hx) (GU h4) hn l.length l rfl _ E hg (fun i c hc=>oW hno i c hc) (Cp l E hw) G a {w with drawn:=w.drawn+1} h.drew (aI.drew G w)
 grind
theorem zc:∀(p s:List Bool),xA p s=p.reverse++s
 |[],s=>rfl
 |x::p,s=>by unfold xA;rw[zc p];simp
def Mf{done:List Bool}{F:ar->List Bool->Prop}:∀{rows:List (List Bool)}{pre xs:List Bool}{r:List ar}{j:Nat}{row:List Bool}{o:ar},Ol done rows pre xs r F->rows[j]? =some row->r[j]? =some o->xs[j]? =some false->vN row done=true->F o (xA pre (xs.set j true))
 |row::rows,pre,x::xs,o::r,0,row',o',h,h1,h2,h3,h4=>by
  injection h1 with h1;injection h2 with h2;injection h3 with h3
  have:=h.1
  grind
 |row::rows,pre,x::xs,o::r,j+1,row',o',h,h1,h2,h3,h4=>by
  have:=Mf h.2 I_ I_ A_ h4
  rw[zc]at this⊢
  simpa using this
 |[],_,_,_,_,_,_,_,h1,_,_,_=>by grind
 |_::_,_,[],_,_,_,_,_,_,_,h3,_=>by grind
 |_::_,_,_::_,[],_,_,_,_,_,h2,_,_=>A_
def PY:∀{row done:List Bool},(∀i,row.getD i false=true->done.getD i false=true)->vN row done=true
 |[],_,_=>rfl
 |_::_,[],_=>rfl
 |d::row,x::done,h=>by
  have h0:=h 0
  have ht:=PY (row:=row) (done:=done) fun i hi=>by have:=h (i+1);grind
  unfold vN
  grind
structure ae2(ops:Array Oper)(done:List Bool)(aV:Array Bool):Prop where
 size:aV.size=ops.size
 len:done.length=ops.size
 eq:∀j,done.getD j false=aV.getD j false
theorem count_set:∀{l:List Bool}{j:Nat},l[j]? =some false->(l.set j true).count false+1=l.count false
 |x::l,0,h=>by grind
 |x::l,j+1,h=>by grind
 |[],_,h=>A_
def aas{K:St->Prop}{Q:Exit->Act->World->Prop}{iH:List (List Bool)}{bR:List ar}(G₀:Gh)(w₀:World)(hI:cJ P n ops ops.toList bR=true)(hX:OF ops iH=true)
 (hn:∀G' E' a' w',Inv G' n D E' a' w'->aI G₀ w₀ G' w'->K E'->Q .normal a' w'):
 ∀(f:List ar)(done:List Bool)(aV:Array Bool)(E:St),ae2 ops done aV->done.count false=f.length->Rw P iH bR K f done E->∀(G:Gh)(a:Act)(w:World),Inv G n D E a w->aI G₀ w₀ G w->wpAny P .any ops Q f.length aV a w
 |[],done,aV,E,hg,hc,hw,G,a,w,h,hp=>by
  refine⟨List.eq_nil_iff_forall_not_mem.2 fun j hj=>?_,hn G E a w h hp hw⟩
  obtain⟨r1,r2,r3⟩:=kU hj
  have h2:aV.getD j false=false:=by
   have hlt:j<aV.size:=Xc6
   simp only[Array.getD_eq_getD_getElem?,Array.getElem?_eq_getElem hlt,Option.getD_some]at r2⊢
   exact r2
  rw[<-hg.eq j]at h2
  have hlt:j<done.length:=by rw[hg.len];exact r1
  grind
 |o0::f,done,aV,E,hg,hc,hw,G,a,w,h,hp=>by
  have hX':=hX
  simp only[OF,Bool.and_eq_true,beq_iff_eq]at hX'
  obtain⟨hl,eo⟩:=hX'
  refine⟨fun h0=>?_,fun i hi=>?_⟩
  ·exfalso
   have hex:∃j,j<ops.size/\aV.getD j false=false:=by
    apply Classical.byContradiction
    intro hno
    have:done.count false=0:=List.count_eq_zero.2 fun hm=>by
     obtain⟨j,hj,e⟩:=List.getElem_of_mem hm
     refine hno ⟨j,by rw[<-hg.len];exact hj,?_⟩
     rw[<-hg.eq,List.getD_eq_getElem?_getD,List.getElem?_eq_getElem hj,Option.getD_some,e]
    rw[this]at hc;simp at hc
   obtain⟨j,hj⟩:=hex
   induction j using Nat.strongRecOn with
   |_ j ih=>
    by_cases hk:∃k,k<j/\k<ops.size/\aV.getD k false=false
    ·grind
    ·have hj2:=List.all_eq_true.1 eo j (List.mem_range.2 hj.1)
     simp only[Bool.and_eq_true]at hj2
     have h3:=hj2.2
     rw[Array.getElem?_eq_getElem hj.1]at h3
     have Ig:j∈Region.ready .any ops aV:=by
      refine mem_ready.2 ⟨?_,ops[j],Array.getElem?_eq_getElem hj.1,fun e he hb=>?_⟩
      ·have hlt:j<aV.size:=by rw[hg.size];exact hj.1
       grind
      ·have h4:=Array.all_eq_true_iff_forall_mem.1 h3 e he
       grind
     grind
  ·obtain⟨r1,r2,r3⟩:=kU hi
   have hlt:i<aV.size:=Xc6
   have Bl:i<done.length:=by rw[hg.len];exact r1
   have r2':aV.getD i false=false:=by
    simp only[Array.getD_eq_getD_getElem?,Array.getElem?_eq_getElem hlt,Option.getD_some]at r2⊢
    exact r2
   have hd:done[i]? =some false:=by
    rw[<-hg.eq i,List.getD_eq_getElem?_getD,List.getElem?_eq_getElem Bl,Option.getD_some]at r2'
    rw[List.getElem?_eq_getElem Bl,r2']
   obtain⟨hlen,kj⟩:=gC _ _ hI
   have hli:i<bR.length:=by rw[<-hlen];simpa using r1
   have hio:bR[i]? =some bR[i]:=List.getElem?_eq_getElem hli
   have hco:iU P n ops ops[i] bR[i]=true:=kj i ops[i] bR[i] TN hio
   have hj2:=List.all_eq_true.1 eo i (List.mem_range.2 r1)
   simp only[Bool.and_eq_true,beq_iff_eq]at hj2
   have dE:iH[i]? =some (iH.getD i []):=by
    have:i<iH.length:=by rw[hl];exact r1
    rw[List.getD_eq_getElem?_getD,List.getElem?_eq_getElem this,Option.getD_some]
   have hrd:vN (iH.getD i []) done=true:=PY fun k hk=>by
    have hkl:k<ops.size:=by
     rw[<-hj2.1.1]
     apply Classical.byContradiction
     intro hno
     rw[List.getD_eq_getElem?_getD,List.getElem?_eq_none AT]at hk
     cases hk
    have:=List.all_eq_true.1 hj2.1.2 k (List.mem_range.2 hkl)
    rw[hk]at this
    rw[hg.eq]
    grind
   have hx:=Mf (F:=fun o d=>Mi P o E (fun τ=>Rw P iH bR K f d τ)) hw dE hio hd hrd
   refine pk (o:=ops[i]) TN (iq h hco hx fun G' E' a' w' k1 k2 k3=>?_)
   refine aas G₀ w₀ hI hX hn f _ _ E' ⟨by simp[hg.size],by rw[zc];simp[hg.len],fun k=>?_⟩ ?_ k3 G' a' w' k1 (hp.trans k2)
   ·rw[zc]
    show(([]:List Bool).reverse++done.set i true).getD k false=_
    rw[List.reverse_nil,List.nil_append]
    by_cases e:k=i
    ·simp_all
    ·rw[yg e,<-hg.eq,List.getD_eq_getElem?_getD,List.getD_eq_getElem?_getD,List.getElem?_set_ne (Ne.symm e)]
   grind [zc,List.reverse_nil,count_set]
def aa4(hm:P.follows .mixedOrders=true):Y3 P n:=by
 intro D id ops iH bR G E a w K Q hc hx h hw hn
 refine wp_region_any hm ?_
 have hlen:=by have:=(gC _ _ hc).1;simpa using this.symm
 have hf:∀l,xz l=List.replicate l.length false:=by
  intro l
  induction l with
  |nil=>rfl
  |cons o r ih=>grind [xz]
 have:=aas G w hc hx hn bR (xz bR) (Array.replicate ops.size false) E ⟨BY,A_,fun j=>by
  rw[hf,hlen]
  rcases Nat.lt_or_ge j ops.size with hj|hj
  ·simp[hj]
  grind⟩ A_ hw G a {w with drawn:=w.drawn+1} h.drew (aI.drew G w)
 grind
def kH(hm:P.follows .mixedOrders=true):wD P n:=⟨aa2 hm,aa3 hm,aa1 hm,aa4 hm⟩
end
end Go.AB
end
section
namespace Go.AB
open Go Go.RowKit
def B6:ae:=fun _=>none
section
variable{P:Program}{w w':World}
end
end Go.AB
end
