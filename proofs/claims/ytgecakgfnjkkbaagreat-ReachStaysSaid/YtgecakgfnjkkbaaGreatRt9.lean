/- A part. -/
import Derived.Test.YtgecakgfnjkkbaaGreatRt8
import Derived.ProofKit
set_option linter.defProp false
set_option linter.unusedSimpArgs false
set_option linter.unusedVariables false
section
namespace Go.AB
open Go
def kQ(off:Nat):AV->AV
 |.loc cs=>.loc (match cs[off]? with|some (.sl _ sz n ds)=>setAt cs off [.sl false sz n ds]|_=>cs)
 |a=>a
def QL(o:ar)(E:St):St:=match o.op with
 |.px true x=>E.drain x
 |.store _ _ x=>E.drain x
 |.append _ _ x _=>E.drain x
 |.nL off (.t i) _=>{E with e:=(i,kQ off (look E.e i))::E.e}
 |_=>E
def dz(o:ar)(i:Nat)(a:AV):AV:=if jD o i=true then(match o.op with|.nL off _ _=>kQ off a|_=>view a)else a
theorem E7(off:Nat)(a:AV):bF (kQ off a)=bF a:=by cases a<;>rfl
theorem Iu{off:Nat}{a:AV}{c:Nat}(h:bO (kQ off a) c):bO a c:=by cases a<;>first|exact h|exact h.elim
theorem Mz(off:Nat)(a:AV):view (kQ off a)=kQ off (view a):=by cases a<;>rfl
theorem vb(cs:List AV)(off:Nat)(x:AV)(h:off<cs.length)(j:Nat):(setAt cs off [x])[j]? =if j=off then some x else cs[j]? :=by
 unfold setAt
 grind
theorem oZ(off:Nat)(cs:List AV)(j:Nat):(match cs[off]? with|some (.sl _ sz n ds)=>setAt cs off [.sl false sz n ds]|_=>cs)[j]? =if j=off then(cs[j]?).map (fun a=>match a with|.sl _ sz n ds=>.sl false sz n ds|a=>a)else cs[j]? :=by grind [List.getElem?_eq_some_iff,setAt,vb]
theorem KF(o1 o2:Nat)(a:AV):kQ o1 (kQ o2 a)=kQ o2 (kQ o1 a):=by
 cases a<;>first|rfl|skip
 show AV.loc _=AV.loc _
 congr 1
 apply List.ext_getElem?
 intro j
 rw[oZ,oZ,oZ,oZ]
 grind
def cG(E:St)(o:ar)(v:AV):St:=(ch (QL o E) v (rC o)).put (rC o) v
def Qs(sz bytes:Nat)(v:AV):AV->AV->Prop
 |.sl true s n cs,.sl _ s' m ds=>s=sz/\(s'=sz\/m=0)/\(n+m)*bytes<=room/\v=.sl true sz (n+m) (cs++views ds)
 |.sl true s n cs,.str ds=>s=sz/\sz=1/\(n+ds.length)*bytes<=room/\v=.sl true sz (n+ds.length) (cs++ds.map fun c=>.int .u8 c.toNat)
 |_,_=>False
def aby{sz bytes:Nat}{E:St}{x:IX}{d:Option Nat}{K:St->Prop}{a b:AV}(h:mM sz bytes E x d K a b):∃v,Qs sz bytes v a b/\K ((E.drain x).put d v):=by
 unfold mM at h
 split at h
 ·obtain⟨h1,h2,h3,h4⟩:=h;exact⟨_,⟨h1,h2,h3,rfl⟩,h4⟩
 ·obtain⟨h1,h2,h3,h4⟩:=h;exact⟨_,⟨h1,h2,h3,rfl⟩,h4⟩
 grind
def abx{sz bytes:Nat}{E:St}{x:IX}{d:Option Nat}{K:St->Prop}{a b v:AV}(h:Qs sz bytes v a b)(hk:K ((E.drain x).put d v)):mM sz bytes E x d K a b:=by
 unfold Qs at h
 split at h
 ·obtain⟨h1,h2,h3,h4⟩:=h;subst h4;exact⟨h1,h2,h3,hk⟩
 ·obtain⟨h1,h2,h3,h4⟩:=h;subst h4;exact⟨h1,h2,h3,hk⟩
 grind
def H9{sz bytes:Nat}{a b v:AV}(h:Qs sz bytes v a b):∃n cs,v=.sl true sz n cs:=by
 unfold Qs at h
 grind
inductive Y2(P:Program)(E:St):ar->AV->Prop where
 |jh (o:ar) (v:AV) (h0:UM o.op=false) (hf:bn E o.dst=true) (hv:bF v=true) (h:Y P E o v):Y2 P E o v
 |sto (n c:Nat) (x:IX) (jh:List AV) (h0:look E.e c=.loc jh) (h1:jh.length=n) (h2:dF (E.x x)=true) (h3:(bC (E.x x)).length=n):Y2 P E ⟨none,.store n (.t c) x,none⟩ (.loc (bC (E.x x)))
 |alo (d:Nat) (z:List AV) (h0:bF (look E.e d)=true) (h1:mn E.lp (some d)=true):Y2 P E ⟨some d,.kj z,none⟩ (.loc z)
 |app (d sz bytes:Nat) (x y:IX) (v:AV) (h0:bF (look E.e d)=true) (h1:Qs sz bytes v (E.x x) (E.x y)):Y2 P E ⟨some d,.append sz bytes x y,none⟩ v
 |lod (d off i:Nat) (x:IX) (cs:List AV) (o:Bool) (s m:Nat) (ds:List AV) (h0:bF (look E.e d)=true) (h1:E.x x=.lp i off) (h2:look E.e i=.loc cs) (h3:cs[off]? =some (.sl o s m ds)) (h4:d≠i):Y2 P E ⟨some d,.nL off (.t i) x,none⟩ (.sl o s m ds)
def Uu(o:ar):Option Nat:=match o with
 |⟨none,.store _ (.t c) _,none⟩=>some c
 |⟨some d,.kj _,none⟩=>some d
 |_=>none
section
variable{P:Program}{G G':Gh}{n:Nat}{D:List Deferred}{E E':St}{a:Act}{w w':World}{T:List Nat}
theorem Qg{o:ar}(h:UM o.op=false):rC o=o.dst:=by
 obtain⟨d,op,g⟩:=o
 cases op<;>first|(cases h;done)|(cases d<;>rfl)
theorem Xe{o:ar}(h:UM o.op=false):QL o E=dr o E:=by
 obtain⟨d,op,g⟩:=o
 cases op<;>first|(cases h;done)|rfl|skip
 rename_i b x
 cases b<;>rfl
theorem HH{o:ar}{v:AV}(h:UM o.op=false):cG E o v=step E o v:=by grind [cG,step,Qg,Xe]
def Jp{o:ar}{K:St->Prop}(h:q2 P o E K):∃v,Y2 P E o v/\K (cG E o v):=by
 unfold q2 at h
 split at h
 ·rename_i m c x
  cases hl:look E.e c<;>rw[hl]at h<;>first|(exact h.elim)|skip
  rename_i jh
  obtain⟨h1,h2,h3,h4⟩:=h
  exact⟨_,.sto m c x jh hl h1 h2 h3,h4⟩
 ·rename_i d z
  exact⟨_,.alo d z h.1 h.2.1,h.2.2⟩
 ·rename_i d sz bytes x y
  obtain⟨v,h1,h2⟩:=aby h.2
  refine⟨v,.app d sz bytes x y v h.1 h1,?_⟩
  obtain⟨m,cs,rfl⟩:=H9 h1
  exact h2
 ·rename_i d off i x
  obtain⟨k0,k1,k2⟩:=h
  have k1':∃i' o',E.x x=.lp i' o'/\i'=i/\o'=off:=by
   unfold Di at k1
   split at k1
   ·grind
   ·cases k1
  obtain⟨i',o',e1,rfl,rfl⟩:=k1'
  rw[e1]at k2
  have k2:(match look E.e i' with
   |.loc cs=>some d≠some i'/\EG o' cs fun cs' a=>K ((E.put (some i') (.loc cs')).put (some d) a)
   |_=>False):=k2
  cases hl:look E.e i'<;>rw[hl]at k2<;>first|(exact k2.elim)|skip
  rename_i cs
  obtain⟨k3,k4⟩:=k2
  unfold EG at k4
  split at k4
  ·rename_i o s m ds hc
   refine⟨.sl o s m ds,.lod d o' i' x cs o s m ds k0 e1 hl hc (fun e=>k3 (by rw[e])),?_⟩
   have e2:cG E ⟨some d,.nL o' (.t i') x,none⟩ (.sl o s m ds)=(E.put (some i') (.loc (setAt cs o' [.sl false s m ds]))).put (some d) (.sl o s m ds):=by
    unfold cG QL
    simp only[hl,kQ,hc]
    rfl
   grind
  grind
 ·exact h.elim
 ·exact h.elim
 ·exact h.elim
 ·exact h.elim
 ·have h0:UM o.op=false:=by
   obtain⟨d,op,g⟩:=o
   cases op<;>first|rfl|grind|grind|grind|grind
  obtain⟨v,q1,q2,q3⟩:=Oi h.2
  exact⟨v,.jh o v h0 h.1 q1 q2,by grind [HH]⟩
theorem ud(x:IX)(i:Nat):look (E.drain x).e i=if(match x with|.t j=>j==i|.c _=>false)=true then view (look E.e i)else look E.e i:=by
 cases x with
 |c a=>rfl
 |t j=>
  show look ((j,view (look E.e j))::E.e) i=_
  grind [bj]
theorem UN(o:ar)(i:Nat):look (QL o E).e i=dz o i (look E.e i):=by
 obtain⟨d,op,g⟩:=o
 cases op<;>first|rfl|skip
 case px b x=>
  cases b with
  |false=>rfl
  |true=>
   show look (E.drain x).e i=_
   rw[ud]
   cases x<;>rfl
 case store m p x=>
  show look (E.drain x).e i=_
  rw[ud]
  cases x<;>rfl
 case append sz bytes x y=>
  show look (E.drain x).e i=_
  rw[ud]
  cases x<;>rfl
 case nL off j x=>
  cases j with
  |c a=>rfl
  |t j=>
   show look ((j,kQ off (look E.e j))::E.e) i=if(j==i)=true then kQ off (look E.e i)else look E.e i
   grind [bj]
def Iv(x:IX):(E.drain x).s=E.s/\(E.drain x).lp=E.lp:=by cases x<;>exact⟨rfl,rfl⟩
theorem aad(o:ar):(QL o E).s=E.s/\(QL o E).lp=E.lp:=by
 unfold QL
 split
 ·exact Iv _
 ·exact Iv _
 ·exact Iv _
 ·grind
 grind
theorem er(o:ar)(v:AV)(i:Nat):look (cG E o v).e i=if rC o=some i then v else dz o i (look E.e i):=by
 unfold cG
 rw[<-UN]
 cases hd:rC o with
 |none=>grind [St.put,jH,QL]
 |some d=>
  show look ((d,v)::(ch (QL o E) v (some d)).e) i=_
  grind [bj,jH,QL]
theorem qh(o:ar)(v:AV):(cG E o v).s=E.s:=by
 unfold cG
 have:∀(τ:St) d x,(τ.put d x).s=τ.s:=fun τ d x=>IN
 grind [jH,QL,rC,aad]
theorem nk(o:ar)(v:AV)(x:Nat×Nat):x∈(cG E o v).lp↔(x∈E.lp\/∃i,rC o=some i/\x.1=i/\bO v x.2):=by
 have h1:(cG E o v).lp=(ch (QL o E) v (rC o)).lp:=by unfold cG;cases rC o<;>rfl
 grind [aad,Dx,rC]
def wF(T:List Nat)(E:St):Prop:=∀i c,c∈T->¬bO (look E.e i) c
def Aa(T:List Nat)(o:ar)(v:AV):Prop:=∀i,rC o=some i->∀c,c∈T->¬bO v c
def XS(T:List Nat)(o:ar):Prop:=∀c,Uu o=some c->c∈T
def LG:∀{c:Nat}{a:AV},nO c a=true->¬bO a c
 |c,.lp t o,h=>fun e=>by
  subst e
  have h':(!Nat.beq t t)=true:=h
  simp_all
 |c,.when b a,h=>LG (a:=a) h
 |_,.undef,_|_,.bool _,_|_,.int _ _,_|_,.str _,_|_,.fM,_|_,.ref _ _,_|_,.sp _,_|_,.loc _,_|_,.sl _ _ _ _,_|_,.arr _ _ _ _,_|_,.agg _,_|_,.iJ _,_|_,.fn _ _ _,_|_,.pP,_|_,.mp _,_|_,.uf,_|_,.us _ _ _,_|_,.one,_|_,.oQ _,_|_,.mw,_|_,.bb _ _ _,_=>fun h=>h
def Hi:∀{T:List Nat}{a:AV},xh T a=true->∀c,c∈T->¬bO a c
 |c'::T,a,h,c,hc=>by
  have h':(nO c' a&&xh T a)=true:=h
  rw[Bool.and_eq_true]at h'
  rcases List.mem_cons.1 hc with rfl|hc
  ·exact LG h'.1
  ·exact Hi h'.2 c hc
def py:∀{e:List (Nat×AV)},kF T e=true->∀i c,c∈T->¬bO (look e i) c
 |[],_,i,c,_=>fun h=>h
 |(j,a)::e,h,i,c,hc=>by
  have h':(xh T a&&kF T e)=true:=h
  rw[Bool.and_eq_true]at h'
  rw[bj]
  split
  ·exact Hi h'.1 c hc
  ·exact py h'.2 i c hc
theorem OJ{v:AV}{c:Nat}(h:bO (view v) c):bO v c:=by cases v<;>first|exact h|exact h.elim
def Tj{o:ar}{i:Nat}{a:AV}{c:Nat}(h:bO (dz o i a) c):bO a c:=by grind [dz,Iu,OJ]
def QN(o:ar)(i:Nat)(a:AV):bF (dz o i a)=bF a:=by grind [dz,E7,LO]
theorem Gs{o:ar}{i:Nat}{a:AV}(h:¬jD o i=true):dz o i a=a:=if_neg h
def Xh(x y:ar)(i:Nat)(a:AV):dz x i (dz y i a)=dz y i (dz x i a):=by
 unfold dz
 grind [KF,Mz]
theorem Js(m off o:Nat)(a:AV):l9 m off (kQ o a)=l9 m off a:=by
 cases a<;>first|rfl|skip
 rename_i cs
 have hv:views (match cs[o]? with|some (.sl _ sz n ds)=>setAt cs o [.sl false sz n ds]|_=>cs)=views cs:=by
  apply List.ext_getElem?
  intro j
  rw[fx,fx,oZ]
  by_cases hj:j=o
  ·rw[if_pos hj]
   cases cs[j]? with
   |none=>rfl
   |some b=>cases b<;>rfl
  ·grind
 show fN m off _=fN m off cs
 grind [setAt,fN,views,AB.sub,List.map_take,List.map_drop]
def Vy(m off:Nat)(o:ar)(i:Nat)(a:AV):l9 m off (dz o i a)=l9 m off a:=by grind [dz,Js,DU]
def sx{o:ar}{v:AV}(h:wF T E)(hs:Aa T o v):wF T (cG E o v):=fun i c hc=>by
 rw[er]
 split
 ·rename_i ht;exact hs i ht c hc
 ·exact fun hh=>h i c hc (Tj hh)
def Ab{o:ar}{v:AV}(h:wF T (cG E o v)):Aa T o v:=fun i hi c hc=>by
 have:=h i c hc
 rw[er,if_pos hi]at this
 exact this
def VA{o:ar}{v:AV}(hy:Y2 P E o v)(p:AV)(m:Nat)(hp:∀c,Uu o=some c->¬bO p c):rd (cG E o v) p m=rd E p m:=by
 cases p<;>try rfl
 ·rename_i b off
  show rk m off ((cG E o v).s b)=rk m off (E.s b)
  rw[qh]
 ·rename_i d off
  show l9 m off (look (cG E o v).e d)=l9 m off (look E.e d)
  rw[er]
  by_cases hd:rC o=some d
  ·rw[if_pos hd]
   cases hy with
   |jh _ _ h0 hf hv h=>
    rw[Qg h0]at hd
    rw[hd]at hf
    rw[kG hv]
    exact(kG hf m off).symm
   |sto m' c x jh h0 h1 h2 h3=>
    have e:=hd
    injection e with e
    subst e
    exact(hp c rfl rfl).elim
   |alo d' z h0 h1=>
    have e:=hd
    injection e with e
    subst e
    exact(hp d' rfl rfl).elim
   |app d' sz bytes x y _ h0 h1=>
    have e:=hd
    injection e with e
    obtain⟨k,cs,rfl⟩:=H9 h1
    rw[kG rfl]
    grind [kG]
   |lod d' Rm i x cs o s m' ds h0 h1 h2 h3 h4=>
    have e:=hd
    injection e with e
    rw[kG rfl]
    grind [kG]
  ·rw[if_neg hd]
   exact Vy ..
def afU{o:ar}(h:cOK o=true){a:AV}(ha:IX.c a∈eT o.op)(c:Nat):¬bO a c:=by
 have:=List.all_eq_true.1 h _ ha
 cases a<;>first|exact fun h=>h|grind
def R7{g:Bool}:∀{a:AV}{c:Nat},bO (vi g a) c->bO a c:=by
 intro a c h
 cases a
 case when b a=>
  have h':bO (bif(b==g||b)&&inner a then a else AV.undef) c:=h
  cases hb:((b==g||b)&&inner a)<;>rw[hb]at h'
  ·exact h'.elim
  ·exact h'
 all_goals exact h
def Ww{o:ar}(hc:cOK o=true)(h:wF T E){x:IX}(hx:x∈eT o.op)(g:Bool){c:Nat}(ht:c∈T):¬bO (xg g E x) c:=fun hh=>by
 have h':=R7 hh
 cases x with
 |c a=>exact afU hc hx c h'
 |t i=>exact h i c ht h'
def uH{o y:ar}{v:AV}(hy:Y2 P E y v)(hn:iP (rC y) (cH o)=true)(hdr:Bb y o=true)(hc:cOK o=true)(hN:wF T E)(hT:XS T y):J6 o E (cG E y v):=by
 have key:∀i,i∈cH o->look (cG E y v).e i=look E.e i:=by
  intro i hi
  have h1:¬jD y i=true:=by
   have:=List.all_eq_true.1 hdr i hi
   simpa using this
  rw[er,if_neg,Gs h1]
  intro hd
  rw[hd]at hn
  simp[iP]at hn
  exact hn hi
 refine⟨fun x hx=>?_,fun t want hg=>?_,(qh y v).symm,fun x hx g m=>(VA hy _ m fun c hc'=>Ww hc hN hx g (hT c hc')).symm⟩
 ·cases x with
  |c a=>rfl
  |t i=>exact(key i (List.mem_append_right _ (iO hx))).symm
 ·exact(key t (List.mem_append_left _ Xc4)).symm
def Y2.MT{o:ar}{v:AV}(hy:Y2 P E o v)(h:J6 o E E')(hf:∀i,o.dst=some i->bF (look E'.e i)=bF (look E.e i))(hl:∀i,Uu o=some i->mn E.lp (some i)=true->mn E'.lp (some i)=true):Y2 P E' o v:=by
 cases hy with
 |jh _ _ h0 hs hv h1=>
  refine .jh o v h0 ?_ hv (h1.MT h)
  cases hd:o.dst with
  |none=>rfl
  |some i=>
   rw[hd]at hs
   show bF (look E'.e i)=true
   rw[hf i hd];exact hs
 |sto m c x jh h0 h1 h2 h3=>
  have e1:look E.e c=look E'.e c:=h.xs (.t c) PE
  have e2:=h.xs x PE
  rw[e2]at h2 h3⊢
  exact .sto m c x jh A_ h1 h2 h3
 |alo d z h0 h1=>exact .alo d z A_ (hl d rfl h1)
 |app d sz bytes x y _ h0 h1=>
  have e1:=h.xs x PE
  have e2:=h.xs y PE
  exact .app d sz bytes x y v A_ A_
 |lod d off i x cs o s m ds h0 h1 h2 h3 h4=>
  have e1:=h.xs x PE
  have e2:look E.e i=look E'.e i:=h.xs (.t i) PE
  exact .lod d off i x cs o s m ds A_ A_ A_ h3 h4
theorem l6.cG(h:l6 E E')(o:ar)(v:AV):l6 (AB.cG E o v) (AB.cG E' o v):=⟨fun i=>by rw[er,er,h.e],fun x=>by rw[nk,nk,h.lp],by rw[qh,qh,h.s]⟩
def ng{l l':List (Nat×Nat)}{i:Nat}(h:∀x∈l',x.2=i->x∈l)(hf:mn l (some i)=true):mn l' (some i)=true:=by
 refine List.all_eq_true.2 fun x hx=>?_
 cases hb:Nat.beq x.2 i with
 |false=>rfl
 |true=>
  have:=List.all_eq_true.1 hf x (h x hx (Nat.eq_of_beq_eq_true hb))
  grind
def Y2.eqv{o:ar}{v:AV}(hy:Y2 P E o v)(h:l6 E E'):Y2 P E' o v:=hy.MT (h.MT o) (fun i _=>by rw[h.e]) fun i _ hf=>ng (fun x hx _=>(h.lp x).2 hx) hf
def Ez{x y:ar}{u v:AV}(hne:∀i j,rC x=some i->rC y=some j->i≠j)(hxy:∀i,rC y=some i->jD x i=false)(hyx:∀i,rC x=some i->jD y i=false):l6 (cG (cG E x u) y v) (cG (cG E y v) x u):=
 ⟨fun i=>by
   rw[er,er,er,er]
   by_cases h1:rC y=some i
   ·by_cases h2:rC x=some i
    ·grind
    ·rw[if_pos h1,if_neg h2,if_pos h1,Gs A_]
   ·by_cases h2:rC x=some i
    ·rw[if_neg h1,if_pos h2,if_pos h2,Gs A_]
    ·rw[if_neg h1,if_neg h2,if_neg h2,if_neg h1]
     exact Xh _ _ _ _,fun z=>by
   grind [nk],by grind [qh]⟩
theorem RH{jh news:List AV}(h:news.length=jh.length):setAt jh 0 news=news:=by
 unfold setAt
 grind
theorem Xx(d sz bytes:Nat)(x y:IX)(K:St->Prop):MF P ⟨some d,.append sz bytes x y,none⟩ E K=mM sz bytes E x (some d) K (E.x x) (E.x y):=D_
theorem Y2.run(h:Inv G n D E a w){ops:Array Oper}{o:Oper}{o':ar}{v:AV}(hc:iW P n ops o o'=true)(hy:Y2 P E o' v){next:Act->World->Prop}{Q:Exit->Act->World->Prop}
 (hn:∀G' a' w',Inv G' n D (cG E o' v) a' w'->aI G w G' w'->next a' w'):BM P ops o a w next Q:=by
 have gen:MF P o' E (fun τ=>τ=cG E o' v)->BM P ops o a w next Q:=fun hg=>iu h hc hg fun G' E' a' w' h1 h2 h3=>A_
 cases hy with
 |jh _ _ h0 _ _ h1=>exact h1.run h hc fun G' a' w' k1 k2=>hn G' a' w' (by grind [HH]) k2
 |sto m c x jh h0 h1 h2 h3=>
  refine gen ?_
  refine⟨h2,h3,?_⟩
  have e:MB (E.drain x) (E.x (.t c)) (.t c) (bC (E.x x))=some ((E.drain x).put (some c) (.loc (bC (E.x x)))):=by
   have e1:E.x (.t c)=.loc jh:=h0
   rw[e1]
   show wrL (E.drain x) c (fQ 0 (bC (E.x x)) jh)=_
   unfold fQ
   rw[decide_eq_true AT,RH AT]
   rfl
  rw[e]
  rfl
 |alo d z h0 h1=>exact gen ⟨h1,rfl⟩
 |app d sz bytes x y _ h0 h1=>
  refine gen ?_
  rw[Xx]
  refine abx h1 ?_
  obtain⟨k,cs,rfl⟩:=H9 h1
  rfl
 |lod d off i x cs o s m ds h0 h1 h2 h3 h4=>
  refine gen ?_
  show Di (.t i) off (E.x x)=true/\sf E (some d) _ (E.x x)
  rw[h1]
  refine⟨by simp[Di],?_⟩
  show match look E.e i with|.loc cs=>some d≠some i/\EG off cs _|_=>False
  rw[h2]
  refine⟨fun e=>h4 A_,?_⟩
  unfold EG
  unfold cG QL
  simp[h2,kQ,h3]
  rfl
theorem L7{ops:Array Oper}{Q:Exit->Act->World->Prop}{K:St->Prop}(G₀:Gh)(w₀:World)
 (hn:∀G' E' a' w',Inv G' n D E' a' w'->aI G₀ w₀ G' w'->K E'->Q .normal a' w'):∀(q:Nat)(l:List Oper)(l':List ar)(G:Gh)(E:St)(a:Act)(w:World),cI P n ops l l'=true->Inv G n D E a w->aI G₀ w₀ G w->Fz P T q l' E K->wpList P ops Q l a w
 |0,l,l',G,E,a,w,hc,h,hp,hk=>rA G₀ w₀ hn l l' G E a w hc h hp hk
 |_+1,[],[],G,E,a,w,_,h,hp,hk=>hn G E a w h hp hk
 |q+1,o::l,o'::l',G,E,a,w,hc,h,hp,hk=>by
  simp[cI,Bool.and_eq_true]at hc
  obtain⟨v,hy,hk⟩:=Jp hk
  exact hy.run h hc.1 fun G' a' w' h1 h2=>L7 G₀ w₀ hn q l l' G' _ a' w' hc.2 h1 (hp.trans h2) hk.2
 |_+1,[],_::_,_,_,_,_,hc,_,_,_=>by simp[cI]at hc
 |_+1,_::_,[],_,_,_,_,hc,_,_,_=>by simp[cI]at hc
def rI(P:Program)(T:List Nat):St->te->Prop
 |_,[]=>True
 |E,(_,o,v)::r=>Y2 P E o v/\Aa T o v/\XS T o/\rI P T (cG E o v) r
def KU:St->te->St
 |E,[]=>E
 |E,(_,o,v)::r=>KU (cG E o v) r
def rI.eqv:∀{p:te}{E E':St},l6 E E'->rI P T E p->rI P T E' p
 |[],_,_,_,_=>trivial
 |(_,o,v)::r,_,_,h,⟨h1,h2,h3,h4⟩=>⟨h1.eqv h,h2,h3,rI.eqv (h.cG o v) h4⟩
def KW:∀(p:te){E E':St},l6 E E'->l6 (KU E p) (KU E' p)
 |[],_,_,h=>h
 |(_,o,v)::r,_,_,h=>KW r (h.cG o v)
theorem tE{o:ar}{i:Nat}(h:jD o i=true):i∈cH o:=by
 unfold jD at h
 split at h
 ·rename_i j hop
  have:j=i:=A_
  subst this
  refine List.mem_append_right _ ?_
  rw[hop];exact List.mem_cons_self
 ·rename_i m p j hop
  have:j=i:=A_
  subst this
  refine List.mem_append_right _ ?_
  rw[hop]
  cases p with
  |t k=>exact List.mem_cons_of_mem _ List.mem_cons_self
  |c k=>exact List.mem_cons_self
 ·rename_i sz bytes j y hop
  have:j=i:=A_
  subst this
  refine List.mem_append_right _ ?_
  rw[hop];exact List.mem_cons_self
 ·rename_i off j x hop
  have:j=i:=A_
  subst this
  refine List.mem_append_right _ ?_
  rw[hop];exact List.mem_cons_self
 ·cases h
def Kc{x y:ar}(h:ZN x y=true):iP (rC x) (cH y)=true/\iP (rC y) (cH x)=true/\(∀i j,rC x=some i->rC y=some j->i≠j)/\Bb x y=true/\Bb y x=true/\(∀i,rC y=some i->jD x i=false)/\(∀i,rC x=some i->jD y i=false)/\cOK x=true/\cOK y=true:=by
 unfold ZN at h
 grind [iP,jD,absurd,tE]
theorem uM{o:ar}{i:Nat}(h:o.dst=some i):rC o=some i:=by
 obtain⟨d,op,g⟩:=o
 have h':=h
 subst h'
 cases op<;>rfl
def lQ{y:ar}{v:AV}{i:Nat}(h:rC y≠some i):bF (look (cG E y v).e i)=bF (look E.e i):=by
 rw[er,if_neg h]
 exact QN _ _ _
def aaT{x:Nat×ar×AV}:∀(pre:te)(post:te)(E:St),wF T E->(∀y∈pre,ZN y.2.1 x.2.1=true)->rI P T E (pre++x::post)->
 Y2 P E x.2.1 x.2.2/\Aa T x.2.1 x.2.2/\XS T x.2.1/\rI P T (cG E x.2.1 x.2.2) (pre++post)/\l6 (KU (cG E x.2.1 x.2.2) (pre++post)) (KU E (pre++x::post))
 |[],post,E,_,_,h=>⟨h.1,h.2.1,h.2.2.1,h.2.2.2,l6.refl _⟩
 |(k,o,v)::pre,post,E,hN,hap,h=>by
  obtain⟨h1,h2,h3,h4⟩:=h
  obtain⟨i1,i2,i3,i4,i5⟩:=aaT pre post (cG E o v) (sx hN h2) (fun y hy=>hap y (List.mem_cons_of_mem _ hy)) h4
  obtain⟨a1,a2,a3,a4,a5,a6,a7,c1,c2⟩:=Kc (hap (k,o,v) List.mem_cons_self)
  have hx:=i1.MT (uH h1 a1 a4 c2 hN h3).symm
   (fun i hi=>(lQ fun e=>a3 i i e (uM hi) rfl).symm)
   (fun i hi hf=>ng (fun z hz _=>(nk o v z).2 (.inl hz)) hf)
  have ho:=h1.MT (uH hx a2 a5 c1 hN i3)
   (fun i hi=>lQ fun e=>a3 i i (uM hi) e rfl)
   (fun i hi hf=>ng (fun z hz hzi=>by
     rcases(nk _ _ z).1 hz with hz|⟨j,j1,_,j3⟩
     ·exact hz
     ·rw[hzi]at j3;exact(i2 j j1 i (h3 i hi) j3).elim) hf)
  have GL:l6 (cG (cG E o v) x.2.1 x.2.2) (cG (cG E x.2.1 x.2.2) o v):=Ez a3 a6 a7
  refine⟨hx,i2,i3,⟨ho,h2,h3,i4.eqv GL⟩,?_⟩
  exact(KW (pre++post) GL.symm).trans i5
end
section
variable{P:Program}{G G':Gh}{n:Nat}{D:List Deferred}{E E':St}{a:Act}{w w':World}{ops:Array Oper}{bQ:List ar}{q:Nat}{T:List Nat}
def QB{l:List ar}{o:ar}(h:SP T bQ q=true)(hl:l=bQ.take q)(ho:o∈l):XS T o:=fun c hc=>by
 subst hl
 have:=List.all_eq_true.1 h o ho
 grind [Uu]
def Hx{K:St->Prop}:∀(q:Nat)(l:List ar)(E:St)(k:Nat),q<=l.length->(∀o∈l.take q,XS T o)->Fz P T q l E K->∃vs:List AV,vs.length=q/\rI P T E (mk k l vs)/\swp P (l.drop q) (KU E (mk k l vs)) K
 |0,l,E,k,_,_,h=>⟨[],rfl,by cases l<;>trivial,by cases l<;>exact h⟩
 |q+1,[],_,_,hl,_,_=>by grind
 |q+1,o::l,E,k,hl,hT,h=>by
  obtain⟨v,hy,hno,hk⟩:=Jp (h)
  obtain⟨vs,h2,h3,h4⟩:=Hx q l (cG E o v) (k+1) A_ (fun o' ho'=>hT o' A_) hk
  exact⟨v::vs,A_,⟨hy,Ab fun i c hc=>py hno i c hc,hT o BY,h3⟩,h4⟩
def RF{Q:Exit->Act->World->Prop}(G₀:Gh)(w₀:World)(f:Nat)(hc:cI P n ops ops.toList bQ=true)(hq:q<=ops.size)(h1:O0 ops q=true)(h2:Gq ops q=true)(h3:SQ ops q bQ=true)(h4:q<ops.size->Region.ready .any ops (qA ops.size q)=[q]):
 ∀(m:Nat)(kZ:te),kZ.length=m->∀(aS:Array Bool)(E:St),Good ops bQ q kZ aS->wF T E->rI P T E kZ->
  (∀G a w,Inv G n D (KU E kZ) a w->aI G₀ w₀ G w->wpAny P .any ops Q f (qA ops.size q) a w)->∀(G:Gh)(a:Act)(w:World),Inv G n D E a w->aI G₀ w₀ G w->wpAny P .any ops Q (m+f) aS a w:=by
 intro m
 induction m with
 |zero=>
  intro kZ hp aS E hg _ _ hT G a w h hpr
  have:kZ=[]:=List.eq_nil_of_length_eq_zero hp
  subst this
  rw[Qj hg,Nat.zero_add]
  exact hT G a w h hpr
 |succ m ih=>
  intro kZ hp aS E hg hNo hch hT G a w h hpr
  obtain⟨hlen,kq⟩:=gB _ _ hc
  rw[show m+1+f=(m+f)+1 by omega]
  refine⟨fun h0=>?_,fun i hi=>?_⟩
  ·
   cases kZ with
   |nil=>simp at hp
   |cons x kZ=>
    obtain⟨k,o,v⟩:=x
    obtain⟨u1,u2,u3⟩:=hg.un k o v List.mem_cons_self
    have IJ:k∈Region.ready .any ops aS:=by
     have hk:k<ops.size:=AT
     refine mem_ready.2 ⟨u2,ops[k],Array.getElem?_eq_getElem hk,fun e he hb=>?_⟩
     have hs:=List.all_eq_true.1 h1 k (List.mem_range.2 u1)
     rw[Array.getElem?_eq_getElem hk]at hs
     have:=Array.all_eq_true_iff_forall_mem.1 hs e he
     rw[hb]at this
     have hlt:e.on<k:=by simpa using this
     refine hg.li e.on AT fun o' v' hm=>?_
     rcases List.mem_cons.1 hm with hm|hm
     ·grind
     ·have:=(List.pairwise_cons.1 hg.sorted).1 _ hm
      grind
    grind
  ·obtain⟨r1,r2,r3⟩:=kX hi
   have hne:∃k o v,(k,o,v)∈kZ:=by
    cases kZ with
    |nil=>simp at hp
    |cons x kZ=>grind
   have hiq:i<q:=by
    refine Classical.byContradiction fun hge=>?_
    have hqs:q<ops.size:=AT
    by_cases hiq':i=q
    ·subst hiq'
     have ee:∀(d k:Nat),k<i->i -k=d->aS.getD k false=true:=by
      intro d
      induction d using Nat.strongRecOn with
      |_ d ihd=>
       intro k hk hd
       have hs:((List.range i).all fun k=>(List.range (i+1)).any fun m=>decide (k<m)&&iU ops m k)=true:=by
        unfold Gq at h2
        rw[Bool.or_eq_true]at h2
        rcases h2 with h2|h2
        ·grind
        ·exact h2
       obtain⟨m',hm1,hm2⟩:=List.any_eq_true.1 (List.all_eq_true.1 hs k (List.mem_range.2 hk))
       rw[Bool.and_eq_true,decide_eq_true_eq]at hm2
       have akm:=List.mem_range.1 hm1
       by_cases hmi:m'=i
       ·grind
       ·exact hg.cl m' AT (ihd (i -m') AT m' AT rfl) k hm2.2
     obtain⟨k,o,v,hk⟩:=hne
     obtain⟨u1,u2,u3⟩:=hg.un k o v hk
     grind
    ·have hnr:i∉Region.ready .any ops (qA ops.size q):=by rw[h4 hqs];simpa using hiq'
     apply hnr
     refine mem_ready.2 ⟨?_,ops[i],Array.getElem?_eq_getElem r1,fun e he hb=>?_⟩
     ·simp[qA,r1];omega
     ·have hl:=r3 e.on ((mU (Array.getElem?_eq_getElem r1)).2 ⟨e,he,hb,rfl⟩)
      have hlt:e.on<q:=by
       refine Classical.byContradiction fun hnl=>?_
       by_cases hs:e.on<ops.size
       ·have:=hg.tl e.on AT hs
        grind
       ·have:aS.getD e.on false=false:=by simp[Array.getElem?_eq_none (show aS.size<=e.on by rw[hg.size];omega)]
        grind
      simp[qA,show e.on<ops.size by omega,hlt]
   have hin:∃o v,(i,o,v)∈kZ:=by
    apply Classical.byContradiction
    intro hno
    have:=hg.li i hiq fun o v hm=>hno ⟨o,v,hm⟩
    have:=yh this
    rw[r2]at this
    cases this
   obtain⟨o',v,hin⟩:=hin
   obtain⟨pre,post,rfl⟩:=List.append_of_mem hin
   have AW:=List.pairwise_append.1 hg.sorted
   have hap:∀y∈pre,ZN y.2.1 o'=true:=by
    intro y hy
    obtain⟨k,o,u⟩:=y
    have hlt:k<i:=AW.2.2 _ hy _ List.mem_cons_self
    obtain⟨u1,u2,u3⟩:=hg.un k o u (List.mem_append_left _ hy)
    obtain⟨_,_,u4⟩:=hg.un i o' v BY
    have hs:=List.all_eq_true.1 (List.all_eq_true.1 h3 i (List.mem_range.2 hiq)) k (List.mem_range.2 hlt)
    rw[Bool.or_eq_true]at hs
    rcases hs with hs|hs
    ·grind
    ·grind [ZO]
   obtain⟨p1,p2,p3,p4,p5⟩:=aaT pre post E hNo hap hch
   obtain⟨_,_,u4⟩:=hg.un i o' v BY
   have ho:ops.toList[i]? =some ops[i]:=S_
   refine pJ (o:=ops[i]) S_ (Y2.run h (kq i _ _ ho u4) p1 fun G' a' w' k1 k2=>?_)
   exact ih (pre++post) A_ _ (cG E o' v) (GK hg hi) (sx hNo p2) p4 (fun G'' a'' w'' z1 z2=>hT G'' a'' w'' (z1.eqv p5) z2) G' a' w' k1 (hpr.trans k2)
def abN(hm:P.follows .mixedOrders=true):ZH P n:=by
 intro D draw id ops bQ T q G E a w K Q hc hd h hno hw hn
 cases draw with
 |false=>grind [wp_region_list,L7,aI.refl]
 |true=>
 have hd:=hd rfl
 simp only[Ig,Bool.and_eq_true,decide_eq_true_eq]at hd
 obtain⟨hq,h1,h2,h3,hl0,h4⟩:=hd
 obtain⟨hlen,kq⟩:=gB _ _ hc
 have hsz:bQ.length=ops.size:=by rw[<-hlen];simp
 obtain⟨vs,e1,e2,e3⟩:=Hx q bQ E 0 AT (fun o ho=>QB hl0 rfl ho) hw
 have hmk:(mk 0 bQ vs).length=q:=by
  have:∀(l:List ar)(vs:List AV)(k:Nat),vs.length<=l.length->(mk k l vs).length=vs.length:=by
   intro l
   induction l with
   |nil=>intro vs k hl;cases vs with
    |nil=>rfl
    |cons=>simp at hl
   |cons o l ih=>intro vs k hl;cases vs with
    |nil=>rfl
    |cons v vs=>grind [mk]
  rw[this bQ vs 0 AT,e1]
 refine wp_region_any hm ?_
 have hrq:q<ops.size->Region.ready .any ops (qA ops.size q)=[q]:=by
  intro hlt
  obtain⟨d,hd⟩:∃d,ops.size -q=d+1:=⟨ops.size -q -1,AT⟩
  rw[hd]at h4
  simp only[rQ,Bool.and_eq_true,beq_iff_eq]at h4
  exact h4.1
 have hT:∀G' a' w',Inv G' n D (KU E (mk 0 bQ vs)) a' w'->aI G w G' w'->wpAny P .any ops Q (ops.size -q) (qA ops.size q) a' w':=by
  intro G' a' w' z1 z2
  have hl:(bQ.drop q).length=ops.size -q:=N_
  have:=xC G w hc hn (bQ.drop q) q (qA ops.size q) G' _ a' w' rfl A_ e3 z1 z2
  rwa[hl]at this
 have ks:Good ops bQ q (mk 0 bQ vs) (Array.replicate ops.size false):=by
  have NB:∀k b,k<ops.size->(Array.replicate ops.size false).getD k b=false:=fun k b hk=>by simp[hk]
  refine⟨BY,fun k o v hk=>?_,fun k hk hno=>?_,fun j _ hj=>NB j _ hj,fun m hm hl i hi=>?_,Ac bQ vs 0⟩
  ·obtain⟨j,j1,j2,j3⟩:=I9 bQ vs 0 k o v hk
   have:k=j:=AT
   subst this
   exact⟨AT,NB k _ AT,j3⟩
  ·obtain⟨o,v,hh⟩:=N5 bQ vs 0 k AT AT
   grind
  ·rw[NB m _ AT]at hl;cases hl
 have:=RF (T:=T) (P:=P) (n:=n) (Q:=Q) G w (ops.size -q) hc hq h1 h2 h3 hrq q (mk 0 bQ vs) hmk _ E ks (fun i c hc=>py hno i c hc) e2 hT G a {w with drawn:=w.drawn+1} h.drew (aI.drew G w)
 grind
end
section
variable{P:Program}{G G':Gh}{n:Nat}{D:List Deferred}{E E':St}{a:Act}{w w':World}{T:List Nat}
def uB(a:AV):Prop:=bF a=true/\∀t,¬bO a t
def MW{f:Nat}{s:ae}{C C':AV->ae->Prop}(hc:∀a s',uB a->C a s'->C' a s'):∀{o:Option (List AV)},zt P f s C o->zt P f s C' o
 |some _,h=>FN.mono h fun rs s'⟨h1,h2⟩=>⟨h1,hc _ _ ⟨qb h1,uZ h1⟩ h2⟩
 |none,h=>h
def Kk{s:ae}{C C':AV->ae->Prop}(hc:∀a s',uB a->C a s'->C' a s'){o:Option (List AV)}{x:AV}(h:uJ P o s C x):uJ P o s C' x:=by
 unfold uJ at h⊢
 split at h
 ·unfold Kj at h⊢
  split at h
  ·exact⟨h.1,FN.mono h.2 fun rs s'⟨h1,h2⟩=>⟨h1,hc _ _ ⟨qb h1,uZ h1⟩ h2⟩⟩
  ·exact h
 ·exact h
theorem HO(b o l c:Nat):uB (.arr b o l c):=⟨rfl,fun _ h=>h⟩
def HP(b o:Nat):uB (.ref b o):=⟨rfl,fun _ h=>h⟩
def Wj(b:Nat):uB (.mp b):=⟨rfl,fun _ h=>h⟩
theorem HQ(l:List AV):uB (.iJ l):=⟨rfl,fun _ h=>h⟩
def xR{o:rF}{C C':AV->ae->Prop}(hc:∀a s',uB a->C a s'->C' a s')(h:sP P o E C):sP P o E C':=by
 cases o<;>first|(exact h.elim)|skip
 case call f args=>exact MW hc h
 case iL x args=>exact Kk hc h
 case makeMap=>exact fun b hb=>hc _ _ (Wj b) (h b hb)
 case nv z=>exact fun b hb=>hc _ _ (HP b 0) (h b hb)
 case Bq m x=>exact⟨h.1,h.2.1,fun b hb=>hc _ _ (HP b 0) (h.2.2 b hb)⟩
 case lP sz by' z l c=>
  have h:tu by' z E.s C (xg true E l) (xg true E c):=h
  show tu by' z E.s C' (xg true E l) (xg true E c)
  unfold tu at h⊢
  grind [HO]
 case store m p v=>
  have h:pV m E.s C (E.x v) (E.x p):=h
  show pV m E.s C' (E.x v) (E.x p)
  unfold pV at h⊢
  split at h
  ·have h4:=h.2.2.2
   unfold OV at h4⊢
   grind [HQ]
  ·exact h
 case nK x=>
  have h:oP E.s C (E.x x):=h
  show oP E.s C' (E.x x)
  unfold oP at h⊢
  split at h
  ·unfold uK at h⊢
   split at h
   ·unfold kH at h⊢
    split at h
    ·exact hc _ _ ⟨rfl,fun _ h=>h⟩ h
    ·exact hc _ _ ⟨rfl,fun _ h=>h⟩ h
    ·exact h
   ·exact h
  ·exact h
 case mapUpdate kk x k v=>
  have h:Gp kk E.s (xg true E k) (xg true E v) C (xg true E x):=h
  show Gp kk E.s (xg true E k) (xg true E v) C' (xg true E x)
  unfold Gp at h⊢
  split at h
  ·unfold MX at h⊢
   grind [HQ]
  ·exact h
def Cz{o:rF}{C:AV->ae->Prop}(hx:∀x∈eT o,E.x x=E'.x x)(hs:E.s=E'.s)(h:sP P o E C):sP P o E' C:=by
 have hg:∀x∈eT o,xg true E x=xg true E' x:=fun x h=>by grind [xg]
 cases o<;>first|(exact h.elim)|skip
 case call f args=>
  show zt P f E'.s C (cL (xg true E') args)
  rw[<-hs,<-iK args hg];exact h
 case iL x args=>
  show uJ P (cL (xg true E') args) E'.s C (xg true E' x)
  rw[<-hs,<-iK args fun y hy=>hg y (List.mem_cons_of_mem _ hy),<-hg x List.mem_cons_self];exact h
 case makeMap=>grind [sP]
 case nv z=>grind [sP]
 case Bq m x=>rw[sP,<-hs,<-hg x List.mem_cons_self];exact h
 case lP sz by' z l c=>grind [sP,eT]
 case store m p v=>grind [sP,eT]
 case nK x=>rw[sP,<-hs,<-hx x List.mem_cons_self];exact h
 grind [kk,sP,eT]
def OK{a:AV}(h:LN a=true)(hv:dF a=true):view a=a:=by
 cases a<;>first|rfl|skip
 ·rename_i o z m cs
  cases o
  ·rfl
  ·cases h
 ·cases hv
 ·cases hv
 ·cases h
theorem l6.put(h:l6 E E')(d:Option Nat)(v:AV):l6 (E.put d v) (E'.put d v):=by
 cases d with
 |none=>exact h
 |some d=>exact⟨fun i=>by show look ((d,v)::E.e) i=look ((d,v)::E'.e) i;rw[bj,bj,h.e],h.lp,h.s⟩
def l6.Ql(h:l6 E E')(s:ae):l6 {E with s:=s} {E' with s:=s}:=⟨h.e,h.lp,rfl⟩
def QM{x:IX}(h:view (E.x x)=E.x x):l6 (E.drain x) E:=by
 cases x with
 |c a=>exact l6.refl _
 |t i=>
  refine⟨fun j=>?_,fun _=>Iff.rfl,rfl⟩
  show look ((i,view (look E.e i))::E.e) j=_
  rw[bj]
  by_cases e:i=j
  ·subst e;simp;exact h
  ·simp[e]
def WO{o:ar}{K:St->Prop}(hK:∀τ U',l6 τ U'->K τ->K U')(h:WA P o E K):MF P o E K:=by
 obtain⟨d,op,g⟩:=o
 cases g with
 |some _=>exact h.elim
 |none=>
 replace h:=h.2
 cases op<;>first|(exact h.elim)|skip
 case call f args=>
  show vT P f E d K (cL (xg true E) args)
  have h:zt P f E.s (Sy E d K) (cL (xg true E) args):=h
  cases hh:cL (xg true E) args<;>rw[hh]at h<;>exact h
 case iL x args=>
  show wP P E (cL (xg true E) args) d K (xg true E x)
  have h:uJ P (cL (xg true E) args) E.s (Sy E d K) (xg true E x):=h
  cases hh:cL (xg true E) args<;>cases hx:xg true E x<;>rw[hh,hx]at h<;>exact h
 case makeMap=>exact h
 case nv z=>exact h
 case Bq m x=>exact h
 case lP sz by' z l c=>
  show yF by' z E d K (xg true E l) (xg true E c)
  have h:tu by' z E.s (Sy E d K) (xg true E l) (xg true E c):=h
  cases hl:xg true E l<;>cases hc:xg true E c<;>rw[hl,hc]at h<;>exact h
 case store m p v=>
  show OC m E p v d K (E.x v)
  have h:pV m E.s (Sy E d K) (E.x v) (E.x p):=h
  unfold pV at h
  split at h
  ·rename_i b off hp
   obtain⟨h1,h2,h3,h4⟩:=h
   refine⟨h1,h3,?_⟩
   have hd:=QM (OK h2 h1)
   rw[hp]
   show Sk d K (Wp (E.drain v) b off (bC (E.x v)) ((E.drain v).s b))
   rw[hd.s]
   unfold OV at h4
   split at h4
   ·rename_i jh ho
    rw[ho]
    show Sk d K (wrS (E.drain v) b (fQ off (bC (E.x v)) jh))
    unfold fQ
    rw[decide_eq_true h4.1]
    refine hK _ _ ?_ h4.2
    have e:l6 {E with s:=E.s.set b (.cells (setAt jh off (bC (E.x v))))} {E.drain v with s:=(E.drain v).s.set b (.cells (setAt jh off (bC (E.x v))))}:=by rw[hd.s];exact hd.symm.Ql _
    exact e.put d _
   grind
  grind
 case nK x=>
  show sf E d K (E.x x)
  have h:oP E.s (Sy E d K) (E.x x):=h
  unfold oP at h
  split at h
  ·rename_i b off hx
   rw[hx]
   unfold sf
   simp only
   unfold uK at h
   split at h
   ·rename_i cs he
    first|exact h|(rw[he];exact h)
   grind
  grind
 case mapUpdate kk x k v=>
  show yG kk E (xg true E k) (xg true E v) d K (xg true E x)
  have h:Gp kk E.s (xg true E k) (xg true E v) (Sy E d K) (xg true E x):=h
  unfold Gp at h
  split at h
  ·rename_i b hx
   rw[hx]
   show R8 kk b E (xg true E k) (xg true E v) d K (E.s b)
   unfold MX at h
   split at h
   ·rename_i es he
    rw[he];exact h
   grind
  grind
theorem ahB{o:ar}{g:Bool}(h:nj o E=true)(s:ae):pv o.op (xg g {E with s:=s}) {E with s:=s}=pv o.op (xg g E) E:=by
 have hf:xg g {E with s:=s}=xg g E:=D_
 obtain⟨d,op,gg⟩:=o
 cases op<;>first|rfl|skip
 case px tr x=>cases tr<;>rfl
 case slice sz x lo hi mx=>cases mx<;>rfl
 case load m multi x=>
  have h:pz (E.x x)=true:=h
  have hn:pz (xg g E x)=true:=by
   unfold xg vi
   split
   ·rename_i b a hb
    rw[hb]at h
    cases hc:((b==g)||b)&&inner a
    ·rfl
    ·exact h
   ·exact h
  show j9 multi (rd {E with s:=s} (xg g E x) m)=j9 multi (rd E (xg g E x) m)
  cases he:xg g E x<;>first|rfl|(rw[he]at hn;cases hn)
 case kE z m x=>cases h
 case nN k x=>cases h
 case len c x=>
  show BK s c (xg g E x)=BK E.s c (xg g E x)
  match c,h with
  |0,_=>cases xg g E x<;>rfl
  |1,_=>cases xg g E x<;>rfl
  |c+3,_=>cases xg g E x<;>rfl
 case WC ne x y=>
  cases y with
  |t i=>rfl
  |c a=>
   cases a<;>first|rfl|skip
   rename_i o z m cs
   cases o<;>cases m<;>cases cs<;>rfl
theorem alf{o:ar}(h:nj o E=true)(s:ae):qv o {E with s:=s}=qv o E:=by
 unfold qv
 split
 ·exact ahB h s
 ·unfold Ol
  grind [Zx,ahB]
theorem ahY{o:ar}(h:nj o E=true)(s:ae)(f:IX->AV):qe f s o.op=qe f E.s o.op:=by
 obtain⟨d,op,gg⟩:=o
 cases op<;>first|rfl|(cases h)
theorem ahW{o:ar}(h:nj o E=true)(s:ae):EW o {E with s:=s}=EW o E:=by
 have hf:∀g,xg g {E with s:=s}=xg g E:=fun g=>D_
 unfold EW
 split
 ·grind [ahY]
 ·unfold P2
  grind [Sl,qe,xg,ahY]
def adR(d:Option Nat)(s:ae):bn {E with s:=s} d=bn E d:=D_
def Y2.Ql{o:ar}{v:AV}(hy:Y2 P E o v)(h:nj o E=true)(s:ae):Y2 P {E with s:=s} o v:=by
 cases hy with
 |jh _ _ h0 hf hv hy=>
  refine .jh o v h0 L_ hv ?_
  cases hy with
  |pure _ _ hq=>exact .pure o v (by grind [alf])
  |px d x hi=>exact .px d x hi
  |call=>cases h
  |Ko=>cases h
  |iL=>cases h
  |CJ=>cases h
  |eff _ _ hq=>exact .eff o v (by grind [ahW])
 |sto m c x jh h0 h1 h2 h3=>exact .sto m c x jh h0 h1 h2 h3
 |alo d z h0 h1=>exact .alo d z h0 h1
 |app d sz bytes x y _ h0 h1=>exact .app d sz bytes x y v h0 h1
 |lod d off i x cs o s' m ds h0 h1 h2 h3 h4=>exact .lod d off i x cs o s' m ds h0 h1 h2 h3 h4
def behind(E:St)(d:Option Nat)(a:AV)(s:ae):St:={E with s:=s}.put d a
theorem nf(E:St)(d:Option Nat)(a:AV)(i:Nat):look (E.put d a).e i=if d=some i then a else look E.e i:=by
 cases d with
 |none=>simp[St.put]
 |some d=>
  show look ((d,a)::E.e) i=_
  grind [bj]
theorem Hw(E:St)(d:Option Nat)(a:AV):(E.put d a).s=E.s/\(E.put d a).lp=E.lp:=by cases d<;>exact⟨rfl,rfl⟩
theorem SA(E:St)(d:Option Nat)(a:AV)(s:ae):(behind E d a s).s=s:=(Hw _ d a).1
theorem ug{d:Option Nat}{l:List Nat}(h:iP d l=true){i:Nat}(hi:i∈l):d≠some i:=fun e=>by grind [iP]
def Ss{y x:ar}(h:apB y x=true):Bb y x=true/\iP (rC y) (cH x)=true/\iP x.dst (cH y)=true/\∀i,rC y=some i->x.dst≠some i:=by
 unfold apB at h
 grind
def OQ{y:ar}{d:Option Nat}{v:AV}(hd:iP d (cH y)=true)(hf:bn E d=true)(hv:bF v=true):J6 y E (E.put d v):=by
 have key:∀i,i∈cH y->look E.e i=look (E.put d v).e i:=fun i hi=>by rw[nf,if_neg (ug hd hi)]
 refine⟨fun x hx=>?_,fun t want hg=>key t (List.mem_append_left _ Xc4),(Hw E d v).1.symm,fun x _ g m=>?_⟩
 ·cases x with
  |c a=>rfl
  |t i=>exact key i (List.mem_append_right _ (iO hx))
 ·cases he:xg g E x<;>try rfl
  ·rename_i b off
   show rk m off (E.s b)=rk m off ((E.put d v).s b)
   grind [Hw]
  ·rename_i c off
   show l9 m off (look E.e c)=l9 m off (look (E.put d v).e c)
   rw[nf]
   by_cases e:d=some c
   ·rw[if_pos e,kG hv]
    rw[e]at hf
    exact kG hf m off
   grind
theorem RK{y:ar}{d:Option Nat}{v:AV}{s:ae}(hd:iP d (cH y)=true):nj y (behind E d v s)=nj y E:=by
 obtain⟨dd,op,g⟩:=y
 cases op<;>first|rfl|skip
 rename_i m mu x
 cases x with
 |c a=>rfl
 |t i=>
  show pz (look (behind E d v s).e i)=pz (look E.e i)
  unfold behind
  rw[nf,if_neg (ug hd (List.mem_append_right _ (iO (List.mem_cons_self))))]
theorem Y2.behind{y:ar}{v av:AV}{d:Option Nat}{s:ae}(hy:Y2 P E y v)(h:nj y E=true)(hd:iP d (cH y)=true)(hf:bn E d=true)(hv:uB av)(hne:∀i,rC y=some i->d≠some i):Y2 P (behind E d av s) y v:=by
 have h1:=hy.Ql h s
 unfold AB.behind
 refine h1.MT (OQ hd L_ hv.1) (fun i hi=>?_) (fun i hi hf=>?_)
 ·rw[nf,if_neg (hne i (uM hi))]
 grind [Hw]
def qj(s s':ae):Prop:=∀b m off cs,rk m off (s b)=some cs->rk m off (s' b)=some cs
def Y2.Zz{d:Option Nat}{m:Nat}{mu:Bool}{x:IX}{v:AV}{s:ae}(hy:Y2 P E ⟨d,.load m mu x,none⟩ v)(hs:qj E.s s):Y2 P {E with s:=s} ⟨d,.load m mu x,none⟩ v:=by
 have hx:xg true {E with s:=s} x=xg true E x:=D_
 have key:qv ⟨d,.load m mu x,none⟩ E≠.no->qv ⟨d,.load m mu x,none⟩ {E with s:=s}=qv ⟨d,.load m mu x,none⟩ E:=by
  show j9 mu (rd E (xg true E x) m)≠.no->j9 mu (rd {E with s:=s} (xg true {E with s:=s} x) m)=j9 mu (rd E (xg true E x) m)
  rw[hx]
  intro hn
  cases he:xg true E x<;>try rfl
  rename_i b off
  rw[he]at hn
  have hn:j9 mu (rk m off (E.s b))≠.no:=hn
  show j9 mu (rk m off (s b))=j9 mu (rk m off (E.s b))
  cases hb:rk m off (E.s b)with
  |none=>rw[hb]at hn;exact absurd rfl hn
  |some cs=>rw[hs b m off cs hb]
 cases hy with
 |jh _ _ h0 hf hv hy=>
  refine .jh _ v h0 L_ hv ?_
  cases hy with
  |pure _ _ hq=>
   refine .pure _ v ?_
   grind
  |eff _ _ hq=>rcases hq with h|⟨c,h,_⟩<;>exact nomatch h
def He{y x:ar}(h:Lx y x=true):(∃d m mu p,y=⟨d,.load m mu p,none⟩)/\((∃d sz by' z l c g,x=⟨d,.lP sz by' z l c,g⟩)\/∃d p g,x=⟨d,.nK p,g⟩):=by
 unfold Lx at h
 grind
def Y2.WQ{y x:ar}{v av:AV}{d:Option Nat}{s:ae}(hy:Y2 P E y v)(hl:Lx y x=true)(hs:qj E.s s)(hd:iP d (cH y)=true)(hf:bn E d=true)(hv:uB av)(hne:∀i,rC y=some i->d≠some i):Y2 P (AB.behind E d av s) y v:=by
 have h1:Y2 P {E with s:=s} y v:=by
  obtain⟨⟨d,m,mu,p,rfl⟩,_⟩:=He hl
  exact hy.Zz hs
 unfold AB.behind
 refine h1.MT (OQ hd L_ hv.1) (fun i hi=>?_) (fun i hi hf=>?_)
 ·rw[nf,if_neg (hne i (uM hi))]
 grind [Hw]
theorem qj.grow{s:ae}{b:Nat}(h:s b=none)(o:SO):qj s (s.set b o):=by
 intro b' m off cs hr
 have:b'≠b:=fun e=>by rw[e,h]at hr;cases hr
 grind [ae.set]
theorem qj.take{s:ae}{b off:Nat}{cs ds:List AV}(h:s b=some (.cells cs))(hv:views ds=views cs):qj s (s.set b (.cells ds)):=by
 intro b' m o zs hr
 by_cases e:b'=b
 ·subst e
  rw[h]at hr
  have hl:=by have:=congrArg List.length hv;simpa[views]using this
  have hs:views (sub ds o m)=views (sub cs o m):=by
   have:=congrArg (fun l=>(l.drop o).take m) hv
   simpa[views,sub,List.map_take,List.map_drop]using this
  have hr:fN m o cs=some zs:=hr
  have e2:(s.set b' (.cells ds)) b'=some (.cells ds):=by simp[ae.set]
  rw[e2]
  show fN m o ds=some zs
  grind [fN]
 grind [ae.set]
def Qy{y x:ar}{C C':AV->ae->Prop}(hl:Lx y x=true)(hc:∀a s',uB a->qj E.s s'->C a s'->C' a s')(h:sP P x.op E C):sP P x.op E C':=by
 rcases(He hl).2 with⟨d,sz,by',z,l,c,g,rfl⟩|⟨d,p,g,rfl⟩
 ·have h:tu by' z E.s C (xg true E l) (xg true E c):=h
  show tu by' z E.s C' (xg true E l) (xg true E c)
  unfold tu at h⊢
  grind [HO,qj.grow]
 ·have h:oP E.s C (E.x p):=h
  show oP E.s C' (E.x p)
  unfold oP at h⊢
  split at h
  ·rename_i b off hp
   unfold uK at h⊢
   split at h
   ·rename_i cs hcs
    have hvw:∀a,cs[off]? =some a->views (setAt cs off [view a])=views cs:=fun a ha=>by
     have hlt:=(List.getElem?_eq_some_iff.1 ha).1
     have he:=(List.getElem?_eq_some_iff.1 ha).2
     have:cs=cs.take off++[a]++cs.drop (off+1):=by rw[<-he];simp
     unfold setAt
     conv=>rhs;rw[this]
     have hvv:∀z,view (view z)=view z:=fun z=>by cases z<;>rfl
     simp[views,hvv]
    unfold kH at h⊢
    split at h
    ·rename_i o sz n ds he
     exact hc _ _ ⟨rfl,fun _ h=>h⟩ (qj.take (off:=off) hcs (hvw _ he)) h
    ·rename_i t n ds he
     exact hc _ _ ⟨rfl,fun _ h=>h⟩ (qj.take (off:=off) hcs (hvw _ he)) h
    ·exact h
   ·exact h
  ·exact h
def xO{y:ar}{v av:AV}{d:Option Nat}{s:ae}(hd:iP d (cH y)=true)(hne:∀i,rC y=some i->d≠some i):l6 (cG (behind E d av s) y v) (AB.behind (cG E y v) d av s):=by
 refine⟨fun i=>?_,fun x=>?_,?_⟩
 ·rw[er]
  unfold AB.behind
  rw[nf,nf]
  rw[er]
  by_cases h1:rC y=some i
  ·grind
  ·by_cases h2:d=some i
   ·grind [Gs,ug,tE]
   grind
 ·grind [nk,AB.behind,Hw,cG]
 grind [qh,SA]
def bE(P:Program)(T:List Nat):List Item->(St->Prop)->St->Prop
 |[],K,E=>∃τ,l6 τ E/\K τ
 |(k,_,o)::r,K,E=>if 3<=k then∃τ,l6 τ E/\MF P o τ (fun ρ=>kF T ρ.e=true/\ME P T r ρ K)else if 2<=k then bn E o.dst=true/\o.g=none/\sP P o.op E (fun a s=>bE P T r K (behind E o.dst a s))
  else∃v,Y2 P E o v/\Aa T o v/\(k=1->nj o E=true)/\bE P T r K (cG E o v)
def CB{K:St->Prop}:∀(l:List Item)(E:St),ME P T l E K->bE P T l K E
 |[],E,h=>⟨E,l6.refl _,h⟩
 |(0,_,o)::r,E,h=>by
  obtain⟨v,h1,h2,h3⟩:=Jp (h)
  exact⟨v,h1,Ab fun i c hc=>py h2 i c hc,fun e=>AT,CB r _ h3⟩
 |(1,_,o)::r,E,h=>by
  obtain⟨h0,h⟩:=h
  obtain⟨v,h1,h2,h3⟩:=Jp (h)
  exact⟨v,h1,Ab fun i c hc=>py h2 i c hc,fun _=>h0,CB r _ h3⟩
 |(k+3,_,o)::r,E,h=>by
  have h:MF P o E (fun τ=>kF T τ.e=true/\ME P T r τ K):=h
  unfold bE
  grind [l6.refl]
 |(2,_,o)::r,E,h=>by
  have h:WA P o E (fun τ=>kF T τ.e=true/\ME P T r τ K):=h
  unfold WA at h
  split at h
  ·rename_i hg
   exact⟨h.1,hg,xR (fun a s _ hk=>CB r _ hk.2) h.2⟩
  grind
theorem RJ{o:ar}(h:l6 E E'):nj o E=nj o E':=by
 obtain⟨d,op,g⟩:=o
 cases op<;>first|rfl|skip
 rename_i m mu x
 cases x with
 |c a=>rfl
 |t i=>show pz (look E.e i)=pz (look E'.e i);rw[h.e]
theorem zo{K:St->Prop}:∀(l:List Item){E E':St},l6 E E'->bE P T l K E->bE P T l K E'
 |[],_,_,h,⟨τ,h1,h2⟩=>⟨τ,h1.trans h,h2⟩
 |(k,i,o)::r,E,E',h,hb=>by
  unfold bE at hb⊢
  by_cases hk3:3<=k
  ·rw[if_pos hk3]at hb⊢
   obtain⟨τ,h1,h2⟩:=hb
   exact⟨τ,h1.trans h,h2⟩
  rw[if_neg hk3]at hb⊢
  by_cases hk:2<=k
  ·rw[if_pos hk]at hb⊢
   refine⟨by rw[<-h.free];exact hb.1,hb.2.1,?_⟩
   refine Cz (fun x _=>by cases x with|c a=>rfl|t i=>exact h.e i) h.s (xR (fun a s _ hh=>?_) hb.2.2)
   exact zo r ((h.Ql s).put o.dst a) hh
  ·rw[if_neg hk]at hb⊢
   obtain⟨v,h1,h2,h3,h4⟩:=hb
   exact⟨v,h1.eqv h,h2,fun e=>by grind [RJ],zo r (h.cG o v) h4⟩
theorem Bi{o y:ar}{v:AV}(hn:iP (rC y) (cH o)=true)(hdr:Bb y o=true):nj o (cG E y v)=nj o E:=by
 obtain⟨d,op,g⟩:=o
 cases op<;>first|rfl|skip
 rename_i m mu x
 cases x with
 |c a=>rfl
 |t i=>
  have hi:i∈cH ⟨d,.load m mu (.t i),g⟩:=List.mem_append_right _ (iO List.mem_cons_self)
  show pz (look (cG E y v).e i)=pz (look E.e i)
  rw[er,if_neg (ug hn hi),Gs]
  have:=List.all_eq_true.1 hdr i hi
  grind
def aaU{K:St->Prop}{kx ix:Nat}{x:ar}(hkx:¬2<=kx)(hTx:XS T x):∀(pre:List Item)(post:List Item)(E:St),wF T E->(∀y∈pre,¬2<=y.1/\ZN y.2.2 x=true/\XS T y.2.2)->bE P T (pre++(kx,ix,x)::post) K E->
 ∃v,Y2 P E x v/\Aa T x v/\(kx=1->nj x E=true)/\bE P T (pre++post) K (cG E x v)
 |[],post,E,_,_,h=>by
  unfold bE at h
  grind
 |(k,i,o)::pre,post,E,hN,hap,h=>by
  have h:bE P T ((k,i,o)::(pre++(kx,ix,x)::post)) K E:=h
  obtain⟨hk,ab3,hT0⟩:=hap _ List.mem_cons_self
  unfold bE at h
  rw[if_neg AT,if_neg hk]at h
  obtain⟨v,h1,h2,h3,h4⟩:=h
  obtain⟨u,i1,i2,i3,i4⟩:=aaU hkx hTx pre post (cG E o v) (sx hN h2) (fun y hy=>hap y (List.mem_cons_of_mem _ hy)) h4
  obtain⟨a1,a2,a3,a4,a5,a6,a7,c1,c2⟩:=Kc ab3
  have hx:=i1.MT (uH h1 a1 a4 c2 hN hT0).symm
   (fun i hi=>(lQ fun e=>a3 i i e (uM hi) rfl).symm)
   (fun i hi hf=>ng (fun z hz _=>(nk o v z).2 (.inl hz)) hf)
  have ho:=h1.MT (uH hx a2 a5 c1 hN hTx)
   (fun i hi=>lQ fun e=>a3 i i (uM hi) e rfl)
   (fun i hi hf=>ng (fun z hz hzi=>by
     rcases(nk _ _ z).1 hz with hz|⟨j,j1,_,j3⟩
     ·exact hz
     ·rw[hzi]at j3;exact(i2 j j1 i (hT0 i hi) j3).elim) hf)
  have GL:l6 (cG (cG E o v) x u) (cG (cG E x u) o v):=Ez a3 a6 a7
  refine⟨u,hx,i2,fun e=>by grind [Bi],?_⟩
  show bE P T ((k,i,o)::(pre++post)) K (cG E x u)
  unfold bE
  grind [Bi,zo]
def aaV{K:St->Prop}{kx ix:Nat}{x:ar}(hkx:2<=kx)(akj:¬3<=kx):∀(pre:List Item)(post:List Item)(E:St),(∀y∈pre,(y.1=1\/y.1=0/\Lx y.2.2 x=true)/\apB y.2.2 x=true)->bE P T (pre++(kx,ix,x)::post) K E->
 bn E x.dst=true/\x.g=none/\sP P x.op E (fun a s=>bE P T (pre++post) K (behind E x.dst a s))
 |[],post,E,_,h=>by
  unfold bE at h
  grind
 |(k,i,o)::pre,post,E,hap,h=>by
  have h:bE P T ((k,i,o)::(pre++(kx,ix,x)::post)) K E:=h
  obtain⟨aki,ab3⟩:=hap _ List.mem_cons_self
  have XH:¬3<=k/\¬2<=k:=AT
  unfold bE at h
  rw[if_neg XH.1,if_neg XH.2]at h
  obtain⟨v,h1,h2,h3,h4⟩:=h
  obtain⟨i1,i2,i3⟩:=aaV hkx akj pre post (cG E o v) (fun y hy=>hap y (List.mem_cons_of_mem _ hy)) h4
  obtain⟨a1,a2,a3,a4⟩:=Ss ab3
  have hf:bn E x.dst=true:=by
   cases hd:x.dst with
   |none=>rfl
   |some d=>
    rw[hd]at i1
    have e:bF (look (cG E o v).e d)=bF (look E.e d):=lQ fun e=>a4 d e hd
    show bF (look E.e d)=true
    rw[<-e];exact i1
  have hcg:∀{C:AV->ae->Prop},sP P x.op (cG E o v) C->sP P x.op E C:=fun hh=>Cz (fun y hy=>by
   cases y with
   |c a=>rfl
   |t j=>
    have hj:j∈cH x:=List.mem_append_right _ (iO hy)
    show look (cG E o v).e j=look E.e j
    rw[er,if_neg (ug a2 hj),Gs]
    have:=List.all_eq_true.1 a1 j hj
    grind) (qh o v) hh
  rcases aki with rfl|⟨rfl,hl⟩
  ·refine⟨hf,i2,hcg (xR (fun av s hv hb=>?_) i3)⟩
   show bE P T ((1,i,o)::(pre++post)) K (behind E x.dst av s)
   unfold bE
   refine⟨v,h1.behind (h3 rfl) a3 hf hv a4,h2,fun _=>by rw[RK a3];exact h3 rfl,?_⟩
   exact zo _ (xO a3 a4).symm hb
  ·refine⟨hf,i2,hcg ?_⟩
   refine Qy hl (fun av s hv fX hb=>?_) i3
   show bE P T ((0,i,o)::(pre++post)) K (behind E x.dst av s)
   unfold bE
   refine⟨v,h1.WQ hl (by grind [qh]) a3 hf hv a4,h2,fun e=>f_,?_⟩
   exact zo _ (xO a3 a4).symm hb
end
section
variable{P:Program}{n:Nat}{D:List Deferred}{ops:Array Oper}{T:List Nat}
def Bef(ops:Array Oper)(j i:Nat):Prop:=∀L:Nat->Prop,(∀m,L m->∀d,iU ops m d=true->L d)->(∀d,iU ops j d=true->L d)->L i
def GI(acc:List Nat)(i:Nat):∀(l:List Edge)(s:Nat),(l.foldl (fun s e=>bif Region.binds .any e then s |||(1<<<e.on)|||acc.getD e.on 0 else s) s).testBit i=true->
 s.testBit i=true\/∃e∈l,Region.binds .any e=true/\(i=e.on\/(acc.getD e.on 0).testBit i=true)
 |[],s,h=>.inl h
 |e::l,s,h=>by
  rw[List.foldl_cons]at h
  rcases GI acc i l _ h with h|⟨e',h1,h2⟩
  ·cases hb:Region.binds .any e with
   |false=>grind
   |true=>
    rw[hb,cond_true,Nat.testBit_or,Nat.testBit_or,Bool.or_eq_true,Bool.or_eq_true]at h
    rcases h with(h|h)|h
    ·exact .inl h
    ·grind [Nat.testBit_one_eq_true_iff_self_eq_zero]
    grind
  grind
def Hk:∀(l:List Oper)(acc:List Nat),l=ops.toList.drop acc.length->(∀j i,(acc.getD j 0).testBit i=true->Bef ops j i)->∀j i,((Hj l acc).getD j 0).testBit i=true->Bef ops j i
 |[],acc,_,h=>h
 |o::l,acc,hl,h=>by
  have ho:=by
   have:(ops.toList.drop acc.length)[0]? =some o:=A_
   simpa using this
  refine Hk l (acc++[N4 acc o]) ?_ fun j i hb=>?_
  ·have:(ops.toList.drop acc.length).tail=l:=A_
   simp_all
  ·by_cases hj:j<acc.length
   ·grind
   ·by_cases he:j=acc.length
    ·subst he
     have hb:(N4 acc o).testBit i=true:=A_
     rcases GI acc i _ _ hb with h0|⟨e,e1,e2,e3⟩
     ·simp at h0
     ·intro L hc hd
      have hle:=hd _ ((mU ho).2 ⟨e,A_,e2,rfl⟩)
      rcases e3 with rfl|e3
      ·exact hle
      ·exact h e.on i e3 L hc (hc _ hle)
    grind
def Ht{ms:List Nat}:∀{l:List Item},Ji ops ms l=true->l.Pairwise fun x y=>yT ops ms x y=true
 |[],_=>.nil
 |x::r,h=>by
  simp only[Ji,Bool.and_eq_true]at h
  exact .cons (fun y hy=>List.all_eq_true.1 h.1 y hy) (Ht h.2)
structure Sq(ops:Array Oper)(L0 L:List Item)(aS:Array Bool):Prop where
 size:aS.size=ops.size
 sub:L.Sublist L0
 un:∀x∈L,aS.getD x.2.1 true=false
 li:∀k,k<ops.size->(∀x∈L,x.2.1≠k)->aS.getD k false=true
 cl:∀m,aS.getD m false=true->∀i,iU ops m i=true->aS.getD i false=true
theorem yi{l:Array Bool}{i j:Nat}{b:Bool}(h:j≠i):(l.setIfInBounds i true).getD j b=l.getD j b:=by simp[h.symm]
def Fc{l:Array Bool}{i:Nat}{b:Bool}(h:i<l.size):(l.setIfInBounds i true).getD i b=true:=H_
def vW{l:Array Bool}{i j:Nat}(h:l.getD j false=true):(l.setIfInBounds i true).getD j false=true:=by
 by_cases e:j=i
 ·rcases Nat.lt_or_ge j l.size with hj|hj
  ·simp_all
  grind
 ·rw[yi e];exact h
def PF{x:Item}(h:Dq P T n ops x=true)(hk:¬2<=x.1):XS T x.2.2:=fun c hc=>by
 simp[Dq,Bool.and_eq_true]at h
 unfold Uu at hc
 grind
theorem wF.behind{E:St}(h:wF T E){d:Option Nat}{a:AV}{s:ae}(ha:uB a):wF T (behind E d a s):=fun i c hc=>by
 unfold AB.behind
 rw[nf]
 by_cases e:d=some i
 ·rw[if_pos e];exact ha.2 c
 ·rw[if_neg e];exact h i c hc
def ah8{K:St->Prop}{Q:Exit->Act->World->Prop}(G₀:Gh)(w₀:World){L0:List Item}(hI:∀x∈L0,Dq P T n ops x=true)(hP:L0.Pairwise fun x y=>yT ops (Hj ops.toList []) x y=true)
 (hn:∀G' E' a' w',Inv G' n D E' a' w'->aI G₀ w₀ G' w'->K E'->Q .normal a' w'):
 ∀(m:Nat)(L:List Item),L.length=m->∀(aS:Array Bool)(E:St),Sq ops L0 L aS->wF T E->bE P T L K E->∀(G:Gh)(a:Act)(w:World),Inv G n D E a w->aI G₀ w₀ G w->wpAny P .any ops Q m aS a w:=by
 intro m
 induction m with
 |zero=>
  intro L hL aS E hg _ hb G a w h hp
  obtain rfl:=List.eq_nil_of_length_eq_zero hL
  refine⟨List.eq_nil_iff_forall_not_mem.2 fun j hj=>?_,?_⟩
  ·obtain⟨r1,r2,r3⟩:=kX hj
   have:=yh (hg.li j r1 fun x hx=>r_)
   grind
  ·obtain⟨τ,t1,t2⟩:=hb
   exact hn G τ a w (h.eqv t1.symm) hp t2
 |succ m ih=>
  intro L hL aS E hg hN hb G a w h hp
  have hPL:=hP.sublist hg.sub
  refine⟨fun h0=>?_,fun i hi=>?_⟩
  ·cases L with
   |nil=>simp at hL
   |cons x r=>
    have hx:=hI x (hg.sub.subset List.mem_cons_self)
    simp only[Dq,Bool.and_eq_true]at hx
    have IJ:x.2.1∈Region.ready .any ops aS:=by
     cases ho:ops[x.2.1]? with
     |none=>grind
     |some o=>
      rw[ho]at hx
      have hx1:(iW P n ops o x.2.2&&o.after.all fun e=>!Region.binds .any e||(decide (e.on<ops.size)&&e.on !=x.2.1))=true:=hx.1
      rw[Bool.and_eq_true]at hx1
      refine mem_ready.2 ⟨hg.un x List.mem_cons_self,o,ho,fun e he hbn=>?_⟩
      have h3:=Array.all_eq_true_iff_forall_mem.1 hx1.2 e he
      rw[hbn]at h3
      simp only[Bool.not_true,Bool.false_or,Bool.and_eq_true,decide_eq_true_eq,bne_iff_ne]at h3
      refine hg.li e.on h3.1 fun y hy=>?_
      rcases List.mem_cons.1 hy with rfl|hy
      ·grind
      ·intro e'
       have:=(List.pairwise_cons.1 hPL).1 y hy
       simp only[yT,Bool.and_eq_true,Bool.not_eq_true']at this
       grind [iU,mU]
    grind
  ·obtain⟨r1,r2,r3⟩:=kX hi
   have hex:∃x∈L,x.2.1=i:=by
    apply Classical.byContradiction
    intro hno
    have:=yh (hg.li i r1 fun x hx e=>hno ⟨x,hx,e⟩)
    rw[r2]at this;cases this
   obtain⟨⟨kx,ix,x⟩,hx,e0⟩:=hex
   have e0:ix=i:=e0
   subst e0
   obtain⟨pre,post,rfl⟩:=List.append_of_mem hx
   have hxi:=hI _ (hg.sub.subset hx)
   have hPw:=List.pairwise_append.1 hPL
   have hpx:∀y∈pre,yT ops (Hj ops.toList []) y (kx,ix,x)=true:=fun y hy=>hPw.2.2 y hy _ List.mem_cons_self
   have hxp:∀y∈post,yT ops (Hj ops.toList []) (kx,ix,x) y=true:=(List.pairwise_cons.1 hPw.2.1).1
   have T0:∀y∈pre,aaB y.1 kx y.2.2 x=true:=fun y hy=>by
    have h1:=hpx y hy
    simp only[yT,Bool.and_eq_true,Bool.or_eq_true]at h1
    rcases h1.2.2 with h2|h2
    ·have hbf:=Hk (ops:=ops) ops.toList [] BY (fun j i hh=>by simp at hh) _ _ h2
     have:=yh (hbf (fun m=>aS.getD m false=true) hg.cl r3)
     rw[hg.un y (List.mem_append_left _ hy)]at this;cases this
    ·exact h2
   have hne:∀y∈pre++post,y.2.1≠ix:=fun y hy=>by
    rcases List.mem_append.1 hy with hy|hy
    ·have:=hpx y hy
     simp only[yT,Bool.and_eq_true,bne_iff_ne]at this
     grind
    ·have:=hxp y hy
     simp only[yT,Bool.and_eq_true,bne_iff_ne]at this
     grind
   have hg':Sq ops L0 (pre++post) (aS.setIfInBounds ix true):=by
    refine⟨by simp[hg.size],((List.sublist_cons_self _ post).append_left pre).trans hg.sub,fun y hy=>?_,fun k hk hno=>?_,fun m' hm' d hd=>?_⟩
    ·rw[yi (hne y hy)]
     refine hg.un y ?_
     grind
    ·by_cases e:k=ix
     ·subst e;exact Fc A_
     ·refine vW (hg.li k hk fun y hy=>?_)
      grind
    ·refine vW ?_
     by_cases e:m'=ix
     ·grind
     ·rw[yi e]at hm';exact hg.cl m' hm' d hd
   have hlen:(pre++post).length=m:=by simp at hL⊢;omega
   have hxo:iW P n ops ops[ix] x=true:=by
    simp only[Dq,Bool.and_eq_true]at hxi
    have h1:=hxi.1
    rw[Array.getElem?_eq_getElem r1]at h1
    have h1:(iW P n ops ops[ix] x&&_)=true:=h1
    rw[Bool.and_eq_true]at h1
    exact h1.1
   by_cases hk3:3<=kx
   ·obtain rfl:pre=[]:=by
     cases pre with
     |nil=>rfl
     |cons y pre=>
      have h1:=T0 y List.mem_cons_self
      obtain⟨ky,iy,yo⟩:=y
      obtain⟨k,rfl⟩:∃k,kx=k+3:=⟨kx -3,AT⟩
      match ky with
      |0=>cases h1
      |1=>cases h1
      |_+2=>cases h1
    have hb:bE P T ((kx,ix,x)::post) K E:=hb
    unfold bE at hb
    rw[if_pos hk3]at hb
    obtain⟨τ,t1,t2⟩:=hb
    refine pJ (o:=ops[ix]) S_ (iu (h.eqv t1.symm) hxo t2 fun G' E' a' w' k1 k2 k3=>?_)
    exact ih ([]++post) hlen _ E' hg' (fun i c hc=>py k3.1 i c hc) (CB _ _ k3.2) G' a' w' k1 (hp.trans k2)
   by_cases hk:2<=kx
   ·have hap:∀y∈pre,(y.1=1\/y.1=0/\Lx y.2.2 x=true)/\apB y.2.2 x=true:=fun y hy=>by
     have h1:=T0 y hy
     obtain⟨ky,iy,yo⟩:=y
     obtain rfl:kx=2:=AT
     match ky with
     |0=>
      have h1:(Lx yo x&&apB yo x)=true:=h1
      grind
     |1=>exact⟨.inl rfl,h1⟩
     |_+2=>cases h1
    obtain⟨p1,p2,p3⟩:=aaV hk hk3 pre post E hap hb
    have hbb:WA P x E (fun τ=>wF T τ/\bE P T (pre++post) K τ):=by
     unfold WA
     rw[p2]
     exact⟨p1,xR (fun av s hv hh=>⟨hN.behind hv,hh⟩) p3⟩
    have hK':∀τ U',l6 τ U'->(wF T τ/\bE P T (pre++post) K τ)->wF T U'/\bE P T (pre++post) K U':=fun τ U' e hh=>⟨fun i c hc=>by rw[<-e.e i];exact hh.1 i c hc,zo _ e hh.2⟩
    refine pJ (o:=ops[ix]) S_ (iu h hxo (WO hK' hbb) fun G' E' a' w' k1 k2 k3=>?_)
    exact ih (pre++post) hlen _ E' hg' k3.1 k3.2 G' a' w' k1 (hp.trans k2)
   ·have hap:∀y∈pre,¬2<=y.1/\ZN y.2.2 x=true/\XS T y.2.2:=fun y hy=>by
     have h1:=T0 y hy
     have hyT:=fun hh=>PF (hI y (hg.sub.subset (List.mem_append_left _ hy))) hh
     obtain⟨ky,iy,yo⟩:=y
     match ky,kx,hk with
     |0,0,_=>exact⟨fun hh=>absurd hh BY,h1,hyT BY⟩
     |0,1,_=>exact⟨fun hh=>absurd hh BY,h1,hyT BY⟩
     |1,0,_=>exact⟨fun hh=>absurd hh BY,h1,hyT BY⟩
     |1,1,_=>exact⟨fun hh=>absurd hh BY,h1,hyT BY⟩
     |k+2,0,_=>cases h1
     |k+2,1,_=>cases h1
     |_,k+2,hk=>grind
    obtain⟨v,p1,p2,p3,p4⟩:=aaU hk (PF hxi hk) pre post E hN hap hb
    refine pJ (o:=ops[ix]) S_ (Y2.run h hxo p1 fun G' a' w' k1 k2=>?_)
    exact ih (pre++post) hlen _ (cG E x v) hg' (sx hN p2) p4 G' a' w' k1 (hp.trans k2)
def abL(hm:P.follows .mixedOrders=true):ZF P n:=by
 intro D id ops T l G E a w K Q hc h hno hw hn
 simp only[abF,Bool.and_eq_true]at hc
 obtain⟨⟨h1,h2⟩,h3,h4⟩:=hc
 refine wp_region_any hm ?_
 have hg:Sq ops l l (Array.replicate ops.size false):=by
  refine⟨BY,List.Sublist.refl l,fun x hx=>?_,fun k hk hno=>?_,fun m hm i hi=>?_⟩
  ·have hlt:x.2.1<ops.size:=by
    have:=List.all_eq_true.1 h3 x hx
    simp[Dq]at this
    cases ho:ops[x.2.1]? with
    |none=>grind
    |some o=>grind
   simp[hlt]
  ·obtain⟨x,hx,e⟩:=List.any_eq_true.1 (List.all_eq_true.1 h2 k (List.mem_range.2 hk))
   grind
  ·rcases Nat.lt_or_ge m ops.size with hlt|hge
   ·simp_all
   grind
 have:=ah8 G w (fun x hx=>List.all_eq_true.1 h3 x hx) (Ht h4) hn l.length l rfl _ E hg (fun i c hc=>py hno i c hc) (CB l E hw) G a {w with drawn:=w.drawn+1} h.drew (aI.drew G w)
 grind
theorem zh:∀(p s:List Bool),xE p s=p.reverse++s
 |[],s=>rfl
 |x::p,s=>by unfold xE;rw[zh p];simp
def MC{done:List Bool}{F:ar->List Bool->Prop}:∀{rows:List (List Bool)}{pre xs:List Bool}{r:List ar}{j:Nat}{row:List Bool}{o:ar},OL done rows pre xs r F->rows[j]? =some row->r[j]? =some o->xs[j]? =some false->vO row done=true->F o (xE pre (xs.set j true))
 |row::rows,pre,x::xs,o::r,0,row',o',h,h1,h2,h3,h4=>by
  injection h1 with h1;injection h2 with h2;injection h3 with h3
  have:=h.1
  grind
 |row::rows,pre,x::xs,o::r,j+1,row',o',h,h1,h2,h3,h4=>by
  have:=MC h.2 L_ L_ A_ h4
  rw[zh]at this⊢
  simpa using this
 |[],_,_,_,_,_,_,_,h1,_,_,_=>by grind
 |_::_,_,[],_,_,_,_,_,_,_,h3,_=>by grind
 |_::_,_,_::_,[],_,_,_,_,_,h2,_,_=>A_
def Qn:∀{row done:List Bool},(∀i,row.getD i false=true->done.getD i false=true)->vO row done=true
 |[],_,_=>rfl
 |_::_,[],_=>rfl
 |d::row,x::done,h=>by
  have h0:=h 0
  have ht:=Qn (row:=row) (done:=done) fun i hi=>by have:=h (i+1);grind
  unfold vO
  grind
structure afD(ops:Array Oper)(done:List Bool)(aS:Array Bool):Prop where
 size:aS.size=ops.size
 len:done.length=ops.size
 eq:∀j,done.getD j false=aS.getD j false
theorem count_set:∀{l:List Bool}{j:Nat},l[j]? =some false->(l.set j true).count false+1=l.count false
 |x::l,0,h=>by grind
 |x::l,j+1,h=>by grind
 |[],_,h=>A_
def aba{K:St->Prop}{Q:Exit->Act->World->Prop}{iH:List (List Bool)}{bQ:List ar}(G₀:Gh)(w₀:World)(hI:cI P n ops ops.toList bQ=true)(hX:O3 ops iH=true)
 (hn:∀G' E' a' w',Inv G' n D E' a' w'->aI G₀ w₀ G' w'->K E'->Q .normal a' w'):
 ∀(f:List ar)(done:List Bool)(aS:Array Bool)(E:St),afD ops done aS->done.count false=f.length->Sa P iH bQ K f done E->∀(G:Gh)(a:Act)(w:World),Inv G n D E a w->aI G₀ w₀ G w->wpAny P .any ops Q f.length aS a w
 |[],done,aS,E,hg,hc,hw,G,a,w,h,hp=>by
  refine⟨List.eq_nil_iff_forall_not_mem.2 fun j hj=>?_,hn G E a w h hp hw⟩
  obtain⟨r1,r2,r3⟩:=kX hj
  have h2:aS.getD j false=false:=by
   have hlt:j<aS.size:=Xc5
   simp only[Array.getD_eq_getD_getElem?,Array.getElem?_eq_getElem hlt,Option.getD_some]at r2⊢
   exact r2
  rw[<-hg.eq j]at h2
  have hlt:j<done.length:=by rw[hg.len];exact r1
  grind
 |o0::f,done,aS,E,hg,hc,hw,G,a,w,h,hp=>by
  have hX':=hX
  simp only[O3,Bool.and_eq_true,beq_iff_eq]at hX'
  obtain⟨hl,ee⟩:=hX'
  refine⟨fun h0=>?_,fun i hi=>?_⟩
  ·exfalso
   have hex:∃j,j<ops.size/\aS.getD j false=false:=by
    apply Classical.byContradiction
    intro hno
    have:done.count false=0:=List.count_eq_zero.2 fun hm=>by
     obtain⟨j,hj,e⟩:=List.getElem_of_mem hm
     refine hno ⟨j,by rw[<-hg.len];exact hj,?_⟩
     rw[<-hg.eq,List.getD_eq_getElem?_getD,List.getElem?_eq_getElem hj,Option.getD_some,e]
    rw[this]at hc;simp at hc
   obtain⟨j,hj⟩:=hex
   induction j using Nat.strongRecOn with
   |_ j ih=>
    by_cases hk:∃k,k<j/\k<ops.size/\aS.getD k false=false
    ·grind
    ·have hj2:=List.all_eq_true.1 ee j (List.mem_range.2 hj.1)
     simp only[Bool.and_eq_true]at hj2
     have h3:=hj2.2
     rw[Array.getElem?_eq_getElem hj.1]at h3
     have IJ:j∈Region.ready .any ops aS:=by
      refine mem_ready.2 ⟨?_,ops[j],Array.getElem?_eq_getElem hj.1,fun e he hb=>?_⟩
      ·have hlt:j<aS.size:=by rw[hg.size];exact hj.1
       grind
      ·have h4:=Array.all_eq_true_iff_forall_mem.1 h3 e he
       grind
     grind
  ·obtain⟨r1,r2,r3⟩:=kX hi
   have hlt:i<aS.size:=Xc5
   have Bw:i<done.length:=by rw[hg.len];exact r1
   have r2':aS.getD i false=false:=by
    simp only[Array.getD_eq_getD_getElem?,Array.getElem?_eq_getElem hlt,Option.getD_some]at r2⊢
    exact r2
   have hd:done[i]? =some false:=by
    rw[<-hg.eq i,List.getD_eq_getElem?_getD,List.getElem?_eq_getElem Bw,Option.getD_some]at r2'
    rw[List.getElem?_eq_getElem Bw,r2']
   obtain⟨hlen,kq⟩:=gB _ _ hI
   have hli:i<bQ.length:=by rw[<-hlen];simpa using r1
   have hio:bQ[i]? =some bQ[i]:=List.getElem?_eq_getElem hli
   have hco:iW P n ops ops[i] bQ[i]=true:=kq i ops[i] bQ[i] S_ hio
   have hj2:=List.all_eq_true.1 ee i (List.mem_range.2 r1)
   simp only[Bool.and_eq_true,beq_iff_eq]at hj2
   have dv:iH[i]? =some (iH.getD i []):=by
    have:i<iH.length:=by rw[hl];exact r1
    rw[List.getD_eq_getElem?_getD,List.getElem?_eq_getElem this,Option.getD_some]
   have hrd:vO (iH.getD i []) done=true:=Qn fun k hk=>by
    have hkl:k<ops.size:=by
     rw[<-hj2.1.1]
     apply Classical.byContradiction
     intro hno
     rw[List.getD_eq_getElem?_getD,List.getElem?_eq_none AT]at hk
     cases hk
    have:=List.all_eq_true.1 hj2.1.2 k (List.mem_range.2 hkl)
    rw[hk]at this
    rw[hg.eq]
    grind
   have hx:=MC (F:=fun o d=>MF P o E (fun τ=>Sa P iH bQ K f d τ)) hw dv hio hd hrd
   refine pJ (o:=ops[i]) S_ (iu h hco hx fun G' E' a' w' k1 k2 k3=>?_)
   refine aba G₀ w₀ hI hX hn f _ _ E' ⟨by simp[hg.size],by rw[zh];simp[hg.len],fun k=>?_⟩ ?_ k3 G' a' w' k1 (hp.trans k2)
   ·rw[zh]
    show(([]:List Bool).reverse++done.set i true).getD k false=_
    rw[List.reverse_nil,List.nil_append]
    by_cases e:k=i
    ·simp_all
    ·rw[yi e,<-hg.eq,List.getD_eq_getElem?_getD,List.getD_eq_getElem?_getD,List.getElem?_set_ne (Ne.symm e)]
   grind [zh,List.reverse_nil,count_set]
def abO(hm:P.follows .mixedOrders=true):ZJ P n:=by
 intro D id ops iH bQ G E a w K Q hc hx h hw hn
 refine wp_region_any hm ?_
 have hlen:=by have:=(gB _ _ hc).1;simpa using this.symm
 have hf:∀l,xD l=List.replicate l.length false:=by
  intro l
  induction l with
  |nil=>rfl
  |cons o r ih=>grind [xD]
 have:=aba G w hc hx hn bQ (xD bQ) (Array.replicate ops.size false) E ⟨BY,A_,fun j=>by
  rw[hf,hlen]
  rcases Nat.lt_or_ge j ops.size with hj|hj
  ·simp[hj]
  grind⟩ A_ hw G a {w with drawn:=w.drawn+1} h.drew (aI.drew G w)
 grind
def kJ(hm:P.follows .mixedOrders=true):wE P n:=⟨abM hm,abN hm,abL hm,abO hm⟩
end
end Go.AB
end
section
namespace Go.AB
open Go Go.RowKit
def uW:ae:=fun _=>none
section
variable{P:Program}{w w':World}
end
end Go.AB
end
