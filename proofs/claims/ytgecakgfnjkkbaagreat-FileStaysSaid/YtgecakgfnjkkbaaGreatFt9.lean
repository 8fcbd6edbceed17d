/- A part. -/
import Derived.Test.YtgecakgfnjkkbaaGreatFt8
import Derived.ProofKit
set_option linter.unusedSimpArgs false
set_option linter.unusedVariables false
section
namespace Go.AB
open Go
def jV(off:Nat):AV->AV
 |.loc cs=>.loc (match cs[off]? with|some (.sl _ sz n ds)=>setAt cs off [.sl false sz n ds]|_=>cs)
 |a=>a
def NZ(o:aq)(E:St):St:=match o.op with
 |.oj true x=>E.drain x
 |.store _ _ x=>E.drain x
 |.append _ _ x _=>E.drain x
 |.my off (.t i) _=>{E with e:=(i,jV off (look E.e i))::E.e}
 |_=>E
def dz(o:aq)(i:Nat)(a:AV):AV:=if iX o i=true then(match o.op with|.my off _ _=>jV off a|_=>view a)else a
theorem CM(off:Nat)(a:AV):bA (jV off a)=bA a:=by cases a<;>rfl
theorem FJ{off:Nat}{a:AV}{c:Nat}(h:bG (jV off a) c):bG a c:=by cases a<;>first|exact h|exact h.elim
theorem JR(off:Nat)(a:AV):view (jV off a)=jV off (view a):=by cases a<;>rfl
theorem tj(cs:List AV)(off:Nat)(x:AV)(h:off<cs.length)(j:Nat):(setAt cs off [x])[j]? =if j=off then some x else cs[j]? :=by
 unfold setAt
 grind
theorem nn(off:Nat)(cs:List AV)(j:Nat):(match cs[off]? with|some (.sl _ sz n ds)=>setAt cs off [.sl false sz n ds]|_=>cs)[j]? =if j=off then(cs[j]?).map (fun a=>match a with|.sl _ sz n ds=>.sl false sz n ds|a=>a)else cs[j]? :=by grind [List.getElem?_eq_some_iff,setAt,tj]
theorem H9(o1 o2:Nat)(a:AV):jV o1 (jV o2 a)=jV o2 (jV o1 a):=by
 cases a<;>first|rfl|skip
 show AV.loc _=AV.loc _
 congr 1
 apply List.ext_getElem?
 intro j
 rw[nn,nn,nn,nn]
 grind
def cj(E:St)(o:aq)(v:AV):St:=(bZ (NZ o E) v (pW o)).put (pW o) v
def NH(sz bytes:Nat)(v:AV):AV->AV->Prop
 |.sl true s n cs,.sl _ s' m ds=>s=sz/\(s'=sz\/m=0)/\(n+m)*bytes<=room/\v=.sl true sz (n+m) (cs++views ds)
 |.sl true s n cs,.str ds=>s=sz/\sz=1/\(n+ds.length)*bytes<=room/\v=.sl true sz (n+ds.length) (cs++ds.map fun c=>.int .u8 c.toNat)
 |_,_=>False
theorem Yc{sz bytes:Nat}{E:St}{x:IX}{d:Option Nat}{K:St->Prop}{a b:AV}(h:lJ sz bytes E x d K a b):∃v,NH sz bytes v a b/\K ((E.drain x).put d v):=by
 unfold lJ at h
 split at h
 ·obtain⟨h1,h2,h3,h4⟩:=h;exact⟨_,⟨h1,h2,h3,rfl⟩,h4⟩
 ·obtain⟨h1,h2,h3,h4⟩:=h;exact⟨_,⟨h1,h2,h3,rfl⟩,h4⟩
 grind
theorem X9{sz bytes:Nat}{E:St}{x:IX}{d:Option Nat}{K:St->Prop}{a b v:AV}(h:NH sz bytes v a b)(hk:K ((E.drain x).put d v)):lJ sz bytes E x d K a b:=by
 unfold NH at h
 split at h
 ·obtain⟨h1,h2,h3,h4⟩:=h;subst h4;exact⟨h1,h2,h3,hk⟩
 ·obtain⟨h1,h2,h3,h4⟩:=h;subst h4;exact⟨h1,h2,h3,hk⟩
 grind
theorem Fk{sz bytes:Nat}{a b v:AV}(h:NH sz bytes v a b):∃n cs,v=.sl true sz n cs:=by
 unfold NH at h
 grind
inductive Y2(P:Program)(E:St):aq->AV->Prop where
 |iJ (o:aq) (v:AV) (h0:Rs o.op=false) (hf:bp E o.dst=true) (hv:bA v=true) (h:Y P E o v):Y2 P E o v
 |sto (n c:Nat) (x:IX) (iJ:List AV) (h0:look E.e c=.loc iJ) (h1:iJ.length=n) (h2:dh (E.x x)=true) (h3:(bB (E.x x)).length=n):Y2 P E ⟨none,.store n (.t c) x,none⟩ (.loc (bB (E.x x)))
 |X7 (d:Nat) (z:List AV) (h0:bA (look E.e d)=true) (h1:lq E.lp (some d)=true):Y2 P E ⟨some d,.jS z,none⟩ (.loc z)
 |app (d sz bytes:Nat) (x y:IX) (v:AV) (h0:bA (look E.e d)=true) (h1:NH sz bytes v (E.x x) (E.x y)):Y2 P E ⟨some d,.append sz bytes x y,none⟩ v
 |Zd (d off i:Nat) (x:IX) (cs:List AV) (o:Bool) (s m:Nat) (ds:List AV) (h0:bA (look E.e d)=true) (h1:E.x x=.lp i off) (h2:look E.e i=.loc cs) (h3:cs[off]? =some (.sl o s m ds)) (h4:d≠i):Y2 P E ⟨some d,.my off (.t i) x,none⟩ (.sl o s m ds)
def Ra(o:aq):Option Nat:=match o with
 |⟨none,.store _ (.t c) _,none⟩=>some c
 |⟨some d,.jS _,none⟩=>some d
 |_=>none
section
variable{P:Program}{G G':Gh}{n:Nat}{D:List Deferred}{E E':St}{a:Act}{w w':World}{T:List Nat}
theorem Nt{o:aq}(h:Rs o.op=false):pW o=o.dst:=by
 obtain⟨d,op,g⟩:=o
 cases op<;>first|(cases h;done)|(cases d<;>rfl)
theorem TZ{o:aq}(h:Rs o.op=false):NZ o E=dr o E:=by
 obtain⟨d,op,g⟩:=o
 cases op<;>first|(cases h;done)|rfl|skip
 rename_i b x
 cases b<;>rfl
theorem E0{o:aq}{v:AV}(h:Rs o.op=false):cj E o v=step E o v:=by grind [cj,step,Nt,TZ]
theorem GN{o:aq}{K:St->Prop}(h:q2 P o E K):∃v,Y2 P E o v/\K (cj E o v):=by
 unfold q2 at h
 split at h
 ·rename_i m c x
  cases hl:look E.e c<;>rw[hl]at h<;>first|(exact h.elim)|skip
  rename_i iJ
  obtain⟨h1,h2,h3,h4⟩:=h
  exact⟨_,.sto m c x iJ hl h1 h2 h3,h4⟩
 ·rename_i d z
  exact⟨_,.X7 d z h.1 h.2.1,h.2.2⟩
 ·rename_i d sz bytes x y
  obtain⟨v,h1,h2⟩:=Yc h.2
  refine⟨v,.app d sz bytes x y v h.1 h1,?_⟩
  obtain⟨m,cs,rfl⟩:=Fk h1
  exact h2
 ·rename_i d off i x
  obtain⟨k0,k1,k2⟩:=h
  have k1':∃i' o',E.x x=.lp i' o'/\i'=i/\o'=off:=by
   unfold Bl at k1
   split at k1
   ·grind
   ·cases k1
  obtain⟨i',o',e1,rfl,rfl⟩:=k1'
  rw[e1]at k2
  have k2:(match look E.e i' with
   |.loc cs=>some d≠some i'/\Co o' cs fun cs' a=>K ((E.put (some i') (.loc cs')).put (some d) a)
   |_=>False):=k2
  cases hl:look E.e i'<;>rw[hl]at k2<;>first|(exact k2.elim)|skip
  rename_i cs
  obtain⟨k3,k4⟩:=k2
  unfold Co at k4
  split at k4
  ·rename_i o s m ds hc
   refine⟨.sl o s m ds,.Zd d o' i' x cs o s m ds k0 e1 hl hc (fun e=>k3 (by rw[e])),?_⟩
   have e2:cj E ⟨some d,.my o' (.t i') x,none⟩ (.sl o s m ds)=(E.put (some i') (.loc (setAt cs o' [.sl false s m ds]))).put (some d) (.sl o s m ds):=by
    unfold cj NZ
    simp only[hl,jV,hc]
    rfl
   grind
  grind
 ·exact h.elim
 ·exact h.elim
 ·exact h.elim
 ·exact h.elim
 ·have h0:Rs o.op=false:=by
   obtain⟨d,op,g⟩:=o
   cases op<;>first|rfl|grind|grind|grind|grind
  obtain⟨v,q1,q2,q3⟩:=Lw h.2
  exact⟨v,.iJ o v h0 h.1 q1 q2,by grind [E0]⟩
theorem sc(x:IX)(i:Nat):look (E.drain x).e i=if(match x with|.t j=>j==i|.c _=>false)=true then view (look E.e i)else look E.e i:=by
 cases x with
 |c a=>rfl
 |t j=>
  show look ((j,view (look E.e j))::E.e) i=_
  grind [bc]
theorem Rt(o:aq)(i:Nat):look (NZ o E).e i=dz o i (look E.e i):=by
 obtain⟨d,op,g⟩:=o
 cases op<;>first|rfl|skip
 case oj b x=>
  cases b with
  |false=>rfl
  |true=>
   show look (E.drain x).e i=_
   rw[sc]
   cases x<;>rfl
 case store m p x=>
  show look (E.drain x).e i=_
  rw[sc]
  cases x<;>rfl
 case append sz bytes x y=>
  show look (E.drain x).e i=_
  rw[sc]
  cases x<;>rfl
 case my off j x=>
  cases j with
  |c a=>rfl
  |t j=>
   show look ((j,jV off (look E.e j))::E.e) i=if(j==i)=true then jV off (look E.e i)else look E.e i
   grind [bc]
theorem FK(x:IX):(E.drain x).s=E.s/\(E.drain x).lp=E.lp:=by cases x<;>exact⟨rfl,rfl⟩
theorem WJ(o:aq):(NZ o E).s=E.s/\(NZ o E).lp=E.lp:=by
 unfold NZ
 split
 ·exact FK _
 ·exact FK _
 ·exact FK _
 ·grind
 grind
theorem dE(o:aq)(v:AV)(i:Nat):look (cj E o v).e i=if pW o=some i then v else dz o i (look E.e i):=by
 unfold cj
 rw[<-Rt]
 cases hd:pW o with
 |none=>grind [St.put,ja,NZ]
 |some d=>
  show look ((d,v)::(bZ (NZ o E) v (some d)).e) i=_
  grind [bc,ja,NZ]
theorem oC(o:aq)(v:AV):(cj E o v).s=E.s:=by
 unfold cj
 have:∀(τ:St) d x,(τ.put d x).s=τ.s:=fun τ d x=>by cases d<;>rfl
 grind [ja,NZ,pW,WJ]
theorem l5(o:aq)(v:AV)(x:Nat×Nat):x∈(cj E o v).lp↔(x∈E.lp\/∃i,pW o=some i/\x.1=i/\bG v x.2):=by
 have h1:(cj E o v).lp=(bZ (NZ o E) v (pW o)).lp:=by unfold cj;cases pW o<;>rfl
 grind [WJ,Bx,pW]
def uN(T:List Nat)(E:St):Prop:=∀i c,c∈T->¬bG (look E.e i) c
def yq(T:List Nat)(o:aq)(v:AV):Prop:=∀i,pW o=some i->∀c,c∈T->¬bG v c
def UB(T:List Nat)(o:aq):Prop:=∀c,Ra o=some c->c∈T
theorem I4:∀{c:Nat}{a:AV},nC c a=true->¬bG a c
 |c,.lp t o,h=>fun e=>by
  subst e
  have h':(!Nat.beq t t)=true:=h
  simp_all
 |c,.when b a,h=>I4 (a:=a) h
 |_,.undef,_|_,.bool _,_|_,.int _ _,_|_,.str _,_|_,.fj,_|_,.ref _ _,_|_,.sp _,_|_,.loc _,_|_,.sl _ _ _ _,_|_,.arr _ _ _ _,_|_,.agg _,_|_,.iL _,_|_,.fn _ _ _,_|_,.nX,_|_,.mp _,_|_,.se,_|_,.us _ _ _,_|_,.one,_|_,.ng _,_|_,.lx,_|_,.bb _ _ _,_=>fun h=>h
theorem EB:∀{T:List Nat}{a:AV},vz T a=true->∀c,c∈T->¬bG a c
 |c'::T,a,h,c,hc=>by
  have h':(nC c' a&&vz T a)=true:=h
  rw[Bool.and_eq_true]at h'
  rcases List.mem_cons.1 hc with rfl|hc
  ·exact I4 h'.1
  ·exact EB h'.2 c hc
theorem nE:∀{e:List (Nat×AV)},jK T e=true->∀i c,c∈T->¬bG (look e i) c
 |[],_,i,c,_=>fun h=>h
 |(j,a)::e,h,i,c,hc=>by
  have h':(vz T a&&jK T e)=true:=h
  rw[Bool.and_eq_true]at h'
  rw[bc]
  split
  ·exact EB h'.1 c hc
  ·exact nE h'.2 i c hc
theorem LU{v:AV}{c:Nat}(h:bG (view v) c):bG v c:=by cases v<;>first|exact h|exact h.elim
theorem Qc{o:aq}{i:Nat}{a:AV}{c:Nat}(h:bG (dz o i a) c):bG a c:=by grind [dz,FJ,LU]
theorem N5(o:aq)(i:Nat)(a:AV):bA (dz o i a)=bA a:=by grind [dz,CM,Jb]
theorem D1{o:aq}{i:Nat}{a:AV}(h:¬iX o i=true):dz o i a=a:=if_neg h
theorem T4(x y:aq)(i:Nat)(a:AV):dz x i (dz y i a)=dz y i (dz x i a):=by
 unfold dz
 grind [H9,JR]
theorem GQ(m off o:Nat)(a:AV):lg m off (jV o a)=lg m off a:=by
 cases a<;>first|rfl|skip
 rename_i cs
 have hv:views (match cs[o]? with|some (.sl _ sz n ds)=>setAt cs o [.sl false sz n ds]|_=>cs)=views cs:=by
  apply List.ext_getElem?
  intro j
  rw[eV,eV,nn]
  by_cases hj:j=o
  ·rw[if_pos hj]
   cases cs[j]? with
   |none=>rfl
   |some b=>cases b<;>rfl
  ·grind
 show gj m off _=gj m off cs
 grind [setAt,gj,views,AB.sub,List.map_take,List.map_drop]
theorem Sk(m off:Nat)(o:aq)(i:Nat)(a:AV):lg m off (dz o i a)=lg m off a:=by grind [dz,GQ,BV]
theorem qL{o:aq}{v:AV}(h:uN T E)(hs:yq T o v):uN T (cj E o v):=fun i c hc=>by
 rw[dE]
 split
 ·rename_i ht;exact hs i ht c hc
 ·exact fun hh=>h i c hc (Qc hh)
theorem yr{o:aq}{v:AV}(h:uN T (cj E o v)):yq T o v:=fun i hi c hc=>by
 have:=h i c hc
 rw[dE,if_pos hi]at this
 exact this
theorem Sl{o:aq}{v:AV}(hy:Y2 P E o v)(p:AV)(m:Nat)(hp:∀c,Ra o=some c->¬bG p c):rd (cj E o v) p m=rd E p m:=by
 cases p<;>try rfl
 ·rename_i b off
  show qF m off ((cj E o v).s b)=qF m off (E.s b)
  rw[oC]
 ·rename_i d off
  show lg m off (look (cj E o v).e d)=lg m off (look E.e d)
  rw[dE]
  by_cases hd:pW o=some d
  ·rw[if_pos hd]
   cases hy with
   |iJ _ _ h0 hf hv h=>
    rw[Nt h0]at hd
    rw[hd]at hf
    rw[jL hv]
    exact(jL hf m off).symm
   |sto m' c x iJ h0 h1 h2 h3=>
    have e:=hd
    injection e with e
    subst e
    exact(hp c rfl rfl).elim
   |X7 d' z h0 h1=>
    have e:=hd
    injection e with e
    subst e
    exact(hp d' rfl rfl).elim
   |app d' sz bytes x y _ h0 h1=>
    have e:=hd
    injection e with e
    obtain⟨k,cs,rfl⟩:=Fk h1
    rw[jL rfl]
    grind [jL]
   |Zd d' ZJ i x cs o s m' ds h0 h1 h2 h3 h4=>
    have e:=hd
    injection e with e
    rw[jL rfl]
    grind [jL]
  ·rw[if_neg hd]
   exact Sk ..
theorem acr{o:aq}(h:Yf o=true){a:AV}(ha:IX.c a∈eh o.op)(c:Nat):¬bG a c:=by
 have:=List.all_eq_true.1 h _ ha
 cases a<;>first|exact fun h=>h|grind
theorem Pg{g:Bool}:∀{a:AV}{c:Nat},bG (tZ g a) c->bG a c:=by
 intro a c h
 cases a
 case when b a=>
  have h':bG (bif(b==g||b)&&inner a then a else AV.undef) c:=h
  cases hb:((b==g||b)&&inner a)<;>rw[hb]at h'
  ·exact h'.elim
  ·exact h'
 all_goals exact h
theorem Tr{o:aq}(hc:Yf o=true)(h:uN T E){x:IX}(hx:x∈eh o.op)(g:Bool){c:Nat}(ht:c∈T):¬bG (xg g E x) c:=fun hh=>by
 have h':=Pg hh
 cases x with
 |c a=>exact acr hc hx c h'
 |t i=>exact h i c ht h'
theorem sD{o y:aq}{v:AV}(hy:Y2 P E y v)(hn:gV (pW y) (cu o)=true)(hdr:zj y o=true)(hc:Yf o=true)(hN:uN T E)(hT:UB T y):Hx o E (cj E y v):=by
 have key:∀i,i∈cu o->look (cj E y v).e i=look E.e i:=by
  intro i hi
  have h1:¬iX y i=true:=by
   have:=List.all_eq_true.1 hdr i hi
   simpa using this
  rw[dE,if_neg,D1 h1]
  intro hd
  rw[hd]at hn
  simp[gV]at hn
  exact hn hi
 refine⟨fun x hx=>?_,fun t want hg=>?_,(oC y v).symm,fun x hx g m=>(Sl hy _ m fun c hc'=>Tr hc hN hx g (hT c hc')).symm⟩
 ·cases x with
  |c a=>rfl
  |t i=>exact(key i (List.mem_append_right _ (gU hx))).symm
 ·exact(key t (List.mem_append_left _ (by rw[hg];exact List.mem_cons_self))).symm
theorem Y2.J8{o:aq}{v:AV}(hy:Y2 P E o v)(h:Hx o E E')(hf:∀i,o.dst=some i->bA (look E'.e i)=bA (look E.e i))(hl:∀i,Ra o=some i->lq E.lp (some i)=true->lq E'.lp (some i)=true):Y2 P E' o v:=by
 cases hy with
 |iJ _ _ h0 hs hv h1=>
  refine .iJ o v h0 ?_ hv (h1.J8 h)
  cases hd:o.dst with
  |none=>rfl
  |some i=>
   rw[hd]at hs
   show bA (look E'.e i)=true
   rw[hf i hd];exact hs
 |sto m c x iJ h0 h1 h2 h3=>
  have e1:look E.e c=look E'.e c:=h.xs (.t c) (by simp[eh])
  have e2:=h.xs x (by simp[eh])
  rw[e2]at h2 h3⊢
  exact .sto m c x iJ (by grind) h1 h2 h3
 |X7 d z h0 h1=>exact .X7 d z (by grind) (hl d rfl h1)
 |app d sz bytes x y _ h0 h1=>
  have e1:=h.xs x (by simp[eh])
  have e2:=h.xs y (by simp[eh])
  exact .app d sz bytes x y v (by grind) (by grind)
 |Zd d off i x cs o s m ds h0 h1 h2 h3 h4=>
  have e1:=h.xs x (by simp[eh])
  have e2:look E.e i=look E'.e i:=h.xs (.t i) (by simp[eh])
  exact .Zd d off i x cs o s m ds (by grind) (by grind) (by grind) h3 h4
theorem k9.cj(h:k9 E E')(o:aq)(v:AV):k9 (AB.cj E o v) (AB.cj E' o v):=⟨fun i=>by rw[dE,dE,h.e],fun x=>by rw[l5,l5,h.lp],by rw[oC,oC,h.s]⟩
theorem lW{l l':List (Nat×Nat)}{i:Nat}(h:∀x∈l',x.2=i->x∈l)(hf:lq l (some i)=true):lq l' (some i)=true:=by
 refine List.all_eq_true.2 fun x hx=>?_
 cases hb:Nat.beq x.2 i with
 |false=>rfl
 |true=>
  have:=List.all_eq_true.1 hf x (h x hx (Nat.eq_of_beq_eq_true hb))
  grind
theorem Y2.eqv{o:aq}{v:AV}(hy:Y2 P E o v)(h:k9 E E'):Y2 P E' o v:=hy.J8 (h.J8 o) (fun i _=>by rw[h.e]) fun i _ hf=>lW (fun x hx _=>(h.lp x).2 hx) hf
theorem Ch{x y:aq}{u v:AV}(hne:∀i j,pW x=some i->pW y=some j->i≠j)(hxy:∀i,pW y=some i->iX x i=false)(hyx:∀i,pW x=some i->iX y i=false):k9 (cj (cj E x u) y v) (cj (cj E y v) x u):=
 ⟨fun i=>by
   rw[dE,dE,dE,dE]
   by_cases h1:pW y=some i
   ·by_cases h2:pW x=some i
    ·grind
    ·rw[if_pos h1,if_neg h2,if_pos h1,D1 (by grind)]
   ·by_cases h2:pW x=some i
    ·rw[if_neg h1,if_pos h2,if_pos h2,D1 (by grind)]
    ·rw[if_neg h1,if_neg h2,if_neg h2,if_neg h1]
     exact T4 _ _ _ _,fun z=>by
   grind [l5],by grind [oC]⟩
theorem OV{iJ news:List AV}(h:news.length=iJ.length):setAt iJ 0 news=news:=by
 unfold setAt
 grind
theorem Uj(d sz bytes:Nat)(x y:IX)(K:St->Prop):JX P ⟨some d,.append sz bytes x y,none⟩ E K=lJ sz bytes E x (some d) K (E.x x) (E.x y):=by rfl
theorem Y2.run(h:Inv G n D E a w){ops:Array Oper}{o:Oper}{o':aq}{v:AV}(hc:ik P n ops o o'=true)(hy:Y2 P E o' v){next:Act->World->Prop}{Q:Exit->Act->World->Prop}
 (hn:∀G' a' w',Inv G' n D (cj E o' v) a' w'->aG G w G' w'->next a' w'):zT P ops o a w next Q:=by
 have gen:JX P o' E (fun τ=>τ=cj E o' v)->zT P ops o a w next Q:=fun hg=>gI h hc hg fun G' E' a' w' h1 h2 h3=>by grind
 cases hy with
 |iJ _ _ h0 _ _ h1=>exact h1.run h hc fun G' a' w' k1 k2=>hn G' a' w' (by grind [E0]) k2
 |sto m c x iJ h0 h1 h2 h3=>
  refine gen ?_
  refine⟨h2,h3,?_⟩
  have e:JT (E.drain x) (E.x (.t c)) (.t c) (bB (E.x x))=some ((E.drain x).put (some c) (.loc (bB (E.x x)))):=by
   have e1:E.x (.t c)=.loc iJ:=h0
   rw[e1]
   show wrL (E.drain x) c (fp 0 (bB (E.x x)) iJ)=_
   unfold fp
   rw[decide_eq_true (by omega),OV (by omega)]
   rfl
  rw[e]
  rfl
 |X7 d z h0 h1=>exact gen ⟨h1,rfl⟩
 |app d sz bytes x y _ h0 h1=>
  refine gen ?_
  rw[Uj]
  refine X9 h1 ?_
  obtain⟨k,cs,rfl⟩:=Fk h1
  rfl
 |Zd d off i x cs o s m ds h0 h1 h2 h3 h4=>
  refine gen ?_
  show Bl (.t i) off (E.x x)=true/\qA E (some d) _ (E.x x)
  rw[h1]
  refine⟨by simp[Bl],?_⟩
  show match look E.e i with|.loc cs=>some d≠some i/\Co off cs _|_=>False
  rw[h2]
  refine⟨fun e=>h4 (by grind),?_⟩
  unfold Co
  unfold cj NZ
  simp[h2,jV,h3]
  rfl
theorem Jq{ops:Array Oper}{Q:Exit->Act->World->Prop}{K:St->Prop}(G₀:Gh)(w₀:World)
 (hn:∀G' E' a' w',Inv G' n D E' a' w'->aG G₀ w₀ G' w'->K E'->Q .normal a' w'):∀(q:Nat)(l:List Oper)(l':List aq)(G:Gh)(E:St)(a:Act)(w:World),cz P n ops l l'=true->Inv G n D E a w->aG G₀ w₀ G w->DC P T q l' E K->wpList P ops Q l a w
 |0,l,l',G,E,a,w,hc,h,hp,hk=>pU G₀ w₀ hn l l' G E a w hc h hp hk
 |_+1,[],[],G,E,a,w,_,h,hp,hk=>hn G E a w h hp hk
 |q+1,o::l,o'::l',G,E,a,w,hc,h,hp,hk=>by
  simp[cz,Bool.and_eq_true]at hc
  obtain⟨v,hy,hk⟩:=GN hk
  exact hy.run h hc.1 fun G' a' w' h1 h2=>Jq G₀ w₀ hn q l l' G' _ a' w' hc.2 h1 (hp.trans h2) hk.2
 |_+1,[],_::_,_,_,_,_,hc,_,_,_=>by simp[cz]at hc
 |_+1,_::_,[],_,_,_,_,hc,_,_,_=>by simp[cz]at hc
def p9(P:Program)(T:List Nat):St->rn->Prop
 |_,[]=>True
 |E,(_,o,v)::r=>Y2 P E o v/\yq T o v/\UB T o/\p9 P T (cj E o v) r
def Ip:St->rn->St
 |E,[]=>E
 |E,(_,o,v)::r=>Ip (cj E o v) r
theorem p9.eqv:∀{p:rn}{E E':St},k9 E E'->p9 P T E p->p9 P T E' p
 |[],_,_,_,_=>trivial
 |(_,o,v)::r,_,_,h,⟨h1,h2,h3,h4⟩=>⟨h1.eqv h,h2,h3,p9.eqv (h.cj o v) h4⟩
theorem Iq:∀(p:rn){E E':St},k9 E E'->k9 (Ip E p) (Ip E' p)
 |[],_,_,h=>h
 |(_,o,v)::r,_,_,h=>Iq r (h.cj o v)
theorem rI{o:aq}{i:Nat}(h:iX o i=true):i∈cu o:=by
 unfold iX at h
 split at h
 ·rename_i j hop
  have:j=i:=by grind
  subst this
  refine List.mem_append_right _ ?_
  rw[hop];exact List.mem_cons_self
 ·rename_i m p j hop
  have:j=i:=by grind
  subst this
  refine List.mem_append_right _ ?_
  rw[hop]
  cases p with
  |t k=>exact List.mem_cons_of_mem _ List.mem_cons_self
  |c k=>exact List.mem_cons_self
 ·rename_i sz bytes j y hop
  have:j=i:=by grind
  subst this
  refine List.mem_append_right _ ?_
  rw[hop];exact List.mem_cons_self
 ·rename_i off j x hop
  have:j=i:=by grind
  subst this
  refine List.mem_append_right _ ?_
  rw[hop];exact List.mem_cons_self
 ·cases h
theorem HB{x y:aq}(h:Wn x y=true):gV (pW x) (cu y)=true/\gV (pW y) (cu x)=true/\(∀i j,pW x=some i->pW y=some j->i≠j)/\zj x y=true/\zj y x=true/\(∀i,pW y=some i->iX x i=false)/\(∀i,pW x=some i->iX y i=false)/\Yf x=true/\Yf y=true:=by
 unfold Wn at h
 grind [gV,iX,absurd,rI]
theorem sM{o:aq}{i:Nat}(h:o.dst=some i):pW o=some i:=by
 obtain⟨d,op,g⟩:=o
 have h':=h
 subst h'
 cases op<;>rfl
theorem kU{y:aq}{v:AV}{i:Nat}(h:pW y≠some i):bA (look (cj E y v).e i)=bA (look E.e i):=by
 rw[dE,if_neg h]
 exact N5 _ _ _
theorem Xs{x:Nat×aq×AV}:∀(pre:rn)(post:rn)(E:St),uN T E->(∀y∈pre,Wn y.2.1 x.2.1=true)->p9 P T E (pre++x::post)->
 Y2 P E x.2.1 x.2.2/\yq T x.2.1 x.2.2/\UB T x.2.1/\p9 P T (cj E x.2.1 x.2.2) (pre++post)/\k9 (Ip (cj E x.2.1 x.2.2) (pre++post)) (Ip E (pre++x::post))
 |[],post,E,_,_,h=>⟨h.1,h.2.1,h.2.2.1,h.2.2.2,k9.refl _⟩
 |(k,o,v)::pre,post,E,hN,hap,h=>by
  obtain⟨h1,h2,h3,h4⟩:=h
  obtain⟨i1,i2,i3,i4,i5⟩:=Xs pre post (cj E o v) (qL hN h2) (fun y hy=>hap y (List.mem_cons_of_mem _ hy)) h4
  obtain⟨a1,a2,a3,a4,a5,a6,a7,c1,c2⟩:=HB (hap (k,o,v) List.mem_cons_self)
  have hx:=i1.J8 (sD h1 a1 a4 c2 hN h3).symm
   (fun i hi=>(kU fun e=>a3 i i e (sM hi) rfl).symm)
   (fun i hi hf=>lW (fun z hz _=>(l5 o v z).2 (.inl hz)) hf)
  have ho:=h1.J8 (sD hx a2 a5 c1 hN i3)
   (fun i hi=>kU fun e=>a3 i i (sM hi) e rfl)
   (fun i hi hf=>lW (fun z hz hzi=>by
     rcases(l5 _ _ z).1 hz with hz|⟨j,j1,_,j3⟩
     ·exact hz
     ·rw[hzi]at j3;exact(i2 j j1 i (h3 i hi) j3).elim) hf)
  have Ef:k9 (cj (cj E o v) x.2.1 x.2.2) (cj (cj E x.2.1 x.2.2) o v):=Ch a3 a6 a7
  refine⟨hx,i2,i3,⟨ho,h2,h3,i4.eqv Ef⟩,?_⟩
  exact(Iq (pre++post) Ef.symm).trans i5
end
section
variable{P:Program}{G G':Gh}{n:Nat}{D:List Deferred}{E E':St}{a:Act}{w w':World}{ops:Array Oper}{bJ:List aq}{q:Nat}{T:List Nat}
theorem NP{l:List aq}{o:aq}(h:PT T bJ q=true)(hl:l=bJ.take q)(ho:o∈l):UB T o:=fun c hc=>by
 subst hl
 have:=List.all_eq_true.1 h o ho
 grind [Ra]
theorem EP{K:St->Prop}:∀(q:Nat)(l:List aq)(E:St)(k:Nat),q<=l.length->(∀o∈l.take q,UB T o)->DC P T q l E K->∃vs:List AV,vs.length=q/\p9 P T E (mk k l vs)/\swp P (l.drop q) (Ip E (mk k l vs)) K
 |0,l,E,k,_,_,h=>⟨[],rfl,by cases l<;>trivial,by cases l<;>exact h⟩
 |q+1,[],_,_,hl,_,_=>by grind
 |q+1,o::l,E,k,hl,hT,h=>by
  obtain⟨v,hy,hno,hk⟩:=GN (h)
  obtain⟨vs,h2,h3,h4⟩:=EP q l (cj E o v) (k+1) (by grind) (fun o' ho'=>hT o' (by grind)) hk
  exact⟨v::vs,by grind,⟨hy,yr fun i c hc=>nE hno i c hc,hT o (by simp),h3⟩,h4⟩
theorem OS{Q:Exit->Act->World->Prop}(G₀:Gh)(w₀:World)(f:Nat)(hc:cz P n ops ops.toList bJ=true)(hq:q<=ops.size)(h1:Mg ops q=true)(h2:DZ ops q=true)(h3:PU ops q bJ=true)(h4:q<ops.size->Region.ready .any ops (oU ops.size q)=[q]):
 ∀(m:Nat)(j6:rn),j6.length=m->∀(aU:Array Bool)(E:St),Good ops bJ q j6 aU->uN T E->p9 P T E j6->
  (∀G a w,Inv G n D (Ip E j6) a w->aG G₀ w₀ G w->wpAny P .any ops Q f (oU ops.size q) a w)->∀(G:Gh)(a:Act)(w:World),Inv G n D E a w->aG G₀ w₀ G w->wpAny P .any ops Q (m+f) aU a w:=by
 intro m
 induction m with
 |zero=>
  intro j6 hp aU E hg _ _ hT G a w h hpr
  have:j6=[]:=List.eq_nil_of_length_eq_zero hp
  subst this
  rw[Nw hg,Nat.zero_add]
  exact hT G a w h hpr
 |succ m ih=>
  intro j6 hp aU E hg hNo hch hT G a w h hpr
  obtain⟨hlen,jD⟩:=fU _ _ hc
  rw[show m+1+f=(m+f)+1 by omega]
  refine⟨fun h0=>?_,fun i hi=>?_⟩
  ·
   cases j6 with
   |nil=>simp at hp
   |cons x j6=>
    obtain⟨k,o,v⟩:=x
    obtain⟨u1,u2,u3⟩:=hg.un k o v List.mem_cons_self
    have Dk:k∈Region.ready .any ops aU:=by
     have hk:k<ops.size:=by omega
     refine mem_ready.2 ⟨u2,ops[k],Array.getElem?_eq_getElem hk,fun e he hb=>?_⟩
     have hs:=List.all_eq_true.1 h1 k (List.mem_range.2 u1)
     rw[Array.getElem?_eq_getElem hk]at hs
     have:=Array.all_eq_true_iff_forall_mem.1 hs e he
     rw[hb]at this
     have hlt:e.on<k:=by simpa using this
     refine hg.li e.on (by omega) fun o' v' hm=>?_
     rcases List.mem_cons.1 hm with hm|hm
     ·grind
     ·have:=(List.pairwise_cons.1 hg.sorted).1 _ hm
      grind
    grind
  ·obtain⟨r1,r2,r3⟩:=jZ hi
   have hne:∃k o v,(k,o,v)∈j6:=by
    cases j6 with
    |nil=>simp at hp
    |cons x j6=>grind
   have hiq:i<q:=by
    refine Classical.byContradiction fun hge=>?_
    have hqs:q<ops.size:=by omega
    by_cases hiq':i=q
    ·subst hiq'
     have dq:∀(d k:Nat),k<i->i -k=d->aU.getD k false=true:=by
      intro d
      induction d using Nat.strongRecOn with
      |_ d ihd=>
       intro k hk hd
       have hs:((List.range i).all fun k=>(List.range (i+1)).any fun m=>decide (k<m)&&ib ops m k)=true:=by
        unfold DZ at h2
        rw[Bool.or_eq_true]at h2
        rcases h2 with h2|h2
        ·grind
        ·exact h2
       obtain⟨m',hm1,hm2⟩:=List.any_eq_true.1 (List.all_eq_true.1 hs k (List.mem_range.2 hk))
       rw[Bool.and_eq_true,decide_eq_true_eq]at hm2
       have agN:=List.mem_range.1 hm1
       by_cases hmi:m'=i
       ·grind
       ·exact hg.cl m' (by omega) (ihd (i -m') (by omega) m' (by omega) rfl) k hm2.2
     obtain⟨k,o,v,hk⟩:=hne
     obtain⟨u1,u2,u3⟩:=hg.un k o v hk
     grind
    ·have hnr:i∉Region.ready .any ops (oU ops.size q):=by rw[h4 hqs];simpa using hiq'
     apply hnr
     refine mem_ready.2 ⟨?_,ops[i],Array.getElem?_eq_getElem r1,fun e he hb=>?_⟩
     ·simp[oU,r1];omega
     ·have hl:=r3 e.on ((lQ (Array.getElem?_eq_getElem r1)).2 ⟨e,he,hb,rfl⟩)
      have hlt:e.on<q:=by
       refine Classical.byContradiction fun hnl=>?_
       by_cases hs:e.on<ops.size
       ·have:=hg.tl e.on (by omega) hs
        grind
       ·have:aU.getD e.on false=false:=by simp[Array.getElem?_eq_none (show aU.size<=e.on by rw[hg.size];omega)]
        grind
      simp[oU,show e.on<ops.size by omega,hlt]
   have hin:∃o v,(i,o,v)∈j6:=by
    apply Classical.byContradiction
    intro hno
    have:=hg.li i hiq fun o v hm=>hno ⟨o,v,hm⟩
    have:=wI this
    rw[r2]at this
    cases this
   obtain⟨o',v,hin⟩:=hin
   obtain⟨pre,post,rfl⟩:=List.append_of_mem hin
   have y9:=List.pairwise_append.1 hg.sorted
   have hap:∀y∈pre,Wn y.2.1 o'=true:=by
    intro y hy
    obtain⟨k,o,u⟩:=y
    have hlt:k<i:=y9.2.2 _ hy _ List.mem_cons_self
    obtain⟨u1,u2,u3⟩:=hg.un k o u (List.mem_append_left _ hy)
    obtain⟨_,_,u4⟩:=hg.un i o' v (by simp)
    have hs:=List.all_eq_true.1 (List.all_eq_true.1 h3 i (List.mem_range.2 hiq)) k (List.mem_range.2 hlt)
    rw[Bool.or_eq_true]at hs
    rcases hs with hs|hs
    ·grind
    ·grind [Wo]
   obtain⟨p1,p2,p3,p4,p5⟩:=Xs pre post E hNo hap hch
   obtain⟨_,_,u4⟩:=hg.un i o' v (by simp)
   have ho:ops.toList[i]? =some ops[i]:=by simp[r1]
   refine nP (o:=ops[i]) (by simp[r1]) (Y2.run h (jD i _ _ ho u4) p1 fun G' a' w' k1 k2=>?_)
   exact ih (pre++post) (by grind) _ (cj E o' v) (Ee hg hi) (qL hNo p2) p4 (fun G'' a'' w'' z1 z2=>hT G'' a'' w'' (z1.eqv p5) z2) G' a' w' k1 (hpr.trans k2)
theorem Yp(hm:P.follows .mixedOrders=true):Wj P n:=by
 intro D draw id ops bJ T q G E a w K Q hc hd h hno hw hn
 cases draw with
 |false=>grind [wp_region_list,Jq,aG.refl]
 |true=>
 have hd:=hd rfl
 simp only[Fu,Bool.and_eq_true,decide_eq_true_eq]at hd
 obtain⟨hq,h1,h2,h3,hl0,h4⟩:=hd
 obtain⟨hlen,jD⟩:=fU _ _ hc
 have hsz:bJ.length=ops.size:=by rw[<-hlen];simp
 obtain⟨vs,e1,e2,e3⟩:=EP q bJ E 0 (by omega) (fun o ho=>NP hl0 rfl ho) hw
 have hmk:(mk 0 bJ vs).length=q:=by
  have:∀(l:List aq)(vs:List AV)(k:Nat),vs.length<=l.length->(mk k l vs).length=vs.length:=by
   intro l
   induction l with
   |nil=>intro vs k hl;cases vs with
    |nil=>rfl
    |cons=>simp at hl
   |cons o l ih=>intro vs k hl;cases vs with
    |nil=>rfl
    |cons v vs=>grind [mk]
  rw[this bJ vs 0 (by omega),e1]
 refine wp_region_any hm ?_
 have hrq:q<ops.size->Region.ready .any ops (oU ops.size q)=[q]:=by
  intro hlt
  obtain⟨d,hd⟩:∃d,ops.size -q=d+1:=⟨ops.size -q -1,by omega⟩
  rw[hd]at h4
  simp only[qj,Bool.and_eq_true,beq_iff_eq]at h4
  exact h4.1
 have hT:∀G' a' w',Inv G' n D (Ip E (mk 0 bJ vs)) a' w'->aG G w G' w'->wpAny P .any ops Q (ops.size -q) (oU ops.size q) a' w':=by
  intro G' a' w' z1 z2
  have hl:(bJ.drop q).length=ops.size -q:=by rw[List.length_drop];omega
  have:=vP G w hc hn (bJ.drop q) q (oU ops.size q) G' _ a' w' rfl (by grind) e3 z1 z2
  rwa[hl]at this
 have jE:Good ops bJ q (mk 0 bJ vs) (Array.replicate ops.size false):=by
  have KP:∀k b,k<ops.size->(Array.replicate ops.size false).getD k b=false:=fun k b hk=>by simp[hk]
  refine⟨by simp,fun k o v hk=>?_,fun k hk hno=>?_,fun j _ hj=>KP j _ hj,fun m hm hl i hi=>?_,yw bJ vs 0⟩
  ·obtain⟨j,j1,j2,j3⟩:=Gz bJ vs 0 k o v hk
   have:k=j:=by omega
   subst this
   exact⟨by omega,KP k _ (by omega),j3⟩
  ·obtain⟨o,v,hh⟩:=Lg bJ vs 0 k (by omega) (by omega)
   grind
  ·rw[KP m _ (by omega)]at hl;cases hl
 have:=OS (T:=T) (P:=P) (n:=n) (Q:=Q) G w (ops.size -q) hc hq h1 h2 h3 hrq q (mk 0 bJ vs) hmk _ E jE (fun i c hc=>nE hno i c hc) e2 hT G a {w with drawn:=w.drawn+1} h.drew (aG.drew G w)
 grind
end
section
variable{P:Program}{G G':Gh}{n:Nat}{D:List Deferred}{E E':St}{a:Act}{w w':World}{T:List Nat}
def sx(a:AV):Prop:=bA a=true/\∀t,¬bG a t
theorem Kb{f:Nat}{s:ae}{C C':AV->ae->Prop}(hc:∀a s',sx a->C a s'->C' a s'):∀{o:Option (List AV)},xR P f s C o->xR P f s C' o
 |some _,h=>FN.mono h fun rs s'⟨h1,h2⟩=>⟨h1,hc _ _ ⟨ox h1,tf h1⟩ h2⟩
 |none,h=>h
theorem HJ{s:ae}{C C':AV->ae->Prop}(hc:∀a s',sx a->C a s'->C' a s'){o:Option (List AV)}{x:AV}(h:sI P o s C x):sI P o s C' x:=by
 unfold sI at h⊢
 split at h
 ·unfold HI at h⊢
  split at h
  ·exact⟨h.1,FN.mono h.2 fun rs s'⟨h1,h2⟩=>⟨h1,hc _ _ ⟨ox h1,tf h1⟩ h2⟩⟩
  ·exact h
 ·exact h
theorem E7(b o l c:Nat):sx (.arr b o l c):=⟨rfl,fun _ h=>h⟩
theorem E8(b o:Nat):sx (.ref b o):=⟨rfl,fun _ h=>h⟩
theorem Tf(b:Nat):sx (.mp b):=⟨rfl,fun _ h=>h⟩
theorem E9(l:List AV):sx (.iL l):=⟨rfl,fun _ h=>h⟩
theorem wi{o:qN}{C C':AV->ae->Prop}(hc:∀a s',sx a->C a s'->C' a s')(h:rh P o E C):rh P o E C':=by
 cases o<;>first|(exact h.elim)|skip
 case call f args=>exact Kb hc h
 case iC x args=>exact HJ hc h
 case makeMap=>exact fun b hb=>hc _ _ (Tf b) (h b hb)
 case mb z=>exact fun b hb=>hc _ _ (E8 b 0) (h b hb)
 case zy m x=>exact⟨h.1,h.2.1,fun b hb=>hc _ _ (E8 b 0) (h.2.2 b hb)⟩
 case kT sz by' z l c=>
  have h:rB by' z E.s C (xg true E l) (xg true E c):=h
  show rB by' z E.s C' (xg true E l) (xg true E c)
  unfold rB at h⊢
  grind [E7]
 case store m p v=>
  have h:od m E.s C (E.x v) (E.x p):=h
  show od m E.s C' (E.x v) (E.x p)
  unfold od at h⊢
  split at h
  ·have h4:=h.2.2.2
   unfold L9 at h4⊢
   grind [E9]
  ·exact h
 case mw x=>
  have h:nf E.s C (E.x x):=h
  show nf E.s C' (E.x x)
  unfold nf at h⊢
  split at h
  ·unfold sJ at h⊢
   split at h
   ·unfold jM at h⊢
    split at h
    ·exact hc _ _ ⟨rfl,fun _ h=>h⟩ h
    ·exact hc _ _ ⟨rfl,fun _ h=>h⟩ h
    ·exact h
   ·exact h
  ·exact h
 case mapUpdate kk x k v=>
  have h:DX kk E.s (xg true E k) (xg true E v) C (xg true E x):=h
  show DX kk E.s (xg true E k) (xg true E v) C' (xg true E x)
  unfold DX at h⊢
  split at h
  ·unfold Kc at h⊢
   grind [E9]
  ·exact h
theorem AG{o:qN}{C:AV->ae->Prop}(hx:∀x∈eh o,E.x x=E'.x x)(hs:E.s=E'.s)(h:rh P o E C):rh P o E' C:=by
 have hg:∀x∈eh o,xg true E x=xg true E' x:=fun x h=>by grind [xg]
 cases o<;>first|(exact h.elim)|skip
 case call f args=>
  show xR P f E'.s C (cF (xg true E') args)
  rw[<-hs,<-gS args hg];exact h
 case iC x args=>
  show sI P (cF (xg true E') args) E'.s C (xg true E' x)
  rw[<-hs,<-gS args fun y hy=>hg y (List.mem_cons_of_mem _ hy),<-hg x List.mem_cons_self];exact h
 case makeMap=>grind [rh]
 case mb z=>grind [rh]
 case zy m x=>rw[rh,<-hs,<-hg x List.mem_cons_self];exact h
 case kT sz by' z l c=>grind [rh,eh]
 case store m p v=>grind [rh,eh]
 case mw x=>rw[rh,<-hs,<-hx x List.mem_cons_self];exact h
 grind [kk,rh,eh]
theorem LV{a:AV}(h:Ja a=true)(hv:dh a=true):view a=a:=by
 cases a<;>first|rfl|skip
 ·rename_i o z m cs
  cases o
  ·rfl
  ·cases h
 ·cases hv
 ·cases hv
 ·cases h
theorem k9.put(h:k9 E E')(d:Option Nat)(v:AV):k9 (E.put d v) (E'.put d v):=by
 cases d with
 |none=>exact h
 |some d=>exact⟨fun i=>by show look ((d,v)::E.e) i=look ((d,v)::E'.e) i;rw[bc,bc,h.e],h.lp,h.s⟩
theorem k9.Nx(h:k9 E E')(s:ae):k9 {E with s:=s} {E' with s:=s}:=⟨h.e,h.lp,rfl⟩
theorem N4{x:IX}(h:view (E.x x)=E.x x):k9 (E.drain x) E:=by
 cases x with
 |c a=>exact k9.refl _
 |t i=>
  refine⟨fun j=>?_,fun _=>Iff.rfl,rfl⟩
  show look ((i,view (look E.e i))::E.e) j=_
  rw[bc]
  by_cases e:i=j
  ·subst e;simp;exact h
  ·simp[e]
theorem TH{o:aq}{K:St->Prop}(hK:∀τ U',k9 τ U'->K τ->K U')(h:Tv P o E K):JX P o E K:=by
 obtain⟨d,op,g⟩:=o
 cases g with
 |some _=>exact h.elim
 |none=>
 replace h:=h.2
 cases op<;>first|(exact h.elim)|skip
 case call f args=>
  show ue P f E d K (cF (xg true E) args)
  have h:xR P f E.s (PB E d K) (cF (xg true E) args):=h
  cases hh:cF (xg true E) args<;>rw[hh]at h<;>exact h
 case iC x args=>
  show uW P E (cF (xg true E) args) d K (xg true E x)
  have h:sI P (cF (xg true E) args) E.s (PB E d K) (xg true E x):=h
  cases hh:cF (xg true E) args<;>cases hx:xg true E x<;>rw[hh,hx]at h<;>exact h
 case makeMap=>exact h
 case mb z=>exact h
 case zy m x=>exact h
 case kT sz by' z l c=>
  show xc by' z E d K (xg true E l) (xg true E c)
  have h:rB by' z E.s (PB E d K) (xg true E l) (xg true E c):=h
  cases hl:xg true E l<;>cases hc:xg true E c<;>rw[hl,hc]at h<;>exact h
 case store m p v=>
  show LM m E p v d K (E.x v)
  have h:od m E.s (PB E d K) (E.x v) (E.x p):=h
  unfold od at h
  split at h
  ·rename_i b off hp
   obtain⟨h1,h2,h3,h4⟩:=h
   refine⟨h1,h3,?_⟩
   have hd:=N4 (LV h2 h1)
   rw[hp]
   show Pt d K (Tm (E.drain v) b off (bB (E.x v)) ((E.drain v).s b))
   rw[hd.s]
   unfold L9 at h4
   split at h4
   ·rename_i iJ ho
    rw[ho]
    show Pt d K (wrS (E.drain v) b (fp off (bB (E.x v)) iJ))
    unfold fp
    rw[decide_eq_true h4.1]
    refine hK _ _ ?_ h4.2
    have e:k9 {E with s:=E.s.set b (.cells (setAt iJ off (bB (E.x v))))} {E.drain v with s:=(E.drain v).s.set b (.cells (setAt iJ off (bB (E.x v))))}:=by rw[hd.s];exact hd.symm.Nx _
    exact e.put d _
   grind
  grind
 case mw x=>
  show qA E d K (E.x x)
  have h:nf E.s (PB E d K) (E.x x):=h
  unfold nf at h
  split at h
  ·rename_i b off hx
   rw[hx]
   unfold qA
   simp only
   unfold sJ at h
   split at h
   ·rename_i cs he
    first|exact h|(rw[he];exact h)
   grind
  grind
 case mapUpdate kk x k v=>
  show xd kk E (xg true E k) (xg true E v) d K (xg true E x)
  have h:DX kk E.s (xg true E k) (xg true E v) (PB E d K) (xg true E x):=h
  unfold DX at h
  split at h
  ·rename_i b hx
   rw[hx]
   show aaH kk b E (xg true E k) (xg true E v) d K (E.s b)
   unfold Kc at h
   split at h
   ·rename_i es he
    rw[he];exact h
   grind
  grind
theorem ad6{o:aq}{g:Bool}(h:l4 o E=true)(s:ae):pv o.op (xg g {E with s:=s}) {E with s:=s}=pv o.op (xg g E) E:=by
 have hf:xg g {E with s:=s}=xg g E:=by rfl
 obtain⟨d,op,gg⟩:=o
 cases op<;>first|rfl|skip
 case oj tr x=>cases tr<;>rfl
 case slice sz x lo hi mx=>cases mx<;>rfl
 case load m multi x=>
  have h:nG (E.x x)=true:=h
  have hn:nG (xg g E x)=true:=by
   unfold xg tZ
   split
   ·rename_i b a hb
    rw[hb]at h
    cases hc:((b==g)||b)&&inner a
    ·rfl
    ·exact h
   ·exact h
  show ju multi (rd {E with s:=s} (xg g E x) m)=ju multi (rd E (xg g E x) m)
  cases he:xg g E x<;>first|rfl|(rw[he]at hn;cases hn)
 case ki z m x=>cases h
 case nA k x=>cases h
 case len c x=>
  show zR s c (xg g E x)=zR E.s c (xg g E x)
  match c,h with
  |0,_=>cases xg g E x<;>rfl
  |1,_=>cases xg g E x<;>rfl
  |c+3,_=>cases xg g E x<;>rfl
 case Ty ne x y=>
  cases y with
  |t i=>rfl
  |c a=>
   cases a<;>first|rfl|skip
   rename_i o z m cs
   cases o<;>cases m<;>cases cs<;>rfl
theorem ahA{o:aq}(h:l4 o E=true)(s:ae):qv o {E with s:=s}=qv o E:=by
 unfold qv
 split
 ·exact ad6 h s
 ·unfold Lx
  grind [V6,ad6]
theorem aeq{o:aq}(h:l4 o E=true)(s:ae)(f:IX->AV):qe f s o.op=qe f E.s o.op:=by
 obtain⟨d,op,gg⟩:=o
 cases op<;>first|rfl|(cases h)
theorem aep{o:aq}(h:l4 o E=true)(s:ae):CB o {E with s:=s}=CB o E:=by
 have hf:∀g,xg g {E with s:=s}=xg g E:=fun g=>by rfl
 unfold CB
 split
 ·grind [aeq]
 ·unfold Ps
  grind [Tl,qe,xg,aeq]
theorem aas(d:Option Nat)(s:ae):bp {E with s:=s} d=bp E d:=by rfl
theorem Y2.Nx{o:aq}{v:AV}(hy:Y2 P E o v)(h:l4 o E=true)(s:ae):Y2 P {E with s:=s} o v:=by
 cases hy with
 |iJ _ _ h0 hf hv hy=>
  refine .iJ o v h0 (by assumption) hv ?_
  cases hy with
  |pure _ _ hq=>exact .pure o v (by grind [ahA])
  |oj d x hi=>exact .oj d x hi
  |call=>cases h
  |HM=>cases h
  |iC=>cases h
  |AQ=>cases h
  |WN _ _ hq=>exact .WN o v (by grind [aep])
 |sto m c x iJ h0 h1 h2 h3=>exact .sto m c x iJ h0 h1 h2 h3
 |X7 d z h0 h1=>exact .X7 d z h0 h1
 |app d sz bytes x y _ h0 h1=>exact .app d sz bytes x y v h0 h1
 |Zd d off i x cs o s' m ds h0 h1 h2 h3 h4=>exact .Zd d off i x cs o s' m ds h0 h1 h2 h3 h4
def behind(E:St)(d:Option Nat)(a:AV)(s:ae):St:={E with s:=s}.put d a
theorem lV(E:St)(d:Option Nat)(a:AV)(i:Nat):look (E.put d a).e i=if d=some i then a else look E.e i:=by
 cases d with
 |none=>simp[St.put]
 |some d=>
  show look ((d,a)::E.e) i=_
  grind [bc]
theorem EO(E:St)(d:Option Nat)(a:AV):(E.put d a).s=E.s/\(E.put d a).lp=E.lp:=by cases d<;>exact⟨rfl,rfl⟩
theorem PD(E:St)(d:Option Nat)(a:AV)(s:ae):(behind E d a s).s=s:=(EO _ d a).1
theorem sf{d:Option Nat}{l:List Nat}(h:gV d l=true){i:Nat}(hi:i∈l):d≠some i:=fun e=>by grind [gV]
theorem Pw{y x:aq}(h:X8 y x=true):zj y x=true/\gV (pW y) (cu x)=true/\gV x.dst (cu y)=true/\∀i,pW y=some i->x.dst≠some i:=by
 unfold X8 at h
 grind
theorem L4{y:aq}{d:Option Nat}{v:AV}(hd:gV d (cu y)=true)(hf:bp E d=true)(hv:bA v=true):Hx y E (E.put d v):=by
 have key:∀i,i∈cu y->look E.e i=look (E.put d v).e i:=fun i hi=>by rw[lV,if_neg (sf hd hi)]
 refine⟨fun x hx=>?_,fun t want hg=>key t (List.mem_append_left _ (by rw[hg];exact List.mem_cons_self)),(EO E d v).1.symm,fun x _ g m=>?_⟩
 ·cases x with
  |c a=>rfl
  |t i=>exact key i (List.mem_append_right _ (gU hx))
 ·cases he:xg g E x<;>try rfl
  ·rename_i b off
   show qF m off (E.s b)=qF m off ((E.put d v).s b)
   grind [EO]
  ·rename_i c off
   show lg m off (look E.e c)=lg m off (look (E.put d v).e c)
   rw[lV]
   by_cases e:d=some c
   ·rw[if_pos e,jL hv]
    rw[e]at hf
    exact jL hf m off
   grind
theorem OX{y:aq}{d:Option Nat}{v:AV}{s:ae}(hd:gV d (cu y)=true):l4 y (behind E d v s)=l4 y E:=by
 obtain⟨dd,op,g⟩:=y
 cases op<;>first|rfl|skip
 rename_i m mu x
 cases x with
 |c a=>rfl
 |t i=>
  show nG (look (behind E d v s).e i)=nG (look E.e i)
  unfold behind
  rw[lV,if_neg (sf hd (List.mem_append_right _ (gU (List.mem_cons_self))))]
theorem Y2.behind{y:aq}{v av:AV}{d:Option Nat}{s:ae}(hy:Y2 P E y v)(h:l4 y E=true)(hd:gV d (cu y)=true)(hf:bp E d=true)(hv:sx av)(hne:∀i,pW y=some i->d≠some i):Y2 P (behind E d av s) y v:=by
 have h1:=hy.Nx h s
 unfold AB.behind
 refine h1.J8 (L4 hd (by assumption) hv.1) (fun i hi=>?_) (fun i hi hf=>?_)
 ·rw[lV,if_neg (hne i (sM hi))]
 grind [EO]
def oE(s s':ae):Prop:=∀b m off cs,qF m off (s b)=some cs->qF m off (s' b)=some cs
theorem Y2.V8{d:Option Nat}{m:Nat}{mu:Bool}{x:IX}{v:AV}{s:ae}(hy:Y2 P E ⟨d,.load m mu x,none⟩ v)(hs:oE E.s s):Y2 P {E with s:=s} ⟨d,.load m mu x,none⟩ v:=by
 have hx:xg true {E with s:=s} x=xg true E x:=by rfl
 have key:qv ⟨d,.load m mu x,none⟩ E≠.no->qv ⟨d,.load m mu x,none⟩ {E with s:=s}=qv ⟨d,.load m mu x,none⟩ E:=by
  show ju mu (rd E (xg true E x) m)≠.no->ju mu (rd {E with s:=s} (xg true {E with s:=s} x) m)=ju mu (rd E (xg true E x) m)
  rw[hx]
  intro hn
  cases he:xg true E x<;>try rfl
  rename_i b off
  rw[he]at hn
  have hn:ju mu (qF m off (E.s b))≠.no:=hn
  show ju mu (qF m off (s b))=ju mu (qF m off (E.s b))
  cases hb:qF m off (E.s b)with
  |none=>rw[hb]at hn;exact absurd rfl hn
  |some cs=>rw[hs b m off cs hb]
 cases hy with
 |iJ _ _ h0 hf hv hy=>
  refine .iJ _ v h0 (by assumption) hv ?_
  cases hy with
  |pure _ _ hq=>
   refine .pure _ v ?_
   grind
  |WN _ _ hq=>rcases hq with h|⟨c,h,_⟩<;>exact nomatch h
theorem Ex{y x:aq}(h:IV y x=true):(∃d m mu p,y=⟨d,.load m mu p,none⟩)/\((∃d sz by' z l c g,x=⟨d,.kT sz by' z l c,g⟩)\/∃d p g,x=⟨d,.mw p,g⟩):=by
 unfold IV at h
 grind
theorem Y2.TI{y x:aq}{v av:AV}{d:Option Nat}{s:ae}(hy:Y2 P E y v)(hl:IV y x=true)(hs:oE E.s s)(hd:gV d (cu y)=true)(hf:bp E d=true)(hv:sx av)(hne:∀i,pW y=some i->d≠some i):Y2 P (AB.behind E d av s) y v:=by
 have h1:Y2 P {E with s:=s} y v:=by
  obtain⟨⟨d,m,mu,p,rfl⟩,_⟩:=Ex hl
  exact hy.V8 hs
 unfold AB.behind
 refine h1.J8 (L4 hd (by assumption) hv.1) (fun i hi=>?_) (fun i hi hf=>?_)
 ·rw[lV,if_neg (hne i (sM hi))]
 grind [EO]
theorem oE.grow{s:ae}{b:Nat}(h:s b=none)(o:SO):oE s (s.set b o):=by
 intro b' m off cs hr
 have:b'≠b:=fun e=>by rw[e,h]at hr;cases hr
 grind [ae.set]
theorem oE.take{s:ae}{b off:Nat}{cs ds:List AV}(h:s b=some (.cells cs))(hv:views ds=views cs):oE s (s.set b (.cells ds)):=by
 intro b' m o zs hr
 by_cases e:b'=b
 ·subst e
  rw[h]at hr
  have hl:=by have:=congrArg List.length hv;simpa[views]using this
  have hs:views (sub ds o m)=views (sub cs o m):=by
   have:=congrArg (fun l=>(l.drop o).take m) hv
   simpa[views,sub,List.map_take,List.map_drop]using this
  have hr:gj m o cs=some zs:=hr
  have e2:(s.set b' (.cells ds)) b'=some (.cells ds):=by simp[ae.set]
  rw[e2]
  show gj m o ds=some zs
  grind [gj]
 grind [ae.set]
theorem NN{y x:aq}{C C':AV->ae->Prop}(hl:IV y x=true)(hc:∀a s',sx a->oE E.s s'->C a s'->C' a s')(h:rh P x.op E C):rh P x.op E C':=by
 rcases(Ex hl).2 with⟨d,sz,by',z,l,c,g,rfl⟩|⟨d,p,g,rfl⟩
 ·have h:rB by' z E.s C (xg true E l) (xg true E c):=h
  show rB by' z E.s C' (xg true E l) (xg true E c)
  unfold rB at h⊢
  grind [E7,oE.grow]
 ·have h:nf E.s C (E.x p):=h
  show nf E.s C' (E.x p)
  unfold nf at h⊢
  split at h
  ·rename_i b off hp
   unfold sJ at h⊢
   split at h
   ·rename_i cs hcs
    have hvw:∀a,cs[off]? =some a->views (setAt cs off [view a])=views cs:=fun a ha=>by
     have hlt:=(List.getElem?_eq_some_iff.1 ha).1
     have he:=(List.getElem?_eq_some_iff.1 ha).2
     have:cs=cs.take off++[a]++cs.drop (off+1):=by rw[<-he];simp
     unfold setAt
     conv=>rhs;rw[this]
     have hvv:∀z,view (view z)=view z:=fun z=>by cases z<;>rfl
     simp[views,hvv]
    unfold jM at h⊢
    split at h
    ·rename_i o sz n ds he
     exact hc _ _ ⟨rfl,fun _ h=>h⟩ (oE.take (off:=off) hcs (hvw _ he)) h
    ·rename_i t n ds he
     exact hc _ _ ⟨rfl,fun _ h=>h⟩ (oE.take (off:=off) hcs (hvw _ he)) h
    ·exact h
   ·exact h
  ·exact h
theorem wc{y:aq}{v av:AV}{d:Option Nat}{s:ae}(hd:gV d (cu y)=true)(hne:∀i,pW y=some i->d≠some i):k9 (cj (behind E d av s) y v) (AB.behind (cj E y v) d av s):=by
 refine⟨fun i=>?_,fun x=>?_,?_⟩
 ·rw[dE]
  unfold AB.behind
  rw[lV,lV]
  rw[dE]
  by_cases h1:pW y=some i
  ·grind
  ·by_cases h2:d=some i
   ·grind [D1,sf,rI]
   grind
 ·grind [l5,AB.behind,EO,cj]
 grind [oC,PD]
def bE(P:Program)(T:List Nat):List Item->(St->Prop)->St->Prop
 |[],K,E=>∃τ,k9 τ E/\K τ
 |(k,_,o)::r,K,E=>if 3<=k then∃τ,k9 τ E/\JX P o τ (fun ρ=>jK T ρ.e=true/\JW P T r ρ K)else if 2<=k then bp E o.dst=true/\o.g=none/\rh P o.op E (fun a s=>bE P T r K (behind E o.dst a s))
  else∃v,Y2 P E o v/\yq T o v/\(k=1->l4 o E=true)/\bE P T r K (cj E o v)
theorem AI{K:St->Prop}:∀(l:List Item)(E:St),JW P T l E K->bE P T l K E
 |[],E,h=>⟨E,k9.refl _,h⟩
 |(0,_,o)::r,E,h=>by
  obtain⟨v,h1,h2,h3⟩:=GN (h)
  exact⟨v,h1,yr fun i c hc=>nE h2 i c hc,fun e=>(by omega),AI r _ h3⟩
 |(1,_,o)::r,E,h=>by
  obtain⟨h0,h⟩:=h
  obtain⟨v,h1,h2,h3⟩:=GN (h)
  exact⟨v,h1,yr fun i c hc=>nE h2 i c hc,fun _=>h0,AI r _ h3⟩
 |(k+3,_,o)::r,E,h=>by
  have h:JX P o E (fun τ=>jK T τ.e=true/\JW P T r τ K):=h
  unfold bE
  grind [k9.refl]
 |(2,_,o)::r,E,h=>by
  have h:Tv P o E (fun τ=>jK T τ.e=true/\JW P T r τ K):=h
  unfold Tv at h
  split at h
  ·rename_i hg
   exact⟨h.1,hg,wi (fun a s _ hk=>AI r _ hk.2) h.2⟩
  grind
theorem OW{o:aq}(h:k9 E E'):l4 o E=l4 o E':=by
 obtain⟨d,op,g⟩:=o
 cases op<;>first|rfl|skip
 rename_i m mu x
 cases x with
 |c a=>rfl
 |t i=>show nG (look E.e i)=nG (look E'.e i);rw[h.e]
theorem xO{K:St->Prop}:∀(l:List Item){E E':St},k9 E E'->bE P T l K E->bE P T l K E'
 |[],_,_,h,⟨τ,h1,h2⟩=>⟨τ,h1.trans h,h2⟩
 |(k,i,o)::r,E,E',h,hb=>by
  unfold bE at hb⊢
  by_cases hk3:3<=k
  ·rw[if_pos hk3]at hb⊢
   obtain⟨τ,h1,h2⟩:=hb
   exact⟨τ,h1.trans h,h2⟩
  rw[if_neg hk3]at hb⊢
  by_cases hk:2<=k
  ·rw[if_pos hk]at hb⊢
   refine⟨by rw[<-h.free];exact hb.1,hb.2.1,?_⟩
   refine AG (fun x _=>by cases x with|c a=>rfl|t i=>exact h.e i) h.s (wi (fun a s _ hh=>?_) hb.2.2)
   exact xO r ((h.Nx s).put o.dst a) hh
  ·rw[if_neg hk]at hb⊢
   obtain⟨v,h1,h2,h3,h4⟩:=hb
   exact⟨v,h1.eqv h,h2,fun e=>by grind [OW],xO r (h.cj o v) h4⟩
theorem zq{o y:aq}{v:AV}(hn:gV (pW y) (cu o)=true)(hdr:zj y o=true):l4 o (cj E y v)=l4 o E:=by
 obtain⟨d,op,g⟩:=o
 cases op<;>first|rfl|skip
 rename_i m mu x
 cases x with
 |c a=>rfl
 |t i=>
  have hi:i∈cu ⟨d,.load m mu (.t i),g⟩:=List.mem_append_right _ (gU List.mem_cons_self)
  show nG (look (cj E y v).e i)=nG (look E.e i)
  rw[dE,if_neg (sf hn hi),D1]
  have:=List.all_eq_true.1 hdr i hi
  grind
theorem Xt{K:St->Prop}{kx ix:Nat}{x:aq}(hkx:¬2<=kx)(hTx:UB T x):∀(pre:List Item)(post:List Item)(E:St),uN T E->(∀y∈pre,¬2<=y.1/\Wn y.2.2 x=true/\UB T y.2.2)->bE P T (pre++(kx,ix,x)::post) K E->
 ∃v,Y2 P E x v/\yq T x v/\(kx=1->l4 x E=true)/\bE P T (pre++post) K (cj E x v)
 |[],post,E,_,_,h=>by
  unfold bE at h
  grind
 |(k,i,o)::pre,post,E,hN,hap,h=>by
  have h:bE P T ((k,i,o)::(pre++(kx,ix,x)::post)) K E:=h
  obtain⟨hk,YF,hT0⟩:=hap _ List.mem_cons_self
  unfold bE at h
  rw[if_neg (by omega),if_neg hk]at h
  obtain⟨v,h1,h2,h3,h4⟩:=h
  obtain⟨u,i1,i2,i3,i4⟩:=Xt hkx hTx pre post (cj E o v) (qL hN h2) (fun y hy=>hap y (List.mem_cons_of_mem _ hy)) h4
  obtain⟨a1,a2,a3,a4,a5,a6,a7,c1,c2⟩:=HB YF
  have hx:=i1.J8 (sD h1 a1 a4 c2 hN hT0).symm
   (fun i hi=>(kU fun e=>a3 i i e (sM hi) rfl).symm)
   (fun i hi hf=>lW (fun z hz _=>(l5 o v z).2 (.inl hz)) hf)
  have ho:=h1.J8 (sD hx a2 a5 c1 hN hTx)
   (fun i hi=>kU fun e=>a3 i i (sM hi) e rfl)
   (fun i hi hf=>lW (fun z hz hzi=>by
     rcases(l5 _ _ z).1 hz with hz|⟨j,j1,_,j3⟩
     ·exact hz
     ·rw[hzi]at j3;exact(i2 j j1 i (hT0 i hi) j3).elim) hf)
  have Ef:k9 (cj (cj E o v) x u) (cj (cj E x u) o v):=Ch a3 a6 a7
  refine⟨u,hx,i2,fun e=>by grind [zq],?_⟩
  show bE P T ((k,i,o)::(pre++post)) K (cj E x u)
  unfold bE
  grind [zq,xO]
theorem Xu{K:St->Prop}{kx ix:Nat}{x:aq}(hkx:2<=kx)(agL:¬3<=kx):∀(pre:List Item)(post:List Item)(E:St),(∀y∈pre,(y.1=1\/y.1=0/\IV y.2.2 x=true)/\X8 y.2.2 x=true)->bE P T (pre++(kx,ix,x)::post) K E->
 bp E x.dst=true/\x.g=none/\rh P x.op E (fun a s=>bE P T (pre++post) K (behind E x.dst a s))
 |[],post,E,_,h=>by
  unfold bE at h
  grind
 |(k,i,o)::pre,post,E,hap,h=>by
  have h:bE P T ((k,i,o)::(pre++(kx,ix,x)::post)) K E:=h
  obtain⟨agK,YF⟩:=hap _ List.mem_cons_self
  have Ut:¬3<=k/\¬2<=k:=by omega
  unfold bE at h
  rw[if_neg Ut.1,if_neg Ut.2]at h
  obtain⟨v,h1,h2,h3,h4⟩:=h
  obtain⟨i1,i2,i3⟩:=Xu hkx agL pre post (cj E o v) (fun y hy=>hap y (List.mem_cons_of_mem _ hy)) h4
  obtain⟨a1,a2,a3,a4⟩:=Pw YF
  have hf:bp E x.dst=true:=by
   cases hd:x.dst with
   |none=>rfl
   |some d=>
    rw[hd]at i1
    have e:bA (look (cj E o v).e d)=bA (look E.e d):=kU fun e=>a4 d e hd
    show bA (look E.e d)=true
    rw[<-e];exact i1
  have hcg:∀{C:AV->ae->Prop},rh P x.op (cj E o v) C->rh P x.op E C:=fun hh=>AG (fun y hy=>by
   cases y with
   |c a=>rfl
   |t j=>
    have hj:j∈cu x:=List.mem_append_right _ (gU hy)
    show look (cj E o v).e j=look E.e j
    rw[dE,if_neg (sf a2 hj),D1]
    have:=List.all_eq_true.1 a1 j hj
    grind) (oC o v) hh
  rcases agK with rfl|⟨rfl,hl⟩
  ·refine⟨hf,i2,hcg (wi (fun av s hv hb=>?_) i3)⟩
   show bE P T ((1,i,o)::(pre++post)) K (behind E x.dst av s)
   unfold bE
   refine⟨v,h1.behind (h3 rfl) a3 hf hv a4,h2,fun _=>by rw[OX a3];exact h3 rfl,?_⟩
   exact xO _ (wc a3 a4).symm hb
  ·refine⟨hf,i2,hcg ?_⟩
   refine NN hl (fun av s hv jF hb=>?_) i3
   show bE P T ((0,i,o)::(pre++post)) K (behind E x.dst av s)
   unfold bE
   refine⟨v,h1.TI hl (by grind [oC]) a3 hf hv a4,h2,fun e=>(by cases e),?_⟩
   exact xO _ (wc a3 a4).symm hb
end
section
variable{P:Program}{n:Nat}{D:List Deferred}{ops:Array Oper}{T:List Nat}
def Bef(ops:Array Oper)(j i:Nat):Prop:=∀L:Nat->Prop,(∀m,L m->∀d,ib ops m d=true->L d)->(∀d,ib ops j d=true->L d)->L i
theorem Ec(acc:List Nat)(i:Nat):∀(l:List Edge)(s:Nat),(l.foldl (fun s e=>bif Region.binds .any e then s |||(1<<<e.on)|||acc.getD e.on 0 else s) s).testBit i=true->
 s.testBit i=true\/∃e∈l,Region.binds .any e=true/\(i=e.on\/(acc.getD e.on 0).testBit i=true)
 |[],s,h=>.inl h
 |e::l,s,h=>by
  rw[List.foldl_cons]at h
  rcases Ec acc i l _ h with h|⟨e',h1,h2⟩
  ·cases hb:Region.binds .any e with
   |false=>grind
   |true=>
    rw[hb,cond_true,Nat.testBit_or,Nat.testBit_or,Bool.or_eq_true,Bool.or_eq_true]at h
    rcases h with(h|h)|h
    ·exact .inl h
    ·grind [Nat.testBit_one_eq_true_iff_self_eq_zero]
    grind
  grind
theorem ED:∀(l:List Oper)(acc:List Nat),l=ops.toList.drop acc.length->(∀j i,(acc.getD j 0).testBit i=true->Bef ops j i)->∀j i,((EC l acc).getD j 0).testBit i=true->Bef ops j i
 |[],acc,_,h=>h
 |o::l,acc,hl,h=>by
  have ho:=by
   have:(ops.toList.drop acc.length)[0]? =some o:=by grind
   simpa using this
  refine ED l (acc++[Le acc o]) ?_ fun j i hb=>?_
  ·have:(ops.toList.drop acc.length).tail=l:=by grind
   simp_all
  ·by_cases hj:j<acc.length
   ·grind
   ·by_cases he:j=acc.length
    ·subst he
     have hb:(Le acc o).testBit i=true:=by grind
     rcases Ec acc i _ _ hb with h0|⟨e,e1,e2,e3⟩
     ·simp at h0
     ·intro L hc hd
      have hle:=hd _ ((lQ ho).2 ⟨e,by grind,e2,rfl⟩)
      rcases e3 with rfl|e3
      ·exact hle
      ·exact h e.on i e3 L hc (hc _ hle)
    grind
theorem EK{ms:List Nat}:∀{l:List Item},GI ops ms l=true->l.Pairwise fun x y=>xr ops ms x y=true
 |[],_=>.nil
 |x::r,h=>by
  simp only[GI,Bool.and_eq_true]at h
  exact .cons (fun y hy=>List.all_eq_true.1 h.1 y hy) (EK h.2)
structure Pu(ops:Array Oper)(L0 L:List Item)(aU:Array Bool):Prop where
 size:aU.size=ops.size
 sub:L.Sublist L0
 un:∀x∈L,aU.getD x.2.1 true=false
 li:∀k,k<ops.size->(∀x∈L,x.2.1≠k)->aU.getD k false=true
 cl:∀m,aU.getD m false=true->∀i,ib ops m i=true->aU.getD i false=true
theorem wJ{l:Array Bool}{i j:Nat}{b:Bool}(h:j≠i):(l.setIfInBounds i true).getD j b=l.getD j b:=by simp[h.symm]
theorem Df{l:Array Bool}{i:Nat}{b:Bool}(h:i<l.size):(l.setIfInBounds i true).getD i b=true:=by simp_all
theorem ui{l:Array Bool}{i j:Nat}(h:l.getD j false=true):(l.setIfInBounds i true).getD j false=true:=by
 by_cases e:j=i
 ·rcases Nat.lt_or_ge j l.size with hj|hj
  ·simp_all
  grind
 ·rw[wJ e];exact h
theorem MS{x:Item}(h:Bt P T n ops x=true)(hk:¬2<=x.1):UB T x.2.2:=fun c hc=>by
 simp[Bt,Bool.and_eq_true]at h
 unfold Ra at hc
 grind
theorem uN.behind{E:St}(h:uN T E){d:Option Nat}{a:AV}{s:ae}(ha:sx a):uN T (behind E d a s):=fun i c hc=>by
 unfold AB.behind
 rw[lV]
 by_cases e:d=some i
 ·rw[if_pos e];exact ha.2 c
 ·rw[if_neg e];exact h i c hc
theorem aeB{K:St->Prop}{Q:Exit->Act->World->Prop}(G₀:Gh)(w₀:World){L0:List Item}(hI:∀x∈L0,Bt P T n ops x=true)(hP:L0.Pairwise fun x y=>xr ops (EC ops.toList []) x y=true)
 (hn:∀G' E' a' w',Inv G' n D E' a' w'->aG G₀ w₀ G' w'->K E'->Q .normal a' w'):
 ∀(m:Nat)(L:List Item),L.length=m->∀(aU:Array Bool)(E:St),Pu ops L0 L aU->uN T E->bE P T L K E->∀(G:Gh)(a:Act)(w:World),Inv G n D E a w->aG G₀ w₀ G w->wpAny P .any ops Q m aU a w:=by
 intro m
 induction m with
 |zero=>
  intro L hL aU E hg _ hb G a w h hp
  obtain rfl:=List.eq_nil_of_length_eq_zero hL
  refine⟨List.eq_nil_iff_forall_not_mem.2 fun j hj=>?_,?_⟩
  ·obtain⟨r1,r2,r3⟩:=jZ hj
   have:=wI (hg.li j r1 fun x hx=>by cases hx)
   grind
  ·obtain⟨τ,t1,t2⟩:=hb
   exact hn G τ a w (h.eqv t1.symm) hp t2
 |succ m ih=>
  intro L hL aU E hg hN hb G a w h hp
  have hPL:=hP.sublist hg.sub
  refine⟨fun h0=>?_,fun i hi=>?_⟩
  ·cases L with
   |nil=>simp at hL
   |cons x r=>
    have hx:=hI x (hg.sub.subset List.mem_cons_self)
    simp only[Bt,Bool.and_eq_true]at hx
    have Dk:x.2.1∈Region.ready .any ops aU:=by
     cases ho:ops[x.2.1]? with
     |none=>grind
     |some o=>
      rw[ho]at hx
      have hx1:(ik P n ops o x.2.2&&o.after.all fun e=>!Region.binds .any e||(decide (e.on<ops.size)&&e.on !=x.2.1))=true:=hx.1
      rw[Bool.and_eq_true]at hx1
      refine mem_ready.2 ⟨hg.un x List.mem_cons_self,o,ho,fun e he hbn=>?_⟩
      have h3:=Array.all_eq_true_iff_forall_mem.1 hx1.2 e he
      rw[hbn]at h3
      simp only[Bool.not_true,Bool.false_or,Bool.and_eq_true,decide_eq_true_eq,bne_iff_ne]at h3
      refine hg.li e.on h3.1 fun y hy=>?_
      rcases List.mem_cons.1 hy with rfl|hy
      ·grind
      ·intro e'
       have:=(List.pairwise_cons.1 hPL).1 y hy
       simp only[xr,Bool.and_eq_true,Bool.not_eq_true']at this
       grind [ib,lQ]
    grind
  ·obtain⟨r1,r2,r3⟩:=jZ hi
   have hex:∃x∈L,x.2.1=i:=by
    apply Classical.byContradiction
    intro hno
    have:=wI (hg.li i r1 fun x hx e=>hno ⟨x,hx,e⟩)
    rw[r2]at this;cases this
   obtain⟨⟨kx,ix,x⟩,hx,e0⟩:=hex
   have e0:ix=i:=e0
   subst e0
   obtain⟨pre,post,rfl⟩:=List.append_of_mem hx
   have hxi:=hI _ (hg.sub.subset hx)
   have hPw:=List.pairwise_append.1 hPL
   have hpx:∀y∈pre,xr ops (EC ops.toList []) y (kx,ix,x)=true:=fun y hy=>hPw.2.2 y hy _ List.mem_cons_self
   have hxp:∀y∈post,xr ops (EC ops.toList []) (kx,ix,x) y=true:=(List.pairwise_cons.1 hPw.2.1).1
   have QL:∀y∈pre,Xd y.1 kx y.2.2 x=true:=fun y hy=>by
    have h1:=hpx y hy
    simp only[xr,Bool.and_eq_true,Bool.or_eq_true]at h1
    rcases h1.2.2 with h2|h2
    ·have hbf:=ED (ops:=ops) ops.toList [] (by simp) (fun j i hh=>by simp at hh) _ _ h2
     have:=wI (hbf (fun m=>aU.getD m false=true) hg.cl r3)
     rw[hg.un y (List.mem_append_left _ hy)]at this;cases this
    ·exact h2
   have hne:∀y∈pre++post,y.2.1≠ix:=fun y hy=>by
    rcases List.mem_append.1 hy with hy|hy
    ·have:=hpx y hy
     simp only[xr,Bool.and_eq_true,bne_iff_ne]at this
     grind
    ·have:=hxp y hy
     simp only[xr,Bool.and_eq_true,bne_iff_ne]at this
     grind
   have hg':Pu ops L0 (pre++post) (aU.setIfInBounds ix true):=by
    refine⟨by simp[hg.size],((List.sublist_cons_self _ post).append_left pre).trans hg.sub,fun y hy=>?_,fun k hk hno=>?_,fun m' hm' d hd=>?_⟩
    ·rw[wJ (hne y hy)]
     refine hg.un y ?_
     grind
    ·by_cases e:k=ix
     ·subst e;exact Df (by grind)
     ·refine ui (hg.li k hk fun y hy=>?_)
      grind
    ·refine ui ?_
     by_cases e:m'=ix
     ·grind
     ·rw[wJ e]at hm';exact hg.cl m' hm' d hd
   have hlen:(pre++post).length=m:=by simp at hL⊢;omega
   have hxo:ik P n ops ops[ix] x=true:=by
    simp only[Bt,Bool.and_eq_true]at hxi
    have h1:=hxi.1
    rw[Array.getElem?_eq_getElem r1]at h1
    have h1:(ik P n ops ops[ix] x&&_)=true:=h1
    rw[Bool.and_eq_true]at h1
    exact h1.1
   by_cases hk3:3<=kx
   ·obtain rfl:pre=[]:=by
     cases pre with
     |nil=>rfl
     |cons y pre=>
      have h1:=QL y List.mem_cons_self
      obtain⟨ky,iy,yo⟩:=y
      obtain⟨k,rfl⟩:∃k,kx=k+3:=⟨kx -3,by omega⟩
      match ky with
      |0=>cases h1
      |1=>cases h1
      |_+2=>cases h1
    have hb:bE P T ((kx,ix,x)::post) K E:=hb
    unfold bE at hb
    rw[if_pos hk3]at hb
    obtain⟨τ,t1,t2⟩:=hb
    refine nP (o:=ops[ix]) (by simp[r1]) (gI (h.eqv t1.symm) hxo t2 fun G' E' a' w' k1 k2 k3=>?_)
    exact ih ([]++post) hlen _ E' hg' (fun i c hc=>nE k3.1 i c hc) (AI _ _ k3.2) G' a' w' k1 (hp.trans k2)
   by_cases hk:2<=kx
   ·have hap:∀y∈pre,(y.1=1\/y.1=0/\IV y.2.2 x=true)/\X8 y.2.2 x=true:=fun y hy=>by
     have h1:=QL y hy
     obtain⟨ky,iy,yo⟩:=y
     obtain rfl:kx=2:=by omega
     match ky with
     |0=>
      have h1:(IV yo x&&X8 yo x)=true:=h1
      grind
     |1=>exact⟨.inl rfl,h1⟩
     |_+2=>cases h1
    obtain⟨p1,p2,p3⟩:=Xu hk hk3 pre post E hap hb
    have hbb:Tv P x E (fun τ=>uN T τ/\bE P T (pre++post) K τ):=by
     unfold Tv
     rw[p2]
     exact⟨p1,wi (fun av s hv hh=>⟨hN.behind hv,hh⟩) p3⟩
    have hK':∀τ U',k9 τ U'->(uN T τ/\bE P T (pre++post) K τ)->uN T U'/\bE P T (pre++post) K U':=fun τ U' e hh=>⟨fun i c hc=>by rw[<-e.e i];exact hh.1 i c hc,xO _ e hh.2⟩
    refine nP (o:=ops[ix]) (by simp[r1]) (gI h hxo (TH hK' hbb) fun G' E' a' w' k1 k2 k3=>?_)
    exact ih (pre++post) hlen _ E' hg' k3.1 k3.2 G' a' w' k1 (hp.trans k2)
   ·have hap:∀y∈pre,¬2<=y.1/\Wn y.2.2 x=true/\UB T y.2.2:=fun y hy=>by
     have h1:=QL y hy
     have hyT:=fun hh=>MS (hI y (hg.sub.subset (List.mem_append_left _ hy))) hh
     obtain⟨ky,iy,yo⟩:=y
     match ky,kx,hk with
     |0,0,_=>exact⟨fun hh=>absurd hh (by simp),h1,hyT (by simp)⟩
     |0,1,_=>exact⟨fun hh=>absurd hh (by simp),h1,hyT (by simp)⟩
     |1,0,_=>exact⟨fun hh=>absurd hh (by simp),h1,hyT (by simp)⟩
     |1,1,_=>exact⟨fun hh=>absurd hh (by simp),h1,hyT (by simp)⟩
     |k+2,0,_=>cases h1
     |k+2,1,_=>cases h1
     |_,k+2,hk=>grind
    obtain⟨v,p1,p2,p3,p4⟩:=Xt hk (MS hxi hk) pre post E hN hap hb
    refine nP (o:=ops[ix]) (by simp[r1]) (Y2.run h hxo p1 fun G' a' w' k1 k2=>?_)
    exact ih (pre++post) hlen _ (cj E x v) hg' (qL hN p2) p4 G' a' w' k1 (hp.trans k2)
theorem Yn(hm:P.follows .mixedOrders=true):Wg P n:=by
 intro D id ops T l G E a w K Q hc h hno hw hn
 simp only[Yj,Bool.and_eq_true]at hc
 obtain⟨⟨h1,h2⟩,h3,h4⟩:=hc
 refine wp_region_any hm ?_
 have hg:Pu ops l l (Array.replicate ops.size false):=by
  refine⟨by simp,List.Sublist.refl l,fun x hx=>?_,fun k hk hno=>?_,fun m hm i hi=>?_⟩
  ·have hlt:x.2.1<ops.size:=by
    have:=List.all_eq_true.1 h3 x hx
    simp[Bt]at this
    cases ho:ops[x.2.1]? with
    |none=>grind
    |some o=>grind
   simp[hlt]
  ·obtain⟨x,hx,e⟩:=List.any_eq_true.1 (List.all_eq_true.1 h2 k (List.mem_range.2 hk))
   grind
  ·rcases Nat.lt_or_ge m ops.size with hlt|hge
   ·simp_all
   grind
 have:=aeB G w (fun x hx=>List.all_eq_true.1 h3 x hx) (EK h4) hn l.length l rfl _ E hg (fun i c hc=>nE hno i c hc) (AI l E hw) G a {w with drawn:=w.drawn+1} h.drew (aG.drew G w)
 grind
theorem xH:∀(p s:List Bool),vR p s=p.reverse++s
 |[],s=>rfl
 |x::p,s=>by unfold vR;rw[xH p];simp
theorem JU{done:List Bool}{F:aq->List Bool->Prop}:∀{rows:List (List Bool)}{pre xs:List Bool}{r:List aq}{j:Nat}{row:List Bool}{o:aq},LW done rows pre xs r F->rows[j]? =some row->r[j]? =some o->xs[j]? =some false->ua row done=true->F o (vR pre (xs.set j true))
 |row::rows,pre,x::xs,o::r,0,row',o',h,h1,h2,h3,h4=>by
  injection h1 with h1;injection h2 with h2;injection h3 with h3
  have:=h.1
  grind
 |row::rows,pre,x::xs,o::r,j+1,row',o',h,h1,h2,h3,h4=>by
  have:=JU h.2 (by assumption) (by assumption) (by grind) h4
  rw[xH]at this⊢
  simpa using this
 |[],_,_,_,_,_,_,_,h1,_,_,_=>by grind
 |_::_,_,[],_,_,_,_,_,_,_,h3,_=>by grind
 |_::_,_,_::_,[],_,_,_,_,_,h2,_,_=>by grind
theorem Nz:∀{row done:List Bool},(∀i,row.getD i false=true->done.getD i false=true)->ua row done=true
 |[],_,_=>rfl
 |_::_,[],_=>rfl
 |d::row,x::done,h=>by
  have h0:=h 0
  have ht:=Nz (row:=row) (done:=done) fun i hi=>by have:=h (i+1);grind
  unfold ua
  grind
structure aca(ops:Array Oper)(done:List Bool)(aU:Array Bool):Prop where
 size:aU.size=ops.size
 len:done.length=ops.size
 eq:∀j,done.getD j false=aU.getD j false
theorem count_set:∀{l:List Bool}{j:Nat},l[j]? =some false->(l.set j true).count false+1=l.count false
 |x::l,0,h=>by grind
 |x::l,j+1,h=>by grind
 |[],_,h=>by grind
theorem XL{K:St->Prop}{Q:Exit->Act->World->Prop}{gQ:List (List Bool)}{bJ:List aq}(G₀:Gh)(w₀:World)(hI:cz P n ops ops.toList bJ=true)(hX:Mi ops gQ=true)
 (hn:∀G' E' a' w',Inv G' n D E' a' w'->aG G₀ w₀ G' w'->K E'->Q .normal a' w'):
 ∀(f:List aq)(done:List Bool)(aU:Array Bool)(E:St),aca ops done aU->done.count false=f.length->Pj P gQ bJ K f done E->∀(G:Gh)(a:Act)(w:World),Inv G n D E a w->aG G₀ w₀ G w->wpAny P .any ops Q f.length aU a w
 |[],done,aU,E,hg,hc,hw,G,a,w,h,hp=>by
  refine⟨List.eq_nil_iff_forall_not_mem.2 fun j hj=>?_,hn G E a w h hp hw⟩
  obtain⟨r1,r2,r3⟩:=jZ hj
  have h2:aU.getD j false=false:=by
   have hlt:j<aU.size:=by rw[hg.size];exact r1
   simp only[Array.getD_eq_getD_getElem?,Array.getElem?_eq_getElem hlt,Option.getD_some]at r2⊢
   exact r2
  rw[<-hg.eq j]at h2
  have hlt:j<done.length:=by rw[hg.len];exact r1
  grind
 |o0::f,done,aU,E,hg,hc,hw,G,a,w,h,hp=>by
  have hX':=hX
  simp only[Mi,Bool.and_eq_true,beq_iff_eq]at hX'
  obtain⟨hl,dq⟩:=hX'
  refine⟨fun h0=>?_,fun i hi=>?_⟩
  ·exfalso
   have hex:∃j,j<ops.size/\aU.getD j false=false:=by
    apply Classical.byContradiction
    intro hno
    have:done.count false=0:=List.count_eq_zero.2 fun hm=>by
     obtain⟨j,hj,e⟩:=List.getElem_of_mem hm
     refine hno ⟨j,by rw[<-hg.len];exact hj,?_⟩
     rw[<-hg.eq,List.getD_eq_getElem?_getD,List.getElem?_eq_getElem hj,Option.getD_some,e]
    rw[this]at hc;simp at hc
   obtain⟨j,hj⟩:=hex
   induction j using Nat.strongRecOn with
   |_ j ih=>
    by_cases hk:∃k,k<j/\k<ops.size/\aU.getD k false=false
    ·grind
    ·have hj2:=List.all_eq_true.1 dq j (List.mem_range.2 hj.1)
     simp only[Bool.and_eq_true]at hj2
     have h3:=hj2.2
     rw[Array.getElem?_eq_getElem hj.1]at h3
     have Dk:j∈Region.ready .any ops aU:=by
      refine mem_ready.2 ⟨?_,ops[j],Array.getElem?_eq_getElem hj.1,fun e he hb=>?_⟩
      ·have hlt:j<aU.size:=by rw[hg.size];exact hj.1
       grind
      ·have h4:=Array.all_eq_true_iff_forall_mem.1 h3 e he
       grind
     grind
  ·obtain⟨r1,r2,r3⟩:=jZ hi
   have hlt:i<aU.size:=by rw[hg.size];exact r1
   have zE:i<done.length:=by rw[hg.len];exact r1
   have r2':aU.getD i false=false:=by
    simp only[Array.getD_eq_getD_getElem?,Array.getElem?_eq_getElem hlt,Option.getD_some]at r2⊢
    exact r2
   have hd:done[i]? =some false:=by
    rw[<-hg.eq i,List.getD_eq_getElem?_getD,List.getElem?_eq_getElem zE,Option.getD_some]at r2'
    rw[List.getElem?_eq_getElem zE,r2']
   obtain⟨hlen,jD⟩:=fU _ _ hI
   have hli:i<bJ.length:=by rw[<-hlen];simpa using r1
   have hio:bJ[i]? =some bJ[i]:=List.getElem?_eq_getElem hli
   have hco:ik P n ops ops[i] bJ[i]=true:=jD i ops[i] bJ[i] (by simp[r1]) hio
   have hj2:=List.all_eq_true.1 dq i (List.mem_range.2 r1)
   simp only[Bool.and_eq_true,beq_iff_eq]at hj2
   have e7:gQ[i]? =some (gQ.getD i []):=by
    have:i<gQ.length:=by rw[hl];exact r1
    rw[List.getD_eq_getElem?_getD,List.getElem?_eq_getElem this,Option.getD_some]
   have hrd:ua (gQ.getD i []) done=true:=Nz fun k hk=>by
    have hkl:k<ops.size:=by
     rw[<-hj2.1.1]
     apply Classical.byContradiction
     intro hno
     rw[List.getD_eq_getElem?_getD,List.getElem?_eq_none (by omega)]at hk
     cases hk
    have:=List.all_eq_true.1 hj2.1.2 k (List.mem_range.2 hkl)
    rw[hk]at this
    rw[hg.eq]
    grind
   have hx:=JU (F:=fun o d=>JX P o E (fun τ=>Pj P gQ bJ K f d τ)) hw e7 hio hd hrd
   refine nP (o:=ops[i]) (by simp[r1]) (gI h hco hx fun G' E' a' w' k1 k2 k3=>?_)
   refine XL G₀ w₀ hI hX hn f _ _ E' ⟨by simp[hg.size],by rw[xH];simp[hg.len],fun k=>?_⟩ ?_ k3 G' a' w' k1 (hp.trans k2)
   ·rw[xH]
    show(([]:List Bool).reverse++done.set i true).getD k false=_
    rw[List.reverse_nil,List.nil_append]
    by_cases e:k=i
    ·simp_all
    ·rw[wJ e,<-hg.eq,List.getD_eq_getElem?_getD,List.getD_eq_getElem?_getD,List.getElem?_set_ne (Ne.symm e)]
   grind [xH,List.reverse_nil,count_set]
theorem Yq(hm:P.follows .mixedOrders=true):Wk P n:=by
 intro D id ops gQ bJ G E a w K Q hc hx h hw hn
 refine wp_region_any hm ?_
 have hlen:=by have:=(fU _ _ hc).1;simpa using this.symm
 have hf:∀l,vQ l=List.replicate l.length false:=by
  intro l
  induction l with
  |nil=>rfl
  |cons o r ih=>grind [vQ]
 have:=XL G w hc hx hn bJ (vQ bJ) (Array.replicate ops.size false) E ⟨by simp,by grind,fun j=>by
  rw[hf,hlen]
  rcases Nat.lt_or_ge j ops.size with hj|hj
  ·simp[hj]
  grind⟩ (by grind) hw G a {w with drawn:=w.drawn+1} h.drew (aG.drew G w)
 grind
theorem jO(hm:P.follows .mixedOrders=true):uM P n:=⟨Yo hm,Yp hm,Yn hm,Yq hm⟩
end
end Go.AB
end
section
namespace Go.AB
open Go Go.RowKit
def An:ae:=fun _=>none
section
variable{P:Program}{w w':World}
end
end Go.AB
end
