/- A part. -/
import Derived.Test.YtkeagffgdajggaaGreatSt9
set_option linter.unusedSimpArgs false
set_option linter.unusedVariables false
section
namespace Go.AB
open Go
def jh(off:Nat):AV->AV
 |.loc cs=>.loc (match cs[off]? with|some (.sl _ sz n ds)=>setAt cs off [.sl false sz n ds]|_=>cs)
 |a=>a
def MW(o:ai)(E:St):St:=match o.op with
 |.iJ true x=>E.drain x
 |.store _ _ x=>E.drain x
 |.append _ _ x _=>E.drain x
 |.lP off (.t i) _=>{E with e:=(i,jh off (look E.e i))::E.e}
 |_=>E
def dz(o:ai)(i:Nat)(a:AV):AV:=if ft o i=true then(match o.op with|.lP off _ _=>jh off a|_=>view a)else a
theorem DF(off:Nat)(a:AV):aZ (jh off a)=aZ a:=by cases a<;>rfl
theorem F8{off:Nat}{a:AV}{c:Nat}(h:bd (jh off a) c):bd a c:=by cases a<;>first|exact h|exact h.elim
theorem zT(off:Nat)(a:AV):view (jh off a)=jh off (view a):=by cases a<;>rfl
theorem th(cs:List AV)(off:Nat)(x:AV)(h:off<cs.length)(j:Nat):(setAt cs off [x])[j]? =if j=off then some x else cs[j]? :=by
 unfold setAt
 rw[List.append_assoc]
 by_cases h1:j<off
 ·rw[List.getElem?_append_left (by simp;omega),if_neg (by omega),List.getElem?_take,if_pos h1]
 ·rw[List.getElem?_append_right (by simp;omega)]
  have hl:(cs.take off).length=off:=by simp;omega
  rw[hl]
  by_cases h2:j=off
  ·subst h2;simp
  ·rw[if_neg h2,List.getElem?_append_right (by simp;omega),List.getElem?_drop]
   congr 1
   simp
   omega
theorem mD(off:Nat)(cs:List AV)(j:Nat):(match cs[off]? with|some (.sl _ sz n ds)=>setAt cs off [.sl false sz n ds]|_=>cs)[j]? =if j=off then(cs[j]?).map (fun a=>match a with|.sl _ sz n ds=>.sl false sz n ds|a=>a)else cs[j]? :=by
 cases hc:cs[off]? with
 |none=>
  by_cases hj:j=off
  ·subst hj;simp[hc]
  ·simp[hj]
 |some a=>
  have hlt:=(List.getElem?_eq_some_iff.1 hc).1
  cases a<;>first
   |(show(setAt cs off _)[j]? =_
     rw[th _ _ _ hlt]
     by_cases hj:j=off
     ·subst hj;simp[hc]
     ·simp[hj])
   |(show cs[j]? =_
     by_cases hj:j=off
     ·subst hj;simp[hc]
     ·simp[hj])
theorem Is(o1 o2:Nat)(a:AV):jh o1 (jh o2 a)=jh o2 (jh o1 a):=by
 cases a<;>first|rfl|skip
 rename_i cs
 show AV.loc _=AV.loc _
 congr 1
 apply List.ext_getElem?
 intro j
 rw[mD,mD,mD,mD]
 by_cases h1:j=o1
 ·by_cases h2:j=o2
  ·simp only[eq_true h1,eq_true h2,if_true]
  ·simp only[eq_true h1,eq_false h2,if_true,if_false]
 ·by_cases h2:j=o2
  ·simp only[eq_false h1,eq_true h2,if_true,if_false]
  ·simp only[eq_false h1,eq_false h2,if_false]
def bH(E:St)(o:ai)(v:AV):St:=(bI (MW o E) v (pq o)).put (pq o) v
def MG(sz bytes:Nat)(v:AV):AV->AV->Prop
 |.sl true s n cs,.sl _ s' m ds=>s=sz/\(s'=sz\/m=0)/\(n+m)*bytes<=room/\v=.sl true sz (n+m) (cs++views ds)
 |.sl true s n cs,.str ds=>s=sz/\sz=1/\(n+ds.length)*bytes<=room/\v=.sl true sz (n+ds.length) (cs++ds.map fun c=>.int .u8 c.toNat)
 |_,_=>False
theorem UT{sz bytes:Nat}{E:St}{x:IX}{d:Option Nat}{K:St->Prop}{a b:AV}(h:jN sz bytes E x d K a b):∃v,MG sz bytes v a b/\K ((E.drain x).put d v):=by
 unfold jN at h
 split at h
 ·obtain⟨h1,h2,h3,h4⟩:=h;exact⟨_,⟨h1,h2,h3,rfl⟩,h4⟩
 ·obtain⟨h1,h2,h3,h4⟩:=h;exact⟨_,⟨h1,h2,h3,rfl⟩,h4⟩
 ·exact h.elim
theorem US{sz bytes:Nat}{E:St}{x:IX}{d:Option Nat}{K:St->Prop}{a b v:AV}(h:MG sz bytes v a b)(hk:K ((E.drain x).put d v)):jN sz bytes E x d K a b:=by
 unfold MG at h
 split at h
 ·obtain⟨h1,h2,h3,h4⟩:=h;subst h4;exact⟨h1,h2,h3,hk⟩
 ·obtain⟨h1,h2,h3,h4⟩:=h;subst h4;exact⟨h1,h2,h3,hk⟩
 ·exact h.elim
theorem FK{sz bytes:Nat}{a b v:AV}(h:MG sz bytes v a b):∃n cs,v=.sl true sz n cs:=by
 unfold MG at h
 split at h
 ·exact⟨_,_,h.2.2.2⟩
 ·exact⟨_,_,h.2.2.2⟩
 ·exact h.elim
inductive Y2(P:Program)(E:St):ai->AV->Prop where
 |dJ (o:ai) (v:AV) (h0:PN o.op=false) (hf:aX E o.dst=true) (hv:aZ v=true) (h:Y P E o v):Y2 P E o v
 |Xh (n c:Nat) (x:IX) (dJ:List AV) (h0:look E.e c=.loc dJ) (h1:dJ.length=n) (h2:cO (E.x x)=true) (h3:(aU (E.x x)).length=n):Y2 P E ⟨none,.store n (.t c) x,none⟩ (.loc (aU (E.x x)))
 |UP (d:Nat) (z:List AV) (h0:aZ (look E.e d)=true) (h1:j5 E.lp (some d)=true):Y2 P E ⟨some d,.aA z,none⟩ (.loc z)
 |app (d sz bytes:Nat) (x y:IX) (v:AV) (h0:aZ (look E.e d)=true) (h1:MG sz bytes v (E.x x) (E.x y)):Y2 P E ⟨some d,.append sz bytes x y,none⟩ v
 |V2 (d off i:Nat) (x:IX) (cs:List AV) (o:Bool) (s m:Nat) (ds:List AV) (h0:aZ (look E.e d)=true) (h1:E.x x=.lp i off) (h2:look E.e i=.loc cs) (h3:cs[off]? =some (.sl o s m ds)) (h4:d≠i):Y2 P E ⟨some d,.lP off (.t i) x,none⟩ (.sl o s m ds)
def PB(o:ai):Option Nat:=match o with
 |⟨none,.store _ (.t c) _,none⟩=>some c
 |⟨some d,.aA _,none⟩=>some d
 |_=>none
section
variable{P:Program}{G G':Gh}{n:Nat}{D:List Deferred}{E E':St}{a:Act}{w w':World}{T:List Nat}
theorem MA{o:ai}(h:PN o.op=false):pq o=o.dst:=by
 obtain⟨d,op,g⟩:=o
 cases op<;>first|(cases h;done)|(cases d<;>cases g<;>rfl)
theorem Rz{o:ai}(h:PN o.op=false):MW o E=dr o E:=by
 obtain⟨d,op,g⟩:=o
 cases op<;>first|(cases h;done)|rfl|skip
 rename_i b x
 cases b<;>rfl
theorem Fw{o:ai}{v:AV}(h:PN o.op=false):bH E o v=step E o v:=by unfold bH step;rw[MA h,Rz h]
theorem Hj{o:ai}{K:St->Prop}(h:q2 P o E K):∃v,Y2 P E o v/\K (bH E o v):=by
 unfold q2 at h
 split at h
 ·rename_i m c x
  cases hl:look E.e c<;>rw[hl]at h<;>first|(exact h.elim)|skip
  rename_i dJ
  obtain⟨h1,h2,h3,h4⟩:=h
  exact⟨_,.Xh m c x dJ hl h1 h2 h3,h4⟩
 ·rename_i d z
  exact⟨_,.UP d z h.1 h.2.1,h.2.2⟩
 ·rename_i d sz bytes x y
  obtain⟨v,h1,h2⟩:=UT h.2
  refine⟨v,.app d sz bytes x y v h.1 h1,?_⟩
  obtain⟨m,cs,rfl⟩:=FK h1
  exact h2
 ·rename_i d off i x
  obtain⟨k0,k1,k2⟩:=h
  have k1':∃i' o',E.x x=.lp i' o'/\i'=i/\o'=off:=by
   unfold BW at k1
   split at k1
   ·rename_i h1 h2
    injection h1 with h1
    rw[Bool.and_eq_true,beq_iff_eq,beq_iff_eq]at k1
    exact⟨_,_,h2,by rw[k1.1,h1],k1.2⟩
   ·cases k1
  obtain⟨i',o',e1,rfl,rfl⟩:=k1'
  rw[e1]at k2
  have k2:(match look E.e i' with
   |.loc cs=>some d≠some i'/\Dr o' cs fun cs' a=>K ((E.put (some i') (.loc cs')).put (some d) a)
   |_=>False):=k2
  cases hl:look E.e i'<;>rw[hl]at k2<;>first|(exact k2.elim)|skip
  rename_i cs
  obtain⟨k3,k4⟩:=k2
  unfold Dr at k4
  split at k4
  ·rename_i o s m ds hc
   refine⟨.sl o s m ds,.V2 d o' i' x cs o s m ds k0 e1 hl hc (fun e=>k3 (by rw[e])),?_⟩
   have e2:bH E ⟨some d,.lP o' (.t i') x,none⟩ (.sl o s m ds)=(E.put (some i') (.loc (setAt cs o' [.sl false s m ds]))).put (some d) (.sl o s m ds):=by
    unfold bH MW
    simp only[hl,jh,hc]
    rfl
   rw[e2];exact k4
  ·exact k4.elim
 ·exact h.elim
 ·exact h.elim
 ·exact h.elim
 ·exact h.elim
 ·rename_i h1 h2 h3 h3' h4 h5 h6 h7
  have h0:PN o.op=false:=by
   obtain⟨d,op,g⟩:=o
   cases op<;>first|rfl|exact(h4 _ _ _ _ _ rfl).elim|exact(h5 _ _ _ rfl).elim|exact(h6 _ _ _ _ _ _ rfl).elim|exact(h7 _ _ _ _ _ rfl).elim
  obtain⟨v,q1,q2,q3⟩:=Lb h.2
  exact⟨v,.dJ o v h0 h.1 q1 q2,by rw[Fw h0];exact q3⟩
theorem sc(x:IX)(i:Nat):look (E.drain x).e i=if(match x with|.t j=>j==i|.c _=>false)=true then view (look E.e i)else look E.e i:=by
 cases x with
 |c a=>rfl
 |t j=>
  show look ((j,view (look E.e j))::E.e) i=_
  rw[aM]
  by_cases hj:j=i
  ·subst hj;simp
  ·simp[hj]
theorem PO(o:ai)(i:Nat):look (MW o E).e i=dz o i (look E.e i):=by
 unfold dz
 obtain⟨d,op,g⟩:=o
 cases op<;>first|rfl|skip
 case iJ b x=>
  cases b with
  |false=>rfl
  |true=>
   show look (E.drain x).e i=_
   rw[sc]
   cases x<;>rfl
 case store m p x=>
  show look (E.drain x).e i=_
  rw[sc]
  cases x<;>rfl
 case append sz bytes x y=>
  show look (E.drain x).e i=_
  rw[sc]
  cases x<;>rfl
 case lP off j x=>
  cases j with
  |c a=>rfl
  |t j=>
   show look ((j,jh off (look E.e j))::E.e) i=if(j==i)=true then jh off (look E.e i)else look E.e i
   rw[aM]
   by_cases hj:j=i
   ·subst hj;simp
   ·simp[hj]
theorem F9(x:IX):(E.drain x).s=E.s/\(E.drain x).lp=E.lp:=by cases x<;>exact⟨rfl,rfl⟩
theorem TM(o:ai):(MW o E).s=E.s/\(MW o E).lp=E.lp:=by
 unfold MW
 split
 ·exact F9 _
 ·exact F9 _
 ·exact F9 _
 ·exact⟨rfl,rfl⟩
 ·exact⟨rfl,rfl⟩
theorem c7(o:ai)(v:AV)(i:Nat):look (bH E o v).e i=if pq o=some i then v else dz o i (look E.e i):=by
 unfold bH
 rw[<-PO]
 cases hd:pq o with
 |none=>simp[St.put,(gR (MW o E) v none).1]
 |some d=>
  show look ((d,v)::(bI (MW o E) v (some d)).e) i=_
  rw[aM,(gR (MW o E) v (some d)).1]
  simp
theorem kg(o:ai)(v:AV):(bH E o v).s=E.s:=by
 unfold bH
 have:∀(τ:St)(d:Option Nat)(x:AV),(τ.put d x).s=τ.s:=fun τ d x=>by cases d<;>rfl
 rw[this,(gR (MW o E) v (pq o)).2.1,(TM o).1]
theorem gC(o:ai)(v:AV)(x:Nat×Nat):x∈(bH E o v).lp↔(x∈E.lp\/∃i,pq o=some i/\x.1=i/\bd v x.2):=by
 have h1:(bH E o v).lp=(bI (MW o E) v (pq o)).lp:=by unfold bH;cases pq o<;>rfl
 rw[h1,<-(TM (E:=E) o).2]
 exact Cq v (pq o) x
def uE(T:List Nat)(E:St):Prop:=∀i c,c∈T->¬bd (look E.e i) c
def yq(T:List Nat)(o:ai)(v:AV):Prop:=∀i,pq o=some i->∀c,c∈T->¬bd v c
def RU(T:List Nat)(o:ai):Prop:=∀c,PB o=some c->c∈T
theorem Jj:∀{c:Nat}{a:AV},nE c a=true->¬bd a c
 |c,.lp t o,h=>fun(e:t=c)=>by
  subst e
  have h':(!Nat.beq t t)=true:=h
  rw[Nat.beq_refl]at h'
  cases h'
 |c,.when b a,h=>Jj (a:=a) h
 |_,.undef,_|_,.bool _,_|_,.int _ _,_|_,.str _,_|_,.cZ,_|_,.ref _ _,_|_,.sp _,_|_,.loc _,_|_,.sl _ _ _ _,_|_,.arr _ _ _ _,_|_,.agg _,_|_,.gb _,_|_,.fn _ _ _,_|_,.nn,_|_,.mp _,_|_,.sd,_|_,.us _ _ _,_|_,.one,_|_,.lW _,_|_,.kp,_|_,.bb _ _ _,_=>fun h=>h
theorem E7:∀{T:List Nat}{a:AV},pV T a=true->∀c,c∈T->¬bd a c
 |c'::T,a,h,c,hc=>by
  have h':(nE c' a&&pV T a)=true:=h
  rw[Bool.and_eq_true]at h'
  rcases List.mem_cons.1 hc with rfl|hc
  ·exact Jj h'.1
  ·exact E7 h'.2 c hc
theorem mT:∀{e:List (Nat×AV)},fW T e=true->∀i c,c∈T->¬bd (look e i) c
 |[],_,i,c,_=>fun h=>h
 |(j,a)::e,h,i,c,hc=>by
  have h':(pV T a&&fW T e)=true:=h
  rw[Bool.and_eq_true]at h'
  rw[aM]
  split
  ·exact E7 h'.1 c hc
  ·exact mT h'.2 i c hc
theorem Lp{v:AV}{c:Nat}(h:bd (view v) c):bd v c:=by cases v<;>first|exact h|exact h.elim
theorem ON{o:ai}{i:Nat}{a:AV}{c:Nat}(h:bd (dz o i a) c):bd a c:=by
 unfold dz at h
 split at h
 ·split at h
  ·exact F8 h
  ·exact Lp h
 ·exact h
theorem MY(o:ai)(i:Nat)(a:AV):aZ (dz o i a)=aZ a:=by
 unfold dz
 split
 ·split
  ·exact DF _ _
  ·exact sf _
 ·rfl
theorem EF{o:ai}{i:Nat}{a:AV}(h:¬ft o i=true):dz o i a=a:=if_neg h
theorem RB(x y:ai)(i:Nat)(a:AV):dz x i (dz y i a)=dz y i (dz x i a):=by
 unfold dz
 by_cases h1:ft x i=true<;>by_cases h2:ft y i=true<;>simp only[h1,h2,if_true,if_false,Bool.false_eq_true]
 split<;>split
 ·exact Is _ _ _
 ·exact(zT _ _).symm
 ·exact zT _ _
 ·rfl
theorem Hm(m off o:Nat)(a:AV):kB m off (jh o a)=kB m off a:=by
 cases a<;>first|rfl|skip
 rename_i cs
 have hv:views (match cs[o]? with|some (.sl _ sz n ds)=>setAt cs o [.sl false sz n ds]|_=>cs)=views cs:=by
  apply List.ext_getElem?
  intro j
  rw[dH,dH,mD]
  by_cases hj:j=o
  ·rw[if_pos hj]
   cases cs[j]? with
   |none=>rfl
   |some b=>cases b<;>rfl
  ·rw[if_neg hj]
 have hlen:(match cs[o]? with|some (.sl _ sz n ds)=>setAt cs o [.sl false sz n ds]|_=>cs).length=cs.length:=by
  have:=congrArg List.length hv
  simpa[views]using this
 show gL m off _=gL m off cs
 generalize(match cs[o]? with|some (.sl _ sz n ds)=>setAt cs o [.sl false sz n ds]|_=>cs)=cs' at hv hlen⊢
 unfold gL
 rw[hlen]
 have hs:views (AB.sub cs' off m)=views (AB.sub cs off m):=by
  unfold AB.sub views
  unfold views at hv
  rw[List.map_take,List.map_drop,List.map_take,List.map_drop,hv]
 rw[hs]
theorem Qp(m off:Nat)(o:ai)(i:Nat)(a:AV):kB m off (dz o i a)=kB m off a:=by
 unfold dz
 split
 ·split
  ·exact Hm _ _ _ _
  ·exact CT ..
 ·rfl
theorem qd{o:ai}{v:AV}(h:uE T E)(hs:yq T o v):uE T (bH E o v):=fun i c hc=>by
 rw[c7]
 split
 ·rename_i ht;exact hs i ht c hc
 ·exact fun hh=>h i c hc (ON hh)
theorem yr{o:ai}{v:AV}(h:uE T (bH E o v)):yq T o v:=fun i hi c hc=>by
 have:=h i c hc
 rw[c7,if_pos hi]at this
 exact this
theorem Qq{o:ai}{v:AV}(hy:Y2 P E o v)(p:AV)(m:Nat)(hp:∀c,PB o=some c->¬bd p c):rd (bH E o v) p m=rd E p m:=by
 cases p<;>try rfl
 ·rename_i b off
  show tL m off ((bH E o v).s b)=tL m off (E.s b)
  rw[kg]
 ·rename_i d off
  show kB m off (look (bH E o v).e d)=kB m off (look E.e d)
  rw[c7]
  by_cases hd:pq o=some d
  ·rw[if_pos hd]
   cases hy with
   |dJ _ _ h0 hf hv h=>
    rw[MA h0]at hd
    rw[hd]at hf
    rw[iU hv]
    exact(iU hf m off).symm
   |Xh m' c x dJ h0 h1 h2 h3=>
    have e:some c=some d:=hd
    injection e with e
    subst e
    exact(hp c rfl rfl).elim
   |UP d' z h0 h1=>
    have e:some d'=some d:=hd
    injection e with e
    subst e
    exact(hp d' rfl rfl).elim
   |app d' sz bytes x y _ h0 h1=>
    have e:some d'=some d:=hd
    injection e with e
    subst e
    obtain⟨k,cs,rfl⟩:=FK h1
    rw[iU (av:=.sl true sz k cs) rfl]
    exact(iU h0 m off).symm
   |V2 d' Wt i x cs o s m' ds h0 h1 h2 h3 h4=>
    have e:some d'=some d:=hd
    injection e with e
    subst e
    rw[iU (av:=.sl o s m' ds) rfl]
    exact(iU h0 m off).symm
  ·rw[if_neg hd]
   exact Qp ..
theorem Zb{o:ai}(h:UY o=true){a:AV}(ha:IX.c a∈cJ o.op)(c:Nat):¬bd a c:=by
 have:=List.all_eq_true.1 h _ ha
 cases a<;>first|exact fun h=>h|(cases this;done)
theorem NO{g:Bool}:∀{a:AV}{c:Nat},bd (vz g a) c->bd a c:=by
 intro a c h
 cases a
 case when b a=>
  have h':bd (bif(b==g||b)&&inner a then a else AV.undef) c:=h
  cases hb:((b==g||b)&&inner a)<;>rw[hb]at h'
  ·exact h'.elim
  ·exact h'
 all_goals exact h
theorem Q2{o:ai}(hc:UY o=true)(h:uE T E){x:IX}(hx:x∈cJ o.op)(g:Bool){c:Nat}(ht:c∈T):¬bd (xg g E x) c:=fun hh=>by
 have h':=NO hh
 cases x with
 |c a=>exact Zb hc hx c h'
 |t i=>exact h i c ht h'
theorem sK{o y:ai}{v:AV}(hy:Y2 P E y v)(hn:fJ (pq y) (bO o)=true)(hdr:zK y o=true)(hc:UY o=true)(hN:uE T E)(hT:RU T y):HQ o E (bH E y v):=by
 have key:∀i,i∈bO o->look (bH E y v).e i=look E.e i:=by
  intro i hi
  have h1:¬ft y i=true:=by
   have:=List.all_eq_true.1 hdr i hi
   simpa using this
  rw[c7,if_neg,EF h1]
  intro hd
  rw[hd]at hn
  simp[fJ]at hn
  exact hn hi
 refine⟨fun x hx=>?_,fun t want hg=>?_,(kg y v).symm,fun x hx g m=>(Qq hy _ m fun c hc'=>Q2 hc hN hx g (hT c hc')).symm⟩
 ·cases x with
  |c a=>rfl
  |t i=>exact(key i (List.mem_append_right _ (gj hx))).symm
 ·exact(key t (List.mem_append_left _ (by rw[hg];exact List.mem_cons_self))).symm
theorem Y2.J7{o:ai}{v:AV}(hy:Y2 P E o v)(h:HQ o E E')(hf:∀i,o.dst=some i->aZ (look E'.e i)=aZ (look E.e i))(hl:∀i,PB o=some i->j5 E.lp (some i)=true->j5 E'.lp (some i)=true):Y2 P E' o v:=by
 cases hy with
 |dJ _ _ h0 hs hv h1=>
  refine .dJ o v h0 ?_ hv (h1.J7 h)
  cases hd:o.dst with
  |none=>rfl
  |some i=>
   rw[hd]at hs
   show aZ (look E'.e i)=true
   rw[hf i hd];exact hs
 |Xh m c x dJ h0 h1 h2 h3=>
  have e1:look E.e c=look E'.e c:=h.xs (.t c) (by simp[cJ])
  have e2:E.x x=E'.x x:=h.xs x (by simp[cJ])
  rw[e2]at h2 h3⊢
  exact .Xh m c x dJ (by rw[<-e1];exact h0) h1 h2 h3
 |UP d z h0 h1=>exact .UP d z (by rw[hf d rfl];exact h0) (hl d rfl h1)
 |app d sz bytes x y _ h0 h1=>
  have e1:E.x x=E'.x x:=h.xs x (by simp[cJ])
  have e2:E.x y=E'.x y:=h.xs y (by simp[cJ])
  exact .app d sz bytes x y v (by rw[hf d rfl];exact h0) (by rw[<-e1,<-e2];exact h1)
 |V2 d off i x cs o s m ds h0 h1 h2 h3 h4=>
  have e1:E.x x=E'.x x:=h.xs x (by simp[cJ])
  have e2:look E.e i=look E'.e i:=h.xs (.t i) (by simp[cJ])
  exact .V2 d off i x cs o s m ds (by rw[hf d rfl];exact h0) (by rw[<-e1];exact h1) (by rw[<-e2];exact h2) h3 h4
theorem kq.bH(h:kq E E')(o:ai)(v:AV):kq (AB.bH E o v) (AB.bH E' o v):=⟨fun i=>by rw[c7,c7,h.e],fun x=>by rw[gC,gC,h.lp],by rw[kg,kg,h.s]⟩
theorem lu{l l':List (Nat×Nat)}{i:Nat}(h:∀x∈l',x.2=i->x∈l)(hf:j5 l (some i)=true):j5 l' (some i)=true:=by
 refine List.all_eq_true.2 fun x hx=>?_
 cases hb:Nat.beq x.2 i with
 |false=>rfl
 |true=>
  have:=List.all_eq_true.1 hf x (h x hx (Nat.eq_of_beq_eq_true hb))
  rw[hb]at this
  cases this
theorem Y2.eqv{o:ai}{v:AV}(hy:Y2 P E o v)(h:kq E E'):Y2 P E' o v:=hy.J7 (h.J7 o) (fun i _=>by rw[h.e]) fun i _ hf=>lu (fun x hx _=>(h.lp x).2 hx) hf
theorem Dj{x y:ai}{u v:AV}(hne:∀i j,pq x=some i->pq y=some j->i≠j)(hxy:∀i,pq y=some i->ft x i=false)(hyx:∀i,pq x=some i->ft y i=false):kq (bH (bH E x u) y v) (bH (bH E y v) x u):=
 ⟨fun i=>by
   rw[c7,c7,c7,c7]
   by_cases h1:pq y=some i
   ·by_cases h2:pq x=some i
    ·exact absurd rfl (hne i i h2 h1)
    ·rw[if_pos h1,if_neg h2,if_pos h1,EF (by rw[hxy i h1];decide)]
   ·by_cases h2:pq x=some i
    ·rw[if_neg h1,if_pos h2,if_pos h2,EF (by rw[hyx i h2];decide)]
    ·rw[if_neg h1,if_neg h2,if_neg h2,if_neg h1]
     exact RB _ _ _ _,fun z=>by
   rw[gC,gC,gC,gC]
   constructor
   ·rintro((h|h)|h)
    ·exact .inl (.inl h)
    ·exact .inr h
    ·exact .inl (.inr h)
   ·rintro((h|h)|h)
    ·exact .inl (.inl h)
    ·exact .inr h
    ·exact .inl (.inr h),by rw[kg,kg,kg,kg]⟩
theorem ND{dJ news:List AV}(h:news.length=dJ.length):setAt dJ 0 news=news:=by
 unfold setAt
 rw[List.take_zero,List.nil_append,Nat.zero_add,h,List.drop_length,List.append_nil]
theorem RL(d sz bytes:Nat)(x y:IX)(K:St->Prop):JW P ⟨some d,.append sz bytes x y,none⟩ E K=jN sz bytes E x (some d) K (E.x x) (E.x y):=by
 rw[IM,La]
 unfold Ra gz
 rfl
theorem Y2.run(h:Inv G n D E a w){ops:Array Oper}{o:Oper}{o':ai}{v:AV}(hc:gn P n ops o o'=true)(hy:Y2 P E o' v){next:Act->World->Prop}{Q:Exit->Act->World->Prop}
 (hn:∀G' a' w',Inv G' n D (bH E o' v) a' w'->az G w G' w'->next a' w'):xb P ops o a w next Q:=by
 have gen:JW P o' E (fun τ=>τ=bH E o' v)->xb P ops o a w next Q:=fun hg=>fP h hc hg fun G' E' a' w' h1 h2 h3=>by subst h3;exact hn G' a' w' h1 h2
 cases hy with
 |dJ _ _ h0 _ _ h1=>exact h1.run h hc fun G' a' w' k1 k2=>hn G' a' w' (by rw[Fw h0];exact k1) k2
 |Xh m c x dJ h0 h1 h2 h3=>
  refine gen ?_
  show HI m E (.t c) x none _ (E.x x)
  refine⟨h2,h3,?_⟩
  have e:Ex (E.drain x) (E.x (.t c)) (.t c) (aU (E.x x))=some ((E.drain x).put (some c) (.loc (aU (E.x x)))):=by
   have e1:E.x (.t c)=.loc dJ:=h0
   rw[e1]
   show Tk (E.drain x) c (dt 0 (aU (E.x x)) dJ)=_
   unfold dt
   rw[decide_eq_true (by omega),ND (by omega)]
   rfl
  rw[e]
  rfl
 |UP d z h0 h1=>exact gen ⟨h1,rfl⟩
 |app d sz bytes x y _ h0 h1=>
  refine gen ?_
  rw[RL]
  refine US (d:=some d) (x:=x) h1 ?_
  obtain⟨k,cs,rfl⟩:=FK h1
  rfl
 |V2 d off i x cs o s m ds h0 h1 h2 h3 h4=>
  refine gen ?_
  rw[IM,Nw]
  show BW (.t i) off (E.x x)=true/\nX E (some d) _ (E.x x)
  rw[h1]
  refine⟨by simp[BW],?_⟩
  show match look E.e i with|.loc cs=>some d≠some i/\Dr off cs _|_=>False
  rw[h2]
  refine⟨fun e=>h4 (by injection e),?_⟩
  unfold Dr
  rw[h3]
  show(E.put (some i) _).put (some d) _=_
  unfold bH MW
  simp only[h2,jh,h3]
  rfl
theorem JC{ops:Array Oper}{Q:Exit->Act->World->Prop}{K:St->Prop}(G₀:Gh)(w₀:World)
 (hn:∀G' E' a' w',Inv G' n D E' a' w'->az G₀ w₀ G' w'->K E'->Q .normal a' w'):∀(q:Nat)(l:List Oper)(l':List ai)(G:Gh)(E:St)(a:Act)(w:World),bS P n ops l l'=true->Inv G n D E a w->az G₀ w₀ G w->CR P T q l' E K->wpList P ops Q l a w
 |0,l,l',G,E,a,w,hc,h,hp,hk=>pn G₀ w₀ hn l l' G E a w hc h hp hk
 |_+1,[],[],G,E,a,w,_,h,hp,hk=>hn G E a w h hp hk
 |q+1,o::l,o'::l',G,E,a,w,hc,h,hp,hk=>by
  simp only[bS,Bool.and_eq_true]at hc
  obtain⟨v,hy,hk⟩:=Hj hk
  show xb P ops o a w (wpList P ops Q l) Q
  exact hy.run h hc.1 fun G' a' w' h1 h2=>JC G₀ w₀ hn q l l' G' _ a' w' hc.2 h1 (hp.trans h2) hk.2
 |_+1,[],_::_,_,_,_,_,hc,_,_,_=>by simp[bS]at hc
 |_+1,_::_,[],_,_,_,_,hc,_,_,_=>by simp[bS]at hc
def pA(P:Program)(T:List Nat):St->qU->Prop
 |_,[]=>True
 |E,(_,o,v)::r=>Y2 P E o v/\yq T o v/\RU T o/\pA P T (bH E o v) r
def ID:St->qU->St
 |E,[]=>E
 |E,(_,o,v)::r=>ID (bH E o v) r
theorem pA.eqv:∀{p:qU}{E E':St},kq E E'->pA P T E p->pA P T E' p
 |[],_,_,_,_=>trivial
 |(_,o,v)::r,_,_,h,⟨h1,h2,h3,h4⟩=>⟨h1.eqv h,h2,h3,pA.eqv (h.bH o v) h4⟩
theorem IE:∀(p:qU){E E':St},kq E E'->kq (ID E p) (ID E' p)
 |[],_,_,h=>h
 |(_,o,v)::r,_,_,h=>IE r (h.bH o v)
theorem mE{o:ai}{i:Nat}(h:ft o i=true):i∈bO o:=by
 unfold ft at h
 split at h
 ·rename_i j hop
  have:j=i:=by simpa using h
  subst this
  refine List.mem_append_right _ ?_
  rw[hop];exact List.mem_cons_self
 ·rename_i m p j hop
  have:j=i:=by simpa using h
  subst this
  refine List.mem_append_right _ ?_
  rw[hop]
  cases p with
  |t k=>exact List.mem_cons_of_mem _ List.mem_cons_self
  |c k=>exact List.mem_cons_self
 ·rename_i sz bytes j y hop
  have:j=i:=by simpa using h
  subst this
  refine List.mem_append_right _ ?_
  rw[hop];exact List.mem_cons_self
 ·rename_i off j x hop
  have:j=i:=by simpa using h
  subst this
  refine List.mem_append_right _ ?_
  rw[hop];exact List.mem_cons_self
 ·cases h
theorem HV{x y:ai}(h:Tv x y=true):fJ (pq x) (bO y)=true/\fJ (pq y) (bO x)=true/\(∀i j,pq x=some i->pq y=some j->i≠j)/\zK x y=true/\zK y x=true/\(∀i,pq y=some i->ft x i=false)/\(∀i,pq x=some i->ft y i=false)/\UY x=true/\UY y=true:=by
 unfold Tv at h
 simp only[Bool.and_eq_true]at h
 obtain⟨⟨⟨⟨⟨c1,c2⟩,d1,d2⟩,n1⟩,n2⟩,hm⟩:=h
 refine⟨n1,n2,fun i j hi hj=>?_,d1,d2,fun i hi=>?_,fun i hi=>?_,c1,c2⟩
 ·rw[hi,hj]at hm
  simpa using hm
 ·rw[hi]at n2
  simp[fJ]at n2
  cases hd:ft x i with
  |false=>rfl
  |true=>exact absurd (mE hd) n2
 ·rw[hi]at n1
  simp[fJ]at n1
  cases hd:ft y i with
  |false=>rfl
  |true=>exact absurd (mE hd) n1
theorem sS{o:ai}{i:Nat}(h:o.dst=some i):pq o=some i:=by
 obtain⟨d,op,g⟩:=o
 have h':d=some i:=h
 subst h'
 cases op<;>rfl
theorem j6{y:ai}{v:AV}{i:Nat}(h:pq y≠some i):aZ (look (bH E y v).e i)=aZ (look E.e i):=by
 rw[c7,if_neg h]
 exact MY _ _ _
theorem Ui{x:Nat×ai×AV}:∀(pre:qU)(post:qU)(E:St),uE T E->(∀y∈pre,Tv y.2.1 x.2.1=true)->pA P T E (pre++x::post)->
 Y2 P E x.2.1 x.2.2/\yq T x.2.1 x.2.2/\RU T x.2.1/\pA P T (bH E x.2.1 x.2.2) (pre++post)/\kq (ID (bH E x.2.1 x.2.2) (pre++post)) (ID E (pre++x::post))
 |[],post,E,_,_,h=>⟨h.1,h.2.1,h.2.2.1,h.2.2.2,kq.refl _⟩
 |(k,o,v)::pre,post,E,hN,hap,h=>by
  obtain⟨h1,h2,h3,h4⟩:=h
  obtain⟨i1,i2,i3,i4,i5⟩:=Ui pre post (bH E o v) (qd hN h2) (fun y hy=>hap y (List.mem_cons_of_mem _ hy)) h4
  obtain⟨a1,a2,a3,a4,a5,a6,a7,c1,c2⟩:=HV (hap (k,o,v) List.mem_cons_self)
  have hx:Y2 P E x.2.1 x.2.2:=i1.J7 (sK h1 a1 a4 c2 hN h3).symm
   (fun i hi=>(j6 fun e=>a3 i i e (sS hi) rfl).symm)
   (fun i hi hf=>lu (fun z hz _=>(gC o v z).2 (.inl hz)) hf)
  have ho:Y2 P (bH E x.2.1 x.2.2) o v:=h1.J7 (sK hx a2 a5 c1 hN i3)
   (fun i hi=>j6 fun e=>a3 i i (sS hi) e rfl)
   (fun i hi hf=>lu (fun z hz hzi=>by
     rcases(gC _ _ z).1 hz with hz|⟨j,j1,_,j3⟩
     ·exact hz
     ·rw[hzi]at j3;exact(i2 j j1 i (h3 i hi) j3).elim) hf)
  have BL:kq (bH (bH E o v) x.2.1 x.2.2) (bH (bH E x.2.1 x.2.2) o v):=Dj a3 a6 a7
  refine⟨hx,i2,i3,⟨ho,h2,h3,i4.eqv BL⟩,?_⟩
  exact(IE (pre++post) BL.symm).trans i5
end
section
variable{P:Program}{G G':Gh}{n:Nat}{D:List Deferred}{E E':St}{a:Act}{w w':World}{ops:Array Oper}{bj:List ai}{q:Nat}{T:List Nat}
theorem MO{l:List ai}{o:ai}(h:Oz T bj q=true)(hl:l=bj.take q)(ho:o∈l):RU T o:=fun c hc=>by
 subst hl
 have:=List.all_eq_true.1 h o ho
 unfold PB at hc
 split at hc
 ·injection hc with hc;subst hc;simpa using this
 ·injection hc with hc;subst hc;simpa using this
 ·cases hc
theorem Fo{K:St->Prop}:∀(q:Nat)(l:List ai)(E:St)(k:Nat),q<=l.length->(∀o∈l.take q,RU T o)->CR P T q l E K->∃vs:List AV,vs.length=q/\pA P T E (mk k l vs)/\swp P (l.drop q) (ID E (mk k l vs)) K
 |0,l,E,k,_,_,h=>⟨[],rfl,by cases l<;>trivial,by cases l<;>exact h⟩
 |q+1,[],_,_,hl,_,_=>by simp at hl
 |q+1,o::l,E,k,hl,hT,h=>by
  obtain⟨v,hy,hno,hk⟩:=Hj (show q2 P o E (fun τ=>fW T τ.e=true/\CR P T q l τ K) from h)
  obtain⟨vs,h2,h3,h4⟩:=Fo q l (bH E o v) (k+1) (by simpa using hl) (fun o' ho'=>hT o' (by rw[List.take_succ_cons];exact List.mem_cons_of_mem _ ho')) hk
  exact⟨v::vs,by simp[h2],⟨hy,yr fun i c hc=>mT hno i c hc,hT o (by rw[List.take_succ_cons];exact List.mem_cons_self),h3⟩,h4⟩
theorem NB{Q:Exit->Act->World->Prop}(G₀:Gh)(w₀:World)(f:Nat)(hc:bS P n ops ops.toList bj=true)(hq:q<=ops.size)(h1:LC ops q=true)(h2:ED ops q=true)(h3:OA ops q bj=true)(h4:q<ops.size->Region.ready .any ops (oo ops.size q)=[q]):
 ∀(m:Nat)(jm:qU),jm.length=m->∀(aF:Array Bool)(E:St),Good ops bj q jm aF->uE T E->pA P T E jm->
  (∀G a w,Inv G n D (ID E jm) a w->az G₀ w₀ G w->wpAny P .any ops Q f (oo ops.size q) a w)->∀(G:Gh)(a:Act)(w:World),Inv G n D E a w->az G₀ w₀ G w->wpAny P .any ops Q (m+f) aF a w:=by
 intro m
 induction m with
 |zero=>
  intro jm hp aF E hg _ _ hT G a w h hpr
  have:jm=[]:=List.eq_nil_of_length_eq_zero hp
  subst this
  rw[MC hg,Nat.zero_add]
  exact hT G a w h hpr
 |succ m ih=>
  intro jm hp aF E hg hNo hch hT G a w h hpr
  obtain⟨hlen,jU⟩:=fo _ _ hc
  rw[show m+1+f=(m+f)+1 by omega]
  refine⟨fun h0=>?_,fun i hi=>?_⟩
  ·
   cases jm with
   |nil=>simp at hp
   |cons x jm=>
    obtain⟨k,o,v⟩:=x
    obtain⟨u1,u2,u3⟩:=hg.un k o v List.mem_cons_self
    have lZ:k∈Region.ready .any ops aF:=by
     have hk:k<ops.size:=by omega
     refine mem_ready.2 ⟨u2,ops[k],Array.getElem?_eq_getElem hk,fun e he hb=>?_⟩
     have hs:=List.all_eq_true.1 h1 k (List.mem_range.2 u1)
     rw[Array.getElem?_eq_getElem hk]at hs
     have:=Array.all_eq_true_iff_forall_mem.1 hs e he
     rw[hb]at this
     have hlt:e.on<k:=by simpa using this
     refine hg.li e.on (by omega) fun o' v' hm=>?_
     rcases List.mem_cons.1 hm with hm|hm
     ·injection hm with hm;omega
     ·have:=(List.pairwise_cons.1 hg.sorted).1 _ hm
      simp at this
      omega
    rw[h0]at lZ
    cases lZ
  ·obtain⟨r1,r2,r3⟩:=jj hi
   have hne:∃k o v,(k,o,v)∈jm:=by
    cases jm with
    |nil=>simp at hp
    |cons x jm=>exact⟨x.1,x.2.1,x.2.2,List.mem_cons_self⟩
   have hiq:i<q:=by
    refine Classical.byContradiction fun hge=>?_
    have hqs:q<ops.size:=by omega
    by_cases hiq':i=q
    ·subst hiq'
     have cE:∀(d k:Nat),k<i->i -k=d->aF.getD k false=true:=by
      intro d
      induction d using Nat.strongRecOn with
      |_ d ihd=>
       intro k hk hd
       have hs:((List.range i).all fun k=>(List.range (i+1)).any fun m=>decide (k<m)&&gl ops m k)=true:=by
        unfold ED at h2
        rw[Bool.or_eq_true]at h2
        rcases h2 with h2|h2
        ·have:=beq_iff_eq.1 h2;omega
        ·exact h2
       obtain⟨m',hm1,hm2⟩:=List.any_eq_true.1 (List.all_eq_true.1 hs k (List.mem_range.2 hk))
       rw[Bool.and_eq_true,decide_eq_true_eq]at hm2
       have adF:=List.mem_range.1 hm1
       by_cases hmi:m'=i
       ·subst hmi;exact r3 k hm2.2
       ·exact hg.cl m' (by omega) (ihd (i -m') (by omega) m' (by omega) rfl) k hm2.2
     obtain⟨k,o,v,hk⟩:=hne
     obtain⟨u1,u2,u3⟩:=hg.un k o v hk
     have:=jT (cE _ k u1 rfl)
     rw[u2]at this
     cases this
    ·have hnr:i∉Region.ready .any ops (oo ops.size q):=by rw[h4 hqs];simpa using hiq'
     apply hnr
     refine mem_ready.2 ⟨?_,ops[i],Array.getElem?_eq_getElem r1,fun e he hb=>?_⟩
     ·simp[oo,r1];omega
     ·have hl:=r3 e.on ((kT (Array.getElem?_eq_getElem r1)).2 ⟨e,he,hb,rfl⟩)
      have hlt:e.on<q:=by
       refine Classical.byContradiction fun hnl=>?_
       by_cases hs:e.on<ops.size
       ·have:=hg.tl e.on (by omega) hs
        have:=jT hl
        simp_all
       ·have:aF.getD e.on false=false:=by simp[Array.getElem?_eq_none (show aF.size<=e.on by rw[hg.size];omega)]
        rw[this]at hl;cases hl
      simp[oo,show e.on<ops.size by omega,hlt]
   have hin:∃o v,(i,o,v)∈jm:=by
    apply Classical.byContradiction
    intro hno
    have:=hg.li i hiq fun o v hm=>hno ⟨o,v,hm⟩
    have:=jT this
    rw[r2]at this
    cases this
   obtain⟨o',v,hin⟩:=hin
   obtain⟨pre,post,rfl⟩:=List.append_of_mem hin
   have rn:=List.pairwise_append.1 hg.sorted
   have hap:∀y∈pre,Tv y.2.1 o'=true:=by
    intro y hy
    obtain⟨k,o,u⟩:=y
    have hlt:k<i:=rn.2.2 _ hy _ List.mem_cons_self
    obtain⟨u1,u2,u3⟩:=hg.un k o u (List.mem_append_left _ hy)
    obtain⟨_,_,u4⟩:=hg.un i o' v (by simp)
    have hs:=List.all_eq_true.1 (List.all_eq_true.1 h3 i (List.mem_range.2 hiq)) k (List.mem_range.2 hlt)
    rw[Bool.or_eq_true]at hs
    rcases hs with hs|hs
    ·have:=jT (r3 k hs)
     rw[u2]at this
     cases this
    ·unfold Tw at hs
     rw[u3,u4]at hs
     exact hs
   obtain⟨p1,p2,p3,p4,p5⟩:=Ui pre post E hNo hap hch
   obtain⟨_,_,u4⟩:=hg.un i o' v (by simp)
   have ho:ops.toList[i]? =some ops[i]:=by simp[r1]
   refine nh (o:=ops[i]) (by simp[r1]) (Y2.run h (jU i _ _ ho u4) p1 fun G' a' w' k1 k2=>?_)
   exact ih (pre++post) (by simp at hp⊢;omega) _ (bH E o' v) (EN hg hi) (qd hNo p2) p4 (fun G'' a'' w'' z1 z2=>hT G'' a'' w'' (z1.eqv p5) z2) G' a' w' k1 (hpr.trans k2)
theorem U9(hm:P.follows .mixedOrders=true):Tr P n:=by
 intro D draw id ops bj T q G E a w K Q hc hd h hno hw hn
 cases draw with
 |false=>exact wp_region_list (JC G w hn q ops.toList bj G E a w hc h (az.refl G w) hw)
 |true=>
 have hd:=hd rfl
 simp only[FY,Bool.and_eq_true,decide_eq_true_eq]at hd
 obtain⟨hq,h1,h2,h3,hl0,h4⟩:=hd
 obtain⟨hlen,jU⟩:=fo _ _ hc
 have hsz:bj.length=ops.size:=by rw[<-hlen];simp
 obtain⟨vs,e1,e2,e3⟩:=Fo q bj E 0 (by omega) (fun o ho=>MO hl0 rfl ho) hw
 have hmk:(mk 0 bj vs).length=q:=by
  have:∀(l:List ai)(vs:List AV)(k:Nat),vs.length<=l.length->(mk k l vs).length=vs.length:=by
   intro l
   induction l with
   |nil=>intro vs k hl;cases vs with
    |nil=>rfl
    |cons=>simp at hl
   |cons o l ih=>intro vs k hl;cases vs with
    |nil=>rfl
    |cons v vs=>simp[mk,ih vs (k+1) (by simpa using hl)]
  rw[this bj vs 0 (by omega),e1]
 refine wp_region_any hm ?_
 have hrq:q<ops.size->Region.ready .any ops (oo ops.size q)=[q]:=by
  intro hlt
  obtain⟨d,hd⟩:∃d,ops.size -q=d+1:=⟨ops.size -q -1,by omega⟩
  rw[hd]at h4
  simp only[pG,Bool.and_eq_true,beq_iff_eq]at h4
  exact h4.1
 have hT:∀G' a' w',Inv G' n D (ID E (mk 0 bj vs)) a' w'->az G w G' w'->wpAny P .any ops Q (ops.size -q) (oo ops.size q) a' w':=by
  intro G' a' w' z1 z2
  have hl:(bj.drop q).length=ops.size -q:=by rw[List.length_drop];omega
  have:=vx G w hc hn (bj.drop q) q (oo ops.size q) G' _ a' w' rfl (by rw[hl];exact h4) e3 z1 z2
  rwa[hl]at this
 have iR:Good ops bj q (mk 0 bj vs) (Array.replicate ops.size false):=by
  have KC:∀k b,k<ops.size->(Array.replicate ops.size false).getD k b=false:=fun k b hk=>by simp[hk]
  refine⟨by simp,fun k o v hk=>?_,fun k hk hno=>?_,fun j _ hj=>KC j _ hj,fun m hm hl i hi=>?_,yu bj vs 0⟩
  ·obtain⟨j,j1,j2,j3⟩:=GS bj vs 0 k o v hk
   have:k=j:=by omega
   subst this
   exact⟨by omega,KC k _ (by omega),j3⟩
  ·obtain⟨o,v,hh⟩:=KT bj vs 0 k (by omega) (by omega)
   rw[Nat.zero_add]at hh
   exact absurd hh (hno o v)
  ·rw[KC m _ (by omega)]at hl;cases hl
 have:=NB (T:=T) (P:=P) (n:=n) (Q:=Q) G w (ops.size -q) hc hq h1 h2 h3 hrq q (mk 0 bj vs) hmk _ E iR (fun i c hc=>mT hno i c hc) e2 hT G a {w with drawn:=w.drawn+1} h.drew (az.drew G w)
 rwa[show q+(ops.size -q)=ops.size by omega]at this
end
end Go.AB
end
