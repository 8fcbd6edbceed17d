/- A part. -/
import Derived.Test.YtkeagffgdajggaaGreatSt10
import Derived.ProofKit
import Derived.Test.YtkeagffgdajggaaGreatProg
import Derived.KernelRfl
set_option linter.unusedSimpArgs false
set_option linter.unusedVariables false
section
namespace Go.AB
open Go
section
variable{P:Program}{G G':Gh}{n:Nat}{D:List Deferred}{E E':St}{a:Act}{w w':World}{T:List Nat}
def sD(a:AV):Prop:=aZ a=true/\∀t,¬bd a t
theorem Kb{f:Nat}{s:ab}{C C':AV->ab->Prop}(hc:∀a s',sD a->C a s'->C' a s'):∀{o:Option (List AV)},xN P f s C o->xN P f s C' o
 |some _,h=>FN.mono (P:=P) h fun rs s'⟨h1,h2⟩=>⟨h1,hc _ _ ⟨nH h1,td h1⟩ h2⟩
 |none,h=>h
theorem H9{s:ab}{C C':AV->ab->Prop}(hc:∀a s',sD a->C a s'->C' a s'){o:Option (List AV)}{x:AV}(h:sN P o s C x):sN P o s C' x:=by
 unfold sN at h⊢
 split at h
 ·unfold H8 at h⊢
  split at h
  ·exact⟨h.1,FN.mono (P:=P) h.2 fun rs s'⟨h1,h2⟩=>⟨h1,hc _ _ ⟨nH h1,td h1⟩ h2⟩⟩
  ·exact h
 ·exact h
theorem Fz(b o l c:Nat):sD (.arr b o l c):=⟨rfl,fun _ h=>h⟩
theorem FA(b o:Nat):sD (.ref b o):=⟨rfl,fun _ h=>h⟩
theorem QU(b:Nat):sD (.mp b):=⟨rfl,fun _ h=>h⟩
theorem FB(l:List AV):sD (.gb l):=⟨rfl,fun _ h=>h⟩
theorem vG{o:qT}{C C':AV->ab->Prop}(hc:∀a s',sD a->C a s'->C' a s')(h:qF P o E C):qF P o E C':=by
 cases o<;>first|(exact h.elim)|skip
 case call f args=>exact Kb hc h
 case dj x args=>exact H9 hc h
 case makeMap=>exact fun b hb=>hc _ _ (QU b) (h b hb)
 case gH z=>exact fun b hb=>hc _ _ (FA b 0) (h b hb)
 case qE m x=>exact⟨h.1,h.2.1,fun b hb=>hc _ _ (FA b 0) (h.2.2 b hb)⟩
 case gS sz by' z l c=>
  have h:qY by' z E.s C (xg true E l) (xg true E c):=h
  show qY by' z E.s C' (xg true E l) (xg true E c)
  unfold qY at h⊢
  split at h
  ·exact⟨h.1,h.2.1,h.2.2.1,fun b hb=>hc _ _ (Fz ..) (h.2.2.2 b hb)⟩
  ·exact h
 case store m p v=>
  have h:ns m E.s C (E.x v) (E.x p):=h
  show ns m E.s C' (E.x v) (E.x p)
  unfold ns at h⊢
  split at h
  ·refine⟨h.1,h.2.1,h.2.2.1,?_⟩
   have h4:=h.2.2.2
   unfold Ia at h4⊢
   split at h4
   ·exact⟨h4.1,hc _ _ (FB _) h4.2⟩
   ·exact h4
  ·exact h
 case lq x=>
  have h:qZ E.s C (E.x x):=h
  show qZ E.s C' (E.x x)
  unfold qZ at h⊢
  split at h
  ·unfold vF at h⊢
   split at h
   ·unfold iD at h⊢
    split at h
    ·exact hc _ _ ⟨rfl,fun _ h=>h⟩ h
    ·exact hc _ _ ⟨rfl,fun _ h=>h⟩ h
    ·exact h
   ·exact h
  ·exact h
 case mapUpdate kk x k v=>
  have h:EB kk E.s (xg true E k) (xg true E v) C (xg true E x):=h
  show EB kk E.s (xg true E k) (xg true E v) C' (xg true E x)
  unfold EB at h⊢
  split at h
  ·unfold Kc at h⊢
   split at h
   ·exact⟨h.1,hc _ _ (FB _) h.2⟩
   ·exact h
  ·exact h
theorem Bq{o:qT}{C:AV->ab->Prop}(hx:∀x∈cJ o,E.x x=E'.x x)(hs:E.s=E'.s)(h:qF P o E C):qF P o E' C:=by
 have hg:∀x∈cJ o,xg true E x=xg true E' x:=fun x h=>by unfold xg;rw[hx x h]
 cases o<;>first|(exact h.elim)|skip
 case call f args=>
  show xN P f E'.s C (bQ (xg true E') args)
  rw[<-hs,<-fm args hg];exact h
 case dj x args=>
  show sN P (bQ (xg true E') args) E'.s C (xg true E' x)
  rw[<-hs,<-fm args fun y hy=>hg y (List.mem_cons_of_mem _ hy),<-hg x List.mem_cons_self];exact h
 case makeMap=>rw[qF,<-hs];exact h
 case gH z=>rw[qF,<-hs];exact h
 case qE m x=>rw[qF,<-hs,<-hg x List.mem_cons_self];exact h
 case gS sz by' z l c=>rw[qF,<-hs,<-hg l (by simp[cJ]),<-hg c (by simp[cJ])];exact h
 case store m p v=>rw[qF,<-hs,<-hx p (by simp[cJ]),<-hx v (by simp[cJ])];exact h
 case lq x=>rw[qF,<-hs,<-hx x List.mem_cons_self];exact h
 case mapUpdate kk x k v=>rw[qF,<-hs,<-hg x (by simp[cJ]),<-hg k (by simp[cJ]),<-hg v (by simp[cJ])];exact h
theorem Lq{a:AV}(h:Mg a=true)(hv:cO a=true):view a=a:=by
 cases a<;>first|rfl|skip
 ·rename_i o z m cs
  cases o
  ·rfl
  ·cases h
 ·cases hv
 ·cases hv
 ·cases h
theorem kq.put(h:kq E E')(d:Option Nat)(v:AV):kq (E.put d v) (E'.put d v):=by
 cases d with
 |none=>exact h
 |some d=>exact⟨fun i=>by show look ((d,v)::E.e) i=look ((d,v)::E'.e) i;rw[aM,aM,h.e],h.lp,h.s⟩
theorem kq.JT(h:kq E E')(s:ab):kq {E with s:=s} {E' with s:=s}:=⟨h.e,h.lp,rfl⟩
theorem MX{x:IX}(h:view (E.x x)=E.x x):kq (E.drain x) E:=by
 cases x with
 |c a=>exact kq.refl _
 |t i=>
  refine⟨fun j=>?_,fun _=>Iff.rfl,rfl⟩
  show look ((i,view (look E.e i))::E.e) j=_
  rw[aM]
  by_cases e:i=j
  ·subst e;simp;exact h
  ·simp[e]
theorem Ro{o:ai}{K:St->Prop}(hK:∀τ U',kq τ U'->K τ->K U')(h:Q5 P o E K):JW P o E K:=by
 obtain⟨d,op,g⟩:=o
 cases g with
 |some _=>exact h.elim
 |none=>
 replace h:=h.2
 cases op<;>first|(exact h.elim)|skip
 case call f args=>
  show re P f E d K (bQ (xg true E) args)
  have h:xN P f E.s (Oj E d K) (bQ (xg true E) args):=h
  cases hh:bQ (xg true E) args<;>rw[hh]at h<;>exact h
 case dj x args=>
  show uK P E (bQ (xg true E) args) d K (xg true E x)
  have h:sN P (bQ (xg true E) args) E.s (Oj E d K) (xg true E x):=h
  cases hh:bQ (xg true E) args<;>cases hx:xg true E x<;>rw[hh,hx]at h<;>exact h
 case makeMap=>exact h
 case gH z=>exact h
 case qE m x=>exact h
 case gS sz by' z l c=>
  show wV by' z E d K (xg true E l) (xg true E c)
  have h:qY by' z E.s (Oj E d K) (xg true E l) (xg true E c):=h
  cases hl:xg true E l<;>cases hc:xg true E c<;>rw[hl,hc]at h<;>exact h
 case store m p v=>
  show HI m E p v d K (E.x v)
  have h:ns m E.s (Oj E d K) (E.x v) (E.x p):=h
  unfold ns at h
  split at h
  ·rename_i b off hp
   obtain⟨h1,h2,h3,h4⟩:=h
   refine⟨h1,h3,?_⟩
   have hd:=MX (Lq h2 h1)
   rw[hp]
   show JY d K (Lr (E.drain v) b off (aU (E.x v)) ((E.drain v).s b))
   rw[hd.s]
   unfold Ia at h4
   split at h4
   ·rename_i dJ ho
    rw[ho]
    show JY d K (Tl (E.drain v) b (dt off (aU (E.x v)) dJ))
    unfold dt
    rw[decide_eq_true h4.1]
    refine hK _ _ ?_ h4.2
    have e:kq {E with s:=E.s.set b (.cells (setAt dJ off (aU (E.x v))))} {E.drain v with s:=(E.drain v).s.set b (.cells (setAt dJ off (aU (E.x v))))}:=by rw[hd.s];exact hd.symm.JT _
    exact e.put d _
   ·exact h4.elim
  ·exact h.elim
 case lq x=>
  show nX E d K (E.x x)
  have h:qZ E.s (Oj E d K) (E.x x):=h
  unfold qZ at h
  split at h
  ·rename_i b off hx
   rw[hx]
   unfold nX
   simp only
   unfold vF at h
   split at h
   ·rename_i cs he
    first|exact h|(rw[he];exact h)
   ·exact h.elim
  ·exact h.elim
 case mapUpdate kk x k v=>
  show s9 kk E (xg true E k) (xg true E v) d K (xg true E x)
  have h:EB kk E.s (xg true E k) (xg true E v) (Oj E d K) (xg true E x):=h
  unfold EB at h
  split at h
  ·rename_i b hx
   rw[hx]
   show Xn kk b E (xg true E k) (xg true E v) d K (E.s b)
   unfold Kc at h
   split at h
   ·rename_i es he
    rw[he];exact h
   ·exact h.elim
  ·exact h.elim
theorem WL{o:ai}{g:Bool}(h:lz o E=true)(s:ab):pv o.op (xg g {E with s:=s}) {E with s:=s}=pv o.op (xg g E) E:=by
 have hf:xg g {E with s:=s}=xg g E:=by funext x;cases x<;>rfl
 rw[hf]
 obtain⟨d,op,gg⟩:=o
 cases op<;>first|rfl|skip
 case iJ tr x=>cases tr<;>rfl
 case slice sz x lo hi mx=>cases mx<;>rfl
 case load m multi x=>
  have h:lx (E.x x)=true:=h
  have hn:lx (xg g E x)=true:=by
   unfold xg vz
   split
   ·rename_i b a hb
    rw[hb]at h
    cases hc:((b==g)||b)&&inner a
    ·rfl
    ·exact h
   ·exact h
  show iC multi (rd {E with s:=s} (xg g E x) m)=iC multi (rd E (xg g E x) m)
  cases he:xg g E x<;>first|rfl|(rw[he]at hn;cases hn)
 case bM z m x=>cases h
 case lQ k x=>cases h
 case len c x=>
  have h:(!Nat.beq c 2)=true:=h
  show Al s c (xg g E x)=Al E.s c (xg g E x)
  match c,h with
  |0,_=>cases xg g E x<;>rfl
  |1,_=>cases xg g E x<;>rfl
  |c+3,_=>cases xg g E x<;>rfl
theorem aeg{o:ai}(h:lz o E=true)(s:ab):qv o {E with s:=s}=qv o E:=by
 unfold qv
 split
 ·exact WL h s
 ·rename_i t want _
  show JB o.op want {E with s:=s} (look E.e t)=JB o.op want E (look E.e t)
  unfold JB
  split
  ·show N5 _ _ _=N5 _ _ _
   rw[WL h s]
  ·show N5 _ _ _=N5 _ _ _
   rw[WL h s]
  ·rfl
theorem WV{o:ai}(h:lz o E=true)(s:ab)(f:IX->AV):qe f s o.op=qe f E.s o.op:=by
 obtain⟨d,op,gg⟩:=o
 cases op<;>first|rfl|(cases h;done)
theorem abg{o:ai}(h:lz o E=true)(s:ab):CP o {E with s:=s}=CP o E:=by
 have hf:∀g,xg g {E with s:=s}=xg g E:=fun g=>by funext x;cases x<;>rfl
 unfold CP
 split
 ·rw[hf];exact WV h s _
 ·rename_i t want _
  show Mp o.op want {E with s:=s} (look E.e t)=Mp o.op want E (look E.e t)
  unfold Mp
  split
  ·show J0 _ (qe (xg _ {E with s:=s}) s o.op)=J0 _ _
   rw[hf,WV h s]
  ·show J0 _ (qe (xg _ {E with s:=s}) s o.op)=J0 _ _
   rw[hf,WV h s]
  ·rfl
theorem qb(d:Option Nat)(s:ab):aX {E with s:=s} d=aX E d:=by cases d<;>rfl
theorem Y2.JT{o:ai}{v:AV}(hy:Y2 P E o v)(h:lz o E=true)(s:ab):Y2 P {E with s:=s} o v:=by
 cases hy with
 |dJ _ _ h0 hf hv hy=>
  refine .dJ o v h0 (by rw[qb];exact hf) hv ?_
  cases hy with
  |pure _ _ hq=>exact .pure o v (by rw[aeg h s];exact hq)
  |iJ d x hi=>exact .iJ (E:={E with s:=s}) d x hi
  |call=>cases h
  |Ie=>cases h
  |dj=>cases h
  |BB=>cases h
  |TR _ _ hq=>exact .TR o v (by rw[abg h s];exact hq)
 |Xh m c x dJ h0 h1 h2 h3=>exact .Xh (E:={E with s:=s}) m c x dJ h0 h1 h2 h3
 |UP d z h0 h1=>exact .UP d z h0 h1
 |app d sz bytes x y _ h0 h1=>exact .app d sz bytes x y v h0 h1
 |V2 d off i x cs o s' m ds h0 h1 h2 h3 h4=>exact .V2 d off i x cs o s' m ds h0 h1 h2 h3 h4
def behind(E:St)(d:Option Nat)(a:AV)(s:ab):St:={E with s:=s}.put d a
theorem lr(E:St)(d:Option Nat)(a:AV)(i:Nat):look (E.put d a).e i=if d=some i then a else look E.e i:=by
 cases d with
 |none=>simp[St.put]
 |some d=>
  show look ((d,a)::E.e) i=_
  rw[aM]
  by_cases e:d=i
  ·subst e;simp
  ·simp[e]
theorem CN(E:St)(d:Option Nat)(a:AV):(E.put d a).s=E.s/\(E.put d a).lp=E.lp:=by cases d<;>exact⟨rfl,rfl⟩
theorem HX(E:St)(d:Option Nat)(a:AV)(s:ab):(behind E d a s).s=s:=(CN _ d a).1
theorem se{d:Option Nat}{l:List Nat}(h:fJ d l=true){i:Nat}(hi:i∈l):d≠some i:=fun e=>by
 subst e
 simp[fJ]at h
 exact h hi
theorem Oe{y x:ai}(h:UR y x=true):zK y x=true/\fJ (pq y) (bO x)=true/\fJ x.dst (bO y)=true/\∀i,pq y=some i->x.dst≠some i:=by
 unfold UR at h
 simp only[Bool.and_eq_true]at h
 refine⟨h.1.1.1,h.1.1.2,h.1.2,fun i hi hd=>?_⟩
 have:=h.2
 rw[hi,hd]at this
 simp at this
theorem Lx{y:ai}{d:Option Nat}{v:AV}(hd:fJ d (bO y)=true)(hf:aX E d=true)(hv:aZ v=true):HQ y E (E.put d v):=by
 have key:∀i,i∈bO y->look E.e i=look (E.put d v).e i:=fun i hi=>by rw[lr,if_neg (se hd hi)]
 refine⟨fun x hx=>?_,fun t want hg=>key t (List.mem_append_left _ (by rw[hg];exact List.mem_cons_self)),(CN E d v).1.symm,fun x _ g m=>?_⟩
 ·cases x with
  |c a=>rfl
  |t i=>exact key i (List.mem_append_right _ (gj hx))
 ·cases he:xg g E x<;>try rfl
  ·rename_i b off
   show tL m off (E.s b)=tL m off ((E.put d v).s b)
   rw[(CN E d v).1]
  ·rename_i c off
   show kB m off (look E.e c)=kB m off (look (E.put d v).e c)
   rw[lr]
   by_cases e:d=some c
   ·rw[if_pos e,iU hv]
    rw[e]at hf
    exact iU hf m off
   ·rw[if_neg e]
theorem NG{y:ai}{d:Option Nat}{v:AV}{s:ab}(hd:fJ d (bO y)=true):lz y (behind E d v s)=lz y E:=by
 obtain⟨dd,op,g⟩:=y
 cases op<;>first|rfl|skip
 rename_i m mu x
 show lx ((behind E d v s).x x)=lx (E.x x)
 cases x with
 |c a=>rfl
 |t i=>
  show lx (look (behind E d v s).e i)=lx (look E.e i)
  unfold behind
  rw[lr,if_neg (se hd (List.mem_append_right _ (gj (List.mem_cons_self))))]
theorem Y2.behind{y:ai}{v av:AV}{d:Option Nat}{s:ab}(hy:Y2 P E y v)(h:lz y E=true)(hd:fJ d (bO y)=true)(hf:aX E d=true)(hv:sD av)(hne:∀i,pq y=some i->d≠some i):Y2 P (behind E d av s) y v:=by
 have h1:Y2 P {E with s:=s} y v:=hy.JT h s
 unfold AB.behind
 refine h1.J7 (Lx hd (by rw[qb];exact hf) hv.1) (fun i hi=>?_) (fun i hi hf=>?_)
 ·rw[lr,if_neg (hne i (sS hi))]
 ·rw[(CN _ d av).2];exact hf
theorem Y2.Tj{d:Option Nat}{m:Nat}{mu:Bool}{x:IX}{v:AV}{s:ab}(hy:Y2 P E ⟨d,.load m mu x,none⟩ v)(hs:∀b o,E.s b=some o->s b=some o):Y2 P {E with s:=s} ⟨d,.load m mu x,none⟩ v:=by
 have hx:xg true {E with s:=s} x=xg true E x:=by cases x<;>rfl
 have key:qv ⟨d,.load m mu x,none⟩ E≠.no->qv ⟨d,.load m mu x,none⟩ {E with s:=s}=qv ⟨d,.load m mu x,none⟩ E:=by
  show iC mu (rd E (xg true E x) m)≠.no->iC mu (rd {E with s:=s} (xg true {E with s:=s} x) m)=iC mu (rd E (xg true E x) m)
  rw[hx]
  intro hn
  cases he:xg true E x<;>try rfl
  rename_i b off
  rw[he]at hn
  have hn:iC mu (tL m off (E.s b))≠.no:=hn
  show iC mu (tL m off (s b))=iC mu (tL m off (E.s b))
  cases hb:E.s b with
  |none=>rw[hb]at hn;exact absurd rfl hn
  |some o=>rw[hs b o hb]
 cases hy with
 |dJ _ _ h0 hf hv hy=>
  refine .dJ _ v h0 (by rw[qb];exact hf) hv ?_
  cases hy with
  |pure _ _ hq=>
   refine .pure _ v ?_
   rw[key (by rcases hq with h|⟨c,h,_⟩<;>rw[h]<;>exact fun e=>nomatch e)]
   exact hq
  |TR _ _ hq=>rcases hq with h|⟨c,h,_⟩<;>exact nomatch h
theorem E3{y x:ai}(h:I9 y x=true):(∃d m mu p,y=⟨d,.load m mu p,none⟩)/\∃d sz by' z l c g,x=⟨d,.gS sz by' z l c,g⟩:=by
 unfold I9 at h
 split at h
 ·exact⟨⟨_,_,_,_,rfl⟩,⟨_,_,_,_,_,_,_,rfl⟩⟩
 ·cases h
theorem Y2.Rp{y x:ai}{v av:AV}{d:Option Nat}{s:ab}(hy:Y2 P E y v)(hl:I9 y x=true)(hs:∀b o,E.s b=some o->s b=some o)(hd:fJ d (bO y)=true)(hf:aX E d=true)(hv:sD av)(hne:∀i,pq y=some i->d≠some i):Y2 P (AB.behind E d av s) y v:=by
 have h1:Y2 P {E with s:=s} y v:=by
  obtain⟨⟨d,m,mu,p,rfl⟩,_⟩:=E3 hl
  exact hy.Tj hs
 unfold AB.behind
 refine h1.J7 (Lx hd (by rw[qb];exact hf) hv.1) (fun i hi=>?_) (fun i hi hf=>?_)
 ·rw[lr,if_neg (hne i (sS hi))]
 ·rw[(CN _ d av).2];exact hf
theorem MM{sz by':Nat}{z:List AV}{l c:IX}{C C':AV->ab->Prop}(hc:∀a s',sD a->(∀b o,E.s b=some o->s' b=some o)->C a s'->C' a s')(h:qF P (.gS sz by' z l c) E C):qF P (.gS sz by' z l c) E C':=by
 have h:qY by' z E.s C (xg true E l) (xg true E c):=h
 show qY by' z E.s C' (xg true E l) (xg true E c)
 unfold qY at h⊢
 split at h
 ·refine⟨h.1,h.2.1,h.2.2.1,fun b hb=>hc _ _ (Fz ..) (fun b' o' h'=>?_) (h.2.2.2 b hb)⟩
  have:b'≠b:=fun e=>by rw[e,hb]at h';cases h'
  simp[ab.set,this,h']
 ·exact h
theorem vE{y:ai}{v av:AV}{d:Option Nat}{s:ab}(hd:fJ d (bO y)=true)(hne:∀i,pq y=some i->d≠some i):kq (bH (behind E d av s) y v) (AB.behind (bH E y v) d av s):=by
 refine⟨fun i=>?_,fun x=>?_,?_⟩
 ·rw[c7]
  unfold AB.behind
  rw[lr,lr]
  show _=if d=some i then av else look (bH E y v).e i
  rw[c7]
  by_cases h1:pq y=some i
  ·rw[if_pos h1,if_neg (hne i h1),if_pos h1]
  ·rw[if_neg h1,if_neg h1]
   by_cases h2:d=some i
   ·rw[if_pos h2,if_pos h2]
    refine EF fun hh=>?_
    exact se hd (mE hh) h2
   ·rw[if_neg h2,if_neg h2]
 ·rw[gC]
  unfold AB.behind
  rw[(CN _ d av).2,(CN _ d av).2]
  show _↔x∈(bH E y v).lp
  rw[gC]
 ·rw[kg,HX,HX]
def bE(P:Program)(T:List Nat):List Item->(St->Prop)->St->Prop
 |[],K,E=>∃τ,kq τ E/\K τ
 |(k,_,o)::r,K,E=>if 3<=k then∃τ,kq τ E/\JW P o τ (fun ρ=>fW T ρ.e=true/\EC P T r ρ K)else if 2<=k then aX E o.dst=true/\o.g=none/\qF P o.op E (fun a s=>bE P T r K (behind E o.dst a s))
  else∃v,Y2 P E o v/\yq T o v/\(k=1->lz o E=true)/\bE P T r K (bH E o v)
theorem Bt{K:St->Prop}:∀(l:List Item)(E:St),EC P T l E K->bE P T l K E
 |[],E,h=>⟨E,kq.refl _,h⟩
 |(0,_,o)::r,E,h=>by
  obtain⟨v,h1,h2,h3⟩:=Hj (show q2 P o E (fun τ=>fW T τ.e=true/\EC P T r τ K) from h)
  unfold bE
  rw[if_neg (by decide),if_neg (by decide)]
  exact⟨v,h1,yr fun i c hc=>mT h2 i c hc,fun e=>(by cases e),Bt r _ h3⟩
 |(1,_,o)::r,E,h=>by
  obtain⟨h0,h⟩:=h
  obtain⟨v,h1,h2,h3⟩:=Hj (show q2 P o E (fun τ=>fW T τ.e=true/\EC P T r τ K) from h)
  unfold bE
  rw[if_neg (by decide),if_neg (by decide)]
  exact⟨v,h1,yr fun i c hc=>mT h2 i c hc,fun _=>h0,Bt r _ h3⟩
 |(k+3,_,o)::r,E,h=>by
  have h:JW P o E (fun τ=>fW T τ.e=true/\EC P T r τ K):=h
  unfold bE
  rw[if_pos (by omega)]
  exact⟨E,kq.refl _,h⟩
 |(2,_,o)::r,E,h=>by
  have h:Q5 P o E (fun τ=>fW T τ.e=true/\EC P T r τ K):=h
  unfold bE
  rw[if_neg (by decide),if_pos (by decide)]
  unfold Q5 at h
  split at h
  ·rename_i hg
   exact⟨h.1,hg,vG (fun a s _ hk=>Bt r _ hk.2) h.2⟩
  ·exact h.elim
theorem NF{o:ai}(h:kq E E'):lz o E=lz o E':=by
 obtain⟨d,op,g⟩:=o
 cases op<;>first|rfl|skip
 rename_i m mu x
 show lx (E.x x)=lx (E'.x x)
 cases x with
 |c a=>rfl
 |t i=>show lx (look E.e i)=lx (look E'.e i);rw[h.e]
theorem xK{K:St->Prop}:∀(l:List Item){E E':St},kq E E'->bE P T l K E->bE P T l K E'
 |[],_,_,h,⟨τ,h1,h2⟩=>⟨τ,h1.trans h,h2⟩
 |(k,i,o)::r,E,E',h,hb=>by
  unfold bE at hb⊢
  by_cases hk3:3<=k
  ·rw[if_pos hk3]at hb⊢
   obtain⟨τ,h1,h2⟩:=hb
   exact⟨τ,h1.trans h,h2⟩
  rw[if_neg hk3]at hb⊢
  by_cases hk:2<=k
  ·rw[if_pos hk]at hb⊢
   refine⟨by rw[<-h.free];exact hb.1,hb.2.1,?_⟩
   refine Bq (E:=E) (fun x _=>by cases x with|c a=>rfl|t i=>exact h.e i) h.s (vG (fun a s _ hh=>?_) hb.2.2)
   exact xK r ((h.JT s).put o.dst a) hh
  ·rw[if_neg hk]at hb⊢
   obtain⟨v,h1,h2,h3,h4⟩:=hb
   exact⟨v,h1.eqv h,h2,fun e=>by rw[<-NF h];exact h3 e,xK r (h.bH o v) h4⟩
theorem zO{o y:ai}{v:AV}(hn:fJ (pq y) (bO o)=true)(hdr:zK y o=true):lz o (bH E y v)=lz o E:=by
 obtain⟨d,op,g⟩:=o
 cases op<;>first|rfl|skip
 rename_i m mu x
 show lx ((bH E y v).x x)=lx (E.x x)
 cases x with
 |c a=>rfl
 |t i=>
  have hi:i∈bO ⟨d,.load m mu (.t i),g⟩:=List.mem_append_right _ (gj List.mem_cons_self)
  show lx (look (bH E y v).e i)=lx (look E.e i)
  rw[c7,if_neg (se hn hi),EF]
  have:=List.all_eq_true.1 hdr i hi
  simpa using this
theorem Uj{K:St->Prop}{kx ix:Nat}{x:ai}(hkx:¬2<=kx)(hTx:RU T x):∀(pre:List Item)(post:List Item)(E:St),uE T E->(∀y∈pre,¬2<=y.1/\Tv y.2.2 x=true/\RU T y.2.2)->bE P T (pre++(kx,ix,x)::post) K E->
 ∃v,Y2 P E x v/\yq T x v/\(kx=1->lz x E=true)/\bE P T (pre++post) K (bH E x v)
 |[],post,E,_,_,h=>by
  have h:bE P T ((kx,ix,x)::post) K E:=h
  unfold bE at h
  rw[if_neg (by omega),if_neg hkx]at h
  exact h
 |(k,i,o)::pre,post,E,hN,hap,h=>by
  have h:bE P T ((k,i,o)::(pre++(kx,ix,x)::post)) K E:=h
  obtain⟨hk,Vp,hT0⟩:=hap _ List.mem_cons_self
  unfold bE at h
  rw[if_neg (by omega),if_neg hk]at h
  obtain⟨v,h1,h2,h3,h4⟩:=h
  obtain⟨u,i1,i2,i3,i4⟩:=Uj hkx hTx pre post (bH E o v) (qd hN h2) (fun y hy=>hap y (List.mem_cons_of_mem _ hy)) h4
  obtain⟨a1,a2,a3,a4,a5,a6,a7,c1,c2⟩:=HV Vp
  have hx:Y2 P E x u:=i1.J7 (sK h1 a1 a4 c2 hN hT0).symm
   (fun i hi=>(j6 fun e=>a3 i i e (sS hi) rfl).symm)
   (fun i hi hf=>lu (fun z hz _=>(gC o v z).2 (.inl hz)) hf)
  have ho:Y2 P (bH E x u) o v:=h1.J7 (sK hx a2 a5 c1 hN hTx)
   (fun i hi=>j6 fun e=>a3 i i (sS hi) e rfl)
   (fun i hi hf=>lu (fun z hz hzi=>by
     rcases(gC _ _ z).1 hz with hz|⟨j,j1,_,j3⟩
     ·exact hz
     ·rw[hzi]at j3;exact(i2 j j1 i (hT0 i hi) j3).elim) hf)
  have BL:kq (bH (bH E o v) x u) (bH (bH E x u) o v):=Dj a3 a6 a7
  refine⟨u,hx,i2,fun e=>by rw[<-zO a1 a4];exact i3 e,?_⟩
  show bE P T ((k,i,o)::(pre++post)) K (bH E x u)
  unfold bE
  rw[if_neg (by omega),if_neg hk]
  exact⟨v,ho,h2,fun e=>by rw[zO a2 a5];exact h3 e,xK _ BL i4⟩
theorem Uk{K:St->Prop}{kx ix:Nat}{x:ai}(hkx:2<=kx)(ZN:¬3<=kx):∀(pre:List Item)(post:List Item)(E:St),(∀y∈pre,(y.1=1\/y.1=0/\I9 y.2.2 x=true)/\UR y.2.2 x=true)->bE P T (pre++(kx,ix,x)::post) K E->
 aX E x.dst=true/\x.g=none/\qF P x.op E (fun a s=>bE P T (pre++post) K (behind E x.dst a s))
 |[],post,E,_,h=>by
  have h:bE P T ((kx,ix,x)::post) K E:=h
  unfold bE at h
  rw[if_neg ZN,if_pos hkx]at h
  exact h
 |(k,i,o)::pre,post,E,hap,h=>by
  have h:bE P T ((k,i,o)::(pre++(kx,ix,x)::post)) K E:=h
  obtain⟨RP,Vp⟩:=hap _ List.mem_cons_self
  have RP:k=1\/k=0/\I9 o x=true:=RP
  have RQ:¬3<=k/\¬2<=k:=by rcases RP with h|⟨h,_⟩<;>omega
  unfold bE at h
  rw[if_neg RQ.1,if_neg RQ.2]at h
  obtain⟨v,h1,h2,h3,h4⟩:=h
  obtain⟨i1,i2,i3⟩:=Uk hkx ZN pre post (bH E o v) (fun y hy=>hap y (List.mem_cons_of_mem _ hy)) h4
  obtain⟨a1,a2,a3,a4⟩:=Oe Vp
  have hf:aX E x.dst=true:=by
   cases hd:x.dst with
   |none=>rfl
   |some d=>
    rw[hd]at i1
    have e:aZ (look (bH E o v).e d)=aZ (look E.e d):=j6 fun e=>a4 d e hd
    show aZ (look E.e d)=true
    rw[<-e];exact i1
  have hcg:∀{C:AV->ab->Prop},qF P x.op (bH E o v) C->qF P x.op E C:=fun hh=>Bq (E:=bH E o v) (fun y hy=>by
   cases y with
   |c a=>rfl
   |t j=>
    have hj:j∈bO x:=List.mem_append_right _ (gj hy)
    show look (bH E o v).e j=look E.e j
    rw[c7,if_neg (se a2 hj),EF]
    have:=List.all_eq_true.1 a1 j hj
    simpa using this) (kg o v) hh
  rcases RP with rfl|⟨rfl,hl⟩
  ·refine⟨hf,i2,hcg (vG (fun av s hv hb=>?_) i3)⟩
   show bE P T ((1,i,o)::(pre++post)) K (behind E x.dst av s)
   unfold bE
   rw[if_neg (by omega),if_neg (by omega)]
   refine⟨v,h1.behind (h3 rfl) a3 hf hv a4,h2,fun _=>by rw[NG a3];exact h3 rfl,?_⟩
   exact xK _ (vE a3 a4).symm hb
  ·refine⟨hf,i2,hcg ?_⟩
   obtain⟨_,d',sz,by',z,l,c,g',rfl⟩:=E3 hl
   refine MM (fun av s hv iH hb=>?_) i3
   show bE P T ((0,i,o)::(pre++post)) K (behind E d' av s)
   unfold bE
   rw[if_neg (by omega),if_neg (by omega)]
   refine⟨v,h1.Rp hl (fun b o' h'=>iH b o' (by rw[kg];exact h')) a3 hf hv a4,h2,fun e=>(by cases e),?_⟩
   exact xK _ (vE a3 a4).symm hb
end
section
variable{P:Program}{n:Nat}{D:List Deferred}{ops:Array Oper}{T:List Nat}
def Bef(ops:Array Oper)(j i:Nat):Prop:=∀L:Nat->Prop,(∀m,L m->∀d,gl ops m d=true->L d)->(∀d,gl ops j d=true->L d)->L i
theorem EM(acc:List Nat)(i:Nat):∀(l:List Edge)(s:Nat),(l.foldl (fun s e=>bif Region.binds .any e then s |||(1<<<e.on)|||acc.getD e.on 0 else s) s).testBit i=true->
 s.testBit i=true\/∃e∈l,Region.binds .any e=true/\(i=e.on\/(acc.getD e.on 0).testBit i=true)
 |[],s,h=>.inl h
 |e::l,s,h=>by
  rw[List.foldl_cons]at h
  rcases EM acc i l _ h with h|⟨e',h1,h2⟩
  ·cases hb:Region.binds .any e with
   |false=>rw[hb]at h;exact .inl h
   |true=>
    rw[hb,cond_true,Nat.testBit_or,Nat.testBit_or,Bool.or_eq_true,Bool.or_eq_true]at h
    rcases h with(h|h)|h
    ·exact .inl h
    ·refine .inr ⟨e,List.mem_cons_self,hb,.inl ?_⟩
     rw[Nat.testBit_shiftLeft,Bool.and_eq_true,decide_eq_true_eq]at h
     have:=Nat.testBit_one_eq_true_iff_self_eq_zero.1 h.2
     omega
    ·exact .inr ⟨e,List.mem_cons_self,hb,.inr h⟩
  ·exact .inr ⟨e',List.mem_cons_of_mem _ h1,h2⟩
theorem E9:∀(l:List Oper)(acc:List Nat),l=ops.toList.drop acc.length->(∀j i,(acc.getD j 0).testBit i=true->Bef ops j i)->∀j i,((E8 l acc).getD j 0).testBit i=true->Bef ops j i
 |[],acc,_,h=>h
 |o::l,acc,hl,h=>by
  have ho:ops[acc.length]? =some o:=by
   have:(ops.toList.drop acc.length)[0]? =some o:=by rw[<-hl];rfl
   simpa using this
  refine E9 l (acc++[Cr acc o]) ?_ fun j i hb=>?_
  ·have:(ops.toList.drop acc.length).tail=l:=by rw[<-hl];rfl
   rw[<-this];simp
  ·by_cases hj:j<acc.length
   ·refine h j i ?_
    simpa[List.getD_eq_getElem?_getD,List.getElem?_append_left hj]using hb
   ·by_cases he:j=acc.length
    ·subst he
     have hb:(Cr acc o).testBit i=true:=by simpa[List.getD_eq_getElem?_getD]using hb
     unfold Cr at hb
     rcases EM acc i _ _ hb with h0|⟨e,e1,e2,e3⟩
     ·simp at h0
     ·intro L hc hd
      have hle:L e.on:=hd _ ((kT ho).2 ⟨e,by simpa using e1,e2,rfl⟩)
      rcases e3 with rfl|e3
      ·exact hle
      ·exact h e.on i e3 L hc (hc _ hle)
    ·have:(acc++[Cr acc o]).getD j 0=0:=by
      rw[List.getD_eq_getElem?_getD,List.getElem?_eq_none (by simp;omega)];rfl
     rw[this]at hb
     simp at hb
theorem Ff{ms:List Nat}:∀{l:List Item},Hc ops ms l=true->l.Pairwise fun x y=>xd ops ms x y=true
 |[],_=>.nil
 |x::r,h=>by
  simp only[Hc,Bool.and_eq_true]at h
  exact .cons (fun y hy=>List.all_eq_true.1 h.1 y hy) (Ff h.2)
structure N6(ops:Array Oper)(L0 L:List Item)(aF:Array Bool):Prop where
 size:aF.size=ops.size
 sub:L.Sublist L0
 un:∀x∈L,aF.getD x.2.1 true=false
 li:∀k,k<ops.size->(∀x∈L,x.2.1≠k)->aF.getD k false=true
 cl:∀m,aF.getD m false=true->∀i,gl ops m i=true->aF.getD i false=true
theorem vV{l:Array Bool}{i j:Nat}{b:Bool}(h:j≠i):(l.setIfInBounds i true).getD j b=l.getD j b:=by simp[Array.getElem?_setIfInBounds,h.symm]
theorem nU{l:Array Bool}{i:Nat}{b:Bool}(h:i<l.size):(l.setIfInBounds i true).getD i b=true:=by simp[h]
theorem tU{l:Array Bool}{i j:Nat}(h:l.getD j false=true):(l.setIfInBounds i true).getD j false=true:=by
 by_cases e:j=i
 ·subst e
  rcases Nat.lt_or_ge j l.size with hj|hj
  ·exact nU hj
  ·simp[Array.getElem?_eq_none hj]at h
 ·rw[vV e];exact h
theorem L4{x:Item}(h:Cl P T n ops x=true)(hk:¬2<=x.1):RU T x.2.2:=fun c hc=>by
 simp only[Cl,Bool.and_eq_true]at h
 have h2:=h.2
 unfold PB at hc
 split at hc
 ·rename_i hx
  rw[hx]at h2
  injection hc with hc;subst hc
  rcases Bool.or_eq_true_iff.1 h2 with h2|h2
  ·exact(hk (of_decide_eq_true h2)).elim
  ·simpa using h2
 ·rename_i hx
  rw[hx]at h2
  injection hc with hc;subst hc;simpa using h2
 ·cases hc
theorem uE.behind{E:St}(h:uE T E){d:Option Nat}{a:AV}{s:ab}(ha:sD a):uE T (behind E d a s):=fun i c hc=>by
 unfold AB.behind
 rw[lr]
 by_cases e:d=some i
 ·rw[if_pos e];exact ha.2 c
 ·rw[if_neg e];exact h i c hc
theorem abx{K:St->Prop}{Q:Exit->Act->World->Prop}(G₀:Gh)(w₀:World){L0:List Item}(hI:∀x∈L0,Cl P T n ops x=true)(hP:L0.Pairwise fun x y=>xd ops (E8 ops.toList []) x y=true)
 (hn:∀G' E' a' w',Inv G' n D E' a' w'->az G₀ w₀ G' w'->K E'->Q .normal a' w'):
 ∀(m:Nat)(L:List Item),L.length=m->∀(aF:Array Bool)(E:St),N6 ops L0 L aF->uE T E->bE P T L K E->∀(G:Gh)(a:Act)(w:World),Inv G n D E a w->az G₀ w₀ G w->wpAny P .any ops Q m aF a w:=by
 intro m
 induction m with
 |zero=>
  intro L hL aF E hg _ hb G a w h hp
  obtain rfl:=List.eq_nil_of_length_eq_zero hL
  refine⟨List.eq_nil_iff_forall_not_mem.2 fun j hj=>?_,?_⟩
  ·obtain⟨r1,r2,r3⟩:=jj hj
   have:=jT (hg.li j r1 fun x hx=>by cases hx)
   rw[r2]at this;cases this
  ·obtain⟨τ,t1,t2⟩:=hb
   exact hn G τ a w (h.eqv t1.symm) hp t2
 |succ m ih=>
  intro L hL aF E hg hN hb G a w h hp
  have hPL:=hP.sublist hg.sub
  refine⟨fun h0=>?_,fun i hi=>?_⟩
  ·cases L with
   |nil=>simp at hL
   |cons x r=>
    have hx:=hI x (hg.sub.subset List.mem_cons_self)
    simp only[Cl,Bool.and_eq_true]at hx
    have lZ:x.2.1∈Region.ready .any ops aF:=by
     cases ho:ops[x.2.1]? with
     |none=>rw[ho]at hx;simp at hx
     |some o=>
      rw[ho]at hx
      have hx1:(gn P n ops o x.2.2&&o.after.all fun e=>!Region.binds .any e||(decide (e.on<ops.size)&&e.on !=x.2.1))=true:=hx.1
      rw[Bool.and_eq_true]at hx1
      refine mem_ready.2 ⟨hg.un x List.mem_cons_self,o,ho,fun e he hbn=>?_⟩
      have h3:=Array.all_eq_true_iff_forall_mem.1 hx1.2 e he
      rw[hbn]at h3
      simp only[Bool.not_true,Bool.false_or,Bool.and_eq_true,decide_eq_true_eq,bne_iff_ne]at h3
      refine hg.li e.on h3.1 fun y hy=>?_
      rcases List.mem_cons.1 hy with rfl|hy
      ·exact fun e'=>h3.2 e'.symm
      ·intro e'
       have:=(List.pairwise_cons.1 hPL).1 y hy
       simp only[xd,Bool.and_eq_true,Bool.not_eq_true']at this
       have hb2:gl ops x.2.1 y.2.1=true:=(kT ho).2 ⟨e,he,hbn,e'.symm⟩
       rw[this.1]at hb2;cases hb2
    rw[h0]at lZ
    cases lZ
  ·obtain⟨r1,r2,r3⟩:=jj hi
   have hex:∃x∈L,x.2.1=i:=by
    apply Classical.byContradiction
    intro hno
    have:=jT (hg.li i r1 fun x hx e=>hno ⟨x,hx,e⟩)
    rw[r2]at this;cases this
   obtain⟨⟨kx,ix,x⟩,hx,e0⟩:=hex
   have e0:ix=i:=e0
   subst e0
   obtain⟨pre,post,rfl⟩:=List.append_of_mem hx
   have hxi:=hI _ (hg.sub.subset hx)
   have hPw:=List.pairwise_append.1 hPL
   have hpx:∀y∈pre,xd ops (E8 ops.toList []) y (kx,ix,x)=true:=fun y hy=>hPw.2.2 y hy _ List.mem_cons_self
   have hxp:∀y∈post,xd ops (E8 ops.toList []) (kx,ix,x) y=true:=(List.pairwise_cons.1 hPw.2.1).1
   have Pf:∀y∈pre,T5 y.1 kx y.2.2 x=true:=fun y hy=>by
    have h1:=hpx y hy
    simp only[xd,Bool.and_eq_true,Bool.or_eq_true]at h1
    rcases h1.2.2 with h2|h2
    ·have hbf:=E9 (ops:=ops) ops.toList [] (by simp) (fun j i hh=>by simp at hh) _ _ h2
     have:=jT (hbf (fun m=>aF.getD m false=true) hg.cl r3)
     rw[hg.un y (List.mem_append_left _ hy)]at this;cases this
    ·exact h2
   have hne:∀y∈pre++post,y.2.1≠ix:=fun y hy=>by
    rcases List.mem_append.1 hy with hy|hy
    ·have:=hpx y hy
     simp only[xd,Bool.and_eq_true,bne_iff_ne]at this
     exact this.2.1
    ·have:=hxp y hy
     simp only[xd,Bool.and_eq_true,bne_iff_ne]at this
     exact fun e=>this.2.1 e.symm
   have hg':N6 ops L0 (pre++post) (aF.setIfInBounds ix true):=by
    refine⟨by simp[hg.size],((List.sublist_cons_self _ post).append_left pre).trans hg.sub,fun y hy=>?_,fun k hk hno=>?_,fun m' hm' d hd=>?_⟩
    ·rw[vV (hne y hy)]
     refine hg.un y ?_
     rcases List.mem_append.1 hy with hy|hy
     ·exact List.mem_append_left _ hy
     ·exact List.mem_append_right _ (List.mem_cons_of_mem _ hy)
    ·by_cases e:k=ix
     ·subst e;exact nU (by rw[hg.size];exact hk)
     ·refine tU (hg.li k hk fun y hy=>?_)
      rcases List.mem_append.1 hy with hy|hy
      ·exact hno y (List.mem_append_left _ hy)
      ·rcases List.mem_cons.1 hy with rfl|hy
       ·exact fun e'=>e e'.symm
       ·exact hno y (List.mem_append_right _ hy)
    ·refine tU ?_
     by_cases e:m'=ix
     ·subst e;exact r3 d hd
     ·rw[vV e]at hm';exact hg.cl m' hm' d hd
   have hlen:(pre++post).length=m:=by simp at hL⊢;omega
   have hxo:gn P n ops ops[ix] x=true:=by
    simp only[Cl,Bool.and_eq_true]at hxi
    have h1:=hxi.1
    rw[Array.getElem?_eq_getElem r1]at h1
    have h1:(gn P n ops ops[ix] x&&_)=true:=h1
    rw[Bool.and_eq_true]at h1
    exact h1.1
   by_cases hk3:3<=kx
   ·obtain rfl:pre=[]:=by
     cases pre with
     |nil=>rfl
     |cons y pre=>
      have h1:=Pf y List.mem_cons_self
      obtain⟨ky,iy,yo⟩:=y
      obtain⟨k,rfl⟩:∃k,kx=k+3:=⟨kx -3,by omega⟩
      match ky with
      |0=>cases h1
      |1=>cases h1
      |_+2=>cases h1
    have hb:bE P T ((kx,ix,x)::post) K E:=hb
    unfold bE at hb
    rw[if_pos hk3]at hb
    obtain⟨τ,t1,t2⟩:=hb
    refine nh (o:=ops[ix]) (by simp[r1]) (fP (h.eqv t1.symm) hxo t2 fun G' E' a' w' k1 k2 k3=>?_)
    exact ih ([]++post) hlen _ E' hg' (fun i c hc=>mT k3.1 i c hc) (Bt _ _ k3.2) G' a' w' k1 (hp.trans k2)
   by_cases hk:2<=kx
   ·have hap:∀y∈pre,(y.1=1\/y.1=0/\I9 y.2.2 x=true)/\UR y.2.2 x=true:=fun y hy=>by
     have h1:=Pf y hy
     obtain⟨ky,iy,yo⟩:=y
     obtain rfl:kx=2:=by omega
     match ky with
     |0=>
      have h1:(I9 yo x&&UR yo x)=true:=h1
      rw[Bool.and_eq_true]at h1
      exact⟨.inr ⟨rfl,h1.1⟩,h1.2⟩
     |1=>exact⟨.inl rfl,h1⟩
     |_+2=>cases h1
    obtain⟨p1,p2,p3⟩:=Uk hk hk3 pre post E hap hb
    have hbb:Q5 P x E (fun τ=>uE T τ/\bE P T (pre++post) K τ):=by
     unfold Q5
     rw[p2]
     exact⟨p1,vG (fun av s hv hh=>⟨hN.behind hv,hh⟩) p3⟩
    have hK':∀τ U',kq τ U'->(uE T τ/\bE P T (pre++post) K τ)->uE T U'/\bE P T (pre++post) K U':=fun τ U' e hh=>⟨fun i c hc=>by rw[<-e.e i];exact hh.1 i c hc,xK _ e hh.2⟩
    refine nh (o:=ops[ix]) (by simp[r1]) (fP h hxo (Ro hK' hbb) fun G' E' a' w' k1 k2 k3=>?_)
    exact ih (pre++post) hlen _ E' hg' k3.1 k3.2 G' a' w' k1 (hp.trans k2)
   ·have hap:∀y∈pre,¬2<=y.1/\Tv y.2.2 x=true/\RU T y.2.2:=fun y hy=>by
     have h1:=Pf y hy
     have hyT:=fun hh=>L4 (hI y (hg.sub.subset (List.mem_append_left _ hy))) hh
     obtain⟨ky,iy,yo⟩:=y
     match ky,kx,hk with
     |0,0,_=>exact⟨fun hh=>absurd hh (by simp),h1,hyT (by simp)⟩
     |0,1,_=>exact⟨fun hh=>absurd hh (by simp),h1,hyT (by simp)⟩
     |1,0,_=>exact⟨fun hh=>absurd hh (by simp),h1,hyT (by simp)⟩
     |1,1,_=>exact⟨fun hh=>absurd hh (by simp),h1,hyT (by simp)⟩
     |k+2,0,_=>cases h1
     |k+2,1,_=>cases h1
     |_,k+2,hk=>exact(hk (by omega)).elim
    obtain⟨v,p1,p2,p3,p4⟩:=Uj hk (L4 hxi hk) pre post E hN hap hb
    refine nh (o:=ops[ix]) (by simp[r1]) (Y2.run h hxo p1 fun G' a' w' k1 k2=>?_)
    exact ih (pre++post) hlen _ (bH E x v) hg' (qd hN p2) p4 G' a' w' k1 (hp.trans k2)
theorem U7(hm:P.follows .mixedOrders=true):Tp P n:=by
 intro D id ops T l G E a w K Q hc h hno hw hn
 simp only[U2,Bool.and_eq_true,beq_iff_eq]at hc
 obtain⟨⟨h1,h2⟩,h3,h4⟩:=hc
 refine wp_region_any hm ?_
 have hg:N6 ops l l (Array.replicate ops.size false):=by
  refine⟨by simp,List.Sublist.refl l,fun x hx=>?_,fun k hk hno=>?_,fun m hm i hi=>?_⟩
  ·have hlt:x.2.1<ops.size:=by
    have:=List.all_eq_true.1 h3 x hx
    simp only[Cl,Bool.and_eq_true]at this
    cases ho:ops[x.2.1]? with
    |none=>rw[ho]at this;simp at this
    |some o=>exact(Array.getElem?_eq_some_iff.1 ho).1
   simp[hlt]
  ·obtain⟨x,hx,e⟩:=List.any_eq_true.1 (List.all_eq_true.1 h2 k (List.mem_range.2 hk))
   exact absurd (beq_iff_eq.1 e) (hno x hx)
  ·rcases Nat.lt_or_ge m ops.size with hlt|hge
   ·simp[hlt]at hm
   ·simp[Array.getElem?_eq_none (show(Array.replicate ops.size false).size<=m by simpa using hge)]at hm
 have:=abx (T:=T) (P:=P) (n:=n) (K:=K) (Q:=Q) G w (fun x hx=>List.all_eq_true.1 h3 x hx) (Ff h4) hn l.length l rfl _ E hg (fun i c hc=>mT hno i c hc) (Bt l E hw) G a {w with drawn:=w.drawn+1} h.drew (az.drew G w)
 rwa[h1]at this
theorem xD:∀(p s:List Bool),zn p s=p.reverse++s
 |[],s=>rfl
 |x::p,s=>by unfold zn;rw[xD p];simp
theorem JU{done:List Bool}{F:ai->List Bool->Prop}:∀{rows:List (List Bool)}{pre xs:List Bool}{r:List ai}{j:Nat}{row:List Bool}{o:ai},Lt done rows pre xs r F->rows[j]? =some row->r[j]? =some o->xs[j]? =some false->xC row done=true->F o (zn pre (xs.set j true))
 |row::rows,pre,x::xs,o::r,0,row',o',h,h1,h2,h3,h4=>by
  injection h1 with h1;injection h2 with h2;injection h3 with h3
  subst h1;subst h2;subst h3
  have:=h.1
  rw[h4]at this
  exact this
 |row::rows,pre,x::xs,o::r,j+1,row',o',h,h1,h2,h3,h4=>by
  have:=JU (j:=j) h.2 (by simpa using h1) (by simpa using h2) (by simpa using h3) h4
  rw[xD]at this⊢
  simpa using this
 |[],_,_,_,_,_,_,_,h1,_,_,_=>by simp at h1
 |_::_,_,[],_,_,_,_,_,_,_,h3,_=>by simp at h3
 |_::_,_,_::_,[],_,_,_,_,_,h2,_,_=>by simp at h2
theorem MD:∀{row done:List Bool},(∀i,row.getD i false=true->done.getD i false=true)->xC row done=true
 |[],_,_=>rfl
 |_::_,[],_=>rfl
 |d::row,x::done,h=>by
  have h0:=h 0
  have ht:=MD (row:=row) (done:=done) fun i hi=>by have:=h (i+1);simp only[List.getD_cons_succ]at this;exact this hi
  unfold xC
  rw[ht,Bool.and_true]
  cases d with
  |false=>rfl
  |true=>simpa using h0
structure YX(ops:Array Oper)(done:List Bool)(aF:Array Bool):Prop where
 size:aF.size=ops.size
 len:done.length=ops.size
 eq:∀j,done.getD j false=aF.getD j false
theorem count_set:∀{l:List Bool}{j:Nat},l[j]? =some false->(l.set j true).count false+1=l.count false
 |x::l,0,h=>by injection h with h;subst h;simp
 |x::l,j+1,h=>by
  have:=count_set (l:=l) (j:=j) (by simpa using h)
  cases x<;>simp<;>omega
 |[],_,h=>by simp at h
theorem Uz{K:St->Prop}{Q:Exit->Act->World->Prop}{fB:List (List Bool)}{bj:List ai}(G₀:Gh)(w₀:World)(hI:bS P n ops ops.toList bj=true)(hX:LD ops fB=true)
 (hn:∀G' E' a' w',Inv G' n D E' a' w'->az G₀ w₀ G' w'->K E'->Q .normal a' w'):
 ∀(f:List ai)(done:List Bool)(aF:Array Bool)(E:St),YX ops done aF->done.count false=f.length->NS P fB bj K f done E->∀(G:Gh)(a:Act)(w:World),Inv G n D E a w->az G₀ w₀ G w->wpAny P .any ops Q f.length aF a w
 |[],done,aF,E,hg,hc,hw,G,a,w,h,hp=>by
  refine⟨List.eq_nil_iff_forall_not_mem.2 fun j hj=>?_,hn G E a w h hp hw⟩
  obtain⟨r1,r2,r3⟩:=jj hj
  have h2:aF.getD j false=false:=by
   have hlt:j<aF.size:=by rw[hg.size];exact r1
   simp only[Array.getD_eq_getD_getElem?,Array.getElem?_eq_getElem hlt,Option.getD_some]at r2⊢
   exact r2
  rw[<-hg.eq j]at h2
  have hlt:j<done.length:=by rw[hg.len];exact r1
  have lZ:false∈done:=by
   rw[List.getD_eq_getElem?_getD,List.getElem?_eq_getElem hlt,Option.getD_some]at h2
   rw[<-h2];exact List.getElem_mem hlt
  exact absurd hc (by have:=List.count_pos_iff.2 lZ;simp;omega)
 |o0::f,done,aF,E,hg,hc,hw,G,a,w,h,hp=>by
  have hX':=hX
  simp only[LD,Bool.and_eq_true,beq_iff_eq]at hX'
  obtain⟨hl,cE⟩:=hX'
  refine⟨fun h0=>?_,fun i hi=>?_⟩
  ·exfalso
   have hex:∃j,j<ops.size/\aF.getD j false=false:=by
    apply Classical.byContradiction
    intro hno
    have:done.count false=0:=List.count_eq_zero.2 fun hm=>by
     obtain⟨j,hj,e⟩:=List.getElem_of_mem hm
     refine hno ⟨j,by rw[<-hg.len];exact hj,?_⟩
     rw[<-hg.eq,List.getD_eq_getElem?_getD,List.getElem?_eq_getElem hj,Option.getD_some,e]
    rw[this]at hc;simp at hc
   obtain⟨j,hj⟩:=hex
   induction j using Nat.strongRecOn with
   |_ j ih=>
    by_cases hk:∃k,k<j/\k<ops.size/\aF.getD k false=false
    ·obtain⟨k,k1,k2⟩:=hk
     exact ih k k1 k2
    ·have hj2:=List.all_eq_true.1 cE j (List.mem_range.2 hj.1)
     simp only[Bool.and_eq_true]at hj2
     have h3:=hj2.2
     rw[Array.getElem?_eq_getElem hj.1]at h3
     have lZ:j∈Region.ready .any ops aF:=by
      refine mem_ready.2 ⟨?_,ops[j],Array.getElem?_eq_getElem hj.1,fun e he hb=>?_⟩
      ·have hlt:j<aF.size:=by rw[hg.size];exact hj.1
       have:=hj.2
       simp only[Array.getD_eq_getD_getElem?,Array.getElem?_eq_getElem hlt,Option.getD_some]at this⊢
       exact this
      ·have h4:=Array.all_eq_true_iff_forall_mem.1 h3 e he
       rw[hb]at h4
       simp only[Bool.not_true,Bool.false_or,decide_eq_true_eq]at h4
       apply Classical.byContradiction
       intro hno
       exact hk ⟨e.on,h4,by omega,by simpa using hno⟩
     rw[h0]at lZ
     cases lZ
  ·obtain⟨r1,r2,r3⟩:=jj hi
   have hlt:i<aF.size:=by rw[hg.size];exact r1
   have uS:i<done.length:=by rw[hg.len];exact r1
   have r2':aF.getD i false=false:=by
    simp only[Array.getD_eq_getD_getElem?,Array.getElem?_eq_getElem hlt,Option.getD_some]at r2⊢
    exact r2
   have hd:done[i]? =some false:=by
    rw[<-hg.eq i,List.getD_eq_getElem?_getD,List.getElem?_eq_getElem uS,Option.getD_some]at r2'
    rw[List.getElem?_eq_getElem uS,r2']
   obtain⟨hlen,jU⟩:=fo _ _ hI
   have hli:i<bj.length:=by rw[<-hlen];simpa using r1
   have hio:bj[i]? =some bj[i]:=List.getElem?_eq_getElem hli
   have hco:gn P n ops ops[i] bj[i]=true:=jU i ops[i] bj[i] (by simp[r1]) hio
   have hj2:=List.all_eq_true.1 cE i (List.mem_range.2 r1)
   simp only[Bool.and_eq_true,beq_iff_eq]at hj2
   have gJ:fB[i]? =some (fB.getD i []):=by
    have:i<fB.length:=by rw[hl];exact r1
    rw[List.getD_eq_getElem?_getD,List.getElem?_eq_getElem this,Option.getD_some]
   have hrd:xC (fB.getD i []) done=true:=MD fun k hk=>by
    have hkl:k<ops.size:=by
     rw[<-hj2.1.1]
     apply Classical.byContradiction
     intro hno
     rw[List.getD_eq_getElem?_getD,List.getElem?_eq_none (by omega)]at hk
     cases hk
    have:=List.all_eq_true.1 hj2.1.2 k (List.mem_range.2 hkl)
    rw[hk]at this
    rw[hg.eq]
    exact r3 k (by simpa using this)
   have hx:=JU (F:=fun o d=>JW P o E (fun τ=>NS P fB bj K f d τ)) hw gJ hio hd hrd
   refine nh (o:=ops[i]) (by simp[r1]) (fP h hco hx fun G' E' a' w' k1 k2 k3=>?_)
   refine Uz G₀ w₀ hI hX hn f _ _ E' ⟨by simp[hg.size],by rw[xD];simp[hg.len],fun k=>?_⟩ ?_ k3 G' a' w' k1 (hp.trans k2)
   ·rw[xD]
    show(([]:List Bool).reverse++done.set i true).getD k false=_
    rw[List.reverse_nil,List.nil_append]
    by_cases e:k=i
    ·subst e
     rw[nU hlt,List.getD_eq_getElem?_getD,List.getElem?_set_self uS];rfl
    ·rw[vV e,<-hg.eq,List.getD_eq_getElem?_getD,List.getD_eq_getElem?_getD,List.getElem?_set_ne (Ne.symm e)]
   ·rw[xD]
    show(([]:List Bool).reverse++done.set i true).count false=_
    rw[List.reverse_nil,List.nil_append]
    have:=count_set hd
    rw[hc]at this
    simp at this
    omega
theorem Va(hm:P.follows .mixedOrders=true):Ts P n:=by
 intro D id ops fB bj G E a w K Q hc hx h hw hn
 refine wp_region_any hm ?_
 have hlen:bj.length=ops.size:=by have:=(fo _ _ hc).1;simpa using this.symm
 have hf:∀l:List ai,sH l=List.replicate l.length false:=by
  intro l
  induction l with
  |nil=>rfl
  |cons o r ih=>show false::sH r=_;rw[ih];rfl
 have:=Uz (P:=P) (n:=n) (K:=K) (Q:=Q) G w hc hx hn bj (sH bj) (Array.replicate ops.size false) E ⟨by simp,by rw[hf];simp[hlen],fun j=>by
  rw[hf,hlen]
  rcases Nat.lt_or_ge j ops.size with hj|hj
  ·simp[hj]
  ·simp[Nat.not_lt.2 hj]⟩ (by rw[hf];simp) hw G a {w with drawn:=w.drawn+1} h.drew (az.drew G w)
 rwa[hlen]at this
theorem lY(hm:P.follows .mixedOrders=true):Bf P n:=⟨U8 hm,U9 hm,U7 hm,Va hm⟩
end
end Go.AB
end
section
namespace Go.AB
open Go Go.RowKit
def A6:ab:=fun _=>none
section
variable{P:Program}{w w':World}
end
end Go.AB
end
section
namespace Go.AB
open Go
theorem xA(a b:List AV):views (a++b)=views a++views b:=by simp[views]
theorem uC:∀l:List (List AV),(∀x∈l,views x=x)->views l.flatten=l.flatten
 |[],_=>rfl
 |a::l,h=>by rw[List.flatten_cons,xA,h a List.mem_cons_self,uC l fun x hx=>h x (List.mem_cons_of_mem _ hx)]
class aR(α:Type)where
 w:Nat
 cells:α->List AV
 zero:α
 pos:0<w
 len:∀x,(cells x).length=w
 vw:∀x,views (cells x)=cells x
structure aC where
 b:List UInt8
 deriving DecidableEq,Inhabited
section
variable{α:Type}[aR α]
def flat(l:List α):List AV:=(l.map aR.cells).flatten
def ix(l:List α)(i:Int):α:=l.getD i.toNat aR.zero
theorem aE:∀l:List α,(flat l).length=l.length*aR.w α
 |[]=>by simp[flat]
 |a::l=>by
  have:=aE l
  simp only[flat,List.map_cons,List.flatten_cons,List.length_append,aR.len]at this⊢
  rw[this,List.length_cons,Nat.add_mul,Nat.one_mul,Nat.add_comm]
@[go_sem]theorem rl:flat ([]:List α)=[]:=rfl
@[go_sem]theorem ml(a:α)(l:List α):flat (a::l)=aR.cells a++flat l:=rfl
@[go_sem]theorem eH(a b:List α):flat (a++b)=flat a++flat b:=by simp[flat]
@[go_sem]theorem bX(l:List α):views (flat l)=flat l:=uC _ fun x hx=>by
  obtain⟨y,_,rfl⟩:=List.mem_map.1 hx
  exact aR.vw y
theorem EL(l:List α):∀k,(flat l).drop (k*aR.w α)=flat (l.drop k):=by
 induction l with
 |nil=>intro k;simp[flat]
 |cons a l ih=>intro k;cases k with
  |zero=>simp
  |succ k=>
   rw[ml,List.drop_succ_cons,<-ih k,Nat.succ_mul,Nat.add_comm,<-List.drop_drop]
   congr 1
   rw[<-aR.len a,List.drop_left]
theorem xX(l:List α):∀k,(flat l).take (k*aR.w α)=flat (l.take k):=by
 induction l with
 |nil=>intro k;simp[flat]
 |cons a l ih=>intro k;cases k with
  |zero=>simp[rl]
  |succ k=>
   rw[ml,List.take_succ_cons,ml,<-ih k,Nat.succ_mul,Nat.add_comm,List.take_append]
   rw[aR.len a,List.take_of_length_le (by rw[aR.len];omega)]
   congr 2
   omega
theorem jS(l:List α)(n lo m:Nat)(hn:n=aR.w α):AB.sub (flat l) (lo*n) (m*n)=flat ((l.drop lo).take m):=by
 subst hn
 unfold AB.sub
 rw[EL,xX]
theorem vT(z:List AV)(n:Nat)(l:List α)(i:Int)(hz:z=aR.cells (aR.zero:α))(hn:n=aR.w α):pad z (views (AB.sub (flat l) (i.toNat*n) n))=aR.cells (ix l i):=by
 subst hn
 have h1:AB.sub (flat l) (i.toNat*aR.w α) (aR.w α)=flat ((l.drop i.toNat).take 1):=by
  have:=jS l (aR.w α) i.toNat 1 rfl
  rwa[Nat.one_mul]at this
 rw[h1,bX]
 unfold pad ix
 rcases Nat.lt_or_ge i.toNat l.length with hlt|hge
 ·rw[List.drop_eq_getElem_cons hlt,List.take_succ_cons,List.take_zero,ml,rl,List.append_nil,hz,aR.len,aR.len,beq_self_eq_true]
  simp[List.getD,List.getElem?_eq_getElem hlt]
 ·rw[List.drop_eq_nil_of_le hge,List.take_nil,rl,hz,aR.len]
  have:(([]:List AV).length==aR.w α)=false:=by
   have:=aR.pos (α:=α)
   simp;omega
  rw[this]
  simp[List.getD,List.getElem?_eq_none hge]
def part(l:List α)(lo hi:Int):List α:=(l.drop lo.toNat).take (hi -lo).toNat
theorem xW(n:Nat)(l:List α)(lo hi:Int)(hn:n=aR.w α):AB.sub (flat l) (lo.toNat*n) ((hi -lo).toNat*n)=flat (part l lo hi):=jS l n _ _ hn
theorem OW(n:Nat)(l:List α)(hn:n=aR.w α):(flat l).length/n=l.length:=by
 subst hn
 rw[aE];exact Nat.mul_div_cancel _ aR.pos
end
instance:aR Bool:=⟨1,fun b=>[.bool b],false,Nat.one_pos,fun _=>rfl,fun _=>rfl⟩
instance:aR Int:=⟨1,fun n=>[.int .i64 n],0,Nat.one_pos,fun _=>rfl,fun _=>rfl⟩
instance:aR UInt8:=⟨1,fun n=>[.int .u8 n.toNat],0,Nat.one_pos,fun _=>rfl,fun _=>rfl⟩
instance:aR UInt32:=⟨1,fun n=>[.int .u32 n.toNat],0,Nat.one_pos,fun _=>rfl,fun _=>rfl⟩
instance:aR UInt64:=⟨1,fun n=>[.int .u64 n.toNat],0,Nat.one_pos,fun _=>rfl,fun _=>rfl⟩
instance:aR aC:=⟨1,fun s=>[.str s.b],⟨[]⟩,Nat.one_pos,fun _=>rfl,fun _=>rfl⟩
instance{α:Type}[aR α]:aR (List α):=⟨1,fun l=>[.sl false (aR.w α) l.length (flat l)],[],Nat.one_pos,fun _=>rfl,fun _=>rfl⟩
@[go_sem]theorem Xz(x:Int):aR.cells x=[.int .i64 x]:=rfl
@[go_sem]theorem Zf(x:UInt8):aR.cells x=[.int .u8 x.toNat]:=rfl
@[go_sem]theorem aft:aR.w UInt8=1:=rfl
@[go_sem]theorem SC(l:List Int)(i:Int):pad [.int .i64 0] (views (AB.sub (flat l) (i.toNat*1) 1))=[.int .i64 (ix l i)]:=vT _ 1 l i rfl rfl
@[go_sem]theorem ad7(l:List UInt8)(i:Int):pad [.int .u8 0] (views (AB.sub (flat l) (i.toNat*1) 1))=[.int .u8 (ix l i).toNat]:=vT _ 1 l i rfl rfl
def ok{α:Type}(o:Option α)(K:α->Prop):Prop:=∃a,o=some a/\K a
def aH{α:Type}(c:Prop)[Decidable c](o:Option α):Option α:=if c then o else none
def dQ{α:Type}(g:Bool)(z:α)(o:Option α):Option α:=bif g then o else some z
def ba{α β:Type}(o:Option α)(f:α->Option β):Option β:=match o with
 |some a=>f a
 |none=>none
def bU{S O:Type}(body:S->Option (S⊕O)):Nat->S->Option O
 |0,_=>none
 |n+1,s=>match body s with
  |none=>none
  |some (.inl t)=>bU body n t
  |some (.inr o)=>some o
def iter{S O:Type}(body:S->Option (S⊕O))(s:S):Option O:=bU body 18446744073709551616 s
def jy{A B C:Type}(f:A->C)(g:B->C):A⊕B->C
 |.inl a=>f a
 |.inr b=>g b
section
variable{α β:Type}(K:α->Prop)
@[go_sem]theorem aP(a:α):ok (some a) K=K a:=by simp[ok]
@[go_sem]theorem ok_none:ok none K=False:=by simp[ok]
@[go_sem]theorem fM(c:Prop)[Decidable c](o:Option α):ok (aH c o) K=(c/\ok o K):=by
  unfold aH
  by_cases h:c<;>simp[h,ok]
@[go_sem]theorem eF(o:Option β)(f:β->Option α):ok (ba o f) K=ok o (fun b=>ok (f b) K):=by cases o<;>simp[ba,ok]
@[go_sem]theorem Wv(c:Bool)(a b:Option α):ok (if c=true then a else b) K=((c=true->ok a K)/\(c=false->ok b K)):=by cases c<;>simp
theorem Sw(g:Bool)(z:α)(o:Option α):ok (dQ g z o) K=∃a,(g=true->o=some a)/\(g=false->a=z)/\K a:=by cases g<;>simp[dQ,ok]
@[go_sem]theorem iY{A B C:Type}(f:A->C)(g:B->C)(a:A):jy f g (.inl a)=f a:=rfl
@[go_sem]theorem sQ{A B C:Type}(f:A->C)(g:B->C)(b:B):jy f g (.inr b)=g b:=rfl
end
theorem b9{A B C D:Prop}(h:A->C)(k:B->D):A/\B->C/\D:=fun x=>⟨h x.1,k x.2⟩
theorem dT{p A B:Prop}(h:A->B):(p->A)->p->B:=fun x y=>h (x y)
theorem dh{A:Prop}:A->A:=fun h=>h
variable{P:Program}
theorem ax{β:Type}{o:Option β}{kf:β->Prop}{f:FuncId}{as1:List AV}{s:ab}{enc:β->List AV}{Q:List AV->ab->Prop}
 (hf:∀r,o=some r->FE P f as1 s (enc r) s)(hk:∀r,kf r->Q (enc r) s):ok o kf->FN P f as1 s Q:=fun⟨r,h,k⟩=>FE.app (hf r h) (hk r k)
theorem dF{β:Type}{o:Option β}{kf:β->Prop}{f:FuncId}{as1:List AV}{s:ab}{enc:β->List AV}{Q:List AV->Prop}
 (hf:∀r,o=some r->FE P f as1 s (enc r) s)(hr:∀r,iw (enc r)=true)(hk:∀r,kf r->Q (enc r)):ok o kf->∃rs,iw rs=true/\FE P f as1 s rs s/\Q rs:=
 fun⟨r,h,k⟩=>⟨enc r,hr r,hf r h,hk r k⟩
theorem c8{β:Type}{g:Bool}{z:β}{o:Option β}{kf:β->Prop}{f:FuncId}{as1:Option (List AV)}{as2:List AV}{s:ab}{enc:β->List AV}{Q:List AV->Prop}
 (ha:as1=some as2)(hf:∀r,o=some r->FE P f as2 s (enc r) s)(hr:∀r,iw (enc r)=true)(hk:∀r,kf r->Q (enc r)):
 ok (dQ g z o) kf->∃rs,iw rs=true/\(g=true->∃as2,as1=some as2/\FE P f as2 s rs s)/\Q rs:=fun h=>by
 rw[Sw]at h
 obtain⟨r,h1,_,k⟩:=h
 exact⟨enc r,hr r,fun hg=>⟨as2,ha,hf r (h1 hg)⟩,hk r k⟩
def okj{α:Type}(o:Option α)(K:α->Prop):Prop:=ok o K
def jn{α β:Type}(o:Option α)(f:α->Option β):Option β:=ba o f
@[go_sem]theorem aeW{α β:Type}(K:α->Prop)(o:Option β)(f:β->Option α):ok (jn o f) K=okj o (fun b=>ok (f b) K):=eF ..
theorem dI{X:Type}{M:Option X}{kf:X->Prop}{live:List (Nat×Bool)}{a b:IC}{Q:Exit->St->Prop}{E:St}(enc:X->St)
 (ha:∀J:St->Prop,ok M (fun x=>J (enc x))->fN P a (nA live J Q) E)(hb:∀x,kf x->fN P b Q (enc x)):okj M kf->fN P (.join live a b) Q E:=fun⟨x,h,k⟩=>
 ⟨fun τ=>∃x,τ=enc x/\kf x,ha _ ⟨x,h,x,rfl,k⟩,fun _⟨x,e,k⟩=>e▸hb x k⟩
theorem pP{S O:Type}{body:S->Option (S⊕O)}{s:S}{K:O->Prop}:¬ok (bU body 0 s) K:=fun⟨_,h,_⟩=>by cases h
theorem pO{S O:Type}{body:S->Option (S⊕O)}{n:Nat}{s:S}{K:O->Prop}(h:ok (bU body (n+1) s) K):ok (body s) (jy (fun t=>ok (bU body n t) K) K):=by
 obtain⟨o,h,k⟩:=h
 unfold bU at h
 cases hb:body s with
 |none=>rw[hb]at h;cases h
 |some x=>
  rw[hb]at h
  cases x with
  |inl t=>exact⟨_,rfl,⟨o,h,k⟩⟩
  |inr o'=>cases h;exact⟨_,rfl,k⟩
theorem vh{live:List (Nat×Bool)}{I:St->Prop}{μ:St->Nat}{m:Nat}{Q:Exit->St->Prop}:E6 live I μ m Q=nA live (fun ρ=>I ρ/\μ ρ<m) Q:=by funext x ρ;cases x<;>rfl
theorem ch{S O:Type}{body:S->Option (S⊕O)}{s0:S}{kf:O->Prop}{live:List (Nat×Bool)}{b:IC}{Q:Exit->St->Prop}{E:St}(enc:S->St)
 (h0:E.df live=enc s0)
 (hb:∀(J:St->Prop)(s:S),ok (body s) (jy (fun t=>J (enc t)) kf)->fN P b (nA live J Q) (enc s)):ok (iter body s0) kf->fN P (.loop live b) Q E:=by
 intro h
 have v7:∀τ,(∃m s,τ=enc s/\ok (bU body m s) kf)->∃m,(∃s,τ=enc s/\ok (bU body m s) kf)/\∀k,k<m->¬∃s,τ=enc s/\ok (bU body k s) kf:=by
  rintro τ ⟨m,s,h⟩
  induction m using Nat.strongRecOn generalizing s with
  |_ m ih=>
   by_cases hk:∃k,k<m/\∃s,τ=enc s/\ok (bU body k s) kf
   ·obtain⟨k,hk,s',h'⟩:=hk
    exact ih k hk s' h'
   ·exact⟨m,⟨s,h⟩,fun k hk' hs=>hk ⟨k,hk',hs⟩⟩
 have hμ:∃μ:St->Nat,∀τ,(∃m s,τ=enc s/\ok (bU body m s) kf)->(∃s,τ=enc s/\ok (bU body (μ τ) s) kf)/\∀k,k<μ τ->¬∃s,τ=enc s/\ok (bU body k s) kf:=by exact⟨fun τ=>Classical.epsilon fun m=>(∃s,τ=enc s/\ok (bU body m s) kf)/\∀k,k<m->¬∃s,τ=enc s/\ok (bU body k s) kf,fun τ hτ=>Classical.epsilon_spec (v7 τ hτ)⟩
 obtain⟨μ,hμ⟩:=hμ
 refine⟨fun τ=>∃m s,τ=enc s/\ok (bU body m s) kf,μ,?_,?_⟩
 ·exact⟨_,s0,h0,h⟩
 ·intro τ hτ
  obtain⟨⟨s,e,hs⟩,_⟩:=hμ τ hτ
  generalize hm:μ τ=m at hs
  cases m with
  |zero=>exact(pP hs).elim
  |succ m=>
   subst e
   rw[vh]
   obtain⟨x,hx,k⟩:=pO hs
   refine hb _ s ⟨x,hx,?_⟩
   cases x with
   |inr o=>exact k
   |inl t=>
    refine⟨⟨m,t,rfl,k⟩,?_⟩
    have h2:=(hμ (enc t) ⟨m,t,rfl,k⟩).2
    rcases Nat.lt_or_ge m (μ (enc t))with hlt|hge
    ·exact(h2 m hlt ⟨t,rfl,k⟩).elim
    ·omega
theorem L6{S O:Type}{body:S->Option (S⊕O)}{s0:S}{kf:O->Prop}{live:List (Nat×Bool)}{l:Nat}{r:IC}{Q:Exit->St->Prop}{E:St}(enc:S->St)
 (h0:E=enc s0)
 (hb:∀(J:St->Prop)(s:S),ok (body s) (jy (fun t=>J (enc t)) kf)->fN P r (KL l live J Q) (enc s)):ok (iter body s0) kf->Sc P l live r Q E:=by
 intro h
 have v7:∀τ,(∃m s,τ=enc s/\ok (bU body m s) kf)->∃m,(∃s,τ=enc s/\ok (bU body m s) kf)/\∀k,k<m->¬∃s,τ=enc s/\ok (bU body k s) kf:=by
  rintro τ ⟨m,s,h⟩
  induction m using Nat.strongRecOn generalizing s with
  |_ m ih=>
   by_cases hk:∃k,k<m/\∃s,τ=enc s/\ok (bU body k s) kf
   ·obtain⟨k,hk,s',h'⟩:=hk
    exact ih k hk s' h'
   ·exact⟨m,⟨s,h⟩,fun k hk' hs=>hk ⟨k,hk',hs⟩⟩
 have hμ:∃μ:St->Nat,∀τ,(∃m s,τ=enc s/\ok (bU body m s) kf)->(∃s,τ=enc s/\ok (bU body (μ τ) s) kf)/\∀k,k<μ τ->¬∃s,τ=enc s/\ok (bU body k s) kf:=by exact⟨fun τ=>Classical.epsilon fun m=>(∃s,τ=enc s/\ok (bU body m s) kf)/\∀k,k<m->¬∃s,τ=enc s/\ok (bU body k s) kf,fun τ hτ=>Classical.epsilon_spec (v7 τ hτ)⟩
 obtain⟨μ,hμ⟩:=hμ
 refine⟨fun τ=>∃m s,τ=enc s/\ok (bU body m s) kf,μ,?_,?_⟩
 ·exact⟨_,s0,h0,h⟩
 ·intro τ hτ
  obtain⟨⟨s,e,hs⟩,_⟩:=hμ τ hτ
  generalize hm:μ τ=m at hs
  cases m with
  |zero=>exact(pP hs).elim
  |succ m=>
   subst e
   obtain⟨x,hx,k⟩:=pO hs
   refine hb _ s ⟨x,hx,?_⟩
   cases x with
   |inr o=>exact k
   |inl t=>
    refine⟨⟨m,t,rfl,k⟩,?_⟩
    have h2:=(hμ (enc t) ⟨m,t,rfl,k⟩).2
    rcases Nat.lt_or_ge m (μ (enc t))with hlt|hge
    ·exact(h2 m hlt ⟨t,rfl,k⟩).elim
    ·omega
def kU{X Y α:Type}(M:Option (X⊕Y))(F:X->Option α)(G:Y->Option α):Option α:=match M with
 |some (.inl x)=>F x
 |some (.inr y)=>G y
 |none=>none
@[go_sem]theorem Sv{X Y α:Type}(M:Option (X⊕Y))(F:X->Option α)(G:Y->Option α)(K:α->Prop):ok (kU M F G) K=ok M (jy (fun x=>ok (F x) K) (fun y=>ok (G y) K)):=by
  cases M with
  |none=>simp[kU,ok]
  |some x=>cases x<;>simp[kU,ok,jy]
def oU{X Y α:Type}(M:Option (X⊕Y))(F:X->Option α)(G:Y->Option α):Option α:=kU M F G
@[go_sem]theorem ad5{X Y α:Type}(M:Option (X⊕Y))(F:X->Option α)(G:Y->Option α)(K:α->Prop):ok (oU M F G) K=okj M (jy (fun x=>ok (F x) K) (fun y=>ok (G y) K)):=Sv ..
theorem bV{X Y:Type}{M:Option (X⊕Y)}{kf:X->Prop}{kr:Y->Prop}{live:List (Nat×Bool)}{a b:IC}{Q:Exit->St->Prop}{E:St}(enc:X->St)
 (ha:∀J:St->Prop,ok M (jy (fun x=>J (enc x)) kr)->fN P a (nA live J Q) E)(hb:∀x,kf x->fN P b Q (enc x)):okj M (jy kf kr)->fN P (.join live a b) Q E:=fun⟨x,h,k⟩=>by
 refine⟨fun τ=>∃x,τ=enc x/\kf x,ha _ ⟨x,h,?_⟩,fun _⟨x,e,k⟩=>e▸hb x k⟩
 cases x with
 |inl x=>exact⟨x,rfl,k⟩
 |inr y=>exact k
@[go_sem]theorem MN(c:UInt8):byteOf (.int .u8 c.toNat)=some c:=by
  unfold byteOf
  have:=c.toNat_lt
  simp only[Int.natCast_nonneg,true_and,Int.toNat_natCast]
  rw[if_pos (by omega)]
  simp
@[go_sem]theorem FT:∀l:List UInt8,bytesOf (flat l)=some l
  |[]=>rfl
  |c::l=>by
   rw[ml]
   show OF (byteOf (.int .u8 c.toNat)) (bytesOf (flat l))=_
   rw[MN,FT l];rfl
def ao(n:Int):Int:=IntKind.i64.wrap n
def oq(n:Int):UInt8:=UInt8.ofNat (IntKind.u8.wrap n).toNat
def Td(n:Int):UInt64:=UInt64.ofNat (IntKind.u64.wrap n).toNat
@[go_sem]theorem ab0(n:Int):lS .i64 n=ao n:=rfl
theorem QZ(k:IntKind)(n:Int)(hk:k.signed=false):k.wrap n=n % (2^k.bits:Int):=by
 unfold IntKind.wrap
 simp[hk]
@[go_sem]theorem wrap_u8(n:Int):lS .u8 n=(oq n).toNat:=by
  show IntKind.u8.wrap n=((UInt8.ofNat (IntKind.u8.wrap n).toNat).toNat:Int)
  rw[QZ _ _ rfl,UInt8.toNat_ofNat']
  have:(2^IntKind.u8.bits:Int)=256:=by decide
  rw[this]
  omega
@[go_sem]theorem wrap_u64(n:Int):lS .u64 n=(Td n).toNat:=by
  show IntKind.u64.wrap n=((UInt64.ofNat (IntKind.u64.wrap n).toNat).toNat:Int)
  rw[QZ _ _ rfl,UInt64.toNat_ofNat']
  have:(2^IntKind.u64.bits:Int)=18446744073709551616:=by decide
  rw[this]
  omega
def S4(k:IntKind)(a b:Int):Int:=a.fdiv (2^(min b.toNat k.bits))
@[go_sem]theorem Y5(k k':IntKind)(a b:Int):xM .shr k k' a b=.prt (0<=b) (.int k (S4 k a b)):=rfl
@[go_sem]theorem acg(l:List UInt8)(k:Int):l.getD k.toNat 0=ix l k:=rfl
@[go_sem]theorem acB(l:List UInt8)(lo hi:Int):(l.drop lo.toNat).take (hi -lo).toNat=part l lo hi:=rfl
attribute[go_sem] List.length_append true_or or_true eq_self_iff_true imp_self Bool.cond_true_left Bool.cond_false_right and_self and_true
def mv(d x:Nat):ai:=⟨some d,.iJ false (.t x),none⟩
def mt(d x:Nat):ai:=⟨some d,.iJ true (.t x),none⟩
def bK(d x t:Nat)(w:Bool):ai:=⟨some d,.iJ false (.t x),some (t,w)⟩
def mtg(d x t:Nat)(w:Bool):ai:=⟨some d,.iJ true (.t x),some (t,w)⟩
def i1(d:Nat)(o:qT):ai:=⟨some d,o,none⟩
def b6(d t:Nat)(w:Bool)(o:qT):ai:=⟨some d,o,some (t,w)⟩
def i0(o:qT):ai:=⟨none,o,none⟩
def i0g(t:Nat)(w:Bool)(o:qT):ai:=⟨none,o,some (t,w)⟩
attribute[go_sem] mv mt bK mtg i1 b6 i0 i0g
@[go_sem]theorem abB(a:AV)(l:List AV)(off n:Nat):AB.sub (a::l) off n=((a::l).drop off).take n:=rfl
attribute[go_sem] xW OW
@[go_sem]theorem Wc(E:St)(b:Bool)(a:AV)(d:Option Nat):bI E (.when b a) d=bI E a d:=by rw[bI]
end Go.AB
end
section
namespace Go.AB
open Go
def qD(t s:ab):Prop:=∀b o,t b=some o->s b=some o
theorem qD.refl(s:ab):qD s s:=fun _ _ h=>h
theorem qD.trans{a b c:ab}(h:qD a b)(k:qD b c):qD a c:=fun x o hx=>k x o (h x o hx)
theorem qD.set{t s:ab}{b:Nat}{o:SO}(h:qD t s)(hb:t b=none):qD t (s.set b o):=fun c p hc=>by
 unfold ab.set
 by_cases hcb:c=b
 ·subst hcb;rw[hb]at hc;cases hc
 ·rw[if_neg hcb];exact h c p hc
theorem qD.mono{t s:ab}{b:Nat}{o:SO}(h:qD t s):qD (t.set b o) (s.set b o):=fun c p hc=>by
 unfold ab.set at hc⊢
 by_cases hcb:c=b
 ·rw[if_pos hcb]at hc⊢;exact hc
 ·rw[if_neg hcb]at hc⊢;exact h c p hc
variable{P:Program}
theorem FN.forget{f:FuncId}{args:List AV}{s:ab}{Q:List AV->ab->Prop}(h:FN P f args s fun rs t=>∃t',qD t' t/\Q rs t'):FN P f args s Q:=by
 intro G w vs h1 h2 h3 h4
 refine(h G w vs h1 h2 h3 h4).mono fun e w'⟨v,rs,s',G',a1,⟨t',ht,hq⟩,a3,a4,a5⟩=>⟨v,rs,t',G',a1,hq,a3,fun b o hb=>a4 b o (ht b o hb),a5⟩
theorem bc(s:ab)(b:Nat)(o:SO):(s.set b o) b=some o:=by simp[ab.set]
theorem aW{s:ab}{b c:Nat}{o:SO}(h:c≠b):(s.set b o) c=s c:=by simp[ab.set,h]
theorem set_set(s:ab)(b:Nat)(o p:SO):(s.set b o).set b p=s.set b p:=by funext c;unfold ab.set;by_cases h:c=b<;>simp[h]
theorem set_comm{a b:Nat}(h:a≠b){s:ab}{o p:SO}:(s.set b p).set a o=(s.set a o).set b p:=by
 funext c;unfold ab.set
 by_cases ha:c=a
 ·subst ha;simp[h]
 ·simp[ha]
theorem Xd{s:ab}{b:Nat}{o:SO}(h:s b=some o):s=s.set b o:=by
 funext c;unfold ab.set
 by_cases hc:c=b
 ·subst hc;simp[h]
 ·simp[hc]
theorem eW{s:ab}{b:Nat}{o:SO}(h:s b=some o):s.set b o=s:=(Xd h).symm
theorem eU(s:ab)(b c:Nat)(o:SO):((s.set b o) c=none)=(c≠b/\s c=none):=by
 unfold ab.set
 by_cases hc:c=b<;>simp[hc]
attribute[go_sem] bc set_set
theorem cu{α:Type}{o:Option α}{K K':α->Prop}(h:ok o K)(hk:∀r,K r->K' r):ok o K':=h.imp fun r⟨h1,h2⟩=>⟨h1,hk r h2⟩
section
variable(Q:Exit->St->Prop)(E τ:St)
end
def AS(sz len n:Nat)(x:IX):AV->PR
 |.lp d o=>.prt (n+1<=len) (.lp d (o+n*sz))
 |.sp cs=>bif decide (len*sz<=cs.length)then .prt (n+1<=len) (.sp (cs.drop (n*sz)))else .no
 |.ref b o=>.prt (n+1<=len) (.ref b (o+n*sz))
 |.loc _=>Sg (n+1<=len) (n*sz) x
 |_=>.no
attribute[go_sem] AS.eq_1 AS.eq_2 AS.eq_3 AS.eq_4
@[go_sem]theorem Xc(a:AV)(l:List AV)(off:Nat)(news:List AV):setAt (a::l) off news=(a::l).take off++news++(a::l).drop (off+news.length):=rfl
@[go_sem]theorem aaS(z:List AV)(a:AV)(l:List AV):pad z (a::l)=bif(a::l).length==z.length then a::l else z:=rfl
@[go_sem]theorem Qt{α:Type}[aR α](n:Nat)(z:α):(List.replicate n (aR.cells z)).flatten=flat (List.replicate n z):=by simp[flat]
section
variable{d d':Option Nat}{K:St->Prop}{E:St}{b off:Nat}{news dJ:List AV}
@[go_sem]theorem acY:JY d K (Tl E b (dt off news dJ))=(off+news.length<=dJ.length/\K (({E with s:=E.s.set b (.cells (setAt dJ off news))}:St).put d (.gb []))):=by
  unfold dt
  by_cases h:off+news.length<=dJ.length
  ·simp[h,Tl,JY]
  ·simp[h,Tl,JY]
@[go_sem]theorem acX{i:Nat}:JY d K (Tk E i (dt off news dJ))=(off+news.length<=dJ.length/\K ((E.put (some i) (.loc (setAt dJ off news))).put d (.gb []))):=by
  unfold dt
  by_cases h:off+news.length<=dJ.length
  ·simp[h,Tk,JY]
  ·simp[h,Tk,JY]
end
@[go_sem]theorem Ua(n:Nat):(((no_index (OfNat.ofNat n)):Nat):Int)=OfNat.ofNat n:=rfl
def ado{κ ν:Type}(ek:κ->AV)(ev:ν->AV)(m:List (κ×ν)):List (AV×AV):=m.map fun p=>(ek p.1,ev p.2)
section
variable{κ ν:Type}[BEq κ]{ek:κ->AV}{ev:ν->AV}
end
theorem oW(a b:Int):rW (.int .i64 a) (.int .i64 b)=(a==b):=by simp[rW,cellsOf,pQ,PJ]
attribute[go_sem] s9.eq_1
theorem bG{κ ν:Type}(ek:κ->AV)(ev:ν->AV):ado ek ev []=[]:=rfl
@[go_sem]theorem aej(n:Nat):(List.replicate n [AV.int .u8 0]).flatten=flat (List.replicate n (0:UInt8)):=Qt n (0:UInt8)
end Go.AB
end
section
namespace Go.AB
open Go
attribute[go_sem] start qc kC qS Qv Bm Hx Nat.ble_eq
theorem mix:Go.Proofs.Tryz.prog.follows .mixedOrders=true:=by kernel_rfl
theorem FO{f n:Nat}{res:List mw}{ic:IC}{args:List AV}{s:ab}{Q:List AV->ab->Prop}(hf:aY Go.Proofs.Tryz.prog f n res ic=true)(hv:Bm args=true)(hn:Nat.ble args.length n=true)(hw:fN Go.Proofs.Tryz.prog ic (Hx res Q) (start args s)):FN Go.Proofs.Tryz.prog f args s Q:=FN.of (lY mix) hf hv (Nat.le_of_ble_eq_true hn) hw
end Go.AB
end
