/- A part of the proof: Ab22b, Ab23, Ty1, Ty2, Ty3, Mix2. -/
import Derived.Test.YtkeagffgdajggaaGreatNu9
import Derived.Test.YtkeagffgdajggaaGreatNu8
import Derived.ProofKit
import Derived.Test.YtkeagffgdajggaaGreatNu2
import Derived.Test.YtkeagffgdajggaaGreatProg
import Derived.KernelRfl
set_option linter.unusedSimpArgs false
set_option linter.unusedVariables false
section
namespace Go.AB
open Go
section
variable{P:Program}{G G':Gh}{n:Nat}{D:List Deferred}{E E':St}{a:Act}{w w':World}{T:List Nat}
def wH(a:AV):Prop:=bg a=true/\∀t,¬bB a t
theorem QD{f:Nat}{s:ab}{C C':AV->ab->Prop}(hc:∀a s',wH a->C a s'->C' a s'):∀{o:Option (List AV)},BH P f s C o->BH P f s C' o
 |some _,h=>FN.mono (P:=P) h fun rs s'⟨h1,h2⟩=>⟨h1,hc _ _ ⟨qu h1,xj h1⟩ h2⟩
 |none,h=>h
theorem N4{s:ab}{C C':AV->ab->Prop}(hc:∀a s',wH a->C a s'->C' a s'){o:Option (List AV)}{x:AV}(h:wS P o s C x):wS P o s C' x:=by
 unfold wS at h⊢
 split at h
 ·unfold NZ at h⊢
  split at h
  ·exact⟨h.1,FN.mono (P:=P) h.2 fun rs s'⟨h1,h2⟩=>⟨h1,hc _ _ ⟨qu h1,xj h1⟩ h2⟩⟩
  ·exact h
 ·exact h
theorem Ll(b o l c:Nat):wH (.arr b o l c):=⟨rfl,fun _ h=>h⟩
theorem Ln(b o:Nat):wH (.ref b o):=⟨rfl,fun _ h=>h⟩
theorem Yp(b:Nat):wH (.mp b):=⟨rfl,fun _ h=>h⟩
theorem Lo(l:List AV):wH (.gw l):=⟨rfl,fun _ h=>h⟩
theorem z8{o:ua}{C C':AV->ab->Prop}(hc:∀a s',wH a->C a s'->C' a s')(h:ud P o E C):ud P o E C':=by
 cases o<;>first|(exact h.elim)|skip
 case call f args=>exact QD hc h
 case cu x args=>exact N4 hc h
 case makeMap=>exact fun b hb=>hc _ _ (Yp b) (h b hb)
 case gC z=>exact fun b hb=>hc _ _ (Ln b 0) (h b hb)
 case oz m x=>exact⟨h.1,h.2.1,fun b hb=>hc _ _ (Ln b 0) (h.2.2 b hb)⟩
 case fO sz by' z l c=>
  have h:su by' z E.s C (xg true E l) (xg true E c):=h
  show su by' z E.s C' (xg true E l) (xg true E c)
  unfold su at h⊢
  split at h
  ·exact⟨h.1,h.2.1,h.2.2.1,fun b hb=>hc _ _ (Ll ..) (h.2.2.2 b hb)⟩
  ·exact h
 case store m p v=>
  have h:qd m E.s C (E.x v) (E.x p):=h
  show qd m E.s C' (E.x v) (E.x p)
  unfold qd at h⊢
  split at h
  ·refine⟨h.1,h.2.1,h.2.2.1,?_⟩
   have h4:=h.2.2.2
   unfold N5 at h4⊢
   split at h4
   ·exact⟨h4.1,hc _ _ (Lo _) h4.2⟩
   ·exact h4
  ·exact h
 case jh x=>
  have h:uG E.s C (E.x x):=h
  show uG E.s C' (E.x x)
  unfold uG at h⊢
  split at h
  ·unfold z7 at h⊢
   split at h
   ·unfold si at h⊢
    split at h
    ·exact hc _ _ ⟨rfl,fun _ h=>h⟩ h
    ·exact hc _ _ ⟨rfl,fun _ h=>h⟩ h
    ·exact h
   ·exact h
  ·exact h
 case mapUpdate kk x k v=>
  have h:Ki kk E.s (xg true E k) (xg true E v) C (xg true E x):=h
  show Ki kk E.s (xg true E k) (xg true E v) C' (xg true E x)
  unfold Ki at h⊢
  split at h
  ·unfold QE at h⊢
   split at h
   ·exact⟨h.1,hc _ _ (Lo _) h.2⟩
   ·exact h
  ·exact h
theorem Fs{o:ua}{C:AV->ab->Prop}(hx:∀x∈di o,E.x x=E'.x x)(hs:E.s=E'.s)(h:ud P o E C):ud P o E' C:=by
 have hg:∀x∈di o,xg true E x=xg true E' x:=fun x h=>by unfold xg;rw[hx x h]
 cases o<;>first|(exact h.elim)|skip
 case call f args=>
  show BH P f E'.s C (bZ (xg true E') args)
  rw[<-hs,<-fT args hg];exact h
 case cu x args=>
  show wS P (bZ (xg true E') args) E'.s C (xg true E' x)
  rw[<-hs,<-fT args fun y hy=>hg y (List.mem_cons_of_mem _ hy),<-hg x List.mem_cons_self];exact h
 case makeMap=>rw[ud,<-hs];exact h
 case gC z=>rw[ud,<-hs];exact h
 case oz m x=>rw[ud,<-hs,<-hg x List.mem_cons_self];exact h
 case fO sz by' z l c=>rw[ud,<-hs,<-hg l (by simp[di]),<-hg c (by simp[di])];exact h
 case store m p v=>rw[ud,<-hs,<-hx p (by simp[di]),<-hx v (by simp[di])];exact h
 case jh x=>rw[ud,<-hs,<-hx x List.mem_cons_self];exact h
 case mapUpdate kk x k v=>rw[ud,<-hs,<-hg x (by simp[di]),<-hg k (by simp[di]),<-hg v (by simp[di])];exact h
theorem Sg{a:AV}(h:PI a=true)(hv:dt a=true):view a=a:=by
 cases a<;>first|rfl|skip
 ·rename_i o z m cs
  cases o
  ·rfl
  ·cases h
 ·cases hv
 ·cases hv
 ·cases h
theorem ma.put(h:ma E E')(d:Option Nat)(v:AV):ma (E.put d v) (E'.put d v):=by
 cases d with
 |none=>exact h
 |some d=>exact⟨fun i=>by show look ((d,v)::E.e) i=look ((d,v)::E'.e) i;rw[aM,aM,h.e],h.lp,h.s⟩
theorem ma.Qp(h:ma E E')(s:ab):ma {E with s:=s} {E' with s:=s}:=⟨h.e,h.lp,rfl⟩
theorem TV{x:IX}(h:view (E.x x)=E.x x):ma (E.drain x) E:=by
 cases x with
 |c a=>exact ma.refl _
 |t i=>
  refine⟨fun j=>?_,fun _=>Iff.rfl,rfl⟩
  show look ((i,view (look E.e i))::E.e) j=_
  rw[aM]
  by_cases e:i=j
  ·subst e;simp;exact h
  ·simp[e]
theorem YU{o:ah}{K:St->Prop}(hK:∀U U',ma U U'->K U->K U')(h:Vj P o E K):Qr P o E K:=by
 obtain⟨d,op,g⟩:=o
 cases g with
 |some _=>exact h.elim
 |none=>
 replace h:=h.2
 cases op<;>first|(exact h.elim)|skip
 case call f args=>
  show uJ P f E d K (bZ (xg true E) args)
  have h:BH P f E.s (U3 E d K) (bZ (xg true E) args):=h
  cases hh:bZ (xg true E) args<;>rw[hh]at h<;>exact h
 case cu x args=>
  show yM P E (bZ (xg true E) args) d K (xg true E x)
  have h:wS P (bZ (xg true E) args) E.s (U3 E d K) (xg true E x):=h
  cases hh:bZ (xg true E) args<;>cases hx:xg true E x<;>rw[hh,hx]at h<;>exact h
 case makeMap=>exact h
 case gC z=>exact h
 case oz m x=>exact h
 case fO sz by' z l c=>
  show xa by' z E d K (xg true E l) (xg true E c)
  have h:su by' z E.s (U3 E d K) (xg true E l) (xg true E c):=h
  cases hl:xg true E l<;>cases hc:xg true E c<;>rw[hl,hc]at h<;>exact h
 case store m p v=>
  show Np m E p v d K (E.x v)
  have h:qd m E.s (U3 E d K) (E.x v) (E.x p):=h
  unfold qd at h
  split at h
  ·rename_i b off hp
   obtain⟨h1,h2,h3,h4⟩:=h
   refine⟨h1,h3,?_⟩
   have hd:=TV (Sg h2 h1)
   rw[hp]
   show Qv d K (Si (E.drain v) b off (aZ (E.x v)) ((E.drain v).s b))
   rw[hd.s]
   unfold N5 at h4
   split at h4
   ·rename_i ez ho
    rw[ho]
    show Qv d K (wrS (E.drain v) b (eb off (aZ (E.x v)) ez))
    unfold eb
    rw[decide_eq_true h4.1]
    refine hK _ _ ?_ h4.2
    have e:ma {E with s:=E.s.set b (.cells (setAt ez off (aZ (E.x v))))} {E.drain v with s:=(E.drain v).s.set b (.cells (setAt ez off (aZ (E.x v))))}:=by rw[hd.s];exact hd.symm.Qp _
    exact e.put d _
   ·exact h4.elim
  ·exact h.elim
 case jh x=>
  show pL E d K (E.x x)
  have h:uG E.s (U3 E d K) (E.x x):=h
  unfold uG at h
  split at h
  ·rename_i b off hx
   rw[hx]
   unfold pL
   simp only
   unfold z7 at h
   split at h
   ·rename_i cs he
    first|exact h|(rw[he];exact h)
   ·exact h.elim
  ·exact h.elim
 case mapUpdate kk x k v=>
  show xb kk E (xg true E k) (xg true E v) d K (xg true E x)
  have h:Ki kk E.s (xg true E k) (xg true E v) (U3 E d K) (xg true E x):=h
  unfold Ki at h
  split at h
  ·rename_i b hx
   rw[hx]
   show U0 kk b E (xg true E k) (xg true E v) d K (E.s b)
   unfold QE at h
   split at h
   ·rename_i es he
    rw[he];exact h
   ·exact h.elim
  ·exact h.elim
theorem ad1{o:ah}{g:Bool}(h:nS o E=true)(s:ab):pv o.op (xg g {E with s:=s}) {E with s:=s}=pv o.op (xg g E) E:=by
 have hf:xg g {E with s:=s}=xg g E:=by funext x;cases x<;>rfl
 rw[hf]
 obtain⟨d,op,gg⟩:=o
 cases op<;>first|rfl|skip
 case jL tr x=>cases tr<;>rfl
 case slice sz x lo hi mx=>cases mx<;>rfl
 case load m multi x=>
  have h:mj (E.x x)=true:=h
  have hn:mj (xg g E x)=true:=by
   unfold xg zP
   split
   ·rename_i b a hb
    rw[hb]at h
    cases hc:((b==g)||b)&&inner a
    ·rfl
    ·exact h
   ·exact h
  show jF multi (rd {E with s:=s} (xg g E x) m)=jF multi (rd E (xg g E x) m)
  cases he:xg g E x<;>first|rfl|(rw[he]at hn;cases hn)
 case bf z m x=>cases h
 case mh k x=>cases h
 case len c x=>
  have h:(!Nat.beq c 2)=true:=h
  show D7 s c (xg g E x)=D7 E.s c (xg g E x)
  match c,h with
  |0,_=>cases xg g E x<;>rfl
  |1,_=>cases xg g E x<;>rfl
  |c+3,_=>cases xg g E x<;>rfl
theorem alA{o:ah}(h:nS o E=true)(s:ab):qv o {E with s:=s}=qv o E:=by
 unfold qv
 split
 ·exact ad1 h s
 ·rename_i t want _
  show PW o.op want {E with s:=s} (look E.e t)=PW o.op want E (look E.e t)
  unfold PW
  split
  ·show U9 _ _ _=U9 _ _ _
   rw[ad1 h s]
  ·show U9 _ _ _=U9 _ _ _
   rw[ad1 h s]
  ·rfl
theorem aef{o:ah}(h:nS o E=true)(s:ab)(f:IX->AV):qe f s o.op=qe f E.s o.op:=by
 obtain⟨d,op,gg⟩:=o
 cases op<;>first|rfl|(cases h;done)
theorem aiy{o:ah}(h:nS o E=true)(s:ab):Dv o {E with s:=s}=Dv o E:=by
 have hf:∀g,xg g {E with s:=s}=xg g E:=fun g=>by funext x;cases x<;>rfl
 unfold Dv
 split
 ·rw[hf];exact aef h s _
 ·rename_i t want _
  show Qt o.op want {E with s:=s} (look E.e t)=Qt o.op want E (look E.e t)
  unfold Qt
  split
  ·show Qo _ (qe (xg _ {E with s:=s}) s o.op)=Qo _ _
   rw[hf,aef h s]
  ·show Qo _ (qe (xg _ {E with s:=s}) s o.op)=Qo _ _
   rw[hf,aef h s]
  ·rfl
theorem te(d:Option Nat)(s:ab):aR {E with s:=s} d=aR E d:=by cases d<;>rfl
theorem Y2.Qp{o:ah}{v:AV}(hy:Y2 P E o v)(h:nS o E=true)(s:ab):Y2 P {E with s:=s} o v:=by
 cases hy with
 |ez _ _ h0 hf hv hy=>
  refine .ez o v h0 (by rw[te];exact hf) hv ?_
  cases hy with
  |pure _ _ hq=>exact .pure o v (by rw[alA h s];exact hq)
  |jL d x hi=>exact .jL (E:={E with s:=s}) d x hi
  |call=>cases h
  |N7=>cases h
  |cu=>cases h
  |FC=>cases h
  |eff _ _ hq=>exact .eff o v (by rw[aiy h s];exact hq)
 |sto m c x ez h0 h1 h2 h3=>exact .sto (E:={E with s:=s}) m c x ez h0 h1 h2 h3
 |alo d z h0 h1=>exact .alo d z h0 h1
 |app d sz bytes x y _ h0 h1=>exact .app d sz bytes x y v h0 h1
 |lod d off i x cs o s' m ds h0 h1 h2 h3 h4=>exact .lod d off i x cs o s' m ds h0 h1 h2 h3 h4
def behind(E:St)(d:Option Nat)(a:AV)(s:ab):St:={E with s:=s}.put d a
theorem nG(E:St)(d:Option Nat)(a:AV)(i:Nat):look (E.put d a).e i=if d=some i then a else look E.e i:=by
 cases d with
 |none=>simp[St.put]
 |some d=>
  show look ((d,a)::E.e) i=_
  rw[aM]
  by_cases e:d=i
  ·subst e;simp
  ·simp[e]
theorem Hq(E:St)(d:Option Nat)(a:AV):(E.put d a).s=E.s/\(E.put d a).lp=E.lp:=by cases d<;>exact⟨rfl,rfl⟩
theorem NX(E:St)(d:Option Nat)(a:AV)(s:ab):(behind E d a s).s=s:=(Hq _ d a).1
theorem vX{d:Option Nat}{l:List Nat}(h:gu d l=true){i:Nat}(hi:i∈l):d≠some i:=fun e=>by
 subst e
 simp[gu]at h
 exact h hi
theorem Ve{y x:ah}(h:apB y x=true):Dt y x=true/\gu (sj y) (ch x)=true/\gu x.dst (ch y)=true/\∀i,sj y=some i->x.dst≠some i:=by
 unfold apB at h
 simp only[Bool.and_eq_true]at h
 refine⟨h.1.1.1,h.1.1.2,h.1.2,fun i hi hd=>?_⟩
 have:=h.2
 rw[hi,hd]at this
 simp at this
theorem Sr{y:ah}{d:Option Nat}{v:AV}(hd:gu d (ch y)=true)(hf:aR E d=true)(hv:bg v=true):NN y E (E.put d v):=by
 have key:∀i,i∈ch y->look E.e i=look (E.put d v).e i:=fun i hi=>by rw[nG,if_neg (vX hd hi)]
 refine⟨fun x hx=>?_,fun t want hg=>key t (List.mem_append_left _ (by rw[hg];exact List.mem_cons_self)),(Hq E d v).1.symm,fun x _ g m=>?_⟩
 ·cases x with
  |c a=>rfl
  |t i=>exact key i (List.mem_append_right _ (gP hx))
 ·cases he:xg g E x<;>try rfl
  ·rename_i b off
   show wh m off (E.s b)=wh m off ((E.put d v).s b)
   rw[(Hq E d v).1]
  ·rename_i c off
   show ml m off (look E.e c)=ml m off (look (E.put d v).e c)
   rw[nG]
   by_cases e:d=some c
   ·rw[if_pos e,jW hv]
    rw[e]at hf
    exact jW hf m off
   ·rw[if_neg e]
theorem UP{y:ah}{d:Option Nat}{v:AV}{s:ab}(hd:gu d (ch y)=true):nS y (behind E d v s)=nS y E:=by
 obtain⟨dd,op,g⟩:=y
 cases op<;>first|rfl|skip
 rename_i m mu x
 show mj ((behind E d v s).x x)=mj (E.x x)
 cases x with
 |c a=>rfl
 |t i=>
  show mj (look (behind E d v s).e i)=mj (look E.e i)
  unfold behind
  rw[nG,if_neg (vX hd (List.mem_append_right _ (gP (List.mem_cons_self))))]
theorem Y2.behind{y:ah}{v av:AV}{d:Option Nat}{s:ab}(hy:Y2 P E y v)(h:nS y E=true)(hd:gu d (ch y)=true)(hf:aR E d=true)(hv:wH av)(hne:∀i,sj y=some i->d≠some i):Y2 P (behind E d av s) y v:=by
 have h1:Y2 P {E with s:=s} y v:=hy.Qp h s
 unfold AB.behind
 refine h1.QA (Sr hd (by rw[te];exact hf) hv.1) (fun i hi=>?_) (fun i hi hf=>?_)
 ·rw[nG,if_neg (hne i (wX hi))]
 ·rw[(Hq _ d av).2];exact hf
theorem Y2.aaN{d:Option Nat}{m:Nat}{mu:Bool}{x:IX}{v:AV}{s:ab}(hy:Y2 P E ⟨d,.load m mu x,none⟩ v)(hs:∀b o,E.s b=some o->s b=some o):Y2 P {E with s:=s} ⟨d,.load m mu x,none⟩ v:=by
 have hx:xg true {E with s:=s} x=xg true E x:=by cases x<;>rfl
 have key:qv ⟨d,.load m mu x,none⟩ E≠.no->qv ⟨d,.load m mu x,none⟩ {E with s:=s}=qv ⟨d,.load m mu x,none⟩ E:=by
  show jF mu (rd E (xg true E x) m)≠.no->jF mu (rd {E with s:=s} (xg true {E with s:=s} x) m)=jF mu (rd E (xg true E x) m)
  rw[hx]
  intro hn
  cases he:xg true E x<;>try rfl
  rename_i b off
  rw[he]at hn
  have hn:jF mu (wh m off (E.s b))≠.no:=hn
  show jF mu (wh m off (s b))=jF mu (wh m off (E.s b))
  cases hb:E.s b with
  |none=>rw[hb]at hn;exact absurd rfl hn
  |some o=>rw[hs b o hb]
 cases hy with
 |ez _ _ h0 hf hv hy=>
  refine .ez _ v h0 (by rw[te];exact hf) hv ?_
  cases hy with
  |pure _ _ hq=>
   refine .pure _ v ?_
   rw[key (by rcases hq with h|⟨c,h,_⟩<;>rw[h]<;>exact fun e=>nomatch e)]
   exact hq
  |eff _ _ hq=>rcases hq with h|⟨c,h,_⟩<;>exact nomatch h
theorem KT{y x:ah}(h:Pb y x=true):(∃d m mu p,y=⟨d,.load m mu p,none⟩)/\∃d sz by' z l c g,x=⟨d,.fO sz by' z l c,g⟩:=by
 unfold Pb at h
 split at h
 ·exact⟨⟨_,_,_,_,rfl⟩,⟨_,_,_,_,_,_,_,rfl⟩⟩
 ·cases h
theorem Y2.YV{y x:ah}{v av:AV}{d:Option Nat}{s:ab}(hy:Y2 P E y v)(hl:Pb y x=true)(hs:∀b o,E.s b=some o->s b=some o)(hd:gu d (ch y)=true)(hf:aR E d=true)(hv:wH av)(hne:∀i,sj y=some i->d≠some i):Y2 P (AB.behind E d av s) y v:=by
 have h1:Y2 P {E with s:=s} y v:=by
  obtain⟨⟨d,m,mu,p,rfl⟩,_⟩:=KT hl
  exact hy.aaN hs
 unfold AB.behind
 refine h1.QA (Sr hd (by rw[te];exact hf) hv.1) (fun i hi=>?_) (fun i hi hf=>?_)
 ·rw[nG,if_neg (hne i (wX hi))]
 ·rw[(Hq _ d av).2];exact hf
theorem TM{sz by':Nat}{z:List AV}{l c:IX}{C C':AV->ab->Prop}(hc:∀a s',wH a->(∀b o,E.s b=some o->s' b=some o)->C a s'->C' a s')(h:ud P (.fO sz by' z l c) E C):ud P (.fO sz by' z l c) E C':=by
 have h:su by' z E.s C (xg true E l) (xg true E c):=h
 show su by' z E.s C' (xg true E l) (xg true E c)
 unfold su at h⊢
 split at h
 ·refine⟨h.1,h.2.1,h.2.2.1,fun b hb=>hc _ _ (Ll ..) (fun b' o' h'=>?_) (h.2.2.2 b hb)⟩
  have:b'≠b:=fun e=>by rw[e,hb]at h';cases h'
  simp[ab.set,this,h']
 ·exact h
theorem zZ{y:ah}{v av:AV}{d:Option Nat}{s:ab}(hd:gu d (ch y)=true)(hne:∀i,sj y=some i->d≠some i):ma (bL (behind E d av s) y v) (AB.behind (bL E y v) d av s):=by
 refine⟨fun i=>?_,fun x=>?_,?_⟩
 ·rw[dJ]
  unfold AB.behind
  rw[nG,nG]
  show _=if d=some i then av else look (bL E y v).e i
  rw[dJ]
  by_cases h1:sj y=some i
  ·rw[if_pos h1,if_neg (hne i h1),if_pos h1]
  ·rw[if_neg h1,if_neg h1]
   by_cases h2:d=some i
   ·rw[if_pos h2,if_pos h2]
    refine Kl fun hh=>?_
    exact vX hd (pw hh) h2
   ·rw[if_neg h2,if_neg h2]
 ·rw[iD]
  unfold AB.behind
  rw[(Hq _ d av).2,(Hq _ d av).2]
  show _↔x∈(bL E y v).lp
  rw[iD]
 ·rw[lY,NX,NX]
def bE(P:Program)(T:List Nat):List Item->(St->Prop)->St->Prop
 |[],K,E=>∃U,ma U E/\K U
 |(k,_,o)::r,K,E=>if 3<=k then∃U,ma U E/\Qr P o U (fun ρ=>gI T ρ.e=true/\Kj P T r ρ K)else if 2<=k then aR E o.dst=true/\o.g=none/\ud P o.op E (fun a s=>bE P T r K (behind E o.dst a s))
  else∃v,Y2 P E o v/\Cm T o v/\(k=1->nS o E=true)/\bE P T r K (bL E o v)
theorem Fu{K:St->Prop}:∀(l:List Item)(E:St),Kj P T l E K->bE P T l K E
 |[],E,h=>⟨E,ma.refl _,h⟩
 |(0,_,o)::r,E,h=>by
  obtain⟨v,h1,h2,h3⟩:=MV (show q2 P o E (fun U=>gI T U.e=true/\Kj P T r U K) from h)
  unfold bE
  rw[if_neg (by decide),if_neg (by decide)]
  exact⟨v,h1,Cn fun i c hc=>pO h2 i c hc,fun e=>(by cases e),Fu r _ h3⟩
 |(1,_,o)::r,E,h=>by
  obtain⟨h0,h⟩:=h
  obtain⟨v,h1,h2,h3⟩:=MV (show q2 P o E (fun U=>gI T U.e=true/\Kj P T r U K) from h)
  unfold bE
  rw[if_neg (by decide),if_neg (by decide)]
  exact⟨v,h1,Cn fun i c hc=>pO h2 i c hc,fun _=>h0,Fu r _ h3⟩
 |(k+3,_,o)::r,E,h=>by
  have h:Qr P o E (fun U=>gI T U.e=true/\Kj P T r U K):=h
  unfold bE
  rw[if_pos (by omega)]
  exact⟨E,ma.refl _,h⟩
 |(2,_,o)::r,E,h=>by
  have h:Vj P o E (fun U=>gI T U.e=true/\Kj P T r U K):=h
  unfold bE
  rw[if_neg (by decide),if_pos (by decide)]
  unfold Vj at h
  split at h
  ·rename_i hg
   exact⟨h.1,hg,z8 (fun a s _ hk=>Fu r _ hk.2) h.2⟩
  ·exact h.elim
theorem UO{o:ah}(h:ma E E'):nS o E=nS o E':=by
 obtain⟨d,op,g⟩:=o
 cases op<;>first|rfl|skip
 rename_i m mu x
 show mj (E.x x)=mj (E'.x x)
 cases x with
 |c a=>rfl
 |t i=>show mj (look E.e i)=mj (look E'.e i);rw[h.e]
theorem BF{K:St->Prop}:∀(l:List Item){E E':St},ma E E'->bE P T l K E->bE P T l K E'
 |[],_,_,h,⟨U,h1,h2⟩=>⟨U,h1.trans h,h2⟩
 |(k,i,o)::r,E,E',h,hb=>by
  unfold bE at hb⊢
  by_cases hk3:3<=k
  ·rw[if_pos hk3]at hb⊢
   obtain⟨U,h1,h2⟩:=hb
   exact⟨U,h1.trans h,h2⟩
  rw[if_neg hk3]at hb⊢
  by_cases hk:2<=k
  ·rw[if_pos hk]at hb⊢
   refine⟨by rw[<-h.free];exact hb.1,hb.2.1,?_⟩
   refine Fs (E:=E) (fun x _=>by cases x with|c a=>rfl|t i=>exact h.e i) h.s (z8 (fun a s _ hh=>?_) hb.2.2)
   exact BF r ((h.Qp s).put o.dst a) hh
  ·rw[if_neg hk]at hb⊢
   obtain⟨v,h1,h2,h3,h4⟩:=hb
   exact⟨v,h1.eqv h,h2,fun e=>by rw[<-UO h];exact h3 e,BF r (h.bL o v) h4⟩
theorem Dy{o y:ah}{v:AV}(hn:gu (sj y) (ch o)=true)(hdr:Dt y o=true):nS o (bL E y v)=nS o E:=by
 obtain⟨d,op,g⟩:=o
 cases op<;>first|rfl|skip
 rename_i m mu x
 show mj ((bL E y v).x x)=mj (E.x x)
 cases x with
 |c a=>rfl
 |t i=>
  have hi:i∈ch ⟨d,.load m mu (.t i),g⟩:=List.mem_append_right _ (gP List.mem_cons_self)
  show mj (look (bL E y v).e i)=mj (look E.e i)
  rw[dJ,if_neg (vX hn hi),Kl]
  have:=List.all_eq_true.1 hdr i hi
  simpa using this
theorem abO{K:St->Prop}{kx ix:Nat}{x:ah}(hkx:¬2<=kx)(hTx:Zt T x):∀(pre:List Item)(post:List Item)(E:St),yE T E->(∀y∈pre,¬2<=y.1/\ap2 y.2.2 x=true/\Zt T y.2.2)->bE P T (pre++(kx,ix,x)::post) K E->
 ∃v,Y2 P E x v/\Cm T x v/\(kx=1->nS x E=true)/\bE P T (pre++post) K (bL E x v)
 |[],post,E,_,_,h=>by
  have h:bE P T ((kx,ix,x)::post) K E:=h
  unfold bE at h
  rw[if_neg (by omega),if_neg hkx]at h
  exact h
 |(k,i,o)::pre,post,E,hN,hap,h=>by
  have h:bE P T ((k,i,o)::(pre++(kx,ix,x)::post)) K E:=h
  obtain⟨hk,acU,hT0⟩:=hap _ List.mem_cons_self
  unfold bE at h
  rw[if_neg (by omega),if_neg hk]at h
  obtain⟨v,h1,h2,h3,h4⟩:=h
  obtain⟨u,i1,i2,i3,i4⟩:=abO hkx hTx pre post (bL E o v) (tg hN h2) (fun y hy=>hap y (List.mem_cons_of_mem _ hy)) h4
  obtain⟨a1,a2,a3,a4,a5,a6,a7,c1,c2⟩:=NV acU
  have hx:Y2 P E x u:=i1.QA (wP h1 a1 a4 c2 hN hT0).symm
   (fun i hi=>(lO fun e=>a3 i i e (wX hi) rfl).symm)
   (fun i hi hf=>nH (fun z hz _=>(iD o v z).2 (.inl hz)) hf)
  have ho:Y2 P (bL E x u) o v:=h1.QA (wP hx a2 a5 c1 hN hTx)
   (fun i hi=>lO fun e=>a3 i i (wX hi) e rfl)
   (fun i hi hf=>nH (fun z hz hzi=>by
     rcases(iD _ _ z).1 hz with hz|⟨j,j1,_,j3⟩
     ·exact hz
     ·rw[hzi]at j3;exact(i2 j j1 i (hT0 i hi) j3).elim) hf)
  have FZ:ma (bL (bL E o v) x u) (bL (bL E x u) o v):=HZ a3 a6 a7
  refine⟨u,hx,i2,fun e=>by rw[<-Dy a1 a4];exact i3 e,?_⟩
  show bE P T ((k,i,o)::(pre++post)) K (bL E x u)
  unfold bE
  rw[if_neg (by omega),if_neg hk]
  exact⟨v,ho,h2,fun e=>by rw[Dy a2 a5];exact h3 e,BF _ FZ i4⟩
theorem abP{K:St->Prop}{kx ix:Nat}{x:ah}(hkx:2<=kx)(ahb:¬3<=kx):∀(pre:List Item)(post:List Item)(E:St),(∀y∈pre,(y.1=1\/y.1=0/\Pb y.2.2 x=true)/\apB y.2.2 x=true)->bE P T (pre++(kx,ix,x)::post) K E->
 aR E x.dst=true/\x.g=none/\ud P x.op E (fun a s=>bE P T (pre++post) K (behind E x.dst a s))
 |[],post,E,_,h=>by
  have h:bE P T ((kx,ix,x)::post) K E:=h
  unfold bE at h
  rw[if_neg ahb,if_pos hkx]at h
  exact h
 |(k,i,o)::pre,post,E,hap,h=>by
  have h:bE P T ((k,i,o)::(pre++(kx,ix,x)::post)) K E:=h
  obtain⟨Zl,acU⟩:=hap _ List.mem_cons_self
  have Zl:k=1\/k=0/\Pb o x=true:=Zl
  have Zm:¬3<=k/\¬2<=k:=by rcases Zl with h|⟨h,_⟩<;>omega
  unfold bE at h
  rw[if_neg Zm.1,if_neg Zm.2]at h
  obtain⟨v,h1,h2,h3,h4⟩:=h
  obtain⟨i1,i2,i3⟩:=abP hkx ahb pre post (bL E o v) (fun y hy=>hap y (List.mem_cons_of_mem _ hy)) h4
  obtain⟨a1,a2,a3,a4⟩:=Ve acU
  have hf:aR E x.dst=true:=by
   cases hd:x.dst with
   |none=>rfl
   |some d=>
    rw[hd]at i1
    have e:bg (look (bL E o v).e d)=bg (look E.e d):=lO fun e=>a4 d e hd
    show bg (look E.e d)=true
    rw[<-e];exact i1
  have hcg:∀{C:AV->ab->Prop},ud P x.op (bL E o v) C->ud P x.op E C:=fun hh=>Fs (E:=bL E o v) (fun y hy=>by
   cases y with
   |c a=>rfl
   |t j=>
    have hj:j∈ch x:=List.mem_append_right _ (gP hy)
    show look (bL E o v).e j=look E.e j
    rw[dJ,if_neg (vX a2 hj),Kl]
    have:=List.all_eq_true.1 a1 j hj
    simpa using this) (lY o v) hh
  rcases Zl with rfl|⟨rfl,hl⟩
  ·refine⟨hf,i2,hcg (z8 (fun av s hv hb=>?_) i3)⟩
   show bE P T ((1,i,o)::(pre++post)) K (behind E x.dst av s)
   unfold bE
   rw[if_neg (by omega),if_neg (by omega)]
   refine⟨v,h1.behind (h3 rfl) a3 hf hv a4,h2,fun _=>by rw[UP a3];exact h3 rfl,?_⟩
   exact BF _ (zZ a3 a4).symm hb
  ·refine⟨hf,i2,hcg ?_⟩
   obtain⟨_,d',sz,by',z,l,c,g',rfl⟩:=KT hl
   refine TM (fun av s hv eD hb=>?_) i3
   show bE P T ((0,i,o)::(pre++post)) K (behind E d' av s)
   unfold bE
   rw[if_neg (by omega),if_neg (by omega)]
   refine⟨v,h1.YV hl (fun b o' h'=>eD b o' (by rw[lY];exact h')) a3 hf hv a4,h2,fun e=>(by cases e),?_⟩
   exact BF _ (zZ a3 a4).symm hb
end
section
variable{P:Program}{n:Nat}{D:List Deferred}{ops:Array Oper}{T:List Nat}
def Bef(ops:Array Oper)(j i:Nat):Prop:=∀L:Nat->Prop,(∀m,L m->∀d,gT ops m d=true->L d)->(∀d,gT ops j d=true->L d)->L i
theorem Kw(acc:List Nat)(i:Nat):∀(l:List Edge)(s:Nat),(l.foldl (fun s e=>bif Region.binds .any e then s |||(1<<<e.on)|||acc.getD e.on 0 else s) s).testBit i=true->
 s.testBit i=true\/∃e∈l,Region.binds .any e=true/\(i=e.on\/(acc.getD e.on 0).testBit i=true)
 |[],s,h=>.inl h
 |e::l,s,h=>by
  rw[List.foldl_cons]at h
  rcases Kw acc i l _ h with h|⟨e',h1,h2⟩
  ·cases hb:Region.binds .any e with
   |false=>rw[hb]at h;exact .inl h
   |true=>
    rw[hb,cond_true,Nat.testBit_or,Nat.testBit_or,Bool.or_eq_true,Bool.or_eq_true]at h
    rcases h with(h|h)|h
    ·exact .inl h
    ·refine .inr ⟨e,List.mem_cons_self,hb,.inl ?_⟩
     rw[Nat.testBit_shiftLeft,Bool.and_eq_true,decide_eq_true_eq]at h
     have:=Nat.testBit_one_eq_true_iff_self_eq_zero.1 h.2
     omega
    ·exact .inr ⟨e,List.mem_cons_self,hb,.inr h⟩
  ·exact .inr ⟨e',List.mem_cons_of_mem _ h1,h2⟩
theorem K1:∀(l:List Oper)(acc:List Nat),l=ops.toList.drop acc.length->(∀j i,(acc.getD j 0).testBit i=true->Bef ops j i)->∀j i,((K0 l acc).getD j 0).testBit i=true->Bef ops j i
 |[],acc,_,h=>h
 |o::l,acc,hl,h=>by
  have ho:ops[acc.length]? =some o:=by
   have:(ops.toList.drop acc.length)[0]? =some o:=by rw[<-hl];rfl
   simpa using this
  refine K1 l (acc++[G8 acc o]) ?_ fun j i hb=>?_
  ·have:(ops.toList.drop acc.length).tail=l:=by rw[<-hl];rfl
   rw[<-this];simp
  ·by_cases hj:j<acc.length
   ·refine h j i ?_
    simpa[List.getD_eq_getElem?_getD,List.getElem?_append_left hj]using hb
   ·by_cases he:j=acc.length
    ·subst he
     have hb:(G8 acc o).testBit i=true:=by simpa[List.getD_eq_getElem?_getD]using hb
     unfold G8 at hb
     rcases Kw acc i _ _ hb with h0|⟨e,e1,e2,e3⟩
     ·simp at h0
     ·intro L hc hd
      have hle:L e.on:=hd _ ((ni ho).2 ⟨e,by simpa using e1,e2,rfl⟩)
      rcases e3 with rfl|e3
      ·exact hle
      ·exact h e.on i e3 L hc (hc _ hle)
    ·have:(acc++[G8 acc o]).getD j 0=0:=by
      rw[List.getD_eq_getElem?_getD,List.getElem?_eq_none (by simp;omega)];rfl
     rw[this]at hb
     simp at hb
theorem K9{ms:List Nat}:∀{l:List Item},MN ops ms l=true->l.Pairwise fun x y=>Bd ops ms x y=true
 |[],_=>.nil
 |x::r,h=>by
  simp only[MN,Bool.and_eq_true]at h
  exact .cons (fun y hy=>List.all_eq_true.1 h.1 y hy) (K9 h.2)
structure Vb(ops:Array Oper)(L0 L:List Item)(aJ:Array Bool):Prop where
 size:aJ.size=ops.size
 sub:L.Sublist L0
 un:∀x∈L,aJ.getD x.2.1 true=false
 li:∀k,k<ops.size->(∀x∈L,x.2.1≠k)->aJ.getD k false=true
 cl:∀m,aJ.getD m false=true->∀i,gT ops m i=true->aJ.getD i false=true
theorem Ao{l:Array Bool}{i j:Nat}{b:Bool}(h:j≠i):(l.setIfInBounds i true).getD j b=l.getD j b:=by simp[Array.getElem?_setIfInBounds,h.symm]
theorem qH{l:Array Bool}{i:Nat}{b:Bool}(h:i<l.size):(l.setIfInBounds i true).getD i b=true:=by simp[h]
theorem xJ{l:Array Bool}{i j:Nat}(h:l.getD j false=true):(l.setIfInBounds i true).getD j false=true:=by
 by_cases e:j=i
 ·subst e
  rcases Nat.lt_or_ge j l.size with hj|hj
  ·exact qH hj
  ·simp[Array.getElem?_eq_none hj]at h
 ·rw[Ao e];exact h
theorem SZ{x:Item}(h:GO P T n ops x=true)(hk:¬2<=x.1):Zt T x.2.2:=fun c hc=>by
 simp only[GO,Bool.and_eq_true]at h
 have h2:=h.2
 unfold Wz at hc
 split at hc
 ·rename_i hx
  rw[hx]at h2
  injection hc with hc;subst hc
  rcases Bool.or_eq_true_iff.1 h2 with h2|h2
  ·exact(hk (of_decide_eq_true h2)).elim
  ·simpa using h2
 ·rename_i hx
  rw[hx]at h2
  injection hc with hc;subst hc;simpa using h2
 ·cases hc
theorem yE.behind{E:St}(h:yE T E){d:Option Nat}{a:AV}{s:ab}(ha:wH a):yE T (behind E d a s):=fun i c hc=>by
 unfold AB.behind
 rw[nG]
 by_cases e:d=some i
 ·rw[if_pos e];exact ha.2 c
 ·rw[if_neg e];exact h i c hc
theorem aiN{K:St->Prop}{Q:Exit->Act->World->Prop}(G₀:Gh)(w₀:World){L0:List Item}(hI:∀x∈L0,GO P T n ops x=true)(hP:L0.Pairwise fun x y=>Bd ops (K0 ops.toList []) x y=true)
 (hn:∀G' E' a' w',Inv G' n D E' a' w'->ax G₀ w₀ G' w'->K E'->Q .normal a' w'):
 ∀(m:Nat)(L:List Item),L.length=m->∀(aJ:Array Bool)(E:St),Vb ops L0 L aJ->yE T E->bE P T L K E->∀(G:Gh)(a:Act)(w:World),Inv G n D E a w->ax G₀ w₀ G w->wpAny P .any ops Q m aJ a w:=by
 intro m
 induction m with
 |zero=>
  intro L hL aJ E hg _ hb G a w h hp
  obtain rfl:=List.eq_nil_of_length_eq_zero hL
  refine⟨List.eq_nil_iff_forall_not_mem.2 fun j hj=>?_,?_⟩
  ·obtain⟨r1,r2,r3⟩:=ks hj
   have:=lF (hg.li j r1 fun x hx=>by cases hx)
   rw[r2]at this;cases this
  ·obtain⟨U,t1,t2⟩:=hb
   exact hn G U a w (h.eqv t1.symm) hp t2
 |succ m ih=>
  intro L hL aJ E hg hN hb G a w h hp
  have hPL:=hP.sublist hg.sub
  refine⟨fun h0=>?_,fun i hi=>?_⟩
  ·cases L with
   |nil=>simp at hL
   |cons x r=>
    have hx:=hI x (hg.sub.subset List.mem_cons_self)
    simp only[GO,Bool.and_eq_true]at hx
    have y5:x.2.1∈Region.ready .any ops aJ:=by
     cases ho:ops[x.2.1]? with
     |none=>rw[ho]at hx;simp at hx
     |some o=>
      rw[ho]at hx
      have hx1:(gV P n ops o x.2.2&&o.after.all fun e=>!Region.binds .any e||(decide (e.on<ops.size)&&e.on !=x.2.1))=true:=hx.1
      rw[Bool.and_eq_true]at hx1
      refine mem_ready.2 ⟨hg.un x List.mem_cons_self,o,ho,fun e he hbn=>?_⟩
      have h3:=Array.all_eq_true_iff_forall_mem.1 hx1.2 e he
      rw[hbn]at h3
      simp only[Bool.not_true,Bool.false_or,Bool.and_eq_true,decide_eq_true_eq,bne_iff_ne]at h3
      refine hg.li e.on h3.1 fun y hy=>?_
      rcases List.mem_cons.1 hy with rfl|hy
      ·exact fun e'=>h3.2 e'.symm
      ·intro e'
       have:=(List.pairwise_cons.1 hPL).1 y hy
       simp only[Bd,Bool.and_eq_true,Bool.not_eq_true']at this
       have hb2:gT ops x.2.1 y.2.1=true:=(ni ho).2 ⟨e,he,hbn,e'.symm⟩
       rw[this.1]at hb2;cases hb2
    rw[h0]at y5
    cases y5
  ·obtain⟨r1,r2,r3⟩:=ks hi
   have hex:∃x∈L,x.2.1=i:=by
    apply Classical.byContradiction
    intro hno
    have:=lF (hg.li i r1 fun x hx e=>hno ⟨x,hx,e⟩)
    rw[r2]at this;cases this
   obtain⟨⟨kx,ix,x⟩,hx,e0⟩:=hex
   have e0:ix=i:=e0
   subst e0
   obtain⟨pre,post,rfl⟩:=List.append_of_mem hx
   have hxi:=hI _ (hg.sub.subset hx)
   have hPw:=List.pairwise_append.1 hPL
   have hpx:∀y∈pre,Bd ops (K0 ops.toList []) y (kx,ix,x)=true:=fun y hy=>hPw.2.2 y hy _ List.mem_cons_self
   have hxp:∀y∈post,Bd ops (K0 ops.toList []) (kx,ix,x) y=true:=(List.pairwise_cons.1 hPw.2.1).1
   have Wf:∀y∈pre,aby y.1 kx y.2.2 x=true:=fun y hy=>by
    have h1:=hpx y hy
    simp only[Bd,Bool.and_eq_true,Bool.or_eq_true]at h1
    rcases h1.2.2 with h2|h2
    ·have hbf:=K1 (ops:=ops) ops.toList [] (by simp) (fun j i hh=>by simp at hh) _ _ h2
     have:=lF (hbf (fun m=>aJ.getD m false=true) hg.cl r3)
     rw[hg.un y (List.mem_append_left _ hy)]at this;cases this
    ·exact h2
   have hne:∀y∈pre++post,y.2.1≠ix:=fun y hy=>by
    rcases List.mem_append.1 hy with hy|hy
    ·have:=hpx y hy
     simp only[Bd,Bool.and_eq_true,bne_iff_ne]at this
     exact this.2.1
    ·have:=hxp y hy
     simp only[Bd,Bool.and_eq_true,bne_iff_ne]at this
     exact fun e=>this.2.1 e.symm
   have hg':Vb ops L0 (pre++post) (aJ.setIfInBounds ix true):=by
    refine⟨by simp[hg.size],((List.sublist_cons_self _ post).append_left pre).trans hg.sub,fun y hy=>?_,fun k hk hno=>?_,fun m' hm' d hd=>?_⟩
    ·rw[Ao (hne y hy)]
     refine hg.un y ?_
     rcases List.mem_append.1 hy with hy|hy
     ·exact List.mem_append_left _ hy
     ·exact List.mem_append_right _ (List.mem_cons_of_mem _ hy)
    ·by_cases e:k=ix
     ·subst e;exact qH (by rw[hg.size];exact hk)
     ·refine xJ (hg.li k hk fun y hy=>?_)
      rcases List.mem_append.1 hy with hy|hy
      ·exact hno y (List.mem_append_left _ hy)
      ·rcases List.mem_cons.1 hy with rfl|hy
       ·exact fun e'=>e e'.symm
       ·exact hno y (List.mem_append_right _ hy)
    ·refine xJ ?_
     by_cases e:m'=ix
     ·subst e;exact r3 d hd
     ·rw[Ao e]at hm';exact hg.cl m' hm' d hd
   have hlen:(pre++post).length=m:=by simp at hL⊢;omega
   have hxo:gV P n ops ops[ix] x=true:=by
    simp only[GO,Bool.and_eq_true]at hxi
    have h1:=hxi.1
    rw[Array.getElem?_eq_getElem r1]at h1
    have h1:(gV P n ops ops[ix] x&&_)=true:=h1
    rw[Bool.and_eq_true]at h1
    exact h1.1
   by_cases hk3:3<=kx
   ·obtain rfl:pre=[]:=by
     cases pre with
     |nil=>rfl
     |cons y pre=>
      have h1:=Wf y List.mem_cons_self
      obtain⟨ky,iy,yo⟩:=y
      obtain⟨k,rfl⟩:∃k,kx=k+3:=⟨kx -3,by omega⟩
      match ky with
      |0=>cases h1
      |1=>cases h1
      |_+2=>cases h1
    have hb:bE P T ((kx,ix,x)::post) K E:=hb
    unfold bE at hb
    rw[if_pos hk3]at hb
    obtain⟨U,t1,t2⟩:=hb
    refine qa (o:=ops[ix]) (by simp[r1]) (gG (h.eqv t1.symm) hxo t2 fun G' E' a' w' k1 k2 k3=>?_)
    exact ih ([]++post) hlen _ E' hg' (fun i c hc=>pO k3.1 i c hc) (Fu _ _ k3.2) G' a' w' k1 (hp.trans k2)
   by_cases hk:2<=kx
   ·have hap:∀y∈pre,(y.1=1\/y.1=0/\Pb y.2.2 x=true)/\apB y.2.2 x=true:=fun y hy=>by
     have h1:=Wf y hy
     obtain⟨ky,iy,yo⟩:=y
     obtain rfl:kx=2:=by omega
     match ky with
     |0=>
      have h1:(Pb yo x&&apB yo x)=true:=h1
      rw[Bool.and_eq_true]at h1
      exact⟨.inr ⟨rfl,h1.1⟩,h1.2⟩
     |1=>exact⟨.inl rfl,h1⟩
     |_+2=>cases h1
    obtain⟨p1,p2,p3⟩:=abP hk hk3 pre post E hap hb
    have hbb:Vj P x E (fun U=>yE T U/\bE P T (pre++post) K U):=by
     unfold Vj
     rw[p2]
     exact⟨p1,z8 (fun av s hv hh=>⟨hN.behind hv,hh⟩) p3⟩
    have hK':∀U U',ma U U'->(yE T U/\bE P T (pre++post) K U)->yE T U'/\bE P T (pre++post) K U':=fun U U' e hh=>⟨fun i c hc=>by rw[<-e.e i];exact hh.1 i c hc,BF _ e hh.2⟩
    refine qa (o:=ops[ix]) (by simp[r1]) (gG h hxo (YU hK' hbb) fun G' E' a' w' k1 k2 k3=>?_)
    exact ih (pre++post) hlen _ E' hg' k3.1 k3.2 G' a' w' k1 (hp.trans k2)
   ·have hap:∀y∈pre,¬2<=y.1/\ap2 y.2.2 x=true/\Zt T y.2.2:=fun y hy=>by
     have h1:=Wf y hy
     have hyT:=fun hh=>SZ (hI y (hg.sub.subset (List.mem_append_left _ hy))) hh
     obtain⟨ky,iy,yo⟩:=y
     match ky,kx,hk with
     |0,0,_=>exact⟨fun hh=>absurd hh (by simp),h1,hyT (by simp)⟩
     |0,1,_=>exact⟨fun hh=>absurd hh (by simp),h1,hyT (by simp)⟩
     |1,0,_=>exact⟨fun hh=>absurd hh (by simp),h1,hyT (by simp)⟩
     |1,1,_=>exact⟨fun hh=>absurd hh (by simp),h1,hyT (by simp)⟩
     |k+2,0,_=>cases h1
     |k+2,1,_=>cases h1
     |_,k+2,hk=>exact(hk (by omega)).elim
    obtain⟨v,p1,p2,p3,p4⟩:=abO hk (SZ hxi hk) pre post E hN hap hb
    refine qa (o:=ops[ix]) (by simp[r1]) (Y2.run h hxo p1 fun G' a' w' k1 k2=>?_)
    exact ih (pre++post) hlen _ (bL E x v) hg' (tg hN p2) p4 G' a' w' k1 (hp.trans k2)
theorem acz(hm:P.follows .mixedOrders=true):aaR P n:=by
 intro D id ops T l G E a w K Q hc h hno hw hn
 simp only[acw,Bool.and_eq_true,beq_iff_eq]at hc
 obtain⟨⟨h1,h2⟩,h3,h4⟩:=hc
 refine wp_region_any hm ?_
 have hg:Vb ops l l (Array.replicate ops.size false):=by
  refine⟨by simp,List.Sublist.refl l,fun x hx=>?_,fun k hk hno=>?_,fun m hm i hi=>?_⟩
  ·have hlt:x.2.1<ops.size:=by
    have:=List.all_eq_true.1 h3 x hx
    simp only[GO,Bool.and_eq_true]at this
    cases ho:ops[x.2.1]? with
    |none=>rw[ho]at this;simp at this
    |some o=>exact(Array.getElem?_eq_some_iff.1 ho).1
   simp[hlt]
  ·obtain⟨x,hx,e⟩:=List.any_eq_true.1 (List.all_eq_true.1 h2 k (List.mem_range.2 hk))
   exact absurd (beq_iff_eq.1 e) (hno x hx)
  ·rcases Nat.lt_or_ge m ops.size with hlt|hge
   ·simp[hlt]at hm
   ·simp[Array.getElem?_eq_none (show(Array.replicate ops.size false).size<=m by simpa using hge)]at hm
 have:=aiN (T:=T) (P:=P) (n:=n) (K:=K) (Q:=Q) G w (fun x hx=>List.all_eq_true.1 h3 x hx) (K9 h4) hn l.length l rfl _ E hg (fun i c hc=>pO hno i c hc) (Fu l E hw) G a {w with drawn:=w.drawn+1} h.drew (ax.drew G w)
 rwa[h1]at this
theorem Bz:∀(p s:List Bool),CV p s=p.reverse++s
 |[],s=>rfl
 |x::p,s=>by unfold CV;rw[Bz p];simp
theorem Qq{done:List Bool}{F:ah->List Bool->Prop}:∀{rows:List (List Bool)}{pre xs:List Bool}{r:List ah}{j:Nat}{row:List Bool}{o:ah},Sk done rows pre xs r F->rows[j]? =some row->r[j]? =some o->xs[j]? =some false->Bw row done=true->F o (CV pre (xs.set j true))
 |row::rows,pre,x::xs,o::r,0,row',o',h,h1,h2,h3,h4=>by
  injection h1 with h1;injection h2 with h2;injection h3 with h3
  subst h1;subst h2;subst h3
  have:=h.1
  rw[h4]at this
  exact this
 |row::rows,pre,x::xs,o::r,j+1,row',o',h,h1,h2,h3,h4=>by
  have:=Qq (j:=j) h.2 (by simpa using h1) (by simpa using h2) (by simpa using h3) h4
  rw[Bz]at this⊢
  simpa using this
 |[],_,_,_,_,_,_,_,h1,_,_,_=>by simp at h1
 |_::_,_,[],_,_,_,_,_,_,_,h3,_=>by simp at h3
 |_::_,_,_::_,[],_,_,_,_,_,h2,_,_=>by simp at h2
theorem TE:∀{row done:List Bool},(∀i,row.getD i false=true->done.getD i false=true)->Bw row done=true
 |[],_,_=>rfl
 |_::_,[],_=>rfl
 |d::row,x::done,h=>by
  have h0:=h 0
  have ht:=TE (row:=row) (done:=done) fun i hi=>by have:=h (i+1);simp only[List.getD_cons_succ]at this;exact this hi
  unfold Bw
  rw[ht,Bool.and_true]
  cases d with
  |false=>rfl
  |true=>simpa using h0
structure agd(ops:Array Oper)(done:List Bool)(aJ:Array Bool):Prop where
 size:aJ.size=ops.size
 len:done.length=ops.size
 eq:∀j,done.getD j false=aJ.getD j false
theorem count_set:∀{l:List Bool}{j:Nat},l[j]? =some false->(l.set j true).count false+1=l.count false
 |x::l,0,h=>by injection h with h;subst h;simp
 |x::l,j+1,h=>by
  have:=count_set (l:=l) (j:=j) (by simpa using h)
  cases x<;>simp<;>omega
 |[],_,h=>by simp at h
theorem ab1{K:St->Prop}{Q:Exit->Act->World->Prop}{gl:List (List Bool)}{bC:List ah}(G₀:Gh)(w₀:World)(hI:cc P n ops ops.toList bC=true)(hX:Sy ops gl=true)
 (hn:∀G' E' a' w',Inv G' n D E' a' w'->ax G₀ w₀ G' w'->K E'->Q .normal a' w'):
 ∀(f:List ah)(done:List Bool)(aJ:Array Bool)(E:St),agd ops done aJ->done.count false=f.length->U1 P gl bC K f done E->∀(G:Gh)(a:Act)(w:World),Inv G n D E a w->ax G₀ w₀ G w->wpAny P .any ops Q f.length aJ a w
 |[],done,aJ,E,hg,hc,hw,G,a,w,h,hp=>by
  refine⟨List.eq_nil_iff_forall_not_mem.2 fun j hj=>?_,hn G E a w h hp hw⟩
  obtain⟨r1,r2,r3⟩:=ks hj
  have h2:aJ.getD j false=false:=by
   have hlt:j<aJ.size:=by rw[hg.size];exact r1
   simp only[Array.getD_eq_getD_getElem?,Array.getElem?_eq_getElem hlt,Option.getD_some]at r2⊢
   exact r2
  rw[<-hg.eq j]at h2
  have hlt:j<done.length:=by rw[hg.len];exact r1
  have y5:false∈done:=by
   rw[List.getD_eq_getElem?_getD,List.getElem?_eq_getElem hlt,Option.getD_some]at h2
   rw[<-h2];exact List.getElem_mem hlt
  exact absurd hc (by have:=List.count_pos_iff.2 y5;simp;omega)
 |o0::f,done,aJ,E,hg,hc,hw,G,a,w,h,hp=>by
  have hX':=hX
  simp only[Sy,Bool.and_eq_true,beq_iff_eq]at hX'
  obtain⟨hl,eo⟩:=hX'
  refine⟨fun h0=>?_,fun i hi=>?_⟩
  ·exfalso
   have hex:∃j,j<ops.size/\aJ.getD j false=false:=by
    apply Classical.byContradiction
    intro hno
    have:done.count false=0:=List.count_eq_zero.2 fun hm=>by
     obtain⟨j,hj,e⟩:=List.getElem_of_mem hm
     refine hno ⟨j,by rw[<-hg.len];exact hj,?_⟩
     rw[<-hg.eq,List.getD_eq_getElem?_getD,List.getElem?_eq_getElem hj,Option.getD_some,e]
    rw[this]at hc;simp at hc
   obtain⟨j,hj⟩:=hex
   induction j using Nat.strongRecOn with
   |_ j ih=>
    by_cases hk:∃k,k<j/\k<ops.size/\aJ.getD k false=false
    ·obtain⟨k,k1,k2⟩:=hk
     exact ih k k1 k2
    ·have hj2:=List.all_eq_true.1 eo j (List.mem_range.2 hj.1)
     simp only[Bool.and_eq_true]at hj2
     have h3:=hj2.2
     rw[Array.getElem?_eq_getElem hj.1]at h3
     have y5:j∈Region.ready .any ops aJ:=by
      refine mem_ready.2 ⟨?_,ops[j],Array.getElem?_eq_getElem hj.1,fun e he hb=>?_⟩
      ·have hlt:j<aJ.size:=by rw[hg.size];exact hj.1
       have:=hj.2
       simp only[Array.getD_eq_getD_getElem?,Array.getElem?_eq_getElem hlt,Option.getD_some]at this⊢
       exact this
      ·have h4:=Array.all_eq_true_iff_forall_mem.1 h3 e he
       rw[hb]at h4
       simp only[Bool.not_true,Bool.false_or,decide_eq_true_eq]at h4
       apply Classical.byContradiction
       intro hno
       exact hk ⟨e.on,h4,by omega,by simpa using hno⟩
     rw[h0]at y5
     cases y5
  ·obtain⟨r1,r2,r3⟩:=ks hi
   have hlt:i<aJ.size:=by rw[hg.size];exact r1
   have nu:i<done.length:=by rw[hg.len];exact r1
   have r2':aJ.getD i false=false:=by
    simp only[Array.getD_eq_getD_getElem?,Array.getElem?_eq_getElem hlt,Option.getD_some]at r2⊢
    exact r2
   have hd:done[i]? =some false:=by
    rw[<-hg.eq i,List.getD_eq_getElem?_getD,List.getElem?_eq_getElem nu,Option.getD_some]at r2'
    rw[List.getElem?_eq_getElem nu,r2']
   obtain⟨hlen,kg⟩:=fU _ _ hI
   have hli:i<bC.length:=by rw[<-hlen];simpa using r1
   have hio:bC[i]? =some bC[i]:=List.getElem?_eq_getElem hli
   have hco:gV P n ops ops[i] bC[i]=true:=kg i ops[i] bC[i] (by simp[r1]) hio
   have hj2:=List.all_eq_true.1 eo i (List.mem_range.2 r1)
   simp only[Bool.and_eq_true,beq_iff_eq]at hj2
   have eI:gl[i]? =some (gl.getD i []):=by
    have:i<gl.length:=by rw[hl];exact r1
    rw[List.getD_eq_getElem?_getD,List.getElem?_eq_getElem this,Option.getD_some]
   have hrd:Bw (gl.getD i []) done=true:=TE fun k hk=>by
    have hkl:k<ops.size:=by
     rw[<-hj2.1.1]
     apply Classical.byContradiction
     intro hno
     rw[List.getD_eq_getElem?_getD,List.getElem?_eq_none (by omega)]at hk
     cases hk
    have:=List.all_eq_true.1 hj2.1.2 k (List.mem_range.2 hkl)
    rw[hk]at this
    rw[hg.eq]
    exact r3 k (by simpa using this)
   have hx:=Qq (F:=fun o d=>Qr P o E (fun U=>U1 P gl bC K f d U)) hw eI hio hd hrd
   refine qa (o:=ops[i]) (by simp[r1]) (gG h hco hx fun G' E' a' w' k1 k2 k3=>?_)
   refine ab1 G₀ w₀ hI hX hn f _ _ E' ⟨by simp[hg.size],by rw[Bz];simp[hg.len],fun k=>?_⟩ ?_ k3 G' a' w' k1 (hp.trans k2)
   ·rw[Bz]
    show(([]:List Bool).reverse++done.set i true).getD k false=_
    rw[List.reverse_nil,List.nil_append]
    by_cases e:k=i
    ·subst e
     rw[qH hlt,List.getD_eq_getElem?_getD,List.getElem?_set_self nu];rfl
    ·rw[Ao e,<-hg.eq,List.getD_eq_getElem?_getD,List.getD_eq_getElem?_getD,List.getElem?_set_ne (Ne.symm e)]
   ·rw[Bz]
    show(([]:List Bool).reverse++done.set i true).count false=_
    rw[List.reverse_nil,List.nil_append]
    have:=count_set hd
    rw[hc]at this
    simp at this
    omega
theorem acC(hm:P.follows .mixedOrders=true):aaU P n:=by
 intro D id ops gl bC G E a w K Q hc hx h hw hn
 refine wp_region_any hm ?_
 have hlen:bC.length=ops.size:=by have:=(fU _ _ hc).1;simpa using this.symm
 have hf:∀l:List ah,wM l=List.replicate l.length false:=by
  intro l
  induction l with
  |nil=>rfl
  |cons o r ih=>show false::wM r=_;rw[ih];rfl
 have:=ab1 (P:=P) (n:=n) (K:=K) (Q:=Q) G w hc hx hn bC (wM bC) (Array.replicate ops.size false) E ⟨by simp,by rw[hf];simp[hlen],fun j=>by
  rw[hf,hlen]
  rcases Nat.lt_or_ge j ops.size with hj|hj
  ·simp[hj]
  ·simp[Nat.not_lt.2 hj]⟩ (by rw[hf];simp) hw G a {w with drawn:=w.drawn+1} h.drew (ax.drew G w)
 rwa[hlen]at this
theorem Ag(hm:P.follows .mixedOrders=true):E9 P n:=⟨acA hm,acB hm,acz hm,acC hm⟩
end
end Go.AB
end
section
namespace Go.AB
open Go Go.RowKit
def xd:ab:=fun _=>none
section
variable{P:Program}{w w':World}
end
end Go.AB
end
section
namespace Go.AB
open Go
theorem tj(a b:List AV):views (a++b)=views a++views b:=by simp[views]
theorem yD:∀l:List (List AV),(∀x∈l,views x=x)->views l.flatten=l.flatten
 |[],_=>rfl
 |a::l,h=>by rw[List.flatten_cons,tj,h a List.mem_cons_self,yD l fun x hx=>h x (List.mem_cons_of_mem _ hx)]
class aK(α:Type)where
 w:Nat
 cells:α->List AV
 zero:α
 pos:0<w
 len:∀x,(cells x).length=w
 vw:∀x,views (cells x)=cells x
structure aw where
 b:List UInt8
 deriving DecidableEq,Inhabited
section
variable{α:Type}[aK α]
def flat(l:List α):List AV:=(l.map aK.cells).flatten
def ix(l:List α)(i:Int):α:=l.getD i.toNat aK.zero
theorem al:∀l:List α,(flat l).length=l.length*aK.w α
 |[]=>by simp[flat]
 |a::l=>by
  have:=al l
  simp only[flat,List.map_cons,List.flatten_cons,List.length_append,aK.len]at this⊢
  rw[this,List.length_cons,Nat.add_mul,Nat.one_mul,Nat.add_comm]
@[go_sem]theorem rA:flat ([]:List α)=[]:=rfl
@[go_sem]theorem my(a:α)(l:List α):flat (a::l)=aK.cells a++flat l:=rfl
@[go_sem]theorem bT(a b:List α):flat (a++b)=flat a++flat b:=by simp[flat]
@[go_sem]theorem aC(l:List α):views (flat l)=flat l:=yD _ fun x hx=>by
  obtain⟨y,_,rfl⟩:=List.mem_map.1 hx
  exact aK.vw y
theorem BO(l:List α):∀k,(flat l).drop (k*aK.w α)=flat (l.drop k):=by
 induction l with
 |nil=>intro k;simp[flat]
 |cons a l ih=>intro k;cases k with
  |zero=>simp
  |succ k=>
   rw[my,List.drop_succ_cons,<-ih k,Nat.succ_mul,Nat.add_comm,<-List.drop_drop]
   congr 1
   rw[<-aK.len a,List.drop_left]
theorem wZ(l:List α):∀k,(flat l).take (k*aK.w α)=flat (l.take k):=by
 induction l with
 |nil=>intro k;simp[flat]
 |cons a l ih=>intro k;cases k with
  |zero=>simp[rA]
  |succ k=>
   rw[my,List.take_succ_cons,my,<-ih k,Nat.succ_mul,Nat.add_comm,List.take_append]
   rw[aK.len a,List.take_of_length_le (by rw[aK.len];omega)]
   congr 2
   omega
theorem lC(l:List α)(n lo m:Nat)(hn:n=aK.w α):AB.sub (flat l) (lo*n) (m*n)=flat ((l.drop lo).take m):=by
 subst hn
 unfold AB.sub
 rw[BO,wZ]
theorem rB(z:List AV)(n:Nat)(l:List α)(i:Int)(hz:z=aK.cells (aK.zero:α))(hn:n=aK.w α):pad z (views (AB.sub (flat l) (i.toNat*n) n))=aK.cells (ix l i):=by
 subst hn
 have h1:AB.sub (flat l) (i.toNat*aK.w α) (aK.w α)=flat ((l.drop i.toNat).take 1):=by
  have:=lC l (aK.w α) i.toNat 1 rfl
  rwa[Nat.one_mul]at this
 rw[h1,aC]
 unfold pad ix
 rcases Nat.lt_or_ge i.toNat l.length with hlt|hge
 ·rw[List.drop_eq_getElem_cons hlt,List.take_succ_cons,List.take_zero,my,rA,List.append_nil,hz,aK.len,aK.len,beq_self_eq_true]
  simp[List.getD,List.getElem?_eq_getElem hlt]
 ·rw[List.drop_eq_nil_of_le hge,List.take_nil,rA,hz,aK.len]
  have:(([]:List AV).length==aK.w α)=false:=by
   have:=aK.pos (α:=α)
   simp;omega
  rw[this]
  simp[List.getD,List.getElem?_eq_none hge]
def part(l:List α)(lo hi:Int):List α:=(l.drop lo.toNat).take (hi -lo).toNat
theorem BP(n:Nat)(l:List α)(lo hi:Int)(hn:n=aK.w α):AB.sub (flat l) (lo.toNat*n) ((hi -lo).toNat*n)=flat (part l lo hi):=lC l n _ _ hn
theorem VV(n:Nat)(l:List α)(hn:n=aK.w α):(flat l).length/n=l.length:=by
 subst hn
 rw[al];exact Nat.mul_div_cancel _ aK.pos
end
instance:aK Bool:=⟨1,fun b=>[.bool b],false,Nat.one_pos,fun _=>rfl,fun _=>rfl⟩
instance:aK Int:=⟨1,fun n=>[.int .i64 n],0,Nat.one_pos,fun _=>rfl,fun _=>rfl⟩
instance:aK UInt8:=⟨1,fun n=>[.int .u8 n.toNat],0,Nat.one_pos,fun _=>rfl,fun _=>rfl⟩
instance:aK UInt32:=⟨1,fun n=>[.int .u32 n.toNat],0,Nat.one_pos,fun _=>rfl,fun _=>rfl⟩
instance:aK UInt64:=⟨1,fun n=>[.int .u64 n.toNat],0,Nat.one_pos,fun _=>rfl,fun _=>rfl⟩
instance:aK aw:=⟨1,fun s=>[.str s.b],⟨[]⟩,Nat.one_pos,fun _=>rfl,fun _=>rfl⟩
instance{α:Type}[aK α]:aK (List α):=⟨1,fun l=>[.sl false (aK.w α) l.length (flat l)],[],Nat.one_pos,fun _=>rfl,fun _=>rfl⟩
@[go_sem]theorem aeO(x:Int):aK.cells x=[.int .i64 x]:=rfl
@[go_sem]theorem agy(x:UInt8):aK.cells x=[.int .u8 x.toNat]:=rfl
@[go_sem]theorem aeP(x:aw):aK.cells x=[.str x.b]:=rfl
@[go_sem]theorem amz:aK.w UInt8=1:=rfl
@[go_sem]theorem Te(l:List Int)(i:Int):pad [.int .i64 0] (views (AB.sub (flat l) (i.toNat*1) 1))=[.int .i64 (ix l i)]:=rB _ 1 l i rfl rfl
@[go_sem]theorem XF(l:List UInt8)(i:Int):pad [.int .u8 0] (views (AB.sub (flat l) (i.toNat*1) 1))=[.int .u8 (ix l i).toNat]:=rB _ 1 l i rfl rfl
@[go_sem]theorem ajK(l:List aw)(i:Int):pad [.str []] (views (AB.sub (flat l) (i.toNat*1) 1))=[.str (ix l i).b]:=rB _ 1 l i rfl rfl
end Go.AB
end
section
namespace Go.AB
open Go
def ok{α:Type}(o:Option α)(K:α->Prop):Prop:=∃a,o=some a/\K a
def aG{α:Type}(c:Prop)[Decidable c](o:Option α):Option α:=if c then o else none
def l8{α:Type}(g:Bool)(z:α)(o:Option α):Option α:=bif g then o else some z
def aW{α β:Type}(o:Option α)(f:α->Option β):Option β:=match o with
 |some a=>f a
 |none=>none
def cX{S O:Type}(body:S->Option (S⊕O)):Nat->S->Option O
 |0,_=>none
 |n+1,s=>match body s with
  |none=>none
  |some (.inl t)=>cX body n t
  |some (.inr o)=>some o
def iter{S O:Type}(body:S->Option (S⊕O))(s:S):Option O:=cX body 18446744073709551616 s
def lA{A B C:Type}(f:A->C)(g:B->C):A⊕B->C
 |.inl a=>f a
 |.inr b=>g b
section
variable{α β:Type}(K:α->Prop)
@[go_sem]theorem aA(a:α):ok (some a) K=K a:=by simp[ok]
@[go_sem]theorem ok_none:ok none K=False:=by simp[ok]
@[go_sem]theorem dB(c:Prop)[Decidable c](o:Option α):ok (aG c o) K=(c/\ok o K):=by
  unfold aG
  by_cases h:c<;>simp[h,ok]
@[go_sem]theorem dF(o:Option β)(f:β->Option α):ok (aW o f) K=ok o (fun b=>ok (f b) K):=by cases o<;>simp[aW,ok]
@[go_sem]theorem Hc(c:Bool)(a b:Option α):ok (if c=true then a else b) K=((c=true->ok a K)/\(c=false->ok b K)):=by cases c<;>simp
theorem ZX(g:Bool)(z:α)(o:Option α):ok (l8 g z o) K=∃a,(g=true->o=some a)/\(g=false->a=z)/\K a:=by cases g<;>simp[l8,ok]
@[go_sem]theorem gU{A B C:Type}(f:A->C)(g:B->C)(a:A):lA f g (.inl a)=f a:=rfl
@[go_sem]theorem mU{A B C:Type}(f:A->C)(g:B->C)(b:B):lA f g (.inr b)=g b:=rfl
end
theorem bK{A B C D:Prop}(h:A->C)(k:B->D):A/\B->C/\D:=fun x=>⟨h x.1,k x.2⟩
theorem de{p A B:Prop}(h:A->B):(p->A)->p->B:=fun x y=>h (x y)
theorem cW{A:Prop}:A->A:=fun h=>h
variable{P:Program}
theorem ak{β:Type}{o:Option β}{kf:β->Prop}{f:FuncId}{as1:List AV}{s:ab}{enc:β->List AV}{Q:List AV->ab->Prop}
 (hf:∀r,o=some r->FE P f as1 s (enc r) s)(hk:∀r,kf r->Q (enc r) s):ok o kf->FN P f as1 s Q:=fun⟨r,h,k⟩=>FE.app (hf r h) (hk r k)
theorem b6{β:Type}{o:Option β}{kf:β->Prop}{f:FuncId}{as1:List AV}{s:ab}{enc:β->List AV}{Q:List AV->Prop}
 (hf:∀r,o=some r->FE P f as1 s (enc r) s)(hr:∀r,jO (enc r)=true)(hk:∀r,kf r->Q (enc r)):ok o kf->∃rs,jO rs=true/\FE P f as1 s rs s/\Q rs:=
 fun⟨r,h,k⟩=>⟨enc r,hr r,hf r h,hk r k⟩
theorem fC{β:Type}{g:Bool}{z:β}{o:Option β}{kf:β->Prop}{f:FuncId}{as1:Option (List AV)}{as2:List AV}{s:ab}{enc:β->List AV}{Q:List AV->Prop}
 (ha:as1=some as2)(hf:∀r,o=some r->FE P f as2 s (enc r) s)(hr:∀r,jO (enc r)=true)(hk:∀r,kf r->Q (enc r)):
 ok (l8 g z o) kf->∃rs,jO rs=true/\(g=true->∃as2,as1=some as2/\FE P f as2 s rs s)/\Q rs:=fun h=>by
 rw[ZX]at h
 obtain⟨r,h1,_,k⟩:=h
 exact⟨enc r,hr r,fun hg=>⟨as2,ha,hf r (h1 hg)⟩,hk r k⟩
def okj{α:Type}(o:Option α)(K:α->Prop):Prop:=ok o K
def jn{α β:Type}(o:Option α)(f:α->Option β):Option β:=aW o f
@[go_sem]theorem al7{α β:Type}(K:α->Prop)(o:Option β)(f:β->Option α):ok (jn o f) K=okj o (fun b=>ok (f b) K):=dF ..
theorem dA{X:Type}{M:Option X}{kf:X->Prop}{live:List (Nat×Bool)}{a b:IC}{Q:Exit->St->Prop}{E:St}(enc:X->St)
 (ha:∀J:St->Prop,ok M (fun x=>J (enc x))->gO P a (tV live J Q) E)(hb:∀x,kf x->gO P b Q (enc x)):okj M kf->gO P (.join live a b) Q E:=fun⟨x,h,k⟩=>
 ⟨fun U=>∃x,U=enc x/\kf x,ha _ ⟨x,h,x,rfl,k⟩,fun _⟨x,e,k⟩=>e▸hb x k⟩
theorem zk{S O:Type}{body:S->Option (S⊕O)}{s:S}{K:O->Prop}:¬ok (cX body 0 s) K:=fun⟨_,h,_⟩=>by cases h
theorem zj{S O:Type}{body:S->Option (S⊕O)}{n:Nat}{s:S}{K:O->Prop}(h:ok (cX body (n+1) s) K):ok (body s) (lA (fun t=>ok (cX body n t) K) K):=by
 obtain⟨o,h,k⟩:=h
 unfold cX at h
 cases hb:body s with
 |none=>rw[hb]at h;cases h
 |some x=>
  rw[hb]at h
  cases x with
  |inl t=>exact⟨_,rfl,⟨o,h,k⟩⟩
  |inr o'=>cases h;exact⟨_,rfl,k⟩
theorem G6{live:List (Nat×Bool)}{I:St->Prop}{μ:St->Nat}{m:Nat}{Q:Exit->St->Prop}:KY live I μ m Q=tV live (fun ρ=>I ρ/\μ ρ<m) Q:=by funext x ρ;cases x<;>rfl
theorem bF{S O:Type}{body:S->Option (S⊕O)}{s0:S}{kf:O->Prop}{live:List (Nat×Bool)}{b:IC}{Q:Exit->St->Prop}{E:St}(enc:S->St)
 (h0:E.ep live=enc s0)
 (hb:∀(J:St->Prop)(s:S),ok (body s) (lA (fun t=>J (enc t)) kf)->gO P b (tV live J Q) (enc s)):ok (iter body s0) kf->gO P (.loop live b) Q E:=by
 intro h
 have I1:∀U,(∃m s,U=enc s/\ok (cX body m s) kf)->∃m,(∃s,U=enc s/\ok (cX body m s) kf)/\∀k,k<m->¬∃s,U=enc s/\ok (cX body k s) kf:=by
  rintro U ⟨m,s,h⟩
  induction m using Nat.strongRecOn generalizing s with
  |_ m ih=>
   by_cases hk:∃k,k<m/\∃s,U=enc s/\ok (cX body k s) kf
   ·obtain⟨k,hk,s',h'⟩:=hk
    exact ih k hk s' h'
   ·exact⟨m,⟨s,h⟩,fun k hk' hs=>hk ⟨k,hk',hs⟩⟩
 have hμ:∃μ:St->Nat,∀U,(∃m s,U=enc s/\ok (cX body m s) kf)->(∃s,U=enc s/\ok (cX body (μ U) s) kf)/\∀k,k<μ U->¬∃s,U=enc s/\ok (cX body k s) kf:=by exact⟨fun U=>Classical.epsilon fun m=>(∃s,U=enc s/\ok (cX body m s) kf)/\∀k,k<m->¬∃s,U=enc s/\ok (cX body k s) kf,fun U hτ=>Classical.epsilon_spec (I1 U hτ)⟩
 obtain⟨μ,hμ⟩:=hμ
 refine⟨fun U=>∃m s,U=enc s/\ok (cX body m s) kf,μ,?_,?_⟩
 ·exact⟨_,s0,h0,h⟩
 ·intro U hτ
  obtain⟨⟨s,e,hs⟩,_⟩:=hμ U hτ
  generalize hm:μ U=m at hs
  cases m with
  |zero=>exact(zk hs).elim
  |succ m=>
   subst e
   rw[G6]
   obtain⟨x,hx,k⟩:=zj hs
   refine hb _ s ⟨x,hx,?_⟩
   cases x with
   |inr o=>exact k
   |inl t=>
    refine⟨⟨m,t,rfl,k⟩,?_⟩
    have h2:=(hμ (enc t) ⟨m,t,rfl,k⟩).2
    rcases Nat.lt_or_ge m (μ (enc t))with hlt|hge
    ·exact(h2 m hlt ⟨t,rfl,k⟩).elim
    ·omega
def jG{X Y α:Type}(M:Option (X⊕Y))(F:X->Option α)(G:Y->Option α):Option α:=match M with
 |some (.inl x)=>F x
 |some (.inr y)=>G y
 |none=>none
@[go_sem]theorem ZW{X Y α:Type}(M:Option (X⊕Y))(F:X->Option α)(G:Y->Option α)(K:α->Prop):ok (jG M F G) K=ok M (lA (fun x=>ok (F x) K) (fun y=>ok (G y) K)):=by
  cases M with
  |none=>simp[jG,ok]
  |some x=>cases x<;>simp[jG,ok,lA]
def yp{X Y α:Type}(M:Option (X⊕Y))(F:X->Option α)(G:Y->Option α):Option α:=jG M F G
@[go_sem]theorem ali{X Y α:Type}(M:Option (X⊕Y))(F:X->Option α)(G:Y->Option α)(K:α->Prop):ok (yp M F G) K=okj M (lA (fun x=>ok (F x) K) (fun y=>ok (G y) K)):=ZW ..
theorem fh{X Y:Type}{M:Option (X⊕Y)}{kf:X->Prop}{kr:Y->Prop}{live:List (Nat×Bool)}{a b:IC}{Q:Exit->St->Prop}{E:St}(enc:X->St)
 (ha:∀J:St->Prop,ok M (lA (fun x=>J (enc x)) kr)->gO P a (tV live J Q) E)(hb:∀x,kf x->gO P b Q (enc x)):okj M (lA kf kr)->gO P (.join live a b) Q E:=fun⟨x,h,k⟩=>by
 refine⟨fun U=>∃x,U=enc x/\kf x,ha _ ⟨x,h,?_⟩,fun _⟨x,e,k⟩=>e▸hb x k⟩
 cases x with
 |inl x=>exact⟨x,rfl,k⟩
 |inr y=>exact k
@[go_sem]theorem TN(c:UInt8):byteOf (.int .u8 c.toNat)=some c:=by
  unfold byteOf
  have:=c.toNat_lt
  simp only[Int.natCast_nonneg,true_and,Int.toNat_natCast]
  rw[if_pos (by omega)]
  simp
@[go_sem]theorem LD:∀l:List UInt8,bytesOf (flat l)=some l
  |[]=>rfl
  |c::l=>by
   rw[my]
   show VC (byteOf (.int .u8 c.toNat)) (bytesOf (flat l))=_
   rw[TN,LD l];rfl
@[go_sem]theorem ahQ(l:List UInt8):(l.map fun c=>AV.int .u8 c.toNat)=flat l:=by
  induction l with
  |nil=>rfl
  |cons a l ih=>rw[List.map_cons,ih];rfl
def bj(n:Int):Int:=IntKind.i64.wrap n
def mS(n:Int):UInt32:=UInt32.ofNat (IntKind.u32.wrap n).toNat
def alF(n:Int):UInt64:=UInt64.ofNat (IntKind.u64.wrap n).toNat
@[go_sem]theorem aje(n:Int):nX .i64 n=bj n:=rfl
theorem acg(k:IntKind)(n:Int)(hk:k.signed=false):k.wrap n=n % (2^k.bits:Int):=by
 unfold IntKind.wrap
 simp[hk]
@[go_sem]theorem wrap_u32(n:Int):nX .u32 n=(mS n).toNat:=by
  show IntKind.u32.wrap n=((UInt32.ofNat (IntKind.u32.wrap n).toNat).toNat:Int)
  rw[acg _ _ rfl,UInt32.toNat_ofNat']
  have:(2^IntKind.u32.bits:Int)=4294967296:=by decide
  rw[this]
  omega
@[go_sem]theorem wrap_u64(n:Int):nX .u64 n=(alF n).toNat:=by
  show IntKind.u64.wrap n=((UInt64.ofNat (IntKind.u64.wrap n).toNat).toNat:Int)
  rw[acg _ _ rfl,UInt64.toNat_ofNat']
  have:(2^IntKind.u64.bits:Int)=18446744073709551616:=by decide
  rw[this]
  omega
def aiS(k:IntKind)(a b:Int):Int:=a.fdiv (2^(min b.toNat k.bits))
def agh(k:IntKind)(a b:Int):Int:=(BitVec.ofInt k.bits a&&&BitVec.ofInt k.bits b).toNat
@[go_sem]theorem agn(k k':IntKind)(a b:Int):z6 .shr k k' a b=.prt (0<=b) (.int k (aiS k a b)):=rfl
@[go_sem]theorem agm(k k':IntKind)(a b:Int):z6 .and k k' a b=kk k k' (.dv (.int k (nX k (agh k a b)))):=rfl
@[go_sem]theorem ajp(l:List UInt8)(k:Int):l.getD k.toNat 0=ix l k:=rfl
@[go_sem]theorem ajL(l:List UInt8)(lo hi:Int):(l.drop lo.toNat).take (hi -lo).toNat=part l lo hi:=rfl
attribute[go_sem] List.length_append true_or or_true eq_self_iff_true imp_self Bool.cond_true_left Bool.cond_false_right and_self and_true
def mv(d x:Nat):ah:=⟨some d,.jL false (.t x),none⟩
def mt(d x:Nat):ah:=⟨some d,.jL true (.t x),none⟩
def dh(d x t:Nat)(w:Bool):ah:=⟨some d,.jL false (.t x),some (t,w)⟩
def mtg(d x t:Nat)(w:Bool):ah:=⟨some d,.jL true (.t x),some (t,w)⟩
def i1(d:Nat)(o:ua):ah:=⟨some d,o,none⟩
def dq(d t:Nat)(w:Bool)(o:ua):ah:=⟨some d,o,some (t,w)⟩
def i0(o:ua):ah:=⟨none,o,none⟩
def i0g(t:Nat)(w:Bool)(o:ua):ah:=⟨none,o,some (t,w)⟩
attribute[go_sem] mv mt dh mtg i1 dq i0 i0g
@[go_sem]theorem aiU(a:AV)(l:List AV)(off n:Nat):AB.sub (a::l) off n=((a::l).drop off).take n:=rfl
attribute[go_sem] BP VV
@[go_sem]theorem adz(E:St)(b:Bool)(a:AV)(d:Option Nat):bQ E (.when b a) d=bQ E a d:=by rw[bQ]
end Go.AB
end
section
namespace Go.AB
open Go
def lx(t s:ab):Prop:=∀b o,t b=some o->s b=some o
theorem lx.refl(s:ab):lx s s:=fun _ _ h=>h
theorem lx.trans{a b c:ab}(h:lx a b)(k:lx b c):lx a c:=fun x o hx=>k x o (h x o hx)
theorem lx.set{t s:ab}{b:Nat}{o:SO}(h:lx t s)(hb:t b=none):lx t (s.set b o):=fun c p hc=>by
 unfold ab.set
 by_cases hcb:c=b
 ·subst hcb;rw[hb]at hc;cases hc
 ·rw[if_neg hcb];exact h c p hc
theorem lx.mono{t s:ab}{b:Nat}{o:SO}(h:lx t s):lx (t.set b o) (s.set b o):=fun c p hc=>by
 unfold ab.set at hc⊢
 by_cases hcb:c=b
 ·rw[if_pos hcb]at hc⊢;exact hc
 ·rw[if_neg hcb]at hc⊢;exact h c p hc
variable{P:Program}
theorem FN.forget{f:FuncId}{args:List AV}{s:ab}{Q:List AV->ab->Prop}(h:FN P f args s fun rs t=>∃t',lx t' t/\Q rs t'):FN P f args s Q:=by
 intro G w vs h1 h2 h3 h4
 refine(h G w vs h1 h2 h3 h4).mono fun e w'⟨v,rs,s',G',a1,⟨t',ht,hq⟩,a3,a4,a5⟩=>⟨v,rs,t',G',a1,hq,a3,fun b o hb=>a4 b o (ht b o hb),a5⟩
theorem bd(s:ab)(b:Nat)(o:SO):(s.set b o) b=some o:=by simp[ab.set]
theorem ai{s:ab}{b c:Nat}{o:SO}(h:c≠b):(s.set b o) c=s c:=by simp[ab.set,h]
theorem set_set(s:ab)(b:Nat)(o p:SO):(s.set b o).set b p=s.set b p:=by funext c;unfold ab.set;by_cases h:c=b<;>simp[h]
theorem set_comm{a b:Nat}(h:a≠b){s:ab}{o p:SO}:(s.set b p).set a o=(s.set a o).set b p:=by
 funext c;unfold ab.set
 by_cases ha:c=a
 ·subst ha;simp[h]
 ·simp[ha]
theorem aep{s:ab}{b:Nat}{o:SO}(h:s b=some o):s=s.set b o:=by
 funext c;unfold ab.set
 by_cases hc:c=b
 ·subst hc;simp[h]
 ·simp[hc]
theorem dN{s:ab}{b:Nat}{o:SO}(h:s b=some o):s.set b o=s:=(aep h).symm
theorem cY(s:ab)(b c:Nat)(o:SO):((s.set b o) c=none)=(c≠b/\s c=none):=by
 unfold ab.set
 by_cases hc:c=b<;>simp[hc]
attribute[go_sem] bd set_set
theorem cI{α:Type}{o:Option α}{K K':α->Prop}(h:ok o K)(hk:∀r,K r->K' r):ok o K':=h.imp fun r⟨h1,h2⟩=>⟨h1,hk r h2⟩
section
variable(Q:Exit->St->Prop)(E U:St)
@[go_sem]theorem aeS(b:IC):gO P (.scope b) Q E=gO P b (zH Q) E:=by
  have:(fun x U=>match x with|.goto _=>False|x=>Q x U)=zH Q:=by funext e U;cases e<;>rfl
  show gO P b (fun x U=>match x with|.goto _=>False|x=>Q x U) E=_
  rw[this]
@[go_sem]theorem aem:zH Q .ret U=Q .ret U:=rfl
@[go_sem]theorem ab3(i:Nat):zH Q (.exit i) U=Q (.exit i) U:=rfl
end
def ER(sz len n:Nat)(x:IX):AV->PR
 |.lp d o=>.prt (n+1<=len) (.lp d (o+n*sz))
 |.sp cs=>bif decide (len*sz<=cs.length)then .prt (n+1<=len) (.sp (cs.drop (n*sz)))else .no
 |.ref b o=>.prt (n+1<=len) (.ref b (o+n*sz))
 |.loc _=>ZF (n+1<=len) (n*sz) x
 |_=>.no
attribute[go_sem] ER.eq_1 ER.eq_2 ER.eq_3 ER.eq_4
def aeD{α:Type}(l:List α)(i:Int)(x:α):List α:=l.take i.toNat++[x]++l.drop (i.toNat+1)
theorem VX{α:Type}[aK α](l:List α)(i:Int)(x:α)(n:Nat)(hn:n=aK.w α):setAt (flat l) (i.toNat*n) (aK.cells x)=flat (aeD l i x):=by
 subst hn
 unfold setAt aeD
 rw[bT,bT,my,rA,List.append_nil,wZ,aK.len]
 congr 1
 rw[show i.toNat*aK.w α+aK.w α=(i.toNat+1)*aK.w α from by rw[Nat.add_mul,Nat.one_mul],BO]
@[go_sem]theorem akj(l:List Int)(i x:Int):setAt (flat l) (i.toNat*1) [.int .i64 x]=flat (aeD l i x):=VX l i x 1 rfl
@[go_sem]theorem aeo(a:AV)(l:List AV)(off:Nat)(news:List AV):setAt (a::l) off news=(a::l).take off++news++(a::l).drop (off+news.length):=rfl
@[go_sem]theorem ah4(z:List AV)(a:AV)(l:List AV):pad z (a::l)=bif(a::l).length==z.length then a::l else z:=rfl
@[go_sem]theorem P2{α:Type}[aK α](n:Nat)(z:α):(List.replicate n (aK.cells z)).flatten=flat (List.replicate n z):=by simp[flat]
section
variable{d d':Option Nat}{K:St->Prop}{E:St}{b off:Nat}{news ez:List AV}
@[go_sem]theorem aj9:Qv d K (wrS E b (eb off news ez))=(off+news.length<=ez.length/\K (({E with s:=E.s.set b (.cells (setAt ez off news))}:St).put d (.gw []))):=by
  unfold eb
  by_cases h:off+news.length<=ez.length
  ·simp[h,wrS,Qv]
  ·simp[h,wrS,Qv]
@[go_sem]theorem aj8{i:Nat}:Qv d K (wrL E i (eb off news ez))=(off+news.length<=ez.length/\K ((E.put (some i) (.loc (setAt ez off news))).put d (.gw []))):=by
  unfold eb
  by_cases h:off+news.length<=ez.length
  ·simp[h,wrL,Qv]
  ·simp[h,wrL,Qv]
end
@[go_sem]theorem abD(n:Nat):(((no_index (OfNat.ofNat n)):Nat):Int)=OfNat.ofNat n:=rfl
def kO{κ ν:Type}[BEq κ](m:List (κ×ν))(k:κ):Option ν:=match m with
 |[]=>none
 |x::r=>bif k==x.1 then some x.2 else kO r k
def Rx{κ ν:Type}[BEq κ](z:ν)(m:List (κ×ν))(k:κ):ν:=(kO m k).getD z
def PE{κ ν:Type}[BEq κ](m:List (κ×ν))(k:κ):Bool:=(kO m k).isSome
def qO{κ ν:Type}[BEq κ](m:List (κ×ν))(k:κ)(v:ν):List (κ×ν):=match m with
 |[]=>[(k,v)]
 |x::r=>bif k==x.1 then(k,v)::r else x::qO r k v
def gK{κ ν:Type}(ek:κ->AV)(ev:ν->AV)(m:List (κ×ν)):List (AV×AV):=m.map fun p=>(ek p.1,ev p.2)
theorem GQ{κ ν:Type}{ek:κ->AV}{ev:ν->AV}{kk:k9}(h:∀a,eX kk (ek a)=true)(m:List (κ×ν)):kp kk (gK ek ev m)=true:=by
 unfold kp gK
 simp[h]
section
variable{κ ν:Type}[BEq κ]{ek:κ->AV}{ev:ν->AV}
theorem T4(hk:∀a b,lK (ek a) (ek b)=(a==b))(m:List (κ×ν))(k:κ):fc (ek k) (gK ek ev m)=(kO m k).map ev:=by
 induction m with
 |nil=>rfl
 |cons x m ih=>
  show(bif lK (ek k) (ek x.1)then some (ev x.2)else fc (ek k) (gK ek ev m))=_
  rw[hk,ih]
  show _=(bif k==x.1 then some x.2 else kO m k).map ev
  cases k==x.1<;>rfl
theorem XN(hk:∀a b,lK (ek a) (ek b)=(a==b))(m:List (κ×ν))(k:κ)(v:ν):wg (ek k) (ev v) (gK ek ev m)=gK ek ev (qO m k v):=by
 induction m with
 |nil=>rfl
 |cons x m ih=>
  show(bif lK (ek k) (ek x.1)then(ek k,ev v)::gK ek ev m else(ek x.1,ev x.2)::wg (ek k) (ev v) (gK ek ev m))=_
  rw[hk,ih]
  show _=gK ek ev (bif k==x.1 then(k,v)::m else x::qO m k v)
  cases k==x.1<;>rfl
theorem Dr{kk:k9}{z:ν}{za:AV}(h:∀a,eX kk (ek a)=true)(hk:∀a b,lK (ek a) (ek b)=(a==b))(hz:view za=ev z)(hv:∀a,view (ev a)=ev a)(hi:∀a,dt (ev a)=true)(ok:Bool)(m:List (κ×ν))(k:κ):
 oJ kk za ok (ek k) (some (.map (gK ek ev m)))=.prt True (ID ok (ev (Rx z m k)) (PE m k)):=by
 show N9 ok (eX kk (ek k)=true/\kp kk (gK ek ev m)=true) (vT za ok (fc (ek k) (gK ek ev m)))=_
 rw[T4 hk,h,GQ h]
 unfold Rx PE
 cases kO m k with
 |none=>
  show N9 ok _ (ID ok (view za) false)=_
  rw[hz]
  cases ok<;>simp[N9,zx,ID,hi]
 |some v=>
  show N9 ok _ (ID ok (view (ev v)) true)=_
  rw[hv]
  cases ok<;>simp[N9,zx,ID,hi]
theorem Ql{kk:k9}{b:Nat}{E:St}{d:Option Nat}{K:St->Prop}(h:∀a,eX kk (ek a)=true)(hk:∀a b,lK (ek a) (ek b)=(a==b))(hkv:∀a,view (ek a)=ek a)(m:List (κ×ν))(k:κ)(v:ν)(hv:view (ev v)=ev v)(hi:dt (ev v)=true):
 U0 kk b E (ek k) (ev v) d K (some (.map (gK ek ev m)))=K ({E with s:=E.s.set b (.map (gK ek ev (qO m k v)))}.put d (.gw [])):=by
 show((dt (ev v)=true/\eX kk (ek k)=true/\kp kk (gK ek ev m)=true)/\K ({E with s:=E.s.set b (.map (wg (view (ek k)) (view (ev v)) (gK ek ev m)))}.put d (.gw [])))=_
 rw[hkv,hv,XN hk,h,GQ h,hi]
 simp
end
theorem mA(a b:Int):lK (.int .i64 a) (.int .i64 b)=(a==b):=by simp[lK,cellsOf,sN,WH]
attribute[go_sem] xb.eq_1
theorem bH{κ ν:Type}(ek:κ->AV)(ev:ν->AV):gK ek ev []=[]:=rfl
@[go_sem]theorem aj6(n:Nat):(List.replicate n [AV.int .i64 0]).flatten=flat (List.replicate n (0:Int)):=P2 n (0:Int)
@[go_sem]theorem alB(n:Nat):(List.replicate n [AV.int .u8 0]).flatten=flat (List.replicate n (0:UInt8)):=P2 n (0:UInt8)
end Go.AB
end
section
namespace Go.AB
open Go
attribute[go_sem] start tf ot uq X5 IJ R0 Nat.ble_eq
theorem mix:Go.Proofs.Tryz.prog.follows .mixedOrders=true:=by kernel_rfl
theorem FO{f n:Nat}{res:List pa}{ic:IC}{args:List AV}{s:ab}{Q:List AV->ab->Prop}(hf:aE Go.Proofs.Tryz.prog f n res ic=true)(hv:IJ args=true)(hn:Nat.ble args.length n=true)(hw:gO Go.Proofs.Tryz.prog ic (R0 res Q) (start args s)):FN Go.Proofs.Tryz.prog f args s Q:=FN.of (Ag mix) hf hv (Nat.le_of_ble_eq_true hn) hw
end Go.AB
end
