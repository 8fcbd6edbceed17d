/- A part of the proof. -/
import Derived.Test.YtkeagffgdajggaaGreatD9
import Derived.Test.YtkeagffgdajggaaGreatD8
import Derived.ProofKit
import Derived.Test.YtkeagffgdajggaaGreatD2
import Derived.Test.YtkeagffgdajggaaGreatProg
import Derived.KernelRfl
set_option linter.unusedSimpArgs false
set_option linter.unusedVariables false
section
namespace Go.AB
open Go
section
variable{P:Program}{G G':Gh}{n:Nat}{D:List Deferred}{E E':St}{a:Act}{w w':World}{T:List Nat}
def B5(a:AV):Prop:=bq a=true/\∀t,¬bD a t
theorem Rr{f:Nat}{s:ab}{C C':AV->ab->Prop}(hc:∀a s',B5 a->C a s'->C' a s'):∀{o:Option (List AV)},Cj P f s C o->Cj P f s C' o
 |some _,h=>FN.mono (P:=P) h fun rs s'⟨h1,h2⟩=>⟨h1,hc _ _ ⟨qU h1,xE h1⟩ h2⟩
 |none,h=>h
theorem O0{s:ab}{C C':AV->ab->Prop}(hc:∀a s',B5 a->C a s'->C' a s'){o:Option (List AV)}{x:AV}(h:xj P o s C x):xj P o s C' x:=by
 unfold xj at h⊢
 split at h
 ·unfold OZ at h⊢
  split at h
  ·exact⟨h.1,FN.mono (P:=P) h.2 fun rs s'⟨h1,h2⟩=>⟨h1,hc _ _ ⟨qU h1,xE h1⟩ h2⟩⟩
  ·exact h
 ·exact h
theorem Vx(b o l c:Nat):B5 (.arr b o l c):=⟨rfl,fun _ h=>h⟩
theorem LW(b o:Nat):B5 (.ref b o):=⟨rfl,fun _ h=>h⟩
theorem Ys(b:Nat):B5 (.mp b):=⟨rfl,fun _ h=>h⟩
theorem LX(l:List AV):B5 (.gK l):=⟨rfl,fun _ h=>h⟩
theorem Aw{o:uC}{C C':AV->ab->Prop}(hc:∀a s',B5 a->C a s'->C' a s')(h:Av P o E C):Av P o E C':=by
 cases o<;>first|(exact h.elim)|skip
 case call f args=>exact Rr hc h
 case cG x args=>exact O0 hc h
 case makeMap=>exact fun b hb=>hc _ _ (Ys b) (h b hb)
 case gR z=>exact fun b hb=>hc _ _ (LW b 0) (h b hb)
 case oU m x=>exact⟨h.1,h.2.1,fun b hb=>hc _ _ (LW b 0) (h.2.2 b hb)⟩
 case kN sz by' z l c=>
  have h:FW by' z E.s C (xg true E l) (xg true E c):=h
  show FW by' z E.s C' (xg true E l) (xg true E c)
  unfold FW at h⊢
  split at h
  ·exact⟨h.1,h.2.1,h.2.2.1,fun b hb=>hc _ _ (Vx ..) (h.2.2.2 b hb)⟩
  ·exact h
 case store m p v=>
  have h:qB m E.s C (E.x v) (E.x p):=h
  show qB m E.s C' (E.x v) (E.x p)
  unfold qB at h⊢
  split at h
  ·refine⟨h.1,h.2.1,h.2.2.1,?_⟩
   have h4:=h.2.2.2
   unfold O1 at h4⊢
   split at h4
   ·exact⟨h4.1,hc _ _ (LX _) h4.2⟩
   ·exact h4
  ·exact h
 case jq x=>
  have h:uV E.s C (E.x x):=h
  show uV E.s C' (E.x x)
  unfold uV at h⊢
  split at h
  ·unfold Au at h⊢
   split at h
   ·unfold sQ at h⊢
    split at h
    ·exact hc _ _ ⟨rfl,fun _ h=>h⟩ h
    ·exact hc _ _ ⟨rfl,fun _ h=>h⟩ h
    ·exact h
   ·exact h
  ·exact h
 case mapUpdate kk x k v=>
  have h:KT kk E.s (xg true E k) (xg true E v) C (xg true E x):=h
  show KT kk E.s (xg true E k) (xg true E v) C' (xg true E x)
  unfold KT at h⊢
  split at h
  ·unfold Rs at h⊢
   split at h
   ·exact⟨h.1,hc _ _ (LX _) h.2⟩
   ·exact h
  ·exact h
theorem FX{o:uC}{C:AV->ab->Prop}(hx:∀x∈dv o,E.x x=E'.x x)(hs:E.s=E'.s)(h:Av P o E C):Av P o E' C:=by
 have hg:∀x∈dv o,xg true E x=xg true E' x:=fun x h=>by unfold xg;rw[hx x h]
 cases o<;>first|(exact h.elim)|skip
 case call f args=>
  show Cj P f E'.s C (b7 (xg true E') args)
  rw[<-hs,<-gn args hg];exact h
 case cG x args=>
  show xj P (b7 (xg true E') args) E'.s C (xg true E' x)
  rw[<-hs,<-gn args fun y hy=>hg y (List.mem_cons_of_mem _ hy),<-hg x List.mem_cons_self];exact h
 case makeMap=>rw[Av,<-hs];exact h
 case gR z=>rw[Av,<-hs];exact h
 case oU m x=>rw[Av,<-hs,<-hg x List.mem_cons_self];exact h
 case kN sz by' z l c=>rw[Av,<-hs,<-hg l (by simp[dv]),<-hg c (by simp[dv])];exact h
 case store m p v=>rw[Av,<-hs,<-hx p (by simp[dv]),<-hx v (by simp[dv])];exact h
 case jq x=>rw[Av,<-hs,<-hx x List.mem_cons_self];exact h
 case mapUpdate kk x k v=>rw[Av,<-hs,<-hg x (by simp[dv]),<-hg k (by simp[dv]),<-hg v (by simp[dv])];exact h
theorem SZ{a:AV}(h:Qo a=true)(hv:dF a=true):view a=a:=by
 cases a<;>first|rfl|skip
 ·rename_i o z m cs
  cases o
  ·rfl
  ·cases h
 ·cases hv
 ·cases hv
 ·cases h
theorem mF.put(h:mF E E')(d:Option Nat)(v:AV):mF (E.put d v) (E'.put d v):=by
 cases d with
 |none=>exact h
 |some d=>exact⟨fun i=>by show look ((d,v)::E.e) i=look ((d,v)::E'.e) i;rw[aQ,aQ,h.e],h.lp,h.s⟩
theorem mF.Rf(h:mF E E')(s:ab):mF {E with s:=s} {E' with s:=s}:=⟨h.e,h.lp,rfl⟩
theorem Uq{x:IX}(h:view (E.x x)=E.x x):mF (E.drain x) E:=by
 cases x with
 |c a=>exact mF.refl _
 |t i=>
  refine⟨fun j=>?_,fun _=>Iff.rfl,rfl⟩
  show look ((i,view (look E.e i))::E.e) j=_
  rw[aQ]
  by_cases e:i=j
  ·subst e;simp;exact h
  ·simp[e]
theorem YZ{o:ai}{K:St->Prop}(hK:∀U U',mF U U'->K U->K U')(h:YG P o E K):Ri P o E K:=by
 obtain⟨d,op,g⟩:=o
 cases g with
 |some _=>exact h.elim
 |none=>
 replace h:=h.2
 cases op<;>first|(exact h.elim)|skip
 case call f args=>
  show uY P f E d K (b7 (xg true E) args)
  have h:Cj P f E.s (VQ E d K) (b7 (xg true E) args):=h
  cases hh:b7 (xg true E) args<;>rw[hh]at h<;>exact h
 case cG x args=>
  show zj P E (b7 (xg true E) args) d K (xg true E x)
  have h:xj P (b7 (xg true E) args) E.s (VQ E d K) (xg true E x):=h
  cases hh:b7 (xg true E) args<;>cases hx:xg true E x<;>rw[hh,hx]at h<;>exact h
 case makeMap=>exact h
 case gR z=>exact h
 case oU m x=>exact h
 case kN sz by' z l c=>
  show BA by' z E d K (xg true E l) (xg true E c)
  have h:FW by' z E.s (VQ E d K) (xg true E l) (xg true E c):=h
  cases hl:xg true E l<;>cases hc:xg true E c<;>rw[hl,hc]at h<;>exact h
 case store m p v=>
  show N5 m E p v d K (E.x v)
  have h:qB m E.s (VQ E d K) (E.x v) (E.x p):=h
  unfold qB at h
  split at h
  ·rename_i b off hp
   obtain⟨h1,h2,h3,h4⟩:=h
   refine⟨h1,h3,?_⟩
   have hd:=Uq (SZ h2 h1)
   rw[hp]
   show Rl d K (S4 (E.drain v) b off (bg (E.x v)) ((E.drain v).s b))
   rw[hd.s]
   unfold O1 at h4
   split at h4
   ·rename_i eR ho
    rw[ho]
    show Rl d K (wrS (E.drain v) b (eA off (bg (E.x v)) eR))
    unfold eA
    rw[decide_eq_true h4.1]
    refine hK _ _ ?_ h4.2
    have e:mF {E with s:=E.s.set b (.cells (setAt eR off (bg (E.x v))))} {E.drain v with s:=(E.drain v).s.set b (.cells (setAt eR off (bg (E.x v))))}:=by rw[hd.s];exact hd.symm.Rf _
    exact e.put d _
   ·exact h4.elim
  ·exact h.elim
 case jq x=>
  show oz E d K (E.x x)
  have h:uV E.s (VQ E d K) (E.x x):=h
  unfold uV at h
  split at h
  ·rename_i b off hx
   rw[hx]
   unfold oz
   simp only
   unfold Au at h
   split at h
   ·rename_i cs he
    first|exact h|(rw[he];exact h)
   ·exact h.elim
  ·exact h.elim
 case mapUpdate kk x k v=>
  show xz kk E (xg true E k) (xg true E v) d K (xg true E x)
  have h:KT kk E.s (xg true E k) (xg true E v) (VQ E d K) (xg true E x):=h
  unfold KT at h
  split at h
  ·rename_i b hx
   rw[hx]
   show Vw kk b E (xg true E k) (xg true E v) d K (E.s b)
   unfold Rs at h
   split at h
   ·rename_i es he
    rw[he];exact h
   ·exact h.elim
  ·exact h.elim
theorem adP{o:ai}{g:Bool}(h:od o E=true)(s:ab):pv o.op (xg g {E with s:=s}) {E with s:=s}=pv o.op (xg g E) E:=by
 have hf:xg g {E with s:=s}=xg g E:=by funext x;cases x<;>rfl
 rw[hf]
 obtain⟨d,op,gg⟩:=o
 cases op<;>first|rfl|skip
 case ib tr x=>cases tr<;>rfl
 case slice sz x lo hi mx=>cases mx<;>rfl
 case load m multi x=>
  have h:nV (E.x x)=true:=h
  have hn:nV (xg g E x)=true:=by
   unfold xg Ak
   split
   ·rename_i b a hb
    rw[hb]at h
    cases hc:((b==g)||b)&&inner a
    ·rfl
    ·exact h
   ·exact h
  show oQ multi (rd {E with s:=s} (xg g E x) m)=oQ multi (rd E (xg g E x) m)
  cases he:xg g E x<;>first|rfl|(rw[he]at hn;cases hn)
 case bw z m x=>cases h
 case mM k x=>cases h
 case len c x=>
  have h:(!Nat.beq c 2)=true:=h
  show ER s c (xg g E x)=ER E.s c (xg g E x)
  match c,h with
  |0,_=>cases xg g E x<;>rfl
  |1,_=>cases xg g E x<;>rfl
  |c+3,_=>cases xg g E x<;>rfl
theorem ak4{o:ai}(h:od o E=true)(s:ab):qv o {E with s:=s}=qv o E:=by
 unfold qv
 split
 ·exact adP h s
 ·rename_i t want _
  show Qy o.op want {E with s:=s} (look E.e t)=Qy o.op want E (look E.e t)
  unfold Qy
  split
  ·show VE _ _ _=VE _ _ _
   rw[adP h s]
  ·show VE _ _ _=VE _ _ _
   rw[adP h s]
  ·rfl
theorem ad3{o:ai}(h:od o E=true)(s:ab)(f:IX->AV):qe f s o.op=qe f E.s o.op:=by
 obtain⟨d,op,gg⟩:=o
 cases op<;>first|rfl|(cases h;done)
theorem ah8{o:ai}(h:od o E=true)(s:ab):Ed o {E with s:=s}=Ed o E:=by
 have hf:∀g,xg g {E with s:=s}=xg g E:=fun g=>by funext x;cases x<;>rfl
 unfold Ed
 split
 ·rw[hf];exact ad3 h s _
 ·rename_i t want _
  show Rk o.op want {E with s:=s} (look E.e t)=Rk o.op want E (look E.e t)
  unfold Rk
  split
  ·show Re _ (qe (xg _ {E with s:=s}) s o.op)=Re _ _
   rw[hf,ad3 h s]
  ·show Re _ (qe (xg _ {E with s:=s}) s o.op)=Re _ _
   rw[hf,ad3 h s]
  ·rfl
theorem IK(d:Option Nat)(s:ab):aZ {E with s:=s} d=aZ E d:=by cases d<;>rfl
theorem Y2.Rf{o:ai}{v:AV}(hy:Y2 P E o v)(h:od o E=true)(s:ab):Y2 P {E with s:=s} o v:=by
 cases hy with
 |eR _ _ h0 hf hv hy=>
  refine .eR o v h0 (by rw[IK];exact hf) hv ?_
  cases hy with
  |pure _ _ hq=>exact .pure o v (by rw[ak4 h s];exact hq)
  |ib d x hi=>exact .ib (E:={E with s:=s}) d x hi
  |call=>cases h
  |O4=>cases h
  |cG=>cases h
  |F8=>cases h
  |eff _ _ hq=>exact .eff o v (by rw[ah8 h s];exact hq)
 |sto m c x eR h0 h1 h2 h3=>exact .sto (E:={E with s:=s}) m c x eR h0 h1 h2 h3
 |alo d z h0 h1=>exact .alo d z h0 h1
 |app d sz bytes x y _ h0 h1=>exact .app d sz bytes x y v h0 h1
 |lod d off i x cs o s' m ds h0 h1 h2 h3 h4=>exact .lod d off i x cs o s' m ds h0 h1 h2 h3 h4
def behind(E:St)(d:Option Nat)(a:AV)(s:ab):St:={E with s:=s}.put d a
theorem qd(E:St)(d:Option Nat)(a:AV)(i:Nat):look (E.put d a).e i=if d=some i then a else look E.e i:=by
 cases d with
 |none=>simp[St.put]
 |some d=>
  show look ((d,a)::E.e) i=_
  rw[aQ]
  by_cases e:d=i
  ·subst e;simp
  ·simp[e]
theorem LM(E:St)(d:Option Nat)(a:AV):(E.put d a).s=E.s/\(E.put d a).lp=E.lp:=by cases d<;>exact⟨rfl,rfl⟩
theorem OX(E:St)(d:Option Nat)(a:AV)(s:ab):(behind E d a s).s=s:=(LM _ d a).1
theorem wE{d:Option Nat}{l:List Nat}(h:gZ d l=true){i:Nat}(hi:i∈l):d≠some i:=fun e=>by
 subst e
 simp[gZ]at h
 exact h hi
theorem VK{y x:ai}(h:apB y x=true):Eb y x=true/\gZ (sV y) (cy x)=true/\gZ x.dst (cy y)=true/\∀i,sV y=some i->x.dst≠some i:=by
 unfold apB at h
 simp only[Bool.and_eq_true]at h
 refine⟨h.1.1.1,h.1.1.2,h.1.2,fun i hi hd=>?_⟩
 have:=h.2
 rw[hi,hd]at this
 simp at this
theorem YW{y:ai}{d:Option Nat}{v:AV}(hd:gZ d (cy y)=true)(hf:aZ E d=true)(hv:bq v=true):OQ y E (E.put d v):=by
 have key:∀i,i∈cy y->look E.e i=look (E.put d v).e i:=fun i hi=>by rw[qd,if_neg (wE hd hi)]
 refine⟨fun x hx=>?_,fun t want hg=>key t (List.mem_append_left _ (by rw[hg];exact List.mem_cons_self)),(LM E d v).1.symm,fun x _ g m=>?_⟩
 ·cases x with
  |c a=>rfl
  |t i=>exact key i (List.mem_append_right _ (il hx))
 ·cases he:xg g E x<;>try rfl
  ·rename_i b off
   show BM m off (E.s b)=BM m off ((E.put d v).s b)
   rw[(LM E d v).1]
  ·rename_i c off
   show mO m off (look E.e c)=mO m off (look (E.put d v).e c)
   rw[qd]
   by_cases e:d=some c
   ·rw[if_pos e,kc hv]
    rw[e]at hf
    exact kc hf m off
   ·rw[if_neg e]
theorem Vm{y:ai}{d:Option Nat}{v:AV}{s:ab}(hd:gZ d (cy y)=true):od y (behind E d v s)=od y E:=by
 obtain⟨dd,op,g⟩:=y
 cases op<;>first|rfl|skip
 rename_i m mu x
 show nV ((behind E d v s).x x)=nV (E.x x)
 cases x with
 |c a=>rfl
 |t i=>
  show nV (look (behind E d v s).e i)=nV (look E.e i)
  unfold behind
  rw[qd,if_neg (wE hd (List.mem_append_right _ (il (List.mem_cons_self))))]
theorem Y2.behind{y:ai}{v av:AV}{d:Option Nat}{s:ab}(hy:Y2 P E y v)(h:od y E=true)(hd:gZ d (cy y)=true)(hf:aZ E d=true)(hv:B5 av)(hne:∀i,sV y=some i->d≠some i):Y2 P (behind E d av s) y v:=by
 have h1:Y2 P {E with s:=s} y v:=hy.Rf h s
 unfold AB.behind
 refine h1.Tb (YW hd (by rw[IK];exact hf) hv.1) (fun i hi=>?_) (fun i hi hf=>?_)
 ·rw[qd,if_neg (hne i (AH hi))]
 ·rw[(LM _ d av).2];exact hf
theorem Mb{y:ai}{v av:AV}{d:Option Nat}{s:ab}(hd:gZ d (cy y)=true)(hne:∀i,sV y=some i->d≠some i):mF (bQ (behind E d av s) y v) (AB.behind (bQ E y v) d av s):=by
 refine⟨fun i=>?_,fun x=>?_,?_⟩
 ·rw[dU]
  unfold AB.behind
  rw[qd,qd]
  show _=if d=some i then av else look (bQ E y v).e i
  rw[dU]
  by_cases h1:sV y=some i
  ·rw[if_pos h1,if_neg (hne i h1),if_pos h1]
  ·rw[if_neg h1,if_neg h1]
   by_cases h2:d=some i
   ·rw[if_pos h2,if_pos h2]
    refine KX fun hh=>?_
    exact wE hd (pO hh) h2
   ·rw[if_neg h2,if_neg h2]
 ·rw[iZ]
  unfold AB.behind
  rw[(LM _ d av).2,(LM _ d av).2]
  show _↔x∈(bQ E y v).lp
  rw[iZ]
 ·rw[nx,OX,OX]
def bE(P:Program)(T:List Nat):List Item->(St->Prop)->St->Prop
 |[],K,E=>∃U,mF U E/\K U
 |(k,_,o)::r,K,E=>if 3<=k then∃U,mF U E/\Ri P o U (fun ρ=>gY T ρ.e=true/\KU P T r ρ K)else if 2<=k then aZ E o.dst=true/\o.g=none/\Av P o.op E (fun a s=>bE P T r K (behind E o.dst a s))
  else∃v,Y2 P E o v/\CT T o v/\(k=1->od o E=true)/\bE P T r K (bQ E o v)
theorem FZ{K:St->Prop}:∀(l:List Item)(E:St),KU P T l E K->bE P T l K E
 |[],E,h=>⟨E,mF.refl _,h⟩
 |(0,_,o)::r,E,h=>by
  obtain⟨v,h1,h2,h3⟩:=Nu (show q2 P o E (fun U=>gY T U.e=true/\KU P T r U K) from h)
  unfold bE
  rw[if_neg (by decide),if_neg (by decide)]
  exact⟨v,h1,CU fun i c hc=>qg h2 i c hc,fun e=>(by cases e),FZ r _ h3⟩
 |(1,_,o)::r,E,h=>by
  obtain⟨h0,h⟩:=h
  obtain⟨v,h1,h2,h3⟩:=Nu (show q2 P o E (fun U=>gY T U.e=true/\KU P T r U K) from h)
  unfold bE
  rw[if_neg (by decide),if_neg (by decide)]
  exact⟨v,h1,CU fun i c hc=>qg h2 i c hc,fun _=>h0,FZ r _ h3⟩
 |(k+3,_,o)::r,E,h=>by
  have h:Ri P o E (fun U=>gY T U.e=true/\KU P T r U K):=h
  unfold bE
  rw[if_pos (by omega)]
  exact⟨E,mF.refl _,h⟩
 |(2,_,o)::r,E,h=>by
  have h:YG P o E (fun U=>gY T U.e=true/\KU P T r U K):=h
  unfold bE
  rw[if_neg (by decide),if_pos (by decide)]
  unfold YG at h
  split at h
  ·rename_i hg
   exact⟨h.1,hg,Aw (fun a s _ hk=>FZ r _ hk.2) h.2⟩
  ·exact h.elim
theorem Vl{o:ai}(h:mF E E'):od o E=od o E':=by
 obtain⟨d,op,g⟩:=o
 cases op<;>first|rfl|skip
 rename_i m mu x
 show nV (E.x x)=nV (E'.x x)
 cases x with
 |c a=>rfl
 |t i=>show nV (look E.e i)=nV (look E'.e i);rw[h.e]
theorem FU{K:St->Prop}:∀(l:List Item){E E':St},mF E E'->bE P T l K E->bE P T l K E'
 |[],_,_,h,⟨U,h1,h2⟩=>⟨U,h1.trans h,h2⟩
 |(k,i,o)::r,E,E',h,hb=>by
  unfold bE at hb⊢
  by_cases hk3:3<=k
  ·rw[if_pos hk3]at hb⊢
   obtain⟨U,h1,h2⟩:=hb
   exact⟨U,h1.trans h,h2⟩
  rw[if_neg hk3]at hb⊢
  by_cases hk:2<=k
  ·rw[if_pos hk]at hb⊢
   refine⟨by rw[<-h.free];exact hb.1,hb.2.1,?_⟩
   refine FX (E:=E) (fun x _=>by cases x with|c a=>rfl|t i=>exact h.e i) h.s (Aw (fun a s _ hh=>?_) hb.2.2)
   exact FU r ((h.Rf s).put o.dst a) hh
  ·rw[if_neg hk]at hb⊢
   obtain⟨v,h1,h2,h3,h4⟩:=hb
   exact⟨v,h1.eqv h,h2,fun e=>by rw[<-Vl h];exact h3 e,FU r (h.bQ o v) h4⟩
theorem Eg{o y:ai}{v:AV}(hn:gZ (sV y) (cy o)=true)(hdr:Eb y o=true):od o (bQ E y v)=od o E:=by
 obtain⟨d,op,g⟩:=o
 cases op<;>first|rfl|skip
 rename_i m mu x
 show nV ((bQ E y v).x x)=nV (E.x x)
 cases x with
 |c a=>rfl
 |t i=>
  have hi:i∈cy ⟨d,.load m mu (.t i),g⟩:=List.mem_append_right _ (il List.mem_cons_self)
  show nV (look (bQ E y v).e i)=nV (look E.e i)
  rw[dU,if_neg (wE hn hi),KX]
  have:=List.all_eq_true.1 hdr i hi
  simpa using this
theorem abI{K:St->Prop}{kx ix:Nat}{x:ai}(hkx:¬2<=kx)(hTx:Zt T x):∀(pre:List Item)(post:List Item)(E:St),zc T E->(∀y∈pre,¬2<=y.1/\ap2 y.2.2 x=true/\Zt T y.2.2)->bE P T (pre++(kx,ix,x)::post) K E->
 ∃v,Y2 P E x v/\CT T x v/\(kx=1->od x E=true)/\bE P T (pre++post) K (bQ E x v)
 |[],post,E,_,_,h=>by
  have h:bE P T ((kx,ix,x)::post) K E:=h
  unfold bE at h
  rw[if_neg (by omega),if_neg hkx]at h
  exact h
 |(k,i,o)::pre,post,E,hN,hap,h=>by
  have h:bE P T ((k,i,o)::(pre++(kx,ix,x)::post)) K E:=h
  obtain⟨hk,acN,hT0⟩:=hap _ List.mem_cons_self
  unfold bE at h
  rw[if_neg (by omega),if_neg hk]at h
  obtain⟨v,h1,h2,h3,h4⟩:=h
  obtain⟨u,i1,i2,i3,i4⟩:=abI hkx hTx pre post (bQ E o v) (tP hN h2) (fun y hy=>hap y (List.mem_cons_of_mem _ hy)) h4
  obtain⟨a1,a2,a3,a4,a5,a6,a7,c1,c2⟩:=OV acN
  have hx:Y2 P E x u:=i1.Tb (xf h1 a1 a4 c2 hN hT0).symm
   (fun i hi=>(mg fun e=>a3 i i e (AH hi) rfl).symm)
   (fun i hi hf=>nU (fun z hz _=>(iZ o v z).2 (.inl hz)) hf)
  have ho:Y2 P (bQ E x u) o v:=h1.Tb (xf hx a2 a5 c1 hN hTx)
   (fun i hi=>mg fun e=>a3 i i (AH hi) e rfl)
   (fun i hi hf=>nU (fun z hz hzi=>by
     rcases(iZ _ _ z).1 hz with hz|⟨j,j1,_,j3⟩
     ·exact hz
     ·rw[hzi]at j3;exact(i2 j j1 i (hT0 i hi) j3).elim) hf)
  have Gx:mF (bQ (bQ E o v) x u) (bQ (bQ E x u) o v):=IS a3 a6 a7
  refine⟨u,hx,i2,fun e=>by rw[<-Eg a1 a4];exact i3 e,?_⟩
  show bE P T ((k,i,o)::(pre++post)) K (bQ E x u)
  unfold bE
  rw[if_neg (by omega),if_neg hk]
  exact⟨v,ho,h2,fun e=>by rw[Eg a2 a5];exact h3 e,FU _ Gx i4⟩
theorem abJ{K:St->Prop}{kx ix:Nat}{x:ai}(hkx:2<=kx)(agN:¬3<=kx):∀(pre:List Item)(post:List Item)(E:St),(∀y∈pre,y.1=1/\apB y.2.2 x=true)->bE P T (pre++(kx,ix,x)::post) K E->
 aZ E x.dst=true/\x.g=none/\Av P x.op E (fun a s=>bE P T (pre++post) K (behind E x.dst a s))
 |[],post,E,_,h=>by
  have h:bE P T ((kx,ix,x)::post) K E:=h
  unfold bE at h
  rw[if_neg agN,if_pos hkx]at h
  exact h
 |(k,i,o)::pre,post,E,hap,h=>by
  have h:bE P T ((k,i,o)::(pre++(kx,ix,x)::post)) K E:=h
  obtain⟨rfl,acN⟩:=hap _ List.mem_cons_self
  unfold bE at h
  rw[if_neg (by omega),if_neg (by omega)]at h
  obtain⟨v,h1,h2,h3,h4⟩:=h
  obtain⟨i1,i2,i3⟩:=abJ hkx agN pre post (bQ E o v) (fun y hy=>hap y (List.mem_cons_of_mem _ hy)) h4
  obtain⟨a1,a2,a3,a4⟩:=VK acN
  have hf:aZ E x.dst=true:=by
   cases hd:x.dst with
   |none=>rfl
   |some d=>
    rw[hd]at i1
    have e:bq (look (bQ E o v).e d)=bq (look E.e d):=mg fun e=>a4 d e hd
    show bq (look E.e d)=true
    rw[<-e];exact i1
  refine⟨hf,i2,FX (E:=bQ E o v) (fun y hy=>?_) (nx o v) (Aw (fun av s hv hb=>?_) i3)⟩
  ·cases y with
   |c a=>rfl
   |t j=>
    have hj:j∈cy x:=List.mem_append_right _ (il hy)
    show look (bQ E o v).e j=look E.e j
    rw[dU,if_neg (wE a2 hj),KX]
    have:=List.all_eq_true.1 a1 j hj
    simpa using this
  ·show bE P T ((1,i,o)::(pre++post)) K (behind E x.dst av s)
   unfold bE
   rw[if_neg (by omega),if_neg (by omega)]
   refine⟨v,h1.behind (h3 rfl) a3 hf hv a4,h2,fun _=>by rw[Vm a3];exact h3 rfl,?_⟩
   exact FU _ (Mb a3 a4).symm hb
end
section
variable{P:Program}{n:Nat}{D:List Deferred}{ops:Array Oper}{T:List Nat}
def Bef(ops:Array Oper)(j i:Nat):Prop:=∀L:Nat->Prop,(∀m,L m->∀d,iw ops m d=true->L d)->(∀d,iw ops j d=true->L d)->L i
theorem K9(acc:List Nat)(i:Nat):∀(l:List Edge)(s:Nat),(l.foldl (fun s e=>bif Region.binds .any e then s |||(1<<<e.on)|||acc.getD e.on 0 else s) s).testBit i=true->
 s.testBit i=true\/∃e∈l,Region.binds .any e=true/\(i=e.on\/(acc.getD e.on 0).testBit i=true)
 |[],s,h=>.inl h
 |e::l,s,h=>by
  rw[List.foldl_cons]at h
  rcases K9 acc i l _ h with h|⟨e',h1,h2⟩
  ·cases hb:Region.binds .any e with
   |false=>rw[hb]at h;exact .inl h
   |true=>
    rw[hb,cond_true,Nat.testBit_or,Nat.testBit_or,Bool.or_eq_true,Bool.or_eq_true]at h
    rcases h with(h|h)|h
    ·exact .inl h
    ·refine .inr ⟨e,List.mem_cons_self,hb,.inl ?_⟩
     rw[Nat.testBit_shiftLeft,Bool.and_eq_true,decide_eq_true_eq]at h
     have:=Nat.testBit_one_eq_true_iff_self_eq_zero.1 h.2
     omega
    ·exact .inr ⟨e,List.mem_cons_self,hb,.inr h⟩
  ·exact .inr ⟨e',List.mem_cons_of_mem _ h1,h2⟩
theorem LA:∀(l:List Oper)(acc:List Nat),l=ops.toList.drop acc.length->(∀j i,(acc.getD j 0).testBit i=true->Bef ops j i)->∀j i,((Lz l acc).getD j 0).testBit i=true->Bef ops j i
 |[],acc,_,h=>h
 |o::l,acc,hl,h=>by
  have ho:ops[acc.length]? =some o:=by
   have:(ops.toList.drop acc.length)[0]? =some o:=by rw[<-hl];rfl
   simpa using this
  refine LA l (acc++[HG acc o]) ?_ fun j i hb=>?_
  ·have:(ops.toList.drop acc.length).tail=l:=by rw[<-hl];rfl
   rw[<-this];simp
  ·by_cases hj:j<acc.length
   ·refine h j i ?_
    simpa[List.getD_eq_getElem?_getD,List.getElem?_append_left hj]using hb
   ·by_cases he:j=acc.length
    ·subst he
     have hb:(HG acc o).testBit i=true:=by simpa[List.getD_eq_getElem?_getD]using hb
     unfold HG at hb
     rcases K9 acc i _ _ hb with h0|⟨e,e1,e2,e3⟩
     ·simp at h0
     ·intro L hc hd
      have hle:L e.on:=hd _ ((nE ho).2 ⟨e,by simpa using e1,e2,rfl⟩)
      rcases e3 with rfl|e3
      ·exact hle
      ·exact h e.on i e3 L hc (hc _ hle)
    ·have:(acc++[HG acc o]).getD j 0=0:=by
      rw[List.getD_eq_getElem?_getD,List.getElem?_eq_none (by simp;omega)];rfl
     rw[this]at hb
     simp at hb
theorem LK{ms:List Nat}:∀{l:List Item},Nn ops ms l=true->l.Pairwise fun x y=>BI ops ms x y=true
 |[],_=>.nil
 |x::r,h=>by
  simp only[Nn,Bool.and_eq_true]at h
  exact .cons (fun y hy=>List.all_eq_true.1 h.1 y hy) (LK h.2)
structure VH(ops:Array Oper)(L0 L:List Item)(aM:Array Bool):Prop where
 size:aM.size=ops.size
 sub:L.Sublist L0
 un:∀x∈L,aM.getD x.2.1 true=false
 li:∀k,k<ops.size->(∀x∈L,x.2.1≠k)->aM.getD k false=true
 cl:∀m,aM.getD m false=true->∀i,iw ops m i=true->aM.getD i false=true
theorem AN{l:Array Bool}{i j:Nat}{b:Bool}(h:j≠i):(l.setIfInBounds i true).getD j b=l.getD j b:=by simp[Array.getElem?_setIfInBounds,h.symm]
theorem rl{l:Array Bool}{i:Nat}{b:Bool}(h:i<l.size):(l.setIfInBounds i true).getD i b=true:=by simp[h]
theorem yb{l:Array Bool}{i j:Nat}(h:l.getD j false=true):(l.setIfInBounds i true).getD j false=true:=by
 by_cases e:j=i
 ·subst e
  rcases Nat.lt_or_ge j l.size with hj|hj
  ·exact rl hj
  ·simp[Array.getElem?_eq_none hj]at h
 ·rw[AN e];exact h
theorem TF{x:Item}(h:Ht P T n ops x=true)(hk:¬2<=x.1):Zt T x.2.2:=fun c hc=>by
 simp only[Ht,Bool.and_eq_true]at h
 have h2:=h.2
 unfold W8 at hc
 split at hc
 ·rename_i hx
  rw[hx]at h2
  injection hc with hc;subst hc
  rcases Bool.or_eq_true_iff.1 h2 with h2|h2
  ·exact(hk (of_decide_eq_true h2)).elim
  ·simpa using h2
 ·rename_i hx
  rw[hx]at h2
  injection hc with hc;subst hc;simpa using h2
 ·cases hc
theorem zc.behind{E:St}(h:zc T E){d:Option Nat}{a:AV}{s:ab}(ha:B5 a):zc T (behind E d a s):=fun i c hc=>by
 unfold AB.behind
 rw[qd]
 by_cases e:d=some i
 ·rw[if_pos e];exact ha.2 c
 ·rw[if_neg e];exact h i c hc
theorem aip{K:St->Prop}{Q:Exit->Act->World->Prop}(G₀:Gh)(w₀:World){L0:List Item}(hI:∀x∈L0,Ht P T n ops x=true)(hP:L0.Pairwise fun x y=>BI ops (Lz ops.toList []) x y=true)
 (hn:∀G' E' a' w',Inv G' n D E' a' w'->aC G₀ w₀ G' w'->K E'->Q .normal a' w'):
 ∀(m:Nat)(L:List Item),L.length=m->∀(aM:Array Bool)(E:St),VH ops L0 L aM->zc T E->bE P T L K E->∀(G:Gh)(a:Act)(w:World),Inv G n D E a w->aC G₀ w₀ G w->wpAny P .any ops Q m aM a w:=by
 intro m
 induction m with
 |zero=>
  intro L hL aM E hg _ hb G a w h hp
  obtain rfl:=List.eq_nil_of_length_eq_zero hL
  refine⟨List.eq_nil_iff_forall_not_mem.2 fun j hj=>?_,?_⟩
  ·obtain⟨r1,r2,r3⟩:=kO hj
   have:=lX (hg.li j r1 fun x hx=>by cases hx)
   rw[r2]at this;cases this
  ·obtain⟨U,t1,t2⟩:=hb
   exact hn G U a w (h.eqv t1.symm) hp t2
 |succ m ih=>
  intro L hL aM E hg hN hb G a w h hp
  have hPL:=hP.sublist hg.sub
  refine⟨fun h0=>?_,fun i hi=>?_⟩
  ·cases L with
   |nil=>simp at hL
   |cons x r=>
    have hx:=hI x (hg.sub.subset List.mem_cons_self)
    simp only[Ht,Bool.and_eq_true]at hx
    have zA:x.2.1∈Region.ready .any ops aM:=by
     cases ho:ops[x.2.1]? with
     |none=>rw[ho]at hx;simp at hx
     |some o=>
      rw[ho]at hx
      have hx1:(iB P n ops o x.2.2&&o.after.all fun e=>!Region.binds .any e||(decide (e.on<ops.size)&&e.on !=x.2.1))=true:=hx.1
      rw[Bool.and_eq_true]at hx1
      refine mem_ready.2 ⟨hg.un x List.mem_cons_self,o,ho,fun e he hbn=>?_⟩
      have h3:=Array.all_eq_true_iff_forall_mem.1 hx1.2 e he
      rw[hbn]at h3
      simp only[Bool.not_true,Bool.false_or,Bool.and_eq_true,decide_eq_true_eq,bne_iff_ne]at h3
      refine hg.li e.on h3.1 fun y hy=>?_
      rcases List.mem_cons.1 hy with rfl|hy
      ·exact fun e'=>h3.2 e'.symm
      ·intro e'
       have:=(List.pairwise_cons.1 hPL).1 y hy
       simp only[BI,Bool.and_eq_true,Bool.not_eq_true']at this
       have hb2:iw ops x.2.1 y.2.1=true:=(nE ho).2 ⟨e,he,hbn,e'.symm⟩
       rw[this.1]at hb2;cases hb2
    rw[h0]at zA
    cases zA
  ·obtain⟨r1,r2,r3⟩:=kO hi
   have hex:∃x∈L,x.2.1=i:=by
    apply Classical.byContradiction
    intro hno
    have:=lX (hg.li i r1 fun x hx e=>hno ⟨x,hx,e⟩)
    rw[r2]at this;cases this
   obtain⟨⟨kx,ix,x⟩,hx,e0⟩:=hex
   have e0:ix=i:=e0
   subst e0
   obtain⟨pre,post,rfl⟩:=List.append_of_mem hx
   have hxi:=hI _ (hg.sub.subset hx)
   have hPw:=List.pairwise_append.1 hPL
   have hpx:∀y∈pre,BI ops (Lz ops.toList []) y (kx,ix,x)=true:=fun y hy=>hPw.2.2 y hy _ List.mem_cons_self
   have hxp:∀y∈post,BI ops (Lz ops.toList []) (kx,ix,x) y=true:=(List.pairwise_cons.1 hPw.2.1).1
   have WL:∀y∈pre,abr y.1 kx y.2.2 x=true:=fun y hy=>by
    have h1:=hpx y hy
    simp only[BI,Bool.and_eq_true,Bool.or_eq_true]at h1
    rcases h1.2.2 with h2|h2
    ·have hbf:=LA (ops:=ops) ops.toList [] (by simp) (fun j i hh=>by simp at hh) _ _ h2
     have:=lX (hbf (fun m=>aM.getD m false=true) hg.cl r3)
     rw[hg.un y (List.mem_append_left _ hy)]at this;cases this
    ·exact h2
   have hne:∀y∈pre++post,y.2.1≠ix:=fun y hy=>by
    rcases List.mem_append.1 hy with hy|hy
    ·have:=hpx y hy
     simp only[BI,Bool.and_eq_true,bne_iff_ne]at this
     exact this.2.1
    ·have:=hxp y hy
     simp only[BI,Bool.and_eq_true,bne_iff_ne]at this
     exact fun e=>this.2.1 e.symm
   have hg':VH ops L0 (pre++post) (aM.setIfInBounds ix true):=by
    refine⟨by simp[hg.size],((List.sublist_cons_self _ post).append_left pre).trans hg.sub,fun y hy=>?_,fun k hk hno=>?_,fun m' hm' d hd=>?_⟩
    ·rw[AN (hne y hy)]
     refine hg.un y ?_
     rcases List.mem_append.1 hy with hy|hy
     ·exact List.mem_append_left _ hy
     ·exact List.mem_append_right _ (List.mem_cons_of_mem _ hy)
    ·by_cases e:k=ix
     ·subst e;exact rl (by rw[hg.size];exact hk)
     ·refine yb (hg.li k hk fun y hy=>?_)
      rcases List.mem_append.1 hy with hy|hy
      ·exact hno y (List.mem_append_left _ hy)
      ·rcases List.mem_cons.1 hy with rfl|hy
       ·exact fun e'=>e e'.symm
       ·exact hno y (List.mem_append_right _ hy)
    ·refine yb ?_
     by_cases e:m'=ix
     ·subst e;exact r3 d hd
     ·rw[AN e]at hm';exact hg.cl m' hm' d hd
   have hlen:(pre++post).length=m:=by simp at hL⊢;omega
   have hxo:iB P n ops ops[ix] x=true:=by
    simp only[Ht,Bool.and_eq_true]at hxi
    have h1:=hxi.1
    rw[Array.getElem?_eq_getElem r1]at h1
    have h1:(iB P n ops ops[ix] x&&_)=true:=h1
    rw[Bool.and_eq_true]at h1
    exact h1.1
   by_cases hk3:3<=kx
   ·obtain rfl:pre=[]:=by
     cases pre with
     |nil=>rfl
     |cons y pre=>
      have h1:=WL y List.mem_cons_self
      obtain⟨ky,iy,yo⟩:=y
      obtain⟨k,rfl⟩:∃k,kx=k+3:=⟨kx -3,by omega⟩
      match ky with
      |0=>cases h1
      |1=>cases h1
      |_+2=>cases h1
    have hb:bE P T ((kx,ix,x)::post) K E:=hb
    unfold bE at hb
    rw[if_pos hk3]at hb
    obtain⟨U,t1,t2⟩:=hb
    refine qz (o:=ops[ix]) (by simp[r1]) (gV (h.eqv t1.symm) hxo t2 fun G' E' a' w' k1 k2 k3=>?_)
    exact ih ([]++post) hlen _ E' hg' (fun i c hc=>qg k3.1 i c hc) (FZ _ _ k3.2) G' a' w' k1 (hp.trans k2)
   by_cases hk:2<=kx
   ·have hap:∀y∈pre,y.1=1/\apB y.2.2 x=true:=fun y hy=>by
     have h1:=WL y hy
     obtain⟨ky,iy,yo⟩:=y
     obtain rfl:kx=2:=by omega
     match ky with
     |0=>cases h1
     |1=>exact⟨rfl,h1⟩
     |_+2=>cases h1
    obtain⟨p1,p2,p3⟩:=abJ hk hk3 pre post E hap hb
    have hbb:YG P x E (fun U=>zc T U/\bE P T (pre++post) K U):=by
     unfold YG
     rw[p2]
     exact⟨p1,Aw (fun av s hv hh=>⟨hN.behind hv,hh⟩) p3⟩
    have hK':∀U U',mF U U'->(zc T U/\bE P T (pre++post) K U)->zc T U'/\bE P T (pre++post) K U':=fun U U' e hh=>⟨fun i c hc=>by rw[<-e.e i];exact hh.1 i c hc,FU _ e hh.2⟩
    refine qz (o:=ops[ix]) (by simp[r1]) (gV h hxo (YZ hK' hbb) fun G' E' a' w' k1 k2 k3=>?_)
    exact ih (pre++post) hlen _ E' hg' k3.1 k3.2 G' a' w' k1 (hp.trans k2)
   ·have hap:∀y∈pre,¬2<=y.1/\ap2 y.2.2 x=true/\Zt T y.2.2:=fun y hy=>by
     have h1:=WL y hy
     have hyT:=fun hh=>TF (hI y (hg.sub.subset (List.mem_append_left _ hy))) hh
     obtain⟨ky,iy,yo⟩:=y
     match ky,kx,hk with
     |0,0,_=>exact⟨fun hh=>absurd hh (by simp),h1,hyT (by simp)⟩
     |0,1,_=>exact⟨fun hh=>absurd hh (by simp),h1,hyT (by simp)⟩
     |1,0,_=>exact⟨fun hh=>absurd hh (by simp),h1,hyT (by simp)⟩
     |1,1,_=>exact⟨fun hh=>absurd hh (by simp),h1,hyT (by simp)⟩
     |k+2,0,_=>cases h1
     |k+2,1,_=>cases h1
     |_,k+2,hk=>exact(hk (by omega)).elim
    obtain⟨v,p1,p2,p3,p4⟩:=abI hk (TF hxi hk) pre post E hN hap hb
    refine qz (o:=ops[ix]) (by simp[r1]) (Y2.run h hxo p1 fun G' a' w' k1 k2=>?_)
    exact ih (pre++post) hlen _ (bQ E x v) hg' (tP hN p2) p4 G' a' w' k1 (hp.trans k2)
theorem acq(hm:P.follows .mixedOrders=true):aaQ P n:=by
 intro D id ops T l G E a w K Q hc h hno hw hn
 simp only[acn,Bool.and_eq_true,beq_iff_eq]at hc
 obtain⟨⟨h1,h2⟩,h3,h4⟩:=hc
 refine wp_region_any hm ?_
 have hg:VH ops l l (Array.replicate ops.size false):=by
  refine⟨by simp,List.Sublist.refl l,fun x hx=>?_,fun k hk hno=>?_,fun m hm i hi=>?_⟩
  ·have hlt:x.2.1<ops.size:=by
    have:=List.all_eq_true.1 h3 x hx
    simp only[Ht,Bool.and_eq_true]at this
    cases ho:ops[x.2.1]? with
    |none=>rw[ho]at this;simp at this
    |some o=>exact(Array.getElem?_eq_some_iff.1 ho).1
   simp[hlt]
  ·obtain⟨x,hx,e⟩:=List.any_eq_true.1 (List.all_eq_true.1 h2 k (List.mem_range.2 hk))
   exact absurd (beq_iff_eq.1 e) (hno x hx)
  ·rcases Nat.lt_or_ge m ops.size with hlt|hge
   ·simp[hlt]at hm
   ·simp[Array.getElem?_eq_none (show(Array.replicate ops.size false).size<=m by simpa using hge)]at hm
 have:=aip (T:=T) (P:=P) (n:=n) (K:=K) (Q:=Q) G w (fun x hx=>List.all_eq_true.1 h3 x hx) (LK h4) hn l.length l rfl _ E hg (fun i c hc=>qg hno i c hc) (FZ l E hw) G a {w with drawn:=w.drawn+1} h.drew (aC.drew G w)
 rwa[h1]at this
theorem Cd:∀(p s:List Bool),Dx p s=p.reverse++s
 |[],s=>rfl
 |x::p,s=>by unfold Dx;rw[Cd p];simp
theorem Rh{done:List Bool}{F:ai->List Bool->Prop}:∀{rows:List (List Bool)}{pre xs:List Bool}{r:List ai}{j:Nat}{row:List Bool}{o:ai},S6 done rows pre xs r F->rows[j]? =some row->r[j]? =some o->xs[j]? =some false->Cb row done=true->F o (Dx pre (xs.set j true))
 |row::rows,pre,x::xs,o::r,0,row',o',h,h1,h2,h3,h4=>by
  injection h1 with h1;injection h2 with h2;injection h3 with h3
  subst h1;subst h2;subst h3
  have:=h.1
  rw[h4]at this
  exact this
 |row::rows,pre,x::xs,o::r,j+1,row',o',h,h1,h2,h3,h4=>by
  have:=Rh (j:=j) h.2 (by simpa using h1) (by simpa using h2) (by simpa using h3) h4
  rw[Cd]at this⊢
  simpa using this
 |[],_,_,_,_,_,_,_,h1,_,_,_=>by simp at h1
 |_::_,_,[],_,_,_,_,_,_,_,h3,_=>by simp at h3
 |_::_,_,_::_,[],_,_,_,_,_,h2,_,_=>by simp at h2
theorem T9:∀{row done:List Bool},(∀i,row.getD i false=true->done.getD i false=true)->Cb row done=true
 |[],_,_=>rfl
 |_::_,[],_=>rfl
 |d::row,x::done,h=>by
  have h0:=h 0
  have ht:=T9 (row:=row) (done:=done) fun i hi=>by have:=h (i+1);simp only[List.getD_cons_succ]at this;exact this hi
  unfold Cb
  rw[ht,Bool.and_true]
  cases d with
  |false=>rfl
  |true=>simpa using h0
structure afW(ops:Array Oper)(done:List Bool)(aM:Array Bool):Prop where
 size:aM.size=ops.size
 len:done.length=ops.size
 eq:∀j,done.getD j false=aM.getD j false
theorem count_set:∀{l:List Bool}{j:Nat},l[j]? =some false->(l.set j true).count false+1=l.count false
 |x::l,0,h=>by injection h with h;subst h;simp
 |x::l,j+1,h=>by
  have:=count_set (l:=l) (j:=j) (by simpa using h)
  cases x<;>simp<;>omega
 |[],_,h=>by simp at h
theorem abV{K:St->Prop}{Q:Exit->Act->World->Prop}{gE:List (List Bool)}{bF:List ai}(G₀:Gh)(w₀:World)(hI:cd P n ops ops.toList bF=true)(hX:Tg ops gE=true)
 (hn:∀G' E' a' w',Inv G' n D E' a' w'->aC G₀ w₀ G' w'->K E'->Q .normal a' w'):
 ∀(f:List ai)(done:List Bool)(aM:Array Bool)(E:St),afW ops done aM->done.count false=f.length->Vy P gE bF K f done E->∀(G:Gh)(a:Act)(w:World),Inv G n D E a w->aC G₀ w₀ G w->wpAny P .any ops Q f.length aM a w
 |[],done,aM,E,hg,hc,hw,G,a,w,h,hp=>by
  refine⟨List.eq_nil_iff_forall_not_mem.2 fun j hj=>?_,hn G E a w h hp hw⟩
  obtain⟨r1,r2,r3⟩:=kO hj
  have h2:aM.getD j false=false:=by
   have hlt:j<aM.size:=by rw[hg.size];exact r1
   simp only[Array.getD_eq_getD_getElem?,Array.getElem?_eq_getElem hlt,Option.getD_some]at r2⊢
   exact r2
  rw[<-hg.eq j]at h2
  have hlt:j<done.length:=by rw[hg.len];exact r1
  have zA:false∈done:=by
   rw[List.getD_eq_getElem?_getD,List.getElem?_eq_getElem hlt,Option.getD_some]at h2
   rw[<-h2];exact List.getElem_mem hlt
  exact absurd hc (by have:=List.count_pos_iff.2 zA;simp;omega)
 |o0::f,done,aM,E,hg,hc,hw,G,a,w,h,hp=>by
  have hX':=hX
  simp only[Tg,Bool.and_eq_true,beq_iff_eq]at hX'
  obtain⟨hl,eH⟩:=hX'
  refine⟨fun h0=>?_,fun i hi=>?_⟩
  ·exfalso
   have hex:∃j,j<ops.size/\aM.getD j false=false:=by
    apply Classical.byContradiction
    intro hno
    have:done.count false=0:=List.count_eq_zero.2 fun hm=>by
     obtain⟨j,hj,e⟩:=List.getElem_of_mem hm
     refine hno ⟨j,by rw[<-hg.len];exact hj,?_⟩
     rw[<-hg.eq,List.getD_eq_getElem?_getD,List.getElem?_eq_getElem hj,Option.getD_some,e]
    rw[this]at hc;simp at hc
   obtain⟨j,hj⟩:=hex
   induction j using Nat.strongRecOn with
   |_ j ih=>
    by_cases hk:∃k,k<j/\k<ops.size/\aM.getD k false=false
    ·obtain⟨k,k1,k2⟩:=hk
     exact ih k k1 k2
    ·have hj2:=List.all_eq_true.1 eH j (List.mem_range.2 hj.1)
     simp only[Bool.and_eq_true]at hj2
     have h3:=hj2.2
     rw[Array.getElem?_eq_getElem hj.1]at h3
     have zA:j∈Region.ready .any ops aM:=by
      refine mem_ready.2 ⟨?_,ops[j],Array.getElem?_eq_getElem hj.1,fun e he hb=>?_⟩
      ·have hlt:j<aM.size:=by rw[hg.size];exact hj.1
       have:=hj.2
       simp only[Array.getD_eq_getD_getElem?,Array.getElem?_eq_getElem hlt,Option.getD_some]at this⊢
       exact this
      ·have h4:=Array.all_eq_true_iff_forall_mem.1 h3 e he
       rw[hb]at h4
       simp only[Bool.not_true,Bool.false_or,decide_eq_true_eq]at h4
       apply Classical.byContradiction
       intro hno
       exact hk ⟨e.on,h4,by omega,by simpa using hno⟩
     rw[h0]at zA
     cases zA
  ·obtain⟨r1,r2,r3⟩:=kO hi
   have hlt:i<aM.size:=by rw[hg.size];exact r1
   have AS:i<done.length:=by rw[hg.len];exact r1
   have r2':aM.getD i false=false:=by
    simp only[Array.getD_eq_getD_getElem?,Array.getElem?_eq_getElem hlt,Option.getD_some]at r2⊢
    exact r2
   have hd:done[i]? =some false:=by
    rw[<-hg.eq i,List.getD_eq_getElem?_getD,List.getElem?_eq_getElem AS,Option.getD_some]at r2'
    rw[List.getElem?_eq_getElem AS,r2']
   obtain⟨hlen,lY⟩:=gp _ _ hI
   have hli:i<bF.length:=by rw[<-hlen];simpa using r1
   have hio:bF[i]? =some bF[i]:=List.getElem?_eq_getElem hli
   have hco:iB P n ops ops[i] bF[i]=true:=lY i ops[i] bF[i] (by simp[r1]) hio
   have hj2:=List.all_eq_true.1 eH i (List.mem_range.2 r1)
   simp only[Bool.and_eq_true,beq_iff_eq]at hj2
   have eU:gE[i]? =some (gE.getD i []):=by
    have:i<gE.length:=by rw[hl];exact r1
    rw[List.getD_eq_getElem?_getD,List.getElem?_eq_getElem this,Option.getD_some]
   have hrd:Cb (gE.getD i []) done=true:=T9 fun k hk=>by
    have hkl:k<ops.size:=by
     rw[<-hj2.1.1]
     apply Classical.byContradiction
     intro hno
     rw[List.getD_eq_getElem?_getD,List.getElem?_eq_none (by omega)]at hk
     cases hk
    have:=List.all_eq_true.1 hj2.1.2 k (List.mem_range.2 hkl)
    rw[hk]at this
    rw[hg.eq]
    exact r3 k (by simpa using this)
   have hx:=Rh (F:=fun o d=>Ri P o E (fun U=>Vy P gE bF K f d U)) hw eU hio hd hrd
   refine qz (o:=ops[i]) (by simp[r1]) (gV h hco hx fun G' E' a' w' k1 k2 k3=>?_)
   refine abV G₀ w₀ hI hX hn f _ _ E' ⟨by simp[hg.size],by rw[Cd];simp[hg.len],fun k=>?_⟩ ?_ k3 G' a' w' k1 (hp.trans k2)
   ·rw[Cd]
    show(([]:List Bool).reverse++done.set i true).getD k false=_
    rw[List.reverse_nil,List.nil_append]
    by_cases e:k=i
    ·subst e
     rw[rl hlt,List.getD_eq_getElem?_getD,List.getElem?_set_self AS];rfl
    ·rw[AN e,<-hg.eq,List.getD_eq_getElem?_getD,List.getD_eq_getElem?_getD,List.getElem?_set_ne (Ne.symm e)]
   ·rw[Cd]
    show(([]:List Bool).reverse++done.set i true).count false=_
    rw[List.reverse_nil,List.nil_append]
    have:=count_set hd
    rw[hc]at this
    simp at this
    omega
theorem acu(hm:P.follows .mixedOrders=true):aaT P n:=by
 intro D id ops gE bF G E a w K Q hc hx h hw hn
 refine wp_region_any hm ?_
 have hlen:bF.length=ops.size:=by have:=(gp _ _ hc).1;simpa using this.symm
 have hf:∀l:List ai,xc l=List.replicate l.length false:=by
  intro l
  induction l with
  |nil=>rfl
  |cons o r ih=>show false::xc r=_;rw[ih];rfl
 have:=abV (P:=P) (n:=n) (K:=K) (Q:=Q) G w hc hx hn bF (xc bF) (Array.replicate ops.size false) E ⟨by simp,by rw[hf];simp[hlen],fun j=>by
  rw[hf,hlen]
  rcases Nat.lt_or_ge j ops.size with hj|hj
  ·simp[hj]
  ·simp[Nat.not_lt.2 hj]⟩ (by rw[hf];simp) hw G a {w with drawn:=w.drawn+1} h.drew (aC.drew G w)
 rwa[hlen]at this
theorem AG(hm:P.follows .mixedOrders=true):FG P n:=⟨acr hm,acs hm,acq hm,acu hm⟩
end
end Go.AB
end
section
namespace Go.AB
open Go Go.RowKit
def xB:ab:=fun _=>none
section
variable{P:Program}{w w':World}
end
end Go.AB
end
section
namespace Go.AB
open Go
theorem tQ(a b:List AV):views (a++b)=views a++views b:=by simp[views]
theorem y9:∀l:List (List AV),(∀x∈l,views x=x)->views l.flatten=l.flatten
 |[],_=>rfl
 |a::l,h=>by rw[List.flatten_cons,tQ,h a List.mem_cons_self,y9 l fun x hx=>h x (List.mem_cons_of_mem _ hx)]
class aP(α:Type)where
 w:Nat
 cells:α->List AV
 zero:α
 pos:0<w
 len:∀x,(cells x).length=w
 vw:∀x,views (cells x)=cells x
structure ar where
 b:List UInt8
 deriving DecidableEq,Inhabited
section
variable{α:Type}[aP α]
def flat(l:List α):List AV:=(l.map aP.cells).flatten
def ix(l:List α)(i:Int):α:=l.getD i.toNat aP.zero
theorem ao:∀l:List α,(flat l).length=l.length*aP.w α
 |[]=>by simp[flat]
 |a::l=>by
  have:=ao l
  simp only[flat,List.map_cons,List.flatten_cons,List.length_append,aP.len]at this⊢
  rw[this,List.length_cons,Nat.add_mul,Nat.one_mul,Nat.add_comm]
@[go_sem]theorem sd:flat ([]:List α)=[]:=rfl
@[go_sem]theorem mU(a:α)(l:List α):flat (a::l)=aP.cells a++flat l:=rfl
@[go_sem]theorem cg(a b:List α):flat (a++b)=flat a++flat b:=by simp[flat]
@[go_sem]theorem aH(l:List α):views (flat l)=flat l:=y9 _ fun x hx=>by
  obtain⟨y,_,rfl⟩:=List.mem_map.1 hx
  exact aP.vw y
theorem Cr(l:List α):∀k,(flat l).drop (k*aP.w α)=flat (l.drop k):=by
 induction l with
 |nil=>intro k;simp[flat]
 |cons a l ih=>intro k;cases k with
  |zero=>simp
  |succ k=>
   rw[mU,List.drop_succ_cons,<-ih k,Nat.succ_mul,Nat.add_comm,<-List.drop_drop]
   congr 1
   rw[<-aP.len a,List.drop_left]
theorem xt(l:List α):∀k,(flat l).take (k*aP.w α)=flat (l.take k):=by
 induction l with
 |nil=>intro k;simp[flat]
 |cons a l ih=>intro k;cases k with
  |zero=>simp[sd]
  |succ k=>
   rw[mU,List.take_succ_cons,mU,<-ih k,Nat.succ_mul,Nat.add_comm,List.take_append]
   rw[aP.len a,List.take_of_length_le (by rw[aP.len];omega)]
   congr 2
   omega
theorem lU(l:List α)(n lo m:Nat)(hn:n=aP.w α):AB.sub (flat l) (lo*n) (m*n)=flat ((l.drop lo).take m):=by
 subst hn
 unfold AB.sub
 rw[Cr,xt]
theorem se(z:List AV)(n:Nat)(l:List α)(i:Int)(hz:z=aP.cells (aP.zero:α))(hn:n=aP.w α):pad z (views (AB.sub (flat l) (i.toNat*n) n))=aP.cells (ix l i):=by
 subst hn
 have h1:AB.sub (flat l) (i.toNat*aP.w α) (aP.w α)=flat ((l.drop i.toNat).take 1):=by
  have:=lU l (aP.w α) i.toNat 1 rfl
  rwa[Nat.one_mul]at this
 rw[h1,aH]
 unfold pad ix
 rcases Nat.lt_or_ge i.toNat l.length with hlt|hge
 ·rw[List.drop_eq_getElem_cons hlt,List.take_succ_cons,List.take_zero,mU,sd,List.append_nil,hz,aP.len,aP.len,beq_self_eq_true]
  simp[List.getD,List.getElem?_eq_getElem hlt]
 ·rw[List.drop_eq_nil_of_le hge,List.take_nil,sd,hz,aP.len]
  have:(([]:List AV).length==aP.w α)=false:=by
   have:=aP.pos (α:=α)
   simp;omega
  rw[this]
  simp[List.getD,List.getElem?_eq_none hge]
def part(l:List α)(lo hi:Int):List α:=(l.drop lo.toNat).take (hi -lo).toNat
theorem xr(n:Nat)(l:List α)(lo hi:Int)(hn:n=aP.w α):AB.sub (flat l) (lo.toNat*n) ((hi -lo).toNat*n)=flat (part l lo hi):=lU l n _ _ hn
theorem Wq(n:Nat)(l:List α)(hn:n=aP.w α):(flat l).length/n=l.length:=by
 subst hn
 rw[ao];exact Nat.mul_div_cancel _ aP.pos
end
instance:aP Bool:=⟨1,fun b=>[.bool b],false,Nat.one_pos,fun _=>rfl,fun _=>rfl⟩
instance:aP Int:=⟨1,fun n=>[.int .i64 n],0,Nat.one_pos,fun _=>rfl,fun _=>rfl⟩
instance:aP UInt8:=⟨1,fun n=>[.int .u8 n.toNat],0,Nat.one_pos,fun _=>rfl,fun _=>rfl⟩
instance:aP UInt32:=⟨1,fun n=>[.int .u32 n.toNat],0,Nat.one_pos,fun _=>rfl,fun _=>rfl⟩
instance:aP UInt64:=⟨1,fun n=>[.int .u64 n.toNat],0,Nat.one_pos,fun _=>rfl,fun _=>rfl⟩
instance:aP ar:=⟨1,fun s=>[.str s.b],⟨[]⟩,Nat.one_pos,fun _=>rfl,fun _=>rfl⟩
instance{α:Type}[aP α]:aP (List α):=⟨1,fun l=>[.sl false (aP.w α) l.length (flat l)],[],Nat.one_pos,fun _=>rfl,fun _=>rfl⟩
@[go_sem]theorem aez(x:Int):aP.cells x=[.int .i64 x]:=rfl
@[go_sem]theorem agd(x:UInt8):aP.cells x=[.int .u8 x.toNat]:=rfl
@[go_sem]theorem aeA(x:ar):aP.cells x=[.str x.b]:=rfl
@[go_sem]theorem al3:aP.w UInt8=1:=rfl
@[go_sem]theorem Z3(l:List Int)(i:Int):pad [.int .i64 0] (views (AB.sub (flat l) (i.toNat*1) 1))=[.int .i64 (ix l i)]:=se _ 1 l i rfl rfl
@[go_sem]theorem akT(l:List UInt8)(i:Int):pad [.int .u8 0] (views (AB.sub (flat l) (i.toNat*1) 1))=[.int .u8 (ix l i).toNat]:=se _ 1 l i rfl rfl
@[go_sem]theorem ajj(l:List ar)(i:Int):pad [.str []] (views (AB.sub (flat l) (i.toNat*1) 1))=[.str (ix l i).b]:=se _ 1 l i rfl rfl
end Go.AB
end
section
namespace Go.AB
open Go
def ok{α:Type}(o:Option α)(K:α->Prop):Prop:=∃a,o=some a/\K a
def aB{α:Type}(c:Prop)[Decidable c](o:Option α):Option α:=if c then o else none
def mB{α:Type}(g:Bool)(z:α)(o:Option α):Option α:=bif g then o else some z
def aJ{α β:Type}(o:Option α)(f:α->Option β):Option β:=match o with
 |some a=>f a
 |none=>none
def dg{S O:Type}(body:S->Option (S⊕O)):Nat->S->Option O
 |0,_=>none
 |n+1,s=>match body s with
  |none=>none
  |some (.inl t)=>dg body n t
  |some (.inr o)=>some o
def iter{S O:Type}(body:S->Option (S⊕O))(s:S):Option O:=dg body 18446744073709551616 s
def nG{A B C:Type}(f:A->C)(g:B->C):A⊕B->C
 |.inl a=>f a
 |.inr b=>g b
section
variable{α β:Type}(K:α->Prop)
@[go_sem]theorem aF(a:α):ok (some a) K=K a:=by simp[ok]
@[go_sem]theorem ok_none:ok none K=False:=by simp[ok]
@[go_sem]theorem dN(c:Prop)[Decidable c](o:Option α):ok (aB c o) K=(c/\ok o K):=by
  unfold aB
  by_cases h:c<;>simp[h,ok]
@[go_sem]theorem dS(o:Option β)(f:β->Option α):ok (aJ o f) K=ok o (fun b=>ok (f b) K):=by cases o<;>simp[aJ,ok]
@[go_sem]theorem HJ(c:Bool)(a b:Option α):ok (if c=true then a else b) K=((c=true->ok a K)/\(c=false->ok b K)):=by cases c<;>simp
theorem ZU(g:Bool)(z:α)(o:Option α):ok (mB g z o) K=∃a,(g=true->o=some a)/\(g=false->a=z)/\K a:=by cases g<;>simp[mB,ok]
@[go_sem]theorem iA{A B C:Type}(f:A->C)(g:B->C)(a:A):nG f g (.inl a)=f a:=rfl
@[go_sem]theorem ns{A B C:Type}(f:A->C)(g:B->C)(b:B):nG f g (.inr b)=g b:=rfl
end
theorem bj{A B C D:Prop}(h:A->C)(k:B->D):A/\B->C/\D:=fun x=>⟨h x.1,k x.2⟩
theorem ch{p A B:Prop}(h:A->B):(p->A)->p->B:=fun x y=>h (x y)
theorem bW{A:Prop}:A->A:=fun h=>h
variable{P:Program}
theorem ah{β:Type}{o:Option β}{kf:β->Prop}{f:FuncId}{as1:List AV}{s:ab}{enc:β->List AV}{Q:List AV->ab->Prop}
 (hf:∀r,o=some r->FE P f as1 s (enc r) s)(hk:∀r,kf r->Q (enc r) s):ok o kf->FN P f as1 s Q:=fun⟨r,h,k⟩=>FE.app (hf r h) (hk r k)
theorem ba{β:Type}{o:Option β}{kf:β->Prop}{f:FuncId}{as1:List AV}{s:ab}{enc:β->List AV}{Q:List AV->Prop}
 (hf:∀r,o=some r->FE P f as1 s (enc r) s)(hr:∀r,j7 (enc r)=true)(hk:∀r,kf r->Q (enc r)):ok o kf->∃rs,j7 rs=true/\FE P f as1 s rs s/\Q rs:=
 fun⟨r,h,k⟩=>⟨enc r,hr r,hf r h,hk r k⟩
theorem fP{β:Type}{g:Bool}{z:β}{o:Option β}{kf:β->Prop}{f:FuncId}{as1:Option (List AV)}{as2:List AV}{s:ab}{enc:β->List AV}{Q:List AV->Prop}
 (ha:as1=some as2)(hf:∀r,o=some r->FE P f as2 s (enc r) s)(hr:∀r,j7 (enc r)=true)(hk:∀r,kf r->Q (enc r)):
 ok (mB g z o) kf->∃rs,j7 rs=true/\(g=true->∃as2,as1=some as2/\FE P f as2 s rs s)/\Q rs:=fun h=>by
 rw[ZU]at h
 obtain⟨r,h1,_,k⟩:=h
 exact⟨enc r,hr r,fun hg=>⟨as2,ha,hf r (h1 hg)⟩,hk r k⟩
def okj{α:Type}(o:Option α)(K:α->Prop):Prop:=ok o K
def jn{α β:Type}(o:Option α)(f:α->Option β):Option β:=aJ o f
@[go_sem]theorem alD{α β:Type}(K:α->Prop)(o:Option β)(f:β->Option α):ok (jn o f) K=okj o (fun b=>ok (f b) K):=dS ..
theorem bT{X:Type}{M:Option X}{kf:X->Prop}{live:List (Nat×Bool)}{a b:IC}{Q:Exit->St->Prop}{E:St}(enc:X->St)
 (ha:∀J:St->Prop,ok M (fun x=>J (enc x))->iU P a (yT live J Q) E)(hb:∀x,kf x->iU P b Q (enc x)):okj M kf->iU P (.join live a b) Q E:=fun⟨x,h,k⟩=>
 ⟨fun U=>∃x,U=enc x/\kf x,ha _ ⟨x,h,x,rfl,k⟩,fun _⟨x,e,k⟩=>e▸hb x k⟩
theorem zQ{S O:Type}{body:S->Option (S⊕O)}{s:S}{K:O->Prop}:¬ok (dg body 0 s) K:=fun⟨_,h,_⟩=>by cases h
theorem zP{S O:Type}{body:S->Option (S⊕O)}{n:Nat}{s:S}{K:O->Prop}(h:ok (dg body (n+1) s) K):ok (body s) (nG (fun t=>ok (dg body n t) K) K):=by
 obtain⟨o,h,k⟩:=h
 unfold dg at h
 cases hb:body s with
 |none=>rw[hb]at h;cases h
 |some x=>
  rw[hb]at h
  cases x with
  |inl t=>exact⟨_,rfl,⟨o,h,k⟩⟩
  |inr o'=>cases h;exact⟨_,rfl,k⟩
theorem HD{live:List (Nat×Bool)}{I:St->Prop}{μ:St->Nat}{m:Nat}{Q:Exit->St->Prop}:Lx live I μ m Q=yT live (fun ρ=>I ρ/\μ ρ<m) Q:=by funext x ρ;cases x<;>rfl
theorem aY{S O:Type}{body:S->Option (S⊕O)}{s0:S}{kf:O->Prop}{live:List (Nat×Bool)}{b:IC}{Q:Exit->St->Prop}{E:St}(enc:S->St)
 (h0:E.eP live=enc s0)
 (hb:∀(J:St->Prop)(s:S),ok (body s) (nG (fun t=>J (enc t)) kf)->iU P b (yT live J Q) (enc s)):ok (iter body s0) kf->iU P (.loop live b) Q E:=by
 intro h
 have Jr:∀U,(∃m s,U=enc s/\ok (dg body m s) kf)->∃m,(∃s,U=enc s/\ok (dg body m s) kf)/\∀k,k<m->¬∃s,U=enc s/\ok (dg body k s) kf:=by
  rintro U ⟨m,s,h⟩
  induction m using Nat.strongRecOn generalizing s with
  |_ m ih=>
   by_cases hk:∃k,k<m/\∃s,U=enc s/\ok (dg body k s) kf
   ·obtain⟨k,hk,s',h'⟩:=hk
    exact ih k hk s' h'
   ·exact⟨m,⟨s,h⟩,fun k hk' hs=>hk ⟨k,hk',hs⟩⟩
 have hμ:∃μ:St->Nat,∀U,(∃m s,U=enc s/\ok (dg body m s) kf)->(∃s,U=enc s/\ok (dg body (μ U) s) kf)/\∀k,k<μ U->¬∃s,U=enc s/\ok (dg body k s) kf:=by exact⟨fun U=>Classical.epsilon fun m=>(∃s,U=enc s/\ok (dg body m s) kf)/\∀k,k<m->¬∃s,U=enc s/\ok (dg body k s) kf,fun U hτ=>Classical.epsilon_spec (Jr U hτ)⟩
 obtain⟨μ,hμ⟩:=hμ
 refine⟨fun U=>∃m s,U=enc s/\ok (dg body m s) kf,μ,?_,?_⟩
 ·exact⟨_,s0,h0,h⟩
 ·intro U hτ
  obtain⟨⟨s,e,hs⟩,_⟩:=hμ U hτ
  generalize hm:μ U=m at hs
  cases m with
  |zero=>exact(zQ hs).elim
  |succ m=>
   subst e
   rw[HD]
   obtain⟨x,hx,k⟩:=zP hs
   refine hb _ s ⟨x,hx,?_⟩
   cases x with
   |inr o=>exact k
   |inl t=>
    refine⟨⟨m,t,rfl,k⟩,?_⟩
    have h2:=(hμ (enc t) ⟨m,t,rfl,k⟩).2
    rcases Nat.lt_or_ge m (μ (enc t))with hlt|hge
    ·exact(h2 m hlt ⟨t,rfl,k⟩).elim
    ·omega
def jY{X Y α:Type}(M:Option (X⊕Y))(F:X->Option α)(G:Y->Option α):Option α:=match M with
 |some (.inl x)=>F x
 |some (.inr y)=>G y
 |none=>none
@[go_sem]theorem ZT{X Y α:Type}(M:Option (X⊕Y))(F:X->Option α)(G:Y->Option α)(K:α->Prop):ok (jY M F G) K=ok M (nG (fun x=>ok (F x) K) (fun y=>ok (G y) K)):=by
  cases M with
  |none=>simp[jY,ok]
  |some x=>cases x<;>simp[jY,ok,nG]
def yS{X Y α:Type}(M:Option (X⊕Y))(F:X->Option α)(G:Y->Option α):Option α:=jY M F G
@[go_sem]theorem akQ{X Y α:Type}(M:Option (X⊕Y))(F:X->Option α)(G:Y->Option α)(K:α->Prop):ok (yS M F G) K=okj M (nG (fun x=>ok (F x) K) (fun y=>ok (G y) K)):=ZT ..
theorem dD{X Y:Type}{M:Option (X⊕Y)}{kf:X->Prop}{kr:Y->Prop}{live:List (Nat×Bool)}{a b:IC}{Q:Exit->St->Prop}{E:St}(enc:X->St)
 (ha:∀J:St->Prop,ok M (nG (fun x=>J (enc x)) kr)->iU P a (yT live J Q) E)(hb:∀x,kf x->iU P b Q (enc x)):okj M (nG kf kr)->iU P (.join live a b) Q E:=fun⟨x,h,k⟩=>by
 refine⟨fun U=>∃x,U=enc x/\kf x,ha _ ⟨x,h,?_⟩,fun _⟨x,e,k⟩=>e▸hb x k⟩
 cases x with
 |inl x=>exact⟨x,rfl,k⟩
 |inr y=>exact k
@[go_sem]theorem Ui(c:UInt8):byteOf (.int .u8 c.toNat)=some c:=by
  unfold byteOf
  have:=c.toNat_lt
  simp only[Int.natCast_nonneg,true_and,Int.toNat_natCast]
  rw[if_pos (by omega)]
  simp
@[go_sem]theorem Md:∀l:List UInt8,bytesOf (flat l)=some l
  |[]=>rfl
  |c::l=>by
   rw[mU]
   show V9 (byteOf (.int .u8 c.toNat)) (bytesOf (flat l))=_
   rw[Ui,Md l];rfl
@[go_sem]theorem ahr(l:List UInt8):(l.map fun c=>AV.int .u8 c.toNat)=flat l:=by
  induction l with
  |nil=>rfl
  |cons a l ih=>rw[List.map_cons,ih];rfl
def bd(n:Int):Int:=IntKind.i64.wrap n
def nq(n:Int):UInt32:=UInt32.ofNat (IntKind.u32.wrap n).toNat
def ala(n:Int):UInt64:=UInt64.ofNat (IntKind.u64.wrap n).toNat
@[go_sem]theorem aiP(n:Int):oo .i64 n=bd n:=rfl
theorem aca(k:IntKind)(n:Int)(hk:k.signed=false):k.wrap n=n % (2^k.bits:Int):=by
 unfold IntKind.wrap
 simp[hk]
@[go_sem]theorem wrap_u32(n:Int):oo .u32 n=(nq n).toNat:=by
  show IntKind.u32.wrap n=((UInt32.ofNat (IntKind.u32.wrap n).toNat).toNat:Int)
  rw[aca _ _ rfl,UInt32.toNat_ofNat']
  have:(2^IntKind.u32.bits:Int)=4294967296:=by decide
  rw[this]
  omega
@[go_sem]theorem wrap_u64(n:Int):oo .u64 n=(ala n).toNat:=by
  show IntKind.u64.wrap n=((UInt64.ofNat (IntKind.u64.wrap n).toNat).toNat:Int)
  rw[aca _ _ rfl,UInt64.toNat_ofNat']
  have:(2^IntKind.u64.bits:Int)=18446744073709551616:=by decide
  rw[this]
  omega
def ait(k:IntKind)(a b:Int):Int:=a.fdiv (2^(min b.toNat k.bits))
def afZ(k:IntKind)(a b:Int):Int:=(BitVec.ofInt k.bits a&&&BitVec.ofInt k.bits b).toNat
@[go_sem]theorem af6(k k':IntKind)(a b:Int):As .shr k k' a b=.prt (0<=b) (.int k (ait k a b)):=rfl
@[go_sem]theorem af5(k k':IntKind)(a b:Int):As .and k k' a b=kk k k' (.dI (.int k (oo k (afZ k a b)))):=rfl
@[go_sem]theorem ai0(l:List UInt8)(k:Int):l.getD k.toNat 0=ix l k:=rfl
@[go_sem]theorem ajk(l:List UInt8)(lo hi:Int):(l.drop lo.toNat).take (hi -lo).toNat=part l lo hi:=rfl
attribute[go_sem] List.length_append true_or or_true eq_self_iff_true imp_self Bool.cond_true_left Bool.cond_false_right and_self and_true
def mv(d x:Nat):ai:=⟨some d,.ib false (.t x),none⟩
def mt(d x:Nat):ai:=⟨some d,.ib true (.t x),none⟩
def df(d x t:Nat)(w:Bool):ai:=⟨some d,.ib false (.t x),some (t,w)⟩
def mtg(d x t:Nat)(w:Bool):ai:=⟨some d,.ib true (.t x),some (t,w)⟩
def i1(d:Nat)(o:uC):ai:=⟨some d,o,none⟩
def du(d t:Nat)(w:Bool)(o:uC):ai:=⟨some d,o,some (t,w)⟩
def i0(o:uC):ai:=⟨none,o,none⟩
def i0g(t:Nat)(w:Bool)(o:uC):ai:=⟨none,o,some (t,w)⟩
attribute[go_sem] mv mt df mtg i1 du i0 i0g
@[go_sem]theorem aiv(a:AV)(l:List AV)(off n:Nat):AB.sub (a::l) off n=((a::l).drop off).take n:=rfl
attribute[go_sem] xr Wq
@[go_sem]theorem adr(E:St)(b:Bool)(a:AV)(d:Option Nat):bU E (.when b a) d=bU E a d:=by rw[bU]
end Go.AB
end
section
namespace Go.AB
open Go
def lP(t s:ab):Prop:=∀b o,t b=some o->s b=some o
theorem lP.refl(s:ab):lP s s:=fun _ _ h=>h
theorem lP.trans{a b c:ab}(h:lP a b)(k:lP b c):lP a c:=fun x o hx=>k x o (h x o hx)
theorem lP.set{t s:ab}{b:Nat}{o:SO}(h:lP t s)(hb:t b=none):lP t (s.set b o):=fun c p hc=>by
 unfold ab.set
 by_cases hcb:c=b
 ·subst hcb;rw[hb]at hc;cases hc
 ·rw[if_neg hcb];exact h c p hc
theorem lP.mono{t s:ab}{b:Nat}{o:SO}(h:lP t s):lP (t.set b o) (s.set b o):=fun c p hc=>by
 unfold ab.set at hc⊢
 by_cases hcb:c=b
 ·rw[if_pos hcb]at hc⊢;exact hc
 ·rw[if_neg hcb]at hc⊢;exact h c p hc
variable{P:Program}
theorem FN.forget{f:FuncId}{args:List AV}{s:ab}{Q:List AV->ab->Prop}(h:FN P f args s fun rs t=>∃t',lP t' t/\Q rs t'):FN P f args s Q:=by
 intro G w vs h1 h2 h3 h4
 refine(h G w vs h1 h2 h3 h4).mono fun e w'⟨v,rs,s',G',a1,⟨t',ht,hq⟩,a3,a4,a5⟩=>⟨v,rs,t',G',a1,hq,a3,fun b o hb=>a4 b o (ht b o hb),a5⟩
theorem bG(s:ab)(b:Nat)(o:SO):(s.set b o) b=some o:=by simp[ab.set]
theorem aj{s:ab}{b c:Nat}{o:SO}(h:c≠b):(s.set b o) c=s c:=by simp[ab.set,h]
theorem set_set(s:ab)(b:Nat)(o p:SO):(s.set b o).set b p=s.set b p:=by funext c;unfold ab.set;by_cases h:c=b<;>simp[h]
theorem set_comm{a b:Nat}(h:a≠b){s:ab}{o p:SO}:(s.set b p).set a o=(s.set a o).set b p:=by
 funext c;unfold ab.set
 by_cases ha:c=a
 ·subst ha;simp[h]
 ·simp[ha]
theorem aeb{s:ab}{b:Nat}{o:SO}(h:s b=some o):s=s.set b o:=by
 funext c;unfold ab.set
 by_cases hc:c=b
 ·subst hc;simp[h]
 ·simp[hc]
theorem dZ{s:ab}{b:Nat}{o:SO}(h:s b=some o):s.set b o=s:=(aeb h).symm
theorem dh(s:ab)(b c:Nat)(o:SO):((s.set b o) c=none)=(c≠b/\s c=none):=by
 unfold ab.set
 by_cases hc:c=b<;>simp[hc]
attribute[go_sem] bG set_set
theorem cT{α:Type}{o:Option α}{K K':α->Prop}(h:ok o K)(hk:∀r,K r->K' r):ok o K':=h.imp fun r⟨h1,h2⟩=>⟨h1,hk r h2⟩
section
variable(Q:Exit->St->Prop)(E U:St)
@[go_sem]theorem aeD(b:IC):iU P (.scope b) Q E=iU P b (Ae Q) E:=by
  have:(fun x U=>match x with|.goto _=>False|x=>Q x U)=Ae Q:=by funext e U;cases e<;>rfl
  show iU P b (fun x U=>match x with|.goto _=>False|x=>Q x U) E=_
  rw[this]
@[go_sem]theorem ad8:Ae Q .ret U=Q .ret U:=rfl
@[go_sem]theorem abX(i:Nat):Ae Q (.exit i) U=Q (.exit i) U:=rfl
end
def Fi(sz len n:Nat)(x:IX):AV->PR
 |.lp d o=>.prt (n+1<=len) (.lp d (o+n*sz))
 |.sp cs=>bif decide (len*sz<=cs.length)then .prt (n+1<=len) (.sp (cs.drop (n*sz)))else .no
 |.ref b o=>.prt (n+1<=len) (.ref b (o+n*sz))
 |.loc _=>ZF (n+1<=len) (n*sz) x
 |_=>.no
attribute[go_sem] Fi.eq_1 Fi.eq_2 Fi.eq_3 Fi.eq_4
def aeo{α:Type}(l:List α)(i:Int)(x:α):List α:=l.take i.toNat++[x]++l.drop (i.toNat+1)
theorem Ws{α:Type}[aP α](l:List α)(i:Int)(x:α)(n:Nat)(hn:n=aP.w α):setAt (flat l) (i.toNat*n) (aP.cells x)=flat (aeo l i x):=by
 subst hn
 unfold setAt aeo
 rw[cg,cg,mU,sd,List.append_nil,xt,aP.len]
 congr 1
 rw[show i.toNat*aP.w α+aP.w α=(i.toNat+1)*aP.w α from by rw[Nat.add_mul,Nat.one_mul],Cr]
@[go_sem]theorem ajS(l:List Int)(i x:Int):setAt (flat l) (i.toNat*1) [.int .i64 x]=flat (aeo l i x):=Ws l i x 1 rfl
@[go_sem]theorem aea(a:AV)(l:List AV)(off:Nat)(news:List AV):setAt (a::l) off news=(a::l).take off++news++(a::l).drop (off+news.length):=rfl
@[go_sem]theorem ahE(z:List AV)(a:AV)(l:List AV):pad z (a::l)=bif(a::l).length==z.length then a::l else z:=rfl
@[go_sem]theorem QJ{α:Type}[aP α](n:Nat)(z:α):(List.replicate n (aP.cells z)).flatten=flat (List.replicate n z):=by simp[flat]
section
variable{d d':Option Nat}{K:St->Prop}{E:St}{b off:Nat}{news eR:List AV}
@[go_sem]theorem ajI:Rl d K (wrS E b (eA off news eR))=(off+news.length<=eR.length/\K (({E with s:=E.s.set b (.cells (setAt eR off news))}:St).put d (.gK []))):=by
  unfold eA
  by_cases h:off+news.length<=eR.length
  ·simp[h,wrS,Rl]
  ·simp[h,wrS,Rl]
@[go_sem]theorem ajH{i:Nat}:Rl d K (wrL E i (eA off news eR))=(off+news.length<=eR.length/\K ((E.put (some i) (.loc (setAt eR off news))).put d (.gK []))):=by
  unfold eA
  by_cases h:off+news.length<=eR.length
  ·simp[h,wrL,Rl]
  ·simp[h,wrL,Rl]
end
@[go_sem]theorem abx(n:Nat):(((no_index (OfNat.ofNat n)):Nat):Int)=OfNat.ofNat n:=rfl
def lr{κ ν:Type}[BEq κ](m:List (κ×ν))(k:κ):Option ν:=match m with
 |[]=>none
 |x::r=>bif k==x.1 then some x.2 else lr r k
def Sh{κ ν:Type}[BEq κ](z:ν)(m:List (κ×ν))(k:κ):ν:=(lr m k).getD z
def Ql{κ ν:Type}[BEq κ](m:List (κ×ν))(k:κ):Bool:=(lr m k).isSome
def ry{κ ν:Type}[BEq κ](m:List (κ×ν))(k:κ)(v:ν):List (κ×ν):=match m with
 |[]=>[(k,v)]
 |x::r=>bif k==x.1 then(k,v)::r else x::ry r k v
def hZ{κ ν:Type}(ek:κ->AV)(ev:ν->AV)(m:List (κ×ν)):List (AV×AV):=m.map fun p=>(ek p.1,ev p.2)
theorem Hu{κ ν:Type}{ek:κ->AV}{ev:ν->AV}{kk:lI}(h:∀a,fo kk (ek a)=true)(m:List (κ×ν)):kK kk (hZ ek ev m)=true:=by
 unfold kK hZ
 simp[h]
section
variable{κ ν:Type}[BEq κ]{ek:κ->AV}{ev:ν->AV}
theorem Uz(hk:∀a b,mb (ek a) (ek b)=(a==b))(m:List (κ×ν))(k:κ):fA (ek k) (hZ ek ev m)=(lr m k).map ev:=by
 induction m with
 |nil=>rfl
 |cons x m ih=>
  show(bif mb (ek k) (ek x.1)then some (ev x.2)else fA (ek k) (hZ ek ev m))=_
  rw[hk,ih]
  show _=(bif k==x.1 then some x.2 else lr m k).map ev
  cases k==x.1<;>rfl
theorem XN(hk:∀a b,mb (ek a) (ek b)=(a==b))(m:List (κ×ν))(k:κ)(v:ν):wL (ek k) (ev v) (hZ ek ev m)=hZ ek ev (ry m k v):=by
 induction m with
 |nil=>rfl
 |cons x m ih=>
  show(bif mb (ek k) (ek x.1)then(ek k,ev v)::hZ ek ev m else(ek x.1,ev x.2)::wL (ek k) (ev v) (hZ ek ev m))=_
  rw[hk,ih]
  show _=hZ ek ev (bif k==x.1 then(k,v)::m else x::ry m k v)
  cases k==x.1<;>rfl
theorem D9{kk:lI}{z:ν}{za:AV}(h:∀a,fo kk (ek a)=true)(hk:∀a b,mb (ek a) (ek b)=(a==b))(hz:view za=ev z)(hv:∀a,view (ev a)=ev a)(hi:∀a,dF (ev a)=true)(ok:Bool)(m:List (κ×ν))(k:κ):
 pd kk za ok (ek k) (some (.map (hZ ek ev m)))=.prt True (I5 ok (ev (Sh z m k)) (Ql m k)):=by
 show O6 ok (fo kk (ek k)=true/\kK kk (hZ ek ev m)=true) (wB za ok (fA (ek k) (hZ ek ev m)))=_
 rw[Uz hk,h,Hu h]
 unfold Sh Ql
 cases lr m k with
 |none=>
  show O6 ok _ (I5 ok (view za) false)=_
  rw[hz]
  cases ok<;>simp[O6,zZ,I5,hi]
 |some v=>
  show O6 ok _ (I5 ok (view (ev v)) true)=_
  rw[hv]
  cases ok<;>simp[O6,zZ,I5,hi]
theorem Q1{kk:lI}{b:Nat}{E:St}{d:Option Nat}{K:St->Prop}(h:∀a,fo kk (ek a)=true)(hk:∀a b,mb (ek a) (ek b)=(a==b))(hkv:∀a,view (ek a)=ek a)(m:List (κ×ν))(k:κ)(v:ν)(hv:view (ev v)=ev v)(hi:dF (ev v)=true):
 Vw kk b E (ek k) (ev v) d K (some (.map (hZ ek ev m)))=K ({E with s:=E.s.set b (.map (hZ ek ev (ry m k v)))}.put d (.gK [])):=by
 show((dF (ev v)=true/\fo kk (ek k)=true/\kK kk (hZ ek ev m)=true)/\K ({E with s:=E.s.set b (.map (wL (view (ek k)) (view (ev v)) (hZ ek ev m)))}.put d (.gK [])))=_
 rw[hkv,hv,XN hk,h,Hu h,hi]
 simp
end
theorem mX(a b:Int):mb (.int .i64 a) (.int .i64 b)=(a==b):=by simp[mb,cellsOf,tz,Xf]
attribute[go_sem] xz.eq_1
theorem bM{κ ν:Type}(ek:κ->AV)(ev:ν->AV):hZ ek ev []=[]:=rfl
@[go_sem]theorem ajF(n:Nat):(List.replicate n [AV.int .i64 0]).flatten=flat (List.replicate n (0:Int)):=QJ n (0:Int)
@[go_sem]theorem ak5(n:Nat):(List.replicate n [AV.int .u8 0]).flatten=flat (List.replicate n (0:UInt8)):=QJ n (0:UInt8)
end Go.AB
end
section
namespace Go.AB
open Go
attribute[go_sem] start tO oR uK X5 Jb SK Nat.ble_eq
theorem mix:Go.Proofs.Tryz.prog.follows .mixedOrders=true:=by kernel_rfl
theorem FO{f n:Nat}{res:List pG}{ic:IC}{args:List AV}{s:ab}{Q:List AV->ab->Prop}(hf:aE Go.Proofs.Tryz.prog f n res ic=true)(hv:Jb args=true)(hn:Nat.ble args.length n=true)(hw:iU Go.Proofs.Tryz.prog ic (SK res Q) (start args s)):FN Go.Proofs.Tryz.prog f args s Q:=FN.of (AG mix) hf hv (Nat.le_of_ble_eq_true hn) hw
end Go.AB
end
