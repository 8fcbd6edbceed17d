/- A part of the proof: Ab22b, Ab23, Ty1, Ty2, Ty3, Mix2. -/
import Derived.Test.YtkeagffgdajggaaGreatSo10
import Derived.Test.YtkeagffgdajggaaGreatSo9
import Derived.ProofKit
import Derived.Test.YtkeagffgdajggaaGreatSo2
import Derived.Test.YtkeagffgdajggaaGreatProg
import Derived.KernelRfl
set_option linter.unusedSimpArgs false
set_option linter.unusedVariables false
section
namespace Go.AB
open Go
section
variable{P:Program}{G G':Gh}{n:Nat}{D:List Deferred}{σ σ':St}{a:Act}{w w':World}{T:List Nat}
def sU(a:AV):Prop:=bA a=true∧∀t,¬bH a t
theorem Ic{f:Nat}{s:ab}{C C':AV→ab→Prop}(hc:∀a s',sU a→C a s'→C' a s'):∀{o:Option (List AV)},xt P f s C o→xt P f s C' o
 |some _,h=>FN.mono (P:=P) h fun rs s'⟨h1,h2⟩=>⟨h1,hc _ _ ⟨nS h1,tv h1⟩ h2⟩
 |none,h=>h
theorem Gi{s:ab}{C C':AV→ab→Prop}(hc:∀a s',sU a→C a s'→C' a s'){o:Option (List AV)}{x:AV}(h:s9 P o s C x):s9 P o s C' x:=by
 unfold s9 at h⊢
 split at h
 ·unfold Gg at h⊢
  split at h
  ·exact⟨h.1,FN.mono (P:=P) h.2 fun rs s'⟨h1,h2⟩=>⟨h1,hc _ _ ⟨nS h1,tv h1⟩ h2⟩⟩
  ·exact h
 ·exact h
theorem El(b o l c:Nat):sU (.arr b o l c):=⟨rfl,fun _ h=>h⟩
theorem Em(b o:Nat):sU (.ref b o):=⟨rfl,fun _ h=>h⟩
theorem Oa(b:Nat):sU (.mp b):=⟨rfl,fun _ h=>h⟩
theorem En(l:List AV):sU (.gu l):=⟨rfl,fun _ h=>h⟩
theorem vF{o:rh}{C C':AV→ab→Prop}(hc:∀a s',sU a→C a s'→C' a s')(h:qV P o σ C):qV P o σ C':=by
 cases o<;>first|(exact h.elim)|skip
 case call f args=>exact Ic hc h
 case eC x args=>exact Gi hc h
 case makeMap=>exact fun b hb=>hc _ _ (Oa b) (h b hb)
 case gV z=>exact fun b hb=>hc _ _ (Em b 0) (h b hb)
 case qU m x=>exact⟨h.1,h.2.1,fun b hb=>hc _ _ (Em b 0) (h.2.2 b hb)⟩
 case gE sz by' z l c=>
  have h:rn by' z σ.s C (xg true σ l) (xg true σ c):=h
  show rn by' z σ.s C' (xg true σ l) (xg true σ c)
  unfold rn at h⊢
  split at h
  ·exact⟨h.1,h.2.1,h.2.2.1,fun b hb=>hc _ _ (El ..) (h.2.2.2 b hb)⟩
  ·exact h
 case store m p v=>
  have h:nq m σ.s C (σ.x v) (σ.x p):=h
  show nq m σ.s C' (σ.x v) (σ.x p)
  unfold nq at h⊢
  split at h
  ·refine⟨h.1,h.2.1,h.2.2.1,?_⟩
   have h4:=h.2.2.2
   unfold Gj at h4⊢
   split at h4
   ·exact⟨h4.1,hc _ _ (En _) h4.2⟩
   ·exact h4
  ·exact h
 case kZ x=>
  have h:rp σ.s C (σ.x x):=h
  show rp σ.s C' (σ.x x)
  unfold rp at h⊢
  split at h
  ·unfold vE at h⊢
   split at h
   ·unfold iJ at h⊢
    split at h
    ·exact hc _ _ ⟨rfl,fun _ h=>h⟩ h
    ·exact hc _ _ ⟨rfl,fun _ h=>h⟩ h
    ·exact h
   ·exact h
  ·exact h
 case mapUpdate kk x k v=>
  have h:Dv kk σ.s (xg true σ k) (xg true σ v) C (xg true σ x):=h
  show Dv kk σ.s (xg true σ k) (xg true σ v) C' (xg true σ x)
  unfold Dv at h⊢
  split at h
  ·unfold Ie at h⊢
   split at h
   ·exact⟨h.1,hc _ _ (En _) h.2⟩
   ·exact h
  ·exact h
theorem AE{o:rh}{C:AV→ab→Prop}(hx:∀x∈cE o,σ.x x=σ'.x x)(hs:σ.s=σ'.s)(h:qV P o σ C):qV P o σ' C:=by
 have hg:∀x∈cE o,xg true σ x=xg true σ' x:=fun x h=>by unfold xg;rw[hx x h]
 cases o<;>first|(exact h.elim)|skip
 case call f args=>
  show xt P f σ'.s C (cc (xg true σ') args)
  rw[←hs,←fG args hg];exact h
 case eC x args=>
  show s9 P (cc (xg true σ') args) σ'.s C (xg true σ' x)
  rw[←hs,←fG args fun y hy=>hg y (List.mem_cons_of_mem _ hy),←hg x List.mem_cons_self];exact h
 case makeMap=>rw[qV,←hs];exact h
 case gV z=>rw[qV,←hs];exact h
 case qU m x=>rw[qV,←hs,←hg x List.mem_cons_self];exact h
 case gE sz by' z l c=>rw[qV,←hs,←hg l (by simp[cE]),←hg c (by simp[cE])];exact h
 case store m p v=>rw[qV,←hs,←hx p (by simp[cE]),←hx v (by simp[cE])];exact h
 case kZ x=>rw[qV,←hs,←hx x List.mem_cons_self];exact h
 case mapUpdate kk x k v=>rw[qV,←hs,←hg x (by simp[cE]),←hg k (by simp[cE]),←hg v (by simp[cE])];exact h
theorem JE{a:AV}(h:Kh a=true)(hv:c9 a=true):view a=a:=by
 cases a<;>first|rfl|skip
 ·rename_i o z m cs
  cases o
  ·rfl
  ·cases h
 ·cases hv
 ·cases hv
 ·cases h
theorem j5.put(h:j5 σ σ')(d:Option Nat)(v:AV):j5 (σ.put d v) (σ'.put d v):=by
 cases d with
 |none=>exact h
 |some d=>exact⟨fun i=>by show look ((d,v)::σ.e) i=look ((d,v)::σ'.e) i;rw[aP,aP,h.e],h.lp,h.s⟩
theorem j5.HN(h:j5 σ σ')(s:ab):j5 {σ with s:=s} {σ' with s:=s}:=⟨h.e,h.lp,rfl⟩
theorem KW{x:IX}(h:view (σ.x x)=σ.x x):j5 (σ.drain x) σ:=by
 cases x with
 |c a=>exact j5.refl _
 |t i=>
  refine⟨fun j=>?_,fun _=>Iff.rfl,rfl⟩
  show look ((i,view (look σ.e i))::σ.e) j=_
  rw[aP]
  by_cases e:i=j
  ·subst e;simp;exact h
  ·simp[e]
theorem OC{o:aq}{K:St→Prop}(hK:∀τ τ',j5 τ τ'→K τ→K τ')(h:Oi P o σ K):HQ P o σ K:=by
 obtain⟨d,op,g⟩:=o
 cases g with
 |some _=>exact h.elim
 |none=>
 replace h:=h.2
 cases op<;>first|(exact h.elim)|skip
 case call f args=>
  show rv P f σ d K (cc (xg true σ) args)
  have h:xt P f σ.s (Ma σ d K) (cc (xg true σ) args):=h
  cases hh:cc (xg true σ) args<;>rw[hh]at h<;>exact h
 case eC x args=>
  show uL P σ (cc (xg true σ) args) d K (xg true σ x)
  have h:s9 P (cc (xg true σ) args) σ.s (Ma σ d K) (xg true σ x):=h
  cases hh:cc (xg true σ) args<;>cases hx:xg true σ x<;>rw[hh,hx]at h<;>exact h
 case makeMap=>exact h
 case gV z=>exact h
 case qU m x=>exact h
 case gE sz by' z l c=>
  show wG by' z σ d K (xg true σ l) (xg true σ c)
  have h:rn by' z σ.s (Ma σ d K) (xg true σ l) (xg true σ c):=h
  cases hl:xg true σ l<;>cases hc:xg true σ c<;>rw[hl,hc]at h<;>exact h
 case store m p v=>
  show FX m σ p v d K (σ.x v)
  have h:nq m σ.s (Ma σ d K) (σ.x v) (σ.x p):=h
  unfold nq at h
  split at h
  ·rename_i b off hp
   obtain⟨h1,h2,h3,h4⟩:=h
   refine⟨h1,h3,?_⟩
   have hd:=KW (JE h2 h1)
   rw[hp]
   show HS d K (JF (σ.drain v) b off (bp (σ.x v)) ((σ.drain v).s b))
   rw[hd.s]
   unfold Gj at h4
   split at h4
   ·rename_i ez ho
    rw[ho]
    show HS d K (Qk (σ.drain v) b (dQ off (bp (σ.x v)) ez))
    unfold dQ
    rw[decide_eq_true h4.1]
    refine hK _ _ ?_ h4.2
    have e:j5 {σ with s:=σ.s.set b (.cells (setAt ez off (bp (σ.x v))))} {σ.drain v with s:=(σ.drain v).s.set b (.cells (setAt ez off (bp (σ.x v))))}:=by rw[hd.s];exact hd.symm.HN _
    exact e.put d _
   ·exact h4.elim
  ·exact h.elim
 case kZ x=>
  show og σ d K (σ.x x)
  have h:rp σ.s (Ma σ d K) (σ.x x):=h
  unfold rp at h
  split at h
  ·rename_i b off hx
   rw[hx]
   unfold og
   simp only
   unfold vE at h
   split at h
   ·rename_i cs he
    first|exact h|(rw[he];exact h)
   ·exact h.elim
  ·exact h.elim
 case mapUpdate kk x k v=>
  show tq kk σ (xg true σ k) (xg true σ v) d K (xg true σ x)
  have h:Dv kk σ.s (xg true σ k) (xg true σ v) (Ma σ d K) (xg true σ x):=h
  unfold Dv at h
  split at h
  ·rename_i b hx
   rw[hx]
   show TL kk b σ (xg true σ k) (xg true σ v) d K (σ.s b)
   unfold Ie at h
   split at h
   ·rename_i es he
    rw[he];exact h
   ·exact h.elim
  ·exact h.elim
theorem Tg{o:aq}{g:Bool}(h:lu o σ=true)(s:ab):pv o.op (xg g {σ with s:=s}) {σ with s:=s}=pv o.op (xg g σ) σ:=by
 have hf:xg g {σ with s:=s}=xg g σ:=by funext x;cases x<;>rfl
 rw[hf]
 obtain⟨d,op,gg⟩:=o
 cases op<;>first|rfl|skip
 case iT tr x=>cases tr<;>rfl
 case slice sz x lo hi mx=>cases mx<;>rfl
 case load m multi x=>
  have h:lh (σ.x x)=true:=h
  have hn:lh (xg g σ x)=true:=by
   unfold xg vy
   split
   ·rename_i b a hb
    rw[hb]at h
    cases hc:((b==g)||b)&&inner a
    ·rfl
    ·exact h
   ·exact h
  show iI multi (rd {σ with s:=s} (xg g σ x) m)=iI multi (rd σ (xg g σ x) m)
  cases he:xg g σ x<;>first|rfl|(rw[he]at hn;cases hn)
 case bW z m x=>cases h
 case lN k x=>cases h
 case len c x=>
  have h:(!Nat.beq c 2)=true:=h
  show zn s c (xg g σ x)=zn σ.s c (xg g σ x)
  match c,h with
  |0,_=>cases xg g σ x<;>rfl
  |1,_=>cases xg g σ x<;>rfl
  |c+3,_=>cases xg g σ x<;>rfl
 case OS ne x y=>
  cases y with
  |t i=>rfl
  |c a=>
   cases a<;>first|rfl|skip
   rename_i o z m cs
   cases o<;>cases m<;>cases cs<;>rfl
theorem Zp{o:aq}(h:lu o σ=true)(s:ab):qv o {σ with s:=s}=qv o σ:=by
 unfold qv
 split
 ·exact Tg h s
 ·rename_i t want _
  show Ht o.op want {σ with s:=s} (look σ.e t)=Ht o.op want σ (look σ.e t)
  unfold Ht
  split
  ·show LY _ _ _=LY _ _ _
   rw[Tg h s]
  ·show LY _ _ _=LY _ _ _
   rw[Tg h s]
  ·rfl
theorem Tr{o:aq}(h:lu o σ=true)(s:ab)(f:IX→AV):qe f s o.op=qe f σ.s o.op:=by
 obtain⟨d,op,gg⟩:=o
 cases op<;>first|rfl|(cases h;done)
theorem W8{o:aq}(h:lu o σ=true)(s:ab):BM o {σ with s:=s}=BM o σ:=by
 have hf:∀g,xg g {σ with s:=s}=xg g σ:=fun g=>by funext x;cases x<;>rfl
 unfold BM
 split
 ·rw[hf];exact Tr h s _
 ·rename_i t want _
  show Kn o.op want {σ with s:=s} (look σ.e t)=Kn o.op want σ (look σ.e t)
  unfold Kn
  split
  ·show HT _ (qe (xg _ {σ with s:=s}) s o.op)=HT _ _
   rw[hf,Tr h s]
  ·show HT _ (qe (xg _ {σ with s:=s}) s o.op)=HT _ _
   rw[hf,Tr h s]
  ·rfl
theorem qd(d:Option Nat)(s:ab):bB {σ with s:=s} d=bB σ d:=by cases d<;>rfl
theorem Y2.HN{o:aq}{v:AV}(hy:Y2 P σ o v)(h:lu o σ=true)(s:ab):Y2 P {σ with s:=s} o v:=by
 cases hy with
 |ez _ _ h0 hf hv hy=>
  refine .ez o v h0 (by rw[qd];exact hf) hv ?_
  cases hy with
  |pure _ _ hq=>exact .pure o v (by rw[Zp h s];exact hq)
  |iT d x hi=>exact .iT (σ:={σ with s:=s}) d x hi
  |call=>cases h
  |Gl=>cases h
  |eC=>cases h
  |AN=>cases h
  |QM _ _ hq=>exact .QM o v (by rw[W8 h s];exact hq)
 |TH m c x ez h0 h1 h2 h3=>exact .TH (σ:={σ with s:=s}) m c x ez h0 h1 h2 h3
 |RI d z h0 h1=>exact .RI d z h0 h1
 |app d sz bytes x y _ h0 h1=>exact .app d sz bytes x y v h0 h1
 |SB d off i x cs o s' m ds h0 h1 h2 h3 h4=>exact .SB d off i x cs o s' m ds h0 h1 h2 h3 h4
def behind(σ:St)(d:Option Nat)(a:AV)(s:ab):St:={σ with s:=s}.put d a
theorem k9(σ:St)(d:Option Nat)(a:AV)(i:Nat):look (σ.put d a).e i=if d=some i then a else look σ.e i:=by
 cases d with
 |none=>simp[St.put]
 |some d=>
  show look ((d,a)::σ.e) i=_
  rw[aP]
  by_cases e:d=i
  ·subst e;simp
  ·simp[e]
theorem BK(σ:St)(d:Option Nat)(a:AV):(σ.put d a).s=σ.s∧(σ.put d a).lp=σ.lp:=by cases d<;>exact⟨rfl,rfl⟩
theorem Ge(σ:St)(d:Option Nat)(a:AV)(s:ab):(behind σ d a s).s=s:=(BK _ d a).1
theorem sr{d:Option Nat}{l:List Nat}(h:ga d l=true){i:Nat}(hi:i∈l):d≠some i:=fun e=>by
 subst e
 simp[ga]at h
 exact h hi
theorem L5{y x:aq}(h:RJ y x=true):yL y x=true∧ga (pA y) (ch x)=true∧ga x.dst (ch y)=true∧∀i,pA y=some i→x.dst≠some i:=by
 unfold RJ at h
 simp only[Bool.and_eq_true]at h
 refine⟨h.1.1.1,h.1.1.2,h.1.2,fun i hi hd=>?_⟩
 have:=h.2
 rw[hi,hd]at this
 simp at this
theorem JL{y:aq}{d:Option Nat}{v:AV}(hd:ga d (ch y)=true)(hf:bB σ d=true)(hv:bA v=true):F6 y σ (σ.put d v):=by
 have key:∀i,i∈ch y→look σ.e i=look (σ.put d v).e i:=fun i hi=>by rw[k9,if_neg (sr hd hi)]
 refine⟨fun x hx=>?_,fun t want hg=>key t (List.mem_append_left _ (by rw[hg];exact List.mem_cons_self)),(BK σ d v).1.symm,fun x _ g m=>?_⟩
 ·cases x with
  |c a=>rfl
  |t i=>exact key i (List.mem_append_right _ (gw hx))
 ·cases he:xg g σ x<;>try rfl
  ·rename_i b off
   show tK m off (σ.s b)=tK m off ((σ.put d v).s b)
   rw[(BK σ d v).1]
  ·rename_i c off
   show ka m off (look σ.e c)=ka m off (look (σ.put d v).e c)
   rw[k9]
   by_cases e:d=some c
   ·rw[if_pos e,iV hv]
    rw[e]at hf
    exact iV hf m off
   ·rw[if_neg e]
theorem LF{y:aq}{d:Option Nat}{v:AV}{s:ab}(hd:ga d (ch y)=true):lu y (behind σ d v s)=lu y σ:=by
 obtain⟨dd,op,g⟩:=y
 cases op<;>first|rfl|skip
 rename_i m mu x
 show lh ((behind σ d v s).x x)=lh (σ.x x)
 cases x with
 |c a=>rfl
 |t i=>
  show lh (look (behind σ d v s).e i)=lh (look σ.e i)
  unfold behind
  rw[k9,if_neg (sr hd (List.mem_append_right _ (gw (List.mem_cons_self))))]
theorem Y2.behind{y:aq}{v av:AV}{d:Option Nat}{s:ab}(hy:Y2 P σ y v)(h:lu y σ=true)(hd:ga d (ch y)=true)(hf:bB σ d=true)(hv:sU av)(hne:∀i,pA y=some i→d≠some i):Y2 P (behind σ d av s) y v:=by
 have h1:Y2 P {σ with s:=s} y v:=hy.HN h s
 unfold AB.behind
 refine h1.HZ (JL hd (by rw[qd];exact hf) hv.1) (fun i hi=>?_) (fun i hi hf=>?_)
 ·rw[k9,if_neg (hne i (tg hi))]
 ·rw[(BK _ d av).2];exact hf
theorem Y2.Qi{d:Option Nat}{m:Nat}{mu:Bool}{x:IX}{v:AV}{s:ab}(hy:Y2 P σ ⟨d,.load m mu x,none⟩ v)(hs:∀b o,σ.s b=some o→s b=some o):Y2 P {σ with s:=s} ⟨d,.load m mu x,none⟩ v:=by
 have hx:xg true {σ with s:=s} x=xg true σ x:=by cases x<;>rfl
 have key:qv ⟨d,.load m mu x,none⟩ σ≠.no→qv ⟨d,.load m mu x,none⟩ {σ with s:=s}=qv ⟨d,.load m mu x,none⟩ σ:=by
  show iI mu (rd σ (xg true σ x) m)≠.no→iI mu (rd {σ with s:=s} (xg true {σ with s:=s} x) m)=iI mu (rd σ (xg true σ x) m)
  rw[hx]
  intro hn
  cases he:xg true σ x<;>try rfl
  rename_i b off
  rw[he]at hn
  have hn:iI mu (tK m off (σ.s b))≠.no:=hn
  show iI mu (tK m off (s b))=iI mu (tK m off (σ.s b))
  cases hb:σ.s b with
  |none=>rw[hb]at hn;exact absurd rfl hn
  |some o=>rw[hs b o hb]
 cases hy with
 |ez _ _ h0 hf hv hy=>
  refine .ez _ v h0 (by rw[qd];exact hf) hv ?_
  cases hy with
  |pure _ _ hq=>
   refine .pure _ v ?_
   rw[key (by rcases hq with h|⟨c,h,_⟩<;>rw[h]<;>exact fun e=>nomatch e)]
   exact hq
  |QM _ _ hq=>rcases hq with h|⟨c,h,_⟩<;>exact nomatch h
theorem DV{y x:aq}(h:GX y x=true):(∃d m mu p,y=⟨d,.load m mu p,none⟩)∧∃d sz by' z l c g,x=⟨d,.gE sz by' z l c,g⟩:=by
 unfold GX at h
 split at h
 ·exact⟨⟨_,_,_,_,rfl⟩,⟨_,_,_,_,_,_,_,rfl⟩⟩
 ·cases h
theorem Y2.OD{y x:aq}{v av:AV}{d:Option Nat}{s:ab}(hy:Y2 P σ y v)(hl:GX y x=true)(hs:∀b o,σ.s b=some o→s b=some o)(hd:ga d (ch y)=true)(hf:bB σ d=true)(hv:sU av)(hne:∀i,pA y=some i→d≠some i):Y2 P (AB.behind σ d av s) y v:=by
 have h1:Y2 P {σ with s:=s} y v:=by
  obtain⟨⟨d,m,mu,p,rfl⟩,_⟩:=DV hl
  exact hy.Qi hs
 unfold AB.behind
 refine h1.HZ (JL hd (by rw[qd];exact hf) hv.1) (fun i hi=>?_) (fun i hi hf=>?_)
 ·rw[k9,if_neg (hne i (tg hi))]
 ·rw[(BK _ d av).2];exact hf
theorem KM{sz by':Nat}{z:List AV}{l c:IX}{C C':AV→ab→Prop}(hc:∀a s',sU a→(∀b o,σ.s b=some o→s' b=some o)→C a s'→C' a s')(h:qV P (.gE sz by' z l c) σ C):qV P (.gE sz by' z l c) σ C':=by
 have h:rn by' z σ.s C (xg true σ l) (xg true σ c):=h
 show rn by' z σ.s C' (xg true σ l) (xg true σ c)
 unfold rn at h⊢
 split at h
 ·refine⟨h.1,h.2.1,h.2.2.1,fun b hb=>hc _ _ (El ..) (fun b' o' h'=>?_) (h.2.2.2 b hb)⟩
  have:b'≠b:=fun e=>by rw[e,hb]at h';cases h'
  simp[ab.set,this,h']
 ·exact h
theorem vD{y:aq}{v av:AV}{d:Option Nat}{s:ab}(hd:ga d (ch y)=true)(hne:∀i,pA y=some i→d≠some i):j5 (bU (behind σ d av s) y v) (AB.behind (bU σ y v) d av s):=by
 refine⟨fun i=>?_,fun x=>?_,?_⟩
 ·rw[dC]
  unfold AB.behind
  rw[k9,k9]
  show _=if d=some i then av else look (bU σ y v).e i
  rw[dC]
  by_cases h1:pA y=some i
  ·rw[if_pos h1,if_neg (hne i h1),if_pos h1]
  ·rw[if_neg h1,if_neg h1]
   by_cases h2:d=some i
   ·rw[if_pos h2,if_pos h2]
    refine Dz fun hh=>?_
    exact sr hd (mF hh) h2
   ·rw[if_neg h2,if_neg h2]
 ·rw[gO]
  unfold AB.behind
  rw[(BK _ d av).2,(BK _ d av).2]
  show _↔x∈(bU σ y v).lp
  rw[gO]
 ·rw[jT,Ge,Ge]
def bE(P:Program)(T:List Nat):List Item→(St→Prop)→St→Prop
 |[],K,σ=>∃τ,j5 τ σ∧K τ
 |(k,_,o)::r,K,σ=>if 3≤k then∃τ,j5 τ σ∧HQ P o τ (fun ρ=>gq T ρ.e=true∧Dw P T r ρ K)else if 2≤k then bB σ o.dst=true∧o.g=none∧qV P o.op σ (fun a s=>bE P T r K (behind σ o.dst a s))
  else∃v,Y2 P σ o v∧xX T o v∧(k=1→lu o σ=true)∧bE P T r K (bU σ o v)
theorem AG{K:St→Prop}:∀(l:List Item)(σ:St),Dw P T l σ K→bE P T l K σ
 |[],σ,h=>⟨σ,j5.refl _,h⟩
 |(0,_,o)::r,σ,h=>by
  obtain⟨v,h1,h2,h3⟩:=FB (show q2 P o σ (fun τ=>gq T τ.e=true∧Dw P T r τ K) from h)
  unfold bE
  rw[if_neg (by decide),if_neg (by decide)]
  exact⟨v,h1,xY fun i c hc=>mQ h2 i c hc,fun e=>(by cases e),AG r _ h3⟩
 |(1,_,o)::r,σ,h=>by
  obtain⟨h0,h⟩:=h
  obtain⟨v,h1,h2,h3⟩:=FB (show q2 P o σ (fun τ=>gq T τ.e=true∧Dw P T r τ K) from h)
  unfold bE
  rw[if_neg (by decide),if_neg (by decide)]
  exact⟨v,h1,xY fun i c hc=>mQ h2 i c hc,fun _=>h0,AG r _ h3⟩
 |(k+3,_,o)::r,σ,h=>by
  have h:HQ P o σ (fun τ=>gq T τ.e=true∧Dw P T r τ K):=h
  unfold bE
  rw[if_pos (by omega)]
  exact⟨σ,j5.refl _,h⟩
 |(2,_,o)::r,σ,h=>by
  have h:Oi P o σ (fun τ=>gq T τ.e=true∧Dw P T r τ K):=h
  unfold bE
  rw[if_neg (by decide),if_pos (by decide)]
  unfold Oi at h
  split at h
  ·rename_i hg
   exact⟨h.1,hg,vF (fun a s _ hk=>AG r _ hk.2) h.2⟩
  ·exact h.elim
theorem LD{o:aq}(h:j5 σ σ'):lu o σ=lu o σ':=by
 obtain⟨d,op,g⟩:=o
 cases op<;>first|rfl|skip
 rename_i m mu x
 show lh (σ.x x)=lh (σ'.x x)
 cases x with
 |c a=>rfl
 |t i=>show lh (look σ.e i)=lh (look σ'.e i);rw[h.e]
theorem xq{K:St→Prop}:∀(l:List Item){σ σ':St},j5 σ σ'→bE P T l K σ→bE P T l K σ'
 |[],_,_,h,⟨τ,h1,h2⟩=>⟨τ,h1.trans h,h2⟩
 |(k,i,o)::r,σ,σ',h,hb=>by
  unfold bE at hb⊢
  by_cases hk3:3≤k
  ·rw[if_pos hk3]at hb⊢
   obtain⟨τ,h1,h2⟩:=hb
   exact⟨τ,h1.trans h,h2⟩
  rw[if_neg hk3]at hb⊢
  by_cases hk:2≤k
  ·rw[if_pos hk]at hb⊢
   refine⟨by rw[←h.free];exact hb.1,hb.2.1,?_⟩
   refine AE (σ:=σ) (fun x _=>by cases x with|c a=>rfl|t i=>exact h.e i) h.s (vF (fun a s _ hh=>?_) hb.2.2)
   exact xq r ((h.HN s).put o.dst a) hh
  ·rw[if_neg hk]at hb⊢
   obtain⟨v,h1,h2,h3,h4⟩:=hb
   exact⟨v,h1.eqv h,h2,fun e=>by rw[←LD h];exact h3 e,xq r (h.bU o v) h4⟩
theorem yS{o y:aq}{v:AV}(hn:ga (pA y) (ch o)=true)(hdr:yL y o=true):lu o (bU σ y v)=lu o σ:=by
 obtain⟨d,op,g⟩:=o
 cases op<;>first|rfl|skip
 rename_i m mu x
 show lh ((bU σ y v).x x)=lh (σ.x x)
 cases x with
 |c a=>rfl
 |t i=>
  have hi:i∈ch ⟨d,.load m mu (.t i),g⟩:=List.mem_append_right _ (gw List.mem_cons_self)
  show lh (look (bU σ y v).e i)=lh (look σ.e i)
  rw[dC,if_neg (sr hn hi),Dz]
  have:=List.all_eq_true.1 hdr i hi
  simpa using this
theorem Ra{K:St→Prop}{kx ix:Nat}{x:aq}(hkx:¬2≤kx)(hTx:O0 T x):∀(pre:List Item)(post:List Item)(σ:St),uH T σ→(∀y∈pre,¬2≤y.1∧Qr y.2.2 x=true∧O0 T y.2.2)→bE P T (pre++(kx,ix,x)::post) K σ→
 ∃v,Y2 P σ x v∧xX T x v∧(kx=1→lu x σ=true)∧bE P T (pre++post) K (bU σ x v)
 |[],post,σ,_,_,h=>by
  have h:bE P T ((kx,ix,x)::post) K σ:=h
  unfold bE at h
  rw[if_neg (by omega),if_neg hkx]at h
  exact h
 |(k,i,o)::pre,post,σ,hN,hap,h=>by
  have h:bE P T ((k,i,o)::(pre++(kx,ix,x)::post)) K σ:=h
  obtain⟨hk,hap0,hT0⟩:=hap _ List.mem_cons_self
  unfold bE at h
  rw[if_neg (by omega),if_neg hk]at h
  obtain⟨v,h1,h2,h3,h4⟩:=h
  obtain⟨u,i1,i2,i3,i4⟩:=Ra hkx hTx pre post (bU σ o v) (qf hN h2) (fun y hy=>hap y (List.mem_cons_of_mem _ hy)) h4
  obtain⟨a1,a2,a3,a4,a5,a6,a7,c1,c2⟩:=Gb hap0
  have hx:Y2 P σ x u:=i1.HZ (sZ h1 a1 a4 c2 hN hT0).symm
   (fun i hi=>(jM fun e=>a3 i i e (tg hi) rfl).symm)
   (fun i hi hf=>lf (fun z hz _=>(gO o v z).2 (.inl hz)) hf)
  have ho:Y2 P (bU σ x u) o v:=h1.HZ (sZ hx a2 a5 c1 hN hTx)
   (fun i hi=>jM fun e=>a3 i i (tg hi) e rfl)
   (fun i hi hf=>lf (fun z hz hzi=>by
     rcases(gO _ _ z).1 hz with hz|⟨j,j1,_,j3⟩
     ·exact hz
     ·rw[hzi]at j3;exact(i2 j j1 i (hT0 i hi) j3).elim) hf)
  have hcomm:j5 (bU (bU σ o v) x u) (bU (bU σ x u) o v):=Cp a3 a6 a7
  refine⟨u,hx,i2,fun e=>by rw[←yS a1 a4];exact i3 e,?_⟩
  show bE P T ((k,i,o)::(pre++post)) K (bU σ x u)
  unfold bE
  rw[if_neg (by omega),if_neg hk]
  exact⟨v,ho,h2,fun e=>by rw[yS a2 a5];exact h3 e,xq _ hcomm i4⟩
theorem Rb{K:St→Prop}{kx ix:Nat}{x:aq}(hkx:2≤kx)(hkx3:¬3≤kx):∀(pre:List Item)(post:List Item)(σ:St),(∀y∈pre,(y.1=1∨y.1=0∧GX y.2.2 x=true)∧RJ y.2.2 x=true)→bE P T (pre++(kx,ix,x)::post) K σ→
 bB σ x.dst=true∧x.g=none∧qV P x.op σ (fun a s=>bE P T (pre++post) K (behind σ x.dst a s))
 |[],post,σ,_,h=>by
  have h:bE P T ((kx,ix,x)::post) K σ:=h
  unfold bE at h
  rw[if_neg hkx3,if_pos hkx]at h
  exact h
 |(k,i,o)::pre,post,σ,hap,h=>by
  have h:bE P T ((k,i,o)::(pre++(kx,ix,x)::post)) K σ:=h
  obtain⟨hk01,hap0⟩:=hap _ List.mem_cons_self
  have hk01:k=1∨k=0∧GX o x=true:=hk01
  have hklt:¬3≤k∧¬2≤k:=by rcases hk01 with h|⟨h,_⟩<;>omega
  unfold bE at h
  rw[if_neg hklt.1,if_neg hklt.2]at h
  obtain⟨v,h1,h2,h3,h4⟩:=h
  obtain⟨i1,i2,i3⟩:=Rb hkx hkx3 pre post (bU σ o v) (fun y hy=>hap y (List.mem_cons_of_mem _ hy)) h4
  obtain⟨a1,a2,a3,a4⟩:=L5 hap0
  have hf:bB σ x.dst=true:=by
   cases hd:x.dst with
   |none=>rfl
   |some d=>
    rw[hd]at i1
    have e:bA (look (bU σ o v).e d)=bA (look σ.e d):=jM fun e=>a4 d e hd
    show bA (look σ.e d)=true
    rw[←e];exact i1
  have hcg:∀{C:AV→ab→Prop},qV P x.op (bU σ o v) C→qV P x.op σ C:=fun hh=>AE (σ:=bU σ o v) (fun y hy=>by
   cases y with
   |c a=>rfl
   |t j=>
    have hj:j∈ch x:=List.mem_append_right _ (gw hy)
    show look (bU σ o v).e j=look σ.e j
    rw[dC,if_neg (sr a2 hj),Dz]
    have:=List.all_eq_true.1 a1 j hj
    simpa using this) (jT o v) hh
  rcases hk01 with rfl|⟨rfl,hl⟩
  ·refine⟨hf,i2,hcg (vF (fun av s hv hb=>?_) i3)⟩
   show bE P T ((1,i,o)::(pre++post)) K (behind σ x.dst av s)
   unfold bE
   rw[if_neg (by omega),if_neg (by omega)]
   refine⟨v,h1.behind (h3 rfl) a3 hf hv a4,h2,fun _=>by rw[LF a3];exact h3 rfl,?_⟩
   exact xq _ (vD a3 a4).symm hb
  ·refine⟨hf,i2,hcg ?_⟩
   obtain⟨_,d',sz,by',z,l,c,g',rfl⟩:=DV hl
   refine KM (fun av s hv hsub hb=>?_) i3
   show bE P T ((0,i,o)::(pre++post)) K (behind σ d' av s)
   unfold bE
   rw[if_neg (by omega),if_neg (by omega)]
   refine⟨v,h1.OD hl (fun b o' h'=>hsub b o' (by rw[jT];exact h')) a3 hf hv a4,h2,fun e=>(by cases e),?_⟩
   exact xq _ (vD a3 a4).symm hb
end
section
variable{P:Program}{n:Nat}{D:List Deferred}{ops:Array Oper}{T:List Nat}
def ZE(ops:Array Oper)(j i:Nat):Prop:=∀L:Nat→Prop,(∀m,L m→∀d,gA ops m d=true→L d)→(∀d,gA ops j d=true→L d)→L i
theorem DF(acc:List Nat)(i:Nat):∀(l:List Edge)(s:Nat),(l.foldl (fun s e=>bif Region.binds .any e then s |||(1<<<e.on)|||acc.getD e.on 0 else s) s).testBit i=true→
 s.testBit i=true∨∃e∈l,Region.binds .any e=true∧(i=e.on∨(acc.getD e.on 0).testBit i=true)
 |[],s,h=>.inl h
 |e::l,s,h=>by
  rw[List.foldl_cons]at h
  rcases DF acc i l _ h with h|⟨e',h1,h2⟩
  ·cases hb:Region.binds .any e with
   |false=>rw[hb]at h;exact .inl h
   |true=>
    rw[hb,cond_true,Nat.testBit_or,Nat.testBit_or,Bool.or_eq_true,Bool.or_eq_true]at h
    rcases h with(h|h)|h
    ·exact .inl h
    ·refine .inr ⟨e,List.mem_cons_self,hb,.inl ?_⟩
     rw[Nat.testBit_shiftLeft,Bool.and_eq_true,decide_eq_true_eq]at h
     have:=Nat.testBit_one_eq_true_iff_self_eq_zero.1 h.2
     omega
    ·exact .inr ⟨e,List.mem_cons_self,hb,.inr h⟩
  ·exact .inr ⟨e',List.mem_cons_of_mem _ h1,h2⟩
theorem D1:∀(l:List Oper)(acc:List Nat),l=ops.toList.drop acc.length→(∀j i,(acc.getD j 0).testBit i=true→ZE ops j i)→∀j i,((D0 l acc).getD j 0).testBit i=true→ZE ops j i
 |[],acc,_,h=>h
 |o::l,acc,hl,h=>by
  have ho:ops[acc.length]? =some o:=by
   have:(ops.toList.drop acc.length)[0]? =some o:=by rw[←hl];rfl
   simpa using this
  refine D1 l (acc++[Bz acc o]) ?_ fun j i hb=>?_
  ·have:(ops.toList.drop acc.length).tail=l:=by rw[←hl];rfl
   rw[←this];simp
  ·by_cases hj:j<acc.length
   ·refine h j i ?_
    simpa[List.getD_eq_getElem?_getD,List.getElem?_append_left hj]using hb
   ·by_cases he:j=acc.length
    ·subst he
     have hb:(Bz acc o).testBit i=true:=by simpa[List.getD_eq_getElem?_getD]using hb
     unfold Bz at hb
     rcases DF acc i _ _ hb with h0|⟨e,e1,e2,e3⟩
     ·simp at h0
     ·intro L hc hd
      have hle:L e.on:=hd _ ((kO ho).2 ⟨e,by simpa using e1,e2,rfl⟩)
      rcases e3 with rfl|e3
      ·exact hle
      ·exact h e.on i e3 L hc (hc _ hle)
    ·have:(acc++[Bz acc o]).getD j 0=0:=by
      rw[List.getD_eq_getElem?_getD,List.getElem?_eq_none (by simp;omega)];rfl
     rw[this]at hb
     simp at hb
theorem D7{ms:List Nat}:∀{l:List Item},Fu ops ms l=true→l.Pairwise fun x y=>wQ ops ms x y=true
 |[],_=>.nil
 |x::r,h=>by
  simp only[Fu,Bool.and_eq_true]at h
  exact .cons (fun y hy=>List.all_eq_true.1 h.1 y hy) (D7 h.2)
structure LZ(ops:Array Oper)(L0 L:List Item)(listed:Array Bool):Prop where
 size:listed.size=ops.size
 sub:L.Sublist L0
 un:∀x∈L,listed.getD x.2.1 true=false
 li:∀k,k<ops.size→(∀x∈L,x.2.1≠k)→listed.getD k false=true
 cl:∀m,listed.getD m false=true→∀i,gA ops m i=true→listed.getD i false=true
theorem vU{l:Array Bool}{i j:Nat}{b:Bool}(h:j≠i):(l.setIfInBounds i true).getD j b=l.getD j b:=by simp[Array.getElem?_setIfInBounds,h.symm]
theorem oc{l:Array Bool}{i:Nat}{b:Bool}(h:i<l.size):(l.setIfInBounds i true).getD i b=true:=by simp[h]
theorem tO{l:Array Bool}{i j:Nat}(h:l.getD j false=true):(l.setIfInBounds i true).getD j false=true:=by
 by_cases e:j=i
 ·subst e
  rcases Nat.lt_or_ge j l.size with hj|hj
  ·exact oc hj
  ·simp[Array.getElem?_eq_none hj]at h
 ·rw[vU e];exact h
theorem J8{x:Item}(h:Br P T n ops x=true)(hk:¬2≤x.1):O0 T x.2.2:=fun c hc=>by
 simp only[Br,Bool.and_eq_true]at h
 have h2:=h.2
 unfold MQ at hc
 split at hc
 ·rename_i hx
  rw[hx]at h2
  injection hc with hc;subst hc
  rcases Bool.or_eq_true_iff.1 h2 with h2|h2
  ·exact(hk (of_decide_eq_true h2)).elim
  ·simpa using h2
 ·rename_i hx
  rw[hx]at h2
  injection hc with hc;subst hc;simpa using h2
 ·cases hc
theorem uH.behind{σ:St}(h:uH T σ){d:Option Nat}{a:AV}{s:ab}(ha:sU a):uH T (behind σ d a s):=fun i c hc=>by
 unfold AB.behind
 rw[k9]
 by_cases e:d=some i
 ·rw[if_pos e];exact ha.2 c
 ·rw[if_neg e];exact h i c hc
theorem Xp{K:St→Prop}{Q:Exit→Act→World→Prop}(G₀:Gh)(w₀:World){L0:List Item}(hI:∀x∈L0,Br P T n ops x=true)(hP:L0.Pairwise fun x y=>wQ ops (D0 ops.toList []) x y=true)
 (hn:∀G' σ' a' w',Inv G' n D σ' a' w'→aG G₀ w₀ G' w'→K σ'→Q .normal a' w'):
 ∀(m:Nat)(L:List Item),L.length=m→∀(listed:Array Bool)(σ:St),LZ ops L0 L listed→uH T σ→bE P T L K σ→∀(G:Gh)(a:Act)(w:World),Inv G n D σ a w→aG G₀ w₀ G w→wpAny P .any ops Q m listed a w:=by
 intro m
 induction m with
 |zero=>
  intro L hL listed σ hg _ hb G a w h hp
  obtain rfl:=List.eq_nil_of_length_eq_zero hL
  refine⟨List.eq_nil_iff_forall_not_mem.2 fun j hj=>?_,?_⟩
  ·obtain⟨r1,r2,r3⟩:=jl hj
   have:=jH (hg.li j r1 fun x hx=>by cases hx)
   rw[r2]at this;cases this
  ·obtain⟨τ,t1,t2⟩:=hb
   exact hn G τ a w (h.eqv t1.symm) hp t2
 |succ m ih=>
  intro L hL listed σ hg hN hb G a w h hp
  have hPL:=hP.sublist hg.sub
  refine⟨fun h0=>?_,fun i hi=>?_⟩
  ·cases L with
   |nil=>simp at hL
   |cons x r=>
    have hx:=hI x (hg.sub.subset List.mem_cons_self)
    simp only[Br,Bool.and_eq_true]at hx
    have hmem:x.2.1∈Region.ready .any ops listed:=by
     cases ho:ops[x.2.1]? with
     |none=>rw[ho]at hx;simp at hx
     |some o=>
      rw[ho]at hx
      have hx1:(gB P n ops o x.2.2&&o.after.all fun e=>!Region.binds .any e||(decide (e.on<ops.size)&&e.on !=x.2.1))=true:=hx.1
      rw[Bool.and_eq_true]at hx1
      refine mem_ready.2 ⟨hg.un x List.mem_cons_self,o,ho,fun e he hbn=>?_⟩
      have h3:=Array.all_eq_true_iff_forall_mem.1 hx1.2 e he
      rw[hbn]at h3
      simp only[Bool.not_true,Bool.false_or,Bool.and_eq_true,decide_eq_true_eq,bne_iff_ne]at h3
      refine hg.li e.on h3.1 fun y hy=>?_
      rcases List.mem_cons.1 hy with rfl|hy
      ·exact fun e'=>h3.2 e'.symm
      ·intro e'
       have:=(List.pairwise_cons.1 hPL).1 y hy
       simp only[wQ,Bool.and_eq_true,Bool.not_eq_true']at this
       have hb2:gA ops x.2.1 y.2.1=true:=(kO ho).2 ⟨e,he,hbn,e'.symm⟩
       rw[this.1]at hb2;cases hb2
    rw[h0]at hmem
    cases hmem
  ·obtain⟨r1,r2,r3⟩:=jl hi
   have hex:∃x∈L,x.2.1=i:=by
    apply Classical.byContradiction
    intro hno
    have:=jH (hg.li i r1 fun x hx e=>hno ⟨x,hx,e⟩)
    rw[r2]at this;cases this
   obtain⟨⟨kx,ix,x⟩,hx,e0⟩:=hex
   have e0:ix=i:=e0
   subst e0
   obtain⟨pre,post,rfl⟩:=List.append_of_mem hx
   have hxi:=hI _ (hg.sub.subset hx)
   have hPw:=List.pairwise_append.1 hPL
   have hpx:∀y∈pre,wQ ops (D0 ops.toList []) y (kx,ix,x)=true:=fun y hy=>hPw.2.2 y hy _ List.mem_cons_self
   have hxp:∀y∈post,wQ ops (D0 ops.toList []) (kx,ix,x) y=true:=(List.pairwise_cons.1 hPw.2.1).1
   have hkind:∀y∈pre,QU y.1 kx y.2.2 x=true:=fun y hy=>by
    have h1:=hpx y hy
    simp only[wQ,Bool.and_eq_true,Bool.or_eq_true]at h1
    rcases h1.2.2 with h2|h2
    ·have hbf:=D1 (ops:=ops) ops.toList [] (by simp) (fun j i hh=>by simp at hh) _ _ h2
     have:=jH (hbf (fun m=>listed.getD m false=true) hg.cl r3)
     rw[hg.un y (List.mem_append_left _ hy)]at this;cases this
    ·exact h2
   have hne:∀y∈pre++post,y.2.1≠ix:=fun y hy=>by
    rcases List.mem_append.1 hy with hy|hy
    ·have:=hpx y hy
     simp only[wQ,Bool.and_eq_true,bne_iff_ne]at this
     exact this.2.1
    ·have:=hxp y hy
     simp only[wQ,Bool.and_eq_true,bne_iff_ne]at this
     exact fun e=>this.2.1 e.symm
   have hg':LZ ops L0 (pre++post) (listed.setIfInBounds ix true):=by
    refine⟨by simp[hg.size],((List.sublist_cons_self _ post).append_left pre).trans hg.sub,fun y hy=>?_,fun k hk hno=>?_,fun m' hm' d hd=>?_⟩
    ·rw[vU (hne y hy)]
     refine hg.un y ?_
     rcases List.mem_append.1 hy with hy|hy
     ·exact List.mem_append_left _ hy
     ·exact List.mem_append_right _ (List.mem_cons_of_mem _ hy)
    ·by_cases e:k=ix
     ·subst e;exact oc (by rw[hg.size];exact hk)
     ·refine tO (hg.li k hk fun y hy=>?_)
      rcases List.mem_append.1 hy with hy|hy
      ·exact hno y (List.mem_append_left _ hy)
      ·rcases List.mem_cons.1 hy with rfl|hy
       ·exact fun e'=>e e'.symm
       ·exact hno y (List.mem_append_right _ hy)
    ·refine tO ?_
     by_cases e:m'=ix
     ·subst e;exact r3 d hd
     ·rw[vU e]at hm';exact hg.cl m' hm' d hd
   have hlen:(pre++post).length=m:=by simp at hL⊢;omega
   have hxo:gB P n ops ops[ix] x=true:=by
    simp only[Br,Bool.and_eq_true]at hxi
    have h1:=hxi.1
    rw[Array.getElem?_eq_getElem r1]at h1
    have h1:(gB P n ops ops[ix] x&&_)=true:=h1
    rw[Bool.and_eq_true]at h1
    exact h1.1
   by_cases hk3:3≤kx
   ·obtain rfl:pre=[]:=by
     cases pre with
     |nil=>rfl
     |cons y pre=>
      have h1:=hkind y List.mem_cons_self
      obtain⟨ky,iy,yo⟩:=y
      obtain⟨k,rfl⟩:∃k,kx=k+3:=⟨kx -3,by omega⟩
      match ky with
      |0=>cases h1
      |1=>cases h1
      |_+2=>cases h1
    have hb:bE P T ((kx,ix,x)::post) K σ:=hb
    unfold bE at hb
    rw[if_pos hk3]at hb
    obtain⟨τ,t1,t2⟩:=hb
    refine nb (o:=ops[ix]) (by simp[r1]) (gl (h.eqv t1.symm) hxo t2 fun G' σ' a' w' k1 k2 k3=>?_)
    exact ih ([]++post) hlen _ σ' hg' (fun i c hc=>mQ k3.1 i c hc) (AG _ _ k3.2) G' a' w' k1 (hp.trans k2)
   by_cases hk:2≤kx
   ·have hap:∀y∈pre,(y.1=1∨y.1=0∧GX y.2.2 x=true)∧RJ y.2.2 x=true:=fun y hy=>by
     have h1:=hkind y hy
     obtain⟨ky,iy,yo⟩:=y
     obtain rfl:kx=2:=by omega
     match ky with
     |0=>
      have h1:(GX yo x&&RJ yo x)=true:=h1
      rw[Bool.and_eq_true]at h1
      exact⟨.inr ⟨rfl,h1.1⟩,h1.2⟩
     |1=>exact⟨.inl rfl,h1⟩
     |_+2=>cases h1
    obtain⟨p1,p2,p3⟩:=Rb hk hk3 pre post σ hap hb
    have hbb:Oi P x σ (fun τ=>uH T τ∧bE P T (pre++post) K τ):=by
     unfold Oi
     rw[p2]
     exact⟨p1,vF (fun av s hv hh=>⟨hN.behind hv,hh⟩) p3⟩
    have hK':∀τ τ',j5 τ τ'→(uH T τ∧bE P T (pre++post) K τ)→uH T τ'∧bE P T (pre++post) K τ':=fun τ τ' e hh=>⟨fun i c hc=>by rw[←e.e i];exact hh.1 i c hc,xq _ e hh.2⟩
    refine nb (o:=ops[ix]) (by simp[r1]) (gl h hxo (OC hK' hbb) fun G' σ' a' w' k1 k2 k3=>?_)
    exact ih (pre++post) hlen _ σ' hg' k3.1 k3.2 G' a' w' k1 (hp.trans k2)
   ·have hap:∀y∈pre,¬2≤y.1∧Qr y.2.2 x=true∧O0 T y.2.2:=fun y hy=>by
     have h1:=hkind y hy
     have hyT:=fun hh=>J8 (hI y (hg.sub.subset (List.mem_append_left _ hy))) hh
     obtain⟨ky,iy,yo⟩:=y
     match ky,kx,hk with
     |0,0,_=>exact⟨fun hh=>absurd hh (by simp),h1,hyT (by simp)⟩
     |0,1,_=>exact⟨fun hh=>absurd hh (by simp),h1,hyT (by simp)⟩
     |1,0,_=>exact⟨fun hh=>absurd hh (by simp),h1,hyT (by simp)⟩
     |1,1,_=>exact⟨fun hh=>absurd hh (by simp),h1,hyT (by simp)⟩
     |k+2,0,_=>cases h1
     |k+2,1,_=>cases h1
     |_,k+2,hk=>exact(hk (by omega)).elim
    obtain⟨v,p1,p2,p3,p4⟩:=Ra hk (J8 hxi hk) pre post σ hN hap hb
    refine nb (o:=ops[ix]) (by simp[r1]) (Y2.run h hxo p1 fun G' a' w' k1 k2=>?_)
    exact ih (pre++post) hlen _ (bU σ x v) hg' (qf hN p2) p4 G' a' w' k1 (hp.trans k2)
theorem RX(hm:P.follows .mixedOrders=true):Qm P n:=by
 intro D id ops T l G σ a w K Q hc h hno hw hn
 simp only[RT,Bool.and_eq_true,beq_iff_eq]at hc
 obtain⟨⟨h1,h2⟩,h3,h4⟩:=hc
 refine wp_region_any hm ?_
 have hg:LZ ops l l (Array.replicate ops.size false):=by
  refine⟨by simp,List.Sublist.refl l,fun x hx=>?_,fun k hk hno=>?_,fun m hm i hi=>?_⟩
  ·have hlt:x.2.1<ops.size:=by
    have:=List.all_eq_true.1 h3 x hx
    simp only[Br,Bool.and_eq_true]at this
    cases ho:ops[x.2.1]? with
    |none=>rw[ho]at this;simp at this
    |some o=>exact(Array.getElem?_eq_some_iff.1 ho).1
   simp[hlt]
  ·obtain⟨x,hx,e⟩:=List.any_eq_true.1 (List.all_eq_true.1 h2 k (List.mem_range.2 hk))
   exact absurd (beq_iff_eq.1 e) (hno x hx)
  ·rcases Nat.lt_or_ge m ops.size with hlt|hge
   ·simp[hlt]at hm
   ·simp[Array.getElem?_eq_none (show(Array.replicate ops.size false).size≤m by simpa using hge)]at hm
 have:=Xp (T:=T) (P:=P) (n:=n) (K:=K) (Q:=Q) G w (fun x hx=>List.all_eq_true.1 h3 x hx) (D7 h4) hn l.length l rfl _ σ hg (fun i c hc=>mQ hno i c hc) (AG l σ hw) G a {w with drawn:=w.drawn+1} h.drew (aG.drew G w)
 rwa[h1]at this
theorem xi:∀(p s:List Bool),yr p s=p.reverse++s
 |[],s=>rfl
 |x::p,s=>by unfold yr;rw[xi p];simp
theorem HO{done:List Bool}{F:aq→List Bool→Prop}:∀{rows:List (List Bool)}{pre xs:List Bool}{r:List aq}{j:Nat}{row:List Bool}{o:aq},JH done rows pre xs r F→rows[j]? =some row→r[j]? =some o→xs[j]? =some false→xh row done=true→F o (yr pre (xs.set j true))
 |row::rows,pre,x::xs,o::r,0,row',o',h,h1,h2,h3,h4=>by
  injection h1 with h1;injection h2 with h2;injection h3 with h3
  subst h1;subst h2;subst h3
  have:=h.1
  rw[h4]at this
  exact this
 |row::rows,pre,x::xs,o::r,j+1,row',o',h,h1,h2,h3,h4=>by
  have:=HO (j:=j) h.2 (by simpa using h1) (by simpa using h2) (by simpa using h3) h4
  rw[xi]at this⊢
  simpa using this
 |[],_,_,_,_,_,_,_,h1,_,_,_=>by simp at h1
 |_::_,_,[],_,_,_,_,_,_,_,h3,_=>by simp at h3
 |_::_,_,_::_,[],_,_,_,_,_,h2,_,_=>by simp at h2
theorem KC:∀{row done:List Bool},(∀i,row.getD i false=true→done.getD i false=true)→xh row done=true
 |[],_,_=>rfl
 |_::_,[],_=>rfl
 |d::row,x::done,h=>by
  have h0:=h 0
  have ht:=KC (row:=row) (done:=done) fun i hi=>by have:=h (i+1);simp only[List.getD_cons_succ]at this;exact this hi
  unfold xh
  rw[ht,Bool.and_true]
  cases d with
  |false=>rfl
  |true=>simpa using h0
structure Vq(ops:Array Oper)(done:List Bool)(listed:Array Bool):Prop where
 size:listed.size=ops.size
 len:done.length=ops.size
 eq:∀j,done.getD j false=listed.getD j false
theorem count_set:∀{l:List Bool}{j:Nat},l[j]? =some false→(l.set j true).count false+1=l.count false
 |x::l,0,h=>by injection h with h;subst h;simp
 |x::l,j+1,h=>by
  have:=count_set (l:=l) (j:=j) (by simpa using h)
  cases x<;>simp<;>omega
 |[],_,h=>by simp at h
theorem Rt{K:St→Prop}{Q:Exit→Act→World→Prop}{deps:List (List Bool)}{iops:List aq}(G₀:Gh)(w₀:World)(hI:cd P n ops ops.toList iops=true)(hX:JR ops deps=true)
 (hn:∀G' σ' a' w',Inv G' n D σ' a' w'→aG G₀ w₀ G' w'→K σ'→Q .normal a' w'):
 ∀(f:List aq)(done:List Bool)(listed:Array Bool)(σ:St),Vq ops done listed→done.count false=f.length→LP P deps iops K f done σ→∀(G:Gh)(a:Act)(w:World),Inv G n D σ a w→aG G₀ w₀ G w→wpAny P .any ops Q f.length listed a w
 |[],done,listed,σ,hg,hc,hw,G,a,w,h,hp=>by
  refine⟨List.eq_nil_iff_forall_not_mem.2 fun j hj=>?_,hn G σ a w h hp hw⟩
  obtain⟨r1,r2,r3⟩:=jl hj
  have h2:listed.getD j false=false:=by
   have hlt:j<listed.size:=by rw[hg.size];exact r1
   simp only[Array.getD_eq_getD_getElem?,Array.getElem?_eq_getElem hlt,Option.getD_some]at r2⊢
   exact r2
  rw[←hg.eq j]at h2
  have hlt:j<done.length:=by rw[hg.len];exact r1
  have hmem:false∈done:=by
   rw[List.getD_eq_getElem?_getD,List.getElem?_eq_getElem hlt,Option.getD_some]at h2
   rw[←h2];exact List.getElem_mem hlt
  exact absurd hc (by have:=List.count_pos_iff.2 hmem;simp;omega)
 |o0::f,done,listed,σ,hg,hc,hw,G,a,w,h,hp=>by
  have hX':=hX
  simp only[JR,Bool.and_eq_true,beq_iff_eq]at hX'
  obtain⟨hl,hall⟩:=hX'
  refine⟨fun h0=>?_,fun i hi=>?_⟩
  ·exfalso
   have hex:∃j,j<ops.size∧listed.getD j false=false:=by
    apply Classical.byContradiction
    intro hno
    have:done.count false=0:=List.count_eq_zero.2 fun hm=>by
     obtain⟨j,hj,e⟩:=List.getElem_of_mem hm
     refine hno ⟨j,by rw[←hg.len];exact hj,?_⟩
     rw[←hg.eq,List.getD_eq_getElem?_getD,List.getElem?_eq_getElem hj,Option.getD_some,e]
    rw[this]at hc;simp at hc
   obtain⟨j,hj⟩:=hex
   induction j using Nat.strongRecOn with
   |_ j ih=>
    by_cases hk:∃k,k<j∧k<ops.size∧listed.getD k false=false
    ·obtain⟨k,k1,k2⟩:=hk
     exact ih k k1 k2
    ·have hj2:=List.all_eq_true.1 hall j (List.mem_range.2 hj.1)
     simp only[Bool.and_eq_true]at hj2
     have h3:=hj2.2
     rw[Array.getElem?_eq_getElem hj.1]at h3
     have hmem:j∈Region.ready .any ops listed:=by
      refine mem_ready.2 ⟨?_,ops[j],Array.getElem?_eq_getElem hj.1,fun e he hb=>?_⟩
      ·have hlt:j<listed.size:=by rw[hg.size];exact hj.1
       have:=hj.2
       simp only[Array.getD_eq_getD_getElem?,Array.getElem?_eq_getElem hlt,Option.getD_some]at this⊢
       exact this
      ·have h4:=Array.all_eq_true_iff_forall_mem.1 h3 e he
       rw[hb]at h4
       simp only[Bool.not_true,Bool.false_or,decide_eq_true_eq]at h4
       apply Classical.byContradiction
       intro hno
       exact hk ⟨e.on,h4,by omega,by simpa using hno⟩
     rw[h0]at hmem
     cases hmem
  ·obtain⟨r1,r2,r3⟩:=jl hi
   have hlt:i<listed.size:=by rw[hg.size];exact r1
   have hlt2:i<done.length:=by rw[hg.len];exact r1
   have r2':listed.getD i false=false:=by
    simp only[Array.getD_eq_getD_getElem?,Array.getElem?_eq_getElem hlt,Option.getD_some]at r2⊢
    exact r2
   have hd:done[i]? =some false:=by
    rw[←hg.eq i,List.getD_eq_getElem?_getD,List.getElem?_eq_getElem hlt2,Option.getD_some]at r2'
    rw[List.getElem?_eq_getElem hlt2,r2']
   obtain⟨hlen,hget⟩:=fH _ _ hI
   have hli:i<iops.length:=by rw[←hlen];simpa using r1
   have hio:iops[i]? =some iops[i]:=List.getElem?_eq_getElem hli
   have hco:gB P n ops ops[i] iops[i]=true:=hget i ops[i] iops[i] (by simp[r1]) hio
   have hj2:=List.all_eq_true.1 hall i (List.mem_range.2 r1)
   simp only[Bool.and_eq_true,beq_iff_eq]at hj2
   have hrow:deps[i]? =some (deps.getD i []):=by
    have:i<deps.length:=by rw[hl];exact r1
    rw[List.getD_eq_getElem?_getD,List.getElem?_eq_getElem this,Option.getD_some]
   have hrd:xh (deps.getD i []) done=true:=KC fun k hk=>by
    have hkl:k<ops.size:=by
     rw[←hj2.1.1]
     apply Classical.byContradiction
     intro hno
     rw[List.getD_eq_getElem?_getD,List.getElem?_eq_none (by omega)]at hk
     cases hk
    have:=List.all_eq_true.1 hj2.1.2 k (List.mem_range.2 hkl)
    rw[hk]at this
    rw[hg.eq]
    exact r3 k (by simpa using this)
   have hx:=HO (F:=fun o d=>HQ P o σ (fun τ=>LP P deps iops K f d τ)) hw hrow hio hd hrd
   refine nb (o:=ops[i]) (by simp[r1]) (gl h hco hx fun G' σ' a' w' k1 k2 k3=>?_)
   refine Rt G₀ w₀ hI hX hn f _ _ σ' ⟨by simp[hg.size],by rw[xi];simp[hg.len],fun k=>?_⟩ ?_ k3 G' a' w' k1 (hp.trans k2)
   ·rw[xi]
    show(([]:List Bool).reverse++done.set i true).getD k false=_
    rw[List.reverse_nil,List.nil_append]
    by_cases e:k=i
    ·subst e
     rw[oc hlt,List.getD_eq_getElem?_getD,List.getElem?_set_self hlt2];rfl
    ·rw[vU e,←hg.eq,List.getD_eq_getElem?_getD,List.getD_eq_getElem?_getD,List.getElem?_set_ne (Ne.symm e)]
   ·rw[xi]
    show(([]:List Bool).reverse++done.set i true).count false=_
    rw[List.reverse_nil,List.nil_append]
    have:=count_set hd
    rw[hc]at this
    simp at this
    omega
theorem R0(hm:P.follows .mixedOrders=true):Qp P n:=by
 intro D id ops deps iops G σ a w K Q hc hx h hw hn
 refine wp_region_any hm ?_
 have hlen:iops.length=ops.size:=by have:=(fH _ _ hc).1;simpa using this.symm
 have hf:∀l:List aq,sW l=List.replicate l.length false:=by
  intro l
  induction l with
  |nil=>rfl
  |cons o r ih=>show false::sW r=_;rw[ih];rfl
 have:=Rt (P:=P) (n:=n) (K:=K) (Q:=Q) G w hc hx hn iops (sW iops) (Array.replicate ops.size false) σ ⟨by simp,by rw[hf];simp[hlen],fun j=>by
  rw[hf,hlen]
  rcases Nat.lt_or_ge j ops.size with hj|hj
  ·simp[hj]
  ·simp[Nat.not_lt.2 hj]⟩ (by rw[hf];simp) hw G a {w with drawn:=w.drawn+1} h.drew (aG.drew G w)
 rwa[hlen]at this
theorem ay(hm:P.follows .mixedOrders=true):As P n:=⟨RY hm,RZ hm,RX hm,R0 hm⟩
end
end Go.AB
end
section
namespace Go.AB
open Go Go.RowKit
def An:ab:=fun _=>none
section
variable{P:Program}{w w':World}
end
end Go.AB
end
section
namespace Go.AB
open Go
theorem xf(a b:List AV):views (a++b)=views a++views b:=by simp[views]
theorem uF:∀l:List (List AV),(∀x∈l,views x=x)→views l.flatten=l.flatten
 |[],_=>rfl
 |a::l,h=>by rw[List.flatten_cons,xf,h a List.mem_cons_self,uF l fun x hx=>h x (List.mem_cons_of_mem _ hx)]
class a8(α:Type)where
 w:Nat
 cells:α→List AV
 zero:α
 pos:0<w
 len:∀x,(cells x).length=w
 vw:∀x,views (cells x)=cells x
structure aL where
 b:List UInt8
 deriving DecidableEq,Inhabited
section
variable{α:Type}[a8 α]
def flat(l:List α):List AV:=(l.map a8.cells).flatten
def ix(l:List α)(i:Int):α:=l.getD i.toNat a8.zero
theorem aK:∀l:List α,(flat l).length=l.length*a8.w α
 |[]=>by simp[flat]
 |a::l=>by
  have:=aK l
  simp only[flat,List.map_cons,List.flatten_cons,List.length_append,a8.len]at this⊢
  rw[this,List.length_cons,Nat.add_mul,Nat.one_mul,Nat.add_comm]
@[go_sem]theorem rD:flat ([]:List α)=[]:=rfl
@[go_sem]theorem mo(a:α)(l:List α):flat (a::l)=a8.cells a++flat l:=rfl
@[go_sem]theorem eV(a b:List α):flat (a++b)=flat a++flat b:=by simp[flat]
@[go_sem]theorem cm(l:List α):views (flat l)=flat l:=uF _ fun x hx=>by
  obtain⟨y,_,rfl⟩:=List.mem_map.1 hx
  exact a8.vw y
theorem DE(l:List α):∀k,(flat l).drop (k*a8.w α)=flat (l.drop k):=by
 induction l with
 |nil=>intro k;simp[flat]
 |cons a l ih=>intro k;cases k with
  |zero=>simp
  |succ k=>
   rw[mo,List.drop_succ_cons,←ih k,Nat.succ_mul,Nat.add_comm,←List.drop_drop]
   congr 1
   rw[←a8.len a,List.drop_left]
theorem xD(l:List α):∀k,(flat l).take (k*a8.w α)=flat (l.take k):=by
 induction l with
 |nil=>intro k;simp[flat]
 |cons a l ih=>intro k;cases k with
  |zero=>simp[rD]
  |succ k=>
   rw[mo,List.take_succ_cons,mo,←ih k,Nat.succ_mul,Nat.add_comm,List.take_append]
   rw[a8.len a,List.take_of_length_le (by rw[a8.len];omega)]
   congr 2
   omega
theorem jF(l:List α)(n lo m:Nat)(hn:n=a8.w α):AB.sub (flat l) (lo*n) (m*n)=flat ((l.drop lo).take m):=by
 subst hn
 unfold AB.sub
 rw[DE,xD]
theorem vQ(z:List AV)(n:Nat)(l:List α)(i:Int)(hz:z=a8.cells (a8.zero:α))(hn:n=a8.w α):pad z (views (AB.sub (flat l) (i.toNat*n) n))=a8.cells (ix l i):=by
 subst hn
 have h1:AB.sub (flat l) (i.toNat*a8.w α) (a8.w α)=flat ((l.drop i.toNat).take 1):=by
  have:=jF l (a8.w α) i.toNat 1 rfl
  rwa[Nat.one_mul]at this
 rw[h1,cm]
 unfold pad ix
 rcases Nat.lt_or_ge i.toNat l.length with hlt|hge
 ·rw[List.drop_eq_getElem_cons hlt,List.take_succ_cons,List.take_zero,mo,rD,List.append_nil,hz,a8.len,a8.len,beq_self_eq_true]
  simp[List.getD,List.getElem?_eq_getElem hlt]
 ·rw[List.drop_eq_nil_of_le hge,List.take_nil,rD,hz,a8.len]
  have:(([]:List AV).length==a8.w α)=false:=by
   have:=a8.pos (α:=α)
   simp;omega
  rw[this]
  simp[List.getD,List.getElem?_eq_none hge]
def part(l:List α)(lo hi:Int):List α:=(l.drop lo.toNat).take (hi -lo).toNat
theorem xC(n:Nat)(l:List α)(lo hi:Int)(hn:n=a8.w α):AB.sub (flat l) (lo.toNat*n) ((hi -lo).toNat*n)=flat (part l lo hi):=jF l n _ _ hn
theorem MG(n:Nat)(l:List α)(hn:n=a8.w α):(flat l).length/n=l.length:=by
 subst hn
 rw[aK];exact Nat.mul_div_cancel _ a8.pos
end
instance:a8 Bool:=⟨1,fun b=>[.bool b],false,Nat.one_pos,fun _=>rfl,fun _=>rfl⟩
instance:a8 Int:=⟨1,fun n=>[.int .i64 n],0,Nat.one_pos,fun _=>rfl,fun _=>rfl⟩
instance:a8 UInt8:=⟨1,fun n=>[.int .u8 n.toNat],0,Nat.one_pos,fun _=>rfl,fun _=>rfl⟩
instance:a8 UInt32:=⟨1,fun n=>[.int .u32 n.toNat],0,Nat.one_pos,fun _=>rfl,fun _=>rfl⟩
instance:a8 UInt64:=⟨1,fun n=>[.int .u64 n.toNat],0,Nat.one_pos,fun _=>rfl,fun _=>rfl⟩
instance:a8 aL:=⟨1,fun s=>[.str s.b],⟨[]⟩,Nat.one_pos,fun _=>rfl,fun _=>rfl⟩
instance{α:Type}[a8 α]:a8 (List α):=⟨1,fun l=>[.sl false (a8.w α) l.length (flat l)],[],Nat.one_pos,fun _=>rfl,fun _=>rfl⟩
@[go_sem]theorem TX(x:Int):a8.cells x=[.int .i64 x]:=rfl
@[go_sem]theorem VC(x:UInt8):a8.cells x=[.int .u8 x.toNat]:=rfl
@[go_sem]theorem aac:a8.w UInt8=1:=rfl
@[go_sem]theorem PI(l:List Int)(i:Int):pad [.int .i64 0] (views (AB.sub (flat l) (i.toNat*1) 1))=[.int .i64 (ix l i)]:=vQ _ 1 l i rfl rfl
@[go_sem]theorem Ze(l:List UInt8)(i:Int):pad [.int .u8 0] (views (AB.sub (flat l) (i.toNat*1) 1))=[.int .u8 (ix l i).toNat]:=vQ _ 1 l i rfl rfl
end Go.AB
end
section
namespace Go.AB
open Go
def ok{α:Type}(o:Option α)(K:α→Prop):Prop:=∃a,o=some a∧K a
def bq{α:Type}(c:Prop)[Decidable c](o:Option α):Option α:=if c then o else none
def fy{α:Type}(g:Bool)(z:α)(o:Option α):Option α:=bif g then o else some z
def cj{α β:Type}(o:Option α)(f:α→Option β):Option β:=match o with
 |some a=>f a
 |none=>none
def cg{S O:Type}(body:S→Option (S⊕O)):Nat→S→Option O
 |0,_=>none
 |n+1,s=>match body s with
  |none=>none
  |some (.inl t)=>cg body n t
  |some (.inr o)=>some o
def iter{S O:Type}(body:S→Option (S⊕O))(s:S):Option O:=cg body 18446744073709551616 s
def j6{A B C:Type}(f:A→C)(g:B→C):A⊕B→C
 |.inl a=>f a
 |.inr b=>g b
section
variable{α β:Type}(K:α→Prop)
@[go_sem]theorem bk(a:α):ok (some a) K=K a:=by simp[ok]
@[go_sem]theorem ok_none:ok none K=False:=by simp[ok]
@[go_sem]theorem gY(c:Prop)[Decidable c](o:Option α):ok (bq c o) K=(c∧ok o K):=by
  unfold bq
  by_cases h:c<;>simp[h,ok]
@[go_sem]theorem fB(o:Option β)(f:β→Option α):ok (cj o f) K=ok o (fun b=>ok (f b) K):=by cases o<;>simp[cj,ok]
@[go_sem]theorem SY(c:Bool)(a b:Option α):ok (if c=true then a else b) K=((c=true→ok a K)∧(c=false→ok b K)):=by cases c<;>simp
theorem PC(g:Bool)(z:α)(o:Option α):ok (fy g z o) K=∃a,(g=true→o=some a)∧(g=false→a=z)∧K a:=by cases g<;>simp[fy,ok]
@[go_sem]theorem l3{A B C:Type}(f:A→C)(g:B→C)(a:A):j6 f g (.inl a)=f a:=rfl
@[go_sem]theorem vK{A B C:Type}(f:A→C)(g:B→C)(b:B):j6 f g (.inr b)=g b:=rfl
end
theorem aU{A B C D:Prop}(h:A→C)(k:B→D):A∧B→C∧D:=fun x=>⟨h x.1,k x.2⟩
theorem bN{p A B:Prop}(h:A→B):(p→A)→p→B:=fun x y=>h (x y)
theorem bI{A:Prop}:A→A:=fun h=>h
variable{P:Program}
theorem ak{β:Type}{o:Option β}{kf:β→Prop}{f:FuncId}{as1:List AV}{s:ab}{enc:β→List AV}{Q:List AV→ab→Prop}
 (hf:∀r,o=some r→FE P f as1 s (enc r) s)(hk:∀r,kf r→Q (enc r) s):ok o kf→FN P f as1 s Q:=fun⟨r,h,k⟩=>FE.app (hf r h) (hk r k)
theorem ae{β:Type}{o:Option β}{kf:β→Prop}{f:FuncId}{as1:List AV}{s:ab}{enc:β→List AV}{Q:List AV→Prop}
 (hf:∀r,o=some r→FE P f as1 s (enc r) s)(hr:∀r,iO (enc r)=true)(hk:∀r,kf r→Q (enc r)):ok o kf→∃rs,iO rs=true∧FE P f as1 s rs s∧Q rs:=
 fun⟨r,h,k⟩=>⟨enc r,hr r,hf r h,hk r k⟩
theorem bM{β:Type}{g:Bool}{z:β}{o:Option β}{kf:β→Prop}{f:FuncId}{as1:Option (List AV)}{as2:List AV}{s:ab}{enc:β→List AV}{Q:List AV→Prop}
 (ha:as1=some as2)(hf:∀r,o=some r→FE P f as2 s (enc r) s)(hr:∀r,iO (enc r)=true)(hk:∀r,kf r→Q (enc r)):
 ok (fy g z o) kf→∃rs,iO rs=true∧(g=true→∃as2,as1=some as2∧FE P f as2 s rs s)∧Q rs:=fun h=>by
 rw[PC]at h
 obtain⟨r,h1,_,k⟩:=h
 exact⟨enc r,hr r,fun hg=>⟨as2,ha,hf r (h1 hg)⟩,hk r k⟩
def Ym{α:Type}(o:Option α)(K:α→Prop):Prop:=ok o K
def jn{α β:Type}(o:Option α)(f:α→Option β):Option β:=cj o f
@[go_sem]theorem ZT{α β:Type}(K:α→Prop)(o:Option β)(f:β→Option α):ok (jn o f) K=Ym o (fun b=>ok (f b) K):=fB ..
theorem ft{X:Type}{M:Option X}{kf:X→Prop}{live:List (Nat×Bool)}{a b:IC}{Q:Exit→St→Prop}{σ:St}(enc:X→St)
 (ha:∀J:St→Prop,ok M (fun x=>J (enc x))→gP P a (oS live J Q) σ)(hb:∀x,kf x→gP P b Q (enc x)):Ym M kf→gP P (.join live a b) Q σ:=fun⟨x,h,k⟩=>
 ⟨fun τ=>∃x,τ=enc x∧kf x,ha _ ⟨x,h,x,rfl,k⟩,fun _⟨x,e,k⟩=>e▸hb x k⟩
theorem pQ{S O:Type}{body:S→Option (S⊕O)}{s:S}{K:O→Prop}:¬ok (cg body 0 s) K:=fun⟨_,h,_⟩=>by cases h
theorem pP{S O:Type}{body:S→Option (S⊕O)}{n:Nat}{s:S}{K:O→Prop}(h:ok (cg body (n+1) s) K):ok (body s) (j6 (fun t=>ok (cg body n t) K) K):=by
 obtain⟨o,h,k⟩:=h
 unfold cg at h
 cases hb:body s with
 |none=>rw[hb]at h;cases h
 |some x=>
  rw[hb]at h
  cases x with
  |inl t=>exact⟨_,rfl,⟨o,h,k⟩⟩
  |inr o'=>cases h;exact⟨_,rfl,k⟩
theorem Bw{live:List (Nat×Bool)}{I:St→Prop}{μ:St→Nat}{m:Nat}{Q:Exit→St→Prop}:DY live I μ m Q=oS live (fun ρ=>I ρ∧μ ρ<m) Q:=by funext x ρ;cases x<;>rfl
theorem dp{S O:Type}{body:S→Option (S⊕O)}{s0:S}{kf:O→Prop}{live:List (Nat×Bool)}{b:IC}{Q:Exit→St→Prop}{σ:St}(enc:S→St)
 (h0:σ.dS live=enc s0)
 (hb:∀(J:St→Prop)(s:S),ok (body s) (j6 (fun t=>J (enc t)) kf)→gP P b (oS live J Q) (enc s)):ok (iter body s0) kf→gP P (.loop live b) Q σ:=by
 intro h
 have hmin:∀τ,(∃m s,τ=enc s∧ok (cg body m s) kf)→∃m,(∃s,τ=enc s∧ok (cg body m s) kf)∧∀k,k<m→¬∃s,τ=enc s∧ok (cg body k s) kf:=by
  rintro τ ⟨m,s,h⟩
  induction m using Nat.strongRecOn generalizing s with
  |_ m ih=>
   by_cases hk:∃k,k<m∧∃s,τ=enc s∧ok (cg body k s) kf
   ·obtain⟨k,hk,s',h'⟩:=hk
    exact ih k hk s' h'
   ·exact⟨m,⟨s,h⟩,fun k hk' hs=>hk ⟨k,hk',hs⟩⟩
 have hμ:∃μ:St→Nat,∀τ,(∃m s,τ=enc s∧ok (cg body m s) kf)→(∃s,τ=enc s∧ok (cg body (μ τ) s) kf)∧∀k,k<μ τ→¬∃s,τ=enc s∧ok (cg body k s) kf:=by exact⟨fun τ=>Classical.epsilon fun m=>(∃s,τ=enc s∧ok (cg body m s) kf)∧∀k,k<m→¬∃s,τ=enc s∧ok (cg body k s) kf,fun τ hτ=>Classical.epsilon_spec (hmin τ hτ)⟩
 obtain⟨μ,hμ⟩:=hμ
 refine⟨fun τ=>∃m s,τ=enc s∧ok (cg body m s) kf,μ,?_,?_⟩
 ·exact⟨_,s0,h0,h⟩
 ·intro τ hτ
  obtain⟨⟨s,e,hs⟩,_⟩:=hμ τ hτ
  generalize hm:μ τ=m at hs
  cases m with
  |zero=>exact(pQ hs).elim
  |succ m=>
   subst e
   rw[Bw]
   obtain⟨x,hx,k⟩:=pP hs
   refine hb _ s ⟨x,hx,?_⟩
   cases x with
   |inr o=>exact k
   |inl t=>
    refine⟨⟨m,t,rfl,k⟩,?_⟩
    have h2:=(hμ (enc t) ⟨m,t,rfl,k⟩).2
    rcases Nat.lt_or_ge m (μ (enc t))with hlt|hge
    ·exact(h2 m hlt ⟨t,rfl,k⟩).elim
    ·omega
theorem Ka{S O:Type}{body:S→Option (S⊕O)}{s0:S}{kf:O→Prop}{live:List (Nat×Bool)}{l:Nat}{r:IC}{Q:Exit→St→Prop}{σ:St}(enc:S→St)
 (h0:σ=enc s0)
 (hb:∀(J:St→Prop)(s:S),ok (body s) (j6 (fun t=>J (enc t)) kf)→gP P r (IY l live J Q) (enc s)):ok (iter body s0) kf→O8 P l live r Q σ:=by
 intro h
 have hmin:∀τ,(∃m s,τ=enc s∧ok (cg body m s) kf)→∃m,(∃s,τ=enc s∧ok (cg body m s) kf)∧∀k,k<m→¬∃s,τ=enc s∧ok (cg body k s) kf:=by
  rintro τ ⟨m,s,h⟩
  induction m using Nat.strongRecOn generalizing s with
  |_ m ih=>
   by_cases hk:∃k,k<m∧∃s,τ=enc s∧ok (cg body k s) kf
   ·obtain⟨k,hk,s',h'⟩:=hk
    exact ih k hk s' h'
   ·exact⟨m,⟨s,h⟩,fun k hk' hs=>hk ⟨k,hk',hs⟩⟩
 have hμ:∃μ:St→Nat,∀τ,(∃m s,τ=enc s∧ok (cg body m s) kf)→(∃s,τ=enc s∧ok (cg body (μ τ) s) kf)∧∀k,k<μ τ→¬∃s,τ=enc s∧ok (cg body k s) kf:=by exact⟨fun τ=>Classical.epsilon fun m=>(∃s,τ=enc s∧ok (cg body m s) kf)∧∀k,k<m→¬∃s,τ=enc s∧ok (cg body k s) kf,fun τ hτ=>Classical.epsilon_spec (hmin τ hτ)⟩
 obtain⟨μ,hμ⟩:=hμ
 refine⟨fun τ=>∃m s,τ=enc s∧ok (cg body m s) kf,μ,?_,?_⟩
 ·exact⟨_,s0,h0,h⟩
 ·intro τ hτ
  obtain⟨⟨s,e,hs⟩,_⟩:=hμ τ hτ
  generalize hm:μ τ=m at hs
  cases m with
  |zero=>exact(pQ hs).elim
  |succ m=>
   subst e
   obtain⟨x,hx,k⟩:=pP hs
   refine hb _ s ⟨x,hx,?_⟩
   cases x with
   |inr o=>exact k
   |inl t=>
    refine⟨⟨m,t,rfl,k⟩,?_⟩
    have h2:=(hμ (enc t) ⟨m,t,rfl,k⟩).2
    rcases Nat.lt_or_ge m (μ (enc t))with hlt|hge
    ·exact(h2 m hlt ⟨t,rfl,k⟩).elim
    ·omega
def oD{X Y α:Type}(M:Option (X⊕Y))(F:X→Option α)(G:Y→Option α):Option α:=match M with
 |some (.inl x)=>F x
 |some (.inr y)=>G y
 |none=>none
@[go_sem]theorem PB{X Y α:Type}(M:Option (X⊕Y))(F:X→Option α)(G:Y→Option α)(K:α→Prop):ok (oD M F G) K=ok M (j6 (fun x=>ok (F x) K) (fun y=>ok (G y) K)):=by
  cases M with
  |none=>simp[oD,ok]
  |some x=>cases x<;>simp[oD,ok,j6]
def xR{X Y α:Type}(M:Option (X⊕Y))(F:X→Option α)(G:Y→Option α):Option α:=oD M F G
@[go_sem]theorem Zc{X Y α:Type}(M:Option (X⊕Y))(F:X→Option α)(G:Y→Option α)(K:α→Prop):ok (xR M F G) K=Ym M (j6 (fun x=>ok (F x) K) (fun y=>ok (G y) K)):=PB ..
theorem dh{X Y:Type}{M:Option (X⊕Y)}{kf:X→Prop}{kr:Y→Prop}{live:List (Nat×Bool)}{a b:IC}{Q:Exit→St→Prop}{σ:St}(enc:X→St)
 (ha:∀J:St→Prop,ok M (j6 (fun x=>J (enc x)) kr)→gP P a (oS live J Q) σ)(hb:∀x,kf x→gP P b Q (enc x)):Ym M (j6 kf kr)→gP P (.join live a b) Q σ:=fun⟨x,h,k⟩=>by
 refine⟨fun τ=>∃x,τ=enc x∧kf x,ha _ ⟨x,h,?_⟩,fun _⟨x,e,k⟩=>e▸hb x k⟩
 cases x with
 |inl x=>exact⟨x,rfl,k⟩
 |inr y=>exact k
@[go_sem]theorem KN(c:UInt8):byteOf (.int .u8 c.toNat)=some c:=by
  unfold byteOf
  have:=c.toNat_lt
  simp only[Int.natCast_nonneg,true_and,Int.toNat_natCast]
  rw[if_pos (by omega)]
  simp
@[go_sem]theorem EA:∀l:List UInt8,bytesOf (flat l)=some l
  |[]=>rfl
  |c::l=>by
   rw[mo]
   show Mp (byteOf (.int .u8 c.toNat)) (bytesOf (flat l))=_
   rw[KN,EA l];rfl
def az(n:Int):Int:=IntKind.i64.wrap n
def nh(n:Int):UInt8:=UInt8.ofNat (IntKind.u8.wrap n).toNat
def Zx(n:Int):UInt64:=UInt64.ofNat (IntKind.u64.wrap n).toNat
@[go_sem]theorem XQ(n:Int):lV .i64 n=az n:=rfl
theorem RH(k:IntKind)(n:Int)(hk:k.signed=false):k.wrap n=n % (2^k.bits:Int):=by
 unfold IntKind.wrap
 simp[hk]
@[go_sem]theorem wrap_u8(n:Int):lV .u8 n=(nh n).toNat:=by
  show IntKind.u8.wrap n=((UInt8.ofNat (IntKind.u8.wrap n).toNat).toNat:Int)
  rw[RH _ _ rfl,UInt8.toNat_ofNat']
  have:(2^IntKind.u8.bits:Int)=256:=by decide
  rw[this]
  omega
@[go_sem]theorem wrap_u64(n:Int):lV .u64 n=(Zx n).toNat:=by
  show IntKind.u64.wrap n=((UInt64.ofNat (IntKind.u64.wrap n).toNat).toNat:Int)
  rw[RH _ _ rfl,UInt64.toNat_ofNat']
  have:(2^IntKind.u64.bits:Int)=18446744073709551616:=by decide
  rw[this]
  omega
@[go_sem]theorem X6(l:List UInt8)(k:Int):l.getD k.toNat 0=ix l k:=rfl
@[go_sem]theorem Yn(l:List UInt8)(lo hi:Int):(l.drop lo.toNat).take (hi -lo).toNat=part l lo hi:=rfl
attribute[go_sem] List.length_append true_or or_true eq_self_iff_true imp_self Bool.cond_true_left Bool.cond_false_right and_self and_true
def mv(d x:Nat):aq:=⟨some d,.iT false (.t x),none⟩
def mt(d x:Nat):aq:=⟨some d,.iT true (.t x),none⟩
def b6(d x t:Nat)(w:Bool):aq:=⟨some d,.iT false (.t x),some (t,w)⟩
def Z6(d x t:Nat)(w:Bool):aq:=⟨some d,.iT true (.t x),some (t,w)⟩
def i1(d:Nat)(o:rh):aq:=⟨some d,o,none⟩
def cQ(d t:Nat)(w:Bool)(o:rh):aq:=⟨some d,o,some (t,w)⟩
def i0(o:rh):aq:=⟨none,o,none⟩
def Z4(t:Nat)(w:Bool)(o:rh):aq:=⟨none,o,some (t,w)⟩
attribute[go_sem] mv mt b6 Z6 i1 cQ i0 Z4
@[go_sem]theorem Xu(a:AV)(l:List AV)(off n:Nat):AB.sub (a::l) off n=((a::l).drop off).take n:=rfl
attribute[go_sem] xC MG
@[go_sem]theorem SL(σ:St)(b:Bool)(a:AV)(d:Option Nat):bV σ (.when b a) d=bV σ a d:=by rw[bV]
end Go.AB
end
section
namespace Go.AB
open Go
def pG(t s:ab):Prop:=∀b o,t b=some o→s b=some o
theorem pG.refl(s:ab):pG s s:=fun _ _ h=>h
theorem pG.trans{a b c:ab}(h:pG a b)(k:pG b c):pG a c:=fun x o hx=>k x o (h x o hx)
theorem pG.set{t s:ab}{b:Nat}{o:SO}(h:pG t s)(hb:t b=none):pG t (s.set b o):=fun c p hc=>by
 unfold ab.set
 by_cases hcb:c=b
 ·subst hcb;rw[hb]at hc;cases hc
 ·rw[if_neg hcb];exact h c p hc
theorem pG.mono{t s:ab}{b:Nat}{o:SO}(h:pG t s):pG (t.set b o) (s.set b o):=fun c p hc=>by
 unfold ab.set at hc⊢
 by_cases hcb:c=b
 ·rw[if_pos hcb]at hc⊢;exact hc
 ·rw[if_neg hcb]at hc⊢;exact h c p hc
variable{P:Program}
theorem FN.forget{f:FuncId}{args:List AV}{s:ab}{Q:List AV→ab→Prop}(h:FN P f args s fun rs t=>∃t',pG t' t∧Q rs t'):FN P f args s Q:=by
 intro G w vs h1 h2 h3 h4
 refine(h G w vs h1 h2 h3 h4).mono fun e w'⟨v,rs,s',G',a1,⟨t',ht,hq⟩,a3,a4,a5⟩=>⟨v,rs,t',G',a1,hq,a3,fun b o hb=>a4 b o (ht b o hb),a5⟩
theorem bK(s:ab)(b:Nat)(o:SO):(s.set b o) b=some o:=by simp[ab.set]
theorem bD{s:ab}{b c:Nat}{o:SO}(h:c≠b):(s.set b o) c=s c:=by simp[ab.set,h]
theorem set_set(s:ab)(b:Nat)(o p:SO):(s.set b o).set b p=s.set b p:=by funext c;unfold ab.set;by_cases h:c=b<;>simp[h]
theorem set_comm{a b:Nat}(h:a≠b){s:ab}{o p:SO}:(s.set b p).set a o=(s.set a o).set b p:=by
 funext c;unfold ab.set
 by_cases ha:c=a
 ·subst ha;simp[h]
 ·simp[ha]
theorem TD{s:ab}{b:Nat}{o:SO}(h:s b=some o):s=s.set b o:=by
 funext c;unfold ab.set
 by_cases hc:c=b
 ·subst hc;simp[h]
 ·simp[hc]
theorem fu{s:ab}{b:Nat}{o:SO}(h:s b=some o):s.set b o=s:=(TD h).symm
theorem gr(s:ab)(b c:Nat)(o:SO):((s.set b o) c=none)=(c≠b∧s c=none):=by
 unfold ab.set
 by_cases hc:c=b<;>simp[hc]
attribute[go_sem] bK set_set
theorem aS{α:Type}{o:Option α}{K K':α→Prop}(h:ok o K)(hk:∀r,K r→K' r):ok o K':=h.imp fun r⟨h1,h2⟩=>⟨h1,hk r h2⟩
section
variable(Q:Exit→St→Prop)(σ τ:St)
end
def Ab(sz len n:Nat)(x:IX):AV→PR
 |.lp d o=>.prt (n+1≤len) (.lp d (o+n*sz))
 |.sp cs=>bif decide (len*sz≤cs.length)then .prt (n+1≤len) (.sp (cs.drop (n*sz)))else .no
 |.ref b o=>.prt (n+1≤len) (.ref b (o+n*sz))
 |.loc _=>Lg (n+1≤len) (n*sz) x
 |_=>.no
attribute[go_sem] Ab.eq_1 Ab.eq_2 Ab.eq_3 Ab.eq_4
@[go_sem]theorem TC(a:AV)(l:List AV)(off:Nat)(news:List AV):setAt (a::l) off news=(a::l).take off++news++(a::l).drop (off+news.length):=rfl
@[go_sem]theorem WI(z:List AV)(a:AV)(l:List AV):pad z (a::l)=bif(a::l).length==z.length then a::l else z:=rfl
@[go_sem]theorem Hw{α:Type}[a8 α](n:Nat)(z:α):(List.replicate n (a8.cells z)).flatten=flat (List.replicate n z):=by simp[flat]
section
variable{d d':Option Nat}{K:St→Prop}{σ:St}{b off:Nat}{news ez:List AV}
@[go_sem]theorem YI:HS d K (Qk σ b (dQ off news ez))=(off+news.length≤ez.length∧K (({σ with s:=σ.s.set b (.cells (setAt ez off news))}:St).put d (.gu []))):=by
  unfold dQ
  by_cases h:off+news.length≤ez.length
  ·simp[h,Qk,HS]
  ·simp[h,Qk,HS]
@[go_sem]theorem YH{i:Nat}:HS d K (Qj σ i (dQ off news ez))=(off+news.length≤ez.length∧K ((σ.put (some i) (.loc (setAt ez off news))).put d (.gu []))):=by
  unfold dQ
  by_cases h:off+news.length≤ez.length
  ·simp[h,Qj,HS]
  ·simp[h,Qj,HS]
end
@[go_sem]theorem Q2(n:Nat):(((no_index (OfNat.ofNat n)):Nat):Int)=OfNat.ofNat n:=rfl
def YZ{κ ν:Type}(ek:κ→AV)(ev:ν→AV)(m:List (κ×ν)):List (AV×AV):=m.map fun p=>(ek p.1,ev p.2)
section
variable{κ ν:Type}[BEq κ]{ek:κ→AV}{ev:ν→AV}
end
theorem oT(a b:Int):sf (.int .i64 a) (.int .i64 b)=(a==b):=by simp[sf,cellsOf,pR,MW]
attribute[go_sem] tq.eq_1
theorem aH{κ ν:Type}(ek:κ→AV)(ev:ν→AV):YZ ek ev []=[]:=rfl
@[go_sem]theorem YF(n:Nat):(List.replicate n [AV.int .i64 0]).flatten=flat (List.replicate n (0:Int)):=Hw n (0:Int)
@[go_sem]theorem Zr(n:Nat):(List.replicate n [AV.int .u8 0]).flatten=flat (List.replicate n (0:UInt8)):=Hw n (0:UInt8)
end Go.AB
end
section
namespace Go.AB
open Go
attribute[go_sem] start ag an aA aD aB aC Nat.ble_eq
theorem mix:Go.Proofs.Tryz.prog.follows .mixedOrders=true:=by kernel_rfl
end Go.AB
end
