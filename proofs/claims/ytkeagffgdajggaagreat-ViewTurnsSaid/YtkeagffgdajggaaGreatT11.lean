/- A part of the proof: Ab22b, Ab23, Ty1, Ty2, Ty3, Mix2. -/
import Derived.Test.YtkeagffgdajggaaGreatT10
import Derived.Test.YtkeagffgdajggaaGreatT9
import Derived.ProofKit
import Derived.Test.YtkeagffgdajggaaGreatT2
import Derived.Test.YtkeagffgdajggaaGreatProg
import Derived.KernelRfl
set_option linter.unusedSimpArgs false
set_option linter.unusedVariables false
section
namespace Go.AB
open Go
section
variable{P:Program}{G G':Gh}{n:Nat}{D:List Deferred}{σ σ':St}{a:Act}{w w':World}{T:List Nat}
def AX(a:AV):Prop:=aW a=true∧∀t,¬ba a t
theorem ON{f:Nat}{s:ab}{C C':AV→ab→Prop}(hc:∀a s',AX a→C a s'→C' a s'):∀{o:Option (List AV)},A9 P f s C o→A9 P f s C' o
 |some _,h=>FN.mono (P:=P) h fun rs s'⟨h1,h2⟩=>⟨h1,hc _ _ ⟨oU h1,wB h1⟩ h2⟩
 |none,h=>h
theorem MJ{s:ab}{C C':AV→ab→Prop}(hc:∀a s',AX a→C a s'→C' a s'){o:Option (List AV)}{x:AV}(h:wc P o s C x):wc P o s C' x:=by
 unfold wc at h⊢
 split at h
 ·unfold MI at h⊢
  split at h
  ·exact⟨h.1,FN.mono (P:=P) h.2 fun rs s'⟨h1,h2⟩=>⟨h1,hc _ _ ⟨oU h1,wB h1⟩ h2⟩⟩
  ·exact h
 ·exact h
theorem SE(b o l c:Nat):AX (.arr b o l c):=⟨rfl,fun _ h=>h⟩
theorem Ko(b o:Nat):AX (.ref b o):=⟨rfl,fun _ h=>h⟩
theorem UL(b:Nat):AX (.mp b):=⟨rfl,fun _ h=>h⟩
theorem Kp(l:List AV):AX (.fE l):=⟨rfl,fun _ h=>h⟩
theorem zy{o:sT}{C C':AV→ab→Prop}(hc:∀a s',AX a→C a s'→C' a s')(h:zx P o σ C):zx P o σ C':=by
 cases o<;>first|(exact h.elim)|skip
 case call f args=>exact ON hc h
 case b6 x args=>exact MJ hc h
 case makeMap=>exact fun b hb=>hc _ _ (UL b) (h b hb)
 case fJ z=>exact fun b hb=>hc _ _ (Ko b 0) (h b hb)
 case mP m x=>exact⟨h.1,h.2.1,fun b hb=>hc _ _ (Ko b 0) (h.2.2 b hb)⟩
 case js sz by' z l c=>
  have h:Es by' z σ.s C (xg true σ l) (xg true σ c):=h
  show Es by' z σ.s C' (xg true σ l) (xg true σ c)
  unfold Es at h⊢
  split at h
  ·exact⟨h.1,h.2.1,h.2.2.1,fun b hb=>hc _ _ (SE ..) (h.2.2.2 b hb)⟩
  ·exact h
 case store m p v=>
  have h:og m σ.s C (σ.x v) (σ.x p):=h
  show og m σ.s C' (σ.x v) (σ.x p)
  unfold og at h⊢
  split at h
  ·refine⟨h.1,h.2.1,h.2.2.1,?_⟩
   have h4:=h.2.2.2
   unfold MK at h4⊢
   split at h4
   ·exact⟨h4.1,hc _ _ (Kp _) h4.2⟩
   ·exact h4
  ·exact h
 case gW x=>
  have h:tk σ.s C (σ.x x):=h
  show tk σ.s C' (σ.x x)
  unfold tk at h⊢
  split at h
  ·unfold zw at h⊢
   split at h
   ·unfold qR at h⊢
    split at h
    ·exact hc _ _ ⟨rfl,fun _ h=>h⟩ h
    ·exact hc _ _ ⟨rfl,fun _ h=>h⟩ h
    ·exact h
   ·exact h
  ·exact h
 case mapUpdate kk x k v=>
  have h:Jv kk σ.s (xg true σ k) (xg true σ v) C (xg true σ x):=h
  show Jv kk σ.s (xg true σ k) (xg true σ v) C' (xg true σ x)
  unfold Jv at h⊢
  split at h
  ·unfold OO at h⊢
   split at h
   ·exact⟨h.1,hc _ _ (Kp _) h.2⟩
   ·exact h
  ·exact h
theorem Et{o:sT}{C:AV→ab→Prop}(hx:∀x∈cD o,σ.x x=σ'.x x)(hs:σ.s=σ'.s)(h:zx P o σ C):zx P o σ' C:=by
 have hg:∀x∈cD o,xg true σ x=xg true σ' x:=fun x h=>by unfold xg;rw[hx x h]
 cases o<;>first|(exact h.elim)|skip
 case call f args=>
  show A9 P f σ'.s C (bJ (xg true σ') args)
  rw[←hs,←ff args hg];exact h
 case b6 x args=>
  show wc P (bJ (xg true σ') args) σ'.s C (xg true σ' x)
  rw[←hs,←ff args fun y hy=>hg y (List.mem_cons_of_mem _ hy),←hg x List.mem_cons_self];exact h
 case makeMap=>rw[zx,←hs];exact h
 case fJ z=>rw[zx,←hs];exact h
 case mP m x=>rw[zx,←hs,←hg x List.mem_cons_self];exact h
 case js sz by' z l c=>rw[zx,←hs,←hg l (by simp[cD]),←hg c (by simp[cD])];exact h
 case store m p v=>rw[zx,←hs,←hx p (by simp[cD]),←hx v (by simp[cD])];exact h
 case gW x=>rw[zx,←hs,←hx x List.mem_cons_self];exact h
 case mapUpdate kk x k v=>rw[zx,←hs,←hg x (by simp[cD]),←hg k (by simp[cD]),←hg v (by simp[cD])];exact h
theorem Ql{a:AV}(h:NT a=true)(hv:cU a=true):view a=a:=by
 cases a<;>first|rfl|skip
 ·rename_i o z m cs
  cases o
  ·rfl
  ·cases h
 ·cases hv
 ·cases hv
 ·cases h
theorem kG.put(h:kG σ σ')(d:Option Nat)(v:AV):kG (σ.put d v) (σ'.put d v):=by
 cases d with
 |none=>exact h
 |some d=>exact⟨fun i=>by show look ((d,v)::σ.e) i=look ((d,v)::σ'.e) i;rw[aJ,aJ,h.e],h.lp,h.s⟩
theorem kG.OB(h:kG σ σ')(s:ab):kG {σ with s:=s} {σ' with s:=s}:=⟨h.e,h.lp,rfl⟩
theorem RC{x:IX}(h:view (σ.x x)=σ.x x):kG (σ.drain x) σ:=by
 cases x with
 |c a=>exact kG.refl _
 |t i=>
  refine⟨fun j=>?_,fun _=>Iff.rfl,rfl⟩
  show look ((i,view (look σ.e i))::σ.e) j=_
  rw[aJ]
  by_cases e:i=j
  ·subst e;simp;exact h
  ·simp[e]
theorem Vk{o:ah}{K:St→Prop}(hK:∀τ τ',kG τ τ'→K τ→K τ')(h:U0 P o σ K):OD P o σ K:=by
 obtain⟨d,op,g⟩:=o
 cases g with
 |some _=>exact h.elim
 |none=>
 replace h:=h.2
 cases op<;>first|(exact h.elim)|skip
 case call f args=>
  show tu P f σ d K (bJ (xg true σ) args)
  have h:A9 P f σ.s (SV σ d K) (bJ (xg true σ) args):=h
  cases hh:bJ (xg true σ) args<;>rw[hh]at h<;>exact h
 case b6 x args=>
  show yz P σ (bJ (xg true σ) args) d K (xg true σ x)
  have h:wc P (bJ (xg true σ) args) σ.s (SV σ d K) (xg true σ x):=h
  cases hh:bJ (xg true σ) args<;>cases hx:xg true σ x<;>rw[hh,hx]at h<;>exact h
 case makeMap=>exact h
 case fJ z=>exact h
 case mP m x=>exact h
 case js sz by' z l c=>
  show Ao by' z σ d K (xg true σ l) (xg true σ c)
  have h:Es by' z σ.s (SV σ d K) (xg true σ l) (xg true σ c):=h
  cases hl:xg true σ l<;>cases hc:xg true σ c<;>rw[hl,hc]at h<;>exact h
 case store m p v=>
  show L5 m σ p v d K (σ.x v)
  have h:og m σ.s (SV σ d K) (σ.x v) (σ.x p):=h
  unfold og at h
  split at h
  ·rename_i b off hp
   obtain⟨h1,h2,h3,h4⟩:=h
   refine⟨h1,h3,?_⟩
   have hd:=RC (Ql h2 h1)
   rw[hp]
   show OG d K (Qm (σ.drain v) b off (aR (σ.x v)) ((σ.drain v).s b))
   rw[hd.s]
   unfold MK at h4
   split at h4
   ·rename_i dQ ho
    rw[ho]
    show OG d K (WO (σ.drain v) b (dG off (aR (σ.x v)) dQ))
    unfold dG
    rw[decide_eq_true h4.1]
    refine hK _ _ ?_ h4.2
    have e:kG {σ with s:=σ.s.set b (.cells (setAt dQ off (aR (σ.x v))))} {σ.drain v with s:=(σ.drain v).s.set b (.cells (setAt dQ off (aR (σ.x v))))}:=by rw[hd.s];exact hd.symm.OB _
    exact e.put d _
   ·exact h4.elim
  ·exact h.elim
 case gW x=>
  show nK σ d K (σ.x x)
  have h:tk σ.s (SV σ d K) (σ.x x):=h
  unfold tk at h
  split at h
  ·rename_i b off hx
   rw[hx]
   unfold nK
   simp only
   unfold zw at h
   split at h
   ·rename_i cs he
    first|exact h|(rw[he];exact h)
   ·exact h.elim
  ·exact h.elim
 case mapUpdate kk x k v=>
  show wx kk σ (xg true σ k) (xg true σ v) d K (xg true σ x)
  have h:Jv kk σ.s (xg true σ k) (xg true σ v) (SV σ d K) (xg true σ x):=h
  unfold Jv at h
  split at h
  ·rename_i b hx
   rw[hx]
   show SD kk b σ (xg true σ k) (xg true σ v) d K (σ.s b)
   unfold OO at h
   split at h
   ·rename_i es he
    rw[he];exact h
   ·exact h.elim
  ·exact h.elim
theorem ZS{o:ah}{g:Bool}(h:mc o σ=true)(s:ab):pv o.op (xg g {σ with s:=s}) {σ with s:=s}=pv o.op (xg g σ) σ:=by
 have hf:xg g {σ with s:=s}=xg g σ:=by funext x;cases x<;>rfl
 rw[hf]
 obtain⟨d,op,gg⟩:=o
 cases op<;>first|rfl|skip
 case iR tr x=>cases tr<;>rfl
 case slice sz x lo hi mx=>cases mx<;>rfl
 case load m multi x=>
  have h:lX (σ.x x)=true:=h
  have hn:lX (xg g σ x)=true:=by
   unfold xg zm
   split
   ·rename_i b a hb
    rw[hb]at h
    cases hc:((b==g)||b)&&inner a
    ·rfl
    ·exact h
   ·exact h
  show mB multi (rd {σ with s:=s} (xg g σ x) m)=mB multi (rd σ (xg g σ x) m)
  cases he:xg g σ x<;>first|rfl|(rw[he]at hn;cases hn)
 case aU z m x=>cases h
 case kL k x=>cases h
 case len c x=>
  have h:(!Nat.beq c 2)=true:=h
  show DA s c (xg g σ x)=DA σ.s c (xg g σ x)
  match c,h with
  |0,_=>cases xg g σ x<;>rfl
  |1,_=>cases xg g σ x<;>rfl
  |c+3,_=>cases xg g σ x<;>rfl
 case VA ne x y=>
  cases y with
  |t i=>rfl
  |c a=>
   cases a<;>first|rfl|skip
   rename_i o z m cs
   cases o<;>cases m<;>cases cs<;>rfl
theorem afV{o:ah}(h:mc o σ=true)(s:ab):qv o {σ with s:=s}=qv o σ:=by
 unfold qv
 split
 ·exact ZS h s
 ·rename_i t want _
  show N8 o.op want {σ with s:=s} (look σ.e t)=N8 o.op want σ (look σ.e t)
  unfold N8
  split
  ·show SL _ _ _=SL _ _ _
   rw[ZS h s]
  ·show SL _ _ _=SL _ _ _
   rw[ZS h s]
  ·rfl
theorem Z6{o:ah}(h:mc o σ=true)(s:ab)(f:IX→AV):qe f s o.op=qe f σ.s o.op:=by
 obtain⟨d,op,gg⟩:=o
 cases op<;>first|rfl|(cases h;done)
theorem adB{o:ah}(h:mc o σ=true)(s:ab):CS o {σ with s:=s}=CS o σ:=by
 have hf:∀g,xg g {σ with s:=s}=xg g σ:=fun g=>by funext x;cases x<;>rfl
 unfold CS
 split
 ·rw[hf];exact Z6 h s _
 ·rename_i t want _
  show OF o.op want {σ with s:=s} (look σ.e t)=OF o.op want σ (look σ.e t)
  unfold OF
  split
  ·show OA _ (qe (xg _ {σ with s:=s}) s o.op)=OA _ _
   rw[hf,Z6 h s]
  ·show OA _ (qe (xg _ {σ with s:=s}) s o.op)=OA _ _
   rw[hf,Z6 h s]
  ·rfl
theorem GN(d:Option Nat)(s:ab):aO {σ with s:=s} d=aO σ d:=by cases d<;>rfl
theorem Y2.OB{o:ah}{v:AV}(hy:Y2 P σ o v)(h:mc o σ=true)(s:ab):Y2 P {σ with s:=s} o v:=by
 cases hy with
 |dQ _ _ h0 hf hv hy=>
  refine .dQ o v h0 (by rw[GN];exact hf) hv ?_
  cases hy with
  |pure _ _ hq=>exact .pure o v (by rw[afV h s];exact hq)
  |iR d x hi=>exact .iR (σ:={σ with s:=s}) d x hi
  |call=>cases h
  |MM=>cases h
  |b6=>cases h
  |ED=>cases h
  |YQ _ _ hq=>exact .YQ o v (by rw[adB h s];exact hq)
 |sto m c x dQ h0 h1 h2 h3=>exact .sto (σ:={σ with s:=s}) m c x dQ h0 h1 h2 h3
 |Yv d z h0 h1=>exact .Yv d z h0 h1
 |app d sz bytes x y _ h0 h1=>exact .app d sz bytes x y v h0 h1
 |Zg d off i x cs o s' m ds h0 h1 h2 h3 h4=>exact .Zg d off i x cs o s' m ds h0 h1 h2 h3 h4
def behind(σ:St)(d:Option Nat)(a:AV)(s:ab):St:={σ with s:=s}.put d a
theorem nL(σ:St)(d:Option Nat)(a:AV)(i:Nat):look (σ.put d a).e i=if d=some i then a else look σ.e i:=by
 cases d with
 |none=>simp[St.put]
 |some d=>
  show look ((d,a)::σ.e) i=_
  rw[aJ]
  by_cases e:d=i
  ·subst e;simp
  ·simp[e]
theorem Kf(σ:St)(d:Option Nat)(a:AV):(σ.put d a).s=σ.s∧(σ.put d a).lp=σ.lp:=by cases d<;>exact⟨rfl,rfl⟩
theorem MG(σ:St)(d:Option Nat)(a:AV)(s:ab):(behind σ d a s).s=s:=(Kf _ d a).1
theorem uJ{d:Option Nat}{l:List Nat}(h:fP d l=true){i:Nat}(hi:i∈l):d≠some i:=fun e=>by
 subst e
 simp[fP]at h
 exact h hi
theorem SQ{y x:ah}(h:apB y x=true):CR y x=true∧fP (qZ y) (bW x)=true∧fP x.dst (bW y)=true∧∀i,qZ y=some i→x.dst≠some i:=by
 unfold apB at h
 simp only[Bool.and_eq_true]at h
 refine⟨h.1.1.1,h.1.1.2,h.1.2,fun i hi hd=>?_⟩
 have:=h.2
 rw[hi,hd]at this
 simp at this
theorem Vg{y:ah}{d:Option Nat}{v:AV}(hd:fP d (bW y)=true)(hf:aO σ d=true)(hv:aW v=true):MA y σ (σ.put d v):=by
 have key:∀i,i∈bW y→look σ.e i=look (σ.put d v).e i:=fun i hi=>by rw[nL,if_neg (uJ hd hi)]
 refine⟨fun x hx=>?_,fun t want hg=>key t (List.mem_append_left _ (by rw[hg];exact List.mem_cons_self)),(Kf σ d v).1.symm,fun x _ g m=>?_⟩
 ·cases x with
  |c a=>rfl
  |t i=>exact key i (List.mem_append_right _ (fW hx))
 ·cases he:xg g σ x<;>try rfl
  ·rename_i b off
   show Ay m off (σ.s b)=Ay m off ((σ.put d v).s b)
   rw[(Kf σ d v).1]
  ·rename_i c off
   show kN m off (look σ.e c)=kN m off (look (σ.put d v).e c)
   rw[nL]
   by_cases e:d=some c
   ·rw[if_pos e,iU hv]
    rw[e]at hf
    exact iU hf m off
   ·rw[if_neg e]
theorem Su{y:ah}{d:Option Nat}{v:AV}{s:ab}(hd:fP d (bW y)=true):mc y (behind σ d v s)=mc y σ:=by
 obtain⟨dd,op,g⟩:=y
 cases op<;>first|rfl|skip
 rename_i m mu x
 show lX ((behind σ d v s).x x)=lX (σ.x x)
 cases x with
 |c a=>rfl
 |t i=>
  show lX (look (behind σ d v s).e i)=lX (look σ.e i)
  unfold behind
  rw[nL,if_neg (uJ hd (List.mem_append_right _ (fW (List.mem_cons_self))))]
theorem Y2.behind{y:ah}{v av:AV}{d:Option Nat}{s:ab}(hy:Y2 P σ y v)(h:mc y σ=true)(hd:fP d (bW y)=true)(hf:aO σ d=true)(hv:AX av)(hne:∀i,qZ y=some i→d≠some i):Y2 P (behind σ d av s) y v:=by
 have h1:Y2 P {σ with s:=s} y v:=hy.OB h s
 unfold AB.behind
 refine h1.Qt (Vg hd (by rw[GN];exact hf) hv.1) (fun i hi=>?_) (fun i hi hf=>?_)
 ·rw[nL,if_neg (hne i (zF hi))]
 ·rw[(Kf _ d av).2];exact hf
theorem KB{y:ah}{v av:AV}{d:Option Nat}{s:ab}(hd:fP d (bW y)=true)(hne:∀i,qZ y=some i→d≠some i):kG (bA (behind σ d av s) y v) (AB.behind (bA σ y v) d av s):=by
 refine⟨fun i=>?_,fun x=>?_,?_⟩
 ·rw[dp]
  unfold AB.behind
  rw[nL,nL]
  show _=if d=some i then av else look (bA σ y v).e i
  rw[dp]
  by_cases h1:qZ y=some i
  ·rw[if_pos h1,if_neg (hne i h1),if_pos h1]
  ·rw[if_neg h1,if_neg h1]
   by_cases h2:d=some i
   ·rw[if_pos h2,if_pos h2]
    refine Jz fun hh=>?_
    exact uJ hd (nw hh) h2
   ·rw[if_neg h2,if_neg h2]
 ·rw[gJ]
  unfold AB.behind
  rw[(Kf _ d av).2,(Kf _ d av).2]
  show _↔x∈(bA σ y v).lp
  rw[gJ]
 ·rw[lH,MG,MG]
def bE(P:Program)(T:List Nat):List Item→(St→Prop)→St→Prop
 |[],K,σ=>∃τ,kG τ σ∧K τ
 |(k,_,o)::r,K,σ=>if 3≤k then∃τ,kG τ σ∧OD P o τ (fun ρ=>fO T ρ.e=true∧Jw P T r ρ K)else if 2≤k then aO σ o.dst=true∧o.g=none∧zx P o.op σ (fun a s=>bE P T r K (behind σ o.dst a s))
  else∃v,Y2 P σ o v∧BI T o v∧(k=1→mc o σ=true)∧bE P T r K (bA σ o v)
theorem Ev{K:St→Prop}:∀(l:List Item)(σ:St),Jw P T l σ K→bE P T l K σ
 |[],σ,h=>⟨σ,kG.refl _,h⟩
 |(0,_,o)::r,σ,h=>by
  obtain⟨v,h1,h2,h3⟩:=LI (show q2 P o σ (fun τ=>fO T τ.e=true∧Jw P T r τ K) from h)
  unfold bE
  rw[if_neg (by decide),if_neg (by decide)]
  exact⟨v,h1,BJ fun i c hc=>nN h2 i c hc,fun e=>(by cases e),Ev r _ h3⟩
 |(1,_,o)::r,σ,h=>by
  obtain⟨h0,h⟩:=h
  obtain⟨v,h1,h2,h3⟩:=LI (show q2 P o σ (fun τ=>fO T τ.e=true∧Jw P T r τ K) from h)
  unfold bE
  rw[if_neg (by decide),if_neg (by decide)]
  exact⟨v,h1,BJ fun i c hc=>nN h2 i c hc,fun _=>h0,Ev r _ h3⟩
 |(k+3,_,o)::r,σ,h=>by
  have h:OD P o σ (fun τ=>fO T τ.e=true∧Jw P T r τ K):=h
  unfold bE
  rw[if_pos (by omega)]
  exact⟨σ,kG.refl _,h⟩
 |(2,_,o)::r,σ,h=>by
  have h:U0 P o σ (fun τ=>fO T τ.e=true∧Jw P T r τ K):=h
  unfold bE
  rw[if_neg (by decide),if_pos (by decide)]
  unfold U0 at h
  split at h
  ·rename_i hg
   exact⟨h.1,hg,zy (fun a s _ hk=>Ev r _ hk.2) h.2⟩
  ·exact h.elim
theorem Ss{o:ah}(h:kG σ σ'):mc o σ=mc o σ':=by
 obtain⟨d,op,g⟩:=o
 cases op<;>first|rfl|skip
 rename_i m mu x
 show lX (σ.x x)=lX (σ'.x x)
 cases x with
 |c a=>rfl
 |t i=>show lX (look σ.e i)=lX (look σ'.e i);rw[h.e]
theorem Ep{K:St→Prop}:∀(l:List Item){σ σ':St},kG σ σ'→bE P T l K σ→bE P T l K σ'
 |[],_,_,h,⟨τ,h1,h2⟩=>⟨τ,h1.trans h,h2⟩
 |(k,i,o)::r,σ,σ',h,hb=>by
  unfold bE at hb⊢
  by_cases hk3:3≤k
  ·rw[if_pos hk3]at hb⊢
   obtain⟨τ,h1,h2⟩:=hb
   exact⟨τ,h1.trans h,h2⟩
  rw[if_neg hk3]at hb⊢
  by_cases hk:2≤k
  ·rw[if_pos hk]at hb⊢
   refine⟨by rw[←h.free];exact hb.1,hb.2.1,?_⟩
   refine Et (σ:=σ) (fun x _=>by cases x with|c a=>rfl|t i=>exact h.e i) h.s (zy (fun a s _ hh=>?_) hb.2.2)
   exact Ep r ((h.OB s).put o.dst a) hh
  ·rw[if_neg hk]at hb⊢
   obtain⟨v,h1,h2,h3,h4⟩:=hb
   exact⟨v,h1.eqv h,h2,fun e=>by rw[←Ss h];exact h3 e,Ep r (h.bA o v) h4⟩
theorem C4{o y:ah}{v:AV}(hn:fP (qZ y) (bW o)=true)(hdr:CR y o=true):mc o (bA σ y v)=mc o σ:=by
 obtain⟨d,op,g⟩:=o
 cases op<;>first|rfl|skip
 rename_i m mu x
 show lX ((bA σ y v).x x)=lX (σ.x x)
 cases x with
 |c a=>rfl
 |t i=>
  have hi:i∈bW ⟨d,.load m mu (.t i),g⟩:=List.mem_append_right _ (fW List.mem_cons_self)
  show lX (look (bA σ y v).e i)=lX (look σ.e i)
  rw[dp,if_neg (uJ hn hi),Jz]
  have:=List.all_eq_true.1 hdr i hi
  simpa using this
theorem XZ{K:St→Prop}{kx ix:Nat}{x:ah}(hkx:¬2≤kx)(hTx:VF T x):∀(pre:List Item)(post:List Item)(σ:St),yp T σ→(∀y∈pre,¬2≤y.1∧WX y.2.2 x=true∧VF T y.2.2)→bE P T (pre++(kx,ix,x)::post) K σ→
 ∃v,Y2 P σ x v∧BI T x v∧(kx=1→mc x σ=true)∧bE P T (pre++post) K (bA σ x v)
 |[],post,σ,_,_,h=>by
  have h:bE P T ((kx,ix,x)::post) K σ:=h
  unfold bE at h
  rw[if_neg (by omega),if_neg hkx]at h
  exact h
 |(k,i,o)::pre,post,σ,hN,hap,h=>by
  have h:bE P T ((k,i,o)::(pre++(kx,ix,x)::post)) K σ:=h
  obtain⟨hk,hap0,hT0⟩:=hap _ List.mem_cons_self
  unfold bE at h
  rw[if_neg (by omega),if_neg hk]at h
  obtain⟨v,h1,h2,h3,h4⟩:=h
  obtain⟨u,i1,i2,i3,i4⟩:=XZ hkx hTx pre post (bA σ o v) (rK hN h2) (fun y hy=>hap y (List.mem_cons_of_mem _ hy)) h4
  obtain⟨a1,a2,a3,a4,a5,a6,a7,c1,c2⟩:=ME hap0
  have hx:Y2 P σ x u:=i1.Qt (vX h1 a1 a4 c2 hN hT0).symm
   (fun i hi=>(kj fun e=>a3 i i e (zF hi) rfl).symm)
   (fun i hi hf=>lW (fun z hz _=>(gJ o v z).2 (.inl hz)) hf)
  have ho:Y2 P (bA σ x u) o v:=h1.Qt (vX hx a2 a5 c1 hN hTx)
   (fun i hi=>kj fun e=>a3 i i (zF hi) e rfl)
   (fun i hi hf=>lW (fun z hz hzi=>by
     rcases(gJ _ _ z).1 hz with hz|⟨j,j1,_,j3⟩
     ·exact hz
     ·rw[hzi]at j3;exact(i2 j j1 i (hT0 i hi) j3).elim) hf)
  have hcomm:kG (bA (bA σ o v) x u) (bA (bA σ x u) o v):=GS a3 a6 a7
  refine⟨u,hx,i2,fun e=>by rw[←C4 a1 a4];exact i3 e,?_⟩
  show bE P T ((k,i,o)::(pre++post)) K (bA σ x u)
  unfold bE
  rw[if_neg (by omega),if_neg hk]
  exact⟨v,ho,h2,fun e=>by rw[C4 a2 a5];exact h3 e,Ep _ hcomm i4⟩
theorem X0{K:St→Prop}{kx ix:Nat}{x:ah}(hkx:2≤kx)(hkx3:¬3≤kx):∀(pre:List Item)(post:List Item)(σ:St),(∀y∈pre,y.1=1∧apB y.2.2 x=true)→bE P T (pre++(kx,ix,x)::post) K σ→
 aO σ x.dst=true∧x.g=none∧zx P x.op σ (fun a s=>bE P T (pre++post) K (behind σ x.dst a s))
 |[],post,σ,_,h=>by
  have h:bE P T ((kx,ix,x)::post) K σ:=h
  unfold bE at h
  rw[if_neg hkx3,if_pos hkx]at h
  exact h
 |(k,i,o)::pre,post,σ,hap,h=>by
  have h:bE P T ((k,i,o)::(pre++(kx,ix,x)::post)) K σ:=h
  obtain⟨rfl,hap0⟩:=hap _ List.mem_cons_self
  unfold bE at h
  rw[if_neg (by omega),if_neg (by omega)]at h
  obtain⟨v,h1,h2,h3,h4⟩:=h
  obtain⟨i1,i2,i3⟩:=X0 hkx hkx3 pre post (bA σ o v) (fun y hy=>hap y (List.mem_cons_of_mem _ hy)) h4
  obtain⟨a1,a2,a3,a4⟩:=SQ hap0
  have hf:aO σ x.dst=true:=by
   cases hd:x.dst with
   |none=>rfl
   |some d=>
    rw[hd]at i1
    have e:aW (look (bA σ o v).e d)=aW (look σ.e d):=kj fun e=>a4 d e hd
    show aW (look σ.e d)=true
    rw[←e];exact i1
  refine⟨hf,i2,Et (σ:=bA σ o v) (fun y hy=>?_) (lH o v) (zy (fun av s hv hb=>?_) i3)⟩
  ·cases y with
   |c a=>rfl
   |t j=>
    have hj:j∈bW x:=List.mem_append_right _ (fW hy)
    show look (bA σ o v).e j=look σ.e j
    rw[dp,if_neg (uJ a2 hj),Jz]
    have:=List.all_eq_true.1 a1 j hj
    simpa using this
  ·show bE P T ((1,i,o)::(pre++post)) K (behind σ x.dst av s)
   unfold bE
   rw[if_neg (by omega),if_neg (by omega)]
   refine⟨v,h1.behind (h3 rfl) a3 hf hv a4,h2,fun _=>by rw[Su a3];exact h3 rfl,?_⟩
   exact Ep _ (KB a3 a4).symm hb
end
section
variable{P:Program}{n:Nat}{D:List Deferred}{ops:Array Oper}{T:List Nat}
def Bef(ops:Array Oper)(j i:Nat):Prop:=∀L:Nat→Prop,(∀m,L m→∀d,ga ops m d=true→L d)→(∀d,ga ops j d=true→L d)→L i
theorem JI(acc:List Nat)(i:Nat):∀(l:List Edge)(s:Nat),(l.foldl (fun s e=>bif Region.binds .any e then s |||(1<<<e.on)|||acc.getD e.on 0 else s) s).testBit i=true→
 s.testBit i=true∨∃e∈l,Region.binds .any e=true∧(i=e.on∨(acc.getD e.on 0).testBit i=true)
 |[],s,h=>.inl h
 |e::l,s,h=>by
  rw[List.foldl_cons]at h
  rcases JI acc i l _ h with h|⟨e',h1,h2⟩
  ·cases hb:Region.binds .any e with
   |false=>rw[hb]at h;exact .inl h
   |true=>
    rw[hb,cond_true,Nat.testBit_or,Nat.testBit_or,Bool.or_eq_true,Bool.or_eq_true]at h
    rcases h with(h|h)|h
    ·exact .inl h
    ·refine .inr ⟨e,List.mem_cons_self,hb,.inl ?_⟩
     rw[Nat.testBit_shiftLeft,Bool.and_eq_true,decide_eq_true_eq]at h
     have:=Nat.testBit_one_eq_true_iff_self_eq_zero.1 h.2
     omega
    ·exact .inr ⟨e,List.mem_cons_self,hb,.inr h⟩
  ·exact .inr ⟨e',List.mem_cons_of_mem _ h1,h2⟩
theorem J7:∀(l:List Oper)(acc:List Nat),l=ops.toList.drop acc.length→(∀j i,(acc.getD j 0).testBit i=true→Bef ops j i)→∀j i,((J6 l acc).getD j 0).testBit i=true→Bef ops j i
 |[],acc,_,h=>h
 |o::l,acc,hl,h=>by
  have ho:ops[acc.length]? =some o:=by
   have:(ops.toList.drop acc.length)[0]? =some o:=by rw[←hl];rfl
   simpa using this
  refine J7 l (acc++[FY acc o]) ?_ fun j i hb=>?_
  ·have:(ops.toList.drop acc.length).tail=l:=by rw[←hl];rfl
   rw[←this];simp
  ·by_cases hj:j<acc.length
   ·refine h j i ?_
    simpa[List.getD_eq_getElem?_getD,List.getElem?_append_left hj]using hb
   ·by_cases he:j=acc.length
    ·subst he
     have hb:(FY acc o).testBit i=true:=by simpa[List.getD_eq_getElem?_getD]using hb
     unfold FY at hb
     rcases JI acc i _ _ hb with h0|⟨e,e1,e2,e3⟩
     ·simp at h0
     ·intro L hc hd
      have hle:L e.on:=hd _ ((lL ho).2 ⟨e,by simpa using e1,e2,rfl⟩)
      rcases e3 with rfl|e3
      ·exact hle
      ·exact h e.on i e3 L hc (hc _ hle)
    ·have:(acc++[FY acc o]).getD j 0=0:=by
      rw[List.getD_eq_getElem?_getD,List.getElem?_eq_none (by simp;omega)];rfl
     rw[this]at hb
     simp at hb
theorem Kd{ms:List Nat}:∀{l:List Item},LC ops ms l=true→l.Pairwise fun x y=>Av ops ms x y=true
 |[],_=>.nil
 |x::r,h=>by
  simp only[LC,Bool.and_eq_true]at h
  exact .cons (fun y hy=>List.all_eq_true.1 h.1 y hy) (Kd h.2)
structure SM(ops:Array Oper)(L0 L:List Item)(listed:Array Bool):Prop where
 size:listed.size=ops.size
 sub:L.Sublist L0
 un:∀x∈L,listed.getD x.2.1 true=false
 li:∀k,k<ops.size→(∀x∈L,x.2.1≠k)→listed.getD k false=true
 cl:∀m,listed.getD m false=true→∀i,ga ops m i=true→listed.getD i false=true
theorem zJ{l:Array Bool}{i j:Nat}{b:Bool}(h:j≠i):(l.setIfInBounds i true).getD j b=l.getD j b:=by simp[Array.getElem?_setIfInBounds,h.symm]
theorem pj{l:Array Bool}{i:Nat}{b:Bool}(h:i<l.size):(l.setIfInBounds i true).getD i b=true:=by simp[h]
theorem w8{l:Array Bool}{i j:Nat}(h:l.getD j false=true):(l.setIfInBounds i true).getD j false=true:=by
 by_cases e:j=i
 ·subst e
  rcases Nat.lt_or_ge j l.size with hj|hj
  ·exact pj hj
  ·simp[Array.getElem?_eq_none hj]at h
 ·rw[zJ e];exact h
theorem QS{x:Item}(h:FK P T n ops x=true)(hk:¬2≤x.1):VF T x.2.2:=fun c hc=>by
 simp only[FK,Bool.and_eq_true]at h
 have h2:=h.2
 unfold TJ at hc
 split at hc
 ·rename_i hx
  rw[hx]at h2
  injection hc with hc;subst hc
  rcases Bool.or_eq_true_iff.1 h2 with h2|h2
  ·exact(hk (of_decide_eq_true h2)).elim
  ·simpa using h2
 ·rename_i hx
  rw[hx]at h2
  injection hc with hc;subst hc;simpa using h2
 ·cases hc
theorem yp.behind{σ:St}(h:yp T σ){d:Option Nat}{a:AV}{s:ab}(ha:AX a):yp T (behind σ d a s):=fun i c hc=>by
 unfold AB.behind
 rw[nL]
 by_cases e:d=some i
 ·rw[if_pos e];exact ha.2 c
 ·rw[if_neg e];exact h i c hc
theorem adQ{K:St→Prop}{Q:Exit→Act→World→Prop}(G₀:Gh)(w₀:World){L0:List Item}(hI:∀x∈L0,FK P T n ops x=true)(hP:L0.Pairwise fun x y=>Av ops (J6 ops.toList []) x y=true)
 (hn:∀G' σ' a' w',Inv G' n D σ' a' w'→ax G₀ w₀ G' w'→K σ'→Q .normal a' w'):
 ∀(m:Nat)(L:List Item),L.length=m→∀(listed:Array Bool)(σ:St),SM ops L0 L listed→yp T σ→bE P T L K σ→∀(G:Gh)(a:Act)(w:World),Inv G n D σ a w→ax G₀ w₀ G w→wpAny P .any ops Q m listed a w:=by
 intro m
 induction m with
 |zero=>
  intro L hL listed σ hg _ hb G a w h hp
  obtain rfl:=List.eq_nil_of_length_eq_zero hL
  refine⟨List.eq_nil_iff_forall_not_mem.2 fun j hj=>?_,?_⟩
  ·obtain⟨r1,r2,r3⟩:=jt hj
   have:=j9 (hg.li j r1 fun x hx=>by cases hx)
   rw[r2]at this;cases this
  ·obtain⟨τ,t1,t2⟩:=hb
   exact hn G τ a w (h.eqv t1.symm) hp t2
 |succ m ih=>
  intro L hL listed σ hg hN hb G a w h hp
  have hPL:=hP.sublist hg.sub
  refine⟨fun h0=>?_,fun i hi=>?_⟩
  ·cases L with
   |nil=>simp at hL
   |cons x r=>
    have hx:=hI x (hg.sub.subset List.mem_cons_self)
    simp only[FK,Bool.and_eq_true]at hx
    have hmem:x.2.1∈Region.ready .any ops listed:=by
     cases ho:ops[x.2.1]? with
     |none=>rw[ho]at hx;simp at hx
     |some o=>
      rw[ho]at hx
      have hx1:(gh P n ops o x.2.2&&o.after.all fun e=>!Region.binds .any e||(decide (e.on<ops.size)&&e.on !=x.2.1))=true:=hx.1
      rw[Bool.and_eq_true]at hx1
      refine mem_ready.2 ⟨hg.un x List.mem_cons_self,o,ho,fun e he hbn=>?_⟩
      have h3:=Array.all_eq_true_iff_forall_mem.1 hx1.2 e he
      rw[hbn]at h3
      simp only[Bool.not_true,Bool.false_or,Bool.and_eq_true,decide_eq_true_eq,bne_iff_ne]at h3
      refine hg.li e.on h3.1 fun y hy=>?_
      rcases List.mem_cons.1 hy with rfl|hy
      ·exact fun e'=>h3.2 e'.symm
      ·intro e'
       have:=(List.pairwise_cons.1 hPL).1 y hy
       simp only[Av,Bool.and_eq_true,Bool.not_eq_true']at this
       have hb2:ga ops x.2.1 y.2.1=true:=(lL ho).2 ⟨e,he,hbn,e'.symm⟩
       rw[this.1]at hb2;cases hb2
    rw[h0]at hmem
    cases hmem
  ·obtain⟨r1,r2,r3⟩:=jt hi
   have hex:∃x∈L,x.2.1=i:=by
    apply Classical.byContradiction
    intro hno
    have:=j9 (hg.li i r1 fun x hx e=>hno ⟨x,hx,e⟩)
    rw[r2]at this;cases this
   obtain⟨⟨kx,ix,x⟩,hx,e0⟩:=hex
   have e0:ix=i:=e0
   subst e0
   obtain⟨pre,post,rfl⟩:=List.append_of_mem hx
   have hxi:=hI _ (hg.sub.subset hx)
   have hPw:=List.pairwise_append.1 hPL
   have hpx:∀y∈pre,Av ops (J6 ops.toList []) y (kx,ix,x)=true:=fun y hy=>hPw.2.2 y hy _ List.mem_cons_self
   have hxp:∀y∈post,Av ops (J6 ops.toList []) (kx,ix,x) y=true:=(List.pairwise_cons.1 hPw.2.1).1
   have hkind:∀y∈pre,XK y.1 kx y.2.2 x=true:=fun y hy=>by
    have h1:=hpx y hy
    simp only[Av,Bool.and_eq_true,Bool.or_eq_true]at h1
    rcases h1.2.2 with h2|h2
    ·have hbf:=J7 (ops:=ops) ops.toList [] (by simp) (fun j i hh=>by simp at hh) _ _ h2
     have:=j9 (hbf (fun m=>listed.getD m false=true) hg.cl r3)
     rw[hg.un y (List.mem_append_left _ hy)]at this;cases this
    ·exact h2
   have hne:∀y∈pre++post,y.2.1≠ix:=fun y hy=>by
    rcases List.mem_append.1 hy with hy|hy
    ·have:=hpx y hy
     simp only[Av,Bool.and_eq_true,bne_iff_ne]at this
     exact this.2.1
    ·have:=hxp y hy
     simp only[Av,Bool.and_eq_true,bne_iff_ne]at this
     exact fun e=>this.2.1 e.symm
   have hg':SM ops L0 (pre++post) (listed.setIfInBounds ix true):=by
    refine⟨by simp[hg.size],((List.sublist_cons_self _ post).append_left pre).trans hg.sub,fun y hy=>?_,fun k hk hno=>?_,fun m' hm' d hd=>?_⟩
    ·rw[zJ (hne y hy)]
     refine hg.un y ?_
     rcases List.mem_append.1 hy with hy|hy
     ·exact List.mem_append_left _ hy
     ·exact List.mem_append_right _ (List.mem_cons_of_mem _ hy)
    ·by_cases e:k=ix
     ·subst e;exact pj (by rw[hg.size];exact hk)
     ·refine w8 (hg.li k hk fun y hy=>?_)
      rcases List.mem_append.1 hy with hy|hy
      ·exact hno y (List.mem_append_left _ hy)
      ·rcases List.mem_cons.1 hy with rfl|hy
       ·exact fun e'=>e e'.symm
       ·exact hno y (List.mem_append_right _ hy)
    ·refine w8 ?_
     by_cases e:m'=ix
     ·subst e;exact r3 d hd
     ·rw[zJ e]at hm';exact hg.cl m' hm' d hd
   have hlen:(pre++post).length=m:=by simp at hL⊢;omega
   have hxo:gh P n ops ops[ix] x=true:=by
    simp only[FK,Bool.and_eq_true]at hxi
    have h1:=hxi.1
    rw[Array.getElem?_eq_getElem r1]at h1
    have h1:(gh P n ops ops[ix] x&&_)=true:=h1
    rw[Bool.and_eq_true]at h1
    exact h1.1
   by_cases hk3:3≤kx
   ·obtain rfl:pre=[]:=by
     cases pre with
     |nil=>rfl
     |cons y pre=>
      have h1:=hkind y List.mem_cons_self
      obtain⟨ky,iy,yo⟩:=y
      obtain⟨k,rfl⟩:∃k,kx=k+3:=⟨kx -3,by omega⟩
      match ky with
      |0=>cases h1
      |1=>cases h1
      |_+2=>cases h1
    have hb:bE P T ((kx,ix,x)::post) K σ:=hb
    unfold bE at hb
    rw[if_pos hk3]at hb
    obtain⟨τ,t1,t2⟩:=hb
    refine oc (o:=ops[ix]) (by simp[r1]) (fM (h.eqv t1.symm) hxo t2 fun G' σ' a' w' k1 k2 k3=>?_)
    exact ih ([]++post) hlen _ σ' hg' (fun i c hc=>nN k3.1 i c hc) (Ev _ _ k3.2) G' a' w' k1 (hp.trans k2)
   by_cases hk:2≤kx
   ·have hap:∀y∈pre,y.1=1∧apB y.2.2 x=true:=fun y hy=>by
     have h1:=hkind y hy
     obtain⟨ky,iy,yo⟩:=y
     obtain rfl:kx=2:=by omega
     match ky with
     |0=>cases h1
     |1=>exact⟨rfl,h1⟩
     |_+2=>cases h1
    obtain⟨p1,p2,p3⟩:=X0 hk hk3 pre post σ hap hb
    have hbb:U0 P x σ (fun τ=>yp T τ∧bE P T (pre++post) K τ):=by
     unfold U0
     rw[p2]
     exact⟨p1,zy (fun av s hv hh=>⟨hN.behind hv,hh⟩) p3⟩
    have hK':∀τ τ',kG τ τ'→(yp T τ∧bE P T (pre++post) K τ)→yp T τ'∧bE P T (pre++post) K τ':=fun τ τ' e hh=>⟨fun i c hc=>by rw[←e.e i];exact hh.1 i c hc,Ep _ e hh.2⟩
    refine oc (o:=ops[ix]) (by simp[r1]) (fM h hxo (Vk hK' hbb) fun G' σ' a' w' k1 k2 k3=>?_)
    exact ih (pre++post) hlen _ σ' hg' k3.1 k3.2 G' a' w' k1 (hp.trans k2)
   ·have hap:∀y∈pre,¬2≤y.1∧WX y.2.2 x=true∧VF T y.2.2:=fun y hy=>by
     have h1:=hkind y hy
     have hyT:=fun hh=>QS (hI y (hg.sub.subset (List.mem_append_left _ hy))) hh
     obtain⟨ky,iy,yo⟩:=y
     match ky,kx,hk with
     |0,0,_=>exact⟨fun hh=>absurd hh (by simp),h1,hyT (by simp)⟩
     |0,1,_=>exact⟨fun hh=>absurd hh (by simp),h1,hyT (by simp)⟩
     |1,0,_=>exact⟨fun hh=>absurd hh (by simp),h1,hyT (by simp)⟩
     |1,1,_=>exact⟨fun hh=>absurd hh (by simp),h1,hyT (by simp)⟩
     |k+2,0,_=>cases h1
     |k+2,1,_=>cases h1
     |_,k+2,hk=>exact(hk (by omega)).elim
    obtain⟨v,p1,p2,p3,p4⟩:=XZ hk (QS hxi hk) pre post σ hN hap hb
    refine oc (o:=ops[ix]) (by simp[r1]) (Y2.run h hxo p1 fun G' a' w' k1 k2=>?_)
    exact ih (pre++post) hlen _ (bA σ x v) hg' (rK hN p2) p4 G' a' w' k1 (hp.trans k2)
theorem YH(hm:P.follows .mixedOrders=true):WR P n:=by
 intro D id ops T l G σ a w K Q hc h hno hw hn
 simp only[YD,Bool.and_eq_true,beq_iff_eq]at hc
 obtain⟨⟨h1,h2⟩,h3,h4⟩:=hc
 refine wp_region_any hm ?_
 have hg:SM ops l l (Array.replicate ops.size false):=by
  refine⟨by simp,List.Sublist.refl l,fun x hx=>?_,fun k hk hno=>?_,fun m hm i hi=>?_⟩
  ·have hlt:x.2.1<ops.size:=by
    have:=List.all_eq_true.1 h3 x hx
    simp only[FK,Bool.and_eq_true]at this
    cases ho:ops[x.2.1]? with
    |none=>rw[ho]at this;simp at this
    |some o=>exact(Array.getElem?_eq_some_iff.1 ho).1
   simp[hlt]
  ·obtain⟨x,hx,e⟩:=List.any_eq_true.1 (List.all_eq_true.1 h2 k (List.mem_range.2 hk))
   exact absurd (beq_iff_eq.1 e) (hno x hx)
  ·rcases Nat.lt_or_ge m ops.size with hlt|hge
   ·simp[hlt]at hm
   ·simp[Array.getElem?_eq_none (show(Array.replicate ops.size false).size≤m by simpa using hge)]at hm
 have:=adQ (T:=T) (P:=P) (n:=n) (K:=K) (Q:=Q) G w (fun x hx=>List.all_eq_true.1 h3 x hx) (Kd h4) hn l.length l rfl _ σ hg (fun i c hc=>nN hno i c hc) (Ev l σ hw) G a {w with drawn:=w.drawn+1} h.drew (ax.drew G w)
 rwa[h1]at this
theorem A2:∀(p s:List Bool),Cn p s=p.reverse++s
 |[],s=>rfl
 |x::p,s=>by unfold Cn;rw[A2 p];simp
theorem OC{done:List Bool}{F:ah→List Bool→Prop}:∀{rows:List (List Bool)}{pre xs:List Bool}{r:List ah}{j:Nat}{row:List Bool}{o:ah},Qo done rows pre xs r F→rows[j]? =some row→r[j]? =some o→xs[j]? =some false→A0 row done=true→F o (Cn pre (xs.set j true))
 |row::rows,pre,x::xs,o::r,0,row',o',h,h1,h2,h3,h4=>by
  injection h1 with h1;injection h2 with h2;injection h3 with h3
  subst h1;subst h2;subst h3
  have:=h.1
  rw[h4]at this
  exact this
 |row::rows,pre,x::xs,o::r,j+1,row',o',h,h1,h2,h3,h4=>by
  have:=OC (j:=j) h.2 (by simpa using h1) (by simpa using h2) (by simpa using h3) h4
  rw[A2]at this⊢
  simpa using this
 |[],_,_,_,_,_,_,_,h1,_,_,_=>by simp at h1
 |_::_,_,[],_,_,_,_,_,_,_,h3,_=>by simp at h3
 |_::_,_,_::_,[],_,_,_,_,_,h2,_,_=>by simp at h2
theorem Rk:∀{row done:List Bool},(∀i,row.getD i false=true→done.getD i false=true)→A0 row done=true
 |[],_,_=>rfl
 |_::_,[],_=>rfl
 |d::row,x::done,h=>by
  have h0:=h 0
  have ht:=Rk (row:=row) (done:=done) fun i hi=>by have:=h (i+1);simp only[List.getD_cons_succ]at this;exact this hi
  unfold A0
  rw[ht,Bool.and_true]
  cases d with
  |false=>rfl
  |true=>simpa using h0
structure abW(ops:Array Oper)(done:List Bool)(listed:Array Bool):Prop where
 size:listed.size=ops.size
 len:done.length=ops.size
 eq:∀j,done.getD j false=listed.getD j false
theorem count_set:∀{l:List Bool}{j:Nat},l[j]? =some false→(l.set j true).count false+1=l.count false
 |x::l,0,h=>by injection h with h;subst h;simp
 |x::l,j+1,h=>by
  have:=count_set (l:=l) (j:=j) (by simpa using h)
  cases x<;>simp<;>omega
 |[],_,h=>by simp at h
theorem Yd{K:St→Prop}{Q:Exit→Act→World→Prop}{deps:List (List Bool)}{iops:List ah}(G₀:Gh)(w₀:World)(hI:bN P n ops ops.toList iops=true)(hX:Qy ops deps=true)
 (hn:∀G' σ' a' w',Inv G' n D σ' a' w'→ax G₀ w₀ G' w'→K σ'→Q .normal a' w'):
 ∀(f:List ah)(done:List Bool)(listed:Array Bool)(σ:St),abW ops done listed→done.count false=f.length→SF P deps iops K f done σ→∀(G:Gh)(a:Act)(w:World),Inv G n D σ a w→ax G₀ w₀ G w→wpAny P .any ops Q f.length listed a w
 |[],done,listed,σ,hg,hc,hw,G,a,w,h,hp=>by
  refine⟨List.eq_nil_iff_forall_not_mem.2 fun j hj=>?_,hn G σ a w h hp hw⟩
  obtain⟨r1,r2,r3⟩:=jt hj
  have h2:listed.getD j false=false:=by
   have hlt:j<listed.size:=by rw[hg.size];exact r1
   simp only[Array.getD_eq_getD_getElem?,Array.getElem?_eq_getElem hlt,Option.getD_some]at r2⊢
   exact r2
  rw[←hg.eq j]at h2
  have hlt:j<done.length:=by rw[hg.len];exact r1
  have hmem:false∈done:=by
   rw[List.getD_eq_getElem?_getD,List.getElem?_eq_getElem hlt,Option.getD_some]at h2
   rw[←h2];exact List.getElem_mem hlt
  exact absurd hc (by have:=List.count_pos_iff.2 hmem;simp;omega)
 |o0::f,done,listed,σ,hg,hc,hw,G,a,w,h,hp=>by
  have hX':=hX
  simp only[Qy,Bool.and_eq_true,beq_iff_eq]at hX'
  obtain⟨hl,hall⟩:=hX'
  refine⟨fun h0=>?_,fun i hi=>?_⟩
  ·exfalso
   have hex:∃j,j<ops.size∧listed.getD j false=false:=by
    apply Classical.byContradiction
    intro hno
    have:done.count false=0:=List.count_eq_zero.2 fun hm=>by
     obtain⟨j,hj,e⟩:=List.getElem_of_mem hm
     refine hno ⟨j,by rw[←hg.len];exact hj,?_⟩
     rw[←hg.eq,List.getD_eq_getElem?_getD,List.getElem?_eq_getElem hj,Option.getD_some,e]
    rw[this]at hc;simp at hc
   obtain⟨j,hj⟩:=hex
   induction j using Nat.strongRecOn with
   |_ j ih=>
    by_cases hk:∃k,k<j∧k<ops.size∧listed.getD k false=false
    ·obtain⟨k,k1,k2⟩:=hk
     exact ih k k1 k2
    ·have hj2:=List.all_eq_true.1 hall j (List.mem_range.2 hj.1)
     simp only[Bool.and_eq_true]at hj2
     have h3:=hj2.2
     rw[Array.getElem?_eq_getElem hj.1]at h3
     have hmem:j∈Region.ready .any ops listed:=by
      refine mem_ready.2 ⟨?_,ops[j],Array.getElem?_eq_getElem hj.1,fun e he hb=>?_⟩
      ·have hlt:j<listed.size:=by rw[hg.size];exact hj.1
       have:=hj.2
       simp only[Array.getD_eq_getD_getElem?,Array.getElem?_eq_getElem hlt,Option.getD_some]at this⊢
       exact this
      ·have h4:=Array.all_eq_true_iff_forall_mem.1 h3 e he
       rw[hb]at h4
       simp only[Bool.not_true,Bool.false_or,decide_eq_true_eq]at h4
       apply Classical.byContradiction
       intro hno
       exact hk ⟨e.on,h4,by omega,by simpa using hno⟩
     rw[h0]at hmem
     cases hmem
  ·obtain⟨r1,r2,r3⟩:=jt hi
   have hlt:i<listed.size:=by rw[hg.size];exact r1
   have hlt2:i<done.length:=by rw[hg.len];exact r1
   have r2':listed.getD i false=false:=by
    simp only[Array.getD_eq_getD_getElem?,Array.getElem?_eq_getElem hlt,Option.getD_some]at r2⊢
    exact r2
   have hd:done[i]? =some false:=by
    rw[←hg.eq i,List.getD_eq_getElem?_getD,List.getElem?_eq_getElem hlt2,Option.getD_some]at r2'
    rw[List.getElem?_eq_getElem hlt2,r2']
   obtain⟨hlen,hget⟩:=fh _ _ hI
   have hli:i<iops.length:=by rw[←hlen];simpa using r1
   have hio:iops[i]? =some iops[i]:=List.getElem?_eq_getElem hli
   have hco:gh P n ops ops[i] iops[i]=true:=hget i ops[i] iops[i] (by simp[r1]) hio
   have hj2:=List.all_eq_true.1 hall i (List.mem_range.2 r1)
   simp only[Bool.and_eq_true,beq_iff_eq]at hj2
   have hrow:deps[i]? =some (deps.getD i []):=by
    have:i<deps.length:=by rw[hl];exact r1
    rw[List.getD_eq_getElem?_getD,List.getElem?_eq_getElem this,Option.getD_some]
   have hrd:A0 (deps.getD i []) done=true:=Rk fun k hk=>by
    have hkl:k<ops.size:=by
     rw[←hj2.1.1]
     apply Classical.byContradiction
     intro hno
     rw[List.getD_eq_getElem?_getD,List.getElem?_eq_none (by omega)]at hk
     cases hk
    have:=List.all_eq_true.1 hj2.1.2 k (List.mem_range.2 hkl)
    rw[hk]at this
    rw[hg.eq]
    exact r3 k (by simpa using this)
   have hx:=OC (F:=fun o d=>OD P o σ (fun τ=>SF P deps iops K f d τ)) hw hrow hio hd hrd
   refine oc (o:=ops[i]) (by simp[r1]) (fM h hco hx fun G' σ' a' w' k1 k2 k3=>?_)
   refine Yd G₀ w₀ hI hX hn f _ _ σ' ⟨by simp[hg.size],by rw[A2];simp[hg.len],fun k=>?_⟩ ?_ k3 G' a' w' k1 (hp.trans k2)
   ·rw[A2]
    show(([]:List Bool).reverse++done.set i true).getD k false=_
    rw[List.reverse_nil,List.nil_append]
    by_cases e:k=i
    ·subst e
     rw[pj hlt,List.getD_eq_getElem?_getD,List.getElem?_set_self hlt2];rfl
    ·rw[zJ e,←hg.eq,List.getD_eq_getElem?_getD,List.getD_eq_getElem?_getD,List.getElem?_set_ne (Ne.symm e)]
   ·rw[A2]
    show(([]:List Bool).reverse++done.set i true).count false=_
    rw[List.reverse_nil,List.nil_append]
    have:=count_set hd
    rw[hc]at this
    simp at this
    omega
theorem YK(hm:P.follows .mixedOrders=true):WU P n:=by
 intro D id ops deps iops G σ a w K Q hc hx h hw hn
 refine wp_region_any hm ?_
 have hlen:iops.length=ops.size:=by have:=(fh _ _ hc).1;simpa using this.symm
 have hf:∀l:List ah,vU l=List.replicate l.length false:=by
  intro l
  induction l with
  |nil=>rfl
  |cons o r ih=>show false::vU r=_;rw[ih];rfl
 have:=Yd (P:=P) (n:=n) (K:=K) (Q:=Q) G w hc hx hn iops (vU iops) (Array.replicate ops.size false) σ ⟨by simp,by rw[hf];simp[hlen],fun j=>by
  rw[hf,hlen]
  rcases Nat.lt_or_ge j ops.size with hj|hj
  ·simp[hj]
  ·simp[Nat.not_lt.2 hj]⟩ (by rw[hf];simp) hw G a {w with drawn:=w.drawn+1} h.drew (ax.drew G w)
 rwa[hlen]at this
theorem af(hm:P.follows .mixedOrders=true):Ef P n:=⟨YI hm,YJ hm,YH hm,YK hm⟩
end
end Go.AB
end
section
namespace Go.AB
open Go Go.RowKit
def wz:ab:=fun _=>none
section
variable{P:Program}{w w':World}
end
end Go.AB
end
section
namespace Go.AB
open Go
theorem rM(a b:List AV):views (a++b)=views a++views b:=by simp[views]
theorem yl:∀l:List (List AV),(∀x∈l,views x=x)→views l.flatten=l.flatten
 |[],_=>rfl
 |a::l,h=>by rw[List.flatten_cons,rM,h a List.mem_cons_self,yl l fun x hx=>h x (List.mem_cons_of_mem _ hx)]
class aH(α:Type)where
 w:Nat
 cells:α→List AV
 zero:α
 pos:0<w
 len:∀x,(cells x).length=w
 vw:∀x,views (cells x)=cells x
structure aA where
 b:List UInt8
 deriving DecidableEq,Inhabited
section
variable{α:Type}[aH α]
def flat(l:List α):List AV:=(l.map aH.cells).flatten
def ix(l:List α)(i:Int):α:=l.getD i.toNat aH.zero
theorem ao:∀l:List α,(flat l).length=l.length*aH.w α
 |[]=>by simp[flat]
 |a::l=>by
  have:=ao l
  simp only[flat,List.map_cons,List.flatten_cons,List.length_append,aH.len]at this⊢
  rw[this,List.length_cons,Nat.add_mul,Nat.one_mul,Nat.add_comm]
@[go_sem]theorem pS:flat ([]:List α)=[]:=rfl
@[go_sem]theorem k9(a:α)(l:List α):flat (a::l)=aH.cells a++flat l:=rfl
@[go_sem]theorem bO(a b:List α):flat (a++b)=flat a++flat b:=by simp[flat]
@[go_sem]theorem aD(l:List α):views (flat l)=flat l:=yl _ fun x hx=>by
  obtain⟨y,_,rfl⟩:=List.mem_map.1 hx
  exact aH.vw y
theorem Bj(l:List α):∀k,(flat l).drop (k*aH.w α)=flat (l.drop k):=by
 induction l with
 |nil=>intro k;simp[flat]
 |cons a l ih=>intro k;cases k with
  |zero=>simp
  |succ k=>
   rw[k9,List.drop_succ_cons,←ih k,Nat.succ_mul,Nat.add_comm,←List.drop_drop]
   congr 1
   rw[←aH.len a,List.drop_left]
theorem wq(l:List α):∀k,(flat l).take (k*aH.w α)=flat (l.take k):=by
 induction l with
 |nil=>intro k;simp[flat]
 |cons a l ih=>intro k;cases k with
  |zero=>simp[pS]
  |succ k=>
   rw[k9,List.take_succ_cons,k9,←ih k,Nat.succ_mul,Nat.add_comm,List.take_append]
   rw[aH.len a,List.take_of_length_le (by rw[aH.len];omega)]
   congr 2
   omega
theorem j6(l:List α)(n lo m:Nat)(hn:n=aH.w α):AB.sub (flat l) (lo*n) (m*n)=flat ((l.drop lo).take m):=by
 subst hn
 unfold AB.sub
 rw[Bj,wq]
theorem pT(z:List AV)(n:Nat)(l:List α)(i:Int)(hz:z=aH.cells (aH.zero:α))(hn:n=aH.w α):pad z (views (AB.sub (flat l) (i.toNat*n) n))=aH.cells (ix l i):=by
 subst hn
 have h1:AB.sub (flat l) (i.toNat*aH.w α) (aH.w α)=flat ((l.drop i.toNat).take 1):=by
  have:=j6 l (aH.w α) i.toNat 1 rfl
  rwa[Nat.one_mul]at this
 rw[h1,aD]
 unfold pad ix
 rcases Nat.lt_or_ge i.toNat l.length with hlt|hge
 ·rw[List.drop_eq_getElem_cons hlt,List.take_succ_cons,List.take_zero,k9,pS,List.append_nil,hz,aH.len,aH.len,beq_self_eq_true]
  simp[List.getD,List.getElem?_eq_getElem hlt]
 ·rw[List.drop_eq_nil_of_le hge,List.take_nil,pS,hz,aH.len]
  have:(([]:List AV).length==aH.w α)=false:=by
   have:=aH.pos (α:=α)
   simp;omega
  rw[this]
  simp[List.getD,List.getElem?_eq_none hge]
def part(l:List α)(lo hi:Int):List α:=(l.drop lo.toNat).take (hi -lo).toNat
theorem wo(n:Nat)(l:List α)(lo hi:Int)(hn:n=aH.w α):AB.sub (flat l) (lo.toNat*n) ((hi -lo).toNat*n)=flat (part l lo hi):=j6 l n _ _ hn
theorem Tz(n:Nat)(l:List α)(hn:n=aH.w α):(flat l).length/n=l.length:=by
 subst hn
 rw[ao];exact Nat.mul_div_cancel _ aH.pos
end
instance:aH Bool:=⟨1,fun b=>[.bool b],false,Nat.one_pos,fun _=>rfl,fun _=>rfl⟩
instance:aH Int:=⟨1,fun n=>[.int .i64 n],0,Nat.one_pos,fun _=>rfl,fun _=>rfl⟩
instance:aH UInt8:=⟨1,fun n=>[.int .u8 n.toNat],0,Nat.one_pos,fun _=>rfl,fun _=>rfl⟩
instance:aH UInt32:=⟨1,fun n=>[.int .u32 n.toNat],0,Nat.one_pos,fun _=>rfl,fun _=>rfl⟩
instance:aH UInt64:=⟨1,fun n=>[.int .u64 n.toNat],0,Nat.one_pos,fun _=>rfl,fun _=>rfl⟩
instance:aH aA:=⟨1,fun s=>[.str s.b],⟨[]⟩,Nat.one_pos,fun _=>rfl,fun _=>rfl⟩
instance{α:Type}[aH α]:aH (List α):=⟨1,fun l=>[.sl false (aH.w α) l.length (flat l)],[],Nat.one_pos,fun _=>rfl,fun _=>rfl⟩
@[go_sem]theorem aaz(x:Int):aH.cells x=[.int .i64 x]:=rfl
@[go_sem]theorem acd(x:UInt8):aH.cells x=[.int .u8 x.toNat]:=rfl
@[go_sem]theorem aaA(x:aA):aH.cells x=[.str x.b]:=rfl
@[go_sem]theorem agF:aH.w UInt8=1:=rfl
@[go_sem]theorem V7(l:List Int)(i:Int):pad [.int .i64 0] (views (AB.sub (flat l) (i.toNat*1) 1))=[.int .i64 (ix l i)]:=pT _ 1 l i rfl rfl
@[go_sem]theorem afK(l:List UInt8)(i:Int):pad [.int .u8 0] (views (AB.sub (flat l) (i.toNat*1) 1))=[.int .u8 (ix l i).toNat]:=pT _ 1 l i rfl rfl
@[go_sem]theorem aeJ(l:List aA)(i:Int):pad [.str []] (views (AB.sub (flat l) (i.toNat*1) 1))=[.str (ix l i).b]:=pT _ 1 l i rfl rfl
end Go.AB
end
section
namespace Go.AB
open Go
def ok{α:Type}(o:Option α)(K:α→Prop):Prop:=∃a,o=some a∧K a
def aK{α:Type}(c:Prop)[Decidable c](o:Option α):Option α:=if c then o else none
def fY{α:Type}(g:Bool)(z:α)(o:Option α):Option α:=bif g then o else some z
def aP{α β:Type}(o:Option α)(f:α→Option β):Option β:=match o with
 |some a=>f a
 |none=>none
def cL{S O:Type}(body:S→Option (S⊕O)):Nat→S→Option O
 |0,_=>none
 |n+1,s=>match body s with
  |none=>none
  |some (.inl t)=>cL body n t
  |some (.inr o)=>some o
def iter{S O:Type}(body:S→Option (S⊕O))(s:S):Option O:=cL body 18446744073709551616 s
def pM{A B C:Type}(f:A→C)(g:B→C):A⊕B→C
 |.inl a=>f a
 |.inr b=>g b
section
variable{α β:Type}(K:α→Prop)
@[go_sem]theorem az(a:α):ok (some a) K=K a:=by simp[ok]
@[go_sem]theorem ok_none:ok none K=False:=by simp[ok]
@[go_sem]theorem df(c:Prop)[Decidable c](o:Option α):ok (aK c o) K=(c∧ok o K):=by
  unfold aK
  by_cases h:c<;>simp[h,ok]
@[go_sem]theorem dm(o:Option β)(f:β→Option α):ok (aP o f) K=ok o (fun b=>ok (f b) K):=by cases o<;>simp[aP,ok]
@[go_sem]theorem F0(c:Bool)(a b:Option α):ok (if c=true then a else b) K=((c=true→ok a K)∧(c=false→ok b K)):=by cases c<;>simp
theorem V0(g:Bool)(z:α)(o:Option α):ok (fY g z o) K=∃a,(g=true→o=some a)∧(g=false→a=z)∧K a:=by cases g<;>simp[fY,ok]
@[go_sem]theorem gb{A B C:Type}(f:A→C)(g:B→C)(a:A):pM f g (.inl a)=f a:=rfl
@[go_sem]theorem lC{A B C:Type}(f:A→C)(g:B→C)(b:B):pM f g (.inr b)=g b:=rfl
end
theorem bj{A B C D:Prop}(h:A→C)(k:B→D):A∧B→C∧D:=fun x=>⟨h x.1,k x.2⟩
theorem cJ{p A B:Prop}(h:A→B):(p→A)→p→B:=fun x y=>h (x y)
theorem cF{A:Prop}:A→A:=fun h=>h
variable{P:Program}
theorem ak{β:Type}{o:Option β}{kf:β→Prop}{f:FuncId}{as1:List AV}{s:ab}{enc:β→List AV}{Q:List AV→ab→Prop}
 (hf:∀r,o=some r→FE P f as1 s (enc r) s)(hk:∀r,kf r→Q (enc r) s):ok o kf→FN P f as1 s Q:=fun⟨r,h,k⟩=>FE.app (hf r h) (hk r k)
theorem bH{β:Type}{o:Option β}{kf:β→Prop}{f:FuncId}{as1:List AV}{s:ab}{enc:β→List AV}{Q:List AV→Prop}
 (hf:∀r,o=some r→FE P f as1 s (enc r) s)(hr:∀r,iO (enc r)=true)(hk:∀r,kf r→Q (enc r)):ok o kf→∃rs,iO rs=true∧FE P f as1 s rs s∧Q rs:=
 fun⟨r,h,k⟩=>⟨enc r,hr r,hf r h,hk r k⟩
theorem dg{β:Type}{g:Bool}{z:β}{o:Option β}{kf:β→Prop}{f:FuncId}{as1:Option (List AV)}{as2:List AV}{s:ab}{enc:β→List AV}{Q:List AV→Prop}
 (ha:as1=some as2)(hf:∀r,o=some r→FE P f as2 s (enc r) s)(hr:∀r,iO (enc r)=true)(hk:∀r,kf r→Q (enc r)):
 ok (fY g z o) kf→∃rs,iO rs=true∧(g=true→∃as2,as1=some as2∧FE P f as2 s rs s)∧Q rs:=fun h=>by
 rw[V0]at h
 obtain⟨r,h1,_,k⟩:=h
 exact⟨enc r,hr r,fun hg=>⟨as2,ha,hf r (h1 hg)⟩,hk r k⟩
def okj{α:Type}(o:Option α)(K:α→Prop):Prop:=ok o K
def jn{α β:Type}(o:Option α)(f:α→Option β):Option β:=aP o f
@[go_sem]theorem agn{α β:Type}(K:α→Prop)(o:Option β)(f:β→Option α):ok (jn o f) K=okj o (fun b=>ok (f b) K):=dm ..
theorem cH{X:Type}{M:Option X}{kf:X→Prop}{live:List (Nat×Bool)}{a b:IC}{Q:Exit→St→Prop}{σ:St}(enc:X→St)
 (ha:∀J:St→Prop,ok M (fun x=>J (enc x))→gK P a (xI live J Q) σ)(hb:∀x,kf x→gK P b Q (enc x)):okj M kf→gK P (.join live a b) Q σ:=fun⟨x,h,k⟩=>
 ⟨fun τ=>∃x,τ=enc x∧kf x,ha _ ⟨x,h,x,rfl,k⟩,fun _⟨x,e,k⟩=>e▸hb x k⟩
theorem yV{S O:Type}{body:S→Option (S⊕O)}{s:S}{K:O→Prop}:¬ok (cL body 0 s) K:=fun⟨_,h,_⟩=>by cases h
theorem yU{S O:Type}{body:S→Option (S⊕O)}{n:Nat}{s:S}{K:O→Prop}(h:ok (cL body (n+1) s) K):ok (body s) (pM (fun t=>ok (cL body n t) K) K):=by
 obtain⟨o,h,k⟩:=h
 unfold cL at h
 cases hb:body s with
 |none=>rw[hb]at h;cases h
 |some x=>
  rw[hb]at h
  cases x with
  |inl t=>exact⟨_,rfl,⟨o,h,k⟩⟩
  |inr o'=>cases h;exact⟨_,rfl,k⟩
theorem FV{live:List (Nat×Bool)}{I:St→Prop}{μ:St→Nat}{m:Nat}{Q:Exit→St→Prop}:J4 live I μ m Q=xI live (fun ρ=>I ρ∧μ ρ<m) Q:=by funext x ρ;cases x<;>rfl
theorem bf{S O:Type}{body:S→Option (S⊕O)}{s0:S}{kf:O→Prop}{live:List (Nat×Bool)}{b:IC}{Q:Exit→St→Prop}{σ:St}(enc:S→St)
 (h0:σ.dN live=enc s0)
 (hb:∀(J:St→Prop)(s:S),ok (body s) (pM (fun t=>J (enc t)) kf)→gK P b (xI live J Q) (enc s)):ok (iter body s0) kf→gK P (.loop live b) Q σ:=by
 intro h
 have hmin:∀τ,(∃m s,τ=enc s∧ok (cL body m s) kf)→∃m,(∃s,τ=enc s∧ok (cL body m s) kf)∧∀k,k<m→¬∃s,τ=enc s∧ok (cL body k s) kf:=by
  rintro τ ⟨m,s,h⟩
  induction m using Nat.strongRecOn generalizing s with
  |_ m ih=>
   by_cases hk:∃k,k<m∧∃s,τ=enc s∧ok (cL body k s) kf
   ·obtain⟨k,hk,s',h'⟩:=hk
    exact ih k hk s' h'
   ·exact⟨m,⟨s,h⟩,fun k hk' hs=>hk ⟨k,hk',hs⟩⟩
 have hμ:∃μ:St→Nat,∀τ,(∃m s,τ=enc s∧ok (cL body m s) kf)→(∃s,τ=enc s∧ok (cL body (μ τ) s) kf)∧∀k,k<μ τ→¬∃s,τ=enc s∧ok (cL body k s) kf:=by exact⟨fun τ=>Classical.epsilon fun m=>(∃s,τ=enc s∧ok (cL body m s) kf)∧∀k,k<m→¬∃s,τ=enc s∧ok (cL body k s) kf,fun τ hτ=>Classical.epsilon_spec (hmin τ hτ)⟩
 obtain⟨μ,hμ⟩:=hμ
 refine⟨fun τ=>∃m s,τ=enc s∧ok (cL body m s) kf,μ,?_,?_⟩
 ·exact⟨_,s0,h0,h⟩
 ·intro τ hτ
  obtain⟨⟨s,e,hs⟩,_⟩:=hμ τ hτ
  generalize hm:μ τ=m at hs
  cases m with
  |zero=>exact(yV hs).elim
  |succ m=>
   subst e
   rw[FV]
   obtain⟨x,hx,k⟩:=yU hs
   refine hb _ s ⟨x,hx,?_⟩
   cases x with
   |inr o=>exact k
   |inl t=>
    refine⟨⟨m,t,rfl,k⟩,?_⟩
    have h2:=(hμ (enc t) ⟨m,t,rfl,k⟩).2
    rcases Nat.lt_or_ge m (μ (enc t))with hlt|hge
    ·exact(h2 m hlt ⟨t,rfl,k⟩).elim
    ·omega
def mO{X Y α:Type}(M:Option (X⊕Y))(F:X→Option α)(G:Y→Option α):Option α:=match M with
 |some (.inl x)=>F x
 |some (.inr y)=>G y
 |none=>none
@[go_sem]theorem VZ{X Y α:Type}(M:Option (X⊕Y))(F:X→Option α)(G:Y→Option α)(K:α→Prop):ok (mO M F G) K=ok M (pM (fun x=>ok (F x) K) (fun y=>ok (G y) K)):=by
  cases M with
  |none=>simp[mO,ok]
  |some x=>cases x<;>simp[mO,ok,pM]
def Hg{X Y α:Type}(M:Option (X⊕Y))(F:X→Option α)(G:Y→Option α):Option α:=mO M F G
@[go_sem]theorem afH{X Y α:Type}(M:Option (X⊕Y))(F:X→Option α)(G:Y→Option α)(K:α→Prop):ok (Hg M F G) K=okj M (pM (fun x=>ok (F x) K) (fun y=>ok (G y) K)):=VZ ..
theorem dY{X Y:Type}{M:Option (X⊕Y)}{kf:X→Prop}{kr:Y→Prop}{live:List (Nat×Bool)}{a b:IC}{Q:Exit→St→Prop}{σ:St}(enc:X→St)
 (ha:∀J:St→Prop,ok M (pM (fun x=>J (enc x)) kr)→gK P a (xI live J Q) σ)(hb:∀x,kf x→gK P b Q (enc x)):okj M (pM kf kr)→gK P (.join live a b) Q σ:=fun⟨x,h,k⟩=>by
 refine⟨fun τ=>∃x,τ=enc x∧kf x,ha _ ⟨x,h,?_⟩,fun _⟨x,e,k⟩=>e▸hb x k⟩
 cases x with
 |inl x=>exact⟨x,rfl,k⟩
 |inr y=>exact k
@[go_sem]theorem Rt(c:UInt8):byteOf (.int .u8 c.toNat)=some c:=by
  unfold byteOf
  have:=c.toNat_lt
  simp only[Int.natCast_nonneg,true_and,Int.toNat_natCast]
  rw[if_pos (by omega)]
  simp
@[go_sem]theorem KD:∀l:List UInt8,bytesOf (flat l)=some l
  |[]=>rfl
  |c::l=>by
   rw[k9]
   show Tg (byteOf (.int .u8 c.toNat)) (bytesOf (flat l))=_
   rw[Rt,KD l];rfl
@[go_sem]theorem ac2(l:List UInt8):(l.map fun c=>AV.int .u8 c.toNat)=flat l:=by
  induction l with
  |nil=>rfl
  |cons a l ih=>rw[List.map_cons,ih];rfl
def bz(n:Int):Int:=IntKind.i64.wrap n
def lA(n:Int):UInt32:=UInt32.ofNat (IntKind.u32.wrap n).toNat
def af0(n:Int):UInt64:=UInt64.ofNat (IntKind.u64.wrap n).toNat
@[go_sem]theorem aef(n:Int):mg .i64 n=bz n:=rfl
theorem Ys(k:IntKind)(n:Int)(hk:k.signed=false):k.wrap n=n % (2^k.bits:Int):=by
 unfold IntKind.wrap
 simp[hk]
@[go_sem]theorem wrap_u32(n:Int):mg .u32 n=(lA n).toNat:=by
  show IntKind.u32.wrap n=((UInt32.ofNat (IntKind.u32.wrap n).toNat).toNat:Int)
  rw[Ys _ _ rfl,UInt32.toNat_ofNat']
  have:(2^IntKind.u32.bits:Int)=4294967296:=by decide
  rw[this]
  omega
@[go_sem]theorem wrap_u64(n:Int):mg .u64 n=(af0 n).toNat:=by
  show IntKind.u64.wrap n=((UInt64.ofNat (IntKind.u64.wrap n).toNat).toNat:Int)
  rw[Ys _ _ rfl,UInt64.toNat_ofNat']
  have:(2^IntKind.u64.bits:Int)=18446744073709551616:=by decide
  rw[this]
  omega
def adU(k:IntKind)(a b:Int):Int:=a.fdiv (2^(min b.toNat k.bits))
def abZ(k:IntKind)(a b:Int):Int:=(BitVec.ofInt k.bits a&&&BitVec.ofInt k.bits b).toNat
@[go_sem]theorem ab6(k k':IntKind)(a b:Int):zu .shr k k' a b=.prt (0≤b) (.int k (adU k a b)):=rfl
@[go_sem]theorem ab5(k k':IntKind)(a b:Int):zu .and k k' a b=kk k k' (.cY (.int k (mg k (abZ k a b)))):=rfl
@[go_sem]theorem aep(l:List UInt8)(k:Int):l.getD k.toNat 0=ix l k:=rfl
@[go_sem]theorem aeK(l:List UInt8)(lo hi:Int):(l.drop lo.toNat).take (hi -lo).toNat=part l lo hi:=rfl
attribute[go_sem] List.length_append true_or or_true eq_self_iff_true imp_self Bool.cond_true_left Bool.cond_false_right and_self and_true
def mv(d x:Nat):ah:=⟨some d,.iR false (.t x),none⟩
def mt(d x:Nat):ah:=⟨some d,.iR true (.t x),none⟩
def c9(d x t:Nat)(w:Bool):ah:=⟨some d,.iR false (.t x),some (t,w)⟩
def mtg(d x t:Nat)(w:Bool):ah:=⟨some d,.iR true (.t x),some (t,w)⟩
def i1(d:Nat)(o:sT):ah:=⟨some d,o,none⟩
def cS(d t:Nat)(w:Bool)(o:sT):ah:=⟨some d,o,some (t,w)⟩
def i0(o:sT):ah:=⟨none,o,none⟩
def i0g(t:Nat)(w:Bool)(o:sT):ah:=⟨none,o,some (t,w)⟩
attribute[go_sem] mv mt c9 mtg i1 cS i0 i0g
@[go_sem]theorem adW(a:AV)(l:List AV)(off n:Nat):AB.sub (a::l) off n=((a::l).drop off).take n:=rfl
attribute[go_sem] wo Tz
@[go_sem]theorem Zq(σ:St)(b:Bool)(a:AV)(d:Option Nat):bB σ (.when b a) d=bB σ a d:=by rw[bB]
end Go.AB
end
section
namespace Go.AB
open Go
def jX(t s:ab):Prop:=∀b o,t b=some o→s b=some o
theorem jX.refl(s:ab):jX s s:=fun _ _ h=>h
theorem jX.trans{a b c:ab}(h:jX a b)(k:jX b c):jX a c:=fun x o hx=>k x o (h x o hx)
theorem jX.set{t s:ab}{b:Nat}{o:SO}(h:jX t s)(hb:t b=none):jX t (s.set b o):=fun c p hc=>by
 unfold ab.set
 by_cases hcb:c=b
 ·subst hcb;rw[hb]at hc;cases hc
 ·rw[if_neg hcb];exact h c p hc
theorem jX.mono{t s:ab}{b:Nat}{o:SO}(h:jX t s):jX (t.set b o) (s.set b o):=fun c p hc=>by
 unfold ab.set at hc⊢
 by_cases hcb:c=b
 ·rw[if_pos hcb]at hc⊢;exact hc
 ·rw[if_neg hcb]at hc⊢;exact h c p hc
variable{P:Program}
theorem FN.forget{f:FuncId}{args:List AV}{s:ab}{Q:List AV→ab→Prop}(h:FN P f args s fun rs t=>∃t',jX t' t∧Q rs t'):FN P f args s Q:=by
 intro G w vs h1 h2 h3 h4
 refine(h G w vs h1 h2 h3 h4).mono fun e w'⟨v,rs,s',G',a1,⟨t',ht,hq⟩,a3,a4,a5⟩=>⟨v,rs,t',G',a1,hq,a3,fun b o hb=>a4 b o (ht b o hb),a5⟩
theorem bd(s:ab)(b:Nat)(o:SO):(s.set b o) b=some o:=by simp[ab.set]
theorem ai{s:ab}{b c:Nat}{o:SO}(h:c≠b):(s.set b o) c=s c:=by simp[ab.set,h]
theorem set_set(s:ab)(b:Nat)(o p:SO):(s.set b o).set b p=s.set b p:=by funext c;unfold ab.set;by_cases h:c=b<;>simp[h]
theorem set_comm{a b:Nat}(h:a≠b){s:ab}{o p:SO}:(s.set b p).set a o=(s.set a o).set b p:=by
 funext c;unfold ab.set
 by_cases ha:c=a
 ·subst ha;simp[h]
 ·simp[ha]
theorem aad{s:ab}{b:Nat}{o:SO}(h:s b=some o):s=s.set b o:=by
 funext c;unfold ab.set
 by_cases hc:c=b
 ·subst hc;simp[h]
 ·simp[hc]
theorem du{s:ab}{b:Nat}{o:SO}(h:s b=some o):s.set b o=s:=(aad h).symm
theorem cM(s:ab)(b c:Nat)(o:SO):((s.set b o) c=none)=(c≠b∧s c=none):=by
 unfold ab.set
 by_cases hc:c=b<;>simp[hc]
attribute[go_sem] bd set_set
theorem cq{α:Type}{o:Option α}{K K':α→Prop}(h:ok o K)(hk:∀r,K r→K' r):ok o K':=h.imp fun r⟨h1,h2⟩=>⟨h1,hk r h2⟩
section
variable(Q:Exit→St→Prop)(σ τ:St)
@[go_sem]theorem aaD(b:IC):gK P (.scope b) Q σ=gK P b (zg Q) σ:=by
  have:(fun x τ=>match x with|.goto _=>False|x=>Q x τ)=zg Q:=by funext e τ;cases e<;>rfl
  show gK P b (fun x τ=>match x with|.goto _=>False|x=>Q x τ) σ=_
  rw[this]
@[go_sem]theorem aaa:zg Q .ret τ=Q .ret τ:=rfl
@[go_sem]theorem Yf(i:Nat):zg Q (.exit i) τ=Q (.exit i) τ:=rfl
end
def D1(sz len n:Nat)(x:IX):AV→PR
 |.lp d o=>.prt (n+1≤len) (.lp d (o+n*sz))
 |.sp cs=>bif decide (len*sz≤cs.length)then .prt (n+1≤len) (.sp (cs.drop (n*sz)))else .no
 |.ref b o=>.prt (n+1≤len) (.ref b (o+n*sz))
 |.loc _=>R1 (n+1≤len) (n*sz) x
 |_=>.no
attribute[go_sem] D1.eq_1 D1.eq_2 D1.eq_3 D1.eq_4
def aao{α:Type}(l:List α)(i:Int)(x:α):List α:=l.take i.toNat++[x]++l.drop (i.toNat+1)
theorem TB{α:Type}[aH α](l:List α)(i:Int)(x:α)(n:Nat)(hn:n=aH.w α):setAt (flat l) (i.toNat*n) (aH.cells x)=flat (aao l i x):=by
 subst hn
 unfold setAt aao
 rw[bO,bO,k9,pS,List.append_nil,wq,aH.len]
 congr 1
 rw[show i.toNat*aH.w α+aH.w α=(i.toNat+1)*aH.w α from by rw[Nat.add_mul,Nat.one_mul],Bj]
@[go_sem]theorem afj(l:List Int)(i x:Int):setAt (flat l) (i.toNat*1) [.int .i64 x]=flat (aao l i x):=TB l i x 1 rfl
@[go_sem]theorem aac(a:AV)(l:List AV)(off:Nat)(news:List AV):setAt (a::l) off news=(a::l).take off++news++(a::l).drop (off+news.length):=rfl
@[go_sem]theorem adf(z:List AV)(a:AV)(l:List AV):pad z (a::l)=bif(a::l).length==z.length then a::l else z:=rfl
@[go_sem]theorem Oc{α:Type}[aH α](n:Nat)(z:α):(List.replicate n (aH.cells z)).flatten=flat (List.replicate n z):=by simp[flat]
section
variable{d d':Option Nat}{K:St→Prop}{σ:St}{b off:Nat}{news dQ:List AV}
@[go_sem]theorem ae9:OG d K (WO σ b (dG off news dQ))=(off+news.length≤dQ.length∧K (({σ with s:=σ.s.set b (.cells (setAt dQ off news))}:St).put d (.fE []))):=by
  unfold dG
  by_cases h:off+news.length≤dQ.length
  ·simp[h,WO,OG]
  ·simp[h,WO,OG]
@[go_sem]theorem ae8{i:Nat}:OG d K (WN σ i (dG off news dQ))=(off+news.length≤dQ.length∧K ((σ.put (some i) (.loc (setAt dQ off news))).put d (.fE []))):=by
  unfold dG
  by_cases h:off+news.length≤dQ.length
  ·simp[h,WN,OG]
  ·simp[h,WN,OG]
end
@[go_sem]theorem XO(n:Nat):(((no_index (OfNat.ofNat n)):Nat):Int)=OfNat.ofNat n:=rfl
def jI{κ ν:Type}[BEq κ](m:List (κ×ν))(k:κ):Option ν:=match m with
 |[]=>none
 |x::r=>bif k==x.1 then some x.2 else jI r k
def PK{κ ν:Type}[BEq κ](z:ν)(m:List (κ×ν))(k:κ):ν:=(jI m k).getD z
def PL{κ ν:Type}[BEq κ](m:List (κ×ν))(k:κ):Bool:=(jI m k).isSome
def wV{κ ν:Type}[BEq κ](m:List (κ×ν))(k:κ)(v:ν):List (κ×ν):=match m with
 |[]=>[(k,v)]
 |x::r=>bif k==x.1 then(k,v)::r else x::wV r k v
def fT{κ ν:Type}(ek:κ→AV)(ev:ν→AV)(m:List (κ×ν)):List (AV×AV):=m.map fun p=>(ek p.1,ev p.2)
theorem FM{κ ν:Type}{ek:κ→AV}{ev:ν→AV}{kk:jQ}(h:∀a,eh kk (ek a)=true)(m:List (κ×ν)):jq kk (fT ek ev m)=true:=by
 unfold jq fT
 simp[h]
section
variable{κ ν:Type}[BEq κ]{ek:κ→AV}{ev:ν→AV}
theorem RN(hk:∀a b,kc (ek a) (ek b)=(a==b))(m:List (κ×ν))(k:κ):ey (ek k) (fT ek ev m)=(jI m k).map ev:=by
 induction m with
 |nil=>rfl
 |cons x m ih=>
  show(bif kc (ek k) (ek x.1)then some (ev x.2)else ey (ek k) (fT ek ev m))=_
  rw[hk,ih]
  show _=(bif k==x.1 then some x.2 else jI m k).map ev
  cases k==x.1<;>rfl
theorem Uc(hk:∀a b,kc (ek a) (ek b)=(a==b))(m:List (κ×ν))(k:κ)(v:ν):uQ (ek k) (ev v) (fT ek ev m)=fT ek ev (wV m k v):=by
 induction m with
 |nil=>rfl
 |cons x m ih=>
  show(bif kc (ek k) (ek x.1)then(ek k,ev v)::fT ek ev m else(ek x.1,ev x.2)::uQ (ek k) (ev v) (fT ek ev m))=_
  rw[hk,ih]
  show _=fT ek ev (bif k==x.1 then(k,v)::m else x::wV m k v)
  cases k==x.1<;>rfl
theorem CP{kk:jQ}{z:ν}{za:AV}(h:∀a,eh kk (ek a)=true)(hk:∀a b,kc (ek a) (ek b)=(a==b))(hz:view za=ev z)(hv:∀a,view (ev a)=ev a)(hi:∀a,cU (ev a)=true)(ok:Bool)(m:List (κ×ν))(k:κ):
 mT kk za ok (ek k) (some (.map (fT ek ev m)))=.prt True (Hh ok (ev (PK z m k)) (PL m k)):=by
 show MO ok (eh kk (ek k)=true∧jq kk (fT ek ev m)=true) (uG za ok (ey (ek k) (fT ek ev m)))=_
 rw[RN hk,h,FM h]
 unfold PK PL
 cases jI m k with
 |none=>
  show MO ok _ (Hh ok (view za) false)=_
  rw[hz]
  cases ok<;>simp[MO,y7,Hh,hi]
 |some v=>
  show MO ok _ (Hh ok (view (ev v)) true)=_
  rw[hv]
  cases ok<;>simp[MO,y7,Hh,hi]
theorem Oy{kk:jQ}{b:Nat}{σ:St}{d:Option Nat}{K:St→Prop}(h:∀a,eh kk (ek a)=true)(hk:∀a b,kc (ek a) (ek b)=(a==b))(hkv:∀a,view (ek a)=ek a)(m:List (κ×ν))(k:κ)(v:ν)(hv:view (ev v)=ev v)(hi:cU (ev v)=true):
 SD kk b σ (ek k) (ev v) d K (some (.map (fT ek ev m)))=K ({σ with s:=σ.s.set b (.map (fT ek ev (wV m k v)))}.put d (.fE [])):=by
 show((cU (ev v)=true∧eh kk (ek k)=true∧jq kk (fT ek ev m)=true)∧K ({σ with s:=σ.s.set b (.map (uQ (view (ek k)) (view (ev v)) (fT ek ev m)))}.put d (.fE [])))=_
 rw[hkv,hv,Uc hk,h,FM h,hi]
 simp
end
theorem lj(a b:Int):kc (.int .i64 a) (.int .i64 b)=(a==b):=by simp[kc,cellsOf,rq,TO]
attribute[go_sem] wx.eq_1
theorem bp{κ ν:Type}(ek:κ→AV)(ev:ν→AV):fT ek ev []=[]:=rfl
@[go_sem]theorem ae6(n:Nat):(List.replicate n [AV.int .i64 0]).flatten=flat (List.replicate n (0:Int)):=Oc n (0:Int)
@[go_sem]theorem afW(n:Nat):(List.replicate n [AV.int .u8 0]).flatten=flat (List.replicate n (0:UInt8)):=Oc n (0:UInt8)
end Go.AB
end
section
namespace Go.AB
open Go
attribute[go_sem] start aI aV ct cX cK cT Nat.ble_eq
theorem mix:Go.Proofs.Tryz.prog.follows .mixedOrders=true:=by kernel_rfl
end Go.AB
end
