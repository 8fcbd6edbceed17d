/- A part. -/
import Derived.Test.YtplacgnfinmfbaaGreatDoorFr2
import Derived.Laws.Rows
import Derived.Laws.CopyRow
import Derived.Laws.Append
import Derived.Laws.AppendOwn
import Derived.Laws.BytesString
import Derived.MapKept
import Derived.ChangeKeysEq
set_option linter.defProp false
set_option linter.unusedSimpArgs false
set_option linter.unusedVariables false
section
namespace Go.AB
open Go
def Gh.wT(G:Gh)(b:Nat)(o:dp)(r:Nat):Gh:=⟨fun i=>if i=b then r else G.R i,fun i=>if i=b then o else G.O i⟩
@[simp]theorem Gh.Q6(G:Gh)(b:Nat)(o:dp)(r i:Nat):(G.wT b o r).O i=if i=b then o else G.O i:=rfl
@[simp]theorem Gh.VQ(G:Gh)(b:Nat)(o:dp)(r i:Nat):(G.wT b o r).R i=if i=b then r else G.R i:=rfl
def Gh.gY(G:Gh)(o o':dp):Gh:=⟨G.R,fun i=>if G.O i=o then o' else G.O i⟩
@[simp]theorem Gh.ad0(G:Gh)(o o':dp)(i:Nat):(G.gY o o').O i=if G.O i=o then o' else G.O i:=rfl
section
variable{P:Program}{G G':Gh}{n:Nat}{D:List Deferred}{σ:St}{a:Act}{w w':World}
def bB.xT{s:ae}(h:bB G w s)(hv:∀a v,VR w G.R a v->VR w' G'.R a v)
 (hsh:∀b,G.O b=.sh->G'.O b=.sh/\G'.R b=G.R b/\w'.heap[b]? =w.heap[b]?)
 (gl:∀b c j,G.O b=.sh->G.O c=.cell b j->G'.O c=.cell b j/\G'.R c=G.R c/\w'.heap[c]? =w.heap[c]?):bB G' w' s:=by
 intro b o hb
 obtain⟨h1,h2,h3⟩:=h b o hb
 obtain⟨k1,k2,k3⟩:=hsh b h1
 refine⟨k1,k2.trans h2,?_⟩
 cases o with
 |cells cs=>
  obtain⟨c,t,h4,h5,h6⟩:=h3
  exact⟨c,t,k3.trans h4,h5.mono hv (fun b' j hb'=>gl b b' j h1 hb'),h6⟩
 |map es=>
  obtain⟨sW,clock,h4,h5,h6⟩:=h3
  exact⟨sW,clock,k3.trans h4,h5,fun j x y hx hy=>⟨hv _ _ (h6 j x y hx hy).1,hv _ _ (h6 j x y hx hy).2⟩⟩
def bB.mono{s:ae}(h:bB G w s)(hg:cS G w)(hp:aR G w G' w')
 (hsh:∀b,G.O b=.sh->G'.O b=.sh/\G'.R b=G.R b/\w'.heap[b]? =w.heap[b]?)
 (gl:∀b c j,G.O b=.sh->G.O c=.cell b j->G'.O c=.cell b j/\G'.R c=G.R c/\w'.heap[c]? =w.heap[c]?):bB G' w' s:=
 h.xT (fun _ _ hv=>hp.vr hg hv) hsh gl
theorem cS.lt(h:cS G w){b:Nat}(ho:G.O b≠.none):b<w.heap.size:=by
 rcases Nat.lt_or_ge b w.heap.size with hb|hb
 ·exact hb
 ·exact absurd (h.mn b hb) ho
def gE(hg:cS G w)(ob:Obj)(o:dp)(r:Nat):
 cS (G.wT w.heap.size o r) (w.alloc ob)/\aR G w (G.wT w.heap.size o r) (w.alloc ob)/\
 (∀b,G.O b≠.none->(G.wT w.heap.size o r).O b=G.O b/\(G.wT w.heap.size o r).R b=G.R b/\(w.alloc ob).heap[b]? =w.heap[b]?):=by
 have hsz:(w.alloc ob).heap.size=w.heap.size+1:=Array.size_push ..
 refine⟨⟨fun b hb=>?_,fun b hb=>?_⟩,⟨rfl,rfl,rfl,Nat.le_refl _,AT,fun b hb=>?_,fun b k hb _=>?_,fun b hb _=>heap_alloc_old w ob b hb,fun b hb ho=>?_,fun b hb ho=>?_⟩,fun b ho=>?_⟩
 ·have:b≠w.heap.size:=AT
  simp[this,hg.mn b AT]
 ·have:b≠w.heap.size:=AT
  simp[this,hg.nc b AT]
 ·have:b≠w.heap.size:=AT
  simp[this]
 ·grind [World.cell?_of_block,heap_alloc_old]
 ·have:b≠w.heap.size:=AT
  simp_all
 ·have:b≠w.heap.size:=AT
  simp_all
 ·have hb:=hg.lt ho
  have:b≠w.heap.size:=AT
  exact⟨by simp[this],by simp[this],heap_alloc_old w ob b hb⟩
def mY{s:ae}(h:bB G w s)(hg:cS G w)(ob:Obj)(o:dp)(r:Nat):bB (G.wT w.heap.size o r) (w.alloc ob) s:=by
 obtain⟨_,h2,h3⟩:=gE hg ob o r
 refine h.mono hg h2 (fun b hb=>?_) (fun b c j _ hc=>?_)
 ·grind
 grind
theorem Inv.alloc(h:Inv G n D σ a w)(ob:Obj)(o:dp)(r:Nat){s':ae}(d:Option Nat)(hd:bN n d=true)(av:AV)(v:Value)(lp':List (Nat×Nat))
 (dQ:bB (G.wT w.heap.size o r) (w.alloc ob) s')
 (hlp:∀x∈σ.lp,x∈lp')(aaL:∀i t,d=some i->bS av t->(i,t)∈lp')
 (UZ:∀i t,d=some i->(∃cs,av=.loc cs)->(t,i)∉σ.lp)
 (Pb:∀i,d=some i->dT (G.wT w.heap.size o r) (w.alloc ob) ((σ.put d av).e) (a.put d v).tmps i av v):
 Inv (G.wT w.heap.size o r) n D {(σ.put d av)with s:=s',lp:=lp'} (a.put d v) (w.alloc ob)/\aR G w (G.wT w.heap.size o r) (w.alloc ob):=by
 obtain⟨h1,h2,h3⟩:=gE h.bF ob o r
 refine⟨h.put d (fun i hi=>J_) av v h1 h2 dQ hlp aaL UZ (fun i b _ hb=>h3 b ?_) (fun i b c j _ hb hc=>?_) Pb,h2⟩
 ·grind
 grind
def bB.get_none(h:bB G w σ.s)(hg:cS G w):σ.s w.heap.size=none:=by
 cases hs:σ.s w.heap.size with
 |none=>rfl
 |some o=>
  have:=(h _ _ hs).1
  rw[hg.mn _ (Nat.le_refl _)]at this
  cases this
def IZ{lp:List (Nat×Nat)}{d:Option Nat}(h:mB lp d=true):∀i t,d=some i->(t,i)∉lp:=by
 intro i t hd hm
 subst hd
 simp only[mB,List.all_eq_true]at h
 have:=h _ hm
 simp at this
theorem bp{o:Oper}{v:Value}{next:Act->World->Prop}{Q:Exit->Act->World->Prop}(hr:(execOp a.eval o).run P w=.ok (.value v) w')(hn:next (a.put o.dst v) w'):o.wp P a w next Q:=by
 unfold Oper.wp
 rw[hr]
 exact hn
def JB{o:Oper}{next:Act->World->Prop}{Q:Exit->Act->World->Prop}(hr:(execOp a.eval o).run P w=.ok .skip w')(hn:next (a.put o.dst undef) w'):o.wp P a w next Q:=by
 unfold Oper.wp
 rw[hr]
 exact hn
def Inv.Jj(h:Inv G n D σ a w)(i:Nat)(hi:i<n)(av:AV)(hnl:∀t,¬bS av t)(aaO:∀cs,av≠.loc cs)
 (hv:∀v,a.tmps[i]? =some v->dT G w ((σ.put (some i) av).e) a.tmps i av v):Inv G n D (σ.put (some i) av) a w:=by
 have hlt:i<a.tmps.size:=by rw[h.size];exact hi
 have ha:a.put (some i) a.tmps[i]=a:=by
  have:a.tmps.setIfInBounds i a.tmps[i]=a.tmps:=by rw[Array.setIfInBounds,dif_pos hlt,Array.set_getElem_self]
  simp[Act.put,this]
 have:=h.put (some i) (fun j hj=>A_) av a.tmps[i] h.bF (aR.refl G w) h.store (fun x hx=>hx) (fun j t _ ht=>(hnl t ht).elim)
  (fun j t _⟨cs,hcs⟩=>(aaO cs hcs).elim) (fun _ b _ _=>⟨rfl,rfl,rfl⟩) (fun _ b c j _ _ hc=>⟨hc,rfl,rfl⟩)
  (fun j hj=>A_)
 rw[ha]at this
 exact this
theorem fA{av:AV}(h:ee av=true)(t:Nat):¬bS av t:=by cases av<;>simp_all [ee,bS]
def nP{av:AV}(h:ee av=true)(cs:List AV):av≠.loc cs:=by grind [ee]
def Inv.Cy(h:Inv G n D σ a w){i:Nat}(hi:look σ.e i≠.undef):i<n:=by
 rcases Nat.lt_or_ge i n with hlt|hge
 ·exact hlt
 ·exact absurd (h.EH i hge) hi
def HS{o:Operand}{i:Nat}(h:cj o (.t i)=true):o=.tmp i:=by
 cases o with
 |tmp t=>grind [cj]
 |const v=>grind [cj]
 |_=>simp[cj]at h
def Oh{o:Operand}{c:AV}(h:cj o (.c c)=true)(G:Gh)(w:World)(T:dp):ew G w T c (a.eval o):=by
 cases o with
 |tmp t=>simp[cj]at h
 |global g=>simp[cj]at h
 |func f=>cases c<;>first|trivial|(simp[cj]at h)
 |const v=>
  show ew G w T c v
  have hc:(∃cs,c=.agg cs)\/cR v c=true:=by
   cases v<;>first|exact .inr h|skip
   cases c<;>first|exact .inl ⟨_,rfl⟩|exact .inr h
  rcases hc with⟨cs,rfl⟩|hc
  ·trivial
  grind [BH]
theorem Inv.drain(h:Inv G n D σ a w){x:IX}{o:Operand}(hx:cj o x=true)(hi:ee (σ.x x)=true)(T:dp)(hT1:T≠.sh)(hT2:∀i,T≠.loc i):
 ∃G',Inv G' n D (σ.drain x) a w/\aR G w G' w/\VR w G'.R (σ.x x) (a.eval o)/\ew G' w T (σ.x x) (a.eval o)/\G'.R=G.R/\(∀b,G'.O b=.sh↔G.O b=.sh)/\(∀b i,G'.O b=.loc i↔G.O b=.loc i)/\
  (∀b b' j,G.O b=.cell b' j->G'.O b=.cell b' j):=by
 have hvr:VR w G.R (σ.x x) (a.eval o):=by
  have:=XR.bn h hx
  generalize σ.x x=av at hi this
  cases av<;>first|exact this|grind [ee]
 cases x with
 |c c=>
  refine⟨G,h,aR.refl G w,hvr,?_,rfl,fun _=>Iff.rfl,fun _ _=>Iff.rfl,fun _ _ _ hc=>hc⟩
  exact Oh hx G w T
 |t i=>
  have hin:i<n:=h.Cy (fun e=>by rw[show σ.x (.t i)=look σ.e i from rfl,e]at hi;cases hi)
  have ho:o=.tmp i:=HS hx
  subst ho
  have hlt:i<a.tmps.size:=Xc9
  have aaG:=h.da i _ (gB hlt)
  have hi':ee (look σ.e i)=true:=hi
  rw[dT.rT hi']at aaG
  have hne:∀b,G.O b≠.slot i 0->(G.gY (.slot i 0) T).O b=G.O b:=fun b hb=>by simp[hb]
  have cM:aR G w (G.gY (.slot i 0) T) w:=⟨rfl,rfl,rfl,Nat.le_refl _,Nat.le_refl _,fun _ _=>Nat.le_refl _,fun _ _ _ _=>rfl,fun _ _ _=>rfl,
   fun b _ hb=>⟨A_,rfl⟩,fun b _ hb=>⟨A_,rfl⟩⟩
  refine⟨G.gY (.slot i 0) T,?_,cM,hvr,?_,rfl,fun b=>?_,fun b k=>?_,fun b b' j hb=>A_⟩
  ·have h1:=h.Jj i hin (view (look σ.e i)) (fA (lZ hi')) (nP (lZ hi')) (fun v hv=>by
    grind [gB,dT.xS])
   refine⟨⟨fun b hb=>by rw[hne b (by rw[h.bF.mn b hb];simp),h.bF.mn b hb],h.bF.nc⟩,?_,h1.size,fun k v hk=>?_,h1.EH,h1.Kx,h1.ry⟩
   ·exact h.store.mono h.bF cM (fun b hb=>⟨A_,rfl,rfl⟩) (fun b c j _ hc=>⟨A_,rfl,rfl⟩)
   ·have h2:=h1.da k v hk
    by_cases hki:k=i
    ·subst hki
     have e1:look (σ.put (some k) (view (look σ.e k))).e k=view (look σ.e k):=p_
     show dT _ w _ _ k (look (σ.put (some k) (view (look σ.e k))).e k) v
     rw[e1]at h2⊢
     rw[dT.rT (lZ hi')]at h2⊢
     exact⟨h2.1,ew.view ..⟩
    ·refine dT.frame (G:=G) (G':=G.gY (.slot i 0) T) (w:=w) (fun _ _ hv=>hv) (fun b hb=>⟨hne b ?_,rfl,rfl⟩) (fun b c j _ hc=>⟨A_,rfl,rfl⟩) _ _ (fun d _ cs hcs=>⟨cs,hcs,rfl⟩) h2
     grind
  ·have:=aaG.2
   show ew _ w T (look σ.e i) _
   unfold ew at this⊢
   split
   ·rename_i sz m cs he
    rw[he]at this
    intro base m' cap hv hc
    obtain⟨b,off,c,e,fz,q1,q2,q3⟩:=this base m' cap hv hc
    exact⟨b,off,c,e,fz,q1,by simp[q2],q3⟩
   ·rename_i e m cs he
    rw[he]at this
    intro base m' cap hv hc
    obtain⟨b,off,c,fz,q1,q2,q3⟩:=this base m' cap hv hc
    exact⟨b,off,c,fz,q1,by simp[q2],q3⟩
   ·trivial
  ·by_cases hb:G.O b=.slot i 0
   ·simp[hb,hT1]
   grind
  ·by_cases hb:G.O b=.slot i 0
   ·simp[hb,hT2]
   grind
def qW(P:Program)(G:Gh)(n:Nat)(D:List Deferred)(w:World)(a:Act)(op:Op)(ty:TypeId)(d:Option Nat)(K:St->Prop):Prop:=
 ∀(pos:String)(after:Array Edge)(g:Option (Nat×Bool))(next:Act->World->Prop)(Q:Exit->Act->World->Prop),
  (∀G' E' a' w',Inv G' n D E' a' w'->aR G w G' w'->K E'->next a' w')->(⟨d,op,ty,pos,after,g⟩:Oper).wp P a w next Q
theorem RY(h:Inv G n D σ a w){op:Op}{ty:TypeId}{tr:Bool}{x:IX}{d:Option Nat}{K:St->Prop}(hd:bN n d=true)(hc:aD P op ty (.oU tr x)=true)(hw:ki P (.oU tr x) d σ K):qW P G n D w a op ty d K:=by
 obtain⟨hi,hk⟩:=hw
 have key:∀y,cj y x=true->∃G',Inv G' n D ((σ.drain x).put d (σ.x x)) (a.put d (a.eval y)) w/\aR G w G' w:=by
  intro y hy
  obtain⟨G',h1,h2,h3,h4,_⟩:=h.drain hy hi (match d with|some d=>.slot d 0|none=>.frame) A_ A_
  refine⟨G',?_,h2⟩
  have:=h1.put (s':=(σ.drain x).s) (lp':=(σ.drain x).lp) d (fun i hi=>J_) (σ.x x) (a.eval y) h1.bF (aR.refl G' w) h1.store (fun _ hx=>hx) (fun i t _ ht=>(fA hi t ht).elim) (fun i t _⟨cs,hcs⟩=>(nP hi cs hcs).elim)
   (fun _ _ _ _=>⟨rfl,rfl,rfl⟩) (fun _ _ _ _ _ _ hcc=>⟨hcc,rfl,rfl⟩) (fun i hdi=>by grind [dT.rT])
  cases d<;>exact this
 intro pos after g next Q hn
 cases op<;>first|(simp[aD]at hc;done)|skip
 ·rename_i y
  obtain⟨G',h1,h2⟩:=key y hc
  exact bp rfl (hn G' _ _ _ h1 h2 hk)
 ·rename_i y
  obtain⟨G',h1,h2⟩:=key y hc
  exact bp rfl (hn G' _ _ _ h1 h2 hk)
def F3{G:Gh}{w:World}{o:Nat->dp}{z:List AV}{c:Array Value}(h:Row w G.R z c)(h2:∀(j:Nat)(x:AV)(u:Value),z[j]? =some x->c[j]? =some u->cR u x=true):dS G w o z c:=⟨h.1,fun j x y hx hy=>⟨h.2.1 j x y hx hy,BH (h2 j x y hx hy) G w _⟩⟩
def nw{G:Gh}{w:World}{o:Nat->dp}{z:List AV}{c:Array Value}(h:Row w G.R z c):dS G w o (views z) c:=
 ⟨h.views.1,fun j x y hx hy=>⟨h.views.2.1 j x y hx hy,by grind [fG,ew.view]⟩⟩
def Row.mono{R R':Nat->Nat}{z:List AV}{c:Array Value}(h:Row w R z c)(hv:∀a v,VR w R a v->VR w' R' a v):Row w' R' z c:=⟨h.1,fun j x y hx hy=>hv _ _ (h.2.1 j x y hx hy),h.2.2⟩
def Inv.abA(h:Inv G n D σ a w){d:Option Nat}(hd:bN n d=true)(hf:mB σ.lp d=true){cs:List AV}{c:Array Value}{t:TypeId}
 (hcs:∀(G':Gh)(w':World)(o:Nat->dp),aR G w G' w'->dS G' w' o cs c)(hfl:Fl cs):
 ∃G',Inv G' n D (σ.put d (.loc cs)) (a.put d (.pointer (some ⟨w.heap.size,0,none⟩))) (w.alloc (.cells c t))/\aR G w G' (w.alloc (.cells c t)):=by
 let o:dp:=match d with|some d=>.loc d|none=>.none
 have hp:=(gE h.bF (.cells c t) o 0).2.1
 obtain⟨h1,h2⟩:=h.alloc (.cells c t) o 0 d hd (.loc cs) (.pointer (some ⟨w.heap.size,0,none⟩)) σ.lp (mY h.store h.bF _ o 0) (fun _ hx=>hx) (fun i t' _ ht=>ht.elim) (fun i t' hi _=>IZ hf i t' hi)
  (fun i hi=>by
    subst hi
    exact⟨w.heap.size,c,t,rfl,by simp[o],B_,heap_alloc_new w _,hcs _ _ _ hp,hfl⟩)
 exact⟨_,Xd0,h2⟩
def Inv.Vd(h:Inv G n D σ a w){d:Option Nat}(hd:bN n d=true){cs:List AV}{c:Array Value}{t:TypeId}{av:AV}{v:Value}(hav:av=.ref w.heap.size 0/\v=.pointer (some ⟨w.heap.size,0,none⟩)\/∃l m,av=.arr w.heap.size 0 l m/\v=.slice (some ⟨w.heap.size,0,none⟩) l m)
 (hcs:∀(G':Gh)(w':World)(o:Nat->dp),aR G w G' w'->dS G' w' o cs c)(hfl:Ex t cs):
 ∃G',Inv G' n D ({σ with s:=σ.s.set w.heap.size (.cells cs)}.put d av) (a.put d v) (w.alloc (.cells c t))/\aR G w G' (w.alloc (.cells c t)):=by
 have hp:=(gE h.bF (.cells c t) .sh 0).2.1
 have hs:bB (G.wT w.heap.size .sh 0) (w.alloc (.cells c t)) (σ.s.set w.heap.size (.cells cs)):=by
  intro b o hb
  unfold ae.set at hb
  by_cases he:b=w.heap.size
  ·rw[if_pos he]at hb
   injection hb with hb
   subst hb;subst he
   exact⟨B_,B_,c,t,heap_alloc_new w _,hcs _ _ _ hp,hfl⟩
  ·rw[if_neg he]at hb
   exact mY h.store h.bF _ .sh 0 b o hb
 have hv:ee av=true/\VR (w.alloc (.cells c t)) (G.wT w.heap.size .sh 0).R av v/\∀sz m cs,av≠.sl true sz m cs:=by
  rcases hav with⟨rfl,rfl⟩|⟨l,m,rfl,rfl⟩
  ·exact⟨rfl,.ref _ _,B_⟩
  ·exact⟨rfl,.arr _ _ _ _,B_⟩
 obtain⟨h1,h2⟩:=h.alloc (.cells c t) .sh 0 d hd av v σ.lp hs (fun _ hx=>hx) (fun i t' _ ht=>(fA hv.1 t' ht).elim) (fun i t' _⟨cs',yV⟩=>(nP hv.1 cs' yV).elim)
  (fun i hi=>by
    rw[dT.rT hv.1]
    refine⟨hv.2.1,?_⟩
    rcases hav with⟨e,_⟩|⟨l,m,e,_⟩<;>rw[e]<;>trivial)
 refine⟨_,?_,h2⟩
 cases d<;>exact h1
def Inv.KA(h:Inv G n D σ a w){d:Option Nat}(hd:bN n d=true){cs:List AV}{c:Array Value}{t:TypeId}{av:AV}{v:Value}(hav:av=.ref w.heap.size 0/\v=.pointer (some ⟨w.heap.size,0,none⟩)\/∃l m,av=.arr w.heap.size 0 l m/\v=.slice (some ⟨w.heap.size,0,none⟩) l m)
 (hcs:∀(G':Gh)(w':World)(o:Nat->dp),aR G w G' w'->dS G' w' o cs c)(hfl:Fl cs):
 ∃G',Inv G' n D ({σ with s:=σ.s.set w.heap.size (.cells cs)}.put d av) (a.put d v) (w.alloc (.cells c t))/\aR G w G' (w.alloc (.cells c t)):=h.Vd hd hav hcs (hfl.tag t)
theorem EJ(h:Inv G n D σ a w){op:Op}{ty:TypeId}{z:List AV}{d:Option Nat}{K:St->Prop}(hd:bN n d=true):
 (aD P op ty (.lQ z)=true->ki P (.lQ z) d σ K->qW P G n D w a op ty d K)/\(aD P op ty (.nv z)=true->ki P (.nv z) d σ K->qW P G n D w a op ty d K):=by
 have run:∀t,oS P t z=true->∃c:Array Value,(∀(dst:Option Tmp)(pos:String)(after:Array Edge)(g:Option (Nat×Bool)),(execOp a.eval ⟨dst,.alloc t,ty,pos,after,g⟩).run P w=.ok (.value (.pointer (some ⟨w.heap.size,0,none⟩))) (w.alloc (.cells c t)))/\
  (∀(G':Gh)(w':World)(o:Nat->dp),dS G' w' o z c)/\Fl z:=by
  intro t hz
  obtain⟨i,v,h1,h2,_,h4,h5⟩:=uS hz
  refine⟨v.cells,fun _ _ _ _=>?_,fun G' w' o=>F3 (h4 w' G'.R) h5,(h4 w G.R).2.2⟩
  simp[execOp,Instr.alloc,zeroValue,typeInfo,h1,h2,newVar,newRow]
 constructor
 ·intro hc hw pos after g next Q hn
  cases op<;>first|(simp[aD]at hc;done)|skip
  rename_i t
  obtain⟨c,hr,hcs,hfl⟩:=run t hc
  obtain⟨G',h1,h2⟩:=h.abA hd hw.1 (c:=c) (t:=t) (fun G' w' o _=>hcs G' w' o) hfl
  exact bp (hr d pos after g) (hn G' _ _ _ h1 h2 hw.2)
 ·intro hc hw pos after g next Q hn
  cases op<;>first|(simp[aD]at hc;done)|skip
  rename_i t
  obtain⟨c,hr,hcs,hfl⟩:=run t hc
  obtain⟨G',h1,h2⟩:=h.KA hd (c:=c) (t:=t) (.inl ⟨rfl,rfl⟩) (fun G' w' o _=>hcs G' w' o) hfl
  exact bp (hr d pos after g) (hn G' _ _ _ h1 h2 (hw w.heap.size (h.store.get_none h.bF)))
theorem Ls(h:Inv G n D σ a w){op:Op}{ty:TypeId}{m:Nat}{x:IX}{d:Option Nat}{K:St->Prop}(hd:bN n d=true):
 (aD P op ty (.HJ m x)=true->ki P (.HJ m x) d σ K->qW P G n D w a op ty d K)/\(aD P op ty (.Ad m x)=true->ki P (.Ad m x) d σ K->qW P G n D w a op ty d K):=by
 have run:∀t y,∀(dst:Option Tmp)(pos:String)(after:Array Edge)(g:Option (Nat×Bool)),(execOp a.eval ⟨dst,.box t y,ty,pos,after,g⟩).run P w=.ok (.value (.pointer (some ⟨w.heap.size,0,none⟩))) (w.alloc (.cells (a.eval y).cells t)):=by
  intro t y _ _ _ _
  simp[execOp,Instr.box,newVar,newRow]
 have cells:∀y,cj y x=true->ee (σ.x x)=true->(∀(G':Gh)(w':World)(o:Nat->dp),aR G w G' w'->dS G' w' o (views (cellsOf (σ.x x))) (a.eval y).cells)/\Fl (views (cellsOf (σ.x x))):=by
  intro y hy hi
  have hvr:VR w G.R (σ.x x) (a.eval y):=by
   have:=XR.bn h hy
   generalize σ.x x=av at hi this
   cases av<;>first|exact this|grind [ee]
  exact⟨fun G' w' o hp=>nw ((iT hi hvr).mono fun _ _ hv=>hp.vr h.bF hv),(iT hi hvr).2.2.views⟩
 have Og:∀y,cj y x=true->ee (xg true σ x)=true->(∀(G':Gh)(w':World)(o:Nat->dp),aR G w G' w'->dS G' w' o (views (cellsOf (xg true σ x))) (a.eval y).cells)/\Fl (views (cellsOf (xg true σ x))):=by
  intro y hy hi
  have hvr:VR w G.R (xg true σ x) (a.eval y):=(BR.bn h hy).vr hi
  exact⟨fun G' w' o hp=>nw ((iT hi hvr).mono fun _ _ hv=>hp.vr h.bF hv),(iT hi hvr).2.2.views⟩
 constructor
 ·intro hc hw pos after g next Q hn
  cases op<;>first|(simp[aD]at hc;done)|skip
  rename_i t y
  simp only[aD,Bool.and_eq_true]at hc
  obtain⟨hf,hi,_,hk⟩:=hw
  obtain⟨G',h1,h2⟩:=h.abA hd hf (t:=t) (cells y hc.2 hi).1 (cells y hc.2 hi).2
  grind [bp]
 ·intro hc hw pos after g next Q hn
  cases op<;>first|(simp[aD]at hc;done)|skip
  rename_i t y
  simp only[aD,Bool.and_eq_true]at hc
  obtain⟨hi,_,hk⟩:=hw
  obtain⟨G',h1,h2⟩:=h.KA hd (t:=t) (.inl ⟨rfl,rfl⟩) (Og y hc.2 hi).1 (Og y hc.2 hi).2
  exact bp (run t y d pos after g) (hn G' _ _ _ h1 h2 (hk w.heap.size (h.store.get_none h.bF)))
end
section
variable{P:Program}{G G':Gh}{n:Nat}{D:List Deferred}{σ:St}{a:Act}{w w':World}
def jm{R:Nat->Nat}{c:AV}{v:Value}(hf:ql c=true)(h:VR w R c v):v.oneCell'=true:=by cases h<;>first|rfl|assumption|(simp[ql,ee]at hf;done)|(rename_i h _;cases h<;>rfl)
def qJ{t:Nat}{R:Nat->Nat}{c:AV}{v:Value}(hf:ql c=true\/c=.oo t)(h:VR w R c v):v.oneCell'=true:=by
 rcases hf with hf|rfl
 ·exact jm hf h
 ·cases h;rfl
def eU(g o:Nat)(t:TypeId)(fz:Nat×Nat):∀(vs:List Value)(i:Nat)(cur:Array Value)(w:World),w.heap[g]? =some (.cells cur t fz)->(∀k,k<cur.size->¬(fz.1<=k/\k<fz.2))->o+i+vs.length<=cur.size->(∀v∈vs,v.oneCell'=true)->
 (storeCells ⟨g,o,none⟩ vs i).run P w=.ok () (w.setRow g (cur.toList.take (o+i)++vs++cur.toList.drop (o+i+vs.length)).toArray)
 |[],i,cur,w,hg,_,_,_=>by
  simp[List.append_nil,List.length_nil,Nat.add_zero,List.take_append_drop]
  rw[setRow_self w g cur t fz hg]
  rfl
 |v::rest,i,cur,w,hg,hfz,hl,h1=>by
  have hi:o+i<cur.size:=A_
  have gl:w.cell? ⟨g,o+i,none⟩=some cur[o+i]:=by simp[World.cell?,hg]
  have aeP:w.frozen? ⟨g,o+i,none⟩=false:=by
   have:=hfz (o+i) hi
   obtain⟨lo,hh⟩:=fz
   simp only[World.frozen?,hg]
   by_cases h1:lo<=o+i
   ·have:¬(o+i<hh):=fun h2=>this ⟨h1,h2⟩
    simp[this]
   ·simp[h1]
  have dQ:(store ((⟨g,o,none⟩:Addr).add i) v).run P w=.ok () (w.setRow g (cur.setIfInBounds (o+i) v)):=by
   rw[add_eq,run_store P w _ v _ (h1 v B_),gl]
   simp[aeP,setCell_eq_setRow w g (o+i) cur t fz v hg]
  have ih:=eU g o t fz rest (i+1) (cur.setIfInBounds (o+i) v) (w.setRow g (cur.setIfInBounds (o+i) v)) (setRow_heap w g cur _ t _ hg) A_ A_ (fun x hx=>h1 x A_)
  simp only[storeCells,Sem.run_bind,dQ,Result.andThen_ok,ih,setRow_setRow]
  congr 3
  have e:=list_seg_step cur.toList (o+i) v rest A_
  simpa[Array.toList_setIfInBounds,Nat.add_assoc]using e
def laid(cur:Array Value)(o:Nat)(vs:List Value):Array Value:=(cur.toList.take o++vs++cur.toList.drop (o+vs.length)).toArray
theorem qy(cur:Array Value)(o:Nat)(vs:List Value)(h:o+vs.length<=cur.size):(laid cur o vs).size=cur.size:=by simp[laid];omega
theorem l7(cur:Array Value)(o:Nat)(vs:List Value)(h:o+vs.length<=cur.size)(k:Nat):(laid cur o vs)[k]? =if o<=k/\k<o+vs.length then vs[k -o]? else cur[k]? :=by
 unfold laid
 grind
theorem tV{g:Nat}{cur:Array Value}{t:TypeId}{fz:Nat×Nat}(hg:w.heap[g]? =some (.cells cur t fz))(new:Array Value)(b k:Nat):(w.setRow g new).cell? ⟨b,k,none⟩=if b=g then new[k]? else w.cell? ⟨b,k,none⟩:=by
 by_cases h:b=g
 ·subst h
  rw[if_pos rfl,cell_of_row _ (setRow_heap w b cur new t fz hg)]
 ·grind [World.cell?_of_block,setRow_other]
def aR.write{g:Nat}{cur new:Array Value}{t:TypeId}{fz:Nat×Nat}(hg:w.heap[g]? =some (.cells cur t fz))(ho:G.O g≠.frame/\G.O g≠.none)(dQ:∀k,k<G.R g->new[k]? =cur[k]?)
 (hR:G.R g<=G'.R g)(hO:∀b,b≠g->G'.O b=G.O b/\G'.R b=G.R b):aR G w G' (w.setRow g new)where
 os:=rfl
 tape:=rfl
 output:=rfl
 drawn:=Nat.le_refl _
 size:=B_
 mono:=fun b _=>A_
 nz:=fun b k _ hk=>by grind [tV,cell_of_row]
 frame:=fun b _ hb=>by grind [setRow_other]
 kq:=fun b _ hb=>A_
 qI:=fun b _ hb=>A_
def Inv.written(h:Inv G n D σ a w){g:Nat}{c new:Array Value}{t:TypeId}(hg:w.heap[g]? =some (.cells c t (0,0)))(ho:(∃i,G.O g=.loc i)\/G.O g=.sh)(hR:G.R g=0){E':St}(hlp:E'.lp=σ.lp)
 (dQ:bB G (w.setRow g new) E'.s)
 (he:∀k,(look E'.e k=look σ.e k/\G.O g≠.loc k)\/(G.O g=.loc k/\a.tmps[k]? =some (.pointer (some ⟨g,0,none⟩))/\∃cs cs',look σ.e k=.loc cs/\look E'.e k=.loc cs'/\dS G (w.setRow g new) (.cell g) cs' new/\Fl cs')):
 Inv G n D E' a (w.setRow g new)/\aR G w G (w.setRow g new):=by
 have hog:G.O g≠.frame/\G.O g≠.none/\(∀i j,G.O g≠.slot i j)/\(∀i j,G.O g≠.cell i j):=A_
 have cM:aR G w G (w.setRow g new):=aR.write hg ⟨hog.1,hog.2.1⟩ (fun k hk=>A_) (Nat.le_refl _) (fun _ _=>⟨rfl,rfl⟩)
 have Pc:∀b,G.O b≠G.O g->(w.setRow g new).heap[b]? =w.heap[b]? :=fun b hb=>setRow_other w g b new (fun e=>hb A_)
 refine⟨⟨⟨fun b hb=>h.bF.mn b P_,fun b hb=>h.bF.nc b P_⟩,dQ,h.size,fun k v hk=>?_,fun k hk=>?_,fun k d hd=>?_,h.ry⟩,cM⟩
 ·have hs:=h.da k v hk
  rcases he k with⟨e,hnk⟩|⟨hgk,htm,cs,cs',e1,e2,e3,e4⟩
  ·rw[e]
   refine dT.frame (fun _ _ hv=>cM.vr h.bF hv) (fun b hb=>⟨rfl,rfl,Pc b ?_⟩) (fun b c' j _ hc=>⟨hc,rfl,Pc c' ?_⟩) _ _ (fun d _ ds hds=>?_) hs
   ·grind
   ·grind
   grind
  ·rw[e2]
   have hv:v=.pointer (some ⟨g,0,none⟩):=A_
   exact⟨g,new,t,hv,hgk,hR,setRow_heap w g c new t _ hg,e3,e4⟩
 ·rcases he k with⟨e,_⟩|⟨_,_,cs,_,e1,_⟩
  ·rw[e];exact h.EH k hk
  ·rw[h.EH k hk]at e1;cases e1
 ·rw[hlp]
  rcases he k with⟨e,_⟩|⟨_,_,cs,cs',_,e2,_⟩
  ·rw[e]at hd;exact h.Kx k d hd
  ·rw[e2]at hd;exact hd.elim
def dS.lay{g off:Nat}{cs news:List AV}{c:Array Value}{vs:List Value}{t:TypeId}{fz:Nat×Nat}(hg:w.heap[g]? =some (.cells c t fz))(cM:aR G w G (w.setRow g (laid c off vs)))(m7:cS G w)
 (hc:dS G w (.cell g) cs c)(hl:vs.length=news.length)(dH:off+news.length<=cs.length)(hne:∀j,G.O g≠.cell g j)
 (hn:∀(j:Nat)(x:AV)(y:Value),news[j]? =some x->vs[j]? =some y->VR w G.R x y/\ew G w (.cell g (off+j)) x y):
 dS G (w.setRow g (laid c off vs)) (.cell g) (setAt cs off news) (laid c off vs):=by
 have ET:off+vs.length<=c.size:=by rw[hl,hc.1];exact dH
 refine⟨by rw[qy _ _ _ ET,uJ _ _ _ dH,hc.1],fun j x y hx hy=>?_⟩
 rw[uI _ _ _ _ dH]at hx
 rw[l7 _ _ _ ET]at hy
 have mono:∀o,ew G w (.cell g o) x y->ew G (w.setRow g (laid c off vs)) (.cell g o) x y:=fun o ho=>ho.mono fun b hb=>⟨hb,rfl,setRow_other w g b _ (fun e=>A_)⟩
 by_cases hj:off<=j/\j<off+news.length
 ·rw[if_pos hj]at hx
  rw[if_pos AT]at hy
  obtain⟨h1,h2⟩:=hn (j -off) x y hx hy
  have:off+(j -off)=j:=AT
  rw[this]at h2
  exact⟨cM.vr m7 h1,mono j h2⟩
 ·rw[if_neg hj]at hx
  rw[if_neg AT]at hy
  obtain⟨h1,h2⟩:=hc.2 j x y hx hy
  exact⟨cM.vr m7 h1,mono j h2⟩
def KX{av:AV}{v:Value}(hi:ee av=true)(h:VR w G.R av v):Fl (bM av)/\v.cells.toList.length=(bM av).length/\(∀(j:Nat)(x:AV)(y:Value),(bM av)[j]? =some x->v.cells.toList[j]? =some y->VR w G.R x y)/\
 (∀y∈v.cells.toList,y.oneCell'=true):=by
 have hr:=iT hi h
 have ft:Row w G.R (bM av) v.cells:=by cases av<;>first|exact hr|exact hr.views
 refine⟨ft.2.2,by simpa using ft.1,fun j x y hx hy=>ft.2.1 j x y hx A_,fun y hy=>?_⟩
 obtain⟨j,hj⟩:=List.mem_iff_getElem?.1 hy
 have hjl:j<(bM av).length:=by rw[<-ft.1];have:=(List.getElem?_eq_some_iff.1 hj).1;simpa using this
 have hx:=List.getElem?_eq_getElem hjl
 exact jm (ft.2.2 _ (List.getElem_mem hjl)) (ft.2.1 j _ y hx A_)
def yr{t:TypeId}{m:Nat}(hs:eM P t m=true){g off:Nat}{c:Array Value}{et:TypeId}(hg:w.heap[g]? =some (.cells c et (0,0))){v:Value}(hm:v.cells.size=m)(dH:off+m<=c.size)(h1:∀y∈v.cells.toList,y.oneCell'=true):
 (storeVar t ⟨g,off,none⟩ v).run P w=.ok () (w.setRow g (laid c off v.cells.toList)):=by
 have:=eU (P:=P) g off et (0,0) v.cells.toList 0 c w hg (fun k _ hk=>AT) A_ h1
 simp[storeVar,Sem.run_bind,run_sizeOf hs,Result.andThen_ok]
 grind [laid]
def DL{off:Nat}{news jt cs:List AV}(h:gQ off news jt=some cs):off+news.length<=jt.length/\cs=setAt jt off news:=by grind [gQ,decide_eq_true,decide_eq_false]
def Kw{v:IX}(hi:ee (σ.x v)=true){k:Nat}{cs:List AV}(h:look (σ.drain v).e k=.loc cs):look σ.e k=.loc cs:=by
 cases v with
 |c _=>exact h
 |t i=>
  simp[St.drain,St.put,bA]at h
  split at h
  ·have:=nP (lZ (show ee (look σ.e i)=true from hi)) cs
   grind
  ·exact h
def IW{v:IX}(hi:ee (σ.x v)=true){k:Nat}{cs:List AV}(h:look σ.e k=.loc cs):look (σ.drain v).e k=.loc cs:=by
 cases v with
 |c _=>exact h
 |t i=>
  simp[St.drain,St.put,bA]
  split
  ·rename_i e;subst e
   rw[show σ.x (.t i)=look σ.e i from rfl,h]at hi
   cases hi
  ·exact h
theorem MT(h:Inv G n D σ a w){op:Op}{ty:TypeId}{m:Nat}{p v:IX}{d:Option Nat}{K:St->Prop}(hd:bN n d=true)(hc:aD P op ty (.store m p v)=true)(hw:ki P (.store m p v) d σ K):qW P G n D w a op ty d K:=by
 cases op<;>first|(simp[aD]at hc;done)|skip
 rename_i t q u
 simp only[aD,Bool.and_eq_true]at hc
 obtain⟨⟨hs,hq⟩,hu⟩:=hc
 obtain⟨hi,hm,hk⟩:=hw
 have hvr:VR w G.R (σ.x v) (a.eval u):=by
  have:=XR.bn h hu
  generalize σ.x v=av at hi this
  cases av<;>first|exact this|grind [ee]
 have target:∃g off jt,a.eval q=.pointer (some ⟨g,off,none⟩)/\
  ((∃i,look σ.e i=.loc jt/\a.tmps[i]? =some (.pointer (some ⟨g,0,none⟩))/\JC (σ.drain v) (σ.x p) p (bM (σ.x v))=YH (σ.drain v) i (gQ off (bM (σ.x v)) jt))\/
   (σ.s g=some (.cells jt)/\JC (σ.drain v) (σ.x p) p (bM (σ.x v))=ZW (σ.drain v) g (gQ off (bM (σ.x v)) jt))):=by
  have hb:=XR.bn h hq
  cases hp:σ.x p with
  |loc jt=>
   rw[hp]at hb
   obtain⟨i,b,c,t',e1,e2,e3,e4,_⟩:=hb
   refine⟨b,0,jt,e4,.inl ⟨i,e2,by rw[e3,e4],?_⟩⟩
   subst e1;rfl
  |lp d0 off=>
   rw[hp]at hb hk
   obtain⟨b,e1,e2⟩:=hb
   have hk':QN d K (Mo (σ.drain v) d0 off (bM (σ.x v)) (look (σ.drain v).e d0)):=hk
   cases hl:look (σ.drain v).e d0<;>rw[hl]at hk'<;>first|exact hk'.elim|skip
   rename_i jt
   have hl':=Kw hi hl
   exact⟨b,off,jt,e1,.inl ⟨d0,hl',e2 jt hl',by show Mo _ _ _ _ (look (σ.drain v).e d0)=_;rw[hl];rfl⟩⟩
  |ref b off=>
   rw[hp]at hb hk
   have e1:=VR.gK hb
   have hk':QN d K (Rb (σ.drain v) b off (bM (σ.x v)) ((σ.drain v).s b)):=hk
   have hs':(σ.drain v).s=σ.s:=by cases v<;>rfl
   rw[hs']at hk'
   cases hl:σ.s b with
   |none=>rw[hl]at hk';exact hk'.elim
   |some so=>
    cases so with
    |map es=>rw[hl]at hk';exact hk'.elim
    |cells jt=>exact⟨b,off,jt,e1,.inr ⟨hl,by show Rb _ _ _ _ ((σ.drain v).s b)=_;rw[hs',hl];rfl⟩⟩
  |_=>rw[hp]at hk;exact hk.elim
 obtain⟨g,off,jt,e1,ae4⟩:=target
 obtain⟨G1,h1,hp1,hv1,vC,hR1,hsh,Ix,gl⟩:=h.drain hu hi (.cell g off) B_ B_
 obtain⟨hfl,hlen,tg,Kj⟩:=KX hi hv1
 have wo:∀(x:AV)(y:Value),(bM (σ.x v))[0]? =some x->(a.eval u).cells.toList[0]? =some y->ew G1 w (.cell g (off+0)) x y:=by
  intro x y hx hy
  cases hv:σ.x v with
  |agg cs=>grind [bM,fG,ew.view]
  |sl o s l cs=>
   rw[hv]at hx vC hv1
   simp[bM]at hx
   subst hx
   have:(a.eval u).cells= #[a.eval u]:=by rcases VR.jd hv1 with⟨(e|⟨_,_,_,e⟩),_⟩|⟨_,_,_,e,_⟩<;>rw[e]<;>rfl
   grind
  |bb t l cs=>
   rw[hv]at hx vC hv1
   simp[bM]at hx
   subst hx
   have ae6:VR w G1.R (.sl true 1 l cs) (a.eval u):=by cases hv1;assumption
   have:(a.eval u).cells= #[a.eval u]:=by rcases VR.jd ae6 with⟨(e|⟨_,_,_,e⟩),_⟩|⟨_,_,_,e,_⟩<;>rw[e]<;>rfl
   grind
  |_=>rw[hv]at hx;simp[bM]at hx;subst hx;trivial
 have LB:∀(j:Nat)(x:AV)(y:Value),(bM (σ.x v))[j]? =some x->(a.eval u).cells.toList[j]? =some y->VR w G1.R x y/\ew G1 w (.cell g (off+j)) x y:=by
  intro j x y hx hy
  refine⟨tg j x y hx hy,?_⟩
  cases j with
  |zero=>grind
  |succ j=>
   cases hv:σ.x v with
   |agg cs=>grind [bM,fG,ew.view]
   |_=>grind [bM]
 have U1:(a.eval u).cells.toList.length=m:=by rw[hlen,hm]
 have xC:∀(τ:St)(w':World),Inv G1 n D τ a w'->Inv G1 n D (τ.put d (.jV [])) (a.put d undef) w':=by
  intro τ w' hτ
  have:=hτ.put (s':=τ.s) (lp':=τ.lp) d (fun i hi=>J_) (.jV []) undef hτ.bF (aR.refl G1 w') hτ.store (fun _ hx=>hx) (fun i t _ ht=>ht.elim) (fun i t _⟨cs,hcs⟩=>Q_)
   (fun _ _ _ _=>⟨rfl,rfl,rfl⟩) (fun _ _ _ _ _ _ hcc=>⟨hcc,rfl,rfl⟩) (fun i hdi=>⟨#[],rfl,rfl,fun j x y hx=>s_⟩)
  cases d<;>exact this
 rcases ae4 with⟨i,e2,e3,e4⟩|⟨e2,e4⟩
 ·
  rw[e4]at hk
  cases hwr:gQ off (bM (σ.x v)) jt with
  |none=>rw[hwr]at hk;exact hk.elim
  |some cs'=>
   rw[hwr]at hk
   obtain⟨dH,rfl⟩:=DL hwr
   have e2':look (σ.drain v).e i=.loc jt:=IW hi e2
   have Iz:=h1.da i _ e3
   rw[e2']at Iz
   obtain⟨b,c,t',q1,q2,q3,q4,q5,q6⟩:=Iz
   injection q1 with q1;injection q1 with q1;injection q1 with q1 _ _
   subst q1
   have hne:∀j,G1.O g≠.cell g j:=fun j=>U_
   have ET:off+(a.eval u).cells.toList.length<=c.size:=by rw[hlen,q5.1];exact dH
   have cG:=yr (P:=P) hs q4 (v:=a.eval u) A_ (by rw[<-U1];exact ET) Kj
   have cM:aR G1 w G1 (w.setRow g (laid c off (a.eval u).cells.toList)):=aR.write q4 U_ (fun k hk=>A_) (Nat.le_refl _) (fun _ _=>⟨rfl,rfl⟩)
   have oA:=dS.lay q4 cM h1.bF q5 hlen dH hne LB
   obtain⟨h2,_⟩:=h1.written (E':=(σ.drain v).put (some i) (.loc (setAt jt off (bM (σ.x v))))) q4 (.inl ⟨i,q2⟩) q3 rfl
    (h1.store.mono h1.bF cM (fun b hb=>⟨hb,rfl,setRow_other w g b _ (fun e=>A_)⟩) (fun b c j _ hc=>⟨hc,rfl,setRow_other w g c _ (fun e=>A_)⟩))
    (fun k=>by grind [q2,St.put,bA,Fl.setAt])
   intro pos after gd next Q hn
   exact JB (w':=w.setRow g (laid c off (a.eval u).cells.toList)) (by simp[execOp,e1,Instr.storeAt,Instr.sureAddr,cG]) (hn G1 _ _ _ (xC _ _ h2) (hp1.trans cM) hk)
 ·
  rw[e4]at hk
  cases hwr:gQ off (bM (σ.x v)) jt with
  |none=>rw[hwr]at hk;exact hk.elim
  |some cs'=>
   rw[hwr]at hk
   obtain⟨dH,rfl⟩:=DL hwr
   have hs':(σ.drain v).s=σ.s:=by cases v<;>rfl
   obtain⟨q2,q3,c,t',q4,q5,q6⟩:=h1.store g (.cells jt) A_
   have hne:∀j,G1.O g≠.cell g j:=fun j=>U_
   have ET:off+(a.eval u).cells.toList.length<=c.size:=by rw[hlen,q5.1];exact dH
   have cG:=yr (P:=P) hs q4 (v:=a.eval u) A_ (by rw[<-U1];exact ET) Kj
   have cM:aR G1 w G1 (w.setRow g (laid c off (a.eval u).cells.toList)):=aR.write q4 U_ (fun k hk=>A_) (Nat.le_refl _) (fun _ _=>⟨rfl,rfl⟩)
   have oA:=dS.lay q4 cM h1.bF q5 hlen dH hne LB
   have dQ:bB G1 (w.setRow g (laid c off (a.eval u).cells.toList)) ((σ.drain v).s.set g (.cells (setAt jt off (bM (σ.x v))))):=by
    intro b o hb
    unfold ae.set at hb
    by_cases hbg:b=g
    ·rw[if_pos hbg]at hb;grind [q2,setRow_heap,Ex.setAt]
    ·rw[if_neg hbg]at hb
     obtain⟨r1,r2,r3⟩:=h1.store b o hb
     refine⟨r1,r2,?_⟩
     have hbk:=setRow_other w g b (laid c off (a.eval u).cells.toList) hbg
     cases o with
     |cells cs=>
      obtain⟨c0,t0,r4,r5,r6⟩:=r3
      exact⟨c0,t0,hbk.trans r4,r5.mono (fun _ _ hv=>cM.vr h1.bF hv) (fun b' j hb'=>⟨hb',rfl,setRow_other w g b' _ (fun e=>A_)⟩),r6⟩
     |map es=>
      obtain⟨sW,clock,r4,r5,r6⟩:=r3
      exact⟨sW,clock,hbk.trans r4,r5,fun j x y hx hy=>⟨cM.vr h1.bF (r6 j x y hx hy).1,cM.vr h1.bF (r6 j x y hx hy).2⟩⟩
   obtain⟨h2,_⟩:=h1.written (E':={σ.drain v with s:=(σ.drain v).s.set g (.cells (setAt jt off (bM (σ.x v))))}) q4 (.inr q2) q3 rfl dQ
    (fun k=>.inl ⟨rfl,U_⟩)
   intro pos after gd next Q hn
   exact JB (w':=w.setRow g (laid c off (a.eval u).cells.toList)) (by simp[execOp,e1,Instr.storeAt,Instr.sureAddr,cG]) (hn G1 _ _ _ (xC _ _ h2) (hp1.trans cM) hk)
end
section
variable{P:Program}{G G':Gh}{n:Nat}{D:List Deferred}{σ:St}{a:Act}{w w':World}
def Inv.PO(h:Inv G n D σ a w){d:Option Nat}(hd:bN n d=true){sz m cap:Nat}{cs:List AV}{c:Array Value}{t:TypeId}{ob:dp}{own:Bool}(hob:∀i,d=some i->ob=.slot i 0)(aeW:d=none->ob=.none)
 (hl:cs.length=m*sz)(gv:m<=cap)(hsz:c.size=cap*sz)(hfl:Fl cs)
 (hcs:∀(j:Nat)(x:AV),cs[j]? =some x->∃y,c[j]? =some y/\VR w G.R x y)(fz:Nat×Nat)(hfz:(∀k,k<c.size->¬(fz.1<=k/\k<fz.2))/\fz.1<=fz.2)(hz0:own=true->fz=(0,0)\/(0<m/\∃x,c[0]? =some (.int .u8 x)))(hsp:∀(k:Nat)(y:Value),m*sz<=k->c[k]? =some y->y.oneCell'=true):
 ∃G',Inv G' n D (σ.put d (.sl own sz m cs)) (a.put d (.slice (some ⟨w.heap.size,0,none⟩) m cap)) (w.alloc (.cells c t fz))/\aR G w G' (w.alloc (.cells c t fz)):=by
 have hp:=(gE h.bF (.cells c t fz) ob cs.length).2.1
 obtain⟨h1,h2⟩:=h.alloc (.cells c t fz) ob cs.length d hd (.sl own sz m cs) (.slice (some ⟨w.heap.size,0,none⟩) m cap) σ.lp (mY h.store h.bF _ ob cs.length) (fun _ hx=>hx) (fun i t' _ ht=>ht.elim)
  (fun i t' _⟨cs',yV⟩=>Ψ)
  (fun i hi=>by
    refine⟨?_,?_⟩
    ·refine .sl own sz m cs w.heap.size 0 cap (fun j=>c.getD j undef) hfl hl B_ gv (fun j x hj=>?_) (fun j x hj=>?_)
     ·obtain⟨y,hy,_⟩:=hcs j x hj
      rw[Nat.zero_add,cell_of_row _ (heap_alloc_new w _),hy]
      simp_all
     ·obtain⟨y,hy,hv⟩:=hcs j x hj
      have:c.getD j undef=y:=by simp[Array.getD_eq_getD_getElem?,hy]
      rw[this]
      exact hp.vr h.bF hv
    ·cases own with
     |false=>trivial
     |true=>
     intro base m' dw hv hc
     injection hv with e1 e2 e3
     subst e3
     exact⟨w.heap.size,0,c,t,fz,e1.symm,P_,by simp[hl],heap_alloc_new w _,A_,hfz.1,hfz.2,rfl,hz0 rfl,fun k y hk=>hsp k y AT⟩)
 exact⟨_,Xd0,h2⟩
theorem Is(l:List Value):∀(m:Nat),((List.replicate m l).flatten)=((List.range (m*l.length)).map fun i=>l.getD (i % l.length) undef):=by
 intro m
 apply List.ext_getElem?
 intro j
 rcases Nat.eq_zero_or_pos l.length with h0|hp
 ·simp_all
 ·induction m generalizing j with
  |zero=>simp
  |succ m ih=>
   rw[List.replicate_succ,List.flatten_cons]
   by_cases hj:j<l.length
   ·rw[List.getElem?_append_left hj,List.getElem?_map,List.getElem?_range A_]
    simp[Nat.mod_eq_of_lt hj,List.getD_eq_getElem?_getD,List.getElem?_eq_getElem hj]
   ·rw[List.getElem?_append_right AT,ih,List.getElem?_map,List.getElem?_map]
    by_cases hlt:j<(m+1)*l.length
    ·have h1:j -l.length<m*l.length:=by rw[Nat.add_mul,Nat.one_mul]at hlt;omega
     grind [List.getElem?_range,Nat.mod_eq_sub_mod]
    grind
theorem uh(z:Array Value)(m:Nat):((Array.range (m*z.size)).map fun i=>z[i % z.size]!)=((List.replicate m z.toList).flatten).toArray:=by
 rw[Is]
 apply Array.ext'
 simp only[Array.toList_map,Array.toList_range,Array.length_toList]
 apply List.map_congr_left
 intro i hi
 have hlt:i<m*z.size:=by simpa using hi
 have hz:0<z.size:=by
  rcases Nat.eq_zero_or_pos z.size with h|h
  ·grind
  ·exact h
 grind [Nat.mod_lt]
theorem Il(h:Inv G n D σ a w){op:Op}{ty:TypeId}{sz m:Nat}{z:List AV}{ps:List (Nat×Nat×IX)}{d:Option Nat}{K:St->Prop}(hd:bN n d=true)(hc:aD P op ty (.iZ sz m z ps)=true)(hw:ki P (.iZ sz m z ps) d σ K):qW P G n D w a op ty d K:=by
 cases op<;>first|(simp[aD]at hc;done)|skip
 rename_i t m' qs
 simp only[aD,Bool.and_eq_true,beq_iff_eq]at hc
 obtain⟨rfl,hc⟩:=hc
 split at hc<;>try(cases hc;done)
 rename_i e ht
 have ht:=dq ht
 simp only[Bool.and_eq_true]at hc
 obtain⟨⟨⟨⟨hs,jR⟩,hp⟩,Pa⟩,hz⟩:=hc
 obtain⟨i,hi,qp⟩:=lE hs
 rw[hi]at hz
 simp only at hz
 split at hz<;>try(cases hz;done)
 rename_i zv hzv
 simp only[Bool.and_eq_true,beq_iff_eq]at hz
 obtain⟨hzr,hzs⟩:=hz
 have jR:=of_decide_eq_true jR
 have Pa:=of_decide_eq_true Pa
 have hw':xf sz m σ d K (fill (xg true σ) z ps):=hw
 cases hfl:fill (xg true σ) z ps with
 |none=>rw[hfl]at hw';exact hw'.elim
 |some ds=>
  rw[hfl]at hw'
  obtain⟨hlen,hk⟩:=hw'
  obtain⟨hl,hpa⟩:=wG _ _ hp
  obtain⟨hz1,hz2⟩:=A3 hzr
  have ft:Row w G.R z ((Array.range (m*sz)).map (zv.cells[·% zv.cells.size]!)):=by
   rw[<-hzs,uh]
   exact⟨A_,fun j c u hc hu=>xi (hz2 j c u hc A_) w G.R,BI hzr⟩
  have hf:∀(o:Operand)(x:IX),cj o x=true->ee (xg true σ x)=true->VR w G.R (xg true σ x) (a.eval o):=fun o x hx hi=>by
   have:=BR.bn h hx
   generalize xg true σ x=av at hi this
   cases av<;>first|exact this|grind [ee]
  obtain⟨us,h1,h2⟩:=rA h hf (fun i=>some (i*sz,sz)) qs.toList ps z ds _ ⟨hl,fun j q p hq hp'=>A_⟩ ft hfl
  obtain⟨G1,h3,h4⟩:=h.PO (t:=e) (ob:=match d with|some i=>.slot i 0|none=>.none) hd (fun i hi=>χ) (fun hn=>ω) hlen (Nat.le_refl m) (by rw[h2.1,hlen]) h2.2.2
   (fun j x hx=>by
     have hlt:j<us.size:=by rw[h2.1];exact(List.getElem?_eq_some_iff.1 hx).1
     exact⟨us[j],Array.getElem?_eq_getElem hlt,h2.2.1 j x _ hx (Array.getElem?_eq_getElem hlt)⟩) (0,0) ⟨fun k _ hk=>by simp at hk,Nat.le_refl _⟩ (own:=true) (fun _=>.inl rfl) (fun k y hk hy=>by
     have:=(Array.getElem?_eq_some_iff.1 hy).1
     rw[h2.1,hlen]at this;omega)
  intro pos after gd next Q hn
  refine bp ?_ (hn G1 _ _ _ h3 h4 hk)
  by_cases hm0:m*sz=0
  ·have hm:m=0:=by
    rcases Nat.mul_eq_zero.1 hm0 with h|h
    ·exact h
    ·omega
   subst hm
   simp only[Nat.zero_mul]at h1
   have:(Array.range 0).map (zv.cells[·% zv.cells.size]!)= #[]:=B_
   rw[this]at h1
   have hr0:Array.map (fun _:Nat=>(default:Value)) (Array.range 0)= #[]:=by apply Array.ext';simp
   simp[execOp,Instr.buildSlice,run_underlying ht,run_sizeOf hs,hr0,h1,newRow]
  ·have h24:¬(16777216<m*sz):=AT
   simp[execOp,Instr.buildSlice,run_underlying ht,run_sizeOf hs,h24,hm0,zeroValue,typeInfo,hi,hzv,h1,newRow]
def BG(s:List UInt8):Fl (s.map fun c=>AV.int .u8 c.toNat):=by
 intro c hc
 simp only[List.mem_map]at hc
 obtain⟨x,_,rfl⟩:=hc
 rfl
theorem J5(h:Inv G n D σ a w){op:Op}{ty:TypeId}{x:IX}{d:Option Nat}{K:St->Prop}(hd:bN n d=true)(hc:aD P op ty (.jM x)=true)(hw:ki P (.jM x) d σ K):qW P G n D w a op ty d K:=by
 cases op<;>first|(simp[aD]at hc;done)|skip
 rename_i s t y
 simp only[aD,Bool.and_eq_true]at hc
 obtain⟨hy,hc⟩:=hc
 split at hc<;>try(cases hc;done)
 rename_i e hs ht
 split at hc<;>try(cases hc;done)
 rename_i he
 have hb:=BR.bn h hy
 have hw':A9 σ d K (xg true σ x):=hw
 generalize xg true σ x=xv at hb hw'
 unfold A9 at hw'
 split at hw'<;>try(exact hw'.elim)
 rename_i ow sz m cs
 obtain⟨rfl,l,rfl,hk⟩:=hw'
 have xC:Inv G n D (σ.put d (.str l)) (a.put d (.string ⟨l.toArray⟩)) w:=by
  have:=h.put (s':=σ.s) (lp':=σ.lp) d (fun i hi=>J_) (.str l) (.string ⟨l.toArray⟩) h.bF (aR.refl G w) h.store (fun _ hx=>hx) (fun i t _ ht=>ht.elim) (fun i t _⟨cs,hcs⟩=>Q_)
   (fun _ _ _ _=>⟨rfl,rfl,rfl⟩) (fun _ _ _ _ _ _ hcc=>⟨hcc,rfl,rfl⟩) (fun i hdi=>⟨.str l,trivial⟩)
  cases d<;>exact this
 intro pos after gd next Q hn
 refine bp (v:=.string ⟨l.toArray⟩) ?_ (hn G _ _ _ xC (aR.refl G w) hk)
 rcases VR.jd hb with⟨e1,_,hl0⟩|⟨b,off,cap,e1,hlen,_,_,u,u1,u2,_⟩
 ·have:l=[]:=by simpa using hl0
  subst this
  rcases e1 with e1|⟨_,ad,cap,e1⟩
  ·have:=run_convert_bytes_nil (P:=P) w s e hs he 0 0 t ht
   simp[execOp,e1,this]
   rfl
  ·have:=lD (P:=P) w s e hs he ad cap t ht
   simp[execOp,e1,this]
   rfl
 ·have hm:l.length=m:=by simpa using hlen
  have:=run_convert_bytes_arg (P:=P) w s e hs he b off m cap (l.map fun c=>(c.toNat:Int)) A_ (fun i hi=>by
   have hil:i<l.length:=AT
   have hc0:(l.map fun c=>AV.int .u8 c.toNat)[i]? =some (.int .u8 l[i].toNat):=by simp[hil]
   grind [VR.dI]) t ht
  have hs2:strOfNums (l.map fun c=>(c.toNat:Int))=⟨l.toArray⟩:=by
   unfold strOfNums
   congr 2
   simp[Function.comp_def]
  rw[hs2]at this
  simp[execOp,e1,this]
theorem aR.drew(G:Gh)(w:World):aR G w G w.drew:=⟨rfl,rfl,rfl,Nat.le_succ _,Nat.le_refl _,fun _ _=>Nat.le_refl _,fun _ _ _ _=>rfl,fun _ _ _=>rfl,fun _ _ h=>⟨h,rfl⟩,fun _ _ h=>⟨h,rfl⟩⟩
theorem Inv.drew(h:Inv G n D σ a w):Inv G n D σ a w.drew:=by
 have hg:cS G w.drew:=⟨h.bF.mn,h.bF.nc⟩
 have:=h.put (s':=σ.s) (lp':=σ.lp) none (fun i hi=>by cases hi) .undef undef hg (aR.drew G w) (h.store.mono h.bF (aR.drew G w) (fun _ hb=>⟨hb,rfl,rfl⟩) (fun _ _ _ _ hc=>⟨hc,rfl,rfl⟩)) (fun _ hx=>hx) (fun i t hi=>by cases hi) (fun i t hi=>by cases hi)
  (fun _ _ _ _=>⟨rfl,rfl,rfl⟩) (fun _ _ _ _ _ _ hcc=>⟨hcc,rfl,rfl⟩) (fun i hi=>by cases hi)
 exact this
theorem Gi(h:Inv G n D σ a w){op:Op}{ty:TypeId}{x:IX}{d:Option Nat}{K:St->Prop}(hd:bN n d=true)(hc:aD P op ty (.iw x)=true)(hw:ki P (.iw x) d σ K):qW P G n D w a op ty d K:=by
 cases op<;>first|(simp[aD]at hc;done)|skip
 rename_i s t y
 simp only[aD,Bool.and_eq_true]at hc
 obtain⟨hy,hc⟩:=hc
 split at hc<;>try(cases hc;done)
 rename_i e hs ht
 split at hc<;>try(cases hc;done)
 rename_i he
 have hb:=BR.bn h hy
 have hw':qj σ d K (xg true σ x):=hw
 generalize xg true σ x=xv at hb hw'
 unfold qj at hw'
 split at hw'<;>try(exact hw'.elim)
 rename_i l
 have e1:=VR.jC hb
 have hk:K (σ.put d (.sl (PV l) 1 l.length (l.map fun c=>.int .u8 c.toNat))):=hw'
 let cap:=(Question.appendCap l.length 0 e).cut (w.tape w.drawn (.appendCap l.length 0 e))
 have gv:l.length<=cap:=Nat.le_add_right _ _
 let c:Array Value:=(l.toArray.map fun b=>Value.int .u8 b.toNat)++Array.replicate (cap -l.length) (.int .u8 0)
 have hcs:c.size=cap:=by simp[c];omega
 obtain⟨G1,h3,h4⟩:=(h.drew).PO (t:=e) (c:=c) (m:=l.length) (cs:=l.map fun c=>AV.int .u8 c.toNat) (cap:=cap) (sz:=1) (ob:=match d with|some i=>.slot i 0|none=>.none) hd (fun i hi=>χ) (fun hn=>ω) B_ gv A_ (BG l)
  (fun j x hx=>by
    rw[List.getElem?_map]at hx
    cases hj:l[j]? with
    |none=>grind
    |some b0=>
     rw[hj]at hx;simp at hx
     have hlt:j<l.length:=(List.getElem?_eq_some_iff.1 hj).1
     refine⟨.int .u8 b0.toNat,?_,by rw[<-hx];exact .int _ _⟩
     grind) (c.size,c.size+1) ⟨fun k hk hh=>AT,Nat.le_succ _⟩ (own:=PV l) (fun hne=>.inr (by
    cases l with
    |nil=>cases hne
    |cons x0 l=>grind)) (fun k y _ hy=>by
    obtain⟨hk,hy⟩:=Array.getElem?_eq_some_iff.1 hy
    have hm:y∈c:=by rw[<-hy];exact Array.getElem_mem hk
    rcases Array.mem_append.1 hm with hm|hm
    ·obtain⟨b,_,rfl⟩:=Array.mem_map.1 hm;rfl
    ·rw[(Array.mem_replicate.1 hm).2];rfl)
 intro pos after gd next Q hn
 refine bp (w':=(w.drew).alloc (.cells c e (c.size,c.size+1))) ?_ (hn G1 _ _ _ h3 ((aR.drew G w).trans h4) hk)
 have hsz:(ByteArray.mk l.toArray).size=l.length:=Xc8
 have O6:(Conv.stringToBytes e ⟨l.toArray⟩).run P w=.ok (.slice (some ⟨w.heap.size,0,none⟩) l.length cap) ((w.drew).alloc (.cells c e (c.size,c.size+1))):=by
  have hfr:∀(w0:World),(w0.alloc (.cells c e)).freeze {block:=w0.heap.size,off:=c.size} 1=w0.alloc (.cells c e (c.size,c.size+1)):=by
   intro w0
   unfold World.freeze World.alloc
   simp only[Nat.succ_ne_self,if_false]
   congr 1
   apply Array.ext
   ·simp
   ·grind
  have Kk:((w.drew).alloc (.cells c e)).shape? w.heap.size=some (e,c.size):=by
   unfold World.shape?
   rw[show((w.drew).alloc (.cells c e)).heap[w.heap.size]? =some (.cells c e) from heap_alloc_new w.drew _]
  simp only[Conv.stringToBytes,Sem.run_bind,run_choose,Question.forced,hsz,Bool.false_eq_true,if_false,Result.andThen_ok,newRow,run_newObj,Sem.run_pure,markStringish,run_shape]
  show((Sem.run P (match((w.drew).alloc (.cells c e)).shape? w.heap.size with|some (_,n)=>freeze {block:=w.heap.size,off:=n} 1|x=>pure ()) ((w.drew).alloc (.cells c e))).andThen fun a w'=>Result.ok (Value.slice (some {block:=w.heap.size,off:=0}) l.length cap) w')=_
  rw[Kk]
  simp only[run_freeze,Result.andThen_ok]
  exact congrArg _ (hfr w.drew)
 simp[execOp,e1,convert,underlying,hs,ht,he,O6]
end
section
variable{P:Program}{G G':Gh}{n:Nat}{D:List Deferred}{σ:St}{a:Act}{w w':World}
structure Src(P:Program)(w:World)(R:Nat->Nat)(sz m:Nat)(ds:List AV)(v:Value)(news:List Value):Prop where
 len:news.length=m*sz
 qA:ds.length=m*sz
 lenOf:∀w',(Builtin.lenOf v).run P w'=.ok m w'
 first:∀w',w'.heap=w.heap->(Builtin.firstCells sz m v).run P w'=.ok news.toArray w'
 one:∀u∈news,u.oneCell'=true
 mq:∀(j:Nat)(c:AV)(u:Value),ds[j]? =some c->news[j]? =some u->VR w R c u
 fl:Fl ds
theorem EE{w w':World}(h:w'.heap=w.heap)(a:Addr):w'.cell? a=w.cell? a:=by grind [World.cell?]
def Src.Vj{R:Nat->Nat}{o:Bool}{s sz m:Nat}{ds:List AV}{v:Value}(h:VR w R (.sl o s m ds) v)(hs:s=sz\/m=0):∃news,Src P w R sz m (views ds) v news:=by
 rcases VR.jd h with⟨(rfl|⟨_,ad,cap,rfl⟩),rfl,rfl⟩|⟨b,off,cap,rfl,hl,_,_,hat⟩
 ·exact⟨[],B_,r_,fun _=>rfl,fun w' _=>h_,B_,fun j c u hc=>A_,Fl.nil⟩
 ·exact⟨[],B_,r_,fun _=>rfl,fun w' _=>by simp[Builtin.firstCells,loadCells,loadCellsFrom],B_,fun j c u hc=>A_,Fl.nil⟩
 ·have hlen:(views ds).length=m*sz:=by
   rcases hs with rfl|rfl
   ·simp[views,hl]
   ·grind [views,List.length_map]
  have O0:=hat.views
  obtain⟨us,h1,h2,h3⟩:=O0.mq
  have hfl:Fl (views ds):=by obtain⟨_,_,_,hf⟩:=O0;exact hf
  refine⟨us,by rw[h1,hlen],hlen,fun _=>rfl,fun w' hw'=>?_,fun u hu=>?_,h3,hfl⟩
  ·grind [run_firstCells_some,EE]
  ·obtain⟨j,hj⟩:=List.mem_iff_getElem?.1 hu
   have hlt:j<(views ds).length:=by rw[<-h1];exact(List.getElem?_eq_some_iff.1 hj).1
   have hx:=List.getElem?_eq_getElem hlt
   exact jm (hfl _ (List.getElem_mem hlt)) (h3 j _ u hx hj)
def Src.GK{R:Nat->Nat}{l:List UInt8}:Src P w R 1 l.length (l.map fun c=>.int .u8 c.toNat) (.string ⟨l.toArray⟩) (l.map fun c=>.int .u8 c.toNat)where
 len:=B_
 qA:=B_
 lenOf:=fun w'=>by simp[Builtin.lenOf,ByteArray.size]
 first:=fun w' _=>by
  have:(ByteArray.mk l.toArray).extract 0 l.length=⟨l.toArray⟩:=by
   apply ByteArray.ext
   rw[ByteArray.data_extract]
   simp
  simp[Builtin.firstCells,this]
 one:=fun u hu=>by
  simp only[List.mem_map]at hu
  obtain⟨x,_,rfl⟩:=hu
  rfl
 mq:=fun j c u hc hu=>by
  rw[List.getElem?_map]at hc hu
  cases hj:l[j]? with
  |none=>grind
  |some x=>rw[hj]at hc hu;simp at hc hu;rw[<-hc,<-hu];exact .int _ _
 fl:=BG l
section runs
variable{t t' ty e:TypeId}{i:TypeInfo}{z:Value}{sz m:Nat}{ds:List AV}{v:Value}{news:List Value}
def jj(ht:P.underlying t=some (.slice e))(ht':(∃e',P.underlying t'=some (.slice e'))\/P.underlying t'=some .string)(hi:P.info? e=some i)(hsz:i.size=sz){R:Nat->Nat}(hs:Src P w R sz m ds v news){b off k cap:Nat}
 (bP:k+m<=cap){w':World}(dQ:(storeCells ⟨b,off+k*sz,none⟩ news).run P w=.ok () w'):
 (Builtin.append_ #[t,t'] ty #[.slice (some ⟨b,off,none⟩) k cap,v]).run P w=.ok (.slice (some ⟨b,off,none⟩) (k+m) cap) w':=by
 subst hsz
 have h1:=hs.lenOf w
 have h2:=hs.first w rfl
 rcases ht' with⟨e',ht'⟩|ht'<;>
  simp[Builtin.append_,run_underlying ht,run_underlying ht',sizeOf,typeInfo,hi,h1,bP,h2,add_eq,dQ]
def nV(ht:P.underlying t=some (.slice e))(ht':(∃e',P.underlying t'=some (.slice e'))\/P.underlying t'=some .string)(hi:P.info? e=some i)(hsz:i.size=sz){R:Nat->Nat}(hs:Src P w R sz 0 ds v news):
 (Builtin.append_ #[t,t'] ty #[.slice none 0 0,v]).run P w=.ok (.slice none 0 0) w:=by
 subst hsz
 have h1:=hs.lenOf w
 have h2:=hs.first w rfl
 rcases ht' with⟨e',ht'⟩|ht'<;>
  simp[Builtin.append_,run_underlying ht,run_underlying ht',sizeOf,typeInfo,hi,h1,h2]
def rZ(ht:P.underlying t=some (.slice e))(ht':(∃e',P.underlying t'=some (.slice e'))\/P.underlying t'=some .string)(hi:P.info? e=some i)(hz:i.zero=some z)(hsz:i.size=sz){R:Nat->Nat}(hs:Src P w R sz m ds v news){base:Option Addr}{k cap:Nat}{olds:List Value}
 (hold:(Builtin.firstCells sz k (.slice base k cap)).run P w.drew=.ok olds.toArray w.drew)(bP:cap<k+m)(Ci:(k+m)*i.bytes<=room)(hb0:0<i.bytes):
 (Builtin.append_ #[t,t'] ty #[.slice base k cap,v]).run P w=.ok (.slice (some ⟨w.heap.size,0,none⟩) (k+m) (grownCap w (k+m) cap e))
   (w.drew.alloc (.cells (olds.toArray++news.toArray++Builtin.zeroCells z.cells (grownCap w (k+m) cap e -(k+m))) e)):=by
 subst hsz
 have h1:=hs.lenOf w
 have h2:=hs.first w.drew rfl
 have h3:¬(k+m<=cap):=AT
 have h4:¬(281474976710656<Builtin.nextslicecap (k+m) cap*i.bytes):=by have:=growslice_fits bP Ci;omega
 have h5:k+m<=(k+m)*i.bytes:=Nat.le_mul_of_pos_right _ hb0
 have h6:¬((9223372036854775807:Int)<(k:Int)+m):=by unfold room at Ci;omega
 rcases ht' with⟨e',ht'⟩|ht'<;>
  simp[Builtin.append_,run_underlying ht,run_underlying ht',sizeOf,typeInfo,zeroValue,hi,hz,h1,h3,h4,h6,Question.forced,hold,h2,newRow,grownCap]<;>
  (grind)
end runs
def Inv.grown(h:Inv G n D σ a w){d:Option Nat}(hd:bN n d=true){b off sz k m cap:Nat}{c:Array Value}{t:TypeId}{fz:Nat×Nat}{cs ds:List AV}{v:Value}{news:List Value}{R:Nat->Nat}
 (hb:w.heap[b]? =some (.cells c t fz))(hfz:(∀j,j<c.size->¬(fz.1<=j/\j<fz.2))/\fz.1<=fz.2)(hof:off=0)(hz0:fz=(0,0)\/(0<k/\0<sz/\∃x,c[0]? =some (.int .u8 x)))(hsp:∀(i:Nat)(y:Value),off+k*sz<=i->c[i]? =some y->y.oneCell'=true)(ho:∀i,d=some i->G.O b=.slot i 0)(hon:G.O b≠.none/\G.O b≠.frame/\G.O b≠.sh/\(∀i,G.O b≠.loc i)/\(∀i j,G.O b≠.cell i j)/\(∀i j,G.O b=.slot i j->d=some i/\j=0))
 (hR:G.R b=off+k*sz)(hsz:c.size=off+cap*sz)(gv:k+m<=cap)(hlc:cs.length=k*sz)(hat:At w G.R b off cs)(hs:Src P w R sz m ds v news)(hRR:R=G.R):
 ∃G',Inv G' n D (σ.put d (.sl true sz (k+m) (cs++ds))) (a.put d (.slice (some ⟨b,off,none⟩) (k+m) cap)) (w.setRow b (laid c (off+k*sz) news))/\aR G w G' (w.setRow b (laid c (off+k*sz) news)):=by
 subst hRR
 have dH:off+k*sz+news.length<=c.size:=by
  rw[hs.len,hsz,Nat.add_assoc,<-Nat.add_mul]
  exact Nat.add_le_add_left (Nat.mul_le_mul_right _ gv) _
 let G':=G.wT b (G.O b) (off+(k+m)*sz)
 have hmul:(k+m)*sz=k*sz+m*sz:=Nat.add_mul ..
 have cM:aR G w G' (w.setRow b (laid c (off+k*sz) news)):=aR.write hb ⟨hon.2.1,hon.1⟩
  (fun j hj=>by rw[hR]at hj;rw[l7 _ _ _ dH,if_neg AT]) (by simp only[G',Gh.VQ,if_true,hR,hmul];omega) (fun b' hb'=>t_)
 have m7:cS G' (w.setRow b (laid c (off+k*sz) news)):=by
  have hlt:b<w.heap.size:=h.bF.lt hon.1
  refine⟨fun b' hb'=>?_,fun b' hb'=>?_⟩
  ·have u5:w.heap.size<=b':=Xa0
   have:b'≠b:=AT
   simp[G',this,h.bF.mn b' u5]
  ·have u5:w.heap.size<=b':=Xa0
   have:b'≠b:=AT
   simp[G',this,h.bF.nc b' u5]
 have same:∀b',b'≠b->G'.O b'=G.O b'/\G'.R b'=G.R b'/\(w.setRow b (laid c (off+k*sz) news)).heap[b']? =w.heap[b']? :=fun b' hb'=>⟨t_,t_,setRow_other w b b' _ hb'⟩
 have dQ:=h.store.mono h.bF cM (fun b' hb'=>by
  grind) (fun b' c' j _ hc'=>by
  grind)
 have:=h.put (s':=σ.s) (lp':=σ.lp) d (fun i hi=>J_) (.sl true sz (k+m) (cs++ds)) (.slice (some ⟨b,off,none⟩) (k+m) cap) m7 cM dQ (fun _ hx=>hx) (fun i t _ ht=>ht.elim) (fun i t _⟨cs',yV⟩=>Ψ)
  (fun i b' hdi hb'=>same b' (fun e=>A_))
  (fun i b' c' j hdi hb' hc'=>A_)
  (fun i hi=>by
    obtain⟨u,u1,u2,u3⟩:=hat
    subst hi
    refine⟨?_,?_⟩
    ·have hll:(cs++ds).length=(k+m)*sz:=by rw[List.length_append,hlc,hs.qA,hmul]
     refine .sl true sz (k+m) (cs++ds) b off cap (fun j=>if j<k*sz then u j else news.getD (j -k*sz) undef) (fun x hx=>?_) hll (by rw[hll];simp[G']) gv (fun j x hj=>?_) (fun j x hj=>?_)
     ·rcases List.mem_append.1 hx with hx|hx
      ·exact u3 x hx
      ·exact hs.fl x hx
     ·rw[tV hb,if_pos rfl,l7 _ _ _ dH]
      have hjl:j<(k+m)*sz:=by rw[<-hll];exact(List.getElem?_eq_some_iff.1 hj).1
      by_cases hjk:j<k*sz
      ·rw[if_neg AT,if_pos hjk]
       grind [List.getElem?_append_left,cell_of_row]
      ·have h1:=hs.len
       grind
     ·by_cases hjk:j<k*sz
      ·rw[if_pos hjk]
       rw[List.getElem?_append_left A_]at hj
       exact cM.vr h.bF (u2 j x hj)
      ·rw[if_neg hjk]
       rw[List.getElem?_append_right A_,hlc]at hj
       have h1:=hs.len
       have h2:=hs.qA
       have hlt:j -k*sz<news.length:=Xa1
       have hn:news[j -k*sz]? =some (news.getD (j -k*sz) undef):=by simp[List.getD_eq_getElem?_getD,hlt]
       exact cM.vr h.bF (hs.mq _ x _ hj hn)
    ·intro base m' dw hv hc
     injection hv with e1 e2 e3
     subst e3
     exact⟨b,off,_,t,fz,e1.symm,by simp only[G',Gh.Q6,if_true];grind,by simp[G'],setRow_heap w b c _ t fz hb,by grind [qy],by rw[qy _ _ _ dH];exact⟨hfz.1,hfz.2,hof,hz0.imp id fun⟨z1,z2,x,z3⟩=>⟨AT,x,by
      have zp:0<k*sz:=Nat.mul_pos z1 z2
      rw[l7 _ _ _ dH,if_neg AT];exact z3⟩,fun i y hi hy=>by
      rw[l7 _ _ _ dH]at hy
      split at hy
      ·exact hs.one _ (List.mem_of_getElem? hy)
      grind⟩⟩)
 exact⟨G',Xd1,cM⟩
def AM:Option Nat->dp
 |some i=>.slot i 0
 |none=>.res 0
def DM{e:TypeId}{sz:Nat}(h:yF P e sz=true):∃i z,P.info? e=some i/\i.zero=some z/\z.cells.size=sz/\∀y∈z.cells.toList,y.oneCell'=true:=by
 unfold yF at h
 grind
theorem vO{zs:Array Value}(h:∀y∈zs.toList,y.oneCell'=true)(q:Nat):∀y∈(Builtin.zeroCells zs q).toList,y.oneCell'=true:=by
 intro y hy
 rw[show Builtin.zeroCells zs q=((List.replicate q zs.toList).flatten).toArray from uh zs q]at hy
 simp only[List.mem_flatten,List.mem_replicate]at hy
 grind
theorem J1(h:Inv G n D σ a w){op:Op}{ty:TypeId}{sz by':Nat}{x y:IX}{d:Option Nat}{K:St->Prop}(hd:bN n d=true)(hc:aD P op ty (.append sz by' x y)=true)(hw:ki P (.append sz by' x y) d σ K):qW P G n D w a op ty d K:=by
 cases op<;>first|(simp[aD]at hc;done)|skip
 rename_i c
 simp only[aD]at hc
 split at hc<;>try(cases hc;done)
 rename_i u v t t' hb
 have hce:=rm hb
 subst hce
 simp only[Bool.and_eq_true]at hc
 obtain⟨⟨hu,hv⟩,hc⟩:=hc
 split at hc<;>try(cases hc;done)
 rename_i e ht
 have ht:=dq ht
 simp only[Bool.and_eq_true]at hc
 obtain⟨⟨⟨⟨⟨hs,hby⟩,jR⟩,xz⟩,hzl⟩,ht'⟩:=hc
 obtain⟨i,z,hi,hz,hzs,hz1⟩:=DM hzl
 obtain⟨i',hi',qp⟩:=lE hs
 rw[hi]at hi';injection hi' with hi';subst hi'
 have jR:=of_decide_eq_true jR
 have xz:=of_decide_eq_true xz
 have hby:i.bytes=by':=by
  unfold lS at hby
  rw[hi]at hby
  simpa using hby
 have ht2:(∃e',P.underlying t'=some (.slice e'))\/P.underlying t'=some .string:=by
  rcases Bool.or_eq_true .. ▸ht' with h|h
  ·grind [cZ,dq]
  ·grind [yz]
 have hw':mT sz by' σ x d K (σ.x x) (σ.x y):=hw
 have key:∃k m cs ds news,σ.x x=.sl true sz k cs/\Src P w G.R sz m ds (a.eval v) news/\(k+m)*by'<=room/\K ((σ.drain x).put d (.sl true sz (k+m) (cs++ds))):=by
  have hbx:=XR.bn h hu
  have hby:=XR.bn h hv
  generalize hx:σ.x x=xv at hw' hbx
  generalize hy:σ.x y=yv at hw' hby
  unfold mT at hw'
  split at hw'<;>try(exact hw'.elim)
  ·rename_i s k cs o s' m ds
   obtain⟨rfl,h2,h3,h4⟩:=hw'
   obtain⟨news,fN⟩:=Src.Vj (P:=P) hby h2
   grind
  ·rename_i s k cs ds
   obtain⟨rfl,h2,h3,h4⟩:=hw'
   subst h2
   have e1:=VR.jC hby
   exact⟨k,ds.length,cs,_,_,rfl,by rw[e1];exact Src.GK,h3,h4⟩
 obtain⟨k,m,cs,ds,news,hx,fN,bP,hk⟩:=key
 have hiv:ee (σ.x x)=true:=by rw[hx];rfl
 obtain⟨G1,h1,hp1,hv1,vC,hR1,hsh,Ix,gl⟩:=h.drain hu hiv (AM d) Xa2 Xa2
 rw[hx]at hv1 vC
 have qq:Src P w G1.R sz m ds (a.eval v) news:=by rw[hR1];exact fN
 have grow:∀(base:Option Addr)(cap:Nat)(olds:List Value),a.eval u=.slice base k cap->cap<k+m->olds.length=k*sz->cs.length=k*sz->Fl cs->
  (Builtin.firstCells sz k (.slice base k cap)).run P w.drew=.ok olds.toArray w.drew->(∀(j:Nat)(c:AV)(u:Value),cs[j]? =some c->olds[j]? =some u->VR w G1.R c u)->
  qW P G n D w a (.call {callee:=.builtin .append,args:= #[u,v],argTypes:= #[t,t']}) ty d K:=by
  intro base cap olds e1 Ck hol hcl hcf hold tg
  have cG:=rZ (ty:=ty) ht ht2 hi hz qp qq hold Ck A_ A_
  have hge:k+m<=grownCap w (k+m) cap e:=grownCap_ge w (k+m) cap e
  obtain⟨G2,h3,h4⟩:=(h1.drew).PO (t:=e) (c:=olds.toArray++news.toArray++Builtin.zeroCells z.cells (grownCap w (k+m) cap e -(k+m))) (m:=k+m) (cs:=cs++ds) (cap:=grownCap w (k+m) cap e) (sz:=sz) (ob:=match d with|some i=>.slot i 0|none=>.none) hd
   (fun i hi=>χ) (fun hn=>ω) (by rw[List.length_append,hcl,fN.qA,Nat.add_mul]) hge (by
     simp only[Array.size_append,List.size_toArray,size_zeroCells,hol,fN.len,hzs,<-Nat.add_mul]
     grind) (fun c hc=>by
     rcases List.mem_append.1 hc with hc|hc
     ·exact hcf c hc
     ·exact fN.fl c hc)
   (fun j x hj=>by
     have hl1:=fN.len
     have hl2:=fN.qA
     by_cases hjk:j<k*sz
     ·rw[List.getElem?_append_left A_]at hj
      have hlt:j<olds.length:=by rw[hol];exact hjk
      refine⟨olds[j],?_,?_⟩
      ·grind
      ·exact(aR.drew G1 w).vr h1.bF (tg j x _ hj (List.getElem?_eq_getElem hlt))
     ·rw[List.getElem?_append_right A_,hcl]at hj
      have hlt:j -k*sz<news.length:=Xa1
      refine⟨news[j -k*sz],?_,?_⟩
      ·grind
      ·exact(aR.drew G1 w).vr h1.bF (qq.mq _ x _ hj (List.getElem?_eq_getElem hlt))) (0,0) ⟨fun k _ hk=>by simp at hk,Nat.le_refl _⟩ (own:=true) (fun _=>.inl rfl) (fun i y hi hy=>by
     rw[Array.append_assoc,<-Array.append_assoc,Array.getElem?_append_right (by simp only[Array.size_append,List.size_toArray,hol,fN.len,<-Nat.add_mul];exact hi)]at hy
     grind [vO,List.mem_of_getElem?])
  intro pos after gd next Q hn
  refine bp ?_ (hn G2 _ _ _ h3 (hp1.trans ((aR.drew G1 w).trans h4)) hk)
  simp[execOp,resolve,invoke,builtin,e1,cG]
 rcases VR.jd hv1 with⟨e0,rfl,rfl⟩|⟨b,off,cap,e1,hcl,hRb,gv,hat⟩
 ·
  have e1:=e0.own
  by_cases hm:m=0
  ·subst hm
   have hds:ds=[]:=List.eq_nil_of_length_eq_zero Φ
   subst hds
   have cG:=nV (ty:=ty) ht ht2 hi qp qq
   have xC:Inv G1 n D ((σ.drain x).put d (.sl true sz 0 [])) (a.put d (.slice none 0 0)) w:=by
    have:=h1.put (s':=(σ.drain x).s) (lp':=(σ.drain x).lp) d (fun i hi=>J_) (.sl true sz 0 []) (.slice none 0 0) h1.bF (aR.refl G1 w) h1.store (fun _ hx=>hx) (fun i t _ ht=>ht.elim) (fun i t _⟨cs,hcs⟩=>Q_)
     (fun _ _ _ _=>⟨rfl,rfl,rfl⟩) (fun _ _ _ _ _ _ hcc=>⟨hcc,rfl,rfl⟩) (fun i hdi=>⟨.slnil _ _,fun base m' dw hv hc=>A_⟩)
    cases d<;>exact this
   intro pos after gd next Q hn
   refine bp (w':=w) ?_ (hn G1 _ _ _ xC hp1 hk)
   simp[execOp,resolve,invoke,builtin,e1,cG]
  ·exact grow none 0 [] e1 AT B_ B_ Fl.nil h_ (fun j c u hc=>L_)
 ·by_cases dH:k+m<=cap
  ·by_cases hm:m=0
   ·subst hm
    have hds:ds=[]:=List.eq_nil_of_length_eq_zero Φ
    have vB:news=[]:=List.eq_nil_of_length_eq_zero Xa3
    subst hds;subst vB
    have cG:=jj (ty:=ty) (w:=w) ht ht2 hi qp qq (b:=b) (off:=off) (k:=k) (cap:=cap) dH (w':=w) rfl
    simp only[List.append_nil,Nat.add_zero]at hk cG
    have xC:Inv G1 n D ((σ.drain x).put d (.sl true sz k cs)) (a.put d (a.eval u)) w:=by
     have:=h1.put (s':=(σ.drain x).s) (lp':=(σ.drain x).lp) d (fun i hi=>J_) (.sl true sz k cs) (a.eval u) h1.bF (aR.refl G1 w) h1.store (fun _ hx=>hx) (fun i t _ ht=>ht.elim) (fun i t _⟨cs,hcs⟩=>Q_)
      (fun _ _ _ _=>⟨rfl,rfl,rfl⟩) (fun _ _ _ _ _ _ hcc=>⟨hcc,rfl,rfl⟩) (fun i hdi=>by subst hdi;exact⟨hv1,vC⟩)
     cases d<;>exact this
    intro pos after gd next Q hn
    refine bp (w':=w) ?_ (hn G1 _ _ _ xC hp1 hk)
    simp[execOp,resolve,invoke,builtin,e1,cG]
   ·obtain⟨b',Xy,c,et,fz,q1,q2,q3,q4,q5,q6⟩:=vC _ _ _ e1 AT
    injection q1 with q1;injection q1 with q1 q1'
    subst q1;subst q1'
    have hon:G1.O b≠.none/\G1.O b≠.frame/\G1.O b≠.sh/\(∀i,G1.O b≠.loc i)/\(∀i j,G1.O b≠.cell i j)/\(∀i j,G1.O b=.slot i j->d=some i/\j=0):=by
     rw[q2]
     cases d with
     |none=>simp[AM]
     |some i=>grind [AM]
    obtain⟨G2,h3,h4⟩:=h1.grown (k:=k) (m:=m) hd q4 ⟨q6.1,q6.2.1⟩ q6.2.2.1 (q6.2.2.2.1.imp id fun⟨z1,z2⟩=>⟨z1,jR,z2⟩) q6.2.2.2.2 (fun i hi=>by subst hi;exact q2) hon q3 q5 dH hcl hat qq rfl
    have O7:off+k*sz+news.length<=c.size:=by
     rw[fN.len,q5,Nat.add_assoc,<-Nat.add_mul]
     exact Nat.add_le_add_left (Nat.mul_le_mul_right _ dH) _
    have dQ:=eU (P:=P) b (off+k*sz) et fz news 0 c w q4 q6.1 A_ fN.one
    have cG:=jj (ty:=ty) (w:=w) ht ht2 hi qp qq (b:=b) (off:=off) (k:=k) (cap:=cap) dH (w':=w.setRow b (laid c (off+k*sz) news)) Xd2
    intro pos after gd next Q hn
    refine bp ?_ (hn G2 _ _ _ h3 (hp1.trans h4) hk)
    simp[execOp,resolve,invoke,builtin,e1,cG]
  ·have hfl:Fl cs:=Ω
   obtain⟨us,u1,u2,u3⟩:=hat.mq
   exact grow _ cap us e1 AT Xa4 hcl hfl (run_firstCells_some w.drew sz k ⟨b,off,none⟩ k cap us Xa4 u2) u3
end
section
variable{P:Program}{G G':Gh}{n:Nat}{D:List Deferred}{σ:St}{a:Act}{w w':World}
def Gh.outer(G:Gh):Gh:=⟨G.R,fun b=>match G.O b with
 |.none=>.none
 |.sh=>.sh
 |.cell b' j=>if G.O b'=.sh then .cell b' j else .frame
 |_=>.frame⟩
theorem oK{b:Nat}:G.outer.O b=.none↔G.O b=.none:=by grind [Gh.outer]
theorem nj{b:Nat}:G.outer.O b=.sh↔G.O b=.sh:=by grind [Gh.outer]
theorem CG{b b' j:Nat}:G.outer.O b=.cell b' j↔(G.O b=.cell b' j/\G.O b'=.sh):=by
 simp only[Gh.outer]
 grind
theorem lj{b:Nat}(h1:G.O b≠.none)(h2:G.O b≠.sh)(h3:∀b' j,G.O b=.cell b' j->G.O b'≠.sh):G.outer.O b=.frame:=by
 simp only[Gh.outer]
 grind
def pB(G:Gh):wV G.outer:=by
 intro b
 grind [oK,nj,CG,lj]
def Pu:List AV->Bool
 |[_]=>true
 |_=>false
def afM(single:Bool):Option Nat->Nat->dp
 |some i,j=>.slot i (if single then j else j+1)
 |none,_=>.none
def acC(single:Bool)(d:Option Nat):dp->dp
 |.none=>.none
 |.sh=>.sh
 |.cell b' j=>.cell b' j
 |.res j=>afM single d j
 |_=>.none
theorem Inv.args(h:Inv G n D σ a w){ys:List Operand}{xs:List IX}{as:List AV}(hc:jB ys xs=true)(hv:cQ (xg true σ) xs=some as):vp w G.R as (ys.map a.eval).toArray:=by
 have hf:∀(o:Operand)(x:IX),cj o x=true->ee (xg true σ x)=true->VR w G.R (xg true σ x) (a.eval o):=fun o x hx hi=>by
  have:=BR.bn h hx
  generalize xg true σ x=av at hi this
  cases av<;>first|exact this|grind [ee]
 obtain⟨h1,_,h3⟩:=sJ h hf ys xs as hc hv
 exact⟨by simp[h1],fun j c u hc hu=>h3 j c u hc A_⟩
def Inv.mG(h:Inv G n D σ a w):cS G.outer w/\bB G.outer w σ.s:=⟨⟨fun b hb=>oK.2 (h.bF.mn b hb),h.bF.nc⟩,h.store.xT (fun _ _ hv=>hv) (fun _ hb=>⟨nj.2 hb,rfl,rfl⟩) (fun _ _ _ hb hc=>⟨CG.2 ⟨hc,hb⟩,rfl,rfl⟩)⟩
def Dm{r:AV}(h:ku [r]=true):(∃sz m cs,r=.us sz m cs)\/(ee r=true/\∀sz m cs,r≠.us sz m cs):=by cases r<;>first|exact .inl ⟨_,_,_,rfl⟩|grind [ku,SD]
def Dl{r:AV}(h:ku [r]=true)(t:Nat):¬bS r t:=by
 rcases Dm h with⟨_,_,_,rfl⟩|⟨h,_⟩
 ·exact fun h=>h
 ·exact fA h t
def QG{r:AV}(h:ku [r]=true)(cs:List AV):r≠.loc cs:=by
 rcases Dm h with⟨_,_,_,rfl⟩|⟨h,_⟩
 ·grind
 ·exact nP h cs
theorem Inv.behind(h:Inv G n D σ a w){d:Option Nat}(hd:bN n d=true){rs:List AV}{s':ae}{v:Value}(hok:ku rs=true)(hg:cS G' w')(hs:bB G' w' s')(hr:ri G' w' rs v)(hp:aR G.outer w G' w'):
 ∃G2,Inv G2 n D ({σ with s:=s'}.put d (fS rs)) (a.put d v) w'/\aR G w G2 w':=by
 obtain⟨O2,hO2⟩:∃O2:Nat->dp,∀b,O2 b=if G.outer.O b=.frame then G.O b else acC (Pu rs) d (G'.O b):=⟨_,fun _=>rfl⟩
 let G2:Gh:=⟨G'.R,O2⟩
 have hfr:∀b,G.outer.O b=.frame->b<w.heap.size/\w'.heap[b]? =w.heap[b]? /\G'.O b=.frame/\G'.R b=G.R b/\G2.O b=G.O b:=by
  intro b hb
  have hlt:b<w.heap.size:=h.mG.1.lt iF
  obtain⟨q1,q2⟩:=hp.kq b hlt hb
  exact⟨hlt,hp.frame b hlt (.inl hb),q1,q2,(hO2 b).trans (if_pos hb)⟩
 have hnf:∀b,G.outer.O b≠.frame->G2.O b=acC (Pu rs) d (G'.O b):=by
  intro b hb
  exact(hO2 b).trans (if_neg hb)
 have m7:cS G2 w':=by
  refine⟨fun b hb=>?_,fun b hb=>hg.nc b hb⟩
  have hbs:w.heap.size<=b:=Nat.le_trans hp.size hb
  rw[hnf b A_,hg.mn b hb];rfl
 have cM:aR G w G2 w':=by
  refine⟨hp.os,hp.tape,hp.output,hp.drawn,hp.size,hp.mono,hp.nz,fun b hb ho=>?_,fun b hb ho=>?_,fun b hb ho=>?_⟩
  ·rcases ho with ho|ho
   ·grind [lj]
   ·exact hp.frame b hb (.inr (oK.2 ho))
  ·grind [lj]
  ·have ho':=oK.2 ho
   obtain⟨q1,q2⟩:=hp.qI b hb ho'
   exact⟨by rw[hnf b A_,q1];rfl,q2⟩
 have U0:∀b,(G'.O b=.sh\/∃b' j,G'.O b=.cell b' j)->G2.O b=G'.O b:=by
  intro b hb
  by_cases hf:G.outer.O b=.frame
  ·grind
  ·rw[hnf b hf]
   rcases hb with hb|⟨_,_,hb⟩<;>rw[hb]<;>rfl
 have dQ:bB G2 w' s':=hs.xT (fun _ _ hv=>hv) (fun b hb=>⟨(U0 b (.inl hb)).trans hb,rfl,rfl⟩) (fun b c j _ hc=>⟨(U0 c (.inr ⟨b,j,hc⟩)).trans hc,rfl,rfl⟩)
 have kC:∀(i j:Nat)(x:AV)(y:Value),d=some i->ew G' w' (.res j) x y->ew G2 w' (.slot i (if Pu rs then j else j+1)) x y:=by
  intro i j x y hdi ho
  unfold ew at ho⊢
  split
  ·rename_i sz m cs
   intro base m' cap hv hc
   obtain⟨b,off,c,e,fz,q1,q2,q3⟩:=ho base m' cap hv hc
   refine⟨b,off,c,e,fz,q1,?_,q3⟩
   have hf:G.outer.O b≠.frame:=fun hf=>A_
   rw[hnf b hf,q2,hdi];rfl
  ·rename_i e m cs
   intro base m' cap hv hc
   obtain⟨b,off,c,fz,q1,q2,q3⟩:=ho base m' cap hv hc
   refine⟨b,off,c,fz,q1,?_,q3⟩
   have hf:G.outer.O b≠.frame:=fun hf=>A_
   rw[hnf b hf,q2,hdi];rfl
  ·trivial
 have xC:=h.put (s':=s') (lp':=σ.lp) d (fun i hi=>J_) (fS rs) v m7 cM dQ (fun _ hx=>hx)
  (fun i t _ ht=>by
    match rs,hok,ht with
    |[r],hok,ht=>exact(Dl hok t ht).elim
    |[],_,ht=>exact ht.elim
    |_::_::_,_,ht=>exact ht.elim)
  (fun i t _⟨cs,hcs⟩=>by
    match rs,hok,hcs with
    |[r],hok,hcs=>exact(QG hok cs hcs).elim
    |[],_,hcs=>cases hcs
    |_::_::_,_,hcs=>cases hcs)
  (fun i b _ hb=>by grind [lj,q2])
  (fun i b c j _ hb hc=>by grind [lj,q2])
  (fun i hi=>by
    match rs,hok,hr,kC with
    |[r],hok,hr,kC=>
     show dT G2 w' _ _ i r v
     rcases Dm hok with⟨sz,m,cs,rfl⟩|⟨hV,hnu⟩
     ·rcases hr with hr|⟨b,cap,c,t,sp,h1,h2,h3,h4,h5,h6⟩
      ·exact .inl hr
      ·refine .inr ⟨b,cap,c,t,sp,h1,h2,h3,?_,h5,h6⟩
       have hf:G.outer.O b≠.frame:=fun hf=>A_
       show O2 b=_
       rw[show O2 b=G2.O b from rfl,hnf b hf,h4,hi];rfl
     ·rw[dT.rT hV]
      have hr':VR w' G'.R r v/\ew G' w' (.res 0) r v:=by cases r<;>first|exact hr|grind
      exact⟨hr'.1,kC i 0 r v hi hr'.2⟩
    |[],_,hr,kC=>
     obtain⟨ys,q1,q2⟩:=hr
     exact⟨ys,q1,q2.1,fun j x y hx=>s_⟩
    |r1::r2::rr,_,hr,kC=>
     obtain⟨ys,q1,q2⟩:=hr
     exact⟨ys,q1,q2.1,fun j x y hx hy=>⟨(q2.2 j x y hx hy).1,kC i j x y hi (q2.2 j x y hx hy).2⟩⟩)
 exact⟨G2,by cases d<;>exact xC,cM⟩
def EK(h:Inv G n D σ a w){op:Op}{ty:TypeId}{d:Option Nat}{K:St->Prop}(hd:bN n d=true){f:FuncId}{as:List AV}{vs:Array Value}
 (hr:∀(pos:String)(after:Array Edge)(g:Option (Nat×Bool)),(execOp a.eval ⟨d,op,ty,pos,after,g⟩).run P w=.ok (.enter f vs) w)(ha:vp w G.R as vs)(hw:FN P f as σ.s (Ld σ d K)):qW P G n D w a op ty d K:=by
 intro pos after g next Q hn
 unfold Oper.wp
 rw[hr pos after g]
 obtain⟨g1,g2⟩:=h.mG
 refine(hw G.outer w vs g1 (pB G) g2 ha).mono fun e w'⟨v,rs,s',G',he,⟨hok,hk⟩,q1,q2,q3,q4⟩=>?_
 subst he
 obtain⟨G2,h1,h2⟩:=h.behind hd hok q1 q2 q3 q4
 grind
theorem mh{f:FuncId}{fn:Func}(hf:P.funcs[f]? =some fn)(aaM:(fn.name != "runtime.NumGoroutine")=true)(hb:fn.body.isSome=true)(args:Array Value):(callFunc f args).run P w=.ok (.enter f args) w:=by
 have h1:¬(fn.name= "runtime.NumGoroutine"):=by simpa using aaM
 have h2:fn.body.isNone=false:=by cases hbb:fn.body<;>simp_all
 have h3:fn.body≠none:=by intro e;rw[e]at hb;cases hb
 simp[callFunc,hf,h1,h3]
theorem Im(h:Inv G n D σ a w){op:Op}{ty:TypeId}{f:Nat}{args:List IX}{d:Option Nat}{K:St->Prop}(hd:bN n d=true)(hc:aD P op ty (.call f args)=true)(hw:ki P (.call f args) d σ K):qW P G n D w a op ty d K:=by
 cases op<;>first|(simp[aD]at hc;done)|skip
 rename_i c
 obtain⟨callee,ys,ats⟩:=c
 simp only[aD]at hc
 split at hc<;>try(cases hc;done)
 rename_i g
 simp only[Bool.and_eq_true,beq_iff_eq]at hc
 obtain⟨⟨rfl,hxs⟩,hfn⟩:=hc
 split at hfn<;>try(cases hfn;done)
 rename_i fn hf
 rw[Bool.and_eq_true]at hfn
 have hw':vu P f σ d K (cQ (xg true σ) args):=hw
 cases has:cQ (xg true σ) args with
 |none=>rw[has]at hw';exact hw'.elim
 |some as=>
  rw[has]at hw'
  refine EK h hd (as:=as) (vs:=ys.map a.eval) (fun _ _ _=>?_) ?_ hw'
  ·simp[execOp,resolve,Act.eval,Deferred.ofValue,invoke,mh hf hfn.1 hfn.2]
  ·have:=h.args hxs has
   rwa[show(ys.toList.map a.eval).toArray=ys.map a.eval from by grind]at this
def JP{t:TypeId}{m:Nat}(h:lS P t m=true):∃i,P.info? t=some i/\i.bytes=m:=by grind [lS]
theorem zD{c:Int}(h0:0<=c)(h1:c<=9223372036854775807):IntKind.i64.wrap c=c:=by rw[IntKind.wrap_i64];omega
def QA{c:Int}{by':Nat}(h0:0<=c)(hb:0<by')(hr:c*by'<=room):c<=room/\IntKind.i64.wrap c=c/\¬(281474976710656<by'*c):=by
 have h1:c<=c*by':=by
  have:=Int.mul_le_mul_of_nonneg_left (show(1:Int)<=by' by omega) h0
  omega
 grind [room,Int.le_trans,zD,Int.mul_comm]
theorem xu{α:Type}(u:α)(l:List α):∀(m:Nat),((List.replicate m l).flatten)=((List.range (m*l.length)).map fun i=>l.getD (i % l.length) u):=by
 intro m
 apply List.ext_getElem?
 intro j
 rcases Nat.eq_zero_or_pos l.length with h0|hp
 ·simp_all
 ·induction m generalizing j with
  |zero=>simp
  |succ m ih=>
   rw[List.replicate_succ,List.flatten_cons]
   by_cases hj:j<l.length
   ·rw[List.getElem?_append_left hj,List.getElem?_map,List.getElem?_range A_]
    simp[Nat.mod_eq_of_lt hj,List.getD_eq_getElem?_getD,List.getElem?_eq_getElem hj]
   ·rw[List.getElem?_append_right AT,ih,List.getElem?_map,List.getElem?_map]
    by_cases hlt:j<(m+1)*l.length
    ·have h1:j -l.length<m*l.length:=by rw[Nat.add_mul,Nat.one_mul]at hlt;omega
     grind [List.getElem?_range,Nat.mod_eq_sub_mod]
    grind
def run_makeSlice{t e:TypeId}{i:TypeInfo}{z:Value}{l c:Int}{k k':IntKind}(ht:P.underlying t=some (.slice e))(hi:P.info? e=some i)(hz:i.zero=some z)(hsz:z.cells.size=i.size)(hb:0<i.bytes)(h0:0<=l)(hlc:l<=c)(hr:c*i.bytes<=room)(w:World):
 (Instr.makeSlice t (.int k l) (.int k' c)).run P w=.ok (.slice (some ⟨w.heap.size,0,none⟩) l.toNat c.toNat) (w.alloc (.cells ((List.replicate c.toNat z.cells.toList).flatten).toArray e)):=by
 obtain⟨h1,h2,h3⟩:=QA (Int.le_trans h0 hlc) hb hr
 have h4:IntKind.i64.wrap l=l:=zD AT (by grind [room])
 have h5:¬(c<0):=AT
 have h6:¬(l<0):=AT
 have h7:¬(c<l):=AT
 have ft:(Array.map (fun x=>(if c.toNat*i.size=0 then(#[]:Array Value)else z.cells)[x % (if c.toNat*i.size=0 then(#[]:Array Value)else z.cells).size]!) (Array.range (c.toNat*i.size)))=((List.replicate c.toNat z.cells.toList).flatten).toArray:=by
  rw[<-uh,hsz]
  by_cases hn:c.toNat*i.size=0
  ·simp[hn]
  ·grind
 by_cases hn:c.toNat*i.size=0
 ·simp only[hn,if_true]at ft
  simp[Instr.makeSlice,asInt,asIntOf,run_underlying ht,typeInfo,sizeOf,hi,h2,h4,h3,h5,h6,h7,newRow,hn,<-ft]
 ·simp only[hn,if_false]at ft
  simp[Instr.makeSlice,asInt,asIntOf,run_underlying ht,typeInfo,sizeOf,hi,h2,h4,h3,h5,h6,h7,newRow,hn,zeroValue,hz,ft]
theorem MQ(h:Inv G n D σ a w){op:Op}{ty:TypeId}{x:IX}{args:List IX}{d:Option Nat}{K:St->Prop}(hd:bN n d=true)(hc:aD P op ty (.iq x args)=true)(hw:ki P (.iq x args) d σ K):qW P G n D w a op ty d K:=by
 cases op<;>first|(simp[aD]at hc;done)|skip
 rename_i c
 obtain⟨callee,ys,ats⟩:=c
 simp only[aD]at hc
 split at hc<;>try(cases hc;done)
 rename_i y
 simp only[Bool.and_eq_true]at hc
 obtain⟨hx,hxs⟩:=hc
 have hb:=BR.bn h hx
 have hw':vY P σ (cQ (xg true σ) args) d K (xg true σ x):=hw
 generalize xg true σ x=xv at hb hw'
 unfold vY at hw'
 split at hw'<;>try(exact hw'.elim)
 rename_i f first jv
 cases has:cQ (xg true σ) args with
 |none=>rw[has]at hw';exact hw'.elim
 |some as=>
  rw[has]at hw'
  have hv:VR w G.R (.fn f first jv) (a.eval y):=hb
  generalize hev:a.eval y=yv at hv
  cases hv with
  |fn _ _ _ vf vc hl hr hl' hr'=>
  have Iv:=h.args hxs has
  obtain⟨hfs,hw'⟩:=hw'
  unfold we at hfs
  split at hfs<;>try(cases hfs;done)
  rename_i fn hf
  rw[Bool.and_eq_true]at hfs
  refine EK h hd (as:=first++as++jv) (vs:=vf++(ys.toList.map a.eval).toArray++vc) (fun _ _ _=>?_) ?_ hw'
  ·rw[show(ys.toList.map a.eval).toArray=ys.map a.eval from by grind]
   simp[execOp,resolve,hev,Deferred.ofValue,invoke,mh hf hfs.1 hfs.2]
  ·refine⟨by have:=Iv.1;grind,fun j c u hc hu=>?_⟩
   have h1:=Iv.1
   rw[List.append_assoc,List.getElem?_append]at hc
   rw[Array.append_assoc,Array.getElem?_append]at hu
   by_cases hj:j<first.length
   ·grind
   ·rw[if_neg hj,List.getElem?_append]at hc
    rw[if_neg AT,Array.getElem?_append,hl,h1]at hu
    by_cases hj2:j -first.length<as.length
    ·rw[if_pos hj2]at hc hu
     exact Iv.2 _ c u hc hu
    grind
theorem J6(h:Inv G n D σ a w){op:Op}{ty:TypeId}{sz by':Nat}{z:List AV}{l c:IX}{d:Option Nat}{K:St->Prop}(hd:bN n d=true)(hc:aD P op ty (.l8 sz by' z l c)=true)(hw:ki P (.l8 sz by' z l c) d σ K):qW P G n D w a op ty d K:=by
 cases op<;>first|(simp[aD]at hc;done)|skip
 rename_i t l' c'
 simp only[aD,Bool.and_eq_true]at hc
 obtain⟨⟨hl,hcc⟩,hc⟩:=hc
 split at hc<;>try(cases hc;done)
 rename_i e he
 simp only[Bool.and_eq_true,decide_eq_true_eq]at hc
 obtain⟨⟨⟨⟨hs,hby⟩,hz⟩,hsz⟩,hbp⟩:=hc
 have hb1:=BR.bn h hl
 have hb2:=BR.bn h hcc
 have hw':xQ by' z σ d K (xg true σ l) (xg true σ c):=hw
 generalize xg true σ l=lv at hb1 hw'
 generalize xg true σ c=cv at hb2 hw'
 unfold xQ at hw'
 split at hw'<;>try(exact hw'.elim)
 rename_i k l0 k' c0
 obtain⟨q1,q2,q3,q4⟩:=hw'
 obtain⟨i,v,h1,h2,h3,h4,h5⟩:=uS hz
 obtain⟨i',h6,h7⟩:=JP hby
 rw[h1]at h6;injection h6 with h6;subst h6
 have e1:=VR.dI hb1
 have e2:=VR.dI hb2
 have U2:=h4 w G.R
 have oA:v.cells.toList.length=z.length:=by simpa using U2.1
 have hfl:Fl (List.replicate c0.toNat z).flatten:=by
  intro x hx
  simp only[List.mem_flatten,List.mem_replicate]at hx
  obtain⟨l',⟨_,rfl⟩,hx⟩:=hx
  exact U2.2.2 x hx
 have hcs:∀(G':Gh)(w':World)(o:Nat->dp),aR G w G' w'->dS G' w' o (List.replicate c0.toNat z).flatten ((List.replicate c0.toNat v.cells.toList).flatten).toArray:=by
  intro G' w' o _
  have dY:∀(j:Nat)(x:AV)(y:Value),((List.replicate c0.toNat z).flatten)[j]? =some x->((List.replicate c0.toNat v.cells.toList).flatten)[j]? =some y->cR y x=true:=by
   intro j x y hx hy
   have hjz:(List.replicate c0.toNat z).flatten=(List.range (c0.toNat*z.length)).map fun i=>z.getD (i % z.length) .undef:=xu .undef z c0.toNat
   have hjv:(List.replicate c0.toNat v.cells.toList).flatten=(List.range (c0.toNat*z.length)).map fun i=>v.cells.toList.getD (i % z.length) undef:=by rw[xu undef,oA]
   rw[hjz,List.getElem?_map]at hx
   rw[hjv,List.getElem?_map]at hy
   cases hrg:(List.range (c0.toNat*z.length))[j]? with
   |none=>grind
   |some q=>grind [Option.some.injEq,Nat.eq_zero_or_pos,Nat.mod_lt]
  refine⟨by simp[oA],fun j x y hx hy=>?_⟩
  have:=dY j x y hx A_
  exact⟨xi this w' G'.R,BH this G' w' _⟩
 obtain⟨G',g1,g2⟩:=h.KA hd (t:=e) (.inr ⟨l0.toNat,c0.toNat,rfl,rfl⟩) hcs hfl
 intro pos after g next Q hn
 refine bp (v:=.slice (some ⟨w.heap.size,0,none⟩) l0.toNat c0.toNat) (w':=w.alloc (.cells ((List.replicate c0.toNat v.cells.toList).flatten).toArray e)) ?_ (hn G' _ _ _ g1 g2 (q4 w.heap.size (h.store.get_none h.bF)))
 have:=run_makeSlice (k:=k) (k':=k') (dq he) h1 h2 A_ AT q1 q2 A_ w
 simp[execOp,e1,e2,this]
end
end Go.AB
end
section
namespace Go.AB
open Go Go.MapKept
section
variable{P:Program}{w:World}
end
end Go.AB
end
section
namespace Go.AB
open Go Go.MapKept
section
variable{P:Program}{G:Gh}{n:Nat}{D:List Deferred}{σ:St}{a:Act}{w:World}
def Inv.Qh(h:Inv G n D σ a w){d:Option Nat}(hd:bN n d=true){av:AV}{v:Value}(hi:ee av=true)(hv:VR w G.R av v):Inv G n D (σ.put d (view av)) (a.put d v) w:=by
 have h2:NR G w σ a (view av) v:=NR.view hi hv
 have:=h.put (s':=σ.s) (lp':=σ.lp) d (fun i hi=>J_) (view av) v h.bF (aR.refl G w) h.store (fun _ hx=>hx) (fun i t _ ht=>(fA (lZ hi) t ht).elim) (fun i t _⟨cs,hcs⟩=>(nP (lZ hi) cs hcs).elim)
  (fun _ _ _ _=>⟨rfl,rfl,rfl⟩) (fun _ _ _ _ _ _ hcc=>⟨hcc,rfl,rfl⟩) (fun i hdi=>dT.xS hi hv)
 cases d<;>exact this
theorem J4(h:Inv G n D σ a w){op:Op}{ty:TypeId}{x:IX}{d:Option Nat}{K:St->Prop}(hd:bN n d=true)(hc:aD P op ty (.my x)=true)(hw:ki P (.my x) d σ K):qW P G n D w a op ty d K:=by
 cases op<;>first|(simp[aD]at hc;done)|skip
 rename_i s t y
 cases x with
 |c _=>simp[aD]at hc
 |t i=>
 simp only[aD,Bool.and_eq_true,beq_iff_eq]at hc
 obtain⟨⟨hy,rfl⟩,hc⟩:=hc
 split at hc<;>try(cases hc;done)
 rename_i e ht
 split at hc<;>try(cases hc;done)
 rename_i he
 have hw':Ts σ d K (Di (xg true σ (.t i))):=hw
 have ft:∃m x0 cs cs',cs=.int .u8 x0::cs'/\xg true σ (.t i)=.sl true 1 (m+1) cs/\K (σ.put d (.sl false 1 (m+1) cs)):=by
  generalize xg true σ (.t i)=xv at hw'
  unfold Di at hw'
  split at hw'
  ·exact⟨_,_,_,_,rfl,rfl,hw'⟩
  ·exact hw'.elim
 obtain⟨m,x0,cs,cs',hcs,hx,hK⟩:=ft
 have hx':look σ.e i=.sl true 1 (m+1) cs\/look σ.e i=.when true (.sl true 1 (m+1) cs):=by
  have hx2:vK true (look σ.e i)=.sl true 1 (m+1) cs:=hx
  generalize look σ.e i=av at hx2
  cases av<;>first|exact .inl hx2|skip
  rename_i b a'
  have hx2:(bif(b==true||b)&&inner a' then a' else .undef)=.sl true 1 (m+1) cs:=hx2
  cases b with
  |false=>simp at hx2
  |true=>grind
 have hin:i<n:=h.Cy (fun e=>A_)
 have hey:a.tmps[i]? =some (a.eval y):=by
  have hyy:y=.tmp i:=by
   cases y<;>simp[cj]at hy
   rw[hy]
  subst hyy
  exact gB Xc9
 have hsl:VR w G.R (.sl true 1 (m+1) cs) (a.eval y)/\ew G w (.slot i 0) (.sl true 1 (m+1) cs) (a.eval y):=by
  have hs:=h.da i _ hey
  rcases hx' with h'|h'<;>rw[h']at hs
  ·exact hs
  ·exact hs.1 rfl
 obtain⟨hvr,wo⟩:=hsl
 rcases VR.jd hvr with⟨_,hm0,_⟩|⟨b0,Xz,aah,e1,hl,hR,gv,hat⟩
 ·omega
 obtain⟨b,off,c,et,fz,q1,q2,q3,q4,q5,q6⟩:=wo _ _ _ e1 (.inr AT)
 injection q1 with q1;injection q1 with q1 q1' _
 subst q1;subst q1'
 let fz':Nat×Nat:=if fz.1==fz.2 then(c.size,c.size+1)else(min fz.1 c.size,max fz.2 (c.size+1))
 let w':World:=w.freeze ⟨b0,c.size,none⟩ 1
 have hlt:b0<w.heap.size:=(Array.getElem?_eq_some_iff.1 q4).1
 have hb0:w'.heap[b0]? =some (.cells c et fz'):=by
  show(w.freeze ⟨b0,c.size,none⟩ 1).heap[b0]? =_
  unfold World.freeze
  simp only[Nat.succ_ne_self,if_false,Array.getElem?_modify,if_true,q4,Option.map_some]
  rfl
 have aaP:∀k,k≠b0->w'.heap[k]? =w.heap[k]? :=by
  intro k hk
  show(w.freeze ⟨b0,c.size,none⟩ 1).heap[k]? =_
  unfold World.freeze
  simp only[Nat.succ_ne_self,if_false,Array.getElem?_modify]
  rw[if_neg (Ne.symm hk)]
 have hsz:w'.heap.size=w.heap.size:=by
  show(w.freeze ⟨b0,c.size,none⟩ 1).heap.size=_
  unfold World.freeze
  simp
 have gl:∀b k,w'.cell? ⟨b,k,none⟩=w.cell? ⟨b,k,none⟩:=by
  intro k j
  by_cases hk:k=b0
  ·grind [World.cell?]
  ·grind [World.cell?_of_block]
 have hfz:∀k,k<c.size->¬(fz'.1<=k/\k<fz'.2):=by
  intro k hk
  show¬((if fz.1==fz.2 then(c.size,c.size+1)else(min fz.1 c.size,max fz.2 (c.size+1)):Nat×Nat).1<=k/\k<(if fz.1==fz.2 then(c.size,c.size+1)else(min fz.1 c.size,max fz.2 (c.size+1)):Nat×Nat).2)
  by_cases hf:fz.1=fz.2
  ·grind
  ·have:(fz.1==fz.2)=false:=by simpa using hf
   rw[this]
   simp only[Bool.false_eq_true,if_false]
   intro hh
   have q7:=q6.2
   by_cases hc2:fz.1<c.size
   ·grind
   ·omega
 have aeQ:fz'.1<=fz'.2:=by
  show(if fz.1==fz.2 then(c.size,c.size+1)else(min fz.1 c.size,max fz.2 (c.size+1)):Nat×Nat).1<=(if fz.1==fz.2 then(c.size,c.size+1)else(min fz.1 c.size,max fz.2 (c.size+1)):Nat×Nat).2
  split
  ·grind
  ·grind
 have hp:aR G w G w':=⟨rfl,rfl,rfl,Nat.le_refl _,A_,fun _ _=>Nat.le_refl _,fun b k _ _=>gl b k,fun b _ hb=>aaP b (fun e=>A_),fun _ _ h=>⟨h,rfl⟩,fun _ _ h=>⟨h,rfl⟩⟩
 have hne:∀k,G.O k≠.slot i 0->w'.heap[k]? =w.heap[k]? :=fun k hk=>aaP k fun e=>hk A_
 have hI:Inv G n D σ a w':=by
  refine⟨⟨fun c hc=>h.bF.mn c A_,fun c hc=>h.bF.nc c A_⟩,?_,h.size,fun k v hk=>?_,h.EH,h.Kx,h.ry⟩
  ·exact h.store.mono h.bF hp (fun b hb=>⟨hb,rfl,hne b iF⟩) (fun b c j _ hc=>⟨hc,rfl,hne c (by rw[hc];simp)⟩)
  ·by_cases hki:k=i
   ·subst hki
    have hv:v=a.eval y:=by rw[hey]at hk;exact(Option.some.inj hk).symm
    subst hv
    have hO:ew G w' (.slot k 0) (.sl true 1 (m+1) cs) (a.eval y):=by
     intro base m' dw hv hc
     rw[e1]at hv
     injection hv with v1 v2 v3
     exact⟨b0,Xz,c,et,fz',v1.symm,q2,q3,hb0,by rw[q5,v3],hfz,aeQ,q6.2.2.1,.inr ⟨Nat.succ_pos _,x0,by
      obtain⟨u,u1,u2,_⟩:=hat
      have k1:=u1 0 (.int .u8 x0) (by rw[hcs];rfl)
      have k2:=VR.dI (u2 0 (.int .u8 x0) (by rw[hcs];rfl))
      grind [cell_of_row]⟩,q6.2.2.2.2⟩
    have hV:dT G w' σ.e a.tmps k (.sl true 1 (m+1) cs) (a.eval y):=⟨hp.vr h.bF hvr,hO⟩
    rcases hx' with h'|h'<;>rw[h']
    ·exact hV
    ·exact⟨fun _=>hV,fun h=>F_⟩
   ·exact dT.frame (fun _ _ hv=>hp.vr h.bF hv) (fun c hc=>⟨rfl,rfl,hne c A_⟩) (fun c c' j _ hc=>⟨hc,rfl,hne c' (by rw[hc];simp)⟩) _ _ (fun d _ cs hcs=>⟨cs,hcs,rfl⟩) (h.da k v hk)
 have m6:Inv G n D (σ.put d (.sl false 1 (m+1) cs)) (a.put d (a.eval y)) w':=hI.Qh hd (av:=.sl true 1 (m+1) cs) rfl (hp.vr h.bF hvr)
 intro pos after gd next Q hn
 refine bp (v:=a.eval y) (w':=w') ?_ (hn G _ _ _ m6 hp hK)
 have Kk:w.shape? b0=some (et,c.size):=by
  unfold World.shape?
  rw[q4]
 have O6:(convert s s (.slice (some ⟨b0,Xz,none⟩) (m+1) aah)).run P w=.ok (.slice (some ⟨b0,Xz,none⟩) (m+1) aah) w':=by
  simp[convert,run_underlying ht,run_underlying he,markStringish,Kk]
  rfl
 simp[execOp,e1,O6]
theorem OG(h:Inv G n D σ a w){op:Op}{ty:TypeId}{x:IX}{d:Option Nat}{K:St->Prop}(hd:bN n d=true)(hc:aD P op ty (.ve x)=true)(hw:ki P (.ve x) d σ K):qW P G n D w a op ty d K:=by
 have hw':Ts σ d K (DE (xg true σ x)):=hw
 have key:∀y,cj y x=true->∃vs,K (σ.put d (.jV (views vs)))/\Inv G n D (σ.put d (.jV (views vs))) (a.put d (a.eval y)) w:=by
  intro y hy
  have hb:=BR.bn h hy
  generalize xg true σ x=xv at hb hw'
  unfold DE at hw'
  split at hw'<;>try(exact hw'.elim)
  rename_i vs
  refine⟨vs,hw',?_⟩
  obtain⟨ys,e,hl,hr⟩:=VR.LI (show VR w G.R (.jV vs) (a.eval y) from hb)
  have:=h.put (s':=σ.s) (lp':=σ.lp) d (fun i hi=>J_) (.jV (views vs)) (a.eval y) h.bF (aR.refl G w) h.store (fun _ hx=>hx) (fun i t _ ht=>ht.elim) (fun i t _⟨cs,hcs⟩=>Q_)
   (fun _ _ _ _=>⟨rfl,rfl,rfl⟩) (fun _ _ _ _ _ _ hcc=>⟨hcc,rfl,rfl⟩) (fun i hdi=>⟨ys,e,by grind [views],fun j x y hx hy=>by
     rw[fG]at hx
     cases hj:vs[j]? with
     |none=>grind
     |some c=>
      rw[hj]at hx
      simp at hx
      subst hx
      exact⟨(hr j c y hj hy).view,ew.view ..⟩⟩)
  cases d<;>exact this
 intro pos after g next Q hn
 cases op<;>first|(simp[aD]at hc;done)|skip
 ·rename_i y
  obtain⟨vs,h1,h2⟩:=key y hc
  exact bp rfl (hn G _ _ _ h2 (aR.refl G w) h1)
 ·rename_i y
  obtain⟨vs,h1,h2⟩:=key y hc
  exact bp rfl (hn G _ _ _ h2 (aR.refl G w) h1)
end
end Go.AB
end
section
namespace Go.AB
open Go
section
variable{P:Program}{G G':Gh}{n:Nat}{D:List Deferred}{σ:St}{a:Act}{w w':World}
theorem bB.at(h:bB G w σ.s){b off m:Nat}{cs:List AV}(hs:σ.s b=some (.cells cs))(dH:off+m<=cs.length):At w G.R b off (AB.views (AB.sub cs off m)):=by
 obtain⟨_,_,c,t,h4,h5,h6⟩:=h b _ hs
 have hat:=(At.Fe h4 h5 h6).sub off m
 rwa[Nat.zero_add,FI]at hat
structure vQ(P:Program)(w:World)(R:Nat->Nat)(sz m:Nat)(ds:List AV)(v:Value)(news:List Value):Prop where
 len:news.length=m*sz
 qA:ds.length=m*sz
 lenOf:∀w',(Builtin.lenOf v).run P w'=.ok m w'
 first:∀k,k<=m->∀w',w'.heap=w.heap->(Builtin.firstCells sz k v).run P w'=.ok (news.take (k*sz)).toArray w'
 one:∀u∈news,u.oneCell'=true
 mq:∀(j:Nat)(c:AV)(u:Value),ds[j]? =some c->news[j]? =some u->VR w R c u
 fl:Fl ds
 vw:views ds=ds
theorem pO(ds:List AV):views (views ds)=views ds:=by
 unfold views
 rw[List.map_map]
 apply List.map_congr_left
 intro a _
 cases a<;>rfl
theorem vQ.src{R:Nat->Nat}{sz m:Nat}{ds:List AV}{v:Value}{news:List Value}(h:vQ P w R sz m ds v news):Src P w R sz m ds v news:=⟨h.len,h.qA,h.lenOf,fun w' hw'=>by rw[h.first m (Nat.le_refl m) w' hw',List.take_of_length_le (by rw[h.len];grind)],h.one,h.mq,h.fl⟩
def vQ.Vi{R:Nat->Nat}{sz m b off cap:Nat}{cs:List AV}(hl:cs.length=m*sz)(hat:At w R b off cs):∃news,vQ P w R sz m (views cs) (.slice (some ⟨b,off,none⟩) m cap) news:=by
 have O0:=hat.views
 obtain⟨us,h1,h2,h3⟩:=O0.mq
 have hfl:Fl (views cs):=by obtain⟨_,_,_,hf⟩:=O0;exact hf
 have hlen:(views cs).length=m*sz:=by simp[views,hl]
 refine⟨us,by rw[h1,hlen],hlen,fun _=>rfl,fun k hk w' hw'=>?_,fun u hu=>?_,h3,hfl,pO cs⟩
 ·grind [Nat.mul_le_mul_right,run_firstCells_some,EE]
 ·obtain⟨j,hj⟩:=List.mem_iff_getElem?.1 hu
  have hlt:j<(views cs).length:=by rw[<-h1];exact(List.getElem?_eq_some_iff.1 hj).1
  have hx:=List.getElem?_eq_getElem hlt
  exact jm (hfl _ (List.getElem_mem hlt)) (h3 j _ u hx hj)
def vQ.empty{R:Nat->Nat}{sz cap:Nat}{base:Option Addr}:vQ P w R sz 0 [] (.slice base 0 cap) []:=
 ⟨B_,B_,fun _=>rfl,fun k hk w' _=>by
   have:k=0:=AT
   subst this
   cases base with
   |none=>simp[Builtin.firstCells]
   |some x=>
    obtain⟨b,off,sp⟩:=x
    simp[Builtin.firstCells,loadCells,loadCellsFrom],fun u hu=>by simp at hu,fun j c u hc=>L_,Fl.nil,rfl⟩
theorem vQ.str{R:Nat->Nat}{l:List UInt8}:vQ P w R 1 l.length (l.map fun c=>.int .u8 c.toNat) (.string ⟨l.toArray⟩) (l.map fun c=>.int .u8 c.toNat)where
 len:=B_
 qA:=B_
 lenOf:=fun w'=>by simp[Builtin.lenOf,ByteArray.size]
 first:=fun k hk w' _=>by
  have:((ByteArray.mk l.toArray).extract 0 k).data=(l.take k).toArray:=by
   rw[ByteArray.data_extract]
   apply Array.ext'
   simp
  simp[Builtin.firstCells,this,List.map_take]
 one:=(Src.GK (P:=P) (w:=w) (R:=R)).one
 mq:=(Src.GK (P:=P) (w:=w) (R:=R)).mq
 fl:=BG l
 vw:=by simp[views,view]
theorem rn{m sz off:Nat}{o:Option SO}{k:Nat}{ds:List AV}(h:jA m sz off o=some (k,ds)):∃cs,o=some (.cells cs)/\off+m*sz<=cs.length/\k=m/\ds=views (AB.sub cs off (m*sz)):=by
 unfold jA at h
 grind
def KW(h:Inv G n D σ a w){sz m:Nat}{x:IX}{o:Operand}{ds:List AV}(hx:cj o x=true)(hs:zu σ.s sz (σ.x x)=some (m,ds)):∃news,vQ P w G.R sz m ds (a.eval o) news:=by
 have hb:=XR.bn h hx
 generalize σ.x x=av at hb hs
 unfold zu at hs
 split at hs
 ·rename_i ow s' k cs
  by_cases he:s'=sz
  ·subst he
   rw[beq_self_eq_true]at hs
   injection hs with hs;injection hs with h1 h2;subst h1;subst h2
   rcases VR.jd hb with⟨e0,rfl,rfl⟩|⟨b,off,cap,e,hl,_,_,hat⟩
   ·obtain⟨_,_,e⟩:=e0.ex
    rw[e];exact⟨[],vQ.empty⟩
   ·rw[e];exact vQ.Vi hl hat
  ·rw[show(s'==sz)=false by grind]at hs
   by_cases hk:k=0
   ·subst hk
    injection hs with hs;injection hs with h1 h2;subst h1;subst h2
    rcases VR.jd hb with⟨(e|⟨_,_,_,e⟩),_,_⟩|⟨b,off,cap,e,_⟩<;>rw[e]<;>exact⟨[],vQ.empty⟩
   grind
 ·rename_i l
  by_cases he:sz=1
  ·subst he
   rw[beq_self_eq_true]at hs
   injection hs with hs;injection hs with h1 h2;subst h1;subst h2
   rw[VR.jC hb];exact⟨_,vQ.str⟩
  grind
 ·rename_i b off k cap
  by_cases hk:k=0
  ·subst hk
   injection hs with hs;injection hs with h1 h2;subst h1;subst h2
   rcases VR.dF hb with e|⟨_,_,e⟩<;>rw[e]<;>exact⟨[],vQ.empty⟩
  ·rw[show(k==0)=false by grind]at hs
   obtain⟨cs,e1,e2,rfl,rfl⟩:=rn hs
   rcases VR.dF hb with e|⟨h0,_,_⟩
   ·rw[e]
    have hsn:=vQ.Vi (P:=P) (cap:=cap) (show(AB.views (AB.sub cs off (m*sz))).length=m*sz by simp[views,kP e2]) (h.store.at e1 e2)
    rwa[pO]at hsn
   grind
 ·cases hs
def Inv.Dj(h:Inv G n D σ a w){b off:Nat}{cs ds:List AV}{news:List Value}{c:Array Value}{t:TypeId}(hs:σ.s b=some (.cells cs))(hb:w.heap[b]? =some (.cells c t (0,0)))
 (hlen:news.length=ds.length)(dH:off+ds.length<=cs.length)(hfl:Fl ds)(hvw:views ds=ds)(tg:∀(j:Nat)(x:AV)(y:Value),ds[j]? =some x->news[j]? =some y->VR w G.R x y):
 Inv G n D {σ with s:=σ.s.set b (.cells (setAt cs off ds))} a (w.setRow b (laid c off news))/\aR G w G (w.setRow b (laid c off news)):=by
 obtain⟨q2,q3,c',t',q4,q5,q6⟩:=h.store b _ hs
 rw[hb]at q4;injection q4 with q4;injection q4 with q4 q4' _
 subst q4;subst q4'
 have hne:∀j,G.O b≠.cell b j:=fun j=>U_
 have cM:aR G w G (w.setRow b (laid c off news)):=aR.write hb U_ (fun k hk=>A_) (Nat.le_refl _) (fun _ _=>⟨rfl,rfl⟩)
 have oA:=dS.lay hb cM h.bF q5 hlen dH hne (fun j x y hx hy=>⟨tg j x y hx hy,by grind [fG,ew.view]⟩)
 have dQ:bB G (w.setRow b (laid c off news)) (σ.s.set b (.cells (setAt cs off ds))):=by
  intro b' o hb'
  unfold ae.set at hb'
  by_cases hbg:b'=b
  ·rw[if_pos hbg]at hb';grind [q2,setRow_heap,Ex.setAt]
  ·rw[if_neg hbg]at hb'
   obtain⟨r1,r2,r3⟩:=h.store b' o hb'
   refine⟨r1,r2,?_⟩
   have hbk:=setRow_other w b b' (laid c off news) hbg
   cases o with
   |cells cs=>
    obtain⟨c0,t0,r4,r5,r6⟩:=r3
    exact⟨c0,t0,hbk.trans r4,r5.mono (fun _ _ hv=>cM.vr h.bF hv) (fun b'' j u5=>⟨u5,rfl,setRow_other w b b'' _ (fun e=>A_)⟩),r6⟩
   |map es=>
    obtain⟨sW,clock,r4,r5,r6⟩:=r3
    exact⟨sW,clock,hbk.trans r4,r5,fun j x y hx hy=>⟨cM.vr h.bF (r6 j x y hx hy).1,cM.vr h.bF (r6 j x y hx hy).2⟩⟩
 obtain⟨h2,_⟩:=h.written (E':={σ with s:=σ.s.set b (.cells (setAt cs off ds))}) hb (.inr q2) q3 rfl dQ (fun k=>.inl ⟨rfl,U_⟩)
 grind
def Inv.Qi(h:Inv G n D σ a w){d:Option Nat}(hd:bN n d=true){av:AV}{v:Value}(hi:ee av=true)(hv:VR w G.R av v)(aaX:view av=av):Inv G n D (σ.put d av) (a.put d v) w:=by
 have:=h.put (s':=σ.s) (lp':=σ.lp) d (fun i hi=>J_) av v h.bF (aR.refl G w) h.store (fun _ hx=>hx) (fun i t _ ht=>(fA hi t ht).elim) (fun i t _⟨cs,hcs⟩=>(nP hi cs hcs).elim)
  (fun _ _ _ _=>⟨rfl,rfl,rfl⟩) (fun _ _ _ _ _ _ hcc=>⟨hcc,rfl,rfl⟩) (fun i hdi=>by grind [dT.rT,ew.view])
 cases d<;>exact this
def Inv.XJ(h:Inv G n D σ a w){d:Option Nat}(hd:bN n d=true):Inv G n D (σ.put d (.jV [])) (a.put d (.tuple #[])) w:=by
 have:=h.put (s':=σ.s) (lp':=σ.lp) d (fun i hi=>J_) (.jV []) (.tuple #[]) h.bF (aR.refl G w) h.store (fun _ hx=>hx) (fun i t _ ht=>ht.elim) (fun i t _⟨cs,hcs⟩=>Q_)
  (fun _ _ _ _=>⟨rfl,rfl,rfl⟩) (fun _ _ _ _ _ _ hcc=>⟨hcc,rfl,rfl⟩) (fun i hdi=>⟨#[],rfl,rfl,fun j x y hx=>s_⟩)
 cases d<;>exact this
theorem Gg(h:Inv G n D σ a w){op:Op}{ty:TypeId}{sz m:Nat}{z:List AV}{ps:List (Nat×Nat×IX)}{d:Option Nat}{K:St->Prop}(hd:bN n d=true)(hc:aD P op ty (.mZ sz m z ps)=true)(hw:ki P (.mZ sz m z ps) d σ K):qW P G n D w a op ty d K:=by
 cases op<;>first|(simp[aD]at hc;done)|skip
 rename_i t m' qs
 simp only[aD,Bool.and_eq_true,beq_iff_eq]at hc
 obtain⟨rfl,hc⟩:=hc
 split at hc<;>try(cases hc;done)
 rename_i e ht
 have ht:=dq ht
 simp only[Bool.and_eq_true]at hc
 obtain⟨⟨⟨⟨hs,jR⟩,hp⟩,Pa⟩,hz⟩:=hc
 obtain⟨i,hi,qp⟩:=lE hs
 rw[hi]at hz
 simp only at hz
 split at hz<;>try(cases hz;done)
 rename_i zv hzv
 simp only[Bool.and_eq_true,beq_iff_eq]at hz
 obtain⟨hzr,hzs⟩:=hz
 have jR:=of_decide_eq_true jR
 have Pa:=of_decide_eq_true Pa
 have hw':yM sz m σ d K (fill (xg true σ) z ps):=hw
 cases hfl:fill (xg true σ) z ps with
 |none=>rw[hfl]at hw';exact hw'.elim
 |some ds=>
  rw[hfl]at hw'
  obtain⟨hlen,hk⟩:=hw'
  obtain⟨hl,hpa⟩:=wG _ _ hp
  obtain⟨hz1,hz2⟩:=A3 hzr
  have ft:Row w G.R z ((Array.range (m*sz)).map (zv.cells[·% zv.cells.size]!)):=by
   rw[<-hzs,uh]
   exact⟨A_,fun j c u hc hu=>xi (hz2 j c u hc A_) w G.R,BI hzr⟩
  have hf:∀(o:Operand)(x:IX),cj o x=true->ee (xg true σ x)=true->VR w G.R (xg true σ x) (a.eval o):=fun o x hx hi=>by
   have:=BR.bn h hx
   generalize xg true σ x=av at hi this
   cases av<;>first|exact this|grind [ee]
  obtain⟨us,h1,h2⟩:=rA h hf (fun i=>some (i*sz,sz)) qs.toList ps z ds _ ⟨hl,fun j q p hq hp'=>A_⟩ ft hfl
  obtain⟨G1,h3,h4⟩:=h.KA (t:=e) (c:=us) (cs:=views ds) hd (.inr ⟨m,m,rfl,rfl⟩) (fun G' w' o hp=>nw (h2.mono fun _ _ hv=>hp.vr h.bF hv)) h2.2.2.views
  intro pos after gd next Q hn
  refine bp ?_ (hn G1 _ _ _ h3 h4 (hk w.heap.size (h.store.get_none h.bF)))
  by_cases hm0:m*sz=0
  ·have hm:m=0:=by
    rcases Nat.mul_eq_zero.1 hm0 with h|h
    ·exact h
    ·omega
   subst hm
   simp only[Nat.zero_mul]at h1
   have:(Array.range 0).map (zv.cells[·% zv.cells.size]!)= #[]:=B_
   rw[this]at h1
   have hr0:Array.map (fun _:Nat=>(default:Value)) (Array.range 0)= #[]:=by apply Array.ext';simp
   simp[execOp,Instr.buildSlice,run_underlying ht,run_sizeOf hs,hr0,h1,newRow]
  ·have h24:¬(16777216<m*sz):=AT
   simp[execOp,Instr.buildSlice,run_underlying ht,run_sizeOf hs,h24,hm0,zeroValue,typeInfo,hi,hzv,h1,newRow]
end
end Go.AB
end
