/- A part of the proof: Ab11, Ab12, Ab13, Ab14. -/
import Derived.Test.YtkeagffgdajggaaGreatSo4
import Derived.Laws.Rows
import Derived.Laws.CopyRow
import Derived.Laws.Append
import Derived.Laws.AppendOwn
import Derived.Laws.BytesString
import Derived.Laws.BytesArg
set_option linter.unusedSimpArgs false
set_option linter.unusedVariables false
section
namespace Go.AB
open Go
def Gh.oA(G:Gh)(b:Nat)(o:cY)(r:Nat):Gh:=⟨fun i=>if i=b then r else G.R i,fun i=>if i=b then o else G.O i⟩
@[simp]theorem Gh.N8(G:Gh)(b:Nat)(o:cY)(r i:Nat):(G.oA b o r).O i=if i=b then o else G.O i:=rfl
@[simp]theorem Gh.RE(G:Gh)(b:Nat)(o:cY)(r i:Nat):(G.oA b o r).R i=if i=b then r else G.R i:=rfl
def Gh.gb(G:Gh)(o o':cY):Gh:=⟨G.R,fun i=>if G.O i=o then o' else G.O i⟩
@[simp]theorem Gh.P4(G:Gh)(o o':cY)(i:Nat):(G.gb o o').O i=if G.O i=o then o' else G.O i:=rfl
section
variable{P:Program}{G G':Gh}{n:Nat}{D:List Deferred}{σ:St}{a:Act}{w w':World}
theorem aW.wI{s:ab}(h:aW G w s)(hv:∀a v,VR w G.R a v→VR w' G'.R a v)
 (hsh:∀b,G.O b=.sh→G'.O b=.sh∧G'.R b=G.R b∧w'.heap[b]? =w.heap[b]?)
 (hcell:∀b c j,G.O b=.sh→G.O c=.cell b j→G'.O c=.cell b j∧G'.R c=G.R c∧w'.heap[c]? =w.heap[c]?):aW G' w' s:=by
 intro b o hb
 obtain⟨h1,h2,h3⟩:=h b o hb
 obtain⟨k1,k2,k3⟩:=hsh b h1
 refine⟨k1,k2.trans h2,?_⟩
 cases o with
 |cells cs=>
  obtain⟨c,t,h4,h5,h6⟩:=h3
  exact⟨c,t,k3.trans h4,h5.mono hv (fun b' j hb'=>hcell b b' j h1 hb'),h6⟩
 |map es=>
  obtain⟨ents,clock,h4,h5,h6⟩:=h3
  exact⟨ents,clock,k3.trans h4,h5,fun j x y hx hy=>⟨hv _ _ (h6 j x y hx hy).1,hv _ _ (h6 j x y hx hy).2⟩⟩
theorem aW.mono{s:ab}(h:aW G w s)(hg:b9 G w)(hp:aG G w G' w')
 (hsh:∀b,G.O b=.sh→G'.O b=.sh∧G'.R b=G.R b∧w'.heap[b]? =w.heap[b]?)
 (hcell:∀b c j,G.O b=.sh→G.O c=.cell b j→G'.O c=.cell b j∧G'.R c=G.R c∧w'.heap[c]? =w.heap[c]?):aW G' w' s:=
 h.wI (fun _ _ hv=>hp.vr hg hv) hsh hcell
theorem b9.lt(h:b9 G w){b:Nat}(ho:G.O b≠.none):b<w.heap.size:=by
 rcases Nat.lt_or_ge b w.heap.size with hb|hb
 ·exact hb
 ·exact absurd (h.iA b hb) ho
theorem fF(hg:b9 G w)(ob:Obj)(o:cY)(r:Nat):
 b9 (G.oA w.heap.size o r) (w.alloc ob)∧aG G w (G.oA w.heap.size o r) (w.alloc ob)∧
 (∀b,G.O b≠.none→(G.oA w.heap.size o r).O b=G.O b∧(G.oA w.heap.size o r).R b=G.R b∧(w.alloc ob).heap[b]? =w.heap[b]?):=by
 have hsz:(w.alloc ob).heap.size=w.heap.size+1:=Array.size_push ..
 refine⟨⟨fun b hb=>?_,fun b hb=>?_⟩,⟨rfl,rfl,rfl,Nat.le_refl _,by omega,fun b hb=>?_,fun b k hb _=>?_,fun b hb _=>heap_alloc_old w ob b hb,fun b hb ho=>?_,fun b hb ho=>?_⟩,fun b ho=>?_⟩
 ·have:b≠w.heap.size:=by omega
  simp[this,hg.iA b (by omega)]
 ·have:b≠w.heap.size:=by omega
  simp[this,hg.iU b (by omega)]
 ·have:b≠w.heap.size:=by omega
  simp[this]
 ·exact World.cell?_of_block (heap_alloc_old w ob b hb)
 ·have:b≠w.heap.size:=by omega
  simp[this,ho]
 ·have:b≠w.heap.size:=by omega
  simp[this,ho]
 ·have hb:=hg.lt ho
  have:b≠w.heap.size:=by omega
  exact⟨by simp[this],by simp[this],heap_alloc_old w ob b hb⟩
theorem jr{s:ab}(h:aW G w s)(hg:b9 G w)(ob:Obj)(o:cY)(r:Nat):aW (G.oA w.heap.size o r) (w.alloc ob) s:=by
 obtain⟨_,h2,h3⟩:=fF hg ob o r
 refine h.mono hg h2 (fun b hb=>?_) (fun b c j _ hc=>?_)
 ·obtain⟨k1,k2,k3⟩:=h3 b (by rw[hb];simp)
  exact⟨k1.trans hb,k2,k3⟩
 ·obtain⟨k1,k2,k3⟩:=h3 c (by rw[hc];simp)
  exact⟨k1.trans hc,k2,k3⟩
theorem Inv.alloc(h:Inv G n D σ a w)(ob:Obj)(o:cY)(r:Nat){s':ab}(d:Option Nat)(hd:ba n d=true)(av:AV)(v:Value)(lp':List (Nat×Nat))
 (c6:aW (G.oA w.heap.size o r) (w.alloc ob) s')
 (hlp:∀x∈σ.lp,x∈lp')(hlpn:∀i t,d=some i→bH av t→(i,t)∈lp')
 (hfree:∀i t,d=some i→(∃cs,av=.loc cs)→(t,i)∉σ.lp)
 (hnew:∀i,d=some i→da (G.oA w.heap.size o r) (w.alloc ob) ((σ.put d av).e) (a.put d v).tmps i av v):
 Inv (G.oA w.heap.size o r) n D {(σ.put d av)with s:=s',lp:=lp'} (a.put d v) (w.alloc ob)∧aG G w (G.oA w.heap.size o r) (w.alloc ob):=by
 obtain⟨h1,h2,h3⟩:=fF h.aO ob o r
 refine⟨h.put d (fun i hi=>by subst hi;simpa[ba]using hd) av v h1 h2 c6 hlp hlpn hfree (fun i b _ hb=>h3 b ?_) (fun i b c j _ hb hc=>?_) hnew,h2⟩
 ·rcases hb with⟨j,hb⟩|hb<;>rw[hb]<;>simp
 ·obtain⟨k1,k2,k3⟩:=h3 c (by rw[hc];simp)
  exact⟨k1.trans hc,k2,k3⟩
theorem aW.get_none(h:aW G w σ.s)(hg:b9 G w):σ.s w.heap.size=none:=by
 cases hs:σ.s w.heap.size with
 |none=>rfl
 |some o=>
  have:=(h _ _ hs).1
  rw[hg.iA _ (Nat.le_refl _)]at this
  cases this
theorem Ha{lp:List (Nat×Nat)}{d:Option Nat}(h:jL lp d=true):∀i t,d=some i→(t,i)∉lp:=by
 intro i t hd hm
 subst hd
 simp only[jL,List.all_eq_true]at h
 have:=h _ hm
 simp at this
theorem aN{o:Oper}{v:Value}{next:Act→World→Prop}{Q:Exit→Act→World→Prop}(hr:(execOp a.eval o).run P w=.ok (.value v) w')(hn:next (a.put o.dst v) w'):o.wp P a w next Q:=by
 unfold Oper.wp
 rw[hr]
 exact hn
theorem pB{o:Oper}{next:Act→World→Prop}{Q:Exit→Act→World→Prop}(hr:(execOp a.eval o).run P w=.ok .skip w')(hn:next (a.put o.dst undef) w'):o.wp P a w next Q:=by
 unfold Oper.wp
 rw[hr]
 exact hn
theorem Inv.Kr(h:Inv G n D σ a w)(i:Nat)(hi:i<n)(av:AV)(hnl:∀t,¬bH av t)(hnloc:∀cs,av≠.loc cs)
 (hv:∀v,a.tmps[i]? =some v→da G w ((σ.put (some i) av).e) a.tmps i av v):Inv G n D (σ.put (some i) av) a w:=by
 have hlt:i<a.tmps.size:=by rw[h.size];exact hi
 have ha:a.put (some i) a.tmps[i]=a:=by
  have:a.tmps.setIfInBounds i a.tmps[i]=a.tmps:=by rw[Array.setIfInBounds,dif_pos hlt,Array.set_getElem_self]
  simp[Act.put,this]
 have:=h.put (some i) (fun j hj=>by injection hj with hj;subst hj;exact hi) av a.tmps[i] h.aO (aG.refl G w) h.store (fun x hx=>hx) (fun j t _ ht=>(hnl t ht).elim)
  (fun j t _⟨cs,hcs⟩=>(hnloc cs hcs).elim) (fun _ b _ _=>⟨rfl,rfl,rfl⟩) (fun _ b c j _ _ hc=>⟨hc,rfl,rfl⟩)
  (fun j hj=>by injection hj with hj;subst hj;rw[ha];exact hv _ (Array.getElem?_eq_getElem hlt))
 rw[ha]at this
 exact this
theorem eH{av:AV}(h:c9 av=true)(t:Nat):¬bH av t:=by cases av<;>simp_all [c9,bH]
theorem l9{av:AV}(h:c9 av=true)(cs:List AV):av≠.loc cs:=by cases av<;>simp_all [c9]
theorem Inv.He(h:Inv G n D σ a w){i:Nat}(hi:look σ.e i≠.undef):i<n:=by
 rcases Nat.lt_or_ge i n with hlt|hge
 ·exact hlt
 ·exact absurd (h.CG i hge) hi
theorem Mm{o:Operand}{i:Nat}(h:bw o (.t i)=true):o=.tmp i:=by
 cases o with
 |tmp t=>simp[bw]at h;rw[h]
 |const v=>cases v<;>simp[bw]at h
 |_=>simp[bw]at h
theorem Ml{o:Operand}{c:AV}(h:bw o (.c c)=true)(G:Gh)(w:World)(T:cY):df G w T c (a.eval o):=by
 cases o with
 |tmp t=>simp[bw]at h
 |global g=>simp[bw]at h
 |func f=>cases c<;>first|trivial|(simp[bw]at h)
 |const v=>
  show df G w T c v
  have hc:(∃cs,c=.agg cs)∨cR v c=true:=by
   cases v<;>first|exact .inr h|skip
   cases c<;>first|exact .inl ⟨_,rfl⟩|exact .inr h
  rcases hc with⟨cs,rfl⟩|hc
  ·trivial
  ·exact AL hc G w T
theorem Inv.drain(h:Inv G n D σ a w){x:IX}{o:Operand}(hx:bw o x=true)(hi:c9 (σ.x x)=true)(T:cY)(hT1:T≠.sh)(hT2:∀i,T≠.loc i):
 ∃G',Inv G' n D (σ.drain x) a w∧aG G w G' w∧VR w G'.R (σ.x x) (a.eval o)∧df G' w T (σ.x x) (a.eval o)∧G'.R=G.R∧(∀b,G'.O b=.sh↔G.O b=.sh)∧(∀b i,G'.O b=.loc i↔G.O b=.loc i)∧
  (∀b b' j,G.O b=.cell b' j→G'.O b=.cell b' j):=by
 have hvr:VR w G.R (σ.x x) (a.eval o):=by
  have:=XR.aJ h hx
  generalize σ.x x=av at hi this
  cases av<;>first|exact this|(simp[c9]at hi)
 cases x with
 |c c=>
  refine⟨G,h,aG.refl G w,hvr,?_,rfl,fun _=>Iff.rfl,fun _ _=>Iff.rfl,fun _ _ _ hc=>hc⟩
  exact Ml hx G w T
 |t i=>
  have hin:i<n:=h.He (fun e=>by rw[show σ.x (.t i)=look σ.e i from rfl,e]at hi;cases hi)
  have ho:o=.tmp i:=Mm hx
  subst ho
  have hlt:i<a.tmps.size:=by rw[h.size];exact hin
  have hcur:=h.ch i _ (gQ hlt)
  have hi':c9 (look σ.e i)=true:=hi
  rw[da.oo hi']at hcur
  have hne:∀b,G.O b≠.slot i 0→(G.gb (.slot i 0) T).O b=G.O b:=fun b hb=>by simp[hb]
  have hpres:aG G w (G.gb (.slot i 0) T) w:=⟨rfl,rfl,rfl,Nat.le_refl _,Nat.le_refl _,fun _ _=>Nat.le_refl _,fun _ _ _ _=>rfl,fun _ _ _=>rfl,
   fun b _ hb=>⟨by rw[hne b (by rw[hb];simp),hb],rfl⟩,fun b _ hb=>⟨by rw[hne b (by rw[hb];simp),hb],rfl⟩⟩
  refine⟨G.gb (.slot i 0) T,?_,hpres,hvr,?_,rfl,fun b=>?_,fun b k=>?_,fun b b' j hb=>by rw[hne b (by rw[hb];simp),hb]⟩
  ·have h1:=h.Kr i hin (view (look σ.e i)) (eH (jI hi')) (l9 (jI hi')) (fun v hv=>by
    rw[gQ hlt]at hv;injection hv with hv;subst hv
    exact da.wH hi' hcur.1)
   refine⟨⟨fun b hb=>by rw[hne b (by rw[h.aO.iA b hb];simp),h.aO.iA b hb],h.aO.iU⟩,?_,h1.size,fun k v hk=>?_,h1.CG,h1.HR,h1.qW⟩
   ·exact h.store.mono h.aO hpres (fun b hb=>⟨by rw[hne b (by rw[hb];simp),hb],rfl,rfl⟩) (fun b c j _ hc=>⟨by rw[hne c (by rw[hc];simp),hc],rfl,rfl⟩)
   ·have h2:=h1.ch k v hk
    by_cases hki:k=i
    ·subst hki
     have e1:look (σ.put (some k) (view (look σ.e k))).e k=view (look σ.e k):=by simp[St.put,aP]
     show da _ w _ _ k (look (σ.put (some k) (view (look σ.e k))).e k) v
     rw[e1]at h2⊢
     rw[da.oo (jI hi')]at h2⊢
     exact⟨h2.1,df.view ..⟩
    ·refine da.frame (G:=G) (G':=G.gb (.slot i 0) T) (w:=w) (fun _ _ hv=>hv) (fun b hb=>⟨hne b ?_,rfl,rfl⟩) (fun b c j _ hc=>⟨by rw[hne c (by rw[hc];simp),hc],rfl,rfl⟩) _ _ (fun d _ cs hcs=>⟨cs,hcs,rfl⟩) h2
     rcases hb with⟨j,hb⟩|hb
     ·rw[hb];intro e;injection e with e;exact hki e
     ·rw[hb];simp
  ·have:=hcur.2
   show df _ w T (look σ.e i) _
   unfold df at this⊢
   split
   ·rename_i sz m cs he
    rw[he]at this
    intro base m' cap hv hc
    obtain⟨b,off,c,e,fz,q1,q2,q3⟩:=this base m' cap hv hc
    exact⟨b,off,c,e,fz,q1,by simp[q2],q3⟩
   ·rename_i e m cs he
    rw[he]at this
    intro base m' cap hv hc
    obtain⟨b,off,c,fz,q1,q2,q3⟩:=this base m' cap hv hc
    exact⟨b,off,c,fz,q1,by simp[q2],q3⟩
   ·trivial
  ·by_cases hb:G.O b=.slot i 0
   ·simp[hb,hT1]
   ·rw[hne b hb]
  ·by_cases hb:G.O b=.slot i 0
   ·simp[hb,hT2]
   ·rw[hne b hb]
def mj(P:Program)(G:Gh)(n:Nat)(D:List Deferred)(w:World)(a:Act)(op:Op)(ty:TypeId)(d:Option Nat)(K:St→Prop):Prop:=
 ∀(pos:String)(after:Array Edge)(g:Option (Nat×Bool))(next:Act→World→Prop)(Q:Exit→Act→World→Prop),
  (∀G' σ' a' w',Inv G' n D σ' a' w'→aG G w G' w'→K σ'→next a' w')→(⟨d,op,ty,pos,after,g⟩:Oper).wp P a w next Q
theorem OP(h:Inv G n D σ a w){op:Op}{ty:TypeId}{tr:Bool}{x:IX}{d:Option Nat}{K:St→Prop}(hd:ba n d=true)(hc:au P op ty (.iT tr x)=true)(hw:gH P (.iT tr x) d σ K):mj P G n D w a op ty d K:=by
 obtain⟨hi,hk⟩:=hw
 have key:∀y,bw y x=true→∃G',Inv G' n D ((σ.drain x).put d (σ.x x)) (a.put d (a.eval y)) w∧aG G w G' w:=by
  intro y hy
  obtain⟨G',h1,h2,h3,h4,_⟩:=h.drain hy hi (match d with|some d=>.slot d 0|none=>.frame) (by cases d<;>simp) (by cases d<;>simp)
  refine⟨G',?_,h2⟩
  have:=h1.put (s':=(σ.drain x).s) (lp':=(σ.drain x).lp) d (fun i hi=>by subst hi;simpa[ba]using hd) (σ.x x) (a.eval y) h1.aO (aG.refl G' w) h1.store (fun _ hx=>hx) (fun i t _ ht=>(eH hi t ht).elim) (fun i t _⟨cs,hcs⟩=>(l9 hi cs hcs).elim)
   (fun _ _ _ _=>⟨rfl,rfl,rfl⟩) (fun _ _ _ _ _ _ hcc=>⟨hcc,rfl,rfl⟩) (fun i hdi=>by
     subst hdi
     rw[da.oo hi]
     exact⟨h3,h4⟩)
  cases d<;>exact this
 intro pos after g next Q hn
 cases op<;>first|(simp[au]at hc;done)|skip
 ·rename_i y
  obtain⟨G',h1,h2⟩:=key y hc
  exact aN rfl (hn G' _ _ _ h1 h2 hk)
 ·rename_i y
  obtain⟨G',h1,h2⟩:=key y hc
  exact aN rfl (hn G' _ _ _ h1 h2 hk)
theorem EC{G:Gh}{w:World}{o:Nat→cY}{z:List AV}{c:Array Value}(h:Row w G.R z c)(h2:∀(j:Nat)(x:AV)(u:Value),z[j]? =some x→c[j]? =some u→cR u x=true):db G w o z c:=⟨h.1,fun j x y hx hy=>⟨h.2.1 j x y hx hy,AL (h2 j x y hx hy) G w _⟩⟩
theorem lz{G:Gh}{w:World}{o:Nat→cY}{z:List AV}{c:Array Value}(h:Row w G.R z c):db G w o (views z) c:=
 ⟨h.views.1,fun j x y hx hy=>⟨h.views.2.1 j x y hx hy,by
   rw[eb]at hx
   cases hz:z[j]? with
   |none=>rw[hz]at hx;cases hx
   |some x'=>rw[hz]at hx;simp at hx;rw[←hx];exact df.view ..⟩⟩
theorem Row.mono{R R':Nat→Nat}{z:List AV}{c:Array Value}(h:Row w R z c)(hv:∀a v,VR w R a v→VR w' R' a v):Row w' R' z c:=⟨h.1,fun j x y hx hy=>hv _ _ (h.2.1 j x y hx hy),h.2.2⟩
theorem Inv.WA(h:Inv G n D σ a w){d:Option Nat}(hd:ba n d=true)(hf:jL σ.lp d=true){cs:List AV}{c:Array Value}{t:TypeId}
 (hcs:∀(G':Gh)(w':World)(o:Nat→cY),aG G w G' w'→db G' w' o cs c)(hfl:Fl cs):
 ∃G',Inv G' n D (σ.put d (.loc cs)) (a.put d (.pointer (some ⟨w.heap.size,0,none⟩))) (w.alloc (.cells c t))∧aG G w G' (w.alloc (.cells c t)):=by
 let o:cY:=match d with|some d=>.loc d|none=>.none
 have hp:=(fF h.aO (.cells c t) o 0).2.1
 obtain⟨h1,h2⟩:=h.alloc (.cells c t) o 0 d hd (.loc cs) (.pointer (some ⟨w.heap.size,0,none⟩)) σ.lp (jr h.store h.aO _ o 0) (fun _ hx=>hx) (fun i t' _ ht=>ht.elim) (fun i t' hi _=>Ha hf i t' hi)
  (fun i hi=>by
    subst hi
    exact⟨w.heap.size,c,t,rfl,by simp[o],by simp,heap_alloc_new w _,hcs _ _ _ hp,hfl⟩)
 exact⟨_,by cases d<;>exact h1,h2⟩
theorem Inv.Q3(h:Inv G n D σ a w){d:Option Nat}(hd:ba n d=true){cs:List AV}{c:Array Value}{t:TypeId}{av:AV}{v:Value}(hav:av=.ref w.heap.size 0∧v=.pointer (some ⟨w.heap.size,0,none⟩)∨∃l m,av=.arr w.heap.size 0 l m∧v=.slice (some ⟨w.heap.size,0,none⟩) l m)
 (hcs:∀(G':Gh)(w':World)(o:Nat→cY),aG G w G' w'→db G' w' o cs c)(hfl:xn t cs):
 ∃G',Inv G' n D ({σ with s:=σ.s.set w.heap.size (.cells cs)}.put d av) (a.put d v) (w.alloc (.cells c t))∧aG G w G' (w.alloc (.cells c t)):=by
 have hp:=(fF h.aO (.cells c t) .sh 0).2.1
 have hs:aW (G.oA w.heap.size .sh 0) (w.alloc (.cells c t)) (σ.s.set w.heap.size (.cells cs)):=by
  intro b o hb
  unfold ab.set at hb
  by_cases he:b=w.heap.size
  ·rw[if_pos he]at hb
   injection hb with hb
   subst hb;subst he
   exact⟨by simp,by simp,c,t,heap_alloc_new w _,hcs _ _ _ hp,hfl⟩
  ·rw[if_neg he]at hb
   exact jr h.store h.aO _ .sh 0 b o hb
 have hv:c9 av=true∧VR (w.alloc (.cells c t)) (G.oA w.heap.size .sh 0).R av v∧∀sz m cs,av≠.sl true sz m cs:=by
  rcases hav with⟨rfl,rfl⟩|⟨l,m,rfl,rfl⟩
  ·exact⟨rfl,.ref _ _,by simp⟩
  ·exact⟨rfl,.arr _ _ _ _,by simp⟩
 obtain⟨h1,h2⟩:=h.alloc (.cells c t) .sh 0 d hd av v σ.lp hs (fun _ hx=>hx) (fun i t' _ ht=>(eH hv.1 t' ht).elim) (fun i t' _⟨cs',hcs'⟩=>(l9 hv.1 cs' hcs').elim)
  (fun i hi=>by
    rw[da.oo hv.1]
    refine⟨hv.2.1,?_⟩
    rcases hav with⟨e,_⟩|⟨l,m,e,_⟩<;>rw[e]<;>trivial)
 refine⟨_,?_,h2⟩
 cases d<;>exact h1
theorem Inv.I7(h:Inv G n D σ a w){d:Option Nat}(hd:ba n d=true){cs:List AV}{c:Array Value}{t:TypeId}{av:AV}{v:Value}(hav:av=.ref w.heap.size 0∧v=.pointer (some ⟨w.heap.size,0,none⟩)∨∃l m,av=.arr w.heap.size 0 l m∧v=.slice (some ⟨w.heap.size,0,none⟩) l m)
 (hcs:∀(G':Gh)(w':World)(o:Nat→cY),aG G w G' w'→db G' w' o cs c)(hfl:Fl cs):
 ∃G',Inv G' n D ({σ with s:=σ.s.set w.heap.size (.cells cs)}.put d av) (a.put d v) (w.alloc (.cells c t))∧aG G w G' (w.alloc (.cells c t)):=h.Q3 hd hav hcs (hfl.tag t)
theorem DA(h:Inv G n D σ a w){op:Op}{ty:TypeId}{z:List AV}{d:Option Nat}{K:St→Prop}(hd:ba n d=true):
 (au P op ty (.aQ z)=true→gH P (.aQ z) d σ K→mj P G n D w a op ty d K)∧(au P op ty (.gV z)=true→gH P (.gV z) d σ K→mj P G n D w a op ty d K):=by
 have run:∀t,nf P t z=true→∃c:Array Value,(∀(dst:Option Tmp)(pos:String)(after:Array Edge)(g:Option (Nat×Bool)),(execOp a.eval ⟨dst,.alloc t,ty,pos,after,g⟩).run P w=.ok (.value (.pointer (some ⟨w.heap.size,0,none⟩))) (w.alloc (.cells c t)))∧
  (∀(G':Gh)(w':World)(o:Nat→cY),db G' w' o z c)∧Fl z:=by
  intro t hz
  obtain⟨i,v,h1,h2,_,h4,h5⟩:=tE hz
  refine⟨v.cells,fun _ _ _ _=>?_,fun G' w' o=>EC (h4 w' G'.R) h5,(h4 w G.R).2.2⟩
  simp[execOp,Instr.alloc,zeroValue,typeInfo,h1,h2,newVar,newRow]
 constructor
 ·intro hc hw pos after g next Q hn
  cases op<;>first|(simp[au]at hc;done)|skip
  rename_i t
  obtain⟨c,hr,hcs,hfl⟩:=run t hc
  obtain⟨G',h1,h2⟩:=h.WA hd hw.1 (c:=c) (t:=t) (fun G' w' o _=>hcs G' w' o) hfl
  exact aN (hr d pos after g) (hn G' _ _ _ h1 h2 hw.2)
 ·intro hc hw pos after g next Q hn
  cases op<;>first|(simp[au]at hc;done)|skip
  rename_i t
  obtain⟨c,hr,hcs,hfl⟩:=run t hc
  obtain⟨G',h1,h2⟩:=h.I7 hd (c:=c) (t:=t) (.inl ⟨rfl,rfl⟩) (fun G' w' o _=>hcs G' w' o) hfl
  exact aN (hr d pos after g) (hn G' _ _ _ h1 h2 (hw w.heap.size (h.store.get_none h.aO)))
theorem JY(h:Inv G n D σ a w){op:Op}{ty:TypeId}{m:Nat}{x:IX}{d:Option Nat}{K:St→Prop}(hd:ba n d=true):
 (au P op ty (.lZ m x)=true→gH P (.lZ m x) d σ K→mj P G n D w a op ty d K)∧(au P op ty (.qU m x)=true→gH P (.qU m x) d σ K→mj P G n D w a op ty d K):=by
 have run:∀t y,∀(dst:Option Tmp)(pos:String)(after:Array Edge)(g:Option (Nat×Bool)),(execOp a.eval ⟨dst,.box t y,ty,pos,after,g⟩).run P w=.ok (.value (.pointer (some ⟨w.heap.size,0,none⟩))) (w.alloc (.cells (a.eval y).cells t)):=by
  intro t y _ _ _ _
  simp[execOp,Instr.box,newVar,newRow]
 have cells:∀y,bw y x=true→c9 (σ.x x)=true→(∀(G':Gh)(w':World)(o:Nat→cY),aG G w G' w'→db G' w' o (views (cellsOf (σ.x x))) (a.eval y).cells)∧Fl (views (cellsOf (σ.x x))):=by
  intro y hy hi
  have hvr:VR w G.R (σ.x x) (a.eval y):=by
   have:=XR.aJ h hy
   generalize σ.x x=av at hi this
   cases av<;>first|exact this|(simp[c9]at hi)
  exact⟨fun G' w' o hp=>lz ((gv hi hvr).mono fun _ _ hv=>hp.vr h.aO hv),(gv hi hvr).2.2.views⟩
 have cells2:∀y,bw y x=true→c9 (xg true σ x)=true→(∀(G':Gh)(w':World)(o:Nat→cY),aG G w G' w'→db G' w' o (views (cellsOf (xg true σ x))) (a.eval y).cells)∧Fl (views (cellsOf (xg true σ x))):=by
  intro y hy hi
  have hvr:VR w G.R (xg true σ x) (a.eval y):=(BR.aJ h hy).vr hi
  exact⟨fun G' w' o hp=>lz ((gv hi hvr).mono fun _ _ hv=>hp.vr h.aO hv),(gv hi hvr).2.2.views⟩
 constructor
 ·intro hc hw pos after g next Q hn
  cases op<;>first|(simp[au]at hc;done)|skip
  rename_i t y
  simp only[au,Bool.and_eq_true]at hc
  obtain⟨hf,hi,_,hk⟩:=hw
  obtain⟨G',h1,h2⟩:=h.WA hd hf (t:=t) (cells y hc.2 hi).1 (cells y hc.2 hi).2
  exact aN (run t y d pos after g) (hn G' _ _ _ h1 h2 hk)
 ·intro hc hw pos after g next Q hn
  cases op<;>first|(simp[au]at hc;done)|skip
  rename_i t y
  simp only[au,Bool.and_eq_true]at hc
  obtain⟨hi,_,hk⟩:=hw
  obtain⟨G',h1,h2⟩:=h.I7 hd (t:=t) (.inl ⟨rfl,rfl⟩) (cells2 y hc.2 hi).1 (cells2 y hc.2 hi).2
  exact aN (run t y d pos after g) (hn G' _ _ _ h1 h2 (hk w.heap.size (h.store.get_none h.aO)))
end
end Go.AB
end
section
namespace Go.AB
open Go
section
variable{P:Program}{G G':Gh}{n:Nat}{D:List Deferred}{σ:St}{a:Act}{w w':World}
theorem gJ{R:Nat→Nat}{c:AV}{v:Value}(hf:oH c=true)(h:VR w R c v):v.oneCell'=true:=by cases h<;>first|rfl|assumption|(simp[oH,c9]at hf;done)|(rename_i h _;cases h<;>rfl)
theorem oZ{t:Nat}{R:Nat→Nat}{c:AV}{v:Value}(hf:oH c=true∨c=.l1 t)(h:VR w R c v):v.oneCell'=true:=by
 rcases hf with hf|rfl
 ·exact gJ hf h
 ·cases h;rfl
theorem dj(g o:Nat)(t:TypeId)(fz:Nat×Nat):∀(vs:List Value)(i:Nat)(cur:Array Value)(w:World),w.heap[g]? =some (.cells cur t fz)→(∀k,k<cur.size→¬(fz.1≤k∧k<fz.2))→o+i+vs.length≤cur.size→(∀v∈vs,v.oneCell'=true)→
 (storeCells ⟨g,o,none⟩ vs i).run P w=.ok () (w.setRow g (cur.toList.take (o+i)++vs++cur.toList.drop (o+i+vs.length)).toArray)
 |[],i,cur,w,hg,_,_,_=>by
  simp only[storeCells,List.append_nil,List.length_nil,Nat.add_zero,List.take_append_drop,Array.toArray_toList]
  rw[setRow_self w g cur t fz hg]
  rfl
 |v::rest,i,cur,w,hg,hfz,hl,h1=>by
  have hi:o+i<cur.size:=by simp at hl;omega
  have hcell:w.cell? ⟨g,o+i,none⟩=some cur[o+i]:=by simp[World.cell?,hg,hi]
  have hfro:w.frozen? ⟨g,o+i,none⟩=false:=by
   have:=hfz (o+i) hi
   obtain⟨lo,hh⟩:=fz
   simp only[World.frozen?,hg]
   simp only at this
   by_cases h1:lo≤o+i
   ·have:¬(o+i<hh):=fun h2=>this ⟨h1,h2⟩
    simp[this]
   ·simp[h1]
  have c6:(store ((⟨g,o,none⟩:Addr).add i) v).run P w=.ok () (w.setRow g (cur.setIfInBounds (o+i) v)):=by
   rw[add_eq,run_store P w _ v _ (h1 v (by simp)),hcell]
   simp[hfro,setCell_eq_setRow w g (o+i) cur t fz v hg]
  have ih:=dj g o t fz rest (i+1) (cur.setIfInBounds (o+i) v) (w.setRow g (cur.setIfInBounds (o+i) v)) (setRow_heap w g cur _ t _ hg) (by simpa using hfz) (by simp at hl⊢;omega) (fun x hx=>h1 x (by simp[hx]))
  simp only[storeCells,Sem.run_bind,c6,Result.andThen_ok,ih,setRow_setRow]
  congr 3
  have e:=list_seg_step cur.toList (o+i) v rest (by simp at hl⊢;omega)
  simpa[Array.toList_setIfInBounds,Nat.add_assoc]using e
def laid(cur:Array Value)(o:Nat)(vs:List Value):Array Value:=(cur.toList.take o++vs++cur.toList.drop (o+vs.length)).toArray
theorem oU(cur:Array Value)(o:Nat)(vs:List Value)(h:o+vs.length≤cur.size):(laid cur o vs).size=cur.size:=by simp[laid];omega
theorem jK(cur:Array Value)(o:Nat)(vs:List Value)(h:o+vs.length≤cur.size)(k:Nat):(laid cur o vs)[k]? =if o≤k∧k<o+vs.length then vs[k -o]? else cur[k]? :=by
 unfold laid
 simp only[List.getElem?_toArray]
 rw[List.append_assoc]
 by_cases h1:k<o
 ·rw[if_neg (by omega),List.getElem?_append_left (by simp;omega),List.getElem?_take,if_pos h1];simp
 ·have hl:(cur.toList.take o).length=o:=by simp;omega
  rw[List.getElem?_append_right (by omega),hl]
  by_cases h2:k<o+vs.length
  ·rw[if_pos ⟨by omega,h2⟩,List.getElem?_append_left (by omega)]
  ·rw[if_neg (by omega),List.getElem?_append_right (by omega),List.getElem?_drop]
   simp only[Array.getElem?_toList]
   congr 1
   omega
theorem sO{g:Nat}{cur:Array Value}{t:TypeId}{fz:Nat×Nat}(hg:w.heap[g]? =some (.cells cur t fz))(new:Array Value)(b k:Nat):(w.setRow g new).cell? ⟨b,k,none⟩=if b=g then new[k]? else w.cell? ⟨b,k,none⟩:=by
 by_cases h:b=g
 ·subst h
  rw[if_pos rfl,cell_of_row _ (setRow_heap w b cur new t fz hg)]
 ·rw[if_neg h]
  exact World.cell?_of_block (setRow_other w g b new h)
theorem aG.write{g:Nat}{cur new:Array Value}{t:TypeId}{fz:Nat×Nat}(hg:w.heap[g]? =some (.cells cur t fz))(ho:G.O g≠.frame∧G.O g≠.none)(c6:∀k,k<G.R g→new[k]? =cur[k]?)
 (hR:G.R g≤G'.R g)(hO:∀b,b≠g→G'.O b=G.O b∧G'.R b=G.R b):aG G w G' (w.setRow g new)where
 os:=rfl
 tape:=rfl
 output:=rfl
 drawn:=Nat.le_refl _
 size:=by simp[World.setRow]
 mono:=fun b _=>by
  by_cases h:b=g
  ·subst h;exact hR
  ·rw[(hO b h).2];exact Nat.le_refl _
 lD:=fun b k _ hk=>by
  rw[sO hg]
  split
  ·rename_i h;subst h
   rw[c6 k hk,cell_of_row w hg]
  ·rfl
 frame:=fun b _ hb=>by
  have:b≠g:=fun e=>by subst e;rcases hb with hb|hb;exact ho.1 hb;exact ho.2 hb
  exact setRow_other w g b new this
 jG:=fun b _ hb=>by
  have:b≠g:=fun e=>by subst e;exact ho.1 hb
  exact⟨(hO b this).1.trans hb,(hO b this).2⟩
 oY:=fun b _ hb=>by
  have:b≠g:=fun e=>by subst e;exact ho.2 hb
  exact⟨(hO b this).1.trans hb,(hO b this).2⟩
theorem Inv.written(h:Inv G n D σ a w){g:Nat}{c new:Array Value}{t:TypeId}(hg:w.heap[g]? =some (.cells c t (0,0)))(ho:(∃i,G.O g=.loc i)∨G.O g=.sh)(hR:G.R g=0){σ':St}(hlp:σ'.lp=σ.lp)
 (c6:aW G (w.setRow g new) σ'.s)
 (he:∀k,(look σ'.e k=look σ.e k∧G.O g≠.loc k)∨(G.O g=.loc k∧a.tmps[k]? =some (.pointer (some ⟨g,0,none⟩))∧∃cs cs',look σ.e k=.loc cs∧look σ'.e k=.loc cs'∧db G (w.setRow g new) (.cell g) cs' new∧Fl cs')):
 Inv G n D σ' a (w.setRow g new)∧aG G w G (w.setRow g new):=by
 have hog:G.O g≠.frame∧G.O g≠.none∧(∀i j,G.O g≠.slot i j)∧(∀i j,G.O g≠.cell i j):=by rcases ho with⟨i,ho⟩|ho<;>rw[ho]<;>simp
 have hpres:aG G w G (w.setRow g new):=aG.write hg ⟨hog.1,hog.2.1⟩ (fun k hk=>by rw[hR]at hk;omega) (Nat.le_refl _) (fun _ _=>⟨rfl,rfl⟩)
 have hother:∀b,G.O b≠G.O g→(w.setRow g new).heap[b]? =w.heap[b]? :=fun b hb=>setRow_other w g b new (fun e=>hb (by rw[e]))
 refine⟨⟨⟨fun b hb=>h.aO.iA b (by simpa[World.setRow]using hb),fun b hb=>h.aO.iU b (by simpa[World.setRow]using hb)⟩,c6,h.size,fun k v hk=>?_,fun k hk=>?_,fun k d hd=>?_,h.qW⟩,hpres⟩
 ·have hs:=h.ch k v hk
  rcases he k with⟨e,hnk⟩|⟨hgk,htm,cs,cs',e1,e2,e3,e4⟩
  ·rw[e]
   refine da.frame (G:=G) (G':=G) (fun _ _ hv=>hpres.vr h.aO hv) (fun b hb=>⟨rfl,rfl,hother b ?_⟩) (fun b c' j _ hc=>⟨hc,rfl,hother c' ?_⟩) _ _ (fun d _ ds hds=>?_) hs
   ·rcases hb with⟨j,hb⟩|hb
    ·rw[hb];exact fun e=>hog.2.2.1 _ _ e.symm
    ·rw[hb];exact fun e=>hnk e.symm
   ·rw[hc];exact fun e=>hog.2.2.2 _ _ e.symm
   ·rcases he d with⟨e',_⟩|⟨_,_,ds',_,e1',_⟩
    ·exact⟨ds,by rw[←e'];exact hds,rfl⟩
    ·exact⟨ds',e1',rfl⟩
  ·rw[e2]
   have hv:v=.pointer (some ⟨g,0,none⟩):=by rw[htm]at hk;exact(Option.some.inj hk).symm
   exact⟨g,new,t,hv,hgk,hR,setRow_heap w g c new t _ hg,e3,e4⟩
 ·rcases he k with⟨e,_⟩|⟨_,_,cs,_,e1,_⟩
  ·rw[e];exact h.CG k hk
  ·rw[h.CG k hk]at e1;cases e1
 ·rw[hlp]
  rcases he k with⟨e,_⟩|⟨_,_,cs,cs',_,e2,_⟩
  ·rw[e]at hd;exact h.HR k d hd
  ·rw[e2]at hd;exact hd.elim
theorem db.lay{g off:Nat}{cs news:List AV}{c:Array Value}{vs:List Value}{t:TypeId}{fz:Nat×Nat}(hg:w.heap[g]? =some (.cells c t fz))(hpres:aG G w G (w.setRow g (laid c off vs)))(hgood:b9 G w)
 (hc:db G w (.cell g) cs c)(hl:vs.length=news.length)(hfit:off+news.length≤cs.length)(hne:∀j,G.O g≠.cell g j)
 (hn:∀(j:Nat)(x:AV)(y:Value),news[j]? =some x→vs[j]? =some y→VR w G.R x y∧df G w (.cell g (off+j)) x y):
 db G (w.setRow g (laid c off vs)) (.cell g) (setAt cs off news) (laid c off vs):=by
 have hfit':off+vs.length≤c.size:=by rw[hl,hc.1];exact hfit
 refine⟨by rw[oU _ _ _ hfit',mz _ _ _ hfit,hc.1],fun j x y hx hy=>?_⟩
 rw[my _ _ _ _ hfit]at hx
 rw[jK _ _ _ hfit']at hy
 have mono:∀o:Nat,df G w (.cell g o) x y→df G (w.setRow g (laid c off vs)) (.cell g o) x y:=fun o ho=>ho.mono fun b hb=>⟨hb,rfl,setRow_other w g b _ (fun e=>by subst e;exact hne _ hb)⟩
 by_cases hj:off≤j∧j<off+news.length
 ·rw[if_pos hj]at hx
  rw[if_pos (by omega)]at hy
  obtain⟨h1,h2⟩:=hn (j -off) x y hx hy
  have:off+(j -off)=j:=by omega
  rw[this]at h2
  exact⟨hpres.vr hgood h1,mono j h2⟩
 ·rw[if_neg hj]at hx
  rw[if_neg (by omega)]at hy
  obtain⟨h1,h2⟩:=hc.2 j x y hx hy
  exact⟨hpres.vr hgood h1,mono j h2⟩
theorem Co{av:AV}{v:Value}(hi:c9 av=true)(h:VR w G.R av v):Fl (bp av)∧v.cells.toList.length=(bp av).length∧(∀(j:Nat)(x:AV)(y:Value),(bp av)[j]? =some x→v.cells.toList[j]? =some y→VR w G.R x y)∧
 (∀y∈v.cells.toList,y.oneCell'=true):=by
 have hr:=gv hi h
 have hrow:Row w G.R (bp av) v.cells:=by cases av<;>first|exact hr|exact hr.views
 refine⟨hrow.2.2,by simpa using hrow.1,fun j x y hx hy=>hrow.2.1 j x y hx (by simpa using hy),fun y hy=>?_⟩
 obtain⟨j,hj⟩:=List.mem_iff_getElem?.1 hy
 have hjl:j<(bp av).length:=by rw[←hrow.1];have:=(List.getElem?_eq_some_iff.1 hj).1;simpa using this
 have hx:=List.getElem?_eq_getElem hjl
 exact gJ (hrow.2.2 _ (List.getElem_mem hjl)) (hrow.2.1 j _ y hx (by simpa using hj))
theorem mg{t:TypeId}{m:Nat}(hs:cy P t m=true){g off:Nat}{c:Array Value}{et:TypeId}(hg:w.heap[g]? =some (.cells c et (0,0))){v:Value}(hm:v.cells.size=m)(hfit:off+m≤c.size)(h1:∀y∈v.cells.toList,y.oneCell'=true):
 (storeVar t ⟨g,off,none⟩ v).run P w=.ok () (w.setRow g (laid c off v.cells.toList)):=by
 have:=dj (P:=P) g off et (0,0) v.cells.toList 0 c w hg (fun k _ hk=>by simp at hk) (by simp[hm];omega) h1
 simp only[storeVar,Sem.run_bind,run_sizeOf hs,Result.andThen_ok]
 rw[if_neg (by simp[hm])]
 simpa[laid]using this
theorem qh{off:Nat}{news ez cs:List AV}(h:dQ off news ez=some cs):off+news.length≤ez.length∧cs=setAt ez off news:=by
 unfold dQ at h
 by_cases hl:off+news.length≤ez.length
 ·rw[decide_eq_true hl]at h;injection h with h;exact⟨hl,h.symm⟩
 ·rw[decide_eq_false hl]at h;cases h
theorem Bu{v:IX}(hi:c9 (σ.x v)=true){k:Nat}{cs:List AV}(h:look (σ.drain v).e k=.loc cs):look σ.e k=.loc cs:=by
 cases v with
 |c _=>exact h
 |t i=>
  simp only[St.drain,St.put,aP]at h
  split at h
  ·have:=l9 (jI (show c9 (look σ.e i)=true from hi)) cs
   exact absurd h this
  ·exact h
theorem yK{v:IX}(hi:c9 (σ.x v)=true){k:Nat}{cs:List AV}(h:look σ.e k=.loc cs):look (σ.drain v).e k=.loc cs:=by
 cases v with
 |c _=>exact h
 |t i=>
  simp only[St.drain,St.put,aP]
  split
  ·rename_i e;subst e
   rw[show σ.x (.t i)=look σ.e i from rfl,h]at hi
   cases hi
  ·exact h
theorem K5(h:Inv G n D σ a w){op:Op}{ty:TypeId}{m:Nat}{p v:IX}{d:Option Nat}{K:St→Prop}(hd:ba n d=true)(hc:au P op ty (.store m p v)=true)(hw:gH P (.store m p v) d σ K):mj P G n D w a op ty d K:=by
 cases op<;>first|(simp[au]at hc;done)|skip
 rename_i t q u
 simp only[au,Bool.and_eq_true]at hc
 obtain⟨⟨hs,hq⟩,hu⟩:=hc
 obtain⟨hi,hm,hk⟩:=hw
 have hvr:VR w G.R (σ.x v) (a.eval u):=by
  have:=XR.aJ h hu
  generalize σ.x v=av at hi this
  cases av<;>first|exact this|(simp[c9]at hi)
 have target:∃g off ez,a.eval q=.pointer (some ⟨g,off,none⟩)∧
  ((∃i,look σ.e i=.loc ez∧a.tmps[i]? =some (.pointer (some ⟨g,0,none⟩))∧Dt (σ.drain v) (σ.x p) p (bp (σ.x v))=Qj (σ.drain v) i (dQ off (bp (σ.x v)) ez))∨
   (σ.s g=some (.cells ez)∧Dt (σ.drain v) (σ.x p) p (bp (σ.x v))=Qk (σ.drain v) g (dQ off (bp (σ.x v)) ez))):=by
  have hb:=XR.aJ h hq
  cases hp:σ.x p with
  |loc ez=>
   rw[hp]at hb
   obtain⟨i,b,c,t',e1,e2,e3,e4,_⟩:=hb
   refine⟨b,0,ez,e4,.inl ⟨i,e2,by rw[e3,e4],?_⟩⟩
   subst e1;rfl
  |lp d0 off=>
   rw[hp]at hb hk
   obtain⟨b,e1,e2⟩:=hb
   have hk':HS d K (Er (σ.drain v) d0 off (bp (σ.x v)) (look (σ.drain v).e d0)):=hk
   cases hl:look (σ.drain v).e d0<;>rw[hl]at hk'<;>first|exact hk'.elim|skip
   rename_i ez
   have hl':=Bu hi hl
   exact⟨b,off,ez,e1,.inl ⟨d0,hl',e2 ez hl',by show Er _ _ _ _ (look (σ.drain v).e d0)=_;rw[hl];rfl⟩⟩
  |ref b off=>
   rw[hp]at hb hk
   have e1:=VR.gi hb
   have hk':HS d K (JF (σ.drain v) b off (bp (σ.x v)) ((σ.drain v).s b)):=hk
   have hs':(σ.drain v).s=σ.s:=by cases v<;>rfl
   rw[hs']at hk'
   cases hl:σ.s b with
   |none=>rw[hl]at hk';exact hk'.elim
   |some so=>
    cases so with
    |map es=>rw[hl]at hk';exact hk'.elim
    |cells ez=>exact⟨b,off,ez,e1,.inr ⟨hl,by show JF _ _ _ _ ((σ.drain v).s b)=_;rw[hs',hl];rfl⟩⟩
  |_=>rw[hp]at hk;exact hk.elim
 obtain⟨g,off,ez,e1,htar⟩:=target
 obtain⟨G1,h1,hp1,hv1,hown1,hR1,hsh,hloc,hcell⟩:=h.drain hu hi (.cell g off) (by simp) (by simp)
 obtain⟨hfl,hlen,hvals,hone⟩:=Co hi hv1
 have hown:∀(x:AV)(y:Value),(bp (σ.x v))[0]? =some x→(a.eval u).cells.toList[0]? =some y→df G1 w (.cell g (off+0)) x y:=by
  intro x y hx hy
  cases hv:σ.x v with
  |agg cs=>
   rw[hv]at hx
   simp only[bp]at hx
   rw[eb]at hx
   cases hc0:cs[0]? with
   |none=>rw[hc0]at hx;cases hx
   |some c0=>rw[hc0]at hx;simp at hx;rw[←hx];exact df.view ..
  |sl o s l cs=>
   rw[hv]at hx hown1 hv1
   simp[bp]at hx
   subst hx
   have:(a.eval u).cells= #[a.eval u]:=by rcases VR.fR hv1 with⟨(e|⟨_,_,_,e⟩),_⟩|⟨_,_,_,e,_⟩<;>rw[e]<;>rfl
   rw[this]at hy
   simp at hy
   subst hy
   exact hown1
  |bb t l cs=>
   rw[hv]at hx hown1 hv1
   simp[bp]at hx
   subst hx
   have hv1':VR w G1.R (.sl true 1 l cs) (a.eval u):=by cases hv1;assumption
   have:(a.eval u).cells= #[a.eval u]:=by rcases VR.fR hv1' with⟨(e|⟨_,_,_,e⟩),_⟩|⟨_,_,_,e,_⟩<;>rw[e]<;>rfl
   rw[this]at hy
   simp at hy
   subst hy
   exact hown1
  |_=>rw[hv]at hx;simp[bp]at hx;subst hx;trivial
 have hown':∀(j:Nat)(x:AV)(y:Value),(bp (σ.x v))[j]? =some x→(a.eval u).cells.toList[j]? =some y→VR w G1.R x y∧df G1 w (.cell g (off+j)) x y:=by
  intro j x y hx hy
  refine⟨hvals j x y hx hy,?_⟩
  cases j with
  |zero=>exact hown x y hx hy
  |succ j=>
   cases hv:σ.x v with
   |agg cs=>
    rw[hv]at hx
    simp only[bp]at hx
    rw[eb]at hx
    cases hc0:cs[j+1]? with
    |none=>rw[hc0]at hx;cases hx
    |some c0=>rw[hc0]at hx;simp at hx;rw[←hx];exact df.view ..
   |_=>rw[hv]at hx;simp[bp]at hx
 have hlen':(a.eval u).cells.toList.length=m:=by rw[hlen,hm]
 have hput:∀(τ:St)(w':World),Inv G1 n D τ a w'→Inv G1 n D (τ.put d (.gu [])) (a.put d undef) w':=by
  intro τ w' hτ
  have:=hτ.put (s':=τ.s) (lp':=τ.lp) d (fun i hi=>by subst hi;simpa[ba]using hd) (.gu []) undef hτ.aO (aG.refl G1 w') hτ.store (fun _ hx=>hx) (fun i t _ ht=>ht.elim) (fun i t _⟨cs,hcs⟩=>by cases hcs)
   (fun _ _ _ _=>⟨rfl,rfl,rfl⟩) (fun _ _ _ _ _ _ hcc=>⟨hcc,rfl,rfl⟩) (fun i hdi=>⟨#[],rfl,rfl,fun j x y hx=>by simp at hx⟩)
  cases d<;>exact this
 rcases htar with⟨i,e2,e3,e4⟩|⟨e2,e4⟩
 ·
  rw[e4]at hk
  cases hwr:dQ off (bp (σ.x v)) ez with
  |none=>rw[hwr]at hk;exact hk.elim
  |some cs'=>
   rw[hwr]at hk
   obtain⟨hfit,rfl⟩:=qh hwr
   have e2':look (σ.drain v).e i=.loc ez:=yK hi e2
   have hslot:=h1.ch i _ e3
   rw[e2']at hslot
   obtain⟨b,c,t',q1,q2,q3,q4,q5,q6⟩:=hslot
   injection q1 with q1;injection q1 with q1;injection q1 with q1 _ _
   subst q1
   have hne:∀j,G1.O g≠.cell g j:=fun j=>by rw[q2];simp
   have hfit':off+(a.eval u).cells.toList.length≤c.size:=by rw[hlen,q5.1];exact hfit
   have hrun:=mg (P:=P) hs q4 (v:=a.eval u) (by simpa using hlen') (by rw[←hlen'];exact hfit') hone
   have hpres:aG G1 w G1 (w.setRow g (laid c off (a.eval u).cells.toList)):=aG.write q4 (by rw[q2];simp) (fun k hk=>by rw[q3]at hk;omega) (Nat.le_refl _) (fun _ _=>⟨rfl,rfl⟩)
   have hcells:=db.lay q4 hpres h1.aO q5 hlen hfit hne hown'
   obtain⟨h2,_⟩:=h1.written (σ':=(σ.drain v).put (some i) (.loc (setAt ez off (bp (σ.x v))))) q4 (.inl ⟨i,q2⟩) q3 rfl
    (h1.store.mono h1.aO hpres (fun b hb=>⟨hb,rfl,setRow_other w g b _ (fun e=>by subst e;rw[q2]at hb;cases hb)⟩) (fun b c j _ hc=>⟨hc,rfl,setRow_other w g c _ (fun e=>by subst e;rw[q2]at hc;cases hc)⟩))
    (fun k=>by
      by_cases hki:i=k
      ·subst hki
       exact .inr ⟨q2,e3,ez,_,e2',by simp[St.put,aP],hcells,Fl.setAt q6 hfl off⟩
      ·refine .inl ⟨by simp[St.put,aP,hki],?_⟩
       rw[q2];intro e;injection e with e;exact hki e)
   intro pos after gd next Q hn
   exact pB (w':=w.setRow g (laid c off (a.eval u).cells.toList)) (by simp[execOp,e1,Instr.storeAt,Instr.sureAddr,hrun]) (hn G1 _ _ _ (hput _ _ h2) (hp1.trans hpres) hk)
 ·
  rw[e4]at hk
  cases hwr:dQ off (bp (σ.x v)) ez with
  |none=>rw[hwr]at hk;exact hk.elim
  |some cs'=>
   rw[hwr]at hk
   obtain⟨hfit,rfl⟩:=qh hwr
   have hs':(σ.drain v).s=σ.s:=by cases v<;>rfl
   obtain⟨q2,q3,c,t',q4,q5,q6⟩:=h1.store g (.cells ez) (by rw[hs'];exact e2)
   have hne:∀j,G1.O g≠.cell g j:=fun j=>by rw[q2];simp
   have hfit':off+(a.eval u).cells.toList.length≤c.size:=by rw[hlen,q5.1];exact hfit
   have hrun:=mg (P:=P) hs q4 (v:=a.eval u) (by simpa using hlen') (by rw[←hlen'];exact hfit') hone
   have hpres:aG G1 w G1 (w.setRow g (laid c off (a.eval u).cells.toList)):=aG.write q4 (by rw[q2];simp) (fun k hk=>by rw[q3]at hk;omega) (Nat.le_refl _) (fun _ _=>⟨rfl,rfl⟩)
   have hcells:=db.lay q4 hpres h1.aO q5 hlen hfit hne hown'
   have c6:aW G1 (w.setRow g (laid c off (a.eval u).cells.toList)) ((σ.drain v).s.set g (.cells (setAt ez off (bp (σ.x v))))):=by
    intro b o hb
    unfold ab.set at hb
    by_cases hbg:b=g
    ·rw[if_pos hbg]at hb;injection hb with hb;subst hb;subst hbg
     exact⟨q2,q3,_,t',setRow_heap w b c _ t' _ q4,hcells,xn.setAt q6 hfl off⟩
    ·rw[if_neg hbg]at hb
     obtain⟨r1,r2,r3⟩:=h1.store b o hb
     refine⟨r1,r2,?_⟩
     have hbk:=setRow_other w g b (laid c off (a.eval u).cells.toList) hbg
     cases o with
     |cells cs=>
      obtain⟨c0,t0,r4,r5,r6⟩:=r3
      exact⟨c0,t0,hbk.trans r4,r5.mono (fun _ _ hv=>hpres.vr h1.aO hv) (fun b' j hb'=>⟨hb',rfl,setRow_other w g b' _ (fun e=>by subst e;rw[q2]at hb';cases hb')⟩),r6⟩
     |map es=>
      obtain⟨ents,clock,r4,r5,r6⟩:=r3
      exact⟨ents,clock,hbk.trans r4,r5,fun j x y hx hy=>⟨hpres.vr h1.aO (r6 j x y hx hy).1,hpres.vr h1.aO (r6 j x y hx hy).2⟩⟩
   obtain⟨h2,_⟩:=h1.written (σ':={σ.drain v with s:=(σ.drain v).s.set g (.cells (setAt ez off (bp (σ.x v))))}) q4 (.inr q2) q3 rfl c6
    (fun k=>.inl ⟨rfl,by rw[q2];simp⟩)
   intro pos after gd next Q hn
   exact pB (w':=w.setRow g (laid c off (a.eval u).cells.toList)) (by simp[execOp,e1,Instr.storeAt,Instr.sureAddr,hrun]) (hn G1 _ _ _ (hput _ _ h2) (hp1.trans hpres) hk)
end
end Go.AB
end
section
namespace Go.AB
open Go
section
variable{P:Program}{G G':Gh}{n:Nat}{D:List Deferred}{σ:St}{a:Act}{w w':World}
theorem Inv.Kf(h:Inv G n D σ a w){d:Option Nat}(hd:ba n d=true){sz m cap:Nat}{cs:List AV}{c:Array Value}{t:TypeId}{ob:cY}{own:Bool}(hob:∀i,d=some i→ob=.slot i 0)(hobn:d=none→ob=.none)
 (hl:cs.length=m*sz)(hcap:m≤cap)(hsz:c.size=cap*sz)(hfl:Fl cs)
 (hcs:∀(j:Nat)(x:AV),cs[j]? =some x→∃y,c[j]? =some y∧VR w G.R x y)(fz:Nat×Nat)(hfz:(∀k,k<c.size→¬(fz.1≤k∧k<fz.2))∧fz.1≤fz.2)(hz0:own=true→fz=(0,0)∨(0<m∧∃x,c[0]? =some (.int .u8 x)))(hsp:∀(k:Nat)(y:Value),m*sz≤k→c[k]? =some y→y.oneCell'=true):
 ∃G',Inv G' n D (σ.put d (.sl own sz m cs)) (a.put d (.slice (some ⟨w.heap.size,0,none⟩) m cap)) (w.alloc (.cells c t fz))∧aG G w G' (w.alloc (.cells c t fz)):=by
 have hp:=(fF h.aO (.cells c t fz) ob cs.length).2.1
 obtain⟨h1,h2⟩:=h.alloc (.cells c t fz) ob cs.length d hd (.sl own sz m cs) (.slice (some ⟨w.heap.size,0,none⟩) m cap) σ.lp (jr h.store h.aO _ ob cs.length) (fun _ hx=>hx) (fun i t' _ ht=>ht.elim)
  (fun i t' _⟨cs',hcs'⟩=>by cases hcs')
  (fun i hi=>by
    refine⟨?_,?_⟩
    ·refine .sl own sz m cs w.heap.size 0 cap (fun j=>c.getD j undef) hfl hl (by simp) hcap (fun j x hj=>?_) (fun j x hj=>?_)
     ·obtain⟨y,hy,_⟩:=hcs j x hj
      rw[Nat.zero_add,cell_of_row _ (heap_alloc_new w _),hy]
      simp[Array.getD_eq_getD_getElem?,hy]
     ·obtain⟨y,hy,hv⟩:=hcs j x hj
      have:c.getD j undef=y:=by simp[Array.getD_eq_getD_getElem?,hy]
      rw[this]
      exact hp.vr h.aO hv
    ·cases own with
     |false=>trivial
     |true=>
     intro base m' cap' hv hc
     injection hv with e1 e2 e3
     subst e3
     exact⟨w.heap.size,0,c,t,fz,e1.symm,by simp[hob i hi],by simp[hl],heap_alloc_new w _,by rw[hsz,Nat.zero_add],hfz.1,hfz.2,rfl,hz0 rfl,fun k y hk=>hsp k y (by omega)⟩)
 exact⟨_,by cases d<;>exact h1,h2⟩
theorem GH(l:List Value):∀(m:Nat),((List.replicate m l).flatten)=((List.range (m*l.length)).map fun i=>l.getD (i % l.length) undef):=by
 intro m
 apply List.ext_getElem?
 intro j
 rcases Nat.eq_zero_or_pos l.length with h0|hp
 ·have:l=[]:=List.eq_nil_of_length_eq_zero h0
  subst this
  simp
 ·induction m generalizing j with
  |zero=>simp
  |succ m ih=>
   rw[List.replicate_succ,List.flatten_cons]
   by_cases hj:j<l.length
   ·rw[List.getElem?_append_left hj,List.getElem?_map,List.getElem?_range (by rw[Nat.add_mul,Nat.one_mul];omega)]
    simp[Nat.mod_eq_of_lt hj,List.getD_eq_getElem?_getD,List.getElem?_eq_getElem hj]
   ·rw[List.getElem?_append_right (by omega),ih,List.getElem?_map,List.getElem?_map]
    by_cases hlt:j<(m+1)*l.length
    ·have h1:j -l.length<m*l.length:=by rw[Nat.add_mul,Nat.one_mul]at hlt;omega
     rw[List.getElem?_range hlt,List.getElem?_range h1]
     simp only[Option.map_some]
     congr 2
     rw[Nat.mod_eq_sub_mod (by omega:l.length≤j)]
    ·have h1:¬(j -l.length<m*l.length):=by rw[Nat.add_mul,Nat.one_mul]at hlt;omega
     rw[List.getElem?_eq_none (by simp;omega),List.getElem?_eq_none (by simp;omega)]
theorem sX(z:Array Value)(m:Nat):((Array.range (m*z.size)).map fun i=>z[i % z.size]!)=((List.replicate m z.toList).flatten).toArray:=by
 rw[GH]
 apply Array.ext'
 simp only[Array.toList_map,Array.toList_range,Array.length_toList]
 apply List.map_congr_left
 intro i hi
 have hlt:i<m*z.size:=by simpa using hi
 have hz:0<z.size:=by
  rcases Nat.eq_zero_or_pos z.size with h|h
  ·rw[h,Nat.mul_zero]at hlt;omega
  ·exact h
 have hm:=Nat.mod_lt i hz
 rw[getElem!_pos z (i % z.size) hm]
 simp[List.getD_eq_getElem?_getD,hm]
theorem Gy(h:Inv G n D σ a w){op:Op}{ty:TypeId}{sz m:Nat}{z:List AV}{ps:List (Nat×Nat×IX)}{d:Option Nat}{K:St→Prop}(hd:ba n d=true)(hc:au P op ty (.b5 sz m z ps)=true)(hw:gH P (.b5 sz m z ps) d σ K):mj P G n D w a op ty d K:=by
 cases op<;>first|(simp[au]at hc;done)|skip
 rename_i t m' qs
 simp only[au,Bool.and_eq_true,beq_iff_eq]at hc
 obtain⟨rfl,hc⟩:=hc
 split at hc<;>try(cases hc;done)
 rename_i e ht
 have ht:=cC ht
 simp only[Bool.and_eq_true]at hc
 obtain⟨⟨⟨⟨hs,hpos⟩,hp⟩,hlim⟩,hz⟩:=hc
 obtain⟨i,hi,hisz⟩:=iE hs
 rw[hi]at hz
 simp only at hz
 split at hz<;>try(cases hz;done)
 rename_i zv hzv
 simp only[Bool.and_eq_true,beq_iff_eq]at hz
 obtain⟨hzr,hzs⟩:=hz
 have hpos:=of_decide_eq_true hpos
 have hlim:=of_decide_eq_true hlim
 have hw':vG sz m σ d K (fill (xg true σ) z ps):=hw
 cases hfl:fill (xg true σ) z ps with
 |none=>rw[hfl]at hw';exact hw'.elim
 |some ds=>
  rw[hfl]at hw'
  obtain⟨hlen,hk⟩:=hw'
  obtain⟨hl,hpa⟩:=vg _ _ hp
  obtain⟨hz1,hz2⟩:=Ac hzr
  have hrow:Row w G.R z ((Array.range (m*sz)).map (zv.cells[·% zv.cells.size]!)):=by
   rw[←hzs,sX]
   exact⟨by simpa using hz1,fun j c u hc hu=>ru (hz2 j c u hc (by simpa using hu)) w G.R,AM hzr⟩
  have hf:∀(o:Operand)(x:IX),bw o x=true→c9 (xg true σ x)=true→VR w G.R (xg true σ x) (a.eval o):=fun o x hx hi=>by
   have:=BR.aJ h hx
   generalize xg true σ x=av at hi this
   cases av<;>first|exact this|(simp[c9]at hi)
  obtain⟨us,h1,h2⟩:=pM h hf (fun i=>some (i*sz,sz)) qs.toList ps z ds _ ⟨hl,fun j q p hq hp'=>by
   obtain⟨⟨e1,e2⟩,hx⟩:=hpa j q p hq hp'
   exact⟨by rw[e1,e2],hx⟩⟩ hrow hfl
  obtain⟨G1,h3,h4⟩:=h.Kf (t:=e) (ob:=match d with|some i=>.slot i 0|none=>.none) hd (fun i hi=>by subst hi;rfl) (fun hn=>by subst hn;rfl) hlen (Nat.le_refl m) (by rw[h2.1,hlen]) h2.2.2
   (fun j x hx=>by
     have hlt:j<us.size:=by rw[h2.1];exact(List.getElem?_eq_some_iff.1 hx).1
     exact⟨us[j],Array.getElem?_eq_getElem hlt,h2.2.1 j x _ hx (Array.getElem?_eq_getElem hlt)⟩) (0,0) ⟨fun k _ hk=>by simp at hk,Nat.le_refl _⟩ (own:=true) (fun _=>.inl rfl) (fun k y hk hy=>by
     have:=(Array.getElem?_eq_some_iff.1 hy).1
     rw[h2.1,hlen]at this;omega)
  intro pos after gd next Q hn
  refine aN ?_ (hn G1 _ _ _ h3 h4 hk)
  by_cases hm0:m*sz=0
  ·have hm:m=0:=by
    rcases Nat.mul_eq_zero.1 hm0 with h|h
    ·exact h
    ·omega
   subst hm
   simp only[Nat.zero_mul]at h1
   have:(Array.range 0).map (zv.cells[·% zv.cells.size]!)= #[]:=by simp
   rw[this]at h1
   have hr0:Array.map (fun _:Nat=>(default:Value)) (Array.range 0)= #[]:=by apply Array.ext';simp
   simp[execOp,Instr.buildSlice,run_underlying ht,run_sizeOf hs,hr0,h1,newRow]
  ·have h24:¬(16777216<m*sz):=by omega
   simp[execOp,Instr.buildSlice,run_underlying ht,run_sizeOf hs,h24,hm0,zeroValue,typeInfo,hi,hzv,h1,newRow]
theorem AK(s:List UInt8):Fl (s.map fun c=>AV.int .u8 c.toNat):=by
 intro c hc
 simp only[List.mem_map]at hc
 obtain⟨x,_,rfl⟩:=hc
 rfl
theorem Iv(h:Inv G n D σ a w){op:Op}{ty:TypeId}{x:IX}{d:Option Nat}{K:St→Prop}(hd:ba n d=true)(hc:au P op ty (.fA x)=true)(hw:gH P (.fA x) d σ K):mj P G n D w a op ty d K:=by
 cases op<;>first|(simp[au]at hc;done)|skip
 rename_i s t y
 simp only[au,Bool.and_eq_true]at hc
 obtain⟨hy,hc⟩:=hc
 split at hc<;>try(cases hc;done)
 rename_i e hs ht
 split at hc<;>try(cases hc;done)
 rename_i he
 have hb:=BR.aJ h hy
 have hw':Ae σ d K (xg true σ x):=hw
 generalize xg true σ x=xv at hb hw'
 unfold Ae at hw'
 split at hw'<;>try(exact hw'.elim)
 rename_i ow sz m cs
 obtain⟨rfl,l,rfl,hk⟩:=hw'
 have hput:Inv G n D (σ.put d (.str l)) (a.put d (.string ⟨l.toArray⟩)) w:=by
  have:=h.put (s':=σ.s) (lp':=σ.lp) d (fun i hi=>by subst hi;simpa[ba]using hd) (.str l) (.string ⟨l.toArray⟩) h.aO (aG.refl G w) h.store (fun _ hx=>hx) (fun i t _ ht=>ht.elim) (fun i t _⟨cs,hcs⟩=>by cases hcs)
   (fun _ _ _ _=>⟨rfl,rfl,rfl⟩) (fun _ _ _ _ _ _ hcc=>⟨hcc,rfl,rfl⟩) (fun i hdi=>⟨.str l,trivial⟩)
  cases d<;>exact this
 intro pos after gd next Q hn
 refine aN (v:=.string ⟨l.toArray⟩) ?_ (hn G _ _ _ hput (aG.refl G w) hk)
 rcases VR.fR hb with⟨e1,_,hl0⟩|⟨b,off,cap,e1,hlen,_,_,u,u1,u2,_⟩
 ·have:l=[]:=by simpa using hl0
  subst this
  rcases e1 with e1|⟨_,ad,cap,e1⟩
  ·have:=run_convert_bytes_nil (P:=P) w s e hs he 0 0 t ht
   simp[execOp,e1,this]
   rfl
  ·have:=ju (P:=P) w s e hs he ad cap t ht
   simp[execOp,e1,this]
   rfl
 ·have hm:l.length=m:=by simpa using hlen
  have:=run_convert_bytes_arg (P:=P) w s e hs he b off m cap (l.map fun c=>(c.toNat:Int)) (by simpa using hm) (fun i hi=>by
   have hil:i<l.length:=by omega
   have hc0:(l.map fun c=>AV.int .u8 c.toNat)[i]? =some (.int .u8 l[i].toNat):=by simp[hil]
   rw[u1 i _ hc0,VR.bO (u2 i _ hc0)]
   simp[List.getD_eq_getElem?_getD,hil]) t ht
  have hs2:strOfNums (l.map fun c=>(c.toNat:Int))=⟨l.toArray⟩:=by
   unfold strOfNums
   congr 2
   simp[Function.comp_def]
  rw[hs2]at this
  simp[execOp,e1,this]
theorem aG.drew(G:Gh)(w:World):aG G w G w.drew:=⟨rfl,rfl,rfl,Nat.le_succ _,Nat.le_refl _,fun _ _=>Nat.le_refl _,fun _ _ _ _=>rfl,fun _ _ _=>rfl,fun _ _ h=>⟨h,rfl⟩,fun _ _ h=>⟨h,rfl⟩⟩
theorem Inv.drew(h:Inv G n D σ a w):Inv G n D σ a w.drew:=by
 have hg:b9 G w.drew:=⟨h.aO.iA,h.aO.iU⟩
 have:=h.put (s':=σ.s) (lp':=σ.lp) none (fun i hi=>by cases hi) .undef undef hg (aG.drew G w) (h.store.mono h.aO (aG.drew G w) (fun _ hb=>⟨hb,rfl,rfl⟩) (fun _ _ _ _ hc=>⟨hc,rfl,rfl⟩)) (fun _ hx=>hx) (fun i t hi=>by cases hi) (fun i t hi=>by cases hi)
  (fun _ _ _ _=>⟨rfl,rfl,rfl⟩) (fun _ _ _ _ _ _ hcc=>⟨hcc,rfl,rfl⟩) (fun i hi=>by cases hi)
 exact this
theorem EN(h:Inv G n D σ a w){op:Op}{ty:TypeId}{x:IX}{d:Option Nat}{K:St→Prop}(hd:ba n d=true)(hc:au P op ty (.hE x)=true)(hw:gH P (.hE x) d σ K):mj P G n D w a op ty d K:=by
 cases op<;>first|(simp[au]at hc;done)|skip
 rename_i s t y
 simp only[au,Bool.and_eq_true]at hc
 obtain⟨hy,hc⟩:=hc
 split at hc<;>try(cases hc;done)
 rename_i e hs ht
 split at hc<;>try(cases hc;done)
 rename_i he
 have hb:=BR.aJ h hy
 have hw':oE σ d K (xg true σ x):=hw
 generalize xg true σ x=xv at hb hw'
 unfold oE at hw'
 split at hw'<;>try(exact hw'.elim)
 rename_i l
 have e1:=VR.eT hb
 have hk:K (σ.put d (.sl (Pj l) 1 l.length (l.map fun c=>.int .u8 c.toNat))):=hw'
 let cap:=(Question.appendCap l.length 0 e).cut (w.tape w.drawn (.appendCap l.length 0 e))
 have hcap:l.length≤cap:=Nat.le_add_right _ _
 let c:Array Value:=(l.toArray.map fun b=>Value.int .u8 b.toNat)++Array.replicate (cap -l.length) (.int .u8 0)
 have hcs:c.size=cap:=by simp[c];omega
 obtain⟨G1,h3,h4⟩:=(h.drew).Kf (t:=e) (c:=c) (m:=l.length) (cs:=l.map fun c=>AV.int .u8 c.toNat) (cap:=cap) (sz:=1) (ob:=match d with|some i=>.slot i 0|none=>.none) hd (fun i hi=>by subst hi;rfl) (fun hn=>by subst hn;rfl) (by simp) hcap (by rw[hcs];simp) (AK l)
  (fun j x hx=>by
    rw[List.getElem?_map]at hx
    cases hj:l[j]? with
    |none=>rw[hj]at hx;cases hx
    |some b0=>
     rw[hj]at hx;simp at hx
     have hlt:j<l.length:=(List.getElem?_eq_some_iff.1 hj).1
     refine⟨.int .u8 b0.toNat,?_,by rw[←hx];exact .int _ _⟩
     have hjb:l[j]=b0:=by simpa[hlt]using hj
     simp[c,Array.getElem?_append,hlt,hjb]) (c.size,c.size+1) ⟨fun k hk hh=>by omega,Nat.le_succ _⟩ (own:=Pj l) (fun hne=>.inr (by
    cases l with
    |nil=>cases hne
    |cons x0 l=>exact⟨Nat.succ_pos _,x0.toNat,by
     show(Array.map _ _++_)[0]? =_
     rw[Array.getElem?_append_left (by simp)];simp⟩)) (fun k y _ hy=>by
    obtain⟨hk,hy⟩:=Array.getElem?_eq_some_iff.1 hy
    have hm:y∈c:=by rw[←hy];exact Array.getElem_mem hk
    rcases Array.mem_append.1 hm with hm|hm
    ·obtain⟨b,_,rfl⟩:=Array.mem_map.1 hm;rfl
    ·rw[(Array.mem_replicate.1 hm).2];rfl)
 intro pos after gd next Q hn
 refine aN (w':=(w.drew).alloc (.cells c e (c.size,c.size+1))) ?_ (hn G1 _ _ _ h3 ((aG.drew G w).trans h4) hk)
 have hsz:(ByteArray.mk l.toArray).size=l.length:=by simp[ByteArray.size]
 have hconv:(Conv.stringToBytes e ⟨l.toArray⟩).run P w=.ok (.slice (some ⟨w.heap.size,0,none⟩) l.length cap) ((w.drew).alloc (.cells c e (c.size,c.size+1))):=by
  have hfr:∀(w0:World),(w0.alloc (.cells c e)).freeze {block:=w0.heap.size,off:=c.size} 1=w0.alloc (.cells c e (c.size,c.size+1)):=by
   intro w0
   unfold World.freeze World.alloc
   simp only[Nat.succ_ne_self,if_false]
   congr 1
   apply Array.ext
   ·simp
   ·intro k h1 h2
    simp only[Array.getElem_modify,Array.getElem_push]
    by_cases hk:k<w0.heap.size
    ·have:w0.heap.size≠k:=by omega
     simp[hk,this]
    ·have:k=w0.heap.size:=by simp at h1;omega
     subst this
     simp
  have hshape:((w.drew).alloc (.cells c e)).shape? w.heap.size=some (e,c.size):=by
   unfold World.shape?
   rw[show((w.drew).alloc (.cells c e)).heap[w.heap.size]? =some (.cells c e) from heap_alloc_new w.drew _]
  simp only[Conv.stringToBytes,Sem.run_bind,run_choose,Question.forced,hsz,Bool.false_eq_true,if_false,Result.andThen_ok,newRow,run_newObj,Sem.run_pure,markStringish,run_shape]
  show((Sem.run P (match((w.drew).alloc (.cells c e)).shape? w.heap.size with|some (_,n)=>freeze {block:=w.heap.size,off:=n} 1|x=>pure ()) ((w.drew).alloc (.cells c e))).andThen fun a w'=>Result.ok (Value.slice (some {block:=w.heap.size,off:=0}) l.length cap) w')=_
  rw[hshape]
  simp only[run_freeze,Result.andThen_ok]
  exact congrArg _ (hfr w.drew)
 simp[execOp,e1,convert,underlying,hs,ht,he,hconv]
end
end Go.AB
end
section
namespace Go.AB
open Go
section
variable{P:Program}{G G':Gh}{n:Nat}{D:List Deferred}{σ:St}{a:Act}{w w':World}
structure Src(P:Program)(w:World)(R:Nat→Nat)(sz m:Nat)(ds:List AV)(v:Value)(news:List Value):Prop where
 len:news.length=m*sz
 oe:ds.length=m*sz
 lenOf:∀w',(Builtin.lenOf v).run P w'=.ok m w'
 first:∀w',w'.heap=w.heap→(Builtin.firstCells sz m v).run P w'=.ok news.toArray w'
 one:∀u∈news,u.oneCell'=true
 jZ:∀(j:Nat)(c:AV)(u:Value),ds[j]? =some c→news[j]? =some u→VR w R c u
 fl:Fl ds
theorem xu{w w':World}(h:w'.heap=w.heap)(a:Addr):w'.cell? a=w.cell? a:=by unfold World.cell?;rw[h]
theorem Src.Q8{R:Nat→Nat}{o:Bool}{s sz m:Nat}{ds:List AV}{v:Value}(h:VR w R (.sl o s m ds) v)(hs:s=sz∨m=0):∃news,Src P w R sz m (views ds) v news:=by
 rcases VR.fR h with⟨(rfl|⟨_,ad,cap,rfl⟩),rfl,rfl⟩|⟨b,off,cap,rfl,hl,_,_,hat⟩
 ·exact⟨[],by simp,by simp[views],fun _=>rfl,fun w' _=>by simp[Builtin.firstCells],by simp,fun j c u hc=>by simp[views]at hc,Fl.nil⟩
 ·exact⟨[],by simp,by simp[views],fun _=>rfl,fun w' _=>by simp[Builtin.firstCells,loadCells,loadCellsFrom],by simp,fun j c u hc=>by simp[views]at hc,Fl.nil⟩
 ·have hlen:(views ds).length=m*sz:=by
   rcases hs with rfl|rfl
   ·simp[views,hl]
   ·simp only[views,List.length_map,hl];omega
  have hatv:=hat.views
  obtain⟨us,h1,h2,h3⟩:=hatv.jZ
  have hfl:Fl (views ds):=by obtain⟨_,_,_,hf⟩:=hatv;exact hf
  refine⟨us,by rw[h1,hlen],hlen,fun _=>rfl,fun w' hw'=>?_,fun u hu=>?_,h3,hfl⟩
  ·exact run_firstCells_some w' sz m ⟨b,off,none⟩ m cap us (by rw[h1,hlen]) fun j v hj=>by rw[xu hw'];exact h2 j v hj
  ·obtain⟨j,hj⟩:=List.mem_iff_getElem?.1 hu
   have hlt:j<(views ds).length:=by rw[←h1];exact(List.getElem?_eq_some_iff.1 hj).1
   have hx:=List.getElem?_eq_getElem hlt
   exact gJ (hfl _ (List.getElem_mem hlt)) (h3 j _ u hx hj)
theorem Src.Fq{R:Nat→Nat}{l:List UInt8}:Src P w R 1 l.length (l.map fun c=>.int .u8 c.toNat) (.string ⟨l.toArray⟩) (l.map fun c=>.int .u8 c.toNat)where
 len:=by simp
 oe:=by simp
 lenOf:=fun w'=>by simp[Builtin.lenOf,ByteArray.size]
 first:=fun w' _=>by
  have:(ByteArray.mk l.toArray).extract 0 l.length=⟨l.toArray⟩:=by
   apply ByteArray.ext
   rw[ByteArray.data_extract]
   simp
  simp[Builtin.firstCells,this]
 one:=fun u hu=>by
  simp only[List.mem_map]at hu
  obtain⟨x,_,rfl⟩:=hu
  rfl
 jZ:=fun j c u hc hu=>by
  rw[List.getElem?_map]at hc hu
  cases hj:l[j]? with
  |none=>rw[hj]at hc;cases hc
  |some x=>rw[hj]at hc hu;simp at hc hu;rw[←hc,←hu];exact .int _ _
 fl:=AK l
section runs
variable{t t' ty e:TypeId}{i:TypeInfo}{z:Value}{sz m:Nat}{ds:List AV}{v:Value}{news:List Value}
theorem gF(ht:P.underlying t=some (.slice e))(ht':(∃e',P.underlying t'=some (.slice e'))∨P.underlying t'=some .string)(hi:P.info? e=some i)(hsz:i.size=sz){R:Nat→Nat}(hs:Src P w R sz m ds v news){b off k cap:Nat}
 (hroom:k+m≤cap){w':World}(c6:(storeCells ⟨b,off+k*sz,none⟩ news).run P w=.ok () w'):
 (Builtin.append_ #[t,t'] ty #[.slice (some ⟨b,off,none⟩) k cap,v]).run P w=.ok (.slice (some ⟨b,off,none⟩) (k+m) cap) w':=by
 subst hsz
 have h1:=hs.lenOf w
 have h2:=hs.first w rfl
 rcases ht' with⟨e',ht'⟩|ht'<;>
  simp[Builtin.append_,run_underlying ht,run_underlying ht',sizeOf,typeInfo,hi,h1,hroom,h2,add_eq,c6]
theorem mf(ht:P.underlying t=some (.slice e))(ht':(∃e',P.underlying t'=some (.slice e'))∨P.underlying t'=some .string)(hi:P.info? e=some i)(hsz:i.size=sz){R:Nat→Nat}(hs:Src P w R sz 0 ds v news):
 (Builtin.append_ #[t,t'] ty #[.slice none 0 0,v]).run P w=.ok (.slice none 0 0) w:=by
 subst hsz
 have h1:=hs.lenOf w
 have h2:=hs.first w rfl
 rcases ht' with⟨e',ht'⟩|ht'<;>
  simp[Builtin.append_,run_underlying ht,run_underlying ht',sizeOf,typeInfo,hi,h1,h2]
theorem qa(ht:P.underlying t=some (.slice e))(ht':(∃e',P.underlying t'=some (.slice e'))∨P.underlying t'=some .string)(hi:P.info? e=some i)(hz:i.zero=some z)(hsz:i.size=sz){R:Nat→Nat}(hs:Src P w R sz m ds v news){base:Option Addr}{k cap:Nat}{olds:List Value}
 (hold:(Builtin.firstCells sz k (.slice base k cap)).run P w.drew=.ok olds.toArray w.drew)(hroom:cap<k+m)(hbytes:(k+m)*i.bytes≤room)(hb0:0<i.bytes):
 (Builtin.append_ #[t,t'] ty #[.slice base k cap,v]).run P w=.ok (.slice (some ⟨w.heap.size,0,none⟩) (k+m) (grownCap w (k+m) cap e))
   (w.drew.alloc (.cells (olds.toArray++news.toArray++Builtin.zeroCells z.cells (grownCap w (k+m) cap e -(k+m))) e)):=by
 subst hsz
 have h1:=hs.lenOf w
 have h2:=hs.first w.drew rfl
 have h3:¬(k+m≤cap):=by omega
 have h4:¬(281474976710656<Builtin.nextslicecap (k+m) cap*i.bytes):=by have:=growslice_fits hroom hbytes;omega
 have h5:k+m≤(k+m)*i.bytes:=Nat.le_mul_of_pos_right _ hb0
 have h6:¬((9223372036854775807:Int)<(k:Int)+m):=by unfold room at hbytes;omega
 rcases ht' with⟨e',ht'⟩|ht'<;>
  simp[Builtin.append_,run_underlying ht,run_underlying ht',sizeOf,typeInfo,zeroValue,hi,hz,h1,h3,h4,h6,Question.forced,hold,h2,newRow,grownCap]<;>
  (congr 2;apply Array.ext';simp[List.append_assoc])
end runs
theorem Inv.grown(h:Inv G n D σ a w){d:Option Nat}(hd:ba n d=true){b off sz k m cap:Nat}{c:Array Value}{t:TypeId}{fz:Nat×Nat}{cs ds:List AV}{v:Value}{news:List Value}{R:Nat→Nat}
 (hb:w.heap[b]? =some (.cells c t fz))(hfz:(∀j,j<c.size→¬(fz.1≤j∧j<fz.2))∧fz.1≤fz.2)(hof:off=0)(hz0:fz=(0,0)∨(0<k∧0<sz∧∃x,c[0]? =some (.int .u8 x)))(hsp:∀(i:Nat)(y:Value),off+k*sz≤i→c[i]? =some y→y.oneCell'=true)(ho:∀i,d=some i→G.O b=.slot i 0)(hon:G.O b≠.none∧G.O b≠.frame∧G.O b≠.sh∧(∀i,G.O b≠.loc i)∧(∀i j,G.O b≠.cell i j)∧(∀i j,G.O b=.slot i j→d=some i∧j=0))
 (hR:G.R b=off+k*sz)(hsz:c.size=off+cap*sz)(hcap:k+m≤cap)(hlc:cs.length=k*sz)(hat:At w G.R b off cs)(hs:Src P w R sz m ds v news)(hRR:R=G.R):
 ∃G',Inv G' n D (σ.put d (.sl true sz (k+m) (cs++ds))) (a.put d (.slice (some ⟨b,off,none⟩) (k+m) cap)) (w.setRow b (laid c (off+k*sz) news))∧aG G w G' (w.setRow b (laid c (off+k*sz) news)):=by
 subst hRR
 have hfit:off+k*sz+news.length≤c.size:=by
  rw[hs.len,hsz,Nat.add_assoc,←Nat.add_mul]
  exact Nat.add_le_add_left (Nat.mul_le_mul_right _ hcap) _
 let G':=G.oA b (G.O b) (off+(k+m)*sz)
 have hmul:(k+m)*sz=k*sz+m*sz:=Nat.add_mul ..
 have hpres:aG G w G' (w.setRow b (laid c (off+k*sz) news)):=aG.write hb ⟨hon.2.1,hon.1⟩
  (fun j hj=>by rw[hR]at hj;rw[jK _ _ _ hfit,if_neg (by omega)]) (by simp only[G',Gh.RE,if_true,hR,hmul];omega) (fun b' hb'=>by simp[G',hb'])
 have hgood:b9 G' (w.setRow b (laid c (off+k*sz) news)):=by
  have hlt:b<w.heap.size:=h.aO.lt hon.1
  refine⟨fun b' hb'=>?_,fun b' hb'=>?_⟩
  ·have hb'':w.heap.size≤b':=by simpa[World.setRow]using hb'
   have:b'≠b:=by omega
   simp[G',this,h.aO.iA b' hb'']
  ·have hb'':w.heap.size≤b':=by simpa[World.setRow]using hb'
   have:b'≠b:=by omega
   simp[G',this,h.aO.iU b' hb'']
 have same:∀b',b'≠b→G'.O b'=G.O b'∧G'.R b'=G.R b'∧(w.setRow b (laid c (off+k*sz) news)).heap[b']? =w.heap[b']? :=fun b' hb'=>⟨by simp[G',hb'],by simp[G',hb'],setRow_other w b b' _ hb'⟩
 have c6:=h.store.mono h.aO hpres (fun b' hb'=>by
  obtain⟨q1,q2,q3⟩:=same b' (fun e=>by subst e;exact hon.2.2.1 hb')
  exact⟨q1.trans hb',q2,q3⟩) (fun b' c' j _ hc'=>by
  obtain⟨q1,q2,q3⟩:=same c' (fun e=>by subst e;exact hon.2.2.2.2.1 _ _ hc')
  exact⟨q1.trans hc',q2,q3⟩)
 have:=h.put (s':=σ.s) (lp':=σ.lp) d (fun i hi=>by subst hi;simpa[ba]using hd) (.sl true sz (k+m) (cs++ds)) (.slice (some ⟨b,off,none⟩) (k+m) cap) hgood hpres c6 (fun _ hx=>hx) (fun i t _ ht=>ht.elim) (fun i t _⟨cs',hcs'⟩=>by cases hcs')
  (fun i b' hdi hb'=>same b' (fun e=>by
    subst e
    rcases hb' with⟨j,hb'⟩|hb'
    ·exact hdi (hon.2.2.2.2.2 i j hb').1
    ·exact hon.2.2.2.1 _ hb'))
  (fun i b' c' j hdi hb' hc'=>by
    obtain⟨q1,q2,q3⟩:=same c' (fun e=>by subst e;exact hon.2.2.2.2.1 _ _ hc')
    exact⟨q1.trans hc',q2,q3⟩)
  (fun i hi=>by
    obtain⟨u,u1,u2,u3⟩:=hat
    subst hi
    refine⟨?_,?_⟩
    ·have hll:(cs++ds).length=(k+m)*sz:=by rw[List.length_append,hlc,hs.oe,hmul]
     refine .sl true sz (k+m) (cs++ds) b off cap (fun j=>if j<k*sz then u j else news.getD (j -k*sz) undef) (fun x hx=>?_) hll (by rw[hll];simp[G']) hcap (fun j x hj=>?_) (fun j x hj=>?_)
     ·rcases List.mem_append.1 hx with hx|hx
      ·exact u3 x hx
      ·exact hs.fl x hx
     ·rw[sO hb,if_pos rfl,jK _ _ _ hfit]
      have hjl:j<(k+m)*sz:=by rw[←hll];exact(List.getElem?_eq_some_iff.1 hj).1
      by_cases hjk:j<k*sz
      ·rw[if_neg (by omega),if_pos hjk]
       rw[List.getElem?_append_left (by rw[hlc];exact hjk)]at hj
       rw[←cell_of_row w hb]
       exact u1 j x hj
      ·have h1:=hs.len
       rw[if_pos (by omega),if_neg hjk]
       have:off+j -(off+k*sz)=j -k*sz:=by omega
       rw[this]
       have hlt:j -k*sz<news.length:=by omega
       simp[List.getD_eq_getElem?_getD,hlt]
     ·by_cases hjk:j<k*sz
      ·rw[if_pos hjk]
       rw[List.getElem?_append_left (by rw[hlc];exact hjk)]at hj
       exact hpres.vr h.aO (u2 j x hj)
      ·rw[if_neg hjk]
       rw[List.getElem?_append_right (by rw[hlc];omega),hlc]at hj
       have h1:=hs.len
       have h2:=hs.oe
       have hlt:j -k*sz<news.length:=by have:=(List.getElem?_eq_some_iff.1 hj).1;omega
       have hn:news[j -k*sz]? =some (news.getD (j -k*sz) undef):=by simp[List.getD_eq_getElem?_getD,hlt]
       exact hpres.vr h.aO (hs.jZ _ x _ hj hn)
    ·intro base m' cap' hv hc
     injection hv with e1 e2 e3
     subst e3
     exact⟨b,off,_,t,fz,e1.symm,by simp only[G',Gh.N8,if_true];exact ho i rfl,by simp[G'],setRow_heap w b c _ t fz hb,by rw[oU _ _ _ hfit,hsz],by rw[oU _ _ _ hfit];exact⟨hfz.1,hfz.2,hof,hz0.imp id fun⟨z1,z2,x,z3⟩=>⟨by omega,x,by
      have zp:0<k*sz:=Nat.mul_pos z1 z2
      rw[jK _ _ _ hfit,if_neg (by omega)];exact z3⟩,fun i y hi hy=>by
      rw[jK _ _ _ hfit]at hy
      split at hy
      ·exact hs.one _ (List.mem_of_getElem? hy)
      ·exact hsp i y (by rw[hmul]at hi;omega) hy⟩⟩)
 exact⟨G',by cases d<;>exact this,hpres⟩
def zq:Option Nat→cY
 |some i=>.slot i 0
 |none=>.res 0
theorem CA{e:TypeId}{sz:Nat}(h:qi P e sz=true):∃i z,P.info? e=some i∧i.zero=some z∧z.cells.size=sz∧∀y∈z.cells.toList,y.oneCell'=true:=by
 unfold qi at h
 split at h<;>try(cases h;done)
 split at h<;>try(cases h;done)
 rename_i i hi _ z hz
 rw[Bool.and_eq_true]at h
 exact⟨i,z,hi,hz,by simpa using h.1,List.all_eq_true.1 h.2⟩
theorem uG{zs:Array Value}(h:∀y∈zs.toList,y.oneCell'=true)(q:Nat):∀y∈(Builtin.zeroCells zs q).toList,y.oneCell'=true:=by
 intro y hy
 rw[show Builtin.zeroCells zs q=((List.replicate q zs.toList).flatten).toArray from sX zs q]at hy
 simp only[List.mem_flatten,List.mem_replicate]at hy
 obtain⟨l,⟨_,rfl⟩,hm⟩:=hy
 exact h y hm
theorem Ip(h:Inv G n D σ a w){op:Op}{ty:TypeId}{sz by':Nat}{x y:IX}{d:Option Nat}{K:St→Prop}(hd:ba n d=true)(hc:au P op ty (.append sz by' x y)=true)(hw:gH P (.append sz by' x y) d σ K):mj P G n D w a op ty d K:=by
 cases op<;>first|(simp[au]at hc;done)|skip
 rename_i c
 simp only[au]at hc
 split at hc<;>try(cases hc;done)
 rename_i u v t t' hb
 have hce:=mC hb
 subst hce
 simp only[Bool.and_eq_true]at hc
 obtain⟨⟨hu,hv⟩,hc⟩:=hc
 split at hc<;>try(cases hc;done)
 rename_i e ht
 have ht:=cC ht
 simp only[Bool.and_eq_true]at hc
 obtain⟨⟨⟨⟨⟨hs,hby⟩,hpos⟩,hbpos⟩,hzl⟩,ht'⟩:=hc
 obtain⟨i,z,hi,hz,hzs,hz1⟩:=CA hzl
 obtain⟨i',hi',hisz⟩:=iE hs
 rw[hi]at hi';injection hi' with hi';subst hi'
 have hpos:=of_decide_eq_true hpos
 have hbpos:=of_decide_eq_true hbpos
 have hby:i.bytes=by':=by
  unfold iY at hby
  rw[hi]at hby
  simpa using hby
 have ht2:(∃e',P.underlying t'=some (.slice e'))∨P.underlying t'=some .string:=by
  rcases Bool.or_eq_true .. ▸ht' with h|h
  ·cases he:ct P t' with
   |none=>rw[he]at h;cases h
   |some e'=>exact .inl ⟨e',cC he⟩
  ·exact .inr (xc h)
 have hw':jD sz by' σ x d K (σ.x x) (σ.x y):=hw
 have key:∃k m cs ds news,σ.x x=.sl true sz k cs∧Src P w G.R sz m ds (a.eval v) news∧(k+m)*by'≤room∧K ((σ.drain x).put d (.sl true sz (k+m) (cs++ds))):=by
  have hbx:=XR.aJ h hu
  have hby:=XR.aJ h hv
  generalize hx:σ.x x=xv at hw' hbx
  generalize hy:σ.x y=yv at hw' hby
  unfold jD at hw'
  split at hw'<;>try(exact hw'.elim)
  ·rename_i s k cs o s' m ds
   obtain⟨rfl,h2,h3,h4⟩:=hw'
   obtain⟨news,hsrc⟩:=Src.Q8 (P:=P) hby h2
   exact⟨k,m,cs,views ds,news,rfl,hsrc,h3,h4⟩
  ·rename_i s k cs ds
   obtain⟨rfl,h2,h3,h4⟩:=hw'
   subst h2
   have e1:=VR.eT hby
   exact⟨k,ds.length,cs,_,_,rfl,by rw[e1];exact Src.Fq,h3,h4⟩
 obtain⟨k,m,cs,ds,news,hx,hsrc,hroom,hk⟩:=key
 have hiv:c9 (σ.x x)=true:=by rw[hx];rfl
 obtain⟨G1,h1,hp1,hv1,hown1,hR1,hsh,hloc,hcell⟩:=h.drain hu hiv (zq d) (by cases d<;>simp[zq]) (by cases d<;>simp[zq])
 rw[hx]at hv1 hown1
 have hsrc1:Src P w G1.R sz m ds (a.eval v) news:=by rw[hR1];exact hsrc
 have grow:∀(base:Option Addr)(cap:Nat)(olds:List Value),a.eval u=.slice base k cap→cap<k+m→olds.length=k*sz→cs.length=k*sz→Fl cs→
  (Builtin.firstCells sz k (.slice base k cap)).run P w.drew=.ok olds.toArray w.drew→(∀(j:Nat)(c:AV)(u:Value),cs[j]? =some c→olds[j]? =some u→VR w G1.R c u)→
  mj P G n D w a (.call {callee:=.builtin .append,args:= #[u,v],argTypes:= #[t,t']}) ty d K:=by
  intro base cap olds e1 hgrow hol hcl hcf hold hvals
  have hrun:=qa (ty:=ty) ht ht2 hi hz hisz hsrc1 hold hgrow (by rw[hby];exact hroom) (by rw[hby];exact hbpos)
  have hge:k+m≤grownCap w (k+m) cap e:=grownCap_ge w (k+m) cap e
  obtain⟨G2,h3,h4⟩:=(h1.drew).Kf (t:=e) (c:=olds.toArray++news.toArray++Builtin.zeroCells z.cells (grownCap w (k+m) cap e -(k+m))) (m:=k+m) (cs:=cs++ds) (cap:=grownCap w (k+m) cap e) (sz:=sz) (ob:=match d with|some i=>.slot i 0|none=>.none) hd
   (fun i hi=>by subst hi;rfl) (fun hn=>by subst hn;rfl) (by rw[List.length_append,hcl,hsrc.oe,Nat.add_mul]) hge (by
     simp only[Array.size_append,List.size_toArray,size_zeroCells,hol,hsrc.len,hzs,←Nat.add_mul]
     congr 1;omega) (fun c hc=>by
     rcases List.mem_append.1 hc with hc|hc
     ·exact hcf c hc
     ·exact hsrc.fl c hc)
   (fun j x hj=>by
     have hl1:=hsrc.len
     have hl2:=hsrc.oe
     by_cases hjk:j<k*sz
     ·rw[List.getElem?_append_left (by rw[hcl];exact hjk)]at hj
      have hlt:j<olds.length:=by rw[hol];exact hjk
      refine⟨olds[j],?_,?_⟩
      ·rw[Array.append_assoc,Array.getElem?_append_left (by simpa using hlt)]
       simp[hlt]
      ·exact(aG.drew G1 w).vr h1.aO (hvals j x _ hj (List.getElem?_eq_getElem hlt))
     ·rw[List.getElem?_append_right (by rw[hcl];omega),hcl]at hj
      have hlt:j -k*sz<news.length:=by have:=(List.getElem?_eq_some_iff.1 hj).1;omega
      refine⟨news[j -k*sz],?_,?_⟩
      ·rw[Array.append_assoc,Array.getElem?_append_right (by simp[hol];omega),Array.getElem?_append_left (by simp[hol];omega)]
       simp only[List.size_toArray,hol,List.getElem?_toArray]
       exact List.getElem?_eq_getElem hlt
      ·exact(aG.drew G1 w).vr h1.aO (hsrc1.jZ _ x _ hj (List.getElem?_eq_getElem hlt))) (0,0) ⟨fun k _ hk=>by simp at hk,Nat.le_refl _⟩ (own:=true) (fun _=>.inl rfl) (fun i y hi hy=>by
     rw[Array.append_assoc,←Array.append_assoc,Array.getElem?_append_right (by simp only[Array.size_append,List.size_toArray,hol,hsrc.len,←Nat.add_mul];exact hi)]at hy
     exact uG hz1 _ _ (List.mem_of_getElem? (by rw[Array.getElem?_toList];exact hy)))
  intro pos after gd next Q hn
  refine aN ?_ (hn G2 _ _ _ h3 (hp1.trans ((aG.drew G1 w).trans h4)) hk)
  simp[execOp,resolve,invoke,builtin,e1,hrun]
 rcases VR.fR hv1 with⟨e0,rfl,rfl⟩|⟨b,off,cap,e1,hcl,hRb,hcap,hat⟩
 ·
  have e1:=e0.own
  by_cases hm:m=0
  ·subst hm
   have hds:ds=[]:=List.eq_nil_of_length_eq_zero (by simpa using hsrc.oe)
   subst hds
   have hrun:=mf (ty:=ty) ht ht2 hi hisz hsrc1
   have hput:Inv G1 n D ((σ.drain x).put d (.sl true sz 0 [])) (a.put d (.slice none 0 0)) w:=by
    have:=h1.put (s':=(σ.drain x).s) (lp':=(σ.drain x).lp) d (fun i hi=>by subst hi;simpa[ba]using hd) (.sl true sz 0 []) (.slice none 0 0) h1.aO (aG.refl G1 w) h1.store (fun _ hx=>hx) (fun i t _ ht=>ht.elim) (fun i t _⟨cs,hcs⟩=>by cases hcs)
     (fun _ _ _ _=>⟨rfl,rfl,rfl⟩) (fun _ _ _ _ _ _ hcc=>⟨hcc,rfl,rfl⟩) (fun i hdi=>⟨.slnil _ _,fun base m' cap' hv hc=>by injection hv with _ e2 e3;omega⟩)
    cases d<;>exact this
   intro pos after gd next Q hn
   refine aN (w':=w) ?_ (hn G1 _ _ _ hput hp1 hk)
   simp[execOp,resolve,invoke,builtin,e1,hrun]
  ·exact grow none 0 [] e1 (by omega) (by simp) (by simp) Fl.nil (by simp[Builtin.firstCells]) (fun j c u hc=>by simp at hc)
 ·by_cases hfit:k+m≤cap
  ·by_cases hm:m=0
   ·subst hm
    have hds:ds=[]:=List.eq_nil_of_length_eq_zero (by simpa using hsrc.oe)
    have hnews:news=[]:=List.eq_nil_of_length_eq_zero (by simpa using hsrc.len)
    subst hds;subst hnews
    have hrun:=gF (ty:=ty) (w:=w) ht ht2 hi hisz hsrc1 (b:=b) (off:=off) (k:=k) (cap:=cap) hfit (w':=w) rfl
    simp only[List.append_nil,Nat.add_zero]at hk hrun
    have hput:Inv G1 n D ((σ.drain x).put d (.sl true sz k cs)) (a.put d (a.eval u)) w:=by
     have:=h1.put (s':=(σ.drain x).s) (lp':=(σ.drain x).lp) d (fun i hi=>by subst hi;simpa[ba]using hd) (.sl true sz k cs) (a.eval u) h1.aO (aG.refl G1 w) h1.store (fun _ hx=>hx) (fun i t _ ht=>ht.elim) (fun i t _⟨cs,hcs⟩=>by cases hcs)
      (fun _ _ _ _=>⟨rfl,rfl,rfl⟩) (fun _ _ _ _ _ _ hcc=>⟨hcc,rfl,rfl⟩) (fun i hdi=>by subst hdi;exact⟨hv1,hown1⟩)
     cases d<;>exact this
    intro pos after gd next Q hn
    refine aN (w':=w) ?_ (hn G1 _ _ _ hput hp1 hk)
    simp[execOp,resolve,invoke,builtin,e1,hrun]
   ·obtain⟨b',off',c,et,fz,q1,q2,q3,q4,q5,q6⟩:=hown1 _ _ _ e1 (by omega)
    injection q1 with q1;injection q1 with q1 q1'
    subst q1;subst q1'
    have hon:G1.O b≠.none∧G1.O b≠.frame∧G1.O b≠.sh∧(∀i,G1.O b≠.loc i)∧(∀i j,G1.O b≠.cell i j)∧(∀i j,G1.O b=.slot i j→d=some i∧j=0):=by
     rw[q2]
     cases d with
     |none=>simp[zq]
     |some i=>simp+contextual [zq]
    obtain⟨G2,h3,h4⟩:=h1.grown (k:=k) (m:=m) hd q4 ⟨q6.1,q6.2.1⟩ q6.2.2.1 (q6.2.2.2.1.imp id fun⟨z1,z2⟩=>⟨z1,hpos,z2⟩) q6.2.2.2.2 (fun i hi=>by subst hi;exact q2) hon q3 q5 hfit hcl hat hsrc1 rfl
    have hfit2:off+k*sz+news.length≤c.size:=by
     rw[hsrc.len,q5,Nat.add_assoc,←Nat.add_mul]
     exact Nat.add_le_add_left (Nat.mul_le_mul_right _ hfit) _
    have c6:=dj (P:=P) b (off+k*sz) et fz news 0 c w q4 q6.1 (by simpa using hfit2) hsrc.one
    have hrun:=gF (ty:=ty) (w:=w) ht ht2 hi hisz hsrc1 (b:=b) (off:=off) (k:=k) (cap:=cap) hfit (w':=w.setRow b (laid c (off+k*sz) news)) (by simpa[laid]using c6)
    intro pos after gd next Q hn
    refine aN ?_ (hn G2 _ _ _ h3 (hp1.trans h4) hk)
    simp[execOp,resolve,invoke,builtin,e1,hrun]
  ·have hfl:Fl cs:=by obtain⟨_,_,_,hf⟩:=hat;exact hf
   obtain⟨us,u1,u2,u3⟩:=hat.jZ
   exact grow _ cap us e1 (by omega) (by rw[u1,hcl]) hcl hfl (run_firstCells_some w.drew sz k ⟨b,off,none⟩ k cap us (by rw[u1,hcl]) u2) u3
end
end Go.AB
end
