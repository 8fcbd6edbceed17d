/- A part. -/
import Derived.Test.YtgecakgfnjkkbaaGreatRt10
import Derived.RangeFuncIn
import Derived.RangeFuncLeaves
import Derived.RangeFuncRecord
import Derived.RangeFuncCalls
import Derived.RangeFuncSeq
import Derived.TacticsIn
import Derived.Shelf.RegionOpen
import Derived.WalkKit
import Derived.TacticsInMore
import Derived.LoopNIn
import Derived.LoopIn
import Derived.BigRegionIn
import Derived.Lib.SliceRun
set_option linter.defProp false
set_option linter.unusedSimpArgs false
set_option linter.unusedVariables false
section
namespace Go.AB
open Go
def yJ(o:Oper):Bool:=match o.op with
 |.defer _=>false
 |_=>true
section
variable{P:Program}
def Yt{o:Oper}{a:Act}{w:World}{K:Act->World->Prop}{Q:Exit->Act->World->Prop}{lo m:Nat}(hd:yJ o=true)(h:o.wp P a w K Q):o.wpIn (Fence.wide.inRound lo) m P a w K Q:=by
 refine⟨fun _ _=>trivial,?_⟩
 rw[Oper.semAt_eq _ _ _ (fun c hc=>by unfold yJ at hd;rw[hc]at hd;cases hd)]
 unfold Oper.wp at h
 generalize(execOp a.eval o).run P w=r at h⊢
 have hdp:(Fence.wide.inRound lo).depth.isSome=true->1<=m:=fun e=>by simp[Fence.wide]at e
 cases r with
 |ok x w'=>
  cases x with
  |value v=>exact h
  |skip=>exact h
  |defer d=>exact h
  |enter f args=>exact⟨hdp,CallsIn.inRound lo (callsIn_wide.2 h)⟩
  |row row args=>exact⟨hdp,fun c cs _=>let⟨v,w2,q,st⟩:=h c cs;⟨v,w2,q,stepsIn_wide.2 st⟩⟩
  |_=>exact h.elim
 |halt x w'=>
  cases x with
  |panic v=>exact h
  |_=>exact h.elim
def I5{ops:Array Oper}{Q:Exit->Act->World->Prop}{lo m:Nat}(hQ:¬LetsOut Q):∀(l:List Oper),l.all yJ=true->∀(a:Act)(w:World),wpList P ops Q l a w->wpListIn (Fence.wide.inRound lo) m P ops Q l a w
 |[],_,_,_,h=>h
 |o::r,hl,a,w,h=>by
  simp only[List.all_cons,Bool.and_eq_true]at hl
  unfold wpList at h
  unfold wpListIn
  split at h
  ·rename_i hw
   rw[if_pos hw]
   rcases h with h|⟨_,h⟩
   ·exact Yt hl.1 (Oper.wp_mono (fun a w h=>I5 hQ r hl.2 a w h) h)
   ·exact absurd h hQ
  ·rename_i hw
   rw[if_neg hw]
   exact⟨fun _ _=>trivial,I5 hQ r hl.2 _ _ h⟩
def Of{G G':Gh}{w w':World}(h:aI G w G' w'):aI G w G'.outer w':=
 ⟨h.os,h.tape,h.output,h.drawn,h.size,h.mono,h.nD,h.frame,
  fun b hb ho=>by obtain⟨e1,e2⟩:=h.jF b hb ho;exact⟨lj (by rw[e1];simp) (by rw[e1];simp) (by rw[e1];simp),e2⟩,
  fun b hb ho=>by obtain⟨e1,e2⟩:=h.pZ b hb ho;exact⟨pB.2 e1,e2⟩⟩
def VJ{n bi id lo m:Nat}{ops:Array Oper}{bQ:List ar}{G:Gh}{W:World}{e:List (Nat×AV)}{s:ae}{a₁:Act}{S:ae->Prop}{R:World->Prop}(hc:cI P n ops ops.toList bQ=true)(hnd:ops.toList.all yJ=true)
 (hI:Inv G n [] ⟨e,[],s⟩ a₁ W)(hw:swp P bQ ⟨e,[],s⟩ fun E'=>S E'.s)(hR:∀G' W' s',cq G' W'->xI G'->ba G' W' s'->aI G W G' W'->S s'->R W'):
 (Code.block bi (.region id ops false)).wpIn (Fence.wide.inRound lo) m P (fun x _ W'=>x=.normal/\R W') a₁ W:=by
 refine wpIn_block (wpIn_region_list (I5 (fun⟨_,_,h⟩=>by cases h.1) _ hnd _ _ ?_))
 refine rA (D:=[]) G W ?_ ops.toList bQ G _ a₁ W hc hI (aI.refl G W) hw
 intro G' E' a' w' h1 h2 h3
 obtain⟨k1,k2⟩:=h1.mA
 exact⟨rfl,hR G'.outer w' E'.s k1 (p9 G') k2 (Of h2) h3⟩
def wn{G G0:Gh}{W w0:World}{s:ae}{l:Nat}{o:Obj}(hO:G.O l=.none\/G.O l=.frame)(hR:G.R l=0)(hg:cq G W)(hs:ba G W s)(hp:aI G0 w0 G W)(hl:w0.heap.size<=l):
 cq G (W.putObj l o)/\ba G (W.putObj l o) s/\aI G0 w0 G (W.putObj l o)/\∀a v,VR W G.R a v->VR (W.putObj l o) G.R a v:=by
 have hb:∀b,b≠l->(W.putObj l o).heap[b]? =W.heap[b]? :=fun b h=>World.putObj_heap_other h
 have hc:∀b k,k<G.R b->(W.putObj l o).cell? ⟨b,k,none⟩=W.cell? ⟨b,k,none⟩:=fun b k hk=>World.cell?_of_block (hb b (fun e=>by subst e;omega))
 have hv:∀a v,VR W G.R a v->VR (W.putObj l o) G.R a v:=fun a v h=>h.mono (fun _=>Nat.le_refl _) hc
 refine⟨⟨fun b h=>hg.jI b J_,fun b h=>hg.jY b J_⟩,hs.yI hv (fun b h=>⟨h,rfl,hb b (fun e=>by subst e;rcases hO with hO|hO<;>rw[hO]at h<;>cases h)⟩) (fun b c j _ h=>⟨h,rfl,hb c (fun e=>by subst e;rcases hO with hO|hO<;>rw[hO]at h<;>cases h)⟩),?_,hv⟩
 exact⟨hp.os,hp.tape,hp.output,hp.drawn,by simpa using hp.size,hp.mono,fun b k h1 h2=>(World.cell?_of_block (hb b AT)).trans (hp.nD b k h1 h2),fun b h1 h2=>(hb b AT).trans (hp.frame b h1 h2),hp.jF,hp.pZ⟩
def wa{G G0:Gh}{W w0:World}{s:ae}{o:Obj}(hg:cq G W)(hs:ba G W s)(hp:aI G0 w0 G W):cq G (W.alloc o)/\ba G (W.alloc o) s/\aI G0 w0 G (W.alloc o):=by
 have hb:∀b,b<W.heap.size->(W.alloc o).heap[b]? =W.heap[b]? :=fun b h=>heap_alloc_old W o h
 have hc:∀b k,k<G.R b->(W.alloc o).cell? ⟨b,k,none⟩=W.cell? ⟨b,k,none⟩:=fun b k hk=>World.cell?_of_block (hb b (by
  rcases Nat.lt_or_ge b W.heap.size with h|h
  ·exact h
  ·rw[hg.jY b h]at hk;omega))
 have hz:(W.alloc o).heap.size=W.heap.size+1:=Array.size_push ..
 refine⟨⟨fun b h=>hg.jI b AT,fun b h=>hg.jY b AT⟩,hs.yI (fun a v h=>h.mono (fun _=>Nat.le_refl _) hc) (fun b h=>⟨h,rfl,hb b (hg.lt (by rw[h];simp))⟩) (fun b c j _ h=>⟨h,rfl,hb c (hg.lt (by rw[h];simp))⟩),?_⟩
 have hl:=hp.size
 exact⟨hp.os,hp.tape,hp.output,hp.drawn,AT,hp.mono,fun b k h1 h2=>(World.cell?_of_block (hb b AT)).trans (hp.nD b k h1 h2),fun b h1 h2=>(hb b AT).trans (hp.frame b h1 h2),hp.jF,hp.pZ⟩
def Inv.defers{G:Gh}{n:Nat}{D D':List Deferred}{E:St}{a:Act}{w:World}(h:Inv G n D E a w):Inv G n D' E {a with defers:=D'} w:=⟨h.bc,h.store,h.size,h.cH,h.E6,h.MG,rfl⟩
def yk(G:Gh)(bx:List Nat):Gh:=⟨G.R,fun b=>match G.O b with
 |.sh=>if b∈bx then .frame else .sh
 |.cell b' j=>if b'∈bx then .frame else .cell b' j
 |o=>o⟩
theorem yl{G:Gh}{bx:List Nat}{b:Nat}(h:G.O b=.sh):(yk G bx).O b=if b∈bx then .frame else .sh:=ω
theorem zK{G:Gh}{bx:List Nat}{b b' j:Nat}(h:G.O b=.cell b' j):(yk G bx).O b=if b'∈bx then .frame else .cell b' j:=ω
def wV{G:Gh}{bx:List Nat}{b:Nat}(h:G.O b=.frame):(yk G bx).O b=.frame:=ω
def uO{G:Gh}{bx:List Nat}{b:Nat}(h:G.O b=.none):(yk G bx).O b=.none:=ω
def Nz{G:Gh}{w:World}{s:ae}{bx:List Nat}(hg:cq G w)(ho:xI G)(hs:ba G w s):
 cq (yk G bx) w/\xI (yk G bx)/\ba (yk G bx) w (fun b=>if b∈bx then none else s b)/\(∀G' W',aI (yk G bx) w G' W'->aI G w G' W')/\∀b,G.O b=.sh->b∈bx->(yk G bx).O b=.frame:=by
 refine⟨⟨fun b hb=>uO (hg.jI b hb),hg.jY⟩,fun b=>?_,fun b o hb=>?_,fun G' W' h=>?_,fun b h1 h2=>by rw[yl h1,if_pos h2]⟩
 ·rcases ho b with h|h|h|⟨b',j,h,h2⟩
  ·exact .inl (uO h)
  ·exact .inr (.inl (wV h))
  ·by_cases hm:b∈bx
   ·exact .inr (.inl (by rw[yl h,if_pos hm]))
   ·exact .inr (.inr (.inl (by rw[yl h,if_neg hm])))
  ·by_cases hm:b'∈bx
   ·exact .inr (.inl (by rw[zK h,if_pos hm]))
   ·exact .inr (.inr (.inr ⟨b',j,by rw[zK h,if_neg hm],by rw[yl h2,if_neg hm]⟩))
 ·by_cases hm:b∈bx
  ·simp[hm]at hb
  ·simp only[hm,if_false]at hb
   obtain⟨h1,h2,h3⟩:=hs b o hb
   refine⟨by rw[yl h1,if_neg hm],h2,?_⟩
   cases o with
   |cells cs=>
    obtain⟨c,t,h4,h5,h6⟩:=h3
    exact⟨c,t,h4,h5.mono (fun _ _ h=>h) (fun c' j hc=>⟨by rw[zK hc,if_neg hm],rfl,rfl⟩),h6⟩
   |map es=>exact h3
 ·exact⟨h.os,h.tape,h.output,h.drawn,h.size,h.mono,h.nD,fun b hb ho=>h.frame b hb (ho.imp wV uO),fun b hb ho=>h.jF b hb (wV ho),fun b hb ho=>h.pZ b hb (uO ho)⟩
def aa9{n:Nat}{D:List Deferred}{G:Gh}{E:St}{a:Act}{w:World}(hI:Inv G n D E a w){gop:Operand}{tp:Nat}{asg body:Code}{gf:Nat}{lb:Array Value}
 (hg:a.eval gop=.func (.func gf) #[] lb)(eg:∀args w,(callFunc gf args).run P w=.ok (.enter gf args) w){K:Nat}{lV:Nat->Value}{avs:Nat->AV}{S:Nat->ae->Prop}(bx:List Nat)(hbx:∀b∈bx,G.outer.O b=.sh)
 (hav:∀k,k<K->VR w G.R (avs k) (lV k))(hS0:S 0 (fun b=>if b∈bx then none else E.s b))(a1:Nat->Act)
 (hit:∀(lo:Nat)(J:Nat->World->Prop)(W:World),(∀k W,J k W->∀b∈bx,W.heap[b]? =w.heap[b]?)->(∀k W,J k W->J k W.drew)->
   (∀k W,J k W->k<K->YieldAt Fence.wide 1 P lo #[lV k] W fun e W'=>e=.returned (.bool true)/\J (k+1) W')->J 0 W->
   CallsIn Fence.wide 2 P gf (#[.func (.yield lo) #[] #[]]++lb) W fun e W'=>(∃v,e=.returned v)/\J K W')
 (aka:∀(lo k:Nat)(W:World)(K':Act->World->Prop),K' (a1 k) W->asg.wpIn (Fence.wide.inRound lo) 1 P (Exit.then K' (fun _ _ _=>False)) {tmps:=((#[tp]:Array Tmp).zip #[lV k]).foldl (fun t(p,v)=>t.setIfInBounds p v) a.tmps,defers:=[]} W)
 (hrd:∀k,k<K->∀(lo:Nat)(G':Gh)(W:World)(s':ae),cq G' W->xI G'->ba G' W s'->S k s'->VR W G'.R (avs k) (lV k)->∀R:World->Prop,
   (∀G2 W2 s2,cq G2 W2->xI G2->ba G2 W2 s2->aI G' W G2 W2->S (k+1) s2->R W2)->body.wpIn (Fence.wide.inRound lo) 1 P (fun x _ W'=>x=.normal/\R W') (a1 k) W)
 {Q:Exit->Act->World->Prop}
 (aat:∀G2 W2 s2,S K s2->Inv G2 n (⟨.collected w.heap.size,#[]⟩::D) {E with s:=s2} {a with defers:=⟨.collected w.heap.size,#[]⟩::a.defers} W2->aI (G.pR w.heap.size .frame 0) (w.alloc (.deferred (some []))) G2 W2->W2.heap[w.heap.size]? =some (.deferred (some []))->
   Q .normal {a with defers:=⟨.collected w.heap.size,#[]⟩::a.defers} W2):
 (Code.rangeFunc gop #[tp] asg body).wpIn Fence.wide 3 P Q a w:=by
 obtain rfl:a.defers=D:=hI.qL
 refine wpIn_rangeFunc ?_
 intro fn hfn
 obtain⟨hd,hd2⟩:=hI.alloc (.deferred (some [])) .frame 0 none rfl .undef undef E.lp (k9 hI.store hI.bc _ _ _) (fun _ h=>h) (fun i t h=>F_) (fun i t h=>F_) (fun i h=>F_)
 obtain⟨rec,K6⟩:∃rec:LoopState->Option Code->Loop,rec=fun st pe=>{state:=st,pending:=pe,fn,tmps:=a.tmps,params:= #[tp],assign:=asg,body,defers:=w.heap.size}:=⟨_,rfl⟩
 generalize hGd:G.pR w.heap.size .frame 0=Gd at*
 generalize hwd:w.alloc (.deferred (some []))=wd at*
 have hsz:wd.heap.size=w.heap.size+1:=by rw[<-hwd];exact Array.size_push ..
 have hdd:wd.heap[w.heap.size]? =some (.deferred (some [])):=by rw[<-hwd];exact World.alloc_heap_new w _
 have aj7:Gd.O w.heap.size=.frame:=by rw[<-hGd];simp
 have amx:Gd.R w.heap.size=0:=by rw[<-hGd];simp
 obtain⟨o1,o2⟩:=hd.mA
 obtain⟨k1,k2,k3,k4,k5⟩:=Nz (bx:=bx) o1 (p9 Gd) o2
 generalize hG1:yk Gd.outer bx=G1 at*
 have fX:∀b∈bx,b<w.heap.size:=fun b hb=>hI.mA.1.lt (by rw[hbx b hb];simp)
 have hfr:∀b∈bx,G1.O b=.frame:=fun b hb=>by
  refine k5 b ?_ hb
  have hlt:=fX b hb
  refine nh.2 ?_
  rw[<-hGd,Gh.Wg,if_neg AT]
  exact nh.1 (hbx b hb)
 have hR1:G1.R=Gd.R:=by rw[<-hG1];rfl
 obtain⟨J,hJ⟩:∃J:Nat->World->Prop,J=fun k W=>∃G' s',cq G' W/\xI G'/\ba G' W s'/\aI G1 wd G' W/\S k s'/\W.heap[w.heap.size+1]? =some (.loop (rec .ready none))/\G'.O (w.heap.size+1)=.none/\G'.R (w.heap.size+1)=0:=⟨_,rfl⟩
 have hJ0:J 0 (wd.alloc (.loop (rec .ready none))):=by
  rw[hJ]
  obtain⟨z1,z2,z3⟩:=wa (o:=.loop (rec .ready none)) k1 k3 (aI.refl G1 wd)
  refine⟨G1,_,z1,k2,z2,z3,?_,?_,k1.jI _ AT,k1.jY _ AT⟩
  ·have:({E.put none .undef with s:=E.s,lp:=E.lp}:St).s=E.s:=rfl
   exact hS0
  ·have:=World.alloc_heap_new wd (.loop (rec .ready none))
   rwa[hsz]at this
 have akc:∀k W,J k W->∀b∈bx,W.heap[b]? =w.heap[b]? :=fun k W h b hb=>by
  rw[hJ]at h
  obtain⟨G',s',_,_,_,hp,_⟩:=h
  have hlt:=fX b hb
  rw[hp.frame b AT (.inl (hfr b hb)),<-hwd]
  exact heap_alloc_old w _ hlt
 refine⟨w.heap.size+1,[{target:=.collected w.heap.size,args:= #[]}],wd.alloc (.loop (rec .ready none)),{target:=.fn (.func gf) lb,args:= #[.func (.yield (w.heap.size+1)) #[] #[]]},wd.alloc (.loop (rec .ready none)),gf,
  #[.func (.yield (w.heap.size+1)) #[] #[]]++lb,wd.alloc (.loop (rec .ready none)),?_,?_,?_,?_,fun _=>AT,?_⟩
 ·rw[<-hwd,K6];exact run_enterLoop_outer _ _ _ _ _
 ·simp only[resolve,hg]
  simp[go_sem]
 ·intro f' _;exact trivial
 ·simp[invoke,go_sem,eg]
 have hJd:∀k W,J k W->J k W.drew:=fun k W h=>by
  rw[hJ]at h⊢
  obtain⟨G',s',g1,g2,g3,g4,g5,g6,g7,g8⟩:=h
  exact⟨G',s',⟨g1.jI,g1.jY⟩,g2,g3.yI (fun a v h=>VR.mono (w:=W) (w':=W.drew) (fun _=>Nat.le_refl _) (fun _ _ _=>rfl) h) (fun b h=>⟨h,rfl,rfl⟩) (fun b c j _ h=>⟨h,rfl,rfl⟩),g4.trans (aI.drew G' W),g5,g6,g7,g8⟩
 refine(hit (w.heap.size+1) J _ akc hJd ?_ hJ0).mono ?_
 ·intro k W hJk hk
  rw[hJ]at hJk
  obtain⟨G',s',g1,g2,g3,g4,g5,g6,g7,g8⟩:=hJk
  have hlt:w.heap.size+1<W.heap.size:=(Array.getElem?_eq_some_iff.1 g6).1
  have hy:=run_yield (P:=P) (args:= #[lV k]) g6 (by rw[K6];rfl)
  rw[K6]at hy
  refine⟨fn,_,asg,body,hy,roundIn_of_wpIn hfn (aka _ k W _ ⟨_,run_beginRound g6 (by rw[K6]),?_⟩)⟩
  obtain⟨y1,y2,y3,y4⟩:=wn (o:=.loop {rec .ready none with state:=.busy}) (.inl g7) g8 g1 g3 g4 AT
  have hl2:(W.putObj (w.heap.size+1) (.loop {rec .ready none with state:=.busy})).heap[w.heap.size+1]? =some (.loop {rec .ready none with state:=.busy}):=World.putObj_heap_same hlt
  have hv:VR W G'.R (avs k) (lV k):=by
   refine g4.vr k1 ?_
   have:=hav k hk
   refine(hd2.vr hI.bc this).mono (fun b=>?_) (fun _ _ _=>rfl)
   rw[hR1];exact Nat.le_refl _
  refine wpIn_mono (hrd k hk _ G' _ s' y1 g2 y2 g5 (y4 _ _ hv) (fun W3=>∃v w',(Instr.endRound (w.heap.size+1) none).run P W3=.ok v w'/\v=.bool true/\J (k+1) w') fun G2 W2 s2 q1 q2 q3 q4 q5=>?_) ?_
  ·have hb:W2.heap[w.heap.size+1]? =some (.loop {rec .ready none with state:=.busy}):=(q4.frame _ g_ (.inr g7)).trans hl2
   obtain⟨e1,e2⟩:=q4.pZ _ g_ g7
   have Bw:w.heap.size+1<W2.heap.size:=(Array.getElem?_eq_some_iff.1 hb).1
   have hr:=run_endRound (P:=P) none hb
   refine⟨_,_,hr,rfl,?_⟩
   obtain⟨z1,z2,z3,_⟩:=wn (o:=.loop {{rec .ready none with state:=.busy}with state:=if(none:Option Code).isNone then .ready else .done,pending:=none}) (.inl e1) (e2.trans g8) q1 q3 (y3.trans q4) AT
   rw[hJ]
   refine⟨G2,s2,z1,q2,z2,z3,q5,?_,e1,e2.trans g8⟩
   rw[World.putObj_heap_same Bw,K6]
   rfl
  ·rintro x a3 W3 ⟨rfl,v,w',e1,rfl,e3⟩
   exact⟨_,_,e1,rfl,e3⟩
 ·rintro e W' ⟨⟨v,rfl⟩,hJK⟩
  rw[hJ]at hJK
  obtain⟨G',s',g1,g2,g3,g4,g5,g6,g7,g8⟩:=hJK
  have hr:=run_endLoop (P:=P) g6 (by rw[K6];simp)
  rw[K6]at hr
  refine⟨none,_,hr,?_⟩
  obtain⟨z1,z2,z3,_⟩:=wn (o:=.loop {rec .ready none with state:=.exhausted}) (.inl g7) g8 g1 g3 g4 AT
  rw[K6]at z1 z2 z3
  obtain⟨G2,p1,p2⟩:=hd.behind (d:=none) rfl (rs:=[]) (s':=s') (v:=.tuple #[]) rfl z1 z2 ⟨#[],rfl,rfl,fun j x y hx=>V_⟩ (k4 _ _ z3)
  refine aat G2 _ s' g5 ?_ ?_ ?_
  ·exact Inv.defers p1
  ·exact p2
  ·exact(p2.frame _ AT (.inl aj7)).trans hdd
def Ly{fn:Func}{tmps:Array Value}{R:Ending->World->Prop}{d:Nat}{w:World}{v:Value}(hd:w.heap[d]? =some (.deferred (some [])))(hr:(results fn tmps).run P (w.putObj d (.deferred none))=.ok v (w.putObj d (.deferred none)))
 (hR:R (.returned v) (w.putObj d (.deferred none))):LeavesInM Fence.wide 3 P fn tmps R [⟨.collected d,#[]⟩] .returning w:=by
 refine⟨BY,.inl ⟨d,_,rfl,run_takeDeferred hd,?_⟩⟩
 exact⟨v,hr,hR⟩
def Inv.OI{G:Gh}{n:Nat}{D:List Deferred}{E:St}{a:Act}{W:World}{l:Nat}{o:Obj}(h:Inv G n D E a W)(hO:G.O l=.frame)(hR:G.R l=0):Inv G n D E a (W.putObj l o):=by
 have hb:∀b,b≠l->(W.putObj l o).heap[b]? =W.heap[b]? :=fun b h=>World.putObj_heap_other h
 have hc:∀b k,k<G.R b->(W.putObj l o).cell? ⟨b,k,none⟩=W.cell? ⟨b,k,none⟩:=fun b k hk=>World.cell?_of_block (hb b (fun e=>by subst e;omega))
 have hv:∀a v,VR W G.R a v->VR (W.putObj l o) G.R a v:=fun a v h=>h.mono (fun _=>Nat.le_refl _) hc
 have hne:∀b o',G.O b=o'->o'≠.frame->b≠l:=fun b o' h1 h2 e=>by subst e;exact h2 (h1.symm.trans hO)
 refine⟨⟨fun b h'=>h.bc.jI b (by simpa using h'),fun b h'=>h.bc.jY b (by simpa using h')⟩,h.store.yI hv (fun b h'=>⟨h',rfl,hb b (hne b _ h' BY)⟩) (fun b c j _ h'=>⟨h',rfl,hb c (hne c _ h' BY)⟩),h.size,fun i v hi=>?_,h.E6,h.MG,h.qL⟩
 refine dZ.frame hv (fun b hb'=>?_) (fun b c j _ hc'=>⟨hc',rfl,hb c (hne c _ hc' BY)⟩) _ v (fun d _ cs hcs=>⟨cs,hcs,rfl⟩) (h.cH i v hi)
 rcases hb' with⟨j,hb'⟩|hb'
 ·exact⟨rfl,rfl,hb b (hne b _ hb' BY)⟩
 ·exact⟨rfl,rfl,hb b (hne b _ hb' BY)⟩
def piece{n:Nat}{D:List Deferred}{G G0:Gh}{E:St}{a:Act}{w w0:World}{c rest:Code}{ic:IC}{Q:Exit->Act->World->Prop}(hD:wE P n)(hc:lZ P n c ic=true)(hI:Inv G n D E a w)(hp:aI G0 w0 G w)(K:St->Prop)
 (hw:fY P ic (fun x E'=>x=.normal/\K E') E)(hk:∀G' E' a' w',Inv G' n D E' a' w'->aI G0 w0 G' w'->K E'->rest.wpIn Fence.wide 3 P Q a' w'):(Code.seq c rest).wpIn Fence.wide 3 P Q a w:=by
 refine wpIn_seq (wpIn_wide.2 (cU hD ic c G0 w0 _ _ G E a w hc ?_ hI hp hw))
 rintro x G' E' a' w' h1 h2 ⟨rfl,h3⟩
 exact hk G' E' a' w' h1 h2 h3
theorem last{n:Nat}{D:List Deferred}{G G0:Gh}{E:St}{a:Act}{w w0:World}{c:Code}{ic:IC}{Q:Exit->Act->World->Prop}(hD:wE P n)(hc:lZ P n c ic=true)(hI:Inv G n D E a w)(hp:aI G0 w0 G w)(K:Exit->St->Prop)
 (hw:fY P ic K E)(hk:∀x G' E' a' w',Inv G' n D E' a' w'->aI G0 w0 G' w'->K x E'->Q x a' w'):c.wpIn Fence.wide 3 P Q a w:=
 wpIn_wide.2 (cU hD ic c G0 w0 K _ G E a w hc hk hI hp hw)
def Mh{n:Nat}{G G0:Gh}{E:St}{a:Act}{w w0:World}{d:Nat}{fn:Func}{res:List jr}{Q:List AV->ae->Prop}(oc:ln P fn.results.toList res=true)(h:Inv G n [⟨.collected d,#[]⟩] E a w)(hp:aI G0 w0 G w)(hO:G.O d=.frame)(hR:G.R d=0)
 (hd:w.heap[d]? =some (.deferred (some [])))(hl:w0.heap.size<=d)(ee:rL (lq E res)=true)(hQ:Q (lq E res) E.s):
 LeavesInM Fence.wide 3 P fn a.tmps (fun e w'=>∃v rs s' G',e=.returned v/\Q rs s'/\cq G' w'/\ba G' w' s'/\nt G' w' rs v/\aI G0 w0 G' w') a.defers .returning w:=by
 have h2:=h.OI (o:=.deferred none) hO hR
 have hp2:=(wn (o:=.deferred none) (.inr hO) hR h.bc h.store hp hl).2.2.1
 obtain⟨v,hr,hh⟩:=Ck oc h2 hp2 ee hQ
 rw[h.qL]
 exact Ly hd hr hh
end
end Go.AB
end
section
set_option maxRecDepth 4000
namespace Go.AB
open Go Go.Proofs Go.RowKit
open Go.Proofs.Tryz (prog)
def Hd(p:Prop):Prop:=p
theorem Hd.out{p:Prop}(h:Hd p):p:=h
def ahf:Value->Nat
 |.int _ q=>q.toNat
 |_=>0
def fH(b off k:Nat):Value:=.slice (some ⟨b,off+2*k*4,none⟩) 2 2
attribute[local go_sem] Oper.semAt_some
set_option maxHeartbeats 2000000 in
def QD{lo Bs Bn b off K cap:Nat}{J:Nat->World->Prop}{W:World}(hK:2*K<=cap)(hK2:K<2^40)(XB:∀k W,J k W->W.cell? ⟨Bs,0,none⟩=some (.slice (some ⟨b,off,none⟩) (2*K) cap)/\W.cell? ⟨Bn,0,none⟩=some (.int .i64 2))
 (hd:∀k W,J k W->J k W.drew)(hY:∀k W,J k W->k<K->YieldAt Fence.wide 1 prog lo #[fH b off k] W fun e W'=>e=.returned (.bool true)/\J (k+1) W')(h0:J 0 W):
 CallsIn Fence.wide 2 prog 276 #[.func (.yield lo) #[] #[],.pointer (some ⟨Bs,0,none⟩),.pointer (some ⟨Bn,0,none⟩)] W fun e W'=>(∃v,e=.returned v)/\J K W':=by
 have mixed:=mix
 refine callsIn_of_wp Go.Proofs.Tryz.func276 rfl trivial ?_ rfl
 simp only[show Go.Proofs.Tryz.f276.ntmps=31 from rfl,List.size_toArray,List.length_cons,List.length_nil,Nat.reduceAdd,Nat.reduceSub,Array.replicate_succ,Array.replicate_zero,List.push_toArray,List.append_toArray,List.nil_append,List.cons_append]
 gi_wp2
 gi_loopw [4] (fun i wr=>∃k:Nat,k<=K/\i=.int .i64 (2*(k:Int))/\J k wr) (fun i _=>2*K -ahf i)
 case atStart=>exact⟨0,Nat.zero_le _,rfl,h0⟩
 case round=>
  obtain⟨k,hk,rfl,hJ⟩:=hrel
  obtain⟨hb1,hb2⟩:=XB k _ hJ
  by_cases hlt:k<K
  ·have hd2:=hd k _ hJ
   obtain⟨fn,tmps,assign,body,hy,hR⟩:=hY k _ hd2 hlt
   unfold fH at hy
   have hR2:Hd (RoundIn Fence.wide 1 prog lo fn tmps assign body wr.drew fun e W'=>e=.returned (.bool true)/\J (k+1) W'):=hR
   clear hR
   have hy2:Hd ((Instr.yield lo #[.slice (some ⟨b,off+2*k*4,none⟩) 2 2]).run prog wr.drew=.ok (.round lo fn tmps assign body) wr.drew):=hy
   clear hy
   gi_wp2
   gi_region
   have hy:=hy2.out
   gi_wp2
   refine hR2.out.mono ?_
   rintro e W3 ⟨rfl,hJ3⟩
   obtain⟨hb3,hb4⟩:=XB _ _ hJ3
   gi_wp2
   go_roundw
   case rel=>exact⟨k+1,hlt,by simp;try omega,hJ3⟩
   case measure=>simp[ahf];omega
  ·obtain rfl:k=K:=AT
   gi_wp2
   go_end0
   exact⟨⟨_,rfl⟩,hJ⟩
end Go.AB
end
