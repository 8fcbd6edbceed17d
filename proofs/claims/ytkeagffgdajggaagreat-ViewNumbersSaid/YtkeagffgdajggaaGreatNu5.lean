/- A part of the proof: Ab12, Ab13, Ab14, Ab15. -/
import Derived.Test.YtkeagffgdajggaaGreatNu4
import Derived.Laws.BytesString
import Derived.Laws.BytesArg
set_option linter.unusedSimpArgs false
set_option linter.unusedVariables false
section
namespace Go.AB
open Go
section
variable{P:Program}{G G':Gh}{n:Nat}{D:List Deferred}{E:St}{a:Act}{w w':World}
theorem iw{R:Nat->Nat}{c:AV}{v:Value}(hf:ry c=true)(h:VR w R c v):v.oneCell'=true:=by cases h<;>first|rfl|assumption|(simp[ry,dt]at hf;done)|(rename_i h _;cases h<;>rfl)
theorem rZ{t:Nat}{R:Nat->Nat}{c:AV}{v:Value}(hf:ry c=true\/c=.qE t)(h:VR w R c v):v.oneCell'=true:=by
 rcases hf with hf|rfl
 ·exact iw hf h
 ·cases h;rfl
theorem eh(g o:Nat)(t:TypeId)(fz:Nat×Nat):∀(vs:List Value)(i:Nat)(cur:Array Value)(w:World),w.heap[g]? =some (.cells cur t fz)->(∀k,k<cur.size->¬(fz.1<=k/\k<fz.2))->o+i+vs.length<=cur.size->(∀v∈vs,v.oneCell'=true)->
 (storeCells ⟨g,o,none⟩ vs i).run P w=.ok () (w.setRow g (cur.toList.take (o+i)++vs++cur.toList.drop (o+i+vs.length)).toArray)
 |[],i,cur,w,hg,_,_,_=>by
  simp only[storeCells,List.append_nil,List.length_nil,Nat.add_zero,List.take_append_drop,Array.toArray_toList]
  rw[setRow_self w g cur t fz hg]
  rfl
 |v::rest,i,cur,w,hg,hfz,hl,h1=>by
  have hi:o+i<cur.size:=by simp at hl;omega
  have dy:w.cell? ⟨g,o+i,none⟩=some cur[o+i]:=by simp[World.cell?,hg,hi]
  have akO:w.frozen? ⟨g,o+i,none⟩=false:=by
   have:=hfz (o+i) hi
   obtain⟨lo,hh⟩:=fz
   simp only[World.frozen?,hg]
   simp only at this
   by_cases h1:lo<=o+i
   ·have:¬(o+i<hh):=fun h2=>this ⟨h1,h2⟩
    simp[this]
   ·simp[h1]
  have hst:(store ((⟨g,o,none⟩:Addr).add i) v).run P w=.ok () (w.setRow g (cur.setIfInBounds (o+i) v)):=by
   rw[add_eq,run_store P w _ v _ (h1 v (by simp)),dy]
   simp[akO,setCell_eq_setRow w g (o+i) cur t fz v hg]
  have ih:=eh g o t fz rest (i+1) (cur.setIfInBounds (o+i) v) (w.setRow g (cur.setIfInBounds (o+i) v)) (setRow_heap w g cur _ t _ hg) (by simpa using hfz) (by simp at hl⊢;omega) (fun x hx=>h1 x (by simp[hx]))
  simp only[storeCells,Sem.run_bind,hst,Result.andThen_ok,ih,setRow_setRow]
  congr 3
  have e:=list_seg_step cur.toList (o+i) v rest (by simp at hl⊢;omega)
  simpa[Array.toList_setIfInBounds,Nat.add_assoc]using e
def laid(cur:Array Value)(o:Nat)(vs:List Value):Array Value:=(cur.toList.take o++vs++cur.toList.drop (o+vs.length)).toArray
theorem Ce(cur:Array Value)(o:Nat)(vs:List Value)(h:o+vs.length<=cur.size):(laid cur o vs).size=cur.size:=by simp[laid];omega
theorem vK(cur:Array Value)(o:Nat)(vs:List Value)(h:o+vs.length<=cur.size)(k:Nat):(laid cur o vs)[k]? =if o<=k/\k<o+vs.length then vs[k -o]? else cur[k]? :=by
 unfold laid
 simp only[List.getElem?_toArray]
 rw[List.append_assoc]
 by_cases h1:k<o
 ·rw[if_neg (by omega),List.getElem?_append_left (by simp;omega),List.getElem?_take,if_pos h1];simp
 ·have hl:(cur.toList.take o).length=o:=by simp;omega
  rw[List.getElem?_append_right (by omega),hl]
  by_cases h2:k<o+vs.length
  ·rw[if_pos ⟨by omega,h2⟩,List.getElem?_append_left (by omega)]
  ·rw[if_neg (by omega),List.getElem?_append_right (by omega),List.getElem?_drop]
   simp only[Array.getElem?_toList]
   congr 1
   omega
theorem Dx{g:Nat}{cur:Array Value}{t:TypeId}{fz:Nat×Nat}(hg:w.heap[g]? =some (.cells cur t fz))(new:Array Value)(b k:Nat):(w.setRow g new).cell? ⟨b,k,none⟩=if b=g then new[k]? else w.cell? ⟨b,k,none⟩:=by
 by_cases h:b=g
 ·subst h
  rw[if_pos rfl,cell_of_row _ (setRow_heap w b cur new t fz hg)]
 ·rw[if_neg h]
  exact World.cell?_of_block (setRow_other w g b new h)
theorem ax.write{g:Nat}{cur new:Array Value}{t:TypeId}{fz:Nat×Nat}(hg:w.heap[g]? =some (.cells cur t fz))(ho:G.O g≠.frame/\G.O g≠.none)(hst:∀k,k<G.R g->new[k]? =cur[k]?)
 (hR:G.R g<=G'.R g)(hO:∀b,b≠g->G'.O b=G.O b/\G'.R b=G.R b):ax G w G' (w.setRow g new)where
 os:=rfl
 tape:=rfl
 output:=rfl
 drawn:=Nat.le_refl _
 size:=by simp[World.setRow]
 mono:=fun b _=>by
  by_cases h:b=g
  ·subst h;exact hR
  ·rw[(hO b h).2];exact Nat.le_refl _
 mP:=fun b k _ hk=>by
  rw[Dx hg]
  split
  ·rename_i h;subst h
   rw[hst k hk,cell_of_row w hg]
  ·rfl
 frame:=fun b _ hb=>by
  have:b≠g:=fun e=>by subst e;rcases hb with hb|hb;exact ho.1 hb;exact ho.2 hb
  exact setRow_other w g b new this
 jJ:=fun b _ hb=>by
  have:b≠g:=fun e=>by subst e;exact ho.1 hb
  exact⟨(hO b this).1.trans hb,(hO b this).2⟩
 pP:=fun b _ hb=>by
  have:b≠g:=fun e=>by subst e;exact ho.2 hb
  exact⟨(hO b this).1.trans hb,(hO b this).2⟩
theorem Inv.written(h:Inv G n D E a w){g:Nat}{c new:Array Value}{t:TypeId}(hg:w.heap[g]? =some (.cells c t (0,0)))(ho:(∃i,G.O g=.loc i)\/G.O g=.sh)(hR:G.R g=0){E':St}(hlp:E'.lp=E.lp)
 (hst:aP G (w.setRow g new) E'.s)
 (he:∀k,(look E'.e k=look E.e k/\G.O g≠.loc k)\/(G.O g=.loc k/\a.tmps[k]? =some (.pointer (some ⟨g,0,none⟩))/\∃cs cs',look E.e k=.loc cs/\look E'.e k=.loc cs'/\du G (w.setRow g new) (.cell g) cs' new/\Fl cs')):
 Inv G n D E' a (w.setRow g new)/\ax G w G (w.setRow g new):=by
 have hog:G.O g≠.frame/\G.O g≠.none/\(∀i j,G.O g≠.slot i j)/\(∀i j,G.O g≠.cell i j):=by rcases ho with⟨i,ho⟩|ho<;>rw[ho]<;>simp
 have bw:ax G w G (w.setRow g new):=ax.write hg ⟨hog.1,hog.2.1⟩ (fun k hk=>by rw[hR]at hk;omega) (Nat.le_refl _) (fun _ _=>⟨rfl,rfl⟩)
 have Wl:∀b,G.O b≠G.O g->(w.setRow g new).heap[b]? =w.heap[b]? :=fun b hb=>setRow_other w g b new (fun e=>hb (by rw[e]))
 refine⟨⟨⟨fun b hb=>h.aS.jM b (by simpa[World.setRow]using hb),fun b hb=>h.aS.jU b (by simpa[World.setRow]using hb)⟩,hst,h.size,fun k v hk=>?_,fun k hk=>?_,fun k d hd=>?_,h.ue⟩,bw⟩
 ·have hs:=h.ch k v hk
  rcases he k with⟨e,hnk⟩|⟨hgk,htm,cs,cs',e1,e2,e3,e4⟩
  ·rw[e]
   refine dg.frame (G:=G) (G':=G) (fun _ _ hv=>bw.vr h.aS hv) (fun b hb=>⟨rfl,rfl,Wl b ?_⟩) (fun b c' j _ hc=>⟨hc,rfl,Wl c' ?_⟩) _ _ (fun d _ ds hds=>?_) hs
   ·rcases hb with⟨j,hb⟩|hb
    ·rw[hb];exact fun e=>hog.2.2.1 _ _ e.symm
    ·rw[hb];exact fun e=>hnk e.symm
   ·rw[hc];exact fun e=>hog.2.2.2 _ _ e.symm
   ·rcases he d with⟨e',_⟩|⟨_,_,ds',_,e1',_⟩
    ·exact⟨ds,by rw[<-e'];exact hds,rfl⟩
    ·exact⟨ds',e1',rfl⟩
  ·rw[e2]
   have hv:v=.pointer (some ⟨g,0,none⟩):=by rw[htm]at hk;exact(Option.some.inj hk).symm
   exact⟨g,new,t,hv,hgk,hR,setRow_heap w g c new t _ hg,e3,e4⟩
 ·rcases he k with⟨e,_⟩|⟨_,_,cs,_,e1,_⟩
  ·rw[e];exact h.IT k hk
  ·rw[h.IT k hk]at e1;cases e1
 ·rw[hlp]
  rcases he k with⟨e,_⟩|⟨_,_,cs,cs',_,e2,_⟩
  ·rw[e]at hd;exact h.Qs k d hd
  ·rw[e2]at hd;exact hd.elim
theorem du.lay{g off:Nat}{cs news:List AV}{c:Array Value}{vs:List Value}{t:TypeId}{fz:Nat×Nat}(hg:w.heap[g]? =some (.cells c t fz))(bw:ax G w G (w.setRow g (laid c off vs)))(nt:b9 G w)
 (hc:du G w (.cell g) cs c)(hl:vs.length=news.length)(dL:off+news.length<=cs.length)(hne:∀j,G.O g≠.cell g j)
 (hn:∀(j:Nat)(x:AV)(y:Value),news[j]? =some x->vs[j]? =some y->VR w G.R x y/\dm G w (.cell g (off+j)) x y):
 du G (w.setRow g (laid c off vs)) (.cell g) (setAt cs off news) (laid c off vs):=by
 have xL:off+vs.length<=c.size:=by rw[hl,hc.1];exact dL
 refine⟨by rw[Ce _ _ _ xL,mL _ _ _ dL,hc.1],fun j x y hx hy=>?_⟩
 rw[oY _ _ _ _ dL]at hx
 rw[vK _ _ _ xL]at hy
 have mono:∀o:Nat,dm G w (.cell g o) x y->dm G (w.setRow g (laid c off vs)) (.cell g o) x y:=fun o ho=>ho.mono fun b hb=>⟨hb,rfl,setRow_other w g b _ (fun e=>by subst e;exact hne _ hb)⟩
 by_cases hj:off<=j/\j<off+news.length
 ·rw[if_pos hj]at hx
  rw[if_pos (by omega)]at hy
  obtain⟨h1,h2⟩:=hn (j -off) x y hx hy
  have:off+(j -off)=j:=by omega
  rw[this]at h2
  exact⟨bw.vr nt h1,mono j h2⟩
 ·rw[if_neg hj]at hx
  rw[if_neg (by omega)]at hy
  obtain⟨h1,h2⟩:=hc.2 j x y hx hy
  exact⟨bw.vr nt h1,mono j h2⟩
theorem HY{av:AV}{v:Value}(hi:dt av=true)(h:VR w G.R av v):Fl (aZ av)/\v.cells.toList.length=(aZ av).length/\(∀(j:Nat)(x:AV)(y:Value),(aZ av)[j]? =some x->v.cells.toList[j]? =some y->VR w G.R x y)/\
 (∀y∈v.cells.toList,y.oneCell'=true):=by
 have hr:=gM hi h
 have eI:Row w G.R (aZ av) v.cells:=by cases av<;>first|exact hr|exact hr.views
 refine⟨eI.2.2,by simpa using eI.1,fun j x y hx hy=>eI.2.1 j x y hx (by simpa using hy),fun y hy=>?_⟩
 obtain⟨j,hj⟩:=List.mem_iff_getElem?.1 hy
 have hjl:j<(aZ av).length:=by rw[<-eI.1];have:=(List.getElem?_eq_some_iff.1 hj).1;simpa using this
 have hx:=List.getElem?_eq_getElem hjl
 exact iw (eI.2.2 _ (List.getElem_mem hjl)) (eI.2.1 j _ y hx (by simpa using hj))
theorem oO{t:TypeId}{m:Nat}(hs:c8 P t m=true){g off:Nat}{c:Array Value}{et:TypeId}(hg:w.heap[g]? =some (.cells c et (0,0))){v:Value}(hm:v.cells.size=m)(dL:off+m<=c.size)(h1:∀y∈v.cells.toList,y.oneCell'=true):
 (storeVar t ⟨g,off,none⟩ v).run P w=.ok () (w.setRow g (laid c off v.cells.toList)):=by
 have:=eh (P:=P) g off et (0,0) v.cells.toList 0 c w hg (fun k _ hk=>by simp at hk) (by simp[hm];omega) h1
 simp only[storeVar,Sem.run_bind,run_sizeOf hs,Result.andThen_ok]
 rw[if_neg (by simp[hm])]
 simpa[laid]using this
theorem tk{off:Nat}{news ez cs:List AV}(h:eb off news ez=some cs):off+news.length<=ez.length/\cs=setAt ez off news:=by
 unfold eb at h
 by_cases hl:off+news.length<=ez.length
 ·rw[decide_eq_true hl]at h;injection h with h;exact⟨hl,h.symm⟩
 ·rw[decide_eq_false hl]at h;cases h
theorem GY{v:IX}(hi:dt (E.x v)=true){k:Nat}{cs:List AV}(h:look (E.drain v).e k=.loc cs):look E.e k=.loc cs:=by
 cases v with
 |c _=>exact h
 |t i=>
  simp only[St.drain,St.put,aM]at h
  split at h
  ·have:=oM (lI (show dt (look E.e i)=true from hi)) cs
   exact absurd h this
  ·exact h
theorem Dq{v:IX}(hi:dt (E.x v)=true){k:Nat}{cs:List AV}(h:look E.e k=.loc cs):look (E.drain v).e k=.loc cs:=by
 cases v with
 |c _=>exact h
 |t i=>
  simp only[St.drain,St.put,aM]
  split
  ·rename_i e;subst e
   rw[show E.x (.t i)=look E.e i from rfl,h]at hi
   cases hi
  ·exact h
theorem T2(h:Inv G n D E a w){op:Op}{ty:TypeId}{m:Nat}{p v:IX}{d:Option Nat}{K:St->Prop}(hd:bp n d=true)(hc:ao P op ty (.store m p v)=true)(hw:jf P (.store m p v) d E K):ri P G n D w a op ty d K:=by
 cases op<;>first|(simp[ao]at hc;done)|skip
 rename_i t q u
 simp only[ao,Bool.and_eq_true]at hc
 obtain⟨⟨hs,hq⟩,hu⟩:=hc
 obtain⟨hi,hm,hk⟩:=hw
 have hvr:VR w G.R (E.x v) (a.eval u):=by
  have:=XR.aN h hu
  generalize E.x v=av at hi this
  cases av<;>first|exact this|(simp[dt]at hi)
 have target:∃g off ez,a.eval q=.pointer (some ⟨g,off,none⟩)/\
  ((∃i,look E.e i=.loc ez/\a.tmps[i]? =some (.pointer (some ⟨g,0,none⟩))/\Ke (E.drain v) (E.x p) p (aZ (E.x v))=wrL (E.drain v) i (eb off (aZ (E.x v)) ez))\/
   (E.s g=some (.cells ez)/\Ke (E.drain v) (E.x p) p (aZ (E.x v))=wrS (E.drain v) g (eb off (aZ (E.x v)) ez))):=by
  have hb:=XR.aN h hq
  cases hp:E.x p with
  |loc ez=>
   rw[hp]at hb
   obtain⟨i,b,c,t',e1,e2,e3,e4,_⟩:=hb
   refine⟨b,0,ez,e4,.inl ⟨i,e2,by rw[e3,e4],?_⟩⟩
   subst e1;rfl
  |lp d0 off=>
   rw[hp]at hb hk
   obtain⟨b,e1,e2⟩:=hb
   have hk':Qv d K (Lr (E.drain v) d0 off (aZ (E.x v)) (look (E.drain v).e d0)):=hk
   cases hl:look (E.drain v).e d0<;>rw[hl]at hk'<;>first|exact hk'.elim|skip
   rename_i ez
   have hl':=GY hi hl
   exact⟨b,off,ez,e1,.inl ⟨d0,hl',e2 ez hl',by show Lr _ _ _ _ (look (E.drain v).e d0)=_;rw[hl];rfl⟩⟩
  |ref b off=>
   rw[hp]at hb hk
   have e1:=VR.iQ hb
   have hk':Qv d K (Si (E.drain v) b off (aZ (E.x v)) ((E.drain v).s b)):=hk
   have hs':(E.drain v).s=E.s:=by cases v<;>rfl
   rw[hs']at hk'
   cases hl:E.s b with
   |none=>rw[hl]at hk';exact hk'.elim
   |some so=>
    cases so with
    |map es=>rw[hl]at hk';exact hk'.elim
    |cells ez=>exact⟨b,off,ez,e1,.inr ⟨hl,by show Si _ _ _ _ ((E.drain v).s b)=_;rw[hs',hl];rfl⟩⟩
  |_=>rw[hp]at hk;exact hk.elim
 obtain⟨g,off,ez,e1,ac5⟩:=target
 obtain⟨G1,h1,hp1,hv1,rD,hR1,hsh,Zo,dy⟩:=h.drain hu hi (.cell g off) (by simp) (by simp)
 obtain⟨hfl,hlen,uT,BV⟩:=HY hi hv1
 have ug:∀(x:AV)(y:Value),(aZ (E.x v))[0]? =some x->(a.eval u).cells.toList[0]? =some y->dm G1 w (.cell g (off+0)) x y:=by
  intro x y hx hy
  cases hv:E.x v with
  |agg cs=>
   rw[hv]at hx
   simp only[aZ]at hx
   rw[eK]at hx
   cases hc0:cs[0]? with
   |none=>rw[hc0]at hx;cases hx
   |some c0=>rw[hc0]at hx;simp at hx;rw[<-hx];exact dm.view ..
  |sl o s l cs=>
   rw[hv]at hx rD hv1
   simp[aZ]at hx
   subst hx
   have:(a.eval u).cells= #[a.eval u]:=by rcases VR.hZ hv1 with⟨(e|⟨_,_,_,e⟩),_⟩|⟨_,_,_,e,_⟩<;>rw[e]<;>rfl
   rw[this]at hy
   simp at hy
   subst hy
   exact rD
  |bb t l cs=>
   rw[hv]at hx rD hv1
   simp[aZ]at hx
   subst hx
   have ac6:VR w G1.R (.sl true 1 l cs) (a.eval u):=by cases hv1;assumption
   have:(a.eval u).cells= #[a.eval u]:=by rcases VR.hZ ac6 with⟨(e|⟨_,_,_,e⟩),_⟩|⟨_,_,_,e,_⟩<;>rw[e]<;>rfl
   rw[this]at hy
   simp at hy
   subst hy
   exact rD
  |_=>rw[hv]at hx;simp[aZ]at hx;subst hx;trivial
 have F0:∀(j:Nat)(x:AV)(y:Value),(aZ (E.x v))[j]? =some x->(a.eval u).cells.toList[j]? =some y->VR w G1.R x y/\dm G1 w (.cell g (off+j)) x y:=by
  intro j x y hx hy
  refine⟨uT j x y hx hy,?_⟩
  cases j with
  |zero=>exact ug x y hx hy
  |succ j=>
   cases hv:E.x v with
   |agg cs=>
    rw[hv]at hx
    simp only[aZ]at hx
    rw[eK]at hx
    cases hc0:cs[j+1]? with
    |none=>rw[hc0]at hx;cases hx
    |some c0=>rw[hc0]at hx;simp at hx;rw[<-hx];exact dm.view ..
   |_=>rw[hv]at hx;simp[aZ]at hx
 have oe:(a.eval u).cells.toList.length=m:=by rw[hlen,hm]
 have xx:∀(U:St)(w':World),Inv G1 n D U a w'->Inv G1 n D (U.put d (.gw [])) (a.put d undef) w':=by
  intro U w' hτ
  have:=hτ.put (s':=U.s) (lp':=U.lp) d (fun i hi=>by subst hi;simpa[bp]using hd) (.gw []) undef hτ.aS (ax.refl G1 w') hτ.store (fun _ hx=>hx) (fun i t _ ht=>ht.elim) (fun i t _⟨cs,hcs⟩=>by cases hcs)
   (fun _ _ _ _=>⟨rfl,rfl,rfl⟩) (fun _ _ _ _ _ _ hcc=>⟨hcc,rfl,rfl⟩) (fun i hdi=>⟨#[],rfl,rfl,fun j x y hx=>by simp at hx⟩)
  cases d<;>exact this
 rcases ac5 with⟨i,e2,e3,e4⟩|⟨e2,e4⟩
 ·
  rw[e4]at hk
  cases hwr:eb off (aZ (E.x v)) ez with
  |none=>rw[hwr]at hk;exact hk.elim
  |some cs'=>
   rw[hwr]at hk
   obtain⟨dL,rfl⟩:=tk hwr
   have e2':look (E.drain v).e i=.loc ez:=Dq hi e2
   have Db:=h1.ch i _ e3
   rw[e2']at Db
   obtain⟨b,c,t',q1,q2,q3,q4,q5,q6⟩:=Db
   injection q1 with q1;injection q1 with q1;injection q1 with q1 _ _
   subst q1
   have hne:∀j,G1.O g≠.cell g j:=fun j=>by rw[q2];simp
   have xL:off+(a.eval u).cells.toList.length<=c.size:=by rw[hlen,q5.1];exact dL
   have b7:=oO (P:=P) hs q4 (v:=a.eval u) (by simpa using oe) (by rw[<-oe];exact xL) BV
   have bw:ax G1 w G1 (w.setRow g (laid c off (a.eval u).cells.toList)):=ax.write q4 (by rw[q2];simp) (fun k hk=>by rw[q3]at hk;omega) (Nat.le_refl _) (fun _ _=>⟨rfl,rfl⟩)
   have ja:=du.lay q4 bw h1.aS q5 hlen dL hne F0
   obtain⟨h2,_⟩:=h1.written (E':=(E.drain v).put (some i) (.loc (setAt ez off (aZ (E.x v))))) q4 (.inl ⟨i,q2⟩) q3 rfl
    (h1.store.mono h1.aS bw (fun b hb=>⟨hb,rfl,setRow_other w g b _ (fun e=>by subst e;rw[q2]at hb;cases hb)⟩) (fun b c j _ hc=>⟨hc,rfl,setRow_other w g c _ (fun e=>by subst e;rw[q2]at hc;cases hc)⟩))
    (fun k=>by
      by_cases hki:i=k
      ·subst hki
       exact .inr ⟨q2,e3,ez,_,e2',by simp[St.put,aM],ja,Fl.setAt q6 hfl off⟩
      ·refine .inl ⟨by simp[St.put,aM,hki],?_⟩
       rw[q2];intro e;injection e with e;exact hki e)
   intro pos after gd next Q hn
   exact sm (w':=w.setRow g (laid c off (a.eval u).cells.toList)) (by simp[execOp,e1,Instr.storeAt,Instr.sureAddr,b7]) (hn G1 _ _ _ (xx _ _ h2) (hp1.trans bw) hk)
 ·
  rw[e4]at hk
  cases hwr:eb off (aZ (E.x v)) ez with
  |none=>rw[hwr]at hk;exact hk.elim
  |some cs'=>
   rw[hwr]at hk
   obtain⟨dL,rfl⟩:=tk hwr
   have hs':(E.drain v).s=E.s:=by cases v<;>rfl
   obtain⟨q2,q3,c,t',q4,q5,q6⟩:=h1.store g (.cells ez) (by rw[hs'];exact e2)
   have hne:∀j,G1.O g≠.cell g j:=fun j=>by rw[q2];simp
   have xL:off+(a.eval u).cells.toList.length<=c.size:=by rw[hlen,q5.1];exact dL
   have b7:=oO (P:=P) hs q4 (v:=a.eval u) (by simpa using oe) (by rw[<-oe];exact xL) BV
   have bw:ax G1 w G1 (w.setRow g (laid c off (a.eval u).cells.toList)):=ax.write q4 (by rw[q2];simp) (fun k hk=>by rw[q3]at hk;omega) (Nat.le_refl _) (fun _ _=>⟨rfl,rfl⟩)
   have ja:=du.lay q4 bw h1.aS q5 hlen dL hne F0
   have hst:aP G1 (w.setRow g (laid c off (a.eval u).cells.toList)) ((E.drain v).s.set g (.cells (setAt ez off (aZ (E.x v))))):=by
    intro b o hb
    unfold ab.set at hb
    by_cases hbg:b=g
    ·rw[if_pos hbg]at hb;injection hb with hb;subst hb;subst hbg
     exact⟨q2,q3,_,t',setRow_heap w b c _ t' _ q4,ja,CW.setAt q6 hfl off⟩
    ·rw[if_neg hbg]at hb
     obtain⟨r1,r2,r3⟩:=h1.store b o hb
     refine⟨r1,r2,?_⟩
     have hbk:=setRow_other w g b (laid c off (a.eval u).cells.toList) hbg
     cases o with
     |cells cs=>
      obtain⟨c0,t0,r4,r5,r6⟩:=r3
      exact⟨c0,t0,hbk.trans r4,r5.mono (fun _ _ hv=>bw.vr h1.aS hv) (fun b' j hb'=>⟨hb',rfl,setRow_other w g b' _ (fun e=>by subst e;rw[q2]at hb';cases hb')⟩),r6⟩
     |map es=>
      obtain⟨iu,clock,r4,r5,r6⟩:=r3
      exact⟨iu,clock,hbk.trans r4,r5,fun j x y hx hy=>⟨bw.vr h1.aS (r6 j x y hx hy).1,bw.vr h1.aS (r6 j x y hx hy).2⟩⟩
   obtain⟨h2,_⟩:=h1.written (E':={E.drain v with s:=(E.drain v).s.set g (.cells (setAt ez off (aZ (E.x v))))}) q4 (.inr q2) q3 rfl hst
    (fun k=>.inl ⟨rfl,by rw[q2];simp⟩)
   intro pos after gd next Q hn
   exact sm (w':=w.setRow g (laid c off (a.eval u).cells.toList)) (by simp[execOp,e1,Instr.storeAt,Instr.sureAddr,b7]) (hn G1 _ _ _ (xx _ _ h2) (hp1.trans bw) hk)
end
end Go.AB
end
section
namespace Go.AB
open Go
section
variable{P:Program}{G G':Gh}{n:Nat}{D:List Deferred}{E:St}{a:Act}{w w':World}
theorem Inv.WY(h:Inv G n D E a w){d:Option Nat}(hd:bp n d=true){sz m cap:Nat}{cs:List AV}{c:Array Value}{t:TypeId}{ob:cS}{own:Bool}(hob:∀i,d=some i->ob=.slot i 0)(ams:d=none->ob=.none)
 (hl:cs.length=m*sz)(gZ:m<=cap)(hsz:c.size=cap*sz)(hfl:Fl cs)
 (hcs:∀(j:Nat)(x:AV),cs[j]? =some x->∃y,c[j]? =some y/\VR w G.R x y)(fz:Nat×Nat)(hfz:(∀k,k<c.size->¬(fz.1<=k/\k<fz.2))/\fz.1<=fz.2)(hz0:own=true->fz=(0,0)\/(0<m/\∃x,c[0]? =some (.int .u8 x)))(hsp:∀(k:Nat)(y:Value),m*sz<=k->c[k]? =some y->y.oneCell'=true):
 ∃G',Inv G' n D (E.put d (.sl own sz m cs)) (a.put d (.slice (some ⟨w.heap.size,0,none⟩) m cap)) (w.alloc (.cells c t fz))/\ax G w G' (w.alloc (.cells c t fz)):=by
 have hp:=(gL h.aS (.cells c t fz) ob cs.length).2.1
 obtain⟨h1,h2⟩:=h.alloc (.cells c t fz) ob cs.length d hd (.sl own sz m cs) (.slice (some ⟨w.heap.size,0,none⟩) m cap) E.lp (ng h.store h.aS _ ob cs.length) (fun _ hx=>hx) (fun i t' _ ht=>ht.elim)
  (fun i t' _⟨cs',DK⟩=>by cases DK)
  (fun i hi=>by
    refine⟨?_,?_⟩
    ·refine .sl own sz m cs w.heap.size 0 cap (fun j=>c.getD j undef) hfl hl (by simp) gZ (fun j x hj=>?_) (fun j x hj=>?_)
     ·obtain⟨y,hy,_⟩:=hcs j x hj
      rw[Nat.zero_add,cell_of_row _ (heap_alloc_new w _),hy]
      simp[Array.getD_eq_getD_getElem?,hy]
     ·obtain⟨y,hy,hv⟩:=hcs j x hj
      have:c.getD j undef=y:=by simp[Array.getD_eq_getD_getElem?,hy]
      rw[this]
      exact hp.vr h.aS hv
    ·cases own with
     |false=>trivial
     |true=>
     intro base m' dn hv hc
     injection hv with e1 e2 e3
     subst e3
     exact⟨w.heap.size,0,c,t,fz,e1.symm,by simp[hob i hi],by simp[hl],heap_alloc_new w _,by rw[hsz,Nat.zero_add],hfz.1,hfz.2,rfl,hz0 rfl,fun k y hk=>hsp k y (by omega)⟩)
 exact⟨_,by cases d<;>exact h1,h2⟩
theorem OG(l:List Value):∀(m:Nat),((List.replicate m l).flatten)=((List.range (m*l.length)).map fun i=>l.getD (i % l.length) undef):=by
 intro m
 apply List.ext_getElem?
 intro j
 rcases Nat.eq_zero_or_pos l.length with h0|hp
 ·have:l=[]:=List.eq_nil_of_length_eq_zero h0
  subst this
  simp
 ·induction m generalizing j with
  |zero=>simp
  |succ m ih=>
   rw[List.replicate_succ,List.flatten_cons]
   by_cases hj:j<l.length
   ·rw[List.getElem?_append_left hj,List.getElem?_map,List.getElem?_range (by rw[Nat.add_mul,Nat.one_mul];omega)]
    simp[Nat.mod_eq_of_lt hj,List.getD_eq_getElem?_getD,List.getElem?_eq_getElem hj]
   ·rw[List.getElem?_append_right (by omega),ih,List.getElem?_map,List.getElem?_map]
    by_cases hlt:j<(m+1)*l.length
    ·have h1:j -l.length<m*l.length:=by rw[Nat.add_mul,Nat.one_mul]at hlt;omega
     rw[List.getElem?_range hlt,List.getElem?_range h1]
     simp only[Option.map_some]
     congr 2
     rw[Nat.mod_eq_sub_mod (by omega:l.length<=j)]
    ·have h1:¬(j -l.length<m*l.length):=by rw[Nat.add_mul,Nat.one_mul]at hlt;omega
     rw[List.getElem?_eq_none (by simp;omega),List.getElem?_eq_none (by simp;omega)]
theorem wN(z:Array Value)(m:Nat):((Array.range (m*z.size)).map fun i=>z[i % z.size]!)=((List.replicate m z.toList).flatten).toArray:=by
 rw[OG]
 apply Array.ext'
 simp only[Array.toList_map,Array.toList_range,Array.length_toList]
 apply List.map_congr_left
 intro i hi
 have hlt:i<m*z.size:=by simpa using hi
 have hz:0<z.size:=by
  rcases Nat.eq_zero_or_pos z.size with h|h
  ·rw[h,Nat.mul_zero]at hlt;omega
  ·exact h
 have hm:=Nat.mod_lt i hz
 rw[getElem!_pos z (i % z.size) hm]
 simp[List.getD_eq_getElem?_getD,hm]
theorem Ol(h:Inv G n D E a w){op:Op}{ty:TypeId}{sz m:Nat}{z:List AV}{ps:List (Nat×Nat×IX)}{d:Option Nat}{K:St->Prop}(hd:bp n d=true)(hc:ao P op ty (.bq sz m z ps)=true)(hw:jf P (.bq sz m z ps) d E K):ri P G n D w a op ty d K:=by
 cases op<;>first|(simp[ao]at hc;done)|skip
 rename_i t m' qs
 simp only[ao,Bool.and_eq_true,beq_iff_eq]at hc
 obtain⟨rfl,hc⟩:=hc
 split at hc<;>try(cases hc;done)
 rename_i e ht
 have ht:=dw ht
 simp only[Bool.and_eq_true]at hc
 obtain⟨⟨⟨⟨hs,oF⟩,hp⟩,Wg⟩,hz⟩:=hc
 obtain⟨i,hi,yZ⟩:=mM hs
 rw[hi]at hz
 simp only at hz
 split at hz<;>try(cases hz;done)
 rename_i zv hzv
 simp only[Bool.and_eq_true,beq_iff_eq]at hz
 obtain⟨hzr,hzs⟩:=hz
 have oF:=of_decide_eq_true oF
 have Wg:=of_decide_eq_true Wg
 have hw':Aa sz m E d K (fill (xg true E) z ps):=hw
 cases hfl:fill (xg true E) z ps with
 |none=>rw[hfl]at hw';exact hw'.elim
 |some ds=>
  rw[hfl]at hw'
  obtain⟨hlen,hk⟩:=hw'
  obtain⟨hl,hpa⟩:=zw _ _ hp
  obtain⟨hz1,hz2⟩:=ET hzr
  have eI:Row w G.R z ((Array.range (m*sz)).map (zv.cells[·% zv.cells.size]!)):=by
   rw[<-hzs,wN]
   exact⟨by simpa using hz1,fun j c u hc hu=>uH (hz2 j c u hc (by simpa using hu)) w G.R,FB hzr⟩
  have hf:∀(o:Operand)(x:IX),bJ o x=true->dt (xg true E x)=true->VR w G.R (xg true E x) (a.eval o):=fun o x hx hi=>by
   have:=BR.aN h hx
   generalize xg true E x=av at hi this
   cases av<;>first|exact this|(simp[dt]at hi)
  obtain⟨us,h1,h2⟩:=sB h hf (fun i=>some (i*sz,sz)) qs.toList ps z ds _ ⟨hl,fun j q p hq hp'=>by
   obtain⟨⟨e1,e2⟩,hx⟩:=hpa j q p hq hp'
   exact⟨by rw[e1,e2],hx⟩⟩ eI hfl
  obtain⟨G1,h3,h4⟩:=h.WY (t:=e) (ob:=match d with|some i=>.slot i 0|none=>.none) hd (fun i hi=>by subst hi;rfl) (fun hn=>by subst hn;rfl) hlen (Nat.le_refl m) (by rw[h2.1,hlen]) h2.2.2
   (fun j x hx=>by
     have hlt:j<us.size:=by rw[h2.1];exact(List.getElem?_eq_some_iff.1 hx).1
     exact⟨us[j],Array.getElem?_eq_getElem hlt,h2.2.1 j x _ hx (Array.getElem?_eq_getElem hlt)⟩) (0,0) ⟨fun k _ hk=>by simp at hk,Nat.le_refl _⟩ (own:=true) (fun _=>.inl rfl) (fun k y hk hy=>by
     have:=(Array.getElem?_eq_some_iff.1 hy).1
     rw[h2.1,hlen]at this;omega)
  intro pos after gd next Q hn
  refine aX ?_ (hn G1 _ _ _ h3 h4 hk)
  by_cases hm0:m*sz=0
  ·have hm:m=0:=by
    rcases Nat.mul_eq_zero.1 hm0 with h|h
    ·exact h
    ·omega
   subst hm
   simp only[Nat.zero_mul]at h1
   have:(Array.range 0).map (zv.cells[·% zv.cells.size]!)= #[]:=by simp
   rw[this]at h1
   have hr0:Array.map (fun _:Nat=>(default:Value)) (Array.range 0)= #[]:=by apply Array.ext';simp
   simp[execOp,Instr.buildSlice,run_underlying ht,run_sizeOf hs,hr0,h1,newRow]
  ·have h24:¬(16777216<m*sz):=by omega
   simp[execOp,Instr.buildSlice,run_underlying ht,run_sizeOf hs,h24,hm0,zeroValue,typeInfo,hi,hzv,h1,newRow]
theorem Fz(s:List UInt8):Fl (s.map fun c=>AV.int .u8 c.toNat):=by
 intro c hc
 simp only[List.mem_map]at hc
 obtain⟨x,_,rfl⟩:=hc
 rfl
theorem QX(h:Inv G n D E a w){op:Op}{ty:TypeId}{x:IX}{d:Option Nat}{K:St->Prop}(hd:bp n d=true)(hc:ao P op ty (.fo x)=true)(hw:jf P (.fo x) d E K):ri P G n D w a op ty d K:=by
 cases op<;>first|(simp[ao]at hc;done)|skip
 rename_i s t y
 simp only[ao,Bool.and_eq_true]at hc
 obtain⟨hy,hc⟩:=hc
 split at hc<;>try(cases hc;done)
 rename_i e hs ht
 split at hc<;>try(cases hc;done)
 rename_i he
 have hb:=BR.aN h hy
 have hw':EU E d K (xg true E x):=hw
 generalize xg true E x=xv at hb hw'
 unfold EU at hw'
 split at hw'<;>try(exact hw'.elim)
 rename_i ow sz m cs
 obtain⟨rfl,l,rfl,hk⟩:=hw'
 have xx:Inv G n D (E.put d (.str l)) (a.put d (.string ⟨l.toArray⟩)) w:=by
  have:=h.put (s':=E.s) (lp':=E.lp) d (fun i hi=>by subst hi;simpa[bp]using hd) (.str l) (.string ⟨l.toArray⟩) h.aS (ax.refl G w) h.store (fun _ hx=>hx) (fun i t _ ht=>ht.elim) (fun i t _⟨cs,hcs⟩=>by cases hcs)
   (fun _ _ _ _=>⟨rfl,rfl,rfl⟩) (fun _ _ _ _ _ _ hcc=>⟨hcc,rfl,rfl⟩) (fun i hdi=>⟨.str l,trivial⟩)
  cases d<;>exact this
 intro pos after gd next Q hn
 refine aX (v:=.string ⟨l.toArray⟩) ?_ (hn G _ _ _ xx (ax.refl G w) hk)
 rcases VR.hZ hb with⟨e1,_,hl0⟩|⟨b,off,cap,e1,hlen,_,_,u,u1,u2,_⟩
 ·have:l=[]:=by simpa using hl0
  subst this
  rcases e1 with e1|⟨_,ad,cap,e1⟩
  ·have:=run_convert_bytes_nil (P:=P) w s e hs he 0 0 t ht
   simp[execOp,e1,this]
   rfl
  ·have:=kW (P:=P) w s e hs he ad cap t ht
   simp[execOp,e1,this]
   rfl
 ·have hm:l.length=m:=by simpa using hlen
  have:=run_convert_bytes_arg (P:=P) w s e hs he b off m cap (l.map fun c=>(c.toNat:Int)) (by simpa using hm) (fun i hi=>by
   have hil:i<l.length:=by omega
   have hc0:(l.map fun c=>AV.int .u8 c.toNat)[i]? =some (.int .u8 l[i].toNat):=by simp[hil]
   rw[u1 i _ hc0,VR.ct (u2 i _ hc0)]
   simp[List.getD_eq_getElem?_getD,hil]) t ht
  have hs2:strOfNums (l.map fun c=>(c.toNat:Int))=⟨l.toArray⟩:=by
   unfold strOfNums
   congr 2
   simp[Function.comp_def]
  rw[hs2]at this
  simp[execOp,e1,this]
theorem ax.drew(G:Gh)(w:World):ax G w G w.drew:=⟨rfl,rfl,rfl,Nat.le_succ _,Nat.le_refl _,fun _ _=>Nat.le_refl _,fun _ _ _ _=>rfl,fun _ _ _=>rfl,fun _ _ h=>⟨h,rfl⟩,fun _ _ h=>⟨h,rfl⟩⟩
theorem Inv.drew(h:Inv G n D E a w):Inv G n D E a w.drew:=by
 have hg:b9 G w.drew:=⟨h.aS.jM,h.aS.jU⟩
 have:=h.put (s':=E.s) (lp':=E.lp) none (fun i hi=>by cases hi) .undef undef hg (ax.drew G w) (h.store.mono h.aS (ax.drew G w) (fun _ hb=>⟨hb,rfl,rfl⟩) (fun _ _ _ _ hc=>⟨hc,rfl,rfl⟩)) (fun _ hx=>hx) (fun i t hi=>by cases hi) (fun i t hi=>by cases hi)
  (fun _ _ _ _=>⟨rfl,rfl,rfl⟩) (fun _ _ _ _ _ _ hcc=>⟨hcc,rfl,rfl⟩) (fun i hi=>by cases hi)
 exact this
theorem LU(h:Inv G n D E a w){op:Op}{ty:TypeId}{x:IX}{d:Option Nat}{K:St->Prop}(hd:bp n d=true)(hc:ao P op ty (.gD x)=true)(hw:jf P (.gD x) d E K):ri P G n D w a op ty d K:=by
 cases op<;>first|(simp[ao]at hc;done)|skip
 rename_i s t y
 simp only[ao,Bool.and_eq_true]at hc
 obtain⟨hy,hc⟩:=hc
 split at hc<;>try(cases hc;done)
 rename_i e hs ht
 split at hc<;>try(cases hc;done)
 rename_i he
 have hb:=BR.aN h hy
 have hw':rq E d K (xg true E x):=hw
 generalize xg true E x=xv at hb hw'
 unfold rq at hw'
 split at hw'<;>try(exact hw'.elim)
 rename_i l
 have e1:=VR.eW hb
 have hk:K (E.put d (.sl (ZQ l) 1 l.length (l.map fun c=>.int .u8 c.toNat))):=hw'
 let cap:=(Question.appendCap l.length 0 e).cut (w.tape w.drawn (.appendCap l.length 0 e))
 have gZ:l.length<=cap:=Nat.le_add_right _ _
 let c:Array Value:=(l.toArray.map fun b=>Value.int .u8 b.toNat)++Array.replicate (cap -l.length) (.int .u8 0)
 have hcs:c.size=cap:=by simp[c];omega
 obtain⟨G1,h3,h4⟩:=(h.drew).WY (t:=e) (c:=c) (m:=l.length) (cs:=l.map fun c=>AV.int .u8 c.toNat) (cap:=cap) (sz:=1) (ob:=match d with|some i=>.slot i 0|none=>.none) hd (fun i hi=>by subst hi;rfl) (fun hn=>by subst hn;rfl) (by simp) gZ (by rw[hcs];simp) (Fz l)
  (fun j x hx=>by
    rw[List.getElem?_map]at hx
    cases hj:l[j]? with
    |none=>rw[hj]at hx;cases hx
    |some b0=>
     rw[hj]at hx;simp at hx
     have hlt:j<l.length:=(List.getElem?_eq_some_iff.1 hj).1
     refine⟨.int .u8 b0.toNat,?_,by rw[<-hx];exact .int _ _⟩
     have hjb:l[j]=b0:=by simpa[hlt]using hj
     simp[c,Array.getElem?_append,hlt,hjb]) (c.size,c.size+1) ⟨fun k hk hh=>by omega,Nat.le_succ _⟩ (own:=ZQ l) (fun hne=>.inr (by
    cases l with
    |nil=>cases hne
    |cons x0 l=>exact⟨Nat.succ_pos _,x0.toNat,by
     show(Array.map _ _++_)[0]? =_
     rw[Array.getElem?_append_left (by simp)];simp⟩)) (fun k y _ hy=>by
    obtain⟨hk,hy⟩:=Array.getElem?_eq_some_iff.1 hy
    have hm:y∈c:=by rw[<-hy];exact Array.getElem_mem hk
    rcases Array.mem_append.1 hm with hm|hm
    ·obtain⟨b,_,rfl⟩:=Array.mem_map.1 hm;rfl
    ·rw[(Array.mem_replicate.1 hm).2];rfl)
 intro pos after gd next Q hn
 refine aX (w':=(w.drew).alloc (.cells c e (c.size,c.size+1))) ?_ (hn G1 _ _ _ h3 ((ax.drew G w).trans h4) hk)
 have hsz:(ByteArray.mk l.toArray).size=l.length:=by simp[ByteArray.size]
 have Wa:(Conv.stringToBytes e ⟨l.toArray⟩).run P w=.ok (.slice (some ⟨w.heap.size,0,none⟩) l.length cap) ((w.drew).alloc (.cells c e (c.size,c.size+1))):=by
  have hfr:∀(w0:World),(w0.alloc (.cells c e)).freeze {block:=w0.heap.size,off:=c.size} 1=w0.alloc (.cells c e (c.size,c.size+1)):=by
   intro w0
   unfold World.freeze World.alloc
   simp only[Nat.succ_ne_self,if_false]
   congr 1
   apply Array.ext
   ·simp
   ·intro k h1 h2
    simp only[Array.getElem_modify,Array.getElem_push]
    by_cases hk:k<w0.heap.size
    ·have:w0.heap.size≠k:=by omega
     simp[hk,this]
    ·have:k=w0.heap.size:=by simp at h1;omega
     subst this
     simp
  have Ra:((w.drew).alloc (.cells c e)).shape? w.heap.size=some (e,c.size):=by
   unfold World.shape?
   rw[show((w.drew).alloc (.cells c e)).heap[w.heap.size]? =some (.cells c e) from heap_alloc_new w.drew _]
  simp only[Conv.stringToBytes,Sem.run_bind,run_choose,Question.forced,hsz,Bool.false_eq_true,if_false,Result.andThen_ok,newRow,run_newObj,Sem.run_pure,markStringish,run_shape]
  show((Sem.run P (match((w.drew).alloc (.cells c e)).shape? w.heap.size with|some (_,n)=>freeze {block:=w.heap.size,off:=n} 1|x=>pure ()) ((w.drew).alloc (.cells c e))).andThen fun a w'=>Result.ok (Value.slice (some {block:=w.heap.size,off:=0}) l.length cap) w')=_
  rw[Ra]
  simp only[run_freeze,Result.andThen_ok]
  exact congrArg _ (hfr w.drew)
 simp[execOp,e1,convert,underlying,hs,ht,he,Wa]
end
end Go.AB
end
section
namespace Go.AB
open Go
section
variable{P:Program}{G G':Gh}{n:Nat}{D:List Deferred}{E:St}{a:Act}{w w':World}
structure Src(P:Program)(w:World)(R:Nat->Nat)(sz m:Nat)(ds:List AV)(v:Value)(news:List Value):Prop where
 len:news.length=m*sz
 zn:ds.length=m*sz
 lenOf:∀w',(Builtin.lenOf v).run P w'=.ok m w'
 first:∀w',w'.heap=w.heap->(Builtin.firstCells sz m v).run P w'=.ok news.toArray w'
 one:∀u∈news,u.oneCell'=true
 od:∀(j:Nat)(c:AV)(u:Value),ds[j]? =some c->news[j]? =some u->VR w R c u
 fl:Fl ds
theorem BI{w w':World}(h:w'.heap=w.heap)(a:Addr):w'.cell? a=w.cell? a:=by unfold World.cell?;rw[h]
theorem Src.ahZ{R:Nat->Nat}{o:Bool}{s sz m:Nat}{ds:List AV}{v:Value}(h:VR w R (.sl o s m ds) v)(hs:s=sz\/m=0):∃news,Src P w R sz m (views ds) v news:=by
 rcases VR.hZ h with⟨(rfl|⟨_,ad,cap,rfl⟩),rfl,rfl⟩|⟨b,off,cap,rfl,hl,_,_,hat⟩
 ·exact⟨[],by simp,by simp[views],fun _=>rfl,fun w' _=>by simp[Builtin.firstCells],by simp,fun j c u hc=>by simp[views]at hc,Fl.nil⟩
 ·exact⟨[],by simp,by simp[views],fun _=>rfl,fun w' _=>by simp[Builtin.firstCells,loadCells,loadCellsFrom],by simp,fun j c u hc=>by simp[views]at hc,Fl.nil⟩
 ·have hlen:(views ds).length=m*sz:=by
   rcases hs with rfl|rfl
   ·simp[views,hl]
   ·simp only[views,List.length_map,hl];omega
  have V8:=hat.views
  obtain⟨us,h1,h2,h3⟩:=V8.od
  have hfl:Fl (views ds):=by obtain⟨_,_,_,hf⟩:=V8;exact hf
  refine⟨us,by rw[h1,hlen],hlen,fun _=>rfl,fun w' hw'=>?_,fun u hu=>?_,h3,hfl⟩
  ·exact run_firstCells_some w' sz m ⟨b,off,none⟩ m cap us (by rw[h1,hlen]) fun j v hj=>by rw[BI hw'];exact h2 j v hj
  ·obtain⟨j,hj⟩:=List.mem_iff_getElem?.1 hu
   have hlt:j<(views ds).length:=by rw[<-h1];exact(List.getElem?_eq_some_iff.1 hj).1
   have hx:=List.getElem?_eq_getElem hlt
   exact iw (hfl _ (List.getElem_mem hlt)) (h3 j _ u hx hj)
theorem Src.RC{R:Nat->Nat}{l:List UInt8}:Src P w R 1 l.length (l.map fun c=>.int .u8 c.toNat) (.string ⟨l.toArray⟩) (l.map fun c=>.int .u8 c.toNat)where
 len:=by simp
 zn:=by simp
 lenOf:=fun w'=>by simp[Builtin.lenOf,ByteArray.size]
 first:=fun w' _=>by
  have:(ByteArray.mk l.toArray).extract 0 l.length=⟨l.toArray⟩:=by
   apply ByteArray.ext
   rw[ByteArray.data_extract]
   simp
  simp[Builtin.firstCells,this]
 one:=fun u hu=>by
  simp only[List.mem_map]at hu
  obtain⟨x,_,rfl⟩:=hu
  rfl
 od:=fun j c u hc hu=>by
  rw[List.getElem?_map]at hc hu
  cases hj:l[j]? with
  |none=>rw[hj]at hc;cases hc
  |some x=>rw[hj]at hc hu;simp at hc hu;rw[<-hc,<-hu];exact .int _ _
 fl:=Fz l
section runs
variable{t t' ty e:TypeId}{i:TypeInfo}{z:Value}{sz m:Nat}{ds:List AV}{v:Value}{news:List Value}
theorem lX(ht:P.underlying t=some (.slice e))(ht':(∃e',P.underlying t'=some (.slice e'))\/P.underlying t'=some .string)(hi:P.info? e=some i)(hsz:i.size=sz){R:Nat->Nat}(hs:Src P w R sz m ds v news){b off k cap:Nat}
 (cJ:k+m<=cap){w':World}(hst:(storeCells ⟨b,off+k*sz,none⟩ news).run P w=.ok () w'):
 (Builtin.append_ #[t,t'] ty #[.slice (some ⟨b,off,none⟩) k cap,v]).run P w=.ok (.slice (some ⟨b,off,none⟩) (k+m) cap) w':=by
 subst hsz
 have h1:=hs.lenOf w
 have h2:=hs.first w rfl
 rcases ht' with⟨e',ht'⟩|ht'<;>
  simp[Builtin.append_,run_underlying ht,run_underlying ht',sizeOf,typeInfo,hi,h1,cJ,h2,add_eq,hst]
theorem s6(ht:P.underlying t=some (.slice e))(ht':(∃e',P.underlying t'=some (.slice e'))\/P.underlying t'=some .string)(hi:P.info? e=some i)(hsz:i.size=sz){R:Nat->Nat}(hs:Src P w R sz 0 ds v news):
 (Builtin.append_ #[t,t'] ty #[.slice none 0 0,v]).run P w=.ok (.slice none 0 0) w:=by
 subst hsz
 have h1:=hs.lenOf w
 have h2:=hs.first w rfl
 rcases ht' with⟨e',ht'⟩|ht'<;>
  simp[Builtin.append_,run_underlying ht,run_underlying ht',sizeOf,typeInfo,hi,h1,h2]
theorem Bj(ht:P.underlying t=some (.slice e))(ht':(∃e',P.underlying t'=some (.slice e'))\/P.underlying t'=some .string)(hi:P.info? e=some i)(hz:i.zero=some z)(hsz:i.size=sz){R:Nat->Nat}(hs:Src P w R sz m ds v news){base:Option Addr}{k cap:Nat}{olds:List Value}
 (hold:(Builtin.firstCells sz k (.slice base k cap)).run P w.drew=.ok olds.toArray w.drew)(cJ:cap<k+m)(FX:(k+m)*i.bytes<=room)(hb0:0<i.bytes):
 (Builtin.append_ #[t,t'] ty #[.slice base k cap,v]).run P w=.ok (.slice (some ⟨w.heap.size,0,none⟩) (k+m) (grownCap w (k+m) cap e))
   (w.drew.alloc (.cells (olds.toArray++news.toArray++Builtin.zeroCells z.cells (grownCap w (k+m) cap e -(k+m))) e)):=by
 subst hsz
 have h1:=hs.lenOf w
 have h2:=hs.first w.drew rfl
 have h3:¬(k+m<=cap):=by omega
 have h4:¬(281474976710656<Builtin.nextslicecap (k+m) cap*i.bytes):=by have:=growslice_fits cJ FX;omega
 have h5:k+m<=(k+m)*i.bytes:=Nat.le_mul_of_pos_right _ hb0
 have h6:¬((9223372036854775807:Int)<(k:Int)+m):=by unfold room at FX;omega
 rcases ht' with⟨e',ht'⟩|ht'<;>
  simp[Builtin.append_,run_underlying ht,run_underlying ht',sizeOf,typeInfo,zeroValue,hi,hz,h1,h3,h4,h6,Question.forced,hold,h2,newRow,grownCap]<;>
  (congr 2;apply Array.ext';simp[List.append_assoc])
end runs
theorem Inv.grown(h:Inv G n D E a w){d:Option Nat}(hd:bp n d=true){b off sz k m cap:Nat}{c:Array Value}{t:TypeId}{fz:Nat×Nat}{cs ds:List AV}{v:Value}{news:List Value}{R:Nat->Nat}
 (hb:w.heap[b]? =some (.cells c t fz))(hfz:(∀j,j<c.size->¬(fz.1<=j/\j<fz.2))/\fz.1<=fz.2)(hof:off=0)(hz0:fz=(0,0)\/(0<k/\0<sz/\∃x,c[0]? =some (.int .u8 x)))(hsp:∀(i:Nat)(y:Value),off+k*sz<=i->c[i]? =some y->y.oneCell'=true)(ho:∀i,d=some i->G.O b=.slot i 0)(hon:G.O b≠.none/\G.O b≠.frame/\G.O b≠.sh/\(∀i,G.O b≠.loc i)/\(∀i j,G.O b≠.cell i j)/\(∀i j,G.O b=.slot i j->d=some i/\j=0))
 (hR:G.R b=off+k*sz)(hsz:c.size=off+cap*sz)(gZ:k+m<=cap)(hlc:cs.length=k*sz)(hat:At w G.R b off cs)(hs:Src P w R sz m ds v news)(hRR:R=G.R):
 ∃G',Inv G' n D (E.put d (.sl true sz (k+m) (cs++ds))) (a.put d (.slice (some ⟨b,off,none⟩) (k+m) cap)) (w.setRow b (laid c (off+k*sz) news))/\ax G w G' (w.setRow b (laid c (off+k*sz) news)):=by
 subst hRR
 have dL:off+k*sz+news.length<=c.size:=by
  rw[hs.len,hsz,Nat.add_assoc,<-Nat.add_mul]
  exact Nat.add_le_add_left (Nat.mul_le_mul_right _ gZ) _
 let G':=G.sk b (G.O b) (off+(k+m)*sz)
 have hmul:(k+m)*sz=k*sz+m*sz:=Nat.add_mul ..
 have bw:ax G w G' (w.setRow b (laid c (off+k*sz) news)):=ax.write hb ⟨hon.2.1,hon.1⟩
  (fun j hj=>by rw[hR]at hj;rw[vK _ _ _ dL,if_neg (by omega)]) (by simp only[G',Gh.ai4,if_true,hR,hmul];omega) (fun b' hb'=>by simp[G',hb'])
 have nt:b9 G' (w.setRow b (laid c (off+k*sz) news)):=by
  have hlt:b<w.heap.size:=h.aS.lt hon.1
  refine⟨fun b' hb'=>?_,fun b' hb'=>?_⟩
  ·have ns:w.heap.size<=b':=by simpa[World.setRow]using hb'
   have:b'≠b:=by omega
   simp[G',this,h.aS.jM b' ns]
  ·have ns:w.heap.size<=b':=by simpa[World.setRow]using hb'
   have:b'≠b:=by omega
   simp[G',this,h.aS.jU b' ns]
 have same:∀b',b'≠b->G'.O b'=G.O b'/\G'.R b'=G.R b'/\(w.setRow b (laid c (off+k*sz) news)).heap[b']? =w.heap[b']? :=fun b' hb'=>⟨by simp[G',hb'],by simp[G',hb'],setRow_other w b b' _ hb'⟩
 have hst:=h.store.mono h.aS bw (fun b' hb'=>by
  obtain⟨q1,q2,q3⟩:=same b' (fun e=>by subst e;exact hon.2.2.1 hb')
  exact⟨q1.trans hb',q2,q3⟩) (fun b' c' j _ hc'=>by
  obtain⟨q1,q2,q3⟩:=same c' (fun e=>by subst e;exact hon.2.2.2.2.1 _ _ hc')
  exact⟨q1.trans hc',q2,q3⟩)
 have:=h.put (s':=E.s) (lp':=E.lp) d (fun i hi=>by subst hi;simpa[bp]using hd) (.sl true sz (k+m) (cs++ds)) (.slice (some ⟨b,off,none⟩) (k+m) cap) nt bw hst (fun _ hx=>hx) (fun i t _ ht=>ht.elim) (fun i t _⟨cs',DK⟩=>by cases DK)
  (fun i b' hdi hb'=>same b' (fun e=>by
    subst e
    rcases hb' with⟨j,hb'⟩|hb'
    ·exact hdi (hon.2.2.2.2.2 i j hb').1
    ·exact hon.2.2.2.1 _ hb'))
  (fun i b' c' j hdi hb' hc'=>by
    obtain⟨q1,q2,q3⟩:=same c' (fun e=>by subst e;exact hon.2.2.2.2.1 _ _ hc')
    exact⟨q1.trans hc',q2,q3⟩)
  (fun i hi=>by
    obtain⟨u,u1,u2,u3⟩:=hat
    subst hi
    refine⟨?_,?_⟩
    ·have hll:(cs++ds).length=(k+m)*sz:=by rw[List.length_append,hlc,hs.zn,hmul]
     refine .sl true sz (k+m) (cs++ds) b off cap (fun j=>if j<k*sz then u j else news.getD (j -k*sz) undef) (fun x hx=>?_) hll (by rw[hll];simp[G']) gZ (fun j x hj=>?_) (fun j x hj=>?_)
     ·rcases List.mem_append.1 hx with hx|hx
      ·exact u3 x hx
      ·exact hs.fl x hx
     ·rw[Dx hb,if_pos rfl,vK _ _ _ dL]
      have hjl:j<(k+m)*sz:=by rw[<-hll];exact(List.getElem?_eq_some_iff.1 hj).1
      by_cases hjk:j<k*sz
      ·rw[if_neg (by omega),if_pos hjk]
       rw[List.getElem?_append_left (by rw[hlc];exact hjk)]at hj
       rw[<-cell_of_row w hb]
       exact u1 j x hj
      ·have h1:=hs.len
       rw[if_pos (by omega),if_neg hjk]
       have:off+j -(off+k*sz)=j -k*sz:=by omega
       rw[this]
       have hlt:j -k*sz<news.length:=by omega
       simp[List.getD_eq_getElem?_getD,hlt]
     ·by_cases hjk:j<k*sz
      ·rw[if_pos hjk]
       rw[List.getElem?_append_left (by rw[hlc];exact hjk)]at hj
       exact bw.vr h.aS (u2 j x hj)
      ·rw[if_neg hjk]
       rw[List.getElem?_append_right (by rw[hlc];omega),hlc]at hj
       have h1:=hs.len
       have h2:=hs.zn
       have hlt:j -k*sz<news.length:=by have:=(List.getElem?_eq_some_iff.1 hj).1;omega
       have hn:news[j -k*sz]? =some (news.getD (j -k*sz) undef):=by simp[List.getD_eq_getElem?_getD,hlt]
       exact bw.vr h.aS (hs.od _ x _ hj hn)
    ·intro base m' dn hv hc
     injection hv with e1 e2 e3
     subst e3
     exact⟨b,off,_,t,fz,e1.symm,by simp only[G',Gh.acd,if_true];exact ho i rfl,by simp[G'],setRow_heap w b c _ t fz hb,by rw[Ce _ _ _ dL,hsz],by rw[Ce _ _ _ dL];exact⟨hfz.1,hfz.2,hof,hz0.imp id fun⟨z1,z2,x,z3⟩=>⟨by omega,x,by
      have zp:0<k*sz:=Nat.mul_pos z1 z2
      rw[vK _ _ _ dL,if_neg (by omega)];exact z3⟩,fun i y hi hy=>by
      rw[vK _ _ _ dL]at hy
      split at hy
      ·exact hs.one _ (List.mem_of_getElem? hy)
      ·exact hsp i y (by rw[hmul]at hi;omega) hy⟩⟩)
 exact⟨G',by cases d<;>exact this,bw⟩
def RG:Option Nat->cS
 |some i=>.slot i 0
 |none=>.res 0
theorem Sp{e:TypeId}{sz:Nat}(h:E8 P e sz=true):∃i z,P.info? e=some i/\i.zero=some z/\z.cells.size=sz/\∀y∈z.cells.toList,y.oneCell'=true:=by
 unfold E8 at h
 split at h<;>try(cases h;done)
 split at h<;>try(cases h;done)
 rename_i i hi _ z hz
 rw[Bool.and_eq_true]at h
 exact⟨i,z,hi,hz,by simpa using h.1,List.all_eq_true.1 h.2⟩
theorem Kf{zs:Array Value}(h:∀y∈zs.toList,y.oneCell'=true)(q:Nat):∀y∈(Builtin.zeroCells zs q).toList,y.oneCell'=true:=by
 intro y hy
 rw[show Builtin.zeroCells zs q=((List.replicate q zs.toList).flatten).toArray from wN zs q]at hy
 simp only[List.mem_flatten,List.mem_replicate]at hy
 obtain⟨l,⟨_,rfl⟩,hm⟩:=hy
 exact h y hm
theorem QU(h:Inv G n D E a w){op:Op}{ty:TypeId}{sz by':Nat}{x y:IX}{d:Option Nat}{K:St->Prop}(hd:bp n d=true)(hc:ao P op ty (.append sz by' x y)=true)(hw:jf P (.append sz by' x y) d E K):ri P G n D w a op ty d K:=by
 cases op<;>first|(simp[ao]at hc;done)|skip
 rename_i c
 simp only[ao]at hc
 split at hc<;>try(cases hc;done)
 rename_i u v t t' hb
 have hce:=ss hb
 subst hce
 simp only[Bool.and_eq_true]at hc
 obtain⟨⟨hu,hv⟩,hc⟩:=hc
 split at hc<;>try(cases hc;done)
 rename_i e ht
 have ht:=dw ht
 simp only[Bool.and_eq_true]at hc
 obtain⟨⟨⟨⟨⟨hs,hby⟩,oF⟩,uR⟩,hzl⟩,ht'⟩:=hc
 obtain⟨i,z,hi,hz,hzs,hz1⟩:=Sp hzl
 obtain⟨i',hi',yZ⟩:=mM hs
 rw[hi]at hi';injection hi' with hi';subst hi'
 have oF:=of_decide_eq_true oF
 have uR:=of_decide_eq_true uR
 have hby:i.bytes=by':=by
  unfold oE at hby
  rw[hi]at hby
  simpa using hby
 have ht2:(∃e',P.underlying t'=some (.slice e'))\/P.underlying t'=some .string:=by
  rcases Bool.or_eq_true .. ▸ht' with h|h
  ·cases he:dp P t' with
   |none=>rw[he]at h;cases h
   |some e'=>exact .inl ⟨e',dw he⟩
  ·exact .inr (E6 h)
 have hw':ly sz by' E x d K (E.x x) (E.x y):=hw
 have key:∃k m cs ds news,E.x x=.sl true sz k cs/\Src P w G.R sz m ds (a.eval v) news/\(k+m)*by'<=room/\K ((E.drain x).put d (.sl true sz (k+m) (cs++ds))):=by
  have hbx:=XR.aN h hu
  have hby:=XR.aN h hv
  generalize hx:E.x x=xv at hw' hbx
  generalize hy:E.x y=yv at hw' hby
  unfold ly at hw'
  split at hw'<;>try(exact hw'.elim)
  ·rename_i s k cs o s' m ds
   obtain⟨rfl,h2,h3,h4⟩:=hw'
   obtain⟨news,eO⟩:=Src.ahZ (P:=P) hby h2
   exact⟨k,m,cs,views ds,news,rfl,eO,h3,h4⟩
  ·rename_i s k cs ds
   obtain⟨rfl,h2,h3,h4⟩:=hw'
   subst h2
   have e1:=VR.eW hby
   exact⟨k,ds.length,cs,_,_,rfl,by rw[e1];exact Src.RC,h3,h4⟩
 obtain⟨k,m,cs,ds,news,hx,eO,cJ,hk⟩:=key
 have hiv:dt (E.x x)=true:=by rw[hx];rfl
 obtain⟨G1,h1,hp1,hv1,rD,hR1,hsh,Zo,dy⟩:=h.drain hu hiv (RG d) (by cases d<;>simp[RG]) (by cases d<;>simp[RG])
 rw[hx]at hv1 rD
 have Kz:Src P w G1.R sz m ds (a.eval v) news:=by rw[hR1];exact eO
 have grow:∀(base:Option Addr)(cap:Nat)(olds:List Value),a.eval u=.slice base k cap->cap<k+m->olds.length=k*sz->cs.length=k*sz->Fl cs->
  (Builtin.firstCells sz k (.slice base k cap)).run P w.drew=.ok olds.toArray w.drew->(∀(j:Nat)(c:AV)(u:Value),cs[j]? =some c->olds[j]? =some u->VR w G1.R c u)->
  ri P G n D w a (.call {callee:=.builtin .append,args:= #[u,v],argTypes:= #[t,t']}) ty d K:=by
  intro base cap olds e1 OP hol hcl hcf hold uT
  have b7:=Bj (ty:=ty) ht ht2 hi hz yZ Kz hold OP (by rw[hby];exact cJ) (by rw[hby];exact uR)
  have hge:k+m<=grownCap w (k+m) cap e:=grownCap_ge w (k+m) cap e
  obtain⟨G2,h3,h4⟩:=(h1.drew).WY (t:=e) (c:=olds.toArray++news.toArray++Builtin.zeroCells z.cells (grownCap w (k+m) cap e -(k+m))) (m:=k+m) (cs:=cs++ds) (cap:=grownCap w (k+m) cap e) (sz:=sz) (ob:=match d with|some i=>.slot i 0|none=>.none) hd
   (fun i hi=>by subst hi;rfl) (fun hn=>by subst hn;rfl) (by rw[List.length_append,hcl,eO.zn,Nat.add_mul]) hge (by
     simp only[Array.size_append,List.size_toArray,size_zeroCells,hol,eO.len,hzs,<-Nat.add_mul]
     congr 1;omega) (fun c hc=>by
     rcases List.mem_append.1 hc with hc|hc
     ·exact hcf c hc
     ·exact eO.fl c hc)
   (fun j x hj=>by
     have hl1:=eO.len
     have hl2:=eO.zn
     by_cases hjk:j<k*sz
     ·rw[List.getElem?_append_left (by rw[hcl];exact hjk)]at hj
      have hlt:j<olds.length:=by rw[hol];exact hjk
      refine⟨olds[j],?_,?_⟩
      ·rw[Array.append_assoc,Array.getElem?_append_left (by simpa using hlt)]
       simp[hlt]
      ·exact(ax.drew G1 w).vr h1.aS (uT j x _ hj (List.getElem?_eq_getElem hlt))
     ·rw[List.getElem?_append_right (by rw[hcl];omega),hcl]at hj
      have hlt:j -k*sz<news.length:=by have:=(List.getElem?_eq_some_iff.1 hj).1;omega
      refine⟨news[j -k*sz],?_,?_⟩
      ·rw[Array.append_assoc,Array.getElem?_append_right (by simp[hol];omega),Array.getElem?_append_left (by simp[hol];omega)]
       simp only[List.size_toArray,hol,List.getElem?_toArray]
       exact List.getElem?_eq_getElem hlt
      ·exact(ax.drew G1 w).vr h1.aS (Kz.od _ x _ hj (List.getElem?_eq_getElem hlt))) (0,0) ⟨fun k _ hk=>by simp at hk,Nat.le_refl _⟩ (own:=true) (fun _=>.inl rfl) (fun i y hi hy=>by
     rw[Array.append_assoc,<-Array.append_assoc,Array.getElem?_append_right (by simp only[Array.size_append,List.size_toArray,hol,eO.len,<-Nat.add_mul];exact hi)]at hy
     exact Kf hz1 _ _ (List.mem_of_getElem? (by rw[Array.getElem?_toList];exact hy)))
  intro pos after gd next Q hn
  refine aX ?_ (hn G2 _ _ _ h3 (hp1.trans ((ax.drew G1 w).trans h4)) hk)
  simp[execOp,resolve,invoke,builtin,e1,b7]
 rcases VR.hZ hv1 with⟨e0,rfl,rfl⟩|⟨b,off,cap,e1,hcl,hRb,gZ,hat⟩
 ·
  have e1:=e0.own
  by_cases hm:m=0
  ·subst hm
   have hds:ds=[]:=List.eq_nil_of_length_eq_zero (by simpa using eO.zn)
   subst hds
   have b7:=s6 (ty:=ty) ht ht2 hi yZ Kz
   have xx:Inv G1 n D ((E.drain x).put d (.sl true sz 0 [])) (a.put d (.slice none 0 0)) w:=by
    have:=h1.put (s':=(E.drain x).s) (lp':=(E.drain x).lp) d (fun i hi=>by subst hi;simpa[bp]using hd) (.sl true sz 0 []) (.slice none 0 0) h1.aS (ax.refl G1 w) h1.store (fun _ hx=>hx) (fun i t _ ht=>ht.elim) (fun i t _⟨cs,hcs⟩=>by cases hcs)
     (fun _ _ _ _=>⟨rfl,rfl,rfl⟩) (fun _ _ _ _ _ _ hcc=>⟨hcc,rfl,rfl⟩) (fun i hdi=>⟨.slnil _ _,fun base m' dn hv hc=>by injection hv with _ e2 e3;omega⟩)
    cases d<;>exact this
   intro pos after gd next Q hn
   refine aX (w':=w) ?_ (hn G1 _ _ _ xx hp1 hk)
   simp[execOp,resolve,invoke,builtin,e1,b7]
  ·exact grow none 0 [] e1 (by omega) (by simp) (by simp) Fl.nil (by simp[Builtin.firstCells]) (fun j c u hc=>by simp at hc)
 ·by_cases dL:k+m<=cap
  ·by_cases hm:m=0
   ·subst hm
    have hds:ds=[]:=List.eq_nil_of_length_eq_zero (by simpa using eO.zn)
    have Au:news=[]:=List.eq_nil_of_length_eq_zero (by simpa using eO.len)
    subst hds;subst Au
    have b7:=lX (ty:=ty) (w:=w) ht ht2 hi yZ Kz (b:=b) (off:=off) (k:=k) (cap:=cap) dL (w':=w) rfl
    simp only[List.append_nil,Nat.add_zero]at hk b7
    have xx:Inv G1 n D ((E.drain x).put d (.sl true sz k cs)) (a.put d (a.eval u)) w:=by
     have:=h1.put (s':=(E.drain x).s) (lp':=(E.drain x).lp) d (fun i hi=>by subst hi;simpa[bp]using hd) (.sl true sz k cs) (a.eval u) h1.aS (ax.refl G1 w) h1.store (fun _ hx=>hx) (fun i t _ ht=>ht.elim) (fun i t _⟨cs,hcs⟩=>by cases hcs)
      (fun _ _ _ _=>⟨rfl,rfl,rfl⟩) (fun _ _ _ _ _ _ hcc=>⟨hcc,rfl,rfl⟩) (fun i hdi=>by subst hdi;exact⟨hv1,rD⟩)
     cases d<;>exact this
    intro pos after gd next Q hn
    refine aX (w':=w) ?_ (hn G1 _ _ _ xx hp1 hk)
    simp[execOp,resolve,invoke,builtin,e1,b7]
   ·obtain⟨b',ZV,c,et,fz,q1,q2,q3,q4,q5,q6⟩:=rD _ _ _ e1 (by omega)
    injection q1 with q1;injection q1 with q1 q1'
    subst q1;subst q1'
    have hon:G1.O b≠.none/\G1.O b≠.frame/\G1.O b≠.sh/\(∀i,G1.O b≠.loc i)/\(∀i j,G1.O b≠.cell i j)/\(∀i j,G1.O b=.slot i j->d=some i/\j=0):=by
     rw[q2]
     cases d with
     |none=>simp[RG]
     |some i=>simp+contextual [RG]
    obtain⟨G2,h3,h4⟩:=h1.grown (k:=k) (m:=m) hd q4 ⟨q6.1,q6.2.1⟩ q6.2.2.1 (q6.2.2.2.1.imp id fun⟨z1,z2⟩=>⟨z1,oF,z2⟩) q6.2.2.2.2 (fun i hi=>by subst hi;exact q2) hon q3 q5 dL hcl hat Kz rfl
    have Wb:off+k*sz+news.length<=c.size:=by
     rw[eO.len,q5,Nat.add_assoc,<-Nat.add_mul]
     exact Nat.add_le_add_left (Nat.mul_le_mul_right _ dL) _
    have hst:=eh (P:=P) b (off+k*sz) et fz news 0 c w q4 q6.1 (by simpa using Wb) eO.one
    have b7:=lX (ty:=ty) (w:=w) ht ht2 hi yZ Kz (b:=b) (off:=off) (k:=k) (cap:=cap) dL (w':=w.setRow b (laid c (off+k*sz) news)) (by simpa[laid]using hst)
    intro pos after gd next Q hn
    refine aX ?_ (hn G2 _ _ _ h3 (hp1.trans h4) hk)
    simp[execOp,resolve,invoke,builtin,e1,b7]
  ·have hfl:Fl cs:=by obtain⟨_,_,_,hf⟩:=hat;exact hf
   obtain⟨us,u1,u2,u3⟩:=hat.od
   exact grow _ cap us e1 (by omega) (by rw[u1,hcl]) hcl hfl (run_firstCells_some w.drew sz k ⟨b,off,none⟩ k cap us (by rw[u1,hcl]) u2) u3
end
end Go.AB
end
section
namespace Go.AB
open Go
section
variable{P:Program}{G G':Gh}{n:Nat}{D:List Deferred}{E:St}{a:Act}{w w':World}
def Gh.outer(G:Gh):Gh:=⟨G.R,fun b=>match G.O b with
 |.none=>.none
 |.sh=>.sh
 |.cell b' j=>if G.O b'=.sh then .cell b' j else .frame
 |_=>.frame⟩
theorem mE{b:Nat}:G.outer.O b=.none↔G.O b=.none:=by
 simp only[Gh.outer]
 split<;>simp_all
 split<;>simp
theorem pR{b:Nat}:G.outer.O b=.sh↔G.O b=.sh:=by
 simp only[Gh.outer]
 split<;>simp_all
 split<;>simp
theorem Hg{b b' j:Nat}:G.outer.O b=.cell b' j↔(G.O b=.cell b' j/\G.O b'=.sh):=by
 simp only[Gh.outer]
 split<;>simp_all
 rename_i b1 j1 _
 by_cases hb:G.O b1=.sh
 ·rw[if_pos hb]
  constructor
  ·intro e;injection e with e1 e2;subst e1;subst e2;exact⟨⟨rfl,rfl⟩,hb⟩
  ·rintro⟨⟨rfl,rfl⟩,_⟩;rfl
 ·rw[if_neg hb]
  constructor
  ·intro e;cases e
  ·rintro⟨⟨rfl,rfl⟩,h⟩;exact absurd h hb
theorem kP{b:Nat}(h1:G.O b≠.none)(h2:G.O b≠.sh)(h3:∀b' j,G.O b=.cell b' j->G.O b'≠.sh):G.outer.O b=.frame:=by
 simp only[Gh.outer]
 split<;>first|(rename_i e;exact absurd e h1)|(rename_i e;exact absurd e h2)|rfl|skip
 rename_i b' j e
 rw[if_neg (h3 b' j e)]
theorem vZ(G:Gh):zT G.outer:=by
 intro b
 by_cases h1:G.O b=.none
 ·exact .inl (mE.2 h1)
 ·by_cases h2:G.O b=.sh
  ·exact .inr (.inr (.inl (pR.2 h2)))
  ·by_cases h3:∃b' j,G.O b=.cell b' j/\G.O b'=.sh
   ·obtain⟨b',j,e1,e2⟩:=h3
    exact .inr (.inr (.inr ⟨b',j,Hg.2 ⟨e1,e2⟩,pR.2 e2⟩))
   ·exact .inr (.inl (kP h1 h2 fun b' j e hb'=>h3 ⟨b',j,e,hb'⟩))
def WA:List AV->Bool
 |[_]=>true
 |_=>false
def alC(single:Bool):Option Nat->Nat->cS
 |some i,j=>.slot i (if single then j else j+1)
 |none,_=>.none
def aiG(single:Bool)(d:Option Nat):cS->cS
 |.none=>.none
 |.sh=>.sh
 |.cell b' j=>.cell b' j
 |.res j=>alC single d j
 |_=>.none
theorem Inv.args(h:Inv G n D E a w){ys:List Operand}{xs:List IX}{as:List AV}(hc:iL ys xs=true)(hv:bZ (xg true E) xs=some as):kH w G.R as (ys.map a.eval).toArray:=by
 have hf:∀(o:Operand)(x:IX),bJ o x=true->dt (xg true E x)=true->VR w G.R (xg true E x) (a.eval o):=fun o x hx hi=>by
  have:=BR.aN h hx
  generalize xg true E x=av at hi this
  cases av<;>first|exact this|(simp[dt]at hi)
 obtain⟨h1,_,h3⟩:=uF h hf ys xs as hc hv
 exact⟨by simp[h1],fun j c u hc hu=>h3 j c u hc (by simpa using hu)⟩
theorem Inv.sa(h:Inv G n D E a w):b9 G.outer w/\aP G.outer w E.s:=⟨⟨fun b hb=>mE.2 (h.aS.jM b hb),h.aS.jU⟩,h.store.Ds (fun _ _ hv=>hv) (fun _ hb=>⟨pR.2 hb,rfl,rfl⟩) (fun _ _ _ hb hc=>⟨Hg.2 ⟨hc,hb⟩,rfl,rfl⟩)⟩
theorem HU{r:AV}(h:jO [r]=true):(∃sz m cs,r=.us sz m cs)\/(dt r=true/\∀sz m cs,r≠.us sz m cs):=by cases r<;>first|exact .inl ⟨_,_,_,rfl⟩|exact .inr ⟨by simpa[jO,WB]using h,fun _ _ _ e=>by cases e⟩
theorem HT{r:AV}(h:jO [r]=true)(t:Nat):¬bB r t:=by
 rcases HU h with⟨_,_,_,rfl⟩|⟨h,_⟩
 ·exact fun h=>h
 ·exact eQ h t
theorem Yd{r:AV}(h:jO [r]=true)(cs:List AV):r≠.loc cs:=by
 rcases HU h with⟨_,_,_,rfl⟩|⟨h,_⟩
 ·exact fun h=>by cases h
 ·exact oM h cs
theorem Inv.behind(h:Inv G n D E a w){d:Option Nat}(hd:bp n d=true){rs:List AV}{s':ab}{v:Value}(hok:jO rs=true)(hg:b9 G' w')(hs:aP G' w' s')(hr:pb G' w' rs v)(hp:ax G.outer w G' w'):
 ∃G2,Inv G2 n D ({E with s:=s'}.put d (fj rs)) (a.put d v) w'/\ax G w G2 w':=by
 obtain⟨O2,hO2⟩:∃O2:Nat->cS,∀b,O2 b=if G.outer.O b=.frame then G.O b else aiG (WA rs) d (G'.O b):=⟨_,fun _=>rfl⟩
 let G2:Gh:=⟨G'.R,O2⟩
 have hfr:∀b,G.outer.O b=.frame->b<w.heap.size/\w'.heap[b]? =w.heap[b]? /\G'.O b=.frame/\G'.R b=G.R b/\G2.O b=G.O b:=by
  intro b hb
  have hlt:b<w.heap.size:=h.sa.1.lt (by rw[hb];simp)
  obtain⟨q1,q2⟩:=hp.jJ b hlt hb
  exact⟨hlt,hp.frame b hlt (.inl hb),q1,q2,(hO2 b).trans (if_pos hb)⟩
 have hnf:∀b,G.outer.O b≠.frame->G2.O b=aiG (WA rs) d (G'.O b):=by
  intro b hb
  exact(hO2 b).trans (if_neg hb)
 have nt:b9 G2 w':=by
  refine⟨fun b hb=>?_,fun b hb=>hg.jU b hb⟩
  have hbs:w.heap.size<=b:=Nat.le_trans hp.size hb
  rw[hnf b (by rw[mE.2 (h.aS.jM b hbs)];simp),hg.jM b hb];rfl
 have bw:ax G w G2 w':=by
  refine⟨hp.os,hp.tape,hp.output,hp.drawn,hp.size,hp.mono,hp.mP,fun b hb ho=>?_,fun b hb ho=>?_,fun b hb ho=>?_⟩
  ·rcases ho with ho|ho
   ·exact hp.frame b hb (.inl (kP (by rw[ho];simp) (by rw[ho];simp) (by rw[ho];simp)))
   ·exact hp.frame b hb (.inr (mE.2 ho))
  ·obtain⟨_,_,_,q4,q5⟩:=hfr b (kP (by rw[ho];simp) (by rw[ho];simp) (by rw[ho];simp))
   exact⟨q5.trans ho,q4⟩
  ·have ho':=mE.2 ho
   obtain⟨q1,q2⟩:=hp.pP b hb ho'
   exact⟨by rw[hnf b (by rw[ho'];simp),q1];rfl,q2⟩
 have abn:∀b,(G'.O b=.sh\/∃b' j,G'.O b=.cell b' j)->G2.O b=G'.O b:=by
  intro b hb
  by_cases hf:G.outer.O b=.frame
  ·have:=(hfr b hf).2.2.1
   rcases hb with hb|⟨_,_,hb⟩<;>rw[this]at hb<;>cases hb
  ·rw[hnf b hf]
   rcases hb with hb|⟨_,_,hb⟩<;>rw[hb]<;>rfl
 have hst:aP G2 w' s':=hs.Ds (fun _ _ hv=>hv) (fun b hb=>⟨(abn b (.inl hb)).trans hb,rfl,rfl⟩) (fun b c j _ hc=>⟨(abn c (.inr ⟨b,j,hc⟩)).trans hc,rfl,rfl⟩)
 have rE:∀(i j:Nat)(x:AV)(y:Value),d=some i->dm G' w' (.res j) x y->dm G2 w' (.slot i (if WA rs then j else j+1)) x y:=by
  intro i j x y hdi ho
  unfold dm at ho⊢
  split
  ·rename_i sz m cs
   intro base m' cap hv hc
   obtain⟨b,off,c,e,fz,q1,q2,q3⟩:=ho base m' cap hv hc
   refine⟨b,off,c,e,fz,q1,?_,q3⟩
   have hf:G.outer.O b≠.frame:=fun hf=>by have:=(hfr b hf).2.2.1;rw[q2]at this;cases this
   rw[hnf b hf,q2,hdi];rfl
  ·rename_i e m cs
   intro base m' cap hv hc
   obtain⟨b,off,c,fz,q1,q2,q3⟩:=ho base m' cap hv hc
   refine⟨b,off,c,fz,q1,?_,q3⟩
   have hf:G.outer.O b≠.frame:=fun hf=>by have:=(hfr b hf).2.2.1;rw[q2]at this;cases this
   rw[hnf b hf,q2,hdi];rfl
  ·trivial
 have xx:=h.put (s':=s') (lp':=E.lp) d (fun i hi=>by subst hi;simpa[bp]using hd) (fj rs) v nt bw hst (fun _ hx=>hx)
  (fun i t _ ht=>by
    match rs,hok,ht with
    |[r],hok,ht=>exact(HT hok t ht).elim
    |[],_,ht=>exact ht.elim
    |_::_::_,_,ht=>exact ht.elim)
  (fun i t _⟨cs,hcs⟩=>by
    match rs,hok,hcs with
    |[r],hok,hcs=>exact(Yd hok cs hcs).elim
    |[],_,hcs=>cases hcs
    |_::_::_,_,hcs=>cases hcs)
  (fun i b _ hb=>by
    have hf:G.outer.O b=.frame:=by rcases hb with⟨j,hb⟩|hb<;>exact kP (by rw[hb];simp) (by rw[hb];simp) (by rw[hb];simp)
    obtain⟨_,q2,_,q4,q5⟩:=hfr b hf
    exact⟨q5,q4,q2⟩)
  (fun i b c j _ hb hc=>by
    have hf:G.outer.O c=.frame:=kP (by rw[hc];simp) (by rw[hc];simp) (fun b' j' e=>by rw[hc]at e;injection e with e1 e2;subst e1;rw[hb];simp)
    obtain⟨_,q2,_,q4,q5⟩:=hfr c hf
    exact⟨q5.trans hc,q4,q2⟩)
  (fun i hi=>by
    match rs,hok,hr,rE with
    |[r],hok,hr,rE=>
     show dg G2 w' _ _ i r v
     rcases HU hok with⟨sz,m,cs,rfl⟩|⟨hV,hnu⟩
     ·rcases hr with hr|⟨b,cap,c,t,sp,h1,h2,h3,h4,h5,h6⟩
      ·exact .inl hr
      ·refine .inr ⟨b,cap,c,t,sp,h1,h2,h3,?_,h5,h6⟩
       have hf:G.outer.O b≠.frame:=fun hf=>by have:=(hfr b hf).2.2.1;rw[h4]at this;cases this
       show O2 b=_
       rw[show O2 b=G2.O b from rfl,hnf b hf,h4,hi];rfl
     ·rw[dg.qP hV]
      have hr':VR w' G'.R r v/\dm G' w' (.res 0) r v:=by cases r<;>first|exact hr|exact absurd rfl (hnu _ _ _)
      exact⟨hr'.1,rE i 0 r v hi hr'.2⟩
    |[],_,hr,rE=>
     obtain⟨ys,q1,q2⟩:=hr
     exact⟨ys,q1,q2.1,fun j x y hx=>by simp at hx⟩
    |r1::r2::rr,_,hr,rE=>
     obtain⟨ys,q1,q2⟩:=hr
     exact⟨ys,q1,q2.1,fun j x y hx hy=>⟨(q2.2 j x y hx hy).1,rE i j x y hi (q2.2 j x y hx hy).2⟩⟩)
 exact⟨G2,by cases d<;>exact xx,bw⟩
theorem Kn(h:Inv G n D E a w){op:Op}{ty:TypeId}{d:Option Nat}{K:St->Prop}(hd:bp n d=true){f:FuncId}{as:List AV}{vs:Array Value}
 (hr:∀(pos:String)(after:Array Edge)(g:Option (Nat×Bool)),(execOp a.eval ⟨d,op,ty,pos,after,g⟩).run P w=.ok (.enter f vs) w)(ha:kH w G.R as vs)(hw:FN P f as E.s (N8 E d K)):ri P G n D w a op ty d K:=by
 intro pos after g next Q hn
 unfold Oper.wp
 rw[hr pos after g]
 obtain⟨g1,g2⟩:=h.sa
 refine(hw G.outer w vs g1 (vZ G) g2 ha).mono fun e w'⟨v,rs,s',G',he,⟨hok,hk⟩,q1,q2,q3,q4⟩=>?_
 subst he
 obtain⟨G2,h1,h2⟩:=h.behind hd hok q1 q2 q3 q4
 exact hn G2 _ _ _ h1 h2 hk
theorem s7{f:FuncId}{fn:Func}(hf:P.funcs[f]? =some fn)(Wh:(fn.name != "runtime.NumGoroutine")=true)(hb:fn.body.isSome=true)(args:Array Value):(callFunc f args).run P w=.ok (.enter f args) w:=by
 have h1:¬(fn.name= "runtime.NumGoroutine"):=by simpa using Wh
 have h2:fn.body.isNone=false:=by cases hbb:fn.body<;>simp_all
 have h3:fn.body≠none:=by intro e;rw[e]at hb;cases hb
 simp[callFunc,hf,h1,h3]
theorem Om(h:Inv G n D E a w){op:Op}{ty:TypeId}{f:Nat}{args:List IX}{d:Option Nat}{K:St->Prop}(hd:bp n d=true)(hc:ao P op ty (.call f args)=true)(hw:jf P (.call f args) d E K):ri P G n D w a op ty d K:=by
 cases op<;>first|(simp[ao]at hc;done)|skip
 rename_i c
 obtain⟨callee,ys,ats⟩:=c
 simp only[ao]at hc
 split at hc<;>try(cases hc;done)
 rename_i g
 simp only[Bool.and_eq_true,beq_iff_eq]at hc
 obtain⟨⟨rfl,hxs⟩,hfn⟩:=hc
 split at hfn<;>try(cases hfn;done)
 rename_i fn hf
 rw[Bool.and_eq_true]at hfn
 have hw':uJ P f E d K (bZ (xg true E) args):=hw
 cases has:bZ (xg true E) args with
 |none=>rw[has]at hw';exact hw'.elim
 |some as=>
  rw[has]at hw'
  refine Kn h hd (as:=as) (vs:=ys.map a.eval) (fun _ _ _=>?_) ?_ hw'
  ·simp[execOp,resolve,Act.eval,Deferred.ofValue,invoke,s7 hf hfn.1 hfn.2]
  ·have:=h.args hxs has
   rwa[show(ys.toList.map a.eval).toArray=ys.map a.eval from by apply Array.ext';simp]at this
theorem QF{t:TypeId}{m:Nat}(h:oE P t m=true):∃i,P.info? t=some i/\i.bytes=m:=by
 unfold oE at h
 split at h
 ·exact⟨_,by assumption,by simpa using h⟩
 ·cases h
theorem CU{c:Int}(h0:0<=c)(h1:c<=9223372036854775807):IntKind.i64.wrap c=c:=by rw[IntKind.wrap_i64];omega
theorem X7{c:Int}{by':Nat}(h0:0<=c)(hb:0<by')(hr:c*by'<=room):c<=room/\IntKind.i64.wrap c=c/\¬(281474976710656<by'*c):=by
 have h1:c<=c*by':=by
  have:=Int.mul_le_mul_of_nonneg_left (show(1:Int)<=by' by omega) h0
  omega
 have h2:c<=room:=Int.le_trans h1 hr
 refine⟨h2,?_,?_⟩
 ·unfold room at h2
  exact CU (by omega) (by omega)
 ·rw[Int.mul_comm]at hr
  unfold room at hr
  omega
theorem Ak{α:Type}(u:α)(l:List α):∀(m:Nat),((List.replicate m l).flatten)=((List.range (m*l.length)).map fun i=>l.getD (i % l.length) u):=by
 intro m
 apply List.ext_getElem?
 intro j
 rcases Nat.eq_zero_or_pos l.length with h0|hp
 ·have:l=[]:=List.eq_nil_of_length_eq_zero h0
  subst this
  simp
 ·induction m generalizing j with
  |zero=>simp
  |succ m ih=>
   rw[List.replicate_succ,List.flatten_cons]
   by_cases hj:j<l.length
   ·rw[List.getElem?_append_left hj,List.getElem?_map,List.getElem?_range (by rw[Nat.add_mul,Nat.one_mul];omega)]
    simp[Nat.mod_eq_of_lt hj,List.getD_eq_getElem?_getD,List.getElem?_eq_getElem hj]
   ·rw[List.getElem?_append_right (by omega),ih,List.getElem?_map,List.getElem?_map]
    by_cases hlt:j<(m+1)*l.length
    ·have h1:j -l.length<m*l.length:=by rw[Nat.add_mul,Nat.one_mul]at hlt;omega
     rw[List.getElem?_range hlt,List.getElem?_range h1]
     simp only[Option.map_some]
     congr 2
     rw[Nat.mod_eq_sub_mod (by omega:l.length<=j)]
    ·have h1:¬(j -l.length<m*l.length):=by rw[Nat.add_mul,Nat.one_mul]at hlt;omega
     rw[List.getElem?_eq_none (by simp;omega),List.getElem?_eq_none (by simp;omega)]
theorem run_makeSlice{t e:TypeId}{i:TypeInfo}{z:Value}{l c:Int}{k k':IntKind}(ht:P.underlying t=some (.slice e))(hi:P.info? e=some i)(hz:i.zero=some z)(hsz:z.cells.size=i.size)(hb:0<i.bytes)(h0:0<=l)(hlc:l<=c)(hr:c*i.bytes<=room)(w:World):
 (Instr.makeSlice t (.int k l) (.int k' c)).run P w=.ok (.slice (some ⟨w.heap.size,0,none⟩) l.toNat c.toNat) (w.alloc (.cells ((List.replicate c.toNat z.cells.toList).flatten).toArray e)):=by
 obtain⟨h1,h2,h3⟩:=X7 (Int.le_trans h0 hlc) hb hr
 have h4:IntKind.i64.wrap l=l:=CU (by omega) (by unfold room at h1;omega)
 have h5:¬(c<0):=by omega
 have h6:¬(l<0):=by omega
 have h7:¬(c<l):=by omega
 have eI:(Array.map (fun x=>(if c.toNat*i.size=0 then(#[]:Array Value)else z.cells)[x % (if c.toNat*i.size=0 then(#[]:Array Value)else z.cells).size]!) (Array.range (c.toNat*i.size)))=((List.replicate c.toNat z.cells.toList).flatten).toArray:=by
  rw[<-wN,hsz]
  by_cases hn:c.toNat*i.size=0
  ·simp[hn]
  ·simp[hn,hsz]
 by_cases hn:c.toNat*i.size=0
 ·simp only[hn,if_true]at eI
  simp[Instr.makeSlice,asInt,asIntOf,run_underlying ht,typeInfo,sizeOf,hi,h2,h4,h3,h5,h6,h7,newRow,hn,<-eI]
 ·simp only[hn,if_false]at eI
  simp[Instr.makeSlice,asInt,asIntOf,run_underlying ht,typeInfo,sizeOf,hi,h2,h4,h3,h5,h6,h7,newRow,hn,zeroValue,hz,eI]
theorem TY(h:Inv G n D E a w){op:Op}{ty:TypeId}{x:IX}{args:List IX}{d:Option Nat}{K:St->Prop}(hd:bp n d=true)(hc:ao P op ty (.cu x args)=true)(hw:jf P (.cu x args) d E K):ri P G n D w a op ty d K:=by
 cases op<;>first|(simp[ao]at hc;done)|skip
 rename_i c
 obtain⟨callee,ys,ats⟩:=c
 simp only[ao]at hc
 split at hc<;>try(cases hc;done)
 rename_i y
 simp only[Bool.and_eq_true]at hc
 obtain⟨hx,hxs⟩:=hc
 have hb:=BR.aN h hx
 have hw':yM P E (bZ (xg true E) args) d K (xg true E x):=hw
 generalize xg true E x=xv at hb hw'
 unfold yM at hw'
 split at hw'<;>try(exact hw'.elim)
 rename_i f first en
 cases has:bZ (xg true E) args with
 |none=>rw[has]at hw';exact hw'.elim
 |some as=>
  rw[has]at hw'
  have hv:VR w G.R (.fn f first en) (a.eval y):=hb
  generalize hev:a.eval y=yv at hv
  cases hv with
  |fn _ _ _ vf vc hl hr hl' hr'=>
  have V7:=h.args hxs has
  obtain⟨hfs,hw'⟩:=hw'
  unfold pz at hfs
  split at hfs<;>try(cases hfs;done)
  rename_i fn hf
  rw[Bool.and_eq_true]at hfs
  refine Kn h hd (as:=first++as++en) (vs:=vf++(ys.toList.map a.eval).toArray++vc) (fun _ _ _=>?_) ?_ hw'
  ·rw[show(ys.toList.map a.eval).toArray=ys.map a.eval from by apply Array.ext';simp]
   simp[execOp,resolve,hev,Deferred.ofValue,invoke,s7 hf hfs.1 hfs.2]
  ·refine⟨by have:=V7.1;simp at this;simp[hl,hl',this],fun j c u hc hu=>?_⟩
   have h1:=V7.1
   rw[List.append_assoc,List.getElem?_append]at hc
   rw[Array.append_assoc,Array.getElem?_append]at hu
   by_cases hj:j<first.length
   ·rw[if_pos hj]at hc
    rw[if_pos (by omega)]at hu
    exact hr j c u hc hu
   ·rw[if_neg hj,List.getElem?_append]at hc
    rw[if_neg (by omega),Array.getElem?_append,hl,h1]at hu
    by_cases hj2:j -first.length<as.length
    ·rw[if_pos hj2]at hc hu
     exact V7.2 _ c u hc hu
    ·rw[if_neg hj2]at hc hu
     exact hr' _ c u hc hu
theorem QZ(h:Inv G n D E a w){op:Op}{ty:TypeId}{sz by':Nat}{z:List AV}{l c:IX}{d:Option Nat}{K:St->Prop}(hd:bp n d=true)(hc:ao P op ty (.fO sz by' z l c)=true)(hw:jf P (.fO sz by' z l c) d E K):ri P G n D w a op ty d K:=by
 cases op<;>first|(simp[ao]at hc;done)|skip
 rename_i t l' c'
 simp only[ao,Bool.and_eq_true]at hc
 obtain⟨⟨hl,hcc⟩,hc⟩:=hc
 split at hc<;>try(cases hc;done)
 rename_i e he
 simp only[Bool.and_eq_true,decide_eq_true_eq]at hc
 obtain⟨⟨⟨⟨hs,hby⟩,hz⟩,hsz⟩,hbp⟩:=hc
 have hb1:=BR.aN h hl
 have hb2:=BR.aN h hcc
 have hw':xa by' z E d K (xg true E l) (xg true E c):=hw
 generalize xg true E l=lv at hb1 hw'
 generalize xg true E c=cv at hb2 hw'
 unfold xa at hw'
 split at hw'<;>try(exact hw'.elim)
 rename_i k l0 k' c0
 obtain⟨q1,q2,q3,q4⟩:=hw'
 obtain⟨i,v,h1,h2,h3,h4,h5⟩:=xu hz
 obtain⟨i',h6,h7⟩:=QF hby
 rw[h1]at h6;injection h6 with h6;subst h6
 have e1:=VR.ct hb1
 have e2:=VR.ct hb2
 have Wn:=h4 w G.R
 have ja:v.cells.toList.length=z.length:=by simpa using Wn.1
 have hfl:Fl (List.replicate c0.toNat z).flatten:=by
  intro x hx
  simp only[List.mem_flatten,List.mem_replicate]at hx
  obtain⟨l',⟨_,rfl⟩,hx⟩:=hx
  exact Wn.2.2 x hx
 have hcs:∀(G':Gh)(w':World)(o:Nat->cS),ax G w G' w'->du G' w' o (List.replicate c0.toNat z).flatten ((List.replicate c0.toNat v.cells.toList).flatten).toArray:=by
  intro G' w' o _
  have eo:∀(j:Nat)(x:AV)(y:Value),((List.replicate c0.toNat z).flatten)[j]? =some x->((List.replicate c0.toNat v.cells.toList).flatten)[j]? =some y->cR y x=true:=by
   intro j x y hx hy
   have hjz:(List.replicate c0.toNat z).flatten=(List.range (c0.toNat*z.length)).map fun i=>z.getD (i % z.length) .undef:=Ak .undef z c0.toNat
   have hjv:(List.replicate c0.toNat v.cells.toList).flatten=(List.range (c0.toNat*z.length)).map fun i=>v.cells.toList.getD (i % z.length) undef:=by rw[Ak undef,ja]
   rw[hjz,List.getElem?_map]at hx
   rw[hjv,List.getElem?_map]at hy
   cases hrg:(List.range (c0.toNat*z.length))[j]? with
   |none=>rw[hrg]at hx;cases hx
   |some q=>
    rw[hrg]at hx hy
    simp only[Option.map_some,Option.some.injEq]at hx hy
    have hzp:0<z.length:=by
     rcases Nat.eq_zero_or_pos z.length with h0|h0
     ·rw[h0]at hrg;simp at hrg
     ·exact h0
    have hlt:=Nat.mod_lt q hzp
    refine h5 (q % z.length) x y ?_ ?_
    ·rw[<-hx];simp[List.getD_eq_getElem?_getD,hlt]
    ·rw[<-hy]
     have nu:q % z.length<v.cells.size:=by have:=Wn.1;omega
     simp[List.getD_eq_getElem?_getD,nu]
  refine⟨by simp[ja],fun j x y hx hy=>?_⟩
  have:=eo j x y hx (by simpa using hy)
  exact⟨uH this w' G'.R,FA this G' w' _⟩
 obtain⟨G',g1,g2⟩:=h.Rz hd (t:=e) (.inr ⟨l0.toNat,c0.toNat,rfl,rfl⟩) hcs hfl
 intro pos after g next Q hn
 refine aX (v:=.slice (some ⟨w.heap.size,0,none⟩) l0.toNat c0.toNat) (w':=w.alloc (.cells ((List.replicate c0.toNat v.cells.toList).flatten).toArray e)) ?_ (hn G' _ _ _ g1 g2 (q4 w.heap.size (h.store.get_none h.aS)))
 have:=run_makeSlice (k:=k) (k':=k') (dw he) h1 h2 (by rw[h3];simpa using ja) (by omega) q1 q2 (by rw[h7];exact q3) w
 simp[execOp,e1,e2,this]
theorem On(h:Inv G n D E a w){op:Op}{ty:TypeId}{d:Option Nat}{K:St->Prop}(hd:bp n d=true)(hc:ao P op ty .makeMap=true)(hw:jf P .makeMap d E K):ri P G n D w a op ty d K:=by
 cases op<;>first|(simp[ao]at hc;done)|skip
 rename_i t r
 cases r with
 |some r=>simp[ao]at hc
 |none=>
 have hp:=(gL h.aS (.map #[] 0) .sh 0).2.1
 have hs:aP (G.sk w.heap.size .sh 0) (w.alloc (.map #[] 0)) (E.s.set w.heap.size (.map [])):=by
  intro b o hb
  unfold ab.set at hb
  by_cases he:b=w.heap.size
  ·rw[if_pos he]at hb
   injection hb with hb
   subst hb;subst he
   exact⟨by simp,by simp,#[],0,heap_alloc_new w _,rfl,fun j x y hx=>by simp at hx⟩
  ·rw[if_neg he]at hb
   exact ng h.store h.aS _ .sh 0 b o hb
 obtain⟨h1,h2⟩:=h.alloc (.map #[] 0) .sh 0 d hd (.mp w.heap.size) (.map (some w.heap.size)) E.lp hs (fun _ hx=>hx) (fun i t' _ ht=>ht.elim) (fun i t' _⟨cs',DK⟩=>by cases DK)
  (fun i hi=>⟨.mp _,trivial⟩)
 intro pos after g next Q hn
 refine aX (v:=.map (some w.heap.size)) (w':=w.alloc (.map #[] 0)) ?_ (hn _ _ _ _ (by cases d<;>exact h1) h2 (hw w.heap.size (h.store.get_none h.aS)))
 simp[execOp,Instr.makeMap]
end
end Go.AB
end
