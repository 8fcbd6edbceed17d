/- A part. -/
import Derived.Test.YtgecakgfnjkkbaaGreatRt6
import Derived.Lib.Builder
import Derived.Tactics
import Derived.Scope
import Derived.LoopN
import Derived.ScopeJumps
set_option linter.defProp false
set_option linter.unusedSimpArgs false
set_option linter.unusedVariables false
section
namespace Go.AB
open Go
section
variable{P:Program}{G G':Gh}{n:Nat}{D:List Deferred}{E:St}{a:Act}{w w':World}
def VR.XX{R:Nat->Nat}{t:Nat}{cs:List AV}{v:Value}(h:VR w R (.bb t 0 cs) v):v=.slice none 0 0:=by cases h with|bb _ _ _ _ h h0=>exact h0 rfl
def VR.Uo{R:Nat->Nat}{t n:Nat}{cs:List AV}{v:Value}(h:VR w R (.bb t n cs) v):VR w R (.sl true 1 n cs) v:=by cases h;assumption
def Inv.ahh(h:Inv G n D E a w){d:Option Nat}(hd:bq n d=true){m cap:Nat}{cs:List AV}{c:Array Value}{t:TypeId}{ob:dh}(hm0:0<m)(hob:∀i,d=some i->ob=.slot i 0)(aks:d=none->ob=.none)
 (hl:cs.length=m*1)(fh:m<=cap)(hsz:c.size=cap*1)(hfl:Fl cs)
 (hcs:∀(j:Nat)(x:AV),cs[j]? =some x->∃y,c[j]? =some y/\VR w G.R x y)(fz:Nat×Nat)(hfz:(∀k,k<c.size->¬(fz.1<=k/\k<fz.2))/\fz.1<=fz.2)(hz0:fz=(0,0)\/(0<m/\∃x,c[0]? =some (.int .u8 x)))(hsp:∀(k:Nat)(y:Value),m*1<=k->c[k]? =some y->y.oneCell'=true):
 ∃G',Inv G' n D (E.put d (.bb t m cs)) (a.put d (.slice (some ⟨w.heap.size,0,none⟩) m cap)) (w.alloc (.cells c t fz))/\aI G w G' (w.alloc (.cells c t fz)):=by
 have hp:=(fR h.bc (.cells c t fz) ob cs.length).2.1
 obtain⟨h1,h2⟩:=h.alloc (.cells c t fz) ob cs.length d hd (.bb t m cs) (.slice (some ⟨w.heap.size,0,none⟩) m cap) E.lp (k9 h.store h.bc _ ob cs.length) (fun _ hx=>hx) (fun i t' _ ht=>ht.elim)
  (fun i t' _⟨cs',zJ⟩=>A_)
  (fun i hi=>by
    refine⟨?_,?_⟩
    ·refine .bb t m cs _ (.sl true 1 m cs w.heap.size 0 cap (fun j=>c.getD j undef) hfl hl BY fh (fun j x hj=>?_) (fun j x hj=>?_)) (fun e=>AT)
     ·obtain⟨y,hy,_⟩:=hcs j x hj
      rw[Nat.zero_add,cell_of_row _ (heap_alloc_new w _),hy]
      simp_all
     ·obtain⟨y,hy,hv⟩:=hcs j x hj
      have:c.getD j undef=y:=H_
      rw[this]
      exact hp.vr h.bc hv
    ·intro base m' cQ hv hc
     injection hv with e1 e2 e3
     exact⟨w.heap.size,0,c,fz,e1.symm,H_,by simp[hl],heap_alloc_new w _,A_,hfz.1,hfz.2,rfl,hz0,fun k y hk=>hsp k y AT⟩)
 exact⟨_,Ξ,h2⟩
def Inv.abZ(h:Inv G n D E a w){d:Option Nat}(hd:bq n d=true){b off k m cap:Nat}{c:Array Value}{t:TypeId}{fz:Nat×Nat}{cs ds:List AV}{v:Value}{news:List Value}{R:Nat->Nat}
 (hb:w.heap[b]? =some (.cells c t fz))(hfz:(∀j,j<c.size->¬(fz.1<=j/\j<fz.2))/\fz.1<=fz.2)(hof:off=0)(hz0:fz=(0,0)\/(0<k/\0<1/\∃x,c[0]? =some (.int .u8 x)))(hsp:∀(i:Nat)(y:Value),off+k*1<=i->c[i]? =some y->y.oneCell'=true)(ho:∀i,d=some i->G.O b=.slot i 0)(hon:G.O b≠.none/\G.O b≠.frame/\G.O b≠.sh/\(∀i,G.O b≠.loc i)/\(∀i j,G.O b≠.cell i j)/\(∀i j,G.O b=.slot i j->d=some i/\j=0))
 (hR:G.R b=off+k*1)(hsz:c.size=off+cap*1)(fh:k+m<=cap)(hkm:0<k+m)(hlc:cs.length=k*1)(hat:At w G.R b off cs)(hs:Src P w R 1 m ds v news)(hRR:R=G.R):
 ∃G',Inv G' n D (E.put d (.bb t (k+m) (cs++ds))) (a.put d (.slice (some ⟨b,off,none⟩) (k+m) cap)) (w.setRow b (laid c (off+k*1) news))/\aI G w G' (w.setRow b (laid c (off+k*1) news)):=by
 subst hRR
 have dE:off+k*1+news.length<=c.size:=by
  rw[hs.len,hsz,Nat.add_assoc,<-Nat.add_mul]
  exact Nat.add_le_add_left (Nat.mul_le_mul_right _ fh) _
 let G':=G.pR b (G.O b) (off+(k+m)*1)
 have hmul:(k+m)*1=k*1+m*1:=Nat.add_mul ..
 have bK:aI G w G' (w.setRow b (laid c (off+k*1) news)):=aI.write hb ⟨hon.2.1,hon.1⟩
  (fun j hj=>by rw[hR]at hj;rw[lO _ _ _ dE,if_neg AT]) (by simp only[G',Gh.abp,if_true,hR,hmul];omega) (fun b' hb'=>c_)
 have ks:cq G' (w.setRow b (laid c (off+k*1) news)):=by
  have hlt:b<w.heap.size:=h.bc.lt hon.1
  refine⟨fun b' hb'=>?_,fun b' hb'=>?_⟩
  ·have vB:w.heap.size<=b':=Δ
   have:b'≠b:=AT
   simp[G',this,h.bc.jI b' vB]
  ·have vB:w.heap.size<=b':=Δ
   have:b'≠b:=AT
   simp[G',this,h.bc.jY b' vB]
 have same:∀b',b'≠b->G'.O b'=G.O b'/\G'.R b'=G.R b'/\(w.setRow b (laid c (off+k*1) news)).heap[b']? =w.heap[b']? :=fun b' hb'=>⟨c_,c_,setRow_other w b b' _ hb'⟩
 have ez:=h.store.mono h.bc bK (fun b' hb'=>by
  grind) (fun b' c' j _ hc'=>by
  grind)
 have:=h.put (s':=E.s) (lp':=E.lp) d (fun i hi=>IF) (.bb t (k+m) (cs++ds)) (.slice (some ⟨b,off,none⟩) (k+m) cap) ks bK ez (fun _ hx=>hx) (fun i t _ ht=>ht.elim) (fun i t _⟨cs',zJ⟩=>by cases zJ)
  (fun i b' hdi hb'=>same b' (fun e=>A_))
  (fun i b' c' j hdi hb' hc'=>A_)
  (fun i hi=>by
    obtain⟨u,u1,u2,u3⟩:=hat
    subst hi
    refine⟨?_,?_⟩
    ·have hll:(cs++ds).length=(k+m)*1:=by rw[List.length_append,hlc,hs.qt,hmul]
     refine .bb t (k+m) (cs++ds) _ (.sl true 1 (k+m) (cs++ds) b off cap (fun j=>if j<k*1 then u j else news.getD (j -k*1) undef) (fun x hx=>?_) hll (by rw[hll];simp[G']) fh (fun j x hj=>?_) (fun j x hj=>?_)) (fun e=>AT)
     ·rcases List.mem_append.1 hx with hx|hx
      ·exact u3 x hx
      ·exact hs.fl x hx
     ·rw[uw hb,if_pos rfl,lO _ _ _ dE]
      have hjl:j<(k+m)*1:=by rw[<-hll];exact(List.getElem?_eq_some_iff.1 hj).1
      by_cases hjk:j<k*1
      ·rw[if_neg AT,if_pos hjk]
       grind [List.getElem?_append_left,cell_of_row]
      ·have h1:=hs.len
       grind
     ·by_cases hjk:j<k*1
      ·rw[if_pos hjk]
       rw[List.getElem?_append_left A_]at hj
       exact bK.vr h.bc (u2 j x hj)
      ·rw[if_neg hjk]
       rw[List.getElem?_append_right A_,hlc]at hj
       have h1:=hs.len
       have h2:=hs.qt
       have hlt:j -k*1<news.length:=Θ
       have hn:news[j -k*1]? =some (news.getD (j -k*1) undef):=by rw[List.getD_eq_getElem?_getD,List.getElem?_eq_getElem hlt];rfl
       exact bK.vr h.bc (hs.lV _ x _ hj hn)
    ·intro base m' cQ hv hc
     injection hv with e1 e2 e3
     subst e3
     exact⟨b,off,_,fz,e1.symm,by simp only[G',Gh.Wg,if_true];grind,by simp[G'],setRow_heap w b c _ t fz hb,by grind [qY],by rw[qY _ _ _ dE];exact⟨hfz.1,hfz.2,hof,hz0.imp id fun⟨z1,z2,x,z3⟩=>⟨AT,x,by
      have zp:0<k*1:=Nat.mul_pos z1 z2
      rw[lO _ _ _ dE,if_neg AT];exact z3⟩,fun i y hi hy=>by
      rw[lO _ _ _ dE]at hy
      split at hy
      ·exact hs.one _ (List.mem_of_getElem? hy)
      grind⟩⟩)
 exact⟨G',Xc3,bK⟩
theorem KL(h:Inv G n D E a w){op:Op}{ty:TypeId}{tb:Nat}{x y:IX}{d:Option Nat}{K:St->Prop}(hd:bq n d=true)(hc:aw P op ty (.pT tb x y)=true)(hw:ju P (.pT tb x y) d E K):pM P G n D w a op ty d K:=by
 cases op<;>first|(simp[aw]at hc;done)|skip
 rename_i c
 simp only[aw]at hc
 split at hc<;>try(cases hc;done)
 rename_i u v t t' hb
 have hce:=qm hb
 subst hce
 simp only[Bool.and_eq_true]at hc
 obtain⟨⟨hu,hv⟩,hc⟩:=hc
 split at hc<;>try(cases hc;done)
 rename_i e ht
 have ht:=de ht
 simp only[Bool.and_eq_true]at hc
 obtain⟨⟨⟨⟨hs,hby⟩,hzl⟩,ht'⟩,heb⟩:=hc
 obtain rfl:e=tb:=A_
 obtain⟨i,z,hi,hz,hzs,hz1⟩:=ES hzl
 obtain⟨i',hi',qR⟩:=lx hs
 rw[hi]at hi';injection hi' with hi';subst hi'
 have jW:0<1:=Nat.one_pos
 have yj:0<1:=Nat.one_pos
 have hby:i.bytes=1:=by
  unfold lE at hby
  rw[hi]at hby
  simpa using hby
 have ht2:(∃e',P.underlying t'=some (.slice e'))\/P.underlying t'=some .string:=by
  rcases Bool.or_eq_true .. ▸ht' with h|h
  ·grind [cV,de]
  ·grind [zc]
 have hw':th e E x d K (E.x x) (E.x y):=hw
 have key:∃k m cs ds news,E.x x=.bb e k cs/\Src P w G.R 1 m ds (a.eval v) news/\(k+m)*1<=room/\K ((E.drain x).put d (.bb e (k+m) (cs++ds))):=by
  have hbx:=XR.aQ h hu
  have hby:=XR.aQ h hv
  generalize hx:E.x x=xv at hw' hbx
  generalize hy:E.x y=yv at hw' hby
  unfold th at hw'
  split at hw'<;>try(exact hw'.elim)
  ·rename_i t' k cs o s' m ds
   obtain⟨rfl,h2,h3,h4⟩:=hw'
   obtain⟨news,eI⟩:=Src.aaP (P:=P) hby h2
   grind
  ·rename_i t' k cs ds
   obtain⟨rfl,h3,h4⟩:=hw'
   have e1:=VR.gm hby
   exact⟨k,ds.length,cs,_,_,rfl,by rw[e1];exact Src.Jg,h3,h4⟩
 obtain⟨k,m,cs,ds,news,hx,eI,cg,hk⟩:=key
 have hiv:dF (E.x x)=true:=by rw[hx];rfl
 obtain⟨G1,h1,hp1,hv1,vZ,hR1,hsh,Q1,dG⟩:=h.drain hu hiv (BN d) Γ Γ
 rw[hx]at hv1 vZ
 have qS:Src P w G1.R 1 m ds (a.eval v) news:=by rw[hR1];exact eI
 have grow:∀(base:Option Addr)(cap:Nat)(olds:List Value),a.eval u=.slice base k cap->cap<k+m->olds.length=k*1->cs.length=k*1->Fl cs->
  (Builtin.firstCells 1 k (.slice base k cap)).run P w.drew=.ok olds.toArray w.drew->(∀(j:Nat)(c:AV)(u:Value),cs[j]? =some c->olds[j]? =some u->VR w G1.R c u)->
  pM P G n D w a (.call {callee:=.builtin .append,args:= #[u,v],argTypes:= #[t,t']}) ty d K:=by
  intro base cap olds e1 C6 hol hcl hcf hold tL
  have bU:=ss (ty:=ty) ht ht2 hi hz qR qS hold C6 A_ A_
  have hge:k+m<=grownCap w (k+m) cap e:=grownCap_ge w (k+m) cap e
  obtain⟨G2,h3,h4⟩:=(h1.drew).ahh (t:=e) (c:=olds.toArray++news.toArray++Builtin.zeroCells z.cells (grownCap w (k+m) cap e -(k+m))) (m:=k+m) (cs:=cs++ds) (cap:=grownCap w (k+m) cap e) (ob:=match d with|some i=>.slot i 0|none=>.none) hd AT
   (fun i hi=>by subst hi;rfl) (fun hn=>by subst hn;rfl) (by rw[List.length_append,hcl,eI.qt,Nat.add_mul]) hge (by
     simp only[Array.size_append,List.size_toArray,size_zeroCells,hol,eI.len,hzs,<-Nat.add_mul]
     grind) (fun c hc=>by
     rcases List.mem_append.1 hc with hc|hc
     ·exact hcf c hc
     ·exact eI.fl c hc)
   (fun j x hj=>by
     have hl1:=eI.len
     have hl2:=eI.qt
     by_cases hjk:j<k*1
     ·rw[List.getElem?_append_left A_]at hj
      have hlt:j<olds.length:=by rw[hol];exact hjk
      refine⟨olds[j],?_,?_⟩
      ·grind
      ·exact(aI.drew G1 w).vr h1.bc (tL j x _ hj (List.getElem?_eq_getElem hlt))
     ·rw[List.getElem?_append_right A_,hcl]at hj
      have hlt:j -k*1<news.length:=Θ
      refine⟨news[j -k*1],?_,?_⟩
      ·grind
      ·exact(aI.drew G1 w).vr h1.bc (qS.lV _ x _ hj (List.getElem?_eq_getElem hlt))) (0,0) ⟨fun k _ hk=>by simp at hk,Nat.le_refl _⟩ (.inl rfl) (fun i y hi hy=>by
     rw[Array.append_assoc,<-Array.append_assoc,Array.getElem?_append_right (by simp only[Array.size_append,List.size_toArray,hol,eI.len,<-Nat.add_mul];exact hi)]at hy
     grind [wB,List.mem_of_getElem?])
  intro pos after gd next Q hn
  refine aX ?_ (hn G2 _ _ _ h3 (hp1.trans ((aI.drew G1 w).trans h4)) hk)
  simp[execOp,resolve,invoke,builtin,e1,bU]
 rcases VR.gR (VR.Uo hv1)with⟨e0,rfl,rfl⟩|⟨b,off,cap,e1,hcl,hRb,fh,hat⟩
 ·
  have e1:=e0.own
  by_cases hm:m=0
  ·subst hm
   have hds:ds=[]:=List.eq_nil_of_length_eq_zero o_
   subst hds
   have bU:=ov (ty:=ty) ht ht2 hi qR qS
   have tK:Inv G1 n D ((E.drain x).put d (.bb e 0 [])) (a.put d (.slice none 0 0)) w:=by
    have:=h1.put (s':=(E.drain x).s) (lp':=(E.drain x).lp) d (fun i hi=>IF) (.bb e 0 []) (.slice none 0 0) h1.bc (aI.refl G1 w) h1.store (fun _ hx=>hx) (fun i t _ ht=>ht.elim) (fun i t _⟨cs,hcs⟩=>O_)
     (fun _ _ _ _=>⟨rfl,rfl,rfl⟩) (fun _ _ _ _ _ _ hcc=>⟨hcc,rfl,rfl⟩) (fun i hdi=>⟨.bb _ _ _ _ (.slnil _ _) (fun _=>rfl),fun base m' cQ hv hc=>A_⟩)
    cases d<;>exact this
   intro pos after gd next Q hn
   refine aX (w':=w) ?_ (hn G1 _ _ _ tK hp1 hk)
   simp[execOp,resolve,invoke,builtin,e1,bU]
  ·exact grow none 0 [] e1 AT BY BY Fl.nil d_ (fun j c u hc=>NK)
 ·by_cases dE:k+m<=cap
  ·by_cases hm:m=0
   ·subst hm
    have hds:ds=[]:=List.eq_nil_of_length_eq_zero o_
    have vY:news=[]:=List.eq_nil_of_length_eq_zero ψ
    subst hds;subst vY
    have bU:=jd (ty:=ty) (w:=w) ht ht2 hi qR qS (b:=b) (off:=off) (k:=k) (cap:=cap) dE (w':=w) rfl
    simp only[List.append_nil,Nat.add_zero]at hk bU
    have tK:Inv G1 n D ((E.drain x).put d (.bb e k cs)) (a.put d (a.eval u)) w:=by
     have:=h1.put (s':=(E.drain x).s) (lp':=(E.drain x).lp) d (fun i hi=>IF) (.bb e k cs) (a.eval u) h1.bc (aI.refl G1 w) h1.store (fun _ hx=>hx) (fun i t _ ht=>ht.elim) (fun i t _⟨cs,hcs⟩=>O_)
      (fun _ _ _ _=>⟨rfl,rfl,rfl⟩) (fun _ _ _ _ _ _ hcc=>⟨hcc,rfl,rfl⟩) (fun i hdi=>by subst hdi;exact⟨hv1,vZ⟩)
     cases d<;>exact this
    intro pos after gd next Q hn
    refine aX (w':=w) ?_ (hn G1 _ _ _ tK hp1 hk)
    simp[execOp,resolve,invoke,builtin,e1,bU]
   ·obtain⟨b',Rm,c,fz,q1,q2,q3,q4,q5,q6⟩:=vZ _ _ _ e1 AT
    injection q1 with q1;injection q1 with q1 q1'
    subst q1;subst q1'
    have hon:G1.O b≠.none/\G1.O b≠.frame/\G1.O b≠.sh/\(∀i,G1.O b≠.loc i)/\(∀i j,G1.O b≠.cell i j)/\(∀i j,G1.O b=.slot i j->d=some i/\j=0):=by
     rw[q2]
     cases d with
     |none=>simp[BN]
     |some i=>grind [BN]
    obtain⟨G2,h3,h4⟩:=h1.abZ (k:=k) (m:=m) hd q4 ⟨q6.1,q6.2.1⟩ q6.2.2.1 (q6.2.2.2.1.imp id fun⟨z1,z2⟩=>⟨z1,jW,z2⟩) q6.2.2.2.2 (fun i hi=>by subst hi;exact q2) hon q3 q5 dE AT hcl hat qS rfl
    have TW:off+k*1+news.length<=c.size:=by
     rw[eI.len,q5,Nat.add_assoc,<-Nat.add_mul]
     exact Nat.add_le_add_left (Nat.mul_le_mul_right _ dE) _
    have ez:=dJ (P:=P) b (off+k*1) e fz news 0 c w q4 q6.1 A_ eI.one
    have bU:=jd (ty:=ty) (w:=w) ht ht2 hi qR qS (b:=b) (off:=off) (k:=k) (cap:=cap) dE (w':=w.setRow b (laid c (off+k*1) news)) ξ
    intro pos after gd next Q hn
    refine aX ?_ (hn G2 _ _ _ h3 (hp1.trans h4) hk)
    simp[execOp,resolve,invoke,builtin,e1,bU]
  ·have hfl:Fl cs:=l7
   obtain⟨us,u1,u2,u3⟩:=hat.lV
   exact grow _ cap us e1 AT θ hcl hfl (run_firstCells_some w.drew 1 k ⟨b,off,none⟩ k cap us θ u2) u3
end
section
variable{P:Program}{G G':Gh}{n:Nat}{D:List Deferred}{E:St}{a:Act}{w w':World}
theorem ba.shape{s:ae}(h:ba G w s){b:Nat}{cs:List AV}(hs:s b=some (.cells cs)):∃t,w.shape? b=some (t,cs.length)/\Gk t cs:=by
 obtain⟨_,_,c,t,h4,h5,h6⟩:=h b _ hs
 exact⟨t,by simp[World.shape?,h4,h5.1],h6⟩
theorem XR.ref(h:Inv G n D E a w){y:Operand}{x:IX}(hy:bN y x=true){b off:Nat}(hx:E.x x=.ref b off):a.eval y=.pointer (some ⟨b,off,none⟩):=by
 have:=XR.aQ h hy
 rw[hx]at this
 exact VR.gG this
theorem Tl(h:Inv G n D E a w){op:Op}{ty:TypeId}{m t0 j0 u0:Nat}{x:IX}{d:Option Nat}{K:St->Prop}(hd:bq n d=true)(hc:aw P op ty (.Ki m t0 j0 u0 x)=true)(hw:ju P (.Ki m t0 j0 u0 x) d E K):pM P G n D w a op ty d K:=by
 cases op<;>first|(simp[aw]at hc;done)|skip
 rename_i t y
 simp only[aw,Bool.and_eq_true,beq_iff_eq]at hc
 obtain⟨⟨rfl,_⟩,hc⟩:=hc
 obtain⟨hi,_,hj0,hj1,hk⟩:=hw
 have hvr:VR w G.R (E.x x) (a.eval y):=by
  have:=XR.aQ h hc
  generalize E.x x=av at hi this
  cases av<;>first|exact this|(simp[dF]at hi)
 have dv:=iM hi hvr
 have hj:j0+1<(cellsOf (E.x x)).length:=(List.getElem?_eq_some_iff.1 hj1).1
 have hcs:∀(G':Gh)(w':World)(o:Nat->dh),aI G w G' w'->dY G' w' o (setAt (views (cellsOf (E.x x))) j0 [.oQ t0,.bb u0 0 []]) (a.eval y).cells:=by
  intro G' w' o hp
  have hlen:j0+[AV.oQ t0,AV.bb u0 0 []].length<=(views (cellsOf (E.x x))).length:=by simp[views];omega
  refine⟨by rw[mH _ _ _ hlen];simp only[List.length_map,views];exact dv.1,fun j c u hcj hu=>?_⟩
  rw[oK _ _ _ _ hlen]at hcj
  by_cases h1:j=j0
  ·subst h1
   rw[if_pos ⟨Nat.le_refl _,BY⟩,Nat.sub_self]at hcj
   injection hcj with hcj;subst hcj
   have hu':=dv.2.1 j .fM u hj0 hu
   obtain rfl:u=.pointer none:=VR.tN hu'
   exact⟨.oQ t0,trivial⟩
  ·by_cases h2:j=j0+1
   ·subst h2
    rw[if_pos ⟨AT,BY⟩,show j0+1 -j0=1 by omega]at hcj
    injection hcj with hcj;subst hcj
    have hu':=dv.2.1 _ _ u hj1 hu
    have e:u=.slice none 0 0:=by cases hu' with|bb _ _ _ _ h h0=>exact h0 rfl
    subst e
    exact⟨.bb _ _ _ _ (.slnil _ _) (fun _=>rfl),fun base m' cQ hv hc=>by injection hv with _ e2 e3;omega⟩
   ·rw[if_neg C_,fx]at hcj
    cases hz:(cellsOf (E.x x))[j]? with
    |none=>rw[hz]at hcj;cases hcj
    |some c0=>
     rw[hz]at hcj;simp at hcj
     have h1:=hp.vr h.bc (dv.2.1 j c0 u hz hu)
     rw[<-hcj]
     exact⟨h1.view,dI.view ..⟩
 have hfl:Gk t0 (setAt (views (cellsOf (E.x x))) j0 [.oQ t0,.bb u0 0 []]):=by
  intro c hc'
  unfold setAt at hc'
  simp only[List.mem_append]at hc'
  have base:=dv.2.2.views
  rcases hc' with(hc'|hc')|hc'
  ·exact .inl (base c (List.mem_of_mem_take hc'))
  ·simp only[List.mem_cons,List.not_mem_nil,or_false]at hc'
   rcases hc' with rfl|rfl
   ·exact .inr rfl
   ·exact .inl rfl
  ·exact .inl (base c (List.mem_of_mem_drop hc'))
 intro pos after g next Q hn
 obtain⟨G',h1,h2⟩:=h.aaH hd (t:=t0) (.inl ⟨rfl,rfl⟩) hcs hfl
 refine aX ?_ (hn G' _ _ _ h1 h2 (hk w.heap.size (h.store.get_none h.bc)))
 simp[execOp,Instr.box,newVar,newRow]
end
section
variable{P:Program}{G G':Gh}{n:Nat}{D:List Deferred}{E:St}{a:Act}{w w':World}
def Inv.Og(h:Inv G n D E a w){d:Option Nat}(hd:bq n d=true){av:AV}{v:Value}(hv:NR G w E a av v):Inv G n D ((ch E av d).put d av) (a.put d v) w:=by
 have hd':∀i,d=some i->i<n:=fun i hi=>IF
 by_cases hlp:∃t off,av=.lp t off
 ·obtain⟨t,off,rfl⟩:=hlp
  cases d with
  |none=>exact h
  |some i=>
   obtain⟨b,hv1,hv2⟩:=hv
   refine h.put (lp':=(i,t)::E.lp) (some i) hd' (.lp t off) v h.bc (aI.refl G w) h.store (fun x hx=>List.mem_cons_of_mem _ hx) (fun j t' hj ht=>?_) (fun j t' _⟨cs,hcs⟩=>A_)
    (fun _ _ _ _=>⟨rfl,rfl,rfl⟩) (fun _ _ _ _ _ _ hcc=>⟨hcc,rfl,rfl⟩) (fun j hj=>?_)
   ·injection hj with hj;have:t=t':=ht
    grind
   ·injection hj with hj;refine⟨b,hv1,fun cs hcs=>?_⟩
    by_cases hit:i=t
    ·grind [St.put,bj]
    ·simp[St.put,bj,hit]at hcs
     grind [Act.put,Array.getElem?_setIfInBounds_ne]
 ·have hnr:dF av=true/\VR w G.R av v/\view av=av:=by
   cases av<;>first|exact hv|grind
  have hl:ch E av d=E:=by cases av<;>first|rfl|exact(hlp ⟨_,_,rfl⟩).elim|grind [absurd,dF]
  rw[hl]
  have:=h.put d hd' av v h.bc (aI.refl G w) h.store (fun _ hx=>hx) (fun i t _ ht=>(fp hnr.1 t ht).elim) (fun i t _⟨cs,hcs⟩=>(og hnr.1 cs hcs).elim)
   (fun _ _ _ _=>⟨rfl,rfl,rfl⟩) (fun _ _ _ _ _ _ hcc=>⟨hcc,rfl,rfl⟩) (fun i hi=>by grind [dZ.si,dI.view])
  cases d<;>exact this
def Inv.YF(h:Inv G n D E a w){d:Option Nat}(hd:bq n d=true):Inv G n D (E.put d (.iJ [])) (a.put d undef) w:=by
 have:=h.put d (fun i hi=>IF) (.iJ []) undef h.bc (aI.refl G w) h.store (fun _ hx=>hx) (fun i t _ ht=>ht.elim) (fun i t _⟨cs,hcs⟩=>A_)
  (fun _ _ _ _=>⟨rfl,rfl,rfl⟩) (fun _ _ _ _ _ _ hcc=>⟨hcc,rfl,rfl⟩) (fun i hi=>⟨#[],rfl,rfl,fun j x y hx=>BY⟩)
 cases d<;>exact this
theorem QP(h:Inv G n D E a w){op:Op}{ty:TypeId}{f:Nat}{x:IX}{d:Option Nat}{K:St->Prop}(hd:bq n d=true)(hc:aw P op ty (.AI f x)=true)(hw:ju P (.AI f x) d E K):pM P G n D w a op ty d K:=by
 cases op<;>first|(simp[aw]at hc;done)|skip
 rename_i c
 obtain⟨callee,ys,ats⟩:=c
 simp only[aw]at hc
 split at hc<;>try(cases hc;done)
 rename_i g
 simp only[Bool.and_eq_true,beq_iff_eq]at hc
 obtain⟨rfl,hxs⟩:=hc
 obtain⟨hi,hid,hk⟩:=(show M3 P f E d K (E.x x) from hw)
 obtain⟨l⟩:=ys
 match l,hxs with
 |[y],hxs=>
  have hy:bN y x=true:=by simpa[gZ]using hxs
  have hvr:VR w G.R (E.x x) (a.eval y):=by
   have:=XR.aQ h hy
   generalize E.x x=av at hi this
   cases av<;>first|exact this|grind [dF]
  have hiv:dF (view (E.x x))=true:=by generalize E.x x=av at hi;cases av<;>simp_all [dF,view]
  have hvv:view (view (E.x x))=view (E.x x):=by generalize E.x x=av;cases av<;>rfl
  intro pos after gd next Q hn
  refine aX (v:=a.eval y) ?_ (hn G _ _ _ (h.Og hd (NR.mk hiv hvr.view hvv)) (aI.refl G w) ?_)
  ·have bU:=hid (a.eval y) w
   simp[execOp,resolve,Act.eval,Deferred.ofValue,invoke]at bU⊢
   grind
  ·have e:ch E (view (E.x x)) d=E:=by
    generalize E.x x=av at hi
    cases av<;>cases d<;>first|rfl|grind [dF]
   grind
 |[],hxs=>simp[gZ]at hxs
 |_::_::_,hxs=>simp[gZ]at hxs
theorem Tn(h:Inv G n D E a w){op:Op}{ty:TypeId}{x:IX}{d:Option Nat}{K:St->Prop}(hd:bq n d=true)(hc:aw P op ty (.KA x)=true)(hw:ju P (.KA x) d E K):pM P G n D w a op ty d K:=by
 cases op<;>first|(simp[aw]at hc;done)|skip
 simp only[aw,Bool.and_eq_true]at hc
 obtain⟨⟨hy,hs⟩,ht⟩:=hc
 have hw':Pb E d K (E.x x):=hw
 generalize hxv:E.x x=xv at hw'
 unfold Pb at hw'
 split at hw'
 ·rename_i b off
  have e1:=XR.ref h hy hxv
  generalize hsb:E.s b=ob at hw'
  unfold Tb at hw'
  split at hw'
  ·obtain⟨hlt,hk⟩:=hw'
   obtain⟨t',hsh,_⟩:=h.store.shape hsb
   split at hs<;>try(cases hs;done)
   rename_i e hse
   split at hs<;>try(cases hs;done)
   rename_i j hj
   split at ht<;>try(cases ht;done)
   rename_i htu
   have bU:=Lib.run_to_unsafe (P:=P) w ⟨b,off,none⟩ hse htu hj A_ hsh hlt
   intro pos after g next Q hn
   refine aX ?_ (hn G _ _ _ (h.Og hd (NR.mk rfl (.ref b off) rfl)) (aI.refl G w) hk)
   simp[execOp,e1,bU]
  grind
 grind
theorem Tm(h:Inv G n D E a w){op:Op}{ty:TypeId}{u:Nat}{x:IX}{d:Option Nat}{K:St->Prop}(hd:bq n d=true)(hc:aw P op ty (.Kz u x)=true)(hw:ju P (.Kz u x) d E K):pM P G n D w a op ty d K:=by
 cases op<;>first|(simp[aw]at hc;done)|skip
 simp only[aw,Bool.and_eq_true]at hc
 obtain⟨⟨hy,hs⟩,ht⟩:=hc
 have hw':Pa P u E d K (E.x x):=hw
 generalize hxv:E.x x=xv at hw'
 unfold Pa at hw'
 split at hw'
 ·rename_i b off
  have e1:=XR.ref h hy hxv
  generalize hsb:E.s b=ob at hw'
  unfold Ta at hw'
  split at hw'
  ·obtain⟨t0,hct,hl,hk⟩:=hw'
   obtain⟨t',hsh,hfl⟩:=h.store.shape hsb
   have:t'=t0:=by
    rcases hfl _ (List.mem_of_getElem? hct)with h1|h1
    ·cases h1
    ·grind
   subst this
   split at hs<;>try(cases hs;done)
   rename_i hse
   split at ht<;>try(cases ht;done)
   rename_i e hte
   simp only[Bool.and_eq_true,beq_iff_eq]at ht
   obtain⟨rfl,hj⟩:=ht
   obtain⟨j,hj⟩:=Option.isSome_iff_exists.1 hj
   have bU:=Lib.run_from_unsafe (P:=P) w ⟨b,off,none⟩ hse hte hj hsh hl
   intro pos after g next Q hn
   refine aX ?_ (hn G _ _ _ (h.Og hd (NR.mk rfl (.ref b off) rfl)) (aI.refl G w) hk)
   simp[execOp,e1,bU]
  grind
 grind
def Ro(h:Inv G n D E a w){op:Op}{ty:TypeId}{o:rF}{d:Option Nat}{K:St->Prop}(hd:bq n d=true)(hc:aw P op ty o=true)(hw:owp P o d E K):pM P G n D w a op ty d K:=by
 unfold owp at hw
 cases hp:pv o (xg true E) E with
 |c8 av=>
  rw[hp]at hw
  obtain⟨v,hr,hnr⟩:=yV h hc (.inl hp)
  exact fun pos after g next Q hn=>aX (hr d pos after g) (hn G _ _ _ (h.Og hd hnr) (aI.refl G w) hw)
 |prt c av=>
  rw[hp]at hw
  obtain⟨v,hr,hnr⟩:=yV h hc (.inr ⟨c,hp,hw.1⟩)
  exact fun pos after g next Q hn=>aX (hr d pos after g) (hn G _ _ _ (h.Og hd hnr) (aI.refl G w) hw.2)
 |no=>
  rw[hp]at hw
  have hw':ju P o d E K:=hw
  cases o with
  |px tr x=>grind [Xk]
  |kj z=>grind [Gt]
  |nv z=>exact(Gt h hd).2 hc hw'
  |Kg m x=>grind [Pg]
  |Bq m x=>exact(Pg h hd).2 hc hw'
  |ik sz m z ps=>grind [KN]
  |store m p v=>grind [QU]
  |append sz by' x y=>grind [Nh]
  |kP x=>grind [Nk]
  |call f args=>grind [KO]
  |lP sz by' z l c=>grind [Nn]
  |makeMap=>grind [KP]
  |iL x args=>grind [QQ]
  |lookup kk z ok x k=>grind [Nl]
  |mapUpdate kk x k v=>grind [E9]
  |oY x=>grind [Nj]
  |vJ x=>grind [Tp]
  |mV sz m z ps=>grind [Iw]
  |nU sz by' z x y=>grind [KJ]
  |pU sz by' z x y=>grind [KM]
  |Kh sz m x=>grind [Tk]
  |Ki m t j u x=>grind [Tl]
  |pT t x y=>grind [KL]
  |KA x=>grind [Tn]
  |AI f x=>grind [QP]
  |Kz u x=>grind [Tm]
  |AL sz x y=>grind [QR]
  |tx z x=>grind [Ni]
  |WD sz ow x=>grind [Xj]
  |A9 sz ow x=>grind [QT]
  |nK x=>grind [Gw]
  |nL off j x=>grind [QS]
  |eqN ne x=>grind [Xi]
  |ovl f x y=>grind [Xl]
  |xU f i args=>grind [QO]
  |_=>exact hw'.elim
def BM(P:Program)(ops:Array Oper)(o:Oper)(a:Act)(w:World)(next:Act->World->Prop)(Q:Exit->Act->World->Prop):Prop:=if Region.wanted o (yielded ops a.tmps)then o.wp P a w next Q\/(o.asks P a w/\LetsOut Q)else next (a.put o.dst undef) w
def DF{ops:Array Oper}{o:Oper}{next:Act->World->Prop}{Q:Exit->Act->World->Prop}(hw:Region.wanted o (yielded ops a.tmps)=true)(h:o.wp P a w next Q):BM P ops o a w next Q:=by unfold BM;grind
def Hr{ops:Array Oper}{o:Oper}{next:Act->World->Prop}{Q:Exit->Act->World->Prop}(hw:Region.wanted o (yielded ops a.tmps)=false)(h:next (a.put o.dst undef) w):BM P ops o a w next Q:=by unfold BM;grind
def KG(h:Inv G n D E a w){d:Option Nat}(hd:bq n d=true)(av:AV)(hl:∀t,bO av t->∀i,d=some i->(i,t)∈E.lp):Inv G n D (E.put d (.when false av)) (a.put d undef) w:=by
 have:=h.put d (fun i hi=>IF) (.when false av) undef h.bc (aI.refl G w) h.store (fun _ hx=>hx) (fun i t hi ht=>hl t ht i hi) (fun i t _⟨cs,hcs⟩=>A_)
  (fun _ _ _ _=>⟨rfl,rfl,rfl⟩) (fun _ _ _ _ _ _ hcc=>⟨hcc,rfl,rfl⟩) (fun i hi=>⟨fun hh=>Bool.noConfusion hh,fun _=>rfl⟩)
 cases d<;>exact this
theorem jH(E:St):∀(av:AV)(d:Option Nat),(ch E av d).e=E.e/\(ch E av d).s=E.s/\∀x∈E.lp,x∈(ch E av d).lp
 |.lp t _,some i=>⟨rfl,rfl,fun x hx=>List.mem_cons_of_mem _ hx⟩
 |.lp t _,none=>⟨rfl,rfl,fun _ hx=>hx⟩
 |.when _ av,d=>jH E av d
 |.undef,_|.bool _,_|.int _ _,_|.str _,_|.fM,_|.ref _ _,_|.sp _,_|.loc _,_|.sl _ _ _ _,_|.arr _ _ _ _,_|.agg _,_|.iJ _,_|.fn _ _ _,_|.pP,_|.mp _,_|.uf,_|.us _ _ _,_|.one,_|.oQ _,_|.mw,_|.bb _ _ _,_=>⟨rfl,rfl,fun _ hx=>hx⟩
def UP(h:Inv G n D E a w)(av:AV)(d:Option Nat):Inv G n D (ch E av d) a w:=by
 obtain⟨e1,e2,e3⟩:=jH E av d
 exact⟨h.bc,by rw[e2];exact h.store,h.size,fun i v hv=>by rw[e1];exact h.cH i v hv,fun i hi=>by rw[e1];exact h.E6 i hi,fun i t ht=>e3 _ (h.MG i t A_),h.qL⟩
def z8:∀(av:AV)(d:Option Nat)(t:Nat),bO av t->∀i,d=some i->(i,t)∈(ch E av d).lp
 |.lp t' off,_,t,ht,i,rfl=>by have:=ht;subst this;exact List.mem_cons_self
 |.when _ av,d,t,ht,i,hi=>z8 av d t ht i hi
 |.undef,_,_,ht,_,_|.bool _,_,_,ht,_,_|.int _ _,_,_,ht,_,_|.str _,_,_,ht,_,_|.fM,_,_,ht,_,_|.ref _ _,_,_,ht,_,_|.sp _,_,_,ht,_,_|.loc _,_,_,ht,_,_|.sl _ _ _ _,_,_,ht,_,_
 |.arr _ _ _ _,_,_,ht,_,_|.agg _,_,_,ht,_,_|.iJ _,_,_,ht,_,_|.fn _ _ _,_,_,ht,_,_|.pP,_,_,ht,_,_|.mp _,_,_,ht,_,_|.uf,_,_,ht,_,_|.us _ _ _,_,_,ht,_,_|.one,_,_,ht,_,_|.oQ _,_,_,ht,_,_|.mw,_,_,ht,_,_|.bb _ _ _,_,_,ht,_,_=>ht.elim
def Inv.uE{d:Option Nat}{av:AV}(h:Inv G n D (E.put d av) a w)(hd:bq n d=true):Inv G n D (E.put d (.when true av)) a w:=by
 cases d with
 |none=>exact h
 |some i=>
 have hlk:∀k,k≠i->look (E.put (some i) (.when true av)).e k=look (E.put (some i) av).e k:=fun k hk=>by simp[St.put,bj,Ne.symm hk]
 have e1:look (E.put (some i) av).e i=av:=Z_
 have e2:look (E.put (some i) (.when true av)).e i=.when true av:=Z_
 have Q1:∀d' cs,look (E.put (some i) (.when true av)).e d'=.loc cs->look (E.put (some i) av).e d'=.loc cs:=A_
 have fr:∀k av' u,dZ G w (E.put (some i) av).e a.tmps k av' u->dZ G w (E.put (some i) (.when true av)).e a.tmps k av' u:=fun k av' u hv=>dZ.frame (fun _ _ hv=>hv) (fun b _=>⟨rfl,rfl,rfl⟩) (fun _ _ _ _ hc=>⟨hc,rfl,rfl⟩) _ _ (fun d' _ cs hcs=>⟨cs,Q1 d' cs hcs,rfl⟩) hv
 refine⟨h.bc,h.store,h.size,fun k u hu=>?_,fun k hk=>?_,fun k t ht=>?_,h.qL⟩
 ·have hs:=h.cH k u hu
  by_cases hk:k=i
  ·subst hk
   rw[e1]at hs
   rw[e2]
   exact⟨fun _=>fr _ _ _ hs,fun hh=>Bool.noConfusion hh⟩
  grind
 ·have:k≠i:=by
   have:=by simpa[bq]using hd
   omega
  rw[hlk k this];exact h.E6 k hk
 ·by_cases hk:k=i
  ·subst hk
   rw[e2]at ht
   exact h.MG k t (by rw[e1];exact ht)
  ·rw[hlk k hk]at ht;exact h.MG k t ht
theorem xF{ops:Array Oper}{tmps:Array Value}{j t:Nat}(h:(ops[j]?).bind (·.dst)=some t):yielded ops tmps j=(match tmps[t]? with|some (.bool b)=>some b|_=>none):=by grind [yielded]
def C0{ops:Array Oper}{o:Oper}{j t:Nat}{want b:Bool}(hg:o.guard=some (j,want))(ht:(ops[j]?).bind (·.dst)=some t)(hv:a.tmps[t]? =some (.bool b)):Region.wanted o (yielded ops a.tmps)=(b==want):=by grind [Region.wanted,xF]
def JI(h:Inv G n D E a w){t:Nat}(hl:look E.e t≠.undef):∃v,a.tmps[t]? =some v/\dZ G w E.e a.tmps t (look E.e t) v:=by
 have hlt:t<a.tmps.size:=by rw[h.size];exact h.Dz hl
 exact⟨_,gw hlt,h.cH t _ (gw hlt)⟩
def iu(h:Inv G n D E a w){ops:Array Oper}{o:Oper}{o':ar}{K:St->Prop}(hc:iW P n ops o o'=true)(hw:MF P o' E K){next:Act->World->Prop}{Q:Exit->Act->World->Prop}
 (hn:∀G' E' a' w',Inv G' n D E' a' w'->aI G w G' w'->K E'->next a' w'):BM P ops o a w next Q:=by
 obtain⟨dst,op,ty,pos,after,g⟩:=o
 obtain⟨d,io,ig⟩:=o'
 simp only[iW,Bool.and_eq_true,beq_iff_eq]at hc
 obtain⟨⟨⟨rfl,hd⟩,hcg⟩,ab7⟩:=hc
 have runs:∀{E₁:St},Inv G n D E₁ a w->owp P io dst E₁ K->(⟨dst,op,ty,pos,after,g⟩:Oper).wp P a w next Q:=fun h1 ho=>Ro h1 hd ab7 ho pos after g next Q hn
 cases ig with
 |none=>
  cases g with
  |some g=>simp[WY]at hcg
  |none=>exact DF rfl (runs h hw)
 |some tw=>
  obtain⟨t,want⟩:=tw
  cases g with
  |none=>simp[WY]at hcg
  |some jw=>
  obtain⟨j,HS⟩:=jw
  simp only[WY,Bool.and_eq_true,beq_iff_eq]at hcg
  obtain⟨rfl,ht⟩:=hcg
  have hw':zH P io dst t HS E K (look E.e t):=hw
  have skip:∀{E₁:St},Inv G n D E₁ a w->K (E₁.put dst (.iJ []))->next (a.put dst undef) w:=fun h1 hk=>hn G _ _ _ (h1.YF hd) (aI.refl G w) hk
  have core:∀(g:Bool),Region.wanted ⟨dst,op,ty,pos,after,some (j,HS)⟩ (yielded ops a.tmps)=g->Si P g io E dst K (pv io (xg g E) E)->BM P ops ⟨dst,op,ty,pos,after,some (j,HS)⟩ a w next Q:=by
   intro g hwt hx
   cases g with
   |true=>
    refine DF hwt ?_
    cases hp:pv io (xg true E) E with
    |c8 av=>
     rw[hp]at hx
     obtain⟨v,hr,hnr⟩:=yV h ab7 (av:=av) (.inl hp)
     refine aX (hr _ _ _ _) (hn G _ _ _ ((h.Og hd hnr).uE hd) (aI.refl G w) hx)
    |prt c av=>
     rw[hp]at hx
     obtain⟨v,hr,hnr⟩:=yV h ab7 (av:=av) (.inr ⟨c,hp,hx.1 rfl⟩)
     refine aX (hr _ _ _ _) (hn G _ _ _ ((h.Og hd hnr).uE hd) (aI.refl G w) hx.2)
    |no=>
     rw[hp]at hx
     exact runs h (hx.1 rfl)
   |false=>
    refine Hr hwt ?_
    cases hp:pv io (xg false E) E with
    |c8 av=>
     rw[hp]at hx
     exact hn G _ _ _ (KG (UP h av dst) hd av (fun t' ht' i hi=>z8 av dst t' ht' i hi)) (aI.refl G w) hx
    |prt c av=>
     rw[hp]at hx
     exact hn G _ _ _ (KG (UP h av dst) hd av (fun t' ht' i hi=>z8 av dst t' ht' i hi)) (aI.refl G w) hx.2
    |no=>
     rw[hp]at hx
     exact skip h (hx.2 rfl)
  cases hlk:look E.e t with
  |bool b=>
   rw[hlk]at hw'
   obtain⟨v,hv1,hv2⟩:=JI h (t:=t) A_
   rw[hlk]at hv2
   have:=VR.gF hv2.1
   subst this
   exact core _ (C0 rfl ht hv1) hw'
  | «when» b' g=>
    rw[hlk]at hw'
    obtain⟨v,hv1,hv2⟩:=JI h (t:=t) A_
    rw[hlk]at hv2
    cases g with
    |bool b=>
     have hx:Si P (b'&&(b==HS)) io E dst K (pv io (xg (b'&&(b==HS)) E) E):=hw'
     cases b' with
     |true=>
      have hvb:=hv2.1 rfl
      have:=VR.gF hvb.1
      subst this
      exact core _ (C0 rfl ht hv1) hx
     |false=>
      have:=hv2.2 rfl
      grind [Region.wanted,yielded,xF]
    |_=>exact hw'.elim
  |iJ vs=>
   rw[hlk]at hw'
   cases vs with
   |cons _ _=>exact hw'.elim
   |nil=>
    obtain⟨v,hv1,hv2⟩:=JI h (t:=t) A_
    rw[hlk]at hv2
    obtain⟨ys,rfl,_⟩:=hv2
    have hwt:Region.wanted ⟨dst,op,ty,pos,after,some (j,HS)⟩ (yielded ops a.tmps)=false:=by
     unfold Region.wanted
     simp only[xF ht,hv1]
     rfl
    exact Hr hwt (skip h hw')
  |_=>rw[hlk]at hw';exact hw'.elim
end
section
variable{P:Program}{G G':Gh}{n:Nat}{D:List Deferred}{E:St}{a:Act}{w w':World}
def rA{ops:Array Oper}{Q:Exit->Act->World->Prop}{K:St->Prop}(G₀:Gh)(w₀:World)
 (hn:∀G' E' a' w',Inv G' n D E' a' w'->aI G₀ w₀ G' w'->K E'->Q .normal a' w'):∀(l:List Oper)(l':List ar)(G:Gh)(E:St)(a:Act)(w:World),cI P n ops l l'=true->Inv G n D E a w->aI G₀ w₀ G w->swp P l' E K->wpList P ops Q l a w
 |[],[],G,E,a,w,_,h,hp,hk=>hn G E a w h hp hk
 |o::l,o'::l',G,E,a,w,hc,h,hp,hk=>by
  simp[cI,Bool.and_eq_true]at hc
  exact iu h hc.1 hk fun G' E' a' w' h1 h2 h3=>rA G₀ w₀ hn l l' G' E' a' w' hc.2 h1 (hp.trans h2) h3
 |[],_::_,_,_,_,_,hc,_,_,_=>by simp[cI]at hc
 |_::_,[],_,_,_,_,hc,_,_,_=>by simp[cI]at hc
theorem Hg(e:List (Nat×AV))(i:Nat):∀(live:List Nat),look (live.map fun j=>(j,ed (look e j))) i=if i∈live then ed (look e i)else .undef
 |[]=>rfl
 |j::live=>by
  rw[List.map_cons,bj,Hg e i live]
  grind
theorem zD(av:AV)(t:Nat):¬bO (ed av) t:=by cases av<;>simp[ed,bO]
theorem Inv.xc(h:Inv G n D E a w)(live:List Nat):Inv G n D (E.xc live) a w:=by
 have hl:∀i,look (E.xc live).e i=if i∈live then ed (look E.e i)else .undef:=fun i=>Hg E.e i live
 have hu:∀i v,dZ G w (E.xc live).e a.tmps i .undef v:=fun i v=>⟨.undef _,trivial⟩
 refine⟨h.bc,h.store,h.size,fun i v hv=>?_,fun i hi=>?_,fun i t ht=>?_,h.qL⟩
 ·rw[hl i]
  by_cases hi:i∈live
  ·rw[if_pos hi]
   have hs:=h.cH i v hv
   generalize look E.e i=av at hs
   have fr:∀av,(∀t,¬bO av t)->dZ G w E.e a.tmps i av v->dZ G w (E.xc live).e a.tmps i av v:=fun av hno hs=>dZ.frame (fun _ _ hv=>hv) (fun b _=>⟨rfl,rfl,rfl⟩) (fun _ _ _ _ hc=>⟨hc,rfl,rfl⟩) _ _ (fun t ht=>(hno t ht).elim) hs
   cases av<;>first|exact hu i v|exact fr _ (fun t ht=>ht) hs
  grind
 ·rw[hl i]
  by_cases hi':i∈live
  ·rw[if_pos hi',h.E6 i hi];rfl
  grind
 ·rw[hl i]at ht
  by_cases hi:i∈live
  ·grind [zD]
  ·rw[if_neg hi]at ht;exact ht.elim
def Dw(e:List (Nat×AV))(i:Nat):∀(live:List (Nat×Bool)),look (live.map fun p=>(p.1,Wo p.2 (ed (look e p.1)))) i=.undef\/look (live.map fun p=>(p.1,Wo p.2 (ed (look e p.1)))) i=ed (look e i)\/look (live.map fun p=>(p.1,Wo p.2 (ed (look e p.1)))) i=view (ed (look e i))
 |[]=>.inl rfl
 |p::live=>by
  rw[List.map_cons,bj]
  by_cases h:p.1=i
  ·rw[if_pos h,h]
   cases p.2 with
   |false=>exact .inr (.inl rfl)
   |true=>exact .inr (.inr rfl)
  ·rw[if_neg h];exact Dw e i live
theorem dZ.aiy{e:List (Nat×AV)}{tmps:Array Value}{i:Nat}{av:AV}{v:Value}(h:dZ G w e tmps i av v):dZ G w e tmps i (view av) v:=by cases av<;>first|exact h|exact⟨VR.undef _,trivial⟩|exact⟨VR.view h.1,dI.view ..⟩
theorem Zw(av:AV)(h:∀t,¬bO av t)(t:Nat):¬bO (view av) t:=by cases av<;>first|exact h t|exact fun h=>h
theorem Inv.fk(h:Inv G n D E a w)(live:List (Nat×Bool)):Inv G n D (E.fk live) a w:=by
 have fr:∀i v,a.tmps[i]? =some v->dZ G w (E.fk live).e a.tmps i (ed (look E.e i)) v:=fun i v hv=>by
  have hs:=h.cH i v hv
  generalize look E.e i=av at hs
  have fr:∀av,(∀t,¬bO av t)->dZ G w E.e a.tmps i av v->dZ G w (E.fk live).e a.tmps i av v:=fun av hno hs=>dZ.frame (fun _ _ hv=>hv) (fun b _=>⟨rfl,rfl,rfl⟩) (fun _ _ _ _ hc=>⟨hc,rfl,rfl⟩) _ _ (fun t ht=>(hno t ht).elim) hs
  cases av<;>first|exact⟨.undef _,trivial⟩|exact fr _ (fun t ht=>ht) hs
 have hl:=fun i=>Dw E.e i live
 refine⟨h.bc,h.store,h.size,fun i v hv=>?_,fun i hi=>?_,fun i t ht=>?_,h.qL⟩
 ·rcases hl i with e|e|e
  ·have e':look (E.fk live).e i=.undef:=e
   rw[e'];exact⟨.undef _,trivial⟩
  ·have e':look (E.fk live).e i=ed (look E.e i):=e
   grind
  ·have e':look (E.fk live).e i=view (ed (look E.e i)):=e
   grind [dZ.aiy]
 ·rcases hl i with e|e|e
  ·exact e
  ·have e':look (E.fk live).e i=ed (look E.e i):=e
   rw[e',h.E6 i hi];rfl
  ·have e':look (E.fk live).e i=view (ed (look E.e i)):=e
   rw[e',h.E6 i hi];rfl
 ·have ht':=ht
  rcases hl i with e|e|e
  ·have e':look (E.fk live).e i=.undef:=e
   rw[e']at ht';exact ht'.elim
  ·have e':look (E.fk live).e i=ed (look E.e i):=e
   grind [zD]
  ·have e':look (E.fk live).e i=view (ed (look E.e i)):=e
   grind [Zw,zD]
def ZG(P:Program)(n:Nat):Prop:=
 ∀(D:List Deferred)(draw:Bool)(id:Nat)(ops:Array Oper)(bQ:List ar)(q:Nat)(G:Gh)(E:St)(a:Act)(w:World)(K:St->Prop)(Q:Exit->Act->World->Prop),
  cI P n ops ops.toList bQ=true->(draw=true->OZ ops q bQ=true)->Inv G n D E a w->qwp P q bQ E K->
  (∀G' E' a' w',Inv G' n D E' a' w'->aI G w G' w'->K E'->Q .normal a' w')->(Code.region id ops draw).wp P Q a w
def ZH(P:Program)(n:Nat):Prop:=
 ∀(D:List Deferred)(draw:Bool)(id:Nat)(ops:Array Oper)(bQ:List ar)(T:List Nat)(q:Nat)(G:Gh)(E:St)(a:Act)(w:World)(K:St->Prop)(Q:Exit->Act->World->Prop),
  cI P n ops ops.toList bQ=true->(draw=true->Ig T ops q bQ=true)->Inv G n D E a w->kF T E.e=true->Fz P T q bQ E K->
  (∀G' E' a' w',Inv G' n D E' a' w'->aI G w G' w'->K E'->Q .normal a' w')->(Code.region id ops draw).wp P Q a w
def ZF(P:Program)(n:Nat):Prop:=
 ∀(D:List Deferred)(id:Nat)(ops:Array Oper)(T:List Nat)(l:List Item)(G:Gh)(E:St)(a:Act)(w:World)(K:St->Prop)(Q:Exit->Act->World->Prop),
  abF P T n ops l=true->Inv G n D E a w->kF T E.e=true->ME P T l E K->
  (∀G' E' a' w',Inv G' n D E' a' w'->aI G w G' w'->K E'->Q .normal a' w')->(Code.region id ops true).wp P Q a w
def ZJ(P:Program)(n:Nat):Prop:=
 ∀(D:List Deferred)(id:Nat)(ops:Array Oper)(iH:List (List Bool))(bQ:List ar)(G:Gh)(E:St)(a:Act)(w:World)(K:St->Prop)(Q:Exit->Act->World->Prop),
  cI P n ops ops.toList bQ=true->O3 ops iH=true->Inv G n D E a w->Sa P iH bQ K bQ (xD bQ) E->
  (∀G' E' a' w',Inv G' n D E' a' w'->aI G w G' w'->K E'->Q .normal a' w')->(Code.region id ops true).wp P Q a w
def wE(P:Program)(n:Nat):Prop:=ZG P n/\ZH P n/\ZF P n/\ZJ P n
def Rel(n:Nat)(D:List Deferred)(G₀:Gh)(w₀:World)(Q:Exit->St->Prop)(Q':Exit->Act->World->Prop):Prop:=∀x G' E' a' w',Inv G' n D E' a' w'->aI G₀ w₀ G' w'->Q x E'->Q' x a' w'
def RQ:∀(c:Code){L:List Code}{cr:Code}{l:Nat},Aw c l=some (L,cr)->c=L.foldr Code.seq (.seq (.label l) cr)/\findLabel c l=some (Code.skip.seq cr):=by
 intro c
 induction c with
 |seq s c _ ih=>
  intro L cr l h
  have gen:(∀m,s≠.label m)->(if(findLabel s l).isNone then(Aw c l).map fun p=>(s::p.1,p.2)else none)=some (L,cr)->Code.seq s c=L.foldr Code.seq (.seq (.label l) cr)/\findLabel (Code.seq s c) l=some (Code.skip.seq cr):=by
   intro _ h
   split at h
   ·cases hs:Aw c l with
    |none=>grind
    |some p=>grind [findLabel,Option.isNone_iff_eq_none,q1,q2]
   ·cases h
  cases s with
  |label m=>
   have h:(if m==l then some ([],c)else none)=some (L,cr):=h
   split at h
   ·rename_i hm
    injection h with h;injection h with h1 h2;subst h1;subst h2
    have hm':m=l:=A_
    subst hm'
    exact⟨rfl,by simp[findLabel]⟩
   ·cases h
  |_=>exact gen (fun m e=>A_) h
 |_=>intro L cr l h;cases h
theorem oD{a:IC}(h:xb a=true):a=.skip:=by cases a<;>first|rfl|cases h
def rJ(n:Nat)(D:List Deferred)(G₀:Gh)(w₀:World)(C:(St->Prop)->(St->Nat)->Prop)(a:Act)(w:World)(k:Nat):Prop:=∃I μ G τ,C I μ/\Inv G n D τ a w/\aI G₀ w₀ G w/\I τ/\μ τ<=k
noncomputable def NU(n:Nat)(D:List Deferred)(G₀:Gh)(w₀:World)(C:(St->Prop)->(St->Nat)->Prop)(a:Act)(w:World):Nat:=Classical.epsilon fun k=>rJ n D G₀ w₀ C a w k/\∀j,rJ n D G₀ w₀ C a w j->k<=j
def A8{n:Nat}{D:List Deferred}{G₀:Gh}{w₀:World}{C:(St->Prop)->(St->Nat)->Prop}{a:Act}{w:World}(h:∃k,rJ n D G₀ w₀ C a w k):
 rJ n D G₀ w₀ C a w (NU n D G₀ w₀ C a w)/\∀j,rJ n D G₀ w₀ C a w j->NU n D G₀ w₀ C a w<=j:=by
 refine Classical.epsilon_spec (p:=fun k=>rJ n D G₀ w₀ C a w k/\∀j,rJ n D G₀ w₀ C a w j->k<=j) ?_
 obtain⟨k,hk⟩:=h
 induction k using Nat.strongRecOn with
 |_ k ih=>grind
def cU(hD:wE P n):∀(ic:IC)(c:Code)(G₀:Gh)(w₀:World)(Q:Exit->St->Prop)(Q':Exit->Act->World->Prop)(G:Gh)(E:St)(a:Act)(w:World),
 lZ P n c ic=true->Rel n D G₀ w₀ Q Q'->Inv G n D E a w->aI G₀ w₀ G w->fY P ic Q E->c.wp P Q' a w
 |.skip,c,G₀,w₀,Q,Q',G,E,a,w,hc,hr,h,hp,hw=>by
  cases c<;>first|(simp[lZ]at hc;done)|skip
  exact wp_skip (hr _ G E a w h hp hw)
 |.EX q bQ live,c,G₀,w₀,Q,Q',G,E,a,w,hc,hr,h,hp,hw=>by
  cases c<;>first|(simp[lZ]at hc;done)|skip
  rename_i id ops draw
  simp only[lZ,Bool.and_eq_true]at hc
  have hn:∀G' E' a' w',Inv G' n D E' a' w'->aI G₀ w₀ G' w'->An live Q E'->Q' .normal a' w':=fun G' E' a' w' h1 h2 h3=>hr _ G' _ a' w' (h1.xc live) h2 h3
  cases q with
  |none=>
   have hdr:draw=false:=by simpa using hc.2
   subst hdr
   exact wp_region_list (rA G₀ w₀ hn ops.toList bQ G E a w hc.1 h hp hw)
  |some q=>
   have hdr:draw=true->OZ ops q bQ=true:=fun hd=>A_
   exact hD.1 D draw id ops bQ q G E a w _ Q' hc.1 hdr h hw fun G' E' a' w' h1 h2 h3=>hn G' E' a' w' h1 (hp.trans h2) h3
 |.VE T q bQ live,c,G₀,w₀,Q,Q',G,E,a,w,hc,hr,h,hp,hw=>by
  cases c<;>first|(simp[lZ]at hc;done)|skip
  rename_i id ops draw
  simp only[lZ,Bool.and_eq_true]at hc
  have hn:∀G' E' a' w',Inv G' n D E' a' w'->aI G₀ w₀ G' w'->An live Q E'->Q' .normal a' w':=fun G' E' a' w' h1 h2 h3=>hr _ G' _ a' w' (h1.xc live) h2 h3
  have hdr:draw=true->Ig T ops q bQ=true:=fun hd=>A_
  exact hD.2.1 D draw id ops bQ T q G E a w _ Q' hc.1 hdr h hw.1 hw.2 fun G' E' a' w' h1 h2 h3=>hn G' E' a' w' h1 (hp.trans h2) h3
 |.RD T l live,c,G₀,w₀,Q,Q',G,E,a,w,hc,hr,h,hp,hw=>by
  cases c<;>first|(simp[lZ]at hc;done)|skip
  rename_i id ops draw
  simp only[lZ,Bool.and_eq_true]at hc
  obtain⟨rfl,hc⟩:=hc
  have hn:∀G' E' a' w',Inv G' n D E' a' w'->aI G₀ w₀ G' w'->An live Q E'->Q' .normal a' w':=fun G' E' a' w' h1 h2 h3=>hr _ G' _ a' w' (h1.xc live) h2 h3
  exact hD.2.2.1 D id ops T l G E a w _ Q' hc h hw.1 hw.2 fun G' E' a' w' h1 h2 h3=>hn G' E' a' w' h1 (hp.trans h2) h3
 |.YU iH bQ live,c,G₀,w₀,Q,Q',G,E,a,w,hc,hr,h,hp,hw=>by
  cases c<;>first|(simp[lZ]at hc;done)|skip
  rename_i id ops draw
  simp only[lZ,Bool.and_eq_true]at hc
  obtain⟨rfl,hc1,hc2⟩:=hc
  have hn:∀G' E' a' w',Inv G' n D E' a' w'->aI G₀ w₀ G' w'->An live Q E'->Q' .normal a' w':=fun G' E' a' w' h1 h2 h3=>hr _ G' _ a' w' (h1.xc live) h2 h3
  exact hD.2.2.2 D id ops iH bQ G E a w _ Q' hc1 hc2 h hw fun G' E' a' w' h1 h2 h3=>hn G' E' a' w' h1 (hp.trans h2) h3
 |.seq x y,c,G₀,w₀,Q,Q',G,E,a,w,hc,hr,h,hp,hw=>by
  cases c<;>first|(simp[lZ]at hc;done)|skip
  rename_i c1 c2
  simp only[lZ,Bool.and_eq_true]at hc
  refine wp_seq (cU hD x c1 G₀ w₀ (BW P y Q) _ G E a w hc.1 ?_ h hp ?_)
  ·intro e G' E' a' w' h1 h2 h3
   cases e with
   |normal=>exact cU hD y c2 G₀ w₀ Q Q' G' E' a' w' hc.2 hr h1 h2 h3
   |_=>exact hr _ G' E' a' w' h1 h2 h3
  ·have:(fun x τ=>match x with|.normal=>fY P y Q τ|x=>Q x τ)=BW P y Q:=by
    funext e τ;cases e<;>rfl
   have hw':fY P x (fun x τ=>match x with|.normal=>fY P y Q τ|x=>Q x τ) E:=hw
   grind
 |.cond cx x y,c,G₀,w₀,Q,Q',G,E,a,w,hc,hr,h,hp,hw=>by
  cases c<;>first|(simp[lZ]at hc;done)|skip
  rename_i o c1 c2
  simp only[lZ,Bool.and_eq_true]at hc
  obtain⟨⟨hx,h1⟩,h2⟩:=hc
  have hb:=XR.aQ h hx
  have hw':O7 P x y Q E (E.x cx):=by
   have:fY P (.cond cx x y) Q E=O7 P x y Q E (E.x cx):=by
    show(match E.x cx with|.bool v=>(v=true->fY P x Q E)/\(v=false->fY P y Q E)|_=>False)=_
    cases E.x cx<;>rfl
   rw[<-this];exact hw
  generalize E.x cx=xv at hb hw'
  cases xv<;>try exact hw'.elim
  rename_i v
  have hv:=VR.gF hb
  exact wp_cond_split hv (fun hv=>cU hD x c1 G₀ w₀ Q Q' G E a w h1 hr h hp (hw'.1 hv)) (fun hv=>cU hD y c2 G₀ w₀ Q Q' G E a w h2 hr h hp (hw'.2 hv))
 |.block id x,c,G₀,w₀,Q,Q',G,E,a,w,hc,hr,h,hp,hw=>by
  cases c<;>first|(simp[lZ]at hc;done)|skip
  rename_i id' c1
  simp only[lZ,Bool.and_eq_true,beq_iff_eq]at hc
  obtain⟨rfl,hc⟩:=hc
  refine wp_block (cU hD x c1 G₀ w₀ (Qx id' Q) _ G E a w hc ?_ h hp hw)
  intro e G' E' a' w' h1 h2 h3
  cases e with
  |exit i=>
   have h3':(bif i==id' then Q .normal E' else Q (.exit i) E'):=h3
   by_cases hi:i=id'
   ·have:(i==id')=true:=by simpa using hi
    rw[this]at h3'
    simpa[Exit.inBlock,hi]using hr _ G' E' a' w' h1 h2 h3'
   ·have:(i==id')=false:=by simpa using hi
    rw[this]at h3'
    simpa[Exit.inBlock,hi]using hr _ G' E' a' w' h1 h2 h3'
  |_=>exact hr _ G' E' a' w' h1 h2 h3
 |.loop live x,c,G₀,w₀,Q,Q',G,E,a,w,hc,hr,h,hp,hw=>by
  cases c<;>first|(simp[lZ]at hc;done)|skip
  rename_i c1
  simp only[lZ]at hc
  obtain⟨I,μ,h0,hI⟩:=hw
  have key:∀(m:Nat)(G:Gh)(E:St)(a:Act)(w:World),Inv G n D E a w->aI G₀ w₀ G w->I E->μ E<m->Code.rounds P c1 Q' m a w:=by
   intro m
   induction m with
   |zero=>intro G E a w _ _ _ hm;omega
   |succ m ih=>
    intro G E a w h hp hi hm
    rw[rounds_succ]
    refine cU hD x c1 G₀ w₀ (Hh live I μ (μ E) Q) _ G E a w hc ?_ h hp (hI E hi)
    intro e G' E' a' w' h1 h2 h3
    cases e with
    |normal=>exact ih G' _ a' w' (h1.fk live) h2 h3.1 (by have:=h3.2;omega)
    |_=>exact hr _ G' E' a' w' h1 h2 h3
  exact wp_loop_rounds (μ (E.fk live)+1) (key _ G _ a w (h.fk live) hp h0 AT)
 |.join live x y,c,G₀,w₀,Q,Q',G,E,a,w,hc,hr,h,hp,hw=>by
  cases c<;>first|(simp[lZ]at hc;done)|skip
  rename_i c1 c2
  simp only[lZ,Bool.and_eq_true]at hc
  obtain⟨J,h0,hJ⟩:=hw
  refine wp_seq (cU hD x c1 G₀ w₀ (pX live J Q) _ G E a w hc.1 ?_ h hp h0)
  intro e G' E' a' w' h1 h2 h3
  cases e with
  |normal=>exact cU hD y c2 G₀ w₀ Q Q' G' _ a' w' hc.2 hr (h1.fk live) h2 (hJ _ h3)
  |_=>exact hr _ G' E' a' w' h1 h2 h3
 |.exit id,c,G₀,w₀,Q,Q',G,E,a,w,hc,hr,h,hp,hw=>by
  cases c<;>first|(simp[lZ]at hc;done)|skip
  simp only[lZ,beq_iff_eq]at hc
  subst hc
  exact wp_exit (hr _ G E a w h hp hw)
 |.scope x,c,G₀,w₀,Q,Q',G,E,a,w,hc,hr,h,hp,hw=>by
  cases c<;>first|(simp[lZ]at hc;done)|skip
  rename_i c1
  simp only[lZ]at hc
  have hw':fY P x (xA Q) E:=by
   have:(fun x τ=>match x with|.goto _=>False|x=>Q x τ)=xA Q:=by funext e τ;cases e<;>rfl
   have hw':fY P x (fun x τ=>match x with|.goto _=>False|x=>Q x τ) E:=hw
   rw[this]at hw'
   exact hw'
  refine wp_scope_straight (cU hD x c1 G₀ w₀ (xA Q) _ G E a w hc ?_ h hp hw')
  intro e G' E' a' w' h1 h2 h3
  cases e with
  |goto l=>exact h3
  |_=>exact hr _ G' E' a' w' h1 h2 h3
 |.Er l live x1 x2 x3 y,c,G₀,w₀,Q,Q',G,E,a,w,hc,hr,h,hp,hw=>by
  unfold lZ at hc
  split at hc<;>try(cases hc;done)
  all_goals first|(rename_i he;cases he;done)|skip
  rename_i c1 m al1 x1' x2' x3' y' he
  injection he with e1 e2 e3 e4 e5 e6
  subst e1;subst e2;subst e3;subst e4;subst e5;subst e6
  have hw':fY P x1 (BW P x2 (BW P x3 (JE live (WE P l live y Q) Q))) E:=by rw[<-Na];exact hw
  let C:(St->Prop)->(St->Nat)->Prop:=fun I μ=>∀τ,I τ->fY P y (I0 l live (fun ρ'=>I ρ'/\μ ρ'<μ τ) Q) τ
  have key:∀(L:List Code)(cr:Code),Aw c1 l=some (L,cr)->lZ P n cr y=true->
   (∀Q0:Exit->Act->World->Prop,(∀e a w,e≠.normal->(∃G τ,Inv G n D τ a w/\aI G₀ w₀ G w/\JE live (WE P l live y Q) Q e τ)->Q0 e a w)->
     (∀a w,(∃G τ,Inv G n D τ a w/\aI G₀ w₀ G w/\WE P l live y Q (τ.fk live))->((Code.label l).seq cr).wp P Q0 a w)->(L.foldr Code.seq (.seq (.label l) cr)).wp P Q0 a w)->
   (Code.scope c1).wp P Q' a w:=by
   intro L cr hsp hcr Ny
   obtain⟨hc1,hfl⟩:=RQ _ hsp
   refine wp_scope_jumps l (fun a w=>∃k,rJ n D G₀ w₀ C a w k) (NU n D G₀ w₀ C) hfl ?_ ?_
   ·rw[hc1]
    refine Ny _ (fun e a' w' he⟨G',τ,h1,h2,h3⟩=>?_) (fun a' w'⟨G',τ,h1,h2,h3⟩=>?_)
    ·cases e with
     |goto l=>exact h3.elim
     |normal=>grind
     |_=>exact hr _ G' τ a' w' h1 h2 h3
    ·obtain⟨I,μ,h4,hI⟩:=h3
     refine wp_seq (wp_label ?_)
     refine cU hD y cr G₀ w₀ _ _ G' _ a' w' hcr ?_ (h1.fk live) h2 (hI _ h4)
     intro e G2 σ2 a2 w2 q1 q2 q3
     cases e with
     |goto l=>exact⟨q3.1,_,I,μ,G2,_,hI,q1.fk live,q2,q3.2.1,Nat.le_refl _⟩
     |_=>exact hr _ G2 σ2 a2 w2 q1 q2 q3
   ·intro a' w' hJ
    obtain⟨I,μ,G',τ,hI,h1,h2,h3,h4⟩:=(A8 hJ).1
    refine wp_seq (wp_skip ?_)
    refine cU hD y cr G₀ w₀ _ _ G' τ a' w' hcr ?_ h1 h2 (hI _ h3)
    intro e G2 σ2 a2 w2 q1 q2 q3
    cases e with
    |goto l=>
     have hk:rJ n D G₀ w₀ C a2 w2 (μ (σ2.fk live)):=⟨I,μ,G2,_,hI,q1.fk live,q2,q3.2.1,Nat.le_refl _⟩
     refine⟨q3.1,⟨_,hk⟩,?_⟩
     have:=(A8 ⟨_,hk⟩).2 _ hk
     have:=q3.2.2
     omega
    |_=>exact hr _ G2 σ2 a2 w2 q1 q2 q3
  split at hc
  ·rename_i cr hsp
   simp only[Bool.and_eq_true]at hc
   obtain⟨k1,k2,k3,hcr⟩:=hc
   rw[oD k1,oD k2,oD k3]at hw'
   exact key _ _ hsp hcr fun Q0 _ hb=>hb _ _ ⟨G,E,h,hp,hw'⟩
  ·rename_i s1 cr hsp
   simp only[Bool.and_eq_true]at hc
   obtain⟨k1,k2,k3,hcr⟩:=hc
   rw[oD k2,oD k3]at hw'
   refine key _ _ hsp hcr fun Q0 ha hb=>wp_seq (cU hD x1 s1 G₀ w₀ _ _ G E a w k1 ?_ h hp hw')
   intro e G' E' a' w' h1 h2 h3
   cases e with
   |normal=>exact hb _ _ ⟨G',E',h1,h2,h3⟩
   |_=>exact ha _ _ _ BY ⟨G',E',h1,h2,h3⟩
  ·rename_i s1 s2 cr hsp
   simp only[Bool.and_eq_true]at hc
   obtain⟨k1,k2,k3,hcr⟩:=hc
   rw[oD k3]at hw'
   refine key _ _ hsp hcr fun Q0 ha hb=>wp_seq (cU hD x1 s1 G₀ w₀ _ _ G E a w k1 ?_ h hp hw')
   intro e G' E' a' w' h1 h2 h3
   cases e with
   |normal=>
    refine wp_seq (cU hD x2 s2 G₀ w₀ _ _ G' E' a' w' k2 ?_ h1 h2 h3)
    intro e G' E' a' w' h1 h2 h3
    cases e with
    |normal=>exact hb _ _ ⟨G',E',h1,h2,h3⟩
    |_=>exact ha _ _ _ BY ⟨G',E',h1,h2,h3⟩
   |_=>exact ha _ _ _ BY ⟨G',E',h1,h2,h3⟩
  ·rename_i s1 s2 s3 cr hsp
   simp only[Bool.and_eq_true]at hc
   obtain⟨k1,k2,k3,hcr⟩:=hc
   refine key _ _ hsp hcr fun Q0 ha hb=>wp_seq (cU hD x1 s1 G₀ w₀ _ _ G E a w k1 ?_ h hp hw')
   intro e G' E' a' w' h1 h2 h3
   cases e with
   |normal=>
    refine wp_seq (cU hD x2 s2 G₀ w₀ _ _ G' E' a' w' k2 ?_ h1 h2 h3)
    intro e G' E' a' w' h1 h2 h3
    cases e with
    |normal=>
     refine wp_seq (cU hD x3 s3 G₀ w₀ _ _ G' E' a' w' k3 ?_ h1 h2 h3)
     intro e G' E' a' w' h1 h2 h3
     cases e with
     |normal=>exact hb _ _ ⟨G',E',h1,h2,h3⟩
     |_=>exact ha _ _ _ BY ⟨G',E',h1,h2,h3⟩
    |_=>exact ha _ _ _ BY ⟨G',E',h1,h2,h3⟩
   |_=>exact ha _ _ _ BY ⟨G',E',h1,h2,h3⟩
  ·cases hc
 |.label l,c,G₀,w₀,Q,Q',G,E,a,w,hc,hr,h,hp,hw=>by
  cases c<;>first|(simp[lZ]at hc;done)|skip
  exact wp_label (hr _ G E a w h hp hw)
 |.goto l,c,G₀,w₀,Q,Q',G,E,a,w,hc,hr,h,hp,hw=>by
  cases c<;>first|(simp[lZ]at hc;done)|skip
  simp only[lZ,beq_iff_eq]at hc
  subst hc
  exact wp_goto (hr _ G E a w h hp hw)
 |.dead,c,G₀,w₀,Q,Q',G,E,a,w,hc,hr,h,hp,hw=>(show False from hw).elim
 |.ret,c,G₀,w₀,Q,Q',G,E,a,w,hc,hr,h,hp,hw=>by
  cases c<;>first|(simp[lZ]at hc;done)|skip
  exact wp_ret (hr _ G E a w h hp hw)
end
structure jr where
 t:Nat
 own:Bool
 cell:Option (Nat×Bool):=none
 deriving Inhabited
def VF(multi:Bool):Option (List AV)->AV
 |some cs=>oM multi cs
 |none=>.undef
def ur(E:St)(r:jr):AV:=match r.cell with
 |none=>bif r.own then look E.e r.t else view (look E.e r.t)
 |some (n,multi)=>VF multi (rd E (look E.e r.t) n)
def lq(E:St)(res:List jr):List AV:=res.map (ur E)
def ln(P:Program):List ResultVar->List jr->Bool
 |[],[]=>true
 |.tmp t::r,i::s=>t==i.t&&i.cell.isNone&&(!i.own||s.all fun j=>!(j.own&&j.t==i.t))&&ln P r s
 |.cell t ty::r,i::s=>t==i.t&&!i.own&&(match i.cell with
  |some (n,multi)=>df P ty n&&qG P ty multi&&(multi||n==1)
  |none=>false)&&ln P r s
 |_,_=>false
def sv:Nat->List AV->List (Nat×AV)
 |_,[]=>[]
 |i,a::r=>(i,view a)::sv (i+1) r
def start(args:List AV)(s:ae):St:={e:=sv 0 args,lp:=[],s:=s}
def rL(cs:List AV):Bool:=cs.all dF
def xu(res:List jr)(Q:List AV->ae->Prop):Exit->St->Prop
 |.ret,E=>rL (lq E res)=true/\Q (lq E res) E.s
 |.normal,E=>rL (lq E res)=true/\Q (lq E res) E.s
 |_,_=>False
def ey(P:Program)(f:FuncId)(n:Nat)(res:List jr)(ic:IC):Bool:=match P.funcs[f]? with
 |some fn=>fn.ntmps==n&&ln P fn.results.toList res&&(match fn.body with
  |some c=>lZ P n c ic
  |none=>false)
 |none=>false
section
variable{P:Program}{G G':Gh}{n:Nat}{D:List Deferred}{E:St}{a:Act}{w w':World}
theorem pY(i:Nat):∀(args:List AV)(k:Nat),look (sv k args) i=if k<=i then(match args[i -k]? with|some a=>view a|none=>.undef)else .undef
 |[],k=>by
  show AV.undef=_
  grind
 |a::r,k=>by
  show look ((k,view a)::sv (k+1) r) i=_
  rw[bj,pY i r (k+1)]
  grind
def ry{args:List AV}{s:ae}{vs:Array Value}(hg:cq G w)(hs:ba G w s)(ha:k8 w G.R args vs)(hv:rL args=true)(hn:args.length<=n):
 Inv G n [] (start args s) {tmps:=vs++Array.replicate (n -vs.size) undef,defers:=[]} w:=by
 have hsz:=ha.1
 refine⟨hg,hs,A_,fun i v hi=>?_,fun i hi=>?_,fun i t ht=>?_,rfl⟩
 ·show dZ G w (sv 0 args) _ i (look (sv 0 args) i) v
  rw[pY,Nat.sub_zero]
  cases hai:args[i]? with
  |none=>exact⟨.undef _,trivial⟩
  |some av=>
   have hvi:vs[i]? =some v:=A_
   have hV:=by
    have:=List.all_eq_true.1 hv
    exact this av (List.mem_of_getElem? hai)
   exact dZ.yH hV (ha.2 i av v hai hvi)
 ·show look (sv 0 args) i=.undef
  rw[pY,if_pos (Nat.zero_le _),List.getElem?_eq_none AT]
 ·have ht':bO (look (sv 0 args) i) t:=ht
  rw[pY,Nat.sub_zero]at ht'
  cases hai:args[i]? with
  |none=>rw[hai]at ht';exact ht'.elim
  |some av=>
   have hV:=List.all_eq_true.1 hv av (List.mem_of_getElem? hai)
   grind [fp,lL]
def Me:List jr->Nat->Nat->Option Nat
 |[],_,_=>none
 |r::s,k,i=>bif r.own&&r.t==i then some k else Me s (k+1) i
def DH(G:Gh)(res:List jr):dh->dh
 |.none=>.none
 |.frame=>.frame
 |.sh=>.sh
 |.slot i j=>(match j,Me res 0 i with
  |0,some k=>.res k
  |_,_=>.none)
 |.cell b j=>if G.O b=.sh then .cell b j else .none
 |_=>.none
theorem Hy:∀(vs:List ResultVar)(res:List jr),ln P vs res=true->vs.length=res.length
 |[],[],_=>rfl
 |v::vs,r::res,h=>by
  have:=by cases v<;>simp[ln,Bool.and_eq_true]at h<;>exact h.2
  simp[Hy vs res this]
 |[],_::_,h=>by simp[ln]at h
 |_::_,[],h=>by simp[ln]at h
theorem xt:∀(vs:List ResultVar)(res:List jr)(k j:Nat)(r:jr),ln P vs res=true->res[j]? =some r->r.own=true->Me res k r.t=some (k+j)
 |v::vs,r0::res,k,0,r,_,hj,ho=>by grind [Me]
 |v::vs,r0::res,k,j+1,r,h,hj,ho=>by
  have hj':=by simpa using hj
  have agD:=by cases v<;>simp[ln,Bool.and_eq_true]at h<;>exact h.2
  have hne:(r0.own&&r0.t==r.t)=false:=by
   cases hr0:r0.own with
   |false=>rfl
   |true=>
    cases v with
    |cell=>grind [ln]
    |tmp t=>
    simp[ln]at h
    grind
  show(bif r0.own&&r0.t==r.t then some k else Me res (k+1) r.t)=_
  rw[xt vs res (k+1) j r agD hj' ho]
  grind
 |[],r0::res,_,_,_,h,_,_=>by simp[ln]at h
 |_,[],_,_,_,_,hj,_=>A_
def dZ.Yq{G:Gh}{w:World}{e:List (Nat×AV)}{tmps:Array Value}{i:Nat}{a:AV}{v:Value}(h:dF a=true\/dF (view a)=true):dZ G w e tmps i a v->(VR w G.R a v/\dI G w (.slot i 0) a v):=by cases a<;>simp_all [dF,view,dZ]
def Mf(vs:Array Value):Value:=if h:vs.size=1 then vs[0]else .tuple vs
theorem mapM_some{α β:Type}(f:α->Sem β)(w:World):∀(l:List α)(vs:List β),l.length=vs.length->(∀(j:Nat)(x:α)(v:β),l[j]? =some x->vs[j]? =some v->(f x).run P w=.ok v w)->(l.mapM f).run P w=.ok vs w
 |[],[],_,_=>by rfl
 |x::l,v::vs,hl,h=>by simp[h 0 x v rfl rfl,mapM_some f w l vs A_ (fun j y z hy hz=>h (j+1) y z A_ A_)]
 |[],_::_,hl,_=>by grind
 |_::_,[],hl,_=>A_
def DG(tmps:Array Value):ResultVar->Sem Value
 |.tmp t=>pure (tmps.getD t undef)
 |.cell a t=>do loadVar t (<-asAddr (tmps.getD a undef))
def Mg{fn:Func}(tmps:Array Value)(w:World)(vs:List Value)(hl:fn.results.toList.length=vs.length)(h:∀(j:Nat)(x:ResultVar)(v:Value),fn.results.toList[j]? =some x->vs[j]? =some v->(DG tmps x).run P w=.ok v w):
 (results fn tmps).run P w=.ok (Mf vs.toArray) w:=by
 have e:=mapM_some _ w _ _ hl h
 unfold results
 rw[Array.mapM_eq_mapM_toList]
 have key:∀F,F=DG tmps->(do let vs<-List.toArray<$>fn.results.toList.mapM F;pure (if h:vs.size=1 then vs[0]else .tuple vs)).run P w=.ok (Mf vs.toArray) w:=by
  intro F hF
  subst hF
  simp[Sem.run_bind,Sem.run_map,e]
  rfl
 exact key _ D_
def Ck{fn:Func}{res:List jr}{Q:List AV->ae->Prop}{E':St}{a':Act}(oc:ln P fn.results.toList res=true)(h:Inv G' n D E' a' w')(hp:aI G w G' w')(ee:rL (lq E' res)=true)(hQ:Q (lq E' res) E'.s):
 ∃v,(results fn a'.tmps).run P w'=.ok v w'/\∃v' rs s' G'',Ending.returned v=.returned v'/\Q rs s'/\cq G'' w'/\ba G'' w' s'/\nt G'' w' rs v'/\aI G w G'' w':=by
 let G2:Gh:=⟨G'.R,fun b=>DH G' res (G'.O b)⟩
 have hV:∀(j:Nat)(r:jr),res[j]? =some r->dF (ur E' r)=true:=fun j r hj=>by
  refine List.all_eq_true.1 ee _ ?_
  exact List.mem_map.2 ⟨r,List.mem_of_getElem? hj,rfl⟩
 have hlen:=Hy _ _ oc
 have get:∀(vs:List ResultVar)(rs:List jr),ln P vs rs=true->∀(j:Nat)(x:ResultVar)(r:jr),vs[j]? =some x->rs[j]? =some r->
  (x=.tmp r.t/\r.cell=none)\/∃ty n m,x=.cell r.t ty/\r.cell=some (n,m)/\r.own=false/\df P ty n=true/\qG P ty m=true/\(m||n==1)=true:=by
  intro vs
  induction vs with
  |nil=>grind
  |cons v vs ih=>
   intro rs hh j x r hx hr
   cases rs with
   |nil=>simp at hr
   |cons r0 rs=>
    cases j with
    |succ j=>
     refine ih rs ?_ j x r A_ A_
     cases v<;>simp only[ln,Bool.and_eq_true]at hh<;>exact hh.2
    |zero=>
     simp at hx hr;subst hx;subst hr
     cases v with
     |tmp t=>
      simp only[ln,Bool.and_eq_true,beq_iff_eq]at hh
      simp_all
     |cell t ty=>
      simp only[ln,Bool.and_eq_true,beq_iff_eq]at hh
      grind
 have IK:∀(j:Nat)(x:ResultVar)(r:jr),fn.results.toList[j]? =some x->res[j]? =some r->∃v,(DG a'.tmps x).run P w'=.ok v w'/\VR w' G2.R (ur E' r) v/\dI G2 w' (.res j) (ur E' r) v:=by
  intro j x r hx hj
  have hi:=hV j r hj
  have hlk:look E'.e r.t≠.undef:=by
   intro e
   unfold ur at hi
   rw[e]at hi
   cases hr:r.cell with
   |none=>
    rw[hr]at hi
    cases ho:r.own with
    |true=>rw[ho]at hi;cases hi
    |false=>rw[ho]at hi;cases hi
   |some nm=>rw[hr]at hi;obtain⟨n1,m1⟩:=nm;cases hi
  have hlt:r.t<a'.tmps.size:=by rw[h.size];exact h.Dz hlk
  rcases get _ _ oc j x r hx hj with⟨rfl,dG⟩|⟨ty,n1,m1,rfl,dG,ho,hs1,ha1,h11⟩
  ·refine⟨a'.tmps.getD r.t undef,rfl,?_⟩
   have hi':dF (look E'.e r.t)=true\/dF (view (look E'.e r.t))=true:=by
    unfold ur at hi
    rw[dG]at hi
    cases hr:r.own with
    |true=>grind
    |false=>grind
   have hs:=h.cH r.t _ (gw hlt)
   replace hs:=dZ.Yq hi' hs
   have he:a'.eval (.tmp r.t)=a'.tmps.getD r.t undef:=rfl
   rw[he]at hs
   unfold ur
   rw[dG]
   cases hr:r.own with
   |false=>exact⟨hs.1.view,dI.view ..⟩
   |true=>
    refine⟨hs.1,?_⟩
    have ho:=hs.2
    show dI G2 w' (.res j) (look E'.e r.t) _
    unfold dI at ho⊢
    split
    ·rename_i sz m cs hsl
     rw[hsl]at ho
     intro base m' cap hv hc
     obtain⟨b,off,c,e,fz,q1,q2,q3⟩:=ho base m' cap hv hc
     refine⟨b,off,c,e,fz,q1,?_,q3⟩
     show DH G' res (G'.O b)=.res j
     rw[q2]
     have:=xt fn.results.toList res 0 j r oc hj hr
     simp[DH,this]
    ·rename_i e m cs hsl
     rw[hsl]at ho
     intro base m' cap hv hc
     obtain⟨b,off,c,fz,q1,q2,q3⟩:=ho base m' cap hv hc
     refine⟨b,off,c,fz,q1,?_,q3⟩
     show DH G' res (G'.O b)=.res j
     rw[q2]
     have:=xt fn.results.toList res 0 j r oc hj hr
     simp[DH,this]
    ·trivial
  ·unfold ur at hi⊢
   rw[dG]at hi⊢
   have hb:BR G' w' E' a' (.t r.t) (look E'.e r.t) (a'.tmps.getD r.t undef):=by
    have:=BR.aQ h (o:=.tmp r.t) (x:=.t r.t) (by simp[bN])
    have hun:xg true E' (.t r.t)=vi true (look E'.e r.t):=rfl
    rw[hun]at this
    generalize look E'.e r.t=av at this hi
    cases av<;>first|exact this|(cases hi;done)|trivial
   have hi:dF (VF m1 (rd E' (look E'.e r.t) n1))=true:=hi
   show∃v,_/\VR w' G2.R (VF m1 (rd E' (look E'.e r.t) n1)) v/\dI G2 w' (.res j) (VF m1 (rd E' (look E'.e r.t) n1)) v
   cases hrd:rd E' (look E'.e r.t) n1 with
   |none=>rw[hrd]at hi;cases hi
   |some cs=>
    obtain⟨b,off,e,hl,hat,hvw⟩:=DV h hb hrd
    obtain⟨v,bU,hvr⟩:=qu hs1 ha1 h11 hl hat
    refine⟨v,?_,hvr,?_⟩
    ·show(do loadVar ty (<-asAddr (a'.tmps.getD r.t undef)):Sem Value).run P w'=_
     grind [asAddr]
    ·have Ug:=EJ (multi:=m1) hvw
     show dI G2 w' (.res j) (oM m1 cs) v
     grind [dI.view]
 have agl:∃vs:List Value,fn.results.toList.length=vs.length/\∀(j:Nat)(x:ResultVar)(r:jr)(v:Value),fn.results.toList[j]? =some x->res[j]? =some r->vs[j]? =some v->(DG a'.tmps x).run P w'=.ok v w'/\VR w' G2.R (ur E' r) v/\dI G2 w' (.res j) (ur E' r) v:=by
  have hch:∀j:Fin fn.results.toList.length,∃v,∀(x:ResultVar)(r:jr),fn.results.toList[j.1]? =some x->res[j.1]? =some r->(DG a'.tmps x).run P w'=.ok v w'/\VR w' G2.R (ur E' r) v/\dI G2 w' (.res j.1) (ur E' r) v:=by
   intro j
   have hr:j.1<res.length:=by rw[<-hlen];exact j.2
   obtain⟨v,hv⟩:=IK j.1 _ _ (List.getElem?_eq_getElem j.2) (List.getElem?_eq_getElem hr)
   refine⟨v,fun x r hx hr'=>?_⟩
   rw[List.getElem?_eq_getElem j.2]at hx
   rw[List.getElem?_eq_getElem hr]at hr'
   injection hx with hx;injection hr' with hr'
   subst hx;subst hr'
   exact hv
  refine⟨List.ofFn fun j=>(hch j).choose,BY,fun j x r v hx hr hv=>?_⟩
  have hj:j<fn.results.toList.length:=(List.getElem?_eq_some_iff.1 hx).1
  have:=(hch ⟨j,hj⟩).choose_spec x r hx hr
  simp only[List.getElem?_ofFn,hj,dite_true]at hv
  injection hv with hv
  rw[hv]at this
  exact this
 obtain⟨vs,hvl,hvs⟩:=agl
 refine⟨_,Mg a'.tmps w' vs hvl (fun j x v hx hv=>by
  have hj:j<res.length:=by rw[<-hlen];exact(List.getElem?_eq_some_iff.1 hx).1
  exact(hvs j x _ v hx (List.getElem?_eq_getElem hj) hv).1),?_⟩
 have qU:∀(j:Nat)(r:jr)(v:Value),res[j]? =some r->vs[j]? =some v->VR w' G2.R (ur E' r) v/\dI G2 w' (.res j) (ur E' r) v:=by
  intro j r v hr hv
  have hj:j<fn.results.toList.length:=by rw[hvl];exact(List.getElem?_eq_some_iff.1 hv).1
  exact(hvs j _ r v (List.getElem?_eq_getElem hj) hr hv).2
 have akH:vs.length=res.length:=by rw[<-hvl,hlen]
 refine⟨_,lq E' res,E'.s,G2,rfl,hQ,⟨fun b hb=>?_,h.bc.jY⟩,?_,?_,?_⟩
 ·show DH G' res (G'.O b)=.none
  rw[h.bc.jI b hb];rfl
 ·refine h.store.yI (fun _ _ hv=>hv) (fun b hb=>⟨?_,rfl,rfl⟩) (fun b c j hb hc=>⟨?_,rfl,rfl⟩)
  ·show DH G' res (G'.O b)=.sh
   rw[hb];rfl
  ·show DH G' res (G'.O c)=.cell b j
   rw[hc];simp[DH,hb]
 ·match res,vs,akH,qU with
  |[],[],_,_=>exact⟨#[],rfl,rfl,fun j x y hx=>A_⟩
  |[r],[v],_,qU=>
   have h1:=qU 0 r v rfl rfl
   have h2:=hV 0 r rfl
   show aa8 G2 w' (ur E' r) v
   generalize ur E' r=av at h1 h2
   cases av<;>first|exact h1|cases h2
  |r1::r2::rr,v1::v2::vv,hl2,qU=>
   refine⟨_,rfl,A_,fun j x y hx hy=>?_⟩
   grind
 ·refine⟨hp.os,hp.tape,hp.output,hp.drawn,hp.size,hp.mono,hp.nD,hp.frame,fun b hb ho=>?_,fun b hb ho=>?_⟩
  ·obtain⟨e1,e2⟩:=hp.jF b hb ho
   exact⟨by show DH G' res (G'.O b)=_;rw[e1];rfl,e2⟩
  ·obtain⟨e1,e2⟩:=hp.pZ b hb ho
   exact⟨by show DH G' res (G'.O b)=_;rw[e1];rfl,e2⟩
theorem FN.of{f:FuncId}{res:List jr}{ic:IC}{args:List AV}{s:ae}{Q:List AV->ae->Prop}(hD:wE P n)(hf:ey P f n res ic=true)(hv:rL args=true)(hn:args.length<=n)
 (hw:fY P ic (xu res Q) (start args s)):FN P f args s Q:=by
 intro G w vs hg ho hs ha
 unfold ey at hf
 split at hf<;>try(cases hf)
 rename_i fn hfn
 simp[Bool.and_eq_true,beq_iff_eq]at hf
 obtain⟨⟨rfl,oc⟩,hf⟩:=hf
 split at hf<;>try(cases hf)
 rename_i c hb
 refine calls_of_wp hfn hb (cU hD ic c G w (xu res Q) _ G _ _ w hf ?_ (ry hg hs ha hv hn) (aI.refl G w) hw)
 intro x G' E' a' w' h hp hq
 have fin:rL (lq E' res)=true/\Q (lq E' res) E'.s->a'.defers=[]/\∃v,(results fn a'.tmps).run P w'=.ok v w'/\∃v' rs s' G'',Ending.returned v=.returned v'/\Q rs s'/\cq G'' w'/\ba G'' w' s'/\nt G'' w' rs v'/\aI G w G'' w':=by
  intro hq
  obtain⟨ee,hQ⟩:=hq
  exact⟨h.qL,Ck oc h hp ee hQ⟩
 cases x with
 |ret=>exact fin hq
 |normal=>exact fin hq
 |_=>exact hq.elim
end
end Go.AB
end
