/- A part. -/
import Derived.Test.YtgecakgfnjkkbaaGreatFt6
import Derived.Lib.Builder
import Derived.Tactics
import Derived.Scope
import Derived.LoopN
import Derived.ScopeJumps
set_option linter.unusedSimpArgs false
set_option linter.unusedVariables false
section
namespace Go.AB
open Go
section
variable{P:Program}{G G':Gh}{n:Nat}{D:List Deferred}{E:St}{a:Act}{w w':World}
theorem VR.UG{R:Nat->Nat}{t:Nat}{cs:List AV}{v:Value}(h:VR w R (.bb t 0 cs) v):v=.slice none 0 0:=by cases h with|bb _ _ _ _ h h0=>exact h0 rfl
theorem VR.Q4{R:Nat->Nat}{t n:Nat}{cs:List AV}{v:Value}(h:VR w R (.bb t n cs) v):VR w R (.sl true 1 n cs) v:=by cases h;assumption
theorem Inv.adO(h:Inv G n D E a w){d:Option Nat}(hd:bq n d=true){m cap:Nat}{cs:List AV}{c:Array Value}{t:TypeId}{ob:c5}(hm0:0<m)(hob:∀i,d=some i->ob=.slot i 0)(agS:d=none->ob=.none)
 (hl:cs.length=m*1)(fh:m<=cap)(hsz:c.size=cap*1)(hfl:Fl cs)
 (hcs:∀(j:Nat)(x:AV),cs[j]? =some x->∃y,c[j]? =some y/\VR w G.R x y)(fz:Nat×Nat)(hfz:(∀k,k<c.size->¬(fz.1<=k/\k<fz.2))/\fz.1<=fz.2)(hz0:fz=(0,0)\/(0<m/\∃x,c[0]? =some (.int .u8 x)))(hsp:∀(k:Nat)(y:Value),m*1<=k->c[k]? =some y->y.oneCell'=true):
 ∃G',Inv G' n D (E.put d (.bb t m cs)) (a.put d (.slice (some ⟨w.heap.size,0,none⟩) m cap)) (w.alloc (.cells c t fz))/\aG G w G' (w.alloc (.cells c t fz)):=by
 have hp:=(fq h.ba (.cells c t fz) ob cs.length).2.1
 obtain⟨h1,h2⟩:=h.alloc (.cells c t fz) ob cs.length d hd (.bb t m cs) (.slice (some ⟨w.heap.size,0,none⟩) m cap) E.lp (j9 h.store h.ba _ ob cs.length) (fun _ hx=>hx) (fun i t' _ ht=>ht.elim)
  (fun i t' _⟨cs',x8⟩=>by grind)
  (fun i hi=>by
    refine⟨?_,?_⟩
    ·refine .bb t m cs _ (.sl true 1 m cs w.heap.size 0 cap (fun j=>c.getD j undef) hfl hl (by simp) fh (fun j x hj=>?_) (fun j x hj=>?_)) (fun e=>by omega)
     ·obtain⟨y,hy,_⟩:=hcs j x hj
      rw[Nat.zero_add,cell_of_row _ (heap_alloc_new w _),hy]
      simp_all
     ·obtain⟨y,hy,hv⟩:=hcs j x hj
      have:c.getD j undef=y:=by simp_all
      rw[this]
      exact hp.vr h.ba hv
    ·intro base m' dp hv hc
     injection hv with e1 e2 e3
     exact⟨w.heap.size,0,c,fz,e1.symm,by simp_all,by simp[hl],heap_alloc_new w _,by grind,hfz.1,hfz.2,rfl,hz0,fun k y hk=>hsp k y (by omega)⟩)
 exact⟨_,by cases d<;>exact h1,h2⟩
theorem Inv.YB(h:Inv G n D E a w){d:Option Nat}(hd:bq n d=true){b off k m cap:Nat}{c:Array Value}{t:TypeId}{fz:Nat×Nat}{cs ds:List AV}{v:Value}{news:List Value}{R:Nat->Nat}
 (hb:w.heap[b]? =some (.cells c t fz))(hfz:(∀j,j<c.size->¬(fz.1<=j/\j<fz.2))/\fz.1<=fz.2)(hof:off=0)(hz0:fz=(0,0)\/(0<k/\0<1/\∃x,c[0]? =some (.int .u8 x)))(hsp:∀(i:Nat)(y:Value),off+k*1<=i->c[i]? =some y->y.oneCell'=true)(ho:∀i,d=some i->G.O b=.slot i 0)(hon:G.O b≠.none/\G.O b≠.frame/\G.O b≠.sh/\(∀i,G.O b≠.loc i)/\(∀i j,G.O b≠.cell i j)/\(∀i j,G.O b=.slot i j->d=some i/\j=0))
 (hR:G.R b=off+k*1)(hsz:c.size=off+cap*1)(fh:k+m<=cap)(hkm:0<k+m)(hlc:cs.length=k*1)(hat:At w G.R b off cs)(hs:Src P w R 1 m ds v news)(hRR:R=G.R):
 ∃G',Inv G' n D (E.put d (.bb t (k+m) (cs++ds))) (a.put d (.slice (some ⟨b,off,none⟩) (k+m) cap)) (w.setRow b (laid c (off+k*1) news))/\aG G w G' (w.setRow b (laid c (off+k*1) news)):=by
 subst hRR
 have df:off+k*1+news.length<=c.size:=by
  rw[hs.len,hsz,Nat.add_assoc,<-Nat.add_mul]
  exact Nat.add_le_add_left (Nat.mul_le_mul_right _ fh) _
 let G':=G.nS b (G.O b) (off+(k+m)*1)
 have hmul:(k+m)*1=k*1+m*1:=Nat.add_mul ..
 have bV:aG G w G' (w.setRow b (laid c (off+k*1) news)):=aG.write hb ⟨hon.2.1,hon.1⟩
  (fun j hj=>by rw[hR]at hj;rw[kS _ _ _ df,if_neg (by omega)]) (by simp only[G',Gh.X3,if_true,hR,hmul];omega) (fun b' hb'=>by simp[G',hb'])
 have jE:cq G' (w.setRow b (laid c (off+k*1) news)):=by
  have hlt:b<w.heap.size:=h.ba.lt hon.1
  refine⟨fun b' hb'=>?_,fun b' hb'=>?_⟩
  ·have tL:w.heap.size<=b':=by simpa[World.setRow]using hb'
   have:b'≠b:=by omega
   simp[G',this,h.ba.jJ b' tL]
  ·have tL:w.heap.size<=b':=by simpa[World.setRow]using hb'
   have:b'≠b:=by omega
   simp[G',this,h.ba.kB b' tL]
 have same:∀b',b'≠b->G'.O b'=G.O b'/\G'.R b'=G.R b'/\(w.setRow b (laid c (off+k*1) news)).heap[b']? =w.heap[b']? :=fun b' hb'=>⟨by simp[G',hb'],by simp[G',hb'],setRow_other w b b' _ hb'⟩
 have dZ:=h.store.mono h.ba bV (fun b' hb'=>by
  grind) (fun b' c' j _ hc'=>by
  grind)
 have:=h.put (s':=E.s) (lp':=E.lp) d (fun i hi=>by grind [bq]) (.bb t (k+m) (cs++ds)) (.slice (some ⟨b,off,none⟩) (k+m) cap) jE bV dZ (fun _ hx=>hx) (fun i t _ ht=>ht.elim) (fun i t _⟨cs',x8⟩=>by cases x8)
  (fun i b' hdi hb'=>same b' (fun e=>by grind))
  (fun i b' c' j hdi hb' hc'=>by grind)
  (fun i hi=>by
    obtain⟨u,u1,u2,u3⟩:=hat
    subst hi
    refine⟨?_,?_⟩
    ·have hll:(cs++ds).length=(k+m)*1:=by rw[List.length_append,hlc,hs.oO,hmul]
     refine .bb t (k+m) (cs++ds) _ (.sl true 1 (k+m) (cs++ds) b off cap (fun j=>if j<k*1 then u j else news.getD (j -k*1) undef) (fun x hx=>?_) hll (by rw[hll];simp[G']) fh (fun j x hj=>?_) (fun j x hj=>?_)) (fun e=>by omega)
     ·rcases List.mem_append.1 hx with hx|hx
      ·exact u3 x hx
      ·exact hs.fl x hx
     ·rw[sq hb,if_pos rfl,kS _ _ _ df]
      have hjl:j<(k+m)*1:=by rw[<-hll];exact(List.getElem?_eq_some_iff.1 hj).1
      by_cases hjk:j<k*1
      ·rw[if_neg (by omega),if_pos hjk]
       grind [List.getElem?_append_left,cell_of_row]
      ·have h1:=hs.len
       grind
     ·by_cases hjk:j<k*1
      ·rw[if_pos hjk]
       rw[List.getElem?_append_left (by grind)]at hj
       exact bV.vr h.ba (u2 j x hj)
      ·rw[if_neg hjk]
       rw[List.getElem?_append_right (by grind),hlc]at hj
       have h1:=hs.len
       have h2:=hs.oO
       have hlt:j -k*1<news.length:=by have:=(List.getElem?_eq_some_iff.1 hj).1;omega
       have hn:news[j -k*1]? =some (news.getD (j -k*1) undef):=by rw[List.getD_eq_getElem?_getD,List.getElem?_eq_getElem hlt];rfl
       exact bV.vr h.ba (hs.kZ _ x _ hj hn)
    ·intro base m' dp hv hc
     injection hv with e1 e2 e3
     subst e3
     exact⟨b,off,_,fz,e1.symm,by simp only[G',Gh.Te,if_true];grind,by simp[G'],setRow_heap w b c _ t fz hb,by grind [pH],by rw[pH _ _ _ df];exact⟨hfz.1,hfz.2,hof,hz0.imp id fun⟨z1,z2,x,z3⟩=>⟨by omega,x,by
      have zp:0<k*1:=Nat.mul_pos z1 z2
      rw[kS _ _ _ df,if_neg (by omega)];exact z3⟩,fun i y hi hy=>by
      rw[kS _ _ _ df]at hy
      split at hy
      ·exact hs.one _ (List.mem_of_getElem? hy)
      grind⟩⟩)
 exact⟨G',by cases d<;>exact this,bV⟩
theorem Ie(h:Inv G n D E a w){op:Op}{ty:TypeId}{tb:Nat}{x y:IX}{d:Option Nat}{K:St->Prop}(hd:bq n d=true)(hc:au P op ty (.n9 tb x y)=true)(hw:iP P (.n9 tb x y) d E K):nU P G n D w a op ty d K:=by
 cases op<;>first|(simp[au]at hc;done)|skip
 rename_i c
 simp only[au]at hc
 split at hc<;>try(cases hc;done)
 rename_i u v t t' hb
 have hce:=oI hb
 subst hce
 simp only[Bool.and_eq_true]at hc
 obtain⟨⟨hu,hv⟩,hc⟩:=hc
 split at hc<;>try(cases hc;done)
 rename_i e ht
 have ht:=cV ht
 simp only[Bool.and_eq_true]at hc
 obtain⟨⟨⟨⟨hs,hby⟩,hzl⟩,ht'⟩,heb⟩:=hc
 obtain rfl:e=tb:=by grind
 obtain⟨i,z,hi,hz,hzs,hz1⟩:=Cy hzl
 obtain⟨i',hi',pz⟩:=ku hs
 rw[hi]at hi';injection hi' with hi';subst hi'
 have jo:0<1:=Nat.one_pos
 have wK:0<1:=Nat.one_pos
 have hby:i.bytes=1:=by
  unfold kE at hby
  rw[hi]at hby
  simpa using hby
 have ht2:(∃e',P.underlying t'=some (.slice e'))\/P.underlying t'=some .string:=by
  rcases Bool.or_eq_true .. ▸ht' with h|h
  ·grind [cK,cV]
  ·grind [xC]
 have hw':ru e E x d K (E.x x) (E.x y):=hw
 have key:∃k m cs ds news,E.x x=.bb e k cs/\Src P w G.R 1 m ds (a.eval v) news/\(k+m)*1<=room/\K ((E.drain x).put d (.bb e (k+m) (cs++ds))):=by
  have hbx:=XR.aV h hu
  have hby:=XR.aV h hv
  generalize hx:E.x x=xv at hw' hbx
  generalize hy:E.x y=yv at hw' hby
  unfold ru at hw'
  split at hw'<;>try(exact hw'.elim)
  ·rename_i t' k cs o s' m ds
   obtain⟨rfl,h2,h3,h4⟩:=hw'
   obtain⟨news,dS⟩:=Src.Xp (P:=P) hby h2
   grind
  ·rename_i t' k cs ds
   obtain⟨rfl,h3,h4⟩:=hw'
   have e1:=VR.fJ hby
   exact⟨k,ds.length,cs,_,_,rfl,by rw[e1];exact Src.GF,h3,h4⟩
 obtain⟨k,m,cs,ds,news,hx,dS,bX,hk⟩:=key
 have hiv:dh (E.x x)=true:=by rw[hx];rfl
 obtain⟨G1,h1,hp1,hv1,um,hR1,hsh,Oh,dT⟩:=h.drain hu hiv (zU d) (by cases d<;>simp[zU]) (by cases d<;>simp[zU])
 rw[hx]at hv1 um
 have pA:Src P w G1.R 1 m ds (a.eval v) news:=by rw[hR1];exact dS
 have grow:∀(base:Option Addr)(cap:Nat)(olds:List Value),a.eval u=.slice base k cap->cap<k+m->olds.length=k*1->cs.length=k*1->Fl cs->
  (Builtin.firstCells 1 k (.slice base k cap)).run P w.drew=.ok olds.toArray w.drew->(∀(j:Nat)(c:AV)(u:Value),cs[j]? =some c->olds[j]? =some u->VR w G1.R c u)->
  nU P G n D w a (.call {callee:=.builtin .append,args:= #[u,v],argTypes:= #[t,t']}) ty d K:=by
  intro base cap olds e1 Bc hol hcl hcf hold rQ
  have bR:=qH (ty:=ty) ht ht2 hi hz pz pA hold Bc (by grind) (by grind)
  have hge:k+m<=grownCap w (k+m) cap e:=grownCap_ge w (k+m) cap e
  obtain⟨G2,h3,h4⟩:=(h1.drew).adO (t:=e) (c:=olds.toArray++news.toArray++Builtin.zeroCells z.cells (grownCap w (k+m) cap e -(k+m))) (m:=k+m) (cs:=cs++ds) (cap:=grownCap w (k+m) cap e) (ob:=match d with|some i=>.slot i 0|none=>.none) hd (by omega)
   (fun i hi=>by subst hi;rfl) (fun hn=>by subst hn;rfl) (by rw[List.length_append,hcl,dS.oO,Nat.add_mul]) hge (by
     simp only[Array.size_append,List.size_toArray,size_zeroCells,hol,dS.len,hzs,<-Nat.add_mul]
     grind) (fun c hc=>by
     rcases List.mem_append.1 hc with hc|hc
     ·exact hcf c hc
     ·exact dS.fl c hc)
   (fun j x hj=>by
     have hl1:=dS.len
     have hl2:=dS.oO
     by_cases hjk:j<k*1
     ·rw[List.getElem?_append_left (by grind)]at hj
      have hlt:j<olds.length:=by rw[hol];exact hjk
      refine⟨olds[j],?_,?_⟩
      ·grind
      ·exact(aG.drew G1 w).vr h1.ba (rQ j x _ hj (List.getElem?_eq_getElem hlt))
     ·rw[List.getElem?_append_right (by grind),hcl]at hj
      have hlt:j -k*1<news.length:=by have:=(List.getElem?_eq_some_iff.1 hj).1;omega
      refine⟨news[j -k*1],?_,?_⟩
      ·grind
      ·exact(aG.drew G1 w).vr h1.ba (pA.kZ _ x _ hj (List.getElem?_eq_getElem hlt))) (0,0) ⟨fun k _ hk=>by simp at hk,Nat.le_refl _⟩ (.inl rfl) (fun i y hi hy=>by
     rw[Array.append_assoc,<-Array.append_assoc,Array.getElem?_append_right (by simp only[Array.size_append,List.size_toArray,hol,dS.len,<-Nat.add_mul];exact hi)]at hy
     grind [uL,List.mem_of_getElem?])
  intro pos after gd next Q hn
  refine aY ?_ (hn G2 _ _ _ h3 (hp1.trans ((aG.drew G1 w).trans h4)) hk)
  simp[execOp,resolve,invoke,builtin,e1,bR]
 rcases VR.il (VR.Q4 hv1)with⟨e0,rfl,rfl⟩|⟨b,off,cap,e1,hcl,hRb,fh,hat⟩
 ·
  have e1:=e0.own
  by_cases hm:m=0
  ·subst hm
   have hds:ds=[]:=List.eq_nil_of_length_eq_zero (by simpa using dS.oO)
   subst hds
   have bR:=mQ (ty:=ty) ht ht2 hi pz pA
   have rP:Inv G1 n D ((E.drain x).put d (.bb e 0 [])) (a.put d (.slice none 0 0)) w:=by
    have:=h1.put (s':=(E.drain x).s) (lp':=(E.drain x).lp) d (fun i hi=>by grind [bq]) (.bb e 0 []) (.slice none 0 0) h1.ba (aG.refl G1 w) h1.store (fun _ hx=>hx) (fun i t _ ht=>ht.elim) (fun i t _⟨cs,hcs⟩=>by cases hcs)
     (fun _ _ _ _=>⟨rfl,rfl,rfl⟩) (fun _ _ _ _ _ _ hcc=>⟨hcc,rfl,rfl⟩) (fun i hdi=>⟨.bb _ _ _ _ (.slnil _ _) (fun _=>rfl),fun base m' dp hv hc=>by grind⟩)
    cases d<;>exact this
   intro pos after gd next Q hn
   refine aY (w':=w) ?_ (hn G1 _ _ _ rP hp1 hk)
   simp[execOp,resolve,invoke,builtin,e1,bR]
  ·exact grow none 0 [] e1 (by omega) (by simp) (by simp) Fl.nil (by simp[Builtin.firstCells]) (fun j c u hc=>by simp at hc)
 ·by_cases df:k+m<=cap
  ·by_cases hm:m=0
   ·subst hm
    have hds:ds=[]:=List.eq_nil_of_length_eq_zero (by simpa using dS.oO)
    have uk:news=[]:=List.eq_nil_of_length_eq_zero (by simpa using dS.len)
    subst hds;subst uk
    have bR:=iA (ty:=ty) (w:=w) ht ht2 hi pz pA (b:=b) (off:=off) (k:=k) (cap:=cap) df (w':=w) rfl
    simp only[List.append_nil,Nat.add_zero]at hk bR
    have rP:Inv G1 n D ((E.drain x).put d (.bb e k cs)) (a.put d (a.eval u)) w:=by
     have:=h1.put (s':=(E.drain x).s) (lp':=(E.drain x).lp) d (fun i hi=>by grind [bq]) (.bb e k cs) (a.eval u) h1.ba (aG.refl G1 w) h1.store (fun _ hx=>hx) (fun i t _ ht=>ht.elim) (fun i t _⟨cs,hcs⟩=>by cases hcs)
      (fun _ _ _ _=>⟨rfl,rfl,rfl⟩) (fun _ _ _ _ _ _ hcc=>⟨hcc,rfl,rfl⟩) (fun i hdi=>by subst hdi;exact⟨hv1,um⟩)
     cases d<;>exact this
    intro pos after gd next Q hn
    refine aY (w':=w) ?_ (hn G1 _ _ _ rP hp1 hk)
    simp[execOp,resolve,invoke,builtin,e1,bR]
   ·obtain⟨b',ZJ,c,fz,q1,q2,q3,q4,q5,q6⟩:=um _ _ _ e1 (by omega)
    injection q1 with q1;injection q1 with q1 q1'
    subst q1;subst q1'
    have hon:G1.O b≠.none/\G1.O b≠.frame/\G1.O b≠.sh/\(∀i,G1.O b≠.loc i)/\(∀i j,G1.O b≠.cell i j)/\(∀i j,G1.O b=.slot i j->d=some i/\j=0):=by
     rw[q2]
     cases d with
     |none=>simp[zU]
     |some i=>grind [zU]
    obtain⟨G2,h3,h4⟩:=h1.YB (k:=k) (m:=m) hd q4 ⟨q6.1,q6.2.1⟩ q6.2.2.1 (q6.2.2.2.1.imp id fun⟨z1,z2⟩=>⟨z1,jo,z2⟩) q6.2.2.2.2 (fun i hi=>by subst hi;exact q2) hon q3 q5 df (by omega) hcl hat pA rfl
    have QH:off+k*1+news.length<=c.size:=by
     rw[dS.len,q5,Nat.add_assoc,<-Nat.add_mul]
     exact Nat.add_le_add_left (Nat.mul_le_mul_right _ df) _
    have dZ:=di (P:=P) b (off+k*1) e fz news 0 c w q4 q6.1 (by grind) dS.one
    have bR:=iA (ty:=ty) (w:=w) ht ht2 hi pz pA (b:=b) (off:=off) (k:=k) (cap:=cap) df (w':=w.setRow b (laid c (off+k*1) news)) (by grind [laid])
    intro pos after gd next Q hn
    refine aY ?_ (hn G2 _ _ _ h3 (hp1.trans h4) hk)
    simp[execOp,resolve,invoke,builtin,e1,bR]
  ·have hfl:Fl cs:=by obtain⟨_,_,_,hf⟩:=hat;exact hf
   obtain⟨us,u1,u2,u3⟩:=hat.kZ
   exact grow _ cap us e1 (by omega) (by rw[u1,hcl]) hcl hfl (run_firstCells_some w.drew 1 k ⟨b,off,none⟩ k cap us (by rw[u1,hcl]) u2) u3
end
section
variable{P:Program}{G G':Gh}{n:Nat}{D:List Deferred}{E:St}{a:Act}{w w':World}
theorem a8.shape{s:ae}(h:a8 G w s){b:Nat}{cs:List AV}(hs:s b=some (.cells cs)):∃t,w.shape? b=some (t,cs.length)/\DT t cs:=by
 obtain⟨_,_,c,t,h4,h5,h6⟩:=h b _ hs
 exact⟨t,by simp[World.shape?,h4,h5.1],h6⟩
theorem XR.ref(h:Inv G n D E a w){y:Operand}{x:IX}(hy:bI y x=true){b off:Nat}(hx:E.x x=.ref b off):a.eval y=.pointer (some ⟨b,off,none⟩):=by
 have:=XR.aV h hy
 rw[hx]at this
 exact VR.fZ this
theorem Qe(h:Inv G n D E a w){op:Op}{ty:TypeId}{m t0 j0 u0:Nat}{x:IX}{d:Option Nat}{K:St->Prop}(hd:bq n d=true)(hc:au P op ty (.HH m t0 j0 u0 x)=true)(hw:iP P (.HH m t0 j0 u0 x) d E K):nU P G n D w a op ty d K:=by
 cases op<;>first|(simp[au]at hc;done)|skip
 rename_i t y
 simp only[au,Bool.and_eq_true,beq_iff_eq]at hc
 obtain⟨⟨rfl,_⟩,hc⟩:=hc
 obtain⟨hi,_,hj0,hj1,hk⟩:=hw
 have hvr:VR w G.R (E.x x) (a.eval y):=by
  have:=XR.aV h hc
  generalize E.x x=av at hi this
  cases av<;>first|exact this|(simp[dh]at hi)
 have e7:=gT hi hvr
 have hj:j0+1<(cellsOf (E.x x)).length:=(List.getElem?_eq_some_iff.1 hj1).1
 have hcs:∀(G':Gh)(w':World)(o:Nat->c5),aG G w G' w'->dt G' w' o (setAt (views (cellsOf (E.x x))) j0 [.ng t0,.bb u0 0 []]) (a.eval y).cells:=by
  intro G' w' o hp
  have hlen:j0+[AV.ng t0,AV.bb u0 0 []].length<=(views (cellsOf (E.x x))).length:=by simp[views];omega
  refine⟨by rw[mY _ _ _ hlen];simp only[List.length_map,views];exact e7.1,fun j c u hcj hu=>?_⟩
  rw[mX _ _ _ _ hlen]at hcj
  by_cases h1:j=j0
  ·subst h1
   rw[if_pos ⟨Nat.le_refl _,by simp⟩,Nat.sub_self]at hcj
   injection hcj with hcj;subst hcj
   have hu':=e7.2.1 j .fj u hj0 hu
   obtain rfl:u=.pointer none:=VR.rS hu'
   exact⟨.ng t0,trivial⟩
  ·by_cases h2:j=j0+1
   ·subst h2
    rw[if_pos ⟨by omega,by simp⟩,show j0+1 -j0=1 by omega]at hcj
    injection hcj with hcj;subst hcj
    have hu':=e7.2.1 _ _ u hj1 hu
    have e:u=.slice none 0 0:=by cases hu' with|bb _ _ _ _ h h0=>exact h0 rfl
    subst e
    exact⟨.bb _ _ _ _ (.slnil _ _) (fun _=>rfl),fun base m' dp hv hc=>by injection hv with _ e2 e3;omega⟩
   ·rw[if_neg (by simp;omega),eV]at hcj
    cases hz:(cellsOf (E.x x))[j]? with
    |none=>rw[hz]at hcj;cases hcj
    |some c0=>
     rw[hz]at hcj;simp at hcj
     have h1:=hp.vr h.ba (e7.2.1 j c0 u hz hu)
     rw[<-hcj]
     exact⟨h1.view,dn.view ..⟩
 have hfl:DT t0 (setAt (views (cellsOf (E.x x))) j0 [.ng t0,.bb u0 0 []]):=by
  intro c hc'
  unfold setAt at hc'
  simp only[List.mem_append]at hc'
  have base:=e7.2.2.views
  rcases hc' with(hc'|hc')|hc'
  ·exact .inl (base c (List.mem_of_mem_take hc'))
  ·simp only[List.mem_cons,List.not_mem_nil,or_false]at hc'
   rcases hc' with rfl|rfl
   ·exact .inr rfl
   ·exact .inl rfl
  ·exact .inl (base c (List.mem_of_mem_drop hc'))
 intro pos after g next Q hn
 obtain⟨G',h1,h2⟩:=h.Xi hd (t:=t0) (.inl ⟨rfl,rfl⟩) hcs hfl
 refine aY ?_ (hn G' _ _ _ h1 h2 (hk w.heap.size (h.store.get_none h.ba)))
 simp[execOp,Instr.box,newVar,newRow]
end
section
variable{P:Program}{G G':Gh}{n:Nat}{D:List Deferred}{E:St}{a:Act}{w w':World}
theorem Inv.Lu(h:Inv G n D E a w){d:Option Nat}(hd:bq n d=true){av:AV}{v:Value}(hv:NR G w E a av v):Inv G n D ((bZ E av d).put d av) (a.put d v) w:=by
 have hd':∀i,d=some i->i<n:=fun i hi=>by grind [bq]
 by_cases hlp:∃t off,av=.lp t off
 ·obtain⟨t,off,rfl⟩:=hlp
  cases d with
  |none=>exact h
  |some i=>
   obtain⟨b,hv1,hv2⟩:=hv
   refine h.put (lp':=(i,t)::E.lp) (some i) hd' (.lp t off) v h.ba (aG.refl G w) h.store (fun x hx=>List.mem_cons_of_mem _ hx) (fun j t' hj ht=>?_) (fun j t' _⟨cs,hcs⟩=>by grind)
    (fun _ _ _ _=>⟨rfl,rfl,rfl⟩) (fun _ _ _ _ _ _ hcc=>⟨hcc,rfl,rfl⟩) (fun j hj=>?_)
   ·injection hj with hj;have:t=t':=ht
    grind
   ·injection hj with hj;refine⟨b,hv1,fun cs hcs=>?_⟩
    by_cases hit:i=t
    ·grind [St.put,bc]
    ·simp[St.put,bc,hit]at hcs
     grind [Act.put,Array.getElem?_setIfInBounds_ne]
 ·have hnr:dh av=true/\VR w G.R av v/\view av=av:=by
   cases av<;>first|exact hv|grind
  have hl:bZ E av d=E:=by cases av<;>first|rfl|exact(hlp ⟨_,_,rfl⟩).elim|grind [absurd,dh]
  rw[hl]
  have:=h.put d hd' av v h.ba (aG.refl G w) h.store (fun _ hx=>hx) (fun i t _ ht=>(eS hnr.1 t ht).elim) (fun i t _⟨cs,hcs⟩=>(mL hnr.1 cs hcs).elim)
   (fun _ _ _ _=>⟨rfl,rfl,rfl⟩) (fun _ _ _ _ _ _ hcc=>⟨hcc,rfl,rfl⟩) (fun i hi=>by grind [du.qB,dn.view])
  cases d<;>exact this
theorem Inv.Vi(h:Inv G n D E a w){d:Option Nat}(hd:bq n d=true):Inv G n D (E.put d (.iL [])) (a.put d undef) w:=by
 have:=h.put d (fun i hi=>by grind [bq]) (.iL []) undef h.ba (aG.refl G w) h.store (fun _ hx=>hx) (fun i t _ ht=>ht.elim) (fun i t _⟨cs,hcs⟩=>by grind)
  (fun _ _ _ _=>⟨rfl,rfl,rfl⟩) (fun _ _ _ _ _ _ hcc=>⟨hcc,rfl,rfl⟩) (fun i hi=>⟨#[],rfl,rfl,fun j x y hx=>by simp⟩)
 cases d<;>exact this
theorem N7(h:Inv G n D E a w){op:Op}{ty:TypeId}{f:Nat}{x:IX}{d:Option Nat}{K:St->Prop}(hd:bq n d=true)(hc:au P op ty (.yW f x)=true)(hw:iP P (.yW f x) d E K):nU P G n D w a op ty d K:=by
 cases op<;>first|(simp[au]at hc;done)|skip
 rename_i c
 obtain⟨callee,ys,ats⟩:=c
 simp only[au]at hc
 split at hc<;>try(cases hc;done)
 rename_i g
 simp only[Bool.and_eq_true,beq_iff_eq]at hc
 obtain⟨rfl,hxs⟩:=hc
 obtain⟨hi,hid,hk⟩:=(show Kg P f E d K (E.x x) from hw)
 obtain⟨l⟩:=ys
 match l,hxs with
 |[y],hxs=>
  have hy:bI y x=true:=by simpa[iO]using hxs
  have hvr:VR w G.R (E.x x) (a.eval y):=by
   have:=XR.aV h hy
   generalize E.x x=av at hi this
   cases av<;>first|exact this|grind [dh]
  have hiv:dh (view (E.x x))=true:=by generalize E.x x=av at hi;cases av<;>simp_all [dh,view]
  have hvv:view (view (E.x x))=view (E.x x):=by generalize E.x x=av;cases av<;>rfl
  intro pos after gd next Q hn
  refine aY (v:=a.eval y) ?_ (hn G _ _ _ (h.Lu hd (NR.mk hiv hvr.view hvv)) (aG.refl G w) ?_)
  ·have bR:=hid (a.eval y) w
   simp[execOp,resolve,Act.eval,Deferred.ofValue,invoke]at bR⊢
   grind
  ·have e:bZ E (view (E.x x)) d=E:=by
    generalize E.x x=av at hi
    cases av<;>cases d<;>first|rfl|grind [dh]
   grind
 |[],hxs=>simp[iO]at hxs
 |_::_::_,hxs=>simp[iO]at hxs
theorem Qg(h:Inv G n D E a w){op:Op}{ty:TypeId}{x:IX}{d:Option Nat}{K:St->Prop}(hd:bq n d=true)(hc:au P op ty (.HX x)=true)(hw:iP P (.HX x) d E K):nU P G n D w a op ty d K:=by
 cases op<;>first|(simp[au]at hc;done)|skip
 simp only[au,Bool.and_eq_true]at hc
 obtain⟨⟨hy,hs⟩,ht⟩:=hc
 have hw':Mq E d K (E.x x):=hw
 generalize hxv:E.x x=xv at hw'
 unfold Mq at hw'
 split at hw'
 ·rename_i b off
  have e1:=XR.ref h hy hxv
  generalize hsb:E.s b=ob at hw'
  unfold P4 at hw'
  split at hw'
  ·obtain⟨hlt,hk⟩:=hw'
   obtain⟨t',hsh,_⟩:=h.store.shape hsb
   split at hs<;>try(cases hs;done)
   rename_i e hse
   split at hs<;>try(cases hs;done)
   rename_i j hj
   split at ht<;>try(cases ht;done)
   rename_i htu
   have bR:=Lib.run_to_unsafe (P:=P) w ⟨b,off,none⟩ hse htu hj (by grind) hsh hlt
   intro pos after g next Q hn
   refine aY ?_ (hn G _ _ _ (h.Lu hd (NR.mk rfl (.ref b off) rfl)) (aG.refl G w) hk)
   simp[execOp,e1,bR]
  grind
 grind
theorem Qf(h:Inv G n D E a w){op:Op}{ty:TypeId}{u:Nat}{x:IX}{d:Option Nat}{K:St->Prop}(hd:bq n d=true)(hc:au P op ty (.HW u x)=true)(hw:iP P (.HW u x) d E K):nU P G n D w a op ty d K:=by
 cases op<;>first|(simp[au]at hc;done)|skip
 simp only[au,Bool.and_eq_true]at hc
 obtain⟨⟨hy,hs⟩,ht⟩:=hc
 have hw':Mp P u E d K (E.x x):=hw
 generalize hxv:E.x x=xv at hw'
 unfold Mp at hw'
 split at hw'
 ·rename_i b off
  have e1:=XR.ref h hy hxv
  generalize hsb:E.s b=ob at hw'
  unfold P3 at hw'
  split at hw'
  ·obtain⟨t0,hct,hl,hk⟩:=hw'
   obtain⟨t',hsh,hfl⟩:=h.store.shape hsb
   have:t'=t0:=by
    rcases hfl _ (List.mem_of_getElem? hct)with h1|h1
    ·cases h1
    ·grind
   subst this
   split at hs<;>try(cases hs;done)
   rename_i hse
   split at ht<;>try(cases ht;done)
   rename_i e hte
   simp only[Bool.and_eq_true,beq_iff_eq]at ht
   obtain⟨rfl,hj⟩:=ht
   obtain⟨j,hj⟩:=Option.isSome_iff_exists.1 hj
   have bR:=Lib.run_from_unsafe (P:=P) w ⟨b,off,none⟩ hse hte hj hsh hl
   intro pos after g next Q hn
   refine aY ?_ (hn G _ _ _ (h.Lu hd (NR.mk rfl (.ref b off) rfl)) (aG.refl G w) hk)
   simp[execOp,e1,bR]
  grind
 grind
theorem OC(h:Inv G n D E a w){op:Op}{ty:TypeId}{o:qN}{d:Option Nat}{K:St->Prop}(hd:bq n d=true)(hc:au P op ty o=true)(hw:owp P o d E K):nU P G n D w a op ty d K:=by
 unfold owp at hw
 cases hp:pv o (xg true E) E with
 |cQ av=>
  rw[hp]at hw
  obtain⟨v,hr,hnr⟩:=xw h hc (.inl hp)
  exact fun pos after g next Q hn=>aY (hr d pos after g) (hn G _ _ _ (h.Lu hd hnr) (aG.refl G w) hw)
 |prt c av=>
  rw[hp]at hw
  obtain⟨v,hr,hnr⟩:=xw h hc (.inr ⟨c,hp,hw.1⟩)
  exact fun pos after g next Q hn=>aY (hr d pos after g) (hn G _ _ _ (h.Lu hd hnr) (aG.refl G w) hw.2)
 |no=>
  rw[hp]at hw
  have hw':iP P o d E K:=hw
  cases o with
  |oj tr x=>grind [T7]
  |jS z=>grind [D2]
  |mb z=>exact(D2 h hd).2 hc hw'
  |HF m x=>grind [Mw]
  |zy m x=>exact(Mw h hd).2 hc hw'
  |ij sz m z ps=>grind [Ih]
  |store m p v=>grind [Oc]
  |append sz by' x y=>grind [Kr]
  |jU x=>grind [Ku]
  |iW x=>grind [FM]
  |call f args=>grind [Ii]
  |kT sz by' z l c=>grind [Kw]
  |makeMap=>grind [Ij]
  |iC x args=>grind [N8]
  |lookup kk z ok x k=>grind [Kv]
  |mapUpdate kk x k v=>grind [CO]
  |kJ x=>grind [Kt]
  |tS x=>grind [Qh]
  |lR sz m z ps=>grind [FL]
  |nY sz by' z x y=>grind [Ic]
  |oc sz by' z x y=>grind [Ig]
  |HG sz m x=>grind [Qd]
  |HH m t j u x=>grind [Qe]
  |n9 t x y=>grind [Ie]
  |HX x=>grind [Qg]
  |yW f x=>grind [N7]
  |HW u x=>grind [Qf]
  |yZ sz x y=>grind [N9]
  |rD z x=>grind [Ks]
  |Ue sz ow x=>grind [T6]
  |zi sz ow x=>grind [Ob]
  |mw x=>grind [D4]
  |my off j x=>grind [Oa]
  |WR ne x=>grind [T5]
  |yV f i args=>grind [N6]
  |_=>exact hw'.elim
def zT(P:Program)(ops:Array Oper)(o:Oper)(a:Act)(w:World)(next:Act->World->Prop)(Q:Exit->Act->World->Prop):Prop:=if Region.wanted o (yielded ops a.tmps)then o.wp P a w next Q\/(o.asks P a w/\LetsOut Q)else next (a.put o.dst undef) w
theorem BE{ops:Array Oper}{o:Oper}{next:Act->World->Prop}{Q:Exit->Act->World->Prop}(hw:Region.wanted o (yielded ops a.tmps)=true)(h:o.wp P a w next Q):zT P ops o a w next Q:=by unfold zT;grind
theorem EI{ops:Array Oper}{o:Oper}{next:Act->World->Prop}{Q:Exit->Act->World->Prop}(hw:Region.wanted o (yielded ops a.tmps)=false)(h:next (a.put o.dst undef) w):zT P ops o a w next Q:=by unfold zT;grind
theorem Ia(h:Inv G n D E a w){d:Option Nat}(hd:bq n d=true)(av:AV)(hl:∀t,bG av t->∀i,d=some i->(i,t)∈E.lp):Inv G n D (E.put d (.when false av)) (a.put d undef) w:=by
 have:=h.put d (fun i hi=>by grind [bq]) (.when false av) undef h.ba (aG.refl G w) h.store (fun _ hx=>hx) (fun i t hi ht=>hl t ht i hi) (fun i t _⟨cs,hcs⟩=>by grind)
  (fun _ _ _ _=>⟨rfl,rfl,rfl⟩) (fun _ _ _ _ _ _ hcc=>⟨hcc,rfl,rfl⟩) (fun i hi=>⟨fun hh=>Bool.noConfusion hh,fun _=>rfl⟩)
 cases d<;>exact this
theorem ja(E:St):∀(av:AV)(d:Option Nat),(bZ E av d).e=E.e/\(bZ E av d).s=E.s/\∀x∈E.lp,x∈(bZ E av d).lp
 |.lp t _,some i=>⟨rfl,rfl,fun x hx=>List.mem_cons_of_mem _ hx⟩
 |.lp t _,none=>⟨rfl,rfl,fun _ hx=>hx⟩
 |.when _ av,d=>ja E av d
 |.undef,_|.bool _,_|.int _ _,_|.str _,_|.fj,_|.ref _ _,_|.sp _,_|.loc _,_|.sl _ _ _ _,_|.arr _ _ _ _,_|.agg _,_|.iL _,_|.fn _ _ _,_|.nX,_|.mp _,_|.se,_|.us _ _ _,_|.one,_|.ng _,_|.lx,_|.bb _ _ _,_=>⟨rfl,rfl,fun _ hx=>hx⟩
theorem Rv(h:Inv G n D E a w)(av:AV)(d:Option Nat):Inv G n D (bZ E av d) a w:=by
 obtain⟨e1,e2,e3⟩:=ja E av d
 exact⟨h.ba,by rw[e2];exact h.store,h.size,fun i v hv=>by rw[e1];exact h.cu i v hv,fun i hi=>by rw[e1];exact h.CL i hi,fun i t ht=>e3 _ (h.JY i t (by grind)),h.pn⟩
theorem yp:∀(av:AV)(d:Option Nat)(t:Nat),bG av t->∀i,d=some i->(i,t)∈(bZ E av d).lp
 |.lp t' off,_,t,ht,i,rfl=>by have:=ht;subst this;exact List.mem_cons_self
 |.when _ av,d,t,ht,i,hi=>yp av d t ht i hi
 |.undef,_,_,ht,_,_|.bool _,_,_,ht,_,_|.int _ _,_,_,ht,_,_|.str _,_,_,ht,_,_|.fj,_,_,ht,_,_|.ref _ _,_,_,ht,_,_|.sp _,_,_,ht,_,_|.loc _,_,_,ht,_,_|.sl _ _ _ _,_,_,ht,_,_
 |.arr _ _ _ _,_,_,ht,_,_|.agg _,_,_,ht,_,_|.iL _,_,_,ht,_,_|.fn _ _ _,_,_,ht,_,_|.nX,_,_,ht,_,_|.mp _,_,_,ht,_,_|.se,_,_,ht,_,_|.us _ _ _,_,_,ht,_,_|.one,_,_,ht,_,_|.ng _,_,_,ht,_,_|.lx,_,_,ht,_,_|.bb _ _ _,_,_,ht,_,_=>ht.elim
theorem Inv.sA{d:Option Nat}{av:AV}(h:Inv G n D (E.put d av) a w)(hd:bq n d=true):Inv G n D (E.put d (.when true av)) a w:=by
 cases d with
 |none=>exact h
 |some i=>
 have hlk:∀k,k≠i->look (E.put (some i) (.when true av)).e k=look (E.put (some i) av).e k:=fun k hk=>by simp[St.put,bc,Ne.symm hk]
 have e1:look (E.put (some i) av).e i=av:=by simp[St.put,bc]
 have e2:look (E.put (some i) (.when true av)).e i=.when true av:=by simp[St.put,bc]
 have Oh:∀d' cs,look (E.put (some i) (.when true av)).e d'=.loc cs->look (E.put (some i) av).e d'=.loc cs:=by grind
 have fr:∀k av' u,du G w (E.put (some i) av).e a.tmps k av' u->du G w (E.put (some i) (.when true av)).e a.tmps k av' u:=fun k av' u hv=>du.frame (fun _ _ hv=>hv) (fun b _=>⟨rfl,rfl,rfl⟩) (fun _ _ _ _ hc=>⟨hc,rfl,rfl⟩) _ _ (fun d' _ cs hcs=>⟨cs,Oh d' cs hcs,rfl⟩) hv
 refine⟨h.ba,h.store,h.size,fun k u hu=>?_,fun k hk=>?_,fun k t ht=>?_,h.pn⟩
 ·have hs:=h.cu k u hu
  by_cases hk:k=i
  ·subst hk
   rw[e1]at hs
   rw[e2]
   exact⟨fun _=>fr _ _ _ hs,fun hh=>Bool.noConfusion hh⟩
  grind
 ·have:k≠i:=by
   have:=by simpa[bq]using hd
   omega
  rw[hlk k this];exact h.CL k hk
 ·by_cases hk:k=i
  ·subst hk
   rw[e2]at ht
   exact h.JY k t (by rw[e1];exact ht)
  ·rw[hlk k hk]at ht;exact h.JY k t ht
theorem vS{ops:Array Oper}{tmps:Array Value}{j t:Nat}(h:(ops[j]?).bind (·.dst)=some t):yielded ops tmps j=(match tmps[t]? with|some (.bool b)=>some b|_=>none):=by grind [yielded]
theorem A9{ops:Array Oper}{o:Oper}{j t:Nat}{want b:Bool}(hg:o.guard=some (j,want))(ht:(ops[j]?).bind (·.dst)=some t)(hv:a.tmps[t]? =some (.bool b)):Region.wanted o (yielded ops a.tmps)=(b==want):=by grind [Region.wanted,vS]
theorem G8(h:Inv G n D E a w){t:Nat}(hl:look E.e t≠.undef):∃v,a.tmps[t]? =some v/\du G w E.e a.tmps t (look E.e t) v:=by
 have hlt:t<a.tmps.size:=by rw[h.size];exact h.BA hl
 exact⟨_,fQ hlt,h.cu t _ (fQ hlt)⟩
theorem gI(h:Inv G n D E a w){ops:Array Oper}{o:Oper}{o':aq}{K:St->Prop}(hc:ik P n ops o o'=true)(hw:JX P o' E K){next:Act->World->Prop}{Q:Exit->Act->World->Prop}
 (hn:∀G' E' a' w',Inv G' n D E' a' w'->aG G w G' w'->K E'->next a' w'):zT P ops o a w next Q:=by
 obtain⟨dst,op,ty,pos,after,g⟩:=o
 obtain⟨d,io,ig⟩:=o'
 simp only[ik,Bool.and_eq_true,beq_iff_eq]at hc
 obtain⟨⟨⟨rfl,hd⟩,hcg⟩,YJ⟩:=hc
 have runs:∀{E₁:St},Inv G n D E₁ a w->owp P io dst E₁ K->(⟨dst,op,ty,pos,after,g⟩:Oper).wp P a w next Q:=fun h1 ho=>OC h1 hd YJ ho pos after g next Q hn
 cases ig with
 |none=>
  cases g with
  |some g=>simp[TR]at hcg
  |none=>exact BE rfl (runs h hw)
 |some tw=>
  obtain⟨t,want⟩:=tw
  cases g with
  |none=>simp[TR]at hcg
  |some jw=>
  obtain⟨j,Fb⟩:=jw
  simp only[TR,Bool.and_eq_true,beq_iff_eq]at hcg
  obtain⟨rfl,ht⟩:=hcg
  have hw':x7 P io dst t Fb E K (look E.e t):=hw
  have skip:∀{E₁:St},Inv G n D E₁ a w->K (E₁.put dst (.iL []))->next (a.put dst undef) w:=fun h1 hk=>hn G _ _ _ (h1.Vi hd) (aG.refl G w) hk
  have core:∀(g:Bool),Region.wanted ⟨dst,op,ty,pos,after,some (j,Fb)⟩ (yielded ops a.tmps)=g->Pr P g io E dst K (pv io (xg g E) E)->zT P ops ⟨dst,op,ty,pos,after,some (j,Fb)⟩ a w next Q:=by
   intro g hwt hx
   cases g with
   |true=>
    refine BE hwt ?_
    cases hp:pv io (xg true E) E with
    |cQ av=>
     rw[hp]at hx
     obtain⟨v,hr,hnr⟩:=xw h YJ (av:=av) (.inl hp)
     refine aY (hr _ _ _ _) (hn G _ _ _ ((h.Lu hd hnr).sA hd) (aG.refl G w) hx)
    |prt c av=>
     rw[hp]at hx
     obtain⟨v,hr,hnr⟩:=xw h YJ (av:=av) (.inr ⟨c,hp,hx.1 rfl⟩)
     refine aY (hr _ _ _ _) (hn G _ _ _ ((h.Lu hd hnr).sA hd) (aG.refl G w) hx.2)
    |no=>
     rw[hp]at hx
     exact runs h (hx.1 rfl)
   |false=>
    refine EI hwt ?_
    cases hp:pv io (xg false E) E with
    |cQ av=>
     rw[hp]at hx
     exact hn G _ _ _ (Ia (Rv h av dst) hd av (fun t' ht' i hi=>yp av dst t' ht' i hi)) (aG.refl G w) hx
    |prt c av=>
     rw[hp]at hx
     exact hn G _ _ _ (Ia (Rv h av dst) hd av (fun t' ht' i hi=>yp av dst t' ht' i hi)) (aG.refl G w) hx.2
    |no=>
     rw[hp]at hx
     exact skip h (hx.2 rfl)
  cases hlk:look E.e t with
  |bool b=>
   rw[hlk]at hw'
   obtain⟨v,hv1,hv2⟩:=G8 h (t:=t) (by grind)
   rw[hlk]at hv2
   have:=VR.gK hv2.1
   subst this
   exact core _ (A9 rfl ht hv1) hw'
  | «when» b' g=>
    rw[hlk]at hw'
    obtain⟨v,hv1,hv2⟩:=G8 h (t:=t) (by grind)
    rw[hlk]at hv2
    cases g with
    |bool b=>
     have hx:Pr P (b'&&(b==Fb)) io E dst K (pv io (xg (b'&&(b==Fb)) E) E):=hw'
     cases b' with
     |true=>
      have hvb:=hv2.1 rfl
      have:=VR.gK hvb.1
      subst this
      exact core _ (A9 rfl ht hv1) hx
     |false=>
      have:=hv2.2 rfl
      grind [Region.wanted,yielded,vS]
    |_=>exact hw'.elim
  |iL vs=>
   rw[hlk]at hw'
   cases vs with
   |cons _ _=>exact hw'.elim
   |nil=>
    obtain⟨v,hv1,hv2⟩:=G8 h (t:=t) (by grind)
    rw[hlk]at hv2
    obtain⟨ys,rfl,_⟩:=hv2
    have hwt:Region.wanted ⟨dst,op,ty,pos,after,some (j,Fb)⟩ (yielded ops a.tmps)=false:=by
     unfold Region.wanted
     simp only[vS ht,hv1]
     rfl
    exact EI hwt (skip h hw')
  |_=>rw[hlk]at hw';exact hw'.elim
end
section
variable{P:Program}{G G':Gh}{n:Nat}{D:List Deferred}{E:St}{a:Act}{w w':World}
theorem pU{ops:Array Oper}{Q:Exit->Act->World->Prop}{K:St->Prop}(G₀:Gh)(w₀:World)
 (hn:∀G' E' a' w',Inv G' n D E' a' w'->aG G₀ w₀ G' w'->K E'->Q .normal a' w'):∀(l:List Oper)(l':List aq)(G:Gh)(E:St)(a:Act)(w:World),cz P n ops l l'=true->Inv G n D E a w->aG G₀ w₀ G w->swp P l' E K->wpList P ops Q l a w
 |[],[],G,E,a,w,_,h,hp,hk=>hn G E a w h hp hk
 |o::l,o'::l',G,E,a,w,hc,h,hp,hk=>by
  simp[cz,Bool.and_eq_true]at hc
  exact gI h hc.1 hk fun G' E' a' w' h1 h2 h3=>pU G₀ w₀ hn l l' G' E' a' w' hc.2 h1 (hp.trans h2) h3
 |[],_::_,_,_,_,_,hc,_,_,_=>by simp[cz]at hc
 |_::_,[],_,_,_,_,hc,_,_,_=>by simp[cz]at hc
theorem Ez(e:List (Nat×AV))(i:Nat):∀(live:List Nat),look (live.map fun j=>(j,dD (look e j))) i=if i∈live then dD (look e i)else .undef
 |[]=>rfl
 |j::live=>by
  rw[List.map_cons,bc,Ez e i live]
  grind
theorem xX(av:AV)(t:Nat):¬bG (dD av) t:=by cases av<;>simp[dD,bG]
theorem Inv.vp(h:Inv G n D E a w)(live:List Nat):Inv G n D (E.vp live) a w:=by
 have hl:∀i,look (E.vp live).e i=if i∈live then dD (look E.e i)else .undef:=fun i=>Ez E.e i live
 have hu:∀i v,du G w (E.vp live).e a.tmps i .undef v:=fun i v=>⟨.undef _,trivial⟩
 refine⟨h.ba,h.store,h.size,fun i v hv=>?_,fun i hi=>?_,fun i t ht=>?_,h.pn⟩
 ·rw[hl i]
  by_cases hi:i∈live
  ·rw[if_pos hi]
   have hs:=h.cu i v hv
   generalize look E.e i=av at hs
   have fr:∀av,(∀t,¬bG av t)->du G w E.e a.tmps i av v->du G w (E.vp live).e a.tmps i av v:=fun av hno hs=>du.frame (fun _ _ hv=>hv) (fun b _=>⟨rfl,rfl,rfl⟩) (fun _ _ _ _ hc=>⟨hc,rfl,rfl⟩) _ _ (fun t ht=>(hno t ht).elim) hs
   cases av<;>first|exact hu i v|exact fr _ (fun t ht=>ht) hs
  grind
 ·rw[hl i]
  by_cases hi':i∈live
  ·rw[if_pos hi',h.CL i hi];rfl
  grind
 ·rw[hl i]at ht
  by_cases hi:i∈live
  ·grind [xX]
  ·rw[if_neg hi]at ht;exact ht.elim
theorem Bw(e:List (Nat×AV))(i:Nat):∀(live:List (Nat×Bool)),look (live.map fun p=>(p.1,Tk p.2 (dD (look e p.1)))) i=.undef\/look (live.map fun p=>(p.1,Tk p.2 (dD (look e p.1)))) i=dD (look e i)\/look (live.map fun p=>(p.1,Tk p.2 (dD (look e p.1)))) i=view (dD (look e i))
 |[]=>.inl rfl
 |p::live=>by
  rw[List.map_cons,bc]
  by_cases h:p.1=i
  ·rw[if_pos h,h]
   cases p.2 with
   |false=>exact .inr (.inl rfl)
   |true=>exact .inr (.inr rfl)
  ·rw[if_neg h];exact Bw e i live
theorem du.aeZ{e:List (Nat×AV)}{tmps:Array Value}{i:Nat}{av:AV}{v:Value}(h:du G w e tmps i av v):du G w e tmps i (view av) v:=by cases av<;>first|exact h|exact⟨VR.undef _,trivial⟩|exact⟨VR.view h.1,dn.view ..⟩
theorem V5(av:AV)(h:∀t,¬bG av t)(t:Nat):¬bG (view av) t:=by cases av<;>first|exact h t|exact fun h=>h
theorem Inv.eQ(h:Inv G n D E a w)(live:List (Nat×Bool)):Inv G n D (E.eQ live) a w:=by
 have fr:∀i v,a.tmps[i]? =some v->du G w (E.eQ live).e a.tmps i (dD (look E.e i)) v:=fun i v hv=>by
  have hs:=h.cu i v hv
  generalize look E.e i=av at hs
  have fr:∀av,(∀t,¬bG av t)->du G w E.e a.tmps i av v->du G w (E.eQ live).e a.tmps i av v:=fun av hno hs=>du.frame (fun _ _ hv=>hv) (fun b _=>⟨rfl,rfl,rfl⟩) (fun _ _ _ _ hc=>⟨hc,rfl,rfl⟩) _ _ (fun t ht=>(hno t ht).elim) hs
  cases av<;>first|exact⟨.undef _,trivial⟩|exact fr _ (fun t ht=>ht) hs
 have hl:=fun i=>Bw E.e i live
 refine⟨h.ba,h.store,h.size,fun i v hv=>?_,fun i hi=>?_,fun i t ht=>?_,h.pn⟩
 ·rcases hl i with e|e|e
  ·have e':look (E.eQ live).e i=.undef:=e
   rw[e'];exact⟨.undef _,trivial⟩
  ·have e':look (E.eQ live).e i=dD (look E.e i):=e
   grind
  ·have e':look (E.eQ live).e i=view (dD (look E.e i)):=e
   grind [du.aeZ]
 ·rcases hl i with e|e|e
  ·exact e
  ·have e':look (E.eQ live).e i=dD (look E.e i):=e
   rw[e',h.CL i hi];rfl
  ·have e':look (E.eQ live).e i=view (dD (look E.e i)):=e
   rw[e',h.CL i hi];rfl
 ·have ht':=ht
  rcases hl i with e|e|e
  ·have e':look (E.eQ live).e i=.undef:=e
   rw[e']at ht';exact ht'.elim
  ·have e':look (E.eQ live).e i=dD (look E.e i):=e
   grind [xX]
  ·have e':look (E.eQ live).e i=view (dD (look E.e i)):=e
   grind [V5,xX]
def Wh(P:Program)(n:Nat):Prop:=
 ∀(D:List Deferred)(draw:Bool)(id:Nat)(ops:Array Oper)(bJ:List aq)(q:Nat)(G:Gh)(E:St)(a:Act)(w:World)(K:St->Prop)(Q:Exit->Act->World->Prop),
  cz P n ops ops.toList bJ=true->(draw=true->Mf ops q bJ=true)->Inv G n D E a w->XF P q bJ E K->
  (∀G' E' a' w',Inv G' n D E' a' w'->aG G w G' w'->K E'->Q .normal a' w')->(Code.region id ops draw).wp P Q a w
def Wj(P:Program)(n:Nat):Prop:=
 ∀(D:List Deferred)(draw:Bool)(id:Nat)(ops:Array Oper)(bJ:List aq)(T:List Nat)(q:Nat)(G:Gh)(E:St)(a:Act)(w:World)(K:St->Prop)(Q:Exit->Act->World->Prop),
  cz P n ops ops.toList bJ=true->(draw=true->Fu T ops q bJ=true)->Inv G n D E a w->jK T E.e=true->DC P T q bJ E K->
  (∀G' E' a' w',Inv G' n D E' a' w'->aG G w G' w'->K E'->Q .normal a' w')->(Code.region id ops draw).wp P Q a w
def Wg(P:Program)(n:Nat):Prop:=
 ∀(D:List Deferred)(id:Nat)(ops:Array Oper)(T:List Nat)(l:List Item)(G:Gh)(E:St)(a:Act)(w:World)(K:St->Prop)(Q:Exit->Act->World->Prop),
  Yj P T n ops l=true->Inv G n D E a w->jK T E.e=true->JW P T l E K->
  (∀G' E' a' w',Inv G' n D E' a' w'->aG G w G' w'->K E'->Q .normal a' w')->(Code.region id ops true).wp P Q a w
def Wk(P:Program)(n:Nat):Prop:=
 ∀(D:List Deferred)(id:Nat)(ops:Array Oper)(gQ:List (List Bool))(bJ:List aq)(G:Gh)(E:St)(a:Act)(w:World)(K:St->Prop)(Q:Exit->Act->World->Prop),
  cz P n ops ops.toList bJ=true->Mi ops gQ=true->Inv G n D E a w->Pj P gQ bJ K bJ (vQ bJ) E->
  (∀G' E' a' w',Inv G' n D E' a' w'->aG G w G' w'->K E'->Q .normal a' w')->(Code.region id ops true).wp P Q a w
def uM(P:Program)(n:Nat):Prop:=Wh P n/\Wj P n/\Wg P n/\Wk P n
def Rel(n:Nat)(D:List Deferred)(G₀:Gh)(w₀:World)(Q:Exit->St->Prop)(Q':Exit->Act->World->Prop):Prop:=∀x G' E' a' w',Inv G' n D E' a' w'->aG G₀ w₀ G' w'->Q x E'->Q' x a' w'
theorem O3:∀(c:Code){L:List Code}{cr:Code}{l:Nat},yL c l=some (L,cr)->c=L.foldr Code.seq (.seq (.label l) cr)/\findLabel c l=some (Code.skip.seq cr):=by
 intro c
 induction c with
 |seq s c _ ih=>
  intro L cr l h
  have gen:(∀m,s≠.label m)->(if(findLabel s l).isNone then(yL c l).map fun p=>(s::p.1,p.2)else none)=some (L,cr)->Code.seq s c=L.foldr Code.seq (.seq (.label l) cr)/\findLabel (Code.seq s c) l=some (Code.skip.seq cr):=by
   intro _ h
   split at h
   ·cases hs:yL c l with
    |none=>grind
    |some p=>grind [findLabel,Option.isNone_iff_eq_none,q1,q2]
   ·cases h
  cases s with
  |label m=>
   have h:(if m==l then some ([],c)else none)=some (L,cr):=h
   split at h
   ·rename_i hm
    injection h with h;injection h with h1 h2;subst h1;subst h2
    have hm':m=l:=by grind
    subst hm'
    exact⟨rfl,by simp[findLabel]⟩
   ·cases h
  |_=>exact gen (fun m e=>by grind) h
 |_=>intro L cr l h;cases h
theorem mT{a:IC}(h:vm a=true):a=.skip:=by cases a<;>first|rfl|cases h
def qb(n:Nat)(D:List Deferred)(G₀:Gh)(w₀:World)(C:(St->Prop)->(St->Nat)->Prop)(a:Act)(w:World)(k:Nat):Prop:=∃I μ G τ,C I μ/\Inv G n D τ a w/\aG G₀ w₀ G w/\I τ/\μ τ<=k
noncomputable def K7(n:Nat)(D:List Deferred)(G₀:Gh)(w₀:World)(C:(St->Prop)->(St->Nat)->Prop)(a:Act)(w:World):Nat:=Classical.epsilon fun k=>qb n D G₀ w₀ C a w k/\∀j,qb n D G₀ w₀ C a w j->k<=j
theorem zh{n:Nat}{D:List Deferred}{G₀:Gh}{w₀:World}{C:(St->Prop)->(St->Nat)->Prop}{a:Act}{w:World}(h:∃k,qb n D G₀ w₀ C a w k):
 qb n D G₀ w₀ C a w (K7 n D G₀ w₀ C a w)/\∀j,qb n D G₀ w₀ C a w j->K7 n D G₀ w₀ C a w<=j:=by
 refine Classical.epsilon_spec (p:=fun k=>qb n D G₀ w₀ C a w k/\∀j,qb n D G₀ w₀ C a w j->k<=j) ?_
 obtain⟨k,hk⟩:=h
 induction k using Nat.strongRecOn with
 |_ k ih=>grind
theorem cJ(hD:uM P n):∀(ic:IC)(c:Code)(G₀:Gh)(w₀:World)(Q:Exit->St->Prop)(Q':Exit->Act->World->Prop)(G:Gh)(E:St)(a:Act)(w:World),
 k8 P n c ic=true->Rel n D G₀ w₀ Q Q'->Inv G n D E a w->aG G₀ w₀ G w->fD P ic Q E->c.wp P Q' a w
 |.skip,c,G₀,w₀,Q,Q',G,E,a,w,hc,hr,h,hp,hw=>by
  cases c<;>first|(simp[k8]at hc;done)|skip
  exact wp_skip (hr _ G E a w h hp hw)
 |.XH q bJ live,c,G₀,w₀,Q,Q',G,E,a,w,hc,hr,h,hp,hw=>by
  cases c<;>first|(simp[k8]at hc;done)|skip
  rename_i id ops draw
  simp only[k8,Bool.and_eq_true]at hc
  have hn:∀G' E' a' w',Inv G' n D E' a' w'->aG G₀ w₀ G' w'->yE live Q E'->Q' .normal a' w':=fun G' E' a' w' h1 h2 h3=>hr _ G' _ a' w' (h1.vp live) h2 h3
  cases q with
  |none=>
   have hdr:draw=false:=by simpa using hc.2
   subst hdr
   exact wp_region_list (pU G₀ w₀ hn ops.toList bJ G E a w hc.1 h hp hw)
  |some q=>
   have hdr:draw=true->Mf ops q bJ=true:=fun hd=>by grind
   exact hD.1 D draw id ops bJ q G E a w _ Q' hc.1 hdr h hw fun G' E' a' w' h1 h2 h3=>hn G' E' a' w' h1 (hp.trans h2) h3
 |.Sp T q bJ live,c,G₀,w₀,Q,Q',G,E,a,w,hc,hr,h,hp,hw=>by
  cases c<;>first|(simp[k8]at hc;done)|skip
  rename_i id ops draw
  simp only[k8,Bool.and_eq_true]at hc
  have hn:∀G' E' a' w',Inv G' n D E' a' w'->aG G₀ w₀ G' w'->yE live Q E'->Q' .normal a' w':=fun G' E' a' w' h1 h2 h3=>hr _ G' _ a' w' (h1.vp live) h2 h3
  have hdr:draw=true->Fu T ops q bJ=true:=fun hd=>by grind
  exact hD.2.1 D draw id ops bJ T q G E a w _ Q' hc.1 hdr h hw.1 hw.2 fun G' E' a' w' h1 h2 h3=>hn G' E' a' w' h1 (hp.trans h2) h3
 |.OR T l live,c,G₀,w₀,Q,Q',G,E,a,w,hc,hr,h,hp,hw=>by
  cases c<;>first|(simp[k8]at hc;done)|skip
  rename_i id ops draw
  simp only[k8,Bool.and_eq_true]at hc
  obtain⟨rfl,hc⟩:=hc
  have hn:∀G' E' a' w',Inv G' n D E' a' w'->aG G₀ w₀ G' w'->yE live Q E'->Q' .normal a' w':=fun G' E' a' w' h1 h2 h3=>hr _ G' _ a' w' (h1.vp live) h2 h3
  exact hD.2.2.1 D id ops T l G E a w _ Q' hc h hw.1 hw.2 fun G' E' a' w' h1 h2 h3=>hn G' E' a' w' h1 (hp.trans h2) h3
 |.Vw gQ bJ live,c,G₀,w₀,Q,Q',G,E,a,w,hc,hr,h,hp,hw=>by
  cases c<;>first|(simp[k8]at hc;done)|skip
  rename_i id ops draw
  simp only[k8,Bool.and_eq_true]at hc
  obtain⟨rfl,hc1,hc2⟩:=hc
  have hn:∀G' E' a' w',Inv G' n D E' a' w'->aG G₀ w₀ G' w'->yE live Q E'->Q' .normal a' w':=fun G' E' a' w' h1 h2 h3=>hr _ G' _ a' w' (h1.vp live) h2 h3
  exact hD.2.2.2 D id ops gQ bJ G E a w _ Q' hc1 hc2 h hw fun G' E' a' w' h1 h2 h3=>hn G' E' a' w' h1 (hp.trans h2) h3
 |.seq x y,c,G₀,w₀,Q,Q',G,E,a,w,hc,hr,h,hp,hw=>by
  cases c<;>first|(simp[k8]at hc;done)|skip
  rename_i c1 c2
  simp only[k8,Bool.and_eq_true]at hc
  refine wp_seq (cJ hD x c1 G₀ w₀ (Aa P y Q) _ G E a w hc.1 ?_ h hp ?_)
  ·intro e G' E' a' w' h1 h2 h3
   cases e with
   |normal=>exact cJ hD y c2 G₀ w₀ Q Q' G' E' a' w' hc.2 hr h1 h2 h3
   |_=>exact hr _ G' E' a' w' h1 h2 h3
  ·have:(fun x τ=>match x with|.normal=>fD P y Q τ|x=>Q x τ)=Aa P y Q:=by
    funext e τ;cases e<;>rfl
   have hw':fD P x (fun x τ=>match x with|.normal=>fD P y Q τ|x=>Q x τ) E:=hw
   grind
 |.cond cx x y,c,G₀,w₀,Q,Q',G,E,a,w,hc,hr,h,hp,hw=>by
  cases c<;>first|(simp[k8]at hc;done)|skip
  rename_i o c1 c2
  simp only[k8,Bool.and_eq_true]at hc
  obtain⟨⟨hx,h1⟩,h2⟩:=hc
  have hb:=XR.aV h hx
  have hw':Mm P x y Q E (E.x cx):=by
   have:fD P (.cond cx x y) Q E=Mm P x y Q E (E.x cx):=by
    show(match E.x cx with|.bool v=>(v=true->fD P x Q E)/\(v=false->fD P y Q E)|_=>False)=_
    cases E.x cx<;>rfl
   rw[<-this];exact hw
  generalize E.x cx=xv at hb hw'
  cases xv<;>try exact hw'.elim
  rename_i v
  have hv:=VR.gK hb
  exact wp_cond_split hv (fun hv=>cJ hD x c1 G₀ w₀ Q Q' G E a w h1 hr h hp (hw'.1 hv)) (fun hv=>cJ hD y c2 G₀ w₀ Q Q' G E a w h2 hr h hp (hw'.2 hv))
 |.block id x,c,G₀,w₀,Q,Q',G,E,a,w,hc,hr,h,hp,hw=>by
  cases c<;>first|(simp[k8]at hc;done)|skip
  rename_i id' c1
  simp only[k8,Bool.and_eq_true,beq_iff_eq]at hc
  obtain⟨rfl,hc⟩:=hc
  refine wp_block (cJ hD x c1 G₀ w₀ (NM id' Q) _ G E a w hc ?_ h hp hw)
  intro e G' E' a' w' h1 h2 h3
  cases e with
  |exit i=>
   have h3':(bif i==id' then Q .normal E' else Q (.exit i) E'):=h3
   by_cases hi:i=id'
   ·have:(i==id')=true:=by simpa using hi
    rw[this]at h3'
    simpa[Exit.inBlock,hi]using hr _ G' E' a' w' h1 h2 h3'
   ·have:(i==id')=false:=by simpa using hi
    rw[this]at h3'
    simpa[Exit.inBlock,hi]using hr _ G' E' a' w' h1 h2 h3'
  |_=>exact hr _ G' E' a' w' h1 h2 h3
 |.loop live x,c,G₀,w₀,Q,Q',G,E,a,w,hc,hr,h,hp,hw=>by
  cases c<;>first|(simp[k8]at hc;done)|skip
  rename_i c1
  simp only[k8]at hc
  obtain⟨I,μ,h0,hI⟩:=hw
  have key:∀(m:Nat)(G:Gh)(E:St)(a:Act)(w:World),Inv G n D E a w->aG G₀ w₀ G w->I E->μ E<m->Code.rounds P c1 Q' m a w:=by
   intro m
   induction m with
   |zero=>intro G E a w _ _ _ hm;omega
   |succ m ih=>
    intro G E a w h hp hi hm
    rw[rounds_succ]
    refine cJ hD x c1 G₀ w₀ (EA live I μ (μ E) Q) _ G E a w hc ?_ h hp (hI E hi)
    intro e G' E' a' w' h1 h2 h3
    cases e with
    |normal=>exact ih G' _ a' w' (h1.eQ live) h2 h3.1 (by have:=h3.2;omega)
    |_=>exact hr _ G' E' a' w' h1 h2 h3
  exact wp_loop_rounds (μ (E.eQ live)+1) (key _ G _ a w (h.eQ live) hp h0 (by omega))
 |.join live x y,c,G₀,w₀,Q,Q',G,E,a,w,hc,hr,h,hp,hw=>by
  cases c<;>first|(simp[k8]at hc;done)|skip
  rename_i c1 c2
  simp only[k8,Bool.and_eq_true]at hc
  obtain⟨J,h0,hJ⟩:=hw
  refine wp_seq (cJ hD x c1 G₀ w₀ (og live J Q) _ G E a w hc.1 ?_ h hp h0)
  intro e G' E' a' w' h1 h2 h3
  cases e with
  |normal=>exact cJ hD y c2 G₀ w₀ Q Q' G' _ a' w' hc.2 hr (h1.eQ live) h2 (hJ _ h3)
  |_=>exact hr _ G' E' a' w' h1 h2 h3
 |.exit id,c,G₀,w₀,Q,Q',G,E,a,w,hc,hr,h,hp,hw=>by
  cases c<;>first|(simp[k8]at hc;done)|skip
  simp only[k8,beq_iff_eq]at hc
  subst hc
  exact wp_exit (hr _ G E a w h hp hw)
 |.scope x,c,G₀,w₀,Q,Q',G,E,a,w,hc,hr,h,hp,hw=>by
  cases c<;>first|(simp[k8]at hc;done)|skip
  rename_i c1
  simp only[k8]at hc
  have hw':fD P x (vN Q) E:=by
   have:(fun x τ=>match x with|.goto _=>False|x=>Q x τ)=vN Q:=by funext e τ;cases e<;>rfl
   have hw':fD P x (fun x τ=>match x with|.goto _=>False|x=>Q x τ) E:=hw
   rw[this]at hw'
   exact hw'
  refine wp_scope_straight (cJ hD x c1 G₀ w₀ (vN Q) _ G E a w hc ?_ h hp hw')
  intro e G' E' a' w' h1 h2 h3
  cases e with
  |goto l=>exact h3
  |_=>exact hr _ G' E' a' w' h1 h2 h3
 |.B7 l live x1 x2 x3 y,c,G₀,w₀,Q,Q',G,E,a,w,hc,hr,h,hp,hw=>by
  unfold k8 at hc
  split at hc<;>try(cases hc;done)
  all_goals first|(rename_i he;cases he;done)|skip
  rename_i c1 m aij x1' x2' x3' y' he
  injection he with e1 e2 e3 e4 e5 e6
  subst e1;subst e2;subst e3;subst e4;subst e5;subst e6
  have hw':fD P x1 (Aa P x2 (Aa P x3 (GY live (Tz P l live y Q) Q))) E:=by rw[<-Kn];exact hw
  let C:(St->Prop)->(St->Nat)->Prop:=fun I μ=>∀τ,I τ->fD P y (Gq l live (fun ρ'=>I ρ'/\μ ρ'<μ τ) Q) τ
  have key:∀(L:List Code)(cr:Code),yL c1 l=some (L,cr)->k8 P n cr y=true->
   (∀Q0:Exit->Act->World->Prop,(∀e a w,e≠.normal->(∃G τ,Inv G n D τ a w/\aG G₀ w₀ G w/\GY live (Tz P l live y Q) Q e τ)->Q0 e a w)->
     (∀a w,(∃G τ,Inv G n D τ a w/\aG G₀ w₀ G w/\Tz P l live y Q (τ.eQ live))->((Code.label l).seq cr).wp P Q0 a w)->(L.foldr Code.seq (.seq (.label l) cr)).wp P Q0 a w)->
   (Code.scope c1).wp P Q' a w:=by
   intro L cr hsp hcr KL
   obtain⟨hc1,hfl⟩:=O3 _ hsp
   refine wp_scope_jumps l (fun a w=>∃k,qb n D G₀ w₀ C a w k) (K7 n D G₀ w₀ C) hfl ?_ ?_
   ·rw[hc1]
    refine KL _ (fun e a' w' he⟨G',τ,h1,h2,h3⟩=>?_) (fun a' w'⟨G',τ,h1,h2,h3⟩=>?_)
    ·cases e with
     |goto l=>exact h3.elim
     |normal=>grind
     |_=>exact hr _ G' τ a' w' h1 h2 h3
    ·obtain⟨I,μ,h4,hI⟩:=h3
     refine wp_seq (wp_label ?_)
     refine cJ hD y cr G₀ w₀ _ _ G' _ a' w' hcr ?_ (h1.eQ live) h2 (hI _ h4)
     intro e G2 σ2 a2 w2 q1 q2 q3
     cases e with
     |goto l=>exact⟨q3.1,_,I,μ,G2,_,hI,q1.eQ live,q2,q3.2.1,Nat.le_refl _⟩
     |_=>exact hr _ G2 σ2 a2 w2 q1 q2 q3
   ·intro a' w' hJ
    obtain⟨I,μ,G',τ,hI,h1,h2,h3,h4⟩:=(zh hJ).1
    refine wp_seq (wp_skip ?_)
    refine cJ hD y cr G₀ w₀ _ _ G' τ a' w' hcr ?_ h1 h2 (hI _ h3)
    intro e G2 σ2 a2 w2 q1 q2 q3
    cases e with
    |goto l=>
     have hk:qb n D G₀ w₀ C a2 w2 (μ (σ2.eQ live)):=⟨I,μ,G2,_,hI,q1.eQ live,q2,q3.2.1,Nat.le_refl _⟩
     refine⟨q3.1,⟨_,hk⟩,?_⟩
     have:=(zh ⟨_,hk⟩).2 _ hk
     have:=q3.2.2
     omega
    |_=>exact hr _ G2 σ2 a2 w2 q1 q2 q3
  split at hc
  ·rename_i cr hsp
   simp only[Bool.and_eq_true]at hc
   obtain⟨k1,k2,k3,hcr⟩:=hc
   rw[mT k1,mT k2,mT k3]at hw'
   exact key _ _ hsp hcr fun Q0 _ hb=>hb _ _ ⟨G,E,h,hp,hw'⟩
  ·rename_i s1 cr hsp
   simp only[Bool.and_eq_true]at hc
   obtain⟨k1,k2,k3,hcr⟩:=hc
   rw[mT k2,mT k3]at hw'
   refine key _ _ hsp hcr fun Q0 ha hb=>wp_seq (cJ hD x1 s1 G₀ w₀ _ _ G E a w k1 ?_ h hp hw')
   intro e G' E' a' w' h1 h2 h3
   cases e with
   |normal=>exact hb _ _ ⟨G',E',h1,h2,h3⟩
   |_=>exact ha _ _ _ (by simp) ⟨G',E',h1,h2,h3⟩
  ·rename_i s1 s2 cr hsp
   simp only[Bool.and_eq_true]at hc
   obtain⟨k1,k2,k3,hcr⟩:=hc
   rw[mT k3]at hw'
   refine key _ _ hsp hcr fun Q0 ha hb=>wp_seq (cJ hD x1 s1 G₀ w₀ _ _ G E a w k1 ?_ h hp hw')
   intro e G' E' a' w' h1 h2 h3
   cases e with
   |normal=>
    refine wp_seq (cJ hD x2 s2 G₀ w₀ _ _ G' E' a' w' k2 ?_ h1 h2 h3)
    intro e G' E' a' w' h1 h2 h3
    cases e with
    |normal=>exact hb _ _ ⟨G',E',h1,h2,h3⟩
    |_=>exact ha _ _ _ (by simp) ⟨G',E',h1,h2,h3⟩
   |_=>exact ha _ _ _ (by simp) ⟨G',E',h1,h2,h3⟩
  ·rename_i s1 s2 s3 cr hsp
   simp only[Bool.and_eq_true]at hc
   obtain⟨k1,k2,k3,hcr⟩:=hc
   refine key _ _ hsp hcr fun Q0 ha hb=>wp_seq (cJ hD x1 s1 G₀ w₀ _ _ G E a w k1 ?_ h hp hw')
   intro e G' E' a' w' h1 h2 h3
   cases e with
   |normal=>
    refine wp_seq (cJ hD x2 s2 G₀ w₀ _ _ G' E' a' w' k2 ?_ h1 h2 h3)
    intro e G' E' a' w' h1 h2 h3
    cases e with
    |normal=>
     refine wp_seq (cJ hD x3 s3 G₀ w₀ _ _ G' E' a' w' k3 ?_ h1 h2 h3)
     intro e G' E' a' w' h1 h2 h3
     cases e with
     |normal=>exact hb _ _ ⟨G',E',h1,h2,h3⟩
     |_=>exact ha _ _ _ (by simp) ⟨G',E',h1,h2,h3⟩
    |_=>exact ha _ _ _ (by simp) ⟨G',E',h1,h2,h3⟩
   |_=>exact ha _ _ _ (by simp) ⟨G',E',h1,h2,h3⟩
  ·cases hc
 |.label l,c,G₀,w₀,Q,Q',G,E,a,w,hc,hr,h,hp,hw=>by
  cases c<;>first|(simp[k8]at hc;done)|skip
  exact wp_label (hr _ G E a w h hp hw)
 |.goto l,c,G₀,w₀,Q,Q',G,E,a,w,hc,hr,h,hp,hw=>by
  cases c<;>first|(simp[k8]at hc;done)|skip
  simp only[k8,beq_iff_eq]at hc
  subst hc
  exact wp_goto (hr _ G E a w h hp hw)
 |.dead,c,G₀,w₀,Q,Q',G,E,a,w,hc,hr,h,hp,hw=>(show False from hw).elim
 |.ret,c,G₀,w₀,Q,Q',G,E,a,w,hc,hr,h,hp,hw=>by
  cases c<;>first|(simp[k8]at hc;done)|skip
  exact wp_ret (hr _ G E a w h hp hw)
end
structure jB where
 t:Nat
 own:Bool
 cell:Option (Nat×Bool):=none
 deriving Inhabited
def Sq(multi:Bool):Option (List AV)->AV
 |some cs=>na multi cs
 |none=>.undef
def sm(E:St)(r:jB):AV:=match r.cell with
 |none=>bif r.own then look E.e r.t else view (look E.e r.t)
 |some (n,multi)=>Sq multi (rd E (look E.e r.t) n)
def kp(E:St)(res:List jB):List AV:=res.map (sm E)
def ko(P:Program):List ResultVar->List jB->Bool
 |[],[]=>true
 |.tmp t::r,i::s=>t==i.t&&i.cell.isNone&&(!i.own||s.all fun j=>!(j.own&&j.t==i.t))&&ko P r s
 |.cell t ty::r,i::s=>t==i.t&&!i.own&&(match i.cell with
  |some (n,multi)=>cX P ty n&&pa P ty multi&&(multi||n==1)
  |none=>false)&&ko P r s
 |_,_=>false
def qJ:Nat->List AV->List (Nat×AV)
 |_,[]=>[]
 |i,a::r=>(i,view a)::qJ (i+1) r
def start(args:List AV)(s:ae):St:={e:=qJ 0 args,lp:=[],s:=s}
def qf(cs:List AV):Bool:=cs.all dh
def vJ(res:List jB)(Q:List AV->ae->Prop):Exit->St->Prop
 |.ret,E=>qf (kp E res)=true/\Q (kp E res) E.s
 |.normal,E=>qf (kp E res)=true/\Q (kp E res) E.s
 |_,_=>False
def eH(P:Program)(f:FuncId)(n:Nat)(res:List jB)(ic:IC):Bool:=match P.funcs[f]? with
 |some fn=>fn.ntmps==n&&ko P fn.results.toList res&&(match fn.body with
  |some c=>k8 P n c ic
  |none=>false)
 |none=>false
section
variable{P:Program}{G G':Gh}{n:Nat}{D:List Deferred}{E:St}{a:Act}{w w':World}
theorem oi(i:Nat):∀(args:List AV)(k:Nat),look (qJ k args) i=if k<=i then(match args[i -k]? with|some a=>view a|none=>.undef)else .undef
 |[],k=>by
  show AV.undef=_
  grind
 |a::r,k=>by
  show look ((k,view a)::qJ (k+1) r) i=_
  rw[bc,oi i r (k+1)]
  grind
theorem pT{args:List AV}{s:ae}{vs:Array Value}(hg:cq G w)(hs:a8 G w s)(ha:mn w G.R args vs)(hv:qf args=true)(hn:args.length<=n):
 Inv G n [] (start args s) {tmps:=vs++Array.replicate (n -vs.size) undef,defers:=[]} w:=by
 have hsz:=ha.1
 refine⟨hg,hs,by grind,fun i v hi=>?_,fun i hi=>?_,fun i t ht=>?_,rfl⟩
 ·show du G w (qJ 0 args) _ i (look (qJ 0 args) i) v
  rw[oi,Nat.sub_zero]
  cases hai:args[i]? with
  |none=>exact⟨.undef _,trivial⟩
  |some av=>
   have hvi:vs[i]? =some v:=by grind
   have hV:=by
    have:=List.all_eq_true.1 hv
    exact this av (List.mem_of_getElem? hai)
   exact du.xe hV (ha.2 i av v hai hvi)
 ·show look (qJ 0 args) i=.undef
  rw[oi,if_pos (Nat.zero_le _),List.getElem?_eq_none (by omega)]
 ·have ht':bG (look (qJ 0 args) i) t:=ht
  rw[oi,Nat.sub_zero]at ht'
  cases hai:args[i]? with
  |none=>rw[hai]at ht';exact ht'.elim
  |some av=>
   have hV:=List.all_eq_true.1 hv av (List.mem_of_getElem? hai)
   grind [eS,kP]
def Jw:List jB->Nat->Nat->Option Nat
 |[],_,_=>none
 |r::s,k,i=>bif r.own&&r.t==i then some k else Jw s (k+1) i
def BH(G:Gh)(res:List jB):c5->c5
 |.none=>.none
 |.frame=>.frame
 |.sh=>.sh
 |.slot i j=>(match j,Jw res 0 i with
  |0,some k=>.res k
  |_,_=>.none)
 |.cell b j=>if G.O b=.sh then .cell b j else .none
 |_=>.none
theorem ER:∀(vs:List ResultVar)(res:List jB),ko P vs res=true->vs.length=res.length
 |[],[],_=>rfl
 |v::vs,r::res,h=>by
  have:=by cases v<;>simp[ko,Bool.and_eq_true]at h<;>exact h.2
  simp[ER vs res this]
 |[],_::_,h=>by simp[ko]at h
 |_::_,[],h=>by simp[ko]at h
theorem vI:∀(vs:List ResultVar)(res:List jB)(k j:Nat)(r:jB),ko P vs res=true->res[j]? =some r->r.own=true->Jw res k r.t=some (k+j)
 |v::vs,r0::res,k,0,r,_,hj,ho=>by grind [Jw]
 |v::vs,r0::res,k,j+1,r,h,hj,ho=>by
  have hj':=by simpa using hj
  have ac9:=by cases v<;>simp[ko,Bool.and_eq_true]at h<;>exact h.2
  have hne:(r0.own&&r0.t==r.t)=false:=by
   cases hr0:r0.own with
   |false=>rfl
   |true=>
    cases v with
    |cell=>grind [ko]
    |tmp t=>
    simp[ko]at h
    grind
  show(bif r0.own&&r0.t==r.t then some k else Jw res (k+1) r.t)=_
  rw[vI vs res (k+1) j r ac9 hj' ho]
  grind
 |[],r0::res,_,_,_,h,_,_=>by simp[ko]at h
 |_,[],_,_,_,_,hj,_=>by grind
theorem du.U6{G:Gh}{w:World}{e:List (Nat×AV)}{tmps:Array Value}{i:Nat}{a:AV}{v:Value}(h:dh a=true\/dh (view a)=true):du G w e tmps i a v->(VR w G.R a v/\dn G w (.slot i 0) a v):=by cases a<;>simp_all [dh,view,du]
def Jx(vs:Array Value):Value:=if h:vs.size=1 then vs[0]else .tuple vs
theorem mapM_some{α β:Type}(f:α->Sem β)(w:World):∀(l:List α)(vs:List β),l.length=vs.length->(∀(j:Nat)(x:α)(v:β),l[j]? =some x->vs[j]? =some v->(f x).run P w=.ok v w)->(l.mapM f).run P w=.ok vs w
 |[],[],_,_=>by rfl
 |x::l,v::vs,hl,h=>by simp[h 0 x v rfl rfl,mapM_some f w l vs (by grind) (fun j y z hy hz=>h (j+1) y z (by grind) (by grind))]
 |[],_::_,hl,_=>by grind
 |_::_,[],hl,_=>by grind
def BF(tmps:Array Value):ResultVar->Sem Value
 |.tmp t=>pure (tmps.getD t undef)
 |.cell a t=>do loadVar t (<-asAddr (tmps.getD a undef))
theorem Jy{fn:Func}(tmps:Array Value)(w:World)(vs:List Value)(hl:fn.results.toList.length=vs.length)(h:∀(j:Nat)(x:ResultVar)(v:Value),fn.results.toList[j]? =some x->vs[j]? =some v->(BF tmps x).run P w=.ok v w):
 (results fn tmps).run P w=.ok (Jx vs.toArray) w:=by
 have e:=mapM_some _ w _ _ hl h
 unfold results
 rw[Array.mapM_eq_mapM_toList]
 have key:∀F,F=BF tmps->(do let vs<-List.toArray<$>fn.results.toList.mapM F;pure (if h:vs.size=1 then vs[0]else .tuple vs)).run P w=.ok (Jx vs.toArray) w:=by
  intro F hF
  subst hF
  simp[Sem.run_bind,Sem.run_map,e]
  rfl
 exact key _ (by rfl)
theorem Ap{fn:Func}{res:List jB}{Q:List AV->ae->Prop}{E':St}{a':Act}(mJ:ko P fn.results.toList res=true)(h:Inv G' n D E' a' w')(hp:aG G w G' w')(dq:qf (kp E' res)=true)(hQ:Q (kp E' res) E'.s):
 ∃v,(results fn a'.tmps).run P w'=.ok v w'/\∃v' rs s' G'',Ending.returned v=.returned v'/\Q rs s'/\cq G'' w'/\a8 G'' w' s'/\mB G'' w' rs v'/\aG G w G'' w':=by
 let G2:Gh:=⟨G'.R,fun b=>BH G' res (G'.O b)⟩
 have hV:∀(j:Nat)(r:jB),res[j]? =some r->dh (sm E' r)=true:=fun j r hj=>by
  refine List.all_eq_true.1 dq _ ?_
  exact List.mem_map.2 ⟨r,List.mem_of_getElem? hj,rfl⟩
 have hlen:=ER _ _ mJ
 have get:∀(vs:List ResultVar)(rs:List jB),ko P vs rs=true->∀(j:Nat)(x:ResultVar)(r:jB),vs[j]? =some x->rs[j]? =some r->
  (x=.tmp r.t/\r.cell=none)\/∃ty n m,x=.cell r.t ty/\r.cell=some (n,m)/\r.own=false/\cX P ty n=true/\pa P ty m=true/\(m||n==1)=true:=by
  intro vs
  induction vs with
  |nil=>grind
  |cons v vs ih=>
   intro rs hh j x r hx hr
   cases rs with
   |nil=>simp at hr
   |cons r0 rs=>
    cases j with
    |succ j=>
     refine ih rs ?_ j x r (by grind) (by grind)
     cases v<;>simp only[ko,Bool.and_eq_true]at hh<;>exact hh.2
    |zero=>
     simp at hx hr;subst hx;subst hr
     cases v with
     |tmp t=>
      simp only[ko,Bool.and_eq_true,beq_iff_eq]at hh
      simp_all
     |cell t ty=>
      simp only[ko,Bool.and_eq_true,beq_iff_eq]at hh
      grind
 have KO:∀(j:Nat)(x:ResultVar)(r:jB),fn.results.toList[j]? =some x->res[j]? =some r->∃v,(BF a'.tmps x).run P w'=.ok v w'/\VR w' G2.R (sm E' r) v/\dn G2 w' (.res j) (sm E' r) v:=by
  intro j x r hx hj
  have hi:=hV j r hj
  have hlk:look E'.e r.t≠.undef:=by
   intro e
   unfold sm at hi
   rw[e]at hi
   cases hr:r.cell with
   |none=>
    rw[hr]at hi
    cases ho:r.own with
    |true=>rw[ho]at hi;cases hi
    |false=>rw[ho]at hi;cases hi
   |some nm=>rw[hr]at hi;obtain⟨n1,m1⟩:=nm;cases hi
  have hlt:r.t<a'.tmps.size:=by rw[h.size];exact h.BA hlk
  rcases get _ _ mJ j x r hx hj with⟨rfl,dT⟩|⟨ty,n1,m1,rfl,dT,ho,hs1,ha1,h11⟩
  ·refine⟨a'.tmps.getD r.t undef,rfl,?_⟩
   have hi':dh (look E'.e r.t)=true\/dh (view (look E'.e r.t))=true:=by
    unfold sm at hi
    rw[dT]at hi
    cases hr:r.own with
    |true=>grind
    |false=>grind
   have hs:=h.cu r.t _ (fQ hlt)
   replace hs:=du.U6 hi' hs
   have he:a'.eval (.tmp r.t)=a'.tmps.getD r.t undef:=rfl
   rw[he]at hs
   unfold sm
   rw[dT]
   cases hr:r.own with
   |false=>exact⟨hs.1.view,dn.view ..⟩
   |true=>
    refine⟨hs.1,?_⟩
    have ho:=hs.2
    show dn G2 w' (.res j) (look E'.e r.t) _
    unfold dn at ho⊢
    split
    ·rename_i sz m cs hsl
     rw[hsl]at ho
     intro base m' cap hv hc
     obtain⟨b,off,c,e,fz,q1,q2,q3⟩:=ho base m' cap hv hc
     refine⟨b,off,c,e,fz,q1,?_,q3⟩
     show BH G' res (G'.O b)=.res j
     rw[q2]
     have:=vI fn.results.toList res 0 j r mJ hj hr
     simp[BH,this]
    ·rename_i e m cs hsl
     rw[hsl]at ho
     intro base m' cap hv hc
     obtain⟨b,off,c,fz,q1,q2,q3⟩:=ho base m' cap hv hc
     refine⟨b,off,c,fz,q1,?_,q3⟩
     show BH G' res (G'.O b)=.res j
     rw[q2]
     have:=vI fn.results.toList res 0 j r mJ hj hr
     simp[BH,this]
    ·trivial
  ·unfold sm at hi⊢
   rw[dT]at hi⊢
   have hb:BR G' w' E' a' (.t r.t) (look E'.e r.t) (a'.tmps.getD r.t undef):=by
    have:=BR.aV h (o:=.tmp r.t) (x:=.t r.t) (by simp[bI])
    have hun:xg true E' (.t r.t)=tZ true (look E'.e r.t):=rfl
    rw[hun]at this
    generalize look E'.e r.t=av at this hi
    cases av<;>first|exact this|(cases hi;done)|trivial
   have hi:dh (Sq m1 (rd E' (look E'.e r.t) n1))=true:=hi
   show∃v,_/\VR w' G2.R (Sq m1 (rd E' (look E'.e r.t) n1)) v/\dn G2 w' (.res j) (Sq m1 (rd E' (look E'.e r.t) n1)) v
   cases hrd:rd E' (look E'.e r.t) n1 with
   |none=>rw[hrd]at hi;cases hi
   |some cs=>
    obtain⟨b,off,e,hl,hat,hvw⟩:=BW h hb hrd
    obtain⟨v,bR,hvr⟩:=oP hs1 ha1 h11 hl hat
    refine⟨v,?_,hvr,?_⟩
    ·show(do loadVar ty (<-asAddr (a'.tmps.getD r.t undef)):Sem Value).run P w'=_
     grind [asAddr]
    ·have QX:=Cq (multi:=m1) hvw
     show dn G2 w' (.res j) (na m1 cs) v
     grind [dn.view]
 have acS:∃vs:List Value,fn.results.toList.length=vs.length/\∀(j:Nat)(x:ResultVar)(r:jB)(v:Value),fn.results.toList[j]? =some x->res[j]? =some r->vs[j]? =some v->(BF a'.tmps x).run P w'=.ok v w'/\VR w' G2.R (sm E' r) v/\dn G2 w' (.res j) (sm E' r) v:=by
  have hch:∀j:Fin fn.results.toList.length,∃v,∀(x:ResultVar)(r:jB),fn.results.toList[j.1]? =some x->res[j.1]? =some r->(BF a'.tmps x).run P w'=.ok v w'/\VR w' G2.R (sm E' r) v/\dn G2 w' (.res j.1) (sm E' r) v:=by
   intro j
   have hr:j.1<res.length:=by rw[<-hlen];exact j.2
   obtain⟨v,hv⟩:=KO j.1 _ _ (List.getElem?_eq_getElem j.2) (List.getElem?_eq_getElem hr)
   refine⟨v,fun x r hx ve=>?_⟩
   rw[List.getElem?_eq_getElem j.2]at hx
   rw[List.getElem?_eq_getElem hr]at ve
   injection hx with hx;injection ve with ve
   subst hx;subst ve
   exact hv
  refine⟨List.ofFn fun j=>(hch j).choose,by simp,fun j x r v hx hr hv=>?_⟩
  have hj:j<fn.results.toList.length:=(List.getElem?_eq_some_iff.1 hx).1
  have:=(hch ⟨j,hj⟩).choose_spec x r hx hr
  simp only[List.getElem?_ofFn,hj,dite_true]at hv
  injection hv with hv
  rw[hv]at this
  exact this
 obtain⟨vs,hvl,hvs⟩:=acS
 refine⟨_,Jy a'.tmps w' vs hvl (fun j x v hx hv=>by
  have hj:j<res.length:=by rw[<-hlen];exact(List.getElem?_eq_some_iff.1 hx).1
  exact(hvs j x _ v hx (List.getElem?_eq_getElem hj) hv).1),?_⟩
 have nW:∀(j:Nat)(r:jB)(v:Value),res[j]? =some r->vs[j]? =some v->VR w' G2.R (sm E' r) v/\dn G2 w' (.res j) (sm E' r) v:=by
  intro j r v hr hv
  have hj:j<fn.results.toList.length:=by rw[hvl];exact(List.getElem?_eq_some_iff.1 hv).1
  exact(hvs j _ r v (List.getElem?_eq_getElem hj) hr hv).2
 have ag2:vs.length=res.length:=by rw[<-hvl,hlen]
 refine⟨_,kp E' res,E'.s,G2,rfl,hQ,⟨fun b hb=>?_,h.ba.kB⟩,?_,?_,?_⟩
 ·show BH G' res (G'.O b)=.none
  rw[h.ba.jJ b hb];rfl
 ·refine h.store.xf (fun _ _ hv=>hv) (fun b hb=>⟨?_,rfl,rfl⟩) (fun b c j hb hc=>⟨?_,rfl,rfl⟩)
  ·show BH G' res (G'.O b)=.sh
   rw[hb];rfl
  ·show BH G' res (G'.O c)=.cell b j
   rw[hc];simp[BH,hb]
 ·match res,vs,ag2,nW with
  |[],[],_,_=>exact⟨#[],rfl,rfl,fun j x y hx=>by grind⟩
  |[r],[v],_,nW=>
   have h1:=nW 0 r v rfl rfl
   have h2:=hV 0 r rfl
   show XJ G2 w' (sm E' r) v
   generalize sm E' r=av at h1 h2
   cases av<;>first|exact h1|cases h2
  |r1::r2::rr,v1::v2::vv,hl2,nW=>
   refine⟨_,rfl,by grind,fun j x y hx hy=>?_⟩
   grind
 ·refine⟨hp.os,hp.tape,hp.output,hp.drawn,hp.size,hp.mono,hp.mj,hp.frame,fun b hb ho=>?_,fun b hb ho=>?_⟩
  ·obtain⟨e1,e2⟩:=hp.jy b hb ho
   exact⟨by show BH G' res (G'.O b)=_;rw[e1];rfl,e2⟩
  ·obtain⟨e1,e2⟩:=hp.pN b hb ho
   exact⟨by show BH G' res (G'.O b)=_;rw[e1];rfl,e2⟩
theorem FN.of{f:FuncId}{res:List jB}{ic:IC}{args:List AV}{s:ae}{Q:List AV->ae->Prop}(hD:uM P n)(hf:eH P f n res ic=true)(hv:qf args=true)(hn:args.length<=n)
 (hw:fD P ic (vJ res Q) (start args s)):FN P f args s Q:=by
 intro G w vs hg ho hs ha
 unfold eH at hf
 split at hf<;>try(cases hf)
 rename_i fn hfn
 simp[Bool.and_eq_true,beq_iff_eq]at hf
 obtain⟨⟨rfl,mJ⟩,hf⟩:=hf
 split at hf<;>try(cases hf)
 rename_i c hb
 refine calls_of_wp hfn hb (cJ hD ic c G w (vJ res Q) _ G _ _ w hf ?_ (pT hg hs ha hv hn) (aG.refl G w) hw)
 intro x G' E' a' w' h hp hq
 have fin:qf (kp E' res)=true/\Q (kp E' res) E'.s->a'.defers=[]/\∃v,(results fn a'.tmps).run P w'=.ok v w'/\∃v' rs s' G'',Ending.returned v=.returned v'/\Q rs s'/\cq G'' w'/\a8 G'' w' s'/\mB G'' w' rs v'/\aG G w G'' w':=by
  intro hq
  obtain⟨dq,hQ⟩:=hq
  exact⟨h.pn,Ap mJ h hp dq hQ⟩
 cases x with
 |ret=>exact fin hq
 |normal=>exact fin hq
 |_=>exact hq.elim
end
end Go.AB
end
