/- A part of the proof: Ab14b, Ab15u, Ab16, Ab17. -/
import Derived.Test.YtkeagffgdajggaaGreatSo5
import Derived.Test.YtkeagffgdajggaaGreatSo7
import Derived.Lib.Builder
import Derived.Tactics
import Derived.Scope
import Derived.LoopN
import Derived.ScopeJumps
set_option linter.unusedSimpArgs false
set_option linter.unusedVariables false
section
namespace Go.AB
open Go
section
variable{P:Program}{G G':Gh}{n:Nat}{D:List Deferred}{σ:St}{a:Act}{w w':World}
theorem VR.O3{R:Nat→Nat}{t:Nat}{cs:List AV}{v:Value}(h:VR w R (.bb t 0 cs) v):v=.slice none 0 0:=by cases h with|bb _ _ _ _ h h0=>exact h0 rfl
theorem VR.MN{R:Nat→Nat}{t n:Nat}{cs:List AV}{v:Value}(h:VR w R (.bb t n cs) v):VR w R (.sl true 1 n cs) v:=by cases h;assumption
theorem Inv.Wz(h:Inv G n D σ a w){d:Option Nat}(hd:ba n d=true){m cap:Nat}{cs:List AV}{c:Array Value}{t:TypeId}{ob:cY}(hm0:0<m)(hob:∀i,d=some i→ob=.slot i 0)(hobn:d=none→ob=.none)
 (hl:cs.length=m*1)(hcap:m≤cap)(hsz:c.size=cap*1)(hfl:Fl cs)
 (hcs:∀(j:Nat)(x:AV),cs[j]? =some x→∃y,c[j]? =some y∧VR w G.R x y)(fz:Nat×Nat)(hfz:(∀k,k<c.size→¬(fz.1≤k∧k<fz.2))∧fz.1≤fz.2)(hz0:fz=(0,0)∨(0<m∧∃x,c[0]? =some (.int .u8 x)))(hsp:∀(k:Nat)(y:Value),m*1≤k→c[k]? =some y→y.oneCell'=true):
 ∃G',Inv G' n D (σ.put d (.bb t m cs)) (a.put d (.slice (some ⟨w.heap.size,0,none⟩) m cap)) (w.alloc (.cells c t fz))∧aG G w G' (w.alloc (.cells c t fz)):=by
 have hp:=(fF h.aO (.cells c t fz) ob cs.length).2.1
 obtain⟨h1,h2⟩:=h.alloc (.cells c t fz) ob cs.length d hd (.bb t m cs) (.slice (some ⟨w.heap.size,0,none⟩) m cap) σ.lp (jr h.store h.aO _ ob cs.length) (fun _ hx=>hx) (fun i t' _ ht=>ht.elim)
  (fun i t' _⟨cs',hcs'⟩=>by cases hcs')
  (fun i hi=>by
    refine⟨?_,?_⟩
    ·refine .bb t m cs _ (.sl true 1 m cs w.heap.size 0 cap (fun j=>c.getD j undef) hfl hl (by simp) hcap (fun j x hj=>?_) (fun j x hj=>?_)) (fun e=>by omega)
     ·obtain⟨y,hy,_⟩:=hcs j x hj
      rw[Nat.zero_add,cell_of_row _ (heap_alloc_new w _),hy]
      simp[Array.getD_eq_getD_getElem?,hy]
     ·obtain⟨y,hy,hv⟩:=hcs j x hj
      have:c.getD j undef=y:=by simp[Array.getD_eq_getD_getElem?,hy]
      rw[this]
      exact hp.vr h.aO hv
    ·intro base m' cap' hv hc
     injection hv with e1 e2 e3
     subst e3
     exact⟨w.heap.size,0,c,fz,e1.symm,by simp[hob i hi],by simp[hl],heap_alloc_new w _,by rw[hsz,Nat.zero_add],hfz.1,hfz.2,rfl,hz0,fun k y hk=>hsp k y (by omega)⟩)
 exact⟨_,by cases d<;>exact h1,h2⟩
theorem Inv.Sf(h:Inv G n D σ a w){d:Option Nat}(hd:ba n d=true){b off k m cap:Nat}{c:Array Value}{t:TypeId}{fz:Nat×Nat}{cs ds:List AV}{v:Value}{news:List Value}{R:Nat→Nat}
 (hb:w.heap[b]? =some (.cells c t fz))(hfz:(∀j,j<c.size→¬(fz.1≤j∧j<fz.2))∧fz.1≤fz.2)(hof:off=0)(hz0:fz=(0,0)∨(0<k∧0<1∧∃x,c[0]? =some (.int .u8 x)))(hsp:∀(i:Nat)(y:Value),off+k*1≤i→c[i]? =some y→y.oneCell'=true)(ho:∀i,d=some i→G.O b=.slot i 0)(hon:G.O b≠.none∧G.O b≠.frame∧G.O b≠.sh∧(∀i,G.O b≠.loc i)∧(∀i j,G.O b≠.cell i j)∧(∀i j,G.O b=.slot i j→d=some i∧j=0))
 (hR:G.R b=off+k*1)(hsz:c.size=off+cap*1)(hcap:k+m≤cap)(hkm:0<k+m)(hlc:cs.length=k*1)(hat:At w G.R b off cs)(hs:Src P w R 1 m ds v news)(hRR:R=G.R):
 ∃G',Inv G' n D (σ.put d (.bb t (k+m) (cs++ds))) (a.put d (.slice (some ⟨b,off,none⟩) (k+m) cap)) (w.setRow b (laid c (off+k*1) news))∧aG G w G' (w.setRow b (laid c (off+k*1) news)):=by
 subst hRR
 have hfit:off+k*1+news.length≤c.size:=by
  rw[hs.len,hsz,Nat.add_assoc,←Nat.add_mul]
  exact Nat.add_le_add_left (Nat.mul_le_mul_right _ hcap) _
 let G':=G.oA b (G.O b) (off+(k+m)*1)
 have hmul:(k+m)*1=k*1+m*1:=Nat.add_mul ..
 have hpres:aG G w G' (w.setRow b (laid c (off+k*1) news)):=aG.write hb ⟨hon.2.1,hon.1⟩
  (fun j hj=>by rw[hR]at hj;rw[jK _ _ _ hfit,if_neg (by omega)]) (by simp only[G',Gh.RE,if_true,hR,hmul];omega) (fun b' hb'=>by simp[G',hb'])
 have hgood:b9 G' (w.setRow b (laid c (off+k*1) news)):=by
  have hlt:b<w.heap.size:=h.aO.lt hon.1
  refine⟨fun b' hb'=>?_,fun b' hb'=>?_⟩
  ·have hb'':w.heap.size≤b':=by simpa[World.setRow]using hb'
   have:b'≠b:=by omega
   simp[G',this,h.aO.iA b' hb'']
  ·have hb'':w.heap.size≤b':=by simpa[World.setRow]using hb'
   have:b'≠b:=by omega
   simp[G',this,h.aO.iU b' hb'']
 have same:∀b',b'≠b→G'.O b'=G.O b'∧G'.R b'=G.R b'∧(w.setRow b (laid c (off+k*1) news)).heap[b']? =w.heap[b']? :=fun b' hb'=>⟨by simp[G',hb'],by simp[G',hb'],setRow_other w b b' _ hb'⟩
 have c6:=h.store.mono h.aO hpres (fun b' hb'=>by
  obtain⟨q1,q2,q3⟩:=same b' (fun e=>by subst e;exact hon.2.2.1 hb')
  exact⟨q1.trans hb',q2,q3⟩) (fun b' c' j _ hc'=>by
  obtain⟨q1,q2,q3⟩:=same c' (fun e=>by subst e;exact hon.2.2.2.2.1 _ _ hc')
  exact⟨q1.trans hc',q2,q3⟩)
 have:=h.put (s':=σ.s) (lp':=σ.lp) d (fun i hi=>by subst hi;simpa[ba]using hd) (.bb t (k+m) (cs++ds)) (.slice (some ⟨b,off,none⟩) (k+m) cap) hgood hpres c6 (fun _ hx=>hx) (fun i t _ ht=>ht.elim) (fun i t _⟨cs',hcs'⟩=>by cases hcs')
  (fun i b' hdi hb'=>same b' (fun e=>by
    subst e
    rcases hb' with⟨j,hb'⟩|hb'
    ·exact hdi (hon.2.2.2.2.2 i j hb').1
    ·exact hon.2.2.2.1 _ hb'))
  (fun i b' c' j hdi hb' hc'=>by
    obtain⟨q1,q2,q3⟩:=same c' (fun e=>by subst e;exact hon.2.2.2.2.1 _ _ hc')
    exact⟨q1.trans hc',q2,q3⟩)
  (fun i hi=>by
    obtain⟨u,u1,u2,u3⟩:=hat
    subst hi
    refine⟨?_,?_⟩
    ·have hll:(cs++ds).length=(k+m)*1:=by rw[List.length_append,hlc,hs.oe,hmul]
     refine .bb t (k+m) (cs++ds) _ (.sl true 1 (k+m) (cs++ds) b off cap (fun j=>if j<k*1 then u j else news.getD (j -k*1) undef) (fun x hx=>?_) hll (by rw[hll];simp[G']) hcap (fun j x hj=>?_) (fun j x hj=>?_)) (fun e=>by omega)
     ·rcases List.mem_append.1 hx with hx|hx
      ·exact u3 x hx
      ·exact hs.fl x hx
     ·rw[sO hb,if_pos rfl,jK _ _ _ hfit]
      have hjl:j<(k+m)*1:=by rw[←hll];exact(List.getElem?_eq_some_iff.1 hj).1
      by_cases hjk:j<k*1
      ·rw[if_neg (by omega),if_pos hjk]
       rw[List.getElem?_append_left (by rw[hlc];exact hjk)]at hj
       rw[←cell_of_row w hb]
       exact u1 j x hj
      ·have h1:=hs.len
       rw[if_pos (by omega),if_neg hjk]
       have:off+j -(off+k*1)=j -k*1:=by omega
       rw[this]
       have hlt:j -k*1<news.length:=by omega
       rw[List.getD_eq_getElem?_getD,List.getElem?_eq_getElem hlt];rfl
     ·by_cases hjk:j<k*1
      ·rw[if_pos hjk]
       rw[List.getElem?_append_left (by rw[hlc];exact hjk)]at hj
       exact hpres.vr h.aO (u2 j x hj)
      ·rw[if_neg hjk]
       rw[List.getElem?_append_right (by rw[hlc];omega),hlc]at hj
       have h1:=hs.len
       have h2:=hs.oe
       have hlt:j -k*1<news.length:=by have:=(List.getElem?_eq_some_iff.1 hj).1;omega
       have hn:news[j -k*1]? =some (news.getD (j -k*1) undef):=by rw[List.getD_eq_getElem?_getD,List.getElem?_eq_getElem hlt];rfl
       exact hpres.vr h.aO (hs.jZ _ x _ hj hn)
    ·intro base m' cap' hv hc
     injection hv with e1 e2 e3
     subst e3
     exact⟨b,off,_,fz,e1.symm,by simp only[G',Gh.N8,if_true];exact ho i rfl,by simp[G'],setRow_heap w b c _ t fz hb,by rw[oU _ _ _ hfit,hsz],by rw[oU _ _ _ hfit];exact⟨hfz.1,hfz.2,hof,hz0.imp id fun⟨z1,z2,x,z3⟩=>⟨by omega,x,by
      have zp:0<k*1:=Nat.mul_pos z1 z2
      rw[jK _ _ _ hfit,if_neg (by omega)];exact z3⟩,fun i y hi hy=>by
      rw[jK _ _ _ hfit]at hy
      split at hy
      ·exact hs.one _ (List.mem_of_getElem? hy)
      ·exact hsp i y (by rw[hmul]at hi;omega) hy⟩⟩)
 exact⟨G',by cases d<;>exact this,hpres⟩
theorem Gw(h:Inv G n D σ a w){op:Op}{ty:TypeId}{tb:Nat}{x y:IX}{d:Option Nat}{K:St→Prop}(hd:ba n d=true)(hc:au P op ty (.lX tb x y)=true)(hw:gH P (.lX tb x y) d σ K):mj P G n D w a op ty d K:=by
 cases op<;>first|(simp[au]at hc;done)|skip
 rename_i c
 simp only[au]at hc
 split at hc<;>try(cases hc;done)
 rename_i u v t t' hb
 have hce:=mC hb
 subst hce
 simp only[Bool.and_eq_true]at hc
 obtain⟨⟨hu,hv⟩,hc⟩:=hc
 split at hc<;>try(cases hc;done)
 rename_i e ht
 have ht:=cC ht
 simp only[Bool.and_eq_true]at hc
 obtain⟨⟨⟨⟨hs,hby⟩,hzl⟩,ht'⟩,heb⟩:=hc
 obtain rfl:e=tb:=by simpa using heb
 obtain⟨i,z,hi,hz,hzs,hz1⟩:=CA hzl
 obtain⟨i',hi',hisz⟩:=iE hs
 rw[hi]at hi';injection hi' with hi';subst hi'
 have hpos:0<1:=Nat.one_pos
 have hbpos:0<1:=Nat.one_pos
 have hby:i.bytes=1:=by
  unfold iY at hby
  rw[hi]at hby
  simpa using hby
 have ht2:(∃e',P.underlying t'=some (.slice e'))∨P.underlying t'=some .string:=by
  rcases Bool.or_eq_true .. ▸ht' with h|h
  ·cases he:ct P t' with
   |none=>rw[he]at h;cases h
   |some e'=>exact .inl ⟨e',cC he⟩
  ·exact .inr (xc h)
 have hw':oC e σ x d K (σ.x x) (σ.x y):=hw
 have key:∃k m cs ds news,σ.x x=.bb e k cs∧Src P w G.R 1 m ds (a.eval v) news∧(k+m)*1≤room∧K ((σ.drain x).put d (.bb e (k+m) (cs++ds))):=by
  have hbx:=XR.aJ h hu
  have hby:=XR.aJ h hv
  generalize hx:σ.x x=xv at hw' hbx
  generalize hy:σ.x y=yv at hw' hby
  unfold oC at hw'
  split at hw'<;>try(exact hw'.elim)
  ·rename_i t' k cs o s' m ds
   obtain⟨rfl,h2,h3,h4⟩:=hw'
   obtain⟨news,hsrc⟩:=Src.Q8 (P:=P) hby h2
   exact⟨k,m,cs,views ds,news,rfl,hsrc,h3,h4⟩
  ·rename_i t' k cs ds
   obtain⟨rfl,h3,h4⟩:=hw'
   have e1:=VR.eT hby
   exact⟨k,ds.length,cs,_,_,rfl,by rw[e1];exact Src.Fq,h3,h4⟩
 obtain⟨k,m,cs,ds,news,hx,hsrc,hroom,hk⟩:=key
 have hiv:c9 (σ.x x)=true:=by rw[hx];rfl
 obtain⟨G1,h1,hp1,hv1,hown1,hR1,hsh,hloc,hcell⟩:=h.drain hu hiv (zq d) (by cases d<;>simp[zq]) (by cases d<;>simp[zq])
 rw[hx]at hv1 hown1
 have hsrc1:Src P w G1.R 1 m ds (a.eval v) news:=by rw[hR1];exact hsrc
 have grow:∀(base:Option Addr)(cap:Nat)(olds:List Value),a.eval u=.slice base k cap→cap<k+m→olds.length=k*1→cs.length=k*1→Fl cs→
  (Builtin.firstCells 1 k (.slice base k cap)).run P w.drew=.ok olds.toArray w.drew→(∀(j:Nat)(c:AV)(u:Value),cs[j]? =some c→olds[j]? =some u→VR w G1.R c u)→
  mj P G n D w a (.call {callee:=.builtin .append,args:= #[u,v],argTypes:= #[t,t']}) ty d K:=by
  intro base cap olds e1 hgrow hol hcl hcf hold hvals
  have hrun:=qa (ty:=ty) ht ht2 hi hz hisz hsrc1 hold hgrow (by rw[hby];exact hroom) (by rw[hby];exact hbpos)
  have hge:k+m≤grownCap w (k+m) cap e:=grownCap_ge w (k+m) cap e
  obtain⟨G2,h3,h4⟩:=(h1.drew).Wz (t:=e) (c:=olds.toArray++news.toArray++Builtin.zeroCells z.cells (grownCap w (k+m) cap e -(k+m))) (m:=k+m) (cs:=cs++ds) (cap:=grownCap w (k+m) cap e) (ob:=match d with|some i=>.slot i 0|none=>.none) hd (by omega)
   (fun i hi=>by subst hi;rfl) (fun hn=>by subst hn;rfl) (by rw[List.length_append,hcl,hsrc.oe,Nat.add_mul]) hge (by
     simp only[Array.size_append,List.size_toArray,size_zeroCells,hol,hsrc.len,hzs,←Nat.add_mul]
     congr 1;omega) (fun c hc=>by
     rcases List.mem_append.1 hc with hc|hc
     ·exact hcf c hc
     ·exact hsrc.fl c hc)
   (fun j x hj=>by
     have hl1:=hsrc.len
     have hl2:=hsrc.oe
     by_cases hjk:j<k*1
     ·rw[List.getElem?_append_left (by rw[hcl];exact hjk)]at hj
      have hlt:j<olds.length:=by rw[hol];exact hjk
      refine⟨olds[j],?_,?_⟩
      ·rw[Array.append_assoc,Array.getElem?_append_left (by simpa using hlt)]
       simp[hlt]
      ·exact(aG.drew G1 w).vr h1.aO (hvals j x _ hj (List.getElem?_eq_getElem hlt))
     ·rw[List.getElem?_append_right (by rw[hcl];omega),hcl]at hj
      have hlt:j -k*1<news.length:=by have:=(List.getElem?_eq_some_iff.1 hj).1;omega
      refine⟨news[j -k*1],?_,?_⟩
      ·rw[Array.append_assoc,Array.getElem?_append_right (by simp[hol];omega),Array.getElem?_append_left (by simp[hol];omega)]
       simp only[List.size_toArray,hol,List.getElem?_toArray]
       exact List.getElem?_eq_getElem hlt
      ·exact(aG.drew G1 w).vr h1.aO (hsrc1.jZ _ x _ hj (List.getElem?_eq_getElem hlt))) (0,0) ⟨fun k _ hk=>by simp at hk,Nat.le_refl _⟩ (.inl rfl) (fun i y hi hy=>by
     rw[Array.append_assoc,←Array.append_assoc,Array.getElem?_append_right (by simp only[Array.size_append,List.size_toArray,hol,hsrc.len,←Nat.add_mul];exact hi)]at hy
     exact uG hz1 _ _ (List.mem_of_getElem? (by rw[Array.getElem?_toList];exact hy)))
  intro pos after gd next Q hn
  refine aN ?_ (hn G2 _ _ _ h3 (hp1.trans ((aG.drew G1 w).trans h4)) hk)
  simp[execOp,resolve,invoke,builtin,e1,hrun]
 rcases VR.fR (VR.MN hv1)with⟨e0,rfl,rfl⟩|⟨b,off,cap,e1,hcl,hRb,hcap,hat⟩
 ·
  have e1:=e0.own
  by_cases hm:m=0
  ·subst hm
   have hds:ds=[]:=List.eq_nil_of_length_eq_zero (by simpa using hsrc.oe)
   subst hds
   have hrun:=mf (ty:=ty) ht ht2 hi hisz hsrc1
   have hput:Inv G1 n D ((σ.drain x).put d (.bb e 0 [])) (a.put d (.slice none 0 0)) w:=by
    have:=h1.put (s':=(σ.drain x).s) (lp':=(σ.drain x).lp) d (fun i hi=>by subst hi;simpa[ba]using hd) (.bb e 0 []) (.slice none 0 0) h1.aO (aG.refl G1 w) h1.store (fun _ hx=>hx) (fun i t _ ht=>ht.elim) (fun i t _⟨cs,hcs⟩=>by cases hcs)
     (fun _ _ _ _=>⟨rfl,rfl,rfl⟩) (fun _ _ _ _ _ _ hcc=>⟨hcc,rfl,rfl⟩) (fun i hdi=>⟨.bb _ _ _ _ (.slnil _ _) (fun _=>rfl),fun base m' cap' hv hc=>by injection hv with _ e2 e3;omega⟩)
    cases d<;>exact this
   intro pos after gd next Q hn
   refine aN (w':=w) ?_ (hn G1 _ _ _ hput hp1 hk)
   simp[execOp,resolve,invoke,builtin,e1,hrun]
  ·exact grow none 0 [] e1 (by omega) (by simp) (by simp) Fl.nil (by simp[Builtin.firstCells]) (fun j c u hc=>by simp at hc)
 ·by_cases hfit:k+m≤cap
  ·by_cases hm:m=0
   ·subst hm
    have hds:ds=[]:=List.eq_nil_of_length_eq_zero (by simpa using hsrc.oe)
    have hnews:news=[]:=List.eq_nil_of_length_eq_zero (by simpa using hsrc.len)
    subst hds;subst hnews
    have hrun:=gF (ty:=ty) (w:=w) ht ht2 hi hisz hsrc1 (b:=b) (off:=off) (k:=k) (cap:=cap) hfit (w':=w) rfl
    simp only[List.append_nil,Nat.add_zero]at hk hrun
    have hput:Inv G1 n D ((σ.drain x).put d (.bb e k cs)) (a.put d (a.eval u)) w:=by
     have:=h1.put (s':=(σ.drain x).s) (lp':=(σ.drain x).lp) d (fun i hi=>by subst hi;simpa[ba]using hd) (.bb e k cs) (a.eval u) h1.aO (aG.refl G1 w) h1.store (fun _ hx=>hx) (fun i t _ ht=>ht.elim) (fun i t _⟨cs,hcs⟩=>by cases hcs)
      (fun _ _ _ _=>⟨rfl,rfl,rfl⟩) (fun _ _ _ _ _ _ hcc=>⟨hcc,rfl,rfl⟩) (fun i hdi=>by subst hdi;exact⟨hv1,hown1⟩)
     cases d<;>exact this
    intro pos after gd next Q hn
    refine aN (w':=w) ?_ (hn G1 _ _ _ hput hp1 hk)
    simp[execOp,resolve,invoke,builtin,e1,hrun]
   ·obtain⟨b',off',c,fz,q1,q2,q3,q4,q5,q6⟩:=hown1 _ _ _ e1 (by omega)
    injection q1 with q1;injection q1 with q1 q1'
    subst q1;subst q1'
    have hon:G1.O b≠.none∧G1.O b≠.frame∧G1.O b≠.sh∧(∀i,G1.O b≠.loc i)∧(∀i j,G1.O b≠.cell i j)∧(∀i j,G1.O b=.slot i j→d=some i∧j=0):=by
     rw[q2]
     cases d with
     |none=>simp[zq]
     |some i=>simp+contextual [zq]
    obtain⟨G2,h3,h4⟩:=h1.Sf (k:=k) (m:=m) hd q4 ⟨q6.1,q6.2.1⟩ q6.2.2.1 (q6.2.2.2.1.imp id fun⟨z1,z2⟩=>⟨z1,hpos,z2⟩) q6.2.2.2.2 (fun i hi=>by subst hi;exact q2) hon q3 q5 hfit (by omega) hcl hat hsrc1 rfl
    have hfit2:off+k*1+news.length≤c.size:=by
     rw[hsrc.len,q5,Nat.add_assoc,←Nat.add_mul]
     exact Nat.add_le_add_left (Nat.mul_le_mul_right _ hfit) _
    have c6:=dj (P:=P) b (off+k*1) e fz news 0 c w q4 q6.1 (by simpa using hfit2) hsrc.one
    have hrun:=gF (ty:=ty) (w:=w) ht ht2 hi hisz hsrc1 (b:=b) (off:=off) (k:=k) (cap:=cap) hfit (w':=w.setRow b (laid c (off+k*1) news)) (by simpa[laid]using c6)
    intro pos after gd next Q hn
    refine aN ?_ (hn G2 _ _ _ h3 (hp1.trans h4) hk)
    simp[execOp,resolve,invoke,builtin,e1,hrun]
  ·have hfl:Fl cs:=by obtain⟨_,_,_,hf⟩:=hat;exact hf
   obtain⟨us,u1,u2,u3⟩:=hat.jZ
   exact grow _ cap us e1 (by omega) (by rw[u1,hcl]) hcl hfl (run_firstCells_some w.drew 1 k ⟨b,off,none⟩ k cap us (by rw[u1,hcl]) u2) u3
end
end Go.AB
end
section
namespace Go.AB
open Go
section
variable{P:Program}{G G':Gh}{n:Nat}{D:List Deferred}{σ:St}{a:Act}{w w':World}
theorem aW.shape{s:ab}(h:aW G w s){b:Nat}{cs:List AV}(hs:s b=some (.cells cs)):∃t,w.shape? b=some (t,cs.length)∧xn t cs:=by
 obtain⟨_,_,c,t,h4,h5,h6⟩:=h b _ hs
 exact⟨t,by simp[World.shape?,h4,h5.1],h6⟩
theorem XR.ref(h:Inv G n D σ a w){y:Operand}{x:IX}(hy:bw y x=true){b off:Nat}(hx:σ.x x=.ref b off):a.eval y=.pointer (some ⟨b,off,none⟩):=by
 have:=XR.aJ h hy
 rw[hx]at this
 exact VR.gi this
theorem My(h:Inv G n D σ a w){op:Op}{ty:TypeId}{m t0 j0 u0:Nat}{x:IX}{d:Option Nat}{K:St→Prop}(hd:ba n d=true)(hc:au P op ty (.Ez m t0 j0 u0 x)=true)(hw:gH P (.Ez m t0 j0 u0 x) d σ K):mj P G n D w a op ty d K:=by
 cases op<;>first|(simp[au]at hc;done)|skip
 rename_i t y
 simp only[au,Bool.and_eq_true,beq_iff_eq]at hc
 obtain⟨⟨rfl,_⟩,hc⟩:=hc
 obtain⟨hi,_,hj0,hj1,hk⟩:=hw
 have hvr:VR w G.R (σ.x x) (a.eval y):=by
  have:=XR.aJ h hc
  generalize σ.x x=av at hi this
  cases av<;>first|exact this|(simp[c9]at hi)
 have hrow:=gv hi hvr
 have hj:j0+1<(cellsOf (σ.x x)).length:=(List.getElem?_eq_some_iff.1 hj1).1
 have hcs:∀(G':Gh)(w':World)(o:Nat→cY),aG G w G' w'→db G' w' o (setAt (views (cellsOf (σ.x x))) j0 [.l1 t0,.bb u0 0 []]) (a.eval y).cells:=by
  intro G' w' o hp
  have hlen:j0+[AV.l1 t0,AV.bb u0 0 []].length≤(views (cellsOf (σ.x x))).length:=by simp[views];omega
  refine⟨by rw[mz _ _ _ hlen];simp only[List.length_map,views];exact hrow.1,fun j c u hcj hu=>?_⟩
  rw[my _ _ _ _ hlen]at hcj
  by_cases h1:j=j0
  ·subst h1
   rw[if_pos ⟨Nat.le_refl _,by simp⟩,Nat.sub_self]at hcj
   injection hcj with hcj;subst hcj
   have hu':=hrow.2.1 j .dG u hj0 hu
   obtain rfl:u=.pointer none:=VR.rG hu'
   exact⟨.l1 t0,trivial⟩
  ·by_cases h2:j=j0+1
   ·subst h2
    rw[if_pos ⟨by omega,by simp⟩,show j0+1 -j0=1 by omega]at hcj
    injection hcj with hcj;subst hcj
    have hu':=hrow.2.1 _ _ u hj1 hu
    have e:u=.slice none 0 0:=by cases hu' with|bb _ _ _ _ h h0=>exact h0 rfl
    subst e
    exact⟨.bb _ _ _ _ (.slnil _ _) (fun _=>rfl),fun base m' cap' hv hc=>by injection hv with _ e2 e3;omega⟩
   ·rw[if_neg (by simp;omega),eb]at hcj
    cases hz:(cellsOf (σ.x x))[j]? with
    |none=>rw[hz]at hcj;cases hcj
    |some c0=>
     rw[hz]at hcj;simp at hcj
     have h1:=hp.vr h.aO (hrow.2.1 j c0 u hz hu)
     rw[←hcj]
     exact⟨h1.view,df.view ..⟩
 have hfl:xn t0 (setAt (views (cellsOf (σ.x x))) j0 [.l1 t0,.bb u0 0 []]):=by
  intro c hc'
  unfold setAt at hc'
  simp only[List.mem_append]at hc'
  have base:=hrow.2.2.views
  rcases hc' with(hc'|hc')|hc'
  ·exact .inl (base c (List.mem_of_mem_take hc'))
  ·simp only[List.mem_cons,List.not_mem_nil,or_false]at hc'
   rcases hc' with rfl|rfl
   ·exact .inr rfl
   ·exact .inl rfl
  ·exact .inl (base c (List.mem_of_mem_drop hc'))
 intro pos after g next Q hn
 obtain⟨G',h1,h2⟩:=h.Q3 hd (t:=t0) (.inl ⟨rfl,rfl⟩) hcs hfl
 refine aN ?_ (hn G' _ _ _ h1 h2 (hk w.heap.size (h.store.get_none h.aO)))
 simp[execOp,Instr.box,newVar,newRow]
end
end Go.AB
end
section
namespace Go.AB
open Go
section
variable{P:Program}{G G':Gh}{n:Nat}{D:List Deferred}{σ:St}{a:Act}{w w':World}
theorem Inv.Jp(h:Inv G n D σ a w){d:Option Nat}(hd:ba n d=true){av:AV}{v:Value}(hv:NR G w σ a av v):Inv G n D ((bV σ av d).put d av) (a.put d v) w:=by
 have hd':∀i,d=some i→i<n:=fun i hi=>by subst hi;simpa[ba]using hd
 by_cases hlp:∃t off,av=.lp t off
 ·obtain⟨t,off,rfl⟩:=hlp
  cases d with
  |none=>exact h
  |some i=>
   obtain⟨b,hv1,hv2⟩:=hv
   refine h.put (s':=σ.s) (lp':=(i,t)::σ.lp) (some i) hd' (.lp t off) v h.aO (aG.refl G w) h.store (fun x hx=>List.mem_cons_of_mem _ hx) (fun j t' hj ht=>?_) (fun j t' _⟨cs,hcs⟩=>by cases hcs)
    (fun _ _ _ _=>⟨rfl,rfl,rfl⟩) (fun _ _ _ _ _ _ hcc=>⟨hcc,rfl,rfl⟩) (fun j hj=>?_)
   ·injection hj with hj;subst hj
    have:t=t':=ht
    subst this
    exact List.mem_cons_self
   ·injection hj with hj;subst hj
    refine⟨b,hv1,fun cs hcs=>?_⟩
    by_cases hit:i=t
    ·subst hit;simp[St.put,aP]at hcs
    ·simp only[St.put,aP,hit,if_false]at hcs
     simpa[Act.put,Array.getElem?_setIfInBounds_ne hit]using hv2 cs hcs
 ·have hnr:c9 av=true∧VR w G.R av v∧view av=av:=by
   cases av<;>first|exact hv|exact(hlp ⟨_,_,rfl⟩).elim
  have hl:bV σ av d=σ:=by cases av<;>first|rfl|exact(hlp ⟨_,_,rfl⟩).elim|exact absurd hnr.1 (by simp[c9])
  rw[hl]
  have:=h.put (s':=σ.s) (lp':=σ.lp) d hd' av v h.aO (aG.refl G w) h.store (fun _ hx=>hx) (fun i t _ ht=>(eH hnr.1 t ht).elim) (fun i t _⟨cs,hcs⟩=>(l9 hnr.1 cs hcs).elim)
   (fun _ _ _ _=>⟨rfl,rfl,rfl⟩) (fun _ _ _ _ _ _ hcc=>⟨hcc,rfl,rfl⟩) (fun i hi=>by
     rw[da.oo hnr.1]
     refine⟨hnr.2.1,?_⟩
     rw[←hnr.2.2]
     exact df.view ..)
  cases d<;>exact this
theorem Inv.PK(h:Inv G n D σ a w){d:Option Nat}(hd:ba n d=true):Inv G n D (σ.put d (.gu [])) (a.put d undef) w:=by
 have:=h.put (s':=σ.s) (lp':=σ.lp) d (fun i hi=>by subst hi;simpa[ba]using hd) (.gu []) undef h.aO (aG.refl G w) h.store (fun _ hx=>hx) (fun i t _ ht=>ht.elim) (fun i t _⟨cs,hcs⟩=>by cases hcs)
  (fun _ _ _ _=>⟨rfl,rfl,rfl⟩) (fun _ _ _ _ _ _ hcc=>⟨hcc,rfl,rfl⟩) (fun i hi=>⟨#[],rfl,rfl,fun j x y hx=>by simp at hx⟩)
 cases d<;>exact this
theorem KZ(h:Inv G n D σ a w){op:Op}{ty:TypeId}{f:Nat}{x:IX}{d:Option Nat}{K:St→Prop}(hd:ba n d=true)(hc:au P op ty (.vJ f x)=true)(hw:gH P (.vJ f x) d σ K):mj P G n D w a op ty d K:=by
 cases op<;>first|(simp[au]at hc;done)|skip
 rename_i c
 obtain⟨callee,ys,ats⟩:=c
 simp only[au]at hc
 split at hc<;>try(cases hc;done)
 rename_i g
 simp only[Bool.and_eq_true,beq_iff_eq]at hc
 obtain⟨rfl,hxs⟩:=hc
 obtain⟨hi,hid,hk⟩:=(show EB P f σ d K (σ.x x) from hw)
 obtain⟨l⟩:=ys
 match l,hxs with
 |[y],hxs=>
  have hy:bw y x=true:=by simpa[fZ]using hxs
  have hvr:VR w G.R (σ.x x) (a.eval y):=by
   have:=XR.aJ h hy
   generalize σ.x x=av at hi this
   cases av<;>first|exact this|(simp[c9]at hi)
  have hiv:c9 (view (σ.x x))=true:=by generalize σ.x x=av at hi;cases av<;>simp_all [c9,view]
  have hvv:view (view (σ.x x))=view (σ.x x):=by generalize σ.x x=av;cases av<;>rfl
  intro pos after gd next Q hn
  refine aN (v:=a.eval y) ?_ (hn G _ _ _ (h.Jp hd (NR.mk hiv hvr.view hvv)) (aG.refl G w) ?_)
  ·have hrun:=hid (a.eval y) w
   simp[execOp,resolve,Act.eval,Deferred.ofValue,invoke]at hrun⊢
   first|exact hrun|(simp[hrun])
  ·have e:bV σ (view (σ.x x)) d=σ:=by
    generalize σ.x x=av at hi
    cases av<;>cases d<;>first|rfl|(simp[c9]at hi)
   first|exact hk|(rw[e];exact hk)
 |[],hxs=>simp[fZ]at hxs
 |_::_::_,hxs=>simp[fZ]at hxs
theorem MA(h:Inv G n D σ a w){op:Op}{ty:TypeId}{x:IX}{d:Option Nat}{K:St→Prop}(hd:ba n d=true)(hc:au P op ty (.EH x)=true)(hw:gH P (.EH x) d σ K):mj P G n D w a op ty d K:=by
 cases op<;>first|(simp[au]at hc;done)|skip
 rename_i s t y
 simp only[au,Bool.and_eq_true]at hc
 obtain⟨⟨hy,hs⟩,ht⟩:=hc
 have hw':Gq σ d K (σ.x x):=hw
 generalize hxv:σ.x x=xv at hw'
 unfold Gq at hw'
 split at hw'
 ·rename_i b off
  have e1:=XR.ref h hy hxv
  generalize hsb:σ.s b=ob at hw'
  unfold Ms at hw'
  split at hw'
  ·rename_i cs
   obtain⟨hlt,hk⟩:=hw'
   obtain⟨t',hsh,_⟩:=h.store.shape hsb
   split at hs<;>try(cases hs;done)
   rename_i e hse
   split at hs<;>try(cases hs;done)
   rename_i j hj
   split at ht<;>try(cases ht;done)
   rename_i htu
   have hrun:=Lib.run_to_unsafe (P:=P) w ⟨b,off,none⟩ hse htu hj (by simpa using hs) hsh hlt
   intro pos after g next Q hn
   refine aN (v:=.pointer (some ⟨b,off,none⟩)) ?_ (hn G _ _ _ (h.Jp hd (NR.mk rfl (.ref b off) rfl)) (aG.refl G w) hk)
   simp[execOp,e1,hrun]
  ·exact hw'.elim
 ·exact hw'.elim
theorem Mz(h:Inv G n D σ a w){op:Op}{ty:TypeId}{u:Nat}{x:IX}{d:Option Nat}{K:St→Prop}(hd:ba n d=true)(hc:au P op ty (.EG u x)=true)(hw:gH P (.EG u x) d σ K):mj P G n D w a op ty d K:=by
 cases op<;>first|(simp[au]at hc;done)|skip
 rename_i s t y
 simp only[au,Bool.and_eq_true]at hc
 obtain⟨⟨hy,hs⟩,ht⟩:=hc
 have hw':Gp P u σ d K (σ.x x):=hw
 generalize hxv:σ.x x=xv at hw'
 unfold Gp at hw'
 split at hw'
 ·rename_i b off
  have e1:=XR.ref h hy hxv
  generalize hsb:σ.s b=ob at hw'
  unfold Mr at hw'
  split at hw'
  ·rename_i cs
   obtain⟨t0,hct,hl,hk⟩:=hw'
   obtain⟨t',hsh,hfl⟩:=h.store.shape hsb
   have:t'=t0:=by
    rcases hfl _ (List.mem_of_getElem? hct)with h1|h1
    ·cases h1
    ·injection h1 with h1;exact h1.symm
   subst this
   split at hs<;>try(cases hs;done)
   rename_i hse
   split at ht<;>try(cases ht;done)
   rename_i e hte
   simp only[Bool.and_eq_true,beq_iff_eq]at ht
   obtain⟨rfl,hj⟩:=ht
   obtain⟨j,hj⟩:=Option.isSome_iff_exists.1 hj
   have hrun:=Lib.run_from_unsafe (P:=P) w ⟨b,off,none⟩ hse hte hj hsh hl
   intro pos after g next Q hn
   refine aN (v:=.pointer (some ⟨b,off,none⟩)) ?_ (hn G _ _ _ (h.Jp hd (NR.mk rfl (.ref b off) rfl)) (aG.refl G w) hk)
   simp[execOp,e1,hrun]
  ·exact hw'.elim
 ·exact hw'.elim
theorem Ll(h:Inv G n D σ a w){op:Op}{ty:TypeId}{o:rh}{d:Option Nat}{K:St→Prop}(hd:ba n d=true)(hc:au P op ty o=true)(hw:UL P o d σ K):mj P G n D w a op ty d K:=by
 unfold UL at hw
 cases hp:pv o (xg true σ) σ with
 |c8 av=>
  rw[hp]at hw
  obtain⟨v,hr,hnr⟩:=wV h hc (av:=av) (.inl hp)
  exact fun pos after g next Q hn=>aN (hr d pos after g) (hn G _ _ _ (h.Jp hd hnr) (aG.refl G w) hw)
 |prt c av=>
  rw[hp]at hw
  obtain⟨v,hr,hnr⟩:=wV h hc (av:=av) (.inr ⟨c,hp,hw.1⟩)
  exact fun pos after g next Q hn=>aN (hr d pos after g) (hn G _ _ _ (h.Jp hd hnr) (aG.refl G w) hw.2)
 |no=>
  rw[hp]at hw
  have hw':gH P o d σ K:=hw
  cases o with
  |iT tr x=>exact OP h hd hc hw'
  |aQ z=>exact(DA h hd).1 hc hw'
  |gV z=>exact(DA h hd).2 hc hw'
  |lZ m x=>exact(JY h hd).1 hc hw'
  |qU m x=>exact(JY h hd).2 hc hw'
  |b5 sz m z ps=>exact Gy h hd hc hw'
  |store m p v=>exact K5 h hd hc hw'
  |append sz by' x y=>exact Ip h hd hc hw'
  |fA x=>exact Iv h hd hc hw'
  |hE x=>exact EN h hd hc hw'
  |call f args=>exact Gz h hd hc hw'
  |gE sz by' z l c=>exact Iy h hd hc hw'
  |xZ sz by' c=>exact Ix h hd hc hw'
  |makeMap=>exact GA h hd hc hw'
  |eC x args=>exact K0 h hd hc hw'
  |lookup kk z ok x k=>exact Iw h hd hc hw'
  |mapUpdate kk x k v=>exact CI h hd hc hw'
  |ji x=>exact Iu h hd hc hw'
  |re x=>exact MB h hd hc hw'
  |jE sz m z ps=>exact EM h hd hc hw'
  |gh sz by' z x y=>exact Gv h hd hc hw'
  |lY sz by' z x y=>exact Gx h hd hc hw'
  |yl sz m p v=>exact Iz h hd hc hw'
  |Ey sz m x=>exact Mx h hd hc hw'
  |Ez m t j u x=>exact My h hd hc hw'
  |lX t x y=>exact Gw h hd hc hw'
  |EH x=>exact MA h hd hc hw'
  |vJ f x=>exact KZ h hd hc hw'
  |EG u x=>exact Mz h hd hc hw'
  |vP sz x y=>exact K1 h hd hc hw'
  |pJ z x=>exact Iq h hd hc hw'
  |K7 sz ow x=>exact OO h hd hc hw'
  |ug sz ow x=>exact K4 h hd hc hw'
  |kZ x=>exact DC h hd hc hw'
  |lM off j x=>exact K3 h hd hc hw'
  |OR ne x=>exact ON h hd hc hw'
  |UK f x y=>exact OQ h hd hc hw'
  |vI f i args=>exact KY h hd hc hw'
  |_=>exact hw'.elim
def wP(P:Program)(ops:Array Oper)(o:Oper)(a:Act)(w:World)(next:Act→World→Prop)(Q:Exit→Act→World→Prop):Prop:=if Region.wanted o (yielded ops a.tmps)then o.wp P a w next Q∨(o.asks P a w∧LetsOut Q)else next (a.put o.dst undef) w
theorem Hk{ops:Array Oper}{o:Oper}{next:Act→World→Prop}{Q:Exit→Act→World→Prop}(hw:Region.wanted o (yielded ops a.tmps)=true)(h:o.wp P a w next Q):wP P ops o a w next Q:=by unfold wP;rw[if_pos hw];exact .inl h
theorem D6{ops:Array Oper}{o:Oper}{next:Act→World→Prop}{Q:Exit→Act→World→Prop}(hw:Region.wanted o (yielded ops a.tmps)=false)(h:next (a.put o.dst undef) w):wP P ops o a w next Q:=by unfold wP;rw[if_neg (by simp[hw])];exact h
theorem Gu(h:Inv G n D σ a w){d:Option Nat}(hd:ba n d=true)(av:AV)(hl:∀t,bH av t→∀i,d=some i→(i,t)∈σ.lp):Inv G n D (σ.put d (.when false av)) (a.put d undef) w:=by
 have:=h.put (s':=σ.s) (lp':=σ.lp) d (fun i hi=>by subst hi;simpa[ba]using hd) (.when false av) undef h.aO (aG.refl G w) h.store (fun _ hx=>hx) (fun i t hi ht=>hl t ht i hi) (fun i t _⟨cs,hcs⟩=>by cases hcs)
  (fun _ _ _ _=>⟨rfl,rfl,rfl⟩) (fun _ _ _ _ _ _ hcc=>⟨hcc,rfl,rfl⟩) (fun i hi=>⟨fun hh=>Bool.noConfusion hh,fun _=>rfl⟩)
 cases d<;>exact this
theorem hU(σ:St):∀(av:AV)(d:Option Nat),(bV σ av d).e=σ.e∧(bV σ av d).s=σ.s∧∀x∈σ.lp,x∈(bV σ av d).lp
 |.lp t _,some i=>⟨rfl,rfl,fun x hx=>List.mem_cons_of_mem _ hx⟩
 |.lp t _,none=>⟨rfl,rfl,fun _ hx=>hx⟩
 |.when _ av,d=>hU σ av d
 |.undef,_|.bool _,_|.int _ _,_|.str _,_|.dG,_|.ref _ _,_|.sp _,_|.loc _,_|.sl _ _ _ _,_|.arr _ _ _ _,_|.agg _,_|.gu _,_|.fn _ _ _,_|.nj,_|.mp _,_|.sq,_|.us _ _ _,_|.one,_|.l1 _,_|.jX,_|.bb _ _ _,_=>⟨rfl,rfl,fun _ hx=>hx⟩
theorem M4(h:Inv G n D σ a w)(av:AV)(d:Option Nat):Inv G n D (bV σ av d) a w:=by
 obtain⟨e1,e2,e3⟩:=hU σ av d
 exact⟨h.aO,by rw[e2];exact h.store,h.size,fun i v hv=>by rw[e1];exact h.ch i v hv,fun i hi=>by rw[e1];exact h.CG i hi,fun i t ht=>e3 _ (h.HR i t (by rw[e1]at ht;exact ht)),h.qW⟩
theorem xW:∀(av:AV)(d:Option Nat)(t:Nat),bH av t→∀i,d=some i→(i,t)∈(bV σ av d).lp
 |.lp t' off,_,t,ht,i,rfl=>by have:t'=t:=ht;subst this;exact List.mem_cons_self
 |.when _ av,d,t,ht,i,hi=>xW av d t ht i hi
 |.undef,_,_,ht,_,_|.bool _,_,_,ht,_,_|.int _ _,_,_,ht,_,_|.str _,_,_,ht,_,_|.dG,_,_,ht,_,_|.ref _ _,_,_,ht,_,_|.sp _,_,_,ht,_,_|.loc _,_,_,ht,_,_|.sl _ _ _ _,_,_,ht,_,_
 |.arr _ _ _ _,_,_,ht,_,_|.agg _,_,_,ht,_,_|.gu _,_,_,ht,_,_|.fn _ _ _,_,_,ht,_,_|.nj,_,_,ht,_,_|.mp _,_,_,ht,_,_|.sq,_,_,ht,_,_|.us _ _ _,_,_,ht,_,_|.one,_,_,ht,_,_|.l1 _,_,_,ht,_,_|.jX,_,_,ht,_,_|.bb _ _ _,_,_,ht,_,_=>ht.elim
theorem Inv.sV{d:Option Nat}{av:AV}(h:Inv G n D (σ.put d av) a w)(hd:ba n d=true):Inv G n D (σ.put d (.when true av)) a w:=by
 cases d with
 |none=>exact h
 |some i=>
 have hlk:∀k,k≠i→look (σ.put (some i) (.when true av)).e k=look (σ.put (some i) av).e k:=fun k hk=>by simp[St.put,aP,Ne.symm hk]
 have e1:look (σ.put (some i) av).e i=av:=by simp[St.put,aP]
 have e2:look (σ.put (some i) (.when true av)).e i=.when true av:=by simp[St.put,aP]
 have hloc:∀d' cs,look (σ.put (some i) (.when true av)).e d'=.loc cs→look (σ.put (some i) av).e d'=.loc cs:=by
  intro d' cs hcs
  by_cases hd':d'=i
  ·subst hd';rw[e2]at hcs;cases hcs
  ·rw[hlk d' hd']at hcs;exact hcs
 have fr:∀k av' u,da G w (σ.put (some i) av).e a.tmps k av' u→da G w (σ.put (some i) (.when true av)).e a.tmps k av' u:=fun k av' u hv=>da.frame (fun _ _ hv=>hv) (fun b _=>⟨rfl,rfl,rfl⟩) (fun _ _ _ _ hc=>⟨hc,rfl,rfl⟩) _ _ (fun d' _ cs hcs=>⟨cs,hloc d' cs hcs,rfl⟩) hv
 refine⟨h.aO,h.store,h.size,fun k u hu=>?_,fun k hk=>?_,fun k t ht=>?_,h.qW⟩
 ·have hs:=h.ch k u hu
  by_cases hk:k=i
  ·subst hk
   rw[e1]at hs
   rw[e2]
   exact⟨fun _=>fr _ _ _ hs,fun hh=>Bool.noConfusion hh⟩
  ·rw[hlk k hk];exact fr _ _ _ hs
 ·have:k≠i:=by
   have:i<n:=by simpa[ba]using hd
   omega
  rw[hlk k this];exact h.CG k hk
 ·by_cases hk:k=i
  ·subst hk
   rw[e2]at ht
   exact h.HR k t (by rw[e1];exact ht)
  ·rw[hlk k hk]at ht;exact h.HR k t ht
theorem vx{ops:Array Oper}{tmps:Array Value}{j t:Nat}(h:(ops[j]?).bind (·.dst)=some t):yielded ops tmps j=(match tmps[t]? with|some (.bool b)=>some b|_=>none):=by
 unfold yielded
 rw[h]
 rfl
theorem AX{ops:Array Oper}{o:Oper}{j t:Nat}{want b:Bool}(hg:o.guard=some (j,want))(ht:(ops[j]?).bind (·.dst)=some t)(hv:a.tmps[t]? =some (.bool b)):Region.wanted o (yielded ops a.tmps)=(b==want):=by
 unfold Region.wanted
 rw[hg]
 simp only[vx ht,hv]
 cases b<;>cases want<;>rfl
theorem FV(h:Inv G n D σ a w){t:Nat}(hl:look σ.e t≠.undef):∃v,a.tmps[t]? =some v∧da G w σ.e a.tmps t (look σ.e t) v:=by
 have hlt:t<a.tmps.size:=by rw[h.size];exact h.He hl
 exact⟨_,gQ hlt,h.ch t _ (gQ hlt)⟩
theorem gl(h:Inv G n D σ a w){ops:Array Oper}{o:Oper}{o':aq}{K:St→Prop}(hc:gB P n ops o o'=true)(hw:HQ P o' σ K){next:Act→World→Prop}{Q:Exit→Act→World→Prop}
 (hn:∀G' σ' a' w',Inv G' n D σ' a' w'→aG G w G' w'→K σ'→next a' w'):wP P ops o a w next Q:=by
 obtain⟨dst,op,ty,pos,after,g⟩:=o
 obtain⟨d,io,ig⟩:=o'
 simp only[gB,Bool.and_eq_true,beq_iff_eq]at hc
 obtain⟨⟨⟨rfl,hd⟩,hcg⟩,hcop⟩:=hc
 have runs:∀{σ₁:St},Inv G n D σ₁ a w→UL P io dst σ₁ K→(⟨dst,op,ty,pos,after,g⟩:Oper).wp P a w next Q:=fun h1 ho=>Ll h1 hd hcop ho pos after g next Q hn
 cases ig with
 |none=>
  cases g with
  |some g=>simp[OJ]at hcg
  |none=>exact Hk rfl (runs h hw)
 |some tw=>
  obtain⟨t,want⟩:=tw
  cases g with
  |none=>simp[OJ]at hcg
  |some jw=>
  obtain⟨j,want'⟩:=jw
  simp only[OJ,Bool.and_eq_true,beq_iff_eq]at hcg
  obtain⟨rfl,ht⟩:=hcg
  have hw':xE P io dst t want' σ K (look σ.e t):=hw
  have skip:∀{σ₁:St},Inv G n D σ₁ a w→K (σ₁.put dst (.gu []))→next (a.put dst undef) w:=fun h1 hk=>hn G _ _ _ (h1.PK hd) (aG.refl G w) hk
  have core:∀(g:Bool),Region.wanted ⟨dst,op,ty,pos,after,some (j,want')⟩ (yielded ops a.tmps)=g→LX P g io σ dst K (pv io (xg g σ) σ)→wP P ops ⟨dst,op,ty,pos,after,some (j,want')⟩ a w next Q:=by
   intro g hwt hx
   cases g with
   |true=>
    refine Hk hwt ?_
    cases hp:pv io (xg true σ) σ with
    |c8 av=>
     rw[hp]at hx
     obtain⟨v,hr,hnr⟩:=wV h hcop (av:=av) (.inl hp)
     refine aN (hr _ _ _ _) (hn G _ _ _ ((h.Jp hd hnr).sV hd) (aG.refl G w) hx)
    |prt c av=>
     rw[hp]at hx
     obtain⟨v,hr,hnr⟩:=wV h hcop (av:=av) (.inr ⟨c,hp,hx.1 rfl⟩)
     refine aN (hr _ _ _ _) (hn G _ _ _ ((h.Jp hd hnr).sV hd) (aG.refl G w) hx.2)
    |no=>
     rw[hp]at hx
     exact runs h (hx.1 rfl)
   |false=>
    refine D6 hwt ?_
    cases hp:pv io (xg false σ) σ with
    |c8 av=>
     rw[hp]at hx
     exact hn G _ _ _ (Gu (M4 h av dst) hd av (fun t' ht' i hi=>xW av dst t' ht' i hi)) (aG.refl G w) hx
    |prt c av=>
     rw[hp]at hx
     exact hn G _ _ _ (Gu (M4 h av dst) hd av (fun t' ht' i hi=>xW av dst t' ht' i hi)) (aG.refl G w) hx.2
    |no=>
     rw[hp]at hx
     exact skip h (hx.2 rfl)
  cases hlk:look σ.e t with
  |bool b=>
   rw[hlk]at hw'
   obtain⟨v,hv1,hv2⟩:=FV h (t:=t) (by rw[hlk];simp)
   rw[hlk]at hv2
   have:=VR.gm hv2.1
   subst this
   exact core _ (AX (o:=⟨dst,op,ty,pos,after,some (j,want')⟩) rfl ht hv1) hw'
  | «when» b' g=>
    rw[hlk]at hw'
    obtain⟨v,hv1,hv2⟩:=FV h (t:=t) (by rw[hlk];simp)
    rw[hlk]at hv2
    cases g with
    |bool b=>
     have hx:LX P (b'&&(b==want')) io σ dst K (pv io (xg (b'&&(b==want')) σ) σ):=hw'
     cases b' with
     |true=>
      have hvb:=hv2.1 rfl
      have:=VR.gm hvb.1
      subst this
      exact core _ (AX (o:=⟨dst,op,ty,pos,after,some (j,want')⟩) rfl ht hv1) hx
     |false=>
      have:=hv2.2 rfl
      subst this
      have hwt:Region.wanted ⟨dst,op,ty,pos,after,some (j,want')⟩ (yielded ops a.tmps)=false:=by
       unfold Region.wanted
       simp only[vx ht,hv1]
       rfl
      exact core _ hwt hx
    |_=>exact hw'.elim
  |gu vs=>
   rw[hlk]at hw'
   cases vs with
   |cons _ _=>exact hw'.elim
   |nil=>
    obtain⟨v,hv1,hv2⟩:=FV h (t:=t) (by rw[hlk];simp)
    rw[hlk]at hv2
    obtain⟨ys,rfl,_⟩:=hv2
    have hwt:Region.wanted ⟨dst,op,ty,pos,after,some (j,want')⟩ (yielded ops a.tmps)=false:=by
     unfold Region.wanted
     simp only[vx ht,hv1]
     rfl
    exact D6 hwt (skip h hw')
  |_=>rw[hlk]at hw';exact hw'.elim
end
end Go.AB
end
section
namespace Go.AB
open Go
section
variable{P:Program}{G G':Gh}{n:Nat}{D:List Deferred}{σ:St}{a:Act}{w w':World}
theorem pz{ops:Array Oper}{Q:Exit→Act→World→Prop}{K:St→Prop}(G₀:Gh)(w₀:World)
 (hn:∀G' σ' a' w',Inv G' n D σ' a' w'→aG G₀ w₀ G' w'→K σ'→Q .normal a' w'):∀(l:List Oper)(l':List aq)(G:Gh)(σ:St)(a:Act)(w:World),cd P n ops l l'=true→Inv G n D σ a w→aG G₀ w₀ G w→swp P l' σ K→wpList P ops Q l a w
 |[],[],G,σ,a,w,_,h,hp,hk=>hn G σ a w h hp hk
 |o::l,o'::l',G,σ,a,w,hc,h,hp,hk=>by
  simp only[cd,Bool.and_eq_true]at hc
  show wP P ops o a w (wpList P ops Q l) Q
  exact gl h hc.1 hk fun G' σ' a' w' h1 h2 h3=>pz G₀ w₀ hn l l' G' σ' a' w' hc.2 h1 (hp.trans h2) h3
 |[],_::_,_,_,_,_,hc,_,_,_=>by simp[cd]at hc
 |_::_,[],_,_,_,_,hc,_,_,_=>by simp[cd]at hc
theorem DX(e:List (Nat×AV))(i:Nat):∀(live:List Nat),look (live.map fun j=>(j,dI (look e j))) i=if i∈live then dI (look e i)else .undef
 |[]=>rfl
 |j::live=>by
  rw[List.map_cons,aP,DX e i live]
  by_cases h:j=i
  ·subst h;simp
  ·simp[h,Ne.symm h]
theorem xz(av:AV)(t:Nat):¬bH (dI av) t:=by cases av<;>simp[dI,bH]
theorem Inv.vb(h:Inv G n D σ a w)(live:List Nat):Inv G n D (σ.vb live) a w:=by
 have hl:∀i,look (σ.vb live).e i=if i∈live then dI (look σ.e i)else .undef:=fun i=>DX σ.e i live
 have hu:∀i v,da G w (σ.vb live).e a.tmps i .undef v:=fun i v=>⟨.undef _,trivial⟩
 refine⟨h.aO,h.store,h.size,fun i v hv=>?_,fun i hi=>?_,fun i t ht=>?_,h.qW⟩
 ·rw[hl i]
  by_cases hi:i∈live
  ·rw[if_pos hi]
   have hs:=h.ch i v hv
   generalize look σ.e i=av at hs
   have fr:∀av,(∀t,¬bH av t)→da G w σ.e a.tmps i av v→da G w (σ.vb live).e a.tmps i av v:=fun av hno hs=>da.frame (fun _ _ hv=>hv) (fun b _=>⟨rfl,rfl,rfl⟩) (fun _ _ _ _ hc=>⟨hc,rfl,rfl⟩) _ _ (fun t ht=>(hno t ht).elim) hs
   cases av<;>first|exact hu i v|exact fr _ (fun t ht=>ht) hs
  ·rw[if_neg hi];exact hu i v
 ·rw[hl i]
  by_cases hi':i∈live
  ·rw[if_pos hi',h.CG i hi];rfl
  ·rw[if_neg hi']
 ·rw[hl i]at ht
  by_cases hi:i∈live
  ·rw[if_pos hi]at ht;exact(xz _ t ht).elim
  ·rw[if_neg hi]at ht;exact ht.elim
theorem Bv(e:List (Nat×AV))(i:Nat):∀(live:List (Nat×Bool)),look (live.map fun p=>(p.1,Od p.2 (dI (look e p.1)))) i=.undef∨look (live.map fun p=>(p.1,Od p.2 (dI (look e p.1)))) i=dI (look e i)∨look (live.map fun p=>(p.1,Od p.2 (dI (look e p.1)))) i=view (dI (look e i))
 |[]=>.inl rfl
 |p::live=>by
  rw[List.map_cons,aP]
  by_cases h:p.1=i
  ·rw[if_pos h,h]
   cases p.2 with
   |false=>exact .inr (.inl rfl)
   |true=>exact .inr (.inr rfl)
  ·rw[if_neg h];exact Bv e i live
theorem da.XH{e:List (Nat×AV)}{tmps:Array Value}{i:Nat}{av:AV}{v:Value}(h:da G w e tmps i av v):da G w e tmps i (view av) v:=by cases av<;>first|exact h|exact⟨VR.undef _,trivial⟩|exact⟨VR.view h.1,df.view ..⟩
theorem Qg(av:AV)(h:∀t,¬bH av t)(t:Nat):¬bH (view av) t:=by cases av<;>first|exact h t|exact fun h=>h
theorem Inv.dS(h:Inv G n D σ a w)(live:List (Nat×Bool)):Inv G n D (σ.dS live) a w:=by
 have fr:∀i v,a.tmps[i]? =some v→da G w (σ.dS live).e a.tmps i (dI (look σ.e i)) v:=fun i v hv=>by
  have hs:=h.ch i v hv
  generalize look σ.e i=av at hs
  have fr:∀av,(∀t,¬bH av t)→da G w σ.e a.tmps i av v→da G w (σ.dS live).e a.tmps i av v:=fun av hno hs=>da.frame (fun _ _ hv=>hv) (fun b _=>⟨rfl,rfl,rfl⟩) (fun _ _ _ _ hc=>⟨hc,rfl,rfl⟩) _ _ (fun t ht=>(hno t ht).elim) hs
  cases av<;>first|exact⟨.undef _,trivial⟩|exact fr _ (fun t ht=>ht) hs
 have hl:=fun i=>Bv σ.e i live
 refine⟨h.aO,h.store,h.size,fun i v hv=>?_,fun i hi=>?_,fun i t ht=>?_,h.qW⟩
 ·rcases hl i with e|e|e
  ·have e':look (σ.dS live).e i=.undef:=e
   rw[e'];exact⟨.undef _,trivial⟩
  ·have e':look (σ.dS live).e i=dI (look σ.e i):=e
   rw[e'];exact fr i v hv
  ·have e':look (σ.dS live).e i=view (dI (look σ.e i)):=e
   rw[e'];exact da.XH (fr i v hv)
 ·rcases hl i with e|e|e
  ·exact e
  ·have e':look (σ.dS live).e i=dI (look σ.e i):=e
   rw[e',h.CG i hi];rfl
  ·have e':look (σ.dS live).e i=view (dI (look σ.e i)):=e
   rw[e',h.CG i hi];rfl
 ·have ht':bH (look (σ.dS live).e i) t:=ht
  rcases hl i with e|e|e
  ·have e':look (σ.dS live).e i=.undef:=e
   rw[e']at ht';exact ht'.elim
  ·have e':look (σ.dS live).e i=dI (look σ.e i):=e
   rw[e']at ht';exact(xz _ t ht').elim
  ·have e':look (σ.dS live).e i=view (dI (look σ.e i)):=e
   rw[e']at ht';exact(Qg _ (xz _) t ht').elim
def Qn(P:Program)(n:Nat):Prop:=
 ∀(D:List Deferred)(draw:Bool)(id:Nat)(ops:Array Oper)(iops:List aq)(q:Nat)(G:Gh)(σ:St)(a:Act)(w:World)(K:St→Prop)(Q:Exit→Act→World→Prop),
  cd P n ops ops.toList iops=true→(draw=true→JP ops q iops=true)→Inv G n D σ a w→Ov P q iops σ K→
  (∀G' σ' a' w',Inv G' n D σ' a' w'→aG G w G' w'→K σ'→Q .normal a' w')→(Code.region id ops draw).wp P Q a w
def Qo(P:Program)(n:Nat):Prop:=
 ∀(D:List Deferred)(draw:Bool)(id:Nat)(ops:Array Oper)(iops:List aq)(T:List Nat)(q:Nat)(G:Gh)(σ:St)(a:Act)(w:World)(K:St→Prop)(Q:Exit→Act→World→Prop),
  cd P n ops ops.toList iops=true→(draw=true→ED T ops q iops=true)→Inv G n D σ a w→gq T σ.e=true→BO P T q iops σ K→
  (∀G' σ' a' w',Inv G' n D σ' a' w'→aG G w G' w'→K σ'→Q .normal a' w')→(Code.region id ops draw).wp P Q a w
def Qm(P:Program)(n:Nat):Prop:=
 ∀(D:List Deferred)(id:Nat)(ops:Array Oper)(T:List Nat)(l:List Item)(G:Gh)(σ:St)(a:Act)(w:World)(K:St→Prop)(Q:Exit→Act→World→Prop),
  RT P T n ops l=true→Inv G n D σ a w→gq T σ.e=true→Dw P T l σ K→
  (∀G' σ' a' w',Inv G' n D σ' a' w'→aG G w G' w'→K σ'→Q .normal a' w')→(Code.region id ops true).wp P Q a w
def Qp(P:Program)(n:Nat):Prop:=
 ∀(D:List Deferred)(id:Nat)(ops:Array Oper)(deps:List (List Bool))(iops:List aq)(G:Gh)(σ:St)(a:Act)(w:World)(K:St→Prop)(Q:Exit→Act→World→Prop),
  cd P n ops ops.toList iops=true→JR ops deps=true→Inv G n D σ a w→LP P deps iops K iops (sW iops) σ→
  (∀G' σ' a' w',Inv G' n D σ' a' w'→aG G w G' w'→K σ'→Q .normal a' w')→(Code.region id ops true).wp P Q a w
def As(P:Program)(n:Nat):Prop:=Qn P n∧Qo P n∧Qm P n∧Qp P n
def Rel(n:Nat)(D:List Deferred)(G₀:Gh)(w₀:World)(Q:Exit→St→Prop)(Q':Exit→Act→World→Prop):Prop:=∀x G' σ' a' w',Inv G' n D σ' a' w'→aG G₀ w₀ G' w'→Q x σ'→Q' x a' w'
theorem LI:∀(c:Code){L:List Code}{cr:Code}{l:Nat},yk c l=some (L,cr)→c=L.foldr Code.seq (.seq (.label l) cr)∧findLabel c l=some (Code.skip.seq cr):=by
 intro c
 induction c with
 |seq s c _ ih=>
  intro L cr l h
  have gen:(∀m,s≠.label m)→(if(findLabel s l).isNone then(yk c l).map fun p=>(s::p.1,p.2)else none)=some (L,cr)→Code.seq s c=L.foldr Code.seq (.seq (.label l) cr)∧findLabel (Code.seq s c) l=some (Code.skip.seq cr):=by
   intro _ h
   split at h
   ·rename_i hn
    cases hs:yk c l with
    |none=>rw[hs]at h;cases h
    |some p=>
     obtain⟨L1,r1⟩:=p
     rw[hs]at h
     injection h with h;injection h with h1 h2;subst h1;subst h2
     have hn':findLabel s l=none:=Option.isNone_iff_eq_none.1 hn
     obtain⟨q1,q2⟩:=ih hs
     refine⟨by rw[q1];rfl,?_⟩
     unfold findLabel
     rw[hn']
     exact q2
   ·cases h
  cases s with
  |label m=>
   have h:(if m==l then some (([]:List Code),c)else none)=some (L,cr):=h
   split at h
   ·rename_i hm
    injection h with h;injection h with h1 h2;subst h1;subst h2
    have hm':m=l:=by simpa using hm
    subst hm'
    exact⟨rfl,by simp[findLabel]⟩
   ·cases h
  |_=>exact gen (fun m e=>by cases e) h
 |_=>intro L cr l h;cases h
theorem mq{a:IC}(h:uW a=true):a=.skip:=by cases a<;>first|rfl|cases h
def nY(n:Nat)(D:List Deferred)(G₀:Gh)(w₀:World)(C:(St→Prop)→(St→Nat)→Prop)(a:Act)(w:World)(k:Nat):Prop:=∃I μ G τ,C I μ∧Inv G n D τ a w∧aG G₀ w₀ G w∧I τ∧μ τ≤k
noncomputable def I2(n:Nat)(D:List Deferred)(G₀:Gh)(w₀:World)(C:(St→Prop)→(St→Nat)→Prop)(a:Act)(w:World):Nat:=Classical.epsilon fun k=>nY n D G₀ w₀ C a w k∧∀j,nY n D G₀ w₀ C a w j→k≤j
theorem yJ{n:Nat}{D:List Deferred}{G₀:Gh}{w₀:World}{C:(St→Prop)→(St→Nat)→Prop}{a:Act}{w:World}(h:∃k,nY n D G₀ w₀ C a w k):
 nY n D G₀ w₀ C a w (I2 n D G₀ w₀ C a w)∧∀j,nY n D G₀ w₀ C a w j→I2 n D G₀ w₀ C a w≤j:=by
 refine Classical.epsilon_spec (p:=fun k=>nY n D G₀ w₀ C a w k∧∀j,nY n D G₀ w₀ C a w j→k≤j) ?_
 obtain⟨k,hk⟩:=h
 induction k using Nat.strongRecOn with
 |_ k ih=>
  by_cases hj:∃j,j<k∧nY n D G₀ w₀ C a w j
  ·obtain⟨j,hj,hj'⟩:=hj
   exact ih j hj hj'
  ·exact⟨k,hk,fun j hj'=>by
    rcases Nat.lt_or_ge j k with hlt|hge
    ·exact absurd ⟨j,hlt,hj'⟩ hj
    ·exact hge⟩
theorem c5(hD:As P n):∀(ic:IC)(c:Code)(G₀:Gh)(w₀:World)(Q:Exit→St→Prop)(Q':Exit→Act→World→Prop)(G:Gh)(σ:St)(a:Act)(w:World),
 j7 P n c ic=true→Rel n D G₀ w₀ Q Q'→Inv G n D σ a w→aG G₀ w₀ G w→gP P ic Q σ→c.wp P Q' a w
 |.skip,c,G₀,w₀,Q,Q',G,σ,a,w,hc,hr,h,hp,hw=>by
  cases c<;>first|(simp[j7]at hc;done)|skip
  exact wp_skip (hr _ G σ a w h hp hw)
 |.cU q iops live,c,G₀,w₀,Q,Q',G,σ,a,w,hc,hr,h,hp,hw=>by
  cases c<;>first|(simp[j7]at hc;done)|skip
  rename_i id ops draw
  simp only[j7,Bool.and_eq_true]at hc
  have hn:∀G' σ' a' w',Inv G' n D σ' a' w'→aG G₀ w₀ G' w'→sw live Q σ'→Q' .normal a' w':=fun G' σ' a' w' h1 h2 h3=>hr _ G' _ a' w' (h1.vb live) h2 h3
  cases q with
  |none=>
   have hdr:draw=false:=by simpa using hc.2
   subst hdr
   exact wp_region_list (pz G₀ w₀ hn ops.toList iops G σ a w hc.1 h hp hw)
  |some q=>
   have hdr:draw=true→JP ops q iops=true:=fun hd=>by
    have:=hc.2
    rw[hd]at this
    simpa using this
   exact hD.1 D draw id ops iops q G σ a w _ Q' hc.1 hdr h hw fun G' σ' a' w' h1 h2 h3=>hn G' σ' a' w' h1 (hp.trans h2) h3
 |.FJ T q iops live,c,G₀,w₀,Q,Q',G,σ,a,w,hc,hr,h,hp,hw=>by
  cases c<;>first|(simp[j7]at hc;done)|skip
  rename_i id ops draw
  simp only[j7,Bool.and_eq_true]at hc
  have hn:∀G' σ' a' w',Inv G' n D σ' a' w'→aG G₀ w₀ G' w'→sw live Q σ'→Q' .normal a' w':=fun G' σ' a' w' h1 h2 h3=>hr _ G' _ a' w' (h1.vb live) h2 h3
  have hdr:draw=true→ED T ops q iops=true:=fun hd=>by
   have:=hc.2
   rw[hd]at this
   simpa using this
  exact hD.2.1 D draw id ops iops T q G σ a w _ Q' hc.1 hdr h hw.1 hw.2 fun G' σ' a' w' h1 h2 h3=>hn G' σ' a' w' h1 (hp.trans h2) h3
 |.FI T l live,c,G₀,w₀,Q,Q',G,σ,a,w,hc,hr,h,hp,hw=>by
  cases c<;>first|(simp[j7]at hc;done)|skip
  rename_i id ops draw
  simp only[j7,Bool.and_eq_true]at hc
  obtain⟨rfl,hc⟩:=hc
  have hn:∀G' σ' a' w',Inv G' n D σ' a' w'→aG G₀ w₀ G' w'→sw live Q σ'→Q' .normal a' w':=fun G' σ' a' w' h1 h2 h3=>hr _ G' _ a' w' (h1.vb live) h2 h3
  exact hD.2.2.1 D id ops T l G σ a w _ Q' hc h hw.1 hw.2 fun G' σ' a' w' h1 h2 h3=>hn G' σ' a' w' h1 (hp.trans h2) h3
 |.Lz deps iops live,c,G₀,w₀,Q,Q',G,σ,a,w,hc,hr,h,hp,hw=>by
  cases c<;>first|(simp[j7]at hc;done)|skip
  rename_i id ops draw
  simp only[j7,Bool.and_eq_true]at hc
  obtain⟨rfl,hc1,hc2⟩:=hc
  have hn:∀G' σ' a' w',Inv G' n D σ' a' w'→aG G₀ w₀ G' w'→sw live Q σ'→Q' .normal a' w':=fun G' σ' a' w' h1 h2 h3=>hr _ G' _ a' w' (h1.vb live) h2 h3
  exact hD.2.2.2 D id ops deps iops G σ a w _ Q' hc1 hc2 h hw fun G' σ' a' w' h1 h2 h3=>hn G' σ' a' w' h1 (hp.trans h2) h3
 |.seq x y,c,G₀,w₀,Q,Q',G,σ,a,w,hc,hr,h,hp,hw=>by
  cases c<;>first|(simp[j7]at hc;done)|skip
  rename_i c1 c2
  simp only[j7,Bool.and_eq_true]at hc
  refine wp_seq (c5 hD x c1 G₀ w₀ (zZ P y Q) _ G σ a w hc.1 ?_ h hp ?_)
  ·intro e G' σ' a' w' h1 h2 h3
   cases e with
   |normal=>exact c5 hD y c2 G₀ w₀ Q Q' G' σ' a' w' hc.2 hr h1 h2 h3
   |_=>exact hr _ G' σ' a' w' h1 h2 h3
  ·have:(fun x τ=>match x with|.normal=>gP P y Q τ|x=>Q x τ)=zZ P y Q:=by
    funext e τ;cases e<;>rfl
   have hw':gP P x (fun x τ=>match x with|.normal=>gP P y Q τ|x=>Q x τ) σ:=hw
   rw[this]at hw'
   exact hw'
 |.cond cx x y,c,G₀,w₀,Q,Q',G,σ,a,w,hc,hr,h,hp,hw=>by
  cases c<;>first|(simp[j7]at hc;done)|skip
  rename_i o c1 c2
  simp only[j7,Bool.and_eq_true]at hc
  obtain⟨⟨hx,h1⟩,h2⟩:=hc
  have hb:=XR.aJ h hx
  have hw':JV P x y Q σ (σ.x cx):=by
   have:gP P (.cond cx x y) Q σ=JV P x y Q σ (σ.x cx):=by
    show(match σ.x cx with|.bool v=>(v=true→gP P x Q σ)∧(v=false→gP P y Q σ)|_=>False)=_
    cases σ.x cx<;>rfl
   rw[←this];exact hw
  generalize σ.x cx=xv at hb hw'
  cases xv<;>try exact hw'.elim
  rename_i v
  have hv:=VR.gm hb
  exact wp_cond_split hv (fun hv=>c5 hD x c1 G₀ w₀ Q Q' G σ a w h1 hr h hp (hw'.1 hv)) (fun hv=>c5 hD y c2 G₀ w₀ Q Q' G σ a w h2 hr h hp (hw'.2 hv))
 |.block id x,c,G₀,w₀,Q,Q',G,σ,a,w,hc,hr,h,hp,hw=>by
  cases c<;>first|(simp[j7]at hc;done)|skip
  rename_i id' c1
  simp only[j7,Bool.and_eq_true,beq_iff_eq]at hc
  obtain⟨rfl,hc⟩:=hc
  refine wp_block (c5 hD x c1 G₀ w₀ (H9 id' Q) _ G σ a w hc ?_ h hp hw)
  intro e G' σ' a' w' h1 h2 h3
  cases e with
  |exit i=>
   have h3':(bif i==id' then Q .normal σ' else Q (.exit i) σ'):=h3
   by_cases hi:i=id'
   ·have:(i==id')=true:=by simpa using hi
    rw[this]at h3'
    simpa[Exit.inBlock,hi]using hr _ G' σ' a' w' h1 h2 h3'
   ·have:(i==id')=false:=by simpa using hi
    rw[this]at h3'
    simpa[Exit.inBlock,hi]using hr _ G' σ' a' w' h1 h2 h3'
  |_=>exact hr _ G' σ' a' w' h1 h2 h3
 |.loop live x,c,G₀,w₀,Q,Q',G,σ,a,w,hc,hr,h,hp,hw=>by
  cases c<;>first|(simp[j7]at hc;done)|skip
  rename_i c1
  simp only[j7]at hc
  obtain⟨I,μ,h0,hI⟩:=hw
  have key:∀(m:Nat)(G:Gh)(σ:St)(a:Act)(w:World),Inv G n D σ a w→aG G₀ w₀ G w→I σ→μ σ<m→Code.rounds P c1 Q' m a w:=by
   intro m
   induction m with
   |zero=>intro G σ a w _ _ _ hm;omega
   |succ m ih=>
    intro G σ a w h hp hi hm
    rw[rounds_succ]
    refine c5 hD x c1 G₀ w₀ (DY live I μ (μ σ) Q) _ G σ a w hc ?_ h hp (hI σ hi)
    intro e G' σ' a' w' h1 h2 h3
    cases e with
    |normal=>exact ih G' _ a' w' (h1.dS live) h2 h3.1 (by have:=h3.2;omega)
    |_=>exact hr _ G' σ' a' w' h1 h2 h3
  exact wp_loop_rounds (μ (σ.dS live)+1) (key _ G _ a w (h.dS live) hp h0 (by omega))
 |.join live x y,c,G₀,w₀,Q,Q',G,σ,a,w,hc,hr,h,hp,hw=>by
  cases c<;>first|(simp[j7]at hc;done)|skip
  rename_i c1 c2
  simp only[j7,Bool.and_eq_true]at hc
  obtain⟨J,h0,hJ⟩:=hw
  refine wp_seq (c5 hD x c1 G₀ w₀ (oS live J Q) _ G σ a w hc.1 ?_ h hp h0)
  intro e G' σ' a' w' h1 h2 h3
  cases e with
  |normal=>exact c5 hD y c2 G₀ w₀ Q Q' G' _ a' w' hc.2 hr (h1.dS live) h2 (hJ _ h3)
  |_=>exact hr _ G' σ' a' w' h1 h2 h3
 |.exit id,c,G₀,w₀,Q,Q',G,σ,a,w,hc,hr,h,hp,hw=>by
  cases c<;>first|(simp[j7]at hc;done)|skip
  simp only[j7,beq_iff_eq]at hc
  subst hc
  exact wp_exit (hr _ G σ a w h hp hw)
 |.scope x,c,G₀,w₀,Q,Q',G,σ,a,w,hc,hr,h,hp,hw=>by
  cases c<;>first|(simp[j7]at hc;done)|skip
  rename_i c1
  simp only[j7]at hc
  have hw':gP P x (Jy Q) σ:=by
   have:(fun x τ=>match x with|.goto _=>False|x=>Q x τ)=Jy Q:=by funext e τ;cases e<;>rfl
   have hw':gP P x (fun x τ=>match x with|.goto _=>False|x=>Q x τ) σ:=hw
   rw[this]at hw'
   exact hw'
  refine wp_scope_straight (c5 hD x c1 G₀ w₀ (Jy Q) _ G σ a w hc ?_ h hp hw')
  intro e G' σ' a' w' h1 h2 h3
  cases e with
  |goto l=>exact h3
  |_=>exact hr _ G' σ' a' w' h1 h2 h3
 |.vt l live x1 x2 x3 y,c,G₀,w₀,Q,Q',G,σ,a,w,hc,hr,h,hp,hw=>by
  unfold j7 at hc
  split at hc<;>try(cases hc;done)
  all_goals first|(rename_i he;cases he;done)|skip
  rename_i c1 m live' x1' x2' x3' y' he
  injection he with e1 e2 e3 e4 e5 e6
  subst e1;subst e2;subst e3;subst e4;subst e5;subst e6
  have hw':gP P x1 (zZ P x2 (zZ P x3 (HH live (O8 P l live y Q) Q))) σ:=by rw[←Ik];exact hw
  let C:(St→Prop)→(St→Nat)→Prop:=fun I μ=>∀τ,I τ→gP P y (IY l live (fun ρ'=>I ρ'∧μ ρ'<μ τ) Q) τ
  have key:∀(L:List Code)(cr:Code),yk c1 l=some (L,cr)→j7 P n cr y=true→
   (∀Q0:Exit→Act→World→Prop,(∀e a w,e≠.normal→(∃G τ,Inv G n D τ a w∧aG G₀ w₀ G w∧HH live (O8 P l live y Q) Q e τ)→Q0 e a w)→
     (∀a w,(∃G τ,Inv G n D τ a w∧aG G₀ w₀ G w∧O8 P l live y Q (τ.dS live))→((Code.label l).seq cr).wp P Q0 a w)→(L.foldr Code.seq (.seq (.label l) cr)).wp P Q0 a w)→
   (Code.scope c1).wp P Q' a w:=by
   intro L cr hsp hcr hfirst
   obtain⟨hc1,hfl⟩:=LI _ hsp
   refine wp_scope_jumps l (fun a w=>∃k,nY n D G₀ w₀ C a w k) (I2 n D G₀ w₀ C) hfl ?_ ?_
   ·rw[hc1]
    refine hfirst _ (fun e a' w' he⟨G',τ,h1,h2,h3⟩=>?_) (fun a' w'⟨G',τ,h1,h2,h3⟩=>?_)
    ·cases e with
     |goto l=>exact h3.elim
     |normal=>exact absurd rfl he
     |_=>exact hr _ G' τ a' w' h1 h2 h3
    ·obtain⟨I,μ,h4,hI⟩:=h3
     refine wp_seq (wp_label ?_)
     refine c5 hD y cr G₀ w₀ _ _ G' _ a' w' hcr ?_ (h1.dS live) h2 (hI _ h4)
     intro e G2 σ2 a2 w2 q1 q2 q3
     cases e with
     |goto l=>exact⟨q3.1,_,I,μ,G2,_,hI,q1.dS live,q2,q3.2.1,Nat.le_refl _⟩
     |_=>exact hr _ G2 σ2 a2 w2 q1 q2 q3
   ·intro a' w' hJ
    obtain⟨I,μ,G',τ,hI,h1,h2,h3,h4⟩:=(yJ hJ).1
    refine wp_seq (wp_skip ?_)
    refine c5 hD y cr G₀ w₀ _ _ G' τ a' w' hcr ?_ h1 h2 (hI _ h3)
    intro e G2 σ2 a2 w2 q1 q2 q3
    cases e with
    |goto l=>
     have hk:nY n D G₀ w₀ C a2 w2 (μ (σ2.dS live)):=⟨I,μ,G2,_,hI,q1.dS live,q2,q3.2.1,Nat.le_refl _⟩
     refine⟨q3.1,⟨_,hk⟩,?_⟩
     have:=(yJ ⟨_,hk⟩).2 _ hk
     have:=q3.2.2
     omega
    |_=>exact hr _ G2 σ2 a2 w2 q1 q2 q3
  split at hc
  ·rename_i cr hsp
   simp only[Bool.and_eq_true]at hc
   obtain⟨k1,k2,k3,hcr⟩:=hc
   rw[mq k1,mq k2,mq k3]at hw'
   exact key _ _ hsp hcr fun Q0 _ hb=>hb _ _ ⟨G,σ,h,hp,hw'⟩
  ·rename_i s1 cr hsp
   simp only[Bool.and_eq_true]at hc
   obtain⟨k1,k2,k3,hcr⟩:=hc
   rw[mq k2,mq k3]at hw'
   refine key _ _ hsp hcr fun Q0 ha hb=>wp_seq (c5 hD x1 s1 G₀ w₀ _ _ G σ a w k1 ?_ h hp hw')
   intro e G' σ' a' w' h1 h2 h3
   cases e with
   |normal=>exact hb _ _ ⟨G',σ',h1,h2,h3⟩
   |_=>exact ha _ _ _ (by simp) ⟨G',σ',h1,h2,h3⟩
  ·rename_i s1 s2 cr hsp
   simp only[Bool.and_eq_true]at hc
   obtain⟨k1,k2,k3,hcr⟩:=hc
   rw[mq k3]at hw'
   refine key _ _ hsp hcr fun Q0 ha hb=>wp_seq (c5 hD x1 s1 G₀ w₀ _ _ G σ a w k1 ?_ h hp hw')
   intro e G' σ' a' w' h1 h2 h3
   cases e with
   |normal=>
    refine wp_seq (c5 hD x2 s2 G₀ w₀ _ _ G' σ' a' w' k2 ?_ h1 h2 h3)
    intro e G' σ' a' w' h1 h2 h3
    cases e with
    |normal=>exact hb _ _ ⟨G',σ',h1,h2,h3⟩
    |_=>exact ha _ _ _ (by simp) ⟨G',σ',h1,h2,h3⟩
   |_=>exact ha _ _ _ (by simp) ⟨G',σ',h1,h2,h3⟩
  ·rename_i s1 s2 s3 cr hsp
   simp only[Bool.and_eq_true]at hc
   obtain⟨k1,k2,k3,hcr⟩:=hc
   refine key _ _ hsp hcr fun Q0 ha hb=>wp_seq (c5 hD x1 s1 G₀ w₀ _ _ G σ a w k1 ?_ h hp hw')
   intro e G' σ' a' w' h1 h2 h3
   cases e with
   |normal=>
    refine wp_seq (c5 hD x2 s2 G₀ w₀ _ _ G' σ' a' w' k2 ?_ h1 h2 h3)
    intro e G' σ' a' w' h1 h2 h3
    cases e with
    |normal=>
     refine wp_seq (c5 hD x3 s3 G₀ w₀ _ _ G' σ' a' w' k3 ?_ h1 h2 h3)
     intro e G' σ' a' w' h1 h2 h3
     cases e with
     |normal=>exact hb _ _ ⟨G',σ',h1,h2,h3⟩
     |_=>exact ha _ _ _ (by simp) ⟨G',σ',h1,h2,h3⟩
    |_=>exact ha _ _ _ (by simp) ⟨G',σ',h1,h2,h3⟩
   |_=>exact ha _ _ _ (by simp) ⟨G',σ',h1,h2,h3⟩
  ·cases hc
 |.label l,c,G₀,w₀,Q,Q',G,σ,a,w,hc,hr,h,hp,hw=>by
  cases c<;>first|(simp[j7]at hc;done)|skip
  exact wp_label (hr _ G σ a w h hp hw)
 |.goto l,c,G₀,w₀,Q,Q',G,σ,a,w,hc,hr,h,hp,hw=>by
  cases c<;>first|(simp[j7]at hc;done)|skip
  simp only[j7,beq_iff_eq]at hc
  subst hc
  exact wp_goto (hr _ G σ a w h hp hw)
 |.dead,c,G₀,w₀,Q,Q',G,σ,a,w,hc,hr,h,hp,hw=>(show False from hw).elim
 |.ret,c,G₀,w₀,Q,Q',G,σ,a,w,hc,hr,h,hp,hw=>by
  cases c<;>first|(simp[j7]at hc;done)|skip
  exact wp_ret (hr _ G σ a w h hp hw)
end
end Go.AB
end
