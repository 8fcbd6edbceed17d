/- A part. -/
import Derived.Test.YtgecakgfnjkkbaaGreatRt4
import Derived.MapKept
import Derived.ChangeKeysEq
set_option linter.defProp false
set_option linter.unusedSimpArgs false
set_option linter.unusedVariables false
section
namespace Go.AB
open Go
section
variable{P:Program}{G G':Gh}{n:Nat}{D:List Deferred}{E:St}{a:Act}{w w':World}
structure Src(P:Program)(w:World)(R:Nat->Nat)(sz m:Nat)(ds:List AV)(v:Value)(news:List Value):Prop where
 len:news.length=m*sz
 qt:ds.length=m*sz
 lenOf:∀w',(Builtin.lenOf v).run P w'=.ok m w'
 first:∀w',w'.heap=w.heap->(Builtin.firstCells sz m v).run P w'=.ok news.toArray w'
 one:∀u∈news,u.oneCell'=true
 lV:∀(j:Nat)(c:AV)(u:Value),ds[j]? =some c->news[j]? =some u->VR w R c u
 fl:Fl ds
theorem zw{w w':World}(h:w'.heap=w.heap)(a:Addr):w'.cell? a=w.cell? a:=by grind [World.cell?]
def Src.aaP{R:Nat->Nat}{o:Bool}{s sz m:Nat}{ds:List AV}{v:Value}(h:VR w R (.sl o s m ds) v)(hs:s=sz\/m=0):∃news,Src P w R sz m (views ds) v news:=by
 rcases VR.gR h with⟨(rfl|⟨_,ad,cap,rfl⟩),rfl,rfl⟩|⟨b,off,cap,rfl,hl,_,_,hat⟩
 ·exact⟨[],BY,bY,fun _=>rfl,fun w' _=>D_,BY,fun j c u hc=>BY,Fl.nil⟩
 ·exact⟨[],BY,bY,fun _=>rfl,fun w' _=>by simp[Builtin.firstCells,loadCells,loadCellsFrom],BY,fun j c u hc=>BY,Fl.nil⟩
 ·have hlen:(views ds).length=m*sz:=by
   rcases hs with rfl|rfl
   ·simp[views,hl]
   ·grind [views,List.length_map]
  have TQ:=hat.views
  obtain⟨us,h1,h2,h3⟩:=TQ.lV
  have hfl:Fl (views ds):=by obtain⟨_,_,_,hf⟩:=TQ;exact hf
  refine⟨us,AT,hlen,fun _=>rfl,fun w' hw'=>?_,fun u hu=>?_,h3,hfl⟩
  ·grind [run_firstCells_some,zw]
  ·obtain⟨j,hj⟩:=List.mem_iff_getElem?.1 hu
   have hlt:j<(views ds).length:=A_
   have hx:=List.getElem?_eq_getElem hlt
   exact ji (hfl _ (List.getElem_mem hlt)) (h3 j _ u hx hj)
def Src.Jg{R:Nat->Nat}{l:List UInt8}:Src P w R 1 l.length (l.map fun c=>.int .u8 c.toNat) (.string ⟨l.toArray⟩) (l.map fun c=>.int .u8 c.toNat)where
 len:=BY
 qt:=BY
 lenOf:=fun w'=>D_
 first:=fun w' _=>by
  have:(ByteArray.mk l.toArray).extract 0 l.length=⟨l.toArray⟩:=by
   apply ByteArray.ext
   simp
  simp[Builtin.firstCells]
 one:=fun u hu=>by
  simp[List.mem_map]at hu
  obtain⟨x,_,rfl⟩:=hu
  rfl
 lV:=fun j c u hc hu=>by
  rw[List.getElem?_map]at hc hu
  cases hj:l[j]? with
  |none=>grind
  |some x=>rw[hj]at hc hu;simp at hc hu;rw[<-hc,<-hu];exact .int _ _
 fl:=Km l
section runs
variable{t t' ty e:TypeId}{i:TypeInfo}{z:Value}{sz m:Nat}{ds:List AV}{v:Value}{news:List Value}
def jd(ht:P.underlying t=some (.slice e))(ht':(∃e',P.underlying t'=some (.slice e'))\/P.underlying t'=some .string)(hi:P.info? e=some i)(hsz:i.size=sz){R:Nat->Nat}(hs:Src P w R sz m ds v news){b off k cap:Nat}
 (cg:k+m<=cap){w':World}(ez:(storeCells ⟨b,off+k*sz,none⟩ news).run P w=.ok () w'):
 (Builtin.append_ #[t,t'] ty #[.slice (some ⟨b,off,none⟩) k cap,v]).run P w=.ok (.slice (some ⟨b,off,none⟩) (k+m) cap) w':=by
 subst hsz
 have h1:=hs.lenOf w
 have h2:=hs.first w rfl
 rcases ht' with⟨e',ht'⟩|ht'<;>
  simp[Builtin.append_,run_underlying ht,run_underlying ht',sizeOf,typeInfo,hi,h1,cg,h2,add_eq,ez]
def ov(ht:P.underlying t=some (.slice e))(ht':(∃e',P.underlying t'=some (.slice e'))\/P.underlying t'=some .string)(hi:P.info? e=some i)(hsz:i.size=sz){R:Nat->Nat}(hs:Src P w R sz 0 ds v news):
 (Builtin.append_ #[t,t'] ty #[.slice none 0 0,v]).run P w=.ok (.slice none 0 0) w:=by
 subst hsz
 have h1:=hs.lenOf w
 have h2:=hs.first w rfl
 rcases ht' with⟨e',ht'⟩|ht'<;>
  simp[Builtin.append_,run_underlying ht,run_underlying ht',sizeOf,typeInfo,hi,h1,h2]
def ss(ht:P.underlying t=some (.slice e))(ht':(∃e',P.underlying t'=some (.slice e'))\/P.underlying t'=some .string)(hi:P.info? e=some i)(hz:i.zero=some z)(hsz:i.size=sz){R:Nat->Nat}(hs:Src P w R sz m ds v news){base:Option Addr}{k cap:Nat}{olds:List Value}
 (hold:(Builtin.firstCells sz k (.slice base k cap)).run P w.drew=.ok olds.toArray w.drew)(cg:cap<k+m)(C3:(k+m)*i.bytes<=room)(hb0:0<i.bytes):
 (Builtin.append_ #[t,t'] ty #[.slice base k cap,v]).run P w=.ok (.slice (some ⟨w.heap.size,0,none⟩) (k+m) (grownCap w (k+m) cap e))
   (w.drew.alloc (.cells (olds.toArray++news.toArray++Builtin.zeroCells z.cells (grownCap w (k+m) cap e -(k+m))) e)):=by
 subst hsz
 have h1:=hs.lenOf w
 have h2:=hs.first w.drew rfl
 have h3:¬(k+m<=cap):=AT
 have h4:¬(281474976710656<Builtin.nextslicecap (k+m) cap*i.bytes):=by have:=growslice_fits cg C3;omega
 have h5:k+m<=(k+m)*i.bytes:=Nat.le_mul_of_pos_right _ hb0
 have h6:¬((9223372036854775807:Int)<(k:Int)+m):=by unfold room at C3;omega
 rcases ht' with⟨e',ht'⟩|ht'<;>
  simp[Builtin.append_,run_underlying ht,run_underlying ht',sizeOf,typeInfo,zeroValue,hi,hz,h1,h3,h4,h6,Question.forced,hold,h2,newRow,grownCap]<;>
  (grind)
end runs
def Inv.grown(h:Inv G n D E a w){d:Option Nat}(hd:bq n d=true){b off sz k m cap:Nat}{c:Array Value}{t:TypeId}{fz:Nat×Nat}{cs ds:List AV}{v:Value}{news:List Value}{R:Nat->Nat}
 (hb:w.heap[b]? =some (.cells c t fz))(hfz:(∀j,j<c.size->¬(fz.1<=j/\j<fz.2))/\fz.1<=fz.2)(hof:off=0)(hz0:fz=(0,0)\/(0<k/\0<sz/\∃x,c[0]? =some (.int .u8 x)))(hsp:∀(i:Nat)(y:Value),off+k*sz<=i->c[i]? =some y->y.oneCell'=true)(ho:∀i,d=some i->G.O b=.slot i 0)(hon:G.O b≠.none/\G.O b≠.frame/\G.O b≠.sh/\(∀i,G.O b≠.loc i)/\(∀i j,G.O b≠.cell i j)/\(∀i j,G.O b=.slot i j->d=some i/\j=0))
 (hR:G.R b=off+k*sz)(hsz:c.size=off+cap*sz)(fh:k+m<=cap)(hlc:cs.length=k*sz)(hat:At w G.R b off cs)(hs:Src P w R sz m ds v news)(hRR:R=G.R):
 ∃G',Inv G' n D (E.put d (.sl true sz (k+m) (cs++ds))) (a.put d (.slice (some ⟨b,off,none⟩) (k+m) cap)) (w.setRow b (laid c (off+k*sz) news))/\aI G w G' (w.setRow b (laid c (off+k*sz) news)):=by
 subst hRR
 have dE:off+k*sz+news.length<=c.size:=by
  rw[hs.len,hsz,Nat.add_assoc,<-Nat.add_mul]
  exact Nat.add_le_add_left (Nat.mul_le_mul_right _ fh) _
 let G':=G.pR b (G.O b) (off+(k+m)*sz)
 have hmul:(k+m)*sz=k*sz+m*sz:=Nat.add_mul ..
 have bK:aI G w G' (w.setRow b (laid c (off+k*sz) news)):=aI.write hb ⟨hon.2.1,hon.1⟩
  (fun j hj=>by rw[hR]at hj;rw[lO _ _ _ dE,if_neg AT]) (by simp only[G',Gh.abp,if_true,hR,hmul];omega) (fun b' hb'=>c_)
 have ks:cq G' (w.setRow b (laid c (off+k*sz) news)):=by
  have hlt:b<w.heap.size:=h.bc.lt hon.1
  refine⟨fun b' hb'=>?_,fun b' hb'=>?_⟩
  ·have vB:w.heap.size<=b':=Δ
   have:b'≠b:=AT
   simp[G',this,h.bc.jI b' vB]
  ·have vB:w.heap.size<=b':=Δ
   have:b'≠b:=AT
   simp[G',this,h.bc.jY b' vB]
 have same:∀b',b'≠b->G'.O b'=G.O b'/\G'.R b'=G.R b'/\(w.setRow b (laid c (off+k*sz) news)).heap[b']? =w.heap[b']? :=fun b' hb'=>⟨c_,c_,setRow_other w b b' _ hb'⟩
 have ez:=h.store.mono h.bc bK (fun b' hb'=>by
  grind) (fun b' c' j _ hc'=>by
  grind)
 have:=h.put (s':=E.s) (lp':=E.lp) d (fun i hi=>IF) (.sl true sz (k+m) (cs++ds)) (.slice (some ⟨b,off,none⟩) (k+m) cap) ks bK ez (fun _ hx=>hx) (fun i t _ ht=>ht.elim) (fun i t _⟨cs',zJ⟩=>by cases zJ)
  (fun i b' hdi hb'=>same b' (fun e=>A_))
  (fun i b' c' j hdi hb' hc'=>A_)
  (fun i hi=>by
    obtain⟨u,u1,u2,u3⟩:=hat
    subst hi
    refine⟨?_,?_⟩
    ·have hll:(cs++ds).length=(k+m)*sz:=by rw[List.length_append,hlc,hs.qt,hmul]
     refine .sl true sz (k+m) (cs++ds) b off cap (fun j=>if j<k*sz then u j else news.getD (j -k*sz) undef) (fun x hx=>?_) hll (by rw[hll];simp[G']) fh (fun j x hj=>?_) (fun j x hj=>?_)
     ·rcases List.mem_append.1 hx with hx|hx
      ·exact u3 x hx
      ·exact hs.fl x hx
     ·rw[uw hb,if_pos rfl,lO _ _ _ dE]
      have hjl:j<(k+m)*sz:=by rw[<-hll];exact(List.getElem?_eq_some_iff.1 hj).1
      by_cases hjk:j<k*sz
      ·rw[if_neg AT,if_pos hjk]
       grind [List.getElem?_append_left,cell_of_row]
      ·have h1:=hs.len
       grind
     ·by_cases hjk:j<k*sz
      ·rw[if_pos hjk]
       rw[List.getElem?_append_left A_]at hj
       exact bK.vr h.bc (u2 j x hj)
      ·rw[if_neg hjk]
       rw[List.getElem?_append_right A_,hlc]at hj
       have h1:=hs.len
       have h2:=hs.qt
       have hlt:j -k*sz<news.length:=Θ
       have hn:news[j -k*sz]? =some (news.getD (j -k*sz) undef):=by simp[List.getD_eq_getElem?_getD,hlt]
       exact bK.vr h.bc (hs.lV _ x _ hj hn)
    ·intro base m' cQ hv hc
     injection hv with e1 e2 e3
     subst e3
     exact⟨b,off,_,t,fz,e1.symm,by simp only[G',Gh.Wg,if_true];grind,by simp[G'],setRow_heap w b c _ t fz hb,by grind [qY],by rw[qY _ _ _ dE];exact⟨hfz.1,hfz.2,hof,hz0.imp id fun⟨z1,z2,x,z3⟩=>⟨AT,x,by
      have zp:0<k*sz:=Nat.mul_pos z1 z2
      rw[lO _ _ _ dE,if_neg AT];exact z3⟩,fun i y hi hy=>by
      rw[lO _ _ _ dE]at hy
      split at hy
      ·exact hs.one _ (List.mem_of_getElem? hy)
      grind⟩⟩)
 exact⟨G',Xc3,bK⟩
def BN:Option Nat->dh
 |some i=>.slot i 0
 |none=>.res 0
def ES{e:TypeId}{sz:Nat}(h:zi P e sz=true):∃i z,P.info? e=some i/\i.zero=some z/\z.cells.size=sz/\∀y∈z.cells.toList,y.oneCell'=true:=by
 unfold zi at h
 grind
theorem wB{zs:Array Value}(h:∀y∈zs.toList,y.oneCell'=true)(q:Nat):∀y∈(Builtin.zeroCells zs q).toList,y.oneCell'=true:=by
 intro y hy
 rw[show Builtin.zeroCells zs q=((List.replicate q zs.toList).flatten).toArray from uF zs q]at hy
 simp[List.mem_flatten]at hy
 grind
theorem Nh(h:Inv G n D E a w){op:Op}{ty:TypeId}{sz by':Nat}{x y:IX}{d:Option Nat}{K:St->Prop}(hd:bq n d=true)(hc:aw P op ty (.append sz by' x y)=true)(hw:ju P (.append sz by' x y) d E K):pM P G n D w a op ty d K:=by
 cases op<;>first|(simp[aw]at hc;done)|skip
 rename_i c
 simp only[aw]at hc
 split at hc<;>try(cases hc;done)
 rename_i u v t t' hb
 have hce:=qm hb
 subst hce
 simp only[Bool.and_eq_true]at hc
 obtain⟨⟨hu,hv⟩,hc⟩:=hc
 split at hc<;>try(cases hc;done)
 rename_i e ht
 have ht:=de ht
 simp only[Bool.and_eq_true]at hc
 obtain⟨⟨⟨⟨⟨hs,hby⟩,jW⟩,yj⟩,hzl⟩,ht'⟩:=hc
 obtain⟨i,z,hi,hz,hzs,hz1⟩:=ES hzl
 obtain⟨i',hi',qR⟩:=lx hs
 rw[hi]at hi';injection hi' with hi';subst hi'
 have jW:=of_decide_eq_true jW
 have yj:=of_decide_eq_true yj
 have hby:i.bytes=by':=by
  unfold lE at hby
  rw[hi]at hby
  simpa using hby
 have ht2:(∃e',P.underlying t'=some (.slice e'))\/P.underlying t'=some .string:=by
  rcases Bool.or_eq_true .. ▸ht' with h|h
  ·grind [cV,de]
  ·grind [zc]
 have hw':mM sz by' E x d K (E.x x) (E.x y):=hw
 have key:∃k m cs ds news,E.x x=.sl true sz k cs/\Src P w G.R sz m ds (a.eval v) news/\(k+m)*by'<=room/\K ((E.drain x).put d (.sl true sz (k+m) (cs++ds))):=by
  have hbx:=XR.aQ h hu
  have hby:=XR.aQ h hv
  generalize hx:E.x x=xv at hw' hbx
  generalize hy:E.x y=yv at hw' hby
  unfold mM at hw'
  split at hw'<;>try(exact hw'.elim)
  ·rename_i s k cs o s' m ds
   obtain⟨rfl,h2,h3,h4⟩:=hw'
   obtain⟨news,eI⟩:=Src.aaP (P:=P) hby h2
   grind
  ·rename_i s k cs ds
   obtain⟨rfl,h2,h3,h4⟩:=hw'
   subst h2
   have e1:=VR.gm hby
   exact⟨k,ds.length,cs,_,_,rfl,by rw[e1];exact Src.Jg,h3,h4⟩
 obtain⟨k,m,cs,ds,news,hx,eI,cg,hk⟩:=key
 have hiv:dF (E.x x)=true:=by rw[hx];rfl
 obtain⟨G1,h1,hp1,hv1,vZ,hR1,hsh,Q1,dG⟩:=h.drain hu hiv (BN d) Γ Γ
 rw[hx]at hv1 vZ
 have qS:Src P w G1.R sz m ds (a.eval v) news:=by rw[hR1];exact eI
 have grow:∀(base:Option Addr)(cap:Nat)(olds:List Value),a.eval u=.slice base k cap->cap<k+m->olds.length=k*sz->cs.length=k*sz->Fl cs->
  (Builtin.firstCells sz k (.slice base k cap)).run P w.drew=.ok olds.toArray w.drew->(∀(j:Nat)(c:AV)(u:Value),cs[j]? =some c->olds[j]? =some u->VR w G1.R c u)->
  pM P G n D w a (.call {callee:=.builtin .append,args:= #[u,v],argTypes:= #[t,t']}) ty d K:=by
  intro base cap olds e1 C6 hol hcl hcf hold tL
  have bU:=ss (ty:=ty) ht ht2 hi hz qR qS hold C6 A_ A_
  have hge:k+m<=grownCap w (k+m) cap e:=grownCap_ge w (k+m) cap e
  obtain⟨G2,h3,h4⟩:=(h1.drew).aaI (t:=e) (c:=olds.toArray++news.toArray++Builtin.zeroCells z.cells (grownCap w (k+m) cap e -(k+m))) (m:=k+m) (cs:=cs++ds) (cap:=grownCap w (k+m) cap e) (sz:=sz) (ob:=match d with|some i=>.slot i 0|none=>.none) hd
   (fun i hi=>by subst hi;rfl) (fun hn=>by subst hn;rfl) (by rw[List.length_append,hcl,eI.qt,Nat.add_mul]) hge (by
     simp only[Array.size_append,List.size_toArray,size_zeroCells,hol,eI.len,hzs,<-Nat.add_mul]
     grind) (fun c hc=>by
     rcases List.mem_append.1 hc with hc|hc
     ·exact hcf c hc
     ·exact eI.fl c hc)
   (fun j x hj=>by
     have hl1:=eI.len
     have hl2:=eI.qt
     by_cases hjk:j<k*sz
     ·rw[List.getElem?_append_left A_]at hj
      have hlt:j<olds.length:=by rw[hol];exact hjk
      refine⟨olds[j],?_,?_⟩
      ·grind
      ·exact(aI.drew G1 w).vr h1.bc (tL j x _ hj (List.getElem?_eq_getElem hlt))
     ·rw[List.getElem?_append_right A_,hcl]at hj
      have hlt:j -k*sz<news.length:=Θ
      refine⟨news[j -k*sz],?_,?_⟩
      ·grind
      ·exact(aI.drew G1 w).vr h1.bc (qS.lV _ x _ hj (List.getElem?_eq_getElem hlt))) (0,0) ⟨fun k _ hk=>by simp at hk,Nat.le_refl _⟩ (own:=true) (fun _=>.inl rfl) (fun i y hi hy=>by
     rw[Array.append_assoc,<-Array.append_assoc,Array.getElem?_append_right (by simp only[Array.size_append,List.size_toArray,hol,eI.len,<-Nat.add_mul];exact hi)]at hy
     grind [wB,List.mem_of_getElem?])
  intro pos after gd next Q hn
  refine aX ?_ (hn G2 _ _ _ h3 (hp1.trans ((aI.drew G1 w).trans h4)) hk)
  simp[execOp,resolve,invoke,builtin,e1,bU]
 rcases VR.gR hv1 with⟨e0,rfl,rfl⟩|⟨b,off,cap,e1,hcl,hRb,fh,hat⟩
 ·
  have e1:=e0.own
  by_cases hm:m=0
  ·subst hm
   have hds:ds=[]:=List.eq_nil_of_length_eq_zero o_
   subst hds
   have bU:=ov (ty:=ty) ht ht2 hi qR qS
   have tK:Inv G1 n D ((E.drain x).put d (.sl true sz 0 [])) (a.put d (.slice none 0 0)) w:=by
    have:=h1.put (s':=(E.drain x).s) (lp':=(E.drain x).lp) d (fun i hi=>IF) (.sl true sz 0 []) (.slice none 0 0) h1.bc (aI.refl G1 w) h1.store (fun _ hx=>hx) (fun i t _ ht=>ht.elim) (fun i t _⟨cs,hcs⟩=>O_)
     (fun _ _ _ _=>⟨rfl,rfl,rfl⟩) (fun _ _ _ _ _ _ hcc=>⟨hcc,rfl,rfl⟩) (fun i hdi=>⟨.slnil _ _,fun base m' cQ hv hc=>A_⟩)
    cases d<;>exact this
   intro pos after gd next Q hn
   refine aX (w':=w) ?_ (hn G1 _ _ _ tK hp1 hk)
   simp[execOp,resolve,invoke,builtin,e1,bU]
  ·exact grow none 0 [] e1 AT BY BY Fl.nil d_ (fun j c u hc=>NK)
 ·by_cases dE:k+m<=cap
  ·by_cases hm:m=0
   ·subst hm
    have hds:ds=[]:=List.eq_nil_of_length_eq_zero o_
    have vY:news=[]:=List.eq_nil_of_length_eq_zero ψ
    subst hds;subst vY
    have bU:=jd (ty:=ty) (w:=w) ht ht2 hi qR qS (b:=b) (off:=off) (k:=k) (cap:=cap) dE (w':=w) rfl
    simp only[List.append_nil,Nat.add_zero]at hk bU
    have tK:Inv G1 n D ((E.drain x).put d (.sl true sz k cs)) (a.put d (a.eval u)) w:=by
     have:=h1.put (s':=(E.drain x).s) (lp':=(E.drain x).lp) d (fun i hi=>IF) (.sl true sz k cs) (a.eval u) h1.bc (aI.refl G1 w) h1.store (fun _ hx=>hx) (fun i t _ ht=>ht.elim) (fun i t _⟨cs,hcs⟩=>O_)
      (fun _ _ _ _=>⟨rfl,rfl,rfl⟩) (fun _ _ _ _ _ _ hcc=>⟨hcc,rfl,rfl⟩) (fun i hdi=>by subst hdi;exact⟨hv1,vZ⟩)
     cases d<;>exact this
    intro pos after gd next Q hn
    refine aX (w':=w) ?_ (hn G1 _ _ _ tK hp1 hk)
    simp[execOp,resolve,invoke,builtin,e1,bU]
   ·obtain⟨b',Rm,c,et,fz,q1,q2,q3,q4,q5,q6⟩:=vZ _ _ _ e1 AT
    injection q1 with q1;injection q1 with q1 q1'
    subst q1;subst q1'
    have hon:G1.O b≠.none/\G1.O b≠.frame/\G1.O b≠.sh/\(∀i,G1.O b≠.loc i)/\(∀i j,G1.O b≠.cell i j)/\(∀i j,G1.O b=.slot i j->d=some i/\j=0):=by
     rw[q2]
     cases d with
     |none=>simp[BN]
     |some i=>grind [BN]
    obtain⟨G2,h3,h4⟩:=h1.grown (k:=k) (m:=m) hd q4 ⟨q6.1,q6.2.1⟩ q6.2.2.1 (q6.2.2.2.1.imp id fun⟨z1,z2⟩=>⟨z1,jW,z2⟩) q6.2.2.2.2 (fun i hi=>by subst hi;exact q2) hon q3 q5 dE hcl hat qS rfl
    have TW:off+k*sz+news.length<=c.size:=by
     rw[eI.len,q5,Nat.add_assoc,<-Nat.add_mul]
     exact Nat.add_le_add_left (Nat.mul_le_mul_right _ dE) _
    have ez:=dJ (P:=P) b (off+k*sz) et fz news 0 c w q4 q6.1 A_ eI.one
    have bU:=jd (ty:=ty) (w:=w) ht ht2 hi qR qS (b:=b) (off:=off) (k:=k) (cap:=cap) dE (w':=w.setRow b (laid c (off+k*sz) news)) ξ
    intro pos after gd next Q hn
    refine aX ?_ (hn G2 _ _ _ h3 (hp1.trans h4) hk)
    simp[execOp,resolve,invoke,builtin,e1,bU]
  ·have hfl:Fl cs:=l7
   obtain⟨us,u1,u2,u3⟩:=hat.lV
   exact grow _ cap us e1 AT θ hcl hfl (run_firstCells_some w.drew sz k ⟨b,off,none⟩ k cap us θ u2) u3
end
section
variable{P:Program}{G G':Gh}{n:Nat}{D:List Deferred}{E:St}{a:Act}{w w':World}
def Gh.outer(G:Gh):Gh:=⟨G.R,fun b=>match G.O b with
 |.none=>.none
 |.sh=>.sh
 |.cell b' j=>if G.O b'=.sh then .cell b' j else .frame
 |_=>.frame⟩
theorem pB{b:Nat}:G.outer.O b=.none↔G.O b=.none:=by grind [Gh.outer]
theorem nh{b:Nat}:G.outer.O b=.sh↔G.O b=.sh:=by grind [Gh.outer]
theorem DI{b b' j:Nat}:G.outer.O b=.cell b' j↔(G.O b=.cell b' j/\G.O b'=.sh):=by
 simp[Gh.outer]
 grind
theorem lj{b:Nat}(h1:G.O b≠.none)(h2:G.O b≠.sh)(h3:∀b' j,G.O b=.cell b' j->G.O b'≠.sh):G.outer.O b=.frame:=by
 simp[Gh.outer]
 grind
def p9(G:Gh):xI G.outer:=by
 intro b
 grind [pB,nh,DI,lj]
def Uv:List AV->Bool
 |[_]=>true
 |_=>false
def ali(single:Bool):Option Nat->Nat->dh
 |some i,j=>.slot i (if single then j else j+1)
 |none,_=>.none
def ah2(single:Bool)(d:Option Nat):dh->dh
 |.none=>.none
 |.sh=>.sh
 |.cell b' j=>.cell b' j
 |.res j=>ali single d j
 |_=>.none
theorem Inv.args(h:Inv G n D E a w){ys:List Operand}{xs:List IX}{as:List AV}(hc:gZ ys xs=true)(hv:cL (xg true E) xs=some as):k8 w G.R as (ys.map a.eval).toArray:=by
 have hf:∀o x,bN o x=true->dF (xg true E x)=true->VR w G.R (xg true E x) (a.eval o):=fun o x hx hi=>by
  have:=BR.aQ h hx
  generalize xg true E x=av at hi this
  cases av<;>first|exact this|grind [dF]
 obtain⟨h1,_,h3⟩:=tj h hf ys xs as hc hv
 exact⟨A_,fun j c u hc hu=>h3 j c u hc A_⟩
def Inv.mA(h:Inv G n D E a w):cq G.outer w/\ba G.outer w E.s:=⟨⟨fun b hb=>pB.2 (h.bc.jI b hb),h.bc.jY⟩,h.store.yI (fun _ _ hv=>hv) (fun _ hb=>⟨nh.2 hb,rfl,rfl⟩) (fun _ _ _ hb hc=>⟨DI.2 ⟨hc,hb⟩,rfl,rfl⟩)⟩
def Ep{r:AV}(h:ko [r]=true):(∃sz m cs,r=.us sz m cs)\/(dF r=true/\∀sz m cs,r≠.us sz m cs):=by cases r<;>first|exact .inl ⟨_,_,_,rfl⟩|grind [ko,Uw]
def Eo{r:AV}(h:ko [r]=true)(t:Nat):¬bO r t:=by
 rcases Ep h with⟨_,_,_,rfl⟩|⟨h,_⟩
 ·exact fun h=>h
 ·exact fp h t
def VO{r:AV}(h:ko [r]=true)(cs:List AV):r≠.loc cs:=by
 rcases Ep h with⟨_,_,_,rfl⟩|⟨h,_⟩
 ·grind
 ·exact og h cs
theorem Inv.behind(h:Inv G n D E a w){d:Option Nat}(hd:bq n d=true){rs:List AV}{s':ae}{v:Value}(hok:ko rs=true)(hg:cq G' w')(hs:ba G' w' s')(hr:nt G' w' rs v)(hp:aI G.outer w G' w'):
 ∃G2,Inv G2 n D ({E with s:=s'}.put d (fO rs)) (a.put d v) w'/\aI G w G2 w':=by
 obtain⟨O2,hO2⟩:∃O2:Nat->dh,∀b,O2 b=if G.outer.O b=.frame then G.O b else ah2 (Uv rs) d (G'.O b):=⟨_,fun _=>rfl⟩
 let G2:Gh:=⟨G'.R,O2⟩
 have hfr:∀b,G.outer.O b=.frame->b<w.heap.size/\w'.heap[b]? =w.heap[b]? /\G'.O b=.frame/\G'.R b=G.R b/\G2.O b=G.O b:=by
  intro b hb
  have hlt:b<w.heap.size:=h.mA.1.lt W_
  obtain⟨q1,q2⟩:=hp.jF b hlt hb
  exact⟨hlt,hp.frame b hlt (.inl hb),q1,q2,(hO2 b).trans (if_pos hb)⟩
 have hnf:∀b,G.outer.O b≠.frame->G2.O b=ah2 (Uv rs) d (G'.O b):=by
  intro b hb
  exact(hO2 b).trans (if_neg hb)
 have ks:cq G2 w':=by
  refine⟨fun b hb=>?_,fun b hb=>hg.jY b hb⟩
  have hbs:w.heap.size<=b:=Nat.le_trans hp.size hb
  rw[hnf b A_,hg.jI b hb];rfl
 have bK:aI G w G2 w':=by
  refine⟨hp.os,hp.tape,hp.output,hp.drawn,hp.size,hp.mono,hp.nD,fun b hb ho=>?_,fun b hb ho=>?_,fun b hb ho=>?_⟩
  ·rcases ho with ho|ho
   ·grind [lj]
   ·exact hp.frame b hb (.inr (pB.2 ho))
  ·grind [lj]
  ·have ho':=pB.2 ho
   obtain⟨q1,q2⟩:=hp.pZ b hb ho'
   exact⟨by rw[hnf b A_,q1];rfl,q2⟩
 have aap:∀b,(G'.O b=.sh\/∃b' j,G'.O b=.cell b' j)->G2.O b=G'.O b:=by
  intro b hb
  by_cases hf:G.outer.O b=.frame
  ·grind
  ·rw[hnf b hf]
   rcases hb with hb|⟨_,_,hb⟩<;>rw[hb]<;>rfl
 have ez:ba G2 w' s':=hs.yI (fun _ _ hv=>hv) (fun b hb=>⟨(aap b (.inl hb)).trans hb,rfl,rfl⟩) (fun b c j _ hc=>⟨(aap c (.inr ⟨b,j,hc⟩)).trans hc,rfl,rfl⟩)
 have oc:∀(i j:Nat)(x:AV)(y:Value),d=some i->dI G' w' (.res j) x y->dI G2 w' (.slot i (if Uv rs then j else j+1)) x y:=by
  intro i j x y hdi ho
  unfold dI at ho⊢
  split
  ·rename_i sz m cs
   intro base m' cap hv hc
   obtain⟨b,off,c,e,fz,q1,q2,q3⟩:=ho base m' cap hv hc
   refine⟨b,off,c,e,fz,q1,?_,q3⟩
   have hf:G.outer.O b≠.frame:=fun hf=>A_
   rw[hnf b hf,q2,hdi];rfl
  ·rename_i e m cs
   intro base m' cap hv hc
   obtain⟨b,off,c,fz,q1,q2,q3⟩:=ho base m' cap hv hc
   refine⟨b,off,c,fz,q1,?_,q3⟩
   have hf:G.outer.O b≠.frame:=fun hf=>A_
   rw[hnf b hf,q2,hdi];rfl
  ·trivial
 have tK:=h.put (s':=s') (lp':=E.lp) d (fun i hi=>IF) (fO rs) v ks bK ez (fun _ hx=>hx)
  (fun i t _ ht=>by
    match rs,hok,ht with
    |[r],hok,ht=>exact(Eo hok t ht).elim
    |[],_,ht=>exact ht.elim
    |_::_::_,_,ht=>exact ht.elim)
  (fun i t _⟨cs,hcs⟩=>by
    match rs,hok,hcs with
    |[r],hok,hcs=>exact(VO hok cs hcs).elim
    |[],_,hcs=>cases hcs
    |_::_::_,_,hcs=>cases hcs)
  (fun i b _ hb=>by grind [lj,q2])
  (fun i b c j _ hb hc=>by grind [lj,q2])
  (fun i hi=>by
    match rs,hok,hr,oc with
    |[r],hok,hr,oc=>
     show dZ G2 w' _ _ i r v
     rcases Ep hok with⟨sz,m,cs,rfl⟩|⟨hV,hnu⟩
     ·rcases hr with hr|⟨b,cap,c,t,sp,h1,h2,h3,h4,h5,h6⟩
      ·exact .inl hr
      ·refine .inr ⟨b,cap,c,t,sp,h1,h2,h3,?_,h5,h6⟩
       have hf:G.outer.O b≠.frame:=fun hf=>A_
       show O2 b=_
       rw[show O2 b=G2.O b from rfl,hnf b hf,h4,hi];rfl
     ·rw[dZ.si hV]
      have hr':VR w' G'.R r v/\dI G' w' (.res 0) r v:=by cases r<;>first|exact hr|grind
      exact⟨hr'.1,oc i 0 r v hi hr'.2⟩
    |[],_,hr,oc=>
     obtain⟨ys,q1,q2⟩:=hr
     exact⟨ys,q1,q2.1,fun j x y hx=>V_⟩
    |r1::r2::rr,_,hr,oc=>
     obtain⟨ys,q1,q2⟩:=hr
     exact⟨ys,q1,q2.1,fun j x y hx hy=>⟨(q2.2 j x y hx hy).1,oc i j x y hi (q2.2 j x y hx hy).2⟩⟩)
 exact⟨G2,by cases d<;>exact tK,bK⟩
def Gu(h:Inv G n D E a w){op:Op}{ty:TypeId}{d:Option Nat}{K:St->Prop}(hd:bq n d=true){f:FuncId}{as:List AV}{vs:Array Value}
 (hr:∀(pos:String)(after:Array Edge)(g:Option (Nat×Bool)),(execOp a.eval ⟨d,op,ty,pos,after,g⟩).run P w=.ok (.enter f vs) w)(ha:k8 w G.R as vs)(hw:FN P f as E.s (Kp E d K)):pM P G n D w a op ty d K:=by
 intro pos after g next Q hn
 unfold Oper.wp
 rw[hr pos after g]
 obtain⟨g1,g2⟩:=h.mA
 refine(hw G.outer w vs g1 (p9 G) g2 ha).mono fun e w'⟨v,rs,s',G',he,⟨hok,hk⟩,q1,q2,q3,q4⟩=>?_
 obtain⟨G2,h1,h2⟩:=h.behind hd hok q1 q2 q3 q4
 grind
theorem lT{f:FuncId}{fn:Func}(hf:P.funcs[f]? =some fn)(T6:(fn.name != "runtime.NumGoroutine")=true)(hb:fn.body.isSome=true)(args:Array Value):(callFunc f args).run P w=.ok (.enter f args) w:=by
 have h1:=by simpa using T6
 have h3:fn.body≠none:=A_
 simp[callFunc,hf,h1,h3]
theorem KO(h:Inv G n D E a w){op:Op}{ty:TypeId}{f:Nat}{args:List IX}{d:Option Nat}{K:St->Prop}(hd:bq n d=true)(hc:aw P op ty (.call f args)=true)(hw:ju P (.call f args) d E K):pM P G n D w a op ty d K:=by
 cases op<;>first|(simp[aw]at hc)|skip
 rename_i c
 obtain⟨callee,ys,ats⟩:=c
 simp[aw]at hc
 split at hc<;>try(cases hc)
 simp only[Bool.and_eq_true,beq_iff_eq]at hc
 obtain⟨⟨rfl,hxs⟩,hfn⟩:=hc
 split at hfn<;>try(cases hfn)
 rename_i fn hf
 rw[Bool.and_eq_true]at hfn
 have hw':vT P f E d K (cL (xg true E) args):=hw
 cases has:cL (xg true E) args with
 |none=>rw[has]at hw';exact hw'.elim
 |some as=>
  rw[has]at hw'
  refine Gu h hd (vs:=ys.map a.eval) (fun _ _ _=>?_) ?_ hw'
  ·simp[execOp,resolve,Act.eval,Deferred.ofValue,invoke,lT hf hfn.1 hfn.2]
  ·have:=h.args hxs has
   rwa[show(ys.toList.map a.eval).toArray=ys.map a.eval from by grind]at this
def MY{t:TypeId}{m:Nat}(h:lE P t m=true):∃i,P.info? t=some i/\i.bytes=m:=by grind [lE]
theorem AA{c:Int}(h0:0<=c)(h1:c<=9223372036854775807):IntKind.i64.wrap c=c:=by rw[IntKind.wrap_i64];omega
def VG{c:Int}{by':Nat}(h0:0<=c)(hb:0<by')(hr:c*by'<=room):c<=room/\IntKind.i64.wrap c=c/\¬(281474976710656<by'*c):=by
 have h1:=by
  have:=Int.mul_le_mul_of_nonneg_left (show(1:Int)<=by' by omega) h0
  omega
 grind [room,Int.le_trans,AA,Int.mul_comm]
theorem yf{α:Type}(u:α)(l:List α):∀(m:Nat),((List.replicate m l).flatten)=((List.range (m*l.length)).map fun i=>l.getD (i % l.length) u):=by
 intro m
 apply List.ext_getElem?
 intro j
 rcases Nat.eq_zero_or_pos l.length with h0|hp
 ·simp_all
 ·induction m generalizing j with
  |zero=>simp
  |succ m ih=>
   rw[List.replicate_succ,List.flatten_cons]
   by_cases hj:j<l.length
   ·rw[List.getElem?_append_left hj,List.getElem?_map,List.getElem?_range A_]
    simp[Nat.mod_eq_of_lt hj,List.getElem?_eq_getElem hj]
   ·by_cases hlt:j<(m+1)*l.length
    ·grind [List.getElem?_range,Nat.mod_eq_sub_mod]
    grind
def run_makeSlice{t e:TypeId}{i:TypeInfo}{z:Value}{l c:Int}{k k':IntKind}(ht:P.underlying t=some (.slice e))(hi:P.info? e=some i)(hz:i.zero=some z)(hsz:z.cells.size=i.size)(hb:0<i.bytes)(h0:0<=l)(hlc:l<=c)(hr:c*i.bytes<=room)(w:World):
 (Instr.makeSlice t (.int k l) (.int k' c)).run P w=.ok (.slice (some ⟨w.heap.size,0,none⟩) l.toNat c.toNat) (w.alloc (.cells ((List.replicate c.toNat z.cells.toList).flatten).toArray e)):=by
 obtain⟨h1,h2,h3⟩:=VG (Int.le_trans h0 hlc) hb hr
 have h4:IntKind.i64.wrap l=l:=AA AT (by grind [room])
 have h5:¬(c<0):=AT
 have h6:¬(l<0):=AT
 have h7:¬(c<l):=AT
 have dv:(Array.map (fun x=>(if c.toNat*i.size=0 then(#[]:Array Value)else z.cells)[x % (if c.toNat*i.size=0 then(#[]:Array Value)else z.cells).size]!) (Array.range (c.toNat*i.size)))=((List.replicate c.toNat z.cells.toList).flatten).toArray:=by
  rw[<-uF,hsz]
  by_cases hn:c.toNat*i.size=0
  ·simp[hn]
  ·grind
 by_cases hn:c.toNat*i.size=0
 ·simp[Instr.makeSlice,asInt,asIntOf,run_underlying ht,typeInfo,sizeOf,hi,h2,h4,h3,h5,h6,h7,newRow,hn,<-dv]
 ·simp only[hn,if_false]at dv
  simp[Instr.makeSlice,asInt,asIntOf,run_underlying ht,typeInfo,sizeOf,hi,h2,h4,h3,h5,h6,h7,newRow,hn,zeroValue,hz,dv]
theorem QQ(h:Inv G n D E a w){op:Op}{ty:TypeId}{x:IX}{args:List IX}{d:Option Nat}{K:St->Prop}(hd:bq n d=true)(hc:aw P op ty (.iL x args)=true)(hw:ju P (.iL x args) d E K):pM P G n D w a op ty d K:=by
 cases op<;>first|(simp[aw]at hc;done)|skip
 rename_i c
 obtain⟨callee,ys,ats⟩:=c
 simp only[aw]at hc
 split at hc<;>try(cases hc;done)
 rename_i y
 simp only[Bool.and_eq_true]at hc
 obtain⟨hx,hxs⟩:=hc
 have hb:=BR.aQ h hx
 have hw':wP P E (cL (xg true E) args) d K (xg true E x):=hw
 generalize xg true E x=xv at hb hw'
 unfold wP at hw'
 split at hw'<;>try(exact hw'.elim)
 rename_i f first fC
 cases has:cL (xg true E) args with
 |none=>rw[has]at hw';exact hw'.elim
 |some as=>
  rw[has]at hw'
  have hv:=hb
  generalize hev:a.eval y=yv at hv
  cases hv with
  |fn _ _ _ vf vc hl hr hl' hr'=>
  have K3:=h.args hxs has
  obtain⟨hfs,hw'⟩:=hw'
  unfold sQ at hfs
  split at hfs<;>try(cases hfs;done)
  rename_i fn hf
  rw[Bool.and_eq_true]at hfs
  refine Gu h hd (as:=first++as++fC) (vs:=vf++(ys.toList.map a.eval).toArray++vc) (fun _ _ _=>?_) ?_ hw'
  ·rw[show(ys.toList.map a.eval).toArray=ys.map a.eval from by grind]
   simp[execOp,resolve,hev,Deferred.ofValue,invoke,lT hf hfs.1 hfs.2]
  ·refine⟨by have:=K3.1;grind,fun j c u hc hu=>?_⟩
   have h1:=K3.1
   rw[List.append_assoc,List.getElem?_append]at hc
   rw[Array.append_assoc,Array.getElem?_append]at hu
   by_cases hj:j<first.length
   ·grind
   ·rw[if_neg hj,List.getElem?_append]at hc
    rw[if_neg AT,Array.getElem?_append,hl,h1]at hu
    by_cases hj2:j -first.length<as.length
    ·rw[if_pos hj2]at hc hu
     exact K3.2 _ c u hc hu
    grind
theorem Nn(h:Inv G n D E a w){op:Op}{ty:TypeId}{sz by':Nat}{z:List AV}{l c:IX}{d:Option Nat}{K:St->Prop}(hd:bq n d=true)(hc:aw P op ty (.lP sz by' z l c)=true)(hw:ju P (.lP sz by' z l c) d E K):pM P G n D w a op ty d K:=by
 cases op<;>first|(simp[aw]at hc;done)|skip
 rename_i t l' c'
 simp only[aw,Bool.and_eq_true]at hc
 obtain⟨⟨hl,hcc⟩,hc⟩:=hc
 split at hc<;>try(cases hc;done)
 rename_i e he
 simp only[Bool.and_eq_true,decide_eq_true_eq]at hc
 obtain⟨⟨⟨⟨hs,hby⟩,hz⟩,hsz⟩,hbp⟩:=hc
 have hb1:=BR.aQ h hl
 have hb2:=BR.aQ h hcc
 have hw':yF by' z E d K (xg true E l) (xg true E c):=hw
 generalize xg true E l=lv at hb1 hw'
 generalize xg true E c=cv at hb2 hw'
 unfold yF at hw'
 split at hw'<;>try(exact hw'.elim)
 rename_i k l0 k' c0
 obtain⟨q1,q2,q3,q4⟩:=hw'
 obtain⟨i,v,h1,h2,h3,h4,h5⟩:=vm hz
 obtain⟨i',h6,h7⟩:=MY hby
 rw[h1]at h6;injection h6 with h6;subst h6
 have e1:=VR.b9 hb1
 have e2:=VR.b9 hb2
 have aav:=h4 w G.R
 have pg:v.cells.toList.length=z.length:=by simpa using aav.1
 have hfl:Fl (List.replicate c0.toNat z).flatten:=by
  intro x hx
  simp only[List.mem_flatten,List.mem_replicate]at hx
  obtain⟨l',⟨_,rfl⟩,hx⟩:=hx
  exact aav.2.2 x hx
 have hcs:∀(G':Gh)(w':World)(o:Nat->dh),aI G w G' w'->dY G' w' o (List.replicate c0.toNat z).flatten ((List.replicate c0.toNat v.cells.toList).flatten).toArray:=by
  intro G' w' o _
  have ee:∀(j:Nat)(x:AV)(y:Value),((List.replicate c0.toNat z).flatten)[j]? =some x->((List.replicate c0.toNat v.cells.toList).flatten)[j]? =some y->cR y x=true:=by
   intro j x y hx hy
   have hjz:(List.replicate c0.toNat z).flatten=(List.range (c0.toNat*z.length)).map fun i=>z.getD (i % z.length) .undef:=yf .undef z c0.toNat
   have hjv:(List.replicate c0.toNat v.cells.toList).flatten=(List.range (c0.toNat*z.length)).map fun i=>v.cells.toList.getD (i % z.length) undef:=by rw[yf undef,pg]
   rw[hjz,List.getElem?_map]at hx
   rw[hjv,List.getElem?_map]at hy
   cases hrg:(List.range (c0.toNat*z.length))[j]? with
   |none=>grind
   |some q=>grind [Option.some.injEq,Nat.eq_zero_or_pos,Nat.mod_lt]
  refine⟨by simp[pg],fun j x y hx hy=>?_⟩
  have:=ee j x y hx A_
  exact⟨vS this w' G'.R,CG this G' w' _⟩
 obtain⟨G',g1,g2⟩:=h.N6 hd (t:=e) (.inr ⟨l0.toNat,c0.toNat,rfl,rfl⟩) hcs hfl
 intro pos after g next Q hn
 refine aX (v:=.slice (some ⟨w.heap.size,0,none⟩) l0.toNat c0.toNat) (w':=w.alloc (.cells ((List.replicate c0.toNat v.cells.toList).flatten).toArray e)) ?_ (hn G' _ _ _ g1 g2 (q4 w.heap.size (h.store.get_none h.bc)))
 have:=run_makeSlice (k:=k) (k':=k') (de he) h1 h2 A_ AT q1 q2 A_ w
 simp[execOp,e1,e2,this]
theorem KP(h:Inv G n D E a w){op:Op}{ty:TypeId}{d:Option Nat}{K:St->Prop}(hd:bq n d=true)(hc:aw P op ty .makeMap=true)(hw:ju P .makeMap d E K):pM P G n D w a op ty d K:=by
 cases op<;>first|(simp[aw]at hc;done)|skip
 rename_i t r
 cases r with
 |some r=>simp[aw]at hc
 |none=>
 have hp:=(fR h.bc (.map #[] 0) .sh 0).2.1
 have hs:ba (G.pR w.heap.size .sh 0) (w.alloc (.map #[] 0)) (E.s.set w.heap.size (.map [])):=by
  intro b o hb
  unfold ae.set at hb
  by_cases he:b=w.heap.size
  ·rw[if_pos he]at hb
   injection hb with hb
   subst hb;subst he
   exact⟨BY,BY,#[],0,heap_alloc_new w _,rfl,fun j x y hx=>V_⟩
  ·rw[if_neg he]at hb
   exact k9 h.store h.bc _ .sh 0 b o hb
 obtain⟨h1,h2⟩:=h.alloc (.map #[] 0) .sh 0 d hd (.mp w.heap.size) (.map (some w.heap.size)) E.lp hs (fun _ hx=>hx) (fun i t' _ ht=>ht.elim) (fun i t' _⟨cs',zJ⟩=>by cases zJ)
  (fun i hi=>⟨.mp _,trivial⟩)
 intro pos after g next Q hn
 refine aX (v:=.map (some w.heap.size)) (w':=w.alloc (.map #[] 0)) ?_ (hn _ _ _ _ Ξ h2 (hw w.heap.size (h.store.get_none h.bc)))
 simp[execOp,Instr.makeMap]
end
end Go.AB
end
section
namespace Go.AB
open Go Go.MapKept
def KV:mb->Value->Prop
 |.int k,v=>∃n,v=.int k n
 |.str,v=>∃s,v=.string s
 |.bool,v=>∃b,v=.bool b
 |.bytes n,v=>∃xs:Array Value,v=.agg xs/\xs.size=n/\∀u∈xs,∃m,u=.int .u8 m
section
variable{P:Program}{w:World}
structure Sr(P:Program)(kt:TypeId)(kk:mb):Prop where
 check:∀(w:World)(em:Bool)(v:Value),KV kk v->(Instr.checkKey em 10000 kt v).run P w=.ok () w
 find:∀(w:World)(x:Value),KV kk x->∀es:List MapEntry,(∀e∈es,KV kk e.key)->
  ((Instr.findKey kt x es).run P w=.ok none w/\∀e∈es,e.key≠x)\/∃j e,(Instr.findKey kt x es).run P w=.ok (some (j,e.val)) w/\es[j]? =some e/\e.key=x/\∀(i:Nat)(e':MapEntry),i<j->es[i]? =some e'->e'.key≠x
 stays:∀(w:World)(v:Value),KV kk v->(Instr.keyThatStays v v).run P w=.ok v w
def vV{d:TypeDesc}{k:Value}(hk:IsKey d k):∀(l:List MapEntry)(i:Nat),(∀x∈l,IsKey d x.key)->
 (Instr.findNow d k l i=some none/\∀x∈l,x.key≠k)\/∃j e,Instr.findNow d k l i=some (some (i+j,e.val))/\l[j]? =some e/\e.key=k/\∀(m:Nat)(e':MapEntry),m<j->l[m]? =some e'->e'.key≠k
 |[],_,_=>.inl ⟨rfl,BY⟩
 |e::es,i,h=>by
  obtain⟨r,hr,Bv⟩:=sameNow_of_keys hk (h e (.head _))
  cases r with
  |true=>exact .inr ⟨0,e,by simp[Instr.findNow,hr],rfl,(Bv.1 rfl).symm,fun m e' hm=>AT⟩
  |false=>
   have hne:e.key≠k:=fun q=>by have:=Bv.2 q.symm;cases this
   rcases vV hk es (i+1) (fun x hx=>h x (.tail _ hx))with⟨h1,h2⟩|⟨j,e',h1,h2,h3,h4⟩
   ·exact .inl ⟨by simp[Instr.findNow,hr,h1],fun x hx=>by
     cases hx with
     |head=>exact hne
     |tail _ hx=>exact h2 x hx⟩
   ·refine .inr ⟨j+1,e',by simp[Instr.findNow,hr,h1];omega,Ux,h3,fun m x hm hx=>?_⟩
    cases m with
    |zero=>simp at hx;subst hx;exact hne
    |succ m=>exact h4 m x AT X5
def qq{kt:TypeId}{d:TypeDesc}{kk:mb}(hd:P.underlying kt=some d)(hK:∀v,KV kk v->IsKey d v):Sr P kt kk where
 check:=fun w em v hv=>run_checkKey hd (hK v hv) em 9999
 find:=fun w x hx es hes=>by
  rcases vV (hK x hx) es 0 (fun e he=>hK _ (hes e he))with⟨h1,h2⟩|⟨j,e,h1,h2,h3,h4⟩
  ·exact .inl ⟨run_findKey hd h1,h2⟩
  ·exact .inr ⟨j,e,by rw[run_findKey hd h1,Nat.zero_add],h2,h3,h4⟩
 stays:=fun w v hv=>run_keyThatStays (hK v hv)
def xz{e off:Nat}{i:TypeInfo}(he:P.underlying e=some (.int .u8))(hi:P.info? e=some i)(h1:i.size=1)(xs:Array Value)(x:Value)(hx:xs[off]? =some x)(w:World):(part e xs off).run P w=.ok x w:=by
 have hag:(isAgg e).run P w=.ok false w:=va (multi:=false) (by unfold qG;rw[he];rfl) w
 simp[part,hag,hx]
def uv{e:TypeId}{i:TypeInfo}(he:P.underlying e=some (.int .u8))(hi:P.info? e=some i)(h1:i.size=1)(d:Nat)(xs ys:Array Value)(n:Nat)
 (hx:∀j,j<n->∃a b,xs[j]? =some (.int .u8 a)/\ys[j]? =some (.int .u8 b)):∀(l:List Nat),(∀j∈l,j<n)->∀w,
 ∃r:Bool,(Op.eqItems (d+1) e (P.cellsOf e) xs ys l).run P w=.ok r w/\(r=true↔∀j∈l,xs[j]? =ys[j]?)
 |[],_,w=>⟨true,by simp[Op.eqItems],BY⟩
 |j::l,hl,w=>by
  obtain⟨a,b,ha,hb⟩:=hx j (hl j (.head _))
  have hc:P.cellsOf e=1:=by unfold Program.cellsOf;rw[hi];simpa using h1
  have e1:=xz he hi h1 xs _ ha w
  have e2:=xz he hi h1 ys _ hb w
  have e3:=run_equalIn_int (P:=P) w d e .u8 .u8 a b he
  obtain⟨r,hr,Bv⟩:=uv he hi h1 d xs ys n hx l (fun j hj=>hl j (.tail _ hj)) w
  rw[hc]at hr
  by_cases hab:a=b
  ·subst hab
   refine⟨r,?_,?_⟩
   ·simp only[Op.eqItems,hc,Nat.mul_one,Sem.run_bind,e1,e2,e3,Result.andThen_ok,beq_self_eq_true,Bool.not_true,Bool.false_eq_true,if_false]
    exact hr
   ·rw[Bv]
    simp[ha,hb]
  ·refine⟨false,?_,?_⟩
   ·have:(a==b)=false:=by simpa using hab
    simp[Op.eqItems,hc,e1,e2,e3,this]
   ·simp[ha,hb,hab]
def BV{kt e:TypeId}{n:Nat}{i:TypeInfo}(hk:P.underlying kt=some (.array n e))(he:P.underlying e=some (.int .u8))(hi:P.info? e=some i)(h1:i.size=1){x y:Value}(hx:KV (.bytes n) x)(hy:KV (.bytes n) y)(w:World):
 ∃r:Bool,(Op.equal kt x y).run P w=.ok r w/\(r=true↔y=x):=by
 obtain⟨xs,rfl,hxs,hx'⟩:=hx
 obtain⟨ys,rfl,hys,hy'⟩:=hy
 have hxy:∀j,j<n->∃a b,xs[j]? =some (.int .u8 a)/\ys[j]? =some (.int .u8 b):=fun j hj=>by
  obtain⟨a,ha⟩:=hx' xs[j] (Array.getElem_mem _)
  obtain⟨b,hb⟩:=hy' ys[j] (Array.getElem_mem _)
  exact⟨a,b,by rw[Array.getElem?_eq_getElem AT,ha],by rw[Array.getElem?_eq_getElem AT,hb]⟩
 obtain⟨r,hr,Bv⟩:=uv he hi h1 9997 xs ys n hxy (List.range n) (fun j hj=>List.mem_range.1 hj) w
 refine⟨r,?_,?_⟩
 ·show(Op.equalIn (9999+1) kt (.agg xs) (.agg ys)).run P w=_
  rw[run_equalIn_array w 9999 xs ys hk hi]
  obtain⟨r',hr',alW⟩:=uv he hi h1 9998 xs ys n hxy (List.range n) (fun j hj=>List.mem_range.1 hj) w
  have:r=r':=by cases r<;>cases r'<;>simp_all
  rw[this];exact hr'
 ·rw[Bv]
  constructor
  ·intro h
   have:ys=xs:=by
    apply Array.ext AT
    intro j h1 h2
    have:=h j (List.mem_range.2 AT)
    rw[Array.getElem?_eq_getElem AT,Array.getElem?_eq_getElem AT]at this
    injection this with this;exact this.symm
   rw[this]
  ·intro h j _
   injection h with h
   rw[h]
def qN{kt e:TypeId}{n:Nat}{i:TypeInfo}(hk:P.underlying kt=some (.array n e))(he:P.underlying e=some (.int .u8))(hi:P.info? e=some i)(h1:i.size=1){k:Value}(hkv:KV (.bytes n) k):∀(l:List MapEntry)(i:Nat),(∀x∈l,KV (.bytes n) x.key)->∀w:World,
 ((Instr.findAsking kt k l i).run P w=.ok none w/\∀x∈l,x.key≠k)\/∃j e,(Instr.findAsking kt k l i).run P w=.ok (some (i+j,e.val)) w/\l[j]? =some e/\e.key=k/\∀(m:Nat)(e':MapEntry),m<j->l[m]? =some e'->e'.key≠k
 |[],_,_,w=>.inl ⟨by simp[Instr.findAsking],BY⟩
 |x::es,i0,h,w=>by
  obtain⟨r,hr,Bv⟩:=BV hk he hi h1 hkv (h x (.head _)) w
  cases r with
  |true=>exact .inr ⟨0,x,by simp[Instr.findAsking,hr],rfl,Bv.1 rfl,fun m e' hm=>AT⟩
  |false=>
   have hne:x.key≠k:=fun q=>by have:=Bv.2 q;cases this
   rcases qN hk he hi h1 hkv es (i0+1) (fun x hx=>h x (.tail _ hx)) w with⟨h1,h2⟩|⟨j,e',h1,h2,h3,h4⟩
   ·exact .inl ⟨by simp[Instr.findAsking,hr,h1],fun y hy=>by
     cases hy with
     |head=>exact hne
     |tail _ hy=>exact h2 y hy⟩
   ·refine .inr ⟨j+1,e',by simp[Instr.findAsking,hr,h1];omega,Ux,h3,fun m x hm hx=>?_⟩
    cases m with
    |zero=>simp at hx;subst hx;exact hne
    |succ m=>exact h4 m x AT X5
def CK{kt e:TypeId}{n:Nat}{i:TypeInfo}(hk:P.underlying kt=some (.array n e))(he:P.underlying e=some (.int .u8))(hi:P.info? e=some i)(h1:i.size=1){k:Value}(hkv:KV (.bytes n) k)(em:Bool)(w:World):(Instr.checkKey em 10000 kt k).run P w=.ok () w:=by
 obtain⟨xs,rfl,hxs,hx'⟩:=hkv
 show(Instr.checkKey em (9999+1) kt (.agg xs)).run P w=_
 unfold Instr.checkKey
 simp only[Sem.run_bind,run_underlying hk,Result.andThen_ok]
 have key:∀(l:List Nat),(∀j∈l,j<n)->∀w:World,(forIn (m:=Sem) l PUnit.unit fun i _=>do
  let a<-part e xs (i*(<-sizeOf e))
  Instr.checkKey em 9999 e a
  pure (ForInStep.yield PUnit.unit)).run P w=.ok PUnit.unit w:=by
  intro l
  induction l with
  |nil=>intro _ w;simp
  |cons j l ih=>
   intro hl w
   have hj:=hl j (.head _)
   obtain⟨a,ha⟩:=hx' xs[j] (Array.getElem_mem _)
   have e1:=xz he hi h1 xs (.int .u8 a) (off:=j) (by rw[Array.getElem?_eq_getElem AT,ha]) w
   have e2:(Instr.checkKey em (9998+1) e (.int .u8 a)).run P w=.ok () w:=run_checkKey (d:=.int .u8) (k:=.int .u8 a) he (show IsKey (.int .u8) (.int .u8 a) from rfl) em 9998
   have hs:df P e 1=true:=by unfold df;rw[hi];simpa using h1
   rw[List.forIn_cons]
   simp only[Sem.run_bind,run_sizeOf hs w,Result.andThen_ok,Nat.mul_one,e1,e2,Sem.run_pure]
   exact ih (fun j hj=>hl j (.tail _ hj)) w
 simp only[Std.Legacy.Range.forIn_eq_forIn_range',Std.Legacy.Range.size,Nat.sub_zero,Nat.add_one_sub_one,Nat.div_one]
 rw[key (List.range' 0 n) (fun j hj=>by simp at hj;omega) w]
 simp
def Hc{kt:TypeId}{kk:mb}(h:NP P kt kk=true):Sr P kt kk:=by
 cases kk with
 |int k=>
  simp only[NP]at h
  split at h<;>first|(cases h;done)|skip
  rename_i k' hk
  have:k=k':=by simpa[Q9]using h
  subst this
  exact qq hk fun v⟨n,e⟩=>by subst e;rfl
 |str=>
  simp only[NP]at h
  split at h<;>first|(cases h;done)|skip
  rename_i hk
  exact qq hk fun v⟨n,e⟩=>by subst e;trivial
 |bool=>
  simp only[NP]at h
  split at h<;>first|(cases h;done)|skip
  rename_i hk
  exact qq hk fun v⟨n,e⟩=>by subst e;trivial
 |bytes n=>
  simp only[NP]at h
  split at h<;>first|(cases h;done)|skip
  rename_i m e hk
  simp only[Bool.and_eq_true,beq_iff_eq]at h
  obtain⟨⟨rfl,he⟩,hs⟩:=h
  split at he<;>first|(cases he;done)|skip
  rename_i he'
  have he:=he'
  unfold df at hs
  split at hs<;>first|(cases hs;done)|skip
  rename_i i hi
  have h1:i.size=1:=by simpa using hs
  refine⟨fun w em v hv=>CK hk he hi h1 hv em w,fun w x hx es hes=>?_,fun w v hv=>?_⟩
  ·obtain⟨xs,rfl,hx1,hx2⟩:=hx
   have bU:∀r,(Instr.findAsking kt (.agg xs) es).run P w=.ok r w->(∀e∈es,True)->((Instr.findNow (.array m e) (.agg xs) es 0=none)\/es=[])->(Instr.findKey kt (.agg xs) es).run P w=.ok r w:=by
    intro r hr _ hn
    rcases hn with hn|hn
    ·simp[Instr.findKey,run_underlying hk,hn,hr]
    ·subst hn
     simp[Instr.findAsking]at hr
     simp[Instr.findKey,run_underlying hk,Instr.findNow,hr]
   have hn:Instr.findNow (.array m e) (.agg xs) es 0=none\/es=[]:=by
    cases es with
    |nil=>exact .inr rfl
    |cons x l=>exact .inl (by simp[Instr.findNow,Instr.sameNow])
   rcases qN hk he hi h1 ⟨xs,rfl,hx1,hx2⟩ es 0 hes w with⟨q1,q2⟩|⟨j,e',q1,q2,q3,q4⟩
   ·exact .inl ⟨bU _ q1 (fun _ _=>trivial) hn,q2⟩
   ·rw[Nat.zero_add]at q1
    exact .inr ⟨j,e',bU _ q1 (fun _ _=>trivial) hn,q2,q3,q4⟩
  ·obtain⟨xs,rfl,hx1,hx2⟩:=hv
   have:Instr.sameBits 10000 (.agg xs) (.agg xs)=true:=by
    show Instr.sameBits (9999+1) (.agg xs) (.agg xs)=true
    unfold Instr.sameBits
    simp only[beq_self_eq_true,Bool.true_and,List.all_eq_true]
    intro p hp
    have h2:=List.of_mem_zip hp
    have h3:p.1=p.2:=by
     obtain⟨i,hi⟩:=List.mem_iff_getElem?.1 hp
     rw[List.getElem?_zip_eq_some]at hi
     rw[hi.1]at hi
     exact Option.some.inj hi.2
    obtain⟨mm,hm⟩:=hx2 p.1 (by simpa using h2.1)
    obtain⟨p1,p2⟩:=p
    simp only at h3 hm⊢
    subst h3;subst hm
    simp[Instr.sameBits]
   simp[Instr.keyThatStays,this]
def tU{kk:mb}{a:AV}{v:Value}{R:Nat->Nat}(h:ft kk a=true)(hv:VR w R a v):KV kk v:=by
 unfold ft at h
 split at h
 ·rename_i k k' n
  have:k=k':=by simpa[Q9]using h
  subst this
  exact⟨n,VR.b9 hv⟩
 ·exact⟨_,VR.gm hv⟩
 ·exact⟨_,VR.gF hv⟩
 ·rename_i n cs
  simp only[Bool.and_eq_true,beq_iff_eq]at h
  obtain⟨vs,rfl,hs,hr,_⟩:=VR.yu hv
  refine⟨vs,rfl,AT,fun u hu=>?_⟩
  obtain⟨i,hi⟩:=Array.mem_iff_getElem?.1 hu
  have hlt:i<cs.length:=by have:=(Array.getElem?_eq_some_iff.1 hi).1;omega
  have hc:=List.getElem?_eq_getElem hlt
  have h8:Dk cs[i]=true:=List.all_eq_true.1 h.2 _ (List.getElem_mem hlt)
  have hvr:=hr i _ u hc hi
  generalize cs[i]=c at h8 hvr
  unfold Dk at h8
  split at h8
  ·exact⟨_,VR.b9 hvr⟩
  ·cases h8
 ·cases h
theorem Ha:∀(cs ds:List AV),cs.all Dk=true->ds.all Dk=true->(sc cs ds=true↔cs=ds)
 |[],[],_,_=>by simp[sc]
 |[],_::_,_,_=>by simp[sc]
 |_::_,[],_,_=>by simp[sc]
 |a::cs,b::ds,h1,h2=>by
  simp only[List.all_cons,Bool.and_eq_true]at h1 h2
  have ih:=Ha cs ds h1.2 h2.2
  have ha:=h1.1;have hb:=h2.1
  unfold Dk at ha hb
  split at ha<;>first|(cases ha;done)|skip
  split at hb<;>first|(cases hb;done)|skip
  simp[sc,UC,ih]
def Ra{kk:mb}{a b:AV}{x y:Value}{R:Nat->Nat}(ha:ft kk a=true)(hb:ft kk b=true)(hx:VR w R a x)(hy:VR w R b y):nc a b=true↔y=x:=by
 cases kk with
 |int k=>
  cases a<;>first|(simp[ft]at ha;done)|skip
  cases b<;>first|(simp[ft]at hb;done)|skip
  rename_i k1 n1 k2 n2
  have e1:k=k1:=by simpa[ft,Q9]using ha
  have e2:k=k2:=by simpa[ft,Q9]using hb
  subst e1;subst e2
  rw[VR.b9 hx,VR.b9 hy]
  show((n1==n2)&&true)=true↔_
  rw[Bool.and_true,beq_iff_eq]
  exact⟨fun h=>by rw[h],fun h=>by injection h with _ h;exact h.symm⟩
 |str=>
  cases a<;>first|(simp[ft]at ha;done)|skip
  cases b<;>first|(simp[ft]at hb;done)|skip
  rename_i s1 s2
  rw[VR.gm hx,VR.gm hy]
  show((s1==s2)&&true)=true↔_
  rw[Bool.and_true,beq_iff_eq]
  refine⟨fun h=>by rw[h],fun h=>?_⟩
  injection h with h
  have:s2.toArray=s1.toArray:=congrArg ByteArray.data h
  have:=congrArg Array.toList this
  simpa using this.symm
 |bool=>
  cases a<;>first|(simp[ft]at ha;done)|skip
  cases b<;>first|(simp[ft]at hb;done)|skip
  rename_i s1 s2
  rw[VR.gF hx,VR.gF hy]
  show((s1==s2)&&true)=true↔_
  rw[Bool.and_true,beq_iff_eq]
  exact⟨fun h=>by rw[h],fun h=>by injection h with h;exact h.symm⟩
 |bytes n=>
  cases a<;>first|(simp[ft]at ha;done)|skip
  cases b<;>first|(simp[ft]at hb;done)|skip
  rename_i cs ds
  simp only[ft,Bool.and_eq_true,beq_iff_eq]at ha hb
  show sc cs ds=true↔_
  rw[Ha cs ds ha.2 hb.2]
  obtain⟨vs,rfl,h1,h2,_⟩:=VR.yu hx
  obtain⟨us,rfl,k1,k2,_⟩:=VR.yu hy
  constructor
  ·intro e
   subst e
   congr 1
   apply Array.ext AT
   intro j q1 q2
   have hlt:j<cs.length:=AT
   have hc:=List.getElem?_eq_getElem hlt
   have r1:=h2 j _ vs[j] hc (Array.getElem?_eq_getElem q2)
   have r2:=k2 j _ us[j] hc (Array.getElem?_eq_getElem q1)
   have h8:Dk cs[j]=true:=List.all_eq_true.1 ha.2 _ (List.getElem_mem hlt)
   generalize cs[j]=c at h8 r1 r2
   unfold Dk at h8
   split at h8
   ·rw[VR.b9 r1,VR.b9 r2]
   ·cases h8
  ·intro e
   injection e with e
   subst e
   apply List.ext_getElem AT
   intro j q1 q2
   have r1:=h2 j _ us[j] (List.getElem?_eq_getElem q1) (Array.getElem?_eq_getElem AT)
   have r2:=k2 j _ us[j] (List.getElem?_eq_getElem q2) (Array.getElem?_eq_getElem AT)
   have h8:Dk cs[j]=true:=List.all_eq_true.1 ha.2 _ (List.getElem_mem q1)
   have h9:Dk ds[j]=true:=List.all_eq_true.1 hb.2 _ (List.getElem_mem q2)
   generalize cs[j]=c at h8 r1⊢
   generalize ds[j]=d at h9 r2⊢
   unfold Dk at h8 h9
   split at h8<;>first|(cases h8;done)|skip
   split at h9<;>first|(cases h9;done)|skip
   have:=VR.b9 r1
   rw[VR.b9 r2]at this
   injection this with _ this
   rw[this]
end
end Go.AB
end
section
namespace Go.AB
open Go Go.MapKept
section
variable{P:Program}{G:Gh}{n:Nat}{D:List Deferred}{E:St}{a:Act}{w:World}
def zE{R:Nat->Nat}{kk:mb}{k:AV}{x:Value}(hk:ft kk k=true)(hx:VR w R k x):∀(es:List (AV×AV))(l:List MapEntry),l.length=es.length->
 (∀(j:Nat)(p:AV×AV)(y:MapEntry),es[j]? =some p->l[j]? =some y->VR w R p.1 y.key/\VR w R p.2 y.val)->kV kk es=true->
 ((∀e∈l,e.key≠x)->fS k es=none/\∀v,uk k v es=es++[(k,v)])/\
 (∀(j:Nat)(e:MapEntry),l[j]? =some e->e.key=x->(∀(i:Nat)(e':MapEntry),i<j->l[i]? =some e'->e'.key≠x)->∃p,es[j]? =some p/\fS k es=some p.2/\∀v,uk k v es=es.set j (k,v))
 |[],[],_,_,_=>⟨fun _=>⟨rfl,fun v=>rfl⟩,fun j e hj=>Lg⟩
 |[],_::_,hl,_,_=>by simp at hl
 |_::_,[],hl,_,_=>by simp at hl
 |p::es,y::l,hl,hr,hks=>by
  have agv:ft kk p.1=true/\kV kk es=true:=by simpa[kV]using hks
  have h0:=(hr 0 p y rfl rfl).1
  have Bv:=Ra hk agv.1 hx h0
  obtain⟨i1,i2⟩:=zE hk hx es l A_ (fun j q z hq hz=>hr (j+1) q z A_ A_) agv.2
  constructor
  ·grind [nc,absurd,fS,uk]
  ·intro j e hj hek Ny
   cases j with
   |zero=>
    simp at hj;subst hj
    have hf:=Bv.2 hek
    exact⟨p,rfl,by simp[fS,hf],fun v=>by simp[uk,hf]⟩
   |succ j=>
    have hf:nc k p.1=false:=by
     cases hh:nc k p.1 with
     |false=>rfl
     |true=>exact absurd (Bv.1 hh) (Ny 0 y AT rfl)
    grind [q1,q2,fS,uk]
def Inv.L4(h:Inv G n D E a w){d:Option Nat}(hd:bq n d=true){av:AV}{v:Value}(hi:dF av=true)(hv:VR w G.R av v):Inv G n D (E.put d (view av)) (a.put d v) w:=by
 have:=h.put d (fun i hi=>IF) (view av) v h.bc (aI.refl G w) h.store (fun _ hx=>hx) (fun i t _ ht=>(fp (lL hi) t ht).elim) (fun i t _⟨cs,hcs⟩=>(og (lL hi) cs hcs).elim)
  (fun _ _ _ _=>⟨rfl,rfl,rfl⟩) (fun _ _ _ _ _ _ hcc=>⟨hcc,rfl,rfl⟩) (fun i hdi=>dZ.yH hi hv)
 cases d<;>exact this
def Inv.adj(h:Inv G n D E a w){d:Option Nat}(hd:bq n d=true){av:AV}{v:Value}(b:Bool)(hv:VR w G.R av v):Inv G n D (E.put d (.iJ [view av,.bool b])) (a.put d (.tuple #[v,.bool b])) w:=by
 have:=h.put d (fun i hi=>IF) (.iJ [view av,.bool b]) (.tuple #[v,.bool b]) h.bc (aI.refl G w) h.store (fun _ hx=>hx) (fun i t _ ht=>ht.elim) (fun i t _⟨cs,hcs⟩=>A_)
  (fun _ _ _ _=>⟨rfl,rfl,rfl⟩) (fun _ _ _ _ _ _ hcc=>⟨hcc,rfl,rfl⟩) (fun i hdi=>⟨_,rfl,rfl,fun j x y hx hy=>by
    match j with
    |0=>simp at hx hy;subst hx;subst hy;exact⟨hv.view,dI.view ..⟩
    |1=>simp at hx hy;subst hx;subst hy;exact⟨.bool b,trivial⟩
    |j+2=>simp at hx⟩)
 cases d<;>exact this
theorem BR.key{x:IX}{kk:mb}{av:AV}{v:Value}(hk:ft kk av=true)(h:BR G w E a x av v):VR w G.R av v:=by cases av<;>first|exact h|grind [kk,ft]
def ON{t:TypeId}{z:AV}(h:OM P t z=true):∃v,(∀w:World,(zeroValue t).run P w=.ok v w)/\(∀(w:World)(R:Nat->Nat),VR w R z v)/\dF z=true:=by
 unfold OM at h
 split at h<;>first|(cases h)|skip
 rename_i i hi
 split at h<;>first|(cases h)|skip
 rename_i v hv
 refine⟨v,fun w=>by simp[zeroValue,typeInfo,hi,hv],?_⟩
 split at h
 ·exact⟨fun w R=>OY h w R,rfl⟩
 grind [vS,SJ]
theorem Nl(h:Inv G n D E a w){op:Op}{ty:TypeId}{kk:mb}{z:AV}{ok:Bool}{x k:IX}{d:Option Nat}{K:St->Prop}(hd:bq n d=true)(hc:aw P op ty (.lookup kk z ok x k)=true)(hw:ju P (.lookup kk z ok x k) d E K):pM P G n D w a op ty d K:=by
 cases op<;>first|(simp[aw]at hc;done)|skip
 rename_i t y j ok'
 simp only[aw,Bool.and_eq_true,beq_iff_eq]at hc
 obtain⟨⟨⟨hy,hj⟩,rfl⟩,hc⟩:=hc
 split at hc<;>try(cases hc;done)
 rename_i kt et ht
 simp only[Bool.and_eq_true]at hc
 obtain⟨hkt,hz⟩:=hc
 have bU:=Hc hkt
 obtain⟨zv,hz1,hz2,hz3⟩:=ON hz
 have hb:=BR.aQ h hy
 have hbk:=BR.aQ h hj
 have hw':Sj E d K (kN kk z ok E.s (xg true E k) (xg true E x)):=hw
 generalize xg true E x=xv at hb hw'
 generalize xg true E k=kv at hbk hw'
 have fin:∀(av:AV)(v:Value)(b:Bool),(ok=false->dF av=true)->VR w G.R av v->K (E.put d (EU ok av b))->view av=av->
  (∀(pos:String)(after:Array Edge)(g:Option (Nat×Bool)),(execOp a.eval ⟨d,.lookup t y j ok,ty,pos,after,g⟩).run P w=.ok (.value (if ok then .tuple #[v,.bool b]else v)) w)->pM P G n D w a (.lookup t y j ok) ty d K:=by
  intro av v b hi hvr hk hvw hr pos after g next Q hn
  refine aX (hr pos after g) (hn G _ _ _ ?_ (aI.refl G w) hk)
  cases ok with
  |true=>
   have:=h.adj hd b hvr
   rw[hvw]at this
   exact this
  |false=>
   have:=h.L4 hd (hi rfl) hvr
   rw[hvw]at this
   exact this
 have pl:∀{av:AV}{b:Bool},xp ok (EU ok av b)=true->ok=false->dF av=true:=by
  intro av b hp ho
  subst ho
  exact hp
 unfold kN at hw'
 split at hw'
 ·rename_i b
  have e1:a.eval y=.map (some b):=VR.NG hb
  unfold oe at hw'
  split at hw'<;>try(exact hw'.elim)
  rename_i es hes
  unfold Ks at hw'
  cases hp:xp ok (uc z ok (fS kv es))with
  |false=>rw[hp]at hw';exact hw'.elim
  |true=>
  rw[hp]at hw'
  obtain⟨⟨hkk,hks⟩,hK⟩:=hw'
  have hvk:=hbk.key hkk
  have hkv:=tU hkk hvk
  obtain⟨_,_,jV,clock,hh,hsz,Ff⟩:=h.store b _ hes
  have ee:∀e∈jV.toList,KV kk e.key:=fun e he=>by
   obtain⟨i,hi⟩:=List.mem_iff_getElem?.1 he
   have hlt:i<es.length:=by rw[<-hsz];have:=(List.getElem?_eq_some_iff.1 hi).1;simpa using this
   have h1:=Ff i _ e (List.getElem?_eq_getElem hlt) A_
   exact tU (List.all_eq_true.1 hks _ (List.getElem_mem hlt)) h1.1
  obtain⟨f1,f2⟩:=zE hkk hvk es jV.toList A_ (fun j p y hp hy=>Ff j p y hp A_) hks
  have kq:=Go.MapKept.run_getObj_map (P:=P) hh
  have hck:=bU.check w jV.isEmpty _ hkv
  rcases bU.find w _ hkv jV.toList ee with⟨q1,q2⟩|⟨m,e,q1,q2,q3,q4⟩
  ·obtain⟨g1,_⟩:=f1 q2
   rw[g1]at hK hp
   refine fin (view z) zv false (pl hp) (hz2 w G.R).view hK (mJ _) fun pos after g=>?_
   cases ok<;>simp[execOp,Instr.lookup,run_underlying ht,e1,kq,hck,q1,hz1]
  ·obtain⟨p,g1,g2,_⟩:=f2 m e q2 q3 q4
   rw[g2]at hK hp
   have hvr:=(Ff m p e g1 A_).2
   refine fin (view p.2) e.val true (pl hp) hvr.view hK (mJ _) fun pos after g=>?_
   cases ok<;>simp[execOp,Instr.lookup,run_underlying ht,e1,kq,hck,q1]
 ·have e1:a.eval y=.map none:=VR.Ld hb
  unfold Ks at hw'
  cases hp:xp ok (EU ok (view z) false)with
  |false=>rw[hp]at hw';exact hw'.elim
  |true=>
  rw[hp]at hw'
  obtain⟨hkk,hK⟩:=hw'
  have hkv:=tU hkk (hbk.key hkk)
  have hck:=bU.check w true _ hkv
  refine fin (view z) zv false (pl hp) (hz2 w G.R).view hK (mJ _) fun pos after g=>?_
  ·rcases bU.find w _ hkv [] BY with⟨q1,_⟩|⟨m,e,_,q2,_⟩
   ·cases ok<;>simp[execOp,Instr.lookup,run_underlying ht,e1,hck,q1,hz1]
   ·simp at q2
 ·exact hw'.elim
def Inv.aa7(h:Inv G n D E a w){b:Nat}{jV vU:Array MapEntry}{clock tz:Nat}(hb:w.heap[b]? =some (.map jV clock))(ho:G.O b=.sh)(hR:G.R b=0){es':List (AV×AV)}
 (Ff:vU.size=es'.length/\∀(j:Nat)(x:AV×AV)(y:MapEntry),es'[j]? =some x->vU[j]? =some y->afB G w x y):
 Inv G n D {E with s:=E.s.set b (.map es')} a {w with heap:=w.heap.setIfInBounds b (.map vU tz)}/\aI G w G {w with heap:=w.heap.setIfInBounds b (.map vU tz)}:=by
 obtain⟨hs1,hs2⟩:=heap_set (w:=w) hb
 have dG:∀c k,({w with heap:=w.heap.setIfInBounds b (.map vU tz)}:World).cell? ⟨c,k,none⟩=w.cell? ⟨c,k,none⟩:=by
  intro c k
  by_cases hc:c=b
  ·grind [World.cell?]
  ·grind [World.cell?_of_block]
 have hp:aI G w G {w with heap:=w.heap.setIfInBounds b (.map vU tz)}:=⟨rfl,rfl,rfl,Nat.le_refl _,A_,fun _ _=>Nat.le_refl _,fun c k _ _=>dG c k,fun c _ hc=>hs2 c (fun e=>A_),fun _ _ h=>⟨h,rfl⟩,fun _ _ h=>⟨h,rfl⟩⟩
 have hne:∀c,G.O c≠.sh->({w with heap:=w.heap.setIfInBounds b (.map vU tz)}:World).heap[c]? =w.heap[c]? :=fun c hc=>hs2 c fun e=>hc A_
 refine⟨⟨⟨fun c hc=>h.bc.jI c A_,fun c hc=>h.bc.jY c A_⟩,?_,h.size,fun i v hi=>?_,h.E6,h.MG,h.qL⟩,hp⟩
 ·intro c o hc
  have hc':(if c=b then some (SO.map es')else E.s c)=some o:=hc
  by_cases hcb:c=b
  ·rw[if_pos hcb]at hc'
   injection hc' with hc'
   subst hcb;subst hc'
   exact⟨ho,hR,vU,tz,hs1,Ff.1,fun j x y hx hy=>⟨hp.vr h.bc (Ff.2 j x y hx hy).1,hp.vr h.bc (Ff.2 j x y hx hy).2⟩⟩
  ·rw[if_neg hcb]at hc'
   obtain⟨r1,r2,r3⟩:=h.store c o hc'
   refine⟨r1,r2,?_⟩
   cases o with
   |cells cs=>
    obtain⟨c0,t0,k1,k2,k3⟩:=r3
    exact⟨c0,t0,(hs2 c hcb).trans k1,k2.mono (fun _ _ hv=>hp.vr h.bc hv) (fun c' j hc'=>⟨hc',rfl,hne c' A_⟩),k3⟩
   |map es=>
    obtain⟨e0,t0,k1,k2,k3⟩:=r3
    exact⟨e0,t0,(hs2 c hcb).trans k1,k2,fun j x y hx hy=>⟨hp.vr h.bc (k3 j x y hx hy).1,hp.vr h.bc (k3 j x y hx hy).2⟩⟩
 ·exact dZ.frame (fun _ _ hv=>hp.vr h.bc hv) (fun c hc=>⟨rfl,rfl,hne c A_⟩) (fun c c' j _ hc=>⟨hc,rfl,hne c' p_⟩) _ _ (fun d _ cs hcs=>⟨cs,hcs,rfl⟩) (h.cH i v hi)
theorem E9(h:Inv G n D E a w){op:Op}{ty:TypeId}{kk:mb}{x k v:IX}{d:Option Nat}{K:St->Prop}(hd:bq n d=true)(hc:aw P op ty (.mapUpdate kk x k v)=true)(hw:ju P (.mapUpdate kk x k v) d E K):pM P G n D w a op ty d K:=by
 cases op<;>first|(simp[aw]at hc;done)|skip
 rename_i t y j u
 simp only[aw,Bool.and_eq_true]at hc
 obtain⟨⟨⟨hy,hj⟩,hu⟩,hc⟩:=hc
 split at hc<;>try(cases hc;done)
 rename_i kt et ht
 have bU:=Hc hc
 have hb:=BR.aQ h hy
 have hbk:=BR.aQ h hj
 have hbv:=BR.aQ h hu
 have hw':yG kk E (xg true E k) (xg true E v) d K (xg true E x):=hw
 generalize xg true E x=xv at hb hw'
 generalize xg true E k=kv at hbk hw'
 generalize xg true E v=vv at hbv hw'
 unfold yG at hw'
 split at hw'<;>try(exact hw'.elim)
 rename_i b
 unfold R8 at hw'
 split at hw'<;>try(exact hw'.elim)
 rename_i es hes
 obtain⟨⟨hi,hkk,hks⟩,hK⟩:=hw'
 have e1:a.eval y=.map (some b):=VR.NG hb
 have hvv:VR w G.R vv (a.eval u):=by cases vv<;>first|exact hbv|grind [dF]
 have hvk:=hbk.key hkk
 have hkv:=tU hkk hvk
 obtain⟨ho,hR,jV,clock,hh,hsz,Ff⟩:=h.store b _ hes
 have ee:∀e∈jV.toList,KV kk e.key:=fun e he=>by
  obtain⟨i,hi⟩:=List.mem_iff_getElem?.1 he
  have hlt:i<es.length:=by rw[<-hsz];have:=(List.getElem?_eq_some_iff.1 hi).1;simpa using this
  have h1:=Ff i _ e (List.getElem?_eq_getElem hlt) A_
  exact tU (List.all_eq_true.1 hks _ (List.getElem_mem hlt)) h1.1
 have Ug:ft kk (view kv)=true/\view kv=kv:=by cases kv<;>cases kk<;>simp_all [ft,view]
 rw[Ug.2]at hK
 obtain⟨f1,f2⟩:=zE hkk hvk es jV.toList A_ (fun j p y hp hy=>Ff j p y hp A_) hks
 have kq:=Go.MapKept.run_getObj_map (P:=P) hh
 have hck:=bU.check w false _ hkv
 have tK:∀(τ:St)(w':World),Inv G n D τ a w'->Inv G n D (τ.put d (.iJ [])) (a.put d undef) w':=by
  intro τ w' hτ
  have:=hτ.put (s':=τ.s) (lp':=τ.lp) d (fun i hi=>IF) (.iJ []) undef hτ.bc (aI.refl G w') hτ.store (fun _ hx=>hx) (fun i t _ ht=>ht.elim) (fun i t _⟨cs,hcs⟩=>O_)
   (fun _ _ _ _=>⟨rfl,rfl,rfl⟩) (fun _ _ _ _ _ _ hcc=>⟨hcc,rfl,rfl⟩) (fun i hdi=>⟨#[],rfl,rfl,fun j x y hx=>V_⟩)
  cases d<;>exact this
 intro pos after gd next Q hn
 rcases bU.find w _ hkv jV.toList ee with⟨q1,q2⟩|⟨m,e,q1,q2,q3,q4⟩
 ·obtain⟨_,g2⟩:=f1 q2
  rw[g2]at hK
  obtain⟨h1,h2⟩:=h.aa7 (tz:=clock+1) (vU:=jV.push {key:=a.eval j,val:=a.eval u,born:=clock}) (es':=es++[(kv,view vv)]) hh ho hR ⟨by simp[hsz],fun i p z hp hz=>by
   rw[Array.getElem?_push]at hz
   by_cases hi':i=es.length
   ·subst hi'
    rw[if_pos hsz.symm]at hz
    simp at hp
    injection hz with hz
    subst hp;subst hz
    exact⟨hvk,hvv.view⟩
   grind⟩
  refine zg (w':=_) ?_ (hn G _ _ _ (tK _ _ h1) h2 hK)
  simp[execOp,Instr.mapUpdate,run_underlying ht,e1,kq,hck,q1,run_setObj_map _ hh]
 ·obtain⟨p,g1,_,g2⟩:=f2 m e q2 q3 q4
  rw[g2]at hK
  have amD:m<jV.size:=by have:=(List.getElem?_eq_some_iff.1 q2).1;simpa using this
  have hem:jV[m]? =some e:=by simpa using q2
  have ez:=bU.stays w _ hkv
  obtain⟨h1,h2⟩:=h.aa7 (tz:=clock) (vU:=jV.modify m fun e=>{e with key:=a.eval j,val:=a.eval u}) (es':=es.set m (kv,view vv)) hh ho hR ⟨by simp[hsz],fun i p z hp hz=>by
   rw[Array.getElem?_modify]at hz
   by_cases hi':m=i
   ·subst hi'
    rw[if_pos rfl,hem]at hz
    simp at hz
    rw[List.getElem?_set_self AT]at hp
    injection hp with hp
    subst hp;subst hz
    exact⟨hvk,hvv.view⟩
   grind⟩
  refine zg (w':=_) ?_ (hn G _ _ _ (tK _ _ h1) h2 hK)
  simp[execOp,Instr.mapUpdate,run_underlying ht,e1,kq,hck,q1,hem,q3,ez,run_setObj_map _ hh]
theorem Nj(h:Inv G n D E a w){op:Op}{ty:TypeId}{x:IX}{d:Option Nat}{K:St->Prop}(hd:bq n d=true)(hc:aw P op ty (.oY x)=true)(hw:ju P (.oY x) d E K):pM P G n D w a op ty d K:=by
 cases op<;>first|(simp[aw]at hc;done)|skip
 rename_i s t y
 cases x with
 |c _=>simp[aw]at hc
 |t i=>
 simp only[aw,Bool.and_eq_true,beq_iff_eq]at hc
 obtain⟨⟨hy,rfl⟩,hc⟩:=hc
 split at hc<;>try(cases hc;done)
 rename_i e ht
 split at hc<;>try(cases hc;done)
 rename_i he
 have hw':Sj E d K (FY (xg true E (.t i))):=hw
 have dv:∃m x0 cs cs',cs=.int .u8 x0::cs'/\xg true E (.t i)=.sl true 1 (m+1) cs/\K (E.put d (.sl false 1 (m+1) cs)):=by
  generalize xg true E (.t i)=xv at hw'
  unfold FY at hw'
  split at hw'
  ·exact⟨_,_,_,_,rfl,rfl,hw'⟩
  ·exact hw'.elim
 obtain⟨m,x0,cs,cs',hcs,hx,hK⟩:=dv
 have hx':look E.e i=.sl true 1 (m+1) cs\/look E.e i=.when true (.sl true 1 (m+1) cs):=by
  have hx2:vi true (look E.e i)=.sl true 1 (m+1) cs:=hx
  generalize look E.e i=av at hx2
  cases av<;>first|exact .inl hx2|skip
  rename_i b a'
  have hx2:(bif(b==true||b)&&inner a' then a' else .undef)=.sl true 1 (m+1) cs:=hx2
  cases b with
  |false=>simp at hx2
  |true=>grind
 have hin:i<n:=h.Dz (fun e=>A_)
 have hey:a.tmps[i]? =some (a.eval y):=by
  have hyy:y=.tmp i:=by
   cases y<;>simp[bN]at hy
   rw[hy]
  subst hyy
  exact gw Xc2
 have hsl:VR w G.R (.sl true 1 (m+1) cs) (a.eval y)/\dI G w (.slot i 0) (.sl true 1 (m+1) cs) (a.eval y):=by
  have hs:=h.cH i _ hey
  rcases hx' with h'|h'<;>rw[h']at hs
  ·exact hs
  ·exact hs.1 rfl
 obtain⟨hvr,wW⟩:=hsl
 rcases VR.gR hvr with⟨_,hm0,_⟩|⟨b0,ac6,afV,e1,hl,hR,fh,hat⟩
 ·omega
 obtain⟨b,off,c,et,fz,q1,q2,q3,q4,q5,q6⟩:=wW _ _ _ e1 (.inr AT)
 injection q1 with q1;injection q1 with q1 q1' _
 subst q1;subst q1'
 let fz':Nat×Nat:=if fz.1==fz.2 then(c.size,c.size+1)else(min fz.1 c.size,max fz.2 (c.size+1))
 let w':World:=w.freeze ⟨b0,c.size,none⟩ 1
 have hlt:b0<w.heap.size:=(Array.getElem?_eq_some_iff.1 q4).1
 have hb0:w'.heap[b0]? =some (.cells c et fz'):=by
  show(w.freeze ⟨b0,c.size,none⟩ 1).heap[b0]? =_
  unfold World.freeze
  simp only[Nat.succ_ne_self,if_false,Array.getElem?_modify,if_true,q4,Option.map_some]
  rfl
 have K5:∀k,k≠b0->w'.heap[k]? =w.heap[k]? :=by
  intro k hk
  show(w.freeze ⟨b0,c.size,none⟩ 1).heap[k]? =_
  unfold World.freeze
  simp only[Nat.succ_ne_self,if_false,Array.getElem?_modify]
  rw[if_neg (Ne.symm hk)]
 have hsz:w'.heap.size=w.heap.size:=by
  show(w.freeze ⟨b0,c.size,none⟩ 1).heap.size=_
  unfold World.freeze
  simp
 have dG:∀b k,w'.cell? ⟨b,k,none⟩=w.cell? ⟨b,k,none⟩:=by
  intro k j
  by_cases hk:k=b0
  ·grind [World.cell?]
  ·grind [World.cell?_of_block]
 have hfz:∀k,k<c.size->¬(fz'.1<=k/\k<fz'.2):=by
  intro k hk
  show¬((if fz.1==fz.2 then(c.size,c.size+1)else(min fz.1 c.size,max fz.2 (c.size+1)):Nat×Nat).1<=k/\k<(if fz.1==fz.2 then(c.size,c.size+1)else(min fz.1 c.size,max fz.2 (c.size+1)):Nat×Nat).2)
  by_cases hf:fz.1=fz.2
  ·grind
  ·have:(fz.1==fz.2)=false:=by simpa using hf
   rw[this]
   simp only[Bool.false_eq_true,if_false]
   intro hh
   have q7:=q6.2
   by_cases hc2:fz.1<c.size
   ·grind
   ·omega
 have akh:fz'.1<=fz'.2:=by
  show(if fz.1==fz.2 then(c.size,c.size+1)else(min fz.1 c.size,max fz.2 (c.size+1)):Nat×Nat).1<=(if fz.1==fz.2 then(c.size,c.size+1)else(min fz.1 c.size,max fz.2 (c.size+1)):Nat×Nat).2
  split
  ·grind
  ·grind
 have hp:aI G w G w':=⟨rfl,rfl,rfl,Nat.le_refl _,A_,fun _ _=>Nat.le_refl _,fun b k _ _=>dG b k,fun b _ hb=>K5 b (fun e=>A_),fun _ _ h=>⟨h,rfl⟩,fun _ _ h=>⟨h,rfl⟩⟩
 have hne:∀k,G.O k≠.slot i 0->w'.heap[k]? =w.heap[k]? :=fun k hk=>K5 k fun e=>hk A_
 have hI:Inv G n D E a w':=by
  refine⟨⟨fun c hc=>h.bc.jI c A_,fun c hc=>h.bc.jY c A_⟩,?_,h.size,fun k v hk=>?_,h.E6,h.MG,h.qL⟩
  ·exact h.store.mono h.bc hp (fun b hb=>⟨hb,rfl,hne b W_⟩) (fun b c j _ hc=>⟨hc,rfl,hne c p_⟩)
  ·by_cases hki:k=i
   ·subst hki
    have hv:v=a.eval y:=by rw[hey]at hk;exact(Option.some.inj hk).symm
    subst hv
    have hO:dI G w' (.slot k 0) (.sl true 1 (m+1) cs) (a.eval y):=by
     intro base m' cQ hv hc
     rw[e1]at hv
     injection hv with v1 v2 v3
     exact⟨b0,ac6,c,et,fz',v1.symm,q2,q3,hb0,by rw[q5,v3],hfz,akh,q6.2.2.1,.inr ⟨Nat.succ_pos _,x0,by
      obtain⟨u,u1,u2,_⟩:=hat
      have k1:=u1 0 (.int .u8 x0) (by rw[hcs];rfl)
      have k2:=VR.b9 (u2 0 (.int .u8 x0) (by rw[hcs];rfl))
      grind [cell_of_row]⟩,q6.2.2.2.2⟩
    have hV:dZ G w' E.e a.tmps k (.sl true 1 (m+1) cs) (a.eval y):=⟨hp.vr h.bc hvr,hO⟩
    rcases hx' with h'|h'<;>rw[h']
    ·exact hV
    ·exact⟨fun _=>hV,fun h=>F_⟩
   ·exact dZ.frame (fun _ _ hv=>hp.vr h.bc hv) (fun c hc=>⟨rfl,rfl,hne c A_⟩) (fun c c' j _ hc=>⟨hc,rfl,hne c' p_⟩) _ _ (fun d _ cs hcs=>⟨cs,hcs,rfl⟩) (h.cH k v hk)
 have ph:Inv G n D (E.put d (.sl false 1 (m+1) cs)) (a.put d (a.eval y)) w':=hI.L4 hd (av:=.sl true 1 (m+1) cs) rfl (hp.vr h.bc hvr)
 intro pos after gd next Q hn
 refine aX (v:=a.eval y) (w':=w') ?_ (hn G _ _ _ ph hp hK)
 have acj:w.shape? b0=some (et,c.size):=by
  unfold World.shape?
  rw[q4]
 have ago:(convert s s (.slice (some ⟨b0,ac6,none⟩) (m+1) afV)).run P w=.ok (.slice (some ⟨b0,ac6,none⟩) (m+1) afV) w':=by
  simp[convert,run_underlying ht,run_underlying he,markStringish,acj]
  rfl
 simp[execOp,e1,ago]
theorem Tp(h:Inv G n D E a w){op:Op}{ty:TypeId}{x:IX}{d:Option Nat}{K:St->Prop}(hd:bq n d=true)(hc:aw P op ty (.vJ x)=true)(hw:ju P (.vJ x) d E K):pM P G n D w a op ty d K:=by
 have hw':Sj E d K (EH (xg true E x)):=hw
 have key:∀y,bN y x=true->∃vs,K (E.put d (.iJ (views vs)))/\Inv G n D (E.put d (.iJ (views vs))) (a.put d (a.eval y)) w:=by
  intro y hy
  have hb:=BR.aQ h hy
  generalize xg true E x=xv at hb hw'
  unfold EH at hw'
  split at hw'<;>try(exact hw'.elim)
  rename_i vs
  refine⟨vs,hw',?_⟩
  obtain⟨ys,e,hl,hr⟩:=VR.PA (hb)
  have:=h.put (s':=E.s) d (fun i hi=>IF) (.iJ (views vs)) (a.eval y) h.bc (aI.refl G w) h.store (fun _ hx=>hx) (fun i t _ ht=>ht.elim) (fun i t _⟨cs,hcs⟩=>O_)
   (fun _ _ _ _=>⟨rfl,rfl,rfl⟩) (fun _ _ _ _ _ _ hcc=>⟨hcc,rfl,rfl⟩) (fun i hdi=>⟨ys,e,by grind [views],fun j x y hx hy=>by
     rw[fx]at hx
     cases hj:vs[j]? with
     |none=>grind
     |some c=>
      rw[hj]at hx
      simp at hx
      subst hx
      exact⟨(hr j c y hj hy).view,dI.view ..⟩⟩)
  cases d<;>exact this
 intro pos after g next Q hn
 cases op<;>first|(simp[aw]at hc;done)|skip
 ·rename_i y
  obtain⟨vs,h1,h2⟩:=key y hc
  exact aX rfl (hn G _ _ _ h2 (aI.refl G w) h1)
 ·rename_i y
  obtain⟨vs,h1,h2⟩:=key y hc
  exact aX rfl (hn G _ _ _ h2 (aI.refl G w) h1)
end
end Go.AB
end
