/- A part. -/
import Derived.Test.YtgecakgfnjkkbaaGreatTt4
import Derived.MapKept
import Derived.ChangeKeysEq
set_option linter.defProp false
set_option linter.unusedSimpArgs false
set_option linter.unusedVariables false
section
namespace Go.AB
open Go
section
variable{P:Program}{G G':Gh}{n:Nat}{D:List Deferred}{E:St}{a:Act}{w w':World}
structure Src(P:Program)(w:World)(R:Nat->Nat)(sz m:Nat)(ds:List AV)(v:Value)(news:List Value):Prop where
 len:news.length=m*sz
 qi:ds.length=m*sz
 lenOf:∀w',(Builtin.lenOf v).run P w'=.ok m w'
 first:∀w',w'.heap=w.heap->(Builtin.firstCells sz m v).run P w'=.ok news.toArray w'
 one:∀u∈news,u.oneCell'=true
 lU:∀(j:Nat)(c:AV)(u:Value),ds[j]? =some c->news[j]? =some u->VR w R c u
 fl:Fl ds
theorem zn{w w':World}(h:w'.heap=w.heap)(a:Addr):w'.cell? a=w.cell? a:=by grind [World.cell?]
def Src.Z6{R:Nat->Nat}{o:Bool}{s sz m:Nat}{ds:List AV}{v:Value}(h:VR w R (.sl o s m ds) v)(hs:s=sz\/m=0):∃news,Src P w R sz m (views ds) v news:=by
 rcases VR.gq h with⟨(rfl|⟨_,ad,cap,rfl⟩),rfl,rfl⟩|⟨b,off,cap,rfl,hl,_,_,hat⟩
 ·exact⟨[],BY,bY,fun _=>rfl,fun w' _=>D_,BY,fun j c u hc=>BY,Fl.nil⟩
 ·exact⟨[],BY,bY,fun _=>rfl,fun w' _=>by simp[Builtin.firstCells,loadCells,loadCellsFrom],BY,fun j c u hc=>BY,Fl.nil⟩
 ·have hlen:(views ds).length=m*sz:=by
   rcases hs with rfl|rfl
   ·simp[views,hl]
   ·grind [views,List.length_map]
  have S0:=hat.views
  obtain⟨us,h1,h2,h3⟩:=S0.lU
  have hfl:Fl (views ds):=by obtain⟨_,_,_,hf⟩:=S0;exact hf
  refine⟨us,AT,hlen,fun _=>rfl,fun w' hw'=>?_,fun u hu=>?_,h3,hfl⟩
  ·grind [run_firstCells_some,zn]
  ·obtain⟨j,hj⟩:=List.mem_iff_getElem?.1 hu
   have hlt:j<(views ds).length:=A_
   have hx:=List.getElem?_eq_getElem hlt
   exact jj (hfl _ (List.getElem_mem hlt)) (h3 j _ u hx hj)
def Src.II{R:Nat->Nat}{l:List UInt8}:Src P w R 1 l.length (l.map fun c=>.int .u8 c.toNat) (.string ⟨l.toArray⟩) (l.map fun c=>.int .u8 c.toNat)where
 len:=BY
 qi:=BY
 lenOf:=fun w'=>D_
 first:=fun w' _=>by
  have:(ByteArray.mk l.toArray).extract 0 l.length=⟨l.toArray⟩:=by
   apply ByteArray.ext
   simp
  simp[Builtin.firstCells]
 one:=fun u hu=>by
  simp[List.mem_map]at hu
  obtain⟨x,_,rfl⟩:=hu
  rfl
 lU:=fun j c u hc hu=>by
  rw[List.getElem?_map]at hc hu
  cases hj:l[j]? with
  |none=>grind
  |some x=>rw[hj]at hc hu;simp at hc hu;rw[<-hc,<-hu];exact .int _ _
 fl:=J5 l
section runs
variable{t t' ty e:TypeId}{i:TypeInfo}{z:Value}{sz m:Nat}{ds:List AV}{v:Value}{news:List Value}
def jc(ht:P.underlying t=some (.slice e))(ht':(∃e',P.underlying t'=some (.slice e'))\/P.underlying t'=some .string)(hi:P.info? e=some i)(hsz:i.size=sz){R:Nat->Nat}(hs:Src P w R sz m ds v news){b off k cap:Nat}
 (cg:k+m<=cap){w':World}(eJ:(storeCells ⟨b,off+k*sz,none⟩ news).run P w=.ok () w'):
 (Builtin.append_ #[t,t'] ty #[.slice (some ⟨b,off,none⟩) k cap,v]).run P w=.ok (.slice (some ⟨b,off,none⟩) (k+m) cap) w':=by
 subst hsz
 have h1:=hs.lenOf w
 have h2:=hs.first w rfl
 rcases ht' with⟨e',ht'⟩|ht'<;>
  simp[Builtin.append_,run_underlying ht,run_underlying ht',sizeOf,typeInfo,hi,h1,cg,h2,add_eq,eJ]
def nV(ht:P.underlying t=some (.slice e))(ht':(∃e',P.underlying t'=some (.slice e'))\/P.underlying t'=some .string)(hi:P.info? e=some i)(hsz:i.size=sz){R:Nat->Nat}(hs:Src P w R sz 0 ds v news):
 (Builtin.append_ #[t,t'] ty #[.slice none 0 0,v]).run P w=.ok (.slice none 0 0) w:=by
 subst hsz
 have h1:=hs.lenOf w
 have h2:=hs.first w rfl
 rcases ht' with⟨e',ht'⟩|ht'<;>
  simp[Builtin.append_,run_underlying ht,run_underlying ht',sizeOf,typeInfo,hi,h1,h2]
def sv(ht:P.underlying t=some (.slice e))(ht':(∃e',P.underlying t'=some (.slice e'))\/P.underlying t'=some .string)(hi:P.info? e=some i)(hz:i.zero=some z)(hsz:i.size=sz){R:Nat->Nat}(hs:Src P w R sz m ds v news){base:Option Addr}{k cap:Nat}{olds:List Value}
 (hold:(Builtin.firstCells sz k (.slice base k cap)).run P w.drew=.ok olds.toArray w.drew)(cg:cap<k+m)(CR:(k+m)*i.bytes<=room)(hb0:0<i.bytes):
 (Builtin.append_ #[t,t'] ty #[.slice base k cap,v]).run P w=.ok (.slice (some ⟨w.heap.size,0,none⟩) (k+m) (grownCap w (k+m) cap e))
   (w.drew.alloc (.cells (olds.toArray++news.toArray++Builtin.zeroCells z.cells (grownCap w (k+m) cap e -(k+m))) e)):=by
 subst hsz
 have h1:=hs.lenOf w
 have h2:=hs.first w.drew rfl
 have h3:¬(k+m<=cap):=AT
 have h4:¬(281474976710656<Builtin.nextslicecap (k+m) cap*i.bytes):=by have:=growslice_fits cg CR;omega
 have h5:k+m<=(k+m)*i.bytes:=Nat.le_mul_of_pos_right _ hb0
 have h6:¬((9223372036854775807:Int)<(k:Int)+m):=by unfold room at CR;omega
 rcases ht' with⟨e',ht'⟩|ht'<;>
  simp[Builtin.append_,run_underlying ht,run_underlying ht',sizeOf,typeInfo,zeroValue,hi,hz,h1,h3,h4,h6,Question.forced,hold,h2,newRow,grownCap]<;>
  (grind)
end runs
def Inv.grown(h:Inv G n D E a w){d:Option Nat}(hd:bt n d=true){b off sz k m cap:Nat}{c:Array Value}{t:TypeId}{fz:Nat×Nat}{cs ds:List AV}{v:Value}{news:List Value}{R:Nat->Nat}
 (hb:w.heap[b]? =some (.cells c t fz))(hfz:(∀j,j<c.size->¬(fz.1<=j/\j<fz.2))/\fz.1<=fz.2)(hof:off=0)(hz0:fz=(0,0)\/(0<k/\0<sz/\∃x,c[0]? =some (.int .u8 x)))(hsp:∀(i:Nat)(y:Value),off+k*sz<=i->c[i]? =some y->y.oneCell'=true)(ho:∀i,d=some i->G.O b=.slot i 0)(hon:G.O b≠.none/\G.O b≠.frame/\G.O b≠.sh/\(∀i,G.O b≠.loc i)/\(∀i j,G.O b≠.cell i j)/\(∀i j,G.O b=.slot i j->d=some i/\j=0))
 (hR:G.R b=off+k*sz)(hsz:c.size=off+cap*sz)(fI:k+m<=cap)(hlc:cs.length=k*sz)(hat:At w G.R b off cs)(hs:Src P w R sz m ds v news)(hRR:R=G.R):
 ∃G',Inv G' n D (E.put d (.sl true sz (k+m) (cs++ds))) (a.put d (.slice (some ⟨b,off,none⟩) (k+m) cap)) (w.setRow b (laid c (off+k*sz) news))/\aI G w G' (w.setRow b (laid c (off+k*sz) news)):=by
 subst hRR
 have dn:off+k*sz+news.length<=c.size:=by
  rw[hs.len,hsz,Nat.add_assoc,<-Nat.add_mul]
  exact Nat.add_le_add_left (Nat.mul_le_mul_right _ fI) _
 let G':=G.pA b (G.O b) (off+(k+m)*sz)
 have hmul:(k+m)*sz=k*sz+m*sz:=Nat.add_mul ..
 have bF:aI G w G' (w.setRow b (laid c (off+k*sz) news)):=aI.write hb ⟨hon.2.1,hon.1⟩
  (fun j hj=>by rw[hR]at hj;rw[lN _ _ _ dn,if_neg AT]) (by simp only[G',Gh.aaG,if_true,hR,hmul];omega) (fun b' hb'=>c_)
 have kl:cE G' (w.setRow b (laid c (off+k*sz) news)):=by
  have hlt:b<w.heap.size:=h.aZ.lt hon.1
  refine⟨fun b' hb'=>?_,fun b' hb'=>?_⟩
  ·have vB:w.heap.size<=b':=Θ
   have:b'≠b:=AT
   simp[G',this,h.aZ.kc b' vB]
  ·have vB:w.heap.size<=b':=Θ
   have:b'≠b:=AT
   simp[G',this,h.aZ.kV b' vB]
 have same:∀b',b'≠b->G'.O b'=G.O b'/\G'.R b'=G.R b'/\(w.setRow b (laid c (off+k*sz) news)).heap[b']? =w.heap[b']? :=fun b' hb'=>⟨c_,c_,setRow_other w b b' _ hb'⟩
 have eJ:=h.store.mono h.aZ bF (fun b' hb'=>by
  grind) (fun b' c' j _ hc'=>by
  grind)
 have:=h.put (s':=E.s) (lp':=E.lp) d (fun i hi=>IN) (.sl true sz (k+m) (cs++ds)) (.slice (some ⟨b,off,none⟩) (k+m) cap) kl bF eJ (fun _ hx=>hx) (fun i t _ ht=>ht.elim) (fun i t _⟨cs',zA⟩=>by cases zA)
  (fun i b' hdi hb'=>same b' (fun e=>A_))
  (fun i b' c' j hdi hb' hc'=>A_)
  (fun i hi=>by
    obtain⟨u,u1,u2,u3⟩:=hat
    subst hi
    refine⟨?_,?_⟩
    ·have hll:(cs++ds).length=(k+m)*sz:=by rw[List.length_append,hlc,hs.qi,hmul]
     refine .sl true sz (k+m) (cs++ds) b off cap (fun j=>if j<k*sz then u j else news.getD (j -k*sz) undef) (fun x hx=>?_) hll (by rw[hll];simp[G']) fI (fun j x hj=>?_) (fun j x hj=>?_)
     ·rcases List.mem_append.1 hx with hx|hx
      ·exact u3 x hx
      ·exact hs.fl x hx
     ·rw[uq hb,if_pos rfl,lN _ _ _ dn]
      have hjl:j<(k+m)*sz:=by rw[<-hll];exact(List.getElem?_eq_some_iff.1 hj).1
      by_cases hjk:j<k*sz
      ·rw[if_neg AT,if_pos hjk]
       grind [List.getElem?_append_left,cell_of_row]
      ·have h1:=hs.len
       grind
     ·by_cases hjk:j<k*sz
      ·rw[if_pos hjk]
       rw[List.getElem?_append_left A_]at hj
       exact bF.vr h.aZ (u2 j x hj)
      ·rw[if_neg hjk]
       rw[List.getElem?_append_right A_,hlc]at hj
       have h1:=hs.len
       have h2:=hs.qi
       have hlt:j -k*sz<news.length:=Γ
       have hn:news[j -k*sz]? =some (news.getD (j -k*sz) undef):=by simp[List.getD_eq_getElem?_getD,hlt]
       exact bF.vr h.aZ (hs.lU _ x _ hj hn)
    ·intro base m' cP hv hc
     injection hv with e1 e2 e3
     subst e3
     exact⟨b,off,_,t,fz,e1.symm,by simp only[G',Gh.Vy,if_true];grind,by simp[G'],setRow_heap w b c _ t fz hb,by grind [qW],by rw[qW _ _ _ dn];exact⟨hfz.1,hfz.2,hof,hz0.imp id fun⟨z1,z2,x,z3⟩=>⟨AT,x,by
      have zp:0<k*sz:=Nat.mul_pos z1 z2
      rw[lN _ _ _ dn,if_neg AT];exact z3⟩,fun i y hi hy=>by
      rw[lN _ _ _ dn]at hy
      split at hy
      ·exact hs.one _ (List.mem_of_getElem? hy)
      grind⟩⟩)
 exact⟨G',Xc4,bF⟩
def BE:Option Nat->dp
 |some i=>.slot i 0
 |none=>.res 0
def Em{e:TypeId}{sz:Nat}(h:zd P e sz=true):∃i z,P.info? e=some i/\i.zero=some z/\z.cells.size=sz/\∀y∈z.cells.toList,y.oneCell'=true:=by
 unfold zd at h
 grind
theorem wB{zs:Array Value}(h:∀y∈zs.toList,y.oneCell'=true)(q:Nat):∀y∈(Builtin.zeroCells zs q).toList,y.oneCell'=true:=by
 intro y hy
 rw[show Builtin.zeroCells zs q=((List.replicate q zs.toList).flatten).toArray from uD zs q]at hy
 simp[List.mem_flatten]at hy
 grind
theorem MO(h:Inv G n D E a w){op:Op}{ty:TypeId}{sz by':Nat}{x y:IX}{d:Option Nat}{K:St->Prop}(hd:bt n d=true)(hc:aw P op ty (.append sz by' x y)=true)(hw:jq P (.append sz by' x y) d E K):pq P G n D w a op ty d K:=by
 cases op<;>first|(simp[aw]at hc;done)|skip
 rename_i c
 simp only[aw]at hc
 split at hc<;>try(cases hc;done)
 rename_i u v t t' hb
 have hce:=qc hb
 subst hce
 simp only[Bool.and_eq_true]at hc
 obtain⟨⟨hu,hv⟩,hc⟩:=hc
 split at hc<;>try(cases hc;done)
 rename_i e ht
 have ht:=dj ht
 simp only[Bool.and_eq_true]at hc
 obtain⟨⟨⟨⟨⟨hs,hby⟩,jW⟩,yh⟩,hzl⟩,ht'⟩:=hc
 obtain⟨i,z,hi,hz,hzs,hz1⟩:=Em hzl
 obtain⟨i',hi',qM⟩:=lq hs
 rw[hi]at hi';injection hi' with hi';subst hi'
 have jW:=of_decide_eq_true jW
 have yh:=of_decide_eq_true yh
 have hby:i.bytes=by':=by
  unfold lD at hby
  rw[hi]at hby
  simpa using hby
 have ht2:(∃e',P.underlying t'=some (.slice e'))\/P.underlying t'=some .string:=by
  rcases Bool.or_eq_true .. ▸ht' with h|h
  ·grind [cU,dj]
  ·grind [y7]
 have hw':mF sz by' E x d K (E.x x) (E.x y):=hw
 have key:∃k m cs ds news,E.x x=.sl true sz k cs/\Src P w G.R sz m ds (a.eval v) news/\(k+m)*by'<=room/\K ((E.drain x).put d (.sl true sz (k+m) (cs++ds))):=by
  have hbx:=XR.aR h hu
  have hby:=XR.aR h hv
  generalize hx:E.x x=xv at hw' hbx
  generalize hy:E.x y=yv at hw' hby
  unfold mF at hw'
  split at hw'<;>try(exact hw'.elim)
  ·rename_i s k cs o s' m ds
   obtain⟨rfl,h2,h3,h4⟩:=hw'
   obtain⟨news,eP⟩:=Src.Z6 (P:=P) hby h2
   grind
  ·rename_i s k cs ds
   obtain⟨rfl,h2,h3,h4⟩:=hw'
   subst h2
   have e1:=VR.gH hby
   exact⟨k,ds.length,cs,_,_,rfl,by rw[e1];exact Src.II,h3,h4⟩
 obtain⟨k,m,cs,ds,news,hx,eP,cg,hk⟩:=key
 have hiv:dJ (E.x x)=true:=by rw[hx];rfl
 obtain⟨G1,h1,hp1,hv1,qN,hR1,hsh,Na,ep⟩:=h.drain hu hiv (BE d) ψ ψ
 rw[hx]at hv1 qN
 have qP:Src P w G1.R sz m ds (a.eval v) news:=by rw[hR1];exact eP
 have grow:∀(base:Option Addr)(cap:Nat)(olds:List Value),a.eval u=.slice base k cap->cap<k+m->olds.length=k*sz->cs.length=k*sz->Fl cs->
  (Builtin.firstCells sz k (.slice base k cap)).run P w.drew=.ok olds.toArray w.drew->(∀(j:Nat)(c:AV)(u:Value),cs[j]? =some c->olds[j]? =some u->VR w G1.R c u)->
  pq P G n D w a (.call {callee:=.builtin .append,args:= #[u,v],argTypes:= #[t,t']}) ty d K:=by
  intro base cap olds e1 CU hol hcl hcf hold qR
  have bS:=sv (ty:=ty) ht ht2 hi hz qM qP hold CU A_ A_
  have hge:k+m<=grownCap w (k+m) cap e:=grownCap_ge w (k+m) cap e
  obtain⟨G2,h3,h4⟩:=(h1.drew).ZW (t:=e) (c:=olds.toArray++news.toArray++Builtin.zeroCells z.cells (grownCap w (k+m) cap e -(k+m))) (m:=k+m) (cs:=cs++ds) (cap:=grownCap w (k+m) cap e) (sz:=sz) (ob:=match d with|some i=>.slot i 0|none=>.none) hd
   (fun i hi=>by subst hi;rfl) (fun hn=>by subst hn;rfl) (by rw[List.length_append,hcl,eP.qi,Nat.add_mul]) hge (by
     simp only[Array.size_append,List.size_toArray,size_zeroCells,hol,eP.len,hzs,<-Nat.add_mul]
     grind) (fun c hc=>by
     rcases List.mem_append.1 hc with hc|hc
     ·exact hcf c hc
     ·exact eP.fl c hc)
   (fun j x hj=>by
     have hl1:=eP.len
     have hl2:=eP.qi
     by_cases hjk:j<k*sz
     ·rw[List.getElem?_append_left A_]at hj
      have hlt:j<olds.length:=by rw[hol];exact hjk
      refine⟨olds[j],?_,?_⟩
      ·grind
      ·exact(aI.drew G1 w).vr h1.aZ (qR j x _ hj (List.getElem?_eq_getElem hlt))
     ·rw[List.getElem?_append_right A_,hcl]at hj
      have hlt:j -k*sz<news.length:=Γ
      refine⟨news[j -k*sz],?_,?_⟩
      ·grind
      ·exact(aI.drew G1 w).vr h1.aZ (qP.lU _ x _ hj (List.getElem?_eq_getElem hlt))) (0,0) ⟨fun k _ hk=>by simp at hk,Nat.le_refl _⟩ (own:=true) (fun _=>.inl rfl) (fun i y hi hy=>by
     rw[Array.append_assoc,<-Array.append_assoc,Array.getElem?_append_right (by simp only[Array.size_append,List.size_toArray,hol,eP.len,<-Nat.add_mul];exact hi)]at hy
     grind [wB,List.mem_of_getElem?])
  intro pos after gd next Q hn
  refine aY ?_ (hn G2 _ _ _ h3 (hp1.trans ((aI.drew G1 w).trans h4)) hk)
  simp[execOp,resolve,invoke,builtin,e1,bS]
 rcases VR.gq hv1 with⟨e0,rfl,rfl⟩|⟨b,off,cap,e1,hcl,hRb,fI,hat⟩
 ·
  have e1:=e0.own
  by_cases hm:m=0
  ·subst hm
   have hds:ds=[]:=List.eq_nil_of_length_eq_zero k_
   subst hds
   have bS:=nV (ty:=ty) ht ht2 hi qM qP
   have qO:Inv G1 n D ((E.drain x).put d (.sl true sz 0 [])) (a.put d (.slice none 0 0)) w:=by
    have:=h1.put (s':=(E.drain x).s) (lp':=(E.drain x).lp) d (fun i hi=>IN) (.sl true sz 0 []) (.slice none 0 0) h1.aZ (aI.refl G1 w) h1.store (fun _ hx=>hx) (fun i t _ ht=>ht.elim) (fun i t _⟨cs,hcs⟩=>Pc)
     (fun _ _ _ _=>⟨rfl,rfl,rfl⟩) (fun _ _ _ _ _ _ hcc=>⟨hcc,rfl,rfl⟩) (fun i hdi=>⟨.slnil _ _,fun base m' cP hv hc=>A_⟩)
    cases d<;>exact this
   intro pos after gd next Q hn
   refine aY (w':=w) ?_ (hn G1 _ _ _ qO hp1 hk)
   simp[execOp,resolve,invoke,builtin,e1,bS]
  ·exact grow none 0 [] e1 AT BY BY Fl.nil d_ (fun j c u hc=>O_)
 ·by_cases dn:k+m<=cap
  ·by_cases hm:m=0
   ·subst hm
    have hds:ds=[]:=List.eq_nil_of_length_eq_zero k_
    have vX:news=[]:=List.eq_nil_of_length_eq_zero ξ
    subst hds;subst vX
    have bS:=jc (ty:=ty) (w:=w) ht ht2 hi qM qP (b:=b) (off:=off) (k:=k) (cap:=cap) dn (w':=w) rfl
    simp only[List.append_nil,Nat.add_zero]at hk bS
    have qO:Inv G1 n D ((E.drain x).put d (.sl true sz k cs)) (a.put d (a.eval u)) w:=by
     have:=h1.put (s':=(E.drain x).s) (lp':=(E.drain x).lp) d (fun i hi=>IN) (.sl true sz k cs) (a.eval u) h1.aZ (aI.refl G1 w) h1.store (fun _ hx=>hx) (fun i t _ ht=>ht.elim) (fun i t _⟨cs,hcs⟩=>Pc)
      (fun _ _ _ _=>⟨rfl,rfl,rfl⟩) (fun _ _ _ _ _ _ hcc=>⟨hcc,rfl,rfl⟩) (fun i hdi=>by subst hdi;exact⟨hv1,qN⟩)
     cases d<;>exact this
    intro pos after gd next Q hn
    refine aY (w':=w) ?_ (hn G1 _ _ _ qO hp1 hk)
    simp[execOp,resolve,invoke,builtin,e1,bS]
   ·obtain⟨b',Up,c,et,fz,q1,q2,q3,q4,q5,q6⟩:=qN _ _ _ e1 AT
    injection q1 with q1;injection q1 with q1 q1'
    subst q1;subst q1'
    have hon:G1.O b≠.none/\G1.O b≠.frame/\G1.O b≠.sh/\(∀i,G1.O b≠.loc i)/\(∀i j,G1.O b≠.cell i j)/\(∀i j,G1.O b=.slot i j->d=some i/\j=0):=by
     rw[q2]
     cases d with
     |none=>simp[BE]
     |some i=>grind [BE]
    obtain⟨G2,h3,h4⟩:=h1.grown (k:=k) (m:=m) hd q4 ⟨q6.1,q6.2.1⟩ q6.2.2.1 (q6.2.2.2.1.imp id fun⟨z1,z2⟩=>⟨z1,jW,z2⟩) q6.2.2.2.2 (fun i hi=>by subst hi;exact q2) hon q3 q5 dn hcl hat qP rfl
    have Te:off+k*sz+news.length<=c.size:=by
     rw[eP.len,q5,Nat.add_assoc,<-Nat.add_mul]
     exact Nat.add_le_add_left (Nat.mul_le_mul_right _ dn) _
    have eJ:=dU (P:=P) b (off+k*sz) et fz news 0 c w q4 q6.1 A_ eP.one
    have bS:=jc (ty:=ty) (w:=w) ht ht2 hi qM qP (b:=b) (off:=off) (k:=k) (cap:=cap) dn (w':=w.setRow b (laid c (off+k*sz) news)) θ
    intro pos after gd next Q hn
    refine aY ?_ (hn G2 _ _ _ h3 (hp1.trans h4) hk)
    simp[execOp,resolve,invoke,builtin,e1,bS]
  ·have hfl:Fl cs:=j_
   obtain⟨us,u1,u2,u3⟩:=hat.lU
   exact grow _ cap us e1 AT ζ hcl hfl (run_firstCells_some w.drew sz k ⟨b,off,none⟩ k cap us ζ u2) u3
end
section
variable{P:Program}{G G':Gh}{n:Nat}{D:List Deferred}{E:St}{a:Act}{w w':World}
def Gh.outer(G:Gh):Gh:=⟨G.R,fun b=>match G.O b with
 |.none=>.none
 |.sh=>.sh
 |.cell b' j=>if G.O b'=.sh then .cell b' j else .frame
 |_=>.frame⟩
theorem o6{b:Nat}:G.outer.O b=.none↔G.O b=.none:=by grind [Gh.outer]
theorem mT{b:Nat}:G.outer.O b=.sh↔G.O b=.sh:=by grind [Gh.outer]
theorem Dz{b b' j:Nat}:G.outer.O b=.cell b' j↔(G.O b=.cell b' j/\G.O b'=.sh):=by
 simp[Gh.outer]
 grind
theorem lf{b:Nat}(h1:G.O b≠.none)(h2:G.O b≠.sh)(h3:∀b' j,G.O b=.cell b' j->G.O b'≠.sh):G.outer.O b=.frame:=by
 simp[Gh.outer]
 grind
def pP(G:Gh):xE G.outer:=by
 intro b
 grind [o6,mT,Dz,lf]
def TK:List AV->Bool
 |[_]=>true
 |_=>false
def akC(single:Bool):Option Nat->Nat->dp
 |some i,j=>.slot i (if single then j else j+1)
 |none,_=>.none
def ahk(single:Bool)(d:Option Nat):dp->dp
 |.none=>.none
 |.sh=>.sh
 |.cell b' j=>.cell b' j
 |.res j=>akC single d j
 |_=>.none
theorem Inv.args(h:Inv G n D E a w){ys:List Operand}{xs:List IX}{as:List AV}(hc:gX ys xs=true)(hv:cN (xg true E) xs=some as):lY w G.R as (ys.map a.eval).toArray:=by
 have hf:∀o x,bN o x=true->dJ (xg true E x)=true->VR w G.R (xg true E x) (a.eval o):=fun o x hx hi=>by
  have:=BR.aR h hx
  generalize xg true E x=av at hi this
  cases av<;>first|exact this|grind [dJ]
 obtain⟨h1,_,h3⟩:=tj h hf ys xs as hc hv
 exact⟨A_,fun j c u hc hu=>h3 j c u hc A_⟩
def Inv.mo(h:Inv G n D E a w):cE G.outer w/\bc G.outer w E.s:=⟨⟨fun b hb=>o6.2 (h.aZ.kc b hb),h.aZ.kV⟩,h.store.yH (fun _ _ hv=>hv) (fun _ hb=>⟨mT.2 hb,rfl,rfl⟩) (fun _ _ _ hb hc=>⟨Dz.2 ⟨hc,hb⟩,rfl,rfl⟩)⟩
def DU{r:AV}(h:ke [r]=true):(∃sz m cs,r=.us sz m cs)\/(dJ r=true/\∀sz m cs,r≠.us sz m cs):=by cases r<;>first|exact .inl ⟨_,_,_,rfl⟩|grind [ke,TL]
def DT{r:AV}(h:ke [r]=true)(t:Nat):¬bP r t:=by
 rcases DU h with⟨_,_,_,rfl⟩|⟨h,_⟩
 ·exact fun h=>h
 ·exact fA h t
def U8{r:AV}(h:ke [r]=true)(cs:List AV):r≠.loc cs:=by
 rcases DU h with⟨_,_,_,rfl⟩|⟨h,_⟩
 ·grind
 ·exact nP h cs
theorem Inv.behind(h:Inv G n D E a w){d:Option Nat}(hd:bt n d=true){rs:List AV}{s':ae}{v:Value}(hok:ke rs=true)(hg:cE G' w')(hs:bc G' w' s')(hr:nz G' w' rs v)(hp:aI G.outer w G' w'):
 ∃G2,Inv G2 n D ({E with s:=s'}.put d (fQ rs)) (a.put d v) w'/\aI G w G2 w':=by
 obtain⟨O2,hO2⟩:∃O2:Nat->dp,∀b,O2 b=if G.outer.O b=.frame then G.O b else ahk (TK rs) d (G'.O b):=⟨_,fun _=>rfl⟩
 let G2:Gh:=⟨G'.R,O2⟩
 have hfr:∀b,G.outer.O b=.frame->b<w.heap.size/\w'.heap[b]? =w.heap[b]? /\G'.O b=.frame/\G'.R b=G.R b/\G2.O b=G.O b:=by
  intro b hb
  have hlt:b<w.heap.size:=h.mo.1.lt X_
  obtain⟨q1,q2⟩:=hp.j8 b hlt hb
  exact⟨hlt,hp.frame b hlt (.inl hb),q1,q2,(hO2 b).trans (if_pos hb)⟩
 have hnf:∀b,G.outer.O b≠.frame->G2.O b=ahk (TK rs) d (G'.O b):=by
  intro b hb
  exact(hO2 b).trans (if_neg hb)
 have kl:cE G2 w':=by
  refine⟨fun b hb=>?_,fun b hb=>hg.kV b hb⟩
  have hbs:w.heap.size<=b:=Nat.le_trans hp.size hb
  rw[hnf b A_,hg.kc b hb];rfl
 have bF:aI G w G2 w':=by
  refine⟨hp.os,hp.tape,hp.output,hp.drawn,hp.size,hp.mono,hp.nq,fun b hb ho=>?_,fun b hb ho=>?_,fun b hb ho=>?_⟩
  ·rcases ho with ho|ho
   ·grind [lf]
   ·exact hp.frame b hb (.inr (o6.2 ho))
  ·grind [lf]
  ·have ho':=o6.2 ho
   obtain⟨q1,q2⟩:=hp.rf b hb ho'
   exact⟨by rw[hnf b A_,q1];rfl,q2⟩
 have ZE:∀b,(G'.O b=.sh\/∃b' j,G'.O b=.cell b' j)->G2.O b=G'.O b:=by
  intro b hb
  by_cases hf:G.outer.O b=.frame
  ·grind
  ·rw[hnf b hf]
   rcases hb with hb|⟨_,_,hb⟩<;>rw[hb]<;>rfl
 have eJ:bc G2 w' s':=hs.yH (fun _ _ hv=>hv) (fun b hb=>⟨(ZE b (.inl hb)).trans hb,rfl,rfl⟩) (fun b c j _ hc=>⟨(ZE c (.inr ⟨b,j,hc⟩)).trans hc,rfl,rfl⟩)
 have nN:∀(i j:Nat)(x:AV)(y:Value),d=some i->dS G' w' (.res j) x y->dS G2 w' (.slot i (if TK rs then j else j+1)) x y:=by
  intro i j x y hdi ho
  unfold dS at ho⊢
  split
  ·rename_i sz m cs
   intro base m' cap hv hc
   obtain⟨b,off,c,e,fz,q1,q2,q3⟩:=ho base m' cap hv hc
   refine⟨b,off,c,e,fz,q1,?_,q3⟩
   have hf:G.outer.O b≠.frame:=fun hf=>A_
   rw[hnf b hf,q2,hdi];rfl
  ·rename_i e m cs
   intro base m' cap hv hc
   obtain⟨b,off,c,fz,q1,q2,q3⟩:=ho base m' cap hv hc
   refine⟨b,off,c,fz,q1,?_,q3⟩
   have hf:G.outer.O b≠.frame:=fun hf=>A_
   rw[hnf b hf,q2,hdi];rfl
  ·trivial
 have qO:=h.put (s':=s') (lp':=E.lp) d (fun i hi=>IN) (fQ rs) v kl bF eJ (fun _ hx=>hx)
  (fun i t _ ht=>by
    match rs,hok,ht with
    |[r],hok,ht=>exact(DT hok t ht).elim
    |[],_,ht=>exact ht.elim
    |_::_::_,_,ht=>exact ht.elim)
  (fun i t _⟨cs,hcs⟩=>by
    match rs,hok,hcs with
    |[r],hok,hcs=>exact(U8 hok cs hcs).elim
    |[],_,hcs=>cases hcs
    |_::_::_,_,hcs=>cases hcs)
  (fun i b _ hb=>by grind [lf,q2])
  (fun i b c j _ hb hc=>by grind [lf,q2])
  (fun i hi=>by
    match rs,hok,hr,nN with
    |[r],hok,hr,nN=>
     show ee G2 w' _ _ i r v
     rcases DU hok with⟨sz,m,cs,rfl⟩|⟨hV,hnu⟩
     ·rcases hr with hr|⟨b,cap,c,t,sp,h1,h2,h3,h4,h5,h6⟩
      ·exact .inl hr
      ·refine .inr ⟨b,cap,c,t,sp,h1,h2,h3,?_,h5,h6⟩
       have hf:G.outer.O b≠.frame:=fun hf=>A_
       show O2 b=_
       rw[show O2 b=G2.O b from rfl,hnf b hf,h4,hi];rfl
     ·rw[ee.sm hV]
      have hr':VR w' G'.R r v/\dS G' w' (.res 0) r v:=by cases r<;>first|exact hr|grind
      exact⟨hr'.1,nN i 0 r v hi hr'.2⟩
    |[],_,hr,nN=>
     obtain⟨ys,q1,q2⟩:=hr
     exact⟨ys,q1,q2.1,fun j x y hx=>T_⟩
    |r1::r2::rr,_,hr,nN=>
     obtain⟨ys,q1,q2⟩:=hr
     exact⟨ys,q1,q2.1,fun j x y hx hy=>⟨(q2.2 j x y hx hy).1,nN i j x y hi (q2.2 j x y hx hy).2⟩⟩)
 exact⟨G2,by cases d<;>exact qO,bF⟩
def F4(h:Inv G n D E a w){op:Op}{ty:TypeId}{d:Option Nat}{K:St->Prop}(hd:bt n d=true){f:FuncId}{as:List AV}{vs:Array Value}
 (hr:∀(pos:String)(after:Array Edge)(g:Option (Nat×Bool)),(execOp a.eval ⟨d,op,ty,pos,after,g⟩).run P w=.ok (.enter f vs) w)(ha:lY w G.R as vs)(hw:FN P f as E.s (J8 E d K)):pq P G n D w a op ty d K:=by
 intro pos after g next Q hn
 unfold Oper.wp
 rw[hr pos after g]
 obtain⟨g1,g2⟩:=h.mo
 refine(hw G.outer w vs g1 (pP G) g2 ha).mono fun e w'⟨v,rs,s',G',he,⟨hok,hk⟩,q1,q2,q3,q4⟩=>?_
 obtain⟨G2,h1,h2⟩:=h.behind hd hok q1 q2 q3 q4
 grind
theorem lS{f:FuncId}{fn:Func}(hf:P.funcs[f]? =some fn)(Tl:(fn.name != "runtime.NumGoroutine")=true)(hb:fn.body.isSome=true)(args:Array Value):(callFunc f args).run P w=.ok (.enter f args) w:=by
 have h1:=by simpa using Tl
 have h3:fn.body≠none:=A_
 simp[callFunc,hf,h1,h3]
theorem Ku(h:Inv G n D E a w){op:Op}{ty:TypeId}{f:Nat}{args:List IX}{d:Option Nat}{K:St->Prop}(hd:bt n d=true)(hc:aw P op ty (.call f args)=true)(hw:jq P (.call f args) d E K):pq P G n D w a op ty d K:=by
 cases op<;>first|(simp[aw]at hc)|skip
 rename_i c
 obtain⟨callee,ys,ats⟩:=c
 simp[aw]at hc
 split at hc<;>try(cases hc)
 simp only[Bool.and_eq_true,beq_iff_eq]at hc
 obtain⟨⟨rfl,hxs⟩,hfn⟩:=hc
 split at hfn<;>try(cases hfn)
 rename_i fn hf
 rw[Bool.and_eq_true]at hfn
 have hw':vR P f E d K (cN (xg true E) args):=hw
 cases has:cN (xg true E) args with
 |none=>rw[has]at hw';exact hw'.elim
 |some as=>
  rw[has]at hw'
  refine F4 h hd (vs:=ys.map a.eval) (fun _ _ _=>?_) ?_ hw'
  ·simp[execOp,resolve,Act.eval,Deferred.ofValue,invoke,lS hf hfn.1 hfn.2]
  ·have:=h.args hxs has
   rwa[show(ys.toList.map a.eval).toArray=ys.map a.eval from by grind]at this
def Mz{t:TypeId}{m:Nat}(h:lD P t m=true):∃i,P.info? t=some i/\i.bytes=m:=by grind [lD]
theorem Ar{c:Int}(h0:0<=c)(h1:c<=9223372036854775807):IntKind.i64.wrap c=c:=by rw[IntKind.wrap_i64];omega
def U2{c:Int}{by':Nat}(h0:0<=c)(hb:0<by')(hr:c*by'<=room):c<=room/\IntKind.i64.wrap c=c/\¬(281474976710656<by'*c):=by
 have h1:=by
  have:=Int.mul_le_mul_of_nonneg_left (show(1:Int)<=by' by omega) h0
  omega
 grind [room,Int.le_trans,Ar,Int.mul_comm]
theorem yd{α:Type}(u:α)(l:List α):∀(m:Nat),((List.replicate m l).flatten)=((List.range (m*l.length)).map fun i=>l.getD (i % l.length) u):=by
 intro m
 apply List.ext_getElem?
 intro j
 rcases Nat.eq_zero_or_pos l.length with h0|hp
 ·simp_all
 ·induction m generalizing j with
  |zero=>simp
  |succ m ih=>
   rw[List.replicate_succ,List.flatten_cons]
   by_cases hj:j<l.length
   ·rw[List.getElem?_append_left hj,List.getElem?_map,List.getElem?_range A_]
    simp[Nat.mod_eq_of_lt hj,List.getElem?_eq_getElem hj]
   ·by_cases hlt:j<(m+1)*l.length
    ·grind [List.getElem?_range,Nat.mod_eq_sub_mod]
    grind
def run_makeSlice{t e:TypeId}{i:TypeInfo}{z:Value}{l c:Int}{k k':IntKind}(ht:P.underlying t=some (.slice e))(hi:P.info? e=some i)(hz:i.zero=some z)(hsz:z.cells.size=i.size)(hb:0<i.bytes)(h0:0<=l)(hlc:l<=c)(hr:c*i.bytes<=room)(w:World):
 (Instr.makeSlice t (.int k l) (.int k' c)).run P w=.ok (.slice (some ⟨w.heap.size,0,none⟩) l.toNat c.toNat) (w.alloc (.cells ((List.replicate c.toNat z.cells.toList).flatten).toArray e)):=by
 obtain⟨h1,h2,h3⟩:=U2 (Int.le_trans h0 hlc) hb hr
 have h4:IntKind.i64.wrap l=l:=Ar AT (by grind [room])
 have h5:¬(c<0):=AT
 have h6:¬(l<0):=AT
 have h7:¬(c<l):=AT
 have dE:(Array.map (fun x=>(if c.toNat*i.size=0 then(#[]:Array Value)else z.cells)[x % (if c.toNat*i.size=0 then(#[]:Array Value)else z.cells).size]!) (Array.range (c.toNat*i.size)))=((List.replicate c.toNat z.cells.toList).flatten).toArray:=by
  rw[<-uD,hsz]
  by_cases hn:c.toNat*i.size=0
  ·simp[hn]
  ·grind
 by_cases hn:c.toNat*i.size=0
 ·simp[Instr.makeSlice,asInt,asIntOf,run_underlying ht,typeInfo,sizeOf,hi,h2,h4,h3,h5,h6,h7,newRow,hn,<-dE]
 ·simp only[hn,if_false]at dE
  simp[Instr.makeSlice,asInt,asIntOf,run_underlying ht,typeInfo,sizeOf,hi,h2,h4,h3,h5,h6,h7,newRow,hn,zeroValue,hz,dE]
theorem Qp(h:Inv G n D E a w){op:Op}{ty:TypeId}{x:IX}{args:List IX}{d:Option Nat}{K:St->Prop}(hd:bt n d=true)(hc:aw P op ty (.jh x args)=true)(hw:jq P (.jh x args) d E K):pq P G n D w a op ty d K:=by
 cases op<;>first|(simp[aw]at hc;done)|skip
 rename_i c
 obtain⟨callee,ys,ats⟩:=c
 simp only[aw]at hc
 split at hc<;>try(cases hc;done)
 rename_i y
 simp only[Bool.and_eq_true]at hc
 obtain⟨hx,hxs⟩:=hc
 have hb:=BR.aR h hx
 have hw':wP P E (cN (xg true E) args) d K (xg true E x):=hw
 generalize xg true E x=xv at hb hw'
 unfold wP at hw'
 split at hw'<;>try(exact hw'.elim)
 rename_i f first fF
 cases has:cN (xg true E) args with
 |none=>rw[has]at hw';exact hw'.elim
 |some as=>
  rw[has]at hw'
  have hv:=hb
  generalize hev:a.eval y=yv at hv
  cases hv with
  |fn _ _ _ vf vc hl hr hl' hr'=>
  have KH:=h.args hxs has
  obtain⟨hfs,hw'⟩:=hw'
  unfold sS at hfs
  split at hfs<;>try(cases hfs;done)
  rename_i fn hf
  rw[Bool.and_eq_true]at hfs
  refine F4 h hd (as:=first++as++fF) (vs:=vf++(ys.toList.map a.eval).toArray++vc) (fun _ _ _=>?_) ?_ hw'
  ·rw[show(ys.toList.map a.eval).toArray=ys.map a.eval from by grind]
   simp[execOp,resolve,hev,Deferred.ofValue,invoke,lS hf hfs.1 hfs.2]
  ·refine⟨by have:=KH.1;grind,fun j c u hc hu=>?_⟩
   have h1:=KH.1
   rw[List.append_assoc,List.getElem?_append]at hc
   rw[Array.append_assoc,Array.getElem?_append]at hu
   by_cases hj:j<first.length
   ·grind
   ·rw[if_neg hj,List.getElem?_append]at hc
    rw[if_neg AT,Array.getElem?_append,hl,h1]at hu
    by_cases hj2:j -first.length<as.length
    ·rw[if_pos hj2]at hc hu
     exact KH.2 _ c u hc hu
    grind
theorem MT(h:Inv G n D E a w){op:Op}{ty:TypeId}{sz by':Nat}{z:List AV}{l c:IX}{d:Option Nat}{K:St->Prop}(hd:bt n d=true)(hc:aw P op ty (.lO sz by' z l c)=true)(hw:jq P (.lO sz by' z l c) d E K):pq P G n D w a op ty d K:=by
 cases op<;>first|(simp[aw]at hc;done)|skip
 rename_i t l' c'
 simp only[aw,Bool.and_eq_true]at hc
 obtain⟨⟨hl,hcc⟩,hc⟩:=hc
 split at hc<;>try(cases hc;done)
 rename_i e he
 simp only[Bool.and_eq_true,decide_eq_true_eq]at hc
 obtain⟨⟨⟨⟨hs,hby⟩,hz⟩,hsz⟩,hbp⟩:=hc
 have hb1:=BR.aR h hl
 have hb2:=BR.aR h hcc
 have hw':yE by' z E d K (xg true E l) (xg true E c):=hw
 generalize xg true E l=lv at hb1 hw'
 generalize xg true E c=cv at hb2 hw'
 unfold yE at hw'
 split at hw'<;>try(exact hw'.elim)
 rename_i k l0 k' c0
 obtain⟨q1,q2,q3,q4⟩:=hw'
 obtain⟨i,v,h1,h2,h3,h4,h5⟩:=vm hz
 obtain⟨i',h6,h7⟩:=Mz hby
 rw[h1]at h6;injection h6 with h6;subst h6
 have e1:=VR.cu hb1
 have e2:=VR.cu hb2
 have ZK:=h4 w G.R
 have mc:v.cells.toList.length=z.length:=by simpa using ZK.1
 have hfl:Fl (List.replicate c0.toNat z).flatten:=by
  intro x hx
  simp only[List.mem_flatten,List.mem_replicate]at hx
  obtain⟨l',⟨_,rfl⟩,hx⟩:=hx
  exact ZK.2.2 x hx
 have hcs:∀(G':Gh)(w':World)(o:Nat->dp),aI G w G' w'->dF G' w' o (List.replicate c0.toNat z).flatten ((List.replicate c0.toNat v.cells.toList).flatten).toArray:=by
  intro G' w' o _
  have eo:∀(j:Nat)(x:AV)(y:Value),((List.replicate c0.toNat z).flatten)[j]? =some x->((List.replicate c0.toNat v.cells.toList).flatten)[j]? =some y->cR y x=true:=by
   intro j x y hx hy
   have hjz:(List.replicate c0.toNat z).flatten=(List.range (c0.toNat*z.length)).map fun i=>z.getD (i % z.length) .undef:=yd .undef z c0.toNat
   have hjv:(List.replicate c0.toNat v.cells.toList).flatten=(List.range (c0.toNat*z.length)).map fun i=>v.cells.toList.getD (i % z.length) undef:=by rw[yd undef,mc]
   rw[hjz,List.getElem?_map]at hx
   rw[hjv,List.getElem?_map]at hy
   cases hrg:(List.range (c0.toNat*z.length))[j]? with
   |none=>grind
   |some q=>grind [Option.some.injEq,Nat.eq_zero_or_pos,Nat.mod_lt]
  refine⟨by simp[mc],fun j x y hx hy=>?_⟩
  have:=eo j x y hx A_
  exact⟨vQ this w' G'.R,Ct this G' w' _⟩
 obtain⟨G',g1,g2⟩:=h.NB hd (t:=e) (.inr ⟨l0.toNat,c0.toNat,rfl,rfl⟩) hcs hfl
 intro pos after g next Q hn
 refine aY (v:=.slice (some ⟨w.heap.size,0,none⟩) l0.toNat c0.toNat) (w':=w.alloc (.cells ((List.replicate c0.toNat v.cells.toList).flatten).toArray e)) ?_ (hn G' _ _ _ g1 g2 (q4 w.heap.size (h.store.get_none h.aZ)))
 have:=run_makeSlice (k:=k) (k':=k') (dj he) h1 h2 A_ AT q1 q2 A_ w
 simp[execOp,e1,e2,this]
theorem Kv(h:Inv G n D E a w){op:Op}{ty:TypeId}{d:Option Nat}{K:St->Prop}(hd:bt n d=true)(hc:aw P op ty .makeMap=true)(hw:jq P .makeMap d E K):pq P G n D w a op ty d K:=by
 cases op<;>first|(simp[aw]at hc;done)|skip
 rename_i t r
 cases r with
 |some r=>simp[aw]at hc
 |none=>
 have hp:=(fS h.aZ (.map #[] 0) .sh 0).2.1
 have hs:bc (G.pA w.heap.size .sh 0) (w.alloc (.map #[] 0)) (E.s.set w.heap.size (.map [])):=by
  intro b o hb
  unfold ae.set at hb
  by_cases he:b=w.heap.size
  ·rw[if_pos he]at hb
   injection hb with hb
   subst hb;subst he
   exact⟨BY,BY,#[],0,heap_alloc_new w _,rfl,fun j x y hx=>T_⟩
  ·rw[if_neg he]at hb
   exact k7 h.store h.aZ _ .sh 0 b o hb
 obtain⟨h1,h2⟩:=h.alloc (.map #[] 0) .sh 0 d hd (.mp w.heap.size) (.map (some w.heap.size)) E.lp hs (fun _ hx=>hx) (fun i t' _ ht=>ht.elim) (fun i t' _⟨cs',zA⟩=>by cases zA)
  (fun i hi=>⟨.mp _,trivial⟩)
 intro pos after g next Q hn
 refine aY (v:=.map (some w.heap.size)) (w':=w.alloc (.map #[] 0)) ?_ (hn _ _ _ _ Ω h2 (hw w.heap.size (h.store.get_none h.aZ)))
 simp[execOp,Instr.makeMap]
end
end Go.AB
end
section
namespace Go.AB
open Go Go.MapKept
def KV:ny->Value->Prop
 |.int k,v=>∃n,v=.int k n
 |.str,v=>∃s,v=.string s
 |.bool,v=>∃b,v=.bool b
 |.bytes n,v=>∃xs:Array Value,v=.agg xs/\xs.size=n/\∀u∈xs,∃m,u=.int .u8 m
section
variable{P:Program}{w:World}
structure RJ(P:Program)(kt:TypeId)(kk:ny):Prop where
 check:∀(w:World)(em:Bool)(v:Value),KV kk v->(Instr.checkKey em 10000 kt v).run P w=.ok () w
 find:∀(w:World)(x:Value),KV kk x->∀es:List MapEntry,(∀e∈es,KV kk e.key)->
  ((Instr.findKey kt x es).run P w=.ok none w/\∀e∈es,e.key≠x)\/∃j e,(Instr.findKey kt x es).run P w=.ok (some (j,e.val)) w/\es[j]? =some e/\e.key=x/\∀(i:Nat)(e':MapEntry),i<j->es[i]? =some e'->e'.key≠x
 stays:∀(w:World)(v:Value),KV kk v->(Instr.keyThatStays v v).run P w=.ok v w
def vT{d:TypeDesc}{k:Value}(hk:IsKey d k):∀(l:List MapEntry)(i:Nat),(∀x∈l,IsKey d x.key)->
 (Instr.findNow d k l i=some none/\∀x∈l,x.key≠k)\/∃j e,Instr.findNow d k l i=some (some (i+j,e.val))/\l[j]? =some e/\e.key=k/\∀(m:Nat)(e':MapEntry),m<j->l[m]? =some e'->e'.key≠k
 |[],_,_=>.inl ⟨rfl,BY⟩
 |e::es,i,h=>by
  obtain⟨r,hr,Bk⟩:=sameNow_of_keys hk (h e (.head _))
  cases r with
  |true=>exact .inr ⟨0,e,by simp[Instr.findNow,hr],rfl,(Bk.1 rfl).symm,fun m e' hm=>AT⟩
  |false=>
   have hne:e.key≠k:=fun q=>by have:=Bk.2 q.symm;cases this
   rcases vT hk es (i+1) (fun x hx=>h x (.tail _ hx))with⟨h1,h2⟩|⟨j,e',h1,h2,h3,h4⟩
   ·exact .inl ⟨by simp[Instr.findNow,hr,h1],fun x hx=>by
     cases hx with
     |head=>exact hne
     |tail _ hx=>exact h2 x hx⟩
   ·refine .inr ⟨j+1,e',by simp[Instr.findNow,hr,h1];omega,U_,h3,fun m x hm hx=>?_⟩
    cases m with
    |zero=>simp at hx;subst hx;exact hne
    |succ m=>exact h4 m x AT Nl
def qh{kt:TypeId}{d:TypeDesc}{kk:ny}(hd:P.underlying kt=some d)(hK:∀v,KV kk v->IsKey d v):RJ P kt kk where
 check:=fun w em v hv=>run_checkKey hd (hK v hv) em 9999
 find:=fun w x hx es hes=>by
  rcases vT (hK x hx) es 0 (fun e he=>hK _ (hes e he))with⟨h1,h2⟩|⟨j,e,h1,h2,h3,h4⟩
  ·exact .inl ⟨run_findKey hd h1,h2⟩
  ·exact .inr ⟨j,e,by rw[run_findKey hd h1,Nat.zero_add],h2,h3,h4⟩
 stays:=fun w v hv=>run_keyThatStays (hK v hv)
def xu{e off:Nat}{i:TypeInfo}(he:P.underlying e=some (.int .u8))(hi:P.info? e=some i)(h1:i.size=1)(xs:Array Value)(x:Value)(hx:xs[off]? =some x)(w:World):(part e xs off).run P w=.ok x w:=by
 have hag:(isAgg e).run P w=.ok false w:=va (multi:=false) (by unfold qA;rw[he];rfl) w
 simp[part,hag,hx]
def um{e:TypeId}{i:TypeInfo}(he:P.underlying e=some (.int .u8))(hi:P.info? e=some i)(h1:i.size=1)(d:Nat)(xs ys:Array Value)(n:Nat)
 (hx:∀j,j<n->∃a b,xs[j]? =some (.int .u8 a)/\ys[j]? =some (.int .u8 b)):∀(l:List Nat),(∀j∈l,j<n)->∀w,
 ∃r:Bool,(Op.eqItems (d+1) e (P.cellsOf e) xs ys l).run P w=.ok r w/\(r=true↔∀j∈l,xs[j]? =ys[j]?)
 |[],_,w=>⟨true,by simp[Op.eqItems],BY⟩
 |j::l,hl,w=>by
  obtain⟨a,b,ha,hb⟩:=hx j (hl j (.head _))
  have hc:P.cellsOf e=1:=by unfold Program.cellsOf;rw[hi];simpa using h1
  have e1:=xu he hi h1 xs _ ha w
  have e2:=xu he hi h1 ys _ hb w
  have e3:=run_equalIn_int (P:=P) w d e .u8 .u8 a b he
  obtain⟨r,hr,Bk⟩:=um he hi h1 d xs ys n hx l (fun j hj=>hl j (.tail _ hj)) w
  rw[hc]at hr
  by_cases hab:a=b
  ·subst hab
   refine⟨r,?_,?_⟩
   ·simp only[Op.eqItems,hc,Nat.mul_one,Sem.run_bind,e1,e2,e3,Result.andThen_ok,beq_self_eq_true,Bool.not_true,Bool.false_eq_true,if_false]
    exact hr
   ·rw[Bk]
    simp[ha,hb]
  ·refine⟨false,?_,?_⟩
   ·have:(a==b)=false:=by simpa using hab
    simp[Op.eqItems,hc,e1,e2,e3,this]
   ·simp[ha,hb,hab]
def BK{kt e:TypeId}{n:Nat}{i:TypeInfo}(hk:P.underlying kt=some (.array n e))(he:P.underlying e=some (.int .u8))(hi:P.info? e=some i)(h1:i.size=1){x y:Value}(hx:KV (.bytes n) x)(hy:KV (.bytes n) y)(w:World):
 ∃r:Bool,(Op.equal kt x y).run P w=.ok r w/\(r=true↔y=x):=by
 obtain⟨xs,rfl,hxs,hx'⟩:=hx
 obtain⟨ys,rfl,hys,hy'⟩:=hy
 have hxy:∀j,j<n->∃a b,xs[j]? =some (.int .u8 a)/\ys[j]? =some (.int .u8 b):=fun j hj=>by
  obtain⟨a,ha⟩:=hx' xs[j] (Array.getElem_mem _)
  obtain⟨b,hb⟩:=hy' ys[j] (Array.getElem_mem _)
  exact⟨a,b,by rw[Array.getElem?_eq_getElem AT,ha],by rw[Array.getElem?_eq_getElem AT,hb]⟩
 obtain⟨r,hr,Bk⟩:=um he hi h1 9997 xs ys n hxy (List.range n) (fun j hj=>List.mem_range.1 hj) w
 refine⟨r,?_,?_⟩
 ·show(Op.equalIn (9999+1) kt (.agg xs) (.agg ys)).run P w=_
  rw[run_equalIn_array w 9999 xs ys hk hi]
  obtain⟨r',hr',ale⟩:=um he hi h1 9998 xs ys n hxy (List.range n) (fun j hj=>List.mem_range.1 hj) w
  have:r=r':=by cases r<;>cases r'<;>simp_all
  rw[this];exact hr'
 ·rw[Bk]
  constructor
  ·intro h
   have:ys=xs:=by
    apply Array.ext AT
    intro j h1 h2
    have:=h j (List.mem_range.2 AT)
    rw[Array.getElem?_eq_getElem AT,Array.getElem?_eq_getElem AT]at this
    injection this with this;exact this.symm
   rw[this]
  ·intro h j _
   injection h with h
   rw[h]
def qG{kt e:TypeId}{n:Nat}{i:TypeInfo}(hk:P.underlying kt=some (.array n e))(he:P.underlying e=some (.int .u8))(hi:P.info? e=some i)(h1:i.size=1){k:Value}(hkv:KV (.bytes n) k):∀(l:List MapEntry)(i:Nat),(∀x∈l,KV (.bytes n) x.key)->∀w:World,
 ((Instr.findAsking kt k l i).run P w=.ok none w/\∀x∈l,x.key≠k)\/∃j e,(Instr.findAsking kt k l i).run P w=.ok (some (i+j,e.val)) w/\l[j]? =some e/\e.key=k/\∀(m:Nat)(e':MapEntry),m<j->l[m]? =some e'->e'.key≠k
 |[],_,_,w=>.inl ⟨by simp[Instr.findAsking],BY⟩
 |x::es,i0,h,w=>by
  obtain⟨r,hr,Bk⟩:=BK hk he hi h1 hkv (h x (.head _)) w
  cases r with
  |true=>exact .inr ⟨0,x,by simp[Instr.findAsking,hr],rfl,Bk.1 rfl,fun m e' hm=>AT⟩
  |false=>
   have hne:x.key≠k:=fun q=>by have:=Bk.2 q;cases this
   rcases qG hk he hi h1 hkv es (i0+1) (fun x hx=>h x (.tail _ hx)) w with⟨h1,h2⟩|⟨j,e',h1,h2,h3,h4⟩
   ·exact .inl ⟨by simp[Instr.findAsking,hr,h1],fun y hy=>by
     cases hy with
     |head=>exact hne
     |tail _ hy=>exact h2 y hy⟩
   ·refine .inr ⟨j+1,e',by simp[Instr.findAsking,hr,h1];omega,U_,h3,fun m x hm hx=>?_⟩
    cases m with
    |zero=>simp at hx;subst hx;exact hne
    |succ m=>exact h4 m x AT Nl
def Cx{kt e:TypeId}{n:Nat}{i:TypeInfo}(hk:P.underlying kt=some (.array n e))(he:P.underlying e=some (.int .u8))(hi:P.info? e=some i)(h1:i.size=1){k:Value}(hkv:KV (.bytes n) k)(em:Bool)(w:World):(Instr.checkKey em 10000 kt k).run P w=.ok () w:=by
 obtain⟨xs,rfl,hxs,hx'⟩:=hkv
 show(Instr.checkKey em (9999+1) kt (.agg xs)).run P w=_
 unfold Instr.checkKey
 simp only[Sem.run_bind,run_underlying hk,Result.andThen_ok]
 have key:∀(l:List Nat),(∀j∈l,j<n)->∀w:World,(forIn (m:=Sem) l PUnit.unit fun i _=>do
  let a<-part e xs (i*(<-sizeOf e))
  Instr.checkKey em 9999 e a
  pure (ForInStep.yield PUnit.unit)).run P w=.ok PUnit.unit w:=by
  intro l
  induction l with
  |nil=>intro _ w;simp
  |cons j l ih=>
   intro hl w
   have hj:=hl j (.head _)
   obtain⟨a,ha⟩:=hx' xs[j] (Array.getElem_mem _)
   have e1:=xu he hi h1 xs (.int .u8 a) (off:=j) (by rw[Array.getElem?_eq_getElem AT,ha]) w
   have e2:(Instr.checkKey em (9998+1) e (.int .u8 a)).run P w=.ok () w:=run_checkKey (d:=.int .u8) (k:=.int .u8 a) he (show IsKey (.int .u8) (.int .u8 a) from rfl) em 9998
   have hs:di P e 1=true:=by unfold di;rw[hi];simpa using h1
   rw[List.forIn_cons]
   simp only[Sem.run_bind,run_sizeOf hs w,Result.andThen_ok,Nat.mul_one,e1,e2,Sem.run_pure]
   exact ih (fun j hj=>hl j (.tail _ hj)) w
 simp only[Std.Legacy.Range.forIn_eq_forIn_range',Std.Legacy.Range.size,Nat.sub_zero,Nat.add_one_sub_one,Nat.div_one]
 rw[key (List.range' 0 n) (fun j hj=>by simp at hj;omega) w]
 simp
def GC{kt:TypeId}{kk:ny}(h:Nq P kt kk=true):RJ P kt kk:=by
 cases kk with
 |int k=>
  simp only[Nq]at h
  split at h<;>first|(cases h;done)|skip
  rename_i k' hk
  have:k=k':=by simpa[QF]using h
  subst this
  exact qh hk fun v⟨n,e⟩=>by subst e;rfl
 |str=>
  simp only[Nq]at h
  split at h<;>first|(cases h;done)|skip
  rename_i hk
  exact qh hk fun v⟨n,e⟩=>by subst e;trivial
 |bool=>
  simp only[Nq]at h
  split at h<;>first|(cases h;done)|skip
  rename_i hk
  exact qh hk fun v⟨n,e⟩=>by subst e;trivial
 |bytes n=>
  simp only[Nq]at h
  split at h<;>first|(cases h;done)|skip
  rename_i m e hk
  simp only[Bool.and_eq_true,beq_iff_eq]at h
  obtain⟨⟨rfl,he⟩,hs⟩:=h
  split at he<;>first|(cases he;done)|skip
  rename_i he'
  have he:=he'
  unfold di at hs
  split at hs<;>first|(cases hs;done)|skip
  rename_i i hi
  have h1:i.size=1:=by simpa using hs
  refine⟨fun w em v hv=>Cx hk he hi h1 hv em w,fun w x hx es hes=>?_,fun w v hv=>?_⟩
  ·obtain⟨xs,rfl,hx1,hx2⟩:=hx
   have bS:∀r,(Instr.findAsking kt (.agg xs) es).run P w=.ok r w->(∀e∈es,True)->((Instr.findNow (.array m e) (.agg xs) es 0=none)\/es=[])->(Instr.findKey kt (.agg xs) es).run P w=.ok r w:=by
    intro r hr _ hn
    rcases hn with hn|hn
    ·simp[Instr.findKey,run_underlying hk,hn,hr]
    ·subst hn
     simp[Instr.findAsking]at hr
     simp[Instr.findKey,run_underlying hk,Instr.findNow,hr]
   have hn:Instr.findNow (.array m e) (.agg xs) es 0=none\/es=[]:=by
    cases es with
    |nil=>exact .inr rfl
    |cons x l=>exact .inl (by simp[Instr.findNow,Instr.sameNow])
   rcases qG hk he hi h1 ⟨xs,rfl,hx1,hx2⟩ es 0 hes w with⟨q1,q2⟩|⟨j,e',q1,q2,q3,q4⟩
   ·exact .inl ⟨bS _ q1 (fun _ _=>trivial) hn,q2⟩
   ·rw[Nat.zero_add]at q1
    exact .inr ⟨j,e',bS _ q1 (fun _ _=>trivial) hn,q2,q3,q4⟩
  ·obtain⟨xs,rfl,hx1,hx2⟩:=hv
   have:Instr.sameBits 10000 (.agg xs) (.agg xs)=true:=by
    show Instr.sameBits (9999+1) (.agg xs) (.agg xs)=true
    unfold Instr.sameBits
    simp only[beq_self_eq_true,Bool.true_and,List.all_eq_true]
    intro p hp
    have h2:=List.of_mem_zip hp
    have h3:p.1=p.2:=by
     obtain⟨i,hi⟩:=List.mem_iff_getElem?.1 hp
     rw[List.getElem?_zip_eq_some]at hi
     rw[hi.1]at hi
     exact Option.some.inj hi.2
    obtain⟨mm,hm⟩:=hx2 p.1 (by simpa using h2.1)
    obtain⟨p1,p2⟩:=p
    simp only at h3 hm⊢
    subst h3;subst hm
    simp[Instr.sameBits]
   simp[Instr.keyThatStays,this]
def tT{kk:ny}{a:AV}{v:Value}{R:Nat->Nat}(h:gI kk a=true)(hv:VR w R a v):KV kk v:=by
 unfold gI at h
 split at h
 ·rename_i k k' n
  have:k=k':=by simpa[QF]using h
  subst this
  exact⟨n,VR.cu hv⟩
 ·exact⟨_,VR.gH hv⟩
 ·exact⟨_,VR.iu hv⟩
 ·rename_i n cs
  simp only[Bool.and_eq_true,beq_iff_eq]at h
  obtain⟨vs,rfl,hs,hr,_⟩:=VR.uO hv
  refine⟨vs,rfl,AT,fun u hu=>?_⟩
  obtain⟨i,hi⟩:=Array.mem_iff_getElem?.1 hu
  have hlt:i<cs.length:=by have:=(Array.getElem?_eq_some_iff.1 hi).1;omega
  have hc:=List.getElem?_eq_getElem hlt
  have h8:Da cs[i]=true:=List.all_eq_true.1 h.2 _ (List.getElem_mem hlt)
  have hvr:=hr i _ u hc hi
  generalize cs[i]=c at h8 hvr
  unfold Da at h8
  split at h8
  ·exact⟨_,VR.cu hvr⟩
  ·cases h8
 ·cases h
theorem GA:∀(cs ds:List AV),cs.all Da=true->ds.all Da=true->(si cs ds=true↔cs=ds)
 |[],[],_,_=>by simp[si]
 |[],_::_,_,_=>by simp[si]
 |_::_,[],_,_=>by simp[si]
 |a::cs,b::ds,h1,h2=>by
  simp only[List.all_cons,Bool.and_eq_true]at h1 h2
  have ih:=GA cs ds h1.2 h2.2
  have ha:=h1.1;have hb:=h2.1
  unfold Da at ha hb
  split at ha<;>first|(cases ha;done)|skip
  split at hb<;>first|(cases hb;done)|skip
  simp[si,TS,ih]
def QG{kk:ny}{a b:AV}{x y:Value}{R:Nat->Nat}(ha:gI kk a=true)(hb:gI kk b=true)(hx:VR w R a x)(hy:VR w R b y):yz a b=true↔y=x:=by
 cases kk with
 |int k=>
  cases a<;>first|(simp[gI]at ha;done)|skip
  cases b<;>first|(simp[gI]at hb;done)|skip
  rename_i k1 n1 k2 n2
  have e1:k=k1:=by simpa[gI,QF]using ha
  have e2:k=k2:=by simpa[gI,QF]using hb
  subst e1;subst e2
  rw[VR.cu hx,VR.cu hy]
  show((n1==n2)&&true)=true↔_
  rw[Bool.and_true,beq_iff_eq]
  exact⟨fun h=>by rw[h],fun h=>by injection h with _ h;exact h.symm⟩
 |str=>
  cases a<;>first|(simp[gI]at ha;done)|skip
  cases b<;>first|(simp[gI]at hb;done)|skip
  rename_i s1 s2
  rw[VR.gH hx,VR.gH hy]
  show((s1==s2)&&true)=true↔_
  rw[Bool.and_true,beq_iff_eq]
  refine⟨fun h=>by rw[h],fun h=>?_⟩
  injection h with h
  have:s2.toArray=s1.toArray:=congrArg ByteArray.data h
  have:=congrArg Array.toList this
  simpa using this.symm
 |bool=>
  cases a<;>first|(simp[gI]at ha;done)|skip
  cases b<;>first|(simp[gI]at hb;done)|skip
  rename_i s1 s2
  rw[VR.iu hx,VR.iu hy]
  show((s1==s2)&&true)=true↔_
  rw[Bool.and_true,beq_iff_eq]
  exact⟨fun h=>by rw[h],fun h=>by injection h with h;exact h.symm⟩
 |bytes n=>
  cases a<;>first|(simp[gI]at ha;done)|skip
  cases b<;>first|(simp[gI]at hb;done)|skip
  rename_i cs ds
  simp only[gI,Bool.and_eq_true,beq_iff_eq]at ha hb
  show si cs ds=true↔_
  rw[GA cs ds ha.2 hb.2]
  obtain⟨vs,rfl,h1,h2,_⟩:=VR.uO hx
  obtain⟨us,rfl,k1,k2,_⟩:=VR.uO hy
  constructor
  ·intro e
   subst e
   congr 1
   apply Array.ext AT
   intro j q1 q2
   have hlt:j<cs.length:=AT
   have hc:=List.getElem?_eq_getElem hlt
   have r1:=h2 j _ vs[j] hc (Array.getElem?_eq_getElem q2)
   have r2:=k2 j _ us[j] hc (Array.getElem?_eq_getElem q1)
   have h8:Da cs[j]=true:=List.all_eq_true.1 ha.2 _ (List.getElem_mem hlt)
   generalize cs[j]=c at h8 r1 r2
   unfold Da at h8
   split at h8
   ·rw[VR.cu r1,VR.cu r2]
   ·cases h8
  ·intro e
   injection e with e
   subst e
   apply List.ext_getElem AT
   intro j q1 q2
   have r1:=h2 j _ us[j] (List.getElem?_eq_getElem q1) (Array.getElem?_eq_getElem AT)
   have r2:=k2 j _ us[j] (List.getElem?_eq_getElem q2) (Array.getElem?_eq_getElem AT)
   have h8:Da cs[j]=true:=List.all_eq_true.1 ha.2 _ (List.getElem_mem q1)
   have h9:Da ds[j]=true:=List.all_eq_true.1 hb.2 _ (List.getElem_mem q2)
   generalize cs[j]=c at h8 r1⊢
   generalize ds[j]=d at h9 r2⊢
   unfold Da at h8 h9
   split at h8<;>first|(cases h8;done)|skip
   split at h9<;>first|(cases h9;done)|skip
   have:=VR.cu r1
   rw[VR.cu r2]at this
   injection this with _ this
   rw[this]
end
end Go.AB
end
section
namespace Go.AB
open Go Go.MapKept
section
variable{P:Program}{G:Gh}{n:Nat}{D:List Deferred}{E:St}{a:Act}{w:World}
def zw{R:Nat->Nat}{kk:ny}{k:AV}{x:Value}(hk:gI kk k=true)(hx:VR w R k x):∀(es:List (AV×AV))(l:List MapEntry),l.length=es.length->
 (∀(j:Nat)(p:AV×AV)(y:MapEntry),es[j]? =some p->l[j]? =some y->VR w R p.1 y.key/\VR w R p.2 y.val)->oQ kk es=true->
 ((∀e∈l,e.key≠x)->gF k es=none/\∀v,yU k v es=es++[(k,v)])/\
 (∀(j:Nat)(e:MapEntry),l[j]? =some e->e.key=x->(∀(i:Nat)(e':MapEntry),i<j->l[i]? =some e'->e'.key≠x)->∃p,es[j]? =some p/\gF k es=some p.2/\∀v,yU k v es=es.set j (k,v))
 |[],[],_,_,_=>⟨fun _=>⟨rfl,fun v=>rfl⟩,fun j e hj=>K_⟩
 |[],_::_,hl,_,_=>by simp at hl
 |_::_,[],hl,_,_=>by simp at hl
 |p::es,y::l,hl,hr,hks=>by
  have afP:gI kk p.1=true/\oQ kk es=true:=by simpa[oQ]using hks
  have h0:=(hr 0 p y rfl rfl).1
  have Bk:=QG hk afP.1 hx h0
  obtain⟨i1,i2⟩:=zw hk hx es l A_ (fun j q z hq hz=>hr (j+1) q z A_ A_) afP.2
  constructor
  ·grind [yz,absurd,gF,yU]
  ·intro j e hj hek M7
   cases j with
   |zero=>
    simp at hj;subst hj
    have hf:=Bk.2 hek
    exact⟨p,rfl,by simp[gF,hf],fun v=>by simp[yU,hf]⟩
   |succ j=>
    have hf:yz k p.1=false:=by
     cases hh:yz k p.1 with
     |false=>rfl
     |true=>exact absurd (Bk.1 hh) (M7 0 y AT rfl)
    grind [q1,q2,gF,yU]
def Inv.LF(h:Inv G n D E a w){d:Option Nat}(hd:bt n d=true){av:AV}{v:Value}(hi:dJ av=true)(hv:VR w G.R av v):Inv G n D (E.put d (view av)) (a.put d v) w:=by
 have:=h.put d (fun i hi=>IN) (view av) v h.aZ (aI.refl G w) h.store (fun _ hx=>hx) (fun i t _ ht=>(fA (lK hi) t ht).elim) (fun i t _⟨cs,hcs⟩=>(nP (lK hi) cs hcs).elim)
  (fun _ _ _ _=>⟨rfl,rfl,rfl⟩) (fun _ _ _ _ _ _ hcc=>⟨hcc,rfl,rfl⟩) (fun i hdi=>ee.yG hi hv)
 cases d<;>exact this
def Inv.acC(h:Inv G n D E a w){d:Option Nat}(hd:bt n d=true){av:AV}{v:Value}(b:Bool)(hv:VR w G.R av v):Inv G n D (E.put d (.jg [view av,.bool b])) (a.put d (.tuple #[v,.bool b])) w:=by
 have:=h.put d (fun i hi=>IN) (.jg [view av,.bool b]) (.tuple #[v,.bool b]) h.aZ (aI.refl G w) h.store (fun _ hx=>hx) (fun i t _ ht=>ht.elim) (fun i t _⟨cs,hcs⟩=>A_)
  (fun _ _ _ _=>⟨rfl,rfl,rfl⟩) (fun _ _ _ _ _ _ hcc=>⟨hcc,rfl,rfl⟩) (fun i hdi=>⟨_,rfl,rfl,fun j x y hx hy=>by
    match j with
    |0=>simp at hx hy;subst hx;subst hy;exact⟨hv.view,dS.view ..⟩
    |1=>simp at hx hy;subst hx;subst hy;exact⟨.bool b,trivial⟩
    |j+2=>simp at hx⟩)
 cases d<;>exact this
theorem BR.key{x:IX}{kk:ny}{av:AV}{v:Value}(hk:gI kk av=true)(h:BR G w E a x av v):VR w G.R av v:=by cases av<;>first|exact h|grind [kk,gI]
def On{t:TypeId}{z:AV}(h:Om P t z=true):∃v,(∀w:World,(zeroValue t).run P w=.ok v w)/\(∀(w:World)(R:Nat->Nat),VR w R z v)/\dJ z=true:=by
 unfold Om at h
 split at h<;>first|(cases h)|skip
 rename_i i hi
 split at h<;>first|(cases h)|skip
 rename_i v hv
 refine⟨v,fun w=>by simp[zeroValue,typeInfo,hi,hv],?_⟩
 split at h
 ·exact⟨fun w R=>OB h w R,rfl⟩
 grind [vQ,RZ]
theorem MS(h:Inv G n D E a w){op:Op}{ty:TypeId}{kk:ny}{z:AV}{ok:Bool}{x k:IX}{d:Option Nat}{K:St->Prop}(hd:bt n d=true)(hc:aw P op ty (.lookup kk z ok x k)=true)(hw:jq P (.lookup kk z ok x k) d E K):pq P G n D w a op ty d K:=by
 cases op<;>first|(simp[aw]at hc;done)|skip
 rename_i t y j ok'
 simp only[aw,Bool.and_eq_true,beq_iff_eq]at hc
 obtain⟨⟨⟨hy,hj⟩,rfl⟩,hc⟩:=hc
 split at hc<;>try(cases hc;done)
 rename_i kt et ht
 simp only[Bool.and_eq_true]at hc
 obtain⟨hkt,hz⟩:=hc
 have bS:=GC hkt
 obtain⟨zv,hz1,hz2,hz3⟩:=On hz
 have hb:=BR.aR h hy
 have hbk:=BR.aR h hj
 have hw':RG E d K (kJ kk z ok E.s (xg true E k) (xg true E x)):=hw
 generalize xg true E x=xv at hb hw'
 generalize xg true E k=kv at hbk hw'
 have fin:∀(av:AV)(v:Value)(b:Bool),(ok=false->dJ av=true)->VR w G.R av v->K (E.put d (NF ok av b))->view av=av->
  (∀(pos:String)(after:Array Edge)(g:Option (Nat×Bool)),(execOp a.eval ⟨d,.lookup t y j ok,ty,pos,after,g⟩).run P w=.ok (.value (if ok then .tuple #[v,.bool b]else v)) w)->pq P G n D w a (.lookup t y j ok) ty d K:=by
  intro av v b hi hvr hk hvw hr pos after g next Q hn
  refine aY (hr pos after g) (hn G _ _ _ ?_ (aI.refl G w) hk)
  cases ok with
  |true=>
   have:=h.acC hd b hvr
   rw[hvw]at this
   exact this
  |false=>
   have:=h.LF hd (hi rfl) hvr
   rw[hvw]at this
   exact this
 have pl:∀{av:AV}{b:Bool},DK ok (NF ok av b)=true->ok=false->dJ av=true:=by
  intro av b hp ho
  subst ho
  exact hp
 unfold kJ at hw'
 split at hw'
 ·rename_i b
  have e1:a.eval y=.map (some b):=VR.Nh hb
  unfold uS at hw'
  split at hw'<;>try(exact hw'.elim)
  rename_i es hes
  unfold Rz at hw'
  cases hp:DK ok (we z ok (gF kv es))with
  |false=>rw[hp]at hw';exact hw'.elim
  |true=>
  rw[hp]at hw'
  obtain⟨⟨hkk,hks⟩,hK⟩:=hw'
  have hvk:=hbk.key hkk
  have hkv:=tT hkk hvk
  obtain⟨_,_,jC,clock,hh,hsz,EJ⟩:=h.store b _ hes
  have eo:∀e∈jC.toList,KV kk e.key:=fun e he=>by
   obtain⟨i,hi⟩:=List.mem_iff_getElem?.1 he
   have hlt:i<es.length:=by rw[<-hsz];have:=(List.getElem?_eq_some_iff.1 hi).1;simpa using this
   have h1:=EJ i _ e (List.getElem?_eq_getElem hlt) A_
   exact tT (List.all_eq_true.1 hks _ (List.getElem_mem hlt)) h1.1
  obtain⟨f1,f2⟩:=zw hkk hvk es jC.toList A_ (fun j p y hp hy=>EJ j p y hp A_) hks
  have kj:=Go.MapKept.run_getObj_map (P:=P) hh
  have hck:=bS.check w jC.isEmpty _ hkv
  rcases bS.find w _ hkv jC.toList eo with⟨q1,q2⟩|⟨m,e,q1,q2,q3,q4⟩
  ·obtain⟨g1,_⟩:=f1 q2
   rw[g1]at hK hp
   refine fin (view z) zv false (pl hp) (hz2 w G.R).view hK (mD _) fun pos after g=>?_
   cases ok<;>simp[execOp,Instr.lookup,run_underlying ht,e1,kj,hck,q1,hz1]
  ·obtain⟨p,g1,g2,_⟩:=f2 m e q2 q3 q4
   rw[g2]at hK hp
   have hvr:=(EJ m p e g1 A_).2
   refine fin (view p.2) e.val true (pl hp) hvr.view hK (mD _) fun pos after g=>?_
   cases ok<;>simp[execOp,Instr.lookup,run_underlying ht,e1,kj,hck,q1]
 ·have e1:a.eval y=.map none:=VR.KS hb
  unfold Rz at hw'
  cases hp:DK ok (NF ok (view z) false)with
  |false=>rw[hp]at hw';exact hw'.elim
  |true=>
  rw[hp]at hw'
  obtain⟨hkk,hK⟩:=hw'
  have hkv:=tT hkk (hbk.key hkk)
  have hck:=bS.check w true _ hkv
  refine fin (view z) zv false (pl hp) (hz2 w G.R).view hK (mD _) fun pos after g=>?_
  ·rcases bS.find w _ hkv [] BY with⟨q1,_⟩|⟨m,e,_,q2,_⟩
   ·cases ok<;>simp[execOp,Instr.lookup,run_underlying ht,e1,hck,q1,hz1]
   ·simp at q2
 ·exact hw'.elim
def Inv.aap(h:Inv G n D E a w){b:Nat}{jC vS:Array MapEntry}{clock tz:Nat}(hb:w.heap[b]? =some (.map jC clock))(ho:G.O b=.sh)(hR:G.R b=0){es':List (AV×AV)}
 (EJ:vS.size=es'.length/\∀(j:Nat)(x:AV×AV)(y:MapEntry),es'[j]? =some x->vS[j]? =some y->ae0 G w x y):
 Inv G n D {E with s:=E.s.set b (.map es')} a {w with heap:=w.heap.setIfInBounds b (.map vS tz)}/\aI G w G {w with heap:=w.heap.setIfInBounds b (.map vS tz)}:=by
 obtain⟨hs1,hs2⟩:=heap_set (w:=w) hb
 have ep:∀c k,({w with heap:=w.heap.setIfInBounds b (.map vS tz)}:World).cell? ⟨c,k,none⟩=w.cell? ⟨c,k,none⟩:=by
  intro c k
  by_cases hc:c=b
  ·grind [World.cell?]
  ·grind [World.cell?_of_block]
 have hp:aI G w G {w with heap:=w.heap.setIfInBounds b (.map vS tz)}:=⟨rfl,rfl,rfl,Nat.le_refl _,A_,fun _ _=>Nat.le_refl _,fun c k _ _=>ep c k,fun c _ hc=>hs2 c (fun e=>A_),fun _ _ h=>⟨h,rfl⟩,fun _ _ h=>⟨h,rfl⟩⟩
 have hne:∀c,G.O c≠.sh->({w with heap:=w.heap.setIfInBounds b (.map vS tz)}:World).heap[c]? =w.heap[c]? :=fun c hc=>hs2 c fun e=>hc A_
 refine⟨⟨⟨fun c hc=>h.aZ.kc c A_,fun c hc=>h.aZ.kV c A_⟩,?_,h.size,fun i v hi=>?_,h.EB,h.Mj,h.qE⟩,hp⟩
 ·intro c o hc
  have hc':(if c=b then some (SO.map es')else E.s c)=some o:=hc
  by_cases hcb:c=b
  ·rw[if_pos hcb]at hc'
   injection hc' with hc'
   subst hcb;subst hc'
   exact⟨ho,hR,vS,tz,hs1,EJ.1,fun j x y hx hy=>⟨hp.vr h.aZ (EJ.2 j x y hx hy).1,hp.vr h.aZ (EJ.2 j x y hx hy).2⟩⟩
  ·rw[if_neg hcb]at hc'
   obtain⟨r1,r2,r3⟩:=h.store c o hc'
   refine⟨r1,r2,?_⟩
   cases o with
   |cells cs=>
    obtain⟨c0,t0,k1,k2,k3⟩:=r3
    exact⟨c0,t0,(hs2 c hcb).trans k1,k2.mono (fun _ _ hv=>hp.vr h.aZ hv) (fun c' j hc'=>⟨hc',rfl,hne c' A_⟩),k3⟩
   |map es=>
    obtain⟨e0,t0,k1,k2,k3⟩:=r3
    exact⟨e0,t0,(hs2 c hcb).trans k1,k2,fun j x y hx hy=>⟨hp.vr h.aZ (k3 j x y hx hy).1,hp.vr h.aZ (k3 j x y hx hy).2⟩⟩
 ·exact ee.frame (fun _ _ hv=>hp.vr h.aZ hv) (fun c hc=>⟨rfl,rfl,hne c A_⟩) (fun c c' j _ hc=>⟨hc,rfl,hne c' η⟩) _ _ (fun d _ cs hcs=>⟨cs,hcs,rfl⟩) (h.cG i v hi)
theorem EE(h:Inv G n D E a w){op:Op}{ty:TypeId}{kk:ny}{x k v:IX}{d:Option Nat}{K:St->Prop}(hd:bt n d=true)(hc:aw P op ty (.mapUpdate kk x k v)=true)(hw:jq P (.mapUpdate kk x k v) d E K):pq P G n D w a op ty d K:=by
 cases op<;>first|(simp[aw]at hc;done)|skip
 rename_i t y j u
 simp only[aw,Bool.and_eq_true]at hc
 obtain⟨⟨⟨hy,hj⟩,hu⟩,hc⟩:=hc
 split at hc<;>try(cases hc;done)
 rename_i kt et ht
 have bS:=GC hc
 have hb:=BR.aR h hy
 have hbk:=BR.aR h hj
 have hbv:=BR.aR h hu
 have hw':yF kk E (xg true E k) (xg true E v) d K (xg true E x):=hw
 generalize xg true E x=xv at hb hw'
 generalize xg true E k=kv at hbk hw'
 generalize xg true E v=vv at hbv hw'
 unfold yF at hw'
 split at hw'<;>try(exact hw'.elim)
 rename_i b
 unfold adw at hw'
 split at hw'<;>try(exact hw'.elim)
 rename_i es hes
 obtain⟨⟨hi,hkk,hks⟩,hK⟩:=hw'
 have e1:a.eval y=.map (some b):=VR.Nh hb
 have hvv:VR w G.R vv (a.eval u):=by cases vv<;>first|exact hbv|grind [dJ]
 have hvk:=hbk.key hkk
 have hkv:=tT hkk hvk
 obtain⟨ho,hR,jC,clock,hh,hsz,EJ⟩:=h.store b _ hes
 have eo:∀e∈jC.toList,KV kk e.key:=fun e he=>by
  obtain⟨i,hi⟩:=List.mem_iff_getElem?.1 he
  have hlt:i<es.length:=by rw[<-hsz];have:=(List.getElem?_eq_some_iff.1 hi).1;simpa using this
  have h1:=EJ i _ e (List.getElem?_eq_getElem hlt) A_
  exact tT (List.all_eq_true.1 hks _ (List.getElem_mem hlt)) h1.1
 have Tx:gI kk (view kv)=true/\view kv=kv:=by cases kv<;>cases kk<;>simp_all [gI,view]
 rw[Tx.2]at hK
 obtain⟨f1,f2⟩:=zw hkk hvk es jC.toList A_ (fun j p y hp hy=>EJ j p y hp A_) hks
 have kj:=Go.MapKept.run_getObj_map (P:=P) hh
 have hck:=bS.check w false _ hkv
 have qO:∀(τ:St)(w':World),Inv G n D τ a w'->Inv G n D (τ.put d (.jg [])) (a.put d undef) w':=by
  intro τ w' hτ
  have:=hτ.put (s':=τ.s) (lp':=τ.lp) d (fun i hi=>IN) (.jg []) undef hτ.aZ (aI.refl G w') hτ.store (fun _ hx=>hx) (fun i t _ ht=>ht.elim) (fun i t _⟨cs,hcs⟩=>Pc)
   (fun _ _ _ _=>⟨rfl,rfl,rfl⟩) (fun _ _ _ _ _ _ hcc=>⟨hcc,rfl,rfl⟩) (fun i hdi=>⟨#[],rfl,rfl,fun j x y hx=>T_⟩)
  cases d<;>exact this
 intro pos after gd next Q hn
 rcases bS.find w _ hkv jC.toList eo with⟨q1,q2⟩|⟨m,e,q1,q2,q3,q4⟩
 ·obtain⟨_,g2⟩:=f1 q2
  rw[g2]at hK
  obtain⟨h1,h2⟩:=h.aap (tz:=clock+1) (vS:=jC.push {key:=a.eval j,val:=a.eval u,born:=clock}) (es':=es++[(kv,view vv)]) hh ho hR ⟨by simp[hsz],fun i p z hp hz=>by
   rw[Array.getElem?_push]at hz
   by_cases hi':i=es.length
   ·subst hi'
    rw[if_pos hsz.symm]at hz
    simp at hp
    injection hz with hz
    subst hp;subst hz
    exact⟨hvk,hvv.view⟩
   grind⟩
  refine rH (w':=_) ?_ (hn G _ _ _ (qO _ _ h1) h2 hK)
  simp[execOp,Instr.mapUpdate,run_underlying ht,e1,kj,hck,q1,run_setObj_map _ hh]
 ·obtain⟨p,g1,_,g2⟩:=f2 m e q2 q3 q4
  rw[g2]at hK
  have alY:m<jC.size:=by have:=(List.getElem?_eq_some_iff.1 q2).1;simpa using this
  have hem:jC[m]? =some e:=by simpa using q2
  have eJ:=bS.stays w _ hkv
  obtain⟨h1,h2⟩:=h.aap (tz:=clock) (vS:=jC.modify m fun e=>{e with key:=a.eval j,val:=a.eval u}) (es':=es.set m (kv,view vv)) hh ho hR ⟨by simp[hsz],fun i p z hp hz=>by
   rw[Array.getElem?_modify]at hz
   by_cases hi':m=i
   ·subst hi'
    rw[if_pos rfl,hem]at hz
    simp at hz
    rw[List.getElem?_set_self AT]at hp
    injection hp with hp
    subst hp;subst hz
    exact⟨hvk,hvv.view⟩
   grind⟩
  refine rH (w':=_) ?_ (hn G _ _ _ (qO _ _ h1) h2 hK)
  simp[execOp,Instr.mapUpdate,run_underlying ht,e1,kj,hck,q1,hem,q3,eJ,run_setObj_map _ hh]
theorem MQ(h:Inv G n D E a w){op:Op}{ty:TypeId}{x:IX}{d:Option Nat}{K:St->Prop}(hd:bt n d=true)(hc:aw P op ty (.oE x)=true)(hw:jq P (.oE x) d E K):pq P G n D w a op ty d K:=by
 cases op<;>first|(simp[aw]at hc;done)|skip
 rename_i s t y
 cases x with
 |c _=>simp[aw]at hc
 |t i=>
 simp only[aw,Bool.and_eq_true,beq_iff_eq]at hc
 obtain⟨⟨hy,rfl⟩,hc⟩:=hc
 split at hc<;>try(cases hc;done)
 rename_i e ht
 split at hc<;>try(cases hc;done)
 rename_i he
 have hw':RG E d K (E5 (xg true E (.t i))):=hw
 have dE:∃m x0 cs cs',cs=.int .u8 x0::cs'/\xg true E (.t i)=.sl true 1 (m+1) cs/\K (E.put d (.sl false 1 (m+1) cs)):=by
  generalize xg true E (.t i)=xv at hw'
  unfold E5 at hw'
  split at hw'
  ·exact⟨_,_,_,_,rfl,rfl,hw'⟩
  ·exact hw'.elim
 obtain⟨m,x0,cs,cs',hcs,hx,hK⟩:=dE
 have hx':look E.e i=.sl true 1 (m+1) cs\/look E.e i=.when true (.sl true 1 (m+1) cs):=by
  have hx2:vi true (look E.e i)=.sl true 1 (m+1) cs:=hx
  generalize look E.e i=av at hx2
  cases av<;>first|exact .inl hx2|skip
  rename_i b a'
  have hx2:(bif(b==true||b)&&inner a' then a' else .undef)=.sl true 1 (m+1) cs:=hx2
  cases b with
  |false=>simp at hx2
  |true=>grind
 have hin:i<n:=h.Dq (fun e=>A_)
 have hey:a.tmps[i]? =some (a.eval y):=by
  have hyy:y=.tmp i:=by
   cases y<;>simp[bN]at hy
   rw[hy]
  subst hyy
  exact gy Xc3
 have hsl:VR w G.R (.sl true 1 (m+1) cs) (a.eval y)/\dS G w (.slot i 0) (.sl true 1 (m+1) cs) (a.eval y):=by
  have hs:=h.cG i _ hey
  rcases hx' with h'|h'<;>rw[h']at hs
  ·exact hs
  ·exact hs.1 rfl
 obtain⟨hvr,wU⟩:=hsl
 rcases VR.gq hvr with⟨_,hm0,_⟩|⟨b0,acq,afi,e1,hl,hR,fI,hat⟩
 ·omega
 obtain⟨b,off,c,et,fz,q1,q2,q3,q4,q5,q6⟩:=wU _ _ _ e1 (.inr AT)
 injection q1 with q1;injection q1 with q1 q1' _
 subst q1;subst q1'
 let fz':Nat×Nat:=if fz.1==fz.2 then(c.size,c.size+1)else(min fz.1 c.size,max fz.2 (c.size+1))
 let w':World:=w.freeze ⟨b0,c.size,none⟩ 1
 have hlt:b0<w.heap.size:=(Array.getElem?_eq_some_iff.1 q4).1
 have hb0:w'.heap[b0]? =some (.cells c et fz'):=by
  show(w.freeze ⟨b0,c.size,none⟩ 1).heap[b0]? =_
  unfold World.freeze
  simp only[Nat.succ_ne_self,if_false,Array.getElem?_modify,if_true,q4,Option.map_some]
  rfl
 have KM:∀k,k≠b0->w'.heap[k]? =w.heap[k]? :=by
  intro k hk
  show(w.freeze ⟨b0,c.size,none⟩ 1).heap[k]? =_
  unfold World.freeze
  simp only[Nat.succ_ne_self,if_false,Array.getElem?_modify]
  rw[if_neg (Ne.symm hk)]
 have hsz:w'.heap.size=w.heap.size:=by
  show(w.freeze ⟨b0,c.size,none⟩ 1).heap.size=_
  unfold World.freeze
  simp
 have ep:∀b k,w'.cell? ⟨b,k,none⟩=w.cell? ⟨b,k,none⟩:=by
  intro k j
  by_cases hk:k=b0
  ·grind [World.cell?]
  ·grind [World.cell?_of_block]
 have hfz:∀k,k<c.size->¬(fz'.1<=k/\k<fz'.2):=by
  intro k hk
  show¬((if fz.1==fz.2 then(c.size,c.size+1)else(min fz.1 c.size,max fz.2 (c.size+1)):Nat×Nat).1<=k/\k<(if fz.1==fz.2 then(c.size,c.size+1)else(min fz.1 c.size,max fz.2 (c.size+1)):Nat×Nat).2)
  by_cases hf:fz.1=fz.2
  ·grind
  ·have:(fz.1==fz.2)=false:=by simpa using hf
   rw[this]
   simp only[Bool.false_eq_true,if_false]
   intro hh
   have q7:=q6.2
   by_cases hc2:fz.1<c.size
   ·grind
   ·omega
 have ajC:fz'.1<=fz'.2:=by
  show(if fz.1==fz.2 then(c.size,c.size+1)else(min fz.1 c.size,max fz.2 (c.size+1)):Nat×Nat).1<=(if fz.1==fz.2 then(c.size,c.size+1)else(min fz.1 c.size,max fz.2 (c.size+1)):Nat×Nat).2
  split
  ·grind
  ·grind
 have hp:aI G w G w':=⟨rfl,rfl,rfl,Nat.le_refl _,A_,fun _ _=>Nat.le_refl _,fun b k _ _=>ep b k,fun b _ hb=>KM b (fun e=>A_),fun _ _ h=>⟨h,rfl⟩,fun _ _ h=>⟨h,rfl⟩⟩
 have hne:∀k,G.O k≠.slot i 0->w'.heap[k]? =w.heap[k]? :=fun k hk=>KM k fun e=>hk A_
 have hI:Inv G n D E a w':=by
  refine⟨⟨fun c hc=>h.aZ.kc c A_,fun c hc=>h.aZ.kV c A_⟩,?_,h.size,fun k v hk=>?_,h.EB,h.Mj,h.qE⟩
  ·exact h.store.mono h.aZ hp (fun b hb=>⟨hb,rfl,hne b X_⟩) (fun b c j _ hc=>⟨hc,rfl,hne c η⟩)
  ·by_cases hki:k=i
   ·subst hki
    have hv:v=a.eval y:=by rw[hey]at hk;exact(Option.some.inj hk).symm
    subst hv
    have hO:dS G w' (.slot k 0) (.sl true 1 (m+1) cs) (a.eval y):=by
     intro base m' cP hv hc
     rw[e1]at hv
     injection hv with v1 v2 v3
     exact⟨b0,acq,c,et,fz',v1.symm,q2,q3,hb0,by rw[q5,v3],hfz,ajC,q6.2.2.1,.inr ⟨Nat.succ_pos _,x0,by
      obtain⟨u,u1,u2,_⟩:=hat
      have k1:=u1 0 (.int .u8 x0) (by rw[hcs];rfl)
      have k2:=VR.cu (u2 0 (.int .u8 x0) (by rw[hcs];rfl))
      grind [cell_of_row]⟩,q6.2.2.2.2⟩
    have hV:ee G w' E.e a.tmps k (.sl true 1 (m+1) cs) (a.eval y):=⟨hp.vr h.aZ hvr,hO⟩
    rcases hx' with h'|h'<;>rw[h']
    ·exact hV
    ·exact⟨fun _=>hV,fun h=>F_⟩
   ·exact ee.frame (fun _ _ hv=>hp.vr h.aZ hv) (fun c hc=>⟨rfl,rfl,hne c A_⟩) (fun c c' j _ hc=>⟨hc,rfl,hne c' η⟩) _ _ (fun d _ cs hcs=>⟨cs,hcs,rfl⟩) (h.cG k v hk)
 have oL:Inv G n D (E.put d (.sl false 1 (m+1) cs)) (a.put d (a.eval y)) w':=hI.LF hd (av:=.sl true 1 (m+1) cs) rfl (hp.vr h.aZ hvr)
 intro pos after gd next Q hn
 refine aY (v:=a.eval y) (w':=w') ?_ (hn G _ _ _ oL hp hK)
 have abz:w.shape? b0=some (et,c.size):=by
  unfold World.shape?
  rw[q4]
 have afJ:(convert s s (.slice (some ⟨b0,acq,none⟩) (m+1) afi)).run P w=.ok (.slice (some ⟨b0,acq,none⟩) (m+1) afi) w':=by
  simp[convert,run_underlying ht,run_underlying he,markStringish,abz]
  rfl
 simp[execOp,e1,afJ]
theorem Sy(h:Inv G n D E a w){op:Op}{ty:TypeId}{x:IX}{d:Option Nat}{K:St->Prop}(hd:bt n d=true)(hc:aw P op ty (.vI x)=true)(hw:jq P (.vI x) d E K):pq P G n D w a op ty d K:=by
 have hw':RG E d K (Ed (xg true E x)):=hw
 have key:∀y,bN y x=true->∃vs,K (E.put d (.jg (views vs)))/\Inv G n D (E.put d (.jg (views vs))) (a.put d (a.eval y)) w:=by
  intro y hy
  have hb:=BR.aR h hy
  generalize xg true E x=xv at hb hw'
  unfold Ed at hw'
  split at hw'<;>try(exact hw'.elim)
  rename_i vs
  refine⟨vs,hw',?_⟩
  obtain⟨ys,e,hl,hr⟩:=VR.O8 (hb)
  have:=h.put (s':=E.s) d (fun i hi=>IN) (.jg (views vs)) (a.eval y) h.aZ (aI.refl G w) h.store (fun _ hx=>hx) (fun i t _ ht=>ht.elim) (fun i t _⟨cs,hcs⟩=>Pc)
   (fun _ _ _ _=>⟨rfl,rfl,rfl⟩) (fun _ _ _ _ _ _ hcc=>⟨hcc,rfl,rfl⟩) (fun i hdi=>⟨ys,e,by grind [views],fun j x y hx hy=>by
     rw[fh]at hx
     cases hj:vs[j]? with
     |none=>grind
     |some c=>
      rw[hj]at hx
      simp at hx
      subst hx
      exact⟨(hr j c y hj hy).view,dS.view ..⟩⟩)
  cases d<;>exact this
 intro pos after g next Q hn
 cases op<;>first|(simp[aw]at hc;done)|skip
 ·rename_i y
  obtain⟨vs,h1,h2⟩:=key y hc
  exact aY rfl (hn G _ _ _ h2 (aI.refl G w) h1)
 ·rename_i y
  obtain⟨vs,h1,h2⟩:=key y hc
  exact aY rfl (hn G _ _ _ h2 (aI.refl G w) h1)
end
end Go.AB
end
