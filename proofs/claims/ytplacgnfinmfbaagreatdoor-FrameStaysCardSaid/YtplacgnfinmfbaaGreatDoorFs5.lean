/- A part. -/
import Derived.Test.YtplacgnfinmfbaaGreatDoorFs4
import Derived.MapKept
import Derived.ChangeKeysEq
set_option linter.unusedSimpArgs false
set_option linter.unusedVariables false
section
namespace Go.AB
open Go
section
variable{P:Program}{G G':Gh}{n:Nat}{D:List Deferred}{E:St}{a:Act}{w w':World}
structure Src(P:Program)(w:World)(R:Nat->Nat)(sz m:Nat)(ds:List AV)(v:Value)(news:List Value):Prop where
 len:news.length=m*sz
 qm:ds.length=m*sz
 lenOf:∀w',(Builtin.lenOf v).run P w'=.ok m w'
 first:∀w',w'.heap=w.heap->(Builtin.firstCells sz m v).run P w'=.ok news.toArray w'
 one:∀u∈news,u.oneCell'=true
 k9:∀(j:Nat)(c:AV)(u:Value),ds[j]? =some c->news[j]? =some u->VR w R c u
 fl:Fl ds
theorem FY{w w':World}(h:w'.heap=w.heap)(a:Addr):w'.cell? a=w.cell? a:=by grind [World.cell?]
theorem Src.X8{R:Nat->Nat}{o:Bool}{s sz m:Nat}{ds:List AV}{v:Value}(h:VR w R (.sl o s m ds) v)(hs:s=sz\/m=0):∃news,Src P w R sz m (views ds) v news:=by
 rcases VR.ik h with⟨(rfl|⟨_,ad,cap,rfl⟩),rfl,rfl⟩|⟨b,off,cap,rfl,hl,_,_,hat⟩
 ·exact⟨[],by simp,by simp[views],fun _=>rfl,fun w' _=>by simp[Builtin.firstCells],by simp,fun j c u hc=>by grind,Fl.nil⟩
 ·exact⟨[],by simp,by simp[views],fun _=>rfl,fun w' _=>by simp[Builtin.firstCells,loadCells,loadCellsFrom],by simp,fun j c u hc=>by grind,Fl.nil⟩
 ·have hlen:(views ds).length=m*sz:=by
   rcases hs with rfl|rfl
   ·simp[views,hl]
   ·grind [views,List.length_map]
  have Rl:=hat.views
  obtain⟨us,h1,h2,h3⟩:=Rl.k9
  have hfl:Fl (views ds):=by obtain⟨_,_,_,hf⟩:=Rl;exact hf
  refine⟨us,by rw[h1,hlen],hlen,fun _=>rfl,fun w' hw'=>?_,fun u hu=>?_,h3,hfl⟩
  ·grind [run_firstCells_some,FY]
  ·obtain⟨j,hj⟩:=List.mem_iff_getElem?.1 hu
   have hlt:j<(views ds).length:=by rw[<-h1];exact(List.getElem?_eq_some_iff.1 hj).1
   have hx:=List.getElem?_eq_getElem hlt
   exact iB (hfl _ (List.getElem_mem hlt)) (h3 j _ u hx hj)
theorem Src.Ix{R:Nat->Nat}{l:List UInt8}:Src P w R 1 l.length (l.map fun c=>.int .u8 c.toNat) (.string ⟨l.toArray⟩) (l.map fun c=>.int .u8 c.toNat)where
 len:=by simp
 qm:=by simp
 lenOf:=fun w'=>by simp[Builtin.lenOf,ByteArray.size]
 first:=fun w' _=>by
  have:(ByteArray.mk l.toArray).extract 0 l.length=⟨l.toArray⟩:=by
   apply ByteArray.ext
   rw[ByteArray.data_extract]
   simp
  simp[Builtin.firstCells,this]
 one:=fun u hu=>by
  simp only[List.mem_map]at hu
  obtain⟨x,_,rfl⟩:=hu
  rfl
 k9:=fun j c u hc hu=>by
  rw[List.getElem?_map]at hc hu
  cases hj:l[j]? with
  |none=>grind
  |some x=>rw[hj]at hc hu;simp at hc hu;rw[<-hc,<-hu];exact .int _ _
 fl:=Cf l
section runs
variable{t t' ty e:TypeId}{i:TypeInfo}{z:Value}{sz m:Nat}{ds:List AV}{v:Value}{news:List Value}
theorem ir(ht:P.underlying t=some (.slice e))(ht':(∃e',P.underlying t'=some (.slice e'))\/P.underlying t'=some .string)(hi:P.info? e=some i)(hsz:i.size=sz){R:Nat->Nat}(hs:Src P w R sz m ds v news){b off k cap:Nat}
 (cf:k+m<=cap){w':World}(eM:(storeCells ⟨b,off+k*sz,none⟩ news).run P w=.ok () w'):
 (Builtin.append_ #[t,t'] ty #[.slice (some ⟨b,off,none⟩) k cap,v]).run P w=.ok (.slice (some ⟨b,off,none⟩) (k+m) cap) w':=by
 subst hsz
 have h1:=hs.lenOf w
 have h2:=hs.first w rfl
 rcases ht' with⟨e',ht'⟩|ht'<;>
  simp[Builtin.append_,run_underlying ht,run_underlying ht',sizeOf,typeInfo,hi,h1,cf,h2,add_eq,eM]
theorem nn(ht:P.underlying t=some (.slice e))(ht':(∃e',P.underlying t'=some (.slice e'))\/P.underlying t'=some .string)(hi:P.info? e=some i)(hsz:i.size=sz){R:Nat->Nat}(hs:Src P w R sz 0 ds v news):
 (Builtin.append_ #[t,t'] ty #[.slice none 0 0,v]).run P w=.ok (.slice none 0 0) w:=by
 subst hsz
 have h1:=hs.lenOf w
 have h2:=hs.first w rfl
 rcases ht' with⟨e',ht'⟩|ht'<;>
  simp[Builtin.append_,run_underlying ht,run_underlying ht',sizeOf,typeInfo,hi,h1,h2]
theorem rF(ht:P.underlying t=some (.slice e))(ht':(∃e',P.underlying t'=some (.slice e'))\/P.underlying t'=some .string)(hi:P.info? e=some i)(hz:i.zero=some z)(hsz:i.size=sz){R:Nat->Nat}(hs:Src P w R sz m ds v news){base:Option Addr}{k cap:Nat}{olds:List Value}
 (hold:(Builtin.firstCells sz k (.slice base k cap)).run P w.drew=.ok olds.toArray w.drew)(cf:cap<k+m)(CW:(k+m)*i.bytes<=room)(hb0:0<i.bytes):
 (Builtin.append_ #[t,t'] ty #[.slice base k cap,v]).run P w=.ok (.slice (some ⟨w.heap.size,0,none⟩) (k+m) (grownCap w (k+m) cap e))
   (w.drew.alloc (.cells (olds.toArray++news.toArray++Builtin.zeroCells z.cells (grownCap w (k+m) cap e -(k+m))) e)):=by
 subst hsz
 have h1:=hs.lenOf w
 have h2:=hs.first w.drew rfl
 have h3:¬(k+m<=cap):=by omega
 have h4:¬(281474976710656<Builtin.nextslicecap (k+m) cap*i.bytes):=by have:=growslice_fits cf CW;omega
 have h5:k+m<=(k+m)*i.bytes:=Nat.le_mul_of_pos_right _ hb0
 have h6:¬((9223372036854775807:Int)<(k:Int)+m):=by unfold room at CW;omega
 rcases ht' with⟨e',ht'⟩|ht'<;>
  simp[Builtin.append_,run_underlying ht,run_underlying ht',sizeOf,typeInfo,zeroValue,hi,hz,h1,h3,h4,h6,Question.forced,hold,h2,newRow,grownCap]<;>
  (grind)
end runs
theorem Inv.grown(h:Inv G n D E a w){d:Option Nat}(hd:bC n d=true){b off sz k m cap:Nat}{c:Array Value}{t:TypeId}{fz:Nat×Nat}{cs ds:List AV}{v:Value}{news:List Value}{R:Nat->Nat}
 (hb:w.heap[b]? =some (.cells c t fz))(hfz:(∀j,j<c.size->¬(fz.1<=j/\j<fz.2))/\fz.1<=fz.2)(hof:off=0)(hz0:fz=(0,0)\/(0<k/\0<sz/\∃x,c[0]? =some (.int .u8 x)))(hsp:∀(i:Nat)(y:Value),off+k*sz<=i->c[i]? =some y->y.oneCell'=true)(ho:∀i,d=some i->G.O b=.slot i 0)(hon:G.O b≠.none/\G.O b≠.frame/\G.O b≠.sh/\(∀i,G.O b≠.loc i)/\(∀i j,G.O b≠.cell i j)/\(∀i j,G.O b=.slot i j->d=some i/\j=0))
 (hR:G.R b=off+k*sz)(hsz:c.size=off+cap*sz)(fL:k+m<=cap)(hlc:cs.length=k*sz)(hat:At w G.R b off cs)(hs:Src P w R sz m ds v news)(hRR:R=G.R):
 ∃G',Inv G' n D (E.put d (.sl true sz (k+m) (cs++ds))) (a.put d (.slice (some ⟨b,off,none⟩) (k+m) cap)) (w.setRow b (laid c (off+k*sz) news))/\aK G w G' (w.setRow b (laid c (off+k*sz) news)):=by
 subst hRR
 have dt:off+k*sz+news.length<=c.size:=by
  rw[hs.len,hsz,Nat.add_assoc,<-Nat.add_mul]
  exact Nat.add_le_add_left (Nat.mul_le_mul_right _ fL) _
 let G':=G.xU b (G.O b) (off+(k+m)*sz)
 have hmul:(k+m)*sz=k*sz+m*sz:=Nat.add_mul ..
 have cz:aK G w G' (w.setRow b (laid c (off+k*sz) news)):=aK.write hb ⟨hon.2.1,hon.1⟩
  (fun j hj=>by rw[hR]at hj;rw[kM _ _ _ dt,if_neg (by omega)]) (by simp only[G',Gh.YG,if_true,hR,hmul];omega) (fun b' hb'=>by simp[G',hb'])
 have jt:cE G' (w.setRow b (laid c (off+k*sz) news)):=by
  have hlt:b<w.heap.size:=h.bj.lt hon.1
  refine⟨fun b' hb'=>?_,fun b' hb'=>?_⟩
  ·have vH:w.heap.size<=b':=by simpa[World.setRow]using hb'
   have:b'≠b:=by omega
   simp[G',this,h.bj.k7 b' vH]
  ·have vH:w.heap.size<=b':=by simpa[World.setRow]using hb'
   have:b'≠b:=by omega
   simp[G',this,h.bj.mn b' vH]
 have same:∀b',b'≠b->G'.O b'=G.O b'/\G'.R b'=G.R b'/\(w.setRow b (laid c (off+k*sz) news)).heap[b']? =w.heap[b']? :=fun b' hb'=>⟨by simp[G',hb'],by simp[G',hb'],setRow_other w b b' _ hb'⟩
 have eM:=h.store.mono h.bj cz (fun b' hb'=>by
  grind) (fun b' c' j _ hc'=>by
  grind)
 have:=h.put (s':=E.s) (lp':=E.lp) d (fun i hi=>by grind [bC]) (.sl true sz (k+m) (cs++ds)) (.slice (some ⟨b,off,none⟩) (k+m) cap) jt cz eM (fun _ hx=>hx) (fun i t _ ht=>ht.elim) (fun i t _⟨cs',zO⟩=>by cases zO)
  (fun i b' hdi hb'=>same b' (fun e=>by grind))
  (fun i b' c' j hdi hb' hc'=>by grind)
  (fun i hi=>by
    obtain⟨u,u1,u2,u3⟩:=hat
    subst hi
    refine⟨?_,?_⟩
    ·have hll:(cs++ds).length=(k+m)*sz:=by rw[List.length_append,hlc,hs.qm,hmul]
     refine .sl true sz (k+m) (cs++ds) b off cap (fun j=>if j<k*sz then u j else news.getD (j -k*sz) undef) (fun x hx=>?_) hll (by rw[hll];simp[G']) fL (fun j x hj=>?_) (fun j x hj=>?_)
     ·rcases List.mem_append.1 hx with hx|hx
      ·exact u3 x hx
      ·exact hs.fl x hx
     ·rw[uq hb,if_pos rfl,kM _ _ _ dt]
      have hjl:j<(k+m)*sz:=by rw[<-hll];exact(List.getElem?_eq_some_iff.1 hj).1
      by_cases hjk:j<k*sz
      ·rw[if_neg (by omega),if_pos hjk]
       grind [List.getElem?_append_left,cell_of_row]
      ·have h1:=hs.len
       grind
     ·by_cases hjk:j<k*sz
      ·rw[if_pos hjk]
       rw[List.getElem?_append_left (by grind)]at hj
       exact cz.vr h.bj (u2 j x hj)
      ·rw[if_neg hjk]
       rw[List.getElem?_append_right (by grind),hlc]at hj
       have h1:=hs.len
       have h2:=hs.qm
       have hlt:j -k*sz<news.length:=by have:=(List.getElem?_eq_some_iff.1 hj).1;omega
       have hn:news[j -k*sz]? =some (news.getD (j -k*sz) undef):=by simp[List.getD_eq_getElem?_getD,hlt]
       exact cz.vr h.bj (hs.k9 _ x _ hj hn)
    ·intro base m' c6 hv hc
     injection hv with e1 e2 e3
     subst e3
     exact⟨b,off,_,t,fz,e1.symm,by simp only[G',Gh.TQ,if_true];grind,by simp[G'],setRow_heap w b c _ t fz hb,by grind [qk],by rw[qk _ _ _ dt];exact⟨hfz.1,hfz.2,hof,hz0.imp id fun⟨z1,z2,x,z3⟩=>⟨by omega,x,by
      have zp:0<k*sz:=Nat.mul_pos z1 z2
      rw[kM _ _ _ dt,if_neg (by omega)];exact z3⟩,fun i y hi hy=>by
      rw[kM _ _ _ dt]at hy
      split at hy
      ·exact hs.one _ (List.mem_of_getElem? hy)
      grind⟩⟩)
 exact⟨G',by cases d<;>exact this,cz⟩
def Bw:Option Nat->cZ
 |some i=>.slot i 0
 |none=>.res 0
theorem EA{e:TypeId}{sz:Nat}(h:zD P e sz=true):∃i z,P.info? e=some i/\i.zero=some z/\z.cells.size=sz/\∀y∈z.cells.toList,y.oneCell'=true:=by
 unfold zD at h
 grind
theorem wR{zs:Array Value}(h:∀y∈zs.toList,y.oneCell'=true)(q:Nat):∀y∈(Builtin.zeroCells zs q).toList,y.oneCell'=true:=by
 intro y hy
 rw[show Builtin.zeroCells zs q=((List.replicate q zs.toList).flatten).toArray from uL zs q]at hy
 simp only[List.mem_flatten,List.mem_replicate]at hy
 grind
theorem L1(h:Inv G n D E a w){op:Op}{ty:TypeId}{sz by':Nat}{x y:IX}{d:Option Nat}{K:St->Prop}(hd:bC n d=true)(hc:aA P op ty (.append sz by' x y)=true)(hw:jl P (.append sz by' x y) d E K):qI P G n D w a op ty d K:=by
 cases op<;>first|(simp[aA]at hc;done)|skip
 rename_i c
 simp only[aA]at hc
 split at hc<;>try(cases hc;done)
 rename_i u v t t' hb
 have hce:=qR hb
 subst hce
 simp only[Bool.and_eq_true]at hc
 obtain⟨⟨hu,hv⟩,hc⟩:=hc
 split at hc<;>try(cases hc;done)
 rename_i e ht
 have ht:=c3 ht
 simp only[Bool.and_eq_true]at hc
 obtain⟨⟨⟨⟨⟨hs,hby⟩,jg⟩,yC⟩,hzl⟩,ht'⟩:=hc
 obtain⟨i,z,hi,hz,hzs,hz1⟩:=EA hzl
 obtain⟨i',hi',pT⟩:=j8 hs
 rw[hi]at hi';injection hi' with hi';subst hi'
 have jg:=of_decide_eq_true jg
 have yC:=of_decide_eq_true yC
 have hby:i.bytes=by':=by
  unfold kt at hby
  rw[hi]at hby
  simpa using hby
 have ht2:(∃e',P.underlying t'=some (.slice e'))\/P.underlying t'=some .string:=by
  rcases Bool.or_eq_true .. ▸ht' with h|h
  ·grind [cI,c3]
  ·grind [zz]
 have hw':kq sz by' E x d K (E.x x) (E.x y):=hw
 have key:∃k m cs ds news,E.x x=.sl true sz k cs/\Src P w G.R sz m ds (a.eval v) news/\(k+m)*by'<=room/\K ((E.drain x).put d (.sl true sz (k+m) (cs++ds))):=by
  have hbx:=XR.aV h hu
  have hby:=XR.aV h hv
  generalize hx:E.x x=xv at hw' hbx
  generalize hy:E.x y=yv at hw' hby
  unfold kq at hw'
  split at hw'<;>try(exact hw'.elim)
  ·rename_i s k cs o s' m ds
   obtain⟨rfl,h2,h3,h4⟩:=hw'
   obtain⟨news,ff⟩:=Src.X8 (P:=P) hby h2
   grind
  ·rename_i s k cs ds
   obtain⟨rfl,h2,h3,h4⟩:=hw'
   subst h2
   have e1:=VR.iJ hby
   exact⟨k,ds.length,cs,_,_,rfl,by rw[e1];exact Src.Ix,h3,h4⟩
 obtain⟨k,m,cs,ds,news,hx,ff,cf,hk⟩:=key
 have hiv:dp (E.x x)=true:=by rw[hx];rfl
 obtain⟨G1,h1,hp1,hv1,wo,hR1,hsh,Pl,fB⟩:=h.drain hu hiv (Bw d) (by cases d<;>simp[Bw]) (by cases d<;>simp[Bw])
 rw[hx]at hv1 wo
 have pV:Src P w G1.R sz m ds (a.eval v) news:=by rw[hR1];exact ff
 have grow:∀(base:Option Addr)(cap:Nat)(olds:List Value),a.eval u=.slice base k cap->cap<k+m->olds.length=k*sz->cs.length=k*sz->Fl cs->
  (Builtin.firstCells sz k (.slice base k cap)).run P w.drew=.ok olds.toArray w.drew->(∀(j:Nat)(c:AV)(u:Value),cs[j]? =some c->olds[j]? =some u->VR w G1.R c u)->
  qI P G n D w a (.call {callee:=.builtin .append,args:= #[u,v],argTypes:= #[t,t']}) ty d K:=by
  intro base cap olds e1 CX hol hcl hcf hold sW
  have cH:=rF (ty:=ty) ht ht2 hi hz pT pV hold CX (by grind) (by grind)
  have hge:k+m<=grownCap w (k+m) cap e:=grownCap_ge w (k+m) cap e
  obtain⟨G2,h3,h4⟩:=(h1.drew).Sh (t:=e) (c:=olds.toArray++news.toArray++Builtin.zeroCells z.cells (grownCap w (k+m) cap e -(k+m))) (m:=k+m) (cs:=cs++ds) (cap:=grownCap w (k+m) cap e) (sz:=sz) (ob:=match d with|some i=>.slot i 0|none=>.none) hd
   (fun i hi=>by subst hi;rfl) (fun hn=>by subst hn;rfl) (by rw[List.length_append,hcl,ff.qm,Nat.add_mul]) hge (by
     simp only[Array.size_append,List.size_toArray,size_zeroCells,hol,ff.len,hzs,<-Nat.add_mul]
     grind) (fun c hc=>by
     rcases List.mem_append.1 hc with hc|hc
     ·exact hcf c hc
     ·exact ff.fl c hc)
   (fun j x hj=>by
     have hl1:=ff.len
     have hl2:=ff.qm
     by_cases hjk:j<k*sz
     ·rw[List.getElem?_append_left (by grind)]at hj
      have hlt:j<olds.length:=by rw[hol];exact hjk
      refine⟨olds[j],?_,?_⟩
      ·grind
      ·exact(aK.drew G1 w).vr h1.bj (sW j x _ hj (List.getElem?_eq_getElem hlt))
     ·rw[List.getElem?_append_right (by grind),hcl]at hj
      have hlt:j -k*sz<news.length:=by have:=(List.getElem?_eq_some_iff.1 hj).1;omega
      refine⟨news[j -k*sz],?_,?_⟩
      ·grind
      ·exact(aK.drew G1 w).vr h1.bj (pV.k9 _ x _ hj (List.getElem?_eq_getElem hlt))) (0,0) ⟨fun k _ hk=>by simp at hk,Nat.le_refl _⟩ (own:=true) (fun _=>.inl rfl) (fun i y hi hy=>by
     rw[Array.append_assoc,<-Array.append_assoc,Array.getElem?_append_right (by simp only[Array.size_append,List.size_toArray,hol,ff.len,<-Nat.add_mul];exact hi)]at hy
     grind [wR,List.mem_of_getElem?])
  intro pos after gd next Q hn
  refine aZ ?_ (hn G2 _ _ _ h3 (hp1.trans ((aK.drew G1 w).trans h4)) hk)
  simp[execOp,resolve,invoke,builtin,e1,cH]
 rcases VR.ik hv1 with⟨e0,rfl,rfl⟩|⟨b,off,cap,e1,hcl,hRb,fL,hat⟩
 ·
  have e1:=e0.own
  by_cases hm:m=0
  ·subst hm
   have hds:ds=[]:=List.eq_nil_of_length_eq_zero (by simpa using ff.qm)
   subst hds
   have cH:=nn (ty:=ty) ht ht2 hi pT pV
   have yI:Inv G1 n D ((E.drain x).put d (.sl true sz 0 [])) (a.put d (.slice none 0 0)) w:=by
    have:=h1.put (s':=(E.drain x).s) (lp':=(E.drain x).lp) d (fun i hi=>by grind [bC]) (.sl true sz 0 []) (.slice none 0 0) h1.bj (aK.refl G1 w) h1.store (fun _ hx=>hx) (fun i t _ ht=>ht.elim) (fun i t _⟨cs,hcs⟩=>by cases hcs)
     (fun _ _ _ _=>⟨rfl,rfl,rfl⟩) (fun _ _ _ _ _ _ hcc=>⟨hcc,rfl,rfl⟩) (fun i hdi=>⟨.slnil _ _,fun base m' c6 hv hc=>by grind⟩)
    cases d<;>exact this
   intro pos after gd next Q hn
   refine aZ (w':=w) ?_ (hn G1 _ _ _ yI hp1 hk)
   simp[execOp,resolve,invoke,builtin,e1,cH]
  ·exact grow none 0 [] e1 (by omega) (by simp) (by simp) Fl.nil (by simp[Builtin.firstCells]) (fun j c u hc=>by simp at hc)
 ·by_cases dt:k+m<=cap
  ·by_cases hm:m=0
   ·subst hm
    have hds:ds=[]:=List.eq_nil_of_length_eq_zero (by simpa using ff.qm)
    have wm:news=[]:=List.eq_nil_of_length_eq_zero (by simpa using ff.len)
    subst hds;subst wm
    have cH:=ir (ty:=ty) (w:=w) ht ht2 hi pT pV (b:=b) (off:=off) (k:=k) (cap:=cap) dt (w':=w) rfl
    simp only[List.append_nil,Nat.add_zero]at hk cH
    have yI:Inv G1 n D ((E.drain x).put d (.sl true sz k cs)) (a.put d (a.eval u)) w:=by
     have:=h1.put (s':=(E.drain x).s) (lp':=(E.drain x).lp) d (fun i hi=>by grind [bC]) (.sl true sz k cs) (a.eval u) h1.bj (aK.refl G1 w) h1.store (fun _ hx=>hx) (fun i t _ ht=>ht.elim) (fun i t _⟨cs,hcs⟩=>by cases hcs)
      (fun _ _ _ _=>⟨rfl,rfl,rfl⟩) (fun _ _ _ _ _ _ hcc=>⟨hcc,rfl,rfl⟩) (fun i hdi=>by subst hdi;exact⟨hv1,wo⟩)
     cases d<;>exact this
    intro pos after gd next Q hn
    refine aZ (w':=w) ?_ (hn G1 _ _ _ yI hp1 hk)
    simp[execOp,resolve,invoke,builtin,e1,cH]
   ·obtain⟨b',aay,c,et,fz,q1,q2,q3,q4,q5,q6⟩:=wo _ _ _ e1 (by omega)
    injection q1 with q1;injection q1 with q1 q1'
    subst q1;subst q1'
    have hon:G1.O b≠.none/\G1.O b≠.frame/\G1.O b≠.sh/\(∀i,G1.O b≠.loc i)/\(∀i j,G1.O b≠.cell i j)/\(∀i j,G1.O b=.slot i j->d=some i/\j=0):=by
     rw[q2]
     cases d with
     |none=>simp[Bw]
     |some i=>grind [Bw]
    obtain⟨G2,h3,h4⟩:=h1.grown (k:=k) (m:=m) hd q4 ⟨q6.1,q6.2.1⟩ q6.2.2.1 (q6.2.2.2.1.imp id fun⟨z1,z2⟩=>⟨z1,jg,z2⟩) q6.2.2.2.2 (fun i hi=>by subst hi;exact q2) hon q3 q5 dt hcl hat pV rfl
    have Rq:off+k*sz+news.length<=c.size:=by
     rw[ff.len,q5,Nat.add_assoc,<-Nat.add_mul]
     exact Nat.add_le_add_left (Nat.mul_le_mul_right _ dt) _
    have eM:=eo (P:=P) b (off+k*sz) et fz news 0 c w q4 q6.1 (by grind) ff.one
    have cH:=ir (ty:=ty) (w:=w) ht ht2 hi pT pV (b:=b) (off:=off) (k:=k) (cap:=cap) dt (w':=w.setRow b (laid c (off+k*sz) news)) (by grind [laid])
    intro pos after gd next Q hn
    refine aZ ?_ (hn G2 _ _ _ h3 (hp1.trans h4) hk)
    simp[execOp,resolve,invoke,builtin,e1,cH]
  ·have hfl:Fl cs:=by obtain⟨_,_,_,hf⟩:=hat;exact hf
   obtain⟨us,u1,u2,u3⟩:=hat.k9
   exact grow _ cap us e1 (by omega) (by rw[u1,hcl]) hcl hfl (run_firstCells_some w.drew sz k ⟨b,off,none⟩ k cap us (by rw[u1,hcl]) u2) u3
end
section
variable{P:Program}{G G':Gh}{n:Nat}{D:List Deferred}{E:St}{a:Act}{w w':World}
def Gh.outer(G:Gh):Gh:=⟨G.R,fun b=>match G.O b with
 |.none=>.none
 |.sh=>.sh
 |.cell b' j=>if G.O b'=.sh then .cell b' j else .frame
 |_=>.frame⟩
theorem oc{b:Nat}:G.outer.O b=.none↔G.O b=.none:=by grind [Gh.outer]
theorem mo{b:Nat}:G.outer.O b=.sh↔G.O b=.sh:=by grind [Gh.outer]
theorem DJ{b b' j:Nat}:G.outer.O b=.cell b' j↔(G.O b=.cell b' j/\G.O b'=.sh):=by
 simp only[Gh.outer]
 grind
theorem jZ{b:Nat}(h1:G.O b≠.none)(h2:G.O b≠.sh)(h3:∀b' j,G.O b=.cell b' j->G.O b'≠.sh):G.outer.O b=.frame:=by
 simp only[Gh.outer]
 grind
theorem oO(G:Gh):xX G.outer:=by
 intro b
 grind [oc,mo,DJ,jZ]
def RL:List AV->Bool
 |[_]=>true
 |_=>false
def aiP(single:Bool):Option Nat->Nat->cZ
 |some i,j=>.slot i (if single then j else j+1)
 |none,_=>.none
def afK(single:Bool)(d:Option Nat):cZ->cZ
 |.none=>.none
 |.sh=>.sh
 |.cell b' j=>.cell b' j
 |.res j=>aiP single d j
 |_=>.none
theorem Inv.args(h:Inv G n D E a w){ys:List Operand}{xs:List IX}{as:List AV}(hc:iI ys xs=true)(hv:cq (xg true E) xs=some as):rL w G.R as (ys.map a.eval).toArray:=by
 have hf:∀(o:Operand)(x:IX),bQ o x=true->dp (xg true E x)=true->VR w G.R (xg true E x) (a.eval o):=fun o x hx hi=>by
  have:=BR.aV h hx
  generalize xg true E x=av at hi this
  cases av<;>first|exact this|grind [dp]
 obtain⟨h1,_,h3⟩:=sE h hf ys xs as hc hv
 exact⟨by simp[h1],fun j c u hc hu=>h3 j c u hc (by grind)⟩
theorem Inv.lF(h:Inv G n D E a w):cE G.outer w/\bc G.outer w E.s:=⟨⟨fun b hb=>oc.2 (h.bj.k7 b hb),h.bj.mn⟩,h.store.zg (fun _ _ hv=>hv) (fun _ hb=>⟨mo.2 hb,rfl,rfl⟩) (fun _ _ _ hb hc=>⟨DJ.2 ⟨hc,hb⟩,rfl,rfl⟩)⟩
theorem Eb{r:AV}(h:iX [r]=true):(∃sz m cs,r=.us sz m cs)\/(dp r=true/\∀sz m cs,r≠.us sz m cs):=by cases r<;>first|exact .inl ⟨_,_,_,rfl⟩|grind [iX,Vp]
theorem Ea{r:AV}(h:iX [r]=true)(t:Nat):¬bD r t:=by
 rcases Eb h with⟨_,_,_,rfl⟩|⟨h,_⟩
 ·exact fun h=>h
 ·exact eR h t
theorem Ti{r:AV}(h:iX [r]=true)(cs:List AV):r≠.loc cs:=by
 rcases Eb h with⟨_,_,_,rfl⟩|⟨h,_⟩
 ·grind
 ·exact ni h cs
theorem Inv.behind(h:Inv G n D E a w){d:Option Nat}(hd:bC n d=true){rs:List AV}{s':ae}{v:Value}(hok:iX rs=true)(hg:cE G' w')(hs:bc G' w' s')(hr:qP G' w' rs v)(hp:aK G.outer w G' w'):
 ∃G2,Inv G2 n D ({E with s:=s'}.put d (e7 rs)) (a.put d v) w'/\aK G w G2 w':=by
 obtain⟨O2,hO2⟩:∃O2:Nat->cZ,∀b,O2 b=if G.outer.O b=.frame then G.O b else afK (RL rs) d (G'.O b):=⟨_,fun _=>rfl⟩
 let G2:Gh:=⟨G'.R,O2⟩
 have hfr:∀b,G.outer.O b=.frame->b<w.heap.size/\w'.heap[b]? =w.heap[b]? /\G'.O b=.frame/\G'.R b=G.R b/\G2.O b=G.O b:=by
  intro b hb
  have hlt:b<w.heap.size:=h.lF.1.lt (by rw[hb];simp)
  obtain⟨q1,q2⟩:=hp.jr b hlt hb
  exact⟨hlt,hp.frame b hlt (.inl hb),q1,q2,(hO2 b).trans (if_pos hb)⟩
 have hnf:∀b,G.outer.O b≠.frame->G2.O b=afK (RL rs) d (G'.O b):=by
  intro b hb
  exact(hO2 b).trans (if_neg hb)
 have jt:cE G2 w':=by
  refine⟨fun b hb=>?_,fun b hb=>hg.mn b hb⟩
  have hbs:w.heap.size<=b:=Nat.le_trans hp.size hb
  rw[hnf b (by grind),hg.k7 b hb];rfl
 have cz:aK G w G2 w':=by
  refine⟨hp.os,hp.tape,hp.output,hp.drawn,hp.size,hp.mono,hp.mJ,fun b hb ho=>?_,fun b hb ho=>?_,fun b hb ho=>?_⟩
  ·rcases ho with ho|ho
   ·grind [jZ]
   ·exact hp.frame b hb (.inr (oc.2 ho))
  ·grind [jZ]
  ·have ho':=oc.2 ho
   obtain⟨q1,q2⟩:=hp.qu b hb ho'
   exact⟨by rw[hnf b (by grind),q1];rfl,q2⟩
 have XH:∀b,(G'.O b=.sh\/∃b' j,G'.O b=.cell b' j)->G2.O b=G'.O b:=by
  intro b hb
  by_cases hf:G.outer.O b=.frame
  ·grind
  ·rw[hnf b hf]
   rcases hb with hb|⟨_,_,hb⟩<;>rw[hb]<;>rfl
 have eM:bc G2 w' s':=hs.zg (fun _ _ hv=>hv) (fun b hb=>⟨(XH b (.inl hb)).trans hb,rfl,rfl⟩) (fun b c j _ hc=>⟨(XH c (.inr ⟨b,j,hc⟩)).trans hc,rfl,rfl⟩)
 have nb:∀(i j:Nat)(x:AV)(y:Value),d=some i->dy G' w' (.res j) x y->dy G2 w' (.slot i (if RL rs then j else j+1)) x y:=by
  intro i j x y hdi ho
  unfold dy at ho⊢
  split
  ·rename_i sz m cs
   intro base m' cap hv hc
   obtain⟨b,off,c,e,fz,q1,q2,q3⟩:=ho base m' cap hv hc
   refine⟨b,off,c,e,fz,q1,?_,q3⟩
   have hf:G.outer.O b≠.frame:=fun hf=>by grind
   rw[hnf b hf,q2,hdi];rfl
  ·rename_i e m cs
   intro base m' cap hv hc
   obtain⟨b,off,c,fz,q1,q2,q3⟩:=ho base m' cap hv hc
   refine⟨b,off,c,fz,q1,?_,q3⟩
   have hf:G.outer.O b≠.frame:=fun hf=>by grind
   rw[hnf b hf,q2,hdi];rfl
  ·trivial
 have yI:=h.put (s':=s') (lp':=E.lp) d (fun i hi=>by grind [bC]) (e7 rs) v jt cz eM (fun _ hx=>hx)
  (fun i t _ ht=>by
    match rs,hok,ht with
    |[r],hok,ht=>exact(Ea hok t ht).elim
    |[],_,ht=>exact ht.elim
    |_::_::_,_,ht=>exact ht.elim)
  (fun i t _⟨cs,hcs⟩=>by
    match rs,hok,hcs with
    |[r],hok,hcs=>exact(Ti hok cs hcs).elim
    |[],_,hcs=>cases hcs
    |_::_::_,_,hcs=>cases hcs)
  (fun i b _ hb=>by grind [jZ,q2])
  (fun i b c j _ hb hc=>by grind [jZ,q2])
  (fun i hi=>by
    match rs,hok,hr,nb with
    |[r],hok,hr,nb=>
     show dc G2 w' _ _ i r v
     rcases Eb hok with⟨sz,m,cs,rfl⟩|⟨hV,hnu⟩
     ·rcases hr with hr|⟨b,cap,c,t,sp,h1,h2,h3,h4,h5,h6⟩
      ·exact .inl hr
      ·refine .inr ⟨b,cap,c,t,sp,h1,h2,h3,?_,h5,h6⟩
       have hf:G.outer.O b≠.frame:=fun hf=>by grind
       show O2 b=_
       rw[show O2 b=G2.O b from rfl,hnf b hf,h4,hi];rfl
     ·rw[dc.pz hV]
      have hr':VR w' G'.R r v/\dy G' w' (.res 0) r v:=by cases r<;>first|exact hr|grind
      exact⟨hr'.1,nb i 0 r v hi hr'.2⟩
    |[],_,hr,nb=>
     obtain⟨ys,q1,q2⟩:=hr
     exact⟨ys,q1,q2.1,fun j x y hx=>by simp at hx⟩
    |r1::r2::rr,_,hr,nb=>
     obtain⟨ys,q1,q2⟩:=hr
     exact⟨ys,q1,q2.1,fun j x y hx hy=>⟨(q2.2 j x y hx hy).1,nb i j x y hi (q2.2 j x y hx hy).2⟩⟩)
 exact⟨G2,by cases d<;>exact yI,cz⟩
theorem F5(h:Inv G n D E a w){op:Op}{ty:TypeId}{d:Option Nat}{K:St->Prop}(hd:bC n d=true){f:FuncId}{as:List AV}{vs:Array Value}
 (hr:∀(pos:String)(after:Array Edge)(g:Option (Nat×Bool)),(execOp a.eval ⟨d,op,ty,pos,after,g⟩).run P w=.ok (.enter f vs) w)(ha:rL w G.R as vs)(hw:FN P f as E.s (Nq E d K)):qI P G n D w a op ty d K:=by
 intro pos after g next Q hn
 unfold Oper.wp
 rw[hr pos after g]
 obtain⟨g1,g2⟩:=h.lF
 refine(hw G.outer w vs g1 (oO G) g2 ha).mono fun e w'⟨v,rs,s',G',he,⟨hok,hk⟩,q1,q2,q3,q4⟩=>?_
 subst he
 obtain⟨G2,h1,h2⟩:=h.behind hd hok q1 q2 q3 q4
 grind
theorem kW{f:FuncId}{fn:Func}(hf:P.funcs[f]? =some fn)(adX:(fn.name != "runtime.NumGoroutine")=true)(hb:fn.body.isSome=true)(args:Array Value):(callFunc f args).run P w=.ok (.enter f args) w:=by
 have h1:¬(fn.name= "runtime.NumGoroutine"):=by simpa using adX
 have h2:fn.body.isNone=false:=by cases hbb:fn.body<;>simp_all
 have h3:fn.body≠none:=by intro e;rw[e]at hb;cases hb
 simp[callFunc,hf,h1,h3]
theorem JW(h:Inv G n D E a w){op:Op}{ty:TypeId}{f:Nat}{args:List IX}{d:Option Nat}{K:St->Prop}(hd:bC n d=true)(hc:aA P op ty (.call f args)=true)(hw:jl P (.call f args) d E K):qI P G n D w a op ty d K:=by
 cases op<;>first|(simp[aA]at hc;done)|skip
 rename_i c
 obtain⟨callee,ys,ats⟩:=c
 simp only[aA]at hc
 split at hc<;>try(cases hc;done)
 rename_i g
 simp only[Bool.and_eq_true,beq_iff_eq]at hc
 obtain⟨⟨rfl,hxs⟩,hfn⟩:=hc
 split at hfn<;>try(cases hfn;done)
 rename_i fn hf
 rw[Bool.and_eq_true]at hfn
 have hw':sJ P f E d K (cq (xg true E) args):=hw
 cases has:cq (xg true E) args with
 |none=>rw[has]at hw';exact hw'.elim
 |some as=>
  rw[has]at hw'
  refine F5 h hd (as:=as) (vs:=ys.map a.eval) (fun _ _ _=>?_) ?_ hw'
  ·simp[execOp,resolve,Act.eval,Deferred.ofValue,invoke,kW hf hfn.1 hfn.2]
  ·have:=h.args hxs has
   rwa[show(ys.toList.map a.eval).toArray=ys.map a.eval from by grind]at this
theorem LO{t:TypeId}{m:Nat}(h:kt P t m=true):∃i,P.info? t=some i/\i.bytes=m:=by grind [kt]
theorem AJ{c:Int}(h0:0<=c)(h1:c<=9223372036854775807):IntKind.i64.wrap c=c:=by rw[IntKind.wrap_i64];omega
theorem Tc{c:Int}{by':Nat}(h0:0<=c)(hb:0<by')(hr:c*by'<=room):c<=room/\IntKind.i64.wrap c=c/\¬(281474976710656<by'*c):=by
 have h1:c<=c*by':=by
  have:=Int.mul_le_mul_of_nonneg_left (show(1:Int)<=by' by omega) h0
  omega
 grind [room,Int.le_trans,AJ,Int.mul_comm]
theorem yx{α:Type}(u:α)(l:List α):∀(m:Nat),((List.replicate m l).flatten)=((List.range (m*l.length)).map fun i=>l.getD (i % l.length) u):=by
 intro m
 apply List.ext_getElem?
 intro j
 rcases Nat.eq_zero_or_pos l.length with h0|hp
 ·simp_all
 ·induction m generalizing j with
  |zero=>simp
  |succ m ih=>
   rw[List.replicate_succ,List.flatten_cons]
   by_cases hj:j<l.length
   ·rw[List.getElem?_append_left hj,List.getElem?_map,List.getElem?_range (by grind)]
    simp[Nat.mod_eq_of_lt hj,List.getD_eq_getElem?_getD,List.getElem?_eq_getElem hj]
   ·rw[List.getElem?_append_right (by omega),ih,List.getElem?_map,List.getElem?_map]
    by_cases hlt:j<(m+1)*l.length
    ·have h1:j -l.length<m*l.length:=by rw[Nat.add_mul,Nat.one_mul]at hlt;omega
     grind [List.getElem?_range,Nat.mod_eq_sub_mod]
    grind
theorem run_makeSlice{t e:TypeId}{i:TypeInfo}{z:Value}{l c:Int}{k k':IntKind}(ht:P.underlying t=some (.slice e))(hi:P.info? e=some i)(hz:i.zero=some z)(hsz:z.cells.size=i.size)(hb:0<i.bytes)(h0:0<=l)(hlc:l<=c)(hr:c*i.bytes<=room)(w:World):
 (Instr.makeSlice t (.int k l) (.int k' c)).run P w=.ok (.slice (some ⟨w.heap.size,0,none⟩) l.toNat c.toNat) (w.alloc (.cells ((List.replicate c.toNat z.cells.toList).flatten).toArray e)):=by
 obtain⟨h1,h2,h3⟩:=Tc (Int.le_trans h0 hlc) hb hr
 have h4:IntKind.i64.wrap l=l:=AJ (by omega) (by grind [room])
 have h5:¬(c<0):=by omega
 have h6:¬(l<0):=by omega
 have h7:¬(c<l):=by omega
 have eO:(Array.map (fun x=>(if c.toNat*i.size=0 then(#[]:Array Value)else z.cells)[x % (if c.toNat*i.size=0 then(#[]:Array Value)else z.cells).size]!) (Array.range (c.toNat*i.size)))=((List.replicate c.toNat z.cells.toList).flatten).toArray:=by
  rw[<-uL,hsz]
  by_cases hn:c.toNat*i.size=0
  ·simp[hn]
  ·grind
 by_cases hn:c.toNat*i.size=0
 ·simp only[hn,if_true]at eO
  simp[Instr.makeSlice,asInt,asIntOf,run_underlying ht,typeInfo,sizeOf,hi,h2,h4,h3,h5,h6,h7,newRow,hn,<-eO]
 ·simp only[hn,if_false]at eO
  simp[Instr.makeSlice,asInt,asIntOf,run_underlying ht,typeInfo,sizeOf,hi,h2,h4,h3,h5,h6,h7,newRow,hn,zeroValue,hz,eO]
theorem Pd(h:Inv G n D E a w){op:Op}{ty:TypeId}{x:IX}{args:List IX}{d:Option Nat}{K:St->Prop}(hd:bC n d=true)(hc:aA P op ty (.gw x args)=true)(hw:jl P (.gw x args) d E K):qI P G n D w a op ty d K:=by
 cases op<;>first|(simp[aA]at hc;done)|skip
 rename_i c
 obtain⟨callee,ys,ats⟩:=c
 simp only[aA]at hc
 split at hc<;>try(cases hc;done)
 rename_i y
 simp only[Bool.and_eq_true]at hc
 obtain⟨hx,hxs⟩:=hc
 have hb:=BR.aV h hx
 have hw':xb P E (cq (xg true E) args) d K (xg true E x):=hw
 generalize xg true E x=xv at hb hw'
 unfold xb at hw'
 split at hw'<;>try(exact hw'.elim)
 rename_i f first gh
 cases has:cq (xg true E) args with
 |none=>rw[has]at hw';exact hw'.elim
 |some as=>
  rw[has]at hw'
  have hv:VR w G.R (.fn f first gh) (a.eval y):=hb
  generalize hev:a.eval y=yv at hv
  cases hv with
  |fn _ _ _ vf vc hl hr hl' hr'=>
  have J9:=h.args hxs has
  obtain⟨hfs,hw'⟩:=hw'
  unfold vE at hfs
  split at hfs<;>try(cases hfs;done)
  rename_i fn hf
  rw[Bool.and_eq_true]at hfs
  refine F5 h hd (as:=first++as++gh) (vs:=vf++(ys.toList.map a.eval).toArray++vc) (fun _ _ _=>?_) ?_ hw'
  ·rw[show(ys.toList.map a.eval).toArray=ys.map a.eval from by grind]
   simp[execOp,resolve,hev,Deferred.ofValue,invoke,kW hf hfs.1 hfs.2]
  ·refine⟨by have:=J9.1;grind,fun j c u hc hu=>?_⟩
   have h1:=J9.1
   rw[List.append_assoc,List.getElem?_append]at hc
   rw[Array.append_assoc,Array.getElem?_append]at hu
   by_cases hj:j<first.length
   ·grind
   ·rw[if_neg hj,List.getElem?_append]at hc
    rw[if_neg (by omega),Array.getElem?_append,hl,h1]at hu
    by_cases hj2:j -first.length<as.length
    ·rw[if_pos hj2]at hc hu
     exact J9.2 _ c u hc hu
    grind
theorem L5(h:Inv G n D E a w){op:Op}{ty:TypeId}{sz by':Nat}{z:List AV}{l c:IX}{d:Option Nat}{K:St->Prop}(hd:bC n d=true)(hc:aA P op ty (.kP sz by' z l c)=true)(hw:jl P (.kP sz by' z l c) d E K):qI P G n D w a op ty d K:=by
 cases op<;>first|(simp[aA]at hc;done)|skip
 rename_i t l' c'
 simp only[aA,Bool.and_eq_true]at hc
 obtain⟨⟨hl,hcc⟩,hc⟩:=hc
 split at hc<;>try(cases hc;done)
 rename_i e he
 simp only[Bool.and_eq_true,decide_eq_true_eq]at hc
 obtain⟨⟨⟨⟨hs,hby⟩,hz⟩,hsz⟩,hbp⟩:=hc
 have hb1:=BR.aV h hl
 have hb2:=BR.aV h hcc
 have hw':ze by' z E d K (xg true E l) (xg true E c):=hw
 generalize xg true E l=lv at hb1 hw'
 generalize xg true E c=cv at hb2 hw'
 unfold ze at hw'
 split at hw'<;>try(exact hw'.elim)
 rename_i k l0 k' c0
 obtain⟨q1,q2,q3,q4⟩:=hw'
 obtain⟨i,v,h1,h2,h3,h4,h5⟩:=vt hz
 obtain⟨i',h6,h7⟩:=LO hby
 rw[h1]at h6;injection h6 with h6;subst h6
 have e1:=VR.dj hb1
 have e2:=VR.dj hb2
 have XK:=h4 w G.R
 have nL:v.cells.toList.length=z.length:=by simpa using XK.1
 have hfl:Fl (List.replicate c0.toNat z).flatten:=by
  intro x hx
  simp only[List.mem_flatten,List.mem_replicate]at hx
  obtain⟨l',⟨_,rfl⟩,hx⟩:=hx
  exact XK.2.2 x hx
 have hcs:∀(G':Gh)(w':World)(o:Nat->cZ),aK G w G' w'->dq G' w' o (List.replicate c0.toNat z).flatten ((List.replicate c0.toNat v.cells.toList).flatten).toArray:=by
  intro G' w' o _
  have eD:∀(j:Nat)(x:AV)(y:Value),((List.replicate c0.toNat z).flatten)[j]? =some x->((List.replicate c0.toNat v.cells.toList).flatten)[j]? =some y->cR y x=true:=by
   intro j x y hx hy
   have hjz:(List.replicate c0.toNat z).flatten=(List.range (c0.toNat*z.length)).map fun i=>z.getD (i % z.length) .undef:=yx .undef z c0.toNat
   have hjv:(List.replicate c0.toNat v.cells.toList).flatten=(List.range (c0.toNat*z.length)).map fun i=>v.cells.toList.getD (i % z.length) undef:=by rw[yx undef,nL]
   rw[hjz,List.getElem?_map]at hx
   rw[hjv,List.getElem?_map]at hy
   cases hrg:(List.range (c0.toNat*z.length))[j]? with
   |none=>grind
   |some q=>grind [Option.some.injEq,Nat.eq_zero_or_pos,Nat.mod_lt]
  refine⟨by simp[nL],fun j x y hx hy=>?_⟩
  have:=eD j x y hx (by grind)
  exact⟨yd this w' G'.R,Cg this G' w' _⟩
 obtain⟨G',g1,g2⟩:=h.MC hd (t:=e) (.inr ⟨l0.toNat,c0.toNat,rfl,rfl⟩) hcs hfl
 intro pos after g next Q hn
 refine aZ (v:=.slice (some ⟨w.heap.size,0,none⟩) l0.toNat c0.toNat) (w':=w.alloc (.cells ((List.replicate c0.toNat v.cells.toList).flatten).toArray e)) ?_ (hn G' _ _ _ g1 g2 (q4 w.heap.size (h.store.get_none h.bj)))
 have:=run_makeSlice (k:=k) (k':=k') (c3 he) h1 h2 (by grind) (by omega) q1 q2 (by grind) w
 simp[execOp,e1,e2,this]
end
end Go.AB
end
section
namespace Go.AB
open Go Go.MapKept
section
variable{P:Program}{w:World}
end
end Go.AB
end
section
namespace Go.AB
open Go Go.MapKept
section
variable{P:Program}{G:Gh}{n:Nat}{D:List Deferred}{E:St}{a:Act}{w:World}
theorem Inv.SH(h:Inv G n D E a w){d:Option Nat}(hd:bC n d=true){av:AV}{v:Value}(hi:dp av=true)(hv:VR w G.R av v):Inv G n D (E.put d (view av)) (a.put d v) w:=by
 have h2:NR G w E a (view av) v:=NR.view hi hv
 have:=h.put (s':=E.s) (lp':=E.lp) d (fun i hi=>by grind [bC]) (view av) v h.bj (aK.refl G w) h.store (fun _ hx=>hx) (fun i t _ ht=>(eR (kJ hi) t ht).elim) (fun i t _⟨cs,hcs⟩=>(ni (kJ hi) cs hcs).elim)
  (fun _ _ _ _=>⟨rfl,rfl,rfl⟩) (fun _ _ _ _ _ _ hcc=>⟨hcc,rfl,rfl⟩) (fun i hdi=>dc.zf hi hv)
 cases d<;>exact this
theorem BR.key{x:IX}{kk:EF}{av:AV}{v:Value}(hk:Du kk av=true)(h:BR G w E a x av v):VR w G.R av v:=by cases av<;>first|exact h|grind [kk,Du]
theorem L3(h:Inv G n D E a w){op:Op}{ty:TypeId}{x:IX}{d:Option Nat}{K:St->Prop}(hd:bC n d=true)(hc:aA P op ty (.kz x)=true)(hw:jl P (.kz x) d E K):qI P G n D w a op ty d K:=by
 cases op<;>first|(simp[aA]at hc;done)|skip
 rename_i s t y
 cases x with
 |c _=>simp[aA]at hc
 |t i=>
 simp only[aA,Bool.and_eq_true,beq_iff_eq]at hc
 obtain⟨⟨hy,rfl⟩,hc⟩:=hc
 split at hc<;>try(cases hc;done)
 rename_i e ht
 split at hc<;>try(cases hc;done)
 rename_i he
 have hw':SF E d K (BF (xg true E (.t i))):=hw
 have eO:∃m x0 cs cs',cs=.int .u8 x0::cs'/\xg true E (.t i)=.sl true 1 (m+1) cs/\K (E.put d (.sl false 1 (m+1) cs)):=by
  generalize xg true E (.t i)=xv at hw'
  unfold BF at hw'
  split at hw'
  ·exact⟨_,_,_,_,rfl,rfl,hw'⟩
  ·exact hw'.elim
 obtain⟨m,x0,cs,cs',hcs,hx,hK⟩:=eO
 have hx':look E.e i=.sl true 1 (m+1) cs\/look E.e i=.when true (.sl true 1 (m+1) cs):=by
  have hx2:xT true (look E.e i)=.sl true 1 (m+1) cs:=hx
  generalize look E.e i=av at hx2
  cases av<;>first|exact .inl hx2|skip
  rename_i b a'
  have hx2:(bif(b==true||b)&&inner a' then a' else .undef)=.sl true 1 (m+1) cs:=hx2
  cases b with
  |false=>simp at hx2
  |true=>grind
 have hin:i<n:=h.DC (fun e=>by grind)
 have hey:a.tmps[i]? =some (a.eval y):=by
  have hyy:y=.tmp i:=by
   cases y<;>simp[bQ]at hy
   rw[hy]
  subst hyy
  exact fR (by rw[h.size];exact hin)
 have hsl:VR w G.R (.sl true 1 (m+1) cs) (a.eval y)/\dy G w (.slot i 0) (.sl true 1 (m+1) cs) (a.eval y):=by
  have hs:=h.cm i _ hey
  rcases hx' with h'|h'<;>rw[h']at hs
  ·exact hs
  ·exact hs.1 rfl
 obtain⟨hvr,xj⟩:=hsl
 rcases VR.ik hvr with⟨_,hm0,_⟩|⟨b0,aaz,adj,e1,hl,hR,fL,hat⟩
 ·omega
 obtain⟨b,off,c,et,fz,q1,q2,q3,q4,q5,q6⟩:=xj _ _ _ e1 (.inr (by omega))
 injection q1 with q1;injection q1 with q1 q1' _
 subst q1;subst q1'
 let fz':Nat×Nat:=if fz.1==fz.2 then(c.size,c.size+1)else(min fz.1 c.size,max fz.2 (c.size+1))
 let w':World:=w.freeze ⟨b0,c.size,none⟩ 1
 have hlt:b0<w.heap.size:=(Array.getElem?_eq_some_iff.1 q4).1
 have hb0:w'.heap[b0]? =some (.cells c et fz'):=by
  show(w.freeze ⟨b0,c.size,none⟩ 1).heap[b0]? =_
  unfold World.freeze
  simp only[Nat.succ_ne_self,if_false,Array.getElem?_modify,if_true,q4,Option.map_some]
  rfl
 have ad1:∀k,k≠b0->w'.heap[k]? =w.heap[k]? :=by
  intro k hk
  show(w.freeze ⟨b0,c.size,none⟩ 1).heap[k]? =_
  unfold World.freeze
  simp only[Nat.succ_ne_self,if_false,Array.getElem?_modify]
  rw[if_neg (Ne.symm hk)]
 have hsz:w'.heap.size=w.heap.size:=by
  show(w.freeze ⟨b0,c.size,none⟩ 1).heap.size=_
  unfold World.freeze
  simp
 have fB:∀b k,w'.cell? ⟨b,k,none⟩=w.cell? ⟨b,k,none⟩:=by
  intro k j
  by_cases hk:k=b0
  ·grind [World.cell?]
  ·grind [World.cell?_of_block]
 have hfz:∀k,k<c.size->¬(fz'.1<=k/\k<fz'.2):=by
  intro k hk
  show¬((if fz.1==fz.2 then(c.size,c.size+1)else(min fz.1 c.size,max fz.2 (c.size+1)):Nat×Nat).1<=k/\k<(if fz.1==fz.2 then(c.size,c.size+1)else(min fz.1 c.size,max fz.2 (c.size+1)):Nat×Nat).2)
  by_cases hf:fz.1=fz.2
  ·grind
  ·have:(fz.1==fz.2)=false:=by simpa using hf
   rw[this]
   simp only[Bool.false_eq_true,if_false]
   intro hh
   have q7:=q6.2
   by_cases hc2:fz.1<c.size
   ·grind
   ·omega
 have ah2:fz'.1<=fz'.2:=by
  show(if fz.1==fz.2 then(c.size,c.size+1)else(min fz.1 c.size,max fz.2 (c.size+1)):Nat×Nat).1<=(if fz.1==fz.2 then(c.size,c.size+1)else(min fz.1 c.size,max fz.2 (c.size+1)):Nat×Nat).2
  split
  ·grind
  ·grind
 have hp:aK G w G w':=⟨rfl,rfl,rfl,Nat.le_refl _,by grind,fun _ _=>Nat.le_refl _,fun b k _ _=>fB b k,fun b _ hb=>ad1 b (fun e=>by grind),fun _ _ h=>⟨h,rfl⟩,fun _ _ h=>⟨h,rfl⟩⟩
 have hne:∀k,G.O k≠.slot i 0->w'.heap[k]? =w.heap[k]? :=fun k hk=>ad1 k fun e=>hk (by grind)
 have hI:Inv G n D E a w':=by
  refine⟨⟨fun c hc=>h.bj.k7 c (by grind),fun c hc=>h.bj.mn c (by grind)⟩,?_,h.size,fun k v hk=>?_,h.EI,h.LA,h.pO⟩
  ·exact h.store.mono h.bj hp (fun b hb=>⟨hb,rfl,hne b (by rw[hb];simp)⟩) (fun b c j _ hc=>⟨hc,rfl,hne c (by rw[hc];simp)⟩)
  ·by_cases hki:k=i
   ·subst hki
    have hv:v=a.eval y:=by rw[hey]at hk;exact(Option.some.inj hk).symm
    subst hv
    have hO:dy G w' (.slot k 0) (.sl true 1 (m+1) cs) (a.eval y):=by
     intro base m' c6 hv hc
     rw[e1]at hv
     injection hv with v1 v2 v3
     exact⟨b0,aaz,c,et,fz',v1.symm,q2,q3,hb0,by rw[q5,v3],hfz,ah2,q6.2.2.1,.inr ⟨Nat.succ_pos _,x0,by
      obtain⟨u,u1,u2,_⟩:=hat
      have k1:=u1 0 (.int .u8 x0) (by rw[hcs];rfl)
      have k2:=VR.dj (u2 0 (.int .u8 x0) (by rw[hcs];rfl))
      grind [cell_of_row]⟩,q6.2.2.2.2⟩
    have hV:dc G w' E.e a.tmps k (.sl true 1 (m+1) cs) (a.eval y):=⟨hp.vr h.bj hvr,hO⟩
    rcases hx' with h'|h'<;>rw[h']
    ·exact hV
    ·exact⟨fun _=>hV,fun h=>by cases h⟩
   ·exact dc.frame (fun _ _ hv=>hp.vr h.bj hv) (fun c hc=>⟨rfl,rfl,hne c (by grind)⟩) (fun c c' j _ hc=>⟨hc,rfl,hne c' (by rw[hc];simp)⟩) _ _ (fun d _ cs hcs=>⟨cs,hcs,rfl⟩) (h.cm k v hk)
 have pk:Inv G n D (E.put d (.sl false 1 (m+1) cs)) (a.put d (a.eval y)) w':=hI.SH hd (av:=.sl true 1 (m+1) cs) rfl (hp.vr h.bj hvr)
 intro pos after gd next Q hn
 refine aZ (v:=a.eval y) (w':=w') ?_ (hn G _ _ _ pk hp hK)
 have Mn:w.shape? b0=some (et,c.size):=by
  unfold World.shape?
  rw[q4]
 have Ro:(convert s s (.slice (some ⟨b0,aaz,none⟩) (m+1) adj)).run P w=.ok (.slice (some ⟨b0,aaz,none⟩) (m+1) adj) w':=by
  simp[convert,run_underlying ht,run_underlying he,markStringish,Mn]
  rfl
 simp[execOp,e1,Ro]
theorem Q1(h:Inv G n D E a w){op:Op}{ty:TypeId}{x:IX}{d:Option Nat}{K:St->Prop}(hd:bC n d=true)(hc:aA P op ty (.qt x)=true)(hw:jl P (.qt x) d E K):qI P G n D w a op ty d K:=by
 have hw':SF E d K (AH (xg true E x)):=hw
 have key:∀y,bQ y x=true->∃vs,K (E.put d (.iP (views vs)))/\Inv G n D (E.put d (.iP (views vs))) (a.put d (a.eval y)) w:=by
  intro y hy
  have hb:=BR.aV h hy
  generalize xg true E x=xv at hb hw'
  unfold AH at hw'
  split at hw'<;>try(exact hw'.elim)
  rename_i vs
  refine⟨vs,hw',?_⟩
  obtain⟨ys,e,hl,hr⟩:=VR.NY (show VR w G.R (.iP vs) (a.eval y) from hb)
  have:=h.put (s':=E.s) (lp':=E.lp) d (fun i hi=>by grind [bC]) (.iP (views vs)) (a.eval y) h.bj (aK.refl G w) h.store (fun _ hx=>hx) (fun i t _ ht=>ht.elim) (fun i t _⟨cs,hcs⟩=>by cases hcs)
   (fun _ _ _ _=>⟨rfl,rfl,rfl⟩) (fun _ _ _ _ _ _ hcc=>⟨hcc,rfl,rfl⟩) (fun i hdi=>⟨ys,e,by grind [views],fun j x y hx hy=>by
     rw[eY]at hx
     cases hj:vs[j]? with
     |none=>grind
     |some c=>
      rw[hj]at hx
      simp at hx
      subst hx
      exact⟨(hr j c y hj hy).view,dy.view ..⟩⟩)
  cases d<;>exact this
 intro pos after g next Q hn
 cases op<;>first|(simp[aA]at hc;done)|skip
 ·rename_i y
  obtain⟨vs,h1,h2⟩:=key y hc
  exact aZ rfl (hn G _ _ _ h2 (aK.refl G w) h1)
 ·rename_i y
  obtain⟨vs,h1,h2⟩:=key y hc
  exact aZ rfl (hn G _ _ _ h2 (aK.refl G w) h1)
end
end Go.AB
end
section
namespace Go.AB
open Go
section
variable{P:Program}{G G':Gh}{n:Nat}{D:List Deferred}{E:St}{a:Act}{w w':World}
theorem bc.at(h:bc G w E.s){b off m:Nat}{cs:List AV}(hs:E.s b=some (.cells cs))(dt:off+m<=cs.length):At w G.R b off (AB.views (AB.sub cs off m)):=by
 obtain⟨_,_,c,t,h4,h5,h6⟩:=h b _ hs
 have hat:=(At.GK h4 h5 h6).sub off m
 rwa[Nat.zero_add,Hf]at hat
structure sA(P:Program)(w:World)(R:Nat->Nat)(sz m:Nat)(ds:List AV)(v:Value)(news:List Value):Prop where
 len:news.length=m*sz
 qm:ds.length=m*sz
 lenOf:∀w',(Builtin.lenOf v).run P w'=.ok m w'
 first:∀k,k<=m->∀w',w'.heap=w.heap->(Builtin.firstCells sz k v).run P w'=.ok (news.take (k*sz)).toArray w'
 one:∀u∈news,u.oneCell'=true
 k9:∀(j:Nat)(c:AV)(u:Value),ds[j]? =some c->news[j]? =some u->VR w R c u
 fl:Fl ds
 vw:views ds=ds
theorem oY(ds:List AV):views (views ds)=views ds:=by
 unfold views
 rw[List.map_map]
 apply List.map_congr_left
 intro a _
 cases a<;>rfl
theorem sA.src{R:Nat->Nat}{sz m:Nat}{ds:List AV}{v:Value}{news:List Value}(h:sA P w R sz m ds v news):Src P w R sz m ds v news:=⟨h.len,h.qm,h.lenOf,fun w' hw'=>by rw[h.first m (Nat.le_refl m) w' hw',List.take_of_length_le (by rw[h.len];grind)],h.one,h.k9,h.fl⟩
theorem sA.X7{R:Nat->Nat}{sz m b off cap:Nat}{cs:List AV}(hl:cs.length=m*sz)(hat:At w R b off cs):∃news,sA P w R sz m (views cs) (.slice (some ⟨b,off,none⟩) m cap) news:=by
 have Rl:=hat.views
 obtain⟨us,h1,h2,h3⟩:=Rl.k9
 have hfl:Fl (views cs):=by obtain⟨_,_,_,hf⟩:=Rl;exact hf
 have hlen:(views cs).length=m*sz:=by simp[views,hl]
 refine⟨us,by rw[h1,hlen],hlen,fun _=>rfl,fun k hk w' hw'=>?_,fun u hu=>?_,h3,hfl,oY cs⟩
 ·grind [Nat.mul_le_mul_right,run_firstCells_some,FY]
 ·obtain⟨j,hj⟩:=List.mem_iff_getElem?.1 hu
  have hlt:j<(views cs).length:=by rw[<-h1];exact(List.getElem?_eq_some_iff.1 hj).1
  have hx:=List.getElem?_eq_getElem hlt
  exact iB (hfl _ (List.getElem_mem hlt)) (h3 j _ u hx hj)
theorem sA.none{R:Nat->Nat}{sz:Nat}:sA P w R sz 0 [] (.slice none 0 0) []:=
 ⟨by simp,by simp,fun _=>rfl,fun k hk w' _=>by
   have:k=0:=by omega
   subst this;simp[Builtin.firstCells],fun u hu=>by simp at hu,fun j c u hc=>by simp at hc,Fl.nil,rfl⟩
theorem sA.empty{R:Nat->Nat}{sz cap:Nat}{base:Option Addr}:sA P w R sz 0 [] (.slice base 0 cap) []:=
 ⟨by simp,by simp,fun _=>rfl,fun k hk w' _=>by
   have:k=0:=by omega
   subst this
   cases base with
   |none=>simp[Builtin.firstCells]
   |some x=>
    obtain⟨b,off,sp⟩:=x
    simp[Builtin.firstCells,loadCells,loadCellsFrom],fun u hu=>by simp at hu,fun j c u hc=>by simp at hc,Fl.nil,rfl⟩
theorem sA.str{R:Nat->Nat}{l:List UInt8}:sA P w R 1 l.length (l.map fun c=>.int .u8 c.toNat) (.string ⟨l.toArray⟩) (l.map fun c=>.int .u8 c.toNat)where
 len:=by simp
 qm:=by simp
 lenOf:=fun w'=>by simp[Builtin.lenOf,ByteArray.size]
 first:=fun k hk w' _=>by
  have:((ByteArray.mk l.toArray).extract 0 k).data=(l.take k).toArray:=by
   rw[ByteArray.data_extract]
   apply Array.ext'
   simp
  simp[Builtin.firstCells,this,List.map_take]
 one:=(Src.Ix (P:=P) (w:=w) (R:=R)).one
 k9:=(Src.Ix (P:=P) (w:=w) (R:=R)).k9
 fl:=Cf l
 vw:=by simp[views,view]
theorem qS{m sz off:Nat}{o:Option SO}{k:Nat}{ds:List AV}(h:jf m sz off o=some (k,ds)):∃cs,o=some (.cells cs)/\off+m*sz<=cs.length/\k=m/\ds=views (AB.sub cs off (m*sz)):=by
 unfold jf at h
 grind
theorem M6(h:Inv G n D E a w){sz m:Nat}{x:IX}{o:Operand}{ds:List AV}(hx:bQ o x=true)(hs:zy E.s sz (E.x x)=some (m,ds)):∃news,sA P w G.R sz m ds (a.eval o) news:=by
 have hb:=XR.aV h hx
 generalize E.x x=av at hb hs
 unfold zy at hs
 split at hs
 ·rename_i ow s' k cs
  by_cases he:s'=sz
  ·subst he
   rw[beq_self_eq_true]at hs
   injection hs with hs;injection hs with h1 h2;subst h1;subst h2
   rcases VR.ik hb with⟨e0,rfl,rfl⟩|⟨b,off,cap,e,hl,_,_,hat⟩
   ·obtain⟨_,_,e⟩:=e0.ex
    rw[e];exact⟨[],sA.empty⟩
   ·rw[e];exact sA.X7 hl hat
  ·rw[show(s'==sz)=false by grind]at hs
   by_cases hk:k=0
   ·subst hk
    injection hs with hs;injection hs with h1 h2;subst h1;subst h2
    rcases VR.ik hb with⟨(e|⟨_,_,_,e⟩),_,_⟩|⟨b,off,cap,e,_⟩<;>rw[e]<;>exact⟨[],sA.empty⟩
   grind
 ·rename_i l
  by_cases he:sz=1
  ·subst he
   rw[beq_self_eq_true]at hs
   injection hs with hs;injection hs with h1 h2;subst h1;subst h2
   rw[VR.iJ hb];exact⟨_,sA.str⟩
  grind
 ·rename_i b off k cap
  by_cases hk:k=0
  ·subst hk
   injection hs with hs;injection hs with h1 h2;subst h1;subst h2
   rcases VR.df hb with e|⟨_,_,e⟩<;>rw[e]<;>exact⟨[],sA.empty⟩
  ·rw[show(k==0)=false by grind]at hs
   obtain⟨cs,e1,e2,rfl,rfl⟩:=qS hs
   rcases VR.df hb with e|⟨h0,_,_⟩
   ·rw[e]
    have hsn:=sA.X7 (P:=P) (cap:=cap) (show(AB.views (AB.sub cs off (m*sz))).length=m*sz by simp[views,jD e2]) (h.store.at e1 e2)
    rwa[oY]at hsn
   grind
 ·cases hs
theorem Inv.D8(h:Inv G n D E a w){b off:Nat}{cs ds:List AV}{news:List Value}{c:Array Value}{t:TypeId}(hs:E.s b=some (.cells cs))(hb:w.heap[b]? =some (.cells c t (0,0)))
 (hlen:news.length=ds.length)(dt:off+ds.length<=cs.length)(hfl:Fl ds)(hvw:views ds=ds)(sW:∀(j:Nat)(x:AV)(y:Value),ds[j]? =some x->news[j]? =some y->VR w G.R x y):
 Inv G n D {E with s:=E.s.set b (.cells (setAt cs off ds))} a (w.setRow b (laid c off news))/\aK G w G (w.setRow b (laid c off news)):=by
 obtain⟨q2,q3,c',t',q4,q5,q6⟩:=h.store b _ hs
 rw[hb]at q4;injection q4 with q4;injection q4 with q4 q4' _
 subst q4;subst q4'
 have hne:∀j,G.O b≠.cell b j:=fun j=>by rw[q2];simp
 have cz:aK G w G (w.setRow b (laid c off news)):=aK.write hb (by rw[q2];simp) (fun k hk=>by grind) (Nat.le_refl _) (fun _ _=>⟨rfl,rfl⟩)
 have nL:=dq.lay hb cz h.bj q5 hlen dt hne (fun j x y hx hy=>⟨sW j x y hx hy,by grind [eY,dy.view]⟩)
 have eM:bc G (w.setRow b (laid c off news)) (E.s.set b (.cells (setAt cs off ds))):=by
  intro b' o hb'
  unfold ae.set at hb'
  by_cases hbg:b'=b
  ·rw[if_pos hbg]at hb';grind [q2,setRow_heap,AK.setAt]
  ·rw[if_neg hbg]at hb'
   obtain⟨r1,r2,r3⟩:=h.store b' o hb'
   refine⟨r1,r2,?_⟩
   have hbk:=setRow_other w b b' (laid c off news) hbg
   cases o with
   |cells cs=>
    obtain⟨c0,t0,r4,r5,r6⟩:=r3
    exact⟨c0,t0,hbk.trans r4,r5.mono (fun _ _ hv=>cz.vr h.bj hv) (fun b'' j vH=>⟨vH,rfl,setRow_other w b b'' _ (fun e=>by grind)⟩),r6⟩
   |map es=>
    obtain⟨sP,clock,r4,r5,r6⟩:=r3
    exact⟨sP,clock,hbk.trans r4,r5,fun j x y hx hy=>⟨cz.vr h.bj (r6 j x y hx hy).1,cz.vr h.bj (r6 j x y hx hy).2⟩⟩
 obtain⟨h2,_⟩:=h.written (E':={E with s:=E.s.set b (.cells (setAt cs off ds))}) hb (.inr q2) q3 rfl eM (fun k=>.inl ⟨rfl,by rw[q2];simp⟩)
 grind
theorem Inv.SJ(h:Inv G n D E a w){d:Option Nat}(hd:bC n d=true){av:AV}{v:Value}(hi:dp av=true)(hv:VR w G.R av v)(ad8:view av=av):Inv G n D (E.put d av) (a.put d v) w:=by
 have:=h.put (s':=E.s) (lp':=E.lp) d (fun i hi=>by grind [bC]) av v h.bj (aK.refl G w) h.store (fun _ hx=>hx) (fun i t _ ht=>(eR hi t ht).elim) (fun i t _⟨cs,hcs⟩=>(ni hi cs hcs).elim)
  (fun _ _ _ _=>⟨rfl,rfl,rfl⟩) (fun _ _ _ _ _ _ hcc=>⟨hcc,rfl,rfl⟩) (fun i hdi=>by grind [dc.pz,dy.view])
 cases d<;>exact this
theorem Inv.aaM(h:Inv G n D E a w){d:Option Nat}(hd:bC n d=true):Inv G n D (E.put d (.iP [])) (a.put d (.tuple #[])) w:=by
 have:=h.put (s':=E.s) (lp':=E.lp) d (fun i hi=>by grind [bC]) (.iP []) (.tuple #[]) h.bj (aK.refl G w) h.store (fun _ hx=>hx) (fun i t _ ht=>ht.elim) (fun i t _⟨cs,hcs⟩=>by cases hcs)
  (fun _ _ _ _=>⟨rfl,rfl,rfl⟩) (fun _ _ _ _ _ _ hcc=>⟨hcc,rfl,rfl⟩) (fun i hdi=>⟨#[],rfl,rfl,fun j x y hx=>by simp at hx⟩)
 cases d<;>exact this
theorem HI(h:Inv G n D E a w){op:Op}{ty:TypeId}{sz m:Nat}{z:List AV}{ps:List (Nat×Nat×IX)}{d:Option Nat}{K:St->Prop}(hd:bC n d=true)(hc:aA P op ty (.ks sz m z ps)=true)(hw:jl P (.ks sz m z ps) d E K):qI P G n D w a op ty d K:=by
 cases op<;>first|(simp[aA]at hc;done)|skip
 rename_i t m' qs
 simp only[aA,Bool.and_eq_true,beq_iff_eq]at hc
 obtain⟨rfl,hc⟩:=hc
 split at hc<;>try(cases hc;done)
 rename_i e ht
 have ht:=c3 ht
 simp only[Bool.and_eq_true]at hc
 obtain⟨⟨⟨⟨hs,jg⟩,hp⟩,Rt⟩,hz⟩:=hc
 obtain⟨i,hi,pT⟩:=j8 hs
 rw[hi]at hz
 simp only at hz
 split at hz<;>try(cases hz;done)
 rename_i zv hzv
 simp only[Bool.and_eq_true,beq_iff_eq]at hz
 obtain⟨hzr,hzs⟩:=hz
 have jg:=of_decide_eq_true jg
 have Rt:=of_decide_eq_true Rt
 have hw':uS sz m E d K (fill (xg true E) z ps):=hw
 cases hfl:fill (xg true E) z ps with
 |none=>rw[hfl]at hw';exact hw'.elim
 |some ds=>
  rw[hfl]at hw'
  obtain⟨hlen,hk⟩:=hw'
  obtain⟨hl,hpa⟩:=xK _ _ hp
  obtain⟨hz1,hz2⟩:=BO hzr
  have eO:Row w G.R z ((Array.range (m*sz)).map (zv.cells[·% zv.cells.size]!)):=by
   rw[<-hzs,uL]
   exact⟨by grind,fun j c u hc hu=>yd (hz2 j c u hc (by grind)) w G.R,Ch hzr⟩
  have hf:∀(o:Operand)(x:IX),bQ o x=true->dp (xg true E x)=true->VR w G.R (xg true E x) (a.eval o):=fun o x hx hi=>by
   have:=BR.aV h hx
   generalize xg true E x=av at hi this
   cases av<;>first|exact this|grind [dp]
  obtain⟨us,h1,h2⟩:=qZ h hf (fun i=>some (i*sz,sz)) qs.toList ps z ds _ ⟨hl,fun j q p hq hp'=>by grind⟩ eO hfl
  obtain⟨G1,h3,h4⟩:=h.MC (t:=e) (c:=us) (cs:=views ds) hd (.inr ⟨m,m,rfl,rfl⟩) (fun G' w' o hp=>mD (h2.mono fun _ _ hv=>hp.vr h.bj hv)) h2.2.2.views
  intro pos after gd next Q hn
  refine aZ ?_ (hn G1 _ _ _ h3 h4 (hk w.heap.size (h.store.get_none h.bj)))
  by_cases hm0:m*sz=0
  ·have hm:m=0:=by
    rcases Nat.mul_eq_zero.1 hm0 with h|h
    ·exact h
    ·omega
   subst hm
   simp only[Nat.zero_mul]at h1
   have:(Array.range 0).map (zv.cells[·% zv.cells.size]!)= #[]:=by simp
   rw[this]at h1
   have hr0:Array.map (fun _:Nat=>(default:Value)) (Array.range 0)= #[]:=by apply Array.ext';simp
   simp[execOp,Instr.buildSlice,run_underlying ht,run_sizeOf hs,hr0,h1,newRow]
  ·have h24:¬(16777216<m*sz):=by omega
   simp[execOp,Instr.buildSlice,run_underlying ht,run_sizeOf hs,h24,hm0,zeroValue,typeInfo,hi,hzv,h1,newRow]
end
section
variable{P:Program}{G G':Gh}{n:Nat}{D:List Deferred}{E:St}{a:Act}{w w':World}
theorem G6(cs:List AV)(k:Nat):setAt cs k []=cs:=by simp[setAt]
theorem uy{s:ae}{b:Nat}{o:SO}(h:s b=some o):s.set b o=s:=by grind [ae.set]
theorem GW{sz b off cap:Nat}{o:Option SO}(h:xM sz b off cap o):∃cs,o=some (.cells cs)/\off+cap*sz<=cs.length:=by
 unfold xM at h
 grind
theorem uM{e:TypeId}{z:List AV}(hz:ot P e z=true):∃v:Value,(∀w,(zeroValue e).run P w=.ok v w)/\(∃i,P.info? e=some i/\i.zero=some v/\i.size=z.length)/\∀(q:Nat),(Builtin.zeroCells v.cells q).toList.length=q*z.length/\(List.replicate q z).flatten.length=q*z.length/\
 (∀(j:Nat)(x:AV)(y:Value),(List.replicate q z).flatten[j]? =some x->(Builtin.zeroCells v.cells q).toList[j]? =some y->cR y x=true)/\Fl (List.replicate q z).flatten/\(∀y∈(Builtin.zeroCells v.cells q).toList,y.oneCell'=true):=by
 obtain⟨i,v,h1,h2,h3,h4,h5⟩:=vt hz
 refine⟨v,fun w=>by simp[zeroValue,typeInfo,h1,h2],⟨i,h1,h2,h3⟩,fun q=>?_⟩
 have e0:Builtin.zeroCells v.cells q=((List.replicate q v.cells.toList).flatten).toArray:=uL v.cells q
 rw[e0]
 have h4:=h4 default fun _=>0
 have hlz:v.cells.toList.length=z.length:=by simpa using h4.1
 have Ml:∀y∈v.cells.toList,y.oneCell'=true:=by
  intro y hy
  obtain⟨j,hj⟩:=List.mem_iff_getElem?.1 hy
  have hlt:j<z.length:=by rw[<-hlz];exact(List.getElem?_eq_some_iff.1 hj).1
  exact iB (h4.2.2 _ (List.getElem_mem hlt)) (h4.2.1 j _ y (List.getElem?_eq_getElem hlt) (by grind))
 have hlen:∀(α:Type)(l:List α),(List.replicate q l).flatten.length=q*l.length:=fun α l=>by simp
 refine⟨by grind,hlen _ z,?_,?_,?_⟩
 ·show∀(j:Nat)(x:AV)(y:Value),(List.replicate q z).flatten[j]? =some x->(List.replicate q v.cells.toList).flatten[j]? =some y->cR y x=true
  clear e0 hlen
  induction q with
  |zero=>grind
  |succ q ih=>grind
 ·intro x hx
  simp only[List.mem_flatten,List.mem_replicate]at hx
  obtain⟨l,⟨_,rfl⟩,hm⟩:=hx
  exact h4.2.2 x hm
 simp_all
theorem JS(h:Inv G n D E a w){op:Op}{ty:TypeId}{sz by':Nat}{z:List AV}{x y:IX}{d:Option Nat}{K:St->Prop}(hd:bC n d=true)(hc:aA P op ty (.mZ sz by' z x y)=true)(hw:jl P (.mZ sz by' z x y) d E K):qI P G n D w a op ty d K:=by
 cases op<;>first|(simp[aA]at hc;done)|skip
 rename_i c
 simp only[aA]at hc
 split at hc<;>try(cases hc;done)
 rename_i u v t t' hb
 have hce:=qR hb
 subst hce
 simp only[Bool.and_eq_true]at hc
 obtain⟨⟨hu,hv⟩,hc⟩:=hc
 split at hc<;>try(cases hc;done)
 rename_i e ht
 have ht:=c3 ht
 simp only[Bool.and_eq_true]at hc
 obtain⟨⟨⟨⟨⟨⟨hs,hby⟩,jg⟩,yC⟩,hzl⟩,hzi⟩,ht'⟩:=hc
 obtain⟨i,hi,pT⟩:=j8 hs
 obtain⟨zv,_,⟨i1,hi1,hz,hz1⟩,Va⟩:=uM hzi
 rw[hi]at hi1;injection hi1 with hi1;subst hi1
 have jg:=of_decide_eq_true jg
 have yC:=of_decide_eq_true yC
 have hby:i.bytes=by':=by
  unfold kt at hby
  rw[hi]at hby
  simpa using hby
 have ht2:(∃e',P.underlying t'=some (.slice e'))\/P.underlying t'=some .string:=by
  rcases Bool.or_eq_true .. ▸ht' with h|h
  ·grind [cI,c3]
  ·grind [zz]
 have hw':dG sz by' z E d K (E.x x) (zy E.s sz (E.x y)):=hw
 have hbx:=XR.aV h hu
 generalize E.x x=xv at hw' hbx
 cases hsv:zy E.s sz (E.x y)with
 |none=>grind [dG]
 |some md=>
 obtain⟨m,ds⟩:=md
 rw[hsv]at hw'
 obtain⟨news,Rw⟩:=M6 (P:=P) h hv hsv
 have ff:=Rw.src
 unfold dG at hw'
 split at hw'<;>try(exact hw'.elim)
 rename_i b off k cap _ _ he0
 injection he0 with he0;injection he0 with e1 e2;subst e1;subst e2
 cases hol:n9 E.s sz b off k with
 |none=>rw[hol]at hw';exact hw'.elim
 |some olds=>
 rw[hol]at hw'
 obtain⟨ZD,XL,CX⟩:=hw'
 have hold:k=0/\olds=[]\/∃cs,E.s b=some (.cells cs)/\off+k*sz<=cs.length/\olds=views (AB.sub cs off (k*sz)):=by
  unfold n9 at hol
  by_cases hk:k=0
  ·grind
  ·rw[show(k==0)=false by grind]at hol
   cases hca:jf k sz off (E.s b)with
   |none=>grind
   |some q=>grind [q1,q2,qS]
 by_cases dt:k+m<=cap
 ·rcases XL dt with⟨rfl,hk⟩|⟨cf,hk⟩
  ·have wm:news=[]:=List.eq_nil_of_length_eq_zero (by simpa using ff.len)
   subst wm
   intro pos after gd next Q hn
   refine aZ (w':=w) (v:=a.eval u) ?_ (hn G _ _ _ (h.SJ hd rfl hbx rfl) (aK.refl G w) hk)
   rcases VR.df hbx with e1|⟨rfl,rfl,e1⟩
   ·have cH:=ir (ty:=ty) (w:=w) ht ht2 hi pT ff (b:=b) (off:=off) (k:=k) (cap:=cap) dt (w':=w) rfl
    simp only[Nat.add_zero]at cH
    simp[execOp,resolve,invoke,builtin,e1,cH]
   ·have cH:=nn (ty:=ty) ht ht2 hi pT ff
    simp[execOp,resolve,invoke,builtin,e1,cH]
  ·obtain⟨cs,hsb,Rq⟩:=GW cf
   rw[hsb]at hk
   have hk':K ({E with s:=E.s.set b (.cells (setAt cs (off+k*sz) ds))}.put d (.arr b off (k+m) cap)):=hk
   obtain⟨_,_,c,et,hcb,hcr,hcf⟩:=h.store b _ hsb
   have hmul:off+k*sz+m*sz<=cs.length:=by
    rw[Nat.add_assoc,<-Nat.add_mul]
    exact Nat.le_trans (Nat.add_le_add_left (Nat.mul_le_mul_right _ dt) _) Rq
   by_cases hm:m=0
   ·subst hm
    have wm:news=[]:=List.eq_nil_of_length_eq_zero (by simpa using ff.len)
    have hds:ds=[]:=List.eq_nil_of_length_eq_zero (by simpa using ff.qm)
    subst wm;subst hds
    rw[G6,uy hsb,Nat.add_zero]at hk'
    intro pos after gd next Q hn
    refine aZ (w':=w) (v:=a.eval u) ?_ (hn G _ _ _ (h.SJ hd rfl hbx rfl) (aK.refl G w) hk')
    rcases VR.df hbx with e1|⟨rfl,rfl,e1⟩
    ·have cH:=ir (ty:=ty) (w:=w) ht ht2 hi pT ff (b:=b) (off:=off) (k:=k) (cap:=cap) dt (w':=w) rfl
     simp only[Nat.add_zero]at cH
     simp[execOp,resolve,invoke,builtin,e1,cH]
    ·have cH:=nn (ty:=ty) ht ht2 hi pT ff
     simp[execOp,resolve,invoke,builtin,e1,cH]
   ·have e1:=VR.yN hbx (by omega)
    obtain⟨h2,hp2⟩:=h.D8 (off:=off+k*sz) (ds:=ds) (news:=news) hsb hcb (by rw[ff.len,ff.qm]) (by rw[ff.qm];exact hmul) ff.fl Rw.vw ff.k9
    have ajp:off+k*sz+news.length<=c.size:=by rw[ff.len,hcr.1];exact hmul
    have eM:=eo (P:=P) b (off+k*sz) et (0,0) news 0 c w hcb (fun j _ hj=>by simp at hj) (by grind) ff.one
    have cH:=ir (ty:=ty) (w:=w) ht ht2 hi pT ff (b:=b) (off:=off) (k:=k) (cap:=cap) dt (w':=w.setRow b (laid c (off+k*sz) news)) (by grind [laid])
    intro pos after gd next Q hn
    refine aZ ?_ (hn G _ _ _ (h2.SJ hd rfl (.arr b off (k+m) cap) rfl) hp2 hk')
    simp[execOp,resolve,invoke,builtin,e1,cH]
 ·have hgr:cap<k+m:=by omega
  obtain⟨cf,hk⟩:=CX hgr
  have grow:∀(base:Option Addr)(us:List Value),a.eval u=.slice base k cap->us.length=k*sz->olds.length=k*sz->Fl olds->views olds=olds->
   (Builtin.firstCells sz k (.slice base k cap)).run P w.drew=.ok us.toArray w.drew->(∀(j:Nat)(c:AV)(u:Value),olds[j]? =some c->us[j]? =some u->VR w G.R c u)->
   qI P G n D w a (.call {callee:=.builtin .append,args:= #[u,v],argTypes:= #[t,t']}) ty d K:=by
   intro base us e1 hul Zy hof hov hfc sW
   have cH:=rF (ty:=ty) ht ht2 hi hz pT ff hfc hgr (by grind) (by grind)
   have hge:k+m<=grownCap w (k+m) cap e:=grownCap_ge w (k+m) cap e
   obtain⟨zz1,zz2,zz3,zz4,_⟩:=Va (grownCap w (k+m) cap e -(k+m))
   obtain⟨G2,h3,h4⟩:=(h.drew).MC (t:=e) (c:=us.toArray++news.toArray++Builtin.zeroCells zv.cells (grownCap w (k+m) cap e -(k+m)))
    (cs:=olds++ds++(List.replicate (grownCap w (k+m) cap e -(k+m)) z).flatten) (d:=d) hd (.inr ⟨k+m,grownCap w (k+m) cap e,rfl,rfl⟩)
    (fun G' w' o hp=>by
      have hl1:=ff.len
      have hl2:=ff.qm
      refine⟨by grind,fun j x y hx hy=>?_⟩
      have zn:∀(l:List AV)(q:Nat),views l=l->l[q]? =some x->dy G' w' (o j) x y:=by
       intro l q hvl hq
       rw[<-hvl,eY]at hq
       cases hz':l[q]? with
       |none=>grind
       |some x'=>grind [dy.view]
      by_cases hj1:j<olds.length
      ·rw[List.append_assoc,List.getElem?_append_left hj1]at hx
       rw[Array.append_assoc,Array.getElem?_append_left (by simp;omega)]at hy
       exact⟨hp.vr h.drew.bj ((aK.drew G w).vr h.bj (sW j x y hx (by grind))),zn _ _ hov hx⟩
      ·by_cases hj2:j<olds.length+ds.length
       ·rw[List.getElem?_append_left (by simp;omega),List.getElem?_append_right (by omega)]at hx
        rw[Array.getElem?_append_left (by simp;omega),Array.getElem?_append_right (by simp;omega)]at hy
        simp only[List.size_toArray,List.getElem?_toArray]at hy
        rw[hul,<-Zy]at hy
        exact⟨hp.vr h.drew.bj ((aK.drew G w).vr h.bj (ff.k9 _ x y hx hy)),zn _ _ Rw.vw hx⟩
       grind [List.getElem?_append_right,Array.getElem?_append_right,List.length_append,yd,Cg])
    (fun c hc=>by
      rcases List.mem_append.1 hc with hc|hc
      ·rcases List.mem_append.1 hc with hc|hc
       ·exact hof c hc
       ·exact ff.fl c hc
      ·exact zz4 c hc)
   intro pos after gd next Q hn
   refine aZ ?_ (hn G2 _ _ _ h3 ((aK.drew G w).trans h4) (hk _ _ (h.store.get_none h.bj) hge))
   simp[execOp,resolve,invoke,builtin,e1,cH]
  rcases VR.df hbx with e1|⟨rfl,rfl,e1⟩
  ·rcases hold with⟨rfl,rfl⟩|⟨cs,hsb,hle,rfl⟩
   ·exact grow _ [] e1 (by simp) (by simp) Fl.nil rfl (run_firstCells_some w.drew sz 0 ⟨b,off,none⟩ 0 cap [] (by simp) (fun j v hj=>by simp at hj)) (fun j c u hc=>by simp at hc)
   ·have hat:=h.store.at hsb hle
    obtain⟨us,u1,u2,u3⟩:=hat.k9
    have hfl:Fl (views (AB.sub cs off (k*sz))):=by obtain⟨_,_,_,hf⟩:=hat;exact hf
    have hlen:(views (AB.sub cs off (k*sz))).length=k*sz:=by simp only[views,List.length_map];exact jD hle
    exact grow _ us e1 (by rw[u1,hlen]) hlen hfl (oY _) (run_firstCells_some w.drew sz k ⟨b,off,none⟩ k cap us (by rw[u1,hlen]) u2) u3
  ·rcases hold with⟨_,rfl⟩|⟨cs,hsb,hle,rfl⟩
   ·exact grow none [] e1 (by simp) (by simp) Fl.nil rfl (by simp[Builtin.firstCells]) (fun j c u hc=>by simp at hc)
   ·have:views (AB.sub cs off (0*sz))=[]:=by simp[AB.sub,views]
    rw[this]at grow
    exact grow none [] e1 (by simp) (by simp) Fl.nil rfl (by simp[Builtin.firstCells]) (fun j c u hc=>by simp at hc)
theorem FC{t t' ty e:TypeId}{i:TypeInfo}{z:Value}{sz m:Nat}{k':IntKind}(ht:P.underlying t=some (.slice e))(ht':P.underlying t'=some (.int k'))(hi:P.info? e=some i)(hz:i.zero=some z)(hsz:i.size=sz)(aj3:0<sz){c:Int}(hc0:0<=c)(hm:c.toNat=m){base:Option Addr}{k cap:Nat}{olds:List Value}
 (hold:(Builtin.firstCells sz k (.slice base k cap)).run P w.drew=.ok olds.toArray w.drew)(cf:cap<k+m)(CW:(k+m)*i.bytes<=room)(hb0:0<i.bytes):
 (Builtin.append_ #[t,t'] ty #[.slice base k cap,.int .i64 c]).run P w=.ok (.slice (some ⟨w.heap.size,0,none⟩) (k+m) (grownCap w (k+m) cap e))
   (w.drew.alloc (.cells (olds.toArray++Builtin.zeroCells z.cells m++Builtin.zeroCells z.cells (grownCap w (k+m) cap e -(k+m))) e)):=by
 subst hsz
 subst hm
 have h3:¬(k+c.toNat<=cap):=by omega
 have h4:¬(281474976710656<Builtin.nextslicecap (k+c.toNat) cap*i.bytes):=by have:=growslice_fits cf CW;omega
 have h5:k+c.toNat<=(k+c.toNat)*i.bytes:=Nat.le_mul_of_pos_right _ hb0
 have U3:=CW
 unfold room at U3
 have hcb:c<=140737488355328:=by omega
 have h6:¬((9223372036854775807:Int)<(k:Int)+(c.toNat:Int)):=by omega
 have h6':¬((9223372036854775807:Int)<(k:Int)+c):=by omega
 have adL:¬((9223372036854775807:Int)<(k:Int)+max c 0):=by omega
 have hw:IntKind.i64.wrap c=c:=AJ hc0 (by omega)
 have h7:¬(c<0):=by omega
 have h8:¬((281474976710656:Int)<c*(i.bytes:Int)):=by
  have h9:c.toNat*i.bytes<=(k+c.toNat)*i.bytes:=Nat.mul_le_mul_right _ (by omega)
  have h10:((c.toNat*i.bytes:Nat):Int)=c*(i.bytes:Int):=by rw[Int.natCast_mul,Int.toNat_of_nonneg hc0]
  omega
 by_cases hc1:c.toNat=0
 ·have:Builtin.zeroCells z.cells c.toNat= #[]:=by rw[hc1];simp[Builtin.zeroCells]
  have hm0:c.toNat*i.size=0:=by rw[hc1,Nat.zero_mul]
  simp[Builtin.append_,run_underlying ht,run_underlying ht',sizeOf,typeInfo,zeroValue,hi,hz,asInt,asIntOf,hw,h7,h8,h3,h4,h6,h6',adL,hm0,Question.forced,hold,newRow,grownCap,this]<;>
   (congr 2;apply Array.ext';simp[List.append_assoc])
 ·have hm0:¬(c.toNat*i.size=0):=by
   intro e
   rcases Nat.mul_eq_zero.1 e with e|e<;>omega
  simp[Builtin.append_,run_underlying ht,run_underlying ht',sizeOf,typeInfo,zeroValue,hi,hz,asInt,asIntOf,hw,h7,h8,h3,h4,h6,h6',adL,hm0,Question.forced,hold,newRow,grownCap]<;>
   (congr 2;apply Array.ext';simp[List.append_assoc])
theorem JU(h:Inv G n D E a w){op:Op}{ty:TypeId}{sz by':Nat}{z:List AV}{x y:IX}{d:Option Nat}{K:St->Prop}(hd:bC n d=true)(hc:aA P op ty (.m4 sz by' z x y)=true)(hw:jl P (.m4 sz by' z x y) d E K):qI P G n D w a op ty d K:=by
 cases op<;>first|(simp[aA]at hc;done)|skip
 rename_i c
 simp only[aA]at hc
 split at hc<;>try(cases hc;done)
 rename_i u v t t' hb
 have hce:=qR hb
 subst hce
 simp only[Bool.and_eq_true]at hc
 obtain⟨⟨⟨hu,hv⟩,ht'⟩,hc⟩:=hc
 obtain⟨k',ht2⟩:=Vl ht'
 split at hc<;>try(cases hc;done)
 rename_i e ht
 have ht:=c3 ht
 simp only[Bool.and_eq_true]at hc
 obtain⟨⟨⟨⟨hs,hby⟩,jg⟩,yC⟩,hzi⟩:=hc
 obtain⟨i,hi,pT⟩:=j8 hs
 obtain⟨zv,_,⟨i1,hi1,hz,hz1⟩,Va⟩:=uM hzi
 rw[hi]at hi1;injection hi1 with hi1;subst hi1
 have jg:=of_decide_eq_true jg
 have yC:=of_decide_eq_true yC
 have hby:i.bytes=by':=by
  unfold kt at hby
  rw[hi]at hby
  simpa using hby
 have hw':sD sz by' z E d K (E.x x) (xg true E y):=hw
 have hbx:=XR.aV h hu
 have hbv:=BR.aV h hv
 generalize E.x x=xv at hw' hbx
 generalize xg true E y=yv at hw' hbv
 unfold sD at hw'
 split at hw'<;>try(exact hw'.elim)
 rename_i b off k cap q
 obtain⟨hq0,hgr,hvz,hw'⟩:=hw'
 have ev:=VR.dj hbv
 generalize hm:q.toNat=m at hw' hgr
 obtain⟨zm1,zm2,zm3,zm4,zm5⟩:=Va m
 cases hol:n9 E.s sz b off k with
 |none=>rw[hol]at hw';exact hw'.elim
 |some olds=>
 rw[hol]at hw'
 obtain⟨ZD,XL,CX⟩:=hw'
 have hold:k=0/\olds=[]\/∃cs,E.s b=some (.cells cs)/\off+k*sz<=cs.length/\olds=views (AB.sub cs off (k*sz)):=by
  unfold n9 at hol
  by_cases hk:k=0
  ·grind
  ·rw[show(k==0)=false by grind]at hol
   cases hca:jf k sz off (E.s b)with
   |none=>grind
   |some q=>grind [q1,q2,qS]
 obtain⟨cf,hk⟩:=CX hgr
 obtain⟨ds,hds⟩:∃ds,ds=(List.replicate m z).flatten:=⟨_,rfl⟩
 obtain⟨news,wm⟩:∃news,news=(Builtin.zeroCells zv.cells m).toList:=⟨_,rfl⟩
 have aj4:views ds=ds:=by
  rw[hds];unfold views at hvz⊢
  rw[List.map_flatten,List.map_replicate,hvz]
 rw[<-hds]at hk
 have grow:∀(base:Option Addr)(us:List Value),a.eval u=.slice base k cap->us.length=k*sz->olds.length=k*sz->Fl olds->views olds=olds->
  (Builtin.firstCells sz k (.slice base k cap)).run P w.drew=.ok us.toArray w.drew->(∀(j:Nat)(c:AV)(u:Value),olds[j]? =some c->us[j]? =some u->VR w G.R c u)->
  qI P G n D w a (.call {callee:=.builtin .append,args:= #[u,v],argTypes:= #[t,t']}) ty d K:=by
  intro base us e1 hul Zy hof hov hfc sW
  have cH:=FC (ty:=ty) ht ht2 hi hz pT jg hq0 hm hfc hgr (by grind) (by grind)
  have hge:k+m<=grownCap w (k+m) cap e:=grownCap_ge w (k+m) cap e
  obtain⟨zz1,zz2,zz3,zz4,_⟩:=Va (grownCap w (k+m) cap e -(k+m))
  obtain⟨G2,h3,h4⟩:=(h.drew).MC (t:=e) (c:=us.toArray++Builtin.zeroCells zv.cells m++Builtin.zeroCells zv.cells (grownCap w (k+m) cap e -(k+m)))
   (cs:=olds++ds++(List.replicate (grownCap w (k+m) cap e -(k+m)) z).flatten) (d:=d) hd (.inr ⟨k+m,grownCap w (k+m) cap e,rfl,rfl⟩)
   (fun G' w' o hp=>by
     have hl1:news.length=m*sz:=by rw[wm,zm1,ZD]
     have hl2:ds.length=m*sz:=by rw[hds,zm2,ZD]
     have hna:Builtin.zeroCells zv.cells m=news.toArray:=by rw[wm]
     rw[hna]
     refine⟨by grind,fun j x y hx hy=>?_⟩
     have zn:∀(l:List AV)(q:Nat),views l=l->l[q]? =some x->dy G' w' (o j) x y:=by
      intro l q hvl hq
      rw[<-hvl,eY]at hq
      cases hz':l[q]? with
      |none=>grind
      |some x'=>grind [dy.view]
     by_cases hj1:j<olds.length
     ·rw[List.append_assoc,List.getElem?_append_left hj1]at hx
      rw[Array.append_assoc,Array.getElem?_append_left (by simp;omega)]at hy
      exact⟨hp.vr h.drew.bj ((aK.drew G w).vr h.bj (sW j x y hx (by grind))),zn _ _ hov hx⟩
     grind [List.getElem?_append_left,List.getElem?_append_right,Array.getElem?_append_left,Array.getElem?_append_right,List.size_toArray,aK.drew,yd,List.length_append,Cg])
   (fun c hc=>by
     rcases List.mem_append.1 hc with hc|hc
     ·rcases List.mem_append.1 hc with hc|hc
      ·exact hof c hc
      ·exact zm4 c (by grind)
     ·exact zz4 c hc)
  intro pos after gd next Q hn
  refine aZ ?_ (hn G2 _ _ _ h3 ((aK.drew G w).trans h4) (hk _ _ (h.store.get_none h.bj) hge))
  simp[execOp,resolve,invoke,builtin,e1,ev,cH]
 rcases VR.df hbx with e1|⟨rfl,rfl,e1⟩
 ·rcases hold with⟨rfl,rfl⟩|⟨cs,hsb,hle,rfl⟩
  ·exact grow _ [] e1 (by simp) (by simp) Fl.nil rfl (run_firstCells_some w.drew sz 0 ⟨b,off,none⟩ 0 cap [] (by simp) (fun j v hj=>by simp at hj)) (fun j c u hc=>by simp at hc)
  ·have hat:=h.store.at hsb hle
   obtain⟨us,u1,u2,u3⟩:=hat.k9
   have hfl:Fl (views (AB.sub cs off (k*sz))):=by obtain⟨_,_,_,hf⟩:=hat;exact hf
   have hlen:(views (AB.sub cs off (k*sz))).length=k*sz:=by simp only[views,List.length_map];exact jD hle
   exact grow _ us e1 (by rw[u1,hlen]) hlen hfl (oY _) (run_firstCells_some w.drew sz k ⟨b,off,none⟩ k cap us (by rw[u1,hlen]) u2) u3
 ·rcases hold with⟨_,rfl⟩|⟨cs,hsb,hle,rfl⟩
  ·exact grow none [] e1 (by simp) (by simp) Fl.nil rfl (by simp[Builtin.firstCells]) (fun j c u hc=>by simp at hc)
  ·have:views (AB.sub cs off (0*sz))=[]:=by simp[AB.sub,views]
   rw[this]at grow
   exact grow none [] e1 (by simp) (by simp) Fl.nil rfl (by simp[Builtin.firstCells]) (fun j c u hc=>by simp at hc)
end
end Go.AB
end
