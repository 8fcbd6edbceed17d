/- A part. -/
import Derived.Test.YtkeagffgdajggaaGreatSt4
import Derived.Laws.BytesString
import Derived.MapKept
import Derived.ChangeKeysEq
set_option linter.unusedSimpArgs false
set_option linter.unusedVariables false
section
namespace Go.AB
open Go
section
variable{P:Program}{G G':Gh}{n:Nat}{D:List Deferred}{E:St}{a:Act}{w w':World}
theorem Inv.P0(h:Inv G n D E a w){d:Option Nat}(hd:aS n d=true){sz m cap:Nat}{cs:List AV}{c:Array Value}{t:TypeId}{ob:cD}{own:Bool}(hob:∀i,d=some i->ob=.slot i 0)(adG:d=none->ob=.none)
 (hl:cs.length=m*sz)(fQ:m<=cap)(hsz:c.size=cap*sz)(hfl:Fl cs)
 (hcs:∀(j:Nat)(x:AV),cs[j]? =some x->∃y,c[j]? =some y/\VR w G.R x y)(fz:Nat×Nat)(hfz:(∀k,k<c.size->¬(fz.1<=k/\k<fz.2))/\fz.1<=fz.2)(hz0:own=true->fz=(0,0)\/(0<m/\∃x,c[0]? =some (.int .u8 x)))(hsp:∀(k:Nat)(y:Value),m*sz<=k->c[k]? =some y->y.oneCell'=true):
 ∃G',Inv G' n D (E.put d (.sl own sz m cs)) (a.put d (.slice (some ⟨w.heap.size,0,none⟩) m cap)) (w.alloc (.cells c t fz))/\az G w G' (w.alloc (.cells c t fz)):=by
 have hp:=(eG h.aJ (.cells c t fz) ob cs.length).2.1
 obtain⟨h1,h2⟩:=h.alloc (.cells c t fz) ob cs.length d hd (.sl own sz m cs) (.slice (some ⟨w.heap.size,0,none⟩) m cap) E.lp (jv h.store h.aJ _ ob cs.length) (fun _ hx=>hx) (fun i t' _ ht=>ht.elim)
  (fun i t' _⟨cs',tB⟩=>by cases tB)
  (fun i hi=>by
    refine⟨?_,?_⟩
    ·refine .sl own sz m cs w.heap.size 0 cap (fun j=>c.getD j undef) hfl hl (by simp) fQ (fun j x hj=>?_) (fun j x hj=>?_)
     ·obtain⟨y,hy,_⟩:=hcs j x hj
      rw[Nat.zero_add,cell_of_row _ (heap_alloc_new w _),hy]
      simp[Array.getD_eq_getD_getElem?,hy]
     ·obtain⟨y,hy,hv⟩:=hcs j x hj
      have:c.getD j undef=y:=by simp[Array.getD_eq_getD_getElem?,hy]
      rw[this]
      exact hp.vr h.aJ hv
    ·cases own with
     |false=>trivial
     |true=>
     intro base m' dL hv hc
     injection hv with e1 e2 e3
     subst e3
     exact⟨w.heap.size,0,c,t,fz,e1.symm,by simp[hob i hi],by simp[hl],heap_alloc_new w _,by rw[hsz,Nat.zero_add],hfz.1,hfz.2,rfl,hz0 rfl,fun k y hk=>hsp k y (by omega)⟩)
 exact⟨_,by cases d<;>exact h1,h2⟩
theorem II(l:List Value):∀(m:Nat),((List.replicate m l).flatten)=((List.range (m*l.length)).map fun i=>l.getD (i % l.length) undef):=by
 intro m
 apply List.ext_getElem?
 intro j
 rcases Nat.eq_zero_or_pos l.length with h0|hp
 ·have:l=[]:=List.eq_nil_of_length_eq_zero h0
  subst this
  simp
 ·induction m generalizing j with
  |zero=>simp
  |succ m ih=>
   rw[List.replicate_succ,List.flatten_cons]
   by_cases hj:j<l.length
   ·rw[List.getElem?_append_left hj,List.getElem?_map,List.getElem?_range (by rw[Nat.add_mul,Nat.one_mul];omega)]
    simp[Nat.mod_eq_of_lt hj,List.getD_eq_getElem?_getD,List.getElem?_eq_getElem hj]
   ·rw[List.getElem?_append_right (by omega),ih,List.getElem?_map,List.getElem?_map]
    by_cases hlt:j<(m+1)*l.length
    ·have h1:j -l.length<m*l.length:=by rw[Nat.add_mul,Nat.one_mul]at hlt;omega
     rw[List.getElem?_range hlt,List.getElem?_range h1]
     simp only[Option.map_some]
     congr 2
     rw[Nat.mod_eq_sub_mod (by omega:l.length<=j)]
    ·have h1:¬(j -l.length<m*l.length):=by rw[Nat.add_mul,Nat.one_mul]at hlt;omega
     rw[List.getElem?_eq_none (by simp;omega),List.getElem?_eq_none (by simp;omega)]
theorem sI(z:Array Value)(m:Nat):((Array.range (m*z.size)).map fun i=>z[i % z.size]!)=((List.replicate m z.toList).flatten).toArray:=by
 rw[II]
 apply Array.ext'
 simp only[Array.toList_map,Array.toList_range,Array.length_toList]
 apply List.map_congr_left
 intro i hi
 have hlt:i<m*z.size:=by simpa using hi
 have hz:0<z.size:=by
  rcases Nat.eq_zero_or_pos z.size with h|h
  ·rw[h,Nat.mul_zero]at hlt;omega
  ·exact h
 have hm:=Nat.mod_lt i hz
 rw[getElem!_pos z (i % z.size) hm]
 simp[List.getD_eq_getElem?_getD,hm]
theorem Ix(h:Inv G n D E a w){op:Op}{ty:TypeId}{sz m:Nat}{z:List AV}{ps:List (Nat×Nat×IX)}{d:Option Nat}{K:St->Prop}(hd:aS n d=true)(hc:aq P op ty (.bB sz m z ps)=true)(hw:gz P (.bB sz m z ps) d E K):mr P G n D w a op ty d K:=by
 cases op<;>first|(simp[aq]at hc;done)|skip
 rename_i t m' qs
 simp only[aq,Bool.and_eq_true,beq_iff_eq]at hc
 obtain⟨rfl,hc⟩:=hc
 split at hc<;>try(cases hc;done)
 rename_i e ht
 have ht:=cz ht
 simp only[Bool.and_eq_true]at hc
 obtain⟨⟨⟨⟨hs,gQ⟩,hp⟩,Pg⟩,hz⟩:=hc
 obtain⟨i,hi,oG⟩:=jF hs
 rw[hi]at hz
 simp only at hz
 split at hz<;>try(cases hz;done)
 rename_i zv hzv
 simp only[Bool.and_eq_true,beq_iff_eq]at hz
 obtain⟨hzr,hzs⟩:=hz
 have gQ:=of_decide_eq_true gQ
 have Pg:=of_decide_eq_true Pg
 have hw':vH sz m E d K (fill (xg true E) z ps):=hw
 cases hfl:fill (xg true E) z ps with
 |none=>rw[hfl]at hw';exact hw'.elim
 |some ds=>
  rw[hfl]at hw'
  obtain⟨hlen,hk⟩:=hw'
  obtain⟨hl,hpa⟩:=vj _ _ hp
  obtain⟨hz1,hz2⟩:=AW hzr
  have gJ:Row w G.R z ((Array.range (m*sz)).map (zv.cells[·% zv.cells.size]!)):=by
   rw[<-hzs,sI]
   exact⟨by simpa using hz1,fun j c u hc hu=>q9 (hz2 j c u hc (by simpa using hu)) w G.R,BA hzr⟩
  have hf:∀(o:Operand)(x:IX),bp o x=true->cO (xg true E x)=true->VR w G.R (xg true E x) (a.eval o):=fun o x hx hi=>by
   have:=BR.aG h hx
   generalize xg true E x=av at hi this
   cases av<;>first|exact this|(simp[cO]at hi)
  obtain⟨us,h1,h2⟩:=pL h hf (fun i=>some (i*sz,sz)) qs.toList ps z ds _ ⟨hl,fun j q p hq hp'=>by
   obtain⟨⟨e1,e2⟩,hx⟩:=hpa j q p hq hp'
   exact⟨by rw[e1,e2],hx⟩⟩ gJ hfl
  obtain⟨G1,h3,h4⟩:=h.P0 (t:=e) (ob:=match d with|some i=>.slot i 0|none=>.none) hd (fun i hi=>by subst hi;rfl) (fun hn=>by subst hn;rfl) hlen (Nat.le_refl m) (by rw[h2.1,hlen]) h2.2.2
   (fun j x hx=>by
     have hlt:j<us.size:=by rw[h2.1];exact(List.getElem?_eq_some_iff.1 hx).1
     exact⟨us[j],Array.getElem?_eq_getElem hlt,h2.2.1 j x _ hx (Array.getElem?_eq_getElem hlt)⟩) (0,0) ⟨fun k _ hk=>by simp at hk,Nat.le_refl _⟩ (own:=true) (fun _=>.inl rfl) (fun k y hk hy=>by
     have:=(Array.getElem?_eq_some_iff.1 hy).1
     rw[h2.1,hlen]at this;omega)
  intro pos after gd next Q hn
  refine aI ?_ (hn G1 _ _ _ h3 h4 hk)
  by_cases hm0:m*sz=0
  ·have hm:m=0:=by
    rcases Nat.mul_eq_zero.1 hm0 with h|h
    ·exact h
    ·omega
   subst hm
   simp only[Nat.zero_mul]at h1
   have:(Array.range 0).map (zv.cells[·% zv.cells.size]!)= #[]:=by simp
   rw[this]at h1
   have hr0:Array.map (fun _:Nat=>(default:Value)) (Array.range 0)= #[]:=by apply Array.ext';simp
   simp[execOp,Instr.buildSlice,run_underlying ht,run_sizeOf hs,hr0,h1,newRow]
  ·have h24:¬(16777216<m*sz):=by omega
   simp[execOp,Instr.buildSlice,run_underlying ht,run_sizeOf hs,h24,hm0,zeroValue,typeInfo,hi,hzv,h1,newRow]
theorem Bx(s:List UInt8):Fl (s.map fun c=>AV.int .u8 c.toNat):=by
 intro c hc
 simp only[List.mem_map]at hc
 obtain⟨x,_,rfl⟩:=hc
 rfl
theorem Kp(h:Inv G n D E a w){op:Op}{ty:TypeId}{x:IX}{d:Option Nat}{K:St->Prop}(hd:aS n d=true)(hc:aq P op ty (.eP x)=true)(hw:gz P (.eP x) d E K):mr P G n D w a op ty d K:=by
 cases op<;>first|(simp[aq]at hc;done)|skip
 rename_i s t y
 simp only[aq,Bool.and_eq_true]at hc
 obtain⟨hy,hc⟩:=hc
 split at hc<;>try(cases hc;done)
 rename_i e hs ht
 split at hc<;>try(cases hc;done)
 rename_i he
 have hb:=BR.aG h hy
 have hw':AY E d K (xg true E x):=hw
 generalize xg true E x=xv at hb hw'
 unfold AY at hw'
 split at hw'<;>try(exact hw'.elim)
 rename_i ow sz m cs
 obtain⟨rfl,l,rfl,hk⟩:=hw'
 have oH:Inv G n D (E.put d (.str l)) (a.put d (.string ⟨l.toArray⟩)) w:=by
  have:=h.put (s':=E.s) (lp':=E.lp) d (fun i hi=>by subst hi;simpa[aS]using hd) (.str l) (.string ⟨l.toArray⟩) h.aJ (az.refl G w) h.store (fun _ hx=>hx) (fun i t _ ht=>ht.elim) (fun i t _⟨cs,hcs⟩=>by cases hcs)
   (fun _ _ _ _=>⟨rfl,rfl,rfl⟩) (fun _ _ _ _ _ _ hcc=>⟨hcc,rfl,rfl⟩) (fun i hdi=>⟨.str l,trivial⟩)
  cases d<;>exact this
 intro pos after gd next Q hn
 refine aI (v:=.string ⟨l.toArray⟩) ?_ (hn G _ _ _ oH (az.refl G w) hk)
 rcases VR.fD hb with⟨e1,_,hl0⟩|⟨b,off,cap,e1,hlen,_,_,u,u1,u2,_⟩
 ·have:l=[]:=by simpa using hl0
  subst this
  rcases e1 with e1|⟨_,ad,cap,e1⟩
  ·have:=run_convert_bytes_nil (P:=P) w s e hs he 0 0 t ht
   simp[execOp,e1,this]
   rfl
  ·have:=jD (P:=P) w s e hs he ad cap t ht
   simp[execOp,e1,this]
   rfl
 ·have hm:l.length=m:=by simpa using hlen
  have:=run_convert_bytes_arg (P:=P) w s e hs he b off m cap (l.map fun c=>(c.toNat:Int)) (by simpa using hm) (fun i hi=>by
   have hil:i<l.length:=by omega
   have hc0:(l.map fun c=>AV.int .u8 c.toNat)[i]? =some (.int .u8 l[i].toNat):=by simp[hil]
   rw[u1 i _ hc0,VR.bT (u2 i _ hc0)]
   simp[List.getD_eq_getElem?_getD,hil]) t ht
  have hs2:strOfNums (l.map fun c=>(c.toNat:Int))=⟨l.toArray⟩:=by
   unfold strOfNums
   congr 2
   simp[Function.comp_def]
  rw[hs2]at this
  simp[execOp,e1,this]
theorem az.drew(G:Gh)(w:World):az G w G w.drew:=⟨rfl,rfl,rfl,Nat.le_succ _,Nat.le_refl _,fun _ _=>Nat.le_refl _,fun _ _ _ _=>rfl,fun _ _ _=>rfl,fun _ _ h=>⟨h,rfl⟩,fun _ _ h=>⟨h,rfl⟩⟩
theorem Inv.drew(h:Inv G n D E a w):Inv G n D E a w.drew:=by
 have hg:bR G w.drew:=⟨h.aJ.ik,h.aJ.iT⟩
 have:=h.put (s':=E.s) (lp':=E.lp) none (fun i hi=>by cases hi) .undef undef hg (az.drew G w) (h.store.mono h.aJ (az.drew G w) (fun _ hb=>⟨hb,rfl,rfl⟩) (fun _ _ _ _ hc=>⟨hc,rfl,rfl⟩)) (fun _ hx=>hx) (fun i t hi=>by cases hi) (fun i t hi=>by cases hi)
  (fun _ _ _ _=>⟨rfl,rfl,rfl⟩) (fun _ _ _ _ _ _ hcc=>⟨hcc,rfl,rfl⟩) (fun i hi=>by cases hi)
 exact this
theorem Gb(h:Inv G n D E a w){op:Op}{ty:TypeId}{x:IX}{d:Option Nat}{K:St->Prop}(hd:aS n d=true)(hc:aq P op ty (.gN x)=true)(hw:gz P (.gN x) d E K):mr P G n D w a op ty d K:=by
 cases op<;>first|(simp[aq]at hc;done)|skip
 rename_i s t y
 simp only[aq,Bool.and_eq_true]at hc
 obtain⟨hy,hc⟩:=hc
 split at hc<;>try(cases hc;done)
 rename_i e hs ht
 split at hc<;>try(cases hc;done)
 rename_i he
 have hb:=BR.aG h hy
 have hw':oB E d K (xg true E x):=hw
 generalize xg true E x=xv at hb hw'
 unfold oB at hw'
 split at hw'<;>try(exact hw'.elim)
 rename_i l
 have e1:=VR.eV hb
 have hk:K (E.put d (.sl (Sm l) 1 l.length (l.map fun c=>.int .u8 c.toNat))):=hw'
 let cap:=(Question.appendCap l.length 0 e).cut (w.tape w.drawn (.appendCap l.length 0 e))
 have fQ:l.length<=cap:=Nat.le_add_right _ _
 let c:Array Value:=(l.toArray.map fun b=>Value.int .u8 b.toNat)++Array.replicate (cap -l.length) (.int .u8 0)
 have hcs:c.size=cap:=by simp[c];omega
 obtain⟨G1,h3,h4⟩:=(h.drew).P0 (t:=e) (c:=c) (m:=l.length) (cs:=l.map fun c=>AV.int .u8 c.toNat) (cap:=cap) (sz:=1) (ob:=match d with|some i=>.slot i 0|none=>.none) hd (fun i hi=>by subst hi;rfl) (fun hn=>by subst hn;rfl) (by simp) fQ (by rw[hcs];simp) (Bx l)
  (fun j x hx=>by
    rw[List.getElem?_map]at hx
    cases hj:l[j]? with
    |none=>rw[hj]at hx;cases hx
    |some b0=>
     rw[hj]at hx;simp at hx
     have hlt:j<l.length:=(List.getElem?_eq_some_iff.1 hj).1
     refine⟨.int .u8 b0.toNat,?_,by rw[<-hx];exact .int _ _⟩
     have hjb:l[j]=b0:=by simpa[hlt]using hj
     simp[c,Array.getElem?_append,hlt,hjb]) (c.size,c.size+1) ⟨fun k hk hh=>by omega,Nat.le_succ _⟩ (own:=Sm l) (fun hne=>.inr (by
    cases l with
    |nil=>cases hne
    |cons x0 l=>exact⟨Nat.succ_pos _,x0.toNat,by
     show(Array.map _ _++_)[0]? =_
     rw[Array.getElem?_append_left (by simp)];simp⟩)) (fun k y _ hy=>by
    obtain⟨hk,hy⟩:=Array.getElem?_eq_some_iff.1 hy
    have hm:y∈c:=by rw[<-hy];exact Array.getElem_mem hk
    rcases Array.mem_append.1 hm with hm|hm
    ·obtain⟨b,_,rfl⟩:=Array.mem_map.1 hm;rfl
    ·rw[(Array.mem_replicate.1 hm).2];rfl)
 intro pos after gd next Q hn
 refine aI (w':=(w.drew).alloc (.cells c e (c.size,c.size+1))) ?_ (hn G1 _ _ _ h3 ((az.drew G w).trans h4) hk)
 have hsz:(ByteArray.mk l.toArray).size=l.length:=by simp[ByteArray.size]
 have Pa:(Conv.stringToBytes e ⟨l.toArray⟩).run P w=.ok (.slice (some ⟨w.heap.size,0,none⟩) l.length cap) ((w.drew).alloc (.cells c e (c.size,c.size+1))):=by
  have hfr:∀(w0:World),(w0.alloc (.cells c e)).freeze {block:=w0.heap.size,off:=c.size} 1=w0.alloc (.cells c e (c.size,c.size+1)):=by
   intro w0
   unfold World.freeze World.alloc
   simp only[Nat.succ_ne_self,if_false]
   congr 1
   apply Array.ext
   ·simp
   ·intro k h1 h2
    simp only[Array.getElem_modify,Array.getElem_push]
    by_cases hk:k<w0.heap.size
    ·have:w0.heap.size≠k:=by omega
     simp[hk,this]
    ·have:k=w0.heap.size:=by simp at h1;omega
     subst this
     simp
  have KD:((w.drew).alloc (.cells c e)).shape? w.heap.size=some (e,c.size):=by
   unfold World.shape?
   rw[show((w.drew).alloc (.cells c e)).heap[w.heap.size]? =some (.cells c e) from heap_alloc_new w.drew _]
  simp only[Conv.stringToBytes,Sem.run_bind,run_choose,Question.forced,hsz,Bool.false_eq_true,if_false,Result.andThen_ok,newRow,run_newObj,Sem.run_pure,markStringish,run_shape]
  show((Sem.run P (match((w.drew).alloc (.cells c e)).shape? w.heap.size with|some (_,n)=>freeze {block:=w.heap.size,off:=n} 1|x=>pure ()) ((w.drew).alloc (.cells c e))).andThen fun a w'=>Result.ok (Value.slice (some {block:=w.heap.size,off:=0}) l.length cap) w')=_
  rw[KD]
  simp only[run_freeze,Result.andThen_ok]
  exact congrArg _ (hfr w.drew)
 simp[execOp,e1,convert,underlying,hs,ht,he,Pa]
end
section
variable{P:Program}{G G':Gh}{n:Nat}{D:List Deferred}{E:St}{a:Act}{w w':World}
structure Src(P:Program)(w:World)(R:Nat->Nat)(sz m:Nat)(ds:List AV)(v:Value)(news:List Value):Prop where
 len:news.length=m*sz
 nW:ds.length=m*sz
 lenOf:∀w',(Builtin.lenOf v).run P w'=.ok m w'
 first:∀w',w'.heap=w.heap->(Builtin.firstCells sz m v).run P w'=.ok news.toArray w'
 one:∀u∈news,u.oneCell'=true
 ki:∀(j:Nat)(c:AV)(u:Value),ds[j]? =some c->news[j]? =some u->VR w R c u
 fl:Fl ds
theorem xP{w w':World}(h:w'.heap=w.heap)(a:Addr):w'.cell? a=w.cell? a:=by unfold World.cell?;rw[h]
theorem Src.Uh{R:Nat->Nat}{o:Bool}{s sz m:Nat}{ds:List AV}{v:Value}(h:VR w R (.sl o s m ds) v)(hs:s=sz\/m=0):∃news,Src P w R sz m (views ds) v news:=by
 rcases VR.fD h with⟨(rfl|⟨_,ad,cap,rfl⟩),rfl,rfl⟩|⟨b,off,cap,rfl,hl,_,_,hat⟩
 ·exact⟨[],by simp,by simp[views],fun _=>rfl,fun w' _=>by simp[Builtin.firstCells],by simp,fun j c u hc=>by simp[views]at hc,Fl.nil⟩
 ·exact⟨[],by simp,by simp[views],fun _=>rfl,fun w' _=>by simp[Builtin.firstCells,loadCells,loadCellsFrom],by simp,fun j c u hc=>by simp[views]at hc,Fl.nil⟩
 ·have hlen:(views ds).length=m*sz:=by
   rcases hs with rfl|rfl
   ·simp[views,hl]
   ·simp only[views,List.length_map,hl];omega
  have O8:=hat.views
  obtain⟨us,h1,h2,h3⟩:=O8.ki
  have hfl:Fl (views ds):=by obtain⟨_,_,_,hf⟩:=O8;exact hf
  refine⟨us,by rw[h1,hlen],hlen,fun _=>rfl,fun w' hw'=>?_,fun u hu=>?_,h3,hfl⟩
  ·exact run_firstCells_some w' sz m ⟨b,off,none⟩ m cap us (by rw[h1,hlen]) fun j v hj=>by rw[xP hw'];exact h2 j v hj
  ·obtain⟨j,hj⟩:=List.mem_iff_getElem?.1 hu
   have hlt:j<(views ds).length:=by rw[<-h1];exact(List.getElem?_eq_some_iff.1 hj).1
   have hx:=List.getElem?_eq_getElem hlt
   exact gA (hfl _ (List.getElem_mem hlt)) (h3 j _ u hx hj)
theorem Src.G6{R:Nat->Nat}{l:List UInt8}:Src P w R 1 l.length (l.map fun c=>.int .u8 c.toNat) (.string ⟨l.toArray⟩) (l.map fun c=>.int .u8 c.toNat)where
 len:=by simp
 nW:=by simp
 lenOf:=fun w'=>by simp[Builtin.lenOf,ByteArray.size]
 first:=fun w' _=>by
  have:(ByteArray.mk l.toArray).extract 0 l.length=⟨l.toArray⟩:=by
   apply ByteArray.ext
   rw[ByteArray.data_extract]
   simp
  simp[Builtin.firstCells,this]
 one:=fun u hu=>by
  simp only[List.mem_map]at hu
  obtain⟨x,_,rfl⟩:=hu
  rfl
 ki:=fun j c u hc hu=>by
  rw[List.getElem?_map]at hc hu
  cases hj:l[j]? with
  |none=>rw[hj]at hc;cases hc
  |some x=>rw[hj]at hc hu;simp at hc hu;rw[<-hc,<-hu];exact .int _ _
 fl:=Bx l
section runs
variable{t t' ty e:TypeId}{i:TypeInfo}{z:Value}{sz m:Nat}{ds:List AV}{v:Value}{news:List Value}
theorem gx(ht:P.underlying t=some (.slice e))(ht':(∃e',P.underlying t'=some (.slice e'))\/P.underlying t'=some .string)(hi:P.info? e=some i)(hsz:i.size=sz){R:Nat->Nat}(hs:Src P w R sz m ds v news){b off k cap:Nat}
 (bz:k+m<=cap){w':World}(cj:(storeCells ⟨b,off+k*sz,none⟩ news).run P w=.ok () w'):
 (Builtin.append_ #[t,t'] ty #[.slice (some ⟨b,off,none⟩) k cap,v]).run P w=.ok (.slice (some ⟨b,off,none⟩) (k+m) cap) w':=by
 subst hsz
 have h1:=hs.lenOf w
 have h2:=hs.first w rfl
 rcases ht' with⟨e',ht'⟩|ht'<;>
  simp[Builtin.append_,run_underlying ht,run_underlying ht',sizeOf,typeInfo,hi,h1,bz,h2,add_eq,cj]
theorem mb(ht:P.underlying t=some (.slice e))(ht':(∃e',P.underlying t'=some (.slice e'))\/P.underlying t'=some .string)(hi:P.info? e=some i)(hsz:i.size=sz){R:Nat->Nat}(hs:Src P w R sz 0 ds v news):
 (Builtin.append_ #[t,t'] ty #[.slice none 0 0,v]).run P w=.ok (.slice none 0 0) w:=by
 subst hsz
 have h1:=hs.lenOf w
 have h2:=hs.first w rfl
 rcases ht' with⟨e',ht'⟩|ht'<;>
  simp[Builtin.append_,run_underlying ht,run_underlying ht',sizeOf,typeInfo,hi,h1,h2]
theorem p9(ht:P.underlying t=some (.slice e))(ht':(∃e',P.underlying t'=some (.slice e'))\/P.underlying t'=some .string)(hi:P.info? e=some i)(hz:i.zero=some z)(hsz:i.size=sz){R:Nat->Nat}(hs:Src P w R sz m ds v news){base:Option Addr}{k cap:Nat}{olds:List Value}
 (hold:(Builtin.firstCells sz k (.slice base k cap)).run P w.drew=.ok olds.toArray w.drew)(bz:cap<k+m)(BK:(k+m)*i.bytes<=room)(hb0:0<i.bytes):
 (Builtin.append_ #[t,t'] ty #[.slice base k cap,v]).run P w=.ok (.slice (some ⟨w.heap.size,0,none⟩) (k+m) (grownCap w (k+m) cap e))
   (w.drew.alloc (.cells (olds.toArray++news.toArray++Builtin.zeroCells z.cells (grownCap w (k+m) cap e -(k+m))) e)):=by
 subst hsz
 have h1:=hs.lenOf w
 have h2:=hs.first w.drew rfl
 have h3:¬(k+m<=cap):=by omega
 have h4:¬(281474976710656<Builtin.nextslicecap (k+m) cap*i.bytes):=by have:=growslice_fits bz BK;omega
 have h5:k+m<=(k+m)*i.bytes:=Nat.le_mul_of_pos_right _ hb0
 have h6:¬((9223372036854775807:Int)<(k:Int)+m):=by unfold room at BK;omega
 rcases ht' with⟨e',ht'⟩|ht'<;>
  simp[Builtin.append_,run_underlying ht,run_underlying ht',sizeOf,typeInfo,zeroValue,hi,hz,h1,h3,h4,h6,Question.forced,hold,h2,newRow,grownCap]<;>
  (congr 2;apply Array.ext';simp[List.append_assoc])
end runs
theorem Inv.grown(h:Inv G n D E a w){d:Option Nat}(hd:aS n d=true){b off sz k m cap:Nat}{c:Array Value}{t:TypeId}{fz:Nat×Nat}{cs ds:List AV}{v:Value}{news:List Value}{R:Nat->Nat}
 (hb:w.heap[b]? =some (.cells c t fz))(hfz:(∀j,j<c.size->¬(fz.1<=j/\j<fz.2))/\fz.1<=fz.2)(hof:off=0)(hz0:fz=(0,0)\/(0<k/\0<sz/\∃x,c[0]? =some (.int .u8 x)))(hsp:∀(i:Nat)(y:Value),off+k*sz<=i->c[i]? =some y->y.oneCell'=true)(ho:∀i,d=some i->G.O b=.slot i 0)(hon:G.O b≠.none/\G.O b≠.frame/\G.O b≠.sh/\(∀i,G.O b≠.loc i)/\(∀i j,G.O b≠.cell i j)/\(∀i j,G.O b=.slot i j->d=some i/\j=0))
 (hR:G.R b=off+k*sz)(hsz:c.size=off+cap*sz)(fQ:k+m<=cap)(hlc:cs.length=k*sz)(hat:At w G.R b off cs)(hs:Src P w R sz m ds v news)(hRR:R=G.R):
 ∃G',Inv G' n D (E.put d (.sl true sz (k+m) (cs++ds))) (a.put d (.slice (some ⟨b,off,none⟩) (k+m) cap)) (w.setRow b (laid c (off+k*sz) news))/\az G w G' (w.setRow b (laid c (off+k*sz) news)):=by
 subst hRR
 have cF:off+k*sz+news.length<=c.size:=by
  rw[hs.len,hsz,Nat.add_assoc,<-Nat.add_mul]
  exact Nat.add_le_add_left (Nat.mul_le_mul_right _ fQ) _
 let G':=G.ot b (G.O b) (off+(k+m)*sz)
 have hmul:(k+m)*sz=k*sz+m*sz:=Nat.add_mul ..
 have aV:az G w G' (w.setRow b (laid c (off+k*sz) news)):=az.write hb ⟨hon.2.1,hon.1⟩
  (fun j hj=>by rw[hR]at hj;rw[j4 _ _ _ cF,if_neg (by omega)]) (by simp only[G',Gh.UM,if_true,hR,hmul];omega) (fun b' hb'=>by simp[G',hb'])
 have iR:bR G' (w.setRow b (laid c (off+k*sz) news)):=by
  have hlt:b<w.heap.size:=h.aJ.lt hon.1
  refine⟨fun b' hb'=>?_,fun b' hb'=>?_⟩
  ·have kl:w.heap.size<=b':=by simpa[World.setRow]using hb'
   have:b'≠b:=by omega
   simp[G',this,h.aJ.ik b' kl]
  ·have kl:w.heap.size<=b':=by simpa[World.setRow]using hb'
   have:b'≠b:=by omega
   simp[G',this,h.aJ.iT b' kl]
 have same:∀b',b'≠b->G'.O b'=G.O b'/\G'.R b'=G.R b'/\(w.setRow b (laid c (off+k*sz) news)).heap[b']? =w.heap[b']? :=fun b' hb'=>⟨by simp[G',hb'],by simp[G',hb'],setRow_other w b b' _ hb'⟩
 have cj:=h.store.mono h.aJ aV (fun b' hb'=>by
  obtain⟨q1,q2,q3⟩:=same b' (fun e=>by subst e;exact hon.2.2.1 hb')
  exact⟨q1.trans hb',q2,q3⟩) (fun b' c' j _ hc'=>by
  obtain⟨q1,q2,q3⟩:=same c' (fun e=>by subst e;exact hon.2.2.2.2.1 _ _ hc')
  exact⟨q1.trans hc',q2,q3⟩)
 have:=h.put (s':=E.s) (lp':=E.lp) d (fun i hi=>by subst hi;simpa[aS]using hd) (.sl true sz (k+m) (cs++ds)) (.slice (some ⟨b,off,none⟩) (k+m) cap) iR aV cj (fun _ hx=>hx) (fun i t _ ht=>ht.elim) (fun i t _⟨cs',tB⟩=>by cases tB)
  (fun i b' hdi hb'=>same b' (fun e=>by
    subst e
    rcases hb' with⟨j,hb'⟩|hb'
    ·exact hdi (hon.2.2.2.2.2 i j hb').1
    ·exact hon.2.2.2.1 _ hb'))
  (fun i b' c' j hdi hb' hc'=>by
    obtain⟨q1,q2,q3⟩:=same c' (fun e=>by subst e;exact hon.2.2.2.2.1 _ _ hc')
    exact⟨q1.trans hc',q2,q3⟩)
  (fun i hi=>by
    obtain⟨u,u1,u2,u3⟩:=hat
    subst hi
    refine⟨?_,?_⟩
    ·have hll:(cs++ds).length=(k+m)*sz:=by rw[List.length_append,hlc,hs.nW,hmul]
     refine .sl true sz (k+m) (cs++ds) b off cap (fun j=>if j<k*sz then u j else news.getD (j -k*sz) undef) (fun x hx=>?_) hll (by rw[hll];simp[G']) fQ (fun j x hj=>?_) (fun j x hj=>?_)
     ·rcases List.mem_append.1 hx with hx|hx
      ·exact u3 x hx
      ·exact hs.fl x hx
     ·rw[su hb,if_pos rfl,j4 _ _ _ cF]
      have hjl:j<(k+m)*sz:=by rw[<-hll];exact(List.getElem?_eq_some_iff.1 hj).1
      by_cases hjk:j<k*sz
      ·rw[if_neg (by omega),if_pos hjk]
       rw[List.getElem?_append_left (by rw[hlc];exact hjk)]at hj
       rw[<-cell_of_row w hb]
       exact u1 j x hj
      ·have h1:=hs.len
       rw[if_pos (by omega),if_neg hjk]
       have:off+j -(off+k*sz)=j -k*sz:=by omega
       rw[this]
       have hlt:j -k*sz<news.length:=by omega
       simp[List.getD_eq_getElem?_getD,hlt]
     ·by_cases hjk:j<k*sz
      ·rw[if_pos hjk]
       rw[List.getElem?_append_left (by rw[hlc];exact hjk)]at hj
       exact aV.vr h.aJ (u2 j x hj)
      ·rw[if_neg hjk]
       rw[List.getElem?_append_right (by rw[hlc];omega),hlc]at hj
       have h1:=hs.len
       have h2:=hs.nW
       have hlt:j -k*sz<news.length:=by have:=(List.getElem?_eq_some_iff.1 hj).1;omega
       have hn:news[j -k*sz]? =some (news.getD (j -k*sz) undef):=by simp[List.getD_eq_getElem?_getD,hlt]
       exact aV.vr h.aJ (hs.ki _ x _ hj hn)
    ·intro base m' dL hv hc
     injection hv with e1 e2 e3
     subst e3
     exact⟨b,off,_,t,fz,e1.symm,by simp only[G',Gh.QS,if_true];exact ho i rfl,by simp[G'],setRow_heap w b c _ t fz hb,by rw[oY _ _ _ cF,hsz],by rw[oY _ _ _ cF];exact⟨hfz.1,hfz.2,hof,hz0.imp id fun⟨z1,z2,x,z3⟩=>⟨by omega,x,by
      have zp:0<k*sz:=Nat.mul_pos z1 z2
      rw[j4 _ _ _ cF,if_neg (by omega)];exact z3⟩,fun i y hi hy=>by
      rw[j4 _ _ _ cF]at hy
      split at hy
      ·exact hs.one _ (List.mem_of_getElem? hy)
      ·exact hsp i y (by rw[hmul]at hi;omega) hy⟩⟩)
 exact⟨G',by cases d<;>exact this,aV⟩
def An:Option Nat->cD
 |some i=>.slot i 0
 |none=>.res 0
theorem Dw{e:TypeId}{sz:Nat}(h:xE P e sz=true):∃i z,P.info? e=some i/\i.zero=some z/\z.cells.size=sz/\∀y∈z.cells.toList,y.oneCell'=true:=by
 unfold xE at h
 split at h<;>try(cases h;done)
 split at h<;>try(cases h;done)
 rename_i i hi _ z hz
 rw[Bool.and_eq_true]at h
 exact⟨i,z,hi,hz,by simpa using h.1,List.all_eq_true.1 h.2⟩
theorem uD{zs:Array Value}(h:∀y∈zs.toList,y.oneCell'=true)(q:Nat):∀y∈(Builtin.zeroCells zs q).toList,y.oneCell'=true:=by
 intro y hy
 rw[show Builtin.zeroCells zs q=((List.replicate q zs.toList).flatten).toArray from sI zs q]at hy
 simp only[List.mem_flatten,List.mem_replicate]at hy
 obtain⟨l,⟨_,rfl⟩,hm⟩:=hy
 exact h y hm
theorem Km(h:Inv G n D E a w){op:Op}{ty:TypeId}{sz by':Nat}{x y:IX}{d:Option Nat}{K:St->Prop}(hd:aS n d=true)(hc:aq P op ty (.append sz by' x y)=true)(hw:gz P (.append sz by' x y) d E K):mr P G n D w a op ty d K:=by
 cases op<;>first|(simp[aq]at hc;done)|skip
 rename_i c
 simp only[aq]at hc
 split at hc<;>try(cases hc;done)
 rename_i u v t t' hb
 have hce:=nN hb
 subst hce
 simp only[Bool.and_eq_true]at hc
 obtain⟨⟨hu,hv⟩,hc⟩:=hc
 split at hc<;>try(cases hc;done)
 rename_i e ht
 have ht:=cz ht
 simp only[Bool.and_eq_true]at hc
 obtain⟨⟨⟨⟨⟨hs,hby⟩,gQ⟩,oF⟩,hzl⟩,ht'⟩:=hc
 obtain⟨i,z,hi,hz,hzs,hz1⟩:=Dw hzl
 obtain⟨i',hi',oG⟩:=jF hs
 rw[hi]at hi';injection hi' with hi';subst hi'
 have gQ:=of_decide_eq_true gQ
 have oF:=of_decide_eq_true oF
 have hby:i.bytes=by':=by
  unfold jQ at hby
  rw[hi]at hby
  simpa using hby
 have ht2:(∃e',P.underlying t'=some (.slice e'))\/P.underlying t'=some .string:=by
  rcases Bool.or_eq_true .. ▸ht' with h|h
  ·cases he:cq P t' with
   |none=>rw[he]at h;cases h
   |some e'=>exact .inl ⟨e',cz he⟩
  ·exact .inr (xw h)
 have hw':jN sz by' E x d K (E.x x) (E.x y):=hw
 have key:∃k m cs ds news,E.x x=.sl true sz k cs/\Src P w G.R sz m ds (a.eval v) news/\(k+m)*by'<=room/\K ((E.drain x).put d (.sl true sz (k+m) (cs++ds))):=by
  have hbx:=XR.aG h hu
  have hby:=XR.aG h hv
  generalize hx:E.x x=xv at hw' hbx
  generalize hy:E.x y=yv at hw' hby
  unfold jN at hw'
  split at hw'<;>try(exact hw'.elim)
  ·rename_i s k cs o s' m ds
   obtain⟨rfl,h2,h3,h4⟩:=hw'
   obtain⟨news,c6⟩:=Src.Uh (P:=P) hby h2
   exact⟨k,m,cs,views ds,news,rfl,c6,h3,h4⟩
  ·rename_i s k cs ds
   obtain⟨rfl,h2,h3,h4⟩:=hw'
   subst h2
   have e1:=VR.eV hby
   exact⟨k,ds.length,cs,_,_,rfl,by rw[e1];exact Src.G6,h3,h4⟩
 obtain⟨k,m,cs,ds,news,hx,c6,bz,hk⟩:=key
 have hiv:cO (E.x x)=true:=by rw[hx];rfl
 obtain⟨G1,h1,hp1,hv1,kW,hR1,hsh,Ph,cS⟩:=h.drain hu hiv (An d) (by cases d<;>simp[An]) (by cases d<;>simp[An])
 rw[hx]at hv1 kW
 have oI:Src P w G1.R sz m ds (a.eval v) news:=by rw[hR1];exact c6
 have grow:∀(base:Option Addr)(cap:Nat)(olds:List Value),a.eval u=.slice base k cap->cap<k+m->olds.length=k*sz->cs.length=k*sz->Fl cs->
  (Builtin.firstCells sz k (.slice base k cap)).run P w.drew=.ok olds.toArray w.drew->(∀(j:Nat)(c:AV)(u:Value),cs[j]? =some c->olds[j]? =some u->VR w G1.R c u)->
  mr P G n D w a (.call {callee:=.builtin .append,args:= #[u,v],argTypes:= #[t,t']}) ty d K:=by
  intro base cap olds e1 BM hol hcl hcf hold oJ
  have bk:=p9 (ty:=ty) ht ht2 hi hz oG oI hold BM (by rw[hby];exact bz) (by rw[hby];exact oF)
  have hge:k+m<=grownCap w (k+m) cap e:=grownCap_ge w (k+m) cap e
  obtain⟨G2,h3,h4⟩:=(h1.drew).P0 (t:=e) (c:=olds.toArray++news.toArray++Builtin.zeroCells z.cells (grownCap w (k+m) cap e -(k+m))) (m:=k+m) (cs:=cs++ds) (cap:=grownCap w (k+m) cap e) (sz:=sz) (ob:=match d with|some i=>.slot i 0|none=>.none) hd
   (fun i hi=>by subst hi;rfl) (fun hn=>by subst hn;rfl) (by rw[List.length_append,hcl,c6.nW,Nat.add_mul]) hge (by
     simp only[Array.size_append,List.size_toArray,size_zeroCells,hol,c6.len,hzs,<-Nat.add_mul]
     congr 1;omega) (fun c hc=>by
     rcases List.mem_append.1 hc with hc|hc
     ·exact hcf c hc
     ·exact c6.fl c hc)
   (fun j x hj=>by
     have hl1:=c6.len
     have hl2:=c6.nW
     by_cases hjk:j<k*sz
     ·rw[List.getElem?_append_left (by rw[hcl];exact hjk)]at hj
      have hlt:j<olds.length:=by rw[hol];exact hjk
      refine⟨olds[j],?_,?_⟩
      ·rw[Array.append_assoc,Array.getElem?_append_left (by simpa using hlt)]
       simp[hlt]
      ·exact(az.drew G1 w).vr h1.aJ (oJ j x _ hj (List.getElem?_eq_getElem hlt))
     ·rw[List.getElem?_append_right (by rw[hcl];omega),hcl]at hj
      have hlt:j -k*sz<news.length:=by have:=(List.getElem?_eq_some_iff.1 hj).1;omega
      refine⟨news[j -k*sz],?_,?_⟩
      ·rw[Array.append_assoc,Array.getElem?_append_right (by simp[hol];omega),Array.getElem?_append_left (by simp[hol];omega)]
       simp only[List.size_toArray,hol,List.getElem?_toArray]
       exact List.getElem?_eq_getElem hlt
      ·exact(az.drew G1 w).vr h1.aJ (oI.ki _ x _ hj (List.getElem?_eq_getElem hlt))) (0,0) ⟨fun k _ hk=>by simp at hk,Nat.le_refl _⟩ (own:=true) (fun _=>.inl rfl) (fun i y hi hy=>by
     rw[Array.append_assoc,<-Array.append_assoc,Array.getElem?_append_right (by simp only[Array.size_append,List.size_toArray,hol,c6.len,<-Nat.add_mul];exact hi)]at hy
     exact uD hz1 _ _ (List.mem_of_getElem? (by rw[Array.getElem?_toList];exact hy)))
  intro pos after gd next Q hn
  refine aI ?_ (hn G2 _ _ _ h3 (hp1.trans ((az.drew G1 w).trans h4)) hk)
  simp[execOp,resolve,invoke,builtin,e1,bk]
 rcases VR.fD hv1 with⟨e0,rfl,rfl⟩|⟨b,off,cap,e1,hcl,hRb,fQ,hat⟩
 ·
  have e1:=e0.own
  by_cases hm:m=0
  ·subst hm
   have hds:ds=[]:=List.eq_nil_of_length_eq_zero (by simpa using c6.nW)
   subst hds
   have bk:=mb (ty:=ty) ht ht2 hi oG oI
   have oH:Inv G1 n D ((E.drain x).put d (.sl true sz 0 [])) (a.put d (.slice none 0 0)) w:=by
    have:=h1.put (s':=(E.drain x).s) (lp':=(E.drain x).lp) d (fun i hi=>by subst hi;simpa[aS]using hd) (.sl true sz 0 []) (.slice none 0 0) h1.aJ (az.refl G1 w) h1.store (fun _ hx=>hx) (fun i t _ ht=>ht.elim) (fun i t _⟨cs,hcs⟩=>by cases hcs)
     (fun _ _ _ _=>⟨rfl,rfl,rfl⟩) (fun _ _ _ _ _ _ hcc=>⟨hcc,rfl,rfl⟩) (fun i hdi=>⟨.slnil _ _,fun base m' dL hv hc=>by injection hv with _ e2 e3;omega⟩)
    cases d<;>exact this
   intro pos after gd next Q hn
   refine aI (w':=w) ?_ (hn G1 _ _ _ oH hp1 hk)
   simp[execOp,resolve,invoke,builtin,e1,bk]
  ·exact grow none 0 [] e1 (by omega) (by simp) (by simp) Fl.nil (by simp[Builtin.firstCells]) (fun j c u hc=>by simp at hc)
 ·by_cases cF:k+m<=cap
  ·by_cases hm:m=0
   ·subst hm
    have hds:ds=[]:=List.eq_nil_of_length_eq_zero (by simpa using c6.nW)
    have rm:news=[]:=List.eq_nil_of_length_eq_zero (by simpa using c6.len)
    subst hds;subst rm
    have bk:=gx (ty:=ty) (w:=w) ht ht2 hi oG oI (b:=b) (off:=off) (k:=k) (cap:=cap) cF (w':=w) rfl
    simp only[List.append_nil,Nat.add_zero]at hk bk
    have oH:Inv G1 n D ((E.drain x).put d (.sl true sz k cs)) (a.put d (a.eval u)) w:=by
     have:=h1.put (s':=(E.drain x).s) (lp':=(E.drain x).lp) d (fun i hi=>by subst hi;simpa[aS]using hd) (.sl true sz k cs) (a.eval u) h1.aJ (az.refl G1 w) h1.store (fun _ hx=>hx) (fun i t _ ht=>ht.elim) (fun i t _⟨cs,hcs⟩=>by cases hcs)
      (fun _ _ _ _=>⟨rfl,rfl,rfl⟩) (fun _ _ _ _ _ _ hcc=>⟨hcc,rfl,rfl⟩) (fun i hdi=>by subst hdi;exact⟨hv1,kW⟩)
     cases d<;>exact this
    intro pos after gd next Q hn
    refine aI (w':=w) ?_ (hn G1 _ _ _ oH hp1 hk)
    simp[execOp,resolve,invoke,builtin,e1,bk]
   ·obtain⟨b',Wt,c,et,fz,q1,q2,q3,q4,q5,q6⟩:=kW _ _ _ e1 (by omega)
    injection q1 with q1;injection q1 with q1 q1'
    subst q1;subst q1'
    have hon:G1.O b≠.none/\G1.O b≠.frame/\G1.O b≠.sh/\(∀i,G1.O b≠.loc i)/\(∀i j,G1.O b≠.cell i j)/\(∀i j,G1.O b=.slot i j->d=some i/\j=0):=by
     rw[q2]
     cases d with
     |none=>simp[An]
     |some i=>simp+contextual [An]
    obtain⟨G2,h3,h4⟩:=h1.grown (k:=k) (m:=m) hd q4 ⟨q6.1,q6.2.1⟩ q6.2.2.1 (q6.2.2.2.1.imp id fun⟨z1,z2⟩=>⟨z1,gQ,z2⟩) q6.2.2.2.2 (fun i hi=>by subst hi;exact q2) hon q3 q5 cF hcl hat oI rfl
    have IP:off+k*sz+news.length<=c.size:=by
     rw[c6.len,q5,Nat.add_assoc,<-Nat.add_mul]
     exact Nat.add_le_add_left (Nat.mul_le_mul_right _ cF) _
    have cj:=cW (P:=P) b (off+k*sz) et fz news 0 c w q4 q6.1 (by simpa using IP) c6.one
    have bk:=gx (ty:=ty) (w:=w) ht ht2 hi oG oI (b:=b) (off:=off) (k:=k) (cap:=cap) cF (w':=w.setRow b (laid c (off+k*sz) news)) (by simpa[laid]using cj)
    intro pos after gd next Q hn
    refine aI ?_ (hn G2 _ _ _ h3 (hp1.trans h4) hk)
    simp[execOp,resolve,invoke,builtin,e1,bk]
  ·have hfl:Fl cs:=by obtain⟨_,_,_,hf⟩:=hat;exact hf
   obtain⟨us,u1,u2,u3⟩:=hat.ki
   exact grow _ cap us e1 (by omega) (by rw[u1,hcl]) hcl hfl (run_firstCells_some w.drew sz k ⟨b,off,none⟩ k cap us (by rw[u1,hcl]) u2) u3
end
section
variable{P:Program}{G G':Gh}{n:Nat}{D:List Deferred}{E:St}{a:Act}{w w':World}
def Gh.outer(G:Gh):Gh:=⟨G.R,fun b=>match G.O b with
 |.none=>.none
 |.sh=>.sh
 |.cell b' j=>if G.O b'=.sh then .cell b' j else .frame
 |_=>.frame⟩
theorem kJ{b:Nat}:G.outer.O b=.none↔G.O b=.none:=by
 simp only[Gh.outer]
 split<;>simp_all
 split<;>simp
theorem j7{b:Nat}:G.outer.O b=.sh↔G.O b=.sh:=by
 simp only[Gh.outer]
 split<;>simp_all
 split<;>simp
theorem Cx{b b' j:Nat}:G.outer.O b=.cell b' j↔(G.O b=.cell b' j/\G.O b'=.sh):=by
 simp only[Gh.outer]
 split<;>simp_all
 rename_i b1 j1 _
 by_cases hb:G.O b1=.sh
 ·rw[if_pos hb]
  constructor
  ·intro e;injection e with e1 e2;subst e1;subst e2;exact⟨⟨rfl,rfl⟩,hb⟩
  ·rintro⟨⟨rfl,rfl⟩,_⟩;rfl
 ·rw[if_neg hb]
  constructor
  ·intro e;cases e
  ·rintro⟨⟨rfl,rfl⟩,h⟩;exact absurd h hb
theorem jA{b:Nat}(h1:G.O b≠.none)(h2:G.O b≠.sh)(h3:∀b' j,G.O b=.cell b' j->G.O b'≠.sh):G.outer.O b=.frame:=by
 simp only[Gh.outer]
 split<;>first|(rename_i e;exact absurd e h1)|(rename_i e;exact absurd e h2)|rfl|skip
 rename_i b' j e
 rw[if_neg (h3 b' j e)]
theorem si(G:Gh):zq G.outer:=by
 intro b
 by_cases h1:G.O b=.none
 ·exact .inl (kJ.2 h1)
 ·by_cases h2:G.O b=.sh
  ·exact .inr (.inr (.inl (j7.2 h2)))
  ·by_cases h3:∃b' j,G.O b=.cell b' j/\G.O b'=.sh
   ·obtain⟨b',j,e1,e2⟩:=h3
    exact .inr (.inr (.inr ⟨b',j,Cx.2 ⟨e1,e2⟩,j7.2 e2⟩))
   ·exact .inr (.inl (jA h1 h2 fun b' j e hb'=>h3 ⟨b',j,e,hb'⟩))
def PC:List AV->Bool
 |[_]=>true
 |_=>false
def aek(single:Bool):Option Nat->Nat->cD
 |some i,j=>.slot i (if single then j else j+1)
 |none,_=>.none
def abr(single:Bool)(d:Option Nat):cD->cD
 |.none=>.none
 |.sh=>.sh
 |.cell b' j=>.cell b' j
 |.res j=>aek single d j
 |_=>.none
theorem Inv.args(h:Inv G n D E a w){ys:List Operand}{xs:List IX}{as:List AV}(hc:fI ys xs=true)(hv:bQ (xg true E) xs=some as):nq w G.R as (ys.map a.eval).toArray:=by
 have hf:∀(o:Operand)(x:IX),bp o x=true->cO (xg true E x)=true->VR w G.R (xg true E x) (a.eval o):=fun o x hx hi=>by
  have:=BR.aG h hx
  generalize xg true E x=av at hi this
  cases av<;>first|exact this|(simp[cO]at hi)
 obtain⟨h1,_,h3⟩:=qX h hf ys xs as hc hv
 exact⟨by simp[h1],fun j c u hc hu=>h3 j c u hc (by simpa using hu)⟩
theorem Inv.ph(h:Inv G n D E a w):bR G.outer w/\aO G.outer w E.s:=⟨⟨fun b hb=>kJ.2 (h.aJ.ik b hb),h.aJ.iT⟩,h.store.wX (fun _ _ hv=>hv) (fun _ hb=>⟨j7.2 hb,rfl,rfl⟩) (fun _ _ _ hb hc=>⟨Cx.2 ⟨hc,hb⟩,rfl,rfl⟩)⟩
theorem Db{r:AV}(h:iw [r]=true):(∃sz m cs,r=.us sz m cs)\/(cO r=true/\∀sz m cs,r≠.us sz m cs):=by cases r<;>first|exact .inl ⟨_,_,_,rfl⟩|exact .inr ⟨by simpa[iw,PD]using h,fun _ _ _ e=>by cases e⟩
theorem Da{r:AV}(h:iw [r]=true)(t:Nat):¬bd r t:=by
 rcases Db h with⟨_,_,_,rfl⟩|⟨h,_⟩
 ·exact fun h=>h
 ·exact dN h t
theorem QA{r:AV}(h:iw [r]=true)(cs:List AV):r≠.loc cs:=by
 rcases Db h with⟨_,_,_,rfl⟩|⟨h,_⟩
 ·exact fun h=>by cases h
 ·exact l8 h cs
theorem Inv.behind(h:Inv G n D E a w){d:Option Nat}(hd:aS n d=true){rs:List AV}{s':ab}{v:Value}(hok:iw rs=true)(hg:bR G' w')(hs:aO G' w' s')(hr:nj G' w' rs v)(hp:az G.outer w G' w'):
 ∃G2,Inv G2 n D ({E with s:=s'}.put d (dX rs)) (a.put d v) w'/\az G w G2 w':=by
 obtain⟨O2,hO2⟩:∃O2:Nat->cD,∀b,O2 b=if G.outer.O b=.frame then G.O b else abr (PC rs) d (G'.O b):=⟨_,fun _=>rfl⟩
 let G2:Gh:=⟨G'.R,O2⟩
 have hfr:∀b,G.outer.O b=.frame->b<w.heap.size/\w'.heap[b]? =w.heap[b]? /\G'.O b=.frame/\G'.R b=G.R b/\G2.O b=G.O b:=by
  intro b hb
  have hlt:b<w.heap.size:=h.ph.1.lt (by rw[hb];simp)
  obtain⟨q1,q2⟩:=hp.iG b hlt hb
  exact⟨hlt,hp.frame b hlt (.inl hb),q1,q2,(hO2 b).trans (if_pos hb)⟩
 have hnf:∀b,G.outer.O b≠.frame->G2.O b=abr (PC rs) d (G'.O b):=by
  intro b hb
  exact(hO2 b).trans (if_neg hb)
 have iR:bR G2 w':=by
  refine⟨fun b hb=>?_,fun b hb=>hg.iT b hb⟩
  have hbs:w.heap.size<=b:=Nat.le_trans hp.size hb
  rw[hnf b (by rw[kJ.2 (h.aJ.ik b hbs)];simp),hg.ik b hb];rfl
 have aV:az G w G2 w':=by
  refine⟨hp.os,hp.tape,hp.output,hp.drawn,hp.size,hp.mono,hp.lK,fun b hb ho=>?_,fun b hb ho=>?_,fun b hb ho=>?_⟩
  ·rcases ho with ho|ho
   ·exact hp.frame b hb (.inl (jA (by rw[ho];simp) (by rw[ho];simp) (by rw[ho];simp)))
   ·exact hp.frame b hb (.inr (kJ.2 ho))
  ·obtain⟨_,_,_,q4,q5⟩:=hfr b (jA (by rw[ho];simp) (by rw[ho];simp) (by rw[ho];simp))
   exact⟨q5.trans ho,q4⟩
  ·have ho':=kJ.2 ho
   obtain⟨q1,q2⟩:=hp.pd b hb ho'
   exact⟨by rw[hnf b (by rw[ho'];simp),q1];rfl,q2⟩
 have TW:∀b,(G'.O b=.sh\/∃b' j,G'.O b=.cell b' j)->G2.O b=G'.O b:=by
  intro b hb
  by_cases hf:G.outer.O b=.frame
  ·have:=(hfr b hf).2.2.1
   rcases hb with hb|⟨_,_,hb⟩<;>rw[this]at hb<;>cases hb
  ·rw[hnf b hf]
   rcases hb with hb|⟨_,_,hb⟩<;>rw[hb]<;>rfl
 have cj:aO G2 w' s':=hs.wX (fun _ _ hv=>hv) (fun b hb=>⟨(TW b (.inl hb)).trans hb,rfl,rfl⟩) (fun b c j _ hc=>⟨(TW c (.inr ⟨b,j,hc⟩)).trans hc,rfl,rfl⟩)
 have ko:∀(i j:Nat)(x:AV)(y:Value),d=some i->cQ G' w' (.res j) x y->cQ G2 w' (.slot i (if PC rs then j else j+1)) x y:=by
  intro i j x y hdi ho
  unfold cQ at ho⊢
  split
  ·rename_i sz m cs
   intro base m' cap hv hc
   obtain⟨b,off,c,e,fz,q1,q2,q3⟩:=ho base m' cap hv hc
   refine⟨b,off,c,e,fz,q1,?_,q3⟩
   have hf:G.outer.O b≠.frame:=fun hf=>by have:=(hfr b hf).2.2.1;rw[q2]at this;cases this
   rw[hnf b hf,q2,hdi];rfl
  ·rename_i e m cs
   intro base m' cap hv hc
   obtain⟨b,off,c,fz,q1,q2,q3⟩:=ho base m' cap hv hc
   refine⟨b,off,c,fz,q1,?_,q3⟩
   have hf:G.outer.O b≠.frame:=fun hf=>by have:=(hfr b hf).2.2.1;rw[q2]at this;cases this
   rw[hnf b hf,q2,hdi];rfl
  ·trivial
 have oH:=h.put (s':=s') (lp':=E.lp) d (fun i hi=>by subst hi;simpa[aS]using hd) (dX rs) v iR aV cj (fun _ hx=>hx)
  (fun i t _ ht=>by
    match rs,hok,ht with
    |[r],hok,ht=>exact(Da hok t ht).elim
    |[],_,ht=>exact ht.elim
    |_::_::_,_,ht=>exact ht.elim)
  (fun i t _⟨cs,hcs⟩=>by
    match rs,hok,hcs with
    |[r],hok,hcs=>exact(QA hok cs hcs).elim
    |[],_,hcs=>cases hcs
    |_::_::_,_,hcs=>cases hcs)
  (fun i b _ hb=>by
    have hf:G.outer.O b=.frame:=by rcases hb with⟨j,hb⟩|hb<;>exact jA (by rw[hb];simp) (by rw[hb];simp) (by rw[hb];simp)
    obtain⟨_,q2,_,q4,q5⟩:=hfr b hf
    exact⟨q5,q4,q2⟩)
  (fun i b c j _ hb hc=>by
    have hf:G.outer.O c=.frame:=jA (by rw[hc];simp) (by rw[hc];simp) (fun b' j' e=>by rw[hc]at e;injection e with e1 e2;subst e1;rw[hb];simp)
    obtain⟨_,q2,_,q4,q5⟩:=hfr c hf
    exact⟨q5.trans hc,q4,q2⟩)
  (fun i hi=>by
    match rs,hok,hr,ko with
    |[r],hok,hr,ko=>
     show cN G2 w' _ _ i r v
     rcases Db hok with⟨sz,m,cs,rfl⟩|⟨hV,hnu⟩
     ·rcases hr with hr|⟨b,cap,c,t,sp,h1,h2,h3,h4,h5,h6⟩
      ·exact .inl hr
      ·refine .inr ⟨b,cap,c,t,sp,h1,h2,h3,?_,h5,h6⟩
       have hf:G.outer.O b≠.frame:=fun hf=>by have:=(hfr b hf).2.2.1;rw[h4]at this;cases this
       show O2 b=_
       rw[show O2 b=G2.O b from rfl,hnf b hf,h4,hi];rfl
     ·rw[cN.nZ hV]
      have hr':VR w' G'.R r v/\cQ G' w' (.res 0) r v:=by cases r<;>first|exact hr|exact absurd rfl (hnu _ _ _)
      exact⟨hr'.1,ko i 0 r v hi hr'.2⟩
    |[],_,hr,ko=>
     obtain⟨ys,q1,q2⟩:=hr
     exact⟨ys,q1,q2.1,fun j x y hx=>by simp at hx⟩
    |r1::r2::rr,_,hr,ko=>
     obtain⟨ys,q1,q2⟩:=hr
     exact⟨ys,q1,q2.1,fun j x y hx hy=>⟨(q2.2 j x y hx hy).1,ko i j x y hi (q2.2 j x y hx hy).2⟩⟩)
 exact⟨G2,by cases d<;>exact oH,aV⟩
theorem EH(h:Inv G n D E a w){op:Op}{ty:TypeId}{d:Option Nat}{K:St->Prop}(hd:aS n d=true){f:FuncId}{as:List AV}{vs:Array Value}
 (hr:∀(pos:String)(after:Array Edge)(g:Option (Nat×Bool)),(execOp a.eval ⟨d,op,ty,pos,after,g⟩).run P w=.ok (.enter f vs) w)(ha:nq w G.R as vs)(hw:FN P f as E.s (LA E d K)):mr P G n D w a op ty d K:=by
 intro pos after g next Q hn
 unfold Oper.wp
 rw[hr pos after g]
 obtain⟨g1,g2⟩:=h.ph
 refine(hw G.outer w vs g1 (si G) g2 ha).mono fun e w'⟨v,rs,s',G',he,⟨hok,hk⟩,q1,q2,q3,q4⟩=>?_
 subst he
 obtain⟨G2,h1,h2⟩:=h.behind hd hok q1 q2 q3 q4
 exact hn G2 _ _ _ h1 h2 hk
theorem mc{f:FuncId}{fn:Func}(hf:P.funcs[f]? =some fn)(ZQ:(fn.name != "runtime.NumGoroutine")=true)(hb:fn.body.isSome=true)(args:Array Value):(callFunc f args).run P w=.ok (.enter f args) w:=by
 have h1:¬(fn.name= "runtime.NumGoroutine"):=by simpa using ZQ
 have h2:fn.body.isNone=false:=by cases hbb:fn.body<;>simp_all
 have h3:fn.body≠none:=by intro e;rw[e]at hb;cases hb
 simp[callFunc,hf,h1,h3]
theorem Iy(h:Inv G n D E a w){op:Op}{ty:TypeId}{f:Nat}{args:List IX}{d:Option Nat}{K:St->Prop}(hd:aS n d=true)(hc:aq P op ty (.call f args)=true)(hw:gz P (.call f args) d E K):mr P G n D w a op ty d K:=by
 cases op<;>first|(simp[aq]at hc;done)|skip
 rename_i c
 obtain⟨callee,ys,ats⟩:=c
 simp only[aq]at hc
 split at hc<;>try(cases hc;done)
 rename_i g
 simp only[Bool.and_eq_true,beq_iff_eq]at hc
 obtain⟨⟨rfl,hxs⟩,hfn⟩:=hc
 split at hfn<;>try(cases hfn;done)
 rename_i fn hf
 rw[Bool.and_eq_true]at hfn
 have hw':re P f E d K (bQ (xg true E) args):=hw
 cases has:bQ (xg true E) args with
 |none=>rw[has]at hw';exact hw'.elim
 |some as=>
  rw[has]at hw'
  refine EH h hd (as:=as) (vs:=ys.map a.eval) (fun _ _ _=>?_) ?_ hw'
  ·simp[execOp,resolve,Act.eval,Deferred.ofValue,invoke,mc hf hfn.1 hfn.2]
  ·have:=h.args hxs has
   rwa[show(ys.toList.map a.eval).toArray=ys.map a.eval from by apply Array.ext';simp]at this
theorem Kd{t:TypeId}{m:Nat}(h:jQ P t m=true):∃i,P.info? t=some i/\i.bytes=m:=by
 unfold jQ at h
 split at h
 ·exact⟨_,by assumption,by simpa using h⟩
 ·cases h
theorem zm{c:Int}(h0:0<=c)(h1:c<=9223372036854775807):IntKind.i64.wrap c=c:=by rw[IntKind.wrap_i64];omega
theorem Qw{c:Int}{by':Nat}(h0:0<=c)(hb:0<by')(hr:c*by'<=room):c<=room/\IntKind.i64.wrap c=c/\¬(281474976710656<by'*c):=by
 have h1:c<=c*by':=by
  have:=Int.mul_le_mul_of_nonneg_left (show(1:Int)<=by' by omega) h0
  omega
 have h2:c<=room:=Int.le_trans h1 hr
 refine⟨h2,?_,?_⟩
 ·unfold room at h2
  exact zm (by omega) (by omega)
 ·rw[Int.mul_comm]at hr
  unfold room at hr
  omega
theorem vU{α:Type}(u:α)(l:List α):∀(m:Nat),((List.replicate m l).flatten)=((List.range (m*l.length)).map fun i=>l.getD (i % l.length) u):=by
 intro m
 apply List.ext_getElem?
 intro j
 rcases Nat.eq_zero_or_pos l.length with h0|hp
 ·have:l=[]:=List.eq_nil_of_length_eq_zero h0
  subst this
  simp
 ·induction m generalizing j with
  |zero=>simp
  |succ m ih=>
   rw[List.replicate_succ,List.flatten_cons]
   by_cases hj:j<l.length
   ·rw[List.getElem?_append_left hj,List.getElem?_map,List.getElem?_range (by rw[Nat.add_mul,Nat.one_mul];omega)]
    simp[Nat.mod_eq_of_lt hj,List.getD_eq_getElem?_getD,List.getElem?_eq_getElem hj]
   ·rw[List.getElem?_append_right (by omega),ih,List.getElem?_map,List.getElem?_map]
    by_cases hlt:j<(m+1)*l.length
    ·have h1:j -l.length<m*l.length:=by rw[Nat.add_mul,Nat.one_mul]at hlt;omega
     rw[List.getElem?_range hlt,List.getElem?_range h1]
     simp only[Option.map_some]
     congr 2
     rw[Nat.mod_eq_sub_mod (by omega:l.length<=j)]
    ·have h1:¬(j -l.length<m*l.length):=by rw[Nat.add_mul,Nat.one_mul]at hlt;omega
     rw[List.getElem?_eq_none (by simp;omega),List.getElem?_eq_none (by simp;omega)]
theorem run_makeSlice{t e:TypeId}{i:TypeInfo}{z:Value}{l c:Int}{k k':IntKind}(ht:P.underlying t=some (.slice e))(hi:P.info? e=some i)(hz:i.zero=some z)(hsz:z.cells.size=i.size)(hb:0<i.bytes)(h0:0<=l)(hlc:l<=c)(hr:c*i.bytes<=room)(w:World):
 (Instr.makeSlice t (.int k l) (.int k' c)).run P w=.ok (.slice (some ⟨w.heap.size,0,none⟩) l.toNat c.toNat) (w.alloc (.cells ((List.replicate c.toNat z.cells.toList).flatten).toArray e)):=by
 obtain⟨h1,h2,h3⟩:=Qw (Int.le_trans h0 hlc) hb hr
 have h4:IntKind.i64.wrap l=l:=zm (by omega) (by unfold room at h1;omega)
 have h5:¬(c<0):=by omega
 have h6:¬(l<0):=by omega
 have h7:¬(c<l):=by omega
 have gJ:(Array.map (fun x=>(if c.toNat*i.size=0 then(#[]:Array Value)else z.cells)[x % (if c.toNat*i.size=0 then(#[]:Array Value)else z.cells).size]!) (Array.range (c.toNat*i.size)))=((List.replicate c.toNat z.cells.toList).flatten).toArray:=by
  rw[<-sI,hsz]
  by_cases hn:c.toNat*i.size=0
  ·simp[hn]
  ·simp[hn,hsz]
 by_cases hn:c.toNat*i.size=0
 ·simp only[hn,if_true]at gJ
  simp[Instr.makeSlice,asInt,asIntOf,run_underlying ht,typeInfo,sizeOf,hi,h2,h4,h3,h5,h6,h7,newRow,hn,<-gJ]
 ·simp only[hn,if_false]at gJ
  simp[Instr.makeSlice,asInt,asIntOf,run_underlying ht,typeInfo,sizeOf,hi,h2,h4,h3,h5,h6,h7,newRow,hn,zeroValue,hz,gJ]
theorem M1(h:Inv G n D E a w){op:Op}{ty:TypeId}{x:IX}{args:List IX}{d:Option Nat}{K:St->Prop}(hd:aS n d=true)(hc:aq P op ty (.dj x args)=true)(hw:gz P (.dj x args) d E K):mr P G n D w a op ty d K:=by
 cases op<;>first|(simp[aq]at hc;done)|skip
 rename_i c
 obtain⟨callee,ys,ats⟩:=c
 simp only[aq]at hc
 split at hc<;>try(cases hc;done)
 rename_i y
 simp only[Bool.and_eq_true]at hc
 obtain⟨hx,hxs⟩:=hc
 have hb:=BR.aG h hx
 have hw':uK P E (bQ (xg true E) args) d K (xg true E x):=hw
 generalize xg true E x=xv at hb hw'
 unfold uK at hw'
 split at hw'<;>try(exact hw'.elim)
 rename_i f first dZ
 cases has:bQ (xg true E) args with
 |none=>rw[has]at hw';exact hw'.elim
 |some as=>
  rw[has]at hw'
  have hv:VR w G.R (.fn f first dZ) (a.eval y):=hb
  generalize hev:a.eval y=yv at hv
  cases hv with
  |fn _ _ _ vf vc hl hr hl' hr'=>
  have O7:=h.args hxs has
  obtain⟨hfs,hw'⟩:=hw'
  unfold uQ at hfs
  split at hfs<;>try(cases hfs;done)
  rename_i fn hf
  rw[Bool.and_eq_true]at hfs
  refine EH h hd (as:=first++as++dZ) (vs:=vf++(ys.toList.map a.eval).toArray++vc) (fun _ _ _=>?_) ?_ hw'
  ·rw[show(ys.toList.map a.eval).toArray=ys.map a.eval from by apply Array.ext';simp]
   simp[execOp,resolve,hev,Deferred.ofValue,invoke,mc hf hfs.1 hfs.2]
  ·refine⟨by have:=O7.1;simp at this;simp[hl,hl',this],fun j c u hc hu=>?_⟩
   have h1:=O7.1
   rw[List.append_assoc,List.getElem?_append]at hc
   rw[Array.append_assoc,Array.getElem?_append]at hu
   by_cases hj:j<first.length
   ·rw[if_pos hj]at hc
    rw[if_pos (by omega)]at hu
    exact hr j c u hc hu
   ·rw[if_neg hj,List.getElem?_append]at hc
    rw[if_neg (by omega),Array.getElem?_append,hl,h1]at hu
    by_cases hj2:j -first.length<as.length
    ·rw[if_pos hj2]at hc hu
     exact O7.2 _ c u hc hu
    ·rw[if_neg hj2]at hc hu
     exact hr' _ c u hc hu
theorem Kr(h:Inv G n D E a w){op:Op}{ty:TypeId}{sz by':Nat}{z:List AV}{l c:IX}{d:Option Nat}{K:St->Prop}(hd:aS n d=true)(hc:aq P op ty (.gS sz by' z l c)=true)(hw:gz P (.gS sz by' z l c) d E K):mr P G n D w a op ty d K:=by
 cases op<;>first|(simp[aq]at hc;done)|skip
 rename_i t l' c'
 simp only[aq,Bool.and_eq_true]at hc
 obtain⟨⟨hl,hcc⟩,hc⟩:=hc
 split at hc<;>try(cases hc;done)
 rename_i e he
 simp only[Bool.and_eq_true,decide_eq_true_eq]at hc
 obtain⟨⟨⟨⟨hs,hby⟩,hz⟩,hsz⟩,hbp⟩:=hc
 have hb1:=BR.aG h hl
 have hb2:=BR.aG h hcc
 have hw':wV by' z E d K (xg true E l) (xg true E c):=hw
 generalize xg true E l=lv at hb1 hw'
 generalize xg true E c=cv at hb2 hw'
 unfold wV at hw'
 split at hw'<;>try(exact hw'.elim)
 rename_i k l0 k' c0
 obtain⟨q1,q2,q3,q4⟩:=hw'
 obtain⟨i,v,h1,h2,h3,h4,h5⟩:=tv hz
 obtain⟨i',h6,h7⟩:=Kd hby
 rw[h1]at h6;injection h6 with h6;subst h6
 have e1:=VR.bT hb1
 have e2:=VR.bT hb2
 have Pn:=h4 w G.R
 have gq:v.cells.toList.length=z.length:=by simpa using Pn.1
 have hfl:Fl (List.replicate c0.toNat z).flatten:=by
  intro x hx
  simp only[List.mem_flatten,List.mem_replicate]at hx
  obtain⟨l',⟨_,rfl⟩,hx⟩:=hx
  exact Pn.2.2 x hx
 have hcs:∀(G':Gh)(w':World)(o:Nat->cD),az G w G' w'->cP G' w' o (List.replicate c0.toNat z).flatten ((List.replicate c0.toNat v.cells.toList).flatten).toArray:=by
  intro G' w' o _
  have cE:∀(j:Nat)(x:AV)(y:Value),((List.replicate c0.toNat z).flatten)[j]? =some x->((List.replicate c0.toNat v.cells.toList).flatten)[j]? =some y->cR y x=true:=by
   intro j x y hx hy
   have hjz:(List.replicate c0.toNat z).flatten=(List.range (c0.toNat*z.length)).map fun i=>z.getD (i % z.length) .undef:=vU .undef z c0.toNat
   have hjv:(List.replicate c0.toNat v.cells.toList).flatten=(List.range (c0.toNat*z.length)).map fun i=>v.cells.toList.getD (i % z.length) undef:=by rw[vU undef,gq]
   rw[hjz,List.getElem?_map]at hx
   rw[hjv,List.getElem?_map]at hy
   cases hrg:(List.range (c0.toNat*z.length))[j]? with
   |none=>rw[hrg]at hx;cases hx
   |some q=>
    rw[hrg]at hx hy
    simp only[Option.map_some,Option.some.injEq]at hx hy
    have hzp:0<z.length:=by
     rcases Nat.eq_zero_or_pos z.length with h0|h0
     ·rw[h0]at hrg;simp at hrg
     ·exact h0
    have hlt:=Nat.mod_lt q hzp
    refine h5 (q % z.length) x y ?_ ?_
    ·rw[<-hx];simp[List.getD_eq_getElem?_getD,hlt]
    ·rw[<-hy]
     have uS:q % z.length<v.cells.size:=by have:=Pn.1;omega
     simp[List.getD_eq_getElem?_getD,uS]
  refine⟨by simp[gq],fun j x y hx hy=>?_⟩
  have:=cE j x y hx (by simpa using hy)
  exact⟨q9 this w' G'.R,Bz this G' w' _⟩
 obtain⟨G',g1,g2⟩:=h.KU hd (t:=e) (.inr ⟨l0.toNat,c0.toNat,rfl,rfl⟩) hcs hfl
 intro pos after g next Q hn
 refine aI (v:=.slice (some ⟨w.heap.size,0,none⟩) l0.toNat c0.toNat) (w':=w.alloc (.cells ((List.replicate c0.toNat v.cells.toList).flatten).toArray e)) ?_ (hn G' _ _ _ g1 g2 (q4 w.heap.size (h.store.get_none h.aJ)))
 have:=run_makeSlice (k:=k) (k':=k') (cz he) h1 h2 (by rw[h3];simpa using gq) (by omega) q1 q2 (by rw[h7];exact q3) w
 simp[execOp,e1,e2,this]
theorem Iz(h:Inv G n D E a w){op:Op}{ty:TypeId}{d:Option Nat}{K:St->Prop}(hd:aS n d=true)(hc:aq P op ty .makeMap=true)(hw:gz P .makeMap d E K):mr P G n D w a op ty d K:=by
 cases op<;>first|(simp[aq]at hc;done)|skip
 rename_i t r
 cases r with
 |some r=>simp[aq]at hc
 |none=>
 have hp:=(eG h.aJ (.map #[] 0) .sh 0).2.1
 have hs:aO (G.ot w.heap.size .sh 0) (w.alloc (.map #[] 0)) (E.s.set w.heap.size (.map [])):=by
  intro b o hb
  unfold ab.set at hb
  by_cases he:b=w.heap.size
  ·rw[if_pos he]at hb
   injection hb with hb
   subst hb;subst he
   exact⟨by simp,by simp,#[],0,heap_alloc_new w _,rfl,fun j x y hx=>by simp at hx⟩
  ·rw[if_neg he]at hb
   exact jv h.store h.aJ _ .sh 0 b o hb
 obtain⟨h1,h2⟩:=h.alloc (.map #[] 0) .sh 0 d hd (.mp w.heap.size) (.map (some w.heap.size)) E.lp hs (fun _ hx=>hx) (fun i t' _ ht=>ht.elim) (fun i t' _⟨cs',tB⟩=>by cases tB)
  (fun i hi=>⟨.mp _,trivial⟩)
 intro pos after g next Q hn
 refine aI (v:=.map (some w.heap.size)) (w':=w.alloc (.map #[] 0)) ?_ (hn _ _ _ _ (by cases d<;>exact h1) h2 (hw w.heap.size (h.store.get_none h.aJ)))
 simp[execOp,Instr.makeMap]
end
end Go.AB
end
section
namespace Go.AB
open Go Go.MapKept
def KV:lE->Value->Prop
 |.int k,v=>∃n,v=.int k n
 |.str,v=>∃s,v=.string s
 |.bool,v=>∃b,v=.bool b
 |.bytes n,v=>∃xs:Array Value,v=.agg xs/\xs.size=n/\∀u∈xs,∃m,u=.int .u8 m
section
variable{P:Program}{w:World}
structure N7(P:Program)(kt:TypeId)(kk:lE):Prop where
 check:∀(w:World)(em:Bool)(v:Value),KV kk v->(Instr.checkKey em 10000 kt v).run P w=.ok () w
 find:∀(w:World)(x:Value),KV kk x->∀es:List MapEntry,(∀e∈es,KV kk e.key)->
  ((Instr.findKey kt x es).run P w=.ok none w/\∀e∈es,e.key≠x)\/∃j e,(Instr.findKey kt x es).run P w=.ok (some (j,e.val)) w/\es[j]? =some e/\e.key=x/\∀(i:Nat)(e':MapEntry),i<j->es[i]? =some e'->e'.key≠x
 stays:∀(w:World)(v:Value),KV kk v->(Instr.keyThatStays v v).run P w=.ok v w
theorem tT{d:TypeDesc}{k:Value}(hk:IsKey d k):∀(l:List MapEntry)(i:Nat),(∀x∈l,IsKey d x.key)->
 (Instr.findNow d k l i=some none/\∀x∈l,x.key≠k)\/∃j e,Instr.findNow d k l i=some (some (i+j,e.val))/\l[j]? =some e/\e.key=k/\∀(m:Nat)(e':MapEntry),m<j->l[m]? =some e'->e'.key≠k
 |[],_,_=>.inl ⟨rfl,by simp⟩
 |e::es,i,h=>by
  obtain⟨r,hr,x4⟩:=sameNow_of_keys hk (h e (.head _))
  cases r with
  |true=>exact .inr ⟨0,e,by simp[Instr.findNow,hr],rfl,(x4.1 rfl).symm,fun m e' hm=>by omega⟩
  |false=>
   have hne:e.key≠k:=fun q=>by have:=x4.2 q.symm;cases this
   rcases tT hk es (i+1) (fun x hx=>h x (.tail _ hx))with⟨h1,h2⟩|⟨j,e',h1,h2,h3,h4⟩
   ·exact .inl ⟨by simp[Instr.findNow,hr,h1],fun x hx=>by
     cases hx with
     |head=>exact hne
     |tail _ hx=>exact h2 x hx⟩
   ·refine .inr ⟨j+1,e',by simp[Instr.findNow,hr,h1];omega,by simpa using h2,h3,fun m x hm hx=>?_⟩
    cases m with
    |zero=>simp at hx;subst hx;exact hne
    |succ m=>exact h4 m x (by omega) (by simpa using hx)
theorem nV{kt:TypeId}{d:TypeDesc}{kk:lE}(hd:P.underlying kt=some d)(hK:∀v,KV kk v->IsKey d v):N7 P kt kk where
 check:=fun w em v hv=>run_checkKey hd (hK v hv) em 9999
 find:=fun w x hx es hes=>by
  rcases tT (hK x hx) es 0 (fun e he=>hK _ (hes e he))with⟨h1,h2⟩|⟨j,e,h1,h2,h3,h4⟩
  ·exact .inl ⟨run_findKey hd h1,h2⟩
  ·exact .inr ⟨j,e,by rw[run_findKey hd h1,Nat.zero_add],h2,h3,h4⟩
 stays:=fun w v hv=>run_keyThatStays (hK v hv)
theorem vt{e off:Nat}{i:TypeInfo}(he:P.underlying e=some (.int .u8))(hi:P.info? e=some i)(h1:i.size=1)(xs:Array Value)(x:Value)(hx:xs[off]? =some x)(w:World):(part e xs off).run P w=.ok x w:=by
 have hag:(isAgg e).run P w=.ok false w:=te (multi:=false) (by unfold oy;rw[he];rfl) w
 simp[part,hag,hx]
theorem ss{e:TypeId}{i:TypeInfo}(he:P.underlying e=some (.int .u8))(hi:P.info? e=some i)(h1:i.size=1)(d:Nat)(xs ys:Array Value)(n:Nat)
 (hx:∀j,j<n->∃a b,xs[j]? =some (.int .u8 a)/\ys[j]? =some (.int .u8 b)):∀(l:List Nat),(∀j∈l,j<n)->∀w,
 ∃r:Bool,(Op.eqItems (d+1) e (P.cellsOf e) xs ys l).run P w=.ok r w/\(r=true↔∀j∈l,xs[j]? =ys[j]?)
 |[],_,w=>⟨true,by simp[Op.eqItems],by simp⟩
 |j::l,hl,w=>by
  obtain⟨a,b,ha,hb⟩:=hx j (hl j (.head _))
  have hc:P.cellsOf e=1:=by unfold Program.cellsOf;rw[hi];simpa using h1
  have e1:=vt he hi h1 xs _ ha w
  have e2:=vt he hi h1 ys _ hb w
  have e3:=run_equalIn_int (P:=P) w d e .u8 .u8 a b he
  obtain⟨r,hr,x4⟩:=ss he hi h1 d xs ys n hx l (fun j hj=>hl j (.tail _ hj)) w
  rw[hc]at hr
  by_cases hab:a=b
  ·subst hab
   refine⟨r,?_,?_⟩
   ·simp only[Op.eqItems,hc,Nat.mul_one,Sem.run_bind,e1,e2,e3,Result.andThen_ok,beq_self_eq_true,Bool.not_true,Bool.false_eq_true,if_false]
    exact hr
   ·rw[x4]
    simp[ha,hb]
  ·refine⟨false,?_,?_⟩
   ·have:(a==b)=false:=by simpa using hab
    simp[Op.eqItems,hc,e1,e2,e3,this]
   ·simp[ha,hb,hab]
theorem AD{kt e:TypeId}{n:Nat}{i:TypeInfo}(hk:P.underlying kt=some (.array n e))(he:P.underlying e=some (.int .u8))(hi:P.info? e=some i)(h1:i.size=1){x y:Value}(hx:KV (.bytes n) x)(hy:KV (.bytes n) y)(w:World):
 ∃r:Bool,(Op.equal kt x y).run P w=.ok r w/\(r=true↔y=x):=by
 obtain⟨xs,rfl,hxs,hx'⟩:=hx
 obtain⟨ys,rfl,hys,hy'⟩:=hy
 have hxy:∀j,j<n->∃a b,xs[j]? =some (.int .u8 a)/\ys[j]? =some (.int .u8 b):=fun j hj=>by
  obtain⟨a,ha⟩:=hx' xs[j] (Array.getElem_mem _)
  obtain⟨b,hb⟩:=hy' ys[j] (Array.getElem_mem _)
  exact⟨a,b,by rw[Array.getElem?_eq_getElem (by omega),ha],by rw[Array.getElem?_eq_getElem (by omega),hb]⟩
 obtain⟨r,hr,x4⟩:=ss he hi h1 9997 xs ys n hxy (List.range n) (fun j hj=>List.mem_range.1 hj) w
 refine⟨r,?_,?_⟩
 ·show(Op.equalIn (9999+1) kt (.agg xs) (.agg ys)).run P w=_
  rw[run_equalIn_array w 9999 xs ys hk hi]
  obtain⟨r',hr',aeP⟩:=ss he hi h1 9998 xs ys n hxy (List.range n) (fun j hj=>List.mem_range.1 hj) w
  have:r=r':=by cases r<;>cases r'<;>simp_all
  rw[this];exact hr'
 ·rw[x4]
  constructor
  ·intro h
   have:ys=xs:=by
    apply Array.ext (by omega)
    intro j h1 h2
    have:=h j (List.mem_range.2 (by omega))
    rw[Array.getElem?_eq_getElem (by omega),Array.getElem?_eq_getElem (by omega)]at this
    injection this with this;exact this.symm
   rw[this]
  ·intro h j _
   injection h with h
   rw[h]
theorem oD{kt e:TypeId}{n:Nat}{i:TypeInfo}(hk:P.underlying kt=some (.array n e))(he:P.underlying e=some (.int .u8))(hi:P.info? e=some i)(h1:i.size=1){k:Value}(hkv:KV (.bytes n) k):∀(l:List MapEntry)(i:Nat),(∀x∈l,KV (.bytes n) x.key)->∀w:World,
 ((Instr.findAsking kt k l i).run P w=.ok none w/\∀x∈l,x.key≠k)\/∃j e,(Instr.findAsking kt k l i).run P w=.ok (some (i+j,e.val)) w/\l[j]? =some e/\e.key=k/\∀(m:Nat)(e':MapEntry),m<j->l[m]? =some e'->e'.key≠k
 |[],_,_,w=>.inl ⟨by simp[Instr.findAsking],by simp⟩
 |x::es,i0,h,w=>by
  obtain⟨r,hr,x4⟩:=AD hk he hi h1 hkv (h x (.head _)) w
  cases r with
  |true=>exact .inr ⟨0,x,by simp[Instr.findAsking,hr],rfl,x4.1 rfl,fun m e' hm=>by omega⟩
  |false=>
   have hne:x.key≠k:=fun q=>by have:=x4.2 q;cases this
   rcases oD hk he hi h1 hkv es (i0+1) (fun x hx=>h x (.tail _ hx)) w with⟨h1,h2⟩|⟨j,e',h1,h2,h3,h4⟩
   ·exact .inl ⟨by simp[Instr.findAsking,hr,h1],fun y hy=>by
     cases hy with
     |head=>exact hne
     |tail _ hy=>exact h2 y hy⟩
   ·refine .inr ⟨j+1,e',by simp[Instr.findAsking,hr,h1];omega,by simpa using h2,h3,fun m x hm hx=>?_⟩
    cases m with
    |zero=>simp at hx;subst hx;exact hne
    |succ m=>exact h4 m x (by omega) (by simpa using hx)
theorem BD{kt e:TypeId}{n:Nat}{i:TypeInfo}(hk:P.underlying kt=some (.array n e))(he:P.underlying e=some (.int .u8))(hi:P.info? e=some i)(h1:i.size=1){k:Value}(hkv:KV (.bytes n) k)(em:Bool)(w:World):(Instr.checkKey em 10000 kt k).run P w=.ok () w:=by
 obtain⟨xs,rfl,hxs,hx'⟩:=hkv
 show(Instr.checkKey em (9999+1) kt (.agg xs)).run P w=_
 unfold Instr.checkKey
 simp only[Sem.run_bind,run_underlying hk,Result.andThen_ok]
 have key:∀(l:List Nat),(∀j∈l,j<n)->∀w:World,(forIn (m:=Sem) l PUnit.unit fun i _=>do
  let a<-part e xs (i*(<-sizeOf e))
  Instr.checkKey em 9999 e a
  pure (ForInStep.yield PUnit.unit)).run P w=.ok PUnit.unit w:=by
  intro l
  induction l with
  |nil=>intro _ w;simp
  |cons j l ih=>
   intro hl w
   have hj:=hl j (.head _)
   obtain⟨a,ha⟩:=hx' xs[j] (Array.getElem_mem _)
   have e1:=vt he hi h1 xs (.int .u8 a) (off:=j) (by rw[Array.getElem?_eq_getElem (by omega),ha]) w
   have e2:(Instr.checkKey em (9998+1) e (.int .u8 a)).run P w=.ok () w:=run_checkKey (d:=.int .u8) (k:=.int .u8 a) he (show IsKey (.int .u8) (.int .u8 a) from rfl) em 9998
   have hs:cH P e 1=true:=by unfold cH;rw[hi];simpa using h1
   rw[List.forIn_cons]
   simp only[Sem.run_bind,run_sizeOf hs w,Result.andThen_ok,Nat.mul_one,e1,e2,Sem.run_pure]
   exact ih (fun j hj=>hl j (.tail _ hj)) w
 simp only[Std.Legacy.Range.forIn_eq_forIn_range',Std.Legacy.Range.size,Nat.sub_zero,Nat.add_one_sub_one,Nat.div_one]
 rw[key (List.range' 0 n) (fun j hj=>by simp at hj;omega) w]
 simp
theorem E2{kt:TypeId}{kk:lE}(h:KM P kt kk=true):N7 P kt kk:=by
 cases kk with
 |int k=>
  simp only[KM]at h
  split at h<;>first|(cases h;done)|skip
  rename_i k' hk
  have:k=k':=by simpa[Nb]using h
  subst this
  exact nV hk fun v⟨n,e⟩=>by subst e;rfl
 |str=>
  simp only[KM]at h
  split at h<;>first|(cases h;done)|skip
  rename_i hk
  exact nV hk fun v⟨n,e⟩=>by subst e;trivial
 |bool=>
  simp only[KM]at h
  split at h<;>first|(cases h;done)|skip
  rename_i hk
  exact nV hk fun v⟨n,e⟩=>by subst e;trivial
 |bytes n=>
  simp only[KM]at h
  split at h<;>first|(cases h;done)|skip
  rename_i m e hk
  simp only[Bool.and_eq_true,beq_iff_eq]at h
  obtain⟨⟨rfl,he⟩,hs⟩:=h
  split at he<;>first|(cases he;done)|skip
  rename_i he'
  have he:=he'
  unfold cH at hs
  split at hs<;>first|(cases hs;done)|skip
  rename_i i hi
  have h1:i.size=1:=by simpa using hs
  refine⟨fun w em v hv=>BD hk he hi h1 hv em w,fun w x hx es hes=>?_,fun w v hv=>?_⟩
  ·obtain⟨xs,rfl,hx1,hx2⟩:=hx
   have bk:∀r,(Instr.findAsking kt (.agg xs) es).run P w=.ok r w->(∀e∈es,True)->((Instr.findNow (.array m e) (.agg xs) es 0=none)\/es=[])->(Instr.findKey kt (.agg xs) es).run P w=.ok r w:=by
    intro r hr _ hn
    rcases hn with hn|hn
    ·simp[Instr.findKey,run_underlying hk,hn,hr]
    ·subst hn
     simp[Instr.findAsking]at hr
     simp[Instr.findKey,run_underlying hk,Instr.findNow,hr]
   have hn:Instr.findNow (.array m e) (.agg xs) es 0=none\/es=[]:=by
    cases es with
    |nil=>exact .inr rfl
    |cons x l=>exact .inl (by simp[Instr.findNow,Instr.sameNow])
   rcases oD hk he hi h1 ⟨xs,rfl,hx1,hx2⟩ es 0 hes w with⟨q1,q2⟩|⟨j,e',q1,q2,q3,q4⟩
   ·exact .inl ⟨bk _ q1 (fun _ _=>trivial) hn,q2⟩
   ·rw[Nat.zero_add]at q1
    exact .inr ⟨j,e',bk _ q1 (fun _ _=>trivial) hn,q2,q3,q4⟩
  ·obtain⟨xs,rfl,hx1,hx2⟩:=hv
   have:Instr.sameBits 10000 (.agg xs) (.agg xs)=true:=by
    show Instr.sameBits (9999+1) (.agg xs) (.agg xs)=true
    unfold Instr.sameBits
    simp only[beq_self_eq_true,Bool.true_and,List.all_eq_true]
    intro p hp
    have h2:=List.of_mem_zip hp
    have h3:p.1=p.2:=by
     obtain⟨i,hi⟩:=List.mem_iff_getElem?.1 hp
     rw[List.getElem?_zip_eq_some]at hi
     rw[hi.1]at hi
     exact Option.some.inj hi.2
    obtain⟨mm,hm⟩:=hx2 p.1 (by simpa using h2.1)
    obtain⟨p1,p2⟩:=p
    simp only at h3 hm⊢
    subst h3;subst hm
    simp[Instr.sameBits]
   simp[Instr.keyThatStays,this]
theorem rX{kk:lE}{a:AV}{v:Value}{R:Nat->Nat}(h:fw kk a=true)(hv:VR w R a v):KV kk v:=by
 unfold fw at h
 split at h
 ·rename_i k k' n
  have:k=k':=by simpa[Nb]using h
  subst this
  exact⟨n,VR.bT hv⟩
 ·exact⟨_,VR.eV hv⟩
 ·exact⟨_,VR.fR hv⟩
 ·rename_i n cs
  simp only[Bool.and_eq_true,beq_iff_eq]at h
  obtain⟨vs,rfl,hs,hr,_⟩:=VR.wj hv
  refine⟨vs,rfl,by omega,fun u hu=>?_⟩
  obtain⟨i,hi⟩:=Array.mem_iff_getElem?.1 hu
  have hlt:i<cs.length:=by have:=(Array.getElem?_eq_some_iff.1 hi).1;omega
  have hc:=List.getElem?_eq_getElem hlt
  have h8:BX cs[i]=true:=List.all_eq_true.1 h.2 _ (List.getElem_mem hlt)
  have hvr:=hr i _ u hc hi
  generalize cs[i]=c at h8 hvr
  unfold BX at h8
  split at h8
  ·exact⟨_,VR.bT hvr⟩
  ·cases h8
 ·cases h
theorem E1:∀(cs ds:List AV),cs.all BX=true->ds.all BX=true->(pQ cs ds=true↔cs=ds)
 |[],[],_,_=>by simp[pQ]
 |[],_::_,_,_=>by simp[pQ]
 |_::_,[],_,_=>by simp[pQ]
 |a::cs,b::ds,h1,h2=>by
  simp only[List.all_cons,Bool.and_eq_true]at h1 h2
  have ih:=E1 cs ds h1.2 h2.2
  have ha:=h1.1;have hb:=h2.1
  unfold BX at ha hb
  split at ha<;>first|(cases ha;done)|skip
  split at hb<;>first|(cases hb;done)|skip
  simp[pQ,PJ,ih]
theorem Nc{kk:lE}{a b:AV}{x y:Value}{R:Nat->Nat}(ha:fw kk a=true)(hb:fw kk b=true)(hx:VR w R a x)(hy:VR w R b y):rW a b=true↔y=x:=by
 cases kk with
 |int k=>
  cases a<;>first|(simp[fw]at ha;done)|skip
  cases b<;>first|(simp[fw]at hb;done)|skip
  rename_i k1 n1 k2 n2
  have e1:k=k1:=by simpa[fw,Nb]using ha
  have e2:k=k2:=by simpa[fw,Nb]using hb
  subst e1;subst e2
  rw[VR.bT hx,VR.bT hy]
  show((n1==n2)&&true)=true↔_
  rw[Bool.and_true,beq_iff_eq]
  exact⟨fun h=>by rw[h],fun h=>by injection h with _ h;exact h.symm⟩
 |str=>
  cases a<;>first|(simp[fw]at ha;done)|skip
  cases b<;>first|(simp[fw]at hb;done)|skip
  rename_i s1 s2
  rw[VR.eV hx,VR.eV hy]
  show((s1==s2)&&true)=true↔_
  rw[Bool.and_true,beq_iff_eq]
  refine⟨fun h=>by rw[h],fun h=>?_⟩
  injection h with h
  have:s2.toArray=s1.toArray:=congrArg ByteArray.data h
  have:=congrArg Array.toList this
  simpa using this.symm
 |bool=>
  cases a<;>first|(simp[fw]at ha;done)|skip
  cases b<;>first|(simp[fw]at hb;done)|skip
  rename_i s1 s2
  rw[VR.fR hx,VR.fR hy]
  show((s1==s2)&&true)=true↔_
  rw[Bool.and_true,beq_iff_eq]
  exact⟨fun h=>by rw[h],fun h=>by injection h with h;exact h.symm⟩
 |bytes n=>
  cases a<;>first|(simp[fw]at ha;done)|skip
  cases b<;>first|(simp[fw]at hb;done)|skip
  rename_i cs ds
  simp only[fw,Bool.and_eq_true,beq_iff_eq]at ha hb
  show pQ cs ds=true↔_
  rw[E1 cs ds ha.2 hb.2]
  obtain⟨vs,rfl,h1,h2,_⟩:=VR.wj hx
  obtain⟨us,rfl,k1,k2,_⟩:=VR.wj hy
  constructor
  ·intro e
   subst e
   congr 1
   apply Array.ext (by omega)
   intro j q1 q2
   have hlt:j<cs.length:=by omega
   have hc:=List.getElem?_eq_getElem hlt
   have r1:=h2 j _ vs[j] hc (Array.getElem?_eq_getElem q2)
   have r2:=k2 j _ us[j] hc (Array.getElem?_eq_getElem q1)
   have h8:BX cs[j]=true:=List.all_eq_true.1 ha.2 _ (List.getElem_mem hlt)
   generalize cs[j]=c at h8 r1 r2
   unfold BX at h8
   split at h8
   ·rw[VR.bT r1,VR.bT r2]
   ·cases h8
  ·intro e
   injection e with e
   subst e
   apply List.ext_getElem (by omega)
   intro j q1 q2
   have r1:=h2 j _ us[j] (List.getElem?_eq_getElem q1) (Array.getElem?_eq_getElem (by omega))
   have r2:=k2 j _ us[j] (List.getElem?_eq_getElem q2) (Array.getElem?_eq_getElem (by omega))
   have h8:BX cs[j]=true:=List.all_eq_true.1 ha.2 _ (List.getElem_mem q1)
   have h9:BX ds[j]=true:=List.all_eq_true.1 hb.2 _ (List.getElem_mem q2)
   generalize cs[j]=c at h8 r1⊢
   generalize ds[j]=d at h9 r2⊢
   unfold BX at h8 h9
   split at h8<;>first|(cases h8;done)|skip
   split at h9<;>first|(cases h9;done)|skip
   have:=VR.bT r1
   rw[VR.bT r2]at this
   injection this with _ this
   rw[this]
end
end Go.AB
end
