/- A part. -/
import Derived.Test.YtgecakgfnjkkbaaGreatTt3
import Derived.Laws.BytesArg
import Derived.Laws.StructEq
import Derived.Laws.Rows
import Derived.Laws.CopyRow
import Derived.Laws.Append
import Derived.Laws.AppendOwn
import Derived.Laws.BytesString
set_option linter.defProp false
set_option linter.unusedSimpArgs false
set_option linter.unusedVariables false
section
namespace Go.AB
open Go
theorem J4{a:AV}{c:UInt8}(h:byteOf a=some c):a=.int .u8 c.toNat:=by
 unfold byteOf at h
 grind [UInt8.toNat_ofNat']
theorem xP:∀{cs:List AV}{l:List UInt8},bytesOf cs=some l->cs=l.map fun c=>.int .u8 c.toNat
 |[],l,h=>by grind [bytesOf]
 |a::r,l,h=>by
  unfold bytesOf at h
  cases ha:byteOf a with
  |none=>rw[ha]at h;cases h
  |some c=>
   cases hr:bytesOf r with
   |none=>rw[ha,hr]at h;cases h
   |some m=>
    rw[ha,hr]at h
    injection h with h
    subst h
    rw[J4 ha,xP hr];rfl
section
variable{P:Program}{G:Gh}{n:Nat}{D:List Deferred}{E:St}{a:Act}{w:World}
def UM(h:Inv G n D E a w){op:Op}{ty:TypeId}{z:List AV}{m:Bool}{x:IX}(hc:aw P op ty (.ks z m x)=true){av:AV}(hv:gO (pv (.ks z m x) (xg true E) E) av):
 ∃v,runs P a op ty w v/\NR G w E a av v:=by
 have hc':aw P op ty (.load z.length m x)=true:=by cases op<;>first|exact hc|(done)
 refine IT h hc' ?_
 have hv':gO (GF z m E.s (xg true E x)) av:=hv
 show gO (j5 m (rd E (xg true E x) z.length)) av
 generalize xg true E x=xv at hv'
 cases xv<;>first|exact hv'.no.elim|skip
 rename_i b off
 have hv2:gO (Li z m off (E.s b)) av:=hv'
 show gO (j5 m (rj z.length off (E.s b))) av
 cases hs:E.s b with
 |none=>rw[hs]at hv2;exact hv2.no.elim
 |some so=>
  cases so with
  |map es=>rw[hs]at hv2;exact hv2.no.elim
  |cells cs=>
   rw[hs]at hv2
   have hv3:gO (ckP (off+z.length<=cs.length) (oq m (pad z (views (sub cs off z.length))))) av:=hv2
   unfold ckP at hv3
   cases hi:dJ (oq m (pad z (views (sub cs off z.length))))with
   |false=>rw[hi]at hv3;exact hv3.no.elim
   |true=>
    rw[hi]at hv3
    obtain⟨rfl,hle⟩:=hv3.prt
    have hlen:(views (AB.sub cs off z.length)).length=z.length:=by simp[AB.views,List.length_map,AB.sub,List.length_take,List.length_drop];omega
    have abw:pad z (views (AB.sub cs off z.length))=views (AB.sub cs off z.length):=by unfold pad;rw[hlen,beq_self_eq_true];rfl
    rw[abw]at hi⊢
    show gO (j5 m (fP z.length off cs)) _
    unfold fP
    rw[decide_eq_true hle]
    show gO (Zp (oq m (views (AB.sub cs off z.length)))) _
    unfold Zp
    rw[hi]
    exact .inl rfl
def UL(h:Inv G n D E a w){op:Op}{ty:TypeId}{k:IntKind}{x:IX}(hc:aw P op ty (.nx k x)=true){av:AV}(hv:gO (pv (.nx k x) (xg true E) E) av):
 ∃v,runs P a op ty w v/\NR G w E a av v:=by
 have hc':aw P op ty (.load 1 false x)=true:=by
  cases op<;>first|(simp[aw]at hc)|skip
  simp only[aw,Bool.and_eq_true]at hc⊢
  exact⟨⟨⟨hc.1.1,hc.1.2⟩,rfl⟩,hc.2⟩
 refine IT h hc' ?_
 have hv':gO (zS k E.s (xg true E x)) av:=hv
 show gO (j5 false (rd E (xg true E x) 1)) av
 generalize xg true E x=xv at hv'
 cases xv<;>first|exact hv'.no.elim|skip
 rename_i b off
 obtain⟨rfl,hcc⟩:=gO.prt (hv')
 show gO (j5 false (rj 1 off (E.s b))) _
 cases hs:E.s b with
 |none=>rw[hs]at hcc;exact hcc.elim
 |some so=>
  cases so with
  |map es=>rw[hs]at hcc;exact hcc.elim
  |cells cs=>
   rw[hs]at hcc
   obtain⟨m,hm⟩:=hcc
   have hlt:=(List.getElem?_eq_some_iff.1 hm).1
   show gO (j5 false (fP 1 off cs)) (.int k (intOf cs[off]?))
   rw[hm]
   unfold fP
   rw[decide_eq_true AT]
   have e:AB.sub cs off 1=[.int k m]:=by
    unfold AB.sub
    rw[List.drop_eq_getElem_cons hlt]
    have:=(List.getElem?_eq_some_iff.1 hm).2
    rw[this];rfl
   rw[e]
   exact .inl rfl
def ln{P:Program}(w:World)(src e:TypeId)(hs:P.underlying src=some (.slice e))(he:P.underlying e=some (.int .u8))(ad:Addr)(cap:Nat):
 ∀dst,P.underlying dst=some .string->(convert src dst (.slice (some ad) 0 cap)).run P w=.ok (.string ByteArray.empty) w:=by
 intro dst hd
 have hl:(loadCells ad 0).run P w=.ok ([].map (Value.int .u8)).toArray w:=D_
 rw[run_convert_bytes_string w src dst e _ 0 cap hs he hd,run_bytesToString w _ 0 cap [] hl]
 simp[ByteArray.emptyWithCapacity]
def QW(h:Inv G n D E a w){op:Op}{ty:TypeId}{x:IX}(hc:aw P op ty (.kO x)=true){av:AV}(hv:gO (pv (.kO x) (xg true E) E) av):
 ∃v,runs P a op ty w v/\NR G w E a av v:=by
 cases op<;>first|(simp[aw]at hc;done)|skip
 rename_i s t y
 simp only[aw,Bool.and_eq_true]at hc
 obtain⟨hy,hc⟩:=hc
 split at hc<;>try(cases hc;done)
 rename_i e hs ht
 split at hc<;>try(cases hc;done)
 rename_i he
 have hb:=BR.aR h hy
 have hv':gO (rW (xg true E x)) av:=hv
 generalize xg true E x=xv at hb hv'
 unfold rW at hv'
 split at hv'<;>try(exact hv'.no.elim)
 rename_i ow sz m cs
 cases hsz:sz==1 with
 |false=>rw[hsz]at hv';exact hv'.no.elim
 |true=>
 rw[hsz]at hv'
 obtain rfl:=beq_iff_eq.1 hsz
 have hv2:=hv'
 cases hbs:bytesOf cs with
 |none=>rw[hbs]at hv2;exact hv2.no.elim
 |some l=>
 rw[hbs]at hv2
 obtain rfl:=hv2.da
 obtain rfl:=xP hbs
 refine⟨.string ⟨l.toArray⟩,fun _ _ _ _=>?_,NR.mk rfl (.str l) rfl⟩
 rcases VR.gq hb with⟨e1,_,hl0⟩|⟨b,off,cap,e1,hlen,_,_,u,u1,u2,_⟩
 ·have:l=[]:=by simpa using hl0
  subst this
  rcases e1 with e1|⟨_,ad,cap,e1⟩
  ·have:=run_convert_bytes_nil (P:=P) w s e hs he 0 0 t ht
   simp[execOp,e1,this]
   rfl
  ·have:=ln (P:=P) w s e hs he ad cap t ht
   simp[execOp,e1,this]
   rfl
 ·have hm:l.length=m:=by simpa using hlen
  have:=run_convert_bytes_arg (P:=P) w s e hs he b off m cap (l.map fun c=>(c.toNat:Int)) A_ (fun i hi=>by
   have hil:i<l.length:=AT
   have hc0:(l.map fun c=>AV.int .u8 c.toNat)[i]? =some (.int .u8 l[i].toNat):=by simp[hil]
   grind [VR.cu]) t ht
  have hs2:strOfNums (l.map fun c=>(c.toNat:Int))=⟨l.toArray⟩:=by
   unfold strOfNums
   congr 2
   simp[Function.comp_def]
  rw[hs2]at this
  simp[execOp,e1,this]
end
def YX(off:Nat):∀(l:List Value)(s:Nat)(cells:Array Value),
 ((l.zipIdx s).foldl (fun cs(x:Value×Nat)=>cs.setIfInBounds (off+x.2) x.1) cells).size=cells.size/\
 ∀k,((l.zipIdx s).foldl (fun cs(x:Value×Nat)=>cs.setIfInBounds (off+x.2) x.1) cells)[k]? =
  if off+s<=k/\k<off+s+l.length/\k<cells.size then l[k -(off+s)]? else cells[k]? :=by
 intro l
 induction l with
 |nil=>
  intro s cells
  refine⟨rfl,fun k=>?_⟩
  rw[if_neg A_];rfl
 |cons v l ih=>
  intro s cells
  rw[List.zipIdx_cons]
  grind
section
variable{P:Program}{G:Gh}{n:Nat}{D:List Deferred}{E:St}{a:Act}{w:World}
def Row(w:World)(R:Nat->Nat)(cs:List AV)(vs:Array Value):Prop:=vs.size=cs.length/\(∀(j:Nat)(c:AV)(u:Value),cs[j]? =some c->vs[j]? =some u->VR w R c u)/\Fl cs
def iK{R:Nat->Nat}{av:AV}{v:Value}(hi:dJ av=true)(h:VR w R av v):Row w R (cellsOf av) v.cells:=by
 have key:(∃cs,av=.agg cs)\/(cellsOf av=[av]/\v.cells= #[v]/\qH av=true):=by cases h<;>first|exact .inl ⟨_,rfl⟩|exact .inr ⟨rfl,rfl,rfl⟩|(rename_i hb _;cases hb<;>exact .inr ⟨rfl,rfl,rfl⟩)|(rename_i EL;exact .inr ⟨rfl,by cases v<;>first|rfl|(cases EL),rfl⟩)|grind [dJ]
 rcases key with⟨cs,rfl⟩|⟨h1,h2,h3⟩
 ·obtain⟨vs,rfl,hl,hr,hf⟩:=VR.uO h
  exact⟨hl,hr,hf⟩
 ·rw[h1,h2]
  refine⟨rfl,fun j c u hc hu=>?_,fun c hc=>?_⟩
  ·grind
  grind
theorem Row.views{R:Nat->Nat}{cs:List AV}{vs:Array Value}(h:Row w R cs vs):Row w R (views cs) vs:=by
 refine⟨by simp[AB.views,h.1],fun j c u hc hu=>?_,h.2.2.views⟩
 rw[fh]at hc
 cases hj:cs[j]? with
 |none=>rw[hj]at hc;cases hc
 |some c'=>
  rw[hj]at hc;simp at hc
  rw[<-hc];exact(h.2.1 j c' u hj hu).view
theorem oj(cs news:List AV)(off k:Nat)(h:off+news.length<=cs.length):(setAt cs off news)[k]? =if off<=k/\k<off+news.length then news[k -off]? else cs[k]? :=by
 unfold setAt
 rw[List.append_assoc]
 grind
theorem mA(cs news:List AV)(off:Nat)(h:off+news.length<=cs.length):(setAt cs off news).length=cs.length:=by grind [setAt]
theorem Fl.setAt{cs news:List AV}(h:Fl cs)(k:Fl news)(off:Nat):Fl (setAt cs off news):=by
 intro c hc
 rcases List.mem_append.1 hc with hc|hc
 ·rcases List.mem_append.1 hc with hc|hc
  ·exact h c (List.mem_of_mem_take hc)
  ·exact k c hc
 ·exact h c (List.mem_of_mem_drop hc)
theorem Eu.setAt{t:Nat}{cs news:List AV}(h:Eu t cs)(k:Fl news)(off:Nat):Eu t (AB.setAt cs off news):=by
 intro c hc
 unfold AB.setAt at hc
 simp only[List.mem_append]at hc
 rcases hc with(hc|hc)|hc
 ·exact h c (List.mem_of_mem_take hc)
 ·exact .inl (k c hc)
 ·exact h c (List.mem_of_mem_drop hc)
theorem Row.setAt{R:Nat->Nat}{cs news:List AV}{vs us:Array Value}{off:Nat}(h:Row w R cs vs)(k:Row w R news us)(dn:off+news.length<=cs.length):
 Row w R (setAt cs off news) (us.zipIdx.foldl (fun cs(x:Value×Nat)=>cs.setIfInBounds (off+x.2) x.1) vs):=by
 have e:us.zipIdx.foldl (fun cs x=>cs.setIfInBounds (off+x.2) x.1) vs=(us.toList.zipIdx 0).foldl (fun cs x=>cs.setIfInBounds (off+x.2) x.1) vs:=by rw[<-Array.foldl_toList,Array.toList_zipIdx]
 rw[e]
 obtain⟨h1,h2⟩:=YX off us.toList 0 vs
 refine⟨by rw[h1,mA _ _ _ dn,h.1],fun j c u hc hu=>?_,Fl.setAt h.2.2 k.2.2 off⟩
 rw[h2 j]at hu
 rw[oj _ _ _ _ dn]at hc
 have hus:=k.1
 by_cases hj:off<=j/\j<off+news.length
 ·rw[if_pos hj]at hc
  exact k.2.1 (j -off) c u hc A_
 ·rw[if_neg hj]at hc
  rw[if_neg A_]at hu
  exact h.2.1 j c u hc hu
def rY(h:Inv G n D E a w){f:IX->AV}(hf:∀(o:Operand)(x:IX),bN o x=true->dJ (f x)=true->VR w G.R (f x) (a.eval o))(place:Nat->Option (Nat×Nat)):
 ∀(qs:List (Nat×Operand))(ps:List (Nat×Nat×IX))(cs ds:List AV)(vs:Array Value),
  (qs.length=ps.length/\∀(j:Nat)(q:Nat×Operand)(p:Nat×Nat×IX),qs[j]? =some q->ps[j]? =some p->place q.1=some (p.1,p.2.1)/\bN q.2 p.2.2=true)->
  Row w G.R cs vs->fill f cs ps=some ds->∃us,Instr.fill place vs (qs.map fun q=>(q.1,a.eval q.2))=some us/\Row w G.R ds us:=by
 intro qs
 induction qs with
 |nil=>
  intro ps cs ds vs hc hr hfl
  cases ps with
  |nil=>injection hfl with hfl;subst hfl;exact⟨vs,rfl,hr⟩
  |cons _ _=>simp at hc
 |cons q qs ih=>
  intro ps cs ds vs hc hr hfl
  cases ps with
  |nil=>simp at hc
  |cons p ps=>
   obtain⟨off,m,x⟩:=p
   obtain⟨hlen,eo⟩:=hc
   obtain⟨hp,hx⟩:=eo 0 q (off,m,x) rfl rfl
   simp[fill]at hfl
   cases Tc:(dJ (f x)&&((views (cellsOf (f x))).length==m&&decide (off+m<=cs.length)))with
   |false=>grind
   |true=>
    rw[Tc]at hfl
    simp[Bool.and_eq_true,beq_iff_eq,decide_eq_true_eq]at Tc
    obtain⟨hi,hm,dn⟩:=Tc
    have dE:=(iK hi (hf q.2 x hx hi)).views
    have hsz:(a.eval q.2).cells.size=m:=by rw[dE.1,hm]
    have hcs:off+(a.eval q.2).cells.size<=vs.size:=by rw[hsz,hr.1];exact dn
    have hr':=hr.setAt dE (off:=off) A_
    obtain⟨us,h1,h2⟩:=ih ps _ ds _ ⟨A_,fun j q' p' hq hp'=>eo (j+1) q' p' A_ A_⟩ hr' hfl
    simp[List.map_cons,Instr.fill]
    grind
def NM{fs:Array Field}:∀(qs:List (Nat×Operand))(ps:List (Nat×Nat×IX)),Aa P fs qs ps=true->
 qs.length=ps.length/\∀(j:Nat)(q:Nat×Operand)(p:Nat×Nat×IX),qs[j]? =some q->ps[j]? =some p->(∃f,fs[q.1]? =some f/\f.offset=p.1/\di P f.type p.2.1=true)/\bN q.2 p.2.2=true:=by
 intro qs
 induction qs with
 |nil=>intro ps hp;cases ps with
  |nil=>grind
  |cons _ _=>simp[Aa]at hp
 |cons q qs ih=>intro ps hp;cases ps with
  |nil=>simp[Aa]at hp
  |cons p ps=>
   simp[Aa]at hp
   grind
def xl{sz:Nat}:∀(qs:List (Nat×Operand))(ps:List (Nat×Nat×IX)),uh sz qs ps=true->
 qs.length=ps.length/\∀(j:Nat)(q:Nat×Operand)(p:Nat×Nat×IX),qs[j]? =some q->ps[j]? =some p->(q.1*sz=p.1/\p.2.1=sz)/\bN q.2 p.2.2=true:=by
 intro qs
 induction qs with
 |nil=>intro ps hp;cases ps with
  |nil=>grind
  |cons _ _=>simp[uh]at hp
 |cons q qs ih=>intro ps hp;cases ps with
  |nil=>simp[uh]at hp
  |cons p ps=>
   simp[uh,beq_iff_eq]at hp
   grind
def vm{t:TypeId}{z:List AV}(h:pn P t z=true):∃i v,P.info? t=some i/\i.zero=some v/\i.size=z.length/\(∀(w:World)(R:Nat->Nat),Row w R z v.cells)/\(∀(j:Nat)(c:AV)(u:Value),z[j]? =some c->v.cells[j]? =some u->cR u c=true):=by
 unfold pn at h
 split at h
 ·rename_i i hi
  split at h
  ·rename_i v hv
   simp[Bool.and_eq_true,beq_iff_eq]at h
   obtain⟨h1,h2⟩:=BT h.1
   exact⟨i,v,hi,hv,h.2,fun w R=>⟨A_,fun j c u hc hu=>vQ (h2 j c u hc A_) w R,Cu h.1⟩,fun j c u hc hu=>h2 j c u hc A_⟩
  ·cases h
 ·cases h
def Lm(w:World):∀(fs:List Field),(∀f∈fs,(P.info? f.type).isSome=true)->
 (fs.mapM (m:=Sem) fun f=>Prod.mk f.offset<$>sizeOf f.type).run P w=.ok (fs.map fun f=>(f.offset,P.cellsOf f.type)) w:=by
 intro fs
 induction fs with
 |nil=>intro _;rfl
 |cons f fs ih=>
  cases hi:P.info? f.type with
  |none=>grind
  |some i=>
   simp[sizeOf,typeInfo,Program.cellsOf]at ih⊢
   simp_all
def UJ(h:Inv G n D E a w){op:Op}{ty:TypeId}{z:List AV}{ps:List (Nat×Nat×IX)}(hc:aw P op ty (.build z ps)=true){av:AV}(hv:gO (pv (.build z ps) (xg true E) E) av):
 ∃v,runs P a op ty w v/\NR G w E a av v:=by
 cases op<;>first|(simp[aw]at hc;done)|skip
 rename_i t qs
 simp only[aw,Bool.and_eq_true]at hc
 obtain⟨hz,hc⟩:=hc
 obtain⟨ti,zv,hti,hzv,hsz,dE,_⟩:=vm hz
 have hv':gO (Co (fill (xg true E) z ps)) av:=hv
 cases hfl:fill (xg true E) z ps with
 |none=>rw[hfl]at hv';exact hv'.no.elim
 |some ds=>
  rw[hfl]at hv'
  have hav:av=.agg ds:=hv'.da
  subst hav
  have hzr:(zeroValue t).run P w=.ok zv w:=by simp[zeroValue,typeInfo,hti,hzv]
  have hf:∀(o:Operand)(x:IX),bN o x=true->dJ (xg true E x)=true->VR w G.R (xg true E x) (a.eval o):=fun o x hx hi=>(BR.aR h hx).vr hi
  split at hc<;>try(cases hc;done)
  ·rename_i fs ht
   rw[Bool.and_eq_true]at hc
   obtain⟨hp,eo⟩:=hc
   obtain⟨hl,hp⟩:=NM _ _ hp
   have W6:(fs.mapM (m:=Sem) fun f=>Prod.mk f.offset<$>sizeOf f.type).run P w=.ok (fs.map fun f=>(f.offset,P.cellsOf f.type)) w:=by
    have:=Lm (P:=P) w fs.toList (fun f hf=>by grind [Array.all_eq_true'])
    rw[Array.mapM_eq_mapM_toList]
    simp only[Sem.run_map,this,Result.andThen_ok]
    congr 1
    apply Array.ext'
    simp
   obtain⟨us,h1,h2⟩:=rY h hf ((fs.map fun f=>(f.offset,P.cellsOf f.type))[·]?) qs.toList ps z ds zv.cells
    ⟨hl,fun j q p hq hp'=>by grind [lq,Program.cellsOf]⟩ (dE w G.R) hfl
   refine⟨.agg us,fun _ _ _ _=>?_,NR.mk rfl (.agg _ _ h2.2.2 h2.1 h2.2.1) rfl⟩
   simp only[Array.getElem?_map]at h1
   simp[execOp,Instr.build,hzr,run_underlying ht,W6,h1]
  ·rename_i m e ht
   split at hc<;>try(cases hc;done)
   rename_i ei hei
   obtain⟨hl,hp⟩:=xl _ _ hc
   obtain⟨us,h1,h2⟩:=rY h hf (fun i=>some (i*ei.size,ei.size)) qs.toList ps z ds zv.cells
    ⟨hl,fun j q p hq hp'=>A_⟩ (dE w G.R) hfl
   refine⟨.agg us,fun _ _ _ _=>?_,NR.mk rfl (.agg _ _ h2.2.2 h2.1 h2.2.1) rfl⟩
   simp[execOp,Instr.build,hzr,run_underlying ht,sizeOf,typeInfo,hei,h1]
def tj(h:Inv G n D E a w){f:IX->AV}(hf:∀(o:Operand)(x:IX),bN o x=true->dJ (f x)=true->VR w G.R (f x) (a.eval o)):
 ∀(os:List Operand)(xs:List IX)(as:List AV),gX os xs=true->cN f xs=some as->as.length=os.length/\(∀c∈as,dJ c=true/\view c=c)/\
  ∀(j:Nat)(c:AV)(u:Value),as[j]? =some c->(os.map a.eval)[j]? =some u->VR w G.R c u:=by
 intro os
 induction os with
 |nil=>
  intro xs as hc hv
  cases xs with
  |nil=>injection hv with hv;grind
  |cons _ _=>simp[gX]at hc
 |cons o os ih=>
  intro xs as hc hv
  cases xs with
  |nil=>simp[gX]at hc
  |cons x xs=>
   simp[gX,Bool.and_eq_true]at hc
   simp[cN]at hv
   cases hr:cN f xs with
   |none=>grind [P5]
   |some as'=>
    rw[hr]at hv
    simp[P5]at hv
    cases hi:dJ (f x)with
    |false=>grind
    |true=>
     rw[hi]at hv
     injection hv with hv;subst hv
     obtain⟨h1,h2,h3⟩:=ih xs as' hc.2 hr
     refine⟨A_,?_,fun j c u hcj hu=>?_⟩
     ·intro c hcm
      rcases List.mem_cons.1 hcm with rfl|hcm
      ·grind [lK,mD]
      grind
     ·cases j with
      |zero=>simp at hcj hu;subst hcj;subst hu;exact(hf o x hc.1 hi).view
      |succ j=>grind
def QX(h:Inv G n D E a w){op:Op}{ty:TypeId}{fi:Nat}{fs cs:List IX}(hc:aw P op ty (.uc fi fs cs)=true){av:AV}(hv:gO (pv (.uc fi fs cs) (xg true E) E) av):
 ∃v,runs P a op ty w v/\NR G w E a av v:=by
 cases op<;>first|(simp[aw]at hc;done)|skip
 rename_i g c d
 cases g<;>first|(simp[aw]at hc;done)|skip
 rename_i g
 simp only[aw,Bool.and_eq_true,beq_iff_eq]at hc
 obtain⟨⟨rfl,h1⟩,h2⟩:=hc
 have hf:∀(o:Operand)(x:IX),bN o x=true->dJ (xg true E x)=true->VR w G.R (xg true E x) (a.eval o):=fun o x hx hi=>(BR.aR h hx).vr hi
 have hv':gO (uU fi (cN (xg true E) fs) (cN (xg true E) cs)) av:=hv
 unfold uU at hv'
 split at hv'
 ·rename_i x y hx hy
  have hav:=hv'.da
  subst hav
  obtain⟨a1,_,a3⟩:=tj h hf _ _ _ h1 hx
  obtain⟨b1,_,b3⟩:=tj h hf _ _ _ h2 hy
  refine⟨.func (.func fi) (c.map a.eval) (d.map a.eval),fun _ _ _ _=>D_,NR.mk rfl (.fn fi x y _ _ ?_ (fun j c' u hc' hu=>a3 j c' u hc' ?_) ?_ (fun j c' u hc' hu=>b3 j c' u hc' ?_)) rfl⟩
  ·grind
  ·grind
  ·grind
  grind
 ·exact hv'.no.elim
def QY(h:Inv G n D E a w){op:Op}{ty:TypeId}{mx:Bool}{xs:List IX}(hc:aw P op ty (.mi mx xs)=true){av:AV}(hv:gO (pv (.mi mx xs) (xg true E) E) av):
 ∃v,runs P a op ty w v/\NR G w E a av v:=by
 have key:∀(ys:List Operand),gX ys xs=true->∃(k:IntKind)(m:Int)(y:Operand)(ys':List Operand),ys=y::ys'/\av=.int k m/\∃m0,a.eval y=.int k m0/\
  ((ys'.map a.eval).foldlM (if mx then Builtin.max2 else Builtin.min2) (.int k m0)).run P w=.ok (.int k m) w:=by
  intro ys hx
  have hv':gO (uV mx (xs.map (xg true E))) av:=hv
  cases xs with
  |nil=>exact hv'.no.elim
  |cons x xs=>
   cases ys with
   |nil=>simp[gX]at hx
   |cons y ys=>
    simp only[gX,Bool.and_eq_true]at hx
    have hb:=BR.aR h hx.1
    simp only[List.map_cons]at hv'
    generalize xg true E x=xv at hb hv'
    cases xv<;>simp only[uV]at hv'<;>try(exact hv'.no.elim)
    rename_i k m0
    cases hr:Ln mx m0 (xs.map (xg true E))with
    |none=>rw[hr]at hv';exact hv'.no.elim
    |some r=>
     rw[hr]at hv'
     have hav:av=.int k r:=hv'.da
     exact⟨k,r,y,ys,rfl,hav,m0,VR.cu hb,XD mx k h xs ys hx.2 m0 r hr⟩
 cases op<;>first|(cases mx<;>simp[aw]at hc;done)|skip
 rename_i c
 cases mx with
 |true=>
  simp only[aw]at hc
  split at hc<;>try(cases hc;done)
  rename_i ys ts hb
  have hce:=qc hb
  subst hce
  obtain⟨k,m,y,ys',rfl,rfl,m0,e0,hr⟩:=key ys hc
  refine⟨.int k m,fun _ _ _ _=>?_,NR.mk rfl (.int _ _) rfl⟩
  simp only[if_true]at hr
  simp[execOp,resolve,invoke,builtin,Builtin.max_,e0,hr]
 |false=>
  simp only[aw]at hc
  split at hc<;>try(cases hc;done)
  rename_i ys ts hb
  have hce:=qc hb
  subst hce
  obtain⟨k,m,y,ys',rfl,rfl,m0,e0,hr⟩:=key ys hc
  refine⟨.int k m,fun _ _ _ _=>?_,NR.mk rfl (.int _ _) rfl⟩
  simp only[Bool.false_eq_true,if_false]at hr
  simp[execOp,resolve,invoke,builtin,Builtin.min_,e0,hr]
def acF(h:Inv G n D E a w){op:Op}{ty:TypeId}{x:IX}(hc:aw P op ty (.cap x)=true){av:AV}(hv:gO (pv (.cap x) (xg true E) E) av):
 ∃v,runs P a op ty w v/\NR G w E a av v:=by
 cases op<;>first|(simp[aw]at hc;done)|skip
 simp only[aw]at hc
 split at hc<;>try(cases hc)
 rename_i y ys t ts hb
 have hce:=qc hb
 subst hce
 simp[Bool.and_eq_true]at hc
 obtain⟨hy,hsl⟩:=hc
 have hv':gO (MD (xg true E x)) av:=hv
 have hbx:=BR.aR h hy
 generalize xg true E x=xv at hbx hv'
 cases he:cU P t with
 |none=>grind
 |some e=>
 have ht:=dj he
 unfold MD at hv'
 split at hv'
 ·rename_i b o l cap
  rw[hv'.da]
  refine⟨.int .i64 cap,fun _ _ _ _=>?_,NR.mk rfl (.int _ _) rfl⟩
  have hr:∀w',w'=w->(Builtin.cap_ (t::ts).toArray ty ((y::ys).toArray.map a.eval)).run P w'=.ok (.int .i64 cap) w':=fun w' _=>by rcases VR.cW hbx with e1|⟨_,rfl,e1⟩<;>simp[Builtin.cap_,run_underlying ht,goInt,e1]
  simp[execOp,resolve,invoke,builtin]at hr⊢;simp[hr]
 ·exact hv'.no.elim
def Xk{t:TypeId}(h:Xj P t=true):∃k,P.underlying t=some (.int k):=by grind [Xj]
def VR.TE{R:Nat->Nat}{v:Value}(h:VR w R .py v):v=.nilFunc:=TM
def acI(h:Inv G n D E a w){op:Op}{ty:TypeId}{ne:Bool}{x:IX}(hc:aw P op ty (.WD ne x)=true){av:AV}(hv:gO (pv (.WD ne x) (xg true E) E) av):
 ∃v,runs P a op ty w v/\NR G w E a av v:=by
 cases op<;>first|(simp[aw]at hc;done)|skip
 rename_i b t u v yt
 simp only[aw,Bool.and_eq_true,decide_eq_true_eq]at hc
 obtain⟨⟨⟨rfl,hx⟩,hy⟩,ht⟩:=hc
 have e2:a.eval v=.nilFunc:=by
  split at hy
  ·rfl
  ·cases hy
 split at ht<;>try(cases ht;done)
 rename_i q1 q2 q3 htu
 have hbx:=BR.aR h hx
 have hv':gO (Kw ne (xg true E x)) av:=hv
 generalize xg true E x=xv at hbx hv'
 have key:∀(fv:Value)(r:Bool),a.eval u=fv->(∀d:Nat,(Op.equalIn (d+1) t fv .nilFunc).run P w=.ok r w)->runs P a (.binOp (if ne=true then .neq else .eql) t u v yt) ty w (.bool (r !=ne)):=by
  intro fv r e1 hr _ _ _ _
  have hq:(Op.equal t fv .nilFunc).run P w=.ok r w:=hr 9999
  cases fv<;>cases ne<;>simp[execOp,e1,e2,eqGuard,binOp,hq]
 unfold Kw at hv'
 split at hv'
 ·rename_i f first fF
  rw[hv'.da]
  obtain⟨vf,vc,e1,_⟩:=VR.Im hbx
  have:=key _ false e1 fun d=>Xc1
  exact⟨_,this,NR.mk rfl Xc2 rfl⟩
 ·rw[hv'.da]
  have e1:=VR.TE hbx
  have:=key _ true e1 fun d=>Xc1
  exact⟨_,this,NR.mk rfl Xc2 rfl⟩
 ·exact hv'.no.elim
def VR.TF{R:Nat->Nat}{v:Value}(h:VR w R .ml v):v=.nilIface:=TM
def acJ(h:Inv G n D E a w){op:Op}{ty:TypeId}{ne:Bool}{x:IX}(hc:aw P op ty (.WE ne x)=true){av:AV}(hv:gO (pv (.WE ne x) (xg true E) E) av):
 ∃v,runs P a op ty w v/\NR G w E a av v:=by
 cases op<;>first|(simp[aw]at hc;done)|skip
 rename_i b t u v yt
 simp only[aw,Bool.and_eq_true,decide_eq_true_eq]at hc
 obtain⟨⟨⟨rfl,hx⟩,hy⟩,ht⟩:=hc
 have hvc:v=.const .nilIface:=by
  split at hy
  ·rfl
  ·cases hy
 subst hvc
 have e2:a.eval (.const .nilIface)=.nilIface:=rfl
 split at ht<;>try(cases ht;done)
 rename_i q1 htu
 have hbx:=BR.aR h hx
 have hv':gO (Kx ne (xg true E x)) av:=hv
 generalize xg true E x=xv at hbx hv'
 have key:∀(fv:Value)(r:Bool),a.eval u=fv->(∀d:Nat,(Op.equalIn (d+1) t fv .nilIface).run P w=.ok r w)->runs P a (.binOp (if ne=true then .neq else .eql) t u (.const .nilIface) yt) ty w (.bool (r !=ne)):=by
  intro fv r e1 hr _ _ _ _
  have hq:(Op.equal t fv .nilIface).run P w=.ok r w:=hr 9999
  cases fv<;>cases ne<;>simp[execOp,e1,e2,eqGuard,binOp,hq]
 unfold Kx at hv'
 split at hv'
 ·rw[hv'.da]
  have e1:=VR.TF hbx
  have:=key _ true e1 fun d=>Xc1
  exact⟨_,this,NR.mk rfl Xc2 rfl⟩
 ·exact hv'.no.elim
def yV(h:Inv G n D E a w){op:Op}{ty:TypeId}{o:sD}(hc:aw P op ty o=true){av:AV}(hv:gO (pv o (xg true E) E) av):
 ∃v,runs P a op ty w v/\NR G w E a av v:=by
 cases o with
 |oU tr x=>cases tr with
  |false=>exact acN h hc hv
  |true=>exact(gO.no hv).elim
 |pick c x y=>exact X0 h hc hv
 |bin b x y=>exact acE h hc hv
 |ZA ne x y=>exact acH h hc hv
 |VS ne x y=>exact acK h hc hv
 |VT ne x y=>exact acL h hc hv
 |un u x=>exact agW h hc hv
 |ni k x=>exact QV h hc hv
 |load m mu x=>exact IT h hc hv
 |lT x i=>exact QZ h hc hv
 |nilCheck x=>exact LH h hc hv
 |fieldAddr off x=>exact IQ h hc hv
 |indexAddr sz x i=>exact IS h hc hv
 |jE sz len x i=>exact E0 h hc hv
 |slice sz x lo hi mx=>exact UN h hc hv
 |qo x lo hi=>exact Q1 h hc hv
 |len cls x=>exact acM h hc hv
 |mi mx xs=>exact QY h hc hv
 |extract x k=>exact NQ h hc hv
 |build z ps=>exact UJ h hc hv
 |uc f a b=>exact QX h hc hv
 |kO x=>exact QW h hc hv
 |ks z m x=>exact UM h hc hv
 |nx k x=>exact UL h hc hv
 |cap x=>exact acF h hc hv
 |WD ne x=>exact acI h hc hv
 |WE ne x=>exact acJ h hc hv
 |_=>exact(gO.no hv).elim
end
def Gh.pA(G:Gh)(b:Nat)(o:dp)(r:Nat):Gh:=⟨fun i=>if i=b then r else G.R i,fun i=>if i=b then o else G.O i⟩
@[simp]theorem Gh.Vy(G:Gh)(b:Nat)(o:dp)(r i:Nat):(G.pA b o r).O i=if i=b then o else G.O i:=rfl
@[simp]theorem Gh.aaG(G:Gh)(b:Nat)(o:dp)(r i:Nat):(G.pA b o r).R i=if i=b then r else G.R i:=rfl
def Gh.gY(G:Gh)(o o':dp):Gh:=⟨G.R,fun i=>if G.O i=o then o' else G.O i⟩
@[simp]theorem Gh.aiR(G:Gh)(o o':dp)(i:Nat):(G.gY o o').O i=if G.O i=o then o' else G.O i:=rfl
section
variable{P:Program}{G G':Gh}{n:Nat}{D:List Deferred}{E:St}{a:Act}{w w':World}
def bc.yH{s:ae}(h:bc G w s)(hv:∀a v,VR w G.R a v->VR w' G'.R a v)
 (hsh:∀b,G.O b=.sh->G'.O b=.sh/\G'.R b=G.R b/\w'.heap[b]? =w.heap[b]?)
 (ep:∀b c j,G.O b=.sh->G.O c=.cell b j->G'.O c=.cell b j/\G'.R c=G.R c/\w'.heap[c]? =w.heap[c]?):bc G' w' s:=by
 intro b o hb
 obtain⟨h1,h2,h3⟩:=h b o hb
 obtain⟨k1,k2,k3⟩:=hsh b h1
 refine⟨k1,k2.trans h2,?_⟩
 cases o with
 |cells cs=>
  obtain⟨c,t,h4,h5,h6⟩:=h3
  exact⟨c,t,k3.trans h4,h5.mono hv (fun b' j hb'=>ep b b' j h1 hb'),h6⟩
 |map es=>
  obtain⟨jC,clock,h4,h5,h6⟩:=h3
  exact⟨jC,clock,k3.trans h4,h5,fun j x y hx hy=>⟨hv _ _ (h6 j x y hx hy).1,hv _ _ (h6 j x y hx hy).2⟩⟩
def bc.mono{s:ae}(h:bc G w s)(hg:cE G w)(hp:aI G w G' w')
 (hsh:∀b,G.O b=.sh->G'.O b=.sh/\G'.R b=G.R b/\w'.heap[b]? =w.heap[b]?)
 (ep:∀b c j,G.O b=.sh->G.O c=.cell b j->G'.O c=.cell b j/\G'.R c=G.R c/\w'.heap[c]? =w.heap[c]?):bc G' w' s:=
 h.yH (fun _ _ hv=>hp.vr hg hv) hsh ep
def cE.lt(h:cE G w){b:Nat}(ho:G.O b≠.none):b<w.heap.size:=by
 rcases Nat.lt_or_ge b w.heap.size with hb|hb
 ·exact hb
 ·exact absurd (h.kc b hb) ho
def fS(hg:cE G w)(ob:Obj)(o:dp)(r:Nat):
 cE (G.pA w.heap.size o r) (w.alloc ob)/\aI G w (G.pA w.heap.size o r) (w.alloc ob)/\
 (∀b,G.O b≠.none->(G.pA w.heap.size o r).O b=G.O b/\(G.pA w.heap.size o r).R b=G.R b/\(w.alloc ob).heap[b]? =w.heap[b]?):=by
 have hsz:(w.alloc ob).heap.size=w.heap.size+1:=Array.size_push ..
 refine⟨⟨fun b hb=>?_,fun b hb=>?_⟩,⟨rfl,rfl,rfl,Nat.le_refl _,BY,fun b hb=>?_,fun b k hb _=>?_,fun b hb _=>heap_alloc_old w ob b hb,fun b hb ho=>?_,fun b hb ho=>?_⟩,fun b ho=>?_⟩
 ·have:b≠w.heap.size:=AT
  simp[this,hg.kc b AT]
 ·have:b≠w.heap.size:=AT
  simp[this,hg.kV b AT]
 ·have:b≠w.heap.size:=AT
  simp[this]
 ·grind [World.cell?_of_block,heap_alloc_old]
 ·have:b≠w.heap.size:=AT
  simp_all
 ·have:b≠w.heap.size:=AT
  simp_all
 ·have hb:=hg.lt ho
  have:b≠w.heap.size:=AT
  exact⟨H_,H_,heap_alloc_old w ob b hb⟩
def k7{s:ae}(h:bc G w s)(hg:cE G w)(ob:Obj)(o:dp)(r:Nat):bc (G.pA w.heap.size o r) (w.alloc ob) s:=by
 obtain⟨_,h2,h3⟩:=fS hg ob o r
 refine h.mono hg h2 (fun b hb=>?_) (fun b c j _ hc=>?_)
 ·grind
 grind
theorem Inv.alloc(h:Inv G n D E a w)(ob:Obj)(o:dp)(r:Nat){s':ae}(d:Option Nat)(hd:bt n d=true)(av:AV)(v:Value)(lp':List (Nat×Nat))
 (eJ:bc (G.pA w.heap.size o r) (w.alloc ob) s')
 (hlp:∀x∈E.lp,x∈lp')(afS:∀i t,d=some i->bP av t->(i,t)∈lp')
 (ZD:∀i t,d=some i->(∃cs,av=.loc cs)->(t,i)∉E.lp)
 (W0:∀i,d=some i->ee (G.pA w.heap.size o r) (w.alloc ob) ((E.put d av).e) (a.put d v).tmps i av v):
 Inv (G.pA w.heap.size o r) n D {(E.put d av)with s:=s',lp:=lp'} (a.put d v) (w.alloc ob)/\aI G w (G.pA w.heap.size o r) (w.alloc ob):=by
 obtain⟨h1,h2,h3⟩:=fS h.aZ ob o r
 refine⟨h.put d (fun i hi=>IN) av v h1 h2 eJ hlp afS ZD (fun i b _ hb=>h3 b ?_) (fun i b c j _ hb hc=>?_) W0,h2⟩
 ·grind
 grind
def bc.get_none(h:bc G w E.s)(hg:cE G w):E.s w.heap.size=none:=by
 cases hs:E.s w.heap.size with
 |none=>rfl
 |some o=>
  have:=(h _ _ hs).1
  rw[hg.kc _ (Nat.le_refl _)]at this
  cases this
def Lj{lp:List (Nat×Nat)}{d:Option Nat}(h:mf lp d=true):∀i t,d=some i->(t,i)∉lp:=by
 intro i t hd hm
 subst hd
 simp only[mf,List.all_eq_true]at h
 have:=h _ hm
 simp at this
theorem aY{o:Oper}{v:Value}{next:Act->World->Prop}{Q:Exit->Act->World->Prop}(hr:(execOp a.eval o).run P w=.ok (.value v) w')(hn:next (a.put o.dst v) w'):o.wp P a w next Q:=by
 unfold Oper.wp
 rw[hr]
 exact hn
def rH{o:Oper}{next:Act->World->Prop}{Q:Exit->Act->World->Prop}(hr:(execOp a.eval o).run P w=.ok .skip w')(hn:next (a.put o.dst undef) w'):o.wp P a w next Q:=by
 unfold Oper.wp
 rw[hr]
 exact hn
def Inv.LK(h:Inv G n D E a w)(i:Nat)(hi:i<n)(av:AV)(hnl:∀t,¬bP av t)(afU:∀cs,av≠.loc cs)
 (hv:∀v,a.tmps[i]? =some v->ee G w ((E.put (some i) av).e) a.tmps i av v):Inv G n D (E.put (some i) av) a w:=by
 have hlt:i<a.tmps.size:=by rw[h.size];exact hi
 have ha:a.put (some i) a.tmps[i]=a:=by
  have:a.tmps.setIfInBounds i a.tmps[i]=a.tmps:=A_
  simp[Act.put,this]
 have:=h.put (some i) (fun j hj=>A_) av a.tmps[i] h.aZ (aI.refl G w) h.store (fun x hx=>hx) (fun j t _ ht=>(hnl t ht).elim)
  (fun j t _⟨cs,hcs⟩=>(afU cs hcs).elim) (fun _ b _ _=>⟨rfl,rfl,rfl⟩) (fun _ b c j _ _ hc=>⟨hc,rfl,rfl⟩)
  (fun j hj=>A_)
 rw[ha]at this
 exact this
theorem fA{av:AV}(h:dJ av=true)(t:Nat):¬bP av t:=by cases av<;>simp_all [dJ,bP]
def nP{av:AV}(h:dJ av=true)(cs:List AV):av≠.loc cs:=by grind [dJ]
def Inv.Dq(h:Inv G n D E a w){i:Nat}(hi:look E.e i≠.undef):i<n:=by
 rcases Nat.lt_or_ge i n with hlt|hge
 ·exact hlt
 ·exact absurd (h.EB i hge) hi
def J9{o:Operand}{i:Nat}(h:bN o (.t i)=true):o=.tmp i:=by
 cases o with
 |tmp t=>grind [bN]
 |const v=>grind [bN]
 |_=>simp[bN]at h
def Sa{o:Operand}{c:AV}(h:bN o (.c c)=true)(G:Gh)(w:World)(T:dp):dS G w T c (a.eval o):=by
 cases o with
 |tmp t=>simp[bN]at h
 |global g=>simp[bN]at h
 |func f=>cases c<;>first|trivial|(simp at h)
 |const v=>
  show dS G w T c v
  have hc:(∃cs,c=.agg cs)\/cR v c=true:=by
   cases v<;>first|exact .inr h|skip
   cases c<;>first|exact .inl ⟨_,rfl⟩|exact .inr h
  rcases hc with⟨cs,rfl⟩|hc
  ·trivial
  grind [Ct]
theorem Inv.drain(h:Inv G n D E a w){x:IX}{o:Operand}(hx:bN o x=true)(hi:dJ (E.x x)=true)(T:dp)(hT1:T≠.sh)(hT2:∀i,T≠.loc i):
 ∃G',Inv G' n D (E.drain x) a w/\aI G w G' w/\VR w G'.R (E.x x) (a.eval o)/\dS G' w T (E.x x) (a.eval o)/\G'.R=G.R/\(∀b,G'.O b=.sh↔G.O b=.sh)/\(∀b i,G'.O b=.loc i↔G.O b=.loc i)/\
  (∀b b' j,G.O b=.cell b' j->G'.O b=.cell b' j):=by
 have hvr:VR w G.R (E.x x) (a.eval o):=by
  have:=XR.aR h hx
  generalize E.x x=av at hi this
  cases av<;>first|exact this|grind [dJ]
 cases x with
 |c c=>
  refine⟨G,h,aI.refl G w,hvr,?_,rfl,fun _=>Iff.rfl,fun _ _=>Iff.rfl,fun _ _ _ hc=>hc⟩
  exact Sa hx G w T
 |t i=>
  have hin:i<n:=h.Dq (fun e=>by rw[show E.x (.t i)=look E.e i from rfl,e]at hi;cases hi)
  have ho:o=.tmp i:=J9 hx
  subst ho
  have hlt:i<a.tmps.size:=Xc3
  have afK:=h.cG i _ (gy hlt)
  have hi':dJ (look E.e i)=true:=hi
  rw[ee.sm hi']at afK
  have hne:∀b,G.O b≠.slot i 0->(G.gY (.slot i 0) T).O b=G.O b:=fun b hb=>by simp[hb]
  have bF:aI G w (G.gY (.slot i 0) T) w:=⟨rfl,rfl,rfl,Nat.le_refl _,Nat.le_refl _,fun _ _=>Nat.le_refl _,fun _ _ _ _=>rfl,fun _ _ _=>rfl,
   fun b _ hb=>⟨A_,rfl⟩,fun b _ hb=>⟨A_,rfl⟩⟩
  refine⟨G.gY (.slot i 0) T,?_,bF,hvr,?_,rfl,fun b=>?_,fun b k=>?_,fun b b' j hb=>A_⟩
  ·have h1:=h.LK i hin (view (look E.e i)) (fA (lK hi')) (nP (lK hi')) (fun v hv=>by
    grind [gy,ee.yG])
   refine⟨⟨fun b hb=>by rw[hne b (by rw[h.aZ.kc b hb];simp),h.aZ.kc b hb],h.aZ.kV⟩,?_,h1.size,fun k v hk=>?_,h1.EB,h1.Mj,h1.qE⟩
   ·exact h.store.mono h.aZ bF (fun b hb=>⟨A_,rfl,rfl⟩) (fun b c j _ hc=>⟨A_,rfl,rfl⟩)
   ·have h2:=h1.cG k v hk
    by_cases hki:k=i
    ·subst hki
     have e1:look (E.put (some k) (view (look E.e k))).e k=view (look E.e k):=Z_
     show ee _ w _ _ k (look (E.put (some k) (view (look E.e k))).e k) v
     rw[e1]at h2⊢
     rw[ee.sm (lK hi')]at h2⊢
     exact⟨h2.1,dS.view ..⟩
    ·refine ee.frame (G:=G) (G':=G.gY (.slot i 0) T) (w:=w) (fun _ _ hv=>hv) (fun b hb=>⟨hne b ?_,rfl,rfl⟩) (fun b c j _ hc=>⟨A_,rfl,rfl⟩) _ _ (fun d _ cs hcs=>⟨cs,hcs,rfl⟩) h2
     grind
  ·have:=afK.2
   show dS _ w T (look E.e i) _
   unfold dS at this⊢
   split
   ·rename_i sz m cs he
    rw[he]at this
    intro base m' cap hv hc
    obtain⟨b,off,c,e,fz,q1,q2,q3⟩:=this base m' cap hv hc
    exact⟨b,off,c,e,fz,q1,by simp[q2],q3⟩
   ·rename_i e m cs he
    rw[he]at this
    intro base m' cap hv hc
    obtain⟨b,off,c,fz,q1,q2,q3⟩:=this base m' cap hv hc
    exact⟨b,off,c,fz,q1,by simp[q2],q3⟩
   ·trivial
  ·by_cases hb:G.O b=.slot i 0
   ·simp[hb,hT1]
   grind
  ·by_cases hb:G.O b=.slot i 0
   ·simp[hb,hT2]
   grind
def pq(P:Program)(G:Gh)(n:Nat)(D:List Deferred)(w:World)(a:Act)(op:Op)(ty:TypeId)(d:Option Nat)(K:St->Prop):Prop:=
 ∀(pos:String)(after:Array Edge)(g:Option (Nat×Bool))(next:Act->World->Prop)(Q:Exit->Act->World->Prop),
  (∀G' E' a' w',Inv G' n D E' a' w'->aI G w G' w'->K E'->next a' w')->(⟨d,op,ty,pos,after,g⟩:Oper).wp P a w next Q
theorem WA(h:Inv G n D E a w){op:Op}{ty:TypeId}{tr:Bool}{x:IX}{d:Option Nat}{K:St->Prop}(hd:bt n d=true)(hc:aw P op ty (.oU tr x)=true)(hw:jq P (.oU tr x) d E K):pq P G n D w a op ty d K:=by
 obtain⟨hi,hk⟩:=hw
 have key:∀y,bN y x=true->∃G',Inv G' n D ((E.drain x).put d (E.x x)) (a.put d (a.eval y)) w/\aI G w G' w:=by
  intro y hy
  obtain⟨G',h1,h2,h3,h4,_⟩:=h.drain hy hi (match d with|some d=>.slot d 0|none=>.frame) A_ A_
  refine⟨G',?_,h2⟩
  have:=h1.put d (fun i hi=>IN) (E.x x) (a.eval y) h1.aZ (aI.refl G' w) h1.store (fun _ hx=>hx) (fun i t _ ht=>(fA hi t ht).elim) (fun i t _⟨cs,hcs⟩=>(nP hi cs hcs).elim)
   (fun _ _ _ _=>⟨rfl,rfl,rfl⟩) (fun _ _ _ _ _ _ hcc=>⟨hcc,rfl,rfl⟩) (fun i hdi=>by grind [ee.sm])
  cases d<;>exact this
 intro pos after g next Q hn
 cases op<;>first|(simp[aw]at hc)|skip
 ·rename_i y
  obtain⟨G',h1,h2⟩:=key y hc
  exact aY rfl (hn G' _ _ _ h1 h2 hk)
 ·rename_i y
  obtain⟨G',h1,h2⟩:=key y hc
  exact aY rfl (hn G' _ _ _ h1 h2 hk)
def HF{G:Gh}{w:World}{o:Nat->dp}{z:List AV}{c:Array Value}(h:Row w G.R z c)(h2:∀(j:Nat)(x:AV)(u:Value),z[j]? =some x->c[j]? =some u->cR u x=true):dF G w o z c:=⟨h.1,fun j x y hx hy=>⟨h.2.1 j x y hx hy,Ct (h2 j x y hx hy) G w _⟩⟩
def nh{G:Gh}{w:World}{o:Nat->dp}{z:List AV}{c:Array Value}(h:Row w G.R z c):dF G w o (views z) c:=
 ⟨h.views.1,fun j x y hx hy=>⟨h.views.2.1 j x y hx hy,by grind [fh,dS.view]⟩⟩
def Row.mono{R R':Nat->Nat}{z:List AV}{c:Array Value}(h:Row w R z c)(hv:∀a v,VR w R a v->VR w' R' a v):Row w' R' z c:=⟨h.1,fun j x y hx hy=>hv _ _ (h.2.1 j x y hx hy),h.2.2⟩
def Inv.agB(h:Inv G n D E a w){d:Option Nat}(hd:bt n d=true)(hf:mf E.lp d=true){cs:List AV}{c:Array Value}{t:TypeId}
 (hcs:∀(G':Gh)(w':World)(o:Nat->dp),aI G w G' w'->dF G' w' o cs c)(hfl:Fl cs):
 ∃G',Inv G' n D (E.put d (.loc cs)) (a.put d (.pointer (some ⟨w.heap.size,0,none⟩))) (w.alloc (.cells c t))/\aI G w G' (w.alloc (.cells c t)):=by
 let o:dp:=match d with|some d=>.loc d|none=>.none
 have hp:=(fS h.aZ (.cells c t) o 0).2.1
 obtain⟨h1,h2⟩:=h.alloc (.cells c t) o 0 d hd (.loc cs) (.pointer (some ⟨w.heap.size,0,none⟩)) E.lp (k7 h.store h.aZ _ o 0) (fun _ hx=>hx) (fun i t' _ ht=>ht.elim) (fun i t' hi _=>Lj hf i t' hi)
  (fun i hi=>by
    subst hi
    exact⟨w.heap.size,c,t,rfl,by simp[o],BY,heap_alloc_new w _,hcs _ _ _ hp,hfl⟩)
 exact⟨_,Ω,h2⟩
def Inv.ZV(h:Inv G n D E a w){d:Option Nat}(hd:bt n d=true){cs:List AV}{c:Array Value}{t:TypeId}{av:AV}{v:Value}(hav:av=.ref w.heap.size 0/\v=.pointer (some ⟨w.heap.size,0,none⟩)\/∃l m,av=.arr w.heap.size 0 l m/\v=.slice (some ⟨w.heap.size,0,none⟩) l m)
 (hcs:∀(G':Gh)(w':World)(o:Nat->dp),aI G w G' w'->dF G' w' o cs c)(hfl:Eu t cs):
 ∃G',Inv G' n D ({E with s:=E.s.set w.heap.size (.cells cs)}.put d av) (a.put d v) (w.alloc (.cells c t))/\aI G w G' (w.alloc (.cells c t)):=by
 have hp:=(fS h.aZ (.cells c t) .sh 0).2.1
 have hs:bc (G.pA w.heap.size .sh 0) (w.alloc (.cells c t)) (E.s.set w.heap.size (.cells cs)):=by
  intro b o hb
  unfold ae.set at hb
  by_cases he:b=w.heap.size
  ·rw[if_pos he]at hb
   injection hb with hb
   subst hb;subst he
   exact⟨BY,BY,c,t,heap_alloc_new w _,hcs _ _ _ hp,hfl⟩
  ·rw[if_neg he]at hb
   exact k7 h.store h.aZ _ .sh 0 b o hb
 have hv:dJ av=true/\VR (w.alloc (.cells c t)) (G.pA w.heap.size .sh 0).R av v/\∀sz m cs,av≠.sl true sz m cs:=by
  rcases hav with⟨rfl,rfl⟩|⟨l,m,rfl,rfl⟩
  ·exact⟨rfl,.ref _ _,BY⟩
  ·exact⟨rfl,.arr _ _ _ _,BY⟩
 obtain⟨h1,h2⟩:=h.alloc (.cells c t) .sh 0 d hd av v E.lp hs (fun _ hx=>hx) (fun i t' _ ht=>(fA hv.1 t' ht).elim) (fun i t' _⟨cs',zA⟩=>(nP hv.1 cs' zA).elim)
  (fun i hi=>by
    rw[ee.sm hv.1]
    refine⟨hv.2.1,?_⟩
    rcases hav with⟨e,_⟩|⟨l,m,e,_⟩<;>rw[e]<;>trivial)
 refine⟨_,?_,h2⟩
 cases d<;>exact h1
def Inv.NB(h:Inv G n D E a w){d:Option Nat}(hd:bt n d=true){cs:List AV}{c:Array Value}{t:TypeId}{av:AV}{v:Value}(hav:av=.ref w.heap.size 0/\v=.pointer (some ⟨w.heap.size,0,none⟩)\/∃l m,av=.arr w.heap.size 0 l m/\v=.slice (some ⟨w.heap.size,0,none⟩) l m)
 (hcs:∀(G':Gh)(w':World)(o:Nat->dp),aI G w G' w'->dF G' w' o cs c)(hfl:Fl cs):
 ∃G',Inv G' n D ({E with s:=E.s.set w.heap.size (.cells cs)}.put d av) (a.put d v) (w.alloc (.cells c t))/\aI G w G' (w.alloc (.cells c t)):=h.ZV hd hav hcs (hfl.tag t)
theorem F3(h:Inv G n D E a w){op:Op}{ty:TypeId}{z:List AV}{d:Option Nat}{K:St->Prop}(hd:bt n d=true):
 (aw P op ty (.j7 z)=true->jq P (.j7 z) d E K->pq P G n D w a op ty d K)/\(aw P op ty (.ng z)=true->jq P (.ng z) d E K->pq P G n D w a op ty d K):=by
 have run:∀t,pn P t z=true->∃c:Array Value,(∀(dst:Option Tmp)(pos:String)(after:Array Edge) g,(execOp a.eval ⟨dst,.alloc t,ty,pos,after,g⟩).run P w=.ok (.value (.pointer (some ⟨w.heap.size,0,none⟩))) (w.alloc (.cells c t)))/\
  (∀(G':Gh)(w':World)(o:Nat->dp),dF G' w' o z c)/\Fl z:=by
  intro t hz
  obtain⟨i,v,h1,h2,_,h4,h5⟩:=vm hz
  refine⟨v.cells,fun _ _ _ _=>?_,fun G' w' o=>HF (h4 w' G'.R) h5,(h4 w G.R).2.2⟩
  simp[execOp,Instr.alloc,zeroValue,typeInfo,h1,h2,newVar,newRow]
 constructor
 ·intro hc hw pos after g next Q hn
  cases op<;>first|(simp[aw]at hc;done)|skip
  rename_i t
  obtain⟨c,hr,hcs,hfl⟩:=run t hc
  obtain⟨G',h1,h2⟩:=h.agB hd hw.1 (c:=c) (t:=t) (fun G' w' o _=>hcs G' w' o) hfl
  exact aY (hr d pos after g) (hn G' _ _ _ h1 h2 hw.2)
 ·intro hc hw pos after g next Q hn
  cases op<;>first|(simp[aw]at hc;done)|skip
  rename_i t
  obtain⟨c,hr,hcs,hfl⟩:=run t hc
  obtain⟨G',h1,h2⟩:=h.NB hd (c:=c) (t:=t) (.inl ⟨rfl,rfl⟩) (fun G' w' o _=>hcs G' w' o) hfl
  exact aY (hr d pos after g) (hn G' _ _ _ h1 h2 (hw w.heap.size (h.store.get_none h.aZ)))
theorem OS(h:Inv G n D E a w){op:Op}{ty:TypeId}{m:Nat}{x:IX}{d:Option Nat}{K:St->Prop}(hd:bt n d=true):
 (aw P op ty (.JY m x)=true->jq P (.JY m x) d E K->pq P G n D w a op ty d K)/\(aw P op ty (.Bg m x)=true->jq P (.Bg m x) d E K->pq P G n D w a op ty d K):=by
 have run:∀t y,∀(dst:Option Tmp)(pos:String)(after:Array Edge)(g:Option (Nat×Bool)),(execOp a.eval ⟨dst,.box t y,ty,pos,after,g⟩).run P w=.ok (.value (.pointer (some ⟨w.heap.size,0,none⟩))) (w.alloc (.cells (a.eval y).cells t)):=by
  intro t y _ _ _ _
  simp[execOp,Instr.box,newVar,newRow]
 have cells:∀y,bN y x=true->dJ (E.x x)=true->(∀(G':Gh)(w':World)(o:Nat->dp),aI G w G' w'->dF G' w' o (views (cellsOf (E.x x))) (a.eval y).cells)/\Fl (views (cellsOf (E.x x))):=by
  intro y hy hi
  have hvr:VR w G.R (E.x x) (a.eval y):=by
   have:=XR.aR h hy
   generalize E.x x=av at hi this
   cases av<;>first|exact this|grind [dJ]
  exact⟨fun G' w' o hp=>nh ((iK hi hvr).mono fun _ _ hv=>hp.vr h.aZ hv),(iK hi hvr).2.2.views⟩
 have R6:∀y,bN y x=true->dJ (xg true E x)=true->(∀(G':Gh)(w':World)(o:Nat->dp),aI G w G' w'->dF G' w' o (views (cellsOf (xg true E x))) (a.eval y).cells)/\Fl (views (cellsOf (xg true E x))):=by
  intro y hy hi
  have hvr:VR w G.R (xg true E x) (a.eval y):=(BR.aR h hy).vr hi
  exact⟨fun G' w' o hp=>nh ((iK hi hvr).mono fun _ _ hv=>hp.vr h.aZ hv),(iK hi hvr).2.2.views⟩
 constructor
 ·intro hc hw pos after g next Q hn
  cases op<;>first|(simp[aw]at hc;done)|skip
  rename_i t y
  simp only[aw,Bool.and_eq_true]at hc
  obtain⟨hf,hi,_,hk⟩:=hw
  obtain⟨G',h1,h2⟩:=h.agB hd hf (t:=t) (cells y hc.2 hi).1 (cells y hc.2 hi).2
  grind [aY]
 ·intro hc hw pos after g next Q hn
  cases op<;>first|(simp[aw]at hc;done)|skip
  rename_i t y
  simp only[aw,Bool.and_eq_true]at hc
  obtain⟨hi,_,hk⟩:=hw
  obtain⟨G',h1,h2⟩:=h.NB hd (t:=t) (.inl ⟨rfl,rfl⟩) (R6 y hc.2 hi).1 (R6 y hc.2 hi).2
  exact aY (run t y d pos after g) (hn G' _ _ _ h1 h2 (hk w.heap.size (h.store.get_none h.aZ)))
end
section
variable{P:Program}{G G':Gh}{n:Nat}{D:List Deferred}{E:St}{a:Act}{w w':World}
def jj{R:Nat->Nat}{c:AV}{v:Value}(hf:qH c=true)(h:VR w R c v):v.oneCell'=true:=by cases h<;>first|rfl|assumption|(simp[qH,dJ]at hf;done)|(rename_i h _;cases h<;>rfl)
def rh{t:Nat}{R:Nat->Nat}{c:AV}{v:Value}(hf:qH c=true\/c=.oy t)(h:VR w R c v):v.oneCell'=true:=by
 rcases hf with hf|rfl
 ·exact jj hf h
 ·cases h;rfl
def dU(g o:Nat)(t:TypeId)(fz:Nat×Nat):∀(vs:List Value)(i:Nat)(cur:Array Value)(w:World),w.heap[g]? =some (.cells cur t fz)->(∀k,k<cur.size->¬(fz.1<=k/\k<fz.2))->o+i+vs.length<=cur.size->(∀v∈vs,v.oneCell'=true)->
 (storeCells ⟨g,o,none⟩ vs i).run P w=.ok () (w.setRow g (cur.toList.take (o+i)++vs++cur.toList.drop (o+i+vs.length)).toArray)
 |[],i,cur,w,hg,_,_,_=>by
  simp[List.append_nil,List.length_nil,Nat.add_zero,List.take_append_drop]
  rw[setRow_self w g cur t fz hg]
  rfl
 |v::rest,i,cur,w,hg,hfz,hl,h1=>by
  have hi:o+i<cur.size:=A_
  have ep:w.cell? ⟨g,o+i,none⟩=some cur[o+i]:=by simp[World.cell?,hg]
  have ajB:w.frozen? ⟨g,o+i,none⟩=false:=by
   have:=hfz (o+i) hi
   obtain⟨lo,hh⟩:=fz
   simp only[World.frozen?,hg]
   by_cases h1:lo<=o+i
   ·have:¬(o+i<hh):=fun h2=>this ⟨h1,h2⟩
    simp[this]
   ·simp[h1]
  have eJ:(store ((⟨g,o,none⟩:Addr).add i) v).run P w=.ok () (w.setRow g (cur.setIfInBounds (o+i) v)):=by
   rw[add_eq,run_store P w _ v _ (h1 v BY),ep]
   simp[ajB,setCell_eq_setRow w g (o+i) cur t fz v hg]
  have ih:=dU g o t fz rest (i+1) (cur.setIfInBounds (o+i) v) (w.setRow g (cur.setIfInBounds (o+i) v)) (setRow_heap w g cur _ t _ hg) A_ A_ (fun x hx=>h1 x A_)
  simp only[storeCells,Sem.run_bind,eJ,Result.andThen_ok,ih,setRow_setRow]
  congr 3
  have e:=list_seg_step cur.toList (o+i) v rest A_
  simpa[Array.toList_setIfInBounds,Nat.add_assoc]using e
def laid(cur:Array Value)(o:Nat)(vs:List Value):Array Value:=(cur.toList.take o++vs++cur.toList.drop (o+vs.length)).toArray
theorem qW(cur:Array Value)(o:Nat)(vs:List Value)(h:o+vs.length<=cur.size):(laid cur o vs).size=cur.size:=by simp[laid];omega
theorem lN(cur:Array Value)(o:Nat)(vs:List Value)(h:o+vs.length<=cur.size)(k:Nat):(laid cur o vs)[k]? =if o<=k/\k<o+vs.length then vs[k -o]? else cur[k]? :=by
 unfold laid
 grind
theorem uq{g:Nat}{cur:Array Value}{t:TypeId}{fz:Nat×Nat}(hg:w.heap[g]? =some (.cells cur t fz))(new:Array Value)(b k:Nat):(w.setRow g new).cell? ⟨b,k,none⟩=if b=g then new[k]? else w.cell? ⟨b,k,none⟩:=by
 by_cases h:b=g
 ·subst h
  rw[if_pos rfl,cell_of_row _ (setRow_heap w b cur new t fz hg)]
 ·grind [World.cell?_of_block,setRow_other]
def aI.write{g:Nat}{cur new:Array Value}{t:TypeId}{fz:Nat×Nat}(hg:w.heap[g]? =some (.cells cur t fz))(ho:G.O g≠.frame/\G.O g≠.none)(eJ:∀k,k<G.R g->new[k]? =cur[k]?)
 (hR:G.R g<=G'.R g)(hO:∀b,b≠g->G'.O b=G.O b/\G'.R b=G.R b):aI G w G' (w.setRow g new)where
 os:=rfl
 tape:=rfl
 output:=rfl
 drawn:=Nat.le_refl _
 size:=BY
 mono:=fun b _=>A_
 nq:=fun b k _ hk=>by grind [uq,cell_of_row]
 frame:=fun b _ hb=>by grind [setRow_other]
 j8:=fun b _ hb=>A_
 rf:=fun b _ hb=>A_
def Inv.written(h:Inv G n D E a w){g:Nat}{c new:Array Value}{t:TypeId}(hg:w.heap[g]? =some (.cells c t (0,0)))(ho:(∃i,G.O g=.loc i)\/G.O g=.sh)(hR:G.R g=0){E':St}(hlp:E'.lp=E.lp)
 (eJ:bc G (w.setRow g new) E'.s)
 (he:∀k,(look E'.e k=look E.e k/\G.O g≠.loc k)\/(G.O g=.loc k/\a.tmps[k]? =some (.pointer (some ⟨g,0,none⟩))/\∃cs cs',look E.e k=.loc cs/\look E'.e k=.loc cs'/\dF G (w.setRow g new) (.cell g) cs' new/\Fl cs')):
 Inv G n D E' a (w.setRow g new)/\aI G w G (w.setRow g new):=by
 have hog:G.O g≠.frame/\G.O g≠.none/\(∀i j,G.O g≠.slot i j)/\(∀i j,G.O g≠.cell i j):=A_
 have bF:aI G w G (w.setRow g new):=aI.write hg ⟨hog.1,hog.2.1⟩ (fun k hk=>A_) (Nat.le_refl _) (fun _ _=>⟨rfl,rfl⟩)
 have Tm:∀b,G.O b≠G.O g->(w.setRow g new).heap[b]? =w.heap[b]? :=fun b hb=>setRow_other w g b new (fun e=>hb A_)
 refine⟨⟨⟨fun b hb=>h.aZ.kc b H_,fun b hb=>h.aZ.kV b H_⟩,eJ,h.size,fun k v hk=>?_,fun k hk=>?_,fun k d hd=>?_,h.qE⟩,bF⟩
 ·have hs:=h.cG k v hk
  rcases he k with⟨e,hnk⟩|⟨hgk,htm,cs,cs',e1,e2,e3,e4⟩
  ·rw[e]
   refine ee.frame (fun _ _ hv=>bF.vr h.aZ hv) (fun b hb=>⟨rfl,rfl,Tm b ?_⟩) (fun b c' j _ hc=>⟨hc,rfl,Tm c' ?_⟩) _ _ (fun d _ ds hds=>?_) hs
   ·grind
   ·grind
   grind
  ·rw[e2]
   have hv:v=.pointer (some ⟨g,0,none⟩):=A_
   exact⟨g,new,t,hv,hgk,hR,setRow_heap w g c new t _ hg,e3,e4⟩
 ·rcases he k with⟨e,_⟩|⟨_,_,cs,_,e1,_⟩
  ·rw[e];exact h.EB k hk
  ·rw[h.EB k hk]at e1;cases e1
 ·rw[hlp]
  rcases he k with⟨e,_⟩|⟨_,_,cs,cs',_,e2,_⟩
  ·rw[e]at hd;exact h.Mj k d hd
  ·rw[e2]at hd;exact hd.elim
def dF.lay{g off:Nat}{cs news:List AV}{c:Array Value}{vs:List Value}{t:TypeId}{fz:Nat×Nat}(hg:w.heap[g]? =some (.cells c t fz))(bF:aI G w G (w.setRow g (laid c off vs)))(kl:cE G w)
 (hc:dF G w (.cell g) cs c)(hl:vs.length=news.length)(dn:off+news.length<=cs.length)(hne:∀j,G.O g≠.cell g j)
 (hn:∀(j:Nat)(x:AV)(y:Value),news[j]? =some x->vs[j]? =some y->VR w G.R x y/\dS G w (.cell g (off+j)) x y):
 dF G (w.setRow g (laid c off vs)) (.cell g) (setAt cs off news) (laid c off vs):=by
 have vW:off+vs.length<=c.size:=by rw[hl,hc.1];exact dn
 refine⟨by rw[qW _ _ _ vW,mA _ _ _ dn,hc.1],fun j x y hx hy=>?_⟩
 rw[oj _ _ _ _ dn]at hx
 rw[lN _ _ _ vW]at hy
 have mono:∀o,dS G w (.cell g o) x y->dS G (w.setRow g (laid c off vs)) (.cell g o) x y:=fun o ho=>ho.mono fun b hb=>⟨hb,rfl,setRow_other w g b _ (fun e=>A_)⟩
 by_cases hj:off<=j/\j<off+news.length
 ·rw[if_pos hj]at hx
  rw[if_pos AT]at hy
  obtain⟨h1,h2⟩:=hn (j -off) x y hx hy
  have:off+(j -off)=j:=AT
  rw[this]at h2
  exact⟨bF.vr kl h1,mono j h2⟩
 ·rw[if_neg hj]at hx
  rw[if_neg AT]at hy
  obtain⟨h1,h2⟩:=hc.2 j x y hx hy
  exact⟨bF.vr kl h1,mono j h2⟩
def D3{av:AV}{v:Value}(hi:dJ av=true)(h:VR w G.R av v):Fl (bB av)/\v.cells.toList.length=(bB av).length/\(∀(j:Nat)(x:AV)(y:Value),(bB av)[j]? =some x->v.cells.toList[j]? =some y->VR w G.R x y)/\
 (∀y∈v.cells.toList,y.oneCell'=true):=by
 have hr:=iK hi h
 have dE:Row w G.R (bB av) v.cells:=by cases av<;>first|exact hr|exact hr.views
 refine⟨dE.2.2,by simpa using dE.1,fun j x y hx hy=>dE.2.1 j x y hx A_,fun y hy=>?_⟩
 obtain⟨j,hj⟩:=List.mem_iff_getElem?.1 hy
 have hjl:j<(bB av).length:=by rw[<-dE.1];have:=(List.getElem?_eq_some_iff.1 hj).1;simpa using this
 have hx:=List.getElem?_eq_getElem hjl
 exact jj (dE.2.2 _ (List.getElem_mem hjl)) (dE.2.1 j _ y hx A_)
def nW{t:TypeId}{m:Nat}(hs:di P t m=true){g off:Nat}{c:Array Value}{et:TypeId}(hg:w.heap[g]? =some (.cells c et (0,0))){v:Value}(hm:v.cells.size=m)(dn:off+m<=c.size)(h1:∀y∈v.cells.toList,y.oneCell'=true):
 (storeVar t ⟨g,off,none⟩ v).run P w=.ok () (w.setRow g (laid c off v.cells.toList)):=by
 have:=dU (P:=P) g off et (0,0) v.cells.toList 0 c w hg (fun k _ hk=>AT) A_ h1
 simp[storeVar,Sem.run_bind,run_sizeOf hs,Result.andThen_ok]
 grind [laid]
def sC{off:Nat}{news fX cs:List AV}(h:eU off news fX=some cs):off+news.length<=fX.length/\cs=setAt fX off news:=by grind [eU,decide_eq_true,decide_eq_false]
def Dl{v:IX}(hi:dJ (E.x v)=true){k:Nat}{cs:List AV}(h:look (E.drain v).e k=.loc cs):look E.e k=.loc cs:=by
 cases v with
 |c _=>exact h
 |t i=>
  simp[St.drain,St.put,bj]at h
  split at h
  ·have:=nP (lK (show dJ (look E.e i)=true from hi)) cs
   grind
  ·exact h
def AY{v:IX}(hi:dJ (E.x v)=true){k:Nat}{cs:List AV}(h:look E.e k=.loc cs):look (E.drain v).e k=.loc cs:=by
 cases v with
 |c _=>exact h
 |t i=>
  simp[St.drain,St.put,bj]
  split
  ·rename_i e;subst e
   rw[show E.x (.t i)=look E.e i from rfl,h]at hi
   cases hi
  ·exact h
theorem Qt(h:Inv G n D E a w){op:Op}{ty:TypeId}{m:Nat}{p v:IX}{d:Option Nat}{K:St->Prop}(hd:bt n d=true)(hc:aw P op ty (.store m p v)=true)(hw:jq P (.store m p v) d E K):pq P G n D w a op ty d K:=by
 cases op<;>first|(simp[aw]at hc;done)|skip
 rename_i t q u
 simp only[aw,Bool.and_eq_true]at hc
 obtain⟨⟨hs,hq⟩,hu⟩:=hc
 obtain⟨hi,hm,hk⟩:=hw
 have hvr:VR w G.R (E.x v) (a.eval u):=by
  have:=XR.aR h hu
  generalize E.x v=av at hi this
  cases av<;>first|exact this|grind [dJ]
 have target:∃g off fX,a.eval q=.pointer (some ⟨g,off,none⟩)/\
  ((∃i,look E.e i=.loc fX/\a.tmps[i]? =some (.pointer (some ⟨g,0,none⟩))/\FM (E.drain v) (E.x p) p (bB (E.x v))=wrL (E.drain v) i (eU off (bB (E.x v)) fX))\/
   (E.s g=some (.cells fX)/\FM (E.drain v) (E.x p) p (bB (E.x v))=wrS (E.drain v) g (eU off (bB (E.x v)) fX))):=by
  have hb:=XR.aR h hq
  cases hp:E.x p with
  |loc fX=>
   rw[hp]at hb
   obtain⟨i,b,c,t',e1,e2,e3,e4,_⟩:=hb
   refine⟨b,0,fX,e4,.inl ⟨i,e2,by rw[e3,e4],?_⟩⟩
   subst e1;rfl
  |lp d0 off=>
   rw[hp]at hb hk
   obtain⟨b,e1,e2⟩:=hb
   have hk':PI d K (Ht (E.drain v) d0 off (bB (E.x v)) (look (E.drain v).e d0)):=hk
   cases hl:look (E.drain v).e d0<;>rw[hl]at hk'<;>first|exact hk'.elim|skip
   rename_i fX
   have hl':=Dl hi hl
   exact⟨b,off,fX,e1,.inl ⟨d0,hl',e2 fX hl',by show Ht _ _ _ _ (look (E.drain v).e d0)=_;rw[hl];rfl⟩⟩
  |ref b off=>
   rw[hp]at hb hk
   have e1:=VR.gk hb
   have hk':PI d K (Oj (E.drain v) b off (bB (E.x v)) ((E.drain v).s b)):=hk
   have hs':(E.drain v).s=E.s:=Ψ
   rw[hs']at hk'
   cases hl:E.s b with
   |none=>rw[hl]at hk';exact hk'.elim
   |some so=>
    cases so with
    |map es=>rw[hl]at hk';exact hk'.elim
    |cells fX=>exact⟨b,off,fX,e1,.inr ⟨hl,by show Oj _ _ _ _ ((E.drain v).s b)=_;rw[hs',hl];rfl⟩⟩
  |_=>rw[hp]at hk;exact hk.elim
 obtain⟨g,off,fX,e1,abA⟩:=target
 obtain⟨G1,h1,hp1,hv1,qN,hR1,hsh,Na,ep⟩:=h.drain hu hi (.cell g off) BY BY
 obtain⟨hfl,hlen,qR,EL⟩:=D3 hi hv1
 have wU:∀(x:AV)(y:Value),(bB (E.x v))[0]? =some x->(a.eval u).cells.toList[0]? =some y->dS G1 w (.cell g (off+0)) x y:=by
  intro x y hx hy
  cases hv:E.x v with
  |agg cs=>grind [bB,fh,dS.view]
  |sl o s l cs=>
   rw[hv]at hx qN hv1
   simp[bB]at hx
   subst hx
   have:(a.eval u).cells= #[a.eval u]:=by rcases VR.gq hv1 with⟨(e|⟨_,_,_,e⟩),_⟩|⟨_,_,_,e,_⟩<;>rw[e]<;>rfl
   grind
  |bb t l cs=>
   rw[hv]at hx qN hv1
   simp[bB]at hx
   subst hx
   have abB:VR w G1.R (.sl true 1 l cs) (a.eval u):=by cases hv1;assumption
   have:(a.eval u).cells= #[a.eval u]:=by rcases VR.gq abB with⟨(e|⟨_,_,_,e⟩),_⟩|⟨_,_,_,e,_⟩<;>rw[e]<;>rfl
   grind
  |_=>rw[hv]at hx;simp[bB]at hx;subst hx;trivial
 have CV:∀(j:Nat)(x:AV)(y:Value),(bB (E.x v))[j]? =some x->(a.eval u).cells.toList[j]? =some y->VR w G1.R x y/\dS G1 w (.cell g (off+j)) x y:=by
  intro j x y hx hy
  refine⟨qR j x y hx hy,?_⟩
  cases j with
  |zero=>grind
  |succ j=>
   cases hv:E.x v with
   |agg cs=>grind [bB,fh,dS.view]
   |_=>grind [bB]
 have KL:(a.eval u).cells.toList.length=m:=by rw[hlen,hm]
 have qO:∀(τ:St)(w':World),Inv G1 n D τ a w'->Inv G1 n D (τ.put d (.jg [])) (a.put d undef) w':=by
  intro τ w' hτ
  have:=hτ.put (s':=τ.s) (lp':=τ.lp) d (fun i hi=>IN) (.jg []) undef hτ.aZ (aI.refl G1 w') hτ.store (fun _ hx=>hx) (fun i t _ ht=>ht.elim) (fun i t _⟨cs,hcs⟩=>Pc)
   (fun _ _ _ _=>⟨rfl,rfl,rfl⟩) (fun _ _ _ _ _ _ hcc=>⟨hcc,rfl,rfl⟩) (fun i hdi=>⟨#[],rfl,rfl,fun j x y hx=>T_⟩)
  cases d<;>exact this
 rcases abA with⟨i,e2,e3,e4⟩|⟨e2,e4⟩
 ·
  rw[e4]at hk
  cases hwr:eU off (bB (E.x v)) fX with
  |none=>rw[hwr]at hk;exact hk.elim
  |some cs'=>
   rw[hwr]at hk
   obtain⟨dn,rfl⟩:=sC hwr
   have e2':look (E.drain v).e i=.loc fX:=AY hi e2
   have AK:=h1.cG i _ e3
   rw[e2']at AK
   obtain⟨b,c,t',q1,q2,q3,q4,q5,q6⟩:=AK
   injection q1 with q1;injection q1 with q1;injection q1 with q1 _ _
   subst q1
   have hne:∀j,G1.O g≠.cell g j:=fun j=>L_
   have vW:off+(a.eval u).cells.toList.length<=c.size:=Φ
   have bS:=nW (P:=P) hs q4 (v:=a.eval u) A_ Ξ EL
   have bF:aI G1 w G1 (w.setRow g (laid c off (a.eval u).cells.toList)):=aI.write q4 L_ (fun k hk=>A_) (Nat.le_refl _) (fun _ _=>⟨rfl,rfl⟩)
   have mc:=dF.lay q4 bF h1.aZ q5 hlen dn hne CV
   obtain⟨h2,_⟩:=h1.written (E':=(E.drain v).put (some i) (.loc (setAt fX off (bB (E.x v))))) q4 (.inl ⟨i,q2⟩) q3 rfl
    (h1.store.mono h1.aZ bF (fun b hb=>⟨hb,rfl,setRow_other w g b _ (fun e=>A_)⟩) (fun b c j _ hc=>⟨hc,rfl,setRow_other w g c _ (fun e=>A_)⟩))
    (fun k=>by grind [q2,St.put,bj,Fl.setAt])
   intro pos after gd next Q hn
   exact rH (w':=w.setRow g (laid c off (a.eval u).cells.toList)) Δ (hn G1 _ _ _ (qO _ _ h2) (hp1.trans bF) hk)
 ·
  rw[e4]at hk
  cases hwr:eU off (bB (E.x v)) fX with
  |none=>rw[hwr]at hk;exact hk.elim
  |some cs'=>
   rw[hwr]at hk
   obtain⟨dn,rfl⟩:=sC hwr
   have hs':(E.drain v).s=E.s:=Ψ
   obtain⟨q2,q3,c,t',q4,q5,q6⟩:=h1.store g (.cells fX) A_
   have hne:∀j,G1.O g≠.cell g j:=fun j=>L_
   have vW:off+(a.eval u).cells.toList.length<=c.size:=Φ
   have bS:=nW (P:=P) hs q4 (v:=a.eval u) A_ Ξ EL
   have bF:aI G1 w G1 (w.setRow g (laid c off (a.eval u).cells.toList)):=aI.write q4 L_ (fun k hk=>A_) (Nat.le_refl _) (fun _ _=>⟨rfl,rfl⟩)
   have mc:=dF.lay q4 bF h1.aZ q5 hlen dn hne CV
   have eJ:bc G1 (w.setRow g (laid c off (a.eval u).cells.toList)) ((E.drain v).s.set g (.cells (setAt fX off (bB (E.x v))))):=by
    intro b o hb
    unfold ae.set at hb
    by_cases hbg:b=g
    ·rw[if_pos hbg]at hb;grind [q2,setRow_heap,Eu.setAt]
    ·rw[if_neg hbg]at hb
     obtain⟨r1,r2,r3⟩:=h1.store b o hb
     refine⟨r1,r2,?_⟩
     have hbk:=setRow_other w g b (laid c off (a.eval u).cells.toList) hbg
     cases o with
     |cells cs=>
      obtain⟨c0,t0,r4,r5,r6⟩:=r3
      exact⟨c0,t0,hbk.trans r4,r5.mono (fun _ _ hv=>bF.vr h1.aZ hv) (fun b' j hb'=>⟨hb',rfl,setRow_other w g b' _ (fun e=>A_)⟩),r6⟩
     |map es=>
      obtain⟨jC,clock,r4,r5,r6⟩:=r3
      exact⟨jC,clock,hbk.trans r4,r5,fun j x y hx hy=>⟨bF.vr h1.aZ (r6 j x y hx hy).1,bF.vr h1.aZ (r6 j x y hx hy).2⟩⟩
   obtain⟨h2,_⟩:=h1.written (E':={E.drain v with s:=(E.drain v).s.set g (.cells (setAt fX off (bB (E.x v))))}) q4 (.inr q2) q3 rfl eJ
    (fun k=>.inl ⟨rfl,L_⟩)
   intro pos after gd next Q hn
   exact rH (w':=w.setRow g (laid c off (a.eval u).cells.toList)) Δ (hn G1 _ _ _ (qO _ _ h2) (hp1.trans bF) hk)
end
section
variable{P:Program}{G G':Gh}{n:Nat}{D:List Deferred}{E:St}{a:Act}{w w':World}
def Inv.ZW(h:Inv G n D E a w){d:Option Nat}(hd:bt n d=true){sz m cap:Nat}{cs:List AV}{c:Array Value}{t:TypeId}{ob:dp}{own:Bool}(hob:∀i,d=some i->ob=.slot i 0)(ajN:d=none->ob=.none)
 (hl:cs.length=m*sz)(fI:m<=cap)(hsz:c.size=cap*sz)(hfl:Fl cs)
 (hcs:∀(j:Nat)(x:AV),cs[j]? =some x->∃y,c[j]? =some y/\VR w G.R x y)(fz:Nat×Nat)(hfz:(∀k,k<c.size->¬(fz.1<=k/\k<fz.2))/\fz.1<=fz.2)(hz0:own=true->fz=(0,0)\/(0<m/\∃x,c[0]? =some (.int .u8 x)))(hsp:∀(k:Nat)(y:Value),m*sz<=k->c[k]? =some y->y.oneCell'=true):
 ∃G',Inv G' n D (E.put d (.sl own sz m cs)) (a.put d (.slice (some ⟨w.heap.size,0,none⟩) m cap)) (w.alloc (.cells c t fz))/\aI G w G' (w.alloc (.cells c t fz)):=by
 have hp:=(fS h.aZ (.cells c t fz) ob cs.length).2.1
 obtain⟨h1,h2⟩:=h.alloc (.cells c t fz) ob cs.length d hd (.sl own sz m cs) (.slice (some ⟨w.heap.size,0,none⟩) m cap) E.lp (k7 h.store h.aZ _ ob cs.length) (fun _ hx=>hx) (fun i t' _ ht=>ht.elim)
  (fun i t' _⟨cs',zA⟩=>A_)
  (fun i hi=>by
    refine⟨?_,?_⟩
    ·refine .sl own sz m cs w.heap.size 0 cap (fun j=>c.getD j undef) hfl hl BY fI (fun j x hj=>?_) (fun j x hj=>?_)
     ·obtain⟨y,hy,_⟩:=hcs j x hj
      rw[Nat.zero_add,cell_of_row _ (heap_alloc_new w _)]
      simp_all
     ·obtain⟨y,hy,hv⟩:=hcs j x hj
      have:c.getD j undef=y:=H_
      rw[this]
      exact hp.vr h.aZ hv
    ·cases own with
     |false=>trivial
     |true=>
     intro base m' cP hv hc
     injection hv with e1 e2 e3
     exact⟨w.heap.size,0,c,t,fz,e1.symm,H_,by simp[hl],heap_alloc_new w _,A_,hfz.1,hfz.2,rfl,hz0 rfl,fun k y hk=>hsp k y AT⟩)
 exact⟨_,Ω,h2⟩
theorem KE(l:List Value):∀(m:Nat),((List.replicate m l).flatten)=((List.range (m*l.length)).map fun i=>l.getD (i % l.length) undef):=by
 intro m
 apply List.ext_getElem?
 intro j
 rcases Nat.eq_zero_or_pos l.length with h0|hp
 ·simp_all
 ·induction m generalizing j with
  |zero=>simp
  |succ m ih=>
   rw[List.replicate_succ,List.flatten_cons]
   by_cases hj:j<l.length
   ·rw[List.getElem?_append_left hj,List.getElem?_map,List.getElem?_range A_]
    simp[Nat.mod_eq_of_lt hj,List.getElem?_eq_getElem hj]
   ·by_cases hlt:j<(m+1)*l.length
    ·grind [List.getElem?_range,Nat.mod_eq_sub_mod]
    grind
theorem uD(z:Array Value)(m:Nat):((Array.range (m*z.size)).map fun i=>z[i % z.size]!)=((List.replicate m z.toList).flatten).toArray:=by
 rw[KE]
 apply Array.ext'
 simp only[Array.toList_map,Array.toList_range]
 apply List.map_congr_left
 grind [Nat.mod_lt]
theorem Kt(h:Inv G n D E a w){op:Op}{ty:TypeId}{sz m:Nat}{z:List AV}{ps:List (Nat×Nat×IX)}{d:Option Nat}{K:St->Prop}(hd:bt n d=true)(hc:aw P op ty (.ie sz m z ps)=true)(hw:jq P (.ie sz m z ps) d E K):pq P G n D w a op ty d K:=by
 cases op<;>first|(simp[aw]at hc;done)|skip
 rename_i t m' qs
 simp only[aw,Bool.and_eq_true,beq_iff_eq]at hc
 obtain⟨rfl,hc⟩:=hc
 split at hc<;>try(cases hc;done)
 rename_i e ht
 have ht:=dj ht
 simp only[Bool.and_eq_true]at hc
 obtain⟨⟨⟨⟨hs,jW⟩,hp⟩,Tj⟩,hz⟩:=hc
 obtain⟨i,hi,qM⟩:=lq hs
 rw[hi]at hz
 simp only at hz
 split at hz<;>try(cases hz;done)
 rename_i zv hzv
 simp only[Bool.and_eq_true,beq_iff_eq]at hz
 obtain⟨hzr,hzs⟩:=hz
 have jW:=of_decide_eq_true jW
 have Tj:=of_decide_eq_true Tj
 have hw':xO sz m E d K (fill (xg true E) z ps):=hw
 cases hfl:fill (xg true E) z ps with
 |none=>rw[hfl]at hw';exact hw'.elim
 |some ds=>
  rw[hfl]at hw'
  obtain⟨hlen,hk⟩:=hw'
  obtain⟨hl,hpa⟩:=xl _ _ hp
  obtain⟨hz1,hz2⟩:=BT hzr
  have dE:Row w G.R z ((Array.range (m*sz)).map (zv.cells[·% zv.cells.size]!)):=by
   rw[<-hzs,uD]
   exact⟨A_,fun j c u hc hu=>vQ (hz2 j c u hc A_) w G.R,Cu hzr⟩
  have hf:∀(o:Operand)(x:IX),bN o x=true->dJ (xg true E x)=true->VR w G.R (xg true E x) (a.eval o):=fun o x hx hi=>by
   have:=BR.aR h hx
   generalize xg true E x=av at hi this
   cases av<;>first|exact this|grind [dJ]
  obtain⟨us,h1,h2⟩:=rY h hf (fun i=>some (i*sz,sz)) qs.toList ps z ds _ ⟨hl,fun j q p hq hp'=>A_⟩ dE hfl
  obtain⟨G1,h3,h4⟩:=h.ZW (t:=e) (ob:=match d with|some i=>.slot i 0|none=>.none) hd (fun i hi=>by subst hi;rfl) (fun hn=>by subst hn;rfl) hlen (Nat.le_refl m) (by rw[h2.1,hlen]) h2.2.2
   (fun j x hx=>by
     have hlt:j<us.size:=by rw[h2.1];exact(List.getElem?_eq_some_iff.1 hx).1
     exact⟨us[j],Array.getElem?_eq_getElem hlt,h2.2.1 j x _ hx (Array.getElem?_eq_getElem hlt)⟩) (0,0) ⟨fun k _ hk=>by simp at hk,Nat.le_refl _⟩ (own:=true) (fun _=>.inl rfl) (fun k y hk hy=>by
     have:=(Array.getElem?_eq_some_iff.1 hy).1
     rw[h2.1,hlen]at this;omega)
  intro pos after gd next Q hn
  refine aY ?_ (hn G1 _ _ _ h3 h4 hk)
  by_cases hm0:m*sz=0
  ·have hm:m=0:=by
    rcases Nat.mul_eq_zero.1 hm0 with h|h
    ·exact h
    ·omega
   subst hm
   simp only[Nat.zero_mul]at h1
   have:(Array.range 0).map (zv.cells[·% zv.cells.size]!)= #[]:=BY
   rw[this]at h1
   have hr0:Array.map (fun _:Nat=>(default:Value)) (Array.range 0)= #[]:=by apply Array.ext';simp
   simp[execOp,Instr.buildSlice,run_underlying ht,run_sizeOf hs,hr0,h1,newRow]
  ·have h24:¬(16777216<m*sz):=AT
   simp[execOp,Instr.buildSlice,run_underlying ht,run_sizeOf hs,h24,hm0,zeroValue,typeInfo,hi,hzv,h1,newRow]
def J5(s:List UInt8):Fl (s.map fun c=>AV.int .u8 c.toNat):=by
 intro c hc
 simp[List.mem_map]at hc
 obtain⟨x,_,rfl⟩:=hc
 rfl
theorem MR(h:Inv G n D E a w){op:Op}{ty:TypeId}{x:IX}{d:Option Nat}{K:St->Prop}(hd:bt n d=true)(hc:aw P op ty (.kO x)=true)(hw:jq P (.kO x) d E K):pq P G n D w a op ty d K:=by
 cases op<;>first|(simp[aw]at hc;done)|skip
 rename_i s t y
 simp only[aw,Bool.and_eq_true]at hc
 obtain⟨hy,hc⟩:=hc
 split at hc<;>try(cases hc;done)
 rename_i e hs ht
 split at hc<;>try(cases hc;done)
 rename_i he
 have hb:=BR.aR h hy
 have hw':BU E d K (xg true E x):=hw
 generalize xg true E x=xv at hb hw'
 unfold BU at hw'
 split at hw'<;>try(exact hw'.elim)
 rename_i ow sz m cs
 obtain⟨rfl,l,rfl,hk⟩:=hw'
 have qO:Inv G n D (E.put d (.str l)) (a.put d (.string ⟨l.toArray⟩)) w:=by
  have:=h.put (s':=E.s) (lp':=E.lp) d (fun i hi=>IN) (.str l) (.string ⟨l.toArray⟩) h.aZ (aI.refl G w) h.store (fun _ hx=>hx) (fun i t _ ht=>ht.elim) (fun i t _⟨cs,hcs⟩=>Pc)
   (fun _ _ _ _=>⟨rfl,rfl,rfl⟩) (fun _ _ _ _ _ _ hcc=>⟨hcc,rfl,rfl⟩) (fun i hdi=>⟨.str l,trivial⟩)
  cases d<;>exact this
 intro pos after gd next Q hn
 refine aY (v:=.string ⟨l.toArray⟩) ?_ (hn G _ _ _ qO (aI.refl G w) hk)
 rcases VR.gq hb with⟨e1,_,hl0⟩|⟨b,off,cap,e1,hlen,_,_,u,u1,u2,_⟩
 ·have:l=[]:=by simpa using hl0
  subst this
  rcases e1 with e1|⟨_,ad,cap,e1⟩
  ·have:=run_convert_bytes_nil (P:=P) w s e hs he 0 0 t ht
   simp[execOp,e1,this]
   rfl
  ·have:=ln (P:=P) w s e hs he ad cap t ht
   simp[execOp,e1,this]
   rfl
 ·have hm:l.length=m:=by simpa using hlen
  have:=run_convert_bytes_arg (P:=P) w s e hs he b off m cap (l.map fun c=>(c.toNat:Int)) A_ (fun i hi=>by
   have hil:i<l.length:=AT
   have hc0:(l.map fun c=>AV.int .u8 c.toNat)[i]? =some (.int .u8 l[i].toNat):=by simp[hil]
   grind [VR.cu]) t ht
  have hs2:strOfNums (l.map fun c=>(c.toNat:Int))=⟨l.toArray⟩:=by
   unfold strOfNums
   congr 2
   simp[Function.comp_def]
  rw[hs2]at this
  simp[execOp,e1,this]
theorem aI.drew(G:Gh)(w:World):aI G w G w.drew:=⟨rfl,rfl,rfl,Nat.le_succ _,Nat.le_refl _,fun _ _=>Nat.le_refl _,fun _ _ _ _=>rfl,fun _ _ _=>rfl,fun _ _ h=>⟨h,rfl⟩,fun _ _ h=>⟨h,rfl⟩⟩
theorem Inv.drew(h:Inv G n D E a w):Inv G n D E a w.drew:=by
 have hg:cE G w.drew:=⟨h.aZ.kc,h.aZ.kV⟩
 have:=h.put none (fun i hi=>A_) .undef undef hg (aI.drew G w) (h.store.mono h.aZ (aI.drew G w) (fun _ hb=>⟨hb,rfl,rfl⟩) (fun _ _ _ _ hc=>⟨hc,rfl,rfl⟩)) (fun _ hx=>hx) (fun i t hi=>A_) (fun i t hi=>BY)
  (fun _ _ _ _=>⟨rfl,rfl,rfl⟩) (fun _ _ _ _ _ _ hcc=>⟨hcc,rfl,rfl⟩) (fun i hi=>A_)
 exact this
end
end Go.AB
end
