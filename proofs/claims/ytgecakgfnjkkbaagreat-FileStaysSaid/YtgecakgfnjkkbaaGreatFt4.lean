/- A part. -/
import Derived.Test.YtgecakgfnjkkbaaGreatFt3
import Derived.Laws.BytesArg
import Derived.Laws.StructEq
import Derived.Laws.Rows
import Derived.Laws.CopyRow
import Derived.Laws.Append
import Derived.Laws.AppendOwn
import Derived.Laws.BytesString
set_option linter.unusedSimpArgs false
set_option linter.unusedVariables false
section
namespace Go.AB
open Go
theorem HK{a:AV}{c:UInt8}(h:byteOf a=some c):a=.int .u8 c.toNat:=by
 unfold byteOf at h
 grind [UInt8.toNat_ofNat']
theorem wm:∀{cs:List AV}{l:List UInt8},bytesOf cs=some l->cs=l.map fun c=>.int .u8 c.toNat
 |[],l,h=>by grind [bytesOf]
 |a::r,l,h=>by
  unfold bytesOf at h
  cases ha:byteOf a with
  |none=>rw[ha]at h;cases h
  |some c=>
   cases hr:bytesOf r with
   |none=>rw[ha,hr]at h;cases h
   |some m=>
    rw[ha,hr]at h
    injection h with h
    subst h
    rw[HK ha,wm hr];rfl
section
variable{P:Program}{G:Gh}{n:Nat}{D:List Deferred}{E:St}{a:Act}{w:World}
theorem Sc(h:Inv G n D E a w){op:Op}{ty:TypeId}{z:List AV}{m:Bool}{x:IX}(hc:au P op ty (.ki z m x)=true){av:AV}(hv:gn (pv (.ki z m x) (xg true E) E) av):
 ∃v,runs P a op ty w v/\NR G w E a av v:=by
 have hc':au P op ty (.load z.length m x)=true:=by cases op<;>first|exact hc|(done)
 refine GM h hc' ?_
 have hv':gn (Ey z m E.s (xg true E x)) av:=hv
 show gn (ju m (rd E (xg true E x) z.length)) av
 generalize xg true E x=xv at hv'
 cases xv<;>first|exact hv'.no.elim|skip
 rename_i b off
 have hv2:gn (I1 z m off (E.s b)) av:=hv'
 show gn (ju m (qF z.length off (E.s b))) av
 cases hs:E.s b with
 |none=>rw[hs]at hv2;exact hv2.no.elim
 |some so=>
  cases so with
  |map es=>rw[hs]at hv2;exact hv2.no.elim
  |cells cs=>
   rw[hs]at hv2
   have hv3:gn (ckP (off+z.length<=cs.length) (na m (pad z (views (sub cs off z.length))))) av:=hv2
   unfold ckP at hv3
   cases hi:dh (na m (pad z (views (sub cs off z.length))))with
   |false=>rw[hi]at hv3;exact hv3.no.elim
   |true=>
    rw[hi]at hv3
    obtain⟨rfl,hle⟩:=hv3.prt
    have hlen:(views (AB.sub cs off z.length)).length=z.length:=by simp[AB.views,List.length_map,AB.sub,List.length_take,List.length_drop];omega
    have YR:pad z (views (AB.sub cs off z.length))=views (AB.sub cs off z.length):=by unfold pad;rw[hlen,beq_self_eq_true];rfl
    rw[YR]at hi⊢
    show gn (ju m (gj z.length off cs)) _
    unfold gj
    rw[decide_eq_true hle]
    show gn (WD (na m (views (AB.sub cs off z.length)))) _
    unfold WD
    rw[hi]
    exact .inl rfl
theorem Sb(h:Inv G n D E a w){op:Op}{ty:TypeId}{k:IntKind}{x:IX}(hc:au P op ty (.nA k x)=true){av:AV}(hv:gn (pv (.nA k x) (xg true E) E) av):
 ∃v,runs P a op ty w v/\NR G w E a av v:=by
 have hc':au P op ty (.load 1 false x)=true:=by
  cases op<;>first|(simp[au]at hc)|skip
  simp only[au,Bool.and_eq_true]at hc⊢
  exact⟨⟨⟨hc.1.1,hc.1.2⟩,rfl⟩,hc.2⟩
 refine GM h hc' ?_
 have hv':gn (yn k E.s (xg true E x)) av:=hv
 show gn (ju false (rd E (xg true E x) 1)) av
 generalize xg true E x=xv at hv'
 cases xv<;>first|exact hv'.no.elim|skip
 rename_i b off
 obtain⟨rfl,hcc⟩:=gn.prt (hv')
 show gn (ju false (qF 1 off (E.s b))) _
 cases hs:E.s b with
 |none=>rw[hs]at hcc;exact hcc.elim
 |some so=>
  cases so with
  |map es=>rw[hs]at hcc;exact hcc.elim
  |cells cs=>
   rw[hs]at hcc
   obtain⟨m,hm⟩:=hcc
   have hlt:=(List.getElem?_eq_some_iff.1 hm).1
   show gn (ju false (gj 1 off cs)) (.int k (intOf cs[off]?))
   rw[hm]
   unfold gj
   rw[decide_eq_true (by omega)]
   have e:AB.sub cs off 1=[.int k m]:=by
    unfold AB.sub
    rw[List.drop_eq_getElem_cons hlt]
    have:=(List.getElem?_eq_some_iff.1 hm).2
    rw[this];rfl
   rw[e]
   exact .inl rfl
theorem ks{P:Program}(w:World)(src e:TypeId)(hs:P.underlying src=some (.slice e))(he:P.underlying e=some (.int .u8))(ad:Addr)(cap:Nat):
 ∀dst,P.underlying dst=some .string->(convert src dst (.slice (some ad) 0 cap)).run P w=.ok (.string ByteArray.empty) w:=by
 intro dst hd
 have hl:(loadCells ad 0).run P w=.ok ([].map (Value.int .u8)).toArray w:=by rfl
 rw[run_convert_bytes_string w src dst e _ 0 cap hs he hd,run_bytesToString w _ 0 cap [] hl]
 simp[ByteArray.emptyWithCapacity]
theorem OL(h:Inv G n D E a w){op:Op}{ty:TypeId}{x:IX}(hc:au P op ty (.jU x)=true){av:AV}(hv:gn (pv (.jU x) (xg true E) E) av):
 ∃v,runs P a op ty w v/\NR G w E a av v:=by
 cases op<;>first|(simp[au]at hc;done)|skip
 rename_i s t y
 simp only[au,Bool.and_eq_true]at hc
 obtain⟨hy,hc⟩:=hc
 split at hc<;>try(cases hc;done)
 rename_i e hs ht
 split at hc<;>try(cases hc;done)
 rename_i he
 have hb:=BR.aV h hy
 have hv':gn (qk (xg true E x)) av:=hv
 generalize xg true E x=xv at hb hv'
 unfold qk at hv'
 split at hv'<;>try(exact hv'.no.elim)
 rename_i ow sz m cs
 cases hsz:sz==1 with
 |false=>rw[hsz]at hv';exact hv'.no.elim
 |true=>
 rw[hsz]at hv'
 obtain rfl:=beq_iff_eq.1 hsz
 have hv2:=hv'
 cases hbs:bytesOf cs with
 |none=>rw[hbs]at hv2;exact hv2.no.elim
 |some l=>
 rw[hbs]at hv2
 obtain rfl:=hv2.cQ
 obtain rfl:=wm hbs
 refine⟨.string ⟨l.toArray⟩,fun _ _ _ _=>?_,NR.mk rfl (.str l) rfl⟩
 rcases VR.il hb with⟨e1,_,hl0⟩|⟨b,off,cap,e1,hlen,_,_,u,u1,u2,_⟩
 ·have:l=[]:=by simpa using hl0
  subst this
  rcases e1 with e1|⟨_,ad,cap,e1⟩
  ·have:=run_convert_bytes_nil (P:=P) w s e hs he 0 0 t ht
   simp[execOp,e1,this]
   rfl
  ·have:=ks (P:=P) w s e hs he ad cap t ht
   simp[execOp,e1,this]
   rfl
 ·have hm:l.length=m:=by simpa using hlen
  have:=run_convert_bytes_arg (P:=P) w s e hs he b off m cap (l.map fun c=>(c.toNat:Int)) (by grind) (fun i hi=>by
   have hil:i<l.length:=by omega
   have hc0:(l.map fun c=>AV.int .u8 c.toNat)[i]? =some (.int .u8 l[i].toNat):=by simp[hil]
   grind [VR.b8]) t ht
  have hs2:strOfNums (l.map fun c=>(c.toNat:Int))=⟨l.toArray⟩:=by
   unfold strOfNums
   congr 2
   simp[Function.comp_def]
  rw[hs2]at this
  simp[execOp,e1,this]
end
theorem Wf(off:Nat):∀(l:List Value)(s:Nat)(cells:Array Value),
 ((l.zipIdx s).foldl (fun cs(x:Value×Nat)=>cs.setIfInBounds (off+x.2) x.1) cells).size=cells.size/\
 ∀k,((l.zipIdx s).foldl (fun cs(x:Value×Nat)=>cs.setIfInBounds (off+x.2) x.1) cells)[k]? =
  if off+s<=k/\k<off+s+l.length/\k<cells.size then l[k -(off+s)]? else cells[k]? :=by
 intro l
 induction l with
 |nil=>
  intro s cells
  refine⟨rfl,fun k=>?_⟩
  rw[if_neg (by grind)];rfl
 |cons v l ih=>
  intro s cells
  rw[List.zipIdx_cons]
  grind
section
variable{P:Program}{G:Gh}{n:Nat}{D:List Deferred}{E:St}{a:Act}{w:World}
def Row(w:World)(R:Nat->Nat)(cs:List AV)(vs:Array Value):Prop:=vs.size=cs.length/\(∀(j:Nat)(c:AV)(u:Value),cs[j]? =some c->vs[j]? =some u->VR w R c u)/\Fl cs
theorem gT{R:Nat->Nat}{av:AV}{v:Value}(hi:dh av=true)(h:VR w R av v):Row w R (cellsOf av) v.cells:=by
 have key:(∃cs,av=.agg cs)\/(cellsOf av=[av]/\v.cells= #[v]/\pw av=true):=by cases h<;>first|exact .inl ⟨_,rfl⟩|exact .inr ⟨rfl,rfl,rfl⟩|(rename_i hb _;cases hb<;>exact .inr ⟨rfl,rfl,rfl⟩)|(rename_i KO;exact .inr ⟨rfl,by cases v<;>first|rfl|(cases KO),rfl⟩)|grind [dh]
 rcases key with⟨cs,rfl⟩|⟨h1,h2,h3⟩
 ·obtain⟨vs,rfl,hl,hr,hf⟩:=VR.Al h
  exact⟨hl,hr,hf⟩
 ·rw[h1,h2]
  refine⟨rfl,fun j c u hc hu=>?_,fun c hc=>?_⟩
  ·grind
  grind
theorem Row.views{R:Nat->Nat}{cs:List AV}{vs:Array Value}(h:Row w R cs vs):Row w R (views cs) vs:=by
 refine⟨by simp[AB.views,h.1],fun j c u hc hu=>?_,h.2.2.views⟩
 rw[eV]at hc
 cases hj:cs[j]? with
 |none=>rw[hj]at hc;cases hc
 |some c'=>
  rw[hj]at hc;simp at hc
  rw[<-hc];exact(h.2.1 j c' u hj hu).view
theorem mX(cs news:List AV)(off k:Nat)(h:off+news.length<=cs.length):(setAt cs off news)[k]? =if off<=k/\k<off+news.length then news[k -off]? else cs[k]? :=by
 unfold setAt
 rw[List.append_assoc]
 grind
theorem mY(cs news:List AV)(off:Nat)(h:off+news.length<=cs.length):(setAt cs off news).length=cs.length:=by grind [setAt]
theorem Fl.setAt{cs news:List AV}(h:Fl cs)(k:Fl news)(off:Nat):Fl (setAt cs off news):=by
 intro c hc
 rcases List.mem_append.1 hc with hc|hc
 ·rcases List.mem_append.1 hc with hc|hc
  ·exact h c (List.mem_of_mem_take hc)
  ·exact k c hc
 ·exact h c (List.mem_of_mem_drop hc)
theorem DT.setAt{t:Nat}{cs news:List AV}(h:DT t cs)(k:Fl news)(off:Nat):DT t (AB.setAt cs off news):=by
 intro c hc
 unfold AB.setAt at hc
 simp only[List.mem_append]at hc
 rcases hc with(hc|hc)|hc
 ·exact h c (List.mem_of_mem_take hc)
 ·exact .inl (k c hc)
 ·exact h c (List.mem_of_mem_drop hc)
theorem Row.setAt{R:Nat->Nat}{cs news:List AV}{vs us:Array Value}{off:Nat}(h:Row w R cs vs)(k:Row w R news us)(df:off+news.length<=cs.length):
 Row w R (setAt cs off news) (us.zipIdx.foldl (fun cs(x:Value×Nat)=>cs.setIfInBounds (off+x.2) x.1) vs):=by
 have e:us.zipIdx.foldl (fun cs x=>cs.setIfInBounds (off+x.2) x.1) vs=(us.toList.zipIdx 0).foldl (fun cs x=>cs.setIfInBounds (off+x.2) x.1) vs:=by rw[<-Array.foldl_toList,Array.toList_zipIdx]
 rw[e]
 obtain⟨h1,h2⟩:=Wf off us.toList 0 vs
 refine⟨by rw[h1,mY _ _ _ df,h.1],fun j c u hc hu=>?_,Fl.setAt h.2.2 k.2.2 off⟩
 rw[h2 j]at hu
 rw[mX _ _ _ _ df]at hc
 have hus:=k.1
 by_cases hj:off<=j/\j<off+news.length
 ·rw[if_pos hj]at hc
  exact k.2.1 (j -off) c u hc (by grind)
 ·rw[if_neg hj]at hc
  rw[if_neg (by grind)]at hu
  exact h.2.1 j c u hc hu
theorem qn(h:Inv G n D E a w){f:IX->AV}(hf:∀(o:Operand)(x:IX),bI o x=true->dh (f x)=true->VR w G.R (f x) (a.eval o))(place:Nat->Option (Nat×Nat)):
 ∀(qs:List (Nat×Operand))(ps:List (Nat×Nat×IX))(cs ds:List AV)(vs:Array Value),
  (qs.length=ps.length/\∀(j:Nat)(q:Nat×Operand)(p:Nat×Nat×IX),qs[j]? =some q->ps[j]? =some p->place q.1=some (p.1,p.2.1)/\bI q.2 p.2.2=true)->
  Row w G.R cs vs->fill f cs ps=some ds->∃us,Instr.fill place vs (qs.map fun q=>(q.1,a.eval q.2))=some us/\Row w G.R ds us:=by
 intro qs
 induction qs with
 |nil=>
  intro ps cs ds vs hc hr hfl
  cases ps with
  |nil=>injection hfl with hfl;subst hfl;exact⟨vs,rfl,hr⟩
  |cons _ _=>simp at hc
 |cons q qs ih=>
  intro ps cs ds vs hc hr hfl
  cases ps with
  |nil=>simp at hc
  |cons p ps=>
   obtain⟨off,m,x⟩:=p
   obtain⟨hlen,dq⟩:=hc
   obtain⟨hp,hx⟩:=dq 0 q (off,m,x) rfl rfl
   simp[fill]at hfl
   cases QE:(dh (f x)&&((views (cellsOf (f x))).length==m&&decide (off+m<=cs.length)))with
   |false=>grind
   |true=>
    rw[QE]at hfl
    simp[Bool.and_eq_true,beq_iff_eq,decide_eq_true_eq]at QE
    obtain⟨hi,hm,df⟩:=QE
    have e7:=(gT hi (hf q.2 x hx hi)).views
    have hsz:(a.eval q.2).cells.size=m:=by rw[e7.1,hm]
    have hcs:off+(a.eval q.2).cells.size<=vs.size:=by rw[hsz,hr.1];exact df
    have ve:=hr.setAt e7 (off:=off) (by grind)
    obtain⟨us,h1,h2⟩:=ih ps _ ds _ ⟨by grind,fun j q' p' hq hp'=>dq (j+1) q' p' (by grind) (by grind)⟩ ve hfl
    simp[List.map_cons,Instr.fill]
    grind
theorem Lq{fs:Array Field}:∀(qs:List (Nat×Operand))(ps:List (Nat×Nat×IX)),yC P fs qs ps=true->
 qs.length=ps.length/\∀(j:Nat)(q:Nat×Operand)(p:Nat×Nat×IX),qs[j]? =some q->ps[j]? =some p->(∃f,fs[q.1]? =some f/\f.offset=p.1/\cX P f.type p.2.1=true)/\bI q.2 p.2.2=true:=by
 intro qs
 induction qs with
 |nil=>intro ps hp;cases ps with
  |nil=>grind
  |cons _ _=>simp[yC]at hp
 |cons q qs ih=>intro ps hp;cases ps with
  |nil=>simp[yC]at hp
  |cons p ps=>
   simp[yC]at hp
   grind
theorem vF{sz:Nat}:∀(qs:List (Nat×Operand))(ps:List (Nat×Nat×IX)),sk sz qs ps=true->
 qs.length=ps.length/\∀(j:Nat)(q:Nat×Operand)(p:Nat×Nat×IX),qs[j]? =some q->ps[j]? =some p->(q.1*sz=p.1/\p.2.1=sz)/\bI q.2 p.2.2=true:=by
 intro qs
 induction qs with
 |nil=>intro ps hp;cases ps with
  |nil=>grind
  |cons _ _=>simp[sk]at hp
 |cons q qs ih=>intro ps hp;cases ps with
  |nil=>simp[sk]at hp
  |cons p ps=>
   simp[sk,beq_iff_eq]at hp
   grind
theorem tB{t:TypeId}{z:List AV}(h:nQ P t z=true):∃i v,P.info? t=some i/\i.zero=some v/\i.size=z.length/\(∀(w:World)(R:Nat->Nat),Row w R z v.cells)/\(∀(j:Nat)(c:AV)(u:Value),z[j]? =some c->v.cells[j]? =some u->cR u c=true):=by
 unfold nQ at h
 split at h
 ·rename_i i hi
  split at h
  ·rename_i v hv
   simp[Bool.and_eq_true,beq_iff_eq]at h
   obtain⟨h1,h2⟩:=Ae h.1
   exact⟨i,v,hi,hv,h.2,fun w R=>⟨by grind,fun j c u hc hu=>ud (h2 j c u hc (by grind)) w R,AO h.1⟩,fun j c u hc hu=>h2 j c u hc (by grind)⟩
  ·cases h
 ·cases h
theorem I6(w:World):∀(fs:List Field),(∀f∈fs,(P.info? f.type).isSome=true)->
 (fs.mapM (m:=Sem) fun f=>Prod.mk f.offset<$>sizeOf f.type).run P w=.ok (fs.map fun f=>(f.offset,P.cellsOf f.type)) w:=by
 intro fs
 induction fs with
 |nil=>intro _;rfl
 |cons f fs ih=>
  cases hi:P.info? f.type with
  |none=>grind
  |some i=>
   simp[sizeOf,typeInfo,Program.cellsOf]at ih⊢
   simp_all
theorem R9(h:Inv G n D E a w){op:Op}{ty:TypeId}{z:List AV}{ps:List (Nat×Nat×IX)}(hc:au P op ty (.build z ps)=true){av:AV}(hv:gn (pv (.build z ps) (xg true E) E) av):
 ∃v,runs P a op ty w v/\NR G w E a av v:=by
 cases op<;>first|(simp[au]at hc;done)|skip
 rename_i t qs
 simp only[au,Bool.and_eq_true]at hc
 obtain⟨hz,hc⟩:=hc
 obtain⟨ti,zv,hti,hzv,hsz,e7,_⟩:=tB hz
 have hv':gn (AH (fill (xg true E) z ps)) av:=hv
 cases hfl:fill (xg true E) z ps with
 |none=>rw[hfl]at hv';exact hv'.no.elim
 |some ds=>
  rw[hfl]at hv'
  have hav:av=.agg ds:=hv'.cQ
  subst hav
  have hzr:(zeroValue t).run P w=.ok zv w:=by simp[zeroValue,typeInfo,hti,hzv]
  have hf:∀(o:Operand)(x:IX),bI o x=true->dh (xg true E x)=true->VR w G.R (xg true E x) (a.eval o):=fun o x hx hi=>(BR.aV h hx).vr hi
  split at hc<;>try(cases hc;done)
  ·rename_i fs ht
   rw[Bool.and_eq_true]at hc
   obtain⟨hp,dq⟩:=hc
   obtain⟨hl,hp⟩:=Lq _ _ hp
   have Uv:(fs.mapM (m:=Sem) fun f=>Prod.mk f.offset<$>sizeOf f.type).run P w=.ok (fs.map fun f=>(f.offset,P.cellsOf f.type)) w:=by
    have:=I6 (P:=P) w fs.toList (fun f hf=>by grind [Array.all_eq_true'])
    rw[Array.mapM_eq_mapM_toList]
    simp only[Sem.run_map,this,Result.andThen_ok]
    congr 1
    apply Array.ext'
    simp
   obtain⟨us,h1,h2⟩:=qn h hf ((fs.map fun f=>(f.offset,P.cellsOf f.type))[·]?) qs.toList ps z ds zv.cells
    ⟨hl,fun j q p hq hp'=>by grind [ku,Program.cellsOf]⟩ (e7 w G.R) hfl
   refine⟨.agg us,fun _ _ _ _=>?_,NR.mk rfl (.agg _ _ h2.2.2 h2.1 h2.2.1) rfl⟩
   simp only[Array.getElem?_map]at h1
   simp[execOp,Instr.build,hzr,run_underlying ht,Uv,h1]
  ·rename_i m e ht
   split at hc<;>try(cases hc;done)
   rename_i ei hei
   obtain⟨hl,hp⟩:=vF _ _ hc
   obtain⟨us,h1,h2⟩:=qn h hf (fun i=>some (i*ei.size,ei.size)) qs.toList ps z ds zv.cells
    ⟨hl,fun j q p hq hp'=>by grind⟩ (e7 w G.R) hfl
   refine⟨.agg us,fun _ _ _ _=>?_,NR.mk rfl (.agg _ _ h2.2.2 h2.1 h2.2.1) rfl⟩
   simp[execOp,Instr.build,hzr,run_underlying ht,sizeOf,typeInfo,hei,h1]
theorem rv(h:Inv G n D E a w){f:IX->AV}(hf:∀(o:Operand)(x:IX),bI o x=true->dh (f x)=true->VR w G.R (f x) (a.eval o)):
 ∀(os:List Operand)(xs:List IX)(as:List AV),iO os xs=true->cF f xs=some as->as.length=os.length/\(∀c∈as,dh c=true/\view c=c)/\
  ∀(j:Nat)(c:AV)(u:Value),as[j]? =some c->(os.map a.eval)[j]? =some u->VR w G.R c u:=by
 intro os
 induction os with
 |nil=>
  intro xs as hc hv
  cases xs with
  |nil=>injection hv with hv;grind
  |cons _ _=>simp[iO]at hc
 |cons o os ih=>
  intro xs as hc hv
  cases xs with
  |nil=>simp[iO]at hc
  |cons x xs=>
   simp[iO,Bool.and_eq_true]at hc
   simp[cF]at hv
   cases hr:cF f xs with
   |none=>grind [NI]
   |some as'=>
    rw[hr]at hv
    simp[NI]at hv
    cases hi:dh (f x)with
    |false=>grind
    |true=>
     rw[hi]at hv
     injection hv with hv;subst hv
     obtain⟨h1,h2,h3⟩:=ih xs as' hc.2 hr
     refine⟨by grind,?_,fun j c u hcj hu=>?_⟩
     ·intro c hcm
      rcases List.mem_cons.1 hcm with rfl|hcm
      ·grind [kP,lH]
      grind
     ·cases j with
      |zero=>simp at hcj hu;subst hcj;subst hu;exact(hf o x hc.1 hi).view
      |succ j=>grind
theorem OM(h:Inv G n D E a w){op:Op}{ty:TypeId}{fi:Nat}{fs cs:List IX}(hc:au P op ty (.sd fi fs cs)=true){av:AV}(hv:gn (pv (.sd fi fs cs) (xg true E) E) av):
 ∃v,runs P a op ty w v/\NR G w E a av v:=by
 cases op<;>first|(simp[au]at hc;done)|skip
 rename_i g c d
 cases g<;>first|(simp[au]at hc;done)|skip
 rename_i g
 simp only[au,Bool.and_eq_true,beq_iff_eq]at hc
 obtain⟨⟨rfl,h1⟩,h2⟩:=hc
 have hf:∀(o:Operand)(x:IX),bI o x=true->dh (xg true E x)=true->VR w G.R (xg true E x) (a.eval o):=fun o x hx hi=>(BR.aV h hx).vr hi
 have hv':gn (s7 fi (cF (xg true E) fs) (cF (xg true E) cs)) av:=hv
 unfold s7 at hv'
 split at hv'
 ·rename_i x y hx hy
  have hav:=hv'.cQ
  subst hav
  obtain⟨a1,_,a3⟩:=rv h hf _ _ _ h1 hx
  obtain⟨b1,_,b3⟩:=rv h hf _ _ _ h2 hy
  refine⟨.func (.func fi) (c.map a.eval) (d.map a.eval),fun _ _ _ _=>by rfl,NR.mk rfl (.fn fi x y _ _ ?_ (fun j c' u hc' hu=>a3 j c' u hc' ?_) ?_ (fun j c' u hc' hu=>b3 j c' u hc' ?_)) rfl⟩
  ·grind
  ·grind
  ·grind
  grind
 ·exact hv'.no.elim
theorem ON(h:Inv G n D E a w){op:Op}{ty:TypeId}{mx:Bool}{xs:List IX}(hc:au P op ty (.nD mx xs)=true){av:AV}(hv:gn (pv (.nD mx xs) (xg true E) E) av):
 ∃v,runs P a op ty w v/\NR G w E a av v:=by
 have key:∀(ys:List Operand),iO ys xs=true->∃(k:IntKind)(m:Int)(y:Operand)(ys':List Operand),ys=y::ys'/\av=.int k m/\∃m0,a.eval y=.int k m0/\
  ((ys'.map a.eval).foldlM (if mx then Builtin.max2 else Builtin.min2) (.int k m0)).run P w=.ok (.int k m) w:=by
  intro ys hx
  have hv':gn (s8 mx (xs.map (xg true E))) av:=hv
  cases xs with
  |nil=>exact hv'.no.elim
  |cons x xs=>
   cases ys with
   |nil=>simp[iO]at hx
   |cons y ys=>
    simp only[iO,Bool.and_eq_true]at hx
    have hb:=BR.aV h hx.1
    simp only[List.map_cons]at hv'
    generalize xg true E x=xv at hb hv'
    cases xv<;>simp only[s8]at hv'<;>try(exact hv'.no.elim)
    rename_i k m0
    cases hr:I7 mx m0 (xs.map (xg true E))with
    |none=>rw[hr]at hv';exact hv'.no.elim
    |some r=>
     rw[hr]at hv'
     have hav:av=.int k r:=hv'.cQ
     exact⟨k,r,y,ys,rfl,hav,m0,VR.b8 hb,UX mx k h xs ys hx.2 m0 r hr⟩
 cases op<;>first|(cases mx<;>simp[au]at hc;done)|skip
 rename_i c
 cases mx with
 |true=>
  simp only[au]at hc
  split at hc<;>try(cases hc;done)
  rename_i ys ts hb
  have hce:=oI hb
  subst hce
  obtain⟨k,m,y,ys',rfl,rfl,m0,e0,hr⟩:=key ys hc
  refine⟨.int k m,fun _ _ _ _=>?_,NR.mk rfl (.int _ _) rfl⟩
  simp only[if_true]at hr
  simp[execOp,resolve,invoke,builtin,Builtin.max_,e0,hr]
 |false=>
  simp only[au]at hc
  split at hc<;>try(cases hc;done)
  rename_i ys ts hb
  have hce:=oI hb
  subst hce
  obtain⟨k,m,y,ys',rfl,rfl,m0,e0,hr⟩:=key ys hc
  refine⟨.int k m,fun _ _ _ _=>?_,NR.mk rfl (.int _ _) rfl⟩
  simp only[Bool.false_eq_true,if_false]at hr
  simp[execOp,resolve,invoke,builtin,Builtin.min_,e0,hr]
theorem ZW(h:Inv G n D E a w){op:Op}{ty:TypeId}{x:IX}(hc:au P op ty (.cap x)=true){av:AV}(hv:gn (pv (.cap x) (xg true E) E) av):
 ∃v,runs P a op ty w v/\NR G w E a av v:=by
 cases op<;>first|(simp[au]at hc;done)|skip
 simp only[au]at hc
 split at hc<;>try(cases hc)
 rename_i y ys t ts hb
 have hce:=oI hb
 subst hce
 simp[Bool.and_eq_true]at hc
 obtain⟨hy,hsl⟩:=hc
 have hv':gn (Kh (xg true E x)) av:=hv
 have hbx:=BR.aV h hy
 generalize xg true E x=xv at hbx hv'
 cases he:cK P t with
 |none=>grind
 |some e=>
 have ht:=cV he
 unfold Kh at hv'
 split at hv'
 ·rename_i b o l cap
  rw[hv'.cQ]
  refine⟨.int .i64 cap,fun _ _ _ _=>?_,NR.mk rfl (.int _ _) rfl⟩
  have hr:∀w',w'=w->(Builtin.cap_ (t::ts).toArray ty ((y::ys).toArray.map a.eval)).run P w'=.ok (.int .i64 cap) w':=fun w' _=>by rcases VR.cP hbx with e1|⟨_,rfl,e1⟩<;>simp[Builtin.cap_,run_underlying ht,goInt,e1]
  simp[execOp,resolve,invoke,builtin]at hr⊢;simp[hr]
 ·exact hv'.no.elim
theorem UF{t:TypeId}(h:UE P t=true):∃k,P.underlying t=some (.int k):=by grind [UE]
theorem VR.Q5{R:Nat->Nat}{v:Value}(h:VR w R .nX v):v=.nilFunc:=by cases h;rfl
theorem ZZ(h:Inv G n D E a w){op:Op}{ty:TypeId}{ne:Bool}{x:IX}(hc:au P op ty (.T9 ne x)=true){av:AV}(hv:gn (pv (.T9 ne x) (xg true E) E) av):
 ∃v,runs P a op ty w v/\NR G w E a av v:=by
 cases op<;>first|(simp[au]at hc;done)|skip
 rename_i b t u v yt
 simp only[au,Bool.and_eq_true,decide_eq_true_eq]at hc
 obtain⟨⟨⟨rfl,hx⟩,hy⟩,ht⟩:=hc
 have e2:a.eval v=.nilFunc:=by
  split at hy
  ·rfl
  ·cases hy
 split at ht<;>try(cases ht;done)
 rename_i q1 q2 q3 htu
 have hbx:=BR.aV h hx
 have hv':gn (Ik ne (xg true E x)) av:=hv
 generalize xg true E x=xv at hbx hv'
 have key:∀(fv:Value)(r:Bool),a.eval u=fv->(∀d:Nat,(Op.equalIn (d+1) t fv .nilFunc).run P w=.ok r w)->runs P a (.binOp (if ne=true then .neq else .eql) t u v yt) ty w (.bool (r !=ne)):=by
  intro fv r e1 hr _ _ _ _
  have hq:(Op.equal t fv .nilFunc).run P w=.ok r w:=hr 9999
  cases fv<;>cases ne<;>simp[execOp,e1,e2,eqGuard,binOp,hq]
 unfold Ik at hv'
 split at hv'
 ·rename_i f first eF
  rw[hv'.cQ]
  obtain⟨vf,vc,e1,_⟩:=VR.Gj hbx
  have:=key _ false e1 fun d=>by simp[Op.equalIn,run_underlying htu]
  exact⟨_,this,NR.mk rfl (by cases ne<;>exact .bool _) rfl⟩
 ·rw[hv'.cQ]
  have e1:=VR.Q5 hbx
  have:=key _ true e1 fun d=>by simp[Op.equalIn,run_underlying htu]
  exact⟨_,this,NR.mk rfl (by cases ne<;>exact .bool _) rfl⟩
 ·exact hv'.no.elim
theorem VR.Q6{R:Nat->Nat}{v:Value}(h:VR w R .lx v):v=.nilIface:=by cases h;rfl
theorem Z0(h:Inv G n D E a w){op:Op}{ty:TypeId}{ne:Bool}{x:IX}(hc:au P op ty (.Ua ne x)=true){av:AV}(hv:gn (pv (.Ua ne x) (xg true E) E) av):
 ∃v,runs P a op ty w v/\NR G w E a av v:=by
 cases op<;>first|(simp[au]at hc;done)|skip
 rename_i b t u v yt
 simp only[au,Bool.and_eq_true,decide_eq_true_eq]at hc
 obtain⟨⟨⟨rfl,hx⟩,hy⟩,ht⟩:=hc
 have hvc:v=.const .nilIface:=by
  split at hy
  ·rfl
  ·cases hy
 subst hvc
 have e2:a.eval (.const .nilIface)=.nilIface:=rfl
 split at ht<;>try(cases ht;done)
 rename_i q1 htu
 have hbx:=BR.aV h hx
 have hv':gn (Il ne (xg true E x)) av:=hv
 generalize xg true E x=xv at hbx hv'
 have key:∀(fv:Value)(r:Bool),a.eval u=fv->(∀d:Nat,(Op.equalIn (d+1) t fv .nilIface).run P w=.ok r w)->runs P a (.binOp (if ne=true then .neq else .eql) t u (.const .nilIface) yt) ty w (.bool (r !=ne)):=by
  intro fv r e1 hr _ _ _ _
  have hq:(Op.equal t fv .nilIface).run P w=.ok r w:=hr 9999
  cases fv<;>cases ne<;>simp[execOp,e1,e2,eqGuard,binOp,hq]
 unfold Il at hv'
 split at hv'
 ·rw[hv'.cQ]
  have e1:=VR.Q6 hbx
  have:=key _ true e1 fun d=>by simp[Op.equalIn,run_underlying htu]
  exact⟨_,this,NR.mk rfl (by cases ne<;>exact .bool _) rfl⟩
 ·exact hv'.no.elim
theorem xw(h:Inv G n D E a w){op:Op}{ty:TypeId}{o:qN}(hc:au P op ty o=true){av:AV}(hv:gn (pv o (xg true E) E) av):
 ∃v,runs P a op ty w v/\NR G w E a av v:=by
 cases o with
 |oj tr x=>cases tr with
  |false=>exact Z8 h hc hv
  |true=>exact(gn.no hv).elim
 |pick c x y=>exact Vj h hc hv
 |bin b x y=>exact ZV h hc hv
 |WQ ne x y=>exact ZY h hc hv
 |Tx ne x y=>exact Z3 h hc hv
 |Ty ne x y=>exact Z5 h hc hv
 |un u x=>exact ad7 h hc hv
 |me k x=>exact OK h hc hv
 |load m mu x=>exact GM h hc hv
 |kY x i=>exact OO h hc hv
 |nilCheck x=>exact Jp h hc hv
 |fieldAddr off x=>exact GK h hc hv
 |indexAddr sz x i=>exact GL h hc hv
 |iS sz len x i=>exact DB h hc hv
 |slice sz x lo hi mx=>exact Sd h hc hv
 |oS x lo hi=>exact OP h hc hv
 |len cls x=>exact Z6 h hc hv
 |nD mx xs=>exact ON h hc hv
 |extract x k=>exact Lv h hc hv
 |build z ps=>exact R9 h hc hv
 |sd f a b=>exact OM h hc hv
 |jU x=>exact OL h hc hv
 |ki z m x=>exact Sc h hc hv
 |nA k x=>exact Sb h hc hv
 |cap x=>exact ZW h hc hv
 |T9 ne x=>exact ZZ h hc hv
 |Ua ne x=>exact Z0 h hc hv
 |_=>exact(gn.no hv).elim
end
def Gh.nS(G:Gh)(b:Nat)(o:c5)(r:Nat):Gh:=⟨fun i=>if i=b then r else G.R i,fun i=>if i=b then o else G.O i⟩
@[simp]theorem Gh.Te(G:Gh)(b:Nat)(o:c5)(r i:Nat):(G.nS b o r).O i=if i=b then o else G.O i:=rfl
@[simp]theorem Gh.X3(G:Gh)(b:Nat)(o:c5)(r i:Nat):(G.nS b o r).R i=if i=b then r else G.R i:=rfl
def Gh.gA(G:Gh)(o o':c5):Gh:=⟨G.R,fun i=>if G.O i=o then o' else G.O i⟩
@[simp]theorem Gh.afV(G:Gh)(o o':c5)(i:Nat):(G.gA o o').O i=if G.O i=o then o' else G.O i:=rfl
section
variable{P:Program}{G G':Gh}{n:Nat}{D:List Deferred}{E:St}{a:Act}{w w':World}
theorem a8.xf{s:ae}(h:a8 G w s)(hv:∀a v,VR w G.R a v->VR w' G'.R a v)
 (hsh:∀b,G.O b=.sh->G'.O b=.sh/\G'.R b=G.R b/\w'.heap[b]? =w.heap[b]?)
 (dT:∀b c j,G.O b=.sh->G.O c=.cell b j->G'.O c=.cell b j/\G'.R c=G.R c/\w'.heap[c]? =w.heap[c]?):a8 G' w' s:=by
 intro b o hb
 obtain⟨h1,h2,h3⟩:=h b o hb
 obtain⟨k1,k2,k3⟩:=hsh b h1
 refine⟨k1,k2.trans h2,?_⟩
 cases o with
 |cells cs=>
  obtain⟨c,t,h4,h5,h6⟩:=h3
  exact⟨c,t,k3.trans h4,h5.mono hv (fun b' j hb'=>dT b b' j h1 hb'),h6⟩
 |map es=>
  obtain⟨jm,clock,h4,h5,h6⟩:=h3
  exact⟨jm,clock,k3.trans h4,h5,fun j x y hx hy=>⟨hv _ _ (h6 j x y hx hy).1,hv _ _ (h6 j x y hx hy).2⟩⟩
theorem a8.mono{s:ae}(h:a8 G w s)(hg:cq G w)(hp:aG G w G' w')
 (hsh:∀b,G.O b=.sh->G'.O b=.sh/\G'.R b=G.R b/\w'.heap[b]? =w.heap[b]?)
 (dT:∀b c j,G.O b=.sh->G.O c=.cell b j->G'.O c=.cell b j/\G'.R c=G.R c/\w'.heap[c]? =w.heap[c]?):a8 G' w' s:=
 h.xf (fun _ _ hv=>hp.vr hg hv) hsh dT
theorem cq.lt(h:cq G w){b:Nat}(ho:G.O b≠.none):b<w.heap.size:=by
 rcases Nat.lt_or_ge b w.heap.size with hb|hb
 ·exact hb
 ·exact absurd (h.jJ b hb) ho
theorem fq(hg:cq G w)(ob:Obj)(o:c5)(r:Nat):
 cq (G.nS w.heap.size o r) (w.alloc ob)/\aG G w (G.nS w.heap.size o r) (w.alloc ob)/\
 (∀b,G.O b≠.none->(G.nS w.heap.size o r).O b=G.O b/\(G.nS w.heap.size o r).R b=G.R b/\(w.alloc ob).heap[b]? =w.heap[b]?):=by
 have hsz:(w.alloc ob).heap.size=w.heap.size+1:=Array.size_push ..
 refine⟨⟨fun b hb=>?_,fun b hb=>?_⟩,⟨rfl,rfl,rfl,Nat.le_refl _,by simp,fun b hb=>?_,fun b k hb _=>?_,fun b hb _=>heap_alloc_old w ob b hb,fun b hb ho=>?_,fun b hb ho=>?_⟩,fun b ho=>?_⟩
 ·have:b≠w.heap.size:=by omega
  simp[this,hg.jJ b (by omega)]
 ·have:b≠w.heap.size:=by omega
  simp[this,hg.kB b (by omega)]
 ·have:b≠w.heap.size:=by omega
  simp[this]
 ·grind [World.cell?_of_block,heap_alloc_old]
 ·have:b≠w.heap.size:=by omega
  simp_all
 ·have:b≠w.heap.size:=by omega
  simp_all
 ·have hb:=hg.lt ho
  have:b≠w.heap.size:=by omega
  exact⟨by simp_all,by simp_all,heap_alloc_old w ob b hb⟩
theorem j9{s:ae}(h:a8 G w s)(hg:cq G w)(ob:Obj)(o:c5)(r:Nat):a8 (G.nS w.heap.size o r) (w.alloc ob) s:=by
 obtain⟨_,h2,h3⟩:=fq hg ob o r
 refine h.mono hg h2 (fun b hb=>?_) (fun b c j _ hc=>?_)
 ·grind
 grind
theorem Inv.alloc(h:Inv G n D E a w)(ob:Obj)(o:c5)(r:Nat){s':ae}(d:Option Nat)(hd:bq n d=true)(av:AV)(v:Value)(lp':List (Nat×Nat))
 (dZ:a8 (G.nS w.heap.size o r) (w.alloc ob) s')
 (hlp:∀x∈E.lp,x∈lp')(ac3:∀i t,d=some i->bG av t->(i,t)∈lp')
 (WU:∀i t,d=some i->(∃cs,av=.loc cs)->(t,i)∉E.lp)
 (Uu:∀i,d=some i->du (G.nS w.heap.size o r) (w.alloc ob) ((E.put d av).e) (a.put d v).tmps i av v):
 Inv (G.nS w.heap.size o r) n D {(E.put d av)with s:=s',lp:=lp'} (a.put d v) (w.alloc ob)/\aG G w (G.nS w.heap.size o r) (w.alloc ob):=by
 obtain⟨h1,h2,h3⟩:=fq h.ba ob o r
 refine⟨h.put d (fun i hi=>by grind [bq]) av v h1 h2 dZ hlp ac3 WU (fun i b _ hb=>h3 b ?_) (fun i b c j _ hb hc=>?_) Uu,h2⟩
 ·grind
 grind
theorem a8.get_none(h:a8 G w E.s)(hg:cq G w):E.s w.heap.size=none:=by
 cases hs:E.s w.heap.size with
 |none=>rfl
 |some o=>
  have:=(h _ _ hs).1
  rw[hg.jJ _ (Nat.le_refl _)]at this
  cases this
theorem I3{lp:List (Nat×Nat)}{d:Option Nat}(h:lq lp d=true):∀i t,d=some i->(t,i)∉lp:=by
 intro i t hd hm
 subst hd
 simp only[lq,List.all_eq_true]at h
 have:=h _ hm
 simp at this
theorem aY{o:Oper}{v:Value}{next:Act->World->Prop}{Q:Exit->Act->World->Prop}(hr:(execOp a.eval o).run P w=.ok (.value v) w')(hn:next (a.put o.dst v) w'):o.wp P a w next Q:=by
 unfold Oper.wp
 rw[hr]
 exact hn
theorem xG{o:Oper}{next:Act->World->Prop}{Q:Exit->Act->World->Prop}(hr:(execOp a.eval o).run P w=.ok .skip w')(hn:next (a.put o.dst undef) w'):o.wp P a w next Q:=by
 unfold Oper.wp
 rw[hr]
 exact hn
theorem Inv.Js(h:Inv G n D E a w)(i:Nat)(hi:i<n)(av:AV)(hnl:∀t,¬bG av t)(ac6:∀cs,av≠.loc cs)
 (hv:∀v,a.tmps[i]? =some v->du G w ((E.put (some i) av).e) a.tmps i av v):Inv G n D (E.put (some i) av) a w:=by
 have hlt:i<a.tmps.size:=by rw[h.size];exact hi
 have ha:a.put (some i) a.tmps[i]=a:=by
  have:a.tmps.setIfInBounds i a.tmps[i]=a.tmps:=by grind
  simp[Act.put,this]
 have:=h.put (some i) (fun j hj=>by grind) av a.tmps[i] h.ba (aG.refl G w) h.store (fun x hx=>hx) (fun j t _ ht=>(hnl t ht).elim)
  (fun j t _⟨cs,hcs⟩=>(ac6 cs hcs).elim) (fun _ b _ _=>⟨rfl,rfl,rfl⟩) (fun _ b c j _ _ hc=>⟨hc,rfl,rfl⟩)
  (fun j hj=>by grind)
 rw[ha]at this
 exact this
theorem eS{av:AV}(h:dh av=true)(t:Nat):¬bG av t:=by cases av<;>simp_all [dh,bG]
theorem mL{av:AV}(h:dh av=true)(cs:List AV):av≠.loc cs:=by grind [dh]
theorem Inv.BA(h:Inv G n D E a w){i:Nat}(hi:look E.e i≠.undef):i<n:=by
 rcases Nat.lt_or_ge i n with hlt|hge
 ·exact hlt
 ·exact absurd (h.CL i hge) hi
theorem HN{o:Operand}{i:Nat}(h:bI o (.t i)=true):o=.tmp i:=by
 cases o with
 |tmp t=>grind [bI]
 |const v=>grind [bI]
 |_=>simp[bI]at h
theorem PV{o:Operand}{c:AV}(h:bI o (.c c)=true)(G:Gh)(w:World)(T:c5):dn G w T c (a.eval o):=by
 cases o with
 |tmp t=>simp[bI]at h
 |global g=>simp[bI]at h
 |func f=>cases c<;>first|trivial|(simp at h)
 |const v=>
  show dn G w T c v
  have hc:(∃cs,c=.agg cs)\/cR v c=true:=by
   cases v<;>first|exact .inr h|skip
   cases c<;>first|exact .inl ⟨_,rfl⟩|exact .inr h
  rcases hc with⟨cs,rfl⟩|hc
  ·trivial
  grind [AN]
theorem Inv.drain(h:Inv G n D E a w){x:IX}{o:Operand}(hx:bI o x=true)(hi:dh (E.x x)=true)(T:c5)(hT1:T≠.sh)(hT2:∀i,T≠.loc i):
 ∃G',Inv G' n D (E.drain x) a w/\aG G w G' w/\VR w G'.R (E.x x) (a.eval o)/\dn G' w T (E.x x) (a.eval o)/\G'.R=G.R/\(∀b,G'.O b=.sh↔G.O b=.sh)/\(∀b i,G'.O b=.loc i↔G.O b=.loc i)/\
  (∀b b' j,G.O b=.cell b' j->G'.O b=.cell b' j):=by
 have hvr:VR w G.R (E.x x) (a.eval o):=by
  have:=XR.aV h hx
  generalize E.x x=av at hi this
  cases av<;>first|exact this|grind [dh]
 cases x with
 |c c=>
  refine⟨G,h,aG.refl G w,hvr,?_,rfl,fun _=>Iff.rfl,fun _ _=>Iff.rfl,fun _ _ _ hc=>hc⟩
  exact PV hx G w T
 |t i=>
  have hin:i<n:=h.BA (fun e=>by rw[show E.x (.t i)=look E.e i from rfl,e]at hi;cases hi)
  have ho:o=.tmp i:=HN hx
  subst ho
  have hlt:i<a.tmps.size:=by rw[h.size];exact hin
  have acV:=h.cu i _ (fQ hlt)
  have hi':dh (look E.e i)=true:=hi
  rw[du.qB hi']at acV
  have hne:∀b,G.O b≠.slot i 0->(G.gA (.slot i 0) T).O b=G.O b:=fun b hb=>by simp[hb]
  have bV:aG G w (G.gA (.slot i 0) T) w:=⟨rfl,rfl,rfl,Nat.le_refl _,Nat.le_refl _,fun _ _=>Nat.le_refl _,fun _ _ _ _=>rfl,fun _ _ _=>rfl,
   fun b _ hb=>⟨by grind,rfl⟩,fun b _ hb=>⟨by grind,rfl⟩⟩
  refine⟨G.gA (.slot i 0) T,?_,bV,hvr,?_,rfl,fun b=>?_,fun b k=>?_,fun b b' j hb=>by grind⟩
  ·have h1:=h.Js i hin (view (look E.e i)) (eS (kP hi')) (mL (kP hi')) (fun v hv=>by
    grind [fQ,du.xe])
   refine⟨⟨fun b hb=>by rw[hne b (by rw[h.ba.jJ b hb];simp),h.ba.jJ b hb],h.ba.kB⟩,?_,h1.size,fun k v hk=>?_,h1.CL,h1.JY,h1.pn⟩
   ·exact h.store.mono h.ba bV (fun b hb=>⟨by grind,rfl,rfl⟩) (fun b c j _ hc=>⟨by grind,rfl,rfl⟩)
   ·have h2:=h1.cu k v hk
    by_cases hki:k=i
    ·subst hki
     have e1:look (E.put (some k) (view (look E.e k))).e k=view (look E.e k):=by simp[St.put,bc]
     show du _ w _ _ k (look (E.put (some k) (view (look E.e k))).e k) v
     rw[e1]at h2⊢
     rw[du.qB (kP hi')]at h2⊢
     exact⟨h2.1,dn.view ..⟩
    ·refine du.frame (G:=G) (G':=G.gA (.slot i 0) T) (w:=w) (fun _ _ hv=>hv) (fun b hb=>⟨hne b ?_,rfl,rfl⟩) (fun b c j _ hc=>⟨by grind,rfl,rfl⟩) _ _ (fun d _ cs hcs=>⟨cs,hcs,rfl⟩) h2
     grind
  ·have:=acV.2
   show dn _ w T (look E.e i) _
   unfold dn at this⊢
   split
   ·rename_i sz m cs he
    rw[he]at this
    intro base m' cap hv hc
    obtain⟨b,off,c,e,fz,q1,q2,q3⟩:=this base m' cap hv hc
    exact⟨b,off,c,e,fz,q1,by simp[q2],q3⟩
   ·rename_i e m cs he
    rw[he]at this
    intro base m' cap hv hc
    obtain⟨b,off,c,fz,q1,q2,q3⟩:=this base m' cap hv hc
    exact⟨b,off,c,fz,q1,by simp[q2],q3⟩
   ·trivial
  ·by_cases hb:G.O b=.slot i 0
   ·simp[hb,hT1]
   grind
  ·by_cases hb:G.O b=.slot i 0
   ·simp[hb,hT2]
   grind
def nU(P:Program)(G:Gh)(n:Nat)(D:List Deferred)(w:World)(a:Act)(op:Op)(ty:TypeId)(d:Option Nat)(K:St->Prop):Prop:=
 ∀(pos:String)(after:Array Edge)(g:Option (Nat×Bool))(next:Act->World->Prop)(Q:Exit->Act->World->Prop),
  (∀G' E' a' w',Inv G' n D E' a' w'->aG G w G' w'->K E'->next a' w')->(⟨d,op,ty,pos,after,g⟩:Oper).wp P a w next Q
theorem T7(h:Inv G n D E a w){op:Op}{ty:TypeId}{tr:Bool}{x:IX}{d:Option Nat}{K:St->Prop}(hd:bq n d=true)(hc:au P op ty (.oj tr x)=true)(hw:iP P (.oj tr x) d E K):nU P G n D w a op ty d K:=by
 obtain⟨hi,hk⟩:=hw
 have key:∀y,bI y x=true->∃G',Inv G' n D ((E.drain x).put d (E.x x)) (a.put d (a.eval y)) w/\aG G w G' w:=by
  intro y hy
  obtain⟨G',h1,h2,h3,h4,_⟩:=h.drain hy hi (match d with|some d=>.slot d 0|none=>.frame) (by grind) (by grind)
  refine⟨G',?_,h2⟩
  have:=h1.put d (fun i hi=>by grind [bq]) (E.x x) (a.eval y) h1.ba (aG.refl G' w) h1.store (fun _ hx=>hx) (fun i t _ ht=>(eS hi t ht).elim) (fun i t _⟨cs,hcs⟩=>(mL hi cs hcs).elim)
   (fun _ _ _ _=>⟨rfl,rfl,rfl⟩) (fun _ _ _ _ _ _ hcc=>⟨hcc,rfl,rfl⟩) (fun i hdi=>by grind [du.qB])
  cases d<;>exact this
 intro pos after g next Q hn
 cases op<;>first|(simp[au]at hc)|skip
 ·rename_i y
  obtain⟨G',h1,h2⟩:=key y hc
  exact aY rfl (hn G' _ _ _ h1 h2 hk)
 ·rename_i y
  obtain⟨G',h1,h2⟩:=key y hc
  exact aY rfl (hn G' _ _ _ h1 h2 hk)
theorem Ft{G:Gh}{w:World}{o:Nat->c5}{z:List AV}{c:Array Value}(h:Row w G.R z c)(h2:∀(j:Nat)(x:AV)(u:Value),z[j]? =some x->c[j]? =some u->cR u x=true):dt G w o z c:=⟨h.1,fun j x y hx hy=>⟨h.2.1 j x y hx hy,AN (h2 j x y hx hy) G w _⟩⟩
theorem mc{G:Gh}{w:World}{o:Nat->c5}{z:List AV}{c:Array Value}(h:Row w G.R z c):dt G w o (views z) c:=
 ⟨h.views.1,fun j x y hx hy=>⟨h.views.2.1 j x y hx hy,by grind [eV,dn.view]⟩⟩
theorem Row.mono{R R':Nat->Nat}{z:List AV}{c:Array Value}(h:Row w R z c)(hv:∀a v,VR w R a v->VR w' R' a v):Row w' R' z c:=⟨h.1,fun j x y hx hy=>hv _ _ (h.2.1 j x y hx hy),h.2.2⟩
theorem Inv.adP(h:Inv G n D E a w){d:Option Nat}(hd:bq n d=true)(hf:lq E.lp d=true){cs:List AV}{c:Array Value}{t:TypeId}
 (hcs:∀(G':Gh)(w':World)(o:Nat->c5),aG G w G' w'->dt G' w' o cs c)(hfl:Fl cs):
 ∃G',Inv G' n D (E.put d (.loc cs)) (a.put d (.pointer (some ⟨w.heap.size,0,none⟩))) (w.alloc (.cells c t))/\aG G w G' (w.alloc (.cells c t)):=by
 let o:c5:=match d with|some d=>.loc d|none=>.none
 have hp:=(fq h.ba (.cells c t) o 0).2.1
 obtain⟨h1,h2⟩:=h.alloc (.cells c t) o 0 d hd (.loc cs) (.pointer (some ⟨w.heap.size,0,none⟩)) E.lp (j9 h.store h.ba _ o 0) (fun _ hx=>hx) (fun i t' _ ht=>ht.elim) (fun i t' hi _=>I3 hf i t' hi)
  (fun i hi=>by
    subst hi
    exact⟨w.heap.size,c,t,rfl,by simp[o],by simp,heap_alloc_new w _,hcs _ _ _ hp,hfl⟩)
 exact⟨_,by cases d<;>exact h1,h2⟩
theorem Inv.Xi(h:Inv G n D E a w){d:Option Nat}(hd:bq n d=true){cs:List AV}{c:Array Value}{t:TypeId}{av:AV}{v:Value}(hav:av=.ref w.heap.size 0/\v=.pointer (some ⟨w.heap.size,0,none⟩)\/∃l m,av=.arr w.heap.size 0 l m/\v=.slice (some ⟨w.heap.size,0,none⟩) l m)
 (hcs:∀(G':Gh)(w':World)(o:Nat->c5),aG G w G' w'->dt G' w' o cs c)(hfl:DT t cs):
 ∃G',Inv G' n D ({E with s:=E.s.set w.heap.size (.cells cs)}.put d av) (a.put d v) (w.alloc (.cells c t))/\aG G w G' (w.alloc (.cells c t)):=by
 have hp:=(fq h.ba (.cells c t) .sh 0).2.1
 have hs:a8 (G.nS w.heap.size .sh 0) (w.alloc (.cells c t)) (E.s.set w.heap.size (.cells cs)):=by
  intro b o hb
  unfold ae.set at hb
  by_cases he:b=w.heap.size
  ·rw[if_pos he]at hb
   injection hb with hb
   subst hb;subst he
   exact⟨by simp,by simp,c,t,heap_alloc_new w _,hcs _ _ _ hp,hfl⟩
  ·rw[if_neg he]at hb
   exact j9 h.store h.ba _ .sh 0 b o hb
 have hv:dh av=true/\VR (w.alloc (.cells c t)) (G.nS w.heap.size .sh 0).R av v/\∀sz m cs,av≠.sl true sz m cs:=by
  rcases hav with⟨rfl,rfl⟩|⟨l,m,rfl,rfl⟩
  ·exact⟨rfl,.ref _ _,by simp⟩
  ·exact⟨rfl,.arr _ _ _ _,by simp⟩
 obtain⟨h1,h2⟩:=h.alloc (.cells c t) .sh 0 d hd av v E.lp hs (fun _ hx=>hx) (fun i t' _ ht=>(eS hv.1 t' ht).elim) (fun i t' _⟨cs',x8⟩=>(mL hv.1 cs' x8).elim)
  (fun i hi=>by
    rw[du.qB hv.1]
    refine⟨hv.2.1,?_⟩
    rcases hav with⟨e,_⟩|⟨l,m,e,_⟩<;>rw[e]<;>trivial)
 refine⟨_,?_,h2⟩
 cases d<;>exact h1
theorem Inv.Lh(h:Inv G n D E a w){d:Option Nat}(hd:bq n d=true){cs:List AV}{c:Array Value}{t:TypeId}{av:AV}{v:Value}(hav:av=.ref w.heap.size 0/\v=.pointer (some ⟨w.heap.size,0,none⟩)\/∃l m,av=.arr w.heap.size 0 l m/\v=.slice (some ⟨w.heap.size,0,none⟩) l m)
 (hcs:∀(G':Gh)(w':World)(o:Nat->c5),aG G w G' w'->dt G' w' o cs c)(hfl:Fl cs):
 ∃G',Inv G' n D ({E with s:=E.s.set w.heap.size (.cells cs)}.put d av) (a.put d v) (w.alloc (.cells c t))/\aG G w G' (w.alloc (.cells c t)):=h.Xi hd hav hcs (hfl.tag t)
theorem D2(h:Inv G n D E a w){op:Op}{ty:TypeId}{z:List AV}{d:Option Nat}{K:St->Prop}(hd:bq n d=true):
 (au P op ty (.jS z)=true->iP P (.jS z) d E K->nU P G n D w a op ty d K)/\(au P op ty (.mb z)=true->iP P (.mb z) d E K->nU P G n D w a op ty d K):=by
 have run:∀t,nQ P t z=true->∃c:Array Value,(∀(dst:Option Tmp)(pos:String)(after:Array Edge) g,(execOp a.eval ⟨dst,.alloc t,ty,pos,after,g⟩).run P w=.ok (.value (.pointer (some ⟨w.heap.size,0,none⟩))) (w.alloc (.cells c t)))/\
  (∀(G':Gh)(w':World)(o:Nat->c5),dt G' w' o z c)/\Fl z:=by
  intro t hz
  obtain⟨i,v,h1,h2,_,h4,h5⟩:=tB hz
  refine⟨v.cells,fun _ _ _ _=>?_,fun G' w' o=>Ft (h4 w' G'.R) h5,(h4 w G.R).2.2⟩
  simp[execOp,Instr.alloc,zeroValue,typeInfo,h1,h2,newVar,newRow]
 constructor
 ·intro hc hw pos after g next Q hn
  cases op<;>first|(simp[au]at hc;done)|skip
  rename_i t
  obtain⟨c,hr,hcs,hfl⟩:=run t hc
  obtain⟨G',h1,h2⟩:=h.adP hd hw.1 (c:=c) (t:=t) (fun G' w' o _=>hcs G' w' o) hfl
  exact aY (hr d pos after g) (hn G' _ _ _ h1 h2 hw.2)
 ·intro hc hw pos after g next Q hn
  cases op<;>first|(simp[au]at hc;done)|skip
  rename_i t
  obtain⟨c,hr,hcs,hfl⟩:=run t hc
  obtain⟨G',h1,h2⟩:=h.Lh hd (c:=c) (t:=t) (.inl ⟨rfl,rfl⟩) (fun G' w' o _=>hcs G' w' o) hfl
  exact aY (hr d pos after g) (hn G' _ _ _ h1 h2 (hw w.heap.size (h.store.get_none h.ba)))
theorem Mw(h:Inv G n D E a w){op:Op}{ty:TypeId}{m:Nat}{x:IX}{d:Option Nat}{K:St->Prop}(hd:bq n d=true):
 (au P op ty (.HF m x)=true->iP P (.HF m x) d E K->nU P G n D w a op ty d K)/\(au P op ty (.zy m x)=true->iP P (.zy m x) d E K->nU P G n D w a op ty d K):=by
 have run:∀t y,∀(dst:Option Tmp)(pos:String)(after:Array Edge)(g:Option (Nat×Bool)),(execOp a.eval ⟨dst,.box t y,ty,pos,after,g⟩).run P w=.ok (.value (.pointer (some ⟨w.heap.size,0,none⟩))) (w.alloc (.cells (a.eval y).cells t)):=by
  intro t y _ _ _ _
  simp[execOp,Instr.box,newVar,newRow]
 have cells:∀y,bI y x=true->dh (E.x x)=true->(∀(G':Gh)(w':World)(o:Nat->c5),aG G w G' w'->dt G' w' o (views (cellsOf (E.x x))) (a.eval y).cells)/\Fl (views (cellsOf (E.x x))):=by
  intro y hy hi
  have hvr:VR w G.R (E.x x) (a.eval y):=by
   have:=XR.aV h hy
   generalize E.x x=av at hi this
   cases av<;>first|exact this|grind [dh]
  exact⟨fun G' w' o hp=>mc ((gT hi hvr).mono fun _ _ hv=>hp.vr h.ba hv),(gT hi hvr).2.2.views⟩
 have PO:∀y,bI y x=true->dh (xg true E x)=true->(∀(G':Gh)(w':World)(o:Nat->c5),aG G w G' w'->dt G' w' o (views (cellsOf (xg true E x))) (a.eval y).cells)/\Fl (views (cellsOf (xg true E x))):=by
  intro y hy hi
  have hvr:VR w G.R (xg true E x) (a.eval y):=(BR.aV h hy).vr hi
  exact⟨fun G' w' o hp=>mc ((gT hi hvr).mono fun _ _ hv=>hp.vr h.ba hv),(gT hi hvr).2.2.views⟩
 constructor
 ·intro hc hw pos after g next Q hn
  cases op<;>first|(simp[au]at hc;done)|skip
  rename_i t y
  simp only[au,Bool.and_eq_true]at hc
  obtain⟨hf,hi,_,hk⟩:=hw
  obtain⟨G',h1,h2⟩:=h.adP hd hf (t:=t) (cells y hc.2 hi).1 (cells y hc.2 hi).2
  grind [aY]
 ·intro hc hw pos after g next Q hn
  cases op<;>first|(simp[au]at hc;done)|skip
  rename_i t y
  simp only[au,Bool.and_eq_true]at hc
  obtain⟨hi,_,hk⟩:=hw
  obtain⟨G',h1,h2⟩:=h.Lh hd (t:=t) (.inl ⟨rfl,rfl⟩) (PO y hc.2 hi).1 (PO y hc.2 hi).2
  exact aY (run t y d pos after g) (hn G' _ _ _ h1 h2 (hk w.heap.size (h.store.get_none h.ba)))
end
section
variable{P:Program}{G G':Gh}{n:Nat}{D:List Deferred}{E:St}{a:Act}{w w':World}
theorem iE{R:Nat->Nat}{c:AV}{v:Value}(hf:pw c=true)(h:VR w R c v):v.oneCell'=true:=by cases h<;>first|rfl|assumption|(simp[pw,dh]at hf;done)|(rename_i h _;cases h<;>rfl)
theorem pO{t:Nat}{R:Nat->Nat}{c:AV}{v:Value}(hf:pw c=true\/c=.ng t)(h:VR w R c v):v.oneCell'=true:=by
 rcases hf with hf|rfl
 ·exact iE hf h
 ·cases h;rfl
theorem di(g o:Nat)(t:TypeId)(fz:Nat×Nat):∀(vs:List Value)(i:Nat)(cur:Array Value)(w:World),w.heap[g]? =some (.cells cur t fz)->(∀k,k<cur.size->¬(fz.1<=k/\k<fz.2))->o+i+vs.length<=cur.size->(∀v∈vs,v.oneCell'=true)->
 (storeCells ⟨g,o,none⟩ vs i).run P w=.ok () (w.setRow g (cur.toList.take (o+i)++vs++cur.toList.drop (o+i+vs.length)).toArray)
 |[],i,cur,w,hg,_,_,_=>by
  simp[List.append_nil,List.length_nil,Nat.add_zero,List.take_append_drop]
  rw[setRow_self w g cur t fz hg]
  rfl
 |v::rest,i,cur,w,hg,hfz,hl,h1=>by
  have hi:o+i<cur.size:=by grind
  have dT:w.cell? ⟨g,o+i,none⟩=some cur[o+i]:=by simp[World.cell?,hg]
  have agI:w.frozen? ⟨g,o+i,none⟩=false:=by
   have:=hfz (o+i) hi
   obtain⟨lo,hh⟩:=fz
   simp only[World.frozen?,hg]
   by_cases h1:lo<=o+i
   ·have:¬(o+i<hh):=fun h2=>this ⟨h1,h2⟩
    simp[this]
   ·simp[h1]
  have dZ:(store ((⟨g,o,none⟩:Addr).add i) v).run P w=.ok () (w.setRow g (cur.setIfInBounds (o+i) v)):=by
   rw[add_eq,run_store P w _ v _ (h1 v (by simp)),dT]
   simp[agI,setCell_eq_setRow w g (o+i) cur t fz v hg]
  have ih:=di g o t fz rest (i+1) (cur.setIfInBounds (o+i) v) (w.setRow g (cur.setIfInBounds (o+i) v)) (setRow_heap w g cur _ t _ hg) (by grind) (by grind) (fun x hx=>h1 x (by grind))
  simp only[storeCells,Sem.run_bind,dZ,Result.andThen_ok,ih,setRow_setRow]
  congr 3
  have e:=list_seg_step cur.toList (o+i) v rest (by grind)
  simpa[Array.toList_setIfInBounds,Nat.add_assoc]using e
def laid(cur:Array Value)(o:Nat)(vs:List Value):Array Value:=(cur.toList.take o++vs++cur.toList.drop (o+vs.length)).toArray
theorem pH(cur:Array Value)(o:Nat)(vs:List Value)(h:o+vs.length<=cur.size):(laid cur o vs).size=cur.size:=by simp[laid];omega
theorem kS(cur:Array Value)(o:Nat)(vs:List Value)(h:o+vs.length<=cur.size)(k:Nat):(laid cur o vs)[k]? =if o<=k/\k<o+vs.length then vs[k -o]? else cur[k]? :=by
 unfold laid
 grind
theorem sq{g:Nat}{cur:Array Value}{t:TypeId}{fz:Nat×Nat}(hg:w.heap[g]? =some (.cells cur t fz))(new:Array Value)(b k:Nat):(w.setRow g new).cell? ⟨b,k,none⟩=if b=g then new[k]? else w.cell? ⟨b,k,none⟩:=by
 by_cases h:b=g
 ·subst h
  rw[if_pos rfl,cell_of_row _ (setRow_heap w b cur new t fz hg)]
 ·grind [World.cell?_of_block,setRow_other]
theorem aG.write{g:Nat}{cur new:Array Value}{t:TypeId}{fz:Nat×Nat}(hg:w.heap[g]? =some (.cells cur t fz))(ho:G.O g≠.frame/\G.O g≠.none)(dZ:∀k,k<G.R g->new[k]? =cur[k]?)
 (hR:G.R g<=G'.R g)(hO:∀b,b≠g->G'.O b=G.O b/\G'.R b=G.R b):aG G w G' (w.setRow g new)where
 os:=rfl
 tape:=rfl
 output:=rfl
 drawn:=Nat.le_refl _
 size:=by simp
 mono:=fun b _=>by grind
 mj:=fun b k _ hk=>by grind [sq,cell_of_row]
 frame:=fun b _ hb=>by grind [setRow_other]
 jy:=fun b _ hb=>by grind
 pN:=fun b _ hb=>by grind
theorem Inv.written(h:Inv G n D E a w){g:Nat}{c new:Array Value}{t:TypeId}(hg:w.heap[g]? =some (.cells c t (0,0)))(ho:(∃i,G.O g=.loc i)\/G.O g=.sh)(hR:G.R g=0){E':St}(hlp:E'.lp=E.lp)
 (dZ:a8 G (w.setRow g new) E'.s)
 (he:∀k,(look E'.e k=look E.e k/\G.O g≠.loc k)\/(G.O g=.loc k/\a.tmps[k]? =some (.pointer (some ⟨g,0,none⟩))/\∃cs cs',look E.e k=.loc cs/\look E'.e k=.loc cs'/\dt G (w.setRow g new) (.cell g) cs' new/\Fl cs')):
 Inv G n D E' a (w.setRow g new)/\aG G w G (w.setRow g new):=by
 have hog:G.O g≠.frame/\G.O g≠.none/\(∀i j,G.O g≠.slot i j)/\(∀i j,G.O g≠.cell i j):=by grind
 have bV:aG G w G (w.setRow g new):=aG.write hg ⟨hog.1,hog.2.1⟩ (fun k hk=>by grind) (Nat.le_refl _) (fun _ _=>⟨rfl,rfl⟩)
 have QO:∀b,G.O b≠G.O g->(w.setRow g new).heap[b]? =w.heap[b]? :=fun b hb=>setRow_other w g b new (fun e=>hb (by grind))
 refine⟨⟨⟨fun b hb=>h.ba.jJ b (by simp_all),fun b hb=>h.ba.kB b (by simp_all)⟩,dZ,h.size,fun k v hk=>?_,fun k hk=>?_,fun k d hd=>?_,h.pn⟩,bV⟩
 ·have hs:=h.cu k v hk
  rcases he k with⟨e,hnk⟩|⟨hgk,htm,cs,cs',e1,e2,e3,e4⟩
  ·rw[e]
   refine du.frame (fun _ _ hv=>bV.vr h.ba hv) (fun b hb=>⟨rfl,rfl,QO b ?_⟩) (fun b c' j _ hc=>⟨hc,rfl,QO c' ?_⟩) _ _ (fun d _ ds hds=>?_) hs
   ·grind
   ·grind
   grind
  ·rw[e2]
   have hv:v=.pointer (some ⟨g,0,none⟩):=by grind
   exact⟨g,new,t,hv,hgk,hR,setRow_heap w g c new t _ hg,e3,e4⟩
 ·rcases he k with⟨e,_⟩|⟨_,_,cs,_,e1,_⟩
  ·rw[e];exact h.CL k hk
  ·rw[h.CL k hk]at e1;cases e1
 ·rw[hlp]
  rcases he k with⟨e,_⟩|⟨_,_,cs,cs',_,e2,_⟩
  ·rw[e]at hd;exact h.JY k d hd
  ·rw[e2]at hd;exact hd.elim
theorem dt.lay{g off:Nat}{cs news:List AV}{c:Array Value}{vs:List Value}{t:TypeId}{fz:Nat×Nat}(hg:w.heap[g]? =some (.cells c t fz))(bV:aG G w G (w.setRow g (laid c off vs)))(jE:cq G w)
 (hc:dt G w (.cell g) cs c)(hl:vs.length=news.length)(df:off+news.length<=cs.length)(hne:∀j,G.O g≠.cell g j)
 (hn:∀(j:Nat)(x:AV)(y:Value),news[j]? =some x->vs[j]? =some y->VR w G.R x y/\dn G w (.cell g (off+j)) x y):
 dt G (w.setRow g (laid c off vs)) (.cell g) (setAt cs off news) (laid c off vs):=by
 have Eg:off+vs.length<=c.size:=by rw[hl,hc.1];exact df
 refine⟨by rw[pH _ _ _ Eg,mY _ _ _ df,hc.1],fun j x y hx hy=>?_⟩
 rw[mX _ _ _ _ df]at hx
 rw[kS _ _ _ Eg]at hy
 have mono:∀o,dn G w (.cell g o) x y->dn G (w.setRow g (laid c off vs)) (.cell g o) x y:=fun o ho=>ho.mono fun b hb=>⟨hb,rfl,setRow_other w g b _ (fun e=>by grind)⟩
 by_cases hj:off<=j/\j<off+news.length
 ·rw[if_pos hj]at hx
  rw[if_pos (by omega)]at hy
  obtain⟨h1,h2⟩:=hn (j -off) x y hx hy
  have:off+(j -off)=j:=by omega
  rw[this]at h2
  exact⟨bV.vr jE h1,mono j h2⟩
 ·rw[if_neg hj]at hx
  rw[if_neg (by omega)]at hy
  obtain⟨h1,h2⟩:=hc.2 j x y hx hy
  exact⟨bV.vr jE h1,mono j h2⟩
theorem LL{av:AV}{v:Value}(hi:dh av=true)(h:VR w G.R av v):Fl (bB av)/\v.cells.toList.length=(bB av).length/\(∀(j:Nat)(x:AV)(y:Value),(bB av)[j]? =some x->v.cells.toList[j]? =some y->VR w G.R x y)/\
 (∀y∈v.cells.toList,y.oneCell'=true):=by
 have hr:=gT hi h
 have e7:Row w G.R (bB av) v.cells:=by cases av<;>first|exact hr|exact hr.views
 refine⟨e7.2.2,by simpa using e7.1,fun j x y hx hy=>e7.2.1 j x y hx (by grind),fun y hy=>?_⟩
 obtain⟨j,hj⟩:=List.mem_iff_getElem?.1 hy
 have hjl:j<(bB av).length:=by rw[<-e7.1];have:=(List.getElem?_eq_some_iff.1 hj).1;simpa using this
 have hx:=List.getElem?_eq_getElem hjl
 exact iE (e7.2.2 _ (List.getElem_mem hjl)) (e7.2.1 j _ y hx (by grind))
theorem xA{t:TypeId}{m:Nat}(hs:cX P t m=true){g off:Nat}{c:Array Value}{et:TypeId}(hg:w.heap[g]? =some (.cells c et (0,0))){v:Value}(hm:v.cells.size=m)(df:off+m<=c.size)(h1:∀y∈v.cells.toList,y.oneCell'=true):
 (storeVar t ⟨g,off,none⟩ v).run P w=.ok () (w.setRow g (laid c off v.cells.toList)):=by
 have:=di (P:=P) g off et (0,0) v.cells.toList 0 c w hg (fun k _ hk=>by omega) (by grind) h1
 simp[storeVar,Sem.run_bind,run_sizeOf hs,Result.andThen_ok]
 grind [laid]
theorem Cv{off:Nat}{news iJ cs:List AV}(h:fp off news iJ=some cs):off+news.length<=iJ.length/\cs=setAt iJ off news:=by grind [fp,decide_eq_true,decide_eq_false]
theorem Ld{v:IX}(hi:dh (E.x v)=true){k:Nat}{cs:List AV}(h:look (E.drain v).e k=.loc cs):look E.e k=.loc cs:=by
 cases v with
 |c _=>exact h
 |t i=>
  simp[St.drain,St.put,bc]at h
  split at h
  ·have:=mL (kP (show dh (look E.e i)=true from hi)) cs
   grind
  ·exact h
theorem I2{v:IX}(hi:dh (E.x v)=true){k:Nat}{cs:List AV}(h:look E.e k=.loc cs):look (E.drain v).e k=.loc cs:=by
 cases v with
 |c _=>exact h
 |t i=>
  simp[St.drain,St.put,bc]
  split
  ·rename_i e;subst e
   rw[show E.x (.t i)=look E.e i from rfl,h]at hi
   cases hi
  ·exact h
theorem Oc(h:Inv G n D E a w){op:Op}{ty:TypeId}{m:Nat}{p v:IX}{d:Option Nat}{K:St->Prop}(hd:bq n d=true)(hc:au P op ty (.store m p v)=true)(hw:iP P (.store m p v) d E K):nU P G n D w a op ty d K:=by
 cases op<;>first|(simp[au]at hc;done)|skip
 rename_i t q u
 simp only[au,Bool.and_eq_true]at hc
 obtain⟨⟨hs,hq⟩,hu⟩:=hc
 obtain⟨hi,hm,hk⟩:=hw
 have hvr:VR w G.R (E.x v) (a.eval u):=by
  have:=XR.aV h hu
  generalize E.x v=av at hi this
  cases av<;>first|exact this|grind [dh]
 have target:∃g off iJ,a.eval q=.pointer (some ⟨g,off,none⟩)/\
  ((∃i,look E.e i=.loc iJ/\a.tmps[i]? =some (.pointer (some ⟨g,0,none⟩))/\JT (E.drain v) (E.x p) p (bB (E.x v))=wrL (E.drain v) i (fp off (bB (E.x v)) iJ))\/
   (E.s g=some (.cells iJ)/\JT (E.drain v) (E.x p) p (bB (E.x v))=wrS (E.drain v) g (fp off (bB (E.x v)) iJ))):=by
  have hb:=XR.aV h hq
  cases hp:E.x p with
  |loc iJ=>
   rw[hp]at hb
   obtain⟨i,b,c,t',e1,e2,e3,e4,_⟩:=hb
   refine⟨b,0,iJ,e4,.inl ⟨i,e2,by rw[e3,e4],?_⟩⟩
   subst e1;rfl
  |lp d0 off=>
   rw[hp]at hb hk
   obtain⟨b,e1,e2⟩:=hb
   have hk':Pt d K (Ny (E.drain v) d0 off (bB (E.x v)) (look (E.drain v).e d0)):=hk
   cases hl:look (E.drain v).e d0<;>rw[hl]at hk'<;>first|exact hk'.elim|skip
   rename_i iJ
   have hl':=Ld hi hl
   exact⟨b,off,iJ,e1,.inl ⟨d0,hl',e2 iJ hl',by show Ny _ _ _ _ (look (E.drain v).e d0)=_;rw[hl];rfl⟩⟩
  |ref b off=>
   rw[hp]at hb hk
   have e1:=VR.fZ hb
   have hk':Pt d K (Tm (E.drain v) b off (bB (E.x v)) ((E.drain v).s b)):=hk
   have hs':(E.drain v).s=E.s:=by cases v<;>rfl
   rw[hs']at hk'
   cases hl:E.s b with
   |none=>rw[hl]at hk';exact hk'.elim
   |some so=>
    cases so with
    |map es=>rw[hl]at hk';exact hk'.elim
    |cells iJ=>exact⟨b,off,iJ,e1,.inr ⟨hl,by show Tm _ _ _ _ ((E.drain v).s b)=_;rw[hs',hl];rfl⟩⟩
  |_=>rw[hp]at hk;exact hk.elim
 obtain⟨g,off,iJ,e1,agZ⟩:=target
 obtain⟨G1,h1,hp1,hv1,um,hR1,hsh,Oh,dT⟩:=h.drain hu hi (.cell g off) (by simp) (by simp)
 obtain⟨hfl,hlen,rQ,KO⟩:=LL hi hv1
 have vd:∀(x:AV)(y:Value),(bB (E.x v))[0]? =some x->(a.eval u).cells.toList[0]? =some y->dn G1 w (.cell g (off+0)) x y:=by
  intro x y hx hy
  cases hv:E.x v with
  |agg cs=>grind [bB,eV,dn.view]
  |sl o s l cs=>
   rw[hv]at hx um hv1
   simp[bB]at hx
   subst hx
   have:(a.eval u).cells= #[a.eval u]:=by rcases VR.il hv1 with⟨(e|⟨_,_,_,e⟩),_⟩|⟨_,_,_,e,_⟩<;>rw[e]<;>rfl
   grind
  |bb t l cs=>
   rw[hv]at hx um hv1
   simp[bB]at hx
   subst hx
   have ag1:VR w G1.R (.sl true 1 l cs) (a.eval u):=by cases hv1;assumption
   have:(a.eval u).cells= #[a.eval u]:=by rcases VR.il ag1 with⟨(e|⟨_,_,_,e⟩),_⟩|⟨_,_,_,e,_⟩<;>rw[e]<;>rfl
   grind
  |_=>rw[hv]at hx;simp[bB]at hx;subst hx;trivial
 have MI:∀(j:Nat)(x:AV)(y:Value),(bB (E.x v))[j]? =some x->(a.eval u).cells.toList[j]? =some y->VR w G1.R x y/\dn G1 w (.cell g (off+j)) x y:=by
  intro j x y hx hy
  refine⟨rQ j x y hx hy,?_⟩
  cases j with
  |zero=>grind
  |succ j=>
   cases hv:E.x v with
   |agg cs=>grind [bB,eV,dn.view]
   |_=>grind [bB]
 have WW:(a.eval u).cells.toList.length=m:=by rw[hlen,hm]
 have rP:∀(τ:St)(w':World),Inv G1 n D τ a w'->Inv G1 n D (τ.put d (.iL [])) (a.put d undef) w':=by
  intro τ w' hτ
  have:=hτ.put (s':=τ.s) (lp':=τ.lp) d (fun i hi=>by grind [bq]) (.iL []) undef hτ.ba (aG.refl G1 w') hτ.store (fun _ hx=>hx) (fun i t _ ht=>ht.elim) (fun i t _⟨cs,hcs⟩=>by cases hcs)
   (fun _ _ _ _=>⟨rfl,rfl,rfl⟩) (fun _ _ _ _ _ _ hcc=>⟨hcc,rfl,rfl⟩) (fun i hdi=>⟨#[],rfl,rfl,fun j x y hx=>by simp at hx⟩)
  cases d<;>exact this
 rcases agZ with⟨i,e2,e3,e4⟩|⟨e2,e4⟩
 ·
  rw[e4]at hk
  cases hwr:fp off (bB (E.x v)) iJ with
  |none=>rw[hwr]at hk;exact hk.elim
  |some cs'=>
   rw[hwr]at hk
   obtain⟨df,rfl⟩:=Cv hwr
   have e2':look (E.drain v).e i=.loc iJ:=I2 hi e2
   have IA:=h1.cu i _ e3
   rw[e2']at IA
   obtain⟨b,c,t',q1,q2,q3,q4,q5,q6⟩:=IA
   injection q1 with q1;injection q1 with q1;injection q1 with q1 _ _
   subst q1
   have hne:∀j,G1.O g≠.cell g j:=fun j=>by rw[q2];simp
   have Eg:off+(a.eval u).cells.toList.length<=c.size:=by rw[hlen,q5.1];exact df
   have bR:=xA (P:=P) hs q4 (v:=a.eval u) (by grind) (by rw[<-WW];exact Eg) KO
   have bV:aG G1 w G1 (w.setRow g (laid c off (a.eval u).cells.toList)):=aG.write q4 (by rw[q2];simp) (fun k hk=>by grind) (Nat.le_refl _) (fun _ _=>⟨rfl,rfl⟩)
   have ns:=dt.lay q4 bV h1.ba q5 hlen df hne MI
   obtain⟨h2,_⟩:=h1.written (E':=(E.drain v).put (some i) (.loc (setAt iJ off (bB (E.x v))))) q4 (.inl ⟨i,q2⟩) q3 rfl
    (h1.store.mono h1.ba bV (fun b hb=>⟨hb,rfl,setRow_other w g b _ (fun e=>by grind)⟩) (fun b c j _ hc=>⟨hc,rfl,setRow_other w g c _ (fun e=>by grind)⟩))
    (fun k=>by grind [q2,St.put,bc,Fl.setAt])
   intro pos after gd next Q hn
   exact xG (w':=w.setRow g (laid c off (a.eval u).cells.toList)) (by simp[execOp,e1,Instr.storeAt,Instr.sureAddr,bR]) (hn G1 _ _ _ (rP _ _ h2) (hp1.trans bV) hk)
 ·
  rw[e4]at hk
  cases hwr:fp off (bB (E.x v)) iJ with
  |none=>rw[hwr]at hk;exact hk.elim
  |some cs'=>
   rw[hwr]at hk
   obtain⟨df,rfl⟩:=Cv hwr
   have hs':(E.drain v).s=E.s:=by cases v<;>rfl
   obtain⟨q2,q3,c,t',q4,q5,q6⟩:=h1.store g (.cells iJ) (by grind)
   have hne:∀j,G1.O g≠.cell g j:=fun j=>by rw[q2];simp
   have Eg:off+(a.eval u).cells.toList.length<=c.size:=by rw[hlen,q5.1];exact df
   have bR:=xA (P:=P) hs q4 (v:=a.eval u) (by grind) (by rw[<-WW];exact Eg) KO
   have bV:aG G1 w G1 (w.setRow g (laid c off (a.eval u).cells.toList)):=aG.write q4 (by rw[q2];simp) (fun k hk=>by grind) (Nat.le_refl _) (fun _ _=>⟨rfl,rfl⟩)
   have ns:=dt.lay q4 bV h1.ba q5 hlen df hne MI
   have dZ:a8 G1 (w.setRow g (laid c off (a.eval u).cells.toList)) ((E.drain v).s.set g (.cells (setAt iJ off (bB (E.x v))))):=by
    intro b o hb
    unfold ae.set at hb
    by_cases hbg:b=g
    ·rw[if_pos hbg]at hb;grind [q2,setRow_heap,DT.setAt]
    ·rw[if_neg hbg]at hb
     obtain⟨r1,r2,r3⟩:=h1.store b o hb
     refine⟨r1,r2,?_⟩
     have hbk:=setRow_other w g b (laid c off (a.eval u).cells.toList) hbg
     cases o with
     |cells cs=>
      obtain⟨c0,t0,r4,r5,r6⟩:=r3
      exact⟨c0,t0,hbk.trans r4,r5.mono (fun _ _ hv=>bV.vr h1.ba hv) (fun b' j hb'=>⟨hb',rfl,setRow_other w g b' _ (fun e=>by grind)⟩),r6⟩
     |map es=>
      obtain⟨jm,clock,r4,r5,r6⟩:=r3
      exact⟨jm,clock,hbk.trans r4,r5,fun j x y hx hy=>⟨bV.vr h1.ba (r6 j x y hx hy).1,bV.vr h1.ba (r6 j x y hx hy).2⟩⟩
   obtain⟨h2,_⟩:=h1.written (E':={E.drain v with s:=(E.drain v).s.set g (.cells (setAt iJ off (bB (E.x v))))}) q4 (.inr q2) q3 rfl dZ
    (fun k=>.inl ⟨rfl,by rw[q2];simp⟩)
   intro pos after gd next Q hn
   exact xG (w':=w.setRow g (laid c off (a.eval u).cells.toList)) (by simp[execOp,e1,Instr.storeAt,Instr.sureAddr,bR]) (hn G1 _ _ _ (rP _ _ h2) (hp1.trans bV) hk)
end
section
variable{P:Program}{G G':Gh}{n:Nat}{D:List Deferred}{E:St}{a:Act}{w w':World}
theorem Inv.RD(h:Inv G n D E a w){d:Option Nat}(hd:bq n d=true){sz m cap:Nat}{cs:List AV}{c:Array Value}{t:TypeId}{ob:c5}{own:Bool}(hob:∀i,d=some i->ob=.slot i 0)(agS:d=none->ob=.none)
 (hl:cs.length=m*sz)(fh:m<=cap)(hsz:c.size=cap*sz)(hfl:Fl cs)
 (hcs:∀(j:Nat)(x:AV),cs[j]? =some x->∃y,c[j]? =some y/\VR w G.R x y)(fz:Nat×Nat)(hfz:(∀k,k<c.size->¬(fz.1<=k/\k<fz.2))/\fz.1<=fz.2)(hz0:own=true->fz=(0,0)\/(0<m/\∃x,c[0]? =some (.int .u8 x)))(hsp:∀(k:Nat)(y:Value),m*sz<=k->c[k]? =some y->y.oneCell'=true):
 ∃G',Inv G' n D (E.put d (.sl own sz m cs)) (a.put d (.slice (some ⟨w.heap.size,0,none⟩) m cap)) (w.alloc (.cells c t fz))/\aG G w G' (w.alloc (.cells c t fz)):=by
 have hp:=(fq h.ba (.cells c t fz) ob cs.length).2.1
 obtain⟨h1,h2⟩:=h.alloc (.cells c t fz) ob cs.length d hd (.sl own sz m cs) (.slice (some ⟨w.heap.size,0,none⟩) m cap) E.lp (j9 h.store h.ba _ ob cs.length) (fun _ hx=>hx) (fun i t' _ ht=>ht.elim)
  (fun i t' _⟨cs',x8⟩=>by grind)
  (fun i hi=>by
    refine⟨?_,?_⟩
    ·refine .sl own sz m cs w.heap.size 0 cap (fun j=>c.getD j undef) hfl hl (by simp) fh (fun j x hj=>?_) (fun j x hj=>?_)
     ·obtain⟨y,hy,_⟩:=hcs j x hj
      rw[Nat.zero_add,cell_of_row _ (heap_alloc_new w _)]
      simp_all
     ·obtain⟨y,hy,hv⟩:=hcs j x hj
      have:c.getD j undef=y:=by simp_all
      rw[this]
      exact hp.vr h.ba hv
    ·cases own with
     |false=>trivial
     |true=>
     intro base m' dp hv hc
     injection hv with e1 e2 e3
     exact⟨w.heap.size,0,c,t,fz,e1.symm,by simp_all,by simp[hl],heap_alloc_new w _,by grind,hfz.1,hfz.2,rfl,hz0 rfl,fun k y hk=>hsp k y (by omega)⟩)
 exact⟨_,by cases d<;>exact h1,h2⟩
theorem It(l:List Value):∀(m:Nat),((List.replicate m l).flatten)=((List.range (m*l.length)).map fun i=>l.getD (i % l.length) undef):=by
 intro m
 apply List.ext_getElem?
 intro j
 rcases Nat.eq_zero_or_pos l.length with h0|hp
 ·simp_all
 ·induction m generalizing j with
  |zero=>simp
  |succ m ih=>
   rw[List.replicate_succ,List.flatten_cons]
   by_cases hj:j<l.length
   ·rw[List.getElem?_append_left hj,List.getElem?_map,List.getElem?_range (by grind)]
    simp[Nat.mod_eq_of_lt hj,List.getElem?_eq_getElem hj]
   ·by_cases hlt:j<(m+1)*l.length
    ·grind [List.getElem?_range,Nat.mod_eq_sub_mod]
    grind
theorem sB(z:Array Value)(m:Nat):((Array.range (m*z.size)).map fun i=>z[i % z.size]!)=((List.replicate m z.toList).flatten).toArray:=by
 rw[It]
 apply Array.ext'
 simp only[Array.toList_map,Array.toList_range]
 apply List.map_congr_left
 grind [Nat.mod_lt]
theorem Ih(h:Inv G n D E a w){op:Op}{ty:TypeId}{sz m:Nat}{z:List AV}{ps:List (Nat×Nat×IX)}{d:Option Nat}{K:St->Prop}(hd:bq n d=true)(hc:au P op ty (.ij sz m z ps)=true)(hw:iP P (.ij sz m z ps) d E K):nU P G n D w a op ty d K:=by
 cases op<;>first|(simp[au]at hc;done)|skip
 rename_i t m' qs
 simp only[au,Bool.and_eq_true,beq_iff_eq]at hc
 obtain⟨rfl,hc⟩:=hc
 split at hc<;>try(cases hc;done)
 rename_i e ht
 have ht:=cV ht
 simp only[Bool.and_eq_true]at hc
 obtain⟨⟨⟨⟨hs,jo⟩,hp⟩,QM⟩,hz⟩:=hc
 obtain⟨i,hi,pz⟩:=ku hs
 rw[hi]at hz
 simp only at hz
 split at hz<;>try(cases hz;done)
 rename_i zv hzv
 simp only[Bool.and_eq_true,beq_iff_eq]at hz
 obtain⟨hzr,hzs⟩:=hz
 have jo:=of_decide_eq_true jo
 have QM:=of_decide_eq_true QM
 have hw':wj sz m E d K (fill (xg true E) z ps):=hw
 cases hfl:fill (xg true E) z ps with
 |none=>rw[hfl]at hw';exact hw'.elim
 |some ds=>
  rw[hfl]at hw'
  obtain⟨hlen,hk⟩:=hw'
  obtain⟨hl,hpa⟩:=vF _ _ hp
  obtain⟨hz1,hz2⟩:=Ae hzr
  have e7:Row w G.R z ((Array.range (m*sz)).map (zv.cells[·% zv.cells.size]!)):=by
   rw[<-hzs,sB]
   exact⟨by grind,fun j c u hc hu=>ud (hz2 j c u hc (by grind)) w G.R,AO hzr⟩
  have hf:∀(o:Operand)(x:IX),bI o x=true->dh (xg true E x)=true->VR w G.R (xg true E x) (a.eval o):=fun o x hx hi=>by
   have:=BR.aV h hx
   generalize xg true E x=av at hi this
   cases av<;>first|exact this|grind [dh]
  obtain⟨us,h1,h2⟩:=qn h hf (fun i=>some (i*sz,sz)) qs.toList ps z ds _ ⟨hl,fun j q p hq hp'=>by grind⟩ e7 hfl
  obtain⟨G1,h3,h4⟩:=h.RD (t:=e) (ob:=match d with|some i=>.slot i 0|none=>.none) hd (fun i hi=>by subst hi;rfl) (fun hn=>by subst hn;rfl) hlen (Nat.le_refl m) (by rw[h2.1,hlen]) h2.2.2
   (fun j x hx=>by
     have hlt:j<us.size:=by rw[h2.1];exact(List.getElem?_eq_some_iff.1 hx).1
     exact⟨us[j],Array.getElem?_eq_getElem hlt,h2.2.1 j x _ hx (Array.getElem?_eq_getElem hlt)⟩) (0,0) ⟨fun k _ hk=>by simp at hk,Nat.le_refl _⟩ (own:=true) (fun _=>.inl rfl) (fun k y hk hy=>by
     have:=(Array.getElem?_eq_some_iff.1 hy).1
     rw[h2.1,hlen]at this;omega)
  intro pos after gd next Q hn
  refine aY ?_ (hn G1 _ _ _ h3 h4 hk)
  by_cases hm0:m*sz=0
  ·have hm:m=0:=by
    rcases Nat.mul_eq_zero.1 hm0 with h|h
    ·exact h
    ·omega
   subst hm
   simp only[Nat.zero_mul]at h1
   have:(Array.range 0).map (zv.cells[·% zv.cells.size]!)= #[]:=by simp
   rw[this]at h1
   have hr0:Array.map (fun _:Nat=>(default:Value)) (Array.range 0)= #[]:=by apply Array.ext';simp
   simp[execOp,Instr.buildSlice,run_underlying ht,run_sizeOf hs,hr0,h1,newRow]
  ·have h24:¬(16777216<m*sz):=by omega
   simp[execOp,Instr.buildSlice,run_underlying ht,run_sizeOf hs,h24,hm0,zeroValue,typeInfo,hi,hzv,h1,newRow]
theorem AM(s:List UInt8):Fl (s.map fun c=>AV.int .u8 c.toNat):=by
 intro c hc
 simp[List.mem_map]at hc
 obtain⟨x,_,rfl⟩:=hc
 rfl
theorem Ku(h:Inv G n D E a w){op:Op}{ty:TypeId}{x:IX}{d:Option Nat}{K:St->Prop}(hd:bq n d=true)(hc:au P op ty (.jU x)=true)(hw:iP P (.jU x) d E K):nU P G n D w a op ty d K:=by
 cases op<;>first|(simp[au]at hc;done)|skip
 rename_i s t y
 simp only[au,Bool.and_eq_true]at hc
 obtain⟨hy,hc⟩:=hc
 split at hc<;>try(cases hc;done)
 rename_i e hs ht
 split at hc<;>try(cases hc;done)
 rename_i he
 have hb:=BR.aV h hy
 have hw':Ah E d K (xg true E x):=hw
 generalize xg true E x=xv at hb hw'
 unfold Ah at hw'
 split at hw'<;>try(exact hw'.elim)
 rename_i ow sz m cs
 obtain⟨rfl,l,rfl,hk⟩:=hw'
 have rP:Inv G n D (E.put d (.str l)) (a.put d (.string ⟨l.toArray⟩)) w:=by
  have:=h.put (s':=E.s) (lp':=E.lp) d (fun i hi=>by grind [bq]) (.str l) (.string ⟨l.toArray⟩) h.ba (aG.refl G w) h.store (fun _ hx=>hx) (fun i t _ ht=>ht.elim) (fun i t _⟨cs,hcs⟩=>by cases hcs)
   (fun _ _ _ _=>⟨rfl,rfl,rfl⟩) (fun _ _ _ _ _ _ hcc=>⟨hcc,rfl,rfl⟩) (fun i hdi=>⟨.str l,trivial⟩)
  cases d<;>exact this
 intro pos after gd next Q hn
 refine aY (v:=.string ⟨l.toArray⟩) ?_ (hn G _ _ _ rP (aG.refl G w) hk)
 rcases VR.il hb with⟨e1,_,hl0⟩|⟨b,off,cap,e1,hlen,_,_,u,u1,u2,_⟩
 ·have:l=[]:=by simpa using hl0
  subst this
  rcases e1 with e1|⟨_,ad,cap,e1⟩
  ·have:=run_convert_bytes_nil (P:=P) w s e hs he 0 0 t ht
   simp[execOp,e1,this]
   rfl
  ·have:=ks (P:=P) w s e hs he ad cap t ht
   simp[execOp,e1,this]
   rfl
 ·have hm:l.length=m:=by simpa using hlen
  have:=run_convert_bytes_arg (P:=P) w s e hs he b off m cap (l.map fun c=>(c.toNat:Int)) (by grind) (fun i hi=>by
   have hil:i<l.length:=by omega
   have hc0:(l.map fun c=>AV.int .u8 c.toNat)[i]? =some (.int .u8 l[i].toNat):=by simp[hil]
   grind [VR.b8]) t ht
  have hs2:strOfNums (l.map fun c=>(c.toNat:Int))=⟨l.toArray⟩:=by
   unfold strOfNums
   congr 2
   simp[Function.comp_def]
  rw[hs2]at this
  simp[execOp,e1,this]
theorem aG.drew(G:Gh)(w:World):aG G w G w.drew:=⟨rfl,rfl,rfl,Nat.le_succ _,Nat.le_refl _,fun _ _=>Nat.le_refl _,fun _ _ _ _=>rfl,fun _ _ _=>rfl,fun _ _ h=>⟨h,rfl⟩,fun _ _ h=>⟨h,rfl⟩⟩
theorem Inv.drew(h:Inv G n D E a w):Inv G n D E a w.drew:=by
 have hg:cq G w.drew:=⟨h.ba.jJ,h.ba.kB⟩
 have:=h.put none (fun i hi=>by grind) .undef undef hg (aG.drew G w) (h.store.mono h.ba (aG.drew G w) (fun _ hb=>⟨hb,rfl,rfl⟩) (fun _ _ _ _ hc=>⟨hc,rfl,rfl⟩)) (fun _ hx=>hx) (fun i t hi=>by grind) (fun i t hi=>by simp)
  (fun _ _ _ _=>⟨rfl,rfl,rfl⟩) (fun _ _ _ _ _ _ hcc=>⟨hcc,rfl,rfl⟩) (fun i hi=>by grind)
 exact this
theorem FM(h:Inv G n D E a w){op:Op}{ty:TypeId}{x:IX}{d:Option Nat}{K:St->Prop}(hd:bq n d=true)(hc:au P op ty (.iW x)=true)(hw:iP P (.iW x) d E K):nU P G n D w a op ty d K:=by
 cases op<;>first|(simp[au]at hc;done)|skip
 rename_i s t y
 simp only[au,Bool.and_eq_true]at hc
 obtain⟨hy,hc⟩:=hc
 split at hc<;>try(cases hc;done)
 rename_i e hs ht
 split at hc<;>try(cases hc;done)
 rename_i he
 have hb:=BR.aV h hy
 have hw':pk E d K (xg true E x):=hw
 generalize xg true E x=xv at hb hw'
 unfold pk at hw'
 split at hw'<;>try(exact hw'.elim)
 rename_i l
 have e1:=VR.fJ hb
 have hk:K (E.put d (.sl (U1 l) 1 l.length (l.map fun c=>.int .u8 c.toNat))):=hw'
 let cap:=(Question.appendCap l.length 0 e).cut (w.tape w.drawn (.appendCap l.length 0 e))
 have fh:l.length<=cap:=Nat.le_add_right _ _
 let c:Array Value:=(l.toArray.map fun b=>Value.int .u8 b.toNat)++Array.replicate (cap -l.length) (.int .u8 0)
 have hcs:c.size=cap:=by simp[c];omega
 obtain⟨G1,h3,h4⟩:=(h.drew).RD (t:=e) (c:=c) (m:=l.length) (cs:=l.map fun c=>AV.int .u8 c.toNat) (cap:=cap) (sz:=1) (ob:=match d with|some i=>.slot i 0|none=>.none) hd (fun i hi=>by subst hi;rfl) (fun hn=>by subst hn;rfl) (by simp) fh (by grind) (AM l)
  (fun j x hx=>by
    rw[List.getElem?_map]at hx
    cases hj:l[j]? with
    |none=>grind
    |some b0=>
     rw[hj]at hx;simp at hx
     have hlt:j<l.length:=(List.getElem?_eq_some_iff.1 hj).1
     refine⟨.int .u8 b0.toNat,?_,by rw[<-hx];exact .int _ _⟩
     grind) (c.size,c.size+1) ⟨fun k hk hh=>by omega,Nat.le_succ _⟩ (own:=U1 l) (fun hne=>.inr (by
    cases l with
    |nil=>cases hne
    |cons x0 l=>grind)) (fun k y _ hy=>by
    obtain⟨hk,hy⟩:=Array.getElem?_eq_some_iff.1 hy
    have hm:y∈c:=by rw[<-hy];exact Array.getElem_mem hk
    rcases Array.mem_append.1 hm with hm|hm
    ·obtain⟨b,_,rfl⟩:=Array.mem_map.1 hm;rfl
    ·rw[(Array.mem_replicate.1 hm).2];rfl)
 intro pos after gd next Q hn
 refine aY (w':=(w.drew).alloc (.cells c e (c.size,c.size+1))) ?_ (hn G1 _ _ _ h3 ((aG.drew G w).trans h4) hk)
 have hsz:(ByteArray.mk l.toArray).size=l.length:=by simp[ByteArray.size]
 have QF:(Conv.stringToBytes e ⟨l.toArray⟩).run P w=.ok (.slice (some ⟨w.heap.size,0,none⟩) l.length cap) ((w.drew).alloc (.cells c e (c.size,c.size+1))):=by
  have hfr:∀(w0:World),(w0.alloc (.cells c e)).freeze {block:=w0.heap.size,off:=c.size} 1=w0.alloc (.cells c e (c.size,c.size+1)):=by
   intro w0
   unfold World.freeze World.alloc
   simp only[Nat.succ_ne_self,if_false]
   congr 1
   apply Array.ext
   ·simp
   ·grind
  have KQ:((w.drew).alloc (.cells c e)).shape? w.heap.size=some (e,c.size):=by
   unfold World.shape?
   rw[show((w.drew).alloc (.cells c e)).heap[w.heap.size]? =some (.cells c e) from heap_alloc_new w.drew _]
  simp only[Conv.stringToBytes,Sem.run_bind,run_choose,Question.forced,hsz,Bool.false_eq_true,if_false,Result.andThen_ok,newRow,run_newObj,Sem.run_pure,markStringish,run_shape]
  show((Sem.run P (match((w.drew).alloc (.cells c e)).shape? w.heap.size with|some (_,n)=>freeze {block:=w.heap.size,off:=n} 1|x=>pure ()) ((w.drew).alloc (.cells c e))).andThen fun a w'=>Result.ok (Value.slice (some {block:=w.heap.size,off:=0}) l.length cap) w')=_
  rw[KQ]
  simp only[run_freeze,Result.andThen_ok]
  exact congrArg _ (hfr w.drew)
 simp[execOp,e1,convert,underlying,hs,ht,he,QF]
end
end Go.AB
end
