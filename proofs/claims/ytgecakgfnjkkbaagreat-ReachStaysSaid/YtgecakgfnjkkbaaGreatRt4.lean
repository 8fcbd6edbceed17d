/- A part. -/
import Derived.Test.YtgecakgfnjkkbaaGreatRt3
import Derived.Laws.BytesArg
import Derived.Laws.StructEq
import Derived.Laws.Rows
import Derived.Laws.CopyRow
import Derived.Laws.Append
import Derived.Laws.AppendOwn
import Derived.Laws.BytesString
set_option linter.defProp false
set_option linter.unusedSimpArgs false
set_option linter.unusedVariables false
section
namespace Go.AB
open Go
theorem Kl{a:AV}{c:UInt8}(h:byteOf a=some c):a=.int .u8 c.toNat:=by
 unfold byteOf at h
 grind [UInt8.toNat_ofNat']
theorem xT:∀{cs:List AV}{l:List UInt8},bytesOf cs=some l->cs=l.map fun c=>.int .u8 c.toNat
 |[],l,h=>by grind [bytesOf]
 |a::r,l,h=>by
  unfold bytesOf at h
  cases ha:byteOf a with
  |none=>rw[ha]at h;cases h
  |some c=>
   cases hr:bytesOf r with
   |none=>rw[ha,hr]at h;cases h
   |some m=>
    rw[ha,hr]at h
    injection h with h
    subst h
    rw[Kl ha,xT hr];rfl
section
variable{P:Program}{G:Gh}{n:Nat}{D:List Deferred}{E:St}{a:Act}{w:World}
def Vr(h:Inv G n D E a w){op:Op}{ty:TypeId}{z:List AV}{m:Bool}{x:IX}(hc:aw P op ty (.kE z m x)=true){av:AV}(hv:gN (pv (.kE z m x) (xg true E) E) av):
 ∃v,runs P a op ty w v/\NR G w E a av v:=by
 have hc':aw P op ty (.load z.length m x)=true:=by cases op<;>first|exact hc|(done)
 refine Jo h hc' ?_
 have hv':gN (Hf z m E.s (xg true E x)) av:=hv
 show gN (j9 m (rd E (xg true E x) z.length)) av
 generalize xg true E x=xv at hv'
 cases xv<;>first|exact hv'.no.elim|skip
 rename_i b off
 have hv2:gN (LC z m off (E.s b)) av:=hv'
 show gN (j9 m (rk z.length off (E.s b))) av
 cases hs:E.s b with
 |none=>rw[hs]at hv2;exact hv2.no.elim
 |some so=>
  cases so with
  |map es=>rw[hs]at hv2;exact hv2.no.elim
  |cells cs=>
   rw[hs]at hv2
   have hv3:gN (ckP (off+z.length<=cs.length) (oM m (pad z (views (sub cs off z.length))))) av:=hv2
   unfold ckP at hv3
   cases hi:dF (oM m (pad z (views (sub cs off z.length))))with
   |false=>rw[hi]at hv3;exact hv3.no.elim
   |true=>
    rw[hi]at hv3
    obtain⟨rfl,hle⟩:=hv3.prt
    have hlen:(views (AB.sub cs off z.length)).length=z.length:=by simp[AB.views,List.length_map,AB.sub,List.length_take,List.length_drop];omega
    have acg:pad z (views (AB.sub cs off z.length))=views (AB.sub cs off z.length):=by unfold pad;rw[hlen,beq_self_eq_true];rfl
    rw[acg]at hi⊢
    show gN (j9 m (fN z.length off cs)) _
    unfold fN
    rw[decide_eq_true hle]
    show gN (Z8 (oM m (views (AB.sub cs off z.length)))) _
    unfold Z8
    rw[hi]
    exact .inl rfl
def Vq(h:Inv G n D E a w){op:Op}{ty:TypeId}{k:IntKind}{x:IX}(hc:aw P op ty (.nN k x)=true){av:AV}(hv:gN (pv (.nN k x) (xg true E) E) av):
 ∃v,runs P a op ty w v/\NR G w E a av v:=by
 have hc':aw P op ty (.load 1 false x)=true:=by
  cases op<;>first|(simp[aw]at hc)|skip
  simp only[aw,Bool.and_eq_true]at hc⊢
  exact⟨⟨⟨hc.1.1,hc.1.2⟩,rfl⟩,hc.2⟩
 refine Jo h hc' ?_
 have hv':gN (z7 k E.s (xg true E x)) av:=hv
 show gN (j9 false (rd E (xg true E x) 1)) av
 generalize xg true E x=xv at hv'
 cases xv<;>first|exact hv'.no.elim|skip
 rename_i b off
 obtain⟨rfl,hcc⟩:=gN.prt (hv')
 show gN (j9 false (rk 1 off (E.s b))) _
 cases hs:E.s b with
 |none=>rw[hs]at hcc;exact hcc.elim
 |some so=>
  cases so with
  |map es=>rw[hs]at hcc;exact hcc.elim
  |cells cs=>
   rw[hs]at hcc
   obtain⟨m,hm⟩:=hcc
   have hlt:=(List.getElem?_eq_some_iff.1 hm).1
   show gN (j9 false (fN 1 off cs)) (.int k (intOf cs[off]?))
   rw[hm]
   unfold fN
   rw[decide_eq_true AT]
   have e:AB.sub cs off 1=[.int k m]:=by
    unfold AB.sub
    rw[List.drop_eq_getElem_cons hlt]
    have:=(List.getElem?_eq_some_iff.1 hm).2
    rw[this];rfl
   rw[e]
   exact .inl rfl
def lu{P:Program}(w:World)(src e:TypeId)(hs:P.underlying src=some (.slice e))(he:P.underlying e=some (.int .u8))(ad:Addr)(cap:Nat):
 ∀dst,P.underlying dst=some .string->(convert src dst (.slice (some ad) 0 cap)).run P w=.ok (.string ByteArray.empty) w:=by
 intro dst hd
 have hl:(loadCells ad 0).run P w=.ok ([].map (Value.int .u8)).toArray w:=D_
 rw[run_convert_bytes_string w src dst e _ 0 cap hs he hd,run_bytesToString w _ 0 cap [] hl]
 simp[ByteArray.emptyWithCapacity]
def Rx(h:Inv G n D E a w){op:Op}{ty:TypeId}{x:IX}(hc:aw P op ty (.kP x)=true){av:AV}(hv:gN (pv (.kP x) (xg true E) E) av):
 ∃v,runs P a op ty w v/\NR G w E a av v:=by
 cases op<;>first|(simp[aw]at hc;done)|skip
 rename_i s t y
 simp only[aw,Bool.and_eq_true]at hc
 obtain⟨hy,hc⟩:=hc
 split at hc<;>try(cases hc;done)
 rename_i e hs ht
 split at hc<;>try(cases hc;done)
 rename_i he
 have hb:=BR.aQ h hy
 have hv':gN (rR (xg true E x)) av:=hv
 generalize xg true E x=xv at hb hv'
 unfold rR at hv'
 split at hv'<;>try(exact hv'.no.elim)
 rename_i ow sz m cs
 cases hsz:sz==1 with
 |false=>rw[hsz]at hv';exact hv'.no.elim
 |true=>
 rw[hsz]at hv'
 obtain rfl:=beq_iff_eq.1 hsz
 have hv2:=hv'
 cases hbs:bytesOf cs with
 |none=>rw[hbs]at hv2;exact hv2.no.elim
 |some l=>
 rw[hbs]at hv2
 obtain rfl:=hv2.c8
 obtain rfl:=xT hbs
 refine⟨.string ⟨l.toArray⟩,fun _ _ _ _=>?_,NR.mk rfl (.str l) rfl⟩
 rcases VR.gR hb with⟨e1,_,hl0⟩|⟨b,off,cap,e1,hlen,_,_,u,u1,u2,_⟩
 ·have:l=[]:=by simpa using hl0
  subst this
  rcases e1 with e1|⟨_,ad,cap,e1⟩
  ·have:=run_convert_bytes_nil (P:=P) w s e hs he 0 0 t ht
   simp[execOp,e1,this]
   rfl
  ·have:=lu (P:=P) w s e hs he ad cap t ht
   simp[execOp,e1,this]
   rfl
 ·have hm:l.length=m:=by simpa using hlen
  have:=run_convert_bytes_arg (P:=P) w s e hs he b off m cap (l.map fun c=>(c.toNat:Int)) A_ (fun i hi=>by
   have hil:i<l.length:=AT
   have hc0:(l.map fun c=>AV.int .u8 c.toNat)[i]? =some (.int .u8 l[i].toNat):=by simp[hil]
   grind [VR.b9]) t ht
  have hs2:strOfNums (l.map fun c=>(c.toNat:Int))=⟨l.toArray⟩:=by
   unfold strOfNums
   congr 2
   simp[Function.comp_def]
  rw[hs2]at this
  simp[execOp,e1,this]
end
def ZE(off:Nat):∀(l:List Value)(s:Nat)(cells:Array Value),
 ((l.zipIdx s).foldl (fun cs(x:Value×Nat)=>cs.setIfInBounds (off+x.2) x.1) cells).size=cells.size/\
 ∀k,((l.zipIdx s).foldl (fun cs(x:Value×Nat)=>cs.setIfInBounds (off+x.2) x.1) cells)[k]? =
  if off+s<=k/\k<off+s+l.length/\k<cells.size then l[k -(off+s)]? else cells[k]? :=by
 intro l
 induction l with
 |nil=>
  intro s cells
  refine⟨rfl,fun k=>?_⟩
  rw[if_neg A_];rfl
 |cons v l ih=>
  intro s cells
  rw[List.zipIdx_cons]
  grind
section
variable{P:Program}{G:Gh}{n:Nat}{D:List Deferred}{E:St}{a:Act}{w:World}
def Row(w:World)(R:Nat->Nat)(cs:List AV)(vs:Array Value):Prop:=vs.size=cs.length/\(∀(j:Nat)(c:AV)(u:Value),cs[j]? =some c->vs[j]? =some u->VR w R c u)/\Fl cs
def iM{R:Nat->Nat}{av:AV}{v:Value}(hi:dF av=true)(h:VR w R av v):Row w R (cellsOf av) v.cells:=by
 have key:(∃cs,av=.agg cs)\/(cellsOf av=[av]/\v.cells= #[v]/\qO av=true):=by cases h<;>first|exact .inl ⟨_,rfl⟩|exact .inr ⟨rfl,rfl,rfl⟩|(rename_i hb _;cases hb<;>exact .inr ⟨rfl,rfl,rfl⟩)|(rename_i IK;exact .inr ⟨rfl,by cases v<;>first|rfl|(cases IK),rfl⟩)|grind [dF]
 rcases key with⟨cs,rfl⟩|⟨h1,h2,h3⟩
 ·obtain⟨vs,rfl,hl,hr,hf⟩:=VR.yu h
  exact⟨hl,hr,hf⟩
 ·rw[h1,h2]
  refine⟨rfl,fun j c u hc hu=>?_,fun c hc=>?_⟩
  ·grind
  grind
theorem Row.views{R:Nat->Nat}{cs:List AV}{vs:Array Value}(h:Row w R cs vs):Row w R (views cs) vs:=by
 refine⟨by simp[AB.views,h.1],fun j c u hc hu=>?_,h.2.2.views⟩
 rw[fx]at hc
 cases hj:cs[j]? with
 |none=>rw[hj]at hc;cases hc
 |some c'=>
  rw[hj]at hc;simp at hc
  rw[<-hc];exact(h.2.1 j c' u hj hu).view
theorem oK(cs news:List AV)(off k:Nat)(h:off+news.length<=cs.length):(setAt cs off news)[k]? =if off<=k/\k<off+news.length then news[k -off]? else cs[k]? :=by
 unfold setAt
 rw[List.append_assoc]
 grind
theorem mH(cs news:List AV)(off:Nat)(h:off+news.length<=cs.length):(setAt cs off news).length=cs.length:=by grind [setAt]
theorem Fl.setAt{cs news:List AV}(h:Fl cs)(k:Fl news)(off:Nat):Fl (setAt cs off news):=by
 intro c hc
 rcases List.mem_append.1 hc with hc|hc
 ·rcases List.mem_append.1 hc with hc|hc
  ·exact h c (List.mem_of_mem_take hc)
  ·exact k c hc
 ·exact h c (List.mem_of_mem_drop hc)
theorem Gk.setAt{t:Nat}{cs news:List AV}(h:Gk t cs)(k:Fl news)(off:Nat):Gk t (AB.setAt cs off news):=by
 intro c hc
 unfold AB.setAt at hc
 simp only[List.mem_append]at hc
 rcases hc with(hc|hc)|hc
 ·exact h c (List.mem_of_mem_take hc)
 ·exact .inl (k c hc)
 ·exact h c (List.mem_of_mem_drop hc)
theorem Row.setAt{R:Nat->Nat}{cs news:List AV}{vs us:Array Value}{off:Nat}(h:Row w R cs vs)(k:Row w R news us)(dE:off+news.length<=cs.length):
 Row w R (setAt cs off news) (us.zipIdx.foldl (fun cs(x:Value×Nat)=>cs.setIfInBounds (off+x.2) x.1) vs):=by
 have e:us.zipIdx.foldl (fun cs x=>cs.setIfInBounds (off+x.2) x.1) vs=(us.toList.zipIdx 0).foldl (fun cs x=>cs.setIfInBounds (off+x.2) x.1) vs:=by rw[<-Array.foldl_toList,Array.toList_zipIdx]
 rw[e]
 obtain⟨h1,h2⟩:=ZE off us.toList 0 vs
 refine⟨by rw[h1,mH _ _ _ dE,h.1],fun j c u hc hu=>?_,Fl.setAt h.2.2 k.2.2 off⟩
 rw[h2 j]at hu
 rw[oK _ _ _ _ dE]at hc
 have hus:=k.1
 by_cases hj:off<=j/\j<off+news.length
 ·rw[if_pos hj]at hc
  exact k.2.1 (j -off) c u hc A_
 ·rw[if_neg hj]at hc
  rw[if_neg A_]at hu
  exact h.2.1 j c u hc hu
def rU(h:Inv G n D E a w){f:IX->AV}(hf:∀(o:Operand)(x:IX),bN o x=true->dF (f x)=true->VR w G.R (f x) (a.eval o))(place:Nat->Option (Nat×Nat)):
 ∀(qs:List (Nat×Operand))(ps:List (Nat×Nat×IX))(cs ds:List AV)(vs:Array Value),
  (qs.length=ps.length/\∀(j:Nat)(q:Nat×Operand)(p:Nat×Nat×IX),qs[j]? =some q->ps[j]? =some p->place q.1=some (p.1,p.2.1)/\bN q.2 p.2.2=true)->
  Row w G.R cs vs->fill f cs ps=some ds->∃us,Instr.fill place vs (qs.map fun q=>(q.1,a.eval q.2))=some us/\Row w G.R ds us:=by
 intro qs
 induction qs with
 |nil=>
  intro ps cs ds vs hc hr hfl
  cases ps with
  |nil=>injection hfl with hfl;subst hfl;exact⟨vs,rfl,hr⟩
  |cons _ _=>simp at hc
 |cons q qs ih=>
  intro ps cs ds vs hc hr hfl
  cases ps with
  |nil=>simp at hc
  |cons p ps=>
   obtain⟨off,m,x⟩:=p
   obtain⟨hlen,ee⟩:=hc
   obtain⟨hp,hx⟩:=ee 0 q (off,m,x) rfl rfl
   simp[fill]at hfl
   cases TU:(dF (f x)&&((views (cellsOf (f x))).length==m&&decide (off+m<=cs.length)))with
   |false=>grind
   |true=>
    rw[TU]at hfl
    simp[Bool.and_eq_true,beq_iff_eq,decide_eq_true_eq]at TU
    obtain⟨hi,hm,dE⟩:=TU
    have dv:=(iM hi (hf q.2 x hx hi)).views
    have hsz:(a.eval q.2).cells.size=m:=by rw[dv.1,hm]
    have hcs:off+(a.eval q.2).cells.size<=vs.size:=by rw[hsz,hr.1];exact dE
    have hr':=hr.setAt dv (off:=off) A_
    obtain⟨us,h1,h2⟩:=ih ps _ ds _ ⟨A_,fun j q' p' hq hp'=>ee (j+1) q' p' A_ A_⟩ hr' hfl
    simp[List.map_cons,Instr.fill]
    grind
def Od{fs:Array Field}:∀(qs:List (Nat×Operand))(ps:List (Nat×Nat×IX)),Aj P fs qs ps=true->
 qs.length=ps.length/\∀(j:Nat)(q:Nat×Operand)(p:Nat×Nat×IX),qs[j]? =some q->ps[j]? =some p->(∃f,fs[q.1]? =some f/\f.offset=p.1/\df P f.type p.2.1=true)/\bN q.2 p.2.2=true:=by
 intro qs
 induction qs with
 |nil=>intro ps hp;cases ps with
  |nil=>grind
  |cons _ _=>simp[Aj]at hp
 |cons q qs ih=>intro ps hp;cases ps with
  |nil=>simp[Aj]at hp
  |cons p ps=>
   simp[Aj]at hp
   grind
def xn{sz:Nat}:∀(qs:List (Nat×Operand))(ps:List (Nat×Nat×IX)),uj sz qs ps=true->
 qs.length=ps.length/\∀(j:Nat)(q:Nat×Operand)(p:Nat×Nat×IX),qs[j]? =some q->ps[j]? =some p->(q.1*sz=p.1/\p.2.1=sz)/\bN q.2 p.2.2=true:=by
 intro qs
 induction qs with
 |nil=>intro ps hp;cases ps with
  |nil=>grind
  |cons _ _=>simp[uj]at hp
 |cons q qs ih=>intro ps hp;cases ps with
  |nil=>simp[uj]at hp
  |cons p ps=>
   simp[uj,beq_iff_eq]at hp
   grind
def vm{t:TypeId}{z:List AV}(h:pK P t z=true):∃i v,P.info? t=some i/\i.zero=some v/\i.size=z.length/\(∀(w:World)(R:Nat->Nat),Row w R z v.cells)/\(∀(j:Nat)(c:AV)(u:Value),z[j]? =some c->v.cells[j]? =some u->cR u c=true):=by
 unfold pK at h
 split at h
 ·rename_i i hi
  split at h
  ·rename_i v hv
   simp[Bool.and_eq_true,beq_iff_eq]at h
   obtain⟨h1,h2⟩:=Cb h.1
   exact⟨i,v,hi,hv,h.2,fun w R=>⟨A_,fun j c u hc hu=>vS (h2 j c u hc A_) w R,CH h.1⟩,fun j c u hc hu=>h2 j c u hc A_⟩
  ·cases h
 ·cases h
def LI(w:World):∀(fs:List Field),(∀f∈fs,(P.info? f.type).isSome=true)->
 (fs.mapM (m:=Sem) fun f=>Prod.mk f.offset<$>sizeOf f.type).run P w=.ok (fs.map fun f=>(f.offset,P.cellsOf f.type)) w:=by
 intro fs
 induction fs with
 |nil=>intro _;rfl
 |cons f fs ih=>
  cases hi:P.info? f.type with
  |none=>grind
  |some i=>
   simp[sizeOf,typeInfo,Program.cellsOf]at ih⊢
   simp_all
def Vo(h:Inv G n D E a w){op:Op}{ty:TypeId}{z:List AV}{ps:List (Nat×Nat×IX)}(hc:aw P op ty (.build z ps)=true){av:AV}(hv:gN (pv (.build z ps) (xg true E) E) av):
 ∃v,runs P a op ty w v/\NR G w E a av v:=by
 cases op<;>first|(simp[aw]at hc;done)|skip
 rename_i t qs
 simp only[aw,Bool.and_eq_true]at hc
 obtain⟨hz,hc⟩:=hc
 obtain⟨ti,zv,hti,hzv,hsz,dv,_⟩:=vm hz
 have hv':gN (CA (fill (xg true E) z ps)) av:=hv
 cases hfl:fill (xg true E) z ps with
 |none=>rw[hfl]at hv';exact hv'.no.elim
 |some ds=>
  rw[hfl]at hv'
  have hav:av=.agg ds:=hv'.c8
  subst hav
  have hzr:(zeroValue t).run P w=.ok zv w:=by simp[zeroValue,typeInfo,hti,hzv]
  have hf:∀(o:Operand)(x:IX),bN o x=true->dF (xg true E x)=true->VR w G.R (xg true E x) (a.eval o):=fun o x hx hi=>(BR.aQ h hx).vr hi
  split at hc<;>try(cases hc;done)
  ·rename_i fs ht
   rw[Bool.and_eq_true]at hc
   obtain⟨hp,ee⟩:=hc
   obtain⟨hl,hp⟩:=Od _ _ hp
   have XJ:(fs.mapM (m:=Sem) fun f=>Prod.mk f.offset<$>sizeOf f.type).run P w=.ok (fs.map fun f=>(f.offset,P.cellsOf f.type)) w:=by
    have:=LI (P:=P) w fs.toList (fun f hf=>by grind [Array.all_eq_true'])
    rw[Array.mapM_eq_mapM_toList]
    simp only[Sem.run_map,this,Result.andThen_ok]
    congr 1
    apply Array.ext'
    simp
   obtain⟨us,h1,h2⟩:=rU h hf ((fs.map fun f=>(f.offset,P.cellsOf f.type))[·]?) qs.toList ps z ds zv.cells
    ⟨hl,fun j q p hq hp'=>by grind [lx,Program.cellsOf]⟩ (dv w G.R) hfl
   refine⟨.agg us,fun _ _ _ _=>?_,NR.mk rfl (.agg _ _ h2.2.2 h2.1 h2.2.1) rfl⟩
   simp only[Array.getElem?_map]at h1
   simp[execOp,Instr.build,hzr,run_underlying ht,XJ,h1]
  ·rename_i m e ht
   split at hc<;>try(cases hc;done)
   rename_i ei hei
   obtain⟨hl,hp⟩:=xn _ _ hc
   obtain⟨us,h1,h2⟩:=rU h hf (fun i=>some (i*ei.size,ei.size)) qs.toList ps z ds zv.cells
    ⟨hl,fun j q p hq hp'=>A_⟩ (dv w G.R) hfl
   refine⟨.agg us,fun _ _ _ _=>?_,NR.mk rfl (.agg _ _ h2.2.2 h2.1 h2.2.1) rfl⟩
   simp[execOp,Instr.build,hzr,run_underlying ht,sizeOf,typeInfo,hei,h1]
def tj(h:Inv G n D E a w){f:IX->AV}(hf:∀(o:Operand)(x:IX),bN o x=true->dF (f x)=true->VR w G.R (f x) (a.eval o)):
 ∀(os:List Operand)(xs:List IX)(as:List AV),gZ os xs=true->cL f xs=some as->as.length=os.length/\(∀c∈as,dF c=true/\view c=c)/\
  ∀(j:Nat)(c:AV)(u:Value),as[j]? =some c->(os.map a.eval)[j]? =some u->VR w G.R c u:=by
 intro os
 induction os with
 |nil=>
  intro xs as hc hv
  cases xs with
  |nil=>injection hv with hv;grind
  |cons _ _=>simp[gZ]at hc
 |cons o os ih=>
  intro xs as hc hv
  cases xs with
  |nil=>simp[gZ]at hc
  |cons x xs=>
   simp[gZ,Bool.and_eq_true]at hc
   simp[cL]at hv
   cases hr:cL f xs with
   |none=>grind [Qt]
   |some as'=>
    rw[hr]at hv
    simp[Qt]at hv
    cases hi:dF (f x)with
    |false=>grind
    |true=>
     rw[hi]at hv
     injection hv with hv;subst hv
     obtain⟨h1,h2,h3⟩:=ih xs as' hc.2 hr
     refine⟨A_,?_,fun j c u hcj hu=>?_⟩
     ·intro c hcm
      rcases List.mem_cons.1 hcm with rfl|hcm
      ·grind [lL,mJ]
      grind
     ·cases j with
      |zero=>simp at hcj hu;subst hcj;subst hu;exact(hf o x hc.1 hi).view
      |succ j=>grind
def Ry(h:Inv G n D E a w){op:Op}{ty:TypeId}{fi:Nat}{fs cs:List IX}(hc:aw P op ty (.ue fi fs cs)=true){av:AV}(hv:gN (pv (.ue fi fs cs) (xg true E) E) av):
 ∃v,runs P a op ty w v/\NR G w E a av v:=by
 cases op<;>first|(simp[aw]at hc;done)|skip
 rename_i g c d
 cases g<;>first|(simp[aw]at hc;done)|skip
 rename_i g
 simp only[aw,Bool.and_eq_true,beq_iff_eq]at hc
 obtain⟨⟨rfl,h1⟩,h2⟩:=hc
 have hf:∀(o:Operand)(x:IX),bN o x=true->dF (xg true E x)=true->VR w G.R (xg true E x) (a.eval o):=fun o x hx hi=>(BR.aQ h hx).vr hi
 have hv':gN (uT fi (cL (xg true E) fs) (cL (xg true E) cs)) av:=hv
 unfold uT at hv'
 split at hv'
 ·rename_i x y hx hy
  have hav:=hv'.c8
  subst hav
  obtain⟨a1,_,a3⟩:=tj h hf _ _ _ h1 hx
  obtain⟨b1,_,b3⟩:=tj h hf _ _ _ h2 hy
  refine⟨.func (.func fi) (c.map a.eval) (d.map a.eval),fun _ _ _ _=>D_,NR.mk rfl (.fn fi x y _ _ ?_ (fun j c' u hc' hu=>a3 j c' u hc' ?_) ?_ (fun j c' u hc' hu=>b3 j c' u hc' ?_)) rfl⟩
  ·grind
  ·grind
  ·grind
  grind
 ·exact hv'.no.elim
def Rz(h:Inv G n D E a w){op:Op}{ty:TypeId}{mx:Bool}{xs:List IX}(hc:aw P op ty (.mq mx xs)=true){av:AV}(hv:gN (pv (.mq mx xs) (xg true E) E) av):
 ∃v,runs P a op ty w v/\NR G w E a av v:=by
 have key:∀(ys:List Operand),gZ ys xs=true->∃(k:IntKind)(m:Int)(y:Operand)(ys':List Operand),ys=y::ys'/\av=.int k m/\∃m0,a.eval y=.int k m0/\
  ((ys'.map a.eval).foldlM (if mx then Builtin.max2 else Builtin.min2) (.int k m0)).run P w=.ok (.int k m) w:=by
  intro ys hx
  have hv':gN (uU mx (xs.map (xg true E))) av:=hv
  cases xs with
  |nil=>exact hv'.no.elim
  |cons x xs=>
   cases ys with
   |nil=>simp[gZ]at hx
   |cons y ys=>
    simp only[gZ,Bool.and_eq_true]at hx
    have hb:=BR.aQ h hx.1
    simp only[List.map_cons]at hv'
    generalize xg true E x=xv at hb hv'
    cases xv<;>simp only[uU]at hv'<;>try(exact hv'.no.elim)
    rename_i k m0
    cases hr:LK mx m0 (xs.map (xg true E))with
    |none=>rw[hr]at hv';exact hv'.no.elim
    |some r=>
     rw[hr]at hv'
     have hav:av=.int k r:=hv'.c8
     exact⟨k,r,y,ys,rfl,hav,m0,VR.b9 hb,Yi mx k h xs ys hx.2 m0 r hr⟩
 cases op<;>first|(cases mx<;>simp[aw]at hc;done)|skip
 rename_i c
 cases mx with
 |true=>
  simp only[aw]at hc
  split at hc<;>try(cases hc;done)
  rename_i ys ts hb
  have hce:=qm hb
  subst hce
  obtain⟨k,m,y,ys',rfl,rfl,m0,e0,hr⟩:=key ys hc
  refine⟨.int k m,fun _ _ _ _=>?_,NR.mk rfl (.int _ _) rfl⟩
  simp only[if_true]at hr
  simp[execOp,resolve,invoke,builtin,Builtin.max_,e0,hr]
 |false=>
  simp only[aw]at hc
  split at hc<;>try(cases hc;done)
  rename_i ys ts hb
  have hce:=qm hb
  subst hce
  obtain⟨k,m,y,ys',rfl,rfl,m0,e0,hr⟩:=key ys hc
  refine⟨.int k m,fun _ _ _ _=>?_,NR.mk rfl (.int _ _) rfl⟩
  simp only[Bool.false_eq_true,if_false]at hr
  simp[execOp,resolve,invoke,builtin,Builtin.min_,e0,hr]
def adl(h:Inv G n D E a w){op:Op}{ty:TypeId}{x:IX}(hc:aw P op ty (.cap x)=true){av:AV}(hv:gN (pv (.cap x) (xg true E) E) av):
 ∃v,runs P a op ty w v/\NR G w E a av v:=by
 cases op<;>first|(simp[aw]at hc;done)|skip
 simp only[aw]at hc
 split at hc<;>try(cases hc)
 rename_i y ys t ts hb
 have hce:=qm hb
 subst hce
 simp[Bool.and_eq_true]at hc
 obtain⟨hy,hsl⟩:=hc
 have hv':gN (M4 (xg true E x)) av:=hv
 have hbx:=BR.aQ h hy
 generalize xg true E x=xv at hbx hv'
 cases he:cV P t with
 |none=>grind
 |some e=>
 have ht:=de he
 unfold M4 at hv'
 split at hv'
 ·rename_i b o l cap
  rw[hv'.c8]
  refine⟨.int .i64 cap,fun _ _ _ _=>?_,NR.mk rfl (.int _ _) rfl⟩
  have hr:∀w',w'=w->(Builtin.cap_ (t::ts).toArray ty ((y::ys).toArray.map a.eval)).run P w'=.ok (.int .i64 cap) w':=fun w' _=>by rcases VR.cK hbx with e1|⟨_,rfl,e1⟩<;>simp[Builtin.cap_,run_underlying ht,goInt,e1]
  simp[execOp,resolve,invoke,builtin]at hr⊢;simp[hr]
 ·exact hv'.no.elim
def XW{t:TypeId}(h:XV P t=true):∃k,P.underlying t=some (.int k):=by grind [XV]
def VR.Up{R:Nat->Nat}{v:Value}(h:VR w R .pP v):v=.nilFunc:=R_
def ado(h:Inv G n D E a w){op:Op}{ty:TypeId}{ne:Bool}{x:IX}(hc:aw P op ty (.Xn ne x)=true){av:AV}(hv:gN (pv (.Xn ne x) (xg true E) E) av):
 ∃v,runs P a op ty w v/\NR G w E a av v:=by
 cases op<;>first|(simp[aw]at hc;done)|skip
 rename_i b t u v yt
 simp only[aw,Bool.and_eq_true,decide_eq_true_eq]at hc
 obtain⟨⟨⟨rfl,hx⟩,hy⟩,ht⟩:=hc
 have e2:a.eval v=.nilFunc:=by
  split at hy
  ·rfl
  ·cases hy
 split at ht<;>try(cases ht;done)
 rename_i q1 q2 q3 htu
 have hbx:=BR.aQ h hx
 have hv':gN (KQ ne (xg true E x)) av:=hv
 generalize xg true E x=xv at hbx hv'
 have key:∀(fv:Value)(r:Bool),a.eval u=fv->(∀d:Nat,(Op.equalIn (d+1) t fv .nilFunc).run P w=.ok r w)->runs P a (.binOp (if ne=true then .neq else .eql) t u v yt) ty w (.bool (r !=ne)):=by
  intro fv r e1 hr _ _ _ _
  have hq:(Op.equal t fv .nilFunc).run P w=.ok r w:=hr 9999
  cases fv<;>cases ne<;>simp[execOp,e1,e2,eqGuard,binOp,hq]
 unfold KQ at hv'
 split at hv'
 ·rename_i f first fC
  rw[hv'.c8]
  obtain⟨vf,vc,e1,_⟩:=VR.IT hbx
  have:=key _ false e1 fun d=>Xc0
  exact⟨_,this,NR.mk rfl Xc1 rfl⟩
 ·rw[hv'.c8]
  have e1:=VR.Up hbx
  have:=key _ true e1 fun d=>Xc0
  exact⟨_,this,NR.mk rfl Xc1 rfl⟩
 ·exact hv'.no.elim
def VR.Uq{R:Nat->Nat}{v:Value}(h:VR w R .mw v):v=.nilIface:=R_
def adp(h:Inv G n D E a w){op:Op}{ty:TypeId}{ne:Bool}{x:IX}(hc:aw P op ty (.Xo ne x)=true){av:AV}(hv:gN (pv (.Xo ne x) (xg true E) E) av):
 ∃v,runs P a op ty w v/\NR G w E a av v:=by
 cases op<;>first|(simp[aw]at hc;done)|skip
 rename_i b t u v yt
 simp only[aw,Bool.and_eq_true,decide_eq_true_eq]at hc
 obtain⟨⟨⟨rfl,hx⟩,hy⟩,ht⟩:=hc
 have hvc:v=.const .nilIface:=by
  split at hy
  ·rfl
  ·cases hy
 subst hvc
 have e2:a.eval (.const .nilIface)=.nilIface:=rfl
 split at ht<;>try(cases ht;done)
 rename_i q1 htu
 have hbx:=BR.aQ h hx
 have hv':gN (KR ne (xg true E x)) av:=hv
 generalize xg true E x=xv at hbx hv'
 have key:∀(fv:Value)(r:Bool),a.eval u=fv->(∀d:Nat,(Op.equalIn (d+1) t fv .nilIface).run P w=.ok r w)->runs P a (.binOp (if ne=true then .neq else .eql) t u (.const .nilIface) yt) ty w (.bool (r !=ne)):=by
  intro fv r e1 hr _ _ _ _
  have hq:(Op.equal t fv .nilIface).run P w=.ok r w:=hr 9999
  cases fv<;>cases ne<;>simp[execOp,e1,e2,eqGuard,binOp,hq]
 unfold KR at hv'
 split at hv'
 ·rw[hv'.c8]
  have e1:=VR.Uq hbx
  have:=key _ true e1 fun d=>Xc0
  exact⟨_,this,NR.mk rfl Xc1 rfl⟩
 ·exact hv'.no.elim
def yV(h:Inv G n D E a w){op:Op}{ty:TypeId}{o:rF}(hc:aw P op ty o=true){av:AV}(hv:gN (pv o (xg true E) E) av):
 ∃v,runs P a op ty w v/\NR G w E a av v:=by
 cases o with
 |px tr x=>cases tr with
  |false=>exact adt h hc hv
  |true=>exact(gN.no hv).elim
 |pick c x y=>exact YG h hc hv
 |bin b x y=>exact adk h hc hv
 |eqB ne x y=>exact adn h hc hv
 |WB ne x y=>exact adq h hc hv
 |WC ne x y=>exact adr h hc hv
 |un u x=>exact ahC h hc hv
 |nx k x=>exact Rv h hc hv
 |load m mu x=>exact Jo h hc hv
 |lU x i=>exact RA h hc hv
 |nilCheck x=>exact L6 h hc hv
 |fieldAddr off x=>exact Jm h hc hv
 |indexAddr sz x i=>exact Jn h hc hv
 |jz sz len x i=>exact Fy h hc hv
 |slice sz x lo hi mx=>exact Vs h hc hv
 |qy x lo hi=>exact RB h hc hv
 |len cls x=>exact ads h hc hv
 |mq mx xs=>exact Rz h hc hv
 |extract x k=>exact Oh h hc hv
 |build z ps=>exact Vo h hc hv
 |ue f a b=>exact Ry h hc hv
 |kP x=>exact Rx h hc hv
 |kE z m x=>exact Vr h hc hv
 |nN k x=>exact Vq h hc hv
 |cap x=>exact adl h hc hv
 |Xn ne x=>exact ado h hc hv
 |Xo ne x=>exact adp h hc hv
 |_=>exact(gN.no hv).elim
end
def Gh.pR(G:Gh)(b:Nat)(o:dh)(r:Nat):Gh:=⟨fun i=>if i=b then r else G.R i,fun i=>if i=b then o else G.O i⟩
@[simp]theorem Gh.Wg(G:Gh)(b:Nat)(o:dh)(r i:Nat):(G.pR b o r).O i=if i=b then o else G.O i:=rfl
@[simp]theorem Gh.abp(G:Gh)(b:Nat)(o:dh)(r i:Nat):(G.pR b o r).R i=if i=b then r else G.R i:=rfl
def Gh.ib(G:Gh)(o o':dh):Gh:=⟨G.R,fun i=>if G.O i=o then o' else G.O i⟩
@[simp]theorem Gh.ajv(G:Gh)(o o':dh)(i:Nat):(G.ib o o').O i=if G.O i=o then o' else G.O i:=rfl
section
variable{P:Program}{G G':Gh}{n:Nat}{D:List Deferred}{E:St}{a:Act}{w w':World}
def ba.yI{s:ae}(h:ba G w s)(hv:∀a v,VR w G.R a v->VR w' G'.R a v)
 (hsh:∀b,G.O b=.sh->G'.O b=.sh/\G'.R b=G.R b/\w'.heap[b]? =w.heap[b]?)
 (dG:∀b c j,G.O b=.sh->G.O c=.cell b j->G'.O c=.cell b j/\G'.R c=G.R c/\w'.heap[c]? =w.heap[c]?):ba G' w' s:=by
 intro b o hb
 obtain⟨h1,h2,h3⟩:=h b o hb
 obtain⟨k1,k2,k3⟩:=hsh b h1
 refine⟨k1,k2.trans h2,?_⟩
 cases o with
 |cells cs=>
  obtain⟨c,t,h4,h5,h6⟩:=h3
  exact⟨c,t,k3.trans h4,h5.mono hv (fun b' j hb'=>dG b b' j h1 hb'),h6⟩
 |map es=>
  obtain⟨jV,clock,h4,h5,h6⟩:=h3
  exact⟨jV,clock,k3.trans h4,h5,fun j x y hx hy=>⟨hv _ _ (h6 j x y hx hy).1,hv _ _ (h6 j x y hx hy).2⟩⟩
def ba.mono{s:ae}(h:ba G w s)(hg:cq G w)(hp:aI G w G' w')
 (hsh:∀b,G.O b=.sh->G'.O b=.sh/\G'.R b=G.R b/\w'.heap[b]? =w.heap[b]?)
 (dG:∀b c j,G.O b=.sh->G.O c=.cell b j->G'.O c=.cell b j/\G'.R c=G.R c/\w'.heap[c]? =w.heap[c]?):ba G' w' s:=
 h.yI (fun _ _ hv=>hp.vr hg hv) hsh dG
def cq.lt(h:cq G w){b:Nat}(ho:G.O b≠.none):b<w.heap.size:=by
 rcases Nat.lt_or_ge b w.heap.size with hb|hb
 ·exact hb
 ·exact absurd (h.jI b hb) ho
def fR(hg:cq G w)(ob:Obj)(o:dh)(r:Nat):
 cq (G.pR w.heap.size o r) (w.alloc ob)/\aI G w (G.pR w.heap.size o r) (w.alloc ob)/\
 (∀b,G.O b≠.none->(G.pR w.heap.size o r).O b=G.O b/\(G.pR w.heap.size o r).R b=G.R b/\(w.alloc ob).heap[b]? =w.heap[b]?):=by
 have hsz:(w.alloc ob).heap.size=w.heap.size+1:=Array.size_push ..
 refine⟨⟨fun b hb=>?_,fun b hb=>?_⟩,⟨rfl,rfl,rfl,Nat.le_refl _,BY,fun b hb=>?_,fun b k hb _=>?_,fun b hb _=>heap_alloc_old w ob b hb,fun b hb ho=>?_,fun b hb ho=>?_⟩,fun b ho=>?_⟩
 ·have:b≠w.heap.size:=AT
  simp[this,hg.jI b AT]
 ·have:b≠w.heap.size:=AT
  simp[this,hg.jY b AT]
 ·have:b≠w.heap.size:=AT
  simp[this]
 ·grind [World.cell?_of_block,heap_alloc_old]
 ·have:b≠w.heap.size:=AT
  simp_all
 ·have:b≠w.heap.size:=AT
  simp_all
 ·have hb:=hg.lt ho
  have:b≠w.heap.size:=AT
  exact⟨H_,H_,heap_alloc_old w ob b hb⟩
def k9{s:ae}(h:ba G w s)(hg:cq G w)(ob:Obj)(o:dh)(r:Nat):ba (G.pR w.heap.size o r) (w.alloc ob) s:=by
 obtain⟨_,h2,h3⟩:=fR hg ob o r
 refine h.mono hg h2 (fun b hb=>?_) (fun b c j _ hc=>?_)
 ·grind
 grind
theorem Inv.alloc(h:Inv G n D E a w)(ob:Obj)(o:dh)(r:Nat){s':ae}(d:Option Nat)(hd:bq n d=true)(av:AV)(v:Value)(lp':List (Nat×Nat))
 (ez:ba (G.pR w.heap.size o r) (w.alloc ob) s')
 (hlp:∀x∈E.lp,x∈lp')(agy:∀i t,d=some i->bO av t->(i,t)∈lp')
 (aao:∀i t,d=some i->(∃cs,av=.loc cs)->(t,i)∉E.lp)
 (XI:∀i,d=some i->dZ (G.pR w.heap.size o r) (w.alloc ob) ((E.put d av).e) (a.put d v).tmps i av v):
 Inv (G.pR w.heap.size o r) n D {(E.put d av)with s:=s',lp:=lp'} (a.put d v) (w.alloc ob)/\aI G w (G.pR w.heap.size o r) (w.alloc ob):=by
 obtain⟨h1,h2,h3⟩:=fR h.bc ob o r
 refine⟨h.put d (fun i hi=>IF) av v h1 h2 ez hlp agy aao (fun i b _ hb=>h3 b ?_) (fun i b c j _ hb hc=>?_) XI,h2⟩
 ·grind
 grind
def ba.get_none(h:ba G w E.s)(hg:cq G w):E.s w.heap.size=none:=by
 cases hs:E.s w.heap.size with
 |none=>rfl
 |some o=>
  have:=(h _ _ hs).1
  rw[hg.jI _ (Nat.le_refl _)]at this
  cases this
def LF{lp:List (Nat×Nat)}{d:Option Nat}(h:mn lp d=true):∀i t,d=some i->(t,i)∉lp:=by
 intro i t hd hm
 subst hd
 simp only[mn,List.all_eq_true]at h
 have:=h _ hm
 simp at this
theorem aX{o:Oper}{v:Value}{next:Act->World->Prop}{Q:Exit->Act->World->Prop}(hr:(execOp a.eval o).run P w=.ok (.value v) w')(hn:next (a.put o.dst v) w'):o.wp P a w next Q:=by
 unfold Oper.wp
 rw[hr]
 exact hn
def zg{o:Oper}{next:Act->World->Prop}{Q:Exit->Act->World->Prop}(hr:(execOp a.eval o).run P w=.ok .skip w')(hn:next (a.put o.dst undef) w'):o.wp P a w next Q:=by
 unfold Oper.wp
 rw[hr]
 exact hn
def Inv.L9(h:Inv G n D E a w)(i:Nat)(hi:i<n)(av:AV)(hnl:∀t,¬bO av t)(agA:∀cs,av≠.loc cs)
 (hv:∀v,a.tmps[i]? =some v->dZ G w ((E.put (some i) av).e) a.tmps i av v):Inv G n D (E.put (some i) av) a w:=by
 have hlt:i<a.tmps.size:=by rw[h.size];exact hi
 have ha:a.put (some i) a.tmps[i]=a:=by
  have:a.tmps.setIfInBounds i a.tmps[i]=a.tmps:=A_
  simp[Act.put,this]
 have:=h.put (some i) (fun j hj=>A_) av a.tmps[i] h.bc (aI.refl G w) h.store (fun x hx=>hx) (fun j t _ ht=>(hnl t ht).elim)
  (fun j t _⟨cs,hcs⟩=>(agA cs hcs).elim) (fun _ b _ _=>⟨rfl,rfl,rfl⟩) (fun _ b c j _ _ hc=>⟨hc,rfl,rfl⟩)
  (fun j hj=>A_)
 rw[ha]at this
 exact this
theorem fp{av:AV}(h:dF av=true)(t:Nat):¬bO av t:=by cases av<;>simp_all [dF,bO]
def og{av:AV}(h:dF av=true)(cs:List AV):av≠.loc cs:=by grind [dF]
def Inv.Dz(h:Inv G n D E a w){i:Nat}(hi:look E.e i≠.undef):i<n:=by
 rcases Nat.lt_or_ge i n with hlt|hge
 ·exact hlt
 ·exact absurd (h.E6 i hge) hi
def Kq{o:Operand}{i:Nat}(h:bN o (.t i)=true):o=.tmp i:=by
 cases o with
 |tmp t=>grind [bN]
 |const v=>grind [bN]
 |_=>simp[bN]at h
def SR{o:Operand}{c:AV}(h:bN o (.c c)=true)(G:Gh)(w:World)(T:dh):dI G w T c (a.eval o):=by
 cases o with
 |tmp t=>simp[bN]at h
 |global g=>simp[bN]at h
 |func f=>cases c<;>first|trivial|(simp at h)
 |const v=>
  show dI G w T c v
  have hc:(∃cs,c=.agg cs)\/cR v c=true:=by
   cases v<;>first|exact .inr h|skip
   cases c<;>first|exact .inl ⟨_,rfl⟩|exact .inr h
  rcases hc with⟨cs,rfl⟩|hc
  ·trivial
  grind [CG]
theorem Inv.drain(h:Inv G n D E a w){x:IX}{o:Operand}(hx:bN o x=true)(hi:dF (E.x x)=true)(T:dh)(hT1:T≠.sh)(hT2:∀i,T≠.loc i):
 ∃G',Inv G' n D (E.drain x) a w/\aI G w G' w/\VR w G'.R (E.x x) (a.eval o)/\dI G' w T (E.x x) (a.eval o)/\G'.R=G.R/\(∀b,G'.O b=.sh↔G.O b=.sh)/\(∀b i,G'.O b=.loc i↔G.O b=.loc i)/\
  (∀b b' j,G.O b=.cell b' j->G'.O b=.cell b' j):=by
 have hvr:VR w G.R (E.x x) (a.eval o):=by
  have:=XR.aQ h hx
  generalize E.x x=av at hi this
  cases av<;>first|exact this|grind [dF]
 cases x with
 |c c=>
  refine⟨G,h,aI.refl G w,hvr,?_,rfl,fun _=>Iff.rfl,fun _ _=>Iff.rfl,fun _ _ _ hc=>hc⟩
  exact SR hx G w T
 |t i=>
  have hin:i<n:=h.Dz (fun e=>by rw[show E.x (.t i)=look E.e i from rfl,e]at hi;cases hi)
  have ho:o=.tmp i:=Kq hx
  subst ho
  have hlt:i<a.tmps.size:=Xc2
  have agp:=h.cH i _ (gw hlt)
  have hi':dF (look E.e i)=true:=hi
  rw[dZ.si hi']at agp
  have hne:∀b,G.O b≠.slot i 0->(G.ib (.slot i 0) T).O b=G.O b:=fun b hb=>by simp[hb]
  have bK:aI G w (G.ib (.slot i 0) T) w:=⟨rfl,rfl,rfl,Nat.le_refl _,Nat.le_refl _,fun _ _=>Nat.le_refl _,fun _ _ _ _=>rfl,fun _ _ _=>rfl,
   fun b _ hb=>⟨A_,rfl⟩,fun b _ hb=>⟨A_,rfl⟩⟩
  refine⟨G.ib (.slot i 0) T,?_,bK,hvr,?_,rfl,fun b=>?_,fun b k=>?_,fun b b' j hb=>A_⟩
  ·have h1:=h.L9 i hin (view (look E.e i)) (fp (lL hi')) (og (lL hi')) (fun v hv=>by
    grind [gw,dZ.yH])
   refine⟨⟨fun b hb=>by rw[hne b (by rw[h.bc.jI b hb];simp),h.bc.jI b hb],h.bc.jY⟩,?_,h1.size,fun k v hk=>?_,h1.E6,h1.MG,h1.qL⟩
   ·exact h.store.mono h.bc bK (fun b hb=>⟨A_,rfl,rfl⟩) (fun b c j _ hc=>⟨A_,rfl,rfl⟩)
   ·have h2:=h1.cH k v hk
    by_cases hki:k=i
    ·subst hki
     have e1:look (E.put (some k) (view (look E.e k))).e k=view (look E.e k):=Z_
     show dZ _ w _ _ k (look (E.put (some k) (view (look E.e k))).e k) v
     rw[e1]at h2⊢
     rw[dZ.si (lL hi')]at h2⊢
     exact⟨h2.1,dI.view ..⟩
    ·refine dZ.frame (G:=G) (G':=G.ib (.slot i 0) T) (w:=w) (fun _ _ hv=>hv) (fun b hb=>⟨hne b ?_,rfl,rfl⟩) (fun b c j _ hc=>⟨A_,rfl,rfl⟩) _ _ (fun d _ cs hcs=>⟨cs,hcs,rfl⟩) h2
     grind
  ·have:=agp.2
   show dI _ w T (look E.e i) _
   unfold dI at this⊢
   split
   ·rename_i sz m cs he
    rw[he]at this
    intro base m' cap hv hc
    obtain⟨b,off,c,e,fz,q1,q2,q3⟩:=this base m' cap hv hc
    exact⟨b,off,c,e,fz,q1,by simp[q2],q3⟩
   ·rename_i e m cs he
    rw[he]at this
    intro base m' cap hv hc
    obtain⟨b,off,c,fz,q1,q2,q3⟩:=this base m' cap hv hc
    exact⟨b,off,c,fz,q1,by simp[q2],q3⟩
   ·trivial
  ·by_cases hb:G.O b=.slot i 0
   ·simp[hb,hT1]
   grind
  ·by_cases hb:G.O b=.slot i 0
   ·simp[hb,hT2]
   grind
def pM(P:Program)(G:Gh)(n:Nat)(D:List Deferred)(w:World)(a:Act)(op:Op)(ty:TypeId)(d:Option Nat)(K:St->Prop):Prop:=
 ∀(pos:String)(after:Array Edge)(g:Option (Nat×Bool))(next:Act->World->Prop)(Q:Exit->Act->World->Prop),
  (∀G' E' a' w',Inv G' n D E' a' w'->aI G w G' w'->K E'->next a' w')->(⟨d,op,ty,pos,after,g⟩:Oper).wp P a w next Q
theorem Xk(h:Inv G n D E a w){op:Op}{ty:TypeId}{tr:Bool}{x:IX}{d:Option Nat}{K:St->Prop}(hd:bq n d=true)(hc:aw P op ty (.px tr x)=true)(hw:ju P (.px tr x) d E K):pM P G n D w a op ty d K:=by
 obtain⟨hi,hk⟩:=hw
 have key:∀y,bN y x=true->∃G',Inv G' n D ((E.drain x).put d (E.x x)) (a.put d (a.eval y)) w/\aI G w G' w:=by
  intro y hy
  obtain⟨G',h1,h2,h3,h4,_⟩:=h.drain hy hi (match d with|some d=>.slot d 0|none=>.frame) A_ A_
  refine⟨G',?_,h2⟩
  have:=h1.put d (fun i hi=>IF) (E.x x) (a.eval y) h1.bc (aI.refl G' w) h1.store (fun _ hx=>hx) (fun i t _ ht=>(fp hi t ht).elim) (fun i t _⟨cs,hcs⟩=>(og hi cs hcs).elim)
   (fun _ _ _ _=>⟨rfl,rfl,rfl⟩) (fun _ _ _ _ _ _ hcc=>⟨hcc,rfl,rfl⟩) (fun i hdi=>by grind [dZ.si])
  cases d<;>exact this
 intro pos after g next Q hn
 cases op<;>first|(simp[aw]at hc)|skip
 ·rename_i y
  obtain⟨G',h1,h2⟩:=key y hc
  exact aX rfl (hn G' _ _ _ h1 h2 hk)
 ·rename_i y
  obtain⟨G',h1,h2⟩:=key y hc
  exact aX rfl (hn G' _ _ _ h1 h2 hk)
def Ie{G:Gh}{w:World}{o:Nat->dh}{z:List AV}{c:Array Value}(h:Row w G.R z c)(h2:∀(j:Nat)(x:AV)(u:Value),z[j]? =some x->c[j]? =some u->cR u x=true):dY G w o z c:=⟨h.1,fun j x y hx hy=>⟨h.2.1 j x y hx hy,CG (h2 j x y hx hy) G w _⟩⟩
def nw{G:Gh}{w:World}{o:Nat->dh}{z:List AV}{c:Array Value}(h:Row w G.R z c):dY G w o (views z) c:=
 ⟨h.views.1,fun j x y hx hy=>⟨h.views.2.1 j x y hx hy,by grind [fx,dI.view]⟩⟩
def Row.mono{R R':Nat->Nat}{z:List AV}{c:Array Value}(h:Row w R z c)(hv:∀a v,VR w R a v->VR w' R' a v):Row w' R' z c:=⟨h.1,fun j x y hx hy=>hv _ _ (h.2.1 j x y hx hy),h.2.2⟩
def Inv.ahi(h:Inv G n D E a w){d:Option Nat}(hd:bq n d=true)(hf:mn E.lp d=true){cs:List AV}{c:Array Value}{t:TypeId}
 (hcs:∀(G':Gh)(w':World)(o:Nat->dh),aI G w G' w'->dY G' w' o cs c)(hfl:Fl cs):
 ∃G',Inv G' n D (E.put d (.loc cs)) (a.put d (.pointer (some ⟨w.heap.size,0,none⟩))) (w.alloc (.cells c t))/\aI G w G' (w.alloc (.cells c t)):=by
 let o:dh:=match d with|some d=>.loc d|none=>.none
 have hp:=(fR h.bc (.cells c t) o 0).2.1
 obtain⟨h1,h2⟩:=h.alloc (.cells c t) o 0 d hd (.loc cs) (.pointer (some ⟨w.heap.size,0,none⟩)) E.lp (k9 h.store h.bc _ o 0) (fun _ hx=>hx) (fun i t' _ ht=>ht.elim) (fun i t' hi _=>LF hf i t' hi)
  (fun i hi=>by
    subst hi
    exact⟨w.heap.size,c,t,rfl,by simp[o],BY,heap_alloc_new w _,hcs _ _ _ hp,hfl⟩)
 exact⟨_,Ξ,h2⟩
def Inv.aaH(h:Inv G n D E a w){d:Option Nat}(hd:bq n d=true){cs:List AV}{c:Array Value}{t:TypeId}{av:AV}{v:Value}(hav:av=.ref w.heap.size 0/\v=.pointer (some ⟨w.heap.size,0,none⟩)\/∃l m,av=.arr w.heap.size 0 l m/\v=.slice (some ⟨w.heap.size,0,none⟩) l m)
 (hcs:∀(G':Gh)(w':World)(o:Nat->dh),aI G w G' w'->dY G' w' o cs c)(hfl:Gk t cs):
 ∃G',Inv G' n D ({E with s:=E.s.set w.heap.size (.cells cs)}.put d av) (a.put d v) (w.alloc (.cells c t))/\aI G w G' (w.alloc (.cells c t)):=by
 have hp:=(fR h.bc (.cells c t) .sh 0).2.1
 have hs:ba (G.pR w.heap.size .sh 0) (w.alloc (.cells c t)) (E.s.set w.heap.size (.cells cs)):=by
  intro b o hb
  unfold ae.set at hb
  by_cases he:b=w.heap.size
  ·rw[if_pos he]at hb
   injection hb with hb
   subst hb;subst he
   exact⟨BY,BY,c,t,heap_alloc_new w _,hcs _ _ _ hp,hfl⟩
  ·rw[if_neg he]at hb
   exact k9 h.store h.bc _ .sh 0 b o hb
 have hv:dF av=true/\VR (w.alloc (.cells c t)) (G.pR w.heap.size .sh 0).R av v/\∀sz m cs,av≠.sl true sz m cs:=by
  rcases hav with⟨rfl,rfl⟩|⟨l,m,rfl,rfl⟩
  ·exact⟨rfl,.ref _ _,BY⟩
  ·exact⟨rfl,.arr _ _ _ _,BY⟩
 obtain⟨h1,h2⟩:=h.alloc (.cells c t) .sh 0 d hd av v E.lp hs (fun _ hx=>hx) (fun i t' _ ht=>(fp hv.1 t' ht).elim) (fun i t' _⟨cs',zJ⟩=>(og hv.1 cs' zJ).elim)
  (fun i hi=>by
    rw[dZ.si hv.1]
    refine⟨hv.2.1,?_⟩
    rcases hav with⟨e,_⟩|⟨l,m,e,_⟩<;>rw[e]<;>trivial)
 refine⟨_,?_,h2⟩
 cases d<;>exact h1
def Inv.N6(h:Inv G n D E a w){d:Option Nat}(hd:bq n d=true){cs:List AV}{c:Array Value}{t:TypeId}{av:AV}{v:Value}(hav:av=.ref w.heap.size 0/\v=.pointer (some ⟨w.heap.size,0,none⟩)\/∃l m,av=.arr w.heap.size 0 l m/\v=.slice (some ⟨w.heap.size,0,none⟩) l m)
 (hcs:∀(G':Gh)(w':World)(o:Nat->dh),aI G w G' w'->dY G' w' o cs c)(hfl:Fl cs):
 ∃G',Inv G' n D ({E with s:=E.s.set w.heap.size (.cells cs)}.put d av) (a.put d v) (w.alloc (.cells c t))/\aI G w G' (w.alloc (.cells c t)):=h.aaH hd hav hcs (hfl.tag t)
theorem Gt(h:Inv G n D E a w){op:Op}{ty:TypeId}{z:List AV}{d:Option Nat}{K:St->Prop}(hd:bq n d=true):
 (aw P op ty (.kj z)=true->ju P (.kj z) d E K->pM P G n D w a op ty d K)/\(aw P op ty (.nv z)=true->ju P (.nv z) d E K->pM P G n D w a op ty d K):=by
 have run:∀t,pK P t z=true->∃c:Array Value,(∀(dst:Option Tmp)(pos:String)(after:Array Edge) g,(execOp a.eval ⟨dst,.alloc t,ty,pos,after,g⟩).run P w=.ok (.value (.pointer (some ⟨w.heap.size,0,none⟩))) (w.alloc (.cells c t)))/\
  (∀(G':Gh)(w':World)(o:Nat->dh),dY G' w' o z c)/\Fl z:=by
  intro t hz
  obtain⟨i,v,h1,h2,_,h4,h5⟩:=vm hz
  refine⟨v.cells,fun _ _ _ _=>?_,fun G' w' o=>Ie (h4 w' G'.R) h5,(h4 w G.R).2.2⟩
  simp[execOp,Instr.alloc,zeroValue,typeInfo,h1,h2,newVar,newRow]
 constructor
 ·intro hc hw pos after g next Q hn
  cases op<;>first|(simp[aw]at hc;done)|skip
  rename_i t
  obtain⟨c,hr,hcs,hfl⟩:=run t hc
  obtain⟨G',h1,h2⟩:=h.ahi hd hw.1 (c:=c) (t:=t) (fun G' w' o _=>hcs G' w' o) hfl
  exact aX (hr d pos after g) (hn G' _ _ _ h1 h2 hw.2)
 ·intro hc hw pos after g next Q hn
  cases op<;>first|(simp[aw]at hc;done)|skip
  rename_i t
  obtain⟨c,hr,hcs,hfl⟩:=run t hc
  obtain⟨G',h1,h2⟩:=h.N6 hd (c:=c) (t:=t) (.inl ⟨rfl,rfl⟩) (fun G' w' o _=>hcs G' w' o) hfl
  exact aX (hr d pos after g) (hn G' _ _ _ h1 h2 (hw w.heap.size (h.store.get_none h.bc)))
theorem Pg(h:Inv G n D E a w){op:Op}{ty:TypeId}{m:Nat}{x:IX}{d:Option Nat}{K:St->Prop}(hd:bq n d=true):
 (aw P op ty (.Kg m x)=true->ju P (.Kg m x) d E K->pM P G n D w a op ty d K)/\(aw P op ty (.Bq m x)=true->ju P (.Bq m x) d E K->pM P G n D w a op ty d K):=by
 have run:∀t y,∀(dst:Option Tmp)(pos:String)(after:Array Edge)(g:Option (Nat×Bool)),(execOp a.eval ⟨dst,.box t y,ty,pos,after,g⟩).run P w=.ok (.value (.pointer (some ⟨w.heap.size,0,none⟩))) (w.alloc (.cells (a.eval y).cells t)):=by
  intro t y _ _ _ _
  simp[execOp,Instr.box,newVar,newRow]
 have cells:∀y,bN y x=true->dF (E.x x)=true->(∀(G':Gh)(w':World)(o:Nat->dh),aI G w G' w'->dY G' w' o (views (cellsOf (E.x x))) (a.eval y).cells)/\Fl (views (cellsOf (E.x x))):=by
  intro y hy hi
  have hvr:VR w G.R (E.x x) (a.eval y):=by
   have:=XR.aQ h hy
   generalize E.x x=av at hi this
   cases av<;>first|exact this|grind [dF]
  exact⟨fun G' w' o hp=>nw ((iM hi hvr).mono fun _ _ hv=>hp.vr h.bc hv),(iM hi hvr).2.2.views⟩
 have SM:∀y,bN y x=true->dF (xg true E x)=true->(∀(G':Gh)(w':World)(o:Nat->dh),aI G w G' w'->dY G' w' o (views (cellsOf (xg true E x))) (a.eval y).cells)/\Fl (views (cellsOf (xg true E x))):=by
  intro y hy hi
  have hvr:VR w G.R (xg true E x) (a.eval y):=(BR.aQ h hy).vr hi
  exact⟨fun G' w' o hp=>nw ((iM hi hvr).mono fun _ _ hv=>hp.vr h.bc hv),(iM hi hvr).2.2.views⟩
 constructor
 ·intro hc hw pos after g next Q hn
  cases op<;>first|(simp[aw]at hc;done)|skip
  rename_i t y
  simp only[aw,Bool.and_eq_true]at hc
  obtain⟨hf,hi,_,hk⟩:=hw
  obtain⟨G',h1,h2⟩:=h.ahi hd hf (t:=t) (cells y hc.2 hi).1 (cells y hc.2 hi).2
  grind [aX]
 ·intro hc hw pos after g next Q hn
  cases op<;>first|(simp[aw]at hc;done)|skip
  rename_i t y
  simp only[aw,Bool.and_eq_true]at hc
  obtain⟨hi,_,hk⟩:=hw
  obtain⟨G',h1,h2⟩:=h.N6 hd (t:=t) (.inl ⟨rfl,rfl⟩) (SM y hc.2 hi).1 (SM y hc.2 hi).2
  exact aX (run t y d pos after g) (hn G' _ _ _ h1 h2 (hk w.heap.size (h.store.get_none h.bc)))
end
section
variable{P:Program}{G G':Gh}{n:Nat}{D:List Deferred}{E:St}{a:Act}{w w':World}
def ji{R:Nat->Nat}{c:AV}{v:Value}(hf:qO c=true)(h:VR w R c v):v.oneCell'=true:=by cases h<;>first|rfl|assumption|(simp[qO,dF]at hf;done)|(rename_i h _;cases h<;>rfl)
def rj{t:Nat}{R:Nat->Nat}{c:AV}{v:Value}(hf:qO c=true\/c=.oQ t)(h:VR w R c v):v.oneCell'=true:=by
 rcases hf with hf|rfl
 ·exact ji hf h
 ·cases h;rfl
def dJ(g o:Nat)(t:TypeId)(fz:Nat×Nat):∀(vs:List Value)(i:Nat)(cur:Array Value)(w:World),w.heap[g]? =some (.cells cur t fz)->(∀k,k<cur.size->¬(fz.1<=k/\k<fz.2))->o+i+vs.length<=cur.size->(∀v∈vs,v.oneCell'=true)->
 (storeCells ⟨g,o,none⟩ vs i).run P w=.ok () (w.setRow g (cur.toList.take (o+i)++vs++cur.toList.drop (o+i+vs.length)).toArray)
 |[],i,cur,w,hg,_,_,_=>by
  simp[List.append_nil,List.length_nil,Nat.add_zero,List.take_append_drop]
  rw[setRow_self w g cur t fz hg]
  rfl
 |v::rest,i,cur,w,hg,hfz,hl,h1=>by
  have hi:o+i<cur.size:=A_
  have dG:w.cell? ⟨g,o+i,none⟩=some cur[o+i]:=by simp[World.cell?,hg]
  have akg:w.frozen? ⟨g,o+i,none⟩=false:=by
   have:=hfz (o+i) hi
   obtain⟨lo,hh⟩:=fz
   simp only[World.frozen?,hg]
   by_cases h1:lo<=o+i
   ·have:¬(o+i<hh):=fun h2=>this ⟨h1,h2⟩
    simp[this]
   ·simp[h1]
  have ez:(store ((⟨g,o,none⟩:Addr).add i) v).run P w=.ok () (w.setRow g (cur.setIfInBounds (o+i) v)):=by
   rw[add_eq,run_store P w _ v _ (h1 v BY),dG]
   simp[akg,setCell_eq_setRow w g (o+i) cur t fz v hg]
  have ih:=dJ g o t fz rest (i+1) (cur.setIfInBounds (o+i) v) (w.setRow g (cur.setIfInBounds (o+i) v)) (setRow_heap w g cur _ t _ hg) A_ A_ (fun x hx=>h1 x A_)
  simp only[storeCells,Sem.run_bind,ez,Result.andThen_ok,ih,setRow_setRow]
  congr 3
  have e:=list_seg_step cur.toList (o+i) v rest A_
  simpa[Array.toList_setIfInBounds,Nat.add_assoc]using e
def laid(cur:Array Value)(o:Nat)(vs:List Value):Array Value:=(cur.toList.take o++vs++cur.toList.drop (o+vs.length)).toArray
theorem qY(cur:Array Value)(o:Nat)(vs:List Value)(h:o+vs.length<=cur.size):(laid cur o vs).size=cur.size:=by simp[laid];omega
theorem lO(cur:Array Value)(o:Nat)(vs:List Value)(h:o+vs.length<=cur.size)(k:Nat):(laid cur o vs)[k]? =if o<=k/\k<o+vs.length then vs[k -o]? else cur[k]? :=by
 unfold laid
 grind
theorem uw{g:Nat}{cur:Array Value}{t:TypeId}{fz:Nat×Nat}(hg:w.heap[g]? =some (.cells cur t fz))(new:Array Value)(b k:Nat):(w.setRow g new).cell? ⟨b,k,none⟩=if b=g then new[k]? else w.cell? ⟨b,k,none⟩:=by
 by_cases h:b=g
 ·subst h
  rw[if_pos rfl,cell_of_row _ (setRow_heap w b cur new t fz hg)]
 ·grind [World.cell?_of_block,setRow_other]
def aI.write{g:Nat}{cur new:Array Value}{t:TypeId}{fz:Nat×Nat}(hg:w.heap[g]? =some (.cells cur t fz))(ho:G.O g≠.frame/\G.O g≠.none)(ez:∀k,k<G.R g->new[k]? =cur[k]?)
 (hR:G.R g<=G'.R g)(hO:∀b,b≠g->G'.O b=G.O b/\G'.R b=G.R b):aI G w G' (w.setRow g new)where
 os:=rfl
 tape:=rfl
 output:=rfl
 drawn:=Nat.le_refl _
 size:=BY
 mono:=fun b _=>A_
 nD:=fun b k _ hk=>by grind [uw,cell_of_row]
 frame:=fun b _ hb=>by grind [setRow_other]
 jF:=fun b _ hb=>A_
 pZ:=fun b _ hb=>A_
def Inv.written(h:Inv G n D E a w){g:Nat}{c new:Array Value}{t:TypeId}(hg:w.heap[g]? =some (.cells c t (0,0)))(ho:(∃i,G.O g=.loc i)\/G.O g=.sh)(hR:G.R g=0){E':St}(hlp:E'.lp=E.lp)
 (ez:ba G (w.setRow g new) E'.s)
 (he:∀k,(look E'.e k=look E.e k/\G.O g≠.loc k)\/(G.O g=.loc k/\a.tmps[k]? =some (.pointer (some ⟨g,0,none⟩))/\∃cs cs',look E.e k=.loc cs/\look E'.e k=.loc cs'/\dY G (w.setRow g new) (.cell g) cs' new/\Fl cs')):
 Inv G n D E' a (w.setRow g new)/\aI G w G (w.setRow g new):=by
 have hog:G.O g≠.frame/\G.O g≠.none/\(∀i j,G.O g≠.slot i j)/\(∀i j,G.O g≠.cell i j):=A_
 have bK:aI G w G (w.setRow g new):=aI.write hg ⟨hog.1,hog.2.1⟩ (fun k hk=>A_) (Nat.le_refl _) (fun _ _=>⟨rfl,rfl⟩)
 have T7:∀b,G.O b≠G.O g->(w.setRow g new).heap[b]? =w.heap[b]? :=fun b hb=>setRow_other w g b new (fun e=>hb A_)
 refine⟨⟨⟨fun b hb=>h.bc.jI b H_,fun b hb=>h.bc.jY b H_⟩,ez,h.size,fun k v hk=>?_,fun k hk=>?_,fun k d hd=>?_,h.qL⟩,bK⟩
 ·have hs:=h.cH k v hk
  rcases he k with⟨e,hnk⟩|⟨hgk,htm,cs,cs',e1,e2,e3,e4⟩
  ·rw[e]
   refine dZ.frame (fun _ _ hv=>bK.vr h.bc hv) (fun b hb=>⟨rfl,rfl,T7 b ?_⟩) (fun b c' j _ hc=>⟨hc,rfl,T7 c' ?_⟩) _ _ (fun d _ ds hds=>?_) hs
   ·grind
   ·grind
   grind
  ·rw[e2]
   have hv:v=.pointer (some ⟨g,0,none⟩):=A_
   exact⟨g,new,t,hv,hgk,hR,setRow_heap w g c new t _ hg,e3,e4⟩
 ·rcases he k with⟨e,_⟩|⟨_,_,cs,_,e1,_⟩
  ·rw[e];exact h.E6 k hk
  ·rw[h.E6 k hk]at e1;cases e1
 ·rw[hlp]
  rcases he k with⟨e,_⟩|⟨_,_,cs,cs',_,e2,_⟩
  ·rw[e]at hd;exact h.MG k d hd
  ·rw[e2]at hd;exact hd.elim
def dY.lay{g off:Nat}{cs news:List AV}{c:Array Value}{vs:List Value}{t:TypeId}{fz:Nat×Nat}(hg:w.heap[g]? =some (.cells c t fz))(bK:aI G w G (w.setRow g (laid c off vs)))(ks:cq G w)
 (hc:dY G w (.cell g) cs c)(hl:vs.length=news.length)(dE:off+news.length<=cs.length)(hne:∀j,G.O g≠.cell g j)
 (hn:∀(j:Nat)(x:AV)(y:Value),news[j]? =some x->vs[j]? =some y->VR w G.R x y/\dI G w (.cell g (off+j)) x y):
 dY G (w.setRow g (laid c off vs)) (.cell g) (setAt cs off news) (laid c off vs):=by
 have GM:off+vs.length<=c.size:=by rw[hl,hc.1];exact dE
 refine⟨by rw[qY _ _ _ GM,mH _ _ _ dE,hc.1],fun j x y hx hy=>?_⟩
 rw[oK _ _ _ _ dE]at hx
 rw[lO _ _ _ GM]at hy
 have mono:∀o,dI G w (.cell g o) x y->dI G (w.setRow g (laid c off vs)) (.cell g o) x y:=fun o ho=>ho.mono fun b hb=>⟨hb,rfl,setRow_other w g b _ (fun e=>A_)⟩
 by_cases hj:off<=j/\j<off+news.length
 ·rw[if_pos hj]at hx
  rw[if_pos AT]at hy
  obtain⟨h1,h2⟩:=hn (j -off) x y hx hy
  have:off+(j -off)=j:=AT
  rw[this]at h2
  exact⟨bK.vr ks h1,mono j h2⟩
 ·rw[if_neg hj]at hx
  rw[if_neg AT]at hy
  obtain⟨h1,h2⟩:=hc.2 j x y hx hy
  exact⟨bK.vr ks h1,mono j h2⟩
def OB{av:AV}{v:Value}(hi:dF av=true)(h:VR w G.R av v):Fl (bC av)/\v.cells.toList.length=(bC av).length/\(∀(j:Nat)(x:AV)(y:Value),(bC av)[j]? =some x->v.cells.toList[j]? =some y->VR w G.R x y)/\
 (∀y∈v.cells.toList,y.oneCell'=true):=by
 have hr:=iM hi h
 have dv:Row w G.R (bC av) v.cells:=by cases av<;>first|exact hr|exact hr.views
 refine⟨dv.2.2,by simpa using dv.1,fun j x y hx hy=>dv.2.1 j x y hx A_,fun y hy=>?_⟩
 obtain⟨j,hj⟩:=List.mem_iff_getElem?.1 hy
 have hjl:j<(bC av).length:=by rw[<-dv.1];have:=(List.getElem?_eq_some_iff.1 hj).1;simpa using this
 have hx:=List.getElem?_eq_getElem hjl
 exact ji (dv.2.2 _ (List.getElem_mem hjl)) (dv.2.1 j _ y hx A_)
def y9{t:TypeId}{m:Nat}(hs:df P t m=true){g off:Nat}{c:Array Value}{et:TypeId}(hg:w.heap[g]? =some (.cells c et (0,0))){v:Value}(hm:v.cells.size=m)(dE:off+m<=c.size)(h1:∀y∈v.cells.toList,y.oneCell'=true):
 (storeVar t ⟨g,off,none⟩ v).run P w=.ok () (w.setRow g (laid c off v.cells.toList)):=by
 have:=dJ (P:=P) g off et (0,0) v.cells.toList 0 c w hg (fun k _ hk=>AT) A_ h1
 simp[storeVar,Sem.run_bind,run_sizeOf hs,Result.andThen_ok]
 grind [laid]
def EO{off:Nat}{news jh cs:List AV}(h:fQ off news jh=some cs):off+news.length<=jh.length/\cs=setAt jh off news:=by grind [fQ,decide_eq_true,decide_eq_false]
def NZ{v:IX}(hi:dF (E.x v)=true){k:Nat}{cs:List AV}(h:look (E.drain v).e k=.loc cs):look E.e k=.loc cs:=by
 cases v with
 |c _=>exact h
 |t i=>
  simp[St.drain,St.put,bj]at h
  split at h
  ·have:=og (lL (show dF (look E.e i)=true from hi)) cs
   grind
  ·exact h
def LD{v:IX}(hi:dF (E.x v)=true){k:Nat}{cs:List AV}(h:look E.e k=.loc cs):look (E.drain v).e k=.loc cs:=by
 cases v with
 |c _=>exact h
 |t i=>
  simp[St.drain,St.put,bj]
  split
  ·rename_i e;subst e
   rw[show E.x (.t i)=look E.e i from rfl,h]at hi
   cases hi
  ·exact h
theorem QU(h:Inv G n D E a w){op:Op}{ty:TypeId}{m:Nat}{p v:IX}{d:Option Nat}{K:St->Prop}(hd:bq n d=true)(hc:aw P op ty (.store m p v)=true)(hw:ju P (.store m p v) d E K):pM P G n D w a op ty d K:=by
 cases op<;>first|(simp[aw]at hc;done)|skip
 rename_i t q u
 simp only[aw,Bool.and_eq_true]at hc
 obtain⟨⟨hs,hq⟩,hu⟩:=hc
 obtain⟨hi,hm,hk⟩:=hw
 have hvr:VR w G.R (E.x v) (a.eval u):=by
  have:=XR.aQ h hu
  generalize E.x v=av at hi this
  cases av<;>first|exact this|grind [dF]
 have target:∃g off jh,a.eval q=.pointer (some ⟨g,off,none⟩)/\
  ((∃i,look E.e i=.loc jh/\a.tmps[i]? =some (.pointer (some ⟨g,0,none⟩))/\MB (E.drain v) (E.x p) p (bC (E.x v))=wrL (E.drain v) i (fQ off (bC (E.x v)) jh))\/
   (E.s g=some (.cells jh)/\MB (E.drain v) (E.x p) p (bC (E.x v))=wrS (E.drain v) g (fQ off (bC (E.x v)) jh))):=by
  have hb:=XR.aQ h hq
  cases hp:E.x p with
  |loc jh=>
   rw[hp]at hb
   obtain⟨i,b,c,t',e1,e2,e3,e4,_⟩:=hb
   refine⟨b,0,jh,e4,.inl ⟨i,e2,by rw[e3,e4],?_⟩⟩
   subst e1;rfl
  |lp d0 off=>
   rw[hp]at hb hk
   obtain⟨b,e1,e2⟩:=hb
   have hk':Sk d K (Qm (E.drain v) d0 off (bC (E.x v)) (look (E.drain v).e d0)):=hk
   cases hl:look (E.drain v).e d0<;>rw[hl]at hk'<;>first|exact hk'.elim|skip
   rename_i jh
   have hl':=NZ hi hl
   exact⟨b,off,jh,e1,.inl ⟨d0,hl',e2 jh hl',by show Qm _ _ _ _ (look (E.drain v).e d0)=_;rw[hl];rfl⟩⟩
  |ref b off=>
   rw[hp]at hb hk
   have e1:=VR.gG hb
   have hk':Sk d K (Wp (E.drain v) b off (bC (E.x v)) ((E.drain v).s b)):=hk
   have hs':(E.drain v).s=E.s:=by cases v<;>rfl
   rw[hs']at hk'
   cases hl:E.s b with
   |none=>rw[hl]at hk';exact hk'.elim
   |some so=>
    cases so with
    |map es=>rw[hl]at hk';exact hk'.elim
    |cells jh=>exact⟨b,off,jh,e1,.inr ⟨hl,by show Wp _ _ _ _ ((E.drain v).s b)=_;rw[hs',hl];rfl⟩⟩
  |_=>rw[hp]at hk;exact hk.elim
 obtain⟨g,off,jh,e1,akE⟩:=target
 obtain⟨G1,h1,hp1,hv1,vZ,hR1,hsh,Q1,dG⟩:=h.drain hu hi (.cell g off) BY BY
 obtain⟨hfl,hlen,tL,IK⟩:=OB hi hv1
 have wW:∀(x:AV)(y:Value),(bC (E.x v))[0]? =some x->(a.eval u).cells.toList[0]? =some y->dI G1 w (.cell g (off+0)) x y:=by
  intro x y hx hy
  cases hv:E.x v with
  |agg cs=>grind [bC,fx,dI.view]
  |sl o s l cs=>
   rw[hv]at hx vZ hv1
   simp[bC]at hx
   subst hx
   have:(a.eval u).cells= #[a.eval u]:=by rcases VR.gR hv1 with⟨(e|⟨_,_,_,e⟩),_⟩|⟨_,_,_,e,_⟩<;>rw[e]<;>rfl
   grind
  |bb t l cs=>
   rw[hv]at hx vZ hv1
   simp[bC]at hx
   subst hx
   have akG:VR w G1.R (.sl true 1 l cs) (a.eval u):=by cases hv1;assumption
   have:(a.eval u).cells= #[a.eval u]:=by rcases VR.gR akG with⟨(e|⟨_,_,_,e⟩),_⟩|⟨_,_,_,e,_⟩<;>rw[e]<;>rfl
   grind
  |_=>rw[hv]at hx;simp[bC]at hx;subst hx;trivial
 have Pu:∀(j:Nat)(x:AV)(y:Value),(bC (E.x v))[j]? =some x->(a.eval u).cells.toList[j]? =some y->VR w G1.R x y/\dI G1 w (.cell g (off+j)) x y:=by
  intro j x y hx hy
  refine⟨tL j x y hx hy,?_⟩
  cases j with
  |zero=>grind
  |succ j=>
   cases hv:E.x v with
   |agg cs=>grind [bC,fx,dI.view]
   |_=>grind [bC]
 have aaq:(a.eval u).cells.toList.length=m:=by rw[hlen,hm]
 have tK:∀(τ:St)(w':World),Inv G1 n D τ a w'->Inv G1 n D (τ.put d (.iJ [])) (a.put d undef) w':=by
  intro τ w' hτ
  have:=hτ.put (s':=τ.s) (lp':=τ.lp) d (fun i hi=>IF) (.iJ []) undef hτ.bc (aI.refl G1 w') hτ.store (fun _ hx=>hx) (fun i t _ ht=>ht.elim) (fun i t _⟨cs,hcs⟩=>O_)
   (fun _ _ _ _=>⟨rfl,rfl,rfl⟩) (fun _ _ _ _ _ _ hcc=>⟨hcc,rfl,rfl⟩) (fun i hdi=>⟨#[],rfl,rfl,fun j x y hx=>V_⟩)
  cases d<;>exact this
 rcases akE with⟨i,e2,e3,e4⟩|⟨e2,e4⟩
 ·
  rw[e4]at hk
  cases hwr:fQ off (bC (E.x v)) jh with
  |none=>rw[hwr]at hk;exact hk.elim
  |some cs'=>
   rw[hwr]at hk
   obtain⟨dE,rfl⟩:=EO hwr
   have e2':look (E.drain v).e i=.loc jh:=LD hi e2
   have K7:=h1.cH i _ e3
   rw[e2']at K7
   obtain⟨b,c,t',q1,q2,q3,q4,q5,q6⟩:=K7
   injection q1 with q1;injection q1 with q1;injection q1 with q1 _ _
   subst q1
   have hne:∀j,G1.O g≠.cell g j:=fun j=>T_
   have GM:off+(a.eval u).cells.toList.length<=c.size:=by rw[hlen,q5.1];exact dE
   have bU:=y9 (P:=P) hs q4 (v:=a.eval u) A_ (by rw[<-aaq];exact GM) IK
   have bK:aI G1 w G1 (w.setRow g (laid c off (a.eval u).cells.toList)):=aI.write q4 T_ (fun k hk=>A_) (Nat.le_refl _) (fun _ _=>⟨rfl,rfl⟩)
   have pg:=dY.lay q4 bK h1.bc q5 hlen dE hne Pu
   obtain⟨h2,_⟩:=h1.written (E':=(E.drain v).put (some i) (.loc (setAt jh off (bC (E.x v))))) q4 (.inl ⟨i,q2⟩) q3 rfl
    (h1.store.mono h1.bc bK (fun b hb=>⟨hb,rfl,setRow_other w g b _ (fun e=>A_)⟩) (fun b c j _ hc=>⟨hc,rfl,setRow_other w g c _ (fun e=>A_)⟩))
    (fun k=>by grind [q2,St.put,bj,Fl.setAt])
   intro pos after gd next Q hn
   exact zg (w':=w.setRow g (laid c off (a.eval u).cells.toList)) (by simp[execOp,e1,Instr.storeAt,Instr.sureAddr,bU]) (hn G1 _ _ _ (tK _ _ h2) (hp1.trans bK) hk)
 ·
  rw[e4]at hk
  cases hwr:fQ off (bC (E.x v)) jh with
  |none=>rw[hwr]at hk;exact hk.elim
  |some cs'=>
   rw[hwr]at hk
   obtain⟨dE,rfl⟩:=EO hwr
   have hs':(E.drain v).s=E.s:=by cases v<;>rfl
   obtain⟨q2,q3,c,t',q4,q5,q6⟩:=h1.store g (.cells jh) A_
   have hne:∀j,G1.O g≠.cell g j:=fun j=>T_
   have GM:off+(a.eval u).cells.toList.length<=c.size:=by rw[hlen,q5.1];exact dE
   have bU:=y9 (P:=P) hs q4 (v:=a.eval u) A_ (by rw[<-aaq];exact GM) IK
   have bK:aI G1 w G1 (w.setRow g (laid c off (a.eval u).cells.toList)):=aI.write q4 T_ (fun k hk=>A_) (Nat.le_refl _) (fun _ _=>⟨rfl,rfl⟩)
   have pg:=dY.lay q4 bK h1.bc q5 hlen dE hne Pu
   have ez:ba G1 (w.setRow g (laid c off (a.eval u).cells.toList)) ((E.drain v).s.set g (.cells (setAt jh off (bC (E.x v))))):=by
    intro b o hb
    unfold ae.set at hb
    by_cases hbg:b=g
    ·rw[if_pos hbg]at hb;grind [q2,setRow_heap,Gk.setAt]
    ·rw[if_neg hbg]at hb
     obtain⟨r1,r2,r3⟩:=h1.store b o hb
     refine⟨r1,r2,?_⟩
     have hbk:=setRow_other w g b (laid c off (a.eval u).cells.toList) hbg
     cases o with
     |cells cs=>
      obtain⟨c0,t0,r4,r5,r6⟩:=r3
      exact⟨c0,t0,hbk.trans r4,r5.mono (fun _ _ hv=>bK.vr h1.bc hv) (fun b' j hb'=>⟨hb',rfl,setRow_other w g b' _ (fun e=>A_)⟩),r6⟩
     |map es=>
      obtain⟨jV,clock,r4,r5,r6⟩:=r3
      exact⟨jV,clock,hbk.trans r4,r5,fun j x y hx hy=>⟨bK.vr h1.bc (r6 j x y hx hy).1,bK.vr h1.bc (r6 j x y hx hy).2⟩⟩
   obtain⟨h2,_⟩:=h1.written (E':={E.drain v with s:=(E.drain v).s.set g (.cells (setAt jh off (bC (E.x v))))}) q4 (.inr q2) q3 rfl ez
    (fun k=>.inl ⟨rfl,T_⟩)
   intro pos after gd next Q hn
   exact zg (w':=w.setRow g (laid c off (a.eval u).cells.toList)) (by simp[execOp,e1,Instr.storeAt,Instr.sureAddr,bU]) (hn G1 _ _ _ (tK _ _ h2) (hp1.trans bK) hk)
end
section
variable{P:Program}{G G':Gh}{n:Nat}{D:List Deferred}{E:St}{a:Act}{w w':World}
def Inv.aaI(h:Inv G n D E a w){d:Option Nat}(hd:bq n d=true){sz m cap:Nat}{cs:List AV}{c:Array Value}{t:TypeId}{ob:dh}{own:Bool}(hob:∀i,d=some i->ob=.slot i 0)(aks:d=none->ob=.none)
 (hl:cs.length=m*sz)(fh:m<=cap)(hsz:c.size=cap*sz)(hfl:Fl cs)
 (hcs:∀(j:Nat)(x:AV),cs[j]? =some x->∃y,c[j]? =some y/\VR w G.R x y)(fz:Nat×Nat)(hfz:(∀k,k<c.size->¬(fz.1<=k/\k<fz.2))/\fz.1<=fz.2)(hz0:own=true->fz=(0,0)\/(0<m/\∃x,c[0]? =some (.int .u8 x)))(hsp:∀(k:Nat)(y:Value),m*sz<=k->c[k]? =some y->y.oneCell'=true):
 ∃G',Inv G' n D (E.put d (.sl own sz m cs)) (a.put d (.slice (some ⟨w.heap.size,0,none⟩) m cap)) (w.alloc (.cells c t fz))/\aI G w G' (w.alloc (.cells c t fz)):=by
 have hp:=(fR h.bc (.cells c t fz) ob cs.length).2.1
 obtain⟨h1,h2⟩:=h.alloc (.cells c t fz) ob cs.length d hd (.sl own sz m cs) (.slice (some ⟨w.heap.size,0,none⟩) m cap) E.lp (k9 h.store h.bc _ ob cs.length) (fun _ hx=>hx) (fun i t' _ ht=>ht.elim)
  (fun i t' _⟨cs',zJ⟩=>A_)
  (fun i hi=>by
    refine⟨?_,?_⟩
    ·refine .sl own sz m cs w.heap.size 0 cap (fun j=>c.getD j undef) hfl hl BY fh (fun j x hj=>?_) (fun j x hj=>?_)
     ·obtain⟨y,hy,_⟩:=hcs j x hj
      rw[Nat.zero_add,cell_of_row _ (heap_alloc_new w _)]
      simp_all
     ·obtain⟨y,hy,hv⟩:=hcs j x hj
      have:c.getD j undef=y:=H_
      rw[this]
      exact hp.vr h.bc hv
    ·cases own with
     |false=>trivial
     |true=>
     intro base m' cQ hv hc
     injection hv with e1 e2 e3
     exact⟨w.heap.size,0,c,t,fz,e1.symm,H_,by simp[hl],heap_alloc_new w _,A_,hfz.1,hfz.2,rfl,hz0 rfl,fun k y hk=>hsp k y AT⟩)
 exact⟨_,Ξ,h2⟩
theorem KZ(l:List Value):∀(m:Nat),((List.replicate m l).flatten)=((List.range (m*l.length)).map fun i=>l.getD (i % l.length) undef):=by
 intro m
 apply List.ext_getElem?
 intro j
 rcases Nat.eq_zero_or_pos l.length with h0|hp
 ·simp_all
 ·induction m generalizing j with
  |zero=>simp
  |succ m ih=>
   rw[List.replicate_succ,List.flatten_cons]
   by_cases hj:j<l.length
   ·rw[List.getElem?_append_left hj,List.getElem?_map,List.getElem?_range A_]
    simp[Nat.mod_eq_of_lt hj,List.getElem?_eq_getElem hj]
   ·by_cases hlt:j<(m+1)*l.length
    ·grind [List.getElem?_range,Nat.mod_eq_sub_mod]
    grind
theorem uF(z:Array Value)(m:Nat):((Array.range (m*z.size)).map fun i=>z[i % z.size]!)=((List.replicate m z.toList).flatten).toArray:=by
 rw[KZ]
 apply Array.ext'
 simp only[Array.toList_map,Array.toList_range]
 apply List.map_congr_left
 grind [Nat.mod_lt]
theorem KN(h:Inv G n D E a w){op:Op}{ty:TypeId}{sz m:Nat}{z:List AV}{ps:List (Nat×Nat×IX)}{d:Option Nat}{K:St->Prop}(hd:bq n d=true)(hc:aw P op ty (.ik sz m z ps)=true)(hw:ju P (.ik sz m z ps) d E K):pM P G n D w a op ty d K:=by
 cases op<;>first|(simp[aw]at hc;done)|skip
 rename_i t m' qs
 simp only[aw,Bool.and_eq_true,beq_iff_eq]at hc
 obtain⟨rfl,hc⟩:=hc
 split at hc<;>try(cases hc;done)
 rename_i e ht
 have ht:=de ht
 simp only[Bool.and_eq_true]at hc
 obtain⟨⟨⟨⟨hs,jW⟩,hp⟩,T4⟩,hz⟩:=hc
 obtain⟨i,hi,qR⟩:=lx hs
 rw[hi]at hz
 simp only at hz
 split at hz<;>try(cases hz;done)
 rename_i zv hzv
 simp only[Bool.and_eq_true,beq_iff_eq]at hz
 obtain⟨hzr,hzs⟩:=hz
 have jW:=of_decide_eq_true jW
 have T4:=of_decide_eq_true T4
 have hw':xS sz m E d K (fill (xg true E) z ps):=hw
 cases hfl:fill (xg true E) z ps with
 |none=>rw[hfl]at hw';exact hw'.elim
 |some ds=>
  rw[hfl]at hw'
  obtain⟨hlen,hk⟩:=hw'
  obtain⟨hl,hpa⟩:=xn _ _ hp
  obtain⟨hz1,hz2⟩:=Cb hzr
  have dv:Row w G.R z ((Array.range (m*sz)).map (zv.cells[·% zv.cells.size]!)):=by
   rw[<-hzs,uF]
   exact⟨A_,fun j c u hc hu=>vS (hz2 j c u hc A_) w G.R,CH hzr⟩
  have hf:∀(o:Operand)(x:IX),bN o x=true->dF (xg true E x)=true->VR w G.R (xg true E x) (a.eval o):=fun o x hx hi=>by
   have:=BR.aQ h hx
   generalize xg true E x=av at hi this
   cases av<;>first|exact this|grind [dF]
  obtain⟨us,h1,h2⟩:=rU h hf (fun i=>some (i*sz,sz)) qs.toList ps z ds _ ⟨hl,fun j q p hq hp'=>A_⟩ dv hfl
  obtain⟨G1,h3,h4⟩:=h.aaI (t:=e) (ob:=match d with|some i=>.slot i 0|none=>.none) hd (fun i hi=>by subst hi;rfl) (fun hn=>by subst hn;rfl) hlen (Nat.le_refl m) (by rw[h2.1,hlen]) h2.2.2
   (fun j x hx=>by
     have hlt:j<us.size:=by rw[h2.1];exact(List.getElem?_eq_some_iff.1 hx).1
     exact⟨us[j],Array.getElem?_eq_getElem hlt,h2.2.1 j x _ hx (Array.getElem?_eq_getElem hlt)⟩) (0,0) ⟨fun k _ hk=>by simp at hk,Nat.le_refl _⟩ (own:=true) (fun _=>.inl rfl) (fun k y hk hy=>by
     have:=(Array.getElem?_eq_some_iff.1 hy).1
     rw[h2.1,hlen]at this;omega)
  intro pos after gd next Q hn
  refine aX ?_ (hn G1 _ _ _ h3 h4 hk)
  by_cases hm0:m*sz=0
  ·have hm:m=0:=by
    rcases Nat.mul_eq_zero.1 hm0 with h|h
    ·exact h
    ·omega
   subst hm
   simp only[Nat.zero_mul]at h1
   have:(Array.range 0).map (zv.cells[·% zv.cells.size]!)= #[]:=BY
   rw[this]at h1
   have hr0:Array.map (fun _:Nat=>(default:Value)) (Array.range 0)= #[]:=by apply Array.ext';simp
   simp[execOp,Instr.buildSlice,run_underlying ht,run_sizeOf hs,hr0,h1,newRow]
  ·have h24:¬(16777216<m*sz):=AT
   simp[execOp,Instr.buildSlice,run_underlying ht,run_sizeOf hs,h24,hm0,zeroValue,typeInfo,hi,hzv,h1,newRow]
def Km(s:List UInt8):Fl (s.map fun c=>AV.int .u8 c.toNat):=by
 intro c hc
 simp[List.mem_map]at hc
 obtain⟨x,_,rfl⟩:=hc
 rfl
theorem Nk(h:Inv G n D E a w){op:Op}{ty:TypeId}{x:IX}{d:Option Nat}{K:St->Prop}(hd:bq n d=true)(hc:aw P op ty (.kP x)=true)(hw:ju P (.kP x) d E K):pM P G n D w a op ty d K:=by
 cases op<;>first|(simp[aw]at hc;done)|skip
 rename_i s t y
 simp only[aw,Bool.and_eq_true]at hc
 obtain⟨hy,hc⟩:=hc
 split at hc<;>try(cases hc;done)
 rename_i e hs ht
 split at hc<;>try(cases hc;done)
 rename_i he
 have hb:=BR.aQ h hy
 have hw':Cc E d K (xg true E x):=hw
 generalize xg true E x=xv at hb hw'
 unfold Cc at hw'
 split at hw'<;>try(exact hw'.elim)
 rename_i ow sz m cs
 obtain⟨rfl,l,rfl,hk⟩:=hw'
 have tK:Inv G n D (E.put d (.str l)) (a.put d (.string ⟨l.toArray⟩)) w:=by
  have:=h.put (s':=E.s) (lp':=E.lp) d (fun i hi=>IF) (.str l) (.string ⟨l.toArray⟩) h.bc (aI.refl G w) h.store (fun _ hx=>hx) (fun i t _ ht=>ht.elim) (fun i t _⟨cs,hcs⟩=>O_)
   (fun _ _ _ _=>⟨rfl,rfl,rfl⟩) (fun _ _ _ _ _ _ hcc=>⟨hcc,rfl,rfl⟩) (fun i hdi=>⟨.str l,trivial⟩)
  cases d<;>exact this
 intro pos after gd next Q hn
 refine aX (v:=.string ⟨l.toArray⟩) ?_ (hn G _ _ _ tK (aI.refl G w) hk)
 rcases VR.gR hb with⟨e1,_,hl0⟩|⟨b,off,cap,e1,hlen,_,_,u,u1,u2,_⟩
 ·have:l=[]:=by simpa using hl0
  subst this
  rcases e1 with e1|⟨_,ad,cap,e1⟩
  ·have:=run_convert_bytes_nil (P:=P) w s e hs he 0 0 t ht
   simp[execOp,e1,this]
   rfl
  ·have:=lu (P:=P) w s e hs he ad cap t ht
   simp[execOp,e1,this]
   rfl
 ·have hm:l.length=m:=by simpa using hlen
  have:=run_convert_bytes_arg (P:=P) w s e hs he b off m cap (l.map fun c=>(c.toNat:Int)) A_ (fun i hi=>by
   have hil:i<l.length:=AT
   have hc0:(l.map fun c=>AV.int .u8 c.toNat)[i]? =some (.int .u8 l[i].toNat):=by simp[hil]
   grind [VR.b9]) t ht
  have hs2:strOfNums (l.map fun c=>(c.toNat:Int))=⟨l.toArray⟩:=by
   unfold strOfNums
   congr 2
   simp[Function.comp_def]
  rw[hs2]at this
  simp[execOp,e1,this]
theorem aI.drew(G:Gh)(w:World):aI G w G w.drew:=⟨rfl,rfl,rfl,Nat.le_succ _,Nat.le_refl _,fun _ _=>Nat.le_refl _,fun _ _ _ _=>rfl,fun _ _ _=>rfl,fun _ _ h=>⟨h,rfl⟩,fun _ _ h=>⟨h,rfl⟩⟩
theorem Inv.drew(h:Inv G n D E a w):Inv G n D E a w.drew:=by
 have hg:cq G w.drew:=⟨h.bc.jI,h.bc.jY⟩
 have:=h.put none (fun i hi=>A_) .undef undef hg (aI.drew G w) (h.store.mono h.bc (aI.drew G w) (fun _ hb=>⟨hb,rfl,rfl⟩) (fun _ _ _ _ hc=>⟨hc,rfl,rfl⟩)) (fun _ hx=>hx) (fun i t hi=>A_) (fun i t hi=>BY)
  (fun _ _ _ _=>⟨rfl,rfl,rfl⟩) (fun _ _ _ _ _ _ hcc=>⟨hcc,rfl,rfl⟩) (fun i hi=>A_)
 exact this
end
end Go.AB
end
