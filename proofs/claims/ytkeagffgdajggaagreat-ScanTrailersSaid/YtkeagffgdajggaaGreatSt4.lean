/- A part. -/
import Derived.Test.YtkeagffgdajggaaGreatSt3
import Derived.Laws.BytesArg
import Derived.Laws.StructEq
import Derived.Laws.Rows
import Derived.Laws.CopyRow
import Derived.Laws.Append
import Derived.Laws.AppendOwn
set_option linter.unusedSimpArgs false
set_option linter.unusedVariables false
section
namespace Go.AB
open Go
theorem Ic{a:AV}{c:UInt8}(h:byteOf a=some c):a=.int .u8 c.toNat:=by
 unfold byteOf at h
 split at h
 ·rename_i n
  split at h
  ·rename_i hn
   injection h with h
   subst h
   rw[UInt8.toNat_ofNat']
   congr 1
   omega
  ·cases h
 ·cases h
theorem vI:∀{cs:List AV}{l:List UInt8},bytesOf cs=some l->cs=l.map fun c=>.int .u8 c.toNat
 |[],l,h=>by
  unfold bytesOf at h
  injection h with h
  subst h;rfl
 |a::r,l,h=>by
  unfold bytesOf at h
  cases ha:byteOf a with
  |none=>rw[ha]at h;cases h
  |some c=>
   cases hr:bytesOf r with
   |none=>rw[ha,hr]at h;cases h
   |some m=>
    rw[ha,hr]at h
    injection h with h
    subst h
    rw[Ic ha,vI hr];rfl
section
variable{P:Program}{G:Gh}{n:Nat}{D:List Deferred}{E:St}{a:Act}{w:World}
theorem Qg(h:Inv G n D E a w){op:Op}{ty:TypeId}{z:List AV}{m:Bool}{x:IX}(hc:aq P op ty (.bM z m x)=true){av:AV}(hv:fG (pv (.bM z m x) (xg true E) E) av):
 ∃v,runs P a op ty w v/\NR G w E a av v:=by
 have hc':aq P op ty (.load z.length m x)=true:=by cases op<;>first|exact hc|(simp[aq]at hc;done)
 refine Hi h hc' ?_
 have hv':fG (E4 z m E.s (xg true E x)) av:=hv
 show fG (iC m (rd E (xg true E x) z.length)) av
 generalize xg true E x=xv at hv'
 cases xv<;>first|exact hv'.no.elim|skip
 rename_i b off
 have hv2:fG (Jh z m off (E.s b)) av:=hv'
 show fG (iC m (tL z.length off (E.s b))) av
 cases hs:E.s b with
 |none=>rw[hs]at hv2;exact hv2.no.elim
 |some so=>
  cases so with
  |map es=>rw[hs]at hv2;exact hv2.no.elim
  |cells cs=>
   rw[hs]at hv2
   have hv3:fG (Zg (off+z.length<=cs.length) (oz m (pad z (views (sub cs off z.length))))) av:=hv2
   unfold Zg at hv3
   cases hi:cO (oz m (pad z (views (sub cs off z.length))))with
   |false=>rw[hi]at hv3;exact hv3.no.elim
   |true=>
    rw[hi]at hv3
    obtain⟨rfl,hle⟩:=hv3.prt
    have hlen:(views (AB.sub cs off z.length)).length=z.length:=by simp only[AB.views,List.length_map,AB.sub,List.length_take,List.length_drop];omega
    have VD:pad z (views (AB.sub cs off z.length))=views (AB.sub cs off z.length):=by unfold pad;rw[hlen,beq_self_eq_true];rfl
    rw[VD]at hi⊢
    show fG (iC m (gL z.length off cs)) _
    unfold gL
    rw[decide_eq_true hle]
    show fG (U3 (oz m (views (AB.sub cs off z.length)))) _
    unfold U3
    rw[hi]
    exact .inl rfl
theorem Qf(h:Inv G n D E a w){op:Op}{ty:TypeId}{k:IntKind}{x:IX}(hc:aq P op ty (.lQ k x)=true){av:AV}(hv:fG (pv (.lQ k x) (xg true E) E) av):
 ∃v,runs P a op ty w v/\NR G w E a av v:=by
 have hc':aq P op ty (.load 1 false x)=true:=by
  cases op<;>first|(simp[aq]at hc;done)|skip
  simp only[aq,Bool.and_eq_true]at hc⊢
  exact⟨⟨⟨hc.1.1,hc.1.2⟩,rfl⟩,hc.2⟩
 refine Hi h hc' ?_
 have hv':fG (yn k E.s (xg true E x)) av:=hv
 show fG (iC false (rd E (xg true E x) 1)) av
 generalize xg true E x=xv at hv'
 cases xv<;>first|exact hv'.no.elim|skip
 rename_i b off
 obtain⟨rfl,hcc⟩:=fG.prt (show fG (.prt (GP k off (E.s b)) (.int k (GQ off (E.s b)))) av from hv')
 show fG (iC false (tL 1 off (E.s b))) _
 cases hs:E.s b with
 |none=>rw[hs]at hcc;exact hcc.elim
 |some so=>
  cases so with
  |map es=>rw[hs]at hcc;exact hcc.elim
  |cells cs=>
   rw[hs]at hcc
   obtain⟨m,hm⟩:=hcc
   have hlt:=(List.getElem?_eq_some_iff.1 hm).1
   show fG (iC false (gL 1 off cs)) (.int k (intOf cs[off]?))
   rw[hm]
   unfold gL
   rw[decide_eq_true (by omega)]
   have e:AB.sub cs off 1=[.int k m]:=by
    unfold AB.sub
    rw[List.drop_eq_getElem_cons hlt]
    have:=(List.getElem?_eq_some_iff.1 hm).2
    rw[this];rfl
   rw[e]
   exact .inl rfl
theorem jD{P:Program}(w:World)(src e:TypeId)(hs:P.underlying src=some (.slice e))(he:P.underlying e=some (.int .u8))(ad:Addr)(cap:Nat):
 ∀dst,P.underlying dst=some .string->(convert src dst (.slice (some ad) 0 cap)).run P w=.ok (.string ByteArray.empty) w:=by
 intro dst hd
 have hl:(loadCells ad 0).run P w=.ok (([]:List Int).map (Value.int .u8)).toArray w:=by
  have:=run_loadCells_list (P:=P) w ad [] (fun j v hj=>by simp at hj)
  simpa using this
 rw[run_convert_bytes_string w src dst e _ 0 cap hs he hd,run_bytesToString w _ 0 cap [] hl,foldl_push_bytes]
 simp[ByteArray.empty,ByteArray.emptyWithCapacity]
theorem Nr(h:Inv G n D E a w){op:Op}{ty:TypeId}{x:IX}(hc:aq P op ty (.eP x)=true){av:AV}(hv:fG (pv (.eP x) (xg true E) E) av):
 ∃v,runs P a op ty w v/\NR G w E a av v:=by
 cases op<;>first|(simp[aq]at hc;done)|skip
 rename_i s t y
 simp only[aq,Bool.and_eq_true]at hc
 obtain⟨hy,hc⟩:=hc
 split at hc<;>try(cases hc;done)
 rename_i e hs ht
 split at hc<;>try(cases hc;done)
 rename_i he
 have hb:=BR.aG h hy
 have hv':fG (pJ (xg true E x)) av:=hv
 generalize xg true E x=xv at hb hv'
 unfold pJ at hv'
 split at hv'<;>try(exact hv'.no.elim)
 rename_i ow sz m cs
 cases hsz:sz==1 with
 |false=>rw[hsz]at hv';exact hv'.no.elim
 |true=>
 rw[hsz]at hv'
 obtain rfl:=beq_iff_eq.1 hsz
 have hv2:fG (QK (bytesOf cs)) av:=hv'
 cases hbs:bytesOf cs with
 |none=>rw[hbs]at hv2;exact hv2.no.elim
 |some l=>
 rw[hbs]at hv2
 obtain rfl:=hv2.cT
 obtain rfl:=vI hbs
 refine⟨.string ⟨l.toArray⟩,fun _ _ _ _=>?_,NR.mk rfl (.str l) rfl⟩
 rcases VR.fD hb with⟨e1,_,hl0⟩|⟨b,off,cap,e1,hlen,_,_,u,u1,u2,_⟩
 ·have:l=[]:=by simpa using hl0
  subst this
  rcases e1 with e1|⟨_,ad,cap,e1⟩
  ·have:=run_convert_bytes_nil (P:=P) w s e hs he 0 0 t ht
   simp[execOp,e1,this]
   rfl
  ·have:=jD (P:=P) w s e hs he ad cap t ht
   simp[execOp,e1,this]
   rfl
 ·have hm:l.length=m:=by simpa using hlen
  have:=run_convert_bytes_arg (P:=P) w s e hs he b off m cap (l.map fun c=>(c.toNat:Int)) (by simpa using hm) (fun i hi=>by
   have hil:i<l.length:=by omega
   have hc0:(l.map fun c=>AV.int .u8 c.toNat)[i]? =some (.int .u8 l[i].toNat):=by simp[hil]
   rw[u1 i _ hc0,VR.bT (u2 i _ hc0)]
   simp[List.getD_eq_getElem?_getD,hil]) t ht
  have hs2:strOfNums (l.map fun c=>(c.toNat:Int))=⟨l.toArray⟩:=by
   unfold strOfNums
   congr 2
   simp[Function.comp_def]
  rw[hs2]at this
  simp[execOp,e1,this]
end
theorem Tn(off:Nat):∀(l:List Value)(s:Nat)(cells:Array Value),
 ((l.zipIdx s).foldl (fun cs(x:Value×Nat)=>cs.setIfInBounds (off+x.2) x.1) cells).size=cells.size/\
 ∀k,((l.zipIdx s).foldl (fun cs(x:Value×Nat)=>cs.setIfInBounds (off+x.2) x.1) cells)[k]? =
  if off+s<=k/\k<off+s+l.length/\k<cells.size then l[k -(off+s)]? else cells[k]? :=by
 intro l
 induction l with
 |nil=>
  intro s cells
  refine⟨rfl,fun k=>?_⟩
  rw[if_neg (by simp;omega)];rfl
 |cons v l ih=>
  intro s cells
  rw[List.zipIdx_cons,List.foldl_cons]
  obtain⟨h1,h2⟩:=ih (s+1) (cells.setIfInBounds (off+s) v)
  refine⟨by rw[h1];simp,fun k=>?_⟩
  rw[h2 k]
  simp only[Array.size_setIfInBounds,List.length_cons]
  by_cases hk:k=off+s
  ·subst hk
   rw[if_neg (by omega)]
   by_cases hs:off+s<cells.size
   ·rw[if_pos ⟨by omega,by omega,hs⟩]
    simp[hs]
   ·rw[if_neg (by omega),Array.getElem?_eq_none (by simp;omega),Array.getElem?_eq_none (by omega)]
  ·by_cases hc:off+(s+1)<=k/\k<off+(s+1)+l.length/\k<cells.size
   ·rw[if_pos hc,if_pos (by omega)]
    have:k -(off+s)=(k -(off+(s+1)))+1:=by omega
    rw[this,List.getElem?_cons_succ]
   ·rw[if_neg hc,if_neg (by omega),Array.getElem?_setIfInBounds_ne (by omega)]
section
variable{P:Program}{G:Gh}{n:Nat}{D:List Deferred}{E:St}{a:Act}{w:World}
def Row(w:World)(R:Nat->Nat)(cs:List AV)(vs:Array Value):Prop:=vs.size=cs.length/\(∀(j:Nat)(c:AV)(u:Value),cs[j]? =some c->vs[j]? =some u->VR w R c u)/\Fl cs
theorem gh{R:Nat->Nat}{av:AV}{v:Value}(hi:cO av=true)(h:VR w R av v):Row w R (cellsOf av) v.cells:=by
 have key:(∃cs,av=.agg cs)\/(cellsOf av=[av]/\v.cells= #[v]/\oE av=true):=by cases h<;>first|exact .inl ⟨_,rfl⟩|exact .inr ⟨rfl,rfl,rfl⟩|(rename_i hb _;cases hb<;>exact .inr ⟨rfl,rfl,rfl⟩)|(rename_i BN;exact .inr ⟨rfl,by cases v<;>first|rfl|(cases BN;done),rfl⟩)|(simp[cO]at hi)
 rcases key with⟨cs,rfl⟩|⟨h1,h2,h3⟩
 ·obtain⟨vs,rfl,hl,hr,hf⟩:=VR.wj h
  exact⟨hl,hr,hf⟩
 ·rw[h1,h2]
  refine⟨rfl,fun j c u hc hu=>?_,fun c hc=>?_⟩
  rotate_left
  ·rw[List.mem_singleton]at hc;subst hc;exact h3
  cases j with
  |succ j=>simp at hc
  |zero=>simp at hc hu;subst hc;subst hu;exact h
theorem Row.views{R:Nat->Nat}{cs:List AV}{vs:Array Value}(h:Row w R cs vs):Row w R (views cs) vs:=by
 refine⟨by simp[AB.views,h.1],fun j c u hc hu=>?_,h.2.2.views⟩
 rw[dH]at hc
 cases hj:cs[j]? with
 |none=>rw[hj]at hc;cases hc
 |some c'=>
  rw[hj]at hc;simp at hc
  rw[<-hc];exact(h.2.1 j c' u hj hu).view
theorem mo(cs news:List AV)(off k:Nat)(h:off+news.length<=cs.length):(setAt cs off news)[k]? =if off<=k/\k<off+news.length then news[k -off]? else cs[k]? :=by
 unfold setAt
 rw[List.append_assoc]
 by_cases h1:k<off
 ·rw[if_neg (by omega),List.getElem?_append_left (by simp;omega),List.getElem?_take,if_pos h1]
 ·rw[List.getElem?_append_right (by simp;omega)]
  have hl:(cs.take off).length=off:=by simp;omega
  rw[hl]
  by_cases h2:k<off+news.length
  ·rw[if_pos ⟨by omega,h2⟩,List.getElem?_append_left (by omega)]
  ·rw[if_neg (by omega),List.getElem?_append_right (by omega),List.getElem?_drop]
   congr 1
   omega
theorem mq(cs news:List AV)(off:Nat)(h:off+news.length<=cs.length):(setAt cs off news).length=cs.length:=by unfold setAt;simp;omega
theorem Fl.setAt{cs news:List AV}(h:Fl cs)(k:Fl news)(off:Nat):Fl (setAt cs off news):=by
 intro c hc
 unfold AB.setAt at hc
 rcases List.mem_append.1 hc with hc|hc
 ·rcases List.mem_append.1 hc with hc|hc
  ·exact h c (List.mem_of_mem_take hc)
  ·exact k c hc
 ·exact h c (List.mem_of_mem_drop hc)
theorem xH.setAt{t:Nat}{cs news:List AV}(h:xH t cs)(k:Fl news)(off:Nat):xH t (AB.setAt cs off news):=by
 intro c hc
 unfold AB.setAt at hc
 simp only[List.mem_append]at hc
 rcases hc with(hc|hc)|hc
 ·exact h c (List.mem_of_mem_take hc)
 ·exact .inl (k c hc)
 ·exact h c (List.mem_of_mem_drop hc)
theorem Row.setAt{R:Nat->Nat}{cs news:List AV}{vs us:Array Value}{off:Nat}(h:Row w R cs vs)(k:Row w R news us)(cF:off+news.length<=cs.length):
 Row w R (setAt cs off news) (us.zipIdx.foldl (fun cs(x:Value×Nat)=>cs.setIfInBounds (off+x.2) x.1) vs):=by
 have e:us.zipIdx.foldl (fun cs(x:Value×Nat)=>cs.setIfInBounds (off+x.2) x.1) vs=(us.toList.zipIdx 0).foldl (fun cs(x:Value×Nat)=>cs.setIfInBounds (off+x.2) x.1) vs:=by rw[<-Array.foldl_toList,Array.toList_zipIdx]
 rw[e]
 obtain⟨h1,h2⟩:=Tn off us.toList 0 vs
 refine⟨by rw[h1,mq _ _ _ cF,h.1],fun j c u hc hu=>?_,Fl.setAt h.2.2 k.2.2 off⟩
 rw[h2 j]at hu
 rw[mo _ _ _ _ cF]at hc
 have hus:=k.1
 have hvs:=h.1
 by_cases hj:off<=j/\j<off+news.length
 ·rw[if_pos hj]at hc
  rw[if_pos (by simp;omega)]at hu
  exact k.2.1 (j -off) c u hc (by simpa using hu)
 ·rw[if_neg hj]at hc
  rw[if_neg (by simp;omega)]at hu
  exact h.2.1 j c u hc hu
theorem pL(h:Inv G n D E a w){f:IX->AV}(hf:∀(o:Operand)(x:IX),bp o x=true->cO (f x)=true->VR w G.R (f x) (a.eval o))(place:Nat->Option (Nat×Nat)):
 ∀(qs:List (Nat×Operand))(ps:List (Nat×Nat×IX))(cs ds:List AV)(vs:Array Value),
  (qs.length=ps.length/\∀(j:Nat)(q:Nat×Operand)(p:Nat×Nat×IX),qs[j]? =some q->ps[j]? =some p->place q.1=some (p.1,p.2.1)/\bp q.2 p.2.2=true)->
  Row w G.R cs vs->fill f cs ps=some ds->∃us,Instr.fill place vs (qs.map fun q=>(q.1,a.eval q.2))=some us/\Row w G.R ds us:=by
 intro qs
 induction qs with
 |nil=>
  intro ps cs ds vs hc hr hfl
  cases ps with
  |nil=>injection hfl with hfl;subst hfl;exact⟨vs,rfl,hr⟩
  |cons _ _=>simp at hc
 |cons q qs ih=>
  intro ps cs ds vs hc hr hfl
  cases ps with
  |nil=>simp at hc
  |cons p ps=>
   obtain⟨off,m,x⟩:=p
   obtain⟨hlen,cE⟩:=hc
   obtain⟨hp,hx⟩:=cE 0 q (off,m,x) rfl rfl
   simp only[fill]at hfl
   cases LS:(cO (f x)&&((views (cellsOf (f x))).length==m&&decide (off+m<=cs.length)))with
   |false=>rw[LS]at hfl;cases hfl
   |true=>
    rw[LS]at hfl
    simp only[Bool.and_eq_true,beq_iff_eq,decide_eq_true_eq]at LS
    obtain⟨hi,hm,cF⟩:=LS
    have gJ:=(gh hi (hf q.2 x hx hi)).views
    have hsz:(a.eval q.2).cells.size=m:=by rw[gJ.1,hm]
    have hcs:off+(a.eval q.2).cells.size<=vs.size:=by rw[hsz,hr.1];exact cF
    have hr':=hr.setAt gJ (off:=off) (by rw[hm];exact cF)
    obtain⟨us,h1,h2⟩:=ih ps _ ds _ ⟨by simpa using hlen,fun j q' p' hq hp'=>cE (j+1) q' p' (by simpa using hq) (by simpa using hp')⟩ hr' hfl
    refine⟨us,?_,h2⟩
    simp only[List.map_cons,Instr.fill,hp]
    rw[if_neg (by simp[hsz];omega)]
    exact h1
theorem K4{fs:Array Field}:∀(qs:List (Nat×Operand))(ps:List (Nat×Nat×IX)),yA P fs qs ps=true->
 qs.length=ps.length/\∀(j:Nat)(q:Nat×Operand)(p:Nat×Nat×IX),qs[j]? =some q->ps[j]? =some p->(∃f,fs[q.1]? =some f/\f.offset=p.1/\cH P f.type p.2.1=true)/\bp q.2 p.2.2=true:=by
 intro qs
 induction qs with
 |nil=>intro ps hp;cases ps with
  |nil=>exact⟨rfl,fun j q p hq=>by simp at hq⟩
  |cons _ _=>simp[yA]at hp
 |cons q qs ih=>intro ps hp;cases ps with
  |nil=>simp[yA]at hp
  |cons p ps=>
   obtain⟨off,m,x⟩:=p
   obtain⟨i,o⟩:=q
   simp only[yA,Bool.and_eq_true]at hp
   obtain⟨⟨h1,h2⟩,h3⟩:=hp
   obtain⟨h4,h5⟩:=ih ps h3
   refine⟨by simp[h4],fun j q' p' hq hp'=>?_⟩
   cases j with
   |zero=>
    simp at hq hp'
    subst hq;subst hp'
    split at h1
    ·rename_i f hf
     simp only[Bool.and_eq_true,beq_iff_eq]at h1
     exact⟨⟨f,hf,h1.1,h1.2⟩,h2⟩
    ·cases h1
   |succ j=>exact h5 j q' p' (by simpa using hq) (by simpa using hp')
theorem vj{sz:Nat}:∀(qs:List (Nat×Operand))(ps:List (Nat×Nat×IX)),sk sz qs ps=true->
 qs.length=ps.length/\∀(j:Nat)(q:Nat×Operand)(p:Nat×Nat×IX),qs[j]? =some q->ps[j]? =some p->(q.1*sz=p.1/\p.2.1=sz)/\bp q.2 p.2.2=true:=by
 intro qs
 induction qs with
 |nil=>intro ps hp;cases ps with
  |nil=>exact⟨rfl,fun j q p hq=>by simp at hq⟩
  |cons _ _=>simp[sk]at hp
 |cons q qs ih=>intro ps hp;cases ps with
  |nil=>simp[sk]at hp
  |cons p ps=>
   obtain⟨off,m,x⟩:=p
   obtain⟨i,o⟩:=q
   simp only[sk,Bool.and_eq_true,beq_iff_eq]at hp
   obtain⟨⟨⟨h0,h1⟩,h2⟩,h3⟩:=hp
   obtain⟨h4,h5⟩:=ih ps h3
   refine⟨by simp[h4],fun j q' p' hq hp'=>?_⟩
   cases j with
   |zero=>simp at hq hp';subst hq;subst hp';exact⟨⟨h0,h1⟩,h2⟩
   |succ j=>exact h5 j q' p' (by simpa using hq) (by simpa using hp')
theorem tv{t:TypeId}{z:List AV}(h:ni P t z=true):∃i v,P.info? t=some i/\i.zero=some v/\i.size=z.length/\(∀(w:World)(R:Nat->Nat),Row w R z v.cells)/\(∀(j:Nat)(c:AV)(u:Value),z[j]? =some c->v.cells[j]? =some u->cR u c=true):=by
 unfold ni at h
 split at h
 ·rename_i i hi
  split at h
  ·rename_i v hv
   simp only[Bool.and_eq_true,beq_iff_eq]at h
   obtain⟨h1,h2⟩:=AW h.1
   exact⟨i,v,hi,hv,h.2,fun w R=>⟨by simpa using h1,fun j c u hc hu=>q9 (h2 j c u hc (by simpa using hu)) w R,BA h.1⟩,fun j c u hc hu=>h2 j c u hc (by simpa using hu)⟩
  ·cases h
 ·cases h
theorem Jl(w:World):∀(fs:List Field),(∀f∈fs,(P.info? f.type).isSome=true)->
 (fs.mapM (m:=Sem) fun f=>Prod.mk f.offset<$>sizeOf f.type).run P w=.ok (fs.map fun f=>(f.offset,P.cellsOf f.type)) w:=by
 intro fs
 induction fs with
 |nil=>intro _;rfl
 |cons f fs ih=>
  intro h
  have hf:=h f (by simp)
  cases hi:P.info? f.type with
  |none=>rw[hi]at hf;cases hf
  |some i=>
   simp[List.mapM_cons,sizeOf,typeInfo,hi,Program.cellsOf]at ih⊢
   rw[ih fun f hf=>h f (by simp[hf])]
   simp
theorem Qd(h:Inv G n D E a w){op:Op}{ty:TypeId}{z:List AV}{ps:List (Nat×Nat×IX)}(hc:aq P op ty (.build z ps)=true){av:AV}(hv:fG (pv (.build z ps) (xg true E) E) av):
 ∃v,runs P a op ty w v/\NR G w E a av v:=by
 cases op<;>first|(simp[aq]at hc;done)|skip
 rename_i t qs
 simp only[aq,Bool.and_eq_true]at hc
 obtain⟨hz,hc⟩:=hc
 obtain⟨ti,zv,hti,hzv,hsz,gJ,_⟩:=tv hz
 have hv':fG (Br (fill (xg true E) z ps)) av:=hv
 cases hfl:fill (xg true E) z ps with
 |none=>rw[hfl]at hv';exact hv'.no.elim
 |some ds=>
  rw[hfl]at hv'
  have hav:av=.agg ds:=hv'.cT
  subst hav
  have hzr:(zeroValue t).run P w=.ok zv w:=by simp[zeroValue,typeInfo,hti,hzv]
  have hf:∀(o:Operand)(x:IX),bp o x=true->cO (xg true E x)=true->VR w G.R (xg true E x) (a.eval o):=fun o x hx hi=>(BR.aG h hx).vr hi
  split at hc<;>try(cases hc;done)
  ·rename_i fs ht
   rw[Bool.and_eq_true]at hc
   obtain⟨hp,cE⟩:=hc
   obtain⟨hl,hp⟩:=K4 _ _ hp
   have RR:(fs.mapM (m:=Sem) fun f=>Prod.mk f.offset<$>sizeOf f.type).run P w=.ok (fs.map fun f=>(f.offset,P.cellsOf f.type)) w:=by
    have:=Jl (P:=P) w fs.toList (fun f hf=>by
     have:=Array.all_eq_true'.1 cE f (by simpa using hf)
     exact this)
    rw[Array.mapM_eq_mapM_toList]
    simp only[Sem.run_map,this,Result.andThen_ok]
    congr 1
    apply Array.ext'
    simp
   obtain⟨us,h1,h2⟩:=pL h hf ((fs.map fun f=>(f.offset,P.cellsOf f.type))[·]?) qs.toList ps z ds zv.cells
    ⟨hl,fun j q p hq hp'=>by
      obtain⟨⟨f,hf1,hf2,hf3⟩,hx⟩:=hp j q p hq hp'
      obtain⟨i,hi1,hi2⟩:=jF hf3
      refine⟨?_,hx⟩
      simp[hf1,hf2,Program.cellsOf,hi1,hi2]⟩ (gJ w G.R) hfl
   refine⟨.agg us,fun _ _ _ _=>?_,NR.mk rfl (.agg _ _ h2.2.2 h2.1 h2.2.1) rfl⟩
   simp only[Array.getElem?_map]at h1
   simp[execOp,Instr.build,hzr,run_underlying ht,RR,h1]
  ·rename_i m e ht
   split at hc<;>try(cases hc;done)
   rename_i ei hei
   obtain⟨hl,hp⟩:=vj _ _ hc
   obtain⟨us,h1,h2⟩:=pL h hf (fun i=>some (i*ei.size,ei.size)) qs.toList ps z ds zv.cells
    ⟨hl,fun j q p hq hp'=>by
      obtain⟨⟨e1,e2⟩,hx⟩:=hp j q p hq hp'
      exact⟨by rw[e1,e2],hx⟩⟩ (gJ w G.R) hfl
   refine⟨.agg us,fun _ _ _ _=>?_,NR.mk rfl (.agg _ _ h2.2.2 h2.1 h2.2.1) rfl⟩
   simp[execOp,Instr.build,hzr,run_underlying ht,sizeOf,typeInfo,hei,h1]
theorem qX(h:Inv G n D E a w){f:IX->AV}(hf:∀(o:Operand)(x:IX),bp o x=true->cO (f x)=true->VR w G.R (f x) (a.eval o)):
 ∀(os:List Operand)(xs:List IX)(as:List AV),fI os xs=true->bQ f xs=some as->as.length=os.length/\(∀c∈as,cO c=true/\view c=c)/\
  ∀(j:Nat)(c:AV)(u:Value),as[j]? =some c->(os.map a.eval)[j]? =some u->VR w G.R c u:=by
 intro os
 induction os with
 |nil=>
  intro xs as hc hv
  cases xs with
  |nil=>injection hv with hv;subst hv;exact⟨rfl,by simp,fun j c u hc=>by simp at hc⟩
  |cons _ _=>simp[fI]at hc
 |cons o os ih=>
  intro xs as hc hv
  cases xs with
  |nil=>simp[fI]at hc
  |cons x xs=>
   simp only[fI,Bool.and_eq_true]at hc
   simp only[bQ]at hv
   cases hr:bQ f xs with
   |none=>rw[hr]at hv;simp[MH]at hv
   |some as'=>
    rw[hr]at hv
    simp only[MH]at hv
    cases hi:cO (f x)with
    |false=>rw[hi]at hv;cases hv
    |true=>
     rw[hi]at hv
     injection hv with hv;subst hv
     obtain⟨h1,h2,h3⟩:=ih xs as' hc.2 hr
     refine⟨by simp[h1],?_,fun j c u hcj hu=>?_⟩
     ·intro c hcm
      rcases List.mem_cons.1 hcm with rfl|hcm
      ·exact⟨jW hi,kM _⟩
      ·exact h2 c hcm
     ·cases j with
      |zero=>simp at hcj hu;subst hcj;subst hu;exact(hf o x hc.1 hi).view
      |succ j=>exact h3 j c u (by simpa using hcj) (by simpa using hu)
theorem Ns(h:Inv G n D E a w){op:Op}{ty:TypeId}{fi:Nat}{fs cs:List IX}(hc:aq P op ty (.lI fi fs cs)=true){av:AV}(hv:fG (pv (.lI fi fs cs) (xg true E) E) av):
 ∃v,runs P a op ty w v/\NR G w E a av v:=by
 cases op<;>first|(simp[aq]at hc;done)|skip
 rename_i g c d
 cases g<;>first|(simp[aq]at hc;done)|skip
 rename_i g
 simp only[aq,Bool.and_eq_true,beq_iff_eq]at hc
 obtain⟨⟨rfl,h1⟩,h2⟩:=hc
 have hf:∀(o:Operand)(x:IX),bp o x=true->cO (xg true E x)=true->VR w G.R (xg true E x) (a.eval o):=fun o x hx hi=>(BR.aG h hx).vr hi
 have hv':fG (s8 fi (bQ (xg true E) fs) (bQ (xg true E) cs)) av:=hv
 unfold s8 at hv'
 split at hv'
 ·rename_i x y hx hy
  have hav:=hv'.cT
  subst hav
  obtain⟨a1,_,a3⟩:=qX h hf _ _ _ h1 hx
  obtain⟨b1,_,b3⟩:=qX h hf _ _ _ h2 hy
  refine⟨.func (.func fi) (c.map a.eval) (d.map a.eval),fun _ _ _ _=>by simp[execOp,Instr.makeFunc],NR.mk rfl (.fn fi x y _ _ ?_ (fun j c' u hc' hu=>a3 j c' u hc' ?_) ?_ (fun j c' u hc' hu=>b3 j c' u hc' ?_)) rfl⟩
  ·simpa using a1.symm
  ·simpa using hu
  ·simpa using b1.symm
  ·simpa using hu
 ·exact hv'.no.elim
theorem Nt(h:Inv G n D E a w){op:Op}{ty:TypeId}{mx:Bool}{xs:List IX}(hc:aq P op ty (.gT mx xs)=true){av:AV}(hv:fG (pv (.gT mx xs) (xg true E) E) av):
 ∃v,runs P a op ty w v/\NR G w E a av v:=by
 have key:∀(ys:List Operand),fI ys xs=true->∃(k:IntKind)(m:Int)(y:Operand)(ys':List Operand),ys=y::ys'/\av=.int k m/\∃m0,a.eval y=.int k m0/\
  ((ys'.map a.eval).foldlM (if mx then Builtin.max2 else Builtin.min2) (.int k m0)).run P w=.ok (.int k m) w:=by
  intro ys hx
  have hv':fG (tc mx (xs.map (xg true E))) av:=hv
  cases xs with
  |nil=>exact hv'.no.elim
  |cons x xs=>
   cases ys with
   |nil=>simp[fI]at hx
   |cons y ys=>
    simp only[fI,Bool.and_eq_true]at hx
    have hb:=BR.aG h hx.1
    simp only[List.map_cons]at hv'
    generalize xg true E x=xv at hb hv'
    cases xv<;>simp only[tc]at hv'<;>try(exact hv'.no.elim)
    rename_i k m0
    cases hr:Jm mx m0 (xs.map (xg true E))with
    |none=>rw[hr]at hv';exact hv'.no.elim
    |some r=>
     rw[hr]at hv'
     have hav:av=.int k r:=hv'.cT
     exact⟨k,r,y,ys,rfl,hav,m0,VR.bT hb,Sk mx k h xs ys hx.2 m0 r hr⟩
 cases op<;>first|(cases mx<;>simp[aq]at hc;done)|skip
 rename_i c
 cases mx with
 |true=>
  simp only[aq]at hc
  split at hc<;>try(cases hc;done)
  rename_i ys ts hb
  have hce:=nN hb
  subst hce
  obtain⟨k,m,y,ys',rfl,rfl,m0,e0,hr⟩:=key ys hc
  refine⟨.int k m,fun _ _ _ _=>?_,NR.mk rfl (.int _ _) rfl⟩
  simp only[if_true]at hr
  simp[execOp,resolve,invoke,builtin,Builtin.max_,e0,hr]
 |false=>
  simp only[aq]at hc
  split at hc<;>try(cases hc;done)
  rename_i ys ts hb
  have hce:=nN hb
  subst hce
  obtain⟨k,m,y,ys',rfl,rfl,m0,e0,hr⟩:=key ys hc
  refine⟨.int k m,fun _ _ _ _=>?_,NR.mk rfl (.int _ _) rfl⟩
  simp only[Bool.false_eq_true,if_false]at hr
  simp[execOp,resolve,invoke,builtin,Builtin.min_,e0,hr]
theorem WC(h:Inv G n D E a w){op:Op}{ty:TypeId}{x:IX}(hc:aq P op ty (.cap x)=true){av:AV}(hv:fG (pv (.cap x) (xg true E) E) av):
 ∃v,runs P a op ty w v/\NR G w E a av v:=by
 cases op<;>first|(simp[aq]at hc;done)|skip
 rename_i c
 simp only[aq]at hc
 split at hc<;>try(cases hc;done)
 rename_i y ys t ts hb
 have hce:=nN hb
 subst hce
 simp only[Bool.and_eq_true]at hc
 obtain⟨hy,hsl⟩:=hc
 have hv':fG (Kf (xg true E x)) av:=hv
 have hbx:=BR.aG h hy
 generalize xg true E x=xv at hbx hv'
 cases he:cq P t with
 |none=>rw[he]at hsl;cases hsl
 |some e=>
 have ht:=cz he
 unfold Kf at hv'
 split at hv'
 ·rename_i b o l cap
  rw[hv'.cT]
  refine⟨.int .i64 cap,fun _ _ _ _=>?_,NR.mk rfl (.int _ _) rfl⟩
  have hr:∀w',w'=w->(Builtin.cap_ (t::ts).toArray ty ((y::ys).toArray.map a.eval)).run P w'=.ok (.int .i64 cap) w':=fun w' _=>by rcases VR.cc hbx with e1|⟨_,rfl,e1⟩<;>simp[Builtin.cap_,run_underlying ht,goInt,e1]
  have hr:=hr w rfl
  simp[execOp,resolve,invoke,builtin]at hr⊢;simp[hr]
 ·exact hv'.no.elim
theorem R5{t:TypeId}(h:R4 P t=true):∃k,P.underlying t=some (.int k):=by
 unfold R4 at h
 split at h
 ·exact⟨_,by assumption⟩
 ·cases h
theorem VR.Py{R:Nat->Nat}{v:Value}(h:VR w R .nn v):v=.nilFunc:=by cases h;rfl
theorem WG(h:Inv G n D E a w){op:Op}{ty:TypeId}{ne:Bool}{x:IX}(hc:aq P op ty (.Vi ne x)=true){av:AV}(hv:fG (pv (.Vi ne x) (xg true E) E) av):
 ∃v,runs P a op ty w v/\NR G w E a av v:=by
 cases op<;>first|(simp[aq]at hc;done)|skip
 rename_i b t u v yt
 simp only[aq,Bool.and_eq_true,decide_eq_true_eq]at hc
 obtain⟨⟨⟨rfl,hx⟩,hy⟩,ht⟩:=hc
 have e2:a.eval v=.nilFunc:=by
  split at hy
  ·rfl
  ·cases hy
 split at ht<;>try(cases ht;done)
 rename_i q1 q2 q3 htu
 have hbx:=BR.aG h hx
 have hv':fG (Kv ne (xg true E x)) av:=hv
 generalize xg true E x=xv at hbx hv'
 have key:∀(fv:Value)(r:Bool),a.eval u=fv->(∀d:Nat,(Op.equalIn (d+1) t fv .nilFunc).run P w=.ok r w)->runs P a (.binOp (if ne=true then .neq else .eql) t u v yt) ty w (.bool (r !=ne)):=by
  intro fv r e1 hr _ _ _ _
  have hq:(Op.equal t fv .nilFunc).run P w=.ok r w:=hr 9999
  cases fv<;>cases ne<;>simp[execOp,e1,e2,eqGuard,binOp,hq]
 unfold Kv at hv'
 split at hv'
 ·rename_i f first dZ
  rw[hv'.cT]
  obtain⟨vf,vc,e1,_⟩:=VR.Gr hbx
  have:=key _ false e1 fun d=>by simp[Op.equalIn,run_underlying htu]
  exact⟨_,this,NR.mk rfl (by cases ne<;>exact .bool _) rfl⟩
 ·rw[hv'.cT]
  have e1:=VR.Py hbx
  have:=key _ true e1 fun d=>by simp[Op.equalIn,run_underlying htu]
  exact⟨_,this,NR.mk rfl (by cases ne<;>exact .bool _) rfl⟩
 ·exact hv'.no.elim
theorem VR.Pz{R:Nat->Nat}{v:Value}(h:VR w R .kp v):v=.nilIface:=by cases h;rfl
theorem WH(h:Inv G n D E a w){op:Op}{ty:TypeId}{ne:Bool}{x:IX}(hc:aq P op ty (.Q7 ne x)=true){av:AV}(hv:fG (pv (.Q7 ne x) (xg true E) E) av):
 ∃v,runs P a op ty w v/\NR G w E a av v:=by
 cases op<;>first|(simp[aq]at hc;done)|skip
 rename_i b t u v yt
 simp only[aq,Bool.and_eq_true,decide_eq_true_eq]at hc
 obtain⟨⟨⟨rfl,hx⟩,hy⟩,ht⟩:=hc
 have hvc:v=.const .nilIface:=by
  split at hy
  ·rfl
  ·cases hy
 subst hvc
 have e2:a.eval (.const .nilIface)=.nilIface:=rfl
 split at ht<;>try(cases ht;done)
 rename_i q1 htu
 have hbx:=BR.aG h hx
 have hv':fG (IA ne (xg true E x)) av:=hv
 generalize xg true E x=xv at hbx hv'
 have key:∀(fv:Value)(r:Bool),a.eval u=fv->(∀d:Nat,(Op.equalIn (d+1) t fv .nilIface).run P w=.ok r w)->runs P a (.binOp (if ne=true then .neq else .eql) t u (.const .nilIface) yt) ty w (.bool (r !=ne)):=by
  intro fv r e1 hr _ _ _ _
  have hq:(Op.equal t fv .nilIface).run P w=.ok r w:=hr 9999
  cases fv<;>cases ne<;>simp[execOp,e1,e2,eqGuard,binOp,hq]
 unfold IA at hv'
 split at hv'
 ·rw[hv'.cT]
  have e1:=VR.Pz hbx
  have:=key _ true e1 fun d=>by simp[Op.equalIn,run_underlying htu]
  exact⟨_,this,NR.mk rfl (by cases ne<;>exact .bool _) rfl⟩
 ·exact hv'.no.elim
theorem xl(h:Inv G n D E a w){op:Op}{ty:TypeId}{o:qT}(hc:aq P op ty o=true){av:AV}(hv:fG (pv o (xg true E) E) av):
 ∃v,runs P a op ty w v/\NR G w E a av v:=by
 cases o with
 |iJ tr x=>cases tr with
  |false=>exact WK h hc hv
  |true=>exact(fG.no hv).elim
 |pick c x y=>exact SI h hc hv
 |bin b x y=>exact WB h hc hv
 |RG ne x y=>exact WE h hc hv
 |HO ne x y=>exact WI h hc hv
 |un u x=>exact aaY h hc hv
 |cC k x=>exact Nq h hc hv
 |load m mu x=>exact Hi h hc hv
 |de x i=>exact Nu h hc hv
 |nilCheck x=>exact Jz h hc hv
 |fieldAddr off x=>exact Hg h hc hv
 |indexAddr sz x i=>exact Hh h hc hv
 |slice sz x lo hi mx=>exact Qh h hc hv
 |js x lo hi=>exact Nv h hc hv
 |len cls x=>exact WJ h hc hv
 |gT mx xs=>exact Nt h hc hv
 |extract x k=>exact K9 h hc hv
 |build z ps=>exact Qd h hc hv
 |lI f a b=>exact Ns h hc hv
 |eP x=>exact Nr h hc hv
 |bM z m x=>exact Qg h hc hv
 |lQ k x=>exact Qf h hc hv
 |cap x=>exact WC h hc hv
 |Vi ne x=>exact WG h hc hv
 |Q7 ne x=>exact WH h hc hv
 |_=>exact(fG.no hv).elim
end
def Gh.ot(G:Gh)(b:Nat)(o:cD)(r:Nat):Gh:=⟨fun i=>if i=b then r else G.R i,fun i=>if i=b then o else G.O i⟩
@[simp]theorem Gh.QS(G:Gh)(b:Nat)(o:cD)(r i:Nat):(G.ot b o r).O i=if i=b then o else G.O i:=rfl
@[simp]theorem Gh.UM(G:Gh)(b:Nat)(o:cD)(r i:Nat):(G.ot b o r).R i=if i=b then r else G.R i:=rfl
def Gh.fK(G:Gh)(o o':cD):Gh:=⟨G.R,fun i=>if G.O i=o then o' else G.O i⟩
@[simp]theorem Gh.SZ(G:Gh)(o o':cD)(i:Nat):(G.fK o o').O i=if G.O i=o then o' else G.O i:=rfl
section
variable{P:Program}{G G':Gh}{n:Nat}{D:List Deferred}{E:St}{a:Act}{w w':World}
theorem aO.wX{s:ab}(h:aO G w s)(hv:∀a v,VR w G.R a v->VR w' G'.R a v)
 (hsh:∀b,G.O b=.sh->G'.O b=.sh/\G'.R b=G.R b/\w'.heap[b]? =w.heap[b]?)
 (cS:∀b c j,G.O b=.sh->G.O c=.cell b j->G'.O c=.cell b j/\G'.R c=G.R c/\w'.heap[c]? =w.heap[c]?):aO G' w' s:=by
 intro b o hb
 obtain⟨h1,h2,h3⟩:=h b o hb
 obtain⟨k1,k2,k3⟩:=hsh b h1
 refine⟨k1,k2.trans h2,?_⟩
 cases o with
 |cells cs=>
  obtain⟨c,t,h4,h5,h6⟩:=h3
  exact⟨c,t,k3.trans h4,h5.mono hv (fun b' j hb'=>cS b b' j h1 hb'),h6⟩
 |map es=>
  obtain⟨gM,clock,h4,h5,h6⟩:=h3
  exact⟨gM,clock,k3.trans h4,h5,fun j x y hx hy=>⟨hv _ _ (h6 j x y hx hy).1,hv _ _ (h6 j x y hx hy).2⟩⟩
theorem aO.mono{s:ab}(h:aO G w s)(hg:bR G w)(hp:az G w G' w')
 (hsh:∀b,G.O b=.sh->G'.O b=.sh/\G'.R b=G.R b/\w'.heap[b]? =w.heap[b]?)
 (cS:∀b c j,G.O b=.sh->G.O c=.cell b j->G'.O c=.cell b j/\G'.R c=G.R c/\w'.heap[c]? =w.heap[c]?):aO G' w' s:=
 h.wX (fun _ _ hv=>hp.vr hg hv) hsh cS
theorem bR.lt(h:bR G w){b:Nat}(ho:G.O b≠.none):b<w.heap.size:=by
 rcases Nat.lt_or_ge b w.heap.size with hb|hb
 ·exact hb
 ·exact absurd (h.ik b hb) ho
theorem eG(hg:bR G w)(ob:Obj)(o:cD)(r:Nat):
 bR (G.ot w.heap.size o r) (w.alloc ob)/\az G w (G.ot w.heap.size o r) (w.alloc ob)/\
 (∀b,G.O b≠.none->(G.ot w.heap.size o r).O b=G.O b/\(G.ot w.heap.size o r).R b=G.R b/\(w.alloc ob).heap[b]? =w.heap[b]?):=by
 have hsz:(w.alloc ob).heap.size=w.heap.size+1:=Array.size_push ..
 refine⟨⟨fun b hb=>?_,fun b hb=>?_⟩,⟨rfl,rfl,rfl,Nat.le_refl _,by omega,fun b hb=>?_,fun b k hb _=>?_,fun b hb _=>heap_alloc_old w ob b hb,fun b hb ho=>?_,fun b hb ho=>?_⟩,fun b ho=>?_⟩
 ·have:b≠w.heap.size:=by omega
  simp[this,hg.ik b (by omega)]
 ·have:b≠w.heap.size:=by omega
  simp[this,hg.iT b (by omega)]
 ·have:b≠w.heap.size:=by omega
  simp[this]
 ·exact World.cell?_of_block (heap_alloc_old w ob b hb)
 ·have:b≠w.heap.size:=by omega
  simp[this,ho]
 ·have:b≠w.heap.size:=by omega
  simp[this,ho]
 ·have hb:=hg.lt ho
  have:b≠w.heap.size:=by omega
  exact⟨by simp[this],by simp[this],heap_alloc_old w ob b hb⟩
theorem jv{s:ab}(h:aO G w s)(hg:bR G w)(ob:Obj)(o:cD)(r:Nat):aO (G.ot w.heap.size o r) (w.alloc ob) s:=by
 obtain⟨_,h2,h3⟩:=eG hg ob o r
 refine h.mono hg h2 (fun b hb=>?_) (fun b c j _ hc=>?_)
 ·obtain⟨k1,k2,k3⟩:=h3 b (by rw[hb];simp)
  exact⟨k1.trans hb,k2,k3⟩
 ·obtain⟨k1,k2,k3⟩:=h3 c (by rw[hc];simp)
  exact⟨k1.trans hc,k2,k3⟩
theorem Inv.alloc(h:Inv G n D E a w)(ob:Obj)(o:cD)(r:Nat){s':ab}(d:Option Nat)(hd:aS n d=true)(av:AV)(v:Value)(lp':List (Nat×Nat))
 (cj:aO (G.ot w.heap.size o r) (w.alloc ob) s')
 (hlp:∀x∈E.lp,x∈lp')(Vy:∀i t,d=some i->bd av t->(i,t)∈lp')
 (Pd:∀i t,d=some i->(∃cs,av=.loc cs)->(t,i)∉E.lp)
 (IQ:∀i,d=some i->cN (G.ot w.heap.size o r) (w.alloc ob) ((E.put d av).e) (a.put d v).tmps i av v):
 Inv (G.ot w.heap.size o r) n D {(E.put d av)with s:=s',lp:=lp'} (a.put d v) (w.alloc ob)/\az G w (G.ot w.heap.size o r) (w.alloc ob):=by
 obtain⟨h1,h2,h3⟩:=eG h.aJ ob o r
 refine⟨h.put d (fun i hi=>by subst hi;simpa[aS]using hd) av v h1 h2 cj hlp Vy Pd (fun i b _ hb=>h3 b ?_) (fun i b c j _ hb hc=>?_) IQ,h2⟩
 ·rcases hb with⟨j,hb⟩|hb<;>rw[hb]<;>simp
 ·obtain⟨k1,k2,k3⟩:=h3 c (by rw[hc];simp)
  exact⟨k1.trans hc,k2,k3⟩
theorem aO.get_none(h:aO G w E.s)(hg:bR G w):E.s w.heap.size=none:=by
 cases hs:E.s w.heap.size with
 |none=>rfl
 |some o=>
  have:=(h _ _ hs).1
  rw[hg.ik _ (Nat.le_refl _)]at this
  cases this
theorem Ji{lp:List (Nat×Nat)}{d:Option Nat}(h:j5 lp d=true):∀i t,d=some i->(t,i)∉lp:=by
 intro i t hd hm
 subst hd
 simp only[j5,List.all_eq_true]at h
 have:=h _ hm
 simp at this
theorem aI{o:Oper}{v:Value}{next:Act->World->Prop}{Q:Exit->Act->World->Prop}(hr:(execOp a.eval o).run P w=.ok (.value v) w')(hn:next (a.put o.dst v) w'):o.wp P a w next Q:=by
 unfold Oper.wp
 rw[hr]
 exact hn
theorem px{o:Oper}{next:Act->World->Prop}{Q:Exit->Act->World->Prop}(hr:(execOp a.eval o).run P w=.ok .skip w')(hn:next (a.put o.dst undef) w'):o.wp P a w next Q:=by
 unfold Oper.wp
 rw[hr]
 exact hn
theorem Inv.Mr(h:Inv G n D E a w)(i:Nat)(hi:i<n)(av:AV)(hnl:∀t,¬bd av t)(ZS:∀cs,av≠.loc cs)
 (hv:∀v,a.tmps[i]? =some v->cN G w ((E.put (some i) av).e) a.tmps i av v):Inv G n D (E.put (some i) av) a w:=by
 have hlt:i<a.tmps.size:=by rw[h.size];exact hi
 have ha:a.put (some i) a.tmps[i]=a:=by
  have:a.tmps.setIfInBounds i a.tmps[i]=a.tmps:=by rw[Array.setIfInBounds,dif_pos hlt,Array.set_getElem_self]
  simp[Act.put,this]
 have:=h.put (some i) (fun j hj=>by injection hj with hj;subst hj;exact hi) av a.tmps[i] h.aJ (az.refl G w) h.store (fun x hx=>hx) (fun j t _ ht=>(hnl t ht).elim)
  (fun j t _⟨cs,hcs⟩=>(ZS cs hcs).elim) (fun _ b _ _=>⟨rfl,rfl,rfl⟩) (fun _ b c j _ _ hc=>⟨hc,rfl,rfl⟩)
  (fun j hj=>by injection hj with hj;subst hj;rw[ha];exact hv _ (Array.getElem?_eq_getElem hlt))
 rw[ha]at this
 exact this
theorem dN{av:AV}(h:cO av=true)(t:Nat):¬bd av t:=by cases av<;>simp_all [cO,bd]
theorem l8{av:AV}(h:cO av=true)(cs:List AV):av≠.loc cs:=by cases av<;>simp_all [cO]
theorem Inv.Jk(h:Inv G n D E a w){i:Nat}(hi:look E.e i≠.undef):i<n:=by
 rcases Nat.lt_or_ge i n with hlt|hge
 ·exact hlt
 ·exact absurd (h.DE i hge) hi
theorem OC{o:Operand}{i:Nat}(h:bp o (.t i)=true):o=.tmp i:=by
 cases o with
 |tmp t=>simp[bp]at h;rw[h]
 |const v=>cases v<;>simp[bp]at h
 |_=>simp[bp]at h
theorem OB{o:Operand}{c:AV}(h:bp o (.c c)=true)(G:Gh)(w:World)(T:cD):cQ G w T c (a.eval o):=by
 cases o with
 |tmp t=>simp[bp]at h
 |global g=>simp[bp]at h
 |func f=>cases c<;>first|trivial|(simp[bp]at h)
 |const v=>
  show cQ G w T c v
  have hc:(∃cs,c=.agg cs)\/cR v c=true:=by
   cases v<;>first|exact .inr h|skip
   cases c<;>first|exact .inl ⟨_,rfl⟩|exact .inr h
  rcases hc with⟨cs,rfl⟩|hc
  ·trivial
  ·exact Bz hc G w T
theorem Inv.drain(h:Inv G n D E a w){x:IX}{o:Operand}(hx:bp o x=true)(hi:cO (E.x x)=true)(T:cD)(hT1:T≠.sh)(hT2:∀i,T≠.loc i):
 ∃G',Inv G' n D (E.drain x) a w/\az G w G' w/\VR w G'.R (E.x x) (a.eval o)/\cQ G' w T (E.x x) (a.eval o)/\G'.R=G.R/\(∀b,G'.O b=.sh↔G.O b=.sh)/\(∀b i,G'.O b=.loc i↔G.O b=.loc i)/\
  (∀b b' j,G.O b=.cell b' j->G'.O b=.cell b' j):=by
 have hvr:VR w G.R (E.x x) (a.eval o):=by
  have:=XR.aG h hx
  generalize E.x x=av at hi this
  cases av<;>first|exact this|(simp[cO]at hi)
 cases x with
 |c c=>
  refine⟨G,h,az.refl G w,hvr,?_,rfl,fun _=>Iff.rfl,fun _ _=>Iff.rfl,fun _ _ _ hc=>hc⟩
  exact OB hx G w T
 |t i=>
  have hin:i<n:=h.Jk (fun e=>by rw[show E.x (.t i)=look E.e i from rfl,e]at hi;cases hi)
  have ho:o=.tmp i:=OC hx
  subst ho
  have hlt:i<a.tmps.size:=by rw[h.size];exact hin
  have Vw:=h.bO i _ (fh hlt)
  have hi':cO (look E.e i)=true:=hi
  rw[cN.nZ hi']at Vw
  have hne:∀b,G.O b≠.slot i 0->(G.fK (.slot i 0) T).O b=G.O b:=fun b hb=>by simp[hb]
  have aV:az G w (G.fK (.slot i 0) T) w:=⟨rfl,rfl,rfl,Nat.le_refl _,Nat.le_refl _,fun _ _=>Nat.le_refl _,fun _ _ _ _=>rfl,fun _ _ _=>rfl,
   fun b _ hb=>⟨by rw[hne b (by rw[hb];simp),hb],rfl⟩,fun b _ hb=>⟨by rw[hne b (by rw[hb];simp),hb],rfl⟩⟩
  refine⟨G.fK (.slot i 0) T,?_,aV,hvr,?_,rfl,fun b=>?_,fun b k=>?_,fun b b' j hb=>by rw[hne b (by rw[hb];simp),hb]⟩
  ·have h1:=h.Mr i hin (view (look E.e i)) (dN (jW hi')) (l8 (jW hi')) (fun v hv=>by
    rw[fh hlt]at hv;injection hv with hv;subst hv
    exact cN.wW hi' Vw.1)
   refine⟨⟨fun b hb=>by rw[hne b (by rw[h.aJ.ik b hb];simp),h.aJ.ik b hb],h.aJ.iT⟩,?_,h1.size,fun k v hk=>?_,h1.DE,h1.JX,h1.qG⟩
   ·exact h.store.mono h.aJ aV (fun b hb=>⟨by rw[hne b (by rw[hb];simp),hb],rfl,rfl⟩) (fun b c j _ hc=>⟨by rw[hne c (by rw[hc];simp),hc],rfl,rfl⟩)
   ·have h2:=h1.bO k v hk
    by_cases hki:k=i
    ·subst hki
     have e1:look (E.put (some k) (view (look E.e k))).e k=view (look E.e k):=by simp[St.put,aM]
     show cN _ w _ _ k (look (E.put (some k) (view (look E.e k))).e k) v
     rw[e1]at h2⊢
     rw[cN.nZ (jW hi')]at h2⊢
     exact⟨h2.1,cQ.view ..⟩
    ·refine cN.frame (G:=G) (G':=G.fK (.slot i 0) T) (w:=w) (fun _ _ hv=>hv) (fun b hb=>⟨hne b ?_,rfl,rfl⟩) (fun b c j _ hc=>⟨by rw[hne c (by rw[hc];simp),hc],rfl,rfl⟩) _ _ (fun d _ cs hcs=>⟨cs,hcs,rfl⟩) h2
     rcases hb with⟨j,hb⟩|hb
     ·rw[hb];intro e;injection e with e;exact hki e
     ·rw[hb];simp
  ·have:=Vw.2
   show cQ _ w T (look E.e i) _
   unfold cQ at this⊢
   split
   ·rename_i sz m cs he
    rw[he]at this
    intro base m' cap hv hc
    obtain⟨b,off,c,e,fz,q1,q2,q3⟩:=this base m' cap hv hc
    exact⟨b,off,c,e,fz,q1,by simp[q2],q3⟩
   ·rename_i e m cs he
    rw[he]at this
    intro base m' cap hv hc
    obtain⟨b,off,c,fz,q1,q2,q3⟩:=this base m' cap hv hc
    exact⟨b,off,c,fz,q1,by simp[q2],q3⟩
   ·trivial
  ·by_cases hb:G.O b=.slot i 0
   ·simp[hb,hT1]
   ·rw[hne b hb]
  ·by_cases hb:G.O b=.slot i 0
   ·simp[hb,hT2]
   ·rw[hne b hb]
def mr(P:Program)(G:Gh)(n:Nat)(D:List Deferred)(w:World)(a:Act)(op:Op)(ty:TypeId)(d:Option Nat)(K:St->Prop):Prop:=
 ∀(pos:String)(after:Array Edge)(g:Option (Nat×Bool))(next:Act->World->Prop)(Q:Exit->Act->World->Prop),
  (∀G' E' a' w',Inv G' n D E' a' w'->az G w G' w'->K E'->next a' w')->(⟨d,op,ty,pos,after,g⟩:Oper).wp P a w next Q
theorem RE(h:Inv G n D E a w){op:Op}{ty:TypeId}{tr:Bool}{x:IX}{d:Option Nat}{K:St->Prop}(hd:aS n d=true)(hc:aq P op ty (.iJ tr x)=true)(hw:gz P (.iJ tr x) d E K):mr P G n D w a op ty d K:=by
 obtain⟨hi,hk⟩:=hw
 have key:∀y,bp y x=true->∃G',Inv G' n D ((E.drain x).put d (E.x x)) (a.put d (a.eval y)) w/\az G w G' w:=by
  intro y hy
  obtain⟨G',h1,h2,h3,h4,_⟩:=h.drain hy hi (match d with|some d=>.slot d 0|none=>.frame) (by cases d<;>simp) (by cases d<;>simp)
  refine⟨G',?_,h2⟩
  have:=h1.put (s':=(E.drain x).s) (lp':=(E.drain x).lp) d (fun i hi=>by subst hi;simpa[aS]using hd) (E.x x) (a.eval y) h1.aJ (az.refl G' w) h1.store (fun _ hx=>hx) (fun i t _ ht=>(dN hi t ht).elim) (fun i t _⟨cs,hcs⟩=>(l8 hi cs hcs).elim)
   (fun _ _ _ _=>⟨rfl,rfl,rfl⟩) (fun _ _ _ _ _ _ hcc=>⟨hcc,rfl,rfl⟩) (fun i hdi=>by
     subst hdi
     rw[cN.nZ hi]
     exact⟨h3,h4⟩)
  cases d<;>exact this
 intro pos after g next Q hn
 cases op<;>first|(simp[aq]at hc;done)|skip
 ·rename_i y
  obtain⟨G',h1,h2⟩:=key y hc
  exact aI rfl (hn G' _ _ _ h1 h2 hk)
 ·rename_i y
  obtain⟨G',h1,h2⟩:=key y hc
  exact aI rfl (hn G' _ _ _ h1 h2 hk)
theorem FX{G:Gh}{w:World}{o:Nat->cD}{z:List AV}{c:Array Value}(h:Row w G.R z c)(h2:∀(j:Nat)(x:AV)(u:Value),z[j]? =some x->c[j]? =some u->cR u x=true):cP G w o z c:=⟨h.1,fun j x y hx hy=>⟨h.2.1 j x y hx hy,Bz (h2 j x y hx hy) G w _⟩⟩
theorem lF{G:Gh}{w:World}{o:Nat->cD}{z:List AV}{c:Array Value}(h:Row w G.R z c):cP G w o (views z) c:=
 ⟨h.views.1,fun j x y hx hy=>⟨h.views.2.1 j x y hx hy,by
   rw[dH]at hx
   cases hz:z[j]? with
   |none=>rw[hz]at hx;cases hx
   |some x'=>rw[hz]at hx;simp at hx;rw[<-hx];exact cQ.view ..⟩⟩
theorem Row.mono{R R':Nat->Nat}{z:List AV}{c:Array Value}(h:Row w R z c)(hv:∀a v,VR w R a v->VR w' R' a v):Row w' R' z c:=⟨h.1,fun j x y hx hy=>hv _ _ (h.2.1 j x y hx hy),h.2.2⟩
theorem Inv.aaH(h:Inv G n D E a w){d:Option Nat}(hd:aS n d=true)(hf:j5 E.lp d=true){cs:List AV}{c:Array Value}{t:TypeId}
 (hcs:∀(G':Gh)(w':World)(o:Nat->cD),az G w G' w'->cP G' w' o cs c)(hfl:Fl cs):
 ∃G',Inv G' n D (E.put d (.loc cs)) (a.put d (.pointer (some ⟨w.heap.size,0,none⟩))) (w.alloc (.cells c t))/\az G w G' (w.alloc (.cells c t)):=by
 let o:cD:=match d with|some d=>.loc d|none=>.none
 have hp:=(eG h.aJ (.cells c t) o 0).2.1
 obtain⟨h1,h2⟩:=h.alloc (.cells c t) o 0 d hd (.loc cs) (.pointer (some ⟨w.heap.size,0,none⟩)) E.lp (jv h.store h.aJ _ o 0) (fun _ hx=>hx) (fun i t' _ ht=>ht.elim) (fun i t' hi _=>Ji hf i t' hi)
  (fun i hi=>by
    subst hi
    exact⟨w.heap.size,c,t,rfl,by simp[o],by simp,heap_alloc_new w _,hcs _ _ _ hp,hfl⟩)
 exact⟨_,by cases d<;>exact h1,h2⟩
theorem Inv.Ub(h:Inv G n D E a w){d:Option Nat}(hd:aS n d=true){cs:List AV}{c:Array Value}{t:TypeId}{av:AV}{v:Value}(hav:av=.ref w.heap.size 0/\v=.pointer (some ⟨w.heap.size,0,none⟩)\/∃l m,av=.arr w.heap.size 0 l m/\v=.slice (some ⟨w.heap.size,0,none⟩) l m)
 (hcs:∀(G':Gh)(w':World)(o:Nat->cD),az G w G' w'->cP G' w' o cs c)(hfl:xH t cs):
 ∃G',Inv G' n D ({E with s:=E.s.set w.heap.size (.cells cs)}.put d av) (a.put d v) (w.alloc (.cells c t))/\az G w G' (w.alloc (.cells c t)):=by
 have hp:=(eG h.aJ (.cells c t) .sh 0).2.1
 have hs:aO (G.ot w.heap.size .sh 0) (w.alloc (.cells c t)) (E.s.set w.heap.size (.cells cs)):=by
  intro b o hb
  unfold ab.set at hb
  by_cases he:b=w.heap.size
  ·rw[if_pos he]at hb
   injection hb with hb
   subst hb;subst he
   exact⟨by simp,by simp,c,t,heap_alloc_new w _,hcs _ _ _ hp,hfl⟩
  ·rw[if_neg he]at hb
   exact jv h.store h.aJ _ .sh 0 b o hb
 have hv:cO av=true/\VR (w.alloc (.cells c t)) (G.ot w.heap.size .sh 0).R av v/\∀sz m cs,av≠.sl true sz m cs:=by
  rcases hav with⟨rfl,rfl⟩|⟨l,m,rfl,rfl⟩
  ·exact⟨rfl,.ref _ _,by simp⟩
  ·exact⟨rfl,.arr _ _ _ _,by simp⟩
 obtain⟨h1,h2⟩:=h.alloc (.cells c t) .sh 0 d hd av v E.lp hs (fun _ hx=>hx) (fun i t' _ ht=>(dN hv.1 t' ht).elim) (fun i t' _⟨cs',tB⟩=>(l8 hv.1 cs' tB).elim)
  (fun i hi=>by
    rw[cN.nZ hv.1]
    refine⟨hv.2.1,?_⟩
    rcases hav with⟨e,_⟩|⟨l,m,e,_⟩<;>rw[e]<;>trivial)
 refine⟨_,?_,h2⟩
 cases d<;>exact h1
theorem Inv.KU(h:Inv G n D E a w){d:Option Nat}(hd:aS n d=true){cs:List AV}{c:Array Value}{t:TypeId}{av:AV}{v:Value}(hav:av=.ref w.heap.size 0/\v=.pointer (some ⟨w.heap.size,0,none⟩)\/∃l m,av=.arr w.heap.size 0 l m/\v=.slice (some ⟨w.heap.size,0,none⟩) l m)
 (hcs:∀(G':Gh)(w':World)(o:Nat->cD),az G w G' w'->cP G' w' o cs c)(hfl:Fl cs):
 ∃G',Inv G' n D ({E with s:=E.s.set w.heap.size (.cells cs)}.put d av) (a.put d v) (w.alloc (.cells c t))/\az G w G' (w.alloc (.cells c t)):=h.Ub hd hav hcs (hfl.tag t)
theorem EG(h:Inv G n D E a w){op:Op}{ty:TypeId}{z:List AV}{d:Option Nat}{K:St->Prop}(hd:aS n d=true):
 (aq P op ty (.aA z)=true->gz P (.aA z) d E K->mr P G n D w a op ty d K)/\(aq P op ty (.gH z)=true->gz P (.gH z) d E K->mr P G n D w a op ty d K):=by
 have run:∀t,ni P t z=true->∃c:Array Value,(∀(dst:Option Tmp)(pos:String)(after:Array Edge)(g:Option (Nat×Bool)),(execOp a.eval ⟨dst,.alloc t,ty,pos,after,g⟩).run P w=.ok (.value (.pointer (some ⟨w.heap.size,0,none⟩))) (w.alloc (.cells c t)))/\
  (∀(G':Gh)(w':World)(o:Nat->cD),cP G' w' o z c)/\Fl z:=by
  intro t hz
  obtain⟨i,v,h1,h2,_,h4,h5⟩:=tv hz
  refine⟨v.cells,fun _ _ _ _=>?_,fun G' w' o=>FX (h4 w' G'.R) h5,(h4 w G.R).2.2⟩
  simp[execOp,Instr.alloc,zeroValue,typeInfo,h1,h2,newVar,newRow]
 constructor
 ·intro hc hw pos after g next Q hn
  cases op<;>first|(simp[aq]at hc;done)|skip
  rename_i t
  obtain⟨c,hr,hcs,hfl⟩:=run t hc
  obtain⟨G',h1,h2⟩:=h.aaH hd hw.1 (c:=c) (t:=t) (fun G' w' o _=>hcs G' w' o) hfl
  exact aI (hr d pos after g) (hn G' _ _ _ h1 h2 hw.2)
 ·intro hc hw pos after g next Q hn
  cases op<;>first|(simp[aq]at hc;done)|skip
  rename_i t
  obtain⟨c,hr,hcs,hfl⟩:=run t hc
  obtain⟨G',h1,h2⟩:=h.KU hd (c:=c) (t:=t) (.inl ⟨rfl,rfl⟩) (fun G' w' o _=>hcs G' w' o) hfl
  exact aI (hr d pos after g) (hn G' _ _ _ h1 h2 (hw w.heap.size (h.store.get_none h.aJ)))
theorem LN(h:Inv G n D E a w){op:Op}{ty:TypeId}{m:Nat}{x:IX}{d:Option Nat}{K:St->Prop}(hd:aS n d=true):
 (aq P op ty (.jf m x)=true->gz P (.jf m x) d E K->mr P G n D w a op ty d K)/\(aq P op ty (.qE m x)=true->gz P (.qE m x) d E K->mr P G n D w a op ty d K):=by
 have run:∀t y,∀(dst:Option Tmp)(pos:String)(after:Array Edge)(g:Option (Nat×Bool)),(execOp a.eval ⟨dst,.box t y,ty,pos,after,g⟩).run P w=.ok (.value (.pointer (some ⟨w.heap.size,0,none⟩))) (w.alloc (.cells (a.eval y).cells t)):=by
  intro t y _ _ _ _
  simp[execOp,Instr.box,newVar,newRow]
 have cells:∀y,bp y x=true->cO (E.x x)=true->(∀(G':Gh)(w':World)(o:Nat->cD),az G w G' w'->cP G' w' o (views (cellsOf (E.x x))) (a.eval y).cells)/\Fl (views (cellsOf (E.x x))):=by
  intro y hy hi
  have hvr:VR w G.R (E.x x) (a.eval y):=by
   have:=XR.aG h hy
   generalize E.x x=av at hi this
   cases av<;>first|exact this|(simp[cO]at hi)
  exact⟨fun G' w' o hp=>lF ((gh hi hvr).mono fun _ _ hv=>hp.vr h.aJ hv),(gh hi hvr).2.2.views⟩
 have Oy:∀y,bp y x=true->cO (xg true E x)=true->(∀(G':Gh)(w':World)(o:Nat->cD),az G w G' w'->cP G' w' o (views (cellsOf (xg true E x))) (a.eval y).cells)/\Fl (views (cellsOf (xg true E x))):=by
  intro y hy hi
  have hvr:VR w G.R (xg true E x) (a.eval y):=(BR.aG h hy).vr hi
  exact⟨fun G' w' o hp=>lF ((gh hi hvr).mono fun _ _ hv=>hp.vr h.aJ hv),(gh hi hvr).2.2.views⟩
 constructor
 ·intro hc hw pos after g next Q hn
  cases op<;>first|(simp[aq]at hc;done)|skip
  rename_i t y
  simp only[aq,Bool.and_eq_true]at hc
  obtain⟨hf,hi,_,hk⟩:=hw
  obtain⟨G',h1,h2⟩:=h.aaH hd hf (t:=t) (cells y hc.2 hi).1 (cells y hc.2 hi).2
  exact aI (run t y d pos after g) (hn G' _ _ _ h1 h2 hk)
 ·intro hc hw pos after g next Q hn
  cases op<;>first|(simp[aq]at hc;done)|skip
  rename_i t y
  simp only[aq,Bool.and_eq_true]at hc
  obtain⟨hi,_,hk⟩:=hw
  obtain⟨G',h1,h2⟩:=h.KU hd (t:=t) (.inl ⟨rfl,rfl⟩) (Oy y hc.2 hi).1 (Oy y hc.2 hi).2
  exact aI (run t y d pos after g) (hn G' _ _ _ h1 h2 (hk w.heap.size (h.store.get_none h.aJ)))
end
section
variable{P:Program}{G G':Gh}{n:Nat}{D:List Deferred}{E:St}{a:Act}{w w':World}
theorem gA{R:Nat->Nat}{c:AV}{v:Value}(hf:oE c=true)(h:VR w R c v):v.oneCell'=true:=by cases h<;>first|rfl|assumption|(simp[oE,cO]at hf;done)|(rename_i h _;cases h<;>rfl)
theorem pg{t:Nat}{R:Nat->Nat}{c:AV}{v:Value}(hf:oE c=true\/c=.lW t)(h:VR w R c v):v.oneCell'=true:=by
 rcases hf with hf|rfl
 ·exact gA hf h
 ·cases h;rfl
theorem cW(g o:Nat)(t:TypeId)(fz:Nat×Nat):∀(vs:List Value)(i:Nat)(cur:Array Value)(w:World),w.heap[g]? =some (.cells cur t fz)->(∀k,k<cur.size->¬(fz.1<=k/\k<fz.2))->o+i+vs.length<=cur.size->(∀v∈vs,v.oneCell'=true)->
 (storeCells ⟨g,o,none⟩ vs i).run P w=.ok () (w.setRow g (cur.toList.take (o+i)++vs++cur.toList.drop (o+i+vs.length)).toArray)
 |[],i,cur,w,hg,_,_,_=>by
  simp only[storeCells,List.append_nil,List.length_nil,Nat.add_zero,List.take_append_drop,Array.toArray_toList]
  rw[setRow_self w g cur t fz hg]
  rfl
 |v::rest,i,cur,w,hg,hfz,hl,h1=>by
  have hi:o+i<cur.size:=by simp at hl;omega
  have cS:w.cell? ⟨g,o+i,none⟩=some cur[o+i]:=by simp[World.cell?,hg,hi]
  have adD:w.frozen? ⟨g,o+i,none⟩=false:=by
   have:=hfz (o+i) hi
   obtain⟨lo,hh⟩:=fz
   simp only[World.frozen?,hg]
   simp only at this
   by_cases h1:lo<=o+i
   ·have:¬(o+i<hh):=fun h2=>this ⟨h1,h2⟩
    simp[this]
   ·simp[h1]
  have cj:(store ((⟨g,o,none⟩:Addr).add i) v).run P w=.ok () (w.setRow g (cur.setIfInBounds (o+i) v)):=by
   rw[add_eq,run_store P w _ v _ (h1 v (by simp)),cS]
   simp[adD,setCell_eq_setRow w g (o+i) cur t fz v hg]
  have ih:=cW g o t fz rest (i+1) (cur.setIfInBounds (o+i) v) (w.setRow g (cur.setIfInBounds (o+i) v)) (setRow_heap w g cur _ t _ hg) (by simpa using hfz) (by simp at hl⊢;omega) (fun x hx=>h1 x (by simp[hx]))
  simp only[storeCells,Sem.run_bind,cj,Result.andThen_ok,ih,setRow_setRow]
  congr 3
  have e:=list_seg_step cur.toList (o+i) v rest (by simp at hl⊢;omega)
  simpa[Array.toList_setIfInBounds,Nat.add_assoc]using e
def laid(cur:Array Value)(o:Nat)(vs:List Value):Array Value:=(cur.toList.take o++vs++cur.toList.drop (o+vs.length)).toArray
theorem oY(cur:Array Value)(o:Nat)(vs:List Value)(h:o+vs.length<=cur.size):(laid cur o vs).size=cur.size:=by simp[laid];omega
theorem j4(cur:Array Value)(o:Nat)(vs:List Value)(h:o+vs.length<=cur.size)(k:Nat):(laid cur o vs)[k]? =if o<=k/\k<o+vs.length then vs[k -o]? else cur[k]? :=by
 unfold laid
 simp only[List.getElem?_toArray]
 rw[List.append_assoc]
 by_cases h1:k<o
 ·rw[if_neg (by omega),List.getElem?_append_left (by simp;omega),List.getElem?_take,if_pos h1];simp
 ·have hl:(cur.toList.take o).length=o:=by simp;omega
  rw[List.getElem?_append_right (by omega),hl]
  by_cases h2:k<o+vs.length
  ·rw[if_pos ⟨by omega,h2⟩,List.getElem?_append_left (by omega)]
  ·rw[if_neg (by omega),List.getElem?_append_right (by omega),List.getElem?_drop]
   simp only[Array.getElem?_toList]
   congr 1
   omega
theorem su{g:Nat}{cur:Array Value}{t:TypeId}{fz:Nat×Nat}(hg:w.heap[g]? =some (.cells cur t fz))(new:Array Value)(b k:Nat):(w.setRow g new).cell? ⟨b,k,none⟩=if b=g then new[k]? else w.cell? ⟨b,k,none⟩:=by
 by_cases h:b=g
 ·subst h
  rw[if_pos rfl,cell_of_row _ (setRow_heap w b cur new t fz hg)]
 ·rw[if_neg h]
  exact World.cell?_of_block (setRow_other w g b new h)
theorem az.write{g:Nat}{cur new:Array Value}{t:TypeId}{fz:Nat×Nat}(hg:w.heap[g]? =some (.cells cur t fz))(ho:G.O g≠.frame/\G.O g≠.none)(cj:∀k,k<G.R g->new[k]? =cur[k]?)
 (hR:G.R g<=G'.R g)(hO:∀b,b≠g->G'.O b=G.O b/\G'.R b=G.R b):az G w G' (w.setRow g new)where
 os:=rfl
 tape:=rfl
 output:=rfl
 drawn:=Nat.le_refl _
 size:=by simp[World.setRow]
 mono:=fun b _=>by
  by_cases h:b=g
  ·subst h;exact hR
  ·rw[(hO b h).2];exact Nat.le_refl _
 lK:=fun b k _ hk=>by
  rw[su hg]
  split
  ·rename_i h;subst h
   rw[cj k hk,cell_of_row w hg]
  ·rfl
 frame:=fun b _ hb=>by
  have:b≠g:=fun e=>by subst e;rcases hb with hb|hb;exact ho.1 hb;exact ho.2 hb
  exact setRow_other w g b new this
 iG:=fun b _ hb=>by
  have:b≠g:=fun e=>by subst e;exact ho.1 hb
  exact⟨(hO b this).1.trans hb,(hO b this).2⟩
 pd:=fun b _ hb=>by
  have:b≠g:=fun e=>by subst e;exact ho.2 hb
  exact⟨(hO b this).1.trans hb,(hO b this).2⟩
theorem Inv.written(h:Inv G n D E a w){g:Nat}{c new:Array Value}{t:TypeId}(hg:w.heap[g]? =some (.cells c t (0,0)))(ho:(∃i,G.O g=.loc i)\/G.O g=.sh)(hR:G.R g=0){E':St}(hlp:E'.lp=E.lp)
 (cj:aO G (w.setRow g new) E'.s)
 (he:∀k,(look E'.e k=look E.e k/\G.O g≠.loc k)\/(G.O g=.loc k/\a.tmps[k]? =some (.pointer (some ⟨g,0,none⟩))/\∃cs cs',look E.e k=.loc cs/\look E'.e k=.loc cs'/\cP G (w.setRow g new) (.cell g) cs' new/\Fl cs')):
 Inv G n D E' a (w.setRow g new)/\az G w G (w.setRow g new):=by
 have hog:G.O g≠.frame/\G.O g≠.none/\(∀i j,G.O g≠.slot i j)/\(∀i j,G.O g≠.cell i j):=by rcases ho with⟨i,ho⟩|ho<;>rw[ho]<;>simp
 have aV:az G w G (w.setRow g new):=az.write hg ⟨hog.1,hog.2.1⟩ (fun k hk=>by rw[hR]at hk;omega) (Nat.le_refl _) (fun _ _=>⟨rfl,rfl⟩)
 have Pk:∀b,G.O b≠G.O g->(w.setRow g new).heap[b]? =w.heap[b]? :=fun b hb=>setRow_other w g b new (fun e=>hb (by rw[e]))
 refine⟨⟨⟨fun b hb=>h.aJ.ik b (by simpa[World.setRow]using hb),fun b hb=>h.aJ.iT b (by simpa[World.setRow]using hb)⟩,cj,h.size,fun k v hk=>?_,fun k hk=>?_,fun k d hd=>?_,h.qG⟩,aV⟩
 ·have hs:=h.bO k v hk
  rcases he k with⟨e,hnk⟩|⟨hgk,htm,cs,cs',e1,e2,e3,e4⟩
  ·rw[e]
   refine cN.frame (G:=G) (G':=G) (fun _ _ hv=>aV.vr h.aJ hv) (fun b hb=>⟨rfl,rfl,Pk b ?_⟩) (fun b c' j _ hc=>⟨hc,rfl,Pk c' ?_⟩) _ _ (fun d _ ds hds=>?_) hs
   ·rcases hb with⟨j,hb⟩|hb
    ·rw[hb];exact fun e=>hog.2.2.1 _ _ e.symm
    ·rw[hb];exact fun e=>hnk e.symm
   ·rw[hc];exact fun e=>hog.2.2.2 _ _ e.symm
   ·rcases he d with⟨e',_⟩|⟨_,_,ds',_,e1',_⟩
    ·exact⟨ds,by rw[<-e'];exact hds,rfl⟩
    ·exact⟨ds',e1',rfl⟩
  ·rw[e2]
   have hv:v=.pointer (some ⟨g,0,none⟩):=by rw[htm]at hk;exact(Option.some.inj hk).symm
   exact⟨g,new,t,hv,hgk,hR,setRow_heap w g c new t _ hg,e3,e4⟩
 ·rcases he k with⟨e,_⟩|⟨_,_,cs,_,e1,_⟩
  ·rw[e];exact h.DE k hk
  ·rw[h.DE k hk]at e1;cases e1
 ·rw[hlp]
  rcases he k with⟨e,_⟩|⟨_,_,cs,cs',_,e2,_⟩
  ·rw[e]at hd;exact h.JX k d hd
  ·rw[e2]at hd;exact hd.elim
theorem cP.lay{g off:Nat}{cs news:List AV}{c:Array Value}{vs:List Value}{t:TypeId}{fz:Nat×Nat}(hg:w.heap[g]? =some (.cells c t fz))(aV:az G w G (w.setRow g (laid c off vs)))(iR:bR G w)
 (hc:cP G w (.cell g) cs c)(hl:vs.length=news.length)(cF:off+news.length<=cs.length)(hne:∀j,G.O g≠.cell g j)
 (hn:∀(j:Nat)(x:AV)(y:Value),news[j]? =some x->vs[j]? =some y->VR w G.R x y/\cQ G w (.cell g (off+j)) x y):
 cP G (w.setRow g (laid c off vs)) (.cell g) (setAt cs off news) (laid c off vs):=by
 have tW:off+vs.length<=c.size:=by rw[hl,hc.1];exact cF
 refine⟨by rw[oY _ _ _ tW,mq _ _ _ cF,hc.1],fun j x y hx hy=>?_⟩
 rw[mo _ _ _ _ cF]at hx
 rw[j4 _ _ _ tW]at hy
 have mono:∀o:Nat,cQ G w (.cell g o) x y->cQ G (w.setRow g (laid c off vs)) (.cell g o) x y:=fun o ho=>ho.mono fun b hb=>⟨hb,rfl,setRow_other w g b _ (fun e=>by subst e;exact hne _ hb)⟩
 by_cases hj:off<=j/\j<off+news.length
 ·rw[if_pos hj]at hx
  rw[if_pos (by omega)]at hy
  obtain⟨h1,h2⟩:=hn (j -off) x y hx hy
  have:off+(j -off)=j:=by omega
  rw[this]at h2
  exact⟨aV.vr iR h1,mono j h2⟩
 ·rw[if_neg hj]at hx
  rw[if_neg (by omega)]at hy
  obtain⟨h1,h2⟩:=hc.2 j x y hx hy
  exact⟨aV.vr iR h1,mono j h2⟩
theorem Di{av:AV}{v:Value}(hi:cO av=true)(h:VR w G.R av v):Fl (aU av)/\v.cells.toList.length=(aU av).length/\(∀(j:Nat)(x:AV)(y:Value),(aU av)[j]? =some x->v.cells.toList[j]? =some y->VR w G.R x y)/\
 (∀y∈v.cells.toList,y.oneCell'=true):=by
 have hr:=gh hi h
 have gJ:Row w G.R (aU av) v.cells:=by cases av<;>first|exact hr|exact hr.views
 refine⟨gJ.2.2,by simpa using gJ.1,fun j x y hx hy=>gJ.2.1 j x y hx (by simpa using hy),fun y hy=>?_⟩
 obtain⟨j,hj⟩:=List.mem_iff_getElem?.1 hy
 have hjl:j<(aU av).length:=by rw[<-gJ.1];have:=(List.getElem?_eq_some_iff.1 hj).1;simpa using this
 have hx:=List.getElem?_eq_getElem hjl
 exact gA (gJ.2.2 _ (List.getElem_mem hjl)) (gJ.2.1 j _ y hx (by simpa using hj))
theorem me{t:TypeId}{m:Nat}(hs:cH P t m=true){g off:Nat}{c:Array Value}{et:TypeId}(hg:w.heap[g]? =some (.cells c et (0,0))){v:Value}(hm:v.cells.size=m)(cF:off+m<=c.size)(h1:∀y∈v.cells.toList,y.oneCell'=true):
 (storeVar t ⟨g,off,none⟩ v).run P w=.ok () (w.setRow g (laid c off v.cells.toList)):=by
 have:=cW (P:=P) g off et (0,0) v.cells.toList 0 c w hg (fun k _ hk=>by simp at hk) (by simp[hm];omega) h1
 simp only[storeVar,Sem.run_bind,run_sizeOf hs,Result.andThen_ok]
 rw[if_neg (by simp[hm])]
 simpa[laid]using this
theorem qg{off:Nat}{news dJ cs:List AV}(h:dt off news dJ=some cs):off+news.length<=dJ.length/\cs=setAt dJ off news:=by
 unfold dt at h
 by_cases hl:off+news.length<=dJ.length
 ·rw[decide_eq_true hl]at h;injection h with h;exact⟨hl,h.symm⟩
 ·rw[decide_eq_false hl]at h;cases h
theorem Co{v:IX}(hi:cO (E.x v)=true){k:Nat}{cs:List AV}(h:look (E.drain v).e k=.loc cs):look E.e k=.loc cs:=by
 cases v with
 |c _=>exact h
 |t i=>
  simp only[St.drain,St.put,aM]at h
  split at h
  ·have:=l8 (jW (show cO (look E.e i)=true from hi)) cs
   exact absurd h this
  ·exact h
theorem zJ{v:IX}(hi:cO (E.x v)=true){k:Nat}{cs:List AV}(h:look E.e k=.loc cs):look (E.drain v).e k=.loc cs:=by
 cases v with
 |c _=>exact h
 |t i=>
  simp only[St.drain,St.put,aM]
  split
  ·rename_i e;subst e
   rw[show E.x (.t i)=look E.e i from rfl,h]at hi
   cases hi
  ·exact h
theorem M6(h:Inv G n D E a w){op:Op}{ty:TypeId}{m:Nat}{p v:IX}{d:Option Nat}{K:St->Prop}(hd:aS n d=true)(hc:aq P op ty (.store m p v)=true)(hw:gz P (.store m p v) d E K):mr P G n D w a op ty d K:=by
 cases op<;>first|(simp[aq]at hc;done)|skip
 rename_i t q u
 simp only[aq,Bool.and_eq_true]at hc
 obtain⟨⟨hs,hq⟩,hu⟩:=hc
 obtain⟨hi,hm,hk⟩:=hw
 have hvr:VR w G.R (E.x v) (a.eval u):=by
  have:=XR.aG h hu
  generalize E.x v=av at hi this
  cases av<;>first|exact this|(simp[cO]at hi)
 have target:∃g off dJ,a.eval q=.pointer (some ⟨g,off,none⟩)/\
  ((∃i,look E.e i=.loc dJ/\a.tmps[i]? =some (.pointer (some ⟨g,0,none⟩))/\Ex (E.drain v) (E.x p) p (aU (E.x v))=Tk (E.drain v) i (dt off (aU (E.x v)) dJ))\/
   (E.s g=some (.cells dJ)/\Ex (E.drain v) (E.x p) p (aU (E.x v))=Tl (E.drain v) g (dt off (aU (E.x v)) dJ))):=by
  have hb:=XR.aG h hq
  cases hp:E.x p with
  |loc dJ=>
   rw[hp]at hb
   obtain⟨i,b,c,t',e1,e2,e3,e4,_⟩:=hb
   refine⟨b,0,dJ,e4,.inl ⟨i,e2,by rw[e3,e4],?_⟩⟩
   subst e1;rfl
  |lp d0 off=>
   rw[hp]at hb hk
   obtain⟨b,e1,e2⟩:=hb
   have hk':JY d K (FD (E.drain v) d0 off (aU (E.x v)) (look (E.drain v).e d0)):=hk
   cases hl:look (E.drain v).e d0<;>rw[hl]at hk'<;>first|exact hk'.elim|skip
   rename_i dJ
   have hl':=Co hi hl
   exact⟨b,off,dJ,e1,.inl ⟨d0,hl',e2 dJ hl',by show FD _ _ _ _ (look (E.drain v).e d0)=_;rw[hl];rfl⟩⟩
  |ref b off=>
   rw[hp]at hb hk
   have e1:=VR.fu hb
   have hk':JY d K (Lr (E.drain v) b off (aU (E.x v)) ((E.drain v).s b)):=hk
   have hs':(E.drain v).s=E.s:=by cases v<;>rfl
   rw[hs']at hk'
   cases hl:E.s b with
   |none=>rw[hl]at hk';exact hk'.elim
   |some so=>
    cases so with
    |map es=>rw[hl]at hk';exact hk'.elim
    |cells dJ=>exact⟨b,off,dJ,e1,.inr ⟨hl,by show Lr _ _ _ _ ((E.drain v).s b)=_;rw[hs',hl];rfl⟩⟩
  |_=>rw[hp]at hk;exact hk.elim
 obtain⟨g,off,dJ,e1,VH⟩:=target
 obtain⟨G1,h1,hp1,hv1,kW,hR1,hsh,Ph,cS⟩:=h.drain hu hi (.cell g off) (by simp) (by simp)
 obtain⟨hfl,hlen,oJ,BN⟩:=Di hi hv1
 have qI:∀(x:AV)(y:Value),(aU (E.x v))[0]? =some x->(a.eval u).cells.toList[0]? =some y->cQ G1 w (.cell g (off+0)) x y:=by
  intro x y hx hy
  cases hv:E.x v with
  |agg cs=>
   rw[hv]at hx
   simp only[aU]at hx
   rw[dH]at hx
   cases hc0:cs[0]? with
   |none=>rw[hc0]at hx;cases hx
   |some c0=>rw[hc0]at hx;simp at hx;rw[<-hx];exact cQ.view ..
  |sl o s l cs=>
   rw[hv]at hx kW hv1
   simp[aU]at hx
   subst hx
   have:(a.eval u).cells= #[a.eval u]:=by rcases VR.fD hv1 with⟨(e|⟨_,_,_,e⟩),_⟩|⟨_,_,_,e,_⟩<;>rw[e]<;>rfl
   rw[this]at hy
   simp at hy
   subst hy
   exact kW
  |bb t l cs=>
   rw[hv]at hx kW hv1
   simp[aU]at hx
   subst hx
   have VI:VR w G1.R (.sl true 1 l cs) (a.eval u):=by cases hv1;assumption
   have:(a.eval u).cells= #[a.eval u]:=by rcases VR.fD VI with⟨(e|⟨_,_,_,e⟩),_⟩|⟨_,_,_,e,_⟩<;>rw[e]<;>rfl
   rw[this]at hy
   simp at hy
   subst hy
   exact kW
  |_=>rw[hv]at hx;simp[aU]at hx;subst hx;trivial
 have BO:∀(j:Nat)(x:AV)(y:Value),(aU (E.x v))[j]? =some x->(a.eval u).cells.toList[j]? =some y->VR w G1.R x y/\cQ G1 w (.cell g (off+j)) x y:=by
  intro j x y hx hy
  refine⟨oJ j x y hx hy,?_⟩
  cases j with
  |zero=>exact qI x y hx hy
  |succ j=>
   cases hv:E.x v with
   |agg cs=>
    rw[hv]at hx
    simp only[aU]at hx
    rw[dH]at hx
    cases hc0:cs[j+1]? with
    |none=>rw[hc0]at hx;cases hx
    |some c0=>rw[hc0]at hx;simp at hx;rw[<-hx];exact cQ.view ..
   |_=>rw[hv]at hx;simp[aU]at hx
 have vY:(a.eval u).cells.toList.length=m:=by rw[hlen,hm]
 have oH:∀(τ:St)(w':World),Inv G1 n D τ a w'->Inv G1 n D (τ.put d (.gb [])) (a.put d undef) w':=by
  intro τ w' hτ
  have:=hτ.put (s':=τ.s) (lp':=τ.lp) d (fun i hi=>by subst hi;simpa[aS]using hd) (.gb []) undef hτ.aJ (az.refl G1 w') hτ.store (fun _ hx=>hx) (fun i t _ ht=>ht.elim) (fun i t _⟨cs,hcs⟩=>by cases hcs)
   (fun _ _ _ _=>⟨rfl,rfl,rfl⟩) (fun _ _ _ _ _ _ hcc=>⟨hcc,rfl,rfl⟩) (fun i hdi=>⟨#[],rfl,rfl,fun j x y hx=>by simp at hx⟩)
  cases d<;>exact this
 rcases VH with⟨i,e2,e3,e4⟩|⟨e2,e4⟩
 ·
  rw[e4]at hk
  cases hwr:dt off (aU (E.x v)) dJ with
  |none=>rw[hwr]at hk;exact hk.elim
  |some cs'=>
   rw[hwr]at hk
   obtain⟨cF,rfl⟩:=qg hwr
   have e2':look (E.drain v).e i=.loc dJ:=zJ hi e2
   have zC:=h1.bO i _ e3
   rw[e2']at zC
   obtain⟨b,c,t',q1,q2,q3,q4,q5,q6⟩:=zC
   injection q1 with q1;injection q1 with q1;injection q1 with q1 _ _
   subst q1
   have hne:∀j,G1.O g≠.cell g j:=fun j=>by rw[q2];simp
   have tW:off+(a.eval u).cells.toList.length<=c.size:=by rw[hlen,q5.1];exact cF
   have bk:=me (P:=P) hs q4 (v:=a.eval u) (by simpa using vY) (by rw[<-vY];exact tW) BN
   have aV:az G1 w G1 (w.setRow g (laid c off (a.eval u).cells.toList)):=az.write q4 (by rw[q2];simp) (fun k hk=>by rw[q3]at hk;omega) (Nat.le_refl _) (fun _ _=>⟨rfl,rfl⟩)
   have gq:=cP.lay q4 aV h1.aJ q5 hlen cF hne BO
   obtain⟨h2,_⟩:=h1.written (E':=(E.drain v).put (some i) (.loc (setAt dJ off (aU (E.x v))))) q4 (.inl ⟨i,q2⟩) q3 rfl
    (h1.store.mono h1.aJ aV (fun b hb=>⟨hb,rfl,setRow_other w g b _ (fun e=>by subst e;rw[q2]at hb;cases hb)⟩) (fun b c j _ hc=>⟨hc,rfl,setRow_other w g c _ (fun e=>by subst e;rw[q2]at hc;cases hc)⟩))
    (fun k=>by
      by_cases hki:i=k
      ·subst hki
       exact .inr ⟨q2,e3,dJ,_,e2',by simp[St.put,aM],gq,Fl.setAt q6 hfl off⟩
      ·refine .inl ⟨by simp[St.put,aM,hki],?_⟩
       rw[q2];intro e;injection e with e;exact hki e)
   intro pos after gd next Q hn
   exact px (w':=w.setRow g (laid c off (a.eval u).cells.toList)) (by simp[execOp,e1,Instr.storeAt,Instr.sureAddr,bk]) (hn G1 _ _ _ (oH _ _ h2) (hp1.trans aV) hk)
 ·
  rw[e4]at hk
  cases hwr:dt off (aU (E.x v)) dJ with
  |none=>rw[hwr]at hk;exact hk.elim
  |some cs'=>
   rw[hwr]at hk
   obtain⟨cF,rfl⟩:=qg hwr
   have hs':(E.drain v).s=E.s:=by cases v<;>rfl
   obtain⟨q2,q3,c,t',q4,q5,q6⟩:=h1.store g (.cells dJ) (by rw[hs'];exact e2)
   have hne:∀j,G1.O g≠.cell g j:=fun j=>by rw[q2];simp
   have tW:off+(a.eval u).cells.toList.length<=c.size:=by rw[hlen,q5.1];exact cF
   have bk:=me (P:=P) hs q4 (v:=a.eval u) (by simpa using vY) (by rw[<-vY];exact tW) BN
   have aV:az G1 w G1 (w.setRow g (laid c off (a.eval u).cells.toList)):=az.write q4 (by rw[q2];simp) (fun k hk=>by rw[q3]at hk;omega) (Nat.le_refl _) (fun _ _=>⟨rfl,rfl⟩)
   have gq:=cP.lay q4 aV h1.aJ q5 hlen cF hne BO
   have cj:aO G1 (w.setRow g (laid c off (a.eval u).cells.toList)) ((E.drain v).s.set g (.cells (setAt dJ off (aU (E.x v))))):=by
    intro b o hb
    unfold ab.set at hb
    by_cases hbg:b=g
    ·rw[if_pos hbg]at hb;injection hb with hb;subst hb;subst hbg
     exact⟨q2,q3,_,t',setRow_heap w b c _ t' _ q4,gq,xH.setAt q6 hfl off⟩
    ·rw[if_neg hbg]at hb
     obtain⟨r1,r2,r3⟩:=h1.store b o hb
     refine⟨r1,r2,?_⟩
     have hbk:=setRow_other w g b (laid c off (a.eval u).cells.toList) hbg
     cases o with
     |cells cs=>
      obtain⟨c0,t0,r4,r5,r6⟩:=r3
      exact⟨c0,t0,hbk.trans r4,r5.mono (fun _ _ hv=>aV.vr h1.aJ hv) (fun b' j hb'=>⟨hb',rfl,setRow_other w g b' _ (fun e=>by subst e;rw[q2]at hb';cases hb')⟩),r6⟩
     |map es=>
      obtain⟨gM,clock,r4,r5,r6⟩:=r3
      exact⟨gM,clock,hbk.trans r4,r5,fun j x y hx hy=>⟨aV.vr h1.aJ (r6 j x y hx hy).1,aV.vr h1.aJ (r6 j x y hx hy).2⟩⟩
   obtain⟨h2,_⟩:=h1.written (E':={E.drain v with s:=(E.drain v).s.set g (.cells (setAt dJ off (aU (E.x v))))}) q4 (.inr q2) q3 rfl cj
    (fun k=>.inl ⟨rfl,by rw[q2];simp⟩)
   intro pos after gd next Q hn
   exact px (w':=w.setRow g (laid c off (a.eval u).cells.toList)) (by simp[execOp,e1,Instr.storeAt,Instr.sureAddr,bk]) (hn G1 _ _ _ (oH _ _ h2) (hp1.trans aV) hk)
end
end Go.AB
end
