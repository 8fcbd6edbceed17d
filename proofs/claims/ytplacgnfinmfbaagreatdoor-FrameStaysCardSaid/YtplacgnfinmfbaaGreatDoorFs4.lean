/- A part. -/
import Derived.Test.YtplacgnfinmfbaaGreatDoorFs3
import Derived.Laws.BytesArg
import Derived.Laws.StructEq
import Derived.Laws.Rows
import Derived.Laws.CopyRow
import Derived.Laws.Append
import Derived.Laws.AppendOwn
import Derived.Laws.BytesString
set_option linter.unusedSimpArgs false
set_option linter.unusedVariables false
section
namespace Go.AB
open Go
theorem JA{a:AV}{c:UInt8}(h:byteOf a=some c):a=.int .u8 c.toNat:=by
 unfold byteOf at h
 grind [UInt8.toNat_ofNat']
theorem yc:∀{cs:List AV}{l:List UInt8},bytesOf cs=some l->cs=l.map fun c=>.int .u8 c.toNat
 |[],l,h=>by grind [bytesOf]
 |a::r,l,h=>by
  unfold bytesOf at h
  cases ha:byteOf a with
  |none=>rw[ha]at h;cases h
  |some c=>
   cases hr:bytesOf r with
   |none=>rw[ha,hr]at h;cases h
   |some m=>
    rw[ha,hr]at h
    injection h with h
    subst h
    rw[JA ha,yc hr];rfl
section
variable{P:Program}{G:Gh}{n:Nat}{D:List Deferred}{E:St}{a:Act}{w:World}
theorem SM(h:Inv G n D E a w){op:Op}{ty:TypeId}{z:List AV}{m:Bool}{x:IX}(hc:aA P op ty (.kN z m x)=true){av:AV}(hv:gP (pv (.kN z m x) (xg true E) E) av):
 ∃v,runs P a op ty w v/\NR G w E a av v:=by
 have hc':aA P op ty (.load z.length m x)=true:=by cases op<;>first|exact hc|(simp[aA]at hc;done)
 refine Oo h hc' ?_
 have hv':gP (GC z m E.s (xg true E x)) av:=hv
 show gP (mi m (rd E (xg true E x) z.length)) av
 generalize xg true E x=xv at hv'
 cases xv<;>first|exact hv'.no.elim|skip
 rename_i b off
 have hv2:gP (KI z m off (E.s b)) av:=hv'
 show gP (mi m (su z.length off (E.s b))) av
 cases hs:E.s b with
 |none=>rw[hs]at hv2;exact hv2.no.elim
 |some so=>
  cases so with
  |map es=>rw[hs]at hv2;exact hv2.no.elim
  |cells cs=>
   rw[hs]at hv2
   have hv3:gP (ckP (off+z.length<=cs.length) (ny m (pad z (views (sub cs off z.length))))) av:=hv2
   unfold ckP at hv3
   cases hi:dp (ny m (pad z (views (sub cs off z.length))))with
   |false=>rw[hi]at hv3;exact hv3.no.elim
   |true=>
    rw[hi]at hv3
    obtain⟨rfl,hle⟩:=hv3.fw
    have hlen:(views (AB.sub cs off z.length)).length=z.length:=by simp only[AB.views,List.length_map,AB.sub,List.length_take,List.length_drop];omega
    have Zz:pad z (views (AB.sub cs off z.length))=views (AB.sub cs off z.length):=by unfold pad;rw[hlen,beq_self_eq_true];rfl
    rw[Zz]at hi⊢
    show gP (mi m (iq z.length off cs)) _
    unfold iq
    rw[decide_eq_true hle]
    show gP (Xq (ny m (views (AB.sub cs off z.length)))) _
    unfold Xq
    rw[hi]
    exact .inl rfl
theorem j6{P:Program}(w:World)(src e:TypeId)(hs:P.underlying src=some (.slice e))(he:P.underlying e=some (.int .u8))(ad:Addr)(cap:Nat):
 ∀dst,P.underlying dst=some .string->(convert src dst (.slice (some ad) 0 cap)).run P w=.ok (.string ByteArray.empty) w:=by
 intro dst hd
 have hl:(loadCells ad 0).run P w=.ok (([]:List Int).map (Value.int .u8)).toArray w:=by
  have:=run_loadCells_list (P:=P) w ad [] (fun j v hj=>by simp at hj)
  simpa using this
 rw[run_convert_bytes_string w src dst e _ 0 cap hs he hd,run_bytesToString w _ 0 cap [] hl,foldl_push_bytes]
 simp[ByteArray.empty,ByteArray.emptyWithCapacity]
theorem PJ(h:Inv G n D E a w){op:Op}{ty:TypeId}{x:IX}(hc:aA P op ty (.jG x)=true){av:AV}(hv:gP (pv (.jG x) (xg true E) E) av):
 ∃v,runs P a op ty w v/\NR G w E a av v:=by
 cases op<;>first|(simp[aA]at hc;done)|skip
 rename_i s t y
 simp only[aA,Bool.and_eq_true]at hc
 obtain⟨hy,hc⟩:=hc
 split at hc<;>try(cases hc;done)
 rename_i e hs ht
 split at hc<;>try(cases hc;done)
 rename_i he
 have hb:=BR.aV h hy
 have hv':gP (qV (xg true E x)) av:=hv
 generalize xg true E x=xv at hb hv'
 unfold qV at hv'
 split at hv'<;>try(exact hv'.no.elim)
 rename_i ow sz m cs
 cases hsz:sz==1 with
 |false=>rw[hsz]at hv';exact hv'.no.elim
 |true=>
 rw[hsz]at hv'
 obtain rfl:=beq_iff_eq.1 hsz
 have hv2:gP (Tv (bytesOf cs)) av:=hv'
 cases hbs:bytesOf cs with
 |none=>rw[hbs]at hv2;exact hv2.no.elim
 |some l=>
 rw[hbs]at hv2
 obtain rfl:=hv2.dh
 obtain rfl:=yc hbs
 refine⟨.string ⟨l.toArray⟩,fun _ _ _ _=>?_,NR.mk rfl (.str l) rfl⟩
 rcases VR.ik hb with⟨e1,_,hl0⟩|⟨b,off,cap,e1,hlen,_,_,u,u1,u2,_⟩
 ·have:l=[]:=by simpa using hl0
  subst this
  rcases e1 with e1|⟨_,ad,cap,e1⟩
  ·have:=run_convert_bytes_nil (P:=P) w s e hs he 0 0 t ht
   simp[execOp,e1,this]
   rfl
  ·have:=j6 (P:=P) w s e hs he ad cap t ht
   simp[execOp,e1,this]
   rfl
 ·have hm:l.length=m:=by simpa using hlen
  have:=run_convert_bytes_arg (P:=P) w s e hs he b off m cap (l.map fun c=>(c.toNat:Int)) (by grind) (fun i hi=>by
   have hil:i<l.length:=by omega
   have hc0:(l.map fun c=>AV.int .u8 c.toNat)[i]? =some (.int .u8 l[i].toNat):=by simp[hil]
   grind [VR.dj]) t ht
  have hs2:strOfNums (l.map fun c=>(c.toNat:Int))=⟨l.toArray⟩:=by
   unfold strOfNums
   congr 2
   simp[Function.comp_def]
  rw[hs2]at this
  simp[execOp,e1,this]
end
theorem WW(off:Nat):∀(l:List Value)(s:Nat)(cells:Array Value),
 ((l.zipIdx s).foldl (fun cs(x:Value×Nat)=>cs.setIfInBounds (off+x.2) x.1) cells).size=cells.size/\
 ∀k,((l.zipIdx s).foldl (fun cs(x:Value×Nat)=>cs.setIfInBounds (off+x.2) x.1) cells)[k]? =
  if off+s<=k/\k<off+s+l.length/\k<cells.size then l[k -(off+s)]? else cells[k]? :=by
 intro l
 induction l with
 |nil=>
  intro s cells
  refine⟨rfl,fun k=>?_⟩
  rw[if_neg (by simp;omega)];rfl
 |cons v l ih=>
  intro s cells
  rw[List.zipIdx_cons,List.foldl_cons]
  grind
section
variable{P:Program}{G:Gh}{n:Nat}{D:List Deferred}{E:St}{a:Act}{w:World}
def Row(w:World)(R:Nat->Nat)(cs:List AV)(vs:Array Value):Prop:=vs.size=cs.length/\(∀(j:Nat)(c:AV)(u:Value),cs[j]? =some c->vs[j]? =some u->VR w R c u)/\Fl cs
theorem gT{R:Nat->Nat}{av:AV}{v:Value}(hi:dp av=true)(h:VR w R av v):Row w R (cellsOf av) v.cells:=by
 have key:(∃cs,av=.agg cs)\/(cellsOf av=[av]/\v.cells= #[v]/\pQ av=true):=by cases h<;>first|exact .inl ⟨_,rfl⟩|exact .inr ⟨rfl,rfl,rfl⟩|(rename_i hb _;cases hb<;>exact .inr ⟨rfl,rfl,rfl⟩)|(rename_i Ml;exact .inr ⟨rfl,by cases v<;>first|rfl|(cases Ml;done),rfl⟩)|grind [dp]
 rcases key with⟨cs,rfl⟩|⟨h1,h2,h3⟩
 ·obtain⟨vs,rfl,hl,hr,hf⟩:=VR.Vm h
  exact⟨hl,hr,hf⟩
 ·rw[h1,h2]
  refine⟨rfl,fun j c u hc hu=>?_,fun c hc=>?_⟩
  rotate_left
  ·grind
  grind
theorem Row.views{R:Nat->Nat}{cs:List AV}{vs:Array Value}(h:Row w R cs vs):Row w R (views cs) vs:=by
 refine⟨by simp[AB.views,h.1],fun j c u hc hu=>?_,h.2.2.views⟩
 rw[eY]at hc
 cases hj:cs[j]? with
 |none=>rw[hj]at hc;cases hc
 |some c'=>
  rw[hj]at hc;simp at hc
  rw[<-hc];exact(h.2.1 j c' u hj hu).view
theorem vh(cs news:List AV)(off k:Nat)(h:off+news.length<=cs.length):(setAt cs off news)[k]? =if off<=k/\k<off+news.length then news[k -off]? else cs[k]? :=by
 unfold setAt
 rw[List.append_assoc]
 grind
theorem vi(cs news:List AV)(off:Nat)(h:off+news.length<=cs.length):(setAt cs off news).length=cs.length:=by grind [setAt]
theorem Fl.setAt{cs news:List AV}(h:Fl cs)(k:Fl news)(off:Nat):Fl (setAt cs off news):=by
 intro c hc
 unfold AB.setAt at hc
 rcases List.mem_append.1 hc with hc|hc
 ·rcases List.mem_append.1 hc with hc|hc
  ·exact h c (List.mem_of_mem_take hc)
  ·exact k c hc
 ·exact h c (List.mem_of_mem_drop hc)
theorem AK.setAt{t:Nat}{cs news:List AV}(h:AK t cs)(k:Fl news)(off:Nat):AK t (AB.setAt cs off news):=by
 intro c hc
 unfold AB.setAt at hc
 simp only[List.mem_append]at hc
 rcases hc with(hc|hc)|hc
 ·exact h c (List.mem_of_mem_take hc)
 ·exact .inl (k c hc)
 ·exact h c (List.mem_of_mem_drop hc)
theorem Row.setAt{R:Nat->Nat}{cs news:List AV}{vs us:Array Value}{off:Nat}(h:Row w R cs vs)(k:Row w R news us)(dt:off+news.length<=cs.length):
 Row w R (setAt cs off news) (us.zipIdx.foldl (fun cs(x:Value×Nat)=>cs.setIfInBounds (off+x.2) x.1) vs):=by
 have e:us.zipIdx.foldl (fun cs(x:Value×Nat)=>cs.setIfInBounds (off+x.2) x.1) vs=(us.toList.zipIdx 0).foldl (fun cs(x:Value×Nat)=>cs.setIfInBounds (off+x.2) x.1) vs:=by rw[<-Array.foldl_toList,Array.toList_zipIdx]
 rw[e]
 obtain⟨h1,h2⟩:=WW off us.toList 0 vs
 refine⟨by rw[h1,vi _ _ _ dt,h.1],fun j c u hc hu=>?_,Fl.setAt h.2.2 k.2.2 off⟩
 rw[h2 j]at hu
 rw[vh _ _ _ _ dt]at hc
 have hus:=k.1
 have hvs:=h.1
 by_cases hj:off<=j/\j<off+news.length
 ·rw[if_pos hj]at hc
  rw[if_pos (by simp;omega)]at hu
  exact k.2.1 (j -off) c u hc (by grind)
 ·rw[if_neg hj]at hc
  rw[if_neg (by simp;omega)]at hu
  exact h.2.1 j c u hc hu
theorem qZ(h:Inv G n D E a w){f:IX->AV}(hf:∀(o:Operand)(x:IX),bQ o x=true->dp (f x)=true->VR w G.R (f x) (a.eval o))(place:Nat->Option (Nat×Nat)):
 ∀(qs:List (Nat×Operand))(ps:List (Nat×Nat×IX))(cs ds:List AV)(vs:Array Value),
  (qs.length=ps.length/\∀(j:Nat)(q:Nat×Operand)(p:Nat×Nat×IX),qs[j]? =some q->ps[j]? =some p->place q.1=some (p.1,p.2.1)/\bQ q.2 p.2.2=true)->
  Row w G.R cs vs->fill f cs ps=some ds->∃us,Instr.fill place vs (qs.map fun q=>(q.1,a.eval q.2))=some us/\Row w G.R ds us:=by
 intro qs
 induction qs with
 |nil=>
  intro ps cs ds vs hc hr hfl
  cases ps with
  |nil=>injection hfl with hfl;subst hfl;exact⟨vs,rfl,hr⟩
  |cons _ _=>simp at hc
 |cons q qs ih=>
  intro ps cs ds vs hc hr hfl
  cases ps with
  |nil=>simp at hc
  |cons p ps=>
   obtain⟨off,m,x⟩:=p
   obtain⟨hlen,eD⟩:=hc
   obtain⟨hp,hx⟩:=eD 0 q (off,m,x) rfl rfl
   simp only[fill]at hfl
   cases Rn:(dp (f x)&&((views (cellsOf (f x))).length==m&&decide (off+m<=cs.length)))with
   |false=>grind
   |true=>
    rw[Rn]at hfl
    simp only[Bool.and_eq_true,beq_iff_eq,decide_eq_true_eq]at Rn
    obtain⟨hi,hm,dt⟩:=Rn
    have eO:=(gT hi (hf q.2 x hx hi)).views
    have hsz:(a.eval q.2).cells.size=m:=by rw[eO.1,hm]
    have hcs:off+(a.eval q.2).cells.size<=vs.size:=by rw[hsz,hr.1];exact dt
    have hr':=hr.setAt eO (off:=off) (by grind)
    obtain⟨us,h1,h2⟩:=ih ps _ ds _ ⟨by grind,fun j q' p' hq hp'=>eD (j+1) q' p' (by grind) (by grind)⟩ hr' hfl
    refine⟨us,?_,h2⟩
    simp only[List.map_cons,Instr.fill,hp]
    grind
theorem MM{fs:Array Field}:∀(qs:List (Nat×Operand))(ps:List (Nat×Nat×IX)),Aq P fs qs ps=true->
 qs.length=ps.length/\∀(j:Nat)(q:Nat×Operand)(p:Nat×Nat×IX),qs[j]? =some q->ps[j]? =some p->(∃f,fs[q.1]? =some f/\f.offset=p.1/\dT P f.type p.2.1=true)/\bQ q.2 p.2.2=true:=by
 intro qs
 induction qs with
 |nil=>intro ps hp;cases ps with
  |nil=>grind
  |cons _ _=>simp[Aq]at hp
 |cons q qs ih=>intro ps hp;cases ps with
  |nil=>simp[Aq]at hp
  |cons p ps=>
   obtain⟨off,m,x⟩:=p
   obtain⟨i,o⟩:=q
   simp only[Aq,Bool.and_eq_true]at hp
   grind
theorem xK{sz:Nat}:∀(qs:List (Nat×Operand))(ps:List (Nat×Nat×IX)),uh sz qs ps=true->
 qs.length=ps.length/\∀(j:Nat)(q:Nat×Operand)(p:Nat×Nat×IX),qs[j]? =some q->ps[j]? =some p->(q.1*sz=p.1/\p.2.1=sz)/\bQ q.2 p.2.2=true:=by
 intro qs
 induction qs with
 |nil=>intro ps hp;cases ps with
  |nil=>grind
  |cons _ _=>simp[uh]at hp
 |cons q qs ih=>intro ps hp;cases ps with
  |nil=>simp[uh]at hp
  |cons p ps=>
   obtain⟨off,m,x⟩:=p
   obtain⟨i,o⟩:=q
   simp only[uh,Bool.and_eq_true,beq_iff_eq]at hp
   grind
theorem vt{t:TypeId}{z:List AV}(h:ot P t z=true):∃i v,P.info? t=some i/\i.zero=some v/\i.size=z.length/\(∀(w:World)(R:Nat->Nat),Row w R z v.cells)/\(∀(j:Nat)(c:AV)(u:Value),z[j]? =some c->v.cells[j]? =some u->cR u c=true):=by
 unfold ot at h
 split at h
 ·rename_i i hi
  split at h
  ·rename_i v hv
   simp only[Bool.and_eq_true,beq_iff_eq]at h
   obtain⟨h1,h2⟩:=BO h.1
   exact⟨i,v,hi,hv,h.2,fun w R=>⟨by grind,fun j c u hc hu=>yd (h2 j c u hc (by grind)) w R,Ch h.1⟩,fun j c u hc hu=>h2 j c u hc (by grind)⟩
  ·cases h
 ·cases h
theorem KN(w:World):∀(fs:List Field),(∀f∈fs,(P.info? f.type).isSome=true)->
 (fs.mapM (m:=Sem) fun f=>Prod.mk f.offset<$>sizeOf f.type).run P w=.ok (fs.map fun f=>(f.offset,P.cellsOf f.type)) w:=by
 intro fs
 induction fs with
 |nil=>intro _;rfl
 |cons f fs ih=>
  intro h
  have hf:=h f (by simp)
  cases hi:P.info? f.type with
  |none=>grind
  |some i=>
   simp[List.mapM_cons,sizeOf,typeInfo,hi,Program.cellsOf]at ih⊢
   simp_all
theorem SK(h:Inv G n D E a w){op:Op}{ty:TypeId}{z:List AV}{ps:List (Nat×Nat×IX)}(hc:aA P op ty (.build z ps)=true){av:AV}(hv:gP (pv (.build z ps) (xg true E) E) av):
 ∃v,runs P a op ty w v/\NR G w E a av v:=by
 cases op<;>first|(simp[aA]at hc;done)|skip
 rename_i t qs
 simp only[aA,Bool.and_eq_true]at hc
 obtain⟨hz,hc⟩:=hc
 obtain⟨ti,zv,hti,hzv,hsz,eO,_⟩:=vt hz
 have hv':gP (Ca (fill (xg true E) z ps)) av:=hv
 cases hfl:fill (xg true E) z ps with
 |none=>rw[hfl]at hv';exact hv'.no.elim
 |some ds=>
  rw[hfl]at hv'
  have hav:av=.agg ds:=hv'.dh
  subst hav
  have hzr:(zeroValue t).run P w=.ok zv w:=by simp[zeroValue,typeInfo,hti,hzv]
  have hf:∀(o:Operand)(x:IX),bQ o x=true->dp (xg true E x)=true->VR w G.R (xg true E x) (a.eval o):=fun o x hx hi=>(BR.aV h hx).vr hi
  split at hc<;>try(cases hc;done)
  ·rename_i fs ht
   rw[Bool.and_eq_true]at hc
   obtain⟨hp,eD⟩:=hc
   obtain⟨hl,hp⟩:=MM _ _ hp
   have U9:(fs.mapM (m:=Sem) fun f=>Prod.mk f.offset<$>sizeOf f.type).run P w=.ok (fs.map fun f=>(f.offset,P.cellsOf f.type)) w:=by
    have:=KN (P:=P) w fs.toList (fun f hf=>by grind [Array.all_eq_true'])
    rw[Array.mapM_eq_mapM_toList]
    simp only[Sem.run_map,this,Result.andThen_ok]
    congr 1
    apply Array.ext'
    simp
   obtain⟨us,h1,h2⟩:=qZ h hf ((fs.map fun f=>(f.offset,P.cellsOf f.type))[·]?) qs.toList ps z ds zv.cells
    ⟨hl,fun j q p hq hp'=>by grind [j8,Program.cellsOf]⟩ (eO w G.R) hfl
   refine⟨.agg us,fun _ _ _ _=>?_,NR.mk rfl (.agg _ _ h2.2.2 h2.1 h2.2.1) rfl⟩
   simp only[Array.getElem?_map]at h1
   simp[execOp,Instr.build,hzr,run_underlying ht,U9,h1]
  ·rename_i m e ht
   split at hc<;>try(cases hc;done)
   rename_i ei hei
   obtain⟨hl,hp⟩:=xK _ _ hc
   obtain⟨us,h1,h2⟩:=qZ h hf (fun i=>some (i*ei.size,ei.size)) qs.toList ps z ds zv.cells
    ⟨hl,fun j q p hq hp'=>by grind⟩ (eO w G.R) hfl
   refine⟨.agg us,fun _ _ _ _=>?_,NR.mk rfl (.agg _ _ h2.2.2 h2.1 h2.2.1) rfl⟩
   simp[execOp,Instr.build,hzr,run_underlying ht,sizeOf,typeInfo,hei,h1]
theorem sE(h:Inv G n D E a w){f:IX->AV}(hf:∀(o:Operand)(x:IX),bQ o x=true->dp (f x)=true->VR w G.R (f x) (a.eval o)):
 ∀(os:List Operand)(xs:List IX)(as:List AV),iI os xs=true->cq f xs=some as->as.length=os.length/\(∀c∈as,dp c=true/\view c=c)/\
  ∀(j:Nat)(c:AV)(u:Value),as[j]? =some c->(os.map a.eval)[j]? =some u->VR w G.R c u:=by
 intro os
 induction os with
 |nil=>
  intro xs as hc hv
  cases xs with
  |nil=>injection hv with hv;grind
  |cons _ _=>simp[iI]at hc
 |cons o os ih=>
  intro xs as hc hv
  cases xs with
  |nil=>simp[iI]at hc
  |cons x xs=>
   simp only[iI,Bool.and_eq_true]at hc
   simp only[cq]at hv
   cases hr:cq f xs with
   |none=>grind [OT]
   |some as'=>
    rw[hr]at hv
    simp only[OT]at hv
    cases hi:dp (f x)with
    |false=>grind
    |true=>
     rw[hi]at hv
     injection hv with hv;subst hv
     obtain⟨h1,h2,h3⟩:=ih xs as' hc.2 hr
     refine⟨by simp[h1],?_,fun j c u hcj hu=>?_⟩
     ·intro c hcm
      rcases List.mem_cons.1 hcm with rfl|hcm
      ·grind [kJ,vp]
      grind
     ·cases j with
      |zero=>simp at hcj hu;subst hcj;subst hu;exact(hf o x hc.1 hi).view
      |succ j=>grind
theorem PK(h:Inv G n D E a w){op:Op}{ty:TypeId}{fi:Nat}{fs cs:List IX}(hc:aA P op ty (.ub fi fs cs)=true){av:AV}(hv:gP (pv (.ub fi fs cs) (xg true E) E) av):
 ∃v,runs P a op ty w v/\NR G w E a av v:=by
 cases op<;>first|(simp[aA]at hc;done)|skip
 rename_i g c d
 cases g<;>first|(simp[aA]at hc;done)|skip
 rename_i g
 simp only[aA,Bool.and_eq_true,beq_iff_eq]at hc
 obtain⟨⟨rfl,h1⟩,h2⟩:=hc
 have hf:∀(o:Operand)(x:IX),bQ o x=true->dp (xg true E x)=true->VR w G.R (xg true E x) (a.eval o):=fun o x hx hi=>(BR.aV h hx).vr hi
 have hv':gP (uZ fi (cq (xg true E) fs) (cq (xg true E) cs)) av:=hv
 unfold uZ at hv'
 split at hv'
 ·rename_i x y hx hy
  have hav:=hv'.dh
  subst hav
  obtain⟨a1,_,a3⟩:=sE h hf _ _ _ h1 hx
  obtain⟨b1,_,b3⟩:=sE h hf _ _ _ h2 hy
  refine⟨.func (.func fi) (c.map a.eval) (d.map a.eval),fun _ _ _ _=>by simp[execOp,Instr.makeFunc],NR.mk rfl (.fn fi x y _ _ ?_ (fun j c' u hc' hu=>a3 j c' u hc' ?_) ?_ (fun j c' u hc' hu=>b3 j c' u hc' ?_)) rfl⟩
  ·grind
  ·grind
  ·grind
  grind
 ·exact hv'.no.elim
theorem PL(h:Inv G n D E a w){op:Op}{ty:TypeId}{mx:Bool}{xs:List IX}(hc:aA P op ty (.nY mx xs)=true){av:AV}(hv:gP (pv (.nY mx xs) (xg true E) E) av):
 ∃v,runs P a op ty w v/\NR G w E a av v:=by
 have key:∀(ys:List Operand),iI ys xs=true->∃(k:IntKind)(m:Int)(y:Operand)(ys':List Operand),ys=y::ys'/\av=.int k m/\∃m0,a.eval y=.int k m0/\
  ((ys'.map a.eval).foldlM (if mx then Builtin.max2 else Builtin.min2) (.int k m0)).run P w=.ok (.int k m) w:=by
  intro ys hx
  have hv':gP (u5 mx (xs.map (xg true E))) av:=hv
  cases xs with
  |nil=>exact hv'.no.elim
  |cons x xs=>
   cases ys with
   |nil=>simp[iI]at hx
   |cons y ys=>
    simp only[iI,Bool.and_eq_true]at hx
    have hb:=BR.aV h hx.1
    simp only[List.map_cons]at hv'
    generalize xg true E x=xv at hb hv'
    cases xv<;>simp only[u5]at hv'<;>try(exact hv'.no.elim)
    rename_i k m0
    cases hr:KO mx m0 (xs.map (xg true E))with
    |none=>rw[hr]at hv';exact hv'.no.elim
    |some r=>
     rw[hr]at hv'
     have hav:av=.int k r:=hv'.dh
     exact⟨k,r,y,ys,rfl,hav,m0,VR.dj hb,VJ mx k h xs ys hx.2 m0 r hr⟩
 cases op<;>first|(cases mx<;>simp[aA]at hc;done)|skip
 rename_i c
 cases mx with
 |true=>
  simp only[aA]at hc
  split at hc<;>try(cases hc;done)
  rename_i ys ts hb
  have hce:=qR hb
  subst hce
  obtain⟨k,m,y,ys',rfl,rfl,m0,e0,hr⟩:=key ys hc
  refine⟨.int k m,fun _ _ _ _=>?_,NR.mk rfl (.int _ _) rfl⟩
  simp only[if_true]at hr
  simp[execOp,resolve,invoke,builtin,Builtin.max_,e0,hr]
 |false=>
  simp only[aA]at hc
  split at hc<;>try(cases hc;done)
  rename_i ys ts hb
  have hce:=qR hb
  subst hce
  obtain⟨k,m,y,ys',rfl,rfl,m0,e0,hr⟩:=key ys hc
  refine⟨.int k m,fun _ _ _ _=>?_,NR.mk rfl (.int _ _) rfl⟩
  simp only[Bool.false_eq_true,if_false]at hr
  simp[execOp,resolve,invoke,builtin,Builtin.min_,e0,hr]
theorem aaO(h:Inv G n D E a w){op:Op}{ty:TypeId}{x:IX}(hc:aA P op ty (.cap x)=true){av:AV}(hv:gP (pv (.cap x) (xg true E) E) av):
 ∃v,runs P a op ty w v/\NR G w E a av v:=by
 cases op<;>first|(simp[aA]at hc;done)|skip
 rename_i c
 simp only[aA]at hc
 split at hc<;>try(cases hc;done)
 rename_i y ys t ts hb
 have hce:=qR hb
 subst hce
 simp only[Bool.and_eq_true]at hc
 obtain⟨hy,hsl⟩:=hc
 have hv':gP (LQ (xg true E x)) av:=hv
 have hbx:=BR.aV h hy
 generalize xg true E x=xv at hbx hv'
 cases he:cI P t with
 |none=>grind
 |some e=>
 have ht:=c3 he
 unfold LQ at hv'
 split at hv'
 ·rename_i b o l cap
  rw[hv'.dh]
  refine⟨.int .i64 cap,fun _ _ _ _=>?_,NR.mk rfl (.int _ _) rfl⟩
  have hr:∀w',w'=w->(Builtin.cap_ (t::ts).toArray ty ((y::ys).toArray.map a.eval)).run P w'=.ok (.int .i64 cap) w':=fun w' _=>by rcases VR.df hbx with e1|⟨_,rfl,e1⟩<;>simp[Builtin.cap_,run_underlying ht,goInt,e1]
  have hr:=hr w rfl
  simp[execOp,resolve,invoke,builtin]at hr⊢;simp[hr]
 ·exact hv'.no.elim
theorem Vl{t:TypeId}(h:Vk P t=true):∃k,P.underlying t=some (.int k):=by grind [Vk]
theorem VR.RH{R:Nat->Nat}{v:Value}(h:VR w R .kQ v):v=.nilIface:=by cases h;rfl
theorem aaR(h:Inv G n D E a w){op:Op}{ty:TypeId}{ne:Bool}{x:IX}(hc:aA P op ty (.UQ ne x)=true){av:AV}(hv:gP (pv (.UQ ne x) (xg true E) E) av):
 ∃v,runs P a op ty w v/\NR G w E a av v:=by
 cases op<;>first|(simp[aA]at hc;done)|skip
 rename_i b t u v yt
 simp only[aA,Bool.and_eq_true,decide_eq_true_eq]at hc
 obtain⟨⟨⟨rfl,hx⟩,hy⟩,ht⟩:=hc
 have hvc:v=.const .nilIface:=by
  split at hy
  ·rfl
  ·cases hy
 subst hvc
 have e2:a.eval (.const .nilIface)=.nilIface:=rfl
 split at ht<;>try(cases ht;done)
 rename_i q1 htu
 have hbx:=BR.aV h hx
 have hv':gP (JX ne (xg true E x)) av:=hv
 generalize xg true E x=xv at hbx hv'
 have key:∀(fv:Value)(r:Bool),a.eval u=fv->(∀d:Nat,(Op.equalIn (d+1) t fv .nilIface).run P w=.ok r w)->runs P a (.binOp (if ne=true then .neq else .eql) t u (.const .nilIface) yt) ty w (.bool (r !=ne)):=by
  intro fv r e1 hr _ _ _ _
  have hq:(Op.equal t fv .nilIface).run P w=.ok r w:=hr 9999
  cases fv<;>cases ne<;>simp[execOp,e1,e2,eqGuard,binOp,hq]
 unfold JX at hv'
 split at hv'
 ·rw[hv'.dh]
  have e1:=VR.RH hbx
  have:=key _ true e1 fun d=>by simp[Op.equalIn,run_underlying htu]
  exact⟨_,this,NR.mk rfl (by cases ne<;>exact .bool _) rfl⟩
 ·exact hv'.no.elim
theorem zr(h:Inv G n D E a w){op:Op}{ty:TypeId}{o:rY}(hc:aA P op ty o=true){av:AV}(hv:gP (pv o (xg true E) E) av):
 ∃v,runs P a op ty w v/\NR G w E a av v:=by
 cases o with
 |oM tr x=>cases tr with
  |false=>exact aaV h hc hv
  |true=>exact(gP.no hv).elim
 |pick c x y=>exact Wc h hc hv
 |bin b x y=>exact aaN h hc hv
 |XD ne x y=>exact aaQ h hc hv
 |T5 ne x y=>exact aaS h hc hv
 |T6 ne x y=>exact aaT h hc hv
 |un u x=>exact afi h hc hv
 |mF k x=>exact PI h hc hv
 |load m mu x=>exact Oo h hc hv
 |kX x i=>exact PM h hc hv
 |nilCheck x=>exact K4 h hc hv
 |fieldAddr off x=>exact IE h hc hv
 |indexAddr sz x i=>exact IG h hc hv
 |iQ sz len x i=>exact Fx h hc hv
 |slice sz x lo hi mx=>exact SN h hc hv
 |pC x lo hi=>exact PN h hc hv
 |len cls x=>exact aaU h hc hv
 |nY mx xs=>exact PL h hc hv
 |extract x k=>exact MP h hc hv
 |build z ps=>exact SK h hc hv
 |ub f a b=>exact PK h hc hv
 |jG x=>exact PJ h hc hv
 |kN z m x=>exact SM h hc hv
 |cap x=>exact aaO h hc hv
 |UQ ne x=>exact aaR h hc hv
 |_=>exact(gP.no hv).elim
end
def Gh.xU(G:Gh)(b:Nat)(o:cZ)(r:Nat):Gh:=⟨fun i=>if i=b then r else G.R i,fun i=>if i=b then o else G.O i⟩
@[simp]theorem Gh.TQ(G:Gh)(b:Nat)(o:cZ)(r i:Nat):(G.xU b o r).O i=if i=b then o else G.O i:=rfl
@[simp]theorem Gh.YG(G:Gh)(b:Nat)(o:cZ)(r i:Nat):(G.xU b o r).R i=if i=b then r else G.R i:=rfl
def Gh.gp(G:Gh)(o o':cZ):Gh:=⟨G.R,fun i=>if G.O i=o then o' else G.O i⟩
@[simp]theorem Gh.aha(G:Gh)(o o':cZ)(i:Nat):(G.gp o o').O i=if G.O i=o then o' else G.O i:=rfl
section
variable{P:Program}{G G':Gh}{n:Nat}{D:List Deferred}{E:St}{a:Act}{w w':World}
theorem bc.zg{s:ae}(h:bc G w s)(hv:∀a v,VR w G.R a v->VR w' G'.R a v)
 (hsh:∀b,G.O b=.sh->G'.O b=.sh/\G'.R b=G.R b/\w'.heap[b]? =w.heap[b]?)
 (fB:∀b c j,G.O b=.sh->G.O c=.cell b j->G'.O c=.cell b j/\G'.R c=G.R c/\w'.heap[c]? =w.heap[c]?):bc G' w' s:=by
 intro b o hb
 obtain⟨h1,h2,h3⟩:=h b o hb
 obtain⟨k1,k2,k3⟩:=hsh b h1
 refine⟨k1,k2.trans h2,?_⟩
 cases o with
 |cells cs=>
  obtain⟨c,t,h4,h5,h6⟩:=h3
  exact⟨c,t,k3.trans h4,h5.mono hv (fun b' j hb'=>fB b b' j h1 hb'),h6⟩
 |map es=>
  obtain⟨sP,clock,h4,h5,h6⟩:=h3
  exact⟨sP,clock,k3.trans h4,h5,fun j x y hx hy=>⟨hv _ _ (h6 j x y hx hy).1,hv _ _ (h6 j x y hx hy).2⟩⟩
theorem bc.mono{s:ae}(h:bc G w s)(hg:cE G w)(hp:aK G w G' w')
 (hsh:∀b,G.O b=.sh->G'.O b=.sh/\G'.R b=G.R b/\w'.heap[b]? =w.heap[b]?)
 (fB:∀b c j,G.O b=.sh->G.O c=.cell b j->G'.O c=.cell b j/\G'.R c=G.R c/\w'.heap[c]? =w.heap[c]?):bc G' w' s:=
 h.zg (fun _ _ hv=>hp.vr hg hv) hsh fB
theorem cE.lt(h:cE G w){b:Nat}(ho:G.O b≠.none):b<w.heap.size:=by
 rcases Nat.lt_or_ge b w.heap.size with hb|hb
 ·exact hb
 ·exact absurd (h.k7 b hb) ho
theorem fU(hg:cE G w)(ob:Obj)(o:cZ)(r:Nat):
 cE (G.xU w.heap.size o r) (w.alloc ob)/\aK G w (G.xU w.heap.size o r) (w.alloc ob)/\
 (∀b,G.O b≠.none->(G.xU w.heap.size o r).O b=G.O b/\(G.xU w.heap.size o r).R b=G.R b/\(w.alloc ob).heap[b]? =w.heap[b]?):=by
 have hsz:(w.alloc ob).heap.size=w.heap.size+1:=Array.size_push ..
 refine⟨⟨fun b hb=>?_,fun b hb=>?_⟩,⟨rfl,rfl,rfl,Nat.le_refl _,by omega,fun b hb=>?_,fun b k hb _=>?_,fun b hb _=>heap_alloc_old w ob b hb,fun b hb ho=>?_,fun b hb ho=>?_⟩,fun b ho=>?_⟩
 ·have:b≠w.heap.size:=by omega
  simp[this,hg.k7 b (by omega)]
 ·have:b≠w.heap.size:=by omega
  simp[this,hg.mn b (by omega)]
 ·have:b≠w.heap.size:=by omega
  simp[this]
 ·grind [World.cell?_of_block,heap_alloc_old]
 ·have:b≠w.heap.size:=by omega
  simp_all
 ·have:b≠w.heap.size:=by omega
  simp_all
 ·have hb:=hg.lt ho
  have:b≠w.heap.size:=by omega
  exact⟨by simp[this],by simp[this],heap_alloc_old w ob b hb⟩
theorem lN{s:ae}(h:bc G w s)(hg:cE G w)(ob:Obj)(o:cZ)(r:Nat):bc (G.xU w.heap.size o r) (w.alloc ob) s:=by
 obtain⟨_,h2,h3⟩:=fU hg ob o r
 refine h.mono hg h2 (fun b hb=>?_) (fun b c j _ hc=>?_)
 ·grind
 grind
theorem Inv.alloc(h:Inv G n D E a w)(ob:Obj)(o:cZ)(r:Nat){s':ae}(d:Option Nat)(hd:bC n d=true)(av:AV)(v:Value)(lp':List (Nat×Nat))
 (eM:bc (G.xU w.heap.size o r) (w.alloc ob) s')
 (hlp:∀x∈E.lp,x∈lp')(adW:∀i t,d=some i->bD av t->(i,t)∈lp')
 (XG:∀i t,d=some i->(∃cs,av=.loc cs)->(t,i)∉E.lp)
 (adY:∀i,d=some i->dc (G.xU w.heap.size o r) (w.alloc ob) ((E.put d av).e) (a.put d v).tmps i av v):
 Inv (G.xU w.heap.size o r) n D {(E.put d av)with s:=s',lp:=lp'} (a.put d v) (w.alloc ob)/\aK G w (G.xU w.heap.size o r) (w.alloc ob):=by
 obtain⟨h1,h2,h3⟩:=fU h.bj ob o r
 refine⟨h.put d (fun i hi=>by grind [bC]) av v h1 h2 eM hlp adW XG (fun i b _ hb=>h3 b ?_) (fun i b c j _ hb hc=>?_) adY,h2⟩
 ·grind
 grind
theorem bc.get_none(h:bc G w E.s)(hg:cE G w):E.s w.heap.size=none:=by
 cases hs:E.s w.heap.size with
 |none=>rfl
 |some o=>
  have:=(h _ _ hs).1
  rw[hg.k7 _ (Nat.le_refl _)]at this
  cases this
theorem KL{lp:List (Nat×Nat)}{d:Option Nat}(h:kO lp d=true):∀i t,d=some i->(t,i)∉lp:=by
 intro i t hd hm
 subst hd
 simp only[kO,List.all_eq_true]at h
 have:=h _ hm
 simp at this
theorem aZ{o:Oper}{v:Value}{next:Act->World->Prop}{Q:Exit->Act->World->Prop}(hr:(execOp a.eval o).run P w=.ok (.value v) w')(hn:next (a.put o.dst v) w'):o.wp P a w next Q:=by
 unfold Oper.wp
 rw[hr]
 exact hn
theorem Lv{o:Oper}{next:Act->World->Prop}{Q:Exit->Act->World->Prop}(hr:(execOp a.eval o).run P w=.ok .skip w')(hn:next (a.put o.dst undef) w'):o.wp P a w next Q:=by
 unfold Oper.wp
 rw[hr]
 exact hn
theorem Inv.K8(h:Inv G n D E a w)(i:Nat)(hi:i<n)(av:AV)(hnl:∀t,¬bD av t)(ad0:∀cs,av≠.loc cs)
 (hv:∀v,a.tmps[i]? =some v->dc G w ((E.put (some i) av).e) a.tmps i av v):Inv G n D (E.put (some i) av) a w:=by
 have hlt:i<a.tmps.size:=by rw[h.size];exact hi
 have ha:a.put (some i) a.tmps[i]=a:=by
  have:a.tmps.setIfInBounds i a.tmps[i]=a.tmps:=by rw[Array.setIfInBounds,dif_pos hlt,Array.set_getElem_self]
  simp[Act.put,this]
 have:=h.put (some i) (fun j hj=>by grind) av a.tmps[i] h.bj (aK.refl G w) h.store (fun x hx=>hx) (fun j t _ ht=>(hnl t ht).elim)
  (fun j t _⟨cs,hcs⟩=>(ad0 cs hcs).elim) (fun _ b _ _=>⟨rfl,rfl,rfl⟩) (fun _ b c j _ _ hc=>⟨hc,rfl,rfl⟩)
  (fun j hj=>by grind)
 rw[ha]at this
 exact this
theorem eR{av:AV}(h:dp av=true)(t:Nat):¬bD av t:=by cases av<;>simp_all [dp,bD]
theorem ni{av:AV}(h:dp av=true)(cs:List AV):av≠.loc cs:=by grind [dp]
theorem Inv.DC(h:Inv G n D E a w){i:Nat}(hi:look E.e i≠.undef):i<n:=by
 rcases Nat.lt_or_ge i n with hlt|hge
 ·exact hlt
 ·exact absurd (h.EI i hge) hi
theorem JC{o:Operand}{i:Nat}(h:bQ o (.t i)=true):o=.tmp i:=by
 cases o with
 |tmp t=>grind [bQ]
 |const v=>grind [bQ]
 |_=>simp[bQ]at h
theorem QE{o:Operand}{c:AV}(h:bQ o (.c c)=true)(G:Gh)(w:World)(T:cZ):dy G w T c (a.eval o):=by
 cases o with
 |tmp t=>simp[bQ]at h
 |global g=>simp[bQ]at h
 |func f=>cases c<;>first|trivial|(simp[bQ]at h)
 |const v=>
  show dy G w T c v
  have hc:(∃cs,c=.agg cs)\/cR v c=true:=by
   cases v<;>first|exact .inr h|skip
   cases c<;>first|exact .inl ⟨_,rfl⟩|exact .inr h
  rcases hc with⟨cs,rfl⟩|hc
  ·trivial
  grind [Cg]
theorem Inv.drain(h:Inv G n D E a w){x:IX}{o:Operand}(hx:bQ o x=true)(hi:dp (E.x x)=true)(T:cZ)(hT1:T≠.sh)(hT2:∀i,T≠.loc i):
 ∃G',Inv G' n D (E.drain x) a w/\aK G w G' w/\VR w G'.R (E.x x) (a.eval o)/\dy G' w T (E.x x) (a.eval o)/\G'.R=G.R/\(∀b,G'.O b=.sh↔G.O b=.sh)/\(∀b i,G'.O b=.loc i↔G.O b=.loc i)/\
  (∀b b' j,G.O b=.cell b' j->G'.O b=.cell b' j):=by
 have hvr:VR w G.R (E.x x) (a.eval o):=by
  have:=XR.aV h hx
  generalize E.x x=av at hi this
  cases av<;>first|exact this|grind [dp]
 cases x with
 |c c=>
  refine⟨G,h,aK.refl G w,hvr,?_,rfl,fun _=>Iff.rfl,fun _ _=>Iff.rfl,fun _ _ _ hc=>hc⟩
  exact QE hx G w T
 |t i=>
  have hin:i<n:=h.DC (fun e=>by rw[show E.x (.t i)=look E.e i from rfl,e]at hi;cases hi)
  have ho:o=.tmp i:=JC hx
  subst ho
  have hlt:i<a.tmps.size:=by rw[h.size];exact hin
  have adQ:=h.cm i _ (fR hlt)
  have hi':dp (look E.e i)=true:=hi
  rw[dc.pz hi']at adQ
  have hne:∀b,G.O b≠.slot i 0->(G.gp (.slot i 0) T).O b=G.O b:=fun b hb=>by simp[hb]
  have cz:aK G w (G.gp (.slot i 0) T) w:=⟨rfl,rfl,rfl,Nat.le_refl _,Nat.le_refl _,fun _ _=>Nat.le_refl _,fun _ _ _ _=>rfl,fun _ _ _=>rfl,
   fun b _ hb=>⟨by grind,rfl⟩,fun b _ hb=>⟨by grind,rfl⟩⟩
  refine⟨G.gp (.slot i 0) T,?_,cz,hvr,?_,rfl,fun b=>?_,fun b k=>?_,fun b b' j hb=>by grind⟩
  ·have h1:=h.K8 i hin (view (look E.e i)) (eR (kJ hi')) (ni (kJ hi')) (fun v hv=>by
    grind [fR,dc.zf])
   refine⟨⟨fun b hb=>by rw[hne b (by rw[h.bj.k7 b hb];simp),h.bj.k7 b hb],h.bj.mn⟩,?_,h1.size,fun k v hk=>?_,h1.EI,h1.LA,h1.pO⟩
   ·exact h.store.mono h.bj cz (fun b hb=>⟨by grind,rfl,rfl⟩) (fun b c j _ hc=>⟨by grind,rfl,rfl⟩)
   ·have h2:=h1.cm k v hk
    by_cases hki:k=i
    ·subst hki
     have e1:look (E.put (some k) (view (look E.e k))).e k=view (look E.e k):=by simp[St.put,aX]
     show dc _ w _ _ k (look (E.put (some k) (view (look E.e k))).e k) v
     rw[e1]at h2⊢
     rw[dc.pz (kJ hi')]at h2⊢
     exact⟨h2.1,dy.view ..⟩
    ·refine dc.frame (G:=G) (G':=G.gp (.slot i 0) T) (w:=w) (fun _ _ hv=>hv) (fun b hb=>⟨hne b ?_,rfl,rfl⟩) (fun b c j _ hc=>⟨by grind,rfl,rfl⟩) _ _ (fun d _ cs hcs=>⟨cs,hcs,rfl⟩) h2
     grind
  ·have:=adQ.2
   show dy _ w T (look E.e i) _
   unfold dy at this⊢
   split
   ·rename_i sz m cs he
    rw[he]at this
    intro base m' cap hv hc
    obtain⟨b,off,c,e,fz,q1,q2,q3⟩:=this base m' cap hv hc
    exact⟨b,off,c,e,fz,q1,by simp[q2],q3⟩
   ·rename_i e m cs he
    rw[he]at this
    intro base m' cap hv hc
    obtain⟨b,off,c,fz,q1,q2,q3⟩:=this base m' cap hv hc
    exact⟨b,off,c,fz,q1,by simp[q2],q3⟩
   ·trivial
  ·by_cases hb:G.O b=.slot i 0
   ·simp[hb,hT1]
   grind
  ·by_cases hb:G.O b=.slot i 0
   ·simp[hb,hT2]
   grind
def qI(P:Program)(G:Gh)(n:Nat)(D:List Deferred)(w:World)(a:Act)(op:Op)(ty:TypeId)(d:Option Nat)(K:St->Prop):Prop:=
 ∀(pos:String)(after:Array Edge)(g:Option (Nat×Bool))(next:Act->World->Prop)(Q:Exit->Act->World->Prop),
  (∀G' E' a' w',Inv G' n D E' a' w'->aK G w G' w'->K E'->next a' w')->(⟨d,op,ty,pos,after,g⟩:Oper).wp P a w next Q
theorem UO(h:Inv G n D E a w){op:Op}{ty:TypeId}{tr:Bool}{x:IX}{d:Option Nat}{K:St->Prop}(hd:bC n d=true)(hc:aA P op ty (.oM tr x)=true)(hw:jl P (.oM tr x) d E K):qI P G n D w a op ty d K:=by
 obtain⟨hi,hk⟩:=hw
 have key:∀y,bQ y x=true->∃G',Inv G' n D ((E.drain x).put d (E.x x)) (a.put d (a.eval y)) w/\aK G w G' w:=by
  intro y hy
  obtain⟨G',h1,h2,h3,h4,_⟩:=h.drain hy hi (match d with|some d=>.slot d 0|none=>.frame) (by grind) (by grind)
  refine⟨G',?_,h2⟩
  have:=h1.put (s':=(E.drain x).s) (lp':=(E.drain x).lp) d (fun i hi=>by grind [bC]) (E.x x) (a.eval y) h1.bj (aK.refl G' w) h1.store (fun _ hx=>hx) (fun i t _ ht=>(eR hi t ht).elim) (fun i t _⟨cs,hcs⟩=>(ni hi cs hcs).elim)
   (fun _ _ _ _=>⟨rfl,rfl,rfl⟩) (fun _ _ _ _ _ _ hcc=>⟨hcc,rfl,rfl⟩) (fun i hdi=>by grind [dc.pz])
  cases d<;>exact this
 intro pos after g next Q hn
 cases op<;>first|(simp[aA]at hc;done)|skip
 ·rename_i y
  obtain⟨G',h1,h2⟩:=key y hc
  exact aZ rfl (hn G' _ _ _ h1 h2 hk)
 ·rename_i y
  obtain⟨G',h1,h2⟩:=key y hc
  exact aZ rfl (hn G' _ _ _ h1 h2 hk)
theorem Hu{G:Gh}{w:World}{o:Nat->cZ}{z:List AV}{c:Array Value}(h:Row w G.R z c)(h2:∀(j:Nat)(x:AV)(u:Value),z[j]? =some x->c[j]? =some u->cR u x=true):dq G w o z c:=⟨h.1,fun j x y hx hy=>⟨h.2.1 j x y hx hy,Cg (h2 j x y hx hy) G w _⟩⟩
theorem mD{G:Gh}{w:World}{o:Nat->cZ}{z:List AV}{c:Array Value}(h:Row w G.R z c):dq G w o (views z) c:=
 ⟨h.views.1,fun j x y hx hy=>⟨h.views.2.1 j x y hx hy,by grind [eY,dy.view]⟩⟩
theorem Row.mono{R R':Nat->Nat}{z:List AV}{c:Array Value}(h:Row w R z c)(hv:∀a v,VR w R a v->VR w' R' a v):Row w' R' z c:=⟨h.1,fun j x y hx hy=>hv _ _ (h.2.1 j x y hx hy),h.2.2⟩
theorem Inv.aeP(h:Inv G n D E a w){d:Option Nat}(hd:bC n d=true)(hf:kO E.lp d=true){cs:List AV}{c:Array Value}{t:TypeId}
 (hcs:∀(G':Gh)(w':World)(o:Nat->cZ),aK G w G' w'->dq G' w' o cs c)(hfl:Fl cs):
 ∃G',Inv G' n D (E.put d (.loc cs)) (a.put d (.pointer (some ⟨w.heap.size,0,none⟩))) (w.alloc (.cells c t))/\aK G w G' (w.alloc (.cells c t)):=by
 let o:cZ:=match d with|some d=>.loc d|none=>.none
 have hp:=(fU h.bj (.cells c t) o 0).2.1
 obtain⟨h1,h2⟩:=h.alloc (.cells c t) o 0 d hd (.loc cs) (.pointer (some ⟨w.heap.size,0,none⟩)) E.lp (lN h.store h.bj _ o 0) (fun _ hx=>hx) (fun i t' _ ht=>ht.elim) (fun i t' hi _=>KL hf i t' hi)
  (fun i hi=>by
    subst hi
    exact⟨w.heap.size,c,t,rfl,by simp[o],by simp,heap_alloc_new w _,hcs _ _ _ hp,hfl⟩)
 exact⟨_,by cases d<;>exact h1,h2⟩
theorem Inv.X0(h:Inv G n D E a w){d:Option Nat}(hd:bC n d=true){cs:List AV}{c:Array Value}{t:TypeId}{av:AV}{v:Value}(hav:av=.ref w.heap.size 0/\v=.pointer (some ⟨w.heap.size,0,none⟩)\/∃l m,av=.arr w.heap.size 0 l m/\v=.slice (some ⟨w.heap.size,0,none⟩) l m)
 (hcs:∀(G':Gh)(w':World)(o:Nat->cZ),aK G w G' w'->dq G' w' o cs c)(hfl:AK t cs):
 ∃G',Inv G' n D ({E with s:=E.s.set w.heap.size (.cells cs)}.put d av) (a.put d v) (w.alloc (.cells c t))/\aK G w G' (w.alloc (.cells c t)):=by
 have hp:=(fU h.bj (.cells c t) .sh 0).2.1
 have hs:bc (G.xU w.heap.size .sh 0) (w.alloc (.cells c t)) (E.s.set w.heap.size (.cells cs)):=by
  intro b o hb
  unfold ae.set at hb
  by_cases he:b=w.heap.size
  ·rw[if_pos he]at hb
   injection hb with hb
   subst hb;subst he
   exact⟨by simp,by simp,c,t,heap_alloc_new w _,hcs _ _ _ hp,hfl⟩
  ·rw[if_neg he]at hb
   exact lN h.store h.bj _ .sh 0 b o hb
 have hv:dp av=true/\VR (w.alloc (.cells c t)) (G.xU w.heap.size .sh 0).R av v/\∀sz m cs,av≠.sl true sz m cs:=by
  rcases hav with⟨rfl,rfl⟩|⟨l,m,rfl,rfl⟩
  ·exact⟨rfl,.ref _ _,by simp⟩
  ·exact⟨rfl,.arr _ _ _ _,by simp⟩
 obtain⟨h1,h2⟩:=h.alloc (.cells c t) .sh 0 d hd av v E.lp hs (fun _ hx=>hx) (fun i t' _ ht=>(eR hv.1 t' ht).elim) (fun i t' _⟨cs',zO⟩=>(ni hv.1 cs' zO).elim)
  (fun i hi=>by
    rw[dc.pz hv.1]
    refine⟨hv.2.1,?_⟩
    rcases hav with⟨e,_⟩|⟨l,m,e,_⟩<;>rw[e]<;>trivial)
 refine⟨_,?_,h2⟩
 cases d<;>exact h1
theorem Inv.MC(h:Inv G n D E a w){d:Option Nat}(hd:bC n d=true){cs:List AV}{c:Array Value}{t:TypeId}{av:AV}{v:Value}(hav:av=.ref w.heap.size 0/\v=.pointer (some ⟨w.heap.size,0,none⟩)\/∃l m,av=.arr w.heap.size 0 l m/\v=.slice (some ⟨w.heap.size,0,none⟩) l m)
 (hcs:∀(G':Gh)(w':World)(o:Nat->cZ),aK G w G' w'->dq G' w' o cs c)(hfl:Fl cs):
 ∃G',Inv G' n D ({E with s:=E.s.set w.heap.size (.cells cs)}.put d av) (a.put d v) (w.alloc (.cells c t))/\aK G w G' (w.alloc (.cells c t)):=h.X0 hd hav hcs (hfl.tag t)
theorem F4(h:Inv G n D E a w){op:Op}{ty:TypeId}{z:List AV}{d:Option Nat}{K:St->Prop}(hd:bC n d=true):
 (aA P op ty (.jq z)=true->jl P (.jq z) d E K->qI P G n D w a op ty d K)/\(aA P op ty (.mC z)=true->jl P (.mC z) d E K->qI P G n D w a op ty d K):=by
 have run:∀t,ot P t z=true->∃c:Array Value,(∀(dst:Option Tmp)(pos:String)(after:Array Edge)(g:Option (Nat×Bool)),(execOp a.eval ⟨dst,.alloc t,ty,pos,after,g⟩).run P w=.ok (.value (.pointer (some ⟨w.heap.size,0,none⟩))) (w.alloc (.cells c t)))/\
  (∀(G':Gh)(w':World)(o:Nat->cZ),dq G' w' o z c)/\Fl z:=by
  intro t hz
  obtain⟨i,v,h1,h2,_,h4,h5⟩:=vt hz
  refine⟨v.cells,fun _ _ _ _=>?_,fun G' w' o=>Hu (h4 w' G'.R) h5,(h4 w G.R).2.2⟩
  simp[execOp,Instr.alloc,zeroValue,typeInfo,h1,h2,newVar,newRow]
 constructor
 ·intro hc hw pos after g next Q hn
  cases op<;>first|(simp[aA]at hc;done)|skip
  rename_i t
  obtain⟨c,hr,hcs,hfl⟩:=run t hc
  obtain⟨G',h1,h2⟩:=h.aeP hd hw.1 (c:=c) (t:=t) (fun G' w' o _=>hcs G' w' o) hfl
  exact aZ (hr d pos after g) (hn G' _ _ _ h1 h2 hw.2)
 ·intro hc hw pos after g next Q hn
  cases op<;>first|(simp[aA]at hc;done)|skip
  rename_i t
  obtain⟨c,hr,hcs,hfl⟩:=run t hc
  obtain⟨G',h1,h2⟩:=h.MC hd (c:=c) (t:=t) (.inl ⟨rfl,rfl⟩) (fun G' w' o _=>hcs G' w' o) hfl
  exact aZ (hr d pos after g) (hn G' _ _ _ h1 h2 (hw w.heap.size (h.store.get_none h.bj)))
theorem NG(h:Inv G n D E a w){op:Op}{ty:TypeId}{m:Nat}{x:IX}{d:Option Nat}{K:St->Prop}(hd:bC n d=true):
 (aA P op ty (.Jw m x)=true->jl P (.Jw m x) d E K->qI P G n D w a op ty d K)/\(aA P op ty (.Bd m x)=true->jl P (.Bd m x) d E K->qI P G n D w a op ty d K):=by
 have run:∀t y,∀(dst:Option Tmp)(pos:String)(after:Array Edge)(g:Option (Nat×Bool)),(execOp a.eval ⟨dst,.box t y,ty,pos,after,g⟩).run P w=.ok (.value (.pointer (some ⟨w.heap.size,0,none⟩))) (w.alloc (.cells (a.eval y).cells t)):=by
  intro t y _ _ _ _
  simp[execOp,Instr.box,newVar,newRow]
 have cells:∀y,bQ y x=true->dp (E.x x)=true->(∀(G':Gh)(w':World)(o:Nat->cZ),aK G w G' w'->dq G' w' o (views (cellsOf (E.x x))) (a.eval y).cells)/\Fl (views (cellsOf (E.x x))):=by
  intro y hy hi
  have hvr:VR w G.R (E.x x) (a.eval y):=by
   have:=XR.aV h hy
   generalize E.x x=av at hi this
   cases av<;>first|exact this|grind [dp]
  exact⟨fun G' w' o hp=>mD ((gT hi hvr).mono fun _ _ hv=>hp.vr h.bj hv),(gT hi hvr).2.2.views⟩
 have QA:∀y,bQ y x=true->dp (xg true E x)=true->(∀(G':Gh)(w':World)(o:Nat->cZ),aK G w G' w'->dq G' w' o (views (cellsOf (xg true E x))) (a.eval y).cells)/\Fl (views (cellsOf (xg true E x))):=by
  intro y hy hi
  have hvr:VR w G.R (xg true E x) (a.eval y):=(BR.aV h hy).vr hi
  exact⟨fun G' w' o hp=>mD ((gT hi hvr).mono fun _ _ hv=>hp.vr h.bj hv),(gT hi hvr).2.2.views⟩
 constructor
 ·intro hc hw pos after g next Q hn
  cases op<;>first|(simp[aA]at hc;done)|skip
  rename_i t y
  simp only[aA,Bool.and_eq_true]at hc
  obtain⟨hf,hi,_,hk⟩:=hw
  obtain⟨G',h1,h2⟩:=h.aeP hd hf (t:=t) (cells y hc.2 hi).1 (cells y hc.2 hi).2
  grind [aZ]
 ·intro hc hw pos after g next Q hn
  cases op<;>first|(simp[aA]at hc;done)|skip
  rename_i t y
  simp only[aA,Bool.and_eq_true]at hc
  obtain⟨hi,_,hk⟩:=hw
  obtain⟨G',h1,h2⟩:=h.MC hd (t:=t) (.inl ⟨rfl,rfl⟩) (QA y hc.2 hi).1 (QA y hc.2 hi).2
  exact aZ (run t y d pos after g) (hn G' _ _ _ h1 h2 (hk w.heap.size (h.store.get_none h.bj)))
end
section
variable{P:Program}{G G':Gh}{n:Nat}{D:List Deferred}{E:St}{a:Act}{w w':World}
theorem iB{R:Nat->Nat}{c:AV}{v:Value}(hf:pQ c=true)(h:VR w R c v):v.oneCell'=true:=by cases h<;>first|rfl|assumption|(simp[pQ,dp]at hf;done)|(rename_i h _;cases h<;>rfl)
theorem qx{t:Nat}{R:Nat->Nat}{c:AV}{v:Value}(hf:pQ c=true\/c=.m6 t)(h:VR w R c v):v.oneCell'=true:=by
 rcases hf with hf|rfl
 ·exact iB hf h
 ·cases h;rfl
theorem eo(g o:Nat)(t:TypeId)(fz:Nat×Nat):∀(vs:List Value)(i:Nat)(cur:Array Value)(w:World),w.heap[g]? =some (.cells cur t fz)->(∀k,k<cur.size->¬(fz.1<=k/\k<fz.2))->o+i+vs.length<=cur.size->(∀v∈vs,v.oneCell'=true)->
 (storeCells ⟨g,o,none⟩ vs i).run P w=.ok () (w.setRow g (cur.toList.take (o+i)++vs++cur.toList.drop (o+i+vs.length)).toArray)
 |[],i,cur,w,hg,_,_,_=>by
  simp only[storeCells,List.append_nil,List.length_nil,Nat.add_zero,List.take_append_drop,Array.toArray_toList]
  rw[setRow_self w g cur t fz hg]
  rfl
 |v::rest,i,cur,w,hg,hfz,hl,h1=>by
  have hi:o+i<cur.size:=by simp at hl;omega
  have fB:w.cell? ⟨g,o+i,none⟩=some cur[o+i]:=by simp[World.cell?,hg,hi]
  have ah1:w.frozen? ⟨g,o+i,none⟩=false:=by
   have:=hfz (o+i) hi
   obtain⟨lo,hh⟩:=fz
   simp only[World.frozen?,hg]
   simp only at this
   by_cases h1:lo<=o+i
   ·have:¬(o+i<hh):=fun h2=>this ⟨h1,h2⟩
    simp[this]
   ·simp[h1]
  have eM:(store ((⟨g,o,none⟩:Addr).add i) v).run P w=.ok () (w.setRow g (cur.setIfInBounds (o+i) v)):=by
   rw[add_eq,run_store P w _ v _ (h1 v (by simp)),fB]
   simp[ah1,setCell_eq_setRow w g (o+i) cur t fz v hg]
  have ih:=eo g o t fz rest (i+1) (cur.setIfInBounds (o+i) v) (w.setRow g (cur.setIfInBounds (o+i) v)) (setRow_heap w g cur _ t _ hg) (by simpa using hfz) (by simp at hl⊢;omega) (fun x hx=>h1 x (by simp[hx]))
  simp only[storeCells,Sem.run_bind,eM,Result.andThen_ok,ih,setRow_setRow]
  congr 3
  have e:=list_seg_step cur.toList (o+i) v rest (by simp at hl⊢;omega)
  simpa[Array.toList_setIfInBounds,Nat.add_assoc]using e
def laid(cur:Array Value)(o:Nat)(vs:List Value):Array Value:=(cur.toList.take o++vs++cur.toList.drop (o+vs.length)).toArray
theorem qk(cur:Array Value)(o:Nat)(vs:List Value)(h:o+vs.length<=cur.size):(laid cur o vs).size=cur.size:=by simp[laid];omega
theorem kM(cur:Array Value)(o:Nat)(vs:List Value)(h:o+vs.length<=cur.size)(k:Nat):(laid cur o vs)[k]? =if o<=k/\k<o+vs.length then vs[k -o]? else cur[k]? :=by
 unfold laid
 grind
theorem uq{g:Nat}{cur:Array Value}{t:TypeId}{fz:Nat×Nat}(hg:w.heap[g]? =some (.cells cur t fz))(new:Array Value)(b k:Nat):(w.setRow g new).cell? ⟨b,k,none⟩=if b=g then new[k]? else w.cell? ⟨b,k,none⟩:=by
 by_cases h:b=g
 ·subst h
  rw[if_pos rfl,cell_of_row _ (setRow_heap w b cur new t fz hg)]
 ·rw[if_neg h]
  grind [World.cell?_of_block,setRow_other]
theorem aK.write{g:Nat}{cur new:Array Value}{t:TypeId}{fz:Nat×Nat}(hg:w.heap[g]? =some (.cells cur t fz))(ho:G.O g≠.frame/\G.O g≠.none)(eM:∀k,k<G.R g->new[k]? =cur[k]?)
 (hR:G.R g<=G'.R g)(hO:∀b,b≠g->G'.O b=G.O b/\G'.R b=G.R b):aK G w G' (w.setRow g new)where
 os:=rfl
 tape:=rfl
 output:=rfl
 drawn:=Nat.le_refl _
 size:=by simp_all
 mono:=fun b _=>by grind
 mJ:=fun b k _ hk=>by grind [uq,cell_of_row]
 frame:=fun b _ hb=>by grind [setRow_other]
 jr:=fun b _ hb=>by grind
 qu:=fun b _ hb=>by grind
theorem Inv.written(h:Inv G n D E a w){g:Nat}{c new:Array Value}{t:TypeId}(hg:w.heap[g]? =some (.cells c t (0,0)))(ho:(∃i,G.O g=.loc i)\/G.O g=.sh)(hR:G.R g=0){E':St}(hlp:E'.lp=E.lp)
 (eM:bc G (w.setRow g new) E'.s)
 (he:∀k,(look E'.e k=look E.e k/\G.O g≠.loc k)\/(G.O g=.loc k/\a.tmps[k]? =some (.pointer (some ⟨g,0,none⟩))/\∃cs cs',look E.e k=.loc cs/\look E'.e k=.loc cs'/\dq G (w.setRow g new) (.cell g) cs' new/\Fl cs')):
 Inv G n D E' a (w.setRow g new)/\aK G w G (w.setRow g new):=by
 have hog:G.O g≠.frame/\G.O g≠.none/\(∀i j,G.O g≠.slot i j)/\(∀i j,G.O g≠.cell i j):=by rcases ho with⟨i,ho⟩|ho<;>rw[ho]<;>simp
 have cz:aK G w G (w.setRow g new):=aK.write hg ⟨hog.1,hog.2.1⟩ (fun k hk=>by grind) (Nat.le_refl _) (fun _ _=>⟨rfl,rfl⟩)
 have Ru:∀b,G.O b≠G.O g->(w.setRow g new).heap[b]? =w.heap[b]? :=fun b hb=>setRow_other w g b new (fun e=>hb (by rw[e]))
 refine⟨⟨⟨fun b hb=>h.bj.k7 b (by simp_all),fun b hb=>h.bj.mn b (by simp_all)⟩,eM,h.size,fun k v hk=>?_,fun k hk=>?_,fun k d hd=>?_,h.pO⟩,cz⟩
 ·have hs:=h.cm k v hk
  rcases he k with⟨e,hnk⟩|⟨hgk,htm,cs,cs',e1,e2,e3,e4⟩
  ·rw[e]
   refine dc.frame (G:=G) (G':=G) (fun _ _ hv=>cz.vr h.bj hv) (fun b hb=>⟨rfl,rfl,Ru b ?_⟩) (fun b c' j _ hc=>⟨hc,rfl,Ru c' ?_⟩) _ _ (fun d _ ds hds=>?_) hs
   ·grind
   ·grind
   grind
  ·rw[e2]
   have hv:v=.pointer (some ⟨g,0,none⟩):=by rw[htm]at hk;exact(Option.some.inj hk).symm
   exact⟨g,new,t,hv,hgk,hR,setRow_heap w g c new t _ hg,e3,e4⟩
 ·rcases he k with⟨e,_⟩|⟨_,_,cs,_,e1,_⟩
  ·rw[e];exact h.EI k hk
  ·rw[h.EI k hk]at e1;cases e1
 ·rw[hlp]
  rcases he k with⟨e,_⟩|⟨_,_,cs,cs',_,e2,_⟩
  ·rw[e]at hd;exact h.LA k d hd
  ·rw[e2]at hd;exact hd.elim
theorem dq.lay{g off:Nat}{cs news:List AV}{c:Array Value}{vs:List Value}{t:TypeId}{fz:Nat×Nat}(hg:w.heap[g]? =some (.cells c t fz))(cz:aK G w G (w.setRow g (laid c off vs)))(jt:cE G w)
 (hc:dq G w (.cell g) cs c)(hl:vs.length=news.length)(dt:off+news.length<=cs.length)(hne:∀j,G.O g≠.cell g j)
 (hn:∀(j:Nat)(x:AV)(y:Value),news[j]? =some x->vs[j]? =some y->VR w G.R x y/\dy G w (.cell g (off+j)) x y):
 dq G (w.setRow g (laid c off vs)) (.cell g) (setAt cs off news) (laid c off vs):=by
 have Gi:off+vs.length<=c.size:=by rw[hl,hc.1];exact dt
 refine⟨by rw[qk _ _ _ Gi,vi _ _ _ dt,hc.1],fun j x y hx hy=>?_⟩
 rw[vh _ _ _ _ dt]at hx
 rw[kM _ _ _ Gi]at hy
 have mono:∀o:Nat,dy G w (.cell g o) x y->dy G (w.setRow g (laid c off vs)) (.cell g o) x y:=fun o ho=>ho.mono fun b hb=>⟨hb,rfl,setRow_other w g b _ (fun e=>by grind)⟩
 by_cases hj:off<=j/\j<off+news.length
 ·rw[if_pos hj]at hx
  rw[if_pos (by omega)]at hy
  obtain⟨h1,h2⟩:=hn (j -off) x y hx hy
  have:off+(j -off)=j:=by omega
  rw[this]at h2
  exact⟨cz.vr jt h1,mono j h2⟩
 ·rw[if_neg hj]at hx
  rw[if_neg (by omega)]at hy
  obtain⟨h1,h2⟩:=hc.2 j x y hx hy
  exact⟨cz.vr jt h1,mono j h2⟩
theorem M7{av:AV}{v:Value}(hi:dp av=true)(h:VR w G.R av v):Fl (bu av)/\v.cells.toList.length=(bu av).length/\(∀(j:Nat)(x:AV)(y:Value),(bu av)[j]? =some x->v.cells.toList[j]? =some y->VR w G.R x y)/\
 (∀y∈v.cells.toList,y.oneCell'=true):=by
 have hr:=gT hi h
 have eO:Row w G.R (bu av) v.cells:=by cases av<;>first|exact hr|exact hr.views
 refine⟨eO.2.2,by simpa using eO.1,fun j x y hx hy=>eO.2.1 j x y hx (by grind),fun y hy=>?_⟩
 obtain⟨j,hj⟩:=List.mem_iff_getElem?.1 hy
 have hjl:j<(bu av).length:=by rw[<-eO.1];have:=(List.getElem?_eq_some_iff.1 hj).1;simpa using this
 have hx:=List.getElem?_eq_getElem hjl
 exact iB (eO.2.2 _ (List.getElem_mem hjl)) (eO.2.1 j _ y hx (by grind))
theorem zu{t:TypeId}{m:Nat}(hs:dT P t m=true){g off:Nat}{c:Array Value}{et:TypeId}(hg:w.heap[g]? =some (.cells c et (0,0))){v:Value}(hm:v.cells.size=m)(dt:off+m<=c.size)(h1:∀y∈v.cells.toList,y.oneCell'=true):
 (storeVar t ⟨g,off,none⟩ v).run P w=.ok () (w.setRow g (laid c off v.cells.toList)):=by
 have:=eo (P:=P) g off et (0,0) v.cells.toList 0 c w hg (fun k _ hk=>by simp at hk) (by grind) h1
 simp only[storeVar,Sem.run_bind,run_sizeOf hs,Result.andThen_ok]
 rw[if_neg (by simp[hm])]
 grind [laid]
theorem Ey{off:Nat}{news gN cs:List AV}(h:gb off news gN=some cs):off+news.length<=gN.length/\cs=setAt gN off news:=by grind [gb,decide_eq_true,decide_eq_false]
theorem MA{v:IX}(hi:dp (E.x v)=true){k:Nat}{cs:List AV}(h:look (E.drain v).e k=.loc cs):look E.e k=.loc cs:=by
 cases v with
 |c _=>exact h
 |t i=>
  simp only[St.drain,St.put,aX]at h
  split at h
  ·have:=ni (kJ (show dp (look E.e i)=true from hi)) cs
   grind
  ·exact h
theorem KJ{v:IX}(hi:dp (E.x v)=true){k:Nat}{cs:List AV}(h:look E.e k=.loc cs):look (E.drain v).e k=.loc cs:=by
 cases v with
 |c _=>exact h
 |t i=>
  simp only[St.drain,St.put,aX]
  split
  ·rename_i e;subst e
   rw[show E.x (.t i)=look E.e i from rfl,h]at hi
   cases hi
  ·exact h
theorem Pg(h:Inv G n D E a w){op:Op}{ty:TypeId}{m:Nat}{p v:IX}{d:Option Nat}{K:St->Prop}(hd:bC n d=true)(hc:aA P op ty (.store m p v)=true)(hw:jl P (.store m p v) d E K):qI P G n D w a op ty d K:=by
 cases op<;>first|(simp[aA]at hc;done)|skip
 rename_i t q u
 simp only[aA,Bool.and_eq_true]at hc
 obtain⟨⟨hs,hq⟩,hu⟩:=hc
 obtain⟨hi,hm,hk⟩:=hw
 have hvr:VR w G.R (E.x v) (a.eval u):=by
  have:=XR.aV h hu
  generalize E.x v=av at hi this
  cases av<;>first|exact this|grind [dp]
 have target:∃g off gN,a.eval q=.pointer (some ⟨g,off,none⟩)/\
  ((∃i,look E.e i=.loc gN/\a.tmps[i]? =some (.pointer (some ⟨g,0,none⟩))/\Lw (E.drain v) (E.x p) p (bu (E.x v))=wrL (E.drain v) i (gb off (bu (E.x v)) gN))\/
   (E.s g=some (.cells gN)/\Lw (E.drain v) (E.x p) p (bu (E.x v))=wrS (E.drain v) g (gb off (bu (E.x v)) gN))):=by
  have hb:=XR.aV h hq
  cases hp:E.x p with
  |loc gN=>
   rw[hp]at hb
   obtain⟨i,b,c,t',e1,e2,e3,e4,_⟩:=hb
   refine⟨b,0,gN,e4,.inl ⟨i,e2,by rw[e3,e4],?_⟩⟩
   subst e1;rfl
  |lp d0 off=>
   rw[hp]at hb hk
   obtain⟨b,e1,e2⟩:=hb
   have hk':Tr d K (OL (E.drain v) d0 off (bu (E.x v)) (look (E.drain v).e d0)):=hk
   cases hl:look (E.drain v).e d0<;>rw[hl]at hk'<;>first|exact hk'.elim|skip
   rename_i gN
   have hl':=MA hi hl
   exact⟨b,off,gN,e1,.inl ⟨d0,hl',e2 gN hl',by show OL _ _ _ _ (look (E.drain v).e d0)=_;rw[hl];rfl⟩⟩
  |ref b off=>
   rw[hp]at hb hk
   have e1:=VR.fZ hb
   have hk':Tr d K (TV (E.drain v) b off (bu (E.x v)) ((E.drain v).s b)):=hk
   have hs':(E.drain v).s=E.s:=by cases v<;>rfl
   rw[hs']at hk'
   cases hl:E.s b with
   |none=>rw[hl]at hk';exact hk'.elim
   |some so=>
    cases so with
    |map es=>rw[hl]at hk';exact hk'.elim
    |cells gN=>exact⟨b,off,gN,e1,.inr ⟨hl,by show TV _ _ _ _ ((E.drain v).s b)=_;rw[hs',hl];rfl⟩⟩
  |_=>rw[hp]at hk;exact hk.elim
 obtain⟨g,off,gN,e1,aif⟩:=target
 obtain⟨G1,h1,hp1,hv1,wo,hR1,hsh,Pl,fB⟩:=h.drain hu hi (.cell g off) (by simp) (by simp)
 obtain⟨hfl,hlen,sW,Ml⟩:=M7 hi hv1
 have xj:∀(x:AV)(y:Value),(bu (E.x v))[0]? =some x->(a.eval u).cells.toList[0]? =some y->dy G1 w (.cell g (off+0)) x y:=by
  intro x y hx hy
  cases hv:E.x v with
  |agg cs=>grind [bu,eY,dy.view]
  |sl o s l cs=>
   rw[hv]at hx wo hv1
   simp[bu]at hx
   subst hx
   have:(a.eval u).cells= #[a.eval u]:=by rcases VR.ik hv1 with⟨(e|⟨_,_,_,e⟩),_⟩|⟨_,_,_,e,_⟩<;>rw[e]<;>rfl
   grind
  |bb t l cs=>
   rw[hv]at hx wo hv1
   simp[bu]at hx
   subst hx
   have aih:VR w G1.R (.sl true 1 l cs) (a.eval u):=by cases hv1;assumption
   have:(a.eval u).cells= #[a.eval u]:=by rcases VR.ik aih with⟨(e|⟨_,_,_,e⟩),_⟩|⟨_,_,_,e,_⟩<;>rw[e]<;>rfl
   grind
  |_=>rw[hv]at hx;simp[bu]at hx;subst hx;trivial
 have NS:∀(j:Nat)(x:AV)(y:Value),(bu (E.x v))[j]? =some x->(a.eval u).cells.toList[j]? =some y->VR w G1.R x y/\dy G1 w (.cell g (off+j)) x y:=by
  intro j x y hx hy
  refine⟨sW j x y hx hy,?_⟩
  cases j with
  |zero=>grind
  |succ j=>
   cases hv:E.x v with
   |agg cs=>grind [bu,eY,dy.view]
   |_=>grind [bu]
 have XI:(a.eval u).cells.toList.length=m:=by rw[hlen,hm]
 have yI:∀(τ:St)(w':World),Inv G1 n D τ a w'->Inv G1 n D (τ.put d (.iP [])) (a.put d undef) w':=by
  intro τ w' hτ
  have:=hτ.put (s':=τ.s) (lp':=τ.lp) d (fun i hi=>by grind [bC]) (.iP []) undef hτ.bj (aK.refl G1 w') hτ.store (fun _ hx=>hx) (fun i t _ ht=>ht.elim) (fun i t _⟨cs,hcs⟩=>by cases hcs)
   (fun _ _ _ _=>⟨rfl,rfl,rfl⟩) (fun _ _ _ _ _ _ hcc=>⟨hcc,rfl,rfl⟩) (fun i hdi=>⟨#[],rfl,rfl,fun j x y hx=>by simp at hx⟩)
  cases d<;>exact this
 rcases aif with⟨i,e2,e3,e4⟩|⟨e2,e4⟩
 ·
  rw[e4]at hk
  cases hwr:gb off (bu (E.x v)) gN with
  |none=>rw[hwr]at hk;exact hk.elim
  |some cs'=>
   rw[hwr]at hk
   obtain⟨dt,rfl⟩:=Ey hwr
   have e2':look (E.drain v).e i=.loc gN:=KJ hi e2
   have Kc:=h1.cm i _ e3
   rw[e2']at Kc
   obtain⟨b,c,t',q1,q2,q3,q4,q5,q6⟩:=Kc
   injection q1 with q1;injection q1 with q1;injection q1 with q1 _ _
   subst q1
   have hne:∀j,G1.O g≠.cell g j:=fun j=>by rw[q2];simp
   have Gi:off+(a.eval u).cells.toList.length<=c.size:=by rw[hlen,q5.1];exact dt
   have cH:=zu (P:=P) hs q4 (v:=a.eval u) (by grind) (by rw[<-XI];exact Gi) Ml
   have cz:aK G1 w G1 (w.setRow g (laid c off (a.eval u).cells.toList)):=aK.write q4 (by rw[q2];simp) (fun k hk=>by grind) (Nat.le_refl _) (fun _ _=>⟨rfl,rfl⟩)
   have nL:=dq.lay q4 cz h1.bj q5 hlen dt hne NS
   obtain⟨h2,_⟩:=h1.written (E':=(E.drain v).put (some i) (.loc (setAt gN off (bu (E.x v))))) q4 (.inl ⟨i,q2⟩) q3 rfl
    (h1.store.mono h1.bj cz (fun b hb=>⟨hb,rfl,setRow_other w g b _ (fun e=>by grind)⟩) (fun b c j _ hc=>⟨hc,rfl,setRow_other w g c _ (fun e=>by grind)⟩))
    (fun k=>by grind [q2,St.put,aX,Fl.setAt])
   intro pos after gd next Q hn
   exact Lv (w':=w.setRow g (laid c off (a.eval u).cells.toList)) (by simp[execOp,e1,Instr.storeAt,Instr.sureAddr,cH]) (hn G1 _ _ _ (yI _ _ h2) (hp1.trans cz) hk)
 ·
  rw[e4]at hk
  cases hwr:gb off (bu (E.x v)) gN with
  |none=>rw[hwr]at hk;exact hk.elim
  |some cs'=>
   rw[hwr]at hk
   obtain⟨dt,rfl⟩:=Ey hwr
   have hs':(E.drain v).s=E.s:=by cases v<;>rfl
   obtain⟨q2,q3,c,t',q4,q5,q6⟩:=h1.store g (.cells gN) (by grind)
   have hne:∀j,G1.O g≠.cell g j:=fun j=>by rw[q2];simp
   have Gi:off+(a.eval u).cells.toList.length<=c.size:=by rw[hlen,q5.1];exact dt
   have cH:=zu (P:=P) hs q4 (v:=a.eval u) (by grind) (by rw[<-XI];exact Gi) Ml
   have cz:aK G1 w G1 (w.setRow g (laid c off (a.eval u).cells.toList)):=aK.write q4 (by rw[q2];simp) (fun k hk=>by grind) (Nat.le_refl _) (fun _ _=>⟨rfl,rfl⟩)
   have nL:=dq.lay q4 cz h1.bj q5 hlen dt hne NS
   have eM:bc G1 (w.setRow g (laid c off (a.eval u).cells.toList)) ((E.drain v).s.set g (.cells (setAt gN off (bu (E.x v))))):=by
    intro b o hb
    unfold ae.set at hb
    by_cases hbg:b=g
    ·rw[if_pos hbg]at hb;grind [q2,setRow_heap,AK.setAt]
    ·rw[if_neg hbg]at hb
     obtain⟨r1,r2,r3⟩:=h1.store b o hb
     refine⟨r1,r2,?_⟩
     have hbk:=setRow_other w g b (laid c off (a.eval u).cells.toList) hbg
     cases o with
     |cells cs=>
      obtain⟨c0,t0,r4,r5,r6⟩:=r3
      exact⟨c0,t0,hbk.trans r4,r5.mono (fun _ _ hv=>cz.vr h1.bj hv) (fun b' j hb'=>⟨hb',rfl,setRow_other w g b' _ (fun e=>by grind)⟩),r6⟩
     |map es=>
      obtain⟨sP,clock,r4,r5,r6⟩:=r3
      exact⟨sP,clock,hbk.trans r4,r5,fun j x y hx hy=>⟨cz.vr h1.bj (r6 j x y hx hy).1,cz.vr h1.bj (r6 j x y hx hy).2⟩⟩
   obtain⟨h2,_⟩:=h1.written (E':={E.drain v with s:=(E.drain v).s.set g (.cells (setAt gN off (bu (E.x v))))}) q4 (.inr q2) q3 rfl eM
    (fun k=>.inl ⟨rfl,by rw[q2];simp⟩)
   intro pos after gd next Q hn
   exact Lv (w':=w.setRow g (laid c off (a.eval u).cells.toList)) (by simp[execOp,e1,Instr.storeAt,Instr.sureAddr,cH]) (hn G1 _ _ _ (yI _ _ h2) (hp1.trans cz) hk)
end
section
variable{P:Program}{G G':Gh}{n:Nat}{D:List Deferred}{E:St}{a:Act}{w w':World}
theorem Inv.Sh(h:Inv G n D E a w){d:Option Nat}(hd:bC n d=true){sz m cap:Nat}{cs:List AV}{c:Array Value}{t:TypeId}{ob:cZ}{own:Bool}(hob:∀i,d=some i->ob=.slot i 0)(ah9:d=none->ob=.none)
 (hl:cs.length=m*sz)(fL:m<=cap)(hsz:c.size=cap*sz)(hfl:Fl cs)
 (hcs:∀(j:Nat)(x:AV),cs[j]? =some x->∃y,c[j]? =some y/\VR w G.R x y)(fz:Nat×Nat)(hfz:(∀k,k<c.size->¬(fz.1<=k/\k<fz.2))/\fz.1<=fz.2)(hz0:own=true->fz=(0,0)\/(0<m/\∃x,c[0]? =some (.int .u8 x)))(hsp:∀(k:Nat)(y:Value),m*sz<=k->c[k]? =some y->y.oneCell'=true):
 ∃G',Inv G' n D (E.put d (.sl own sz m cs)) (a.put d (.slice (some ⟨w.heap.size,0,none⟩) m cap)) (w.alloc (.cells c t fz))/\aK G w G' (w.alloc (.cells c t fz)):=by
 have hp:=(fU h.bj (.cells c t fz) ob cs.length).2.1
 obtain⟨h1,h2⟩:=h.alloc (.cells c t fz) ob cs.length d hd (.sl own sz m cs) (.slice (some ⟨w.heap.size,0,none⟩) m cap) E.lp (lN h.store h.bj _ ob cs.length) (fun _ hx=>hx) (fun i t' _ ht=>ht.elim)
  (fun i t' _⟨cs',zO⟩=>by cases zO)
  (fun i hi=>by
    refine⟨?_,?_⟩
    ·refine .sl own sz m cs w.heap.size 0 cap (fun j=>c.getD j undef) hfl hl (by simp) fL (fun j x hj=>?_) (fun j x hj=>?_)
     ·obtain⟨y,hy,_⟩:=hcs j x hj
      rw[Nat.zero_add,cell_of_row _ (heap_alloc_new w _),hy]
      simp_all
     ·obtain⟨y,hy,hv⟩:=hcs j x hj
      have:c.getD j undef=y:=by simp[Array.getD_eq_getD_getElem?,hy]
      rw[this]
      exact hp.vr h.bj hv
    ·cases own with
     |false=>trivial
     |true=>
     intro base m' c6 hv hc
     injection hv with e1 e2 e3
     subst e3
     exact⟨w.heap.size,0,c,t,fz,e1.symm,by simp_all,by simp[hl],heap_alloc_new w _,by grind,hfz.1,hfz.2,rfl,hz0 rfl,fun k y hk=>hsp k y (by omega)⟩)
 exact⟨_,by cases d<;>exact h1,h2⟩
theorem J6(l:List Value):∀(m:Nat),((List.replicate m l).flatten)=((List.range (m*l.length)).map fun i=>l.getD (i % l.length) undef):=by
 intro m
 apply List.ext_getElem?
 intro j
 rcases Nat.eq_zero_or_pos l.length with h0|hp
 ·simp_all
 ·induction m generalizing j with
  |zero=>simp
  |succ m ih=>
   rw[List.replicate_succ,List.flatten_cons]
   by_cases hj:j<l.length
   ·rw[List.getElem?_append_left hj,List.getElem?_map,List.getElem?_range (by grind)]
    simp[Nat.mod_eq_of_lt hj,List.getD_eq_getElem?_getD,List.getElem?_eq_getElem hj]
   ·rw[List.getElem?_append_right (by omega),ih,List.getElem?_map,List.getElem?_map]
    by_cases hlt:j<(m+1)*l.length
    ·have h1:j -l.length<m*l.length:=by rw[Nat.add_mul,Nat.one_mul]at hlt;omega
     grind [List.getElem?_range,Nat.mod_eq_sub_mod]
    grind
theorem uL(z:Array Value)(m:Nat):((Array.range (m*z.size)).map fun i=>z[i % z.size]!)=((List.replicate m z.toList).flatten).toArray:=by
 rw[J6]
 apply Array.ext'
 simp only[Array.toList_map,Array.toList_range,Array.length_toList]
 apply List.map_congr_left
 intro i hi
 have hlt:i<m*z.size:=by simpa using hi
 have hz:0<z.size:=by
  rcases Nat.eq_zero_or_pos z.size with h|h
  ·grind
  ·exact h
 grind [Nat.mod_lt]
theorem JV(h:Inv G n D E a w){op:Op}{ty:TypeId}{sz m:Nat}{z:List AV}{ps:List (Nat×Nat×IX)}{d:Option Nat}{K:St->Prop}(hd:bC n d=true)(hc:aA P op ty (.gr sz m z ps)=true)(hw:jl P (.gr sz m z ps) d E K):qI P G n D w a op ty d K:=by
 cases op<;>first|(simp[aA]at hc;done)|skip
 rename_i t m' qs
 simp only[aA,Bool.and_eq_true,beq_iff_eq]at hc
 obtain⟨rfl,hc⟩:=hc
 split at hc<;>try(cases hc;done)
 rename_i e ht
 have ht:=c3 ht
 simp only[Bool.and_eq_true]at hc
 obtain⟨⟨⟨⟨hs,jg⟩,hp⟩,Rt⟩,hz⟩:=hc
 obtain⟨i,hi,pT⟩:=j8 hs
 rw[hi]at hz
 simp only at hz
 split at hz<;>try(cases hz;done)
 rename_i zv hzv
 simp only[Bool.and_eq_true,beq_iff_eq]at hz
 obtain⟨hzr,hzs⟩:=hz
 have jg:=of_decide_eq_true jg
 have Rt:=of_decide_eq_true Rt
 have hw':yb sz m E d K (fill (xg true E) z ps):=hw
 cases hfl:fill (xg true E) z ps with
 |none=>rw[hfl]at hw';exact hw'.elim
 |some ds=>
  rw[hfl]at hw'
  obtain⟨hlen,hk⟩:=hw'
  obtain⟨hl,hpa⟩:=xK _ _ hp
  obtain⟨hz1,hz2⟩:=BO hzr
  have eO:Row w G.R z ((Array.range (m*sz)).map (zv.cells[·% zv.cells.size]!)):=by
   rw[<-hzs,uL]
   exact⟨by grind,fun j c u hc hu=>yd (hz2 j c u hc (by grind)) w G.R,Ch hzr⟩
  have hf:∀(o:Operand)(x:IX),bQ o x=true->dp (xg true E x)=true->VR w G.R (xg true E x) (a.eval o):=fun o x hx hi=>by
   have:=BR.aV h hx
   generalize xg true E x=av at hi this
   cases av<;>first|exact this|grind [dp]
  obtain⟨us,h1,h2⟩:=qZ h hf (fun i=>some (i*sz,sz)) qs.toList ps z ds _ ⟨hl,fun j q p hq hp'=>by grind⟩ eO hfl
  obtain⟨G1,h3,h4⟩:=h.Sh (t:=e) (ob:=match d with|some i=>.slot i 0|none=>.none) hd (fun i hi=>by subst hi;rfl) (fun hn=>by subst hn;rfl) hlen (Nat.le_refl m) (by rw[h2.1,hlen]) h2.2.2
   (fun j x hx=>by
     have hlt:j<us.size:=by rw[h2.1];exact(List.getElem?_eq_some_iff.1 hx).1
     exact⟨us[j],Array.getElem?_eq_getElem hlt,h2.2.1 j x _ hx (Array.getElem?_eq_getElem hlt)⟩) (0,0) ⟨fun k _ hk=>by simp at hk,Nat.le_refl _⟩ (own:=true) (fun _=>.inl rfl) (fun k y hk hy=>by
     have:=(Array.getElem?_eq_some_iff.1 hy).1
     rw[h2.1,hlen]at this;omega)
  intro pos after gd next Q hn
  refine aZ ?_ (hn G1 _ _ _ h3 h4 hk)
  by_cases hm0:m*sz=0
  ·have hm:m=0:=by
    rcases Nat.mul_eq_zero.1 hm0 with h|h
    ·exact h
    ·omega
   subst hm
   simp only[Nat.zero_mul]at h1
   have:(Array.range 0).map (zv.cells[·% zv.cells.size]!)= #[]:=by simp
   rw[this]at h1
   have hr0:Array.map (fun _:Nat=>(default:Value)) (Array.range 0)= #[]:=by apply Array.ext';simp
   simp[execOp,Instr.buildSlice,run_underlying ht,run_sizeOf hs,hr0,h1,newRow]
  ·have h24:¬(16777216<m*sz):=by omega
   simp[execOp,Instr.buildSlice,run_underlying ht,run_sizeOf hs,h24,hm0,zeroValue,typeInfo,hi,hzv,h1,newRow]
theorem Cf(s:List UInt8):Fl (s.map fun c=>AV.int .u8 c.toNat):=by
 intro c hc
 simp only[List.mem_map]at hc
 obtain⟨x,_,rfl⟩:=hc
 rfl
theorem L4(h:Inv G n D E a w){op:Op}{ty:TypeId}{x:IX}{d:Option Nat}{K:St->Prop}(hd:bC n d=true)(hc:aA P op ty (.jG x)=true)(hw:jl P (.jG x) d E K):qI P G n D w a op ty d K:=by
 cases op<;>first|(simp[aA]at hc;done)|skip
 rename_i s t y
 simp only[aA,Bool.and_eq_true]at hc
 obtain⟨hy,hc⟩:=hc
 split at hc<;>try(cases hc;done)
 rename_i e hs ht
 split at hc<;>try(cases hc;done)
 rename_i he
 have hb:=BR.aV h hy
 have hw':BP E d K (xg true E x):=hw
 generalize xg true E x=xv at hb hw'
 unfold BP at hw'
 split at hw'<;>try(exact hw'.elim)
 rename_i ow sz m cs
 obtain⟨rfl,l,rfl,hk⟩:=hw'
 have yI:Inv G n D (E.put d (.str l)) (a.put d (.string ⟨l.toArray⟩)) w:=by
  have:=h.put (s':=E.s) (lp':=E.lp) d (fun i hi=>by grind [bC]) (.str l) (.string ⟨l.toArray⟩) h.bj (aK.refl G w) h.store (fun _ hx=>hx) (fun i t _ ht=>ht.elim) (fun i t _⟨cs,hcs⟩=>by cases hcs)
   (fun _ _ _ _=>⟨rfl,rfl,rfl⟩) (fun _ _ _ _ _ _ hcc=>⟨hcc,rfl,rfl⟩) (fun i hdi=>⟨.str l,trivial⟩)
  cases d<;>exact this
 intro pos after gd next Q hn
 refine aZ (v:=.string ⟨l.toArray⟩) ?_ (hn G _ _ _ yI (aK.refl G w) hk)
 rcases VR.ik hb with⟨e1,_,hl0⟩|⟨b,off,cap,e1,hlen,_,_,u,u1,u2,_⟩
 ·have:l=[]:=by simpa using hl0
  subst this
  rcases e1 with e1|⟨_,ad,cap,e1⟩
  ·have:=run_convert_bytes_nil (P:=P) w s e hs he 0 0 t ht
   simp[execOp,e1,this]
   rfl
  ·have:=j6 (P:=P) w s e hs he ad cap t ht
   simp[execOp,e1,this]
   rfl
 ·have hm:l.length=m:=by simpa using hlen
  have:=run_convert_bytes_arg (P:=P) w s e hs he b off m cap (l.map fun c=>(c.toNat:Int)) (by grind) (fun i hi=>by
   have hil:i<l.length:=by omega
   have hc0:(l.map fun c=>AV.int .u8 c.toNat)[i]? =some (.int .u8 l[i].toNat):=by simp[hil]
   grind [VR.dj]) t ht
  have hs2:strOfNums (l.map fun c=>(c.toNat:Int))=⟨l.toArray⟩:=by
   unfold strOfNums
   congr 2
   simp[Function.comp_def]
  rw[hs2]at this
  simp[execOp,e1,this]
theorem aK.drew(G:Gh)(w:World):aK G w G w.drew:=⟨rfl,rfl,rfl,Nat.le_succ _,Nat.le_refl _,fun _ _=>Nat.le_refl _,fun _ _ _ _=>rfl,fun _ _ _=>rfl,fun _ _ h=>⟨h,rfl⟩,fun _ _ h=>⟨h,rfl⟩⟩
theorem Inv.drew(h:Inv G n D E a w):Inv G n D E a w.drew:=by
 have hg:cE G w.drew:=⟨h.bj.k7,h.bj.mn⟩
 have:=h.put (s':=E.s) (lp':=E.lp) none (fun i hi=>by cases hi) .undef undef hg (aK.drew G w) (h.store.mono h.bj (aK.drew G w) (fun _ hb=>⟨hb,rfl,rfl⟩) (fun _ _ _ _ hc=>⟨hc,rfl,rfl⟩)) (fun _ hx=>hx) (fun i t hi=>by cases hi) (fun i t hi=>by cases hi)
  (fun _ _ _ _=>⟨rfl,rfl,rfl⟩) (fun _ _ _ _ _ _ hcc=>⟨hcc,rfl,rfl⟩) (fun i hi=>by cases hi)
 exact this
theorem HJ(h:Inv G n D E a w){op:Op}{ty:TypeId}{x:IX}{d:Option Nat}{K:St->Prop}(hd:bC n d=true)(hc:aA P op ty (.gy x)=true)(hw:jl P (.gy x) d E K):qI P G n D w a op ty d K:=by
 cases op<;>first|(simp[aA]at hc;done)|skip
 rename_i s t y
 simp only[aA,Bool.and_eq_true]at hc
 obtain⟨hy,hc⟩:=hc
 split at hc<;>try(cases hc;done)
 rename_i e hs ht
 split at hc<;>try(cases hc;done)
 rename_i he
 have hb:=BR.aV h hy
 have hw':pN E d K (xg true E x):=hw
 generalize xg true E x=xv at hb hw'
 unfold pN at hw'
 split at hw'<;>try(exact hw'.elim)
 rename_i l
 have e1:=VR.iJ hb
 have hk:K (E.put d (.sl (Sm l) 1 l.length (l.map fun c=>.int .u8 c.toNat))):=hw'
 let cap:=(Question.appendCap l.length 0 e).cut (w.tape w.drawn (.appendCap l.length 0 e))
 have fL:l.length<=cap:=Nat.le_add_right _ _
 let c:Array Value:=(l.toArray.map fun b=>Value.int .u8 b.toNat)++Array.replicate (cap -l.length) (.int .u8 0)
 have hcs:c.size=cap:=by simp[c];omega
 obtain⟨G1,h3,h4⟩:=(h.drew).Sh (t:=e) (c:=c) (m:=l.length) (cs:=l.map fun c=>AV.int .u8 c.toNat) (cap:=cap) (sz:=1) (ob:=match d with|some i=>.slot i 0|none=>.none) hd (fun i hi=>by subst hi;rfl) (fun hn=>by subst hn;rfl) (by simp) fL (by grind) (Cf l)
  (fun j x hx=>by
    rw[List.getElem?_map]at hx
    cases hj:l[j]? with
    |none=>grind
    |some b0=>
     rw[hj]at hx;simp at hx
     have hlt:j<l.length:=(List.getElem?_eq_some_iff.1 hj).1
     refine⟨.int .u8 b0.toNat,?_,by rw[<-hx];exact .int _ _⟩
     grind) (c.size,c.size+1) ⟨fun k hk hh=>by omega,Nat.le_succ _⟩ (own:=Sm l) (fun hne=>.inr (by
    cases l with
    |nil=>cases hne
    |cons x0 l=>grind)) (fun k y _ hy=>by
    obtain⟨hk,hy⟩:=Array.getElem?_eq_some_iff.1 hy
    have hm:y∈c:=by rw[<-hy];exact Array.getElem_mem hk
    rcases Array.mem_append.1 hm with hm|hm
    ·obtain⟨b,_,rfl⟩:=Array.mem_map.1 hm;rfl
    ·rw[(Array.mem_replicate.1 hm).2];rfl)
 intro pos after gd next Q hn
 refine aZ (w':=(w.drew).alloc (.cells c e (c.size,c.size+1))) ?_ (hn G1 _ _ _ h3 ((aK.drew G w).trans h4) hk)
 have hsz:(ByteArray.mk l.toArray).size=l.length:=by simp[ByteArray.size]
 have Ro:(Conv.stringToBytes e ⟨l.toArray⟩).run P w=.ok (.slice (some ⟨w.heap.size,0,none⟩) l.length cap) ((w.drew).alloc (.cells c e (c.size,c.size+1))):=by
  have hfr:∀(w0:World),(w0.alloc (.cells c e)).freeze {block:=w0.heap.size,off:=c.size} 1=w0.alloc (.cells c e (c.size,c.size+1)):=by
   intro w0
   unfold World.freeze World.alloc
   simp only[Nat.succ_ne_self,if_false]
   congr 1
   apply Array.ext
   ·simp
   ·grind
  have Mn:((w.drew).alloc (.cells c e)).shape? w.heap.size=some (e,c.size):=by
   unfold World.shape?
   rw[show((w.drew).alloc (.cells c e)).heap[w.heap.size]? =some (.cells c e) from heap_alloc_new w.drew _]
  simp only[Conv.stringToBytes,Sem.run_bind,run_choose,Question.forced,hsz,Bool.false_eq_true,if_false,Result.andThen_ok,newRow,run_newObj,Sem.run_pure,markStringish,run_shape]
  show((Sem.run P (match((w.drew).alloc (.cells c e)).shape? w.heap.size with|some (_,n)=>freeze {block:=w.heap.size,off:=n} 1|x=>pure ()) ((w.drew).alloc (.cells c e))).andThen fun a w'=>Result.ok (Value.slice (some {block:=w.heap.size,off:=0}) l.length cap) w')=_
  rw[Mn]
  simp only[run_freeze,Result.andThen_ok]
  exact congrArg _ (hfr w.drew)
 simp[execOp,e1,convert,underlying,hs,ht,he,Ro]
end
end Go.AB
end
