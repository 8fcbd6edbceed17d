/- A part of the proof: Open2, Open3, Open4, Zn. -/
import Derived.Test.YtkeagffgdajggaaGreatNu27
import Derived.ChangeCalls
import Derived.Test.YtkeagffgdajggaaGreatRows
import Derived.JoinedCond
set_option linter.unusedSimpArgs false
set_option linter.unusedVariables false
section
namespace Go.AB
open Go Go.RowKit Go.ChangeShapes Go.WideShapes
section
variable{P:Program}
theorem yB{H:Type}{enc:TypeId×Value->H}(hl:laidOutB P=true){W W':World}(hb:Below W.heap.size W W'):
 ∀{ts:List TypeId}{vs:List Value}{ds:List (DataW H)}{ps:List MemPlace},(∀t∈ts,P.readableRec t=true/\t<P.types.size)->DataW.TrodAll enc P W 0 (fun _=>true) true ts vs ds ps->
  DataW.TrodAll enc P W' 0 (fun b=>decide (b<W.heap.size)) true ts vs ds ps
 |[],[],[],_,_,h=>h
 |t::ts,v::vs,d::ds,_,hr,h=>by
  have hlt:=h.lt
  obtain⟨p,q,h1,h2,rfl⟩:=h
  have ht:=hr t List.mem_cons_self
  exact⟨p,q,Below.trod hl ht.1 ht.2 h1 hb fun x hx=>hlt x (List.mem_append_left _ hx),yB hl hb (fun t ht=>hr t (List.mem_cons_of_mem _ ht)) h2,rfl⟩
 |[],_::_,_,_,_,h=>h.elim
 |[],[],_::_,_,_,h=>h.elim
 |_::_,[],_,_,_,h=>h.elim
 |_::_,_::_,[],_,_,h=>h.elim
theorem WL{H:Type}{enc:TypeId×Value->H}{fn:Func}{s:ChangeSpec}{f:FuncId}{W:World}{args:Array Value}{ds gs:List (DataW H)}{before:List MemPlace}{tb:TypeId}
 (abu:s.vars=[])(rE:fn.resultTypes= #[tb])(htb:P.underlying tb=some .bool)(hl:laidOutB P=true)(hr:∀t∈fn.params.toList,P.readableRec t=true/\t<P.types.size)
 (ahm:∀ds:List (DataW H),ds.length=fn.params.toList.length->s.fn H ds={results:=[.lit (.bool true)],args:=ds})
 (hW:DataW.Whole enc P fn.params.toList s.vars false W args.toList ds gs before)
 (hc:Calls P f args W fun e w'=>e=.returned (.bool true)/\Below W.heap.size W w'):
 Calls P f args W fun e W'=>∃v,e=.returned v/\s.post enc P fn false true false false W args v W':=by
 refine hc.mono fun e W'⟨he,hb⟩=>⟨.bool true,he,?_⟩
 have hW':=hW
 obtain⟨p,q,hA,hV,rfl,hfz,hnd⟩:=hW
 rw[abu]at hV
 obtain⟨rfl,rfl⟩:=trodVars_none hV
 have hs:=ahm ds (trodAll_length hA).2
 refine⟨ds,[],_,[],p,[],hW',?_,?_,?_,?_,fun h=>by cases h⟩
 ·rw[List.append_nil,hs,rE]
  exact trodAll_mk1 (shut_bool htb true)
 ·rw[List.append_nil,hs]
  exact yB hl hb hr hA
 ·rw[List.append_nil,hs,abu]
  exact rfl
 ·exact World.keptBut_mono (fun p hp=>hp.elim) (hb.frame fun _=>False)
def Fa(P:Program)(fs:List (TypeId×Nat))(o:Nat){α:Type}(n:Nat)(C:α->List AV)(wf:α->Prop):Prop:=
 ∀(H:Type)(enc:TypeId×Value->H)(w:World)(fuel:Nat)(cs:List Value),(∀f∈fs,∃x,DataW.trod enc P w 0 (fun _=>true) true fuel f.1 ((cs.drop f.2).take (P.cellsOf f.1))=some x)->
  ∃a:α,wf a/\Fl (C a)/\∃N0,∀N,N0<=N->Fj w (uc N w) (C a) ((cs.drop o).take n)
theorem He{o:Nat}:Fa P [] o 0 (fun _:Unit=>[]) fun _=>True:=fun _ _ _ _ _ _=>⟨(),trivial,(fun _ h=>absurd h List.not_mem_nil),0,fun _ _=>⟨by simp,fun j a v h=>by simp at h⟩⟩
theorem nJ{t:TypeId}{o n1 n2:Nat}{fs:List (TypeId×Nat)}{α β:Type}{C1:α->List AV}{C2:β->List AV}{wf1:α->Prop}{wf2:β->Prop}
 (h1:kb P t n1 C1 wf1)(hc:P.cellsOf t=n1)(h2:Fa P fs (o+n1) n2 C2 wf2):Fa P ((t,o)::fs) o (n1+n2) (fun p:α×β=>C1 p.1++C2 p.2) fun p=>wf1 p.1/\wf2 p.2:=by
 intro H enc w fuel cs h
 obtain⟨x,hx⟩:=h _ List.mem_cons_self
 obtain⟨_,a,ha,hfa,N1,hN1⟩:=h1 H enc w fuel _ x hx
 obtain⟨b,hb,hfb,N2,hN2⟩:=h2 H enc w fuel cs fun f hf=>h f (List.mem_cons_of_mem _ hf)
 refine⟨(a,b),⟨ha,hb⟩,fun c hc=>(List.mem_append.1 hc).elim (hfa c) (hfb c),max N1 N2,fun N hN=>?_⟩
 rw[List.take_add,List.drop_drop]
 refine Fj.append ?_ (hN2 N (by omega))
 rw[<-hc]
 exact hN1 N (by omega)
theorem kb.map{t:TypeId}{n:Nat}{α β:Type}{C:α->List AV}{wf:α->Prop}(h:kb P t n C wf){C':β->List AV}{wf':β->Prop}(g:α->β)(hC:∀a,C' (g a)=C a)(hw:∀a,wf a->wf' (g a)):kb P t n C' wf':=by
 intro H enc w fuel cs x hx
 obtain⟨h1,a,h2,h3,N0,h4⟩:=h H enc w fuel cs x hx
 exact⟨h1,g a,hw a h2,by rw[hC];exact h3,N0,by rw[hC];exact h4⟩
theorem MK{t:TypeId}{fs:Array Field}{n:Nat}{α:Type}{C:α->List AV}{wf:α->Prop}(ht:P.underlying t=some (.struct fs))(hn:P.cellsOf t=n)
 (hf:Fa P (fs.toList.map fun f=>(f.type,f.offset)) 0 n C wf):kb P t n C wf:=by
 intro H enc w fuel cs x h
 obtain⟨xs,m,_,_,hl,hxl,hel⟩:=DataW.trod_struct ht h
 obtain⟨a,ha,hfa,N0,hN⟩:=hf H enc w m cs fun f hf=>by
  obtain⟨g,hg,rfl⟩:=List.mem_map.1 hf
  obtain⟨i,hi⟩:=List.getElem?_of_mem hg
  have h1:=hel i g (by rw[<-Array.getElem?_toList];exact hi)
  have hi':=(List.getElem?_eq_some_iff.1 hi).1
  rw[List.getElem?_eq_getElem (by simpa[hxl]using hi')]at h1
  exact⟨_,h1⟩
 refine⟨by rw[hl,hn],a,ha,hfa,N0,fun N h=>?_⟩
 have:=hN N h
 rwa[List.drop_zero,List.take_of_length_le (by omega)]at this
section
variable{H:Type}{enc:TypeId×Value->H}{w:World}{t:TypeId}{α:Type}[aK α]{wf:α->Prop}{b0:Nat}{v:Value}{d:DataW H}{ps:List MemPlace}
theorem W6(hs:(∃fs,P.underlying t=some (.struct fs))\/∃n e,P.underlying t=some (.array n e))(he:ux P t α wf)(qc:Value.okWide P w .any b0 t v)(h:DataW.Trod enc P w 0 (fun _=>true) true t v d ps):
 ∃a:α,wf a/\∃N0,∀N,N0<=N->VR w (uc N w) (.agg (aK.cells a)) v:=by
 have hv:∃cs,v=.agg cs:=by
  unfold Value.okWide at qc
  rcases hs with⟨fs,hs⟩|⟨n,e,hs⟩<;>rw[hs]at qc<;>obtain⟨cs,rfl,_⟩:=qc<;>exact⟨cs,rfl⟩
 obtain⟨cs,rfl⟩:=hv
 obtain⟨fuel,hf⟩:=h
 obtain⟨_,a,ha,hfl,N0,hN⟩:=he H enc w fuel _ _ hf
 refine⟨a,ha,N0,fun N h=>?_⟩
 have h1:=hN N h
 exact .agg _ _ hfl (by simpa[Value.cells]using h1.1) fun j c v h2 h3=>h1.2 j c v h2 (by simpa[Value.cells]using h3)
theorem RD(hs:∀cs,v≠.agg cs)(he:ux P t α wf)(h:DataW.Trod enc P w 0 (fun _=>true) true t v d ps):
 ∃a:α,wf a/\∃N0,∀N,N0<=N->Fj w (uc N w) (aK.cells a) [v]:=by
 obtain⟨fuel,hf⟩:=h
 obtain⟨_,a,ha,_,N0,hN⟩:=he H enc w fuel _ _ hf
 refine⟨a,ha,N0,fun N h=>?_⟩
 have h1:=hN N h
 have:v.cells.toList=[v]:=by cases v<;>first|rfl|exact absurd rfl (hs _)
 rwa[this]at h1
theorem Fj.head{R:Nat->Nat}{a:AV}(h:Fj w R [a] [v]):VR w R a v:=h.2 0 a v rfl rfl
theorem W7(ht:P.underlying t=some (.int .i64))(qc:Value.okWide P w .any b0 t v)(h:DataW.Trod enc P w 0 (fun _=>true) true t v d ps):
 ∃n:Int,(-9223372036854775808<=n/\n<=9223372036854775807)/\∃N0,∀N,N0<=N->VR w (uc N w) (.int .i64 n) v:=by
 obtain⟨n,rfl,_⟩:=open_int ht qc h
 obtain⟨a,ha,N0,hN⟩:=RD (fun _ h=>by cases h) (xe ht) h
 exact⟨a,ha,N0,fun N h=>(hN N h).head⟩
end
theorem agj{w:World}{R:Nat->Nat}{a0 a1 a2:AV}{v0 v1 v2:Value}(h0:VR w R a0 v0)(h1:VR w R a1 v1)(h2:VR w R a2 v2):kH w R [a0,a1,a2] #[v0,v1,v2]:=⟨rfl,fun j a v k1 k2=>by match j,k1,k2 with|0,k1,k2=>(cases k1;cases k2;exact h0)|1,k1,k2=>(cases k1;cases k2;exact h1)|2,k1,k2=>(cases k1;cases k2;exact h2)⟩
end
end Go.AB
end
section
namespace Go.AB
open Go
def oQ(P:Program)(t:TypeId)(L:List (TypeId×Nat)):Bool:=match P.underlying t with
 |some (.struct fs)=>fs.toList.map (fun f=>(f.type,f.offset))==L
 |_=>false
theorem Ba{P:Program}{t:TypeId}{L:List (TypeId×Nat)}{n:Nat}{α:Type}{C:α->List AV}{wf:α->Prop}(hs:oQ P t L=true)(hn:P.cellsOf t=n)(hf:Fa P L 0 n C wf):kb P t n C wf:=by
 unfold oQ at hs
 split at hs
 ·rename_i fs ht
  have he:=eq_of_beq hs
  exact MK ht hn (by rw[he];exact hf)
 ·cases hs
end Go.AB
end
section
namespace Go.AB
open Go Go.RowKit Go.ChangeShapes Go.WideShapes
def gj(K:Nat)(P:Program)(t:TypeId){α:Type}(n:Nat)(C:α->List AV)(wf:α->Prop):Prop:=
 ∀(H:Type)(enc:TypeId×Value->H)(w:World)(fuel:Nat)(cs:List Value)(x:DataW H×List MemPlace),fuel<=K->DataW.trod enc P w 0 (fun _=>true) true fuel t cs=some x->
  cs.length=n/\∃a:α,wf a/\Fl (C a)/\∃N0,∀N,N0<=N->Fj w (uc N w) (C a) cs
def EN(K:Nat)(P:Program)(fs:List (TypeId×Nat))(o:Nat){α:Type}(n:Nat)(C:α->List AV)(wf:α->Prop):Prop:=
 ∀(H:Type)(enc:TypeId×Value->H)(w:World)(fuel:Nat)(cs:List Value),fuel<=K->(∀f∈fs,∃x,DataW.trod enc P w 0 (fun _=>true) true fuel f.1 ((cs.drop f.2).take (P.cellsOf f.1))=some x)->
  ∃a:α,wf a/\Fl (C a)/\∃N0,∀N,N0<=N->Fj w (uc N w) (C a) ((cs.drop o).take n)
section
variable{P:Program}{t:TypeId}
theorem kb.b{n:Nat}{α:Type}{C:α->List AV}{wf:α->Prop}(h:kb P t n C wf)(K:Nat):gj K P t n C wf:=fun H enc w fuel cs x _ hx=>h H enc w fuel cs x hx
theorem gj.all{n:Nat}{α:Type}{C:α->List AV}{wf:α->Prop}(h:∀K,gj K P t n C wf):kb P t n C wf:=fun H enc w fuel cs x hx=>h fuel H enc w fuel cs x (Nat.le_refl _) hx
theorem gj.le{n:Nat}{α:Type}{C:α->List AV}{wf:α->Prop}{K K':Nat}(h:gj K P t n C wf)(hk:K'<=K):gj K' P t n C wf:=fun H enc w fuel cs x hf hx=>h H enc w fuel cs x (Nat.le_trans hf hk) hx
theorem gj.zero{n:Nat}{α:Type}{C:α->List AV}{wf:α->Prop}:gj 0 P t n C wf:=fun H enc w fuel cs x hf hx=>by
 have:fuel=0:=by omega
 subst this
 simp[DataW.trod]at hx
theorem gj.map{K n:Nat}{α β:Type}{C:α->List AV}{wf:α->Prop}(h:gj K P t n C wf){C':β->List AV}{wf':β->Prop}(g:α->β)(hC:∀a,C' (g a)=C a)(hw:∀a,wf a->wf' (g a)):gj K P t n C' wf':=by
 intro H enc w fuel cs x hf hx
 obtain⟨h1,a,h2,h3,N0,h4⟩:=h H enc w fuel cs x hf hx
 exact⟨h1,g a,hw a h2,by rw[hC];exact h3,N0,by rw[hC];exact h4⟩
theorem PM{K o:Nat}:EN K P [] o 0 (fun _:Unit=>[]) fun _=>True:=fun _ _ _ _ _ _ _=>⟨(),trivial,(fun _ h=>absurd h List.not_mem_nil),0,fun _ _=>⟨by simp,fun j a v h=>by simp at h⟩⟩
theorem oN{K:Nat}{t:TypeId}{o n1 n2:Nat}{fs:List (TypeId×Nat)}{α β:Type}{C1:α->List AV}{C2:β->List AV}{wf1:α->Prop}{wf2:β->Prop}
 (h1:gj K P t n1 C1 wf1)(hc:P.cellsOf t=n1)(h2:EN K P fs (o+n1) n2 C2 wf2):EN K P ((t,o)::fs) o (n1+n2) (fun p:α×β=>C1 p.1++C2 p.2) fun p=>wf1 p.1/\wf2 p.2:=by
 intro H enc w fuel cs hk h
 obtain⟨x,hx⟩:=h _ List.mem_cons_self
 obtain⟨_,a,ha,hfa,N1,hN1⟩:=h1 H enc w fuel _ x hk hx
 obtain⟨b,hb,hfb,N2,hN2⟩:=h2 H enc w fuel cs hk fun f hf=>h f (List.mem_cons_of_mem _ hf)
 refine⟨(a,b),⟨ha,hb⟩,fun c hc=>(List.mem_append.1 hc).elim (hfa c) (hfb c),max N1 N2,fun N hN=>?_⟩
 rw[List.take_add,List.drop_drop]
 refine Fj.append ?_ (hN2 N (by omega))
 rw[<-hc]
 exact hN1 N (by omega)
theorem JA{K:Nat}{L:List (TypeId×Nat)}{n:Nat}{α:Type}{C:α->List AV}{wf:α->Prop}(hs:oQ P t L=true)(hn:P.cellsOf t=n)(hf:EN K P L 0 n C wf):gj (K+1) P t n C wf:=by
 unfold oQ at hs
 split at hs
 ·rename_i fs ht
  have he:=eq_of_beq hs
  subst he
  intro H enc w fuel cs x hk h
  obtain⟨xs,m,rfl,_,hl,hxl,hel⟩:=DataW.trod_struct ht h
  obtain⟨a,ha,hfa,N0,hN⟩:=hf H enc w m cs (by omega) fun f hf=>by
   obtain⟨g,hg,rfl⟩:=List.mem_map.1 hf
   obtain⟨i,hi⟩:=List.getElem?_of_mem hg
   have h1:=hel i g (by rw[<-Array.getElem?_toList];exact hi)
   have hi':=(List.getElem?_eq_some_iff.1 hi).1
   rw[List.getElem?_eq_getElem (by simpa[hxl]using hi')]at h1
   exact⟨_,h1⟩
  refine⟨by rw[hl,hn],a,ha,hfa,N0,fun N h=>?_⟩
  have:=hN N h
  rwa[List.drop_zero,List.take_of_length_le (by omega)]at this
 ·cases hs
theorem R4{w:World}{α:Type}[aK α]{wf:α->Prop}{a:Addr}{len cap:Nat}(hl:len<=cap)(hm:cap<=maxLen)
 (each:∀i,i<len->∃x:α×List Value,wf x.1/\Fl (aK.cells x.1)/\w.cells? 0 (a.add (i*aK.w α)) (aK.w α)=some x.2/\∃N0,∀N,N0<=N->Fj w (uc N w) (aK.cells x.1) x.2):
 ∃l:List α,(l.length<=maxLen/\∀a∈l,wf a)/\Fl [.sl false (aK.w α) l.length (flat l)]/\∃N0,∀N,N0<=N->Fj w (uc N w) [.sl false (aK.w α) l.length (flat l)] [.slice (some a) len cap]:=by
 have hw:0<aK.w α:=aK.pos
 rcases Nat.eq_zero_or_pos len with h0|h0
 ·subst h0
  exact⟨[],⟨Nat.zero_le _,fun _ h=>absurd h List.not_mem_nil⟩,yU rfl,0,fun N _=>.one (.sle _ _ _)⟩
 obtain⟨b,off,spot⟩:=a
 have ac3:spot=none/\b<w.heap.size:=by
  obtain⟨x,_,_,h2,_⟩:=each 0 h0
  obtain⟨_,h3,h4⟩:=World.cells?_some h2
  have h5:=h4 0 hw
  have hxl:0<x.2.length:=by omega
  rw[List.getElem?_eq_getElem hxl]at h5
  unfold World.cell? at h5
  have e1:(((⟨b,off,spot⟩:Addr).add (0*aK.w α)).add 0).block=b:=by
   unfold Addr.add;repeat' split
   all_goals rfl
  have e2:(((⟨b,off,spot⟩:Addr).add (0*aK.w α)).add 0).spot.isSome=spot.isSome:=by
   cases spot with
   |none=>unfold Addr.add;repeat' split
          all_goals simp_all
   |some q=>unfold Addr.add;repeat' split
            all_goals simp_all
  rw[e1,e2]at h5
  split at h5
  ·rename_i hh
   refine⟨?_,(Array.getElem?_eq_some_iff.1 hh).1⟩
   cases spot with
   |none=>rfl
   |some q=>simp at h5
  ·cases h5
 obtain⟨rfl,hb⟩:=ac3
 obtain⟨L,hL,hQ⟩:=CZ len each
 have hx:∀i,i<len->∃x,L[i]? =some x:=fun i hi=>⟨L[i]'(by omega),List.getElem?_eq_getElem (by omega)⟩
 obtain⟨N0,hN0⟩:=common (Q:=fun i N=>∀x,L[i]? =some x->Fj w (uc N w) (aK.cells x.1) x.2) len fun i hi=>by
  obtain⟨x,hx⟩:=hx i hi
  obtain⟨_,_,_,N0,h⟩:=hQ i x hx
  exact⟨N0,fun N hN y hy=>by rw[hx]at hy;cases hy;exact h N hN⟩
 have hwf:∀a∈L.map (·.1),wf a/\Fl (aK.cells a):=by
  intro a ha
  obtain⟨x,hx,rfl⟩:=List.mem_map.1 ha
  obtain⟨i,hi⟩:=List.getElem?_of_mem hx
  have:=hQ i x hi
  exact⟨this.1,this.2.1⟩
 have kg:∀(j:Nat)(c:AV),(flat (L.map (·.1)))[j]? =some c->∃v,w.cell? ⟨b,off+j,none⟩=some v/\∀N,N0<=N->VR w (uc N w) c v:=by
  intro j c hj
  have hjl:=(List.getElem?_eq_some_iff.1 hj).1
  rw[al,List.length_map,hL]at hjl
  have hi:j/aK.w α<len:=Nat.div_lt_of_lt_mul (by rw[Nat.mul_comm];exact hjl)
  have hr:j % aK.w α<aK.w α:=Nat.mod_lt _ hw
  have hje:j=j/aK.w α*aK.w α+j % aK.w α:=by rw[Nat.mul_comm];exact(Nat.div_add_mod _ _).symm
  obtain⟨x,hx⟩:=hx _ hi
  have h1:=VW (L.map (·.1)) (i:=j/aK.w α) (a:=x.1) (by rw[List.getElem?_map,hx];rfl) hr
  rw[<-hje,hj]at h1
  obtain⟨_,_,h2,_⟩:=hQ _ x hx
  obtain⟨_,h3,h4⟩:=World.cells?_some h2
  have h5:=h4 _ hr
  rw[add_plain,add_plain,Nat.add_assoc,<-hje]at h5
  refine⟨x.2[j % aK.w α]'(by omega),by rw[h5,List.getElem?_eq_getElem],fun N hN=>?_⟩
  exact(hN0 N hN _ hi x hx).2 _ _ _ h1.symm (List.getElem?_eq_getElem _)
 refine⟨L.map (·.1),⟨by rw[List.length_map,hL];omega,fun a ha=>(hwf a ha).1⟩,yU rfl,max N0 (off+len*aK.w α),fun N hN=>.one ?_⟩
 rw[List.length_map,hL]
 refine .sl false (aK.w α) len _ b off cap (fun j=>(w.cell? ⟨b,off+j,none⟩).getD default) ?_ ?_ ?_ hl ?_ ?_
 ·intro c hcm
  unfold flat at hcm
  obtain⟨l,hl,hcl⟩:=List.mem_flatten.1 hcm
  obtain⟨a,ha,rfl⟩:=List.mem_map.1 hl
  exact(hwf a ha).2 c hcl
 ·rw[al,List.length_map,hL]
 ·rw[al,List.length_map,hL]
  unfold uc
  rw[if_pos hb];omega
 ·intro j c hj
  obtain⟨v,h1,_⟩:=kg j c hj
  rw[h1];rfl
 ·intro j c hj
  obtain⟨v,h1,h2⟩:=kg j c hj
  simp only[h1,Option.getD_some];exact h2 N (by omega)
theorem Bb{K:Nat}{e:TypeId}{α:Type}[aK α]{wf:α->Prop}(ht:P.underlying t=some (.slice e))(hc:P.cellsOf e=aK.w α)(he:gj K P e (aK.w α) (aK.cells:α->List AV) wf):
 gj (K+1) P t 1 (fun l:List α=>[.sl false (aK.w α) l.length (flat l)]) fun l=>l.length<=maxLen/\∀a∈l,wf a:=by
 intro H enc w fuel cs x hk h
 rcases DataW.trod_slice ht h with⟨rfl,_⟩|⟨a,len,cap,elems,rest,n,rfl,rfl,_,_,hl,hm,hlen,hel,_⟩
 ·exact⟨rfl,[],⟨Nat.zero_le _,fun _ h=>absurd h List.not_mem_nil⟩,yU rfl,0,fun N _=>.one (.slnil _ _)⟩
 ·refine⟨rfl,R4 hl hm fun i hi=>?_⟩
  have h1:=hel i hi
  rw[hc,List.getElem?_eq_getElem (by omega),Option.bind_eq_some_iff]at h1
  obtain⟨cs,h2,h3⟩:=h1
  obtain⟨_,x,h4,h5,h6⟩:=he H enc w n cs _ (by omega) h3
  exact⟨(x,cs),h4,h5,h2,h6⟩
theorem Bc{e:TypeId}{α:Type}[aK α]{wf:α->Prop}(ht:P.underlying t=some (.slice e))(hc:P.cellsOf e=aK.w α)(he:ux P e α wf):
 kb P t 1 (fun l:List α=>[.sl false (aK.w α) l.length (flat l)]) fun l=>l.length<=maxLen/\∀a∈l,wf a:=
 gj.all fun K=>(Bb ht hc (kb.b he K)).le (Nat.le_succ K)
theorem LV{L:List (TypeId×Nat)}(hs:oQ P t L=true):∃fs,P.underlying t=some (.struct fs):=by
 unfold oQ at hs
 split at hs
 ·rename_i fs ht;exact⟨fs,ht⟩
 ·cases hs
theorem okWide_slice{w:World}{e:TypeId}{b0:Nat}{v:Value}(ht:P.underlying t=some (.slice e))(qc:Value.okWide P w .any b0 t v):∀cs,v≠.agg cs:=by
 intro cs h
 subst h
 unfold Value.okWide Cell.okWide Cell.ok at qc
 rw[ht]at qc
 exact qc
theorem W8{H:Type}{enc:TypeId×Value->H}{w:World}{e:TypeId}{α:Type}[aK α]{wf:α->Prop}{v:Value}{d:DataW H}{ps:List MemPlace}
 (ht:P.underlying t=some (.slice e))(hc:P.cellsOf e=aK.w α)(he:ux P e α wf)(h:DataW.Trod enc P w 0 (fun _=>true) true t v d ps)(hv:∀cs,v≠.agg cs):
 ∃l:List α,(l.length<=maxLen/\∀a∈l,wf a)/\∃N0,∀N,N0<=N->VR w (uc N w) (.sl false (aK.w α) l.length (flat l)) v:=by
 obtain⟨fuel,hf⟩:=h
 obtain⟨_,l,hl,_,N0,hN⟩:=Bc ht hc he H enc w fuel _ _ hf
 have ja:v.cells.toList=[v]:=by cases v<;>first|rfl|exact absurd rfl (hv _)
 refine⟨l,hl,N0,fun N h=>?_⟩
 have:=hN N h
 rw[ja]at this
 exact this.head
end
end Go.AB
end
section
set_option linter.unusedSimpArgs false
namespace Go.AB
open Go Go.ChangeShapes Go.WideShapes Go.ChangeAt Go.RowKit Go.Proofs.YtkeagffgdajggaaGreat Go.Proofs
open Go.Proofs.Tryz (prog)
inductive l5:aa->Prop where
 |mk (x:aa) (h1:-9223372036854775808<=x.Kind/\x.Kind<=9223372036854775807) (h2:-9223372036854775808<=x.N/\x.N<=9223372036854775807) (h3:x.S.b.length<=maxLen) (h4:x.L.length<=maxLen) (h5:∀v∈x.L,l5 v):l5 x
theorem W9:ux prog 32 aa l5:=by
 refine gj.all fun K=>?_
 induction K using Nat.strongRecOn with|ind K ih=>
 cases K with
 |zero=>exact gj.zero
 |succ K=>
  have hs:gj K prog 30 1 (fun l:List aa=>[.sl false 4 l.length (flat l)]) (fun l=>l.length<=maxLen/\∀a∈l,l5 a):=by
   cases K with
   |zero=>exact gj.zero
   |succ k=>exact Bb (by kernel_rfl) (by kernel_rfl) (ih k (by omega))
  exact gj.map (JA (L:=[(3,0),(3,1),(9,2),(30,3)]) (by kernel_rfl) (by kernel_rfl) (oN ((xe (P:=prog) (t:=3) (by kernel_rfl)).b K) (by kernel_rfl) (oN ((xe (P:=prog) (t:=3) (by kernel_rfl)).b K) (by kernel_rfl) (oN ((K8 (P:=prog) (t:=9) (by kernel_rfl)).b K) (by kernel_rfl) (oN hs (by kernel_rfl) PM)))))
   (fun p=>⟨p.1,p.2.1,p.2.2.1,p.2.2.2.1⟩) (fun p=>by rw[dG];rfl) (fun p h=>.mk _ h.1 h.2.1 h.2.2.1 h.2.2.2.1.1 h.2.2.2.1.2)
def rh(x:ag):Prop:=l5 x.V/\True/\x.Data.b.length<=maxLen/\True
theorem Xz:ux prog 62 ag rh:=
 kb.map (Ba (L:=[(32,0),(4,4),(9,5)]) (by kernel_rfl) (by kernel_rfl) (nJ W9 (by kernel_rfl) (nJ (RE (P:=prog) (t:=4) (by kernel_rfl)) (by kernel_rfl) (nJ (K8 (P:=prog) (t:=9) (by kernel_rfl)) (by kernel_rfl) He))))
  (fun p=>⟨p.1,p.2.1,p.2.2.1⟩) (fun p=>by first|rfl|(simp only[dG,ju];rfl)) (fun _ h=>h)
theorem Xv:kb prog 36 1 (fun l:List ag=>[.sl false 6 l.length (flat l)]) (fun l=>l.length<=maxLen/\∀a∈l,rh a):=Bc (by kernel_rfl) (by kernel_rfl) Xz
def Sh(x:aH):Prop:=(x.ae.length<=maxLen/\∀a∈x.ae,rh a)/\(-9223372036854775808<=x.cM/\x.cM<=9223372036854775807)/\True
theorem Xx:ux prog 38 aH Sh:=
 kb.map (Ba (L:=[(36,0),(3,1)]) (by kernel_rfl) (by kernel_rfl) (nJ Xv (by kernel_rfl) (nJ (xe (P:=prog) (t:=3) (by kernel_rfl)) (by kernel_rfl) He)))
  (fun p=>⟨p.1,p.2.1⟩) (fun p=>by first|rfl|(simp only[dG,IK];rfl)) (fun _ h=>h)
theorem um:ownKnob Tryz.prog.godebug=none:=by kernel_rfl
theorem sO:laidOutB Tryz.prog=true:=by kernel_rfl
theorem vM:Tryz.prog.underlying 4=some .bool:=by kernel_rfl
set_option maxRecDepth 100000 in
theorem uk{H:Type}{enc:TypeId×Value->H}{W:World}{base:Nat}{args:Array Value}{ds gs:List (DataW H)}{before:List MemPlace}
 (ahp:∀(j:Nat) t v,Tryz.f7.params[j]? =some t->args[j]? =some v->Value.okWide Tryz.prog W .any base t v)
 (hW:DataW.Whole enc Tryz.prog Tryz.f7.params.toList Rows.viewNumbersSpec.vars false W args.toList ds gs before):
 Calls Tryz.prog 7 args W fun e w'=>e=.returned (.bool true)/\Below W.heap.size W w':=by
 obtain⟨p,q,hA0,hV,rfl,hfz,hnd⟩:=hW
 have qc:=ahp
 have hA:DataW.TrodAll enc Tryz.prog W 0 (fun _=>true) true Tryz.f7.params.toList args.toList ds p:=hA0
 have hp:Tryz.f7.params= #[38,3,22]:=by kernel_rfl
 rw[hp]at hA qc
 obtain⟨v0,v1,v2,d0,d1,d2,p0,p1,p2,rfl,rfl,rfl,h0,h1,h2⟩:=trodAll_three hA
 obtain⟨x0,w0,N0,k0⟩:=W6 (.inl (LV (L:=[(36,0),(3,1)]) (by kernel_rfl))) Xx (qc 0 38 v0 rfl rfl) h0
 obtain⟨x1,w1,N1,k1⟩:=W7 (by kernel_rfl) (qc 1 3 v1 rfl rfl) h1
 obtain⟨x2,w2,N2,k2⟩:=W8 (by kernel_rfl) (by kernel_rfl) (XA (P:=prog) (t:=5) (by kernel_rfl)) h2 (okWide_slice (e:=5) (by kernel_rfl) (qc 2 22 v2 rfl rfl))
 refine Rp (max N0 (max N1 N2)) ?_ (agj (k0 _ (by omega)) (k1 _ (by omega)) (k2 _ (by omega)))
 exact(vL (sP x0 x1 x2)).app rfl
end Go.AB
namespace Go.Proofs.YtkeagffgdajggaaGreat
open Go.ChangeShapes Go.WideShapes Go.ChangeAt Go.RowKit
set_option maxRecDepth 100000 in
theorem zN(os:Os)(started:os.Started)(H:Type)(enc:TypeId×Value->H):
 ReturnsInHanded {} Tryz.checked os 7 .any (Rows.viewNumbersSpec.pre6 enc Tryz.prog Tryz.f7 Rows.viewNumbersRow.domain false) (Rows.viewNumbersSpec.post enc Tryz.prog Tryz.f7 false true false false):=by
 refine returnsInHanded_of_change (C:=Tryz.checked) AB.um started (by kernel_rfl) Tryz.func7
  (ChangeSpec.witness6 (enc:=enc) (C:=Tryz.checked) false ⟨#[],#[.agg #[.slice none 0 0,.int .i64 0],.int .i64 0,.slice none 0 0],[]⟩ 8 (by kernel_rfl) (by kernel_rfl) (by kernel_rfl) (by kernel_rfl)) ?_
 intro W base args ds gs before qc hW _ _
 exact AB.WL rfl (by kernel_rfl) AB.vM AB.sO (of_decide_eq_true (by kernel_rfl)) (fun ds h=>by
  match ds,h with
  |[_,_,_],_=>rfl) hW (AB.uk qc hW)
theorem fF{a b:Bool}(h:a=true)(k:b=true):(a&&b)=true:=by rw[h,k];rfl
theorem Ik:(Rows.viewNumbersRow.wf (OpenSpec.ofChange Rows.viewNumbersSpec))=true:=by kernel_rfl
theorem Il:(laidOutB Tryz.checked.prog)=true:=by kernel_rfl
theorem Im:(mapsRowed Tryz.checked.prog)=true:=by kernel_rfl
theorem Io:(Tryz.f7.params.all (Tryz.checked.prog.readableRec ·))=true:=by kernel_rfl
theorem Ip:(namedTie Tryz.checked.prog Rows.viewNumbersRow.named Rows.viewNumbersSpec.vars)=true:=by kernel_rfl
theorem Iq:((Rows.viewNumbersRow.stops==[]))=true:=by kernel_rfl
theorem Iu:((Tryz.checked.prog.stops==[]))=true:=by kernel_rfl
theorem Iv:((Rows.viewNumbersRow.knobs==[]))=true:=by kernel_rfl
theorem Iw:((Tryz.checked.prog.stopKnobs==[]))=true:=by kernel_rfl
theorem Ix:((Rows.viewNumbersRow.inPlace==Tryz.checked.prog.inPlace 7))=true:=by kernel_rfl
theorem Er:((Rows.viewNumbersRow.unfollowed==Tryz.checked.prog.unfollowed 7))=true:=by kernel_rfl
theorem Es:((Rows.viewNumbersRow.recurses==Tryz.checked.prog.recurses 7))=true:=by kernel_rfl
theorem Et:((Rows.viewNumbersRow.named==Tryz.checked.prog.varsNamed 7))=true:=by kernel_rfl
theorem Eu:((Rows.viewNumbersRow.maps==(Tryz.f7.params.toList++Rows.viewNumbersSpec.plain.varTypes Tryz.checked.prog).any (Tryz.checked.prog.mapsRec ·)))=true:=by kernel_rfl
theorem Ev:((Rows.viewNumbersRow.ifaces==(Tryz.f7.params.toList++Rows.viewNumbersSpec.plain.varTypes Tryz.checked.prog).any (Tryz.checked.prog.ifacesRec ·)))=true:=by kernel_rfl
theorem Ew:((Rows.viewNumbersRow.mapsOut==Tryz.checked.prog.mapsAmong Tryz.f7.resultTypes.toList))=true:=by kernel_rfl
theorem Ex:((Rows.viewNumbersRow.loops==(Tryz.f7.params.toList++Rows.viewNumbersSpec.plain.varTypes Tryz.checked.prog).any (Tryz.checked.prog.loopsFrom ·)))=true:=by kernel_rfl
theorem Ey:((Rows.viewNumbersRow.wideKeys==(Tryz.f7.params.toList++Rows.viewNumbersSpec.plain.varTypes Tryz.checked.prog++Tryz.f7.resultTypes.toList).any (Tryz.checked.prog.wideKeysFrom ·)))=true:=by kernel_rfl
theorem Ez:(Rows.viewNumbersSpec.vars.all (Tryz.checked.prog.varReadable ·))=true:=by kernel_rfl
theorem EA:(Tryz.f7.resultTypes.all (fun t=>Tryz.checked.prog.readableRec t&&decide (t<Tryz.checked.prog.types.size)))=true:=by kernel_rfl
theorem EB:((Rows.viewNumbersRow.ifacesOut==Tryz.f7.resultTypes.toList.any (Tryz.checked.prog.ifacesRec ·)))=true:=by kernel_rfl
theorem EC:((Rows.viewNumbersRow.loopsOut==Tryz.f7.resultTypes.toList.any (Tryz.checked.prog.loopsFrom ·)))=true:=by kernel_rfl
theorem ED:((Rows.viewNumbersRow.plainKeys==Tryz.checked.prog.plainKeys))=true:=by kernel_rfl
theorem EE:(Rows.viewNumbersRow.shortTexts.isNone)=true:=by kernel_rfl
theorem EF:(Tryz.checked.prog.stopsHeard)=true:=by kernel_rfl
theorem EG:(Tryz.checked.prog.mayEnter)=true:=by kernel_rfl
theorem EH:((Rows.viewNumbersRow.lifted==Tryz.checked.prog.liftsFinal))=true:=by kernel_rfl
theorem EI:((Tryz.checked.prog.make==some Rows.viewNumbersRow.make))=true:=by kernel_rfl
theorem EJ:((Rows.viewNumbersRow.kinds==(if Rows.viewNumbersRow.domain.isEmpty then[]else Tryz.f7.params.toList.map fun t=>match Tryz.checked.prog.underlying t with|some (.int k)=>some k|_=>none)))=true:=by kernel_rfl
theorem EK:((Rows.viewNumbersRow.pinned==Rows.viewNumbersRow.pinnedBy))=true:=by kernel_rfl
theorem EL:((Rows.viewNumbersRow.veiled==(Tryz.f7.params.toList++Rows.viewNumbersSpec.plain.varTypes Tryz.checked.prog++Tryz.f7.resultTypes.toList).any (Tryz.checked.prog.veiledRec ·)))=true:=by kernel_rfl
theorem EM:(Rows.viewNumbersRow.veiledFits Tryz.checked.prog Tryz.f7.params.toList (Tryz.f7.params.toList++Rows.viewNumbersSpec.plain.varTypes Tryz.checked.prog++Tryz.f7.resultTypes.toList))=true:=by kernel_rfl
set_option maxRecDepth 100000 in
theorem zM:joinedFacts Tryz.checked.prog 7 Tryz.f7 Rows.viewNumbersSpec Rows.viewNumbersRow=true:=(fF (fF (fF (fF (fF (fF (fF (fF (fF (fF (fF (fF (fF (fF (fF (fF (fF (fF (fF (fF (fF (fF (fF (fF (fF (fF (fF (fF (fF (fF (fF Ik Il) Im) Io) Ip) Iq) Iu) Iv) Iw) Ix) Er) Es) Et) Eu) Ev) Ew) Ex) Ey) Ez) EA) EB) EC) ED) EE) EF) EG) EH) EI) EJ) EK) EL) EM)
theorem viewNumbers_holds:Rows.ViewNumbersSaid:=
 OpenClaim.holds_of_wide 7 Tryz.f7 rfl rfl rfl rfl rfl rfl rfl ⟨rfl,rfl,rfl,rfl,rfl⟩ rfl rfl rfl rfl rfl (by kernel_rfl) Tryz.func7 zM
  (of_decide_eq_true (by kernel_rfl)) (by unfold Func.isWrapper;first|(rw[if_pos (by decide+kernel)];kernel_rfl)|(rw[if_neg (by decide+kernel)];exact⟨rfl,rfl⟩))
  (fun os started H enc _=>zN os started H enc)
end Go.Proofs.YtkeagffgdajggaaGreat
end
