/- A part of the proof: Open4, Zt. -/
import Derived.Test.YtkeagffgdajggaaGreatT27
import Derived.Test.YtkeagffgdajggaaGreatRows
import Derived.JoinedCond
set_option linter.unusedSimpArgs false
set_option linter.unusedVariables false
section
namespace Go.AB
open Go Go.RowKit Go.ChangeShapes Go.WideShapes
def fx(K:Nat)(P:Program)(t:TypeId){α:Type}(n:Nat)(C:α→List AV)(wf:α→Prop):Prop:=
 ∀(H:Type)(enc:TypeId×Value→H)(w:World)(fuel:Nat)(cs:List Value)(x:DataW H×List MemPlace),fuel≤K→DataW.trod enc P w 0 (fun _=>true) true fuel t cs=some x→
  cs.length=n∧∃a:α,wf a∧Fl (C a)∧∃N0,∀N,N0≤N→Jt w (wL N w) (C a) cs
def DY(K:Nat)(P:Program)(fs:List (TypeId×Nat))(o:Nat){α:Type}(n:Nat)(C:α→List AV)(wf:α→Prop):Prop:=
 ∀(H:Type)(enc:TypeId×Value→H)(w:World)(fuel:Nat)(cs:List Value),fuel≤K→(∀f∈fs,∃x,DataW.trod enc P w 0 (fun _=>true) true fuel f.1 ((cs.drop f.2).take (P.cellsOf f.1))=some x)→
  ∃a:α,wf a∧Fl (C a)∧∃N0,∀N,N0≤N→Jt w (wL N w) (C a) ((cs.drop o).take n)
section
variable{P:Program}{t:TypeId}
theorem kX.b{n:Nat}{α:Type}{C:α→List AV}{wf:α→Prop}(h:kX P t n C wf)(K:Nat):fx K P t n C wf:=fun H enc w fuel cs x _ hx=>h H enc w fuel cs x hx
theorem fx.all{n:Nat}{α:Type}{C:α→List AV}{wf:α→Prop}(h:∀K,fx K P t n C wf):kX P t n C wf:=fun H enc w fuel cs x hx=>h fuel H enc w fuel cs x (Nat.le_refl _) hx
theorem fx.le{n:Nat}{α:Type}{C:α→List AV}{wf:α→Prop}{K K':Nat}(h:fx K P t n C wf)(hk:K'≤K):fx K' P t n C wf:=fun H enc w fuel cs x hf hx=>h H enc w fuel cs x (Nat.le_trans hf hk) hx
theorem fx.zero{n:Nat}{α:Type}{C:α→List AV}{wf:α→Prop}:fx 0 P t n C wf:=fun H enc w fuel cs x hf hx=>by
 have:fuel=0:=by omega
 subst this
 simp[DataW.trod]at hx
theorem fx.map{K n:Nat}{α β:Type}{C:α→List AV}{wf:α→Prop}(h:fx K P t n C wf){C':β→List AV}{wf':β→Prop}(g:α→β)(hC:∀a,C' (g a)=C a)(hw:∀a,wf a→wf' (g a)):fx K P t n C' wf':=by
 intro H enc w fuel cs x hf hx
 obtain⟨h1,a,h2,h3,N0,h4⟩:=h H enc w fuel cs x hf hx
 exact⟨h1,g a,hw a h2,by rw[hC];exact h3,N0,by rw[hC];exact h4⟩
theorem NX{K o:Nat}:DY K P [] o 0 (fun _:Unit=>[]) fun _=>True:=fun _ _ _ _ _ _ _=>⟨(),trivial,(fun _ h=>absurd h List.not_mem_nil),0,fun _ _=>⟨by simp,fun j a v h=>by simp at h⟩⟩
theorem mX{K:Nat}{t:TypeId}{o n1 n2:Nat}{fs:List (TypeId×Nat)}{α β:Type}{C1:α→List AV}{C2:β→List AV}{wf1:α→Prop}{wf2:β→Prop}
 (h1:fx K P t n1 C1 wf1)(hc:P.cellsOf t=n1)(h2:DY K P fs (o+n1) n2 C2 wf2):DY K P ((t,o)::fs) o (n1+n2) (fun p:α×β=>C1 p.1++C2 p.2) fun p=>wf1 p.1∧wf2 p.2:=by
 intro H enc w fuel cs hk h
 obtain⟨x,hx⟩:=h _ List.mem_cons_self
 obtain⟨_,a,ha,hfa,N1,hN1⟩:=h1 H enc w fuel _ x hk hx
 obtain⟨b,hb,hfb,N2,hN2⟩:=h2 H enc w fuel cs hk fun f hf=>h f (List.mem_cons_of_mem _ hf)
 refine⟨(a,b),⟨ha,hb⟩,fun c hc=>(List.mem_append.1 hc).elim (hfa c) (hfb c),max N1 N2,fun N hN=>?_⟩
 rw[List.take_add,List.drop_drop]
 refine Jt.append ?_ (hN2 N (by omega))
 rw[←hc]
 exact hN1 N (by omega)
theorem Ih{K:Nat}{L:List (TypeId×Nat)}{n:Nat}{α:Type}{C:α→List AV}{wf:α→Prop}(hs:nf P t L=true)(hn:P.cellsOf t=n)(hf:DY K P L 0 n C wf):fx (K+1) P t n C wf:=by
 unfold nf at hs
 split at hs
 ·rename_i fs ht
  have he:=eq_of_beq hs
  subst he
  intro H enc w fuel cs x hk h
  obtain⟨xs,m,rfl,_,hl,hxl,hel⟩:=DataW.trod_struct ht h
  obtain⟨a,ha,hfa,N0,hN⟩:=hf H enc w m cs (by omega) fun f hf=>by
   obtain⟨g,hg,rfl⟩:=List.mem_map.1 hf
   obtain⟨i,hi⟩:=List.getElem?_of_mem hg
   have h1:=hel i g (by rw[←Array.getElem?_toList];exact hi)
   have hi':=(List.getElem?_eq_some_iff.1 hi).1
   rw[List.getElem?_eq_getElem (by simpa[hxl]using hi')]at h1
   exact⟨_,h1⟩
  refine⟨by rw[hl,hn],a,ha,hfa,N0,fun N h=>?_⟩
  have:=hN N h
  rwa[List.drop_zero,List.take_of_length_le (by omega)]at this
 ·cases hs
theorem Qe{w:World}{α:Type}[aH α]{wf:α→Prop}{a:Addr}{len cap:Nat}(hl:len≤cap)(hm:cap≤maxLen)
 (each:∀i,i<len→∃x:α×List Value,wf x.1∧Fl (aH.cells x.1)∧w.cells? 0 (a.add (i*aH.w α)) (aH.w α)=some x.2∧∃N0,∀N,N0≤N→Jt w (wL N w) (aH.cells x.1) x.2):
 ∃l:List α,(l.length≤maxLen∧∀a∈l,wf a)∧Fl [.sl false (aH.w α) l.length (flat l)]∧∃N0,∀N,N0≤N→Jt w (wL N w) [.sl false (aH.w α) l.length (flat l)] [.slice (some a) len cap]:=by
 have hw:0<aH.w α:=aH.pos
 rcases Nat.eq_zero_or_pos len with h0|h0
 ·subst h0
  exact⟨[],⟨Nat.zero_le _,fun _ h=>absurd h List.not_mem_nil⟩,Bi rfl,0,fun N _=>.one (.sle _ _ _)⟩
 obtain⟨b,off,spot⟩:=a
 have hplain:spot=none∧b<w.heap.size:=by
  obtain⟨x,_,_,h2,_⟩:=each 0 h0
  obtain⟨_,h3,h4⟩:=World.cells?_some h2
  have h5:=h4 0 hw
  have hxl:0<x.2.length:=by omega
  rw[List.getElem?_eq_getElem hxl]at h5
  unfold World.cell? at h5
  have e1:(((⟨b,off,spot⟩:Addr).add (0*aH.w α)).add 0).block=b:=by
   unfold Addr.add;repeat' split
   all_goals rfl
  have e2:(((⟨b,off,spot⟩:Addr).add (0*aH.w α)).add 0).spot.isSome=spot.isSome:=by
   cases spot with
   |none=>unfold Addr.add;repeat' split
          all_goals simp_all
   |some q=>unfold Addr.add;repeat' split
            all_goals simp_all
  rw[e1,e2]at h5
  split at h5
  ·rename_i hh
   refine⟨?_,(Array.getElem?_eq_some_iff.1 hh).1⟩
   cases spot with
   |none=>rfl
   |some q=>simp at h5
  ·cases h5
 obtain⟨rfl,hb⟩:=hplain
 obtain⟨L,hL,hQ⟩:=Cu len each
 have hx:∀i,i<len→∃x,L[i]? =some x:=fun i hi=>⟨L[i]'(by omega),List.getElem?_eq_getElem (by omega)⟩
 obtain⟨N0,hN0⟩:=common (Q:=fun i N=>∀x,L[i]? =some x→Jt w (wL N w) (aH.cells x.1) x.2) len fun i hi=>by
  obtain⟨x,hx⟩:=hx i hi
  obtain⟨_,_,_,N0,h⟩:=hQ i x hx
  exact⟨N0,fun N hN y hy=>by rw[hx]at hy;cases hy;exact h N hN⟩
 have hwf:∀a∈L.map (·.1),wf a∧Fl (aH.cells a):=by
  intro a ha
  obtain⟨x,hx,rfl⟩:=List.mem_map.1 ha
  obtain⟨i,hi⟩:=List.getElem?_of_mem hx
  have:=hQ i x hi
  exact⟨this.1,this.2.1⟩
 have hget:∀(j:Nat)(c:AV),(flat (L.map (·.1)))[j]? =some c→∃v,w.cell? ⟨b,off+j,none⟩=some v∧∀N,N0≤N→VR w (wL N w) c v:=by
  intro j c hj
  have hjl:=(List.getElem?_eq_some_iff.1 hj).1
  rw[ao,List.length_map,hL]at hjl
  have hi:j/aH.w α<len:=Nat.div_lt_of_lt_mul (by rw[Nat.mul_comm];exact hjl)
  have hr:j % aH.w α<aH.w α:=Nat.mod_lt _ hw
  have hje:j=j/aH.w α*aH.w α+j % aH.w α:=by rw[Nat.mul_comm];exact(Nat.div_add_mod _ _).symm
  obtain⟨x,hx⟩:=hx _ hi
  have h1:=TA (L.map (·.1)) (i:=j/aH.w α) (a:=x.1) (by rw[List.getElem?_map,hx];rfl) hr
  rw[←hje,hj]at h1
  obtain⟨_,_,h2,_⟩:=hQ _ x hx
  obtain⟨_,h3,h4⟩:=World.cells?_some h2
  have h5:=h4 _ hr
  rw[add_plain,add_plain,Nat.add_assoc,←hje]at h5
  refine⟨x.2[j % aH.w α]'(by omega),by rw[h5,List.getElem?_eq_getElem],fun N hN=>?_⟩
  exact(hN0 N hN _ hi x hx).2 _ _ _ h1.symm (List.getElem?_eq_getElem _)
 refine⟨L.map (·.1),⟨by rw[List.length_map,hL];omega,fun a ha=>(hwf a ha).1⟩,Bi rfl,max N0 (off+len*aH.w α),fun N hN=>.one ?_⟩
 rw[List.length_map,hL]
 refine .sl false (aH.w α) len _ b off cap (fun j=>(w.cell? ⟨b,off+j,none⟩).getD default) ?_ ?_ ?_ hl ?_ ?_
 ·intro c hcm
  unfold flat at hcm
  obtain⟨l,hl,hcl⟩:=List.mem_flatten.1 hcm
  obtain⟨a,ha,rfl⟩:=List.mem_map.1 hl
  exact(hwf a ha).2 c hcl
 ·rw[ao,List.length_map,hL]
 ·rw[ao,List.length_map,hL]
  unfold wL
  rw[if_pos hb];omega
 ·intro j c hj
  obtain⟨v,h1,_⟩:=hget j c hj
  rw[h1];rfl
 ·intro j c hj
  obtain⟨v,h1,h2⟩:=hget j c hj
  simp only[h1,Option.getD_some];exact h2 N (by omega)
theorem Au{K:Nat}{e:TypeId}{α:Type}[aH α]{wf:α→Prop}(ht:P.underlying t=some (.slice e))(hc:P.cellsOf e=aH.w α)(he:fx K P e (aH.w α) (aH.cells:α→List AV) wf):
 fx (K+1) P t 1 (fun l:List α=>[.sl false (aH.w α) l.length (flat l)]) fun l=>l.length≤maxLen∧∀a∈l,wf a:=by
 intro H enc w fuel cs x hk h
 rcases DataW.trod_slice ht h with⟨rfl,_⟩|⟨a,len,cap,elems,rest,n,rfl,rfl,_,_,hl,hm,hlen,hel,_⟩
 ·exact⟨rfl,[],⟨Nat.zero_le _,fun _ h=>absurd h List.not_mem_nil⟩,Bi rfl,0,fun N _=>.one (.slnil _ _)⟩
 ·refine⟨rfl,Qe hl hm fun i hi=>?_⟩
  have h1:=hel i hi
  rw[hc,List.getElem?_eq_getElem (by omega),Option.bind_eq_some_iff]at h1
  obtain⟨cs,h2,h3⟩:=h1
  obtain⟨_,x,h4,h5,h6⟩:=he H enc w n cs _ (by omega) h3
  exact⟨(x,cs),h4,h5,h2,h6⟩
theorem LA{e:TypeId}{α:Type}[aH α]{wf:α→Prop}(ht:P.underlying t=some (.slice e))(hc:P.cellsOf e=aH.w α)(he:Cp P e α wf):
 kX P t 1 (fun l:List α=>[.sl false (aH.w α) l.length (flat l)]) fun l=>l.length≤maxLen∧∀a∈l,wf a:=
 fx.all fun K=>(Au ht hc (kX.b he K)).le (Nat.le_succ K)
theorem KT{L:List (TypeId×Nat)}(hs:nf P t L=true):∃fs,P.underlying t=some (.struct fs):=by
 unfold nf at hs
 split at hs
 ·rename_i fs ht;exact⟨fs,ht⟩
 ·cases hs
theorem okWide_slice{w:World}{e:TypeId}{b0:Nat}{v:Value}(ht:P.underlying t=some (.slice e))(hval:Value.okWide P w .any b0 t v):∀cs,v≠.agg cs:=by
 intro cs h
 subst h
 unfold Value.okWide Cell.okWide Cell.ok at hval
 rw[ht]at hval
 exact hval
theorem NW{H:Type}{enc:TypeId×Value→H}{w:World}{e:TypeId}{α:Type}[aH α]{wf:α→Prop}{v:Value}{d:DataW H}{ps:List MemPlace}
 (ht:P.underlying t=some (.slice e))(hc:P.cellsOf e=aH.w α)(he:Cp P e α wf)(h:DataW.Trod enc P w 0 (fun _=>true) true t v d ps)(hv:∀cs,v≠.agg cs):
 ∃l:List α,(l.length≤maxLen∧∀a∈l,wf a)∧∃N0,∀N,N0≤N→VR w (wL N w) (.sl false (aH.w α) l.length (flat l)) v:=by
 obtain⟨fuel,hf⟩:=h
 obtain⟨_,l,hl,_,N0,hN⟩:=LA ht hc he H enc w fuel _ _ hf
 have hcells:v.cells.toList=[v]:=by cases v<;>first|rfl|exact absurd rfl (hv _)
 refine⟨l,hl,N0,fun N h=>?_⟩
 have:=hN N h
 rw[hcells]at this
 exact this.head
end
end Go.AB
end
section
set_option linter.unusedSimpArgs false
namespace Go.AB
open Go Go.ChangeShapes Go.WideShapes Go.ChangeAt Go.RowKit Go.Proofs.YtkeagffgdajggaaGreat Go.Proofs
inductive kA:aa→Prop where
 |mk (x:aa) (h1:-9223372036854775808≤x.Kind∧x.Kind≤9223372036854775807) (h2:-9223372036854775808≤x.N∧x.N≤9223372036854775807) (h3:x.S.b.length≤maxLen) (h4:x.L.length≤maxLen) (h5:∀v∈x.L,kA v):kA x
theorem NY:Cp Go.Proofs.Tryz.prog 32 aa kA:=by
 refine fx.all fun K=>?_
 induction K using Nat.strongRecOn with|ind K ih=>
 cases K with
 |zero=>exact fx.zero
 |succ K=>
  have hs:fx K Go.Proofs.Tryz.prog 30 1 (fun l:List aa=>[.sl false 4 l.length (flat l)]) (fun l=>l.length≤maxLen∧∀a∈l,kA a):=by
   cases K with
   |zero=>exact fx.zero
   |succ k=>exact Au (by kernel_rfl) (by kernel_rfl) (ih k (by omega))
  exact fx.map (Ih (L:=[(3,0),(3,1),(9,2),(30,3)]) (by kernel_rfl) (by kernel_rfl) (mX ((BN (P:=Go.Proofs.Tryz.prog) (t:=3) (by kernel_rfl)).b K) (by kernel_rfl) (mX ((BN (P:=Go.Proofs.Tryz.prog) (t:=3) (by kernel_rfl)).b K) (by kernel_rfl) (mX ((Kc (P:=Go.Proofs.Tryz.prog) (t:=9) (by kernel_rfl)).b K) (by kernel_rfl) (mX hs (by kernel_rfl) NX)))))
   (fun p=>⟨p.1,p.2.1,p.2.2.1,p.2.2.2.1⟩) (fun p=>by rw[dI];rfl) (fun p h=>.mk _ h.1 h.2.1 h.2.2.1 h.2.2.2.1.1 h.2.2.2.1.2)
def Jq(x:ag):Prop:=kA x.V∧True∧x.Data.b.length≤maxLen∧True
theorem T1:Cp Go.Proofs.Tryz.prog 62 ag Jq:=
 kX.map (Lz (L:=[(32,0),(4,4),(9,5)]) (by kernel_rfl) (by kernel_rfl) (uL NY (by kernel_rfl) (uL (PU (P:=Go.Proofs.Tryz.prog) (t:=4) (by kernel_rfl)) (by kernel_rfl) (uL (Kc (P:=Go.Proofs.Tryz.prog) (t:=9) (by kernel_rfl)) (by kernel_rfl) PT))))
  (fun p=>⟨p.1,p.2.1,p.2.2.1⟩) (fun p=>by first|rfl|(simp only[dI,kY];rfl)) (fun _ h=>h)
theorem wR:ownKnob Tryz.prog.godebug=none:=by kernel_rfl
theorem uy:laidOutB Tryz.prog=true:=by kernel_rfl
theorem yZ:Tryz.prog.underlying 4=some .bool:=by kernel_rfl
set_option maxRecDepth 100000 in
theorem wQ{H:Type}{enc:TypeId×Value→H}{W:World}{base:Nat}{args:Array Value}{ds gs:List (DataW H)}{before:List MemPlace}
 (hval0:∀(j:Nat) t v,Tryz.f6.params[j]? =some t→args[j]? =some v→Value.okWide Tryz.prog W .any base t v)
 (hW:DataW.Whole enc Tryz.prog Tryz.f6.params.toList Rows.viewTurnsSpec.vars false W args.toList ds gs before):
 Calls Tryz.prog 6 args W fun e w'=>e=.returned (.bool true)∧Below W.heap.size W w':=by
 obtain⟨p,q,hA0,hV,rfl,hfz,hnd⟩:=hW
 have hval:=hval0
 have hA:DataW.TrodAll enc Tryz.prog W 0 (fun _=>true) true Tryz.f6.params.toList args.toList ds p:=hA0
 have hp:Tryz.f6.params= #[24,36,32]:=by kernel_rfl
 rw[hp]at hA hval
 obtain⟨v0,v1,v2,d0,d1,d2,p0,p1,p2,rfl,rfl,rfl,h0,h1,h2⟩:=trodAll_three hA
 obtain⟨x0,w0,N0,k0⟩:=NW (by kernel_rfl) (by kernel_rfl) (BN (P:=Go.Proofs.Tryz.prog) (t:=3) (by kernel_rfl)) h0 (okWide_slice (e:=3) (by kernel_rfl) (hval 0 24 v0 rfl rfl))
 obtain⟨x1,w1,N1,k1⟩:=NW (by kernel_rfl) (by kernel_rfl) T1 h1 (okWide_slice (e:=62) (by kernel_rfl) (hval 1 36 v1 rfl rfl))
 obtain⟨x2,w2,N2,k2⟩:=T0 (.inl (KT (L:=[(3,0),(3,1),(9,2),(30,3)]) (by kernel_rfl))) NY (hval 2 32 v2 rfl rfl) h2
 refine PE (max N0 (max N1 N2)) ?_ (ab2 (k0 _ (by omega)) (k1 _ (by omega)) (k2 _ (by omega)))
 rw[dI x2]
 exact(yX (uz x0 x1 x2)).app rfl
end Go.AB
namespace Go.Proofs.YtkeagffgdajggaaGreat
open Go.ChangeShapes Go.WideShapes Go.ChangeAt Go.RowKit
set_option maxRecDepth 100000 in
theorem Cl(os:Os)(started:os.Started)(H:Type)(enc:TypeId×Value→H):
 ReturnsInHanded {} Tryz.checked os 6 .any (Rows.viewTurnsSpec.pre6 enc Tryz.prog Tryz.f6 Rows.viewTurnsRow.domain false) (Rows.viewTurnsSpec.post enc Tryz.prog Tryz.f6 false true false false):=by
 refine returnsInHanded_of_change (C:=Tryz.checked) AB.wR started (by kernel_rfl) Tryz.func6
  (ChangeSpec.witness6 (enc:=enc) (C:=Tryz.checked) false ⟨#[],#[.slice none 0 0,.slice none 0 0,.agg #[.int .i64 0,.int .i64 0,.string ⟨#[]⟩,.slice none 0 0]],[]⟩ 8 (by kernel_rfl) (by kernel_rfl) (by kernel_rfl) (by kernel_rfl)) ?_
 intro W base args ds gs before hval hW _ _
 exact AB.TQ rfl (by kernel_rfl) AB.yZ AB.uy (of_decide_eq_true (by kernel_rfl)) (fun ds h=>by
  match ds,h with
  |[_,_,_],_=>rfl) hW (AB.wQ hval hW)
theorem eO{a b:Bool}(h:a=true)(k:b=true):(a&&b)=true:=by rw[h,k];rfl
theorem Mk:(Rows.viewTurnsRow.wf (OpenSpec.ofChange Rows.viewTurnsSpec))=true:=by kernel_rfl
theorem Ml:(laidOutB Tryz.checked.prog)=true:=by kernel_rfl
theorem Mm:(mapsRowed Tryz.checked.prog)=true:=by kernel_rfl
theorem Mn:(Tryz.f6.params.all (Tryz.checked.prog.readableRec ·))=true:=by kernel_rfl
theorem Mo:(namedTie Tryz.checked.prog Rows.viewTurnsRow.named Rows.viewTurnsSpec.vars)=true:=by kernel_rfl
theorem Mp:((Rows.viewTurnsRow.stops==[]))=true:=by kernel_rfl
theorem Mq:((Tryz.checked.prog.stops==[]))=true:=by kernel_rfl
theorem Mr:((Rows.viewTurnsRow.knobs==[]))=true:=by kernel_rfl
theorem Ms:((Tryz.checked.prog.stopKnobs==[]))=true:=by kernel_rfl
theorem Mt:((Rows.viewTurnsRow.inPlace==Tryz.checked.prog.inPlace 6))=true:=by kernel_rfl
theorem I3:((Rows.viewTurnsRow.unfollowed==Tryz.checked.prog.unfollowed 6))=true:=by kernel_rfl
theorem I4:((Rows.viewTurnsRow.recurses==Tryz.checked.prog.recurses 6))=true:=by kernel_rfl
theorem I5:((Rows.viewTurnsRow.named==Tryz.checked.prog.varsNamed 6))=true:=by kernel_rfl
theorem I6:((Rows.viewTurnsRow.maps==(Tryz.f6.params.toList++Rows.viewTurnsSpec.plain.varTypes Tryz.checked.prog).any (Tryz.checked.prog.mapsRec ·)))=true:=by kernel_rfl
theorem I7:((Rows.viewTurnsRow.ifaces==(Tryz.f6.params.toList++Rows.viewTurnsSpec.plain.varTypes Tryz.checked.prog).any (Tryz.checked.prog.ifacesRec ·)))=true:=by kernel_rfl
theorem I8:((Rows.viewTurnsRow.mapsOut==Tryz.checked.prog.mapsAmong Tryz.f6.resultTypes.toList))=true:=by kernel_rfl
theorem I9:((Rows.viewTurnsRow.loops==(Tryz.f6.params.toList++Rows.viewTurnsSpec.plain.varTypes Tryz.checked.prog).any (Tryz.checked.prog.loopsFrom ·)))=true:=by kernel_rfl
theorem Ja:((Rows.viewTurnsRow.wideKeys==(Tryz.f6.params.toList++Rows.viewTurnsSpec.plain.varTypes Tryz.checked.prog++Tryz.f6.resultTypes.toList).any (Tryz.checked.prog.wideKeysFrom ·)))=true:=by kernel_rfl
theorem Jb:(Rows.viewTurnsSpec.vars.all (Tryz.checked.prog.varReadable ·))=true:=by kernel_rfl
theorem Jc:(Tryz.f6.resultTypes.all (fun t=>Tryz.checked.prog.readableRec t&&decide (t<Tryz.checked.prog.types.size)))=true:=by kernel_rfl
theorem Jd:((Rows.viewTurnsRow.ifacesOut==Tryz.f6.resultTypes.toList.any (Tryz.checked.prog.ifacesRec ·)))=true:=by kernel_rfl
theorem Je:((Rows.viewTurnsRow.loopsOut==Tryz.f6.resultTypes.toList.any (Tryz.checked.prog.loopsFrom ·)))=true:=by kernel_rfl
theorem Jf:((Rows.viewTurnsRow.plainKeys==Tryz.checked.prog.plainKeys))=true:=by kernel_rfl
theorem Jg:(Rows.viewTurnsRow.shortTexts.isNone)=true:=by kernel_rfl
theorem Jh:(Tryz.checked.prog.stopsHeard)=true:=by kernel_rfl
theorem Ji:(Tryz.checked.prog.mayEnter)=true:=by kernel_rfl
theorem Jj:((Rows.viewTurnsRow.lifted==Tryz.checked.prog.liftsFinal))=true:=by kernel_rfl
theorem Jk:((Tryz.checked.prog.make==some Rows.viewTurnsRow.make))=true:=by kernel_rfl
theorem Jl:((Rows.viewTurnsRow.kinds==(if Rows.viewTurnsRow.domain.isEmpty then[]else Tryz.f6.params.toList.map fun t=>match Tryz.checked.prog.underlying t with|some (.int k)=>some k|_=>none)))=true:=by kernel_rfl
theorem Jm:((Rows.viewTurnsRow.pinned==Rows.viewTurnsRow.pinnedBy))=true:=by kernel_rfl
theorem Jn:((Rows.viewTurnsRow.veiled==(Tryz.f6.params.toList++Rows.viewTurnsSpec.plain.varTypes Tryz.checked.prog++Tryz.f6.resultTypes.toList).any (Tryz.checked.prog.veiledRec ·)))=true:=by kernel_rfl
theorem Jo:(Rows.viewTurnsRow.veiledFits Tryz.checked.prog Tryz.f6.params.toList (Tryz.f6.params.toList++Rows.viewTurnsSpec.plain.varTypes Tryz.checked.prog++Tryz.f6.resultTypes.toList))=true:=by kernel_rfl
set_option maxRecDepth 100000 in
theorem Ck:joinedFacts Tryz.checked.prog 6 Tryz.f6 Rows.viewTurnsSpec Rows.viewTurnsRow=true:=(eO (eO (eO (eO (eO (eO (eO (eO (eO (eO (eO (eO (eO (eO (eO (eO (eO (eO (eO (eO (eO (eO (eO (eO (eO (eO (eO (eO (eO (eO (eO Mk Ml) Mm) Mn) Mo) Mp) Mq) Mr) Ms) Mt) I3) I4) I5) I6) I7) I8) I9) Ja) Jb) Jc) Jd) Je) Jf) Jg) Jh) Ji) Jj) Jk) Jl) Jm) Jn) Jo)
theorem viewTurns_holds:Rows.ViewTurnsSaid:=
 OpenClaim.holds_of_wide 6 Tryz.f6 rfl rfl rfl rfl rfl rfl rfl ⟨rfl,rfl,rfl,rfl,rfl⟩ rfl rfl rfl rfl rfl (by kernel_rfl) Tryz.func6 Ck
  (of_decide_eq_true (by kernel_rfl)) (by unfold Func.isWrapper;first|(rw[if_pos (by decide+kernel)];kernel_rfl)|(rw[if_neg (by decide+kernel)];exact⟨rfl,rfl⟩))
  (fun os started H enc _=>Cl os started H enc)
end Go.Proofs.YtkeagffgdajggaaGreat
end
