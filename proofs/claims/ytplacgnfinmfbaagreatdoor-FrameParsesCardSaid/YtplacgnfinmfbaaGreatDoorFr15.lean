/- A part. -/
import Derived.Test.YtplacgnfinmfbaaGreatDoorFr14
set_option linter.defProp false
set_option linter.unusedSimpArgs false
set_option linter.unusedVariables false
section
set_option maxRecDepth 16000
namespace Go.AB
open Go
open Go.Proofs.Tryz (prog)
attribute[-go_sem] Nat.add_zero rE dE cL dm cg cK
def Pw{P:Program}{S O:Type}{body:S->Option (S⊕O)}{s0:S}{kf:O->Prop}{live:List (Nat×Bool)}{l:Nat}{r:IC}{Q:Exit->St->Prop}{σ:St}(R:S->St->Prop)
 (h0:R s0 σ)
 (hb:∀(J:St->Prop)(s:S)(τ:St),R s τ->ok (body s) (ir (fun t=>∀U',R t U'->J U') kf)->gx P r (Gw l live J Q) τ):ok (iter body s0) kf->Rm P l live r Q σ:=by
 intro h
 have Gq:∀τ,(∃m s,R s τ/\ok (cE body m s) kf)->∃m,(∃s,R s τ/\ok (cE body m s) kf)/\∀k,k<m->¬∃s,R s τ/\ok (cE body k s) kf:=by
  rintro τ ⟨m,s,h⟩
  induction m using Nat.strongRecOn generalizing s with
  |_ m ih=>
   by_cases hk:∃k,k<m/\∃s,R s τ/\ok (cE body k s) kf
   ·obtain⟨k,hk,s',h'⟩:=hk
    exact ih k hk s' h'
   ·exact⟨m,⟨s,h⟩,fun k hk' hs=>hk ⟨k,hk',hs⟩⟩
 have hμ:∃μ:St->Nat,∀τ,(∃m s,R s τ/\ok (cE body m s) kf)->(∃s,R s τ/\ok (cE body (μ τ) s) kf)/\∀k,k<μ τ->¬∃s,R s τ/\ok (cE body k s) kf:=⟨fun τ=>Classical.epsilon fun m=>(∃s,R s τ/\ok (cE body m s) kf)/\∀k,k<m->¬∃s,R s τ/\ok (cE body k s) kf,fun τ hτ=>Classical.epsilon_spec (Gq τ hτ)⟩
 obtain⟨μ,hμ⟩:=hμ
 refine⟨fun τ=>∃m s,R s τ/\ok (cE body m s) kf,μ,⟨_,s0,h0,h⟩,?_⟩
 intro τ hτ
 obtain⟨⟨s,e,hs⟩,_⟩:=hμ τ hτ
 generalize hm:μ τ=m at hs
 cases m with
 |zero=>exact(rI hs).elim
 |succ m=>
  obtain⟨x,hx,k⟩:=rH hs
  refine hb _ s τ e ⟨x,hx,?_⟩
  cases x with
  |inr o=>exact k
  |inl t=>
   intro U' ht
   refine⟨⟨m,t,ht,k⟩,?_⟩
   have h2:=(hμ U' ⟨m,t,ht,k⟩).2
   rcases Nat.lt_or_ge m (μ U')with hlt|hge
   ·exact(h2 m hlt ⟨t,ht,k⟩).elim
   ·omega
def SW{s0 s:ae}{B:Nat}{p:PS}{rr:db}{ids:List (Nat×db)}(h:rj s0 s B p rr ids){r:aE×Int}(hr:eh p.b p.at_ p.last=some r){Q:List AV->ae->Prop}
 (h0:(r.2 !=0)=false->∀s',rj s0 s' B {p with at_:=r.1.To} rr ids->Q [tA r.1,.int .i64 r.2] s')(h1:(r.2 !=0)=true->rj s0 s B p rr ids->Q [tA r.1,.int .i64 r.2] s):FN prog 75 [.ref B 0] s Q:=by
 refine vh (s_0:=⟨p.b,p.at_,p.last,jG rr p.st.length⟩) h.cell ?_
 unfold mJ
 rw[kX]
 refine⟨r,hr,?_⟩
 cases he:(r.2==0)with
 |true=>
  simp only[he,if_true]
  exact⟨_,rfl,h0 (by unfold bne;rw[he];rfl) _ (h.place _)⟩
 |false=>
  simp only[he,Bool.false_eq_true,if_false]
  refine⟨_,rfl,?_⟩
  have:s.set B (.cells (jU p rr))=s:=aZ h.cell
  show Q _ (s.set B (.cells (jU p rr)))
  rw[this]
  exact h1 (by unfold bne;rw[he];rfl) h
def VU{P:Program}{iP:List (List Bool)}{ops f:List aH}{live:List Nat}{Q:Exit->St->Prop}{d:List Bool}{σ:St}(C:St->Prop)
 (h1:∀K:St->Prop,(∀τ:St,C (τ.xJ live)->K τ)->NL P iP ops K f d σ)(h2:∀φ,C φ->Q .normal φ):NL P iP ops (Ei live Q) f d σ:=h1 _ fun τ h=>h2 _ h
def Ui{σ:St}{d:Option Nat}{K:St->Prop}{s s2:ae}{B:Nat}{p2:PS}{rr2:db}{id:Nat×db}{gw:List (Nat×db)}{v:aX}{vs:List aX}(hσ:σ.s=s2)(h2:rj s s2 B p2 rr2 (id::gw))(dQ:p2.st=v::vs)(bP:(v.l_.length+1)*56<=room)(x:aa)
 (hK:∀S3 rb cap sp,S3 rb=some (.cells (flat (v.l_++[zV])++sp))->S3 id.1=some (.cells [.bool v.fj,jG id.2 v.l_.length])->rb≠id.1->
   rj s ((S3.set rb (.cells (flat (v.l_++[x])++sp))).set id.1 (.cells [.bool v.fj,.arr rb 0 (v.l_.length+1) cap])) B {p2 with st:=⟨v.fj,v.l_++[x]⟩::vs} rr2 ((id.1,some (rb,cap,sp))::gw)->
   K ({σ with s:=S3}.put d (.arr rb 0 (v.l_.length+1) cap))):
 eP 4 56 [.int .i64 0,.int .i64 0,.str [],.sl false 4 0 []] σ d K (.arr (KS id.2) 0 v.l_.length (G8 id.2)) (zu σ.s 4 (.sl true 4 1 [.int .i64 0,.int .i64 0,.str [],.sl false 4 0 []])):=by
 obtain⟨F1,F2,H⟩:=h2
 rw[dQ]at F1 H
 have H1:dn s s2 (oQ id.2 v.l_++((id.1,PH id.2 v)::((B,.cells (jU p2 rr2))::(oQ rr2 (refs (id::gw).reverse)++AL gw vs)))):=by
  refine H.perm ?_
  refine(List.perm_middle (l₁:=(B,SO.cells (jU p2 rr2))::oQ rr2 (refs (id::gw).reverse))).trans ?_
  refine((List.perm_append_comm_assoc ((B,SO.cells (jU p2 rr2))::oQ rr2 (refs (id::gw).reverse)) (oQ id.2 v.l_) (AL gw vs)).cons _).trans ?_
  exact List.perm_middle.symm
 obtain⟨sb,e,okr,Hb⟩:=H1.row F1.1
 rw[pL]
 refine FW (z:=zV) (v:=zV) (hσ.trans e) okr rfl bP fun s' r' hs' ok'=>?_
 obtain⟨rb,cap,sp,rfl⟩:=QF ok' B_
 obtain⟨H3,f3⟩:=(Hb.sub hs').VP ok'
 have hne:rb≠id.1:=by
  have:=H3.2.2
  intro he
  rw[he]at this
  simp[oQ]at this
 refine hK _ rb cap sp H3.get (H3.mem (by simp[oQ,PH])) hne ?_
 have H4:=(dn.set (o':=.cells (flat (v.l_++[x])++sp)) H3)
 have H5:=(dn.set (o':=.cells [.bool v.fj,.arr rb 0 (v.l_.length+1) cap]) (H4.perm (List.Perm.swap ..)))
 have H6:=H5.perm (List.perm_append_comm_assoc [(id.1,SO.cells [.bool v.fj,.arr rb 0 (v.l_.length+1) cap]),(rb,.cells (flat (v.l_++[x])++sp))] ((B,SO.cells (jU p2 rr2))::oQ rr2 (refs (id::gw).reverse)) (AL gw vs))
 have hlen:(v.l_++[x]).length=v.l_.length+1:=B_
 have hl:PH (some (rb,cap,sp)) ⟨v.fj,v.l_++[x]⟩=.cells [.bool v.fj,.arr rb 0 (v.l_.length+1) cap]:=by
  unfold PH jG
  simp only[hlen]
  rfl
 have hp:jU {p2 with st:=⟨v.fj,v.l_++[x]⟩::vs} rr2=jU p2 rr2:=by
  unfold jU
  simp only[dQ,List.length_cons]
 have hrefs:refs ((id.1,(some (rb,cap,sp):db))::gw).reverse=refs (id::gw).reverse:=by rw[qP,qP]
 refine⟨⟨?_,F1.2⟩,by rw[hrefs];exact F2,?_⟩
 ·obtain⟨g1,g2,g3,g4⟩:=f3
  refine⟨g1,Xf4,?_,g4⟩
  rw[List.length_append,a8]at g3⊢
  simpa using g3
 ·rw[hp,hrefs]
  have:AL ((id.1,some (rb,cap,sp))::gw) (⟨v.fj,v.l_++[x]⟩::vs)=[(id.1,SO.cells [.bool v.fj,.arr rb 0 (v.l_.length+1) cap]),(rb,.cells (flat (v.l_++[x])++sp))]++AL gw vs:=by rw[<-hl];rfl
  show dn s _ ((B,SO.cells (jU p2 rr2))::(oQ rr2 _++AL ((id.1,some (rb,cap,sp))::gw) (⟨v.fj,v.l_++[x]⟩::vs)))
  rw[this]
  exact H6
def Q8{σ:St}{d:Option Nat}{K:St->Prop}{s s2:ae}{B:Nat}{p2:PS}{rr2:db}{id:Nat×db}{gw:List (Nat×db)}{v:aX}{vs:List aX}(hσ:σ.s=s2)(h2:rj s s2 B p2 rr2 (id::gw))(dQ:p2.st=v::vs)(bP:(v.l_.length+1)*56<=room)(x:aa)
 (hK:∀S3 rb cap cs,S3 rb=some (.cells cs)->S3 id.1=some (.cells [.bool v.fj,jG id.2 v.l_.length])->(∀o,(S3.set rb o) id.1=some (.cells [.bool v.fj,jG id.2 v.l_.length]))->(∀o,(S3.set id.1 o) rb=some (.cells cs))->
   v.l_.length*4+4<=cs.length->
   (∃rr3 Gs,rj s ((S3.set rb (.cells (setAt cs (v.l_.length*4) [.int .i64 x.Kind,.int .i64 x.N,.str x.S.b,.sl false 4 x.L.length (flat x.L)]))).set id.1 (.cells [.bool v.fj,.arr rb 0 (v.l_.length+1) cap])) B {p2 with st:=⟨v.fj,v.l_++[x]⟩::vs} rr3 Gs)->
   (∃rr3 Gs,rj s ((S3.set id.1 (.cells [.bool v.fj,.arr rb 0 (v.l_.length+1) cap])).set rb (.cells (setAt cs (v.l_.length*4) [.int .i64 x.Kind,.int .i64 x.N,.str x.S.b,.sl false 4 x.L.length (flat x.L)]))) B {p2 with st:=⟨v.fj,v.l_++[x]⟩::vs} rr3 Gs)->
   K ({σ with s:=S3}.put d (.arr rb 0 (v.l_.length+1) cap))):
 eP 4 56 [.int .i64 0,.int .i64 0,.str [],.sl false 4 0 []] σ d K (.arr (KS id.2) 0 v.l_.length (G8 id.2)) (zu σ.s 4 (.sl true 4 1 [.int .i64 0,.int .i64 0,.str [],.sl false 4 0 []])):=by
 refine Ui hσ h2 dQ bP x fun S3 rb cap sp g1 g2 hne m6=>?_
 have hs:setAt (flat (v.l_++[zV])++sp) (v.l_.length*4) [.int .i64 x.Kind,.int .i64 x.N,.str x.S.b,.sl false 4 x.L.length (flat x.L)]=flat (v.l_++[x])++sp:=by
  have h:=yq (v.l_++[zV]) [x] sp 4 v.l_.length rfl B_
  have hx:flat [x]=[.int .i64 x.Kind,.int .i64 x.N,.str x.S.b,.sl false 4 x.L.length (flat x.L)]:=by
   unfold flat
   simp only[List.map_cons,List.map_nil,List.flatten_cons,List.flatten_nil,List.append_nil]
   exact nx x
  rw[hx]at h
  rw[h]
  simp
 refine hK S3 rb cap _ g1 g2 (fun o=>?_) (fun o=>?_) ?_ ?_ ?_
 ·rw[<-g2];unfold ae.set;rw[if_neg (Ne.symm hne)]
 ·rw[<-g1];unfold ae.set;rw[if_neg hne]
 ·rw[List.length_append,a8]
  have:bz.w aa=4:=rfl
  rw[this]
  simp
  omega
 ·rw[hs];exact⟨_,_,m6⟩
 ·rw[hs,set_comm hne];exact⟨_,_,m6⟩
def qV(pf:List aa->Option (List aa×Int))(p:PS):Option (PS⊕(aa×Int×Int)):=
 aI (p.st.length<=64)<|
 aL (eh p.b p.at_ p.last) fun r1=>
 bif r1.2 !=0 then some (.inr (zV,0,r1.2))else
 aL (nI pf {p with at_:=r1.1.To} r1.1) fun r=>
 bif r.2.2.1 !=0 then some (.inr (zV,0,r.2.2.1))else
 bif !r.2.1 then some (.inl r.2.2.2)else
 aI (r.2.2.2.st.length<=64)<|match r.2.2.2.st with
 |[]=>some (.inr (r.1,r.2.2.2.at_,0))
 |v::vs=>aI ((v.l_.length+1)*56<=room)<|some (.inl {r.2.2.2 with st:=⟨v.fj,v.l_++[r.1]⟩::vs})
def rU(pf:List aa->Option (List aa×Int))(b:List UInt8)(a:Int)(last:Bool):Option (aa×Int×Int):=iter (qV pf) ⟨b,a,last,[]⟩
def zL:AV:=.loc [.int .i64 0,.int .i64 0,.str [],.sl true 4 0 []]
set_option maxHeartbeats 8000000 in
def Q9{pf:List aa->Option (List aa×Int)}(hpf:wW pf){s:ae}{b:List UInt8}{a:Int}{last:Bool}{Q:List AV->ae->Prop}
 (hm:ok (rU pf b a last) fun r=>∀s',Sub s s'->Q [vA r.1,.int .i64 r.2.1,.int .i64 r.2.2] s'):FN prog 34 [.sl false 1 b.length (flat b),.int .i64 a,.bool last] s Q:=by
 have hr:room=140737488355328:=rfl
 unfold rU at hm
 refine FS 62 [⟨6,false,some (4,true)⟩,⟨7,true,none⟩,⟨8,true,none⟩] 0xaa2c6efaf17f4857057d60d845741bbd62ba2a7ba2a9c56a141c8583728b472a828c34df85bbe647da4ca8db7ae12bcbae9fe283e0fb335f82c9e9c446942cbb8e4192c539bd5f9c8cae9db7cf4fe19e0c0218b683dba7129f289e61f5a102b83026999918a3f282416b6b55ca22fd111d9b834b2daaa43658b3a0b75911da9d4ac16490e16538e35b559b03d0a208967320842fb8ded48fecc05ae47f0d970f0d4e6cf863b69b3e39c16242be2c13e5b94bc9346b88a8663c717c97816719821151f0b2757edf59b31d7c48dcc7ff065545fa47029d57663d6e9bb08368b8d5f0e966e67f559729b93e4b69b85b51940e14d3e93c2a512e63ffd2874c36a630daad56ba5dc4ef5107cf4f5ad3871352bc22baf49a92bca1b8d514a2dfcdd7de32716960acc69ecb81c8944f8216faf0bdb281bf20c4cd57f9e9678915d33529bb01e43a0e28fb574b002d9003cd1eb37e0092ef5c ?_
 refine Xh2 ?_
 intro B hB
 refine Pw (fun(p:PS)(τ:St)=>∃s' rr ids,rj s s' B p rr ids/\τ=⟨[(6,zL),(9,.ref B 0)],[],s'⟩) ?_ ?_ hm
 ·refine⟨_,none,[],⟨trivial,rfl,(dn.nil.alloc hB)⟩,rfl⟩
 ·rintro J p τ ⟨s',rr,ids,h,rfl⟩ hb
  unfold qV at hb
  rw[il]at hb
  obtain⟨bP,hb⟩:=hb
  unfold zL
  refine Xh2 ?_
  rw[kX]at hb
  obtain⟨r1,hr1,hb⟩:=hb
  refine SW h hr1 (fun he s1 h1=>?_) (fun he h1=>?_)
  rotate_left
  ·rw[he,cond_true,bK]at hb
   unfold tA
   refine Xh6 he ?_
   exact hb s' h.2.2.1
  ·rw[he,cond_false,kX]at hb
   obtain⟨r,hr2,hb⟩:=hb
   unfold tA
   refine Xh6 he ?_
   refine T0 hpf h1 bP ⟨r,hr2,fun he2 s2 h2=>?_,fun he2 s2 rr2 ae9 h2=>?_⟩
   ·have he3:(r.2.2.1 !=0)=true:=by simpa using he2
    rw[he3,cond_true,bK]at hb
    unfold vA
    refine Xh6 he3 ?_
    exact hb s2 h2
   ·have he3:(r.2.2.1 !=0)=false:=by simpa using he2
    rw[he3,cond_false]at hb
    unfold vA
    cases hi:r.2.1 with
    |false=>
     rw[hi,Bool.not_false,cond_true,bK]at hb
     simp -implicitDefEqProofs only[go_sem,seval,he3,hi,Bool.not_false,bL]
     exact hb _ ⟨s2,rr2,ae9,h2,rfl⟩
    |true=>
     rw[hi,Bool.not_true,cond_false]at hb
     simp -implicitDefEqProofs only[go_sem,seval,he3,hi,Bool.not_true,bL]
     rw[il]at hb
     obtain⟨aeZ,hb⟩:=hb
     have hB2:=h2.cell
     unfold jU at hB2
     refine Hr h2 AT (fun dQ=>?_) (fun id gw v vs Ki dQ=>?_)
     ·rw[dQ]at hb
      simp only[bK]at hb
      refine Xh6 hB2 ?_
      exact hb s2 h2.2.2.1
     ·rw[dQ]at hb
      simp only[il,bK]at hb
      obtain⟨WM,hb⟩:=hb
      refine Xh6 hB2 ?_
      subst Ki
      have hlv:=h2.lv dQ
      unfold PH at hlv
      have C1:∀φ:St,(∃s3 rr3 Gs,rj s s3 B {r.2.2.2 with st:=⟨v.fj,v.l_++[r.1]⟩::vs} rr3 Gs/\φ=⟨[(6,zL),(9,.ref B 0)],[],s3⟩)->J φ:=fun φ hφ=>hb φ hφ
      refine VU (fun φ=>∃s3 rr3 Gs,rj s s3 B {r.2.2.2 with st:=⟨v.fj,v.l_++[r.1]⟩::vs} rr3 Gs/\φ=⟨[(6,zL),(9,.ref B 0)],[],s3⟩) ?_ ?_
      rotate_left
      ·rintro φ ⟨s3,rr3,Gs,h3,rfl⟩
       unfold zL
       refine Xh2 ?_
       exact C1 _ ⟨s3,rr3,Gs,h3,rfl⟩
      ·intro K hK
       clear C1 hb
       repeat'(first|(simp only[dm,cL,cg,cK,vo,wR,Bool.not_true,Bool.not_false,Bool.or_true,Bool.true_or,Bool.false_or,Bool.or_false,Bool.and_true,Bool.true_and,Bool.and_false,Bool.false_and,cond_true,cond_false,true_and,and_true];done)|with_reducible refine⟨?_,?_⟩|with_reducible exact trivial|(simp only[dm,cL,cg,cK,vo,wR,Bool.not_true,Bool.not_false,Bool.or_true,Bool.true_or,Bool.false_or,Bool.or_false,Bool.and_true,Bool.true_and,Bool.and_false,Bool.false_and,cond_true,cond_false,true_and,and_true])|simp -implicitDefEqProofs only[go_sem,seval,hlv])
       all_goals
        refine Q8 rfl h2 dQ WM r.1 (fun S3 rb cap cs g1 g2 q1 q2 hle f1 f2=>?_)
        obtain⟨ra,ia,f1⟩:=f1
        obtain⟨rz,iz,f2⟩:=f2
        repeat'(first|exact hK _ ⟨_,_,_,f1,rfl⟩|exact hK _ ⟨_,_,_,f2,rfl⟩|omega|(simp only[dm,cL,cg,cK,vo,wR,Bool.not_true,Bool.not_false,Bool.or_true,Bool.true_or,Bool.false_or,Bool.or_false,Bool.and_true,Bool.true_and,Bool.and_false,Bool.false_and,cond_true,cond_false,true_and,and_true];done)|with_reducible refine⟨?_,?_⟩|with_reducible exact trivial|(simp only[dm,cL,cg,cK,vo,wR,Bool.not_true,Bool.not_false,Bool.or_true,Bool.true_or,Bool.false_or,Bool.or_false,Bool.and_true,Bool.true_and,Bool.and_false,Bool.false_and,cond_true,cond_false,true_and,and_true])|simp -implicitDefEqProofs only[go_sem,seval,g1,g2,q1,q2])
def EV:IC:=dec 0x149998c2ffec91db930ff3a0a6d58c48a9c0a56c7cd23b460c898342c022b5b4473a
def MY:m5 prog 156 8 [⟨2,true,none⟩] EV=true:=C_
def F4(l:List UInt8)(s:ae)(rs:List AV)(s':ae):Prop:=(∃b cap sp,rs=[.arr b 0 l.length cap]/\s b=none/\0<cap/\l.length<=cap/\(flat l++sp).length=cap*1/\views (flat l++sp)=flat l++sp/\s'=s.set b (.cells (flat l++sp)))\/(l=[]/\s'=s/\∃b,rs=[.arr b 0 0 0])
def JU{o:Bool}{l:List UInt8}{s:ae}(hr:l.length*1<=room):FN prog 156 [.sl o 1 l.length (flat l)] s (F4 l s):=by
 refine FN.Hv (FO MY rfl rfl ?_)
 generalize hQ:(fun rs s'=>∃s2,Sub s2 s'/\F4 l s rs s2)=Q
 have hq:∀rs s' s2,Sub s2 s'->F4 l s rs s2->Q rs s':=fun rs s' s2 h1 h2=>Xd7
 rw[EV]
 refine Xh4 ?_
 refine Xh2 ?_
 intro v hv
 refine⟨fun h=>hq _ _ s (Sub.refl s) (.inr ⟨List.eq_nil_of_length_eq_zero (hv IN),rfl,0,rfl⟩),fun _ b1 hb1=>?_⟩
 rw[pL,bt]
 by_cases hl:l=[]
 ·subst hl
  refine pS rfl rfl (Nat.le_refl 0) ?_
  refine Xh2 ?_
  exact hq _ _ s ((Sub.refl s).set hb1) (.inr ⟨rfl,rfl,_,rfl⟩)
 ·have hn:0<l.length:=List.length_pos_iff.2 hl
  refine fP rfl rfl AT Xd8 fun b2 cap hb2 gv=>?_
  rw[Nat.zero_add]at gv
  have hz:(List.replicate (cap -(0+l.length)) [.int .u8 0]).flatten=flat (List.replicate (cap -l.length) (0:UInt8)):=Xd9
  rw[hz]
  simp -implicitDefEqProofs only[go_sem,seval,Nat.zero_add,List.nil_append]
  have O1:s b2=none:=((Sub.refl s).set hb1).none hb2
  refine hq _ _ _ (Sub.Hf ((Sub.refl s).set hb1)) (.inl ⟨b2,cap,_,rfl,O1,AT,gv,?_,?_,rfl⟩)
  ·rw[List.length_append,a8,a8,List.length_replicate]
   show l.length*1+(cap -l.length)*1=cap*1
   omega
  ·rw[nY,bt,bt]
def ME{o:Bool}{l:List UInt8}{s:ae}(hr:l.length*1<=room):FE prog 156 [.sl o 1 l.length (flat l)] s [.sl true 1 l.length (flat l)] s:=
 FN.G9 (a8 l) (bt l) ⟨rfl,rfl⟩ ((JU hr).mono fun rs s' h=>by
  rcases h with⟨b,cap,sp,h1,h2,h3,h4,h5,h6,h7⟩|⟨h1,h2,h3⟩
  ·exact .inl ⟨b,cap,sp,h1,Xe0,h3,h4,h5,Xe1⟩
  ·subst h1;exact .inr ⟨rfl,rfl,Xe2,h3⟩)
def TK{b:List UInt8}{high o:Bool}{s:ae}{Q:List AV->ae->Prop}(hr:b.length*1<=room)(hq:∀B,s B=none->Q [.ref B 0] (s.set B (.cells [.int .i64 0,.bool high,.bool true,.sl false 1 b.length (flat b)]))):FN prog 129 [.sl o 1 b.length (flat b),.bool high] s Q:=by
 refine FS 11 [⟨4,true,none⟩] 0x85975d12c7f5cf1d6ed30ce8244b74a91518cd0d5d52b95b903477e1703fd504883fa ?_
 refine Xh8 ?_
 refine FE.app (ME hr) ?_
 refine Xh8 ?_
 exact hq
section
variable{s0 s:ae}{b:List UInt8}{most:Int}{B BR:Nat}{z:ZS}{Q:List AV->ae->Prop}
def qT(hS:qh s0 s b most B BR z){l:List Int}{ow:Bool}{n:Nat}(hn:l.length=n)(h0:∀s',qh s0 s' b most B BR (gh l z)->(gh l z).e≠0->(∀x,im s x->im s' x)->Q [.fO] s')
 (h1:∀s' x,qh s0 s' b most B BR (gh l z)->(gh l z).e=0->(∀x,im s x->im s' x)->im s' x->x.lens=l->Q [.ref x.B 0] s'):FN prog 174 [.ref B 0,.sl ow 1 n (flat l)] s Q:=by
 subst hn
 refine FS 21 [⟨4,true,none⟩] 0x628da4f49e3702f8b5ec59c04b92691a8745e139b27e640eab73c60af4dc5c6f735b791aa0202fa5709bd0378b6a84f9e2bf6b1803ebccf80c65504883fa ?_
 have hB:=hS.hB
 refine Xh6 hB ?_
 refine⟨fun he=>?_,fun he=>?_⟩
 ·have he:z.e≠0:=E_
  have e:gh l z=z:=by unfold gh ZS.fail;rw[if_neg he];split<;>rfl
  rw[e]at h0
  exact h0 s hS he fun x h=>h
 ·have he:z.e=0:=E_
  refine Xq (fun hk s' hs=>?_) (fun hk s' x hs hx hl=>?_)
  ·have hS':=hS.more hs
   refine Xh8 ?_
   refine xq hS' 13 fun s2 hS2 ht _=>?_
   have e:gh l z=z.fail 13:=by unfold gh;rw[if_pos hk]
   rw[e]at h0
   refine Xh8 ?_
   exact h0 s2 hS2 (eX z 13 BY).2.2 fun x h=>ht x (h.mono hs)
  ·have hS':=hS.more hs
   refine Xh8 ?_
   refine xq hS' 0 fun s2 hS2 ht _=>?_
   have e:gh l z=z:=ξ
   have e2:z.fail 0=z:=by unfold ZS.fail;rw[if_pos he,<-he]
   rw[e]at h1
   rw[e2]at hS2
   refine Xh8 ?_
   exact h1 s2 x hS2 he (fun x h=>ht x (h.mono hs)) (ht x hx) hl
def ptr(p:AV):Prop:=p=.fO\/∃x,p=.ref x 0
def Ub(hS:qh s0 s b most B BR z)(he:z.e≠0){p:AV}(hp:ptr p)(hq:Q [.int .i64 0] s):FN prog 227 [.ref B 0,p] s Q:=by
 rcases hp with rfl|⟨x,rfl⟩
 all_goals
  refine FO kF rfl rfl ?_
  rw[gT]
  refine Xh4 ?_
  have hB:=hS.hB
  have hc:(z.e !=0)=true:=E_
  refine Xi2 hB hc ?_
  exact hq
def E3{P:Program}{live:List (Nat×Bool)}{l:Nat}{r:IC}{Q:Exit->St->Prop}{σ:St}(h:∀J,gx P r (Gw l live J Q) σ):Rm P l live r Q σ:=xI (S:=Unit) (O:=Unit) (body:=fun _=>some (.inr ())) (s0:=()) (kf:=fun _=>True) (fun _=>σ) rfl (fun J _ _=>h J) ⟨(),fb 0 (fun _=>()) rfl BY (fun k hk=>AT) rfl,trivial⟩
def RP(hS:qh s0 s b most B BR z)(he:z.e≠0){p q:AV}(hp:ptr p)(hq':ptr q)(hq:Q [] s):FN prog 173 [.ref B 0,p,q] s Q:=by
 have hp0:=hp
 rcases hp with rfl|⟨x,rfl⟩<;>rcases hq' with rfl|⟨y,rfl⟩
 all_goals
  refine FO l5 rfl rfl ?_
  rw[jf]
  refine Xh4 ?_
  have hB:=hS.hB
  have hc:(z.e !=0)=true:=E_
  refine Xh8 ?_
  refine E3 fun J=>?_
  refine Xh8 ?_
  refine Ub hS he hp0 ?_
  refine Xi2 hB hc ?_
  exact hq
def SL(hS:qh s0 s b most B BR z)(he:z.e≠0)(n:Int)(hq:Q [.sl true 1 0 []] s):FN prog 231 [.ref B 0,.fO,.int .i64 n] s Q:=by
 refine FO kG rfl rfl ?_
 rw[gU]
 refine Xh4 ?_
 have hB:=hS.hB
 have hc:(z.e !=0)=true:=E_
 refine Xh8 ?_
 refine E3 fun J=>?_
 refine Xj4 hB hc ?_
 exact hq
end
theorem sZ:lM.length=288:=rfl
def ON{k:Nat}(h:k<288):lM[k]? =some (if k<144\/k>279 then 8 else if k<256 then 9 else 7):=by
 unfold lM
 rw[List.getElem?_map,List.getElem?_range h];rfl
def kB(l:List Int)(n k:Nat):List Int:=l.take k++List.replicate (n -k) 0
def EP{l:List Int}{n k:Nat}(hl:l.length=n)(hk:k<n){x:Int}(hx:l[k]? =some x):(kB l n k).set k x=kB l n (k+1):=by
 unfold kB
 have ht:(l.take k).length=k:=N_
 rw[List.set_append_right _ _ AT,ht,Nat.sub_self,show n -k=(n -(k+1))+1 by omega,List.replicate_succ,List.set_cons_zero,List.take_add_one,hx]
 simp
def EO{l:List Int}{n k:Nat}(hl:l.length=n)(hk:k<=n):(kB l n k).length=n:=by
 unfold kB
 simp;omega
theorem EN{l:List Int}{n:Nat}(hl:l.length=n):kB l n n=l:=by
 unfold kB
 rw[List.take_of_length_le AT,Nat.sub_self];simp
def xx{σ:St}{d:Option Nat}{K:St->Prop}{b n:Nat}{l:List Int}(hs:σ.s b=some (.cells (flat l)))(hl:l.length=n)(hn:0<n)(hK:K ({σ with s:=σ.s.del b}.put d (.sl true 1 n (flat l)))):tc 1 true σ d K (.arr b 0 n n):=by
 have hlc:(flat l).length=n:=by rw[a8,hl];exact Nat.mul_one _
 have dH:decide (0+n*1<=(flat l).length)=true:=by rw[hlc];simp
 have e1:views (AB.sub (flat l) 0 (n*1))=flat l:=by
  unfold AB.sub
  rw[List.drop_zero,List.take_of_length_le AT,bt]
 refine .inr ⟨hn,Nat.le_refl _,fun _=>⟨rfl,?_,?_⟩,?_⟩
 ·rw[hs];show 0+n*1<=_;omega
 ·rw[hs];show _=0+n*1;omega
 ·rw[hs]
  show tc.frzK 1 true σ d K b n (bif decide (0+n*1<=(flat l).length)then some (n,views (AB.sub (flat l) 0 (n*1)))else none)
  rw[dH,e1]
  exact hK
def Wq{s:ae}:FE prog 172 [] s [.sl true 1 288 (flat lM),.sl true 1 30 (flat lL)] s:=by
 have bP:room=140737488355328:=rfl
 refine FP 44 [⟨0,true,none⟩,⟨1,true,none⟩] (dec 0x3d47c4dc3f572611c221ef092159adac8db63cc230ddd46833ceccb0cf9b18791b3d78fa615ee71eba3d635119d920b306efcdc28fdb28a7de25746b2ba753fdda9695cae470d789541ac9c679f7ea1d07bc7b2f115115d83d5d80cfb60dd83ba401e9fbb6b4841ee1dc41a0df9496be399d96af83c41565147065bb3e767017af5105ce137d0bc625b2f65f637573a8786177da57b9d9a61c47bd6ecf2b643559574f909f214d4e129c15d5ca739da87bd0b3415d0d773d44e11cd8bd287cfb92c208445c1ac45525d728216618225c01177a37bc7712a1525840ddc91ac74e826bf04548eca60de3b28a456f3684720a203916610b775b40acb) C_ rfl ?_
 generalize hQ:(fun rs t=>rs=[AV.sl true 1 288 (flat lM),.sl true 1 30 (flat lL)]/\t=s)=Q
 refine Xh4 ?_
 refine Xh8 ?_
 refine VU (fun φ=>∃b6 b7 S,S b6=some (.cells (flat (kB lM 288 0)))/\S b7=some (.cells (flat (kB lL 30 0)))/\b6≠b7/\s b6=none/\s b7=none/\(∀x,x≠b6->x≠b7->S x=s x)/\φ=⟨[(2,.arr b6 0 288 288),(3,.arr b7 0 30 30)],[],S⟩) ?_ ?_
 ·intro K hK
  repeat'(first|(simp only[dm,cL,cg,cK,vo,wR,Bool.not_true,Bool.not_false,Bool.or_true,Bool.true_or,Bool.false_or,Bool.or_false,Bool.and_true,Bool.true_and,Bool.and_false,Bool.false_and,cond_true,cond_false,true_and,and_true];done)|with_reducible refine⟨?_,?_⟩|with_reducible exact trivial|omega|(intro b hb)|(simp only[dm,cL,cg,cK,vo,wR,Bool.not_true,Bool.not_false,Bool.or_true,Bool.true_or,Bool.false_or,Bool.or_false,Bool.and_true,Bool.true_and,Bool.and_false,Bool.false_and,cond_true,cond_false,true_and,and_true])|simp -implicitDefEqProofs only[go_sem,seval])
  all_goals
   rename_i b1 h1
   have hne:b≠b1:=fun e=>by subst e;rw[cc]at hb;cases hb
   rw[aj hne]at hb
   first
    |exact hK _ ⟨b1,b,_,(aj hne.symm).trans cc,cc,hne.symm,h1,hb,fun x hx hy=>(aj hy).trans (aj hx),rfl⟩
    |exact hK _ ⟨b,b1,_,cc,(aj hne.symm).trans cc,hne,hb,h1,fun x hx hy=>(aj hx).trans (aj hy),rfl⟩
 ·rintro φ ⟨b6,b7,S,h6,h7,hne,n6,n7,hS,rfl⟩
  refine Xh8 ?_
  refine ik 288 (fun k τ=>∃S:ae,S b6=some (.cells (flat (kB lM 288 k)))/\S b7=some (.cells (flat (kB lL 30 0)))/\(∀x,x≠b6->x≠b7->S x=s x)/\τ=⟨[(2,.arr b6 0 288 288),(3,.arr b7 0 30 30),(9,.int .i64 288),(10,.int .i64 k)],[],S⟩) BY ⟨S,h6,h7,hS,rfl⟩ (fun k hk J τ hτ hJ=>?_) (fun J τ hτ=>?_)
  ·obtain⟨S,h6,h7,hS,rfl⟩:=hτ
   have hlt:decide ((k:Int)<288)=true:=By
   have hw:ao ((k:Int)+1)=((k+1:Nat):Int):=H_
   have hl:=EO (l:=lM) sZ (k:=k) AT
   have ft:=(zY (kB lM 288 k) (n:=1) rfl (j:=(k:Int)) AT AT).1
   have AI:=fun x=>Jt (kB lM 288 k) (n:=1) rfl x (j:=(k:Int)) AT AT
   have hnx:=fun x hx=>EP (x:=x) sZ hk hx
   have hg:=ON hk
   rw[Int.toNat_natCast]at ft AI
   refine Xi4 hlt hw h6 ?_
   have go:∀x:Int,lM[k]? =some x->J ⟨[(2,.arr b6 0 288 288),(3,.arr b7 0 30 30),(9,.int .i64 288),(10,.int .i64 ((k+1:Nat):Int))],[],S.set b6 (.cells (setAt (flat (kB lM 288 k)) (k*1) [.int .i64 x]))⟩:=fun x hx=>by
    have e:setAt (flat (kB lM 288 k)) (k*1) [.int .i64 x]=flat (kB lM 288 (k+1)):=(AI x).trans (congrArg flat (hnx x hx))
    rw[e]
    exact hJ _ ⟨_,cc,(aj hne.symm).trans h7,fun y hy hz=>(aj hy).trans (hS y hy hz),rfl⟩
   refine⟨fun h=>⟨⟨AT,AT⟩,ft,go 8 ?_⟩,fun h=>⟨fun h2=>⟨⟨AT,AT⟩,ft,go 9 ?_⟩,fun h2=>⟨⟨AT,AT⟩,ft,go 7 ?_⟩⟩⟩
   ·rw[hg,if_pos Xb9]
   ·rw[hg,if_neg Xb9,if_pos (by simp at h2;omega)]
   ·rw[hg,if_neg Xb9,if_neg (by simp at h2;omega)]
  ·obtain⟨S,h6,h7,hS,rfl⟩:=hτ
   have hlt:decide ((288:Int)<288)=false:=BY
   show gx _ _ _ ⟨[(2,.arr b6 0 288 288),(3,.arr b7 0 30 30),(9,.int .i64 288),(10,.int .i64 288)],[],S⟩
   rw[EN sZ]at h6
   refine Xh6 hlt ?_
   refine ik 30 (fun k τ=>∃S:ae,S b6=some (.cells (flat lM))/\S b7=some (.cells (flat (kB lL 30 k)))/\(∀x,x≠b6->x≠b7->S x=s x)/\τ=⟨[(2,.arr b6 0 288 288),(3,.arr b7 0 30 30),(34,.int .i64 30),(35,.int .i64 k)],[],S⟩) BY ⟨S,h6,h7,hS,rfl⟩ (fun k hk J τ hτ hJ=>?_) (fun J τ hτ=>?_)
   ·obtain⟨S,h6,h7,hS,rfl⟩:=hτ
    have hlt:decide ((k:Int)<30)=true:=By
    have hw:ao ((k:Int)+1)=((k+1:Nat):Int):=H_
    have hD:lL.length=30:=rfl
    have hl:=EO (l:=lL) hD (k:=k) AT
    have ft:=(zY (kB lL 30 k) (n:=1) rfl (j:=(k:Int)) AT AT).1
    have AI:=Jt (kB lL 30 k) (n:=1) rfl (5:Int) (j:=(k:Int)) AT AT
    have hnx:=EP (x:=5) hD hk (by unfold lL;rw[List.getElem?_replicate,if_pos hk])
    rw[Int.toNat_natCast]at ft AI
    have e:setAt (flat (kB lL 30 k)) (k*1) [.int .i64 5]=flat (kB lL 30 (k+1)):=AI.trans (congrArg flat hnx)
    refine Xi7 hlt hw h7 e ?_
    exact⟨⟨AT,AT⟩,ft,hJ _ ⟨_,(aj hne).trans h6,cc,fun y hy hz=>(aj hz).trans (hS y hy hz),rfl⟩⟩
   ·obtain⟨S,h6,h7,hS,rfl⟩:=hτ
    have hlt:decide ((30:Int)<30)=false:=BY
    show gx _ _ _ ⟨[(2,.arr b6 0 288 288),(3,.arr b7 0 30 30),(34,.int .i64 30),(35,.int .i64 30)],[],S⟩
    rw[EN (l:=lL) (n:=30) rfl]at h7
    refine Xh6 hlt ?_
    refine xx (l:=lM) h6 sZ BY ?_
    refine Xh8 ?_
    have h7':(S.del b6) b7=some (.cells (flat lL)):=by
     unfold ae.del
     rw[if_neg hne.symm];exact h7
    refine xx (l:=lL) h7' rfl BY ?_
    refine Xh8 ?_
    subst hQ
    refine⟨rfl,?_⟩
    funext x
    unfold ae.del
    by_cases h1:x=b7
    ·rw[if_pos h1,h1,n7]
    ·rw[if_neg h1]
     by_cases h2:x=b6
     ·rw[if_pos h2,h2,n6]
     ·rw[if_neg h2];exact hS x h2 h1
section
variable{s0 s:ae}{b:List UInt8}{most:Int}{B BR:Nat}{z:ZS}{Q:List AV->ae->Prop}
def ND(hS:qh s0 s b most B BR z)(hb:b.length<72057594037927936)(hz:ZI b most z)
 (hq:∀s' p q,qh s0 s' b most B BR (lV (af b) z).2.2->((lV (af b) z).2.2.e≠0->ptr p/\ptr q)->((lV (af b) z).2.2.e=0->∃t d:HT,p=.ref t.B 0/\q=.ref d.B 0/\im s' t/\im s' d/\t.lens=(lV (af b) z).1/\d.lens=(lV (af b) z).2.1)->Q [p,q] s'):FN prog 175 [.ref B 0] s Q:=by
 have bP:room=140737488355328:=rfl
 refine FS 94 [⟨2,true,none⟩,⟨3,true,none⟩] 0x30fbb04e8d930906a6ce9186a6012735cccffce8762a2ddba466f398e9281cf9096fe35ffe8b6d23019400102413c029f9a3d9a402d24eb3089cbde5ad21a14d1a33ac9de7be7003e0905eae66a4035fa3305be3a7a16956a5c071f0453be172edd732af92e291a6f4d962adb5e781fdc5eaaa965dbcd6ff76052c7625155610d1610cbdad4944d4bd4872a11c9ff8286021cbc0046c30f08b40c59df7088a069b16b4aa44e4b8b4d98cdf04f13042edd5cceb2f073d9af61f3cedf5b428d8155c799a0a02c4a5314bb75425156939da9db73c2e5975e06899b8b8ca18cc4ccbccff0c31d9dee3800af16e3050b1cad14fb7515d5dd730826a57002bc8de8a77afff47dca6d462bfa1b5cc1d51fc13bdd13502072c3d7a13386f9c89dc7db072287fe410d52f3de596f7c81914831a02cfd98a78ce6723f439b30a577721efcd8edf40d8f5ed5269e9fbca9135115c3cd561be7c9df1200dd1b6fb4f7b90831bb2477f18d3dd823687f0c9f543d62bdd19cce9aa927d12552007bee6b11348aa2ca1bddfac23a9ad56d1e6d16855f74b13ea65388478b ?_
 refine Xh8 ?_
 have p5:(2:Int)^5=32:=BY
 have p4:(2:Int)^4=16:=BY
 have h1:=cz (b:=b) (n:=5) hz.1
 have h2:=cz (b:=b) (n:=5) h1.1
 have h3:=cz (b:=b) (n:=4) h2.1
 have hz1:ZI b most (ar (af b) 5 z).2:=⟨h1.1,Xf8⟩
 have hz2:ZI b most (ar (af b) 5 (ar (af b) 5 z).2).2:=⟨h2.1,Xc0⟩
 have hH:kp (af b) z=((ar (af b) 5 z).1+257,(ar (af b) 5 (ar (af b) 5 z).2).1+1,(ar (af b) 4 (ar (af b) 5 (ar (af b) 5 z).2).2).1+4,if(ar (af b) 5 z).1+257>286\/(ar (af b) 5 (ar (af b) 5 z).2).1+1>30 then(ar (af b) 4 (ar (af b) 5 (ar (af b) 5 z).2).2).2.fail 11 else(ar (af b) 4 (ar (af b) 5 (ar (af b) 5 z).2).2).2):=rfl
 have hHl:=Ge (b:=b) hz.1
 refine zc hS hb (n:=5) BY hz fun s1 hS1 q1 q2=>?_
 refine Xh8 ?_
 refine zc hS1 hb (n:=5) BY hz1 fun s2 hS2 q3 q4=>?_
 refine Xh8 ?_
 refine zc hS2 hb (n:=4) BY hz2 fun s3 hS3 q5 q6=>?_
 clear hS hS1 hS2 q1 q2 q3 q4 q5 q6
 rw[p5]at h1 h2
 rw[p4]at h3
 generalize ar (af b) 4 (ar (af b) 5 (ar (af b) 5 z).2).2=k1 at*
 generalize ar (af b) 5 (ar (af b) 5 z).2=m1 at*
 generalize ar (af b) 5 z=n1 at*
 have e1:ao (ao (n1.1+256)+1)=n1.1+257:=by rw[ak (n:=n1.1+256) AT AT,ak AT AT];omega
 have e2:ao (m1.1+1)=m1.1+1:=ak AT AT
 have e3:ao (k1.1+4)=k1.1+4:=ak AT AT
 refine Xj5 e1 e2 e3 ?_
 obtain⟨N,M,K,Z4,hN⟩:∃N M K Z4,kp (af b) z=(N,M,K,Z4):=⟨_,_,_,_,rfl⟩
 rw[hN]at hH hHl
 injection hH with a1 hH
 injection hH with a2 hH
 injection hH with a3 a4
 rw[<-a1,<-a2]at*
 rw[<-a3]at*
 clear a1 a2 a3 e1 e2 e3 h1 h2 h3 hz1 hz2
 simp only at hHl
 refine(?fst:(∀s4,qh s0 s4 b most B BR Z4->(?G:ae->Prop) s4)->_) ?rest
 case fst=>
  intro rest
  refine⟨fun hc=>?_,fun hc=>?_⟩
  ·refine xq hS3 11 fun s4 hS4 _ _=>?_
   rw[if_pos Xf9]at a4
   rw[<-a4]at hS4
   refine Xi8 ?_
   exact rest s4 hS4
  ·rw[if_neg Xf9]at a4
   rw[<-a4]at hS3
   exact rest s3 hS3
 clear hS3 a4
 intro s4 hS4
 refine⟨AT,AT,AT,fun bo hbo=>?_⟩
 refine FE.app (yX (r:=gW) rfl) ?_
 have ho0:s0 bo=none:=by
  cases h:s0 bo with
  |none=>rfl
  |some o=>rw[hS4.sub _ _ h]at hbo;cases hbo
 have hoB:bo≠B:=fun e=>by subst e;rw[hS4.hB]at hbo;cases hbo
 have hoR:bo≠BR:=fun e=>by subst e;rw[hS4.hR]at hbo;cases hbo
 have hz4:ZI b most Z4:=⟨hHl.1,by rw[hHl.2.2.1];exact hz.2⟩
 have hK:(gW.length:Int)=19:=rfl
 have hL:part gW 0 K=gW.take K.toNat:=by
  unfold part
  rw[Int.sub_zero];rfl
 have hLb:∀x∈gW.take K.toNat,0<=x/\x<19:=fun x hx=>by
  have:∀x∈gW,0<=x/\x<19:=BY
  exact this x (List.mem_of_mem_take hx)
 have hLl:(gW.take K.toNat).length<=19:=by
  rw[List.length_take]
  have:gW.length=19:=rfl
  omega
 refine Xi8 ?_
 refine⟨⟨AT,AT,AT⟩,?_⟩
 rw[hL]
 have hdL:m4 (af b) z=qZ (af b) (Bg (af b) (gW.take K.toNat) (List.replicate 19 0) Z4).1 (N+M).toNat ((N+M).toNat+1) [] (gh (Bg (af b) (gW.take K.toNat) (List.replicate 19 0) Z4).1 (Bg (af b) (gW.take K.toNat) (List.replicate 19 0) Z4).2):=by
  unfold m4
  rw[hN]
 have hOl:=GJ (b:=b) (gW.take K.toNat) (List.replicate 19 0) Z4 hz4.1
 generalize hO:Bg (af b) (gW.take K.toNat) (List.replicate 19 0) Z4=O at hdL hOl
 generalize gW.take K.toNat=L at hLb hLl hO
 clear hL hK
 refine ik L.length (fun k τ=>∃(S:ae)(of:List Int)(Zk:ZS),qh s0 S b most B BR Zk/\ZI b most Zk/\S bo=some (.cells (flat of))/\of.length=19/\Bg (af b) (L.drop k) of Zk=O/\τ=⟨[(0,.ref B 0),(4,.int .i64 N),(5,.int .i64 M),(7,.arr bo 0 19 19),(41,.sl false 1 L.length (flat L)),(42,.int .i64 L.length),(43,.int .i64 k)],[],S⟩) AT ?_ (fun k hk J τ hτ hJ=>?_) (fun J τ hτ=>?_)
 ·exact⟨_,List.replicate 19 0,Z4,hS4.off ho0 hoB hoR (fun y hy=>aj hy),hz4,cc,rfl,hO,rfl⟩
 ·obtain⟨S,of,Zk,hS,hzk,hSo,hof,hOk,rfl⟩:=hτ
  have hlt:decide ((k:Int)<(L.length:Int))=true:=By
  have hw:ao ((k:Int)+1)=((k+1:Nat):Int):=H_
  have hx:=hLb (ix L (k:Int)) Xf1
  rw[List.drop_eq_getElem_cons hk,Bg,<-eK hk]at hOk
  refine Xh6 hlt ?_
  generalize ix L (k:Int)=x at hx hOk
  refine⟨⟨AT,AT⟩,?_⟩
  have hn:=cz (b:=b) (n:=3) hzk.1
  refine zc hS hb (n:=3) BY hzk fun S2 hS2 _ Ix=>?_
  have Sb:S2 bo=some (.cells (flat of)):=(Ix bo hoB hoR).trans hSo
  have AI:setAt (flat of) (x.toNat*1) [.int .i64 (ar (af b) 3 Zk).1]=flat (vm of x (ar (af b) 3 Zk).1):=BX of x (ar (af b) 3 Zk).1 1 rfl
  have ft:=(zY of (n:=1) rfl (j:=x) hx.1 AT).1
  simp -implicitDefEqProofs only[go_sem,seval,Sb,AI,hw,bL]
  refine⟨⟨AT,AT⟩,ft,?_⟩
  exact hJ _ ⟨_,vm of x (ar (af b) 3 Zk).1,(ar (af b) 3 Zk).2,hS2.off ho0 hoB hoR (fun y hy=>aj hy),⟨hn.1,by rw[hn.2.2.2.2.1];exact hzk.2⟩,cc,by rw[uO of hx.1 AT];exact hof,hOk,rfl⟩
 ·obtain⟨S,of,Zk,hS,hzk,hSo,hof,hOk,rfl⟩:=hτ
  have hlt:decide ((L.length:Int)<(L.length:Int))=false:=B_
  rw[List.drop_eq_nil_of_le (Nat.le_refl _),Bg]at hOk
  subst hOk
  refine Xh6 hlt ?_
  refine xx (l:=of) hSo hof BY ?_
  have hS5:qh s0 (S.del bo) b most B BR Zk:=hS.off ho0 hoB hoR (fun y hy=>by unfold ae.del;rw[if_neg hy])
  refine Xh8 ?_
  simp only at hdL hOl
  have hc:=pn of Zk
  have hz6:ZI b most (gh of Zk):=⟨by rw[hc.1];exact hzk.1,by rw[hc.2.1];exact hzk.2⟩
  have hnm:ao (N+M)=(((N+M).toNat:Nat):Int):=H_
  refine qT hS5 hof (fun S6 hS6 he ht=>?_) (fun S6 t hS6 he ht hx hl=>?_)
  ·refine Xh8 ?_
   refine SL hS6 he _ ?_
   have hB:=hS6.hB
   rw[xN he]at hdL
   have hdT:lV (af b) z=([],[],gh of Zk):=by
    unfold lV
    rw[hdL]
    exact if_pos he
   rw[hdT]at hq
   have hcc:((gh of Zk).e !=0)=true:=E_
   refine Xi2 hB hcc ?_
   exact hq S6 _ _ hS6 (fun _=>⟨.inl rfl,.inl rfl⟩) (fun e=>absurd e he)
  ·refine Xh6 hnm ?_
   refine SM hS6 hb hz6 hx AT fun S7 o hS7 ho=>?_
   rw[hl]at ho hS7
   rw[<-hdL]at ho hS7
   have hB:=hS7.hB
   have hdl:=Gf (b:=b) hz.1
   rw[hN]at hdl
   generalize hD:m4 (af b) z=D at hdL hdl ho hS7 hB
   refine Xj6 hB ?_
   refine⟨fun he=>?_,fun he=>?_⟩
   ·have he:D.2.e≠0:=E_
    have hdT:lV (af b) z=([],[],D.2):=by
     unfold lV
     rw[hD]
     exact if_pos he
    rw[hdT]at hq
    exact hq S7 _ _ hS7 (fun _=>⟨.inl rfl,.inl rfl⟩) (fun e=>absurd e he)
   ·have he:D.2.e=0:=E_
    have ho:=ho he
    obtain⟨h1,h2⟩:=hdl.2.2.2 he
    simp only at h2
    have hdT:lV (af b) z=(D.1.take N.toNat,D.1.drop N.toNat,gh (D.1.drop N.toNat) (gh (D.1.take N.toNat) (if D.1.getD 256 0=0 then D.2.fail 11 else D.2))):=by
     unfold lV
     rw[hD,hN]
     exact if_neg I_
    rw[hdT]at hq
    subst ho
    have hix:ix D.1 256=D.1.getD 256 0:=by
     have h3:256<D.1.length:=AT
     have:=eK h3
     rw[List.getD_eq_getElem?_getD,List.getElem?_eq_getElem h3]
     exact this
    have hp1:part D.1 0 N=D.1.take N.toNat:=by
     unfold part
     rw[Int.sub_zero];rfl
    have hp2:part D.1 N (D.1.length:Int)=D.1.drop N.toNat:=by
     unfold part
     rw[List.take_of_length_le O_]
    rw[hix]
    refine⟨⟨AT,AT⟩,?_⟩
    refine⟨fun h=>xq hS7 11 fun S8 hS8 _ _=>?_,fun h=>?_⟩
    all_goals first
     |have hS8:qh s0 S7 b most B BR (if D.1.getD 256 0=0 then D.2.fail 11 else D.2):=by rw[if_neg IN];exact hS7
     |simp -implicitDefEqProofs only[go_sem,Nat.reduceBEq,Nat.reduceAdd,Nat.reduceMul,Nat.reduceLeDiff,Nat.reduceEqDiff,Nat.reduceBNe,UInt8.reduceToNat,UInt32.reduceToNat,bL]
      replace hS8:qh s0 S8 b most B BR (if D.1.getD 256 0=0 then D.2.fail 11 else D.2):=by rw[if_pos IN];exact hS8
    all_goals
     refine⟨⟨AT,AT,AT⟩,⟨AT,AT,AT⟩,?_⟩
     rw[hp1,hp2]
     generalize(if D.1.getD 256 0=0 then D.2.fail 11 else D.2)=Z7 at*
     have c2:=pn (D.1.drop N.toNat) (gh (D.1.take N.toNat) Z7)
     refine qT hS8 rfl (fun S9 hS9 he9 ht9=>?_) (fun S9 t1 hS9 he9 ht9 hx9 hl9=>?_)
     ·refine Xh8 ?_
      refine qT hS9 rfl (fun S10 MV Kg _=>?_) (fun S10 t2 MV Kg _ _ _=>absurd (c2.2.2 Kg).1 he9)
      refine Xh8 ?_
      exact hq S10 _ _ MV (fun _=>⟨.inl rfl,.inl rfl⟩) (fun e=>absurd e Kg)
     ·refine Xh8 ?_
      refine qT hS9 rfl (fun S10 MV Kg _=>?_) (fun S10 t2 MV Kg ae3 ae8 aeS=>?_)
      ·refine Xh8 ?_
       exact hq S10 _ _ MV (fun _=>⟨.inr ⟨_,rfl⟩,.inl rfl⟩) (fun e=>absurd e Kg)
      ·refine Xh8 ?_
       exact hq S10 _ _ MV (fun e=>absurd Kg e) (fun _=>⟨t1,t2,rfl,rfl,ae3 t1 hx9,ae8,hl9,aeS⟩)
def N8(hS:qh s0 s b most B BR z)(hb:b.length<72057594037927936)(hM:most<=16777216)(hz:ZI b most z)(hq:∀s',qh s0 s' b most B BR (vW b most z).2->Q [.bool (vW b most z).1] s'):FN prog 130 [.ref B 0] s Q:=by
 refine FS 74 [⟨2,true,none⟩] 0x582e9f67a1f2d437cd4454f73ae55cfe5337c517d6109d111a73d4c6792ecb13e997875495c2b3d2402cc79bc9231b0a25aac5ad51446b255635e9aedfe20aa0a79b532d609799009739a9bfc4d7b50ab9af4206f35b1a9a458ed56f9342be10906301284de81be1a42a7fd101e3d9cdc60606665e19c0e4d7a2d1ef205f31dab6549bdb848dedc9544da5f484799ea090bb9c9795d3ff93c902c2142b4dfcc456cbf7ecab6c692d855d1eb5f69f803e8c1feaccefb2587d30a36e72ce61c5f0cb4a4328118ac0e2b0c5cb527081146793e47e7f5b7b1e27662c06f66bdf50863679a7e1ea06d8cc8fa351bedce7da4dafa12bb41e0fbd8048c37f506c178824473a ?_
 refine Xh8 ?_
 have p1:(2:Int)^1=2:=BY
 have p2:(2:Int)^2=4:=BY
 have h1:=cz (b:=b) (n:=1) hz.1
 have h2:=cz (b:=b) (n:=2) h1.1
 have hz1:ZI b most (ar (af b) 1 z).2:=⟨h1.1,Xf8⟩
 have hz2:ZI b most (ar (af b) 2 (ar (af b) 1 z).2).2:=⟨h2.1,Xc0⟩
 have hE:∀Zf,(if(ar (af b) 2 (ar (af b) 1 z).2).2.e≠0 then(ar (af b) 2 (ar (af b) 1 z).2).2 else if(ar (af b) 2 (ar (af b) 1 z).2).1=0 then wL (af b) most (ar (af b) 2 (ar (af b) 1 z).2).2 else if(ar (af b) 2 (ar (af b) 1 z).2).1=1 then oY (af b) most lM lL (8*b.length+2) (ar (af b) 2 (ar (af b) 1 z).2).2 else if(ar (af b) 2 (ar (af b) 1 z).2).1=2 then Af b most (ar (af b) 2 (ar (af b) 1 z).2).2 else(ar (af b) 2 (ar (af b) 1 z).2).2.fail 11)=Zf->vW b most z=(decide ((ar (af b) 1 z).1=1)||decide (Zf.e≠0),Zf):=by rintro _ rfl;rfl
 refine zc hS hb (n:=1) BY hz fun s1 hS1 _ _=>?_
 refine Xh8 ?_
 refine zc hS1 hb (n:=2) BY hz1 fun s2 hS2 _ _=>?_
 clear hS hS1 h1 hz1
 generalize ar (af b) 1 z=n1 at*
 generalize ar (af b) 2 n1.2=k at*
 have hB2:=hS2.hB
 refine Xh6 hB2 ?_
 have hq2:∀Zf,(if k.2.e≠0 then k.2 else if k.1=0 then wL (af b) most k.2 else if k.1=1 then oY (af b) most lM lL (8*b.length+2) k.2 else if k.1=2 then Af b most k.2 else k.2.fail 11)=Zf->∀s',qh s0 s' b most B BR Zf->Q [.bool (n1.1==1||Zf.e !=0)] s':=fun Zf h s' hs=>by
  have e1:(Zf.e !=0)=decide (Zf.e≠0):=by rw[Bool.eq_iff_iff];simp
  have e2:(n1.1==1)=decide (n1.1=1):=rfl
  rw[hE Zf h]at hq
  rw[e1,e2]
  exact hq s' hs
 clear hE hq
 refine⟨fun he=>?_,fun he=>⟨fun h0=>?_,fun h0=>⟨fun h1=>?_,fun h1=>⟨fun h2=>?_,fun h2=>?_⟩⟩⟩⟩
 ·exact hq2 _ (if_pos E_) _ hS2
 ·have he:¬k.2.e≠0:=E_
  refine NB hS2 hb hM hz2 fun S hS=>?_
  have hB:=hS.hB
  refine Xh6 hB ?_
  exact hq2 _ (by rw[if_neg he,if_pos S_]) _ hS
 ·have he:¬k.2.e≠0:=E_
  have h3:=OO
  refine FE.app Wq ?_
  refine Xh8 ?_
  have he0:k.2.e=0:=E_
  have kL:gh lM k.2=k.2:=ξ
  have kD:gh lL k.2=k.2:=ξ
  refine qT hS2 sZ (fun S _ he2 _=>absurd he0 (by rw[kL]at he2;exact he2)) (fun S t hS _ _ hx hl=>?_)
  rw[kL]at hS
  refine Xh8 ?_
  refine qT hS (show lL.length=30 from rfl) (fun S _ he2 _=>absurd he0 (by rw[kD]at he2;exact he2)) (fun S4 d hS4 _ hx2 hd hld=>?_)
  rw[kD]at hS4
  refine Xh8 ?_
  refine HZ hS4 hb hM hz2 (hx2 t hx) hd fun S5 hS5=>?_
  have hB:=hS5.hB
  refine Xh6 hB ?_
  refine hq2 _ ?_ _ hS5
  rw[if_neg he,if_neg S_,if_pos K_,hl,hld]
 ·have he:¬k.2.e≠0:=E_
  have m6:∀S,qh s0 S b most B BR (Af b most k.2)->Q [.bool (n1.1==1||(Af b most k.2).e !=0)] S:=fun S h=>hq2 _ (by rw[if_neg he,if_neg S_,if_neg K_,if_pos Y_]) _ h
  refine ND hS2 hb hz2 fun S p q hS hp ht=>?_
  have hZ:=(Lr hz2).1
  have e0:Af b most k.2=oY (af b) most (lV (af b) k.2).1 (lV (af b) k.2).2.1 (8*b.length+2) (lV (af b) k.2).2.2:=rfl
  rw[e0]at m6
  clear e0 hq2
  generalize lV (af b) k.2=T at hZ m6 hS hp ht
  obtain⟨T1,T2,T3⟩:=T
  dsimp only at hZ m6 hS hp ht
  by_cases hd:T3.e=0
  ·obtain⟨t,d,rfl,rfl,h3,h4,h5,h6⟩:=ht hd
   subst h5 h6
   refine Xh8 ?_
   refine HZ hS hb hM hZ h3 h4 fun S5 hS5=>?_
   have hB:=hS5.hB
   refine Xh6 hB ?_
   exact m6 _ hS5
  ·rw[BN hd]at m6
   have hB:=hS.hB
   obtain⟨hp1,hp2⟩:=hp hd
   have hp3:=hp1
   have hp4:=hp2
   rcases hp1 with rfl|⟨x,rfl⟩<;>rcases hp2 with rfl|⟨y,rfl⟩
   all_goals
    refine Xh8 ?_
    refine RP hS hd hp3 hp4 ?_
    refine Xh6 hB ?_
    exact m6 _ hS
 ·have he:¬k.2.e≠0:=E_
  refine xq hS2 11 fun S hS _ _=>?_
  have hB:=hS.hB
  refine Xh6 hB ?_
  exact hq2 _ (by rw[if_neg he,if_neg S_,if_neg K_,if_neg Y_]) _ hS
end
def muI(b:List UInt8)(BR:Nat)(τ:St):Nat:=match τ.s BR with|some (.cells (.int .i64 n::_))=>(8*b.length -n).toNat|_=>0
def WQ{b:List UInt8}{most:Int}{s:ae}{ow:Bool}{Q:List AV->ae->Prop}(hb:b.length<140737488355328)(hm1:-9223372036854775808<=most)(hm2:most<=9223372036854775807)(hq:∀s' w,Sub s s'->Q [.sl w 1 (jy b most).1.length (flat (jy b most).1),.int .i64 (jy b most).2.1,.int .i64 (jy b most).2.2] s'):FN prog 83 [.sl ow 1 b.length (flat b),.int .i64 most] s Q:=by
 have bP:room=140737488355328:=rfl
 refine FS 46 [⟨4,true,none⟩,⟨5,true,none⟩,⟨6,true,none⟩] 0x2dd2bd79df0094a4457d2199907020fff3a764ed0e7209f9bb4b5a486981e8574c716aa929b27b5b755aa0bfa2d1adcf9755f80bad3c5fabaf686ceb4086620ead93a34d59690b7ccd095f27511db3e8ae8d2fc382f0fc5e66dcf6af728879fc031ef678870bdf6a0d768db5e5e067a915af25cd97062c7ef4b8552f0729f2ca207de167c8d9ea13e975b3008b2899bc674ffb5ad23f5b2e34c60bfd1e92f9b09cdaed6e44df2da5fba1d8658687d04862d7af4a79d8cac5e60b005b200798d0f2e49c ?_
 refine Xh8 ?_
 refine⟨fun hc=>?_,fun hc=>?_⟩
 ·have e:jy b most=([],0,2):=if_pos M_
  rw[e]at hq
  exact hq s _ fun _ _ h=>h
 ·have hc:¬(most<0\/most>16777216):=M_
  refine TK AT fun BR hBR=>?_
  refine Xh8 ?_
  intro B hB
  have hne:B≠BR:=fun e=>by subst e;rw[cc]at hB;cases hB
  have hB0:s B=none:=by rw[aj hne]at hB;exact hB
  have hS:qh s ((s.set BR (.cells [.int .i64 0,.bool false,.bool true,.sl false 1 b.length (flat b)])).set B (.cells [.ref BR 0,.int .i64 0,.sl true 1 0 [],.int .i64 most])) b most B BR ⟨0,0,[]⟩:=by
   refine⟨hB0,hBR,hne,fun x o hx=>?_,cc,(aj hne.symm).trans cc⟩
   have h1:x≠B:=fun e=>by subst e;rw[hB0]at hx;cases hx
   have h2:x≠BR:=fun e=>by subst e;rw[hBR]at hx;cases hx
   rw[aj h1,aj h2];exact hx
  have hZ0:ZI b most ⟨0,0,[]⟩:=⟨Nat.zero_le _,By⟩
  refine⟨fun τ=>∃S Z f,qh s S b most B BR Z/\ZI b most Z/\8*b.length+2<=f+Z.at_/\oC b most f Z=oC b most (8*b.length+2) ⟨0,0,[]⟩/\τ=⟨[(7,.ref B 0)],[],S⟩,muI b BR,⟨_,_,_,hS,hZ0,B_,rfl,rfl⟩,?_⟩
  clear hS hZ0 hB hBR hB0
  rintro τ ⟨S,Z,f,hS,hZ,hf,hI,rfl⟩
  obtain⟨f,rfl⟩:∃g,f=g+1:=⟨f -1,by have:=hZ.1;omega⟩
  rw[oC]at hI
  have hk:=FY hZ
  have hV:jy b most=if(oC b most (8*b.length+2) ⟨0,0,[]⟩).e≠0 then([],0,(oC b most (8*b.length+2) ⟨0,0,[]⟩).e)else((oC b most (8*b.length+2) ⟨0,0,[]⟩).out,((((oC b most (8*b.length+2) ⟨0,0,[]⟩).at_+7)/8:Nat):Int),0):=if_neg hc
  have hmu:∀S1 Z1 e,qh s S1 b most B BR Z1->muI b BR ⟨e,[],S1⟩=8*b.length -Z1.at_:=fun S1 Z1 e h=>by
   unfold muI
   dsimp only
   rw[h.hR]
   show((8*b.length:Nat) -(Z1.at_:Int):Int).toNat=_
   omega
  have m0:=hmu S Z [(7,.ref B 0)] hS
  refine Xh8 ?_
  refine N8 hS AT AT hZ fun S2 hS2=>?_
  refine Xh8 ?_
  generalize hL:oC b most (8*b.length+2) ⟨0,0,[]⟩=L at*
  generalize vW b most Z=W at*
  obtain⟨w,Z2⟩:=W
  dsimp only at hI hk hS2
  cases w with
  |false=>
   have h3:=hk.2.2 rfl
   rw[if_neg Bool.false_ne_true]at hI
   have m1:=hmu S2 Z2 [(7,.ref B 0)] hS2
   have h4:=hk.1.1
   refine Xh8 ?_
   refine⟨⟨_,_,_,hS2,hk.1,AT,hI,rfl⟩,?_⟩
   rw[m0,m1];omega
  |true=>
   rw[if_pos rfl]at hI
   subst hI
   have hB:=hS2.hB
   have hR:=hS2.hR
   refine Xh6 hB ?_
   refine⟨fun he=>?_,fun he=>?_⟩
   ·rw[if_pos E_]at hV
    rw[hV]at hq
    exact hq S2 _ hS2.sub
   ·rw[if_neg E_]at hV
    rw[hV]at hq
    have h4:=hk.1.1
    have hA:jK (AZ b Z2).Reader=some (Z2.at_:Int):=by
     unfold jK bT
     simp only[Bool.false_or,Bool.not_true,aB,Bool.false_eq_true,if_false]
    refine⟨[.int .i64 (Z2.at_:Int)],rfl,xb hR hA,?_⟩
    have e1:ao ((Z2.at_:Int)+7)=(Z2.at_:Int)+7:=ak AT AT
    have e2:ao (((Z2.at_:Int)+7).tdiv 8)=(((Z2.at_+7)/8:Nat):Int):=by
     have e3:((Z2.at_:Int)+7).tdiv 8=(((Z2.at_+7)/8:Nat):Int):=Xg0
     rw[e3,ak AT AT]
    refine Xj7 e1 e2 ?_
    exact⟨BY,hq S2 _ hS2.sub⟩
def IH:IC:=dec 0x41461efc4dc95833db902e79498bc
def II:IC:=dec 0x7ffbfe1121bfb57469b5b00285b0909c2cc5d4d6d6852bccf4eb816eddf34096c69223b4d9257b869af11d218db96f06e3e8b3a903cc8955b7fa869e53fc9a3c7737ca6c3ba3d5d5bd03e91ca300c6dc8fd37f05dcc3a23109494b896d0cac9d4ec13b8359d90ee6587702f6fbdc90d6e255ca50d67ac66037e38ba7aea94a7e7af3938757c3a81bdb32d9f652f14ac03f34840fc99cedef5e05be2fbe8c63a309f01d7225a25cd2edcf35d97c0c69a9b161c5ff9391e062f3f71ce45cad4b33dbc6cefb75aec6b2ba1f83ec19de939f6dee8aa3a032852cbb9c00bb57c714da3911a87e26f6ffa34c3f8f755143f7636c774cc792f95c7a63cd7f2c466d1b839e7d074a627
def Df:List kT:=[⟨4,false,some (1,false)⟩,⟨5,false,some (1,false)⟩,⟨6,false,some (1,false)⟩]
def SF:OR prog 42 55 Df IH 81 [4,5,6] II=true:=C_
def IG:IC:=dec 0x3112158f87224da861b61c4a34eb9169f247130593e8f59dd35c41ad
def Pv:m5 prog 81 14 [] IG=true:=C_
section
variable{b:List UInt8}{most:Int}
def Gu:∀(f:Nat)(Z:ZS),ZI b most Z->ZI b most (oC b most f Z)
 |0,_,h=>h
 |f+1,Z,h=>by
  rw[oC]
  have hk:=(FY h).1
  split
  ·exact hk
  ·exact Gu f _ hk
def LG:(jy b most).1.length<=16777216/\0<=(jy b most).2.1/\(jy b most).2.1<=b.length:=by
 unfold jy
 split
 ·exact⟨Nat.zero_le _,Int.le_refl _,by show(0:Int)<=_;omega⟩
 ·rename_i hc
  have h:=Gu (b:=b) (most:=most) (8*b.length+2) ⟨0,0,[]⟩ ⟨Nat.zero_le _,By⟩
  generalize oC b most (8*b.length+2) ⟨0,0,[]⟩=Z at h
  obtain⟨h1,h2⟩:=h
  dsimp only
  split
  ·exact⟨Nat.zero_le _,Int.le_refl _,by show(0:Int)<=_;omega⟩
  ·dsimp only
   omega
def Lz(h:Ke b=0):2<=b.length:=by
 unfold Ke at h
 split at h
 ·simp
 ·cases h
end
structure JF(s S:ae)(b4 b5 b6:Nat)(l:List UInt8)(n e:Int):Prop where
 n4:s b4=none
 n5:s b5=none
 n6:s b6=none
 d45:b4≠b5
 d46:b4≠b6
 d56:b5≠b6
 sub:Sub s S
 h4:∃w,S b4=some (.cells [.sl w 1 l.length (flat l)])
 h5:S b5=some (.cells [.int .i64 n])
 h6:S b6=some (.cells [.int .i64 e])
section
variable{s S S':ae}{b4 b5 b6:Nat}{l:List UInt8}{n e:Int}{Q:List AV->ae->Prop}
def JF.El(h:JF s S b4 b5 b6 l n e)(e':Int):JF s (S.set b6 (.cells [.int .i64 e'])) b4 b5 b6 l n e':=
 ⟨h.n4,h.n5,h.n6,h.d45,h.d46,h.d56,fun x o hx=>by
   have:x≠b6:=fun e=>by subst e;rw[h.n6]at hx;cases hx
   rw[aj this];exact h.sub x o hx,by rw[aj h.d46];exact h.h4,by rw[aj h.d56];exact h.h5,cc⟩
def JF.Ek(h:JF s S b4 b5 b6 l n e)(n':Int):JF s (S.set b5 (.cells [.int .i64 n'])) b4 b5 b6 l n' e:=
 ⟨h.n4,h.n5,h.n6,h.d45,h.d46,h.d56,fun x o hx=>by
   have:x≠b5:=fun e=>by subst e;rw[h.n5]at hx;cases hx
   rw[aj this];exact h.sub x o hx,by rw[aj h.d45];exact h.h4,cc,by rw[aj h.d56.symm];exact h.h6⟩
def JF.Hg(h:JF s S b4 b5 b6 l n e)(w:Bool)(l':List UInt8):JF s (S.set b4 (.cells [.sl w 1 l'.length (flat l')])) b4 b5 b6 l' n e:=
 ⟨h.n4,h.n5,h.n6,h.d45,h.d46,h.d56,fun x o hx=>by
   have:x≠b4:=fun e=>by subst e;rw[h.n4]at hx;cases hx
   rw[aj this];exact h.sub x o hx,⟨w,cc⟩,by rw[aj h.d45.symm];exact h.h5,by rw[aj h.d46.symm];exact h.h6⟩
def JF.more(h:JF s S b4 b5 b6 l n e)(hs:Sub S S'):JF s S' b4 b5 b6 l n e:=⟨h.n4,h.n5,h.n6,h.d45,h.d46,h.d56,fun x o hx=>hs _ _ (h.sub x o hx),by obtain⟨w,h4⟩:=h.h4;exact⟨w,hs _ _ h4⟩,hs _ _ h.h5,hs _ _ h.h6⟩
def SZ(h:JF s S b4 b5 b6 l n e)(hq:∀s',JF s s' b4 b5 b6 (if e≠0 then[]else l) (if e≠0 then 0 else n) e->Q [] s'):ZX prog 81 [.ref b4 0,.ref b5 0,.ref b6 0] S Q:=by
 refine ZX.of (kO mix) Pv rfl (Nat.le_of_ble_eq_true rfl) ?_
 rw[IG]
 refine Xh4 ?_
 obtain⟨w,h4⟩:=h.h4
 have h5:=h.h5
 have h6:=h.h6
 simp -implicitDefEqProofs only[go_sem,seval,h6,h4,h5,aj h.d45,aj h.d45.symm,bL]
 refine⟨fun he=>?_,fun he=>?_⟩
 ·have he:e≠0:=E_
  rw[if_pos he,if_pos he]at hq
  exact hq _ ((h.Hg true []).Ek 0)
 ·have he:¬e≠0:=E_
  rw[if_neg he,if_neg he]at hq
  exact hq _ h
end
def YE{b:List UInt8}{most:Int}{s:ae}{ow:Bool}{Q:List AV->ae->Prop}(hb:b.length<140737488355328)(hm1:-9223372036854775808<=most)(hm2:most<=9223372036854775807)(hq:∀s',Sub s s'->Q [.sl false 1 (jH b most).1.length (flat (jH b most).1),.int .i64 (jH b most).2.1,.int .i64 (jH b most).2.2] s'):FN prog 42 [.sl ow 1 b.length (flat b),.int .i64 most] s Q:=by
 refine FN.ofD (kO mix) SF rfl (Nat.le_of_ble_eq_true rfl) ?_
 rw[IH]
 refine Xh4 ?_
 refine Xh8 ?_
 intro b4 n4 b5 n5 b6 n6
 refine⟨[b4,b5,b6],rfl,?_⟩
 have d45:b4≠b5:=fun e=>by subst e;rw[cc]at n5;cases n5
 have d56:b5≠b6:=fun e=>by subst e;rw[cc]at n6;cases n6
 rw[aj d56.symm]at n6
 have d46:b4≠b6:=fun e=>by subst e;rw[cc]at n6;cases n6
 rw[aj d46.symm]at n6
 rw[aj d45.symm]at n5
 have hU:JF s (((s.set b4 (.cells [.sl true 1 0 []])).set b5 (.cells [.int .i64 0])).set b6 (.cells [.int .i64 0])) b4 b5 b6 [] 0 0:=by
  refine⟨n4,n5,n6,d45,d46,d56,fun x o hx=>?_,⟨true,by rw[aj d46,aj d45,cc];rfl⟩,by rw[aj d56,cc],cc⟩
  have h1:x≠b4:=fun e=>by subst e;rw[n4]at hx;cases hx
  have h2:x≠b5:=fun e=>by subst e;rw[n5]at hx;cases hx
  have h3:x≠b6:=fun e=>by subst e;rw[n6]at hx;cases hx
  rw[aj h3,aj h2,aj h1];exact hx
 generalize((s.set b4 (.cells [.sl true 1 0 []])).set b5 (.cells [.int .i64 0])).set b6 (.cells [.int .i64 0])=S at hU⊢
 clear n4 n5 n6
 have fin:∀(S:ae)(l:List UInt8)(n e:Int),JF s S b4 b5 b6 l n e->jH b most=(if e≠0 then[]else l,if e≠0 then 0 else n,e)->TQ prog 81 [b4,b5,b6] Df Q .ret ⟨[(4,.ref b4 0),(5,.ref b5 0),(6,.ref b6 0)],[],S⟩:=by
  intro S l n e h hv
  refine SZ h fun s' h'=>?_
  obtain⟨w,h4⟩:=h'.h4
  have h5:=h'.h5
  have h6:=h'.h6
  rw[hv]at hq
  rw[Df]
  refine Xi4 h4 h5 h6 ?_
  exact hq s' h'.sub
 have h5:=hU.h5
 have h6:=hU.h6
 obtain⟨w,h4⟩:=hU.h4
 rw[II]
 refine Xh4 ?_
 simp -implicitDefEqProofs only[go_sem,seval,h4,h5,h6,aj d45,aj d45.symm,aj d46,aj d46.symm,aj d56,aj d56.symm,bL]
 refine⟨fun hc=>fin _ [] 0 2 (((hU.Hg true []).Ek 0).El 2) (by rw[jH,if_pos M_];rfl),fun hc=>?_⟩
 have hc:¬(most<0\/most>16777216):=M_
 refine FE.app (Ev (abP b)) ?_
 simp -implicitDefEqProofs only[go_sem,Nat.reduceBEq,Nat.reduceAdd,Nat.reduceMul,Nat.reduceLeDiff,Nat.reduceEqDiff,Nat.reduceBNe,UInt8.reduceToNat,UInt32.reduceToNat,h4,h5,h6,aj d45,aj d45.symm,aj d46,aj d46.symm,aj d56,aj d56.symm,bL]
 refine⟨fun he=>?_,fun he=>?_⟩
 ·have he:Ke b≠0:=E_
  exact fin _ [] 0 (Ke b) ((((hU.El _).Hg true []).Ek 0).El (Ke b)) (by rw[jH,if_neg hc,if_pos he,if_pos he,if_pos he])
 have he:Ke b=0:=E_
 have hl:=Lz he
 have hU1:=hU.El (Ke b)
 generalize S.set b6 (.cells [.int .i64 (Ke b)])=S1 at hU1⊢
 clear h4 h5 h6 hU
 have hp:part b 2 (b.length:Int)=b.drop 2:=by
  unfold part
  rw[List.take_of_length_le O_];rfl
 rw[hp]
 refine⟨⟨AT,AT⟩,?_⟩
 have hvl:=LG (b:=b.drop 2) (most:=most)
 rw[List.length_drop]at hvl
 have hv:jH b most=if(jy (b.drop 2) most).2.2≠0 then([],0,(jy (b.drop 2) most).2.2)else if(b.length:Int)<(jy (b.drop 2) most).2.1+6 then([],0,10)else if(b.drop ((jy (b.drop 2) most).2.1+2).toNat).take 4≠Rg (Em (jy (b.drop 2) most).1)then([],0,12)else((jy (b.drop 2) most).1,(jy (b.drop 2) most).2.1+6,0):=by rw[jH,if_neg hc,if_neg E_]
 refine WQ O_ hm1 hm2 fun S2 w2 hs2=>?_
 have hU2:=hU1.more hs2
 clear hU1 hs2 hp
 generalize jy (b.drop 2) most=r at hv hvl⊢
 obtain⟨l,m,e⟩:=r
 dsimp only at hv hvl
 have h5:=hU2.h5
 have h6:=hU2.h6
 obtain⟨w3,h4⟩:=hU2.h4
 have e1:ao (m+2)=m+2:=ak AT AT
 have e2:ao (m+2+4)=m+2+4:=ak AT AT
 have e3:ao ((b.length:Int) -(m+2))=(b.length:Int) -(m+2):=ak AT AT
 simp -implicitDefEqProofs only[go_sem,seval,h4,h5,h6,e1,e2,e3,aj d45,aj d45.symm,aj d46,aj d46.symm,aj d56,aj d56.symm,bL]
 refine⟨fun he=>?_,fun he=>?_⟩
 ·have he:e≠0:=E_
  exact fin _ l m e ((((((hU2.Hg _ l).Ek m).El e).Hg _ l).Ek m).El e) (by rw[hv,if_pos he,if_pos he,if_pos he])
 have he:e=0:=E_
 rw[if_neg E_]at hv
 subst he
 have hUa:=(((hU2.Hg false l).Ek m).El 0).Ek (m+2)
 refine⟨fun hlt=>?_,fun hlt=>?_⟩
 ·have hlt:(b.length:Int)<m+6:=by have:=of_decide_eq_true hlt;omega
  exact fin _ l (m+2) 10 (((hUa.Hg false l).Ek (m+2)).El 10) (by rw[hv,if_pos hlt];rfl)
 have hlt:¬(b.length:Int)<m+6:=by have:=of_decide_eq_false hlt;omega
 rw[if_neg hlt]at hv
 have hp:part b (m+2) (m+2+4)=(b.drop (m+2).toNat).take 4:=by
  unfold part
  rw[show(m+2+4 -(m+2)).toNat=4 by omega]
 rw[hp]
 refine⟨⟨AT,AT,AT⟩,_,rfl,FM (XC l AT),?_⟩
 simp -implicitDefEqProofs only[go_sem,seval,h4,h5,h6,e1,e2,e3,aj d45,aj d45.symm,aj d46,aj d46.symm,aj d56,aj d56.symm,bL]
 refine⟨_,rfl,Bw (XE _),?_⟩
 simp -implicitDefEqProofs only[go_sem,seval,h4,h5,h6,e1,e2,e3,aj d45,aj d45.symm,aj d46,aj d46.symm,aj d56,aj d56.symm,bL]
 refine⟨_,rfl,BE (r:=((aC.mk ((b.drop (m+2).toNat).take 4)).b==(aC.mk (Rg (Em l))).b)) rfl,?_⟩
 simp -implicitDefEqProofs only[go_sem,seval,h4,h5,h6,e1,e2,e3,aj d45,aj d45.symm,aj d46,aj d46.symm,aj d56,aj d56.symm,bL]
 refine⟨fun hne=>?_,fun hne=>?_⟩
 ·have hne:(b.drop (m+2).toNat).take 4≠Rg (Em l):=ψ
  exact fin _ l (m+2) 12 (((hUa.Hg false l).Ek (m+2)).El 12) (by rw[hv,if_pos hne];rfl)
 ·have hne:¬(b.drop (m+2).toNat).take 4≠Rg (Em l):=ψ
  exact fin _ l (m+2+4) 0 (((hUa.Hg false l).Ek (m+2+4)).El 0) (by rw[hv,if_neg hne,show m+6=m+2+4 by omega];rfl)
def YD{b:List UInt8}{most:Int}{s:ae}{ow:Bool}(hb:b.length<140737488355328)(hm1:-9223372036854775808<=most)(hm2:most<=9223372036854775807):FE prog 42 [.sl ow 1 b.length (flat b),.int .i64 most] s [.sl false 1 (jH b most).1.length (flat (jH b most).1),.int .i64 (jH b most).2.1,.int .i64 (jH b most).2.2] s:=FN.Hv (YE hb hm1 hm2 fun s' h=>⟨s,h,rfl,rfl⟩)
def jW(b:List UInt8)(most:Int):Option (List UInt8×Int×Int):=aI (b.length<140737488355328/\-9223372036854775808<=most/\most<=9223372036854775807) (some (jH b most))
def DN{b:List UInt8}{most:Int}{s:ae}{r:List UInt8×Int×Int}(h:jW b most=some r):FE prog 42 [.sl false 1 b.length (flat b),.int .i64 most] s [.sl false 1 r.1.length (flat r.1),.int .i64 r.2.1,.int .i64 r.2.2] s:=by
 unfold jW aI at h
 split at h
 ·rename_i hc
  injection h with h
  subst h
  exact YD hc.1 hc.2.1 hc.2.2
 ·cases h
abbrev rC(b:List UInt8)(most:Int)(z:ZS):List AV:=[.sl false 1 (af b).length (flat (af b)),.int .i64 (z.at_:Int),.int .i64 z.e,.sl true 1 z.out.length (flat z.out),.int .i64 most]
structure RI(s0 s:ae)(b:List UInt8)(most:Int)(B:Nat)(z:ZS):Prop where
 n0:s0 B=none
 sub:Sub s0 s
 hB:s B=some (.cells (rC b most z))
section
variable{s0 s:ae}{b:List UInt8}{most:Int}{B:Nat}{z:ZS}{Q:List AV->ae->Prop}
def RI.yC(h:RI s0 s b most B z)(z':ZS):RI s0 (s.set B (.cells (rC b most z'))) b most B z':=by
 refine⟨h.n0,fun x o hx=>?_,cc⟩
 have h1:x≠B:=fun e=>by subst e;rw[h.n0]at hx;cases hx
 rw[aj h1]
 exact h.sub _ _ hx
theorem RI.off{s':ae}(h:RI s0 s b most B z){y:Nat}(hy:s0 y=none)(h1:y≠B)(hs:∀x,x≠y->s' x=s x):RI s0 s' b most B z:=
 ⟨h.n0,fun x o hx=>by
   have:x≠y:=fun e=>by subst e;rw[hy]at hx;cases hx
   rw[hs x this];exact h.sub x o hx,by rw[hs B h1.symm];exact h.hB⟩
def uH(hS:RI s0 s b most B z)(hb:b.length<72057594037927936){n:Nat}(hn:n<=31)(hz:ZI b most z)(hq:∀s',RI s0 s' b most B (ar (af b) n z).2->(∀y,y≠B->s' y=s y)->Q [.int .i64 (ar (af b) n z).1] s'):FN prog 134 [.ref B 0,.int .i64 (n:Int)] s Q:=dk (r_0:=jX b most z) hS.hB ⟨_,CX AT hn hz.1,hq _ (hS.yC _) fun y h=>aj h⟩
def Dh(hS:RI s0 s b most B z)(e:Int)(hq:∀s',RI s0 s' b most B (z.fail e)->(∀y,y≠B->s' y=s y)->Q [] s'):FN prog 139 [.ref B 0,.int .i64 e] s Q:=cU (r_0:=jX b most z) hS.hB ⟨_,qM z e,hq _ (hS.yC _) fun y h=>aj h⟩
def TX(hS:RI s0 s b most B z)(hb:b.length<72057594037927936)(hM:most<=16777216)(hz:ZI b most z)(hq:∀s',RI s0 s' b most B (wL (af b) most z)->Q [] s'):FN prog 135 [.ref B 0] s Q:=yi (r_0:=jX b most z) hS.hB ⟨_,TI AT hM hz.1,hq _ (hS.yC _)⟩
def Ma(hS:RI s0 s b most B z)(hb:b.length<72057594037927936)(hM:most<=16777216)(hz:ZI b most z)(lt ld:List Int)(hq:∀s',RI s0 s' b most B (oY (af b) most lt ld (8*b.length+2) (gh ld (gh lt z)))->Q [] s'):FN prog 137 [.ref B 0,.sl false 1 lt.length (flat lt),.sl false 1 ld.length (flat ld)] s Q:=zj (r_0:=jX b most z) hS.hB ⟨_,Yd hb hM lt ld hz,hq _ (hS.yC _)⟩
def acs{l:List Int}{cd:List UInt32}{n:Int}{s:ZS}(he:s.e≠0):eW (jX b most s) l cd n=some ([],jX b most s):=by
 suffices h:∃z:List Int×aJ,eW (jX b most s) l cd n=some z/\z=([],jX b most s) by obtain⟨z,h1,rfl⟩:=h;exact h1
 unfold eW
 refine gy (fun z=>ir (fun x=>x) (fun x=>x) z=([],jX b most s)) (lW (fun z=>ir (fun x=>x) (fun x=>x) z=([],jX b most s))
  (cF (fun(z:List Int×Int×aJ)=>z=([],0,jX b most s)) (fun _=>0) _ rfl BY ?_) ?_) ?_
 ·rintro _ rfl
  simp only
  rw[if_neg I_]
  exact⟨_,rfl,rfl⟩
 ·rintro(z|z) rfl<;>exact⟨_,rfl,rfl⟩
 ·rintro(z|z) rfl<;>exact⟨_,rfl,rfl⟩
theorem JX{l:List Int}{z:ZS}(he:z.e≠0):gh l z=z:=by unfold gh ZS.fail;rw[if_neg he];split<;>rfl
def Nm(hS:RI s0 s b most B z)(l:List Int){n:Nat}(hn:l.length=n)(hq:∀s' cd,RI s0 s' b most B (gh l z)->(z.e=0->0<=yG l->DR l cd)->Q [.sl false 1 cd.length (flat cd)] s'):FN prog 181 [.ref B 0,.sl false 1 n (flat l)] s Q:=by
 obtain⟨cd,hcd,hck⟩:=rCd (b:=b) (most:=most) l z
 subst hn
 exact mL (r_0:=jX b most z) (l_1:=l) hS.hB ⟨_,hcd,hq _ cd (hS.yC _) hck⟩
def TT(hS:RI s0 s b most B z)(hb:b.length<72057594037927936)(hz:ZI b most z){l:List Int}{m:Nat}(hm:l.length=m){cd:List UInt32}(hc:z.e=0->va l/\DR l cd){n:Nat}(hn:n<1000)(hq:∀s',RI s0 s' b most B (qZ (af b) l n (n+1) [] z).2->Q [.sl true 1 (qZ (af b) l n (n+1) [] z).1.length (flat (qZ (af b) l n (n+1) [] z).1)] s'):FN prog 186 [.ref B 0,.sl false 1 m (flat l),.sl false 1 cd.length (flat cd),.int .i64 (n:Int)] s Q:=by
 subst hm
 refine wI (r_0:=jX b most z) (l_1:=l) hS.hB ⟨((qZ (af b) l n (n+1) [] z).1,jX b most (qZ (af b) l n (n+1) [] z).2),?_,hq _ (hS.yC _)⟩
 by_cases he:z.e=0
 ·exact afH AT (hc he).1 (hc he).2 hn hz.1
 ·rw[xN he]
  exact acs he
def Wo(hS:RI s0 s b most B z)(hb:b.length<72057594037927936)(hM:most<=16777216)(hz:ZI b most z)(hq:∀s',RI s0 s' b most B (Af b most z)->Q [] s'):FN prog 138 [.ref B 0] s Q:=by
 have bP:room=140737488355328:=rfl
 refine FS 78 [] 0x43ce161335405742c0d8b80acdb3108beb49f49eeb46eb5bdaf9ae6c521fda3054d9a99a6eb27c0a8c1f87911bbe61c9d4a76d1add721358f23c689202f119214364608f0232b21d32d198de6b16a75a8cb7c584428225db4631dbe614dad65f8346ec5e37b15445c692ae8d2fc0b3676e9ccba49a9032e2fc49ed278b3c899704815260647633734ccd4040e9739d446b0de7ce634f8ca7f73fe1c35913eb358a70f716edd127ad95aa27741241ee9ae14d57aab449f8242fff9df0e9e4a74b5c95956367a82fcf1ea1a39fda0fda8e8e3bd956ab2e3e288707fc53e0fa402b383b434a533569856a77b8d5041cc52beb99edae51cdd4f907fcc418ed7c5ef2052fdae775018d916024a0459994c9e60bdfa113b235b0a09d834f0015cf782170361c75a5e8de6a2954d2d34012a29fb2d ?_
 refine Xi8 ?_
 have p5:(2:Int)^5=32:=BY
 have p4:(2:Int)^4=16:=BY
 have h1:=cz (b:=b) (n:=5) hz.1
 have h2:=cz (b:=b) (n:=5) h1.1
 have h3:=cz (b:=b) (n:=4) h2.1
 have hz1:ZI b most (ar (af b) 5 z).2:=⟨h1.1,Xf8⟩
 have hz2:ZI b most (ar (af b) 5 (ar (af b) 5 z).2).2:=⟨h2.1,Xc0⟩
 have hz3:ZI b most (ar (af b) 4 (ar (af b) 5 (ar (af b) 5 z).2).2).2:=⟨h3.1,by rw[h3.2.2.2.2.1];exact hz2.2⟩
 have hH:kp (af b) z=((ar (af b) 5 z).1+257,(ar (af b) 5 (ar (af b) 5 z).2).1+1,(ar (af b) 4 (ar (af b) 5 (ar (af b) 5 z).2).2).1+4,if(ar (af b) 5 z).1+257>286\/(ar (af b) 5 (ar (af b) 5 z).2).1+1>30 then(ar (af b) 4 (ar (af b) 5 (ar (af b) 5 z).2).2).2.fail 11 else(ar (af b) 4 (ar (af b) 5 (ar (af b) 5 z).2).2).2):=rfl
 have hHl:=Ge (b:=b) hz.1
 refine uH hS hb (n:=5) BY hz fun s1 hS1 _=>?_
 refine Xi8 ?_
 refine uH hS1 hb (n:=5) BY hz1 fun s2 hS2 _=>?_
 refine Xi8 ?_
 refine uH hS2 hb (n:=4) BY hz2 fun s3 hS3 _=>?_
 clear hS hS1 hS2 hz1 hz2
 rw[p5]at h1 h2
 rw[p4]at h3
 generalize ar (af b) 4 (ar (af b) 5 (ar (af b) 5 z).2).2=k1 at*
 generalize ar (af b) 5 (ar (af b) 5 z).2=m1 at*
 generalize ar (af b) 5 z=n1 at*
 have e1:ao (257+n1.1)=n1.1+257:=H_
 have e2:ao (1+m1.1)=m1.1+1:=H_
 have e3:ao (4+k1.1)=k1.1+4:=H_
 have hB:=hS3.hB
 refine Xi5 e1 e2 e3 hB ?_
 obtain⟨N,M,K,Z4,hN⟩:∃N M K Z4,kp (af b) z=(N,M,K,Z4):=⟨_,_,_,_,rfl⟩
 rw[hN]at hH hHl
 injection hH with a1 hH
 injection hH with a2 hH
 injection hH with a3 a4
 rw[<-a1,<-a2]at*
 rw[<-a3]at*
 clear a1 a2 a3 e1 e2 e3 h1 h2 h3
 simp only at hHl
 refine(?fst:(∀s4,RI s0 s4 b most B Z4->(?G:ae->Prop) s4)->_) ?rest
 case fst=>
  intro rest
  refine⟨fun hc=>?_,fun hc=>?_⟩
  ·refine Dh hS3 11 fun s4 hS4 _=>?_
   rw[if_pos Xf9]at a4
   rw[<-a4]at hS4
   refine Xi8 ?_
   exact rest s4 hS4
  ·have h4:Z4=k1.2:=by
    rw[a4]
    split
    ·rename_i h5
     have:k1.2.e≠0:=fun e=>by rw[e]at hc;simp at hc;omega
     unfold ZS.fail
     exact if_neg this
    ·rfl
   rw[<-h4]at hS3
   exact rest s3 hS3
 clear hS3 a4 hz3 hB
 intro s4 hS4
 refine⟨AT,AT,AT,fun bo hbo=>?_⟩
 have ho0:s0 bo=none:=by
  cases h:s0 bo with
  |none=>rfl
  |some o=>rw[hS4.sub _ _ h]at hbo;cases hbo
 have hoB:bo≠B:=fun e=>by subst e;rw[hS4.hB]at hbo;cases hbo
 have hz4:ZI b most Z4:=⟨hHl.1,by rw[hHl.2.2.1];exact hz.2⟩
 obtain⟨kk,rfl⟩:∃kk:Nat,K=kk:=⟨K.toNat,AT⟩
 have hL:gW.take kk=gW.take kk:=rfl
 have hdL:m4 (af b) z=qZ (af b) (Bg (af b) (gW.take kk) (List.replicate 19 0) Z4).1 (N+M).toNat ((N+M).toNat+1) [] (gh (Bg (af b) (gW.take kk) (List.replicate 19 0) Z4).1 (Bg (af b) (gW.take kk) (List.replicate 19 0) Z4).2):=by
  unfold m4
  rw[hN]
  rfl
 have hOl:=GJ (b:=b) (gW.take kk) (List.replicate 19 0) Z4 hz4.1
 generalize hO:Bg (af b) (gW.take kk) (List.replicate 19 0) Z4=O at hdL hOl
 have hLl:(gW.take kk).length=kk:=by
  rw[List.length_take]
  have:gW.length=19:=rfl
  omega
 have hLb:∀x∈gW.take kk,0<=x/\x<19:=fun x hx=>by
  have:∀x∈gW,0<=x/\x<19:=BY
  exact this x (List.mem_of_mem_take hx)
 have hLi:∀k:Nat,k<kk->∀h:k<(gW.take kk).length,ix gW (k:Int)=(gW.take kk)[k]:=fun k hk h=>by
  have:gW.length=19:=rfl
  rw[eK AT,List.getElem_take]
 generalize gW.take kk=L at hLb hLl hLi hO
 clear hL
 refine ik kk (fun k τ=>∃(S:ae)(of:List Int)(Zk:ZS),RI s0 S b most B Zk/\ZI b most Zk/\S bo=some (.cells (flat of))/\of.length=19/\Bg (af b) (L.drop k) of Zk=O/\τ=⟨[(0,.ref B 0),(2,.int .i64 N),(3,.int .i64 M),(4,.int .i64 kk),(5,.arr bo 0 19 19),(6,.int .i64 k)],[],S⟩) AT ?_ (fun k hk J τ hτ hJ=>?_) (fun J τ hτ=>?_)
 ·exact⟨_,List.replicate 19 0,Z4,hS4.off ho0 hoB (fun y hy=>aj hy),hz4,cc,rfl,hO,rfl⟩
 ·obtain⟨S,of,Zk,hS,hzk,hSo,hof,hOk,rfl⟩:=hτ
  have hlt:decide ((k:Int)<(kk:Int))=true:=By
  have hw:ao ((k:Int)+1)=((k+1:Nat):Int):=H_
  have hx:=hLb (ix gW (k:Int)) (by rw[hLi k hk AT];exact List.getElem_mem _)
  rw[List.drop_eq_getElem_cons AT,Bg,<-hLi k hk AT]at hOk
  refine Xj6 hlt ?_
  have hn:=cz (b:=b) (n:=3) hzk.1
  refine uH hS hb (n:=3) BY hzk fun S2 hS2 Ix=>?_
  have Sb:S2 bo=some (.cells (flat of)):=(Ix bo hoB).trans hSo
  simp -implicitDefEqProofs only[go_sem,Nat.reduceBEq,Nat.reduceAdd,Nat.reduceMul,Nat.reduceLeDiff,Nat.reduceEqDiff,Nat.reduceBNe,UInt8.reduceToNat,UInt32.reduceToNat,Sb,bL]
  refine FE.app (C5 (r:=gW) rfl) ?_
  have h19:gW.length=19:=rfl
  have AI:setAt (flat of) ((ix gW (k:Int)).toNat*1) [.int .i64 (ar (af b) 3 Zk).1]=flat (vm of (ix gW (k:Int)) (ar (af b) 3 Zk).1):=BX of (ix gW (k:Int)) (ar (af b) 3 Zk).1 1 rfl
  have ft:=(zY of (n:=1) rfl (j:=ix gW (k:Int)) hx.1 AT).1
  simp -implicitDefEqProofs only[go_sem,Nat.reduceBEq,Nat.reduceAdd,Nat.reduceMul,Nat.reduceLeDiff,Nat.reduceEqDiff,Nat.reduceBNe,UInt8.reduceToNat,UInt32.reduceToNat,Sb,AI,hw,bL]
  exact⟨⟨AT,AT⟩,⟨hx.1,hx.2⟩,ft,hJ _ ⟨_,vm of (ix gW (k:Int)) (ar (af b) 3 Zk).1,(ar (af b) 3 Zk).2,hS2.off ho0 hoB (fun y hy=>aj hy),⟨hn.1,by rw[hn.2.2.2.2.1];exact hzk.2⟩,cc,by rw[uO of hx.1 AT];exact hof,hOk,rfl⟩⟩
 ·obtain⟨S,of,Zk,hS,hzk,hSo,hof,hOk,rfl⟩:=hτ
  have hlt:decide ((kk:Int)<(kk:Int))=false:=B_
  rw[List.drop_eq_nil_of_le AT,Bg]at hOk
  subst hOk
  refine Xj6 hlt ?_
  refine xx (l:=of) hSo hof BY ?_
  have hS5:RI s0 (S.del bo) b most B Zk:=hS.off ho0 hoB (fun y hy=>by unfold ae.del;rw[if_neg hy])
  refine Xi8 ?_
  simp only at hdL hOl
  have hc:=pn of Zk
  have hz6:ZI b most (gh of Zk):=⟨by rw[hc.1];exact hzk.1,by rw[hc.2.1];exact hzk.2⟩
  have hnm:ao (N+M)=(((N+M).toNat:Nat):Int):=H_
  refine Nm hS5 of hof fun S6 cd hS6 hck=>?_
  refine Xj6 hnm ?_
  refine TT hS6 hb hz6 hof (fun e=>⟨tu (hc.2.2 e).2,hck (hc.2.2 e).1 (hc.2.2 e).2⟩) AT fun S7 hS7=>?_
  rw[<-hdL]at hS7⊢
  have hB:=hS7.hB
  have hdl:=Gf (b:=b) hz.1
  rw[hN]at hdl
  generalize hD:m4 (af b) z=D at hdL hdl hS7 hB⊢
  refine Xj6 hB ?_
  refine⟨fun he=>?_,fun he=>?_⟩
  ·have he:D.2.e≠0:=E_
   have hdT:lV (af b) z=([],[],D.2):=by
    unfold lV
    rw[hD]
    exact if_pos he
   unfold Af at hq
   rw[hdT,BN he]at hq
   exact hq S7 hS7
  ·have he:D.2.e=0:=E_
   obtain⟨h1,h2⟩:=hdl.2.2.2 he
   simp only at h2
   have hdT:lV (af b) z=(D.1.take N.toNat,D.1.drop N.toNat,gh (D.1.drop N.toNat) (gh (D.1.take N.toNat) (if D.1.getD 256 0=0 then D.2.fail 11 else D.2))):=by
    unfold lV
    rw[hD,hN]
    exact if_neg I_
   unfold Af at hq
   rw[hdT]at hq
   have hix:ix D.1 256=D.1.getD 256 0:=by
    have h3:256<D.1.length:=AT
    have:=eK h3
    rw[List.getD_eq_getElem?_getD,List.getElem?_eq_getElem h3]
    exact this
   have hp1:part D.1 0 N=D.1.take N.toNat:=by
    unfold part
    rw[Int.sub_zero];rfl
   have hp2:part D.1 N (D.1.length:Int)=D.1.drop N.toNat:=by
    unfold part
    rw[List.take_of_length_le O_]
   rw[hix]
   refine⟨⟨AT,AT⟩,fun h0=>?_,fun h0=>?_⟩
   ·have hf:=eX D.2 11 BY
    rw[if_pos S_,JX (by rw[JX hf.2.2];exact hf.2.2),JX hf.2.2,BN hf.2.2]at hq
    refine Dh hS7 11 fun S8 hS8 _=>?_
    refine Xi8 ?_
    exact hq S8 hS8
   ·rw[if_neg S_]at hq
    refine⟨⟨AT,AT,AT⟩,⟨AT,AT,AT⟩,?_⟩
    rw[hp1,hp2]
    refine Ma hS7 hb hM ⟨hdl.1,by rw[hdl.2.2.1];exact hz.2⟩ _ _ fun S8 hS8=>?_
    refine Xi8 ?_
    exact hq S8 hS8
end
theorem afE(c:UInt8){j:Nat}(hj:j<8):ln (cf (c.toNat:Int)) (j:Int)=some (c.toNat.testBit j):=by
 have hc:=c.toNat_lt
 have hlt:∀k,c.toNat/2^k<4294967296:=fun k=>Nat.lt_of_le_of_lt (Nat.div_le_self _ _) AT
 have hs:∀k:Nat,cf (Int.tdiv ((cf ((c.toNat/2^k:Nat):Int)).toNat:Int) 2)=cf ((c.toNat/2^(k+1):Nat):Int):=fun k=>by
  rw[dh _ (hlt k),Nat.pow_succ,<-Nat.div_div_eq_div_mul]
  rfl
 unfold ln
 rw[fb j (fun k=>(cf ((c.toNat/2^k:Nat):Int),(k:Int))) B_ AT (fun k hk=>?_) (if_neg B_),rJ]
 ·congr 1
  show(((cf (Int.tmod ((cf ((c.toNat/2^j:Nat):Int)).toNat:Int) 2)).toNat:Int)==1)=_
  rw[QY _ _ B_,dh _ (hlt j),Nat.testBit_eq_decide_div_mod_eq]
  have e:Int.tmod ((c.toNat/2^j:Nat):Int) 2=((c.toNat/2^j % 2:Nat):Int):=rfl
  rw[e]
  rcases Nat.mod_two_eq_zero_or_one (c.toNat/2^j)with h|h<;>rw[h]<;>rfl
 ·show(if decide ((k:Int)<(j:Int))=true then _ else _)=_
  rw[if_pos By,hs k,ak AT AT]
  rfl
theorem JN(b:List UInt8)(c:UInt8):af (b++[c])=af b++Ac c:=by
 unfold af
 simp
def acq(b:List UInt8)(hb:b.length<17592186044416):oM b false=some (af b):=by
 have bP:room=140737488355328:=rfl
 unfold oM
 rw[fb (s0:=(([]:List Bool),(0:Int))) b.length (fun k=>(af (b.take k),(k:Int))) rfl AT (fun k hk=>?_) (if_neg B_),rJ]
 ·rw[List.take_length]
 ·show(if decide ((k:Int)<(b.length:Int))=true then _ else _)=_
  rw[if_pos By]
  have ht:(af (b.take k)).length=8*k:=by rw[k9,List.length_take];omega
  have h8:(Ac b[k]).length=8:=rfl
  rw[fb (s0:=(af (b.take k),(0:Int))) 8 (fun j=>(af (b.take k)++(Ac b[k]).take j,(j:Int))) B_ BY (fun j hj=>?_) (if_neg B_),rJ]
  ·show some (Sum.inl (_,ao ((k:Int)+1)))=_
   rw[ak AT AT,show(Ac b[k]).take 8=Ac b[k] from rfl,List.take_add_one (i:=k),List.getElem?_eq_getElem hk,Option.toList_some,JN]
   rfl
  ·show(if decide ((j:Int)<8)=true then _ else _)=_
   have hg:(Ac b[k])[j]? =some ((b[k]).toNat.testBit j):=by
    unfold Ac
    rw[List.getElem?_map,List.getElem?_range hj];rfl
   have hl:((Ac b[k]).take j).length<=8:=N_
   rw[if_pos By,if_neg B_,aP AT,eK hk,afE _ hj,aB,aP (by rw[List.length_append];show(_+1)*1<=_;omega),rJ,ak AT AT,List.take_add_one,hg]
   simp
def afG:pE=some (lM,lL):=C_
def TS{b:List UInt8}{most:Int}{s:ae}{ow:Bool}{Q:List AV->ae->Prop}(hb:b.length<17592186044416)(hm1:-9223372036854775808<=most)(hm2:most<=9223372036854775807)(hq:∀s',Sub s s'->Q [.sl false 1 (jy b most).1.length (flat (jy b most).1),.int .i64 (jy b most).2.1,.int .i64 (jy b most).2.2] s'):FN prog 94 [.sl ow 1 b.length (flat b),.int .i64 most] s Q:=by
 have bP:room=140737488355328:=rfl
 refine FS 94 [⟨4,false,none⟩,⟨5,false,none⟩,⟨6,false,none⟩] 0x2aeda3cacf091f47c509e52bd73357a3398feabb1983ac2923efe78d3e26f5c8a80d042fd0e3fa8efcf97ae52578433124dae0862bc62146ebc974995edcd0911e193f5e91d7f2295965b44b33510a9d3cc0ecfbc3c996ddd0913cc48bcdb910520b2898378294a75a0b335c937b9680557e3925943030e5a14c2a056d5da95bfee2a94af76adc9a93141c15c6398fc75bf75d96b7ab871522bfedf332e7bcf90cf1d29076e49b2288b1f52cb74f428346f57228b18a98b9da89cf4b9b87f7bdfe2cfcc8eecfb61a19a8ec31453b46b4695425da70bfe0be3c4f347adbe0de68000cc19a581bdd0734d0420a085b1b68244239e219e01535808e1893f4179c6b9b426ee0a154c072039721bd88b1ada41d5b1e5539c581351a64cfd3aef9945044cd72b0a7f4e847af7b7dd0b0321da2743620f7a2ed80a24d03df4f46f2f52615035c13079d806fdd71fbbbdc8d594101055077f5345d6b33ee58cc0dbfd511df4b866a71e393d437d4112d19d3e909e6ffdb20b91b07b95d54d8b6a4c2484c94e46b79ed30d06b5795a754a53b60b005b200798d0f2e49c ?_
 refine Xi8 ?_
 refine⟨fun hc=>?_,fun hc=>?_⟩
 ·have e:jy b most=([],0,2):=if_pos M_
  rw[e]at hq
  exact hq s fun _ _ h=>h
 ·have hc:¬(most<0\/most>16777216):=M_
  refine FE.app (Ea (acq b hb)) ?_
  refine Xi8 ?_
  intro B hB
  have hS:RI s (s.set B (.cells (rC b most ⟨0,0,[]⟩))) b most B ⟨0,0,[]⟩:=by
   refine⟨hB,fun x o hx=>?_,cc⟩
   have h1:x≠B:=fun e=>by subst e;rw[hB]at hx;cases hx
   rw[aj h1];exact hx
  have hZ0:ZI b most ⟨0,0,[]⟩:=⟨Nat.zero_le _,By⟩
  have hV:jy b most=if(oC b most (8*b.length+2) ⟨0,0,[]⟩).e≠0 then([],0,(oC b most (8*b.length+2) ⟨0,0,[]⟩).e)else((oC b most (8*b.length+2) ⟨0,0,[]⟩).out,((((oC b most (8*b.length+2) ⟨0,0,[]⟩).at_+7)/8:Nat):Int),0):=if_neg hc
  have hI0:oC b most (8*b.length+2) ⟨0,0,[]⟩=oC b most (8*b.length+2) ⟨0,0,[]⟩:=rfl
  generalize hL:oC b most (8*b.length+2) ⟨0,0,[]⟩=L at hV
  rw[hL]at hI0
  have hZL:=Gu (b:=b) (most:=most) (8*b.length+2) ⟨0,0,[]⟩ hZ0
  rw[hL]at hZL
  refine⟨fun τ=>∃(S:ae)(Z:ZS)(n f:Nat)(last:Int),RI s S b most B Z/\ZI b most Z/\n<=8*b.length+1/\(last=0->Z.e=0->n<=Z.at_/\8*b.length+2<=f+Z.at_/\oC b most f Z=L)/\((last≠0\/Z.e≠0)->Z=L)/\τ=⟨[(0,.sl false 1 b.length (flat b)),(7,.ref B 0),(8,.int .i64 last),(9,.int .i64 n)],[],S⟩,fun τ=>match look τ.e 9 with|.int _ n=>(8*b.length+10 -n).toNat|_=>0,⟨_,_,0,8*b.length+2,0,hS,hZ0,AT,fun _ _=>⟨Nat.zero_le _,B_,hL⟩,fun h=>by simp at h,rfl⟩,?_⟩
  clear hS hZ0 hB hL
  rintro τ ⟨S,Z,n,f,last,hS,hZ,hn,h0,h1,rfl⟩
  have e8:ao (8*(b.length:Int))=8*(b.length:Int):=ak AT AT
  have hB:=hS.hB
  refine Xj7 e8 hB ?_
  refine⟨fun hg=>?_,fun hg=>?_⟩
  ·simp only[Bool.and_eq_true,decide_eq_true_eq,beq_iff_eq]at hg
   obtain⟨⟨hn2,rfl⟩,he⟩:=hg
   obtain⟨hn3,hf,hI⟩:=h0 rfl he
   obtain⟨f,rfl⟩:∃g,f=g+1:=⟨f -1,by have:=hZ.1;omega⟩
   rw[oC]at hI
   have hk:=FY hZ
   have p1:(2:Int)^1=2:=BY
   have h1:=cz (b:=b) (n:=1) hZ.1
   rw[p1]at h1
   have h2:=cz (b:=b) (n:=2) h1.1
   have hz1:ZI b most (ar (af b) 1 Z).2:=⟨h1.1,by rw[h1.2.2.2.2.1];exact hZ.2⟩
   have hz2:ZI b most (ar (af b) 2 (ar (af b) 1 Z).2).2:=⟨h2.1,Xc0⟩
   have hE:∀Zf,(if(ar (af b) 2 (ar (af b) 1 Z).2).2.e≠0 then(ar (af b) 2 (ar (af b) 1 Z).2).2 else if(ar (af b) 2 (ar (af b) 1 Z).2).1=0 then wL (af b) most (ar (af b) 2 (ar (af b) 1 Z).2).2 else if(ar (af b) 2 (ar (af b) 1 Z).2).1=1 then oY (af b) most lM lL (8*b.length+2) (ar (af b) 2 (ar (af b) 1 Z).2).2 else if(ar (af b) 2 (ar (af b) 1 Z).2).1=2 then Af b most (ar (af b) 2 (ar (af b) 1 Z).2).2 else(ar (af b) 2 (ar (af b) 1 Z).2).2.fail 11)=Zf->vW b most Z=(decide ((ar (af b) 1 Z).1=1)||decide (Zf.e≠0),Zf):=by rintro _ rfl;rfl
   refine uH hS AT (n:=1) BY hZ fun s1 hS1 _=>?_
   refine Xi8 ?_
   refine uH hS1 AT (n:=2) BY hz1 fun s2 hS2 _=>?_
   have hw:ao ((n:Int)+1)=((n+1:Nat):Int):=H_
   have fin:∀(S':ae)(Zf:ZS),RI s S' b most B Zf->vW b most Z=(decide ((ar (af b) 1 Z).1=1)||decide (Zf.e≠0),Zf)->(∃(S:ae)(Z1:ZS)(n' f:Nat)(last:Int),RI s S b most B Z1/\ZI b most Z1/\n'<=8*b.length+1/\(last=0->Z1.e=0->n'<=Z1.at_/\8*b.length+2<=f+Z1.at_/\oC b most f Z1=L)/\((last≠0\/Z1.e≠0)->Z1=L)/\(⟨[(0,.sl false 1 b.length (flat b)),(7,.ref B 0),(8,.int .i64 (ar (af b) 1 Z).1),(9,.int .i64 ((n+1:Nat):Int))],[],S'⟩:St)=⟨[(0,.sl false 1 b.length (flat b)),(7,.ref B 0),(8,.int .i64 last),(9,.int .i64 n')],[],S⟩):=by
    intro S' Zf hS' hb'
    rw[hb']at hk hI
    dsimp only at hk hI
    refine⟨S',Zf,n+1,f,_,hS',hk.1,AT,fun hl he2=>?_,fun h=>?_,rfl⟩
    ·have hx:(decide ((ar (af b) 1 Z).1=1)||decide (Zf.e≠0))=false:=by rw[hl,he2];rfl
     rw[if_neg (by rw[hx];exact Bool.false_ne_true)]at hI
     have h5:=hk.2.2 hx
     exact⟨AT,AT,hI⟩
    ·have hx:(decide ((ar (af b) 1 Z).1=1)||decide (Zf.e≠0))=true:=by
      rw[Bool.or_eq_true,decide_eq_true_eq,decide_eq_true_eq]
      rcases h with h|h
      ·exact .inl AT
      ·exact .inr h
     rw[if_pos hx]at hI
     exact hI
   clear hS hS1 hz1
   generalize hnn:ar (af b) 1 Z=n1 at*
   generalize ar (af b) 2 n1.2=k at*
   have hB2:=hS2.hB
   refine Xj7 hB2 hw ?_
   have hmu:(8*(b.length:Int)+10 -((n+1:Nat):Int)).toNat<(8*(b.length:Int)+10 -(n:Int)).toNat:=AT
   refine⟨fun he=>?_,fun he=>⟨fun h0=>?_,fun h0=>⟨fun h1=>?_,fun h1=>⟨fun h2=>?_,fun h2=>?_⟩⟩⟩⟩
   ·exact⟨fin _ _ hS2 (hE _ (if_pos E_)),hmu⟩
   ·have he:¬k.2.e≠0:=E_
    refine TX hS2 AT AT hz2 fun S hS=>?_
    refine Xj6 hw ?_
    exact⟨fin _ _ hS (hE _ (by rw[if_neg he,if_pos S_])),hmu⟩
   ·have he:¬k.2.e≠0:=E_
    refine FE.app (C3 (r:=(lM,lL)) afG) ?_
    refine Xi8 ?_
    have h3:=OO
    have kL:gh lM k.2=k.2:=ξ
    have kD:gh lL k.2=k.2:=ξ
    refine Ma hS2 AT AT hz2 lM lL fun S hS=>?_
    rw[kL,kD]at hS
    refine Xj6 hw ?_
    exact⟨fin _ _ hS (hE _ (by rw[if_neg he,if_neg S_,if_pos K_])),hmu⟩
   ·have he:¬k.2.e≠0:=E_
    refine Wo hS2 AT AT hz2 fun S hS=>?_
    refine Xj6 hw ?_
    exact⟨fin _ _ hS (hE _ (by rw[if_neg he,if_neg S_,if_neg K_,if_pos Y_])),hmu⟩
   ·have he:¬k.2.e≠0:=E_
    refine Dh hS2 11 fun S hS _=>?_
    refine Xj6 hw ?_
    exact⟨fin _ _ hS (hE _ (by rw[if_neg he,if_neg S_,if_neg K_,if_neg Y_])),hmu⟩
  ·have aeG:Z=L:=by
    refine h1 ?_
    by_cases hl:last=0
    ·by_cases he:Z.e=0
     ·have h3:=h0 hl he
      have h4:=hZ.1
      rw[hl,he]at hg
      simp at hg
      omega
     ·exact .inr he
    ·exact .inl hl
   subst aeG
   have h4:=hZ.1
   refine⟨fun he=>?_,fun he=>?_⟩
   ·rw[if_pos E_]at hV
    rw[hV]at hq
    exact hq S hS.sub
   ·rw[if_neg E_]at hV
    rw[hV]at hq
    have e1:ao ((Z.at_:Int)+7)=(Z.at_:Int)+7:=ak AT AT
    have e2:ao (((Z.at_:Int)+7).tdiv 8)=(((Z.at_+7)/8:Nat):Int):=by
     have e3:((Z.at_:Int)+7).tdiv 8=(((Z.at_+7)/8:Nat):Int):=Xg0
     rw[e3,ak AT AT]
    rw[e1,e2]
    exact⟨BY,hq S hS.sub⟩
def TR{b:List UInt8}{most:Int}{s:ae}{ow:Bool}(hb:b.length<17592186044416)(hm1:-9223372036854775808<=most)(hm2:most<=9223372036854775807):FE prog 94 [.sl ow 1 b.length (flat b),.int .i64 most] s [.sl false 1 (jy b most).1.length (flat (jy b most).1),.int .i64 (jy b most).2.1,.int .i64 (jy b most).2.2] s:=FN.Hv (TS hb hm1 hm2 fun s' h=>⟨s,h,rfl,rfl⟩)
def TY{b:List UInt8}{most:Int}{s:ae}{ow:Bool}(hb:b.length<17592186044416)(hm1:-9223372036854775808<=most)(hm2:most<=9223372036854775807):FE prog 57 [.sl ow 1 b.length (flat b),.int .i64 most] s [.sl false 1 (jH b most).1.length (flat (jH b most).1),.int .i64 (jH b most).2.1,.int .i64 (jH b most).2.2] s:=by
 have bP:room=140737488355328:=rfl
 refine FP 53 [⟨4,false,none⟩,⟨5,false,none⟩,⟨6,false,none⟩] (dec 0x47a10c9bcd585ecdd2f8bea49756701ec6b0c7682c3e217f05a893ebb542da8f9ce10c8b32ca8a410e334805a60a3ac543e761923015eb736c38a417b6e80ef33eea5696a85c7bd87d8896f8dc786f5141135313426e3ed2e99b38d944e21fc19e7b6933102956f31916cda3be343f4280d6a96502460d86de6a41d3f3f46ee982899287dc0d5a4fd182706ec09e56e9878eaa420fb01b565cef474c8994c8d0a013ac4a0d95a771780fcf8c9e7e5f58f6fd398a24dfb18e885b1ad968999e39413b53e57bb864cd032ca5c9fb7bc1bf2e30901d5dae70810d00b3be909e6ffdb20b87e9e1748ded8b6a4c2484c94e46b79ed30d06b57959e35361b60b005b200798d0f2e49c) C_ rfl ?_
 generalize hQ:(fun rs t=>rs=[AV.sl false 1 (jH b most).1.length (flat (jH b most).1),.int .i64 (jH b most).2.1,.int .i64 (jH b most).2.2]/\t=s)=Q
 have hq:Q [AV.sl false 1 (jH b most).1.length (flat (jH b most).1),.int .i64 (jH b most).2.1,.int .i64 (jH b most).2.2] s:=by subst hQ;exact⟨rfl,rfl⟩
 clear hQ
 refine Xh4 ?_
 refine Xi8 ?_
 refine⟨fun hc=>?_,fun hc=>?_⟩
 ·rw[show jH b most=([],0,2) by rw[jH,if_pos M_]]at hq
  exact hq
 have hc:¬(most<0\/most>16777216):=M_
 refine FE.app (C7 (acr b)) ?_
 refine Xi8 ?_
 refine⟨fun he=>?_,fun he=>?_⟩
 ·have he:Ke b≠0:=E_
  rw[show jH b most=([],0,Ke b) by rw[jH,if_neg hc,if_pos he]]at hq
  exact hq
 have he:Ke b=0:=E_
 have hl:=Lz he
 have hp:part b 2 (b.length:Int)=b.drop 2:=by
  unfold part
  rw[List.take_of_length_le O_];rfl
 rw[hp]
 refine⟨⟨AT,AT⟩,?_⟩
 have hvl:=LG (b:=b.drop 2) (most:=most)
 rw[List.length_drop]at hvl
 have hv:jH b most=if(jy (b.drop 2) most).2.2≠0 then([],0,(jy (b.drop 2) most).2.2)else if(b.length:Int)<(jy (b.drop 2) most).2.1+6 then([],0,10)else if(b.drop ((jy (b.drop 2) most).2.1+2).toNat).take 4≠Rg (Em (jy (b.drop 2) most).1)then([],0,12)else((jy (b.drop 2) most).1,(jy (b.drop 2) most).2.1+6,0):=by rw[jH,if_neg hc,if_neg E_]
 refine FE.app (TR O_ hm1 hm2) ?_
 generalize jy (b.drop 2) most=r at hv hvl⊢
 obtain⟨l,m,e⟩:=r
 dsimp only at hv hvl
 have e1:ao (m+2)=m+2:=ak AT AT
 have e2:ao (m+6)=m+6:=ak AT AT
 refine Xj7 e1 e2 ?_
 rw[hv]at hq
 refine⟨fun he=>?_,fun he=>?_⟩
 ·rw[if_pos E_]at hq
  exact hq
 rw[if_neg E_]at hq
 refine⟨fun hlt=>?_,fun hlt=>?_⟩
 ·rw[if_pos c_]at hq
  exact hq
 have hlt:¬(b.length:Int)<m+6:=c_
 rw[if_neg hlt]at hq
 have hp:part b (m+2) (m+6)=(b.drop (m+2).toNat).take 4:=by
  unfold part
  rw[show(m+6 -(m+2)).toNat=4 by omega]
 rw[hp]
 refine⟨⟨AT,AT,AT⟩,?_⟩
 refine⟨_,rfl,GV (afJ l AT),?_⟩
 refine Xj7 e1 e2 ?_
 refine⟨_,rfl,CZ (Yc _),?_⟩
 refine Xj7 e1 e2 ?_
 refine⟨fun hne=>?_,fun hne=>?_⟩
 ·rw[if_pos ψ]at hq
  exact hq
 ·rw[if_neg ψ]at hq
  exact hq
def jh(b:List UInt8)(most:Int):Option (List UInt8×Int×Int):=aI (b.length<17592186044416/\-9223372036854775808<=most/\most<=9223372036854775807) (some (jH b most))
def AS{b:List UInt8}{most:Int}{s:ae}{r:List UInt8×Int×Int}(h:jh b most=some r):FE prog 57 [.sl false 1 b.length (flat b),.int .i64 most] s [.sl false 1 r.1.length (flat r.1),.int .i64 r.2.1,.int .i64 r.2.2] s:=by
 unfold jh aI at h
 split at h
 ·rename_i hc
  injection h with h
  subst h
  exact TY hc.1 hc.2.1 hc.2.2
 ·cases h
end Go.AB
end
