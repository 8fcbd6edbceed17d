/- A part. -/
import Derived.Test.YtkeagffgdajggaaGreatSt18
import Derived.Shelf.SlSortCmp.WholeK
import Derived.Ground.SlsfProg
set_option linter.unusedSimpArgs false
set_option linter.unusedVariables false
section
set_option maxRecDepth 4000
namespace Go.AB
open Go
open Go.Proofs.Tryz (prog)
attribute[-go_sem] Nat.add_zero tz du cV dB cg cU
def rC:IC:=
 (ag [i1 6 (.aA dD),mi 7 0,mi 8 0] [0,1,2,6]
 (.vu 0 [(6,false),(9,false)] (.bP none [mv 15 0,mv 16 1,mv 17 2,i1 18 (.build [.sl true 1 0 [],.int .i64 0,.bool false,.arr 0 0 0 0] [(0,1,(.t 15)),(1,1,(.t 16)),(2,1,(.t 17))]),i1 19 (.qE 4 (.t 18)),mv 9 19] [6,9])
 .skip
 .skip
 (ag [mv 21 9,c1 22 74 21,jJ 20 22,ex 23 20 0,ex 24 20 1,i1 10 (.aA jK),st 8 10 23,mv 11 24] [6,9,10,11]
 (.seq (ag [mv 25 11,bn 26 .neq 25 0] [6,9,10,11,26]
 (.cond (.t 26) (ag [i1 27 (.build dD []),mv 28 11,st 4 6 27,mi 7 0,mv 8 28] [6,7,8]
 .ret)
 .skip))
 (ag [mv 30 9,lm 31 8 10,c2 32 75 30 31,jJ 29 32,ex 33 29 0,ex 34 29 1,ex 35 29 2,i1 12 (.aA dD),st 4 12 33,mv 13 34,mv 11 35] [6,9,11,12,13]
 (.seq (ag [mv 36 11,bn 37 .neq 36 0] [6,9,11,12,13,37]
 (.cond (.t 37) (ag [i1 38 (.build dD []),mv 39 11,st 4 6 38,mi 7 0,mv 8 39] [6,7,8]
 .ret)
 .skip))
 (.seq (ag [mv 40 13,no 41 40] [6,9,12,41]
 (.cond (.t 41) (.goto 0)
 .skip))
 (.seq (ag [mv 42 9,c1 43 76 42,mv 14 43] [6,9,12,14]
 (ag [mv 44 14,i1 45 (.HO true (.t 44) (.c (.cZ)))] [6,9,12,14,45]
 (.cond (.t 45) (.seq (.Nx [[false,false,false,false,false,false,false,false,false,false,false,false,false],[true,false,false,false,false,false,false,false,false,false,false,false,false],[false,true,false,false,false,false,false,false,false,false,false,false,false],[false,false,true,false,false,false,false,false,false,false,false,false,false],[false,false,false,false,false,false,false,false,false,false,false,false,false],[false,false,false,true,false,false,false,false,false,false,false,false,false],[false,false,false,false,false,false,false,false,false,false,false,false,false],[true,true,true,true,true,true,true,false,false,false,false,false,false],[true,true,true,true,true,true,true,true,false,false,false,false,false],[true,true,true,true,true,true,true,true,true,false,false,false,false],[true,true,true,true,true,true,true,true,false,false,false,false,false],[true,true,true,true,true,true,true,true,false,false,true,false,false],[true,true,true,true,true,true,true,true,false,false,false,true,false]] [mv 46 14,nc 47 46,fa 48 1 47,ld 49 1 48,lm 50 4 12,le 51 0 49,i1 52 (.bB 4 1 CS [(0,4,(.c (.agg dD)))]),i1 53 (.fL 4 56 CS (.t 49) (.t 52)),ia 54 CS 53 51,st 4 54 50,nc 55 46,fa 56 1 55,st 1 56 53] [6,9])
 (.goto 0))
 .skip)))
 (.seq (.C7 [6] 8 [lm 57 4 12,mv 58 9,nc 59 58,fa 60 1 59,ld 61 1 60,st 4 6 57,mv 7 61,mi 8 0] [6,7,8])
 .ret)))))))))
theorem B8:aY prog 36 62 [⟨6,false,some (4,true)⟩,⟨7,true,none⟩,⟨8,true,none⟩] rC=true:=by kernel_rfl
theorem PI{P:Program}{S O:Type}{body:S->Option (S⊕O)}{s0:S}{kf:O->Prop}{live:List (Nat×Bool)}{l:Nat}{r:IC}{Q:Exit->St->Prop}{E:St}(R:S->St->Prop)
 (h0:R s0 E)
 (hb:∀(J:St->Prop)(s:S)(τ:St),R s τ->ok (body s) (jy (fun t=>∀U',R t U'->J U') kf)->fN P r (KL l live J Q) τ):ok (iter body s0) kf->Sc P l live r Q E:=by
 intro h
 have v7:∀τ,(∃m s,R s τ/\ok (bU body m s) kf)->∃m,(∃s,R s τ/\ok (bU body m s) kf)/\∀k,k<m->¬∃s,R s τ/\ok (bU body k s) kf:=by
  rintro τ ⟨m,s,h⟩
  induction m using Nat.strongRecOn generalizing s with
  |_ m ih=>
   by_cases hk:∃k,k<m/\∃s,R s τ/\ok (bU body k s) kf
   ·obtain⟨k,hk,s',h'⟩:=hk
    exact ih k hk s' h'
   ·exact⟨m,⟨s,h⟩,fun k hk' hs=>hk ⟨k,hk',hs⟩⟩
 have hμ:∃μ:St->Nat,∀τ,(∃m s,R s τ/\ok (bU body m s) kf)->(∃s,R s τ/\ok (bU body (μ τ) s) kf)/\∀k,k<μ τ->¬∃s,R s τ/\ok (bU body k s) kf:=⟨fun τ=>Classical.epsilon fun m=>(∃s,R s τ/\ok (bU body m s) kf)/\∀k,k<m->¬∃s,R s τ/\ok (bU body k s) kf,fun τ hτ=>Classical.epsilon_spec (v7 τ hτ)⟩
 obtain⟨μ,hμ⟩:=hμ
 refine⟨fun τ=>∃m s,R s τ/\ok (bU body m s) kf,μ,⟨_,s0,h0,h⟩,?_⟩
 intro τ hτ
 obtain⟨⟨s,e,hs⟩,_⟩:=hμ τ hτ
 generalize hm:μ τ=m at hs
 cases m with
 |zero=>exact(pP hs).elim
 |succ m=>
  obtain⟨x,hx,k⟩:=pO hs
  refine hb _ s τ e ⟨x,hx,?_⟩
  cases x with
  |inr o=>exact k
  |inl t=>
   intro U' ht
   refine⟨⟨m,t,ht,k⟩,?_⟩
   have h2:=(hμ U' ⟨m,t,ht,k⟩).2
   rcases Nat.lt_or_ge m (μ U')with hlt|hge
   ·exact(h2 m hlt ⟨t,ht,k⟩).elim
   ·omega
theorem Sl{s0 s:ab}{B:Nat}{p:PS}{rr:cm}{ids:List (Nat×cm)}(h:pE s0 s B p rr ids){r:ar×Int}(hr:dp p.b p.at_ p.last=some r){Q:List AV->ab->Prop}
 (h0:(r.2 !=0)=false->∀s',pE s0 s' B {p with at_:=r.1.To} rr ids->Q [tA r.1,.int .i64 r.2] s')(h1:(r.2 !=0)=true->pE s0 s B p rr ids->Q [tA r.1,.int .i64 r.2] s):FN prog 74 [.ref B 0] s Q:=by
 refine tK (s_0:=⟨p.b,p.at_,p.last,ga rr p.st.length⟩) h.cell ?_
 unfold kK
 rw[eF]
 refine⟨r,hr,?_⟩
 cases he:(r.2==0)with
 |true=>
  simp only[he,if_true]
  exact⟨_,rfl,h0 (by unfold bne;rw[he];rfl) _ (h.place _)⟩
 |false=>
  simp only[he,Bool.false_eq_true,if_false]
  refine⟨_,rfl,?_⟩
  have:s.set B (.cells (gZ p rr))=s:=eW h.cell
  show Q _ (s.set B (.cells (gZ p rr)))
  rw[this]
  exact h1 (by unfold bne;rw[he];rfl) h
theorem ab1{P:Program}{fB:List (List Bool)}{ops f:List ai}{live:List Nat}{Q:Exit->St->Prop}{d:List Bool}{E:St}(C:St->Prop)
 (h1:∀K:St->Prop,(∀τ:St,C (τ.tG live)->K τ)->NS P fB ops K f d E)(h2:∀φ,C φ->Q .normal φ):NS P fB ops (sr live Q) f d E:=h1 _ fun τ h=>h2 _ h
theorem Tg{E:St}{d:Option Nat}{K:St->Prop}{s s2:ab}{B:Nat}{p2:PS}{rr2:cm}{id:Nat×cm}{eX:List (Nat×cm)}{v:aD}{vs:List aD}(hσ:E.s=s2)(h2:pE s s2 B p2 rr2 (id::eX))(cj:p2.st=v::vs)(bz:(v.l_.length+1)*56<=room)(x:aa)
 (hK:∀S3 rb cap sp,S3 rb=some (.cells (flat (v.l_++[zV])++sp))->S3 id.1=some (.cells [.bool v.dC,ga id.2 v.l_.length])->rb≠id.1->
   pE s ((S3.set rb (.cells (flat (v.l_++[x])++sp))).set id.1 (.cells [.bool v.dC,.arr rb 0 (v.l_.length+1) cap])) B {p2 with st:=⟨v.dC,v.l_++[x]⟩::vs} rr2 ((id.1,some (rb,cap,sp))::eX)->
   K ({E with s:=S3}.put d (.arr rb 0 (v.l_.length+1) cap))):
 dK 4 56 [.int .i64 0,.int .i64 0,.str [],.sl false 4 0 []] E d K (.arr (JH id.2) 0 v.l_.length (Hy id.2)) (tO E.s 4 (.sl true 4 1 [.int .i64 0,.int .i64 0,.str [],.sl false 4 0 []])):=by
 obtain⟨F1,F2,H⟩:=h2
 rw[cj]at F1 H
 have H1:Holds s s2 (nb id.2 v.l_++((id.1,PU id.2 v)::((B,.cells (gZ p2 rr2))::(nb rr2 (refs (id::eX).reverse)++Am eX vs)))):=by
  refine H.perm ?_
  refine(List.perm_middle (l₁:=(B,SO.cells (gZ p2 rr2))::nb rr2 (refs (id::eX).reverse))).trans ?_
  refine((List.perm_append_comm_assoc ((B,SO.cells (gZ p2 rr2))::nb rr2 (refs (id::eX).reverse)) (nb id.2 v.l_) (Am eX vs)).cons _).trans ?_
  exact List.perm_middle.symm
 obtain⟨sb,e,okr,Hb⟩:=H1.row F1.1
 rw[kQ]
 refine sL (z:=zV) (v:=zV) (hσ.trans e) okr rfl bz fun s' r' hs' ok'=>?_
 obtain⟨rb,cap,sp,rfl⟩:=Hz ok' (by simp)
 obtain⟨H3,f3⟩:=(Hb.sub hs').UL ok'
 have hne:rb≠id.1:=by
  have:=H3.2.2
  intro he
  rw[he]at this
  simp[nb]at this
 refine hK _ rb cap sp H3.get (H3.mem (by simp[nb,PU])) hne ?_
 have H4:=(Holds.set (o':=.cells (flat (v.l_++[x])++sp)) H3)
 have H5:=(Holds.set (o':=.cells [.bool v.dC,.arr rb 0 (v.l_.length+1) cap]) (H4.perm (List.Perm.swap ..)))
 have H6:=H5.perm (List.perm_append_comm_assoc [(id.1,SO.cells [.bool v.dC,.arr rb 0 (v.l_.length+1) cap]),(rb,.cells (flat (v.l_++[x])++sp))] ((B,SO.cells (gZ p2 rr2))::nb rr2 (refs (id::eX).reverse)) (Am eX vs))
 have hlen:(v.l_++[x]).length=v.l_.length+1:=by simp
 have hl:PU (some (rb,cap,sp)) ⟨v.dC,v.l_++[x]⟩=.cells [.bool v.dC,.arr rb 0 (v.l_.length+1) cap]:=by
  unfold PU ga
  simp only[hlen]
  rfl
 have hp:gZ {p2 with st:=⟨v.dC,v.l_++[x]⟩::vs} rr2=gZ p2 rr2:=by
  unfold gZ
  simp only[cj,List.length_cons]
 have hrefs:refs ((id.1,(some (rb,cap,sp):cm))::eX).reverse=refs (id::eX).reverse:=by rw[pj,pj]
 refine⟨⟨?_,F1.2⟩,by rw[hrefs];exact F2,?_⟩
 ·obtain⟨g1,g2,g3,g4⟩:=f3
  refine⟨g1,by simpa using g2,?_,g4⟩
  rw[List.length_append,aE]at g3⊢
  simpa using g3
 ·rw[hp,hrefs]
  have:Am ((id.1,some (rb,cap,sp))::eX) (⟨v.dC,v.l_++[x]⟩::vs)=[(id.1,SO.cells [.bool v.dC,.arr rb 0 (v.l_.length+1) cap]),(rb,.cells (flat (v.l_++[x])++sp))]++Am eX vs:=by rw[<-hl];rfl
  show Holds s _ ((B,SO.cells (gZ p2 rr2))::(nb rr2 _++Am ((id.1,some (rb,cap,sp))::eX) (⟨v.dC,v.l_++[x]⟩::vs)))
  rw[this]
  exact H6
theorem QV{E:St}{d:Option Nat}{K:St->Prop}{s s2:ab}{B:Nat}{p2:PS}{rr2:cm}{id:Nat×cm}{eX:List (Nat×cm)}{v:aD}{vs:List aD}(hσ:E.s=s2)(h2:pE s s2 B p2 rr2 (id::eX))(cj:p2.st=v::vs)(bz:(v.l_.length+1)*56<=room)(x:aa)
 (hK:∀S3 rb cap cs,S3 rb=some (.cells cs)->S3 id.1=some (.cells [.bool v.dC,ga id.2 v.l_.length])->(∀o,(S3.set rb o) id.1=some (.cells [.bool v.dC,ga id.2 v.l_.length]))->(∀o,(S3.set id.1 o) rb=some (.cells cs))->
   v.l_.length*4+4<=cs.length->
   (∃rr3 Gp,pE s ((S3.set rb (.cells (setAt cs (v.l_.length*4) [.int .i64 x.Kind,.int .i64 x.N,.str x.S.b,.sl false 4 x.L.length (flat x.L)]))).set id.1 (.cells [.bool v.dC,.arr rb 0 (v.l_.length+1) cap])) B {p2 with st:=⟨v.dC,v.l_++[x]⟩::vs} rr3 Gp)->
   (∃rr3 Gp,pE s ((S3.set id.1 (.cells [.bool v.dC,.arr rb 0 (v.l_.length+1) cap])).set rb (.cells (setAt cs (v.l_.length*4) [.int .i64 x.Kind,.int .i64 x.N,.str x.S.b,.sl false 4 x.L.length (flat x.L)]))) B {p2 with st:=⟨v.dC,v.l_++[x]⟩::vs} rr3 Gp)->
   K ({E with s:=S3}.put d (.arr rb 0 (v.l_.length+1) cap))):
 dK 4 56 [.int .i64 0,.int .i64 0,.str [],.sl false 4 0 []] E d K (.arr (JH id.2) 0 v.l_.length (Hy id.2)) (tO E.s 4 (.sl true 4 1 [.int .i64 0,.int .i64 0,.str [],.sl false 4 0 []])):=by
 refine Tg hσ h2 cj bz x fun S3 rb cap sp g1 g2 hne qH=>?_
 have hs:setAt (flat (v.l_++[zV])++sp) (v.l_.length*4) [.int .i64 x.Kind,.int .i64 x.N,.str x.S.b,.sl false 4 x.L.length (flat x.L)]=flat (v.l_++[x])++sp:=by
  have h:=p7 (v.l_++[zV]) [x] sp 4 v.l_.length rfl (by simp)
  have hx:flat [x]=[.int .i64 x.Kind,.int .i64 x.N,.str x.S.b,.sl false 4 x.L.length (flat x.L)]:=by
   unfold flat
   simp only[List.map_cons,List.map_nil,List.flatten_cons,List.flatten_nil,List.append_nil]
   exact lG x
  rw[hx]at h
  rw[h]
  simp
 refine hK S3 rb cap _ g1 g2 (fun o=>?_) (fun o=>?_) ?_ ?_ ?_
 ·rw[<-g2];unfold ab.set;rw[if_neg (Ne.symm hne)]
 ·rw[<-g1];unfold ab.set;rw[if_neg hne]
 ·rw[List.length_append,aE]
  have:aR.w aa=4:=rfl
  rw[this]
  simp
  omega
 ·rw[hs];exact⟨_,_,qH⟩
 ·rw[hs,set_comm hne];exact⟨_,_,qH⟩
def pw(pf:List aa->Option (List aa×Int))(p:PS):Option (PS⊕(aa×Int×Int)):=
 aH (p.st.length<=64)<|
 ba (dp p.b p.at_ p.last) fun r1=>
 bif r1.2 !=0 then some (.inr (zV,0,r1.2))else
 ba (lR pf {p with at_:=r1.1.To} r1.1) fun r=>
 bif r.2.2.1 !=0 then some (.inr (zV,0,r.2.2.1))else
 bif !r.2.1 then some (.inl r.2.2.2)else
 aH (r.2.2.2.st.length<=64)<|match r.2.2.2.st with
 |[]=>some (.inr (r.1,r.2.2.2.at_,0))
 |v::vs=>aH ((v.l_.length+1)*56<=room)<|some (.inl {r.2.2.2 with st:=⟨v.dC,v.l_++[r.1]⟩::vs})
def pX(pf:List aa->Option (List aa×Int))(b:List UInt8)(a:Int)(last:Bool):Option (aa×Int×Int):=iter (pw pf) ⟨b,a,last,[]⟩
def zL:AV:=.loc [.int .i64 0,.int .i64 0,.str [],.sl true 4 0 []]
set_option maxHeartbeats 8000000 in
theorem QW{pf:List aa->Option (List aa×Int)}(hpf:vD pf){s:ab}{b:List UInt8}{a:Int}{last:Bool}{Q:List AV->ab->Prop}
 (hm:ok (pX pf b a last) fun r=>∀s',Sub s s'->Q [vA r.1,.int .i64 r.2.1,.int .i64 r.2.2] s'):FN prog 36 [.sl false 1 b.length (flat b),.int .i64 a,.bool last] s Q:=by
 have hr:room=140737488355328:=rfl
 unfold pX at hm
 refine FO B8 rfl rfl ?_
 rw[rC]
 simp -implicitDefEqProofs only[go_sem,Nat.reduceBEq,Nat.reduceAdd,Nat.reduceMul,Nat.reduceLeDiff,Nat.reduceEqDiff,Nat.reduceBNe,UInt8.reduceToNat,UInt32.reduceToNat]
 intro B hB
 refine PI (fun(p:PS)(τ:St)=>∃s' rr ids,pE s s' B p rr ids/\τ=⟨[(6,zL),(9,.ref B 0)],[],s'⟩) ?_ ?_ hm
 ·refine⟨_,none,[],⟨trivial,rfl,(Holds.nil.alloc hB)⟩,rfl⟩
 ·rintro J p τ ⟨s',rr,ids,h,rfl⟩ hb
  unfold pw at hb
  rw[fM]at hb
  obtain⟨bz,hb⟩:=hb
  unfold zL
  simp -implicitDefEqProofs only[go_sem,Nat.reduceBEq,Nat.reduceAdd,Nat.reduceMul,Nat.reduceLeDiff,Nat.reduceEqDiff,Nat.reduceBNe,UInt8.reduceToNat,UInt32.reduceToNat]
  rw[eF]at hb
  obtain⟨r1,hr1,hb⟩:=hb
  refine Sl h hr1 (fun he s1 h1=>?_) (fun he h1=>?_)
  rotate_left
  ·rw[he,cond_true,aP]at hb
   unfold tA
   simp -implicitDefEqProofs only[go_sem,Nat.reduceBEq,Nat.reduceAdd,Nat.reduceMul,Nat.reduceLeDiff,Nat.reduceEqDiff,Nat.reduceBNe,UInt8.reduceToNat,UInt32.reduceToNat,he,Bool.true_eq_false,Bool.false_eq_true,false_implies,true_implies,true_and,and_true]
   exact hb s' h.2.2.1
  ·rw[he,cond_false,eF]at hb
   obtain⟨r,hr2,hb⟩:=hb
   unfold tA
   simp -implicitDefEqProofs only[go_sem,Nat.reduceBEq,Nat.reduceAdd,Nat.reduceMul,Nat.reduceLeDiff,Nat.reduceEqDiff,Nat.reduceBNe,UInt8.reduceToNat,UInt32.reduceToNat,he,Bool.true_eq_false,Bool.false_eq_true,false_implies,true_implies,true_and,and_true]
   refine S8 hpf h1 bz ⟨r,hr2,fun he2 s2 h2=>?_,fun he2 s2 rr2 adR h2=>?_⟩
   ·have he3:(r.2.2.1 !=0)=true:=by simpa using he2
    rw[he3,cond_true,aP]at hb
    unfold vA
    simp -implicitDefEqProofs only[go_sem,Nat.reduceBEq,Nat.reduceAdd,Nat.reduceMul,Nat.reduceLeDiff,Nat.reduceEqDiff,Nat.reduceBNe,UInt8.reduceToNat,UInt32.reduceToNat,he3,Bool.true_eq_false,Bool.false_eq_true,false_implies,true_implies,true_and,and_true]
    exact hb s2 h2
   ·have he3:(r.2.2.1 !=0)=false:=by simpa using he2
    rw[he3,cond_false]at hb
    unfold vA
    cases hi:r.2.1 with
    |false=>
     rw[hi,Bool.not_false,cond_true,aP]at hb
     simp -implicitDefEqProofs only[go_sem,Nat.reduceBEq,Nat.reduceAdd,Nat.reduceMul,Nat.reduceLeDiff,Nat.reduceEqDiff,Nat.reduceBNe,UInt8.reduceToNat,UInt32.reduceToNat,he3,hi,Bool.not_false,Bool.true_eq_false,Bool.false_eq_true,false_implies,true_implies,true_and,and_true]
     exact hb _ ⟨s2,rr2,adR,h2,rfl⟩
    |true=>
     rw[hi,Bool.not_true,cond_false]at hb
     simp -implicitDefEqProofs only[go_sem,Nat.reduceBEq,Nat.reduceAdd,Nat.reduceMul,Nat.reduceLeDiff,Nat.reduceEqDiff,Nat.reduceBNe,UInt8.reduceToNat,UInt32.reduceToNat,he3,hi,Bool.not_true,Bool.true_eq_false,Bool.false_eq_true,false_implies,true_implies,true_and,and_true]
     rw[fM]at hb
     obtain⟨adJ,hb⟩:=hb
     have hB2:=h2.cell
     unfold gZ at hB2
     refine HK h2 (by omega) (fun cj=>?_) (fun id eX v vs KB cj=>?_)
     ·rw[cj]at hb
      simp only[aP]at hb
      simp -implicitDefEqProofs only[go_sem,Nat.reduceBEq,Nat.reduceAdd,Nat.reduceMul,Nat.reduceLeDiff,Nat.reduceEqDiff,Nat.reduceBNe,UInt8.reduceToNat,UInt32.reduceToNat,hB2,Bool.true_eq_false,Bool.false_eq_true,false_implies,true_implies,true_and,and_true]
      exact hb s2 h2.2.2.1
     ·rw[cj]at hb
      simp only[fM,aP]at hb
      obtain⟨VF,hb⟩:=hb
      simp -implicitDefEqProofs only[go_sem,Nat.reduceBEq,Nat.reduceAdd,Nat.reduceMul,Nat.reduceLeDiff,Nat.reduceEqDiff,Nat.reduceBNe,UInt8.reduceToNat,UInt32.reduceToNat,hB2,Bool.true_eq_false,Bool.false_eq_true,false_implies,true_implies,true_and,and_true]
      subst KB
      have hlv:=h2.lv cj
      unfold PU at hlv
      have C1:∀φ:St,(∃s3 rr3 Gp,pE s s3 B {r.2.2.2 with st:=⟨v.dC,v.l_++[r.1]⟩::vs} rr3 Gp/\φ=⟨[(6,zL),(9,.ref B 0)],[],s3⟩)->J φ:=fun φ hφ=>hb φ hφ
      refine ab1 (fun φ=>∃s3 rr3 Gp,pE s s3 B {r.2.2.2 with st:=⟨v.dC,v.l_++[r.1]⟩::vs} rr3 Gp/\φ=⟨[(6,zL),(9,.ref B 0)],[],s3⟩) ?_ ?_
      rotate_left
      ·rintro φ ⟨s3,rr3,Gp,h3,rfl⟩
       unfold zL
       simp -implicitDefEqProofs only[go_sem,Nat.reduceBEq,Nat.reduceAdd,Nat.reduceMul,Nat.reduceLeDiff,Nat.reduceEqDiff,Nat.reduceBNe,UInt8.reduceToNat,UInt32.reduceToNat]
       exact C1 _ ⟨s3,rr3,Gp,h3,rfl⟩
      ·intro K hK
       clear C1 hb
       repeat'(first|(simp only[dB,cV,cg,cU,xC,zn,Bool.not_true,Bool.not_false,Bool.or_true,Bool.true_or,Bool.false_or,Bool.or_false,Bool.and_true,Bool.true_and,Bool.and_false,Bool.false_and,cond_true,cond_false,true_and,and_true];done)|with_reducible refine⟨?_,?_⟩|with_reducible exact trivial|(simp only[dB,cV,cg,cU,xC,zn,Bool.not_true,Bool.not_false,Bool.or_true,Bool.true_or,Bool.false_or,Bool.or_false,Bool.and_true,Bool.true_and,Bool.and_false,Bool.false_and,cond_true,cond_false,true_and,and_true])|simp -implicitDefEqProofs only[go_sem,Nat.reduceBEq,Nat.reduceAdd,Nat.reduceMul,Nat.reduceLeDiff,Nat.reduceEqDiff,Nat.reduceBNe,UInt8.reduceToNat,UInt32.reduceToNat,hlv])
       all_goals
        refine QV rfl h2 cj VF r.1 (fun S3 rb cap cs g1 g2 q1 q2 hle f1 f2=>?_)
        obtain⟨ra,ia,f1⟩:=f1
        obtain⟨rz,iz,f2⟩:=f2
        repeat'(first|exact hK _ ⟨_,_,_,f1,rfl⟩|exact hK _ ⟨_,_,_,f2,rfl⟩|omega|(simp only[dB,cV,cg,cU,xC,zn,Bool.not_true,Bool.not_false,Bool.or_true,Bool.true_or,Bool.false_or,Bool.or_false,Bool.and_true,Bool.true_and,Bool.and_false,Bool.false_and,cond_true,cond_false,true_and,and_true];done)|with_reducible refine⟨?_,?_⟩|with_reducible exact trivial|(simp only[dB,cV,cg,cU,xC,zn,Bool.not_true,Bool.not_false,Bool.or_true,Bool.true_or,Bool.false_or,Bool.or_false,Bool.and_true,Bool.true_and,Bool.and_false,Bool.false_and,cond_true,cond_false,true_and,and_true])|simp -implicitDefEqProofs only[go_sem,Nat.reduceBEq,Nat.reduceAdd,Nat.reduceMul,Nat.reduceLeDiff,Nat.reduceEqDiff,Nat.reduceBNe,UInt8.reduceToNat,UInt32.reduceToNat,g1,g2,q1,q2])
end Go.AB
end
section
set_option maxRecDepth 4000
namespace Go.AB
open Go
open Go.Proofs.Tryz (prog)
attribute[-go_sem] cV dB cg cU
def j8(t_0:ar)(c_1:aC):Option (Bool):=some ((t_0.Kind==6)&&(t_0.S.b==c_1.b))
def qq:IC:=
 (ag [i1 2 (.jf 8 (.t 0)),cY 3 (.bool false)] [1,2]
 (ag [fa 4 0 2,ld 5 1 4,bn 6 .eql 5 6,mv 7 6,fg 8 7 true 7 2,lg 9 7 true 1 8,b6 10 7 true (.bM [.str []] false (.t 1)),sm 11 7 true .eql 9 10,pf 12 7 11,mv 3 12] [3]
 .ret))
theorem Ae:aY prog 125 13 [⟨3,true,none⟩] qq=true:=by kernel_rfl
theorem Aq{t_0 c_1}{B1:Nat}{s:ab}{Q:List AV->ab->Prop}(hB1:s B1=some (.cells [.str c_1.b])):ok (j8 t_0 c_1) (fun r=>Q [.bool r] s)->FN prog 125 [.agg [.int .i64 t_0.Kind,.int .i64 t_0.bA,.int .i64 t_0.To,.int .i64 t_0.V.Kind,.int .i64 t_0.V.N,.str t_0.V.S.b,sF 4 t_0.V.L,.str t_0.S.b],.ref B1 0] s Q:=by
 have hS:s=(s.set B1 (.cells [.str c_1.b])):=by simp only[eW hB1]
 rw[hS]
 intro h
 refine FO Ae rfl rfl ?_
 revert h
 rw[qq,j8]
 repeat'(first
  |simp -implicitDefEqProofs only[go_sem,seval])
theorem Ap{t_0 c_1}{B1:Nat}{s:ab}{r:Bool}(hB1:s B1=some (.cells [.str c_1.b]))(h:j8 t_0 c_1=some r):FE prog 125 [.agg [.int .i64 t_0.Kind,.int .i64 t_0.bA,.int .i64 t_0.To,.int .i64 t_0.V.Kind,.int .i64 t_0.V.N,.str t_0.V.S.b,sF 4 t_0.V.L,.str t_0.S.b],.ref B1 0] s [.bool r] s:=Aq hB1 ⟨r,h,rfl,rfl⟩
def mX(b_0:(List UInt8))(ay:Int)(aj:Bool)(FU:aC):Option (ar×Int):=
 ba (dp b_0 ay aj) fun r1=>
 if r1.2 !=0 then
  some ((ar.mk 0 0 0 (aa.mk 0 0 (aC.mk []) ([]:List aa)) (aC.mk [])),r1.2)
 else
  if r1.1.Kind==0 then
   some ((ar.mk 0 0 0 (aa.mk 0 0 (aC.mk []) ([]:List aa)) (aC.mk [])),10)
  else
   ba (j8 r1.1 FU) fun r2=>
   if !r2 then
    some ((ar.mk 0 0 0 (aa.mk 0 0 (aC.mk []) ([]:List aa)) (aC.mk [])),11)
   else
    some (r1.1,0)
theorem IJ:(uQ prog 125=true)=True:=eq_true (by kernel_rfl)
def ud:IC:=
 (ag [i1 8 (.aA jK),mi 9 0] [0,1,2,3,8]
 (ag [mt 13 0,mv 14 1,mv 15 2,c3 16 127 13 14 15,jJ 12 16,ex 17 12 0,ex 18 12 1,i1 10 (.aA jK),st 8 10 17,mv 11 18] [3,8,10,11]
 (.seq (.block 0 (ag [mv 20 11,bn 21 .neq 20 0,mv 19 21] [3,8,10,11,19]
 (.cond (.t 19) (ag [i1 22 (.build jK []),mv 23 11,st 8 8 22,mv 9 23] [8,9]
 .ret)
 (ag [fa 25 0 10,ld 26 1 25,bn 27 .eql 26 0,mv 24 27] [3,8,10,24]
 (.cond (.t 24) (ag [i1 28 (.build jK []),st 8 8 28,mi 9 10] [8,9]
 .ret)
 (ag [mv 30 3,lm 31 8 10,i1 32 (.dj (.t 30) [(.t 31)]),no 33 32,mv 29 33] [8,10,29]
 (.cond (.t 29) (ag [i1 34 (.build jK []),st 8 8 34,mi 9 11] [8,9]
 .ret)
 .skip)))))))
 (ag [lm 35 8 10,st 8 8 35,mi 9 0] [8,9]
 .ret))))
theorem DS:aY prog 123 36 [⟨8,false,some (8,true)⟩,⟨9,true,none⟩] ud=true:=by kernel_rfl
theorem Ec{b_0 ay aj FU}{B3_0:Nat}{s:ab}{Q:List AV->ab->Prop}(O5:s B3_0=some (.cells [.str FU.b])):ok (mX b_0 ay aj FU) (fun r=>Q [.agg [.int .i64 r.1.Kind,.int .i64 r.1.bA,.int .i64 r.1.To,.int .i64 r.1.V.Kind,.int .i64 r.1.V.N,.str r.1.V.S.b,sF 4 r.1.V.L,.str r.1.S.b],.int .i64 r.2] s)->FN prog 123 [sF 1 b_0,.int .i64 ay,.bool aj,.fn 125 [] [.ref B3_0 0]] s Q:=by
 have hS:s=(s.set B3_0 (.cells [.str FU.b])):=by simp only[eW O5]
 rw[hS]
 intro h
 refine FO DS rfl rfl ?_
 revert h
 rw[ud,mX]
 repeat'(first
  |(with_reducible first|exact dh|refine b9 ?_ ?_|refine dT ?_|refine ax (fun _(h:dp b_0 ay aj=some _)=>ll h) (fun r1=>?_)|refine ax (fun _(h:j8 r1.1 FU=some _)=>Ap (B1:=B3_0) (by simp -implicitDefEqProofs only[go_sem,seval,IJ]<;>simp only[bG]) h) (fun r2=>?_))
  |simp -implicitDefEqProofs only[go_sem,seval,IJ])
theorem Eb{b_0 ay aj FU}{B3_0:Nat}{s:ab}{r:ar×Int}(O5:s B3_0=some (.cells [.str FU.b]))(h:mX b_0 ay aj FU=some r):FE prog 123 [sF 1 b_0,.int .i64 ay,.bool aj,.fn 125 [] [.ref B3_0 0]] s [.agg [.int .i64 r.1.Kind,.int .i64 r.1.bA,.int .i64 r.1.To,.int .i64 r.1.V.Kind,.int .i64 r.1.V.N,.str r.1.V.S.b,sF 4 r.1.V.L,.str r.1.S.b],.int .i64 r.2] s:=Ec O5 ⟨r,h,rfl,rfl⟩
def mW(b_0:(List UInt8))(ay:Int)(aj:Bool)(sG:aC):Option (Int×Int):=
 ba (mX b_0 ay aj sG) fun r1=>
 some (r1.1.To,r1.2)
def ub:IC:=
 (ag [i1 7 (.qE 1 (.t 3)),mi 8 0,mi 9 0] [0,1,2,7]
 (ag [mt 13 0,mv 14 1,mv 15 2,i1 16 (.lI 125 [] [(.t 7)]),Ld 17 123 13 14 15 16,jJ 12 17,ex 18 12 0,ex 19 12 1,i1 10 (.aA jK),st 8 10 18,mv 11 19] [10,11]
 (ag [fa 20 2 10,ld 21 1 20,mv 22 11,mv 8 21,mv 9 22] [8,9]
 .ret)))
theorem DQ:aY prog 70 23 [⟨8,true,none⟩,⟨9,true,none⟩] ub=true:=by kernel_rfl
theorem D9{b_0 ay aj sG}{s:ab}{Q:List AV->ab->Prop}:ok (mW b_0 ay aj sG) (fun r=>Q [.int .i64 r.1,.int .i64 r.2] s)->FN prog 70 [sF 1 b_0,.int .i64 ay,.bool aj,.str sG.b] s Q:=by
 intro h
 refine FN.forget ?_
 refine FO DQ rfl rfl ?_
 revert h
 rw[ub,mW]
 repeat'(first
  |with_reducible refine ax (fun _(h:mX b_0 ay aj sG=some _)=>Eb (B3_0:=N1) (by simp -implicitDefEqProofs only[go_sem,seval]<;>simp only[bG]) h) (fun r1=>?_)
  |((fail_if_success (have _x:=sN1));with_reducible intro hh N1 hN1;(try simp only[eU]at hN1);have sN1:=hN1;revert hh)
  |with_reducible exact fun hh=>⟨_,qD.set (qD.refl _) (by simp[ab.set,sN1]),hh⟩
  |simp -implicitDefEqProofs only[go_sem,seval])
theorem D8{b_0 ay aj sG}{s:ab}{r:Int×Int}(h:mW b_0 ay aj sG=some r):FE prog 70 [sF 1 b_0,.int .i64 ay,.bool aj,.str sG.b] s [.int .i64 r.1,.int .i64 r.2] s:=D9 ⟨r,h,rfl,rfl⟩
def j9(t_0:ar):Option (Bool):=some ((t_0.Kind==1)&&(t_0.V.Kind==2))
def qt:IC:=
 (ag [i1 1 (.jf 8 (.t 0)),cY 2 (.bool false)] [1]
 (ag [fa 3 0 1,ld 4 1 3,bn 5 .eql 4 1,mv 6 5,fg 7 6 true 3 1,fg 8 6 true 0 7,lg 9 6 true 1 8,im 10 6 true .eql 9 2,pf 11 6 10,mv 2 11] [2]
 .ret))
theorem Af:aY prog 124 12 [⟨2,true,none⟩] qt=true:=by kernel_rfl
theorem As{t_0}{s:ab}{Q:List AV->ab->Prop}:ok (j9 t_0) (fun r=>Q [.bool r] s)->FN prog 124 [.agg [.int .i64 t_0.Kind,.int .i64 t_0.bA,.int .i64 t_0.To,.int .i64 t_0.V.Kind,.int .i64 t_0.V.N,.str t_0.V.S.b,sF 4 t_0.V.L,.str t_0.S.b]] s Q:=by
 intro h
 refine FO Af rfl rfl ?_
 revert h
 rw[qt,j9]
 repeat'(first
  |simp -implicitDefEqProofs only[go_sem,seval])
theorem Ar{t_0}{s:ab}{r:Bool}(h:j9 t_0=some r):FE prog 124 [.agg [.int .i64 t_0.Kind,.int .i64 t_0.bA,.int .i64 t_0.To,.int .i64 t_0.V.Kind,.int .i64 t_0.V.N,.str t_0.V.S.b,sF 4 t_0.V.L,.str t_0.S.b]] s [.bool r] s:=As ⟨r,h,rfl,rfl⟩
def ly(b_0:(List UInt8))(ay:Int)(aj:Bool):Option (ar×Int):=
 ba (dp b_0 ay aj) fun r1=>
 if r1.2 !=0 then
  some ((ar.mk 0 0 0 (aa.mk 0 0 (aC.mk []) ([]:List aa)) (aC.mk [])),r1.2)
 else
  if r1.1.Kind==0 then
   some ((ar.mk 0 0 0 (aa.mk 0 0 (aC.mk []) ([]:List aa)) (aC.mk [])),10)
  else
   ba (j9 r1.1) fun r2=>
   if !r2 then
    some ((ar.mk 0 0 0 (aa.mk 0 0 (aC.mk []) ([]:List aa)) (aC.mk [])),11)
   else
    some (r1.1,0)
theorem OY:(uQ prog 124=true)=True:=eq_true (by kernel_rfl)
def rD:IC:=
 (ag [i1 8 (.aA jK),mi 9 0] [0,1,2,3,8]
 (ag [mt 13 0,mv 14 1,mv 15 2,c3 16 127 13 14 15,jJ 12 16,ex 17 12 0,ex 18 12 1,i1 10 (.aA jK),st 8 10 17,mv 11 18] [3,8,10,11]
 (.seq (.block 0 (ag [mv 20 11,bn 21 .neq 20 0,mv 19 21] [3,8,10,11,19]
 (.cond (.t 19) (ag [i1 22 (.build jK []),mv 23 11,st 8 8 22,mv 9 23] [8,9]
 .ret)
 (ag [fa 25 0 10,ld 26 1 25,bn 27 .eql 26 0,mv 24 27] [3,8,10,24]
 (.cond (.t 24) (ag [i1 28 (.build jK []),st 8 8 28,mi 9 10] [8,9]
 .ret)
 (ag [mv 30 3,lm 31 8 10,i1 32 (.dj (.t 30) [(.t 31)]),no 33 32,mv 29 33] [8,10,29]
 (.cond (.t 29) (ag [i1 34 (.build jK []),st 8 8 34,mi 9 11] [8,9]
 .ret)
 .skip)))))))
 (ag [lm 35 8 10,st 8 8 35,mi 9 0] [8,9]
 .ret))))
theorem B9:aY prog 123 36 [⟨8,false,some (8,true)⟩,⟨9,true,none⟩] rD=true:=by kernel_rfl
theorem CG{b_0 ay aj}{s:ab}{Q:List AV->ab->Prop}:ok (ly b_0 ay aj) (fun r=>Q [.agg [.int .i64 r.1.Kind,.int .i64 r.1.bA,.int .i64 r.1.To,.int .i64 r.1.V.Kind,.int .i64 r.1.V.N,.str r.1.V.S.b,sF 4 r.1.V.L,.str r.1.S.b],.int .i64 r.2] s)->FN prog 123 [sF 1 b_0,.int .i64 ay,.bool aj,.fn 124 [] []] s Q:=by
 intro h
 refine FO B9 rfl rfl ?_
 revert h
 rw[rD,ly]
 repeat'(first
  |(with_reducible first|exact dh|refine b9 ?_ ?_|refine dT ?_|refine ax (fun _(h:dp b_0 ay aj=some _)=>ll h) (fun r1=>?_)|refine ax (fun _(h:j9 r1.1=some _)=>Ar h) (fun r2=>?_))
  |simp -implicitDefEqProofs only[go_sem,seval,OY])
theorem CF{b_0 ay aj}{s:ab}{r:ar×Int}(h:ly b_0 ay aj=some r):FE prog 123 [sF 1 b_0,.int .i64 ay,.bool aj,.fn 124 [] []] s [.agg [.int .i64 r.1.Kind,.int .i64 r.1.bA,.int .i64 r.1.To,.int .i64 r.1.V.Kind,.int .i64 r.1.V.N,.str r.1.V.S.b,sF 4 r.1.V.L,.str r.1.S.b],.int .i64 r.2] s:=CG ⟨r,h,rfl,rfl⟩
def gu(b_0:(List UInt8))(ay:Int)(aj:Bool):Option (Int×Int×Int):=
 ba (ly b_0 ay aj) fun r1=>
 some (r1.1.V.N,r1.1.To,r1.2)
def qp:IC:=
 (ag [mi 6 0,mi 7 0,mi 8 0] [0,1,2]
 (ag [mt 12 0,mv 13 1,mv 14 2,i1 15 (.call 123 [(.t 12),(.t 13),(.t 14),(.c (.fn 124 [] []))]),jJ 11 15,ex 16 11 0,ex 17 11 1,i1 9 (.aA jK),st 8 9 16,mv 10 17] [9,10]
 (.seq (.bP (some 9) [fa 18 3 9,fa 19 1 18,ld 20 1 19,fa 21 2 9,ld 22 1 21,mv 23 10,mv 6 20,mv 7 22,mv 8 23] [6,7,8])
 .ret)))
theorem Ad:aY prog 69 24 [⟨6,true,none⟩,⟨7,true,none⟩,⟨8,true,none⟩] qp=true:=by kernel_rfl
theorem Ao{b_0 ay aj}{s:ab}{Q:List AV->ab->Prop}:ok (gu b_0 ay aj) (fun r=>Q [.int .i64 r.1,.int .i64 r.2.1,.int .i64 r.2.2] s)->FN prog 69 [sF 1 b_0,.int .i64 ay,.bool aj] s Q:=by
 intro h
 refine FO Ad rfl rfl ?_
 revert h
 rw[qp,gu]
 repeat'(first
  |with_reducible refine ax (fun _(h:ly b_0 ay aj=some _)=>CF h) (fun r1=>?_)
  |simp -implicitDefEqProofs only[go_sem,seval])
theorem qA{b_0 ay aj}{s:ab}{r:Int×Int×Int}(h:gu b_0 ay aj=some r):FE prog 69 [sF 1 b_0,.int .i64 ay,.bool aj] s [.int .i64 r.1,.int .i64 r.2.1,.int .i64 r.2.2] s:=Ao ⟨r,h,rfl,rfl⟩
end Go.AB
end
section
namespace Go.AB
open Go Go.Sort Go.Proofs Go.Shelf
theorem DK{G G':Gh}{w w':World}(hn:∀b,G.O b=.none)(h:az G w G' w'):∃q os,w'=grow (w.drewN q) os:=by
 refine⟨w'.drawn -w.drawn,w'.heap.extract w.heap.size w'.heap.size,?_⟩
 have Pe:w'.heap=w.heap++w'.heap.extract w.heap.size w'.heap.size:=by
  apply Array.ext_getElem?
  intro i
  rcases Nat.lt_or_ge i w.heap.size with hi|hi
  ·rw[Array.getElem?_append_left hi];exact h.frame i hi (.inr (hn i))
  ·rw[Array.getElem?_append_right hi,Array.getElem?_extract]
   have e:w.heap.size+(i -w.heap.size)=i:=by omega
   rw[e]
   split
   ·rfl
   ·rename_i h2
    rw[Array.getElem?_eq_none (by omega)]
 have hd:=h.drawn
 have ho:=h.os
 have ht:=h.tape
 have hp:=h.output
 generalize w'.heap.extract w.heap.size w'.heap.size=os at Pe
 obtain⟨hp',tp,dr,o,ou⟩:=w'
 simp only at Pe hd ho ht hp
 subst Pe;subst ho;subst ht;subst hp
 show _={w.drewN (dr -w.drawn)with heap:=w.heap++os}
 unfold World.drewN
 have:w.drawn+(dr -w.drawn)=dr:=by omega
 rw[this]
section
variable{P:Program}{f g:FuncId}{α:Type}[aR α][Inhabited α]{enc:α->List Value}{k:Nat}{cf:α->α->Int}
theorem KO(hfe:∀x y:α,FE P g [.agg (aR.cells x),.agg (aR.cells y)] A6 [.int .i64 (cf x y)] A6)(ZK:∀(w:World)(R:Nat->Nat)(x:α),VR w R (.agg (aR.cells x)) (.agg (enc x).toArray))(sM off size:Nat)(w:World):
 CmpLays P g #[] enc k cf sM off size w:=by
 intro m os dk hs x y
 have h:=hfe x y ⟨fun _=>0,fun _=>.none⟩ (sortWorldK enc k w sM off m dk os) #[.agg (enc x).toArray,.agg (enc y).toArray] ⟨fun _ _=>rfl,fun _ _=>rfl⟩ (fun b=>.inl rfl) (fun b o h=>by cases h)
  ⟨rfl,fun j a v hj hv=>by
    match j,hj,hv with
    |0,hj,hv=>cases hj;cases hv;exact ZK _ _ x
    |1,hj,hv=>cases hj;cases hv;exact ZK _ _ y⟩
 rw[Array.append_empty]
 refine h.mono ?_
 rintro e w' ⟨v,rs,s',G',rfl,⟨rfl,rfl⟩,_,_,hr,hp⟩
 have hv:v=.int .i64 (cf x y):=VR.bT hr.1
 subst hv
 exact⟨rfl,DK (fun _=>rfl) hp⟩
omit[Inhabited α]in
theorem EK(l:List α)(sp:List AV){i r:Nat}(hi:i<l.length)(hr:r<aR.w α):(flat l++sp)[i*aR.w α+r]? =(aR.cells l[i])[r]? :=by
 have hlt:i*aR.w α+r<(flat l).length:=by
  rw[aE]
  calc i*aR.w α+r<(i+1)*aR.w α:=by rw[Nat.add_mul];omega
   _<=l.length*aR.w α:=Nat.mul_le_mul_right _ hi
 rw[List.getElem?_append_left hlt]
 have h:=jS l (aR.w α) i 1 rfl
 rw[Nat.one_mul,List.drop_eq_getElem_cons hi]at h
 have h2:(AB.sub (flat l) (i*aR.w α) (aR.w α))[r]? =(aR.cells l[i])[r]? :=by
  rw[h]
  show(flat [l[i]])[r]? =_
  unfold flat
  simp
 rw[Bd,if_pos hr]at h2
 exact h2
theorem S5(hk:k=aR.w α)(hlen:∀x,(enc x).length=k)
 (adB:∀(w:World)(R:Nat->Nat)(x:α)(vs:List Value),vs.length=k->(∀(j:Nat)(c:AV)(v:Value),(aR.cells x)[j]? =some c->vs[j]? =some v->VR w R c v)->vs=enc x)
 (hvr:∀(w:World)(R:Nat->Nat)(x:α)(j:Nat)(c:AV)(v:Value),(aR.cells x)[j]? =some c->(enc x)[j]? =some v->VR w R c v)
 (adA:∀(sM off cap:Nat)(d:Array α)(w:World),HoldsK enc k w sM off d->sM<w.heap.size->d.size<4611686018427387904->Calls P f #[.slice (some ⟨sM,off,none⟩) d.size cap,.func (.func g) #[] #[]] w fun e w'=>e=.returned (.tuple #[])/\∃d' n os,PermIn 0 d.size d d'/\SortedIn (ltOf cf) 0 d.size d'/\w'=sortWorldK enc k w sM off n d' os)
 {b cap:Nat}{l:List α}{sp:List AV}{s:ab}{Q:List AV->ab->Prop}(hs:s b=some (.cells (flat l++sp)))(hc:0<cap)(hb:l.length<4611686018427387904)
 (hq:∀l':List α,l'.Perm l->l'.Pairwise (fun x y=>ltOf cf y x=false)->Q [] (s.set b (.cells (flat l'++sp)))):FN P f [.arr b 0 l.length cap,.fn g [] []] s Q:=by
 subst hk
 intro G w vs hg ho cj ha
 have hvs:vs= #[.slice (some ⟨b,0,none⟩) l.length cap,.func (.func g) #[] #[]]:=by
  obtain⟨h1,h2⟩:=ha
  have h1':vs.size=2:=h1
  apply Array.ext (by simpa using h1')
  intro i hi1 hi2
  have hi:i<2:=by omega
  match i,hi with
  |0,_=>exact VR.pM (h2 0 _ _ rfl (Array.getElem?_eq_getElem (by omega))) hc
  |1,_=>
   obtain⟨vf,vc,e,s1,_,s2,_⟩:=VR.Gr (h2 1 _ _ rfl (Array.getElem?_eq_getElem (by omega)))
   rw[e]
   rw[Array.eq_empty_of_size_eq_zero s1,Array.eq_empty_of_size_eq_zero s2]
   rfl
 subst hvs
 obtain⟨q2,q3,c,t,q4,q5,q6⟩:=cj b _ hs
 have hbl:b<w.heap.size:=(Array.getElem?_eq_some_iff.1 q4).1
 have hw0:0<aR.w α:=aR.pos
 have hcs:c.size=l.length*aR.w α+sp.length:=by rw[q5.1,List.length_append,aE]
 have cS:∀i(hi:i<l.length),(c.toList.drop (i*aR.w α)).take (aR.w α)=enc l[i]:=fun i hi=>by
  have hle:i*aR.w α+aR.w α<=l.length*aR.w α:=by rw[<-Nat.succ_mul];exact Nat.mul_le_mul_right _ hi
  refine adB w G.R l[i] _ (by simp;omega) fun j x v hx hv=>?_
  have hj:j<aR.w α:=by
   have:=(List.getElem?_eq_some_iff.1 hv).1
   simp at this;omega
  rw[List.getElem?_take,if_pos hj,List.getElem?_drop]at hv
  exact(q5.2 _ x v (by rw[EK l sp hi hj];exact hx) (by simpa using hv)).1
 have jU:∀(l2:List α)(i r:Nat)(hi:i<l2.length),r<aR.w α->(flatK enc (aR.w α) l2.toArray)[i*aR.w α+r]! =(enc l2[i])[r]!:=fun l2 i r hi hr=>by
  rw[get_flatK _ _ _ _ (by
   calc i*aR.w α+r<(i+1)*aR.w α:=by rw[Nat.add_mul];omega
    _<=l2.toArray.size*aR.w α:=Nat.mul_le_mul_right _ (by rw[List.size_toArray];exact hi))]
  have e1:(i*aR.w α+r)/aR.w α=i:=by rw[Nat.mul_comm,Nat.mul_add_div hw0,Nat.div_eq_of_lt hr,Nat.add_zero]
  have e2:(i*aR.w α+r)% aR.w α=r:=by rw[Nat.mul_comm,Nat.mul_add_mod,Nat.mod_eq_of_lt hr]
  rw[e1,e2]
  simp[hi]
 have hH:HoldsK enc (aR.w α) w b 0 l.toArray:=by
  intro j hj
  rw[size_flatK]at hj
  have hj:j<l.length*aR.w α:=by simpa using hj
  have hi:j/aR.w α<l.length:=by rw[Nat.div_lt_iff_lt_mul hw0];exact hj
  have hr:j % aR.w α<aR.w α:=Nat.mod_lt _ hw0
  have ej:j/aR.w α*aR.w α+j % aR.w α=j:=by
   have:=Nat.div_add_mod j (aR.w α)
   rw[Nat.mul_comm]at this;exact this
  refine⟨?_,?_⟩
  ·rw[Nat.zero_add,cell_of_row w q4]
   have h1:=cS _ hi
   have h2:((c.toList.drop (j/aR.w α*aR.w α)).take (aR.w α))[j % aR.w α]? =c[j]? :=by rw[List.getElem?_take,if_pos hr,List.getElem?_drop,ej];simp
   rw[<-h2,h1]
   have h3:=jU l _ _ hi hr
   rw[ej]at h3
   show _=some ((flatK enc (aR.w α) l.toArray)[j]!)
   rw[h3]
   have:j % aR.w α<(enc l[j/aR.w α]).length:=by rw[hlen];exact hr
   simp[this]
  ·unfold World.frozen?
   simp[q4]
 have TU:=adA b 0 cap l.toArray w hH hbl (by simpa using hb)
 rw[List.size_toArray]at TU
 refine TU.mono ?_
 rintro e w' ⟨rfl,d',m,os,hp,hsd,rfl⟩
 obtain⟨p1,_,p3⟩:=hp
 have p1:d'.size=l.length:=by simpa using p1
 have LV:d'.toList.Perm l:=by
  have e1:d'.extract 0 l.toArray.size=d':=by rw[List.size_toArray,<-p1];exact Array.extract_size
  have e2:l.toArray.extract 0 l.toArray.size=l.toArray:=Array.extract_size
  have:(d'.extract 0 l.toArray.size).toList.Perm (l.toArray.extract 0 l.toArray.size).toList:=by simpa using p3
  rw[e1,e2]at this
  simpa using this
 obtain⟨l',rfl⟩:∃l':List α,d'=l'.toArray:=⟨d'.toList,by simp⟩
 have hl':l'.length=l.length:=by simpa using p1
 have LV:l'.Perm l:=by simpa using LV
 have rn:l'.Pairwise (fun x y=>ltOf cf y x=false):=by
  rw[List.pairwise_iff_getElem]
  intro i j hi hj hij
  have:=hsd i j (Nat.zero_le _) hij (by omega)
  simpa[hi,hj]using this
 generalize hF:flatK enc (aR.w α) l'.toArray=F
 have hFs:F.size=l.length*aR.w α:=by rw[<-hF,size_flatK];simp[hl']
 generalize hw':sortWorldK enc (aR.w α) w b 0 m l'.toArray os=w'
 have ew:w'=grow (mapBlock (Go.Sort.ahead w m) b (putCells id 0 F)) os:=by rw[<-hw',<-hF];rfl
 have hsz:w.heap.size<=w'.heap.size:=by rw[ew];simp[grow,mapBlock,Go.Sort.ahead]
 have Gl:∀i,i<w.heap.size->i≠b->w'.heap[i]? =w.heap[i]? :=fun i hi hib=>by
  rw[ew,heap_grow_old _ _ (by simpa[mapBlock,Go.Sort.ahead]using hi)]
  unfold mapBlock
  show((Go.Sort.ahead w m).heap.modify b _)[i]? =_
  rw[Array.getElem?_modify,if_neg (fun e=>hib e.symm)]
  rfl
 have IQ:w'.heap[b]? =some (.cells (putCells id 0 F c) t (0,0)):=by
  rw[ew,heap_grow_old _ _ (by simpa[mapBlock,Go.Sort.ahead]using hbl)]
  unfold mapBlock
  show((Go.Sort.ahead w m).heap.modify b _)[b]? =_
  rw[Array.getElem?_modify,if_pos rfl]
  show Option.map _ (w.heap[b]?)=_
  rw[q4];rfl
 have aV:az G w G w':=by
  refine⟨by rw[ew];rfl,by rw[ew];rfl,by rw[ew];rfl,by rw[ew];exact Nat.le_add_right _ _,hsz,fun _ _=>Nat.le_refl _,fun i j hi hj=>?_,fun i hi hof=>?_,fun _ _ h=>⟨h,rfl⟩,fun _ _ h=>⟨h,rfl⟩⟩
  ·have hib:i≠b:=fun e=>by subst e;rw[q3]at hj;omega
   exact World.cell?_of_block (Gl i hi hib)
  ·exact Gl i hi fun e=>by subst e;rw[q2]at hof;rcases hof with h|h<;>cases h
 have hg':bR G w':=⟨fun i hi=>hg.ik i (Nat.le_trans hsz hi),fun i hi=>hg.iT i (Nat.le_trans hsz hi)⟩
 have hlt:∀i,G.O i≠.none->i<w.heap.size:=fun i hi=>hg.lt hi
 refine⟨_,[],_,G,rfl,hq l' LV rn,hg',fun i o hi=>?_,⟨#[],rfl,rfl,fun j x y hx=>by simp at hx⟩,aV⟩
 unfold ab.set at hi
 by_cases hib:i=b
 ·rw[if_pos hib]at hi;injection hi with hi;subst hi;subst hib
  refine⟨q2,q3,_,t,IQ,⟨?_,fun j x y hx hy=>?_⟩,?_⟩
  ·unfold putCells
   rw[Array.size_mapIdx,hcs,List.length_append,aE,hl']
  ·unfold putCells at hy
   rw[Array.getElem?_mapIdx]at hy
   by_cases hj:j<l.length*aR.w α
   ·have hjc:j<c.size:=by omega
    have hi':j/aR.w α<l'.length:=by rw[Nat.div_lt_iff_lt_mul hw0,hl'];exact hj
    have hr:j % aR.w α<aR.w α:=Nat.mod_lt _ hw0
    have ej:j/aR.w α*aR.w α+j % aR.w α=j:=by
     have:=Nat.div_add_mod j (aR.w α)
     rw[Nat.mul_comm]at this;exact this
    rw[Array.getElem?_eq_getElem hjc]at hy
    simp only[Option.map_some,Nat.zero_le,Nat.zero_add,hFs,hj,and_self,if_true,Nat.sub_zero,id]at hy
    have hx2:(aR.cells l'[j/aR.w α])[j % aR.w α]? =some x:=by rw[<-EK l' sp hi' hr,ej];exact hx
    have hy2:(enc l'[j/aR.w α])[j % aR.w α]? =some y:=by
     have h3:=jU l' _ _ hi' hr
     rw[ej,hF]at h3
     rw[h3]at hy
     have:j % aR.w α<(enc l'[j/aR.w α]).length:=by rw[hlen];exact hr
     simp[this]at hy⊢
     exact hy
    refine⟨hvr w' G.R _ _ _ _ hx2 hy2,?_⟩
    have hxm:x∈flat l':=by
     have:j<(flat l').length:=by rw[aE,hl'];exact hj
     rw[List.getElem?_append_left this]at hx
     exact List.mem_of_getElem? hx
    have hv:=bX l'
    rw[<-hv]at hxm
    obtain⟨x0,_,rfl⟩:=List.mem_map.1 hxm
    exact cQ.view ..
   ·have hnj:¬(0<=j/\j<0+F.size):=fun h=>hj (by have:=h.2;omega)
    have hy':c[j]? =some y:=by
     cases hcj:c[j]? with
     |none=>rw[hcj]at hy;cases hy
     |some u=>rw[hcj]at hy;simp only[Option.map_some,if_neg hnj]at hy;exact hy
    have hx':(flat l++sp)[j]? =some x:=by
     rw[List.getElem?_append_right (by rw[aE,hl'];omega),aE,hl']at hx
     rw[List.getElem?_append_right (by rw[aE];omega),aE]
     exact hx
    obtain⟨h1,h2⟩:=q5.2 j x y hx' hy'
    exact⟨aV.vr hg h1,h2.mono fun i hi=>⟨hi,rfl,Gl i (hlt i (by rw[hi];simp)) (fun e=>by subst e;rw[q2]at hi;cases hi)⟩⟩
  ·intro x hx
   rcases List.mem_append.1 hx with hx|hx
   ·refine q6 x (List.mem_append_left _ ?_)
    unfold flat at hx⊢
    rw[List.mem_flatten]at hx⊢
    obtain⟨cs,h1,h2⟩:=hx
    obtain⟨a,h3,rfl⟩:=List.mem_map.1 h1
    exact⟨_,List.mem_map.2 ⟨a,LV.mem_iff.1 h3,rfl⟩,h2⟩
   ·exact q6 x (List.mem_append_right _ hx)
 ·rw[if_neg hib]at hi
  obtain⟨r1,r2,r3⟩:=cj i o hi
  refine⟨r1,r2,?_⟩
  have hbk:=Gl i (hlt i (by rw[r1];simp)) hib
  cases o with
  |cells cs=>
   obtain⟨c0,t0,r4,r5,r6⟩:=r3
   exact⟨c0,t0,hbk.trans r4,r5.mono (fun _ _ hv=>aV.vr hg hv) (fun b' j hb'=>⟨hb',rfl,Gl b' (hlt b' (by rw[hb'];simp)) (fun e=>by subst e;rw[q2]at hb';cases hb')⟩),r6⟩
  |map es=>
   obtain⟨gM,clock,r4,r5,r6⟩:=r3
   exact⟨gM,clock,hbk.trans r4,r5,fun j x y hx hy=>⟨aV.vr hg (r6 j x y hx hy).1,aV.vr hg (r6 j x y hx hy).2⟩⟩
end
end Go.AB
end
section
namespace Go.Proofs
open Go.Shelf
def Tryz.zQ:Go.Shelf.Ren:=⟨fun|6=>212|15=>251|14=>250|28=>286|29=>287|20=>278|21=>279|22=>280|23=>281|24=>282|25=>283|26=>284|27=>285|46=>319|47=>320|48=>321|49=>322|50=>323|57=>350|n=>n,fun|22=>179|24=>188|25=>289|3=>3|39=>326|0=>0|53=>321|55=>371|4=>4|46=>364|45=>363|50=>71|5=>5|9=>9|66=>402|70=>317|76=>432|77=>122|n=>n,fun|n=>n⟩
theorem Tryz.Mw:Go.Proofs.SlLaysF0.n6 Tryz.prog Tryz.zQ:={
 mixed:=by kernel_rfl
 f6:=⟨Tryz.f212.name,by decide,Tryz.func212.trans (congrArg some (by kernel_rfl))⟩
 f14:=⟨Tryz.f250.name,by decide,Tryz.func250.trans (congrArg some (by kernel_rfl))⟩
 f15:=Tryz.func251.trans (congrArg some (by kernel_rfl))
 f20:=⟨Tryz.f278.name,by decide,Tryz.func278.trans (congrArg some (by kernel_rfl))⟩
 f21:=⟨Tryz.f279.name,by decide,Tryz.func279.trans (congrArg some (by kernel_rfl))⟩
 f22:=⟨Tryz.f280.name,by decide,Tryz.func280.trans (congrArg some (by kernel_rfl))⟩
 f23:=⟨Tryz.f281.name,by decide,Tryz.func281.trans (congrArg some (by kernel_rfl))⟩
 f24:=⟨Tryz.f282.name,by decide,Tryz.func282.trans (congrArg some (by kernel_rfl))⟩
 f25:=⟨Tryz.f283.name,by decide,Tryz.func283.trans (congrArg some (by kernel_rfl))⟩
 f26:=⟨Tryz.f284.name,by decide,Tryz.func284.trans (congrArg some (by kernel_rfl))⟩
 f27:=⟨Tryz.f285.name,by decide,Tryz.func285.trans (congrArg some (by kernel_rfl))⟩
 f28:=Tryz.func286.trans (congrArg some (by kernel_rfl))
 f29:=Tryz.func287.trans (congrArg some (by kernel_rfl))
 f46:=⟨Tryz.f319.name,by decide,Tryz.func319.trans (congrArg some (by kernel_rfl))⟩
 f47:=Tryz.func320.trans (congrArg some (by kernel_rfl))
 f48:=Tryz.func321.trans (congrArg some (by kernel_rfl))
 f49:=⟨Tryz.f322.name,by decide,Tryz.func322.trans (congrArg some (by kernel_rfl))⟩
 f50:=⟨Tryz.f323.name,by decide,Tryz.func323.trans (congrArg some (by kernel_rfl))⟩
 f57:=⟨Tryz.f350.name,by decide,Tryz.func350.trans (congrArg some (by kernel_rfl))⟩
 t0:=Tryz.underlying0
 a0:=Tryz.isAgg0
 z0:=Tryz.sizeOf0
 v0:=Tryz.zeroValue0
 t3:=Tryz.underlying3
 a3:=Tryz.isAgg3
 z3:=Tryz.sizeOf3
 v3:=Tryz.zeroValue3
 t4:=Tryz.underlying4
 a4:=Tryz.isAgg4
 z4:=Tryz.sizeOf4
 v4:=Tryz.zeroValue4
 t5:=Tryz.underlying5
 a5:=Tryz.isAgg5
 z5:=Tryz.sizeOf5
 v5:=Tryz.zeroValue5
 t9:=Tryz.underlying9
 a9:=Tryz.isAgg9
 z9:=Tryz.sizeOf9
 v9:=Tryz.zeroValue9
 t22:=Tryz.underlying179
 a22:=Tryz.isAgg179
 z22:=Tryz.sizeOf179
 v22:=Tryz.zeroValue179
 t25:=Tryz.underlying289
 a25:=Tryz.isAgg289
 z25:=Tryz.sizeOf289
 v25:=Tryz.zeroValue289
 t39:=Tryz.underlying326
 a39:=Tryz.isAgg326
 z39:=Tryz.sizeOf326
 v39:=Tryz.zeroValue326
 t45:=Tryz.underlying363
 a45:=Tryz.isAgg363
 z45:=Tryz.sizeOf363
 v45:=Tryz.zeroValue363
 t46:=Tryz.underlying364
 a46:=Tryz.isAgg364
 z46:=Tryz.sizeOf364
 v46:=Tryz.zeroValue364
 t50:=Tryz.underlying71
 a50:=Tryz.isAgg71
 z50:=Tryz.sizeOf71
 v50:=Tryz.zeroValue71
 t53:=Tryz.underlying321
 a53:=Tryz.isAgg321
 z53:=Tryz.sizeOf321
 v53:=Tryz.zeroValue321
 t55:=Tryz.underlying371
 a55:=Tryz.isAgg371
 z55:=Tryz.sizeOf371
 v55:=Tryz.zeroValue371
 t66:=Tryz.underlying402
 a66:=Tryz.isAgg402
 z66:=Tryz.sizeOf402
 v66:=Tryz.zeroValue402
 t70:=Tryz.underlying317
 a70:=Tryz.isAgg317
 z70:=Tryz.sizeOf317
 v70:=Tryz.zeroValue317
 t76:=Tryz.underlying432
 a76:=Tryz.isAgg432
 z76:=Tryz.sizeOf432
 v76:=Tryz.zeroValue432
 t77:=Tryz.underlying122
 a77:=Tryz.isAgg122
 z77:=Tryz.sizeOf122
 v77:=Tryz.zeroValue122}
end Go.Proofs
end
section
namespace Go.AB
open Go
@[go_sem]theorem acw:((10:Int)≠0)=True:=eq_true (by decide)
@[go_sem]theorem acx(l:List UInt8)(n:Nat):AB.sub (flat l) 0 (n*1)=flat (part l 0 (n:Int)):=by
  have:=xW 1 l 0 (n:Int) rfl
  rw[Int.sub_zero]at this
  exact this
end Go.AB
end
