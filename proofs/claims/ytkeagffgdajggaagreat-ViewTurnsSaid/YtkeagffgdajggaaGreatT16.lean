/- A part of the proof: Pv, Ps, Pc, Is, It, Ar, Pp, Pw, Pn. -/
import Derived.Test.YtkeagffgdajggaaGreatT14
import Derived.Test.YtkeagffgdajggaaGreatT15
import Derived.Test.YtkeagffgdajggaaGreatT12
set_option linter.unusedSimpArgs false
set_option linter.unusedVariables false
section
set_option maxRecDepth 4000
namespace Go.AB
open Go
attribute[-go_sem] Nat.add_zero lf bC bU cN bw bT
def tQ:IC:=
 (ae [i1 6 (.aq gB),mi 7 0,mi 8 0] [0,1,2,6]
 (.B8 0 [(6,false),(9,false)] (.bD none [mv 15 0,mv 16 1,mv 17 2,i1 18 (.build [.sl true 1 0 [],.int .i64 0,.bool false,.arr 0 0 0 0] [(0,1,(.t 15)),(1,1,(.t 16)),(2,1,(.t 17))]),i1 19 (.mP 4 (.t 18)),mv 9 19] [6,9])
 .skip
 .skip
 (ae [mv 21 9,c1 22 74 21,iw 20 22,ex 23 20 0,ex 24 20 1,i1 10 (.aq A3),st 8 10 23,mv 11 24] [6,9,10,11]
 (.seq (ae [mv 25 11,bn 26 .neq 25 0] [6,9,10,11,26]
 (.cond (.t 26) (ae [i1 27 (.build gB []),mv 28 11,st 4 6 27,mi 7 0,mv 8 28] [6,7,8]
 .ret)
 .skip))
 (ae [mv 30 9,lm 31 8 10,c2 32 75 30 31,iw 29 32,ex 33 29 0,ex 34 29 1,ex 35 29 2,i1 12 (.aq gB),st 4 12 33,mv 13 34,mv 11 35] [6,9,11,12,13]
 (.seq (ae [mv 36 11,bn 37 .neq 36 0] [6,9,11,12,13,37]
 (.cond (.t 37) (ae [i1 38 (.build gB []),mv 39 11,st 4 6 38,mi 7 0,mv 8 39] [6,7,8]
 .ret)
 .skip))
 (.seq (ae [mv 40 13,no 41 40] [6,9,12,41]
 (.cond (.t 41) (.goto 0)
 .skip))
 (.seq (ae [mv 42 9,c1 43 76 42,mv 14 43] [6,9,12,14]
 (ae [mv 44 14,i1 45 (.M4 true (.t 44) (.c (.dq)))] [6,9,12,14,45]
 (.cond (.t 45) (.seq (.Sl [[false,false,false,false,false,false,false,false,false,false,false,false,false],[true,false,false,false,false,false,false,false,false,false,false,false,false],[false,true,false,false,false,false,false,false,false,false,false,false,false],[false,false,true,false,false,false,false,false,false,false,false,false,false],[false,false,false,false,false,false,false,false,false,false,false,false,false],[false,false,false,true,false,false,false,false,false,false,false,false,false],[false,false,false,false,false,false,false,false,false,false,false,false,false],[true,true,true,true,true,true,true,false,false,false,false,false,false],[true,true,true,true,true,true,true,true,false,false,false,false,false],[true,true,true,true,true,true,true,true,true,false,false,false,false],[true,true,true,true,true,true,true,true,false,false,false,false,false],[true,true,true,true,true,true,true,true,false,false,true,false,false],[true,true,true,true,true,true,true,true,false,false,false,true,false]] [mv 46 14,nc 47 46,fa 48 1 47,ld 49 1 48,lm 50 4 12,le 51 0 49,i1 52 (.aY 4 1 oG [(0,4,(.c (.agg gB)))]),i1 53 (.ee 4 56 oG (.t 49) (.t 52)),ia 54 oG 53 51,st 4 54 50,nc 55 46,fa 56 1 55,st 1 56 53] [6,9])
 (.goto 0))
 .skip)))
 (.seq (.wY [6] 8 [lm 57 4 12,mv 58 9,nc 59 58,fa 60 1 59,ld 61 1 60,st 4 6 57,mv 7 61,mi 8 0] [6,7,8])
 .ret)))))))))
def sD:List ay:=[⟨6,false,some (4,true)⟩,⟨7,true,none⟩,⟨8,true,none⟩]
theorem Fs:aC Go.Proofs.Tryz.prog 36 62 sD tQ=true:=by kernel_rfl
theorem NA{P:Program}{S O:Type}{body:S→Option (S⊕O)}{s0:S}{kf:O→Prop}{live:List (Nat×Bool)}{l:Nat}{r:IC}{Q:Exit→St→Prop}{σ:St}(R:S→St→Prop)
 (h0:R s0 σ)
 (hb:∀(J:St→Prop)(s:S)(τ:St),R s τ→ok (body s) (pM (fun t=>∀τ',R t τ'→J τ') kf)→gK P r (RX l live J Q) τ):ok (iter body s0) kf→XI P l live r Q σ:=by
 intro h
 have hmin:∀τ,(∃m s,R s τ∧ok (cL body m s) kf)→∃m,(∃s,R s τ∧ok (cL body m s) kf)∧∀k,k<m→¬∃s,R s τ∧ok (cL body k s) kf:=by
  rintro τ ⟨m,s,h⟩
  induction m using Nat.strongRecOn generalizing s with
  |_ m ih=>
   by_cases hk:∃k,k<m∧∃s,R s τ∧ok (cL body k s) kf
   ·obtain⟨k,hk,s',h'⟩:=hk
    exact ih k hk s' h'
   ·exact⟨m,⟨s,h⟩,fun k hk' hs=>hk ⟨k,hk',hs⟩⟩
 have hμ:∃μ:St→Nat,∀τ,(∃m s,R s τ∧ok (cL body m s) kf)→(∃s,R s τ∧ok (cL body (μ τ) s) kf)∧∀k,k<μ τ→¬∃s,R s τ∧ok (cL body k s) kf:=⟨fun τ=>Classical.epsilon fun m=>(∃s,R s τ∧ok (cL body m s) kf)∧∀k,k<m→¬∃s,R s τ∧ok (cL body k s) kf,fun τ hτ=>Classical.epsilon_spec (hmin τ hτ)⟩
 obtain⟨μ,hμ⟩:=hμ
 refine⟨fun τ=>∃m s,R s τ∧ok (cL body m s) kf,μ,⟨_,s0,h0,h⟩,?_⟩
 intro τ hτ
 obtain⟨⟨s,e,hs⟩,_⟩:=hμ τ hτ
 generalize hm:μ τ=m at hs
 cases m with
 |zero=>exact(yV hs).elim
 |succ m=>
  obtain⟨x,hx,k⟩:=yU hs
  refine hb _ s τ e ⟨x,hx,?_⟩
  cases x with
  |inr o=>exact k
  |inl t=>
   intro τ' ht
   refine⟨⟨m,t,ht,k⟩,?_⟩
   have h2:=(hμ τ' ⟨m,t,ht,k⟩).2
   rcases Nat.lt_or_ge m (μ τ')with hlt|hge
   ·exact(h2 m hlt ⟨t,ht,k⟩).elim
   ·omega
theorem VU{s0 s:ab}{B:Nat}{p:PS}{rr:cG}{ids:List (Nat×cG)}(h:re s0 s B p rr ids){r:a8×Int}(hr:dB p.b p.at_ p.last=some r){Q:List AV→ab→Prop}
 (h0:(r.2 !=0)=false→∀s',re s0 s' B {p with at_:=r.1.To} rr ids→Q [tA r.1,.int .i64 r.2] s')(h1:(r.2 !=0)=true→re s0 s B p rr ids→Q [tA r.1,.int .i64 r.2] s):FN Go.Proofs.Tryz.prog 74 [.ref B 0] s Q:=by
 refine wX (s_0:=⟨p.b,p.at_,p.last,gH rr p.st.length⟩) h.cell ?_
 unfold lu
 rw[dm]
 refine⟨r,hr,?_⟩
 cases he:(r.2==0)with
 |true=>
  simp only[he,if_true]
  exact⟨_,rfl,h0 (by unfold bne;rw[he];rfl) _ (h.place _)⟩
 |false=>
  simp only[he,Bool.false_eq_true,if_false]
  refine⟨_,rfl,?_⟩
  have:s.set B (.cells (iq p rr))=s:=du h.cell
  show Q _ (s.set B (.cells (iq p rr)))
  rw[this]
  exact h1 (by unfold bne;rw[he];rfl) h
theorem aeg{P:Program}{deps:List (List Bool)}{ops f:List ah}{live:List Nat}{Q:Exit→St→Prop}{d:List Bool}{σ:St}(C:St→Prop)
 (h1:∀K:St→Prop,(∀τ:St,C (τ.yW live)→K τ)→SF P deps ops K f d σ)(h2:∀φ,C φ→Q .normal φ):SF P deps ops (uS live Q) f d σ:=h1 _ fun τ h=>h2 _ h
theorem WJ{σ:St}{d:Option Nat}{K:St→Prop}{s s2:ab}{B:Nat}{p2:PS}{rr2:cG}{id:Nat×cG}{ids':List (Nat×cG)}{v:cE}{vs:List cE}(hσ:σ.s=s2)(h2:re s s2 B p2 rr2 (id::ids'))(hst:p2.st=v::vs)(hroom:(v.l_.length+1)*56≤room)(x:aa)
 (hK:∀S3 rb cap sp,S3 rb=some (.cells (flat (v.l_++[zV])++sp))→S3 id.1=some (.cells [.bool v.fL,gH id.2 v.l_.length])→rb≠id.1→
   re s ((S3.set rb (.cells (flat (v.l_++[x])++sp))).set id.1 (.cells [.bool v.fL,.arr rb 0 (v.l_.length+1) cap])) B {p2 with st:=⟨v.fL,v.l_++[x]⟩::vs} rr2 ((id.1,some (rb,cap,sp))::ids')→
   K ({σ with s:=S3}.put d (.arr rb 0 (v.l_.length+1) cap))):
 dX 4 56 [.int .i64 0,.int .i64 0,.str [],.sl false 4 0 []] σ d K (.arr (Oh id.2) 0 v.l_.length (LS id.2)) (s5 σ.s 4 (.sl true 4 1 [.int .i64 0,.int .i64 0,.str [],.sl false 4 0 []])):=by
 obtain⟨F1,F2,H⟩:=h2
 rw[hst]at F1 H
 have H1:Holds s s2 (nZ id.2 v.l_++((id.1,TW id.2 v)::((B,.cells (iq p2 rr2))::(nZ rr2 (refs (id::ids').reverse)++DB ids' vs)))):=by
  refine H.perm ?_
  refine(List.perm_middle (l₁:=(B,SO.cells (iq p2 rr2))::nZ rr2 (refs (id::ids').reverse))).trans ?_
  refine((List.perm_append_comm_assoc ((B,SO.cells (iq p2 rr2))::nZ rr2 (refs (id::ids').reverse)) (nZ id.2 v.l_) (DB ids' vs)).cons _).trans ?_
  exact List.perm_middle.symm
 obtain⟨sb,e,okr,Hb⟩:=H1.row F1.1
 rw[ft]
 refine vY (z:=zV) (v:=zV) (hσ.trans e) okr rfl hroom fun s' r' hs' ok'=>?_
 obtain⟨rb,cap,sp,rfl⟩:=LU ok' (by simp)
 obtain⟨H3,f3⟩:=(Hb.sub hs').Ym ok'
 have hne:rb≠id.1:=by
  have:=H3.2.2
  intro he
  rw[he]at this
  simp[nZ]at this
 refine hK _ rb cap sp H3.get (H3.mem (by simp[nZ,TW])) hne ?_
 have H4:=(Holds.set (o':=.cells (flat (v.l_++[x])++sp)) H3)
 have H5:=(Holds.set (o':=.cells [.bool v.fL,.arr rb 0 (v.l_.length+1) cap]) (H4.perm (List.Perm.swap ..)))
 have H6:=H5.perm (List.perm_append_comm_assoc [(id.1,SO.cells [.bool v.fL,.arr rb 0 (v.l_.length+1) cap]),(rb,.cells (flat (v.l_++[x])++sp))] ((B,SO.cells (iq p2 rr2))::nZ rr2 (refs (id::ids').reverse)) (DB ids' vs))
 have hlen:(v.l_++[x]).length=v.l_.length+1:=by simp
 have hl:TW (some (rb,cap,sp)) ⟨v.fL,v.l_++[x]⟩=.cells [.bool v.fL,.arr rb 0 (v.l_.length+1) cap]:=by
  unfold TW gH
  simp only[hlen]
  rfl
 have hp:iq {p2 with st:=⟨v.fL,v.l_++[x]⟩::vs} rr2=iq p2 rr2:=by
  unfold iq
  simp only[hst,List.length_cons]
 have hrefs:refs ((id.1,(some (rb,cap,sp):cG))::ids').reverse=refs (id::ids').reverse:=by rw[qt,qt]
 refine⟨⟨?_,F1.2⟩,by rw[hrefs];exact F2,?_⟩
 ·obtain⟨g1,g2,g3,g4⟩:=f3
  refine⟨g1,by simpa using g2,?_,g4⟩
  rw[List.length_append,ao]at g3⊢
  simpa using g3
 ·rw[hp,hrefs]
  have:DB ((id.1,some (rb,cap,sp))::ids') (⟨v.fL,v.l_++[x]⟩::vs)=[(id.1,SO.cells [.bool v.fL,.arr rb 0 (v.l_.length+1) cap]),(rb,.cells (flat (v.l_++[x])++sp))]++DB ids' vs:=by rw[←hl];rfl
  show Holds s _ ((B,SO.cells (iq p2 rr2))::(nZ rr2 _++DB ((id.1,some (rb,cap,sp))::ids') (⟨v.fL,v.l_++[x]⟩::vs)))
  rw[this]
  exact H6
theorem UM{σ:St}{d:Option Nat}{K:St→Prop}{s s2:ab}{B:Nat}{p2:PS}{rr2:cG}{id:Nat×cG}{ids':List (Nat×cG)}{v:cE}{vs:List cE}(hσ:σ.s=s2)(h2:re s s2 B p2 rr2 (id::ids'))(hst:p2.st=v::vs)(hroom:(v.l_.length+1)*56≤room)(x:aa)
 (hK:∀S3 rb cap cs,S3 rb=some (.cells cs)→S3 id.1=some (.cells [.bool v.fL,gH id.2 v.l_.length])→(∀o,(S3.set rb o) id.1=some (.cells [.bool v.fL,gH id.2 v.l_.length]))→(∀o,(S3.set id.1 o) rb=some (.cells cs))→
   v.l_.length*4+4≤cs.length→
   (∃rr3 ids3,re s ((S3.set rb (.cells (setAt cs (v.l_.length*4) [.int .i64 x.Kind,.int .i64 x.N,.str x.S.b,.sl false 4 x.L.length (flat x.L)]))).set id.1 (.cells [.bool v.fL,.arr rb 0 (v.l_.length+1) cap])) B {p2 with st:=⟨v.fL,v.l_++[x]⟩::vs} rr3 ids3)→
   (∃rr3 ids3,re s ((S3.set id.1 (.cells [.bool v.fL,.arr rb 0 (v.l_.length+1) cap])).set rb (.cells (setAt cs (v.l_.length*4) [.int .i64 x.Kind,.int .i64 x.N,.str x.S.b,.sl false 4 x.L.length (flat x.L)]))) B {p2 with st:=⟨v.fL,v.l_++[x]⟩::vs} rr3 ids3)→
   K ({σ with s:=S3}.put d (.arr rb 0 (v.l_.length+1) cap))):
 dX 4 56 [.int .i64 0,.int .i64 0,.str [],.sl false 4 0 []] σ d K (.arr (Oh id.2) 0 v.l_.length (LS id.2)) (s5 σ.s 4 (.sl true 4 1 [.int .i64 0,.int .i64 0,.str [],.sl false 4 0 []])):=by
 refine WJ hσ h2 hst hroom x fun S3 rb cap sp g1 g2 hne hfin=>?_
 have hs:setAt (flat (v.l_++[zV])++sp) (v.l_.length*4) [.int .i64 x.Kind,.int .i64 x.N,.str x.S.b,.sl false 4 x.L.length (flat x.L)]=flat (v.l_++[x])++sp:=by
  have h:=fG (v.l_++[zV]) [x] sp 4 v.l_.length rfl (by simp)
  have hx:flat [x]=[.int .i64 x.Kind,.int .i64 x.N,.str x.S.b,.sl false 4 x.L.length (flat x.L)]:=by
   unfold flat
   simp only[List.map_cons,List.map_nil,List.flatten_cons,List.flatten_nil,List.append_nil]
   exact dI x
  rw[hx]at h
  rw[h]
  simp
 refine hK S3 rb cap _ g1 g2 (fun o=>?_) (fun o=>?_) ?_ ?_ ?_
 ·rw[←g2];unfold ab.set;rw[if_neg (Ne.symm hne)]
 ·rw[←g1];unfold ab.set;rw[if_neg hne]
 ·rw[List.length_append,ao]
  have:aH.w aa=4:=rfl
  rw[this]
  simp
  omega
 ·rw[hs];exact⟨_,_,hfin⟩
 ·rw[hs,set_comm hne];exact⟨_,_,hfin⟩
def Kq(pf:List aa→Option (List aa×Int))(p:PS):Option (PS⊕(aa×Int×Int)):=
 aK (p.st.length≤64)<|
 aP (dB p.b p.at_ p.last) fun r1=>
 bif r1.2 !=0 then some (.inr (zV,0,r1.2))else
 aP (UF pf {p with at_:=r1.1.To} r1.1) fun r=>
 bif r.2.2.1 !=0 then some (.inr (zV,0,r.2.2.1))else
 bif !r.2.1 then some (.inl r.2.2.2)else
 aK (r.2.2.2.st.length≤64)<|match r.2.2.2.st with
 |[]=>some (.inr (r.1,r.2.2.2.at_,0))
 |v::vs=>aK ((v.l_.length+1)*56≤room)<|some (.inl {r.2.2.2 with st:=⟨v.fL,v.l_++[r.1]⟩::vs})
def rB(pf:List aa→Option (List aa×Int))(b:List UInt8)(a:Int)(last:Bool):Option (aa×Int×Int):=iter (Kq pf) ⟨b,a,last,[]⟩
def zL:AV:=.loc [.int .i64 0,.int .i64 0,.str [],.sl true 4 0 []]
set_option maxHeartbeats 8000000 in
theorem UN{pf:List aa→Option (List aa×Int)}(hpf:zq pf){s:ab}{b:List UInt8}{a:Int}{last:Bool}{Q:List AV→ab→Prop}
 (hm:ok (rB pf b a last) fun r=>∀s',Sub s s'→Q [vA r.1,.int .i64 r.2.1,.int .i64 r.2.2] s'):FN Go.Proofs.Tryz.prog 36 [.sl false 1 b.length (flat b),.int .i64 a,.bool last] s Q:=by
 have hr:room=140737488355328:=rfl
 unfold rB at hm
 refine FN.of (af mix) Fs rfl (Nat.le_of_ble_eq_true rfl) ?_
 rw[tQ,sD]
 simp -implicitDefEqProofs only[go_sem,seval]
 intro B hB
 refine NA (fun(p:PS)(τ:St)=>∃s' rr ids,re s s' B p rr ids∧τ=⟨[(6,zL),(9,.ref B 0)],[],s'⟩) ?_ ?_ hm
 ·refine⟨_,none,[],⟨trivial,rfl,(Holds.nil.alloc hB)⟩,rfl⟩
 ·rintro J p τ ⟨s',rr,ids,h,rfl⟩ hb
  unfold Kq at hb
  rw[df]at hb
  obtain⟨hroom,hb⟩:=hb
  unfold zL
  simp -implicitDefEqProofs only[go_sem,seval]
  rw[dm]at hb
  obtain⟨r1,hr1,hb⟩:=hb
  refine VU h hr1 (fun he s1 h1=>?_) (fun he h1=>?_)
  rotate_left
  ·rw[he,cond_true,az]at hb
   unfold tA
   simp -implicitDefEqProofs only[go_sem,seval,he,Bool.true_eq_false,Bool.false_eq_true,false_implies,true_implies,true_and,and_true]
   exact hb s' h.2.2.1
  ·rw[he,cond_false,dm]at hb
   obtain⟨r,hr2,hb⟩:=hb
   unfold tA
   simp -implicitDefEqProofs only[go_sem,seval,he,Bool.true_eq_false,Bool.false_eq_true,false_implies,true_implies,true_and,and_true]
   refine WD hpf h1 hroom ⟨r,hr2,fun he2 s2 h2=>?_,fun he2 s2 rr2 ids2 h2=>?_⟩
   ·have he3:(r.2.2.1 !=0)=true:=by simpa using he2
    rw[he3,cond_true,az]at hb
    unfold vA
    simp -implicitDefEqProofs only[go_sem,seval,he3,Bool.true_eq_false,Bool.false_eq_true,false_implies,true_implies,true_and,and_true]
    exact hb s2 h2
   ·have he3:(r.2.2.1 !=0)=false:=by simpa using he2
    rw[he3,cond_false]at hb
    unfold vA
    cases hi:r.2.1 with
    |false=>
     rw[hi,Bool.not_false,cond_true,az]at hb
     simp -implicitDefEqProofs only[go_sem,seval,he3,hi,Bool.not_false,Bool.true_eq_false,Bool.false_eq_true,false_implies,true_implies,true_and,and_true]
     exact hb _ ⟨s2,rr2,ids2,h2,rfl⟩
    |true=>
     rw[hi,Bool.not_true,cond_false]at hb
     simp -implicitDefEqProofs only[go_sem,seval,he3,hi,Bool.not_true,Bool.true_eq_false,Bool.false_eq_true,false_implies,true_implies,true_and,and_true]
     rw[df]at hb
     obtain⟨hroom2,hb⟩:=hb
     have hB2:=h2.cell
     unfold iq at hB2
     refine L6 h2 (by omega) (fun hst=>?_) (fun id ids' v vs hids hst=>?_)
     ·rw[hst]at hb
      simp only[az]at hb
      simp -implicitDefEqProofs only[go_sem,seval,hB2,Bool.true_eq_false,Bool.false_eq_true,false_implies,true_implies,true_and,and_true]
      exact hb s2 h2.2.2.1
     ·rw[hst]at hb
      simp only[df,az]at hb
      obtain⟨hroom3,hb⟩:=hb
      simp -implicitDefEqProofs only[go_sem,seval,hB2,Bool.true_eq_false,Bool.false_eq_true,false_implies,true_implies,true_and,and_true]
      subst hids
      have hlv:=h2.lv hst
      unfold TW at hlv
      have C1:∀φ:St,(∃s3 rr3 ids3,re s s3 B {r.2.2.2 with st:=⟨v.fL,v.l_++[r.1]⟩::vs} rr3 ids3∧φ=⟨[(6,zL),(9,.ref B 0)],[],s3⟩)→J φ:=fun φ hφ=>hb φ hφ
      refine aeg (fun φ=>∃s3 rr3 ids3,re s s3 B {r.2.2.2 with st:=⟨v.fL,v.l_++[r.1]⟩::vs} rr3 ids3∧φ=⟨[(6,zL),(9,.ref B 0)],[],s3⟩) ?_ ?_
      rotate_left
      ·rintro φ ⟨s3,rr3,ids3,h3,rfl⟩
       unfold zL
       simp -implicitDefEqProofs only[go_sem,seval]
       exact C1 _ ⟨s3,rr3,ids3,h3,rfl⟩
      ·intro K hK
       clear C1 hb
       repeat'(first|(simp only[cN,bU,bw,bT,A0,Cn,Bool.not_true,Bool.not_false,Bool.or_true,Bool.true_or,Bool.false_or,Bool.or_false,Bool.and_true,Bool.true_and,Bool.and_false,Bool.false_and,cond_true,cond_false,true_and,and_true];done)|with_reducible refine⟨?_,?_⟩|with_reducible exact trivial|(simp only[cN,bU,bw,bT,A0,Cn,Bool.not_true,Bool.not_false,Bool.or_true,Bool.true_or,Bool.false_or,Bool.or_false,Bool.and_true,Bool.true_and,Bool.and_false,Bool.false_and,cond_true,cond_false,true_and,and_true])|simp -implicitDefEqProofs only[go_sem,seval,hlv])
       all_goals
        refine UM rfl h2 hst hroom3 r.1 (fun S3 rb cap cs g1 g2 q1 q2 hle f1 f2=>?_)
        obtain⟨ra,ia,f1⟩:=f1
        obtain⟨rz,iz,f2⟩:=f2
        repeat'(first|exact hK _ ⟨_,_,_,f1,rfl⟩|exact hK _ ⟨_,_,_,f2,rfl⟩|omega|(simp only[cN,bU,bw,bT,A0,Cn,Bool.not_true,Bool.not_false,Bool.or_true,Bool.true_or,Bool.false_or,Bool.or_false,Bool.and_true,Bool.true_and,Bool.and_false,Bool.false_and,cond_true,cond_false,true_and,and_true];done)|with_reducible refine⟨?_,?_⟩|with_reducible exact trivial|(simp only[cN,bU,bw,bT,A0,Cn,Bool.not_true,Bool.not_false,Bool.or_true,Bool.true_or,Bool.false_or,Bool.or_false,Bool.and_true,Bool.true_and,Bool.and_false,Bool.false_and,cond_true,cond_false,true_and,and_true])|simp -implicitDefEqProofs only[go_sem,seval,g1,g2,q1,q2])
end Go.AB
end
section
set_option maxRecDepth 4000
namespace Go.AB
open Go
end Go.AB
end
section
set_option maxRecDepth 4000
namespace Go.AB
open Go
attribute[-go_sem] bU cN bw bT
@[go_sem]theorem T6(l:List aa):pad [.int .i64 0,.int .i64 0,.str [],.sl false 4 0 []] (views (AB.sub (flat l) 0 4))=[.int .i64 ((ix l 0).Kind),.int .i64 ((ix l 0).N),.str ((ix l 0).S).b,.sl false 4 ((ix l 0).L).length (flat ((ix l 0).L))]:=Ii l 0
def eo(x_0:aA):Option (Bool):=some (!(x_0.b==x_0.b))
def nC:IC:=
 (ae [cV 2 (.bool false)] [0]
 (ae [mv 3 0,mv 4 0,bt 5 .neq 3 4,mv 2 5] [2]
 .ret))
def mF:List ay:=[⟨2,true,none⟩]
theorem yN:aC Go.Proofs.Tryz.prog 264 6 mF nC=true:=by kernel_rfl
theorem yC{x_0}{s:ab}{Q:List AV→ab→Prop}:ok (eo x_0) (fun r=>Q [.bool r] s)→FN Go.Proofs.Tryz.prog 264 [.str x_0.b] s Q:=by
 intro h
 refine FN.of (af mix) yN rfl (Nat.le_of_ble_eq_true rfl) ?_
 revert h
 rw[nC,mF,eo]
 repeat'(first
  |simp -implicitDefEqProofs only[go_sem,seval])
theorem nu{x_0}{s:ab}{r:Bool}(h:eo x_0=some r):FE Go.Proofs.Tryz.prog 264 [.str x_0.b] s [.bool r] s:=yC ⟨r,h,rfl,rfl⟩
def fj(x_0:aA)(y_1:aA):Option (Int):=
 aP (eo x_0) fun r1=>
 aP (eo y_1) fun r2=>
 if r1 then
  none
 else
  if r2 then
   none
  else
   if Op.bytesLess x_0.b y_1.b then
    none
   else
    if !((Op.bytesLess x_0.b y_1.b)||(x_0.b==y_1.b))then
     some 1
    else
     none
def lP:IC:=
 (ae [mi 4 0] [0,1]
 (ae [mv 7 0,c1 8 264 7,mv 5 8] [0,1,5]
 (ae [mv 9 1,c1 10 264 9,mv 6 10] [0,1,5,6]
 (.seq (ae [mv 11 5] [0,1,6,11]
 (.cond (.t 11) .dead
 .skip))
 (.seq (ae [mv 13 6] [0,1,13]
 (.cond (.t 13) .dead
 .skip))
 (.seq (ae [mv 14 0,mv 15 1,bt 16 .lss 14 15] [0,1,16]
 (.cond (.t 16) .dead
 .skip))
 (.seq (ae [mv 17 0,mv 18 1,bt 19 .gtr 17 18] [19]
 (.cond (.t 19) (ae [mi 4 1] [4]
 .ret)
 .dead))
 .dead)))))))
def kO:List ay:=[⟨4,true,none⟩]
theorem ui:aC Go.Proofs.Tryz.prog 225 20 kO lP=true:=by kernel_rfl
theorem tz{x_0 y_1}{s:ab}{Q:List AV→ab→Prop}:ok (fj x_0 y_1) (fun r=>Q [.int .i64 r] s)→FN Go.Proofs.Tryz.prog 225 [.str x_0.b,.str y_1.b] s Q:=by
 intro h
 refine FN.of (af mix) ui rfl (Nat.le_of_ble_eq_true rfl) ?_
 revert h
 rw[lP,kO,fj]
 repeat'(first
  |with_reducible refine ak (fun _(h:eo x_0=some _)=>nu h) (fun r1=>?_)
  |with_reducible refine ak (fun _(h:eo y_1=some _)=>nu h) (fun r2=>?_)
  |simp -implicitDefEqProofs only[go_sem,seval])
theorem tx{x_0 y_1}{s:ab}{r:Int}(h:fj x_0 y_1=some r):FE Go.Proofs.Tryz.prog 225 [.str x_0.b,.str y_1.b] s [.int .i64 r] s:=tz ⟨r,h,rfl,rfl⟩
def lF(a_0:(List aa))(b_1:(List aa)):Option (Int):=
 aK (0≤(0:Int)∧(0:Int)<a_0.length)<|
 aK (0≤(0:Int)∧(0:Int)<b_1.length)<|
 aP (fj ((ix a_0 0).S) ((ix b_1 0).S)) fun r1=>
 some r1
def pY:IC:=
 (ae [mi 4 0] [0,1]
 (.seq (.bD (some 10) [mv 5 0,i1 6 (.indexAddr oG (.t 5) (.c (.int .i64 0))),fa 7 2 6,ld 8 1 7,mv 9 1,i1 10 (.indexAddr oG (.t 9) (.c (.int .i64 0))),fa 11 2 10,ld 12 1 11,c2 13 225 8 12,mv 4 13] [4])
 .ret))
def oL:List ay:=[⟨4,true,none⟩]
theorem Bu:aC Go.Proofs.Tryz.prog 224 14 oL pY=true:=by kernel_rfl
theorem BQ{a_0 b_1}{s:ab}{Q:List AV→ab→Prop}:ok (lF a_0 b_1) (fun r=>Q [.int .i64 r] s)→FN Go.Proofs.Tryz.prog 224 [.sl false 4 a_0.length (flat a_0),.sl false 4 b_1.length (flat b_1)] s Q:=by
 intro h
 refine FN.of (af mix) Bu rfl (Nat.le_of_ble_eq_true rfl) ?_
 revert h
 rw[pY,oL,lF]
 repeat'(first
  |with_reducible exact cF
  |with_reducible refine bj ?_ ?_
  |with_reducible refine bH (fun _(h:fj ((ix a_0 0).S) ((ix b_1 0).S)=some _)=>tx h) (fun _=>rfl) (fun r1=>?_)
  |simp -implicitDefEqProofs only[go_sem,seval])
theorem BP{a_0 b_1}{s:ab}{r:Int}(h:lF a_0 b_1=some r):FE Go.Proofs.Tryz.prog 224 [.sl false 4 a_0.length (flat a_0),.sl false 4 b_1.length (flat b_1)] s [.int .i64 r] s:=BQ ⟨r,h,rfl,rfl⟩
end Go.AB
end
section
set_option maxRecDepth 4000
namespace Go.AB
open Go
attribute[-go_sem] Nat.add_zero lf bC bU cN bw bT
def E5:IC:=
 (ae [mv 10 1,bn 11 .add 10 1,mv 8 11] [0,1,2,3,8]
 (.block 0 (.loop [(0,false),(1,false),(2,false),(3,false),(8,false)] (.seq (ae [mv 12 8,mv 13 2,bt 14 .lss 12 13] [0,1,2,3,8,14]
 (.cond (.t 14) .skip
 (.exit 0)))
 (.seq (.block 1 (ae [mv 17 8,mv 9 17] [0,1,2,3,8,9]
 (.block 2 (.loop [(0,false),(1,false),(2,false),(3,false),(8,false),(9,false)] (.seq (.seq (.bD (some 17) [mv 18 9,mv 19 1,bt 20 .gtr 18 19,mv 21 20,c9 22 3 21 true,c9 23 0 21 true,c9 24 9 21 true,cS 25 21 true (.indexAddr [.sl false 4 0 []] (.t 23) (.t 24)),cS 26 21 true (.aU [.sl false 4 0 []] false (.t 25)),c9 27 0 21 true,c9 28 9 21 true,jx 29 21 true .sub 28 1,cS 30 21 true (.indexAddr [.sl false 4 0 []] (.t 27) (.t 29)),cS 31 21 true (.aU [.sl false 4 0 []] false (.t 30)),cS 32 21 true (.b6 (.t 22) [(.t 26),(.t 31)]),jx 33 21 true .lss 32 0,pf 34 21 33] [0,1,2,3,8,9,34])
 (.cond (.t 34) .skip
 (.exit 2)))
 (.seq (.block 3 (.IP [] [(0,0,mv 37 0),(0,1,mv 38 9),(1,2,mv 39 0),(1,3,mv 40 9),(1,4,bn 41 .sub 40 1),(0,5,mv 42 0),(0,6,mv 43 9),(0,7,bn 44 .sub 43 1),(0,8,ia 45 [.sl false 4 0 []] 42 44),(0,9,ld 46 1 45),(0,10,mv 47 0),(0,11,mv 48 9),(0,12,ia 49 [.sl false 4 0 []] 47 48),(0,13,ld 50 1 49),(0,14,ia 51 [.sl false 4 0 []] 37 38),(2,15,st 1 51 46),(0,16,ia 52 [.sl false 4 0 []] 39 41),(2,17,st 1 52 50)] [0,1,2,3,8,9]))
 (.bD none [mv 35 9,bn 36 .sub 35 1,mv 9 36] [0,1,2,3,8,9])))))))
 (.bD none [mv 15 8,bn 16 .add 15 1,mv 8 16] [0,1,2,3,8]))))))
def C0:List ay:=[]
theorem PB:aC Go.Proofs.Tryz.prog 297 53 C0 E5=true:=by kernel_rfl
abbrev VL:=List aa
def QN(a:Int)(q:List VL×Int):Option ((List VL×Int)⊕List VL):=
 aK (0≤q.2∧q.2<q.1.length∧q.2<2^62)<|bif decide (q.2>a)then
  aK (1≤q.2)<|aP (lF (ix q.1 q.2) (ix q.1 (q.2 -1))) fun c=>
  bif decide (c<0)then some (.inl ((q.1.set q.2.toNat (ix q.1 (q.2 -1))).set (q.2 -1).toNat (ix q.1 q.2),q.2 -1))else some (.inr q.1)
 else some (.inr q.1)
def insOuter(a b:Int)(q:List VL×Int):Option ((List VL×Int)⊕List VL):=bif decide (q.2<b)then aK (0≤q.2∧q.2+1<2^62)<|aP (iter (QN a) (q.1,q.2)) fun l=>some (.inl (l,q.2+1))else some (.inr q.1)
def RR(l:List VL)(a b:Int):Option (List VL):=iter (insOuter a b) (l,a+1)
theorem IQ(l:List VL)(sp:List AV){j:Int}(h0:0≤j)(h:j<l.length):j.toNat*1+1≤(flat l++sp).length∧views (AB.sub (flat l++sp) (j.toNat*1) 1)=[.sl false 4 (ix l j).length (flat (ix l j))]:=by
 have hj:j.toNat<l.length:=by omega
 have hs:=fH l sp 1 j.toNat 1 rfl (by omega)
 refine⟨?_,?_⟩
 ·rw[List.length_append,ao]
  have:aH.w VL=1:=rfl
  rw[this];omega
 ·rw[Nat.one_mul]at hs
  rw[hs,List.drop_eq_getElem_cons hj]
  have:ix l j=l[j.toNat]:=by unfold ix;simp[hj]
  rw[this]
  rfl
theorem adS(l:List VL)(sp:List AV)(x:VL){j:Int}(h0:0≤j)(h:j<l.length):setAt (flat l++sp) (j.toNat*1) [.sl false 4 x.length (flat x)]=flat (l.set j.toNat x)++sp:=by
 have hj:j.toNat<l.length:=by omega
 have hs:=fG l [x] sp 1 j.toNat rfl (by simp;omega)
 have e:flat [x]=[.sl false 4 x.length (flat x)]:=rfl
 rw[e]at hs
 rw[hs,List.set_eq_take_append_cons_drop,if_pos hj]
 simp
theorem Y1{s:ab}{rb cap:Nat}{sp:List AV}{l:List VL}{a b:Int}{Q:List AV→ab→Prop}(hs:s rb=none)(ha:0≤a∧a+1<2^62)(hr:l.length≤room)
 (hm:ok (RR l a b) fun l'=>Q [] (s.set rb (.cells (flat l'++sp)))):FN Go.Proofs.Tryz.prog 297 [.arr rb 0 l.length cap,.int .i64 a,.int .i64 b,.fn 224 [] []] (s.set rb (.cells (flat l++sp))) Q:=by
 unfold RR at hm
 refine FN.of (af mix) PB rfl (Nat.le_of_ble_eq_true rfl) ?_
 rw[E5,C0]
 simp -implicitDefEqProofs only[go_sem,seval]
 rw[aS (by omega) (by omega)]
 refine bf (fun(q:List VL×Int)=>(⟨[(0,.arr rb 0 q.1.length cap),(1,.int .i64 a),(2,.int .i64 b),(3,.fn 224 [] []),(8,.int .i64 q.2)],[],s.set rb (.cells (flat q.1++sp))⟩:St)) rfl ?_ hm
 intro J q hb
 unfold insOuter at hb
 cases hlt:decide (q.2<b)with
 |false=>
  rw[hlt,cond_false,az]at hb
  simp -implicitDefEqProofs only[go_sem,seval,hlt,Bool.true_eq_false,Bool.false_eq_true,false_implies,true_implies,true_and,and_true]
  exact hb
 |true=>
  rw[hlt,cond_true,df,dm]at hb
  obtain⟨hb0,hb⟩:=hb
  simp -implicitDefEqProofs only[go_sem,seval,hlt,Bool.true_eq_false,Bool.false_eq_true,false_implies,true_implies,true_and,and_true]
  refine bf (fun(q':List VL×Int)=>(⟨[(0,.arr rb 0 q'.1.length cap),(1,.int .i64 a),(2,.int .i64 b),(3,.fn 224 [] []),(8,.int .i64 q.2),(9,.int .i64 q'.2)],[],s.set rb (.cells (flat q'.1++sp))⟩:St)) rfl ?_ hb
  intro J2 q' hb2
  unfold QN at hb2
  rw[df]at hb2
  obtain⟨hb3,hb2⟩:=hb2
  have hw:bz (q'.2 -1)=q'.2 -1:=aS (by omega) (by omega)
  obtain⟨r1,r2⟩:=IQ q'.1 sp (j:=q'.2) (by omega) hb3.2.1
  cases hgt:decide (q'.2>a)with
  |false=>
   rw[hgt,cond_false,az]at hb2
   obtain⟨r3,r4⟩:=IQ q'.1 sp (j:=((q'.2 -1).toNat:Int)) (by omega) (by omega)
   rw[Int.toNat_natCast]at r3 r4
   generalize hcs:flat q'.1++sp=cs
   rw[hcs]at r1 r2 r3 r4
   have d1:=decide_eq_true r1
   have d3:=decide_eq_true r3
   simp -implicitDefEqProofs only[go_sem,seval,hgt,hw,r2,r4,d1,d3,Bool.true_eq_false,Bool.false_eq_true,false_implies,true_implies,true_and,and_true]
   refine⟨[.int .i64 0],rfl,?_⟩
   simp -implicitDefEqProofs only[go_sem,seval,Bool.true_eq_false,Bool.false_eq_true,false_implies,true_implies,true_and,and_true]
   subst hcs
   rw[aS (by omega) (by omega)]
   simp only[az]at hb2
   exact hb2
  |true=>
   rw[hgt,cond_true,df,dm]at hb2
   obtain⟨hb4,c,hc,hb2⟩:=hb2
   obtain⟨r3,r4⟩:=IQ q'.1 sp (j:=q'.2 -1) (by omega) (by omega)
   generalize hcs:flat q'.1++sp=cs
   rw[hcs]at r1 r2 r3 r4
   have d1:=decide_eq_true r1
   have d3:=decide_eq_true r3
   simp -implicitDefEqProofs only[go_sem,seval,hgt,hw,r2,r4,d1,d3,Bool.true_eq_false,Bool.false_eq_true,false_implies,true_implies,true_and,and_true]
   refine⟨⟨hb3.1,hb3.2.1⟩,r1,⟨by omega,by omega⟩,r3,[.int .i64 c],rfl,⟨224,[.sl false 4 (ix q'.1 q'.2).length (flat (ix q'.1 q'.2)),.sl false 4 (ix q'.1 (q'.2 -1)).length (flat (ix q'.1 (q'.2 -1)))],⟨[],[],_,rfl,rfl,rfl⟩,by kernel_rfl,BP hc⟩,?_⟩
   ·simp -implicitDefEqProofs only[go_sem,seval,hw,r2,r4,d1,d3,Bool.true_eq_false,Bool.false_eq_true,false_implies,true_implies,true_and,and_true]
    refine⟨fun hx=>?_,fun hx=>?_⟩
    ·rw[hx,cond_true,az]at hb2
     subst hcs
     have hl:(q'.1.set q'.2.toNat (ix q'.1 (q'.2 -1))).length=q'.1.length:=List.length_set ..
     rw[adS q'.1 sp (ix q'.1 (q'.2 -1)) hb3.1 hb3.2.1,adS _ sp (ix q'.1 q'.2) (j:=q'.2 -1) (by omega) (by rw[hl];omega)]
     obtain⟨r5,_⟩:=IQ (q'.1.set q'.2.toNat (ix q'.1 (q'.2 -1))) sp (j:=q'.2 -1) (by omega) (by rw[hl];omega)
     have hl2:((q'.1.set q'.2.toNat (ix q'.1 (q'.2 -1))).set (q'.2 -1).toNat (ix q'.1 q'.2)).length=q'.1.length:=by rw[List.length_set,List.length_set]
     refine⟨⟨by omega,by omega⟩,⟨hb3.1,hb3.2.1⟩,⟨hb3.1,hb3.2.1⟩,r1,⟨by omega,by omega⟩,r5,?_⟩
     have hb5:=hb2
     simp only[gb,hl2]at hb5
     exact hb5
    ·rw[hx,cond_false,az]at hb2
     subst hcs
     rw[aS (by omega) (by omega)]
     simp only[lC,gb,az]at hb2
     exact hb2
end Go.AB
end
section
namespace Go.AB
open Go
theorem qg{S O:Type}{body:S→Option (S⊕O)}{s0:S}{o:O}(n:Nat)(st:Nat→S)(h0:st 0=s0)(hn:n<18446744073709551615)(hs:∀k,k<n→body (st k)=some (.inl (st (k+1))))(he:body (st n)=some (.inr o)):iter body s0=some o:=by
 have key:∀j,j≤n→∀m,cL body (m+1+j) (st (n -j))=some o:=by
  intro j
  induction j with
  |zero=>
   intro _ m
   show cL body (m+1) (st n)=some o
   unfold cL
   rw[he]
  |succ j ih=>
   intro hj m
   show cL body (m+1+j+1) (st (n -(j+1)))=some o
   unfold cL
   rw[hs _ (by omega),show n -(j+1)+1=n -j by omega]
   exact ih (by omega) m
 have:=key n (Nat.le_refl n) (18446744073709551616 -1 -n)
 rw[Nat.sub_self,h0,show 18446744073709551616 -1 -n+1+n=18446744073709551616 by omega]at this
 exact this
theorem uv{A O:Type}{body:A×Int→Option ((A×Int)⊕O)}{a0:A}{o:O}(n:Nat)(acc:Nat→A)(h0:acc 0=a0)(hn:n<4611686018427387904)(hs:∀k,k<n→body (acc k,(k:Int))=some (.inl (acc (k+1),bz ((k:Int)+1))))(he:body (acc n,(n:Int))=some (.inr o)):iter body (a0,0)=some o:=
 qg n (fun k=>(acc k,(k:Int))) (by rw[h0];rfl) (by omega) (fun k hk=>by rw[hs k hk,aS (by omega) (by omega)];rfl) he
theorem eA{O:Type}{body:Int→Option (Int⊕O)}{o:O}(n:Nat)(hn:n<4611686018427387904)(hs:∀k,k<n→body (k:Int)=some (.inl (bz ((k:Int)+1))))(he:body (n:Int)=some (.inr o)):iter body 0=some o:=
 qg n (fun k=>(k:Int)) rfl (by omega) (fun k hk=>by rw[hs k hk,aS (by omega) (by omega)];rfl) he
theorem Nz{α β:Type}{o:Option α}{a:α}{K:α→Option β}{r:Option β}(h:o=some a)(k:K a=r):jn o K=r:=by rw[h];exact k
theorem cg{α β:Type}{o:Option α}{a:α}{K:α→Option β}{r:Option β}(h:o=some a)(k:K a=r):aP o K=r:=by rw[h];exact k
theorem gQ{X Y α:Type}{o:Option (X⊕Y)}{z:X⊕Y}{F:X→Option α}{G:Y→Option α}{r:Option α}(h:o=some z)(k:(match z with|.inl a=>F a|.inr b=>G b)=r):Hg o F G=r:=by
 rw[h]
 cases z<;>exact k
theorem eV{X Y α:Type}{o:Option (X⊕Y)}{z:X⊕Y}{F:X→Option α}{G:Y→Option α}{r:Option α}(h:o=some z)(k:(match z with|.inl a=>F a|.inr b=>G b)=r):mO o F G=r:=by
 rw[h]
 cases z<;>exact k
theorem bc{α:Type}{c:Prop}[Decidable c]{o r:Option α}(h:c)(k:o=r):aK c o=r:=by rw[qm h];exact k
theorem cC{α:Type}{c:Prop}[Decidable c]{a b r:α}(h:c)(k:a=r):(if c then a else b)=r:=by rw[if_pos h];exact k
theorem bP{α:Type}{c:Prop}[Decidable c]{a b r:α}(h:¬c)(k:b=r):(if c then a else b)=r:=by rw[if_neg h];exact k
inductive Kw{S O:Type}(body:S→Option (S⊕O)):Nat→S→O→Prop
 |stop {m:Nat} {s:S} {o:O} (h:body s=some (.inr o)):Kw body (m+1) s o
 |step {m:Nat} {s t:S} {o:O} (h:body s=some (.inl t)) (k:Kw body m t o):Kw body (m+1) s o
theorem Kw.cL{S O:Type}{body:S→Option (S⊕O)}{m:Nat}{s:S}{o:O}(h:Kw body m s o):∀n,m≤n→cL body n s=some o:=by
 induction h with
 |stop h=>
  intro n hn
  obtain⟨k,rfl⟩:∃k,n=k+1:=⟨n -1,by omega⟩
  unfold AB.cL;rw[h]
 |step h _ ih=>
  intro n hn
  obtain⟨k,rfl⟩:∃k,n=k+1:=⟨n -1,by omega⟩
  unfold AB.cL;rw[h]
  exact ih k (by omega)
theorem Kw.iter{S O:Type}{body:S→Option (S⊕O)}{m:Nat}{s:S}{o:O}(h:Kw body m s o)(hm:m≤18446744073709551616):iter body s=some o:=h.cL _ hm
end Go.AB
end
section
set_option maxRecDepth 4000
namespace Go.AB
open Go
theorem MF{α:Type}[aH α]{σ:St}{d:Option Nat}{K:St→Prop}{sz by':Nat}{s:ab}{r:cG}{l:List α}{z:α}{x:List α}(hσ:σ.s=fC s r l)(h:fI s r l)(hz:sz=aH.w α)(hx:0<x.length)(hr:(l.length+x.length)*by'≤room)
 (hK:∀s' r',Sub s s'→fI s' r' (l++x)→K ({σ with s:=fC s' r' (l++x)}.put d (gH r' (l.length+x.length)))):
 dX sz by' (aH.cells z) σ d K (gH r l.length) (some (x.length,flat x)):=by
 subst hz
 have hcz:(aH.cells z).length=aH.w α:=aH.len z
 have hvz:views (aH.cells z)=aH.cells z:=aH.vw z
 have fresh:∀(s':ab)(b' cap':Nat),s' b'=none→l.length+x.length≤cap'→fI s' (some (b',cap',flat (List.replicate (cap' -(l.length+x.length)) z))) (l++x):=fun s' b' cap' hb hc=>by
  refine⟨hb,by omega,by simpa using hc,?_,aD _⟩
  rw[List.length_append,ao,ao,List.length_replicate,List.length_append,←Nat.add_mul]
  congr 1
  omega
 cases r with
 |none=>
  obtain rfl:l=[]:=h
  show dX (aH.w α) by' (aH.cells z) σ d K (.arr 0 0 0 0) _
  refine fe hcz (olds:=[]) rfl (by simpa using hx) hr fun b' cap' hb' hc=>?_
  rw[List.nil_append,←fm]
  rw[hσ]at hb'⊢
  have:=hK s (some (b',cap',flat (List.replicate (cap' -(0+x.length)) z))) (Sub.refl s) (fresh s b' cap' hb' hc)
  exact this
 |some y=>
  obtain⟨b,cap,sp⟩:=y
  obtain⟨h1,h2,h3,h4,h5⟩:=h
  have hs:σ.s b=some (.cells (flat l++sp)):=by rw[hσ];exact bS
  show dX (aH.w α) by' (aH.cells z) σ d K (.arr b 0 l.length cap) _
  by_cases hc:l.length+x.length≤cap
  ·refine lK hcz hs (by rw[h4,Nat.zero_add];exact Nat.le_refl _) hc ?_
   have hsp:x.length*aH.w α≤sp.length:=by
    rw[List.length_append,ao]at h4
    have:(l.length+x.length)*aH.w α≤cap*aH.w α:=Nat.mul_le_mul_right _ hc
    rw[Nat.add_mul]at this
    simp;omega
   have st:=GJ l x sp (aH.w α) rfl hsp
   rw[Nat.zero_add,st]
   have e:σ.s.set b (.cells (flat (l++x)++sp.drop (x.length*aH.w α)))=fC s (some (b,cap,sp.drop (x.length*aH.w α))) (l++x):=by
    rw[hσ]
    show(s.set b _).set b _=s.set b _
    exact set_set ..
   rw[e]
   refine hK s _ (Sub.refl s) ⟨h1,h2,by simpa using hc,?_,?_⟩
   ·rw[List.length_append,ao]at h4⊢
    rw[List.length_drop,List.length_append,Nat.add_mul]
    omega
   ·unfold views at h5⊢
    rw[List.map_drop,h5]
  ·refine fe hcz (qo hs (by
    rw[Nat.zero_add,h4];exact Nat.mul_le_mul_right _ h3)) (by omega) hr fun b' cap' hb' hc'=>?_
   have ho:views (AB.sub (flat l++sp) 0 (l.length*aH.w α))=flat l:=by
    have:=fH l sp (aH.w α) 0 l.length rfl (by omega)
    rw[Nat.zero_mul]at this
    rw[this,List.drop_zero,List.take_length,aD]
   rw[ho,←fm,←bO]
   rw[hσ]at hb'⊢
   have hb0:(s.set b (.cells (flat l++sp))) b'=none:=hb'
   exact hK (s.set b (.cells (flat l++sp))) (some (b',cap',flat (List.replicate (cap' -(l.length+x.length)) z))) ((Sub.refl s).set h1) (fresh _ b' cap' hb0 hc')
end Go.AB
end
section
set_option maxRecDepth 4000
namespace Go.AB
open Go
attribute[-go_sem] Nat.add_zero lf bC bU cN bw bT
def QQ:IC:=
 (ae [cV 4 (.arr 0 0 0 0)] [0,1]
 (.seq (ae [mv 5 1,bn 6 .lss 5 0] [0,1,6]
 (.cond (.t 6) .dead
 .skip))
 (.seq (ae [mv 8 1,mv 9 0,i1 10 (.cap (.t 9)),mv 11 0,le 12 0 11,bt 13 .sub 10 12,bt 14 .sub 8 13,mv 1 14] [0,1]
 (ae [mv 15 1,bn 16 .gtr 15 0] [0,1,16]
 (.cond (.t 16) (.bD none [mv 17 0,mv 18 0,i1 19 (.cap (.t 18)),Mz 20 4 17 19,mv 21 1,i1 22 (.j4 4 56 oG (.t 20) (.t 21)),mv 23 0,le 24 0 23,Mz 25 4 22 24,mv 0 25] [0])
 .skip)))
 (ae [mv 26 0,mv 4 26] [4]
 .ret))))
def Oe:List ay:=[⟨4,true,none⟩]
theorem VI:aC Go.Proofs.Tryz.prog 265 27 Oe QQ=true:=by kernel_rfl
def JP:IC:=
 (ae [cV 2 (.arr 0 0 0 0)] [0]
 (ae [mi 3 0] [0,3]
 (.seq (ae [mv 9 0,le 10 0 9,mi 11 0] [0,3,9,10,11]
 (.block 0 (.loop [(0,false),(3,false),(9,false),(10,false),(11,false)] (ae [bt 12 .lss 11 10] [0,3,9,10,11,12]
 (.seq (.cond (.t 12) .skip
 (.exit 0))
 (.seq (.block 1 (ae [ia 13 [.sl false 4 0 []] 9 11,ld 14 1 13,mv 5 14] [0,3,5,9,10,11]
 (ae [mv 15 3,mv 16 5,le 17 0 16,bt 18 .add 15 17,mv 3 18] [0,3,9,10,11]
 (ae [mv 19 3,bn 20 .lss 19 0] [0,3,9,10,11,20]
 (.cond (.t 20) .dead
 .skip)))))
 (.bD none [bn 22 .add 11 1,mv 11 22] [0,3,9,10,11])))))))
 (ae [mv 23 3,i1 24 (.call 265 [(.c (.arr 0 0 0 0)),(.t 23)]),mv 6 24] [0,6]
 (.seq (ae [mv 25 0,le 26 0 25,mi 27 0] [6,25,26,27]
 (.block 2 (.loop [(6,false),(25,false),(26,false),(27,false)] (ae [bt 28 .lss 27 26] [6,25,26,27,28]
 (.seq (.cond (.t 28) .skip
 (.exit 2))
 (.seq (.block 3 (ae [ia 29 [.sl false 4 0 []] 25 27,ld 30 1 29,mv 8 30] [6,8,25,26,27]
 (.bD none [mv 31 6,mv 32 8,i1 33 (.ee 4 56 oG (.t 31) (.t 32)),mv 6 33] [6,25,26,27])))
 (.bD none [bn 34 .add 27 1,mv 27 34] [6,25,26,27])))))))
 (ae [mv 35 6,mv 2 35] [2]
 .ret))))))
def GD:List ay:=[⟨2,true,none⟩]
theorem RV:aC Go.Proofs.Tryz.prog 226 36 GD JP=true:=by kernel_rfl
def QR:IC:=
 (ae [mi 6 20] [0,1,2,6]
 (ae [mv 10 6,mi 7 0,mv 8 10] [0,1,2,6,7,8]
 (.seq (.block 0 (.loop [(0,false),(1,false),(2,false),(6,false),(7,false),(8,false)] (.seq (ae [mv 11 8,mv 12 1,bt 13 .leq 11 12] [0,1,2,6,7,8,13]
 (.cond (.t 13) .skip
 (.exit 0)))
 (.block 1 (ae [mv 14 0,mv 15 7,mv 16 8,mv 17 2,Sj 18 297 14 15 16 17] [0,1,2,6,8]
 (ae [mv 19 8,mv 7 19] [0,1,2,6,7,8]
 (.bD none [mv 20 8,mv 21 6,bt 22 .add 20 21,mv 8 22] [0,1,2,6,7,8])))))))
 (ae [mv 23 0,mv 24 7,mv 25 1,mv 26 2,Sj 27 297 23 24 25 26] [0,1,2,6]
 (.block 2 (.loop [(0,false),(1,false),(2,false),(6,false)] (.seq (ae [mv 28 6,mv 29 1,bt 30 .lss 28 29] [0,1,2,6,30]
 (.cond (.t 30) .skip
 (.exit 2)))
 (.block 3 (ae [mv 31 6,i1 32 (.bin .mul (.c (.int .i64 2)) (.t 31)),mi 7 0,mv 8 32] [0,1,2,6,7,8]
 (.seq (.block 4 (.loop [(0,false),(1,false),(2,false),(6,false),(7,false),(8,false)] (.seq (ae [mv 33 8,mv 34 1,bt 35 .leq 33 34] [0,1,2,6,7,8,35]
 (.cond (.t 35) .skip
 (.exit 4)))
 (.block 5 (ae [mv 36 0,mv 37 7,mv 38 7,mv 39 6,bt 40 .add 38 39,mv 41 8,mv 42 2,i1 43 (.call 298 [(.t 36),(.t 37),(.t 40),(.t 41),(.t 42)])] [0,1,2,6,8]
 (ae [mv 44 8,mv 7 44] [0,1,2,6,7,8]
 (.bD none [mv 45 8,mv 46 6,i1 47 (.bin .mul (.c (.int .i64 2)) (.t 46)),bt 48 .add 45 47,mv 8 48] [0,1,2,6,7,8])))))))
 (.seq (ae [mv 49 7,mv 50 6,bt 51 .add 49 50,mv 9 51] [0,1,2,6,7,9]
 (ae [mv 52 9,mv 53 1,bt 54 .lss 52 53] [0,1,2,6,7,9,54]
 (.cond (.t 54) (.bD none [mv 55 0,mv 56 7,mv 57 9,mv 58 1,mv 59 2,i1 60 (.call 298 [(.t 55),(.t 56),(.t 57),(.t 58),(.t 59)])] [0,1,2,6])
 .skip)))
 (.bD none [mv 61 6,bn 62 .mul 61 2,mv 6 62] [0,1,2,6]))))))))))))
def Of:List ay:=[]
theorem VJ:aC Go.Proofs.Tryz.prog 263 63 Of QR=true:=by kernel_rfl
def JQ:IC:=
 (.bD none [mv 4 0,mv 5 0,le 6 0 5,mv 7 1,c3 8 263 4 6 7] [])
def GF:List ay:=[]
theorem RW:aC Go.Proofs.Tryz.prog 223 9 GF JQ=true:=by kernel_rfl
theorem VD{s:ab}{k:Nat}{Q:List AV→ab→Prop}(hn:k*56≤room)(hq:∀s' r',Sub s s'→fI s' r' ([]:List aa)→Q [gH r' 0] (fC s' r' ([]:List aa))):FN Go.Proofs.Tryz.prog 265 [.arr 0 0 0 0,.int .i64 k] s Q:=by
 have hr:room=140737488355328:=rfl
 refine FN.of (af mix) VI rfl (Nat.le_of_ble_eq_true rfl) ?_
 rw[QQ,Oe]
 have h0:decide ((k:Int)<0)=false:=by simp
 have e00:((0:Nat):Int)=0:=rfl
 have w1:bz 0=0:=by decide
 have w2:bz (k:Int)=k:=aS (by omega) (by omega)
 simp -implicitDefEqProofs only[go_sem,start,aI,aV,ct,cX,cK,cT,Nat.reduceBEq,Nat.reduceAdd,Nat.reduceMul,Nat.reduceLeDiff,Nat.reduceEqDiff,Nat.reduceBNe,Nat.ble_eq,UInt8.reduceToNat,UInt32.reduceToNat,h0,e00,w1,w2,Bool.true_eq_false,Bool.false_eq_true,false_implies,true_implies,true_and,and_true]
 refine⟨fun hk=>?_,fun hk=>?_⟩
 ·have hk:0<k:=by simpa using hk
  refine⟨Int.le_refl _,?_⟩
  refine zt (n:=0) (cap:=0) (m:=k) (b:=0) (off:=0) (by':=56) (olds:=[]) rfl rfl rfl (by omega) (by omega) fun b' cap' hb' hc=>?_
  rw[List.nil_append]
  simp -implicitDefEqProofs only[go_sem,start,aI,aV,ct,cX,cK,cT,Nat.reduceBEq,Nat.reduceAdd,Nat.reduceMul,Nat.reduceLeDiff,Nat.reduceEqDiff,Nat.reduceBNe,Nat.ble_eq,UInt8.reduceToNat,UInt32.reduceToNat]
  have:=hq s (some (b',cap',(List.replicate k [.int .i64 0,.int .i64 0,.str [],.sl false 4 0 []]).flatten++(List.replicate (cap' -(0+k)) [.int .i64 0,.int .i64 0,.str [],.sl false 4 0 []]).flatten)) (Sub.refl s)
   ⟨hb',by omega,by simp,by
     have e:(flat ([]:List aa)).length=0:=rfl
     rw[List.length_append,e,List.length_append]
     simp[show aH.w aa=4 from rfl]
     omega,by
     have hz:∀m,views (List.replicate m [AV.int .i64 0,.int .i64 0,.str [],.sl false 4 0 []]).flatten=(List.replicate m [AV.int .i64 0,.int .i64 0,.str [],.sl false 4 0 []]).flatten:=fun m=>by
      rw[show([.int .i64 0,.int .i64 0,.str [],.sl false 4 0 []]:List AV)=aH.cells (⟨0,0,⟨[]⟩,[]⟩:aa) from rfl,←fm]
      exact aD _
     unfold views at hz⊢
     rw[List.map_append,hz,hz]⟩
  simp only[Nat.zero_add]at this
  exact⟨⟨Int.le_refl _,Int.le_refl _,by omega⟩,this⟩
 ·have hk:k=0:=by
   have:¬(0<k):=by simpa using hk
   omega
  have:=hq s none (Sub.refl s) rfl
  first|exact this|trace_state
def WE(ls:List VL)(q:Int×Int):Option ((Int×Int)⊕Int):=bif decide (q.2<ls.length)then some (.inl (q.1+(ix ls q.2).length,q.2+1))else some (.inr q.1)
theorem WG(ls:List VL)(hl:ls.length<4611686018427387904):iter (WE ls) (0,0)=some (ls.flatten.length:Int):=by
 refine uv ls.length (fun k=>((ls.take k).flatten.length:Int)) (by simp) hl (fun k hk=>?_) ?_
 ·unfold WE
  have h1:decide ((k:Int)<ls.length)=true:=by simpa using hk
  have h2:ix ls (k:Int)=ls[k]:=by unfold ix;simp[hk]
  have h3:bz ((k:Int)+1)=(k:Int)+1:=aS (by omega) (by omega)
  show(bif decide ((k:Int)<ls.length)then _ else _)=_
  rw[h1,cond_true,h2,h3,List.take_succ_eq_append_getElem hk,List.flatten_append,List.length_append]
  simp
 ·unfold WE
  have h1:decide ((ls.length:Int)<ls.length)=false:=by simp
  show(bif decide ((ls.length:Int)<ls.length)then _ else _)=_
  rw[h1,cond_false,List.take_length]
def Vm(ls:List VL)(q:List aa×Int):Option ((List aa×Int)⊕List aa):=bif decide (q.2<ls.length)then some (.inl (q.1++ix ls q.2,q.2+1))else some (.inr q.1)
theorem Vn(ls:List VL)(hl:ls.length<4611686018427387904):iter (Vm ls) ([],0)=some ls.flatten:=by
 refine uv ls.length (fun k=>(ls.take k).flatten) (by simp) hl (fun k hk=>?_) ?_
 ·unfold Vm
  have h1:decide ((k:Int)<ls.length)=true:=by simpa using hk
  have h2:ix ls (k:Int)=ls[k]:=by unfold ix;simp[hk]
  have h3:bz ((k:Int)+1)=(k:Int)+1:=aS (by omega) (by omega)
  show(bif decide ((k:Int)<ls.length)then _ else _)=_
  rw[h1,cond_true,h2,h3,List.take_succ_eq_append_getElem hk,List.flatten_append]
  simp
 ·unfold Vm
  have h1:decide ((ls.length:Int)<ls.length)=false:=by simp
  show(bif decide ((ls.length:Int)<ls.length)then _ else _)=_
  rw[h1,cond_false,List.take_length]
theorem AU(ls:List VL)(k:Nat):(ls.take k).flatten.length≤ls.flatten.length:=by
 conv=>rhs;rw[←List.take_append_drop k ls]
 rw[List.flatten_append,List.length_append];omega
theorem Rx{s:ab}{rb cap:Nat}{sp:List AV}{ls:List VL}{Q:List AV→ab→Prop}(hs:s rb=none)(hpos:∀c∈ls,0<c.length)(hr:ls.flatten.length*56≤room)(hl:ls.length<2^40)
 (hq:∀s' r',Sub (s.set rb (.cells (flat ls++sp))) s'→fI s' r' ls.flatten→Q [gH r' ls.flatten.length] (fC s' r' ls.flatten)):FN Go.Proofs.Tryz.prog 226 [.arr rb 0 ls.length cap] (s.set rb (.cells (flat ls++sp))) Q:=by
 have hroom:room=140737488355328:=rfl
 refine FN.of (af mix) RV rfl (Nat.le_of_ble_eq_true rfl) ?_
 rw[JP,GD]
 simp -implicitDefEqProofs only[go_sem,seval]
 generalize hcs:flat ls++sp=cs at*
 refine fN (kf:=fun _=>True) (fun(q:Int×Int) τ=>∃k:Nat,k≤ls.length∧q=(((ls.take k).flatten.length:Int),(k:Int))∧τ=(⟨[(0,.arr rb 0 ls.length cap),(3,.int .i64 (ls.take k).flatten.length),(9,.arr rb 0 ls.length cap),(10,.int .i64 ls.length),(11,.int .i64 k)],[],s.set rb (.cells cs)⟩:St)) ⟨0,Nat.zero_le _,rfl,rfl⟩ ?_ ⟨_,WG ls (by omega),trivial⟩
 rintro J q τ ⟨k,hk,rfl,rfl⟩ hb
 unfold WE at hb
 by_cases h:k<ls.length
 ·have h1:decide ((k:Int)<ls.length)=true:=by simpa using h
  have h2:ix ls (k:Int)=ls[k]:=by unfold ix;simp[h]
  obtain⟨r1,r2⟩:=IQ ls sp (j:=(k:Int)) (by omega) (by omega)
  rw[hcs,h2,Int.toNat_natCast]at r2
  rw[hcs,Int.toNat_natCast]at r1
  have d1:=decide_eq_true r1
  have le:=AU ls (k+1)
  rw[List.take_succ_eq_append_getElem h,List.flatten_append,List.length_append,List.flatten_cons,List.flatten_nil,List.append_nil]at le
  have w1:bz (((ls.take k).flatten.length:Int)+(ls[k].length:Int))=((ls.take k).flatten.length:Int)+(ls[k].length:Int):=aS (by omega) (by omega)
  have w2:bz ((k:Int)+1)=(k:Int)+1:=aS (by omega) (by omega)
  have h0:decide (((ls.take k).flatten.length:Int)+(ls[k].length:Int)<0)=false:=decide_eq_false (by omega)
  simp only[h1,cond_true,h2,az,gb]at hb
  simp -implicitDefEqProofs only[go_sem,seval,h1,r2,d1,w1,w2,h0,Bool.true_eq_false,Bool.false_eq_true,false_implies,true_implies,true_and,and_true]
  have fin:=hb _ ⟨k+1,h,by rw[List.take_succ_eq_append_getElem h,List.flatten_append,List.length_append];simp,rfl⟩
  rw[List.take_succ_eq_append_getElem h,List.flatten_append,List.length_append,List.flatten_cons,List.flatten_nil,List.append_nil]at fin
  have e1:(((ls.take k).flatten.length+ls[k].length:Nat):Int)=((ls.take k).flatten.length:Int)+(ls[k].length:Int):=by omega
  have e2:((k+1:Nat):Int)=(k:Int)+1:=by omega
  rw[e1,e2]at fin
  first|exact fin|(refine⟨?_,?_,fin⟩<;>omega)|(refine⟨?_,fin⟩;omega)|(refine⟨⟨?_,?_⟩,?_,fin⟩<;>omega)|trace_state
 ·have h1:decide ((k:Int)<ls.length)=false:=by simpa using h
  obtain rfl:k=ls.length:=by omega
  clear hb
  rw[List.take_length]
  simp -implicitDefEqProofs only[go_sem,seval,h1,Bool.true_eq_false,Bool.false_eq_true,false_implies,true_implies,true_and,and_true]
  refine VD hr fun s1 r1 hs1 h1'=>?_
  simp -implicitDefEqProofs only[go_sem,seval]
  have hq2:(s.set rb (.cells cs)) rb=some (.cells cs):=bS
  refine fN (kf:=fun _=>True) (fun(q:List aa×Int) τ=>∃(k:Nat)(s':ab)(r':cG),k≤ls.length∧q=((ls.take k).flatten,(k:Int))∧Sub (s.set rb (.cells cs)) s'∧fI s' r' (ls.take k).flatten∧τ=(⟨[(6,gH r' (ls.take k).flatten.length),(25,.arr rb 0 ls.length cap),(26,.int .i64 ls.length),(27,.int .i64 k)],[],fC s' r' (ls.take k).flatten⟩:St)) ⟨0,s1,r1,Nat.zero_le _,rfl,hs1,h1',rfl⟩ ?_ ⟨_,Vn ls (by omega),trivial⟩
  ·rintro J q τ ⟨k,s',r',hk,rfl,hs',h',rfl⟩ hb
   unfold Vm at hb
   by_cases h:k<ls.length
   ·have h1:decide ((k:Int)<ls.length)=true:=by simpa using h
    have h2:ix ls (k:Int)=ls[k]:=by unfold ix;simp[h]
    obtain⟨r1,r2⟩:=IQ ls sp (j:=(k:Int)) (by omega) (by omega)
    rw[hcs,h2,Int.toNat_natCast]at r2
    rw[hcs,Int.toNat_natCast]at r1
    have d1:=decide_eq_true r1
    have hrb:fC s' r' (ls.take k).flatten rb=some (.cells cs):=il h' (hs' _ _ hq2)
    have w2:bz ((k:Int)+1)=(k:Int)+1:=aS (by omega) (by omega)
    have le:=AU ls (k+1)
    have ek:ls.take (k+1)=ls.take k++[ls[k]]:=List.take_succ_eq_append_getElem h
    have ef:(ls.take (k+1)).flatten=(ls.take k).flatten++ls[k]:=by rw[ek,List.flatten_append];simp
    rw[ef,List.length_append]at le
    simp only[h1,cond_true,h2,az,gb]at hb
    generalize hst:fC s' r' (ls.take k).flatten=st at hrb⊢
    simp -implicitDefEqProofs only[go_sem,seval,h1,hrb,r2,d1,w2,Bool.true_eq_false,Bool.false_eq_true,false_implies,true_implies,true_and,and_true]
    first
     |refine⟨⟨by omega,by omega⟩,r1,?_⟩
     |refine⟨by omega,?_⟩
     |skip
    rw[ft,aD]
    refine MF (by':=56) (s:=s') (r:=r') (l:=(ls.take k).flatten) (x:=ls[k]) (z:=(⟨0,0,⟨[]⟩,[]⟩:aa)) (by exact hst.symm) h' rfl (hpos _ (List.getElem_mem h)) (by omega) fun s2 r2' hs2 h2'=>?_
    simp -implicitDefEqProofs only[go_sem,seval,w2]
    have fin:=hb _ ⟨k+1,s2,r2',h,by rw[ef];rfl,(fun b o hb=>hs2 b o (hs' b o hb)),by rw[ef];exact h2',rfl⟩
    rw[ef,List.length_append]at fin
    have e2:((k+1:Nat):Int)=(k:Int)+1:=by omega
    rw[e2]at fin
    exact fin
   ·have h1:decide ((k:Int)<ls.length)=false:=by simpa using h
    obtain rfl:k=ls.length:=by omega
    clear hb
    rw[List.take_length]at h'⊢
    simp -implicitDefEqProofs only[go_sem,seval,h1,Bool.true_eq_false,Bool.false_eq_true,false_implies,true_implies,true_and,and_true]
    first|exact hq s' r' hs' h'|trace_state
theorem Ka:iter (fun _:Unit=>(some (.inr ()):Option (Unit⊕Unit))) ()=some ():=qg 0 (fun _=>()) rfl (by decide) (fun k hk=>by omega) rfl
theorem WC{s:ab}{rb cap:Nat}{sp:List AV}{l:List VL}{Q:List AV→ab→Prop}(hs:s rb=none)(hl:l.length<20)
 (hm:ok (RR l 0 l.length) fun l'=>Q [] (s.set rb (.cells (flat l'++sp)))):FN Go.Proofs.Tryz.prog 263 [.arr rb 0 l.length cap,.int .i64 l.length,.fn 224 [] []] (s.set rb (.cells (flat l++sp))) Q:=by
 have hroom:room=140737488355328:=rfl
 refine FN.of (af mix) VJ rfl (Nat.le_of_ble_eq_true rfl) ?_
 rw[QR,Of]
 have h1:decide ((20:Int)≤l.length)=false:=decide_eq_false (by omega)
 have h2:decide ((20:Int)<l.length)=false:=decide_eq_false (by omega)
 simp -implicitDefEqProofs only[go_sem,seval]
 refine bf (fun(_:Unit)=>(⟨[(0,.arr rb 0 l.length cap),(1,.int .i64 l.length),(2,.fn 224 [] []),(6,.int .i64 20),(7,.int .i64 0),(8,.int .i64 20)],[],s.set rb (.cells (flat l++sp))⟩:St)) rfl ?_ (⟨_,Ka,trivial⟩:ok _ fun _=>True)
 intro J _ hb
 clear hb
 simp -implicitDefEqProofs only[go_sem,seval,h1,Bool.true_eq_false,Bool.false_eq_true,false_implies,true_implies,true_and,and_true]
 refine Y1 hs ⟨by decide,by decide⟩ (by omega) (cq hm fun l' h'=>?_)
 simp -implicitDefEqProofs only[go_sem,seval]
 refine bf (fun(_:Unit)=>(⟨[(0,.arr rb 0 l.length cap),(1,.int .i64 l.length),(2,.fn 224 [] []),(6,.int .i64 20)],[],s.set rb (.cells (flat l'++sp))⟩:St)) rfl ?_ (⟨_,Ka,trivial⟩:ok _ fun _=>True)
 intro J _ hb
 clear hb
 simp -implicitDefEqProofs only[go_sem,seval,h2,Bool.true_eq_false,Bool.false_eq_true,false_implies,true_implies,true_and,and_true]
 exact h'
theorem Sw{s:ab}{rb cap:Nat}{sp:List AV}{l:List VL}{Q:List AV→ab→Prop}(hs:s rb=none)(hl:l.length<20)
 (hm:ok (RR l 0 l.length) fun l'=>Q [] (s.set rb (.cells (flat l'++sp)))):FN Go.Proofs.Tryz.prog 223 [.arr rb 0 l.length cap,.fn 224 [] []] (s.set rb (.cells (flat l++sp))) Q:=by
 refine FN.of (af mix) RW rfl (Nat.le_of_ble_eq_true rfl) ?_
 rw[JQ,GF]
 simp -implicitDefEqProofs only[go_sem,seval]
 refine WC hs hl (cq hm fun l' h'=>?_)
 simp -implicitDefEqProofs only[go_sem,seval]
 exact h'
end Go.AB
end
section
set_option maxRecDepth 4000
namespace Go.AB
open Go
attribute[-go_sem] bU cN bw bT
def kl(t_0:a8)(c_1:aA):Option (Bool):=some ((t_0.Kind==6)&&(t_0.S.b==c_1.b))
def sa:IC:=
 (ae [i1 2 (.cW 8 (.t 0)),cV 3 (.bool false)] [1,2]
 (ae [fa 4 0 2,ld 5 1 4,bn 6 .eql 5 6,mv 7 6,fg 8 7 true 7 2,lg 9 7 true 1 8,cS 10 7 true (.aU [.str []] false (.t 1)),s6 11 7 true .eql 9 10,pf 12 7 11,mv 3 12] [3]
 .ret))
def qD:List ay:=[⟨3,true,none⟩]
theorem Dp:aC Go.Proofs.Tryz.prog 125 13 qD sa=true:=by kernel_rfl
theorem DF{t_0 c_1}{B1:Nat}{s:ab}{Q:List AV→ab→Prop}(hB1:s B1=some (.cells [.str c_1.b])):ok (kl t_0 c_1) (fun r=>Q [.bool r] s)→FN Go.Proofs.Tryz.prog 125 [.agg [.int .i64 t_0.Kind,.int .i64 t_0.bI,.int .i64 t_0.To,.int .i64 t_0.V.Kind,.int .i64 t_0.V.N,.str t_0.V.S.b,.sl false 4 t_0.V.L.length (flat t_0.V.L),.str t_0.S.b],.ref B1 0] s Q:=by
 have hS:s=(s.set B1 (.cells [.str c_1.b])):=by simp only[du hB1]
 rw[hS]
 intro h
 refine FN.of (af mix) Dp rfl (Nat.le_of_ble_eq_true rfl) ?_
 revert h
 rw[sa,qD,kl]
 repeat'(first
  |simp -implicitDefEqProofs only[go_sem,seval])
theorem DE{t_0 c_1}{B1:Nat}{s:ab}{r:Bool}(hB1:s B1=some (.cells [.str c_1.b]))(h:kl t_0 c_1=some r):FE Go.Proofs.Tryz.prog 125 [.agg [.int .i64 t_0.Kind,.int .i64 t_0.bI,.int .i64 t_0.To,.int .i64 t_0.V.Kind,.int .i64 t_0.V.N,.str t_0.V.S.b,.sl false 4 t_0.V.L.length (flat t_0.V.L),.str t_0.S.b],.ref B1 0] s [.bool r] s:=DF hB1 ⟨r,h,rfl,rfl⟩
def nQ(b_0:(List UInt8))(at_1:Int)(last_2:Bool)(c3_0:aA):Option (a8×Int):=
 aP (dB b_0 at_1 last_2) fun r1=>
 if r1.2 !=0 then
  none
 else
  if r1.1.Kind==0 then
   none
  else
   aP (kl r1.1 c3_0) fun r2=>
   if !r2 then
    some ((a8.mk 0 0 0 (aa.mk 0 0 (aA.mk []) ([]:List aa)) (aA.mk [])),11)
   else
    some (r1.1,0)
theorem Ng:(ny Go.Proofs.Tryz.prog 125=true)=True:=eq_true (by kernel_rfl)
def xj:IC:=
 (ae [i1 8 (.aq A3),mi 9 0] [0,1,2,3,8]
 (ae [mt 13 0,mv 14 1,mv 15 2,c3 16 127 13 14 15,iw 12 16,ex 17 12 0,ex 18 12 1,i1 10 (.aq A3),st 8 10 17,mv 11 18] [3,8,10,11]
 (.seq (.block 0 (ae [mv 20 11,bn 21 .neq 20 0,mv 19 21] [3,8,10,19]
 (.cond (.t 19) .dead
 (ae [fa 25 0 10,ld 26 1 25,bn 27 .eql 26 0,mv 24 27] [3,8,10,24]
 (.cond (.t 24) .dead
 (ae [mv 30 3,lm 31 8 10,i1 32 (.b6 (.t 30) [(.t 31)]),no 33 32,mv 29 33] [8,10,29]
 (.cond (.t 29) (ae [i1 34 (.build A3 []),st 8 8 34,mi 9 11] [8,9]
 .ret)
 .skip)))))))
 (ae [lm 35 8 10,st 8 8 35,mi 9 0] [8,9]
 .ret))))
def u6:List ay:=[⟨8,false,some (8,true)⟩,⟨9,true,none⟩]
theorem HJ:aC Go.Proofs.Tryz.prog 123 36 u6 xj=true:=by kernel_rfl
theorem Im{b_0 at_1 last_2 c3_0}{B3_0:Nat}{s:ab}{Q:List AV→ab→Prop}(hB3_0:s B3_0=some (.cells [.str c3_0.b])):ok (nQ b_0 at_1 last_2 c3_0) (fun r=>Q [.agg [.int .i64 r.1.Kind,.int .i64 r.1.bI,.int .i64 r.1.To,.int .i64 r.1.V.Kind,.int .i64 r.1.V.N,.str r.1.V.S.b,.sl false 4 r.1.V.L.length (flat r.1.V.L),.str r.1.S.b],.int .i64 r.2] s)→FN Go.Proofs.Tryz.prog 123 [.sl false 1 b_0.length (flat b_0),.int .i64 at_1,.bool last_2,.fn 125 [] [.ref B3_0 0]] s Q:=by
 have hS:s=(s.set B3_0 (.cells [.str c3_0.b])):=by simp only[du hB3_0]
 rw[hS]
 intro h
 refine FN.of (af mix) HJ rfl (Nat.le_of_ble_eq_true rfl) ?_
 revert h
 rw[xj,u6,nQ]
 repeat'(first
  |with_reducible exact cF
  |with_reducible refine bj ?_ ?_
  |with_reducible refine cJ ?_
  |with_reducible refine ak (fun _(h:dB b_0 at_1 last_2=some _)=>jH h) (fun r1=>?_)
  |with_reducible refine ak (fun _(h:kl r1.1 c3_0=some _)=>DE (B1:=B3_0) (by simp -implicitDefEqProofs only[go_sem,seval,Ng]<;>simp only[bp]) h) (fun r2=>?_)
  |simp -implicitDefEqProofs only[go_sem,seval,Ng])
theorem Il{b_0 at_1 last_2 c3_0}{B3_0:Nat}{s:ab}{r:a8×Int}(hB3_0:s B3_0=some (.cells [.str c3_0.b]))(h:nQ b_0 at_1 last_2 c3_0=some r):FE Go.Proofs.Tryz.prog 123 [.sl false 1 b_0.length (flat b_0),.int .i64 at_1,.bool last_2,.fn 125 [] [.ref B3_0 0]] s [.agg [.int .i64 r.1.Kind,.int .i64 r.1.bI,.int .i64 r.1.To,.int .i64 r.1.V.Kind,.int .i64 r.1.V.N,.str r.1.V.S.b,.sl false 4 r.1.V.L.length (flat r.1.V.L),.str r.1.S.b],.int .i64 r.2] s:=Im hB3_0 ⟨r,h,rfl,rfl⟩
def ju(b_0:(List UInt8))(at_1:Int)(last_2:Bool)(word_3:aA):Option (Int×Int):=
 aP (nQ b_0 at_1 last_2 word_3) fun r1=>
 some (r1.1.To,r1.2)
def xh:IC:=
 (ae [i1 7 (.mP 1 (.t 3)),mi 8 0,mi 9 0] [0,1,2,7]
 (ae [mt 13 0,mv 14 1,mv 15 2,i1 16 (.jr 125 [] [(.t 7)]),Sj 17 123 13 14 15 16,iw 12 17,ex 18 12 0,ex 19 12 1,i1 10 (.aq A3),st 8 10 18,mv 11 19] [10,11]
 (ae [fa 20 2 10,ld 21 1 20,mv 22 11,mv 8 21,mv 9 22] [8,9]
 .ret)))
def uZ:List ay:=[⟨8,true,none⟩,⟨9,true,none⟩]
theorem HH:aC Go.Proofs.Tryz.prog 70 23 uZ xh=true:=by kernel_rfl
theorem Ij{b_0 at_1 last_2 word_3}{s:ab}{Q:List AV→ab→Prop}:ok (ju b_0 at_1 last_2 word_3) (fun r=>Q [.int .i64 r.1,.int .i64 r.2] s)→FN Go.Proofs.Tryz.prog 70 [.sl false 1 b_0.length (flat b_0),.int .i64 at_1,.bool last_2,.str word_3.b] s Q:=by
 intro h
 refine FN.forget ?_
 refine FN.of (af mix) HH rfl (Nat.le_of_ble_eq_true rfl) ?_
 revert h
 rw[xh,uZ,ju]
 repeat'(first
  |with_reducible refine ak (fun _(h:nQ b_0 at_1 last_2 word_3=some _)=>Il (B3_0:=N1) (by simp -implicitDefEqProofs only[go_sem,seval]<;>simp only[bp]) h) (fun r1=>?_)
  |((fail_if_success (have _x:=sN1));with_reducible intro hh N1 hN1;(try simp only[cM]at hN1);have sN1:=hN1;revert hh)
  |with_reducible exact fun hh=>⟨_,jX.set (jX.refl _) (by simp[ab.set,sN1]),hh⟩
  |simp -implicitDefEqProofs only[go_sem,seval])
theorem xK{b_0 at_1 last_2 word_3}{s:ab}{r:Int×Int}(h:ju b_0 at_1 last_2 word_3=some r):FE Go.Proofs.Tryz.prog 70 [.sl false 1 b_0.length (flat b_0),.int .i64 at_1,.bool last_2,.str word_3.b] s [.int .i64 r.1,.int .i64 r.2] s:=Ij ⟨r,h,rfl,rfl⟩
end Go.AB
end
section
set_option maxRecDepth 4000
namespace Go.AB
open Go
attribute[-go_sem] bU cN bw bT
def ko(t_0:a8):Option (Bool):=some ((t_0.Kind==1)&&(t_0.V.Kind==2))
def sc:IC:=
 (ae [i1 1 (.cW 8 (.t 0)),cV 2 (.bool false)] [1]
 (ae [fa 3 0 1,ld 4 1 3,bn 5 .eql 4 1,mv 6 5,fg 7 6 true 3 1,fg 8 6 true 0 7,lg 9 6 true 1 8,jx 10 6 true .eql 9 2,pf 11 6 10,mv 2 11] [2]
 .ret))
def qE:List ay:=[⟨2,true,none⟩]
theorem Dq:aC Go.Proofs.Tryz.prog 124 12 qE sc=true:=by kernel_rfl
theorem DH{t_0}{s:ab}{Q:List AV→ab→Prop}:ok (ko t_0) (fun r=>Q [.bool r] s)→FN Go.Proofs.Tryz.prog 124 [.agg [.int .i64 t_0.Kind,.int .i64 t_0.bI,.int .i64 t_0.To,.int .i64 t_0.V.Kind,.int .i64 t_0.V.N,.str t_0.V.S.b,.sl false 4 t_0.V.L.length (flat t_0.V.L),.str t_0.S.b]] s Q:=by
 intro h
 refine FN.of (af mix) Dq rfl (Nat.le_of_ble_eq_true rfl) ?_
 revert h
 rw[sc,qE,ko]
 repeat'(first
  |simp -implicitDefEqProofs only[go_sem,seval])
theorem DG{t_0}{s:ab}{r:Bool}(h:ko t_0=some r):FE Go.Proofs.Tryz.prog 124 [.agg [.int .i64 t_0.Kind,.int .i64 t_0.bI,.int .i64 t_0.To,.int .i64 t_0.V.Kind,.int .i64 t_0.V.N,.str t_0.V.S.b,.sl false 4 t_0.V.L.length (flat t_0.V.L),.str t_0.S.b]] s [.bool r] s:=DH ⟨r,h,rfl,rfl⟩
def lY(b_0:(List UInt8))(at_1:Int)(last_2:Bool):Option (a8×Int):=
 aP (dB b_0 at_1 last_2) fun r1=>
 if r1.2 !=0 then
  none
 else
  if r1.1.Kind==0 then
   none
  else
   aP (ko r1.1) fun r2=>
   if !r2 then
    some ((a8.mk 0 0 0 (aa.mk 0 0 (aA.mk []) ([]:List aa)) (aA.mk [])),11)
   else
    some (r1.1,0)
theorem TC:(ny Go.Proofs.Tryz.prog 124=true)=True:=eq_true (by kernel_rfl)
def tT:IC:=
 (ae [i1 8 (.aq A3),mi 9 0] [0,1,2,3,8]
 (ae [mt 13 0,mv 14 1,mv 15 2,c3 16 127 13 14 15,iw 12 16,ex 17 12 0,ex 18 12 1,i1 10 (.aq A3),st 8 10 17,mv 11 18] [3,8,10,11]
 (.seq (.block 0 (ae [mv 20 11,bn 21 .neq 20 0,mv 19 21] [3,8,10,19]
 (.cond (.t 19) .dead
 (ae [fa 25 0 10,ld 26 1 25,bn 27 .eql 26 0,mv 24 27] [3,8,10,24]
 (.cond (.t 24) .dead
 (ae [mv 30 3,lm 31 8 10,i1 32 (.b6 (.t 30) [(.t 31)]),no 33 32,mv 29 33] [8,10,29]
 (.cond (.t 29) (ae [i1 34 (.build A3 []),st 8 8 34,mi 9 11] [8,9]
 .ret)
 .skip)))))))
 (ae [lm 35 8 10,st 8 8 35,mi 9 0] [8,9]
 .ret))))
def sE:List ay:=[⟨8,false,some (8,true)⟩,⟨9,true,none⟩]
theorem Ft:aC Go.Proofs.Tryz.prog 123 36 sE tT=true:=by kernel_rfl
theorem F7{b_0 at_1 last_2}{s:ab}{Q:List AV→ab→Prop}:ok (lY b_0 at_1 last_2) (fun r=>Q [.agg [.int .i64 r.1.Kind,.int .i64 r.1.bI,.int .i64 r.1.To,.int .i64 r.1.V.Kind,.int .i64 r.1.V.N,.str r.1.V.S.b,.sl false 4 r.1.V.L.length (flat r.1.V.L),.str r.1.S.b],.int .i64 r.2] s)→FN Go.Proofs.Tryz.prog 123 [.sl false 1 b_0.length (flat b_0),.int .i64 at_1,.bool last_2,.fn 124 [] []] s Q:=by
 intro h
 refine FN.of (af mix) Ft rfl (Nat.le_of_ble_eq_true rfl) ?_
 revert h
 rw[tT,sE,lY]
 repeat'(first
  |with_reducible exact cF
  |with_reducible refine bj ?_ ?_
  |with_reducible refine cJ ?_
  |with_reducible refine ak (fun _(h:dB b_0 at_1 last_2=some _)=>jH h) (fun r1=>?_)
  |with_reducible refine ak (fun _(h:ko r1.1=some _)=>DG h) (fun r2=>?_)
  |simp -implicitDefEqProofs only[go_sem,seval,TC])
theorem F6{b_0 at_1 last_2}{s:ab}{r:a8×Int}(h:lY b_0 at_1 last_2=some r):FE Go.Proofs.Tryz.prog 123 [.sl false 1 b_0.length (flat b_0),.int .i64 at_1,.bool last_2,.fn 124 [] []] s [.agg [.int .i64 r.1.Kind,.int .i64 r.1.bI,.int .i64 r.1.To,.int .i64 r.1.V.Kind,.int .i64 r.1.V.N,.str r.1.V.S.b,.sl false 4 r.1.V.L.length (flat r.1.V.L),.str r.1.S.b],.int .i64 r.2] s:=F7 ⟨r,h,rfl,rfl⟩
def eG(b_0:(List UInt8))(at_1:Int)(last_2:Bool):Option (Int×Int×Int):=
 aP (lY b_0 at_1 last_2) fun r1=>
 some (r1.1.V.N,r1.1.To,r1.2)
def rZ:IC:=
 (ae [mi 6 0,mi 7 0,mi 8 0] [0,1,2]
 (ae [mt 12 0,mv 13 1,mv 14 2,i1 15 (.call 123 [(.t 12),(.t 13),(.t 14),(.c (.fn 124 [] []))]),iw 11 15,ex 16 11 0,ex 17 11 1,i1 9 (.aq A3),st 8 9 16,mv 10 17] [9,10]
 (.seq (.bD (some 9) [fa 18 3 9,fa 19 1 18,ld 20 1 19,fa 21 2 9,ld 22 1 21,mv 23 10,mv 6 20,mv 7 22,mv 8 23] [6,7,8])
 .ret)))
def qC:List ay:=[⟨6,true,none⟩,⟨7,true,none⟩,⟨8,true,none⟩]
theorem Dn:aC Go.Proofs.Tryz.prog 69 24 qC rZ=true:=by kernel_rfl
theorem DD{b_0 at_1 last_2}{s:ab}{Q:List AV→ab→Prop}:ok (eG b_0 at_1 last_2) (fun r=>Q [.int .i64 r.1,.int .i64 r.2.1,.int .i64 r.2.2] s)→FN Go.Proofs.Tryz.prog 69 [.sl false 1 b_0.length (flat b_0),.int .i64 at_1,.bool last_2] s Q:=by
 intro h
 refine FN.of (af mix) Dn rfl (Nat.le_of_ble_eq_true rfl) ?_
 revert h
 rw[rZ,qC,eG]
 repeat'(first
  |with_reducible refine ak (fun _(h:lY b_0 at_1 last_2=some _)=>F6 h) (fun r1=>?_)
  |simp -implicitDefEqProofs only[go_sem,seval])
theorem ml{b_0 at_1 last_2}{s:ab}{r:Int×Int×Int}(h:eG b_0 at_1 last_2=some r):FE Go.Proofs.Tryz.prog 69 [.sl false 1 b_0.length (flat b_0),.int .i64 at_1,.bool last_2] s [.int .i64 r.1,.int .i64 r.2.1,.int .i64 r.2.2] s:=DD ⟨r,h,rfl,rfl⟩
end Go.AB
end
