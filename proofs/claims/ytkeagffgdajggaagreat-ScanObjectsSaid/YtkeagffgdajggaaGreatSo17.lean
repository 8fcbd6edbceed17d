/- A part of the proof: Pv, Ps, Pc, Is, It, Ar, Pp, Pw. -/
import Derived.Test.YtkeagffgdajggaaGreatSo14
import Derived.Test.YtkeagffgdajggaaGreatSo16
import Derived.Test.YtkeagffgdajggaaGreatSo15
import Derived.Test.YtkeagffgdajggaaGreatSo12
set_option linter.unusedSimpArgs false
set_option linter.unusedVariables false
section
set_option maxRecDepth 4000
namespace Go.AB
open Go
attribute[-go_sem] Nat.add_zero pN dc dv eu cV du
def rM:IC:=
 (aj [i1 6 (.aQ iC),mi 7 0,mi 8 0] [0,1,2,6]
 (.vt 0 [(6,false),(9,false)] (.cU none [mv 15 0,mv 16 1,mv 17 2,i1 18 (.build [.sl true 1 0 [],.int .i64 0,.bool false,.arr 0 0 0 0] [(0,1,(.t 15)),(1,1,(.t 16)),(2,1,(.t 17))]),i1 19 (.qU 4 (.t 18)),mv 9 19] [6,9])
 .skip
 .skip
 (aj [mv 21 9,c1 22 74 21,lj 20 22,ex 23 20 0,ex 24 20 1,i1 10 (.aQ jY),st 8 10 23,mv 11 24] [6,9,10,11]
 (.seq (aj [mv 25 11,bn 26 .neq 25 0] [6,9,10,11,26]
 (.cond (.t 26) (aj [i1 27 (.build iC []),mv 28 11,st 4 6 27,mi 7 0,mv 8 28] [6,7,8]
 .ret)
 .skip))
 (aj [mv 30 9,lm 31 8 10,c2 32 75 30 31,lj 29 32,ex 33 29 0,ex 34 29 1,ex 35 29 2,i1 12 (.aQ iC),st 4 12 33,mv 13 34,mv 11 35] [6,9,11,12,13]
 (.seq (aj [mv 36 11,bn 37 .neq 36 0] [6,9,11,12,13,37]
 (.cond (.t 37) (aj [i1 38 (.build iC []),mv 39 11,st 4 6 38,mi 7 0,mv 8 39] [6,7,8]
 .ret)
 .skip))
 (.seq (aj [mv 40 13,no 41 40] [6,9,12,41]
 (.cond (.t 41) (.goto 0)
 .skip))
 (.seq (aj [mv 42 9,c1 43 76 42,mv 14 43] [6,9,12,14]
 (aj [mv 44 14,i1 45 (.F4 true (.t 44) (.c (.dG)))] [6,9,12,14,45]
 (.cond (.t 45) (.seq (.Lz [[false,false,false,false,false,false,false,false,false,false,false,false,false],[true,false,false,false,false,false,false,false,false,false,false,false,false],[false,true,false,false,false,false,false,false,false,false,false,false,false],[false,false,true,false,false,false,false,false,false,false,false,false,false],[false,false,false,false,false,false,false,false,false,false,false,false,false],[false,false,false,true,false,false,false,false,false,false,false,false,false],[false,false,false,false,false,false,false,false,false,false,false,false,false],[true,true,true,true,true,true,true,false,false,false,false,false,false],[true,true,true,true,true,true,true,true,false,false,false,false,false],[true,true,true,true,true,true,true,true,true,false,false,false,false],[true,true,true,true,true,true,true,true,false,false,false,false,false],[true,true,true,true,true,true,true,true,false,false,true,false,false],[true,true,true,true,true,true,true,true,false,false,false,true,false]] [mv 46 14,nc 47 46,fa 48 1 47,ld 49 1 48,lm 50 4 12,le 51 0 49,i1 52 (.b5 4 1 Kp [(0,4,(.c (.agg iC)))]),i1 53 (.gh 4 56 Kp (.t 49) (.t 52)),ia 54 Kp 53 51,st 4 54 50,nc 55 46,fa 56 1 55,st 1 56 53] [6,9])
 (.goto 0))
 .skip)))
 (.seq (.FJ [6] 8 [lm 57 4 12,mv 58 9,nc 59 58,fa 60 1 59,ld 61 1 60,st 4 6 57,mv 7 61,mi 8 0] [6,7,8])
 .ret)))))))))
def qH:List bj:=[⟨6,false,some (4,true)⟩,⟨7,true,none⟩,⟨8,true,none⟩]
theorem Bg:bG Go.Proofs.Tryz.prog 36 62 qH rM=true:=by kernel_rfl
theorem MV{P:Program}{S O:Type}{body:S→Option (S⊕O)}{s0:S}{kf:O→Prop}{live:List (Nat×Bool)}{l:Nat}{r:IC}{Q:Exit→St→Prop}{σ:St}(R:S→St→Prop)
 (h0:R s0 σ)
 (hb:∀(J:St→Prop)(s:S)(τ:St),R s τ→ok (body s) (j6 (fun t=>∀τ',R t τ'→J τ') kf)→gP P r (IY l live J Q) τ):ok (iter body s0) kf→O8 P l live r Q σ:=by
 intro h
 have hmin:∀τ,(∃m s,R s τ∧ok (cg body m s) kf)→∃m,(∃s,R s τ∧ok (cg body m s) kf)∧∀k,k<m→¬∃s,R s τ∧ok (cg body k s) kf:=by
  rintro τ ⟨m,s,h⟩
  induction m using Nat.strongRecOn generalizing s with
  |_ m ih=>
   by_cases hk:∃k,k<m∧∃s,R s τ∧ok (cg body k s) kf
   ·obtain⟨k,hk,s',h'⟩:=hk
    exact ih k hk s' h'
   ·exact⟨m,⟨s,h⟩,fun k hk' hs=>hk ⟨k,hk',hs⟩⟩
 have hμ:∃μ:St→Nat,∀τ,(∃m s,R s τ∧ok (cg body m s) kf)→(∃s,R s τ∧ok (cg body (μ τ) s) kf)∧∀k,k<μ τ→¬∃s,R s τ∧ok (cg body k s) kf:=⟨fun τ=>Classical.epsilon fun m=>(∃s,R s τ∧ok (cg body m s) kf)∧∀k,k<m→¬∃s,R s τ∧ok (cg body k s) kf,fun τ hτ=>Classical.epsilon_spec (hmin τ hτ)⟩
 obtain⟨μ,hμ⟩:=hμ
 refine⟨fun τ=>∃m s,R s τ∧ok (cg body m s) kf,μ,⟨_,s0,h0,h⟩,?_⟩
 intro τ hτ
 obtain⟨⟨s,e,hs⟩,_⟩:=hμ τ hτ
 generalize hm:μ τ=m at hs
 cases m with
 |zero=>exact(pQ hs).elim
 |succ m=>
  obtain⟨x,hx,k⟩:=pP hs
  refine hb _ s τ e ⟨x,hx,?_⟩
  cases x with
  |inr o=>exact k
  |inl t=>
   intro τ' ht
   refine⟨⟨m,t,ht,k⟩,?_⟩
   have h2:=(hμ τ' ⟨m,t,ht,k⟩).2
   rcases Nat.lt_or_ge m (μ τ')with hlt|hge
   ·exact(h2 m hlt ⟨t,ht,k⟩).elim
   ·omega
theorem Ph{s0 s:ab}{B:Nat}{p:PS}{rr:cN}{ids:List (Nat×cN)}(h:pF s0 s B p rr ids){r:aF×Int}(hr:bQ p.b p.at_ p.last=some r){Q:List AV→ab→Prop}
 (h0:(r.2 !=0)=false→∀s',pF s0 s' B {p with at_:=r.1.To} rr ids→Q [tA r.1,.int .i64 r.2] s')(h1:(r.2 !=0)=true→pF s0 s B p rr ids→Q [tA r.1,.int .i64 r.2] s):FN Go.Proofs.Tryz.prog 74 [.ref B 0] s Q:=by
 refine tJ (s_0:=⟨p.b,p.at_,p.last,gL rr p.st.length⟩) h.cell ?_
 unfold kA
 rw[fB]
 refine⟨r,hr,?_⟩
 cases he:(r.2==0)with
 |true=>
  simp only[he,if_true]
  exact⟨_,rfl,h0 (by unfold bne;rw[he];rfl) _ (h.place _)⟩
 |false=>
  simp only[he,Bool.false_eq_true,if_false]
  refine⟨_,rfl,?_⟩
  have:s.set B (.cells (ij p rr))=s:=fu h.cell
  show Q _ (s.set B (.cells (ij p rr)))
  rw[this]
  exact h1 (by unfold bne;rw[he];rfl) h
theorem XS{P:Program}{deps:List (List Bool)}{ops f:List aq}{live:List Nat}{Q:Exit→St→Prop}{d:List Bool}{σ:St}(C:St→Prop)
 (h1:∀K:St→Prop,(∀τ:St,C (τ.vb live)→K τ)→LP P deps ops K f d σ)(h2:∀φ,C φ→Q .normal φ):LP P deps ops (sw live Q) f d σ:=h1 _ fun τ h=>h2 _ h
theorem Qf{σ:St}{d:Option Nat}{K:St→Prop}{s s2:ab}{B:Nat}{p2:PS}{rr2:cN}{id:Nat×cN}{ids':List (Nat×cN)}{v:cF}{vs:List cF}(hσ:σ.s=s2)(h2:pF s s2 B p2 rr2 (id::ids'))(c6:p2.st=v::vs)(hroom:(v.l_.length+1)*56≤room)(x:aa)
 (hK:∀S3 rb cap sp,S3 rb=some (.cells (flat (v.l_++[zV])++sp))→S3 id.1=some (.cells [.bool v.gk,gL id.2 v.l_.length])→rb≠id.1→
   pF s ((S3.set rb (.cells (flat (v.l_++[x])++sp))).set id.1 (.cells [.bool v.gk,.arr rb 0 (v.l_.length+1) cap])) B {p2 with st:=⟨v.gk,v.l_++[x]⟩::vs} rr2 ((id.1,some (rb,cap,sp))::ids')→
   K ({σ with s:=S3}.put d (.arr rb 0 (v.l_.length+1) cap))):
 eA 4 56 [.int .i64 0,.int .i64 0,.str [],.sl false 4 0 []] σ d K (.arr (HC id.2) 0 v.l_.length (FK id.2)) (tL σ.s 4 (.sl true 4 1 [.int .i64 0,.int .i64 0,.str [],.sl false 4 0 []])):=by
 obtain⟨F1,F2,H⟩:=h2
 rw[c6]at F1 H
 have H1:Holds s s2 (mZ id.2 v.l_++((id.1,M5 id.2 v)::((B,.cells (ij p2 rr2))::(mZ rr2 (refs (id::ids').reverse)++zo ids' vs)))):=by
  refine H.perm ?_
  refine(List.perm_middle (l₁:=(B,SO.cells (ij p2 rr2))::mZ rr2 (refs (id::ids').reverse))).trans ?_
  refine((List.perm_append_comm_assoc ((B,SO.cells (ij p2 rr2))::mZ rr2 (refs (id::ids').reverse)) (mZ id.2 v.l_) (zo ids' vs)).cons _).trans ?_
  exact List.perm_middle.symm
 obtain⟨sb,e,okr,Hb⟩:=H1.row F1.1
 rw[kL]
 refine s5 (z:=zV) (v:=zV) (hσ.trans e) okr rfl hroom fun s' r' hs' ok'=>?_
 obtain⟨rb,cap,sp,rfl⟩:=FL ok' (by simp)
 obtain⟨H3,f3⟩:=(Hb.sub hs').RD ok'
 have hne:rb≠id.1:=by
  have:=H3.2.2
  intro he
  rw[he]at this
  simp[mZ]at this
 refine hK _ rb cap sp H3.get (H3.mem (by simp[mZ,M5])) hne ?_
 have H4:=(Holds.set (o':=.cells (flat (v.l_++[x])++sp)) H3)
 have H5:=(Holds.set (o':=.cells [.bool v.gk,.arr rb 0 (v.l_.length+1) cap]) (H4.perm (List.Perm.swap ..)))
 have H6:=H5.perm (List.perm_append_comm_assoc [(id.1,SO.cells [.bool v.gk,.arr rb 0 (v.l_.length+1) cap]),(rb,.cells (flat (v.l_++[x])++sp))] ((B,SO.cells (ij p2 rr2))::mZ rr2 (refs (id::ids').reverse)) (zo ids' vs))
 have hlen:(v.l_++[x]).length=v.l_.length+1:=by simp
 have hl:M5 (some (rb,cap,sp)) ⟨v.gk,v.l_++[x]⟩=.cells [.bool v.gk,.arr rb 0 (v.l_.length+1) cap]:=by
  unfold M5 gL
  simp only[hlen]
  rfl
 have hp:ij {p2 with st:=⟨v.gk,v.l_++[x]⟩::vs} rr2=ij p2 rr2:=by
  unfold ij
  simp only[c6,List.length_cons]
 have hrefs:refs ((id.1,(some (rb,cap,sp):cN))::ids').reverse=refs (id::ids').reverse:=by rw[o8,o8]
 refine⟨⟨?_,F1.2⟩,by rw[hrefs];exact F2,?_⟩
 ·obtain⟨g1,g2,g3,g4⟩:=f3
  refine⟨g1,by simpa using g2,?_,g4⟩
  rw[List.length_append,aK]at g3⊢
  simpa using g3
 ·rw[hp,hrefs]
  have:zo ((id.1,some (rb,cap,sp))::ids') (⟨v.gk,v.l_++[x]⟩::vs)=[(id.1,SO.cells [.bool v.gk,.arr rb 0 (v.l_.length+1) cap]),(rb,.cells (flat (v.l_++[x])++sp))]++zo ids' vs:=by rw[←hl];rfl
  show Holds s _ ((B,SO.cells (ij p2 rr2))::(mZ rr2 _++zo ((id.1,some (rb,cap,sp))::ids') (⟨v.gk,v.l_++[x]⟩::vs)))
  rw[this]
  exact H6
theorem Ob{σ:St}{d:Option Nat}{K:St→Prop}{s s2:ab}{B:Nat}{p2:PS}{rr2:cN}{id:Nat×cN}{ids':List (Nat×cN)}{v:cF}{vs:List cF}(hσ:σ.s=s2)(h2:pF s s2 B p2 rr2 (id::ids'))(c6:p2.st=v::vs)(hroom:(v.l_.length+1)*56≤room)(x:aa)
 (hK:∀S3 rb cap cs,S3 rb=some (.cells cs)→S3 id.1=some (.cells [.bool v.gk,gL id.2 v.l_.length])→(∀o,(S3.set rb o) id.1=some (.cells [.bool v.gk,gL id.2 v.l_.length]))→(∀o,(S3.set id.1 o) rb=some (.cells cs))→
   v.l_.length*4+4≤cs.length→
   (∃rr3 ids3,pF s ((S3.set rb (.cells (setAt cs (v.l_.length*4) [.int .i64 x.Kind,.int .i64 x.N,.str x.S.b,.sl false 4 x.L.length (flat x.L)]))).set id.1 (.cells [.bool v.gk,.arr rb 0 (v.l_.length+1) cap])) B {p2 with st:=⟨v.gk,v.l_++[x]⟩::vs} rr3 ids3)→
   (∃rr3 ids3,pF s ((S3.set id.1 (.cells [.bool v.gk,.arr rb 0 (v.l_.length+1) cap])).set rb (.cells (setAt cs (v.l_.length*4) [.int .i64 x.Kind,.int .i64 x.N,.str x.S.b,.sl false 4 x.L.length (flat x.L)]))) B {p2 with st:=⟨v.gk,v.l_++[x]⟩::vs} rr3 ids3)→
   K ({σ with s:=S3}.put d (.arr rb 0 (v.l_.length+1) cap))):
 eA 4 56 [.int .i64 0,.int .i64 0,.str [],.sl false 4 0 []] σ d K (.arr (HC id.2) 0 v.l_.length (FK id.2)) (tL σ.s 4 (.sl true 4 1 [.int .i64 0,.int .i64 0,.str [],.sl false 4 0 []])):=by
 refine Qf hσ h2 c6 hroom x fun S3 rb cap sp g1 g2 hne uS=>?_
 have hs:setAt (flat (v.l_++[zV])++sp) (v.l_.length*4) [.int .i64 x.Kind,.int .i64 x.N,.str x.S.b,.sl false 4 x.L.length (flat x.L)]=flat (v.l_++[x])++sp:=by
  have h:=p9 (v.l_++[zV]) [x] sp 4 v.l_.length rfl (by simp)
  have hx:flat [x]=[.int .i64 x.Kind,.int .i64 x.N,.str x.S.b,.sl false 4 x.L.length (flat x.L)]:=by
   unfold flat
   simp only[List.map_cons,List.map_nil,List.flatten_cons,List.flatten_nil,List.append_nil]
   exact lA x
  rw[hx]at h
  rw[h]
  simp
 refine hK S3 rb cap _ g1 g2 (fun o=>?_) (fun o=>?_) ?_ ?_ ?_
 ·rw[←g2];unfold ab.set;rw[if_neg (Ne.symm hne)]
 ·rw[←g1];unfold ab.set;rw[if_neg hne]
 ·rw[List.length_append,aK]
  have:a8.w aa=4:=rfl
  rw[this]
  simp
  omega
 ·rw[hs];exact⟨_,_,uS⟩
 ·rw[hs,set_comm hne];exact⟨_,_,uS⟩
def Eo(pf:List aa→Option (List aa×Int))(p:PS):Option (PS⊕(aa×Int×Int)):=
 bq (p.st.length≤64)<|
 cj (bQ p.b p.at_ p.last) fun r1=>
 bif r1.2 !=0 then some (.inr (zV,0,r1.2))else
 cj (N2 pf {p with at_:=r1.1.To} r1.1) fun r=>
 bif r.2.2.1 !=0 then some (.inr (zV,0,r.2.2.1))else
 bif !r.2.1 then some (.inl r.2.2.2)else
 bq (r.2.2.2.st.length≤64)<|match r.2.2.2.st with
 |[]=>some (.inr (r.1,r.2.2.2.at_,0))
 |v::vs=>bq ((v.l_.length+1)*56≤room)<|some (.inl {r.2.2.2 with st:=⟨v.gk,v.l_++[r.1]⟩::vs})
def pY(pf:List aa→Option (List aa×Int))(b:List UInt8)(a:Int)(last:Bool):Option (aa×Int×Int):=iter (Eo pf) ⟨b,a,last,[]⟩
def zL:AV:=.loc [.int .i64 0,.int .i64 0,.str [],.sl true 4 0 []]
set_option maxHeartbeats 8000000 in
theorem Oc{pf:List aa→Option (List aa×Int)}(hpf:vC pf){s:ab}{b:List UInt8}{a:Int}{last:Bool}{Q:List AV→ab→Prop}
 (hm:ok (pY pf b a last) fun r=>∀s',Sub s s'→Q [vA r.1,.int .i64 r.2.1,.int .i64 r.2.2] s'):FN Go.Proofs.Tryz.prog 36 [.sl false 1 b.length (flat b),.int .i64 a,.bool last] s Q:=by
 have hr:room=140737488355328:=rfl
 unfold pY at hm
 refine FN.of (ay mix) Bg rfl (Nat.le_of_ble_eq_true rfl) ?_
 rw[rM,qH]
 simp -implicitDefEqProofs only[go_sem,start,ag,an,aA,aD,aB,aC,Nat.reduceBEq,Nat.reduceAdd,Nat.reduceMul,Nat.reduceLeDiff,Nat.reduceEqDiff,Nat.reduceBNe,Nat.ble_eq,UInt8.reduceToNat,UInt32.reduceToNat]
 intro B hB
 refine MV (fun(p:PS)(τ:St)=>∃s' rr ids,pF s s' B p rr ids∧τ=⟨[(6,zL),(9,.ref B 0)],[],s'⟩) ?_ ?_ hm
 ·refine⟨_,none,[],⟨trivial,rfl,(Holds.nil.alloc hB)⟩,rfl⟩
 ·rintro J p τ ⟨s',rr,ids,h,rfl⟩ hb
  unfold Eo at hb
  rw[gY]at hb
  obtain⟨hroom,hb⟩:=hb
  unfold zL
  simp -implicitDefEqProofs only[go_sem,start,ag,an,aA,aD,aB,aC,Nat.reduceBEq,Nat.reduceAdd,Nat.reduceMul,Nat.reduceLeDiff,Nat.reduceEqDiff,Nat.reduceBNe,Nat.ble_eq,UInt8.reduceToNat,UInt32.reduceToNat]
  rw[fB]at hb
  obtain⟨r1,hr1,hb⟩:=hb
  refine Ph h hr1 (fun he s1 h1=>?_) (fun he h1=>?_)
  rotate_left
  ·rw[he,cond_true,bk]at hb
   unfold tA
   simp -implicitDefEqProofs only[go_sem,start,ag,an,aA,aD,aB,aC,Nat.reduceBEq,Nat.reduceAdd,Nat.reduceMul,Nat.reduceLeDiff,Nat.reduceEqDiff,Nat.reduceBNe,Nat.ble_eq,UInt8.reduceToNat,UInt32.reduceToNat,he,Bool.true_eq_false,Bool.false_eq_true,false_implies,true_implies,true_and,and_true]
   exact hb s' h.2.2.1
  ·rw[he,cond_false,fB]at hb
   obtain⟨r,hr2,hb⟩:=hb
   unfold tA
   simp -implicitDefEqProofs only[go_sem,start,ag,an,aA,aD,aB,aC,Nat.reduceBEq,Nat.reduceAdd,Nat.reduceMul,Nat.reduceLeDiff,Nat.reduceEqDiff,Nat.reduceBNe,Nat.ble_eq,UInt8.reduceToNat,UInt32.reduceToNat,he,Bool.true_eq_false,Bool.false_eq_true,false_implies,true_implies,true_and,and_true]
   refine P9 hpf h1 hroom ⟨r,hr2,fun he2 s2 h2=>?_,fun he2 s2 rr2 ids2 h2=>?_⟩
   ·have he3:(r.2.2.1 !=0)=true:=by simpa using he2
    rw[he3,cond_true,bk]at hb
    unfold vA
    simp -implicitDefEqProofs only[go_sem,start,ag,an,aA,aD,aB,aC,Nat.reduceBEq,Nat.reduceAdd,Nat.reduceMul,Nat.reduceLeDiff,Nat.reduceEqDiff,Nat.reduceBNe,Nat.ble_eq,UInt8.reduceToNat,UInt32.reduceToNat,he3,Bool.true_eq_false,Bool.false_eq_true,false_implies,true_implies,true_and,and_true]
    exact hb s2 h2
   ·have he3:(r.2.2.1 !=0)=false:=by simpa using he2
    rw[he3,cond_false]at hb
    unfold vA
    cases hi:r.2.1 with
    |false=>
     rw[hi,Bool.not_false,cond_true,bk]at hb
     simp -implicitDefEqProofs only[go_sem,start,ag,an,aA,aD,aB,aC,Nat.reduceBEq,Nat.reduceAdd,Nat.reduceMul,Nat.reduceLeDiff,Nat.reduceEqDiff,Nat.reduceBNe,Nat.ble_eq,UInt8.reduceToNat,UInt32.reduceToNat,he3,hi,Bool.not_false,Bool.true_eq_false,Bool.false_eq_true,false_implies,true_implies,true_and,and_true]
     exact hb _ ⟨s2,rr2,ids2,h2,rfl⟩
    |true=>
     rw[hi,Bool.not_true,cond_false]at hb
     simp -implicitDefEqProofs only[go_sem,start,ag,an,aA,aD,aB,aC,Nat.reduceBEq,Nat.reduceAdd,Nat.reduceMul,Nat.reduceLeDiff,Nat.reduceEqDiff,Nat.reduceBNe,Nat.ble_eq,UInt8.reduceToNat,UInt32.reduceToNat,he3,hi,Bool.not_true,Bool.true_eq_false,Bool.false_eq_true,false_implies,true_implies,true_and,and_true]
     rw[gY]at hb
     obtain⟨hroom2,hb⟩:=hb
     have hB2:=h2.cell
     unfold ij at hB2
     refine FY h2 (by omega) (fun c6=>?_) (fun id ids' v vs hids c6=>?_)
     ·rw[c6]at hb
      simp only[bk]at hb
      simp -implicitDefEqProofs only[go_sem,start,ag,an,aA,aD,aB,aC,Nat.reduceBEq,Nat.reduceAdd,Nat.reduceMul,Nat.reduceLeDiff,Nat.reduceEqDiff,Nat.reduceBNe,Nat.ble_eq,UInt8.reduceToNat,UInt32.reduceToNat,hB2,Bool.true_eq_false,Bool.false_eq_true,false_implies,true_implies,true_and,and_true]
      exact hb s2 h2.2.2.1
     ·rw[c6]at hb
      simp only[gY,bk]at hb
      obtain⟨hroom3,hb⟩:=hb
      simp -implicitDefEqProofs only[go_sem,start,ag,an,aA,aD,aB,aC,Nat.reduceBEq,Nat.reduceAdd,Nat.reduceMul,Nat.reduceLeDiff,Nat.reduceEqDiff,Nat.reduceBNe,Nat.ble_eq,UInt8.reduceToNat,UInt32.reduceToNat,hB2,Bool.true_eq_false,Bool.false_eq_true,false_implies,true_implies,true_and,and_true]
      subst hids
      have hlv:=h2.lv c6
      unfold M5 at hlv
      have C1:∀φ:St,(∃s3 rr3 ids3,pF s s3 B {r.2.2.2 with st:=⟨v.gk,v.l_++[r.1]⟩::vs} rr3 ids3∧φ=⟨[(6,zL),(9,.ref B 0)],[],s3⟩)→J φ:=fun φ hφ=>hb φ hφ
      refine XS (fun φ=>∃s3 rr3 ids3,pF s s3 B {r.2.2.2 with st:=⟨v.gk,v.l_++[r.1]⟩::vs} rr3 ids3∧φ=⟨[(6,zL),(9,.ref B 0)],[],s3⟩) ?_ ?_
      rotate_left
      ·rintro φ ⟨s3,rr3,ids3,h3,rfl⟩
       unfold zL
       simp -implicitDefEqProofs only[go_sem,start,ag,an,aA,aD,aB,aC,Nat.reduceBEq,Nat.reduceAdd,Nat.reduceMul,Nat.reduceLeDiff,Nat.reduceEqDiff,Nat.reduceBNe,Nat.ble_eq,UInt8.reduceToNat,UInt32.reduceToNat]
       exact C1 _ ⟨s3,rr3,ids3,h3,rfl⟩
      ·intro K hK
       clear C1 hb
       repeat'(first|(simp only[eu,dv,cV,du,xh,yr,Bool.not_true,Bool.not_false,Bool.or_true,Bool.true_or,Bool.false_or,Bool.or_false,Bool.and_true,Bool.true_and,Bool.and_false,Bool.false_and,cond_true,cond_false,true_and,and_true];done)|with_reducible refine⟨?_,?_⟩|with_reducible exact trivial|(simp only[eu,dv,cV,du,xh,yr,Bool.not_true,Bool.not_false,Bool.or_true,Bool.true_or,Bool.false_or,Bool.or_false,Bool.and_true,Bool.true_and,Bool.and_false,Bool.false_and,cond_true,cond_false,true_and,and_true])|simp -implicitDefEqProofs only[go_sem,start,ag,an,aA,aD,aB,aC,Nat.reduceBEq,Nat.reduceAdd,Nat.reduceMul,Nat.reduceLeDiff,Nat.reduceEqDiff,Nat.reduceBNe,Nat.ble_eq,UInt8.reduceToNat,UInt32.reduceToNat,hlv])
       all_goals
        refine Ob rfl h2 c6 hroom3 r.1 (fun S3 rb cap cs g1 g2 q1 q2 hle f1 f2=>?_)
        obtain⟨ra,ia,f1⟩:=f1
        obtain⟨rz,iz,f2⟩:=f2
        repeat'(first|exact hK _ ⟨_,_,_,f1,rfl⟩|exact hK _ ⟨_,_,_,f2,rfl⟩|omega|(simp only[eu,dv,cV,du,xh,yr,Bool.not_true,Bool.not_false,Bool.or_true,Bool.true_or,Bool.false_or,Bool.or_false,Bool.and_true,Bool.true_and,Bool.and_false,Bool.false_and,cond_true,cond_false,true_and,and_true];done)|with_reducible refine⟨?_,?_⟩|with_reducible exact trivial|(simp only[eu,dv,cV,du,xh,yr,Bool.not_true,Bool.not_false,Bool.or_true,Bool.true_or,Bool.false_or,Bool.or_false,Bool.and_true,Bool.true_and,Bool.and_false,Bool.false_and,cond_true,cond_false,true_and,and_true])|simp -implicitDefEqProofs only[go_sem,start,ag,an,aA,aD,aB,aC,Nat.reduceBEq,Nat.reduceAdd,Nat.reduceMul,Nat.reduceLeDiff,Nat.reduceEqDiff,Nat.reduceBNe,Nat.ble_eq,UInt8.reduceToNat,UInt32.reduceToNat,g1,g2,q1,q2])
end Go.AB
end
section
set_option maxRecDepth 4000
namespace Go.AB
open Go
end Go.AB
end
section
set_option maxRecDepth 4000
namespace Go.AB
open Go
attribute[-go_sem] dv eu cV du
@[go_sem]theorem Nl(l:List aa):pad [.int .i64 0,.int .i64 0,.str [],.sl false 4 0 []] (views (AB.sub (flat l) 0 4))=[.int .i64 ((ix l 0).Kind),.int .i64 ((ix l 0).N),.str ((ix l 0).S).b,.sl false 4 ((ix l 0).L).length (flat ((ix l 0).L))]:=C5 l 0
def b7(x_0:aL):Option (Bool):=some (!(x_0.b==x_0.b))
def mI:IC:=
 (aj [dT 2 (.bool false)] [0]
 (aj [mv 3 0,mv 4 0,bt 5 .neq 3 4,mv 2 5] [2]
 .ret))
def lP:List bj:=[⟨2,true,none⟩]
theorem uY:bG Go.Proofs.Tryz.prog 264 6 lP mI=true:=by kernel_rfl
theorem uN{x_0}{s:ab}{Q:List AV→ab→Prop}:ok (b7 x_0) (fun r=>Q [.bool r] s)→FN Go.Proofs.Tryz.prog 264 [.str x_0.b] s Q:=by
 intro h
 refine FN.of (ay mix) uY rfl (Nat.le_of_ble_eq_true rfl) ?_
 revert h
 rw[mI,lP,b7]
 repeat'(first
  |with_reducible exact bI
  |with_reducible refine aU ?_ ?_
  |with_reducible exact aV
  |with_reducible refine bN ?_
  |simp -implicitDefEqProofs only[go_sem,seval])
theorem c7{x_0}{s:ab}{r:Bool}(h:b7 x_0=some r):FE Go.Proofs.Tryz.prog 264 [.str x_0.b] s [.bool r] s:=uN ⟨r,h,rfl,rfl⟩
def dn(x_0:aL)(y_1:aL):Option (Int):=
 cj (b7 x_0) fun r1=>
 cj (b7 y_1) fun r2=>
 if r1 then
  if r2 then
   some 0
  else
   some (-1)
 else
  if r2 then
   some 1
  else
   if Op.bytesLess x_0.b y_1.b then
    some (-1)
   else
    if !((Op.bytesLess x_0.b y_1.b)||(x_0.b==y_1.b))then
     some 1
    else
     some 0
def kS:IC:=
 (aj [mi 4 0] [0,1]
 (aj [mv 7 0,c1 8 264 7,mv 5 8] [0,1,5]
 (aj [mv 9 1,c1 10 264 9,mv 6 10] [0,1,5,6]
 (.seq (aj [mv 11 5] [0,1,6,11]
 (.cond (.t 11) (.seq (aj [mv 12 6] [12]
 (.cond (.t 12) (aj [mi 4 0] [4]
 .ret)
 .skip))
 (aj [mi 4 (-1)] [4]
 .ret))
 .skip))
 (.seq (aj [mv 13 6] [0,1,13]
 (.cond (.t 13) (aj [mi 4 1] [4]
 .ret)
 .skip))
 (.seq (aj [mv 14 0,mv 15 1,bt 16 .lss 14 15] [0,1,16]
 (.cond (.t 16) (aj [mi 4 (-1)] [4]
 .ret)
 .skip))
 (.seq (aj [mv 17 0,mv 18 1,bt 19 .gtr 17 18] [19]
 (.cond (.t 19) (aj [mi 4 1] [4]
 .ret)
 .skip))
 (aj [mi 4 0] [4]
 .ret))))))))
def kd:List bj:=[⟨4,true,none⟩]
theorem rY:bG Go.Proofs.Tryz.prog 225 20 kd kS=true:=by kernel_rfl
theorem rA{x_0 y_1}{s:ab}{Q:List AV→ab→Prop}:ok (dn x_0 y_1) (fun r=>Q [.int .i64 r] s)→FN Go.Proofs.Tryz.prog 225 [.str x_0.b,.str y_1.b] s Q:=by
 intro h
 refine FN.of (ay mix) rY rfl (Nat.le_of_ble_eq_true rfl) ?_
 revert h
 rw[kS,kd,dn]
 repeat'(first
  |with_reducible exact bI
  |with_reducible refine aU ?_ ?_
  |with_reducible exact aV
  |with_reducible refine bN ?_
  |with_reducible refine ak (fun _(h:b7 x_0=some _)=>c7 h) (fun r1=>?_)
  |with_reducible refine ae (fun _(h:b7 x_0=some _)=>c7 h) (fun _=>rfl) (fun r1=>?_)
  |with_reducible refine ak (fun _(h:b7 x_0=some _)=>(by refine al ?_ (c7 h);simp -implicitDefEqProofs only[go_sem,seval])) (fun r1=>?_)
  |with_reducible refine ae (fun _(h:b7 x_0=some _)=>(by refine al ?_ (c7 h);simp -implicitDefEqProofs only[go_sem,seval])) (fun _=>rfl) (fun r1=>?_)
  |with_reducible refine ak (fun _(h:b7 y_1=some _)=>c7 h) (fun r2=>?_)
  |with_reducible refine ae (fun _(h:b7 y_1=some _)=>c7 h) (fun _=>rfl) (fun r2=>?_)
  |with_reducible refine ak (fun _(h:b7 y_1=some _)=>(by refine al ?_ (c7 h);simp -implicitDefEqProofs only[go_sem,seval])) (fun r2=>?_)
  |with_reducible refine ae (fun _(h:b7 y_1=some _)=>(by refine al ?_ (c7 h);simp -implicitDefEqProofs only[go_sem,seval])) (fun _=>rfl) (fun r2=>?_)
  |simp -implicitDefEqProofs only[go_sem,seval])
theorem fI{x_0 y_1}{s:ab}{r:Int}(h:dn x_0 y_1=some r):FE Go.Proofs.Tryz.prog 225 [.str x_0.b,.str y_1.b] s [.int .i64 r] s:=rA ⟨r,h,rfl,rfl⟩
def kF(a_0:(List aa))(b_1:(List aa)):Option (Int):=
 bq (0≤(0:Int)∧(0:Int)<a_0.length)<|
 bq (0≤(0:Int)∧(0:Int)<b_1.length)<|
 cj (dn ((ix a_0 0).S) ((ix b_1 0).S)) fun r1=>
 some r1
def oN:IC:=
 (aj [mi 4 0] [0,1]
 (.seq (.cU (some 10) [mv 5 0,i1 6 (.indexAddr Kp (.t 5) (.c (.int .i64 0))),fa 7 2 6,ld 8 1 7,mv 9 1,i1 10 (.indexAddr Kp (.t 9) (.c (.int .i64 0))),fa 11 2 10,ld 12 1 11,c2 13 225 8 12,mv 4 13] [4])
 .ret))
def nN:List bj:=[⟨4,true,none⟩]
theorem xN:bG Go.Proofs.Tryz.prog 224 14 nN oN=true:=by kernel_rfl
theorem x9{a_0 b_1}{s:ab}{Q:List AV→ab→Prop}:ok (kF a_0 b_1) (fun r=>Q [.int .i64 r] s)→FN Go.Proofs.Tryz.prog 224 [.sl false 4 a_0.length (flat a_0),.sl false 4 b_1.length (flat b_1)] s Q:=by
 intro h
 refine FN.of (ay mix) xN rfl (Nat.le_of_ble_eq_true rfl) ?_
 revert h
 rw[oN,nN,kF]
 repeat'(first
  |with_reducible exact bI
  |with_reducible refine aU ?_ ?_
  |with_reducible exact aV
  |with_reducible refine bN ?_
  |with_reducible refine ak (fun _(h:dn ((ix a_0 0).S) ((ix b_1 0).S)=some _)=>fI h) (fun r1=>?_)
  |with_reducible refine ae (fun _(h:dn ((ix a_0 0).S) ((ix b_1 0).S)=some _)=>fI h) (fun _=>rfl) (fun r1=>?_)
  |with_reducible refine ak (fun _(h:dn ((ix a_0 0).S) ((ix b_1 0).S)=some _)=>(by refine al ?_ (fI h);simp -implicitDefEqProofs only[go_sem,seval])) (fun r1=>?_)
  |with_reducible refine ae (fun _(h:dn ((ix a_0 0).S) ((ix b_1 0).S)=some _)=>(by refine al ?_ (fI h);simp -implicitDefEqProofs only[go_sem,seval])) (fun _=>rfl) (fun r1=>?_)
  |simp -implicitDefEqProofs only[go_sem,seval])
theorem x8{a_0 b_1}{s:ab}{r:Int}(h:kF a_0 b_1=some r):FE Go.Proofs.Tryz.prog 224 [.sl false 4 a_0.length (flat a_0),.sl false 4 b_1.length (flat b_1)] s [.int .i64 r] s:=x9 ⟨r,h,rfl,rfl⟩
end Go.AB
end
section
set_option maxRecDepth 4000
namespace Go.AB
open Go
attribute[-go_sem] Nat.add_zero pN dc dv eu cV du
def A2:IC:=
 (aj [mv 10 1,bn 11 .add 10 1,mv 8 11] [0,1,2,3,8]
 (.block 0 (.loop [(0,false),(1,false),(2,false),(3,false),(8,false)] (.seq (aj [mv 12 8,mv 13 2,bt 14 .lss 12 13] [0,1,2,3,8,14]
 (.cond (.t 14) .skip
 (.exit 0)))
 (.seq (.block 1 (aj [mv 17 8,mv 9 17] [0,1,2,3,8,9]
 (.block 2 (.loop [(0,false),(1,false),(2,false),(3,false),(8,false),(9,false)] (.seq (.seq (.cU (some 17) [mv 18 9,mv 19 1,bt 20 .gtr 18 19,mv 21 20,b6 22 3 21 true,b6 23 0 21 true,b6 24 9 21 true,cQ 25 21 true (.indexAddr [.sl false 4 0 []] (.t 23) (.t 24)),cQ 26 21 true (.bW [.sl false 4 0 []] false (.t 25)),b6 27 0 21 true,b6 28 9 21 true,jz 29 21 true .sub 28 1,cQ 30 21 true (.indexAddr [.sl false 4 0 []] (.t 27) (.t 29)),cQ 31 21 true (.bW [.sl false 4 0 []] false (.t 30)),cQ 32 21 true (.eC (.t 22) [(.t 26),(.t 31)]),jz 33 21 true .lss 32 0,pf 34 21 33] [0,1,2,3,8,9,34])
 (.cond (.t 34) .skip
 (.exit 2)))
 (.seq (.block 3 (.FI [] [(0,0,mv 37 0),(0,1,mv 38 9),(1,2,mv 39 0),(1,3,mv 40 9),(1,4,bn 41 .sub 40 1),(0,5,mv 42 0),(0,6,mv 43 9),(0,7,bn 44 .sub 43 1),(0,8,ia 45 [.sl false 4 0 []] 42 44),(0,9,ld 46 1 45),(0,10,mv 47 0),(0,11,mv 48 9),(0,12,ia 49 [.sl false 4 0 []] 47 48),(0,13,ld 50 1 49),(0,14,ia 51 [.sl false 4 0 []] 37 38),(2,15,st 1 51 46),(0,16,ia 52 [.sl false 4 0 []] 39 41),(2,17,st 1 52 50)] [0,1,2,3,8,9]))
 (.cU none [mv 35 9,bn 36 .sub 35 1,mv 9 36] [0,1,2,3,8,9])))))))
 (.cU none [mv 15 8,bn 16 .add 15 1,mv 8 16] [0,1,2,3,8]))))))
def yQ:List bj:=[]
theorem IU:bG Go.Proofs.Tryz.prog 297 53 yQ A2=true:=by kernel_rfl
abbrev VL:=List aa
def J3(a:Int)(q:List VL×Int):Option ((List VL×Int)⊕List VL):=
 bq (0≤q.2∧q.2<q.1.length∧q.2<2^62)<|bif decide (q.2>a)then
  bq (1≤q.2)<|cj (kF (ix q.1 q.2) (ix q.1 (q.2 -1))) fun c=>
  bif decide (c<0)then some (.inl ((q.1.set q.2.toNat (ix q.1 (q.2 -1))).set (q.2 -1).toNat (ix q.1 q.2),q.2 -1))else some (.inr q.1)
 else some (.inr q.1)
def insOuter(a b:Int)(q:List VL×Int):Option ((List VL×Int)⊕List VL):=bif decide (q.2<b)then bq (0≤q.2∧q.2+1<2^62)<|cj (iter (J3 a) (q.1,q.2)) fun l=>some (.inl (l,q.2+1))else some (.inr q.1)
def K8(l:List VL)(a b:Int):Option (List VL):=iter (insOuter a b) (l,a+1)
theorem HB(l:List VL)(sp:List AV){j:Int}(h0:0≤j)(h:j<l.length):j.toNat*1+1≤(flat l++sp).length∧views (AB.sub (flat l++sp) (j.toNat*1) 1)=[.sl false 4 (ix l j).length (flat (ix l j))]:=by
 have hj:j.toNat<l.length:=by omega
 have hs:=nU l sp 1 j.toNat 1 rfl (by omega)
 refine⟨?_,?_⟩
 ·rw[List.length_append,aK]
  have:a8.w VL=1:=rfl
  rw[this];omega
 ·rw[Nat.one_mul]at hs
  rw[hs,List.drop_eq_getElem_cons hj]
  have:ix l j=l[j.toNat]:=by unfold ix;simp[hj]
  rw[this]
  rfl
theorem Xr(l:List VL)(sp:List AV)(x:VL){j:Int}(h0:0≤j)(h:j<l.length):setAt (flat l++sp) (j.toNat*1) [.sl false 4 x.length (flat x)]=flat (l.set j.toNat x)++sp:=by
 have hj:j.toNat<l.length:=by omega
 have hs:=p9 l [x] sp 1 j.toNat rfl (by simp;omega)
 have e:flat [x]=[.sl false 4 x.length (flat x)]:=rfl
 rw[e]at hs
 rw[hs,List.set_eq_take_append_cons_drop,if_pos hj]
 simp
theorem Sj{s:ab}{rb cap:Nat}{sp:List AV}{l:List VL}{a b:Int}{Q:List AV→ab→Prop}(hs:s rb=none)(ha:0≤a∧a+1<2^62)(hr:l.length≤room)
 (hm:ok (K8 l a b) fun l'=>Q [] (s.set rb (.cells (flat l'++sp)))):FN Go.Proofs.Tryz.prog 297 [.arr rb 0 l.length cap,.int .i64 a,.int .i64 b,.fn 224 [] []] (s.set rb (.cells (flat l++sp))) Q:=by
 unfold K8 at hm
 refine FN.of (ay mix) IU rfl (Nat.le_of_ble_eq_true rfl) ?_
 rw[A2,yQ]
 simp -implicitDefEqProofs only[go_sem,start,ag,an,aA,aD,aB,aC,Nat.reduceBEq,Nat.reduceAdd,Nat.reduceMul,Nat.reduceLeDiff,Nat.reduceEqDiff,Nat.reduceBNe,Nat.ble_eq,UInt8.reduceToNat,UInt32.reduceToNat]
 rw[aM (by omega) (by omega)]
 refine dp (fun(q:List VL×Int)=>(⟨[(0,.arr rb 0 q.1.length cap),(1,.int .i64 a),(2,.int .i64 b),(3,.fn 224 [] []),(8,.int .i64 q.2)],[],s.set rb (.cells (flat q.1++sp))⟩:St)) rfl ?_ hm
 intro J q hb
 unfold insOuter at hb
 cases hlt:decide (q.2<b)with
 |false=>
  rw[hlt,cond_false,bk]at hb
  simp -implicitDefEqProofs only[go_sem,start,ag,an,aA,aD,aB,aC,Nat.reduceBEq,Nat.reduceAdd,Nat.reduceMul,Nat.reduceLeDiff,Nat.reduceEqDiff,Nat.reduceBNe,Nat.ble_eq,UInt8.reduceToNat,UInt32.reduceToNat,hlt,Bool.true_eq_false,Bool.false_eq_true,false_implies,true_implies,true_and,and_true]
  exact hb
 |true=>
  rw[hlt,cond_true,gY,fB]at hb
  obtain⟨hb0,hb⟩:=hb
  simp -implicitDefEqProofs only[go_sem,start,ag,an,aA,aD,aB,aC,Nat.reduceBEq,Nat.reduceAdd,Nat.reduceMul,Nat.reduceLeDiff,Nat.reduceEqDiff,Nat.reduceBNe,Nat.ble_eq,UInt8.reduceToNat,UInt32.reduceToNat,hlt,Bool.true_eq_false,Bool.false_eq_true,false_implies,true_implies,true_and,and_true]
  refine dp (fun(q':List VL×Int)=>(⟨[(0,.arr rb 0 q'.1.length cap),(1,.int .i64 a),(2,.int .i64 b),(3,.fn 224 [] []),(8,.int .i64 q.2),(9,.int .i64 q'.2)],[],s.set rb (.cells (flat q'.1++sp))⟩:St)) rfl ?_ hb
  intro J2 q' hb2
  unfold J3 at hb2
  rw[gY]at hb2
  obtain⟨hb3,hb2⟩:=hb2
  have hw:az (q'.2 -1)=q'.2 -1:=aM (by omega) (by omega)
  obtain⟨r1,r2⟩:=HB q'.1 sp (j:=q'.2) (by omega) hb3.2.1
  cases hgt:decide (q'.2>a)with
  |false=>
   rw[hgt,cond_false,bk]at hb2
   obtain⟨r3,r4⟩:=HB q'.1 sp (j:=((q'.2 -1).toNat:Int)) (by omega) (by omega)
   rw[Int.toNat_natCast]at r3 r4
   generalize hcs:flat q'.1++sp=cs
   rw[hcs]at r1 r2 r3 r4
   have d1:=decide_eq_true r1
   have d3:=decide_eq_true r3
   simp -implicitDefEqProofs only[go_sem,start,ag,an,aA,aD,aB,aC,Nat.reduceBEq,Nat.reduceAdd,Nat.reduceMul,Nat.reduceLeDiff,Nat.reduceEqDiff,Nat.reduceBNe,Nat.ble_eq,UInt8.reduceToNat,UInt32.reduceToNat,hgt,hw,r2,r4,d1,d3,Bool.true_eq_false,Bool.false_eq_true,false_implies,true_implies,true_and,and_true]
   refine⟨[.int .i64 0],rfl,?_⟩
   simp -implicitDefEqProofs only[go_sem,start,ag,an,aA,aD,aB,aC,Nat.reduceBEq,Nat.reduceAdd,Nat.reduceMul,Nat.reduceLeDiff,Nat.reduceEqDiff,Nat.reduceBNe,Nat.ble_eq,UInt8.reduceToNat,UInt32.reduceToNat,Bool.true_eq_false,Bool.false_eq_true,false_implies,true_implies,true_and,and_true]
   subst hcs
   rw[aM (by omega) (by omega)]
   simp only[bk]at hb2
   exact hb2
  |true=>
   rw[hgt,cond_true,gY,fB]at hb2
   obtain⟨hb4,c,hc,hb2⟩:=hb2
   obtain⟨r3,r4⟩:=HB q'.1 sp (j:=q'.2 -1) (by omega) (by omega)
   generalize hcs:flat q'.1++sp=cs
   rw[hcs]at r1 r2 r3 r4
   have d1:=decide_eq_true r1
   have d3:=decide_eq_true r3
   simp -implicitDefEqProofs only[go_sem,start,ag,an,aA,aD,aB,aC,Nat.reduceBEq,Nat.reduceAdd,Nat.reduceMul,Nat.reduceLeDiff,Nat.reduceEqDiff,Nat.reduceBNe,Nat.ble_eq,UInt8.reduceToNat,UInt32.reduceToNat,hgt,hw,r2,r4,d1,d3,Bool.true_eq_false,Bool.false_eq_true,false_implies,true_implies,true_and,and_true]
   refine⟨⟨hb3.1,hb3.2.1⟩,r1,⟨by omega,by omega⟩,r3,[.int .i64 c],rfl,⟨224,[.sl false 4 (ix q'.1 q'.2).length (flat (ix q'.1 q'.2)),.sl false 4 (ix q'.1 (q'.2 -1)).length (flat (ix q'.1 (q'.2 -1)))],⟨[],[],_,rfl,rfl,rfl⟩,by kernel_rfl,x8 hc⟩,?_⟩
   ·simp -implicitDefEqProofs only[go_sem,start,ag,an,aA,aD,aB,aC,Nat.reduceBEq,Nat.reduceAdd,Nat.reduceMul,Nat.reduceLeDiff,Nat.reduceEqDiff,Nat.reduceBNe,Nat.ble_eq,UInt8.reduceToNat,UInt32.reduceToNat,hw,r2,r4,d1,d3,Bool.true_eq_false,Bool.false_eq_true,false_implies,true_implies,true_and,and_true]
    refine⟨fun hx=>?_,fun hx=>?_⟩
    ·rw[hx,cond_true,bk]at hb2
     subst hcs
     have hl:(q'.1.set q'.2.toNat (ix q'.1 (q'.2 -1))).length=q'.1.length:=List.length_set ..
     rw[Xr q'.1 sp (ix q'.1 (q'.2 -1)) hb3.1 hb3.2.1,Xr _ sp (ix q'.1 q'.2) (j:=q'.2 -1) (by omega) (by rw[hl];omega)]
     obtain⟨r5,_⟩:=HB (q'.1.set q'.2.toNat (ix q'.1 (q'.2 -1))) sp (j:=q'.2 -1) (by omega) (by rw[hl];omega)
     have hl2:((q'.1.set q'.2.toNat (ix q'.1 (q'.2 -1))).set (q'.2 -1).toNat (ix q'.1 q'.2)).length=q'.1.length:=by rw[List.length_set,List.length_set]
     refine⟨⟨by omega,by omega⟩,⟨hb3.1,hb3.2.1⟩,⟨hb3.1,hb3.2.1⟩,r1,⟨by omega,by omega⟩,r5,?_⟩
     have hb5:=hb2
     simp only[l3,hl2]at hb5
     exact hb5
    ·rw[hx,cond_false,bk]at hb2
     subst hcs
     rw[aM (by omega) (by omega)]
     simp only[vK,l3,bk]at hb2
     exact hb2
end Go.AB
end
section
namespace Go.AB
open Go
theorem kp{S O:Type}{body:S→Option (S⊕O)}{s0:S}{o:O}(n:Nat)(st:Nat→S)(h0:st 0=s0)(hn:n<18446744073709551615)(hs:∀k,k<n→body (st k)=some (.inl (st (k+1))))(he:body (st n)=some (.inr o)):iter body s0=some o:=by
 have key:∀j,j≤n→∀m,cg body (m+1+j) (st (n -j))=some o:=by
  intro j
  induction j with
  |zero=>
   intro _ m
   show cg body (m+1) (st n)=some o
   unfold cg
   rw[he]
  |succ j ih=>
   intro hj m
   show cg body (m+1+j+1) (st (n -(j+1)))=some o
   unfold cg
   rw[hs _ (by omega),show n -(j+1)+1=n -j by omega]
   exact ih (by omega) m
 have:=key n (Nat.le_refl n) (18446744073709551616 -1 -n)
 rw[Nat.sub_self,h0,show 18446744073709551616 -1 -n+1+n=18446744073709551616 by omega]at this
 exact this
theorem GU{A O:Type}{body:A×Int→Option ((A×Int)⊕O)}{a0:A}{o:O}(n:Nat)(acc:Nat→A)(h0:acc 0=a0)(hn:n<4611686018427387904)(hs:∀k,k<n→body (acc k,(k:Int))=some (.inl (acc (k+1),az ((k:Int)+1))))(he:body (acc n,(n:Int))=some (.inr o)):iter body (a0,0)=some o:=
 kp n (fun k=>(acc k,(k:Int))) (by rw[h0];rfl) (by omega) (fun k hk=>by rw[hs k hk,aM (by omega) (by omega)];rfl) he
theorem oR{O:Type}{body:Int→Option (Int⊕O)}{o:O}(n:Nat)(hn:n<4611686018427387904)(hs:∀k,k<n→body (k:Int)=some (.inl (az ((k:Int)+1))))(he:body (n:Int)=some (.inr o)):iter body 0=some o:=
 kp n (fun k=>(k:Int)) rfl (by omega) (fun k hk=>by rw[hs k hk,aM (by omega) (by omega)];rfl) he
theorem gI{α β:Type}{o:Option α}{a:α}{K:α→Option β}{r:Option β}(h:o=some a)(k:K a=r):jn o K=r:=by rw[h];exact k
theorem ai{α β:Type}{o:Option α}{a:α}{K:α→Option β}{r:Option β}(h:o=some a)(k:K a=r):cj o K=r:=by rw[h];exact k
theorem bz{X Y α:Type}{o:Option (X⊕Y)}{z:X⊕Y}{F:X→Option α}{G:Y→Option α}{r:Option α}(h:o=some z)(k:(match z with|.inl a=>F a|.inr b=>G b)=r):xR o F G=r:=by
 rw[h]
 cases z<;>exact k
theorem s8{X Y α:Type}{o:Option (X⊕Y)}{z:X⊕Y}{F:X→Option α}{G:Y→Option α}{r:Option α}(h:o=some z)(k:(match z with|.inl a=>F a|.inr b=>G b)=r):oD o F G=r:=by
 rw[h]
 cases z<;>exact k
theorem ah{α:Type}{c:Prop}[Decidable c]{o r:Option α}(h:c)(k:o=r):bq c o=r:=by rw[BB h];exact k
theorem ax{α:Type}{c:Prop}[Decidable c]{a b r:α}(h:c)(k:a=r):(if c then a else b)=r:=by rw[if_pos h];exact k
theorem af{α:Type}{c:Prop}[Decidable c]{a b r:α}(h:¬c)(k:b=r):(if c then a else b)=r:=by rw[if_neg h];exact k
inductive HV{S O:Type}(body:S→Option (S⊕O)):Nat→S→O→Prop
 |stop {m:Nat} {s:S} {o:O} (h:body s=some (.inr o)):HV body (m+1) s o
 |step {m:Nat} {s t:S} {o:O} (h:body s=some (.inl t)) (k:HV body m t o):HV body (m+1) s o
theorem HV.cg{S O:Type}{body:S→Option (S⊕O)}{m:Nat}{s:S}{o:O}(h:HV body m s o):∀n,m≤n→cg body n s=some o:=by
 induction h with
 |stop h=>
  intro n hn
  obtain⟨k,rfl⟩:∃k,n=k+1:=⟨n -1,by omega⟩
  unfold AB.cg;rw[h]
 |step h _ ih=>
  intro n hn
  obtain⟨k,rfl⟩:∃k,n=k+1:=⟨n -1,by omega⟩
  unfold AB.cg;rw[h]
  exact ih k (by omega)
theorem HV.iter{S O:Type}{body:S→Option (S⊕O)}{m:Nat}{s:S}{o:O}(h:HV body m s o)(hm:m≤18446744073709551616):iter body s=some o:=h.cg _ hm
end Go.AB
end
section
set_option maxRecDepth 4000
namespace Go.AB
open Go
theorem Gc{α:Type}[a8 α]{σ:St}{d:Option Nat}{K:St→Prop}{sz by':Nat}{s:ab}{r:cN}{l:List α}{z:α}{x:List α}(hσ:σ.s=fX s r l)(h:gj s r l)(hz:sz=a8.w α)(hx:0<x.length)(hr:(l.length+x.length)*by'≤room)
 (hK:∀s' r',Sub s s'→gj s' r' (l++x)→K ({σ with s:=fX s' r' (l++x)}.put d (gL r' (l.length+x.length)))):
 eA sz by' (a8.cells z) σ d K (gL r l.length) (some (x.length,flat x)):=by
 subst hz
 have hcz:(a8.cells z).length=a8.w α:=a8.len z
 have hvz:views (a8.cells z)=a8.cells z:=a8.vw z
 have fresh:∀(s':ab)(b' cap':Nat),s' b'=none→l.length+x.length≤cap'→gj s' (some (b',cap',flat (List.replicate (cap' -(l.length+x.length)) z))) (l++x):=fun s' b' cap' hb hc=>by
  refine⟨hb,by omega,by simpa using hc,?_,cm _⟩
  rw[List.length_append,aK,aK,List.length_replicate,List.length_append,←Nat.add_mul]
  congr 1
  omega
 cases r with
 |none=>
  obtain rfl:l=[]:=h
  show eA (a8.w α) by' (a8.cells z) σ d K (.arr 0 0 0 0) _
  refine jC hcz (olds:=[]) rfl (by simpa using hx) hr fun b' cap' hb' hc=>?_
  rw[List.nil_append,←mG]
  rw[hσ]at hb'⊢
  have:=hK s (some (b',cap',flat (List.replicate (cap' -(0+x.length)) z))) (Sub.refl s) (fresh s b' cap' hb' hc)
  exact this
 |some y=>
  obtain⟨b,cap,sp⟩:=y
  obtain⟨h1,h2,h3,h4,h5⟩:=h
  have hs:σ.s b=some (.cells (flat l++sp)):=by rw[hσ];exact fC
  show eA (a8.w α) by' (a8.cells z) σ d K (.arr b 0 l.length cap) _
  by_cases hc:l.length+x.length≤cap
  ·refine yy hcz hs (by rw[h4,Nat.zero_add];exact Nat.le_refl _) hc ?_
   have hsp:x.length*a8.w α≤sp.length:=by
    rw[List.length_append,aK]at h4
    have:(l.length+x.length)*a8.w α≤cap*a8.w α:=Nat.mul_le_mul_right _ hc
    rw[Nat.add_mul]at this
    simp;omega
   have st:=HD l x sp (a8.w α) rfl hsp
   rw[Nat.zero_add,st]
   have e:σ.s.set b (.cells (flat (l++x)++sp.drop (x.length*a8.w α)))=fX s (some (b,cap,sp.drop (x.length*a8.w α))) (l++x):=by
    rw[hσ]
    show(s.set b _).set b _=s.set b _
    exact set_set ..
   rw[e]
   refine hK s _ (Sub.refl s) ⟨h1,h2,by simpa using hc,?_,?_⟩
   ·rw[List.length_append,aK]at h4⊢
    rw[List.length_drop,List.length_append,Nat.add_mul]
    omega
   ·unfold views at h5⊢
    rw[List.map_drop,h5]
  ·refine jC hcz (x5 hs (by
    rw[Nat.zero_add,h4];exact Nat.mul_le_mul_right _ h3)) (by omega) hr fun b' cap' hb' hc'=>?_
   have ho:views (AB.sub (flat l++sp) 0 (l.length*a8.w α))=flat l:=by
    have:=nU l sp (a8.w α) 0 l.length rfl (by omega)
    rw[Nat.zero_mul]at this
    rw[this,List.drop_zero,List.take_length,cm]
   rw[ho,←mG,←eV]
   rw[hσ]at hb'⊢
   have hb0:(s.set b (.cells (flat l++sp))) b'=none:=hb'
   exact hK (s.set b (.cells (flat l++sp))) (some (b',cap',flat (List.replicate (cap' -(l.length+x.length)) z))) ((Sub.refl s).set h1) (fresh _ b' cap' hb0 hc')
end Go.AB
end
section
set_option maxRecDepth 4000
namespace Go.AB
open Go
attribute[-go_sem] Nat.add_zero pN dc dv eu cV du
def J6:IC:=
 (aj [dT 4 (.arr 0 0 0 0)] [0,1]
 (.seq (aj [mv 5 1,bn 6 .lss 5 0] [0,1,6]
 (.cond (.t 6) .dead
 .skip))
 (.seq (aj [mv 8 1,mv 9 0,i1 10 (.cap (.t 9)),mv 11 0,le 12 0 11,bt 13 .sub 10 12,bt 14 .sub 8 13,mv 1 14] [0,1]
 (aj [mv 15 1,bn 16 .gtr 15 0] [0,1,16]
 (.cond (.t 16) (.cU none [mv 17 0,mv 18 0,i1 19 (.cap (.t 18)),Ts 20 4 17 19,mv 21 1,i1 22 (.lY 4 56 Kp (.t 20) (.t 21)),mv 23 0,le 24 0 23,Ts 25 4 22 24,mv 0 25] [0])
 .skip)))
 (aj [mv 26 0,mv 4 26] [4]
 .ret))))
def Hy:List bj:=[⟨4,true,none⟩]
theorem O5:bG Go.Proofs.Tryz.prog 265 27 Hy J6=true:=by kernel_rfl
def DK:IC:=
 (aj [dT 2 (.arr 0 0 0 0)] [0]
 (aj [mi 3 0] [0,3]
 (.seq (aj [mv 9 0,le 10 0 9,mi 11 0] [0,3,9,10,11]
 (.block 0 (.loop [(0,false),(3,false),(9,false),(10,false),(11,false)] (aj [bt 12 .lss 11 10] [0,3,9,10,11,12]
 (.seq (.cond (.t 12) .skip
 (.exit 0))
 (.seq (.block 1 (aj [ia 13 [.sl false 4 0 []] 9 11,ld 14 1 13,mv 5 14] [0,3,5,9,10,11]
 (aj [mv 15 3,mv 16 5,le 17 0 16,bt 18 .add 15 17,mv 3 18] [0,3,9,10,11]
 (aj [mv 19 3,bn 20 .lss 19 0] [0,3,9,10,11,20]
 (.cond (.t 20) .dead
 .skip)))))
 (.cU none [bn 22 .add 11 1,mv 11 22] [0,3,9,10,11])))))))
 (aj [mv 23 3,i1 24 (.call 265 [(.c (.arr 0 0 0 0)),(.t 23)]),mv 6 24] [0,6]
 (.seq (aj [mv 25 0,le 26 0 25,mi 27 0] [6,25,26,27]
 (.block 2 (.loop [(6,false),(25,false),(26,false),(27,false)] (aj [bt 28 .lss 27 26] [6,25,26,27,28]
 (.seq (.cond (.t 28) .skip
 (.exit 2))
 (.seq (.block 3 (aj [ia 29 [.sl false 4 0 []] 25 27,ld 30 1 29,mv 8 30] [6,8,25,26,27]
 (.cU none [mv 31 6,mv 32 8,i1 33 (.gh 4 56 Kp (.t 31) (.t 32)),mv 6 33] [6,25,26,27])))
 (.cU none [bn 34 .add 27 1,mv 27 34] [6,25,26,27])))))))
 (aj [mv 35 6,mv 2 35] [2]
 .ret))))))
def B3:List bj:=[⟨2,true,none⟩]
theorem Lb:bG Go.Proofs.Tryz.prog 226 36 B3 DK=true:=by kernel_rfl
def J7:IC:=
 (aj [mi 6 20] [0,1,2,6]
 (aj [mv 10 6,mi 7 0,mv 8 10] [0,1,2,6,7,8]
 (.seq (.block 0 (.loop [(0,false),(1,false),(2,false),(6,false),(7,false),(8,false)] (.seq (aj [mv 11 8,mv 12 1,bt 13 .leq 11 12] [0,1,2,6,7,8,13]
 (.cond (.t 13) .skip
 (.exit 0)))
 (.block 1 (aj [mv 14 0,mv 15 7,mv 16 8,mv 17 2,Ou 18 297 14 15 16 17] [0,1,2,6,8]
 (aj [mv 19 8,mv 7 19] [0,1,2,6,7,8]
 (.cU none [mv 20 8,mv 21 6,bt 22 .add 20 21,mv 8 22] [0,1,2,6,7,8])))))))
 (aj [mv 23 0,mv 24 7,mv 25 1,mv 26 2,Ou 27 297 23 24 25 26] [0,1,2,6]
 (.block 2 (.loop [(0,false),(1,false),(2,false),(6,false)] (.seq (aj [mv 28 6,mv 29 1,bt 30 .lss 28 29] [0,1,2,6,30]
 (.cond (.t 30) .skip
 (.exit 2)))
 (.block 3 (aj [mv 31 6,i1 32 (.bin .mul (.c (.int .i64 2)) (.t 31)),mi 7 0,mv 8 32] [0,1,2,6,7,8]
 (.seq (.block 4 (.loop [(0,false),(1,false),(2,false),(6,false),(7,false),(8,false)] (.seq (aj [mv 33 8,mv 34 1,bt 35 .leq 33 34] [0,1,2,6,7,8,35]
 (.cond (.t 35) .skip
 (.exit 4)))
 (.block 5 (aj [mv 36 0,mv 37 7,mv 38 7,mv 39 6,bt 40 .add 38 39,mv 41 8,mv 42 2,i1 43 (.call 298 [(.t 36),(.t 37),(.t 40),(.t 41),(.t 42)])] [0,1,2,6,8]
 (aj [mv 44 8,mv 7 44] [0,1,2,6,7,8]
 (.cU none [mv 45 8,mv 46 6,i1 47 (.bin .mul (.c (.int .i64 2)) (.t 46)),bt 48 .add 45 47,mv 8 48] [0,1,2,6,7,8])))))))
 (.seq (aj [mv 49 7,mv 50 6,bt 51 .add 49 50,mv 9 51] [0,1,2,6,7,9]
 (aj [mv 52 9,mv 53 1,bt 54 .lss 52 53] [0,1,2,6,7,9,54]
 (.cond (.t 54) (.cU none [mv 55 0,mv 56 7,mv 57 9,mv 58 1,mv 59 2,i1 60 (.call 298 [(.t 55),(.t 56),(.t 57),(.t 58),(.t 59)])] [0,1,2,6])
 .skip)))
 (.cU none [mv 61 6,bn 62 .mul 61 2,mv 6 62] [0,1,2,6]))))))))))))
def Hz:List bj:=[]
theorem O6:bG Go.Proofs.Tryz.prog 263 63 Hz J7=true:=by kernel_rfl
def DL:IC:=
 (.cU none [mv 4 0,mv 5 0,le 6 0 5,mv 7 1,c3 8 263 4 6 7] [])
def B4:List bj:=[]
theorem Lc:bG Go.Proofs.Tryz.prog 223 9 B4 DL=true:=by kernel_rfl
theorem OV{s:ab}{k:Nat}{Q:List AV→ab→Prop}(hn:k*56≤room)(hq:∀s' r',Sub s s'→gj s' r' ([]:List aa)→Q [gL r' 0] (fX s' r' ([]:List aa))):FN Go.Proofs.Tryz.prog 265 [.arr 0 0 0 0,.int .i64 k] s Q:=by
 have hr:room=140737488355328:=rfl
 refine FN.of (ay mix) O5 rfl (Nat.le_of_ble_eq_true rfl) ?_
 rw[J6,Hy]
 have h0:decide ((k:Int)<0)=false:=by simp
 have e00:((0:Nat):Int)=0:=rfl
 have w1:az 0=0:=by decide
 have w2:az (k:Int)=k:=aM (by omega) (by omega)
 simp -implicitDefEqProofs only[go_sem,start,ag,an,aA,aD,aB,aC,Nat.reduceBEq,Nat.reduceAdd,Nat.reduceMul,Nat.reduceLeDiff,Nat.reduceEqDiff,Nat.reduceBNe,Nat.ble_eq,UInt8.reduceToNat,UInt32.reduceToNat,h0,e00,w1,w2,Bool.true_eq_false,Bool.false_eq_true,false_implies,true_implies,true_and,and_true]
 refine⟨fun hk=>?_,fun hk=>?_⟩
 ·have hk:0<k:=by simpa using hk
  refine⟨Int.le_refl _,?_⟩
  refine Ew (n:=0) (cap:=0) (m:=k) (b:=0) (off:=0) (by':=56) (olds:=[]) rfl rfl rfl (by omega) (by omega) fun b' cap' hb' hc=>?_
  rw[List.nil_append]
  simp -implicitDefEqProofs only[go_sem,start,ag,an,aA,aD,aB,aC,Nat.reduceBEq,Nat.reduceAdd,Nat.reduceMul,Nat.reduceLeDiff,Nat.reduceEqDiff,Nat.reduceBNe,Nat.ble_eq,UInt8.reduceToNat,UInt32.reduceToNat]
  have:=hq s (some (b',cap',(List.replicate k [.int .i64 0,.int .i64 0,.str [],.sl false 4 0 []]).flatten++(List.replicate (cap' -(0+k)) [.int .i64 0,.int .i64 0,.str [],.sl false 4 0 []]).flatten)) (Sub.refl s)
   ⟨hb',by omega,by simp,by
     have e:(flat ([]:List aa)).length=0:=rfl
     rw[List.length_append,e,List.length_append]
     simp[show a8.w aa=4 from rfl]
     omega,by
     have hz:∀m,views (List.replicate m [AV.int .i64 0,.int .i64 0,.str [],.sl false 4 0 []]).flatten=(List.replicate m [AV.int .i64 0,.int .i64 0,.str [],.sl false 4 0 []]).flatten:=fun m=>by
      rw[show([.int .i64 0,.int .i64 0,.str [],.sl false 4 0 []]:List AV)=a8.cells (⟨0,0,⟨[]⟩,[]⟩:aa) from rfl,←mG]
      exact cm _
     unfold views at hz⊢
     rw[List.map_append,hz,hz]⟩
  simp only[Nat.zero_add]at this
  exact⟨⟨Int.le_refl _,Int.le_refl _,by omega⟩,this⟩
 ·have hk:k=0:=by
   have:¬(0<k):=by simpa using hk
   omega
  have:=hq s none (Sub.refl s) rfl
  first|exact this|trace_state
def Qa(ls:List VL)(q:Int×Int):Option ((Int×Int)⊕Int):=bif decide (q.2<ls.length)then some (.inl (q.1+(ix ls q.2).length,q.2+1))else some (.inr q.1)
theorem Qb(ls:List VL)(hl:ls.length<4611686018427387904):iter (Qa ls) (0,0)=some (ls.flatten.length:Int):=by
 refine GU ls.length (fun k=>((ls.take k).flatten.length:Int)) (by simp) hl (fun k hk=>?_) ?_
 ·unfold Qa
  have h1:decide ((k:Int)<ls.length)=true:=by simpa using hk
  have h2:ix ls (k:Int)=ls[k]:=by unfold ix;simp[hk]
  have h3:az ((k:Int)+1)=(k:Int)+1:=aM (by omega) (by omega)
  show(bif decide ((k:Int)<ls.length)then _ else _)=_
  rw[h1,cond_true,h2,h3,List.take_succ_eq_append_getElem hk,List.flatten_append,List.length_append]
  simp
 ·unfold Qa
  have h1:decide ((ls.length:Int)<ls.length)=false:=by simp
  show(bif decide ((ls.length:Int)<ls.length)then _ else _)=_
  rw[h1,cond_false,List.take_length]
def OF(ls:List VL)(q:List aa×Int):Option ((List aa×Int)⊕List aa):=bif decide (q.2<ls.length)then some (.inl (q.1++ix ls q.2,q.2+1))else some (.inr q.1)
theorem OG(ls:List VL)(hl:ls.length<4611686018427387904):iter (OF ls) ([],0)=some ls.flatten:=by
 refine GU ls.length (fun k=>(ls.take k).flatten) (by simp) hl (fun k hk=>?_) ?_
 ·unfold OF
  have h1:decide ((k:Int)<ls.length)=true:=by simpa using hk
  have h2:ix ls (k:Int)=ls[k]:=by unfold ix;simp[hk]
  have h3:az ((k:Int)+1)=(k:Int)+1:=aM (by omega) (by omega)
  show(bif decide ((k:Int)<ls.length)then _ else _)=_
  rw[h1,cond_true,h2,h3,List.take_succ_eq_append_getElem hk,List.flatten_append]
  simp
 ·unfold OF
  have h1:decide ((ls.length:Int)<ls.length)=false:=by simp
  show(bif decide ((ls.length:Int)<ls.length)then _ else _)=_
  rw[h1,cond_false,List.take_length]
theorem xe(ls:List VL)(k:Nat):(ls.take k).flatten.length≤ls.flatten.length:=by
 conv=>rhs;rw[←List.take_append_drop k ls]
 rw[List.flatten_append,List.length_append];omega
theorem KQ{s:ab}{rb cap:Nat}{sp:List AV}{ls:List VL}{Q:List AV→ab→Prop}(hs:s rb=none)(hpos:∀c∈ls,0<c.length)(hr:ls.flatten.length*56≤room)(hl:ls.length<2^40)
 (hq:∀s' r',Sub (s.set rb (.cells (flat ls++sp))) s'→gj s' r' ls.flatten→Q [gL r' ls.flatten.length] (fX s' r' ls.flatten)):FN Go.Proofs.Tryz.prog 226 [.arr rb 0 ls.length cap] (s.set rb (.cells (flat ls++sp))) Q:=by
 have hroom:room=140737488355328:=rfl
 refine FN.of (ay mix) Lb rfl (Nat.le_of_ble_eq_true rfl) ?_
 rw[DK,B3]
 simp -implicitDefEqProofs only[go_sem,start,ag,an,aA,aD,aB,aC,Nat.reduceBEq,Nat.reduceAdd,Nat.reduceMul,Nat.reduceLeDiff,Nat.reduceEqDiff,Nat.reduceBNe,Nat.ble_eq,UInt8.reduceToNat,UInt32.reduceToNat]
 generalize hcs:flat ls++sp=cs at*
 refine jJ (kf:=fun _=>True) (fun(q:Int×Int) τ=>∃k:Nat,k≤ls.length∧q=(((ls.take k).flatten.length:Int),(k:Int))∧τ=(⟨[(0,.arr rb 0 ls.length cap),(3,.int .i64 (ls.take k).flatten.length),(9,.arr rb 0 ls.length cap),(10,.int .i64 ls.length),(11,.int .i64 k)],[],s.set rb (.cells cs)⟩:St)) ⟨0,Nat.zero_le _,rfl,rfl⟩ ?_ ⟨_,Qb ls (by omega),trivial⟩
 rintro J q τ ⟨k,hk,rfl,rfl⟩ hb
 unfold Qa at hb
 by_cases h:k<ls.length
 ·have h1:decide ((k:Int)<ls.length)=true:=by simpa using h
  have h2:ix ls (k:Int)=ls[k]:=by unfold ix;simp[h]
  obtain⟨r1,r2⟩:=HB ls sp (j:=(k:Int)) (by omega) (by omega)
  rw[hcs,h2,Int.toNat_natCast]at r2
  rw[hcs,Int.toNat_natCast]at r1
  have d1:=decide_eq_true r1
  have le:=xe ls (k+1)
  rw[List.take_succ_eq_append_getElem h,List.flatten_append,List.length_append,List.flatten_cons,List.flatten_nil,List.append_nil]at le
  have w1:az (((ls.take k).flatten.length:Int)+(ls[k].length:Int))=((ls.take k).flatten.length:Int)+(ls[k].length:Int):=aM (by omega) (by omega)
  have w2:az ((k:Int)+1)=(k:Int)+1:=aM (by omega) (by omega)
  have h0:decide (((ls.take k).flatten.length:Int)+(ls[k].length:Int)<0)=false:=decide_eq_false (by omega)
  simp only[h1,cond_true,h2,bk,l3]at hb
  simp -implicitDefEqProofs only[go_sem,start,ag,an,aA,aD,aB,aC,Nat.reduceBEq,Nat.reduceAdd,Nat.reduceMul,Nat.reduceLeDiff,Nat.reduceEqDiff,Nat.reduceBNe,Nat.ble_eq,UInt8.reduceToNat,UInt32.reduceToNat,h1,r2,d1,w1,w2,h0,Bool.true_eq_false,Bool.false_eq_true,false_implies,true_implies,true_and,and_true]
  have fin:=hb _ ⟨k+1,h,by rw[List.take_succ_eq_append_getElem h,List.flatten_append,List.length_append];simp,rfl⟩
  rw[List.take_succ_eq_append_getElem h,List.flatten_append,List.length_append,List.flatten_cons,List.flatten_nil,List.append_nil]at fin
  have e1:(((ls.take k).flatten.length+ls[k].length:Nat):Int)=((ls.take k).flatten.length:Int)+(ls[k].length:Int):=by omega
  have e2:((k+1:Nat):Int)=(k:Int)+1:=by omega
  rw[e1,e2]at fin
  first|exact fin|(refine⟨?_,?_,fin⟩<;>omega)|(refine⟨?_,fin⟩;omega)|(refine⟨⟨?_,?_⟩,?_,fin⟩<;>omega)|trace_state
 ·have h1:decide ((k:Int)<ls.length)=false:=by simpa using h
  obtain rfl:k=ls.length:=by omega
  clear hb
  rw[List.take_length]
  simp -implicitDefEqProofs only[go_sem,start,ag,an,aA,aD,aB,aC,Nat.reduceBEq,Nat.reduceAdd,Nat.reduceMul,Nat.reduceLeDiff,Nat.reduceEqDiff,Nat.reduceBNe,Nat.ble_eq,UInt8.reduceToNat,UInt32.reduceToNat,h1,Bool.true_eq_false,Bool.false_eq_true,false_implies,true_implies,true_and,and_true]
  refine OV hr fun s1 r1 hs1 h1'=>?_
  simp -implicitDefEqProofs only[go_sem,start,ag,an,aA,aD,aB,aC,Nat.reduceBEq,Nat.reduceAdd,Nat.reduceMul,Nat.reduceLeDiff,Nat.reduceEqDiff,Nat.reduceBNe,Nat.ble_eq,UInt8.reduceToNat,UInt32.reduceToNat]
  have hq2:(s.set rb (.cells cs)) rb=some (.cells cs):=fC
  refine jJ (kf:=fun _=>True) (fun(q:List aa×Int) τ=>∃(k:Nat)(s':ab)(r':cN),k≤ls.length∧q=((ls.take k).flatten,(k:Int))∧Sub (s.set rb (.cells cs)) s'∧gj s' r' (ls.take k).flatten∧τ=(⟨[(6,gL r' (ls.take k).flatten.length),(25,.arr rb 0 ls.length cap),(26,.int .i64 ls.length),(27,.int .i64 k)],[],fX s' r' (ls.take k).flatten⟩:St)) ⟨0,s1,r1,Nat.zero_le _,rfl,hs1,h1',rfl⟩ ?_ ⟨_,OG ls (by omega),trivial⟩
  ·rintro J q τ ⟨k,s',r',hk,rfl,hs',h',rfl⟩ hb
   unfold OF at hb
   by_cases h:k<ls.length
   ·have h1:decide ((k:Int)<ls.length)=true:=by simpa using h
    have h2:ix ls (k:Int)=ls[k]:=by unfold ix;simp[h]
    obtain⟨r1,r2⟩:=HB ls sp (j:=(k:Int)) (by omega) (by omega)
    rw[hcs,h2,Int.toNat_natCast]at r2
    rw[hcs,Int.toNat_natCast]at r1
    have d1:=decide_eq_true r1
    have hrb:fX s' r' (ls.take k).flatten rb=some (.cells cs):=ie h' (hs' _ _ hq2)
    have w2:az ((k:Int)+1)=(k:Int)+1:=aM (by omega) (by omega)
    have le:=xe ls (k+1)
    have ek:ls.take (k+1)=ls.take k++[ls[k]]:=List.take_succ_eq_append_getElem h
    have ef:(ls.take (k+1)).flatten=(ls.take k).flatten++ls[k]:=by rw[ek,List.flatten_append];simp
    rw[ef,List.length_append]at le
    simp only[h1,cond_true,h2,bk,l3]at hb
    generalize c6:fX s' r' (ls.take k).flatten=st at hrb⊢
    simp -implicitDefEqProofs only[go_sem,start,ag,an,aA,aD,aB,aC,Nat.reduceBEq,Nat.reduceAdd,Nat.reduceMul,Nat.reduceLeDiff,Nat.reduceEqDiff,Nat.reduceBNe,Nat.ble_eq,UInt8.reduceToNat,UInt32.reduceToNat,h1,hrb,r2,d1,w2,Bool.true_eq_false,Bool.false_eq_true,false_implies,true_implies,true_and,and_true]
    first
     |refine⟨⟨by omega,by omega⟩,r1,?_⟩
     |refine⟨by omega,?_⟩
     |skip
    rw[kL,cm]
    refine Gc (by':=56) (s:=s') (r:=r') (l:=(ls.take k).flatten) (x:=ls[k]) (z:=(⟨0,0,⟨[]⟩,[]⟩:aa)) (by exact c6.symm) h' rfl (hpos _ (List.getElem_mem h)) (by omega) fun s2 r2' hs2 h2'=>?_
    simp -implicitDefEqProofs only[go_sem,start,ag,an,aA,aD,aB,aC,Nat.reduceBEq,Nat.reduceAdd,Nat.reduceMul,Nat.reduceLeDiff,Nat.reduceEqDiff,Nat.reduceBNe,Nat.ble_eq,UInt8.reduceToNat,UInt32.reduceToNat,w2]
    have fin:=hb _ ⟨k+1,s2,r2',h,by rw[ef];rfl,(fun b o hb=>hs2 b o (hs' b o hb)),by rw[ef];exact h2',rfl⟩
    rw[ef,List.length_append]at fin
    have e2:((k+1:Nat):Int)=(k:Int)+1:=by omega
    rw[e2]at fin
    exact fin
   ·have h1:decide ((k:Int)<ls.length)=false:=by simpa using h
    obtain rfl:k=ls.length:=by omega
    clear hb
    rw[List.take_length]at h'⊢
    simp -implicitDefEqProofs only[go_sem,start,ag,an,aA,aD,aB,aC,Nat.reduceBEq,Nat.reduceAdd,Nat.reduceMul,Nat.reduceLeDiff,Nat.reduceEqDiff,Nat.reduceBNe,Nat.ble_eq,UInt8.reduceToNat,UInt32.reduceToNat,h1,Bool.true_eq_false,Bool.false_eq_true,false_implies,true_implies,true_and,and_true]
    first|exact hq s' r' hs' h'|trace_state
theorem D5:iter (fun _:Unit=>(some (.inr ()):Option (Unit⊕Unit))) ()=some ():=kp 0 (fun _=>()) rfl (by decide) (fun k hk=>by omega) rfl
theorem P8{s:ab}{rb cap:Nat}{sp:List AV}{l:List VL}{Q:List AV→ab→Prop}(hs:s rb=none)(hl:l.length<20)
 (hm:ok (K8 l 0 l.length) fun l'=>Q [] (s.set rb (.cells (flat l'++sp)))):FN Go.Proofs.Tryz.prog 263 [.arr rb 0 l.length cap,.int .i64 l.length,.fn 224 [] []] (s.set rb (.cells (flat l++sp))) Q:=by
 have hroom:room=140737488355328:=rfl
 refine FN.of (ay mix) O6 rfl (Nat.le_of_ble_eq_true rfl) ?_
 rw[J7,Hz]
 have h1:decide ((20:Int)≤l.length)=false:=decide_eq_false (by omega)
 have h2:decide ((20:Int)<l.length)=false:=decide_eq_false (by omega)
 simp -implicitDefEqProofs only[go_sem,start,ag,an,aA,aD,aB,aC,Nat.reduceBEq,Nat.reduceAdd,Nat.reduceMul,Nat.reduceLeDiff,Nat.reduceEqDiff,Nat.reduceBNe,Nat.ble_eq,UInt8.reduceToNat,UInt32.reduceToNat]
 refine dp (fun(_:Unit)=>(⟨[(0,.arr rb 0 l.length cap),(1,.int .i64 l.length),(2,.fn 224 [] []),(6,.int .i64 20),(7,.int .i64 0),(8,.int .i64 20)],[],s.set rb (.cells (flat l++sp))⟩:St)) rfl ?_ (⟨_,D5,trivial⟩:ok _ fun _=>True)
 intro J _ hb
 clear hb
 simp -implicitDefEqProofs only[go_sem,start,ag,an,aA,aD,aB,aC,Nat.reduceBEq,Nat.reduceAdd,Nat.reduceMul,Nat.reduceLeDiff,Nat.reduceEqDiff,Nat.reduceBNe,Nat.ble_eq,UInt8.reduceToNat,UInt32.reduceToNat,h1,Bool.true_eq_false,Bool.false_eq_true,false_implies,true_implies,true_and,and_true]
 refine Sj hs ⟨by decide,by decide⟩ (by omega) (aS hm fun l' h'=>?_)
 simp -implicitDefEqProofs only[go_sem,start,ag,an,aA,aD,aB,aC,Nat.reduceBEq,Nat.reduceAdd,Nat.reduceMul,Nat.reduceLeDiff,Nat.reduceEqDiff,Nat.reduceBNe,Nat.ble_eq,UInt8.reduceToNat,UInt32.reduceToNat]
 refine dp (fun(_:Unit)=>(⟨[(0,.arr rb 0 l.length cap),(1,.int .i64 l.length),(2,.fn 224 [] []),(6,.int .i64 20)],[],s.set rb (.cells (flat l'++sp))⟩:St)) rfl ?_ (⟨_,D5,trivial⟩:ok _ fun _=>True)
 intro J _ hb
 clear hb
 simp -implicitDefEqProofs only[go_sem,start,ag,an,aA,aD,aB,aC,Nat.reduceBEq,Nat.reduceAdd,Nat.reduceMul,Nat.reduceLeDiff,Nat.reduceEqDiff,Nat.reduceBNe,Nat.ble_eq,UInt8.reduceToNat,UInt32.reduceToNat,h2,Bool.true_eq_false,Bool.false_eq_true,false_implies,true_implies,true_and,and_true]
 exact h'
theorem LH{s:ab}{rb cap:Nat}{sp:List AV}{l:List VL}{Q:List AV→ab→Prop}(hs:s rb=none)(hl:l.length<20)
 (hm:ok (K8 l 0 l.length) fun l'=>Q [] (s.set rb (.cells (flat l'++sp)))):FN Go.Proofs.Tryz.prog 223 [.arr rb 0 l.length cap,.fn 224 [] []] (s.set rb (.cells (flat l++sp))) Q:=by
 refine FN.of (ay mix) Lc rfl (Nat.le_of_ble_eq_true rfl) ?_
 rw[DL,B4]
 simp -implicitDefEqProofs only[go_sem,start,ag,an,aA,aD,aB,aC,Nat.reduceBEq,Nat.reduceAdd,Nat.reduceMul,Nat.reduceLeDiff,Nat.reduceEqDiff,Nat.reduceBNe,Nat.ble_eq,UInt8.reduceToNat,UInt32.reduceToNat]
 refine P8 hs hl (aS hm fun l' h'=>?_)
 simp -implicitDefEqProofs only[go_sem,start,ag,an,aA,aD,aB,aC,Nat.reduceBEq,Nat.reduceAdd,Nat.reduceMul,Nat.reduceLeDiff,Nat.reduceEqDiff,Nat.reduceBNe,Nat.ble_eq,UInt8.reduceToNat,UInt32.reduceToNat]
 exact h'
end Go.AB
end
section
set_option maxRecDepth 4000
namespace Go.AB
open Go
attribute[-go_sem] dv eu cV du
def iB(t_0:aF)(c_1:aL):Option (Bool):=some ((t_0.Kind==6)&&(t_0.S.b==c_1.b))
def qq:IC:=
 (aj [i1 2 (.lZ 8 (.t 0)),dT 3 (.bool false)] [1,2]
 (aj [fa 4 0 2,ld 5 1 4,bn 6 .eql 5 6,mv 7 6,fg 8 7 true 7 2,lg 9 7 true 1 8,cQ 10 7 true (.bW [.str []] false (.t 1)),Ap 11 7 true .eql 9 10,pf 12 7 11,mv 3 12] [3]
 .ret))
def pj:List bj:=[⟨3,true,none⟩]
theorem zf:bG Go.Proofs.Tryz.prog 125 13 pj qq=true:=by kernel_rfl
theorem zt{t_0 c_1}{B1:Nat}{s:ab}{Q:List AV→ab→Prop}(hB1:s B1=some (.cells [.str c_1.b])):ok (iB t_0 c_1) (fun r=>Q [.bool r] s)→FN Go.Proofs.Tryz.prog 125 [.agg [.int .i64 t_0.Kind,.int .i64 t_0.bP,.int .i64 t_0.To,.int .i64 t_0.V.Kind,.int .i64 t_0.V.N,.str t_0.V.S.b,.sl false 4 t_0.V.L.length (flat t_0.V.L),.str t_0.S.b],.ref B1 0] s Q:=by
 have hS:s=(s.set B1 (.cells [.str c_1.b])):=by simp only[fu hB1]
 rw[hS]
 intro h
 refine FN.of (ay mix) zf rfl (Nat.le_of_ble_eq_true rfl) ?_
 revert h
 rw[qq,pj,iB]
 repeat'(first
  |with_reducible exact bI
  |with_reducible refine aU ?_ ?_
  |with_reducible exact aV
  |with_reducible refine bN ?_
  |simp -implicitDefEqProofs only[go_sem,seval])
theorem qB{t_0 c_1}{B1:Nat}{s:ab}{r:Bool}(hB1:s B1=some (.cells [.str c_1.b]))(h:iB t_0 c_1=some r):FE Go.Proofs.Tryz.prog 125 [.agg [.int .i64 t_0.Kind,.int .i64 t_0.bP,.int .i64 t_0.To,.int .i64 t_0.V.Kind,.int .i64 t_0.V.N,.str t_0.V.S.b,.sl false 4 t_0.V.L.length (flat t_0.V.L),.str t_0.S.b],.ref B1 0] s [.bool r] s:=zt hB1 ⟨r,h,rfl,rfl⟩
def jo(b_0:(List UInt8))(at_1:Int)(last_2:Bool)(c3_0:aL):Option (aF×Int):=
 cj (bQ b_0 at_1 last_2) fun r1=>
 if r1.2 !=0 then
  some ((aF.mk 0 0 0 (aa.mk 0 0 (aL.mk []) ([]:List aa)) (aL.mk [])),r1.2)
 else
  if r1.1.Kind==0 then
   some ((aF.mk 0 0 0 (aa.mk 0 0 (aL.mk []) ([]:List aa)) (aL.mk [])),10)
  else
   cj (iB r1.1 c3_0) fun r2=>
   if !r2 then
    some ((aF.mk 0 0 0 (aa.mk 0 0 (aL.mk []) ([]:List aa)) (aL.mk [])),11)
   else
    some (r1.1,0)
theorem rF:(vS Go.Proofs.Tryz.prog 125=true)=True:=eq_true (by kernel_rfl)
def tU:IC:=
 (aj [i1 8 (.aQ jY),mi 9 0] [0,1,2,3,8]
 (aj [mt 13 0,mv 14 1,mv 15 2,c3 16 127 13 14 15,lj 12 16,ex 17 12 0,ex 18 12 1,i1 10 (.aQ jY),st 8 10 17,mv 11 18] [3,8,10,11]
 (.seq (.block 0 (aj [mv 20 11,bn 21 .neq 20 0,mv 19 21] [3,8,10,11,19]
 (.cond (.t 19) (aj [i1 22 (.build jY []),mv 23 11,st 8 8 22,mv 9 23] [8,9]
 .ret)
 (aj [fa 25 0 10,ld 26 1 25,bn 27 .eql 26 0,mv 24 27] [3,8,10,24]
 (.cond (.t 24) (aj [i1 28 (.build jY []),st 8 8 28,mi 9 10] [8,9]
 .ret)
 (aj [mv 30 3,lm 31 8 10,i1 32 (.eC (.t 30) [(.t 31)]),no 33 32,mv 29 33] [8,10,29]
 (.cond (.t 29) (aj [i1 34 (.build jY []),st 8 8 34,mi 9 11] [8,9]
 .ret)
 .skip)))))))
 (aj [lm 35 8 10,st 8 8 35,mi 9 0] [8,9]
 .ret))))
def sB:List bj:=[⟨8,false,some (8,true)⟩,⟨9,true,none⟩]
theorem CQ:bG Go.Proofs.Tryz.prog 123 36 sB tU=true:=by kernel_rfl
theorem C8{b_0 at_1 last_2 c3_0}{B3_0:Nat}{s:ab}{Q:List AV→ab→Prop}(hB3_0:s B3_0=some (.cells [.str c3_0.b])):ok (jo b_0 at_1 last_2 c3_0) (fun r=>Q [.agg [.int .i64 r.1.Kind,.int .i64 r.1.bP,.int .i64 r.1.To,.int .i64 r.1.V.Kind,.int .i64 r.1.V.N,.str r.1.V.S.b,.sl false 4 r.1.V.L.length (flat r.1.V.L),.str r.1.S.b],.int .i64 r.2] s)→FN Go.Proofs.Tryz.prog 123 [.sl false 1 b_0.length (flat b_0),.int .i64 at_1,.bool last_2,.fn 125 [] [.ref B3_0 0]] s Q:=by
 have hS:s=(s.set B3_0 (.cells [.str c3_0.b])):=by simp only[fu hB3_0]
 rw[hS]
 intro h
 refine FN.of (ay mix) CQ rfl (Nat.le_of_ble_eq_true rfl) ?_
 revert h
 rw[tU,sB,jo]
 repeat'(first
  |with_reducible exact bI
  |with_reducible refine aU ?_ ?_
  |with_reducible exact aV
  |with_reducible refine bN ?_
  |with_reducible refine ak (fun _(h:bQ b_0 at_1 last_2=some _)=>bZ h) (fun r1=>?_)
  |with_reducible refine ae (fun _(h:bQ b_0 at_1 last_2=some _)=>bZ h) (fun _=>rfl) (fun r1=>?_)
  |with_reducible refine ak (fun _(h:bQ b_0 at_1 last_2=some _)=>(by refine al ?_ (bZ h);simp -implicitDefEqProofs only[go_sem,seval,rF])) (fun r1=>?_)
  |with_reducible refine ae (fun _(h:bQ b_0 at_1 last_2=some _)=>(by refine al ?_ (bZ h);simp -implicitDefEqProofs only[go_sem,seval,rF])) (fun _=>rfl) (fun r1=>?_)
  |with_reducible refine ak (fun _(h:iB r1.1 c3_0=some _)=>qB (B1:=B3_0) (by simp -implicitDefEqProofs only[go_sem,seval,rF]<;>simp only[aH]) h) (fun r2=>?_)
  |with_reducible refine ae (fun _(h:iB r1.1 c3_0=some _)=>qB (B1:=B3_0) (by simp -implicitDefEqProofs only[go_sem,seval,rF]<;>simp only[aH]) h) (fun _=>rfl) (fun r2=>?_)
  |simp -implicitDefEqProofs only[go_sem,seval,rF])
theorem ui{b_0 at_1 last_2 c3_0}{B3_0:Nat}{s:ab}{r:aF×Int}(hB3_0:s B3_0=some (.cells [.str c3_0.b]))(h:jo b_0 at_1 last_2 c3_0=some r):FE Go.Proofs.Tryz.prog 123 [.sl false 1 b_0.length (flat b_0),.int .i64 at_1,.bool last_2,.fn 125 [] [.ref B3_0 0]] s [.agg [.int .i64 r.1.Kind,.int .i64 r.1.bP,.int .i64 r.1.To,.int .i64 r.1.V.Kind,.int .i64 r.1.V.N,.str r.1.V.S.b,.sl false 4 r.1.V.L.length (flat r.1.V.L),.str r.1.S.b],.int .i64 r.2] s:=C8 hB3_0 ⟨r,h,rfl,rfl⟩
def fS(b_0:(List UInt8))(at_1:Int)(last_2:Bool)(word_3:aL):Option (Int×Int):=
 cj (jo b_0 at_1 last_2 word_3) fun r1=>
 some (r1.1.To,r1.2)
def tS:IC:=
 (aj [i1 7 (.qU 1 (.t 3)),mi 8 0,mi 9 0] [0,1,2,7]
 (aj [mt 13 0,mv 14 1,mv 15 2,i1 16 (.lC 125 [] [(.t 7)]),Ou 17 123 13 14 15 16,lj 12 17,ex 18 12 0,ex 19 12 1,i1 10 (.aQ jY),st 8 10 18,mv 11 19] [10,11]
 (aj [fa 20 2 10,ld 21 1 20,mv 22 11,mv 8 21,mv 9 22] [8,9]
 .ret)))
def sy:List bj:=[⟨8,true,none⟩,⟨9,true,none⟩]
theorem CO:bG Go.Proofs.Tryz.prog 70 23 sy tS=true:=by kernel_rfl
theorem C6{b_0 at_1 last_2 word_3}{s:ab}{Q:List AV→ab→Prop}:ok (fS b_0 at_1 last_2 word_3) (fun r=>Q [.int .i64 r.1,.int .i64 r.2] s)→FN Go.Proofs.Tryz.prog 70 [.sl false 1 b_0.length (flat b_0),.int .i64 at_1,.bool last_2,.str word_3.b] s Q:=by
 intro h
 refine FN.forget ?_
 refine FN.of (ay mix) CO rfl (Nat.le_of_ble_eq_true rfl) ?_
 revert h
 rw[tS,sy,fS]
 repeat'(first
  |with_reducible exact bI
  |with_reducible refine aU ?_ ?_
  |with_reducible exact aV
  |with_reducible refine bN ?_
  |with_reducible refine ak (fun _(h:jo b_0 at_1 last_2 word_3=some _)=>ui (B3_0:=N1) (by simp -implicitDefEqProofs only[go_sem,seval]<;>simp only[aH]) h) (fun r1=>?_)
  |with_reducible refine ae (fun _(h:jo b_0 at_1 last_2 word_3=some _)=>ui (B3_0:=N1) (by simp -implicitDefEqProofs only[go_sem,seval]<;>simp only[aH]) h) (fun _=>rfl) (fun r1=>?_)
  |((fail_if_success (have _x:=sN1));with_reducible intro hh N1 hN1;(try simp only[gr]at hN1);have sN1:=hN1;revert hh)
  |with_reducible exact fun hh=>⟨_,pG.set (pG.refl _) (by simp[ab.set,sN1]),hh⟩
  |with_reducible exact fun hh=>⟨_,pG.refl _,hh⟩
  |simp -implicitDefEqProofs only[go_sem,seval]
  |simp -implicitDefEqProofs only[go_sem,seval])
theorem kE{b_0 at_1 last_2 word_3}{s:ab}{r:Int×Int}(h:fS b_0 at_1 last_2 word_3=some r):FE Go.Proofs.Tryz.prog 70 [.sl false 1 b_0.length (flat b_0),.int .i64 at_1,.bool last_2,.str word_3.b] s [.int .i64 r.1,.int .i64 r.2] s:=C6 ⟨r,h,rfl,rfl⟩
end Go.AB
end
