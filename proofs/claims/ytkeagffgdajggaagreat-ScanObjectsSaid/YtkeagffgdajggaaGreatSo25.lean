/- A part of the proof: Sc, Fw, Val1, Val2, Vo0, Sn, Vq0. -/
import Derived.Test.YtkeagffgdajggaaGreatSo14
import Derived.Test.YtkeagffgdajggaaGreatSo24
import Derived.Test.YtkeagffgdajggaaGreatSo12
import Derived.Test.YtkeagffgdajggaaGreatSo17
import Derived.Test.YtkeagffgdajggaaGreatSo23
import Derived.Test.YtkeagffgdajggaaGreatSo11
import Derived.Test.YtkeagffgdajggaaGreatSo18
import Derived.Test.YtkeagffgdajggaaGreatSo19
import Derived.Test.YtkeagffgdajggaaGreatSo20
set_option linter.unusedSimpArgs false
set_option linter.unusedVariables false
section
set_option maxRecDepth 4000
namespace Go.AB
open Go
attribute[-go_sem] Nat.add_zero pN dc
def rI:IC:=
 (aj [i1 6 (.iT true (.c (.sl true 1 0 []))),dT 7 (.bool false)] [0,1,2]
 (.seq (aj [mv 13 0,c1 14 116 13,no 15 14,mv 16 15,b6 17 1 16 false,jz 18 16 false .lss 17 0,po 19 16 18,mv 20 19,b6 21 1 20 false,b6 22 0 20 false,cQ 23 20 false (.nilCheck (.t 22)),fg 24 20 false 1 23,lg 25 20 false 1 24,Ap 26 20 false .gtr 21 25,po 27 20 26,mv 28 27,b6 29 2 28 false,jz 30 28 false .lss 29 0,po 31 28 30] [0,1,2,31]
 (.cond (.t 31) (aj [i1 6 (.iT true (.c (.sl true 1 0 []))),dT 7 (.bool false)] [6,7]
 .ret)
 .skip))
 (aj [mv 32 2,mv 33 0,nc 34 33,fa 35 2 34,mv 36 1,c2 37 117 35 36,mv 38 1,bt 39 .sub 37 38,i1 40 (.hZ false [(.t 32),(.t 39)]),mv 8 40] [0,1,8]
 (aj [mv 41 8,i1 42 (.gE 1 1 [.int .u8 0] (.c (.int .i64 0)) (.t 41)),mt 9 42] [0,1,8,9]
 (.seq (.block 0 (.loop [(0,false),(1,false),(8,false),(9,false)] (.seq (aj [mv 43 9,le 44 0 43,mv 45 8,bt 46 .lss 44 45] [0,1,8,9,46]
 (.cond (.t 46) .skip
 (.exit 0)))
 (.block 1 (aj [mv 47 1,mv 48 9,le 49 0 48,bt 50 .add 47 49,bn 51 .quo 50 4096,mv 52 1,mv 53 9,le 54 0 53,bt 55 .add 52 54,bn 56 .rem 55 4096,mv 10 51,mv 11 56] [0,1,8,9,10,11]
 (aj [mv 57 0,nc 58 57,fa 59 3 58,ld 60 1 59,mv 61 10,i1 62 (.lookup (.int .i64) (.sl false 1 0 []) false (.t 60) (.t 61)),mv 63 11,Vc 64 1 62 63,mt 12 64] [0,1,8,9,12]
 (.cU none [mt 65 9,mv 66 12,mt 67 12,le 68 0 67,mv 69 8,mt 70 9,le 71 0 70,bt 72 .sub 69 71,i1 73 (.hZ false [(.t 68),(.t 72)]),Ts 74 1 66 73,i1 75 (.gh 1 1 [.int .u8 0] (.t 65) (.t 74)),mt 9 75] [0,1,8,9])))))))
 (.seq (.cU (some 11) [mv 76 9,mv 77 1,mv 78 8,bt 79 .add 77 78,mv 80 0,nc 81 80,fa 82 1 81,ld 83 1 82,bt 84 .eql 79 83,mv 6 76,mv 7 84] [6,7])
 .ret))))))
def qD:List bj:=[⟨6,true,none⟩,⟨7,true,none⟩]
theorem Ba:bG Go.Proofs.Tryz.prog 61 85 qD rI=true:=by kernel_rfl
def NM(m:LQ)(at_ n:Int):List UInt8→Option (List UInt8⊕List UInt8):=fun out=>
 if decide ((out.length:Int)<n)then
  bq ((m (az ((az (at_+out.length)).tdiv 4096))).isSome=true)<|
  some (.inl (out++(((m (az ((az (at_+out.length)).tdiv 4096))).getD []).drop ((az (at_+out.length)).tmod 4096).toNat).take (min (4096 -((az (at_+out.length)).tmod 4096).toNat) (n -out.length).toNat)))
 else some (.inr out)
def nn(g:oB)(at_ most:Int):Option (List UInt8×Bool):=
 if(decide (at_<0)||decide (at_>g.total))||decide (most<0)then some ([],false)
 else
  cj (Ax g.known at_) fun u=>
  bq (at_≤u∧u≤g.total)<|
  cj (iter (NM g.s6 at_ (min most (u -at_))) []) fun out=>
  some (out,az (at_+min most (u -at_))==g.total)
theorem M3{es:List (AV×AV)}{n:Int}{b:Nat}(h:KI es)(e:fw (.int .i64 n) es=some (.arr b 0 4096 4096)):tk (.int .i64) (.sl false 1 0 []) false (.int .i64 n) (some (.map es))=.prt True (.arr b 0 4096 4096):=by
 show LS false (fL (.int .i64) (.int .i64 n)=true∧mO (.int .i64) es=true) (uh (.sl false 1 0 []) false (fw (.int .i64 n) es))=_
 rw[e,h.keys]
 show PR.prt (true=true∧true=true) _=_
 simp[uh,Jc,view]
theorem Ay{s0 s:ab}{B:Nat}{g:oB}{a most:Int}{Q:List AV→ab→Prop}(h:eO s0 s B g)(ht:g.total≤2147483647):ok (nn g a most) (fun x=>(x.1=[]→x.2=false→Q [.sl true 1 0 [],.bool false] s)∧(x.1=[]→∀b,s b=none→Q [.arr b 0 0 0,.bool x.2] (s.set b (.cells [])))∧∀r s',Sub s s'→gj s' r x.1→Q [gL r x.1.length,.bool x.2] (fX s' r x.1))→FN Go.Proofs.Tryz.prog 61 [.ref B 0,.int .i64 a,.int .i64 most] s Q:=by
 intro hh
 refine FN.qg (FN.of (ay mix) Ba rfl (Nat.le_of_ble_eq_true rfl) ?_)
 rw[rI,qD]
 simp -implicitDefEqProofs only[go_sem,start,ag,an,aA,aD,aB,aC,Nat.reduceBEq,Nat.reduceAdd,Nat.reduceMul,Nat.reduceLeDiff,Nat.reduceEqDiff,Nat.reduceBNe,Nat.ble_eq,UInt8.reduceToNat,UInt32.reduceToNat]
 refine pE h ?_
 obtain⟨cs,hs,hset⟩:=h.setAt
 obtain⟨q1,q2,M,es,q3,q4,q5,q6,q7,q8⟩:=id h
 revert hh
 rw[nn]
 simp -implicitDefEqProofs only[go_sem,start,ag,an,aA,aD,aB,aC,Nat.reduceBEq,Nat.reduceAdd,Nat.reduceMul,Nat.reduceLeDiff,Nat.reduceEqDiff,Nat.reduceBNe,Nat.ble_eq,UInt8.reduceToNat,UInt32.reduceToNat,q3]
 rintro⟨w1,w2⟩
 refine⟨fun hc=>⟨s,Sub.refl s,(w1 hc).1 trivial trivial⟩,fun hc=>?_⟩
 obtain⟨u,hu,⟨hu1,hu2⟩,hh⟩:=w2 hc
 clear w1 w2
 have hc1:0≤a∧a≤g.total∧0≤most:=by simp at hc;omega
 refine F7 hs ⟨u,hu,?_⟩
 simp -implicitDefEqProofs only[go_sem,start,ag,an,aA,aD,aB,aC,Nat.reduceBEq,Nat.reduceAdd,Nat.reduceMul,Nat.reduceLeDiff,Nat.reduceEqDiff,Nat.reduceBNe,Nat.ble_eq,UInt8.reduceToNat,UInt32.reduceToNat,q3]
 rw[aM (n:=u -a) (by omega) (by omega)]
 generalize hn:min most (u -a)=n at hh⊢
 have hn0:0≤n∧a+n≤g.total:=by omega
 revert hh
 refine fun hh=>⟨Int.le_refl 0,hn0.1,by unfold room;omega,fun b hb=>?_⟩
 by_cases hz:n=0
 ·subst hz
  revert hh
  refine jJ (fun out τ=>out=[]∧τ=⟨[(0,.ref B 0),(1,.int .i64 a),(8,.int .i64 0),(9,.arr b 0 0 0)],[],s.set b (.cells [])⟩) ⟨rfl,rfl⟩ ?_
  rintro J out τ ⟨rfl,rfl⟩
  have nB:B≠b:=fun e=>by rw[←e,q3]at hb;cases hb
  have p3:(s.set b (.cells [])) B=_:=(bD nB).trans q3
  rw[NM]
  simp -implicitDefEqProofs only[go_sem,start,ag,an,aA,aD,aB,aC,Nat.reduceBEq,Nat.reduceAdd,Nat.reduceMul,Nat.reduceLeDiff,Nat.reduceEqDiff,Nat.reduceBNe,Nat.ble_eq,UInt8.reduceToNat,UInt32.reduceToNat,p3]
  rintro⟨_,w2⟩
  exact⟨fun h=>(by simp at h),fun h=>⟨_,Sub.refl _,(w2 h).2.1 trivial b hb⟩⟩
 revert hh
 refine jJ (fun out τ=>(out.length:Int)≤n∧∃(s':ab)(r:cN),τ=⟨[(0,.ref B 0),(1,.int .i64 a),(8,.int .i64 n),(9,gL r out.length)],[],fX s' r out⟩∧Sub s s'∧gj s' r out) ⟨by simp;omega,s,some (b,n.toNat,flat (List.replicate n.toNat (0:UInt8))),rfl,Sub.refl s,(show gj s (some (b,n.toNat,flat (List.replicate n.toNat (0:UInt8)))) ([]:List UInt8) from⟨hb,by omega,by simp,by show((flat ([]:List UInt8))++flat (List.replicate n.toNat (0:UInt8))).length=_;rw[rD,List.nil_append,aK,List.length_replicate],cm _⟩)⟩ ?_
 rintro J out τ ⟨hl,s',r,rfl,hsub,hok⟩
 have p3:=ie hok (hsub _ _ q3)
 have p5:=ie hok (hsub _ _ q5)
 rw[NM]
 simp -implicitDefEqProofs only[go_sem,start,ag,an,aA,aD,aB,aC,Nat.reduceBEq,Nat.reduceAdd,Nat.reduceMul,Nat.reduceLeDiff,Nat.reduceEqDiff,Nat.reduceBNe,Nat.ble_eq,UInt8.reduceToNat,UInt32.reduceToNat,p3,p5]
 rintro⟨w1,w2⟩
 refine⟨fun hc=>⟨by decide,by decide,?_⟩,fun hc=>?_⟩
 ·obtain⟨hsome,w1⟩:=w1 hc
  have hc':(out.length:Int)<n:=by simpa using hc
  have wA:az (a+out.length)=a+out.length:=aM (by omega) (by omega)
  rw[wA]at hsome w1⊢
  have hm:0≤(a+(out.length:Int)).tmod 4096:=Int.tmod_nonneg _ (by omega)
  have hm2:(a+(out.length:Int)).tmod 4096<4096:=Int.tmod_lt_of_pos _ (by decide)
  have q7':=q7 (az ((a+(out.length:Int)).tdiv 4096))
  cases hmk:g.s6 (az ((a+(out.length:Int)).tdiv 4096))with
  |none=>rw[hmk]at hsome;cases hsome
  |some c=>
   rw[hmk]at q7' w1
   obtain⟨c1,b',c2,c3,c4⟩:=q7'
   rw[M3 q6 c2]
   simp -implicitDefEqProofs only[go_sem,start,ag,an,aA,aD,aB,aC,Nat.reduceBEq,Nat.reduceAdd,Nat.reduceMul,Nat.reduceLeDiff,Nat.reduceEqDiff,Nat.reduceBNe,Nat.ble_eq,UInt8.reduceToNat,UInt32.reduceToNat]
   rw[aM (n:=n -out.length) (by omega) (by omega)]
   generalize hT:(a+(out.length:Int)).tmod 4096=T at hm hm2 w1⊢
   refine⟨⟨hm,by omega,by omega⟩,⟨by omega,by omega,by omega⟩,?_⟩
   have hnb:fX s' r out b'=some (.cells (flat c)):=ie hok (hsub _ _ c4)
   have hf:(flat c).length=4096:=by rw[aK,c1];rfl
   have e1:(min ((4096 -T).toNat:Int) (n -out.length)).toNat=min (4096 -T.toNat) (n -out.length).toNat:=by omega
   rw[e1,AA (by omega),NZ hnb (by omega)]
   have hsub2:=jF c 1 T.toNat (min (4096 -T.toNat) (n -out.length).toNat) rfl
   rw[Nat.mul_one]at hsub2
   rw[hsub2,cm]
   have hxl:((c.drop T.toNat).take (min (4096 -T.toNat) (n -out.length).toNat)).length=min (4096 -T.toNat) (n -out.length).toNat:=by rw[List.length_take,List.length_drop];omega
   have happ:=Gc (σ:=?_) (d:=?_) (K:=?_) (by':=1) (z:=(0:UInt8)) (x:=(c.drop T.toNat).take (min (4096 -T.toNat) (n -out.length).toNat)) (s:=s') (r:=r) (l:=out) (sz:=1) ?_ hok rfl (by rw[hxl];omega) (by rw[hxl];unfold room;omega) ?_
   ·rw[hxl]at happ
    exact happ
   ·rfl
   ·intro s2 r' g1 g2
    simp -implicitDefEqProofs only[go_sem,start,ag,an,aA,aD,aB,aC,Nat.reduceBEq,Nat.reduceAdd,Nat.reduceMul,Nat.reduceLeDiff,Nat.reduceEqDiff,Nat.reduceBNe,Nat.ble_eq,UInt8.reduceToNat,UInt32.reduceToNat]
    refine w1 _ ⟨?_,s2,r',rfl,fun b o hb=>g1 b o (hsub b o hb),g2⟩
    have hxl':(List.take (min (4096 -T.toNat) (n -out.length).toNat) (List.drop T.toNat ((some c).getD []))).length=min (4096 -T.toNat) (n -out.length).toNat:=hxl
    rw[hxl']
    omega
 ·have w2:=(w2 hc).2.2 r s' hsub hok
  exact⟨_,Sub.refl _,w2⟩
theorem P3{G:Gh}{w:World}{s s2:ab}{n sz:Nat}{cs:List AV}{x:Bool}{v:Value}{r:List AV}(hg:b9 G w)(hs:aW G w s)(hl2:cs.length=n*sz)(hvw:views cs=cs)
 (h:(∃b cap sp,r=[.arr b 0 n cap,.bool x]∧s b=some (.cells (cs++sp))∧0<cap∧n≤cap∧(cs++sp).length=cap*sz∧Sub s2 (s.del b))∨(n=0∧cs=[]∧Sub s2 s∧∃b,r=[.arr b 0 0 0,.bool x]))(hr:ni G w r v):
 ∃G2,lx G G2∧b9 G2 w∧aW G2 w s2∧ni G2 w [.sl true sz n cs,.bool x] v:=by
 have two:∀{a:AV}{v:Value},ni G w [a,.bool x] v→∃y0:Value,v=.tuple #[y0,.bool x]∧VR w G.R a y0∧df G w (.res 0) a y0:=by
  intro a v hr
  obtain⟨ys,rfl,hz,hc⟩:=hr
  have h2:ys.size=2:=hz
  have e0:=hc 0 a ys[0] rfl (by simp)
  have e1:=hc 1 (.bool x) ys[1] rfl (by simp)
  have e2:=VR.gm e1.1
  refine⟨ys[0],?_,e0.1,e0.2⟩
  congr 1
  apply Array.ext
  ·simp[h2]
  ·intro i h3 h4
   match i,h3 with
   |0,_=>rfl
   |1,_=>exact e2
   |i+2,h3=>omega
 have fin:∀{G2:Gh}{y0:Value},ni G2 w [.sl true sz n cs] y0→ni G2 w [.sl true sz n cs,.bool x] (.tuple #[y0,.bool x]):=by
  intro G2 y0 h
  refine⟨_,rfl,rfl,fun j a y hj hy=>?_⟩
  match j,hj with
  |0,hj=>cases hj;cases hy;exact h
  |1,hj=>cases hj;cases hy;exact⟨.bool _,trivial⟩
 rcases h with⟨b,cap,sp,rfl,hb,hc,hn,hl,hsub⟩|⟨rfl,rfl,hsub,b,rfl⟩
 ·obtain⟨y0,rfl,k0,k0'⟩:=two hr
  obtain⟨G2,k1,k2,k3,k4⟩:=Ki (v:=y0) hs hg hb hc hn hl hl2 hvw ⟨k0,k0'⟩
  exact⟨G2,k1,k2,k3.sub hsub,fin k4⟩
 ·obtain⟨y0,rfl,k0,k0'⟩:=two hr
  exact⟨G,lx.refl G,hg,hs.sub hsub,fin (Hl (b:=b) ⟨k0,k0'⟩)⟩
theorem Az{s0 s:ab}{B:Nat}{g:oB}{a most:Int}{r:List UInt8×Bool}(h:eO s0 s B g)(ht:g.total≤2147483647)(hr:nn g a most=some r):FE Go.Proofs.Tryz.prog 61 [.ref B 0,.int .i64 a,.int .i64 most] s [.sl true 1 r.1.length (flat r.1),.bool r.2] s:=by
 refine FN.conv (Ay (Q:=fun rs t=>rs=[.sl true 1 r.1.length (flat r.1),.bool r.2]∧t=s∨((∃b cap sp,rs=[.arr b 0 r.1.length cap,.bool r.2]∧t b=some (.cells (flat r.1++sp))∧0<cap∧r.1.length≤cap∧(flat r.1++sp).length=cap*1∧Sub s (t.del b))∨(r.1.length=0∧flat r.1=[]∧Sub s t∧∃b,rs=[.arr b 0 0 0,.bool r.2]))) h ht ⟨r,hr,fun e1 e2=>?_,fun e1 b hb=>?_,fun r' s' h1 h2=>?_⟩) fun rs t hq G w v hg hs hv=>?_
 ·rw[e1,e2];exact .inl ⟨rfl,rfl⟩
 ·rw[e1];exact .inr (.inr ⟨rfl,rfl,(Sub.refl s).set hb,b,rfl⟩)
 ·cases r' with
  |none=>
   have e:r.1=[]:=h2
   rw[e];exact .inr (.inr ⟨rfl,rfl,h1,0,rfl⟩)
  |some x=>
   obtain⟨b,cap,sp⟩:=x
   obtain⟨k1,k2,k3,k4,k5⟩:=h2
   refine .inr (.inl ⟨b,cap,sp,rfl,fC,k2,k3,k4,?_⟩)
   show Sub s ((s'.set b _).del b)
   rw[Af k1];exact h1
 ·rcases hq with⟨rfl,rfl⟩|hq
  ·exact⟨_,_,G,⟨rfl,rfl⟩,lx.refl G,hg,hs,hv⟩
  ·obtain⟨G2,k1,k2,k3,k4⟩:=P3 hg hs (by rw[aK];rfl) (cm _) hq hv
   exact⟨_,_,G2,⟨rfl,rfl⟩,k1,k2,k3,k4⟩
end Go.AB
end
section
set_option maxRecDepth 4000
namespace Go.AB
open Go
attribute[-go_sem] Nat.add_zero pN dc
structure kP where
 dX:(List Int)
 xp:Int
instance:a8 kP:=⟨2,fun x=>[.sl false 1 x.dX.length (flat x.dX),.int .i64 x.xp],(kP.mk [] 0),by decide,fun _=>rfl,fun _=>rfl⟩
theorem eO.sub{s0 s s':ab}{B:Nat}{g:oB}(h:eO s0 s B g)(hs:Sub s s'):eO s0 s' B g:=by
 obtain⟨h1,h2,M,es,h3,h4,h5,h6,h7,h8⟩:=h
 exact⟨fun b o hb=>hs b o (h1 b o hb),h2,M,es,hs _ _ h3,h4,hs _ _ h5,h6,fun k=>(h7 k).mono fun b l hb=>hs b _ hb,h8⟩
structure HX where
 B:Nat
 g:oB
def jg(s:ab)(x:HX):Prop:=(∃s0,eO s0 s x.B x.g)∧x.g.total≤2147483647
theorem jg.mono{s s':ab}{x:HX}(h:jg s x)(hs:Sub s s'):jg s' x:=by
 obtain⟨⟨s0,h1⟩,h2⟩:=h
 exact⟨⟨s0,h1.sub hs⟩,h2⟩
def ml(x:HX)(a n:Int):Option (List UInt8×Bool):=nn x.g a n
def ko(x:HX):Option Int:=some x.g.total
theorem lW{x:HX}{a n:Int}{s:ab}{r:List UInt8×Bool}(hv:jg s x)(h:ml x a n=some r):FE Go.Proofs.Tryz.prog 61 [.ref x.B 0,.int .i64 a,.int .i64 n] s [.sl true 1 r.1.length (flat r.1),.bool r.2] s:=by
 obtain⟨⟨s0,h1⟩,h2⟩:=hv
 exact Az h1 h2 h
theorem kD{x:HX}{s:ab}{r:Int}(hv:jg s x)(h:ko x=some r):FE Go.Proofs.Tryz.prog 62 [.ref x.B 0] s [.int .i64 r] s:=by
 obtain⟨⟨s0,h1⟩,h2⟩:=hv
 injection h with h
 rw[←h]
 exact yY h1 ⟨rfl,rfl⟩
end Go.AB
end
section
namespace Go.AB
open Go
attribute[-go_sem] Nat.add_zero pN dc
end Go.AB
end
section
namespace Go.AB
open Go
attribute[-go_sem] Nat.add_zero pN dc
def ik(v_0:aa)(key_1:aL):Option (Int):=
 if v_0.Kind !=7 then
  some (-1)
 else
  xR (
   oD (
    iter (fun(i2:Int)=>
     if decide (i2<(v_0.L.length:Int))then
      bq (0≤i2∧i2<v_0.L.length)<|
      bq ((((ix v_0.L i2).Kind)==5)=true→0≤i2∧i2<v_0.L.length)<|
      if(((ix v_0.L i2).Kind)==5)&&(((ix v_0.L i2).S).b==key_1.b)then
       some (.inr (.inr i2))
      else
       some (.inl (az (i2+2)))
     else
      some (.inr (.inl ()))) 0) (fun(_:Unit)=>
    some (.inl ()))
   (fun(t3:Int)=>some (.inr t3))) (fun(_:Unit)=>
   some (-1))
  (fun(t1:Int)=>some t1)
def uf:IC:=
 (aj [i1 2 (.lZ 4 (.t 0)),mi 4 0] [1,2]
 (.seq (aj [fa 6 0 2,ld 7 1 6,bn 8 .neq 7 7] [1,2,8]
 (.cond (.t 8) (aj [mi 4 (-1)] [4]
 .ret)
 .skip))
 (.join [] (aj [mi 5 0] [1,2,5]
 (.block 0 (.loop [(1,false),(2,false),(5,false)] (.seq (aj [mv 9 5,fa 10 3 2,ld 11 1 10,le 12 0 11,bt 13 .lss 9 12] [1,2,5,13]
 (.cond (.t 13) .skip
 (.exit 0)))
 (.seq (.block 1 (aj [fa 16 3 2,ld 17 1 16,mv 18 5,ia 19 Kp 17 18,fa 20 0 19,ld 21 1 20,bn 22 .eql 21 5,mv 23 22,fg 24 23 true 3 2,lg 25 23 true 1 24,b6 26 5 23 true,cQ 27 23 true (.indexAddr Kp (.t 25) (.t 26)),fg 28 23 true 2 27,lg 29 23 true 1 28,b6 30 1 23 true,Ap 31 23 true .eql 29 30,pf 32 23 31] [1,2,5,32]
 (.cond (.t 32) (aj [mv 33 5,mv 4 33] [4]
 .ret)
 .skip)))
 (.cU none [mv 14 5,bn 15 .add 14 2,mv 5 15] [1,2,5]))))))
 (aj [mi 4 (-1)] [4]
 .ret))))
def sM:List bj:=[⟨4,true,none⟩]
theorem C2:bG Go.Proofs.Tryz.prog 77 34 sM uf=true:=by kernel_rfl
theorem Dr{v_0 key_1}{s:ab}{Q:List AV→ab→Prop}:ok (ik v_0 key_1) (fun r=>Q [.int .i64 r] s)→FN Go.Proofs.Tryz.prog 77 [.agg [.int .i64 v_0.Kind,.int .i64 v_0.N,.str v_0.S.b,.sl false 4 v_0.L.length (flat v_0.L)],.str key_1.b] s Q:=by
 intro h
 refine FN.of (ay mix) C2 rfl (Nat.le_of_ble_eq_true rfl) ?_
 revert h
 rw[uf,sM,ik]
 repeat'(first
  |with_reducible exact bI
  |with_reducible refine aU ?_ ?_
  |with_reducible exact aV
  |with_reducible refine bN ?_
  |((with_reducible refine dp (fun(i2:Int)=>⟨[(1,.str key_1.b),(2,.loc [.int .i64 v_0.Kind,.int .i64 v_0.N,.str v_0.S.b,.sl false 4 v_0.L.length (flat v_0.L)]),(5,.int .i64 i2)],[],s⟩) ?_ ?_);(first|exact rfl|simp -implicitDefEqProofs only[go_sem,seval]);rintro J i2)
  |((with_reducible refine dh (fun(_:Unit)=>⟨[],[],s⟩) (fun J=>?_) ?_);rotate_left;rintro _)
  |simp -implicitDefEqProofs only[go_sem,seval])
theorem kN{v_0 key_1}{s:ab}{r:Int}(h:ik v_0 key_1=some r):FE Go.Proofs.Tryz.prog 77 [.agg [.int .i64 v_0.Kind,.int .i64 v_0.N,.str v_0.S.b,.sl false 4 v_0.L.length (flat v_0.L)],.str key_1.b] s [.int .i64 r] s:=Dr ⟨r,h,rfl,rfl⟩
theorem Sub.trans{s1 s2 s3:ab}(h:Sub s1 s2)(k:Sub s2 s3):Sub s1 s3:=fun b o h'=>k b o (h b o h')
end Go.AB
end
section
set_option maxRecDepth 4000
namespace Go.AB
open Go
attribute[-go_sem] dv eu cV du Nat.add_zero pN dc
def js(a_0:(List UInt8))(b_1:(List UInt8)):Option (Bool):=some ((aL.mk a_0).b==(aL.mk b_1).b)
def rJ:IC:=
 (aj [dT 4 (.bool false)] [0,1]
 (aj [mt 5 0,i1 6 (.fA (.t 5)),mt 7 1,i1 8 (.fA (.t 7)),bt 9 .eql 6 8,mv 4 9] [4]
 .ret))
def qE:List bj:=[⟨4,true,none⟩]
theorem Bb:bG Go.Proofs.Tryz.prog 73 10 qE rJ=true:=by kernel_rfl
theorem AJ{a_0 b_1}{s:ab}{Q:List AV→ab→Prop}:ok (js a_0 b_1) (fun r=>Q [.bool r] s)→FN Go.Proofs.Tryz.prog 73 [.sl false 1 a_0.length (flat a_0),.sl false 1 b_1.length (flat b_1)] s Q:=by
 intro h
 refine FN.of (ay mix) Bb rfl (Nat.le_of_ble_eq_true rfl) ?_
 revert h
 rw[rJ,qE,js]
 repeat'(first
  |with_reducible exact bI
  |with_reducible refine aU ?_ ?_
  |with_reducible exact aV
  |with_reducible refine bN ?_
  |simp -implicitDefEqProofs only[go_sem,seval])
theorem rq{a_0 b_1}{s:ab}{r:Bool}(h:js a_0 b_1=some r):FE Go.Proofs.Tryz.prog 73 [.sl false 1 a_0.length (flat a_0),.sl false 1 b_1.length (flat b_1)] s [.bool r] s:=AJ ⟨r,h,rfl,rfl⟩
def iZ(s_0:(List UInt8))(prefix_1:(List UInt8)):Option (Bool):=
 bq ((decide ((s_0.length:Int)≥(prefix_1.length:Int)))=true→0≤(0:Int)∧0≤(prefix_1.length:Int)∧(prefix_1.length:Int)≤s_0.length)<|
 cj (fy (decide ((s_0.length:Int)≥(prefix_1.length:Int))) false (js (part s_0 0 (prefix_1.length:Int)) prefix_1)) fun r1=>
 some ((decide ((s_0.length:Int)≥(prefix_1.length:Int)))&&r1)
def mH:IC:=
 (aj [dT 4 (.bool false)] [0,1]
 (.seq (.cU (some 12) [mv 5 0,le 6 0 5,mv 7 1,le 8 0 7,bt 9 .geq 6 8,mv 10 9,b6 11 0 10 true,b6 12 1 10 true,cQ 13 10 true (.len 0 (.t 12)),cQ 14 10 true (.slice 1 (.t 11) none (some (.t 13)) none),b6 15 1 10 true,Zn 16 10 true 73 14 15,pf 17 10 16,mv 4 17] [4])
 .ret))
def lO:List bj:=[⟨4,true,none⟩]
theorem uX:bG Go.Proofs.Tryz.prog 35 18 lO mH=true:=by kernel_rfl
theorem uJ{s_0 prefix_1}{s:ab}{Q:List AV→ab→Prop}:ok (iZ s_0 prefix_1) (fun r=>Q [.bool r] s)→FN Go.Proofs.Tryz.prog 35 [.sl false 1 s_0.length (flat s_0),.sl false 1 prefix_1.length (flat prefix_1)] s Q:=by
 intro h
 refine FN.of (ay mix) uX rfl (Nat.le_of_ble_eq_true rfl) ?_
 revert h
 rw[mH,lO,iZ]
 repeat'(first
  |with_reducible exact bI
  |with_reducible refine aU ?_ ?_
  |with_reducible exact aV
  |with_reducible refine bN ?_
  |with_reducible refine bM rfl (fun _(h:js (part s_0 0 (prefix_1.length:Int)) prefix_1=some _)=>rq h) (fun _=>rfl) (fun r1=>?_)
  |with_reducible refine bM rfl (fun _(h:js (part s_0 0 (prefix_1.length:Int)) prefix_1=some _)=>(by refine al ?_ (rq h);simp -implicitDefEqProofs only[go_sem,seval])) (fun _=>rfl) (fun r1=>?_)
  |simp -implicitDefEqProofs only[go_sem,seval])
theorem uI{s_0 prefix_1}{s:ab}{r:Bool}(h:iZ s_0 prefix_1=some r):FE Go.Proofs.Tryz.prog 35 [.sl false 1 s_0.length (flat s_0),.sl false 1 prefix_1.length (flat prefix_1)] s [.bool r] s:=uJ ⟨r,h,rfl,rfl⟩
def iG(v_0:aa)(key_1:aL):Option (aa×Bool):=
 cj (ik v_0 key_1) fun r1=>
 if decide (r1<0)then
  none
 else
  if(az (r1+1))==(v_0.L.length:Int)then
   none
  else
   bq (0≤az (r1+1)∧az (r1+1)<v_0.L.length)<|
   some (ix v_0.L (az (r1+1)),true)
def wy:IC:=
 (aj [i1 2 (.lZ 4 (.t 0)),i1 4 (.aQ iC),dT 5 (.bool false)] [1,2,4]
 (aj [lm 7 4 2,mv 8 1,c2 9 77 7 8,mv 6 9] [2,4,6]
 (.seq (.block 0 (aj [mv 11 6,bn 12 .lss 11 0,mv 10 12] [2,4,6,10]
 (.cond (.t 10) .dead
 (aj [mv 15 6,bn 16 .add 15 1,fa 17 3 2,ld 18 1 17,le 19 0 18,bt 20 .eql 16 19,mv 14 20] [2,4,6,14]
 (.cond (.t 14) .dead
 .skip)))))
 (aj [fa 22 3 2,ld 23 1 22,mv 24 6,bn 25 .add 24 1,ia 26 Kp 23 25,lm 27 4 26,st 4 4 27,dT 5 (.bool true)] [4,5]
 .ret))))
def uD:List bj:=[⟨4,false,some (4,true)⟩,⟨5,true,none⟩]
theorem E8:bG Go.Proofs.Tryz.prog 37 28 uD wy=true:=by kernel_rfl
theorem FZ{v_0 key_1}{s:ab}{Q:List AV→ab→Prop}:ok (iG v_0 key_1) (fun r=>Q [.agg [.int .i64 r.1.Kind,.int .i64 r.1.N,.str r.1.S.b,.sl false 4 r.1.L.length (flat r.1.L)],.bool r.2] s)→FN Go.Proofs.Tryz.prog 37 [.agg [.int .i64 v_0.Kind,.int .i64 v_0.N,.str v_0.S.b,.sl false 4 v_0.L.length (flat v_0.L)],.str key_1.b] s Q:=by
 intro h
 refine FN.of (ay mix) E8 rfl (Nat.le_of_ble_eq_true rfl) ?_
 revert h
 rw[wy,uD,iG]
 repeat'(first
  |with_reducible exact bI
  |with_reducible refine aU ?_ ?_
  |with_reducible exact aV
  |with_reducible refine bN ?_
  |with_reducible refine ak (fun _(h:ik v_0 key_1=some _)=>kN h) (fun r1=>?_)
  |with_reducible refine ae (fun _(h:ik v_0 key_1=some _)=>kN h) (fun _=>rfl) (fun r1=>?_)
  |with_reducible refine ak (fun _(h:ik v_0 key_1=some _)=>(by refine al ?_ (kN h);simp -implicitDefEqProofs only[go_sem,seval])) (fun r1=>?_)
  |with_reducible refine ae (fun _(h:ik v_0 key_1=some _)=>(by refine al ?_ (kN h);simp -implicitDefEqProofs only[go_sem,seval])) (fun _=>rfl) (fun r1=>?_)
  |simp -implicitDefEqProofs only[go_sem,seval])
theorem jV{v_0 key_1}{s:ab}{r:aa×Bool}(h:iG v_0 key_1=some r):FE Go.Proofs.Tryz.prog 37 [.agg [.int .i64 v_0.Kind,.int .i64 v_0.N,.str v_0.S.b,.sl false 4 v_0.L.length (flat v_0.L)],.str key_1.b] s [.agg [.int .i64 r.1.Kind,.int .i64 r.1.N,.str r.1.S.b,.sl false 4 r.1.L.length (flat r.1.L)],.bool r.2] s:=FZ ⟨r,h,rfl,rfl⟩
end Go.AB
end
section
set_option maxRecDepth 4000
namespace Go.AB
open Go
attribute[-go_sem] dv eu cV du Nat.add_zero pN dc
def mN:IC:=
 (aj [mv 5 0,le 6 0 5,mi 7 0] [0,1,6,7]
 (.block 0 (.loop [(0,false),(1,false),(6,false),(7,false)] (aj [bt 8 .lss 7 6] [0,1,6,7,8]
 (.seq (.cond (.t 8) .skip
 (.exit 0))
 (.seq (.block 1 (aj [mv 9 7,mv 4 9] [0,1,4,6,7]
 (aj [mv 10 4,bn 11 .eql 10 0,mv 12 11,b6 13 0 12 false,b6 14 4 12 false,jz 15 12 false .sub 14 1,cQ 16 12 false (.indexAddr [.int .u8 0] (.t 13) (.t 15)),lg 17 12 false 1 16,FC 18 12 false 67 17,po 19 12 18,mv 20 19,b6 21 0 20 false,b6 22 4 20 false,jz 23 20 false .sub 22 1,cQ 24 20 false (.indexAddr [.int .u8 0] (.t 21) (.t 23)),lg 25 20 false 1 24,FC 26 20 false 68 25,po 27 20 26] [0,1,4,6,7,27]
 (.cond (.t 27) (.cU none [mv 28 1,mv 29 4,i1 30 (.eC (.t 28) [(.t 29)])] [0,1,6,7])
 .skip))))
 (.cU none [bn 31 .add 7 1,mv 7 31] [0,1,6,7])))))))
def lU:List bj:=[]
theorem va:bG Go.Proofs.Tryz.prog 30 32 lU mN=true:=by kernel_rfl
def oP:IC:=
 (aj [ld 7 1 1,mv 8 0,c2 9 32 7 8,lj 6 9,ex 10 6 0,ex 11 6 1,mv 4 10,mv 5 11] [0,2,4,5]
 (.seq (aj [mv 12 5,no 13 12] [0,2,4,13]
 (.cond (.t 13) .ret
 .skip))
 (.seq (.block 0 (.loop [(0,false),(2,false),(4,false)] (.seq (aj [ld 14 1 2,le 15 0 14,mv 16 4,bt 17 .lss 15 16] [0,2,4,17]
 (.cond (.t 17) .skip
 (.exit 0)))
 (.block 1 (.cU none [ld 18 1 2,i1 19 (.b5 1 1 oz [(0,1,(.c (.int .i64 (-1))))]),i1 20 (.gh 1 8 oz (.t 18) (.t 19)),st 1 2 20] [0,2,4])))))
 (.cU none [ld 21 1 2,mv 22 4,bn 23 .sub 22 1,mv 24 0,ia 25 oz 21 23,st 1 25 24] []))))
def nP:List bj:=[]
theorem xP:bG Go.Proofs.Tryz.prog 31 26 nP oP=true:=by kernel_rfl
def qy:IC:=
 (aj [i1 1 (.qU 1 (.t 0)),dT 2 (.sl true 1 0 [])] [1]
 (aj [i1 3 (.gV [.arr 0 0 0 0])] [1,3]
 (aj [ld 4 1 1,i1 5 (.lC 31 [] [(.t 1),(.t 3)]),c2 6 30 4 5] [3]
 (aj [ld 7 1 3,i1 2 (.K7 1 true (.t 7))] [2]
 .ret))))
def pw:List bj:=[⟨2,false,none⟩]
theorem zk:bG Go.Proofs.Tryz.prog 9 8 pw qy=true:=by kernel_rfl
def qz:IC:=
 (aj [i1 1 (.qU 1 (.t 0)),i1 2 (.aQ iC),dT 3 (.bool false)] [1,2]
 (aj [i1 7 (.b5 1 7 [.int .u8 0,.int .u8 0,.int .u8 0,.int .u8 0,.int .u8 0,.int .u8 0,.int .u8 0] [(0,1,(.c (.int .u8 116))),(1,1,(.c (.int .u8 114))),(2,1,(.c (.int .u8 97))),(3,1,(.c (.int .u8 105))),(4,1,(.c (.int .u8 108))),(5,1,(.c (.int .u8 101))),(6,1,(.c (.int .u8 114)))]),i1 8 (.ji (.t 7)),i1 4 (.gV [.sl true 1 0 []]),st 1 4 8] [1,2,4]
 (aj [i1 5 (.gV Kp)] [1,2,4,5]
 (aj [i1 6 (.gV [.bool false]),i0 (.store 1 (.t 6) (.c (.bool false)))] [1,2,4,5,6]
 (aj [ld 9 1 1,i1 10 (.lC 34 [] [(.t 1),(.t 4),(.t 5),(.t 6)]),c2 11 30 9 10] [2,5,6]
 (.seq (.FJ [2] 4 [lm 12 4 5,ld 13 1 6,st 4 2 12,mv 3 13] [2,3])
 .ret))))))
def px:List bj:=[⟨2,false,some (4,true)⟩,⟨3,true,none⟩]
theorem zl:bG Go.Proofs.Tryz.prog 12 14 px qz=true:=by kernel_rfl
def oQ:IC:=
 (.seq (.seq (.cU (some 6) [ld 11 1 1,mv 12 0,Vc 13 1 11 12,ld 14 1 2,c2 15 35 13 14,no 16 15] [0,1,2,3,4,16])
 (.cond (.t 16) .ret
 .skip))
 (aj [ld 18 1 1,mv 19 0,ld 20 1 2,le 21 0 20,bt 22 .add 19 21,i1 23 (.call 36 [(.t 18),(.t 22),(.c (.bool true))]),lj 17 23,ex 24 17 0,ex 25 17 1,ex 26 17 2,i1 6 (.aQ iC),st 4 6 24,mv 7 25,mv 8 26] [3,4,6,8]
 (aj [lm 28 4 6,i1 29 (.call 37 [(.t 28),(.c (.str [82,111,111,116]))]),lj 27 29,ex 30 27 0,ex 31 27 1,i1 9 (.aQ iC),st 4 9 30,mv 10 31] [3,4,6,8,9]
 (aj [mv 32 8,bn 33 .eql 32 0,mv 34 33,fg 35 34 true 0 9,lg 36 34 true 1 35,jz 37 34 true .eql 36 8,pf 38 34 37] [3,4,6,38]
 (.cond (.t 38) (.cU none [lm 39 4 6,st 4 3 39,i0 (.store 1 (.t 4) (.c (.bool true)))] [])
 .skip)))))
def nQ:List bj:=[]
theorem xQ:bG Go.Proofs.Tryz.prog 34 40 nQ oQ=true:=by kernel_rfl
def XY(b:List UInt8)(k:Int):Option Bool:=bif k==0 then some true else cj (cS (ix b (k -1))) fun x=>bif x then some true else iq (ix b (k -1))
def Eh{S:Type}(step:S→Int→Option S)(b:List UInt8)(q:S×Int):Option ((S×Int)⊕S):=bif decide (q.2<b.length)then bq (0≤q.2∧q.2<2^62)<|cj (XY b q.2) fun x=>bif x then cj (step q.1 q.2) fun t=>some (.inl (t,q.2+1))else some (.inl (q.1,q.2+1))else some (.inr q.1)
theorem Mb{S:Type}{step:S→Int→Option S}{b:List UInt8}{c:Nat}{caps:List AV}{R:S→ab→Prop}{st:S}{s:ab}{Q:List AV→ab→Prop}(hok:(vS Go.Proofs.Tryz.prog c=true)=True)(hv:cc (fun x=>match x with|.c a=>a|_=>.undef) (caps.map .c)=some caps)
 (hstep:∀st k s st',step st k=some st'→R st s→FN Go.Proofs.Tryz.prog c ([.int .i64 k]++caps) s fun rs s'=>rs=[]∧R st' s')(h0:R st s)(hm:ok (iter (Eh step b) (st,0)) fun st'=>∀s',R st' s'→Q [] s'):
 FN Go.Proofs.Tryz.prog 30 [.sl false 1 b.length (flat b),.fn c [] caps] s Q:=by
 refine FN.of (ay mix) va rfl (Nat.le_of_ble_eq_true rfl) ?_
 rw[mN,lU]
 simp -implicitDefEqProofs only[go_sem,start,ag,an,aA,aD,aB,aC,Nat.reduceBEq,Nat.reduceAdd,Nat.reduceMul,Nat.reduceLeDiff,Nat.reduceEqDiff,Nat.reduceBNe,Nat.ble_eq,UInt8.reduceToNat,UInt32.reduceToNat]
 refine jJ (fun(q:S×Int) τ=>∃s',R q.1 s'∧τ=(⟨[(0,.sl false 1 b.length (flat b)),(1,.fn c [] caps),(6,.int .i64 b.length),(7,.int .i64 q.2)],[],s'⟩:St)) ⟨s,h0,rfl⟩ ?_ hm
 rintro J ⟨st1,k⟩ τ ⟨s1,hR,rfl⟩ hb
 unfold Eh at hb
 simp only at hb
 cases hlt:decide (k<(b.length:Int))with
 |false=>
  rw[hlt,cond_false,bk]at hb
  simp only[vK]at hb
  simp -implicitDefEqProofs only[go_sem,start,ag,an,aA,aD,aB,aC,Nat.reduceBEq,Nat.reduceAdd,Nat.reduceMul,Nat.reduceLeDiff,Nat.reduceEqDiff,Nat.reduceBNe,Nat.ble_eq,UInt8.reduceToNat,UInt32.reduceToNat,hlt,Bool.true_eq_false,Bool.false_eq_true,false_implies,true_implies,true_and,and_true]
  exact hb s1 hR
 |true=>
  rw[hlt,cond_true,gY,fB]at hb
  obtain⟨⟨q1,q2⟩,x,hx,hb⟩:=hb
  have hk:k<(b.length:Int):=by simpa using hlt
  have w1:az (k+1)=k+1:=aM (by omega) (by omega)
  have w2:az (k -1)=k -1:=aM (by omega) (by omega)
  unfold XY at hx
  cases h0:(k==0)with
  |true=>
   rw[h0,cond_true]at hx
   injection hx with hx
   subst hx
   rw[cond_true,fB]at hb
   obtain⟨t,ht,hb⟩:=hb
   rw[bk]at hb
   simp only[l3]at hb
   simp -implicitDefEqProofs only[go_sem,start,ag,an,aA,aD,aB,aC,Nat.reduceBEq,Nat.reduceAdd,Nat.reduceMul,Nat.reduceLeDiff,Nat.reduceEqDiff,Nat.reduceBNe,Nat.ble_eq,UInt8.reduceToNat,UInt32.reduceToNat,hlt,h0,w1,w2,Bool.true_eq_false,Bool.false_eq_true,false_implies,true_implies,true_and,and_true,Bool.true_or]
   refine⟨by simpa using hok,FN.mono (hstep _ _ _ _ ht hR) fun rs s'⟨e,hR'⟩=>?_⟩
   subst e
   simp -implicitDefEqProofs only[go_sem,start,ag,an,aA,aD,aB,aC,Nat.reduceBEq,Nat.reduceAdd,Nat.reduceMul,Nat.reduceLeDiff,Nat.reduceEqDiff,Nat.reduceBNe,Nat.ble_eq,UInt8.reduceToNat,UInt32.reduceToNat,w1]
   exact hb _ ⟨s',hR',rfl⟩
  |false=>
   rw[h0,cond_false]at hx
   have hx':ok (cj (cS (ix b (k -1))) fun x=>bif x then some true else iq (ix b (k -1))) fun z=>z=x:=⟨x,hx,rfl⟩
   rw[fB]at hx'
   obtain⟨x1,hx1,hx'⟩:=hx'
   have k1:0≤k -1∧k -1<(b.length:Int):=by
    have:k≠0:=by simpa using h0
    omega
   cases x1 with
   |true=>
    rw[cond_true,bk]at hx'
    subst hx'
    rw[cond_true,fB]at hb
    obtain⟨t,ht,hb⟩:=hb
    rw[bk]at hb
    simp only[l3]at hb
    simp -implicitDefEqProofs only[go_sem,start,ag,an,aA,aD,aB,aC,Nat.reduceBEq,Nat.reduceAdd,Nat.reduceMul,Nat.reduceLeDiff,Nat.reduceEqDiff,Nat.reduceBNe,Nat.ble_eq,UInt8.reduceToNat,UInt32.reduceToNat,hlt,h0,w1,w2,Bool.true_eq_false,Bool.false_eq_true,false_implies,true_implies,true_and,and_true,Bool.true_or]
    refine⟨k1,FE.app (cK hx1) ?_⟩
    simp -implicitDefEqProofs only[go_sem,start,ag,an,aA,aD,aB,aC,Nat.reduceBEq,Nat.reduceAdd,Nat.reduceMul,Nat.reduceLeDiff,Nat.reduceEqDiff,Nat.reduceBNe,Nat.ble_eq,UInt8.reduceToNat,UInt32.reduceToNat,w1,w2,Bool.true_eq_false,Bool.false_eq_true,false_implies,true_implies,true_and,and_true,Bool.true_or]
    refine⟨by simpa using hok,FN.mono (hstep _ _ _ _ ht hR) fun rs s'⟨e,hR'⟩=>?_⟩
    subst e
    simp -implicitDefEqProofs only[go_sem,start,ag,an,aA,aD,aB,aC,Nat.reduceBEq,Nat.reduceAdd,Nat.reduceMul,Nat.reduceLeDiff,Nat.reduceEqDiff,Nat.reduceBNe,Nat.ble_eq,UInt8.reduceToNat,UInt32.reduceToNat,w1]
    exact hb _ ⟨s',hR',rfl⟩
   |false=>
    rw[cond_false]at hx'
    obtain⟨x2,hx2,rfl⟩:=hx'
    cases x2 with
    |true=>
     rw[cond_true,fB]at hb
     obtain⟨t,ht,hb⟩:=hb
     rw[bk]at hb
     simp only[l3]at hb
     simp -implicitDefEqProofs only[go_sem,start,ag,an,aA,aD,aB,aC,Nat.reduceBEq,Nat.reduceAdd,Nat.reduceMul,Nat.reduceLeDiff,Nat.reduceEqDiff,Nat.reduceBNe,Nat.ble_eq,UInt8.reduceToNat,UInt32.reduceToNat,hlt,h0,w1,w2,Bool.true_eq_false,Bool.false_eq_true,false_implies,true_implies,true_and,and_true,Bool.true_or]
     refine⟨k1,FE.app (cK hx1) ?_⟩
     simp -implicitDefEqProofs only[go_sem,start,ag,an,aA,aD,aB,aC,Nat.reduceBEq,Nat.reduceAdd,Nat.reduceMul,Nat.reduceLeDiff,Nat.reduceEqDiff,Nat.reduceBNe,Nat.ble_eq,UInt8.reduceToNat,UInt32.reduceToNat,w1,w2,Bool.true_eq_false,Bool.false_eq_true,false_implies,true_implies,true_and,and_true,Bool.true_or]
     refine⟨k1,FE.app (l8 hx2) ?_⟩
     simp -implicitDefEqProofs only[go_sem,start,ag,an,aA,aD,aB,aC,Nat.reduceBEq,Nat.reduceAdd,Nat.reduceMul,Nat.reduceLeDiff,Nat.reduceEqDiff,Nat.reduceBNe,Nat.ble_eq,UInt8.reduceToNat,UInt32.reduceToNat,w1,w2,Bool.true_eq_false,Bool.false_eq_true,false_implies,true_implies,true_and,and_true,Bool.true_or]
     refine⟨by simpa using hok,FN.mono (hstep _ _ _ _ ht hR) fun rs s'⟨e,hR'⟩=>?_⟩
     subst e
     simp -implicitDefEqProofs only[go_sem,start,ag,an,aA,aD,aB,aC,Nat.reduceBEq,Nat.reduceAdd,Nat.reduceMul,Nat.reduceLeDiff,Nat.reduceEqDiff,Nat.reduceBNe,Nat.ble_eq,UInt8.reduceToNat,UInt32.reduceToNat,w1]
     exact hb _ ⟨s',hR',rfl⟩
    |false=>
     rw[cond_false,bk]at hb
     simp only[l3]at hb
     simp -implicitDefEqProofs only[go_sem,start,ag,an,aA,aD,aB,aC,Nat.reduceBEq,Nat.reduceAdd,Nat.reduceMul,Nat.reduceLeDiff,Nat.reduceEqDiff,Nat.reduceBNe,Nat.ble_eq,UInt8.reduceToNat,UInt32.reduceToNat,hlt,h0,w1,w2,Bool.true_eq_false,Bool.false_eq_true,false_implies,true_implies,true_and,and_true,Bool.true_or]
     refine⟨k1,FE.app (cK hx1) ?_⟩
     simp -implicitDefEqProofs only[go_sem,start,ag,an,aA,aD,aB,aC,Nat.reduceBEq,Nat.reduceAdd,Nat.reduceMul,Nat.reduceLeDiff,Nat.reduceEqDiff,Nat.reduceBNe,Nat.ble_eq,UInt8.reduceToNat,UInt32.reduceToNat,w1,w2,Bool.true_eq_false,Bool.false_eq_true,false_implies,true_implies,true_and,and_true,Bool.true_or]
     refine⟨k1,FE.app (l8 hx2) ?_⟩
     simp -implicitDefEqProofs only[go_sem,start,ag,an,aA,aD,aB,aC,Nat.reduceBEq,Nat.reduceAdd,Nat.reduceMul,Nat.reduceLeDiff,Nat.reduceEqDiff,Nat.reduceBNe,Nat.ble_eq,UInt8.reduceToNat,UInt32.reduceToNat,w1,w2,Bool.true_eq_false,Bool.false_eq_true,false_implies,true_implies,true_and,and_true,Bool.true_or]
     exact hb _ ⟨s1,hR,rfl⟩
def OT(n:Int)(out:List Int):Option (List Int⊕List Int):=bif decide ((out.length:Int)<n)then bq ((out.length+1)*8≤room)<|some (.inl (out++[-1]))else some (.inr out)
def wO(b:List UInt8)(out:List Int)(at_:Int):Option (List Int):=cj (mw b at_) fun r=>bif !r.2 then some out else cj (iter (OT r.1) out) fun o=>bq (1≤r.1∧r.1≤o.length∧r.1<2^61)<|some (o.set (r.1 -1).toNat at_)
def JK(s0:ab)(o:Nat)(out:List Int)(s:ab):Prop:=∃s1 r,s1 o=some (.cells [gL r out.length])∧Sub s0 s1∧gj s1 r out∧s=fX s1 r out
theorem LA{s:ab}{r:cN}{ls:List Int}{B:Nat}{o o':SO}(h:gj s r ls)(hB:s B=some o):(fX s r ls).set B o'=fX (s.set B o') r ls∧gj (s.set B o') r ls:=by
 cases r with
 |none=>exact⟨rfl,h⟩
 |some x=>
  obtain⟨rb,cap,sp⟩:=x
  obtain⟨h1,h2⟩:=h
  have hne:B≠rb:=fun e=>by subst e;rw[h1]at hB;cases hB
  refine⟨set_comm hne,⟨by rw[bD hne.symm];exact h1,h2⟩⟩
theorem Ja{b:List UInt8}{s0 s:ab}{o bb:Nat}{out out':List Int}{k:Int}(h0:s0 o=none)(hb:s0 bb=some (.cells [.sl false 1 b.length (flat b)]))(hs:wO b out k=some out')(h:JK s0 o out s):
 FN Go.Proofs.Tryz.prog 31 [.int .i64 k,.ref bb 0,.ref o 0] s fun rs s'=>rs=[]∧JK s0 o out' s':=by
 have hroom:room=140737488355328:=rfl
 obtain⟨s1,r,h1,h2,h3,rfl⟩:=h
 have hbb:fX s1 r out bb=some (.cells [.sl false 1 b.length (flat b)]):=ie h3 (h2 _ _ hb)
 have hs':ok (wO b out k) fun z=>z=out':=⟨out',hs,rfl⟩
 unfold wO at hs'
 rw[fB]at hs'
 obtain⟨⟨n,is⟩,hh,hs'⟩:=hs'
 refine FN.of (ay mix) xP rfl (Nat.le_of_ble_eq_true rfl) ?_
 rw[oP,nP]
 generalize c6:fX s1 r out=st at*
 simp -implicitDefEqProofs only[go_sem,start,ag,an,aA,aD,aB,aC,Nat.reduceBEq,Nat.reduceAdd,Nat.reduceMul,Nat.reduceLeDiff,Nat.reduceEqDiff,Nat.reduceBNe,Nat.ble_eq,UInt8.reduceToNat,UInt32.reduceToNat,hbb]
 refine FE.app (FP hh) ?_
 simp -implicitDefEqProofs only[go_sem,start,ag,an,aA,aD,aB,aC,Nat.reduceBEq,Nat.reduceAdd,Nat.reduceMul,Nat.reduceLeDiff,Nat.reduceEqDiff,Nat.reduceBNe,Nat.ble_eq,UInt8.reduceToNat,UInt32.reduceToNat]
 refine⟨fun hi=>?_,fun hi=>?_⟩
 ·rw[hi,cond_true,bk]at hs'
  subst hs'
  exact⟨s1,r,h1,h2,h3,c6.symm⟩
 ·rw[hi,cond_false,fB]at hs'
  obtain⟨o2,ho2,hs'⟩:=hs'
  rw[gY,bk]at hs'
  obtain⟨⟨m1,m2,m3⟩,rfl⟩:=hs'
  refine jJ (kf:=fun z=>z=o2) (fun(q:List Int) τ=>∃s',JK s0 o q s'∧τ=(⟨[(0,.int .i64 k),(2,.ref o 0),(4,.int .i64 n)],[],s'⟩:St)) ⟨st,⟨s1,r,h1,h2,h3,c6.symm⟩,rfl⟩ ?_ ⟨o2,ho2,rfl⟩
  rintro J q τ ⟨s',⟨s2,r2,g1,g2,g3,rfl⟩,rfl⟩ hq
  have hB:fX s2 r2 q o=some (.cells [gL r2 q.length]):=ie g3 g1
  unfold OT at hq
  cases hlt:decide ((q.length:Int)<n)with
  |false=>
   rw[hlt,cond_false,bk]at hq
   simp only[vK]at hq
   subst hq
   obtain⟨rb,cap,sp,rfl⟩:=FL g3 (by omega)
   have w1:az (n -1)=n -1:=aM (by omega) (by omega)
   obtain⟨r1,_⟩:=Xm q sp (n:=1) rfl (j:=n -1) (by omega) (by omega)
   have st1:=Xs q sp (n:=1) rfl k (j:=n -1) (by omega) (by omega)
   have st1:setAt (flat q++sp) ((n -1).toNat*1) [.int .i64 k]=_:=st1
   have hrb:fX s2 (some (rb,cap,sp)) q rb=some (.cells (flat q++sp)):=bK ..
   have hup:=Kt (l':=q.set (n -1).toNat k) g3 (List.length_set ..)
   have hne:o≠rb:=fun e=>by subst e;rw[g3.1]at g1;cases g1
   generalize hst2:fX s2 (some (rb,cap,sp)) q=st2 at*
   generalize hcs:flat q++sp=cs at*
   have hB:st2 o=some (.cells [.arr rb 0 q.length cap]):=hB
   simp -implicitDefEqProofs only[go_sem,start,ag,an,aA,aD,aB,aC,Nat.reduceBEq,Nat.reduceAdd,Nat.reduceMul,Nat.reduceLeDiff,Nat.reduceEqDiff,Nat.reduceBNe,Nat.ble_eq,UInt8.reduceToNat,UInt32.reduceToNat,hB,hlt,w1,hrb,Bool.true_eq_false,Bool.false_eq_true,false_implies,true_implies,true_and,and_true]
   rw[st1]
   refine⟨⟨by omega,by omega⟩,r1,s2,some (rb,cap,sp),by rw[List.length_set];exact g1,g2,hup,?_⟩
   rw[←hst2]
   exact set_set ..
  |true=>
   rw[hlt,cond_true,gY,bk]at hq
   simp only[l3]at hq
   obtain⟨hr,hq⟩:=hq
   generalize hst2:fX s2 r2 q=st2 at*
   simp -implicitDefEqProofs only[go_sem,start,ag,an,aA,aD,aB,aC,Nat.reduceBEq,Nat.reduceAdd,Nat.reduceMul,Nat.reduceLeDiff,Nat.reduceEqDiff,Nat.reduceBNe,Nat.ble_eq,UInt8.reduceToNat,UInt32.reduceToNat,hB,hlt,Bool.true_eq_false,Bool.false_eq_true,false_implies,true_implies,true_and,and_true]
   rw[kL]
   have fin:=s5 (σ:=?_) (d:=?_) (K:=?_) (by':=8) (s:=s2) (r:=r2) (l:=q) (z:=(0:Int)) (v:=(-1:Int)) (sz:=1) ?_ g3 rfl hr ?_
   ·exact fin
   ·exact hst2.symm
   ·intro s3 r3 f1 f2
    have hB2:s3 o=some (.cells [gL r2 q.length]):=f1 _ _ g1
    have hB3:fX s3 r3 (q++[(-1:Int)]) o=some (.cells [gL r2 q.length]):=ie f2 hB2
    generalize hst3:fX s3 r3 (q++[(-1:Int)])=st3 at hB3
    simp -implicitDefEqProofs only[go_sem,start,ag,an,aA,aD,aB,aC,Nat.reduceBEq,Nat.reduceAdd,Nat.reduceMul,Nat.reduceLeDiff,Nat.reduceEqDiff,Nat.reduceBNe,Nat.ble_eq,UInt8.reduceToNat,UInt32.reduceToNat,hB3]
    refine hq _ ⟨_,?_,rfl⟩
    obtain⟨q1,q2⟩:=LA (o':=.cells [gL r3 (q.length+1)]) f2 hB2
    refine⟨s3.set o (.cells [gL r3 (q.length+1)]),r3,by rw[bK];simp,fun b' o' hb'=>?_,q2,?_⟩
    ·have hne:b'≠o:=fun e=>by subst e;rw[h0]at hb';cases hb'
     rw[bD hne]
     exact f1 _ _ (g2 _ _ hb')
    ·rw[←hst3];exact q1
def eU(b:List UInt8):Option (List Int):=iter (Eh (wO b) b) ([],0)
theorem fD{b_0:List UInt8}{s:ab}{r:List Int}(h:eU b_0=some r):FE Go.Proofs.Tryz.prog 9 [.sl false 1 b_0.length (flat b_0)] s [.sl false 1 r.length (flat r)] s:=by
 refine FN.qg (FN.of (ay mix) zk rfl (Nat.le_of_ble_eq_true rfl) ?_)
 rw[qy,pw]
 simp -implicitDefEqProofs only[go_sem,start,ag,an,aA,aD,aB,aC,Nat.reduceBEq,Nat.reduceAdd,Nat.reduceMul,Nat.reduceLeDiff,Nat.reduceEqDiff,Nat.reduceBNe,Nat.ble_eq,UInt8.reduceToNat,UInt32.reduceToNat]
 intro bb hbb o ho
 have n1:=ho
 rw[gr]at n1
 have hne:bb≠o:=n1.1.symm
 simp -implicitDefEqProofs only[go_sem,start,ag,an,aA,aD,aB,aC,Nat.reduceBEq,Nat.reduceAdd,Nat.reduceMul,Nat.reduceLeDiff,Nat.reduceEqDiff,Nat.reduceBNe,Nat.ble_eq,UInt8.reduceToNat,UInt32.reduceToNat,bD hne]
 refine Mb (R:=JK (s.set bb (.cells [.sl false 1 b_0.length (flat b_0)])) o) (eq_true (by kernel_rfl)) rfl (fun st k s1 st' hs hR=>Ja ho fC hs hR) ⟨_,none,fC,(Sub.refl _).set ho,rfl,rfl⟩ ⟨r,h,fun s' hR=>?_⟩
 obtain⟨s1,r1,h1,h2,h3,rfl⟩:=hR
 have hB:=ie h3 h1
 generalize c6:fX s1 r1 r=st at*
 simp -implicitDefEqProofs only[go_sem,start,ag,an,aA,aD,aB,aC,Nat.reduceBEq,Nat.reduceAdd,Nat.reduceMul,Nat.reduceLeDiff,Nat.reduceEqDiff,Nat.reduceBNe,Nat.ble_eq,UInt8.reduceToNat,UInt32.reduceToNat,hB]
 have fz:=Ag (σ:=?_) (d:=?_) (K:=?_) (sz:=1) (s:=s1) (r:=r1) (l:=r) ?_ h3 rfl ?_
 ·exact fz
 ·exact c6.symm
 ·simp -implicitDefEqProofs only[go_sem,start,ag,an,aA,aD,aB,aC,Nat.reduceBEq,Nat.reduceAdd,Nat.reduceMul,Nat.reduceLeDiff,Nat.reduceEqDiff,Nat.reduceBNe,Nat.ble_eq,UInt8.reduceToNat,UInt32.reduceToNat]
  exact⟨s,fun b o hb=>h2 _ _ (((Sub.refl s).set hbb) b o hb),rfl⟩
def XB:List UInt8:=[116,114,97,105,108,101,114]
def Cv(b:List UInt8)(st:aa×Bool)(k:Int):Option (aa×Bool):=
 bq (0≤k∧k≤b.length∧k<2^61)<|cj (iZ (part b k (b.length:Int)) XB) fun p=>bif !p then some st else
 cj (yM b (k+7) true) fun v=>cj (iG v.1 ⟨[82,111,111,116]⟩) fun g=>bif(v.2.2==0)&&(g.1.Kind==8)then some (v.1,true)else some st
def OA(s0:ab)(ov f:Nat)(st:aa×Bool)(s:ab):Prop:=s=(s0.set ov (.cells [.int .i64 st.1.Kind,.int .i64 st.1.N,.str st.1.S.b,.sl false 4 st.1.L.length (flat st.1.L)])).set f (.cells [.bool st.2])
theorem LM{b:List UInt8}{s0 s:ab}{ov f bb wb:Nat}{own:Bool}{st st':aa×Bool}{k:Int}(hv:s0 ov=none)(hf:s0 f=none)(hne:f≠ov)(hb:s0 bb=some (.cells [.sl false 1 b.length (flat b)]))(hw:s0 wb=some (.cells [.sl own 1 7 (flat XB)]))
 (hs:Cv b st k=some st')(h:OA s0 ov f st s):FN Go.Proofs.Tryz.prog 34 [.int .i64 k,.ref bb 0,.ref wb 0,.ref ov 0,.ref f 0] s fun rs s'=>rs=[]∧OA s0 ov f st' s':=by
 have n1:bb≠ov:=fun e=>by subst e;rw[hv]at hb;cases hb
 have n2:bb≠f:=fun e=>by subst e;rw[hf]at hb;cases hb
 have n3:wb≠ov:=fun e=>by subst e;rw[hv]at hw;cases hw
 have n4:wb≠f:=fun e=>by subst e;rw[hf]at hw;cases hw
 have e1:s bb=some (.cells [.sl false 1 b.length (flat b)]):=by rw[h,bD n2,bD n1];exact hb
 have e2:s wb=some (.cells [.sl own 1 7 (flat XB)]):=by rw[h,bD n4,bD n3];exact hw
 have e3:s ov=some (.cells [.int .i64 st.1.Kind,.int .i64 st.1.N,.str st.1.S.b,.sl false 4 st.1.L.length (flat st.1.L)]):=by rw[h,bD hne.symm,bK]
 have e4:s f=some (.cells [.bool st.2]):=by rw[h,bK]
 have hs':ok (Cv b st k) fun z=>z=st':=⟨st',hs,rfl⟩
 unfold Cv at hs'
 rw[gY,fB]at hs'
 obtain⟨⟨k1,k2,k3⟩,p,hp,hs'⟩:=hs'
 have fp:=xC 1 b k (b.length:Int) rfl
 refine FN.of (ay mix) xQ rfl (Nat.le_of_ble_eq_true rfl) ?_
 rw[oQ,nQ]
 simp -implicitDefEqProofs only[go_sem,start,ag,an,aA,aD,aB,aC,Nat.reduceBEq,Nat.reduceAdd,Nat.reduceMul,Nat.reduceLeDiff,Nat.reduceEqDiff,Nat.reduceBNe,Nat.ble_eq,UInt8.reduceToNat,UInt32.reduceToNat,e1,e2]
 refine⟨⟨k1,k2,Int.le_refl _⟩,[.bool p],rfl,uI (prefix_1:=XB) hp,?_⟩
 cases p with
 |false=>
  rw[Bool.not_false,cond_true,bk]at hs'
  subst hs'
  simp -implicitDefEqProofs only[go_sem,start,ag,an,aA,aD,aB,aC,Nat.reduceBEq,Nat.reduceAdd,Nat.reduceMul,Nat.reduceLeDiff,Nat.reduceEqDiff,Nat.reduceBNe,Nat.ble_eq,UInt8.reduceToNat,UInt32.reduceToNat,Bool.not_false,Bool.true_eq_false,Bool.false_eq_true,false_implies,true_implies,true_and,and_true]
  exact h
 |true=>
  rw[Bool.not_true,cond_false,fB]at hs'
  obtain⟨v,hv2,hs'⟩:=hs'
  rw[fB]at hs'
  obtain⟨g,hg,hs'⟩:=hs'
  have w1:az (k+7)=k+7:=aM (by omega) (by omega)
  have e7:((7:Nat):Int)=7:=rfl
  simp -implicitDefEqProofs only[go_sem,start,ag,an,aA,aD,aB,aC,Nat.reduceBEq,Nat.reduceAdd,Nat.reduceMul,Nat.reduceLeDiff,Nat.reduceEqDiff,Nat.reduceBNe,Nat.ble_eq,UInt8.reduceToNat,UInt32.reduceToNat,e1,e2,e7,w1,Bool.not_true,Bool.true_eq_false,Bool.false_eq_true,false_implies,true_implies,true_and,and_true]
  refine FE.app (BF hv2) ?_
  simp -implicitDefEqProofs only[go_sem,start,ag,an,aA,aD,aB,aC,Nat.reduceBEq,Nat.reduceAdd,Nat.reduceMul,Nat.reduceLeDiff,Nat.reduceEqDiff,Nat.reduceBNe,Nat.ble_eq,UInt8.reduceToNat,UInt32.reduceToNat,Bool.true_eq_false,Bool.false_eq_true,false_implies,true_implies,true_and,and_true]
  refine FE.app (jV hg) ?_
  simp -implicitDefEqProofs only[go_sem,start,ag,an,aA,aD,aB,aC,Nat.reduceBEq,Nat.reduceAdd,Nat.reduceMul,Nat.reduceLeDiff,Nat.reduceEqDiff,Nat.reduceBNe,Nat.ble_eq,UInt8.reduceToNat,UInt32.reduceToNat,Bool.true_eq_false,Bool.false_eq_true,false_implies,true_implies,true_and,and_true]
  cases c1:(v.2.2==0)with
  |false=>
   simp only[c1,Bool.false_and,cond_false,bk]at hs'
   subst hs'
   simp -implicitDefEqProofs only[go_sem,start,ag,an,aA,aD,aB,aC,Nat.reduceBEq,Nat.reduceAdd,Nat.reduceMul,Nat.reduceLeDiff,Nat.reduceEqDiff,Nat.reduceBNe,Nat.ble_eq,UInt8.reduceToNat,UInt32.reduceToNat,c1,Bool.true_eq_false,Bool.false_eq_true,false_implies,true_implies,true_and,and_true,Bool.false_and]
   first|exact h|trace_state
  |true=>
   cases c2:(g.1.Kind==8)with
   |false=>
    simp only[c1,c2,Bool.and_false,cond_false,bk]at hs'
    subst hs'
    simp -implicitDefEqProofs only[go_sem,start,ag,an,aA,aD,aB,aC,Nat.reduceBEq,Nat.reduceAdd,Nat.reduceMul,Nat.reduceLeDiff,Nat.reduceEqDiff,Nat.reduceBNe,Nat.ble_eq,UInt8.reduceToNat,UInt32.reduceToNat,c1,c2,Bool.true_eq_false,Bool.false_eq_true,false_implies,true_implies,true_and,and_true,Bool.false_and]
    first|exact h|trace_state
   |true=>
    simp only[c1,c2,Bool.and_true,cond_true,bk]at hs'
    subst hs'
    have e5:∀cs,(s.set ov (.cells cs)) f=some (.cells [.bool st.2]):=fun cs=>by rw[bD hne];exact e4
    simp -implicitDefEqProofs only[go_sem,start,ag,an,aA,aD,aB,aC,Nat.reduceBEq,Nat.reduceAdd,Nat.reduceMul,Nat.reduceLeDiff,Nat.reduceEqDiff,Nat.reduceBNe,Nat.ble_eq,UInt8.reduceToNat,UInt32.reduceToNat,c1,c2,e3,e5,Bool.true_eq_false,Bool.false_eq_true,false_implies,true_implies,true_and,and_true,Bool.false_and]
    unfold OA at h⊢
    rw[h]
    funext x
    by_cases hx:x=f
    ·subst hx;rw[bK,bK]
    ·rw[bD hx,bD hx]
     by_cases hy:x=ov
     ·subst hy;rw[bK,bK]
     ·rw[bD hy,bD hy,bD hx,bD hy]
def gG(b:List UInt8):Option (aa×Bool):=iter (Eh (Cv b) b) ((zV,false),0)
theorem gN{b_0:List UInt8}{s:ab}{r:aa×Bool}(h:gG b_0=some r):FE Go.Proofs.Tryz.prog 12 [.sl false 1 b_0.length (flat b_0)] s
 [.agg [.int .i64 r.1.Kind,.int .i64 r.1.N,.str r.1.S.b,.sl false 4 r.1.L.length (flat r.1.L)],.bool r.2] s:=by
 refine FN.qg (FN.of (ay mix) zl rfl (Nat.le_of_ble_eq_true rfl) ?_)
 rw[qz,px]
 simp -implicitDefEqProofs only[go_sem,start,ag,an,aA,aD,aB,aC,Nat.reduceBEq,Nat.reduceAdd,Nat.reduceMul,Nat.reduceLeDiff,Nat.reduceEqDiff,Nat.reduceBNe,Nat.ble_eq,UInt8.reduceToNat,UInt32.reduceToNat]
 intro bb hbb wb hwb ov hov f hf
 have n1:=hwb
 rw[gr]at n1
 generalize hS1:s.set bb (.cells [.sl false 1 b_0.length (flat b_0)])=S1 at*
 have hb1:S1 bb=some (.cells [.sl false 1 b_0.length (flat b_0)]):=by rw[←hS1];exact bK ..
 have hw':S1 wb=none:=hwb
 generalize hS0:S1.set wb _=S0 at*
 have hw0:S0 wb=some (.cells [.sl false 1 7 (flat XB)]):=by rw[←hS0];exact bK ..
 have hb0:S0 bb=some (.cells [.sl false 1 b_0.length (flat b_0)]):=by rw[←hS0,bD (fun e=>by rw[e,hw']at hb1;cases hb1)];exact hb1
 have hsub:Sub s S0:=by
  rw[←hS0,←hS1]
  exact((Sub.refl s).set hbb).set (by rw[hS1];exact hw')
 rw[gr]at hf
 have eB:((S0.set ov (.cells [.int .i64 0,.int .i64 0,.str [],.sl false 4 0 []])).set f (.cells [.bool false])) bb=some (.cells [.sl false 1 b_0.length (flat b_0)]):=by
  rw[bD (fun e=>by rw[←e,hb0]at hf;cases hf.2),bD (fun e=>by rw[←e,hb0]at hov;cases hov)]
  exact hb0
 simp -implicitDefEqProofs only[go_sem,start,ag,an,aA,aD,aB,aC,Nat.reduceBEq,Nat.reduceAdd,Nat.reduceMul,Nat.reduceLeDiff,Nat.reduceEqDiff,Nat.reduceBNe,Nat.ble_eq,UInt8.reduceToNat,UInt32.reduceToNat,eB]
 refine Mb (R:=OA S0 ov f) (step:=Cv b_0) (st:=(zV,false)) (eq_true (by kernel_rfl)) rfl (fun st k s1 st' hs hR=>LM hov hf.2 hf.1 hb0 hw0 hs hR) rfl ⟨r,h,fun s' hR=>?_⟩
 have e3:s' ov=some (.cells [.int .i64 r.1.Kind,.int .i64 r.1.N,.str r.1.S.b,.sl false 4 r.1.L.length (flat r.1.L)]):=by rw[hR,bD hf.1.symm,bK]
 have e4:s' f=some (.cells [.bool r.2]):=by rw[hR,bK]
 have hs2:Sub s s':=by
  rw[hR]
  exact(hsub.set hov).set (by rw[gr];exact hf)
 simp -implicitDefEqProofs only[go_sem,start,ag,an,aA,aD,aB,aC,Nat.reduceBEq,Nat.reduceAdd,Nat.reduceMul,Nat.reduceLeDiff,Nat.reduceEqDiff,Nat.reduceBNe,Nat.ble_eq,UInt8.reduceToNat,UInt32.reduceToNat,e3,e4]
 first|exact⟨s,hs2,rfl⟩|exact⟨rfl,s,hs2,rfl⟩|trace_state
end Go.AB
end
section
set_option maxRecDepth 4000
namespace Go.AB
open Go
attribute[-go_sem] dv eu cV du Nat.add_zero pN dc
def tx(s_0:HX):Option (kP×Int×Int):=
 cj (ko s_0) fun r1=>
 cj (ml s_0 0 r1) fun r2=>
 if !r2.2 then
  none
 else
  cj (eU r2.1) fun r3=>
  cj (gG r2.1) fun r4=>
  if r4.2 then
   cj (iG r4.1 (aL.mk [82,111,111,116])) fun r5=>
   if r5.1.N==0 then
    none
   else
    some ((kP.mk r3 r5.1.N),0,0)
  else
   none
def wu:IC:=
 (aj [i1 2 (.aQ [.sl true 1 0 [],.int .i64 0]),mi 3 0,mi 4 0] [0,2]
 (aj [mv 13 0,mv 14 0,c1 15 62 14,i1 16 (.call 61 [(.t 13),(.c (.int .i64 0)),(.t 15)]),lj 12 16,ex 17 12 0,ex 18 12 1,mt 5 17,mv 6 18] [2,5,6]
 (.seq (aj [mv 19 6,no 20 19] [2,5,20]
 (.cond (.t 20) .dead
 .skip))
 (aj [mv 24 5,c1 25 9 24,i1 26 (.build [.sl true 1 0 [],.int .i64 0] [(0,1,(.t 25))]),i1 7 (.aQ [.sl true 1 0 [],.int .i64 0]),st 2 7 26] [2,5,7]
 (.seq (aj [mt 28 5,c1 29 12 28,lj 27 29,ex 30 27 0,ex 31 27 1,i1 8 (.aQ iC),st 4 8 30,mv 9 31] [2,7,8,9]
 (aj [mv 32 9] [2,7,8,32]
 (.cond (.t 32) (aj [lm 34 4 8,i1 35 (.call 37 [(.t 34),(.c (.str [82,111,111,116]))]),lj 33 35,ex 36 33 0,ex 37 33 1,i1 10 (.aQ iC),st 4 10 36,mv 11 37] [2,7,10]
 (.cU none [fa 38 1 10,ld 39 1 38,fa 40 1 7,st 1 40 39] [2,7]))
 .dead)))
 (.seq (aj [fa 46 1 7,ld 47 1 46,bn 48 .eql 47 0] [2,7,48]
 (.cond (.t 48) .dead
 .skip))
 (aj [lm 50 2 7,st 2 2 50,mi 3 0,mi 4 0] [2,3,4]
 .ret)))))))
def uB:List bj:=[⟨2,false,some (2,true)⟩,⟨3,true,none⟩,⟨4,true,none⟩]
theorem E5:bG Go.Proofs.Tryz.prog 28 51 uB wu=true:=by kernel_rfl
theorem FO{s_0}{s:ab}{Q:List AV→ab→Prop}(va0:jg s s_0):ok (tx s_0) (fun r=>Q [.agg [.sl false 1 r.1.dX.length (flat r.1.dX),.int .i64 r.1.xp],.int .i64 r.2.1,.int .i64 r.2.2] s)→FN Go.Proofs.Tryz.prog 28 [.ref s_0.B 0] s Q:=by
 intro h
 refine FN.of (ay mix) E5 rfl (Nat.le_of_ble_eq_true rfl) ?_
 revert h
 rw[wu,uB,tx]
 repeat'(first
  |with_reducible exact bI
  |with_reducible refine aU ?_ ?_
  |with_reducible exact aV
  |with_reducible refine bN ?_
  |with_reducible refine ak (fun _(h:ko s_0=some _)=>kD (jg.mono (by assumption) (by repeat'(first|exact Sub.refl _|refine Sub.set ?_ ?_|assumption|(simp[ab.set, *];done)))) h) (fun r1=>?_)
  |with_reducible refine ae (fun _(h:ko s_0=some _)=>kD (jg.mono (by assumption) (by repeat'(first|exact Sub.refl _|refine Sub.set ?_ ?_|assumption|(simp[ab.set, *];done)))) h) (fun _=>rfl) (fun r1=>?_)
  |with_reducible refine ak (fun _(h:ko s_0=some _)=>(by refine al ?_ (kD (jg.mono (by assumption) (by repeat'(first|exact Sub.refl _|refine Sub.set ?_ ?_|assumption|(simp[ab.set, *];done)))) h);simp -implicitDefEqProofs only[go_sem,seval])) (fun r1=>?_)
  |with_reducible refine ae (fun _(h:ko s_0=some _)=>(by refine al ?_ (kD (jg.mono (by assumption) (by repeat'(first|exact Sub.refl _|refine Sub.set ?_ ?_|assumption|(simp[ab.set, *];done)))) h);simp -implicitDefEqProofs only[go_sem,seval])) (fun _=>rfl) (fun r1=>?_)
  |with_reducible refine ak (fun _(h:ml s_0 0 r1=some _)=>lW (jg.mono (by assumption) (by repeat'(first|exact Sub.refl _|refine Sub.set ?_ ?_|assumption|(simp[ab.set, *];done)))) h) (fun r2=>?_)
  |with_reducible refine ae (fun _(h:ml s_0 0 r1=some _)=>lW (jg.mono (by assumption) (by repeat'(first|exact Sub.refl _|refine Sub.set ?_ ?_|assumption|(simp[ab.set, *];done)))) h) (fun _=>rfl) (fun r2=>?_)
  |with_reducible refine ak (fun _(h:ml s_0 0 r1=some _)=>(by refine al ?_ (lW (jg.mono (by assumption) (by repeat'(first|exact Sub.refl _|refine Sub.set ?_ ?_|assumption|(simp[ab.set, *];done)))) h);simp -implicitDefEqProofs only[go_sem,seval])) (fun r2=>?_)
  |with_reducible refine ae (fun _(h:ml s_0 0 r1=some _)=>(by refine al ?_ (lW (jg.mono (by assumption) (by repeat'(first|exact Sub.refl _|refine Sub.set ?_ ?_|assumption|(simp[ab.set, *];done)))) h);simp -implicitDefEqProofs only[go_sem,seval])) (fun _=>rfl) (fun r2=>?_)
  |with_reducible refine ak (fun _(h:eU r2.1=some _)=>fD h) (fun r3=>?_)
  |with_reducible refine ae (fun _(h:eU r2.1=some _)=>fD h) (fun _=>rfl) (fun r3=>?_)
  |with_reducible refine ak (fun _(h:eU r2.1=some _)=>(by refine al ?_ (fD h);simp -implicitDefEqProofs only[go_sem,seval])) (fun r3=>?_)
  |with_reducible refine ae (fun _(h:eU r2.1=some _)=>(by refine al ?_ (fD h);simp -implicitDefEqProofs only[go_sem,seval])) (fun _=>rfl) (fun r3=>?_)
  |with_reducible refine ak (fun _(h:gG r2.1=some _)=>gN h) (fun r4=>?_)
  |with_reducible refine ae (fun _(h:gG r2.1=some _)=>gN h) (fun _=>rfl) (fun r4=>?_)
  |with_reducible refine ak (fun _(h:gG r2.1=some _)=>(by refine al ?_ (gN h);simp -implicitDefEqProofs only[go_sem,seval])) (fun r4=>?_)
  |with_reducible refine ae (fun _(h:gG r2.1=some _)=>(by refine al ?_ (gN h);simp -implicitDefEqProofs only[go_sem,seval])) (fun _=>rfl) (fun r4=>?_)
  |with_reducible refine ak (fun _(h:iG r4.1 (aL.mk [82,111,111,116])=some _)=>jV h) (fun r5=>?_)
  |with_reducible refine ae (fun _(h:iG r4.1 (aL.mk [82,111,111,116])=some _)=>jV h) (fun _=>rfl) (fun r5=>?_)
  |with_reducible refine ak (fun _(h:iG r4.1 (aL.mk [82,111,111,116])=some _)=>(by refine al ?_ (jV h);simp -implicitDefEqProofs only[go_sem,seval])) (fun r5=>?_)
  |with_reducible refine ae (fun _(h:iG r4.1 (aL.mk [82,111,111,116])=some _)=>(by refine al ?_ (jV h);simp -implicitDefEqProofs only[go_sem,seval])) (fun _=>rfl) (fun r5=>?_)
  |simp -implicitDefEqProofs only[go_sem,seval])
theorem FM{s_0}{s:ab}{r:kP×Int×Int}(va0:jg s s_0)(h:tx s_0=some r):FE Go.Proofs.Tryz.prog 28 [.ref s_0.B 0] s [.agg [.sl false 1 r.1.dX.length (flat r.1.dX),.int .i64 r.1.xp],.int .i64 r.2.1,.int .i64 r.2.2] s:=FO va0 ⟨r,h,rfl,rfl⟩
end Go.AB
end
