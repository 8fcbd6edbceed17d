/- A part of the proof: Sc, Fp, Fc, Fi, Fv, Val1, Val2. -/
import Derived.Test.YtkeagffgdajggaaGreatNu13
import Derived.Test.YtkeagffgdajggaaGreatNu17
import Derived.Test.YtkeagffgdajggaaGreatNu11
import Derived.Test.YtkeagffgdajggaaGreatNu15
import Derived.Test.YtkeagffgdajggaaGreatNu16
import Derived.Test.YtkeagffgdajggaaGreatNu10
set_option linter.unusedSimpArgs false
set_option linter.unusedVariables false
section
set_option maxRecDepth 4000
namespace Go.AB
open Go
open Go.Proofs.Tryz (prog)
attribute[-go_sem] Nat.add_zero nr bV
def uX:IC:=
 (af [i1 6 (.jL true (.c (.sl true 1 0 []))),c6 7 (.bool false)] [0,1,2]
 (.seq (af [mv 13 0,c1 14 116 13,no 15 14,mv 16 15,dh 17 1 16 false,kS 18 16 false .lss 17 0,po 19 16 18,mv 20 19,dh 21 1 20 false,dh 22 0 20 false,dq 23 20 false (.nilCheck (.t 22)),fg 24 20 false 1 23,lg 25 20 false 1 24,sY 26 20 false .gtr 21 25,po 27 20 26,mv 28 27,dh 29 2 28 false,kS 30 28 false .lss 29 0,po 31 28 30] [0,1,2,31]
 (.cond (.t 31) (af [i1 6 (.jL true (.c (.sl true 1 0 []))),c6 7 (.bool false)] [6,7]
 .ret)
 .skip))
 (af [mv 32 2,mv 33 0,nc 34 33,fa 35 2 34,mv 36 1,c2 37 117 35 36,mv 38 1,bt 39 .sub 37 38,i1 40 (.fP false [(.t 32),(.t 39)]),mv 8 40] [0,1,8]
 (af [mv 41 8,i1 42 (.fO 1 1 [.int .u8 0] (.c (.int .i64 0)) (.t 41)),mt 9 42] [0,1,8,9]
 (.seq (.block 0 (.loop [(0,false),(1,false),(8,false),(9,false)] (.seq (af [mv 43 9,le 44 0 43,mv 45 8,bt 46 .lss 44 45] [0,1,8,9,46]
 (.cond (.t 46) .skip
 (.exit 0)))
 (.block 1 (af [mv 47 1,mv 48 9,le 49 0 48,bt 50 .add 47 49,bn 51 .quo 50 4096,mv 52 1,mv 53 9,le 54 0 53,bt 55 .add 52 54,bn 56 .rem 55 4096,mv 10 51,mv 11 56] [0,1,8,9,10,11]
 (af [mv 57 0,nc 58 57,fa 59 3 58,ld 60 1 59,mv 61 10,i1 62 (.lookup (.int .i64) (.sl false 1 0 []) false (.t 60) (.t 61)),mv 63 11,rj 64 1 62 63,mt 12 64] [0,1,8,9,12]
 (.bN none [mt 65 9,mv 66 12,mt 67 12,le 68 0 67,mv 69 8,mt 70 9,le 71 0 70,bt 72 .sub 69 71,i1 73 (.fP false [(.t 68),(.t 72)]),PV 74 1 66 73,i1 75 (.eV 1 1 [.int .u8 0] (.t 65) (.t 74)),mt 9 75] [0,1,8,9])))))))
 (.seq (.bN (some 11) [mv 76 9,mv 77 1,mv 78 8,bt 79 .add 77 78,mv 80 0,nc 81 80,fa 82 1 81,ld 83 1 82,bt 84 .eql 79 83,mv 6 76,mv 7 84] [6,7])
 .ret))))))
theorem Gn:aE prog 61 85 [⟨6,true,none⟩,⟨7,true,none⟩] uX=true:=by kernel_rfl
def X2(m:U2)(at_ n:Int):List UInt8->Option (List UInt8⊕List UInt8):=fun out=>
 if decide ((out.length:Int)<n)then
  aG ((m (bj ((bj (at_+out.length)).tdiv 4096))).isSome=true)<|
  some (.inl (out++(((m (bj ((bj (at_+out.length)).tdiv 4096))).getD []).drop ((bj (at_+out.length)).tmod 4096).toNat).take (min (4096 -((bj (at_+out.length)).tmod 4096).toNat) (n -out.length).toNat)))
 else some (.inr out)
def nf(g:l9)(at_ pN:Int):Option (List UInt8×Bool):=
 if(decide (at_<0)||decide (at_>g.total))||decide (pN<0)then some ([],false)
 else
  aW (uA g.known at_) fun u=>
  aG (at_<=u/\u<=g.total)<|
  aW (iter (X2 g.wR at_ (min pN (u -at_))) []) fun out=>
  some (out,bj (at_+min pN (u -at_))==g.total)
theorem WS{es:List (AV×AV)}{n:Int}{b:Nat}(h:KI es)(e:fc (.int .i64 n) es=some (.arr b 0 4096 4096)):oJ (.int .i64) (.sl false 1 0 []) false (.int .i64 n) (some (.map es))=.prt True (.arr b 0 4096 4096):=by
 show N9 false (eX (.int .i64) (.int .i64 n)=true/\kp (.int .i64) es=true) (vT (.sl false 1 0 []) false (fc (.int .i64 n) es))=_
 rw[e,h.keys]
 show PR.prt (true=true/\true=true) _=_
 simp[vT,ID,view]
theorem Fg{s0 s:ab}{B:Nat}{g:l9}{a pN:Int}{Q:List AV->ab->Prop}(h:eC s0 s B g)(ht:g.total<=2147483647):ok (nf g a pN) (fun x=>(x.1=[]->x.2=false->Q [.sl true 1 0 [],.bool false] s)/\(x.1=[]->∀b,s b=none->Q [.arr b 0 0 0,.bool x.2] (s.set b (.cells [])))/\∀r s',Sub s s'->gB s' r x.1->Q [iB r x.1.length,.bool x.2] (gp s' r x.1))->FN prog 61 [.ref B 0,.int .i64 a,.int .i64 pN] s Q:=by
 intro hh
 refine FN.lr (FO Gn rfl rfl ?_)
 rw[uX]
 simp -implicitDefEqProofs only[go_sem,Nat.reduceBEq,Nat.reduceAdd,Nat.reduceMul,Nat.reduceLeDiff,Nat.reduceEqDiff,Nat.reduceBNe,UInt8.reduceToNat,UInt32.reduceToNat]
 refine oy h ?_
 obtain⟨cs,hs,ak1⟩:=h.setAt
 obtain⟨q1,q2,M,es,q3,q4,q5,q6,q7,q8⟩:=id h
 revert hh
 rw[nf]
 simp -implicitDefEqProofs only[go_sem,Nat.reduceBEq,Nat.reduceAdd,Nat.reduceMul,Nat.reduceLeDiff,Nat.reduceEqDiff,Nat.reduceBNe,UInt8.reduceToNat,UInt32.reduceToNat,q3]
 rintro⟨w1,w2⟩
 refine⟨fun hc=>⟨s,Sub.refl s,(w1 hc).1 trivial trivial⟩,fun hc=>?_⟩
 obtain⟨u,hu,⟨hu1,hu2⟩,hh⟩:=w2 hc
 clear w1 w2
 have hc1:0<=a/\a<=g.total/\0<=pN:=by simp at hc;omega
 refine CY hs ⟨u,hu,?_⟩
 simp -implicitDefEqProofs only[go_sem,Nat.reduceBEq,Nat.reduceAdd,Nat.reduceMul,Nat.reduceLeDiff,Nat.reduceEqDiff,Nat.reduceBNe,UInt8.reduceToNat,UInt32.reduceToNat,q3]
 rw[aI (n:=u -a) (by omega) (by omega)]
 generalize hn:min pN (u -a)=n at hh⊢
 have hn0:0<=n/\a+n<=g.total:=by omega
 revert hh
 refine fun hh=>⟨Int.le_refl 0,hn0.1,by unfold room;omega,fun b hb=>?_⟩
 by_cases hz:n=0
 ·subst hz
  revert hh
  refine ga (fun out U=>out=[]/\U=⟨[(0,.ref B 0),(1,.int .i64 a),(8,.int .i64 0),(9,.arr b 0 0 0)],[],s.set b (.cells [])⟩) ⟨rfl,rfl⟩ ?_
  rintro J out U ⟨rfl,rfl⟩
  have nB:B≠b:=fun e=>by rw[<-e,q3]at hb;cases hb
  have p3:(s.set b (.cells [])) B=_:=(ai nB).trans q3
  rw[X2]
  simp -implicitDefEqProofs only[go_sem,Nat.reduceBEq,Nat.reduceAdd,Nat.reduceMul,Nat.reduceLeDiff,Nat.reduceEqDiff,Nat.reduceBNe,UInt8.reduceToNat,UInt32.reduceToNat,p3]
  rintro⟨_,w2⟩
  exact⟨fun h=>(by simp at h),fun h=>⟨_,Sub.refl _,(w2 h).2.1 trivial b hb⟩⟩
 revert hh
 refine ga (fun out U=>(out.length:Int)<=n/\∃(s':ab)(r:cU),U=⟨[(0,.ref B 0),(1,.int .i64 a),(8,.int .i64 n),(9,iB r out.length)],[],gp s' r out⟩/\Sub s s'/\gB s' r out) ⟨by simp;omega,s,some (b,n.toNat,flat (List.replicate n.toNat (0:UInt8))),rfl,Sub.refl s,(show gB s (some (b,n.toNat,flat (List.replicate n.toNat (0:UInt8)))) ([]:List UInt8) from⟨hb,by omega,by simp,by show((flat ([]:List UInt8))++flat (List.replicate n.toNat (0:UInt8))).length=_;rw[rA,List.nil_append,al,List.length_replicate],aC _⟩)⟩ ?_
 rintro J out U ⟨hl,s',r,rfl,eD,hok⟩
 have p3:=jm hok (eD _ _ q3)
 have p5:=jm hok (eD _ _ q5)
 rw[X2]
 simp -implicitDefEqProofs only[go_sem,Nat.reduceBEq,Nat.reduceAdd,Nat.reduceMul,Nat.reduceLeDiff,Nat.reduceEqDiff,Nat.reduceBNe,UInt8.reduceToNat,UInt32.reduceToNat,p3,p5]
 rintro⟨w1,w2⟩
 refine⟨fun hc=>⟨by decide,by decide,?_⟩,fun hc=>?_⟩
 ·obtain⟨Wo,w1⟩:=w1 hc
  have hc':(out.length:Int)<n:=by simpa using hc
  have wA:bj (a+out.length)=a+out.length:=aI (by omega) (by omega)
  rw[wA]at Wo w1⊢
  have hm:0<=(a+(out.length:Int)).tmod 4096:=Int.tmod_nonneg _ (by omega)
  have hm2:(a+(out.length:Int)).tmod 4096<4096:=Int.tmod_lt_of_pos _ (by decide)
  have q7':=q7 (bj ((a+(out.length:Int)).tdiv 4096))
  cases hmk:g.wR (bj ((a+(out.length:Int)).tdiv 4096))with
  |none=>rw[hmk]at Wo;cases Wo
  |some c=>
   rw[hmk]at q7' w1
   obtain⟨c1,b',c2,c3,c4⟩:=q7'
   rw[WS q6 c2]
   simp -implicitDefEqProofs only[go_sem,Nat.reduceBEq,Nat.reduceAdd,Nat.reduceMul,Nat.reduceLeDiff,Nat.reduceEqDiff,Nat.reduceBNe,UInt8.reduceToNat,UInt32.reduceToNat]
   rw[aI (n:=n -out.length) (by omega) (by omega)]
   generalize hT:(a+(out.length:Int)).tmod 4096=T at hm hm2 w1⊢
   refine⟨⟨hm,by omega,by omega⟩,⟨by omega,by omega,by omega⟩,?_⟩
   have hnb:gp s' r out b'=some (.cells (flat c)):=jm hok (eD _ _ c4)
   have hf:(flat c).length=4096:=by rw[al,c1];rfl
   have e1:(min ((4096 -T).toNat:Int) (n -out.length)).toNat=min (4096 -T.toNat) (n -out.length).toNat:=by omega
   rw[e1,Fm (by omega),wy hnb (by omega)]
   have abt:=lC c 1 T.toNat (min (4096 -T.toNat) (n -out.length).toNat) rfl
   rw[Nat.mul_one]at abt
   rw[abt,aC]
   have hxl:((c.drop T.toNat).take (min (4096 -T.toNat) (n -out.length).toNat)).length=min (4096 -T.toNat) (n -out.length).toNat:=by rw[List.length_take,List.length_drop];omega
   have agY:=NW (E:=?_) (d:=?_) (K:=?_) (by':=1) (z:=(0:UInt8)) (x:=(c.drop T.toNat).take (min (4096 -T.toNat) (n -out.length).toNat)) (s:=s') (r:=r) (l:=out) (sz:=1) ?_ hok rfl (by rw[hxl];omega) (by rw[hxl];unfold room;omega) ?_
   ·rw[hxl]at agY
    exact agY
   ·rfl
   ·intro s2 r' g1 g2
    simp -implicitDefEqProofs only[go_sem,Nat.reduceBEq,Nat.reduceAdd,Nat.reduceMul,Nat.reduceLeDiff,Nat.reduceEqDiff,Nat.reduceBNe,UInt8.reduceToNat,UInt32.reduceToNat]
    refine w1 _ ⟨?_,s2,r',rfl,fun b o hb=>g1 b o (eD b o hb),g2⟩
    have ak7:(List.take (min (4096 -T.toNat) (n -out.length).toNat) (List.drop T.toNat ((some c).getD []))).length=min (4096 -T.toNat) (n -out.length).toNat:=hxl
    rw[ak7]
    omega
 ·have w2:=(w2 hc).2.2 r s' eD hok
  exact⟨_,Sub.refl _,w2⟩
theorem aat{G:Gh}{w:World}{s s2:ab}{n sz:Nat}{cs:List AV}{x:Bool}{v:Value}{r:List AV}(hg:b9 G w)(hs:aP G w s)(hl2:cs.length=n*sz)(hvw:views cs=cs)
 (h:(∃b cap sp,r=[.arr b 0 n cap,.bool x]/\s b=some (.cells (cs++sp))/\0<cap/\n<=cap/\(cs++sp).length=cap*sz/\Sub s2 (s.del b))\/(n=0/\cs=[]/\Sub s2 s/\∃b,r=[.arr b 0 0 0,.bool x]))(hr:pb G w r v):
 ∃G2,mn G G2/\b9 G2 w/\aP G2 w s2/\pb G2 w [.sl true sz n cs,.bool x] v:=by
 have two:∀{a:AV}{v:Value},pb G w [a,.bool x] v->∃y0:Value,v=.tuple #[y0,.bool x]/\VR w G.R a y0/\dm G w (.res 0) a y0:=by
  intro a v hr
  obtain⟨ys,rfl,hz,hc⟩:=hr
  have h2:ys.size=2:=hz
  have e0:=hc 0 a ys[0] rfl (by simp)
  have e1:=hc 1 (.bool x) ys[1] rfl (by simp)
  have e2:=VR.fZ e1.1
  refine⟨ys[0],?_,e0.1,e0.2⟩
  congr 1
  apply Array.ext
  ·simp[h2]
  ·intro i h3 h4
   match i,h3 with
   |0,_=>rfl
   |1,_=>exact e2
   |i+2,h3=>omega
 have fin:∀{G2:Gh}{y0:Value},pb G2 w [.sl true sz n cs] y0->pb G2 w [.sl true sz n cs,.bool x] (.tuple #[y0,.bool x]):=by
  intro G2 y0 h
  refine⟨_,rfl,rfl,fun j a y hj hy=>?_⟩
  match j,hj with
  |0,hj=>cases hj;cases hy;exact h
  |1,hj=>cases hj;cases hy;exact⟨.bool _,trivial⟩
 rcases h with⟨b,cap,sp,rfl,hb,hc,hn,hl,eD⟩|⟨rfl,rfl,eD,b,rfl⟩
 ·obtain⟨y0,rfl,k0,k0'⟩:=two hr
  obtain⟨G2,k1,k2,k3,k4⟩:=Td (v:=y0) hs hg hb hc hn hl hl2 hvw ⟨k0,k0'⟩
  exact⟨G2,k1,k2,k3.sub eD,fin k4⟩
 ·obtain⟨y0,rfl,k0,k0'⟩:=two hr
  exact⟨G,mn.refl G,hg,hs.sub eD,fin (PN (b:=b) ⟨k0,k0'⟩)⟩
theorem uB{s0 s:ab}{B:Nat}{g:l9}{a pN:Int}{r:List UInt8×Bool}(h:eC s0 s B g)(ht:g.total<=2147483647)(hr:nf g a pN=some r):FE prog 61 [.ref B 0,.int .i64 a,.int .i64 pN] s [.sl true 1 r.1.length (flat r.1),.bool r.2] s:=by
 refine FN.conv (Fg (Q:=fun rs t=>rs=[.sl true 1 r.1.length (flat r.1),.bool r.2]/\t=s\/((∃b cap sp,rs=[.arr b 0 r.1.length cap,.bool r.2]/\t b=some (.cells (flat r.1++sp))/\0<cap/\r.1.length<=cap/\(flat r.1++sp).length=cap*1/\Sub s (t.del b))\/(r.1.length=0/\flat r.1=[]/\Sub s t/\∃b,rs=[.arr b 0 0 0,.bool r.2]))) h ht ⟨r,hr,fun e1 e2=>?_,fun e1 b hb=>?_,fun r' s' h1 h2=>?_⟩) fun rs t hq G w v hg hs hv=>?_
 ·rw[e1,e2];exact .inl ⟨rfl,rfl⟩
 ·rw[e1];exact .inr (.inr ⟨rfl,rfl,(Sub.refl s).set hb,b,rfl⟩)
 ·cases r' with
  |none=>
   have e:r.1=[]:=h2
   rw[e];exact .inr (.inr ⟨rfl,rfl,h1,0,rfl⟩)
  |some x=>
   obtain⟨b,cap,sp⟩:=x
   obtain⟨k1,k2,k3,k4,k5⟩:=h2
   refine .inr (.inl ⟨b,cap,sp,rfl,bP,k2,k3,k4,?_⟩)
   show Sub s ((s'.set b _).del b)
   rw[j6 k1];exact h1
 ·rcases hq with⟨rfl,rfl⟩|hq
  ·exact⟨_,_,G,⟨rfl,rfl⟩,mn.refl G,hg,hs,hv⟩
  ·obtain⟨G2,k1,k2,k3,k4⟩:=aat hg hs (by rw[al];rfl) (aC _) hq hv
   exact⟨_,_,G2,⟨rfl,rfl⟩,k1,k2,k3,k4⟩
end Go.AB
end
section
set_option maxRecDepth 4000
namespace Go.AB
open Go
open Go.Proofs.Tryz (prog)
attribute[-go_sem] Nat.add_zero nr bV
def xR:IC:=
 (af [mi 4 0,i1 5 (.aq zz),mi 6 0,mi 7 0] [0,1,5]
 (af [mi 8 4096] [0,1,5,8]
 (.block 0 (.loop [(0,false),(1,false),(5,false),(8,false)] (.seq (.block 1 (af [mv 18 0,mv 19 1,mv 20 8,c3 21 61 18 19 20,iV 17 21,ex 22 17 0,ex 23 17 1,mt 9 22,mv 10 23] [0,1,5,8,9,10]
 (af [mv 25 9,mv 26 10,i1 27 (.call 118 [(.t 25),(.c (.int .i64 0)),(.t 26)]),iV 24 27,ex 28 24 0,ex 29 24 1,ex 30 24 2,ex 31 24 3,i1 12 (.aq zz),mv 11 28,st 6 12 29,mv 13 30,mv 14 31] [0,1,5,8,9,11,12,14]
 (.block 2 (af [mv 36 14,bn 37 .eql 36 6,mv 38 37,dh 39 9 38 true,dq 40 38 true (.len 0 (.t 39)),dh 41 8 38 true,sY 42 38 true .eql 40 41,pf 43 38 42,mv 35 43] [0,1,5,8,11,12,14,35]
 (.cond (.t 35) .skip
 (af [mv 45 14,bn 46 .eql 45 6,mv 44 46] [0,1,5,11,12,14,44]
 (.cond (.t 44) (.seq (.wq [5] 9 [lm 47 6 12,mv 48 0,mv 49 1,c2 50 63 48 49,mv 51 14,mi 4 0,st 6 5 47,mv 6 50,mv 7 51] [4,5,6,7])
 .ret)
 (af [mv 53 14,bn 54 .neq 53 0,mv 52 54] [5,11,12,14,52]
 (.cond (.t 52) (.seq (.bN (some 2) [lm 55 6 12,mi 4 0,st 6 5 55,mi 6 0,mi 7 18] [4,5,6,7])
 .ret)
 (.seq (.wq [5] 7 [mv 32 11,lm 33 6 12,mv 34 14,mv 4 32,st 6 5 33,mi 6 0,mv 7 34] [4,5,6,7])
 .ret)))))))))))
 (.bN none [mv 15 8,bn 16 .mul 15 2,mv 8 16] [0,1,5,8]))))))
theorem I7:aE prog 148 56 [⟨4,true,none⟩,⟨5,false,some (6,true)⟩,⟨6,true,none⟩,⟨7,true,none⟩] xR=true:=by kernel_rfl
abbrev OBJ(x:ag):AV:=.agg [.int .i64 x.V.Kind,.int .i64 x.V.N,.str x.V.S.b,.sl false 4 x.V.L.length (flat x.V.L),.bool x.Stream,.str x.Data.b]
def XI(g:l9)(a:Int):Int->Option (Int⊕(Int×ag×Int×Int)):=fun pN=>
 aW (nf g a pN) fun x=>
 aW (qf x.1 0 x.2) fun y=>
 if(y.2.2.2==6)&&((x.1.length:Int)==pN)then some (.inl (bj (pN*2)))
 else if y.2.2.2==6 then aW (uA g.known (max 0 a)) fun u=>some (.inr (0,y.2.1,min g.total u,y.2.2.2))
 else if y.2.2.2 !=0 then some (.inr (0,y.2.1,0,18))
 else some (.inr (y.1,y.2.1,0,y.2.2.2))
def yS(g:l9)(a:Int):Option (Int×ag×Int×Int):=iter (XI g a) 4096
theorem IW{s0 s:ab}{B:Nat}{g:l9}{a:Int}{Q:List AV->ab->Prop}(h:eC s0 s B g)(ht:g.total<=2147483647):ok (yS g a) (fun r=>Q [.int .i64 r.1,OBJ r.2.1,.int .i64 r.2.2.1,.int .i64 r.2.2.2] s)->FN prog 148 [.ref B 0,.int .i64 a] s Q:=by
 intro hh
 refine FN.lr (FO I7 rfl rfl ?_)
 rw[xR]
 revert hh
 rw[yS]
 simp -implicitDefEqProofs only[go_sem,seval]
 refine ga (fun pN U=>U=⟨[(0,.ref B 0),(1,.int .i64 a),(5,.loc [.int .i64 0,.int .i64 0,.str [],.sl true 4 0 [],.bool false,.str []]),(8,.int .i64 pN)],[],s⟩) rfl ?_
 rintro J pN U rfl
 rw[XI]
 simp -implicitDefEqProofs only[go_sem,seval]
 rintro⟨x,hx,hh⟩
 refine FE.app (uB h ht hx) ?_
 refine⟨rfl,?_⟩
 simp -implicitDefEqProofs only[go_sem,seval]
 obtain⟨y,hy,hh⟩:=hh
 refine FE.app (FT hy) ?_
 refine⟨rfl,?_⟩
 revert hh
 simp -implicitDefEqProofs only[go_sem,seval]
 rintro⟨c1,c2⟩
 refine⟨fun hc=>c1 hc _ rfl,fun hc=>⟨fun hd=>?_,fun hd=>⟨fun he=>⟨s,Sub.refl s,((c2 hc).2 hd).1 he⟩,fun he=>⟨s,Sub.refl s,((c2 hc).2 hd).2 he⟩⟩⟩⟩
 obtain⟨u,hu,hq⟩:=(c2 hc).1 hd
 refine⟨[.int .i64 (min g.total u)],rfl,DD h ⟨u,hu,rfl,rfl⟩,?_⟩
 simp -implicitDefEqProofs only[go_sem,seval]
 trace_state
 exact⟨s,Sub.refl s,hq⟩
end Go.AB
end
section
set_option maxRecDepth 4000
namespace Go.AB
open Go
open Go.Proofs.Tryz (prog)
attribute[-go_sem] cE da bM cD
structure cF where
 fE:(List Int)
 cM:Int
instance:aK cF:=⟨2,fun x=>[.sl false 1 x.fE.length (flat x.fE),.int .i64 x.cM],(cF.mk [] 0),by decide,fun _=>rfl,fun _=>rfl⟩
def sx(t_0:cF)(n_1:Int):Option (Int×Bool):=
 aG ((!((decide (n_1<1))||(decide (n_1>(t_0.fE.length:Int)))))=true->0<=bj (n_1 -1)/\bj (n_1 -1)<t_0.fE.length)<|
 if((decide (n_1<1))||(decide (n_1>(t_0.fE.length:Int))))||(decide (ix t_0.fE (bj (n_1 -1))<0))then
  none
 else
  aG (0<=bj (n_1 -1)/\bj (n_1 -1)<t_0.fE.length)<|
  some (ix t_0.fE (bj (n_1 -1)),true)
def xP:IC:=
 (af [i1 2 (.dc 2 (.t 0)),mi 4 0,c6 5 (.bool false)] [1,2]
 (.seq (af [mv 6 1,bn 7 .lss 6 1,mv 8 7,dh 9 1 8 false,fg 10 8 false 0 2,lg 11 8 false 1 10,dq 12 8 false (.len 0 (.t 11)),sY 13 8 false .gtr 9 12,po 14 8 13,mv 15 14,fg 16 15 false 0 2,lg 17 15 false 1 16,dh 18 1 15 false,kS 19 15 false .sub 18 1,dq 20 15 false (.indexAddr jV (.t 17) (.t 19)),lg 21 15 false 1 20,kS 22 15 false .lss 21 0,po 23 15 22] [1,2,23]
 (.cond (.t 23) .dead
 .skip))
 (af [fa 24 0 2,ld 25 1 24,mv 26 1,bn 27 .sub 26 1,ia 28 jV 25 27,ld 29 1 28,mv 4 29,c6 5 (.bool true)] [4,5]
 .ret)))
theorem I5:aE prog 147 30 [⟨4,true,none⟩,⟨5,true,none⟩] xP=true:=by kernel_rfl
theorem IM{t_0 n_1}{s:ab}{Q:List AV->ab->Prop}:ok (sx t_0 n_1) (fun r=>Q [.int .i64 r.1,.bool r.2] s)->FN prog 147 [.agg [.sl false 1 t_0.fE.length (flat t_0.fE),.int .i64 t_0.cM],.int .i64 n_1] s Q:=by
 intro h
 refine FO I5 rfl rfl ?_
 revert h
 rw[xP,sx]
 repeat'(first
  |simp -implicitDefEqProofs only[go_sem,seval])
theorem IL{t_0 n_1}{s:ab}{r:Int×Bool}(h:sx t_0 n_1=some r):FE prog 147 [.agg [.sl false 1 t_0.fE.length (flat t_0.fE),.int .i64 t_0.cM],.int .i64 n_1] s [.int .i64 r.1,.bool r.2] s:=IM ⟨r,h,rfl,rfl⟩
end Go.AB
end
section
set_option maxRecDepth 4000
namespace Go.AB
open Go
open Go.Proofs.Tryz (prog)
attribute[-go_sem] Nat.add_zero nr bV
def Gb:IC:=
 (af [c6 2 (.bool false)] [0]
 (af [mv 3 0,i1 4 (.Ov true (.t 3) (.c (.dK))),mv 5 4,dh 6 0 5 true,dq 7 5 true (.nilCheck (.t 6)),fg 8 5 true 2 7,lg 9 5 true 1 8,dq 10 5 true (.Za true (.t 9)),pf 11 5 10,mv 2 11] [2]
 .ret))
theorem Rl:aE prog 152 12 [⟨2,true,none⟩] Gb=true:=by kernel_rfl
def Az:IC:=
 (af [mi 2 0] [0]
 (.seq (af [mv 3 0,c1 4 152 3,no 5 4] [0,5]
 (.cond (.t 5) (af [mi 2 0] [2]
 .ret)
 .skip))
 (af [mv 6 0,nc 7 6,fa 8 0 7,ld 9 1 8,mv 2 9] [2]
 .ret)))
theorem Mc:aE prog 149 10 [⟨2,true,none⟩] Az=true:=by kernel_rfl
def Df:IC:=
 (af [i1 4 (.aq zz),mi 5 0,mi 6 0] [0,1,4]
 (.seq (af [mv 7 0,c1 8 152 7,no 9 8] [0,1,4,9]
 (.cond (.t 9) (af [i1 10 (.build zz []),st 6 4 10,mi 5 0,mi 6 1] [4,5,6]
 .ret)
 .skip))
 (af [mv 11 0,nc 12 11,fa 13 2 12,ld 14 1 13,mv 15 1,i1 16 (.cu (.t 14) [(.t 15)]),ex 17 16 0,ex 18 16 1,ex 19 16 2,st 6 4 17,mv 5 18,mv 6 19] [4,5,6]
 .ret)))
theorem OY:aE prog 95 20 [⟨4,false,some (6,true)⟩,⟨5,true,none⟩,⟨6,true,none⟩] Df=true:=by kernel_rfl
def Dg:IC:=
 (af [i1 2 (.oz 1 (.t 0)),i1 3 (.oz 2 (.t 1)),c6 4 (.dK)] [2,3]
 (af [fa 5 1 3,ld 6 1 5,fa 7 0 3,ld 8 1 7,le 9 0 8,i1 10 (.kq 146 [] [(.t 3),(.t 2)]),i1 11 (.build [.int .i64 0,.int .i64 0,.oK] [(0,1,(.t 6)),(1,1,(.t 9)),(2,1,(.t 10))]),i1 12 (.oz 3 (.t 11)),mv 4 12] [4]
 .ret))
theorem OZ:aE prog 92 13 [⟨4,true,none⟩] Dg=true:=by kernel_rfl
def Ay:IC:=
 (af [i1 4 (.aq zz),mi 5 0,mi 6 0] [0,1,2,4]
 (af [lm 14 2 1,mv 15 0,c2 16 147 14 15,iV 13 16,ex 17 13 0,ex 18 13 1,mv 7 17,mv 8 18] [0,2,4,7,8]
 (.seq (.block 0 (af [mv 20 8,no 21 20,mv 19 21] [0,2,4,7,19]
 (.cond (.t 19) (af [i1 22 (.build zz []),st 6 4 22,mi 5 0,mi 6 0] [4,5,6]
 .ret)
 (af [mv 24 7,ld 25 1 2,c1 26 62 25,bt 27 .geq 24 26,mv 23 27] [0,2,4,7,23]
 (.cond (.t 23) (af [i1 28 (.build zz []),st 6 4 28,mi 5 0,mi 6 18] [4,5,6]
 .ret)
 .skip)))))
 (af [ld 30 1 2,mv 31 7,c2 32 148 30 31,iV 29 32,ex 33 29 0,ex 34 29 1,ex 35 29 2,ex 36 29 3,i1 10 (.aq zz),mv 9 33,st 6 10 34,mv 11 35,mv 12 36] [0,4,9,10,11,12]
 (.seq (.block 1 (af [mv 38 12,bn 39 .neq 38 0,mv 37 39] [0,4,9,10,11,12,37]
 (.cond (.t 37) (af [i1 40 (.build zz []),mv 41 11,mv 42 12,st 6 4 40,mv 5 41,mv 6 42] [4,5,6]
 .ret)
 (af [mv 44 9,mv 45 0,bt 46 .neq 44 45,mv 43 46] [4,10,43]
 (.cond (.t 43) (af [i1 47 (.build zz []),st 6 4 47,mi 5 0,mi 6 18] [4,5,6]
 .ret)
 .skip)))))
 (af [lm 48 6 10,st 6 4 48,mi 5 0,mi 6 0] [4,5,6]
 .ret))))))
theorem Mb:aE prog 146 49 [⟨4,false,some (6,true)⟩,⟨5,true,none⟩,⟨6,true,none⟩] Ay=true:=by kernel_rfl
def uw(s:ab)(F:Nat)(root count:Int)(c:Nat)(en:List AV):Prop:=s F=some (.cells [.int .i64 root,.int .i64 count,.fn c [] en])
theorem FM{s:ab}{F c:Nat}{root count:Int}{en:List AV}{Q:List AV->ab->Prop}(h:uw s F root count c en)(hq:Q [.bool true] s):FN prog 152 [.ref F 0] s Q:=by
 have h:s F=some (.cells [.int .i64 root,.int .i64 count,.fn c [] en]):=h
 refine FN.lr (FO Rl rfl rfl ?_)
 rw[Gb]
 simp -implicitDefEqProofs only[go_sem,seval,h]
 exact⟨s,Sub.refl s,hq⟩
theorem Ai{s:ab}{F c:Nat}{root count:Int}{en:List AV}{Q:List AV->ab->Prop}(h:uw s F root count c en)(hq:Q [.int .i64 root] s):FN prog 149 [.ref F 0] s Q:=by
 refine FN.lr (FO Mc rfl rfl ?_)
 rw[Az]
 simp -implicitDefEqProofs only[go_sem,seval]
 refine FM h ?_
 have h:s F=some (.cells [.int .i64 root,.int .i64 count,.fn c [] en]):=h
 simp -implicitDefEqProofs only[go_sem,seval,h]
 exact⟨fun h=>h.elim,fun _=>⟨s,Sub.refl s,hq⟩⟩
abbrev TAB(t:cF):List AV:=[.sl false 1 t.fE.length (flat t.fE),.int .i64 t.cM]
def aaY(s:ab)(F B:Nat)(t:cF):Prop:=∃tb sb,uw s F t.cM t.fE.length 146 [.ref tb 0,.ref sb 0]/\s tb=some (.cells (TAB t))/\s sb=some (.cells [.ref B 0])
theorem OA{s:ab}{B:Nat}{t:cF}{Q:List AV->ab->Prop}(hq:∀F s',Sub s s'->aaY s' F B t->Q [.ref F 0] s'):FN prog 92 [.ref B 0,.agg (TAB t)] s Q:=by
 refine FN.lr (FO OZ rfl rfl ?_)
 rw[Dg]
 simp -implicitDefEqProofs only[go_sem,seval]
 intro sb hsb tb htb F hF
 have n1:=htb
 rw[cY]at n1
 have n2:=hF
 rw[cY]at n2
 have n3:=n2.2
 rw[cY]at n3
 exact⟨_,Sub.refl _,hq F _ ((((Sub.refl s).set hsb).set htb).set hF) ⟨tb,sb,bd ..,by rw[ai (Ne.symm n2.1),bd],by rw[ai (Ne.symm n3.1),ai (Ne.symm n1.1),bd]⟩⟩
def IA:ag:=⟨⟨0,0,⟨[]⟩,[]⟩,false,⟨[]⟩⟩
def BM(g:l9)(t:cF)(n:Int):Option (ag×Int×Int):=
 aW (sx t n) fun p=>
 if !p.2 then some (IA,0,0)
 else if decide (p.1>=g.total)then some (IA,0,18)
 else aW (yS g p.1) fun r=>
 if r.2.2.2 !=0 then some (IA,r.2.2.1,r.2.2.2)
 else if r.1 !=n then some (IA,0,18)
 else some (r.2.1,0,0)
theorem LW{s0 s:ab}{B tb sb:Nat}{g:l9}{t:cF}{n:Int}{Q:List AV->ab->Prop}(h:eC s0 s B g)(ht:g.total<=2147483647)(h1:s tb=some (.cells (TAB t)))(h2:s sb=some (.cells [.ref B 0])):
 ok (BM g t n) (fun r=>Q [OBJ r.1,.int .i64 r.2.1,.int .i64 r.2.2] s)->FN prog 146 [.int .i64 n,.ref tb 0,.ref sb 0] s Q:=by
 intro hh
 refine FN.lr (FO Mb rfl rfl ?_)
 rw[Ay]
 revert hh
 rw[BM]
 simp -implicitDefEqProofs only[go_sem,seval,h1]
 rintro⟨p,hp,c1,c2⟩
 refine FE.app (IL hp) ?_
 refine⟨rfl,?_⟩
 simp -implicitDefEqProofs only[go_sem,seval,h2]
 refine⟨fun hc=>⟨s,Sub.refl s,c1 hc⟩,fun hc=>?_⟩
 have c2:=c2 hc
 refine tq h ?_
 simp -implicitDefEqProofs only[go_sem,seval,h2]
 refine⟨fun hd=>⟨s,Sub.refl s,c2.1 hd⟩,fun hd=>?_⟩
 refine IW h ht (cI (c2.2 hd) fun r hr=>?_)
 revert hr
 simp -implicitDefEqProofs only[go_sem,seval]
 exact fun⟨d1,d2⟩=>⟨fun e=>⟨s,Sub.refl s,d1 e⟩,fun e=>⟨fun f=>⟨s,Sub.refl s,(d2 e).1 f⟩,fun f=>⟨s,Sub.refl s,(d2 e).2 f⟩⟩⟩
theorem C7{s:ab}{F c:Nat}{root count n:Int}{en:List AV}{Q:List AV->ab->Prop}{r:ag×Int×Int}(h:uw s F root count c en)(hok:(pz prog c=true)=True)
 (hv:bZ (fun x=>match x with|.c a=>a|_=>.undef) (en.map .c)=some en)(hc:FE prog c ([.int .i64 n]++en) s [OBJ r.1,.int .i64 r.2.1,.int .i64 r.2.2] s)(hq:Q [OBJ r.1,.int .i64 r.2.1,.int .i64 r.2.2] s):FN prog 95 [.ref F 0,.int .i64 n] s Q:=by
 refine FN.lr (FO OY rfl rfl ?_)
 rw[Df]
 simp -implicitDefEqProofs only[go_sem,seval]
 refine FM h ?_
 have h:s F=some (.cells [.int .i64 root,.int .i64 count,.fn c [] en]):=h
 simp -implicitDefEqProofs only[go_sem,seval,h,hok]
 refine⟨fun h=>h.elim,fun _=>FE.app hc ?_⟩
 refine⟨rfl,?_⟩
 simp -implicitDefEqProofs only[go_sem,seval]
 exact⟨s,Sub.refl s,hq⟩
end Go.AB
end
section
set_option maxRecDepth 4000
namespace Go.AB
open Go
open Go.Proofs.Tryz (prog)
attribute[-go_sem] Nat.add_zero nr bV
structure aH where
 ae:(List ag)
 cM:Int
instance:aK aH:=⟨2,fun x=>[.sl false 6 x.ae.length (flat x.ae),.int .i64 x.cM],(aH.mk [] 0),by decide,fun _=>rfl,fun _=>rfl⟩
@[go_sem]theorem IK(x:aH):aK.cells x=[.sl false 6 x.ae.length (flat x.ae),.int .i64 x.cM]:=rfl
def Ga:IC:=
 (af [i1 1 (.oz 2 (.t 0)),c6 2 (.dK)] [1]
 (af [fa 3 1 1,ld 4 1 3,fa 5 0 1,ld 6 1 5,le 7 0 6,i1 8 (.kq 48 [] [(.t 1)]),i1 9 (.build [.int .i64 0,.int .i64 0,.oK] [(0,1,(.t 4)),(1,1,(.t 7)),(2,1,(.t 8))]),i1 10 (.oz 3 (.t 9)),mv 2 10] [2]
 .ret))
theorem Rk:aE prog 18 11 [⟨2,true,none⟩] Ga=true:=by kernel_rfl
def Dh:IC:=
 (af [i1 3 (.aq zz),mi 4 0,mi 5 0] [0,1,3]
 (.seq (af [mv 6 0,bn 7 .lss 6 1,mv 8 7,dh 9 0 8 false,fg 10 8 false 0 1,lg 11 8 false 1 10,dq 12 8 false (.len 0 (.t 11)),sY 13 8 false .gtr 9 12,po 14 8 13] [0,1,3,14]
 (.cond (.t 14) (af [i1 15 (.build zz []),st 6 3 15,mi 4 0,mi 5 0] [3,4,5]
 .ret)
 .skip))
 (af [fa 16 0 1,ld 17 1 16,mv 18 0,bn 19 .sub 18 1,ia 20 Qu 17 19,lm 21 6 20,st 6 3 21,mi 4 0,mi 5 0] [3,4,5]
 .ret)))
theorem O0:aE prog 48 22 [⟨3,false,some (6,true)⟩,⟨4,true,none⟩,⟨5,true,none⟩] Dh=true:=by kernel_rfl
abbrev YQ(d:aH):List AV:=[.sl false 6 d.ae.length (flat d.ae),.int .i64 d.cM]
theorem yR{s:ab}{d:aH}{Q:List AV->ab->Prop}(hq:∀F db s',Sub s s'->uw s' F d.cM d.ae.length 48 [.ref db 0]->s' db=some (.cells (YQ d))->Q [.ref F 0] s'):FN prog 18 [.agg (YQ d)] s Q:=by
 refine FN.lr (FO Rk rfl rfl ?_)
 rw[Ga]
 simp -implicitDefEqProofs only[go_sem,seval]
 intro db hdb F hF
 have n2:=hF
 rw[cY]at n2
 exact⟨_,Sub.refl _,hq F db _ (((Sub.refl s).set hdb).set hF) (bd ..) (by rw[ai (Ne.symm n2.1),bd])⟩
def uP(d:aH)(n:Int):Option (ag×Int×Int):=if decide (n<1)||decide (n>(d.ae.length:Int))then some (IA,0,0)else some (ix d.ae (n -1),0,0)
theorem OB{s:ab}{d:aH}{db:Nat}{n:Int}{Q:List AV->ab->Prop}(hl:d.ae.length<=2147483647)(h:s db=some (.cells (YQ d))):ok (uP d n) (fun r=>Q [OBJ r.1,.int .i64 r.2.1,.int .i64 r.2.2] s)->FN prog 48 [.int .i64 n,.ref db 0] s Q:=by
 intro hh
 refine FN.lr (FO O0 rfl rfl ?_)
 rw[Dh]
 revert hh
 rw[uP]
 simp -implicitDefEqProofs only[go_sem,seval,h]
 rintro⟨c1,c2⟩
 refine⟨fun hc=>⟨s,Sub.refl s,c1 hc⟩,fun hc=>?_⟩
 have hn:1<=n/\n<=d.ae.length:=by simp at hc;omega
 have c2:=c2 hc
 have hw:bj (n -1)=n -1:=aI (by omega) (by omega)
 rw[hw]
 exact⟨by omega,s,Sub.refl s,c2⟩
theorem eC.sub{s0 s s':ab}{B:Nat}{g:l9}(h:eC s0 s B g)(hs:Sub s s'):eC s0 s' B g:=by
 obtain⟨h1,h2,M,es,h3,h4,h5,h6,h7,h8⟩:=h
 exact⟨fun b o hb=>hs b o (h1 b o hb),h2,M,es,hs _ _ h3,h4,hs _ _ h5,h6,fun k=>(h7 k).mono fun b l hb=>hs b _ hb,h8⟩
structure nd where
 B:Nat
 ab0:Int
 get:Int->Option (ag×Int×Int)
def dj(s:ab)(f:nd):Prop:=∀s',Sub s s'->FE prog 149 [.ref f.B 0] s' [.int .i64 f.ab0] s'/\∀n r,f.get n=some r->FE prog 95 [.ref f.B 0,.int .i64 n] s' [OBJ r.1,.int .i64 r.2.1,.int .i64 r.2.2] s'
theorem dj.mono{s s':ab}{f:nd}(h:dj s f)(hs:Sub s s'):dj s' f:=fun s2 h2=>h s2 fun b o hb=>h2 b o (hs b o hb)
def sq(f:nd):Option Int:=some f.ab0
def fA(f:nd)(n:Int):Option (ag×Int×Int):=f.get n
theorem IG{f:nd}{s:ab}{r:Int}(hv:dj s f)(h:sq f=some r):FE prog 149 [.ref f.B 0] s [.int .i64 r] s:=by
 injection h with h
 rw[<-h]
 exact(hv s (Sub.refl s)).1
theorem ox{f:nd}{n:Int}{s:ab}{r:ag×Int×Int}(hv:dj s f)(h:fA f n=some r):FE prog 95 [.ref f.B 0,.int .i64 n] s [OBJ r.1,.int .i64 r.2.1,.int .i64 r.2.2] s:=(hv s (Sub.refl s)).2 n r h
def FK(B:Nat)(d:aH):nd:=⟨B,d.cM,uP d⟩
theorem LP{s:ab}{F db:Nat}{d:aH}(hl:d.ae.length<=2147483647)(h:uw s F d.cM d.ae.length 48 [.ref db 0])(hd:s db=some (.cells (YQ d))):dj s (FK F d):=by
 intro s' hs
 have h':uw s' F d.cM d.ae.length 48 [.ref db 0]:=hs _ _ h
 refine⟨Ai h' ⟨rfl,rfl⟩,fun n r hr=>?_⟩
 exact C7 h' (eq_true (by kernel_rfl)) rfl (OB hl (hs _ _ hd) ⟨r,hr,rfl,rfl⟩) ⟨rfl,rfl⟩
def adB(B:Nat)(g:l9)(t:cF):nd:=⟨B,t.cM,BM g t⟩
theorem ZM{s0 s:ab}{F B:Nat}{g:l9}{t:cF}(h:eC s0 s B g)(ht:g.total<=2147483647)(hN:aaY s F B t):dj s (adB F g t):=by
 obtain⟨tb,sb,hF,htb,hsb⟩:=hN
 intro s' hs
 have h':uw s' F t.cM t.fE.length 146 [.ref tb 0,.ref sb 0]:=hs _ _ hF
 refine⟨Ai h' ⟨rfl,rfl⟩,fun n r hr=>?_⟩
 exact C7 h' (eq_true (by kernel_rfl)) rfl (LW (h.sub hs) ht (hs _ _ htb) (hs _ _ hsb) ⟨r,hr,rfl,rfl⟩) ⟨rfl,rfl⟩
structure II where
 B:Nat
 g:l9
def iW(s:ab)(x:II):Prop:=(∃s0,eC s0 s x.B x.g)/\x.g.total<=2147483647
theorem iW.mono{s s':ab}{x:II}(h:iW s x)(hs:Sub s s'):iW s' x:=by
 obtain⟨⟨s0,h1⟩,h2⟩:=h
 exact⟨⟨s0,h1.sub hs⟩,h2⟩
def rk(x:II)(a n:Int):Option (List UInt8×Bool):=nf x.g a n
def ph(x:II):Option Int:=some x.g.total
theorem zW{x:II}{a n:Int}{s:ab}{r:List UInt8×Bool}(hv:iW s x)(h:rk x a n=some r):FE prog 61 [.ref x.B 0,.int .i64 a,.int .i64 n] s [.sl true 1 r.1.length (flat r.1),.bool r.2] s:=by
 obtain⟨⟨s0,h1⟩,h2⟩:=hv
 exact uB h1 h2 h
theorem xF{x:II}{s:ab}{r:Int}(hv:iW s x)(h:ph x=some r):FE prog 62 [.ref x.B 0] s [.int .i64 r] s:=by
 obtain⟨⟨s0,h1⟩,h2⟩:=hv
 injection h with h
 rw[<-h]
 exact tq h1 ⟨rfl,rfl⟩
end Go.AB
end
section
namespace Go.AB
open Go
open Go.Proofs.Tryz (prog)
attribute[-go_sem] Nat.add_zero nr bV
def F6:IC:=
 (af [c6 6 (.arr 0 0 0 0)] [0,1,2]
 (af [mv 8 0,mv 9 1,mv 10 2,mv 11 0,le 12 0 11,i1 13 (.slice 4 (.t 8) (some (.t 9)) (some (.t 10)) (some (.t 12)))] [0,1,2]
 (.seq (af [mv 14 1,mv 15 2,bt 16 .eql 14 15] [0,1,2,16]
 (.cond (.t 16) (af [mv 17 0,mv 6 17] [6]
 .ret)
 .skip))
 (af [mv 18 0,le 19 0 18,mv 7 19] [0,1,2,7]
 (.seq (.bN (some 6) [mv 20 0,mv 21 1,PV 22 4 20 21,mv 23 0,mv 24 2,rj 25 4 23 24,i1 26 (.eV 4 56 qT (.t 22) (.t 25)),mv 0 26] [0,7])
 (af [mv 27 0,mv 28 0,le 29 0 28,mv 30 7,i1 31 (.slice 4 (.t 27) (some (.t 29)) (some (.t 30)) none),i0 (.mo qT (.t 31))] [0]
 (af [mv 32 0,mv 6 32] [6]
 .ret)))))))
theorem Rg:aE prog 111 33 [⟨6,true,none⟩] F6=true:=by kernel_rfl
theorem Od{b cap i j:Nat}{l:List aa}{sp:List AV}{s:ab}{Q:List AV->ab->Prop}(hs:s b=some (.cells (flat l++sp)))(hl:(flat l++sp).length=cap*4)(hn:l.length<=cap)(hij:i<j)(hj:j<=l.length)(V9:(l.length:Int)<=9223372036854775807)
 (hq:Q [.arr b 0 (l.length -(j -i)) cap] (s.set b (.cells (flat (l.take i++l.drop j)++(flat (List.replicate (j -i) (⟨0,0,⟨[]⟩,[]⟩:aa))++sp))))):
 FN prog 111 [.arr b 0 l.length cap,.int .i64 i,.int .i64 j] s Q:=by
 refine FO Rg rfl rfl ?_
 rw[F6]
 simp -implicitDefEqProofs only[go_sem,seval,hs]
 refine⟨by omega,fun h=>by have:=eq_of_beq h;omega,fun _=>⟨by omega,by omega,?_⟩⟩
 have eO:ur s 4 (.arr b (iY 0 cap j 4) (l.length -j) (cap -j))=some (l.length -j,flat (l.drop j)):=by
  by_cases hjn:j=l.length
  ·subst hjn
   rw[Nat.sub_self,UT,List.drop_length];rfl
  ·rw[fB (by omega),Nat.zero_add,wy hs (by rw[hl,<-Nat.add_mul];exact Nat.mul_le_mul_right _ (by omega)),gA l sp 4 j _ rfl (by omega),aC,List.take_of_length_le (by simp)]
 rw[eO]
 refine nh rfl hs (by rw[hl];omega) (by omega) ?_
 have hst:=gz l (l.drop j) sp 4 i rfl (by simp;omega)
 rw[Nat.zero_add,hst]
 generalize hl1:l.take i++l.drop j++l.drop (i+(l.drop j).length)=l1
 have ahd:l1.length=l.length:=by subst hl1;simp;omega
 have hz:(List.replicate (j -i) [.int .i64 0,.int .i64 0,.str [],.sl false 4 0 []]).flatten=flat (List.replicate (j -i) (⟨0,0,⟨[]⟩,[]⟩:aa)):=by rw[fX];rfl
 have hsp:(flat l1++sp).length=cap*4:=by rw[<-hl,List.length_append,List.length_append,al,al,ahd]
 have e1:i+(l.length -j)<cap:=by omega
 have L4:=gz l1 (List.replicate (j -i) (⟨0,0,⟨[]⟩,[]⟩:aa)) sp 4 (i+(l.length -j)) rfl (by simp;omega)
 have e2:l1.take (i+(l.length -j))=l.take i++l.drop j:=by
  subst hl1
  rw[List.take_append_of_le_length (by simp;omega),List.take_of_length_le (by simp;omega)]
 have e3:l1.drop (i+(l.length -j)+(List.replicate (j -i) (⟨0,0,⟨[]⟩,[]⟩:aa)).length)=[]:=by rw[List.drop_eq_nil_iff];simp;omega
 rw[e2,e3,List.append_nil]at L4
 generalize hl2:l.take i++l.drop j=l2 at L4 hq
 simp -implicitDefEqProofs only[go_sem,seval]
 refine⟨by omega,?_⟩
 rw[fB e1]
 refine yO rfl bP (by
  rw[hsp]
  show 0+(i+(l.length -j))*4+(l.length -(i+(l.length -j)))*4<=cap*4
  omega) ?_
 rw[show l.length -(i+(l.length -j))=j -i by omega,Nat.zero_add,hz,L4]
 simp -implicitDefEqProofs only[go_sem,seval]
 rw[show i+(l.length -j)=l.length -(j -i) by omega,List.append_assoc]
 exact hq
def KC:IC:=
 (af [c6 2 (.arr 0 0 0 0)] [0]
 (.seq (af [mv 3 0,i1 4 (.YE false (.t 3))] [0,4]
 (.cond (.t 4) (af [c6 2 (.arr 0 0 0 0)] [2]
 .ret)
 .skip))
 (af [i1 5 (.jR 4 0 [] []),mv 6 0,i1 7 (.eV 4 56 qT (.t 5) (.t 6)),mv 2 7] [2]
 .ret)))
theorem Uc:aE prog 112 8 [⟨2,true,none⟩] KC=true:=by kernel_rfl
def LJ(l:List aa)(s:ab)(rs:List AV)(s':ab):Prop:=(∃b cap sp,rs=[.arr b 0 l.length cap]/\s b=none/\0<cap/\l.length<=cap/\(flat l++sp).length=cap*4/\views (flat l++sp)=flat l++sp/\s'=s.set b (.cells (flat l++sp)))\/(l=[]/\s'=s/\∃b,rs=[.arr b 0 0 0])
theorem FH{o:Bool}{l:List aa}{s:ab}(hr:l.length*56<=room):FN prog 112 [.sl o 4 l.length (flat l)] s (LJ l s):=by
 refine FN.lr (FO Uc rfl rfl ?_)
 generalize hQ:(fun rs s'=>∃s2,Sub s2 s'/\LJ l s rs s2)=Q
 have hq:∀rs s' s2,Sub s2 s'->LJ l s rs s2->Q rs s':=fun rs s' s2 h1 h2=>by rw[<-hQ];exact⟨s2,h1,h2⟩
 rw[KC]
 simp -implicitDefEqProofs only[go_sem,seval]
 intro v hv
 refine⟨fun h=>hq _ _ s (Sub.refl s) (.inr ⟨List.eq_nil_of_length_eq_zero (hv (by simpa using h)),rfl,0,rfl⟩),fun _ b1 hb1=>?_⟩
 rw[gb,aC]
 by_cases hl:l=[]
 ·subst hl
  refine xG rfl rfl (Nat.le_refl 0) ?_
  simp -implicitDefEqProofs only[go_sem,seval]
  exact hq _ _ s ((Sub.refl s).set hb1) (.inr ⟨rfl,rfl,_,rfl⟩)
 ·have hn:0<l.length:=List.length_pos_iff.2 hl
  refine fS rfl rfl (by omega) (by rw[Nat.zero_add];exact hr) fun b2 cap hb2 gZ=>?_
  rw[Nat.zero_add]at gZ
  have hz:(List.replicate (cap -(0+l.length)) [.int .i64 0,.int .i64 0,.str [],.sl false 4 0 []]).flatten=flat (List.replicate (cap -l.length) (⟨0,0,⟨[]⟩,[]⟩:aa)):=by rw[fX,Nat.zero_add];rfl
  rw[hz]
  simp -implicitDefEqProofs only[go_sem,seval,Nat.zero_add,List.nil_append]
  have acV:s b2=none:=((Sub.refl s).set hb1).none hb2
  refine hq _ _ _ (Sub.aiR ((Sub.refl s).set hb1)) (.inl ⟨b2,cap,_,rfl,acV,by omega,gZ,?_,?_,rfl⟩)
  ·rw[List.length_append,al,al,List.length_replicate]
   show l.length*4+(cap -l.length)*4=cap*4
   omega
  ·rw[tj,aC,aC]
theorem TQ{o:Bool}{l:List aa}{s:ab}(hr:l.length*56<=room):FE prog 112 [.sl o 4 l.length (flat l)] s [.us 4 l.length (flat l)] s:=
 FN.Yc (al l) ⟨rfl,rfl⟩ ((FH hr).mono fun rs s' h=>by
  rcases h with⟨b,cap,sp,h1,h2,h3,h4,h5,h6,h7⟩|⟨h1,h2,h3⟩
  ·exact .inl ⟨b,cap,sp,h1,by rw[h7];exact bP,h3,h4,h5,h6,by rw[h7,j6 h2];exact Sub.refl s⟩
  ·subst h1;exact .inr ⟨rfl,rfl,by rw[h2];exact Sub.refl s,h3⟩)
def y6:IC:=
 (af [c6 6 (.arr 0 0 0 0)] [0,1,2]
 (af [mv 10 0,mv 11 1,rj 12 4 10 11] [0,1,2]
 (af [mv 13 2,le 14 0 13,mv 7 14] [0,1,2,7]
 (.seq (af [mv 15 7,bn 16 .eql 15 0] [0,1,2,7,16]
 (.cond (.t 16) (af [mv 17 0,mv 6 17] [6]
 .ret)
 .skip))
 (af [mv 18 0,le 19 0 18,mv 8 19] [0,1,2,7,8]
 (.seq (af [mv 20 1,mv 21 8,bt 22 .eql 20 21] [0,1,2,7,8,22]
 (.cond (.t 22) (af [mv 23 0,mv 24 2,i1 25 (.eV 4 56 qT (.t 23) (.t 24)),mv 6 25] [6]
 .ret)
 .skip))
 (.seq (af [mv 26 8,mv 27 7,bt 28 .add 26 27,mv 29 0,i1 30 (.cap (.t 29)),bt 31 .gtr 28 30] [0,1,2,7,8,31]
 (.cond (.t 31) (af [mv 32 0,mv 33 1,PV 34 4 32 33,mv 35 8,mv 36 7,bt 37 .add 35 36,mv 38 1,bt 39 .sub 37 38,i1 40 (.lz 4 56 qT (.t 34) (.t 39)),mv 9 40] [0,1,2,7,9]
 (af [mv 41 9,mv 42 1,rj 43 4 41 42,mv 44 2,i1 45 (.gN 4 (.t 43) (.t 44))] [0,1,7,9]
 (.seq (.bN (some 8) [mv 46 9,mv 47 1,mv 48 7,bt 49 .add 47 48,rj 50 4 46 49,mv 51 0,mv 52 1,rj 53 4 51 52,i1 54 (.gN 4 (.t 50) (.t 53))] [9])
 (af [mv 55 9,mv 6 55] [6]
 .ret))))
 .skip))
 (af [mv 56 0,mv 57 8,mv 58 7,bt 59 .add 57 58,PV 60 4 56 59,mv 0 60] [0,1,2,7,8]
 (.seq (af [mv 61 2,mv 62 0,mv 63 1,mv 64 7,bt 65 .add 63 64,rj 66 4 62 65,i1 67 (.U7 228 (.t 61) (.t 66)),no 68 67] [0,1,2,7,8,68]
 (.cond (.t 68) (.seq (.bN (some 8) [mv 69 0,mv 70 1,mv 71 7,bt 72 .add 70 71,rj 73 4 69 72,mv 74 0,mv 75 1,rj 76 4 74 75,i1 77 (.gN 4 (.t 73) (.t 76))] [0,1,2])
 (af [mv 78 0,mv 79 1,rj 80 4 78 79,mv 81 2,i1 82 (.gN 4 (.t 80) (.t 81))] [0]
 (af [mv 83 0,mv 6 83] [6]
 .ret)))
 .skip))
 (af [mv 84 0,mv 85 8,rj 86 4 84 85,mv 87 2,i1 88 (.gN 4 (.t 86) (.t 87))] [0,1,7]
 (af [mv 89 0,mv 90 1,rj 91 4 89 90,mv 92 7,c2 93 229 91 92] [0]
 (af [mv 94 0,mv 6 94] [6]
 .ret))))))))))))
theorem Gl:aE prog 189 95 [⟨6,true,none⟩] y6=true:=by kernel_rfl
def F5(l l2:List aa)(i b:Nat)(s:ab)(rs:List AV)(s':ab):Prop:=∃b' dn sp',rs=[.arr b' 0 (l.length+l2.length) dn]/\s' b'=some (.cells (flat (l.take i++l2++l.drop i)++sp'))/\0<dn/\l.length+l2.length<=dn/\(flat (l.take i++l2++l.drop i)++sp').length=dn*4/\Sub (s.del b) (s'.del b')
theorem OS{o:Bool}{b cap i:Nat}{l l2:List aa}{sp:List AV}{s:ab}(hov:NO prog 228)(hs:s b=some (.cells (flat l++sp)))(hl:(flat l++sp).length=cap*4)(hn:l.length<=cap)(hi:i<=l.length)(h2:l2≠[])(hr:(l.length+l2.length)*56<=room):
 FN prog 189 [.arr b 0 l.length cap,.int .i64 i,.sl o 4 l2.length (flat l2)] s (F5 l l2 i b s):=by
 generalize hQ:F5 l l2 i b s=Q
 have hq:∀rs s',F5 l l2 i b s rs s'->Q rs s':=fun rs s' h=>by rw[<-hQ];exact h
 have hm:0<l2.length:=List.length_pos_iff.2 h2
 unfold room at hr
 have hw1:bj ((l.length:Int)+(l2.length:Int))=((l.length+l2.length:Nat):Int):=by rw[aI (by omega) (by omega)];omega
 have hw2:bj (((l.length+l2.length:Nat):Int) -(i:Int))=((l.length+l2.length -i:Nat):Int):=by rw[aI (by omega) (by omega)];omega
 have hw3:bj ((i:Int)+(l2.length:Int))=((i+l2.length:Nat):Int):=by rw[aI (by omega) (by omega)];omega
 have hlen:flat l2≠[]:=fun e=>by
  have:=al l2
  rw[e]at this
  have hw:aK.w aa=4:=rfl
  rw[hw]at this
  simp at this;omega
 have hsp:sp.length=cap*4 -l.length*4:=by
  rw[List.length_append,al]at hl
  have hw:aK.w aa=4:=rfl
  rw[hw]at hl;omega
 have fl:∀q:List aa,(flat q).length=q.length*4:=fun q=>al q
 refine FO Gl rfl rfl ?_
 rw[y6]
 simp -implicitDefEqProofs only[go_sem,seval,hs,hw1,hw2,hw3]
 refine⟨by omega,fun h=>by have:=eq_of_beq h;omega,fun _=>⟨fun h=>?_,fun h=>⟨fun h=>?_,fun h=>?_⟩⟩⟩
 ·
  have hin:i=l.length:=by have:=eq_of_beq h;omega
  subst hin
  rw[gb,aC]
  by_cases hf:l.length+l2.length<=cap
  ·refine nh rfl hs (by rw[hl];omega) hf ?_
   rw[Nat.zero_add,HQ l l2 sp 4 rfl (by rw[hsp];omega)]
   generalize hr2:flat (l++l2)++sp.drop (l2.length*4)=row
   simp -implicitDefEqProofs only[go_sem,seval]
   refine hq _ _ ⟨b,cap,sp.drop (l2.length*4),rfl,?_,by omega,hf,?_,?_⟩
   ·rw[bP,<-hr2];simp[List.append_assoc]
   ·rw[List.length_append,fl,List.length_drop,hsp];simp;omega
   ·intro b' o' h'
    unfold ab.del ab.set at*
    split<;>simp_all
  ·refine fS rfl (rY hs (by rw[hl];omega)) (by omega) (by unfold room;omega) fun b2 sv hb2 FY=>?_
   replace hb2:s b2=none:=hb2
   have agZ:b2≠b:=fun e=>by subst e;rw[hs]at hb2;cases hb2
   have e0:=gA l sp 4 0 l.length rfl (by omega)
   rw[Nat.zero_mul,List.drop_zero,List.take_length]at e0
   rw[e0,aC]
   have hz:(List.replicate (sv -(l.length+l2.length)) [.int .i64 0,.int .i64 0,.str [],.sl false 4 0 []]).flatten=flat (List.replicate (sv -(l.length+l2.length)) (⟨0,0,⟨[]⟩,[]⟩:aa)):=by rw[fX];rfl
   rw[hz,<-bT]
   generalize hr2:flat (l++l2)++flat (List.replicate (sv -(l.length+l2.length)) (⟨0,0,⟨[]⟩,[]⟩:aa))=row
   simp -implicitDefEqProofs only[go_sem,seval]
   refine hq _ _ ⟨b2,sv,flat (List.replicate (sv -(l.length+l2.length)) (⟨0,0,⟨[]⟩,[]⟩:aa)),rfl,?_,by omega,FY,?_,?_⟩
   ·rw[bP,<-hr2];simp[List.append_assoc]
   ·rw[List.length_append,fl,fl];simp;omega
   ·rw[j6 hb2]
    intro b' o' h'
    unfold ab.del at h'
    split at h'<;>simp_all
 ·
  have hf:cap<l.length+l2.length:=by have:=of_decide_eq_true h;omega
  have hin:i<l.length:=by
   rename_i hne
   have:((i:Int)==(l.length:Int))=false:=hne
   simp at this;omega
  refine⟨by omega,?_⟩
  refine zX rfl rfl (rY hs (by rw[hl];omega)) (by omega) (by unfold room;omega) fun b2 sv hb2 FY=>?_
  replace hb2:s b2=none:=hb2
  have agZ:b2≠b:=fun e=>by subst e;rw[hs]at hb2;cases hb2
  have e0:=gA l sp 4 0 i rfl (by omega)
  rw[Nat.zero_mul,List.drop_zero]at e0
  have hz:∀k,(List.replicate k [.int .i64 0,.int .i64 0,.str [],.sl false 4 0 []]).flatten=flat (List.replicate k (⟨0,0,⟨[]⟩,[]⟩:aa)):=fun k=>by rw[fX];rfl
  have ei:i+(l.length+l2.length -i)=l.length+l2.length:=by omega
  rw[e0,aC,hz,hz,<-bT,ei]
  rw[ei]at FY
  generalize ak2:flat (List.replicate (sv -(l.length+l2.length)) (⟨0,0,⟨[]⟩,[]⟩:aa))=sp2
  have Wp:sp2.length=sv*4 -(l.length+l2.length)*4:=by rw[<-ak2,fl,List.length_replicate];omega
  generalize hq0:l.take i++List.replicate (l.length+l2.length -i) (⟨0,0,⟨[]⟩,[]⟩:aa)=q0
  have akW:q0.length=l.length+l2.length:=by rw[<-hq0];simp;omega
  simp -implicitDefEqProofs only[go_sem,seval,hw1,hw2,hw3]
  refine⟨by omega,?_⟩
  rw[fB (by omega),gb,aC]
  refine mr bP (by rw[List.length_append,fl,akW,Wp];omega) ?_
  have VK:min l2.length (l.length+l2.length -i)=l2.length:=by omega
  rw[VK,List.take_of_length_le (by rw[fl];omega),Nat.zero_add,gz q0 l2 sp2 4 i rfl (by omega)]
  generalize hq1:q0.take i++l2++q0.drop (i+l2.length)=q1
  have akX:q1.length=l.length+l2.length:=by rw[<-hq1];simp;omega
  simp -implicitDefEqProofs only[go_sem,seval,hw1,hw2,hw3]
  refine⟨by omega,by omega,?_⟩
  rw[fB (by omega),fB (by omega)]
  rw[wy (s:=s.set b2 (.cells (flat q1++sp2))) (cs:=flat l++sp) (by unfold ab.set;rw[if_neg agZ.symm];exact hs) (by rw[hl];omega)]
  have e1:=gA l sp 4 i (l.length -i) rfl (by omega)
  rw[Nat.zero_add,e1,aC,List.take_of_length_le (by simp)]
  refine mr bP (by rw[List.length_append,fl,akX,Wp];omega) ?_
  have VM:min (l.length -i) (l.length+l2.length -(i+l2.length))=l.length -i:=by omega
  rw[VM,List.take_of_length_le (by rw[fl];simp),Nat.zero_add,gz q1 (l.drop i) sp2 4 (i+l2.length) rfl (by simp;omega)]
  have LZ:q1.take (i+l2.length)++l.drop i++q1.drop (i+l2.length+(l.drop i).length)=l.take i++l2++l.drop i:=by
   have h3:q1.drop (i+l2.length+(l.drop i).length)=[]:=by rw[List.drop_eq_nil_iff];simp;omega
   have h4:q1.take (i+l2.length)=l.take i++l2:=by rw[<-hq1,List.take_append_of_le_length (by simp;omega),List.take_of_length_le (by simp;omega),<-hq0,List.take_append_of_le_length (by simp;omega),List.take_take,Nat.min_self]
   rw[h3,h4,List.append_nil]
  rw[LZ]
  generalize hr2:flat (l.take i++l2++l.drop i)++sp2=row
  simp -implicitDefEqProofs only[go_sem,seval]
  refine hq _ _ ⟨b2,sv,sp2,rfl,by rw[hr2];simp only[bP],by omega,FY,?_,?_⟩
  ·rw[List.length_append,fl,Wp];simp;omega
  ·rw[j6 hb2]
   intro b' o' h'
   unfold ab.del at h'
   split at h'<;>simp_all
 ·
  have hf:l.length+l2.length<=cap:=by have:=of_decide_eq_false h;omega
  have hin:i<l.length:=by
   rename_i hne
   have:((i:Int)==(l.length:Int))=false:=hne
   simp at this;omega
  refine⟨by omega,by omega,?_⟩
  rw[fB (by omega)]
  refine Z0 hov hm hlen (by omega) hs (by rw[hl];omega) ?_
  simp -implicitDefEqProofs only[go_sem,seval,hw1,hw2,hw3]
  refine⟨fun _=>⟨by omega,by omega,?_⟩,fun h=>by cases h⟩
  rw[fB (by omega),fB (by omega)]
  rw[wy hs (by rw[hl];omega)]
  refine mr hs (by rw[hl];omega) ?_
  have VK:min (l.length+l2.length -i) (l.length+l2.length -(i+l2.length))=l.length -i:=by omega
  have akA:(views (AB.sub (flat l++sp) (0+i*4) ((l.length+l2.length -i)*4))).take ((l.length -i)*4)=flat (l.drop i):=by
   have e1:=gA l sp 4 i (l.length -i) rfl (by omega)
   have e2:(AB.sub (flat l++sp) (0+i*4) ((l.length+l2.length -i)*4)).take ((l.length -i)*4)=AB.sub (flat l++sp) (i*4) ((l.length -i)*4):=by
    unfold AB.sub
    rw[List.take_take,Nat.zero_add,Nat.min_eq_left (Nat.mul_le_mul_right _ (by omega))]
   unfold views
   rw[<-List.map_take,e2,e1,List.take_of_length_le (by simp)]
   exact aC _
  rw[VK,akA]
  generalize hr1:setAt (flat l++sp) (0+(i+l2.length)*4) (flat (l.drop i))=JZ
  have akY:JZ.length=cap*4:=by rw[<-hr1,mL _ _ _ (by rw[fl,hl];simp;omega),hl]
  simp -implicitDefEqProofs only[go_sem,seval,hw1,hw2,hw3]
  refine⟨by omega,?_⟩
  rw[fB (by omega),gb,aC]
  refine mr bP (by rw[akY];omega) ?_
  have VM:min l2.length (l.length+l2.length -i)=l2.length:=by omega
  rw[VM,List.take_of_length_le (by rw[fl];omega),<-hr1,Nat.zero_add,Nat.zero_add,aen _ _ _ (i*4) ((i+l2.length)*4) (by rw[fl];omega) (by rw[fl,hl];simp;omega)]
  have eI:(flat l++sp).take (i*4)++flat l2++flat (l.drop i)++(flat l++sp).drop ((i+l2.length)*4+(flat (l.drop i)).length)=flat (l.take i++l2++l.drop i)++sp.drop (l2.length*4):=by
   have h1:(flat l++sp).take (i*4)=flat (l.take i):=by rw[List.take_append_of_le_length (by rw[fl];omega),FQ];rfl
   have h2:(i+l2.length)*4+(flat (l.drop i)).length=(flat l).length+l2.length*4:=by rw[fl,fl];simp;omega
   rw[h1,h2,List.drop_append,List.drop_of_length_le (Nat.le_add_right _ _),bT,bT]
   simp
  rw[eI]
  generalize hr2:flat (l.take i++l2++l.drop i)++sp.drop (l2.length*4)=row
  simp -implicitDefEqProofs only[go_sem,seval]
  refine hq _ _ ⟨b,cap,sp.drop (l2.length*4),rfl,by rw[hr2];simp only[bP],by omega,hf,?_,?_⟩
  ·rw[List.length_append,fl,List.length_drop,hsp];simp;omega
  ·intro b' o' h'
   unfold ab.del ab.set at*
   split<;>simp_all
end Go.AB
end
section
namespace Go.AB
open Go
open Go.Proofs.Tryz (prog)
attribute[-go_sem] Nat.add_zero nr bV
def bX(v_0:aa)(gH:aw):Option (Int):=
 if v_0.Kind !=7 then
  some (-1)
 else
  yp (
   jG (
    iter (fun(i2:Int)=>
     if decide (i2<(v_0.L.length:Int))then
      aG (0<=i2/\i2<v_0.L.length)<|
      aG ((((ix v_0.L i2).Kind)==5)=true->0<=i2/\i2<v_0.L.length)<|
      if(((ix v_0.L i2).Kind)==5)&&(((ix v_0.L i2).S).b==gH.b)then
       some (.inr (.inr i2))
      else
       some (.inl (bj (i2+2)))
     else
      some (.inr (.inl ()))) 0) (fun(_:Unit)=>
    some (.inl ()))
   (fun(t3:Int)=>some (.inr t3))) (fun(_:Unit)=>
   some (-1))
  (fun(t1:Int)=>some t1)
def ym:IC:=
 (af [i1 2 (.dc 4 (.t 0)),mi 4 0] [1,2]
 (.seq (af [fa 6 0 2,ld 7 1 6,bn 8 .neq 7 7] [1,2,8]
 (.cond (.t 8) (af [mi 4 (-1)] [4]
 .ret)
 .skip))
 (.join [] (af [mi 5 0] [1,2,5]
 (.block 0 (.loop [(1,false),(2,false),(5,false)] (.seq (af [mv 9 5,fa 10 3 2,ld 11 1 10,le 12 0 11,bt 13 .lss 9 12] [1,2,5,13]
 (.cond (.t 13) .skip
 (.exit 0)))
 (.seq (.block 1 (af [fa 16 3 2,ld 17 1 16,mv 18 5,ia 19 qT 17 18,fa 20 0 19,ld 21 1 20,bn 22 .eql 21 5,mv 23 22,fg 24 23 true 3 2,lg 25 23 true 1 24,dh 26 5 23 true,dq 27 23 true (.indexAddr qT (.t 25) (.t 26)),fg 28 23 true 2 27,lg 29 23 true 1 28,dh 30 1 23 true,sY 31 23 true .eql 29 30,pf 32 23 31] [1,2,5,32]
 (.cond (.t 32) (af [mv 33 5,mv 4 33] [4]
 .ret)
 .skip)))
 (.bN none [mv 14 5,bn 15 .add 14 2,mv 5 15] [1,2,5]))))))
 (af [mi 4 (-1)] [4]
 .ret))))
theorem Jv:aE prog 77 34 [⟨4,true,none⟩] ym=true:=by kernel_rfl
theorem Kb{v_0 gH}{s:ab}{Q:List AV->ab->Prop}:ok (bX v_0 gH) (fun r=>Q [.int .i64 r] s)->FN prog 77 [.agg [.int .i64 v_0.Kind,.int .i64 v_0.N,.str v_0.S.b,.sl false 4 v_0.L.length (flat v_0.L)],.str gH.b] s Q:=by
 intro h
 refine FO Jv rfl rfl ?_
 revert h
 rw[ym,bX]
 repeat'(first
  |(with_reducible first|exact cW|refine bK ?_ ?_|refine de ?_)
  |((with_reducible refine bF (fun(i2:Int)=>⟨[(1,.str gH.b),(2,.loc [.int .i64 v_0.Kind,.int .i64 v_0.N,.str v_0.S.b,.sl false 4 v_0.L.length (flat v_0.L)]),(5,.int .i64 i2)],[],s⟩) ?_ ?_);(first|exact rfl|simp -implicitDefEqProofs only[go_sem,seval]);rintro J i2)
  |((with_reducible refine fh (fun(_:Unit)=>⟨[],[],s⟩) (fun J=>?_) ?_);rotate_left;rintro _)
  |simp -implicitDefEqProofs only[go_sem,seval])
theorem nb{v_0 gH}{s:ab}{r:Int}(h:bX v_0 gH=some r):FE prog 77 [.agg [.int .i64 v_0.Kind,.int .i64 v_0.N,.str v_0.S.b,.sl false 4 v_0.L.length (flat v_0.L)],.str gH.b] s [.int .i64 r] s:=Kb ⟨r,h,rfl,rfl⟩
def aY(s_0:aw):Option (aa):=some (aa.mk 5 0 s_0 ([]:List aa))
def tT:IC:=
 (af [i1 2 (.aq iA)] [0,2]
 (af [mv 3 0,i1 4 (.build iA [(0,1,(.c (.int .i64 5))),(2,1,(.t 3))]),st 4 2 4] [2]
 .ret))
theorem D5:aE prog 84 5 [⟨2,false,some (4,true)⟩] tT=true:=by kernel_rfl
theorem Eo{s_0}{s:ab}{Q:List AV->ab->Prop}:ok (aY s_0) (fun r=>Q [.agg [.int .i64 r.Kind,.int .i64 r.N,.str r.S.b,.sl false 4 r.L.length (flat r.L)]] s)->FN prog 84 [.str s_0.b] s Q:=by
 intro h
 refine FO D5 rfl rfl ?_
 revert h
 rw[tT,aY]
 repeat'(first
  |simp -implicitDefEqProofs only[go_sem,seval])
theorem b8{s_0}{s:ab}{r:aa}(h:aY s_0=some r):FE prog 84 [.str s_0.b] s [.agg [.int .i64 r.Kind,.int .i64 r.N,.str r.S.b,.sl false 4 r.L.length (flat r.L)]] s:=Eo ⟨r,h,rfl,rfl⟩
def uV:IC:=
 (af [c6 8 (.arr 0 0 0 0)] [0,1,2,3]
 (af [mv 15 0,mv 16 1,mv 17 2,i1 18 (.slice 4 (.t 15) (some (.t 16)) (some (.t 17)) none)] [0,1,2,3]
 (.seq (af [mv 19 1,mv 20 2,bt 21 .eql 19 20] [0,1,2,3,21]
 (.cond (.t 21) (af [mv 22 0,mv 23 1,mv 24 3,c3 25 189 22 23 24,mv 8 25] [8]
 .ret)
 .skip))
 (.seq (af [mv 26 2,mv 27 0,le 28 0 27,bt 29 .eql 26 28] [0,1,2,3,29]
 (.cond (.t 29) (af [mv 30 0,mv 31 1,PV 32 4 30 31,mv 33 3,i1 34 (.eV 4 56 qT (.t 32) (.t 33)),mv 9 34] [0,9]
 (.seq (af [mv 35 9,le 36 0 35,mv 37 0,le 38 0 37,bt 39 .lss 36 38] [0,9,39]
 (.cond (.t 39) (.bN none [mv 40 0,mv 41 9,le 42 0 41,rj 43 4 40 42,i0 (.mo qT (.t 43))] [9])
 .skip))
 (af [mv 44 9,mv 8 44] [8]
 .ret)))
 .skip))
 (.seq (.bN (some 13) [mv 45 0,mv 46 1,PV 47 4 45 46,le 48 0 47,mv 49 3,le 50 0 49,bt 51 .add 48 50,mv 52 0,mv 53 2,rj 54 4 52 53,le 55 0 54,bt 56 .add 51 55,mv 10 56] [0,1,2,3,10])
 (.seq (af [mv 57 10,mv 58 0,i1 59 (.cap (.t 58)),bt 60 .gtr 57 59] [0,1,2,3,10,60]
 (.cond (.t 60) (af [mv 61 0,mv 62 1,PV 63 4 61 62,mv 64 10,mv 65 1,bt 66 .sub 64 65,i1 67 (.lz 4 56 qT (.t 63) (.t 66)),mv 11 67] [0,1,2,3,11]
 (af [mv 68 11,mv 69 1,rj 70 4 68 69,mv 71 3,i1 72 (.gN 4 (.t 70) (.t 71))] [0,1,2,3,11]
 (.seq (.bN (some 9) [mv 73 11,mv 74 1,mv 75 3,le 76 0 75,bt 77 .add 74 76,rj 78 4 73 77,mv 79 0,mv 80 2,rj 81 4 79 80,i1 82 (.gN 4 (.t 78) (.t 81))] [11])
 (af [mv 83 11,mv 8 83] [8]
 .ret))))
 .skip))
 (af [mv 84 0,mv 85 10,PV 86 4 84 85,mv 12 86] [0,1,2,3,10,12]
 (.seq (af [mv 87 1,mv 88 3,le 89 0 88,bt 90 .add 87 89,mv 91 2,bt 92 .leq 90 91] [0,1,2,3,10,12,92]
 (.cond (.t 92) (af [mv 93 12,mv 94 1,rj 95 4 93 94,mv 96 3,i1 97 (.gN 4 (.t 95) (.t 96))] [0,1,2,3,10,12]
 (.seq (.bN (some 9) [mv 98 12,mv 99 1,mv 100 3,le 101 0 100,bt 102 .add 99 101,rj 103 4 98 102,mv 104 0,mv 105 2,rj 106 4 104 105,i1 107 (.gN 4 (.t 103) (.t 106))] [0,10,12])
 (af [mv 108 0,mv 109 10,rj 110 4 108 109,i0 (.mo qT (.t 110))] [12]
 (af [mv 111 12,mv 8 111] [8]
 .ret))))
 .skip))
 (.seq (af [mv 112 12,mv 113 1,mv 114 3,le 115 0 114,bt 116 .add 113 115,rj 117 4 112 116,mv 118 3,i1 119 (.U7 228 (.t 117) (.t 118)),no 120 119] [0,1,2,3,12,120]
 (.cond (.t 120) (.seq (.bN (some 9) [mv 121 12,mv 122 1,mv 123 3,le 124 0 123,bt 125 .add 122 124,rj 126 4 121 125,mv 127 0,mv 128 2,rj 129 4 127 128,i1 130 (.gN 4 (.t 126) (.t 129))] [1,3,12])
 (af [mv 131 12,mv 132 1,rj 133 4 131 132,mv 134 3,i1 135 (.gN 4 (.t 133) (.t 134))] [12]
 (af [mv 136 12,mv 8 136] [8]
 .ret)))
 .skip))
 (af [mv 137 3,le 138 0 137,mv 139 2,mv 140 1,bt 141 .sub 139 140,bt 142 .sub 138 141,mv 13 142] [0,1,2,3,12,13]
 (.seq (af [mv 143 12,mv 144 1,mv 145 2,i1 146 (.slice 4 (.t 143) (some (.t 144)) (some (.t 145)) none),mv 147 3,i1 148 (.U7 228 (.t 146) (.t 147)),no 149 148] [0,1,2,3,12,13,149]
 (.cond (.t 149) (.seq (.bN (some 7) [mv 150 12,mv 151 1,mv 152 2,i1 153 (.slice 4 (.t 150) (some (.t 151)) (some (.t 152)) none),mv 154 3,mv 155 13,rj 156 4 154 155,i1 157 (.gN 4 (.t 153) (.t 156))] [0,1,3,12,13])
 (.seq (.bN (some 7) [mv 158 12,mv 159 0,le 160 0 159,rj 161 4 158 160,mv 162 3,mv 163 13,PV 164 4 162 163,i1 165 (.gN 4 (.t 161) (.t 164))] [1,12,13])
 (af [mv 166 12,mv 167 1,rj 168 4 166 167,mv 169 13,c2 170 229 168 169] [12]
 (af [mv 171 12,mv 8 171] [8]
 .ret))))
 .skip))
 (.seq (af [mv 172 12,mv 173 0,le 174 0 173,rj 175 4 172 174,mv 176 3,i1 177 (.U7 228 (.t 175) (.t 176)),no 178 177] [0,1,2,3,12,13,178]
 (.cond (.t 178) (.seq (.bN (some 7) [mv 179 12,mv 180 0,le 181 0 180,rj 182 4 179 181,mv 183 3,mv 184 13,PV 185 4 183 184,i1 186 (.gN 4 (.t 182) (.t 185))] [1,2,3,12,13])
 (.seq (.bN (some 7) [mv 187 12,mv 188 1,mv 189 2,i1 190 (.slice 4 (.t 187) (some (.t 188)) (some (.t 189)) none),mv 191 3,mv 192 13,rj 193 4 191 192,i1 194 (.gN 4 (.t 190) (.t 193))] [1,12,13])
 (af [mv 195 12,mv 196 1,rj 197 4 195 196,mv 198 13,c2 199 229 197 198] [12]
 (af [mv 200 12,mv 8 200] [8]
 .ret))))
 .skip))
 (af [mv 201 3,mv 202 0,mv 203 2,rj 204 4 202 203,c2 205 230 201 204,mv 14 205] [1,3,12,14]
 (af [mv 206 12,mv 207 1,rj 208 4 206 207,mv 209 3,i1 210 (.gN 4 (.t 208) (.t 209))] [1,3,12,14]
 (.seq (.bN (some 11) [mv 211 12,mv 212 1,mv 213 3,le 214 0 213,bt 215 .add 212 214,rj 216 4 211 215,mv 217 12,mv 218 1,mv 219 14,bt 220 .add 218 219,rj 221 4 217 220,i1 222 (.gN 4 (.t 216) (.t 221))] [12])
 (af [mv 223 12,mv 8 223] [8]
 .ret))))))))))))))))
theorem Dn:aE prog 188 224 [⟨8,true,none⟩] uV=true:=by kernel_rfl
theorem M6{ow:Bool}{b cap i:Nat}{l l2:List aa}{sp:List AV}{s:ab}{Q:List AV->ab->Prop}(hs:s b=some (.cells (flat l++sp)))(hl:(flat l++sp).length=cap*4)(hn:l.length<=cap)(hi:i<l.length)(V9:(l.length:Int)<9223372036854775807)(h1:l2.length=1)
 (hq:Q [.arr b 0 l.length cap] (s.set b (.cells (flat (l.take i++l2++l.drop (i+1))++sp)))):
 FN prog 188 [.arr b 0 l.length cap,.int .i64 i,.int .i64 (i+1:Nat),.sl ow 4 1 (flat l2)] s Q:=by
 have fl:∀q:List aa,(flat q).length=q.length*4:=fun q=>al q
 have hw1:bj ((i:Int)+1)=((i+1:Nat):Int):=by rw[aI (by omega) (by omega)];omega
 have hw2:bj (((i+1:Nat):Int)+((l.length -(i+1):Nat):Int))=(l.length:Int):=by rw[aI (by omega) (by omega)];omega
 have hne:((i:Int)==((i+1:Nat):Int))=false:=by simp;omega
 have hlt:decide (((i+1:Nat):Int)<=((i+1:Nat):Int))=true:=by simp
 have gZ:decide ((cap:Int)<(l.length:Int))=false:=by simp;omega
 refine FO Dn rfl rfl ?_
 rw[uV]
 simp -implicitDefEqProofs only[go_sem,seval,hs,hw1,hw2,hne,hlt,gZ]
 refine⟨by omega,fun h=>h.elim,fun _=>⟨fun h=>?_,fun h=>?_⟩⟩
 ·have hin:i+1=l.length:=by have:=eq_of_beq h;omega
  refine⟨by omega,?_⟩
  rw[gb,aC]
  refine nh rfl hs (by rw[hl];omega) (by omega) ?_
  have e:=gz l l2 sp 4 i rfl (by omega)
  rw[h1]at e
  rw[Nat.zero_add,e,hin]
  rw[hin]at hq
  generalize hr:flat (l.take i++l2++l.drop l.length)++sp=row at hq
  simp -implicitDefEqProofs only[go_sem,seval]
  exact⟨fun h=>absurd (of_decide_eq_true h) (by omega),fun _=>hq⟩
 ·have hin:i+1<l.length:=by
   have:(((i+1:Nat):Int)==(l.length:Int))=false:=h
   simp at this;omega
  refine⟨by omega,by omega,fun h=>False.elim h,fun _=>⟨by omega,fun _=>⟨by omega,?_⟩,fun h=>nomatch h⟩⟩
  rw[fB (by omega),gb,aC]
  refine mr hs (by rw[hl];omega) ?_
  have VK:min 1 (l.length -i)=1:=by omega
  have e:=gz l l2 sp 4 i rfl (by omega)
  rw[VK,List.take_of_length_le (by rw[fl];omega),Nat.zero_add,e,h1]
  generalize hl1:l.take i++l2++l.drop (i+1)=l1 at hq
  have akQ:l1.length=l.length:=by rw[<-hl1];simp;omega
  have hl':(flat l1++sp).length=cap*4:=by rw[<-hl,List.length_append,List.length_append,fl,fl,akQ]
  simp -implicitDefEqProofs only[go_sem,seval,hw1,hw2]
  refine⟨by omega,by omega,?_⟩
  rw[fB (by omega),wy bP (by rw[hl'];omega)]
  have e2:=gA l1 sp 4 (i+1) (l.length -(i+1)) rfl (by omega)
  rw[Nat.zero_add,e2,aC]
  refine mr bP (by rw[hl'];omega) ?_
  have e3:(l1.drop (i+1)).take (l.length -(i+1))=l1.drop (i+1):=List.take_of_length_le (by simp;omega)
  have e4:=gz l1 (l1.drop (i+1)) sp 4 (i+1) rfl (by simp;omega)
  have e5:l1.drop (i+1+(l1.drop (i+1)).length)=[]:=by rw[List.drop_eq_nil_iff];simp;omega
  rw[e5,List.append_nil,List.take_append_drop]at e4
  rw[Nat.min_self,e3,List.take_of_length_le (by rw[fl];simp;omega),e4,set_set]
  simp -implicitDefEqProofs only[go_sem,seval,hw1,hw2]
  refine⟨by omega,LI (by omega) ?_⟩
  simp -implicitDefEqProofs only[go_sem,seval]
  exact hq
theorem alm:NO prog 228:=adP (tS:=30) (tR:=4) (e:=32) (m:=4) (by kernel_rfl) (by kernel_rfl) (by kernel_rfl) (by kernel_rfl) (by kernel_rfl) (by kernel_rfl) (by kernel_rfl)
theorem L8{o:Bool}{b:Nat}{l2:List aa}{s:ab}{Q:List AV->ab->Prop}(h2:l2≠[])(hr:l2.length*56<=room)
 (hq:∀b' dn sp',s b'=none->0<dn->l2.length<=dn->(flat l2++sp').length=dn*4->Q [.arr b' 0 l2.length dn] (s.set b' (.cells (flat l2++sp')))):
 FN prog 189 [.arr b 0 0 0,.int .i64 0,.sl o 4 l2.length (flat l2)] s Q:=by
 have hm:0<l2.length:=List.length_pos_iff.2 h2
 have fl:∀q:List aa,(flat q).length=q.length*4:=fun q=>al q
 have hw1:bj (0+(l2.length:Int))=(l2.length:Int):=by unfold room at hr;rw[Int.zero_add,aI (by omega) (by omega)]
 refine FO Gl rfl rfl ?_
 rw[y6]
 simp -implicitDefEqProofs only[go_sem,Nat.reduceBEq,Nat.reduceAdd,Nat.reduceMul,Nat.reduceLeDiff,Nat.reduceEqDiff,Nat.reduceBNe,UInt8.reduceToNat,UInt32.reduceToNat,hw1]
 refine⟨Int.le_refl _,fun h=>absurd (eq_of_beq h) (by omega),fun _=>⟨fun _=>?_,fun h=>nomatch h⟩⟩
 rw[gb,aC]
 refine fS rfl rfl (by omega) (by rw[Nat.zero_add];exact hr) fun b2 sv hb2 FY=>?_
 rw[Nat.zero_add]at FY
 replace hb2:s b2=none:=hb2
 simp -implicitDefEqProofs only[go_sem,Nat.reduceBEq,Nat.reduceAdd,Nat.reduceMul,Nat.reduceLeDiff,Nat.reduceEqDiff,Nat.reduceBNe,UInt8.reduceToNat,UInt32.reduceToNat,Nat.zero_add,List.nil_append]
 refine hq b2 sv _ hb2 (by omega) FY ?_
 have hz:(List.replicate (sv -l2.length) [.int .i64 0,.int .i64 0,.str [],.sl false 4 0 []]).flatten=flat (List.replicate (sv -l2.length) (⟨0,0,⟨[]⟩,[]⟩:aa)):=by rw[fX];rfl
 rw[hz,List.length_append,fl,fl,List.length_replicate];omega
def Kg(s:ab)(b:Nat)(l:List aa)(cap:Nat):Prop:=(0<cap/\l.length<=cap/\∃sp,s b=some (.cells (flat l++sp))/\(flat l++sp).length=cap*4)\/(l=[]/\cap=0)
def Rest(s:ab)(b cap:Nat):ab:=bif cap==0 then s else s.del b
theorem Sub.trans{s1 s2 s3:ab}(h:Sub s1 s2)(k:Sub s2 s3):Sub s1 s3:=fun b o h'=>k b o (h b o h')
theorem HN{s:ab}{b cap:Nat}(h:0<cap):Rest s b cap=s.del b:=by unfold Rest;rw[show(cap==0)=false by simp;omega];rfl
theorem QK{o:Bool}{l:List aa}{s:ab}{Q:List AV->ab->Prop}(hr:l.length*56<=room)(hq:∀b cap s',Kg s' b l cap->Sub s (Rest s' b cap)->Q [.arr b 0 l.length cap] s'):
 FN prog 112 [.sl o 4 l.length (flat l)] s Q:=(FH hr).mono fun rs s' h=>by
 rcases h with⟨b,cap,sp,h1,h2,h3,h4,h5,h6,h7⟩|⟨h1,h2,b,h3⟩
 ·subst h1 h7
  refine hq b cap _ (.inl ⟨h3,h4,sp,bP,h5⟩) ?_
  rw[HN h3,j6 h2];exact Sub.refl s
 ·subst h1 h2 h3
  exact hq b 0 _ (.inr ⟨rfl,rfl⟩) (Sub.refl _)
theorem Dc{o:Bool}{b cap i:Nat}{l l2:List aa}{s s0:ab}{Q:List AV->ab->Prop}(eI:Kg s b l cap)(eD:Sub s0 (Rest s b cap))(hi:i<=l.length)(h2:l2≠[])(hr:(l.length+l2.length)*56<=room)
 (hq:Q [.sl true 4 (l.length+l2.length) (flat (l.take i++l2++l.drop i))] s0):FN prog 189 [.arr b 0 l.length cap,.int .i64 i,.sl o 4 l2.length (flat l2)] s Q:=by
 have hm:0<l2.length:=List.length_pos_iff.2 h2
 have hlen:(l.take i++l2++l.drop i).length=l.length+l2.length:=by simp;omega
 refine FN.HR (by rw[al,hlen];rfl) (aC _) hq ?_
 rcases eI with⟨h3,h4,sp,h5,h6⟩|⟨h3,h4⟩
 ·refine(OS alm h5 h6 h4 hi h2 hr).mono fun rs s' h=>?_
  obtain⟨b',dn,sp',k1,k2,k3,k4,k5,k6⟩:=h
  rw[HN h3]at eD
  exact .inl ⟨b',dn,sp',k1,k2,k3,k4,k5,eD.trans k6⟩
 ·subst h3 h4
  have hi0:i=0:=by simpa using hi
  subst hi0
  refine L8 h2 (by simpa using hr) fun b' dn sp' k1 k2 k3 k4=>.inl ⟨b',dn,sp',?_,?_,k2,?_,?_,?_⟩
  ·simp
  ·simp[bP]
  ·simpa using k3
  ·simpa using k4
  ·rw[j6 k1];exact eD
theorem M8{ow:Bool}{b cap i:Nat}{l l2:List aa}{s s0:ab}{Q:List AV->ab->Prop}(eI:Kg s b l cap)(eD:Sub s0 (Rest s b cap))(hi:i<l.length)(V9:(l.length:Int)<9223372036854775807)(h1:l2.length=1)
 (hq:Q [.sl true 4 l.length (flat (l.take i++l2++l.drop (i+1)))] s0):FN prog 188 [.arr b 0 l.length cap,.int .i64 i,.int .i64 (i+1:Nat),.sl ow 4 1 (flat l2)] s Q:=by
 have hlen:(l.take i++l2++l.drop (i+1)).length=l.length:=by simp;omega
 refine FN.HR (by rw[al,hlen];rfl) (aC _) hq ?_
 rcases eI with⟨h3,h4,sp,h5,h6⟩|⟨h3,h4⟩
 ·refine M6 h5 h6 h4 hi V9 h1 ?_
  rw[HN h3]at eD
  refine .inl ⟨b,cap,sp,rfl,bP,h3,h4,?_,?_⟩
  ·rw[List.length_append,al,hlen,<-al,<-List.length_append,h6]
  ·refine eD.trans ?_
   intro b' o' h'
   unfold ab.del ab.set at*
   split<;>simp_all
 ·subst h3;simp at hi
theorem M7{ow:Bool}{b cap i:Nat}{l l2:List aa}{s s0:ab}{Q:List AV->ab->Prop}(eI:Kg s b l cap)(eD:Sub s0 (Rest s b cap))(hi:i=l.length)(h1:l2.length=1)(hr:(l.length+1)*56<=room)
 (hq:Q [.sl false 4 (l.length+1) (flat (l++l2))] s0):FN prog 188 [.arr b 0 l.length cap,.int .i64 i,.int .i64 i,.sl ow 4 1 (flat l2)] s Q:=by
 subst hi
 have hn:l.length<=cap:=by
  rcases eI with⟨_,h,_⟩|⟨h,_⟩
  ·exact h
  ·subst h;simp
 refine FO Dn rfl rfl ?_
 rw[uV]
 simp -implicitDefEqProofs only[go_sem,seval]
 refine⟨by omega,fun _=>?_,fun h=>absurd h (by simp)⟩
 have hi:=Dc (o:=false) (i:=l.length) (Q:=?_) eI eD (Nat.le_refl _) (l2:=l2) (by intro e;subst e;simp at h1) (by rw[h1];exact hr) ?_
 ·rw[h1]at hi
  exact hi
 ·rw[h1]
  simp only[List.take_length,List.drop_length,List.append_nil]
  simp -implicitDefEqProofs only[go_sem,seval]
  rw[<-bT]
  exact hq
theorem YT{w:World}{R:Nat->Nat}{b sz:Nat}{v:Value}(hv:VR w R (.arr b 0 0 0) v):VR w R (.sl false sz 0 []) v:=by
 rcases VR.cd hv with e|⟨_,_,e⟩
 ·rw[e];exact .sl false sz 0 [] b 0 0 (fun _=>undef) Fl.nil (by simp) (Nat.zero_le _) (Nat.zero_le _) (fun j c hj=>by simp at hj) (fun j c hj=>by simp at hj)
 ·rw[e];exact .slnil _ _
theorem Kr{w:World}{R R':Nat->Nat}{b cap:Nat}{l:List aa}{k n:Int}{S key:aw}{vs:Array Value}(mono:∀a u,VR w R a u->VR w R' a u)(hv:∀u,VR w R (.arr b 0 l.length cap) u->VR w R' (.sl false 4 l.length (flat l)) u)
 (ha:kH w R [.agg [.int .i64 k,.int .i64 n,.str S.b,.arr b 0 l.length cap],.str key.b] vs):kH w R' [.agg [.int .i64 k,.int .i64 n,.str S.b,.sl false 4 l.length (flat l)],.str key.b] vs:=by
 refine⟨ha.1,fun j a v hj hvs=>?_⟩
 match j,hj with
 |0,hj=>
  cases hj
  obtain⟨us,e1,e2,e3,e4⟩:=VR.sI (ha.2 0 _ v rfl hvs)
  subst e1
  refine .agg _ us ?_ e2 fun j c u hc hu=>?_
  ·intro c hc
   simp only[List.mem_cons,List.not_mem_nil,or_false]at hc
   rcases hc with rfl|rfl|rfl|rfl<;>rfl
  ·match j,hc with
   |0,hc=>cases hc;exact mono _ _ (e3 0 _ u rfl hu)
   |1,hc=>cases hc;exact mono _ _ (e3 1 _ u rfl hu)
   |2,hc=>cases hc;exact mono _ _ (e3 2 _ u rfl hu)
   |3,hc=>cases hc;exact hv u (e3 3 _ u rfl hu)
 |1,hj=>cases hj;exact mono _ _ (ha.2 1 _ v rfl hvs)
theorem VS{b cap:Nat}{l:List aa}{k n r:Int}{S key:aw}{s:ab}{Q:List AV->ab->Prop}(eI:Kg s b l cap)(h:bX ⟨k,n,S,l⟩ key=some r)(hq:Q [.int .i64 r] s):
 FN prog 77 [.agg [.int .i64 k,.int .i64 n,.str S.b,.arr b 0 l.length cap],.str key.b] s Q:=by
 rcases eI with⟨h0,hn,sp,hs,hl⟩|⟨h0,h1⟩
 ·refine FN.borrow b (l.length*4) (tv:=[.agg [.int .i64 k,.int .i64 n,.str S.b,.sl false 4 l.length (flat l)],.str key.b]) (FE.app (nb h) ⟨rfl,hq⟩) fun G w vs hst ha=>?_
  refine Kr (fun a u h=>h.mono (fun i=>?_) fun _ _ _=>rfl) (fun u hu=>zY hst (al l) hn (aC l) (fun _=>⟨sp,hs⟩) hu (by decide)) ha
  show G.R i<=if i=b/\b<w.heap.size then l.length*4 else G.R i
  split
  ·rename_i e
   obtain⟨q2,q3,_⟩:=hst b _ hs
   rw[e.1,q3];exact Nat.zero_le _
  ·exact Nat.le_refl _
 ·subst h0 h1
  exact FN.args (FE.app (nb h) hq) fun G w vs _ ha=>Kr (l:=[]) (fun _ _ h=>h) (fun u hu=>YT hu) ha
end Go.AB
end
