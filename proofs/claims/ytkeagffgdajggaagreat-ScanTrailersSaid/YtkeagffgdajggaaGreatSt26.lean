/- A part. -/
import Derived.Test.YtkeagffgdajggaaGreatSt25
import Derived.Test.YtkeagffgdajggaaGreatSt23
set_option linter.unusedSimpArgs false
set_option linter.unusedVariables false
section
set_option maxRecDepth 4000
namespace Go.AB
open Go
open Go.Proofs.Tryz (prog)
attribute[-go_sem] Nat.add_zero tz du
def ru:IC:=
 (ag [i1 6 (.iJ true (.c (.sl true 1 0 []))),cY 7 (.bool false)] [0,1,2]
 (.seq (ag [mv 13 0,c1 14 116 13,no 15 14,mv 16 15,bK 17 1 16 false,im 18 16 false .lss 17 0,po 19 16 18,mv 20 19,bK 21 1 20 false,bK 22 0 20 false,b6 23 20 false (.nilCheck (.t 22)),fg 24 20 false 1 23,lg 25 20 false 1 24,sm 26 20 false .gtr 21 25,po 27 20 26,mv 28 27,bK 29 2 28 false,im 30 28 false .lss 29 0,po 31 28 30] [0,1,2,31]
 (.cond (.t 31) (ag [i1 6 (.iJ true (.c (.sl true 1 0 []))),cY 7 (.bool false)] [6,7]
 .ret)
 .skip))
 (ag [mv 32 2,mv 33 0,nc 34 33,fa 35 2 34,mv 36 1,c2 37 117 35 36,mv 38 1,bt 39 .sub 37 38,i1 40 (.gT false [(.t 32),(.t 39)]),mv 8 40] [0,1,8]
 (ag [mv 41 8,i1 42 (.gS 1 1 [.int .u8 0] (.c (.int .i64 0)) (.t 41)),mt 9 42] [0,1,8,9]
 (.seq (.block 0 (.loop [(0,false),(1,false),(8,false),(9,false)] (.seq (ag [mv 43 9,le 44 0 43,mv 45 8,bt 46 .lss 44 45] [0,1,8,9,46]
 (.cond (.t 46) .skip
 (.exit 0)))
 (.block 1 (ag [mv 47 1,mv 48 9,le 49 0 48,bt 50 .add 47 49,bn 51 .quo 50 4096,mv 52 1,mv 53 9,le 54 0 53,bt 55 .add 52 54,bn 56 .rem 55 4096,mv 10 51,mv 11 56] [0,1,8,9,10,11]
 (ag [mv 57 0,nc 58 57,fa 59 3 58,ld 60 1 59,mv 61 10,i1 62 (.lookup (.int .i64) (.sl false 1 0 []) false (.t 60) (.t 61)),mv 63 11,YJ 64 1 62 63,mt 12 64] [0,1,8,9,12]
 (.bP none [mt 65 9,mv 66 12,mt 67 12,le 68 0 67,mv 69 8,mt 70 9,le 71 0 70,bt 72 .sub 69 71,i1 73 (.gT false [(.t 68),(.t 72)]),WW 74 1 66 73,i1 75 (.fL 1 1 [.int .u8 0] (.t 65) (.t 74)),mt 9 75] [0,1,8,9])))))))
 (.seq (.bP (some 11) [mv 76 9,mv 77 1,mv 78 8,bt 79 .add 77 78,mv 80 0,nc 81 80,fa 82 1 81,ld 83 1 82,bt 84 .eql 79 83,mv 6 76,mv 7 84] [6,7])
 .ret))))))
theorem B3:aY prog 61 85 [⟨6,true,none⟩,⟨7,true,none⟩] ru=true:=by kernel_rfl
def Qr(m:NT)(at_ n:Int):List UInt8->Option (List UInt8⊕List UInt8):=fun out=>
 if decide ((out.length:Int)<n)then
  aH ((m (ao ((ao (at_+out.length)).tdiv 4096))).isSome=true)<|
  some (.inl (out++(((m (ao ((ao (at_+out.length)).tdiv 4096))).getD []).drop ((ao (at_+out.length)).tmod 4096).toNat).take (min (4096 -((ao (at_+out.length)).tmod 4096).toNat) (n -out.length).toNat)))
 else some (.inr out)
def nr(g:ox)(at_ Cu:Int):Option (List UInt8×Bool):=
 if(decide (at_<0)||decide (at_>g.total))||decide (Cu<0)then some ([],false)
 else
  ba (Bj g.known at_) fun u=>
  aH (at_<=u/\u<=g.total)<|
  ba (iter (Qr g.sM at_ (min Cu (u -at_))) []) fun out=>
  some (out,ao (at_+min Cu (u -at_))==g.total)
theorem PQ{es:List (AV×AV)}{n:Int}{b:Nat}(h:KI es)(e:eY (.int .i64 n) es=some (.arr b 0 4096 4096)):s5 (.int .i64) (.sl false 1 0 []) false (.int .i64 n) (some (.map es))=.prt True (.arr b 0 4096 4096):=by
 show NW false (fw (.int .i64) (.int .i64 n)=true/\mQ (.int .i64) es=true) (uy (.sl false 1 0 []) false (eY (.int .i64 n) es))=_
 rw[e,h.keys]
 show PR.prt (true=true/\true=true) _=_
 simp[uy,KZ,view]
theorem Bk{s0 s:ab}{B:Nat}{g:ox}{a Cu:Int}{Q:List AV->ab->Prop}(h:dY s0 s B g)(ht:g.total<=2147483647):ok (nr g a Cu) (fun x=>(x.1=[]->x.2=false->Q [.sl true 1 0 [],.bool false] s)/\(x.1=[]->∀b,s b=none->Q [.arr b 0 0 0,.bool x.2] (s.set b (.cells [])))/\∀r s',Sub s s'->fH s' r x.1->Q [ga r x.1.length,.bool x.2] (fc s' r x.1))->FN prog 61 [.ref B 0,.int .i64 a,.int .i64 Cu] s Q:=by
 intro hh
 refine FN.qf (FO B3 rfl rfl ?_)
 rw[ru]
 simp -implicitDefEqProofs only[go_sem,Nat.reduceBEq,Nat.reduceAdd,Nat.reduceMul,Nat.reduceLeDiff,Nat.reduceEqDiff,Nat.reduceBNe,UInt8.reduceToNat,UInt32.reduceToNat]
 refine pC h ?_
 obtain⟨cs,hs,VG⟩:=h.setAt
 obtain⟨q1,q2,M,es,q3,q4,q5,q6,q7,q8⟩:=id h
 revert hh
 rw[nr]
 simp -implicitDefEqProofs only[go_sem,Nat.reduceBEq,Nat.reduceAdd,Nat.reduceMul,Nat.reduceLeDiff,Nat.reduceEqDiff,Nat.reduceBNe,UInt8.reduceToNat,UInt32.reduceToNat,q3]
 rintro⟨w1,w2⟩
 refine⟨fun hc=>⟨s,Sub.refl s,(w1 hc).1 trivial trivial⟩,fun hc=>?_⟩
 obtain⟨u,hu,⟨hu1,hu2⟩,hh⟩:=w2 hc
 clear w1 w2
 have hc1:0<=a/\a<=g.total/\0<=Cu:=by simp at hc;omega
 refine HR hs ⟨u,hu,?_⟩
 simp -implicitDefEqProofs only[go_sem,Nat.reduceBEq,Nat.reduceAdd,Nat.reduceMul,Nat.reduceLeDiff,Nat.reduceEqDiff,Nat.reduceBNe,UInt8.reduceToNat,UInt32.reduceToNat,q3]
 rw[au (n:=u -a) (by omega) (by omega)]
 generalize hn:min Cu (u -a)=n at hh⊢
 have hn0:0<=n/\a+n<=g.total:=by omega
 revert hh
 refine fun hh=>⟨Int.le_refl 0,hn0.1,by unfold room;omega,fun b hb=>?_⟩
 by_cases hz:n=0
 ·subst hz
  revert hh
  refine jX (fun out τ=>out=[]/\τ=⟨[(0,.ref B 0),(1,.int .i64 a),(8,.int .i64 0),(9,.arr b 0 0 0)],[],s.set b (.cells [])⟩) ⟨rfl,rfl⟩ ?_
  rintro J out τ ⟨rfl,rfl⟩
  have nB:B≠b:=fun e=>by rw[<-e,q3]at hb;cases hb
  have p3:(s.set b (.cells [])) B=_:=(aW nB).trans q3
  rw[Qr]
  simp -implicitDefEqProofs only[go_sem,Nat.reduceBEq,Nat.reduceAdd,Nat.reduceMul,Nat.reduceLeDiff,Nat.reduceEqDiff,Nat.reduceBNe,UInt8.reduceToNat,UInt32.reduceToNat,p3]
  rintro⟨_,w2⟩
  exact⟨fun h=>(by simp at h),fun h=>⟨_,Sub.refl _,(w2 h).2.1 trivial b hb⟩⟩
 revert hh
 refine jX (fun out τ=>(out.length:Int)<=n/\∃(s':ab)(r:cm),τ=⟨[(0,.ref B 0),(1,.int .i64 a),(8,.int .i64 n),(9,ga r out.length)],[],fc s' r out⟩/\Sub s s'/\fH s' r out) ⟨by simp;omega,s,some (b,n.toNat,flat (List.replicate n.toNat (0:UInt8))),rfl,Sub.refl s,(show fH s (some (b,n.toNat,flat (List.replicate n.toNat (0:UInt8)))) ([]:List UInt8) from⟨hb,by omega,by simp,by show((flat ([]:List UInt8))++flat (List.replicate n.toNat (0:UInt8))).length=_;rw[rl,List.nil_append,aE,List.length_replicate],bX _⟩)⟩ ?_
 rintro J out τ ⟨hl,s',r,rfl,iH,hok⟩
 have p3:=gX hok (iH _ _ q3)
 have p5:=gX hok (iH _ _ q5)
 rw[Qr]
 simp -implicitDefEqProofs only[go_sem,Nat.reduceBEq,Nat.reduceAdd,Nat.reduceMul,Nat.reduceLeDiff,Nat.reduceEqDiff,Nat.reduceBNe,UInt8.reduceToNat,UInt32.reduceToNat,p3,p5]
 rintro⟨w1,w2⟩
 refine⟨fun hc=>⟨by decide,by decide,?_⟩,fun hc=>?_⟩
 ·obtain⟨Pp,w1⟩:=w1 hc
  have hc':(out.length:Int)<n:=by simpa using hc
  have wA:ao (a+out.length)=a+out.length:=au (by omega) (by omega)
  rw[wA]at Pp w1⊢
  have hm:0<=(a+(out.length:Int)).tmod 4096:=Int.tmod_nonneg _ (by omega)
  have hm2:(a+(out.length:Int)).tmod 4096<4096:=Int.tmod_lt_of_pos _ (by decide)
  have q7':=q7 (ao ((a+(out.length:Int)).tdiv 4096))
  cases hmk:g.sM (ao ((a+(out.length:Int)).tdiv 4096))with
  |none=>rw[hmk]at Pp;cases Pp
  |some c=>
   rw[hmk]at q7' w1
   obtain⟨c1,b',c2,c3,c4⟩:=q7'
   rw[PQ q6 c2]
   simp -implicitDefEqProofs only[go_sem,Nat.reduceBEq,Nat.reduceAdd,Nat.reduceMul,Nat.reduceLeDiff,Nat.reduceEqDiff,Nat.reduceBNe,UInt8.reduceToNat,UInt32.reduceToNat]
   rw[au (n:=n -out.length) (by omega) (by omega)]
   generalize hT:(a+(out.length:Int)).tmod 4096=T at hm hm2 w1⊢
   refine⟨⟨hm,by omega,by omega⟩,⟨by omega,by omega,by omega⟩,?_⟩
   have hnb:fc s' r out b'=some (.cells (flat c)):=gX hok (iH _ _ c4)
   have hf:(flat c).length=4096:=by rw[aE,c1];rfl
   have e1:(min ((4096 -T).toNat:Int) (n -out.length)).toNat=min (4096 -T.toNat) (n -out.length).toNat:=by omega
   rw[e1,Bo (by omega),QG hnb (by omega)]
   have TZ:=jS c 1 T.toNat (min (4096 -T.toNat) (n -out.length).toNat) rfl
   rw[Nat.mul_one]at TZ
   rw[TZ,bX]
   have hxl:((c.drop T.toNat).take (min (4096 -T.toNat) (n -out.length).toNat)).length=min (4096 -T.toNat) (n -out.length).toNat:=by rw[List.length_take,List.length_drop];omega
   have ZF:=HW (E:=?_) (d:=?_) (K:=?_) (by':=1) (z:=(0:UInt8)) (x:=(c.drop T.toNat).take (min (4096 -T.toNat) (n -out.length).toNat)) (s:=s') (r:=r) (l:=out) (sz:=1) ?_ hok rfl (by rw[hxl];omega) (by rw[hxl];unfold room;omega) ?_
   ·rw[hxl]at ZF
    exact ZF
   ·rfl
   ·intro s2 r' g1 g2
    simp -implicitDefEqProofs only[go_sem,Nat.reduceBEq,Nat.reduceAdd,Nat.reduceMul,Nat.reduceLeDiff,Nat.reduceEqDiff,Nat.reduceBNe,UInt8.reduceToNat,UInt32.reduceToNat]
    refine w1 _ ⟨?_,s2,r',rfl,fun b o hb=>g1 b o (iH b o hb),g2⟩
    have adQ:(List.take (min (4096 -T.toNat) (n -out.length).toNat) (List.drop T.toNat ((some c).getD []))).length=min (4096 -T.toNat) (n -out.length).toNat:=hxl
    rw[adQ]
    omega
 ·have w2:=(w2 hc).2.2 r s' iH hok
  exact⟨_,Sub.refl _,w2⟩
theorem SY{G:Gh}{w:World}{s s2:ab}{n sz:Nat}{cs:List AV}{x:Bool}{v:Value}{r:List AV}(hg:bR G w)(hs:aO G w s)(hl2:cs.length=n*sz)(hvw:views cs=cs)
 (h:(∃b cap sp,r=[.arr b 0 n cap,.bool x]/\s b=some (.cells (cs++sp))/\0<cap/\n<=cap/\(cs++sp).length=cap*sz/\Sub s2 (s.del b))\/(n=0/\cs=[]/\Sub s2 s/\∃b,r=[.arr b 0 0 0,.bool x]))(hr:nj G w r v):
 ∃G2,lD G G2/\bR G2 w/\aO G2 w s2/\nj G2 w [.sl true sz n cs,.bool x] v:=by
 have two:∀{a:AV}{v:Value},nj G w [a,.bool x] v->∃y0:Value,v=.tuple #[y0,.bool x]/\VR w G.R a y0/\cQ G w (.res 0) a y0:=by
  intro a v hr
  obtain⟨ys,rfl,hz,hc⟩:=hr
  have h2:ys.size=2:=hz
  have e0:=hc 0 a ys[0] rfl (by simp)
  have e1:=hc 1 (.bool x) ys[1] rfl (by simp)
  have e2:=VR.fR e1.1
  refine⟨ys[0],?_,e0.1,e0.2⟩
  congr 1
  apply Array.ext
  ·simp[h2]
  ·intro i h3 h4
   match i,h3 with
   |0,_=>rfl
   |1,_=>exact e2
   |i+2,h3=>omega
 have fin:∀{G2:Gh}{y0:Value},nj G2 w [.sl true sz n cs] y0->nj G2 w [.sl true sz n cs,.bool x] (.tuple #[y0,.bool x]):=by
  intro G2 y0 h
  refine⟨_,rfl,rfl,fun j a y hj hy=>?_⟩
  match j,hj with
  |0,hj=>cases hj;cases hy;exact h
  |1,hj=>cases hj;cases hy;exact⟨.bool _,trivial⟩
 rcases h with⟨b,cap,sp,rfl,hb,hc,hn,hl,iH⟩|⟨rfl,rfl,iH,b,rfl⟩
 ·obtain⟨y0,rfl,k0,k0'⟩:=two hr
  obtain⟨G2,k1,k2,k3,k4⟩:=Ml (v:=y0) hs hg hb hc hn hl hl2 hvw ⟨k0,k0'⟩
  exact⟨G2,k1,k2,k3.sub iH,fin k4⟩
 ·obtain⟨y0,rfl,k0,k0'⟩:=two hr
  exact⟨G,lD.refl G,hg,hs.sub iH,fin (Js (b:=b) ⟨k0,k0'⟩)⟩
theorem Bl{s0 s:ab}{B:Nat}{g:ox}{a Cu:Int}{r:List UInt8×Bool}(h:dY s0 s B g)(ht:g.total<=2147483647)(hr:nr g a Cu=some r):FE prog 61 [.ref B 0,.int .i64 a,.int .i64 Cu] s [.sl true 1 r.1.length (flat r.1),.bool r.2] s:=by
 refine FN.conv (Bk (Q:=fun rs t=>rs=[.sl true 1 r.1.length (flat r.1),.bool r.2]/\t=s\/((∃b cap sp,rs=[.arr b 0 r.1.length cap,.bool r.2]/\t b=some (.cells (flat r.1++sp))/\0<cap/\r.1.length<=cap/\(flat r.1++sp).length=cap*1/\Sub s (t.del b))\/(r.1.length=0/\flat r.1=[]/\Sub s t/\∃b,rs=[.arr b 0 0 0,.bool r.2]))) h ht ⟨r,hr,fun e1 e2=>?_,fun e1 b hb=>?_,fun r' s' h1 h2=>?_⟩) fun rs t hq G w v hg hs hv=>?_
 ·rw[e1,e2];exact .inl ⟨rfl,rfl⟩
 ·rw[e1];exact .inr (.inr ⟨rfl,rfl,(Sub.refl s).set hb,b,rfl⟩)
 ·cases r' with
  |none=>
   have e:r.1=[]:=h2
   rw[e];exact .inr (.inr ⟨rfl,rfl,h1,0,rfl⟩)
  |some x=>
   obtain⟨b,cap,sp⟩:=x
   obtain⟨k1,k2,k3,k4,k5⟩:=h2
   refine .inr (.inl ⟨b,cap,sp,rfl,gY,k2,k3,k4,?_⟩)
   show Sub s ((s'.set b _).del b)
   rw[AZ k1];exact h1
 ·rcases hq with⟨rfl,rfl⟩|hq
  ·exact⟨_,_,G,⟨rfl,rfl⟩,lD.refl G,hg,hs,hv⟩
  ·obtain⟨G2,k1,k2,k3,k4⟩:=SY hg hs (by rw[aE];rfl) (bX _) hq hv
   exact⟨_,_,G2,⟨rfl,rfl⟩,k1,k2,k3,k4⟩
structure kV where
 xI:(List Int)
 N9:Int
instance:aR kV:=⟨2,fun x=>[.sl false 1 x.xI.length (flat x.xI),.int .i64 x.N9],(kV.mk [] 0),by decide,fun _=>rfl,fun _=>rfl⟩
theorem dY.sub{s0 s s':ab}{B:Nat}{g:ox}(h:dY s0 s B g)(hs:Sub s s'):dY s0 s' B g:=by
 obtain⟨h1,h2,M,es,h3,h4,h5,h6,h7,h8⟩:=h
 exact⟨fun b o hb=>hs b o (h1 b o hb),h2,M,es,hs _ _ h3,h4,hs _ _ h5,h6,fun k=>(h7 k).mono fun b l hb=>hs b _ hb,h8⟩
structure J5 where
 B:Nat
 g:ox
def pD(s:ab)(x:J5):Prop:=(∃s0,dY s0 s x.B x.g)/\x.g.total<=2147483647
theorem pD.mono{s s':ab}{x:J5}(h:pD s x)(hs:Sub s s'):pD s' x:=by
 obtain⟨⟨s0,h1⟩,h2⟩:=h
 exact⟨⟨s0,h1.sub hs⟩,h2⟩
def xJ(x:J5)(a n:Int):Option (List UInt8×Bool):=nr x.g a n
def uF(x:J5):Option Int:=some x.g.total
theorem FH{x:J5}{a n:Int}{s:ab}{r:List UInt8×Bool}(hv:pD s x)(h:xJ x a n=some r):FE prog 61 [.ref x.B 0,.int .i64 a,.int .i64 n] s [.sl true 1 r.1.length (flat r.1),.bool r.2] s:=by
 obtain⟨⟨s0,h1⟩,h2⟩:=hv
 exact Bl h1 h2 h
theorem DA{x:J5}{s:ab}{r:Int}(hv:pD s x)(h:uF x=some r):FE prog 62 [.ref x.B 0] s [.int .i64 r] s:=by
 obtain⟨⟨s0,h1⟩,h2⟩:=hv
 injection h with h
 rw[<-h]
 exact zU h1 ⟨rfl,rfl⟩
def gy(v_0:aa)(cd:aC):Option (Int):=
 if v_0.Kind !=7 then
  some (-1)
 else
  oU (
   kU (
    iter (fun(i2:Int)=>
     if decide (i2<(v_0.L.length:Int))then
      aH (0<=i2/\i2<v_0.L.length)<|
      aH ((((ix v_0.L i2).Kind)==5)=true->0<=i2/\i2<v_0.L.length)<|
      if(((ix v_0.L i2).Kind)==5)&&(((ix v_0.L i2).S).b==cd.b)then
       some (.inr (.inr i2))
      else
       some (.inl (ao (i2+2)))
     else
      some (.inr (.inl ()))) 0) (fun(_:Unit)=>
    some (.inl ()))
   (fun(t3:Int)=>some (.inr t3))) (fun(_:Unit)=>
   some (-1))
  (fun(t1:Int)=>some t1)
def uw:IC:=
 (ag [i1 2 (.jf 4 (.t 0)),mi 4 0] [1,2]
 (.seq (ag [fa 6 0 2,ld 7 1 6,bn 8 .neq 7 7] [1,2,8]
 (.cond (.t 8) (ag [mi 4 (-1)] [4]
 .ret)
 .skip))
 (.join [] (ag [mi 5 0] [1,2,5]
 (.block 0 (.loop [(1,false),(2,false),(5,false)] (.seq (ag [mv 9 5,fa 10 3 2,ld 11 1 10,le 12 0 11,bt 13 .lss 9 12] [1,2,5,13]
 (.cond (.t 13) .skip
 (.exit 0)))
 (.seq (.block 1 (ag [fa 16 3 2,ld 17 1 16,mv 18 5,ia 19 CS 17 18,fa 20 0 19,ld 21 1 20,bn 22 .eql 21 5,mv 23 22,fg 24 23 true 3 2,lg 25 23 true 1 24,bK 26 5 23 true,b6 27 23 true (.indexAddr CS (.t 25) (.t 26)),fg 28 23 true 2 27,lg 29 23 true 1 28,bK 30 1 23 true,sm 31 23 true .eql 29 30,pf 32 23 31] [1,2,5,32]
 (.cond (.t 32) (ag [mv 33 5,mv 4 33] [4]
 .ret)
 .skip)))
 (.bP none [mv 14 5,bn 15 .add 14 2,mv 5 15] [1,2,5]))))))
 (ag [mi 4 (-1)] [4]
 .ret))))
theorem D3:aY prog 77 34 [⟨4,true,none⟩] uw=true:=by kernel_rfl
theorem Ev{v_0 cd}{s:ab}{Q:List AV->ab->Prop}:ok (gy v_0 cd) (fun r=>Q [.int .i64 r] s)->FN prog 77 [.agg [.int .i64 v_0.Kind,.int .i64 v_0.N,.str v_0.S.b,.sl false 4 v_0.L.length (flat v_0.L)],.str cd.b] s Q:=by
 intro h
 refine FO D3 rfl rfl ?_
 revert h
 rw[uw,gy]
 repeat'(first
  |(with_reducible first|exact dh|refine b9 ?_ ?_|exact Pw|refine dT ?_)
  |((with_reducible refine ch (fun(i2:Int)=>⟨[(1,.str cd.b),(2,.loc [.int .i64 v_0.Kind,.int .i64 v_0.N,.str v_0.S.b,.sl false 4 v_0.L.length (flat v_0.L)]),(5,.int .i64 i2)],[],s⟩) ?_ ?_);(first|exact rfl|simp -implicitDefEqProofs only[go_sem,seval]);rintro J i2)
  |((with_reducible refine bV (fun(_:Unit)=>⟨[],[],s⟩) (fun J=>?_) ?_);rotate_left;rintro _)
  |simp -implicitDefEqProofs only[go_sem,seval])
theorem Eu{v_0 cd}{s:ab}{r:Int}(h:gy v_0 cd=some r):FE prog 77 [.agg [.int .i64 v_0.Kind,.int .i64 v_0.N,.str v_0.S.b,.sl false 4 v_0.L.length (flat v_0.L)],.str cd.b] s [.int .i64 r] s:=Ev ⟨r,h,rfl,rfl⟩
theorem Sub.trans{s1 s2 s3:ab}(h:Sub s1 s2)(k:Sub s2 s3):Sub s1 s3:=fun b o h'=>k b o (h b o h')
end Go.AB
end
section
set_option maxRecDepth 4000
namespace Go.AB
open Go
open Go.Proofs.Tryz (prog)
attribute[-go_sem] cV dB cg cU Nat.add_zero tz du
def jx(a_0:(List UInt8))(b_1:(List UInt8)):Option (Bool):=some ((aC.mk a_0).b==(aC.mk b_1).b)
def ry:IC:=
 (ag [cY 4 (.bool false)] [0,1]
 (ag [mt 5 0,i1 6 (.eP (.t 5)),mt 7 1,i1 8 (.eP (.t 7)),bt 9 .eql 6 8,mv 4 9] [4]
 .ret))
theorem B4:aY prog 73 10 [⟨4,true,none⟩] ry=true:=by kernel_rfl
theorem Bw{a_0 b_1}{s:ab}{Q:List AV->ab->Prop}:ok (jx a_0 b_1) (fun r=>Q [.bool r] s)->FN prog 73 [sF 1 a_0,sF 1 b_1] s Q:=by
 intro h
 refine FO B4 rfl rfl ?_
 revert h
 rw[ry,jx]
 repeat'(first
  |simp -implicitDefEqProofs only[go_sem,seval])
theorem Bv{a_0 b_1}{s:ab}{r:Bool}(h:jx a_0 b_1=some r):FE prog 73 [sF 1 a_0,sF 1 b_1] s [.bool r] s:=Bw ⟨r,h,rfl,rfl⟩
def ff(s_0:(List UInt8))(prefix_1:(List UInt8)):Option (Bool):=
 aH ((decide ((s_0.length:Int)>=(prefix_1.length:Int)))=true->0<=(0:Int)/\0<=(prefix_1.length:Int)/\(prefix_1.length:Int)<=s_0.length)<|
 ba (dQ (decide ((s_0.length:Int)>=(prefix_1.length:Int))) false (jx (part s_0 0 (prefix_1.length:Int)) prefix_1)) fun r1=>
 some ((decide ((s_0.length:Int)>=(prefix_1.length:Int)))&&r1)
def mH:IC:=
 (ag [cY 4 (.bool false)] [0,1]
 (.seq (.bP (some 12) [mv 5 0,le 6 0 5,mv 7 1,le 8 0 7,bt 9 .geq 6 8,mv 10 9,bK 11 0 10 true,bK 12 1 10 true,b6 13 10 true (.len 0 (.t 12)),b6 14 10 true (.slice 1 (.t 11) none (some (.t 13)) none),bK 15 1 10 true,qd2 16 10 true 73 14 15,pf 17 10 16,mv 4 17] [4])
 .ret))
theorem uZ:aY prog 35 18 [⟨4,true,none⟩] mH=true:=by kernel_rfl
theorem uH{s_0 prefix_1}{s:ab}{Q:List AV->ab->Prop}:ok (ff s_0 prefix_1) (fun r=>Q [.bool r] s)->FN prog 35 [sF 1 s_0,sF 1 prefix_1] s Q:=by
 intro h
 refine FO uZ rfl rfl ?_
 revert h
 rw[mH,ff]
 repeat'(first
  |(with_reducible first|exact dh|refine b9 ?_ ?_|refine c8 rfl (fun _(h:jx (part s_0 0 (prefix_1.length:Int)) prefix_1=some _)=>Bv h) (fun _=>rfl) (fun r1=>?_))
  |simp -implicitDefEqProofs only[go_sem,seval])
theorem uG{s_0 prefix_1}{s:ab}{r:Bool}(h:ff s_0 prefix_1=some r):FE prog 35 [sF 1 s_0,sF 1 prefix_1] s [.bool r] s:=uH ⟨r,h,rfl,rfl⟩
def fZ(v_0:aa)(cd:aC):Option (aa×Bool):=
 ba (gy v_0 cd) fun r1=>
 if decide (r1<0)then
  some ((aa.mk 0 0 (aC.mk []) ([]:List aa)),false)
 else
  if(ao (r1+1))==(v_0.L.length:Int)then
   some ((aa.mk 0 0 (aC.mk []) ([]:List aa)),true)
  else
   aH (0<=ao (r1+1)/\ao (r1+1)<v_0.L.length)<|
   some (ix v_0.L (ao (r1+1)),true)
def wK:IC:=
 (ag [i1 2 (.jf 4 (.t 0)),i1 4 (.aA dD),cY 5 (.bool false)] [1,2,4]
 (ag [lm 7 4 2,mv 8 1,c2 9 77 7 8,mv 6 9] [2,4,6]
 (.seq (.block 0 (ag [mv 11 6,bn 12 .lss 11 0,mv 10 12] [2,4,6,10]
 (.cond (.t 10) (ag [i1 13 (.build dD []),st 4 4 13,cY 5 (.bool false)] [4,5]
 .ret)
 (ag [mv 15 6,bn 16 .add 15 1,fa 17 3 2,ld 18 1 17,le 19 0 18,bt 20 .eql 16 19,mv 14 20] [2,4,6,14]
 (.cond (.t 14) (ag [i1 21 (.build dD []),st 4 4 21,cY 5 (.bool true)] [4,5]
 .ret)
 .skip)))))
 (ag [fa 22 3 2,ld 23 1 22,mv 24 6,bn 25 .add 24 1,ia 26 CS 23 25,lm 27 4 26,st 4 4 27,cY 5 (.bool true)] [4,5]
 .ret))))
theorem GJ:aY prog 37 28 [⟨4,false,some (4,true)⟩,⟨5,true,none⟩] wK=true:=by kernel_rfl
theorem HL{v_0 cd}{s:ab}{Q:List AV->ab->Prop}:ok (fZ v_0 cd) (fun r=>Q [oV r.1,.bool r.2] s)->FN prog 37 [oV v_0,.str cd.b] s Q:=by
 intro h
 refine FO GJ rfl rfl ?_
 revert h
 rw[wK,fZ]
 repeat'(first
  |with_reducible refine ax (fun _(h:gy v_0 cd=some _)=>Eu h) (fun r1=>?_)
  |simp -implicitDefEqProofs only[go_sem,seval])
theorem xz{v_0 cd}{s:ab}{r:aa×Bool}(h:fZ v_0 cd=some r):FE prog 37 [oV v_0,.str cd.b] s [oV r.1,.bool r.2] s:=HL ⟨r,h,rfl,rfl⟩
def mO:IC:=
 (ag [mv 5 0,le 6 0 5,mi 7 0] [0,1,6,7]
 (.block 0 (.loop [(0,false),(1,false),(6,false),(7,false)] (ag [bt 8 .lss 7 6] [0,1,6,7,8]
 (.seq (.cond (.t 8) .skip
 (.exit 0))
 (.seq (.block 1 (ag [mv 9 7,mv 4 9] [0,1,4,6,7]
 (ag [mv 10 4,bn 11 .eql 10 0,mv 12 11,bK 13 0 12 false,bK 14 4 12 false,im 15 12 false .sub 14 1,b6 16 12 false (.indexAddr [.int .u8 0] (.t 13) (.t 15)),lg 17 12 false 1 16,Fm 18 12 false 67 17,po 19 12 18,mv 20 19,bK 21 0 20 false,bK 22 4 20 false,im 23 20 false .sub 22 1,b6 24 20 false (.indexAddr [.int .u8 0] (.t 21) (.t 23)),lg 25 20 false 1 24,Fm 26 20 false 68 25,po 27 20 26] [0,1,4,6,7,27]
 (.cond (.t 27) (.bP none [mv 28 1,mv 29 4,i1 30 (.dj (.t 28) [(.t 29)])] [0,1,6,7])
 .skip))))
 (.bP none [bn 31 .add 7 1,mv 7 31] [0,1,6,7])))))))
theorem vd:aY prog 30 32 [] mO=true:=by kernel_rfl
def oS:IC:=
 (ag [ld 7 1 1,mv 8 0,c2 9 32 7 8,jJ 6 9,ex 10 6 0,ex 11 6 1,mv 4 10,mv 5 11] [0,2,4,5]
 (.seq (ag [mv 12 5,no 13 12] [0,2,4,13]
 (.cond (.t 13) .ret
 .skip))
 (.seq (.block 0 (.loop [(0,false),(2,false),(4,false)] (.seq (ag [ld 14 1 2,le 15 0 14,mv 16 4,bt 17 .lss 15 16] [0,2,4,17]
 (.cond (.t 17) .skip
 (.exit 0)))
 (.block 1 (.bP none [ld 18 1 2,i1 19 (.bB 1 1 vm [(0,1,(.c (.int .i64 (-1))))]),i1 20 (.fL 1 8 vm (.t 18) (.t 19)),st 1 2 20] [0,2,4])))))
 (.bP none [ld 21 1 2,mv 22 4,bn 23 .sub 22 1,mv 24 0,ia 25 vm 21 23,st 1 25 24] []))))
theorem yh:aY prog 31 26 [] oS=true:=by kernel_rfl
def qx:IC:=
 (ag [i1 1 (.qE 1 (.t 0)),cY 2 (.sl true 1 0 [])] [1]
 (ag [i1 3 (.gH [.arr 0 0 0 0])] [1,3]
 (ag [ld 4 1 1,i1 5 (.lI 31 [] [(.t 1),(.t 3)]),c2 6 30 4 5] [3]
 (ag [ld 7 1 3,i1 2 (.NY 1 true (.t 7))] [2]
 .ret))))
theorem Ai:aY prog 9 8 [⟨2,false,none⟩] qx=true:=by kernel_rfl
def qy:IC:=
 (ag [i1 1 (.qE 1 (.t 0)),i1 2 (.aA dD),cY 3 (.bool false)] [1,2]
 (ag [i1 7 (.bB 1 7 [.int .u8 0,.int .u8 0,.int .u8 0,.int .u8 0,.int .u8 0,.int .u8 0,.int .u8 0] [(0,1,(.c (.int .u8 116))),(1,1,(.c (.int .u8 114))),(2,1,(.c (.int .u8 97))),(3,1,(.c (.int .u8 105))),(4,1,(.c (.int .u8 108))),(5,1,(.c (.int .u8 101))),(6,1,(.c (.int .u8 114)))]),i1 8 (.jg (.t 7)),i1 4 (.gH [.sl true 1 0 []]),st 1 4 8] [1,2,4]
 (ag [i1 5 (.gH CS)] [1,2,4,5]
 (ag [i1 6 (.gH [.bool false]),i0 (.store 1 (.t 6) (.c (.bool false)))] [1,2,4,5,6]
 (ag [ld 9 1 1,i1 10 (.lI 34 [] [(.t 1),(.t 4),(.t 5),(.t 6)]),c2 11 30 9 10] [2,5,6]
 (.seq (.C7 [2] 4 [lm 12 4 5,ld 13 1 6,st 4 2 12,mv 3 13] [2,3])
 .ret))))))
theorem Aj:aY prog 12 14 [⟨2,false,some (4,true)⟩,⟨3,true,none⟩] qy=true:=by kernel_rfl
def oT:IC:=
 (.seq (.seq (.bP (some 6) [ld 11 1 1,mv 12 0,YJ 13 1 11 12,ld 14 1 2,c2 15 35 13 14,no 16 15] [0,1,2,3,4,16])
 (.cond (.t 16) .ret
 .skip))
 (ag [ld 18 1 1,mv 19 0,ld 20 1 2,le 21 0 20,bt 22 .add 19 21,i1 23 (.call 36 [(.t 18),(.t 22),(.c (.bool true))]),jJ 17 23,ex 24 17 0,ex 25 17 1,ex 26 17 2,i1 6 (.aA dD),st 4 6 24,mv 7 25,mv 8 26] [3,4,6,8]
 (ag [lm 28 4 6,i1 29 (.call 37 [(.t 28),(.c (.str [82,111,111,116]))]),jJ 27 29,ex 30 27 0,ex 31 27 1,i1 9 (.aA dD),st 4 9 30,mv 10 31] [3,4,6,8,9]
 (ag [mv 32 8,bn 33 .eql 32 0,mv 34 33,fg 35 34 true 0 9,lg 36 34 true 1 35,im 37 34 true .eql 36 8,pf 38 34 37] [3,4,6,38]
 (.cond (.t 38) (.bP none [lm 39 4 6,st 4 3 39,i0 (.store 1 (.t 4) (.c (.bool true)))] [])
 .skip)))))
theorem yi:aY prog 34 40 [] oT=true:=by kernel_rfl
def beg(b:List UInt8)(k:Int):Option Bool:=bif k==0 then some true else ba (fj (ix b (k -1))) fun x=>bif x then some true else jz (ix b (k -1))
def Fu{S:Type}(step:S->Int->Option S)(b:List UInt8)(q:S×Int):Option ((S×Int)⊕S):=bif decide (q.2<b.length)then aH (0<=q.2/\q.2<2^62)<|ba (beg b q.2) fun x=>bif x then ba (step q.1 q.2) fun t=>some (.inl (t,q.2+1))else some (.inl (q.1,q.2+1))else some (.inr q.1)
theorem Ol{S:Type}{step:S->Int->Option S}{b:List UInt8}{c:Nat}{dZ:List AV}{R:S->ab->Prop}{st:S}{s:ab}{Q:List AV->ab->Prop}(hok:(uQ prog c=true)=True)(hv:bQ (fun x=>match x with|.c a=>a|_=>.undef) (dZ.map .c)=some dZ)
 (nu:∀st k s st',step st k=some st'->R st s->FN prog c ([.int .i64 k]++dZ) s fun rs s'=>rs=[]/\R st' s')(h0:R st s)(hm:ok (iter (Fu step b) (st,0)) fun st'=>∀s',R st' s'->Q [] s'):
 FN prog 30 [.sl false 1 b.length (flat b),.fn c [] dZ] s Q:=by
 refine FO vd rfl rfl ?_
 rw[mO]
 simp -implicitDefEqProofs only[go_sem,seval]
 refine jX (fun(q:S×Int) τ=>∃s',R q.1 s'/\τ=(⟨[(0,.sl false 1 b.length (flat b)),(1,.fn c [] dZ),(6,.int .i64 b.length),(7,.int .i64 q.2)],[],s'⟩:St)) ⟨s,h0,rfl⟩ ?_ hm
 rintro J ⟨st1,k⟩ τ ⟨s1,hR,rfl⟩ hb
 unfold Fu at hb
 simp only at hb
 cases hlt:decide (k<(b.length:Int))with
 |false=>
  rw[hlt,cond_false,aP]at hb
  simp only[sQ]at hb
  simp -implicitDefEqProofs only[go_sem,seval,hlt,Bool.true_eq_false,Bool.false_eq_true,false_implies,true_implies,true_and,and_true]
  exact hb s1 hR
 |true=>
  rw[hlt,cond_true,fM,eF]at hb
  obtain⟨⟨q1,q2⟩,x,hx,hb⟩:=hb
  have hk:k<(b.length:Int):=by simpa using hlt
  have w1:ao (k+1)=k+1:=au (by omega) (by omega)
  have w2:ao (k -1)=k -1:=au (by omega) (by omega)
  unfold beg at hx
  cases h0:(k==0)with
  |true=>
   rw[h0,cond_true]at hx
   injection hx with hx
   subst hx
   rw[cond_true,eF]at hb
   obtain⟨t,ht,hb⟩:=hb
   rw[aP]at hb
   simp only[iY]at hb
   simp -implicitDefEqProofs only[go_sem,seval,hlt,h0,w1,w2,Bool.true_eq_false,Bool.false_eq_true,false_implies,true_implies,true_and,and_true,Bool.true_or]
   refine⟨by simpa using hok,FN.mono (nu _ _ _ _ ht hR) fun rs s'⟨e,hR'⟩=>?_⟩
   subst e
   simp -implicitDefEqProofs only[go_sem,seval,w1]
   exact hb _ ⟨s',hR',rfl⟩
  |false=>
   rw[h0,cond_false]at hx
   have hx':ok (ba (fj (ix b (k -1))) fun x=>bif x then some true else jz (ix b (k -1))) fun z=>z=x:=⟨x,hx,rfl⟩
   rw[eF]at hx'
   obtain⟨x1,hx1,hx'⟩:=hx'
   have k1:0<=k -1/\k -1<(b.length:Int):=by
    have:k≠0:=by simpa using h0
    omega
   cases x1 with
   |true=>
    rw[cond_true,aP]at hx'
    subst hx'
    rw[cond_true,eF]at hb
    obtain⟨t,ht,hb⟩:=hb
    rw[aP]at hb
    simp only[iY]at hb
    simp -implicitDefEqProofs only[go_sem,seval,hlt,h0,w1,w2,Bool.true_eq_false,Bool.false_eq_true,false_implies,true_implies,true_and,and_true,Bool.true_or]
    refine⟨k1,FE.app (ie hx1) ?_⟩
    simp -implicitDefEqProofs only[go_sem,seval,w1,w2,Bool.true_eq_false,Bool.false_eq_true,false_implies,true_implies,true_and,and_true,Bool.true_or]
    refine⟨by simpa using hok,FN.mono (nu _ _ _ _ ht hR) fun rs s'⟨e,hR'⟩=>?_⟩
    subst e
    simp -implicitDefEqProofs only[go_sem,seval,w1]
    exact hb _ ⟨s',hR',rfl⟩
   |false=>
    rw[cond_false]at hx'
    obtain⟨x2,hx2,rfl⟩:=hx'
    cases x2 with
    |true=>
     rw[cond_true,eF]at hb
     obtain⟨t,ht,hb⟩:=hb
     rw[aP]at hb
     simp only[iY]at hb
     simp -implicitDefEqProofs only[go_sem,seval,hlt,h0,w1,w2,Bool.true_eq_false,Bool.false_eq_true,false_implies,true_implies,true_and,and_true,Bool.true_or]
     refine⟨k1,FE.app (ie hx1) ?_⟩
     simp -implicitDefEqProofs only[go_sem,seval,w1,w2,Bool.true_eq_false,Bool.false_eq_true,false_implies,true_implies,true_and,and_true,Bool.true_or]
     refine⟨k1,FE.app (pU hx2) ?_⟩
     simp -implicitDefEqProofs only[go_sem,seval,w1,w2,Bool.true_eq_false,Bool.false_eq_true,false_implies,true_implies,true_and,and_true,Bool.true_or]
     refine⟨by simpa using hok,FN.mono (nu _ _ _ _ ht hR) fun rs s'⟨e,hR'⟩=>?_⟩
     subst e
     simp -implicitDefEqProofs only[go_sem,seval,w1]
     exact hb _ ⟨s',hR',rfl⟩
    |false=>
     rw[cond_false,aP]at hb
     simp only[iY]at hb
     simp -implicitDefEqProofs only[go_sem,seval,hlt,h0,w1,w2,Bool.true_eq_false,Bool.false_eq_true,false_implies,true_implies,true_and,and_true,Bool.true_or]
     refine⟨k1,FE.app (ie hx1) ?_⟩
     simp -implicitDefEqProofs only[go_sem,seval,w1,w2,Bool.true_eq_false,Bool.false_eq_true,false_implies,true_implies,true_and,and_true,Bool.true_or]
     refine⟨k1,FE.app (pU hx2) ?_⟩
     simp -implicitDefEqProofs only[go_sem,seval,w1,w2,Bool.true_eq_false,Bool.false_eq_true,false_implies,true_implies,true_and,and_true,Bool.true_or]
     exact hb _ ⟨s1,hR,rfl⟩
def Zv(n:Int)(out:List Int):Option (List Int⊕List Int):=bif decide ((out.length:Int)<n)then aH ((out.length+1)*8<=room)<|some (.inl (out++[-1]))else some (.inr out)
def A7(b:List UInt8)(out:List Int)(at_:Int):Option (List Int):=ba (tg b at_) fun r=>bif !r.2 then some out else ba (iter (Zv r.1) out) fun o=>aH (1<=r.1/\r.1<=o.length/\r.1<2^61)<|some (o.set (r.1 -1).toNat at_)
def Lw(s0:ab)(o:Nat)(out:List Int)(s:ab):Prop:=∃s1 r,s1 o=some (.cells [ga r out.length])/\Sub s0 s1/\fH s1 r out/\s=fc s1 r out
theorem Nz{s:ab}{r:cm}{ls:List Int}{B:Nat}{o o':SO}(h:fH s r ls)(hB:s B=some o):(fc s r ls).set B o'=fc (s.set B o') r ls/\fH (s.set B o') r ls:=by
 cases r with
 |none=>exact⟨rfl,h⟩
 |some x=>
  obtain⟨rb,cap,sp⟩:=x
  obtain⟨h1,h2⟩:=h
  have hne:B≠rb:=fun e=>by subst e;rw[h1]at hB;cases hB
  refine⟨set_comm hne,⟨by rw[aW hne.symm];exact h1,h2⟩⟩
theorem KY{b:List UInt8}{s0 s:ab}{o bb:Nat}{out Sy:List Int}{k:Int}(h0:s0 o=none)(hb:s0 bb=some (.cells [.sl false 1 b.length (flat b)]))(hs:A7 b out k=some Sy)(h:Lw s0 o out s):
 FN prog 31 [.int .i64 k,.ref bb 0,.ref o 0] s fun rs s'=>rs=[]/\Lw s0 o Sy s':=by
 have bz:room=140737488355328:=rfl
 obtain⟨s1,r,h1,h2,h3,rfl⟩:=h
 have hbb:fc s1 r out bb=some (.cells [.sl false 1 b.length (flat b)]):=gX h3 (h2 _ _ hb)
 have hs':ok (A7 b out k) fun z=>z=Sy:=⟨Sy,hs,rfl⟩
 unfold A7 at hs'
 rw[eF]at hs'
 obtain⟨⟨n,is⟩,hh,hs'⟩:=hs'
 refine FO yh rfl rfl ?_
 rw[oS]
 generalize cj:fc s1 r out=st at*
 simp -implicitDefEqProofs only[go_sem,seval,hbb]
 refine FE.app (HC hh) ?_
 simp -implicitDefEqProofs only[go_sem,seval]
 refine⟨fun hi=>?_,fun hi=>?_⟩
 ·rw[hi,cond_true,aP]at hs'
  subst hs'
  exact⟨s1,r,h1,h2,h3,cj.symm⟩
 ·rw[hi,cond_false,eF]at hs'
  obtain⟨o2,ho2,hs'⟩:=hs'
  rw[fM,aP]at hs'
  obtain⟨⟨m1,m2,m3⟩,rfl⟩:=hs'
  refine jX (kf:=fun z=>z=o2) (fun(q:List Int) τ=>∃s',Lw s0 o q s'/\τ=(⟨[(0,.int .i64 k),(2,.ref o 0),(4,.int .i64 n)],[],s'⟩:St)) ⟨st,⟨s1,r,h1,h2,h3,cj.symm⟩,rfl⟩ ?_ ⟨o2,ho2,rfl⟩
  rintro J q τ ⟨s',⟨s2,r2,g1,g2,g3,rfl⟩,rfl⟩ hq
  have hB:fc s2 r2 q o=some (.cells [ga r2 q.length]):=gX g3 g1
  unfold Zv at hq
  cases hlt:decide ((q.length:Int)<n)with
  |false=>
   rw[hlt,cond_false,aP]at hq
   simp only[sQ]at hq
   subst hq
   obtain⟨rb,cap,sp,rfl⟩:=Hz g3 (by omega)
   have w1:ao (n -1)=n -1:=au (by omega) (by omega)
   obtain⟨r1,_⟩:=aem q sp (n:=1) rfl (j:=n -1) (by omega) (by omega)
   have st1:=aep q sp (n:=1) rfl k (j:=n -1) (by omega) (by omega)
   have st1:setAt (flat q++sp) ((n -1).toNat*1) [.int .i64 k]=_:=st1
   have hrb:fc s2 (some (rb,cap,sp)) q rb=some (.cells (flat q++sp)):=bc ..
   have hup:=Mt (l':=q.set (n -1).toNat k) g3 (List.length_set ..)
   have hne:o≠rb:=fun e=>by subst e;rw[g3.1]at g1;cases g1
   generalize Ps:fc s2 (some (rb,cap,sp)) q=st2 at*
   generalize hcs:flat q++sp=cs at*
   have hB:st2 o=some (.cells [.arr rb 0 q.length cap]):=hB
   simp -implicitDefEqProofs only[go_sem,seval,hB,hlt,w1,hrb,Bool.true_eq_false,Bool.false_eq_true,false_implies,true_implies,true_and,and_true]
   rw[st1]
   refine⟨⟨by omega,by omega⟩,r1,s2,some (rb,cap,sp),by rw[List.length_set];exact g1,g2,hup,?_⟩
   rw[<-Ps]
   exact set_set ..
  |true=>
   rw[hlt,cond_true,fM,aP]at hq
   simp only[iY]at hq
   obtain⟨hr,hq⟩:=hq
   generalize Ps:fc s2 r2 q=st2 at*
   simp -implicitDefEqProofs only[go_sem,seval,hB,hlt,Bool.true_eq_false,Bool.false_eq_true,false_implies,true_implies,true_and,and_true]
   rw[kQ]
   have fin:=sL (E:=?_) (d:=?_) (K:=?_) (by':=8) (s:=s2) (r:=r2) (l:=q) (z:=(0:Int)) (v:=(-1:Int)) (sz:=1) ?_ g3 rfl hr ?_
   ·exact fin
   ·exact Ps.symm
   ·intro s3 r3 f1 f2
    have hB2:s3 o=some (.cells [ga r2 q.length]):=f1 _ _ g1
    have hB3:fc s3 r3 (q++[(-1:Int)]) o=some (.cells [ga r2 q.length]):=gX f2 hB2
    generalize adM:fc s3 r3 (q++[(-1:Int)])=st3 at hB3
    simp -implicitDefEqProofs only[go_sem,seval,hB3]
    refine hq _ ⟨_,?_,rfl⟩
    obtain⟨q1,q2⟩:=Nz (o':=.cells [ga r3 (q.length+1)]) f2 hB2
    refine⟨s3.set o (.cells [ga r3 (q.length+1)]),r3,by rw[bc];simp,fun b' o' hb'=>?_,q2,?_⟩
    ·have hne:b'≠o:=fun e=>by subst e;rw[h0]at hb';cases hb'
     rw[aW hne]
     exact f1 _ _ (g2 _ _ hb')
    ·rw[<-adM];exact q1
def mf(b:List UInt8):Option (List Int):=iter (Fu (A7 b) b) ([],0)
theorem qB{b_0:List UInt8}{s:ab}{r:List Int}(h:mf b_0=some r):FE prog 9 [.sl false 1 b_0.length (flat b_0)] s [.sl false 1 r.length (flat r)] s:=by
 refine FN.qf (FO Ai rfl rfl ?_)
 rw[qx]
 simp -implicitDefEqProofs only[go_sem,seval]
 intro bb hbb o ho
 have n1:=ho
 rw[eU]at n1
 have hne:bb≠o:=n1.1.symm
 simp -implicitDefEqProofs only[go_sem,seval,aW hne]
 refine Ol (R:=Lw (s.set bb (.cells [.sl false 1 b_0.length (flat b_0)])) o) (eq_true (by kernel_rfl)) rfl (fun st k s1 st' hs hR=>KY ho gY hs hR) ⟨_,none,gY,(Sub.refl _).set ho,rfl,rfl⟩ ⟨r,h,fun s' hR=>?_⟩
 obtain⟨s1,r1,h1,h2,h3,rfl⟩:=hR
 have hB:=gX h3 h1
 generalize cj:fc s1 r1 r=st at*
 simp -implicitDefEqProofs only[go_sem,seval,hB]
 have fz:=A2 (E:=?_) (d:=?_) (K:=?_) (sz:=1) (s:=s1) (r:=r1) (l:=r) ?_ h3 rfl ?_
 ·exact fz
 ·exact cj.symm
 ·simp -implicitDefEqProofs only[go_sem,seval]
  exact⟨s,fun b o hb=>h2 _ _ (((Sub.refl s).set hbb) b o hb),rfl⟩
def JZ:List UInt8:=[116,114,97,105,108,101,114]
def zj(b:List UInt8)(st:aa×Bool)(k:Int):Option (aa×Bool):=
 aH (0<=k/\k<=b.length/\k<2^61)<|ba (ff (part b k (b.length:Int)) JZ) fun p=>bif !p then some st else
 ba (jB b (k+7) true) fun v=>ba (fZ v.1 ⟨[82,111,111,116]⟩) fun g=>bif(v.2.2==0)&&(g.1.Kind==8)then some (v.1,true)else some st
def Rk(s0:ab)(ov f:Nat)(st:aa×Bool)(s:ab):Prop:=s=(s0.set ov (.cells [.int .i64 st.1.Kind,.int .i64 st.1.N,.str st.1.S.b,.sl false 4 st.1.L.length (flat st.1.L)])).set f (.cells [.bool st.2])
theorem NN{b:List UInt8}{s0 s:ab}{ov f bb wb:Nat}{own:Bool}{st st':aa×Bool}{k:Int}(hv:s0 ov=none)(hf:s0 f=none)(hne:f≠ov)(hb:s0 bb=some (.cells [.sl false 1 b.length (flat b)]))(hw:s0 wb=some (.cells [.sl own 1 7 (flat JZ)]))
 (hs:zj b st k=some st')(h:Rk s0 ov f st s):FN prog 34 [.int .i64 k,.ref bb 0,.ref wb 0,.ref ov 0,.ref f 0] s fun rs s'=>rs=[]/\Rk s0 ov f st' s':=by
 have n1:bb≠ov:=fun e=>by subst e;rw[hv]at hb;cases hb
 have n2:bb≠f:=fun e=>by subst e;rw[hf]at hb;cases hb
 have n3:wb≠ov:=fun e=>by subst e;rw[hv]at hw;cases hw
 have n4:wb≠f:=fun e=>by subst e;rw[hf]at hw;cases hw
 have e1:s bb=some (.cells [.sl false 1 b.length (flat b)]):=by rw[h,aW n2,aW n1];exact hb
 have e2:s wb=some (.cells [.sl own 1 7 (flat JZ)]):=by rw[h,aW n4,aW n3];exact hw
 have e3:s ov=some (.cells [.int .i64 st.1.Kind,.int .i64 st.1.N,.str st.1.S.b,.sl false 4 st.1.L.length (flat st.1.L)]):=by rw[h,aW hne.symm,bc]
 have e4:s f=some (.cells [.bool st.2]):=by rw[h,bc]
 have hs':ok (zj b st k) fun z=>z=st':=⟨st',hs,rfl⟩
 unfold zj at hs'
 rw[fM,eF]at hs'
 obtain⟨⟨k1,k2,k3⟩,p,hp,hs'⟩:=hs'
 have fp:=xW 1 b k (b.length:Int) rfl
 refine FO yi rfl rfl ?_
 rw[oT]
 simp -implicitDefEqProofs only[go_sem,seval,e1,e2]
 refine⟨⟨k1,k2,Int.le_refl _⟩,[.bool p],rfl,uG (prefix_1:=JZ) hp,?_⟩
 cases p with
 |false=>
  rw[Bool.not_false,cond_true,aP]at hs'
  subst hs'
  simp -implicitDefEqProofs only[go_sem,seval,Bool.not_false,Bool.true_eq_false,Bool.false_eq_true,false_implies,true_implies,true_and,and_true]
  exact h
 |true=>
  rw[Bool.not_true,cond_false,eF]at hs'
  obtain⟨v,hv2,hs'⟩:=hs'
  rw[eF]at hs'
  obtain⟨g,hg,hs'⟩:=hs'
  have w1:ao (k+7)=k+7:=au (by omega) (by omega)
  have e7:((7:Nat):Int)=7:=rfl
  simp -implicitDefEqProofs only[go_sem,seval,e1,e2,e7,w1,Bool.not_true,Bool.true_eq_false,Bool.false_eq_true,false_implies,true_implies,true_and,and_true]
  refine FE.app (CE hv2) ?_
  simp -implicitDefEqProofs only[go_sem,seval,Bool.true_eq_false,Bool.false_eq_true,false_implies,true_implies,true_and,and_true]
  refine FE.app (xz hg) ?_
  simp -implicitDefEqProofs only[go_sem,seval,Bool.true_eq_false,Bool.false_eq_true,false_implies,true_implies,true_and,and_true]
  cases c1:(v.2.2==0)with
  |false=>
   simp only[c1,Bool.false_and,cond_false,aP]at hs'
   subst hs'
   simp -implicitDefEqProofs only[go_sem,seval,c1,Bool.true_eq_false,Bool.false_eq_true,false_implies,true_implies,true_and,and_true,Bool.false_and]
   first|exact h|trace_state
  |true=>
   cases c2:(g.1.Kind==8)with
   |false=>
    simp only[c1,c2,Bool.and_false,cond_false,aP]at hs'
    subst hs'
    simp -implicitDefEqProofs only[go_sem,seval,c1,c2,Bool.true_eq_false,Bool.false_eq_true,false_implies,true_implies,true_and,and_true,Bool.false_and]
    first|exact h|trace_state
   |true=>
    simp only[c1,c2,Bool.and_true,cond_true,aP]at hs'
    subst hs'
    have e5:∀cs,(s.set ov (.cells cs)) f=some (.cells [.bool st.2]):=fun cs=>by rw[aW hne];exact e4
    simp -implicitDefEqProofs only[go_sem,seval,c1,c2,e3,e5,Bool.true_eq_false,Bool.false_eq_true,false_implies,true_implies,true_and,and_true,Bool.false_and]
    unfold Rk at h⊢
    rw[h]
    funext x
    by_cases hx:x=f
    ·subst hx;rw[bc,bc]
    ·rw[aW hx,aW hx]
     by_cases hy:x=ov
     ·subst hy;rw[bc,bc]
     ·rw[aW hy,aW hy,aW hx,aW hy]
def iB(b:List UInt8):Option (aa×Bool):=iter (Fu (zj b) b) ((zV,false),0)
theorem lJ{b_0:List UInt8}{s:ab}{r:aa×Bool}(h:iB b_0=some r):FE prog 12 [.sl false 1 b_0.length (flat b_0)] s
 [.agg [.int .i64 r.1.Kind,.int .i64 r.1.N,.str r.1.S.b,.sl false 4 r.1.L.length (flat r.1.L)],.bool r.2] s:=by
 refine FN.qf (FO Aj rfl rfl ?_)
 rw[qy]
 simp -implicitDefEqProofs only[go_sem,seval]
 intro bb hbb wb hwb ov hov f hf
 have n1:=hwb
 rw[eU]at n1
 generalize hS1:s.set bb (.cells [.sl false 1 b_0.length (flat b_0)])=S1 at*
 have hb1:S1 bb=some (.cells [.sl false 1 b_0.length (flat b_0)]):=by rw[<-hS1];exact bc ..
 have hw':S1 wb=none:=hwb
 generalize hS0:S1.set wb _=S0 at*
 have hw0:S0 wb=some (.cells [.sl false 1 7 (flat JZ)]):=by rw[<-hS0];exact bc ..
 have hb0:S0 bb=some (.cells [.sl false 1 b_0.length (flat b_0)]):=by rw[<-hS0,aW (fun e=>by rw[e,hw']at hb1;cases hb1)];exact hb1
 have iH:Sub s S0:=by
  rw[<-hS0,<-hS1]
  exact((Sub.refl s).set hbb).set (by rw[hS1];exact hw')
 rw[eU]at hf
 have eB:((S0.set ov (.cells [.int .i64 0,.int .i64 0,.str [],.sl false 4 0 []])).set f (.cells [.bool false])) bb=some (.cells [.sl false 1 b_0.length (flat b_0)]):=by
  rw[aW (fun e=>by rw[<-e,hb0]at hf;cases hf.2),aW (fun e=>by rw[<-e,hb0]at hov;cases hov)]
  exact hb0
 simp -implicitDefEqProofs only[go_sem,seval,eB]
 refine Ol (R:=Rk S0 ov f) (step:=zj b_0) (st:=(zV,false)) (eq_true (by kernel_rfl)) rfl (fun st k s1 st' hs hR=>NN hov hf.2 hf.1 hb0 hw0 hs hR) rfl ⟨r,h,fun s' hR=>?_⟩
 have e3:s' ov=some (.cells [.int .i64 r.1.Kind,.int .i64 r.1.N,.str r.1.S.b,.sl false 4 r.1.L.length (flat r.1.L)]):=by rw[hR,aW hf.1.symm,bc]
 have e4:s' f=some (.cells [.bool r.2]):=by rw[hR,bc]
 have hs2:Sub s s':=by
  rw[hR]
  exact(iH.set hov).set (by rw[eU];exact hf)
 simp -implicitDefEqProofs only[go_sem,seval,e3,e4]
 first|exact⟨s,hs2,rfl⟩|exact⟨rfl,s,hs2,rfl⟩|trace_state
def tf(s_0:J5):Option (kV×Int×Int):=
 ba (uF s_0) fun r1=>
 ba (xJ s_0 0 r1) fun r2=>
 if !r2.2 then
  none
 else
  ba (mf r2.1) fun r3=>
  ba (iB r2.1) fun r4=>
  if r4.2 then
   ba (fZ r4.1 (aC.mk [82,111,111,116])) fun r5=>
   if r5.1.N==0 then
    none
   else
    some ((kV.mk r3 r5.1.N),0,0)
  else
   none
def wH:IC:=
 (ag [i1 2 (.aA [.sl true 1 0 [],.int .i64 0]),mi 3 0,mi 4 0] [0,2]
 (ag [mv 13 0,mv 14 0,c1 15 62 14,i1 16 (.call 61 [(.t 13),(.c (.int .i64 0)),(.t 15)]),jJ 12 16,ex 17 12 0,ex 18 12 1,mt 5 17,mv 6 18] [2,5,6]
 (.seq (ag [mv 19 6,no 20 19] [2,5,20]
 (.cond (.t 20) .dead
 .skip))
 (ag [mv 24 5,c1 25 9 24,i1 26 (.build [.sl true 1 0 [],.int .i64 0] [(0,1,(.t 25))]),i1 7 (.aA [.sl true 1 0 [],.int .i64 0]),st 2 7 26] [2,5,7]
 (.seq (ag [mt 28 5,c1 29 12 28,jJ 27 29,ex 30 27 0,ex 31 27 1,i1 8 (.aA dD),st 4 8 30,mv 9 31] [2,7,8,9]
 (ag [mv 32 9] [2,7,8,32]
 (.cond (.t 32) (ag [lm 34 4 8,i1 35 (.call 37 [(.t 34),(.c (.str [82,111,111,116]))]),jJ 33 35,ex 36 33 0,ex 37 33 1,i1 10 (.aA dD),st 4 10 36,mv 11 37] [2,7,10]
 (.bP none [fa 38 1 10,ld 39 1 38,fa 40 1 7,st 1 40 39] [2,7]))
 .dead)))
 (.seq (ag [fa 46 1 7,ld 47 1 46,bn 48 .eql 47 0] [2,7,48]
 (.cond (.t 48) .dead
 .skip))
 (ag [lm 50 2 7,st 2 2 50,mi 3 0,mi 4 0] [2,3,4]
 .ret)))))))
theorem GG:aY prog 28 51 [⟨2,false,some (2,true)⟩,⟨3,true,none⟩,⟨4,true,none⟩] wH=true:=by kernel_rfl
theorem HB{s_0}{s:ab}{Q:List AV->ab->Prop}(va0:pD s s_0):ok (tf s_0) (fun r=>Q [.agg [sF 1 r.1.xI,.int .i64 r.1.N9],.int .i64 r.2.1,.int .i64 r.2.2] s)->FN prog 28 [.ref s_0.B 0] s Q:=by
 intro h
 refine FO GG rfl rfl ?_
 revert h
 rw[wH,tf]
 repeat'(first
  |(with_reducible first|exact dh|refine b9 ?_ ?_|refine dT ?_|refine ax (fun _(h:uF s_0=some _)=>DA (pD.mono (by assumption) (by repeat'(first|exact Sub.refl _|refine Sub.set ?_ ?_|assumption|(simp[ab.set, *];done)))) h) (fun r1=>?_)|refine ax (fun _(h:xJ s_0 0 r1=some _)=>FH (pD.mono (by assumption) (by repeat'(first|exact Sub.refl _|refine Sub.set ?_ ?_|assumption|(simp[ab.set, *];done)))) h) (fun r2=>?_)|refine ax (fun _(h:mf r2.1=some _)=>qB h) (fun r3=>?_)|refine ax (fun _(h:iB r2.1=some _)=>lJ h) (fun r4=>?_)|refine ax (fun _(h:fZ r4.1 (aC.mk [82,111,111,116])=some _)=>xz h) (fun r5=>?_))
  |simp -implicitDefEqProofs only[go_sem,seval])
theorem HA{s_0}{s:ab}{r:kV×Int×Int}(va0:pD s s_0)(h:tf s_0=some r):FE prog 28 [.ref s_0.B 0] s [.agg [sF 1 r.1.xI,.int .i64 r.1.N9],.int .i64 r.2.1,.int .i64 r.2.2] s:=HB va0 ⟨r,h,rfl,rfl⟩
end Go.AB
end
section
namespace Go.AB
open Go
def pr(s:aC)(v:aa):VL:=[⟨5,0,s,[]⟩,v]
def ju(C:List VL):Prop:=∀c∈C,∃s v,c=pr s v
def nm(c:VL):List UInt8:=(ix c 0).S.b
theorem Uc(s:aC)(v:aa):nm (pr s v)=s.b:=rfl
theorem ju.len:∀{C:List VL},ju C->C.flatten.length=2*C.length
 |[],_=>rfl
 |c::C,h=>by
  obtain⟨s,v,rfl⟩:=h c (by simp)
  have:=ju.len (C:=C) fun c hc=>h c (by simp[hc])
  rw[List.flatten_cons,List.length_append,this,List.length_cons]
  show 2+_=_
  omega
theorem ju.get:∀{C:List VL},ju C->∀(q:Nat)(h:q<C.length),∃s v,C[q]=pr s v/\C.flatten[2*q]? =some ⟨5,0,s,[]⟩/\C.flatten[2*q+1]? =some v
 |[],_,q,h=>by cases h
 |c::C,hC,q,h=>by
  obtain⟨s,v,rfl⟩:=hC c (by simp)
  cases q with
  |zero=>exact⟨s,v,rfl,rfl,rfl⟩
  |succ q=>
   obtain⟨s',v',e1,e2,e3⟩:=ju.get (C:=C) (fun c hc=>hC c (by simp[hc])) q (by simpa using h)
   refine⟨s',v',by simpa using e1,?_,?_⟩
   ·rw[List.flatten_cons,List.getElem?_append_right (by show 2<=_;omega),show 2*(q+1) -(pr s v).length=2*q by show 2*(q+1) -2=_;omega]
    exact e2
   ·rw[List.flatten_cons,List.getElem?_append_right (by show 2<=_;omega),show 2*(q+1)+1 -(pr s v).length=2*q+1 by show 2*(q+1)+1 -2=_;omega]
    exact e3
theorem wR{α:Type}[aR α]{l:List α}{k:Nat}{x:α}(h:l[k]? =some x):ix l (k:Int)=x:=by
 obtain⟨h1,h2⟩:=List.getElem?_eq_some_iff.1 h
 rw[jZ h1,h2]
def dV(C:List VL):aa:=⟨7,0,⟨[]⟩,C.flatten⟩
theorem RJ{C:List VL}(hC:ju C)(hl:C.length<2^40)(key:aC):(b4 (dV C) key=some (-1)/\∀c∈C,nm c≠key.b)\/(∃q:Nat,q<C.length/\b4 (dV C) key=some ((2*q:Nat):Int)/\∃c∈C,nm c=key.b):=by
 have hlen:=hC.len
 unfold b4
 obtain⟨o,h1,h2⟩:=dn (body:=fun(k2:Int)=>
  if((dV C).Kind==7)&&(decide (k2<((dV C).L.length:Int)))then
   aH (0<=k2/\k2<(dV C).L.length)<|
   aH ((((ix (dV C).L k2).Kind)==5)=true->0<=k2/\k2<(dV C).L.length)<|
   if(((ix (dV C).L k2).Kind)==5)&&(((ix (dV C).L k2).S).b==key.b)then
    some (.inr (.inr k2))
   else
    some (.inl (ao (k2+2)))
  else
   some (.inr (.inl ()))) (s0:=0) (fun k2=>∃q:Nat,k2=((2*q:Nat):Int)/\q<=C.length/\∀c∈C.take q,nm c≠key.b) (fun k2=>(2*C.length -k2.toNat)) (fun o:Unit⊕Int=>match o with
    |.inl _=>∀c∈C,nm c≠key.b
    |.inr i=>∃q:Nat,q<C.length/\i=((2*q:Nat):Int)/\∃c∈C,nm c=key.b)
  ⟨0,rfl,Nat.zero_le _,fun c hc=>by simp at hc⟩ (by omega) (by
    rintro k2 ⟨q,rfl,hq,hno⟩
    have hL:(dV C).L.length=2*C.length:=hlen
    by_cases hlt:q<C.length
    ·obtain⟨s,v,e1,e2,e3⟩:=hC.get q hlt
     have i1:ix (dV C).L ((2*q:Nat):Int)=⟨5,0,s,[]⟩:=wR e2
     have hc:(((dV C).Kind==7)&&(decide (((2*q:Nat):Int)<((dV C).L.length:Int))))=true:=by rw[show((dV C).Kind==7)=true from rfl,Bool.true_and,hL];simp;omega
     have hr:0<=((2*q:Nat):Int)/\((2*q:Nat):Int)<(dV C).L.length:=by rw[hL];omega
     rw[if_pos hc,c9 hr,c9 (fun _=>hr),i1]
     cases hs:(s.b==key.b)with
     |true=>
      refine⟨.inr (.inr ((2*q:Nat):Int)),if_pos rfl,q,hlt,rfl,C[q],List.getElem_mem hlt,?_⟩
      rw[e1,Uc];simpa using hs
     |false=>
      refine⟨.inl (ao (((2*q:Nat):Int)+2)),by rw[if_neg (by show¬(true&&false)=true;decide)],⟨q+1,by rw[au (by omega) (by omega)];omega,hlt,fun c hc=>?_⟩,by rw[au (by omega) (by omega)];omega⟩
      rw[List.take_succ_eq_append_getElem hlt]at hc
      rcases List.mem_append.1 hc with hc|hc
      ·exact hno c hc
      ·have:c=C[q]:=by simpa using hc
       rw[this,e1,Uc];simpa using hs
    ·have hc:¬(((dV C).Kind==7)&&(decide (((2*q:Nat):Int)<((dV C).L.length:Int))))=true:=by
      rw[show((dV C).Kind==7)=true from rfl,Bool.true_and,hL];simp;omega
     rw[if_neg hc]
     refine⟨.inr (.inl ()),rfl,fun c hc=>hno c ?_⟩
     rw[List.take_of_length_le (by omega)];exact hc)
 rw[h1]
 cases o with
 |inl u=>exact .inl ⟨rfl,h2⟩
 |inr i=>
  obtain⟨q,hq,rfl,hx⟩:=h2
  exact .inr ⟨q,hq,rfl,hx⟩
theorem nle{x y:List UInt8}:(!(Op.bytesLess y x||(y==x)))=Op.bytesLess x y:=by
 cases h:Op.bytesLess x y with
 |true=>
  have h2:=lX.asy _ _ h
  rw[h2,Bool.false_or]
  cases h3:y==x with
  |false=>rfl
  |true=>
   have:y=x:=by simpa using h3
   rw[this,nP]at h;cases h
 |false=>
  cases h2:Op.bytesLess y x with
  |true=>rfl
  |false=>rw[nQ _ _ h2 h];simp
theorem RX{C:List VL}(hC:ju C)(s:aC)(v:aa):ju (x5 (pr s v) C):=fun c hc=>by
 rcases List.mem_cons.1 ((kD _ C).mem_iff.1 hc)with rfl|hc
 ·exact⟨s,v,rfl⟩
 ·exact hC c hc
theorem IV(x:VL):∀(C:List VL),∃A B,C=A++B/\x5 x C=A++x::B/\(∀c∈A,jb x c=false)/\∀c,B.head?=some c->jb x c=true
 |[]=>⟨[],[],rfl,rfl,fun c h=>(by cases h),fun c h=>(by cases h)⟩
 |y::t=>by
  unfold x5
  cases h:jb x y with
  |true=>exact⟨[],y::t,rfl,by rw[if_pos rfl];rfl,fun c h=>(by cases h),fun c hc=>by cases hc;exact h⟩
  |false=>
   obtain⟨A,B,e1,e2,h1,h2⟩:=IV x t
   refine⟨y::A,B,by rw[e1];rfl,by rw[if_neg (by decide),e2];rfl,fun c hc=>?_,h2⟩
   rcases List.mem_cons.1 hc with rfl|hc
   ·exact h
   ·exact h1 c hc
theorem CM(C:List VL)(s:aC)(v:aa):(C++[pr s v]).flatten=C.flatten++[⟨5,0,s,[]⟩,v]:=by rw[List.flatten_append];rfl
theorem SG{C:List VL}(hC:ju C)(hl:C.length<2^30)(key:aC)(x:aa)(hf:b4 (dV C) key=some (-1)):fk (dV C) key x=some (dV (x5 (pr key x) C)):=by
 have bz:room=140737488355328:=rfl
 obtain⟨A,B,eC,eI,hA,hB⟩:=IV (pr key x) C
 have hlen:=hC.len
 have hL:(dV C).L.length=2*C.length:=hlen
 have hCl:C.length=A.length+B.length:=by rw[eC,List.length_append]
 let S:Nat->List VL:=fun q=>if q<=A.length then A.take q else A++pr key x::B.take (q -A.length)
 have hS:∀q,q<=C.length->ju (S q)/\(S q).length<=q+1:=fun q hq=>by
  show ju (if _ then _ else _)/\(if _ then _ else _:List VL).length<=_
  split
  ·exact⟨fun c hc=>hC c (by rw[eC];exact List.mem_append_left _ (List.mem_of_mem_take hc)),by rw[List.length_take];omega⟩
  ·refine⟨fun c hc=>?_,by rw[List.length_append,List.length_cons,List.length_take];omega⟩
   rcases List.mem_append.1 hc with hc|hc
   ·exact hC c (by rw[eC];exact List.mem_append_left _ hc)
   ·rcases List.mem_cons.1 hc with rfl|hc
    ·exact⟨key,x,rfl⟩
    ·exact hC c (by rw[eC];exact List.mem_append_right _ (List.mem_of_mem_take hc))
 have hSl:∀q,q<=C.length->(S q).flatten.length<=2*q+2:=fun q hq=>by rw[(hS q hq).1.len];have:=(hS q hq).2;omega
 unfold fk
 refine ae (by show¬((7:Int)!=7)=true;decide) (ah hf ?_)
 refine eu (a:=((S C.length).flatten,decide (C.length>A.length))) (gD C.length (fun q=>((S q).flatten,decide (q>A.length),((2*q:Nat):Int))) ?_ (by omega) (fun q hq=>?_) ?_) ?_
 ·show((if 0<=A.length then A.take 0 else _:List VL).flatten,_,_)=_
  rw[if_pos (Nat.zero_le _)];rfl
 ·obtain⟨s,v,e1,e2,e3⟩:=hC.get q hq
  have i1:ix (dV C).L ((2*q:Nat):Int)=⟨5,0,s,[]⟩:=wR e2
  have i2:ix (dV C).L (((2*q:Nat):Int)+1)=v:=by have:=wR e3;rw[<-this];rfl
  have w1:ao (((2*q:Nat):Int)+1)=((2*q:Nat):Int)+1:=au (by omega) (by omega)
  have w2:ao (((2*q:Nat):Int)+2)=((2*(q+1):Nat):Int):=by rw[au (by omega) (by omega)];omega
  have hr:0<=((2*q:Nat):Int)/\((2*q:Nat):Int)<(dV C).L.length:=by rw[hL];omega
  have hr2:0<=((2*q:Nat):Int)+1/\((2*q:Nat):Int)+1<(dV C).L.length:=by rw[hL];omega
  have hsl:=hSl q (by omega)
  have lt1:decide (((2*q:Nat):Int)<((dV C).L.length:Int))=true:=decide_eq_true hr.2
  have lt2:decide (((2*q:Nat):Int)+1<((dV C).L.length:Int))=true:=decide_eq_true hr2.2
  have ne1:(((2*q:Nat):Int)==-1)=false:=by simp;omega
  let M:List aa:=if q=A.length then(S q).flatten++[⟨5,0,key,[]⟩,x]else(S q).flatten
  have hM:M.length<=2*q+4:=by
   show(if _ then _ else _:List aa).length<=_
   split
   ·rw[List.length_append];show _+2<=_;omega
   ·omega
  have ZR:M++[⟨5,0,s,[]⟩]++[v]=(S (q+1)).flatten:=by
   show(if _ then _ else _:List aa)++_++_=(if _ then _ else _:List VL).flatten
   by_cases h1:q<A.length
   ·have ea:A[q]=C[q]:=by simp only[eC];rw[List.getElem_append_left h1]
    rw[if_neg (by omega),if_pos (by omega)]
    show(if _ then _ else _:List VL).flatten++_++_=_
    rw[if_pos (by omega),List.take_succ_eq_append_getElem h1,ea,e1,CM]
    simp
   ·have hb1:q -A.length<B.length:=by omega
    have eb:B[q -A.length]=C[q]:=by simp only[eC];rw[List.getElem_append_right (by omega)]
    have e4:A++pr key x::B.take (q+1 -A.length)=(A++pr key x::B.take (q -A.length))++[pr s v]:=by rw[show q+1 -A.length=(q -A.length)+1 by omega,List.take_succ_eq_append_getElem hb1,eb,e1];simp
    rw[if_neg (c:=q+1<=A.length) (by omega),e4,CM]
    by_cases h2:q=A.length
    ·rw[if_pos h2]
     show(if _ then _ else _:List VL).flatten++_++_++_=_
     rw[if_pos (by omega),List.take_of_length_le (by omega),show q -A.length=0 by omega,List.take_zero,CM]
     simp
    ·rw[if_neg h2]
     show(if _ then _ else _:List VL).flatten++_++_=_
     rw[if_neg (by omega)]
     simp
  refine al lt1 (eu (a:=((S (q+1)).flatten,decide (q+1>A.length))) (eu (a:=(M,decide (q+1>A.length))) (af (fun _=>hr) (af (fun _=>hr) ?_)) (af hr (af ?_ ?_))) ?_)
  ·show(if(((decide ((-1:Int)<0)&&(!decide (q>A.length)))&&((ix (dV C).L ((2*q:Nat):Int)).Kind==5))&&(!(Op.bytesLess (ix (dV C).L ((2*q:Nat):Int)).S.b key.b||((ix (dV C).L ((2*q:Nat):Int)).S.b==key.b))))=true then _ else _)=_
   rw[i1,nle]
   show(if(((true&&(!decide (q>A.length)))&&true)&&Op.bytesLess key.b s.b)=true then _ else _)=_
   by_cases h1:q=A.length
   ·have hbl:Op.bytesLess key.b s.b=true:=by
     have hb0:B.head?=some C[q]:=by
      have:C[q]=B[0]'(by omega):=by simp only[eC];rw[List.getElem_append_right (by omega)];congr 1;omega
      rw[this,List.head?_eq_getElem?,List.getElem?_eq_getElem (by omega)]
     have:=hB _ hb0
     rw[e1]at this;exact this
    rw[if_pos (by rw[hbl];simp;omega)]
    refine af (by show(_+2)*56<=room;omega) ?_
    show some ((S q).flatten++[⟨5,0,key,[]⟩,x],true)=some ((if _ then _ else _:List aa),_)
    rw[if_pos h1,decide_eq_true (by omega:q+1>A.length)]
   ·have hno:¬(((true&&(!decide (q>A.length)))&&true)&&Op.bytesLess key.b s.b)=true:=by
     by_cases h2:q<A.length
     ·have:jb (pr key x) C[q]=false:=hA _ (by
       have ea:A[q]=C[q]:=by simp only[eC];rw[List.getElem_append_left h2]
       rw[<-ea];exact List.getElem_mem h2)
      rw[e1]at this
      have this:Op.bytesLess key.b s.b=false:=this
      rw[this];simp
     ·simp;omega
    rw[if_neg hno]
    show some ((S q).flatten,decide (q>A.length))=some ((if _ then _ else _:List aa),_)
    rw[if_neg h1]
    congr 2
    by_cases h2:q<A.length
    ·rw[decide_eq_false (by omega),decide_eq_false (by omega)]
    ·rw[decide_eq_true (by omega),decide_eq_true (by omega)]
  ·show(_+1)*56<=room;omega
  ·show(if((((2*q:Nat):Int))==-1)=true then _ else _)=_
   rw[ne1,if_neg (by decide),w1,lt2,if_pos rfl,c9 hr2,i1,i2,c9 (by rw[List.length_append];show(M.length+1+1)*56<=room;omega)]
   rw[ZR]
  ·show some (Sum.inl ((S (q+1)).flatten,decide (q+1>A.length),ao (((2*q:Nat):Int)+2)))=_
   rw[w2]
 ·show(if decide (((2*C.length:Nat):Int)<((dV C).L.length:Int))=true then _ else _)=_
  rw[hL,if_neg (by simp)]
 ·have hsl:=hSl C.length (Nat.le_refl _)
  refine eu (a:=(x5 (pr key x) C).flatten) ?_ rfl
  show(if(decide ((-1:Int)<0)&&(!decide (C.length>A.length)))=true then _ else _)=_
  rw[eI]
  by_cases h1:B=[]
  ·subst h1
   have h2:C.length=A.length:=by rw[hCl];rfl
   rw[if_pos (by rw[h2];simp)]
   refine af (by show(_+2)*56<=room;omega) ?_
   show some ((if _ then _ else _:List VL).flatten++[⟨5,0,key,[]⟩,x])=_
   rw[if_pos (by omega),h2,List.take_of_length_le (Nat.le_refl _),show A++pr key x::[]=A++[pr key x] from rfl,CM]
  ·have h2:0<B.length:=List.length_pos_iff.2 h1
   rw[if_neg (by simp;omega)]
   show some ((if _ then _ else _:List VL).flatten)=_
   rw[if_neg (by omega),show C.length -A.length=B.length by omega,List.take_of_length_le (Nat.le_refl _)]
theorem SH{C:List VL}(hC:ju C)(hl:C.length<2^30)(key:aC)(x:aa){q0:Nat}(hq0:q0<C.length)(hf:b4 (dV C) key=some ((2*q0:Nat):Int)):∃C',fk (dV C) key x=some (dV C')/\ju C'/\C'.length=C.length/\∀c∈C',c∈C\/∃s,c=pr s x:=by
 have bz:room=140737488355328:=rfl
 obtain⟨s0,v0,g1,_,_⟩:=hC.get q0 hq0
 have hlen:=hC.len
 have hL:(dV C).L.length=2*C.length:=hlen
 let D:List VL:=C.set q0 (pr s0 x)
 have hDl:D.length=C.length:=List.length_set ..
 have hD:ju D:=fun c hc=>by
  rcases List.mem_or_eq_of_mem_set hc with hc|rfl
  ·exact hC c hc
  ·exact⟨s0,x,rfl⟩
 have hS:∀q,q<=C.length->(D.take q).flatten.length=2*q:=fun q hq=>by
  have:=ju.len (C:=D.take q) fun c hc=>hD c (List.mem_of_mem_take hc)
  rw[this,List.length_take];omega
 refine⟨D,?_,hD,hDl,fun c hc=>(List.mem_or_eq_of_mem_set hc).imp id fun e=>⟨s0,e⟩⟩
 unfold fk
 refine ae (by show¬((7:Int)!=7)=true;decide) (ah hf ?_)
 have hr0:decide (((2*q0:Nat):Int)<0)=false:=decide_eq_false (by omega)
 refine eu (a:=((D.take C.length).flatten,false)) (gD C.length (fun q=>((D.take q).flatten,false,((2*q:Nat):Int))) rfl (by omega) (fun q hq=>?_) ?_) ?_
 ·obtain⟨s,v,e1,e2,e3⟩:=hC.get q hq
  have i1:ix (dV C).L ((2*q:Nat):Int)=⟨5,0,s,[]⟩:=wR e2
  have i2:ix (dV C).L (((2*q:Nat):Int)+1)=v:=by have:=wR e3;rw[<-this];rfl
  have w1:ao (((2*q:Nat):Int)+1)=((2*q:Nat):Int)+1:=au (by omega) (by omega)
  have w2:ao (((2*q:Nat):Int)+2)=((2*(q+1):Nat):Int):=by rw[au (by omega) (by omega)];omega
  have hr:0<=((2*q:Nat):Int)/\((2*q:Nat):Int)<(dV C).L.length:=by rw[hL];omega
  have hr2:0<=((2*q:Nat):Int)+1/\((2*q:Nat):Int)+1<(dV C).L.length:=by rw[hL];omega
  have hsl:=hS q (by omega)
  have lt1:decide (((2*q:Nat):Int)<((dV C).L.length:Int))=true:=decide_eq_true hr.2
  have lt2:decide (((2*q:Nat):Int)+1<((dV C).L.length:Int))=true:=decide_eq_true hr2.2
  have hn:(D.take (q+1)).flatten=(D.take q).flatten++D[q]'(by omega):=by rw[List.take_succ_eq_append_getElem (by omega),List.flatten_append];simp
  refine al lt1 (eu (a:=((D.take (q+1)).flatten,false)) (eu (a:=((D.take q).flatten,false)) (af (fun _=>hr) (af (fun _=>hr) ?_)) (af hr (af ?_ ?_))) ?_)
  ·show(if(((decide (((2*q0:Nat):Int)<0)&&(!false))&&((ix (dV C).L ((2*q:Nat):Int)).Kind==5))&&(!(Op.bytesLess (ix (dV C).L ((2*q:Nat):Int)).S.b key.b||((ix (dV C).L ((2*q:Nat):Int)).S.b==key.b))))=true then _ else _)=_
   rw[hr0,if_neg (by simp)]
  ·show(_+1)*56<=room;omega
  ·show(if(((2*q:Nat):Int)==((2*q0:Nat):Int))=true then _ else _)=_
   rw[hn]
   by_cases h1:q=q0
   ·subst h1
    have:D[q]'(by omega)=pr s0 x:=by show(C.set q (pr s0 x))[q]'_=_;rw[List.getElem_set_self]
    have es:s=s0:=by rw[e1]at g1;injection g1 with g1;injection g1
    rw[if_pos (by simp),i1,c9 (by rw[List.length_append];show(_+1+1)*56<=room;omega),this,es]
    show some (((D.take q).flatten++[_])++[x],false)=some ((D.take q).flatten++[_,x],false)
    simp
   ·have:D[q]'(by omega)=pr s v:=by show(C.set q0 (pr s0 x))[q]'_=_;rw[List.getElem_set_ne (fun e=>h1 e.symm)];exact e1
    rw[if_neg (by simp;omega),w1,lt2,if_pos rfl,c9 hr2,i1,i2,c9 (by rw[List.length_append];show(_+1+1)*56<=room;omega),this]
    show some (((D.take q).flatten++[_])++[v],false)=some ((D.take q).flatten++[_,v],false)
    simp
  ·show some (Sum.inl ((D.take (q+1)).flatten,false,ao (((2*q:Nat):Int)+2)))=_
   rw[w2]
 ·show(if decide (((2*C.length:Nat):Int)<((dV C).L.length:Int))=true then _ else _)=_
  rw[hL,if_neg (by simp)]
 ·refine eu (a:=D.flatten) ?_ rfl
  show(if(decide (((2*q0:Nat):Int)<0)&&(!false))=true then _ else _)=_
  rw[hr0,if_neg (by simp),List.take_of_length_le (by omega)]
def Dn(C:List VL):Prop:=C.Pairwise fun x y=>nm x≠nm y
theorem Dn.perm{C D:List VL}(h:C.Perm D):Dn C↔Dn D:=h.pairwise_iff fun h e=>h e.symm
theorem Ob:∀{C:List VL},Dn C->lT C=false
 |[],_=>rfl
 |[_],_=>rfl
 |x::y::t,h=>by
  obtain⟨h1,h2⟩:=List.pairwise_cons.1 h
  rw[Ey,Ob h2,Bool.or_false]
  have:=h1 y (by simp)
  cases e:((ix y 0).S.b==(ix x 0).S.b)with
  |false=>rfl
  |true=>exact absurd (by have:(ix y 0).S.b=(ix x 0).S.b:=by simpa using e
                          exact this.symm) this
theorem Zs{C:List VL}(hs:iM jb C)(h:lT C=false):Dn C:=(strict hs h).imp fun{x y} h e=>by
 have h:Op.bytesLess (nm x) (nm y)=true:=h
 rw[e,nP]at h;cases h
theorem QH(C:List VL):lT (tP C)=false↔Dn C:=⟨fun h=>(Dn.perm (tm C)).1 (Zs (xu C) h),fun h=>Ob ((Dn.perm (tm C)).2 h)⟩
end Go.AB
end
