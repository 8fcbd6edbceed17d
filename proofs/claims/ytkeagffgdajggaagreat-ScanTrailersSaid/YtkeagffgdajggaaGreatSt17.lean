/- A part. -/
import Derived.Test.YtkeagffgdajggaaGreatSt16
set_option linter.unusedSimpArgs false
set_option linter.unusedVariables false
section
set_option maxRecDepth 4000
namespace Go.AB
open Go
open Go.Proofs.Tryz (prog)
attribute[-go_sem] Nat.add_zero tz du cV dB cg cU
def L2:IC:=
 (.seq (ag [mv 25 2,mv 26 1,bt 27 .sub 25 26,bn 28 .eql 27 1] [0,1,2,3,4,28]
 (.cond (.t 28) (ag [mv 29 2,mv 10 29] [0,1,3,4,10]
 (ag [mv 30 3,mv 11 30] [0,1,4,10,11]
 (.seq (.block 0 (.loop [(0,false),(1,false),(4,false),(10,false),(11,false)] (.seq (ag [mv 31 10,mv 32 11,bt 33 .lss 31 32] [0,1,4,10,11,33]
 (.cond (.t 33) .skip
 (.exit 0)))
 (.block 1 (ag [mv 34 10,mv 35 11,bt 36 .add 34 35,i1 37 (.cC .u64 (.t 36)),i1 38 (.bin .shr (.t 37) (.c (.int .u64 1))),i1 39 (.cC .i64 (.t 38)),mv 12 39] [0,1,4,10,11,12]
 (.seq (.bP (some 11) [mv 40 4,mv 41 0,mv 42 12,ia 43 [.sl false 4 0 []] 41 42,ld 44 1 43,mv 45 0,mv 46 1,ia 47 [.sl false 4 0 []] 45 46,ld 48 1 47,i1 49 (.dj (.t 40) [(.t 44),(.t 48)]),bn 50 .lss 49 0] [0,1,4,10,11,12,50])
 (.cond (.t 50) (.bP none [mv 51 12,bn 52 .add 51 1,mv 10 52] [0,1,4,10,11])
 (.bP none [mv 53 12,mv 11 53] [0,1,4,10,11]))))))))
 (.seq (ag [mv 54 1,mv 13 54] [0,10,13]
 (.block 2 (.loop [(0,false),(10,false),(13,false)] (.seq (ag [mv 55 13,mv 56 10,bn 57 .sub 56 1,bt 58 .lss 55 57] [0,10,13,58]
 (.cond (.t 58) .skip
 (.exit 2)))
 (.seq (.block 3 (.Az [] [(0,0,mv 61 0),(0,1,mv 62 13),(1,2,mv 63 0),(1,3,mv 64 13),(1,4,bn 65 .add 64 1),(0,5,mv 66 0),(0,6,mv 67 13),(0,7,bn 68 .add 67 1),(0,8,ia 69 [.sl false 4 0 []] 66 68),(0,9,ld 70 1 69),(0,10,mv 71 0),(0,11,mv 72 13),(0,12,ia 73 [.sl false 4 0 []] 71 72),(0,13,ld 74 1 73),(0,14,ia 75 [.sl false 4 0 []] 61 62),(2,15,st 1 75 70),(0,16,ia 76 [.sl false 4 0 []] 63 65),(2,17,st 1 76 74)] [0,10,13]))
 (.bP none [mv 59 13,bn 60 .add 59 1,mv 13 60] [0,10,13]))))))
 .ret))))
 .skip))
 (.seq (ag [mv 77 3,mv 78 2,bt 79 .sub 77 78,bn 80 .eql 79 1] [0,1,2,3,4,80]
 (.cond (.t 80) (ag [mv 81 1,mv 14 81] [0,2,4,14]
 (ag [mv 82 2,mv 15 82] [0,2,4,14,15]
 (.seq (.block 4 (.loop [(0,false),(2,false),(4,false),(14,false),(15,false)] (.seq (ag [mv 83 14,mv 84 15,bt 85 .lss 83 84] [0,2,4,14,15,85]
 (.cond (.t 85) .skip
 (.exit 4)))
 (.block 5 (ag [mv 86 14,mv 87 15,bt 88 .add 86 87,i1 89 (.cC .u64 (.t 88)),i1 90 (.bin .shr (.t 89) (.c (.int .u64 1))),i1 91 (.cC .i64 (.t 90)),mv 16 91] [0,2,4,14,15,16]
 (.seq (.bP (some 12) [mv 92 4,mv 93 0,mv 94 2,ia 95 [.sl false 4 0 []] 93 94,ld 96 1 95,mv 97 0,mv 98 16,ia 99 [.sl false 4 0 []] 97 98,ld 100 1 99,i1 101 (.dj (.t 92) [(.t 96),(.t 100)]),bn 102 .lss 101 0,no 103 102] [0,2,4,14,15,16,103])
 (.cond (.t 103) (.bP none [mv 104 16,bn 105 .add 104 1,mv 14 105] [0,2,4,14,15])
 (.bP none [mv 106 16,mv 15 106] [0,2,4,14,15]))))))))
 (.seq (ag [mv 107 2,mv 17 107] [0,14,17]
 (.block 6 (.loop [(0,false),(14,false),(17,false)] (.seq (ag [mv 108 17,mv 109 14,bt 110 .gtr 108 109] [0,14,17,110]
 (.cond (.t 110) .skip
 (.exit 6)))
 (.seq (.block 7 (.Az [] [(0,0,mv 113 0),(0,1,mv 114 17),(1,2,mv 115 0),(1,3,mv 116 17),(1,4,bn 117 .sub 116 1),(0,5,mv 118 0),(0,6,mv 119 17),(0,7,bn 120 .sub 119 1),(0,8,ia 121 [.sl false 4 0 []] 118 120),(0,9,ld 122 1 121),(0,10,mv 123 0),(0,11,mv 124 17),(0,12,ia 125 [.sl false 4 0 []] 123 124),(0,13,ld 126 1 125),(0,14,ia 127 [.sl false 4 0 []] 113 114),(2,15,st 1 127 122),(0,16,ia 128 [.sl false 4 0 []] 115 117),(2,17,st 1 128 126)] [0,14,17]))
 (.bP none [mv 111 17,bn 112 .sub 111 1,mv 17 112] [0,14,17]))))))
 .ret))))
 .skip))
 (ag [mv 129 1,mv 130 3,bt 131 .add 129 130,i1 132 (.cC .u64 (.t 131)),i1 133 (.bin .shr (.t 132) (.c (.int .u64 1))),i1 134 (.cC .i64 (.t 133)),mv 18 134] [0,1,2,3,4,18]
 (ag [mv 135 18,mv 136 2,bt 137 .add 135 136,mv 19 137] [0,1,2,3,4,18,19]
 (ag [mi 20 0,mi 21 0] [0,1,2,3,4,18,19]
 (.seq (ag [mv 138 2,mv 139 18,bt 140 .gtr 138 139] [0,1,2,3,4,18,19,140]
 (.cond (.t 140) (ag [mv 141 19,mv 142 3,bt 143 .sub 141 142,mv 20 143] [0,1,2,3,4,18,19,20]
 (.bP none [mv 144 18,mv 21 144] [0,1,2,3,4,18,19,20,21]))
 (ag [mv 145 1,mv 20 145] [0,1,2,3,4,18,19,20]
 (.bP none [mv 146 2,mv 21 146] [0,1,2,3,4,18,19,20,21]))))
 (ag [mv 147 19,bn 148 .sub 147 1,mv 22 148] [0,1,2,3,4,18,19,20,21,22]
 (.seq (.block 8 (.loop [(0,false),(1,false),(2,false),(3,false),(4,false),(18,false),(19,false),(20,false),(21,false),(22,false)] (.seq (ag [mv 149 20,mv 150 21,bt 151 .lss 149 150] [0,1,2,3,4,18,19,20,21,22,151]
 (.cond (.t 151) .skip
 (.exit 8)))
 (.block 9 (ag [mv 152 20,mv 153 21,bt 154 .add 152 153,i1 155 (.cC .u64 (.t 154)),i1 156 (.bin .shr (.t 155) (.c (.int .u64 1))),i1 157 (.cC .i64 (.t 156)),mv 23 157] [0,1,2,3,4,18,19,20,21,22,23]
 (.seq (.bP (some 14) [mv 158 4,mv 159 0,mv 160 22,mv 161 23,bt 162 .sub 160 161,ia 163 [.sl false 4 0 []] 159 162,ld 164 1 163,mv 165 0,mv 166 23,ia 167 [.sl false 4 0 []] 165 166,ld 168 1 167,i1 169 (.dj (.t 158) [(.t 164),(.t 168)]),bn 170 .lss 169 0,no 171 170] [0,1,2,3,4,18,19,20,21,22,23,171])
 (.cond (.t 171) (.bP none [mv 172 23,bn 173 .add 172 1,mv 20 173] [0,1,2,3,4,18,19,20,21,22])
 (.bP none [mv 174 23,mv 21 174] [0,1,2,3,4,18,19,20,21,22]))))))))
 (ag [mv 175 19,mv 176 20,bt 177 .sub 175 176,mv 24 177] [0,1,2,3,4,18,20,24]
 (.seq (ag [mv 178 20,mv 179 2,bt 180 .lss 178 179,mv 181 180,bK 182 2 181 true,bK 183 24 181 true,sm 184 181 true .lss 182 183,pf 185 181 184] [0,1,2,3,4,18,20,24,185]
 (.cond (.t 185) (.bP none [mv 186 0,mv 187 20,mv 188 2,mv 189 24,mv 190 4,i1 191 (.call 328 [(.t 186),(.t 187),(.t 188),(.t 189),(.t 190)])] [0,1,3,4,18,20,24])
 .skip))
 (.seq (ag [mv 192 1,mv 193 20,bt 194 .lss 192 193,mv 195 194,bK 196 20 195 true,bK 197 18 195 true,sm 198 195 true .lss 196 197,pf 199 195 198] [0,1,3,4,18,20,24,199]
 (.cond (.t 199) (.bP none [mv 200 0,mv 201 1,mv 202 20,mv 203 18,mv 204 4,i1 205 (.call 298 [(.t 200),(.t 201),(.t 202),(.t 203),(.t 204)])] [0,3,4,18,24])
 .skip))
 (ag [mv 206 18,mv 207 24,bt 208 .lss 206 207,mv 209 208,bK 210 24 209 true,bK 211 3 209 true,sm 212 209 true .lss 210 211,pf 213 209 212] [0,3,4,18,24,213]
 (.cond (.t 213) (.bP none [mv 214 0,mv 215 18,mv 216 24,mv 217 3,mv 218 4,i1 219 (.call 298 [(.t 214),(.t 215),(.t 216),(.t 217),(.t 218)])] [])
 .skip)))))))))))))
theorem Sa:aY prog 298 220 [] L2=true:=by kernel_rfl
theorem s6{P:Program}{live:List (Nat×Bool)}{b:IC}{Q:Exit->St->Prop}{E:St}(R:Nat->St->Prop)(n0:Nat)(h0:R n0 (E.df live))
 (h:∀(n:Nat)(τ:St),R n τ->∀J:St->Prop,(∀n' U',n'<n->R n' U'->J U')->fN P b (nA live J Q) τ):fN P (.loop live b) Q E:=by
 have v7:∀τ,(∃m,R m τ)->∃m,R m τ/\∀k,k<m->¬R k τ:=by
  rintro τ ⟨m,hm⟩
  induction m using Nat.strongRecOn with
  |_ m ih=>
   by_cases hk:∃k,k<m/\R k τ
   ·obtain⟨k,hk,h'⟩:=hk
    exact ih k hk h'
   ·exact⟨m,hm,fun k hk' hs=>hk ⟨k,hk',hs⟩⟩
 have hμ:∃μ:St->Nat,∀τ,(∃m,R m τ)->R (μ τ) τ/\∀k,k<μ τ->¬R k τ:=⟨fun τ=>Classical.epsilon fun m=>R m τ/\∀k,k<m->¬R k τ,fun τ hτ=>Classical.epsilon_spec (v7 τ hτ)⟩
 obtain⟨μ,hμ⟩:=hμ
 refine⟨fun τ=>∃m,R m τ,μ,⟨n0,h0⟩,?_⟩
 intro τ hτ
 obtain⟨hr,_⟩:=hμ τ hτ
 rw[vh]
 refine h _ τ hr _ fun n' U' hn hr'=>⟨⟨n',hr'⟩,?_⟩
 have h2:=(hμ U' ⟨n',hr'⟩).2
 rcases Nat.lt_or_ge n' (μ U')with hlt|hge
 ·exact(h2 n' hlt hr').elim
 ·omega
def jb(x y:VL):Bool:=Op.bytesLess (ix x 0).S.b (ix y 0).S.b
theorem lH:TP jb:=⟨fun _ _=>lX.asy _ _,fun _ _ _=>lX.tr _ _ _⟩
theorem nP(l:List UInt8):Op.bytesLess l l=false:=by
 cases e:Op.bytesLess l l with
 |false=>rfl
 |true=>rw[<-e];exact lX.asy l l e
theorem Rx{x y:VL}(hx:0<x.length)(hy:0<y.length):∃c,eK x y=some c/\decide (c<0)=jb x y:=by
 unfold eK dS dw jb
 have e1:∀z:aC,(!(z.b==z.b))=false:=fun z=>by rw[beq_self_eq_true];rfl
 rw[c9 (by omega),c9 (by omega),e1,e1,bC,bC,if_neg (by decide),if_neg (by decide)]
 cases h:Op.bytesLess (ix x 0).S.b (ix y 0).S.b with
 |true=>exact⟨-1,rfl,rfl⟩
 |false=>
  rw[if_neg (by decide),Bool.false_or]
  cases h2:(ix x 0).S.b==(ix y 0).S.b with
  |true=>exact⟨0,rfl,rfl⟩
  |false=>exact⟨1,rfl,rfl⟩
theorem half{i j:Nat}(h:i+j<2^62):ao (S4 IntKind.u64 ((Td (ao ((i:Int)+(j:Int)))).toNat:Int) 1)=(((i+j)/2:Nat):Int):=by
 have e1:ao ((i:Int)+(j:Int))=((i+j:Nat):Int):=by rw[au (by omega) (by omega)];omega
 have e2:(Td ((i+j:Nat):Int)).toNat=i+j:=by
  unfold Td
  rw[QZ _ _ rfl]
  have:((i+j:Nat):Int)% (2^IntKind.u64.bits:Int)=((i+j:Nat):Int):=Int.emod_eq_of_lt (by omega) (by show _<(18446744073709551616:Int);omega)
  rw[this,Int.toNat_natCast]
  exact UInt64.toNat_ofNat_of_lt' (by show i+j<18446744073709551616;omega)
 rw[e1,e2]
 have e3:S4 IntKind.u64 ((i+j:Nat):Int) 1=(((i+j)/2:Nat):Int):=by
  unfold S4
  show((i+j:Nat):Int).fdiv 2=_
  rw[Int.fdiv_eq_ediv_of_nonneg _ (by decide)]
  omega
 rw[e3,au (by omega) (by omega)]
theorem two{P:Program}{ic:IC}{K:Exit->St->Prop}{c:Bool}{σ1 σ2:St}(R:St->Prop)(h:∀E,R E->fN P ic K E)(g1:c=true->R σ1)(g2:c=false->R σ2):(c=true->fN P ic K σ1)/\(c=false->fN P ic K σ2):=⟨fun e=>h _ (g1 e),fun e=>h _ (g2 e)⟩
set_option maxHeartbeats 8000000 in
theorem Xk(N:Nat):∀{P X Y S:List VL}{s:ab}{rb cap:Nat}{sp:List AV}{Q:List AV->ab->Prop},X.length+Y.length<=N->0<X.length->0<Y.length->(∀z∈P++X++Y++S,0<z.length)->iM jb X->iM jb Y->((P++X++Y++S).length:Int)<2^60->
 (∀Z,Z.Perm (X++Y)->iM jb Z->Q [] (s.set rb (.cells (flat (P++Z++S)++sp))))->
 FN prog 298 [.arr rb 0 (P++X++Y++S).length cap,.int .i64 P.length,.int .i64 ((P.length+X.length:Nat):Int),.int .i64 ((P.length+X.length+Y.length:Nat):Int),.fn 224 [] []] (s.set rb (.cells (flat (P++X++Y++S)++sp))) Q:=by
 induction N with
 |zero=>intro P X Y S s rb cap sp Q h1 h2;omega
 |succ N ih=>
  intro P X Y S s rb cap sp Q hN hX hY hz sX sY hl hQ
  refine FO Sa rfl rfl ?_
  rw[L2]
  generalize hL:P++X++Y++S=l at hz hl⊢
  have hln:l.length=P.length+X.length+Y.length+S.length:=by rw[<-hL];simp;omega
  generalize ha:P.length=a at hln⊢
  generalize hm:a+X.length=m at hln⊢
  generalize hb:m+Y.length=b at hln⊢
  have w1:ao ((m:Int) -(a:Int))=(m:Int) -(a:Int):=au (by omega) (by omega)
  have w2:ao ((b:Int) -(m:Int))=(b:Int) -(m:Int):=au (by omega) (by omega)
  simp -implicitDefEqProofs only[go_sem,seval,w1,w2]
  refine⟨fun h1=>?_,fun h1=>?_⟩
  ·have h1:(m:Int) -(a:Int)=1:=by simpa using h1
   refine s6 (fun n τ=>∃i j:Nat,m<=i/\i<=j/\j<=b/\j -i=n/\(m<i->jb (ix l ((i:Int) -1)) (ix l (a:Int))=true)/\(j<b->jb (ix l (j:Int)) (ix l (a:Int))=false)/\
    τ=(⟨[(0,.arr rb 0 l.length cap),(1,.int .i64 a),(4,.fn 224 [] []),(10,.int .i64 i),(11,.int .i64 j)],[],s.set rb (.cells (flat l++sp))⟩:St)) (b -m)
    ⟨m,b,Nat.le_refl _,by omega,Nat.le_refl _,rfl,fun h=>by omega,fun h=>by omega,rfl⟩ ?_
   rintro n τ ⟨i,j,q1,q2,q3,q4,q5,q6,rfl⟩ J hJ
   cases hlt:decide ((i:Int)<(j:Int))with
   |true=>
    have hij:i<j:=by simpa using hlt
    obtain⟨r1,r2⟩:=na l sp (j:=(((i+j)/2:Nat):Int)) (by omega) (by omega)
    obtain⟨r3,r4⟩:=na l sp (j:=(a:Int)) (by omega) (by omega)
    obtain⟨c,hc,hc2⟩:=Rx (x:=ix l (((i+j)/2:Nat):Int)) (y:=ix l (a:Int)) (by rw[jZ (by omega)];exact hz _ (List.getElem_mem _)) (by rw[jZ (by omega)];exact hz _ (List.getElem_mem _))
    rw[Int.toNat_natCast]at r1 r2 r3 r4
    generalize hcs:flat l++sp=cs at*
    have d1:=decide_eq_true r1
    have d3:=decide_eq_true r3
    have hh:=half (i:=i) (j:=j) (by omega)
    simp -implicitDefEqProofs only[go_sem,seval,hlt,hh,r2,r4,d1,d3,Bool.true_eq_false,Bool.false_eq_true,false_implies,true_implies,true_and,and_true,Bool.not_true,Bool.not_false,Bool.true_or,Bool.false_or]
    refine⟨⟨by omega,by omega⟩,⟨by omega,by omega⟩,by kernel_rfl,[.int .i64 c],rfl,il hc,?_⟩
    have w3:ao ((((i+j)/2:Nat):Int)+1)=(((i+j)/2+1:Nat):Int):=by rw[au (by omega) (by omega)];rfl
    simp -implicitDefEqProofs only[go_sem,seval,hc2,w3,Bool.true_eq_false,Bool.false_eq_true,false_implies,true_implies,true_and,and_true,Bool.not_true,Bool.not_false,Bool.true_or,Bool.false_or]
    refine⟨fun hx=>hJ (j -((i+j)/2+1)) _ (by omega) ⟨(i+j)/2+1,j,by omega,by omega,by omega,rfl,fun _=>?_,q6,rfl⟩,fun hx=>hJ ((i+j)/2 -i) _ (by omega) ⟨i,(i+j)/2,by omega,by omega,by omega,rfl,q5,fun _=>?_,rfl⟩⟩
    ·rw[show(((i+j)/2+1:Nat):Int) -1=(((i+j)/2:Nat):Int) by omega];exact hx
    ·exact hx
   |false=>
    have hij:i=j:=by have:¬i<j:=by simpa using hlt
                     omega
    subst hij
    obtain⟨x,rfl⟩:∃x,X=[x]:=by
     cases X with
     |nil=>simp at hX
     |cons x X=>cases X with
      |nil=>exact⟨x,rfl⟩
      |cons y X=>simp at hm;omega
    have hi1:(Y.take (i -m)).length=i -m:=by rw[List.length_take];omega
    simp -implicitDefEqProofs only[go_sem,seval,hlt,Bool.true_eq_false,Bool.false_eq_true,false_implies,true_implies,true_and,and_true,Bool.not_true,Bool.not_false,Bool.true_or,Bool.false_or]
    refine nD (i -m) (fun k τ=>τ=(⟨[(0,.arr rb 0 l.length cap),(10,.int .i64 i),(13,.int .i64 ((a+k:Nat):Int))],[],s.set rb (.cells (flat (P++((Y.take (i -m)).take k++x::(Y.take (i -m)).drop k)++(Y.drop (i -m)++S))++sp))⟩:St)) (by omega) ?_ ?_ ?_
    ·have e0:P++((Y.take (i -m)).take 0++x::(Y.take (i -m)).drop 0)++(Y.drop (i -m)++S)=l:=by
      rw[<-hL];simp
      rw[<-List.append_assoc,List.take_append_drop]
     rw[e0];rfl
    ·rintro k hk J2 τ rfl hJ2
     have hR:=PW P (Y.drop (i -m)++S) (Y.take (i -m)) x (k:=k) (by omega)
     rw[ha]at hR
     have hlen:(P++((Y.take (i -m)).take k++x::(Y.take (i -m)).drop k)++(Y.drop (i -m)++S)).length=l.length:=by rw[<-hL];simp;omega
     have fin:=hJ2 _ rfl
     rw[show a+(k+1)=a+k+1 by omega,<-hR]at fin
     clear hR
     generalize P++((Y.take (i -m)).take k++x::(Y.take (i -m)).drop k)++(Y.drop (i -m)++S)=R at fin hlen⊢
     have w4:ao ((i:Int) -1)=(i:Int) -1:=au (by omega) (by omega)
     have uS:decide (((a+k:Nat):Int)<(i:Int) -1)=true:=by simp;omega
     have w5:ao (((a+k:Nat):Int)+1)=((a+k+1:Nat):Int):=by rw[au (by omega) (by omega)];rfl
     obtain⟨r1,r2⟩:=na R sp (j:=((a+k:Nat):Int)) (by omega) (by omega)
     obtain⟨r3,r4⟩:=na R sp (j:=((a+k+1:Nat):Int)) (by omega) (by omega)
     rw[Int.toNat_natCast]at r1 r2 r3 r4
     generalize hcs:flat R++sp=cs
     rw[hcs]at r1 r2 r3 r4
     have d1:=decide_eq_true r1
     have d3:=decide_eq_true r3
     simp -implicitDefEqProofs only[go_sem,seval,uS,w4,w5,r2,r4,d1,d3,Bool.true_eq_false,Bool.false_eq_true,false_implies,true_implies,true_and,and_true,Bool.not_true,Bool.not_false,Bool.true_or,Bool.false_or]
     subst hcs
     have s1:=JM R sp (ix R ((a+k+1:Nat):Int)) (j:=((a+k:Nat):Int)) (by omega) (by omega)
     have hl5:(R.set (a+k) (ix R ((a+k+1:Nat):Int))).length=R.length:=List.length_set ..
     have s2:=JM (R.set (a+k) (ix R ((a+k+1:Nat):Int))) sp (ix R ((a+k:Nat):Int)) (j:=((a+k+1:Nat):Int)) (by omega) (by rw[hl5];omega)
     obtain⟨r5,_⟩:=na (R.set (a+k) (ix R ((a+k+1:Nat):Int))) sp (j:=((a+k+1:Nat):Int)) (by omega) (by rw[hl5];omega)
     rw[Int.toNat_natCast]at s1 s2 r5
     unfold NQ at fin
     rw[Int.toNat_natCast,Int.toNat_natCast]at fin
     rw[s1,s2]
     exact⟨⟨by omega,by omega⟩,⟨by omega,by omega⟩,⟨by omega,by omega⟩,r1,⟨by omega,by omega⟩,r5,fin⟩
    ·rintro J2 τ rfl
     have w4:ao ((i:Int) -1)=(i:Int) -1:=au (by omega) (by omega)
     have uS:decide (((a+(i -m):Nat):Int)<(i:Int) -1)=false:=by simp at hm;simp;omega
     have Po:=sY
     rw[<-List.take_append_drop (i -m) Y]at Po
     have e1:(Y.take (i -m)).take (i -m)=Y.take (i -m):=by rw[List.take_take,Nat.min_self]
     have e2:(Y.take (i -m)).drop (i -m)=[]:=List.drop_eq_nil_of_le (by omega)
     have fin:=hQ (Y.take (i -m)++x::Y.drop (i -m)) (by
      refine List.perm_middle.trans ?_
      rw[List.take_append_drop];exact List.Perm.refl _) (lH.put Po (fun u hu=>?_) (fun v hv=>?_))
     ·have e3:P++((Y.take (i -m)).take (i -m)++x::(Y.take (i -m)).drop (i -m))++(Y.drop (i -m)++S)=P++(Y.take (i -m)++x::Y.drop (i -m))++S:=by rw[e1,e2];simp
      rw[e3]
      generalize P++(Y.take (i -m)++x::Y.drop (i -m))++S=F at fin⊢
      simp -implicitDefEqProofs only[go_sem,seval,uS,w4,Bool.true_eq_false,Bool.false_eq_true,false_implies,true_implies,true_and,and_true,Bool.not_true,Bool.not_false,Bool.true_or,Bool.false_or]
      exact fin
     ·obtain⟨p1,p2,rfl⟩:=sZ (by omega) hu
      have i1:=jY (P++[x]) Y S p2
      have i2:=jY P [x] (Y++S) (k:=0) (by simp)
      rw[show P++[x]++(Y++S)=l by rw[<-hL];simp,show P.length+0=a by omega]at i2
      rw[hL,show(P++[x]).length+(i -m -1)=i -1 by simp;simp at hm;omega,show((i -1:Nat):Int)=(i:Int) -1 by omega]at i1
      have:=q5 (by omega)
      rw[i1,i2]at this
      exact lH.asy _ _ this
     ·obtain⟨p2,rfl⟩:=head_drop hv
      have i1:=jY (P++[x]) Y S p2
      have i2:=jY P [x] (Y++S) (k:=0) (by simp)
      rw[show P++[x]++(Y++S)=l by rw[<-hL];simp,show P.length+0=a by omega]at i2
      rw[hL,show(P++[x]).length+(i -m)=i by simp;simp at hm;omega]at i1
      have:=q6 (by omega)
      rw[i1,i2]at this
      exact this
  ·have h1:¬((m:Int) -(a:Int)=1):=by simpa using h1
   refine⟨fun h2=>?_,fun h2=>?_⟩
   ·have h2:(b:Int) -(m:Int)=1:=by simpa using h2
    refine s6 (fun n τ=>∃i j:Nat,a<=i/\i<=j/\j<=m/\j -i=n/\(a<i->jb (ix l (m:Int)) (ix l ((i:Int) -1))=false)/\(j<m->jb (ix l (m:Int)) (ix l (j:Int))=true)/\
     τ=(⟨[(0,.arr rb 0 l.length cap),(2,.int .i64 m),(4,.fn 224 [] []),(14,.int .i64 i),(15,.int .i64 j)],[],s.set rb (.cells (flat l++sp))⟩:St)) (m -a)
     ⟨a,m,Nat.le_refl _,by omega,Nat.le_refl _,rfl,fun h=>by omega,fun h=>by omega,rfl⟩ ?_
    rintro n τ ⟨i,j,q1,q2,q3,q4,q5,q6,rfl⟩ J hJ
    cases hlt:decide ((i:Int)<(j:Int))with
    |true=>
     have hij:i<j:=by simpa using hlt
     obtain⟨r1,r2⟩:=na l sp (j:=(((i+j)/2:Nat):Int)) (by omega) (by omega)
     obtain⟨r3,r4⟩:=na l sp (j:=(m:Int)) (by omega) (by omega)
     obtain⟨c,hc,hc2⟩:=Rx (x:=ix l (m:Int)) (y:=ix l (((i+j)/2:Nat):Int)) (by rw[jZ (by omega)];exact hz _ (List.getElem_mem _)) (by rw[jZ (by omega)];exact hz _ (List.getElem_mem _))
     rw[Int.toNat_natCast]at r1 r2 r3 r4
     generalize hcs:flat l++sp=cs at*
     have d1:=decide_eq_true r1
     have d3:=decide_eq_true r3
     have hh:=half (i:=i) (j:=j) (by omega)
     simp -implicitDefEqProofs only[go_sem,seval,hlt,hh,r2,r4,d1,d3,Bool.true_eq_false,Bool.false_eq_true,false_implies,true_implies,true_and,and_true,Bool.not_true,Bool.not_false,Bool.true_or,Bool.false_or]
     refine⟨⟨by omega,by omega⟩,⟨by omega,by omega⟩,by kernel_rfl,[.int .i64 c],rfl,il hc,?_⟩
     have w3:ao ((((i+j)/2:Nat):Int)+1)=(((i+j)/2+1:Nat):Int):=by rw[au (by omega) (by omega)];rfl
     simp -implicitDefEqProofs only[go_sem,seval,hc2,w3,Bool.true_eq_false,Bool.false_eq_true,false_implies,true_implies,true_and,and_true,Bool.not_true,Bool.not_false,Bool.true_or,Bool.false_or]
     refine⟨fun hx=>hJ (j -((i+j)/2+1)) _ (by omega) ⟨(i+j)/2+1,j,by omega,by omega,by omega,rfl,fun _=>?_,q6,rfl⟩,fun hx=>hJ ((i+j)/2 -i) _ (by omega) ⟨i,(i+j)/2,by omega,by omega,by omega,rfl,q5,fun _=>?_,rfl⟩⟩
     ·rw[show(((i+j)/2+1:Nat):Int) -1=(((i+j)/2:Nat):Int) by omega];simpa using hx
     ·simpa using hx
    |false=>
     have hij:i=j:=by have:¬i<j:=by simpa using hlt
                      omega
     subst hij
     obtain⟨y,rfl⟩:∃y,Y=[y]:=by
      cases Y with
      |nil=>simp at hY
      |cons x X=>cases X with
       |nil=>exact⟨x,rfl⟩
       |cons y X=>simp at hb;omega
     have hb1:b=m+1:=by simp at hb;omega
     have hi1:(X.take (i -a)).length=i -a:=by rw[List.length_take];omega
     have hi2:(X.drop (i -a)).length=m -i:=by rw[List.length_drop];omega
     simp -implicitDefEqProofs only[go_sem,seval,hlt,Bool.true_eq_false,Bool.false_eq_true,false_implies,true_implies,true_and,and_true,Bool.not_true,Bool.not_false,Bool.true_or,Bool.false_or]
     refine nD (m -i) (fun k τ=>τ=(⟨[(0,.arr rb 0 l.length cap),(14,.int .i64 i),(17,.int .i64 ((m -k:Nat):Int))],[],s.set rb (.cells (flat (P++X.take (i -a)++((X.drop (i -a)).take (m -i -k)++y::(X.drop (i -a)).drop (m -i -k))++S)++sp))⟩:St)) (by omega) ?_ ?_ ?_
     ·have e0:P++X.take (i -a)++((X.drop (i -a)).take (m -i -0)++y::(X.drop (i -a)).drop (m -i -0))++S=l:=by
       have t0:(X.drop (i -a)).take (m -i)=X.drop (i -a):=List.take_of_length_le (by omega)
       have d0:(X.drop (i -a)).drop (m -i)=[]:=List.drop_eq_nil_of_le (by omega)
       rw[Nat.sub_zero,t0,d0,<-hL]
       have:=List.take_append_drop (i -a) X
       simp only[List.append_assoc,List.cons_append,List.nil_append]at*
       rw[<-List.append_assoc (X.take (i -a)),this]
      rw[e0];rfl
     ·rintro k hk J2 τ rfl hJ2
      have hR:=Md (P++X.take (i -a)) S (X.drop (i -a)) y (k:=m -i -(k+1)) (by omega)
      rw[show(P++X.take (i -a)).length=i by rw[List.length_append,hi1];omega,show m -i -(k+1)+1=m -i -k by omega,show i+(m -i -(k+1))+1=m -k by omega,show i+(m -i -(k+1))=m -(k+1) by omega]at hR
      have hlen:(P++X.take (i -a)++((X.drop (i -a)).take (m -i -k)++y::(X.drop (i -a)).drop (m -i -k))++S).length=l.length:=by rw[<-hL];simp;omega
      have fin:=hJ2 _ rfl
      rw[<-hR]at fin
      clear hR
      generalize P++X.take (i -a)++((X.drop (i -a)).take (m -i -k)++y::(X.drop (i -a)).drop (m -i -k))++S=R at fin hlen⊢
      have uS:decide (((m -k:Nat):Int)>(i:Int))=true:=by simp;omega
      have w5:ao (((m -k:Nat):Int) -1)=((m -(k+1):Nat):Int):=by rw[au (by omega) (by omega)];omega
      obtain⟨r1,r2⟩:=na R sp (j:=((m -k:Nat):Int)) (by omega) (by omega)
      obtain⟨r3,r4⟩:=na R sp (j:=((m -(k+1):Nat):Int)) (by omega) (by omega)
      rw[Int.toNat_natCast]at r1 r2 r3 r4
      generalize hcs:flat R++sp=cs
      rw[hcs]at r1 r2 r3 r4
      have d1:=decide_eq_true r1
      have d3:=decide_eq_true r3
      simp -implicitDefEqProofs only[go_sem,seval,uS,w5,r2,r4,d1,d3,Bool.true_eq_false,Bool.false_eq_true,false_implies,true_implies,true_and,and_true,Bool.not_true,Bool.not_false,Bool.true_or,Bool.false_or]
      subst hcs
      have s1:=JM R sp (ix R ((m -(k+1):Nat):Int)) (j:=((m -k:Nat):Int)) (by omega) (by omega)
      have hl5:(R.set (m -k) (ix R ((m -(k+1):Nat):Int))).length=R.length:=List.length_set ..
      have s2:=JM (R.set (m -k) (ix R ((m -(k+1):Nat):Int))) sp (ix R ((m -k:Nat):Int)) (j:=((m -(k+1):Nat):Int)) (by omega) (by rw[hl5];omega)
      obtain⟨r5,_⟩:=na (R.set (m -k) (ix R ((m -(k+1):Nat):Int))) sp (j:=((m -(k+1):Nat):Int)) (by omega) (by rw[hl5];omega)
      rw[Int.toNat_natCast]at s1 s2 r5
      unfold NQ at fin
      rw[Int.toNat_natCast,Int.toNat_natCast]at fin
      rw[s1,s2]
      exact⟨⟨by omega,by omega⟩,⟨by omega,by omega⟩,⟨by omega,by omega⟩,r1,⟨by omega,by omega⟩,r5,fin⟩
     ·rintro J2 τ rfl
      have uS:decide (((m -(m -i):Nat):Int)>(i:Int))=false:=by simp;omega
      have Po:=sX
      rw[<-List.take_append_drop (i -a) X]at Po
      have fin:=hQ (X.take (i -a)++y::X.drop (i -a)) (by
       refine List.perm_middle.trans ?_
       rw[List.take_append_drop];exact(List.perm_append_singleton y X).symm) (lH.put Po (fun u hu=>?_) (fun v hv=>?_))
      ·have e3:P++X.take (i -a)++((X.drop (i -a)).take (m -i -(m -i))++y::(X.drop (i -a)).drop (m -i -(m -i)))++S=P++(X.take (i -a)++y::X.drop (i -a))++S:=by rw[Nat.sub_self];simp
       rw[e3]
       generalize P++(X.take (i -a)++y::X.drop (i -a))++S=F at fin⊢
       simp -implicitDefEqProofs only[go_sem,seval,uS,Bool.true_eq_false,Bool.false_eq_true,false_implies,true_implies,true_and,and_true,Bool.not_true,Bool.not_false,Bool.true_or,Bool.false_or]
       exact fin
      ·obtain⟨p1,p2,rfl⟩:=sZ (by omega) hu
       have i1:=jY P X ([y]++S) p2
       have i2:=jY (P++X) [y] S (k:=0) (by simp)
       rw[hL,show(P++X).length+0=m by simp;omega]at i2
       rw[show P++X++([y]++S)=l by rw[<-hL];simp,show P.length+(i -a -1)=i -1 by omega,show((i -1:Nat):Int)=(i:Int) -1 by omega]at i1
       have:=q5 (by omega)
       rw[i1,i2]at this
       exact this
      ·obtain⟨p2,rfl⟩:=head_drop hv
       have i1:=jY P X ([y]++S) p2
       have i2:=jY (P++X) [y] S (k:=0) (by simp)
       rw[hL,show(P++X).length+0=m by simp;omega]at i2
       rw[show P++X++([y]++S)=l by rw[<-hL];simp,show P.length+(i -a)=i by omega]at i1
       have:=q6 (by omega)
       rw[i1,i2]at this
       exact lH.asy _ _ this
   ·have h2:¬((b:Int) -(m:Int)=1):=by simpa using h2
    have hh:=half (i:=a) (j:=b) (by omega)
    generalize hM:(a+b)/2=M at hh
    have w3:ao ((M:Int)+(m:Int))=((M+m:Nat):Int):=by rw[au (by omega) (by omega)];omega
    have w4:ao (((M+m:Nat):Int) -(b:Int))=((M+m:Nat):Int) -(b:Int):=au (by omega) (by omega)
    have w5:ao (((M+m:Nat):Int) -1)=((M+m -1:Nat):Int):=by rw[au (by omega) (by omega)];omega
    simp only[hh,w3,w4,w5]
    refine two (fun E=>∃lo hi:Nat,((m>M/\lo+b=M+m/\hi=M)\/(m<=M/\lo=a/\hi=m))/\E.df [(0,false),(1,false),(2,false),(3,false),(4,false),(18,false),(19,false),(20,false),(21,false),(22,false)]=
     (⟨[(0,.arr rb 0 l.length cap),(1,.int .i64 a),(2,.int .i64 m),(3,.int .i64 b),(4,.fn 224 [] []),(18,.int .i64 M),(19,.int .i64 ((M+m:Nat):Int)),(20,.int .i64 lo),(21,.int .i64 hi),(22,.int .i64 ((M+m -1:Nat):Int))],[],s.set rb (.cells (flat l++sp))⟩:St)) ?_ (fun hc=>?_) (fun hc=>?_)
    ·rintro E ⟨lo,hi,hlh,hσ⟩
     refine s6 (fun n τ=>∃i j:Nat,lo<=i/\i<=j/\j<=hi/\j -i=n/\(lo<i->jb (ix l ((M+m -i:Nat):Int)) (ix l ((i:Int) -1))=false)/\(j<hi->jb (ix l ((M+m -1 -j:Nat):Int)) (ix l (j:Int))=true)/\
      τ=(⟨[(0,.arr rb 0 l.length cap),(1,.int .i64 a),(2,.int .i64 m),(3,.int .i64 b),(4,.fn 224 [] []),(18,.int .i64 M),(19,.int .i64 ((M+m:Nat):Int)),(20,.int .i64 i),(21,.int .i64 j),(22,.int .i64 ((M+m -1:Nat):Int))],[],s.set rb (.cells (flat l++sp))⟩:St)) (hi -lo)
      ⟨lo,hi,Nat.le_refl _,by omega,Nat.le_refl _,rfl,fun h=>by omega,fun h=>by omega,hσ⟩ ?_
     rintro n τ ⟨i,j,q1,q2,q3,q4,q5,q6,rfl⟩ J hJ
     cases hlt:decide ((i:Int)<(j:Int))with
     |true=>
      have hij:i<j:=by simpa using hlt
      obtain⟨r1,r2⟩:=na l sp (j:=(((i+j)/2:Nat):Int)) (by omega) (by omega)
      obtain⟨r3,r4⟩:=na l sp (j:=((M+m -1 -(i+j)/2:Nat):Int)) (by omega) (by omega)
      obtain⟨c,hc,hc2⟩:=Rx (x:=ix l ((M+m -1 -(i+j)/2:Nat):Int)) (y:=ix l (((i+j)/2:Nat):Int)) (by rw[jZ (by omega)];exact hz _ (List.getElem_mem _)) (by rw[jZ (by omega)];exact hz _ (List.getElem_mem _))
      rw[Int.toNat_natCast]at r1 r2 r3 r4
      generalize hcs:flat l++sp=cs at*
      have d1:=decide_eq_true r1
      have d3:=decide_eq_true r3
      have hh2:=half (i:=i) (j:=j) (by omega)
      have w6:ao (((M+m -1:Nat):Int) -(((i+j)/2:Nat):Int))=((M+m -1 -(i+j)/2:Nat):Int):=by rw[au (by omega) (by omega)];omega
      simp -implicitDefEqProofs only[go_sem,seval,hlt,hh2,w6,r2,r4,d1,d3,Bool.true_eq_false,Bool.false_eq_true,false_implies,true_implies,true_and,and_true,Bool.not_true,Bool.not_false,Bool.true_or,Bool.false_or]
      refine⟨⟨by omega,by omega⟩,⟨by omega,by omega⟩,by kernel_rfl,[.int .i64 c],rfl,il hc,?_⟩
      have w7:ao ((((i+j)/2:Nat):Int)+1)=(((i+j)/2+1:Nat):Int):=by rw[au (by omega) (by omega)];rfl
      simp -implicitDefEqProofs only[go_sem,seval,hc2,w7,Bool.true_eq_false,Bool.false_eq_true,false_implies,true_implies,true_and,and_true,Bool.not_true,Bool.not_false,Bool.true_or,Bool.false_or]
      refine⟨fun hx=>hJ (j -((i+j)/2+1)) _ (by omega) ⟨(i+j)/2+1,j,by omega,by omega,by omega,rfl,fun _=>?_,q6,rfl⟩,fun hx=>hJ ((i+j)/2 -i) _ (by omega) ⟨i,(i+j)/2,by omega,by omega,by omega,rfl,q5,fun _=>?_,rfl⟩⟩
      ·rw[show(((i+j)/2+1:Nat):Int) -1=(((i+j)/2:Nat):Int) by omega,show M+m -((i+j)/2+1)=M+m -1 -(i+j)/2 by omega];simpa using hx
      ·simpa using hx
     |false=>
      have hij:i=j:=by have:¬i<j:=by simpa using hlt
                       omega
      subst hij
      have w6:ao (((M+m:Nat):Int) -(i:Int))=((M+m -i:Nat):Int):=by rw[au (by omega) (by omega)];omega
      have hX1:(X.take (i -a)).length=i -a:=by rw[List.length_take];omega
      have hX2:(X.drop (i -a)).length=m -i:=by rw[List.length_drop];omega
      have hY1:(Y.take (M -i)).length=M -i:=by rw[List.length_take];omega
      have hY2:(Y.drop (M -i)).length=b -(M+m -i):=by rw[List.length_drop];omega
      have tX:=List.take_append_drop (i -a) X
      have tY:=List.take_append_drop (M -i) Y
      have hAD:∀u v,(X.take (i -a)).getLast?=some u->(Y.drop (M -i)).head?=some v->jb v u=false:=fun u v hu hv=>by
       obtain⟨p1,p2,rfl⟩:=sZ (by omega) hu
       obtain⟨p3,rfl⟩:=head_drop hv
       have i1:=jY P X (Y++S) p2
       have i2:=jY (P++X) Y S p3
       rw[hL,show(P++X).length+(M -i)=M+m -i by simp;omega]at i2
       rw[show P++X++(Y++S)=l by rw[<-hL];simp,show P.length+(i -a -1)=i -1 by omega,show((i -1:Nat):Int)=(i:Int) -1 by omega]at i1
       have:=q5 (by omega)
       rw[i1,i2]at this
       exact this
      have hCB:∀u v,(Y.take (M -i)).getLast?=some u->(X.drop (i -a)).head?=some v->jb v u=false:=fun u v hu hv=>by
       obtain⟨p1,p2,rfl⟩:=sZ (by omega) hu
       obtain⟨p3,rfl⟩:=head_drop hv
       have i1:=jY P X (Y++S) p3
       have i2:=jY (P++X) Y S p2
       rw[hL,show(P++X).length+(M -i -1)=M+m -1 -i by simp;omega]at i2
       rw[show P++X++(Y++S)=l by rw[<-hL];simp,show P.length+(i -a)=i by omega]at i1
       have:=q6 (by omega)
       rw[i1,i2]at this
       exact lH.asy _ _ this
      rw[<-tX]at sX
      rw[<-tY]at sY
      have mg:∀Z1 Z2:List VL,Z1.Perm (X.take (i -a)++Y.take (M -i))->Z2.Perm (X.drop (i -a)++Y.drop (M -i))->iM jb Z1->iM jb Z2->∀R,R=P++Z1++Z2++S->Q [] (s.set rb (.cells (flat R++sp))):=fun Z1 Z2 p1 p2 s1 s2 R hR=>by
       obtain⟨k1,k2⟩:=lH.Vo sX sY hAD hCB p1 p2 s1 s2
       rw[tX,tY]at k1
       rw[hR,List.append_assoc P]
       exact hQ _ k1 k2
      have hlX:l=P++X.take (i -a)++X.drop (i -a)++Y.take (M -i)++(Y.drop (M -i)++S):=by
       rw[<-hL]
       conv=>lhs;rw[<-tX,<-tY]
       simp only[List.append_assoc]
      clear hAD hCB q5 q6 hL tX tY hQ
      have sX1:=(iM.app.1 sX).1
      have sX2:=(iM.app.1 sX).2.1
      have sY1:=(iM.app.1 sY).1
      have sY2:=(iM.app.1 sY).2.1
      have hzs:∀z∈P++X.take (i -a)++X.drop (i -a)++Y.take (M -i)++(Y.drop (M -i)++S),0<z.length:=by rw[<-hlX];exact hz
      generalize X.take (i -a)=X1 at*
      generalize X.drop (i -a)=X2 at*
      generalize Y.take (M -i)=Y1 at*
      generalize Y.drop (M -i)=Y2 at*
      obtain⟨R1,hR1⟩:∃R1,R1=P++X1++Y1++X2++(Y2++S):=⟨_,rfl⟩
      have ZD:R1.length=l.length:=by rw[hR1,hlX];simp;omega
      have adK:i<m->m<M+m -i->Ny l (i:Int) (m:Int) ((M+m -i:Nat):Int)=some R1:=fun z1 z2=>by
       have:=S2 (P++X1) X2 Y1 (Y2++S) (by omega) (by omega) (by rw[<-hlX];exact hl)
       rw[<-hlX,<-hR1,show(P++X1).length=i by simp;omega,show i+X2.length=m by omega,show m+Y1.length=M+m -i by omega]at this
       exact this
      have hno:¬(i<m/\m<M+m -i)->flat l=flat R1:=fun z=>by
       have:X2=[]\/Y1=[]:=by
        by_cases z1:i<m
        ·right;apply List.eq_nil_of_length_eq_zero;omega
        ·left;apply List.eq_nil_of_length_eq_zero;omega
       rw[hR1,hlX]
       rcases this with rfl|rfl<;>simp
      have lZ:∀z,z∈P\/z∈X1\/z∈Y1\/z∈X2\/z∈Y2\/z∈S->0<z.length:=fun z hzz=>hzs z (by rcases hzz with h|h|h|h|h|h<;>simp[h])
      have aei:∀{Q':List AV->ab->Prop},a<i->i<M->(∀R2 Z1,R2=P++Z1++(X2++Y2++S)->Z1.Perm (X1++Y1)->iM jb Z1->Q' [] (s.set rb (.cells (flat R2++sp))))->
       FN prog 298 [.arr rb 0 l.length cap,.int .i64 a,.int .i64 i,.int .i64 M,.fn 224 [] []] (s.set rb (.cells (flat R1++sp))) Q':=fun{Q'} z1 z2 hq=>by
       have e:R1=P++X1++Y1++(X2++Y2++S):=by rw[hR1];simp
       have:=ih (P:=P) (X:=X1) (Y:=Y1) (S:=X2++Y2++S) (s:=s) (rb:=rb) (cap:=cap) (sp:=sp) (Q:=Q') (by omega) (by omega) (by omega) (fun z h=>lZ z (by simp only[List.mem_append]at h;rcases h with((h|h)|h)|(h|h)|h<;>simp[h])) sX1 sY1 (by rw[<-e,ZD];exact hl) (fun Z p1 p2=>hq _ Z rfl p1 p2)
       rw[<-e,ZD,ha,show a+X1.length=i by omega,show i+Y1.length=M by omega]at this
       exact this
      have abp:∀{Q':List AV->ab->Prop}{R2 Z1:List VL},R2=P++Z1++(X2++Y2++S)->Z1.Perm (X1++Y1)->M<M+m -i->M+m -i<b->(∀R3 Z2,R3=P++Z1++Z2++S->Z2.Perm (X2++Y2)->iM jb Z2->Q' [] (s.set rb (.cells (flat R3++sp))))->
       FN prog 298 [.arr rb 0 l.length cap,.int .i64 M,.int .i64 ((M+m -i:Nat):Int),.int .i64 b,.fn 224 [] []] (s.set rb (.cells (flat R2++sp))) Q':=fun{Q' R2 Z1} hR2 hp z1 z2 hq=>by
       have e:R2=P++Z1++X2++Y2++S:=by rw[hR2];simp
       have hZ:Z1.length=M -a:=by have:=hp.length_eq;rw[List.length_append]at this;omega
       have eL:R2.length=l.length:=by rw[hR2,hlX];simp;omega
       have:=ih (P:=P++Z1) (X:=X2) (Y:=Y2) (S:=S) (s:=s) (rb:=rb) (cap:=cap) (sp:=sp) (Q:=Q') (by omega) (by omega) (by omega) (fun z h=>lZ z (by
        have hm:=hp.mem_iff (a:=z)
        simp only[List.mem_append]at h hm
        rcases h with(((h|h)|h)|h)|h
        ·simp[h]
        ·rcases hm.1 h with h|h<;>simp[h]
        ·simp[h]
        ·simp[h]
        ·simp[h])) sX2 sY2 (by rw[<-e,eL];exact hl) (fun Z p1 p2=>hq _ Z rfl p1 p2)
       rw[<-e,eL,show(P++Z1).length=M by simp;omega,show M+X2.length=M+m -i by omega,show M+m -i+Y2.length=b by omega]at this
       exact this
      have n1:¬(a<i/\i<M)->iM jb (X1++Y1):=fun z=>by
       by_cases z1:a<i
       ·obtain rfl:Y1=[]:=List.eq_nil_of_length_eq_zero (by omega)
        rw[List.append_nil];exact sX1
       ·obtain rfl:X1=[]:=List.eq_nil_of_length_eq_zero (by omega)
        exact sY1
      have n2:¬(M<M+m -i/\M+m -i<b)->iM jb (X2++Y2):=fun z=>by
       by_cases z1:i<m
       ·obtain rfl:Y2=[]:=List.eq_nil_of_length_eq_zero (by omega)
        rw[List.append_nil];exact sX2
       ·obtain rfl:X2=[]:=List.eq_nil_of_length_eq_zero (by omega)
        exact sY2
      simp -implicitDefEqProofs only[go_sem,seval,hlt,w6,Bool.true_eq_false,Bool.false_eq_true,false_implies,true_implies,true_and,and_true,Bool.not_true,Bool.not_false,Bool.true_or,Bool.false_or]
      refine⟨?_,?_⟩
      intro hx
      have hx:i<m/\m<M+m -i:=by simpa using hx
      refine W7 ⟨by omega,by omega,by omega,by omega,by omega⟩ ⟨R1,adK hx.1 hx.2,?_⟩
      simp -implicitDefEqProofs only[go_sem,seval,Bool.true_eq_false,Bool.false_eq_true,false_implies,true_implies,true_and,and_true,Bool.not_true,Bool.not_false,Bool.true_or,Bool.false_or]
      rotate_left
      intro hx
      have hx:¬(i<m/\m<M+m -i):=by simpa using hx
      rw[hno hx]
      all_goals
       refine⟨fun hx1=>?_,fun hx1=>?_⟩
       ·have hx1:a<i/\i<M:=by simpa using hx1
        refine aei hx1.1 hx1.2 fun R2 Z1 hR2 p1 s1=>?_
        simp -implicitDefEqProofs only[go_sem,seval,Bool.true_eq_false,Bool.false_eq_true,false_implies,true_implies,true_and,and_true,Bool.not_true,Bool.not_false,Bool.true_or,Bool.false_or]
        refine⟨fun hx2=>?_,fun hx2=>?_⟩
        ·have hx2:M<M+m -i/\M+m -i<b:=by simpa using hx2
         refine abp hR2 p1 hx2.1 hx2.2 fun R3 Z2 hR3 p2 s2=>?_
         simp -implicitDefEqProofs only[go_sem,seval,Bool.true_eq_false,Bool.false_eq_true,false_implies,true_implies,true_and,and_true,Bool.not_true,Bool.not_false,Bool.true_or,Bool.false_or]
         exact mg Z1 Z2 p1 p2 s1 s2 R3 hR3
        ·exact mg Z1 (X2++Y2) p1 (List.Perm.refl _) s1 (n2 (by simpa using hx2)) R2 (by rw[hR2];simp)
       ·have hR2:R1=P++(X1++Y1)++(X2++Y2++S):=by rw[hR1];simp
        have s1:=n1 (by simpa using hx1)
        refine⟨fun hx2=>?_,fun hx2=>?_⟩
        ·have hx2:M<M+m -i/\M+m -i<b:=by simpa using hx2
         refine abp hR2 (List.Perm.refl _) hx2.1 hx2.2 fun R3 Z2 hR3 p2 s2=>?_
         simp -implicitDefEqProofs only[go_sem,seval,Bool.true_eq_false,Bool.false_eq_true,false_implies,true_implies,true_and,and_true,Bool.not_true,Bool.not_false,Bool.true_or,Bool.false_or]
         exact mg _ Z2 (List.Perm.refl _) p2 s1 s2 R3 hR3
        ·exact mg _ (X2++Y2) (List.Perm.refl _) (List.Perm.refl _) s1 (n2 (by simpa using hx2)) R1 (by rw[hR2];simp)
    ·refine⟨M+m -b,M,.inl ⟨?_,?_,rfl⟩,?_⟩
     ·have:=of_decide_eq_true hc;omega
     ·have:=of_decide_eq_true hc;omega
     ·have:=of_decide_eq_true hc
      rw[show((M+m:Nat):Int) -(b:Int)=((M+m -b:Nat):Int) by omega]
      rfl
    ·refine⟨a,m,.inr ⟨?_,rfl,rfl⟩,rfl⟩
     have:=of_decide_eq_false hc;omega
end Go.AB
end
section
set_option maxRecDepth 4000
namespace Go.AB
open Go
theorem RZ(P A B S:List VL)(x:VL)(hz:∀z∈P++(A++x::B)++S,0<z.length)(hl:((P++(A++x::B)++S).length:Int)<2^60)(hs:iM jb (A++B))(hB:∀v,B.head?=some v->jb v x=false):
 ∃Z,iter (wg (P.length:Int)) (P++(A++x::B)++S,((P.length+A.length:Nat):Int))=some (P++Z++S)/\Z.Perm (A++x::B)/\iM jb Z:=by
 have hl0:=hl
 simp only[List.length_append,List.length_cons]at hl0
 obtain⟨o,h1,Z,rfl,h2,h3⟩:=dn (body:=wg (P.length:Int)) (s0:=(P++(A++x::B)++S,((P.length+A.length:Nat):Int)))
  (fun q=>∃A' B':List VL,q=(P++(A'++x::B')++S,((P.length+A'.length:Nat):Int))/\A'++B'=A++B/\∀v,B'.head?=some v->jb v x=false) (fun q=>q.2.toNat)
  (fun o=>∃Z:List VL,o=P++Z++S/\Z.Perm (A++x::B)/\iM jb Z) ⟨A,B,rfl,rfl,hB⟩ (by show((P.length+A.length:Nat):Int).toNat<_;omega) (by
    rintro q ⟨A',B',rfl,hAB,hB'⟩
    have hlen:A'.length+B'.length=A.length+B.length:=by rw[<-List.length_append,hAB,List.length_append]
    have hp:(A'++x::B').Perm (A++x::B):=List.perm_middle.trans ((by rw[hAB]:(x::(A'++B')).Perm (x::(A++B))).trans List.perm_middle.symm)
    have gJ:(P++(A'++x::B')++S).length=P.length+(A.length+(B.length+1))+S.length:=by simp;omega
    have hzz:∀z∈A'++x::B',0<z.length:=fun z h=>hz z (by
     have:=hp.mem_iff.1 h
     simp only[List.mem_append]at this⊢
     exact .inl (.inr this))
    unfold wg
    have PY:(0:Int)<=((P.length+A'.length:Nat):Int)/\((P.length+A'.length:Nat):Int)<((P++(A'++x::B')++S).length:Int)/\((P.length+A'.length:Nat):Int)<2^62:=⟨by omega,by rw[gJ];omega,by omega⟩
    rcases List.eq_nil_or_concat A' with rfl|⟨A0,u,rfl⟩
    ·refine⟨.inr (P++([]++x::B')++S),af PY ?_,_,rfl,hp,?_⟩
     ·show(bif decide (((P.length+([]:List VL).length:Nat):Int)>(P.length:Int))then _ else _)=_
      rw[show decide (((P.length+([]:List VL).length:Nat):Int)>(P.length:Int))=false by simp,cond_false]
     ·exact lH.put (A:=[]) (by rw[hAB];exact hs) (fun u hu=>by cases hu) hB'
    ·rw[List.concat_eq_append]at*
     have ix1:ix (P++((A0++[u])++x::B')++S) ((P.length+(A0++[u]).length:Nat):Int)=x:=by
      have:=jY P ((A0++[u])++x::B') S (k:=(A0++[u]).length) (by simp)
      rw[this,List.getElem_append_right (Nat.le_refl _)];simp
     have ix2:ix (P++((A0++[u])++x::B')++S) (((P.length+(A0++[u]).length:Nat):Int) -1)=u:=by
      have:=jY P ((A0++[u])++x::B') S (k:=A0.length) (by simp)
      rw[show((P.length+(A0++[u]).length:Nat):Int) -1=((P.length+A0.length:Nat):Int) by simp;omega,this]
      simp
     obtain⟨c,hc,hc2⟩:=Rx (x:=x) (y:=u) (hzz x (by simp)) (hzz u (by simp))
     have hgt:decide (((P.length+(A0++[u]).length:Nat):Int)>(P.length:Int))=true:=by simp;omega
     cases hlt:jb x u with
     |true=>
      refine⟨.inl (P++(A0++x::u::B')++S,((P.length+A0.length:Nat):Int)),af PY ?_,⟨A0,u::B',rfl,by rw[<-hAB];simp,fun v hv=>?_⟩,?_⟩
      ·show(bif decide (((P.length+(A0++[u]).length:Nat):Int)>(P.length:Int))then _ else _)=_
       rw[hgt,cond_true]
       refine af (by show(1:Int)<=((P.length+(A0++[u]).length:Nat):Int);simp;omega) (ah (a:=c) ?_ ?_)
       ·show eK (ix (P++((A0++[u])++x::B')++S) ((P.length+(A0++[u]).length:Nat):Int)) (ix (P++((A0++[u])++x::B')++S) (((P.length+(A0++[u]).length:Nat):Int) -1))=_
        rw[ix1,ix2];exact hc
       ·rw[hc2,hlt,cond_true]
        have hm:=Md P (B'++S) (A0++[u]) x (k:=A0.length) (by simp)
        have e1:P++((A0++[u]).take (A0.length+1)++x::(A0++[u]).drop (A0.length+1))++(B'++S)=P++((A0++[u])++x::B')++S:=by
         have t1:(A0++[u]).take (A0.length+1)=A0++[u]:=List.take_of_length_le (by simp)
         have t2:(A0++[u]).drop (A0.length+1)=[]:=List.drop_eq_nil_of_le (by simp)
         rw[t1,t2];simp
        have e2:P++((A0++[u]).take A0.length++x::(A0++[u]).drop A0.length)++(B'++S)=P++(A0++x::u::B')++S:=by simp
        rw[e1,e2]at hm
        rw[<-hm]
        show some (Sum.inl (((P++((A0++[u])++x::B')++S).set ((P.length+(A0++[u]).length:Nat):Int).toNat (ix _ (((P.length+(A0++[u]).length:Nat):Int) -1))).set (((P.length+(A0++[u]).length:Nat):Int) -1).toNat (ix _ ((P.length+(A0++[u]).length:Nat):Int)),((P.length+(A0++[u]).length:Nat):Int) -1))=_
        unfold NQ
        rw[show((P.length+(A0++[u]).length:Nat):Int) -1=((P.length+A0.length:Nat):Int) by simp;omega,show P.length+(A0++[u]).length=P.length+A0.length+1 by simp;omega]
      ·cases hv
       exact lH.asy _ _ hlt
      ·show((P.length+A0.length:Nat):Int).toNat<((P.length+(A0++[u]).length:Nat):Int).toNat
       simp;omega
     |false=>
      refine⟨.inr (P++((A0++[u])++x::B')++S),af PY ?_,_,rfl,hp,lH.put (by rw[hAB];exact hs) (fun w hw=>?_) hB'⟩
      ·show(bif decide (((P.length+(A0++[u]).length:Nat):Int)>(P.length:Int))then _ else _)=_
       rw[hgt,cond_true]
       refine af (by show(1:Int)<=((P.length+(A0++[u]).length:Nat):Int);simp;omega) (ah (a:=c) ?_ ?_)
       ·show eK (ix (P++((A0++[u])++x::B')++S) ((P.length+(A0++[u]).length:Nat):Int)) (ix (P++((A0++[u])++x::B')++S) (((P.length+(A0++[u]).length:Nat):Int) -1))=_
        rw[ix1,ix2];exact hc
       ·rw[hc2,hlt,cond_false]
      ·rw[List.getLast?_concat]at hw
       cases hw;exact hlt)
 exact⟨Z,h1,h2,h3⟩
theorem RY(P X S:List VL)(hz:∀z∈P++X++S,0<z.length)(hl:((P++X++S).length:Int)<2^60):
 ∃Z,RW (P++X++S) (P.length:Int) ((P.length+X.length:Nat):Int)=some (P++Z++S)/\Z.Perm X/\iM jb Z:=by
 have hl0:=hl
 simp only[List.length_append]at hl0
 unfold RW
 cases X with
 |nil=>
  refine⟨[],?_,List.Perm.refl _,List.Pairwise.nil⟩
  refine iter_eq (fun q=>q=(P++[]++S,(P.length:Int)+1)) (fun _=>0) rfl (by decide) ?_
  rintro q rfl
  right
  unfold insOuter
  rw[show decide ((P++[]++S,(P.length:Int)+1).2<((P.length+([]:List VL).length:Nat):Int))=false by simp;omega,cond_false]
 |cons x0 X=>
  obtain⟨o,h1,Z,rfl,h2,h3⟩:=dn (body:=insOuter (P.length:Int) ((P.length+(x0::X).length:Nat):Int)) (s0:=(P++(x0::X)++S,(P.length:Int)+1))
   (fun q=>∃Z A B:List VL,q=(P++Z++(B++S),((P.length+A.length:Nat):Int))/\A++B=x0::X/\Z.Perm A/\iM jb Z) (fun q=>(((P.length+(x0::X).length:Nat):Int) -q.2).toNat)
   (fun o=>∃Z:List VL,o=P++Z++S/\Z.Perm (x0::X)/\iM jb Z)
   ⟨[x0],[x0],X,by simp,rfl,List.Perm.refl _,iM.one x0⟩ (by show(((P.length+(x0::X).length:Nat):Int) -((P.length:Int)+1)).toNat<_;omega) (by
     rintro q ⟨Z,A,B,rfl,hAB,hp,hs⟩
     have hlen:A.length+B.length=(x0::X).length:=by rw[<-hAB,List.length_append]
     have hZ:=hp.length_eq
     unfold insOuter
     cases B with
     |nil=>
      rw[List.append_nil]at hAB
      subst hAB
      refine⟨.inr (P++Z++S),?_,Z,rfl,hp,hs⟩
      show(bif decide (((P.length+(x0::X).length:Nat):Int)<((P.length+(x0::X).length:Nat):Int))then _ else _)=_
      rw[show decide (((P.length+(x0::X).length:Nat):Int)<((P.length+(x0::X).length:Nat):Int))=false by simp,cond_false]
      rfl
     |cons y B=>
      have lZ:∀z,z∈Z\/z∈y::B->z∈x0::X:=fun z h=>by
       rw[<-hAB,List.mem_append]
       exact h.imp hp.mem_iff.1 id
      simp only[List.length_cons]at hlen hl0
      obtain⟨Z2,k1,k2,k3⟩:=RZ P Z [] (B++S) y (fun z h=>hz z (by
       simp only[List.mem_append]at h⊢
       rcases h with(h|h|h)|h|h
       ·exact .inl (.inl h)
       ·exact .inl (.inr (lZ z (.inl h)))
       ·exact .inl (.inr (lZ z (.inr (by
         have:z=y:=by simpa using h
         simp[this]))))
       ·exact .inl (.inr (lZ z (.inr (by simp[h]))))
       ·exact .inr h)) (by simp;omega) (by rw[List.append_nil];exact hs) (fun v hv=>by cases hv)
      rw[show P++(Z++y::[])++(B++S)=P++Z++(y::B++S) by simp,hZ]at k1
      refine⟨.inl (P++Z2++(B++S),((P.length+A.length:Nat):Int)+1),?_,⟨Z2,A++[y],B,by simp;omega,by rw[<-hAB];simp,k2.trans (hp.append_right [y]),k3⟩,?_⟩
      ·show(bif decide (((P.length+A.length:Nat):Int)<((P.length+(x0::X).length:Nat):Int))then _ else _)=_
       rw[show decide (((P.length+A.length:Nat):Int)<((P.length+(x0::X).length:Nat):Int))=true by simp;omega,cond_true]
       refine af (by show(0:Int)<=((P.length+A.length:Nat):Int)/\((P.length+A.length:Nat):Int)+1<2^62;omega) (ah (a:=P++Z2++(B++S)) k1 rfl)
      ·show(((P.length+(x0::X).length:Nat):Int) -(((P.length+A.length:Nat):Int)+1)).toNat<(((P.length+(x0::X).length:Nat):Int) -((P.length+A.length:Nat):Int)).toNat
       simp only[List.length_cons];omega)
  exact⟨Z,h1,h2,h3⟩
def tx(w:Nat)(r:List VL):Prop:=∀i,iM jb ((r.drop (i*w)).take w)
theorem tx.nil(w:Nat):tx w []:=fun i=>by rw[List.drop_nil,List.take_nil];exact List.Pairwise.nil
theorem tx.snoc{w k:Nat}{P Z:List VL}(hP:P.length=k*w)(h:tx w P)(hZ:iM jb Z):tx w (P++Z):=fun i=>by
 by_cases hi:i<k
 ·have e:(i+1)*w<=k*w:=Nat.mul_le_mul_right w hi
  rw[Nat.add_mul,Nat.one_mul]at e
  rw[List.drop_append_of_le_length (by omega),List.take_append_of_le_length (by rw[List.length_drop];omega)]
  exact h i
 ·have e:k*w<=i*w:=Nat.mul_le_mul_right w (by omega)
  have e2:(P++Z).drop (i*w)=Z.drop (i*w -P.length):=by rw[List.drop_append,List.drop_eq_nil_of_le (by omega),List.nil_append]
  rw[e2]
  exact(List.Pairwise.drop hZ).take
theorem tx.rest{w:Nat}{r:List VL}(h:tx w r)(n:Nat):tx w (r.drop (n*w)):=fun i=>by
 rw[List.drop_drop,<-Nat.add_mul]
 exact h _
theorem tx.all{w:Nat}{r:List VL}(h:tx w r)(hw:r.length<=w):iM jb r:=by
 have:=h 0
 rw[Nat.zero_mul,List.drop_zero,List.take_of_length_le hw]at this
 exact this
theorem HW{α:Type}[aR α]{E:St}{d:Option Nat}{K:St->Prop}{sz by':Nat}{s:ab}{r:cm}{l:List α}{z:α}{x:List α}(hσ:E.s=fc s r l)(h:fH s r l)(hz:sz=aR.w α)(hx:0<x.length)(hr:(l.length+x.length)*by'<=room)
 (hK:∀s' r',Sub s s'->fH s' r' (l++x)->K ({E with s:=fc s' r' (l++x)}.put d (ga r' (l.length+x.length)))):
 dK sz by' (aR.cells z) E d K (ga r l.length) (some (x.length,flat x)):=by
 subst hz
 have hcz:(aR.cells z).length=aR.w α:=aR.len z
 have hvz:views (aR.cells z)=aR.cells z:=aR.vw z
 have fresh:∀(s':ab)(b' dL:Nat),s' b'=none->l.length+x.length<=dL->fH s' (some (b',dL,flat (List.replicate (dL -(l.length+x.length)) z))) (l++x):=fun s' b' dL hb hc=>by
  refine⟨hb,by omega,by simpa using hc,?_,bX _⟩
  rw[List.length_append,aE,aE,List.length_replicate,List.length_append,<-Nat.add_mul]
  congr 1
  omega
 cases r with
 |none=>
  obtain rfl:l=[]:=h
  show dK (aR.w α) by' (aR.cells z) E d K (.arr 0 0 0 0) _
  refine jM hcz (olds:=[]) rfl (by simpa using hx) hr fun b' dL hb' hc=>?_
  rw[List.nil_append,<-mF]
  rw[hσ]at hb'⊢
  have:=hK s (some (b',dL,flat (List.replicate (dL -(0+x.length)) z))) (Sub.refl s) (fresh s b' dL hb' hc)
  exact this
 |some y=>
  obtain⟨b,cap,sp⟩:=y
  obtain⟨h1,h2,h3,h4,h5⟩:=h
  have hs:E.s b=some (.cells (flat l++sp)):=by rw[hσ];exact gY
  show dK (aR.w α) by' (aR.cells z) E d K (.arr b 0 l.length cap) _
  by_cases hc:l.length+x.length<=cap
  ·refine zu hcz hs (by rw[h4,Nat.zero_add];exact Nat.le_refl _) hc ?_
   have hsp:x.length*aR.w α<=sp.length:=by
    rw[List.length_append,aE]at h4
    have:(l.length+x.length)*aR.w α<=cap*aR.w α:=Nat.mul_le_mul_right _ hc
    rw[Nat.add_mul]at this
    simp;omega
   have st:=JI l x sp (aR.w α) rfl hsp
   rw[Nat.zero_add,st]
   have e:E.s.set b (.cells (flat (l++x)++sp.drop (x.length*aR.w α)))=fc s (some (b,cap,sp.drop (x.length*aR.w α))) (l++x):=by
    rw[hσ]
    show(s.set b _).set b _=s.set b _
    exact set_set ..
   rw[e]
   refine hK s _ (Sub.refl s) ⟨h1,h2,by simpa using hc,?_,?_⟩
   ·rw[List.length_append,aE]at h4⊢
    rw[List.length_drop,List.length_append,Nat.add_mul]
    omega
   ·unfold views at h5⊢
    rw[List.map_drop,h5]
  ·refine jM hcz (yw hs (by
    rw[Nat.zero_add,h4];exact Nat.mul_le_mul_right _ h3)) (by omega) hr fun b' dL hb' hc'=>?_
   have ho:views (AB.sub (flat l++sp) 0 (l.length*aR.w α))=flat l:=by
    have:=nI l sp (aR.w α) 0 l.length rfl (by omega)
    rw[Nat.zero_mul]at this
    rw[this,List.drop_zero,List.take_length,bX]
   rw[ho,<-mF,<-eH]
   rw[hσ]at hb'⊢
   have hb0:(s.set b (.cells (flat l++sp))) b'=none:=hb'
   exact hK (s.set b (.cells (flat l++sp))) (some (b',dL,flat (List.replicate (dL -(l.length+x.length)) z))) ((Sub.refl s).set h1) (fresh _ b' dL hb0 hc')
end Go.AB
end
section
set_option maxRecDepth 4000
namespace Go.AB
open Go
open Go.Proofs.Tryz (prog)
attribute[-go_sem] Nat.add_zero tz du cV dB cg cU
def LY:IC:=
 (ag [cY 4 (.arr 0 0 0 0)] [0,1]
 (.seq (ag [mv 5 1,bn 6 .lss 5 0] [0,1,6]
 (.cond (.t 6) .dead
 .skip))
 (.seq (ag [mv 8 1,mv 9 0,i1 10 (.cap (.t 9)),mv 11 0,le 12 0 11,bt 13 .sub 10 12,bt 14 .sub 8 13,mv 1 14] [0,1]
 (ag [mv 15 1,bn 16 .gtr 15 0] [0,1,16]
 (.cond (.t 16) (.bP none [mv 17 0,mv 18 0,i1 19 (.cap (.t 18)),WW 20 4 17 19,mv 21 1,i1 22 (.lV 4 56 CS (.t 20) (.t 21)),mv 23 0,le 24 0 23,WW 25 4 22 24,mv 0 25] [0])
 .skip)))
 (ag [mv 26 0,mv 4 26] [4]
 .ret))))
theorem R8:aY prog 265 27 [⟨4,true,none⟩] LY=true:=by kernel_rfl
def x7:IC:=
 (ag [cY 2 (.arr 0 0 0 0)] [0]
 (ag [mi 3 0] [0,3]
 (.seq (ag [mv 9 0,le 10 0 9,mi 11 0] [0,3,9,10,11]
 (.block 0 (.loop [(0,false),(3,false),(9,false),(10,false),(11,false)] (ag [bt 12 .lss 11 10] [0,3,9,10,11,12]
 (.seq (.cond (.t 12) .skip
 (.exit 0))
 (.seq (.block 1 (ag [ia 13 [.sl false 4 0 []] 9 11,ld 14 1 13,mv 5 14] [0,3,5,9,10,11]
 (ag [mv 15 3,mv 16 5,le 17 0 16,bt 18 .add 15 17,mv 3 18] [0,3,9,10,11]
 (ag [mv 19 3,bn 20 .lss 19 0] [0,3,9,10,11,20]
 (.cond (.t 20) .dead
 .skip)))))
 (.bP none [bn 22 .add 11 1,mv 11 22] [0,3,9,10,11])))))))
 (ag [mv 23 3,i1 24 (.call 265 [(.c (.arr 0 0 0 0)),(.t 23)]),mv 6 24] [0,6]
 (.seq (ag [mv 25 0,le 26 0 25,mi 27 0] [6,25,26,27]
 (.block 2 (.loop [(6,false),(25,false),(26,false),(27,false)] (ag [bt 28 .lss 27 26] [6,25,26,27,28]
 (.seq (.cond (.t 28) .skip
 (.exit 2))
 (.seq (.block 3 (ag [ia 29 [.sl false 4 0 []] 25 27,ld 30 1 29,mv 8 30] [6,8,25,26,27]
 (.bP none [mv 31 6,mv 32 8,i1 33 (.fL 4 56 CS (.t 31) (.t 32)),mv 6 33] [6,25,26,27])))
 (.bP none [bn 34 .add 27 1,mv 27 34] [6,25,26,27])))))))
 (ag [mv 35 6,mv 2 35] [2]
 .ret))))))
theorem EV:aY prog 226 36 [⟨2,true,none⟩] x7=true:=by kernel_rfl
def Gs:IC:=
 (ag [mi 6 20] [0,1,2,6]
 (ag [mv 10 6,mi 7 0,mv 8 10] [0,1,2,6,7,8]
 (.seq (.block 0 (.loop [(0,false),(1,false),(2,false),(6,false),(7,false),(8,false)] (.seq (ag [mv 11 8,mv 12 1,bt 13 .leq 11 12] [0,1,2,6,7,8,13]
 (.cond (.t 13) .skip
 (.exit 0)))
 (.block 1 (ag [mv 14 0,mv 15 7,mv 16 8,mv 17 2,Ld 18 297 14 15 16 17] [0,1,2,6,8]
 (ag [mv 19 8,mv 7 19] [0,1,2,6,7,8]
 (.bP none [mv 20 8,mv 21 6,bt 22 .add 20 21,mv 8 22] [0,1,2,6,7,8])))))))
 (ag [mv 23 0,mv 24 7,mv 25 1,mv 26 2,Ld 27 297 23 24 25 26] [0,1,2,6]
 (.block 2 (.loop [(0,false),(1,false),(2,false),(6,false)] (.seq (ag [mv 28 6,mv 29 1,bt 30 .lss 28 29] [0,1,2,6,30]
 (.cond (.t 30) .skip
 (.exit 2)))
 (.block 3 (ag [mv 31 6,i1 32 (.bin .mul (.c (.int .i64 2)) (.t 31)),mi 7 0,mv 8 32] [0,1,2,6,7,8]
 (.seq (.block 4 (.loop [(0,false),(1,false),(2,false),(6,false),(7,false),(8,false)] (.seq (ag [mv 33 8,mv 34 1,bt 35 .leq 33 34] [0,1,2,6,7,8,35]
 (.cond (.t 35) .skip
 (.exit 4)))
 (.block 5 (ag [mv 36 0,mv 37 7,mv 38 7,mv 39 6,bt 40 .add 38 39,mv 41 8,mv 42 2,i1 43 (.call 298 [(.t 36),(.t 37),(.t 40),(.t 41),(.t 42)])] [0,1,2,6,8]
 (ag [mv 44 8,mv 7 44] [0,1,2,6,7,8]
 (.bP none [mv 45 8,mv 46 6,i1 47 (.bin .mul (.c (.int .i64 2)) (.t 46)),bt 48 .add 45 47,mv 8 48] [0,1,2,6,7,8])))))))
 (.seq (ag [mv 49 7,mv 50 6,bt 51 .add 49 50,mv 9 51] [0,1,2,6,7,9]
 (ag [mv 52 9,mv 53 1,bt 54 .lss 52 53] [0,1,2,6,7,9,54]
 (.cond (.t 54) (.bP none [mv 55 0,mv 56 7,mv 57 9,mv 58 1,mv 59 2,i1 60 (.call 298 [(.t 55),(.t 56),(.t 57),(.t 58),(.t 59)])] [0,1,2,6])
 .skip)))
 (.bP none [mv 61 6,bn 62 .mul 61 2,mv 6 62] [0,1,2,6]))))))))))))
theorem L3:aY prog 263 63 [] Gs=true:=by kernel_rfl
def x8:IC:=
 (.bP none [mv 4 0,mv 5 0,le 6 0 5,mv 7 1,c3 8 263 4 6 7] [])
theorem EW:aY prog 223 9 [] x8=true:=by kernel_rfl
theorem LR{s:ab}{k:Nat}{Q:List AV->ab->Prop}(hn:k*56<=room)(hq:∀s' r',Sub s s'->fH s' r' ([]:List aa)->Q [ga r' 0] (fc s' r' ([]:List aa))):FN prog 265 [.arr 0 0 0 0,.int .i64 k] s Q:=by
 have hr:room=140737488355328:=rfl
 refine FO R8 rfl rfl ?_
 rw[LY]
 have h0:decide ((k:Int)<0)=false:=by simp
 have e00:((0:Nat):Int)=0:=rfl
 have w1:ao 0=0:=by decide
 have w2:ao (k:Int)=k:=au (by omega) (by omega)
 simp -implicitDefEqProofs only[go_sem,Nat.reduceBEq,Nat.reduceAdd,Nat.reduceMul,Nat.reduceLeDiff,Nat.reduceEqDiff,Nat.reduceBNe,UInt8.reduceToNat,UInt32.reduceToNat,h0,e00,w1,w2,Bool.true_eq_false,Bool.false_eq_true,false_implies,true_implies,true_and,and_true]
 refine⟨fun hk=>?_,fun hk=>?_⟩
 ·have hk:0<k:=by simpa using hk
  refine⟨Int.le_refl _,?_⟩
  refine FL (n:=0) (cap:=0) (m:=k) (b:=0) (off:=0) (by':=56) (olds:=[]) rfl rfl rfl (by omega) (by omega) fun b' dL hb' hc=>?_
  rw[List.nil_append]
  simp -implicitDefEqProofs only[go_sem,Nat.reduceBEq,Nat.reduceAdd,Nat.reduceMul,Nat.reduceLeDiff,Nat.reduceEqDiff,Nat.reduceBNe,UInt8.reduceToNat,UInt32.reduceToNat]
  have:=hq s (some (b',dL,(List.replicate k [.int .i64 0,.int .i64 0,.str [],.sl false 4 0 []]).flatten++(List.replicate (dL -(0+k)) [.int .i64 0,.int .i64 0,.str [],.sl false 4 0 []]).flatten)) (Sub.refl s)
   ⟨hb',by omega,by simp,by
     have e:(flat ([]:List aa)).length=0:=rfl
     rw[List.length_append,e,List.length_append]
     simp[show aR.w aa=4 from rfl]
     omega,by
     have hz:∀m,views (List.replicate m [AV.int .i64 0,.int .i64 0,.str [],.sl false 4 0 []]).flatten=(List.replicate m [AV.int .i64 0,.int .i64 0,.str [],.sl false 4 0 []]).flatten:=fun m=>by
      rw[show([.int .i64 0,.int .i64 0,.str [],.sl false 4 0 []]:List AV)=aR.cells (⟨0,0,⟨[]⟩,[]⟩:aa) from rfl,<-mF]
      exact bX _
     unfold views at hz⊢
     rw[List.map_append,hz,hz]⟩
  simp only[Nat.zero_add]at this
  exact⟨⟨Int.le_refl _,Int.le_refl _,by omega⟩,this⟩
 ·have hk:k=0:=by
   have:¬(0<k):=by simpa using hk
   omega
  have:=hq s none (Sub.refl s) rfl
  first|exact this|trace_state
def Ta(ls:List VL)(q:Int×Int):Option ((Int×Int)⊕Int):=bif decide (q.2<ls.length)then some (.inl (q.1+(ix ls q.2).length,q.2+1))else some (.inr q.1)
theorem Tb(ls:List VL)(hl:ls.length<4611686018427387904):iter (Ta ls) (0,0)=some (ls.flatten.length:Int):=by
 refine I6 ls.length (fun k=>((ls.take k).flatten.length:Int)) (by simp) hl (fun k hk=>?_) ?_
 ·unfold Ta
  have h1:decide ((k:Int)<ls.length)=true:=by simpa using hk
  have h2:ix ls (k:Int)=ls[k]:=by unfold ix;simp[hk]
  have h3:ao ((k:Int)+1)=(k:Int)+1:=au (by omega) (by omega)
  show(bif decide ((k:Int)<ls.length)then _ else _)=_
  rw[h1,cond_true,h2,h3,List.take_succ_eq_append_getElem hk,List.flatten_append,List.length_append]
  simp
 ·unfold Ta
  have h1:decide ((ls.length:Int)<ls.length)=false:=by simp
  show(bif decide ((ls.length:Int)<ls.length)then _ else _)=_
  rw[h1,cond_false,List.take_length]
def Rs(ls:List VL)(q:List aa×Int):Option ((List aa×Int)⊕List aa):=bif decide (q.2<ls.length)then some (.inl (q.1++ix ls q.2,q.2+1))else some (.inr q.1)
theorem Rt(ls:List VL)(hl:ls.length<4611686018427387904):iter (Rs ls) ([],0)=some ls.flatten:=by
 refine I6 ls.length (fun k=>(ls.take k).flatten) (by simp) hl (fun k hk=>?_) ?_
 ·unfold Rs
  have h1:decide ((k:Int)<ls.length)=true:=by simpa using hk
  have h2:ix ls (k:Int)=ls[k]:=by unfold ix;simp[hk]
  have h3:ao ((k:Int)+1)=(k:Int)+1:=au (by omega) (by omega)
  show(bif decide ((k:Int)<ls.length)then _ else _)=_
  rw[h1,cond_true,h2,h3,List.take_succ_eq_append_getElem hk,List.flatten_append]
  simp
 ·unfold Rs
  have h1:decide ((ls.length:Int)<ls.length)=false:=by simp
  show(bif decide ((ls.length:Int)<ls.length)then _ else _)=_
  rw[h1,cond_false,List.take_length]
theorem xy(ls:List VL)(k:Nat):(ls.take k).flatten.length<=ls.flatten.length:=by
 conv=>rhs;rw[<-List.take_append_drop k ls]
 rw[List.flatten_append,List.length_append];omega
theorem MR{s:ab}{rb cap:Nat}{sp:List AV}{ls:List VL}{Q:List AV->ab->Prop}(hs:s rb=none)(gQ:∀c∈ls,0<c.length)(hr:ls.flatten.length*56<=room)(hl:ls.length<2^40)
 (hq:∀s' r',Sub (s.set rb (.cells (flat ls++sp))) s'->fH s' r' ls.flatten->Q [ga r' ls.flatten.length] (fc s' r' ls.flatten)):FN prog 226 [.arr rb 0 ls.length cap] (s.set rb (.cells (flat ls++sp))) Q:=by
 have bz:room=140737488355328:=rfl
 refine FO EV rfl rfl ?_
 rw[x7]
 simp -implicitDefEqProofs only[go_sem,seval]
 generalize hcs:flat ls++sp=cs at*
 refine jX (kf:=fun _=>True) (fun(q:Int×Int) τ=>∃k:Nat,k<=ls.length/\q=(((ls.take k).flatten.length:Int),(k:Int))/\τ=(⟨[(0,.arr rb 0 ls.length cap),(3,.int .i64 (ls.take k).flatten.length),(9,.arr rb 0 ls.length cap),(10,.int .i64 ls.length),(11,.int .i64 k)],[],s.set rb (.cells cs)⟩:St)) ⟨0,Nat.zero_le _,rfl,rfl⟩ ?_ ⟨_,Tb ls (by omega),trivial⟩
 rintro J q τ ⟨k,hk,rfl,rfl⟩ hb
 unfold Ta at hb
 by_cases h:k<ls.length
 ·have h1:decide ((k:Int)<ls.length)=true:=by simpa using h
  have h2:ix ls (k:Int)=ls[k]:=by unfold ix;simp[h]
  obtain⟨r1,r2⟩:=na ls sp (j:=(k:Int)) (by omega) (by omega)
  rw[hcs,h2,Int.toNat_natCast]at r2
  rw[hcs,Int.toNat_natCast]at r1
  have d1:=decide_eq_true r1
  have le:=xy ls (k+1)
  rw[List.take_succ_eq_append_getElem h,List.flatten_append,List.length_append,List.flatten_cons,List.flatten_nil,List.append_nil]at le
  have w1:ao (((ls.take k).flatten.length:Int)+(ls[k].length:Int))=((ls.take k).flatten.length:Int)+(ls[k].length:Int):=au (by omega) (by omega)
  have w2:ao ((k:Int)+1)=(k:Int)+1:=au (by omega) (by omega)
  have h0:decide (((ls.take k).flatten.length:Int)+(ls[k].length:Int)<0)=false:=decide_eq_false (by omega)
  simp only[h1,cond_true,h2,aP,iY]at hb
  simp -implicitDefEqProofs only[go_sem,seval,h1,r2,d1,w1,w2,h0,Bool.true_eq_false,Bool.false_eq_true,false_implies,true_implies,true_and,and_true]
  have fin:=hb _ ⟨k+1,h,by rw[List.take_succ_eq_append_getElem h,List.flatten_append,List.length_append];simp,rfl⟩
  rw[List.take_succ_eq_append_getElem h,List.flatten_append,List.length_append,List.flatten_cons,List.flatten_nil,List.append_nil]at fin
  have e1:(((ls.take k).flatten.length+ls[k].length:Nat):Int)=((ls.take k).flatten.length:Int)+(ls[k].length:Int):=by omega
  have e2:((k+1:Nat):Int)=(k:Int)+1:=by omega
  rw[e1,e2]at fin
  first|exact fin|(refine⟨?_,?_,fin⟩<;>omega)|(refine⟨?_,fin⟩;omega)|(refine⟨⟨?_,?_⟩,?_,fin⟩<;>omega)|trace_state
 ·have h1:decide ((k:Int)<ls.length)=false:=by simpa using h
  obtain rfl:k=ls.length:=by omega
  clear hb
  rw[List.take_length]
  simp -implicitDefEqProofs only[go_sem,seval,h1,Bool.true_eq_false,Bool.false_eq_true,false_implies,true_implies,true_and,and_true]
  refine LR hr fun s1 r1 hs1 h1'=>?_
  simp -implicitDefEqProofs only[go_sem,seval]
  have hq2:(s.set rb (.cells cs)) rb=some (.cells cs):=gY
  refine jX (kf:=fun _=>True) (fun(q:List aa×Int) τ=>∃(k:Nat)(s':ab)(r':cm),k<=ls.length/\q=((ls.take k).flatten,(k:Int))/\Sub (s.set rb (.cells cs)) s'/\fH s' r' (ls.take k).flatten/\τ=(⟨[(6,ga r' (ls.take k).flatten.length),(25,.arr rb 0 ls.length cap),(26,.int .i64 ls.length),(27,.int .i64 k)],[],fc s' r' (ls.take k).flatten⟩:St)) ⟨0,s1,r1,Nat.zero_le _,rfl,hs1,h1',rfl⟩ ?_ ⟨_,Rt ls (by omega),trivial⟩
  ·rintro J q τ ⟨k,s',r',hk,rfl,hs',h',rfl⟩ hb
   unfold Rs at hb
   by_cases h:k<ls.length
   ·have h1:decide ((k:Int)<ls.length)=true:=by simpa using h
    have h2:ix ls (k:Int)=ls[k]:=by unfold ix;simp[h]
    obtain⟨r1,r2⟩:=na ls sp (j:=(k:Int)) (by omega) (by omega)
    rw[hcs,h2,Int.toNat_natCast]at r2
    rw[hcs,Int.toNat_natCast]at r1
    have d1:=decide_eq_true r1
    have hrb:fc s' r' (ls.take k).flatten rb=some (.cells cs):=gX h' (hs' _ _ hq2)
    have w2:ao ((k:Int)+1)=(k:Int)+1:=au (by omega) (by omega)
    have le:=xy ls (k+1)
    have ek:ls.take (k+1)=ls.take k++[ls[k]]:=List.take_succ_eq_append_getElem h
    have ef:(ls.take (k+1)).flatten=(ls.take k).flatten++ls[k]:=by rw[ek,List.flatten_append];simp
    rw[ef,List.length_append]at le
    simp only[h1,cond_true,h2,aP,iY]at hb
    generalize cj:fc s' r' (ls.take k).flatten=st at hrb⊢
    simp -implicitDefEqProofs only[go_sem,seval,h1,hrb,r2,d1,w2,Bool.true_eq_false,Bool.false_eq_true,false_implies,true_implies,true_and,and_true]
    first
     |refine⟨⟨by omega,by omega⟩,r1,?_⟩
     |refine⟨by omega,?_⟩
     |skip
    rw[kQ,bX]
    refine HW (by':=56) (s:=s') (r:=r') (l:=(ls.take k).flatten) (x:=ls[k]) (z:=(⟨0,0,⟨[]⟩,[]⟩:aa)) (by exact cj.symm) h' rfl (gQ _ (List.getElem_mem h)) (by omega) fun s2 r2' hs2 h2'=>?_
    simp -implicitDefEqProofs only[go_sem,seval,w2]
    have fin:=hb _ ⟨k+1,s2,r2',h,by rw[ef];rfl,(fun b o hb=>hs2 b o (hs' b o hb)),by rw[ef];exact h2',rfl⟩
    rw[ef,List.length_append]at fin
    have e2:((k+1:Nat):Int)=(k:Int)+1:=by omega
    rw[e2]at fin
    exact fin
   ·have h1:decide ((k:Int)<ls.length)=false:=by simpa using h
    obtain rfl:k=ls.length:=by omega
    clear hb
    rw[List.take_length]at h'⊢
    simp -implicitDefEqProofs only[go_sem,seval,h1,Bool.true_eq_false,Bool.false_eq_true,false_implies,true_implies,true_and,and_true]
    first|exact hq s' r' hs' h'|trace_state
end Go.AB
end
