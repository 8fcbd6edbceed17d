/- A part of the proof: Rg3, Rkr, Rg4, Se, Sb. -/
import Derived.Test.YtkeagffgdajggaaGreatNu13
import Derived.Test.YtkeagffgdajggaaGreatNu16
import Derived.Test.YtkeagffgdajggaaGreatNu11
set_option linter.unusedSimpArgs false
set_option linter.unusedVariables false
section
set_option maxRecDepth 4000
namespace Go.AB
open Go
open Go.Proofs.Tryz (prog)
def KD:IC:=
 (af [mv 10 1,bn 11 .add 10 1,mv 8 11] [0,1,2,3,8]
 (.block 0 (.loop [(0,false),(1,false),(2,false),(3,false),(8,false)] (.seq (af [mv 12 8,mv 13 2,bt 14 .lss 12 13] [0,1,2,3,8,14]
 (.cond (.t 14) .skip
 (.exit 0)))
 (.seq (.block 1 (af [mv 17 8,mv 9 17] [0,1,2,3,8,9]
 (.block 2 (.loop [(0,false),(1,false),(2,false),(3,false),(8,false),(9,false)] (.seq (.seq (.bN (some 17) [mv 18 9,mv 19 1,bt 20 .gtr 18 19,mv 21 20,dh 22 3 21 true,dh 23 0 21 true,dh 24 9 21 true,dq 25 21 true (.indexAddr [.int .i64 0,.int .i64 0] (.t 23) (.t 24)),dq 26 21 true (.load 2 true (.t 25)),dh 27 0 21 true,dh 28 9 21 true,kS 29 21 true .sub 28 1,dq 30 21 true (.indexAddr [.int .i64 0,.int .i64 0] (.t 27) (.t 29)),dq 31 21 true (.load 2 true (.t 30)),dq 32 21 true (.cu (.t 22) [(.t 26),(.t 31)]),kS 33 21 true .lss 32 0,pf 34 21 33] [0,1,2,3,8,9,34])
 (.cond (.t 34) .skip
 (.exit 2)))
 (.seq (.block 3 (.HM [] [(0,0,mv 37 0),(0,1,mv 38 9),(1,2,mv 39 0),(1,3,mv 40 9),(1,4,bn 41 .sub 40 1),(0,5,mv 42 0),(0,6,mv 43 9),(0,7,bn 44 .sub 43 1),(0,8,ia 45 [.int .i64 0,.int .i64 0] 42 44),(0,9,lm 46 2 45),(0,10,mv 47 0),(0,11,mv 48 9),(0,12,ia 49 [.int .i64 0,.int .i64 0] 47 48),(0,13,lm 50 2 49),(0,14,ia 51 [.int .i64 0,.int .i64 0] 37 38),(2,15,st 2 51 46),(0,16,ia 52 [.int .i64 0,.int .i64 0] 39 41),(2,17,st 2 52 50)] [0,1,2,3,8,9]))
 (.bN none [mv 35 9,bn 36 .sub 35 1,mv 9 36] [0,1,2,3,8,9])))))))
 (.bN none [mv 15 8,bn 16 .add 15 1,mv 8 16] [0,1,2,3,8]))))))
theorem Ud:aE prog 278 53 [] KD=true:=by kernel_rfl
def KE:IC:=
 (af [c6 10 (.bool true)] [0,1,2,3,4,10]
 (af [c6 11 (.bool true)] [0,1,2,3,4,10,11]
 (.block 0 (.loop [(0,false),(1,false),(2,false),(3,false),(4,false),(10,false),(11,false)] (.block 1 (af [mv 21 2,mv 22 1,bt 23 .sub 21 22,mv 12 23] [0,1,2,3,4,10,11,12]
 (.seq (af [mv 24 12,bn 25 .leq 24 12] [0,1,2,3,4,10,11,12,25]
 (.cond (.t 25) (af [mv 26 0,mv 27 1,mv 28 2,mv 29 4,UG 30 278 26 27 28 29] []
 .ret)
 .skip))
 (.seq (af [mv 31 3,bn 32 .eql 31 0] [0,1,2,3,4,10,11,12,32]
 (.cond (.t 32) (af [mv 33 0,mv 34 1,mv 35 2,mv 36 4,UG 37 279 33 34 35 36] []
 .ret)
 .skip))
 (.seq (af [mv 38 10,no 39 38] [0,1,2,3,4,10,11,12,39]
 (.cond (.t 39) (af [mv 40 0,mv 41 1,mv 42 2,mv 43 4,UG 44 280 40 41 42 43] [0,1,2,3,4,10,11,12]
 (.bN none [mv 45 3,bn 46 .sub 45 1,mv 3 46] [0,1,2,3,4,10,11,12]))
 .skip))
 (af [mv 48 0,mv 49 1,mv 50 2,mv 51 4,UG 52 281 48 49 50 51,mv 47 52,ex 53 47 0,ex 54 47 1,mv 13 53,mv 14 54] [0,1,2,3,4,10,11,12,13,14]
 (.seq (af [mv 55 14,bn 56 .eql 55 2] [0,1,2,3,4,10,11,12,13,14,56]
 (.cond (.t 56) (af [mv 57 0,mv 58 1,mv 59 2,mv 60 4,UG 61 282 57 58 59 60] [0,1,2,3,4,10,11,12,13]
 (af [mv 62 2,bn 63 .sub 62 1,mv 64 13,mv 65 1,bt 66 .sub 64 65,bt 67 .sub 63 66,mv 13 67] [0,1,2,3,4,10,11,12,13]
 (.bN none [mi 14 1] [0,1,2,3,4,10,11,12,13,14])))
 .skip))
 (.seq (af [mv 68 10,mv 69 68,dh 70 11 69 true,pf 71 69 70,mv 72 71,dh 73 14 72 true,kS 74 72 true .eql 73 1,pf 75 72 74] [0,1,2,3,4,10,11,12,13,75]
 (.cond (.t 75) (af [mv 76 0,mv 77 1,mv 78 2,mv 79 4,UG 80 283 76 77 78 79] [0,1,2,3,4,10,11,12,13,80]
 (.cond (.t 80) .ret
 .skip))
 .skip))
 (.seq (.seq (.bN (some 17) [mv 81 1,bn 82 .gtr 81 0,mv 83 82,dh 84 4 83 true,dh 85 0 83 true,dh 86 1 83 true,kS 87 83 true .sub 86 1,dq 88 83 true (.indexAddr [.int .i64 0,.int .i64 0] (.t 85) (.t 87)),dq 89 83 true (.load 2 true (.t 88)),dh 90 0 83 true,dh 91 13 83 true,dq 92 83 true (.indexAddr [.int .i64 0,.int .i64 0] (.t 90) (.t 91)),dq 93 83 true (.load 2 true (.t 92)),dq 94 83 true (.cu (.t 84) [(.t 89),(.t 93)]),kS 95 83 true .lss 94 0,dq 96 83 true (.un .not (.t 95)),pf 97 83 96] [0,1,2,3,4,10,11,12,13,97])
 (.cond (.t 97) (af [mv 98 0,mv 99 1,mv 100 2,mv 101 13,mv 102 4,i1 103 (.call 284 [(.t 98),(.t 99),(.t 100),(.t 101),(.t 102)]),mv 15 103] [0,2,3,4,10,11,15]
 (af [mv 104 15,mv 1 104] [0,1,2,3,4,10,11]
 (.exit 1)))
 .skip))
 (af [mv 106 0,mv 107 1,mv 108 2,mv 109 13,mv 110 4,i1 111 (.call 285 [(.t 106),(.t 107),(.t 108),(.t 109),(.t 110)]),mv 105 111,ex 112 105 0,ex 113 105 1,mv 16 112,mv 17 113] [0,1,2,3,4,12,16,17]
 (af [mv 114 17,mv 11 114] [0,1,2,3,4,11,12,16]
 (af [mv 115 16,mv 116 1,bt 117 .sub 115 116,mv 118 2,mv 119 16,bt 120 .sub 118 119,mv 18 117,mv 19 120] [0,1,2,3,4,11,12,16,18,19]
 (af [mv 121 12,bn 122 .quo 121 8,mv 20 122] [0,1,2,3,4,11,16,18,19,20]
 (af [mv 123 18,mv 124 19,bt 125 .lss 123 124] [0,1,2,3,4,11,16,18,19,20,125]
 (.cond (.t 125) (af [mv 126 18,mv 127 20,bt 128 .geq 126 127,mv 10 128] [0,1,2,3,4,10,11,16]
 (af [mv 129 0,mv 130 1,mv 131 16,mv 132 3,mv 133 4,i1 134 (.call 250 [(.t 129),(.t 130),(.t 131),(.t 132),(.t 133)])] [0,2,3,4,10,11,16]
 (.bN none [mv 135 16,bn 136 .add 135 1,mv 1 136] [0,1,2,3,4,10,11])))
 (af [mv 137 19,mv 138 20,bt 139 .geq 137 138,mv 10 139] [0,1,2,3,4,10,11,16]
 (af [mv 140 0,mv 141 16,bn 142 .add 141 1,mv 143 2,mv 144 3,mv 145 4,i1 146 (.call 250 [(.t 140),(.t 142),(.t 143),(.t 144),(.t 145)])] [0,1,3,4,10,11,16]
 (.bN none [mv 147 16,mv 2 147] [0,1,2,3,4,10,11]))))))))))))))))))))))
theorem Ue:aE prog 250 148 [] KE=true:=by kernel_rfl
def F9:IC:=
 (af [mv 5 0,le 6 0 5,mv 4 6] [0,1,4]
 (.bN none [mv 7 0,mv 8 4,mv 9 4,i1 10 (.jI .u64 (.t 9)),c1 11 251 10,mv 12 1,i1 13 (.call 250 [(.t 7),(.c (.int .i64 0)),(.t 8),(.t 11),(.t 12)])] []))
theorem Rj:aE prog 212 14 [] F9=true:=by kernel_rfl
theorem Vm{s:ab}{Q:List AV->ab->Prop}(hq:Q [.int .i64 0] s):FN prog 251 [.int .u64 0] s Q:=by
 intro G w vs hg ho hst ha
 have hvs:vs= #[.int .u64 0]:=by
  obtain⟨h1,h2⟩:=ha
  have h1':vs.size=1:=h1
  apply Array.ext (by simpa using h1')
  intro i hi1 hi2
  have hi:i<1:=by omega
  match i,hi with
  |0,_=>exact VR.ct (h2 0 _ _ rfl (Array.getElem?_eq_getElem (by omega)))
 subst hvs
 have h:=Go.Proofs.Any.bits_Len (Go.Proofs.SlLaysF0.n15.bits (P:=prog) (ρ:=Go.Proofs.Tryz.Dz) {Go.Proofs.Tryz.Ts with}) 0 w (by omega) (by omega)
 refine h.mono ?_
 rintro e w' ⟨rfl,rfl⟩
 exact⟨_,[.int .i64 0],s,G,rfl,hq,hg,hst,⟨.int _ _,trivial⟩,ax.refl G w'⟩
theorem Rb{b off:Nat}{s:ab}{Q:List AV->ab->Prop}(hq:Q [] s):FN prog 278 [.arr b off 0 0,.int .i64 0,.int .i64 0,.fn 213 [] []] s Q:=by
 refine FO Ud rfl rfl ?_
 rw[KD]
 simp -implicitDefEqProofs only[go_sem,seval]
 refine⟨fun U=>U=_,fun _=>0,rfl,?_⟩
 rintro U rfl
 simp -implicitDefEqProofs only[go_sem,seval,show bj (0+1)=1 from by decide]
 refine⟨fun h=>absurd (of_decide_eq_true h) (by decide),fun _=>?_⟩
 first|exact hq|(simp -implicitDefEqProofs only[go_sem,seval];exact hq)
theorem RQ{b off:Nat}{r:Int}{s:ab}{Q:List AV->ab->Prop}(hq:Q [] s):FN prog 250 [.arr b off 0 0,.int .i64 0,.int .i64 0,.int .i64 r,.fn 213 [] []] s Q:=by
 refine FO Ue rfl rfl ?_
 rw[KE]
 simp -implicitDefEqProofs only[go_sem,seval]
 refine⟨fun U=>U=_,fun _=>0,rfl,?_⟩
 rintro U rfl
 simp -implicitDefEqProofs only[go_sem,seval,show bj (0 -0)=0 from by decide]
 refine⟨fun _=>Rb ?_,fun h=>absurd (of_decide_eq_false h) (by decide)⟩
 simp -implicitDefEqProofs only[go_sem,seval]
 exact hq
theorem Qb{b off:Nat}{s:ab}{Q:List AV->ab->Prop}(hq:Q [] s):FN prog 212 [.arr b off 0 0,.fn 213 [] []] s Q:=by
 refine FO Rj rfl rfl ?_
 rw[F9]
 simp -implicitDefEqProofs only[go_sem,seval]
 refine Vm ?_
 simp -implicitDefEqProofs only[go_sem,seval]
 refine RQ ?_
 simp -implicitDefEqProofs only[go_sem,seval]
 exact hq
end Go.AB
end
section
namespace Go.AB
open Go
theorem R3(O:List aj)(y:aj)(sp:List AV)(v:Int):setAt (flat (O++[y])++sp) (O.length*2+1) [AV.int .i64 v]=flat (O++[⟨y.bW,v⟩])++sp:=by
 have e:flat (O++[⟨y.bW,v⟩])++sp=setAt (flat (O++[y])++sp) (O.length*2) (flat [(⟨y.bW,v⟩:aj)]):=by
  have:=gz (O++[y]) [⟨y.bW,v⟩] sp 2 O.length rfl (by simp)
  rw[this]
  simp
 rw[e]
 have hl:O.length*2+2<=(flat (O++[y])++sp).length:=by
  rw[List.length_append,al]
  show O.length*2+2<=(O++[y]).length*2+_
  simp;omega
 apply List.ext_getElem?
 intro j
 rw[oY _ _ _ _ (by show O.length*2+1+1<=_;omega),oY _ _ _ _ (by show O.length*2+2<=_;exact hl)]
 show(if O.length*2+1<=j/\j<O.length*2+1+1 then _ else _)=if O.length*2<=j/\j<O.length*2+2 then _ else _
 by_cases h1:j=O.length*2+1
 ·subst h1
  rw[if_pos (by omega),if_pos (by omega),Nat.sub_self,show O.length*2+1 -O.length*2=1 by omega];rfl
 ·rw[if_neg (by omega)]
  by_cases h2:j=O.length*2
  ·subst h2
   rw[if_pos (by omega),Nat.sub_self]
   have:=sC (O++[y]) sp (i:=O.length) (by simp) (r:=0) (by decide)
   rw[Nat.add_zero]at this
   have e2:(O++[y])[O.length]'(by simp)=y:=by simp
   rw[e2]at this
   exact this
  ·rw[if_neg (by omega)]
theorem Ul(O:List aj)(y:aj)(sp:List AV):(flat (O++[y])++sp)[O.length*2+1]? =some (.int .i64 y.To):=by
 have:=sC (O++[y]) sp (i:=O.length) (by simp) (r:=1) (by decide)
 have e:(O++[y])[O.length]'(by simp)=y:=by simp
 rw[e]at this
 exact this
theorem WK(O:List aj)(y:aj)(sp:List AV):O.length*2+1+1<=(flat (O++[y])++sp).length:=by
 rw[List.length_append,al]
 show O.length*2+2<=(O++[y]).length*2+_
 simp;omega
end Go.AB
end
section
set_option maxRecDepth 4000
namespace Go.AB
open Go
open Go.Proofs.Tryz (prog)
def sK:IC:=(af [c6 6 (.arr 0 0 0 0)] [1,5,6]
 (.seq (af [mv 17 5,
 le 18 0 17,
 mi 19 0] [1,6,17,18,19]
 (.block 0 (.loop [(1,false),(6,false),(17,false),(18,false),(19,false)] (af [bt 20 .lss 19 18] [1,6,17,18,19,20]
 (.seq (.cond (.t 20) .skip
 (.exit 0))
 (.seq (.block 1 (af [ia 21 [.int .i64 0,.int .i64 0] 17 19,
 i1 22 (.bf [.int .i64 0,.int .i64 0] true (.t 21)),
 i1 8 (.aq [.int .i64 0,.int .i64 0]),
 st 2 8 22] [1,6,8,17,18,19]
 (.seq (af [mv 23 6,
 le 24 0 23,
 mv 9 24] [1,6,8,9,17,18,19]
 (.seq (.bN (some 15) [mv 25 9,
 bn 26 .gtr 25 0,
 mv 27 26,
 fg 28 27 true 0 8,
 lg 29 27 true 1 28,
 dh 30 6 27 true,
 dh 31 9 27 true,
 kS 32 27 true .sub 31 1,
 dq 33 27 true (.indexAddr [.int .i64 0,.int .i64 0] (.t 30) (.t 32)),
 fg 34 27 true 1 33,
 dq 35 27 true (.mh .i64 (.t 34)),
 sY 36 27 true .sub 29 35,
 dh 37 1 27 true,
 sY 38 27 true .leq 36 37,
 pf 39 27 38] [1,6,8,9,17,18,19,39])
 (.cond (.t 39) (.seq (.bN (some 14) [mv 40 6,
 mv 41 9,
 bn 42 .sub 41 1,
 mv 43 6,
 mv 44 9,
 bn 45 .sub 44 1,
 ia 46 [.int .i64 0,.int .i64 0] 43 45,
 fa 47 1 46,
 i1 48 (.mh .i64 (.t 47)),
 fa 49 1 8,
 ld 50 1 49,
 i1 51 (.fP true [(.t 48),(.t 50)]),
 ia 52 [.int .i64 0,.int .i64 0] 40 42,
 fa 53 1 52,
 st 1 53 51] [1,6,17,18,19])
 (.exit 1))
 .skip)))
 (.bN none [mv 54 6,
 lm 55 2 8,
 i1 56 (.bq 2 1 [.int .i64 0,.int .i64 0] [(0,2,(.t 55))]),
 i1 57 (.eV 2 16 [.int .i64 0,.int .i64 0] (.t 54) (.t 56)),
 mv 6 57] [1,6,17,18,19]))))
 (.bN none [bn 58 .add 19 1,
 mv 19 58] [1,6,17,18,19])))))))
 (af [mv 59 6,
 i1 4 (.T7 2 true (.t 59))] [4]
 .ret)))
def AL:IC:=
 (af [i1 4 (.jL true (.c (.sl true 2 0 [])))] [0,1]
 (af [mv 10 1,i1 11 (.fP true [(.c (.int .i64 0)),(.t 10)]),mv 1 11] [0,1]
 (af [mt 12 0,c1 13 203 12,i1 14 (.uI 211 13 [(.t 13),(.c (.fn 175 [] []))]),mv 5 14] [1,5]
 (af [mv 15 5,i1 16 (.call 212 [(.t 15),(.c (.fn 213 [] []))])] [1,5]
 sK))))
def mZ:List pa:=[⟨4,true,none⟩]
theorem Mm:aE prog 177 60 mZ AL=true:=by kernel_rfl
theorem Mx(gap:Int)(out:List aj)(x:aj):(fH gap out x).length<=out.length+1/\0<(fH gap out x).length:=by
 unfold fH
 split
 ·simp
 ·split
  ·simp
  ·simp
theorem KN(gap:Int):∀(l out:List aj),(l.foldl (fH gap) out).length<=out.length+l.length
 |[],out=>by simp
 |x::l,out=>by
  have h1:=KN gap l (fH gap out x)
  have h2:=(Mx gap out x).1
  simp only[List.foldl_cons,List.length_cons];omega
theorem KO{b off cap:Nat}{F:List aj}{s1:ab}{gap:Int}{Q:List AV->ab->Prop}(hF:0<F.length->off=0/\∃sp,s1 b=some (.cells (flat F++sp)))(hl:F.length*16<=room)
 (hq:∀s',Sub s1 s'->Q [.sl true 2 (S2 gap F).length (flat (S2 gap F))] s'):gO prog sK (R0 mZ Q) ⟨[(1,.int .i64 gap),(5,.arr b off F.length cap)],[],s1⟩:=by
 have hl':=hl
 unfold room at hl'
 rw[sK,mZ]
 simp -implicitDefEqProofs only[go_sem,seval]
 refine⟨fun U=>∃(k:Nat)(s':ab)(r:cU),U=⟨[(1,.int .i64 gap),(6,iB r ((F.take k).foldl (fH gap) []).length),(17,.arr b off F.length cap),(18,.int .i64 (F.length:Nat)),(19,.int .i64 (k:Nat))],[],gp s' r ((F.take k).foldl (fH gap) [])⟩/\k<=F.length/\Sub s1 s'/\gB s' r ((F.take k).foldl (fH gap) []),
  fun U=>match look U.e 19 with|.int _ j=>F.length -j.toNat|_=>0,⟨0,s1,none,rfl,Nat.zero_le _,Sub.refl _,rfl⟩,?_⟩
 rintro U ⟨k,s',r,rfl,hk,hs,hok⟩
 have hol:=KN gap (F.take k) []
 rw[List.length_take]at hol
 simp only[List.length_nil]at hol
 generalize hO:(F.take k).foldl (fH gap) []=O at hok hol
 simp -implicitDefEqProofs only[go_sem,seval]
 refine⟨fun hkl=>?_,fun hkl=>?_⟩
 ·have hkl:k<F.length:=by have:=of_decide_eq_true hkl;omega
  obtain⟨rfl,sp,hb⟩:=hF (by omega)
  have hb':=jm hok (hs b _ hb)
  have hx:views (AB.sub (flat F++sp) (k*2) 2)=[.int .i64 (F[k]).bW,.int .i64 (F[k]).To]:=by
   have:=gA F sp 2 k 1 rfl (by omega)
   rw[Nat.one_mul]at this
   rw[this,List.drop_eq_getElem_cons hkl];rfl
  have dL:decide (k*2+2<=(flat F).length+sp.length)=true:=decide_eq_true (by rw[al];show k*2+2<=F.length*2+_;omega)
  simp -implicitDefEqProofs only[go_sem,seval,hb',hx,dL]
  have hw1:bj ((k:Int)+1)=((k+1:Nat):Int):=by rw[aI (by omega) (by omega)];omega
  have jb:(F.take (k+1)).foldl (fH gap) []=fH gap O F[k]:=by rw[List.take_succ_eq_append_getElem hkl,List.foldl_append,hO];rfl
  refine⟨⟨by omega,by omega⟩,of_decide_eq_true dL,?_⟩
  have I1:min k F.length=k:=by omega
  rw[I1]at hol
  have cJ:(O.length+1)*16<=room:=by unfold room;omega
  rcases List.eq_nil_or_concat O with rfl|⟨O,y,rfl⟩
  ·have e0:decide ((([]:List aj).length:Int)>0)=false:=by decide
   have hj:fH gap [] F[k]=[]++[F[k]]:=rfl
   rw[e0]
   refine⟨fun h=>(by cases h),fun h=>(by cases h),fun h=>(by cases h),fun _=>?_⟩
   rw[gb]
   refine wQ (z:=aj.mk 0 0) (v:=F[k]) rfl hok rfl cJ fun s2 r' h1 h2=>?_
   simp -implicitDefEqProofs only[go_sem,seval,hw1]
   refine⟨⟨k+1,s2,r',?_,hkl,fun b o hb=>h1 b o (hs b o hb),?_⟩,by omega⟩
   ·rw[jb,hj];rfl
   ·rw[jb,hj];exact h2
  ·rw[List.concat_eq_append]at hok hol hO jb cJ⊢
   rw[Jx]at jb
   have abo:(O++[y]).length=O.length+1:=by simp
   have hw:bj (((O++[y]).length:Int) -1)=(O.length:Int):=by rw[abo,aI (by omega) (by omega)];omega
   have e0:decide (((O++[y]).length:Int)>0)=true:=decide_eq_true (by omega)
   obtain⟨b2,sv,sp2,rfl⟩:=Nf hok (by simp)
   have kg:gp s' (some (b2,sv,sp2)) (O++[y]) b2=some (.cells (flat (O++[y])++sp2)):=bP
   have dy:=Ul O y sp2
   have hcc:GW .i64 (O.length*2+1) (some (.cells (flat (O++[y])++sp2))):=⟨_,dy⟩
   have hvv:GX (O.length*2+1) (some (.cells (flat (O++[y])++sp2)))=y.To:=by
    show intOf _=_
    rw[dy];rfl
   rw[hw,e0,Int.toNat_natCast,show P6 (some (b2,sv,sp2))=b2 from rfl,kg,hvv,Bool.true_and]
   refine⟨fun _=>⟨by omega,by omega⟩,fun _=>hcc,fun he=>⟨⟨by omega,by omega⟩,hcc,⟨by omega,by omega⟩,?_⟩,fun he=>?_⟩
   ·have he:=of_decide_eq_true he
    rw[if_pos he]at jb
    have SR:(O++[(⟨y.bW,max y.To (F[k]).To⟩:aj)]).length=O.length+1:=by simp
    show Qv none _ (wrS _ b2 (eb (O.length*2+1) [AV.int .i64 (max y.To (F[k]).To)] (flat (O++[y])++sp2)))
    unfold eb
    rw[decide_eq_true (show O.length*2+1+[AV.int .i64 (max y.To (F[k]).To)].length<=_ from WK O y sp2),R3]
    generalize hX:flat (O++[(⟨y.bW,max y.To (F[k]).To⟩:aj)])++sp2=X
    simp -implicitDefEqProofs only[go_sem,seval,hw1]
    have e:(gp s' (some (b2,sv,sp2)) (O++[y])).set b2 (.cells X)=gp s' (some (b2,sv,sp2)) (O++[(⟨y.bW,max y.To (F[k]).To⟩:aj)]):=by rw[<-hX];exact set_set ..
    refine⟨⟨k+1,s',some (b2,sv,sp2),?_,hkl,hs,?_⟩,by omega⟩
    ·rw[jb,e,SR];rfl
    ·rw[jb];exact Tm hok (by rw[SR,abo])
   ·have he:=of_decide_eq_false he
    rw[if_neg he]at jb
    rw[gb]
    refine wQ (z:=aj.mk 0 0) (v:=F[k]) rfl hok rfl cJ fun s2 r' h1 h2=>?_
    simp -implicitDefEqProofs only[go_sem,seval,hw1]
    have SR:(O++[y]++[F[k]]).length=O.length+1+1:=by simp
    refine⟨⟨k+1,s2,r',?_,hkl,fun b o hb=>h1 b o (hs b o hb),?_⟩,by omega⟩
    ·rw[jb,SR]
    ·rw[jb];exact h2
 ·have hkl:k=F.length:=by have:=of_decide_eq_false hkl;omega
  subst hkl
  rw[List.take_length]at hO
  have hO':S2 gap F=O:=hO
  rw[hO']at hq
  refine An (s:=s') (r:=r) (l:=O) rfl hok rfl ?_
  simp -implicitDefEqProofs only[go_sem,seval]
  exact hq s' hs
def leB(x y:aj):Bool:=decide (x.bW<y.bW\/(x.bW=y.bW/\x.To<=y.To))
def srt(l:List aj):List aj:=l.mergeSort leB
theorem aax(l:List aj):Asc (srt l):=by
 have h:=List.pairwise_mergeSort (le:=leB) (fun a b c h1 h2=>by unfold leB at*;simp at*;omega) (fun a b=>by unfold leB;simp;omega) l
 exact h.imp fun{a b} h=>by unfold leB at h;unfold leS;simpa using h
theorem Fo:∀{l m:List aj},l.Perm m->Asc l->Asc m->l=m
 |[],m,hp,_,_=>(List.nil_perm.1 hp).symm
 |x::l,[],hp,_,_=>by have:=hp.length_eq;simp at this
 |x::l,y::m,hp,hl,hm=>by
  have hxm:x∈y::m:=hp.mem_iff.1 List.mem_cons_self
  have hyl:y∈x::l:=hp.mem_iff.2 List.mem_cons_self
  have e:x=y:=by
   rcases List.mem_cons.1 hxm with h|h
   ·exact h
   ·rcases List.mem_cons.1 hyl with h'|h'
    ·exact h'.symm
    ·have h1:=(List.pairwise_cons.1 hm).1 x h
     have h2:=(List.pairwise_cons.1 hl).1 y h'
     obtain⟨a,b⟩:=x;obtain⟨c,d⟩:=y
     unfold leS at h1 h2
     simp only at h1 h2
     have e1:a=c:=by omega
     have e2:b=d:=by omega
     rw[e1,e2]
  subst e
  rw[Fo (List.Perm.cons_inv hp) (List.pairwise_cons.1 hl).2 (List.pairwise_cons.1 hm).2]
def CL(l:List aj)(gap:Int):Option (List aj):=aG (l.length*16<=room) (some (S2 (max 0 gap) (srt (full l))))
theorem Nn{l:List aj}{gap:Int}{s:ab}{Q:List AV->ab->Prop}(h:ok (CL l gap) fun r=>Q [.sl true 2 r.length (flat r)] s):FN prog 177 [.sl false 2 l.length (flat l),.int .i64 gap] s Q:=by
 unfold CL at h
 rw[dB,aA]at h
 obtain⟨hr,hq⟩:=h
 have alZ:(full l).length<=l.length:=List.length_filter_le _ _
 have hsl:(srt (full l)).length=(full l).length:=List.length_mergeSort _
 refine FN.lr ?_
 refine FO Mm rfl rfl ?_
 rw[AL,mZ]
 simp -implicitDefEqProofs only[go_sem,seval]
 refine FE.app (Ob hr) ?_
 simp -implicitDefEqProofs only[go_sem,seval]
 refine⟨fun b cap sp hb h0 hn hl hf hv=>?_,fun hn b off=>?_⟩
 ·simp -implicitDefEqProofs only[go_sem,seval]
  refine QR hr bP hn hl fun sp' hl'=>?_
  simp -implicitDefEqProofs only[go_sem,seval]
  have hfc:(full l).length<=cap:=by omega
  refine Qc bP h0 (by unfold room at hr;omega) fun F hp akE=>?_
  simp -implicitDefEqProofs only[go_sem,seval]
  have hF:F=srt (full l):=Fo (hp.trans (List.mergeSort_perm _ _).symm) akE (aax _)
  have hFl:F.length=(full l).length:=by rw[hF,hsl]
  rw[<-hFl]
  refine KO (fun _=>⟨rfl,sp',?_⟩) (by omega) fun s' hs'=>?_
  ·exact bP
  ·rw[hF]
   refine⟨s,fun b' o' h'=>hs' b' o' ?_,hq⟩
   have hb:s b=none:=hb
   have hne:b'≠b:=fun e=>by rw[e,hb]at h';cases h'
   unfold ab.set
   rw[if_neg hne];exact h'
 ·have hl0:l=[]:=List.eq_nil_of_length_eq_zero hn
  subst hl0
  simp -implicitDefEqProofs only[go_sem,seval]
  refine QQ ?_
  simp -implicitDefEqProofs only[go_sem,seval]
  refine Qb ?_
  simp -implicitDefEqProofs only[go_sem,seval]
  refine KO (F:=[]) (fun h=>(by simp at h)) (by simp) fun s' hs'=>?_
  have e0:srt (full [])=[]:=List.eq_nil_of_length_eq_zero (by rw[hsl];rfl)
  rw[e0]at hq
  exact⟨s,hs',hq⟩
end Go.AB
end
section
set_option maxRecDepth 4000
namespace Go.AB
open Go
open Go.Proofs.Tryz (prog)
attribute[-go_sem] Nat.add_zero nr bV
def F7:IC:=
 (af [i1 2 (.jL true (.c (.sl true 2 0 [])))] [0]
 (.seq (af [mv 3 0,i1 4 (.Ov false (.t 3) (.c (.dK)))] [0,4]
 (.cond (.t 4) (af [i1 2 (.jL true (.c (.sl true 2 0 [])))] [2]
 .ret)
 .skip))
 (af [mv 5 0,nc 6 5,fa 7 0 6,ld 8 1 7,c1 9 203 8,mt 2 9] [2]
 .ret)))
theorem Rh:aE prog 168 10 [⟨2,true,none⟩] F7=true:=by kernel_rfl
def De:IC:=
 (af [mi 4 0] [0,1]
 (.seq (af [mv 7 0,c1 8 168 7,le 9 0 8,mi 10 0] [1,8,9,10]
 (.block 0 (.loop [(1,false),(8,false),(9,false),(10,false)] (af [bt 11 .lss 10 9] [1,8,9,10,11]
 (.seq (.cond (.t 11) .skip
 (.exit 0))
 (.seq (.block 1 (af [ia 12 [.int .i64 0,.int .i64 0] 8 10,lm 13 2 12,i1 6 (.aq [.int .i64 0,.int .i64 0]),st 2 6 13] [1,6,8,9,10]
 (af [fa 14 0 6,ld 15 1 14,mv 16 1,bt 17 .leq 15 16,mv 18 17,dh 19 1 18 true,fg 20 18 true 1 6,lg 21 18 true 1 20,sY 22 18 true .lss 19 21,pf 23 18 22] [1,6,8,9,10,23]
 (.cond (.t 23) (af [fa 24 1 6,ld 25 1 24,mv 4 25] [4]
 .ret)
 .skip))))
 (.bN none [bn 26 .add 10 1,mv 10 26] [1,8,9,10])))))))
 (af [mv 27 1,mv 4 27] [4]
 .ret)))
theorem OX:aE prog 117 28 [⟨4,true,none⟩] De=true:=by kernel_rfl
def F8:IC:=
 (af [i1 3 (.dc 2 (.t 1))] [0,3]
 (af [mv 4 0,i1 5 (.Ov true (.t 4) (.c (.dK)))] [0,3,5]
 (.cond (.t 5) (.HM [] [(1,0,mv 6 0),(1,1,mv 7 0),(1,2,nc 8 7),(1,3,fa 9 0 8),(1,5,lm 11 2 3),(1,6,i1 12 (.bq 2 1 [.int .i64 0,.int .i64 0] [(0,2,(.t 11))])),(2,4,i1 10 (.jh (.t 9))),(1,7,UF 13 2 16 10 12),(2,8,i1 14 (.call 177 [(.t 13),(.c (.int .i64 0))])),(1,9,nc 15 6),(1,10,fa 16 0 15),(3,11,st 1 16 14)] [])
 .skip)))
theorem Ri:aE prog 121 17 [] F8=true:=by kernel_rfl
def tB:IC:=
 (af [ld 4 1 1,mv 5 0,bt 6 .lss 4 5] [0,1,2,6]
 (.cond (.t 6) (.bN none [i1 7 (.jh (.t 2)),ld 8 1 1,mv 9 0,i1 10 (.build [.int .i64 0,.int .i64 0] [(0,1,(.t 8)),(1,1,(.t 9))]),i1 11 (.bq 2 1 [.int .i64 0,.int .i64 0] [(0,2,(.t 10))]),UF 12 2 16 7 11,st 1 2 12] [])
 .skip))
theorem DN:aE prog 176 13 [] tB=true:=by kernel_rfl
def uW:IC:=
 (af [i1 3 (.dc 2 (.t 1)),i1 4 (.jL true (.c (.sl true 2 0 [])))] [0,3]
 (.seq (af [lm 10 2 3,c1 11 175 10] [0,3,11]
 (.cond (.t 11) (af [i1 4 (.jL true (.c (.sl true 2 0 [])))] [4]
 .ret)
 .skip))
 (af [i1 5 (.gC [.sl true 2 0 []])] [0,3,5]
 (af [fa 12 0 3,ld 13 1 12,i1 6 (.gC jV),st 1 6 13] [0,3,5,6]
 (af [i1 14 (.kq 176 [] [(.t 6),(.t 5)]),mv 7 14] [0,3,5,6,7]
 (.seq (af [mv 15 0,c1 16 168 15,le 17 0 16,mi 18 0] [3,5,6,7,16,17,18]
 (.block 0 (.loop [(3,false),(5,false),(6,false),(7,false),(16,false),(17,false),(18,false)] (af [bt 19 .lss 18 17] [3,5,6,7,16,17,18,19]
 (.seq (.cond (.t 19) .skip
 (.exit 0))
 (.seq (.block 1 (af [ia 20 [.int .i64 0,.int .i64 0] 16 18,lm 21 2 20,i1 9 (.aq [.int .i64 0,.int .i64 0]),st 2 9 21] [3,5,6,7,9,16,17,18]
 (af [mv 22 7,fa 23 0 9,ld 24 1 23,fa 25 1 3,ld 26 1 25,i1 27 (.fP false [(.t 24),(.t 26)]),i1 28 (.cu (.t 22) [(.t 27)])] [3,5,6,7,9,16,17,18]
 (.bN none [ld 29 1 6,fa 30 1 9,ld 31 1 30,fa 32 1 3,ld 33 1 32,i1 34 (.fP false [(.t 31),(.t 33)]),i1 35 (.fP true [(.t 29),(.t 34)]),st 1 6 35] [3,5,6,7,16,17,18]))))
 (.bN none [bn 36 .add 18 1,mv 18 36] [3,5,6,7,16,17,18])))))))
 (af [mv 37 7,fa 38 1 3,ld 39 1 38,i1 40 (.cu (.t 37) [(.t 39)])] [5]
 (af [ld 41 1 5,mt 4 41] [4]
 .ret))))))))
theorem Gm:aE prog 119 42 [⟨4,false,none⟩] uW=true:=by kernel_rfl
abbrev IE(l:List aj):AV:=.sl true 2 l.length (flat l)
abbrev slw(l:List aj):AV:=.sl false 2 l.length (flat l)
def CX(s:ab)(b off:Nat)(cs:List AV)(l:List aj):Prop:=s b=some (.cells cs)/\cs[off]? =some (IE l)
theorem aev{cs:List AV}{off:Nat}{a:AV}(h:cs[off]? =some a):off+1<=cs.length/\sub cs off 1=[a]:=by
 obtain⟨h1,h2⟩:=List.getElem?_eq_some_iff.1 h
 refine⟨h1,?_⟩
 unfold sub
 rw[List.drop_eq_getElem_cons h1,h2];rfl
@[go_sem]theorem ags(s:ab)(C:AV->ab->Prop)(b off:Nat):uG s C (.ref b off)=z7 b off s C (s b):=rfl
@[go_sem]theorem YD(b off:Nat)(s:ab)(C:AV->ab->Prop)(cs:List AV):z7 b off s C (some (.cells cs))=si off cs fun cs' a=>C a (s.set b (.cells cs')):=rfl
theorem Yk{cs:List AV}{off:Nat}{l:List aj}{k:List AV->AV->Prop}(h:cs[off]? =some (IE l)):si off cs k=k (setAt cs off [slw l]) (IE l):=by unfold si;rw[h]
theorem UX{cs:List AV}{off:Nat}{l:List aj}{k:List AV->AV->Prop}(h:cs[off]? =some (IE l)):si (off+0) cs k=k (setAt cs off [slw l]) (IE l):=Yk h
theorem Qa{cs:List AV}{off:Nat}{x y:AV}(h:off<cs.length):setAt (setAt cs off [x]) off [y]=setAt cs off [y]:=by
 have hl:∀z,off<(setAt cs off [z]).length:=fun z=>by rw[mL _ _ _ (show off+[z].length<=cs.length from h)];exact h
 apply List.ext_getElem?
 intro j
 rw[xn _ _ _ (hl x),xn _ _ _ h,xn _ _ _ h]
 by_cases e:j=off<;>simp[e]
theorem adk{cs:List AV}{off:Nat}{l:List aj}(h:cs[off]? =some (IE l)):jF false (bif decide (off+0+1<=cs.length)then some (views (sub cs (off+0) 1))else none)=.dv (slw l):=by
 obtain⟨h1,h2⟩:=aev h
 show jF false (bif decide (off+1<=cs.length)then some (views (sub cs off 1))else none)=_
 rw[h2,decide_eq_true h1];rfl
theorem Oa{o:Bool}{l:List aj}{s:ab}{Q:List AV->ab->Prop}(hr:l.length*16<=room)(hq:Q [IE l] s):FN prog 203 [.sl o 2 l.length (flat l)] s Q:=by
 refine FN.HR (s2:=s) (al l) (aC l) hq (FN.mono (Ad hr) fun rs s' h=>?_)
 rcases h with⟨b,cap,sp,h1,h2,h3,h4,h5,h6,h7⟩|⟨h1,h2,h3⟩
 ·exact .inl ⟨b,cap,sp,h1,by rw[h7];exact bP,h3,h4,h5,by rw[h7,j6 h2];exact Sub.refl s⟩
 ·subst h1;exact .inr ⟨rfl,rfl,by rw[h2];exact Sub.refl s,h3⟩
def EO(l:List aj):Option (List aj):=aG (l.length*16<=room) (some l)
theorem Fe{s:ab}{b off:Nat}{cs:List AV}{l:List aj}{Q:List AV->ab->Prop}(hb:CX s b off cs l):ok (EO l) (fun r=>Q [IE r] s)->FN prog 168 [.ref b off] s Q:=by
 intro hh
 refine FN.lr (FO Rh rfl rfl ?_)
 unfold EO at hh
 revert hh
 rw[F7]
 simp -implicitDefEqProofs only[go_sem,seval,hb.1]
 rintro⟨hr,hq⟩
 refine⟨fun h=>h.elim,fun _=>?_⟩
 rw[adk hb.2]
 simp -implicitDefEqProofs only[go_sem,seval]
 refine Oa hr ?_
 simp -implicitDefEqProofs only[go_sem,seval]
 exact⟨s,Sub.refl s,hq⟩
def ace(l:List aj)(at_:Int)(k:Int):Option (Int⊕Int):=
 if decide (k<(l.length:Int))then
  aG (0<=k/\k<l.length)<|
  if(decide ((ix l k).bW<=at_))&&(decide (at_<(ix l k).To))then some (.inr (ix l k).To)else some (.inl (bj (k+1)))
 else some (.inr at_)
def uA(l:List aj)(at_:Int):Option Int:=aW (EO l) fun l=>iter (ace l at_) 0
theorem CY{s:ab}{b off:Nat}{cs:List AV}{l:List aj}{at_:Int}{Q:List AV->ab->Prop}(hb:CX s b off cs l):ok (uA l at_) (fun r=>Q [.int .i64 r] s)->FN prog 117 [.ref b off,.int .i64 at_] s Q:=by
 intro hh
 refine FN.lr (FO OX rfl rfl ?_)
 revert hh
 rw[De,uA]
 simp -implicitDefEqProofs only[go_sem,seval]
 intro hh
 refine Fe hb ?_
 refine cI hh fun l'=>?_
 simp -implicitDefEqProofs only[go_sem,seval]
 refine bF (fun k=>⟨[(1,.int .i64 at_),(8,IE l'),(9,.int .i64 (l'.length:Nat)),(10,.int .i64 k)],[],s⟩) rfl ?_
 intro J k
 rw[ace]
 simp -implicitDefEqProofs only[go_sem,seval]
 rintro⟨h1,h2⟩
 exact⟨fun hk=>⟨(h1 hk).1,fun hc=>⟨s,Sub.refl s,(h1 hk).2.1 hc⟩,(h1 hk).2.2⟩,fun hk=>⟨s,Sub.refl s,h2 hk⟩⟩
def EP(l:List aj)(x:aj):Option (List aj):=aG ((l.length+1)*16<=room)<|CL (l++[x]) 0
theorem Qz{s:ab}{b off:Nat}{cs:List AV}{l:List aj}{x:aj}{Q:List AV->ab->Prop}(hb:CX s b off cs l):ok (EP l x) (fun r=>Q [] (s.set b (.cells (setAt cs off [IE r]))))->FN prog 121 [.ref b off,.agg [.int .i64 x.bW,.int .i64 x.To]] s Q:=by
 intro hh
 refine FN.lr (FO Ri rfl rfl ?_)
 revert hh
 rw[F8,EP]
 simp -implicitDefEqProofs only[go_sem,seval,hb.1]
 rintro⟨hr,hh⟩
 refine⟨fun _=>?_,fun h=>by cases h⟩
 rw[UX hb.2]
 simp -implicitDefEqProofs only[go_sem,seval,hb.1]
 refine⟨hr,?_⟩
 have e1:(l++[x]).length=l.length+1:=by simp
 have e2:flat (l++[x])=flat l++[AV.int IntKind.i64 x.bW,AV.int IntKind.i64 x.To]:=by rw[bT];rfl
 have hj:=fun Q=>Nn (l:=l++[x]) (gap:=0) (s:=s.set b (SO.cells (setAt cs off [slw l]))) (Q:=Q)
 rw[e1,e2]at hj
 refine hj _ (cI hh fun r hq=>?_)
 simp -implicitDefEqProofs only[go_sem,seval,bP]
 have hlt:off<cs.length:=(List.getElem?_eq_some_iff.1 hb.2).1
 rw[mL _ _ _ (show off+[slw l].length<=cs.length from hlt)]
 refine⟨hlt,_,Sub.refl _,?_⟩
 rw[Nat.add_zero,Qa hlt]
 exact hq
def E2(at_:Int)(out:List aj)(to_:Int):Option (List aj):=if decide (at_<to_)then aG ((out.length+1)*16<=room)<|some (out++[⟨at_,to_⟩])else some out
theorem tm{s:ab}{a o:Nat}{at_ to_:Int}{out:List aj}{Q:List AV->ab->Prop}(ha:s a=some (.cells [.int .i64 at_]))(ho:s o=some (.cells [IE out])):ok (E2 at_ out to_) (fun r=>Q [] (s.set o (.cells [IE r])))->FN prog 176 [.int .i64 to_,.ref a 0,.ref o 0] s Q:=by
 intro hh
 refine FN.lr (FO DN rfl rfl ?_)
 revert hh
 rw[tB,E2]
 simp -implicitDefEqProofs only[go_sem,seval,ha,ho]
 rintro⟨h1,h2⟩
 have hne:a≠o:=by rintro rfl;rw[ha]at ho;simp at ho
 refine⟨fun hc=>?_,fun hc=>⟨_,Sub.refl s,by have:=h2 hc;rwa[dN ho]at this⟩⟩
 simp -implicitDefEqProofs only[go_sem,seval,ai hne,ha]
 have e:IE (out++[⟨at_,to_⟩])=.sl true 2 (out.length+1) (flat out++[AV.int IntKind.i64 at_,AV.int IntKind.i64 to_]):=by unfold IE;rw[bT,List.length_append];rfl
 refine⟨(h1 hc).1,_,Sub.refl _,?_⟩
 rw[<-e];exact(h1 hc).2
theorem CX.set{s:ab}{b off c:Nat}{cs:List AV}{l:List aj}{x:SO}(h:CX s b off cs l)(hn:s c=none):CX (s.set c x) b off cs l:=by
 refine⟨?_,h.2⟩
 rw[ai (fun e=>by rw[<-e,h.1]at hn;cases hn)];exact h.1
def abC(x:aj)(l:List aj):(List aj×Int×Int)->Option ((List aj×Int×Int)⊕(List aj×Int)):=fun(out,at_,k)=>
 if decide (k<(l.length:Int))then
  aG (0<=k/\k<l.length)<|
  aW (E2 at_ out (min (ix l k).bW x.To)) fun out=>
  some (.inl (out,max at_ (min (ix l k).To x.To),bj (k+1)))
 else some (.inr (out,at_))
def uz(l:List aj)(x:aj):Option (List aj):=
 aW (kF x) fun e=>
 if e then some []else
  aW (EO l) fun l=>
  aW (iter (abC x l) ([],x.bW,0)) fun(out,at_)=>
  E2 at_ out x.To
theorem Ff{s:ab}{b off:Nat}{cs:List AV}{l:List aj}{x:aj}{Q:List AV->ab->Prop}(hb:CX s b off cs l):ok (uz l x) (fun r=>Q [slw r] s)->FN prog 119 [.ref b off,.agg [.int .i64 x.bW,.int .i64 x.To]] s Q:=by
 intro hh
 refine FN.lr (FO Gm rfl rfl ?_)
 revert hh
 rw[uW,uz]
 simp -implicitDefEqProofs only[go_sem,seval]
 refine ak (fun _ h=>qV h) fun e=>?_
 simp -implicitDefEqProofs only[go_sem,seval]
 rintro⟨h1,h2⟩
 refine⟨fun he=>⟨s,Sub.refl s,h1 he⟩,fun he o ho a ha=>?_⟩
 have hh:=h2 he
 refine Fe ((hb.set ho).set ha) (cI hh fun l' hh=>?_)
 simp -implicitDefEqProofs only[go_sem,seval]
 revert hh
 refine bF (fun st=>⟨[(3,.loc [.int .i64 x.bW,.int .i64 x.To]),(5,.ref o 0),(6,.ref a 0),(7,.fn 176 [] [.ref a 0,.ref o 0]),(16,IE l'),(17,.int .i64 (l'.length:Nat)),(18,.int .i64 st.2.2)],[],(s.set o (.cells [IE st.1])).set a (.cells [.int .i64 st.2.1])⟩) rfl ?_
 rintro J ⟨out,at_,k⟩
 have hne:o≠a:=by rintro rfl;rw[bd]at ha;cases ha
 rw[abC]
 simp -implicitDefEqProofs only[go_sem,seval]
 rintro⟨h1,h2⟩
 have st:∀X Y Z,((s.set o X).set a Y).set o Z=(s.set o Z).set a Y:=fun X Y Z=>by rw[set_comm hne,set_set]
 have go':∀X Y,((s.set o X).set a Y) o=some X:=fun X Y=>by rw[ai hne,bd]
 have alE:∀X Y,Sub s ((s.set o X).set a Y):=fun X Y=>((Sub.refl s).set ho).set (by rw[cY]at ha⊢;exact ha)
 refine⟨fun hc=>⟨(h1 hc).1,rfl,?_⟩,fun hc=>⟨rfl,?_⟩⟩
 ·refine tm (at_:=at_) (bd ..) (go' ..) (cI (h1 hc).2 fun r hr=>?_)
  rw[st]
  simp -implicitDefEqProofs only[go_sem,seval,bd,set_set]
  exact hr
 ·refine tm (at_:=at_) (bd ..) (go' ..) (cI (h2 hc) fun r hr=>?_)
  rw[st]
  simp -implicitDefEqProofs only[go_sem,seval,go']
  exact⟨s,alE _ _,hr⟩
end Go.AB
end
section
set_option maxRecDepth 4000
namespace Go.AB
open Go
open Go.Proofs.Tryz (prog)
attribute[-go_sem] Nat.add_zero nr bV
def Aw:IC:=
 (af [c6 2 (.bool false)] [0]
 (af [mv 3 0,i1 4 (.Ov true (.t 3) (.c (.dK))),mv 5 4,dh 6 0 5 true,dq 7 5 true (.nilCheck (.t 6)),fg 8 5 true 0 7,lg 9 5 true 1 8,pf 10 5 9,mv 2 10] [2]
 .ret))
theorem L9:aE prog 116 11 [⟨2,true,none⟩] Aw=true:=by kernel_rfl
def tD:IC:=
 (af [mi 2 0] [0]
 (.seq (af [mv 3 0,c1 4 116 3,no 5 4] [0,5]
 (.cond (.t 5) (af [mi 2 0] [2]
 .ret)
 .skip))
 (af [mv 6 0,nc 7 6,fa 8 1 7,ld 9 1 8,mv 2 9] [2]
 .ret)))
theorem DQ:aE prog 62 10 [⟨2,true,none⟩] tD=true:=by kernel_rfl
def tC:IC:=
 (af [mi 4 0] [0,1]
 (.seq (af [mv 5 0,c1 6 116 5,no 7 6] [0,1,7]
 (.cond (.t 7) (af [mi 4 0] [4]
 .ret)
 .skip))
 (af [mv 8 1,i1 9 (.fP true [(.c (.int .i64 0)),(.t 8)]),mv 1 9] [0,1]
 (.seq (.bN (some 11) [mv 10 0,nc 11 10,fa 12 1 11,ld 13 1 12,mv 14 0,nc 15 14,fa 16 2 15,mv 17 1,c2 18 117 16 17,i1 19 (.fP false [(.t 13),(.t 18)]),mv 4 19] [4])
 .ret))))
theorem DP:aE prog 63 20 [⟨4,true,none⟩] tC=true:=by kernel_rfl
def yg:IC:=
 (af [c6 2 (.dK),mi 3 0] [0]
 (.seq (af [mv 4 0,bn 5 .lss 4 0,mv 6 5,dh 7 0 6 false,kS 8 6 false .gtr 7 2147483647,po 9 6 8] [0,9]
 (.cond (.t 9) (af [c6 2 (.dK),mi 3 5] [2,3]
 .ret)
 .skip))
 (af [mv 10 0,i1 11 (.makeMap),i1 12 (.build [.bool false,.int .i64 0,.arr 0 0 0 0,.oL] [(0,1,(.c (.bool true))),(1,1,(.t 10)),(3,1,(.t 11))]),i1 13 (.Fq 2 4 (.t 12)),mv 2 13,mi 3 0] [2,3]
 .ret)))
theorem Jp:aE prog 65 14 [⟨2,true,none⟩,⟨3,true,none⟩] yg=true:=by kernel_rfl
def tP:IC:=
 (af [c6 2 (.dK)] [0]
 (af [mv 6 0,le 7 0 6,c1 8 65 7,iV 5 8,ex 9 5 0,ex 10 5 1,mv 3 9,mv 4 10] [0,3,4]
 (.seq (af [mv 11 4,bn 12 .neq 11 0] [0,3,12]
 (.cond (.t 12) (af [c6 2 (.dK)] [2]
 .ret)
 .skip))
 (af [mv 13 3,mt 14 0,i1 15 (.call 66 [(.t 13),(.c (.int .i64 0)),(.t 14)])] [3]
 (af [mv 16 3,mv 2 16] [2]
 .ret)))))
theorem D2:aE prog 29 17 [⟨2,true,none⟩] tP=true:=by kernel_rfl
def tE:IC:=
 (.block 0 (.loop [(0,false),(1,false),(2,false)] (.seq (af [mv 11 2,le 12 0 11,bn 13 .gtr 12 0] [0,1,2,13]
 (.cond (.t 13) .skip
 (.exit 0)))
 (.block 1 (af [mv 14 1,bn 15 .quo 14 4096,mv 16 1,bn 17 .rem 16 4096,mv 6 15,mv 7 17] [0,1,2,6,7]
 (af [mv 19 0,nc 20 19,fa 21 3 20,ld 22 1 21,mv 23 6,i1 24 (.lookup (.int .i64) (.sl false 1 0 []) true (.t 22) (.t 23)),iV 18 24,ex 25 18 0,ex 26 18 1,mt 8 25,mv 9 26] [0,1,2,6,7,8,9]
 (.seq (af [mv 27 9,no 28 27] [0,1,2,6,7,8,28]
 (.cond (.t 28) (af [i1 29 (.fO 1 1 [.int .u8 0] (.c (.int .i64 4096)) (.c (.int .i64 4096))),mt 8 29] [0,1,2,6,7,8]
 (.bN none [mv 30 0,nc 31 30,fa 32 3 31,ld 33 1 32,mv 34 6,mv 35 8,i0 (.mapUpdate (.int .i64) (.t 33) (.t 34) (.t 35))] [0,1,2,7,8]))
 .skip))
 (af [mt 36 8,mv 37 7,rj 38 1 36 37,mv 39 2,i1 40 (.gN 1 (.t 38) (.t 39)),mv 10 40] [0,1,2,10]
 (.bN (some 8) [mv 41 1,mv 42 10,bt 43 .add 41 42,mv 44 2,mv 45 10,rj 46 1 44 45,mv 1 43,mv 2 46] [0,1,2])))))))))
theorem DR:aE prog 120 47 [] tE=true:=by kernel_rfl
def xO:IC:=
 (af [mi 6 0] [0,1,2]
 (.seq (.block 0 (af [mv 11 0,c1 12 116 11,no 13 12,mv 10 13] [0,1,2,10]
 (.cond (.t 10) (af [mi 6 1] [6]
 .ret)
 (af [mv 15 1,bn 16 .lss 15 0,mv 17 16,dh 18 1 17 false,dh 19 0 17 false,dq 20 17 false (.nilCheck (.t 19)),fg 21 17 false 1 20,lg 22 17 false 1 21,sY 23 17 false .gtr 18 22,po 24 17 23,mv 14 24] [0,1,2,14]
 (.cond (.t 14) (af [mi 6 2] [6]
 .ret)
 (af [mv 26 2,le 27 0 26,mv 28 0,nc 29 28,fa 30 1 29,ld 31 1 30,mv 32 1,bt 33 .sub 31 32,bt 34 .gtr 27 33,mv 25 34] [0,1,2,25]
 (.cond (.t 25) (af [mi 6 5] [6]
 .ret)
 .skip)))))))
 (af [mv 35 1,mv 36 1,mv 37 2,le 38 0 37,bt 39 .add 36 38,i1 40 (.build [.int .i64 0,.int .i64 0] [(0,1,(.t 35)),(1,1,(.t 39))]),i1 7 (.aq [.int .i64 0,.int .i64 0]),st 2 7 40] [0,1,2,7]
 (.seq (.seq (.bN (some 7) [mv 41 0,nc 42 41,fa 43 2 42,lm 44 2 7,c2 45 119 43 44,le 46 0 45,mi 47 0] [0,1,2,7,45,46,47])
 (.block 1 (.loop [(0,false),(1,false),(2,false),(7,false),(45,false),(46,false),(47,false)] (af [bt 48 .lss 47 46] [0,1,2,7,45,46,47,48]
 (.seq (.cond (.t 48) .skip
 (.exit 1))
 (.seq (.block 2 (af [ia 49 [.int .i64 0,.int .i64 0] 45 47,lm 50 2 49,i1 9 (.aq [.int .i64 0,.int .i64 0]),st 2 9 50] [0,1,2,7,9,45,46,47]
 (.bN (some 13) [mv 51 0,fa 52 0 9,ld 53 1 52,mv 54 2,fa 55 0 9,ld 56 1 55,mv 57 1,bt 58 .sub 56 57,fa 59 1 9,ld 60 1 59,mv 61 1,bt 62 .sub 60 61,i1 63 (.slice 1 (.t 54) (some (.t 58)) (some (.t 62)) none),c3 64 120 51 53 63] [0,1,2,7,45,46,47])))
 (.bN none [bn 65 .add 47 1,mv 47 65] [0,1,2,7,45,46,47])))))))
 (.seq (.bN (some 4) [mv 66 0,nc 67 66,fa 68 2 67,lm 69 2 7,c2 70 121 68 69] [])
 (af [mi 6 0] [6]
 .ret))))))
theorem I4:aE prog 66 71 [⟨6,true,none⟩] xO=true:=by kernel_rfl
abbrev U2:=Int->Option (List UInt8)
structure l9 where
 total:Int
 known:List aj
 wR:U2
def sk(m:U2)(k:Int)(l:List UInt8):U2:=fun i=>if i=k then some l else m i
def KI(es:List (AV×AV)):Prop:=∀p∈es,∃(k:Int)(v:AV),p=(.int .i64 k,v)
def Fb(s0 s:ab)(es:List (AV×AV))(k:Int):Option (List UInt8)->Prop
 |none=>fc (.int .i64 k) es=none
 |some l=>l.length=4096/\∃b,fc (.int .i64 k) es=some (.arr b 0 4096 4096)/\s0 b=none/\s b=some (.cells (flat l))
def Inj(es:List (AV×AV)):Prop:=∀k k' b,fc (.int .i64 k) es=some (.arr b 0 4096 4096)->fc (.int .i64 k') es=some (.arr b 0 4096 4096)->k=k'
def eC(s0 s:ab)(B:Nat)(g:l9):Prop:=Sub s0 s/\s0 B=none/\∃M es,s B=some (.cells [.bool true,.int .i64 g.total,IE g.known,.mp M])/\s0 M=none/\s M=some (.map es)/\KI es/\(∀k,Fb s0 s es k (g.wR k))/\Inj es
def agf(cs:List AV):Prop:=∀c∈cs,∃m:Int,c=.int .u8 m
theorem aaF(l:List UInt8):agf (flat l):=fun c hc=>by
 obtain⟨y,hy,hc⟩:=List.mem_flatten.1 hc
 obtain⟨z,_,rfl⟩:=List.mem_map.1 hy
 exact⟨_,List.mem_singleton.1 hc⟩
theorem SM{l:List UInt8}{r:List AV}(h:flat l=.bool true::r):False:=by
 obtain⟨m,hm⟩:=aaF l (.bool true) (by rw[h];exact List.mem_cons_self)
 cases hm
theorem Fb.mono{s0 s s':ab}{es:List (AV×AV)}{k:Int}{o:Option (List UInt8)}(h:Fb s0 s es k o)(hs:∀b l,s b=some (.cells (flat (l:List UInt8)))->s' b=some (.cells (flat l))):Fb s0 s' es k o:=by
 cases o with
 |none=>exact h
 |some l=>obtain⟨h1,b,h2,h3,h4⟩:=h;exact⟨h1,b,h2,h3,hs b l h4⟩
theorem eC.set{s0 s:ab}{B:Nat}{g:l9}{c:Nat}{x:SO}(h:eC s0 s B g)(hn:s c=none):eC s0 (s.set c x) B g:=by
 obtain⟨h1,h2,M,es,h3,h4,h5,h6,h7,h8⟩:=h
 have ne:∀b o,s b=some o->(s.set c x) b=some o:=fun b o hb=>by rw[ai (fun e=>by rw[e,hn]at hb;cases hb)];exact hb
 exact⟨h1.set hn,h2,M,es,ne _ _ h3,h4,ne _ _ h5,h6,fun k=>(h7 k).mono fun b l=>ne b _,h8⟩
theorem eC.setAt{s0 s:ab}{B:Nat}{g:l9}(h:eC s0 s B g):∃cs,CX s B 2 cs g.known/\∀l,eC s0 (s.set B (.cells (AB.setAt cs 2 [IE l]))) B ⟨g.total,l,g.wR⟩:=by
 obtain⟨h1,h2,M,es,h3,h4,h5,h6,h7,h8⟩:=h
 refine⟨_,⟨h3,rfl⟩,fun l=>⟨fun b o hb=>?_,h2,M,es,?_,h4,?_,h6,fun k=>(h7 k).mono fun b l hb=>?_,h8⟩⟩
 ·rw[ai (fun e=>by rw[e,h2]at hb;cases hb)];exact h1 b o hb
 ·rw[bd];rfl
 ·rw[ai (fun e=>by rw[e,h3]at h5;cases h5)];exact h5
 ·rw[ai (fun e=>by
   rw[e,h3]at hb
   injection hb with hb;injection hb with hb
   exact SM hb.symm)]
  exact hb
theorem KI.keys{es:List (AV×AV)}(h:KI es):kp (.int .i64) es=true:=by
 unfold kp
 rw[List.all_eq_true]
 intro p hp
 obtain⟨k,v,rfl⟩:=h p hp
 rfl
theorem oR(k k':Int)(v:AV):∀{es:List (AV×AV)},KI es->fc (.int .i64 k) (wg (.int .i64 k') v es)=if k=k' then some v else fc (.int .i64 k) es
 |[],_=>by
  simp only[wg,fc,mA]
  by_cases h:k=k'
  ·simp[h]
  ·rw[if_neg h,show(k==k')=false by simpa using h];rfl
 |p::es,h=>by
  obtain⟨j,u,rfl⟩:=h p List.mem_cons_self
  have ih:=oR k k' v (es:=es) fun q hq=>h q (List.mem_cons_of_mem _ hq)
  simp only[wg,mA]
  by_cases e:k'=j
  ·subst e
   by_cases h:k=k'
   ·simp[fc,mA,h]
   ·simp only[beq_self_eq_true,cond_true,fc,mA];rw[if_neg h,show(k==k')=false by simpa using h];rfl
  ·rw[show(k'==j)=false by simpa using e]
   simp only[cond_false,fc,mA,ih]
   by_cases h:k=j
   ·subst h;simp only[beq_self_eq_true,cond_true,if_neg (fun h:k=k'=>e h.symm)]
   ·rw[show(k==j)=false by simpa using h];simp
theorem KI.put{k:Int}{v:AV}:∀{es:List (AV×AV)},KI es->KI (wg (.int .i64 k) v es)
 |[],_=>fun p hp=>by
  rcases List.mem_cons.1 hp with rfl|hp
  ·exact⟨k,v,rfl⟩
  ·cases hp
 |q::es,h=>by
  unfold wg
  cases hk:lK (.int .i64 k) q.1 with
  |true=>
   intro p hp
   rcases List.mem_cons.1 hp with rfl|hp
   ·exact⟨k,v,rfl⟩
   ·exact h p (List.mem_cons_of_mem _ hp)
  |false=>
   intro p hp
   rcases List.mem_cons.1 hp with rfl|hp
   ·exact h _ List.mem_cons_self
   ·exact KI.put (fun q' hq=>h q' (List.mem_cons_of_mem _ hq)) p hp
theorem eC.row{s0 s:ab}{B b M:Nat}{g:l9}{es:List (AV×AV)}{k:Int}{l l':List UInt8}(h:eC s0 s B g)(hB:s B=some (.cells [.bool true,.int .i64 g.total,IE g.known,.mp M]))(hM:s M=some (.map es))(hb:s0 b=none)(hk:fc (.int .i64 k) es=some (.arr b 0 4096 4096))(h1:s b=some (.cells (flat l)))(h3:l'.length=4096):
 eC s0 (s.set b (.cells (flat l'))) B ⟨g.total,g.known,sk g.wR k l'⟩:=by
 obtain⟨q1,q2,M',es',q3,q4,q5,q6,q7,q8⟩:=h
 have eM:M'=M:=by
  rw[q3]at hB
  injection hB with hB;injection hB with hB;simp at hB;exact hB
 subst eM
 have eE:es'=es:=by rw[q5]at hM;injection hM with hM;injection hM
 subst eE
 have nB:B≠b:=fun e=>by
  rw[<-e,q3]at h1
  injection h1 with h1;injection h1 with h1
  exact SM h1.symm
 have nM:M'≠b:=fun e=>by rw[<-e,q5]at h1;cases h1
 refine⟨fun c o hc=>?_,q2,M',es',by rw[ai nB];exact q3,q4,by rw[ai nM];exact q5,q6,fun i=>?_,q8⟩
 ·rw[ai (fun e=>by rw[e,hb]at hc;cases hc)];exact q1 c o hc
 ·show Fb _ _ _ i (if i=k then some l' else g.wR i)
  by_cases hi:i=k
  ·subst hi;rw[if_pos rfl];exact⟨h3,b,hk,hb,bd ..⟩
  ·rw[if_neg hi]
   have h:=q7 i
   cases ho:g.wR i with
   |none=>rw[ho]at h;exact h
   |some l2=>
    rw[ho]at h
    obtain⟨w1,b2,w2,w3,w4⟩:=h
    exact⟨w1,b2,w2,w3,by rw[ai (fun e=>hi (q8 i k b2 w2 (by rw[e];exact hk)))];exact w4⟩
theorem eC.put{s0 s:ab}{B M b:Nat}{g:l9}{es:List (AV×AV)}{k:Int}{l:List UInt8}(h:eC s0 s B g)(hB:s B=some (.cells [.bool true,.int .i64 g.total,IE g.known,.mp M]))(hM:s M=some (.map es))(hb:s b=none)(h3:l.length=4096):
 eC s0 ((s.set b (.cells (flat l))).set M (.map (wg (.int .i64 k) (.arr b 0 4096 4096) es))) B ⟨g.total,g.known,sk g.wR k l⟩:=by
 obtain⟨q1,q2,M',es',q3,q4,q5,q6,q7,q8⟩:=h
 have eM:M'=M:=by
  rw[q3]at hB
  injection hB with hB;injection hB with hB;simp at hB;exact hB
 subst eM
 have eE:es'=es:=by rw[q5]at hM;injection hM with hM;injection hM
 subst eE
 have nBb:B≠b:=fun e=>by rw[e,hb]at q3;cases q3
 have nMb:M'≠b:=fun e=>by rw[e,hb]at q5;cases q5
 have nB:B≠M':=fun e=>by rw[e,q5]at q3;cases q3
 have fb:∀i,fc (.int .i64 i) es'≠some (.arr b 0 4096 4096):=fun i e=>by
  have h:=q7 i
  cases ho:g.wR i with
  |none=>rw[ho]at h;rw[show fc _ es'=none from h]at e;cases e
  |some l2=>
   rw[ho]at h
   obtain⟨w1,b2,w2,w3,w4⟩:=h
   rw[w2]at e;injection e with e;injection e with e
   rw[e,hb]at w4;cases w4
 refine⟨fun c o hc=>?_,q2,M',_,by rw[ai nB,ai nBb];exact q3,q4,bd ..,q6.put,fun i=>?_,fun i j c hi hj=>?_⟩
 ·rw[ai (fun e=>by rw[e,q4]at hc;cases hc),ai (fun e=>by rw[e,Sub.none q1 hb]at hc;cases hc)];exact q1 c o hc
 ·show Fb _ _ _ i (if i=k then some l else g.wR i)
  by_cases hi:i=k
  ·subst hi;rw[if_pos rfl]
   exact⟨h3,b,by rw[oR _ _ _ q6,if_pos rfl],Sub.none q1 hb,by rw[ai (Ne.symm nMb),bd]⟩
  ·rw[if_neg hi]
   have h:=q7 i
   cases ho:g.wR i with
   |none=>rw[ho]at h;show fc _ _=none;rw[oR _ _ _ q6,if_neg hi];exact h
   |some l2=>
    rw[ho]at h
    obtain⟨w1,b2,w2,w3,w4⟩:=h
    exact⟨w1,b2,by rw[oR _ _ _ q6,if_neg hi];exact w2,w3,by rw[ai (fun e=>by rw[e,q5]at w4;cases w4),ai (fun e=>by rw[e,hb]at w4;cases w4)];exact w4⟩
 ·rw[oR _ _ _ q6]at hi hj
  by_cases ei:i=k
  ·by_cases ej:j=k
   ·rw[ei,ej]
   ·rw[if_pos ei]at hi;rw[if_neg ej]at hj
    injection hi with hi;injection hi with hi
    rw[<-hi]at hj;exact absurd hj (fb j)
  ·rw[if_neg ei]at hi
   by_cases ej:j=k
   ·rw[if_pos ej]at hj
    injection hj with hj;injection hj with hj
    rw[<-hj]at hi;exact absurd hi (fb i)
   ·rw[if_neg ej]at hj;exact q8 i j c hi hj
theorem oy{s0 s:ab}{B:Nat}{g:l9}{Q:List AV->ab->Prop}(h:eC s0 s B g)(hq:Q [.bool true] s):FN prog 116 [.ref B 0] s Q:=by
 obtain⟨h1,h2,M,es,h3,h4,h5,h6⟩:=h
 refine FN.lr (FO L9 rfl rfl ?_)
 rw[Aw]
 simp -implicitDefEqProofs only[go_sem,seval,h3]
 exact⟨s,Sub.refl s,hq⟩
theorem tq{s0 s:ab}{B:Nat}{g:l9}{Q:List AV->ab->Prop}(h:eC s0 s B g)(hq:Q [.int .i64 g.total] s):FN prog 62 [.ref B 0] s Q:=by
 refine FN.lr (FO DQ rfl rfl ?_)
 rw[tD]
 simp -implicitDefEqProofs only[go_sem,seval]
 refine oy h ?_
 obtain⟨h1,h2,M,es,h3,h4,h5,h6⟩:=h
 simp -implicitDefEqProofs only[go_sem,seval,h3]
 exact⟨fun h=>h.elim,fun _=>⟨s,Sub.refl s,hq⟩⟩
theorem DD{s0 s:ab}{B:Nat}{g:l9}{at_:Int}{Q:List AV->ab->Prop}(h:eC s0 s B g):ok (uA g.known (max 0 at_)) (fun r=>Q [.int .i64 (min g.total r)] s)->FN prog 63 [.ref B 0,.int .i64 at_] s Q:=by
 intro hh
 refine FN.lr (FO DP rfl rfl ?_)
 rw[tC]
 simp -implicitDefEqProofs only[go_sem,seval]
 refine oy h ?_
 obtain⟨cs,hs,_⟩:=h.setAt
 obtain⟨h1,h2,M,es,h3,h4,h5,h6⟩:=h
 simp -implicitDefEqProofs only[go_sem,seval,h3]
 refine⟨fun h=>h.elim,fun _=>?_⟩
 obtain⟨r,hr,hq⟩:=hh
 refine⟨[.int .i64 r],rfl,CY hs ⟨r,hr,rfl,rfl⟩,?_⟩
 simp -implicitDefEqProofs only[go_sem,seval]
 exact⟨s,Sub.refl s,hq⟩
theorem J1{s:ab}{n:Int}{Q:List AV->ab->Prop}(hn:0<=n/\n<=2147483647)(hq:∀B s',eC s s' B ⟨n,[],fun _=>none⟩->Q [.ref B 0,.int .i64 0] s'):FN prog 65 [.int .i64 n] s Q:=by
 refine FN.lr (FO Jp rfl rfl ?_)
 rw[yg]
 simp -implicitDefEqProofs only[go_sem,seval]
 refine⟨fun h=>?_,fun _ M hM B hB=>⟨_,Sub.refl _,hq B _ ⟨((Sub.refl s).set hM).set hB,?_,M,[],bd ..,hM,?_,fun p hp=>(by cases hp),fun k=>rfl,fun k k' b h=>(by cases h)⟩⟩⟩
 ·simp at h;omega
 ·rw[cY]at hB;exact hB.2
 ·rw[cY]at hB;rw[ai (Ne.symm hB.1),bd]
theorem Uo{es:List (AV×AV)}{n:Int}(h:KI es)(e:fc (.int .i64 n) es=none):oJ (.int .i64) (.sl false 1 0 []) true (.int .i64 n) (some (.map es))=.prt True (.gw [.sl false 1 0 [],.bool false]):=by
 show N9 true (eX (.int .i64) (.int .i64 n)=true/\kp (.int .i64) es=true) (vT (.sl false 1 0 []) true (fc (.int .i64 n) es))=_
 rw[e,h.keys]
 show PR.prt (true=true/\true=true) _=_
 simp[vT,ID,view]
theorem Up{es:List (AV×AV)}{n:Int}{b:Nat}(h:KI es)(e:fc (.int .i64 n) es=some (.arr b 0 4096 4096)):oJ (.int .i64) (.sl false 1 0 []) true (.int .i64 n) (some (.map es))=.prt True (.gw [.arr b 0 4096 4096,.bool true]):=by
 show N9 true (eX (.int .i64) (.int .i64 n)=true/\kp (.int .i64) es=true) (vT (.sl false 1 0 []) true (fc (.int .i64 n) es))=_
 rw[e,h.keys]
 show PR.prt (true=true/\true=true) _=_
 simp[vT,ID,view]
theorem Fm{o:Nat}(h:o<4096):iY 0 4096 o 1=o:=by
 unfold iY
 rw[show(4096==o)=false by simp;omega];simp
def qQ(c:List UInt8)(o:Nat)(x:List UInt8):List UInt8:=c.take o++x++c.drop (o+x.length)
theorem XB{c x:List UInt8}{o:Nat}(h:o+x.length<=c.length):(qQ c o x).length=c.length:=by unfold qQ;simp only[List.length_append,List.length_take,List.length_drop];omega
theorem aaG(m:U2)(k:Int)(x y:List UInt8):sk (sk m k x) k y=sk m k y:=by funext i;unfold sk;by_cases h:i=k<;>simp[h]
theorem cpy{E:St}{d:Option Nat}{K:St->Prop}{s0:ab}{B b M:Nat}{g:l9}{es:List (AV×AV)}{k:Int}{c l:List UInt8}{o o' n cap:Nat}(h:eC s0 E.s B g)(hB:E.s B=some (.cells [.bool true,.int .i64 g.total,IE g.known,.mp M]))(hM:E.s M=some (.map es))(hb:s0 b=none)
 (hk:fc (.int .i64 k) es=some (.arr b 0 4096 4096))(h2:E.s b=some (.cells (flat c)))(h3:c.length=4096)(ho:o<4096)(he:o'=o)(hn:n=4096 -o)
 (hK:∀s3,eC s0 s3 B ⟨g.total,g.known,sk g.wR k (qQ c o (l.take (min l.length (4096 -o))))⟩->K ({E with s:=s3}.put d (.int .i64 (min l.length (4096 -o):Nat)))):yQ 1 E d K (.arr b o' n cap) (some (l.length,flat l)):=by
 subst he;subst hn
 have hf:(flat c).length=4096:=by rw[al,h3];rfl
 refine mr h2 (by omega) (hK _ ?_)
 have hl:(l.take (min l.length (4096 -o'))).length=min l.length (4096 -o'):=by rw[List.length_take];omega
 have e:=gz c (l.take (min l.length (4096 -o'))) [] 1 o' rfl (by rw[hl];omega)
 rw[List.append_nil,List.append_nil,Nat.mul_one]at e
 have e2:(flat l).take (min l.length (4096 -o')*1)=flat (l.take (min l.length (4096 -o'))):=wZ l _
 rw[e2,e]
 exact eC.row h hB hM hb hk h2 (by
  show(qQ c o' (l.take (min l.length (4096 -o')))).length=4096
  rw[XB (by rw[hl];omega),h3])
def YA:List UInt8:=List.replicate 4096 0
def Sj:Int×List UInt8×U2->Option ((Int×List UInt8×U2)⊕U2):=fun(a,l,m)=>
 if decide ((l.length:Int)>0)then
  some (.inl (bj (a+(min l.length (4096 -(a.tmod 4096).toNat):Nat)),l.drop (min l.length (4096 -(a.tmod 4096).toNat)),
   sk m (bj (a.tdiv 4096)) (qQ ((m (bj (a.tdiv 4096))).getD YA) (a.tmod 4096).toNat (l.take (min l.length (4096 -(a.tmod 4096).toNat))))))
 else some (.inr m)
theorem DE{s0 s:ab}{B:Nat}{g:l9}{a0:Int}{l0:List UInt8}{Q:List AV->ab->Prop}(h:eC s0 s B g)(h0:0<=a0)(h1:a0+l0.length<=9223372036854775807):
 ok (iter Sj (a0,l0,g.wR)) (fun m=>∀s',eC s0 s' B ⟨g.total,g.known,m⟩->Q [] s')->FN prog 120 [.ref B 0,.int .i64 a0,.sl false 1 l0.length (flat l0)] s Q:=by
 intro hw
 refine FN.lr (FO DR rfl rfl ?_)
 rw[tE]
 simp -implicitDefEqProofs only[go_sem,Nat.reduceBEq,Nat.reduceAdd,Nat.reduceMul,Nat.reduceLeDiff,Nat.reduceEqDiff,Nat.reduceBNe,UInt8.reduceToNat,UInt32.reduceToNat]
 revert hw
 refine ga (fun st U=>0<=st.1/\st.1+(st.2.1.length:Int)<=9223372036854775807/\∃s',U=⟨[(0,.ref B 0),(1,.int .i64 st.1),(2,.sl false 1 st.2.1.length (flat st.2.1))],[],s'⟩/\eC s0 s' B ⟨g.total,g.known,st.2.2⟩) ⟨h0,h1,s,rfl,h⟩ ?_
 rintro J ⟨a,l,m⟩ U ⟨ha,hal,s',rfl,hs⟩
 have ha:0<=a:=ha
 have hal:a+(l.length:Int)<=9223372036854775807:=hal
 obtain⟨q1,q2,M,es,q3,q4,q5,q6,q7,q8⟩:=id hs
 rw[Sj]
 simp -implicitDefEqProofs only[go_sem,Nat.reduceBEq,Nat.reduceAdd,Nat.reduceMul,Nat.reduceLeDiff,Nat.reduceEqDiff,Nat.reduceBNe,UInt8.reduceToNat,UInt32.reduceToNat,q3,q5]
 rintro⟨hw1,hw2⟩
 refine⟨fun hc=>⟨by decide,by decide,?_⟩,fun hc=>⟨s',Sub.refl s',hw2 hc s' hs⟩⟩
 have hw:=hw1 hc
 clear hw1 hw2
 have hm:0<=a.tmod 4096:=Int.tmod_nonneg _ ha
 have hm2:a.tmod 4096<4096:=Int.tmod_lt_of_pos _ (by decide)
 have hN:min l.length (4096 -(a.tmod 4096).toNat)<=l.length:=Nat.min_le_left ..
 have eD:∀N,AB.sub (flat l) (N*1) ((l.length -N)*1)=flat (l.drop N):=fun N=>by rw[lC l 1 N (l.length -N) rfl,List.take_of_length_le (by simp)]
 have hlen:∀N,(flat (l.drop N)).length/1=(l.drop N).length:=fun N=>by rw[Nat.div_one,al];exact Nat.mul_one _
 have hj:∀c,(m (bj (a.tdiv 4096))).getD YA=c->∀s3,eC s0 s3 B ⟨g.total,g.known,sk m (bj (a.tdiv 4096)) (qQ c (a.tmod 4096).toNat (l.take (min l.length (4096 -(a.tmod 4096).toNat))))⟩->J ⟨[(0,.ref B 0),(1,.int .i64 (bj (a+(min l.length (4096 -(a.tmod 4096).toNat):Nat)))),(2,.sl false 1 (l.drop (min l.length (4096 -(a.tmod 4096).toNat))).length (flat (l.drop (min l.length (4096 -(a.tmod 4096).toNat)))))],[],s3⟩:=fun c hcc s3 h3=>by
  subst hcc
  have hw':bj (a+(min l.length (4096 -(a.tmod 4096).toNat):Nat))=a+(min l.length (4096 -(a.tmod 4096).toNat):Nat):=aI (by omega) (by omega)
  refine hw _ ⟨?_,?_,s3,rfl,h3⟩
  ·show 0<=bj _;rw[hw'];omega
  ·show bj _+((l.drop _).length:Int)<=_;rw[hw',List.length_drop];omega
 have q7':=q7 (bj (a.tdiv 4096))
 cases hmk:m (bj (a.tdiv 4096))with
 |none=>
  have e:fc (.int .i64 (bj (a.tdiv 4096))) es=none:=by rw[show(l9.wR ⟨g.total,g.known,m⟩) (bj (a.tdiv 4096))=none from hmk]at q7';exact q7'
  rw[Uo q6 e]
  simp -implicitDefEqProofs only[go_sem,Nat.reduceBEq,Nat.reduceAdd,Nat.reduceMul,Nat.reduceLeDiff,Nat.reduceEqDiff,Nat.reduceBNe,UInt8.reduceToNat,UInt32.reduceToNat,q3,q5]
  refine⟨fun _=>⟨by decide,by decide,by decide,fun b hb=>?_⟩,fun h=>(by cases h)⟩
  have hB:B≠b:=fun e=>by rw[<-e,q3]at hb;cases hb
  have hM:M≠b:=fun e=>by rw[<-e,q5]at hb;cases hb
  have hBM:B≠M:=fun e=>by rw[e,q5]at q3;cases q3
  have e1:s0 b=none:=Sub.none q1 hb
  simp -implicitDefEqProofs only[go_sem,Nat.reduceBEq,Nat.reduceAdd,Nat.reduceMul,Nat.reduceLeDiff,Nat.reduceEqDiff,Nat.reduceBNe,UInt8.reduceToNat,UInt32.reduceToNat,ai hB,ai hM,q3,q5]
  refine⟨⟨rfl,rfl,q6.keys⟩,?_⟩
  simp -implicitDefEqProofs only[go_sem,Nat.reduceBEq,Nat.reduceAdd,Nat.reduceMul,Nat.reduceLeDiff,Nat.reduceEqDiff,Nat.reduceBNe,UInt8.reduceToNat,UInt32.reduceToNat]
  refine⟨⟨hm,Int.le_of_lt hm2,Int.le_refl _⟩,?_⟩
  rw[gb,aC]
  have hss:=eC.put (k:=bj (a.tdiv 4096)) (l:=List.replicate (Int.toNat 4096) (0:UInt8)) hs q3 q5 hb (by rw[List.length_replicate];rfl)
  refine cpy (o:=(a.tmod 4096).toNat) (c:=List.replicate (Int.toNat 4096) (0:UInt8)) hss (by show ab.set (ab.set s' b _) M _ B=_;rw[ai hBM,ai hB];exact q3) (bd ..) e1 (by rw[oR _ _ _ q6,if_pos rfl];rfl) (by show ab.set (ab.set s' b _) M _ b=_;rw[ai (Ne.symm hM),bd]) (by rw[List.length_replicate];rfl) (by omega) (Fm (by omega)) (by simp;omega) fun s3 h3=>?_
  simp -implicitDefEqProofs only[go_sem,Nat.reduceBEq,Nat.reduceAdd,Nat.reduceMul,Nat.reduceLeDiff,Nat.reduceEqDiff,Nat.reduceBNe,UInt8.reduceToNat,UInt32.reduceToNat]
  rw[eD,hlen]
  exact⟨by omega,hj (List.replicate (Int.toNat 4096) (0:UInt8)) (by rw[hmk];rfl) s3 (by have h4:=h3;rw[aaG]at h4;exact h4)⟩
 |some c=>
  obtain⟨w1,b,e,e1,e2⟩:Fb s0 s' es (bj (a.tdiv 4096)) (some c):=by rw[show(l9.wR ⟨g.total,g.known,m⟩) (bj (a.tdiv 4096))=some c from hmk]at q7';exact q7'
  rw[Up q6 e]
  simp -implicitDefEqProofs only[go_sem,Nat.reduceBEq,Nat.reduceAdd,Nat.reduceMul,Nat.reduceLeDiff,Nat.reduceEqDiff,Nat.reduceBNe,UInt8.reduceToNat,UInt32.reduceToNat,q3,q5]
  refine⟨fun h=>(by cases h),fun _=>?_⟩
  refine⟨⟨hm,Int.le_of_lt hm2,Int.le_refl _⟩,?_⟩
  rw[gb,aC]
  refine cpy (o:=(a.tmod 4096).toNat) hs q3 q5 e1 e e2 w1 (by omega) (Fm (by omega)) (by omega) fun s3 h3=>?_
  simp -implicitDefEqProofs only[go_sem,Nat.reduceBEq,Nat.reduceAdd,Nat.reduceMul,Nat.reduceLeDiff,Nat.reduceEqDiff,Nat.reduceBNe,UInt8.reduceToNat,UInt32.reduceToNat]
  rw[eD,hlen]
  exact⟨by omega,hj c (by rw[hmk];rfl) s3 h3⟩
def ah7(a:Int)(l:List UInt8)(ms:List aj):Int×U2->Option ((Int×U2)⊕U2):=fun(k,m)=>
 if decide (k<(ms.length:Int))then
  aG (0<=k/\k<ms.length/\(a<=(ix ms k).bW/\(ix ms k).bW<=(ix ms k).To/\(ix ms k).To<=a+l.length))<|
  aW (iter Sj ((ix ms k).bW,part l ((ix ms k).bW -a) ((ix ms k).To -a),m)) fun m'=>
  some (.inl (bj (k+1),m'))
 else some (.inr m)
def pd(g:l9)(a:Int)(l:List UInt8):Option (l9×Int):=
 if decide (a<0)||decide (a>g.total)then some (g,2)
 else if decide ((l.length:Int)>bj (g.total -a))then some (g,5)
 else
  aW (uz g.known ⟨a,bj (a+l.length)⟩) fun ms=>
  aW (iter (ah7 a l ms) (0,g.wR)) fun m=>
  aW (EP g.known ⟨a,bj (a+l.length)⟩) fun kn=>some (⟨g.total,kn,m⟩,0)
theorem IH{s0 s:ab}{B:Nat}{g:l9}{a:Int}{l:List UInt8}{Q:List AV->ab->Prop}(h:eC s0 s B g)(ht:g.total<=2147483647):ok (pd g a l) (fun r=>∀s',eC s0 s' B r.1->Q [.int .i64 r.2] s')->FN prog 66 [.ref B 0,.int .i64 a,.sl false 1 l.length (flat l)] s Q:=by
 intro hh
 refine FN.lr (FO I4 rfl rfl ?_)
 rw[xO]
 simp -implicitDefEqProofs only[go_sem,seval]
 refine oy h ?_
 obtain⟨cs,hs,ak1⟩:=h.setAt
 have h3:∃M,s B=some (.cells [.bool true,.int .i64 g.total,IE g.known,.mp M]):=by obtain⟨_,_,M,_,h3,_⟩:=h;exact⟨M,h3⟩
 obtain⟨M,h3⟩:=h3
 revert hh
 rw[pd]
 simp -implicitDefEqProofs only[go_sem,seval,h3]
 rintro⟨w1,w2⟩
 refine⟨fun h=>h.elim,fun _=>⟨fun hc=>⟨s,Sub.refl s,w1 hc s h⟩,fun hc=>⟨fun hd=>⟨s,Sub.refl s,(w2 hc).1 hd s h⟩,fun hd=>?_⟩⟩⟩
 obtain⟨ms,m1,hh⟩:=(w2 hc).2 hd
 refine⟨[slw ms],rfl,Ff hs ⟨ms,m1,rfl,rfl⟩,?_⟩
 clear w1 w2
 have hc1:0<=a/\a<=g.total:=by simp at hc;omega
 have hl:a+l.length<=g.total:=by
  have hd:¬((l.length:Int)>bj (g.total -a)):=by simpa using hd
  rw[aI (by omega) (by omega)]at hd;omega
 have hw:bj (a+l.length)=a+l.length:=aI (by omega) (by omega)
 rw[hw]at hh⊢
 simp -implicitDefEqProofs only[go_sem,seval]
 revert hh
 refine ga (fun k U=>∃s',U=⟨[(0,.ref B 0),(1,.int .i64 a),(2,.sl false 1 l.length (flat l)),(7,.loc [.int .i64 a,.int .i64 (a+l.length)]),(45,slw ms),(46,.int .i64 (ms.length:Nat)),(47,.int .i64 k.1)],[],s'⟩/\eC s0 s' B ⟨g.total,g.known,k.2⟩) ⟨s,rfl,h⟩ ?_
 rintro J ⟨k,m⟩ U ⟨s',rfl,h'⟩
 obtain⟨cs',hs',ahl⟩:=h'.setAt
 have eD:=h'.1
 rw[ah7]
 simp -implicitDefEqProofs only[go_sem,seval]
 rintro⟨w1,w2⟩
 refine⟨fun hk=>?_,fun hk=>?_⟩
 ·obtain⟨⟨k1,k2,k3,k4,k5⟩,w1⟩:=w1 hk
  refine⟨⟨k1,k2⟩,?_⟩
  rw[aI (n:=(ix ms k).bW -a) (by omega) (by omega),aI (n:=(ix ms k).To -a) (by omega) (by omega)]
  refine⟨⟨by omega,by omega,by omega⟩,?_⟩
  refine DE h' (by omega) ?_ (cI w1 fun m' w1 s3 h3=>?_)
  ·have:(part l ((ix ms k).bW -a) ((ix ms k).To -a)).length<=((ix ms k).To -a -((ix ms k).bW -a)).toNat:=by unfold part;exact List.length_take_le ..
   omega
  ·simp -implicitDefEqProofs only[go_sem,seval]
   exact w1 _ ⟨s3,rfl,h3⟩
 ·have w2:=w2 hk
  refine Qz (x:=⟨a,a+l.length⟩) hs' (cI w2 fun kn hq=>?_)
  simp -implicitDefEqProofs only[go_sem,seval]
  exact⟨_,Sub.refl _,hq _ (ahl kn)⟩
theorem Em{s:ab}{l:List UInt8}{Q:List AV->ab->Prop}(hl:l.length<=2147483647):ok (pd ⟨l.length,[],fun _=>none⟩ 0 l) (fun r=>∀B s',eC s s' B r.1->Q [.ref B 0] s')->FN prog 29 [.sl false 1 l.length (flat l)] s Q:=by
 intro hh
 refine FN.lr (FO D2 rfl rfl ?_)
 rw[tP]
 simp -implicitDefEqProofs only[go_sem,seval]
 refine J1 (by omega) fun B s' h'=>?_
 simp -implicitDefEqProofs only[go_sem,seval]
 refine⟨fun h=>h.elim,fun _=>IH h' (show(l.length:Int)<=2147483647 by omega) (cI hh fun r hq s3 h3=>?_)⟩
 simp -implicitDefEqProofs only[go_sem,seval]
 exact⟨s3,Sub.refl _,hq B s3 h3⟩
end Go.AB
end
