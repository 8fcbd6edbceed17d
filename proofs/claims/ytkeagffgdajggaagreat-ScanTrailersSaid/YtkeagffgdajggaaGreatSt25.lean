/- A part. -/
import Derived.Test.YtkeagffgdajggaaGreatSt24
set_option linter.unusedSimpArgs false
set_option linter.unusedVariables false
section
namespace Go.AB
open Go Go.Sort Go.Proofs Go.Shelf
def xR(a b:Int):Int:=if a<b then -1 else if b<a then 1 else 0
def Rv(x y:an):Int:=if xR x.bA y.bA≠0 then xR x.bA y.bA else xR x.To y.To
theorem BE(a b:Int):dm a b=some (xR a b):=by
 have e:∀x:Int,eD x=some false:=fun x=>by unfold eD;simp
 unfold dm
 refine ah (e a) (ah (e b) (ae (by decide) (ae (by decide) ?_)))
 unfold xR
 by_cases h1:a<b
 ·rw[if_pos h1];exact al (decide_eq_true h1) rfl
 ·rw[if_neg h1]
  refine ae (by simpa using h1) ?_
  by_cases h2:b<a
  ·rw[if_pos h2];exact al (decide_eq_true h2) rfl
  ·rw[if_neg h2];exact ae (by simpa using h2) rfl
theorem ML(x y:an):nJ x y=some (Rv x y):=by
 refine ah (BE _ _) (ah (BE _ _) (ah (a:=Rv x y) ?_ rfl))
 generalize ha:xR x.bA y.bA=a
 generalize hb:xR x.To y.To=b
 unfold mh Rv
 rw[ha,hb]
 by_cases h1:a=0
 ·rw[if_neg (by simpa using h1)]
  by_cases h2:b=0
  ·subst h1;subst h2
   refine aN (z:=.inl ()) (gm (z:=.inl ()) (mP 2 (by decide) (fun k hk=>?_) (ae (by simp) rfl)) rfl) rfl
   match k,hk with
   |0,_=>exact al (by simp) (af (by simp) (ae (by simp[ix]) rfl))
   |1,_=>exact al (by simp) (af (by simp) (ae (by simp[ix]) rfl))
  ·subst h1
   refine aN (z:=.inr b) (gm (z:=.inr b) (mP 1 (by decide) (fun k hk=>?_) ?_) rfl) rfl
   ·match k,hk with
    |0,_=>exact al (by simp) (af (by simp) (ae (by simp[ix]) rfl))
   ·exact al (by simp) (af (by simp) (al (by simp[ix,h2]) (by simp[ix])))
 ·rw[if_pos h1]
  refine aN (z:=.inr a) (gm (z:=.inr a) (mP 0 (by decide) (fun k hk=>by omega) ?_) rfl) rfl
  exact al (by simp) (af (by simp) (al (by simp[ix,h1]) (by simp[ix])))
theorem LH{a b:Int}(h:a<b):xR a b=-1:=by unfold xR;rw[if_pos h]
theorem LG{a b:Int}(h:b<a):xR a b=1:=by unfold xR;rw[if_neg (by omega),if_pos h]
theorem LF(a:Int):xR a a=0:=by unfold xR;rw[if_neg (by omega),if_neg (by omega)]
theorem GR(x y:an):ltOf Rv x y=decide (x.bA<y.bA\/(x.bA=y.bA/\x.To<y.To)):=by
 unfold ltOf
 congr 1
 rw[eq_iff_iff]
 unfold Rv
 rcases Int.lt_trichotomy x.bA y.bA with h|h|h
 ·rw[LH h];simp;exact .inl h
 ·rw[h,LF]
  rcases Int.lt_trichotomy x.To y.To with k|k|k
  ·rw[LH k];simp;exact k
  ·rw[k,LF];simp
  ·rw[LG k];simp;omega
 ·rw[LG h];simp;omega
theorem abC:SWO (ltOf Rv)where
 irrefl x:=by rw[GR];simp
 trans x y z h1 h2:=by rw[GR]at*;simp at*;omega
 ntrans x y z h1 h2:=by rw[GR]at*;simp at*;omega
def Kt(x:an):List Value:=[.int .i64 x.bA,.int .i64 x.To]
instance:Inhabited an:=⟨⟨0,0⟩⟩
theorem abW(w:World)(R:Nat->Nat)(x:an)(j:Nat)(c:AV)(v:Value)(hc:(aR.cells x)[j]? =some c)(hv:(Kt x)[j]? =some v):VR w R c v:=by
 match j,hc,hv with
 |0,hc,hv=>cases hc;cases hv;exact .int _ _
 |1,hc,hv=>cases hc;cases hv;exact .int _ _
theorem Zr(w:World)(R:Nat->Nat)(x:an)(vs:List Value)(hl:vs.length=2)(h:∀(j:Nat)(c:AV)(v:Value),(aR.cells x)[j]? =some c->vs[j]? =some v->VR w R c v):vs=Kt x:=by
 match vs,hl with
 |[a,b],_=>
  have h0:=VR.bT (h 0 _ a rfl rfl)
  have h1:=VR.bT (h 1 _ b rfl rfl)
  rw[h0,h1];rfl
theorem VY(sM off size:Nat)(w:World):CmpLays Tryz.prog 213 #[] Kt 2 Rv sM off size w:=
 KO (fun x y=>Df (ML x y)) (fun w R x=>.agg _ _ (fun c hc=>by
  rcases List.mem_cons.1 hc with rfl|hc
  ·rfl
  ·rcases List.mem_cons.1 hc with rfl|hc
   ·rfl
   ·cases hc) rfl fun j c v hc hv=>abW w R x j c v hc (by simpa using hv)) sM off size w
theorem Lk(sM off cap:Nat)(d:Array an)(w:World)(hH:HoldsK Kt 2 w sM off d)(hblk:sM<w.heap.size)(hsz:d.size<4611686018427387904):
 Calls Tryz.prog 212 #[.slice (some ⟨sM,off,none⟩) d.size cap,.func (.func 213) #[] #[]] w fun e w'=>e=.returned (.tuple #[])/\∃d' n os,PermIn 0 d.size d d'/\SortedIn (ltOf Rv) 0 d.size d'/\w'=sortWorldK Kt 2 w sM off n d' os:=by
 have eg:∀args w,(callFunc 213 args).run Tryz.prog w=.ok (.enter 213 args) w:=enters_of Tryz.func213 (by kernel_rfl) rfl
 exact AnyQ.slices_SortFunc Tryz.Mw 2 Tryz.isAgg188 Tryz.sizeOf188 Kt (fun _=>rfl) (fun x v hv=>by simp[Kt]at hv;rcases hv with rfl|rfl<;>rfl) Rv abC 213 #[] sM off cap d w eg (VY sM off d.size w) hH hblk hsz
theorem JQ{b cap:Nat}{l:List an}{sp:List AV}{s:ab}{Q:List AV->ab->Prop}(hs:s b=some (.cells (flat l++sp)))(hc:0<cap)(hb:l.length<4611686018427387904)
 (hq:∀l':List an,l'.Perm l->Asc l'->Q [] (s.set b (.cells (flat l'++sp)))):FN Tryz.prog 212 [.arr b 0 l.length cap,.fn 213 [] []] s Q:=
 S5 rfl (fun _=>rfl) Zr abW Lk hs hc hb fun l' h1 h2=>hq l' h1 (h2.imp fun{x y} h=>by
  rw[GR]at h
  unfold leS
  simp at h
  omega)
end Go.AB
end
section
set_option maxRecDepth 4000
namespace Go.AB
open Go
open Go.Proofs.Tryz (prog)
def ER:IC:=
 (ag [mv 10 1,bn 11 .add 10 1,mv 8 11] [0,1,2,3,8]
 (.block 0 (.loop [(0,false),(1,false),(2,false),(3,false),(8,false)] (.seq (ag [mv 12 8,mv 13 2,bt 14 .lss 12 13] [0,1,2,3,8,14]
 (.cond (.t 14) .skip
 (.exit 0)))
 (.seq (.block 1 (ag [mv 17 8,mv 9 17] [0,1,2,3,8,9]
 (.block 2 (.loop [(0,false),(1,false),(2,false),(3,false),(8,false),(9,false)] (.seq (.seq (.bP (some 17) [mv 18 9,mv 19 1,bt 20 .gtr 18 19,mv 21 20,bK 22 3 21 true,bK 23 0 21 true,bK 24 9 21 true,b6 25 21 true (.indexAddr [.int .i64 0,.int .i64 0] (.t 23) (.t 24)),b6 26 21 true (.load 2 true (.t 25)),bK 27 0 21 true,bK 28 9 21 true,im 29 21 true .sub 28 1,b6 30 21 true (.indexAddr [.int .i64 0,.int .i64 0] (.t 27) (.t 29)),b6 31 21 true (.load 2 true (.t 30)),b6 32 21 true (.dj (.t 22) [(.t 26),(.t 31)]),im 33 21 true .lss 32 0,pf 34 21 33] [0,1,2,3,8,9,34])
 (.cond (.t 34) .skip
 (.exit 2)))
 (.seq (.block 3 (.Az [] [(0,0,mv 37 0),(0,1,mv 38 9),(1,2,mv 39 0),(1,3,mv 40 9),(1,4,bn 41 .sub 40 1),(0,5,mv 42 0),(0,6,mv 43 9),(0,7,bn 44 .sub 43 1),(0,8,ia 45 [.int .i64 0,.int .i64 0] 42 44),(0,9,lm 46 2 45),(0,10,mv 47 0),(0,11,mv 48 9),(0,12,ia 49 [.int .i64 0,.int .i64 0] 47 48),(0,13,lm 50 2 49),(0,14,ia 51 [.int .i64 0,.int .i64 0] 37 38),(2,15,st 2 51 46),(0,16,ia 52 [.int .i64 0,.int .i64 0] 39 41),(2,17,st 2 52 50)] [0,1,2,3,8,9]))
 (.bP none [mv 35 9,bn 36 .sub 35 1,mv 9 36] [0,1,2,3,8,9])))))))
 (.bP none [mv 15 8,bn 16 .add 15 1,mv 8 16] [0,1,2,3,8]))))))
theorem M9:aY prog 278 53 [] ER=true:=by kernel_rfl
def ES:IC:=
 (ag [cY 10 (.bool true)] [0,1,2,3,4,10]
 (ag [cY 11 (.bool true)] [0,1,2,3,4,10,11]
 (.block 0 (.loop [(0,false),(1,false),(2,false),(3,false),(4,false),(10,false),(11,false)] (.block 1 (ag [mv 21 2,mv 22 1,bt 23 .sub 21 22,mv 12 23] [0,1,2,3,4,10,11,12]
 (.seq (ag [mv 24 12,bn 25 .leq 24 12] [0,1,2,3,4,10,11,12,25]
 (.cond (.t 25) (ag [mv 26 0,mv 27 1,mv 28 2,mv 29 4,Ld 30 278 26 27 28 29] []
 .ret)
 .skip))
 (.seq (ag [mv 31 3,bn 32 .eql 31 0] [0,1,2,3,4,10,11,12,32]
 (.cond (.t 32) (ag [mv 33 0,mv 34 1,mv 35 2,mv 36 4,Ld 37 279 33 34 35 36] []
 .ret)
 .skip))
 (.seq (ag [mv 38 10,no 39 38] [0,1,2,3,4,10,11,12,39]
 (.cond (.t 39) (ag [mv 40 0,mv 41 1,mv 42 2,mv 43 4,Ld 44 280 40 41 42 43] [0,1,2,3,4,10,11,12]
 (.bP none [mv 45 3,bn 46 .sub 45 1,mv 3 46] [0,1,2,3,4,10,11,12]))
 .skip))
 (ag [mv 48 0,mv 49 1,mv 50 2,mv 51 4,Ld 52 281 48 49 50 51,mv 47 52,ex 53 47 0,ex 54 47 1,mv 13 53,mv 14 54] [0,1,2,3,4,10,11,12,13,14]
 (.seq (ag [mv 55 14,bn 56 .eql 55 2] [0,1,2,3,4,10,11,12,13,14,56]
 (.cond (.t 56) (ag [mv 57 0,mv 58 1,mv 59 2,mv 60 4,Ld 61 282 57 58 59 60] [0,1,2,3,4,10,11,12,13]
 (ag [mv 62 2,bn 63 .sub 62 1,mv 64 13,mv 65 1,bt 66 .sub 64 65,bt 67 .sub 63 66,mv 13 67] [0,1,2,3,4,10,11,12,13]
 (.bP none [mi 14 1] [0,1,2,3,4,10,11,12,13,14])))
 .skip))
 (.seq (ag [mv 68 10,mv 69 68,bK 70 11 69 true,pf 71 69 70,mv 72 71,bK 73 14 72 true,im 74 72 true .eql 73 1,pf 75 72 74] [0,1,2,3,4,10,11,12,13,75]
 (.cond (.t 75) (ag [mv 76 0,mv 77 1,mv 78 2,mv 79 4,Ld 80 283 76 77 78 79] [0,1,2,3,4,10,11,12,13,80]
 (.cond (.t 80) .ret
 .skip))
 .skip))
 (.seq (.seq (.bP (some 17) [mv 81 1,bn 82 .gtr 81 0,mv 83 82,bK 84 4 83 true,bK 85 0 83 true,bK 86 1 83 true,im 87 83 true .sub 86 1,b6 88 83 true (.indexAddr [.int .i64 0,.int .i64 0] (.t 85) (.t 87)),b6 89 83 true (.load 2 true (.t 88)),bK 90 0 83 true,bK 91 13 83 true,b6 92 83 true (.indexAddr [.int .i64 0,.int .i64 0] (.t 90) (.t 91)),b6 93 83 true (.load 2 true (.t 92)),b6 94 83 true (.dj (.t 84) [(.t 89),(.t 93)]),im 95 83 true .lss 94 0,b6 96 83 true (.un .not (.t 95)),pf 97 83 96] [0,1,2,3,4,10,11,12,13,97])
 (.cond (.t 97) (ag [mv 98 0,mv 99 1,mv 100 2,mv 101 13,mv 102 4,i1 103 (.call 284 [(.t 98),(.t 99),(.t 100),(.t 101),(.t 102)]),mv 15 103] [0,2,3,4,10,11,15]
 (ag [mv 104 15,mv 1 104] [0,1,2,3,4,10,11]
 (.exit 1)))
 .skip))
 (ag [mv 106 0,mv 107 1,mv 108 2,mv 109 13,mv 110 4,i1 111 (.call 285 [(.t 106),(.t 107),(.t 108),(.t 109),(.t 110)]),mv 105 111,ex 112 105 0,ex 113 105 1,mv 16 112,mv 17 113] [0,1,2,3,4,12,16,17]
 (ag [mv 114 17,mv 11 114] [0,1,2,3,4,11,12,16]
 (ag [mv 115 16,mv 116 1,bt 117 .sub 115 116,mv 118 2,mv 119 16,bt 120 .sub 118 119,mv 18 117,mv 19 120] [0,1,2,3,4,11,12,16,18,19]
 (ag [mv 121 12,bn 122 .quo 121 8,mv 20 122] [0,1,2,3,4,11,16,18,19,20]
 (ag [mv 123 18,mv 124 19,bt 125 .lss 123 124] [0,1,2,3,4,11,16,18,19,20,125]
 (.cond (.t 125) (ag [mv 126 18,mv 127 20,bt 128 .geq 126 127,mv 10 128] [0,1,2,3,4,10,11,16]
 (ag [mv 129 0,mv 130 1,mv 131 16,mv 132 3,mv 133 4,i1 134 (.call 250 [(.t 129),(.t 130),(.t 131),(.t 132),(.t 133)])] [0,2,3,4,10,11,16]
 (.bP none [mv 135 16,bn 136 .add 135 1,mv 1 136] [0,1,2,3,4,10,11])))
 (ag [mv 137 19,mv 138 20,bt 139 .geq 137 138,mv 10 139] [0,1,2,3,4,10,11,16]
 (ag [mv 140 0,mv 141 16,bn 142 .add 141 1,mv 143 2,mv 144 3,mv 145 4,i1 146 (.call 250 [(.t 140),(.t 142),(.t 143),(.t 144),(.t 145)])] [0,1,3,4,10,11,16]
 (.bP none [mv 147 16,mv 2 147] [0,1,2,3,4,10,11]))))))))))))))))))))))
theorem Na:aY prog 250 148 [] ES=true:=by kernel_rfl
def BU:IC:=
 (ag [mv 5 0,le 6 0 5,mv 4 6] [0,1,4]
 (.bP none [mv 7 0,mv 8 4,mv 9 4,i1 10 (.cC .u64 (.t 9)),c1 11 251 10,mv 12 1,i1 13 (.call 250 [(.t 7),(.c (.int .i64 0)),(.t 8),(.t 11),(.t 12)])] []))
theorem KJ:aY prog 212 14 [] BU=true:=by kernel_rfl
theorem On{s:ab}{Q:List AV->ab->Prop}(hq:Q [.int .i64 0] s):FN prog 251 [.int .u64 0] s Q:=by
 intro G w vs hg ho cj ha
 have hvs:vs= #[.int .u64 0]:=by
  obtain⟨h1,h2⟩:=ha
  have h1':vs.size=1:=h1
  apply Array.ext (by simpa using h1')
  intro i hi1 hi2
  have hi:i<1:=by omega
  match i,hi with
  |0,_=>exact VR.bT (h2 0 _ _ rfl (Array.getElem?_eq_getElem (by omega)))
 subst hvs
 have h:=Go.Proofs.Any.bits_Len (Go.Proofs.SlLaysF0.n15.bits (P:=prog) (ρ:=Go.Proofs.Tryz.zQ) {Go.Proofs.Tryz.Mw with}) 0 w (by omega) (by omega)
 refine h.mono ?_
 rintro e w' ⟨rfl,rfl⟩
 exact⟨_,[.int .i64 0],s,G,rfl,hq,hg,cj,⟨.int _ _,trivial⟩,az.refl G w'⟩
theorem KE{b off:Nat}{s:ab}{Q:List AV->ab->Prop}(hq:Q [] s):FN prog 278 [.arr b off 0 0,.int .i64 0,.int .i64 0,.fn 213 [] []] s Q:=by
 refine FO M9 rfl rfl ?_
 rw[ER]
 simp -implicitDefEqProofs only[go_sem,seval]
 refine⟨fun τ=>τ=_,fun _=>0,rfl,?_⟩
 rintro τ rfl
 simp -implicitDefEqProofs only[go_sem,seval,show ao (0+1)=1 from by decide]
 refine⟨fun h=>absurd (of_decide_eq_true h) (by decide),fun _=>?_⟩
 first|exact hq|(simp -implicitDefEqProofs only[go_sem,seval];exact hq)
theorem K5{b off:Nat}{r:Int}{s:ab}{Q:List AV->ab->Prop}(hq:Q [] s):FN prog 250 [.arr b off 0 0,.int .i64 0,.int .i64 0,.int .i64 r,.fn 213 [] []] s Q:=by
 refine FO Na rfl rfl ?_
 rw[ES]
 simp -implicitDefEqProofs only[go_sem,seval]
 refine⟨fun τ=>τ=_,fun _=>0,rfl,?_⟩
 rintro τ rfl
 simp -implicitDefEqProofs only[go_sem,seval,show ao (0 -0)=0 from by decide]
 refine⟨fun _=>KE ?_,fun h=>absurd (of_decide_eq_false h) (by decide)⟩
 simp -implicitDefEqProofs only[go_sem,seval]
 exact hq
theorem JP{b off:Nat}{s:ab}{Q:List AV->ab->Prop}(hq:Q [] s):FN prog 212 [.arr b off 0 0,.fn 213 [] []] s Q:=by
 refine FO KJ rfl rfl ?_
 rw[BU]
 simp -implicitDefEqProofs only[go_sem,seval]
 refine On ?_
 simp -implicitDefEqProofs only[go_sem,seval]
 refine K5 ?_
 simp -implicitDefEqProofs only[go_sem,seval]
 exact hq
theorem Li(O:List an)(y:an)(sp:List AV)(v:Int):setAt (flat (O++[y])++sp) (O.length*2+1) [AV.int .i64 v]=flat (O++[⟨y.bA,v⟩])++sp:=by
 have e:flat (O++[⟨y.bA,v⟩])++sp=setAt (flat (O++[y])++sp) (O.length*2) (flat [(⟨y.bA,v⟩:an)]):=by
  have:=p7 (O++[y]) [⟨y.bA,v⟩] sp 2 O.length rfl (by simp)
  rw[this]
  simp
 rw[e]
 have hl:O.length*2+2<=(flat (O++[y])++sp).length:=by
  rw[List.length_append,aE]
  show O.length*2+2<=(O++[y]).length*2+_
  simp;omega
 apply List.ext_getElem?
 intro j
 rw[mo _ _ _ _ (by show O.length*2+1+1<=_;omega),mo _ _ _ _ (by show O.length*2+2<=_;exact hl)]
 show(if O.length*2+1<=j/\j<O.length*2+1+1 then _ else _)=if O.length*2<=j/\j<O.length*2+2 then _ else _
 by_cases h1:j=O.length*2+1
 ·subst h1
  rw[if_pos (by omega),if_pos (by omega),Nat.sub_self,show O.length*2+1 -O.length*2=1 by omega];rfl
 ·rw[if_neg (by omega)]
  by_cases h2:j=O.length*2
  ·subst h2
   rw[if_pos (by omega),Nat.sub_self]
   have:=uP (O++[y]) sp (i:=O.length) (by simp) (r:=0) (by decide)
   rw[Nat.add_zero]at this
   have e2:(O++[y])[O.length]'(by simp)=y:=by simp
   rw[e2]at this
   exact this
  ·rw[if_neg (by omega)]
theorem Nd(O:List an)(y:an)(sp:List AV):(flat (O++[y])++sp)[O.length*2+1]? =some (.int .i64 y.To):=by
 have:=uP (O++[y]) sp (i:=O.length) (by simp) (r:=1) (by decide)
 have e:(O++[y])[O.length]'(by simp)=y:=by simp
 rw[e]at this
 exact this
theorem PL(O:List an)(y:an)(sp:List AV):O.length*2+1+1<=(flat (O++[y])++sp).length:=by
 rw[List.length_append,aE]
 show O.length*2+2<=(O++[y]).length*2+_
 simp;omega
def pN:IC:=(ag [cY 6 (.arr 0 0 0 0)] [1,5,6]
 (.seq (ag [mv 17 5,
 le 18 0 17,
 mi 19 0] [1,6,17,18,19]
 (.block 0 (.loop [(1,false),(6,false),(17,false),(18,false),(19,false)] (ag [bt 20 .lss 19 18] [1,6,17,18,19,20]
 (.seq (.cond (.t 20) .skip
 (.exit 0))
 (.seq (.block 1 (ag [ia 21 [.int .i64 0,.int .i64 0] 17 19,
 i1 22 (.bM [.int .i64 0,.int .i64 0] true (.t 21)),
 i1 8 (.aA [.int .i64 0,.int .i64 0]),
 st 2 8 22] [1,6,8,17,18,19]
 (.seq (ag [mv 23 6,
 le 24 0 23,
 mv 9 24] [1,6,8,9,17,18,19]
 (.seq (.bP (some 15) [mv 25 9,
 bn 26 .gtr 25 0,
 mv 27 26,
 fg 28 27 true 0 8,
 lg 29 27 true 1 28,
 bK 30 6 27 true,
 bK 31 9 27 true,
 im 32 27 true .sub 31 1,
 b6 33 27 true (.indexAddr [.int .i64 0,.int .i64 0] (.t 30) (.t 32)),
 fg 34 27 true 1 33,
 b6 35 27 true (.lQ .i64 (.t 34)),
 sm 36 27 true .sub 29 35,
 bK 37 1 27 true,
 sm 38 27 true .leq 36 37,
 pf 39 27 38] [1,6,8,9,17,18,19,39])
 (.cond (.t 39) (.seq (.bP (some 14) [mv 40 6,
 mv 41 9,
 bn 42 .sub 41 1,
 mv 43 6,
 mv 44 9,
 bn 45 .sub 44 1,
 ia 46 [.int .i64 0,.int .i64 0] 43 45,
 fa 47 1 46,
 i1 48 (.lQ .i64 (.t 47)),
 fa 49 1 8,
 ld 50 1 49,
 i1 51 (.gT true [(.t 48),(.t 50)]),
 ia 52 [.int .i64 0,.int .i64 0] 40 42,
 fa 53 1 52,
 st 1 53 51] [1,6,17,18,19])
 (.exit 1))
 .skip)))
 (.bP none [mv 54 6,
 lm 55 2 8,
 i1 56 (.bB 2 1 [.int .i64 0,.int .i64 0] [(0,2,(.t 55))]),
 i1 57 (.fL 2 16 [.int .i64 0,.int .i64 0] (.t 54) (.t 56)),
 mv 6 57] [1,6,17,18,19]))))
 (.bP none [bn 58 .add 19 1,
 mv 19 58] [1,6,17,18,19])))))))
 (ag [mv 59 6,
 i1 4 (.NY 2 true (.t 59))] [4]
 .ret)))
def wJ:IC:=
 (ag [i1 4 (.iJ true (.c (.sl true 2 0 [])))] [0,1]
 (ag [mv 10 1,i1 11 (.gT true [(.c (.int .i64 0)),(.t 10)]),mv 1 11] [0,1]
 (ag [mt 12 0,c1 13 203 12,i1 14 (.vJ 211 13 [(.t 13),(.c (.fn 175 [] []))]),mv 5 14] [1,5]
 (ag [mv 15 5,i1 16 (.call 212 [(.t 15),(.c (.fn 213 [] []))])] [1,5]
 pN))))
def kP:List mw:=[⟨4,true,none⟩]
theorem GI:aY prog 177 60 kP wJ=true:=by kernel_rfl
theorem GK(gap:Int)(out:List an)(x:an):(eQ gap out x).length<=out.length+1/\0<(eQ gap out x).length:=by
 unfold eQ
 split
 ·simp
 ·split
  ·simp
  ·simp
theorem EZ(gap:Int):∀(l out:List an),(l.foldl (eQ gap) out).length<=out.length+l.length
 |[],out=>by simp
 |x::l,out=>by
  have h1:=EZ gap l (eQ gap out x)
  have h2:=(GK gap out x).1
  simp only[List.foldl_cons,List.length_cons];omega
theorem E0{b off cap:Nat}{F:List an}{s1:ab}{gap:Int}{Q:List AV->ab->Prop}(hF:0<F.length->off=0/\∃sp,s1 b=some (.cells (flat F++sp)))(hl:F.length*16<=room)
 (hq:∀s',Sub s1 s'->Q [.sl true 2 (L5 gap F).length (flat (L5 gap F))] s'):fN prog pN (Hx kP Q) ⟨[(1,.int .i64 gap),(5,.arr b off F.length cap)],[],s1⟩:=by
 have hl':=hl
 unfold room at hl'
 rw[pN,kP]
 simp -implicitDefEqProofs only[go_sem,seval]
 refine⟨fun τ=>∃(k:Nat)(s':ab)(r:cm),τ=⟨[(1,.int .i64 gap),(6,ga r ((F.take k).foldl (eQ gap) []).length),(17,.arr b off F.length cap),(18,.int .i64 (F.length:Nat)),(19,.int .i64 (k:Nat))],[],fc s' r ((F.take k).foldl (eQ gap) [])⟩/\k<=F.length/\Sub s1 s'/\fH s' r ((F.take k).foldl (eQ gap) []),
  fun τ=>match look τ.e 19 with|.int _ j=>F.length -j.toNat|_=>0,⟨0,s1,none,rfl,Nat.zero_le _,Sub.refl _,rfl⟩,?_⟩
 rintro τ ⟨k,s',r,rfl,hk,hs,hok⟩
 have hol:=EZ gap (F.take k) []
 rw[List.length_take]at hol
 simp only[List.length_nil]at hol
 generalize hO:(F.take k).foldl (eQ gap) []=O at hok hol
 simp -implicitDefEqProofs only[go_sem,seval]
 refine⟨fun hkl=>?_,fun hkl=>?_⟩
 ·have hkl:k<F.length:=by have:=of_decide_eq_true hkl;omega
  obtain⟨rfl,sp,hb⟩:=hF (by omega)
  have hb':=gX hok (hs b _ hb)
  have hx:views (AB.sub (flat F++sp) (k*2) 2)=[.int .i64 (F[k]).bA,.int .i64 (F[k]).To]:=by
   have:=nI F sp 2 k 1 rfl (by omega)
   rw[Nat.one_mul]at this
   rw[this,List.drop_eq_getElem_cons hkl];rfl
  have cF:decide (k*2+2<=(flat F).length+sp.length)=true:=decide_eq_true (by rw[aE];show k*2+2<=F.length*2+_;omega)
  simp -implicitDefEqProofs only[go_sem,seval,hb',hx,cF]
  have hw1:ao ((k:Int)+1)=((k+1:Nat):Int):=by rw[au (by omega) (by omega)];omega
  have nu:(F.take (k+1)).foldl (eQ gap) []=eQ gap O F[k]:=by rw[List.take_succ_eq_append_getElem hkl,List.foldl_append,hO];rfl
  refine⟨⟨by omega,by omega⟩,of_decide_eq_true cF,?_⟩
  have v7:min k F.length=k:=by omega
  rw[v7]at hol
  have bz:(O.length+1)*16<=room:=by unfold room;omega
  rcases List.eq_nil_or_concat O with rfl|⟨O,y,rfl⟩
  ·have e0:decide ((([]:List an).length:Int)>0)=false:=by decide
   have hj:eQ gap [] F[k]=[]++[F[k]]:=rfl
   rw[e0]
   refine⟨fun h=>(by cases h),fun h=>(by cases h),fun h=>(by cases h),fun _=>?_⟩
   rw[kQ]
   refine sL (z:=an.mk 0 0) (v:=F[k]) rfl hok rfl bz fun s2 r' h1 h2=>?_
   simp -implicitDefEqProofs only[go_sem,seval,hw1]
   refine⟨⟨k+1,s2,r',?_,hkl,fun b o hb=>h1 b o (hs b o hb),?_⟩,by omega⟩
   ·rw[nu,hj];rfl
   ·rw[nu,hj];exact h2
  ·rw[List.concat_eq_append]at hok hol hO nu bz⊢
   rw[D4]at nu
   have TX:(O++[y]).length=O.length+1:=by simp
   have hw:ao (((O++[y]).length:Int) -1)=(O.length:Int):=by rw[TX,au (by omega) (by omega)];omega
   have e0:decide (((O++[y]).length:Int)>0)=true:=decide_eq_true (by omega)
   obtain⟨b2,Ox,sp2,rfl⟩:=Hz hok (by simp)
   have jU:fc s' (some (b2,Ox,sp2)) (O++[y]) b2=some (.cells (flat (O++[y])++sp2)):=gY
   have cS:=Nd O y sp2
   have hcc:GP .i64 (O.length*2+1) (some (.cells (flat (O++[y])++sp2))):=⟨_,cS⟩
   have hvv:GQ (O.length*2+1) (some (.cells (flat (O++[y])++sp2)))=y.To:=by
    show intOf _=_
    rw[cS];rfl
   rw[hw,e0,Int.toNat_natCast,show JH (some (b2,Ox,sp2))=b2 from rfl,jU,hvv,Bool.true_and]
   refine⟨fun _=>⟨by omega,by omega⟩,fun _=>hcc,fun he=>⟨⟨by omega,by omega⟩,hcc,⟨by omega,by omega⟩,?_⟩,fun he=>?_⟩
   ·have he:=of_decide_eq_true he
    rw[if_pos he]at nu
    have LU:(O++[(⟨y.bA,max y.To (F[k]).To⟩:an)]).length=O.length+1:=by simp
    show JY none _ (Tl _ b2 (dt (O.length*2+1) [AV.int .i64 (max y.To (F[k]).To)] (flat (O++[y])++sp2)))
    unfold dt
    rw[decide_eq_true (show O.length*2+1+[AV.int .i64 (max y.To (F[k]).To)].length<=_ from PL O y sp2),Li]
    generalize hX:flat (O++[(⟨y.bA,max y.To (F[k]).To⟩:an)])++sp2=X
    simp -implicitDefEqProofs only[go_sem,seval,hw1]
    have e:(fc s' (some (b2,Ox,sp2)) (O++[y])).set b2 (.cells X)=fc s' (some (b2,Ox,sp2)) (O++[(⟨y.bA,max y.To (F[k]).To⟩:an)]):=by rw[<-hX];exact set_set ..
    refine⟨⟨k+1,s',some (b2,Ox,sp2),?_,hkl,hs,?_⟩,by omega⟩
    ·rw[nu,e,LU];rfl
    ·rw[nu];exact Mt hok (by rw[LU,TX])
   ·have he:=of_decide_eq_false he
    rw[if_neg he]at nu
    rw[kQ]
    refine sL (z:=an.mk 0 0) (v:=F[k]) rfl hok rfl bz fun s2 r' h1 h2=>?_
    simp -implicitDefEqProofs only[go_sem,seval,hw1]
    have LU:(O++[y]++[F[k]]).length=O.length+1+1:=by simp
    refine⟨⟨k+1,s2,r',?_,hkl,fun b o hb=>h1 b o (hs b o hb),?_⟩,by omega⟩
    ·rw[nu,LU]
    ·rw[nu];exact h2
 ·have hkl:k=F.length:=by have:=of_decide_eq_false hkl;omega
  subst hkl
  rw[List.take_length]at hO
  have hO':L5 gap F=O:=hO
  rw[hO']at hq
  refine A2 (s:=s') (r:=r) (l:=O) rfl hok rfl ?_
  simp -implicitDefEqProofs only[go_sem,seval]
  exact hq s' hs
def leB(x y:an):Bool:=decide (x.bA<y.bA\/(x.bA=y.bA/\x.To<=y.To))
def srt(l:List an):List an:=l.mergeSort leB
theorem S6(l:List an):Asc (srt l):=by
 have h:=List.pairwise_mergeSort (le:=leB) (fun a b c h1 h2=>by unfold leB at*;simp at*;omega) (fun a b=>by unfold leB;simp;omega) l
 exact h.imp fun{a b} h=>by unfold leB at h;unfold leS;simpa using h
theorem Bp:∀{l m:List an},l.Perm m->Asc l->Asc m->l=m
 |[],m,hp,_,_=>(List.nil_perm.1 hp).symm
 |x::l,[],hp,_,_=>by have:=hp.length_eq;simp at this
 |x::l,y::m,hp,hl,hm=>by
  have hxm:x∈y::m:=hp.mem_iff.1 List.mem_cons_self
  have hyl:y∈x::l:=hp.mem_iff.2 List.mem_cons_self
  have e:x=y:=by
   rcases List.mem_cons.1 hxm with h|h
   ·exact h
   ·rcases List.mem_cons.1 hyl with h'|h'
    ·exact h'.symm
    ·have h1:=(List.pairwise_cons.1 hm).1 x h
     have h2:=(List.pairwise_cons.1 hl).1 y h'
     obtain⟨a,b⟩:=x;obtain⟨c,d⟩:=y
     unfold leS at h1 h2
     simp only at h1 h2
     have e1:a=c:=by omega
     have e2:b=d:=by omega
     rw[e1,e2]
  subst e
  rw[Bp (List.Perm.cons_inv hp) (List.pairwise_cons.1 hl).2 (List.pairwise_cons.1 hm).2]
def zd(l:List an)(gap:Int):Option (List an):=aH (l.length*16<=room) (some (L5 (max 0 gap) (srt (full l))))
theorem HH{l:List an}{gap:Int}{s:ab}{Q:List AV->ab->Prop}(h:ok (zd l gap) fun r=>Q [.sl true 2 r.length (flat r)] s):FN prog 177 [.sl false 2 l.length (flat l),.int .i64 gap] s Q:=by
 unfold zd at h
 rw[fM,aP]at h
 obtain⟨hr,hq⟩:=h
 have aeO:(full l).length<=l.length:=List.length_filter_le _ _
 have hsl:(srt (full l)).length=(full l).length:=List.length_mergeSort _
 refine FN.qf ?_
 refine FO GI rfl rfl ?_
 rw[wJ,kP]
 simp -implicitDefEqProofs only[go_sem,seval]
 refine FE.app (Ij hr) ?_
 simp -implicitDefEqProofs only[go_sem,seval]
 refine⟨fun b cap sp hb h0 hn hl hf hv=>?_,fun hn b off=>?_⟩
 ·simp -implicitDefEqProofs only[go_sem,seval]
  refine Kl hr gY hn hl fun sp' hl'=>?_
  simp -implicitDefEqProofs only[go_sem,seval]
  have hfc:(full l).length<=cap:=by omega
  refine JQ gY h0 (by unfold room at hr;omega) fun F hp ads=>?_
  simp -implicitDefEqProofs only[go_sem,seval]
  have hF:F=srt (full l):=Bp (hp.trans (List.mergeSort_perm _ _).symm) ads (S6 _)
  have hFl:F.length=(full l).length:=by rw[hF,hsl]
  rw[<-hFl]
  refine E0 (fun _=>⟨rfl,sp',?_⟩) (by omega) fun s' hs'=>?_
  ·exact gY
  ·rw[hF]
   refine⟨s,fun b' o' h'=>hs' b' o' ?_,hq⟩
   have hb:s b=none:=hb
   have hne:b'≠b:=fun e=>by rw[e,hb]at h';cases h'
   unfold ab.set
   rw[if_neg hne];exact h'
 ·have hl0:l=[]:=List.eq_nil_of_length_eq_zero hn
  subst hl0
  simp -implicitDefEqProofs only[go_sem,seval]
  refine Kk ?_
  simp -implicitDefEqProofs only[go_sem,seval]
  refine JP ?_
  simp -implicitDefEqProofs only[go_sem,seval]
  refine E0 (F:=[]) (fun h=>(by simp at h)) (by simp) fun s' hs'=>?_
  have e0:srt (full [])=[]:=List.eq_nil_of_length_eq_zero (by rw[hsl];rfl)
  rw[e0]at hq
  exact⟨s,hs',hq⟩
end Go.AB
end
section
set_option maxRecDepth 4000
namespace Go.AB
open Go
open Go.Proofs.Tryz (prog)
attribute[-go_sem] Nat.add_zero tz du
def BS:IC:=
 (ag [i1 2 (.iJ true (.c (.sl true 2 0 [])))] [0]
 (.seq (ag [mv 3 0,i1 4 (.HO false (.t 3) (.c (.cZ)))] [0,4]
 (.cond (.t 4) (ag [i1 2 (.iJ true (.c (.sl true 2 0 [])))] [2]
 .ret)
 .skip))
 (ag [mv 5 0,nc 6 5,fa 7 0 6,ld 8 1 7,c1 9 203 8,mt 2 9] [2]
 .ret)))
theorem KG:aY prog 168 10 [⟨2,true,none⟩] BS=true:=by kernel_rfl
def zE:IC:=
 (ag [mi 4 0] [0,1]
 (.seq (ag [mv 7 0,c1 8 168 7,le 9 0 8,mi 10 0] [1,8,9,10]
 (.block 0 (.loop [(1,false),(8,false),(9,false),(10,false)] (ag [bt 11 .lss 10 9] [1,8,9,10,11]
 (.seq (.cond (.t 11) .skip
 (.exit 0))
 (.seq (.block 1 (ag [ia 12 [.int .i64 0,.int .i64 0] 8 10,lm 13 2 12,i1 6 (.aA [.int .i64 0,.int .i64 0]),st 2 6 13] [1,6,8,9,10]
 (ag [fa 14 0 6,ld 15 1 14,mv 16 1,bt 17 .leq 15 16,mv 18 17,bK 19 1 18 true,fg 20 18 true 1 6,lg 21 18 true 1 20,sm 22 18 true .lss 19 21,pf 23 18 22] [1,6,8,9,10,23]
 (.cond (.t 23) (ag [fa 24 1 6,ld 25 1 24,mv 4 25] [4]
 .ret)
 .skip))))
 (.bP none [bn 26 .add 10 1,mv 10 26] [1,8,9,10])))))))
 (ag [mv 27 1,mv 4 27] [4]
 .ret)))
theorem I2:aY prog 117 28 [⟨4,true,none⟩] zE=true:=by kernel_rfl
def BT:IC:=
 (ag [i1 3 (.jf 2 (.t 1))] [0,3]
 (ag [mv 4 0,i1 5 (.HO true (.t 4) (.c (.cZ)))] [0,3,5]
 (.cond (.t 5) (.Az [] [(1,0,mv 6 0),(1,1,mv 7 0),(1,2,nc 8 7),(1,3,fa 9 0 8),(1,5,lm 11 2 3),(1,6,i1 12 (.bB 2 1 [.int .i64 0,.int .i64 0] [(0,2,(.t 11))])),(2,4,i1 10 (.lq (.t 9))),(1,7,JA 13 2 16 10 12),(2,8,i1 14 (.call 177 [(.t 13),(.c (.int .i64 0))])),(1,9,nc 15 6),(1,10,fa 16 0 15),(3,11,st 1 16 14)] [])
 .skip)))
theorem KH:aY prog 121 17 [] BT=true:=by kernel_rfl
def ql:IC:=
 (ag [ld 4 1 1,mv 5 0,bt 6 .lss 4 5] [0,1,2,6]
 (.cond (.t 6) (.bP none [i1 7 (.lq (.t 2)),ld 8 1 1,mv 9 0,i1 10 (.build [.int .i64 0,.int .i64 0] [(0,1,(.t 8)),(1,1,(.t 9))]),i1 11 (.bB 2 1 [.int .i64 0,.int .i64 0] [(0,2,(.t 10))]),JA 12 2 16 7 11,st 1 2 12] [])
 .skip))
theorem z8:aY prog 176 13 [] ql=true:=by kernel_rfl
def rq:IC:=
 (ag [i1 3 (.jf 2 (.t 1)),i1 4 (.iJ true (.c (.sl true 2 0 [])))] [0,3]
 (.seq (ag [lm 10 2 3,c1 11 175 10] [0,3,11]
 (.cond (.t 11) (ag [i1 4 (.iJ true (.c (.sl true 2 0 [])))] [4]
 .ret)
 .skip))
 (ag [i1 5 (.gH [.sl true 2 0 []])] [0,3,5]
 (ag [fa 12 0 3,ld 13 1 12,i1 6 (.gH vm),st 1 6 13] [0,3,5,6]
 (ag [i1 14 (.lI 176 [] [(.t 6),(.t 5)]),mv 7 14] [0,3,5,6,7]
 (.seq (ag [mv 15 0,c1 16 168 15,le 17 0 16,mi 18 0] [3,5,6,7,16,17,18]
 (.block 0 (.loop [(3,false),(5,false),(6,false),(7,false),(16,false),(17,false),(18,false)] (ag [bt 19 .lss 18 17] [3,5,6,7,16,17,18,19]
 (.seq (.cond (.t 19) .skip
 (.exit 0))
 (.seq (.block 1 (ag [ia 20 [.int .i64 0,.int .i64 0] 16 18,lm 21 2 20,i1 9 (.aA [.int .i64 0,.int .i64 0]),st 2 9 21] [3,5,6,7,9,16,17,18]
 (ag [mv 22 7,fa 23 0 9,ld 24 1 23,fa 25 1 3,ld 26 1 25,i1 27 (.gT false [(.t 24),(.t 26)]),i1 28 (.dj (.t 22) [(.t 27)])] [3,5,6,7,9,16,17,18]
 (.bP none [ld 29 1 6,fa 30 1 9,ld 31 1 30,fa 32 1 3,ld 33 1 32,i1 34 (.gT false [(.t 31),(.t 33)]),i1 35 (.gT true [(.t 29),(.t 34)]),st 1 6 35] [3,5,6,7,16,17,18]))))
 (.bP none [bn 36 .add 18 1,mv 18 36] [3,5,6,7,16,17,18])))))))
 (ag [mv 37 7,fa 38 1 3,ld 39 1 38,i1 40 (.dj (.t 37) [(.t 39)])] [5]
 (ag [ld 41 1 5,mt 4 41] [4]
 .ret))))))))
theorem BZ:aY prog 119 42 [⟨4,false,none⟩] rq=true:=by kernel_rfl
abbrev Dy(l:List an):AV:=.sl true 2 l.length (flat l)
abbrev UC(l:List an):AV:=.sl false 2 l.length (flat l)
def zr(s:ab)(b off:Nat)(cs:List AV)(l:List an):Prop:=s b=some (.cells cs)/\cs[off]? =some (Dy l)
theorem Xj{cs:List AV}{off:Nat}{a:AV}(h:cs[off]? =some a):off+1<=cs.length/\sub cs off 1=[a]:=by
 obtain⟨h1,h2⟩:=List.getElem?_eq_some_iff.1 h
 refine⟨h1,?_⟩
 unfold sub
 rw[List.drop_eq_getElem_cons h1,h2];rfl
@[go_sem]theorem Y9(s:ab)(C:AV->ab->Prop)(b off:Nat):qZ s C (.ref b off)=vF b off s C (s b):=rfl
@[go_sem]theorem Q6(b off:Nat)(s:ab)(C:AV->ab->Prop)(cs:List AV):vF b off s C (some (.cells cs))=iD off cs fun cs' a=>C a (s.set b (.cells cs')):=rfl
theorem QO{cs:List AV}{off:Nat}{l:List an}{k:List AV->AV->Prop}(h:cs[off]? =some (Dy l)):iD off cs k=k (setAt cs off [UC l]) (Dy l):=by unfold iD;rw[h]
theorem NM{cs:List AV}{off:Nat}{l:List an}{k:List AV->AV->Prop}(h:cs[off]? =some (Dy l)):iD (off+0) cs k=k (setAt cs off [UC l]) (Dy l):=QO h
theorem JN{cs:List AV}{off:Nat}{x y:AV}(h:off<cs.length):setAt (setAt cs off [x]) off [y]=setAt cs off [y]:=by
 have hl:∀z,off<(setAt cs off [z]).length:=fun z=>by rw[mq _ _ _ (show off+[z].length<=cs.length from h)];exact h
 apply List.ext_getElem?
 intro j
 rw[th _ _ _ (hl x),th _ _ _ h,th _ _ _ h]
 by_cases e:j=off<;>simp[e]
theorem VZ{cs:List AV}{off:Nat}{l:List an}(h:cs[off]? =some (Dy l)):iC false (bif decide (off+0+1<=cs.length)then some (views (sub cs (off+0) 1))else none)=.cT (UC l):=by
 obtain⟨h1,h2⟩:=Xj h
 show iC false (bif decide (off+1<=cs.length)then some (views (sub cs off 1))else none)=_
 rw[h2,decide_eq_true h1];rfl
theorem Ii{o:Bool}{l:List an}{s:ab}{Q:List AV->ab->Prop}(hr:l.length*16<=room)(hq:Q [Dy l] s):FN prog 203 [.sl o 2 l.length (flat l)] s Q:=by
 refine FN.W8 (s2:=s) (aE l) (bX l) hq (FN.mono (vN hr) fun rs s' h=>?_)
 rcases h with⟨b,cap,sp,h1,h2,h3,h4,h5,h6,h7⟩|⟨h1,h2,h3⟩
 ·exact .inl ⟨b,cap,sp,h1,by rw[h7];exact gY,h3,h4,h5,by rw[h7,AZ h2];exact Sub.refl s⟩
 ·subst h1;exact .inr ⟨rfl,rfl,by rw[h2];exact Sub.refl s,h3⟩
def AQ(l:List an):Option (List an):=aH (l.length*16<=room) (some l)
theorem Bh{s:ab}{b off:Nat}{cs:List AV}{l:List an}{Q:List AV->ab->Prop}(hb:zr s b off cs l):ok (AQ l) (fun r=>Q [Dy r] s)->FN prog 168 [.ref b off] s Q:=by
 intro hh
 refine FN.qf (FO KG rfl rfl ?_)
 unfold AQ at hh
 revert hh
 rw[BS]
 simp -implicitDefEqProofs only[go_sem,seval,hb.1]
 rintro⟨hr,hq⟩
 refine⟨fun h=>h.elim,fun _=>?_⟩
 rw[VZ hb.2]
 simp -implicitDefEqProofs only[go_sem,seval]
 refine Ii hr ?_
 simp -implicitDefEqProofs only[go_sem,seval]
 exact⟨s,Sub.refl s,hq⟩
def UN(l:List an)(at_:Int)(k:Int):Option (Int⊕Int):=
 if decide (k<(l.length:Int))then
  aH (0<=k/\k<l.length)<|
  if(decide ((ix l k).bA<=at_))&&(decide (at_<(ix l k).To))then some (.inr (ix l k).To)else some (.inl (ao (k+1)))
 else some (.inr at_)
def Bj(l:List an)(at_:Int):Option Int:=ba (AQ l) fun l=>iter (UN l at_) 0
theorem HR{s:ab}{b off:Nat}{cs:List AV}{l:List an}{at_:Int}{Q:List AV->ab->Prop}(hb:zr s b off cs l):ok (Bj l at_) (fun r=>Q [.int .i64 r] s)->FN prog 117 [.ref b off,.int .i64 at_] s Q:=by
 intro hh
 refine FN.qf (FO I2 rfl rfl ?_)
 revert hh
 rw[zE,Bj]
 simp -implicitDefEqProofs only[go_sem,seval]
 intro hh
 refine Bh hb ?_
 refine cu hh fun l'=>?_
 simp -implicitDefEqProofs only[go_sem,seval]
 refine ch (fun k=>⟨[(1,.int .i64 at_),(8,Dy l'),(9,.int .i64 (l'.length:Nat)),(10,.int .i64 k)],[],s⟩) rfl ?_
 intro J k
 rw[UN]
 simp -implicitDefEqProofs only[go_sem,seval]
 rintro⟨h1,h2⟩
 exact⟨fun hk=>⟨(h1 hk).1,fun hc=>⟨s,Sub.refl s,(h1 hk).2.1 hc⟩,(h1 hk).2.2⟩,fun hk=>⟨s,Sub.refl s,h2 hk⟩⟩
def AR(l:List an)(x:an):Option (List an):=aH ((l.length+1)*16<=room)<|zd (l++[x]) 0
theorem J4{s:ab}{b off:Nat}{cs:List AV}{l:List an}{x:an}{Q:List AV->ab->Prop}(hb:zr s b off cs l):ok (AR l x) (fun r=>Q [] (s.set b (.cells (setAt cs off [Dy r]))))->FN prog 121 [.ref b off,.agg [.int .i64 x.bA,.int .i64 x.To]] s Q:=by
 intro hh
 refine FN.qf (FO KH rfl rfl ?_)
 revert hh
 rw[BT,AR]
 simp -implicitDefEqProofs only[go_sem,seval,hb.1]
 rintro⟨hr,hh⟩
 refine⟨fun _=>?_,fun h=>by cases h⟩
 rw[NM hb.2]
 simp -implicitDefEqProofs only[go_sem,seval,hb.1]
 refine⟨hr,?_⟩
 have e1:(l++[x]).length=l.length+1:=by simp
 have e2:flat (l++[x])=flat l++[AV.int IntKind.i64 x.bA,AV.int IntKind.i64 x.To]:=by rw[eH];rfl
 have hj:=fun Q=>HH (l:=l++[x]) (gap:=0) (s:=s.set b (SO.cells (setAt cs off [UC l]))) (Q:=Q)
 rw[e1,e2]at hj
 refine hj _ (cu hh fun r hq=>?_)
 simp -implicitDefEqProofs only[go_sem,seval,gY]
 have hlt:off<cs.length:=(List.getElem?_eq_some_iff.1 hb.2).1
 rw[mq _ _ _ (show off+[UC l].length<=cs.length from hlt)]
 refine⟨hlt,_,Sub.refl _,?_⟩
 rw[Nat.add_zero,JN hlt]
 exact hq
def A5(at_:Int)(out:List an)(to_:Int):Option (List an):=if decide (at_<to_)then aH ((out.length+1)*16<=room)<|some (out++[⟨at_,to_⟩])else some out
theorem qh{s:ab}{a o:Nat}{at_ to_:Int}{out:List an}{Q:List AV->ab->Prop}(ha:s a=some (.cells [.int .i64 at_]))(ho:s o=some (.cells [Dy out])):ok (A5 at_ out to_) (fun r=>Q [] (s.set o (.cells [Dy r])))->FN prog 176 [.int .i64 to_,.ref a 0,.ref o 0] s Q:=by
 intro hh
 refine FN.qf (FO z8 rfl rfl ?_)
 revert hh
 rw[ql,A5]
 simp -implicitDefEqProofs only[go_sem,seval,ha,ho]
 rintro⟨h1,h2⟩
 have hne:a≠o:=by rintro rfl;rw[ha]at ho;simp at ho
 refine⟨fun hc=>?_,fun hc=>⟨_,Sub.refl s,by have:=h2 hc;rwa[eW ho]at this⟩⟩
 simp -implicitDefEqProofs only[go_sem,seval,aW hne,ha]
 have e:Dy (out++[⟨at_,to_⟩])=.sl true 2 (out.length+1) (flat out++[AV.int IntKind.i64 at_,AV.int IntKind.i64 to_]):=by unfold Dy;rw[eH,List.length_append];rfl
 refine⟨(h1 hc).1,_,Sub.refl _,?_⟩
 rw[<-e];exact(h1 hc).2
theorem zr.set{s:ab}{b off c:Nat}{cs:List AV}{l:List an}{x:SO}(h:zr s b off cs l)(hn:s c=none):zr (s.set c x) b off cs l:=by
 refine⟨?_,h.2⟩
 rw[aW (fun e=>by rw[<-e,h.1]at hn;cases hn)];exact h.1
def T9(x:an)(l:List an):(List an×Int×Int)->Option ((List an×Int×Int)⊕(List an×Int)):=fun(out,at_,k)=>
 if decide (k<(l.length:Int))then
  aH (0<=k/\k<l.length)<|
  ba (A5 at_ out (min (ix l k).bA x.To)) fun out=>
  some (.inl (out,max at_ (min (ix l k).To x.To),ao (k+1)))
 else some (.inr (out,at_))
def qV(l:List an)(x:an):Option (List an):=
 ba (jr x) fun e=>
 if e then some []else
  ba (AQ l) fun l=>
  ba (iter (T9 x l) ([],x.bA,0)) fun(out,at_)=>
  A5 at_ out x.To
theorem Bi{s:ab}{b off:Nat}{cs:List AV}{l:List an}{x:an}{Q:List AV->ab->Prop}(hb:zr s b off cs l):ok (qV l x) (fun r=>Q [UC r] s)->FN prog 119 [.ref b off,.agg [.int .i64 x.bA,.int .i64 x.To]] s Q:=by
 intro hh
 refine FN.qf (FO BZ rfl rfl ?_)
 revert hh
 rw[rq,qV]
 simp -implicitDefEqProofs only[go_sem,seval]
 refine ax (fun _ h=>oe h) fun e=>?_
 simp -implicitDefEqProofs only[go_sem,seval]
 rintro⟨h1,h2⟩
 refine⟨fun he=>⟨s,Sub.refl s,h1 he⟩,fun he o ho a ha=>?_⟩
 have hh:=h2 he
 refine Bh ((hb.set ho).set ha) (cu hh fun l' hh=>?_)
 simp -implicitDefEqProofs only[go_sem,seval]
 revert hh
 refine ch (fun st=>⟨[(3,.loc [.int .i64 x.bA,.int .i64 x.To]),(5,.ref o 0),(6,.ref a 0),(7,.fn 176 [] [.ref a 0,.ref o 0]),(16,Dy l'),(17,.int .i64 (l'.length:Nat)),(18,.int .i64 st.2.2)],[],(s.set o (.cells [Dy st.1])).set a (.cells [.int .i64 st.2.1])⟩) rfl ?_
 rintro J ⟨out,at_,k⟩
 have hne:o≠a:=by rintro rfl;rw[bc]at ha;cases ha
 rw[T9]
 simp -implicitDefEqProofs only[go_sem,seval]
 rintro⟨h1,h2⟩
 have st:∀X Y Z,((s.set o X).set a Y).set o Z=(s.set o Z).set a Y:=fun X Y Z=>by rw[set_comm hne,set_set]
 have go':∀X Y,((s.set o X).set a Y) o=some X:=fun X Y=>by rw[aW hne,bc]
 have aeq:∀X Y,Sub s ((s.set o X).set a Y):=fun X Y=>((Sub.refl s).set ho).set (by rw[eU]at ha⊢;exact ha)
 refine⟨fun hc=>⟨(h1 hc).1,rfl,?_⟩,fun hc=>⟨rfl,?_⟩⟩
 ·refine qh (at_:=at_) (bc ..) (go' ..) (cu (h1 hc).2 fun r hr=>?_)
  rw[st]
  simp -implicitDefEqProofs only[go_sem,seval,bc,set_set]
  exact hr
 ·refine qh (at_:=at_) (bc ..) (go' ..) (cu (h2 hc) fun r hr=>?_)
  rw[st]
  simp -implicitDefEqProofs only[go_sem,seval,go']
  exact⟨s,aeq _ _,hr⟩
def wm:IC:=
 (ag [cY 2 (.bool false)] [0]
 (ag [mv 3 0,i1 4 (.HO true (.t 3) (.c (.cZ))),mv 5 4,bK 6 0 5 true,b6 7 5 true (.nilCheck (.t 6)),fg 8 5 true 0 7,lg 9 5 true 1 8,pf 10 5 9,mv 2 10] [2]
 .ret))
theorem Gt:aY prog 116 11 [⟨2,true,none⟩] wm=true:=by kernel_rfl
def qm:IC:=
 (ag [mi 2 0] [0]
 (.seq (ag [mv 3 0,c1 4 116 3,no 5 4] [0,5]
 (.cond (.t 5) (ag [mi 2 0] [2]
 .ret)
 .skip))
 (ag [mv 6 0,nc 7 6,fa 8 1 7,ld 9 1 8,mv 2 9] [2]
 .ret)))
theorem Aa:aY prog 62 10 [⟨2,true,none⟩] qm=true:=by kernel_rfl
def ur:IC:=
 (ag [cY 2 (.cZ),mi 3 0] [0]
 (.seq (ag [mv 4 0,bn 5 .lss 4 0,mv 6 5,bK 7 0 6 false,im 8 6 false .gtr 7 2147483647,po 9 6 8] [0,9]
 (.cond (.t 9) (ag [cY 2 (.cZ),mi 3 5] [2,3]
 .ret)
 .skip))
 (ag [mv 10 0,i1 11 (.makeMap),i1 12 (.build [.bool false,.int .i64 0,.arr 0 0 0 0,.sd] [(0,1,(.c (.bool true))),(1,1,(.t 10)),(3,1,(.t 11))]),i1 13 (.FQ 2 4 (.t 12)),mv 2 13,mi 3 0] [2,3]
 .ret)))
theorem D1:aY prog 65 14 [⟨2,true,none⟩,⟨3,true,none⟩] ur=true:=by kernel_rfl
def qz:IC:=
 (ag [cY 2 (.cZ)] [0]
 (ag [mv 6 0,le 7 0 6,c1 8 65 7,jJ 5 8,ex 9 5 0,ex 10 5 1,mv 3 9,mv 4 10] [0,3,4]
 (.seq (ag [mv 11 4,bn 12 .neq 11 0] [0,3,12]
 (.cond (.t 12) (ag [cY 2 (.cZ)] [2]
 .ret)
 .skip))
 (ag [mv 13 3,mt 14 0,i1 15 (.call 66 [(.t 13),(.c (.int .i64 0)),(.t 14)])] [3]
 (ag [mv 16 3,mv 2 16] [2]
 .ret)))))
theorem Ak:aY prog 29 17 [⟨2,true,none⟩] qz=true:=by kernel_rfl
def qn:IC:=
 (.block 0 (.loop [(0,false),(1,false),(2,false)] (.seq (ag [mv 11 2,le 12 0 11,bn 13 .gtr 12 0] [0,1,2,13]
 (.cond (.t 13) .skip
 (.exit 0)))
 (.block 1 (ag [mv 14 1,bn 15 .quo 14 4096,mv 16 1,bn 17 .rem 16 4096,mv 6 15,mv 7 17] [0,1,2,6,7]
 (ag [mv 19 0,nc 20 19,fa 21 3 20,ld 22 1 21,mv 23 6,i1 24 (.lookup (.int .i64) (.sl false 1 0 []) true (.t 22) (.t 23)),jJ 18 24,ex 25 18 0,ex 26 18 1,mt 8 25,mv 9 26] [0,1,2,6,7,8,9]
 (.seq (ag [mv 27 9,no 28 27] [0,1,2,6,7,8,28]
 (.cond (.t 28) (ag [i1 29 (.gS 1 1 [.int .u8 0] (.c (.int .i64 4096)) (.c (.int .i64 4096))),mt 8 29] [0,1,2,6,7,8]
 (.bP none [mv 30 0,nc 31 30,fa 32 3 31,ld 33 1 32,mv 34 6,mv 35 8,i0 (.mapUpdate (.int .i64) (.t 33) (.t 34) (.t 35))] [0,1,2,7,8]))
 .skip))
 (ag [mt 36 8,mv 37 7,YJ 38 1 36 37,mv 39 2,i1 40 (.vQ 1 (.t 38) (.t 39)),mv 10 40] [0,1,2,10]
 (.bP (some 8) [mv 41 1,mv 42 10,bt 43 .add 41 42,mv 44 2,mv 45 10,YJ 46 1 44 45,mv 1 43,mv 2 46] [0,1,2])))))))))
theorem Ab:aY prog 120 47 [] qn=true:=by kernel_rfl
def ua:IC:=
 (ag [mi 6 0] [0,1,2]
 (.seq (.block 0 (ag [mv 11 0,c1 12 116 11,no 13 12,mv 10 13] [0,1,2,10]
 (.cond (.t 10) (ag [mi 6 1] [6]
 .ret)
 (ag [mv 15 1,bn 16 .lss 15 0,mv 17 16,bK 18 1 17 false,bK 19 0 17 false,b6 20 17 false (.nilCheck (.t 19)),fg 21 17 false 1 20,lg 22 17 false 1 21,sm 23 17 false .gtr 18 22,po 24 17 23,mv 14 24] [0,1,2,14]
 (.cond (.t 14) (ag [mi 6 2] [6]
 .ret)
 (ag [mv 26 2,le 27 0 26,mv 28 0,nc 29 28,fa 30 1 29,ld 31 1 30,mv 32 1,bt 33 .sub 31 32,bt 34 .gtr 27 33,mv 25 34] [0,1,2,25]
 (.cond (.t 25) (ag [mi 6 5] [6]
 .ret)
 .skip)))))))
 (ag [mv 35 1,mv 36 1,mv 37 2,le 38 0 37,bt 39 .add 36 38,i1 40 (.build [.int .i64 0,.int .i64 0] [(0,1,(.t 35)),(1,1,(.t 39))]),i1 7 (.aA [.int .i64 0,.int .i64 0]),st 2 7 40] [0,1,2,7]
 (.seq (.seq (.bP (some 7) [mv 41 0,nc 42 41,fa 43 2 42,lm 44 2 7,c2 45 119 43 44,le 46 0 45,mi 47 0] [0,1,2,7,45,46,47])
 (.block 1 (.loop [(0,false),(1,false),(2,false),(7,false),(45,false),(46,false),(47,false)] (ag [bt 48 .lss 47 46] [0,1,2,7,45,46,47,48]
 (.seq (.cond (.t 48) .skip
 (.exit 1))
 (.seq (.block 2 (ag [ia 49 [.int .i64 0,.int .i64 0] 45 47,lm 50 2 49,i1 9 (.aA [.int .i64 0,.int .i64 0]),st 2 9 50] [0,1,2,7,9,45,46,47]
 (.bP (some 13) [mv 51 0,fa 52 0 9,ld 53 1 52,mv 54 2,fa 55 0 9,ld 56 1 55,mv 57 1,bt 58 .sub 56 57,fa 59 1 9,ld 60 1 59,mv 61 1,bt 62 .sub 60 61,i1 63 (.slice 1 (.t 54) (some (.t 58)) (some (.t 62)) none),c3 64 120 51 53 63] [0,1,2,7,45,46,47])))
 (.bP none [bn 65 .add 47 1,mv 47 65] [0,1,2,7,45,46,47])))))))
 (.seq (.bP (some 4) [mv 66 0,nc 67 66,fa 68 2 67,lm 69 2 7,c2 70 121 68 69] [])
 (ag [mi 6 0] [6]
 .ret))))))
theorem DP:aY prog 66 71 [⟨6,true,none⟩] ua=true:=by kernel_rfl
abbrev NT:=Int->Option (List UInt8)
structure ox where
 total:Int
 known:List an
 sM:NT
def ot(m:NT)(k:Int)(l:List UInt8):NT:=fun i=>if i=k then some l else m i
def KI(es:List (AV×AV)):Prop:=∀p∈es,∃(k:Int)(v:AV),p=(.int .i64 k,v)
def Bg(s0 s:ab)(es:List (AV×AV))(k:Int):Option (List UInt8)->Prop
 |none=>eY (.int .i64 k) es=none
 |some l=>l.length=4096/\∃b,eY (.int .i64 k) es=some (.arr b 0 4096 4096)/\s0 b=none/\s b=some (.cells (flat l))
def Inj(es:List (AV×AV)):Prop:=∀k k' b,eY (.int .i64 k) es=some (.arr b 0 4096 4096)->eY (.int .i64 k') es=some (.arr b 0 4096 4096)->k=k'
def dY(s0 s:ab)(B:Nat)(g:ox):Prop:=Sub s0 s/\s0 B=none/\∃M es,s B=some (.cells [.bool true,.int .i64 g.total,Dy g.known,.mp M])/\s0 M=none/\s M=some (.map es)/\KI es/\(∀k,Bg s0 s es k (g.sM k))/\Inj es
def YZ(cs:List AV):Prop:=∀c∈cs,∃m:Int,c=.int .u8 m
theorem Te(l:List UInt8):YZ (flat l):=fun c hc=>by
 obtain⟨y,hy,hc⟩:=List.mem_flatten.1 hc
 obtain⟨z,_,rfl⟩:=List.mem_map.1 hy
 exact⟨_,List.mem_singleton.1 hc⟩
theorem LP{l:List UInt8}{r:List AV}(h:flat l=.bool true::r):False:=by
 obtain⟨m,hm⟩:=Te l (.bool true) (by rw[h];exact List.mem_cons_self)
 cases hm
theorem Bg.mono{s0 s s':ab}{es:List (AV×AV)}{k:Int}{o:Option (List UInt8)}(h:Bg s0 s es k o)(hs:∀b l,s b=some (.cells (flat (l:List UInt8)))->s' b=some (.cells (flat l))):Bg s0 s' es k o:=by
 cases o with
 |none=>exact h
 |some l=>obtain⟨h1,b,h2,h3,h4⟩:=h;exact⟨h1,b,h2,h3,hs b l h4⟩
theorem dY.set{s0 s:ab}{B:Nat}{g:ox}{c:Nat}{x:SO}(h:dY s0 s B g)(hn:s c=none):dY s0 (s.set c x) B g:=by
 obtain⟨h1,h2,M,es,h3,h4,h5,h6,h7,h8⟩:=h
 have ne:∀b o,s b=some o->(s.set c x) b=some o:=fun b o hb=>by rw[aW (fun e=>by rw[e,hn]at hb;cases hb)];exact hb
 exact⟨h1.set hn,h2,M,es,ne _ _ h3,h4,ne _ _ h5,h6,fun k=>(h7 k).mono fun b l=>ne b _,h8⟩
theorem dY.setAt{s0 s:ab}{B:Nat}{g:ox}(h:dY s0 s B g):∃cs,zr s B 2 cs g.known/\∀l,dY s0 (s.set B (.cells (AB.setAt cs 2 [Dy l]))) B ⟨g.total,l,g.sM⟩:=by
 obtain⟨h1,h2,M,es,h3,h4,h5,h6,h7,h8⟩:=h
 refine⟨_,⟨h3,rfl⟩,fun l=>⟨fun b o hb=>?_,h2,M,es,?_,h4,?_,h6,fun k=>(h7 k).mono fun b l hb=>?_,h8⟩⟩
 ·rw[aW (fun e=>by rw[e,h2]at hb;cases hb)];exact h1 b o hb
 ·rw[bc];rfl
 ·rw[aW (fun e=>by rw[e,h3]at h5;cases h5)];exact h5
 ·rw[aW (fun e=>by
   rw[e,h3]at hb
   injection hb with hb;injection hb with hb
   exact LP hb.symm)]
  exact hb
theorem KI.keys{es:List (AV×AV)}(h:KI es):mQ (.int .i64) es=true:=by
 unfold mQ
 rw[List.all_eq_true]
 intro p hp
 obtain⟨k,v,rfl⟩:=h p hp
 rfl
theorem mj(k k':Int)(v:AV):∀{es:List (AV×AV)},KI es->eY (.int .i64 k) (xi (.int .i64 k') v es)=if k=k' then some v else eY (.int .i64 k) es
 |[],_=>by
  simp only[xi,eY,oW]
  by_cases h:k=k'
  ·simp[h]
  ·rw[if_neg h,show(k==k')=false by simpa using h];rfl
 |p::es,h=>by
  obtain⟨j,u,rfl⟩:=h p List.mem_cons_self
  have ih:=mj k k' v (es:=es) fun q hq=>h q (List.mem_cons_of_mem _ hq)
  simp only[xi,oW]
  by_cases e:k'=j
  ·subst e
   by_cases h:k=k'
   ·simp[eY,oW,h]
   ·simp only[beq_self_eq_true,cond_true,eY,oW];rw[if_neg h,show(k==k')=false by simpa using h];rfl
  ·rw[show(k'==j)=false by simpa using e]
   simp only[cond_false,eY,oW,ih]
   by_cases h:k=j
   ·subst h;simp only[beq_self_eq_true,cond_true,if_neg (fun h:k=k'=>e h.symm)]
   ·rw[show(k==j)=false by simpa using h];simp
theorem KI.put{k:Int}{v:AV}:∀{es:List (AV×AV)},KI es->KI (xi (.int .i64 k) v es)
 |[],_=>fun p hp=>by
  rcases List.mem_cons.1 hp with rfl|hp
  ·exact⟨k,v,rfl⟩
  ·cases hp
 |q::es,h=>by
  unfold xi
  cases hk:rW (.int .i64 k) q.1 with
  |true=>
   intro p hp
   rcases List.mem_cons.1 hp with rfl|hp
   ·exact⟨k,v,rfl⟩
   ·exact h p (List.mem_cons_of_mem _ hp)
  |false=>
   intro p hp
   rcases List.mem_cons.1 hp with rfl|hp
   ·exact h _ List.mem_cons_self
   ·exact KI.put (fun q' hq=>h q' (List.mem_cons_of_mem _ hq)) p hp
theorem dY.row{s0 s:ab}{B b M:Nat}{g:ox}{es:List (AV×AV)}{k:Int}{l l':List UInt8}(h:dY s0 s B g)(hB:s B=some (.cells [.bool true,.int .i64 g.total,Dy g.known,.mp M]))(hM:s M=some (.map es))(hb:s0 b=none)(hk:eY (.int .i64 k) es=some (.arr b 0 4096 4096))(h1:s b=some (.cells (flat l)))(h3:l'.length=4096):
 dY s0 (s.set b (.cells (flat l'))) B ⟨g.total,g.known,ot g.sM k l'⟩:=by
 obtain⟨q1,q2,M',es',q3,q4,q5,q6,q7,q8⟩:=h
 have eM:M'=M:=by
  rw[q3]at hB
  injection hB with hB;injection hB with hB;simp at hB;exact hB
 subst eM
 have eE:es'=es:=by rw[q5]at hM;injection hM with hM;injection hM
 subst eE
 have nB:B≠b:=fun e=>by
  rw[<-e,q3]at h1
  injection h1 with h1;injection h1 with h1
  exact LP h1.symm
 have nM:M'≠b:=fun e=>by rw[<-e,q5]at h1;cases h1
 refine⟨fun c o hc=>?_,q2,M',es',by rw[aW nB];exact q3,q4,by rw[aW nM];exact q5,q6,fun i=>?_,q8⟩
 ·rw[aW (fun e=>by rw[e,hb]at hc;cases hc)];exact q1 c o hc
 ·show Bg _ _ _ i (if i=k then some l' else g.sM i)
  by_cases hi:i=k
  ·subst hi;rw[if_pos rfl];exact⟨h3,b,hk,hb,bc ..⟩
  ·rw[if_neg hi]
   have h:=q7 i
   cases ho:g.sM i with
   |none=>rw[ho]at h;exact h
   |some l2=>
    rw[ho]at h
    obtain⟨w1,b2,w2,w3,w4⟩:=h
    exact⟨w1,b2,w2,w3,by rw[aW (fun e=>hi (q8 i k b2 w2 (by rw[e];exact hk)))];exact w4⟩
theorem dY.put{s0 s:ab}{B M b:Nat}{g:ox}{es:List (AV×AV)}{k:Int}{l:List UInt8}(h:dY s0 s B g)(hB:s B=some (.cells [.bool true,.int .i64 g.total,Dy g.known,.mp M]))(hM:s M=some (.map es))(hb:s b=none)(h3:l.length=4096):
 dY s0 ((s.set b (.cells (flat l))).set M (.map (xi (.int .i64 k) (.arr b 0 4096 4096) es))) B ⟨g.total,g.known,ot g.sM k l⟩:=by
 obtain⟨q1,q2,M',es',q3,q4,q5,q6,q7,q8⟩:=h
 have eM:M'=M:=by
  rw[q3]at hB
  injection hB with hB;injection hB with hB;simp at hB;exact hB
 subst eM
 have eE:es'=es:=by rw[q5]at hM;injection hM with hM;injection hM
 subst eE
 have nBb:B≠b:=fun e=>by rw[e,hb]at q3;cases q3
 have nMb:M'≠b:=fun e=>by rw[e,hb]at q5;cases q5
 have nB:B≠M':=fun e=>by rw[e,q5]at q3;cases q3
 have fb:∀i,eY (.int .i64 i) es'≠some (.arr b 0 4096 4096):=fun i e=>by
  have h:=q7 i
  cases ho:g.sM i with
  |none=>rw[ho]at h;rw[show eY _ es'=none from h]at e;cases e
  |some l2=>
   rw[ho]at h
   obtain⟨w1,b2,w2,w3,w4⟩:=h
   rw[w2]at e;injection e with e;injection e with e
   rw[e,hb]at w4;cases w4
 refine⟨fun c o hc=>?_,q2,M',_,by rw[aW nB,aW nBb];exact q3,q4,bc ..,q6.put,fun i=>?_,fun i j c hi hj=>?_⟩
 ·rw[aW (fun e=>by rw[e,q4]at hc;cases hc),aW (fun e=>by rw[e,Sub.none q1 hb]at hc;cases hc)];exact q1 c o hc
 ·show Bg _ _ _ i (if i=k then some l else g.sM i)
  by_cases hi:i=k
  ·subst hi;rw[if_pos rfl]
   exact⟨h3,b,by rw[mj _ _ _ q6,if_pos rfl],Sub.none q1 hb,by rw[aW (Ne.symm nMb),bc]⟩
  ·rw[if_neg hi]
   have h:=q7 i
   cases ho:g.sM i with
   |none=>rw[ho]at h;show eY _ _=none;rw[mj _ _ _ q6,if_neg hi];exact h
   |some l2=>
    rw[ho]at h
    obtain⟨w1,b2,w2,w3,w4⟩:=h
    exact⟨w1,b2,by rw[mj _ _ _ q6,if_neg hi];exact w2,w3,by rw[aW (fun e=>by rw[e,q5]at w4;cases w4),aW (fun e=>by rw[e,hb]at w4;cases w4)];exact w4⟩
 ·rw[mj _ _ _ q6]at hi hj
  by_cases ei:i=k
  ·by_cases ej:j=k
   ·rw[ei,ej]
   ·rw[if_pos ei]at hi;rw[if_neg ej]at hj
    injection hi with hi;injection hi with hi
    rw[<-hi]at hj;exact absurd hj (fb j)
  ·rw[if_neg ei]at hi
   by_cases ej:j=k
   ·rw[if_pos ej]at hj
    injection hj with hj;injection hj with hj
    rw[<-hj]at hi;exact absurd hi (fb i)
   ·rw[if_neg ej]at hj;exact q8 i j c hi hj
theorem pC{s0 s:ab}{B:Nat}{g:ox}{Q:List AV->ab->Prop}(h:dY s0 s B g)(hq:Q [.bool true] s):FN prog 116 [.ref B 0] s Q:=by
 obtain⟨h1,h2,M,es,h3,h4,h5,h6⟩:=h
 refine FN.qf (FO Gt rfl rfl ?_)
 rw[wm]
 simp -implicitDefEqProofs only[go_sem,seval,h3]
 exact⟨s,Sub.refl s,hq⟩
theorem zU{s0 s:ab}{B:Nat}{g:ox}{Q:List AV->ab->Prop}(h:dY s0 s B g)(hq:Q [.int .i64 g.total] s):FN prog 62 [.ref B 0] s Q:=by
 refine FN.qf (FO Aa rfl rfl ?_)
 rw[qm]
 simp -implicitDefEqProofs only[go_sem,seval]
 refine pC h ?_
 obtain⟨h1,h2,M,es,h3,h4,h5,h6⟩:=h
 simp -implicitDefEqProofs only[go_sem,seval,h3]
 exact⟨fun h=>h.elim,fun _=>⟨s,Sub.refl s,hq⟩⟩
theorem Er{s:ab}{n:Int}{Q:List AV->ab->Prop}(hn:0<=n/\n<=2147483647)(hq:∀B s',dY s s' B ⟨n,[],fun _=>none⟩->Q [.ref B 0,.int .i64 0] s'):FN prog 65 [.int .i64 n] s Q:=by
 refine FN.qf (FO D1 rfl rfl ?_)
 rw[ur]
 simp -implicitDefEqProofs only[go_sem,seval]
 refine⟨fun h=>?_,fun _ M hM B hB=>⟨_,Sub.refl _,hq B _ ⟨((Sub.refl s).set hM).set hB,?_,M,[],bc ..,hM,?_,fun p hp=>(by cases hp),fun k=>rfl,fun k k' b h=>(by cases h)⟩⟩⟩
 ·simp at h;omega
 ·rw[eU]at hB;exact hB.2
 ·rw[eU]at hB;rw[aW (Ne.symm hB.1),bc]
theorem Ng{es:List (AV×AV)}{n:Int}(h:KI es)(e:eY (.int .i64 n) es=none):s5 (.int .i64) (.sl false 1 0 []) true (.int .i64 n) (some (.map es))=.prt True (.gb [.sl false 1 0 [],.bool false]):=by
 show NW true (fw (.int .i64) (.int .i64 n)=true/\mQ (.int .i64) es=true) (uy (.sl false 1 0 []) true (eY (.int .i64 n) es))=_
 rw[e,h.keys]
 show PR.prt (true=true/\true=true) _=_
 simp[uy,KZ,view]
theorem Nh{es:List (AV×AV)}{n:Int}{b:Nat}(h:KI es)(e:eY (.int .i64 n) es=some (.arr b 0 4096 4096)):s5 (.int .i64) (.sl false 1 0 []) true (.int .i64 n) (some (.map es))=.prt True (.gb [.arr b 0 4096 4096,.bool true]):=by
 show NW true (fw (.int .i64) (.int .i64 n)=true/\mQ (.int .i64) es=true) (uy (.sl false 1 0 []) true (eY (.int .i64 n) es))=_
 rw[e,h.keys]
 show PR.prt (true=true/\true=true) _=_
 simp[uy,KZ,view]
theorem Bo{o:Nat}(h:o<4096):iE 0 4096 o 1=o:=by
 unfold iE
 rw[show(4096==o)=false by simp;omega];simp
def jl(c:List UInt8)(o:Nat)(x:List UInt8):List UInt8:=c.take o++x++c.drop (o+x.length)
theorem P8{c x:List UInt8}{o:Nat}(h:o+x.length<=c.length):(jl c o x).length=c.length:=by unfold jl;simp only[List.length_append,List.length_take,List.length_drop];omega
theorem Tf(m:NT)(k:Int)(x y:List UInt8):ot (ot m k x) k y=ot m k y:=by funext i;unfold ot;by_cases h:i=k<;>simp[h]
theorem cpy{E:St}{d:Option Nat}{K:St->Prop}{s0:ab}{B b M:Nat}{g:ox}{es:List (AV×AV)}{k:Int}{c l:List UInt8}{o o' n cap:Nat}(h:dY s0 E.s B g)(hB:E.s B=some (.cells [.bool true,.int .i64 g.total,Dy g.known,.mp M]))(hM:E.s M=some (.map es))(hb:s0 b=none)
 (hk:eY (.int .i64 k) es=some (.arr b 0 4096 4096))(h2:E.s b=some (.cells (flat c)))(h3:c.length=4096)(ho:o<4096)(he:o'=o)(hn:n=4096 -o)
 (hK:∀s3,dY s0 s3 B ⟨g.total,g.known,ot g.sM k (jl c o (l.take (min l.length (4096 -o))))⟩->K ({E with s:=s3}.put d (.int .i64 (min l.length (4096 -o):Nat)))):uM 1 E d K (.arr b o' n cap) (some (l.length,flat l)):=by
 subst he;subst hn
 have hf:(flat c).length=4096:=by rw[aE,h3];rfl
 refine MS h2 (by omega) (hK _ ?_)
 have hl:(l.take (min l.length (4096 -o'))).length=min l.length (4096 -o'):=by rw[List.length_take];omega
 have e:=p7 c (l.take (min l.length (4096 -o'))) [] 1 o' rfl (by rw[hl];omega)
 rw[List.append_nil,List.append_nil,Nat.mul_one]at e
 have e2:(flat l).take (min l.length (4096 -o')*1)=flat (l.take (min l.length (4096 -o'))):=xX l _
 rw[e2,e]
 exact dY.row h hB hM hb hk h2 (by
  show(jl c o' (l.take (min l.length (4096 -o')))).length=4096
  rw[P8 (by rw[hl];omega),h3])
def Q3:List UInt8:=List.replicate 4096 0
def Ls:Int×List UInt8×NT->Option ((Int×List UInt8×NT)⊕NT):=fun(a,l,m)=>
 if decide ((l.length:Int)>0)then
  some (.inl (ao (a+(min l.length (4096 -(a.tmod 4096).toNat):Nat)),l.drop (min l.length (4096 -(a.tmod 4096).toNat)),
   ot m (ao (a.tdiv 4096)) (jl ((m (ao (a.tdiv 4096))).getD Q3) (a.tmod 4096).toNat (l.take (min l.length (4096 -(a.tmod 4096).toNat))))))
 else some (.inr m)
theorem zW{s0 s:ab}{B:Nat}{g:ox}{a0:Int}{l0:List UInt8}{Q:List AV->ab->Prop}(h:dY s0 s B g)(h0:0<=a0)(h1:a0+l0.length<=9223372036854775807):
 ok (iter Ls (a0,l0,g.sM)) (fun m=>∀s',dY s0 s' B ⟨g.total,g.known,m⟩->Q [] s')->FN prog 120 [.ref B 0,.int .i64 a0,.sl false 1 l0.length (flat l0)] s Q:=by
 intro hw
 refine FN.qf (FO Ab rfl rfl ?_)
 rw[qn]
 simp -implicitDefEqProofs only[go_sem,Nat.reduceBEq,Nat.reduceAdd,Nat.reduceMul,Nat.reduceLeDiff,Nat.reduceEqDiff,Nat.reduceBNe,UInt8.reduceToNat,UInt32.reduceToNat]
 revert hw
 refine jX (fun st τ=>0<=st.1/\st.1+(st.2.1.length:Int)<=9223372036854775807/\∃s',τ=⟨[(0,.ref B 0),(1,.int .i64 st.1),(2,.sl false 1 st.2.1.length (flat st.2.1))],[],s'⟩/\dY s0 s' B ⟨g.total,g.known,st.2.2⟩) ⟨h0,h1,s,rfl,h⟩ ?_
 rintro J ⟨a,l,m⟩ τ ⟨ha,hal,s',rfl,hs⟩
 have ha:0<=a:=ha
 have hal:a+(l.length:Int)<=9223372036854775807:=hal
 obtain⟨q1,q2,M,es,q3,q4,q5,q6,q7,q8⟩:=id hs
 rw[Ls]
 simp -implicitDefEqProofs only[go_sem,Nat.reduceBEq,Nat.reduceAdd,Nat.reduceMul,Nat.reduceLeDiff,Nat.reduceEqDiff,Nat.reduceBNe,UInt8.reduceToNat,UInt32.reduceToNat,q3,q5]
 rintro⟨hw1,hw2⟩
 refine⟨fun hc=>⟨by decide,by decide,?_⟩,fun hc=>⟨s',Sub.refl s',hw2 hc s' hs⟩⟩
 have hw:=hw1 hc
 clear hw1 hw2
 have hm:0<=a.tmod 4096:=Int.tmod_nonneg _ ha
 have hm2:a.tmod 4096<4096:=Int.tmod_lt_of_pos _ (by decide)
 have hN:min l.length (4096 -(a.tmod 4096).toNat)<=l.length:=Nat.min_le_left ..
 have iH:∀N,AB.sub (flat l) (N*1) ((l.length -N)*1)=flat (l.drop N):=fun N=>by rw[jS l 1 N (l.length -N) rfl,List.take_of_length_le (by simp)]
 have hlen:∀N,(flat (l.drop N)).length/1=(l.drop N).length:=fun N=>by rw[Nat.div_one,aE];exact Nat.mul_one _
 have hj:∀c,(m (ao (a.tdiv 4096))).getD Q3=c->∀s3,dY s0 s3 B ⟨g.total,g.known,ot m (ao (a.tdiv 4096)) (jl c (a.tmod 4096).toNat (l.take (min l.length (4096 -(a.tmod 4096).toNat))))⟩->J ⟨[(0,.ref B 0),(1,.int .i64 (ao (a+(min l.length (4096 -(a.tmod 4096).toNat):Nat)))),(2,.sl false 1 (l.drop (min l.length (4096 -(a.tmod 4096).toNat))).length (flat (l.drop (min l.length (4096 -(a.tmod 4096).toNat)))))],[],s3⟩:=fun c hcc s3 h3=>by
  subst hcc
  have hw':ao (a+(min l.length (4096 -(a.tmod 4096).toNat):Nat))=a+(min l.length (4096 -(a.tmod 4096).toNat):Nat):=au (by omega) (by omega)
  refine hw _ ⟨?_,?_,s3,rfl,h3⟩
  ·show 0<=ao _;rw[hw'];omega
  ·show ao _+((l.drop _).length:Int)<=_;rw[hw',List.length_drop];omega
 have q7':=q7 (ao (a.tdiv 4096))
 cases hmk:m (ao (a.tdiv 4096))with
 |none=>
  have e:eY (.int .i64 (ao (a.tdiv 4096))) es=none:=by rw[show(ox.sM ⟨g.total,g.known,m⟩) (ao (a.tdiv 4096))=none from hmk]at q7';exact q7'
  rw[Ng q6 e]
  simp -implicitDefEqProofs only[go_sem,Nat.reduceBEq,Nat.reduceAdd,Nat.reduceMul,Nat.reduceLeDiff,Nat.reduceEqDiff,Nat.reduceBNe,UInt8.reduceToNat,UInt32.reduceToNat,q3,q5]
  refine⟨fun _=>⟨by decide,by decide,by decide,fun b hb=>?_⟩,fun h=>(by cases h)⟩
  have hB:B≠b:=fun e=>by rw[<-e,q3]at hb;cases hb
  have hM:M≠b:=fun e=>by rw[<-e,q5]at hb;cases hb
  have hBM:B≠M:=fun e=>by rw[e,q5]at q3;cases q3
  have e1:s0 b=none:=Sub.none q1 hb
  simp -implicitDefEqProofs only[go_sem,Nat.reduceBEq,Nat.reduceAdd,Nat.reduceMul,Nat.reduceLeDiff,Nat.reduceEqDiff,Nat.reduceBNe,UInt8.reduceToNat,UInt32.reduceToNat,aW hB,aW hM,q3,q5]
  refine⟨⟨rfl,rfl,q6.keys⟩,?_⟩
  simp -implicitDefEqProofs only[go_sem,Nat.reduceBEq,Nat.reduceAdd,Nat.reduceMul,Nat.reduceLeDiff,Nat.reduceEqDiff,Nat.reduceBNe,UInt8.reduceToNat,UInt32.reduceToNat]
  refine⟨⟨hm,Int.le_of_lt hm2,Int.le_refl _⟩,?_⟩
  rw[kQ,bX]
  have hss:=dY.put (k:=ao (a.tdiv 4096)) (l:=List.replicate (Int.toNat 4096) (0:UInt8)) hs q3 q5 hb (by rw[List.length_replicate];rfl)
  refine cpy (o:=(a.tmod 4096).toNat) (c:=List.replicate (Int.toNat 4096) (0:UInt8)) hss (by show ab.set (ab.set s' b _) M _ B=_;rw[aW hBM,aW hB];exact q3) (bc ..) e1 (by rw[mj _ _ _ q6,if_pos rfl];rfl) (by show ab.set (ab.set s' b _) M _ b=_;rw[aW (Ne.symm hM),bc]) (by rw[List.length_replicate];rfl) (by omega) (Bo (by omega)) (by simp;omega) fun s3 h3=>?_
  simp -implicitDefEqProofs only[go_sem,Nat.reduceBEq,Nat.reduceAdd,Nat.reduceMul,Nat.reduceLeDiff,Nat.reduceEqDiff,Nat.reduceBNe,UInt8.reduceToNat,UInt32.reduceToNat]
  rw[iH,hlen]
  exact⟨by omega,hj (List.replicate (Int.toNat 4096) (0:UInt8)) (by rw[hmk];rfl) s3 (by have h4:=h3;rw[Tf]at h4;exact h4)⟩
 |some c=>
  obtain⟨w1,b,e,e1,e2⟩:Bg s0 s' es (ao (a.tdiv 4096)) (some c):=by rw[show(ox.sM ⟨g.total,g.known,m⟩) (ao (a.tdiv 4096))=some c from hmk]at q7';exact q7'
  rw[Nh q6 e]
  simp -implicitDefEqProofs only[go_sem,Nat.reduceBEq,Nat.reduceAdd,Nat.reduceMul,Nat.reduceLeDiff,Nat.reduceEqDiff,Nat.reduceBNe,UInt8.reduceToNat,UInt32.reduceToNat,q3,q5]
  refine⟨fun h=>(by cases h),fun _=>?_⟩
  refine⟨⟨hm,Int.le_of_lt hm2,Int.le_refl _⟩,?_⟩
  rw[kQ,bX]
  refine cpy (o:=(a.tmod 4096).toNat) hs q3 q5 e1 e e2 w1 (by omega) (Bo (by omega)) (by omega) fun s3 h3=>?_
  simp -implicitDefEqProofs only[go_sem,Nat.reduceBEq,Nat.reduceAdd,Nat.reduceMul,Nat.reduceLeDiff,Nat.reduceEqDiff,Nat.reduceBNe,UInt8.reduceToNat,UInt32.reduceToNat]
  rw[iH,hlen]
  exact⟨by omega,hj c (by rw[hmk];rfl) s3 h3⟩
def aaU(a:Int)(l:List UInt8)(ms:List an):Int×NT->Option ((Int×NT)⊕NT):=fun(k,m)=>
 if decide (k<(ms.length:Int))then
  aH (0<=k/\k<ms.length/\(a<=(ix ms k).bA/\(ix ms k).bA<=(ix ms k).To/\(ix ms k).To<=a+l.length))<|
  ba (iter Ls ((ix ms k).bA,part l ((ix ms k).bA -a) ((ix ms k).To -a),m)) fun m'=>
  some (.inl (ao (k+1),m'))
 else some (.inr m)
def my(g:ox)(a:Int)(l:List UInt8):Option (ox×Int):=
 if decide (a<0)||decide (a>g.total)then some (g,2)
 else if decide ((l.length:Int)>ao (g.total -a))then some (g,5)
 else
  ba (qV g.known ⟨a,ao (a+l.length)⟩) fun ms=>
  ba (iter (aaU a l ms) (0,g.sM)) fun m=>
  ba (AR g.known ⟨a,ao (a+l.length)⟩) fun kn=>some (⟨g.total,kn,m⟩,0)
theorem Dz{s0 s:ab}{B:Nat}{g:ox}{a:Int}{l:List UInt8}{Q:List AV->ab->Prop}(h:dY s0 s B g)(ht:g.total<=2147483647):ok (my g a l) (fun r=>∀s',dY s0 s' B r.1->Q [.int .i64 r.2] s')->FN prog 66 [.ref B 0,.int .i64 a,.sl false 1 l.length (flat l)] s Q:=by
 intro hh
 refine FN.qf (FO DP rfl rfl ?_)
 rw[ua]
 simp -implicitDefEqProofs only[go_sem,seval]
 refine pC h ?_
 obtain⟨cs,hs,VG⟩:=h.setAt
 have h3:∃M,s B=some (.cells [.bool true,.int .i64 g.total,Dy g.known,.mp M]):=by obtain⟨_,_,M,_,h3,_⟩:=h;exact⟨M,h3⟩
 obtain⟨M,h3⟩:=h3
 revert hh
 rw[my]
 simp -implicitDefEqProofs only[go_sem,seval,h3]
 rintro⟨w1,w2⟩
 refine⟨fun h=>h.elim,fun _=>⟨fun hc=>⟨s,Sub.refl s,w1 hc s h⟩,fun hc=>⟨fun hd=>⟨s,Sub.refl s,(w2 hc).1 hd s h⟩,fun hd=>?_⟩⟩⟩
 obtain⟨ms,m1,hh⟩:=(w2 hc).2 hd
 refine⟨[UC ms],rfl,Bi hs ⟨ms,m1,rfl,rfl⟩,?_⟩
 clear w1 w2
 have hc1:0<=a/\a<=g.total:=by simp at hc;omega
 have hl:a+l.length<=g.total:=by
  have hd:¬((l.length:Int)>ao (g.total -a)):=by simpa using hd
  rw[au (by omega) (by omega)]at hd;omega
 have hw:ao (a+l.length)=a+l.length:=au (by omega) (by omega)
 rw[hw]at hh⊢
 simp -implicitDefEqProofs only[go_sem,seval]
 revert hh
 refine jX (fun k τ=>∃s',τ=⟨[(0,.ref B 0),(1,.int .i64 a),(2,.sl false 1 l.length (flat l)),(7,.loc [.int .i64 a,.int .i64 (a+l.length)]),(45,UC ms),(46,.int .i64 (ms.length:Nat)),(47,.int .i64 k.1)],[],s'⟩/\dY s0 s' B ⟨g.total,g.known,k.2⟩) ⟨s,rfl,h⟩ ?_
 rintro J ⟨k,m⟩ τ ⟨s',rfl,h'⟩
 obtain⟨cs',hs',ZV⟩:=h'.setAt
 have iH:=h'.1
 rw[aaU]
 simp -implicitDefEqProofs only[go_sem,seval]
 rintro⟨w1,w2⟩
 refine⟨fun hk=>?_,fun hk=>?_⟩
 ·obtain⟨⟨k1,k2,k3,k4,k5⟩,w1⟩:=w1 hk
  refine⟨⟨k1,k2⟩,?_⟩
  rw[au (n:=(ix ms k).bA -a) (by omega) (by omega),au (n:=(ix ms k).To -a) (by omega) (by omega)]
  refine⟨⟨by omega,by omega,by omega⟩,?_⟩
  refine zW h' (by omega) ?_ (cu w1 fun m' w1 s3 h3=>?_)
  ·have:(part l ((ix ms k).bA -a) ((ix ms k).To -a)).length<=((ix ms k).To -a -((ix ms k).bA -a)).toNat:=by unfold part;exact List.length_take_le ..
   omega
  ·simp -implicitDefEqProofs only[go_sem,seval]
   exact w1 _ ⟨s3,rfl,h3⟩
 ·have w2:=w2 hk
  refine J4 (x:=⟨a,a+l.length⟩) hs' (cu w2 fun kn hq=>?_)
  simp -implicitDefEqProofs only[go_sem,seval]
  exact⟨_,Sub.refl _,hq _ (ZV kn)⟩
theorem AP{s:ab}{l:List UInt8}{Q:List AV->ab->Prop}(hl:l.length<=2147483647):ok (my ⟨l.length,[],fun _=>none⟩ 0 l) (fun r=>∀B s',dY s s' B r.1->Q [.ref B 0] s')->FN prog 29 [.sl false 1 l.length (flat l)] s Q:=by
 intro hh
 refine FN.qf (FO Ak rfl rfl ?_)
 rw[qz]
 simp -implicitDefEqProofs only[go_sem,seval]
 refine Er (by omega) fun B s' h'=>?_
 simp -implicitDefEqProofs only[go_sem,seval]
 refine⟨fun h=>h.elim,fun _=>Dz h' (show(l.length:Int)<=2147483647 by omega) (cu hh fun r hq s3 h3=>?_)⟩
 simp -implicitDefEqProofs only[go_sem,seval]
 exact⟨s3,Sub.refl _,hq B s3 h3⟩
end Go.AB
end
