/- A part of the proof: Rkr, Rg4, Se, Sb. -/
import Derived.Test.YtkeagffgdajggaaGreatSo23
import Derived.Test.YtkeagffgdajggaaGreatSo12
import Derived.Test.YtkeagffgdajggaaGreatSo14
set_option linter.unusedSimpArgs false
set_option linter.unusedVariables false
section
namespace Go.AB
open Go
theorem Jz(O:List ar)(y:ar)(sp:List AV)(v:Int):setAt (flat (O++[y])++sp) (O.length*2+1) [AV.int .i64 v]=flat (O++[⟨y.bP,v⟩])++sp:=by
 have e:flat (O++[⟨y.bP,v⟩])++sp=setAt (flat (O++[y])++sp) (O.length*2) (flat [(⟨y.bP,v⟩:ar)]):=by
  have:=p9 (O++[y]) [⟨y.bP,v⟩] sp 2 O.length rfl (by simp)
  rw[this]
  simp
 rw[e]
 have hl:O.length*2+2≤(flat (O++[y])++sp).length:=by
  rw[List.length_append,aK]
  show O.length*2+2≤(O++[y]).length*2+_
  simp;omega
 apply List.ext_getElem?
 intro j
 rw[my _ _ _ _ (by show O.length*2+1+1≤_;omega),my _ _ _ _ (by show O.length*2+2≤_;exact hl)]
 show(if O.length*2+1≤j∧j<O.length*2+1+1 then _ else _)=if O.length*2≤j∧j<O.length*2+2 then _ else _
 by_cases h1:j=O.length*2+1
 ·subst h1
  rw[if_pos (by omega),if_pos (by omega),Nat.sub_self,show O.length*2+1 -O.length*2=1 by omega];rfl
 ·rw[if_neg (by omega)]
  by_cases h2:j=O.length*2
  ·subst h2
   rw[if_pos (by omega),Nat.sub_self]
   have:=uR (O++[y]) sp (i:=O.length) (by simp) (r:=0) (by decide)
   rw[Nat.add_zero]at this
   have e2:(O++[y])[O.length]'(by simp)=y:=by simp
   rw[e2]at this
   exact this
  ·rw[if_neg (by omega)]
theorem Le(O:List ar)(y:ar)(sp:List AV):(flat (O++[y])++sp)[O.length*2+1]? =some (.int .i64 y.To):=by
 have:=uR (O++[y]) sp (i:=O.length) (by simp) (r:=1) (by decide)
 have e:(O++[y])[O.length]'(by simp)=y:=by simp
 rw[e]at this
 exact this
theorem MY(O:List ar)(y:ar)(sp:List AV):O.length*2+1+1≤(flat (O++[y])++sp).length:=by
 rw[List.length_append,aK]
 show O.length*2+2≤(O++[y]).length*2+_
 simp;omega
end Go.AB
end
section
set_option maxRecDepth 4000
namespace Go.AB
open Go
def pO:IC:=(aj [dT 6 (.arr 0 0 0 0)] [1,5,6]
 (.seq (aj [mv 17 5,
 le 18 0 17,
 mi 19 0] [1,6,17,18,19]
 (.block 0 (.loop [(1,false),(6,false),(17,false),(18,false),(19,false)] (aj [bt 20 .lss 19 18] [1,6,17,18,19,20]
 (.seq (.cond (.t 20) .skip
 (.exit 0))
 (.seq (.block 1 (aj [ia 21 [.int .i64 0,.int .i64 0] 17 19,
 i1 22 (.bW [.int .i64 0,.int .i64 0] true (.t 21)),
 i1 8 (.aQ [.int .i64 0,.int .i64 0]),
 st 2 8 22] [1,6,8,17,18,19]
 (.seq (aj [mv 23 6,
 le 24 0 23,
 mv 9 24] [1,6,8,9,17,18,19]
 (.seq (.cU (some 15) [mv 25 9,
 bn 26 .gtr 25 0,
 mv 27 26,
 fg 28 27 true 0 8,
 lg 29 27 true 1 28,
 b6 30 6 27 true,
 b6 31 9 27 true,
 jz 32 27 true .sub 31 1,
 cQ 33 27 true (.indexAddr [.int .i64 0,.int .i64 0] (.t 30) (.t 32)),
 fg 34 27 true 1 33,
 cQ 35 27 true (.lN .i64 (.t 34)),
 Ap 36 27 true .sub 29 35,
 b6 37 1 27 true,
 Ap 38 27 true .leq 36 37,
 pf 39 27 38] [1,6,8,9,17,18,19,39])
 (.cond (.t 39) (.seq (.cU (some 14) [mv 40 6,
 mv 41 9,
 bn 42 .sub 41 1,
 mv 43 6,
 mv 44 9,
 bn 45 .sub 44 1,
 ia 46 [.int .i64 0,.int .i64 0] 43 45,
 fa 47 1 46,
 i1 48 (.lN .i64 (.t 47)),
 fa 49 1 8,
 ld 50 1 49,
 i1 51 (.hZ true [(.t 48),(.t 50)]),
 ia 52 [.int .i64 0,.int .i64 0] 40 42,
 fa 53 1 52,
 st 1 53 51] [1,6,17,18,19])
 (.exit 1))
 .skip)))
 (.cU none [mv 54 6,
 lm 55 2 8,
 i1 56 (.b5 2 1 [.int .i64 0,.int .i64 0] [(0,2,(.t 55))]),
 i1 57 (.gh 2 16 [.int .i64 0,.int .i64 0] (.t 54) (.t 56)),
 mv 6 57] [1,6,17,18,19]))))
 (.cU none [bn 58 .add 19 1,
 mv 19 58] [1,6,17,18,19])))))))
 (aj [mv 59 6,
 i1 4 (.K7 2 true (.t 59))] [4]
 .ret)))
def wx:IC:=
 (aj [i1 4 (.iT true (.c (.sl true 2 0 [])))] [0,1]
 (aj [mv 10 1,i1 11 (.hZ true [(.c (.int .i64 0)),(.t 10)]),mv 1 11] [0,1]
 (aj [mt 12 0,c1 13 203 12,i1 14 (.vI 211 13 [(.t 13),(.c (.fn 175 [] []))]),mv 5 14] [1,5]
 (aj [mv 15 5,i1 16 (.call 212 [(.t 15),(.c (.fn 213 [] []))])] [1,5]
 pO))))
def kK:List bj:=[⟨4,true,none⟩]
theorem E7:bG Go.Proofs.Tryz.prog 177 60 kK wx=true:=by kernel_rfl
theorem E9(gap:Int)(out:List ar)(x:ar):(fk gap out x).length≤out.length+1∧0<(fk gap out x).length:=by
 unfold fk
 split
 ·simp
 ·split
  ·simp
  ·simp
theorem DR(gap:Int):∀(l out:List ar),(l.foldl (fk gap) out).length≤out.length+l.length
 |[],out=>by simp
 |x::l,out=>by
  have h1:=DR gap l (fk gap out x)
  have h2:=(E9 gap out x).1
  simp only[List.foldl_cons,List.length_cons];omega
theorem DS{b off cap:Nat}{F:List ar}{s1:ab}{gap:Int}{Q:List AV→ab→Prop}(hF:0<F.length→off=0∧∃sp,s1 b=some (.cells (flat F++sp)))(hl:F.length*16≤room)
 (hq:∀s',Sub s1 s'→Q [.sl true 2 (J9 gap F).length (flat (J9 gap F))] s'):gP Go.Proofs.Tryz.prog pO (aC kK Q) ⟨[(1,.int .i64 gap),(5,.arr b off F.length cap)],[],s1⟩:=by
 have hl':=hl
 unfold room at hl'
 rw[pO,kK]
 simp -implicitDefEqProofs only[go_sem,start,ag,an,aA,aD,aB,aC,Nat.reduceBEq,Nat.reduceAdd,Nat.reduceMul,Nat.reduceLeDiff,Nat.reduceEqDiff,Nat.reduceBNe,Nat.ble_eq,UInt8.reduceToNat]
 refine⟨fun τ=>∃(k:Nat)(s':ab)(r:cN),τ=⟨[(1,.int .i64 gap),(6,gL r ((F.take k).foldl (fk gap) []).length),(17,.arr b off F.length cap),(18,.int .i64 (F.length:Nat)),(19,.int .i64 (k:Nat))],[],fX s' r ((F.take k).foldl (fk gap) [])⟩∧k≤F.length∧Sub s1 s'∧gj s' r ((F.take k).foldl (fk gap) []),
  fun τ=>match look τ.e 19 with|.int _ j=>F.length -j.toNat|_=>0,⟨0,s1,none,rfl,Nat.zero_le _,Sub.refl _,rfl⟩,?_⟩
 rintro τ ⟨k,s',r,rfl,hk,hs,hok⟩
 have hol:=DR gap (F.take k) []
 rw[List.length_take]at hol
 simp only[List.length_nil]at hol
 generalize hO:(F.take k).foldl (fk gap) []=O at hok hol
 simp -implicitDefEqProofs only[go_sem,start,ag,an,aA,aD,aB,aC,Nat.reduceBEq,Nat.reduceAdd,Nat.reduceMul,Nat.reduceLeDiff,Nat.reduceEqDiff,Nat.reduceBNe,Nat.ble_eq,UInt8.reduceToNat]
 refine⟨fun hkl=>?_,fun hkl=>?_⟩
 ·have hkl:k<F.length:=by have:=of_decide_eq_true hkl;omega
  obtain⟨rfl,sp,hb⟩:=hF (by omega)
  have hb':=ie hok (hs b _ hb)
  have hx:views (AB.sub (flat F++sp) (k*2) 2)=[.int .i64 (F[k]).bP,.int .i64 (F[k]).To]:=by
   have:=nU F sp 2 k 1 rfl (by omega)
   rw[Nat.one_mul]at this
   rw[this,List.drop_eq_getElem_cons hkl];rfl
  have hfit:decide (k*2+2≤(flat F).length+sp.length)=true:=decide_eq_true (by rw[aK];show k*2+2≤F.length*2+_;omega)
  simp -implicitDefEqProofs only[go_sem,start,ag,an,aA,aD,aB,aC,Nat.reduceBEq,Nat.reduceAdd,Nat.reduceMul,Nat.reduceLeDiff,Nat.reduceEqDiff,Nat.reduceBNe,Nat.ble_eq,UInt8.reduceToNat,hb',hx,hfit]
  have hw1:az ((k:Int)+1)=((k+1:Nat):Int):=by rw[aM (by omega) (by omega)];omega
  have hstep:(F.take (k+1)).foldl (fk gap) []=fk gap O F[k]:=by rw[List.take_succ_eq_append_getElem hkl,List.foldl_append,hO];rfl
  refine⟨⟨by omega,by omega⟩,of_decide_eq_true hfit,?_⟩
  have hmin:min k F.length=k:=by omega
  rw[hmin]at hol
  have hroom:(O.length+1)*16≤room:=by unfold room;omega
  rcases List.eq_nil_or_concat O with rfl|⟨O,y,rfl⟩
  ·have e0:decide ((([]:List ar).length:Int)>0)=false:=by decide
   have hj:fk gap [] F[k]=[]++[F[k]]:=rfl
   rw[e0]
   refine⟨fun h=>(by cases h),fun h=>(by cases h),fun h=>(by cases h),fun _=>?_⟩
   rw[kL]
   refine s5 (z:=ar.mk 0 0) (v:=F[k]) rfl hok rfl hroom fun s2 r' h1 h2=>?_
   simp -implicitDefEqProofs only[go_sem,start,ag,an,aA,aD,aB,aC,Nat.reduceBEq,Nat.reduceAdd,Nat.reduceMul,Nat.reduceLeDiff,Nat.reduceEqDiff,Nat.reduceBNe,Nat.ble_eq,UInt8.reduceToNat,hw1]
   refine⟨⟨k+1,s2,r',?_,hkl,fun b o hb=>h1 b o (hs b o hb),?_⟩,by omega⟩
   ·rw[hstep,hj];rfl
   ·rw[hstep,hj];exact h2
  ·rw[List.concat_eq_append]at hok hol hO hstep hroom⊢
   rw[C3]at hstep
   have hlen3:(O++[y]).length=O.length+1:=by simp
   have hw:az (((O++[y]).length:Int) -1)=(O.length:Int):=by rw[hlen3,aM (by omega) (by omega)];omega
   have e0:decide (((O++[y]).length:Int)>0)=true:=decide_eq_true (by omega)
   obtain⟨b2,cap2,sp2,rfl⟩:=FL hok (by simp)
   have hget:fX s' (some (b2,cap2,sp2)) (O++[y]) b2=some (.cells (flat (O++[y])++sp2)):=fC
   have hcell:=Le O y sp2
   have hcc:Ff .i64 (O.length*2+1) (some (.cells (flat (O++[y])++sp2))):=⟨_,hcell⟩
   have hvv:Fg (O.length*2+1) (some (.cells (flat (O++[y])++sp2)))=y.To:=by
    show intOf _=_
    rw[hcell];rfl
   rw[hw,e0,Int.toNat_natCast,show HC (some (b2,cap2,sp2))=b2 from rfl,hget,hvv,Bool.true_and]
   refine⟨fun _=>⟨by omega,by omega⟩,fun _=>hcc,fun he=>⟨⟨by omega,by omega⟩,hcc,⟨by omega,by omega⟩,?_⟩,fun he=>?_⟩
   ·have he:=of_decide_eq_true he
    rw[if_pos he]at hstep
    have hlen2:(O++[(⟨y.bP,max y.To (F[k]).To⟩:ar)]).length=O.length+1:=by simp
    show HS none _ (Qk _ b2 (dQ (O.length*2+1) [AV.int .i64 (max y.To (F[k]).To)] (flat (O++[y])++sp2)))
    unfold dQ
    rw[decide_eq_true (show O.length*2+1+[AV.int .i64 (max y.To (F[k]).To)].length≤_ from MY O y sp2),Jz]
    generalize hX:flat (O++[(⟨y.bP,max y.To (F[k]).To⟩:ar)])++sp2=X
    simp -implicitDefEqProofs only[go_sem,start,ag,an,aA,aD,aB,aC,Nat.reduceBEq,Nat.reduceAdd,Nat.reduceMul,Nat.reduceLeDiff,Nat.reduceEqDiff,Nat.reduceBNe,Nat.ble_eq,UInt8.reduceToNat,hw1]
    have e:(fX s' (some (b2,cap2,sp2)) (O++[y])).set b2 (.cells X)=fX s' (some (b2,cap2,sp2)) (O++[(⟨y.bP,max y.To (F[k]).To⟩:ar)]):=by rw[←hX];exact set_set ..
    refine⟨⟨k+1,s',some (b2,cap2,sp2),?_,hkl,hs,?_⟩,by omega⟩
    ·rw[hstep,e,hlen2];rfl
    ·rw[hstep];exact Kt hok (by rw[hlen2,hlen3])
   ·have he:=of_decide_eq_false he
    rw[if_neg he]at hstep
    rw[kL]
    refine s5 (z:=ar.mk 0 0) (v:=F[k]) rfl hok rfl hroom fun s2 r' h1 h2=>?_
    simp -implicitDefEqProofs only[go_sem,start,ag,an,aA,aD,aB,aC,Nat.reduceBEq,Nat.reduceAdd,Nat.reduceMul,Nat.reduceLeDiff,Nat.reduceEqDiff,Nat.reduceBNe,Nat.ble_eq,UInt8.reduceToNat,hw1]
    have hlen2:(O++[y]++[F[k]]).length=O.length+1+1:=by simp
    refine⟨⟨k+1,s2,r',?_,hkl,fun b o hb=>h1 b o (hs b o hb),?_⟩,by omega⟩
    ·rw[hstep,hlen2]
    ·rw[hstep];exact h2
 ·have hkl:k=F.length:=by have:=of_decide_eq_false hkl;omega
  subst hkl
  rw[List.take_length]at hO
  have hO':J9 gap F=O:=hO
  rw[hO']at hq
  refine Ag (s:=s') (r:=r) (l:=O) rfl hok rfl ?_
  simp -implicitDefEqProofs only[go_sem,start,ag,an,aA,aD,aB,aC,Nat.reduceBEq,Nat.reduceAdd,Nat.reduceMul,Nat.reduceLeDiff,Nat.reduceEqDiff,Nat.reduceBNe,Nat.ble_eq,UInt8.reduceToNat]
  exact hq s' hs
def Wl(x y:ar):Bool:=decide (x.bP<y.bP∨(x.bP=y.bP∧x.To≤y.To))
def Xt(l:List ar):List ar:=l.mergeSort Wl
theorem P6(l:List ar):XU (Xt l):=by
 have h:=List.pairwise_mergeSort (le:=Wl) (fun a b c h1 h2=>by unfold Wl at*;simp at*;omega) (fun a b=>by unfold Wl;simp;omega) l
 exact h.imp fun{a b} h=>by unfold Wl at h;unfold Yh;simpa using h
theorem AD:∀{l m:List ar},l.Perm m→XU l→XU m→l=m
 |[],m,hp,_,_=>(List.nil_perm.1 hp).symm
 |x::l,[],hp,_,_=>by have:=hp.length_eq;simp at this
 |x::l,y::m,hp,hl,hm=>by
  have hxm:x∈y::m:=hp.mem_iff.1 List.mem_cons_self
  have hyl:y∈x::l:=hp.mem_iff.2 List.mem_cons_self
  have e:x=y:=by
   rcases List.mem_cons.1 hxm with h|h
   ·exact h
   ·rcases List.mem_cons.1 hyl with h'|h'
    ·exact h'.symm
    ·have h1:=(List.pairwise_cons.1 hm).1 x h
     have h2:=(List.pairwise_cons.1 hl).1 y h'
     obtain⟨a,b⟩:=x;obtain⟨c,d⟩:=y
     unfold Yh at h1 h2
     simp only at h1 h2
     have e1:a=c:=by omega
     have e2:b=d:=by omega
     rw[e1,e2]
  subst e
  rw[AD (List.Perm.cons_inv hp) (List.pairwise_cons.1 hl).2 (List.pairwise_cons.1 hm).2]
def yj(l:List ar)(gap:Int):Option (List ar):=bq (l.length*16≤room) (some (J9 (max 0 gap) (Xt (full l))))
theorem FW{l:List ar}{gap:Int}{s:ab}{Q:List AV→ab→Prop}(h:ok (yj l gap) fun r=>Q [.sl true 2 r.length (flat r)] s):FN Go.Proofs.Tryz.prog 177 [.sl false 2 l.length (flat l),.int .i64 gap] s Q:=by
 unfold yj at h
 rw[gY,bk]at h
 obtain⟨hr,hq⟩:=h
 have hfull:(full l).length≤l.length:=List.length_filter_le _ _
 have hsl:(Xt (full l)).length=(full l).length:=List.length_mergeSort _
 refine FN.qg ?_
 refine FN.of (ay mix) E7 rfl (Nat.le_of_ble_eq_true rfl) ?_
 rw[wx,kK]
 simp -implicitDefEqProofs only[go_sem,start,ag,an,aA,aD,aB,aC,Nat.reduceBEq,Nat.reduceAdd,Nat.reduceMul,Nat.reduceLeDiff,Nat.reduceEqDiff,Nat.reduceBNe,Nat.ble_eq,UInt8.reduceToNat]
 refine FE.app (Gn hr) ?_
 simp -implicitDefEqProofs only[go_sem,start,ag,an,aA,aD,aB,aC,Nat.reduceBEq,Nat.reduceAdd,Nat.reduceMul,Nat.reduceLeDiff,Nat.reduceEqDiff,Nat.reduceBNe,Nat.ble_eq,UInt8.reduceToNat]
 refine⟨fun b cap sp hb h0 hn hl hf hv=>?_,fun hn b off=>?_⟩
 ·simp -implicitDefEqProofs only[go_sem,start,ag,an,aA,aD,aB,aC,Nat.reduceBEq,Nat.reduceAdd,Nat.reduceMul,Nat.reduceLeDiff,Nat.reduceEqDiff,Nat.reduceBNe,Nat.ble_eq,UInt8.reduceToNat]
  refine Io hr fC hn hl fun sp' hl'=>?_
  simp -implicitDefEqProofs only[go_sem,start,ag,an,aA,aD,aB,aC,Nat.reduceBEq,Nat.reduceAdd,Nat.reduceMul,Nat.reduceLeDiff,Nat.reduceEqDiff,Nat.reduceBNe,Nat.ble_eq,UInt8.reduceToNat]
  have hfc:(full l).length≤cap:=by omega
  refine HK fC h0 (by unfold room at hr;omega) fun F hp hasc=>?_
  simp -implicitDefEqProofs only[go_sem,start,ag,an,aA,aD,aB,aC,Nat.reduceBEq,Nat.reduceAdd,Nat.reduceMul,Nat.reduceLeDiff,Nat.reduceEqDiff,Nat.reduceBNe,Nat.ble_eq,UInt8.reduceToNat]
  have hF:F=Xt (full l):=AD (hp.trans (List.mergeSort_perm _ _).symm) hasc (P6 _)
  have hFl:F.length=(full l).length:=by rw[hF,hsl]
  rw[←hFl]
  refine DS (fun _=>⟨rfl,sp',?_⟩) (by omega) fun s' hs'=>?_
  ·exact fC
  ·rw[hF]
   refine⟨s,fun b' o' h'=>hs' b' o' ?_,hq⟩
   have hb:s b=none:=hb
   have hne:b'≠b:=fun e=>by rw[e,hb]at h';cases h'
   unfold ab.set
   rw[if_neg hne];exact h'
 ·have hl0:l=[]:=List.eq_nil_of_length_eq_zero hn
  subst hl0
  simp -implicitDefEqProofs only[go_sem,start,ag,an,aA,aD,aB,aC,Nat.reduceBEq,Nat.reduceAdd,Nat.reduceMul,Nat.reduceLeDiff,Nat.reduceEqDiff,Nat.reduceBNe,Nat.ble_eq,UInt8.reduceToNat]
  refine Im ?_
  simp -implicitDefEqProofs only[go_sem,start,ag,an,aA,aD,aB,aC,Nat.reduceBEq,Nat.reduceAdd,Nat.reduceMul,Nat.reduceLeDiff,Nat.reduceEqDiff,Nat.reduceBNe,Nat.ble_eq,UInt8.reduceToNat]
  refine HJ ?_
  simp -implicitDefEqProofs only[go_sem,start,ag,an,aA,aD,aB,aC,Nat.reduceBEq,Nat.reduceAdd,Nat.reduceMul,Nat.reduceLeDiff,Nat.reduceEqDiff,Nat.reduceBNe,Nat.ble_eq,UInt8.reduceToNat]
  refine DS (F:=[]) (fun h=>(by simp at h)) (by simp) fun s' hs'=>?_
  have e0:Xt (full [])=[]:=List.eq_nil_of_length_eq_zero (by rw[hsl];rfl)
  rw[e0]at hq
  exact⟨s,hs',hq⟩
end Go.AB
end
section
set_option maxRecDepth 4000
namespace Go.AB
open Go
attribute[-go_sem] Nat.add_zero pN dc
def AZ:IC:=
 (aj [i1 2 (.iT true (.c (.sl true 2 0 [])))] [0]
 (.seq (aj [mv 3 0,i1 4 (.F4 false (.t 3) (.c (.dG)))] [0,4]
 (.cond (.t 4) (aj [i1 2 (.iT true (.c (.sl true 2 0 [])))] [2]
 .ret)
 .skip))
 (aj [mv 5 0,nc 6 5,fa 7 0 6,ld 8 1 7,c1 9 203 8,mt 2 9] [2]
 .ret)))
def yN:List bj:=[⟨2,true,none⟩]
theorem IQ:bG Go.Proofs.Tryz.prog 168 10 yN AZ=true:=by kernel_rfl
def yF:IC:=
 (aj [mi 4 0] [0,1]
 (.seq (aj [mv 7 0,c1 8 168 7,le 9 0 8,mi 10 0] [1,8,9,10]
 (.block 0 (.loop [(1,false),(8,false),(9,false),(10,false)] (aj [bt 11 .lss 10 9] [1,8,9,10,11]
 (.seq (.cond (.t 11) .skip
 (.exit 0))
 (.seq (.block 1 (aj [ia 12 [.int .i64 0,.int .i64 0] 8 10,lm 13 2 12,i1 6 (.aQ [.int .i64 0,.int .i64 0]),st 2 6 13] [1,6,8,9,10]
 (aj [fa 14 0 6,ld 15 1 14,mv 16 1,bt 17 .leq 15 16,mv 18 17,b6 19 1 18 true,fg 20 18 true 1 6,lg 21 18 true 1 20,Ap 22 18 true .lss 19 21,pf 23 18 22] [1,6,8,9,10,23]
 (.cond (.t 23) (aj [fa 24 1 6,ld 25 1 24,mv 4 25] [4]
 .ret)
 .skip))))
 (.cU none [bn 26 .add 10 1,mv 10 26] [1,8,9,10])))))))
 (aj [mv 27 1,mv 4 27] [4]
 .ret)))
def wX:List bj:=[⟨4,true,none⟩]
theorem GP:bG Go.Proofs.Tryz.prog 117 28 wX yF=true:=by kernel_rfl
def A0:IC:=
 (aj [i1 3 (.lZ 2 (.t 1))] [0,3]
 (aj [mv 4 0,i1 5 (.F4 true (.t 4) (.c (.dG)))] [0,3,5]
 (.cond (.t 5) (.FI [] [(1,0,mv 6 0),(1,1,mv 7 0),(1,2,nc 8 7),(1,3,fa 9 0 8),(1,5,lm 11 2 3),(1,6,i1 12 (.b5 2 1 [.int .i64 0,.int .i64 0] [(0,2,(.t 11))])),(2,4,i1 10 (.kZ (.t 9))),(1,7,NC 13 2 16 10 12),(2,8,i1 14 (.call 177 [(.t 13),(.c (.int .i64 0))])),(1,9,nc 15 6),(1,10,fa 16 0 15),(3,11,st 1 16 14)] [])
 .skip)))
def yO:List bj:=[]
theorem IS:bG Go.Proofs.Tryz.prog 121 17 yO A0=true:=by kernel_rfl
def ql:IC:=
 (aj [ld 4 1 1,mv 5 0,bt 6 .lss 4 5] [0,1,2,6]
 (.cond (.t 6) (.cU none [i1 7 (.kZ (.t 2)),ld 8 1 1,mv 9 0,i1 10 (.build [.int .i64 0,.int .i64 0] [(0,1,(.t 8)),(1,1,(.t 9))]),i1 11 (.b5 2 1 [.int .i64 0,.int .i64 0] [(0,2,(.t 10))]),NC 12 2 16 7 11,st 1 2 12] [])
 .skip))
def pb:List bj:=[]
theorem za:bG Go.Proofs.Tryz.prog 176 13 pb ql=true:=by kernel_rfl
def rH:IC:=
 (aj [i1 3 (.lZ 2 (.t 1)),i1 4 (.iT true (.c (.sl true 2 0 [])))] [0,3]
 (.seq (aj [lm 10 2 3,c1 11 175 10] [0,3,11]
 (.cond (.t 11) (aj [i1 4 (.iT true (.c (.sl true 2 0 [])))] [4]
 .ret)
 .skip))
 (aj [i1 5 (.gV [.sl true 2 0 []])] [0,3,5]
 (aj [fa 12 0 3,ld 13 1 12,i1 6 (.gV oz),st 1 6 13] [0,3,5,6]
 (aj [i1 14 (.lC 176 [] [(.t 6),(.t 5)]),mv 7 14] [0,3,5,6,7]
 (.seq (aj [mv 15 0,c1 16 168 15,le 17 0 16,mi 18 0] [3,5,6,7,16,17,18]
 (.block 0 (.loop [(3,false),(5,false),(6,false),(7,false),(16,false),(17,false),(18,false)] (aj [bt 19 .lss 18 17] [3,5,6,7,16,17,18,19]
 (.seq (.cond (.t 19) .skip
 (.exit 0))
 (.seq (.block 1 (aj [ia 20 [.int .i64 0,.int .i64 0] 16 18,lm 21 2 20,i1 9 (.aQ [.int .i64 0,.int .i64 0]),st 2 9 21] [3,5,6,7,9,16,17,18]
 (aj [mv 22 7,fa 23 0 9,ld 24 1 23,fa 25 1 3,ld 26 1 25,i1 27 (.hZ false [(.t 24),(.t 26)]),i1 28 (.eC (.t 22) [(.t 27)])] [3,5,6,7,9,16,17,18]
 (.cU none [ld 29 1 6,fa 30 1 9,ld 31 1 30,fa 32 1 3,ld 33 1 32,i1 34 (.hZ false [(.t 31),(.t 33)]),i1 35 (.hZ true [(.t 29),(.t 34)]),st 1 6 35] [3,5,6,7,16,17,18]))))
 (.cU none [bn 36 .add 18 1,mv 18 36] [3,5,6,7,16,17,18])))))))
 (aj [mv 37 7,fa 38 1 3,ld 39 1 38,i1 40 (.eC (.t 37) [(.t 39)])] [5]
 (aj [ld 41 1 5,mt 4 41] [4]
 .ret))))))))
def qC:List bj:=[⟨4,false,none⟩]
theorem A9:bG Go.Proofs.Tryz.prog 119 42 qC rH=true:=by kernel_rfl
abbrev CC(l:List ar):AV:=.sl true 2 l.length (flat l)
abbrev Rw(l:List ar):AV:=.sl false 2 l.length (flat l)
def yw(s:ab)(b off:Nat)(cs:List AV)(l:List ar):Prop:=s b=some (.cells cs)∧cs[off]? =some (CC l)
theorem TI{cs:List AV}{off:Nat}{a:AV}(h:cs[off]? =some a):off+1≤cs.length∧sub cs off 1=[a]:=by
 obtain⟨h1,h2⟩:=List.getElem?_eq_some_iff.1 h
 refine⟨h1,?_⟩
 unfold sub
 rw[List.drop_eq_getElem_cons h1,h2];rfl
@[go_sem]theorem Vz(s:ab)(C:AV→ab→Prop)(b off:Nat):rp s C (.ref b off)=vE b off s C (s b):=rfl
@[go_sem]theorem Oj(b off:Nat)(s:ab)(C:AV→ab→Prop)(cs:List AV):vE b off s C (some (.cells cs))=iJ off cs fun cs' a=>C a (s.set b (.cells cs')):=rfl
theorem N6{cs:List AV}{off:Nat}{l:List ar}{k:List AV→AV→Prop}(h:cs[off]? =some (CC l)):iJ off cs k=k (setAt cs off [Rw l]) (CC l):=by unfold iJ;rw[h]
theorem LL{cs:List AV}{off:Nat}{l:List ar}{k:List AV→AV→Prop}(h:cs[off]? =some (CC l)):iJ (off+0) cs k=k (setAt cs off [Rw l]) (CC l):=N6 h
theorem HI{cs:List AV}{off:Nat}{x y:AV}(h:off<cs.length):setAt (setAt cs off [x]) off [y]=setAt cs off [y]:=by
 have hl:∀z,off<(setAt cs off [z]).length:=fun z=>by rw[mz _ _ _ (show off+[z].length≤cs.length from h)];exact h
 apply List.ext_getElem?
 intro j
 rw[tz _ _ _ (hl x),tz _ _ _ h,tz _ _ _ h]
 by_cases e:j=off<;>simp[e]
theorem Sy{cs:List AV}{off:Nat}{l:List ar}(h:cs[off]? =some (CC l)):iI false (bif decide (off+0+1≤cs.length)then some (views (sub cs (off+0) 1))else none)=.c8 (Rw l):=by
 obtain⟨h1,h2⟩:=TI h
 show iI false (bif decide (off+1≤cs.length)then some (views (sub cs off 1))else none)=_
 rw[h2,decide_eq_true h1];rfl
theorem Gm{o:Bool}{l:List ar}{s:ab}{Q:List AV→ab→Prop}(hr:l.length*16≤room)(hq:Q [CC l] s):FN Go.Proofs.Tryz.prog 203 [.sl o 2 l.length (flat l)] s Q:=by
 refine FN.TA (s2:=s) (aK l) (cm l) hq (FN.mono (vN hr) fun rs s' h=>?_)
 rcases h with⟨b,cap,sp,h1,h2,h3,h4,h5,h6,h7⟩|⟨h1,h2,h3⟩
 ·exact .inl ⟨b,cap,sp,h1,by rw[h7];exact fC,h3,h4,h5,by rw[h7,Af h2];exact Sub.refl s⟩
 ·subst h1;exact .inr ⟨rfl,rfl,by rw[h2];exact Sub.refl s,h3⟩
def z8(l:List ar):Option (List ar):=bq (l.length*16≤room) (some l)
theorem Av{s:ab}{b off:Nat}{cs:List AV}{l:List ar}{Q:List AV→ab→Prop}(hb:yw s b off cs l):ok (z8 l) (fun r=>Q [CC r] s)→FN Go.Proofs.Tryz.prog 168 [.ref b off] s Q:=by
 intro hh
 refine FN.qg (FN.of (ay mix) IQ rfl (Nat.le_of_ble_eq_true rfl) ?_)
 unfold z8 at hh
 revert hh
 rw[AZ,yN]
 simp -implicitDefEqProofs only[go_sem,start,ag,an,aA,aD,aB,aC,Nat.reduceBEq,Nat.reduceAdd,Nat.reduceMul,Nat.reduceLeDiff,Nat.reduceEqDiff,Nat.reduceBNe,Nat.ble_eq,UInt8.reduceToNat,UInt32.reduceToNat,hb.1]
 rintro⟨hr,hq⟩
 refine⟨fun h=>h.elim,fun _=>?_⟩
 rw[Sy hb.2]
 simp -implicitDefEqProofs only[go_sem,start,ag,an,aA,aD,aB,aC,Nat.reduceBEq,Nat.reduceAdd,Nat.reduceMul,Nat.reduceLeDiff,Nat.reduceEqDiff,Nat.reduceBNe,Nat.ble_eq,UInt8.reduceToNat,UInt32.reduceToNat]
 refine Gm hr ?_
 simp -implicitDefEqProofs only[go_sem,start,ag,an,aA,aD,aB,aC,Nat.reduceBEq,Nat.reduceAdd,Nat.reduceMul,Nat.reduceLeDiff,Nat.reduceEqDiff,Nat.reduceBNe,Nat.ble_eq,UInt8.reduceToNat,UInt32.reduceToNat]
 exact⟨s,Sub.refl s,hq⟩
def RF(l:List ar)(at_:Int)(k:Int):Option (Int⊕Int):=
 if decide (k<(l.length:Int))then
  bq (0≤k∧k<l.length)<|
  if(decide ((ix l k).bP≤at_))&&(decide (at_<(ix l k).To))then some (.inr (ix l k).To)else some (.inl (az (k+1)))
 else some (.inr at_)
def Ax(l:List ar)(at_:Int):Option Int:=cj (z8 l) fun l=>iter (RF l at_) 0
theorem F7{s:ab}{b off:Nat}{cs:List AV}{l:List ar}{at_:Int}{Q:List AV→ab→Prop}(hb:yw s b off cs l):ok (Ax l at_) (fun r=>Q [.int .i64 r] s)→FN Go.Proofs.Tryz.prog 117 [.ref b off,.int .i64 at_] s Q:=by
 intro hh
 refine FN.qg (FN.of (ay mix) GP rfl (Nat.le_of_ble_eq_true rfl) ?_)
 revert hh
 rw[yF,wX,Ax]
 simp -implicitDefEqProofs only[go_sem,start,ag,an,aA,aD,aB,aC,Nat.reduceBEq,Nat.reduceAdd,Nat.reduceMul,Nat.reduceLeDiff,Nat.reduceEqDiff,Nat.reduceBNe,Nat.ble_eq,UInt8.reduceToNat,UInt32.reduceToNat]
 intro hh
 refine Av hb ?_
 refine aS hh fun l'=>?_
 simp -implicitDefEqProofs only[go_sem,start,ag,an,aA,aD,aB,aC,Nat.reduceBEq,Nat.reduceAdd,Nat.reduceMul,Nat.reduceLeDiff,Nat.reduceEqDiff,Nat.reduceBNe,Nat.ble_eq,UInt8.reduceToNat,UInt32.reduceToNat]
 refine dp (fun k=>⟨[(1,.int .i64 at_),(8,CC l'),(9,.int .i64 (l'.length:Nat)),(10,.int .i64 k)],[],s⟩) rfl ?_
 intro J k
 rw[RF]
 simp -implicitDefEqProofs only[go_sem,start,ag,an,aA,aD,aB,aC,Nat.reduceBEq,Nat.reduceAdd,Nat.reduceMul,Nat.reduceLeDiff,Nat.reduceEqDiff,Nat.reduceBNe,Nat.ble_eq,UInt8.reduceToNat,UInt32.reduceToNat]
 rintro⟨h1,h2⟩
 exact⟨fun hk=>⟨(h1 hk).1,fun hc=>⟨s,Sub.refl s,(h1 hk).2.1 hc⟩,(h1 hk).2.2⟩,fun hk=>⟨s,Sub.refl s,h2 hk⟩⟩
def Aa(l:List ar)(x:ar):Option (List ar):=bq ((l.length+1)*16≤room)<|yj (l++[x]) 0
theorem HW{s:ab}{b off:Nat}{cs:List AV}{l:List ar}{x:ar}{Q:List AV→ab→Prop}(hb:yw s b off cs l):ok (Aa l x) (fun r=>Q [] (s.set b (.cells (setAt cs off [CC r]))))→FN Go.Proofs.Tryz.prog 121 [.ref b off,.agg [.int .i64 x.bP,.int .i64 x.To]] s Q:=by
 intro hh
 refine FN.qg (FN.of (ay mix) IS rfl (Nat.le_of_ble_eq_true rfl) ?_)
 revert hh
 rw[A0,yO,Aa]
 simp -implicitDefEqProofs only[go_sem,start,ag,an,aA,aD,aB,aC,Nat.reduceBEq,Nat.reduceAdd,Nat.reduceMul,Nat.reduceLeDiff,Nat.reduceEqDiff,Nat.reduceBNe,Nat.ble_eq,UInt8.reduceToNat,UInt32.reduceToNat,hb.1]
 rintro⟨hr,hh⟩
 refine⟨fun _=>?_,fun h=>by cases h⟩
 rw[LL hb.2]
 simp -implicitDefEqProofs only[go_sem,start,ag,an,aA,aD,aB,aC,Nat.reduceBEq,Nat.reduceAdd,Nat.reduceMul,Nat.reduceLeDiff,Nat.reduceEqDiff,Nat.reduceBNe,Nat.ble_eq,UInt8.reduceToNat,UInt32.reduceToNat,hb.1]
 refine⟨hr,?_⟩
 have e1:(l++[x]).length=l.length+1:=by simp
 have e2:flat (l++[x])=flat l++[AV.int IntKind.i64 x.bP,AV.int IntKind.i64 x.To]:=by rw[eV];rfl
 have hj:=fun Q=>FW (l:=l++[x]) (gap:=0) (s:=s.set b (SO.cells (setAt cs off [Rw l]))) (Q:=Q)
 rw[e1,e2]at hj
 refine hj _ (aS hh fun r hq=>?_)
 simp -implicitDefEqProofs only[go_sem,start,ag,an,aA,aD,aB,aC,Nat.reduceBEq,Nat.reduceAdd,Nat.reduceMul,Nat.reduceLeDiff,Nat.reduceEqDiff,Nat.reduceBNe,Nat.ble_eq,UInt8.reduceToNat,UInt32.reduceToNat,fC]
 have hlt:off<cs.length:=(List.getElem?_eq_some_iff.1 hb.2).1
 rw[mz _ _ _ (show off+[Rw l].length≤cs.length from hlt)]
 refine⟨hlt,_,Sub.refl _,?_⟩
 rw[Nat.add_zero,HI hlt]
 exact hq
def Al(at_:Int)(out:List ar)(to_:Int):Option (List ar):=if decide (at_<to_)then bq ((out.length+1)*16≤room)<|some (out++[⟨at_,to_⟩])else some out
theorem qj{s:ab}{a o:Nat}{at_ to_:Int}{out:List ar}{Q:List AV→ab→Prop}(ha:s a=some (.cells [.int .i64 at_]))(ho:s o=some (.cells [CC out])):ok (Al at_ out to_) (fun r=>Q [] (s.set o (.cells [CC r])))→FN Go.Proofs.Tryz.prog 176 [.int .i64 to_,.ref a 0,.ref o 0] s Q:=by
 intro hh
 refine FN.qg (FN.of (ay mix) za rfl (Nat.le_of_ble_eq_true rfl) ?_)
 revert hh
 rw[ql,pb,Al]
 simp -implicitDefEqProofs only[go_sem,start,ag,an,aA,aD,aB,aC,Nat.reduceBEq,Nat.reduceAdd,Nat.reduceMul,Nat.reduceLeDiff,Nat.reduceEqDiff,Nat.reduceBNe,Nat.ble_eq,UInt8.reduceToNat,UInt32.reduceToNat,ha,ho]
 rintro⟨h1,h2⟩
 have hne:a≠o:=by rintro rfl;rw[ha]at ho;simp at ho
 refine⟨fun hc=>?_,fun hc=>⟨_,Sub.refl s,by have:=h2 hc;rwa[fu ho]at this⟩⟩
 simp -implicitDefEqProofs only[go_sem,start,ag,an,aA,aD,aB,aC,Nat.reduceBEq,Nat.reduceAdd,Nat.reduceMul,Nat.reduceLeDiff,Nat.reduceEqDiff,Nat.reduceBNe,Nat.ble_eq,UInt8.reduceToNat,UInt32.reduceToNat,bD hne,ha]
 have e:CC (out++[⟨at_,to_⟩])=.sl true 2 (out.length+1) (flat out++[AV.int IntKind.i64 at_,AV.int IntKind.i64 to_]):=by unfold CC;rw[eV,List.length_append];rfl
 refine⟨(h1 hc).1,_,Sub.refl _,?_⟩
 rw[←e];exact(h1 hc).2
theorem yw.set{s:ab}{b off c:Nat}{cs:List AV}{l:List ar}{x:SO}(h:yw s b off cs l)(hn:s c=none):yw (s.set c x) b off cs l:=by
 refine⟨?_,h.2⟩
 rw[bD (fun e=>by rw[←e,h.1]at hn;cases hn)];exact h.1
def QZ(x:ar)(l:List ar):(List ar×Int×Int)→Option ((List ar×Int×Int)⊕(List ar×Int)):=fun(out,at_,k)=>
 if decide (k<(l.length:Int))then
  bq (0≤k∧k<l.length)<|
  cj (Al at_ out (min (ix l k).bP x.To)) fun out=>
  some (.inl (out,max at_ (min (ix l k).To x.To),az (k+1)))
 else some (.inr (out,at_))
def rj(l:List ar)(x:ar):Option (List ar):=
 cj (fY x) fun e=>
 if e then some []else
  cj (z8 l) fun l=>
  cj (iter (QZ x l) ([],x.bP,0)) fun(out,at_)=>
  Al at_ out x.To
theorem Aw{s:ab}{b off:Nat}{cs:List AV}{l:List ar}{x:ar}{Q:List AV→ab→Prop}(hb:yw s b off cs l):ok (rj l x) (fun r=>Q [Rw r] s)→FN Go.Proofs.Tryz.prog 119 [.ref b off,.agg [.int .i64 x.bP,.int .i64 x.To]] s Q:=by
 intro hh
 refine FN.qg (FN.of (ay mix) A9 rfl (Nat.le_of_ble_eq_true rfl) ?_)
 revert hh
 rw[rH,qC,rj]
 simp -implicitDefEqProofs only[go_sem,start,ag,an,aA,aD,aB,aC,Nat.reduceBEq,Nat.reduceAdd,Nat.reduceMul,Nat.reduceLeDiff,Nat.reduceEqDiff,Nat.reduceBNe,Nat.ble_eq,UInt8.reduceToNat,UInt32.reduceToNat]
 refine ak (fun _ h=>gU h) fun e=>?_
 simp -implicitDefEqProofs only[go_sem,start,ag,an,aA,aD,aB,aC,Nat.reduceBEq,Nat.reduceAdd,Nat.reduceMul,Nat.reduceLeDiff,Nat.reduceEqDiff,Nat.reduceBNe,Nat.ble_eq,UInt8.reduceToNat,UInt32.reduceToNat]
 rintro⟨h1,h2⟩
 refine⟨fun he=>⟨s,Sub.refl s,h1 he⟩,fun he o ho a ha=>?_⟩
 have hh:=h2 he
 refine Av ((hb.set ho).set ha) (aS hh fun l' hh=>?_)
 simp -implicitDefEqProofs only[go_sem,start,ag,an,aA,aD,aB,aC,Nat.reduceBEq,Nat.reduceAdd,Nat.reduceMul,Nat.reduceLeDiff,Nat.reduceEqDiff,Nat.reduceBNe,Nat.ble_eq,UInt8.reduceToNat,UInt32.reduceToNat]
 revert hh
 refine dp (fun st=>⟨[(3,.loc [.int .i64 x.bP,.int .i64 x.To]),(5,.ref o 0),(6,.ref a 0),(7,.fn 176 [] [.ref a 0,.ref o 0]),(16,CC l'),(17,.int .i64 (l'.length:Nat)),(18,.int .i64 st.2.2)],[],(s.set o (.cells [CC st.1])).set a (.cells [.int .i64 st.2.1])⟩) rfl ?_
 rintro J ⟨out,at_,k⟩
 have hne:o≠a:=by rintro rfl;rw[bK]at ha;cases ha
 rw[QZ]
 simp -implicitDefEqProofs only[go_sem,start,ag,an,aA,aD,aB,aC,Nat.reduceBEq,Nat.reduceAdd,Nat.reduceMul,Nat.reduceLeDiff,Nat.reduceEqDiff,Nat.reduceBNe,Nat.ble_eq,UInt8.reduceToNat,UInt32.reduceToNat]
 rintro⟨h1,h2⟩
 have st:∀X Y Z,((s.set o X).set a Y).set o Z=(s.set o Z).set a Y:=fun X Y Z=>by rw[set_comm hne,set_set]
 have go':∀X Y,((s.set o X).set a Y) o=some X:=fun X Y=>by rw[bD hne,bK]
 have sub':∀X Y,Sub s ((s.set o X).set a Y):=fun X Y=>((Sub.refl s).set ho).set (by rw[gr]at ha⊢;exact ha)
 refine⟨fun hc=>⟨(h1 hc).1,rfl,?_⟩,fun hc=>⟨rfl,?_⟩⟩
 ·refine qj (at_:=at_) (bK ..) (go' ..) (aS (h1 hc).2 fun r hr=>?_)
  rw[st]
  simp -implicitDefEqProofs only[go_sem,start,ag,an,aA,aD,aB,aC,Nat.reduceBEq,Nat.reduceAdd,Nat.reduceMul,Nat.reduceLeDiff,Nat.reduceEqDiff,Nat.reduceBNe,Nat.ble_eq,UInt8.reduceToNat,UInt32.reduceToNat,bK,set_set]
  exact hr
 ·refine qj (at_:=at_) (bK ..) (go' ..) (aS (h2 hc) fun r hr=>?_)
  rw[st]
  simp -implicitDefEqProofs only[go_sem,start,ag,an,aA,aD,aB,aC,Nat.reduceBEq,Nat.reduceAdd,Nat.reduceMul,Nat.reduceLeDiff,Nat.reduceEqDiff,Nat.reduceBNe,Nat.ble_eq,UInt8.reduceToNat,UInt32.reduceToNat,go']
  exact⟨s,sub' _ _,hr⟩
end Go.AB
end
section
set_option maxRecDepth 4000
namespace Go.AB
open Go
attribute[-go_sem] Nat.add_zero pN dc
def vY:IC:=
 (aj [dT 2 (.bool false)] [0]
 (aj [mv 3 0,i1 4 (.F4 true (.t 3) (.c (.dG))),mv 5 4,b6 6 0 5 true,cQ 7 5 true (.nilCheck (.t 6)),fg 8 5 true 0 7,lg 9 5 true 1 8,pf 10 5 9,mv 2 10] [2]
 .ret))
def uk:List bj:=[⟨2,true,none⟩]
theorem EW:bG Go.Proofs.Tryz.prog 116 11 uk vY=true:=by kernel_rfl
def qm:IC:=
 (aj [mi 2 0] [0]
 (.seq (aj [mv 3 0,c1 4 116 3,no 5 4] [0,5]
 (.cond (.t 5) (aj [mi 2 0] [2]
 .ret)
 .skip))
 (aj [mv 6 0,nc 7 6,fa 8 1 7,ld 9 1 8,mv 2 9] [2]
 .ret)))
def pc:List bj:=[⟨2,true,none⟩]
theorem zb:bG Go.Proofs.Tryz.prog 62 10 pc qm=true:=by kernel_rfl
def ud:IC:=
 (aj [dT 2 (.dG),mi 3 0] [0]
 (.seq (aj [mv 4 0,bn 5 .lss 4 0,mv 6 5,b6 7 0 6 false,jz 8 6 false .gtr 7 2147483647,po 9 6 8] [0,9]
 (.cond (.t 9) (aj [dT 2 (.dG),mi 3 5] [2,3]
 .ret)
 .skip))
 (aj [mv 10 0,i1 11 (.makeMap),i1 12 (.build [.bool false,.int .i64 0,.arr 0 0 0 0,.sq] [(0,1,(.c (.bool true))),(1,1,(.t 10)),(3,1,(.t 11))]),i1 13 (.Ey 2 4 (.t 12)),mv 2 13,mi 3 0] [2,3]
 .ret)))
def sK:List bj:=[⟨2,true,none⟩,⟨3,true,none⟩]
theorem CZ:bG Go.Proofs.Tryz.prog 65 14 sK ud=true:=by kernel_rfl
def qA:IC:=
 (aj [dT 2 (.dG)] [0]
 (aj [mv 6 0,le 7 0 6,c1 8 65 7,lj 5 8,ex 9 5 0,ex 10 5 1,mv 3 9,mv 4 10] [0,3,4]
 (.seq (aj [mv 11 4,bn 12 .neq 11 0] [0,3,12]
 (.cond (.t 12) (aj [dT 2 (.dG)] [2]
 .ret)
 .skip))
 (aj [mv 13 3,mt 14 0,i1 15 (.call 66 [(.t 13),(.c (.int .i64 0)),(.t 14)])] [3]
 (aj [mv 16 3,mv 2 16] [2]
 .ret)))))
def py:List bj:=[⟨2,true,none⟩]
theorem zm:bG Go.Proofs.Tryz.prog 29 17 py qA=true:=by kernel_rfl
def qn:IC:=
 (.block 0 (.loop [(0,false),(1,false),(2,false)] (.seq (aj [mv 11 2,le 12 0 11,bn 13 .gtr 12 0] [0,1,2,13]
 (.cond (.t 13) .skip
 (.exit 0)))
 (.block 1 (aj [mv 14 1,bn 15 .quo 14 4096,mv 16 1,bn 17 .rem 16 4096,mv 6 15,mv 7 17] [0,1,2,6,7]
 (aj [mv 19 0,nc 20 19,fa 21 3 20,ld 22 1 21,mv 23 6,i1 24 (.lookup (.int .i64) (.sl false 1 0 []) true (.t 22) (.t 23)),lj 18 24,ex 25 18 0,ex 26 18 1,mt 8 25,mv 9 26] [0,1,2,6,7,8,9]
 (.seq (aj [mv 27 9,no 28 27] [0,1,2,6,7,8,28]
 (.cond (.t 28) (aj [i1 29 (.gE 1 1 [.int .u8 0] (.c (.int .i64 4096)) (.c (.int .i64 4096))),mt 8 29] [0,1,2,6,7,8]
 (.cU none [mv 30 0,nc 31 30,fa 32 3 31,ld 33 1 32,mv 34 6,mv 35 8,i0 (.mapUpdate (.int .i64) (.t 33) (.t 34) (.t 35))] [0,1,2,7,8]))
 .skip))
 (aj [mt 36 8,mv 37 7,Vc 38 1 36 37,mv 39 2,i1 40 (.vP 1 (.t 38) (.t 39)),mv 10 40] [0,1,2,10]
 (.cU (some 8) [mv 41 1,mv 42 10,bt 43 .add 41 42,mv 44 2,mv 45 10,Vc 46 1 44 45,mv 1 43,mv 2 46] [0,1,2])))))))))
def pd:List bj:=[]
theorem zc:bG Go.Proofs.Tryz.prog 120 47 pd qn=true:=by kernel_rfl
def tQ:IC:=
 (aj [mi 6 0] [0,1,2]
 (.seq (.block 0 (aj [mv 11 0,c1 12 116 11,no 13 12,mv 10 13] [0,1,2,10]
 (.cond (.t 10) (aj [mi 6 1] [6]
 .ret)
 (aj [mv 15 1,bn 16 .lss 15 0,mv 17 16,b6 18 1 17 false,b6 19 0 17 false,cQ 20 17 false (.nilCheck (.t 19)),fg 21 17 false 1 20,lg 22 17 false 1 21,Ap 23 17 false .gtr 18 22,po 24 17 23,mv 14 24] [0,1,2,14]
 (.cond (.t 14) (aj [mi 6 2] [6]
 .ret)
 (aj [mv 26 2,le 27 0 26,mv 28 0,nc 29 28,fa 30 1 29,ld 31 1 30,mv 32 1,bt 33 .sub 31 32,bt 34 .gtr 27 33,mv 25 34] [0,1,2,25]
 (.cond (.t 25) (aj [mi 6 5] [6]
 .ret)
 .skip)))))))
 (aj [mv 35 1,mv 36 1,mv 37 2,le 38 0 37,bt 39 .add 36 38,i1 40 (.build [.int .i64 0,.int .i64 0] [(0,1,(.t 35)),(1,1,(.t 39))]),i1 7 (.aQ [.int .i64 0,.int .i64 0]),st 2 7 40] [0,1,2,7]
 (.seq (.seq (.cU (some 7) [mv 41 0,nc 42 41,fa 43 2 42,lm 44 2 7,c2 45 119 43 44,le 46 0 45,mi 47 0] [0,1,2,7,45,46,47])
 (.block 1 (.loop [(0,false),(1,false),(2,false),(7,false),(45,false),(46,false),(47,false)] (aj [bt 48 .lss 47 46] [0,1,2,7,45,46,47,48]
 (.seq (.cond (.t 48) .skip
 (.exit 1))
 (.seq (.block 2 (aj [ia 49 [.int .i64 0,.int .i64 0] 45 47,lm 50 2 49,i1 9 (.aQ [.int .i64 0,.int .i64 0]),st 2 9 50] [0,1,2,7,9,45,46,47]
 (.cU (some 13) [mv 51 0,fa 52 0 9,ld 53 1 52,mv 54 2,fa 55 0 9,ld 56 1 55,mv 57 1,bt 58 .sub 56 57,fa 59 1 9,ld 60 1 59,mv 61 1,bt 62 .sub 60 61,i1 63 (.slice 1 (.t 54) (some (.t 58)) (some (.t 62)) none),c3 64 120 51 53 63] [0,1,2,7,45,46,47])))
 (.cU none [bn 65 .add 47 1,mv 47 65] [0,1,2,7,45,46,47])))))))
 (.seq (.cU (some 4) [mv 66 0,nc 67 66,fa 68 2 67,lm 69 2 7,c2 70 121 68 69] [])
 (aj [mi 6 0] [6]
 .ret))))))
def sx:List bj:=[⟨6,true,none⟩]
theorem CN:bG Go.Proofs.Tryz.prog 66 71 sx tQ=true:=by kernel_rfl
abbrev LQ:=Int→Option (List UInt8)
structure oB where
 total:Int
 known:List ar
 s6:LQ
def oA(m:LQ)(k:Int)(l:List UInt8):LQ:=fun i=>if i=k then some l else m i
def KI(es:List (AV×AV)):Prop:=∀p∈es,∃(k:Int)(v:AV),p=(.int .i64 k,v)
def Au(s0 s:ab)(es:List (AV×AV))(k:Int):Option (List UInt8)→Prop
 |none=>fw (.int .i64 k) es=none
 |some l=>l.length=4096∧∃b,fw (.int .i64 k) es=some (.arr b 0 4096 4096)∧s0 b=none∧s b=some (.cells (flat l))
def Z0(es:List (AV×AV)):Prop:=∀k k' b,fw (.int .i64 k) es=some (.arr b 0 4096 4096)→fw (.int .i64 k') es=some (.arr b 0 4096 4096)→k=k'
def eO(s0 s:ab)(B:Nat)(g:oB):Prop:=Sub s0 s∧s0 B=none∧∃M es,s B=some (.cells [.bool true,.int .i64 g.total,CC g.known,.mp M])∧s0 M=none∧s M=some (.map es)∧KI es∧(∀k,Au s0 s es k (g.s6 k))∧Z0 es
def Vs(cs:List AV):Prop:=∀c∈cs,∃m:Int,c=.int .u8 m
theorem Qd(l:List UInt8):Vs (flat l):=fun c hc=>by
 obtain⟨y,hy,hc⟩:=List.mem_flatten.1 hc
 obtain⟨z,_,rfl⟩:=List.mem_map.1 hy
 exact⟨_,List.mem_singleton.1 hc⟩
theorem J0{l:List UInt8}{r:List AV}(h:flat l=.bool true::r):False:=by
 obtain⟨m,hm⟩:=Qd l (.bool true) (by rw[h];exact List.mem_cons_self)
 cases hm
theorem Au.mono{s0 s s':ab}{es:List (AV×AV)}{k:Int}{o:Option (List UInt8)}(h:Au s0 s es k o)(hs:∀b l,s b=some (.cells (flat (l:List UInt8)))→s' b=some (.cells (flat l))):Au s0 s' es k o:=by
 cases o with
 |none=>exact h
 |some l=>obtain⟨h1,b,h2,h3,h4⟩:=h;exact⟨h1,b,h2,h3,hs b l h4⟩
theorem eO.set{s0 s:ab}{B:Nat}{g:oB}{c:Nat}{x:SO}(h:eO s0 s B g)(hn:s c=none):eO s0 (s.set c x) B g:=by
 obtain⟨h1,h2,M,es,h3,h4,h5,h6,h7,h8⟩:=h
 have ne:∀b o,s b=some o→(s.set c x) b=some o:=fun b o hb=>by rw[bD (fun e=>by rw[e,hn]at hb;cases hb)];exact hb
 exact⟨h1.set hn,h2,M,es,ne _ _ h3,h4,ne _ _ h5,h6,fun k=>(h7 k).mono fun b l=>ne b _,h8⟩
theorem eO.setAt{s0 s:ab}{B:Nat}{g:oB}(h:eO s0 s B g):∃cs,yw s B 2 cs g.known∧∀l,eO s0 (s.set B (.cells (AB.setAt cs 2 [CC l]))) B ⟨g.total,l,g.s6⟩:=by
 obtain⟨h1,h2,M,es,h3,h4,h5,h6,h7,h8⟩:=h
 refine⟨_,⟨h3,rfl⟩,fun l=>⟨fun b o hb=>?_,h2,M,es,?_,h4,?_,h6,fun k=>(h7 k).mono fun b l hb=>?_,h8⟩⟩
 ·rw[bD (fun e=>by rw[e,h2]at hb;cases hb)];exact h1 b o hb
 ·rw[bK];rfl
 ·rw[bD (fun e=>by rw[e,h3]at h5;cases h5)];exact h5
 ·rw[bD (fun e=>by
   rw[e,h3]at hb
   injection hb with hb;injection hb with hb
   exact J0 hb.symm)]
  exact hb
theorem KI.keys{es:List (AV×AV)}(h:KI es):mO (.int .i64) es=true:=by
 unfold mO
 rw[List.all_eq_true]
 intro p hp
 obtain⟨k,v,rfl⟩:=h p hp
 rfl
theorem mn(k k':Int)(v:AV):∀{es:List (AV×AV)},KI es→fw (.int .i64 k) (wT (.int .i64 k') v es)=if k=k' then some v else fw (.int .i64 k) es
 |[],_=>by
  simp only[wT,fw,oT]
  by_cases h:k=k'
  ·simp[h]
  ·rw[if_neg h,show(k==k')=false by simpa using h];rfl
 |p::es,h=>by
  obtain⟨j,u,rfl⟩:=h p List.mem_cons_self
  have ih:=mn k k' v (es:=es) fun q hq=>h q (List.mem_cons_of_mem _ hq)
  simp only[wT,oT]
  by_cases e:k'=j
  ·subst e
   by_cases h:k=k'
   ·simp[fw,oT,h]
   ·simp only[beq_self_eq_true,cond_true,fw,oT];rw[if_neg h,show(k==k')=false by simpa using h];rfl
  ·rw[show(k'==j)=false by simpa using e]
   simp only[cond_false,fw,oT,ih]
   by_cases h:k=j
   ·subst h;simp only[beq_self_eq_true,cond_true,if_neg (fun h:k=k'=>e h.symm)]
   ·rw[show(k==j)=false by simpa using h];simp
theorem KI.put{k:Int}{v:AV}:∀{es:List (AV×AV)},KI es→KI (wT (.int .i64 k) v es)
 |[],_=>fun p hp=>by
  rcases List.mem_cons.1 hp with rfl|hp
  ·exact⟨k,v,rfl⟩
  ·cases hp
 |q::es,h=>by
  unfold wT
  cases hk:sf (.int .i64 k) q.1 with
  |true=>
   intro p hp
   rcases List.mem_cons.1 hp with rfl|hp
   ·exact⟨k,v,rfl⟩
   ·exact h p (List.mem_cons_of_mem _ hp)
  |false=>
   intro p hp
   rcases List.mem_cons.1 hp with rfl|hp
   ·exact h _ List.mem_cons_self
   ·exact KI.put (fun q' hq=>h q' (List.mem_cons_of_mem _ hq)) p hp
theorem eO.row{s0 s:ab}{B b M:Nat}{g:oB}{es:List (AV×AV)}{k:Int}{l l':List UInt8}(h:eO s0 s B g)(hB:s B=some (.cells [.bool true,.int .i64 g.total,CC g.known,.mp M]))(hM:s M=some (.map es))(hb:s0 b=none)(hk:fw (.int .i64 k) es=some (.arr b 0 4096 4096))(h1:s b=some (.cells (flat l)))(h3:l'.length=4096):
 eO s0 (s.set b (.cells (flat l'))) B ⟨g.total,g.known,oA g.s6 k l'⟩:=by
 obtain⟨q1,q2,M',es',q3,q4,q5,q6,q7,q8⟩:=h
 have eM:M'=M:=by
  rw[q3]at hB
  injection hB with hB;injection hB with hB;simp at hB;exact hB
 subst eM
 have eE:es'=es:=by rw[q5]at hM;injection hM with hM;injection hM
 subst eE
 have nB:B≠b:=fun e=>by
  rw[←e,q3]at h1
  injection h1 with h1;injection h1 with h1
  exact J0 h1.symm
 have nM:M'≠b:=fun e=>by rw[←e,q5]at h1;cases h1
 refine⟨fun c o hc=>?_,q2,M',es',by rw[bD nB];exact q3,q4,by rw[bD nM];exact q5,q6,fun i=>?_,q8⟩
 ·rw[bD (fun e=>by rw[e,hb]at hc;cases hc)];exact q1 c o hc
 ·show Au _ _ _ i (if i=k then some l' else g.s6 i)
  by_cases hi:i=k
  ·subst hi;rw[if_pos rfl];exact⟨h3,b,hk,hb,bK ..⟩
  ·rw[if_neg hi]
   have h:=q7 i
   cases ho:g.s6 i with
   |none=>rw[ho]at h;exact h
   |some l2=>
    rw[ho]at h
    obtain⟨w1,b2,w2,w3,w4⟩:=h
    exact⟨w1,b2,w2,w3,by rw[bD (fun e=>hi (q8 i k b2 w2 (by rw[e];exact hk)))];exact w4⟩
theorem eO.put{s0 s:ab}{B M b:Nat}{g:oB}{es:List (AV×AV)}{k:Int}{l:List UInt8}(h:eO s0 s B g)(hB:s B=some (.cells [.bool true,.int .i64 g.total,CC g.known,.mp M]))(hM:s M=some (.map es))(hb:s b=none)(h3:l.length=4096):
 eO s0 ((s.set b (.cells (flat l))).set M (.map (wT (.int .i64 k) (.arr b 0 4096 4096) es))) B ⟨g.total,g.known,oA g.s6 k l⟩:=by
 obtain⟨q1,q2,M',es',q3,q4,q5,q6,q7,q8⟩:=h
 have eM:M'=M:=by
  rw[q3]at hB
  injection hB with hB;injection hB with hB;simp at hB;exact hB
 subst eM
 have eE:es'=es:=by rw[q5]at hM;injection hM with hM;injection hM
 subst eE
 have nBb:B≠b:=fun e=>by rw[e,hb]at q3;cases q3
 have nMb:M'≠b:=fun e=>by rw[e,hb]at q5;cases q5
 have nB:B≠M':=fun e=>by rw[e,q5]at q3;cases q3
 have fb:∀i,fw (.int .i64 i) es'≠some (.arr b 0 4096 4096):=fun i e=>by
  have h:=q7 i
  cases ho:g.s6 i with
  |none=>rw[ho]at h;rw[show fw _ es'=none from h]at e;cases e
  |some l2=>
   rw[ho]at h
   obtain⟨w1,b2,w2,w3,w4⟩:=h
   rw[w2]at e;injection e with e;injection e with e
   rw[e,hb]at w4;cases w4
 refine⟨fun c o hc=>?_,q2,M',_,by rw[bD nB,bD nBb];exact q3,q4,bK ..,q6.put,fun i=>?_,fun i j c hi hj=>?_⟩
 ·rw[bD (fun e=>by rw[e,q4]at hc;cases hc),bD (fun e=>by rw[e,Sub.none q1 hb]at hc;cases hc)];exact q1 c o hc
 ·show Au _ _ _ i (if i=k then some l else g.s6 i)
  by_cases hi:i=k
  ·subst hi;rw[if_pos rfl]
   exact⟨h3,b,by rw[mn _ _ _ q6,if_pos rfl],Sub.none q1 hb,by rw[bD (Ne.symm nMb),bK]⟩
  ·rw[if_neg hi]
   have h:=q7 i
   cases ho:g.s6 i with
   |none=>rw[ho]at h;show fw _ _=none;rw[mn _ _ _ q6,if_neg hi];exact h
   |some l2=>
    rw[ho]at h
    obtain⟨w1,b2,w2,w3,w4⟩:=h
    exact⟨w1,b2,by rw[mn _ _ _ q6,if_neg hi];exact w2,w3,by rw[bD (fun e=>by rw[e,q5]at w4;cases w4),bD (fun e=>by rw[e,hb]at w4;cases w4)];exact w4⟩
 ·rw[mn _ _ _ q6]at hi hj
  by_cases ei:i=k
  ·by_cases ej:j=k
   ·rw[ei,ej]
   ·rw[if_pos ei]at hi;rw[if_neg ej]at hj
    injection hi with hi;injection hi with hi
    rw[←hi]at hj;exact absurd hj (fb j)
  ·rw[if_neg ei]at hi
   by_cases ej:j=k
   ·rw[if_pos ej]at hj
    injection hj with hj;injection hj with hj
    rw[←hj]at hi;exact absurd hi (fb i)
   ·rw[if_neg ej]at hj;exact q8 i j c hi hj
theorem pE{s0 s:ab}{B:Nat}{g:oB}{Q:List AV→ab→Prop}(h:eO s0 s B g)(hq:Q [.bool true] s):FN Go.Proofs.Tryz.prog 116 [.ref B 0] s Q:=by
 obtain⟨h1,h2,M,es,h3,h4,h5,h6⟩:=h
 refine FN.qg (FN.of (ay mix) EW rfl (Nat.le_of_ble_eq_true rfl) ?_)
 rw[vY,uk]
 simp -implicitDefEqProofs only[go_sem,start,ag,an,aA,aD,aB,aC,Nat.reduceBEq,Nat.reduceAdd,Nat.reduceMul,Nat.reduceLeDiff,Nat.reduceEqDiff,Nat.reduceBNe,Nat.ble_eq,UInt8.reduceToNat,UInt32.reduceToNat,h3]
 exact⟨s,Sub.refl s,hq⟩
theorem yY{s0 s:ab}{B:Nat}{g:oB}{Q:List AV→ab→Prop}(h:eO s0 s B g)(hq:Q [.int .i64 g.total] s):FN Go.Proofs.Tryz.prog 62 [.ref B 0] s Q:=by
 refine FN.qg (FN.of (ay mix) zb rfl (Nat.le_of_ble_eq_true rfl) ?_)
 rw[qm,pc]
 simp -implicitDefEqProofs only[go_sem,start,ag,an,aA,aD,aB,aC,Nat.reduceBEq,Nat.reduceAdd,Nat.reduceMul,Nat.reduceLeDiff,Nat.reduceEqDiff,Nat.reduceBNe,Nat.ble_eq,UInt8.reduceToNat,UInt32.reduceToNat]
 refine pE h ?_
 obtain⟨h1,h2,M,es,h3,h4,h5,h6⟩:=h
 simp -implicitDefEqProofs only[go_sem,start,ag,an,aA,aD,aB,aC,Nat.reduceBEq,Nat.reduceAdd,Nat.reduceMul,Nat.reduceLeDiff,Nat.reduceEqDiff,Nat.reduceBNe,Nat.ble_eq,UInt8.reduceToNat,UInt32.reduceToNat,h3]
 exact⟨fun h=>h.elim,fun _=>⟨s,Sub.refl s,hq⟩⟩
theorem Dn{s:ab}{n:Int}{Q:List AV→ab→Prop}(hn:0≤n∧n≤2147483647)(hq:∀B s',eO s s' B ⟨n,[],fun _=>none⟩→Q [.ref B 0,.int .i64 0] s'):FN Go.Proofs.Tryz.prog 65 [.int .i64 n] s Q:=by
 refine FN.qg (FN.of (ay mix) CZ rfl (Nat.le_of_ble_eq_true rfl) ?_)
 rw[ud,sK]
 simp -implicitDefEqProofs only[go_sem,start,ag,an,aA,aD,aB,aC,Nat.reduceBEq,Nat.reduceAdd,Nat.reduceMul,Nat.reduceLeDiff,Nat.reduceEqDiff,Nat.reduceBNe,Nat.ble_eq,UInt8.reduceToNat,UInt32.reduceToNat]
 refine⟨fun h=>?_,fun _ M hM B hB=>⟨_,Sub.refl _,hq B _ ⟨((Sub.refl s).set hM).set hB,?_,M,[],bK ..,hM,?_,fun p hp=>(by cases hp),fun k=>rfl,fun k k' b h=>(by cases h)⟩⟩⟩
 ·simp at h;omega
 ·rw[gr]at hB;exact hB.2
 ·rw[gr]at hB;rw[bD (Ne.symm hB.1),bK]
theorem Lh{es:List (AV×AV)}{n:Int}(h:KI es)(e:fw (.int .i64 n) es=none):tk (.int .i64) (.sl false 1 0 []) true (.int .i64 n) (some (.map es))=.prt True (.gu [.sl false 1 0 [],.bool false]):=by
 show LS true (fL (.int .i64) (.int .i64 n)=true∧mO (.int .i64) es=true) (uh (.sl false 1 0 []) true (fw (.int .i64 n) es))=_
 rw[e,h.keys]
 show PR.prt (true=true∧true=true) _=_
 simp[uh,Jc,view]
theorem Li{es:List (AV×AV)}{n:Int}{b:Nat}(h:KI es)(e:fw (.int .i64 n) es=some (.arr b 0 4096 4096)):tk (.int .i64) (.sl false 1 0 []) true (.int .i64 n) (some (.map es))=.prt True (.gu [.arr b 0 4096 4096,.bool true]):=by
 show LS true (fL (.int .i64) (.int .i64 n)=true∧mO (.int .i64) es=true) (uh (.sl false 1 0 []) true (fw (.int .i64 n) es))=_
 rw[e,h.keys]
 show PR.prt (true=true∧true=true) _=_
 simp[uh,Jc,view]
theorem AA{o:Nat}(h:o<4096):iK 0 4096 o 1=o:=by
 unfold iK
 rw[show(4096==o)=false by simp;omega];simp
def jm(c:List UInt8)(o:Nat)(x:List UInt8):List UInt8:=c.take o++x++c.drop (o+x.length)
theorem Nj{c x:List UInt8}{o:Nat}(h:o+x.length≤c.length):(jm c o x).length=c.length:=by unfold jm;simp only[List.length_append,List.length_take,List.length_drop];omega
theorem Qe(m:LQ)(k:Int)(x y:List UInt8):oA (oA m k x) k y=oA m k y:=by funext i;unfold oA;by_cases h:i=k<;>simp[h]
theorem ZP{σ:St}{d:Option Nat}{K:St→Prop}{s0:ab}{B b M:Nat}{g:oB}{es:List (AV×AV)}{k:Int}{c l:List UInt8}{o o' n cap:Nat}(h:eO s0 σ.s B g)(hB:σ.s B=some (.cells [.bool true,.int .i64 g.total,CC g.known,.mp M]))(hM:σ.s M=some (.map es))(hb:s0 b=none)
 (hk:fw (.int .i64 k) es=some (.arr b 0 4096 4096))(h2:σ.s b=some (.cells (flat c)))(h3:c.length=4096)(ho:o<4096)(he:o'=o)(hn:n=4096 -o)
 (hK:∀s3,eO s0 s3 B ⟨g.total,g.known,oA g.s6 k (jm c o (l.take (min l.length (4096 -o))))⟩→K ({σ with s:=s3}.put d (.int .i64 (min l.length (4096 -o):Nat)))):uO 1 σ d K (.arr b o' n cap) (some (l.length,flat l)):=by
 subst he;subst hn
 have hf:(flat c).length=4096:=by rw[aK,h3];rfl
 refine KR h2 (by omega) (hK _ ?_)
 have hl:(l.take (min l.length (4096 -o'))).length=min l.length (4096 -o'):=by rw[List.length_take];omega
 have e:=p9 c (l.take (min l.length (4096 -o'))) [] 1 o' rfl (by rw[hl];omega)
 rw[List.append_nil,List.append_nil,Nat.mul_one]at e
 have e2:(flat l).take (min l.length (4096 -o')*1)=flat (l.take (min l.length (4096 -o'))):=xD l _
 rw[e2,e]
 exact eO.row h hB hM hb hk h2 (by
  show(jm c o' (l.take (min l.length (4096 -o')))).length=4096
  rw[Nj (by rw[hl];omega),h3])
def Og:List UInt8:=List.replicate 4096 0
def JG:Int×List UInt8×LQ→Option ((Int×List UInt8×LQ)⊕LQ):=fun(a,l,m)=>
 if decide ((l.length:Int)>0)then
  some (.inl (az (a+(min l.length (4096 -(a.tmod 4096).toNat):Nat)),l.drop (min l.length (4096 -(a.tmod 4096).toNat)),
   oA m (az (a.tdiv 4096)) (jm ((m (az (a.tdiv 4096))).getD Og) (a.tmod 4096).toNat (l.take (min l.length (4096 -(a.tmod 4096).toNat))))))
 else some (.inr m)
theorem yZ{s0 s:ab}{B:Nat}{g:oB}{a0:Int}{l0:List UInt8}{Q:List AV→ab→Prop}(h:eO s0 s B g)(h0:0≤a0)(h1:a0+l0.length≤9223372036854775807):
 ok (iter JG (a0,l0,g.s6)) (fun m=>∀s',eO s0 s' B ⟨g.total,g.known,m⟩→Q [] s')→FN Go.Proofs.Tryz.prog 120 [.ref B 0,.int .i64 a0,.sl false 1 l0.length (flat l0)] s Q:=by
 intro hw
 refine FN.qg (FN.of (ay mix) zc rfl (Nat.le_of_ble_eq_true rfl) ?_)
 rw[qn,pd]
 simp -implicitDefEqProofs only[go_sem,start,ag,an,aA,aD,aB,aC,Nat.reduceBEq,Nat.reduceAdd,Nat.reduceMul,Nat.reduceLeDiff,Nat.reduceEqDiff,Nat.reduceBNe,Nat.ble_eq,UInt8.reduceToNat,UInt32.reduceToNat]
 revert hw
 refine jJ (fun st τ=>0≤st.1∧st.1+(st.2.1.length:Int)≤9223372036854775807∧∃s',τ=⟨[(0,.ref B 0),(1,.int .i64 st.1),(2,.sl false 1 st.2.1.length (flat st.2.1))],[],s'⟩∧eO s0 s' B ⟨g.total,g.known,st.2.2⟩) ⟨h0,h1,s,rfl,h⟩ ?_
 rintro J ⟨a,l,m⟩ τ ⟨ha,hal,s',rfl,hs⟩
 have ha:0≤a:=ha
 have hal:a+(l.length:Int)≤9223372036854775807:=hal
 obtain⟨q1,q2,M,es,q3,q4,q5,q6,q7,q8⟩:=id hs
 rw[JG]
 simp -implicitDefEqProofs only[go_sem,start,ag,an,aA,aD,aB,aC,Nat.reduceBEq,Nat.reduceAdd,Nat.reduceMul,Nat.reduceLeDiff,Nat.reduceEqDiff,Nat.reduceBNe,Nat.ble_eq,UInt8.reduceToNat,UInt32.reduceToNat,q3,q5]
 rintro⟨hw1,hw2⟩
 refine⟨fun hc=>⟨by decide,by decide,?_⟩,fun hc=>⟨s',Sub.refl s',hw2 hc s' hs⟩⟩
 have hw:=hw1 hc
 clear hw1 hw2
 have hm:0≤a.tmod 4096:=Int.tmod_nonneg _ ha
 have hm2:a.tmod 4096<4096:=Int.tmod_lt_of_pos _ (by decide)
 have hN:min l.length (4096 -(a.tmod 4096).toNat)≤l.length:=Nat.min_le_left ..
 have hsub:∀N,AB.sub (flat l) (N*1) ((l.length -N)*1)=flat (l.drop N):=fun N=>by rw[jF l 1 N (l.length -N) rfl,List.take_of_length_le (by simp)]
 have hlen:∀N,(flat (l.drop N)).length/1=(l.drop N).length:=fun N=>by rw[Nat.div_one,aK];exact Nat.mul_one _
 have hj:∀c,(m (az (a.tdiv 4096))).getD Og=c→∀s3,eO s0 s3 B ⟨g.total,g.known,oA m (az (a.tdiv 4096)) (jm c (a.tmod 4096).toNat (l.take (min l.length (4096 -(a.tmod 4096).toNat))))⟩→J ⟨[(0,.ref B 0),(1,.int .i64 (az (a+(min l.length (4096 -(a.tmod 4096).toNat):Nat)))),(2,.sl false 1 (l.drop (min l.length (4096 -(a.tmod 4096).toNat))).length (flat (l.drop (min l.length (4096 -(a.tmod 4096).toNat)))))],[],s3⟩:=fun c hcc s3 h3=>by
  subst hcc
  have hw':az (a+(min l.length (4096 -(a.tmod 4096).toNat):Nat))=a+(min l.length (4096 -(a.tmod 4096).toNat):Nat):=aM (by omega) (by omega)
  refine hw _ ⟨?_,?_,s3,rfl,h3⟩
  ·show 0≤az _;rw[hw'];omega
  ·show az _+((l.drop _).length:Int)≤_;rw[hw',List.length_drop];omega
 have q7':=q7 (az (a.tdiv 4096))
 cases hmk:m (az (a.tdiv 4096))with
 |none=>
  have e:fw (.int .i64 (az (a.tdiv 4096))) es=none:=by rw[show(oB.s6 ⟨g.total,g.known,m⟩) (az (a.tdiv 4096))=none from hmk]at q7';exact q7'
  rw[Lh q6 e]
  simp -implicitDefEqProofs only[go_sem,start,ag,an,aA,aD,aB,aC,Nat.reduceBEq,Nat.reduceAdd,Nat.reduceMul,Nat.reduceLeDiff,Nat.reduceEqDiff,Nat.reduceBNe,Nat.ble_eq,UInt8.reduceToNat,UInt32.reduceToNat,q3,q5]
  refine⟨fun _=>⟨by decide,by decide,by decide,fun b hb=>?_⟩,fun h=>(by cases h)⟩
  have hB:B≠b:=fun e=>by rw[←e,q3]at hb;cases hb
  have hM:M≠b:=fun e=>by rw[←e,q5]at hb;cases hb
  have hBM:B≠M:=fun e=>by rw[e,q5]at q3;cases q3
  have e1:s0 b=none:=Sub.none q1 hb
  simp -implicitDefEqProofs only[go_sem,start,ag,an,aA,aD,aB,aC,Nat.reduceBEq,Nat.reduceAdd,Nat.reduceMul,Nat.reduceLeDiff,Nat.reduceEqDiff,Nat.reduceBNe,Nat.ble_eq,UInt8.reduceToNat,UInt32.reduceToNat,bD hB,bD hM,q3,q5]
  refine⟨⟨rfl,rfl,q6.keys⟩,?_⟩
  simp -implicitDefEqProofs only[go_sem,start,ag,an,aA,aD,aB,aC,Nat.reduceBEq,Nat.reduceAdd,Nat.reduceMul,Nat.reduceLeDiff,Nat.reduceEqDiff,Nat.reduceBNe,Nat.ble_eq,UInt8.reduceToNat,UInt32.reduceToNat]
  refine⟨⟨hm,Int.le_of_lt hm2,Int.le_refl _⟩,?_⟩
  rw[kL,cm]
  have hss:=eO.put (k:=az (a.tdiv 4096)) (l:=List.replicate (Int.toNat 4096) (0:UInt8)) hs q3 q5 hb (by rw[List.length_replicate];rfl)
  refine ZP (o:=(a.tmod 4096).toNat) (c:=List.replicate (Int.toNat 4096) (0:UInt8)) hss (by show ab.set (ab.set s' b _) M _ B=_;rw[bD hBM,bD hB];exact q3) (bK ..) e1 (by rw[mn _ _ _ q6,if_pos rfl];rfl) (by show ab.set (ab.set s' b _) M _ b=_;rw[bD (Ne.symm hM),bK]) (by rw[List.length_replicate];rfl) (by omega) (AA (by omega)) (by simp;omega) fun s3 h3=>?_
  simp -implicitDefEqProofs only[go_sem,start,ag,an,aA,aD,aB,aC,Nat.reduceBEq,Nat.reduceAdd,Nat.reduceMul,Nat.reduceLeDiff,Nat.reduceEqDiff,Nat.reduceBNe,Nat.ble_eq,UInt8.reduceToNat,UInt32.reduceToNat]
  rw[hsub,hlen]
  exact⟨by omega,hj (List.replicate (Int.toNat 4096) (0:UInt8)) (by rw[hmk];rfl) s3 (by have h4:=h3;rw[Qe]at h4;exact h4)⟩
 |some c=>
  obtain⟨w1,b,e,e1,e2⟩:Au s0 s' es (az (a.tdiv 4096)) (some c):=by rw[show(oB.s6 ⟨g.total,g.known,m⟩) (az (a.tdiv 4096))=some c from hmk]at q7';exact q7'
  rw[Li q6 e]
  simp -implicitDefEqProofs only[go_sem,start,ag,an,aA,aD,aB,aC,Nat.reduceBEq,Nat.reduceAdd,Nat.reduceMul,Nat.reduceLeDiff,Nat.reduceEqDiff,Nat.reduceBNe,Nat.ble_eq,UInt8.reduceToNat,UInt32.reduceToNat,q3,q5]
  refine⟨fun h=>(by cases h),fun _=>?_⟩
  refine⟨⟨hm,Int.le_of_lt hm2,Int.le_refl _⟩,?_⟩
  rw[kL,cm]
  refine ZP (o:=(a.tmod 4096).toNat) hs q3 q5 e1 e e2 w1 (by omega) (AA (by omega)) (by omega) fun s3 h3=>?_
  simp -implicitDefEqProofs only[go_sem,start,ag,an,aA,aD,aB,aC,Nat.reduceBEq,Nat.reduceAdd,Nat.reduceMul,Nat.reduceLeDiff,Nat.reduceEqDiff,Nat.reduceBNe,Nat.ble_eq,UInt8.reduceToNat,UInt32.reduceToNat]
  rw[hsub,hlen]
  exact⟨by omega,hj c (by rw[hmk];rfl) s3 h3⟩
def WK(a:Int)(l:List UInt8)(ms:List ar):Int×LQ→Option ((Int×LQ)⊕LQ):=fun(k,m)=>
 if decide (k<(ms.length:Int))then
  bq (0≤k∧k<ms.length∧(a≤(ix ms k).bP∧(ix ms k).bP≤(ix ms k).To∧(ix ms k).To≤a+l.length))<|
  cj (iter JG ((ix ms k).bP,part l ((ix ms k).bP -a) ((ix ms k).To -a),m)) fun m'=>
  some (.inl (az (k+1),m'))
 else some (.inr m)
def mA(g:oB)(a:Int)(l:List UInt8):Option (oB×Int):=
 if decide (a<0)||decide (a>g.total)then some (g,2)
 else if decide ((l.length:Int)>az (g.total -a))then some (g,5)
 else
  cj (rj g.known ⟨a,az (a+l.length)⟩) fun ms=>
  cj (iter (WK a l ms) (0,g.s6)) fun m=>
  cj (Aa g.known ⟨a,az (a+l.length)⟩) fun kn=>some (⟨g.total,kn,m⟩,0)
theorem CD{s0 s:ab}{B:Nat}{g:oB}{a:Int}{l:List UInt8}{Q:List AV→ab→Prop}(h:eO s0 s B g)(ht:g.total≤2147483647):ok (mA g a l) (fun r=>∀s',eO s0 s' B r.1→Q [.int .i64 r.2] s')→FN Go.Proofs.Tryz.prog 66 [.ref B 0,.int .i64 a,.sl false 1 l.length (flat l)] s Q:=by
 intro hh
 refine FN.qg (FN.of (ay mix) CN rfl (Nat.le_of_ble_eq_true rfl) ?_)
 rw[tQ,sx]
 simp -implicitDefEqProofs only[go_sem,start,ag,an,aA,aD,aB,aC,Nat.reduceBEq,Nat.reduceAdd,Nat.reduceMul,Nat.reduceLeDiff,Nat.reduceEqDiff,Nat.reduceBNe,Nat.ble_eq,UInt8.reduceToNat,UInt32.reduceToNat]
 refine pE h ?_
 obtain⟨cs,hs,hset⟩:=h.setAt
 have h3:∃M,s B=some (.cells [.bool true,.int .i64 g.total,CC g.known,.mp M]):=by obtain⟨_,_,M,_,h3,_⟩:=h;exact⟨M,h3⟩
 obtain⟨M,h3⟩:=h3
 revert hh
 rw[mA]
 simp -implicitDefEqProofs only[go_sem,start,ag,an,aA,aD,aB,aC,Nat.reduceBEq,Nat.reduceAdd,Nat.reduceMul,Nat.reduceLeDiff,Nat.reduceEqDiff,Nat.reduceBNe,Nat.ble_eq,UInt8.reduceToNat,UInt32.reduceToNat,h3]
 rintro⟨w1,w2⟩
 refine⟨fun h=>h.elim,fun _=>⟨fun hc=>⟨s,Sub.refl s,w1 hc s h⟩,fun hc=>⟨fun hd=>⟨s,Sub.refl s,(w2 hc).1 hd s h⟩,fun hd=>?_⟩⟩⟩
 obtain⟨ms,m1,hh⟩:=(w2 hc).2 hd
 refine⟨[Rw ms],rfl,Aw hs ⟨ms,m1,rfl,rfl⟩,?_⟩
 clear w1 w2
 have hc1:0≤a∧a≤g.total:=by simp at hc;omega
 have hl:a+l.length≤g.total:=by
  have hd:¬((l.length:Int)>az (g.total -a)):=by simpa using hd
  rw[aM (by omega) (by omega)]at hd;omega
 have hw:az (a+l.length)=a+l.length:=aM (by omega) (by omega)
 rw[hw]at hh⊢
 simp -implicitDefEqProofs only[go_sem,start,ag,an,aA,aD,aB,aC,Nat.reduceBEq,Nat.reduceAdd,Nat.reduceMul,Nat.reduceLeDiff,Nat.reduceEqDiff,Nat.reduceBNe,Nat.ble_eq,UInt8.reduceToNat,UInt32.reduceToNat]
 revert hh
 refine jJ (fun k τ=>∃s',τ=⟨[(0,.ref B 0),(1,.int .i64 a),(2,.sl false 1 l.length (flat l)),(7,.loc [.int .i64 a,.int .i64 (a+l.length)]),(45,Rw ms),(46,.int .i64 (ms.length:Nat)),(47,.int .i64 k.1)],[],s'⟩∧eO s0 s' B ⟨g.total,g.known,k.2⟩) ⟨s,rfl,h⟩ ?_
 rintro J ⟨k,m⟩ τ ⟨s',rfl,h'⟩
 obtain⟨cs',hs',hset'⟩:=h'.setAt
 have hsub:=h'.1
 rw[WK]
 simp -implicitDefEqProofs only[go_sem,start,ag,an,aA,aD,aB,aC,Nat.reduceBEq,Nat.reduceAdd,Nat.reduceMul,Nat.reduceLeDiff,Nat.reduceEqDiff,Nat.reduceBNe,Nat.ble_eq,UInt8.reduceToNat,UInt32.reduceToNat]
 rintro⟨w1,w2⟩
 refine⟨fun hk=>?_,fun hk=>?_⟩
 ·obtain⟨⟨k1,k2,k3,k4,k5⟩,w1⟩:=w1 hk
  refine⟨⟨k1,k2⟩,?_⟩
  rw[aM (n:=(ix ms k).bP -a) (by omega) (by omega),aM (n:=(ix ms k).To -a) (by omega) (by omega)]
  refine⟨⟨by omega,by omega,by omega⟩,?_⟩
  refine yZ h' (by omega) ?_ (aS w1 fun m' w1 s3 h3=>?_)
  ·have:(part l ((ix ms k).bP -a) ((ix ms k).To -a)).length≤((ix ms k).To -a -((ix ms k).bP -a)).toNat:=by unfold part;exact List.length_take_le ..
   omega
  ·simp -implicitDefEqProofs only[go_sem,start,ag,an,aA,aD,aB,aC,Nat.reduceBEq,Nat.reduceAdd,Nat.reduceMul,Nat.reduceLeDiff,Nat.reduceEqDiff,Nat.reduceBNe,Nat.ble_eq,UInt8.reduceToNat,UInt32.reduceToNat]
   exact w1 _ ⟨s3,rfl,h3⟩
 ·have w2:=w2 hk
  refine HW (x:=⟨a,a+l.length⟩) hs' (aS w2 fun kn hq=>?_)
  simp -implicitDefEqProofs only[go_sem,start,ag,an,aA,aD,aB,aC,Nat.reduceBEq,Nat.reduceAdd,Nat.reduceMul,Nat.reduceLeDiff,Nat.reduceEqDiff,Nat.reduceBNe,Nat.ble_eq,UInt8.reduceToNat,UInt32.reduceToNat]
  exact⟨_,Sub.refl _,hq _ (hset' kn)⟩
theorem z7{s:ab}{l:List UInt8}{Q:List AV→ab→Prop}(hl:l.length≤2147483647):ok (mA ⟨l.length,[],fun _=>none⟩ 0 l) (fun r=>∀B s',eO s s' B r.1→Q [.ref B 0] s')→FN Go.Proofs.Tryz.prog 29 [.sl false 1 l.length (flat l)] s Q:=by
 intro hh
 refine FN.qg (FN.of (ay mix) zm rfl (Nat.le_of_ble_eq_true rfl) ?_)
 rw[qA,py]
 simp -implicitDefEqProofs only[go_sem,start,ag,an,aA,aD,aB,aC,Nat.reduceBEq,Nat.reduceAdd,Nat.reduceMul,Nat.reduceLeDiff,Nat.reduceEqDiff,Nat.reduceBNe,Nat.ble_eq,UInt8.reduceToNat,UInt32.reduceToNat]
 refine Dn (by omega) fun B s' h'=>?_
 simp -implicitDefEqProofs only[go_sem,start,ag,an,aA,aD,aB,aC,Nat.reduceBEq,Nat.reduceAdd,Nat.reduceMul,Nat.reduceLeDiff,Nat.reduceEqDiff,Nat.reduceBNe,Nat.ble_eq,UInt8.reduceToNat,UInt32.reduceToNat]
 refine⟨fun h=>h.elim,fun _=>CD h' (show(l.length:Int)≤2147483647 by omega) (aS hh fun r hq s3 h3=>?_)⟩
 simp -implicitDefEqProofs only[go_sem,start,ag,an,aA,aD,aB,aC,Nat.reduceBEq,Nat.reduceAdd,Nat.reduceMul,Nat.reduceLeDiff,Nat.reduceEqDiff,Nat.reduceBNe,Nat.ble_eq,UInt8.reduceToNat,UInt32.reduceToNat]
 exact⟨s3,Sub.refl _,hq B s3 h3⟩
end Go.AB
end
