/- A part of the proof: Lu, Ro, Ro, Ua, Ub, Uc, Ud. -/
import Derived.Test.YtkeagffgdajggaaGreatSo12
import Derived.Test.YtkeagffgdajggaaGreatSo17
import Derived.Test.YtkeagffgdajggaaGreatSo14
import Derived.Test.YtkeagffgdajggaaGreatSo19
import Derived.Test.YtkeagffgdajggaaGreatSo15
set_option linter.unusedSimpArgs false
set_option linter.unusedVariables false
section
namespace Go.AB
open Go
theorem Fh{P:Program}{live:List (Nat×Bool)}{b:IC}{Q:Exit→St→Prop}{σ:St}(n:Nat)(R:Nat→St→Prop)(hn:n<4611686018427387904)(h0:R 0 (σ.dS live))
 (h1:∀k,k<n→∀(J:St→Prop)(τ:St),R k τ→(∀τ',R (k+1) τ'→J τ')→gP P b (oS live J Q) τ)(h2:∀(J:St→Prop)(τ:St),R n τ→gP P b (oS live J Q) τ):gP P (.loop live b) Q σ:=by
 refine jJ (body:=fun k:Nat=>if k<n then some (.inl (k+1))else some (.inr ())) (s0:=0) (kf:=fun _=>True) (fun k τ=>k≤n∧R k τ) ⟨Nat.zero_le _,h0⟩ ?_ ⟨(),kp n (fun k=>k) rfl (by omega) (fun k hk=>if_pos hk) (if_neg (Nat.lt_irrefl _)),trivial⟩
 rintro J k τ ⟨hk,hR⟩ hb
 by_cases hlt:k<n
 ·rw[if_pos hlt,bk]at hb
  exact h1 k hlt J τ hR fun τ' h'=>hb τ' ⟨hlt,h'⟩
 ·obtain rfl:k=n:=by omega
  exact h2 J τ hR
theorem Xm{α:Type}[a8 α](l:List α)(sp:List AV){n:Nat}(hn:n=a8.w α){j:Int}(h0:0≤j)(h:j<l.length):j.toNat*n+n≤(flat l++sp).length∧views (AB.sub (flat l++sp) (j.toNat*n) n)=a8.cells (ix l j):=by
 subst hn
 have hj:j.toNat<l.length:=by omega
 have hs:=nU l sp (a8.w α) j.toNat 1 rfl (by omega)
 refine⟨?_,?_⟩
 ·rw[List.length_append,aK]
  have:(j.toNat+1)*a8.w α≤l.length*a8.w α:=Nat.mul_le_mul_right _ (by omega)
  rw[Nat.add_mul,Nat.one_mul]at this
  omega
 ·rw[Nat.one_mul]at hs
  rw[hs,List.drop_eq_getElem_cons hj]
  have:ix l j=l[j.toNat]:=by unfold ix;simp[hj]
  rw[this]
  show views (flat [l[j.toNat]])=_
  rw[cm]
  unfold flat
  simp
theorem Xs{α:Type}[a8 α](l:List α)(sp:List AV){n:Nat}(hn:n=a8.w α)(x:α){j:Int}(h0:0≤j)(h:j<l.length):setAt (flat l++sp) (j.toNat*n) (a8.cells x)=flat (l.set j.toNat x)++sp:=by
 have hj:j.toNat<l.length:=by omega
 have hs:=p9 l [x] sp n j.toNat hn (by simp;omega)
 have e:flat [x]=a8.cells x:=by unfold flat;simp
 rw[e]at hs
 rw[hs,List.set_eq_take_append_cons_drop,if_pos hj]
 simp
theorem HE{α:Type}[a8 α](l:List α){n:Nat}(hn:n=a8.w α){j:Int}(h0:0≤j)(h:j<l.length):j.toNat*n+n≤(flat l).length∧views (AB.sub (flat l) (j.toNat*n) n)=a8.cells (ix l j):=by
 have:=Xm l [] hn h0 h
 rwa[List.append_nil]at this
theorem NY{α:Type}[a8 α](l:List α){n:Nat}(hn:n=a8.w α)(x:α){j:Int}(h0:0≤j)(h:j<l.length):setAt (flat l) (j.toNat*n) (a8.cells x)=flat (l.set j.toNat x):=by
 have:=Xs l [] hn x h0 h
 rwa[List.append_nil,List.append_nil]at this
end Go.AB
end
section
namespace Go.AB
open Go
section
variable(h:Nat→Int)
def pW:Nat→Int
 |0=>0
 |k+1=>if h k>pW k then h k else pW k
def RG:Nat→Nat→Int
 |0,_=>-1
 |k+1,j=>if h k=(j:Int)+1 then(k:Int)else RG k j
def ET(n k:Nat):List Int:=(List.range k).map h++List.replicate (n -k) 0
def Jd(m k:Nat):List Int:=List.replicate k (-1)++List.replicate (m -k) 0
def uj(m k:Nat):List Int:=(List.range m).map (RG h k)
variable{h}
theorem Am(hb:∀k,0≤h k∧h k≤4096):∀k,0≤pW h k∧pW h k≤4096
 |0=>⟨Int.le_refl _,by show(0:Int)≤4096;decide⟩
 |k+1=>by
  rw[pW]
  split
  ·exact hb k
  ·exact Am hb k
theorem BA:∀(k n:Nat),k≤n→pW h k≤pW h n
 |k,0,hk=>by obtain rfl:k=0:=by omega
             exact Int.le_refl _
 |k,n+1,hk=>by
  rcases Nat.lt_or_ge k (n+1)with h1|h1
  ·have:=BA k n (by omega)
   rw[pW]
   split
   ·omega
   ·exact this
  ·obtain rfl:k=n+1:=by omega
   exact Int.le_refl _
theorem Fk(k n:Nat)(hk:k<n):h k≤pW h n:=by
 have:=BA (h:=h) (k+1) n hk
 rw[pW]at this
 split at this<;>omega
theorem Ai{n k:Nat}(hk:k≤n):(ET h n k).length=n:=by unfold ET;simp;omega
theorem ML{n k:Nat}(hk:k<n):(ET h n k).set k (h k)=ET h n (k+1):=by
 unfold ET
 rw[List.set_append_right _ _ (by simp),List.range_succ,List.map_append,List.append_assoc]
 congr 1
 obtain⟨m,hm⟩:∃m,n -k=m+1:=⟨n -k -1,by omega⟩
 rw[hm,show n -(k+1)=m by omega,List.replicate_succ]
 simp
theorem J1{n k j:Nat}(hk:k≤n)(hj:j<k):ix (ET h n k) (j:Int)=h j:=by
 have hl:=Ai (h:=h) hk
 rw[IW (by omega)]
 unfold ET
 rw[List.getElem_append_left (by simpa using hj)]
 simp
theorem PE{m k:Nat}(hk:k≤m):(Jd m k).length=m:=by unfold Jd;simp;omega
theorem Ni{m k:Nat}(hk:k<m):(Jd m k).set k (-1)=Jd m (k+1):=by
 unfold Jd
 rw[List.set_append_right _ _ (by simp),List.length_replicate,Nat.sub_self]
 obtain⟨j,hj⟩:∃j,m -k=j+1:=⟨m -k -1,by omega⟩
 rw[hj,show m -(k+1)=j by omega,List.replicate_succ,List.set_cons_zero,List.replicate_succ' (n:=k),List.append_assoc]
 rfl
theorem p7(m k:Nat):(uj h m k).length=m:=by unfold uj;simp
theorem Nr(m:Nat):uj h m 0=Jd m m:=by
 unfold uj Jd
 rw[Nat.sub_self,List.replicate_zero,List.append_nil]
 refine List.ext_getElem (by simp) fun i h1 h2=>?_
 simp[RG]
theorem Nq{m k:Nat}(hk:¬h k>0):uj h m (k+1)=uj h m k:=by
 unfold uj
 refine List.map_congr_left fun j _=>?_
 rw[RG,if_neg (by omega)]
theorem Kj{m k:Nat}(hk:h k>0)(hm:h k≤(m:Int)):(uj h m k).set (h k -1).toNat (k:Int)=uj h m (k+1):=by
 unfold uj
 refine List.ext_getElem (by simp) fun i h1 h2=>?_
 rw[List.getElem_set,List.getElem_map,List.getElem_map,List.getElem_range]
 rw[RG]
 by_cases e:(h k -1).toNat=i
 ·rw[if_pos e,if_pos (by omega)]
 ·rw[if_neg e,if_neg (by omega)]
end
def fW(h:Nat→Int)(n:Nat):List Int:=uj h (pW h n).toNat n
end Go.AB
end
section
set_option maxRecDepth 4000
namespace Go.AB
open Go
attribute[-go_sem] dv eu cV du Nat.add_zero pN dc
def oO:IC:=
 (aj [i1 2 (.iT true (.c (.sl true 1 0 [])))] [0]
 (aj [mv 9 0,le 10 0 9,i1 11 (.gE 1 8 oz (.t 10) (.t 10)),mt 3 11] [0,3]
 (aj [mi 4 0] [0,3,4]
 (.seq (aj [mi 5 0] [0,3,4,5]
 (.block 0 (.loop [(0,false),(3,false),(4,false),(5,false)] (.seq (aj [mv 12 5,mv 13 0,le 14 0 13,bt 15 .lss 12 14] [0,3,4,5,15]
 (.cond (.t 15) .skip
 (.exit 0)))
 (.seq (.block 1 (aj [mv 18 3,mv 19 5,mv 20 0,mv 21 5,c2 22 33 20 21,ia 23 oz 18 19,st 1 23 22] [0,3,4,5]
 (aj [mv 24 3,mv 25 5,ia 26 oz 24 25,ld 27 1 26,mv 28 4,bt 29 .gtr 27 28] [0,3,4,5,29]
 (.cond (.t 29) (.cU none [mv 30 3,mv 31 5,ia 32 oz 30 31,ld 33 1 32,mv 4 33] [0,3,4,5])
 .skip))))
 (.cU none [mv 16 5,bn 17 .add 16 1,mv 5 17] [0,3,4,5]))))))
 (aj [mv 34 4,i1 35 (.gE 1 8 oz (.t 34) (.t 34)),mt 6 35] [0,3,4,6]
 (.seq (aj [mi 7 0] [0,3,4,6,7]
 (.block 2 (.loop [(0,false),(3,false),(4,false),(6,false),(7,false)] (.seq (aj [mv 36 7,mv 37 4,bt 38 .lss 36 37] [0,3,4,6,7,38]
 (.cond (.t 38) .skip
 (.exit 2)))
 (.seq (.block 3 (.cU none [mv 41 6,mv 42 7,ia 43 oz 41 42,i0 (.store 1 (.t 43) (.c (.int .i64 (-1))))] [0,3,4,6,7]))
 (.cU none [mv 39 7,bn 40 .add 39 1,mv 7 40] [0,3,4,6,7]))))))
 (.seq (aj [mi 8 0] [0,3,6,8]
 (.block 4 (.loop [(0,false),(3,false),(6,false),(8,false)] (.seq (aj [mv 44 8,mv 45 0,le 46 0 45,bt 47 .lss 44 46] [0,3,6,8,47]
 (.cond (.t 47) .skip
 (.exit 4)))
 (.seq (.block 5 (aj [mv 50 3,mv 51 8,ia 52 oz 50 51,ld 53 1 52,bn 54 .gtr 53 0] [0,3,6,8,54]
 (.cond (.t 54) (.cU none [mv 55 6,mv 56 3,mv 57 8,ia 58 oz 56 57,ld 59 1 58,bn 60 .sub 59 1,mv 61 8,ia 62 oz 55 60,st 1 62 61] [0,3,6,8])
 .skip)))
 (.cU none [mv 48 8,bn 49 .add 48 1,mv 8 49] [0,3,6,8]))))))
 (aj [i1 63 (.K7 1 true (.t 6)),mt 2 63] [2]
 .ret))))))))
def nO:List bj:=[⟨2,true,none⟩]
theorem xO:bG Go.Proofs.Tryz.prog 10 64 nO oO=true:=by kernel_rfl
theorem yb{b:List UInt8}{h:Nat→Int}{s:ab}(hlen:b.length≤500)(hb:∀k,0≤h k∧h k≤4096)(hh:∀k,k<b.length→kB b (k:Int)=some (h k)):
 FE Go.Proofs.Tryz.prog 10 [.sl false 1 b.length (flat b)] s [.sl true 1 (fW h b.length).length (flat (fW h b.length))] s:=by
 have hroom:room=140737488355328:=rfl
 refine FN.qg (FN.of (ay mix) xO rfl (Nat.le_of_ble_eq_true rfl) ?_)
 rw[oO,nO]
 simp -implicitDefEqProofs only[go_sem,start,ag,an,aA,aD,aB,aC,Nat.reduceBEq,Nat.reduceAdd,Nat.reduceMul,Nat.reduceLeDiff,Nat.reduceEqDiff,Nat.reduceBNe,Nat.ble_eq,UInt8.reduceToNat,UInt32.reduceToNat]
 refine⟨by omega,Int.le_refl _,by omega,fun R hR=>?_⟩
 have h0:flat (List.replicate b.length (0:Int))=flat (ET h b.length 0):=by unfold ET;rfl
 rw[h0]
 refine Fh b.length (fun k τ=>τ=(⟨[(0,.sl false 1 b.length (flat b)),(3,.arr R 0 b.length b.length),(4,.int .i64 (pW h k)),(5,.int .i64 k)],[],s.set R (.cells (flat (ET h b.length k)))⟩:St)) (by omega) rfl ?_ ?_
 ·rintro k hk J τ rfl hJ
  have hlt:decide ((k:Int)<(b.length:Int))=true:=by simp;omega
  have w1:az ((k:Int)+1)=((k+1:Nat):Int):=by rw[aM (by omega) (by omega)];rfl
  have hl:=Ai (h:=h) (n:=b.length) (k:=k) (by omega)
  have hl2:=Ai (h:=h) (n:=b.length) (k:=k+1) (by omega)
  obtain⟨r1,_⟩:=HE (ET h b.length k) (n:=1) rfl (j:=(k:Int)) (by omega) (by omega)
  have st1:setAt (flat (ET h b.length k)) ((k:Int).toNat*1) [.int .i64 (h k)]=_:=NY (ET h b.length k) (n:=1) rfl (h k) (j:=(k:Int)) (by omega) (by omega)
  rw[show(k:Int).toNat=k from rfl]at st1 r1
  rw[ML hk]at st1
  obtain⟨q1,q2⟩:=HE (ET h b.length (k+1)) (n:=1) rfl (j:=(k:Int)) (by omega) (by omega)
  have q2:views (AB.sub (flat (ET h b.length (k+1))) ((k:Int).toNat*1) 1)=[.int .i64 (ix (ET h b.length (k+1)) (k:Int))]:=q2
  rw[J1 (by omega) (by omega)]at q2
  rw[show(k:Int).toNat=k from rfl]at q1 q2
  have fin:=hJ _ rfl
  generalize hc2:flat (ET h b.length (k+1))=cs2 at*
  generalize hc:flat (ET h b.length k)=cs at*
  have d2:=decide_eq_true q1
  have kk:(0:Int)≤(k:Int)∧(k:Int)<(b.length:Int):=by omega
  have hmo:pW h (k+1)=if h k>pW h k then h k else pW h k:=rfl
  simp -implicitDefEqProofs only[go_sem,start,ag,an,aA,aD,aB,aC,Nat.reduceBEq,Nat.reduceAdd,Nat.reduceMul,Nat.reduceLeDiff,Nat.reduceEqDiff,Nat.reduceBNe,Nat.ble_eq,UInt8.reduceToNat,UInt32.reduceToNat,hlt,Bool.true_eq_false,Bool.false_eq_true,false_implies,true_implies,true_and,and_true,Bool.not_true,Bool.not_false,Bool.true_or,Bool.false_or]
  refine FE.app (Dj (hh k hk)) ?_
  cases hg:decide (h k>pW h k)with
  |true=>
   rw[hmo,if_pos (of_decide_eq_true hg)]at fin
   simp -implicitDefEqProofs only[go_sem,start,ag,an,aA,aD,aB,aC,Nat.reduceBEq,Nat.reduceAdd,Nat.reduceMul,Nat.reduceLeDiff,Nat.reduceEqDiff,Nat.reduceBNe,Nat.ble_eq,UInt8.reduceToNat,UInt32.reduceToNat,fC,hlt,w1,st1,d2,q2,hg,Bool.true_eq_false,Bool.false_eq_true,false_implies,true_implies,true_and,and_true,Bool.not_true,Bool.not_false,Bool.true_or,Bool.false_or]
   exact⟨kk,r1,kk,kk,fin⟩
  |false=>
   rw[hmo,if_neg (of_decide_eq_false hg)]at fin
   simp -implicitDefEqProofs only[go_sem,start,ag,an,aA,aD,aB,aC,Nat.reduceBEq,Nat.reduceAdd,Nat.reduceMul,Nat.reduceLeDiff,Nat.reduceEqDiff,Nat.reduceBNe,Nat.ble_eq,UInt8.reduceToNat,UInt32.reduceToNat,fC,hlt,w1,st1,d2,q2,hg,Bool.true_eq_false,Bool.false_eq_true,false_implies,true_implies,true_and,and_true,Bool.not_true,Bool.not_false,Bool.true_or,Bool.false_or]
   exact⟨kk,r1,kk,fin⟩
 ·rintro J τ rfl
  have hlt:decide ((b.length:Int)<(b.length:Int))=false:=by simp
  have hmr:=Am hb b.length
  have hHl:=Ai (h:=h) (n:=b.length) (k:=b.length) (Nat.le_refl _)
  have hHg:=fun j(hj:j<b.length)=>J1 (h:=h) (n:=b.length) (k:=b.length) (Nat.le_refl _) hj
  generalize hH:ET h b.length b.length=H at*
  obtain⟨m,hm⟩:∃m:Nat,pW h b.length=(m:Int):=⟨(pW h b.length).toNat,by omega⟩
  rw[hm]at hmr⊢
  have hge:∀k,k<b.length→h k≤(m:Int):=fun k hk=>by rw[←hm];exact Fk k _ hk
  have hres:fW h b.length=uj h m b.length:=by unfold fW;rw[hm];rfl
  rw[hres]
  simp -implicitDefEqProofs only[go_sem,start,ag,an,aA,aD,aB,aC,Nat.reduceBEq,Nat.reduceAdd,Nat.reduceMul,Nat.reduceLeDiff,Nat.reduceEqDiff,Nat.reduceBNe,Nat.ble_eq,UInt8.reduceToNat,UInt32.reduceToNat,hlt,Bool.true_eq_false,Bool.false_eq_true,false_implies,true_implies,true_and,and_true,Bool.not_true,Bool.not_false,Bool.true_or,Bool.false_or]
  refine⟨by omega,Int.le_refl _,by omega,fun O hO=>?_⟩
  have n1:=hO
  rw[gr]at n1
  have hRO:R≠O:=n1.1.symm
  have ho0:flat (List.replicate m (0:Int))=flat (Jd m 0):=by unfold Jd;rfl
  rw[ho0]
  refine Fh m (fun k τ=>τ=(⟨[(0,.sl false 1 b.length (flat b)),(3,.arr R 0 b.length b.length),(4,.int .i64 m),(6,.arr O 0 m m),(7,.int .i64 k)],[],(s.set R (.cells (flat H))).set O (.cells (flat (Jd m k)))⟩:St)) (by omega) rfl ?_ ?_
  ·rintro k hk J τ rfl hJ
   have hlt:decide ((k:Int)<(m:Int))=true:=by simp;omega
   have w1:az ((k:Int)+1)=((k+1:Nat):Int):=by rw[aM (by omega) (by omega)];rfl
   have hl:=PE (m:=m) (k:=k) (by omega)
   obtain⟨r1,_⟩:=HE (Jd m k) (n:=1) rfl (j:=(k:Int)) (by omega) (by omega)
   have st1:setAt (flat (Jd m k)) ((k:Int).toNat*1) [.int .i64 (-1)]=_:=NY (Jd m k) (n:=1) rfl (-1) (j:=(k:Int)) (by omega) (by omega)
   rw[show(k:Int).toNat=k from rfl]at st1 r1
   rw[Ni hk]at st1
   have fin:=hJ _ rfl
   generalize hc2:flat (Jd m (k+1))=cs2 at*
   generalize hc:flat (Jd m k)=cs at*
   simp -implicitDefEqProofs only[go_sem,start,ag,an,aA,aD,aB,aC,Nat.reduceBEq,Nat.reduceAdd,Nat.reduceMul,Nat.reduceLeDiff,Nat.reduceEqDiff,Nat.reduceBNe,Nat.ble_eq,UInt8.reduceToNat,UInt32.reduceToNat,fC,hlt,w1,st1,Bool.true_eq_false,Bool.false_eq_true,false_implies,true_implies,true_and,and_true,Bool.not_true,Bool.not_false,Bool.true_or,Bool.false_or]
   exact⟨⟨by omega,by omega⟩,r1,fin⟩
  ·rintro J τ rfl
   have hlt:decide ((m:Int)<(m:Int))=false:=by simp
   simp -implicitDefEqProofs only[go_sem,start,ag,an,aA,aD,aB,aC,Nat.reduceBEq,Nat.reduceAdd,Nat.reduceMul,Nat.reduceLeDiff,Nat.reduceEqDiff,Nat.reduceBNe,Nat.ble_eq,UInt8.reduceToNat,UInt32.reduceToNat,hlt,Bool.true_eq_false,Bool.false_eq_true,false_implies,true_implies,true_and,and_true,Bool.not_true,Bool.not_false,Bool.true_or,Bool.false_or]
   rw[←Nr (h:=h) m]
   refine Fh b.length (fun k τ=>τ=(⟨[(0,.sl false 1 b.length (flat b)),(3,.arr R 0 b.length b.length),(6,.arr O 0 m m),(8,.int .i64 k)],[],(s.set R (.cells (flat H))).set O (.cells (flat (uj h m k)))⟩:St)) (by omega) rfl ?_ ?_
   ·rintro k hk J τ rfl hJ
    have hlt:decide ((k:Int)<(b.length:Int))=true:=by simp;omega
    have w1:az ((k:Int)+1)=((k+1:Nat):Int):=by rw[aM (by omega) (by omega)];rfl
    have hk2:=hb k
    have w2:az (h k -1)=h k -1:=aM (by omega) (by omega)
    have hl:=p7 (h:=h) m k
    obtain⟨q1,q2⟩:=HE H (n:=1) rfl (j:=(k:Int)) (by omega) (by omega)
    have q2:views (AB.sub (flat H) ((k:Int).toNat*1) 1)=[.int .i64 (ix H (k:Int))]:=q2
    rw[hHg k hk]at q2
    rw[show(k:Int).toNat=k from rfl]at q1 q2
    have hHR:((s.set R (.cells (flat H))).set O (.cells (flat (uj h m k)))) R=some (.cells (flat H)):=by rw[bD hRO,bK]
    have fin:=hJ _ rfl
    have d1:=decide_eq_true q1
    cases hg:decide (h k>0)with
    |true=>
     have hg2:=of_decide_eq_true hg
     have hgm:=hge k hk
     obtain⟨r1,_⟩:=HE (uj h m k) (n:=1) rfl (j:=h k -1) (by omega) (by omega)
     have st1:setAt (flat (uj h m k)) ((h k -1).toNat*1) [.int .i64 (k:Int)]=_:=NY (uj h m k) (n:=1) rfl (k:Int) (j:=h k -1) (by omega) (by omega)
     rw[Kj hg2 hgm]at st1
     generalize hc2:flat (uj h m (k+1))=cs2 at*
     generalize hc:flat (uj h m k)=cs at*
     generalize hcH:flat H=csH at*
     simp -implicitDefEqProofs only[go_sem,start,ag,an,aA,aD,aB,aC,Nat.reduceBEq,Nat.reduceAdd,Nat.reduceMul,Nat.reduceLeDiff,Nat.reduceEqDiff,Nat.reduceBNe,Nat.ble_eq,UInt8.reduceToNat,UInt32.reduceToNat,fC,hlt,hHR,w1,w2,st1,q2,d1,hg,Bool.true_eq_false,Bool.false_eq_true,false_implies,true_implies,true_and,and_true,Bool.not_true,Bool.not_false,Bool.true_or,Bool.false_or]
     exact⟨⟨by omega,by omega⟩,⟨by omega,by omega⟩,⟨by omega,by omega⟩,r1,fin⟩
    |false=>
     rw[Nq (of_decide_eq_false hg)]at fin
     generalize hc:flat (uj h m k)=cs at*
     generalize hcH:flat H=csH at*
     simp -implicitDefEqProofs only[go_sem,start,ag,an,aA,aD,aB,aC,Nat.reduceBEq,Nat.reduceAdd,Nat.reduceMul,Nat.reduceLeDiff,Nat.reduceEqDiff,Nat.reduceBNe,Nat.ble_eq,UInt8.reduceToNat,UInt32.reduceToNat,fC,hlt,hHR,w1,q2,d1,hg,Bool.true_eq_false,Bool.false_eq_true,false_implies,true_implies,true_and,and_true,Bool.not_true,Bool.not_false,Bool.true_or,Bool.false_or]
     exact⟨⟨by omega,by omega⟩,fin⟩
   ·rintro J τ rfl
    have hlt:decide ((b.length:Int)<(b.length:Int))=false:=by simp
    have hl:=p7 (h:=h) m b.length
    simp -implicitDefEqProofs only[go_sem,start,ag,an,aA,aD,aB,aC,Nat.reduceBEq,Nat.reduceAdd,Nat.reduceMul,Nat.reduceLeDiff,Nat.reduceEqDiff,Nat.reduceBNe,Nat.ble_eq,UInt8.reduceToNat,UInt32.reduceToNat,hlt,Bool.true_eq_false,Bool.false_eq_true,false_implies,true_implies,true_and,and_true,Bool.not_true,Bool.not_false,Bool.true_or,Bool.false_or]
    by_cases hm0:m=0
    ·subst hm0
     have e0:uj h 0 b.length=[]:=by unfold uj;rfl
     rw[e0]
     refine .inl ⟨rfl,rfl,rfl,?_⟩
     simp -implicitDefEqProofs only[go_sem,start,ag,an,aA,aD,aB,aC,Nat.reduceBEq,Nat.reduceAdd,Nat.reduceMul,Nat.reduceLeDiff,Nat.reduceEqDiff,Nat.reduceBNe,Nat.ble_eq,UInt8.reduceToNat,UInt32.reduceToNat]
     exact⟨s,((Sub.refl s).set hR).set hO,rfl⟩
    ·have fz:=Ag (σ:=?_) (d:=?_) (K:=?_) (sz:=1) (s:=s.set R (.cells (flat H))) (r:=some (O,m,[])) (l:=uj h m b.length) ?_ ⟨hO,by omega,by omega,by rw[List.append_nil,aK,hl],rfl⟩ rfl ?_
     ·rw[hl]at fz
      exact fz
     ·show _=(s.set R (.cells (flat H))).set O (.cells (flat (uj h m b.length)++[]))
      rw[List.append_nil]
     ·simp -implicitDefEqProofs only[go_sem,start,ag,an,aA,aD,aB,aC,Nat.reduceBEq,Nat.reduceAdd,Nat.reduceMul,Nat.reduceLeDiff,Nat.reduceEqDiff,Nat.reduceBNe,Nat.ble_eq,UInt8.reduceToNat,UInt32.reduceToNat,hl]
      exact⟨s,(Sub.refl s).set hR,rfl⟩
end Go.AB
end
section
set_option linter.unusedSimpArgs false
namespace Go.AB
open Go
theorem MU{X Y α:Type}{o:Option (X⊕Y)}{z:X⊕Y}{F:X→Option α}{G:Y→Option α}{r:Option α}(h:o=some z)(k:j6 F G z=r):xR o F G=r:=by
 rw[h]
 cases z<;>exact k
theorem Ia{X Y α:Type}{o:Option (X⊕Y)}{z:X⊕Y}{F:X→Option α}{G:Y→Option α}{r:Option α}(h:o=some z)(k:j6 F G z=r):oD o F G=r:=by
 rw[h]
 cases z<;>exact k
theorem uP{X Y α:Type}{o:Option (X⊕Y)}{F:X→Option α}{G:Y→Option α}{P:α→Prop}(Q:X⊕Y→Prop)(h:∃z,o=some z∧Q z)(k:∀z,Q z→∃x,j6 F G z=some x∧P x):∃x,xR o F G=some x∧P x:=by
 obtain⟨z,hz,hq⟩:=h
 obtain⟨x,hx,hp⟩:=k z hq
 exact⟨x,MU hz hx,hp⟩
theorem pL{X Y α:Type}{o:Option (X⊕Y)}{F:X→Option α}{G:Y→Option α}{P:α→Prop}(Q:X⊕Y→Prop)(h:∃z,o=some z∧Q z)(k:∀z,Q z→∃x,j6 F G z=some x∧P x):∃x,oD o F G=some x∧P x:=by
 obtain⟨z,hz,hq⟩:=h
 obtain⟨x,hx,hp⟩:=k z hq
 exact⟨x,Ia hz hx,hp⟩
theorem ME{X α:Type}{o:Option X}{F:X→Option α}{P:α→Prop}(Q:X→Prop)(h:∃z,o=some z∧Q z)(k:∀z,Q z→∃x,F z=some x∧P x):∃x,cj o F=some x∧P x:=by
 obtain⟨z,hz,hq⟩:=h
 obtain⟨x,hx,hp⟩:=k z hq
 exact⟨x,ai hz hx,hp⟩
theorem QP{X α:Type}{o:Option X}{F:X→Option α}{P:α→Prop}(Q:X→Prop)(h:∃z,o=some z∧Q z)(k:∀z,Q z→∃x,F z=some x∧P x):∃x,jn o F=some x∧P x:=by
 obtain⟨z,hz,hq⟩:=h
 obtain⟨x,hx,hp⟩:=k z hq
 exact⟨x,gI hz hx,hp⟩
theorem LO{α:Type}{g:Bool}{z:α}{o:Option α}(hg:g=false):fy g z o=some z:=by rw[hg,F0]
theorem nT:¬((!true)=true):=by decide
theorem nF:¬(false=true):=by decide
theorem iQ(p:UInt8→Bool)(h:((List.range 256).all fun n=>p (UInt8.ofNat n))=true)(c:UInt8):p c=true:=by
 have:=List.all_eq_true.1 h c.toNat (List.mem_range.2 c.toNat_lt)
 simpa using this
def Dp(c:UInt8):Bool:=((((((c.toNat:Int)==0)||((c.toNat:Int)==9))||((c.toNat:Int)==10))||((c.toNat:Int)==12))||((c.toNat:Int)==13))||((c.toNat:Int)==32)
def KT(c:UInt8):Bool:=decide (Lib.indexByte [40,41,60,62,91,93,123,125,47,37] c≥0)
def Eg(c:UInt8):Bool:=!Dp c&&!KT c
def xj(c:UInt8):Int:=if(decide ((c.toNat:Int)≥48))&&(decide ((c.toNat:Int)≤57))then(c.toNat:Int) -48 else if(decide ((c.toNat:Int)≥97))&&(decide ((c.toNat:Int)≤102))then(c.toNat:Int) -87 else if(decide ((c.toNat:Int)≥65))&&(decide ((c.toNat:Int)≤70))then(c.toNat:Int) -55 else -1
theorem sj(c:UInt8):cS c=some (Dp c):=rfl
theorem ot(c:UInt8):bT c=some (Dp c):=of_decide_eq_true (iQ (fun c=>decide (bT c=some (Dp c))) (by kernel_rfl) c)
theorem MX(c:UInt8):iq c=some (KT c):=rfl
theorem vi(c:UInt8):cu c=some (KT c):=of_decide_eq_true (iQ (fun c=>decide (cu c=some (KT c))) (by kernel_rfl) c)
theorem GW(c:UInt8):cW c=some (Eg c):=by
 unfold cW Eg
 rw[sj,MX]
 cases Dp c<;>rfl
theorem xS(c:UInt8):dq c=some (xj c):=of_decide_eq_true (iQ (fun c=>decide (dq c=some (xj c))) (by kernel_rfl) c)
theorem Db(c:UInt8):bJ c=some (xj c):=of_decide_eq_true (iQ (fun c=>decide (bJ c=some (xj c))) (by kernel_rfl) c)
theorem EU(c:UInt8):-1≤xj c∧xj c≤15:=of_decide_eq_true (iQ (fun c=>decide (-1≤xj c∧xj c≤15)) (by kernel_rfl) c)
theorem bc{b:List UInt8}{j:Nat}{x:UInt8}(h:b[j]? =some x):j<b.length∧ix b (j:Int)=x:=⟨(List.getElem?_eq_some_iff.1 h).1,Sp h⟩
theorem dy{b:List UInt8}{j:Nat}(h:b[j]? =none):b.length≤j:=List.getElem?_eq_none_iff.1 h
theorem iX{n:Nat}(h:n<4611686018427387904):az ((n:Int)+1)=((n+1:Nat):Int):=by rw[aM (by omega) (by omega)];rfl
section
variable(b:List UInt8)
def yT:Nat→Bool→Nat→Nat
 |0,_,j=>j
 |f+1,c,j=>match b[j]? with
  |none=>j
  |some x=>if c then yT f (((x.toNat:Int)!=10)&&((x.toNat:Int)!=13)) (j+1)else if(x.toNat:Int)==37 then yT f true (j+1)else if !Dp x then j else yT f false (j+1)
def Ku:Nat→Nat→Nat
 |0,j=>j
 |f+1,j=>match b[j]? with
  |none=>j
  |some x=>if Eg x then Ku f (j+1)else j
variable{b}
theorem FU:∀(f:Nat)(c:Bool)(j:Nat),j≤b.length→j≤yT b f c j∧yT b f c j≤b.length
 |0,_,j,h=>⟨Nat.le_refl _,h⟩
 |f+1,c,j,h=>by
  rw[yT]
  cases hx:b[j]? with
  |none=>exact⟨Nat.le_refl _,h⟩
  |some x=>
   have hj:=(bc hx).1
   have ih:=fun c=>FU f c (j+1) (by omega)
   simp only
   split
   ·have:=ih (((x.toNat:Int)!=10)&&((x.toNat:Int)!=13));omega
   ·split
    ·have:=ih true;omega
    ·split
     ·omega
     ·have:=ih false;omega
theorem B9:∀(f:Nat)(j:Nat),j≤b.length→j≤Ku b f j∧Ku b f j≤b.length
 |0,j,h=>⟨Nat.le_refl _,h⟩
 |f+1,j,h=>by
  rw[Ku]
  cases hx:b[j]? with
  |none=>exact⟨Nat.le_refl _,h⟩
  |some x=>
   have hj:=(bc hx).1
   have ih:=B9 f (j+1) (by omega)
   simp only
   split<;>omega
def Dm(b:List UInt8)(j:Nat):Nat:=yT b b.length false j
theorem Wj(hb:b.length<1152921504606846976)(k:Nat)(hk:k≤b.length):iS b (k:Int)=some (Dm b k:Int):=by
 have hT:=FU (b:=b) b.length false k hk
 generalize hTT:yT b b.length false k=T at hT
 have hA:Dm b k=T:=hTT
 rw[hA]
 unfold iS
 refine af (by simp) (MU (z:=if T<b.length then .inr (T:Int)else .inl ()) (Ia (iter_eq (o:=if T<b.length then .inr (T:Int)else .inl ()) (fun(s:Int×Bool)=>∃j f:Nat,s.1=j∧j≤b.length∧b.length -j≤f∧yT b f s.2 j=T) (fun s=>b.length -s.1.toNat) ⟨k,b.length,rfl,hk,by omega,hTT⟩ (by simp;omega) ?_) (by by_cases h:T<b.length<;>simp[h]<;>rfl)) ?_)
 ·rintro⟨a,c⟩ ⟨j,f,e,hj,hf,hs⟩
  have e:a=(j:Int):=e
  subst e
  cases hx:b[j]? with
  |none=>
   have hl:=dy hx
   right
   have:T=j:=by
    cases f with
    |zero=>exact hs.symm
    |succ f=>rw[yT,hx]at hs;exact hs.symm
   have hn:¬T<b.length:=by omega
   rw[if_neg hn]
   exact af (by simp;omega) rfl
  |some x=>
   obtain⟨hl,hi⟩:=bc hx
   obtain⟨f,rfl⟩:∃g,f=g+1:=⟨f -1,by omega⟩
   rw[yT,hx]at hs
   simp only at hs
   have hw:=iX (n:=j) (by omega)
   cases c with
   |true=>
    left
    rw[if_pos rfl]at hs
    exact⟨_,ax (by simp;omega) (bz (ah (by omega) (ax rfl rfl)) rfl),⟨j+1,f,hw,by omega,by omega,by rw[←hi]at hs;exact hs⟩,by show b.length -(az ((j:Int)+1)).toNat<b.length -((j:Int)).toNat;rw[hw];omega⟩
   |false=>
    rw[if_neg (by decide)]at hs
    by_cases h37:((x.toNat:Int)==37)=true
    ·left
     rw[if_pos h37]at hs
     exact⟨_,ax (by simp;omega) (bz (ah (by omega) (af (by decide) (ax (by rw[hi];exact h37) rfl))) rfl),⟨j+1,f,hw,by omega,by omega,hs⟩,by show b.length -(az ((j:Int)+1)).toNat<b.length -((j:Int)).toNat;rw[hw];omega⟩
    ·rw[if_neg h37]at hs
     by_cases hsp:(!Dp x)=true
     ·right
      rw[if_pos hsp]at hs
      subst hs
      rw[if_pos hl]
      exact ax (by simp;omega) (bz (ah (by omega) (af (by decide) (af (by rw[hi];exact h37) (ai (sj _) (ax (by rw[hi];exact hsp) rfl))))) rfl)
     ·left
      rw[if_neg hsp]at hs
      exact⟨_,ax (by simp;omega) (bz (ah (by omega) (af (by decide) (af (by rw[hi];exact h37) (ai (sj _) (af (by rw[hi];exact hsp) rfl))))) rfl),⟨j+1,f,hw,by omega,by omega,hs⟩,by show b.length -(az ((j:Int)+1)).toNat<b.length -((j:Int)).toNat;rw[hw];omega⟩
 ·by_cases h:T<b.length
  ·rw[if_pos h];rfl
  ·rw[if_neg h,show T=b.length by omega];rfl
theorem Rq(hb:b.length<1152921504606846976)(k:Nat)(hk:k≤b.length):fT b (k:Int)=some (Dm b k:Int):=by
 have hT:=FU (b:=b) b.length false k hk
 generalize hTT:yT b b.length false k=T at hT
 have hA:Dm b k=T:=hTT
 rw[hA]
 unfold fT
 refine af (by simp) (MU (z:=if T<b.length then .inr (T:Int)else .inl ()) (Ia (iter_eq (o:=if T<b.length then .inr (T:Int)else .inl ()) (fun(s:Int)=>∃j f:Nat,s=j∧j≤b.length∧b.length -j≤f∧yT b f false j=T) (fun s=>b.length -s.toNat) ⟨k,b.length,rfl,hk,by omega,hTT⟩ (by simp<;>omega) ?_) (by by_cases h:T<b.length<;>simp[h]<;>rfl)) ?_)
 ·rintro a ⟨j,f,rfl,hj,hf,hs⟩
  cases hx:b[j]? with
  |none=>
   have hl:=dy hx
   right
   have:T=j:=by
    cases f with
    |zero=>exact hs.symm
    |succ f=>rw[yT,hx]at hs;exact hs.symm
   have hn:¬T<b.length:=by omega
   rw[if_neg hn]
   exact af (by simp<;>omega) rfl
  |some x=>
   obtain⟨hl,hi⟩:=bc hx
   obtain⟨f,rfl⟩:∃g,f=g+1:=⟨f -1,by omega⟩
   rw[yT,hx]at hs
   simp only at hs
   have hw:=iX (n:=j) (by omega)
   rw[if_neg (by decide)]at hs
   by_cases hsp:Dp x=true
   ·have h37:¬((x.toNat:Int)==37)=true:=fun h=>by
     have:=iQ (fun x=>!(Dp x&&((x.toNat:Int)==37))) (by kernel_rfl) x
     rw[hsp,h]at this;cases this
    rw[if_neg h37,if_neg (by rw[hsp];decide)]at hs
    left
    exact⟨_,ax (by simp<;>omega) (ah (by omega) (ai (ot _) (ax (by rw[hi];exact hsp) rfl))),⟨j+1,f,hw,by omega,by omega,hs⟩,by rw[hw];omega⟩
   ·by_cases h37:((x.toNat:Int)==37)=true
    ·rw[if_pos h37]at hs
     left
     have h10:(((x.toNat:Int)!=10)&&((x.toNat:Int)!=13))=true:=by
      have:(x.toNat:Int)=37:=by simpa using h37
      rw[this];rfl
     have hs':yT b (f+1) true j=T:=by rw[yT,hx];simp only[if_true];rw[h10];exact hs
     obtain⟨j2,hj2,f2,hf2,hjj,hs2,hit⟩:∃j2:Nat,j2≤b.length∧∃f2,b.length -j2≤f2∧j<j2∧yT b f2 false j2=T∧iter (fun(at7:Int)=>
      bq ((decide (at7<(b.length:Int)))=true→0≤at7∧at7<b.length)<|
      bq (((decide (at7<(b.length:Int)))&&(((ix b at7).toNat:Int)!=10))=true→0≤at7∧at7<b.length)<|
      if((decide (at7<(b.length:Int)))&&(((ix b at7).toNat:Int)!=10))&&(((ix b at7).toNat:Int)!=13)then
       some (.inl (az (at7+1)))
      else
       some (.inr at7)) (j:Int)=some (j2:Int):=by
      obtain⟨o,h1,j2,h2,h3,f2,h4,h5,h6⟩:=gn (body:=fun(at7:Int)=>
       bq ((decide (at7<(b.length:Int)))=true→0≤at7∧at7<b.length)<|
       bq (((decide (at7<(b.length:Int)))&&(((ix b at7).toNat:Int)!=10))=true→0≤at7∧at7<b.length)<|
       if((decide (at7<(b.length:Int)))&&(((ix b at7).toNat:Int)!=10))&&(((ix b at7).toNat:Int)!=13)then
        some (.inl (az (at7+1)))
       else
        some (.inr at7)) (s0:=(j:Int)) (fun s=>∃i f:Nat,s=i∧j≤i∧i≤b.length∧b.length -i≤f∧yT b f true i=T∧(i=j→(((x.toNat:Int)!=10)&&((x.toNat:Int)!=13))=true)) (fun s=>b.length -s.toNat)
       (fun o=>∃j2:Nat,o=(j2:Int)∧j2≤b.length∧∃f2,b.length -j2≤f2∧j<j2∧yT b f2 false j2=T) ⟨j,f+1,rfl,Nat.le_refl _,hj,by omega,hs',fun _=>h10⟩ (by simp<;>omega) (by
         rintro _ ⟨i,g,rfl,hji,hi2,hg,hsg,hh⟩
         cases hy:b[i]? with
         |none=>
          have hl2:=dy hy
          refine⟨_,ah (by simp<;>omega) (ah (by simp<;>omega) (af (by simp<;>omega) rfl)),i,rfl,by omega,g,by omega,by omega,?_⟩
          cases g with
          |zero=>exact hsg
          |succ g=>rw[yT,hy]at hsg⊢;exact hsg
         |some y=>
          obtain⟨hl2,hi3⟩:=bc hy
          obtain⟨g,rfl⟩:∃k,g=k+1:=⟨g -1,by omega⟩
          rw[yT,hy]at hsg
          simp only[if_true]at hsg
          have hw2:=iX (n:=i) (by omega)
          by_cases hc:(((y.toNat:Int)!=10)&&((y.toNat:Int)!=13))=true
          ·rw[hc]at hsg
           refine⟨_,ah (by simp<;>omega) (ah (by simp<;>omega) (ax (by rw[hi3,Bool.and_assoc,hc];simp<;>omega) rfl)),⟨i+1,g,hw2,by omega,by omega,by omega,hsg,fun e=>by omega⟩,?_⟩
           rw[hw2];omega
          ·refine⟨_,ah (by simp<;>omega) (ah (by simp<;>omega) (af (by rw[hi3,Bool.and_assoc];simp at hc⊢;intro _;exact hc) rfl)),i,rfl,by omega,g+1,by omega,?_,?_⟩
           ·rcases Nat.lt_or_ge j i with h|h
            ·exact h
            ·have e:i=j:=by omega
             subst e
             rw[hx]at hy
             injection hy with hy
             subst hy
             exact absurd (hh rfl) hc
           ·have hcf:(((y.toNat:Int)!=10)&&((y.toNat:Int)!=13))=false:=by simpa using hc
            rw[hcf]at hsg
            have:=iQ (fun y=>(((y.toNat:Int)!=10)&&((y.toNat:Int)!=13))||(Dp y&&!((y.toNat:Int)==37))) (by kernel_rfl) y
            rw[hcf,Bool.false_or,Bool.and_eq_true]at this
            rw[yT,hy]
            simp only
            rw[if_neg (by decide),if_neg (by have:=this.2;simpa using this),if_neg (by rw[this.1];decide)]
            exact hsg)
      exact⟨j2,h3,f2,h4,h5,h6,by rw[h1,h2]⟩
     refine⟨(j2:Int),ax (by simp<;>omega) (ah (by omega) (ai (ot _) (af (by rw[hi];exact hsp) (ah (by omega) (af (by rw[hi];simp at h37⊢;exact h37) (ai hit rfl)))))),⟨j2,f2,rfl,hj2,hf2,hs2⟩,by omega⟩
    ·rw[if_neg h37,if_pos (by simpa using hsp)]at hs
     subst hs
     right
     rw[if_pos hl]
     exact ax (by simp<;>omega) (ah (by omega) (ai (ot _) (af (by rw[hi];exact hsp) (ah (by omega) (ax (by rw[hi];simp at h37⊢;exact h37) rfl)))))
 ·by_cases h:T<b.length
  ·rw[if_pos h];rfl
  ·rw[if_neg h,show T=b.length by omega];rfl
def qS(b:List UInt8)(j:Nat):Nat:=Ku b b.length j
theorem Xf(hb:b.length<1152921504606846976)(k:Nat)(hk:k≤b.length):dZ b (k:Int)=some (qS b k:Int):=by
 have hT:=B9 (b:=b) b.length k hk
 generalize hTT:Ku b b.length k=T at hT
 have hA:qS b k=T:=hTT
 rw[hA]
 unfold dZ
 refine gI (iter_eq (o:=(T:Int)) (fun(s:Int)=>∃j f:Nat,s=j∧j≤b.length∧b.length -j≤f∧Ku b f j=T) (fun s=>b.length -s.toNat) ⟨k,b.length,rfl,hk,by omega,hTT⟩ (by simp;omega) ?_) rfl
 rintro a ⟨j,f,rfl,hj,hf,hs⟩
 cases hx:b[j]? with
 |none=>
  have hl:=dy hx
  right
  have:T=j:=by
   cases f with
   |zero=>exact hs.symm
   |succ f=>rw[Ku,hx]at hs;exact hs.symm
  have hd:decide ((j:Int)<(b.length:Int))=false:=by simp;omega
  rw[this]
  simp only[hd,Bool.false_eq_true,false_implies,D2,F0,rm,Bool.false_and]
  rfl
 |some x=>
  obtain⟨hl,hi⟩:=bc hx
  obtain⟨f,rfl⟩:∃g,f=g+1:=⟨f -1,by omega⟩
  rw[Ku,hx]at hs
  simp only at hs
  have hw:=iX (n:=j) (by omega)
  have hd:decide ((j:Int)<(b.length:Int))=true:=by simp;omega
  have key:bq ((decide ((j:Int)<(b.length:Int)))=true→0≤(j:Int)∧(j:Int)<b.length) (some ())=some ():=BB (by omega) _
  by_cases hr:Eg x=true
  ·rw[if_pos hr]at hs
   left
   refine⟨_,ah (by omega) (ai (by rw[hd,mh,ot]) (ah (by omega) (ai (a:=!Dp x&&KT x) ?_ (ax ?_ rfl)))),⟨j+1,f,hw,by omega,by omega,hs⟩,by rw[hw];omega⟩
   ·rw[hi,hd]
    have:=hr
    unfold Eg at this
    rw[Bool.and_eq_true]at this
    rw[this.1]
    exact vi x
   ·rw[hd,hi]
    have:=hr
    unfold Eg at this
    rw[Bool.and_eq_true]at this
    have e2:KT x=false:=by simpa using this.2
    rw[this.1,e2];rfl
  ·rw[if_neg hr]at hs
   subst hs
   right
   have hr':Eg x=false:=by simpa using hr
   unfold Eg at hr'
   cases hsp:Dp x with
   |true=>
    refine ah (by omega) (ai (by rw[hd,mh,ot]) (ah (by omega) (ai (a:=false) ?_ (af ?_ rfl))))
    ·rw[hi,hsp,hd];rfl
    ·rw[hi,hsp,hd];decide
   |false=>
    rw[hsp]at hr'
    have e2:KT x=true:=by simpa using hr'
    refine ah (by omega) (ai (by rw[hd,mh,ot]) (ah (by omega) (ai (a:=true) ?_ (af ?_ rfl))))
    ·rw[hi,hsp,hd];show cu x=some true;rw[vi,e2]
    ·rw[hi,hsp,hd];decide
theorem QX(hb:b.length<1152921504606846976)(B:xl)(k:Nat)(last:Bool)(hk:k≤b.length):dK ⟨B,b,(k:Int),last⟩=some (⟨part b (k:Int) (qS b k:Int)⟩,(decide ((qS b k:Int)<(b.length:Int)))||last,⟨B,b,(qS b k:Int),last⟩):=by
 have hT:=B9 (b:=b) b.length k hk
 generalize hTT:Ku b b.length k=T at hT
 have hA:qS b k=T:=hTT
 rw[hA]
 unfold dK
 refine gI (iter_eq (o:=(⟨B,b,(T:Int),last⟩:ao)) (fun(s:ao)=>∃j f:Nat,s=⟨B,b,(j:Int),last⟩∧j≤b.length∧b.length -j≤f∧Ku b f j=T) (fun s=>b.length -s.at_.toNat) ⟨k,b.length,rfl,hk,by omega,hTT⟩ (by simp;omega) ?_) (ah ?_ rfl)
 ·rintro a ⟨j,f,rfl,hj,hf,hs⟩
  cases hx:b[j]? with
  |none=>
   have hl:=dy hx
   right
   have:T=j:=by
    cases f with
    |zero=>exact hs.symm
    |succ f=>rw[Ku,hx]at hs;exact hs.symm
   have hd:decide ((j:Int)<(b.length:Int))=false:=by simp;omega
   rw[this]
   simp only[hd,Bool.false_eq_true,false_implies,D2,F0,rm,Bool.false_and]
   rfl
  |some x=>
   obtain⟨hl,hi⟩:=bc hx
   obtain⟨f,rfl⟩:∃g,f=g+1:=⟨f -1,by omega⟩
   rw[Ku,hx]at hs
   simp only at hs
   have hw:=iX (n:=j) (by omega)
   have hd:decide ((j:Int)<(b.length:Int))=true:=by simp;omega
   have hrx:cW (ix b (j:Int))=some (Eg x):=by rw[hi];exact GW x
   by_cases hr:Eg x=true
   ·rw[if_pos hr]at hs
    left
    refine⟨_,ah (fun _=>⟨by show(0:Int)≤(j:Int);omega,by show(j:Int)<(b.length:Int);omega⟩) (ai (by show fy (decide ((j:Int)<(b.length:Int))) false (cW (ix b (j:Int)))=_;rw[hd,mh,hrx]) (ax (by show(decide ((j:Int)<(b.length:Int))&&Eg x)=true;rw[hd,hr];rfl) rfl)),⟨j+1,f,by show(⟨B,b,az ((j:Int)+1),last⟩:ao)=_;rw[hw],by omega,by omega,hs⟩,by show b.length -(az ((j:Int)+1)).toNat<b.length -(j:Int).toNat;rw[hw];omega⟩
   ·rw[if_neg hr]at hs
    subst hs
    right
    exact ah (fun _=>⟨by show(0:Int)≤(j:Int);omega,by show(j:Int)<(b.length:Int);omega⟩) (ai (by show fy (decide ((j:Int)<(b.length:Int))) false (cW (ix b (j:Int)))=_;rw[hd,mh,hrx]) (af (by show¬(decide ((j:Int)<(b.length:Int))&&Eg x)=true;rw[hd];simpa using hr) rfl))
 ·show 0≤(k:Int)∧(k:Int)≤(T:Int)∧(T:Int)≤(b.length:Int)
  omega
end
end Go.AB
end
section
set_option linter.unusedSimpArgs false
namespace Go.AB
open Go
def n9(last:Bool):Int:=if last then 10 else 6
theorem Tu(last:Bool):de last=some (n9 last):=by cases last<;>rfl
theorem Kd(B:xl)(b:List UInt8)(k:Int)(last:Bool):bF ⟨B,b,k,last⟩=some (n9 last):=by cases last<;>rfl
theorem pS{B:xl}{b:List UInt8}{j:Nat}{last:Bool}(h:b[j]? =none):aR ⟨B,b,(j:Int),last⟩=some (0,false):=by
 have:=dy h
 exact ax (by simp;omega) rfl
theorem eD{B:xl}{b:List UInt8}{j:Nat}{last:Bool}{x:UInt8}(h:b[j]? =some x):aR ⟨B,b,(j:Int),last⟩=some (x,true):=by
 obtain⟨h1,h2⟩:=bc h
 exact af (by simp;omega) (ah (by show 0≤(j:Int)∧(j:Int)<b.length;omega) (by show some (ix b (j:Int),true)=_;rw[h2]))
theorem te(last:Bool):n9 last≠0:=by cases last<;>decide
def PA{A:Type}(j n:Nat):(A×Nat)⊕Int→Prop
 |.inl r=>j<r.2∧r.2≤n
 |.inr e=>e≠0
theorem PA.mono{A:Type}{j n:Nat}:∀{r:(A×Nat)⊕Int},PA (j+1) n r→PA j n r
 |.inl _,h=>⟨Nat.lt_of_succ_lt h.1,h.2⟩
 |.inr _,h=>h
def c6(q:List UInt8×Int)(d:Int):List UInt8×Int:=if q.2<0 then(q.1,d)else(q.1++[nh (az (az (16*q.2)+d))],-1)
def uS(q:List UInt8×Int):List UInt8:=if q.2≥0 then q.1++[nh (az (16*q.2))]else q.1
section
variable(b:List UInt8)(last:Bool)
def F5:Nat→List UInt8×Int→Nat→(List UInt8×Nat)⊕Int
 |0,_,_=>.inr (n9 last)
 |f+1,q,j=>match b[j]? with
  |none=>.inr (n9 last)
  |some x=>if(x.toNat:Int)==62 then .inl (uS q,j+1)else if Dp x then F5 f q (j+1)else if decide (xj x<0)then .inr 11 else F5 f (c6 q (xj x)) (j+1)
variable{b last}
def Hq(q:List UInt8×Int)(j:Nat):Prop:=q.1.length≤j∧-1≤q.2∧q.2≤15
theorem Hq.mono{q:List UInt8×Int}{j:Nat}(h:Hq q j):Hq q (j+1):=⟨by have:=h.1;omega,h.2⟩
theorem Hq.step{q:List UInt8×Int}{j:Nat}(h:Hq q j)(x:UInt8):Hq (c6 q (xj x)) (j+1):=by
 obtain⟨h1,h2,h3⟩:=h
 have:=EU x
 unfold c6
 split
 ·exact⟨by show q.1.length≤j+1;omega,this.1,this.2⟩
 ·exact⟨by show(q.1++_).length≤j+1;simp;omega,by show(-1:Int)≤-1;omega,by show(-1:Int)≤15;omega⟩
theorem Cy{u:Bool}{o:List UInt8}(c:UInt8)(h:o.length+1≤room):aw ⟨u,true,⟨o⟩⟩ c=some (Oz.mk,⟨true,true,⟨o++[c]⟩⟩):=ah rfl (ah h rfl)
theorem RO{u:Bool}{o:List UInt8}(h:o.length≤room):aY ⟨u,true,⟨o⟩⟩=some (⟨o⟩,⟨u,false,⟨o⟩⟩):=ah ⟨rfl,h⟩ rfl
theorem vX:∀(f:Nat)(q:List UInt8×Int)(j:Nat),j≤b.length→PA j b.length (F5 b last f q j)
 |0,q,j,_=>te last
 |f+1,q,j,hj=>by
  rw[F5]
  cases hx:b[j]? with
  |none=>exact te last
  |some x=>
   have hl:=(bc hx).1
   simp only
   by_cases h1:((x.toNat:Int)==62)=true
   ·rw[if_pos h1];exact⟨by show j<j+1;omega,by show j+1≤_;omega⟩
   ·rw[if_neg h1]
    by_cases h2:Dp x=true
    ·rw[if_pos h2];exact(vX f q (j+1) (by omega)).mono
    ·rw[if_neg h2]
     by_cases h3:(decide (xj x<0))=true
     ·rw[if_pos h3];exact(by decide:(11:Int)≠0)
     ·rw[if_neg h3];exact(vX f (c6 q (xj x)) (j+1) (by omega)).mono
def LV(r:(List UInt8×Nat)⊕Int)(x:aa×Int×ao):Prop:=match r with
 |.inl r=>x.1=⟨4,0,⟨r.1⟩,[]⟩∧x.2.1=0∧x.2.2.at_=(r.2:Int)
 |.inr e=>x.2.1=e
theorem Ss(hb:b.length<1048576)(u:Bool)(k:Nat)(hk:k≤b.length):∃x,eF ⟨⟨u,true,⟨[]⟩⟩,b,(k:Int),last⟩=some x∧LV (F5 b last (b.length+1) ([],-1) k) x:=by
 have hroom:room=140737488355328:=rfl
 generalize hT:F5 b last (b.length+1) ([],-1) k=T
 unfold eF
 refine gn (fun(s:Int×ao)=>∃(j f:Nat)(u:Bool)(o:List UInt8),s.2=⟨⟨u,true,⟨o⟩⟩,b,(j:Int),last⟩∧j≤b.length∧b.length -j+1≤f∧Hq (o,s.1) j∧F5 b last f (o,s.1) j=T) (fun s=>b.length -s.2.at_.toNat) (LV T) ⟨k,b.length+1,u,[],rfl,hk,by omega,⟨Nat.zero_le _,by show(-1:Int)≤-1;decide,by show(-1:Int)≤15;decide⟩,hT⟩ (by show b.length -_<_;omega) ?_
 rintro⟨h,o2⟩ ⟨j,f,u,o,e,hj,hf,hq,hs⟩
 have e:o2=⟨⟨u,true,⟨o⟩⟩,b,(j:Int),last⟩:=e
 subst e
 obtain⟨f,rfl⟩:∃g,f=g+1:=⟨f -1,by omega⟩
 obtain⟨q1,q2,q3⟩:=hq
 have q1:o.length≤j:=q1
 have q2:-1≤h:=q2
 have q3:h≤15:=q3
 rw[F5]at hs
 cases hx:b[j]? with
 |none=>
  rw[hx]at hs
  refine⟨_,ai (pS hx) (ax rfl (ai (Kd ..) rfl)),?_⟩
  show LV T _
  rw[←hs]
  exact rfl
 |some x=>
  obtain⟨hl,hi⟩:=bc hx
  rw[hx]at hs
  simp only at hs
  have hw:=iX (n:=j) (by omega)
  have hm:b.length -(az ((j:Int)+1)).toNat<b.length -(j:Int).toNat:=by rw[hw];omega
  by_cases h62:((x.toNat:Int)==62)=true
  ·rw[if_pos h62]at hs
   by_cases hh:h≥0
   ·refine⟨_,ai (eD hx) (af nT (ai (xS x) (bz (ax (by rw[h62];simpa using hh) (ai (Cy _ (by omega)) (ai (RO (by simp;omega)) rfl))) rfl))),?_⟩
    show LV T _
    rw[←hs]
    exact⟨by show(⟨4,0,_,_⟩:aa)=_;unfold uS;rw[if_pos hh],rfl,hw⟩
   ·refine⟨_,ai (eD hx) (af nT (ai (xS x) (bz (af (by rw[h62];simpa using hh) (ax h62 (ai (RO (by omega)) rfl))) rfl))),?_⟩
    show LV T _
    rw[←hs]
    exact⟨by show(⟨4,0,_,_⟩:aa)=_;unfold uS;rw[if_neg hh],rfl,hw⟩
  ·rw[if_neg h62]at hs
   have n62:¬((((x.toNat:Int)==62)&&(decide (h≥0)))=true):=by
    have:((x.toNat:Int)==62)=false:=by simpa using h62
    rw[this];simp
   by_cases hsp:Dp x=true
   ·rw[if_pos hsp]at hs
    refine⟨_,ai (eD hx) (af nT (ai (xS x) (bz (af n62 (af h62 (ai (sj x) (ax hsp rfl)))) rfl))),⟨j+1,f,u,o,?_,by omega,by omega,⟨by show o.length≤j+1;omega,q2,q3⟩,hs⟩,hm⟩
    show(⟨_,b,az ((j:Int)+1),last⟩:ao)=_
    rw[hw]
   ·rw[if_neg hsp]at hs
    by_cases hn:(decide (xj x<0))=true
    ·rw[if_pos hn]at hs
     refine⟨_,ai (eD hx) (af nT (ai (xS x) (bz (af n62 (af h62 (ai (sj x) (af hsp (ax hn rfl))))) rfl))),?_⟩
     show LV T _
     rw[←hs]
     exact rfl
    ·rw[if_neg hn]at hs
     have hx2:=EU x
     by_cases hh:h<0
     ·refine⟨_,ai (eD hx) (af nT (ai (xS x) (bz (af n62 (af h62 (ai (sj x) (af hsp (af hn (ax (by simpa using hh) rfl)))))) rfl))),⟨j+1,f,u,o,?_,by omega,by omega,⟨by show o.length≤j+1;omega,hx2.1,hx2.2⟩,?_⟩,hm⟩
      ·show(⟨_,b,az ((j:Int)+1),last⟩:ao)=_
       rw[hw]
      ·unfold c6 at hs
       rw[if_pos (show(o,h).2<0 from hh)]at hs
       exact hs
     ·refine⟨_,ai (eD hx) (af nT (ai (xS x) (bz (af n62 (af h62 (ai (sj x) (af hsp (af hn (af (by simpa using hh) (ai (Cy _ (by omega)) rfl))))))) rfl))),⟨j+1,f,true,o++[nh (az (az (16*h)+xj x))],?_,by omega,by omega,⟨?_,by show(-1:Int)≤-1;decide,by show(-1:Int)≤15;decide⟩,?_⟩,hm⟩
      ·show(⟨_,b,az ((j:Int)+1),last⟩:ao)=_
       rw[hw]
      ·show(o++_).length≤j+1
       simp;omega
      ·unfold c6 at hs
       rw[if_neg (show¬(o,h).2<0 from hh)]at hs
       exact hs
end
end Go.AB
end
section
set_option linter.unusedSimpArgs false
namespace Go.AB
open Go
def Fx(ds:List Int)(m:Nat):List UInt8×Int:=(ds.take (2*m)).foldl c6 ([],-1)
theorem wS{ds:List Int}(hd:∀d∈ds,0≤d∧d≤15):∀m,(h:2*m≤ds.length)→(Fx ds m).2=-1∧(Fx ds m).1.length=m∧∀h2:2*m+1<ds.length,Fx ds (m+1)=((Fx ds m).1++[nh (az (az (16*ds[2*m])+ds[2*m+1]))],-1)
 |m,h=>by
  have h0:(Fx ds m).2=-1∧(Fx ds m).1.length=m:=by
   cases m with
   |zero=>exact⟨rfl,rfl⟩
   |succ m=>
    obtain⟨a1,a2,a3⟩:=wS hd m (by omega)
    rw[a3 (by omega)]
    exact⟨rfl,by simp[a2]⟩
  refine⟨h0.1,h0.2,fun h2=>?_⟩
  have e:ds.take (2*(m+1))=ds.take (2*m)++[ds[2*m]]++[ds[2*m+1]]:=by rw[show 2*(m+1)=2*m+1+1 by omega,List.take_succ_eq_append_getElem h2,List.take_succ_eq_append_getElem (by omega)]
  have hd0:=(hd _ (List.getElem_mem (show 2*m<ds.length by omega))).1
  show(ds.take (2*(m+1))).foldl c6 ([],-1)=_
  rw[e,List.foldl_append,List.foldl_append]
  show c6 (c6 (Fx ds m) ds[2*m]) ds[2*m+1]=_
  have e1:c6 (Fx ds m) ds[2*m]=((Fx ds m).1,ds[2*m]):=by unfold c6;rw[if_pos (by rw[h0.1];decide)]
  rw[e1]
  exact if_neg (by show¬ds[2*m]<0;omega)
theorem D8{ds:List Int}(hd:∀d∈ds,0≤d∧d≤15)(m:Nat)(hm:ds.length=2*m)(hl:m≤1048576){body:List UInt8×Int→Option ((List UInt8×Int)⊕List UInt8)}
 (hb:∀(out:List UInt8)(k:Int),body (out,k)=if decide (k<(ds.length:Int))then bq (0≤k∧k<ds.length)<|bq (0≤az (k+1)∧az (k+1)<ds.length)<|bq ((out.length+[nh (az ((az (16*(ix ds k)))+(ix ds (az (k+1)))))].length)*1≤room)<|some (.inl (out++[nh (az ((az (16*(ix ds k)))+(ix ds (az (k+1)))))],az (k+2)))else some (.inr out)):
 iter body ([],0)=some (Fx ds m).1:=by
 have hroom:room=140737488355328:=rfl
 refine kp m (fun i=>((Fx ds i).1,((2*i:Nat):Int))) rfl (by omega) (fun i hi=>?_) ?_
 ·obtain⟨_,a2,a3⟩:=wS hd i (by omega)
  have h2:2*i+1<ds.length:=by omega
  have w1:az (((2*i:Nat):Int)+1)=((2*i+1:Nat):Int):=iX (by omega)
  have w2:az (((2*i:Nat):Int)+2)=((2*(i+1):Nat):Int):=by rw[aM (by omega) (by omega)];omega
  rw[hb,a3 h2,w1,w2,IW h2,IW (show 2*i<ds.length by omega)]
  exact ax (by simp;omega) (ah (by omega) (ah (by omega) (ah (by simp;omega) rfl)))
 ·rw[hb]
  exact af (by simp;omega) rfl
theorem GK{ds:List Int}(hd:∀d∈ds,0≤d∧d≤15):∀m,ds.length=2*m→ds.foldl c6 ([],-1)=Fx ds m:=fun m h=>by unfold Fx;rw[←h,List.take_length]
section
variable{b:List UInt8}{last:Bool}
def Rs(r:(List UInt8×Nat)⊕Int)(x:List UInt8×Int×Int):Prop:=match r with
 |.inl r=>x=(r.1,(r.2:Int),0)
 |.inr e=>x.2.2=e
theorem NI(hb:b.length<1048576)(k:Nat)(hk:k≤b.length):∃x,fc b (k:Int) last=some x∧Rs (F5 b last (b.length+1) ([],-1) k) x:=by
 have hroom:room=140737488355328:=rfl
 generalize hT:F5 b last (b.length+1) ([],-1) k=T
 unfold fc
 refine uP (fun z=>(z=.inl ()∧T=.inr (n9 last))∨∃x,z=.inr x∧Rs T x) (pL (fun z=>(z=.inl ()∧T=.inr (n9 last))∨∃x,z=.inr x∧Rs T x) (gn (fun(s:Int×List Int)=>∃(j f:Nat),s.1=(j:Int)∧j≤b.length∧b.length -j+1≤f∧(∀d∈s.2,0≤d∧d≤15)∧s.2.length≤j∧F5 b last f (s.2.foldl c6 ([],-1)) j=T) (fun s=>b.length -s.1.toNat) (fun(o:Unit⊕(List UInt8×Int×Int))=>(o=.inl ()∧T=.inr (n9 last))∨∃x,o=.inr x∧Rs T x)
  ⟨k,b.length+1,rfl,hk,by omega,fun d h=>(by cases h),Nat.zero_le _,hT⟩ (by show b.length -_<_;omega) (by
    rintro⟨a,ds⟩ ⟨j,f,e,hj,hf,hd,hl,hs⟩
    have e:a=(j:Int):=e
    subst e
    have hd:∀d∈ds,0≤d∧d≤15:=hd
    have hl:ds.length≤j:=hl
    obtain⟨f,rfl⟩:∃g,f=g+1:=⟨f -1,by omega⟩
    have hs:F5 b last (f+1) (ds.foldl c6 ([],-1)) j=T:=hs
    rw[F5]at hs
    cases hx:b[j]? with
    |none=>
     have:=dy hx
     rw[hx]at hs
     exact⟨_,af (by simp;omega) rfl,.inl ⟨rfl,hs.symm⟩⟩
    |some x=>
     obtain⟨hl2,hi⟩:=bc hx
     rw[hx]at hs
     simp only at hs
     have hw:=iX (n:=j) (by omega)
     have hm:b.length -(az ((j:Int)+1)).toNat<b.length -(j:Int).toNat:=by rw[hw];omega
     by_cases h62:((x.toNat:Int)==62)=true
     ·rw[if_pos h62]at hs
      have hp:Int.tmod ((ds.length:Nat):Int) 2=((ds.length % 2:Nat):Int):=rfl
      by_cases hodd:ds.length % 2=1
      ·obtain⟨m,hm2⟩:∃m,ds.length=2*m+1:=⟨ds.length/2,by omega⟩
       have hd2:∀d∈ds++[0],0≤d∧d≤15:=fun d h=>by
        rcases List.mem_append.1 h with h|h
        ·exact hd d h
        ·rw[List.mem_singleton.1 h];decide
       refine⟨_,ax (by simp;omega) (ah (by omega) (bz (ax (by rw[hi];exact h62) (gI (ax (by show(Int.tmod (ds.length:Int) 2==1)=true;rw[hp,hodd];rfl) (ah (by simp;omega) rfl)) (gI (D8 hd2 (m+1) (by simp;omega) (by omega) (fun _ _=>rfl)) rfl))) rfl)),.inr ⟨_,rfl,?_⟩⟩
       rw[←hs]
       show _=_
       rw[hw]
       have e1:=GK hd2 (m+1) (by simp;omega)
       rw[List.foldl_append]at e1
       obtain⟨a1,a2,a3⟩:=wS hd m (by omega)
       have e2:ds.foldl c6 ([],-1)=((Fx ds m).1,ds[2*m]'(by omega)):=by
        have:ds=ds.take (2*m)++[ds[2*m]'(by omega)]:=by rw[←List.take_succ_eq_append_getElem,←hm2,List.take_length]
        conv=>lhs;rw[this,List.foldl_append]
        show c6 (Fx ds m) _=_
        unfold c6
        rw[if_pos (by rw[a1];decide)]
       have hdm:=hd _ (List.getElem_mem (show 2*m<ds.length by omega))
       rw[e2]at e1⊢
       rw[←e1]
       have e3:(c6 ((Fx ds m).1,ds[2*m]'(by omega)) 0).1=uS ((Fx ds m).1,ds[2*m]'(by omega)):=by
        unfold c6 uS
        rw[if_neg (by show¬ds[2*m]<0;omega),if_pos (by show ds[2*m]≥0;omega)]
        show _++[nh (az (az (16*ds[2*m])+0))]=_
        rw[Int.add_zero,aM (n:=az (16*ds[2*m])) (by rw[aM (by omega) (by omega)];omega) (by rw[aM (by omega) (by omega)];omega)]
       show((c6 _ 0).1,_)=_
       rw[e3]
      ·obtain⟨m,hm2⟩:∃m,ds.length=2*m:=⟨ds.length/2,by omega⟩
       refine⟨_,ax (by simp;omega) (ah (by omega) (bz (ax (by rw[hi];exact h62) (gI (af (by show¬(Int.tmod (ds.length:Int) 2==1)=true;rw[hp,show ds.length % 2=0 by omega];decide) rfl) (gI (D8 hd m hm2 (by omega) (fun _ _=>rfl)) rfl))) rfl)),.inr ⟨_,rfl,?_⟩⟩
       rw[←hs]
       show _=_
       rw[hw,GK hd m hm2]
       obtain⟨a1,a2,a3⟩:=wS hd m (by omega)
       have e3:uS (Fx ds m)=(Fx ds m).1:=by unfold uS;rw[if_neg (by rw[a1];decide)]
       rw[e3]
     ·rw[if_neg h62]at hs
      by_cases hsp:Dp x=true
      ·rw[if_pos hsp]at hs
       exact⟨_,ax (by simp;omega) (ah (by omega) (bz (af (by rw[hi];exact h62) rfl) (ai (ot _) (ax (by rw[hi];exact hsp) rfl)))),⟨j+1,f,hw,by omega,by omega,hd,by show ds.length≤_;omega,hs⟩,hm⟩
      ·rw[if_neg hsp]at hs
       by_cases hn:(decide (xj x<0))=true
       ·rw[if_pos hn]at hs
        exact⟨_,ax (by simp;omega) (ah (by omega) (bz (af (by rw[hi];exact h62) rfl) (ai (ot _) (af (by rw[hi];exact hsp) (ai (Db _) (ax (by rw[hi];exact hn) rfl)))))),.inr ⟨_,rfl,by rw[←hs];exact rfl⟩⟩
       ·rw[if_neg hn]at hs
        have hx2:=EU x
        have hn0:¬xj x<0:=by simpa using hn
        refine⟨_,ax (by simp;omega) (ah (by omega) (bz (af (by rw[hi];exact h62) rfl) (ai (ot _) (af (by rw[hi];exact hsp) (ai (Db _) (af (by rw[hi];exact hn) (ai (Db _) (ah (by simp;omega) rfl)))))))),⟨j+1,f,hw,by omega,by omega,fun d h=>?_,by show(ds++_).length≤_;simp;omega,?_⟩,hm⟩
        ·rcases List.mem_append.1 h with h|h
         ·exact hd d h
         ·rw[List.mem_singleton.1 h,hi];omega
        ·show F5 b last f ((ds++[xj (ix b (j:Int))]).foldl c6 ([],-1)) (j+1)=T
         rw[List.foldl_append,hi]
         exact hs)) ?_) ?_
 ·rintro z (⟨rfl,h⟩|⟨x,rfl,hx⟩)
  ·exact⟨_,rfl,.inl ⟨rfl,h⟩⟩
  ·exact⟨_,rfl,.inr ⟨x,rfl,hx⟩⟩
 ·rintro z (⟨rfl,rfl⟩|⟨x,rfl,hx⟩)
  ·exact⟨_,ai (Tu last) rfl,rfl⟩
  ·exact⟨x,rfl,hx⟩
end
end Go.AB
end
section
set_option linter.unusedSimpArgs false
namespace Go.AB
open Go
section
variable(b:List UInt8)(last:Bool)
def rf:Nat→Int→Nat→Int×Nat×Bool
 |0,n,j=>(n,j,false)
 |k+1,n,j=>match b[j]? with
  |none=>(n,j,true)
  |some d=>if(decide ((d.toNat:Int)<48))||(decide ((d.toNat:Int)>55))then(n,j,false)else rf k (8*n+((d.toNat:Int) -48)) (j+1)
def Om(j:Nat):(List UInt8×Nat)⊕Int:=match b[j]? with
 |none=>.inr (n9 last)
 |some c=>
  if(c.toNat:Int)==110 then .inl ([10],j+1)else if(c.toNat:Int)==114 then .inl ([13],j+1)else if(c.toNat:Int)==116 then .inl ([9],j+1)
  else if(c.toNat:Int)==98 then .inl ([8],j+1)else if(c.toNat:Int)==102 then .inl ([12],j+1)else if(c.toNat:Int)==10 then .inl ([],j+1)
  else if(c.toNat:Int)==13 then(match b[j+1]? with
   |none=>if last then .inl ([],j+1)else .inr 6
   |some d=>if(d.toNat:Int)==10 then .inl ([],j+2)else .inl ([],j+1))
  else if(decide ((c.toNat:Int)<48))||(decide ((c.toNat:Int)>55))then .inl ([c],j+1)
  else if(rf b 2 ((c.toNat:Int) -48) (j+1)).2.2&&!last then .inr 6 else .inl ([nh (rf b 2 ((c.toNat:Int) -48) (j+1)).1],(rf b 2 ((c.toNat:Int) -48) (j+1)).2.1)
def yp:Nat→Int→List UInt8→Nat→(List UInt8×Nat)⊕Int
 |0,_,_,_=>.inr (n9 last)
 |f+1,deep,out,j=>match b[j]? with
  |none=>.inr (n9 last)
  |some c=>
   if(c.toNat:Int)==92 then(match Om b last (j+1)with
    |.inr e=>.inr e
    |.inl (x,j')=>yp f deep (out++x) j')
   else if(c.toNat:Int)==13 then(match b[j+1]? with
    |none=>if last then yp f deep (out++[10]) (j+1)else .inr 6
    |some d=>if(d.toNat:Int)==10 then yp f deep (out++[10]) (j+2)else yp f deep (out++[10]) (j+1))
   else if(c.toNat:Int)==40 then yp f (deep+1) (out++[c]) (j+1)
   else if(c.toNat:Int)==41 then(if deep -1==0 then .inl (out,j+1)else yp f (deep -1) (out++[c]) (j+1))
   else yp f deep (out++[c]) (j+1)
variable{b last}
theorem Fp:∀(k:Nat)(n:Int)(j:Nat),j≤b.length→j≤(rf b k n j).2.1∧(rf b k n j).2.1≤b.length∧(rf b k n j).2.1≤j+k∧((rf b k n j).2.2=true→(rf b k n j).2.1=b.length∧(rf b k n j).2.1<j+k)
 |0,n,j,h=>⟨Nat.le_refl _,h,Nat.le_refl _,fun e=>(by cases e)⟩
 |k+1,n,j,h=>by
  rw[rf]
  cases hx:b[j]? with
  |none=>
   have:=dy hx
   exact⟨Nat.le_refl _,h,by show j≤_;omega,fun _=>⟨by show j=_;omega,by show j<_;omega⟩⟩
  |some d=>
   have hl:=(bc hx).1
   simp only
   split
   ·exact⟨Nat.le_refl _,h,by show j≤_;omega,fun e=>(by cases e)⟩
   ·have:=Fp k (8*n+((d.toNat:Int) -48)) (j+1) (by omega)
    refine⟨by omega,by omega,by omega,fun e=>?_⟩
    have:=this.2.2.2 e
    omega
def WG(j n:Nat)(last:Bool):(List UInt8×Nat)⊕Int→Prop
 |.inl r=>j<r.2∧r.2≤n∧r.1.length≤1
 |.inr e=>e=n9 last
theorem mc{j n:Nat}{last:Bool}{c:Prop}[Decidable c]{x y:(List UInt8×Nat)⊕Int}(h1:WG j n last x)(h2:¬c→WG j n last y):WG j n last (if c then x else y):=by
 split
 ·exact h1
 ·rename_i h;exact h2 h
theorem EO(j:Nat)(h:j≤b.length):WG j b.length last (Om b last j):=by
 unfold Om
 cases hx:b[j]? with
 |none=>exact rfl
 |some c=>
  have hl:=(bc hx).1
  have k1:∀x:List UInt8,x.length≤1→WG j b.length last (.inl (x,j+1)):=fun x hx=>⟨by show j<j+1;omega,by show j+1≤_;omega,hx⟩
  refine mc (k1 _ (by decide)) fun _=>mc (k1 _ (by decide)) fun _=>mc (k1 _ (by decide)) fun _=>mc (k1 _ (by decide)) fun _=>mc (k1 _ (by decide)) fun _=>mc (k1 _ (by decide)) fun _=>mc ?_ fun _=>mc (k1 _ (by simp)) fun _=>?_
  ·cases hy:b[j+1]? with
   |none=>
    cases last with
    |true=>exact⟨by show j<j+1;omega,by show j+1≤_;omega,Nat.zero_le _⟩
    |false=>exact rfl
   |some d=>
    have hl2:=(bc hy).1
    exact mc ⟨by show j<j+2;omega,by show j+2≤_;omega,Nat.zero_le _⟩ fun _=>k1 _ (by decide)
  ·have:=Fp (b:=b) 2 ((c.toNat:Int) -48) (j+1) (by omega)
   by_cases h1:((rf b 2 ((c.toNat:Int) -48) (j+1)).2.2&&!last)=true
   ·rw[if_pos h1]
    have:last=false:=by
     rw[Bool.and_eq_true]at h1
     simpa using h1.2
    rw[this];exact rfl
   ·rw[if_neg h1]
    exact⟨by show j<(rf b 2 ((c.toNat:Int) -48) (j+1)).2.1;omega,this.2.1,by simp⟩
theorem OZ(c:UInt8):(decide (Lib.indexByte [110,114,116,98,102] c≥0))=(((c.toNat:Int)==110)||(((c.toNat:Int)==114)||(((c.toNat:Int)==116)||(((c.toNat:Int)==98)||((c.toNat:Int)==102))))):=of_decide_eq_true (iQ (fun c=>decide ((decide (Lib.indexByte [110,114,116,98,102] c≥0))=(((c.toNat:Int)==110)||(((c.toNat:Int)==114)||(((c.toNat:Int)==116)||(((c.toNat:Int)==98)||((c.toNat:Int)==102))))))) (by kernel_rfl) c)
theorem Su(hb:b.length<1048576){u:Bool}{o:List UInt8}(ho:o.length<1048576)(c:UInt8)(hc:48≤(c.toNat:Int)∧(c.toNat:Int)≤55)(j:Nat)(hj:j≤b.length):
 ∃x,eG ⟨⟨u,true,⟨o⟩⟩,b,(j:Int),last⟩ c=some x∧(if(rf b 2 ((c.toNat:Int) -48) j).2.2&&!last then x.1=false∧x.2.aE=last else x=(true,⟨⟨true,true,⟨o++[nh (rf b 2 ((c.toNat:Int) -48) j).1]⟩⟩,b,((rf b 2 ((c.toNat:Int) -48) j).2.1:Int),last⟩)):=by
 have hroom:room=140737488355328:=rfl
 have e0:az (((nh ((c.toNat:Int) -48)).toNat:Int))=(c.toNat:Int) -48:=by
  have:=of_decide_eq_true (iQ (fun c=>decide (48≤(c.toNat:Int)→az (((nh ((c.toNat:Int) -48)).toNat:Int))=(c.toNat:Int) -48)) (by kernel_rfl) c)
  exact this hc.1
 have dig:∀d:UInt8,¬(((decide ((d.toNat:Int)<48))||(decide ((d.toNat:Int)>55)))=true)→48≤(d.toNat:Int)∧(d.toNat:Int)≤55∧az (((nh ((d.toNat:Int) -48)).toNat:Int))=(d.toNat:Int) -48:=fun d h=>by
  have h1:48≤(d.toNat:Int)∧(d.toNat:Int)≤55:=by simp at h;omega
  exact⟨h1.1,h1.2,of_decide_eq_true (iQ (fun c=>decide (48≤(c.toNat:Int)→az (((nh ((c.toNat:Int) -48)).toNat:Int))=(c.toNat:Int) -48)) (by kernel_rfl) d) h1.1⟩
 generalize hT:rf b 2 ((c.toNat:Int) -48) j=T
 unfold eG
 rw[e0]
 refine uP (fun(r:(Int×ao)⊕(Bool×ao))=>(r=.inl (T.1,⟨⟨u,true,⟨o⟩⟩,b,(T.2.1:Int),last⟩)∧T.2.2=false)∨(T.2.2=true∧(if last then r=.inr (true,⟨⟨true,true,⟨o++[nh T.1]⟩⟩,b,(T.2.1:Int),last⟩)else∃x,r=.inr (false,x)∧x.aE=last))) (pL (fun(r:(Int×ao)⊕(Bool×ao))=>(r=.inl (T.1,⟨⟨u,true,⟨o⟩⟩,b,(T.2.1:Int),last⟩)∧T.2.2=false)∨(T.2.2=true∧(if last then r=.inr (true,⟨⟨true,true,⟨o++[nh T.1]⟩⟩,b,(T.2.1:Int),last⟩)else∃x,r=.inr (false,x)∧x.aE=last))) (gn (fun(s:Int×Int×ao)=>∃(i k:Nat),s.2.2=⟨⟨u,true,⟨o⟩⟩,b,(i:Int),last⟩∧i≤b.length∧k≤2∧s.2.1=2 -(k:Int)∧0≤s.1∧s.1≤511∧s.1<8^(3 -k)∧rf b k s.1 i=T) (fun s=>(2 -s.2.1).toNat)
  (fun(r:(Int×ao)⊕(Bool×ao))=>(r=.inl (T.1,⟨⟨u,true,⟨o⟩⟩,b,(T.2.1:Int),last⟩)∧T.2.2=false)∨(T.2.2=true∧(if last then r=.inr (true,⟨⟨true,true,⟨o++[nh T.1]⟩⟩,b,(T.2.1:Int),last⟩)else∃x,r=.inr (false,x)∧x.aE=last)))
  ⟨j,2,rfl,hj,Nat.le_refl _,rfl,by show 0≤(c.toNat:Int) -48;omega,by show(c.toNat:Int) -48≤511;omega,by show(c.toNat:Int) -48<8;omega,hT⟩ (by show(2 -(0:Int)).toNat<_;decide) (by
    rintro⟨n,q,o7⟩ ⟨i,k,e,hi,hk,eq,n0,n1,n2,hs⟩
    have e:o7=⟨⟨u,true,⟨o⟩⟩,b,(i:Int),last⟩:=e
    have eq:q=2 -(k:Int):=eq
    subst e;subst eq
    have n0:0≤n:=n0
    have n1:n≤511:=n1
    have hs:rf b k n i=T:=hs
    cases k with
    |zero=>
     rw[rf]at hs
     subst hs
     exact⟨_,af (by simp) rfl,.inl ⟨rfl,rfl⟩⟩
    |succ k=>
     rw[rf]at hs
     have hlt:(decide (2 -((k+1:Nat):Int)<2))=true:=by simp;omega
     cases hx:b[i]? with
     |none=>
      rw[hx]at hs
      subst hs
      cases last with
      |true=>exact⟨_,ax hlt (ai (pS hx) (ax rfl (ax rfl (ai (Cy _ (by omega)) rfl)))),.inr ⟨rfl,by rw[if_pos rfl];rfl⟩⟩
      |false=>exact⟨_,ax hlt (ai (pS hx) (ax rfl (af nF rfl))),.inr ⟨rfl,by rw[if_neg (by decide)];exact⟨_,rfl,rfl⟩⟩⟩
     |some d=>
      obtain⟨hl,_⟩:=bc hx
      rw[hx]at hs
      simp only at hs
      by_cases hd:((decide ((d.toNat:Int)<48))||(decide ((d.toNat:Int)>55)))=true
      ·rw[if_pos hd]at hs
       subst hs
       exact⟨_,ax hlt (ai (eD hx) (af nT (ax hd rfl))),.inl ⟨rfl,rfl⟩⟩
      ·rw[if_neg hd]at hs
       obtain⟨d1,d2,d3⟩:=dig d hd
       have hw:=iX (n:=i) (by omega)
       have n2:n<8^(3 -(k+1)):=n2
       have hp:n<64∧8*n+((d.toNat:Int) -48)<8^(3 -k):=by
        rcases(show k=0∨k=1 by omega)with rfl|rfl
        ·have:n<64:=n2
         exact⟨this,by show _<(512:Int);omega⟩
        ·have:n<8:=n2
         exact⟨by omega,by show _<(64:Int);omega⟩
       have w8:az ((az (8*n))+(az (((nh ((d.toNat:Int) -48)).toNat:Int))))=8*n+((d.toNat:Int) -48):=by rw[d3,aM (n:=8*n) (by omega) (by omega),aM (by omega) (by omega)]
       have wk:az (2 -((k+1:Nat):Int)+1)=2 -(k:Int):=by rw[aM (by omega) (by omega)];omega
       refine⟨_,ax hlt (ai (eD hx) (af nT (af hd rfl))),⟨i+1,k,?_,by omega,by omega,wk,by show 0≤az _;rw[w8];omega,by show az _≤511;rw[w8];omega,by show az _<_;rw[w8];exact hp.2,by show rf b k (az _) (i+1)=T;rw[w8];exact hs⟩,?_⟩
       ·show(⟨_,b,az ((i:Int)+1),last⟩:ao)=_
        rw[hw]
       ·show(2 -az _).toNat<(2 -(2 -((k+1:Nat):Int))).toNat
        rw[wk];omega)) ?_) ?_
 ·rintro z (⟨rfl,h2⟩|⟨h2,h3⟩)
  ·exact⟨_,rfl,.inl ⟨rfl,h2⟩⟩
  ·cases last with
   |true=>
    rw[if_pos rfl]at h3
    subst h3
    exact⟨_,rfl,.inr ⟨h2,by rw[if_pos rfl]⟩⟩
   |false=>
    rw[if_neg nF]at h3
    obtain⟨x,rfl,hx⟩:=h3
    exact⟨_,rfl,.inr ⟨h2,by rw[if_neg nF];exact⟨x,rfl,hx⟩⟩⟩
 ·rintro z (⟨rfl,h2⟩|⟨h2,h3⟩)
  ·refine⟨_,ai (Cy _ (by omega)) rfl,?_⟩
   rw[h2,Bool.false_and,if_neg nF]
  ·cases last with
   |true=>
    rw[if_pos rfl]at h3
    subst h3
    refine⟨_,rfl,?_⟩
    rw[h2,Bool.not_true,Bool.and_false,if_neg nF]
   |false=>
    rw[if_neg nF]at h3
    obtain⟨x,rfl,hx⟩:=h3
    refine⟨_,rfl,?_⟩
    rw[h2,Bool.not_false,Bool.and_true,if_pos rfl]
    exact⟨rfl,hx⟩
end
end Go.AB
end
