/- A part of the proof: Xd, Xe, Xf, Xg, Xh, Xi, Xj, Xk, Xl, Xm, Xn, Xo, Xp. -/
import Derived.Test.YtkeagffgdajggaaGreatNu24
set_option linter.unusedSimpArgs false
set_option linter.unusedVariables false
section
set_option linter.unusedSimpArgs false
namespace Go.AB
open Go
def im(v:aa):Prop:=W 302 v/\mc 302 v<=1300
def lW(v:aa):List Int:=cT 302 v []
theorem na{v:aa}(h:im v):(lW v).length<=1300:=by
 have:=xi 302 v []
 have:=h.2
 unfold lW
 simp only[List.length_nil]at*
 omega
theorem aar{v:aa}(h:im v):pZ v=some (lW v):=by
 obtain⟨m',h1,_⟩:=TB 302 v lf [] [] h.1 (by decide) (fun k=>rfl) (by have:=h.2;unfold room;simp only[List.length_nil];omega)
 exact aB h1 rfl
theorem P7{v:aa}(h:im v):mI v=some (lW v):=aB (Ta 302 v lf [] h.1 (by decide) (by have:=h.2;unfold room;simp only[List.length_nil];omega)) rfl
theorem nF(l:List Int):(kept l).length<=l.length:=List.length_filter_le _ _
theorem sS{v:aa}(h:im v):fI v=some (kept (lW v)):=aB (aar h) (az (by have:=na h;unfold room;omega) rfl)
theorem Uj{l:List Int}{k:Nat}(hk:k<l.length):kept (l.take (k+1))=kept (l.take k)++(if gone l[k]then[]else[l[k]]):=by
 unfold kept
 rw[List.take_succ_eq_append_getElem hk,List.filter_append]
 cases hg:gone l[k]<;>simp[hg]
theorem P5{v:aa}(h:im v):zC v=some (kept (lW v)):=by
 have hl:=na h
 refine aB (P7 h) ?_
 generalize lW v=l at hl
 refine jT (a:=kept l) ?_ rfl
 refine jd l.length (fun k=>kept (l.take k)) rfl (by omega) (fun k hk=>?_) ?_
 ·have e:ix l (k:Int)=l[k]:=kK (i:=(k:Int)) hk
  have hkl:=nF (l.take k)
  rw[List.length_take]at hkl
  refine aU (decide_eq_true (by omega)) (jT (a:=kept (l.take (k+1))) (az ⟨by omega,by omega⟩ (az (fun _=>⟨by omega,by omega⟩) ?_)) rfl)
  rw[Uj hk,e]
  have hg:((decide (l[k]>=1))&&(decide (l[k]<=4096)))=!gone l[k]:=by
   unfold gone
   rw[Bool.eq_iff_iff]
   simp
  rw[hg]
  cases gone l[k]with
  |true=>exact aF (by simp) (by simp)
  |false=>exact aU (by simp) (az ⟨by omega,by omega⟩ (az (by simp only[List.length_cons,List.length_nil];unfold room;omega) rfl))
 ·refine aF (by simp) ?_
  rw[List.take_length]
theorem Yj(L:List aa)(g:aa->Nat)(i:Nat):((L.drop i).map g).sum<=(L.map g).sum:=by
 have e:L.map g=(L.take i).map g++(L.drop i).map g:=by rw[<-List.map_append,List.take_append_drop]
 rw[e,List.sum_append];omega
theorem drop_eq{v:aa}(h:im v)(key:aw):∃v',bS v key=some v'/\zA v key=some v'/\im v':=by
 have hlen:v.L.length<=301:=h.1.1
 obtain⟨r,h1,h2,h3⟩:=ka v key (by omega)
 by_cases h0:r<0
 ·exact⟨v,aB h1 (aU (decide_eq_true h0) rfl),aB ((yx v key).trans h1) (aU (decide_eq_true h0) rfl),h⟩
 ·obtain⟨i,rfl⟩:∃i:Nat,r=(i:Int):=⟨r.toNat,by omega⟩
  have hi:i<v.L.length:=by omega
  have amt:((v.L.take i++v.L.drop (min (i+2) v.L.length)).map (mc 301)).sum<=(v.L.map (mc 301)).sum:=by
   have e:v.L.map (mc 301)=(v.L.take i).map (mc 301)++(v.L.drop i).map (mc 301):=by rw[<-List.map_append,List.take_append_drop]
   have e2:v.L.drop (min (i+2) v.L.length)=(v.L.drop i).drop (min (i+2) v.L.length -i):=by rw[List.drop_drop];congr 1;omega
   have:=Yj (v.L.drop i) (mc 301) (min (i+2) v.L.length -i)
   rw[e,List.map_append,List.sum_append,List.sum_append,e2]
   omega
  refine⟨⟨v.Kind,v.N,v.S,v.L.take i++v.L.drop (min (i+2) v.L.length)⟩,?_,?_,?_,?_⟩
  ·exact aB h1 (aF (by simp) (az ⟨by omega,by omega,by unfold room;omega⟩ rfl))
  ·have hw:bj ((i:Int)+2)=((i+2:Nat):Int):=by rw[aI (by omega) (by omega)];omega
   have p0:part v.L 0 (i:Int)=v.L.take i:=by
    show(v.L.drop 0).take ((i:Int) -0).toNat=_
    rw[Int.sub_zero];rfl
   have hl0:(v.L.take i).length<=301:=by rw[List.length_take];omega
   refine aB ((yx v key).trans h1) (aF (by simp) (az ⟨by omega,by omega,by omega⟩ ?_))
   rw[p0,hw]
   refine az (by simp only[List.length_nil];unfold room;omega) ?_
   refine jT (a:=v.L.take i++v.L.drop (min (i+2) v.L.length)) ?_ rfl
   by_cases h4:i+2<v.L.length
   ·have p1:part v.L ((i+2:Nat):Int) (v.L.length:Int)=v.L.drop (i+2):=by
     show(v.L.drop (i+2)).take (((v.L.length:Int) -((i+2:Nat):Int)).toNat)=_
     exact List.take_of_length_le (by rw[List.length_drop];omega)
    rw[p1,Nat.min_eq_left (by omega)]
    have hl1:(v.L.drop (i+2)).length<=301:=by rw[List.length_drop];omega
    exact aU (decide_eq_true (by omega)) (az ⟨by omega,by omega,by omega⟩ (az (by unfold room;omega) rfl))
   ·rw[Nat.min_eq_right (by omega),List.drop_length,List.append_nil]
    exact aF (by simp;omega) rfl
  ·refine⟨?_,fun x hx=>?_⟩
   ·show(v.L.take i++v.L.drop (min (i+2) v.L.length)).length<=301
    rw[List.length_append,List.length_take,List.length_drop];omega
   ·rcases List.mem_append.1 hx with hx|hx
    ·exact h.1.2 x (List.mem_of_mem_take hx)
    ·exact h.1.2 x (List.mem_of_mem_drop hx)
  ·have e:mc 302 v=1+(v.L.map (mc 301)).sum:=rfl
   have h2:=h.2
   show 1+((v.L.take i++v.L.drop (min (i+2) v.L.length)).map (mc 301)).sum<=1300
   omega
end Go.AB
end
section
set_option linter.unusedSimpArgs false
namespace Go.AB
open Go
theorem Rw(m:List (Int×Int))(a b k:Int):kO (qO m a b) k=if a=k then some b else kO m k:=by
 induction m with
 |nil=>
  show(bif k==a then some b else none)=_
  by_cases e:a=k
  ·subst e;simp
  ·rw[if_neg e]
   have:(k==a)=false:=by rw[beq_eq_false_iff_ne];exact fun h=>e h.symm
   rw[this];rfl
 |cons x m ih=>
  obtain⟨c,d⟩:=x
  show kO (bif a==c then(a,b)::m else(c,d)::qO m a b) k=_
  by_cases e:a=c
  ·subst e
   rw[show(a==a)=true by simp,cond_true]
   show(bif k==a then some b else kO m k)=if a=k then some b else(bif k==a then some d else kO m k)
   by_cases e2:a=k
   ·subst e2;simp
   ·rw[if_neg e2]
    have:(k==a)=false:=by rw[beq_eq_false_iff_ne];exact fun h=>e2 h.symm
    rw[this];rfl
  ·have e1:(a==c)=false:=by rw[beq_eq_false_iff_ne];exact e
   rw[e1,cond_false]
   show(bif k==c then some d else kO (qO m a b) k)=if a=k then some b else(bif k==c then some d else kO m k)
   rw[ih]
   by_cases e2:a=k
   ·subst e2;rw[e1];simp
   ·rw[if_neg e2,if_neg e2]
def InL(m:List (Int×Int))(l:List Int):Prop:=∀k,PE m k=l.contains k
theorem InL.add{m:List (Int×Int)}{l:List Int}(h:InL m l)(n b:Int):InL (qO m n b) (l++[n]):=fun k=>by
 have:=h k
 unfold PE at this⊢
 rw[Rw,List.contains_eq_mem]
 rw[List.contains_eq_mem]at this
 by_cases e:n=k
 ·subst e;simp
 ·rw[if_neg e,this]
  have e':¬k=n:=fun h=>e h.symm
  simp[e']
theorem Al:∀(xs l:List Int),(xs.foldl dC l).length<=l.length+xs.length
 |[],l=>by simp
 |x::xs,l=>by
  have h1:=Al xs (dC l x)
  have h2:=NP l x
  simp only[List.foldl_cons,List.length_cons]
  omega
theorem Am:∀(xs l:List Int),(l++xs).Nodup->xs.foldl dC l=l++xs
 |[],l,_=>by simp
 |x::xs,l,h=>by
  have hx:l.contains x=false:=by
   rw[List.contains_eq_mem]
   refine decide_eq_false fun hm=>?_
   rw[List.nodup_append]at h
   exact h.2.2 x hm x (List.mem_cons_self ..) rfl
  have e:dC l x=l++[x]:=by unfold dC;rw[hx];rfl
  rw[List.foldl_cons,e,Am xs (l++[x]) (by rw[List.append_assoc];exact h),List.append_assoc]
  rfl
theorem put_eq(m:List (Int×Int))(l xs:List Int)(hs:InL m l)(hr:(l.length+xs.length+1)*8<=room):∃m',cj ⟨l,m⟩ xs=some ⟨xs.foldl dC l,m'⟩/\InL m' (xs.foldl dC l):=by
 have hr':=hr
 unfold room at hr'
 have hit:=nE (body:=fun((t1,o2):Int×bI)=>
  if decide (t1<(xs.length:Int))then
   jn (
    aG (0<=t1/\t1<xs.length)<|
    if !(PE o2.Ua (ix xs t1))then
     aG ((o2.l_.length+[ix xs t1].length)*8<=room)<|
     some (bI.mk (o2.l_++[ix xs t1]) (qO o2.Ua (ix xs t1) (o2.l_.length:Int)))
    else
     some o2) fun(o7:bI)=>
   some (.inl (bj (t1+1),o7))
  else
   some (.inr o2)) (s0:=(0,⟨l,m⟩))
  (fun s=>∃k:Nat,s.1=(k:Int)/\k<=xs.length/\s.2.l_=(xs.take k).foldl dC l/\InL s.2.Ua s.2.l_)
  (fun s=>((xs.length:Int) -s.1).toNat)
  (fun o=>∃m',o=(⟨xs.foldl dC l,m'⟩:bI)/\InL m' (xs.foldl dC l))
  ⟨0,rfl,Nat.zero_le _,rfl,hs⟩ (by show((xs.length:Int) -0).toNat<_;omega) (by
    rintro⟨t,ll,mm⟩ ⟨k,e1,e2,e3,e4⟩
    simp only at e1 e3 e4
    subst e1;subst e3
    by_cases hk:k<xs.length
    ·have e5:ix xs (k:Int)=xs[k]:=kK (i:=(k:Int)) hk
     have s2:=Al (xs.take k) l
     rw[List.length_take]at s2
     have hw:bj ((k:Int)+1)=((k+1:Nat):Int):=by rw[aI (by omega) (by omega)];omega
     have jb:(xs.take (k+1)).foldl dC l=dC ((xs.take k).foldl dC l) xs[k]:=by rw[List.take_succ_eq_append_getElem hk,List.foldl_append];rfl
     have hμ:((xs.length:Int) -bj ((k:Int)+1)).toNat<((xs.length:Int) -k).toNat:=by rw[hw];omega
     dsimp only
     rw[e5]
     generalize hA:(xs.take k).foldl dC l=A at e4 s2 jb
     cases hc:A.contains xs[k]with
     |true=>
      have ea:dC A xs[k]=A:=by unfold dC;rw[hc];rfl
      refine⟨.inl (bj ((k:Int)+1),⟨A,mm⟩),aU (decide_eq_true (by omega)) (jT (a:=⟨A,mm⟩) (az ⟨by omega,by omega⟩ (aF (by rw[e4 xs[k],hc];simp) rfl)) rfl),?_,hμ⟩
      exact⟨k+1,hw,hk,by rw[jb,ea],e4⟩
     |false=>
      have ea:dC A xs[k]=A++[xs[k]]:=by unfold dC;rw[hc];rfl
      refine⟨.inl (bj ((k:Int)+1),⟨A++[xs[k]],qO mm xs[k] (A.length:Int)⟩),aU (decide_eq_true (by omega)) (jT (a:=⟨A++[xs[k]],qO mm xs[k] (A.length:Int)⟩) (az ⟨by omega,by omega⟩ (aU (by rw[e4 xs[k],hc];rfl) (az (by simp only[List.length_cons,List.length_nil];unfold room;omega) rfl))) rfl),?_,hμ⟩
      exact⟨k+1,hw,hk,by rw[jb,ea],e4.add _ _⟩
    ·obtain rfl:k=xs.length:=by omega
     refine⟨_,aF (by simp) rfl,mm,?_,?_⟩
     ·rw[List.take_length]
     ·rw[List.take_length]at e4;exact e4)
 obtain⟨o,i1,m',i2,i3⟩:=hit
 subst i2
 exact⟨m',i1,i3⟩
theorem ah0(l xs:List Int)(hr:(l.length+xs.length+1)*8<=room):HL l xs=some (xs.foldl dC l):=by
 have hr':=hr
 unfold room at hr'
 unfold HL
 refine az (by simp only[List.length_nil];unfold room;omega) (jT (a:=xs.foldl dC l) ?_ rfl)
 refine jd xs.length (fun k=>(xs.take k).foldl dC l) rfl (by omega) (fun k hk=>?_) ?_
 ·have e5:ix xs (k:Int)=xs[k]:=kK (i:=(k:Int)) hk
  have s2:=Al (xs.take k) l
  rw[List.length_take]at s2
  have jb:(xs.take (k+1)).foldl dC l=dC ((xs.take k).foldl dC l) xs[k]:=by rw[List.take_succ_eq_append_getElem hk,List.foldl_append];rfl
  simp only[jb,e5]
  generalize(xs.take k).foldl dC l=A at s2
  have hh:Ld A xs[k]=some (A.contains xs[k]):=has_eq A xs[k] (by omega)
  refine aU (decide_eq_true (by omega)) (jT (a:=dC A xs[k]) (az ⟨by omega,by omega⟩ (aB hh ?_)) rfl)
  unfold dC
  cases hc:A.contains xs[k]with
  |true=>exact aF (by simp) rfl
  |false=>exact aU rfl (az ⟨by omega,by omega⟩ (az (by simp only[List.length_cons,List.length_nil];unfold room;omega) rfl))
 ·refine aF (by simp) ?_
  rw[List.take_length]
theorem OE{v g:aa}(h:im v)(hg:im g):∃l:List Int,fy v g=some l/\PZ v g=some l/\l.length<=2600:=by
 obtain⟨v',d1,d2,d3⟩:=drop_eq h (aw.mk [80,97,114,101,110,116])
 have l1:=nF (lW v')
 have l2:=nF (lW g)
 have l3:=na d3
 have l4:=na hg
 have hnd:(kept (lW v')).Nodup:=(nQ 302 v' [] List.nodup_nil).filter _
 have e0:(kept (lW v')).foldl dC []=kept (lW v'):=Am _ [] (by simpa using hnd)
 obtain⟨m1,p1,p2⟩:=put_eq [] [] (kept (lW v')) (fun k=>rfl) (by unfold room;simp only[List.length_nil];omega)
 rw[e0]at p1 p2
 obtain⟨m2,p3,p4⟩:=put_eq m1 (kept (lW v')) (kept (lW g)) p2 (by unfold room;omega)
 have hl:=Al (kept (lW g)) (kept (lW v'))
 refine⟨(kept (lW g)).foldl dC (kept (lW v')),?_,?_,by omega⟩
 ·exact aB d1 (aB (sS d3) (aB p1 (aB (sS hg) (aB p3 rfl))))
 ·exact aB d2 (aB (P5 d3) (aB (P5 hg) (aB (ah0 _ _ (by unfold room;omega)) rfl)))
theorem O9{l:List Int}{n:Int}(h:n∈kept l):1<=n/\n<=4096:=by
 unfold kept gone at h
 have:=(List.mem_filter.1 h).2
 simp at this
 exact⟨by omega,by omega⟩
theorem PD:∀{xs l:List Int}{m:Int},m∈xs.foldl dC l->m∈l\/m∈xs
 |[],l,m,h=>.inl h
 |x::xs,l,m,h=>by
  rw[List.foldl_cons]at h
  rcases PD h with h|h
  ·unfold dC at h
   split at h
   ·exact .inl h
   ·rcases List.mem_append.1 h with h|h
    ·exact .inl h
    ·rw[List.mem_singleton.1 h];exact .inr List.mem_cons_self
  ·exact .inr (List.mem_cons_of_mem _ h)
theorem VU{v g:aa}(h:im v)(hg:im g):∃l:List Int,fy v g=some l/\∀m∈l,1<=m/\m<=4096:=by
 obtain⟨v',d1,d2,d3⟩:=drop_eq h (aw.mk [80,97,114,101,110,116])
 have l1:=nF (lW v')
 have l2:=nF (lW g)
 have l3:=na d3
 have l4:=na hg
 have hnd:(kept (lW v')).Nodup:=(nQ 302 v' [] List.nodup_nil).filter _
 have e0:(kept (lW v')).foldl dC []=kept (lW v'):=Am _ [] (by simpa using hnd)
 obtain⟨m1,p1,p2⟩:=put_eq [] [] (kept (lW v')) (fun k=>rfl) (by unfold room;simp only[List.length_nil];omega)
 rw[e0]at p1 p2
 obtain⟨m2,p3,p4⟩:=put_eq m1 (kept (lW v')) (kept (lW g)) p2 (by unfold room;omega)
 refine⟨(kept (lW g)).foldl dC (kept (lW v')),aB d1 (aB (sS d3) (aB p1 (aB (sS hg) (aB p3 rfl)))),fun m hm=>?_⟩
 rcases PD hm with hm|hm
 ·exact O9 hm
 ·exact O9 hm
end Go.AB
end
section
set_option linter.unusedSimpArgs false
namespace Go.AB
open Go
def jQ(v:aa):Prop:=W 300 v/\mc 300 v<=300
theorem jQ.wide{v:aa}(h:jQ v):im v:=⟨uC _ _ _ (by decide) h.1,by rw[Oc 300 302 v (by decide) h.1];have:=h.2;omega⟩
theorem akB(v:aa):∃r,fD lf v 300=some r/\(0<=r->jQ v):=by
 obtain⟨r,h1,h2,h3,h4⟩:=few lf v 300 (by decide) (by decide) (by decide)
 refine⟨r,h1,fun h=>?_⟩
 obtain⟨h5,h6⟩:=h4 h
 exact⟨h5,by have:(mc 300 v:Int)<=300 -r:=h6;omega⟩
theorem HE(o:ag)(n:Int):∃b,kU o n=some b/\(b=true->jQ o.V):=by
 obtain⟨r,h1,h4⟩:=akB o.V
 unfold kU
 rw[h1,a8]
 by_cases hc:((decide (r>=0))&&(decide ((o.Data.b.length:Int)<=n)))=true
 ·have hr:0<=r:=by simp at hc;exact hc.1
  obtain⟨b,hb⟩:=texts 300 o.V lf (h4 hr).1 (by decide) (by decide)
  rw[hc,TD,hb,a8]
  exact⟨_,rfl,fun _=>h4 hr⟩
 ·have hc':((decide (r>=0))&&(decide ((o.Data.b.length:Int)<=n)))=false:=by simpa using hc
  rw[hc',TC,a8]
  exact⟨_,rfl,fun h=>by cases h⟩
theorem Zb(l:List ag)(pN:Int)(hm:pN<=1000):∃b,sc l pN=some b/\(b=true->(l.length:Int)<=pN/\∀o∈l,jQ o.V):=by
 unfold sc
 by_cases hl:(l.length:Int)>pN
 ·rw[if_pos (by simpa using hl)]
  exact⟨false,rfl,fun h=>by cases h⟩
 rw[if_neg (by simpa using hl)]
 have key:∃o:Unit⊕Bool,iter (fun(k2:Int)=>
  if decide (k2<(l.length:Int))then
   aG (0<=k2/\k2<l.length)<|
   aW (kU (ix l k2) 300) fun r4=>
   if !r4 then
    some (.inr (.inr false))
   else
    some (.inl (bj (k2+1)))
  else
   some (.inr (.inl ()))) 0=some o/\((o=.inl ()/\∀o∈l,jQ o.V)\/o=.inr false):=by
  refine nE (fun k=>∃j:Nat,k=(j:Int)/\j<=l.length/\∀i(h:i<j)(h':i<l.length),jQ (l[i]).V) (fun k=>((l.length:Int) -k).toNat) _ ⟨0,rfl,Nat.zero_le _,fun i h=>absurd h (Nat.not_lt_zero i)⟩ (by show((l.length:Int) -0).toNat<_;omega) ?_
  rintro k ⟨j,rfl,hj,hi⟩
  by_cases hjl:j<l.length
  ·obtain⟨b,h1,h2⟩:=HE (ix l (j:Int)) 300
   rw[if_pos (by simpa using hjl),dM ⟨by omega,by omega⟩,h1,a8]
   cases b with
   |false=>exact⟨_,rfl,.inr rfl⟩
   |true=>
    refine⟨_,rfl,?_⟩
    show(∃j':Nat,bj ((j:Int)+1)=(j':Int)/\_)/\_
    rw[aI (by omega) (by omega)]
    refine⟨⟨j+1,by omega,by omega,fun i h h'=>?_⟩,by omega⟩
    rcases Nat.lt_or_ge i j with hij|hij
    ·exact hi i hij h'
    ·have:i=j:=by omega
     subst this
     rw[cQ hjl]at h2
     exact h2 rfl
  ·rw[if_neg (by simpa using hjl)]
   refine⟨_,rfl,.inl ⟨rfl,fun o ho=>?_⟩⟩
   obtain⟨i,h,rfl⟩:=List.getElem_of_mem ho
   exact hi i (by omega) h
 obtain⟨o,h1,h2⟩:=key
 rw[h1]
 rcases h2 with⟨rfl,h2⟩|rfl
 ·exact⟨true,rfl,fun _=>⟨by omega,h2⟩⟩
 ·exact⟨false,rfl,fun h=>by cases h⟩
structure DV where
 B:Nat
 aQ:aH
def DV.v(f:DV):nd:=FK f.B f.aQ
def ay(d:aH)(n:Int):ag:=if(decide (n<1))||(decide (n>(d.ae.length:Int)))then IA else ix d.ae (n -1)
structure k7(d:aH):Prop where
 len:d.ae.length<=1000
 w:∀o∈d.ae,jQ o.V
theorem k7.V2{d:aH}(h:k7 d)(n:Int):jQ (ay d n).V:=by
 unfold ay
 split
 ·exact⟨⟨Nat.zero_le _,fun x hx=>by cases hx⟩,by decide⟩
 ·rename_i hc
  simp at hc
  rw[kK (by omega)]
  exact h.w _ (List.getElem_mem _)
theorem k7.get{d:aH}(h:k7 d)(n:Int):im (ay d n).V:=(h.V2 n).wide
theorem Ls(f:DV)(n:Int)(h:k7 f.aQ):fA f.v n=some (ay f.aQ n,0,0):=by
 have hl:=h.len
 show uP f.aQ n=_
 unfold uP ay
 by_cases hc:((decide (n<1))||(decide (n>(f.aQ.ae.length:Int))))=true
 ·rw[if_pos hc,if_pos hc]
 ·rw[if_neg hc,if_neg hc]
end Go.AB
end
section
set_option linter.unusedSimpArgs false
namespace Go.AB
open Go
def news(d:aH)(g:aa)(k:Nat)(n:Int):List Int:=if k=0 then(match fy (ay d n).V g with|some l=>l|none=>[])else kept (lW (ay d n).V)
def inR(n:Int):Prop:=1<=n/\n<=4096
theorem ZB{l:List Int}{n:Int}(h:n∈kept l):inR n:=by
 unfold kept gone at h
 have:=(List.mem_filter.1 h).2
 simp at this
 exact⟨by omega,by omega⟩
theorem uD{l:List Int}{n m:Int}:m∈dC l n↔m∈l\/m=n:=by
 unfold dC
 cases h:l.contains n with
 |true=>
  simp only[if_true]
  constructor
  ·exact .inl
  ·rintro(h1|rfl)
   ·exact h1
   ·simpa using h
 |false=>simp
theorem OL:∀{xs l:List Int}{m:Int},m∈xs.foldl dC l↔m∈l\/m∈xs
 |[],l,m=>by simp
 |x::xs,l,m=>by rw[List.foldl_cons,OL (xs:=xs),uD,List.mem_cons,or_assoc]
theorem FR:∀{xs l:List Int},l.Nodup->(xs.foldl dC l).Nodup
 |[],_,h=>h
 |x::xs,l,h=>by rw[List.foldl_cons];exact FR (Fk h x)
theorem NQ(l:List Int)(n:Int):l<+:dC l n:=by
 unfold dC
 cases l.contains n with
 |true=>exact List.prefix_refl _
 |false=>exact List.prefix_append ..
theorem C9:∀(xs l:List Int),l<+:xs.foldl dC l
 |[],l=>List.prefix_refl _
 |x::xs,l=>by rw[List.foldl_cons];exact(NQ l x).trans (C9 xs _)
theorem Aj(c:Int):∀l:List Int,(l.filter fun m=>m !=c).length+l.count c=l.length
 |[]=>rfl
 |a::l=>by
  have ih:=Aj c l
  rw[List.filter_cons,List.count_cons]
  by_cases e:a=c
  ·subst e;simp;omega
  ·have e1:(a !=c)=true:=by simpa using e
   have e2:(a==c)=false:=by simpa using e
   rw[e1,e2];simp;omega
theorem Cq:∀(n:Nat)(l:List Int),l.Nodup->(∀m∈l,1<=m/\m<=(n:Int))->l.length<=n
 |0,[],_,_=>by simp
 |0,a::l,_,h=>by have:=h a List.mem_cons_self;omega
 |n+1,l,hn,h=>by
  obtain⟨c,hc⟩:∃c:Int,c=((n+1:Nat):Int):=⟨_,rfl⟩
  have h1:(l.filter fun m=>m !=c).length<=n:=Cq n _ (hn.filter _) fun m hm=>by
   have h2:=List.mem_filter.1 hm
   have h3:=h m h2.1
   have h4:m≠c:=by simpa using h2.2
   omega
  have h2:=Aj c l
  have h3:=List.nodup_iff_count.1 hn c
  omega
def dU(d:aH)(g:aa)(p:Int):Nat->List Int
 |0=>[p]
 |k+1=>if k<(dU d g p k).length then(news d g k ((dU d g p k).getD k 0)).foldl dC (dU d g p k)else dU d g p k
theorem wu(d:aH)(g:aa)(p:Int)(k:Nat):dU d g p k<+:dU d g p (k+1):=by
 rw[dU]
 split
 ·exact C9 ..
 ·exact List.prefix_refl _
theorem Lh(d:aH)(g:aa)(p:Int):∀(j k:Nat),k<=j->dU d g p k<+:dU d g p j
 |0,k,h=>by obtain rfl:k=0:=by omega
            exact List.prefix_refl _
 |j+1,k,h=>by
  by_cases e:k=j+1
  ·subst e;exact List.prefix_refl _
  ·exact(Lh d g p j k (by omega)).trans (wu ..)
theorem zE(d:aH)(g:aa)(p:Int):∀k,(dU d g p k).Nodup
 |0=>by simp[dU]
 |k+1=>by
  rw[dU]
  split
  ·exact FR (zE d g p k)
  ·exact zE d g p k
theorem ZO{d:aH}{g:aa}(hd:k7 d)(hg:im g){k:Nat}{n m:Int}(h:m∈news d g k n):inR m:=by
 unfold news at h
 split at h
 ·obtain⟨v',d1,d2,d3⟩:=drop_eq (hd.get n) (aw.mk [80,97,114,101,110,116])
  have hnd:(kept (lW v')).Nodup:=(nQ 302 v' [] List.nodup_nil).filter _
  obtain⟨l,f1,f2⟩:=VU (hd.get n) hg
  rw[f1]at h
  exact f2 m h
 ·exact ZB h
theorem Nc{d:aH}{g:aa}(hd:k7 d)(hg:im g)(p:Int):∀k,∀m∈dU d g p k,m=p\/inR m
 |0,m,h=>by simp[dU]at h;exact .inl h
 |k+1,m,h=>by
  rw[dU]at h
  split at h
  ·rcases OL.1 h with h|h
   ·exact Nc hd hg p k m h
   ·exact .inr (ZO hd hg h)
  ·exact Nc hd hg p k m h
theorem Bi{d:aH}{g:aa}(hd:k7 d)(hg:im g)(p:Int)(k:Nat):(dU d g p k).length<=4097:=by
 have h:=Lh d g p k 0 (Nat.zero_le _)
 obtain⟨t,ht⟩:=h
 have hn:=zE d g p k
 have hi:=Nc hd hg p k
 rw[<-ht]at hn hi⊢
 have e:dU d g p 0=[p]:=rfl
 rw[e]at hn hi⊢
 rw[List.nodup_append]at hn
 have:t.length<=4096:=Cq 4096 t hn.2.1 fun m hm=>by
  rcases hi m (List.mem_append_right _ hm)with h|h
  ·exact(hn.2.2 p List.mem_cons_self m hm h.symm).elim
  ·exact h
 simp;omega
theorem UJ{d:aH}{g:aa}(hd:k7 d)(hg:im g)(p:Int):∃n,n<=4097/\(dU d g p n).length=n/\∀k,k<n->k<(dU d g p k).length:=by
 apply Classical.byContradiction
 intro hno
 have key:∀n,n<=4098->∀k,k<n->k<(dU d g p k).length:=by
  intro n
  induction n with
  |zero=>intro _ k h;omega
  |succ n ih=>
   intro hn k hk
   by_cases e:k<n
   ·exact ih (by omega) k e
   ·obtain rfl:k=n:=by omega
    apply Classical.byContradiction
    intro hge
    have hle:k<=(dU d g p k).length:=by
     cases k with
     |zero=>omega
     |succ k=>
      have h1:=ih (by omega) k (by omega)
      have h2:=(wu d g p k).length_le
      omega
    exact hno ⟨k,by have:=Bi hd hg p k;omega,by omega,ih (by omega)⟩
 have h1:=key 4098 (Nat.le_refl _) 4097 (by omega)
 have h2:=Bi hd hg p 4097
 omega
def ku(d:aH)(l:List Int):List ag:=l.map (ay d)
theorem ZN{d:aH}{g:aa}(hd:k7 d)(hg:im g)(k:Nat)(n:Int):(news d g k n).length<=2600:=by
 unfold news
 split
 ·obtain⟨l,f1,f2,f3⟩:=OE (hd.get n) hg
  rw[f1];exact f3
 ·have:=nF (lW (ay d n).V)
  have:=na (hd.get n)
  omega
theorem QL(f:DV)(x:aL)(h:k7 f.aQ)(hg:im x.an):∃n,n<=4097/\(dU f.aQ x.an x.eA n).length=n/\(∀k,k<n->k<(dU f.aQ x.an x.eA k).length)/\
 fx f.v x=some (dU f.aQ x.an x.eA n,ku f.aQ (dU f.aQ x.an x.eA n),0,0):=by
 obtain⟨n,h1,h2,h3⟩:=UJ h hg x.eA
 refine⟨n,h1,h2,h3,?_⟩
 obtain⟨m0,p1,p2⟩:=put_eq [] [] [x.eA] (fun k=>rfl) (by unfold room;simp)
 unfold fx
 refine aB p1 ?_
 have b7:∀(r k:Nat),k+r=n->∀m,InL m (dU f.aQ x.an x.eA k)->∃m',yF (fun((yr,o12):(List ag)×bI)=>
  if decide ((yr.length:Int)<(o12.l_.length:Int))then
   aG (0<=(yr.length:Int)/\(yr.length:Int)<o12.l_.length)<|
   aW (fA f.v (ix o12.l_ (yr.length:Int))) fun r22=>
   if r22.2.2 !=0 then
    some (.inr (.inr (([]:List Int),([]:List ag),r22.2.1,r22.2.2,o12)))
   else
    jn (
     if(yr.length:Int)==0 then
      aW (fy r22.1.V x.an) fun r28=>
      aW (cj o12 r28) fun r29=>
      some r29
     else
      aW (fI r22.1.V) fun r30=>
      aW (cj o12 r30) fun r31=>
      some r31) fun(o27:bI)=>
    aG ((yr.length+[r22.1].length)*80<=room)<|
    some (.inl (yr++[r22.1],o27))
  else
   some (.inr (.inl (yr,o12)))) (r+1) (ku f.aQ ((dU f.aQ x.an x.eA k).take k),⟨dU f.aQ x.an x.eA k,m⟩)
  ((.inl (ku f.aQ (dU f.aQ x.an x.eA n),(⟨dU f.aQ x.an x.eA n,m'⟩:bI))):((List ag)×bI)⊕((List Int)×(List ag)×Int×Int×bI)):=by
  intro r
  induction r with
  |zero=>
   intro k hk m _
   obtain rfl:k=n:=by omega
   refine⟨m,.stop ?_⟩
   have e:(dU f.aQ x.an x.eA k).take k=dU f.aQ x.an x.eA k:=List.take_of_length_le (by omega)
   rw[e]
   refine aF ?_ rfl
   simp[ku]
  |succ r ih=>
   intro k hk m hm
   have hkl:=h3 k (by omega)
   have hrl:=Bi h hg x.eA k
   generalize hR:dU f.aQ x.an x.eA k=R at hkl hm hrl
   have hlen:(ku f.aQ (R.take k)).length=k:=by simp[ku];omega
   have hix:ix R (k:Int)=R[k]:=cQ hkl
   have hgd:R.getD k 0=R[k]:=by simp[List.getD_eq_getElem?_getD,hkl]
   have hnl:=ZN h hg k R[k]
   have abp:dU f.aQ x.an x.eA (k+1)=(news f.aQ x.an k R[k]).foldl dC R:=by rw[dU,hR,if_pos hkl,hgd]
   obtain⟨m1,q1,q2⟩:=put_eq m R (news f.aQ x.an k R[k]) hm (by unfold room;omega)
   obtain⟨m',q3⟩:=ih (k+1) (by omega) m1 (by rw[abp];exact q2)
   refine⟨m',.step (t:=(ku f.aQ ((dU f.aQ x.an x.eA (k+1)).take (k+1)),⟨dU f.aQ x.an x.eA (k+1),m1⟩)) ?_ q3⟩
   have ahn:ku f.aQ ((dU f.aQ x.an x.eA (k+1)).take (k+1))=ku f.aQ (R.take k)++[ay f.aQ R[k]]:=by
    have hp:=wu f.aQ x.an x.eA k
    rw[hR]at hp
    obtain⟨t,ht⟩:=hp
    rw[<-ht,List.take_append_of_le_length (by omega),List.take_succ_eq_append_getElem hkl]
    exact List.map_append
   rw[ahn,abp]
   dsimp only
   rw[hlen]
   refine aU (decide_eq_true (by omega)) (az ⟨by omega,by omega⟩ (aB (Ls f _ h) (aF (by simp) ?_)))
   rw[hix]
   refine jT (a:=⟨(news f.aQ x.an k R[k]).foldl dC R,m1⟩) ?_ (az (by unfold room;simp only[List.length_cons,List.length_nil];omega) rfl)
   by_cases hk0:k=0
   ·subst hk0
    obtain⟨l,f1,f2,f3⟩:=OE (h.get R[0]) hg
    have e:news f.aQ x.an 0 R[0]=l:=by unfold news;rw[if_pos rfl,f1]
    rw[e]at q1⊢
    exact aU (by simp) (aB f1 (aB q1 rfl))
   ·have e:news f.aQ x.an k R[k]=kept (lW (ay f.aQ R[k]).V):=by unfold news;rw[if_neg hk0]
    rw[e]at q1⊢
    exact aF (by simp;omega) (aB (sS (h.get _)) (aB q1 rfl))
 obtain⟨m',hr⟩:=b7 n 0 (by omega) m0 p2
 refine fN (z:=(.inl (ku f.aQ (dU f.aQ x.an x.eA n),⟨dU f.aQ x.an x.eA n,m'⟩))) ?_ rfl
 refine fm (z:=(.inl (ku f.aQ (dU f.aQ x.an x.eA n),⟨dU f.aQ x.an x.eA n,m'⟩))) ?_ rfl
 exact hr.iter (by omega)
end Go.AB
end
section
set_option linter.unusedSimpArgs false
namespace Go.AB
open Go
theorem age{v:aa}{n:Nat}(h:W n v):(v.L.length:Int)<=n:=by
 cases n with
 |zero=>exact h.elim
 |succ n=>have:=h.1;omega
def iX(l:List aa):Bool:=l.all fun x=>x.Kind==8
def zt(l:List aa):List Int:=l.map fun x=>x.N
theorem aaV{v:aa}{n:Nat}{key:aw}{r:aa×Bool}(hw:W (n+1) v)(h:bk v key=some r):(r.1.L.length:Int)<=n:=by
 unfold bk at h
 cases hf:bX v key with
 |none=>rw[hf]at h;cases h
 |some i=>
  rw[hf,a8]at h
  split at h
  ·injection h with h;subst h;simp
  ·split at h
   ·injection h with h;subst h;simp
   ·unfold aG at h
    split at h
    ·rename_i hb
     injection h with h;subst h
     show((ix v.L _).L.length:Int)<=n
     rw[kK (by omega)]
     have:=hw.2 _ (List.getElem_mem (l:=v.L) (n:=(bj (i+1)).toNat) (by omega))
     cases n with
     |zero=>exact this.elim
     |succ n=>have:=this.1;omega
    ·cases h
theorem Ia(l:List aa)(k:Nat)(h:k<l.length):zt (l.take (k+1))=zt (l.take k)++[(ix l (k:Int)).N]:=by unfold zt;rw[List.take_add_one,List.map_append,cQ h];simp[h]
theorem J5(l:List aa)(k:Nat)(h:k<l.length):iX (l.take (k+1))=(iX (l.take k)&&((ix l (k:Int)).Kind==8)):=by unfold iX;rw[List.take_add_one,List.all_append,cQ h];simp[h]
theorem NU(l:List aa)(k:Nat)(h:k<l.length)(hk:((ix l (k:Int)).Kind==8)=false):iX l=false:=by
 cases ha:iX l with
 |false=>rfl
 |true=>
  have:=List.all_eq_true.1 ha _ (List.getElem_mem h)
  rw[cQ h]at hk
  rw[hk]at this;cases this
theorem Uq(l:List aa)(n c:Int)(v:aa)(h:(l.length:Int)<=300):
 ∃o:aD⊕aD×Bool,iter (fun((x9,t10):aD×Int)=>
  if decide (t10<(l.length:Int))then
   aG (0<=t10/\t10<l.length)<|
   if((ix l t10).Kind)!=8 then
    some (.inr (.inr (x9,false)))
   else
    aG ((x9.dE.length+[(ix l t10).N].length)*8<=room)<|
    some (.inl ((aD.mk x9.n_ x9.v_ (x9.dE++[(ix l t10).N]) x9.eG),bj (t10+1)))
  else
   some (.inr (.inl x9))) ((aD.mk n v ([]:List Int) c),0)=some o/\((iX l=true/\o=.inl ⟨n,v,zt l,c⟩)\/(iX l=false/\∃x,o=.inr (x,false))):=by
 refine nE (fun s=>∃k:Nat,s.2=(k:Int)/\k<=l.length/\s.1=⟨n,v,zt (l.take k),c⟩/\iX (l.take k)=true) (fun s=>((l.length:Int) -s.2).toNat) _ ⟨0,rfl,Nat.zero_le _,rfl,rfl⟩ (by show((l.length:Int) -0).toNat<_;omega) ?_
 rintro⟨x,t⟩ ⟨k,h1,h2,h3,h4⟩
 simp only at h1 h3
 subst h1 h3
 by_cases hl:k<l.length
 ·have e:decide ((k:Int)<(l.length:Int))=true:=by simp;exact hl
  simp only[e,if_true]
  rw[dM ⟨by omega,by omega⟩]
  cases hk:((ix l (k:Int)).Kind==8)with
  |false=>
   have hk':((ix l (k:Int)).Kind !=8)=true:=by rw[bne,hk];rfl
   simp only[hk',if_true]
   exact⟨_,rfl,.inr ⟨NU l k hl hk,_,rfl⟩⟩
  |true=>
   have hk':((ix l (k:Int)).Kind !=8)=false:=by rw[bne,hk];rfl
   have hn:(zt (l.take k)).length=k:=by unfold zt;simp;omega
   simp only[hk',Bool.false_eq_true,if_false]
   rw[dM (by rw[hn];unfold room;simp;omega)]
   refine⟨_,rfl,?_⟩
   rw[aI (by omega) (by omega)]
   exact⟨⟨k+1,by show(k:Int)+1=_;omega,hl,by rw[Ia l k hl],by rw[J5 l k hl,h4,hk];rfl⟩,by show((l.length:Int) -((k:Int)+1)).toNat<((l.length:Int) -(k:Int)).toNat;omega⟩
 ·have e:decide ((k:Int)<(l.length:Int))=false:=by simp;omega
  simp only[e,Bool.false_eq_true,if_false]
  have hk:l.take k=l:=List.take_of_length_le (by omega)
  rw[hk]at h4⊢
  exact⟨_,rfl,.inl ⟨h4,rfl⟩⟩
end Go.AB
end
section
set_option linter.unusedSimpArgs false
namespace Go.AB
open Go
abbrev zeroV:aa:=aa.mk 0 0 (aw.mk []) ([]:List aa)
def jS:List (aw×aa)->List aa
 |[]=>[]
 |p::G=>⟨5,0,p.1,[]⟩::p.2::jS G
theorem np:∀G:List (aw×aa),(jS G).length=2*G.length
 |[]=>rfl
 |p::G=>by rw[jS,List.length_cons,List.length_cons,np G,List.length_cons];omega
theorem Oq:∀(G:List (aw×aa))(i:Nat)(h:i<G.length),(jS G).getD (2*i) zeroV=⟨5,0,(G[i]).1,[]⟩
 |p::G,0,_=>rfl
 |p::G,i+1,h=>by
  show(⟨5,0,p.1,[]⟩::p.2::jS G).getD (2*i+1+1) zeroV=_
  rw[List.getD_cons_succ,List.getD_cons_succ]
  exact Oq G i (by simpa using h)
theorem WD{G:List (aw×aa)}{i:Nat}(h:i<G.length):ix (jS G) (((2*i:Nat)):Int)=⟨5,0,(G[i]).1,[]⟩:=Oq G i h
def xw(G:List (aw×aa))(p:aw->Bool):Option Nat:=G.findIdx? fun x=>p x.1
theorem Lw{G:List (aw×aa)}{p:aw->Bool}{i:Nat}(h:xw G p=some i):i<G.length:=by
 unfold xw at h
 obtain⟨h,_⟩:=List.findIdx?_eq_some_iff_getElem.1 h
 exact h
theorem G9{O:Type}(G:List (aw×aa))(p:aw->Bool)(hl:G.length<=1000)(a:Nat->O)(b:O)(body:Int->Option (Int⊕O))
 (hb:∀i(h:i<G.length),body ((2*i:Nat):Int)=some (if p (G[i]).1 then .inr (a i)else .inl (bj (((2*i:Nat):Int)+2))))(he:body ((2*G.length:Nat):Int)=some (.inr b)):
 iter body 0=some (match xw G p with|some i=>a i|none=>b):=by
 cases hx:xw G p with
 |none=>
  unfold xw at hx
  rw[List.findIdx?_eq_none_iff]at hx
  refine kJ G.length (fun k=>((2*k:Nat):Int)) rfl (by omega) (fun k hk=>?_) he
  rw[hb k hk,hx _ (List.getElem_mem hk),if_neg (by simp),aI (by omega) (by omega)]
  congr 2
 |some i=>
  unfold xw at hx
  obtain⟨h1,h2,h3⟩:=List.findIdx?_eq_some_iff_getElem.1 hx
  refine kJ i (fun k=>((2*k:Nat):Int)) rfl (by omega) (fun k hk=>?_) ?_
  ·rw[hb k (by omega),if_neg (by simpa using h3 k hk),aI (by omega) (by omega)]
   congr 2
  ·rw[hb i h1,if_pos h2]
def iO(G:List (aw×aa)):aa:=⟨7,0,⟨[]⟩,jS G⟩
theorem Ks(G:List (aw×aa))(key:aw)(hl:G.length<=1000):bX (iO G) key=some (match xw G (fun k=>k.b==key.b)with|some i=>((2*i:Nat):Int)|none=>-1):=by
 unfold bX
 rw[if_neg (by simp[iO])]
 have hlen:(iO G).L.length=2*G.length:=np G
 rw[G9 (O:=Unit⊕Int) G (fun k=>k.b==key.b) hl (fun i=>.inr ((2*i:Nat):Int)) (.inl ()) _ ?_ ?_]
 ·cases xw G (fun k=>k.b==key.b)<;>rfl
 ·intro i h
  have hk:ix (iO G).L ((2*i:Nat):Int)=⟨5,0,(G[i]).1,[]⟩:=WD h
  have hc:decide (((2*i:Nat):Int)<((iO G).L.length:Int))=true:=by rw[hlen];simp;omega
  simp only[hc,if_true]
  rw[dM (by rw[hlen];omega),dM (fun _=>by rw[hlen];omega),hk]
  cases h5:((G[i]).1.b==key.b)<;>simp[h5]
 ·have hc:decide (((2*G.length:Nat):Int)<((iO G).L.length:Int))=false:=by rw[hlen];simp
  simp only[hc,Bool.false_eq_true,if_false]
theorem RT(G:List (aw×aa))(key:aw)(hl:G.length<=1000):nW (iO G) key=some (match xw G (fun k=>!((Op.bytesLess k.b key.b)||(k.b==key.b)))with|some i=>((2*i:Nat):Int)|none=>((2*G.length:Nat):Int)):=by
 unfold nW
 have hlen:(iO G).L.length=2*G.length:=np G
 rw[G9 (O:=Int) G (fun k=>!((Op.bytesLess k.b key.b)||(k.b==key.b))) hl (fun i=>((2*i:Nat):Int)) ((2*G.length:Nat):Int) _ ?_ ?_]
 ·intro i h
  have hk:ix (iO G).L ((2*i:Nat):Int)=⟨5,0,(G[i]).1,[]⟩:=WD h
  have hc:decide (((2*i:Nat):Int)<((iO G).L.length:Int))=true:=by rw[hlen];simp;omega
  simp only[hc,if_true]
  rw[dM (by rw[hlen];omega),dM (fun _=>by rw[hlen];omega),hk]
  cases h5:(!((Op.bytesLess (G[i]).1.b key.b)||((G[i]).1.b==key.b)))<;>simp[h5]
 ·have hc:decide (((2*G.length:Nat):Int)<((iO G).L.length:Int))=false:=by rw[hlen];simp
  rw[if_neg (by rw[hc];simp),hlen]
end Go.AB
end
section
set_option linter.unusedSimpArgs false
namespace Go.AB
open Go
def kC:aw:=aw.mk [67,114,111,112,66,111,120]
def kM:aw:=aw.mk [77,101,100,105,97,66,111,120]
def kR:aw:=aw.mk [82,101,115,111,117,114,99,101,115]
def kT:aw:=aw.mk [82,111,116,97,116,101]
structure Gv where
 c:Option aa
 m:Option aa
 r:Option aa
 t:Option aa
def Cs(k:aw):Option aa->List (aw×aa)
 |none=>[]
 |some x=>[(k,x)]
def Gv.L(g:Gv):List (aw×aa):=Cs kC g.c++(Cs kM g.m++(Cs kR g.r++Cs kT g.t))
def Gv.v(g:Gv):aa:=iO g.L
theorem Gv.len(g:Gv):g.L.length<=4:=by
 obtain⟨c,m,r,t⟩:=g
 cases c<;>cases m<;>cases r<;>cases t<;>simp[Gv.L,Cs]
theorem M9:100000<=room:=by decide
theorem MR(g:Gv)(key:aw)(x y:aa)(h:(match xw g.L (fun k=>k.b==key.b)with
 |some i=>⟨7,0,⟨[]⟩,(jS g.L).take (2*i+1)++[x]++(jS g.L).drop (2*i+2)⟩
 |none=>⟨7,0,⟨[]⟩,(jS g.L).take (match xw g.L (fun k=>!((Op.bytesLess k.b key.b)||(k.b==key.b)))with|some i=>2*i|none=>2*g.L.length)++[⟨5,0,key,[]⟩,x]++(jS g.L).drop (match xw g.L (fun k=>!((Op.bytesLess k.b key.b)||(k.b==key.b)))with|some i=>2*i|none=>2*g.L.length)⟩)=y):eJ g.v key x=some y:=by
 have hl:=g.len
 have cJ:=M9
 have hlen:g.v.L.length=2*g.L.length:=np g.L
 subst h
 unfold eJ
 rw[if_neg (by simp[Gv.v,iO]),dM (by rw[hlen];omega),show g.v=iO g.L from rfl,Ks _ _ (by omega),RT _ _ (by omega),a8,a8]
 have oe:(iO g.L).L.length=2*g.L.length:=np g.L
 cases h1:xw g.L (fun k=>k.b==key.b)with
 |some i=>
  have hi:=Lw h1
  have h0:decide (((2*i:Nat):Int)>=0)=true:=by simp;omega
  simp only[h0,if_true]
  rw[dM (by rw[oe];omega)]
  simp only[Int.toNat_natCast]
  rfl
 |none=>
  simp only[show decide ((-1:Int)>=0)=false by decide,Bool.false_eq_true,if_false]
  cases h2:xw g.L (fun k=>!((Op.bytesLess k.b key.b)||(k.b==key.b)))with
  |some i=>
   have hi:=Lw h2
   simp only
   rw[dM (by rw[oe];omega)]
   simp only[Int.toNat_natCast]
   rfl
  |none=>
   simp only
   rw[dM (by rw[oe];omega)]
   simp only[Int.toNat_natCast]
   rfl
theorem ah9(g:Gv)(x:aa):eJ g.v kC x=some {g with c:=some x}.v:=by
 refine MR g kC x _ ?_
 obtain⟨c,m,r,t⟩:=g
 cases c<;>cases m<;>cases r<;>cases t<;>rfl
theorem aia(g:Gv)(x:aa):eJ g.v kM x=some {g with m:=some x}.v:=by
 refine MR g kM x _ ?_
 obtain⟨c,m,r,t⟩:=g
 cases c<;>cases m<;>cases r<;>cases t<;>rfl
theorem aib(g:Gv)(x:aa):eJ g.v kR x=some {g with r:=some x}.v:=by
 refine MR g kR x _ ?_
 obtain⟨c,m,r,t⟩:=g
 cases c<;>cases m<;>cases r<;>cases t<;>rfl
theorem aic(g:Gv)(x:aa):eJ g.v kT x=some {g with t:=some x}.v:=by
 refine MR g kT x _ ?_
 obtain⟨c,m,r,t⟩:=g
 cases c<;>cases m<;>cases r<;>cases t<;>rfl
theorem EV(g:Gv)(key:aw)(y:aa)(h:(match xw g.L (fun k=>k.b==key.b)with
 |some i=>⟨7,0,⟨[]⟩,(jS g.L).take (2*i)++(jS g.L).drop (2*i+2)⟩
 |none=>iO g.L)=y):bS g.v key=some y:=by
 have hl:=g.len
 have cJ:=M9
 subst h
 unfold bS
 rw[show g.v=iO g.L from rfl,Ks _ _ (by omega),a8]
 have oe:(iO g.L).L.length=2*g.L.length:=np g.L
 cases h1:xw g.L (fun k=>k.b==key.b)with
 |some i=>
  have hi:=Lw h1
  have h0:decide (((2*i:Nat):Int)<0)=false:=by simp;omega
  simp only[h0,Bool.false_eq_true,if_false]
  rw[dM (by rw[oe];omega),oe]
  have:min (2*i+2) (2*g.L.length)=2*i+2:=by omega
  simp only[Int.toNat_natCast,this]
  rfl
 |none=>simp only[show decide ((-1:Int)<0)=true by decide,if_true]
theorem acI(g:Gv):bS g.v kC=some {g with c:=none}.v:=by
 refine EV g kC _ ?_
 obtain⟨c,m,r,t⟩:=g
 cases c<;>cases m<;>cases r<;>cases t<;>rfl
theorem acJ(g:Gv):bS g.v kM=some {g with m:=none}.v:=by
 refine EV g kM _ ?_
 obtain⟨c,m,r,t⟩:=g
 cases c<;>cases m<;>cases r<;>cases t<;>rfl
theorem acK(g:Gv):bS g.v kR=some {g with r:=none}.v:=by
 refine EV g kR _ ?_
 obtain⟨c,m,r,t⟩:=g
 cases c<;>cases m<;>cases r<;>cases t<;>rfl
theorem acL(g:Gv):bS g.v kT=some {g with t:=none}.v:=by
 refine EV g kT _ ?_
 obtain⟨c,m,r,t⟩:=g
 cases c<;>cases m<;>cases r<;>cases t<;>rfl
def cP(v:aa)(key:aw):aa×Bool:=(bk v key).getD (zeroV,false)
def Small(v:aa):Prop:=(v.L.length:Int)<=4611686018427387904
theorem Small.ZS{n:Nat}{v:aa}(h:W n v)(hn:n<=1000):Small v:=by
 have:=age h
 unfold Small;omega
theorem get_eq{v:aa}(h:Small v)(key:aw):bk v key=some (cP v key):=by
 obtain⟨r,hr⟩:=Ih v key h
 unfold cP;rw[hr];rfl
def Hh(o:Option aa)(r:aa×Bool):Option aa:=if r.2 then some r.1 else o
def rS(o:Option aa)(r:aa×Bool):Option aa:=if r.2 then none else o
def Gv.iU(g:Gv)(v:aa):Gv:=⟨Hh g.c (cP v kC),Hh g.m (cP v kM),Hh g.r (cP v kR),Hh g.t (cP v kT)⟩
def Gv.leave(g:Gv)(v:aa):Gv:=⟨rS g.c (cP v kC),rS g.m (cP v kM),rS g.r (cP v kR),rS g.t (cP v kT)⟩
def xK(g:Gv)(v:aa):Nat->Gv
 |0=>g
 |1=>{g with r:=Hh g.r (cP v kR)}
 |2=>{g with r:=Hh g.r (cP v kR),m:=Hh g.m (cP v kM)}
 |3=>{g with r:=Hh g.r (cP v kR),m:=Hh g.m (cP v kM),c:=Hh g.c (cP v kC)}
 |_=>g.iU v
def qM(g:Gv)(v:aa):Nat->Gv
 |0=>g
 |1=>{g with r:=rS g.r (cP v kR)}
 |2=>{g with r:=rS g.r (cP v kR),m:=rS g.m (cP v kM)}
 |3=>{g with r:=rS g.r (cP v kR),m:=rS g.m (cP v kM),c:=rS g.c (cP v kC)}
 |_=>g.leave v
def rR:Nat->aw
 |0=>kR
 |1=>kM
 |2=>kC
 |_=>kT
theorem E0{k:Nat}(h:k<4):ix [kR,kM,kC,kT] (k:Int)=rR k:=by rcases(by omega:k=0\/k=1\/k=2\/k=3)with rfl|rfl|rfl|rfl<;>rfl
theorem T9{g:Gv}{v:aa}{k:Nat}(h:k<4)(hp:(cP v (rR k)).2=true):eJ (xK g v k).v (rR k) (cP v (rR k)).1=some (xK g v (k+1)).v:=by
 rcases(by omega:k=0\/k=1\/k=2\/k=3)with rfl|rfl|rfl|rfl
 ·simp only[rR]at hp⊢;rw[aib];simp only[xK,Hh,hp,if_true]
 ·simp only[rR]at hp⊢;rw[aia];simp only[xK,Hh,hp,if_true]
 ·simp only[rR]at hp⊢;rw[ah9];simp only[xK,Hh,hp,if_true]
 ·simp only[rR]at hp⊢;rw[aic];simp only[xK,Gv.iU,Hh,hp,if_true]
theorem V3{g:Gv}{v:aa}{k:Nat}(h:k<4)(hp:(cP v (rR k)).2=false):xK g v (k+1)=xK g v k:=by rcases(by omega:k=0\/k=1\/k=2\/k=3)with rfl|rfl|rfl|rfl<;>simp only[rR]at hp<;>simp only[xK,Gv.iU,Hh,hp,Bool.false_eq_true,if_false]
theorem Rs{g:Gv}{v:aa}{k:Nat}(h:k<4)(hp:(cP v (rR k)).2=true):bS (qM g v k).v (rR k)=some (qM g v (k+1)).v:=by
 rcases(by omega:k=0\/k=1\/k=2\/k=3)with rfl|rfl|rfl|rfl
 ·simp only[rR]at hp⊢;rw[acK];simp only[qM,rS,hp,if_true]
 ·simp only[rR]at hp⊢;rw[acJ];simp only[qM,rS,hp,if_true]
 ·simp only[rR]at hp⊢;rw[acI];simp only[qM,rS,hp,if_true]
 ·simp only[rR]at hp⊢;rw[acL];simp only[qM,Gv.leave,rS,hp,if_true]
theorem Um{g:Gv}{v:aa}{k:Nat}(h:k<4)(hp:(cP v (rR k)).2=false):qM g v (k+1)=qM g v k:=by rcases(by omega:k=0\/k=1\/k=2\/k=3)with rfl|rfl|rfl|rfl<;>simp only[rR]at hp<;>simp only[qM,Gv.leave,rS,hp,Bool.false_eq_true,if_false]
theorem LY(g:Gv)(v:aa)(h:Small v):kY g.v v=some (g.iU v).v:=by
 unfold kY dY
 rw[a8]
 refine jT (jd (o:=(g.iU v).v) 4 (fun k=>(xK g v k).v) rfl (by decide) (fun k hk=>?_) ?_) rfl
 ·refine aU (by show decide ((k:Int)<((4:Nat):Int))=true;simp;omega) (jT (az (by show 0<=(k:Int)/\(k:Int)<((4:Nat):Int);omega) ?_) rfl)
  change aW (bk v (ix [kR,kM,kC,kT] (k:Int))) _=_
  rw[E0 hk,get_eq h,a8]
  cases hp:(cP v (rR k)).2 with
  |true=>
   refine aU rfl ?_
   change aW (eJ _ (ix [kR,kM,kC,kT] (k:Int)) _) _=_
   rw[E0 hk,T9 hk hp,a8]
  |false=>
   refine aF (by simp) ?_
   rw[V3 hk hp]
 ·exact aF (by decide) rfl
theorem ZC(n:Int)(RH:aa)(path:List Int)(g:Gv)(h:Small RH):kZ n RH path g.v=some ⟨n,path,(g.leave RH).v⟩:=by
 unfold kZ dY
 rw[a8]
 refine jT (jd (o:=(g.leave RH).v) 4 (fun k=>(qM g RH k).v) rfl (by decide) (fun k hk=>?_) ?_) rfl
 ·refine aU (by show decide ((k:Int)<((4:Nat):Int))=true;simp;omega) (jT (az (by show 0<=(k:Int)/\(k:Int)<((4:Nat):Int);omega) ?_) rfl)
  change aW (bk RH (ix [kR,kM,kC,kT] (k:Int))) _=_
  rw[E0 hk,get_eq h,a8]
  cases hp:(cP RH (rR k)).2 with
  |true=>
   refine aU rfl ?_
   change aW (bS _ (ix [kR,kM,kC,kT] (k:Int))) _=_
   rw[E0 hk,Rs hk hp,a8]
  |false=>
   refine aF (by simp) ?_
   rw[Um hk hp]
 ·exact aF (by decide) rfl
theorem QT:cZ ([]:List aa)=some (Gv.v ⟨none,none,none,none⟩):=by
 unfold cZ
 rfl
end Go.AB
end
section
set_option linter.unusedSimpArgs false
namespace Go.AB
open Go
theorem k7.Zc{d:aH}(h:k7 d)(n:Int):W 300 (ay d n).V:=(h.V2 n).1
theorem k7.small{d:aH}(h:k7 d)(n:Int):Small (ay d n).V:=Small.ZS (h.Zc n) (by decide)
def nZ:aw:=aw.mk [80,97,103,101,115]
def KP:aw:=aw.mk [80,97,103,101]
def A2:aw:=aw.mk [75,105,100,115]
def sM:aw:=aw.mk [67,111,117,110,116]
def A3:aw:=aw.mk [84,121,112,101]
def GP:aw:=aw.mk [67,97,116,97,108,111,103]
def lP(o:ag)(name:aw):Bool:=(!o.Stream&&((cP o.V A3).1.Kind==5))&&((cP o.V A3).1.S.b==name.b)
theorem NF{o:ag}(h:Small o.V)(name:aw):dZ o name=some (lP o name):=by
 unfold dZ
 rw[get_eq h,a8];rfl
def kL(o:ag):aa:=(cP o.V A2).1
def c7(o:ag):Int:=(cP o.V sM).1.N
def df(o:ag):List Int:=zt (kL o).L
def jt(o:ag):Bool:=((!lP o nZ||((kL o).Kind !=6))||(((kL o).L.length:Int)==0))||((cP o.V sM).1.Kind !=2)
def isNode(o:ag):Bool:=!jt o&&(iX (kL o).L&&(decide (c7 o>=((kL o).L.length:Int))&&decide (c7 o<=2048)))
def nodeAt(n:Int)(o:ag):aD:=⟨n,o.V,df o,c7 o⟩
theorem Cd(o:ag):(df o).length=(kL o).L.length:=by unfold df zt;simp
theorem AY{o:ag}(h:isNode o=true):0<(df o).length/\((df o).length:Int)<=c7 o/\c7 o<=2048:=by
 unfold isNode jt at h
 simp at h
 obtain⟨⟨⟨⟨_,_⟩,h1⟩,_⟩,_,h2,h3⟩:=h
 rw[Cd]
 have:(kL o).L.length≠0:=fun e=>h1 (List.eq_nil_of_length_eq_zero e)
 exact⟨by omega,h2,h3⟩
theorem K4(n:Int)(o:ag)(hw:W 300 o.V):∃x,eT n o=some (x,isNode o)/\(isNode o=true->x=nodeAt n o):=by
 have hs:=Small.ZS hw (by decide)
 have hL:((cP o.V A2).1.L.length:Int)<=299:=aaV (n:=299) hw (get_eq hs A2)
 obtain⟨x,hx,ag1⟩:=Uq (cP o.V A2).1.L n 0 o.V (by omega)
 unfold eT
 rw[show bk o.V (aw.mk [75,105,100,115])=_ from get_eq hs A2,show bk o.V (aw.mk [67,111,117,110,116])=_ from get_eq hs sM,show dZ o (aw.mk [80,97,103,101,115])=_ from NF hs nZ]
 simp only[a8]
 by_cases hb:jt o=true
 ·have hn:isNode o=false:=by unfold isNode;rw[hb];rfl
  refine⟨⟨n,o.V,[],0⟩,?_,fun h=>by rw[hn]at h;cases h⟩
  rw[hn];exact aU hb rfl
 ·have hb':jt o=false:=by simpa using hb
  rcases ag1 with⟨ha,rfl⟩|⟨ha,z,rfl⟩
  ·refine⟨nodeAt n o,aF hb ?_,fun _=>rfl⟩
   rw[hx]
   have hn:isNode o=(decide (c7 o>=((kL o).L.length:Int))&&decide (c7 o<=2048)):=by
    unfold isNode
    rw[hb',show iX (kL o).L=true from ha];rfl
   rw[hn,<-Cd]
   rfl
  ·have hn:isNode o=false:=by
    unfold isNode
    rw[show iX (kL o).L=false from ha];simp
   refine⟨z,aF hb ?_,fun h=>by rw[hn]at h;cases h⟩
   rw[hx,hn]
   rfl
def YB:aD:=aD.mk 0 (aa.mk 0 0 (aw.mk []) ([]:List aa)) ([]:List Int) 0
theorem Vi(f:DV)(n:Int)(h:k7 f.aQ):jr f.v n=some (if isNode (ay f.aQ n)then(nodeAt n (ay f.aQ n),0,0)else(YB,0,24)):=by
 obtain⟨x,h1,h2⟩:=K4 n (ay f.aQ n) (h.Zc n)
 unfold jr
 rw[Ls f n h,a8]
 refine aF (by simp) ?_
 rw[h1,a8]
 cases hi:isNode (ay f.aQ n)with
 |true=>rw[h2 hi];rfl
 |false=>rfl
def pick(d:aH):List Int->Int->Option (Int×Int)
 |[],_=>none
 |m::l,p=>if isNode (ay d m)=true then(if p<c7 (ay d m)then some (m,p)else pick d l (p -c7 (ay d m)))else none
abbrev jY:aL:=aL.mk 0 ([]:List Int) (aa.mk 0 0 (aw.mk []) ([]:List aa))
def lU(d:aH):Nat->Int->Int->List Int->Gv->aL×Int
 |0,_,_,_,_=>(jY,24)
 |k+1,n,p,path,g=>
  if c7 (ay d n)=((df (ay d n)).length:Int)then
   if lP (ay d (ix (df (ay d n)) p)) KP=true then
    (⟨ix (df (ay d n)) p,path++[n],((g.iU (ay d n).V).leave (ay d (ix (df (ay d n)) p)).V).v⟩,0)
   else if isNode (ay d (ix (df (ay d n)) p))=true/\c7 (ay d (ix (df (ay d n)) p))=1 then
    lU d k (ix (df (ay d n)) p) 0 (path++[n]) (g.iU (ay d n).V)
   else(jY,24)
  else match pick d (df (ay d n)) p with
   |none=>(jY,24)
   |some (m,q)=>lU d k m q (path++[n]) (g.iU (ay d n).V)
theorem xh{d:aH}:∀{l:List Int}{p m q:Int},0<=p->pick d l p=some (m,q)->m∈l/\isNode (ay d m)=true/\0<=q/\q<c7 (ay d m)
 |[],_,_,_,_,h=>by cases h
 |a::l,p,m,q,h0,h=>by
  unfold pick at h
  split at h
  ·rename_i hn
   split at h
   ·rename_i hp
    injection h with h;injection h with h1 h2
    subst h1;subst h2
    exact⟨List.mem_cons_self,hn,h0,hp⟩
   ·obtain⟨h1,h2⟩:=xh (by omega) h
    exact⟨List.mem_cons_of_mem _ h1,h2⟩
  ·cases h
end Go.AB
end
section
set_option linter.unusedSimpArgs false
namespace Go.AB
open Go
def Ho(f_0:nd)(kids:List Int):Int×Int->Option ((Int×Int)⊕((Int×aD)⊕(Unit⊕(Int×Int)))):=
 (fun((p49,t50):Int×Int)=>
   if decide (t50<(kids.length:Int))then
    aG (0<=t50/\t50<kids.length)<|
    aW (jr f_0 (ix kids t50)) fun r64=>
    if r64.2.2 !=0 then
     some (.inr (.inr (.inr (r64.2.1,r64.2.2))))
    else
     if decide (p49<r64.1.eG)then
      some (.inr (.inl (p49,r64.1)))
     else
      some (.inl (bj (p49 -r64.1.eG),bj (t50+1)))
   else
    some (.inr (.inr (.inl ()))))
def py(f_0:nd):Int×aD×(List Int)×aa×Int->Option ((Int×aD×(List Int)×aa×Int)⊕(Unit⊕(aL×Int×Int))):=
 (fun((p9,x10,MO,Ze,t13):Int×aD×(List Int)×aa×Int)=>
   if decide (t13<64)then
    yp (
     aG ((MO.length+[x10.n_].length)*8<=room)<|
     aW (kY Ze x10.v_) fun r31=>
     if x10.eG==(x10.dE.length:Int)then
      aG (0<=p9/\p9<x10.dE.length)<|
      aW (fA f_0 (ix x10.dE p9)) fun r32=>
      if r32.2.2 !=0 then
       some (.inr ((aL.mk 0 ([]:List Int) (aa.mk 0 0 (aw.mk []) ([]:List aa))),r32.2.1,r32.2.2))
      else
       aW (kX r32.1) fun r33=>
       if r33 then
        aW (kZ (ix x10.dE p9) r32.1.V (MO++[x10.n_]) r31) fun r34=>
        some (.inr (r34,(0:Int),(0:Int)))
       else
        aW (eT (ix x10.dE p9) r32.1) fun r35=>
        if !r35.2||(r35.1.eG !=1)then
         some (.inr ((aL.mk 0 ([]:List Int) (aa.mk 0 0 (aw.mk []) ([]:List aa))),(0:Int),(24:Int)))
        else
         some (.inl ((0:Int),r35.1,MO++[x10.n_],r31))
     else
      yp (
       jG (
        iter (Ho f_0 x10.dE) (p9,0)) (fun((p51,x53):Int×aD)=>
        some (.inr (.inl (p51,x53))))
       (lA (fun(_:Unit)=>some (.inl ())) (fun((t61,t62):Int×Int)=>some (.inr (.inr (t61,t62)))))) (fun(_:Unit)=>
       some (.inr ((aL.mk 0 ([]:List Int) (aa.mk 0 0 (aw.mk []) ([]:List aa))),(0:Int),(24:Int))))
      (lA (fun((p38,x40):Int×aD)=>some (.inl (p38,x40,MO++[x10.n_],r31))) (fun((t46,t47):Int×Int)=>some (.inr ((aL.mk 0 ([]:List Int) (aa.mk 0 0 (aw.mk []) ([]:List aa))),t46,t47))))) (fun((p20,x22,Hm,Ap):Int×aD×(List Int)×aa)=>
     some (.inl (p20,x22,Hm,Ap,bj (t13+1))))
    (fun((t27,t28,t29):aL×Int×Int)=>some (.inr (.inr (t27,t28,t29))))
   else
    some (.inr (.inl ())))
def Z8(d:aH):Option (Int×Int)->(Int×aD)⊕(Unit⊕(Int×Int))->Prop
 |some (m,q),o=>o=.inl (q,nodeAt m (ay d m))
 |none,o=>o=.inr (.inl ())\/o=.inr (.inr (0,24))
theorem Uw(f:DV)(h:k7 f.aQ)(kids:List Int)(hk:kids.length<=1000):∀(r j:Nat)(p:Int),j+r=kids.length->0<=p->p<=4611686018427387904->
 ∃o,yF (Ho f.v kids) (r+1) (p,(j:Int)) o/\Z8 f.aQ (pick f.aQ (kids.drop j) p) o:=by
 intro r
 induction r with
 |zero=>
  intro j p hj h0 h1
  refine⟨.inr (.inl ()),.stop ?_,?_⟩
  ·exact aF (by simp;omega) rfl
  ·rw[List.drop_eq_nil_of_le (by omega)];exact .inl rfl
 |succ r ih=>
  intro j p hj h0 h1
  have hjl:j<kids.length:=by omega
  have hd:kids.drop j=kids[j]::kids.drop (j+1):=List.drop_eq_getElem_cons hjl
  have hx:ix kids (j:Int)=kids[j]:=cQ hjl
  have step:∀o,(aW (jr f.v (ix kids (j:Int))) fun r64=>
   if r64.2.2 !=0 then some (.inr (.inr (.inr (r64.2.1,r64.2.2))))
   else if decide (p<r64.1.eG)then some (.inr (.inl (p,r64.1)))
    else some (.inl (bj (p -r64.1.eG),bj ((j:Int)+1))))=o->Ho f.v kids (p,(j:Int))=o:=fun o ho=>
   aU (by simp;omega) (az ⟨by omega,by omega⟩ ho)
  rw[hx,Vi f _ h,a8]at step
  rw[hd]
  unfold pick
  cases hi:isNode (ay f.aQ kids[j])with
  |false=>
   rw[hi]at step
   refine⟨.inr (.inr (0,24)),yF.stop (step _ rfl),.inr rfl⟩
  |true=>
   rw[hi]at step
   have hf:=AY hi
   simp only[if_true]at step⊢
   by_cases hp:p<c7 (ay f.aQ kids[j])
   ·rw[if_pos hp]
    refine⟨.inl (p,nodeAt kids[j] (ay f.aQ kids[j])),yF.stop (step _ ?_),rfl⟩
    exact aF (by simp) (aU (decide_eq_true hp) rfl)
   ·rw[if_neg hp]
    obtain⟨o,h2,h3⟩:=ih (j+1) (p -c7 (ay f.aQ kids[j])) (by omega) (by omega) (by omega)
    refine⟨o,.step (step _ ?_) h2,h3⟩
    refine aF (by simp) (aF (fun hc=>hp (of_decide_eq_true hc)) ?_)
    show some (Sum.inl (bj (p -c7 (ay f.aQ kids[j])),bj ((j:Int)+1)))=_
    rw[aI (by omega) (by omega),aI (by omega) (by omega)]
    rfl
theorem VP(f_0:nd)(p_1:Int):jD f_0 p_1=(aW (nV f_0) fun r1=>
 if r1.2.2 !=0 then
  some ((aL.mk 0 ([]:List Int) (aa.mk 0 0 (aw.mk []) ([]:List aa))),r1.2.1,r1.2.2)
 else
  if(decide (p_1<0))||(decide (p_1>=r1.1.eG))then
   some ((aL.mk 0 ([]:List Int) (aa.mk 0 0 (aw.mk []) ([]:List aa))),0,25)
  else
   aW (cZ ([]:List aa)) fun r2=>
   yp (
    jG (iter (py f_0) (p_1,r1.1,([]:List Int),r2,0)) (fun(_:Unit)=>some (.inl ()))
    (fun((t16,t17,t18):aL×Int×Int)=>some (.inr (t16,t17,t18)))) (fun(_:Unit)=>
    some ((aL.mk 0 ([]:List Int) (aa.mk 0 0 (aw.mk []) ([]:List aa))),0,24))
   (fun((t5,t6,t7):aL×Int×Int)=>some (t5,t6,t7))):=rfl
def acP:Unit⊕(aL×Int×Int)->aL×Int×Int
 |.inl ()=>(jY,0,24)
 |.inr x=>x
theorem WI{o:ag}(hw:W 300 o.V):(df o).length<=299:=by
 have hL:((cP o.V A2).1.L.length:Int)<=299:=aaV (n:=299) hw (get_eq (Small.ZS hw (by decide)) A2)
 rw[Cd]
 unfold kL;omega
theorem Tf{o:ag}(h:Small o.V):kX o=some (lP o KP):=by
 unfold kX
 rw[show dZ o (aw.mk [80,97,103,101])=_ from NF h KP];rfl
theorem TT(f:DV)(h:k7 f.aQ):∀(k t:Nat)(n p:Int)(path:List Int)(g:Gv),t+k=64->path.length=t->isNode (ay f.aQ n)=true->0<=p->p<c7 (ay f.aQ n)->
 ∃o,yF (py f.v) (k+1) (p,nodeAt n (ay f.aQ n),path,g.v,(t:Int)) o/\acP o=((lU f.aQ k n p path g).1,0,(lU f.aQ k n p path g).2):=by
 intro k
 induction k with
 |zero=>
  intro t n p path g ht hpl hi h0 h1
  exact⟨.inl (),.stop (aF (by simp;omega) rfl),rfl⟩
 |succ k ih=>
  intro t n p path g ht hpl hi h0 h1
  have hs:=h.small n
  have hf:=AY hi
  have cJ:=M9
  have hgo:∀{n' p':Int}{o},py f.v (p,nodeAt n (ay f.aQ n),path,g.v,(t:Int))=some (.inl (p',nodeAt n' (ay f.aQ n'),path++[n],(g.iU (ay f.aQ n).V).v,bj ((t:Int)+1)))->
   isNode (ay f.aQ n')=true->0<=p'->p'<c7 (ay f.aQ n')->(lU f.aQ k n' p' (path++[n]) (g.iU (ay f.aQ n).V))=o->
   ∃o',yF (py f.v) (k+1+1) (p,nodeAt n (ay f.aQ n),path,g.v,(t:Int)) o'/\acP o'=(o.1,0,o.2):=by
   intro n' p' o e1 e2 e3 e4 e5
   obtain⟨o',k1,k2⟩:=ih (t+1) n' p' (path++[n]) (g.iU (ay f.aQ n).V) (by omega) (by simp;omega) e2 e3 e4
   refine⟨o',.step (t:=(p',nodeAt n' (ay f.aQ n'),path++[n],(g.iU (ay f.aQ n).V).v,((t+1:Nat):Int))) ?_ k1,by rw[k2,e5]⟩
   rw[e1,aI (by omega) (by omega)];rfl
  unfold lU
  by_cases hc:c7 (ay f.aQ n)=((df (ay f.aQ n)).length:Int)
  ·rw[if_pos hc]
   have hm:=h.small (ix (df (ay f.aQ n)) p)
   generalize hmm:ix (df (ay f.aQ n)) p=m at*
   have hx:fA f.v (ix (nodeAt n (ay f.aQ n)).dE p)=some (ay f.aQ m,0,0):=by rw[show ix (nodeAt n (ay f.aQ n)).dE p=m from hmm];exact Ls f m h
   by_cases hp:lP (ay f.aQ m) KP=true
   ·rw[if_pos hp]
    refine⟨.inr (⟨m,path++[n],((g.iU (ay f.aQ n).V).leave (ay f.aQ m).V).v⟩,0,0),.stop ?_,rfl⟩
    refine aU (by simp;omega) ?_
    refine fN (az (by simp;omega) (aB (LY g _ hs) (aU (by simp[nodeAt,hc]) (az (by show 0<=p/\p<((df (ay f.aQ n)).length:Int);omega) (aB hx (aF (by simp) (aB (Tf hm) (aU hp (aB (by rw[show ix (nodeAt n (ay f.aQ n)).dE p=m from hmm];exact ZC _ _ _ _ hm) rfl))))))))) rfl
   ·rw[if_neg hp]
    obtain⟨x,e1,e2⟩:=K4 m (ay f.aQ m) (h.Zc m)
    have e1':eT (ix (nodeAt n (ay f.aQ n)).dE p) (ay f.aQ m)=some (x,isNode (ay f.aQ m)):=by rw[show ix (nodeAt n (ay f.aQ n)).dE p=m from hmm];exact e1
    have go:∀{z:(Int×aD×(List Int)×aa)⊕(aL×Int×Int)}{r},(if !(isNode (ay f.aQ m))||(x.eG !=1)then some (.inr (jY,(0:Int),(24:Int)))else some (.inl ((0:Int),x,path++[n],(g.iU (ay f.aQ n).V).v)))=some z->
     (match z with|.inl (p20,x22,Hm,Ap)=>some (.inl (p20,x22,Hm,Ap,bj ((t:Int)+1)))|.inr (t27,t28,t29)=>some (.inr (.inr (t27,t28,t29))))=r->py f.v (p,nodeAt n (ay f.aQ n),path,g.v,(t:Int))=r:=by
     intro z r hz hr
     refine aU (by simp;omega) (fN (z:=z) (az (by simp;omega) (aB (LY g _ hs) (aU (by simp[nodeAt,hc]) (az (by show 0<=p/\p<((df (ay f.aQ n)).length:Int);omega) (aB hx (aF (by simp) (aB (Tf hm) (aF hp (aB e1' hz))))))))) ?_)
     rw[<-hr]
     cases z<;>rfl
    by_cases hq:isNode (ay f.aQ m)=true/\c7 (ay f.aQ m)=1
    ·rw[if_pos hq]
     have hxx:=e2 hq.1
     subst hxx
     exact hgo (go (aF (by simp[hq.1,nodeAt,hq.2]) rfl) rfl) hq.1 (Int.le_refl 0) (by rw[hq.2];decide) rfl
    ·rw[if_neg hq]
     refine⟨.inr (jY,0,24),.stop (go (z:=.inr (jY,0,24)) (aU ?_ rfl) rfl),rfl⟩
     cases hm1:isNode (ay f.aQ m)with
     |false=>rfl
     |true=>
      have:=e2 hm1
      subst this
      have hne:c7 (ay f.aQ m)≠1:=fun e=>hq ⟨hm1,e⟩
      simpa[nodeAt]using hne
  ·rw[if_neg hc]
   obtain⟨o,k1,k2⟩:=Uw f h (df (ay f.aQ n)) (by have:=WI (h.Zc n);omega) (df (ay f.aQ n)).length 0 p (by omega) h0 (by omega)
   rw[List.drop_zero]at k2
   have k3:=k1.iter (by omega)
   have go:∀{z:(Int×aD×(List Int)×aa)⊕(aL×Int×Int)}{r},
    (yp (jG (some o) (fun((p51,x53):Int×aD)=>some (.inr (.inl (p51,x53)))) (lA (fun(_:Unit)=>some (.inl ())) (fun((t61,t62):Int×Int)=>some (.inr (.inr (t61,t62)))))) (fun(_:Unit)=>some (.inr (jY,(0:Int),(24:Int))))
      (lA (fun((p38,x40):Int×aD)=>some (.inl (p38,x40,path++[n],(g.iU (ay f.aQ n).V).v))) (fun((t46,t47):Int×Int)=>some (.inr (jY,t46,t47)))))=some z->
    (match z with|.inl (p20,x22,Hm,Ap)=>some (.inl (p20,x22,Hm,Ap,bj ((t:Int)+1)))|.inr (t27,t28,t29)=>some (.inr (.inr (t27,t28,t29))))=r->py f.v (p,nodeAt n (ay f.aQ n),path,g.v,(t:Int))=r:=by
    intro z r hz hr
    refine aU (by simp;omega) (fN (z:=z) (az (by simp;omega) (aB (LY g _ hs) (aF (by simpa[nodeAt]using hc) ?_))) ?_)
    ·rw[<-hz,<-k3];rfl
    ·rw[<-hr]
     cases z<;>rfl
   cases hpk:pick f.aQ (df (ay f.aQ n)) p with
   |none=>
    rw[hpk]at k2
    refine⟨.inr (jY,0,24),.stop (go (z:=.inr (jY,0,24)) ?_ rfl),rfl⟩
    rcases k2 with rfl|rfl<;>rfl
   |some mq=>
    obtain⟨m,q⟩:=mq
    obtain⟨_,p2,p3,p4⟩:=xh h0 hpk
    rw[hpk]at k2
    have k2':o=.inl (q,nodeAt m (ay f.aQ m)):=k2
    subst k2'
    exact hgo (go (z:=.inl (q,nodeAt m (ay f.aQ m),path++[n],(g.iU (ay f.aQ n).V).v)) rfl rfl) p2 p3 p4 rfl
def isRoot(o:ag):Bool:=lP o GP&&((cP o.V nZ).1.Kind==8)
def oc(f:DV):Int:=(cP (ay f.aQ f.aQ.cM).V nZ).1.N
theorem aeA(f:DV)(h:k7 f.aQ):nV f.v=some (if isRoot (ay f.aQ f.aQ.cM)then(if isNode (ay f.aQ (oc f))then(nodeAt (oc f) (ay f.aQ (oc f)),0,0)else(YB,0,24))else(YB,0,23)):=by
 have hs:=h.small f.aQ.cM
 unfold nV
 rw[show sq f.v=some f.aQ.cM from rfl,a8,Ls f _ h,a8]
 refine aF (by simp) ?_
 have hr:mR (ay f.aQ f.aQ.cM)=some (if isRoot (ay f.aQ f.aQ.cM)then(oc f,true)else(0,false)):=by
  unfold mR
  rw[show bk (ay f.aQ f.aQ.cM).V (aw.mk [80,97,103,101,115])=_ from get_eq hs nZ,show dZ (ay f.aQ f.aQ.cM) (aw.mk [67,97,116,97,108,111,103])=_ from NF hs GP]
  simp only[a8]
  unfold isRoot
  cases lP (ay f.aQ f.aQ.cM) GP<;>cases hk:((cP (ay f.aQ f.aQ.cM).V nZ).1.Kind==8)<;>simp[bne,hk,oc]
 rw[hr,a8]
 cases isRoot (ay f.aQ f.aQ.cM)with
 |false=>rfl
 |true=>
  simp only[if_true,Bool.not_true,Bool.false_eq_true,if_false]
  rw[Vi f _ h,a8]
def kQ(f:DV)(p:Int):aL×Int:=
 if isRoot (ay f.aQ f.aQ.cM)=true then
  if isNode (ay f.aQ (oc f))=true then
   if 0<=p/\p<c7 (ay f.aQ (oc f))then lU f.aQ 64 (oc f) p [] ⟨none,none,none,none⟩else(jY,25)
  else(jY,24)
 else(jY,23)
theorem find_eq(f:DV)(p:Int)(h:k7 f.aQ):jD f.v p=some ((kQ f p).1,0,(kQ f p).2):=by
 rw[VP,aeA f h,a8]
 unfold kQ
 cases isRoot (ay f.aQ f.aQ.cM)with
 |false=>rfl
 |true=>
  cases hn:isNode (ay f.aQ (oc f))with
  |false=>rfl
  |true=>
   simp only[if_true]
   refine aF (by simp) ?_
   by_cases hp:0<=p/\p<c7 (ay f.aQ (oc f))
   ·rw[if_pos hp]
    refine aF (by simp[nodeAt];omega) (aB QT ?_)
    obtain⟨o,k1,k2⟩:=TT f h 64 0 (oc f) p [] ⟨none,none,none,none⟩ rfl rfl hn hp.1 hp.2
    have k3:=k1.iter (by decide)
    rw[<-k2]
    have e:∀(o:Unit⊕(aL×Int×Int)),(yp (jG (some o) (fun(_:Unit)=>some (.inl ())) (fun((t16,t17,t18):aL×Int×Int)=>some (.inr (t16,t17,t18)))) (fun(_:Unit)=>some ((aL.mk 0 ([]:List Int) (aa.mk 0 0 (aw.mk []) ([]:List aa))),0,24)) (fun((t5,t6,t7):aL×Int×Int)=>some (t5,t6,t7)))=some (acP o):=fun o=>by cases o<;>rfl
    rw[show iter (py f.v) (p,nodeAt (oc f) (ay f.aQ (oc f)),([]:List Int),Gv.v ⟨none,none,none,none⟩,0)=some o from k3]
    rw[e,k2]
   ·rw[if_neg hp]
    exact aU (by simp[nodeAt];omega) rfl
end Go.AB
end
section
set_option linter.unusedSimpArgs false
namespace Go.AB
open Go
def Va(d:aH):List Int->Int->Prop
 |[],_=>False
 |[a],m=>m∈df (ay d a)
 |a::b::l,m=>b∈df (ay d a)/\Va d (b::l) m
def qg(d:aH)(g:Gv)(way:List Int):Gv:=way.foldl (fun g a=>g.iU (ay d a).V) g
theorem WE{l:List Int}{p:Int}(h0:0<=p)(h1:p<(l.length:Int)):ix l p∈l:=by rw[kK (by omega)];exact List.getElem_mem _
theorem Hn{d:aH}:∀(k:Nat)(n p:Int)(path:List Int)(g:Gv),0<=p->p<c7 (ay d n)->
 ((lU d k n p path g).2≠0/\(lU d k n p path g).1=jY)\/
 ∃way m,(n::way).length<=k/\Va d (n::way) m/\lU d k n p path g=(⟨m,path++(n::way),((qg d g (n::way)).leave (ay d m).V).v⟩,0)
 |0,_,_,_,_,_,_=>.inl ⟨by simp[lU],rfl⟩
 |k+1,n,p,path,g,h0,h1=>by
  unfold lU
  by_cases hc:c7 (ay d n)=((df (ay d n)).length:Int)
  ·rw[if_pos hc]
   by_cases hp:lP (ay d (ix (df (ay d n)) p)) KP=true
   ·rw[if_pos hp]
    exact .inr ⟨[],_,by simp,WE h0 (by omega),rfl⟩
   ·rw[if_neg hp]
    by_cases hq:isNode (ay d (ix (df (ay d n)) p))=true/\c7 (ay d (ix (df (ay d n)) p))=1
    ·rw[if_pos hq]
     rcases Hn k (ix (df (ay d n)) p) 0 (path++[n]) (g.iU (ay d n).V) (Int.le_refl 0) (by rw[hq.2];decide)with h|⟨way,m,e1,e2,e3⟩
     ·exact .inl h
     ·refine .inr ⟨ix (df (ay d n)) p::way,m,by simp at e1⊢;omega,⟨WE h0 (by omega),e2⟩,?_⟩
      rw[e3]
      simp[qg]
    ·rw[if_neg hq]
     exact .inl ⟨by decide,rfl⟩
  ·rw[if_neg hc]
   cases hpk:pick d (df (ay d n)) p with
   |none=>exact .inl ⟨by simp,rfl⟩
   |some mq=>
    obtain⟨m0,q⟩:=mq
    obtain⟨p1,p2,p3,p4⟩:=xh h0 hpk
    rcases Hn k m0 q (path++[n]) (g.iU (ay d n).V) p3 p4 with h|⟨way,m,e1,e2,e3⟩
    ·exact .inl h
    ·refine .inr ⟨m0::way,m,by simp at e1⊢;omega,⟨p1,e2⟩,?_⟩
     show lU d k m0 q (path++[n]) (g.iU (ay d n).V)=_
     rw[e3]
     simp[qg]
def Cf(d:aH)(key:aw)(o:Option aa)(way:List Int):Option aa:=way.foldl (fun o a=>Hh o (cP (ay d a).V key)) o
theorem Kx(d:aH):∀(way:List Int)(g:Gv),(qg d g way).c=Cf d kC g.c way/\(qg d g way).m=Cf d kM g.m way/\(qg d g way).r=Cf d kR g.r way/\(qg d g way).t=Cf d kT g.t way
 |[],_=>⟨rfl,rfl,rfl,rfl⟩
 |a::way,g=>Kx d way (g.iU (ay d a).V)
theorem S4{F:Gv}{v:aa}{x:aw×aa}(h:x∈(F.leave v).L):(cP v x.1).2=false/\((x.1=kC/\F.c=some x.2)\/(x.1=kM/\F.m=some x.2)\/(x.1=kR/\F.r=some x.2)\/(x.1=kT/\F.t=some x.2)):=by
 have one:∀{k:aw}{o:Option aa},x∈Cs k (rS o (cP v k))->(cP v x.1).2=false/\x.1=k/\o=some x.2:=by
  intro k o hx
  unfold rS at hx
  split at hx
  ·cases hx
  ·rename_i hp
   cases o with
   |none=>cases hx
   |some y=>
    have:x=(k,y):=by simpa[Cs]using hx
    subst this
    exact⟨by simpa using hp,rfl,rfl⟩
 unfold Gv.L Gv.leave at h
 simp only[List.mem_append]at h
 rcases h with h|h|h|h
 ·obtain⟨a,b,c⟩:=one h;exact⟨a,.inl ⟨b,c⟩⟩
 ·obtain⟨a,b,c⟩:=one h;exact⟨a,.inr (.inl ⟨b,c⟩)⟩
 ·obtain⟨a,b,c⟩:=one h;exact⟨a,.inr (.inr (.inl ⟨b,c⟩))⟩
 ·obtain⟨a,b,c⟩:=one h;exact⟨a,.inr (.inr (.inr ⟨b,c⟩))⟩
theorem Zf{d:aH}{way:List Int}{v:aa}{x:aw×aa}(h:x∈((qg d ⟨none,none,none,none⟩ way).leave v).L):(cP v x.1).2=false/\Cf d x.1 none way=some x.2:=by
 obtain⟨h1,h2⟩:=S4 h
 obtain⟨c,m,r,t⟩:=Kx d way ⟨none,none,none,none⟩
 refine⟨h1,?_⟩
 rcases h2 with⟨e,h2⟩|⟨e,h2⟩|⟨e,h2⟩|⟨e,h2⟩<;>rw[e]
 ·rw[<-c];exact h2
 ·rw[<-m];exact h2
 ·rw[<-r];exact h2
 ·rw[<-t];exact h2
def abz(d:aH)(key:aw)(l:aa)(way:List Int):aa:=way.foldl (fun l a=>if(cP (ay d a).V key).2 then(cP (ay d a).V key).1 else l) l
theorem Pa(d:aH)(key:aw):∀(way:List Int)(o:Option aa)(l x:aa),(∀y,o=some y->l=y)->Cf d key o way=some x->abz d key l way=x
 |[],o,l,x,h,e=>h x e
 |a::way,o,l,x,h,e=>by
  refine Pa d key way (Hh o (cP (ay d a).V key)) _ x (fun y hy=>?_) e
  show(if(cP (ay d a).V key).2 then(cP (ay d a).V key).1 else l)=y
  unfold Hh at hy
  cases hp:(cP (ay d a).V key).2 with
  |true=>
   rw[hp]at hy
   simp only[if_true]at hy⊢
   injection hy
  |false=>
   rw[hp]at hy
   simp only[Bool.false_eq_true,if_false]at hy⊢
   exact h y hy
end Go.AB
end
section
set_option linter.unusedSimpArgs false
namespace Go.AB
open Go
theorem px:∀(A B:List (aw×aa)),jS (A++B)=jS A++jS B
 |[],_=>rfl
 |a::A,B=>by show _::_::jS (A++B)=_;rw[px A B];rfl
end Go.AB
end
section
set_option linter.unusedSimpArgs false
namespace Go.AB
open Go
end Go.AB
end
section
set_option linter.unusedSimpArgs false
namespace Go.AB
open Go
end Go.AB
end
