/- A part of the proof: Val3. -/
import Derived.Test.YtkeagffgdajggaaGreatNu13
import Derived.Test.YtkeagffgdajggaaGreatNu18
set_option linter.unusedSimpArgs false
set_option linter.unusedVariables false
section
namespace Go.AB
open Go
open Go.Proofs.Tryz (prog)
attribute[-go_sem] Nat.add_zero nr bV
def AS:IC:=
 (af [i1 3 (.dc 4 (.t 0)),i1 5 (.dc 4 (.t 2)),i1 6 (.aq iA)] [1,3,5,6]
 (.seq (af [fa 10 0 3,ld 11 1 10,bn 12 .neq 11 7] [1,3,5,6,12]
 (.cond (.t 12) (af [lm 13 4 3,st 4 6 13] [6]
 .ret)
 .skip))
 (af [fa 14 3 3,ld 15 1 14,c1 16 112 15,fa 17 3 3,st 1 17 16] [1,3,5,6]
 (.seq (af [lm 18 4 3,mv 19 1,c2 20 77 18 19,mv 7 20] [1,3,5,6,7]
 (af [mv 21 7,bn 22 .geq 21 0] [1,3,5,6,7,22]
 (.cond (.t 22) (af [fa 23 3 3,ld 24 1 23,mv 25 7,bn 26 .add 25 1,mv 27 7,bn 28 .add 27 2,fa 29 3 3,ld 30 1 29,le 31 0 30,i1 32 (.fP false [(.t 28),(.t 31)]),lm 33 4 5,i1 34 (.bq 4 1 iA [(0,4,(.t 33))]),UG 35 188 24 26 32 34,fa 36 3 3,st 1 36 35] [3,6]
 (af [lm 37 4 3,st 4 6 37] [6]
 .ret))
 .skip)))
 (af [fa 38 3 3,ld 39 1 38,le 40 0 39,mv 8 40] [1,3,5,6,8]
 (.seq (af [mi 9 0] [1,3,5,6,8,9]
 (.block 0 (.loop [(1,false),(3,false),(5,false),(6,false),(8,false),(9,false)] (.seq (af [mv 41 9,fa 42 3 3,ld 43 1 42,le 44 0 43,bt 45 .lss 41 44] [1,3,5,6,8,9,45]
 (.cond (.t 45) .skip
 (.exit 0)))
 (.seq (.block 1 (af [fa 48 3 3,ld 49 1 48,mv 50 9,ia 51 qT 49 50,fa 52 0 51,ld 53 1 52,bn 54 .eql 53 5,mv 55 54,fg 56 55 true 3 3,lg 57 55 true 1 56,dh 58 9 55 true,dq 59 55 true (.indexAddr qT (.t 57) (.t 58)),fg 60 55 true 2 59,lg 61 55 true 1 60,dh 62 1 55 true,sY 63 55 true .gtr 61 62,pf 64 55 63] [1,3,5,6,8,9,64]
 (.cond (.t 64) (af [mv 65 9,mv 8 65] [1,3,5,6,8]
 (.exit 0))
 .skip)))
 (.bN none [mv 46 9,bn 47 .add 46 2,mv 9 47] [1,3,5,6,8,9]))))))
 (.seq (.bN (some 7) [fa 66 3 3,ld 67 1 66,mv 68 8,mv 69 1,c1 70 84 69,lm 71 4 5,i1 72 (.bq 4 2 [.int .i64 0,.int .i64 0,.str [],.sl true 4 0 [],.int .i64 0,.int .i64 0,.str [],.sl true 4 0 []] [(0,4,(.t 70)),(4,4,(.t 71))]),c3 73 189 67 68 72,fa 74 3 3,st 1 74 73] [3,6])
 (af [lm 75 4 3,st 4 6 75] [6]
 .ret))))))))
theorem Mt:aE prog 140 76 [⟨6,false,some (4,true)⟩] AS=true:=by kernel_rfl
def nW(v:aa)(key:aw):Option Int:=
 iter (fun(i:Int)=>
  if decide (i<(v.L.length:Int))then
   aG (0<=i/\i<v.L.length)<|
   aG ((((ix v.L i).Kind)==5)=true->0<=i/\i<v.L.length)<|
   if(((ix v.L i).Kind)==5)&&!((Op.bytesLess ((ix v.L i).S).b key.b)||(((ix v.L i).S).b==key.b))then some (.inr i)
   else some (.inl (bj (i+2)))
  else some (.inr (v.L.length:Int))) 0
def eJ(v:aa)(key:aw)(x:aa):Option aa:=
 if v.Kind !=7 then some v else
 aG (v.L.length*56<=room)<|
 aW (bX v key) fun i=>
 if decide (i>=0)then
  aG (0<=i/\i<v.L.length/\(v.L.length+1)*56<=room)<|
  some ⟨v.Kind,v.N,v.S,v.L.take (i.toNat+1)++[x]++v.L.drop (i.toNat+2)⟩
 else
  aW (nW v key) fun k=>
  aG (0<=k/\k<=v.L.length/\(v.L.length+2)*56<=room)<|
  some ⟨v.Kind,v.N,v.S,v.L.take k.toNat++[⟨5,0,key,[]⟩,x]++v.L.drop k.toNat⟩
theorem X0{l:List aa}{sp:List AV}{s:ab}{b:Nat}(hs:s b=some (.cells (flat l++sp))){i:Int}(h0:0<=i)(hi:i<l.length)(c m:Nat)(hc:c+m<=4):wh m (i.toNat*4+c) (s b)=some (views (AB.sub (aK.cells (ix l i)) c m)):=by
 have hj:i.toNat<l.length:=by omega
 have hlen:(flat l).length=l.length*4:=al l
 have e0:=gA l sp 4 i.toNat 1 rfl (by omega)
 have e1:(l.drop i.toNat).take 1=[ix l i]:=by rw[kK hj,List.drop_eq_getElem_cons hj];rfl
 rw[e1,Nat.one_mul]at e0
 have e2:flat [ix l i]=aK.cells (ix l i):=by unfold flat;simp
 rw[e2]at e0
 rw[hs]
 show gy m _ _=_
 unfold gy
 have hle:i.toNat*4+c+m<=(flat l++sp).length:=by rw[List.length_append,hlen];omega
 rw[<-e0]
 unfold AB.sub
 rw[decide_eq_true hle]
 rw[List.drop_take,List.drop_drop,List.take_take,Nat.min_eq_left (by omega)]
 rfl
theorem Av{o:Bool}{b cap i m:Nat}{l l2:List aa}{s s0:ab}{Q:List AV->ab->Prop}(hm:l2.length=m)(eI:Kg s b l cap)(eD:Sub s0 (Rest s b cap))(hi:i<=l.length)(h2:l2≠[])(hr:(l.length+m)*56<=room)
 (hq:Q [.sl true 4 (l.length+m) (flat (l.take i++l2++l.drop i))] s0):FN prog 189 [.arr b 0 l.length cap,.int .i64 i,.sl o 4 m (flat l2)] s Q:=by
 subst hm;exact Dc eI eD hi h2 hr hq
theorem NH{v x:aa}{key:aw}{s:ab}{Q:List AV->ab->Prop}(h:ok (eJ v key x) fun r=>Q [.agg [.int .i64 r.Kind,.int .i64 r.N,.str r.S.b,.sl false 4 r.L.length (flat r.L)]] s):
 FN prog 140 [.agg [.int .i64 v.Kind,.int .i64 v.N,.str v.S.b,.sl false 4 v.L.length (flat v.L)],.str key.b,.agg [.int .i64 x.Kind,.int .i64 x.N,.str x.S.b,.sl false 4 x.L.length (flat x.L)]] s Q:=by
 obtain⟨vk,vn,vs,vl⟩:=v
 refine FO Mt rfl rfl ?_
 unfold eJ at h
 rw[Hc]at h
 rw[AS]
 simp -implicitDefEqProofs only[go_sem,seval]
 refine⟨fun hk=>by have h1:=h.1 hk;rw[aA]at h1;exact h1,fun hk=>?_⟩
 replace h:=h.2 hk
 rw[dB,dF]at h
 obtain⟨hr,i,hfi,h⟩:=h
 replace hr:vl.length*56<=room:=hr
 refine QK hr fun b cap s1 eI eD=>?_
 simp -implicitDefEqProofs only[go_sem,seval]
 refine VS eI hfi ?_
 rw[Hc,dB,aA,dF]at h
 simp -implicitDefEqProofs only[go_sem,seval]
 refine⟨fun hi=>?_,fun hi=>?_⟩
 ·obtain⟨⟨h1,h2,h3⟩,hq⟩:=h.1 hi
  obtain⟨j,rfl⟩:∃j:Nat,i=(j:Int):=⟨i.toNat,by omega⟩
  replace h2:j<vl.length:=by have:(j:Int)<vl.length:=h2;omega
  replace h3:(vl.length+1)*56<=room:=h3
  unfold room at hr h3
  replace hq:Q [.agg [.int .i64 vk,.int .i64 vn,.str vs.b,.sl false 4 (vl.take (j+1)++[x]++vl.drop (j+2)).length (flat (vl.take (j+1)++[x]++vl.drop (j+2)))]] s:=hq
  have hw1:bj ((j:Int)+1)=((j+1:Nat):Int):=by rw[aI (by omega) (by omega)];omega
  have hw2:bj ((j:Int)+2)=((j+2:Nat):Int):=by rw[aI (by omega) (by omega)];omega
  have hx:[AV.int .i64 x.Kind,.int .i64 x.N,.str x.S.b,.sl false 4 x.L.length (flat x.L)]=flat [x]:=by simp only[go_sem]
  generalize hxs:[x]=xs at hq hx
  have hx1:xs.length=1:=by subst hxs;rfl
  simp -implicitDefEqProofs only[go_sem,seval,hw1,hw2,hx]
  clear h
  by_cases hj:j+1=vl.length
  ·rw[show min ((j+2:Nat):Int) (vl.length:Int)=((j+1:Nat):Int) by omega]
   refine M7 eI eD hj hx1 h3 ?_
   have e:vl.take (j+1)++xs++vl.drop (j+2)=vl++xs:=by rw[hj,List.take_length,List.drop_of_length_le (by omega),List.append_nil]
   have el:(vl++xs).length=vl.length+1:=by rw[List.length_append,hx1]
   rw[e,el]at hq
   generalize vl++xs=L at hq
   simp -implicitDefEqProofs only[go_sem,seval]
   exact hq
  ·rw[show min ((j+2:Nat):Int) (vl.length:Int)=((j+1+1:Nat):Int) by omega]
   refine M8 (i:=j+1) eI eD (by omega) (by omega) hx1 ?_
   have el:(vl.take (j+1)++xs++vl.drop (j+2)).length=vl.length:=by simp only[List.length_append,List.length_take,List.length_drop,hx1];omega
   rw[el]at hq
   show N8 _ _ _ [.sl true 4 vl.length (flat (vl.take (j+1)++xs++vl.drop (j+2)))] s
   generalize vl.take (j+1)++xs++vl.drop (j+2)=L at hq
   simp -implicitDefEqProofs only[go_sem,seval]
   exact hq
 ·obtain⟨k,hk2,hn⟩:=h.2 hi
  rw[dB,aA]at hn
  obtain⟨⟨h1,h2,h3⟩,hq⟩:=hn
  clear h
  obtain⟨k,rfl⟩:∃k':Nat,k=(k':Int):=⟨k.toNat,by omega⟩
  replace h2:k<=vl.length:=by have:(k:Int)<=vl.length:=h2;omega
  replace h3:(vl.length+2)*56<=room:=h3
  replace hq:Q [.agg [.int .i64 vk,.int .i64 vn,.str vs.b,.sl false 4 (vl.take k++[⟨5,0,key,[]⟩,x]++vl.drop k).length (flat (vl.take k++[⟨5,0,key,[]⟩,x]++vl.drop k))]] s:=hq
  have hx:[AV.int .i64 5,.int .i64 0,.str key.b,.sl false 4 0 [],AV.int .i64 x.Kind,.int .i64 x.N,.str x.S.b,.sl false 4 x.L.length (flat x.L)]=flat [⟨5,0,key,[]⟩,x]:=by simp only[go_sem]
  generalize hxs:[(⟨5,0,key,[]⟩:aa),x]=xs at hq hx
  have hx1:xs.length=2:=by subst hxs;rfl
  have el:(vl.take k++xs++vl.drop k).length=vl.length+2:=by simp only[List.length_append,List.length_take,List.length_drop,hx1];omega
  rw[el]at hq
  have key:ok (nW ⟨vk,vn,vs,vl⟩ key) (fun a=>a=(k:Int)):=⟨_,hk2,rfl⟩
  revert key
  unfold nW
  refine bF (fun i=>⟨[(1,.str key.b),(3,.loc [.int .i64 vk,.int .i64 vn,.str vs.b,.arr b 0 vl.length cap]),(5,.loc [.int .i64 x.Kind,.int .i64 x.N,.str x.S.b,.sl false 4 x.L.length (flat x.L)]),(6,.loc [.int .i64 0,.int .i64 0,.str [],.sl true 4 0 []]),(8,.int .i64 vl.length),(9,.int .i64 i)],[],s1⟩) rfl ?_
  intro J i hb
  simp only[Hc,dB,aA,gU,mU]at hb
  simp -implicitDefEqProofs only[go_sem,seval]
  refine⟨fun hlt=>?_,fun hge=>?_⟩
  ·replace hb:=hb.1 hlt
   obtain⟨⟨b1,b2⟩,_,b4,b5⟩:=hb
   obtain⟨sp,hs⟩:∃sp,s1 b=some (.cells (flat vl++sp)):=by
    rcases eI with⟨_,_,sp,h,_⟩|⟨h,_⟩
    ·exact⟨sp,h⟩
    ·subst h;simp at b2;omega
   have r0:=X0 hs b1 b2 0 1 (by decide)
   have r2:=X0 hs b1 b2 2 1 (by decide)
   refine⟨⟨b1,b2⟩,?_⟩
   simp -implicitDefEqProofs only[go_sem,seval,r0,r2]
   refine⟨fun _=>⟨b1,b2⟩,fun hc=>?_,b5⟩
   obtain rfl:=b4 hc
   refine⟨[.agg [.int .i64 5,.int .i64 0,.str key.b,.sl false 4 0 []]],rfl,b8 (r:=⟨5,0,key,[]⟩) rfl,?_⟩
   simp -implicitDefEqProofs only[go_sem,seval,hx,List.append_nil]
   refine⟨by rw[al,hx1];rfl,?_⟩
   refine Av hx1 eI eD h2 (by intro e;subst e;simp at hx1) h3 ?_
   generalize vl.take k++xs++vl.drop k=L at hq
   simp -implicitDefEqProofs only[go_sem,seval]
   exact hq
  ·replace hb:=hb.2 hge
   rw[hb]
   refine⟨[.agg [.int .i64 5,.int .i64 0,.str key.b,.sl false 4 0 []]],rfl,b8 (r:=⟨5,0,key,[]⟩) rfl,?_⟩
   simp -implicitDefEqProofs only[go_sem,seval,hx,List.append_nil]
   refine⟨by rw[al,hx1];rfl,?_⟩
   refine Av hx1 eI eD h2 (by intro e;subst e;simp at hx1) h3 ?_
   generalize vl.take k++xs++vl.drop k=L at hq
   simp -implicitDefEqProofs only[go_sem,seval]
   exact hq
theorem Bt{v_0 x_2:aa}{gH:aw}{s:ab}{r:aa}(h:eJ v_0 gH x_2=some r):FE prog 140 [.agg [.int .i64 v_0.Kind,.int .i64 v_0.N,.str v_0.S.b,.sl false 4 v_0.L.length (flat v_0.L)],.str gH.b,.agg [.int .i64 x_2.Kind,.int .i64 x_2.N,.str x_2.S.b,.sl false 4 x_2.L.length (flat x_2.L)]] s [.agg [.int .i64 r.Kind,.int .i64 r.N,.str r.S.b,.sl false 4 r.L.length (flat r.L)]] s:=NH ⟨r,h,rfl,rfl⟩
def yj:IC:=
 (af [i1 2 (.dc 4 (.t 0)),i1 4 (.aq iA)] [1,2,4]
 (af [lm 6 4 2,mv 7 1,c2 8 77 6 7,mv 5 8] [2,4,5]
 (.seq (af [mv 9 5,bn 10 .lss 9 0] [2,4,5,10]
 (.cond (.t 10) (af [lm 11 4 2,st 4 4 11] [4]
 .ret)
 .skip))
 (.seq (.bN (some 10) [fa 12 3 2,ld 13 1 12,c1 14 112 13,mv 15 5,mv 16 5,bn 17 .add 16 2,fa 18 3 2,ld 19 1 18,le 20 0 19,i1 21 (.fP false [(.t 17),(.t 20)]),i1 22 (.uI 111 14 [(.t 14),(.t 15),(.t 21)]),fa 23 3 2,st 1 23 22] [2,4])
 (af [lm 24 4 2,st 4 4 24] [4]
 .ret)))))
theorem Js:aE prog 53 25 [⟨4,false,some (4,true)⟩] yj=true:=by kernel_rfl
def bS(v:aa)(key:aw):Option aa:=
 aW (bX v key) fun i=>
 if decide (i<0)then some v else
 aG (0<=i/\i<v.L.length/\v.L.length*56<=room)<|
 some ⟨v.Kind,v.N,v.S,v.L.take i.toNat++v.L.drop (min (i.toNat+2) v.L.length)⟩
theorem J7{v:aa}{key:aw}{s:ab}{Q:List AV->ab->Prop}(h:ok (bS v key) fun r=>Q [.agg [.int .i64 r.Kind,.int .i64 r.N,.str r.S.b,.sl false 4 r.L.length (flat r.L)]] s):
 FN prog 53 [.agg [.int .i64 v.Kind,.int .i64 v.N,.str v.S.b,.sl false 4 v.L.length (flat v.L)],.str key.b] s Q:=by
 obtain⟨vk,vn,vs,vl⟩:=v
 refine FO Js rfl rfl ?_
 unfold bS at h
 rw[dF]at h
 obtain⟨i,hfi,h⟩:=h
 rw[Hc,dB,aA,aA]at h
 rw[yj]
 simp -implicitDefEqProofs only[go_sem,seval]
 refine FE.app (nb hfi) ?_
 simp -implicitDefEqProofs only[go_sem,seval]
 refine⟨fun hi=>h.1 hi,fun hi=>?_⟩
 obtain⟨⟨h1,h2,h3⟩,hq⟩:=h.2 hi
 obtain⟨j,rfl⟩:∃j:Nat,i=(j:Int):=⟨i.toNat,by omega⟩
 replace h2:j<vl.length:=by have:(j:Int)<vl.length:=h2;omega
 replace h3:vl.length*56<=room:=h3
 replace hq:Q [.agg [.int .i64 vk,.int .i64 vn,.str vs.b,.sl false 4 (vl.take j++vl.drop (min (j+2) vl.length)).length (flat (vl.take j++vl.drop (min (j+2) vl.length)))]] s:=hq
 have hw2:bj ((j:Int)+2)=((j+2:Nat):Int):=by unfold room at h3;rw[aI (by omega) (by omega)];omega
 refine⟨_,rfl,TQ h3,?_⟩
 simp -implicitDefEqProofs only[go_sem,seval,hw2]
 refine⟨fun b cap sp hb h0 hn hl hfl hvw=>?_,fun h0=>by omega⟩
 simp -implicitDefEqProofs only[go_sem,seval]
 generalize hm:min (j+2) vl.length=m at hq
 rw[show min ((j+2:Nat):Int) (vl.length:Int)=(m:Int) by omega]
 have el:(vl.take j++vl.drop m).length=vl.length -(m -j):=by simp only[List.length_append,List.length_take,List.length_drop];omega
 rw[el]at hq
 refine FN.HR (n:=vl.length -(m -j)) (cs:=flat (vl.take j++vl.drop m)) (s2:=s) (sz:=4) (by rw[al,el];rfl) (aC _) ?_ (Od bP hl hn (by omega) (by omega) (by unfold room at h3;omega) ?_)
 ·generalize vl.take j++vl.drop m=L at hq
  simp -implicitDefEqProofs only[go_sem,seval]
  exact hq
 ·refine .inl ⟨b,cap,_,rfl,bP,h0,by omega,?_,?_⟩
  ·have hl':=hl
   rw[List.length_append,al]at hl'
   rw[List.length_append,List.length_append,al,al,el,List.length_replicate]
   have hw:aK.w aa=4:=rfl
   rw[hw]at hl'⊢
   omega
  ·rw[set_set,j6 hb];exact Sub.refl s
theorem rf{v_0:aa}{gH:aw}{s:ab}{r:aa}(h:bS v_0 gH=some r):FE prog 53 [.agg [.int .i64 v_0.Kind,.int .i64 v_0.N,.str v_0.S.b,.sl false 4 v_0.L.length (flat v_0.L)],.str gH.b] s [.agg [.int .i64 r.Kind,.int .i64 r.N,.str r.S.b,.sl false 4 r.L.length (flat r.L)]] s:=J7 ⟨r,h,rfl,rfl⟩
end Go.AB
end
