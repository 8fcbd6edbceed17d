/- A part of the proof: Sort1, Spl, Ovl, Lt. -/
import Derived.Test.YtkeagffgdajggaaGreatT12
import Derived.Shelf.SlSortCmp.WholeK
import Derived.Test.YtkeagffgdajggaaGreatProg
import Derived.Ground.SlsfProg
import Derived.Laws.Externs
import Derived.Test.YtkeagffgdajggaaGreatT11
set_option linter.unusedSimpArgs false
set_option linter.unusedVariables false
section
namespace Go.AB
open Go Go.Sort Go.Proofs Go.Shelf
theorem Hz{G G':Gh}{w w':World}(hn:∀b,G.O b=.none)(h:ax G w G' w'):∃q os,w'=grow (w.drewN q) os:=by
 refine⟨w'.drawn -w.drawn,w'.heap.extract w.heap.size w'.heap.size,?_⟩
 have hheap:w'.heap=w.heap++w'.heap.extract w.heap.size w'.heap.size:=by
  apply Array.ext_getElem?
  intro i
  rcases Nat.lt_or_ge i w.heap.size with hi|hi
  ·rw[Array.getElem?_append_left hi];exact h.frame i hi (.inr (hn i))
  ·rw[Array.getElem?_append_right hi,Array.getElem?_extract]
   have e:w.heap.size+(i -w.heap.size)=i:=by omega
   rw[e]
   split
   ·rfl
   ·rename_i h2
    rw[Array.getElem?_eq_none (by omega)]
 have hd:=h.drawn
 have ho:=h.os
 have ht:=h.tape
 have hp:=h.output
 generalize w'.heap.extract w.heap.size w'.heap.size=os at hheap
 obtain⟨hp',tp,dr,o,ou⟩:=w'
 simp only at hheap hd ho ht hp
 subst hheap;subst ho;subst ht;subst hp
 show _={w.drewN (dr -w.drawn)with heap:=w.heap++os}
 unfold World.drewN
 have:w.drawn+(dr -w.drawn)=dr:=by omega
 rw[this]
section
variable{P:Program}{f g:FuncId}{α:Type}[aH α][Inhabited α]{enc:α→List Value}{k:Nat}{cf:α→α→Int}
theorem PF(hfe:∀x y:α,FE P g [.agg (aH.cells x),.agg (aH.cells y)] wz [.int .i64 (cf x y)] wz)(henc:∀(w:World)(R:Nat→Nat)(x:α),VR w R (.agg (aH.cells x)) (.agg (enc x).toArray))(v7 off size:Nat)(w:World):
 CmpLays P g #[] enc k cf v7 off size w:=by
 intro m os dk hs x y
 have h:=hfe x y ⟨fun _=>0,fun _=>.none⟩ (sortWorldK enc k w v7 off m dk os) #[.agg (enc x).toArray,.agg (enc y).toArray] ⟨fun _ _=>rfl,fun _ _=>rfl⟩ (fun b=>.inl rfl) (fun b o h=>by cases h)
  ⟨rfl,fun j a v hj hv=>by
    match j,hj,hv with
    |0,hj,hv=>cases hj;cases hv;exact henc _ _ x
    |1,hj,hv=>cases hj;cases hv;exact henc _ _ y⟩
 rw[Array.append_empty]
 refine h.mono ?_
 rintro e w' ⟨v,rs,s',G',rfl,⟨rfl,rfl⟩,_,_,hr,hp⟩
 have hv:v=.int .i64 (cf x y):=VR.bk hr.1
 subst hv
 exact⟨rfl,Hz (fun _=>rfl) hp⟩
omit[Inhabited α]in
theorem JG(l:List α)(sp:List AV){i r:Nat}(hi:i<l.length)(hr:r<aH.w α):(flat l++sp)[i*aH.w α+r]? =(aH.cells l[i])[r]? :=by
 have hlt:i*aH.w α+r<(flat l).length:=by
  rw[ao]
  calc i*aH.w α+r<(i+1)*aH.w α:=by rw[Nat.add_mul];omega
   _≤l.length*aH.w α:=Nat.mul_le_mul_right _ hi
 rw[List.getElem?_append_left hlt]
 have h:=j6 l (aH.w α) i 1 rfl
 rw[Nat.one_mul,List.drop_eq_getElem_cons hi]at h
 have h2:(AB.sub (flat l) (i*aH.w α) (aH.w α))[r]? =(aH.cells l[i])[r]? :=by
  rw[h]
  show(flat [l[i]])[r]? =_
  unfold flat
  simp
 rw[AS,if_pos hr]at h2
 exact h2
theorem Ww(hk:k=aH.w α)(hlen:∀x,(enc x).length=k)
 (hdec:∀(w:World)(R:Nat→Nat)(x:α)(vs:List Value),vs.length=k→(∀(j:Nat)(c:AV)(v:Value),(aH.cells x)[j]? =some c→vs[j]? =some v→VR w R c v)→vs=enc x)
 (hvr:∀(w:World)(R:Nat→Nat)(x:α)(j:Nat)(c:AV)(v:Value),(aH.cells x)[j]? =some c→(enc x)[j]? =some v→VR w R c v)
 (hcon:∀(v7 off cap:Nat)(d:Array α)(w:World),HoldsK enc k w v7 off d→v7<w.heap.size→d.size<4611686018427387904→Calls P f #[.slice (some ⟨v7,off,none⟩) d.size cap,.func (.func g) #[] #[]] w fun e w'=>e=.returned (.tuple #[])∧∃d' n os,PermIn 0 d.size d d'∧SortedIn (ltOf cf) 0 d.size d'∧w'=sortWorldK enc k w v7 off n d' os)
 {b cap:Nat}{l:List α}{sp:List AV}{s:ab}{Q:List AV→ab→Prop}(hs:s b=some (.cells (flat l++sp)))(hc:0<cap)(hb:l.length<4611686018427387904)
 (hq:∀l':List α,l'.Perm l→l'.Pairwise (fun x y=>ltOf cf y x=false)→Q [] (s.set b (.cells (flat l'++sp)))):FN P f [.arr b 0 l.length cap,.fn g [] []] s Q:=by
 subst hk
 intro G w vs hg ho hst ha
 have hvs:vs= #[.slice (some ⟨b,0,none⟩) l.length cap,.func (.func g) #[] #[]]:=by
  obtain⟨h1,h2⟩:=ha
  have h1':vs.size=2:=h1
  apply Array.ext (by simpa using h1')
  intro i hi1 hi2
  have hi:i<2:=by omega
  match i,hi with
  |0,_=>exact VR.oj (h2 0 _ _ rfl (Array.getElem?_eq_getElem (by omega))) hc
  |1,_=>
   obtain⟨vf,vc,e,s1,_,s2,_⟩:=VR.Ph (h2 1 _ _ rfl (Array.getElem?_eq_getElem (by omega)))
   rw[e]
   rw[Array.eq_empty_of_size_eq_zero s1,Array.eq_empty_of_size_eq_zero s2]
   rfl
 subst hvs
 obtain⟨q2,q3,c,t,q4,q5,q6⟩:=hst b _ hs
 have hbl:b<w.heap.size:=(Array.getElem?_eq_some_iff.1 q4).1
 have hw0:0<aH.w α:=aH.pos
 have hcs:c.size=l.length*aH.w α+sp.length:=by rw[q5.1,List.length_append,ao]
 have hcell:∀i(hi:i<l.length),(c.toList.drop (i*aH.w α)).take (aH.w α)=enc l[i]:=fun i hi=>by
  have hle:i*aH.w α+aH.w α≤l.length*aH.w α:=by rw[←Nat.succ_mul];exact Nat.mul_le_mul_right _ hi
  refine hdec w G.R l[i] _ (by simp;omega) fun j x v hx hv=>?_
  have hj:j<aH.w α:=by
   have:=(List.getElem?_eq_some_iff.1 hv).1
   simp at this;omega
  rw[List.getElem?_take,if_pos hj,List.getElem?_drop]at hv
  exact(q5.2 _ x v (by rw[JG l sp hi hj];exact hx) (by simpa using hv)).1
 have hget:∀(l2:List α)(i r:Nat)(hi:i<l2.length),r<aH.w α→(flatK enc (aH.w α) l2.toArray)[i*aH.w α+r]! =(enc l2[i])[r]!:=fun l2 i r hi hr=>by
  rw[get_flatK _ _ _ _ (by
   calc i*aH.w α+r<(i+1)*aH.w α:=by rw[Nat.add_mul];omega
    _≤l2.toArray.size*aH.w α:=Nat.mul_le_mul_right _ (by rw[List.size_toArray];exact hi))]
  have e1:(i*aH.w α+r)/aH.w α=i:=by rw[Nat.mul_comm,Nat.mul_add_div hw0,Nat.div_eq_of_lt hr,Nat.add_zero]
  have e2:(i*aH.w α+r)% aH.w α=r:=by rw[Nat.mul_comm,Nat.mul_add_mod,Nat.mod_eq_of_lt hr]
  rw[e1,e2]
  simp[hi]
 have hH:HoldsK enc (aH.w α) w b 0 l.toArray:=by
  intro j hj
  rw[size_flatK]at hj
  have hj:j<l.length*aH.w α:=by simpa using hj
  have hi:j/aH.w α<l.length:=by rw[Nat.div_lt_iff_lt_mul hw0];exact hj
  have hr:j % aH.w α<aH.w α:=Nat.mod_lt _ hw0
  have ej:j/aH.w α*aH.w α+j % aH.w α=j:=by
   have:=Nat.div_add_mod j (aH.w α)
   rw[Nat.mul_comm]at this;exact this
  refine⟨?_,?_⟩
  ·rw[Nat.zero_add,cell_of_row w q4]
   have h1:=hcell _ hi
   have h2:((c.toList.drop (j/aH.w α*aH.w α)).take (aH.w α))[j % aH.w α]? =c[j]? :=by rw[List.getElem?_take,if_pos hr,List.getElem?_drop,ej];simp
   rw[←h2,h1]
   have h3:=hget l _ _ hi hr
   rw[ej]at h3
   show _=some ((flatK enc (aH.w α) l.toArray)[j]!)
   rw[h3]
   have:j % aH.w α<(enc l[j/aH.w α]).length:=by rw[hlen];exact hr
   simp[this]
  ·unfold World.frozen?
   simp[q4]
 have hcall:=hcon b 0 cap l.toArray w hH hbl (by simpa using hb)
 rw[List.size_toArray]at hcall
 refine hcall.mono ?_
 rintro e w' ⟨rfl,d',m,os,hp,hsd,rfl⟩
 obtain⟨p1,_,p3⟩:=hp
 have p1:d'.size=l.length:=by simpa using p1
 have hperm:d'.toList.Perm l:=by
  have e1:d'.extract 0 l.toArray.size=d':=by rw[List.size_toArray,←p1];exact Array.extract_size
  have e2:l.toArray.extract 0 l.toArray.size=l.toArray:=Array.extract_size
  have:(d'.extract 0 l.toArray.size).toList.Perm (l.toArray.extract 0 l.toArray.size).toList:=by simpa using p3
  rw[e1,e2]at this
  simpa using this
 obtain⟨l',rfl⟩:∃l':List α,d'=l'.toArray:=⟨d'.toList,by simp⟩
 have hl':l'.length=l.length:=by simpa using p1
 have hperm:l'.Perm l:=by simpa using hperm
 have hsort:l'.Pairwise (fun x y=>ltOf cf y x=false):=by
  rw[List.pairwise_iff_getElem]
  intro i j hi hj hij
  have:=hsd i j (Nat.zero_le _) hij (by omega)
  simpa[hi,hj]using this
 generalize hF:flatK enc (aH.w α) l'.toArray=F
 have hFs:F.size=l.length*aH.w α:=by rw[←hF,size_flatK];simp[hl']
 generalize hw':sortWorldK enc (aH.w α) w b 0 m l'.toArray os=w'
 have ew:w'=grow (mapBlock (Go.Sort.ahead w m) b (putCells id 0 F)) os:=by rw[←hw',←hF];rfl
 have hsz:w.heap.size≤w'.heap.size:=by rw[ew];simp[grow,mapBlock,Go.Sort.ahead]
 have hoth:∀i,i<w.heap.size→i≠b→w'.heap[i]? =w.heap[i]? :=fun i hi hib=>by
  rw[ew,heap_grow_old _ _ (by simpa[mapBlock,Go.Sort.ahead]using hi)]
  unfold mapBlock
  show((Go.Sort.ahead w m).heap.modify b _)[i]? =_
  rw[Array.getElem?_modify,if_neg (fun e=>hib e.symm)]
  rfl
 have hnew:w'.heap[b]? =some (.cells (putCells id 0 F c) t (0,0)):=by
  rw[ew,heap_grow_old _ _ (by simpa[mapBlock,Go.Sort.ahead]using hbl)]
  unfold mapBlock
  show((Go.Sort.ahead w m).heap.modify b _)[b]? =_
  rw[Array.getElem?_modify,if_pos rfl]
  show Option.map _ (w.heap[b]?)=_
  rw[q4];rfl
 have hpres:ax G w G w':=by
  refine⟨by rw[ew];rfl,by rw[ew];rfl,by rw[ew];rfl,by rw[ew];exact Nat.le_add_right _ _,hsz,fun _ _=>Nat.le_refl _,fun i j hi hj=>?_,fun i hi hof=>?_,fun _ _ h=>⟨h,rfl⟩,fun _ _ h=>⟨h,rfl⟩⟩
  ·have hib:i≠b:=fun e=>by subst e;rw[q3]at hj;omega
   exact World.cell?_of_block (hoth i hi hib)
  ·exact hoth i hi fun e=>by subst e;rw[q2]at hof;rcases hof with h|h<;>cases h
 have hg':bM G w':=⟨fun i hi=>hg.iS i (Nat.le_trans hsz hi),fun i hi=>hg.iT i (Nat.le_trans hsz hi)⟩
 have hlt:∀i,G.O i≠.none→i<w.heap.size:=fun i hi=>hg.lt hi
 refine⟨_,[],_,G,rfl,hq l' hperm hsort,hg',fun i o hi=>?_,⟨#[],rfl,rfl,fun j x y hx=>by simp at hx⟩,hpres⟩
 unfold ab.set at hi
 by_cases hib:i=b
 ·rw[if_pos hib]at hi;injection hi with hi;subst hi;subst hib
  refine⟨q2,q3,_,t,hnew,⟨?_,fun j x y hx hy=>?_⟩,?_⟩
  ·unfold putCells
   rw[Array.size_mapIdx,hcs,List.length_append,ao,hl']
  ·unfold putCells at hy
   rw[Array.getElem?_mapIdx]at hy
   by_cases hj:j<l.length*aH.w α
   ·have hjc:j<c.size:=by omega
    have hi':j/aH.w α<l'.length:=by rw[Nat.div_lt_iff_lt_mul hw0,hl'];exact hj
    have hr:j % aH.w α<aH.w α:=Nat.mod_lt _ hw0
    have ej:j/aH.w α*aH.w α+j % aH.w α=j:=by
     have:=Nat.div_add_mod j (aH.w α)
     rw[Nat.mul_comm]at this;exact this
    rw[Array.getElem?_eq_getElem hjc]at hy
    simp only[Option.map_some,Nat.zero_le,Nat.zero_add,hFs,hj,and_self,if_true,Nat.sub_zero,id]at hy
    have hx2:(aH.cells l'[j/aH.w α])[j % aH.w α]? =some x:=by rw[←JG l' sp hi' hr,ej];exact hx
    have hy2:(enc l'[j/aH.w α])[j % aH.w α]? =some y:=by
     have h3:=hget l' _ _ hi' hr
     rw[ej,hF]at h3
     rw[h3]at hy
     have:j % aH.w α<(enc l'[j/aH.w α]).length:=by rw[hlen];exact hr
     simp[this]at hy⊢
     exact hy
    refine⟨hvr w' G.R _ _ _ _ hx2 hy2,?_⟩
    have hxm:x∈flat l':=by
     have:j<(flat l').length:=by rw[ao,hl'];exact hj
     rw[List.getElem?_append_left this]at hx
     exact List.mem_of_getElem? hx
    have hv:=aD l'
    rw[←hv]at hxm
    obtain⟨x0,_,rfl⟩:=List.mem_map.1 hxm
    exact c7.view ..
   ·have hnj:¬(0≤j∧j<0+F.size):=fun h=>hj (by have:=h.2;omega)
    have hy':c[j]? =some y:=by
     cases hcj:c[j]? with
     |none=>rw[hcj]at hy;cases hy
     |some u=>rw[hcj]at hy;simp only[Option.map_some,if_neg hnj]at hy;exact hy
    have hx':(flat l++sp)[j]? =some x:=by
     rw[List.getElem?_append_right (by rw[ao,hl'];omega),ao,hl']at hx
     rw[List.getElem?_append_right (by rw[ao];omega),ao]
     exact hx
    obtain⟨h1,h2⟩:=q5.2 j x y hx' hy'
    exact⟨hpres.vr hg h1,h2.mono fun i hi=>⟨hi,rfl,hoth i (hlt i (by rw[hi];simp)) (fun e=>by subst e;rw[q2]at hi;cases hi)⟩⟩
  ·intro x hx
   rcases List.mem_append.1 hx with hx|hx
   ·refine q6 x (List.mem_append_left _ ?_)
    unfold flat at hx⊢
    rw[List.mem_flatten]at hx⊢
    obtain⟨cs,h1,h2⟩:=hx
    obtain⟨a,h3,rfl⟩:=List.mem_map.1 h1
    exact⟨_,List.mem_map.2 ⟨a,hperm.mem_iff.1 h3,rfl⟩,h2⟩
   ·exact q6 x (List.mem_append_right _ hx)
 ·rw[if_neg hib]at hi
  obtain⟨r1,r2,r3⟩:=hst i o hi
  refine⟨r1,r2,?_⟩
  have hbk:=hoth i (hlt i (by rw[r1];simp)) hib
  cases o with
  |cells cs=>
   obtain⟨c0,t0,r4,r5,r6⟩:=r3
   exact⟨c0,t0,hbk.trans r4,r5.mono (fun _ _ hv=>hpres.vr hg hv) (fun b' j hb'=>⟨hb',rfl,hoth b' (hlt b' (by rw[hb'];simp)) (fun e=>by subst e;rw[q2]at hb';cases hb')⟩),r6⟩
  |map es=>
   obtain⟨ents,clock,r4,r5,r6⟩:=r3
   exact⟨ents,clock,hbk.trans r4,r5,fun j x y hx hy=>⟨hpres.vr hg (r6 j x y hx hy).1,hpres.vr hg (r6 j x y hx hy).2⟩⟩
end
end Go.AB
end
section
namespace Go.Proofs
open Go.Shelf
def Tryz.C5:Go.Shelf.Ren:=⟨fun|6=>212|15=>251|14=>250|28=>286|29=>287|20=>278|21=>279|22=>280|23=>281|24=>282|25=>283|26=>284|27=>285|46=>319|47=>320|48=>321|49=>322|50=>323|57=>350|n=>n,fun|22=>179|24=>188|25=>289|3=>3|39=>326|0=>0|53=>321|55=>371|4=>4|46=>364|45=>363|50=>71|5=>5|9=>9|66=>402|70=>317|76=>432|77=>122|n=>n,fun|n=>n⟩
theorem Tryz.Ra:Go.Proofs.SlLaysF0.n6 Tryz.prog Tryz.C5:={
 mixed:=by kernel_rfl
 f6:=⟨Tryz.f212.name,by decide,Tryz.func212.trans (congrArg some (by kernel_rfl))⟩
 f14:=⟨Tryz.f250.name,by decide,Tryz.func250.trans (congrArg some (by kernel_rfl))⟩
 f15:=Tryz.func251.trans (congrArg some (by kernel_rfl))
 f20:=⟨Tryz.f278.name,by decide,Tryz.func278.trans (congrArg some (by kernel_rfl))⟩
 f21:=⟨Tryz.f279.name,by decide,Tryz.func279.trans (congrArg some (by kernel_rfl))⟩
 f22:=⟨Tryz.f280.name,by decide,Tryz.func280.trans (congrArg some (by kernel_rfl))⟩
 f23:=⟨Tryz.f281.name,by decide,Tryz.func281.trans (congrArg some (by kernel_rfl))⟩
 f24:=⟨Tryz.f282.name,by decide,Tryz.func282.trans (congrArg some (by kernel_rfl))⟩
 f25:=⟨Tryz.f283.name,by decide,Tryz.func283.trans (congrArg some (by kernel_rfl))⟩
 f26:=⟨Tryz.f284.name,by decide,Tryz.func284.trans (congrArg some (by kernel_rfl))⟩
 f27:=⟨Tryz.f285.name,by decide,Tryz.func285.trans (congrArg some (by kernel_rfl))⟩
 f28:=Tryz.func286.trans (congrArg some (by kernel_rfl))
 f29:=Tryz.func287.trans (congrArg some (by kernel_rfl))
 f46:=⟨Tryz.f319.name,by decide,Tryz.func319.trans (congrArg some (by kernel_rfl))⟩
 f47:=Tryz.func320.trans (congrArg some (by kernel_rfl))
 f48:=Tryz.func321.trans (congrArg some (by kernel_rfl))
 f49:=⟨Tryz.f322.name,by decide,Tryz.func322.trans (congrArg some (by kernel_rfl))⟩
 f50:=⟨Tryz.f323.name,by decide,Tryz.func323.trans (congrArg some (by kernel_rfl))⟩
 f57:=⟨Tryz.f350.name,by decide,Tryz.func350.trans (congrArg some (by kernel_rfl))⟩
 t0:=Tryz.underlying0
 a0:=Tryz.isAgg0
 z0:=Tryz.sizeOf0
 v0:=Tryz.zeroValue0
 t3:=Tryz.underlying3
 a3:=Tryz.isAgg3
 z3:=Tryz.sizeOf3
 v3:=Tryz.zeroValue3
 t4:=Tryz.underlying4
 a4:=Tryz.isAgg4
 z4:=Tryz.sizeOf4
 v4:=Tryz.zeroValue4
 t5:=Tryz.underlying5
 a5:=Tryz.isAgg5
 z5:=Tryz.sizeOf5
 v5:=Tryz.zeroValue5
 t9:=Tryz.underlying9
 a9:=Tryz.isAgg9
 z9:=Tryz.sizeOf9
 v9:=Tryz.zeroValue9
 t22:=Tryz.underlying179
 a22:=Tryz.isAgg179
 z22:=Tryz.sizeOf179
 v22:=Tryz.zeroValue179
 t25:=Tryz.underlying289
 a25:=Tryz.isAgg289
 z25:=Tryz.sizeOf289
 v25:=Tryz.zeroValue289
 t39:=Tryz.underlying326
 a39:=Tryz.isAgg326
 z39:=Tryz.sizeOf326
 v39:=Tryz.zeroValue326
 t45:=Tryz.underlying363
 a45:=Tryz.isAgg363
 z45:=Tryz.sizeOf363
 v45:=Tryz.zeroValue363
 t46:=Tryz.underlying364
 a46:=Tryz.isAgg364
 z46:=Tryz.sizeOf364
 v46:=Tryz.zeroValue364
 t50:=Tryz.underlying71
 a50:=Tryz.isAgg71
 z50:=Tryz.sizeOf71
 v50:=Tryz.zeroValue71
 t53:=Tryz.underlying321
 a53:=Tryz.isAgg321
 z53:=Tryz.sizeOf321
 v53:=Tryz.zeroValue321
 t55:=Tryz.underlying371
 a55:=Tryz.isAgg371
 z55:=Tryz.sizeOf371
 v55:=Tryz.zeroValue371
 t66:=Tryz.underlying402
 a66:=Tryz.isAgg402
 z66:=Tryz.sizeOf402
 v66:=Tryz.zeroValue402
 t70:=Tryz.underlying317
 a70:=Tryz.isAgg317
 z70:=Tryz.sizeOf317
 v70:=Tryz.zeroValue317
 t76:=Tryz.underlying432
 a76:=Tryz.isAgg432
 z76:=Tryz.sizeOf432
 v76:=Tryz.zeroValue432
 t77:=Tryz.underlying122
 a77:=Tryz.isAgg122
 z77:=Tryz.sizeOf122
 v77:=Tryz.zeroValue122}
end Go.Proofs
end
section
namespace Go.AB
open Go
theorem V3{P:Program}(w:World)(tS tR e:TypeId)(ht:P.underlying tS=some (.slice e))(size:Nat)(hz:∀w,(Go.sizeOf e).run P w=.ok size w)
 (a b oa ob la ca lb cb:Nat)(hne:a≠b)(x y:Array Value)(ta tb:TypeId)(fa:Nat×Nat)(hA:w.heap[a]? =some (.cells x ta fa))(hB:w.heap[b]? =some (.cells y tb (0,0)))(hx:x.size≠0):
 (Extern.SlicesOverlaps.overlaps #[tS,tS] #[tR] #[.slice (some ⟨a,oa,none⟩) la ca,.slice (some ⟨b,ob,none⟩) lb cb]).run P w=.ok (.bool false) w:=by
 have hnb:(a !=b)=true:=by simpa using hne
 have hnb':(a==b)=false:=by simpa using hne
 have hfb:∀o,w.frozen? ⟨b,o,none⟩=false:=fun o=>by unfold World.frozen?;simp[hB]
 have hsa:w.shape? a=some (ta,x.size):=by unfold World.shape?;rw[hA]
 have hsb:w.shape? b=some (tb,y.size):=by unfold World.shape?;rw[hB]
 change Sem.run P (α:=Value) (do
  let some t:=(#[tS,tS]:Array TypeId)[0]? |stuck "slices.overlaps: no parameter types"
  let .slice elem←underlying t|stuck "slices.overlaps: slice type expected"
  let size←sizeOf elem
  match(some ⟨a,oa,none⟩:Option Addr),(some ⟨b,ob,none⟩:Option Addr)with
  |some a,some b=>
   if la=0∨lb=0∨size=0 then pure (Value.bool false)
   else if a.block !=b.block&&(←frozen a)&&(←frozen b)then unsupported .addressObserved
   else do
    if a.block !=b.block then do
     noView a;noView b
     if←mayBeOne a b then return Value.bool ((←choose (.extern "sameAddr.stringBytes" 2))==1)
    pure (Value.bool (a.block==b.block&&a.off<b.off+lb*size&&b.off<a.off+la*size))
  |_,_=>pure (Value.bool false)) w=_
 by_cases h0:la=0∨lb=0∨size=0
 ·simp[run_underlying ht,hz,h0]
 ·cases hk:x.size with
  |zero=>exact absurd hk hx
  |succ kB=>
   rw[hk]at hsa
   cases hfa:w.frozen? ⟨a,oa,none⟩<;>cases hfe:w.frozen? ⟨a,kB+1,none⟩<;>
    simp[run_underlying ht,hz,h0,hnb,hnb',frozen,noView,viewAt,mayBeOne,stringish,shape,Sem.run,hsa,hsb,hfa,hfe,hfb]
theorem ZC{P:Program}{f:FuncId}{tS tR e:TypeId}{m:Nat}(hs:(P.funcs[f]?).isSome=true)(hname:(((P.funcs[f]?).get hs).name== "runtime.NumGoroutine")=false)
 (hb:((P.funcs[f]?).get hs).body.isNone=true)(hn:Extern.findNext ((P.funcs[f]?).get hs)=none)(he:Extern.find ((P.funcs[f]?).get hs)=some (Extern.SlicesOverlaps.overlaps #[tS,tS] #[tR]))
 (ht:P.underlying tS=some (.slice e))(hi:ch P e m=true):MC P f:=by
 intro w a b oa la ca ob lb cb ta tb x y fa hne hA hx hB _
 refine⟨w,?_,rfl,rfl,rfl,rfl,Nat.le_refl _⟩
 rw[run_callFunc_extern (Option.some_get hs).symm hname hb hn he,V3 w tS tR e ht m (fun w=>run_sizeOf hi w) a b oa ob la ca lb cb hne x y ta tb fa hA hB hx]
 rfl
end Go.AB
end
section
namespace Go.AB
open Go
@[go_sem]theorem aeC:((10:Int)≠0)=True:=eq_true (by decide)
@[go_sem]theorem aeD(l:List UInt8)(n:Nat):AB.sub (flat l) 0 (n*1)=flat (part l 0 (n:Int)):=by
  have:=wo 1 l 0 (n:Int) rfl
  rw[Int.sub_zero]at this
  exact this
end Go.AB
end
