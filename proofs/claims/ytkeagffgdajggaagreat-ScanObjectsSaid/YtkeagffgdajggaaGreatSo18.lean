/- A part of the proof: Pn, Sort1, Spl, Ovl, Lt. -/
import Derived.Test.YtkeagffgdajggaaGreatSo14
import Derived.Test.YtkeagffgdajggaaGreatSo17
import Derived.Test.YtkeagffgdajggaaGreatSo12
import Derived.Shelf.SlSortCmp.WholeK
import Derived.Test.YtkeagffgdajggaaGreatProg
import Derived.Ground.SlsfProg
import Derived.Laws.Externs
import Derived.Test.YtkeagffgdajggaaGreatSo11
set_option linter.unusedSimpArgs false
set_option linter.unusedVariables false
section
set_option maxRecDepth 4000
namespace Go.AB
open Go
attribute[-go_sem] dv eu cV du
def fN(t_0:aF):Option (Bool):=some ((t_0.Kind==1)&&(t_0.V.Kind==2))
def qt:IC:=
 (aj [i1 1 (.lZ 8 (.t 0)),dT 2 (.bool false)] [1]
 (aj [fa 3 0 1,ld 4 1 3,bn 5 .eql 4 1,mv 6 5,fg 7 6 true 3 1,fg 8 6 true 0 7,lg 9 6 true 1 8,jz 10 6 true .eql 9 2,pf 11 6 10,mv 2 11] [2]
 .ret))
def pk:List bj:=[⟨2,true,none⟩]
theorem zg:bG Go.Proofs.Tryz.prog 124 12 pk qt=true:=by kernel_rfl
theorem zu{t_0}{s:ab}{Q:List AV→ab→Prop}:ok (fN t_0) (fun r=>Q [.bool r] s)→FN Go.Proofs.Tryz.prog 124 [.agg [.int .i64 t_0.Kind,.int .i64 t_0.bP,.int .i64 t_0.To,.int .i64 t_0.V.Kind,.int .i64 t_0.V.N,.str t_0.V.S.b,.sl false 4 t_0.V.L.length (flat t_0.V.L),.str t_0.S.b]] s Q:=by
 intro h
 refine FN.of (ay mix) zg rfl (Nat.le_of_ble_eq_true rfl) ?_
 revert h
 rw[qt,pk,fN]
 repeat'(first
  |with_reducible exact bI
  |with_reducible refine aU ?_ ?_
  |with_reducible exact aV
  |with_reducible refine bN ?_
  |simp -implicitDefEqProofs only[go_sem,seval])
theorem jc{t_0}{s:ab}{r:Bool}(h:fN t_0=some r):FE Go.Proofs.Tryz.prog 124 [.agg [.int .i64 t_0.Kind,.int .i64 t_0.bP,.int .i64 t_0.To,.int .i64 t_0.V.Kind,.int .i64 t_0.V.N,.str t_0.V.S.b,.sl false 4 t_0.V.L.length (flat t_0.V.L),.str t_0.S.b]] s [.bool r] s:=zu ⟨r,h,rfl,rfl⟩
def fM(b_0:(List UInt8))(at_1:Int)(last_2:Bool):Option (aF×Int):=
 cj (bQ b_0 at_1 last_2) fun r1=>
 if r1.2 !=0 then
  some ((aF.mk 0 0 0 (aa.mk 0 0 (aL.mk []) ([]:List aa)) (aL.mk [])),r1.2)
 else
  if r1.1.Kind==0 then
   some ((aF.mk 0 0 0 (aa.mk 0 0 (aL.mk []) ([]:List aa)) (aL.mk [])),10)
  else
   cj (fN r1.1) fun r2=>
   if !r2 then
    some ((aF.mk 0 0 0 (aa.mk 0 0 (aL.mk []) ([]:List aa)) (aL.mk [])),11)
   else
    some (r1.1,0)
theorem rE:(vS Go.Proofs.Tryz.prog 124=true)=True:=eq_true (by kernel_rfl)
def rN:IC:=
 (aj [i1 8 (.aQ jY),mi 9 0] [0,1,2,3,8]
 (aj [mt 13 0,mv 14 1,mv 15 2,c3 16 127 13 14 15,lj 12 16,ex 17 12 0,ex 18 12 1,i1 10 (.aQ jY),st 8 10 17,mv 11 18] [3,8,10,11]
 (.seq (.block 0 (aj [mv 20 11,bn 21 .neq 20 0,mv 19 21] [3,8,10,11,19]
 (.cond (.t 19) (aj [i1 22 (.build jY []),mv 23 11,st 8 8 22,mv 9 23] [8,9]
 .ret)
 (aj [fa 25 0 10,ld 26 1 25,bn 27 .eql 26 0,mv 24 27] [3,8,10,24]
 (.cond (.t 24) (aj [i1 28 (.build jY []),st 8 8 28,mi 9 10] [8,9]
 .ret)
 (aj [mv 30 3,lm 31 8 10,i1 32 (.eC (.t 30) [(.t 31)]),no 33 32,mv 29 33] [8,10,29]
 (.cond (.t 29) (aj [i1 34 (.build jY []),st 8 8 34,mi 9 11] [8,9]
 .ret)
 .skip)))))))
 (aj [lm 35 8 10,st 8 8 35,mi 9 0] [8,9]
 .ret))))
def qI:List bj:=[⟨8,false,some (8,true)⟩,⟨9,true,none⟩]
theorem Bh:bG Go.Proofs.Tryz.prog 123 36 qI rN=true:=by kernel_rfl
theorem BG{b_0 at_1 last_2}{s:ab}{Q:List AV→ab→Prop}:ok (fM b_0 at_1 last_2) (fun r=>Q [.agg [.int .i64 r.1.Kind,.int .i64 r.1.bP,.int .i64 r.1.To,.int .i64 r.1.V.Kind,.int .i64 r.1.V.N,.str r.1.V.S.b,.sl false 4 r.1.V.L.length (flat r.1.V.L),.str r.1.S.b],.int .i64 r.2] s)→FN Go.Proofs.Tryz.prog 123 [.sl false 1 b_0.length (flat b_0),.int .i64 at_1,.bool last_2,.fn 124 [] []] s Q:=by
 intro h
 refine FN.of (ay mix) Bh rfl (Nat.le_of_ble_eq_true rfl) ?_
 revert h
 rw[rN,qI,fM]
 repeat'(first
  |with_reducible exact bI
  |with_reducible refine aU ?_ ?_
  |with_reducible exact aV
  |with_reducible refine bN ?_
  |with_reducible refine ak (fun _(h:bQ b_0 at_1 last_2=some _)=>bZ h) (fun r1=>?_)
  |with_reducible refine ae (fun _(h:bQ b_0 at_1 last_2=some _)=>bZ h) (fun _=>rfl) (fun r1=>?_)
  |with_reducible refine ak (fun _(h:bQ b_0 at_1 last_2=some _)=>(by refine al ?_ (bZ h);simp -implicitDefEqProofs only[go_sem,seval,rE])) (fun r1=>?_)
  |with_reducible refine ae (fun _(h:bQ b_0 at_1 last_2=some _)=>(by refine al ?_ (bZ h);simp -implicitDefEqProofs only[go_sem,seval,rE])) (fun _=>rfl) (fun r1=>?_)
  |with_reducible refine ak (fun _(h:fN r1.1=some _)=>jc h) (fun r2=>?_)
  |with_reducible refine ae (fun _(h:fN r1.1=some _)=>jc h) (fun _=>rfl) (fun r2=>?_)
  |with_reducible refine ak (fun _(h:fN r1.1=some _)=>(by refine al ?_ (jc h);simp -implicitDefEqProofs only[go_sem,seval,rE])) (fun r2=>?_)
  |with_reducible refine ae (fun _(h:fN r1.1=some _)=>(by refine al ?_ (jc h);simp -implicitDefEqProofs only[go_sem,seval,rE])) (fun _=>rfl) (fun r2=>?_)
  |simp -implicitDefEqProofs only[go_sem,seval,rE])
theorem jN{b_0 at_1 last_2}{s:ab}{r:aF×Int}(h:fM b_0 at_1 last_2=some r):FE Go.Proofs.Tryz.prog 123 [.sl false 1 b_0.length (flat b_0),.int .i64 at_1,.bool last_2,.fn 124 [] []] s [.agg [.int .i64 r.1.Kind,.int .i64 r.1.bP,.int .i64 r.1.To,.int .i64 r.1.V.Kind,.int .i64 r.1.V.N,.str r.1.V.S.b,.sl false 4 r.1.V.L.length (flat r.1.V.L),.str r.1.S.b],.int .i64 r.2] s:=BG ⟨r,h,rfl,rfl⟩
def cL(b_0:(List UInt8))(at_1:Int)(last_2:Bool):Option (Int×Int×Int):=
 cj (fM b_0 at_1 last_2) fun r1=>
 some (r1.1.V.N,r1.1.To,r1.2)
def qp:IC:=
 (aj [mi 6 0,mi 7 0,mi 8 0] [0,1,2]
 (aj [mt 12 0,mv 13 1,mv 14 2,i1 15 (.call 123 [(.t 12),(.t 13),(.t 14),(.c (.fn 124 [] []))]),lj 11 15,ex 16 11 0,ex 17 11 1,i1 9 (.aQ jY),st 8 9 16,mv 10 17] [9,10]
 (.seq (.cU (some 9) [fa 18 3 9,fa 19 1 18,ld 20 1 19,fa 21 2 9,ld 22 1 21,mv 23 10,mv 6 20,mv 7 22,mv 8 23] [6,7,8])
 .ret)))
def ph:List bj:=[⟨6,true,none⟩,⟨7,true,none⟩,⟨8,true,none⟩]
theorem ze:bG Go.Proofs.Tryz.prog 69 24 ph qp=true:=by kernel_rfl
theorem zr{b_0 at_1 last_2}{s:ab}{Q:List AV→ab→Prop}:ok (cL b_0 at_1 last_2) (fun r=>Q [.int .i64 r.1,.int .i64 r.2.1,.int .i64 r.2.2] s)→FN Go.Proofs.Tryz.prog 69 [.sl false 1 b_0.length (flat b_0),.int .i64 at_1,.bool last_2] s Q:=by
 intro h
 refine FN.of (ay mix) ze rfl (Nat.le_of_ble_eq_true rfl) ?_
 revert h
 rw[qp,ph,cL]
 repeat'(first
  |with_reducible exact bI
  |with_reducible refine aU ?_ ?_
  |with_reducible exact aV
  |with_reducible refine bN ?_
  |with_reducible refine ak (fun _(h:fM b_0 at_1 last_2=some _)=>jN h) (fun r1=>?_)
  |with_reducible refine ae (fun _(h:fM b_0 at_1 last_2=some _)=>jN h) (fun _=>rfl) (fun r1=>?_)
  |with_reducible refine ak (fun _(h:fM b_0 at_1 last_2=some _)=>(by refine al ?_ (jN h);simp -implicitDefEqProofs only[go_sem,seval])) (fun r1=>?_)
  |with_reducible refine ae (fun _(h:fM b_0 at_1 last_2=some _)=>(by refine al ?_ (jN h);simp -implicitDefEqProofs only[go_sem,seval])) (fun _=>rfl) (fun r1=>?_)
  |simp -implicitDefEqProofs only[go_sem,seval])
theorem dU{b_0 at_1 last_2}{s:ab}{r:Int×Int×Int}(h:cL b_0 at_1 last_2=some r):FE Go.Proofs.Tryz.prog 69 [.sl false 1 b_0.length (flat b_0),.int .i64 at_1,.bool last_2] s [.int .i64 r.1,.int .i64 r.2.1,.int .i64 r.2.2] s:=zr ⟨r,h,rfl,rfl⟩
end Go.AB
end
section
namespace Go.AB
open Go Go.Sort Go.Proofs Go.Shelf
theorem CK{G G':Gh}{w w':World}(hn:∀b,G.O b=.none)(h:aG G w G' w'):∃q os,w'=grow (w.drewN q) os:=by
 refine⟨w'.drawn -w.drawn,w'.heap.extract w.heap.size w'.heap.size,?_⟩
 have hheap:w'.heap=w.heap++w'.heap.extract w.heap.size w'.heap.size:=by
  apply Array.ext_getElem?
  intro i
  rcases Nat.lt_or_ge i w.heap.size with hi|hi
  ·rw[Array.getElem?_append_left hi];exact h.frame i hi (.inr (hn i))
  ·rw[Array.getElem?_append_right hi,Array.getElem?_extract]
   have e:w.heap.size+(i -w.heap.size)=i:=by omega
   rw[e]
   split
   ·rfl
   ·rename_i h2
    rw[Array.getElem?_eq_none (by omega)]
 have hd:=h.drawn
 have ho:=h.os
 have ht:=h.tape
 have hp:=h.output
 generalize w'.heap.extract w.heap.size w'.heap.size=os at hheap
 obtain⟨hp',tp,dr,o,ou⟩:=w'
 simp only at hheap hd ho ht hp
 subst hheap;subst ho;subst ht;subst hp
 show _={w.drewN (dr -w.drawn)with heap:=w.heap++os}
 unfold World.drewN
 have:w.drawn+(dr -w.drawn)=dr:=by omega
 rw[this]
section
variable{P:Program}{f g:FuncId}{α:Type}[a8 α][Inhabited α]{enc:α→List Value}{k:Nat}{cf:α→α→Int}
theorem I1(hfe:∀x y:α,FE P g [.agg (a8.cells x),.agg (a8.cells y)] An [.int .i64 (cf x y)] An)(henc:∀(w:World)(R:Nat→Nat)(x:α),VR w R (.agg (a8.cells x)) (.agg (enc x).toArray))(s6 off size:Nat)(w:World):
 CmpLays P g #[] enc k cf s6 off size w:=by
 intro m os dk hs x y
 have h:=hfe x y ⟨fun _=>0,fun _=>.none⟩ (sortWorldK enc k w s6 off m dk os) #[.agg (enc x).toArray,.agg (enc y).toArray] ⟨fun _ _=>rfl,fun _ _=>rfl⟩ (fun b=>.inl rfl) (fun b o h=>by cases h)
  ⟨rfl,fun j a v hj hv=>by
    match j,hj,hv with
    |0,hj,hv=>cases hj;cases hv;exact henc _ _ x
    |1,hj,hv=>cases hj;cases hv;exact henc _ _ y⟩
 rw[Array.append_empty]
 refine h.mono ?_
 rintro e w' ⟨v,rs,s',G',rfl,⟨rfl,rfl⟩,_,_,hr,hp⟩
 have hv:v=.int .i64 (cf x y):=VR.bO hr.1
 subst hv
 exact⟨rfl,CK (fun _=>rfl) hp⟩
omit[Inhabited α]in
theorem DD(l:List α)(sp:List AV){i r:Nat}(hi:i<l.length)(hr:r<a8.w α):(flat l++sp)[i*a8.w α+r]? =(a8.cells l[i])[r]? :=by
 have hlt:i*a8.w α+r<(flat l).length:=by
  rw[aK]
  calc i*a8.w α+r<(i+1)*a8.w α:=by rw[Nat.add_mul];omega
   _≤l.length*a8.w α:=Nat.mul_le_mul_right _ hi
 rw[List.getElem?_append_left hlt]
 have h:=jF l (a8.w α) i 1 rfl
 rw[Nat.one_mul,List.drop_eq_getElem_cons hi]at h
 have h2:(AB.sub (flat l) (i*a8.w α) (a8.w α))[r]? =(a8.cells l[i])[r]? :=by
  rw[h]
  show(flat [l[i]])[r]? =_
  unfold flat
  simp
 rw[xd,if_pos hr]at h2
 exact h2
theorem P5(hk:k=a8.w α)(hlen:∀x,(enc x).length=k)
 (hdec:∀(w:World)(R:Nat→Nat)(x:α)(vs:List Value),vs.length=k→(∀(j:Nat)(c:AV)(v:Value),(a8.cells x)[j]? =some c→vs[j]? =some v→VR w R c v)→vs=enc x)
 (hvr:∀(w:World)(R:Nat→Nat)(x:α)(j:Nat)(c:AV)(v:Value),(a8.cells x)[j]? =some c→(enc x)[j]? =some v→VR w R c v)
 (hcon:∀(s6 off cap:Nat)(d:Array α)(w:World),HoldsK enc k w s6 off d→s6<w.heap.size→d.size<4611686018427387904→Calls P f #[.slice (some ⟨s6,off,none⟩) d.size cap,.func (.func g) #[] #[]] w fun e w'=>e=.returned (.tuple #[])∧∃d' n os,PermIn 0 d.size d d'∧SortedIn (ltOf cf) 0 d.size d'∧w'=sortWorldK enc k w s6 off n d' os)
 {b cap:Nat}{l:List α}{sp:List AV}{s:ab}{Q:List AV→ab→Prop}(hs:s b=some (.cells (flat l++sp)))(hc:0<cap)(hb:l.length<4611686018427387904)
 (hq:∀l':List α,l'.Perm l→l'.Pairwise (fun x y=>ltOf cf y x=false)→Q [] (s.set b (.cells (flat l'++sp)))):FN P f [.arr b 0 l.length cap,.fn g [] []] s Q:=by
 subst hk
 intro G w vs hg ho c6 ha
 have hvs:vs= #[.slice (some ⟨b,0,none⟩) l.length cap,.func (.func g) #[] #[]]:=by
  obtain⟨h1,h2⟩:=ha
  have h1':vs.size=2:=h1
  apply Array.ext (by simpa using h1')
  intro i hi1 hi2
  have hi:i<2:=by omega
  match i,hi with
  |0,_=>exact VR.nr (h2 0 _ _ rfl (Array.getElem?_eq_getElem (by omega))) hc
  |1,_=>
   obtain⟨vf,vc,e,s1,_,s2,_⟩:=VR.IL (h2 1 _ _ rfl (Array.getElem?_eq_getElem (by omega)))
   rw[e]
   rw[Array.eq_empty_of_size_eq_zero s1,Array.eq_empty_of_size_eq_zero s2]
   rfl
 subst hvs
 obtain⟨q2,q3,c,t,q4,q5,q6⟩:=c6 b _ hs
 have hbl:b<w.heap.size:=(Array.getElem?_eq_some_iff.1 q4).1
 have hw0:0<a8.w α:=a8.pos
 have hcs:c.size=l.length*a8.w α+sp.length:=by rw[q5.1,List.length_append,aK]
 have hcell:∀i(hi:i<l.length),(c.toList.drop (i*a8.w α)).take (a8.w α)=enc l[i]:=fun i hi=>by
  have hle:i*a8.w α+a8.w α≤l.length*a8.w α:=by rw[←Nat.succ_mul];exact Nat.mul_le_mul_right _ hi
  refine hdec w G.R l[i] _ (by simp;omega) fun j x v hx hv=>?_
  have hj:j<a8.w α:=by
   have:=(List.getElem?_eq_some_iff.1 hv).1
   simp at this;omega
  rw[List.getElem?_take,if_pos hj,List.getElem?_drop]at hv
  exact(q5.2 _ x v (by rw[DD l sp hi hj];exact hx) (by simpa using hv)).1
 have hget:∀(l2:List α)(i r:Nat)(hi:i<l2.length),r<a8.w α→(flatK enc (a8.w α) l2.toArray)[i*a8.w α+r]! =(enc l2[i])[r]!:=fun l2 i r hi hr=>by
  rw[get_flatK _ _ _ _ (by
   calc i*a8.w α+r<(i+1)*a8.w α:=by rw[Nat.add_mul];omega
    _≤l2.toArray.size*a8.w α:=Nat.mul_le_mul_right _ (by rw[List.size_toArray];exact hi))]
  have e1:(i*a8.w α+r)/a8.w α=i:=by rw[Nat.mul_comm,Nat.mul_add_div hw0,Nat.div_eq_of_lt hr,Nat.add_zero]
  have e2:(i*a8.w α+r)% a8.w α=r:=by rw[Nat.mul_comm,Nat.mul_add_mod,Nat.mod_eq_of_lt hr]
  rw[e1,e2]
  simp[hi]
 have hH:HoldsK enc (a8.w α) w b 0 l.toArray:=by
  intro j hj
  rw[size_flatK]at hj
  have hj:j<l.length*a8.w α:=by simpa using hj
  have hi:j/a8.w α<l.length:=by rw[Nat.div_lt_iff_lt_mul hw0];exact hj
  have hr:j % a8.w α<a8.w α:=Nat.mod_lt _ hw0
  have ej:j/a8.w α*a8.w α+j % a8.w α=j:=by
   have:=Nat.div_add_mod j (a8.w α)
   rw[Nat.mul_comm]at this;exact this
  refine⟨?_,?_⟩
  ·rw[Nat.zero_add,cell_of_row w q4]
   have h1:=hcell _ hi
   have h2:((c.toList.drop (j/a8.w α*a8.w α)).take (a8.w α))[j % a8.w α]? =c[j]? :=by rw[List.getElem?_take,if_pos hr,List.getElem?_drop,ej];simp
   rw[←h2,h1]
   have h3:=hget l _ _ hi hr
   rw[ej]at h3
   show _=some ((flatK enc (a8.w α) l.toArray)[j]!)
   rw[h3]
   have:j % a8.w α<(enc l[j/a8.w α]).length:=by rw[hlen];exact hr
   simp[this]
  ·unfold World.frozen?
   simp[q4]
 have hcall:=hcon b 0 cap l.toArray w hH hbl (by simpa using hb)
 rw[List.size_toArray]at hcall
 refine hcall.mono ?_
 rintro e w' ⟨rfl,d',m,os,hp,hsd,rfl⟩
 obtain⟨p1,_,p3⟩:=hp
 have p1:d'.size=l.length:=by simpa using p1
 have hperm:d'.toList.Perm l:=by
  have e1:d'.extract 0 l.toArray.size=d':=by rw[List.size_toArray,←p1];exact Array.extract_size
  have e2:l.toArray.extract 0 l.toArray.size=l.toArray:=Array.extract_size
  have:(d'.extract 0 l.toArray.size).toList.Perm (l.toArray.extract 0 l.toArray.size).toList:=by simpa using p3
  rw[e1,e2]at this
  simpa using this
 obtain⟨l',rfl⟩:∃l':List α,d'=l'.toArray:=⟨d'.toList,by simp⟩
 have hl':l'.length=l.length:=by simpa using p1
 have hperm:l'.Perm l:=by simpa using hperm
 have hsort:l'.Pairwise (fun x y=>ltOf cf y x=false):=by
  rw[List.pairwise_iff_getElem]
  intro i j hi hj hij
  have:=hsd i j (Nat.zero_le _) hij (by omega)
  simpa[hi,hj]using this
 generalize hF:flatK enc (a8.w α) l'.toArray=F
 have hFs:F.size=l.length*a8.w α:=by rw[←hF,size_flatK];simp[hl']
 generalize hw':sortWorldK enc (a8.w α) w b 0 m l'.toArray os=w'
 have ew:w'=grow (mapBlock (Go.Sort.ahead w m) b (putCells id 0 F)) os:=by rw[←hw',←hF];rfl
 have hsz:w.heap.size≤w'.heap.size:=by rw[ew];simp[grow,mapBlock,Go.Sort.ahead]
 have hoth:∀i,i<w.heap.size→i≠b→w'.heap[i]? =w.heap[i]? :=fun i hi hib=>by
  rw[ew,heap_grow_old _ _ (by simpa[mapBlock,Go.Sort.ahead]using hi)]
  unfold mapBlock
  show((Go.Sort.ahead w m).heap.modify b _)[i]? =_
  rw[Array.getElem?_modify,if_neg (fun e=>hib e.symm)]
  rfl
 have hnew:w'.heap[b]? =some (.cells (putCells id 0 F c) t (0,0)):=by
  rw[ew,heap_grow_old _ _ (by simpa[mapBlock,Go.Sort.ahead]using hbl)]
  unfold mapBlock
  show((Go.Sort.ahead w m).heap.modify b _)[b]? =_
  rw[Array.getElem?_modify,if_pos rfl]
  show Option.map _ (w.heap[b]?)=_
  rw[q4];rfl
 have hpres:aG G w G w':=by
  refine⟨by rw[ew];rfl,by rw[ew];rfl,by rw[ew];rfl,by rw[ew];exact Nat.le_add_right _ _,hsz,fun _ _=>Nat.le_refl _,fun i j hi hj=>?_,fun i hi hof=>?_,fun _ _ h=>⟨h,rfl⟩,fun _ _ h=>⟨h,rfl⟩⟩
  ·have hib:i≠b:=fun e=>by subst e;rw[q3]at hj;omega
   exact World.cell?_of_block (hoth i hi hib)
  ·exact hoth i hi fun e=>by subst e;rw[q2]at hof;rcases hof with h|h<;>cases h
 have hg':b9 G w':=⟨fun i hi=>hg.iA i (Nat.le_trans hsz hi),fun i hi=>hg.iU i (Nat.le_trans hsz hi)⟩
 have hlt:∀i,G.O i≠.none→i<w.heap.size:=fun i hi=>hg.lt hi
 refine⟨_,[],_,G,rfl,hq l' hperm hsort,hg',fun i o hi=>?_,⟨#[],rfl,rfl,fun j x y hx=>by simp at hx⟩,hpres⟩
 unfold ab.set at hi
 by_cases hib:i=b
 ·rw[if_pos hib]at hi;injection hi with hi;subst hi;subst hib
  refine⟨q2,q3,_,t,hnew,⟨?_,fun j x y hx hy=>?_⟩,?_⟩
  ·unfold putCells
   rw[Array.size_mapIdx,hcs,List.length_append,aK,hl']
  ·unfold putCells at hy
   rw[Array.getElem?_mapIdx]at hy
   by_cases hj:j<l.length*a8.w α
   ·have hjc:j<c.size:=by omega
    have hi':j/a8.w α<l'.length:=by rw[Nat.div_lt_iff_lt_mul hw0,hl'];exact hj
    have hr:j % a8.w α<a8.w α:=Nat.mod_lt _ hw0
    have ej:j/a8.w α*a8.w α+j % a8.w α=j:=by
     have:=Nat.div_add_mod j (a8.w α)
     rw[Nat.mul_comm]at this;exact this
    rw[Array.getElem?_eq_getElem hjc]at hy
    simp only[Option.map_some,Nat.zero_le,Nat.zero_add,hFs,hj,and_self,if_true,Nat.sub_zero,id]at hy
    have hx2:(a8.cells l'[j/a8.w α])[j % a8.w α]? =some x:=by rw[←DD l' sp hi' hr,ej];exact hx
    have hy2:(enc l'[j/a8.w α])[j % a8.w α]? =some y:=by
     have h3:=hget l' _ _ hi' hr
     rw[ej,hF]at h3
     rw[h3]at hy
     have:j % a8.w α<(enc l'[j/a8.w α]).length:=by rw[hlen];exact hr
     simp[this]at hy⊢
     exact hy
    refine⟨hvr w' G.R _ _ _ _ hx2 hy2,?_⟩
    have hxm:x∈flat l':=by
     have:j<(flat l').length:=by rw[aK,hl'];exact hj
     rw[List.getElem?_append_left this]at hx
     exact List.mem_of_getElem? hx
    have hv:=cm l'
    rw[←hv]at hxm
    obtain⟨x0,_,rfl⟩:=List.mem_map.1 hxm
    exact df.view ..
   ·have hnj:¬(0≤j∧j<0+F.size):=fun h=>hj (by have:=h.2;omega)
    have hy':c[j]? =some y:=by
     cases hcj:c[j]? with
     |none=>rw[hcj]at hy;cases hy
     |some u=>rw[hcj]at hy;simp only[Option.map_some,if_neg hnj]at hy;exact hy
    have hx':(flat l++sp)[j]? =some x:=by
     rw[List.getElem?_append_right (by rw[aK,hl'];omega),aK,hl']at hx
     rw[List.getElem?_append_right (by rw[aK];omega),aK]
     exact hx
    obtain⟨h1,h2⟩:=q5.2 j x y hx' hy'
    exact⟨hpres.vr hg h1,h2.mono fun i hi=>⟨hi,rfl,hoth i (hlt i (by rw[hi];simp)) (fun e=>by subst e;rw[q2]at hi;cases hi)⟩⟩
  ·intro x hx
   rcases List.mem_append.1 hx with hx|hx
   ·refine q6 x (List.mem_append_left _ ?_)
    unfold flat at hx⊢
    rw[List.mem_flatten]at hx⊢
    obtain⟨cs,h1,h2⟩:=hx
    obtain⟨a,h3,rfl⟩:=List.mem_map.1 h1
    exact⟨_,List.mem_map.2 ⟨a,hperm.mem_iff.1 h3,rfl⟩,h2⟩
   ·exact q6 x (List.mem_append_right _ hx)
 ·rw[if_neg hib]at hi
  obtain⟨r1,r2,r3⟩:=c6 i o hi
  refine⟨r1,r2,?_⟩
  have hbk:=hoth i (hlt i (by rw[r1];simp)) hib
  cases o with
  |cells cs=>
   obtain⟨c0,t0,r4,r5,r6⟩:=r3
   exact⟨c0,t0,hbk.trans r4,r5.mono (fun _ _ hv=>hpres.vr hg hv) (fun b' j hb'=>⟨hb',rfl,hoth b' (hlt b' (by rw[hb'];simp)) (fun e=>by subst e;rw[q2]at hb';cases hb')⟩),r6⟩
  |map es=>
   obtain⟨ents,clock,r4,r5,r6⟩:=r3
   exact⟨ents,clock,hbk.trans r4,r5,fun j x y hx hy=>⟨hpres.vr hg (r6 j x y hx hy).1,hpres.vr hg (r6 j x y hx hy).2⟩⟩
end
end Go.AB
end
section
namespace Go.Proofs
open Go.Shelf
def Tryz.yU:Go.Shelf.Ren:=⟨fun|6=>212|15=>251|14=>250|28=>286|29=>287|20=>278|21=>279|22=>280|23=>281|24=>282|25=>283|26=>284|27=>285|46=>319|47=>320|48=>321|49=>322|50=>323|57=>350|n=>n,fun|22=>179|24=>188|25=>289|3=>3|39=>326|0=>0|53=>321|55=>371|4=>4|46=>364|45=>363|50=>71|5=>5|9=>9|66=>402|70=>317|76=>432|77=>122|n=>n,fun|n=>n⟩
theorem Tryz.Kv:Go.Proofs.SlLaysF0.n6 Tryz.prog Tryz.yU:={
 mixed:=by kernel_rfl
 f6:=⟨Tryz.f212.name,by decide,Tryz.func212.trans (congrArg some (by kernel_rfl))⟩
 f14:=⟨Tryz.f250.name,by decide,Tryz.func250.trans (congrArg some (by kernel_rfl))⟩
 f15:=Tryz.func251.trans (congrArg some (by kernel_rfl))
 f20:=⟨Tryz.f278.name,by decide,Tryz.func278.trans (congrArg some (by kernel_rfl))⟩
 f21:=⟨Tryz.f279.name,by decide,Tryz.func279.trans (congrArg some (by kernel_rfl))⟩
 f22:=⟨Tryz.f280.name,by decide,Tryz.func280.trans (congrArg some (by kernel_rfl))⟩
 f23:=⟨Tryz.f281.name,by decide,Tryz.func281.trans (congrArg some (by kernel_rfl))⟩
 f24:=⟨Tryz.f282.name,by decide,Tryz.func282.trans (congrArg some (by kernel_rfl))⟩
 f25:=⟨Tryz.f283.name,by decide,Tryz.func283.trans (congrArg some (by kernel_rfl))⟩
 f26:=⟨Tryz.f284.name,by decide,Tryz.func284.trans (congrArg some (by kernel_rfl))⟩
 f27:=⟨Tryz.f285.name,by decide,Tryz.func285.trans (congrArg some (by kernel_rfl))⟩
 f28:=Tryz.func286.trans (congrArg some (by kernel_rfl))
 f29:=Tryz.func287.trans (congrArg some (by kernel_rfl))
 f46:=⟨Tryz.f319.name,by decide,Tryz.func319.trans (congrArg some (by kernel_rfl))⟩
 f47:=Tryz.func320.trans (congrArg some (by kernel_rfl))
 f48:=Tryz.func321.trans (congrArg some (by kernel_rfl))
 f49:=⟨Tryz.f322.name,by decide,Tryz.func322.trans (congrArg some (by kernel_rfl))⟩
 f50:=⟨Tryz.f323.name,by decide,Tryz.func323.trans (congrArg some (by kernel_rfl))⟩
 f57:=⟨Tryz.f350.name,by decide,Tryz.func350.trans (congrArg some (by kernel_rfl))⟩
 t0:=Tryz.underlying0
 a0:=Tryz.isAgg0
 z0:=Tryz.sizeOf0
 v0:=Tryz.zeroValue0
 t3:=Tryz.underlying3
 a3:=Tryz.isAgg3
 z3:=Tryz.sizeOf3
 v3:=Tryz.zeroValue3
 t4:=Tryz.underlying4
 a4:=Tryz.isAgg4
 z4:=Tryz.sizeOf4
 v4:=Tryz.zeroValue4
 t5:=Tryz.underlying5
 a5:=Tryz.isAgg5
 z5:=Tryz.sizeOf5
 v5:=Tryz.zeroValue5
 t9:=Tryz.underlying9
 a9:=Tryz.isAgg9
 z9:=Tryz.sizeOf9
 v9:=Tryz.zeroValue9
 t22:=Tryz.underlying179
 a22:=Tryz.isAgg179
 z22:=Tryz.sizeOf179
 v22:=Tryz.zeroValue179
 t25:=Tryz.underlying289
 a25:=Tryz.isAgg289
 z25:=Tryz.sizeOf289
 v25:=Tryz.zeroValue289
 t39:=Tryz.underlying326
 a39:=Tryz.isAgg326
 z39:=Tryz.sizeOf326
 v39:=Tryz.zeroValue326
 t45:=Tryz.underlying363
 a45:=Tryz.isAgg363
 z45:=Tryz.sizeOf363
 v45:=Tryz.zeroValue363
 t46:=Tryz.underlying364
 a46:=Tryz.isAgg364
 z46:=Tryz.sizeOf364
 v46:=Tryz.zeroValue364
 t50:=Tryz.underlying71
 a50:=Tryz.isAgg71
 z50:=Tryz.sizeOf71
 v50:=Tryz.zeroValue71
 t53:=Tryz.underlying321
 a53:=Tryz.isAgg321
 z53:=Tryz.sizeOf321
 v53:=Tryz.zeroValue321
 t55:=Tryz.underlying371
 a55:=Tryz.isAgg371
 z55:=Tryz.sizeOf371
 v55:=Tryz.zeroValue371
 t66:=Tryz.underlying402
 a66:=Tryz.isAgg402
 z66:=Tryz.sizeOf402
 v66:=Tryz.zeroValue402
 t70:=Tryz.underlying317
 a70:=Tryz.isAgg317
 z70:=Tryz.sizeOf317
 v70:=Tryz.zeroValue317
 t76:=Tryz.underlying432
 a76:=Tryz.isAgg432
 z76:=Tryz.sizeOf432
 v76:=Tryz.zeroValue432
 t77:=Tryz.underlying122
 a77:=Tryz.isAgg122
 z77:=Tryz.sizeOf122
 v77:=Tryz.zeroValue122}
end Go.Proofs
end
section
namespace Go.AB
open Go
end Go.AB
end
section
namespace Go.AB
open Go
@[go_sem]theorem Yi:((10:Int)≠0)=True:=eq_true (by decide)
@[go_sem]theorem Yj(l:List UInt8)(n:Nat):AB.sub (flat l) 0 (n*1)=flat (part l 0 (n:Int)):=by
  have:=xC 1 l 0 (n:Int) rfl
  rw[Int.sub_zero]at this
  exact this
end Go.AB
end
