/- A part of the proof. -/
import Derived.Test.YtkeagffgdajggaaGreatD25
set_option linter.unusedSimpArgs false
set_option linter.unusedVariables false
section
namespace Go.AB
open Go
def HV(f_0:nz)(kids:List Int):Int×Int->Option ((Int×Int)⊕((Int×aG)⊕(Unit⊕(Int×Int)))):=
 (fun((p49,t50):Int×Int)=>
   if decide (t50<(kids.length:Int))then
    aB (0<=t50/\t50<kids.length)<|
    aJ (jN f_0 (ix kids t50)) fun r64=>
    if r64.2.2 !=0 then
     some (.inr (.inr (.inr (r64.2.1,r64.2.2))))
    else
     if decide (p49<r64.1.eS)then
      some (.inr (.inl (p49,r64.1)))
     else
      some (.inl (bd (p49 -r64.1.eS),bd (t50+1)))
   else
    some (.inr (.inr (.inl ()))))
def pP(f_0:nz):Int×aG×(List Int)×aa×Int->Option ((Int×aG×(List Int)×aa×Int)⊕(Unit⊕(aO×Int×Int))):=
 (fun((p9,x10,No,Zi,t13):Int×aG×(List Int)×aa×Int)=>
   if decide (t13<64)then
    yS (
     aB ((No.length+[x10.n_].length)*8<=room)<|
     aJ (lG Zi x10.v_) fun r31=>
     if x10.eS==(x10.dR.length:Int)then
      aB (0<=p9/\p9<x10.dR.length)<|
      aJ (fN f_0 (ix x10.dR p9)) fun r32=>
      if r32.2.2 !=0 then
       some (.inr ((aO.mk 0 ([]:List Int) (aa.mk 0 0 (ar.mk []) ([]:List aa))),r32.2.1,r32.2.2))
      else
       aJ (lF r32.1) fun r33=>
       if r33 then
        aJ (lH (ix x10.dR p9) r32.1.V (No++[x10.n_]) r31) fun r34=>
        some (.inr (r34,(0:Int),(0:Int)))
       else
        aJ (ff (ix x10.dR p9) r32.1) fun r35=>
        if !r35.2||(r35.1.eS !=1)then
         some (.inr ((aO.mk 0 ([]:List Int) (aa.mk 0 0 (ar.mk []) ([]:List aa))),(0:Int),(24:Int)))
        else
         some (.inl ((0:Int),r35.1,No++[x10.n_],r31))
     else
      yS (
       jY (
        iter (HV f_0 x10.dR) (p9,0)) (fun((p51,x53):Int×aG)=>
        some (.inr (.inl (p51,x53))))
       (nG (fun(_:Unit)=>some (.inl ())) (fun((t61,t62):Int×Int)=>some (.inr (.inr (t61,t62)))))) (fun(_:Unit)=>
       some (.inr ((aO.mk 0 ([]:List Int) (aa.mk 0 0 (ar.mk []) ([]:List aa))),(0:Int),(24:Int))))
      (nG (fun((p38,x40):Int×aG)=>some (.inl (p38,x40,No++[x10.n_],r31))) (fun((t46,t47):Int×Int)=>some (.inr ((aO.mk 0 ([]:List Int) (aa.mk 0 0 (ar.mk []) ([]:List aa))),t46,t47))))) (fun((p20,x22,HT,AO):Int×aG×(List Int)×aa)=>
     some (.inl (p20,x22,HT,AO,bd (t13+1))))
    (fun((t27,t28,t29):aO×Int×Int)=>some (.inr (.inr (t27,t28,t29))))
   else
    some (.inr (.inl ())))
def Z6(d:aD):Option (Int×Int)->(Int×aG)⊕(Unit⊕(Int×Int))->Prop
 |some (m,q),o=>o=.inl (q,nodeAt m (ay d m))
 |none,o=>o=.inr (.inl ())\/o=.inr (.inr (0,24))
theorem U3(f:DV)(h:jg f.aS)(kids:List Int)(hk:kids.length<=1000):∀(r j:Nat)(p:Int),j+r=kids.length->0<=p->p<=4611686018427387904->
 ∃o,uO (HV f.v kids) (r+1) (p,(j:Int)) o/\Z6 f.aS (pick f.aS (kids.drop j) p) o:=by
 intro r
 induction r with
 |zero=>
  intro j p hj h0 h1
  refine⟨.inr (.inl ()),.stop ?_,?_⟩
  ·exact az (by simp;omega) rfl
  ·rw[List.drop_eq_nil_of_le (by omega)];exact .inl rfl
 |succ r ih=>
  intro j p hj h0 h1
  have hjl:j<kids.length:=by omega
  have hd:kids.drop j=kids[j]::kids.drop (j+1):=List.drop_eq_getElem_cons hjl
  have hx:ix kids (j:Int)=kids[j]:=fu hjl
  have step:∀o,(aJ (jN f.v (ix kids (j:Int))) fun r64=>
   if r64.2.2 !=0 then some (.inr (.inr (.inr (r64.2.1,r64.2.2))))
   else if decide (p<r64.1.eS)then some (.inr (.inl (p,r64.1)))
    else some (.inl (bd (p -r64.1.eS),bd ((j:Int)+1))))=o->HV f.v kids (p,(j:Int))=o:=fun o ho=>
   aL (by simp;omega) (au ⟨by omega,by omega⟩ ho)
  rw[hx,VP f _ h,aK]at step
  rw[hd]
  unfold pick
  cases hi:isNode (ay f.aS kids[j])with
  |false=>
   rw[hi]at step
   refine⟨.inr (.inr (0,24)),uO.stop (step _ rfl),.inr rfl⟩
  |true=>
   rw[hi]at step
   have hf:=pb hi
   simp only[if_true]at step⊢
   by_cases hp:p<bZ (ay f.aS kids[j])
   ·rw[if_pos hp]
    refine⟨.inl (p,nodeAt kids[j] (ay f.aS kids[j])),uO.stop (step _ ?_),rfl⟩
    exact az (by simp) (aL (decide_eq_true hp) rfl)
   ·rw[if_neg hp]
    obtain⟨o,h2,h3⟩:=ih (j+1) (p -bZ (ay f.aS kids[j])) (by omega) (by omega) (by omega)
    refine⟨o,.step (step _ ?_) h2,h3⟩
    refine az (by simp) (az (fun hc=>hp (of_decide_eq_true hc)) ?_)
    show some (Sum.inl (bd (p -bZ (ay f.aS kids[j])),bd ((j:Int)+1)))=_
    rw[aI (by omega) (by omega),aI (by omega) (by omega)]
    rfl
theorem Wn(f_0:nz)(p_1:Int):jU f_0 p_1=(aJ (oi f_0) fun r1=>
 if r1.2.2 !=0 then
  some ((aO.mk 0 ([]:List Int) (aa.mk 0 0 (ar.mk []) ([]:List aa))),r1.2.1,r1.2.2)
 else
  if(decide (p_1<0))||(decide (p_1>=r1.1.eS))then
   some ((aO.mk 0 ([]:List Int) (aa.mk 0 0 (ar.mk []) ([]:List aa))),0,25)
  else
   aJ (di ([]:List aa)) fun r2=>
   yS (
    jY (iter (pP f_0) (p_1,r1.1,([]:List Int),r2,0)) (fun(_:Unit)=>some (.inl ()))
    (fun((t16,t17,t18):aO×Int×Int)=>some (.inr (t16,t17,t18)))) (fun(_:Unit)=>
    some ((aO.mk 0 ([]:List Int) (aa.mk 0 0 (ar.mk []) ([]:List aa))),0,24))
   (fun((t5,t6,t7):aO×Int×Int)=>some (t5,t6,t7))):=rfl
def acI:Unit⊕(aO×Int×Int)->aO×Int×Int
 |.inl ()=>(mP,0,24)
 |.inr x=>x
theorem P4{o:af}(hw:W 300 o.V):(cW o).length<=299:=by
 have hL:((cK o.V qL).1.L.length:Int)<=299:=VG (n:=299) hw (get_eq (Small.ZP hw (by decide)) qL)
 rw[CL]
 unfold mK;omega
theorem TN{o:af}(h:Small o.V):lF o=some (oE o D6):=by
 unfold lF
 rw[show dJ o (ar.mk [80,97,103,101])=_ from FD h D6];rfl
theorem Uo(f:DV)(h:jg f.aS):∀(k t:Nat)(n p:Int)(path:List Int)(g:Gv),t+k=64->path.length=t->isNode (ay f.aS n)=true->0<=p->p<bZ (ay f.aS n)->
 ∃o,uO (pP f.v) (k+1) (p,nodeAt n (ay f.aS n),path,g.v,(t:Int)) o/\acI o=((hG f.aS k n p path g).1,0,(hG f.aS k n p path g).2):=by
 intro k
 induction k with
 |zero=>
  intro t n p path g ht hpl hi h0 h1
  exact⟨.inl (),.stop (az (by simp;omega) rfl),rfl⟩
 |succ k ih=>
  intro t n p path g ht hpl hi h0 h1
  have hs:=h.small n
  have hf:=pb hi
  have cO:=BT
  have hgo:∀{n' p':Int}{o},pP f.v (p,nodeAt n (ay f.aS n),path,g.v,(t:Int))=some (.inl (p',nodeAt n' (ay f.aS n'),path++[n],(g.ka (ay f.aS n).V).v,bd ((t:Int)+1)))->
   isNode (ay f.aS n')=true->0<=p'->p'<bZ (ay f.aS n')->(hG f.aS k n' p' (path++[n]) (g.ka (ay f.aS n).V))=o->
   ∃o',uO (pP f.v) (k+1+1) (p,nodeAt n (ay f.aS n),path,g.v,(t:Int)) o'/\acI o'=(o.1,0,o.2):=by
   intro n' p' o e1 e2 e3 e4 e5
   obtain⟨o',k1,k2⟩:=ih (t+1) n' p' (path++[n]) (g.ka (ay f.aS n).V) (by omega) (by simp;omega) e2 e3 e4
   refine⟨o',.step (t:=(p',nodeAt n' (ay f.aS n'),path++[n],(g.ka (ay f.aS n).V).v,((t+1:Nat):Int))) ?_ k1,by rw[k2,e5]⟩
   rw[e1,aI (by omega) (by omega)];rfl
  unfold hG
  by_cases hc:bZ (ay f.aS n)=((cW (ay f.aS n)).length:Int)
  ·rw[if_pos hc]
   have hm:=h.small (ix (cW (ay f.aS n)) p)
   generalize hmm:ix (cW (ay f.aS n)) p=m at*
   have hx:fN f.v (ix (nodeAt n (ay f.aS n)).dR p)=some (ay f.aS m,0,0):=by rw[show ix (nodeAt n (ay f.aS n)).dR p=m from hmm];exact L4 f m h
   by_cases hp:oE (ay f.aS m) D6=true
   ·rw[if_pos hp]
    refine⟨.inr (⟨m,path++[n],((g.ka (ay f.aS n).V).leave (ay f.aS m).V).v⟩,0,0),.stop ?_,rfl⟩
    refine aL (by simp;omega) ?_
    refine en (au (by simp;omega) (aw (Mw g _ hs) (aL (by simp[nodeAt,hc]) (au (by show 0<=p/\p<((cW (ay f.aS n)).length:Int);omega) (aw hx (az (by simp) (aw (TN hm) (aL hp (aw (by rw[show ix (nodeAt n (ay f.aS n)).dR p=m from hmm];exact ZC _ _ _ _ hm) rfl))))))))) rfl
   ·rw[if_neg hp]
    obtain⟨x,e1,e2⟩:=LC m (ay f.aS m) (h.Eu m)
    have e1':ff (ix (nodeAt n (ay f.aS n)).dR p) (ay f.aS m)=some (x,isNode (ay f.aS m)):=by rw[show ix (nodeAt n (ay f.aS n)).dR p=m from hmm];exact e1
    have go:∀{z:(Int×aG×(List Int)×aa)⊕(aO×Int×Int)}{r},(if !(isNode (ay f.aS m))||(x.eS !=1)then some (.inr (mP,(0:Int),(24:Int)))else some (.inl ((0:Int),x,path++[n],(g.ka (ay f.aS n).V).v)))=some z->
     (match z with|.inl (p20,x22,HT,AO)=>some (.inl (p20,x22,HT,AO,bd ((t:Int)+1)))|.inr (t27,t28,t29)=>some (.inr (.inr (t27,t28,t29))))=r->pP f.v (p,nodeAt n (ay f.aS n),path,g.v,(t:Int))=r:=by
     intro z r hz hr
     refine aL (by simp;omega) (en (z:=z) (au (by simp;omega) (aw (Mw g _ hs) (aL (by simp[nodeAt,hc]) (au (by show 0<=p/\p<((cW (ay f.aS n)).length:Int);omega) (aw hx (az (by simp) (aw (TN hm) (az hp (aw e1' hz))))))))) ?_)
     rw[<-hr]
     cases z<;>rfl
    by_cases hq:isNode (ay f.aS m)=true/\bZ (ay f.aS m)=1
    ·rw[if_pos hq]
     have hxx:=e2 hq.1
     subst hxx
     exact hgo (go (az (by simp[hq.1,nodeAt,hq.2]) rfl) rfl) hq.1 (Int.le_refl 0) (by rw[hq.2];decide) rfl
    ·rw[if_neg hq]
     refine⟨.inr (mP,0,24),.stop (go (z:=.inr (mP,0,24)) (aL ?_ rfl) rfl),rfl⟩
     cases hm1:isNode (ay f.aS m)with
     |false=>rfl
     |true=>
      have:=e2 hm1
      subst this
      have hne:bZ (ay f.aS m)≠1:=fun e=>hq ⟨hm1,e⟩
      simpa[nodeAt]using hne
  ·rw[if_neg hc]
   obtain⟨o,k1,k2⟩:=U3 f h (cW (ay f.aS n)) (by have:=P4 (h.Eu n);omega) (cW (ay f.aS n)).length 0 p (by omega) h0 (by omega)
   rw[List.drop_zero]at k2
   have k3:=k1.iter (by omega)
   have go:∀{z:(Int×aG×(List Int)×aa)⊕(aO×Int×Int)}{r},
    (yS (jY (some o) (fun((p51,x53):Int×aG)=>some (.inr (.inl (p51,x53)))) (nG (fun(_:Unit)=>some (.inl ())) (fun((t61,t62):Int×Int)=>some (.inr (.inr (t61,t62)))))) (fun(_:Unit)=>some (.inr (mP,(0:Int),(24:Int))))
      (nG (fun((p38,x40):Int×aG)=>some (.inl (p38,x40,path++[n],(g.ka (ay f.aS n).V).v))) (fun((t46,t47):Int×Int)=>some (.inr (mP,t46,t47)))))=some z->
    (match z with|.inl (p20,x22,HT,AO)=>some (.inl (p20,x22,HT,AO,bd ((t:Int)+1)))|.inr (t27,t28,t29)=>some (.inr (.inr (t27,t28,t29))))=r->pP f.v (p,nodeAt n (ay f.aS n),path,g.v,(t:Int))=r:=by
    intro z r hz hr
    refine aL (by simp;omega) (en (z:=z) (au (by simp;omega) (aw (Mw g _ hs) (az (by simpa[nodeAt]using hc) ?_))) ?_)
    ·rw[<-hz,<-k3];rfl
    ·rw[<-hr]
     cases z<;>rfl
   cases hpk:pick f.aS (cW (ay f.aS n)) p with
   |none=>
    rw[hpk]at k2
    refine⟨.inr (mP,0,24),.stop (go (z:=.inr (mP,0,24)) ?_ rfl),rfl⟩
    rcases k2 with rfl|rfl<;>rfl
   |some mq=>
    obtain⟨m,q⟩:=mq
    obtain⟨_,p2,p3,p4⟩:=C5 h0 hpk
    rw[hpk]at k2
    have k2':o=.inl (q,nodeAt m (ay f.aS m)):=k2
    subst k2'
    exact hgo (go (z:=.inl (q,nodeAt m (ay f.aS m),path++[n],(g.ka (ay f.aS n).V).v)) rfl rfl) p2 p3 p4 rfl
def isRoot(o:af):Bool:=oE o wi&&((cK o.V qa).1.Kind==8)
def mD(f:DV):Int:=(cK (ay f.aS f.aS.cM).V qa).1.N
theorem aem(f:DV)(h:jg f.aS):oi f.v=some (if isRoot (ay f.aS f.aS.cM)then(if isNode (ay f.aS (mD f))then(nodeAt (mD f) (ay f.aS (mD f)),0,0)else(YE,0,24))else(YE,0,23)):=by
 have hs:=h.small f.aS.cM
 unfold oi
 rw[show sY f.v=some f.aS.cM from rfl,aK,L4 f _ h,aK]
 refine az (by simp) ?_
 have hr:np (ay f.aS f.aS.cM)=some (if isRoot (ay f.aS f.aS.cM)then(mD f,true)else(0,false)):=by
  unfold np
  rw[show bc (ay f.aS f.aS.cM).V (ar.mk [80,97,103,101,115])=_ from get_eq hs qa,show dJ (ay f.aS f.aS.cM) (ar.mk [67,97,116,97,108,111,103])=_ from FD hs wi]
  simp only[aK]
  unfold isRoot
  cases oE (ay f.aS f.aS.cM) wi<;>cases hk:((cK (ay f.aS f.aS.cM).V qa).1.Kind==8)<;>simp[bne,hk,mD]
 rw[hr,aK]
 cases isRoot (ay f.aS f.aS.cM)with
 |false=>rfl
 |true=>
  simp only[if_true,Bool.not_true,Bool.false_eq_true,if_false]
  rw[VP f _ h,aK]
def im(f:DV)(p:Int):aO×Int:=
 if isRoot (ay f.aS f.aS.cM)=true then
  if isNode (ay f.aS (mD f))=true then
   if 0<=p/\p<bZ (ay f.aS (mD f))then hG f.aS 64 (mD f) p [] ⟨none,none,none,none⟩else(mP,25)
  else(mP,24)
 else(mP,23)
theorem find_eq(f:DV)(p:Int)(h:jg f.aS):jU f.v p=some ((im f p).1,0,(im f p).2):=by
 rw[Wn,aem f h,aK]
 unfold im
 cases isRoot (ay f.aS f.aS.cM)with
 |false=>rfl
 |true=>
  cases hn:isNode (ay f.aS (mD f))with
  |false=>rfl
  |true=>
   simp only[if_true]
   refine az (by simp) ?_
   by_cases hp:0<=p/\p<bZ (ay f.aS (mD f))
   ·rw[if_pos hp]
    refine az (by simp[nodeAt];omega) (aw RG ?_)
    obtain⟨o,k1,k2⟩:=Uo f h 64 0 (mD f) p [] ⟨none,none,none,none⟩ rfl rfl hn hp.1 hp.2
    have k3:=k1.iter (by decide)
    rw[<-k2]
    have e:∀(o:Unit⊕(aO×Int×Int)),(yS (jY (some o) (fun(_:Unit)=>some (.inl ())) (fun((t16,t17,t18):aO×Int×Int)=>some (.inr (t16,t17,t18)))) (fun(_:Unit)=>some ((aO.mk 0 ([]:List Int) (aa.mk 0 0 (ar.mk []) ([]:List aa))),0,24)) (fun((t5,t6,t7):aO×Int×Int)=>some (t5,t6,t7)))=some (acI o):=fun o=>by cases o<;>rfl
    rw[show iter (pP f.v) (p,nodeAt (mD f) (ay f.aS (mD f)),([]:List Int),Gv.v ⟨none,none,none,none⟩,0)=some o from k3]
    rw[e,k2]
   ·rw[if_neg hp]
    exact aL (by simp[nodeAt];omega) rfl
end Go.AB
end
section
namespace Go.AB
open Go
def VF(d:aD):List Int->Int->Prop
 |[],_=>False
 |[a],m=>m∈cW (ay d a)
 |a::b::l,m=>b∈cW (ay d a)/\VF d (b::l) m
def qD(d:aD)(g:Gv)(way:List Int):Gv:=way.foldl (fun g a=>g.ka (ay d a).V) g
theorem Xd{l:List Int}{p:Int}(h0:0<=p)(h1:p<(l.length:Int)):ix l p∈l:=by rw[oP (by omega)];exact List.getElem_mem _
theorem HU{d:aD}:∀(k:Nat)(n p:Int)(path:List Int)(g:Gv),0<=p->p<bZ (ay d n)->
 ((hG d k n p path g).2≠0/\(hG d k n p path g).1=mP)\/
 ∃way m,(n::way).length<=k/\VF d (n::way) m/\hG d k n p path g=(⟨m,path++(n::way),((qD d g (n::way)).leave (ay d m).V).v⟩,0)
 |0,_,_,_,_,_,_=>.inl ⟨by simp[hG],rfl⟩
 |k+1,n,p,path,g,h0,h1=>by
  unfold hG
  by_cases hc:bZ (ay d n)=((cW (ay d n)).length:Int)
  ·rw[if_pos hc]
   by_cases hp:oE (ay d (ix (cW (ay d n)) p)) D6=true
   ·rw[if_pos hp]
    exact .inr ⟨[],_,by simp,Xd h0 (by omega),rfl⟩
   ·rw[if_neg hp]
    by_cases hq:isNode (ay d (ix (cW (ay d n)) p))=true/\bZ (ay d (ix (cW (ay d n)) p))=1
    ·rw[if_pos hq]
     rcases HU k (ix (cW (ay d n)) p) 0 (path++[n]) (g.ka (ay d n).V) (Int.le_refl 0) (by rw[hq.2];decide)with h|⟨way,m,e1,e2,e3⟩
     ·exact .inl h
     ·refine .inr ⟨ix (cW (ay d n)) p::way,m,by simp at e1⊢;omega,⟨Xd h0 (by omega),e2⟩,?_⟩
      rw[e3]
      simp[qD]
    ·rw[if_neg hq]
     exact .inl ⟨by decide,rfl⟩
  ·rw[if_neg hc]
   cases hpk:pick d (cW (ay d n)) p with
   |none=>exact .inl ⟨by simp,rfl⟩
   |some mq=>
    obtain⟨m0,q⟩:=mq
    obtain⟨p1,p2,p3,p4⟩:=C5 h0 hpk
    rcases HU k m0 q (path++[n]) (g.ka (ay d n).V) p3 p4 with h|⟨way,m,e1,e2,e3⟩
    ·exact .inl h
    ·refine .inr ⟨m0::way,m,by simp at e1⊢;omega,⟨p1,e2⟩,?_⟩
     show hG d k m0 q (path++[n]) (g.ka (ay d n).V)=_
     rw[e3]
     simp[qD]
def CN(d:aD)(key:ar)(o:Option aa)(way:List Int):Option aa:=way.foldl (fun o a=>CY o (cK (ay d a).V key)) o
theorem La(d:aD):∀(way:List Int)(g:Gv),(qD d g way).c=CN d kC g.c way/\(qD d g way).m=CN d kM g.m way/\(qD d g way).r=CN d kR g.r way/\(qD d g way).t=CN d kT g.t way
 |[],_=>⟨rfl,rfl,rfl,rfl⟩
 |a::way,g=>La d way (g.ka (ay d a).V)
theorem ZD{F:Gv}{v:aa}{x:ar×aa}(h:x∈(F.leave v).L):(cK v x.1).2=false/\((x.1=kC/\F.c=some x.2)\/(x.1=kM/\F.m=some x.2)\/(x.1=kR/\F.r=some x.2)\/(x.1=kT/\F.t=some x.2)):=by
 have one:∀{k:ar}{o:Option aa},x∈HL k (oy o (cK v k))->(cK v x.1).2=false/\x.1=k/\o=some x.2:=by
  intro k o hx
  unfold oy at hx
  split at hx
  ·cases hx
  ·rename_i hp
   cases o with
   |none=>cases hx
   |some y=>
    have:x=(k,y):=by simpa[HL]using hx
    subst this
    exact⟨by simpa using hp,rfl,rfl⟩
 unfold Gv.L Gv.leave at h
 simp only[List.mem_append]at h
 rcases h with h|h|h|h
 ·obtain⟨a,b,c⟩:=one h;exact⟨a,.inl ⟨b,c⟩⟩
 ·obtain⟨a,b,c⟩:=one h;exact⟨a,.inr (.inl ⟨b,c⟩)⟩
 ·obtain⟨a,b,c⟩:=one h;exact⟨a,.inr (.inr (.inl ⟨b,c⟩))⟩
 ·obtain⟨a,b,c⟩:=one h;exact⟨a,.inr (.inr (.inr ⟨b,c⟩))⟩
theorem Zj{d:aD}{way:List Int}{v:aa}{x:ar×aa}(h:x∈((qD d ⟨none,none,none,none⟩ way).leave v).L):(cK v x.1).2=false/\CN d x.1 none way=some x.2:=by
 obtain⟨h1,h2⟩:=ZD h
 obtain⟨c,m,r,t⟩:=La d way ⟨none,none,none,none⟩
 refine⟨h1,?_⟩
 rcases h2 with⟨e,h2⟩|⟨e,h2⟩|⟨e,h2⟩|⟨e,h2⟩<;>rw[e]
 ·rw[<-c];exact h2
 ·rw[<-m];exact h2
 ·rw[<-r];exact h2
 ·rw[<-t];exact h2
def abt(d:aD)(key:ar)(l:aa)(way:List Int):aa:=way.foldl (fun l a=>if(cK (ay d a).V key).2 then(cK (ay d a).V key).1 else l) l
theorem P5(d:aD)(key:ar):∀(way:List Int)(o:Option aa)(l x:aa),(∀y,o=some y->l=y)->CN d key o way=some x->abt d key l way=x
 |[],o,l,x,h,e=>h x e
 |a::way,o,l,x,h,e=>by
  refine P5 d key way (CY o (cK (ay d a).V key)) _ x (fun y hy=>?_) e
  show(if(cK (ay d a).V key).2 then(cK (ay d a).V key).1 else l)=y
  unfold CY at hy
  cases hp:(cK (ay d a).V key).2 with
  |true=>
   rw[hp]at hy
   simp only[if_true]at hy⊢
   injection hy
  |false=>
   rw[hp]at hy
   simp only[Bool.false_eq_true,if_false]at hy⊢
   exact h y hy
end Go.AB
end
section
namespace Go.AB
open Go
theorem qp(o:af)(hw:W 300 o.V):dp o=some (if isNode o then(bZ o,cW o,true)else(0,[],false)):=by
 have hs:=Small.ZP hw (by decide)
 have hL:((cK o.V qL).1.L.length:Int)<=299:=VG (n:=299) hw (get_eq hs qL)
 obtain⟨y,hy,hyc⟩:=Xn (cK o.V qL).1.L (by omega)
 unfold dp
 rw[show c9 o.V (ar.mk [75,105,100,115])=_ from BS hs qL,show c9 o.V (ar.mk [67,111,117,110,116])=_ from BS hs wj,show dY o (ar.mk [80,97,103,101,115])=_ from IJ hs qa]
 simp only[aK]
 rw[hy,hyc]
 cases hb:s6 o with
 |true=>
  have hn:isNode o=false:=by unfold isNode;rw[hb];rfl
  rw[hn]
  refine aL ?_ rfl
  have hb':=hb
  unfold s6 mK at hb'
  rw[hb'];rfl
 |false=>
  have hb':=hb
  unfold s6 mK at hb'
  rw[hb',Bool.false_or]
  by_cases hr:((decide ((cK o.V wj).1.N<((cK o.V qL).1.L.length:Int)))||(decide ((cK o.V wj).1.N>2048)))=true
  ·have hn:isNode o=false:=by
    unfold isNode bZ mK
    cases hh:(decide ((cK o.V wj).1.N>=((cK o.V qL).1.L.length:Int))&&decide ((cK o.V wj).1.N<=2048))with
    |false=>simp
    |true=>
     simp only[Bool.or_eq_true,Bool.and_eq_true,decide_eq_true_eq]at hr hh
     omega
   rw[hn]
   exact aL hr rfl
  ·refine az hr ?_
   simp only[Bool.not_eq_true,Bool.or_eq_false_iff,decide_eq_false_iff_not]at hr
   have hc:(decide (bZ o>=((mK o).L.length:Int))&&decide (bZ o<=2048))=true:=by
    unfold bZ mK
    simp only[Bool.and_eq_true,decide_eq_true_eq]
    omega
   unfold Ve
   cases ha:jX (cK o.V qL).1.L with
   |true=>
    have hn:isNode o=true:=by
     unfold isNode
     rw[hb,hc,show jX (mK o).L=true from ha];rfl
    rw[hn];rfl
   |false=>
    have hn:isNode o=false:=by
     unfold isNode
     rw[show jX (mK o).L=false from ha];simp
    rw[hn];rfl
def Jq(way:List aa):Gv:=way.foldl (fun g v=>g.ka v) ⟨none,none,none,none⟩
theorem AP(way:List aa)(v:aa):Jq (way++[v])=(Jq way).ka v:=by unfold Jq;rw[List.foldl_append];rfl
def qb(key:ar)(way:List aa):Option aa:=way.foldl (fun o v=>CY o (cK v key)) none
theorem Wu:∀(way:List aa)(g:Gv),(way.foldl (fun g v=>g.ka v) g).c=way.foldl (fun o v=>CY o (cK v kC)) g.c/\(way.foldl (fun g v=>g.ka v) g).m=way.foldl (fun o v=>CY o (cK v kM)) g.m/\
 (way.foldl (fun g v=>g.ka v) g).r=way.foldl (fun o v=>CY o (cK v kR)) g.r/\(way.foldl (fun g v=>g.ka v) g).t=way.foldl (fun o v=>CY o (cK v kT)) g.t
 |[],_=>⟨rfl,rfl,rfl,rfl⟩
 |a::way,g=>Wu way (g.ka a)
def R8:Nat->ar
 |0=>kC
 |1=>kM
 |2=>kR
 |_=>kT
theorem ac7{k:Nat}(h:k<4):ix [kC,kM,kR,kT] (k:Int)=R8 k:=by rcases(by omega:k=0\/k=1\/k=2\/k=3)with rfl|rfl|rfl|rfl<;>rfl
def lS(fj:aa)(way:List aa)(k:Nat):List (ar×aa):=HL (R8 k) (oy (qb (R8 k) way) (cK fj (R8 k)))
def eZ(fj:aa)(way:List aa):Nat->List (ar×aa)
 |0=>[]
 |k+1=>eZ fj way k++lS fj way k
theorem Mm(fj:aa)(way:List aa):eZ fj way 4=((Jq way).leave fj).L:=by
 obtain⟨c,m,r,t⟩:=Wu way ⟨none,none,none,none⟩
 have e:∀{a b:Option aa}{k:ar},a=b->oy a (cK fj k)=oy b (cK fj k):=fun h=>by rw[h]
 show((([]++lS fj way 0)++lS fj way 1)++lS fj way 2)++lS fj way 3=_
 unfold Gv.L Gv.leave lS
 rw[show(Jq way).c=qb kC way from c,show(Jq way).m=qb kM way from m,show(Jq way).r=qb kR way from r,show(Jq way).t=qb kT way from t]
 simp[R8]
theorem AF(fj:aa)(way:List aa):∀k,(eZ fj way k).length<=k
 |0=>Nat.le_refl 0
 |k+1=>by
  have:=AF fj way k
  have h2:(lS fj way k).length<=1:=by
   unfold lS
   cases oy (qb (R8 k) way) (cK fj (R8 k))<;>simp[HL]
  show(eZ fj way k++lS fj way k).length<=k+1
  rw[List.length_append];omega
theorem Pl:∀(A B:List (ar×aa)),ox (A++B)=ox A++ox B
 |[],_=>rfl
 |a::A,B=>by show _::_::ox (A++B)=_;rw[Pl A B];rfl
theorem Zh{v:aa}(h:Small v)(key:ar):∃r,c6 v key=some r/\decide (r>=0)=(cK v key).2:=by
 obtain⟨r,h1,h2,h3⟩:=kq v key h
 refine⟨r,h1,?_⟩
 have hs:(v.L.length:Int)<=4611686018427387904:=h
 have hg:=get_eq h key
 unfold bc at hg
 rw[h1,aK]at hg
 by_cases h0:r<0
 ·rw[if_pos (by simpa using h0)]at hg
  injection hg with hg
  rw[<-hg];simp;omega
 ·rw[if_neg (by simpa using h0),aI (by omega) (by omega)]at hg
  by_cases h4:(r+1==(v.L.length:Int))=true
  ·rw[if_pos h4]at hg
   injection hg with hg
   rw[<-hg];simp;omega
  ·rw[if_neg h4,dE (by have:¬r+1=(v.L.length:Int):=(by simpa using h4);exact⟨by omega,by omega⟩)]at hg
   injection hg with hg
   rw[<-hg];simp;omega
def I3(out:aa)(key:ar):Option aa->aa
 |none=>out
 |some x=>⟨out.Kind,out.N,out.S,out.L++[⟨5,0,key,[]⟩,x]⟩
theorem R9(key:ar)(way:List aa)(j:Nat)(h:j<way.length):qb key (way.take (j+1))=CY (qb key (way.take j)) (cK way[j] key):=by
 unfold qb
 rw[List.take_add_one,List.foldl_append]
 simp[h]
theorem Uf(key:ar)(way:List aa)(out:aa)(hl:way.length<=1000)(ho:out.L.length<=100)(hs:∀v∈way,Small v)(c:Prop)[Decidable c](hc:c):
 iter (fun(j15:Int)=>
        if decide (j15>=0)then
         aB (0<=j15/\j15<way.length)<|
         aB c<|
         aJ (c9 (ix way j15) key) fun r22=>
         if r22.2 then
          aB c<|
          aB ((out.L.length+[(aa.mk 5 0 key ([]:List aa)),r22.1].length)*56<=room)<|
          some (.inr (aa.mk out.Kind out.N out.S (out.L++[(aa.mk 5 0 key ([]:List aa)),r22.1])))
         else
          some (.inl (bd (j15 -1)))
        else
         some (.inr out)) (bd ((way.length:Int) -1))=some (I3 out key (qb key way)):=by
 have akL:∀j,j<=way.length->uO (fun(j15:Int)=>
  if decide (j15>=0)then
   aB (0<=j15/\j15<way.length)<|
   aB c<|
   aJ (c9 (ix way j15) key) fun r22=>
   if r22.2 then
    aB c<|
    aB ((out.L.length+[(aa.mk 5 0 key ([]:List aa)),r22.1].length)*56<=room)<|
    some (.inr (aa.mk out.Kind out.N out.S (out.L++[(aa.mk 5 0 key ([]:List aa)),r22.1])))
   else
    some (.inl (bd (j15 -1)))
  else
   some (.inr out)) (j+1) ((j:Int) -1) (I3 out key (qb key (way.take j))):=by
  intro j
  induction j with
  |zero=>exact fun _=>.stop (az (by decide) rfl)
  |succ j ih=>
   intro hj
   have hjl:j<way.length:=by omega
   rw[show((j+1:Nat):Int) -1=(j:Int) by omega,R9 key way j hjl]
   have hx:ix way (j:Int)=way[j]:=fu hjl
   have cO:=BT
   cases hp:(cK way[j] key).2 with
   |true=>
    refine .stop (aL (by simp) (au (by omega) (au hc (aw (by rw[hx];exact BS (hs _ (List.getElem_mem hjl)) key) (aL hp (au hc (au (by simp;omega) ?_)))))))
    simp[CY,hp,I3]
   |false=>
    refine .step (t:=(j:Int) -1) (aL (by simp) (au (by omega) (au hc (aw (by rw[hx];exact BS (hs _ (List.getElem_mem hjl)) key) (az (by rw[hp];decide) ?_))))) ?_
    ·rw[aI (by omega) (by omega)]
    ·have e:CY (qb key (way.take j)) (cK way[j] key)=qb key (way.take j):=by simp[CY,hp]
     rw[e]
     exact ih (by omega)
 have:=(akL way.length (Nat.le_refl _)).iter (by omega)
 rw[List.take_length]at this
 rw[aI (by omega) (by omega)]
 exact this
theorem Wy(fj:aa)(way:List aa)(hp:Small fj)(hl:way.length<=1000)(hs:∀v∈way,Small v):jH fj way=some ((Jq way).leave fj).v:=by
 unfold jH lB
 rw[aK]
 refine iV (gW (o:=((Jq way).leave fj).v) 4 (fun k=>fI (eZ fj way k)) rfl (by decide) (fun k hk=>?_) ?_) rfl
 ·have hcl:=AF fj way k
  have hdl:(fI (eZ fj way k)).L.length=2*(eZ fj way k).length:=nI _
  refine aL (by show decide ((k:Int)<((4:Nat):Int))=true;simp;omega) (iV (a:=fI (eZ fj way (k+1))) (au (by show 0<=(k:Int)/\(k:Int)<((4:Nat):Int);omega) ?_) rfl)
  change aJ (fx fj (ix [kC,kM,kR,kT] (k:Int))) (fun r14=>if decide (r14>=0)=true then some _ else iter (fun(j15:Int)=>
   if decide (j15>=0)then
    aB (0<=j15/\j15<way.length)<|
    aB (0<=(k:Int)/\(k:Int)<((4:Nat):Int))<|
    aJ (c9 (ix way j15) (ix [kC,kM,kR,kT] (k:Int))) fun r22=>
    if r22.2 then
     aB (0<=(k:Int)/\(k:Int)<((4:Nat):Int))<|
     aB (((fI (eZ fj way k)).L.length+[(aa.mk 5 0 (ix [kC,kM,kR,kT] (k:Int)) ([]:List aa)),r22.1].length)*56<=room)<|
     some (.inr (aa.mk (fI (eZ fj way k)).Kind (fI (eZ fj way k)).N (fI (eZ fj way k)).S ((fI (eZ fj way k)).L++[(aa.mk 5 0 (ix [kC,kM,kR,kT] (k:Int)) ([]:List aa)),r22.1])))
    else
     some (.inl (bd (j15 -1)))
   else
    some (.inr (fI (eZ fj way k)))) (bd ((way.length:Int) -1)))=_
  rw[ac7 hk,nv]
  obtain⟨r,h1,h2⟩:=Zh hp (R8 k)
  rw[h1,aK,h2]
  have e1:fI (eZ fj way (k+1))=I3 (fI (eZ fj way k)) (R8 k) (oy (qb (R8 k) way) (cK fj (R8 k))):=by
   show fI (eZ fj way k++lS fj way k)=_
   unfold fI lS
   rw[Pl]
   cases oy (qb (R8 k) way) (cK fj (R8 k))with
   |none=>simp[HL,ox,I3]
   |some x=>simp[HL,ox,I3]
  rw[e1]
  cases hq:(cK fj (R8 k)).2 with
  |true=>
   refine aL rfl ?_
   simp[oy,hq,I3]
  |false=>
   refine az (by simp) ?_
   rw[Uf (R8 k) way _ hl (by omega) hs _ (by omega)]
   simp[oy,hq]
 ·refine az (by decide) ?_
  rw[Mm];rfl
end Go.AB
end
section
namespace Go.AB
open Go
def YR(l:aO):bH:=⟨l.cQ,l.Path,l.ag⟩
abbrev Ua:bH:=bH.mk 0 ([]:List Int) (aa.mk 0 0 (ar.mk []) ([]:List aa))
def Vh(d:aD)(fuel:Nat)(kids:List Int)(path:List Int)(way:List aa):Int×Int->Option ((Int×Int)⊕(Unit⊕(bH×Int×Int))):=fun((p11,k12):Int×Int)=>
        if decide (k12<(kids.length:Int))then
         aB (0<=k12/\k12<kids.length)<|
         aJ (eD (nJ d) (ix kids k12)) fun r17=>
         if r17.2.2 !=0 then
          some (.inr (.inr ((bH.mk 0 ([]:List Int) (aa.mk 0 0 (ar.mk []) ([]:List aa))),r17.2.1,r17.2.2)))
         else
          aJ (dp r17.1) fun r18=>
          if !r18.2.2 then
           some (.inr (.inr ((bH.mk 0 ([]:List Int) (aa.mk 0 0 (ar.mk []) ([]:List aa))),(0:Int),(24:Int))))
          else
           if decide (p11<r18.1)then
            aB (0<=k12/\k12<kids.length)<|
            aJ (dq fuel (nJ d) (ix kids k12) r17.1 p11 path way) fun r19=>
            some (.inr (.inr (r19.1,r19.2.1,r19.2.2)))
           else
            some (.inl (bd (p11 -r18.1),bd (k12+1)))
        else
         some (.inr (.inl ()))
def Yf(d:aD)(k:Nat)(path:List Int)(g:Gv):Option (Int×Int)->Unit⊕(bH×Int×Int)->Prop
 |none,o=>o=.inl ()\/o=.inr (Ua,0,24)
 |some (m,q),o=>o=.inr (YR (hG d k m q path g).1,0,(hG d k m q path g).2)
theorem SM(d:aD)(h:jg d)(fuel k:Nat)(kids:List Int)(hk:kids.length<=1000)(path:List Int)(way:List aa)
 (agH:∀m q,isNode (ay d m)=true->0<=q->q<bZ (ay d m)->dq fuel (nJ d) m (ay d m) q path way=some (YR (hG d k m q path (Jq way)).1,0,(hG d k m q path (Jq way)).2)):∀(r j:Nat)(p:Int),j+r=kids.length->0<=p->p<=4611686018427387904->
 ∃o,uO (Vh d fuel kids path way) (r+1) (p,(j:Int)) o/\Yf d k path (Jq way) (pick d (kids.drop j) p) o:=by
 intro r
 induction r with
 |zero=>
  intro j p hj h0 h1
  refine⟨.inl (),.stop ?_,?_⟩
  ·exact az (by simp;omega) rfl
  ·rw[List.drop_eq_nil_of_le (by omega)];exact .inl rfl
 |succ r ih=>
  intro j p hj h0 h1
  have hjl:j<kids.length:=by omega
  have hd:kids.drop j=kids[j]::kids.drop (j+1):=List.drop_eq_getElem_cons hjl
  have hx:ix kids (j:Int)=kids[j]:=fu hjl
  rw[hd]
  unfold pick
  cases hi:isNode (ay d kids[j])with
  |false=>
   refine⟨.inr (Ua,0,24),.stop (aL (by simp;omega) (au (by omega) (aw (by rw[hx];exact tH d _ h) (az (by simp) (aw (qp _ (h.Eu _)) ?_))))),.inr rfl⟩
   rw[hi];rfl
  |true=>
   have hf:=pb hi
   simp only[if_true]
   by_cases hp:p<bZ (ay d kids[j])
   ·rw[if_pos hp]
    refine⟨.inr (YR (hG d k kids[j] p path (Jq way)).1,0,(hG d k kids[j] p path (Jq way)).2),.stop (aL (by simp;omega) (au (by omega) (aw (by rw[hx];exact tH d _ h) (az (by simp) (aw (qp _ (h.Eu _)) ?_))))),rfl⟩
    rw[hi]
    exact az (by simp) (aL (decide_eq_true hp) (au (by omega) (aw (by rw[hx];exact agH _ _ hi h0 hp) rfl)))
   ·rw[if_neg hp]
    obtain⟨o,h2,h3⟩:=ih (j+1) (p -bZ (ay d kids[j])) (by omega) (by omega) (by omega)
    refine⟨o,.step (t:=(p -bZ (ay d kids[j]),((j+1:Nat):Int))) (aL (by simp;omega) (au (by omega) (aw (by rw[hx];exact tH d _ h) (az (by simp) (aw (qp _ (h.Eu _)) ?_))))) h2,h3⟩
    rw[hi]
    refine az (by simp) (az (fun hc=>hp (of_decide_eq_true hc)) ?_)
    show some (Sum.inl (bd (p -bZ (ay d kids[j])),bd ((j:Int)+1)))=_
    rw[aI (by omega) (by omega),aI (by omega) (by omega)]
    rfl
theorem QC(d:aD)(h:jg d):∀(k:Nat)(n p:Int)(path:List Int)(way:List aa)(fuel:Nat),path.length+k=64->way.length=path.length->(∀v∈way,Small v)->k<fuel->isNode (ay d n)=true->0<=p->p<bZ (ay d n)->
 dq fuel (nJ d) n (ay d n) p path way=some (YR (hG d k n p path (Jq way)).1,0,(hG d k n p path (Jq way)).2)
 |_,_,_,_,_,0,_,_,_,h,_,_,_=>by omega
 |0,n,p,path,way,fuel+1,hk,_,_,_,_,_,_=>by
  rw[dq]
  exact aL (by simp;omega) rfl
 |k+1,n,p,path,way,fuel+1,hk,hwl,hws,hf,hi,h0,h1=>by
  have hs:=h.small n
  have hfa:=pb hi
  have cO:=BT
  have agY:∀v∈way++[(ay d n).V],Small v:=fun v hv=>by
   rcases List.mem_append.1 hv with hv|hv
   ·exact hws v hv
   ·rw[List.mem_singleton.1 hv];exact hs
  have Gz:∀m q,isNode (ay d m)=true->0<=q->q<bZ (ay d m)->dq fuel (nJ d) m (ay d m) q (path++[n]) (way++[(ay d n).V])=some (YR (hG d k m q (path++[n]) ((Jq way).ka (ay d n).V)).1,0,(hG d k m q (path++[n]) ((Jq way).ka (ay d n).V)).2):=by
   intro m q e1 e2 e3
   rw[QC d h k m q (path++[n]) (way++[(ay d n).V]) fuel (by simp;omega) (by simp[hwl]) agY (by omega) e1 e2 e3,AP]
  rw[dq]
  unfold hG
  refine az (by simp;omega) (au (by simp;omega) (au (by simp;omega) (au (by simp;omega) (au (by simp;omega) (aw (a:=(bZ (ay d n),cW (ay d n),true)) (by rw[qp _ (h.Eu n),hi];rfl) ?_)))))
  have hkl:=P4 (h.Eu n)
  by_cases hc:bZ (ay d n)=((cW (ay d n)).length:Int)
  ·rw[if_pos hc]
   refine aL (by simpa using hc) (au (by show 0<=p/\p<((cW (ay d n)).length:Int);omega) (aw (tH d _ h) (az (by simp) (aw (IJ (h.small _) D6) ?_))))
   show(if oE (ay d (ix (cW (ay d n)) p)) D6=true then _ else _)=_
   by_cases hp:oE (ay d (ix (cW (ay d n)) p)) D6=true
   ·rw[if_pos hp,if_pos hp]
    refine au (by show 0<=p/\p<((cW (ay d n)).length:Int);omega) (aw (Wy _ _ (h.small _) (by simp;omega) agY) ?_)
    rw[AP];rfl
   ·rw[if_neg hp,if_neg hp]
    have hn:=qp (ay d (ix (cW (ay d n)) p)) (h.Eu _)
    by_cases hq:isNode (ay d (ix (cW (ay d n)) p))=true/\bZ (ay d (ix (cW (ay d n)) p))=1
    ·rw[if_pos hq]
     rw[hq.1]at hn
     refine aw (a:=(bZ (ay d (ix (cW (ay d n)) p)),cW (ay d (ix (cW (ay d n)) p)),true)) hn ?_
     refine az (by simp[hq.2]) (au (by show 0<=p/\p<((cW (ay d n)).length:Int);omega) (aw (Gz _ 0 hq.1 (Int.le_refl 0) (by rw[hq.2];decide)) rfl))
    ·rw[if_neg hq]
     cases hm1:isNode (ay d (ix (cW (ay d n)) p))with
     |false=>
      rw[hm1]at hn
      exact aw (a:=(0,[],false)) hn (aL rfl rfl)
     |true=>
      rw[hm1]at hn
      have hne:bZ (ay d (ix (cW (ay d n)) p))≠1:=fun e=>hq ⟨hm1,e⟩
      exact aw (a:=(bZ (ay d (ix (cW (ay d n)) p)),cW (ay d (ix (cW (ay d n)) p)),true)) hn (aL (by simpa using hne) rfl)
  ·rw[if_neg hc]
   refine az (by simpa using hc) ?_
   obtain⟨o,k1,k2⟩:=SM d h fuel k (cW (ay d n)) (by omega) (path++[n]) (way++[(ay d n).V]) (fun m q e1 e2 e3=>by rw[AP];exact Gz m q e1 e2 e3) (cW (ay d n)).length 0 p (by omega) h0 (by omega)
   rw[List.drop_zero,AP]at k2
   have k3:=k1.iter (by omega)
   cases hpk:pick d (cW (ay d n)) p with
   |none=>
    rw[hpk]at k2
    rcases k2 with rfl|rfl
    ·exact en (z:=.inl ()) (dK (z:=.inl ()) k3 rfl) rfl
    ·exact en (z:=.inr (Ua,0,24)) (dK (z:=.inr (Ua,0,24)) k3 rfl) rfl
   |some mq=>
    obtain⟨m,q⟩:=mq
    rw[hpk]at k2
    have k2':o=.inr (YR (hG d k m q (path++[n]) ((Jq way).ka (ay d n).V)).1,0,(hG d k m q (path++[n]) ((Jq way).ka (ay d n).V)).2):=k2
    subst k2'
    exact en (dK k3 rfl) rfl
def jW(d:aD):DV:=⟨0,d⟩
theorem NS(d:aD)(h:jg d):jd (nJ d)=some (if isRoot (ay d d.cM)then(if isNode (ay d (mD (jW d)))then(mD (jW d),ay d (mD (jW d)),0,0)else(0,zb,0,24))else(0,zb,0,23)):=by
 have hs:=h.small d.cM
 unfold jd
 refine aw (tH d d.cM h) (az (by simp) (aw (BS hs qa) (aw (IJ hs wi) ?_)))
 unfold isRoot
 cases ht:oE (ay d d.cM) wi with
 |false=>rfl
 |true=>
  cases hk:((cK (ay d d.cM).V qa).1.Kind==8)with
  |false=>exact aL (by simp only[bne,hk];rfl) rfl
  |true=>
   refine az (by simp only[bne,hk];decide) (aw (tH d _ h) (az (by simp) (aw (qp _ (h.Eu _)) ?_)))
   show _=some (if isNode (ay d (cK (ay d d.cM).V qa).1.N)=true then _ else _)
   cases isNode (ay d (cK (ay d d.cM).V qa).1.N)<;>rfl
theorem rZ(d:aD):(jW d).aS=d:=rfl
theorem zq(d:aD):(jW d).aS.cM=d.cM:=rfl
theorem aat(d:aD)(h:jg d)(hr:isRoot (ay d d.cM)=false):jd (nJ d)=some (0,zb,0,23):=by rw[NS d h,hr];rfl
theorem Yi(d:aD)(h:jg d)(hr:isRoot (ay d d.cM)=true)(hn:isNode (ay d (mD (jW d)))=false):jd (nJ d)=some (0,zb,0,24):=by rw[NS d h,hr,hn];rfl
theorem aau(d:aD)(h:jg d)(hr:isRoot (ay d d.cM)=true)(hn:isNode (ay d (mD (jW d)))=true):jd (nJ d)=some (mD (jW d),ay d (mD (jW d)),0,0):=by rw[NS d h,hr,hn];rfl
theorem X8(d:aD)(h:jg d)(n:Int)(hn:isNode (ay d n)=true):dp (ay d n)=some (bZ (ay d n),cW (ay d n),true):=by rw[qp _ (h.Eu n),hn];rfl
theorem XD(d:aD)(p:Int)(hr:isRoot (ay d d.cM)=false):im (jW d) p=(mP,23):=by unfold im;rw[if_neg (by simp only[rZ,zq];rw[hr];decide)]
theorem UZ(d:aD)(p:Int)(hr:isRoot (ay d d.cM)=true)(hn:isNode (ay d (mD (jW d)))=false):im (jW d) p=(mP,24):=by unfold im;rw[if_pos (by simp only[rZ,zq];exact hr),if_neg (by simp only[rZ];rw[hn];decide)]
theorem XE(d:aD)(p:Int)(hr:isRoot (ay d d.cM)=true)(hn:isNode (ay d (mD (jW d)))=true):im (jW d) p=if 0<=p/\p<bZ (ay d (mD (jW d)))then hG d 64 (mD (jW d)) p [] ⟨none,none,none,none⟩else(mP,25):=by unfold im;rw[if_pos (by simp only[rZ,zq];exact hr),if_pos (by simp only[rZ];exact hn)];rfl
theorem X7(d:aD)(p:Int)(h:jg d):jG (nJ d) p=some (YR (im (jW d) p).1,0,(im (jW d) p).2):=by
 unfold jG
 rcases Bool.eq_false_or_eq_true (isRoot (ay d d.cM))with hr|hr
 ·rcases Bool.eq_false_or_eq_true (isNode (ay d (mD (jW d))))with hn|hn
  ·rw[XE d p hr hn]
   refine aw (aau d h hr hn) (az (by simp) (aw (X8 d h _ hn) ?_))
   by_cases hp:0<=p/\p<bZ (ay d (mD (jW d)))
   ·rw[if_pos hp]
    exact az (by simp;omega) (aw (QC d h 64 (mD (jW d)) p [] [] iu rfl rfl (fun v hv=>by cases hv) (by decide) hn hp.1 hp.2) rfl)
   ·rw[if_neg hp]
    exact aL (by simp;omega) rfl
  ·rw[UZ d p hr hn]
   exact aw (Yi d h hr hn) rfl
 ·rw[XD d p hr]
  exact aw (aat d h hr) rfl
end Go.AB
end
section
namespace Go.AB
open Go
end Go.AB
end
section
namespace Go.AB
open Go
theorem Gl(p:Nat->Bool):∀n,(∀k,k<n->p k=true)\/∃j,j<n/\p j=false/\∀k,k<j->p k=true
 |0=>.inl fun k h=>absurd h (Nat.not_lt_zero k)
 |n+1=>by
  rcases Gl p n with h|⟨j,h1,h2,h3⟩
  ·cases e:p n with
   |true=>
    refine .inl fun k hk=>?_
    rcases Nat.lt_or_ge k n with h'|h'
    ·exact h k h'
    ·have:k=n:=by omega
     subst this;exact e
   |false=>exact .inr ⟨n,by omega,e,h⟩
  ·exact .inr ⟨j,by omega,h2,h3⟩
theorem abG{α:Type}{n:Nat}{p:Nat->α->Prop}(d:α)(h:∀k,k<n->∃a,p k a):∃f:Nat->α,∀k,k<n->p k (f k):=⟨fun k=>if hk:k<n then(h k hk).choose else d,fun k hk=>by simp only[dif_pos hk];exact(h k hk).choose_spec⟩
theorem kid{n:Nat}{v:aa}(h:W (n+1) v){k:Nat}(hk:k<v.L.length):W n (ix v.L (k:Int)):=by rw[fu hk];exact h.2 _ (List.getElem_mem hk)
theorem P8:∀a b:List UInt8,(!Op.bytesLess a b)=(Op.bytesLess b a||(b==a))
 |[],[]=>rfl
 |[],b::y=>by
  show(!true)=(false||_)
  simp
 |a::x,[]=>by
  show(!false)=(true||_)
  simp
 |a::x,b::y=>by
  have ih:=P8 x y
  rw[Op.bytesLess,Op.bytesLess,List.cons_beq_cons]
  rcases Nat.lt_trichotomy a.toNat b.toNat with h|h|h
  ·have h1:a<b:=UInt8.lt_iff_toNat_lt.2 h
   have h2:¬b<a:=fun h'=>by have:=UInt8.lt_iff_toNat_lt.1 h';omega
   have h3:(b==a)=false:=by simp;intro e;subst e;omega
   simp[h1,h2,h3]
  ·obtain rfl:a=b:=UInt8.toNat_inj.1 h
   have h1:¬a<a:=fun h'=>by have:=UInt8.lt_iff_toNat_lt.1 h';omega
   simp[h1]at ih⊢
   exact ih
  ·have h1:b<a:=UInt8.lt_iff_toNat_lt.2 h
   have h2:¬a<b:=fun h'=>by have:=UInt8.lt_iff_toNat_lt.1 h';omega
   have h3:(a==b)=false:=by simp;intro e;subst e;omega
   simp[h1,h2,h3]
theorem Tk(x y:Int):∃c,bV x y=some c/\(c=0↔x=y):=by
 have nn:∀z:Int,(z !=z)=false:=fun z=>by simp
 unfold bV eX
 rw[nn,nn,aK,aK]
 by_cases h1:x<y
 ·exact⟨-1,az (by decide) (az (by decide) (aL (by simpa using h1) rfl)),by constructor<;>intro h<;>omega⟩
 ·by_cases h2:x>y
  ·exact⟨1,az (by decide) (az (by decide) (az (by simpa using h1) (aL (by simpa using h2) rfl))),by constructor<;>intro h<;>omega⟩
  ·exact⟨0,az (by decide) (az (by decide) (az (by simpa using h1) (az (by simpa using h2) rfl))),by constructor<;>intro h<;>omega⟩
theorem Tl:∀a b:List UInt8,Lib.compareBytes a b=0↔a=b
 |[],[]=>⟨fun _=>rfl,fun _=>rfl⟩
 |[],_::_=>⟨fun h=>(by rw[Lib.compareBytes]at h;cases h),fun h=>(by cases h)⟩
 |_::_,[]=>⟨fun h=>(by rw[Lib.compareBytes]at h;cases h),fun h=>(by cases h)⟩
 |a::x,b::y=>by
  rw[Lib.compareBytes]
  by_cases h1:a<b
  ·rw[if_pos h1]
   refine⟨fun h=>(by cases h),fun h=>?_⟩
   injection h with h _
   subst h
   exact absurd (UInt8.lt_iff_toNat_lt.1 h1) (Nat.lt_irrefl _)
  ·rw[if_neg h1]
   by_cases h2:b<a
   ·rw[if_pos h2]
    refine⟨fun h=>(by cases h),fun h=>?_⟩
    injection h with h _
    subst h
    exact absurd (UInt8.lt_iff_toNat_lt.1 h2) (Nat.lt_irrefl _)
   ·rw[if_neg h2,Tl x y]
    have e:a=b:=UInt8.toNat_inj.1 (by
     have k1:¬a.toNat<b.toNat:=fun h=>h1 (UInt8.lt_iff_toNat_lt.2 h)
     have k2:¬b.toNat<a.toNat:=fun h=>h2 (UInt8.lt_iff_toNat_lt.2 h)
     omega)
    subst e
    constructor
    ·intro h;rw[h]
    ·intro h;injection h
theorem ahA(a b c:Int):∃r,gh [a,b,c]=some r/\(r=0↔a=0/\b=0/\c=0):=by
 by_cases ha:a=0
 ·by_cases hb:b=0
  ·by_cases hc:c=0
   ·subst ha;subst hb;subst hc
    exact⟨0,by kernel_rfl,by simp⟩
   ·subst ha;subst hb
    refine⟨c,?_,by simp⟩
    unfold gh
    refine en (z:=.inr c) (dK (z:=.inr c) (eO 2 (by omega) (fun k hk=>?_) ?_) rfl) rfl
    ·have:k=0\/k=1:=by omega
     rcases this with rfl|rfl<;>rfl
    ·exact aL rfl (au (show(0:Int)<=2/\(2:Int)<3 by decide) (aL (by show(c !=0)=true;simpa using hc) rfl))
  ·subst ha
   refine⟨b,?_,by simp[hb]⟩
   unfold gh
   refine en (z:=.inr b) (dK (z:=.inr b) (eO 1 (by omega) (fun k hk=>?_) ?_) rfl) rfl
   ·obtain rfl:k=0:=by omega
    rfl
   ·exact aL rfl (au (show(0:Int)<=1/\(1:Int)<3 by decide) (aL (by show(b !=0)=true;simpa using hb) rfl))
 ·refine⟨a,?_,by simp[ha]⟩
  unfold gh
  refine en (z:=.inr a) (dK (z:=.inr a) (eO 0 (by omega) (fun k hk=>by omega) ?_) rfl) rfl
  exact aL rfl (au (show(0:Int)<=0/\(0:Int)<3 by decide) (aL (by show(a !=0)=true;simpa using ha) rfl))
theorem T5{a b:aa}(h1:a.Kind=b.Kind)(h2:a.N=b.N)(h3:a.S.b=b.S.b)(h4:a.L=b.L):a=b:=by
 obtain⟨K,N,⟨S⟩,L⟩:=a
 obtain⟨K',N',⟨S'⟩,L'⟩:=b
 simp only at h1 h2 h3 h4
 rw[h1,h2,h3,h4]
theorem Qe{a b:List aa}(hl:a.length=b.length)(h:∀k,k<a.length->ix a (k:Int)=ix b (k:Int)):a=b:=by
 refine List.ext_getElem hl fun k h1 h2=>?_
 have:=h k h1
 rwa[fu h1,fu h2]at this
theorem Gf:∀(n:Nat)(a b:aa)(fuel:Nat),W n a->2*n<=fuel->n<=1000->∃c,cD fuel a b=some c/\(c=0↔a=b)
 |0,_,_,_,h,_,_=>h.elim
 |n+1,a,b,0,_,h,_=>by omega
 |n+1,a,b,1,_,h,_=>by omega
 |n+1,a,b,fuel+2,h,hf,hn=>by
  have hl:=h.1
  obtain⟨c1,e1,k1⟩:=Tk a.Kind b.Kind
  obtain⟨c2,e2,k2⟩:=Tk a.N b.N
  have k3:=Tl a.S.b b.S.b
  obtain⟨r,e4,k4⟩:=ahA c1 c2 (Lib.compareBytes a.S.b b.S.b)
  have e3:gl a.S b.S=some (Lib.compareBytes a.S.b b.S.b):=rfl
  rw[cD,e1,aK,e2,aK,e3,aK,e4,aK]
  by_cases hr:r=0
  ·obtain⟨z1,z2,z3⟩:=k4.1 hr
   have q1:=k1.1 z1
   have q2:=k2.1 z2
   have q3:=k3.1 z3
   have fin:∀x:Option Int,(∃c,x=some c/\(c=0↔a.L=b.L))->∃c,(if(r !=0)=true then some r else aJ x fun r5=>some r5)=some c/\(c=0↔a=b):=by
    rintro x ⟨c,rfl,hc⟩
    refine⟨c,az (by simp[hr]) rfl,hc.trans ⟨fun e=>T5 q1 q2 q3 e,fun e=>by rw[e]⟩⟩
   refine fin _ ?_
   rw[aA]
   have ih:∀k,k<a.L.length->∃c,cD fuel (ix a.L (k:Int)) (ix b.L (k:Int))=some c/\(c=0↔ix a.L (k:Int)=ix b.L (k:Int)):=fun k hk=>Gf n _ _ fuel (kid h hk) (by omega) (by omega)
   obtain⟨f,hfk⟩:∃f:Nat->Int,∀k,k<a.L.length->cD fuel (ix a.L (k:Int)) (ix b.L (k:Int))=some (f k)/\(f k=0↔ix a.L (k:Int)=ix b.L (k:Int)):=abG 0 ih
   rcases Gl (fun k=>decide (k<b.L.length)&&(f k==0)) a.L.length with g|⟨j,g1,g2,g3⟩
   ·have gk:∀k,k<a.L.length->k<b.L.length/\f k=0:=fun k hk=>by have:=g k hk;simpa using this
    have hle:a.L.length<=b.L.length:=by
     rcases Nat.lt_or_ge b.L.length a.L.length with hh|hh
     ·have:=(gk b.L.length hh).1;omega
     ·exact hh
    refine⟨if(a.L.length:Int)<(b.L.length:Int)then -1 else 0,en (z:=.inl ()) (dK (z:=.inl ()) (eO a.L.length (by omega) (fun k hk=>?_) (az (by simp) rfl)) rfl) ?_,?_⟩
    ·obtain⟨g4,g5⟩:=gk k hk
     have e:=(hfk k hk).1
     rw[g5]at e
     exact aL (decide_eq_true (by omega)) (au ⟨by omega,by omega⟩ (az (by simp;omega) (au ⟨by omega,by omega⟩ (aw e (az (by decide) rfl)))))
    ·by_cases hh:(a.L.length:Int)<(b.L.length:Int)
     ·rw[if_pos hh];exact aL (by simpa using hh) rfl
     ·rw[if_neg hh];exact az (by simpa using hh) rfl
    ·by_cases hh:(a.L.length:Int)<(b.L.length:Int)
     ·rw[if_pos hh]
      exact⟨fun e=>(by cases e),fun e=>by rw[e]at hh;omega⟩
     ·rw[if_neg hh]
      exact⟨fun _=>Qe (by omega) fun k hk=>(hfk k hk).2.1 (gk k hk).2,fun _=>rfl⟩
   ·have gk:∀k,k<j->k<b.L.length/\f k=0:=fun k hk=>by have:=g3 k hk;simpa using this
    have lp:∀k,k<j->(if decide ((k:Int)<(a.L.length:Int))=true then
     aB (0<=(k:Int)/\(k:Int)<a.L.length)<|
     if decide ((k:Int)>=(b.L.length:Int))then
      some (.inr (.inr (1:Int)))
     else
      aB (0<=(k:Int)/\(k:Int)<b.L.length)<|
      aJ (cD fuel (ix a.L (k:Int)) (ix b.L (k:Int))) fun r8=>
      if r8 !=0 then
       some (.inr (.inr r8))
      else
       some (.inl (bd ((k:Int)+1)))
     else
      some (.inr (.inl ())))=(some (.inl (bd ((k:Int)+1))):Option (Int⊕(Unit⊕Int))):=fun k hk=>by
     obtain⟨g4,g5⟩:=gk k hk
     have e:=(hfk k (by omega)).1
     rw[g5]at e
     exact aL (decide_eq_true (by omega)) (au ⟨by omega,by omega⟩ (az (by simp;omega) (au ⟨by omega,by omega⟩ (aw e (az (by decide) rfl)))))
    by_cases hj:j<b.L.length
    ·have gne:¬f j=0:=by
      intro e
      rw[e,decide_eq_true hj]at g2
      cases g2
     refine⟨f j,en (z:=.inr (f j)) (dK (z:=.inr (f j)) (eO j (by omega) lp ?_) rfl) rfl,fun e=>absurd e gne,fun e=>absurd ((hfk j g1).2.2 (by rw[e])) gne⟩
     exact aL (decide_eq_true (by omega)) (au ⟨by omega,by omega⟩ (az (by simp;omega) (au ⟨by omega,by omega⟩ (aw (hfk j g1).1 (aL (by simpa using gne) rfl)))))
    ·refine⟨1,en (z:=.inr 1) (dK (z:=.inr 1) (eO j (by omega) lp ?_) rfl) rfl,fun e=>(by cases e),fun e=>by rw[e]at g1;omega⟩
     exact aL (decide_eq_true (by omega)) (au ⟨by omega,by omega⟩ (aL (by simp;omega) rfl))
  ·refine⟨r,aL (by simpa using hr) rfl,⟨fun e=>absurd e hr,fun e=>?_⟩⟩
   subst e
   exact absurd (k4.2 ⟨k1.2 rfl,k2.2 rfl,k3.2 rfl⟩) hr
theorem P7(a:List UInt8):Op.bytesLess a a=false:=by
 have:=P8 a a
 cases h:Op.bytesLess a a with
 |false=>rfl
 |true=>rw[h]at this;simp at this
theorem Ee:∀(n:Nat)(a b:aa)(fuel:Nat),W n a->n<=fuel->n<=1000->∃c,cC fuel a b=some c/\(c=0↔a=b)
 |0,_,_,_,h,_,_=>h.elim
 |n+1,a,b,0,_,h,_=>by omega
 |n+1,a,b,fuel+1,h,hf,hn=>by
  have hl:=h.1
  rw[cC]
  by_cases h1:((decide (a.Kind<b.Kind))||((a.Kind==b.Kind)&&((decide (a.N<b.N))||((a.N==b.N)&&(Op.bytesLess a.S.b b.S.b)))))=true
  ·refine⟨-1,aL h1 rfl,fun e=>(by cases e),fun e=>?_⟩
   subst e
   simp[P7]at h1
  ·rw[if_neg h1]
   by_cases h2:(((a.Kind !=b.Kind)||(a.N !=b.N))||(!(a.S.b==b.S.b)))=true
   ·refine⟨1,aL h2 rfl,fun e=>(by cases e),fun e=>?_⟩
    subst e
    simp at h2
   ·rw[if_neg h2]
    have h3:a.Kind=b.Kind/\a.N=b.N/\a.S.b=b.S.b:=by
     simp at h2
     exact⟨h2.1.1,h2.1.2,h2.2⟩
    obtain⟨q1,q2,q3⟩:=h3
    have ih:∀k,k<a.L.length->∃c,cC fuel (ix a.L (k:Int)) (ix b.L (k:Int))=some c/\(c=0↔ix a.L (k:Int)=ix b.L (k:Int)):=fun k hk=>Ee n _ _ fuel (kid h hk) (by omega) (by omega)
    obtain⟨f,hfk⟩:∃f:Nat->Int,∀k,k<a.L.length->cC fuel (ix a.L (k:Int)) (ix b.L (k:Int))=some (f k)/\(f k=0↔ix a.L (k:Int)=ix b.L (k:Int)):=abG 0 ih
    have lp:∀k,k<a.L.length->k<b.L.length->f k=0->(if((decide ((k:Int)<(a.L.length:Int)))&&(decide ((k:Int)<(b.L.length:Int))))=true then
     aB (0<=(k:Int)/\(k:Int)<a.L.length)<|
     aB (0<=(k:Int)/\(k:Int)<b.L.length)<|
     aJ (cC fuel (ix a.L (k:Int)) (ix b.L (k:Int))) fun r8=>
     if r8 !=0 then
      some (.inr (.inr r8))
     else
      some (.inl (bd ((k:Int)+1)))
     else
      some (.inr (.inl ())))=(some (.inl (bd ((k:Int)+1))):Option (Int⊕(Unit⊕Int))):=fun k hk hk2 e0=>by
     have e:=(hfk k hk).1
     rw[e0]at e
     exact aL (by simp;omega) (au ⟨by omega,by omega⟩ (au ⟨by omega,by omega⟩ (aw e (az (by decide) rfl))))
    rcases Gl (fun k=>f k==0) (min a.L.length b.L.length)with g|⟨j,g1,g2,g3⟩
    ·have gk:∀k,k<min a.L.length b.L.length->f k=0:=fun k hk=>by have:=g k hk;simpa using this
     have fin:∀c,(if decide ((a.L.length:Int)<(b.L.length:Int))=true then some (-1)else if decide ((a.L.length:Int)>(b.L.length:Int))=true then some 1 else some 0)=some c->∃c,yS (jY (iter (fun(k4:Int)=>
      if(decide (k4<(a.L.length:Int)))&&(decide (k4<(b.L.length:Int)))then
       aB (0<=k4/\k4<a.L.length)<|
       aB (0<=k4/\k4<b.L.length)<|
       aJ (cC fuel (ix a.L k4) (ix b.L k4)) fun r8=>
       if r8 !=0 then
        some (.inr (.inr r8))
       else
        some (.inl (bd (k4+1)))
      else
       some (.inr (.inl ()))) 0) (fun(_:Unit)=>some (.inl ())) (fun(t7:Int)=>some (.inr t7))) (fun(_:Unit)=>
      if decide ((a.L.length:Int)<(b.L.length:Int))then some (-1)else if decide ((a.L.length:Int)>(b.L.length:Int))then some 1 else some 0) (fun(t3:Int)=>some t3)=some c/\(c=0↔a=b):=fun c hc=>by
      refine⟨c,en (z:=.inl ()) (dK (z:=.inl ()) (eO (min a.L.length b.L.length) (by omega) (fun k hk=>lp k (by omega) (by omega) (gk k hk)) (az (by simp;omega) rfl)) rfl) hc,?_⟩
      by_cases e1:(a.L.length:Int)<(b.L.length:Int)
      ·rw[if_pos (by simpa using e1)]at hc
       injection hc with hc
       exact⟨fun e=>by omega,fun e=>by rw[e]at e1;omega⟩
      ·rw[if_neg (by simpa using e1)]at hc
       by_cases e2:(a.L.length:Int)>(b.L.length:Int)
       ·rw[if_pos (by simpa using e2)]at hc
        injection hc with hc
        exact⟨fun e=>by omega,fun e=>by rw[e]at e2;omega⟩
       ·rw[if_neg (by simpa using e2)]at hc
        injection hc with hc
        exact⟨fun _=>T5 q1 q2 q3 (Qe (by omega) fun k hk=>(hfk k hk).2.1 (gk k (by omega))),fun _=>hc.symm⟩
     by_cases e1:(a.L.length:Int)<(b.L.length:Int)
     ·exact fin (-1) (aL (by simpa using e1) rfl)
     ·by_cases e2:(a.L.length:Int)>(b.L.length:Int)
      ·exact fin 1 (az (by simpa using e1) (aL (by simpa using e2) rfl))
      ·exact fin 0 (az (by simpa using e1) (az (by simpa using e2) rfl))
    ·have gne:¬f j=0:=by simpa using g2
     refine⟨f j,en (z:=.inr (f j)) (dK (z:=.inr (f j)) (eO j (by omega) (fun k hk=>lp k (by omega) (by omega) (by have:=g3 k hk;simpa using this)) ?_) rfl) rfl,fun e=>absurd e gne,fun e=>absurd ((hfk j (by omega)).2.2 (by rw[e])) gne⟩
     exact aL (by simp;omega) (au ⟨by omega,by omega⟩ (au ⟨by omega,by omega⟩ (aw (hfk j (by omega)).1 (aL (by simpa using gne) rfl))))
theorem aav(a b:aa)(h:W 302 a):∃x,iR a b=some x/\iP a b=some x/\(x=true↔a=b):=by
 obtain⟨c1,e1,k1⟩:=Gf 302 a b iu h (by decide) (by decide)
 obtain⟨c2,e2,k2⟩:=Ee 302 a b iu h (by decide) (by decide)
 refine⟨c1==0,aw e1 rfl,aw e2 ?_,?_⟩
 ·have:(c2==0)=(c1==0):=by
   rw[Bool.eq_iff_iff]
   simp only[beq_iff_eq]
   rw[k1,k2]
  rw[this]
 ·simp only[beq_iff_eq];exact k1
end Go.AB
end
section
set_option maxRecDepth 20000
namespace Go.AB
open Go
def xY(g:Int->aa):Nat->aa->aa
 |0,v=>v
 |n+1,v=>if(v.Kind==8)=true then g v.N else if((v.Kind==6)||(v.Kind==7))=true then⟨v.Kind,v.N,v.S,v.L.map (xY g n)⟩else v
theorem HF(g:Int->aa)(hg:∀n,(g n).L=[]):∀(n:Nat)(v:aa),W n v->W n (xY g n v)
 |0,_,h=>h.elim
 |n+1,v,h=>by
  rw[xY]
  split
  ·exact⟨by rw[hg];exact Nat.zero_le _,fun x hx=>by rw[hg]at hx;cases hx⟩
  ·split
   ·refine⟨by show(v.L.map _).length<=n;rw[List.length_map];exact h.1,fun x hx=>?_⟩
    obtain⟨y,hy,rfl⟩:=List.mem_map.1 hx
    exact HF g hg n y (h.2 y hy)
   ·exact h
def pQ(row:List Int)(n:Int):Int:=match row.findIdx? (fun x=>x==n)with
 |some i=>((i+1:Nat):Int)
 |none=>0
def kX(row:List Int)(n:Int):Int:=if((decide (n>=1))&&(decide (n<=4096)))=true then pQ row n else 0
def qo(k:Int):aa:=if(k==0)=true then zeroV else⟨8,k,⟨[]⟩,[]⟩
theorem aan(k:Int):(qo k).L=[]:=by unfold qo;split<;>rfl
def QZ(row:List Int)(v:aa):aa:=xY (fun n=>qo (kX row n)) 302 v
theorem UA{α:Type}(l:List α)(p:α->Bool)(j:Nat)(h:j<l.length):(l.drop j).findIdx? p=if p l[j]=true then some 0 else((l.drop (j+1)).findIdx? p).map (·+1):=by rw[List.drop_eq_getElem_cons h,List.findIdx?_cons]
theorem K6{α O:Type}(l:List α)(p:α->Bool)(hl:l.length<=1000000){body:Int->Option (Int⊕O)}(yes:Nat->O)(no:O)(hb:∀(k:Nat)(h:k<l.length),body (k:Int)=some (if p l[k]=true then .inr (yes k)else .inl (bd ((k:Int)+1))))(he:body (l.length:Int)=some (.inr no)):
 ∀(r j:Nat),j+r=l.length->uO body (r+1) (j:Int) (match(l.drop j).findIdx? p with|some i=>yes (j+i)|none=>no)
 |0,j,h=>by
  have hj:j=l.length:=by omega
  subst hj
  rw[List.drop_length]
  exact .stop he
 |r+1,j,h=>by
  have hj:j<l.length:=by omega
  rw[UA l p j hj]
  by_cases hp:p l[j]=true
  ·rw[if_pos hp]
   exact .stop (by rw[hb j hj,if_pos hp];rfl)
  ·rw[if_neg hp]
   have ih:=K6 l p hl yes no hb he r (j+1) (by omega)
   have e:(match((l.drop (j+1)).findIdx? p).map (·+1)with|some i=>yes (j+i)|none=>no)=(match(l.drop (j+1)).findIdx? p with|some i=>yes (j+1+i)|none=>no):=by
    cases(l.drop (j+1)).findIdx? p with
    |none=>rfl
    |some i=>show yes (j+(i+1))=yes (j+1+i);congr 1;omega
   rw[e]
   refine .step ?_ ih
   rw[hb j hj,if_neg hp,aI (by omega) (by omega)];rfl
theorem K5{α O:Type}(l:List α)(p:α->Bool)(hl:l.length<=1000000){body:Int->Option (Int⊕O)}(yes:Nat->O)(no:O)(hb:∀(k:Nat)(h:k<l.length),body (k:Int)=some (if p l[k]=true then .inr (yes k)else .inl (bd ((k:Int)+1))))(he:body (l.length:Int)=some (.inr no)):
 iter body 0=some (match l.findIdx? p with|some i=>yes i|none=>no):=by
 have h:=(K6 l p hl yes no hb he l.length 0 (by omega)).iter (by omega)
 rw[List.drop_zero]at h
 refine h.trans ?_
 cases l.findIdx? p with
 |none=>rfl
 |some i=>show some (yes (0+i))=some (yes i);rw[Nat.zero_add]
theorem XM(row:List Int)(n:Int)(hl:row.length<=1000000):jJ row n=some (kX row n):=by
 unfold jJ kX
 cases hc:(decide (n>=1))&&(decide (n<=4096))with
 |false=>
  refine en (z:=.inl ()) (dK (z:=.inl ()) (eO row.length (by omega) (fun k hk=>?_) (az (by simp) rfl)) rfl) rfl
  refine aL (by simp;omega) (au (by omega) (az ?_ rfl))
  rw[Bool.and_assoc,hc,Bool.and_false];decide
 |true=>
  have h:=K5 (O:=Unit⊕Int) (body:=fun(k2:Int)=>
   if decide (k2<(row.length:Int))then
    aB (0<=k2/\k2<row.length)<|
    if(((ix row k2)==n)&&(decide (n>=1)))&&(decide (n<=4096))then
     some (.inr (.inr (bd (k2+1))))
    else
     some (.inl (bd (k2+1)))
   else
    some (.inr (.inl ()))) row (fun x=>x==n) hl (fun k=>.inr ((k+1:Nat):Int)) (.inl ()) (fun k hk=>by
   have hx:ix row (k:Int)=row[k]:=fu hk
   refine aL (by simp;omega) (au (by omega) ?_)
   rw[hx,Bool.and_assoc,hc,Bool.and_true]
   by_cases hp:(row[k]==n)=true
   ·rw[if_pos hp,if_pos hp,aI (by omega) (by omega)];rfl
   ·rw[if_neg hp,if_neg hp]) (az (by simp) rfl)
  unfold pQ
  cases hf:row.findIdx? (fun x=>x==n)with
  |none=>rw[hf]at h;exact en (z:=.inl ()) (dK (z:=.inl ()) h rfl) rfl
  |some i=>rw[hf]at h;exact en (z:=.inr ((i+1:Nat):Int)) (dK (z:=.inr ((i+1:Nat):Int)) h rfl) rfl
theorem Ac(row:List Int)(hl:row.length<=1000000):∀(n:Nat)(v:aa)(fuel:Nat),W n v->n<=fuel->n<=1000->dA fuel v row=some (xY (fun n=>qo (kX row n)) n v)
 |0,_,_,h,_,_=>h.elim
 |n+1,_,0,_,h,_=>by omega
 |n+1,v,fuel+1,h,hf,hn=>by
  have hL:=h.1
  rw[dA,xY]
  by_cases h8:(v.Kind==8)=true
  ·rw[if_pos h8,if_pos h8]
   refine aw (XM row v.N hl) ?_
   unfold qo
   by_cases h0:(kX row v.N==0)=true
   ·rw[if_pos h0,if_pos h0]
   ·rw[if_neg h0,if_neg h0]
  ·rw[if_neg h8,if_neg h8]
   by_cases h6:((v.Kind==6)||(v.Kind==7))=true
   ·rw[if_pos h6,if_pos h6]
    refine iV (a:=⟨v.Kind,v.N,v.S,v.L.map (xY (fun n=>qo (kX row n)) n)⟩) (iV (a:=v.L.map (xY (fun n=>qo (kX row n)) n)) ?_ rfl) rfl
    refine gW v.L.length (fun k=>(v.L.take k).map (xY (fun n=>qo (kX row n)) n)) (by simp) (by omega) (fun k hk=>?_) ?_
    ·have hx:ix v.L (k:Int)=v.L[k]:=fu hk
     refine aL (by simp;omega) (au (by omega) (aw (by rw[hx];exact Ac row hl n v.L[k] fuel (h.2 _ (List.getElem_mem hk)) (by omega) (by omega)) (au (by simp;unfold room;omega) ?_)))
     rw[List.take_succ_eq_append_getElem hk,List.map_append];rfl
    ·refine az (by simp) ?_
     rw[List.take_length]
   ·rw[if_neg h6,if_neg h6]
    rfl
def N7(row:List Int):List Int:=(List.range 4096).map fun(i:Nat)=>pQ row ((i:Int)+1)
theorem ko(row:List Int):(N7 row).length=4096:=by unfold N7;rw[List.length_map,List.length_range]
theorem Dp(row:List Int){i:Nat}(h:i<4096):(N7 row)[i]'(by rw[ko];exact h)=pQ row ((i:Int)+1):=by
 unfold N7
 rw[List.getElem_map,List.getElem_range]
theorem SU(row:List Int){n:Int}(h1:1<=n)(h2:n<=4096):ix (N7 row) (n -1)=pQ row n:=by
 obtain⟨i,rfl⟩:∃i:Nat,n=(i:Int)+1:=⟨(n -1).toNat,by omega⟩
 rw[show(i:Int)+1 -1=(i:Int) by omega,fu (by rw[ko];omega)]
 exact Dp row (by omega)
theorem DK(row:List Int)(a n:Int):pQ (row++[a]) n=if pQ row n=0 then(if a=n then((row.length+1:Nat):Int)else 0)else pQ row n:=by
 unfold pQ
 rw[List.findIdx?_append]
 cases hf:row.findIdx? (fun x=>x==n)with
 |some i=>
  have:¬((i+1:Nat):Int)=0:=by omega
  simp only[Option.some_or,if_neg this]
 |none=>
  simp only[Option.none_or,if_true]
  by_cases h:a=n
  ·subst h;simp[List.findIdx?_cons]
  ·have:(a==n)=false:=by simpa using h
   simp[List.findIdx?_cons,this,h]
theorem ael(row:List Int)(hl:row.length<=1000000):toM row=some (N7 row):=by
 unfold toM
 have h0:N7 (row.take 0)=List.replicate 4096 0:=by
  refine List.ext_getElem (by rw[ko,List.length_replicate]) fun i h1 h2=>?_
  rw[Dp _ (by rw[ko]at h1;exact h1),List.getElem_replicate];rfl
 refine gW row.length (fun k=>N7 (row.take k)) h0 (by omega) (fun k hk=>?_) ?_
 ·have hx:ix row (k:Int)=row[k]:=fu hk
  have hs:row.take (k+1)=row.take k++[row[k]]:=List.take_succ_eq_append_getElem hk
  have hlen:(row.take k).length=k:=by rw[List.length_take];omega
  show toB row (N7 (row.take k),(k:Int))=some (.inl (N7 (row.take (k+1)),bd ((k:Int)+1)))
  unfold toB
  rw[show(decide (((N7 (row.take k),(k:Int)):List Int×Int).2<(row.length:Int)))=true by simp;omega,cond_true]
  refine au (by show 0<=(k:Int)/\(k:Int)<2^61;omega) ?_
  show some (Sum.inl ((bif decide (ix row (k:Int)>=1)&&decide (ix row (k:Int)<=4096)&&(ix (N7 (row.take k)) (ix row (k:Int) -1)==0)then(N7 (row.take k)).set (ix row (k:Int) -1).toNat ((k:Int)+1)else N7 (row.take k)),(k:Int)+1))=_
  rw[aI (by omega) (by omega),hx]
  congr 3
  cases hc:decide (row[k]>=1)&&decide (row[k]<=4096)&&(ix (N7 (row.take k)) (row[k] -1)==0)with
  |true=>
   simp only[Bool.and_eq_true,decide_eq_true_eq,beq_iff_eq]at hc
   obtain⟨⟨c1,c2⟩,c3⟩:=hc
   rw[SU _ c1 c2]at c3
   rw[cond_true]
   refine List.ext_getElem (by rw[List.length_set,ko,ko]) fun i h1 h2=>?_
   have hi:i<4096:=by rw[ko]at h2;exact h2
   rw[List.getElem_set,Dp _ hi,Dp _ hi,hs,DK,hlen]
   by_cases e:(row[k] -1).toNat=i
   ·rw[if_pos e]
    have e2:row[k]=(i:Int)+1:=by omega
    rw[<-e2,if_pos c3,if_pos rfl];omega
   ·rw[if_neg e]
    have e2:¬row[k]=(i:Int)+1:=by omega
    rw[if_neg e2]
    split
    ·assumption
    ·rfl
  |false=>
   rw[cond_false]
   refine List.ext_getElem (by rw[ko,ko]) fun i h1 h2=>?_
   have hi:i<4096:=by rw[ko]at h2;exact h2
   rw[Dp _ hi,Dp _ hi,hs,DK,hlen]
   by_cases e:row[k]=(i:Int)+1
   ·have hz:¬pQ (row.take k) ((i:Int)+1)=0:=fun hz=>by
     rw[e,SU _ (by omega) (by omega),hz]at hc
     simp at hc
     omega
    rw[if_neg hz]
   ·rw[if_neg e]
    split
    ·assumption
    ·rfl
 ·show toB row (N7 (row.take row.length),(row.length:Int))=_
  unfold toB
  rw[show(decide (((N7 (row.take row.length),(row.length:Int)):List Int×Int).2<(row.length:Int)))=false by simp,cond_false,List.take_length]
theorem Dr(row:List Int):∀(n:Nat)(v:aa)(fuel:Nat),W n v->n<=fuel->n<=1000->iq fuel v (N7 row)=some (xY (fun n=>qo (kX row n)) n v)
 |0,_,_,h,_,_=>h.elim
 |n+1,_,0,_,h,_=>by omega
 |n+1,v,fuel+1,h,hf,hn=>by
  have hL:=h.1
  rw[iq,xY]
  cases h8:(v.Kind==8)with
  |true=>
   rw[cond_true,if_pos rfl]
   unfold qo kX
   cases hc:decide (v.N<1)||decide (v.N>((N7 row).length:Int))with
   |true=>
    rw[cond_true]
    rw[ko]at hc
    have:((decide (v.N>=1))&&(decide (v.N<=4096)))=false:=by
     simp only[Bool.or_eq_true,decide_eq_true_eq]at hc
     rw[Bool.and_eq_false_iff,decide_eq_false_iff_not,decide_eq_false_iff_not];omega
    rw[this];rfl
   |false=>
    rw[cond_false]
    rw[ko]at hc⊢
    simp only[Bool.or_eq_false_iff,decide_eq_false_iff_not]at hc
    have:((decide (v.N>=1))&&(decide (v.N<=4096)))=true:=by simp;omega
    rw[this,if_pos rfl,SU row (by omega) (by omega)]
    refine au (by omega) ?_
    cases h0:(pQ row v.N==0)with
    |true=>rfl
    |false=>rfl
  |false=>
   rw[cond_false,if_neg (by decide)]
   cases h6:((v.Kind==6)||(v.Kind==7))with
   |false=>rfl
   |true=>
    rw[cond_true,if_pos rfl]
    refine au (by unfold room;omega) (aw (a:=v.L.map (xY (fun n=>qo (kX row n)) n)) ?_ rfl)
    refine ln v.L.length (fun k=>((v.L.take k).map (xY (fun n=>qo (kX row n)) n)++List.replicate (v.L.length -k) zV,(k:Int))) (by simp) (by omega) (fun k hk=>?_) ?_
    ·have hx:ix v.L (k:Int)=v.L[k]:=fu hk
     have hlt:(v.L.take k).length=k:=by rw[List.length_take];omega
     have hlen:((v.L.take k).map (xY (fun n=>qo (kX row n)) n)++List.replicate (v.L.length -k) zV).length=v.L.length:=by rw[List.length_append,List.length_map,hlt,List.length_replicate];omega
     unfold QY
     rw[show decide ((((v.L.take k).map (xY (fun n=>qo (kX row n)) n)++List.replicate (v.L.length -k) zV,(k:Int)):List aa×Int).2<(v.L.length:Int))=true by simp;omega,cond_true]
     dsimp only
     refine au (by rw[hlen];omega) (aw (by rw[hx];exact Dr row n v.L[k] fuel (h.2 _ (List.getElem_mem hk)) (by omega) (by omega)) ?_)
     congr 3
     rw[List.take_succ_eq_append_getElem hk,List.map_append]
     rw[List.set_append_right _ _ (by rw[List.length_map,hlt];simp)]
     rw[List.length_map,hlt,show((k:Int)).toNat -k=0 by simp,show v.L.length -k=(v.L.length -(k+1))+1 by omega,List.replicate_succ]
     simp
    ·unfold QY
     rw[show decide ((((v.L.take v.L.length).map (xY (fun n=>qo (kX row n)) n)++List.replicate (v.L.length -v.L.length) zV,(v.L.length:Int)):List aa×Int).2<(v.L.length:Int))=false by simp,cond_false]
     simp
end Go.AB
end
