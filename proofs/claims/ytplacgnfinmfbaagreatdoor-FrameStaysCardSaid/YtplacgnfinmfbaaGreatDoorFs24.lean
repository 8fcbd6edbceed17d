/- A part. -/
import Derived.Test.YtplacgnfinmfbaaGreatDoorFs23
set_option linter.unusedSimpArgs false
set_option linter.unusedVariables false
section
namespace Go.AB
open Go
structure AL(b:List UInt8)(k:Nat)(t:aC):Prop where
 to:∃j:Nat,t.To=(j:Int)/\j<=b.length/\k<=j/\(t.Kind≠0->k<j)
 kd:t.Kind=0\/t.Kind=1\/t.Kind=2\/t.Kind=3\/t.Kind=4\/t.Kind=5\/t.Kind=6
 nm:t.Kind=1->t.V.Kind=5->t.V=⟨5,0,t.V.S,[]⟩
theorem aah(w:List UInt8)(h:(T9 w).1.Kind=5):(T9 w).1=⟨5,0,(T9 w).1.S,[]⟩:=by
 unfold T9 at h⊢
 cases hx:VN w (w.length+1) [] 0 with
 |inr e=>rw[hx]at h;cases h
 |inl o=>
  rw[hx]at h
  show(VM o).1=⟨5,0,(VM o).1.S,[]⟩
  have h:(VM o).1.Kind=5:=h
  unfold VM at h⊢
  split at h
  ·cases h
  ·rename_i hc;rw[if_neg hc]
theorem MD(sg:Int)(wh:List UInt8)(ro:Option (List UInt8)):(nuW sg wh ro).1.Kind≠5:=by
 unfold nuW
 split
 ·exact fun h=>by cases h
 ·split
  ·exact fun h=>by cases h
  ·cases ro with
   |none=>exact fun h=>by cases h
   |some r=>
    show(if _ then _ else _:aa×Int).1.Kind≠5
    split<;>exact fun h=>by cases h
theorem aar(s:List UInt8):(Qj s).1.Kind≠5:=by
 unfold Qj
 cases s with
 |nil=>exact MD _ _ _
 |cons c r=>
  show(if _ then _ else _:aa×Int).1.Kind≠5
  split
  ·exact MD _ _ _
  ·split<;>exact MD _ _ _
theorem DF{b:List UInt8}{last:Bool}{k:Nat}(hk:k<=b.length)(h:(iA b last k).2=0):AL b k (iA b last k).1:=by
 have hs:=M3 (b:=b) k hk
 unfold iA at h⊢
 cases hx:b[Ee b k]? with
 |none=>
  rw[hx]at h
  exact⟨⟨Ee b k,rfl,hs.2,hs.1,fun h=>absurd rfl h⟩,.inl rfl,fun h=>by cases h⟩
 |some c=>
  rw[hx]at h
  have h:(LB b last (Ee b k) c).2=0:=h
  show AL b k (LB b last (Ee b k) c).1
  generalize hf:Ee b k=f at*
  have hfl:f<b.length:=(List.getElem?_eq_some_iff.1 hx).1
  have str:∀T:(List UInt8×Nat)⊕Int,X9 (f+1) b.length T->(BI f T).2=0->AL b k (BI f T).1:=fun T hT h=>by
   cases T with
   |inl r=>exact⟨⟨r.2,rfl,hT.2,by have:=hT.1;omega,fun _=>by have:=hT.1;omega⟩,.inr (.inl rfl),fun _ h=>by cases h⟩
   |inr e=>exact absurd h hT
  have tk:∀(e:Nat)(q:aa×Int),f<e->e<=b.length->(q.2=0->q.1.Kind=5->q.1=⟨5,0,q.1.S,[]⟩)->(tok f e q).2=0->AL b k (tok f e q).1:=fun e q h1 h2 hq h=>by
   unfold tok at h⊢
   by_cases hc:(q.2 !=0)=true
   ·rw[if_pos hc]at h
    have:q.2=0:=h
    rw[this]at hc;cases hc
   ·rw[if_neg hc]
    have hc:q.2=0:=by simpa using hc
    exact⟨⟨e,rfl,h2,by omega,fun _=>by omega⟩,.inr (.inl rfl),fun _ h=>hq hc h⟩
  have one:∀(kd:Int)(n:Nat),f<n->n<=b.length->(kd=2\/kd=3\/kd=4\/kd=5)->∀t:aC,t=⟨kd,f,(n:Int),Iq,⟨[]⟩⟩->AL b k t:=fun kd n h1 h2 hkd t ht=>by
   subst ht
   refine⟨⟨n,rfl,h2,by omega,fun _=>by omega⟩,?_,fun h=>?_⟩
   ·rcases hkd with rfl|rfl|rfl|rfl<;>simp
   ·have h:kd=1:=h
    omega
  unfold LB at h⊢
  split at h
  ·rename_i hc
   rw[if_pos hc]
   have hr:=Tj hx hc
   have hr2:=(IQ (b:=b) f (by omega)).2
   split at h
   ·rename_i hl
    rw[if_pos hl]
    split at h
    ·rename_i hn
     rw[if_pos hn]
     exact tk _ _ hr hr2 (fun _ h5=>absurd h5 (aar _)) h
    ·rename_i hn
     rw[if_neg hn]
     exact⟨⟨vg b f,rfl,hr2,by omega,fun _=>by omega⟩,by simp,fun h=>by cases h⟩
   ·cases h
  ·rename_i hc
   rw[if_neg hc]
   split at h
   ·rename_i h1;rw[if_pos h1]
    exact one 2 (f+1) (by omega) (by omega) (by simp) _ rfl
   ·rename_i h1;rw[if_neg h1]
    split at h
    ·rename_i h2;rw[if_pos h2]
     exact one 3 (f+1) (by omega) (by omega) (by simp) _ rfl
    ·rename_i h2;rw[if_neg h2]
     split at h
     ·rename_i h3;rw[if_pos h3]
      cases hd:b[f+1]? with
      |none=>
       rw[hd]at h
       have h:ym last=0:=h
       exact absurd h (by cases last<;>decide)
      |some d=>
       have hd1:f+1<b.length:=(List.getElem?_eq_some_iff.1 hd).1
       rw[hd]at h
       simp only at h⊢
       split at h
       ·rename_i h4;rw[if_pos h4]
        exact one 4 (f+2) (by omega) (by omega) (by simp) _ rfl
       ·rename_i h4;rw[if_neg h4]
        exact str _ (BS _ _ _ (by omega)) h
     ·rename_i h3;rw[if_neg h3]
      split at h
      ·rename_i h4;rw[if_pos h4]
       cases hd:b[f+1]? with
       |none=>
        rw[hd]at h
        have h:(if last then(11:Int)else 6)=0:=h
        exact absurd h (by cases last<;>decide)
       |some d=>
        have hd1:f+1<b.length:=(List.getElem?_eq_some_iff.1 hd).1
        rw[hd]at h
        simp only at h⊢
        split at h
        ·rename_i h5;rw[if_pos h5]
         exact one 5 (f+2) (by omega) (by omega) (by simp) _ rfl
        ·cases h
      ·rename_i h4;rw[if_neg h4]
       split at h
       ·rename_i h5;rw[if_pos h5]
        exact str _ (nq _ _ _ _ (by omega)) h
       ·rename_i h5;rw[if_neg h5]
        split at h
        ·rename_i h6;rw[if_pos h6]
         have hr2:=IQ (b:=b) (f+1) (by omega)
         split at h
         ·rename_i hl
          rw[if_pos hl]
          exact tk _ _ (by omega) hr2.2 (fun _ h5=>aah _ h5) h
         ·cases h
        ·cases h
theorem Sn(sg:Int)(wh:List UInt8)(ro:Option (List UInt8)):(nuW sg wh ro).1.L=[]:=by
 unfold nuW
 split
 ·rfl
 ·split
  ·rfl
  ·cases ro with
   |none=>rfl
   |some r=>
    show(if _ then _ else _:aa×Int).1.L=[]
    split<;>rfl
theorem aeZ(s:List UInt8):(Qj s).1.L=[]:=by
 unfold Qj
 cases s with
 |nil=>exact Sn _ _ _
 |cons c r=>
  show(if _ then _ else _:aa×Int).1.L=[]
  split
  ·exact Sn _ _ _
  ·split<;>exact Sn _ _ _
theorem aeL(w:List UInt8):(T9 w).1.L=[]:=by
 unfold T9
 cases VN w (w.length+1) [] 0 with
 |inr e=>rfl
 |inl o=>
  show(VM o).1.L=[]
  unfold VM
  split<;>rfl
theorem YC{f e:Nat}{q:aa×Int}(h:q.1.L=[]):(tok f e q).1.V.L=[]:=by
 unfold tok
 split
 ·rfl
 ·exact h
theorem afV{f:Nat}{T:(List UInt8×Nat)⊕Int}:(BI f T).1.V.L=[]:=by cases T<;>rfl
theorem af2(b:List UInt8)(last:Bool)(f:Nat)(c:UInt8):(LB b last f c).1.V.L=[]:=by
 unfold LB
 repeat' split
 all_goals first|rfl|exact YC (aeZ _)|exact YC (aeL _)|exact afV
theorem aiy(b:List UInt8)(last:Bool)(k:Nat):(iA b last k).1.V.L=[]:=by
 unfold iA
 split
 ·rfl
 ·exact af2 _ _ _ _
def B6(b c:List UInt8):Prop:=b.length<=c.length/\∀(j:Nat)(x:UInt8),b[j]? =some x->c[j]? =some x
theorem B6.take(c:List UInt8)(k:Nat):B6 (c.take k) c:=by
 refine⟨by rw[List.length_take];omega,fun j x h=>?_⟩
 rw[List.getElem?_take]at h
 split at h
 ·exact h
 ·cases h
theorem B6.refl(c:List UInt8):B6 c c:=⟨Nat.le_refl _,fun _ _ h=>h⟩
section
variable{b c:List UInt8}{l:Bool}
theorem B6.part(hp:B6 b c){i j:Nat}(h:j<=b.length):part c (i:Int) (j:Int)=part b (i:Int) (j:Int):=by
 unfold AB.part
 refine List.ext_getElem? fun m=>?_
 rw[List.getElem?_take,List.getElem?_take]
 split
 ·rename_i hm
  rw[List.getElem?_drop,List.getElem?_drop]
  rw[Int.toNat_natCast]
  have hlt:i+m<b.length:=by omega
  have:=hp.2 _ _ (List.getElem?_eq_getElem hlt)
  rw[this,List.getElem?_eq_getElem hlt]
 ·rfl
theorem Oy(hp:B6 b c):∀(f f':Nat)(q:Bool)(j:Nat),b.length -j<=f->c.length -j<=f'->b[IZ b f q j]? ≠none->IZ c f' q j=IZ b f q j
 |0,f',q,j,h,h',hn=>by
  rw[IZ]at hn
  exact absurd (List.getElem?_eq_none (by omega)) hn
 |f+1,f',q,j,h,h',hn=>by
  cases hx:b[j]? with
  |none=>rw[IZ,hx]at hn;exact absurd hx hn
  |some x=>
   have hl:=(cL hx).1
   have hc:=hp.2 _ _ hx
   have:=hp.1
   obtain⟨g,rfl⟩:∃g,f'=g+1:=⟨f' -1,by omega⟩
   have ih:=fun q=>Oy hp f g q (j+1) (by omega) (by omega)
   rw[IZ,hx]at hn
   rw[IZ,hc,IZ,hx]
   simp only at hn⊢
   split at hn<;>rename_i h1
   ·simp only[if_pos h1];exact ih _ hn
   ·simp only[if_neg h1]
    split at hn<;>rename_i h2
    ·simp only[if_pos h2];exact ih _ hn
    ·simp only[if_neg h2]
     split at hn<;>rename_i h3
     ·first|simp only[if_pos h3]|simp only[if_neg h3]|rfl
     ·simp only[if_neg h3];exact ih _ hn
theorem IS(hp:B6 b c):∀(f f':Nat)(j:Nat),b.length -j<=f->c.length -j<=f'->Jn b f j<b.length->Jn c f' j=Jn b f j
 |0,f',j,h,h',hn=>by rw[Jn]at hn;omega
 |f+1,f',j,h,h',hn=>by
  cases hx:b[j]? with
  |none=>have:=oA hx;rw[Jn,hx]at hn;simp only at hn;omega
  |some x=>
   have hl:=(cL hx).1
   have hc:=hp.2 _ _ hx
   have:=hp.1
   obtain⟨g,rfl⟩:∃g,f'=g+1:=⟨f' -1,by omega⟩
   have ih:=IS hp f g (j+1) (by omega) (by omega)
   rw[Jn,hx]at hn
   rw[Jn,hc,Jn,hx]
   simp only at hn⊢
   split at hn<;>rename_i h1
   ·simp only[if_pos h1];exact ih hn
   ·first|simp only[if_pos h1]|simp only[if_neg h1]|rfl
theorem NV(hp:B6 b c):∀(f f':Nat)(q:List UInt8×Int)(j:Nat),f<=f'->Ke b false f q j≠.inr 6->Ke c l f' q j=Ke b false f q j
 |0,_,q,j,_,h=>absurd rfl h
 |f+1,f',q,j,hf,h=>by
  obtain⟨g,rfl⟩:∃g,f'=g+1:=⟨f' -1,by omega⟩
  have ih:=fun q=>NV hp f g q (j+1) (by omega)
  cases hx:b[j]? with
  |none=>rw[Ke,hx]at h;exact absurd rfl h
  |some x=>
   rw[Ke,hx]at h
   rw[Ke,hp.2 _ _ hx,Ke,hx]
   simp only at h⊢
   split at h<;>rename_i h1
   ·first|simp only[if_pos h1]|simp only[if_neg h1]|rfl
   ·simp only[if_neg h1]
    split at h<;>rename_i h2
    ·simp only[if_pos h2];exact ih _ h
    ·simp only[if_neg h2]
     split at h<;>rename_i h3
     ·first|simp only[if_pos h3]|simp only[if_neg h3]|rfl
     ·simp only[if_neg h3];exact ih _ h
theorem Og(hp:B6 b c):∀(k:Nat)(n:Int)(j:Nat),(xH b k n j).2.2=false->xH c k n j=xH b k n j
 |0,_,_,_=>rfl
 |k+1,n,j,h=>by
  cases hx:b[j]? with
  |none=>rw[xH,hx]at h;cases h
  |some x=>
   rw[xH,hx]at h
   rw[xH,hp.2 _ _ hx,xH,hx]
   simp only at h⊢
   split at h<;>rename_i h1
   ·first|simp only[if_pos h1]|simp only[if_neg h1]|rfl
   ·simp only[if_neg h1];exact Og hp k _ _ h
theorem US(hp:B6 b c)(j:Nat)(h:NH b false j≠.inr 6):NH c l j=NH b false j:=by
 cases hx:b[j]? with
 |none=>unfold NH at h;rw[hx]at h;exact absurd rfl h
 |some x=>
  unfold NH at h⊢
  rw[hx]at h⊢
  rw[hp.2 _ _ hx]
  simp only at h⊢
  split at h<;>rename_i h1
  ·first|simp only[if_pos h1]|simp only[if_neg h1]|rfl
  simp only[if_neg h1]
  split at h<;>rename_i h1
  ·first|simp only[if_pos h1]|simp only[if_neg h1]|rfl
  simp only[if_neg h1]
  split at h<;>rename_i h1
  ·first|simp only[if_pos h1]|simp only[if_neg h1]|rfl
  simp only[if_neg h1]
  split at h<;>rename_i h1
  ·first|simp only[if_pos h1]|simp only[if_neg h1]|rfl
  simp only[if_neg h1]
  split at h<;>rename_i h1
  ·first|simp only[if_pos h1]|simp only[if_neg h1]|rfl
  simp only[if_neg h1]
  split at h<;>rename_i h1
  ·first|simp only[if_pos h1]|simp only[if_neg h1]|rfl
  simp only[if_neg h1]
  split at h<;>rename_i h1
  ·simp only[if_pos h1]
   cases hy:b[j+1]? with
   |none=>rw[hy]at h;exact absurd rfl h
   |some y=>rw[hp.2 _ _ hy]
  simp only[if_neg h1]
  split at h<;>rename_i h2
  ·first|simp only[if_pos h2]|simp only[if_neg h2]|rfl
  simp only[if_neg h2]
  cases ho:(xH b 2 ((x.toNat:Int) -48) (j+1)).2.2 with
  |true=>rw[ho]at h;exact absurd rfl h
  |false=>
   rw[Og hp _ _ _ ho,ho]
   simp
theorem OJ(hp:B6 b c):∀(f f':Nat)(d:Int)(o:List UInt8)(j:Nat),f<=f'->BJ b false f d o j≠.inr 6->BJ c l f' d o j=BJ b false f d o j
 |0,_,_,_,_,_,h=>absurd rfl h
 |f+1,f',d,o,j,hf,h=>by
  obtain⟨g,rfl⟩:∃g,f'=g+1:=⟨f' -1,by omega⟩
  have ih:=fun d o j=>OJ hp f g d o j (by omega)
  cases hx:b[j]? with
  |none=>rw[BJ,hx]at h;exact absurd rfl h
  |some x=>
   rw[BJ,hx]at h
   rw[BJ,hp.2 _ _ hx,BJ,hx]
   simp only at h⊢
   split at h<;>rename_i h1
   ·simp only[if_pos h1]
    have he:NH b false (j+1)≠.inr 6:=fun e=>by rw[e]at h;exact h rfl
    rw[US hp _ he]
    cases hes:NH b false (j+1)with
    |inr e=>rfl
    |inl r=>rw[hes]at h;exact ih _ _ _ h
   simp only[if_neg h1]
   split at h<;>rename_i h2
   ·simp only[if_pos h2]
    cases hy:b[j+1]? with
    |none=>rw[hy]at h;exact absurd rfl h
    |some y=>
     rw[hp.2 _ _ hy]
     rw[hy]at h
     simp only at h⊢
     split at h<;>rename_i h3
     ·simp only[if_pos h3];exact ih _ _ _ h
     ·simp only[if_neg h3];exact ih _ _ _ h
   simp only[if_neg h2]
   split at h<;>rename_i h3
   ·simp only[if_pos h3];exact ih _ _ _ h
   simp only[if_neg h3]
   split at h<;>rename_i h4
   ·simp only[if_pos h4]
    split at h<;>rename_i h5
    ·first|simp only[if_pos h5]|simp only[if_neg h5]|rfl
    ·simp only[if_neg h5];exact ih _ _ _ h
   ·simp only[if_neg h4];exact ih _ _ _ h
theorem OE{f:Nat}{r:(List UInt8×Nat)⊕Int}(h:(BI f r).2≠6):r≠.inr 6:=fun e=>by rw[e]at h;exact h rfl
theorem WK(hp:B6 b c){f:Nat}(hf:f<b.length)(x:UInt8)(h:(LB b false f x).2≠6):LB c l f x=LB b false f x:=by
 have hpl:=hp.1
 unfold LB at h⊢
 split at h<;>rename_i h1
 ·simp only[if_pos h1]
  cases hd:decide ((vg b f:Int)<(b.length:Int))with
  |false=>rw[hd]at h;exact absurd rfl h
  |true=>
   have hlt:=of_decide_eq_true hd
   have hr:vg c f=vg b f:=by
    unfold vg
    exact IS hp _ _ _ (by omega) (by omega) (by show vg b f<_;omega)
   rw[hr,hp.part (by omega),decide_eq_true (by omega)]
   rfl
 simp only[if_neg h1]
 split at h<;>rename_i h2
 ·first|simp only[if_pos h2]|simp only[if_neg h2]|rfl
 simp only[if_neg h2]
 split at h<;>rename_i h3
 ·first|simp only[if_pos h3]|simp only[if_neg h3]|rfl
 simp only[if_neg h3]
 split at h<;>rename_i h4
 ·simp only[if_pos h4]
  cases hy:b[f+1]? with
  |none=>rw[hy]at h;exact absurd rfl h
  |some y=>
   rw[hy]at h
   rw[hp.2 _ _ hy]
   simp only at h⊢
   split at h<;>rename_i h5
   ·first|simp only[if_pos h5]|simp only[if_neg h5]|rfl
   ·simp only[if_neg h5];rw[NV hp _ _ _ _ (by omega) (OE h)]
 simp only[if_neg h4]
 split at h<;>rename_i h5
 ·simp only[if_pos h5]
  cases hy:b[f+1]? with
  |none=>rw[hy]at h;exact absurd rfl h
  |some y=>rw[hp.2 _ _ hy]
 simp only[if_neg h5]
 split at h<;>rename_i h6
 ·simp only[if_pos h6]
  rw[OJ hp _ _ _ _ _ (by omega) (OE h)]
 simp only[if_neg h6]
 split at h<;>rename_i h7
 ·simp only[if_pos h7]
  cases hd:decide ((vg b (f+1):Int)<(b.length:Int))with
  |false=>rw[hd]at h;exact absurd rfl h
  |true=>
   have hlt:=of_decide_eq_true hd
   have hr:vg c (f+1)=vg b (f+1):=by
    unfold vg
    exact IS hp _ _ _ (by omega) (by omega) (by show vg b (f+1)<_;omega)
   rw[hr,hp.part (by omega),decide_eq_true (by omega)]
   rfl
 ·first|simp only[if_pos h7]|simp only[if_neg h7]|rfl
theorem u7(hp:B6 b c){k:Nat}(hk:k<=b.length)(h:(iA b false k).2≠6):iA c l k=iA b false k:=by
 have hpl:=hp.1
 unfold iA at h⊢
 cases hx:b[Ee b k]? with
 |none=>rw[hx]at h;exact absurd rfl h
 |some x=>
  have hs:Ee c k=Ee b k:=by
   refine Oy hp _ _ _ _ (by omega) (by omega) ?_
   show b[Ee b k]? ≠none
   rw[hx];simp
  rw[hx]at h
  rw[hs,hp.2 _ _ hx]
  exact WK hp (cL hx).1 x h
end
section
variable{b:List UInt8}{last:Bool}
variable(b last)
def Ir(k:Nat):Int×Int×Int:=if(iA b last k).2 !=0 then(0,0,(iA b last k).2)else if(iA b last k).1.Kind==0 then(0,0,10)else if !(((iA b last k).1.Kind==1)&&((iA b last k).1.V.Kind==2))then(0,0,11)else((iA b last k).1.V.N,(iA b last k).1.To,0)
def uI(k:Nat)(w:List UInt8):Int×Int:=if(iA b last k).2 !=0 then(0,(iA b last k).2)else if(iA b last k).1.Kind==0 then(0,10)else if !(((iA b last k).1.Kind==6)&&((iA b last k).1.S.b==w))then(0,11)else((iA b last k).1.To,0)
variable{b last}
theorem Ob(hb:b.length<1048576)(k:Nat)(hk:k<=b.length):ga b (k:Int) last=some (Ir b last k):=by
 unfold ga j4 Ir
 rw[Dv hb k hk]
 generalize iA b last k=q
 obtain⟨t,e⟩:=q
 by_cases he:(e !=0)=true
 ·rw[if_pos he];exact aj (aN he rfl) rfl
 ·rw[if_neg he]
  by_cases h0:(t.Kind==0)=true
  ·rw[if_pos h0];exact aj (an he (aN h0 rfl)) rfl
  ·rw[if_neg h0]
   by_cases hw:(!((t.Kind==1)&&(t.V.Kind==2)))=true
   ·rw[if_pos hw];exact aj (an he (an h0 (aj rfl (aN hw rfl)))) rfl
   ·rw[if_neg hw];exact aj (an he (an h0 (aj rfl (an hw rfl)))) rfl
theorem ZU(hb:b.length<1048576)(k:Nat)(hk:k<=b.length)(w:List UInt8):jO b (k:Int) last ⟨w⟩=some (uI b last k w):=by
 unfold jO lG uI
 rw[Dv hb k hk]
 generalize iA b last k=q
 obtain⟨t,e⟩:=q
 by_cases he:(e !=0)=true
 ·rw[if_pos he];exact aj (aN he rfl) rfl
 ·rw[if_neg he]
  by_cases h0:(t.Kind==0)=true
  ·rw[if_pos h0];exact aj (an he (aN h0 rfl)) rfl
  ·rw[if_neg h0]
   by_cases hw:(!((t.Kind==6)&&(t.S.b==w)))=true
   ·rw[if_pos hw];exact aj (an he (an h0 (aj rfl (aN hw rfl)))) rfl
   ·rw[if_neg hw];exact aj (an he (an h0 (aj rfl (an hw rfl)))) rfl
end
end Go.AB
end
