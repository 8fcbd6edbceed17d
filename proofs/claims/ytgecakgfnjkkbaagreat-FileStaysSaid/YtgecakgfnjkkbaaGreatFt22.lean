/- A part. -/
import Derived.Test.YtgecakgfnjkkbaaGreatFt21
import Derived.Test.YtgecakgfnjkkbaaGreatFt20
set_option linter.unusedSimpArgs false
set_option linter.unusedVariables false
section
namespace Go.AB
open Go
structure yU(b:List UInt8)(k:Nat)(t:aF):Prop where
 to:∃j:Nat,t.To=(j:Int)/\j<=b.length/\k<=j/\(t.Kind≠0->k<j)
 kd:t.Kind=0\/t.Kind=1\/t.Kind=2\/t.Kind=3\/t.Kind=4\/t.Kind=5\/t.Kind=6
 nm:t.Kind=1->t.V.Kind=5->t.V=⟨5,0,t.V.S,[]⟩
theorem Zt(w:List UInt8)(h:(Po w).1.Kind=5):(Po w).1=⟨5,0,(Po w).1.S,[]⟩:=by
 unfold Po at h⊢
 cases hx:Pp w (w.length+1) [] 0 with
 |inr e=>grind
 |inl o=>
  unfold naF at h⊢
  grind
theorem Li(sg:Int)(wh:List UInt8)(ro:Option (List UInt8)):(U4 sg wh ro).1.Kind≠5:=by
 unfold U4
 grind
theorem ZD(s:List UInt8):(Pq s).1.Kind≠5:=by
 cases s with
 |nil=>exact Li _ _ _
 |cons c r=>
  show(if _ then _ else _:ab×Int).1.Kind≠5
  split
  ·exact Li _ _ _
  ·split<;>exact Li _ _ _
theorem zl{b:List UInt8}{last:Bool}{k:Nat}(hk:k<=b.length)(h:(gW b last k).2=0):yU b k (gW b last k).1:=by
 have hs:=LG (b:=b) k hk
 unfold gW at h⊢
 cases hx:b[Ca b k]? with
 |none=>
  rw[hx]at h
  exact⟨⟨Ca b k,rfl,hs.2,hs.1,fun h=>absurd rfl h⟩,.inl rfl,fun h=>by cases h⟩
 |some c=>
  rw[hx]at h
  have h:(Hw b last (Ca b k) c).2=0:=h
  show yU b k (Hw b last (Ca b k) c).1
  generalize hf:Ca b k=f at*
  have hfl:f<b.length:=(List.getElem?_eq_some_iff.1 hx).1
  have str:∀T:(List UInt8×Nat)⊕Int,Xq (f+1) b.length T->(yN f T).2=0->yU b k (yN f T).1:=fun T hT h=>by
   cases T with
   |inl r=>exact⟨⟨r.2,rfl,hT.2,by have:=hT.1;omega,fun _=>by have:=hT.1;omega⟩,.inr (.inl rfl),fun _ h=>by cases h⟩
   |inr e=>exact absurd h hT
  have tk:∀(e:Nat)(q:ab×Int),f<e->e<=b.length->(q.2=0->q.1.Kind=5->q.1=⟨5,0,q.1.S,[]⟩)->(tok f e q).2=0->yU b k (tok f e q).1:=fun e q h1 h2 hq h=>by
   unfold tok at h⊢
   by_cases hc:(q.2 !=0)=true
   ·grind
   ·rw[if_neg hc]
    have hc:q.2=0:=by simpa using hc
    exact⟨⟨e,rfl,h2,by omega,fun _=>by omega⟩,.inr (.inl rfl),fun _ h=>hq hc h⟩
  have one:∀(kd:Int)(n:Nat),f<n->n<=b.length->(kd=2\/kd=3\/kd=4\/kd=5)->∀t:aF,t=⟨kd,f,(n:Int),Dv,⟨[]⟩⟩->yU b k t:=fun kd n h1 h2 hkd t ht=>by
   subst ht
   refine⟨⟨n,rfl,h2,by omega,fun _=>by omega⟩,?_,fun h=>?_⟩
   ·grind
   grind
  unfold Hw at h⊢
  split at h
  ·rename_i hc
   rw[if_pos hc]
   have hr:=Sz hx hc
   have hr2:=(GV (b:=b) f (by omega)).2
   split at h
   ·rename_i hl
    rw[if_pos hl]
    split at h
    ·rename_i hn
     rw[if_pos hn]
     grind [absurd,ZD]
    ·rename_i hn
     rw[if_neg hn]
     exact⟨⟨tg b f,rfl,hr2,by omega,fun _=>by omega⟩,by simp,fun h=>by cases h⟩
   ·cases h
  ·rename_i hc
   rw[if_neg hc]
   split at h
   ·rename_i h1;rw[if_pos h1]
    exact one 2 (f+1) (by omega) (by omega) (by simp) _ rfl
   ·rename_i h1;rw[if_neg h1]
    split at h
    ·rename_i h2;rw[if_pos h2]
     exact one 3 (f+1) (by omega) (by omega) (by simp) _ rfl
    ·rename_i h2;rw[if_neg h2]
     split at h
     ·rename_i h3;rw[if_pos h3]
      cases hd:b[f+1]? with
      |none=>grind [xW,absurd]
      |some d=>
       have hd1:f+1<b.length:=(List.getElem?_eq_some_iff.1 hd).1
       rw[hd]at h
       simp only at h⊢
       split at h
       ·rename_i h4;rw[if_pos h4]
        exact one 4 (f+2) (by omega) (by omega) (by simp) _ rfl
       ·rename_i h4;rw[if_neg h4]
        grind [Ak]
     ·rename_i h3;rw[if_neg h3]
      split at h
      ·rename_i h4;rw[if_pos h4]
       cases hd:b[f+1]? with
       |none=>grind
       |some d=>
        have hd1:f+1<b.length:=(List.getElem?_eq_some_iff.1 hd).1
        rw[hd]at h
        simp only at h⊢
        split at h
        ·rename_i h5;rw[if_pos h5]
         exact one 5 (f+2) (by omega) (by omega) (by simp) _ rfl
        ·cases h
      ·rename_i h4;rw[if_neg h4]
       split at h
       ·rename_i h5;rw[if_pos h5]
        grind [mR]
       ·rename_i h5;rw[if_neg h5]
        split at h
        ·rename_i h6;rw[if_pos h6]
         have hr2:=GV (b:=b) (f+1) (by omega)
         split at h
         ·rename_i hl
          rw[if_pos hl]
          grind [Zt]
         ·cases h
        ·cases h
def Lf(v:ab):Prop:=v.L=[]/\v.Kind≠8
theorem RI(sg:Int)(wh:List UInt8)(ro:Option (List UInt8)):Lf (U4 sg wh ro).1:=by
 unfold U4 Lf
 grind
theorem adW(s:List UInt8):Lf (Pq s).1:=by
 cases s with
 |nil=>exact RI _ _ _
 |cons c r=>
  show Lf (if _ then _ else _:ab×Int).1
  split
  ·exact RI _ _ _
  ·split<;>exact RI _ _ _
theorem adK(w:List UInt8):Lf (Po w).1:=by grind [Po,Pp,naF,Lf]
theorem Lf0:Lf Dv:=⟨rfl,by decide⟩
theorem XX{f e:Nat}{q:ab×Int}(h:Lf q.1):Lf (tok f e q).1.V:=by
 unfold tok
 split
 ·exact Lf0
 ·exact h
theorem aeI{f:Nat}{T:(List UInt8×Nat)⊕Int}:Lf (yN f T).1.V:=by cases T<;>exact⟨rfl,fun h=>by cases h⟩
theorem aeO(b:List UInt8)(last:Bool)(f:Nat)(c:UInt8):Lf (Hw b last f c).1.V:=by
 unfold Hw
 repeat' split
 all_goals first|exact Lf0|exact⟨rfl,fun h=>by cases h⟩|exact XX (adW _)|exact XX (adK _)|exact aeI
theorem ahm(b:List UInt8)(last:Bool)(k:Nat):Lf (gW b last k).1.V:=by
 unfold gW
 split
 ·exact Lf0
 grind [aeO]
def CE(b c:List UInt8):Prop:=b.length<=c.length/\∀(j:Nat)(x:UInt8),b[j]? =some x->c[j]? =some x
section
variable{b c:List UInt8}{l:Bool}
theorem CE.part(hp:CE b c){i j:Nat}(h:j<=b.length):part c (i:Int) (j:Int)=part b (i:Int) (j:Int):=by
 unfold AB.part
 refine List.ext_getElem? fun m=>?_
 rw[List.getElem?_take,List.getElem?_take]
 split
 ·have hlt:i+m<b.length:=by omega
  have:=hp.2 _ _ (List.getElem?_eq_getElem hlt)
  grind
 ·rfl
theorem Ng(hp:CE b c):∀(f f':Nat)(q:Bool)(j:Nat),b.length -j<=f->c.length -j<=f'->b[G7 b f q j]? ≠none->G7 c f' q j=G7 b f q j
 |0,f',q,j,h,h',hn=>by grind [G7,absurd,List.getElem?_eq_none]
 |f+1,f',q,j,h,h',hn=>by
  cases hx:b[j]? with
  |none=>grind [G7,absurd]
  |some x=>
   have hl:=(cZ hx).1
   have hc:=hp.2 _ _ hx
   have:=hp.1
   obtain⟨g,rfl⟩:∃g,f'=g+1:=⟨f' -1,by omega⟩
   have ih:=fun q=>Ng hp f g q (j+1) (by omega) (by omega)
   rw[G7]at hn
   rw[G7,G7]
   grind
theorem GW(hp:CE b c):∀(f f':Nat)(j:Nat),b.length -j<=f->c.length -j<=f'->Hv b f j<b.length->Hv c f' j=Hv b f j
 |0,f',j,h,h',hn=>by grind [Hv]
 |f+1,f',j,h,h',hn=>by
  cases hx:b[j]? with
  |none=>grind [qg,Hv]
  |some x=>
   have hl:=(cZ hx).1
   have hc:=hp.2 _ _ hx
   have:=hp.1
   obtain⟨g,rfl⟩:∃g,f'=g+1:=⟨f' -1,by omega⟩
   have ih:=GW hp f g (j+1) (by omega) (by omega)
   rw[Hv]at hn
   rw[Hv,Hv]
   grind
theorem ML(hp:CE b c):∀(f f':Nat)(q:List UInt8×Int)(j:Nat),f<=f'->Eh b false f q j≠.inr 6->Eh c l f' q j=Eh b false f q j
 |0,_,q,j,_,h=>absurd rfl h
 |f+1,f',q,j,hf,h=>by
  obtain⟨g,rfl⟩:∃g,f'=g+1:=⟨f' -1,by omega⟩
  have ih:=fun q=>ML hp f g q (j+1) (by omega)
  cases hx:b[j]? with
  |none=>rw[Eh,hx]at h;exact absurd rfl h
  |some x=>
   rw[Eh]at h
   rw[Eh,hp.2 _ _ hx,Eh]
   grind
theorem M3(hp:CE b c):∀(k:Nat)(n:Int)(j:Nat),(xm b k n j).2.2=false->xm c k n j=xm b k n j
 |0,_,_,_=>rfl
 |k+1,n,j,h=>by
  cases hx:b[j]? with
  |none=>grind [xm]
  |some x=>
   rw[xm,hx]at h
   rw[xm,hp.2 _ _ hx,xm,hx]
   simp at h⊢
   split at h<;>rename_i h1
   ·grind
   ·simp[if_neg h1];exact M3 hp k _ _ h
theorem Ub(hp:CE b c)(j:Nat)(h:Kz b false j≠.inr 6):Kz c l j=Kz b false j:=by
 cases hx:b[j]? with
 |none=>unfold Kz at h;rw[hx]at h;exact absurd rfl h
 |some x=>
  unfold Kz at h⊢
  rw[hx]at h⊢
  rw[hp.2 _ _ hx]
  simp only at h⊢
  split at h<;>rename_i h1
  ·grind
  simp only[if_neg h1]
  split at h<;>rename_i h1
  ·grind
  simp only[if_neg h1]
  split at h<;>rename_i h1
  ·grind
  simp only[if_neg h1]
  split at h<;>rename_i h1
  ·grind
  simp only[if_neg h1]
  split at h<;>rename_i h1
  ·grind
  simp only[if_neg h1]
  split at h<;>rename_i h1
  ·grind
  simp only[if_neg h1]
  split at h<;>rename_i h1
  ·simp only[if_pos h1]
   cases hy:b[j+1]? with
   |none=>grind
   |some y=>rw[hp.2 _ _ hy]
  simp only[if_neg h1]
  split at h<;>rename_i h2
  ·grind
  simp only[if_neg h2]
  cases ho:(xm b 2 ((x.toNat:Int) -48) (j+1)).2.2 with
  |true=>grind
  |false=>grind [M3]
theorem Nv(hp:CE b c):∀(f f':Nat)(d:Int)(o:List UInt8)(j:Nat),f<=f'->xL b false f d o j≠.inr 6->xL c l f' d o j=xL b false f d o j
 |0,_,_,_,_,_,h=>absurd rfl h
 |f+1,f',d,o,j,hf,h=>by
  obtain⟨g,rfl⟩:∃g,f'=g+1:=⟨f' -1,by omega⟩
  have ih:=fun d o j=>Nv hp f g d o j (by omega)
  cases hx:b[j]? with
  |none=>rw[xL,hx]at h;exact absurd rfl h
  |some x=>
   rw[xL,hx]at h
   rw[xL,hp.2 _ _ hx,xL]
   simp at h⊢
   split at h
   ·grind [Ub,Kz]
   split at h
   ·cases hy:b[j+1]? with
    |none=>grind
    |some y=>
     rw[hp.2 _ _ hy]
     grind
   grind
theorem Nq{f:Nat}{r:(List UInt8×Nat)⊕Int}(h:(yN f r).2≠6):r≠.inr 6:=fun e=>by rw[e]at h;exact h rfl
theorem VW(hp:CE b c){f:Nat}(hf:f<b.length)(x:UInt8)(h:(Hw b false f x).2≠6):Hw c l f x=Hw b false f x:=by
 have hpl:=hp.1
 unfold Hw at h⊢
 split at h<;>rename_i h1
 ·simp only[if_pos h1]
  cases hd:decide ((tg b f:Int)<(b.length:Int))with
  |false=>grind
  |true=>
   have hlt:=of_decide_eq_true hd
   have hr:tg c f=tg b f:=by
    unfold tg
    exact GW hp _ _ _ (by omega) (by omega) (by grind [tg])
   rw[hr,hp.part (by omega),decide_eq_true (by omega)]
   rfl
 simp only[if_neg h1]
 split at h<;>rename_i h2
 ·grind
 simp only[if_neg h2]
 split at h<;>rename_i h3
 ·grind
 simp only[if_neg h3]
 split at h<;>rename_i h4
 ·simp only[if_pos h4]
  cases hy:b[f+1]? with
  |none=>rw[hy]at h;exact absurd rfl h
  |some y=>
   rw[hy]at h
   rw[hp.2 _ _ hy]
   simp only at h⊢
   split at h<;>rename_i h5
   ·grind
   ·simp only[if_neg h5];grind [ML,Nq]
 simp only[if_neg h4]
 split at h<;>rename_i h5
 ·simp only[if_pos h5]
  cases hy:b[f+1]? with
  |none=>grind
  |some y=>rw[hp.2 _ _ hy]
 simp only[if_neg h5]
 split at h<;>rename_i h6
 ·simp only[if_pos h6]
  grind [Nv,Nq]
 simp only[if_neg h6]
 split at h<;>rename_i h7
 ·simp only[if_pos h7]
  cases hd:decide ((tg b (f+1):Int)<(b.length:Int))with
  |false=>grind
  |true=>
   have hlt:=of_decide_eq_true hd
   have hr:tg c (f+1)=tg b (f+1):=by
    unfold tg
    exact GW hp _ _ _ (by omega) (by omega) (by grind [tg])
   rw[hr,hp.part (by omega),decide_eq_true (by omega)]
   rfl
 grind
theorem tc(hp:CE b c){k:Nat}(hk:k<=b.length)(h:(gW b false k).2≠6):gW c l k=gW b false k:=by
 unfold gW at h⊢
 cases hx:b[Ca b k]? with
 |none=>grind
 |some x=>
  have hs:Ca c k=Ca b k:=by
   refine Ng hp _ _ _ _ (by simp) (by simp) ?_
   show b[Ca b k]? ≠none
   rw[hx];simp
  rw[hs,hp.2 _ _ hx]
  grind [VW,cZ]
end
end Go.AB
end
section
set_option maxRecDepth 4000
namespace Go.AB
open Go
open Go.Proofs.Tryz (prog)
attribute[-go_sem] Nat.add_zero mI cE cy cU bQ cw
section
variable{s0 s:ae}{b:List UInt8}{most:Int}{B:Nat}{z:ZS}{Q:List AV->ae->Prop}
end
end Go.AB
end
section
set_option maxRecDepth 4000
namespace Go.AB
open Go
open Go.Proofs.Tryz (prog)
attribute[-go_sem] cy cU bQ cw Nat.add_zero mI cE
end Go.AB
end
section
namespace Go.AB
open Go
section
variable{b:List UInt8}{last:Bool}
variable(b last)
def vC(k:Nat):Int×Int×Int:=if(gW b last k).2 !=0 then(0,0,(gW b last k).2)else if(gW b last k).1.Kind==0 then(0,0,10)else if !(((gW b last k).1.Kind==1)&&((gW b last k).1.V.Kind==2))then(0,0,11)else((gW b last k).1.V.N,(gW b last k).1.To,0)
def l9(k:Nat)(w:List UInt8):Int×Int:=if(gW b last k).2 !=0 then(0,(gW b last k).2)else if(gW b last k).1.Kind==0 then(0,10)else if !(((gW b last k).1.Kind==6)&&((gW b last k).1.S.b==w))then(0,11)else((gW b last k).1.To,0)
variable{b last}
theorem Gt(hb:b.length<1048576)(k:Nat)(hk:k<=b.length):iu b (k:Int) last=some (vC b last k):=by
 unfold iu lZ vC
 rw[zg hb k hk]
 generalize gW b last k=q
 obtain⟨t,e⟩:=q
 by_cases he:(e !=0)=true
 ·simp_all
 ·rw[if_neg he]
  by_cases h0:(t.Kind==0)=true
  ·simp_all
  ·rw[if_neg h0]
   by_cases hw:(!((t.Kind==1)&&(t.V.Kind==2)))=true
   ·rw[if_pos hw];exact ag (al he (al h0 (ag rfl (aM hw rfl)))) rfl
   ·rw[if_neg hw];exact ag (al he (al h0 (ag rfl (al hw rfl)))) rfl
theorem Rl(hb:b.length<1048576)(k:Nat)(hk:k<=b.length)(w:List UInt8):lC b (k:Int) last ⟨w⟩=some (l9 b last k w):=by
 unfold lC lD l9
 rw[zg hb k hk]
 generalize gW b last k=q
 obtain⟨t,e⟩:=q
 by_cases he:(e !=0)=true
 ·simp_all
 ·rw[if_neg he]
  by_cases h0:(t.Kind==0)=true
  ·simp_all
  ·rw[if_neg h0]
   by_cases hw:(!((t.Kind==6)&&(t.S.b==w)))=true
   ·rw[if_pos hw];exact ag (al he (al h0 (ag rfl (aM hw rfl)))) rfl
   ·rw[if_neg hw];exact ag (al he (al h0 (ag rfl (al hw rfl)))) rfl
end
end Go.AB
end
