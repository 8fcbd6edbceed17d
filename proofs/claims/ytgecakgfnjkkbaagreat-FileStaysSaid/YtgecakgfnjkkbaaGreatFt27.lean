/- A part. -/
import Derived.Test.YtgecakgfnjkkbaaGreatFt26
import Derived.OpenShut
import Derived.ChangeCalls
set_option linter.unusedSimpArgs false
set_option linter.unusedVariables false
section
set_option maxRecDepth 4000
namespace Go.AB
open Go
namespace Fq
section
variable{b:List UInt8}
theorem ID:∀(f:Nat)(q:List UInt8×Int)(j:Nat),Eh b true f q j≠.inr 6
 |0,q,j=>by rw[Eh];intro h;injection h with h;exact absurd h (by decide)
 |f+1,q,j=>by
  rw[Eh]
  repeat' split
  all_goals first
   |exact ID f _ _
   |(intro h;cases h;done)
   |(intro h;injection h with h;exact absurd h (by decide))
theorem Ql(j:Nat):Kz b true j≠.inr 6:=by
 unfold Kz
 repeat' split
 all_goals first
  |(intro h;cases h;done)
  |(intro h;injection h with h;exact absurd h (by decide))
  |simp_all
theorem JP:∀(f:Nat)(d:Int)(o:List UInt8)(j:Nat),xL b true f d o j≠.inr 6
 |0,d,o,j=>by rw[xL];intro h;injection h with h;exact absurd h (by decide)
 |f+1,d,o,j=>by
  rw[xL]
  repeat' split
  all_goals first
   |exact JP f _ _ _
   |(intro h;cases h;done)
   |(intro h;injection h with h;exact absurd h (by decide))
   |(rename_i h1;intro h;injection h with h;subst h;exact Ql _ h1)
   |simp_all
theorem ahl(sg:Int)(wh:List UInt8)(ro:Option (List UInt8)):(U4 sg wh ro).2≠6:=by
 unfold U4
 repeat' split
 all_goals(dsimp only;decide)
theorem ahk(s:List UInt8):(Pq s).2≠6:=by
 unfold Pq Xm
 repeat' split
 all_goals exact ahl _ _ _
theorem adL(w:List UInt8):∀(f:Nat)(o:List UInt8)(i:Nat),Pp w f o i≠.inr 6
 |0,o,i=>by rw[Pp];intro h;cases h
 |f+1,o,i=>by
  rw[Pp]
  repeat' split
  all_goals first
   |exact adL w f _ _
   |(intro h;cases h;done)
   |(intro h;injection h with h;exact absurd h (by decide))
theorem ahf(w:List UInt8):(Po w).2≠6:=by
 unfold Po
 split
 ·rename_i e h
  intro h2
  have h2:e=6:=h2
  subst h2
  exact adL w _ _ _ h
 ·unfold naF
  split<;>(dsimp only;decide)
theorem aeQ{f t:Nat}{q:ab×Int}(h:q.2≠6):(tok f t q).2≠6:=by
 unfold tok
 split
 ·exact h
 ·dsimp only;decide
theorem XU{f:Nat}{r:(List UInt8×Nat)⊕Int}(h:r≠.inr 6):(yN f r).2≠6:=by
 cases r with
 |inl r=>show(0:Int)≠6;decide
 |inr e=>exact fun h2=>h (congrArg Sum.inr h2)
theorem SY(f:Nat)(c:UInt8):(Hw b true f c).2≠6:=by
 unfold Hw
 repeat' split
 all_goals first
  |exact aeQ (ahk _)
  |exact aeQ (ahf _)
  |exact XU (ID _ _ _)
  |exact XU (JP _ _ _ _)
  |(dsimp only;decide)
  |simp_all
theorem sj(k:Nat):(gW b true k).2≠6:=by
 unfold gW
 split
 ·show(0:Int)≠6;decide
 ·exact SY _ _
theorem Ry{e:Int}(h:e≠6):moE e≠6:=by
 unfold moE
 split
 ·exact h
 ·decide
theorem OQ(j:Nat)(v:ab):(vH b true j v).2.1≠6:=by
 unfold vH
 repeat' split
 all_goals first
  |exact Ry (sj _)
  |(dsimp only;decide)
theorem ae7{w:bk}{r:ab×Int}(h:j5 w=some r):r.2≠6:=by
 unfold j5 at h
 repeat' split at h
 all_goals(injection h with h;subst h;dsimp only;decide)
theorem VH(hb:b.length<1048576){j:Nat}(hj:j<=b.length){t:aF}{st:List aX}{r:ab×Int×Int}(h:lM ⟨b,(j:Int),true,st⟩ t=some r):r.2.1≠6:=by
 unfold lM at h
 split at h
 ·injection h with h;subst h;show(11:Int)≠6;decide
 split at h
 ·obtain⟨q,h1,h2⟩:=cO h
  injection h2 with h2;subst h2
  exact ae7 h1
 ·obtain⟨w,_,h2⟩:=cO h
  cases w with
  |false=>injection h2 with h2;subst h2;show(0:Int)≠6;decide
  |true=>
   obtain⟨q,h3,h4⟩:=cO h2
   injection h4 with h4;subst h4
   rw[Lz hb hj]at h3
   injection h3 with h3;subst h3
   exact OQ j _
theorem ZR{l:List ab}{r:List ab×Int}(h:lA l=some r):r.2≠6:=by
 unfold lA bt at h
 split at h
 ·cases hx:oG (vO (dj l (l.length/2)))<;>rw[hx]at h<;>(injection h with h;subst h;dsimp only;decide)
 ·cases h
theorem Yd(p:PS)(d:Bool):(lh p d).1≠6:=by
 unfold lh
 cases dJ p.st with
 |true=>show(11:Int)≠6;decide
 |false=>
  rw[cond_false]
  cases decide (64<=p.st.length)with
  |true=>show(15:Int)≠6;decide
  |false=>show(0:Int)≠6;decide
theorem agv{p:PS}{d:Bool}{r:ab×Int×PS}(h:FQ lA p d=some r):r.2.1≠6:=by
 unfold FQ at h
 cases hb:nq p.st d with
 |true=>rw[hb,cond_true]at h;injection h with h;subst h;show(11:Int)≠6;decide
 |false=>
  rw[hb,cond_false]at h
  obtain⟨b,a,l,st⟩:=p
  cases st with
  |nil=>cases h
  |cons v vs=>
   cases d with
   |false=>
    dsimp only at h
    rw[cond_false]at h
    injection h with h;subst h;show(0:Int)≠6;decide
   |true=>
    dsimp only at h
    rw[cond_true]at h
    obtain⟨q,g1,g2⟩:=cO h
    have h6:=ZR g1
    cases hx:(q.2 !=0)<;>rw[hx]at g2<;>injection g2 with g2<;>subst g2
    ·show(0:Int)≠6;decide
    ·exact h6
theorem aeH(hb:b.length<1048576){j:Nat}(hj:j<=b.length){t:aF}{st:List aX}{r:ab×Bool×Int×PS}(h:uG lA ⟨b,(j:Int),true,st⟩ t=some r):r.2.2.1≠6:=by
 unfold uG at h
 cases h0:(t.Kind==0)with
 |true=>rw[h0,cond_true]at h;injection h with h;subst h;show(10:Int)≠6;decide
 |false=>
  rw[h0,cond_false]at h
  cases h1:(t.Kind==2||t.Kind==4)with
  |true=>
   rw[h1,cond_true]at h;injection h with h;subst h
   exact Yd _ _
  |false=>
   rw[h1,cond_false]at h
   cases h2:(t.Kind==3||t.Kind==5)with
   |true=>
    rw[h2,cond_true]at h
    obtain⟨q,g1,g2⟩:=cO h
    injection g2 with g2;subst g2
    exact agv g1
   |false=>
    rw[h2,cond_false]at h
    obtain⟨q,g1,g2⟩:=cO h
    have h6:=VH hb hj g1
    cases hx:(q.2.1==0&&decide (64<=st.length))<;>simp only[hx,cond_true,cond_false]at g2<;>injection g2 with g2<;>subst g2
    ·exact h6
    ·show(15:Int)≠6;decide
theorem Zq(hb:b.length<1048576){k:Nat}(hk:k<=b.length){st:List aX}(h64:st.length<=64){o:ab×Int×Int}(h:Mc ⟨b,(k:Int),true,st⟩=some (.inr o)):o.2.2≠6:=by
 by_cases hok:(gW b true k).2=0
 ·obtain⟨⟨j,e1,hj,_⟩,_,_⟩:=zl hk hok
  rw[MZ hb hk h64 hok,e1]at h
  obtain⟨r,r1,r2⟩:=cO h
  have h6:=aeH hb hj r1
  unfold F7 at r2
  cases hx:(r.2.2.1 !=0)with
  |true=>rw[hx,cond_true]at r2;injection r2 with r2;injection r2 with r2;subst r2;exact h6
  |false=>
   rw[hx,cond_false]at r2
   cases hy:(!r.2.1)with
   |true=>rw[hy,cond_true]at r2;injection r2 with r2;cases r2
   |false=>
    rw[hy,cond_false]at r2
    unfold bt at r2
    split at r2
    ·cases hs:r.2.2.2.st with
     |nil=>rw[hs]at r2;injection r2 with r2;injection r2 with r2;subst r2;show(0:Int)≠6;decide
     |cons v vs=>
      rw[hs]at r2
      dsimp only at r2
      split at r2
      ·injection r2 with r2;cases r2
      ·cases r2
    ·cases r2
 ·rw[I5 hb hk h64 hok]at h
  injection h with h;injection h with h;subst h
  exact sj k
theorem val_last(hb:b.length<1048576){k:Nat}(hk:k<=b.length):∃o,kl b (k:Int) true=some o/\NC b o/\o.2.2≠6:=by
 have:=eP (body:=Mc) (s0:=⟨b,(k:Int),true,[]⟩) (fun s=>∃(j:Nat)(st:List aX),s=⟨b,(j:Int),true,st⟩/\j<=b.length/\st.length<=64/\Tu st j) (fun s=>b.length -s.at_.toNat) (fun o=>NC b o/\o.2.2≠6)
  ⟨k,[],rfl,hk,Nat.zero_le _,trivial⟩ (by show b.length -((k:Int)).toNat<_;omega) (by
    rintro s ⟨j,st,rfl,hj,h64,hw⟩
    obtain⟨x,h1,h2⟩:=aeY (last:=true) hb hj h64 hw
    refine⟨x,h1,?_⟩
    cases x with
    |inl p=>
     obtain⟨j',st',rfl,g1,g2,g3,g4⟩:=h2
     exact⟨⟨j',st',rfl,g2,g3,g4⟩,by show b.length -((j':Int)).toNat<b.length -((j:Int)).toNat;omega⟩
    |inr o=>exact⟨h2,Zq hb hj h64 h1⟩)
 exact this
def Un(b:List UInt8)(r:af):Prop:=∃(j:Nat)(e:Int),r=R b (j:Int) true e/\j<=b.length/\e≠6
theorem Un.mk{j:Nat}{e:Int}(hj:j<=b.length)(he:e≠6):Un b (R b (j:Int) true e):=⟨j,e,rfl,hj,he⟩
def L3{α:Type}(b:List UInt8)(r:af)(F:af->Option (α×af)):Prop:=∃x r',F r=some (x,r')/\Un b r'
theorem L3.by{α:Type}{r:af}(h:Un b r){F:af->Option (α×af)}(x:α)(hF:∀r:af,r.e_≠0->F r=some (x,r))(QN:∀j:Nat,j<=b.length->L3 b (R b (j:Int) true 0) F):L3 b r F:=by
 by_cases he:r.e_=0
 ·obtain⟨j,e,rfl,hj,_⟩:=h
  obtain rfl:e=0:=he
  exact QN j hj
 ·exact⟨x,r,hF r he,h⟩
variable(hb:b.length<1048576)
include hb
theorem EG{r:af}(h:Un b r)(x y:Int):L3 b r (fun r=>bU r x y):=by
 refine L3.by h 0 (fun r hr=>WG hr x y) fun j hj=>?_
 have h1:=yy (Gt (last:=true) hb j hj) x y
 obtain⟨i,i1,i2⟩:∃i:Nat,(vC b true j).2.1=(i:Int)/\i<=b.length:=by
  obtain⟨i,i1,i2⟩:=yz (last:=true) hj
  unfold vC
  split
  ·exact⟨0,rfl,Nat.zero_le _⟩
  ·split
   ·exact⟨0,rfl,Nat.zero_le _⟩
   ·split
    ·exact⟨0,rfl,Nat.zero_le _⟩
    ·exact⟨i,i1,i2⟩
 have h6:(vC b true j).2.2≠6:=by
  unfold vC
  repeat' split
  all_goals first
   |exact sj j
   |(dsimp only;decide)
 have he:eN (vC b true j) x y≠6:=by
  generalize vC b true j=q at h6
  unfold eN
  repeat' split
  all_goals first
   |exact h6
   |decide
 rw[i1]at h1
 exact⟨_,_,h1,Un.mk i2 he⟩
theorem Ho{r:af}(h:Un b r)(w:List UInt8):L3 b r (W1 fun r=>ax r ⟨w⟩):=by
 refine L3.by h () (fun r hr=>ag (P7 hr ⟨w⟩) rfl) fun j hj=>?_
 have h1:W1 (fun r=>ax r ⟨w⟩) (R b (j:Int) true 0)=some ((),R b (l9 b true j w).1 true (l9 b true j w).2):=by
  refine ag ?_ rfl
  unfold ax
  exact al xJ (ag (Rl hb j hj w) rfl)
 obtain⟨i,i1,i2⟩:∃i:Nat,(l9 b true j w).1=(i:Int)/\i<=b.length:=by
  obtain⟨i,i1,i2⟩:=yz (last:=true) hj
  unfold l9
  split
  ·exact⟨0,rfl,Nat.zero_le _⟩
  ·split
   ·exact⟨0,rfl,Nat.zero_le _⟩
   ·split
    ·exact⟨0,rfl,Nat.zero_le _⟩
    ·exact⟨i,i1,i2⟩
 have h6:(l9 b true j w).2≠6:=by
  unfold l9
  repeat' split
  all_goals first
   |exact sj j
   |(dsimp only;decide)
 rw[i1]at h1
 exact⟨_,_,h1,Un.mk i2 h6⟩
theorem Tj{r:af}(h:Un b r):∃v r',bw r=some (v,r')/\Un b r'/\Wd 67 v:=by
 by_cases he:r.e_=0
 ·obtain⟨j,e,rfl,hj,_⟩:=h
  obtain rfl:e=0:=he
  obtain⟨⟨v,to,e⟩,h1,⟨⟨i,i1,i2⟩,hw⟩,h3⟩:=val_last hb hj
  have i1:to=(i:Int):=i1
  subst i1
  exact⟨v,R b (i:Int) true e,by unfold bw;exact al xJ (ag h1 rfl),Un.mk i2 h3,hw⟩
 ·exact⟨_,r,P6 he,h,Wd0⟩
theorem LP{r:af}(h:Un b r):L3 b r aO:=by
 refine L3.by h false (fun r hr=>P5 hr) fun j hj=>?_
 obtain⟨i,i1,i2⟩:=yz (last:=true) hj
 have h6:=sj (b:=b) j
 have hn:=zg (last:=true) hb j hj
 generalize gW b true j=q at hn i1 h6
 obtain⟨t,e⟩:=q
 have i1:t.To=(i:Int):=i1
 have un:∀{e:Int},e≠6->Un b (R b t.To true e):=fun he=>by rw[i1];exact Un.mk i2 he
 by_cases he:e=0
 ·subst he
  by_cases h0:(t.Kind==0)=true
  ·refine⟨_,_,by unfold aO;exact al xJ (ag hn (ey (al xJ (aM h0 (ag (nr _ _ _ _) rfl))) rfl)),un (e:=10) (by decide)⟩
  ·by_cases hw:((t.Kind !=6)||((!(t.S.b==(bk.mk [101,110,100,111,98,106]).b))&&(!(t.S.b==(bk.mk [115,116,114,101,97,109]).b))))=true
   ·refine⟨_,_,by unfold aO;exact al xJ (ag hn (ey (al xJ (al h0 (aM hw (ag (nr _ _ _ _) rfl)))) rfl)),un (e:=18) (by decide)⟩
   ·refine⟨_,_,by unfold aO;exact al xJ (ag hn (ey (al xJ (al h0 (al hw rfl))) rfl)),un (e:=0) (by decide)⟩
 ·refine⟨_,_,by unfold aO;exact al xJ (ag hn (ey (aM (by simpa using he) rfl) rfl)),un h6⟩
theorem UR{r:af}(h:Un b r):L3 b r (W1 aZ):=by
 obtain⟨j,e,rfl,hj,h6⟩:=h
 by_cases he:e=0
 ·subst he
  obtain⟨k,hk,_,h2⟩:=PA (last:=true) hb hj 0
  by_cases hkl:k<b.length
  ·by_cases h10:(((ix b (k:Int)).toNat:Int)!=10)=true
   ·refine⟨(),R b (k:Int) true 18,ag ?_ rfl,Un.mk hk (by decide)⟩
    unfold aZ
    exact ey h2 (al xJ (al (by show¬decide ((k:Int)>=(b.length:Int))=true;simp;omega) (aD (by show 0<=(k:Int)/\(k:Int)<b.length;omega) (aM h10 (ag (nr _ _ _ _) rfl)))))
   ·refine⟨(),R b ((k+1:Nat):Int) true 0,ag ?_ rfl,Un.mk hkl (by decide)⟩
    have w:aC ((k:Int)+1)=((k+1:Nat):Int):=by rw[ar (by omega) (by omega)];omega
    unfold aZ
    refine ey h2 (al xJ (al (by show¬decide ((k:Int)>=(b.length:Int))=true;simp;omega) (aD (by show 0<=(k:Int)/\(k:Int)<b.length;omega) (al h10 ?_))))
    show some (R b (aC ((k:Int)+1)) true 0)=_
    rw[w]
  ·refine⟨(),R b (k:Int) true 10,ag ?_ rfl,Un.mk hk (by decide)⟩
   unfold aZ
   exact ey h2 (al xJ (aM (by simp;omega) (ag (te b _ true) (ag (nr _ _ _ _) rfl))))
 ·obtain⟨k,hk,hl⟩:=nz (c:=b) (last:=true) hb hj he
  exact⟨(),_,ag hl rfl,Un.mk hk h6⟩
theorem PJ{r:af}(h:Un b r)(n:Int)(hn:r.e_=0->0<=n/\n<=16777216):L3 b r (fun r=>aI r n):=by
 by_cases he:r.e_=0
 ·obtain⟨n0,n1⟩:=hn he
  obtain⟨j,e,rfl,hj,_⟩:=h
  obtain rfl:e=0:=he
  obtain⟨m,rfl⟩:∃m:Nat,n=m:=⟨n.toNat,by omega⟩
  have w3:aC ((b.length:Int) -(j:Int))=(b.length:Int) -(j:Int):=ar (by omega) (by omega)
  by_cases hlt:(b.length:Int) -(j:Int)<(m:Int)
  ·refine⟨[],R b (j:Int) true 10,?_,Un.mk hj (by decide)⟩
   show aI _ _=_
   unfold aI
   exact al xJ (aM (by show decide ((m:Int)>aC ((b.length:Int) -(j:Int)))=true;rw[w3];exact decide_eq_true hlt) (ag (te b _ true) (ag (nr _ _ _ _) rfl)))
  ·have w4:aC ((j:Int)+(m:Int))=((j+m:Nat):Int):=by rw[ar (by omega) (by omega)];omega
   have w5:aC (((j+m:Nat):Int) -(m:Int))=(j:Int):=by rw[ar (by omega) (by omega)];omega
   refine⟨part b (j:Int) ((j+m:Nat):Int),R b ((j+m:Nat):Int) true 0,?_,Un.mk (by omega) (by decide)⟩
   show aI _ _=_
   unfold aI
   refine al xJ (al (by show¬decide ((m:Int)>aC ((b.length:Int) -(j:Int)))=true;rw[w3];simp;omega) ?_)
   show bt (0<=aC ((aC ((j:Int)+(m:Int))) -(m:Int))/\aC ((aC ((j:Int)+(m:Int))) -(m:Int))<=aC ((j:Int)+(m:Int))/\aC ((j:Int)+(m:Int))<=b.length) (some (part b (aC ((aC ((j:Int)+(m:Int))) -(m:Int))) (aC ((j:Int)+(m:Int))),R b (aC ((j:Int)+(m:Int))) true 0))=_
   rw[w4,w5]
   exact aD (by omega) rfl
 ·exact⟨[],r,Ai he n,h⟩
omit hb in
theorem MA{r:af}(h:Un b r){e:Int}(h6:e≠6):L3 b r (W1 fun r=>aw r e):=by
 obtain⟨j,e1,rfl,hj,h2⟩:=h
 by_cases h0:e1=0
 ·subst h0
  exact⟨(),_,ag (nr _ _ _ _) rfl,Un.mk hj h6⟩
 ·refine⟨(),R b (j:Int) true e1,ag (a:=R b (j:Int) true e1) ?_ rfl,Un.mk hj h2⟩
  unfold aw
  exact al (by simpa using h0) rfl
omit hb in
theorem TX{r:af}(h:Un b r)(p:Bool){x:List UInt8}(hx:r.e_=0->x.length<1048576):L3 b r (T0 p x):=by
 cases p with
 |false=>exact⟨x,r,al (by simp) rfl,h⟩
 |true=>
  by_cases he:r.e_=0
  ·have hu:gm x 16777216=some (rl x 16777216):=by unfold gm;exact aD ⟨by have:=hx he;omega,by decide,by decide⟩ rfl
   generalize rl x 16777216=u at hu
   have hc:(true&&(r.e_==0))=true:=by rw[he];rfl
   by_cases h0:(u.2.2 !=0)=true
   ·obtain⟨_,r',h1,h2⟩:=MA h (e:=18) (by decide)
    obtain⟨r1,h4,h5⟩:=cO h1
    injection h5 with h5
    injection h5 with _ h5
    subst h5
    exact⟨u.1,r1,aM hc (ag hu (ey (aM h0 (ag h4 rfl)) rfl)),h2⟩
   ·exact⟨u.1,r,aM hc (ag hu (ey (al h0 rfl) rfl)),h⟩
  ·exact⟨x,r,al (by simp[he]) rfl,h⟩
theorem Pb{r:af}(h:Un b r){v:ab}(hW:Wd 67 v):∃o r',bg r v=some (o,r')/\Un b r'/\Wd 67 o.V:=by
 obtain⟨g,i,p,w2,hW2,e⟩:=E1 hW
 rw[<-e]
 obtain⟨_,r1,f1,u1⟩:L3 b r (W1 fun r=>if((A7 v g||decide (i>=0))||!p.2)=true then aw r 18 else some r):=by
  by_cases Dh:((A7 v g||decide (i>=0))||!p.2)=true
  ·simp only[if_pos Dh]
   exact MA h (by decide)
  ·simp only[if_neg Dh]
   exact⟨(),r,rfl,h⟩
 have hN:r1.e_=0->0<=g.N/\g.N<=16777216:=fun h0=>by
  by_cases Dh:((A7 v g||decide (i>=0))||!p.2)=true
  ·have f1:(bn (if((A7 v g||decide (i>=0))||!p.2)=true then aw r 18 else some r) fun r=>some ((),r))=some ((),r1):=f1
   rw[if_pos Dh]at f1
   obtain⟨r0,f2,f3⟩:=cO f1
   injection f3 with f3
   injection f3 with _ f3
   subst f3
   unfold aw at f2
   by_cases h00:(r.e_==0)=true
   ·rw[if_pos h00]at f2;injection f2 with f2;subst f2;cases h0
   ·rw[if_neg h00]at f2;injection f2 with f2;subst f2;exact absurd (by simpa using h0) h00
  ·have hA:=(Bool.or_eq_false_iff.1 (Bool.or_eq_false_iff.1 (by simpa using Dh:((A7 v g||decide (i>=0))||!p.2)=false)).1).1
   have h1:=(Bool.or_eq_false_iff.1 hA).2
   have h2:=(Bool.or_eq_false_iff.1 (Bool.or_eq_false_iff.1 hA).1).2
   exact⟨by have:=of_decide_eq_false h2;omega,by have:=of_decide_eq_false h1;omega⟩
 obtain⟨_,r2,f2,u2⟩:=UR hb u1
 have hN2:r2.e_=0->0<=g.N/\g.N<=16777216:=fun h0=>by
  by_cases h1:r1.e_=0
  ·exact hN h1
  ·obtain⟨j,e,rfl,hj,_⟩:=u1
   obtain⟨k,hk,hl⟩:=nz (c:=b) (last:=true) hb hj h1
   unfold W1 at f2
   rw[hl,aJ]at f2
   injection f2 with f2
   injection f2 with _ f2
   subst f2
   exact absurd h0 h1
 obtain⟨x,r3,f3,u3⟩:=PJ hb u2 g.N hN2
 have f3:aI r2 g.N=some (x,r3):=f3
 have hx:x.length<1048576:=by
  by_cases h2:r2.e_=0
  ·obtain⟨j,e,rfl,hj,_⟩:=u2
   obtain rfl:e=0:=h2
   unfold aI at f3
   rw[if_neg xJ]at f3
   split at f3
   ·rw[te,aJ,nr,aJ]at f3
    injection f3 with f3
    injection f3 with f3 _
    subst f3
    decide
   ·unfold bt at f3
    split at f3
    ·injection f3 with f3
     injection f3 with f3 _
     subst f3
     unfold AB.part
     rw[List.length_take,List.length_drop]
     show min _ (b.length -_)<_
     omega
    ·cases f3
  ·rw[Ai h2]at f3
   injection f3 with f3
   injection f3 with f3 _
   subst f3
   decide
 obtain⟨_,r4,f4,u4⟩:=Ho hb u3 [101,110,100,115,116,114,101,97,109]
 obtain⟨_,r5,f5,u5⟩:=Ho hb u4 [101,110,100,111,98,106]
 obtain⟨y,r6,f6,u6⟩:=TX u5 p.1 (fun _=>hx)
 exact⟨_,r6,ag f1 (ag f2 (ag f3 (ag f4 (ag f5 (ag f6 rfl))))),u6,hW2⟩
theorem KF:∃z,cW b 0 true=some z/\Wd 67 z.2.1.V/\z.2.2.2≠6:=by
 have t0:Un b (R b ((0:Nat):Int) true 0):=Un.mk (Nat.zero_le _) (by decide)
 obtain⟨n,r1,a1,t1⟩:=EG hb t0 1 4096
 obtain⟨m,r2,a2,t2⟩:=EG hb t1 0 0
 obtain⟨_,r3,a3,t3⟩:=Ho hb t2 [111,98,106]
 obtain⟨v,r4,a4,t4,hv⟩:=Tj hb t3
 obtain⟨x,r5,a5,t5⟩:=LP hb t4
 have a3':ax r2 ⟨[111,98,106]⟩=some r3:=by
  obtain⟨q,h1,h2⟩:=cO a3
  have h1:ax r2 ⟨[111,98,106]⟩=some q:=h1
  injection h2 with h2
  injection h2 with _ h2
  rw[h1,h2]
 have tail:∀o(r6:af),Wd 67 o.V->(if x=true then bn (bg r5 v) fun r11=>some (r11.1,r11.2)else some (aL.mk v false (bk.mk []),r5))=some (o,r6)->Un b r6->∃z,cW b 0 true=some z/\Wd 67 z.2.1.V/\z.2.2.2≠6:=fun o r6 hW f1 t6=>by
  refine⟨if(r6.e_ !=0)=true then(0,o0,0,r6.e_)else(n,o,r6.az.at_,0),?_,?_,?_⟩
  ·unfold cW
   refine ag a1 (ag a2 (ag a3' (ag a4 (ag rfl (ey (a:=(o,r6)) (ag a5 f1) ?_)))))
   dsimp only
   split<;>rfl
  ·split
   ·exact Wd0
   ·exact hW
  ·obtain⟨j,e,rfl,hj,h6⟩:=t6
   split
   ·exact h6
   ·dsimp only;decide
 cases hxx:x with
 |false=>
  subst hxx
  exact tail _ r5 hv rfl t5
 |true=>
  subst hxx
  obtain⟨o,r6,g1,g2,g3⟩:=Pb hb t5 hv
  exact tail o r6 g3 (by rw[if_pos rfl,g1];rfl) g2
end
end Fq
end Go.AB
end
section
set_option maxRecDepth 4000
namespace Go.AB
open Go
attribute[-go_sem] Nat.add_zero mI cE
def zx(m:Hr)(p:Nat):Option UInt8:=(m ((p/4096:Nat):Int)).bind fun l=>l[p % 4096]?
def J0(m:Hr):Prop:=∀k l,m k=some l->l.length=4096
theorem RS{c x:List UInt8}{o i:Nat}(h:o+x.length<=c.length):(lY c o x)[i]? =if o<=i/\i<o+x.length then x[i -o]? else c[i]? :=by
 unfold lY
 have ht:(c.take o).length=o:=by rw[List.length_take];omega
 by_cases h1:i<o
 ·rw[if_neg (by omega),List.append_assoc,List.getElem?_append_left (by omega),List.getElem?_take_of_lt h1]
 ·by_cases h2:i<o+x.length
  ·rw[if_pos (by omega),List.append_assoc,List.getElem?_append_right (by omega),ht,List.getElem?_append_left (by omega)]
  ·rw[if_neg (by omega),List.getElem?_append_right (by rw[List.length_append];omega),List.length_append,ht,List.getElem?_drop]
   congr 1;omega
theorem L6{m:Hr}{k p:Nat}{l:List UInt8}:zx (nS m (k:Int) l) p=if p/4096=k then l[p % 4096]? else zx m p:=by
 unfold zx nS
 by_cases h:p/4096=k
 ·rw[if_pos (by omega),if_pos h];rfl
 ·rw[if_neg (by omega),if_neg h]
theorem tm4(a:Nat):((a:Int).tmod 4096).toNat=a % 4096:=by rw[Int.tmod_eq_emod_of_nonneg (by omega)];omega
theorem td4{a:Nat}(h:a<4611686018427387904):aC ((a:Int).tdiv 4096)=((a/4096:Nat):Int):=by rw[Int.tdiv_eq_ediv_of_nonneg (by omega),ar (by omega) (by omega)];omega
theorem Tn{m:Hr}(hm:J0 m)(a0:Nat)(l0:List UInt8)(hb:a0+l0.length<=2147483647):
 ∃m',iter Cx ((a0:Int),l0,m)=some m'/\J0 m'/\(∀p,a0<=p->p<a0+l0.length->zx m' p=l0[p -a0]?)/\∀p x,¬(a0<=p/\p<a0+l0.length)->zx m p=some x->zx m' p=some x:=by
 refine eP (fun st:Int×List UInt8×Hr=>∃a:Nat,st.1=a/\a0<=a/\a<=a0+l0.length/\st.2.1=l0.drop (a -a0)/\J0 st.2.2/\(∀p,a0<=p->p<a->zx st.2.2 p=l0[p -a0]?)/\∀p x,¬(a0<=p/\p<a)->zx m p=some x->zx st.2.2 p=some x)
  (fun st=>st.2.1.length) _ ⟨a0,rfl,Nat.le_refl _,by omega,by simp,hm,fun p h1 h2=>by omega,fun p x _ h=>h⟩ (by show l0.length<_;omega) ?_
 rintro⟨a,l,M⟩ ⟨a,rfl,h1,h2,rfl,hM,h3,h4⟩
 have hl:(l0.drop (a -a0)).length=l0.length -(a -a0):=List.length_drop
 unfold Cx
 by_cases hc:0<(l0.drop (a -a0)).length
 ·dsimp only
  rw[if_pos (by simpa using hc)]
  refine⟨_,rfl,?_⟩
  rw[tm4,td4 (by omega)]
  have hn:min (l0.drop (a -a0)).length (4096 -a % 4096)=min (l0.length -(a -a0)) (4096 -a % 4096):=by rw[hl]
  generalize hN:min (l0.drop (a -a0)).length (4096 -a % 4096)=n at hn
  have aiW:a % 4096<4096:=Nat.mod_lt _ (by decide)
  rw[ar (by omega) (by omega)]
  generalize hc0:(M ((a/4096:Nat):Int)).getD NA=c
  have hcl:c.length=4096:=by
   subst hc0
   cases e:M ((a/4096:Nat):Int)with
   |none=>exact List.length_replicate ..
   |some l=>exact hM _ _ e
  have htl:((l0.drop (a -a0)).take n).length=n:=by rw[List.length_take];omega
  have acU:∀p x,p/4096=a/4096->zx M p=some x->c[p % 4096]? =some x:=fun p x e hp=>by
   unfold zx at hp
   rw[e]at hp
   subst hc0
   cases e2:M ((a/4096:Nat):Int)with
   |none=>rw[e2]at hp;cases hp
   |some l=>rw[e2]at hp;exact hp
  have hov:∀p,p/4096=a/4096->(lY c (a % 4096) ((l0.drop (a -a0)).take n))[p % 4096]? =if a<=p/\p<a+n then l0[p -a0]? else c[p % 4096]? :=fun p e=>by
   rw[RS (by omega),htl]
   by_cases hp:a<=p/\p<a+n
   ·rw[if_pos (by omega),if_pos hp,List.getElem?_take_of_lt (by omega),List.getElem?_drop]
    congr 1;omega
   ·rw[if_neg (by omega),if_neg hp]
  refine⟨⟨a+n,by omega,by omega,by omega,?_,?_,fun p q1 q2=>?_,fun p x q1 q2=>?_⟩,?_⟩
  ·show List.drop n (l0.drop (a -a0))=_
   rw[List.drop_drop];congr 1;omega
  ·intro k l hk
   have hk':(if k=((a/4096:Nat):Int)then some (lY c (a % 4096) ((l0.drop (a -a0)).take n))else M k)=some l:=hk
   split at hk'
   ·injection hk' with hk'
    rw[<-hk'];unfold lY
    simp only[List.length_append,htl,List.length_drop,hcl]
    rw[List.length_take]
    omega
   ·exact hM k l hk'
  ·show zx (nS M _ _) p=_
   rw[L6]
   by_cases e:p/4096=a/4096
   ·rw[if_pos e,hov p e]
    by_cases hp:a<=p/\p<a+n
    ·rw[if_pos hp]
    ·rw[if_neg hp]
     have:=h3 p q1 (by omega)
     have e5:l0[p -a0]? =some l0[p -a0]:=List.getElem?_eq_getElem (by omega)
     rw[e5]at this⊢
     exact acU p _ e this
   ·rw[if_neg e]
    exact h3 p q1 (by omega)
  ·show zx (nS M _ _) p=_
   rw[L6]
   have h5:=h4 p x (by omega) q2
   by_cases e:p/4096=a/4096
   ·rw[if_pos e,hov p e,if_neg (by omega)]
    exact acU p x e h5
   ·rw[if_neg e];exact h5
  ·show(List.drop n (l0.drop (a -a0))).length<_
   rw[List.length_drop];omega
 ·dsimp only
  rw[if_neg (by simpa using hc)]
  have e:a=a0+l0.length:=by omega
  subst e
  exact⟨_,rfl,hM,h3,h4⟩
theorem Vu{M:Hr}(hM:J0 M){b:List UInt8}(a n:Nat)(hb:a+n<=b.length)(hl:b.length<=2147483647)(h:∀p,a<=p->p<a+n->zx M p=b[p]?):
 iter (Jt M (a:Int) (n:Int)) []=some ((b.drop a).take n):=by
 refine iter_eq (fun out=>∃j,j<=n/\out=(b.drop a).take j) (fun out=>n -out.length) ⟨0,Nat.zero_le _,by simp⟩ (by omega) ?_
 rintro _ ⟨j,hj,rfl⟩
 have hlen:((b.drop a).take j).length=j:=by rw[List.length_take,List.length_drop];omega
 unfold Jt
 rw[hlen]
 by_cases hc:j<n
 ·left
  rw[if_pos (by simpa using hc)]
  have e1:aC ((a:Int)+(j:Int))=((a+j:Nat):Int):=by rw[ar (by omega) (by omega)];omega
  rw[e1,tm4,td4 (by omega)]
  have hq:=h (a+j) (by omega) (by omega)
  rw[List.getElem?_eq_getElem (by omega)]at hq
  unfold zx at hq
  cases e:M (((a+j)/4096:Nat):Int)with
  |none=>rw[e]at hq;cases hq
  |some pd=>
   have hbl:=hM _ _ e
   refine⟨_,aD rfl rfl,⟨j+min (4096 -(a+j)% 4096) (n -j),by omega,?_⟩,?_⟩
   ·rw[show((n:Int) -(j:Int)).toNat=n -j by omega]
    show List.take j (b.drop a)++(pd.drop ((a+j)% 4096)).take (min (4096 -(a+j)% 4096) (n -j))=_
    rw[List.take_add,List.drop_drop]
    congr 1
    refine List.ext_getElem? fun i=>?_
    by_cases hi:i<min (4096 -(a+j)% 4096) (n -j)
    ·rw[List.getElem?_take_of_lt hi,List.getElem?_take_of_lt hi,List.getElem?_drop,List.getElem?_drop]
     have h5:=h (a+j+i) (by omega) (by omega)
     unfold zx at h5
     rw[show(a+j+i)/4096=(a+j)/4096 by omega,e]at h5
     rw[<-h5]
     show _=pd[(a+j+i)% 4096]?
     congr 1;omega
    ·rw[List.getElem?_take_eq_none (by omega),List.getElem?_take_eq_none (by omega)]
   ·rw[show((n:Int) -(j:Int)).toNat=n -j by omega]
    show n -(List.take j (b.drop a)++(pd.drop ((a+j)% 4096)).take (min (4096 -(a+j)% 4096) (n -j))).length<n -j
    rw[List.length_append,hlen,List.length_take,List.length_drop];omega
 ·right
  rw[if_neg (by simpa using hc)]
  have:j=n:=by omega
  subst this;rfl
structure GB(b:List UInt8)(n:Nat)(g:gY):Prop where
 cQ:g.total=b.length
 form:Form g.known
 le:∀y∈g.known,y.To<=b.length
 len:g.known.length<=n
 ok:J0 g.pd
 by_:∀p:Nat,dc p g.known->zx g.pd p=b[p]?
theorem Qu(b:List UInt8):GB b 0 ⟨b.length,[],fun _=>none⟩:=⟨rfl,⟨fun _ h=>absurd h List.not_mem_nil,List.Pairwise.nil⟩,fun _ h=>absurd h List.not_mem_nil,Nat.le_refl _,fun k l h=>(by cases h),fun p⟨_,h,_⟩=>absurd h List.not_mem_nil⟩
theorem Qv{b:List UInt8}{n:Nat}{g:gY}(h:GB b n g)(hn:n+2<=100000000)(hb:b.length<=2147483647)(a:Nat)(l:List UInt8)(hl:a+l.length<=b.length)(he:∀i,i<l.length->l[i]? =b[a+i]?):
 ∃g',gX g a l=some (g',0)/\GB b (n+1) g'/\∀p,dc p g'.known↔dc p g.known\/((a:Int)<=p/\p<a+l.length):=by
 obtain⟨cQ,form,le,len,ok,by_⟩:=h
 have hw:aC ((a:Int)+(l.length:Int))=(a:Int)+l.length:=ar (by omega) (by omega)
 have hw2:aC (g.total -(a:Int))=(b.length:Int) -a:=by rw[cQ];exact ar (by omega) (by omega)
 obtain⟨ms,m1,m2,m3,m4,m5⟩:=JE (x:=⟨a,(a:Int)+l.length⟩) form (by omega)
 obtain⟨kn,k1,k2,k3,k4,k5⟩:=VF (x:=⟨a,(a:Int)+l.length⟩) form (fun y hy=>by have:=le y hy;omega) (by show(a:Int)+l.length<=_;omega) (by omega)
 have hin:∀y∈ms,(a:Int)<=y.aR/\y.aR<y.To/\y.To<=a+l.length:=fun y hy=>by
  have h1:=m2.1 y hy
  have h2:=((m5 y.aR).1 ⟨y,hy,Int.le_refl _,h1.2⟩).2.1
  exact⟨h2.1,h1.2,m4 y hy⟩
 have hms:ms.length<4611686018427387904:=by omega
 obtain⟨m',w1,w2,w3,w4⟩:=eP (body:=Vh a l ms) (s0:=(0,g.pd))
  (fun q=>∃k:Nat,q.1=k/\k<=ms.length/\J0 q.2/\(∀p:Nat,dc p (ms.take k)->zx q.2 p=b[p]?)/\∀p:Nat,dc p g.known->zx q.2 p=b[p]?)
  (fun q=>ms.length -q.1.toNat) (fun m'=>J0 m'/\(∀p:Nat,dc p ms->zx m' p=b[p]?)/\∀p:Nat,dc p g.known->zx m' p=b[p]?)
  ⟨0,rfl,Nat.zero_le _,ok,fun p⟨_,h,_⟩=>by simp at h,by_⟩ (by show ms.length -_<_;omega) (by
    rintro⟨k,M⟩ ⟨k,rfl,hk,q1,q2,q3⟩
    dsimp only at q1 q2 q3
    unfold Vh
    dsimp only
    by_cases hc:k<ms.length
    ·rw[if_pos (by simpa using hc)]
     have hix:ix ms (k:Int)=ms[k]:=gv hc
     rw[hix]
     obtain⟨r1,r2,r3⟩:=hin ms[k] (List.getElem_mem _)
     generalize hy:ms[k]=y at r1 r2 r3
     obtain⟨F,hF⟩:∃F:Nat,y.aR=F:=⟨y.aR.toNat,by omega⟩
     have hpl:(part l (y.aR -a) (y.To -a)).length=(y.To -y.aR).toNat:=by
      unfold part
      rw[List.length_take,List.length_drop];omega
     have hpe:∀i,i<(y.To -y.aR).toNat->(part l (y.aR -a) (y.To -a))[i]? =b[F+i]? :=fun i hi=>by
      unfold part
      rw[List.getElem?_take_of_lt (by omega),List.getElem?_drop,he _ (by omega)]
      congr 1;omega
     obtain⟨M',v1,v2,v3,v4⟩:=Tn q1 F (part l (y.aR -a) (y.To -a)) (by rw[hpl];omega)
     rw[hpl]at v3 v4
     have hbk:∀p:Nat,p<b.length->b[p]? =some (b[p]?.getD 0):=fun p hp=>by rw[List.getElem?_eq_getElem hp];rfl
     refine⟨_,aD ⟨by omega,by omega,r1,by omega,r3⟩ (ag (by rw[hF];rw[hF]at v1;exact v1) rfl),⟨k+1,ar (by omega) (by omega),hc,v2,fun p hp=>?_,fun p hp=>?_⟩,?_⟩
     ·by_cases hq:F<=p/\p<F+(y.To -y.aR).toNat
      ·show zx M' p=_
       rw[v3 p hq.1 hq.2,hpe _ (by omega)]
       congr 1;omega
      ·have hp':dc p (ms.take k):=by
        rcases(JO hc).1 hp with h|h
        ·exact h
        ·rw[hy]at h;exact absurd ⟨by have:=h.1;omega,by have:=h.2;omega⟩ hq
       have hpb:p<b.length:=by
        obtain⟨x,hx,hx2⟩:=hp'
        have:=(hin x (List.mem_of_mem_take hx)).2.2
        have:=hx2.2;omega
       show zx M' p=_
       rw[hbk p hpb]
       exact v4 p _ hq (by rw[q2 p hp'];exact hbk p hpb)
     ·by_cases hq:F<=p/\p<F+(y.To -y.aR).toNat
      ·show zx M' p=_
       rw[v3 p hq.1 hq.2,hpe _ (by omega)]
       congr 1;omega
      ·have hpb:p<b.length:=by
        obtain⟨x,hx,hx2⟩:=hp
        have:=le x hx
        have:=hx2.2;omega
       show zx M' p=_
       rw[hbk p hpb]
       exact v4 p _ hq (by rw[q3 p hp];exact hbk p hpb)
     ·show ms.length -(aC ((k:Int)+1)).toNat<ms.length -((k:Int)).toNat
      rw[ar (by omega) (by omega)];omega
    ·rw[if_neg (by simpa using hc)]
     have:k=ms.length:=by omega
     subst this
     exact⟨_,rfl,q1,fun p hp=>q2 p (by rwa[List.take_length]),q3⟩)
 have hsv:∀p:Int,(Nj ⟨a,(a:Int)+l.length⟩=true/\qI p ⟨a,(a:Int)+l.length⟩)↔((a:Int)<=p/\p<a+l.length):=fun p=>by
  unfold Nj qI
  simp
  omega
 refine⟨⟨g.total,kn,m'⟩,?_,⟨cQ,k2,fun y hy=>?_,by show kn.length<=n+1;omega,w2,fun p hp=>?_⟩,fun p=>(k5 p).trans (or_congr Iff.rfl (hsv p))⟩
 ·unfold gX
  rw[if_neg (by rw[cQ];simp;omega),hw2,if_neg (by simp;omega),hw,m1,aJ,w1,aJ,k1,aJ]
 ·have h1:=k2.1 y hy
  rcases(k5 (y.To -1)).1 ⟨y,hy,by omega,by omega⟩with⟨x,hx,hx2⟩|h
  ·have:=le x hx
   have:=hx2.2;omega
  ·have:=((hsv _).1 h).2;omega
 ·by_cases hk:dc p g.known
  ·exact w4 p hk
  ·rcases(k5 p).1 hp with h|h
   ·exact absurd h hk
   ·exact w3 p ((m5 p).2 ⟨h.1,h.2,hk⟩)
theorem Ug{b:List UInt8}{n:Nat}{g:gY}(h:GB b n g)(hn:n<=100000000)(hb:b.length<=2147483647)(a most:Nat)(ha:a<=b.length)(hm:most<=2147483647):
 ∃u:Nat,lO g.known a=some (u:Int)/\a<=u/\u<=b.length/\¬dc u g.known/\(∀p:Int,a<=p->p<u->dc p g.known)/\fR g a most=some ((b.drop a).take (min most (u -a)),decide (a+min most (u -a)=b.length)):=by
 obtain⟨cQ,form,le,len,ok,by_⟩:=h
 obtain⟨r,u1,u2,u3,u4⟩:=JF (a:=(a:Int)) form (by omega)
 obtain⟨u,rfl⟩:∃u:Nat,r=u:=⟨r.toNat,by omega⟩
 have hu:u<=b.length:=by
  by_cases e:u=a
  ·omega
  ·obtain⟨x,hx,hx2⟩:=u3 ((u:Int) -1) (by omega) (by omega)
   have:=le x hx
   have:=hx2.2;omega
 refine⟨u,u1,by omega,hu,u4,u3,?_⟩
 unfold fR
 have e1:min (most:Int) ((u:Int) -a)=((min most (u -a):Nat):Int):=by omega
 have hr:=Vu ok (b:=b) a (min most (u -a)) (by omega) hb (fun p h1 h2=>by_ p (u3 p (by omega) (by omega)))
 rw[if_neg (by rw[cQ];simp;omega),u1,aJ,bK (by rw[cQ];omega),e1,hr,aJ,ar (by omega) (by omega),cQ]
 congr 2
 rw[Bool.eq_iff_iff]
 simp
 omega
theorem Uc(t:c6)(n:Int)(hl:t.cH.length<=40):∃p,jT t n=some p/\(p.2=true->0<=p.1):=by
 unfold jT
 by_cases h:n<1\/n>t.cH.length
 ·have hc:((decide (n<1))||(decide (n>(t.cH.length:Int))))=true:=by simpa using h
  refine⟨(0,false),aD (fun h2=>by rw[hc]at h2;cases h2) ?_,fun h=>(by cases h)⟩
  rw[if_pos (by rw[hc];rfl)]
 ·have hw:aC (n -1)=n -1:=ar (by omega) (by omega)
  have hc:((decide (n<1))||(decide (n>(t.cH.length:Int))))=false:=by simp;omega
  by_cases h0:ix t.cH (aC (n -1))<0
  ·refine⟨(0,false),aD (fun _=>by rw[hw];omega) ?_,fun h=>(by cases h)⟩
   rw[if_pos (by rw[decide_eq_true h0,Bool.or_true])]
  ·refine⟨(ix t.cH (aC (n -1)),true),aD (fun _=>by rw[hw];omega) ?_,fun _=>by show 0<=ix t.cH _;omega⟩
   rw[if_neg (by rw[hc,decide_eq_false h0];simp)]
   exact aD (by rw[hw];omega) rfl
open Fq
theorem CE.refl(c:List UInt8):CE c c:=⟨Nat.le_refl _,fun _ _ h=>h⟩
theorem Vg{b:List UInt8}{a k k':Nat}(h:k<=k'):CE ((b.drop a).take k) ((b.drop a).take k'):=by
 refine⟨by rw[List.length_take,List.length_take];omega,fun j x hx=>?_⟩
 have hj:j<k:=by
  have:=(List.getElem?_eq_some_iff.1 hx).1
  rw[List.length_take]at this;omega
 rw[List.getElem?_take_of_lt hj]at hx
 rw[List.getElem?_take_of_lt (by omega)]
 exact hx
def xb(y:Int×aL×Int×Int)(u:Nat):Int×aL×Int×Int:=if y.2.2.2=6 then(0,y.2.1,u,6)else if y.2.2.2=0 then(y.1,y.2.1,0,0)else(0,y.2.1,0,18)
theorem uD{b:List UInt8}{n:Nat}{g:gY}(h:GB b n g)(hn:n<=100000000)(hb:b.length<=1500){a:Nat}(ha:a<b.length):
 ∃(u:Nat)(y:Int×aL×Int×Int),a<=u/\u<=b.length/\¬dc u g.known/\(∀p:Int,a<=p->p<u->dc p g.known)/\cW ((b.drop a).take (u -a)) 0 (decide (u=b.length))=some y/\Wd 67 y.2.1.V/\(u=b.length->y.2.2.2≠6)/\iY g a=some (xb y u):=by
 obtain⟨u,u1,u2,u3,u4,u5,u6⟩:=Ug h hn (by omega) a 4096 (by omega) (by omega)
 have hm:min 4096 (u -a)=u -a:=by omega
 rw[hm]at u6
 have hlen:((b.drop a).take (u -a)).length=u -a:=by rw[List.length_take,List.length_drop];omega
 have YN:decide (a+(u -a)=b.length)=decide (u=b.length):=by rw[show a+(u -a)=u by omega]
 rw[YN]at u6
 obtain⟨y,y1,y2,y3⟩:∃y,cW ((b.drop a).take (u -a)) 0 (decide (u=b.length))=some y/\Wd 67 y.2.1.V/\(u=b.length->y.2.2.2≠6):=by
  by_cases hu:u=b.length
  ·obtain⟨y,y1,y2,y3⟩:=KF (b:=(b.drop a).take (u -a)) (by rw[hlen];omega)
   exact⟨y,by rw[decide_eq_true hu];exact y1,y2,fun _=>y3⟩
  ·obtain⟨y,y1,y2,_⟩:=Ed (l:=true) (b:=(b.drop a).take (u -a)) (by rw[hlen];omega) (CE.refl _)
   exact⟨y,by rw[decide_eq_false hu];exact y1,y2,fun h=>absurd h hu⟩
 refine⟨u,y,u2,u3,u4,u5,y1,y2,y3,?_⟩
 have agO:max 0 (a:Int)=(a:Int):=by omega
 have ag0:min g.total (u:Int)=(u:Int):=by rw[h.cQ];omega
 have step:vD g a 4096=some (.inr (xb y u)):=by
  unfold vD xb
  have u6':fR g (a:Int) 4096=some ((b.drop a).take (u -a),decide (u=b.length)):=u6
  rw[u6',aJ]
  dsimp only
  rw[y1,aJ,hlen]
  by_cases h6:y.2.2.2=6
  ·have hne:(((u -a:Nat):Int)==4096)=false:=by simp;omega
   rw[if_neg (by rw[hne];simp),if_pos (by simpa using h6),agO,u1,aJ,ag0,if_pos h6,h6]
  ·rw[if_neg (by simp[h6]),if_neg (by simpa using h6),if_neg h6]
   by_cases h0:y.2.2.2=0
   ·rw[if_neg (by simp[h0]),if_pos h0,h0]
   ·rw[if_pos (by simpa using h0),if_neg h0]
 refine iter_eq (fun s=>s=4096) (fun _=>0) rfl (by decide) ?_
 rintro s rfl
 exact .inr step
theorem OH{b:List UInt8}{n m:Nat}{g w:gY}(hg:GB b n g)(hw:GB b m w)(dq:∀p:Nat,p<b.length->dc p w.known)(hn:n<=100000000)(hm:m<=100000000)(hb:b.length<=1500){a:Nat}(ha:a<b.length):
 ∃r r',iY g a=some r/\iY w a=some r'/\Wd 67 r.2.1.V/\(r.2.2.2=6->∃u:Nat,r.2.2.1=u/\u<b.length/\¬dc u g.known)/\(r.2.2.2≠6->r'=r/\r.2.2.1=0):=by
 obtain⟨u,y,u1,u2,u3,u4,y1,y2,y3,p1⟩:=uD hg hn hb ha
 obtain⟨u',y',v1,v2,v3,v4,z1,z2,z3,p2⟩:=uD hw hm hb ha
 have hu':u'=b.length:=by
  by_cases h:u'<b.length
  ·exact absurd (dq u' h) v3
  ·omega
 subst hu'
 refine⟨_,_,p1,p2,?_,fun h6=>?_,fun h6=>?_⟩
 ·unfold xb
  repeat' split
  all_goals exact y2
 ·have hy:y.2.2.2=6:=by
   unfold xb at h6
   split at h6
   ·assumption
   ·split at h6
    ·cases h6
    ·cases h6
  refine⟨u,by unfold xb;rw[if_pos hy],?_,u3⟩
  have:u≠b.length:=fun h=>y3 h hy
  omega
 ·have hy:y.2.2.2≠6:=fun h=>h6 (by unfold xb;rw[if_pos h])
  have e:y'=y:=by
   by_cases hu:u=b.length
   ·subst hu
    exact Option.some.inj (z1.symm.trans y1)
   ·rw[decide_eq_false hu]at y1
    rw[decide_eq_true rfl]at z1
    have hl:((b.drop a).take (b.length -a)).length<1048576:=by rw[List.length_take,List.length_drop];omega
    obtain⟨q,q1,_,q2⟩:=Ed (l:=true) hl (Vg (b:=b) (a:=a) (show u -a<=b.length -a by omega))
    obtain rfl:y=q:=Option.some.inj (y1.symm.trans q1)
    exact Option.some.inj (z1.symm.trans (q2 hy))
  subst e
  refine⟨by unfold xb;rw[if_neg hy,if_neg hy],?_⟩
  unfold xb
  rw[if_neg hy]
  split<;>rfl
theorem Ui{b:List UInt8}{n m:Nat}{g w:gY}(hg:GB b n g)(hw:GB b m w)(dq:∀p:Nat,p<b.length->dc p w.known)(hn:n<=100000000)(hm:m<=100000000)(hb:b.length<=1500)(t:c6)(k:Int)(ht:t.cH.length<=40):
 ∃r r',fA g t k=some r/\fA w t k=some r'/\Wd 67 r.1.V/\(r.2.2=6->r.1=pY/\∃u:Nat,r.2.1=u/\u<b.length/\¬dc u g.known)/\(r.2.2≠6->r'=r/\r.2.1=0):=by
 obtain⟨p,p1,p2⟩:=Uc t k ht
 have hz:Wd 67 pY.V:=Wd.leaf rfl (fun h=>by cases h)
 cases h2:p.2 with
 |false=>exact⟨_,_,ag p1 (by rw[h2];rfl),ag p1 (by rw[h2];rfl),hz,fun h=>(by cases h),fun _=>⟨rfl,rfl⟩⟩
 |true=>
  obtain⟨a,ha⟩:∃a:Nat,p.1=a:=⟨p.1.toNat,by have:=p2 h2;omega⟩
  by_cases hlt:a<b.length
  ·obtain⟨r,r',q1,q2,q3,q4,q5⟩:=OH hg hw dq hn hm hb hlt
   have un:∀{g:gY}{r:Int×aL×Int×Int},g.total=b.length->iY g a=some r->fA g t k=some (if(r.2.2.2 !=0)=true then(pY,r.2.2.1,r.2.2.2)else if(r.1 !=k)=true then(pY,0,18)else(r.2.1,0,0)):=fun ht hr=>by
    unfold fA
    refine ag p1 ?_
    rw[h2,ha,if_neg (by decide),if_neg (by rw[ht];simp;omega),hr,aJ]
    split
    ·rfl
    ·split<;>rfl
   refine⟨_,_,un hg.cQ q1,un hw.cQ q2,?_,fun h6=>?_,fun h6=>?_⟩
   ·split
    ·exact hz
    ·split
     ·exact hz
     ·exact q3
   ·split at h6
    ·rename_i h0
     rw[if_pos h0]
     exact⟨rfl,q4 h6⟩
    ·split at h6<;>cases h6
   ·by_cases h0:(r.2.2.2 !=0)=true
    ·rw[if_pos h0]at h6
     obtain⟨e,e2⟩:=q5 h6
     subst e
     refine⟨rfl,?_⟩
     rw[if_pos h0];exact e2
    ·have h00:r.2.2.2=0:=by simpa using h0
     obtain⟨e,e2⟩:=q5 (by rw[h00];decide)
     subst e
     refine⟨rfl,?_⟩
     rw[if_neg h0]
     split<;>rfl
  ·have un:∀{g:gY},g.total=b.length->fA g t k=some (pY,0,18):=fun ht=>by
    unfold fA
    refine ag p1 ?_
    rw[h2,ha,if_neg (by decide),if_pos (by rw[ht];simp;omega)]
   exact⟨_,_,un hg.cQ,un hw.cQ,hz,fun h=>(by cases h),fun _=>⟨rfl,rfl⟩⟩
theorem HR:∀(n:Nat)(v:ab)(fuel:Nat),Wd n v->n<=fuel->dw fuel v v=some 0
 |0,_,_,h,_=>h.elim
 |n+1,v,0,_,h=>by omega
 |n+1,v,fuel+1,h,hf=>by
  obtain⟨h1,h2,_⟩:=h
  rw[dw]
  have b0:Op.bytesLess v.S.b v.S.b=false:=CG _
  have lp:iter (fun(k4:Int)=>
   if(decide (k4<(v.L.length:Int)))&&(decide (k4<(v.L.length:Int)))then
    bt (0<=k4/\k4<v.L.length)<|
    bt (0<=k4/\k4<v.L.length)<|
    bn (dw fuel (ix v.L k4) (ix v.L k4)) fun r8=>
    if r8 !=0 then
     some (.inr (.inr r8))
    else
     some (.inl (aC (k4+1)))
   else
    some (.inr (.inl ():Unit⊕Int))) 0=some (.inl ()):=by
   refine pF v.L.length (by omega) (fun k hk=>?_) (al (by simp) rfl)
   have hx:ix v.L (k:Int)=v.L[k]:=gv hk
   exact aM (by simp;omega) (aD ⟨by omega,by omega⟩ (aD ⟨by omega,by omega⟩ (ag (by rw[hx];exact HR n _ fuel (h2 _ (List.getElem_mem hk)) (by omega)) (al (by decide) rfl))))
  refine al (by rw[b0];simp) (al (by simp) (dv (z:=.inl ()) (sH (z:=.inl ()) lp rfl) ?_))
  exact al (by simp) (al (by simp) rfl)
theorem OT{v:ab}(h:Wd 67 v):lF v v=some true:=by
 unfold lF
 have hb:67<=TJ:=by decide
 exact ag (HR 67 v TJ h hb) rfl
theorem JC(o:aL)(h:Wd 67 o.V):j7 o o=some true:=by
 unfold j7
 exact ag (OT h) (by simp)
end Go.AB
end
section
set_option maxRecDepth 4000
namespace Go.AB
open Go
attribute[-go_sem] Nat.add_zero mI cE
theorem R4{b:List UInt8}{a c:Int}(h0:0<=a)(h1:a<=c)(h2:c<=b.length):((part b a c).length=(c -a).toNat)/\∀i,i<(part b a c).length->(part b a c)[i]? =b[a.toNat+i]? :=by
 have hl:(part b a c).length=(c -a).toNat:=by unfold part;rw[List.length_take,List.length_drop];omega
 refine⟨hl,fun i hi=>?_⟩
 rw[hl]at hi
 unfold part
 rw[List.getElem?_take_of_lt (by omega),List.getElem?_drop]
theorem O1{b:List UInt8}{l:List aj}(hb:b.length<=1500)(hl:l.length<=30):
 ∃g,iter (tu b l) (0,⟨b.length,[],fun _=>none⟩)=some g/\∃k,k<=30/\GB b k g:=by
 refine eP (body:=tu b l) (fun q=>∃k:Nat,q.1=k/\k<=l.length/\∃j,j<=k/\GB b j q.2) (fun q=>l.length -q.1.toNat) _ ⟨0,rfl,Nat.zero_le _,0,Nat.le_refl _,Qu b⟩ (by show l.length -_<_;omega) ?_
 rintro⟨k,g⟩ ⟨k,rfl,hk,j,hj,G⟩
 dsimp only at G
 unfold tu
 dsimp only
 by_cases hc:k<l.length
 ·rw[if_pos (by simpa using hc)]
  generalize ix l (k:Int)=y
  by_cases hy:(((decide (y.aR>=0))&&(decide (y.aR<=y.To)))&&(decide (y.To<=(b.length:Int))))=true
  ·rw[if_pos hy]
   have hy2:0<=y.aR/\y.aR<=y.To/\y.To<=b.length:=by simp at hy;omega
   obtain⟨p1,p2⟩:=R4 hy2.1 hy2.2.1 hy2.2.2
   obtain⟨g',q1,q2,_⟩:=Qv G (by omega) (by omega) y.aR.toNat (part b y.aR y.To) (by omega) p2
   have e:((y.aR.toNat:Nat):Int)=y.aR:=by omega
   rw[e]at q1
   refine⟨_,aD ⟨by omega,by omega⟩ (aD hy2 (ag q1 (aD (by show g'.total<=_;rw[q2.cQ];omega) rfl))),⟨k+1,ar (by omega) (by omega),by omega,j+1,by omega,q2⟩,?_⟩
   show l.length -(aC ((k:Int)+1)).toNat<l.length -((k:Int)).toNat
   rw[ar (by omega) (by omega)];omega
  ·rw[if_neg hy]
   refine⟨_,aD ⟨by omega,by omega⟩ rfl,⟨k+1,ar (by omega) (by omega),by omega,j,by omega,G⟩,?_⟩
   show l.length -(aC ((k:Int)+1)).toNat<l.length -((k:Int)).toNat
   rw[ar (by omega) (by omega)];omega
 ·rw[if_neg (by simpa using hc)]
  exact⟨_,rfl,j,by omega,G⟩
theorem SF{b:List UInt8}{l:List aj}{t:c6}{n:Int}(hb:b.length<=500)(hl:l.length<=30)(ht:t.cH.length<=30):∃g w x u r r',J5 b l t n g w x u r r':=by
 obtain⟨g,hs,k,hk,G⟩:=O1 (b:=b) (by omega) hl
 obtain⟨w,w1,W,w2⟩:=Qv (Qu b) (by omega) (by omega) 0 b (by omega) fun i hi=>by rw[Nat.zero_add]
 obtain⟨r,r',h1,h2,h3,h4,h5⟩:=Ui G W (fun p hp=>(w2 p).2 (.inr ⟨by omega,by omega⟩)) (by omega) (by omega) (by omega) t n (by omega)
 obtain⟨u,u1,u2,u3,u4⟩:=JF (a:=max 0 r.2.1) G.form (by have:=G.len;omega)
 refine⟨g,w,0,u,r,r',hs,by rw[G.cQ];omega,h1,w1,by rw[W.cQ];omega,h2,fun h6=>?_,fun h6=>?_⟩
 ·obtain⟨z1,v,v1,v2,v3⟩:=h4 h6
  have hm:max 0 r.2.1=(v:Int):=by omega
  rw[hm]at u2 u3
  have:u=v:=by
   by_cases h:u=v
   ·exact h
   ·exact absurd (u3 v (by omega) (by omega)) v3
  exact⟨z1,by omega,by omega,u1,by rw[this,v1,G.cQ];omega⟩
 ·obtain⟨z1,z2⟩:=h5 h6
  exact⟨z1,z2,JC _ h3⟩
theorem rY(b:List UInt8)(l:List aj)(t:jd)(n:Int)(hb:b.length<=500)(hl:l.length<=30)(ht:t.cH.length<=30):∃g w x u r r',J5 b l ⟨t.cH,t.oF⟩ n g w x u r r':=SF hb hl ht
end Go.AB
end
section
namespace Go.AB
open Go Go.RowKit Go.ChangeShapes Go.WideShapes
def uP(N:Nat)(w:World)(b:Nat):Nat:=if b<w.heap.size then N else 0
theorem K5{P:Program}{w:World}{f:FuncId}{args:List AV}{vs:Array Value}(N:Nat)(hf:FN P f args An fun rs _=>rs=[.bool true])(ha:mn w (uP N w) args vs):
 Calls P f vs w fun e w'=>e=.returned (.bool true)/\Below w.heap.size w w':=by
 refine(hf ⟨uP N w,fun _=>.none⟩ w vs ⟨fun _ _=>rfl,fun b hb=>?_⟩ (fun b=>.inl rfl) (fun b o h=>by cases h) ha).mono fun e w'⟨v,rs,s',G',he,hq,_,_,hr,hp⟩=>?_
 ·unfold uP
  grind
 ·subst hq
  refine⟨?_,⟨hp.os,hp.tape,hp.output,hp.size,fun b hb=>hp.frame b hb (.inr rfl)⟩⟩
  rw[he]
  have:=VR.gK hr.1
  rw[this]
def Ff(w:World)(R:Nat->Nat)(as1:List AV)(cs:List Value):Prop:=cs.length=as1.length/\∀(j:Nat)(a:AV)(v:Value),as1[j]? =some a->cs[j]? =some v->VR w R a v
theorem Ff.one{w:World}{R:Nat->Nat}{a:AV}{v:Value}(h:VR w R a v):Ff w R [a] [v]:=by
 refine⟨rfl,fun j a' v' h1 h2=>?_⟩
 grind
theorem Ff.append{w:World}{R:Nat->Nat}{as1 bs:List AV}{cs ds:List Value}(h:Ff w R as1 cs)(k:Ff w R bs ds):Ff w R (as1++bs) (cs++ds):=by
 refine⟨by rw[List.length_append,List.length_append,h.1,k.1],fun j a v h1 h2=>?_⟩
 rcases Nat.lt_or_ge j as1.length with hj|hj
 ·rw[List.getElem?_append_left hj]at h1
  rw[List.getElem?_append_left (by rw[h.1];exact hj)]at h2
  exact h.2 j a v h1 h2
 ·rw[List.getElem?_append_right hj]at h1
  rw[List.getElem?_append_right (by rw[h.1];exact hj),h.1]at h2
  exact k.2 _ a v h1 h2
def jR(P:Program)(t:TypeId){α:Type}(n:Nat)(C:α->List AV)(wf:α->Prop):Prop:=
 ∀(H:Type)(enc:TypeId×Value->H)(w:World)(fuel:Nat)(cs:List Value)(x:DataW H×List MemPlace),DataW.trod enc P w 0 (fun _=>true) true fuel t cs=some x->
  cs.length=n/\∃a:α,wf a/\Fl (C a)/\∃N0,∀N,N0<=N->Ff w (uP N w) (C a) cs
def yR(P:Program)(t:TypeId)(α:Type)[aP α](wf:α->Prop):Prop:=jR P t (aP.w α) (aP.cells:α->List AV) wf
section
variable{P:Program}{t:TypeId}
theorem A4{a:AV}(h:pw a=true):Fl [a]:=by
 intro c hc
 grind
theorem pP(ht:P.underlying t=some (.int .i64)):yR P t Int fun n=>-9223372036854775808<=n/\n<=9223372036854775807:=by
 intro H enc w fuel cs x h
 obtain⟨n,rfl,_,hw⟩:=DataW.trod_int ht h
 refine⟨rfl,n,?_,A4 rfl,0,fun N _=>Ff.one (.int _ n)⟩
 grind [Lit.wf,IntKind.min,IntKind.max,IntKind.signed,IntKind.bits]
theorem RR(ht:P.underlying t=some (.int .u8)):yR P t UInt8 fun _=>True:=by
 intro H enc w fuel cs x h
 obtain⟨n,rfl,_,hw⟩:=DataW.trod_int ht h
 have hb:=by simpa[Lit.wf,IntKind.min,IntKind.max,IntKind.signed,IntKind.bits]using hw
 refine⟨rfl,UInt8.ofNat n.toNat,trivial,A4 rfl,0,fun N _=>?_⟩
 have e:((UInt8.ofNat n.toNat).toNat)=n:=by rw[UInt8.toNat_ofNat'];omega
 show Ff _ _ [.int .u8 ((UInt8.ofNat n.toNat).toNat)] _
 rw[e]
 exact Ff.one (.int _ n)
theorem yX{α:Type}{Q:Nat->α->Prop}:∀n:Nat,(∀i,i<n->∃a,Q i a)->∃l:List α,l.length=n/\∀(i:Nat)(a:α),l[i]? =some a->Q i a
 |0,_=>⟨[],rfl,fun i a h=>by grind⟩
 |n+1,h=>by
  obtain⟨l,h1,h2⟩:=yX n fun i hi=>h i (by omega)
  obtain⟨a,ha⟩:=h n (by simp)
  refine⟨l++[a],by grind,fun i x hx=>?_⟩
  grind
theorem common{Q:Nat->Nat->Prop}:∀n:Nat,(∀i,i<n->∃N0,∀N,N0<=N->Q i N)->∃N0,∀N,N0<=N->∀i,i<n->Q i N
 |0,_=>⟨0,fun _ _ i h=>absurd h (Nat.not_lt_zero i)⟩
 |n+1,h=>by
  obtain⟨a,ha⟩:=common n fun i hi=>h i (by omega)
  obtain⟨b,hb⟩:=h n (by simp)
  refine⟨max a b,fun N hN i hi=>?_⟩
  grind
theorem Qq{α:Type}[aP α](l:List α){i r:Nat}{a:α}(hi:l[i]? =some a)(hr:r<aP.w α):(flat l)[i*aP.w α+r]? =(aP.cells a)[r]? :=by
 have h1:=kK l (aP.w α) i 1 rfl
 obtain⟨hlt,he⟩:=List.getElem?_eq_some_iff.1 hi
 have h2:(l.drop i).take 1=[a]:=by rw[List.drop_eq_getElem_cons hlt,he];rfl
 rw[h2,lj,px,List.append_nil]at h1
 rw[<-h1]
 unfold AB.sub
 grind
end
end Go.AB
end
section
namespace Go.AB
open Go Go.RowKit Go.ChangeShapes Go.WideShapes
section
variable{P:Program}
theorem uH{H:Type}{enc:TypeId×Value->H}(hl:laidOutB P=true){W W':World}(hb:Below W.heap.size W W'):
 ∀{ts:List TypeId}{vs:List Value}{ds:List (DataW H)}{ps:List MemPlace},(∀t∈ts,P.readableRec t=true/\t<P.types.size)->DataW.TrodAll enc P W 0 (fun _=>true) true ts vs ds ps->
  DataW.TrodAll enc P W' 0 (fun b=>decide (b<W.heap.size)) true ts vs ds ps
 |[],[],[],_,_,h=>h
 |t::ts,v::vs,d::ds,_,hr,h=>by
  have hlt:=h.lt
  obtain⟨p,q,h1,h2,rfl⟩:=h
  have ht:=hr t List.mem_cons_self
  exact⟨p,q,Below.trod hl ht.1 ht.2 h1 hb fun x hx=>hlt x (List.mem_append_left _ hx),uH hl hb (fun t ht=>hr t (List.mem_cons_of_mem _ ht)) h2,rfl⟩
 |[],_::_,_,_,_,h=>h.elim
 |[],[],_::_,_,_,h=>h.elim
 |_::_,[],_,_,_,h=>h.elim
 |_::_,_::_,[],_,_,h=>h.elim
theorem Rn{H:Type}{enc:TypeId×Value->H}{fn:Func}{s:ChangeSpec}{f:FuncId}{W:World}{args:Array Value}{ds gs:List (DataW H)}{before:List MemPlace}{tb:TypeId}
 (W9:s.vars=[])(mJ:fn.resultTypes= #[tb])(htb:P.underlying tb=some .bool)(hl:laidOutB P=true)(hr:∀t∈fn.params.toList,P.readableRec t=true/\t<P.types.size)
 (adb:∀ds:List (DataW H),ds.length=fn.params.toList.length->s.fn H ds={results:=[.lit (.bool true)],args:=ds})
 (hW:DataW.Whole enc P fn.params.toList s.vars false W args.toList ds gs before)
 (hc:Calls P f args W fun e w'=>e=.returned (.bool true)/\Below W.heap.size W w'):
 Calls P f args W fun e W'=>∃v,e=.returned v/\s.post enc P fn false true false false W args v W':=by
 refine hc.mono fun e W'⟨he,hb⟩=>⟨.bool true,he,?_⟩
 have hW':=hW
 obtain⟨p,q,hA,hV,rfl,hfz,hnd⟩:=hW
 rw[W9]at hV
 obtain⟨rfl,rfl⟩:=trodVars_none hV
 have hs:=adb ds (trodAll_length hA).2
 refine⟨ds,[],_,[],p,[],hW',?_,?_,?_,?_,fun h=>by grind⟩
 ·rw[List.append_nil,hs,mJ]
  exact trodAll_mk1 (shut_bool htb true)
 ·grind [uH]
 ·rw[List.append_nil,hs,W9]
  exact rfl
 ·exact World.keptBut_mono (fun p hp=>hp.elim) (hb.frame fun _=>False)
def Au(P:Program)(fs:List (TypeId×Nat))(o:Nat){α:Type}(n:Nat)(C:α->List AV)(wf:α->Prop):Prop:=
 ∀(H:Type)(enc:TypeId×Value->H)(w:World)(fuel:Nat)(cs:List Value),(∀f∈fs,∃x,DataW.trod enc P w 0 (fun _=>true) true fuel f.1 ((cs.drop f.2).take (P.cellsOf f.1))=some x)->
  ∃a:α,wf a/\Fl (C a)/\∃N0,∀N,N0<=N->Ff w (uP N w) (C a) ((cs.drop o).take n)
theorem BG{o:Nat}:Au P [] o 0 (fun _:Unit=>[]) fun _=>True:=fun _ _ _ _ _ _=>⟨(),trivial,(fun _ h=>absurd h List.not_mem_nil),0,fun _ _=>⟨by rfl,fun j a v h=>by simp⟩⟩
theorem oo{t:TypeId}{o n1 n2:Nat}{fs:List (TypeId×Nat)}{α β:Type}{C1:α->List AV}{C2:β->List AV}{wf1:α->Prop}{wf2:β->Prop}
 (h1:jR P t n1 C1 wf1)(hc:P.cellsOf t=n1)(h2:Au P fs (o+n1) n2 C2 wf2):Au P ((t,o)::fs) o (n1+n2) (fun p:α×β=>C1 p.1++C2 p.2) fun p=>wf1 p.1/\wf2 p.2:=by
 intro H enc w fuel cs h
 obtain⟨x,hx⟩:=h _ List.mem_cons_self
 obtain⟨_,a,ha,hfa,N1,hN1⟩:=h1 H enc w fuel _ x hx
 obtain⟨b,hb,hfb,N2,hN2⟩:=h2 H enc w fuel cs fun f hf=>h f (List.mem_cons_of_mem _ hf)
 refine⟨(a,b),⟨ha,hb⟩,fun c hc=>(List.mem_append.1 hc).elim (hfa c) (hfb c),max N1 N2,fun N hN=>?_⟩
 grind [List.drop_drop,Ff.append]
theorem jR.map{t:TypeId}{n:Nat}{α β:Type}{C:α->List AV}{wf:α->Prop}(h:jR P t n C wf){C':β->List AV}{wf':β->Prop}(g:α->β)(hC:∀a,C' (g a)=C a)(hw:∀a,wf a->wf' (g a)):jR P t n C' wf':=by
 intro H enc w fuel cs x hx
 obtain⟨h1,a,h2,h3,N0,h4⟩:=h H enc w fuel cs x hx
 exact⟨h1,g a,hw a h2,by grind,N0,by grind⟩
theorem GH{t:TypeId}{fs:Array Field}{n:Nat}{α:Type}{C:α->List AV}{wf:α->Prop}(ht:P.underlying t=some (.struct fs))(hn:P.cellsOf t=n)
 (hf:Au P (fs.toList.map fun f=>(f.type,f.offset)) 0 n C wf):jR P t n C wf:=by
 intro H enc w fuel cs x h
 obtain⟨xs,m,_,_,hl,hxl,hel⟩:=DataW.trod_struct ht h
 obtain⟨a,ha,hfa,N0,hN⟩:=hf H enc w m cs fun f hf=>by grind [List.getElem?_of_mem,List.getElem?_eq_some_iff,List.getElem?_eq_getElem]
 refine⟨by grind,a,ha,hfa,N0,fun N h=>?_⟩
 grind
section
variable{H:Type}{enc:TypeId×Value->H}{w:World}{t:TypeId}{α:Type}[aP α]{wf:α->Prop}{b0:Nat}{v:Value}{d:DataW H}{ps:List MemPlace}
theorem RM(hs:(∃fs,P.underlying t=some (.struct fs))\/∃n e,P.underlying t=some (.array n e))(he:yR P t α wf)(nW:Value.okWide P w .any b0 t v)(h:DataW.Trod enc P w 0 (fun _=>true) true t v d ps):
 ∃a:α,wf a/\∃N0,∀N,N0<=N->VR w (uP N w) (.agg (aP.cells a)) v:=by
 have hv:∃cs,v=.agg cs:=by
  unfold Value.okWide at nW
  rcases hs with⟨fs,hs⟩|⟨n,e,hs⟩<;>rw[hs]at nW<;>obtain⟨cs,rfl,_⟩:=nW<;>exact⟨cs,rfl⟩
 obtain⟨cs,rfl⟩:=hv
 obtain⟨fuel,hf⟩:=h
 obtain⟨_,a,ha,hfl,N0,hN⟩:=he H enc w fuel _ _ hf
 refine⟨a,ha,N0,fun N h=>?_⟩
 have h1:=hN N h
 exact .agg _ _ hfl (by simpa[Value.cells]using h1.1) fun j c v h2 h3=>h1.2 j c v h2 (by grind [Value.cells])
theorem Ll(hs:∀cs,v≠.agg cs)(he:yR P t α wf)(h:DataW.Trod enc P w 0 (fun _=>true) true t v d ps):
 ∃a:α,wf a/\∃N0,∀N,N0<=N->Ff w (uP N w) (aP.cells a) [v]:=by
 obtain⟨fuel,hf⟩:=h
 obtain⟨_,a,ha,_,N0,hN⟩:=he H enc w fuel _ _ hf
 refine⟨a,ha,N0,fun N h=>?_⟩
 have:v.cells.toList=[v]:=by cases v<;>first|rfl|grind
 grind
theorem Ff.head{R:Nat->Nat}{a:AV}(h:Ff w R [a] [v]):VR w R a v:=h.2 0 a v rfl rfl
theorem RN(ht:P.underlying t=some (.int .i64))(nW:Value.okWide P w .any b0 t v)(h:DataW.Trod enc P w 0 (fun _=>true) true t v d ps):
 ∃n:Int,(-9223372036854775808<=n/\n<=9223372036854775807)/\∃N0,∀N,N0<=N->VR w (uP N w) (.int .i64 n) v:=by
 obtain⟨n,rfl,_⟩:=open_int ht nW h
 obtain⟨a,ha,N0,hN⟩:=Ll (fun _ h=>by grind) (pP ht) h
 exact⟨a,ha,N0,fun N h=>(hN N h).head⟩
end
end
end Go.AB
end
section
namespace Go.AB
open Go
def sN(P:Program)(t:TypeId)(L:List (TypeId×Nat)):Bool:=match P.underlying t with
 |some (.struct fs)=>fs.toList.map (fun f=>(f.type,f.offset))==L
 |_=>false
theorem xn{P:Program}{t:TypeId}{L:List (TypeId×Nat)}{n:Nat}{α:Type}{C:α->List AV}{wf:α->Prop}(hs:sN P t L=true)(hn:P.cellsOf t=n)(hf:Au P L 0 n C wf):jR P t n C wf:=by
 unfold sN at hs
 split at hs
 ·rename_i fs ht
  have he:=eq_of_beq hs
  exact GH ht hn (by rw[he];exact hf)
 ·cases hs
end Go.AB
end
section
namespace Go.AB
open Go Go.RowKit Go.ChangeShapes Go.WideShapes
def qc(K:Nat)(P:Program)(t:TypeId){α:Type}(n:Nat)(C:α->List AV)(wf:α->Prop):Prop:=
 ∀(H:Type)(enc:TypeId×Value->H)(w:World)(fuel:Nat)(cs:List Value)(x:DataW H×List MemPlace),fuel<=K->DataW.trod enc P w 0 (fun _=>true) true fuel t cs=some x->
  cs.length=n/\∃a:α,wf a/\Fl (C a)/\∃N0,∀N,N0<=N->Ff w (uP N w) (C a) cs
section
variable{P:Program}{t:TypeId}
theorem jR.b{n:Nat}{α:Type}{C:α->List AV}{wf:α->Prop}(h:jR P t n C wf)(K:Nat):qc K P t n C wf:=fun H enc w fuel cs x _ hx=>h H enc w fuel cs x hx
theorem qc.all{n:Nat}{α:Type}{C:α->List AV}{wf:α->Prop}(h:∀K,qc K P t n C wf):jR P t n C wf:=fun H enc w fuel cs x hx=>h fuel H enc w fuel cs x (Nat.le_refl _) hx
theorem qc.le{n:Nat}{α:Type}{C:α->List AV}{wf:α->Prop}{K K':Nat}(h:qc K P t n C wf)(hk:K'<=K):qc K' P t n C wf:=fun H enc w fuel cs x hf hx=>h H enc w fuel cs x (Nat.le_trans hf hk) hx
theorem LI{w:World}{α:Type}[aP α]{wf:α->Prop}{a:Addr}{len cap:Nat}(hl:len<=cap)(hm:cap<=maxLen)
 (each:∀i,i<len->∃x:α×List Value,wf x.1/\Fl (aP.cells x.1)/\w.cells? 0 (a.add (i*aP.w α)) (aP.w α)=some x.2/\∃N0,∀N,N0<=N->Ff w (uP N w) (aP.cells x.1) x.2):
 ∃l:List α,(l.length<=maxLen/\∀a∈l,wf a)/\Fl [.sl false (aP.w α) l.length (flat l)]/\∃N0,∀N,N0<=N->Ff w (uP N w) [.sl false (aP.w α) l.length (flat l)] [.slice (some a) len cap]:=by
 have hw:0<aP.w α:=aP.pos
 rcases Nat.eq_zero_or_pos len with h0|h0
 ·subst h0
  exact⟨[],⟨Nat.zero_le _,fun _ h=>absurd h List.not_mem_nil⟩,A4 rfl,0,fun N _=>.one (.sle _ _ _)⟩
 obtain⟨b,off,spot⟩:=a
 have YS:spot=none/\b<w.heap.size:=by
  obtain⟨x,_,_,h2,_⟩:=each 0 h0
  obtain⟨_,h3,h4⟩:=World.cells?_some h2
  have h5:=h4 0 hw
  have hxl:0<x.2.length:=by omega
  rw[List.getElem?_eq_getElem hxl]at h5
  unfold World.cell? at h5
  have e1:(((⟨b,off,spot⟩:Addr).add (0*aP.w α)).add 0).block=b:=by
   unfold Addr.add;repeat' split
   all_goals rfl
  have e2:(((⟨b,off,spot⟩:Addr).add (0*aP.w α)).add 0).spot.isSome=spot.isSome:=by
   cases spot with
   |none=>unfold Addr.add;repeat' split
          all_goals simp_all
   |some q=>unfold Addr.add;repeat' split
            all_goals simp_all
  rw[e1,e2]at h5
  split at h5
  ·rename_i hh
   refine⟨?_,(Array.getElem?_eq_some_iff.1 hh).1⟩
   cases spot with
   |none=>rfl
   |some q=>simp at h5
  ·cases h5
 obtain⟨rfl,hb⟩:=YS
 obtain⟨L,hL,hQ⟩:=yX len each
 have hx:∀i,i<len->∃x,L[i]? =some x:=fun i hi=>⟨L[i]'(by omega),List.getElem?_eq_getElem (by omega)⟩
 obtain⟨N0,hN0⟩:=common (Q:=fun i N=>∀x,L[i]? =some x->Ff w (uP N w) (aP.cells x.1) x.2) len fun i hi=>by
  obtain⟨x,hx⟩:=hx i hi
  obtain⟨_,_,_,N0,h⟩:=hQ i x hx
  exact⟨N0,fun N hN y hy=>by rw[hx]at hy;cases hy;exact h N hN⟩
 have hwf:∀a∈L.map (·.1),wf a/\Fl (aP.cells a):=by
  intro a ha
  obtain⟨x,hx,rfl⟩:=List.mem_map.1 ha
  obtain⟨i,hi⟩:=List.getElem?_of_mem hx
  have:=hQ i x hi
  exact⟨this.1,this.2.1⟩
 have jD:∀(j:Nat)(c:AV),(flat (L.map (·.1)))[j]? =some c->∃v,w.cell? ⟨b,off+j,none⟩=some v/\∀N,N0<=N->VR w (uP N w) c v:=by
  intro j c hj
  have hjl:=(List.getElem?_eq_some_iff.1 hj).1
  rw[aA,List.length_map,hL]at hjl
  have hi:j/aP.w α<len:=Nat.div_lt_of_lt_mul (by rw[Nat.mul_comm];exact hjl)
  have hr:j % aP.w α<aP.w α:=Nat.mod_lt _ hw
  have hje:j=j/aP.w α*aP.w α+j % aP.w α:=by rw[Nat.mul_comm];exact(Nat.div_add_mod _ _).symm
  obtain⟨x,hx⟩:=hx _ hi
  have h1:=Qq (L.map (·.1)) (i:=j/aP.w α) (a:=x.1) (by rw[List.getElem?_map,hx];rfl) hr
  rw[<-hje,hj]at h1
  obtain⟨_,_,h2,_⟩:=hQ _ x hx
  obtain⟨_,h3,h4⟩:=World.cells?_some h2
  have h5:=h4 _ hr
  rw[add_plain,add_plain,Nat.add_assoc,<-hje]at h5
  refine⟨x.2[j % aP.w α]'(by omega),by rw[h5,List.getElem?_eq_getElem],fun N hN=>?_⟩
  exact(hN0 N hN _ hi x hx).2 _ _ _ h1.symm (List.getElem?_eq_getElem _)
 refine⟨L.map (·.1),⟨by rw[List.length_map,hL];omega,fun a ha=>(hwf a ha).1⟩,A4 rfl,max N0 (off+len*aP.w α),fun N hN=>.one ?_⟩
 rw[List.length_map,hL]
 refine .sl false (aP.w α) len _ b off cap (fun j=>(w.cell? ⟨b,off+j,none⟩).getD default) ?_ ?_ ?_ hl ?_ ?_
 ·intro c hcm
  unfold flat at hcm
  obtain⟨l,hl,hcl⟩:=List.mem_flatten.1 hcm
  obtain⟨a,ha,rfl⟩:=List.mem_map.1 hl
  exact(hwf a ha).2 c hcl
 ·rw[aA,List.length_map,hL]
 ·rw[aA,List.length_map,hL]
  unfold uP
  rw[if_pos hb];omega
 ·intro j c hj
  obtain⟨v,h1,_⟩:=jD j c hj
  rw[h1];rfl
 ·intro j c hj
  obtain⟨v,h1,h2⟩:=jD j c hj
  simp only[h1,Option.getD_some];exact h2 N (by omega)
theorem GG{K:Nat}{e:TypeId}{α:Type}[aP α]{wf:α->Prop}(ht:P.underlying t=some (.slice e))(hc:P.cellsOf e=aP.w α)(he:qc K P e (aP.w α) (aP.cells:α->List AV) wf):
 qc (K+1) P t 1 (fun l:List α=>[.sl false (aP.w α) l.length (flat l)]) fun l=>l.length<=maxLen/\∀a∈l,wf a:=by
 intro H enc w fuel cs x hk h
 rcases DataW.trod_slice ht h with⟨rfl,_⟩|⟨a,len,cap,elems,rest,n,rfl,rfl,_,_,hl,hm,hlen,hel,_⟩
 ·exact⟨rfl,[],⟨Nat.zero_le _,fun _ h=>absurd h List.not_mem_nil⟩,A4 rfl,0,fun N _=>.one (.slnil _ _)⟩
 ·refine⟨rfl,LI hl hm fun i hi=>?_⟩
  have h1:=hel i hi
  rw[hc,List.getElem?_eq_getElem (by omega),Option.bind_eq_some_iff]at h1
  obtain⟨cs,h2,h3⟩:=h1
  obtain⟨_,x,h4,h5,h6⟩:=he H enc w n cs _ (by omega) h3
  exact⟨(x,cs),h4,h5,h2,h6⟩
theorem xp{e:TypeId}{α:Type}[aP α]{wf:α->Prop}(ht:P.underlying t=some (.slice e))(hc:P.cellsOf e=aP.w α)(he:yR P e α wf):
 jR P t 1 (fun l:List α=>[.sl false (aP.w α) l.length (flat l)]) fun l=>l.length<=maxLen/\∀a∈l,wf a:=
 qc.all fun K=>(GG ht hc (jR.b he K)).le (Nat.le_succ K)
theorem FT{L:List (TypeId×Nat)}(hs:sN P t L=true):∃fs,P.underlying t=some (.struct fs):=by
 unfold sN at hs
 split at hs
 ·rename_i fs ht;exact⟨fs,ht⟩
 ·cases hs
theorem okWide_slice{w:World}{e:TypeId}{b0:Nat}{v:Value}(ht:P.underlying t=some (.slice e))(nW:Value.okWide P w .any b0 t v):∀cs,v≠.agg cs:=by
 intro cs h
 subst h
 unfold Value.okWide Cell.okWide Cell.ok at nW
 rw[ht]at nW
 exact nW
theorem Je{H:Type}{enc:TypeId×Value->H}{w:World}{e:TypeId}{α:Type}[aP α]{wf:α->Prop}{v:Value}{d:DataW H}{ps:List MemPlace}
 (ht:P.underlying t=some (.slice e))(hc:P.cellsOf e=aP.w α)(he:yR P e α wf)(h:DataW.Trod enc P w 0 (fun _=>true) true t v d ps)(hv:∀cs,v≠.agg cs):
 ∃l:List α,(l.length<=maxLen/\∀a∈l,wf a)/\∃N0,∀N,N0<=N->VR w (uP N w) (.sl false (aP.w α) l.length (flat l)) v:=by
 obtain⟨fuel,hf⟩:=h
 obtain⟨_,l,hl,_,N0,hN⟩:=xp ht hc he H enc w fuel _ _ hf
 have ns:v.cells.toList=[v]:=by cases v<;>first|rfl|exact absurd rfl (hv _)
 refine⟨l,hl,N0,fun N h=>?_⟩
 have:=hN N h
 rw[ns]at this
 exact this.head
end
end Go.AB
end
