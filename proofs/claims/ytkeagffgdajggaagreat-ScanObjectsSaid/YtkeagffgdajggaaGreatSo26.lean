/- A part of the proof: Uk, Ws, Open1, Open2, Open3, Open4, Zo. -/
import Derived.Test.YtkeagffgdajggaaGreatSo22
import Derived.Test.YtkeagffgdajggaaGreatSo25
import Derived.Test.YtkeagffgdajggaaGreatSo20
import Derived.Test.YtkeagffgdajggaaGreatSo14
import Derived.Test.YtkeagffgdajggaaGreatSo11
import Derived.ProofKit
import Derived.OpenShut
import Derived.ChangeCalls
import Derived.Test.YtkeagffgdajggaaGreatRows
import Derived.JoinedCond
set_option linter.unusedSimpArgs false
set_option linter.unusedVariables false
section
set_option linter.unusedSimpArgs false
namespace Go.AB
open Go
section
variable{b:List UInt8}{last:Bool}
theorem Qc(hb:b.length<1048576)(f:Nat)(c:UInt8)(hx:b[f]? =some c):(KA b last f c).2=0→∃j:Nat,(KA b last f c).1.To=(j:Int)∧f<j∧j≤b.length∧(KA b last f c).1.Kind≠0:=by
 obtain⟨hl,_⟩:=bc hx
 have hru:=vn (b:=b) f (by omega)
 have tokr:∀(t:Nat)(q:aa×Int),f<t→t≤b.length→(tok f t q).2=0→∃j:Nat,(tok f t q).1.To=(j:Int)∧f<j∧j≤b.length∧(tok f t q).1.Kind≠0:=fun t q h1 h2 h=>by
  unfold tok at h⊢
  by_cases he:(q.2 !=0)=true
  ·rw[if_pos he]at h
   exact absurd h (by simpa using he)
  ·rw[if_neg he]
   exact⟨t,rfl,h1,h2,by show(1:Int)≠0;decide⟩
 have strr:∀T:(List UInt8×Nat)⊕Int,PA (f+1) b.length T→(Cr f T).2=0→∃j:Nat,(Cr f T).1.To=(j:Int)∧f<j∧j≤b.length∧(Cr f T).1.Kind≠0:=fun T hT h=>by
  cases T with
  |inl r=>exact⟨r.2,rfl,by have:=hT.1;omega,hT.2,by show(1:Int)≠0;decide⟩
  |inr e=>exact absurd h hT
 have no:∀{e:Int},e≠0→((I8 f,e):aF×Int).2=0→∃j:Nat,((I8 f,e):aF×Int).1.To=(j:Int)∧f<j∧j≤b.length∧((I8 f,e):aF×Int).1.Kind≠0:=fun h1 h=>absurd h h1
 unfold KA
 split
 ·rename_i hr
  have hlt:=Jv hx hr
  split
  ·split
   ·exact tokr _ _ hlt hru.2
   ·intro _;exact⟨_,rfl,hlt,hru.2,by show(6:Int)≠0;decide⟩
  ·exact no (by decide)
 ·split
  ·intro _;exact⟨f+1,rfl,by omega,by omega,by show(2:Int)≠0;decide⟩
  ·split
   ·intro _;exact⟨f+1,rfl,by omega,by omega,by show(3:Int)≠0;decide⟩
   ·split
    ·cases hy:b[f+1]? with
     |none=>exact no (te last)
     |some d=>
      have hl2:=(bc hy).1
      simp only
      split
      ·intro _;exact⟨f+2,rfl,by omega,by omega,by show(4:Int)≠0;decide⟩
      ·exact strr _ (vX _ _ _ (by omega))
    ·split
     ·cases hy:b[f+1]? with
      |none=>exact no (by cases last<;>decide)
      |some d=>
       have hl2:=(bc hy).1
       simp only
       split
       ·intro _;exact⟨f+2,rfl,by omega,by omega,by show(5:Int)≠0;decide⟩
       ·exact no (by decide)
     ·split
      ·exact strr _ (kM _ _ _ _ (by omega))
      ·split
       ·split
        ·have hr2:=vn (b:=b) (f+1) (by omega)
         exact tokr _ _ (by omega) hr2.2
        ·exact no (by decide)
       ·exact no (by decide)
theorem Pm(hb:b.length<1048576)(k:Nat)(hk:k≤b.length)(h:(vd b last k).2=0):∃j:Nat,(vd b last k).1.To=(j:Int)∧k≤j∧j≤b.length∧((vd b last k).1.Kind≠0→k<j):=by
 have hs:=FT (b:=b) k hk
 unfold vd at h⊢
 cases hx:b[Dm b k]? with
 |none=>exact⟨Dm b k,rfl,hs.1,hs.2,fun h=>absurd rfl h⟩
 |some c=>
  rw[hx]at h
  obtain⟨j,j1,j2,j3,j4⟩:=Qc (last:=last) hb (Dm b k) c hx h
  exact⟨j,j1,by omega,j3,fun _=>by omega⟩
variable(b last)
def oj(k:Nat):Int×Int×Int:=if(vd b last k).2 !=0 then(0,0,(vd b last k).2)else if(vd b last k).1.Kind==0 then(0,0,10)else if !(((vd b last k).1.Kind==1)&&((vd b last k).1.V.Kind==2))then(0,0,11)else((vd b last k).1.V.N,(vd b last k).1.To,0)
def Cz(k:Nat)(w:List UInt8):Int×Int:=if(vd b last k).2 !=0 then(0,(vd b last k).2)else if(vd b last k).1.Kind==0 then(0,10)else if !(((vd b last k).1.Kind==6)&&((vd b last k).1.S.b==w))then(0,11)else((vd b last k).1.To,0)
variable{b last}
theorem Kc(hb:b.length<1048576)(k:Nat)(hk:k≤b.length):cL b (k:Int) last=some (oj b last k):=by
 unfold cL fM oj
 rw[QW hb k hk]
 generalize vd b last k=q
 obtain⟨t,e⟩:=q
 by_cases he:(e !=0)=true
 ·rw[if_pos he];exact ai (ax he rfl) rfl
 ·rw[if_neg he]
  by_cases h0:(t.Kind==0)=true
  ·rw[if_pos h0];exact ai (af he (ax h0 rfl)) rfl
  ·rw[if_neg h0]
   by_cases hw:(!((t.Kind==1)&&(t.V.Kind==2)))=true
   ·rw[if_pos hw];exact ai (af he (af h0 (ai rfl (ax hw rfl)))) rfl
   ·rw[if_neg hw];exact ai (af he (af h0 (ai rfl (af hw rfl)))) rfl
theorem Kq(hb:b.length<1048576)(k:Nat)(hk:k≤b.length):cM b (k:Int) last=some (oj b last k):=by
 unfold cM oj
 rw[Rp hb k hk]
 generalize vd b last k=q
 obtain⟨t,e⟩:=q
 by_cases he:(e !=0)=true
 ·rw[if_pos he];exact ax he rfl
 ·rw[if_neg he]
  by_cases h0:(t.Kind==0)=true
  ·rw[if_pos h0];exact af he (ax h0 rfl)
  ·rw[if_neg h0]
   by_cases hw:(!((t.Kind==1)&&(t.V.Kind==2)))=true
   ·rw[if_pos hw];exact af he (af h0 (ai rfl (ax hw rfl)))
   ·rw[if_neg hw];exact af he (af h0 (ai rfl (af hw rfl)))
theorem Sw(hb:b.length<1048576)(k:Nat)(hk:k≤b.length)(w:List UInt8):fS b (k:Int) last ⟨w⟩=some (Cz b last k w):=by
 unfold fS jo Cz
 rw[QW hb k hk]
 generalize vd b last k=q
 obtain⟨t,e⟩:=q
 by_cases he:(e !=0)=true
 ·rw[if_pos he];exact ai (ax he rfl) rfl
 ·rw[if_neg he]
  by_cases h0:(t.Kind==0)=true
  ·rw[if_pos h0];exact ai (af he (ax h0 rfl)) rfl
  ·rw[if_neg h0]
   by_cases hw:(!((t.Kind==6)&&(t.S.b==w)))=true
   ·rw[if_pos hw];exact ai (af he (af h0 (ai rfl (ax hw rfl)))) rfl
   ·rw[if_neg hw];exact ai (af he (af h0 (ai rfl (af hw rfl)))) rfl
theorem Tw(hb:b.length<1048576)(k:Nat)(hk:k≤b.length)(w:List UInt8):fV b (k:Int) last ⟨w⟩=some (Cz b last k w):=by
 unfold fV Cz
 rw[Rp hb k hk]
 generalize vd b last k=q
 obtain⟨t,e⟩:=q
 by_cases he:(e !=0)=true
 ·rw[if_pos he];exact ax he rfl
 ·rw[if_neg he]
  by_cases h0:(t.Kind==0)=true
  ·rw[if_pos h0];exact af he (ax h0 rfl)
  ·rw[if_neg h0]
   have e2:(!((t.Kind==6)&&(t.S.b==w)))=((t.Kind !=6)||(!(t.S.b==w))):=by
    show(!((t.Kind==6)&&(t.S.b==w)))=(!(t.Kind==6)||(!(t.S.b==w)))
    cases(t.Kind==6)<;>rfl
   by_cases hw:(!((t.Kind==6)&&(t.S.b==w)))=true
   ·rw[if_pos hw];exact af he (af h0 (ax (by have h:=hw;rw[e2]at h;exact h) rfl))
   ·rw[if_neg hw];exact af he (af h0 (af (by have h:=hw;rw[e2]at h;exact h) rfl))
theorem wL(hb:b.length<1048576)(k:Nat)(hk:k≤b.length)(h:(oj b last k).2.2=0):∃j:Nat,(oj b last k).2.1=(j:Int)∧j≤b.length∧k<j:=by
 unfold oj at h⊢
 by_cases he:((vd b last k).2 !=0)=true
 ·rw[if_pos he]at h;exact absurd h (by simpa using he)
 ·rw[if_neg he]at h⊢
  have he0:(vd b last k).2=0:=by simpa using he
  obtain⟨j,j1,j2,j3,j4⟩:=Pm hb k hk he0
  by_cases h0:((vd b last k).1.Kind==0)=true
  ·rw[if_pos h0]at h;cases h
  ·rw[if_neg h0]at h⊢
   split at h
   ·cases h
   ·rename_i hw
    rw[if_neg hw]
    exact⟨j,j1,j3,j4 (by simpa using h0)⟩
variable(b)
def Nf:List UInt8:=[111,98,106]
def OY(k:Nat):Int:=match b[k]? with
 |none=>0
 |some c=>if(decide ((c.toNat:Int)<48))||(decide ((c.toNat:Int)>57))then 0
  else if(((oj b true k).2.2 !=0)||(decide ((oj b true k).1<1)))||(decide ((oj b true k).1>4096))then 0
  else if((oj b true (oj b true k).2.1.toNat).2.2 !=0)||((oj b true (oj b true k).2.1.toNat).1 !=0)then 0
  else if(Cz b true (oj b true (oj b true k).2.1.toNat).2.1.toNat Nf).2==0 then(oj b true k).1 else 0
variable{b}
theorem w7(hb:b.length<1048576)(k:Nat)(hk:k<b.length):∃x,mw b (k:Int)=some x∧((x.2=true∧x.1=OY b k∧1≤OY b k∧OY b k≤4096)∨(x.2=false∧OY b k=0)):=by
 obtain⟨c,hx⟩:∃c,b[k]? =some c:=⟨b[k],List.getElem?_eq_getElem hk⟩
 have hi:=(bc hx).2
 unfold mw OY
 rw[hx]
 simp only[hi]
 by_cases hd:((decide ((c.toNat:Int)<48))||(decide ((c.toNat:Int)>57)))=true
 ·rw[if_pos hd,if_pos hd]
  exact⟨_,ah (by omega) (ah (by omega) rfl),.inr ⟨rfl,rfl⟩⟩
 ·rw[if_neg hd,if_neg hd]
  have n1:=Kc (last:=true) hb k (by omega)
  have r1:=wL (last:=true) hb k (by omega)
  generalize oj b true k=q1 at n1 r1
  by_cases h1:((q1.2.2 !=0)||(decide (q1.1<1))||(decide (q1.1>4096)))=true
  ·rw[if_pos h1]
   exact⟨_,ah (by omega) (ah (by omega) (ai n1 (ax h1 rfl))),.inr ⟨rfl,rfl⟩⟩
  ·rw[if_neg h1]
   have h1':q1.2.2=0∧1≤q1.1∧q1.1≤4096:=by
    simp only[Bool.or_eq_true,not_or]at h1
    obtain⟨⟨a1,a2⟩,a3⟩:=h1
    exact⟨by simpa using a1,by simpa using a2,by simpa using a3⟩
   obtain⟨j,j1,j2,j3⟩:=r1 h1'.1
   rw[j1,Int.toNat_natCast]
   have n2:=Kc (last:=true) hb j j2
   have r2:=wL (last:=true) hb j j2
   generalize oj b true j=q2 at n2 r2
   rw[←j1]at n2
   by_cases h2:((q2.2.2 !=0)||(q2.1 !=0))=true
   ·rw[if_pos h2]
    exact⟨_,ah (by omega) (ah (by omega) (ai n1 (af h1 (ai n2 (ax h2 rfl))))),.inr ⟨rfl,rfl⟩⟩
   ·rw[if_neg h2]
    have h2':q2.2.2=0:=by
     simp only[Bool.or_eq_true,not_or]at h2
     simpa using h2.1
    obtain⟨i,i1,i2,i3⟩:=r2 h2'
    rw[i1,Int.toNat_natCast]
    have w3:=Sw (last:=true) hb i i2 Nf
    rw[←i1]at w3
    generalize Cz b true i Nf=q3 at w3
    refine⟨_,ah (by omega) (ah (by omega) (ai n1 (af h1 (ai n2 (af h2 (ai w3 rfl)))))),?_⟩
    by_cases h3:(q3.2==0)=true
    ·rw[if_pos h3];exact .inl ⟨h3,rfl,h1'.2⟩
    ·rw[if_neg h3];exact .inr ⟨by simpa using h3,rfl⟩
def H7(b:List UInt8)(k:Nat):Bool:=((k:Int)==0)||Dp (ix b ((k:Int) -1))||KT (ix b ((k:Int) -1))
theorem RM(k:Nat):XY b (k:Int)=some (H7 b k):=by
 unfold XY H7
 cases((k:Int)==0)with
 |true=>rfl
 |false=>
  rw[cond_false,sj,rm]
  cases Dp (ix b ((k:Int) -1))with
  |true=>rfl
  |false=>exact MX _
theorem P0(hb:b.length<1048576)(k:Nat)(hk:k<b.length):eh b (k:Int)=some (H7 b k):=by
 unfold eh H7
 have w1:az ((k:Int) -1)=(k:Int) -1:=aM (by omega) (by omega)
 rw[w1]
 cases h0:((k:Int)==0)with
 |true=>exact ah (by simp) (ai (LO rfl) (ah (by simp) (ai (LO rfl) rfl)))
 |false=>
  have h0':(k:Int)≠0:=by simpa using h0
  refine ah (by omega) (ai (show fy true false (bT _)=_ by rw[mh,ot]) (ah (by omega) ?_))
  cases hs:Dp (ix b ((k:Int) -1))with
  |true=>exact ai (LO rfl) rfl
  |false=>exact ai (show fy true false (cu _)=_ by rw[mh,vi]) rfl
def hS(b:List UInt8)(k:Nat):Int:=if H7 b k then OY b k else 0
theorem NH(hb:b.length<1048576)(k:Nat)(hk:k<b.length):kB b (k:Int)=some (hS b k):=by
 obtain⟨c,hx⟩:∃c,b[k]? =some c:=⟨b[k],List.getElem?_eq_getElem hk⟩
 have hi:=(bc hx).2
 unfold kB hS OY
 rw[hx,P0 hb k hk,rm]
 simp only[hi]
 cases hbg:H7 b k with
 |false=>exact ah (by simp) (ah (by simp) (ax rfl (by rw[if_neg nF])))
 |true=>
  rw[if_pos rfl,Bool.not_true,Bool.false_or]
  refine ah (by omega) (ah (by omega) ?_)
  by_cases hd:((decide ((c.toNat:Int)<48))||(decide ((c.toNat:Int)>57)))=true
  ·rw[if_pos hd,if_pos hd]
  ·rw[if_neg hd,if_neg hd]
   have n1:=Kq (last:=true) hb k (by omega)
   have r1:=wL (last:=true) hb k (by omega)
   generalize oj b true k=q1 at n1 r1
   by_cases h1:((q1.2.2 !=0)||(decide (q1.1<1))||(decide (q1.1>4096)))=true
   ·rw[if_pos h1];exact ai n1 (ax h1 rfl)
   ·rw[if_neg h1]
    have h1':q1.2.2=0:=by
     simp only[Bool.or_eq_true,not_or]at h1
     simpa using h1.1.1
    obtain⟨j,j1,j2,j3⟩:=r1 h1'
    rw[j1,Int.toNat_natCast]
    have n2:=Kq (last:=true) hb j j2
    have r2:=wL (last:=true) hb j j2
    generalize oj b true j=q2 at n2 r2
    rw[←j1]at n2
    by_cases h2:((q2.2.2 !=0)||(q2.1 !=0))=true
    ·rw[if_pos h2];exact ai n1 (af h1 (ai n2 (ax h2 rfl)))
    ·rw[if_neg h2]
     have h2':q2.2.2=0:=by
      simp only[Bool.or_eq_true,not_or]at h2
      simpa using h2.1
     obtain⟨i,i1,i2,i3⟩:=r2 h2'
     rw[i1,Int.toNat_natCast]
     have w3:=Tw (last:=true) hb i i2 Nf
     rw[←i1]at w3
     generalize Cz b true i Nf=q3 at w3
     refine ai n1 (af h1 (ai n2 (af h2 (ai w3 ?_))))
     by_cases h3:(q3.2==0)=true
     ·rw[if_pos h3];exact af (by simpa using h3) rfl
     ·rw[if_neg h3];exact ax (by simpa using h3) rfl
theorem IH(hb:b.length<1048576)(k:Nat):0≤hS b k∧hS b k≤4096:=by
 unfold hS
 split
 ·rcases Nat.lt_or_ge k b.length with h|h
  ·obtain⟨x,_,h1|h1⟩:=w7 hb k h
   ·have:=h1.2.2;omega
   ·rw[h1.2];decide
  ·unfold OY
   rw[List.getElem?_eq_none_iff.2 h]
   show(0:Int)≤0∧(0:Int)≤4096
   decide
 ·decide
theorem N9(h:Nat→Int):∀(k j:Nat),pW h k≤(j:Int)→RG h k j=-1
 |0,_,_=>rfl
 |k+1,j,hm=>by
  have h1:=BA (h:=h) k (k+1) (by omega)
  have h2:=Fk (h:=h) k (k+1) (by omega)
  rw[RG,if_neg (by omega),N9 h k j (by omega)]
theorem Jb(hb:b.length≤500):eU b=some (fW (hS b) b.length):=by
 have hb2:b.length<1048576:=by omega
 have hroom:room=140737488355328:=rfl
 have hr:=IH hb2
 have hmo:=Am (h:=hS b) hr
 unfold eU fW
 refine kp b.length (fun k=>(uj (hS b) (pW (hS b) k).toNat k,(k:Int))) rfl (by omega) (fun k hk=>?_) ?_
 ·unfold Eh
  have hlt:decide ((k:Int)<(b.length:Int))=true:=by simp;omega
  show(bif decide ((k:Int)<(b.length:Int))then _ else _)=_
  rw[hlt,cond_true]
  refine ah (by omega) (ai (RM k) ?_)
  have hm:=hmo k
  have hm1:=hmo (k+1)
  have same:¬hS b k>0→uj (hS b) (pW (hS b) (k+1)).toNat (k+1)=uj (hS b) (pW (hS b) k).toNat k:=fun h=>by rw[pW,if_neg (by omega),Nq h]
  cases hbg:H7 b k with
  |false=>
   have h0:hS b k=0:=by unfold hS;rw[hbg,if_neg nF]
   show some (Sum.inl (_,(k:Int)+1))=_
   rw[same (by omega)];rfl
  |true=>
   have he:hS b k=OY b k:=by unfold hS;rw[hbg,if_pos rfl]
   rw[cond_true]
   refine ai (a:=uj (hS b) (pW (hS b) (k+1)).toNat (k+1)) ?_ rfl
   obtain⟨x,x1,x2⟩:=w7 hb2 k hk
   unfold wO
   refine ai x1 ?_
   rcases x2 with⟨y1,y2,y3,y4⟩|⟨y1,y2⟩
   ·rw[y1,Bool.not_true,cond_false,y2,←he]
    rw[←he]at y3 y4
    refine ai (a:=uj (hS b) (pW (hS b) (k+1)).toNat k) ?_ (ah ⟨y3,by rw[p7];have:=Fk (h:=hS b) k (k+1) (by omega);omega,by omega⟩ (by rw[Kj (by omega) (by have:=Fk (h:=hS b) k (k+1) (by omega);omega)]))
    have hmm:(pW (hS b) (k+1)).toNat=max (pW (hS b) k).toNat (hS b k).toNat:=by rw[pW];split<;>omega
    rw[hmm]
    have grow:∀i,i≤(hS b k).toNat -(pW (hS b) k).toNat→(uj (hS b) ((pW (hS b) k).toNat+i) k).length=(pW (hS b) k).toNat+i:=fun i _=>p7 _ _
    have e0:max (pW (hS b) k).toNat (hS b k).toNat=(pW (hS b) k).toNat+((hS b k).toNat -(pW (hS b) k).toNat):=by omega
    rw[e0]
    refine kp ((hS b k).toNat -(pW (hS b) k).toNat) (fun i=>uj (hS b) ((pW (hS b) k).toNat+i) k) rfl (by omega) (fun i hi=>?_) ?_
    ·unfold OT
     rw[p7,show decide ((((pW (hS b) k).toNat+i:Nat):Int)<hS b k)=true by simp;omega,cond_true]
     refine ah (by omega) ?_
     congr 2
     unfold uj
     rw[←Nat.add_assoc,List.range_succ,List.map_append]
     congr 1
     show[(-1:Int)]=[RG (hS b) k _]
     rw[N9 _ _ _ (by omega)]
    ·unfold OT
     rw[p7,show decide ((((pW (hS b) k).toNat+((hS b k).toNat -(pW (hS b) k).toNat):Nat):Int)<hS b k)=false by simp;omega,cond_false]
   ·rw[y1,Bool.not_false,cond_true,same (by rw[he,y2];decide)]
 ·unfold Eh
  show(bif decide ((b.length:Int)<(b.length:Int))then _ else _)=_
  rw[show decide ((b.length:Int)<(b.length:Int))=false by simp,cond_false]
end
end Go.AB
end
section
set_option maxRecDepth 100000
namespace Go.AB
open Go
attribute[-go_sem] dv eu cV du Nat.add_zero pN dc
def rK:IC:=
 (aj [dT 0 (.bool false)] []
 (aj [i1 8 (.b5 1 39 [.int .u8 0,.int .u8 0,.int .u8 0,.int .u8 0,.int .u8 0,.int .u8 0,.int .u8 0,.int .u8 0,.int .u8 0,.int .u8 0,.int .u8 0,.int .u8 0,.int .u8 0,.int .u8 0,.int .u8 0,.int .u8 0,.int .u8 0,.int .u8 0,.int .u8 0,.int .u8 0,.int .u8 0,.int .u8 0,.int .u8 0,.int .u8 0,.int .u8 0,.int .u8 0,.int .u8 0,.int .u8 0,.int .u8 0,.int .u8 0,.int .u8 0,.int .u8 0,.int .u8 0,.int .u8 0,.int .u8 0,.int .u8 0,.int .u8 0,.int .u8 0,.int .u8 0] [(0,1,(.c (.int .u8 50))),(1,1,(.c (.int .u8 32))),(2,1,(.c (.int .u8 48))),(3,1,(.c (.int .u8 32))),(4,1,(.c (.int .u8 111))),(5,1,(.c (.int .u8 98))),(6,1,(.c (.int .u8 106))),(7,1,(.c (.int .u8 32))),(8,1,(.c (.int .u8 55))),(9,1,(.c (.int .u8 32))),(10,1,(.c (.int .u8 101))),(11,1,(.c (.int .u8 110))),(12,1,(.c (.int .u8 100))),(13,1,(.c (.int .u8 111))),(14,1,(.c (.int .u8 98))),(15,1,(.c (.int .u8 106))),(16,1,(.c (.int .u8 32))),(17,1,(.c (.int .u8 116))),(18,1,(.c (.int .u8 114))),(19,1,(.c (.int .u8 97))),(20,1,(.c (.int .u8 105))),(21,1,(.c (.int .u8 108))),(22,1,(.c (.int .u8 101))),(23,1,(.c (.int .u8 114))),(24,1,(.c (.int .u8 60))),(25,1,(.c (.int .u8 60))),(26,1,(.c (.int .u8 47))),(27,1,(.c (.int .u8 82))),(28,1,(.c (.int .u8 111))),(29,1,(.c (.int .u8 111))),(30,1,(.c (.int .u8 116))),(31,1,(.c (.int .u8 32))),(32,1,(.c (.int .u8 50))),(33,1,(.c (.int .u8 32))),(34,1,(.c (.int .u8 48))),(35,1,(.c (.int .u8 32))),(36,1,(.c (.int .u8 82))),(37,1,(.c (.int .u8 62))),(38,1,(.c (.int .u8 62)))]),i1 9 (.ji (.t 8)),mt 1 9] [1]
 (aj [mv 10 1,c1 11 9 10,mt 2 11] [1,2]
 (aj [mv 13 1,c1 14 12 13,lj 12 14,ex 15 12 0,ex 16 12 1,i1 3 (.aQ iC),st 4 3 15,mv 4 16] [1,2,3,4]
 (aj [mt 18 1,c1 19 29 18,c1 20 28 19,lj 17 20,ex 21 17 0,ex 22 17 1,ex 23 17 2,i1 5 (.aQ [.sl true 1 0 [],.int .i64 0]),st 2 5 21,mv 6 22,mv 7 23] [2,3,4,5,6,7]
 (aj [mv 24 2,le 25 0 24,bn 26 .eql 25 2,mv 27 26,b6 28 2 27 true,cQ 29 27 true (.indexAddr oz (.t 28) (.c (.int .i64 0))),lg 30 27 true 1 29,jz 31 27 true .eql 30 (-1),pf 32 27 31,mv 33 32,b6 34 2 33 true,cQ 35 33 true (.indexAddr oz (.t 34) (.c (.int .i64 1))),lg 36 33 true 1 35,jz 37 33 true .eql 36 0,pf 38 33 37,mv 39 38,b6 40 4 39 true,pf 41 39 40,mv 42 41,fg 43 42 true 0 3,lg 44 42 true 1 43,jz 45 42 true .eql 44 7,pf 46 42 45,mv 47 46,b6 48 6 47 true,jz 49 47 true .eql 48 0,pf 50 47 49,mv 51 50,b6 52 7 51 true,jz 53 51 true .eql 52 0,pf 54 51 53,mv 55 54,fg 56 55 true 1 5,lg 57 55 true 1 56,jz 58 55 true .eql 57 2,pf 59 55 58,mv 60 59,fg 61 60 true 0 5,lg 62 60 true 1 61,cQ 63 60 true (.len 0 (.t 62)),jz 64 60 true .eql 63 2,pf 65 60 64,mv 0 65] [0]
 .ret))))))
def qF:List bj:=[⟨0,true,none⟩]
theorem Bc:bG Go.Proofs.Tryz.prog 8 66 qF rK=true:=by kernel_rfl
def kT:IC:=
 (aj [dT 2 (.bool false)] [0]
 (.seq (aj [mv 5 0,le 6 0 5,bn 7 .gtr 6 500] [0,7]
 (.cond (.t 7) (aj [i1 8 (.call 8 []),mv 2 8] [2]
 .ret)
 .skip))
 (aj [mv 9 0,c1 10 9 9,mt 11 0,c1 12 10 11,mt 3 10,mt 4 12] [3,4]
 (aj [mt 13 3,i1 14 (.build [.sl false 1 0 [],.int .i64 0] [(0,1,(.t 13))]),mt 15 4,i1 16 (.build [.sl false 1 0 [],.int .i64 0] [(0,1,(.t 15))]),c2 17 11 14 16,mv 18 17,cQ 19 18 true (.call 8 []),pf 20 18 19,mv 2 20] [2]
 .ret))))
def ke:List bj:=[⟨2,true,none⟩]
theorem rZ:bG Go.Proofs.Tryz.prog 3 21 ke kT=true:=by kernel_rfl
def LR:List UInt8:=[50,32,48,32,111,98,106,32,55,32,101,110,100,111,98,106,32,116,114,97,105,108,101,114,60,60,47,82,111,111,116,32,50,32,48,32,82,62,62]
def Qu:LQ:=oA (fun _=>none) 0 (jm Og 0 LR)
def X5:oB:=⟨39,[⟨0,39⟩],Qu⟩
def XA:aa:=⟨7,0,⟨[]⟩,[⟨5,0,⟨[82,111,111,116]⟩,[]⟩,⟨8,2,⟨[]⟩,[]⟩]⟩
theorem TP:mA ⟨39,[],fun _=>none⟩ 0 LR=some (X5,0):=by
 unfold mA
 rw[if_neg (by decide),if_neg (by decide)]
 refine ai (a:=[⟨0,39⟩]) (by kernel_rfl) ?_
 refine ai (a:=Qu) (by kernel_rfl) ?_
 exact ai (a:=[⟨0,39⟩]) (show Aa [] ⟨0,az (0+(LR.length:Int))⟩=_ by kernel_rfl) rfl
theorem TO:eU LR=some [-1,0]:=by kernel_rfl
theorem TQ:gG LR=some (XA,true):=by kernel_rfl
theorem Qh(B:Nat):tx ⟨B,X5⟩=some (⟨[-1,0],2⟩,0,0):=by kernel_rfl
theorem Oe{s:ab}{Q:List AV→ab→Prop}(hq:∀s',Sub s s'→Q [.bool true] s'):FN Go.Proofs.Tryz.prog 8 [] s Q:=by
 refine FN.of (ay mix) Bc rfl (Nat.le_of_ble_eq_true rfl) ?_
 rw[rK,qF]
 simp -implicitDefEqProofs only[go_sem,start,ag,an,aA,aD,aB,aC,Nat.reduceBEq,Nat.reduceAdd,Nat.reduceMul,Nat.reduceLeDiff,Nat.reduceEqDiff,Nat.reduceBNe,Nat.ble_eq,UInt8.reduceToNat,UInt32.reduceToNat]
 refine dw (as1:=[.sl false 1 LR.length (flat LR)]) (by rfl) (FE.app (fD TO) ?_)
 simp -implicitDefEqProofs only[go_sem,start,ag,an,aA,aD,aB,aC,Nat.reduceBEq,Nat.reduceAdd,Nat.reduceMul,Nat.reduceLeDiff,Nat.reduceEqDiff,Nat.reduceBNe,Nat.ble_eq,UInt8.reduceToNat,UInt32.reduceToNat]
 refine dw (as1:=[.sl false 1 LR.length (flat LR)]) (by rfl) (FE.app (gN TQ) ?_)
 simp -implicitDefEqProofs only[go_sem,start,ag,an,aA,aD,aB,aC,Nat.reduceBEq,Nat.reduceAdd,Nat.reduceMul,Nat.reduceLeDiff,Nat.reduceEqDiff,Nat.reduceBNe,Nat.ble_eq,UInt8.reduceToNat,UInt32.reduceToNat]
 refine dw (as1:=[.sl false 1 LR.length (flat LR)]) (by rfl) (z7 (l:=LR) (by decide) ⟨(X5,0),TP,fun B s2 hsrc=>?_⟩)
 simp -implicitDefEqProofs only[go_sem,start,ag,an,aA,aD,aB,aC,Nat.reduceBEq,Nat.reduceAdd,Nat.reduceMul,Nat.reduceLeDiff,Nat.reduceEqDiff,Nat.reduceBNe,Nat.ble_eq,UInt8.reduceToNat,UInt32.reduceToNat]
 refine FE.app (FM (s_0:=⟨B,X5⟩) ⟨⟨s,hsrc⟩,(by decide:(39:Int)≤2147483647)⟩ (Qh B)) ?_
 have l2:(([-1,0]:List Int).length:Int)=2:=rfl
 have e2:((2:Int)==2)=true:=rfl
 have e0:((0:Int)==0)=true:=rfl
 have p0:pad [.int .i64 0] (views (AB.sub (flat ([-1,0]:List Int)) 0 1))=[.int .i64 (-1)]:=rfl
 have p1:pad [.int .i64 0] (views (List.take 1 (List.drop (Int.toNat 1*1) [AV.int .i64 (-1),.int .i64 0])))=[.int .i64 0]:=rfl
 have k7:(XA.Kind==7)=true:=rfl
 have i0:(0:Int)≤0∧(0:Int)<2:=by decide
 have i1:(0:Int)≤1∧(1:Int)<2:=by decide
 have em:((-1:Int)==-1)=true:=rfl
 simp -implicitDefEqProofs only[go_sem,start,ag,an,aA,aD,aB,aC,Nat.reduceBEq,Nat.reduceAdd,Nat.reduceMul,Nat.reduceLeDiff,Nat.reduceEqDiff,Nat.reduceBNe,Nat.ble_eq,UInt8.reduceToNat,UInt32.reduceToNat,l2,e2,e0,em,p0,p1,k7,Bool.true_eq_false,Bool.false_eq_true,false_implies,true_implies,true_and,and_true,Bool.not_true,Bool.not_false,Bool.true_or,Bool.false_or,Bool.and_self]
 exact⟨by decide,by decide,hq s2 hsrc.1⟩
theorem Jw(l:List Int)(hl:l.length≤1000000):mT ⟨l,0⟩ ⟨l,0⟩=some true:=by
 unfold mT
 refine af (by simp) (bz (z:=.inl ()) (s8 (z:=.inl ()) (oR l.length (by omega) (fun k hk=>?_) (af (by simp) rfl)) rfl) rfl)
 have np:0≤(k:Int)∧(k:Int)<(l.length:Int):=by omega
 exact ax (by simp;omega) (ah np (ah np (af (by simp) rfl)))
theorem Jx{b:List UInt8}{s:ab}{Q:List AV→ab→Prop}(hq:∀s',Sub s s'→Q [.bool true] s'):FN Go.Proofs.Tryz.prog 3 [.sl false 1 b.length (flat b)] s Q:=by
 refine FN.of (ay mix) rZ rfl (Nat.le_of_ble_eq_true rfl) ?_
 rw[kT,ke]
 simp -implicitDefEqProofs only[go_sem,start,ag,an,aA,aD,aB,aC,Nat.reduceBEq,Nat.reduceAdd,Nat.reduceMul,Nat.reduceLeDiff,Nat.reduceEqDiff,Nat.reduceBNe,Nat.ble_eq,UInt8.reduceToNat,UInt32.reduceToNat]
 cases hl:decide ((b.length:Int)>500)with
 |true=>
  simp -implicitDefEqProofs only[go_sem,start,ag,an,aA,aD,aB,aC,Nat.reduceBEq,Nat.reduceAdd,Nat.reduceMul,Nat.reduceLeDiff,Nat.reduceEqDiff,Nat.reduceBNe,Nat.ble_eq,UInt8.reduceToNat,UInt32.reduceToNat,hl,Bool.true_eq_false,Bool.false_eq_true,false_implies,true_implies,true_and,and_true,Bool.not_true,Bool.not_false,Bool.true_or,Bool.false_or]
  refine Oe fun s' hs=>?_
  simp -implicitDefEqProofs only[go_sem,start,ag,an,aA,aD,aB,aC,Nat.reduceBEq,Nat.reduceAdd,Nat.reduceMul,Nat.reduceLeDiff,Nat.reduceEqDiff,Nat.reduceBNe,Nat.ble_eq,UInt8.reduceToNat,UInt32.reduceToNat]
  exact hq s' hs
 |false=>
  have hb:b.length≤500:=by have:=of_decide_eq_false hl;omega
  have hb2:b.length<1048576:=by omega
  simp -implicitDefEqProofs only[go_sem,start,ag,an,aA,aD,aB,aC,Nat.reduceBEq,Nat.reduceAdd,Nat.reduceMul,Nat.reduceLeDiff,Nat.reduceEqDiff,Nat.reduceBNe,Nat.ble_eq,UInt8.reduceToNat,UInt32.reduceToNat,hl,Bool.true_eq_false,Bool.false_eq_true,false_implies,true_implies,true_and,and_true,Bool.not_true,Bool.not_false,Bool.true_or,Bool.false_or]
  refine FE.app (fD (Jb hb)) ?_
  simp -implicitDefEqProofs only[go_sem,start,ag,an,aA,aD,aB,aC,Nat.reduceBEq,Nat.reduceAdd,Nat.reduceMul,Nat.reduceLeDiff,Nat.reduceEqDiff,Nat.reduceBNe,Nat.ble_eq,UInt8.reduceToNat,UInt32.reduceToNat,Bool.true_eq_false,Bool.false_eq_true,false_implies,true_implies,true_and,and_true,Bool.not_true,Bool.not_false,Bool.true_or,Bool.false_or]
  refine FE.app (yb hb (IH hb2) (fun k hk=>NH hb2 k hk)) ?_
  simp -implicitDefEqProofs only[go_sem,start,ag,an,aA,aD,aB,aC,Nat.reduceBEq,Nat.reduceAdd,Nat.reduceMul,Nat.reduceLeDiff,Nat.reduceEqDiff,Nat.reduceBNe,Nat.ble_eq,UInt8.reduceToNat,UInt32.reduceToNat,Bool.true_eq_false,Bool.false_eq_true,false_implies,true_implies,true_and,and_true,Bool.not_true,Bool.not_false,Bool.true_or,Bool.false_or]
  have hlen:(fW (hS b) b.length).length≤1000000:=by
   unfold fW
   rw[p7]
   have:=Am (h:=hS b) (IH hb2) b.length
   omega
  have hsame:=Jw (fW (hS b) b.length) hlen
  generalize fW (hS b) b.length=l at*
  refine FE.app (Dh (a_0:=⟨l,0⟩) (b_1:=⟨l,0⟩) hsame) ?_
  simp -implicitDefEqProofs only[go_sem,start,ag,an,aA,aD,aB,aC,Nat.reduceBEq,Nat.reduceAdd,Nat.reduceMul,Nat.reduceLeDiff,Nat.reduceEqDiff,Nat.reduceBNe,Nat.ble_eq,UInt8.reduceToNat,UInt32.reduceToNat,Bool.true_eq_false,Bool.false_eq_true,false_implies,true_implies,true_and,and_true,Bool.not_true,Bool.not_false,Bool.true_or,Bool.false_or]
  refine Oe fun s' hs=>?_
  simp -implicitDefEqProofs only[go_sem,start,ag,an,aA,aD,aB,aC,Nat.reduceBEq,Nat.reduceAdd,Nat.reduceMul,Nat.reduceLeDiff,Nat.reduceEqDiff,Nat.reduceBNe,Nat.ble_eq,UInt8.reduceToNat,UInt32.reduceToNat,Bool.true_eq_false,Bool.false_eq_true,false_implies,true_implies,true_and,and_true,Bool.not_true,Bool.not_false,Bool.true_or,Bool.false_or]
  exact hq s' hs
theorem pU(_:List UInt8):True:=trivial
theorem sk{b_0:List UInt8}{s:ab}(_:True):FE Go.Proofs.Tryz.prog 3 [.sl false 1 b_0.length (flat b_0)] s [.bool true] s:=FN.forget (Jx fun s' hs=>⟨_,hs,rfl,rfl⟩)
end Go.AB
end
section
namespace Go.AB
open Go Go.RowKit Go.ChangeShapes Go.WideShapes
def y5(N:Nat)(w:World)(b:Nat):Nat:=if b<w.heap.size then N else 0
theorem I0{P:Program}{w:World}{f:FuncId}{args:List AV}{vs:Array Value}(N:Nat)(hf:FN P f args An fun rs _=>rs=[.bool true])(ha:nk w (y5 N w) args vs):
 Calls P f vs w fun e w'=>e=.returned (.bool true)∧Below w.heap.size w w':=by
 refine(hf ⟨y5 N w,fun _=>.none⟩ w vs ⟨fun _ _=>rfl,fun b hb=>?_⟩ (fun b=>.inl rfl) (fun b o h=>by cases h) ha).mono fun e w'⟨v,rs,s',G',he,hq,_,_,hr,hp⟩=>?_
 ·show y5 N w b=0
  unfold y5
  rw[if_neg (by omega)]
 ·subst hq
  refine⟨?_,⟨hp.os,hp.tape,hp.output,hp.size,fun b hb=>hp.frame b hb (.inr rfl)⟩⟩
  rw[he]
  have:=VR.gm hr.1
  rw[this]
def HY(w:World)(R:Nat→Nat)(as1:List AV)(cs:List Value):Prop:=cs.length=as1.length∧∀(j:Nat)(a:AV)(v:Value),as1[j]? =some a→cs[j]? =some v→VR w R a v
theorem HY.one{w:World}{R:Nat→Nat}{a:AV}{v:Value}(h:VR w R a v):HY w R [a] [v]:=by
 refine⟨rfl,fun j a' v' h1 h2=>?_⟩
 cases j with
 |zero=>cases h1;cases h2;exact h
 |succ j=>simp at h1
theorem HY.append{w:World}{R:Nat→Nat}{as1 bs:List AV}{cs ds:List Value}(h:HY w R as1 cs)(k:HY w R bs ds):HY w R (as1++bs) (cs++ds):=by
 refine⟨by rw[List.length_append,List.length_append,h.1,k.1],fun j a v h1 h2=>?_⟩
 rcases Nat.lt_or_ge j as1.length with hj|hj
 ·rw[List.getElem?_append_left hj]at h1
  rw[List.getElem?_append_left (by rw[h.1];exact hj)]at h2
  exact h.2 j a v h1 h2
 ·rw[List.getElem?_append_right hj]at h1
  rw[List.getElem?_append_right (by rw[h.1];exact hj),h.1]at h2
  exact k.2 _ a v h1 h2
def pD(P:Program)(t:TypeId){α:Type}(n:Nat)(C:α→List AV)(wf:α→Prop):Prop:=
 ∀(H:Type)(enc:TypeId×Value→H)(w:World)(fuel:Nat)(cs:List Value)(x:DataW H×List MemPlace),DataW.trod enc P w 0 (fun _=>true) true fuel t cs=some x→
  cs.length=n∧∃a:α,wf a∧Fl (C a)∧∃N0,∀N,N0≤N→HY w (y5 N w) (C a) cs
def L3(P:Program)(t:TypeId)(α:Type)[a8 α](wf:α→Prop):Prop:=pD P t (a8.w α) (a8.cells:α→List AV) wf
section
variable{P:Program}{t:TypeId}
theorem ER{a:AV}(h:oH a=true):Fl [a]:=by
 intro c hc
 rw[List.mem_singleton]at hc;rw[hc];exact h
theorem Nh(ht:P.underlying t=some (.int .u8)):L3 P t UInt8 fun _=>True:=by
 intro H enc w fuel cs x h
 obtain⟨n,rfl,_,hw⟩:=DataW.trod_int ht h
 have hb:0≤n∧n≤255:=by simpa[Lit.wf,IntKind.min,IntKind.max,IntKind.signed,IntKind.bits]using hw
 refine⟨rfl,UInt8.ofNat n.toNat,trivial,ER rfl,0,fun N _=>?_⟩
 have e:((UInt8.ofNat n.toNat).toNat:Int)=n:=by rw[UInt8.toNat_ofNat'];omega
 show HY _ _ [.int .u8 ((UInt8.ofNat n.toNat).toNat:Int)] _
 rw[e]
 exact HY.one (.int _ n)
theorem yz{α:Type}{Q:Nat→α→Prop}:∀n:Nat,(∀i,i<n→∃a,Q i a)→∃l:List α,l.length=n∧∀(i:Nat)(a:α),l[i]? =some a→Q i a
 |0,_=>⟨[],rfl,fun i a h=>by simp at h⟩
 |n+1,h=>by
  obtain⟨l,h1,h2⟩:=yz n fun i hi=>h i (by omega)
  obtain⟨a,ha⟩:=h n (by omega)
  refine⟨l++[a],by simp[h1],fun i x hx=>?_⟩
  rcases Nat.lt_or_ge i n with hi|hi
  ·rw[List.getElem?_append_left (by omega)]at hx;exact h2 i x hx
  ·rw[List.getElem?_append_right (by omega)]at hx
   have:i=n:=by
    have:=(List.getElem?_eq_some_iff.1 hx).1
    simp at this;omega
   subst this
   rw[h1,Nat.sub_self]at hx
   injection hx with hx;rw[←hx];exact ha
theorem common{Q:Nat→Nat→Prop}:∀n:Nat,(∀i,i<n→∃N0,∀N,N0≤N→Q i N)→∃N0,∀N,N0≤N→∀i,i<n→Q i N
 |0,_=>⟨0,fun _ _ i h=>absurd h (Nat.not_lt_zero i)⟩
 |n+1,h=>by
  obtain⟨a,ha⟩:=common n fun i hi=>h i (by omega)
  obtain⟨b,hb⟩:=h n (by omega)
  refine⟨max a b,fun N hN i hi=>?_⟩
  rcases Nat.lt_or_ge i n with h1|h1
  ·exact ha N (by omega) i h1
  ·have:i=n:=by omega
   rw[this];exact hb N (by omega)
theorem MH{α:Type}[a8 α](l:List α){i r:Nat}{a:α}(hi:l[i]? =some a)(hr:r<a8.w α):(flat l)[i*a8.w α+r]? =(a8.cells a)[r]? :=by
 have h1:=jF l (a8.w α) i 1 rfl
 obtain⟨hlt,he⟩:=List.getElem?_eq_some_iff.1 hi
 have h2:(l.drop i).take 1=[a]:=by rw[List.drop_eq_getElem_cons hlt,he];rfl
 rw[h2,mo,rD,List.append_nil,Nat.one_mul]at h1
 rw[←h1]
 unfold AB.sub
 rw[List.getElem?_take,if_pos hr,List.getElem?_drop]
end
end Go.AB
end
section
namespace Go.AB
open Go Go.RowKit Go.ChangeShapes Go.WideShapes
section
variable{P:Program}
theorem uE{H:Type}{enc:TypeId×Value→H}(hl:laidOutB P=true){W W':World}(hb:Below W.heap.size W W'):
 ∀{ts:List TypeId}{vs:List Value}{ds:List (DataW H)}{ps:List MemPlace},(∀t∈ts,P.readableRec t=true∧t<P.types.size)→DataW.TrodAll enc P W 0 (fun _=>true) true ts vs ds ps→
  DataW.TrodAll enc P W' 0 (fun b=>decide (b<W.heap.size)) true ts vs ds ps
 |[],[],[],_,_,h=>h
 |t::ts,v::vs,d::ds,_,hr,h=>by
  have hlt:=h.lt
  obtain⟨p,q,h1,h2,rfl⟩:=h
  have ht:=hr t List.mem_cons_self
  exact⟨p,q,Below.trod hl ht.1 ht.2 h1 hb fun x hx=>hlt x (List.mem_append_left _ hx),uE hl hb (fun t ht=>hr t (List.mem_cons_of_mem _ ht)) h2,rfl⟩
 |[],_::_,_,_,_,h=>h.elim
 |[],[],_::_,_,_,h=>h.elim
 |_::_,[],_,_,_,h=>h.elim
 |_::_,_::_,[],_,_,h=>h.elim
theorem MZ{H:Type}{enc:TypeId×Value→H}{fn:Func}{s:ChangeSpec}{f:FuncId}{W:World}{args:Array Value}{ds gs:List (DataW H)}{before:List MemPlace}{tb:TypeId}
 (hvars:s.vars=[])(hres:fn.resultTypes= #[tb])(htb:P.underlying tb=some .bool)(hl:laidOutB P=true)(hr:∀t∈fn.params.toList,P.readableRec t=true∧t<P.types.size)
 (hspec:∀ds:List (DataW H),ds.length=fn.params.toList.length→s.fn H ds={results:=[.lit (.bool true)],args:=ds})
 (hW:DataW.Whole enc P fn.params.toList s.vars false W args.toList ds gs before)
 (hc:Calls P f args W fun e w'=>e=.returned (.bool true)∧Below W.heap.size W w'):
 Calls P f args W fun e W'=>∃v,e=.returned v∧s.post enc P fn false true false false W args v W':=by
 refine hc.mono fun e W'⟨he,hb⟩=>⟨.bool true,he,?_⟩
 have hW':=hW
 obtain⟨p,q,hA,hV,rfl,hfz,hnd⟩:=hW
 rw[hvars]at hV
 obtain⟨rfl,rfl⟩:=trodVars_none hV
 have hs:=hspec ds (trodAll_length hA).2
 refine⟨ds,[],_,[],p,[],hW',?_,?_,?_,?_,fun h=>by cases h⟩
 ·rw[List.append_nil,hs,hres]
  exact trodAll_mk1 (shut_bool htb true)
 ·rw[List.append_nil,hs]
  exact uE hl hb hr hA
 ·rw[List.append_nil,hs,hvars]
  exact rfl
 ·exact World.keptBut_mono (fun p hp=>hp.elim) (hb.frame fun _=>False)
theorem pD.map{t:TypeId}{n:Nat}{α β:Type}{C:α→List AV}{wf:α→Prop}(h:pD P t n C wf){C':β→List AV}{wf':β→Prop}(g:α→β)(hC:∀a,C' (g a)=C a)(hw:∀a,wf a→wf' (g a)):pD P t n C' wf':=by
 intro H enc w fuel cs x hx
 obtain⟨h1,a,h2,h3,N0,h4⟩:=h H enc w fuel cs x hx
 exact⟨h1,g a,hw a h2,by rw[hC];exact h3,N0,by rw[hC];exact h4⟩
section
variable{H:Type}{enc:TypeId×Value→H}{w:World}{t:TypeId}{α:Type}[a8 α]{wf:α→Prop}{b0:Nat}{v:Value}{d:DataW H}{ps:List MemPlace}
theorem HY.head{R:Nat→Nat}{a:AV}(h:HY w R [a] [v]):VR w R a v:=h.2 0 a v rfl rfl
end
theorem Vu{w:World}{R:Nat→Nat}{a0:AV}{v0:Value}(h0:VR w R a0 v0):nk w R [a0] #[v0]:=⟨rfl,fun j a v h1 h2=>by match j,h1,h2 with|0,h1,h2=>(cases h1;cases h2;exact h0)⟩
end
end Go.AB
end
section
namespace Go.AB
open Go
end Go.AB
end
section
namespace Go.AB
open Go Go.RowKit Go.ChangeShapes Go.WideShapes
def jA(K:Nat)(P:Program)(t:TypeId){α:Type}(n:Nat)(C:α→List AV)(wf:α→Prop):Prop:=
 ∀(H:Type)(enc:TypeId×Value→H)(w:World)(fuel:Nat)(cs:List Value)(x:DataW H×List MemPlace),fuel≤K→DataW.trod enc P w 0 (fun _=>true) true fuel t cs=some x→
  cs.length=n∧∃a:α,wf a∧Fl (C a)∧∃N0,∀N,N0≤N→HY w (y5 N w) (C a) cs
section
variable{P:Program}{t:TypeId}
theorem pD.b{n:Nat}{α:Type}{C:α→List AV}{wf:α→Prop}(h:pD P t n C wf)(K:Nat):jA K P t n C wf:=fun H enc w fuel cs x _ hx=>h H enc w fuel cs x hx
theorem jA.all{n:Nat}{α:Type}{C:α→List AV}{wf:α→Prop}(h:∀K,jA K P t n C wf):pD P t n C wf:=fun H enc w fuel cs x hx=>h fuel H enc w fuel cs x (Nat.le_refl _) hx
theorem jA.le{n:Nat}{α:Type}{C:α→List AV}{wf:α→Prop}{K K':Nat}(h:jA K P t n C wf)(hk:K'≤K):jA K' P t n C wf:=fun H enc w fuel cs x hf hx=>h H enc w fuel cs x (Nat.le_trans hf hk) hx
theorem jA.zero{n:Nat}{α:Type}{C:α→List AV}{wf:α→Prop}:jA 0 P t n C wf:=fun H enc w fuel cs x hf hx=>by
 have:fuel=0:=by omega
 subst this
 simp[DataW.trod]at hx
theorem jA.map{K n:Nat}{α β:Type}{C:α→List AV}{wf:α→Prop}(h:jA K P t n C wf){C':β→List AV}{wf':β→Prop}(g:α→β)(hC:∀a,C' (g a)=C a)(hw:∀a,wf a→wf' (g a)):jA K P t n C' wf':=by
 intro H enc w fuel cs x hf hx
 obtain⟨h1,a,h2,h3,N0,h4⟩:=h H enc w fuel cs x hf hx
 exact⟨h1,g a,hw a h2,by rw[hC];exact h3,N0,by rw[hC];exact h4⟩
theorem JA{w:World}{α:Type}[a8 α]{wf:α→Prop}{a:Addr}{len cap:Nat}(hl:len≤cap)(hm:cap≤maxLen)
 (each:∀i,i<len→∃x:α×List Value,wf x.1∧Fl (a8.cells x.1)∧w.cells? 0 (a.add (i*a8.w α)) (a8.w α)=some x.2∧∃N0,∀N,N0≤N→HY w (y5 N w) (a8.cells x.1) x.2):
 ∃l:List α,(l.length≤maxLen∧∀a∈l,wf a)∧Fl [.sl false (a8.w α) l.length (flat l)]∧∃N0,∀N,N0≤N→HY w (y5 N w) [.sl false (a8.w α) l.length (flat l)] [.slice (some a) len cap]:=by
 have hw:0<a8.w α:=a8.pos
 rcases Nat.eq_zero_or_pos len with h0|h0
 ·subst h0
  exact⟨[],⟨Nat.zero_le _,fun _ h=>absurd h List.not_mem_nil⟩,ER rfl,0,fun N _=>.one (.sle _ _ _)⟩
 obtain⟨b,off,spot⟩:=a
 have hplain:spot=none∧b<w.heap.size:=by
  obtain⟨x,_,_,h2,_⟩:=each 0 h0
  obtain⟨_,h3,h4⟩:=World.cells?_some h2
  have h5:=h4 0 hw
  have hxl:0<x.2.length:=by omega
  rw[List.getElem?_eq_getElem hxl]at h5
  unfold World.cell? at h5
  have e1:(((⟨b,off,spot⟩:Addr).add (0*a8.w α)).add 0).block=b:=by
   unfold Addr.add;repeat' split
   all_goals rfl
  have e2:(((⟨b,off,spot⟩:Addr).add (0*a8.w α)).add 0).spot.isSome=spot.isSome:=by
   cases spot with
   |none=>unfold Addr.add;repeat' split
          all_goals simp_all
   |some q=>unfold Addr.add;repeat' split
            all_goals simp_all
  rw[e1,e2]at h5
  split at h5
  ·rename_i hh
   refine⟨?_,(Array.getElem?_eq_some_iff.1 hh).1⟩
   cases spot with
   |none=>rfl
   |some q=>simp at h5
  ·cases h5
 obtain⟨rfl,hb⟩:=hplain
 obtain⟨L,hL,hQ⟩:=yz len each
 have hx:∀i,i<len→∃x,L[i]? =some x:=fun i hi=>⟨L[i]'(by omega),List.getElem?_eq_getElem (by omega)⟩
 obtain⟨N0,hN0⟩:=common (Q:=fun i N=>∀x,L[i]? =some x→HY w (y5 N w) (a8.cells x.1) x.2) len fun i hi=>by
  obtain⟨x,hx⟩:=hx i hi
  obtain⟨_,_,_,N0,h⟩:=hQ i x hx
  exact⟨N0,fun N hN y hy=>by rw[hx]at hy;cases hy;exact h N hN⟩
 have hwf:∀a∈L.map (·.1),wf a∧Fl (a8.cells a):=by
  intro a ha
  obtain⟨x,hx,rfl⟩:=List.mem_map.1 ha
  obtain⟨i,hi⟩:=List.getElem?_of_mem hx
  have:=hQ i x hi
  exact⟨this.1,this.2.1⟩
 have hget:∀(j:Nat)(c:AV),(flat (L.map (·.1)))[j]? =some c→∃v,w.cell? ⟨b,off+j,none⟩=some v∧∀N,N0≤N→VR w (y5 N w) c v:=by
  intro j c hj
  have hjl:=(List.getElem?_eq_some_iff.1 hj).1
  rw[aK,List.length_map,hL]at hjl
  have hi:j/a8.w α<len:=Nat.div_lt_of_lt_mul (by rw[Nat.mul_comm];exact hjl)
  have hr:j % a8.w α<a8.w α:=Nat.mod_lt _ hw
  have hje:j=j/a8.w α*a8.w α+j % a8.w α:=by rw[Nat.mul_comm];exact(Nat.div_add_mod _ _).symm
  obtain⟨x,hx⟩:=hx _ hi
  have h1:=MH (L.map (·.1)) (i:=j/a8.w α) (a:=x.1) (by rw[List.getElem?_map,hx];rfl) hr
  rw[←hje,hj]at h1
  obtain⟨_,_,h2,_⟩:=hQ _ x hx
  obtain⟨_,h3,h4⟩:=World.cells?_some h2
  have h5:=h4 _ hr
  rw[add_plain,add_plain,Nat.add_assoc,←hje]at h5
  refine⟨x.2[j % a8.w α]'(by omega),by rw[h5,List.getElem?_eq_getElem],fun N hN=>?_⟩
  exact(hN0 N hN _ hi x hx).2 _ _ _ h1.symm (List.getElem?_eq_getElem _)
 refine⟨L.map (·.1),⟨by rw[List.length_map,hL];omega,fun a ha=>(hwf a ha).1⟩,ER rfl,max N0 (off+len*a8.w α),fun N hN=>.one ?_⟩
 rw[List.length_map,hL]
 refine .sl false (a8.w α) len _ b off cap (fun j=>(w.cell? ⟨b,off+j,none⟩).getD default) ?_ ?_ ?_ hl ?_ ?_
 ·intro c hcm
  unfold flat at hcm
  obtain⟨l,hl,hcl⟩:=List.mem_flatten.1 hcm
  obtain⟨a,ha,rfl⟩:=List.mem_map.1 hl
  exact(hwf a ha).2 c hcl
 ·rw[aK,List.length_map,hL]
 ·rw[aK,List.length_map,hL]
  unfold y5
  rw[if_pos hb];omega
 ·intro j c hj
  obtain⟨v,h1,_⟩:=hget j c hj
  rw[h1];rfl
 ·intro j c hj
  obtain⟨v,h1,h2⟩:=hget j c hj
  simp only[h1,Option.getD_some];exact h2 N (by omega)
theorem Fs{K:Nat}{e:TypeId}{α:Type}[a8 α]{wf:α→Prop}(ht:P.underlying t=some (.slice e))(hc:P.cellsOf e=a8.w α)(he:jA K P e (a8.w α) (a8.cells:α→List AV) wf):
 jA (K+1) P t 1 (fun l:List α=>[.sl false (a8.w α) l.length (flat l)]) fun l=>l.length≤maxLen∧∀a∈l,wf a:=by
 intro H enc w fuel cs x hk h
 rcases DataW.trod_slice ht h with⟨rfl,_⟩|⟨a,len,cap,elems,rest,n,rfl,rfl,_,_,hl,hm,hlen,hel,_⟩
 ·exact⟨rfl,[],⟨Nat.zero_le _,fun _ h=>absurd h List.not_mem_nil⟩,ER rfl,0,fun N _=>.one (.slnil _ _)⟩
 ·refine⟨rfl,JA hl hm fun i hi=>?_⟩
  have h1:=hel i hi
  rw[hc,List.getElem?_eq_getElem (by omega),Option.bind_eq_some_iff]at h1
  obtain⟨cs,h2,h3⟩:=h1
  obtain⟨_,x,h4,h5,h6⟩:=he H enc w n cs _ (by omega) h3
  exact⟨(x,cs),h4,h5,h2,h6⟩
theorem Ft{e:TypeId}{α:Type}[a8 α]{wf:α→Prop}(ht:P.underlying t=some (.slice e))(hc:P.cellsOf e=a8.w α)(he:L3 P e α wf):
 pD P t 1 (fun l:List α=>[.sl false (a8.w α) l.length (flat l)]) fun l=>l.length≤maxLen∧∀a∈l,wf a:=
 jA.all fun K=>(Fs ht hc (pD.b he K)).le (Nat.le_succ K)
theorem okWide_slice{w:World}{e:TypeId}{b0:Nat}{v:Value}(ht:P.underlying t=some (.slice e))(hval:Value.okWide P w .any b0 t v):∀cs,v≠.agg cs:=by
 intro cs h
 subst h
 unfold Value.okWide Cell.okWide Cell.ok at hval
 rw[ht]at hval
 exact hval
theorem Ng{H:Type}{enc:TypeId×Value→H}{w:World}{e:TypeId}{α:Type}[a8 α]{wf:α→Prop}{v:Value}{d:DataW H}{ps:List MemPlace}
 (ht:P.underlying t=some (.slice e))(hc:P.cellsOf e=a8.w α)(he:L3 P e α wf)(h:DataW.Trod enc P w 0 (fun _=>true) true t v d ps)(hv:∀cs,v≠.agg cs):
 ∃l:List α,(l.length≤maxLen∧∀a∈l,wf a)∧∃N0,∀N,N0≤N→VR w (y5 N w) (.sl false (a8.w α) l.length (flat l)) v:=by
 obtain⟨fuel,hf⟩:=h
 obtain⟨_,l,hl,_,N0,hN⟩:=Ft ht hc he H enc w fuel _ _ hf
 have hcells:v.cells.toList=[v]:=by cases v<;>first|rfl|exact absurd rfl (hv _)
 refine⟨l,hl,N0,fun N h=>?_⟩
 have:=hN N h
 rw[hcells]at this
 exact this.head
end
end Go.AB
end
section
set_option linter.unusedSimpArgs false
namespace Go.AB
open Go Go.ChangeShapes Go.WideShapes Go.ChangeAt Go.RowKit Go.Proofs.YtkeagffgdajggaaGreat Go.Proofs
theorem q9:ownKnob Tryz.prog.godebug=none:=by kernel_rfl
theorem pT:laidOutB Tryz.prog=true:=by kernel_rfl
theorem sm:Tryz.prog.underlying 4=some .bool:=by kernel_rfl
set_option maxRecDepth 100000 in
theorem qZ{H:Type}{enc:TypeId×Value→H}{W:World}{base:Nat}{args:Array Value}{ds gs:List (DataW H)}{before:List MemPlace}
 (hval0:∀(j:Nat) t v,Tryz.f3.params[j]? =some t→args[j]? =some v→Value.okWide Tryz.prog W .any base t v)
 (hW:DataW.Whole enc Tryz.prog Tryz.f3.params.toList Rows.scanObjectsSpec.vars false W args.toList ds gs before):
 Calls Tryz.prog 3 args W fun e w'=>e=.returned (.bool true)∧Below W.heap.size W w':=by
 obtain⟨p,q,hA0,hV,rfl,hfz,hnd⟩:=hW
 have hval:=hval0
 have hA:DataW.TrodAll enc Tryz.prog W 0 (fun _=>true) true Tryz.f3.params.toList args.toList ds p:=hA0
 have hp:Tryz.f3.params= #[22]:=by kernel_rfl
 rw[hp]at hA hval
 obtain⟨v0,d0,rfl,rfl,h0⟩:=trodAll_one hA
 obtain⟨x0,w0,N0,k0⟩:=Ng (by kernel_rfl) (by kernel_rfl) (Nh (P:=Go.Proofs.Tryz.prog) (t:=5) (by kernel_rfl)) h0 (okWide_slice (e:=5) (by kernel_rfl) (hval 0 22 v0 rfl rfl))
 refine I0 N0 ?_ (Vu (k0 _ (by omega)))
 exact(sk (pU x0)).app rfl
end Go.AB
namespace Go.Proofs.YtkeagffgdajggaaGreat
open Go.ChangeShapes Go.WideShapes Go.ChangeAt Go.RowKit
set_option maxRecDepth 100000 in
theorem vq(os:Os)(started:os.Started)(H:Type)(enc:TypeId×Value→H):
 ReturnsInHanded {} Tryz.checked os 3 .any (Rows.scanObjectsSpec.pre6 enc Tryz.prog Tryz.f3 Rows.scanObjectsRow.domain false) (Rows.scanObjectsSpec.post enc Tryz.prog Tryz.f3 false true false false):=by
 refine returnsInHanded_of_change (C:=Tryz.checked) AB.q9 started (by kernel_rfl) Tryz.func3
  (ChangeSpec.witness6 (enc:=enc) (C:=Tryz.checked) false ⟨#[],#[.slice none 0 0],[]⟩ 8 (by kernel_rfl) (by kernel_rfl) (by kernel_rfl) (by kernel_rfl)) ?_
 intro W base args ds gs before hval hW _ _
 exact AB.MZ rfl (by kernel_rfl) AB.sm AB.pT (of_decide_eq_true (by kernel_rfl)) (fun ds h=>by
  match ds,h with
  |[_],_=>rfl) hW (AB.qZ hval hW)
theorem fj{a b:Bool}(h:a=true)(k:b=true):(a&&b)=true:=by rw[h,k];rfl
theorem Ca:(Rows.scanObjectsRow.wf (OpenSpec.ofChange Rows.scanObjectsSpec))=true:=by kernel_rfl
theorem Cb:(laidOutB Tryz.checked.prog)=true:=by kernel_rfl
theorem Cc:(mapsRowed Tryz.checked.prog)=true:=by kernel_rfl
theorem Cd:(Tryz.f3.params.all (Tryz.checked.prog.readableRec ·))=true:=by kernel_rfl
theorem Ce:(namedTie Tryz.checked.prog Rows.scanObjectsRow.named Rows.scanObjectsSpec.vars)=true:=by kernel_rfl
theorem Cf:((Rows.scanObjectsRow.stops==[]))=true:=by kernel_rfl
theorem Cg:((Tryz.checked.prog.stops==[]))=true:=by kernel_rfl
theorem Ci:((Rows.scanObjectsRow.knobs==[]))=true:=by kernel_rfl
theorem Cj:((Tryz.checked.prog.stopKnobs==[]))=true:=by kernel_rfl
theorem Ck:((Rows.scanObjectsRow.inPlace==Tryz.checked.prog.inPlace 3))=true:=by kernel_rfl
theorem zB:((Rows.scanObjectsRow.unfollowed==Tryz.checked.prog.unfollowed 3))=true:=by kernel_rfl
theorem zC:((Rows.scanObjectsRow.recurses==Tryz.checked.prog.recurses 3))=true:=by kernel_rfl
theorem zD:((Rows.scanObjectsRow.named==Tryz.checked.prog.varsNamed 3))=true:=by kernel_rfl
theorem zE:((Rows.scanObjectsRow.maps==(Tryz.f3.params.toList++Rows.scanObjectsSpec.plain.varTypes Tryz.checked.prog).any (Tryz.checked.prog.mapsRec ·)))=true:=by kernel_rfl
theorem zF:((Rows.scanObjectsRow.ifaces==(Tryz.f3.params.toList++Rows.scanObjectsSpec.plain.varTypes Tryz.checked.prog).any (Tryz.checked.prog.ifacesRec ·)))=true:=by kernel_rfl
theorem zG:((Rows.scanObjectsRow.mapsOut==Tryz.checked.prog.mapsAmong Tryz.f3.resultTypes.toList))=true:=by kernel_rfl
theorem zH:((Rows.scanObjectsRow.loops==(Tryz.f3.params.toList++Rows.scanObjectsSpec.plain.varTypes Tryz.checked.prog).any (Tryz.checked.prog.loopsFrom ·)))=true:=by kernel_rfl
theorem zI:((Rows.scanObjectsRow.wideKeys==(Tryz.f3.params.toList++Rows.scanObjectsSpec.plain.varTypes Tryz.checked.prog++Tryz.f3.resultTypes.toList).any (Tryz.checked.prog.wideKeysFrom ·)))=true:=by kernel_rfl
theorem zJ:(Rows.scanObjectsSpec.vars.all (Tryz.checked.prog.varReadable ·))=true:=by kernel_rfl
theorem zK:(Tryz.f3.resultTypes.all (fun t=>Tryz.checked.prog.readableRec t&&decide (t<Tryz.checked.prog.types.size)))=true:=by kernel_rfl
theorem zM:((Rows.scanObjectsRow.ifacesOut==Tryz.f3.resultTypes.toList.any (Tryz.checked.prog.ifacesRec ·)))=true:=by kernel_rfl
theorem zN:((Rows.scanObjectsRow.loopsOut==Tryz.f3.resultTypes.toList.any (Tryz.checked.prog.loopsFrom ·)))=true:=by kernel_rfl
theorem zO:((Rows.scanObjectsRow.plainKeys==Tryz.checked.prog.plainKeys))=true:=by kernel_rfl
theorem zP:(Rows.scanObjectsRow.shortTexts.isNone)=true:=by kernel_rfl
theorem zQ:(Tryz.checked.prog.stopsHeard)=true:=by kernel_rfl
theorem zR:(Tryz.checked.prog.mayEnter)=true:=by kernel_rfl
theorem zS:((Rows.scanObjectsRow.lifted==Tryz.checked.prog.liftsFinal))=true:=by kernel_rfl
theorem zT:((Tryz.checked.prog.make==some Rows.scanObjectsRow.make))=true:=by kernel_rfl
theorem zU:((Rows.scanObjectsRow.kinds==(if Rows.scanObjectsRow.domain.isEmpty then[]else Tryz.f3.params.toList.map fun t=>match Tryz.checked.prog.underlying t with|some (.int k)=>some k|_=>none)))=true:=by kernel_rfl
theorem zW:((Rows.scanObjectsRow.pinned==Rows.scanObjectsRow.pinnedBy))=true:=by kernel_rfl
theorem zX:((Rows.scanObjectsRow.veiled==(Tryz.f3.params.toList++Rows.scanObjectsSpec.plain.varTypes Tryz.checked.prog++Tryz.f3.resultTypes.toList).any (Tryz.checked.prog.veiledRec ·)))=true:=by kernel_rfl
theorem zY:(Rows.scanObjectsRow.veiledFits Tryz.checked.prog Tryz.f3.params.toList (Tryz.f3.params.toList++Rows.scanObjectsSpec.plain.varTypes Tryz.checked.prog++Tryz.f3.resultTypes.toList))=true:=by kernel_rfl
set_option maxRecDepth 100000 in
theorem vp:joinedFacts Tryz.checked.prog 3 Tryz.f3 Rows.scanObjectsSpec Rows.scanObjectsRow=true:=(fj (fj (fj (fj (fj (fj (fj (fj (fj (fj (fj (fj (fj (fj (fj (fj (fj (fj (fj (fj (fj (fj (fj (fj (fj (fj (fj (fj (fj (fj (fj Ca Cb) Cc) Cd) Ce) Cf) Cg) Ci) Cj) Ck) zB) zC) zD) zE) zF) zG) zH) zI) zJ) zK) zM) zN) zO) zP) zQ) zR) zS) zT) zU) zW) zX) zY)
theorem scanObjects_holds:Rows.ScanObjectsSaid:=
 OpenClaim.holds_of_wide 3 Tryz.f3 rfl rfl rfl rfl rfl rfl rfl ⟨rfl,rfl,rfl,rfl,rfl⟩ rfl rfl rfl rfl rfl (by kernel_rfl) Tryz.func3 vp
  (of_decide_eq_true (by kernel_rfl)) (by unfold Func.isWrapper;first|(rw[if_pos (by decide+kernel)];kernel_rfl)|(rw[if_neg (by decide+kernel)];exact⟨rfl,rfl⟩))
  (fun os started H enc _=>vq os started H enc)
end Go.Proofs.YtkeagffgdajggaaGreat
end
