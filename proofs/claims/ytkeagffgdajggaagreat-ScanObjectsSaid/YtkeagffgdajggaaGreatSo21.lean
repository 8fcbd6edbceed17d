/- A part of the proof: Ue, Uf, Ug, Uh. -/
import Derived.Test.YtkeagffgdajggaaGreatSo20
set_option linter.unusedSimpArgs false
set_option linter.unusedVariables false
section
set_option linter.unusedSimpArgs false
namespace Go.AB
open Go
section
variable{b:List UInt8}{last:Bool}
theorem QV(u:Bool)(o:List UInt8)(hb:b.length<1048576)(c:UInt8)(hc:((c.toNat:Int)==13)=true)(j:Nat)(hj:j≤b.length):
 cq ⟨⟨u,true,⟨o⟩⟩,b,(j:Int),last⟩ c=some (match b[j]? with
  |none=>(last,⟨⟨u,true,⟨o⟩⟩,b,(j:Int),last⟩)
  |some d=>(true,⟨⟨u,true,⟨o⟩⟩,b,if(d.toNat:Int)==10 then((j+1:Nat):Int)else(j:Int),last⟩)):=by
 unfold cq
 refine af (by have:(c.toNat:Int)=13:=by simpa using hc
               rw[this];decide) ?_
 cases hx:b[j]? with
 |none=>exact ai (pS hx) (gI (af (by decide) rfl) rfl)
 |some d=>
  have hl:=(bc hx).1
  by_cases hd:((d.toNat:Int)==10)=true
  ·simp only[hd,if_true]
   refine ai (eD hx) (gI (ax (by rw[hd];rfl) rfl) ?_)
   show some (true,(⟨_,b,az ((j:Int)+1),last⟩:ao))=_
   rw[iX (by omega)]
  ·simp only[hd]
   exact ai (eD hx) (gI (af (by simpa using hd) rfl) rfl)
theorem GV(hb:b.length<1048576){u:Bool}{o:List UInt8}(ho:o.length<1048576)(j:Nat){c y:UInt8}{i:Int}(hx:b[j]? =some c)(e:Lib.indexByte [110,114,116,98,102] c=i)(h0:0≤i∧i<5)(hy:ix ([10,13,9,8,12]:List UInt8) i=y):
 b8 ⟨⟨u,true,⟨o⟩⟩,b,(j:Int),last⟩=some (true,⟨⟨true,true,⟨o++[y]⟩⟩,b,((j+1:Nat):Int),last⟩):=by
 have hroom:room=140737488355328:=rfl
 have hl:=(bc hx).1
 unfold b8
 refine ai (eD hx) (af nT (ai (show bC _ c=some i by rw[←e];rfl) (ax (by simpa using h0.1) (ah h0 (ai (Cy _ (by omega)) ?_)))))
 show some (true,(⟨⟨true,true,⟨o++[ix ([10,13,9,8,12]:List UInt8) i]⟩⟩,b,az ((j:Int)+1),last⟩:ao))=_
 rw[iX (by omega),hy]
theorem yW{c:UInt8}{n:Nat}(hn:n<256)(h:((c.toNat:Int)==(n:Int))=true):c=UInt8.ofNat n:=by
 have h:(c.toNat:Int)=(n:Int):=by simpa using h
 have h:c.toNat=n:=by omega
 rw[←h];simp
def Z5(b:List UInt8)(last:Bool)(o:List UInt8)(r:(List UInt8×Nat)⊕Int)(x:Bool×ao):Prop:=match r with
 |.inr _=>x.1=false∧x.2.aE=last
 |.inl r=>∃u',x=(true,⟨⟨u',true,⟨o++r.1⟩⟩,b,(r.2:Int),last⟩)
theorem Pa(hb:b.length<1048576){u:Bool}{o:List UInt8}(ho:o.length<1048576)(j:Nat)(hj:j≤b.length):
 ∃x,b8 ⟨⟨u,true,⟨o⟩⟩,b,(j:Int),last⟩=some x∧Z5 b last o (Om b last j) x:=by
 have hroom:room=140737488355328:=rfl
 unfold Om
 cases hx:b[j]? with
 |none=>
  unfold b8
  exact⟨_,ai (pS hx) (ax rfl rfl),rfl,rfl⟩
 |some c=>
  obtain⟨hl,_⟩:=bc hx
  have hw:=iX (n:=j) (by omega)
  have hidx:=OZ c
  simp only
  by_cases n1:((c.toNat:Int)==110)=true
  ·rw[if_pos n1]
   obtain rfl:c=110:=yW (n:=110) (by decide) n1
   exact⟨_,GV hb ho j hx (i:=0) rfl (by decide) rfl,true,rfl⟩
  rw[if_neg n1]
  by_cases n2:((c.toNat:Int)==114)=true
  ·rw[if_pos n2]
   obtain rfl:c=114:=yW (n:=114) (by decide) n2
   exact⟨_,GV hb ho j hx (i:=1) rfl (by decide) rfl,true,rfl⟩
  rw[if_neg n2]
  by_cases n3:((c.toNat:Int)==116)=true
  ·rw[if_pos n3]
   obtain rfl:c=116:=yW (n:=116) (by decide) n3
   exact⟨_,GV hb ho j hx (i:=2) rfl (by decide) rfl,true,rfl⟩
  rw[if_neg n3]
  by_cases n4:((c.toNat:Int)==98)=true
  ·rw[if_pos n4]
   obtain rfl:c=98:=yW (n:=98) (by decide) n4
   exact⟨_,GV hb ho j hx (i:=3) rfl (by decide) rfl,true,rfl⟩
  rw[if_neg n4]
  by_cases n5:((c.toNat:Int)==102)=true
  ·rw[if_pos n5]
   obtain rfl:c=102:=yW (n:=102) (by decide) n5
   exact⟨_,GV hb ho j hx (i:=4) rfl (by decide) rfl,true,rfl⟩
  rw[if_neg n5]
  have hi:¬(decide (Lib.indexByte [110,114,116,98,102] c≥0))=true:=by
   rw[hidx]
   simp only[Bool.or_eq_true,not_or]
   exact⟨n1,n2,n3,n4,n5⟩
  have start:∀{r:Option (Bool×ao)},(if((decide ((c.toNat:Int)≥48))&&(decide ((c.toNat:Int)≤55)))=true then cj (eG ⟨⟨u,true,⟨o⟩⟩,b,((j+1:Nat):Int),last⟩ c) fun r4=>some (r4.1,r4.2)
   else if(((c.toNat:Int)==10)||((c.toNat:Int)==13))=true then cj (cq ⟨⟨u,true,⟨o⟩⟩,b,((j+1:Nat):Int),last⟩ c) fun r5=>some (r5.1,r5.2)
   else cj (aw ⟨u,true,⟨o⟩⟩ c) fun r6=>some (true,(⟨r6.2,b,((j+1:Nat):Int),last⟩:ao)))=r→b8 ⟨⟨u,true,⟨o⟩⟩,b,(j:Int),last⟩=r:=fun h=>by
   unfold b8
   refine ai (eD hx) (af nT (ai (show bC _ c=some _ from rfl) (af hi ?_)))
   rw[←hw]at h
   exact h
  by_cases n10:((c.toNat:Int)==10)=true
  ·rw[if_pos n10]
   have hc:(c.toNat:Int)=10:=by simpa using n10
   refine⟨_,start (af (by rw[hc];decide) (ax (by rw[n10];rfl) (ai (ax (by rw[hc];decide) rfl) rfl))),u,?_⟩
   show _=(true,(⟨⟨u,true,⟨o++[]⟩⟩,b,((j+1:Nat):Int),last⟩:ao))
   rw[List.append_nil]
  rw[if_neg n10]
  by_cases n13:((c.toNat:Int)==13)=true
  ·rw[if_pos n13]
   have hc:(c.toNat:Int)=13:=by simpa using n13
   refine⟨_,start (af (by rw[hc];decide) (ax (by rw[n13,Bool.or_true]) (ai (QV u o hb c n13 (j+1) (by omega)) rfl))),?_⟩
   cases hy:b[j+1]? with
   |none=>
    cases last with
    |true=>exact⟨u,by show _=(true,(⟨⟨u,true,⟨o++[]⟩⟩,b,((j+1:Nat):Int),true⟩:ao));rw[List.append_nil]⟩
    |false=>exact⟨rfl,rfl⟩
   |some d=>
    simp only
    by_cases hd:((d.toNat:Int)==10)=true
    ·rw[if_pos hd,if_pos hd]
     exact⟨u,by show _=(true,(⟨⟨u,true,⟨o++[]⟩⟩,b,((j+2:Nat):Int),last⟩:ao));rw[List.append_nil]⟩
    ·rw[if_neg hd,if_neg hd]
     exact⟨u,by show _=(true,(⟨⟨u,true,⟨o++[]⟩⟩,b,((j+1:Nat):Int),last⟩:ao));rw[List.append_nil]⟩
  rw[if_neg n13]
  by_cases no:((decide ((c.toNat:Int)<48))||(decide ((c.toNat:Int)>55)))=true
  ·rw[if_pos no]
   exact⟨_,start (af (by simp at no⊢;omega) (af (by simp at n10 n13⊢;exact⟨n10,n13⟩) (ai (Cy _ (by omega)) rfl))),true,rfl⟩
  ·rw[if_neg no]
   have hc:48≤(c.toNat:Int)∧(c.toNat:Int)≤55:=by simp at no;omega
   obtain⟨x,h1,h2⟩:=Su (last:=last) hb (u:=u) ho c hc (j+1) (by omega)
   refine⟨x,start (ax (by simp;omega) (ai h1 rfl)),?_⟩
   by_cases h:((rf b 2 ((c.toNat:Int) -48) (j+1)).2.2&&!last)=true
   ·rw[if_pos h]at h2⊢
    exact h2
   ·rw[if_neg h]at h2⊢
    exact⟨true,h2⟩
theorem Wk(hb:b.length<1048576)(u:Bool)(k:Nat)(hk:k≤b.length):∃x,eW ⟨⟨u,true,⟨[]⟩⟩,b,(k:Int),last⟩=some x∧LV (yp b last (b.length+1) 1 [] k) x:=by
 have hroom:room=140737488355328:=rfl
 generalize hT:yp b last (b.length+1) 1 [] k=T
 unfold eW
 refine gn (fun(s:Int×ao)=>∃(j f:Nat)(u:Bool)(o:List UInt8),s.2=⟨⟨u,true,⟨o⟩⟩,b,(j:Int),last⟩∧j≤b.length∧b.length -j+1≤f∧o.length≤j∧1≤s.1∧s.1≤(j:Int)+1∧yp b last f s.1 o j=T) (fun s=>b.length -s.2.at_.toNat) (LV T) ⟨k,b.length+1,u,[],rfl,hk,by omega,Nat.zero_le _,by show(1:Int)≤1;decide,by show(1:Int)≤(k:Int)+1;omega,hT⟩ (by show b.length -_<_;omega) ?_
 rintro⟨deep,o2⟩ ⟨j,f,u,o,e,hj,hf,ho,d1,d2,hs⟩
 have e:o2=⟨⟨u,true,⟨o⟩⟩,b,(j:Int),last⟩:=e
 subst e
 have d1:1≤deep:=d1
 have d2:deep≤(j:Int)+1:=d2
 have hs:yp b last f deep o j=T:=hs
 obtain⟨f,rfl⟩:∃g,f=g+1:=⟨f -1,by omega⟩
 rw[yp]at hs
 cases hx:b[j]? with
 |none=>
  rw[hx]at hs
  refine⟨_,ai (pS hx) (ax rfl (ai (Kd ..) rfl)),?_⟩
  show LV T _
  rw[←hs]
  exact rfl
 |some c=>
  obtain⟨hl,hi⟩:=bc hx
  rw[hx]at hs
  simp only at hs
  have hw:=iX (n:=j) (by omega)
  have meas:∀j':Nat,j<j'→b.length -((j':Nat):Int).toNat<b.length -(j:Int).toNat:=fun j' h=>by omega
  have put:∀(d:Int)(c:UInt8)(j':Nat),1≤d→d≤(j':Int)+1→j<j'→j'≤b.length→yp b last f d (o++[c]) j'=T→
   ∃t,(if(d==0)=true then cj (aY ⟨u,true,⟨o⟩⟩) fun r22=>some (Sum.inr ((⟨4,0,r22.1,[]⟩:aa),(0:Int),(⟨r22.2,b,((j':Nat):Int),last⟩:ao)))else cj (aw ⟨u,true,⟨o⟩⟩ c) fun r23=>some (Sum.inl (d,(⟨r23.2,b,((j':Nat):Int),last⟩:ao))))=some (Sum.inl t)∧
    (∃(j f:Nat)(u:Bool)(o:List UInt8),t.2=⟨⟨u,true,⟨o⟩⟩,b,(j:Int),last⟩∧j≤b.length∧b.length -j+1≤f∧o.length≤j∧1≤t.1∧t.1≤(j:Int)+1∧yp b last f t.1 o j=T)∧b.length -t.2.at_.toNat<b.length -(j:Int).toNat:=fun d c j' h1 h2 h3 h4 h5=>by
   have hd:¬(d==0)=true:=by simp;omega
   refine⟨_,af hd (ai (Cy _ (by omega)) rfl),⟨j',f,true,o++[c],rfl,h4,by omega,by simp;omega,h1,h2,h5⟩,meas j' h3⟩
  by_cases n92:((c.toNat:Int)==92)=true
  ·rw[if_pos n92]at hs
   obtain⟨x,x1,x2⟩:=Pa (last:=last) hb (u:=u) (o:=o) (by omega) (j+1) (by omega)
   have hp:=EO (b:=b) (last:=last) (j+1) (by omega)
   cases hes:Om b last (j+1)with
   |inr e=>
    rw[hes]at hs x2 hp
    simp only at hs
    obtain⟨y1,y2⟩:=x2
    have hp:e=n9 last:=hp
    have ho2:bF x.2=some (n9 last):=by rw[←y2];obtain⟨_,⟨_,_,_,l⟩⟩:=x;cases l<;>rfl
    refine⟨_,ai (eD hx) (af nT (bz (ax n92 (ai (by show b8 ⟨_,b,az ((j:Int)+1),last⟩=some x;rw[hw];exact x1) (ax (by rw[y1];rfl) (ai ho2 rfl)))) rfl)),?_⟩
    show LV T _
    rw[←hs,hp]
    exact rfl
   |inl r=>
    rw[hes]at hs x2 hp
    simp only at hs
    obtain⟨u',rfl⟩:=x2
    obtain⟨p1,p2,p3⟩:=hp
    refine⟨_,ai (eD hx) (af nT (bz (ax n92 (ai (by show b8 ⟨_,b,az ((j:Int)+1),last⟩=_;rw[hw];exact x1) (af nT rfl))) rfl)),⟨r.2,f,u',o++r.1,rfl,p2,by omega,by simp;omega,d1,by omega,hs⟩,meas r.2 (by omega)⟩
  ·rw[if_neg n92]at hs
   by_cases n13:((c.toNat:Int)==13)=true
   ·rw[if_pos n13]at hs
    have hline:=QV (last:=last) u o hb c n13 (j+1) (by omega)
    cases hy:b[j+1]? with
    |none=>
     rw[hy]at hs hline
     cases last with
     |false=>
      refine⟨_,ai (eD hx) (af nT (bz (af n92 (ax n13 (ai (by show cq ⟨_,b,az ((j:Int)+1),_⟩ c=_;rw[hw];exact hline) (ax rfl (ai (Kd ..) rfl))))) rfl)),?_⟩
      show LV T _
      rw[←hs]
      exact rfl
     |true=>
      obtain⟨t,q1,q2,q3⟩:=put deep 10 (j+1) d1 (by omega) (by omega) (by omega) hs
      exact⟨.inl t,ai (eD hx) (af nT (bz (af n92 (ax n13 (ai (by show cq ⟨_,b,az ((j:Int)+1),_⟩ c=_;rw[hw];exact hline) (af nT rfl)))) q1)),q2,q3⟩
    |some d=>
     rw[hy]at hs hline
     simp only at hs hline
     have hl2:=(bc hy).1
     by_cases hd:((d.toNat:Int)==10)=true
     ·rw[if_pos hd]at hs hline
      obtain⟨t,q1,q2,q3⟩:=put deep 10 (j+2) d1 (by omega) (by omega) (by omega) hs
      exact⟨.inl t,ai (eD hx) (af nT (bz (af n92 (ax n13 (ai (by show cq ⟨_,b,az ((j:Int)+1),_⟩ c=_;rw[hw];exact hline) (af nT rfl)))) q1)),q2,q3⟩
     ·rw[if_neg hd]at hs hline
      obtain⟨t,q1,q2,q3⟩:=put deep 10 (j+1) d1 (by omega) (by omega) (by omega) hs
      exact⟨.inl t,ai (eD hx) (af nT (bz (af n92 (ax n13 (ai (by show cq ⟨_,b,az ((j:Int)+1),_⟩ c=_;rw[hw];exact hline) (af nT rfl)))) q1)),q2,q3⟩
   ·rw[if_neg n13]at hs
    by_cases n40:((c.toNat:Int)==40)=true
    ·rw[if_pos n40]at hs
     have wd:az (deep+1)=deep+1:=aM (by omega) (by omega)
     obtain⟨t,q1,q2,q3⟩:=put (deep+1) c (j+1) (by omega) (by omega) (by omega) (by omega) hs
     rw[←hw,←wd]at q1
     exact⟨.inl t,ai (eD hx) (af nT (bz (af n92 (af n13 (ax n40 rfl))) q1)),q2,q3⟩
    ·rw[if_neg n40]at hs
     by_cases n41:((c.toNat:Int)==41)=true
     ·rw[if_pos n41]at hs
      have wd:az (deep -1)=deep -1:=aM (by omega) (by omega)
      by_cases h0:(deep -1==0)=true
      ·rw[if_pos h0]at hs
       refine⟨_,ai (eD hx) (af nT (bz (af n92 (af n13 (af n40 (ax n41 rfl)))) (ax (by rw[wd];exact h0) (ai (RO (by omega)) rfl)))),?_⟩
       show LV T _
       rw[←hs]
       exact⟨rfl,rfl,hw⟩
      ·rw[if_neg h0]at hs
       obtain⟨t,q1,q2,q3⟩:=put (deep -1) c (j+1) (by simp at h0;omega) (by omega) (by omega) (by omega) hs
       rw[←hw,←wd]at q1
       exact⟨.inl t,ai (eD hx) (af nT (bz (af n92 (af n13 (af n40 (ax n41 rfl)))) q1)),q2,q3⟩
     ·rw[if_neg n41]at hs
      obtain⟨t,q1,q2,q3⟩:=put deep c (j+1) d1 (by omega) (by omega) (by omega) hs
      rw[←hw]at q1
      exact⟨.inl t,ai (eD hx) (af nT (bz (af n92 (af n13 (af n40 (af n41 rfl)))) q1)),q2,q3⟩
end
end Go.AB
end
section
set_option linter.unusedSimpArgs false
namespace Go.AB
open Go
section
variable{b:List UInt8}{last:Bool}
def reR(r:(List UInt8×Nat)⊕Int)(x:UInt8×Int×Bool×Int):Prop:=match r with
 |.inr e=>x.2.2.2=e
 |.inl r=>x.2.2.2=0∧x.2.1=(r.2:Int)∧((x.2.2.1=true∧r.1=[x.1])∨(x.2.2.1=false∧r.1=[]))
theorem Po(c:UInt8)(hc:48≤(c.toNat:Int)∧(c.toNat:Int)≤55)(j:Nat)(hx:b[j]? =some c):rf b 3 0 j=rf b 2 ((c.toNat:Int) -48) (j+1):=by
 rw[rf,hx]
 simp only
 rw[if_neg (by simp;omega)]
 congr 1
 omega
theorem PZ(hb:b.length<1048576)(j:Nat)(hj:j≤b.length):∃x,ee b (j:Int) last=some x∧reR (Om b last j) x:=by
 unfold ee Om
 cases hx:b[j]? with
 |none=>
  have:=dy hx
  exact⟨_,ax (by simp;omega) (ai (Tu last) rfl),rfl⟩
 |some c=>
  obtain⟨hl,hi⟩:=bc hx
  have hw:=iX (n:=j) (by omega)
  simp only
  have ng:¬(decide ((j:Int)≥(b.length:Int)))=true:=by simp;omega
  have np:0≤(j:Int)∧(j:Int)<b.length:=by omega
  rw[if_neg ng,BB np,hi]
  by_cases n1:((c.toNat:Int)==110)=true
  ·rw[if_pos n1,if_pos n1];exact⟨_,rfl,rfl,hw,.inl ⟨rfl,rfl⟩⟩
  rw[if_neg n1,if_neg n1]
  by_cases n2:((c.toNat:Int)==114)=true
  ·rw[if_pos n2,if_pos n2];exact⟨_,rfl,rfl,hw,.inl ⟨rfl,rfl⟩⟩
  rw[if_neg n2,if_neg n2]
  by_cases n3:((c.toNat:Int)==116)=true
  ·rw[if_pos n3,if_pos n3];exact⟨_,rfl,rfl,hw,.inl ⟨rfl,rfl⟩⟩
  rw[if_neg n3,if_neg n3]
  by_cases n4:((c.toNat:Int)==98)=true
  ·rw[if_pos n4,if_pos n4];exact⟨_,rfl,rfl,hw,.inl ⟨rfl,rfl⟩⟩
  rw[if_neg n4,if_neg n4]
  by_cases n5:((c.toNat:Int)==102)=true
  ·rw[if_pos n5,if_pos n5];exact⟨_,rfl,rfl,hw,.inl ⟨rfl,rfl⟩⟩
  rw[if_neg n5,if_neg n5]
  by_cases n10:((c.toNat:Int)==10)=true
  ·rw[if_pos n10,if_pos n10];exact⟨_,rfl,rfl,hw,.inr ⟨rfl,rfl⟩⟩
  rw[if_neg n10,if_neg n10]
  by_cases n13:((c.toNat:Int)==13)=true
  ·rw[if_pos n13,if_pos n13,hw]
   have w2:az ((j:Int)+2)=((j+2:Nat):Int):=by rw[aM (by omega) (by omega)];rfl
   rw[w2]
   cases hy:b[j+1]? with
   |none=>
    have:=dy hy
    cases last with
    |false=>exact⟨_,ax (by simp;omega) rfl,rfl⟩
    |true=>exact⟨_,af (by simp) (ah (by simp;omega) (af (by simp;omega) rfl)),rfl,rfl,.inr ⟨rfl,rfl⟩⟩
   |some d=>
    obtain⟨hl2,hi2⟩:=bc hy
    have hd1:decide (((j+1:Nat):Int)<(b.length:Int))=true:=by simp;omega
    have hd2:decide (((j+1:Nat):Int)≥(b.length:Int))=false:=by simp;omega
    simp only[hi2,hd1,hd2,Bool.false_and,Bool.true_and]
    by_cases hd:((d.toNat:Int)==10)=true
    ·rw[if_pos hd,if_pos hd]
     exact⟨_,af nF (ah (by omega) rfl),rfl,rfl,.inr ⟨rfl,rfl⟩⟩
    ·rw[if_neg hd,if_neg hd]
     exact⟨_,af nF (ah (by omega) rfl),rfl,rfl,.inr ⟨rfl,rfl⟩⟩
  rw[if_neg n13,if_neg n13]
  by_cases no:((decide ((c.toNat:Int)<48))||(decide ((c.toNat:Int)>55)))=true
  ·rw[if_pos no,if_pos no];exact⟨_,rfl,rfl,hw,.inl ⟨rfl,rfl⟩⟩
  rw[if_neg no,if_neg no]
  have hc:48≤(c.toNat:Int)∧(c.toNat:Int)≤55:=by simp at no;omega
  have h3:=Po c hc j hx
  rw[←h3]
  have hle:=Fp (b:=b) 3 0 j hj
  generalize hT:rf b 3 0 j=T at hle
  have hpos:j<T.2.1:=by
   rw[h3]at hT
   have:=Fp (b:=b) 2 ((c.toNat:Int) -48) (j+1) (by omega)
   rw[hT]at this;omega
  refine QP (fun(z:Int×Int)=>z=(T.1,((T.2.1 -j:Nat):Int))∧0≤T.1∧T.1≤511) (gn (fun(s:Int×Int)=>∃(i k:Nat),s.2=((3 -k:Nat):Int)∧k≤3∧i=j+(3 -k)∧i≤b.length∧0≤s.1∧s.1<8^(3 -k)∧rf b k s.1 i=T) (fun s=>(3 -s.2).toNat) _
   ⟨j,3,rfl,Nat.le_refl _,rfl,hj,Int.le_refl _,by show(0:Int)<8^0;decide,hT⟩ (by show(3 -(0:Int)).toNat<_;decide) (by
     rintro⟨n,q⟩ ⟨i,k,eq,hk,ei,hib,n0,n2,hs⟩
     have eq:q=((3 -k:Nat):Int):=eq
     subst eq
     have n0:0≤n:=n0
     have n2:n<8^(3 -k):=n2
     have hs:rf b k n i=T:=hs
     have hb8:n≤511:=by
      rcases(show k=0∨k=1∨k=2∨k=3 by omega)with rfl|rfl|rfl|rfl
      ·have:n<512:=n2;omega
      ·have:n<64:=n2;omega
      ·have:n<8:=n2;omega
      ·have:n<1:=n2;omega
     have wi:az ((j:Int)+((3 -k:Nat):Int))=(i:Int):=by rw[aM (by omega) (by omega)];omega
     simp only[wi]
     cases k with
     |zero=>
      rw[rf]at hs
      have d3:decide (((3 -0:Nat):Int)<3)=false:=by decide
      subst hs
      refine⟨_,ah (by rw[d3];simp) (ah (by rw[d3];simp) (af (by rw[d3];simp) rfl)),?_,n0,hb8⟩
      show(n,_)=(n,_)
      congr 1
      show((3:Nat):Int)=((i -j:Nat):Int)
      omega
     |succ k=>
      rw[rf]at hs
      have d3:decide (((3 -(k+1):Nat):Int)<3)=true:=by simp;omega
      cases hy:b[i]? with
      |none=>
       have hl2:=dy hy
       rw[hy]at hs
       have dl:decide ((i:Int)<(b.length:Int))=false:=by simp;omega
       subst hs
       refine⟨_,ah (by rw[dl];simp) (ah (by rw[dl];simp) (af (by rw[dl];simp) rfl)),?_,n0,hb8⟩
       show(n,_)=(n,_)
       congr 1
       show _=((i -j:Nat):Int)
       omega
      |some d=>
       obtain⟨hl2,hi2⟩:=bc hy
       rw[hy]at hs
       simp only at hs
       have dl:decide ((i:Int)<(b.length:Int))=true:=by simp;omega
       simp only[hi2,d3,dl,Bool.true_and]
       by_cases hd:((decide ((d.toNat:Int)<48))||(decide ((d.toNat:Int)>55)))=true
       ·rw[if_pos hd]at hs
        subst hs
        refine⟨_,ah (by omega) (ah (by omega) (af (by simp at hd⊢;omega) rfl)),?_,n0,hb8⟩
        show(n,_)=(n,_)
        congr 1
        show _=((i -j:Nat):Int)
        omega
       ·rw[if_neg hd]at hs
        have hd2:48≤(d.toNat:Int)∧(d.toNat:Int)≤55:=by simp at hd;omega
        have w8:az ((az ((az (8*n))+(az ((d.toNat:Int))))) -48)=8*n+((d.toNat:Int) -48):=by rw[aM (n:=8*n) (by omega) (by omega),aM (n:=(d.toNat:Int)) (by omega) (by omega),aM (n:=8*n+(d.toNat:Int)) (by omega) (by omega),aM (by omega) (by omega)];omega
        have wk:az (((3 -(k+1):Nat):Int)+1)=((3 -k:Nat):Int):=by rw[aM (by omega) (by omega)];omega
        refine⟨_,ah (by omega) (ah (by omega) (ax (by simp;omega) (ah (by omega) rfl))),⟨i+1,k,wk,by omega,by omega,by omega,by show 0≤az _;rw[w8];omega,?_,by show rf b k (az _) (i+1)=T;rw[w8];exact hs⟩,?_⟩
        ·show az _<_
         rw[w8]
         rcases(show k=0∨k=1∨k=2 by omega)with rfl|rfl|rfl
         ·have:n<64:=n2;show _<(512:Int);omega
         ·have:n<8:=n2;show _<(64:Int);omega
         ·have:n<1:=n2;show _<(8:Int);omega
        ·show(3 -az _).toNat<(3 -((3 -(k+1):Nat):Int)).toNat
         rw[wk];omega)) ?_
  rintro z ⟨rfl,t0,t1⟩
  have wt:az ((j:Int)+((T.2.1 -j:Nat):Int))=(T.2.1:Int):=by rw[aM (by omega) (by omega)];omega
  have um:nh (Int.tmod T.1 256)=nh T.1:=by
   have:((List.range 512).all fun n=>decide (nh (Int.tmod (n:Int) 256)=nh (n:Int)))=true:=by kernel_rfl
   have:=of_decide_eq_true (List.all_eq_true.1 this T.1.toNat (List.mem_range.2 (by omega)))
   rwa[Int.toNat_of_nonneg t0]at this
  simp only[wt]
  by_cases he:(T.2.2&&!last)=true
  ·rw[if_pos he]
   rw[Bool.and_eq_true]at he
   have:=hle.2.2.2 he.1
   exact⟨_,ax (by rw[he.2];simp;omega) rfl,rfl⟩
  ·rw[if_neg he]
   refine⟨_,af ?_ rfl,rfl,rfl,.inl ⟨rfl,by rw[um]⟩⟩
   intro h
   rw[Bool.and_eq_true,Bool.and_eq_true]at h
   apply he
   rw[h.2,Bool.and_true]
   have hlen:T.2.1=b.length:=by have:=h.1.2;simp at this;omega
   have hk3:T.2.1<j+3:=by have:=h.1.1;simp at this;omega
   have end_of:∀(k:Nat)(n:Int)(i:Nat),i≤b.length→(rf b k n i).2.1=b.length→(rf b k n i).2.1<i+k→(rf b k n i).2.2=true:=by
    intro k
    induction k with
    |zero=>intro n i _ _ h;rw[rf]at h;exact absurd h (by show¬i<i+0;omega)
    |succ k ih=>
     intro n i hi2 h1 h2
     rw[rf]at h1 h2⊢
     cases hy:b[i]? with
     |none=>rfl
     |some d=>
      have hl2:=(bc hy).1
      rw[hy]at h1 h2
      simp only at h1 h2⊢
      split at h1
      ·have h1:i=b.length:=h1;omega
      ·rename_i hd
       rw[if_neg hd]at h2⊢
       exact ih _ _ (by omega) h1 (by omega)
   have:=end_of 3 0 j hj (by rw[hT];exact hlen) (by rw[hT];exact hk3)
   rw[hT]at this
   exact this
theorem Xg(hb:b.length<1048576)(k:Nat)(hk:k≤b.length):∃x,fU b (k:Int) last=some x∧Rs (yp b last (b.length+1) 1 [] k) x:=by
 have hroom:room=140737488355328:=rfl
 generalize hT:yp b last (b.length+1) 1 [] k=T
 unfold fU
 refine uP (fun z=>(z=.inl ()∧T=.inr (n9 last))∨∃x,z=.inr x∧Rs T x) (pL (fun z=>(z=.inl ()∧T=.inr (n9 last))∨∃x,z=.inr x∧Rs T x) (gn (fun(s:Int×List UInt8×Int)=>∃(j f:Nat),s.1=(j:Int)∧j≤b.length∧b.length -j+1≤f∧s.2.1.length≤j∧1≤s.2.2∧s.2.2≤(j:Int)+1∧yp b last f s.2.2 s.2.1 j=T) (fun s=>b.length -s.1.toNat) _
  ⟨k,b.length+1,rfl,hk,by omega,Nat.zero_le _,by show(1:Int)≤1;decide,by show(1:Int)≤(k:Int)+1;omega,hT⟩ (by show b.length -_<_;omega) ?_) ?_) ?_
 ·rintro⟨a,o,deep⟩ ⟨j,f,e,hj,hf,ho,d1,d2,hs⟩
  have e:a=(j:Int):=e
  subst e
  have ho:o.length≤j:=ho
  have d1:1≤deep:=d1
  have d2:deep≤(j:Int)+1:=d2
  have hs:yp b last f deep o j=T:=hs
  obtain⟨f,rfl⟩:∃g,f=g+1:=⟨f -1,by omega⟩
  rw[yp]at hs
  cases hx:b[j]? with
  |none=>
   have:=dy hx
   rw[hx]at hs
   exact⟨_,af (by simp;omega) rfl,.inl ⟨rfl,hs.symm⟩⟩
  |some c=>
   obtain⟨hl,hi⟩:=bc hx
   rw[hx]at hs
   simp only at hs
   have hw:=iX (n:=j) (by omega)
   have gd:(decide ((j:Int)<(b.length:Int)))=true:=by simp;omega
   have np:0≤(j:Int)∧(j:Int)<b.length:=by omega
   have meas:∀j':Nat,j<j'→b.length -((j':Nat):Int).toNat<b.length -(j:Int).toNat:=fun j' h=>by omega
   simp only[hi]
   by_cases n92:((c.toNat:Int)==92)=true
   ·rw[if_pos n92]at hs
    obtain⟨x,x1,x2⟩:=PZ (last:=last) hb (j+1) (by omega)
    have hp:=EO (b:=b) (last:=last) (j+1) (by omega)
    rw[←hw]at x1
    cases hes:Om b last (j+1)with
    |inr e=>
     rw[hes]at hs x2 hp
     simp only at hs
     have x2:x.2.2.2=e:=x2
     have hp:e=n9 last:=hp
     refine⟨_,ax gd (ah np (bz (ax n92 (ai x1 (ax (by rw[x2,hp];cases last<;>rfl) rfl))) rfl)),.inr ⟨_,rfl,?_⟩⟩
     rw[←hs]
     exact x2
    |inl r=>
     rw[hes]at hs x2 hp
     simp only at hs
     obtain⟨y1,y2,y3⟩:=x2
     obtain⟨p1,p2,p3⟩:=hp
     rcases y3 with⟨y3,y4⟩|⟨y3,y4⟩
     ·refine⟨_,ax gd (ah np (bz (ax n92 (ai x1 (af (by rw[y1];decide) (gI (ax y3 (ah (by simp;omega) rfl)) rfl)))) rfl)),⟨r.2,f,y2,p2,by omega,by show(o++_).length≤r.2;simp;omega,d1,by show deep≤_;omega,by show yp b last f deep (o++[x.1]) r.2=T;rw[←y4];exact hs⟩,?_⟩
      show b.length -(x.2.1).toNat<_
      rw[y2];exact meas r.2 (by omega)
     ·refine⟨_,ax gd (ah np (bz (ax n92 (ai x1 (af (by rw[y1];decide) (gI (af (by rw[y3];decide) rfl) rfl)))) rfl)),⟨r.2,f,y2,p2,by omega,by show o.length≤r.2;omega,d1,by show deep≤_;omega,by show yp b last f deep o r.2=T;rw[y4,List.append_nil]at hs;exact hs⟩,?_⟩
      show b.length -(x.2.1).toNat<_
      rw[y2];exact meas r.2 (by omega)
   ·rw[if_neg n92]at hs
    have fin0:∀(a:Nat)(d:Int)(c:UInt8),1≤d→¬(d==0)=true:=fun a d c h=>by simp;omega
    by_cases n13:((c.toNat:Int)==13)=true
    ·rw[if_pos n13]at hs
     simp only[hw]
     cases hy:b[j+1]? with
     |none=>
      have hl2:=dy hy
      rw[hy]at hs
      cases last with
      |false=>exact⟨_,ax gd (ah np (bz (af n92 (ax n13 (ax (by simp;omega) rfl))) rfl)),.inr ⟨_,rfl,by rw[←hs];exact rfl⟩⟩
      |true=>
       refine⟨_,ax gd (ah np (bz (af n92 (ax n13 (af (by simp) (gI (ah (by simp;omega) (af (by simp;omega) rfl)) rfl)))) (af (fin0 0 _ c d1) (ah (by simp;omega) rfl)))),⟨j+1,f,hw,by omega,by omega,by show(o++_).length≤_;simp;omega,d1,by show deep≤_;omega,hs⟩,?_⟩
       show b.length -(az _).toNat<_
       rw[hw];exact meas _ (by omega)
     |some d=>
      obtain⟨hl2,hi2⟩:=bc hy
      rw[hy]at hs
      simp only at hs
      simp only[hi2]
      by_cases hd:((d.toNat:Int)==10)=true
      ·rw[if_pos hd]at hs
       have w2:az (((j+1:Nat):Int)+1)=((j+2:Nat):Int):=iX (by omega)
       refine⟨_,ax gd (ah np (bz (af n92 (ax n13 (af (by simp;omega) (gI (ah (by omega) (ax (by rw[hd];simp;omega) rfl)) rfl)))) (af (fin0 0 _ c d1) (ah (by simp;omega) rfl)))),⟨j+2,f,w2,by omega,by omega,by show(o++_).length≤_;simp;omega,d1,by show deep≤_;omega,hs⟩,?_⟩
       show b.length -(az _).toNat<_
       rw[w2];exact meas _ (by omega)
      ·rw[if_neg hd]at hs
       refine⟨_,ax gd (ah np (bz (af n92 (ax n13 (af (by simp;omega) (gI (ah (by omega) (af (by simp at hd⊢;intro _;exact hd) rfl)) rfl)))) (af (fin0 0 _ c d1) (ah (by simp;omega) rfl)))),⟨j+1,f,hw,by omega,by omega,by show(o++_).length≤_;simp;omega,d1,by show deep≤_;omega,hs⟩,?_⟩
       show b.length -(az _).toNat<_
       rw[hw];exact meas _ (by omega)
    ·rw[if_neg n13]at hs
     by_cases n40:((c.toNat:Int)==40)=true
     ·rw[if_pos n40]at hs
      have wd:az (deep+1)=deep+1:=aM (by omega) (by omega)
      refine⟨_,ax gd (ah np (bz (af n92 (af n13 (ax n40 rfl))) (af (by show¬(az (deep+1)==0)=true;rw[wd];exact fin0 0 _ c (by omega)) (ah (by simp;omega) rfl)))),⟨j+1,f,hw,by omega,by omega,by show(o++_).length≤_;simp;omega,by show 1≤az _;rw[wd];omega,by show az _≤_;rw[wd];omega,by show yp b last f (az _) (o++[c]) (j+1)=T;rw[wd];exact hs⟩,?_⟩
      show b.length -(az _).toNat<_
      rw[hw];exact meas _ (by omega)
     ·rw[if_neg n40]at hs
      by_cases n41:((c.toNat:Int)==41)=true
      ·rw[if_pos n41]at hs
       have wd:az (deep -1)=deep -1:=aM (by omega) (by omega)
       by_cases h0:(deep -1==0)=true
       ·rw[if_pos h0]at hs
        refine⟨_,ax gd (ah np (bz (af n92 (af n13 (af n40 (ax n41 rfl)))) (ax (by show(az (deep -1)==0)=true;rw[wd];exact h0) rfl))),.inr ⟨_,rfl,?_⟩⟩
        rw[←hs]
        show(o,az ((j:Int)+1),(0:Int))=_
        rw[hw]
       ·rw[if_neg h0]at hs
        refine⟨_,ax gd (ah np (bz (af n92 (af n13 (af n40 (ax n41 rfl)))) (af (by show¬(az (deep -1)==0)=true;rw[wd];exact h0) (ah (by simp;omega) rfl)))),⟨j+1,f,hw,by omega,by omega,by show(o++_).length≤_;simp;omega,by show 1≤az _;rw[wd];simp at h0;omega,by show az _≤_;rw[wd];omega,by show yp b last f (az _) (o++[c]) (j+1)=T;rw[wd];exact hs⟩,?_⟩
        show b.length -(az _).toNat<_
        rw[hw];exact meas _ (by omega)
      ·rw[if_neg n41]at hs
       refine⟨_,ax gd (ah np (bz (af n92 (af n13 (af n40 (af n41 rfl)))) (af (fin0 0 _ c d1) (ah (by simp;omega) rfl)))),⟨j+1,f,hw,by omega,by omega,by show(o++_).length≤_;simp;omega,d1,by show deep≤_;omega,hs⟩,?_⟩
       show b.length -(az _).toNat<_
       rw[hw];exact meas _ (by omega)
 ·rintro z (⟨rfl,h⟩|⟨x,rfl,hx⟩)
  ·exact⟨_,rfl,.inl ⟨rfl,h⟩⟩
  ·exact⟨_,rfl,.inr ⟨x,rfl,hx⟩⟩
 ·rintro z (⟨rfl,rfl⟩|⟨x,rfl,hx⟩)
  ·exact⟨_,ai (Tu last) rfl,rfl⟩
  ·exact⟨x,rfl,hx⟩
end
end Go.AB
end
section
set_option linter.unusedSimpArgs false
namespace Go.AB
open Go
section
variable(w:List UInt8)
def M8:Nat→List UInt8→Nat→List UInt8⊕Int
 |0,out,_=>.inl out
 |f+1,out,i=>match w[i]? with
  |none=>.inl out
  |some c=>if(c.toNat:Int)==35 then(match w[i+2]? with
    |none=>.inr 17
    |some y=>match w[i+1]? with
     |none=>.inr 17
     |some x=>if decide (xj x<0)||decide (xj y<0)then .inr 17 else M8 f (out++[nh (az (az (16*xj x)+xj y))]) (i+3))
   else M8 f (out++[c]) (i+1)
def Wx(o:List UInt8):aa×Int:=if decide ((o.length:Int)>127)||decide (Lib.indexByte o 0≥0)then(⟨0,0,⟨[]⟩,[]⟩,17)else(⟨5,0,⟨o⟩,[]⟩,0)
def Q1:aa×Int:=match M8 w (w.length+1) [] 0 with
 |.inr e=>(⟨0,0,⟨[]⟩,[]⟩,e)
 |.inl o=>Wx o
variable{w}
theorem Wh(hb:w.length<1048576):hG ⟨w⟩=some (Q1 w):=by
 have hroom:room=140737488355328:=rfl
 have key:∃x,hG ⟨w⟩=some x∧x=Q1 w:=by
  unfold hG
  unfold Q1
  generalize hT:M8 w (w.length+1) [] 0=T
  refine uP (fun z=>z=T) (pL (fun z=>z=T) (gn (fun(s:List UInt8×Int)=>∃(j f:Nat),s.2=(j:Int)∧j≤w.length∧w.length -j+1≤f∧s.1.length≤j∧M8 w f s.1 j=T) (fun s=>w.length -s.2.toNat) _
   ⟨0,w.length+1,rfl,Nat.zero_le _,by omega,Nat.zero_le _,hT⟩ (by show w.length -_<_;omega) ?_) ?_) ?_
  ·rintro⟨o,a⟩ ⟨j,f,e,hj,hf,ho,hs⟩
   have e:a=(j:Int):=e
   subst e
   have ho:o.length≤j:=ho
   have hs:M8 w f o j=T:=hs
   obtain⟨f,rfl⟩:∃g,f=g+1:=⟨f -1,by omega⟩
   rw[M8]at hs
   cases hx:w[j]? with
   |none=>
    have:=dy hx
    rw[hx]at hs
    exact⟨_,af (by simp;omega) rfl,hs⟩
   |some c=>
    obtain⟨hl,hi⟩:=bc hx
    rw[hx]at hs
    simp only at hs
    have w1:az ((j:Int)+1)=((j+1:Nat):Int):=iX (by omega)
    have w2:az ((j:Int)+2)=((j+2:Nat):Int):=by rw[aM (by omega) (by omega)];rfl
    have w3:az (((j+2:Nat):Int)+1)=((j+3:Nat):Int):=iX (by omega)
    have gd:(decide ((j:Int)<(w.length:Int)))=true:=by simp;omega
    have np:0≤(j:Int)∧(j:Int)<w.length:=by omega
    simp only[hi,w1,w2]
    by_cases n35:((c.toNat:Int)==35)=true
    ·rw[if_pos n35]at hs
     cases hy:w[j+2]? with
     |none=>
      have hl2:=dy hy
      rw[hy]at hs
      have dg:decide (((j+2:Nat):Int)≥(w.length:Int))=true:=by simp;omega
      refine⟨_,ax gd (ah np (bz (ax n35 (ah (by rw[dg];simp) (ai (LO (by rw[dg];rfl)) (ah (by rw[dg];simp) (ai (LO (by rw[dg];rfl)) (ax (by rw[dg];rfl) rfl)))))) rfl)),hs⟩
     |some y=>
      obtain⟨hl2,hi2⟩:=bc hy
      rw[hy]at hs
      obtain⟨x,hz⟩:∃x,w[j+1]? =some x:=⟨w[j+1],List.getElem?_eq_getElem (by omega)⟩
      obtain⟨hl3,hi3⟩:=bc hz
      rw[hz]at hs
      simp only at hs
      have dg:decide (((j+2:Nat):Int)≥(w.length:Int))=false:=by simp;omega
      simp only[hi2,hi3,dg,Bool.false_or,Bool.not_false]
      by_cases hxn:xj x<0
      ·rw[if_pos (by simp;exact .inl hxn)]at hs
       exact⟨_,ax gd (ah np (bz (ax n35 (ah (by omega) (ai (xS x) (ah (by omega) (ai (LO (by simpa using hxn)) (ax (by simp;omega) rfl)))))) rfl)),hs⟩
      ·have dx:decide (xj x<0)=false:=by simpa using hxn
       by_cases hyn:xj y<0
       ·rw[if_pos (by simp;exact .inr hyn)]at hs
        exact⟨_,ax gd (ah np (bz (ax n35 (ah (by omega) (ai (xS x) (ah (by omega) (ai (by rw[dx];exact xS y) (ax (by simp;exact .inr hyn) rfl)))))) rfl)),hs⟩
       ·rw[if_neg (by simp;omega)]at hs
        refine⟨_,ax gd (ah np (bz (ax n35 (ah (by omega) (ai (xS x) (ah (by omega) (ai (by rw[dx];exact xS y) (af (by simp;omega) (ah (by omega) (ai (xS x) (ah (by omega) (ai (xS y) rfl)))))))))) (ah (by simp;omega) rfl))),⟨j+3,f,w3,by omega,by omega,by show(o++_).length≤_;simp;omega,hs⟩,?_⟩
        show w.length -(az _).toNat<w.length -(j:Int).toNat
        rw[w3];omega
    ·rw[if_neg n35]at hs
     refine⟨_,ax gd (ah np (bz (af n35 rfl) (ah (by simp;omega) rfl))),⟨j+1,f,w1,by omega,by omega,by show(o++_).length≤_;simp;omega,hs⟩,?_⟩
     show w.length -(az _).toNat<w.length -(j:Int).toNat
     rw[w1];omega
  ·rintro z rfl
   cases z with
   |inl o=>exact⟨_,rfl,rfl⟩
   |inr e=>exact⟨_,rfl,rfl⟩
  ·rintro z rfl
   cases z with
   |inr e=>exact⟨_,rfl,rfl⟩
   |inl o=>
    show∃x,(cj (fy (!(decide ((o.length:Int)>127))) 0 (dA o 0)) fun r22=>_)=some x∧x=Wx o
    unfold Wx
    cases hd:decide ((o.length:Int)>127)with
    |true=>exact⟨_,ai (LO rfl) (ax rfl rfl),by rw[Bool.true_or,if_pos rfl]⟩
    |false=>
     rw[Bool.not_false,Bool.false_or]
     by_cases h:(decide (Lib.indexByte o 0≥0))=true
     ·exact⟨_,ai (show fy true 0 (dA o 0)=some _ from rfl) (ax h rfl),by rw[if_pos h]⟩
     ·exact⟨_,ai (show fy true 0 (dA o 0)=some _ from rfl) (af h rfl),by rw[if_neg h]⟩
 obtain⟨x,h1,rfl⟩:=key
 exact h1
theorem VZ:∀(l:List UInt8),(decide (Lib.indexByte l 0≥0))=l.any fun c=>(c.toNat:Int)==0
 |[]=>rfl
 |c::l=>by
  have e:(c==0)=((c.toNat:Int)==0):=of_decide_eq_true (iQ (fun c=>decide ((c==0)=((c.toNat:Int)==0))) (by kernel_rfl) c)
  have hge:=Lib.indexByte_ge l 0
  rw[Lib.indexByte,List.any_cons,←VZ l,e]
  cases h:((c.toNat:Int)==0)with
  |true=>rfl
  |false=>
   rw[if_neg nF,Bool.false_or]
   by_cases h1:Lib.indexByte l 0=-1
   ·rw[if_pos (by rw[h1];rfl),h1]
   ·rw[if_neg (by simpa using h1)]
    simp;omega
theorem Xe(hb:w.length<1048576):fo w=some (Q1 w):=by
 have hroom:room=140737488355328:=rfl
 have key:∃x,fo w=some x∧x=Q1 w:=by
  unfold fo
  unfold Q1
  generalize hT:M8 w (w.length+1) [] 0=T
  refine uP (fun z=>z=T∧∀o,z=.inl o→o.length≤w.length) (pL (fun z=>z=T∧∀o,z=.inl o→o.length≤w.length) (gn (fun(s:List UInt8×Int)=>∃(j f:Nat),s.2=(j:Int)∧j≤w.length∧w.length -j+1≤f∧s.1.length≤j∧M8 w f s.1 j=T) (fun s=>w.length -s.2.toNat) _
   ⟨0,w.length+1,rfl,Nat.zero_le _,by omega,Nat.zero_le _,hT⟩ (by show w.length -_<_;omega) ?_) ?_) ?_
  ·rintro⟨o,a⟩ ⟨j,f,e,hj,hf,ho,hs⟩
   have e:a=(j:Int):=e
   subst e
   have ho:o.length≤j:=ho
   have hs:M8 w f o j=T:=hs
   obtain⟨f,rfl⟩:∃g,f=g+1:=⟨f -1,by omega⟩
   rw[M8]at hs
   cases hx:w[j]? with
   |none=>
    have:=dy hx
    rw[hx]at hs
    refine⟨_,af (by simp;omega) rfl,hs,fun o' h=>?_⟩
    injection h with h
    subst h
    omega
   |some c=>
    obtain⟨hl,hi⟩:=bc hx
    rw[hx]at hs
    simp only at hs
    have w1:az ((j:Int)+1)=((j+1:Nat):Int):=iX (by omega)
    have w2:az ((j:Int)+2)=((j+2:Nat):Int):=by rw[aM (by omega) (by omega)];rfl
    have w3:az (((j+2:Nat):Int)+1)=((j+3:Nat):Int):=iX (by omega)
    have gd:(decide ((j:Int)<(w.length:Int)))=true:=by simp;omega
    have np:0≤(j:Int)∧(j:Int)<w.length:=by omega
    simp only[hi,w1,w2]
    by_cases n35:((c.toNat:Int)==35)=true
    ·rw[if_pos n35]at hs
     have m35:¬((c.toNat:Int)!=35)=true:=by simpa using n35
     have no17:∀o:List UInt8,(Sum.inr (17:Int):List UInt8⊕Int)=.inl o→o.length≤w.length:=fun o h=>by cases h
     cases hy:w[j+2]? with
     |none=>
      have hl2:=dy hy
      rw[hy]at hs
      have dg:decide (((j+2:Nat):Int)≥(w.length:Int))=true:=by simp;omega
      refine⟨_,ax gd (bz (ah np (af m35 (ah (by rw[dg];simp) (ai (LO (by rw[dg];rfl)) (ah (by rw[dg];simp) (ai (LO (by rw[dg];rfl)) (ax (by rw[dg];rfl) rfl))))))) rfl),hs,no17⟩
     |some y=>
      obtain⟨hl2,hi2⟩:=bc hy
      rw[hy]at hs
      obtain⟨x,hz⟩:∃x,w[j+1]? =some x:=⟨w[j+1],List.getElem?_eq_getElem (by omega)⟩
      obtain⟨hl3,hi3⟩:=bc hz
      rw[hz]at hs
      simp only at hs
      have dg:decide (((j+2:Nat):Int)≥(w.length:Int))=false:=by simp;omega
      simp only[hi2,hi3,dg,Bool.false_or,Bool.not_false]
      by_cases hxn:xj x<0
      ·rw[if_pos (by simp;exact .inl hxn)]at hs
       exact⟨_,ax gd (bz (ah np (af m35 (ah (by omega) (ai (Db x) (ah (by omega) (ai (LO (by simpa using hxn)) (ax (by simp;omega) rfl))))))) rfl),hs,no17⟩
      ·have dx:decide (xj x<0)=false:=by simpa using hxn
       by_cases hyn:xj y<0
       ·rw[if_pos (by simp;exact .inr hyn)]at hs
        exact⟨_,ax gd (bz (ah np (af m35 (ah (by omega) (ai (Db x) (ah (by omega) (ai (by rw[dx];exact Db y) (ax (by simp;exact .inr hyn) rfl))))))) rfl),hs,no17⟩
       ·rw[if_neg (by simp;omega)]at hs
        refine⟨_,ax gd (bz (ah np (af m35 (ah (by omega) (ai (Db x) (ah (by omega) (ai (by rw[dx];exact Db y) (af (by simp;omega) (ah (by omega) (ai (Db x) (ah (by omega) (ai (Db y) (ah (by simp;omega) rfl)))))))))))) rfl),⟨j+3,f,w3,by omega,by omega,by show(o++_).length≤_;simp;omega,hs⟩,?_⟩
        show w.length -(az _).toNat<w.length -(j:Int).toNat
        rw[w3];omega
    ·rw[if_neg n35]at hs
     refine⟨_,ax gd (bz (ah np (ax (by simpa using n35) (ah np (ah (by simp;omega) rfl)))) rfl),⟨j+1,f,w1,by omega,by omega,by show(o++_).length≤_;simp;omega,hs⟩,?_⟩
     show w.length -(az _).toNat<w.length -(j:Int).toNat
     rw[w1];omega
  ·rintro z ⟨rfl,h⟩
   cases z with
   |inl o=>exact⟨_,rfl,rfl,h⟩
   |inr e=>exact⟨_,rfl,rfl,h⟩
  ·rintro z ⟨rfl,h⟩
   cases z with
   |inr e=>exact⟨_,rfl,rfl⟩
   |inl o=>
    have ho:=h o rfl
    show∃x,(xR _ _ _)=some x∧x=Wx o
    unfold Wx
    rw[VZ]
    have any_at:∀j,(o.drop j).any (fun c=>(c.toNat:Int)==0)=(match o[j]? with|none=>false|some c=>((c.toNat:Int)==0)||(o.drop (j+1)).any fun c=>(c.toNat:Int)==0):=fun j=>by
     cases hj:o[j]? with
     |none=>rw[List.drop_eq_nil_of_le (dy hj)];rfl
     |some c=>
      obtain⟨hl,hc⟩:=List.getElem?_eq_some_iff.1 hj
      rw[List.drop_eq_getElem_cons hl,hc];rfl
    refine uP (fun z=>if(o.any fun c=>(c.toNat:Int)==0)=true then z=.inr 17 else z=.inl ()) (pL (fun z=>if(o.any fun c=>(c.toNat:Int)==0)=true then z=.inr 17 else z=.inl ()) (gn (fun(s:Int)=>∃j:Nat,s=(j:Int)∧j≤o.length∧(o.drop j).any (fun c=>(c.toNat:Int)==0)=o.any (fun c=>(c.toNat:Int)==0)) (fun s=>o.length -s.toNat) _ ⟨0,rfl,Nat.zero_le _,rfl⟩ (by show o.length -_<_;omega) ?_) ?_) ?_
    ·rintro s ⟨j,rfl,hj,hs⟩
     rw[any_at]at hs
     cases hx:o[j]? with
     |none=>
      have:=dy hx
      rw[hx]at hs
      refine⟨_,af (by simp;omega) rfl,?_⟩
      show if _ then _ else _
      rw[←hs,if_neg nF]
     |some c=>
      obtain⟨hl,hi⟩:=bc hx
      rw[hx]at hs
      simp only at hs
      by_cases h0:((c.toNat:Int)==0)=true
      ·refine⟨_,ax (by simp;omega) (ah (by omega) (ax (by rw[hi];exact h0) rfl)),?_⟩
       show if _ then _ else _
       rw[←hs,h0,Bool.true_or,if_pos rfl]
      ·have e0:((c.toNat:Int)==0)=false:=by simpa using h0
       rw[e0,Bool.false_or]at hs
       have w1:az ((j:Int)+1)=((j+1:Nat):Int):=iX (by omega)
       refine⟨_,ax (by simp;omega) (ah (by omega) (af (by rw[hi];exact h0) rfl)),⟨j+1,w1,by omega,hs⟩,?_⟩
       rw[w1];omega
    ·intro z hz
     cases ha:(o.any fun c=>(c.toNat:Int)==0)with
     |true=>rw[ha,if_pos rfl]at hz;subst hz;exact⟨_,rfl,by rw[if_pos rfl]⟩
     |false=>rw[ha,if_neg nF]at hz;subst hz;exact⟨_,rfl,by rw[if_neg nF]⟩
    ·intro z hz
     cases ha:(o.any fun c=>(c.toNat:Int)==0)with
     |true=>rw[ha,if_pos rfl]at hz;subst hz;exact⟨_,rfl,by rw[Bool.or_true,if_pos rfl]⟩
     |false=>
      rw[ha,if_neg nF]at hz;subst hz
      rw[Bool.or_false]
      by_cases h1:(decide ((o.length:Int)>127))=true
      ·exact⟨_,ax h1 rfl,by rw[if_pos h1]⟩
      ·exact⟨_,af h1 rfl,by rw[if_neg h1]⟩
 obtain⟨x,h1,rfl⟩:=key
 exact h1
end
end Go.AB
end
section
set_option linter.unusedSimpArgs false
namespace Go.AB
open Go
def iR:List UInt8→List UInt8×Option (List UInt8)
 |[]=>([],none)
 |c::l=>if(c.toNat:Int)==46 then([],some l)else(c::(iR l).1,(iR l).2)
theorem Ad:∀(l:List UInt8),(match(iR l).2 with
 |none=>Lib.indexByte l 46=-1∧(iR l).1=l
 |some r=>Lib.indexByte l 46=((iR l).1.length:Int)∧l=(iR l).1++46::r)
 |[]=>⟨rfl,rfl⟩
 |c::l=>by
  have e:(c==46)=((c.toNat:Int)==46):=of_decide_eq_true (iQ (fun c=>decide ((c==46)=((c.toNat:Int)==46))) (by kernel_rfl) c)
  have ih:=Ad l
  rw[iR,Lib.indexByte,e]
  cases h:((c.toNat:Int)==46)with
  |true=>
   rw[if_pos rfl,if_pos rfl]
   obtain rfl:c=46:=yW (n:=46) (by decide) h
   exact⟨rfl,rfl⟩
  |false=>
   rw[if_neg nF,if_neg nF]
   show(match(iR l).2 with
    |none=>(if(Lib.indexByte l 46==-1)=true then -1 else Lib.indexByte l 46+1)=-1∧c::(iR l).1=c::l
    |some r=>(if(Lib.indexByte l 46==-1)=true then -1 else Lib.indexByte l 46+1)=((c::(iR l).1).length:Int)∧c::l=c::(iR l).1++46::r)
   cases h2:(iR l).2 with
   |none=>
    rw[h2]at ih
    obtain⟨i1,i2⟩:=ih
    exact⟨by rw[i1];rfl,by rw[i2]⟩
   |some r=>
    rw[h2]at ih
    obtain⟨i1,i2⟩:=ih
    refine⟨?_,?_⟩
    ·rw[i1,if_neg (by simp<;>omega),List.length_cons];omega
    ·rw[List.cons_append];congr 1
theorem Mq(l:List UInt8):(iR l).1.length+((iR l).2.getD []).length≤l.length:=by
 have:=Ad l
 cases h:(iR l).2 with
 |none=>rw[h]at this;rw[this.2];simp
 |some r=>
  rw[h]at this
  have:=congrArg List.length this.2
  rw[List.length_append,List.length_cons]at this
  simp only[Option.getD_some];omega
def me:Nat→List UInt8→Int
 |0,_=>0
 |k+1,l=>(match l with
  |[]=>0
  |c::l=>((c.toNat:Int) -48)*10^k+me k l)
theorem wU:∀(k:Nat)(l:List UInt8),l.all b4=true→0≤me k l∧me k l<10^k
 |0,_,_=>⟨Int.le_refl _,by show(0:Int)<1;decide⟩
 |k+1,[],_=>⟨Int.le_refl _,by show(0:Int)<_;exact Int.pow_pos (by decide)⟩
 |k+1,c::l,h=>by
  rw[List.all_cons,Bool.and_eq_true]at h
  have ih:=wU k l h.2
  have hd:48≤(c.toNat:Int)∧(c.toNat:Int)≤57:=by have:=h.1;unfold b4 at this;simp at this;omega
  show 0≤((c.toNat:Int) -48)*10^k+me k l∧((c.toNat:Int) -48)*10^k+me k l<_
  have hp:(0:Int)<10^k:=Int.pow_pos (by decide)
  have e:(10:Int)^(k+1)=10*10^k:=by rw[Int.pow_succ,Int.mul_comm]
  rw[e]
  have h1:0≤((c.toNat:Int) -48)*10^k:=Int.mul_nonneg (by omega) (by omega)
  have h2:((c.toNat:Int) -48)*10^k≤9*10^k:=Int.mul_le_mul_of_nonneg_right (by omega) (by omega)
  omega
theorem AS:∀(l:List UInt8)(n:Int),0≤n→l.all b4=true→l.length≤6→(n+1)*10^l.length≤1000000→jW l (n,false)=(n*10^l.length+me l.length l,0)
 |[],n,_,_,_,_=>by show(n,(0:Int))=(n*1+0,0);rw[Int.mul_one,Int.add_zero]
 |c::l,n,h0,h,hl,hb=>by
  rw[List.all_cons,Bool.and_eq_true]at h
  have hd:48≤(c.toNat:Int)∧(c.toNat:Int)≤57:=by have:=h.1;unfold b4 at this;simp at this;omega
  have hp:(0:Int)<10^l.length:=Int.pow_pos (by decide)
  have e:(10:Int)^(l.length+1)=10*10^l.length:=by rw[Int.pow_succ,Int.mul_comm]
  rw[List.length_cons,e]at hb
  have hb':(10*n+((c.toNat:Int) -48)+1)*10^l.length≤1000000:=by
   refine Int.le_trans (Int.mul_le_mul_of_nonneg_right (c:=10^l.length) (show 10*n+((c.toNat:Int) -48)+1≤(n+1)*10 by omega) (by omega)) ?_
   rw[Int.mul_assoc];exact hb
  have hn:n≤1000000:=by
   have:n+1≤(n+1)*(10*10^l.length):=by
    have:(n+1)*1≤(n+1)*(10*10^l.length):=Int.mul_le_mul_of_nonneg_left (by omega) (by omega)
    omega
   omega
  have hs:fJ (n,false) c=(10*n+((c.toNat:Int) -48),false):=by
   unfold fJ
   have:decide (n>(2147483647 -((c.toNat:Int) -48)).tdiv 10)=false:=by
    rw[decide_eq_false_iff_not,Int.tdiv_eq_ediv_of_nonneg (by omega)]
    omega
   simp[this]
  rw[jW,if_pos h.1,hs,AS l _ (by omega) h.2 (by rw[List.length_cons]at hl;omega) hb',List.length_cons,e]
  show _=(n*(10*10^l.length)+(((c.toNat:Int) -48)*10^l.length+me l.length l),(0:Int))
  congr 1
  rw[Int.add_mul,Int.mul_comm 10 n,Int.mul_assoc]
  omega
theorem Kl:∀(k:Nat)(l:List UInt8),me k ((l++List.replicate k 48).take k)=me k l
 |0,_=>rfl
 |k+1,[]=>by
  have z:∀(k m:Nat),me k (List.replicate m (48:UInt8))=0:=by
   intro k
   induction k with
   |zero=>intro m;rfl
   |succ k ih=>
    intro m
    cases m with
    |zero=>rfl
    |succ m=>
     rw[List.replicate_succ]
     show(((48:UInt8).toNat:Int) -48)*10^k+me k (List.replicate m 48)=0
     rw[ih]
     show((48:Int) -48)*10^k+0=0
     simp
  rw[List.nil_append,List.take_replicate,z];rfl
 |k+1,c::l=>by
  rw[List.cons_append,List.take_succ_cons]
  show((c.toNat:Int) -48)*10^k+me k ((l++List.replicate (k+1) 48).take k)=((c.toNat:Int) -48)*10^k+me k l
  congr 1
  rw[←Kl k l,List.replicate_succ',←List.append_assoc,List.take_append_of_le_length (by simp)]
def SX(sg:Int)(wh:List UInt8)(ro:Option (List UInt8)):aa×Int:=
 if(wh.length+(ro.getD []).length==0)||!wh.all b4||!(ro.getD []).all b4 then(⟨0,0,⟨[]⟩,[]⟩,11)
 else if(jW wh (0,false)).2 !=0 then(⟨0,0,⟨[]⟩,[]⟩,5)
 else match ro with
  |none=>(⟨2,sg*(jW wh (0,false)).1,⟨[]⟩,[]⟩,0)
  |some r=>if(jW wh (0,false)).1*1000000+me 6 r>2147483647000000 then(⟨0,0,⟨[]⟩,[]⟩,5)else(⟨3,sg*((jW wh (0,false)).1*1000000+me 6 r),⟨[]⟩,[]⟩,0)
def LW(sg:Int)(body:List UInt8):aa×Int:=SX sg (iR body).1 (iR body).2
def Lk(s:List UInt8):aa×Int:=match s with
 |[]=>LW 1 []
 |c::r=>if(c.toNat:Int)==45 then LW (-1) r else if(c.toNat:Int)==43 then LW 1 r else LW 1 (c::r)
theorem Gr:∀(l:List UInt8)(n:Int)(o:Bool),0≤n→n≤2147483647→l.all b4=true→0≤(jW l (n,o)).1∧(jW l (n,o)).1≤2147483647∧((jW l (n,o)).2=0∨(jW l (n,o)).2=5)
 |[],n,o,h0,h1,_=>by
  rw[jW]
  cases o with
  |true=>exact⟨by show(0:Int)≤0;decide,by show(0:Int)≤2147483647;decide,.inr rfl⟩
  |false=>exact⟨h0,h1,.inl rfl⟩
 |c::l,n,o,h0,h1,h=>by
  rw[List.all_cons,Bool.and_eq_true]at h
  have hd:48≤(c.toNat:Int)∧(c.toNat:Int)≤57:=by have:=h.1;unfold b4 at this;simp at this;omega
  rw[jW,if_pos h.1]
  cases hs:fJ (n,o) c with
  |mk m p=>
   have hm:0≤m∧m≤2147483647:=by
    unfold fJ at hs
    simp only at hs
    split at hs
    ·injection hs with a b;omega
    ·rename_i hno
     injection hs with a b
     have:¬n>(2147483647 -((c.toNat:Int) -48)).tdiv 10:=by
      intro hh
      apply hno
      rw[decide_eq_true hh,Bool.or_true]
     rw[Int.tdiv_eq_ediv_of_nonneg (by omega)]at this
     omega
   exact Gr l m p hm.1 hm.2 h.2
theorem OX(s:List UInt8)(x:UInt8):bg ⟨s⟩ ⟨[x]⟩=some (match s with
 |[]=>false
 |c::_=>c==x):=by
 unfold bg aX
 cases s with
 |nil=>exact ai (ah (by simp) rfl) rfl
 |cons c r=>
  refine ai (ah (by simp) rfl) ?_
  have e1:decide ((((⟨c::r⟩:aL).b.length:Nat):Int)≥(((⟨[x]⟩:aL).b.length:Nat):Int))=true:=by simp;omega
  have e2:(aL.mk (part (c::r) 0 ((((⟨[x]⟩:aL).b.length:Nat):Int)))).b=[c]:=by unfold part;simp
  rw[e1,e2,Bool.true_and]
  show some ([c]==[x])=some (c==x)
  congr 1
  show(c==x&&([]==([]:List UInt8)))=_
  rw[show(([]:List UInt8)==[])=true from rfl,Bool.and_true]
theorem RW(body:List UInt8)(hb:body.length<1048576):fe ⟨body⟩ ⟨[46]⟩=some (⟨(iR body).1⟩,⟨(iR body).2.getD []⟩,(iR body).2.isSome):=by
 unfold fe bL
 have hidx:cZ ⟨body⟩ ⟨[46]⟩=some (Lib.indexByte body 46):=rfl
 have:=Ad body
 refine ai (a:=(⟨(iR body).1⟩,⟨(iR body).2.getD []⟩,(iR body).2.isSome)) (ai hidx ?_) rfl
 cases h:(iR body).2 with
 |none=>
  rw[h]at this
  rw[this.2]
  exact af (by rw[this.1];decide) rfl
 |some r=>
  rw[h]at this
  obtain⟨i1,i2⟩:=this
  have hl:=congrArg List.length i2
  rw[List.length_append,List.length_cons]at hl
  rw[i1]
  generalize(iR body).1=wh at*
  have w1:az ((wh.length:Int)+(((⟨[46]⟩:aL).b.length:Nat):Int))=((wh.length+1:Nat):Int):=by
   show az ((wh.length:Int)+1)=_
   exact iX (by omega)
  rw[w1]
  refine ax (by simp) (ah (by show 0≤(0:Int)∧0≤(wh.length:Int)∧(wh.length:Int)≤(body.length:Int);omega) (ah (by show 0≤((wh.length+1:Nat):Int)∧((wh.length+1:Nat):Int)≤(body.length:Int)∧(body.length:Int)≤(body.length:Int);omega) ?_))
  have p1:part body 0 (wh.length:Int)=wh:=by
   unfold part
   rw[show(0:Int).toNat=0 from rfl,List.drop_zero,Int.sub_zero,Int.toNat_natCast]
   conv=>lhs;rw[i2]
   exact List.take_left
  have p2:part body ((wh.length+1:Nat):Int) (body.length:Int)=r:=by
   unfold part
   rw[Int.toNat_natCast,show((body.length:Int) -((wh.length+1:Nat):Int)).toNat=r.length by omega]
   conv=>lhs;rw[i2]
   rw[List.drop_append,List.drop_eq_nil_of_le (by omega),List.nil_append,show wh.length+1 -wh.length=1 by omega]
   show(r.take r.length)=r
   exact List.take_length
  show some ((⟨part body 0 _⟩:aL),(⟨part body _ _⟩:aL),true)=_
  rw[p1,p2];rfl
theorem ZS(k:Nat):((k:Int)==0)=(k==0):=by cases k<;>simp<;>omega
theorem SM(r:List UInt8)(hb:r.length<1048576)(h:r.all b4=true):dt ⟨r⟩=some (me 6 r):=by
 unfold dt
 have hl:((aL.mk (r++(aL.mk [48,48,48,48,48,48]).b)).b).length=r.length+6:=by simp
 have e:(aL.mk (part (aL.mk (r++(aL.mk [48,48,48,48,48,48]).b)).b 0 6)).b=(r++List.replicate 6 48).take 6:=by unfold part;rfl
 refine ah (by show(((r.length+6:Nat):Int))≤II;unfold II;omega) (ah ⟨Int.le_refl _,by decide,by rw[hl];omega⟩ (ai (a:=(me 6 r,0)) ?_ rfl))
 unfold dD
 rw[e]
 have hlen:((r++List.replicate 6 48).take 6).length=6:=by simp
 have hall:((r++List.replicate 6 48).take 6).all b4=true:=by
  rw[List.all_eq_true]
  intro x hx
  rcases List.mem_append.1 (List.mem_of_mem_take hx)with h1|h1
  ·exact List.all_eq_true.1 h x h1
  ·rw[(List.mem_replicate.1 h1).2];rfl
 rw[if_neg (by intro h0;rw[h0]at hlen;cases hlen),AS _ 0 (Int.le_refl _) hall (by omega) (by rw[hlen];decide),hlen,Kl]
 simp
theorem Nc{s:List UInt8}{F:Int×aL→Option (aa×Int)}{o:Option (Int×aL)}{sg:Int}{body:List UInt8}{r:aa×Int}(h:o=some (sg,⟨body⟩))(k:F (sg,⟨body⟩)=some r)(e:Lk s=r):jn o F=some (Lk s):=by rw[h,e];exact k
theorem Y7(s:List UInt8)(hb:s.length<1048576):gT ⟨s⟩=some (Lk s):=by
 unfold gT
 obtain⟨sg,body,h1,h2,h3,h4⟩:∃(sg:Int)(body:List UInt8),(cj (bg ⟨s⟩ (aL.mk [45])) fun r4=>
  if r4 then
   bq (0≤(1:Int)∧1≤(((⟨s⟩:aL).b.length:Nat):Int)∧(((⟨s⟩:aL).b.length:Nat):Int)≤(((⟨s⟩:aL).b.length:Nat):Int))<|
   some ((-1),aL.mk (part s 1 (s.length:Int)))
  else
   cj (bg ⟨s⟩ (aL.mk [43])) fun r5=>
   if r5 then
    bq (0≤(1:Int)∧1≤(((⟨s⟩:aL).b.length:Nat):Int)∧(((⟨s⟩:aL).b.length:Nat):Int)≤(((⟨s⟩:aL).b.length:Nat):Int))<|
    some (1,aL.mk (part s 1 (s.length:Int)))
   else
    some (1,⟨s⟩))=some (sg,⟨body⟩)∧Lk s=LW sg body∧(sg=1∨sg=-1)∧body.length≤s.length:=by
  cases s with
  |nil=>exact⟨1,[],ai (OX [] 45) (af nF (ai (OX [] 43) (af nF rfl))),rfl,.inl rfl,Nat.le_refl _⟩
  |cons c r=>
   have e45:(c==45)=((c.toNat:Int)==45):=of_decide_eq_true (iQ (fun c=>decide ((c==45)=((c.toNat:Int)==45))) (by kernel_rfl) c)
   have e43:(c==43)=((c.toNat:Int)==43):=of_decide_eq_true (iQ (fun c=>decide ((c==43)=((c.toNat:Int)==43))) (by kernel_rfl) c)
   have pr:part (c::r) 1 ((c::r).length:Int)=r:=by
    unfold part
    rw[show(1:Int).toNat=1 from rfl,List.length_cons,show(((r.length+1:Nat):Int) -1).toNat=r.length by omega]
    show r.take r.length=r
    exact List.take_length
   have nd:0≤(1:Int)∧1≤(((c::r).length:Nat):Int)∧(((c::r).length:Nat):Int)≤(((c::r).length:Nat):Int):=by rw[List.length_cons];omega
   have h45:=OX (c::r) 45
   have h43:=OX (c::r) 43
   simp only[e45]at h45
   simp only[e43]at h43
   by_cases c45:((c.toNat:Int)==45)=true
   ·refine⟨-1,r,ai h45 (ax c45 (ah nd ?_)),by unfold Lk;simp only;rw[if_pos c45],.inr rfl,by simp⟩
    rw[pr]
   ·by_cases c43:((c.toNat:Int)==43)=true
    ·refine⟨1,r,ai h45 (af c45 (ai h43 (ax c43 (ah nd ?_)))),by unfold Lk;simp only;rw[if_neg c45,if_pos c43],.inl rfl,by simp⟩
     rw[pr]
    ·exact⟨1,c::r,ai h45 (af c45 (ai h43 (af c43 rfl))),by unfold Lk;simp only;rw[if_neg c45,if_neg c43],.inl rfl,Nat.le_refl _⟩
 refine Nc (r:=LW sg body) h1 ?_ h2
 refine ai (RW body (by omega)) ?_
 have hlen:=Mq body
 unfold LW
 generalize hwr:iR body=q at hlen
 obtain⟨wh,ro⟩:=q
 show(cj (fy (!((az ((wh.length:Int)+((ro.getD []).length:Int)))==0)) false (jb ⟨wh⟩)) _)=some (SX sg wh ro)
 unfold SX
 have wl:az ((wh.length:Int)+((ro.getD []).length:Int))=((wh.length+(ro.getD []).length:Nat):Int):=by
  have hlen:wh.length+(ro.getD []).length≤body.length:=hlen
  rw[aM (by omega) (by omega)];rfl
 have hlen:wh.length+(ro.getD []).length≤body.length:=hlen
 have wz:((az ((wh.length:Int)+((ro.getD []).length:Int)))==0)=((wh.length+(ro.getD []).length)==0):=by rw[wl];exact ZS _
 simp only[wz]
 cases hz:((wh.length+(ro.getD []).length)==0)with
 |true=>
  rw[Bool.true_or,Bool.true_or,if_pos rfl]
  exact ai (LO rfl) (ai (LO rfl) (ax rfl rfl))
 |false=>
  rw[Bool.false_or,Bool.not_false,mh]
  refine ai (show jb ⟨wh⟩=some (wh.all b4) from rfl) ?_
  cases ha:wh.all b4 with
  |false=>
   rw[Bool.not_false,Bool.true_or,if_pos rfl]
   exact ai (LO rfl) (ax rfl rfl)
  |true=>
   rw[Bool.not_true,Bool.false_or,Bool.false_or,Bool.not_false,mh]
   refine ai (show jb ⟨ro.getD []⟩=some ((ro.getD []).all b4) from rfl) ?_
   cases hr:(ro.getD []).all b4 with
   |false=>
    rw[Bool.not_false,if_pos rfl]
    exact ax rfl rfl
   |true=>
    rw[Bool.not_true,if_neg nF]
    refine af nF (ah (by show(((1+wh.length:Nat):Int))≤II;unfold II;omega) ?_)
    have d0:fJ (0,false) 48=(0,false):=by decide
    have hd:dD (aL.mk ((aL.mk [48]).b++(⟨wh⟩:aL).b))=some (jW wh (0,false)):=by
     show some (jW (48::wh) (0,false))=_
     rw[jW,if_pos (show b4 48=true from rfl),d0]
    refine ai hd ?_
    have rg:=Gr wh 0 false (Int.le_refl _) (by decide) ha
    generalize jW wh (0,false)=n at rg
    obtain⟨n,e⟩:=n
    obtain⟨n0,n1,n2⟩:=rg
    have n0:0≤n:=n0
    have n1:n≤2147483647:=n1
    have n2:e=0∨e=5:=n2
    rcases n2 with rfl|rfl
    ·refine af nF ?_
     have h0:¬(((n,(0:Int)).2 !=0)=true):=by show¬(((0:Int)!=0)=true);decide
     rw[if_neg h0]
     cases ro with
     |none=>
      refine ax rfl ?_
      show some ((⟨2,az (sg*n),⟨[]⟩,[]⟩:aa),(0:Int))=some (⟨2,sg*n,⟨[]⟩,[]⟩,0)
      rw[aM (by rcases h3 with rfl|rfl<;>omega) (by rcases h3 with rfl|rfl<;>omega)]
     |some r=>
      have hr:r.all b4=true:=hr
      have hrl:r.length≤body.length:=by simp only[Option.getD_some]at hlen;omega
      refine af nF (ai (SM r (by omega) hr) ?_)
      have pr:=wU 6 r hr
      have p6:me 6 r<1000000:=pr.2
      have wN:az (sg*(az ((az (n*1000000))+me 6 r)))=sg*(n*1000000+me 6 r):=by rw[aM (n:=n*1000000) (by omega) (by omega),aM (n:=n*1000000+me 6 r) (by omega) (by omega),aM (by rcases h3 with rfl|rfl<;>omega) (by rcases h3 with rfl|rfl<;>omega)]
      simp only[wN]
      have wneg:az (0 -2147483647000000)=-2147483647000000:=by decide
      by_cases hov:n*1000000+me 6 r>2147483647000000
      ·rw[if_pos hov]
       refine ai (a:=2) ?_ (ax rfl rfl)
       unfold gS
       refine bz (z:=.inl 2147483647000000) (af (by show¬((3:Int)==2)=true;decide) (ax rfl rfl)) (ax ?_ rfl)
       simp only[wneg]
       rcases h3 with rfl|rfl
       ·simp;omega
       ·simp;omega
      ·rw[if_neg hov]
       refine ai (a:=0) ?_ (af (by decide) rfl)
       unfold gS
       refine bz (z:=.inl 2147483647000000) (af (by show¬((3:Int)==2)=true;decide) (ax rfl rfl)) (af ?_ rfl)
       simp only[wneg]
       rcases h3 with rfl|rfl
       ·simp;omega
       ·simp;omega
    ·have h5:((n,(5:Int)).2 !=0)=true:=rfl
     rw[if_pos h5,if_pos h5]
end Go.AB
end
