/- A part. -/
import Derived.Test.YtplacgnfinmfbaaGreatDoorFs19
set_option linter.unusedSimpArgs false
set_option linter.unusedVariables false
section
namespace Go.AB
open Go
theorem TJ(l:List Int)(B:List Bool):∀(f n c:Nat),1<=n->n -1<=B.length->(LC l B f n c).2.1<=B.length/\((LC l B f n c).2.2=0->n<=(LC l B f n c).2.1)/\0<=(LC l B f n c).1/\(LC l B f n c).1<=l.length/\((LC l B f n c).2.2≠0->(LC l B f n c).1=0)/\(LC l B f n c).2.1<n+f
 |0,n,c,h,h2=>by rw[LC];grind
 |f+1,n,c,h,h2=>by
  rw[LC]
  split
  ·grind
  ·cases hx:B[n -1]? with
   |none=>grind
   |some x=>
    have hlt:=(List.getElem?_eq_some_iff.1 hx).1
    simp only
    generalize 2*c+(if x then 1 else 0)=c'
    split
    ·rename_i hin
     refine⟨by grind,fun _=>Nat.le_refl _,?_,?_,fun e=>absurd rfl e,by grind⟩
     ·rw[List.getD_eq_getElem?_getD,List.getElem?_eq_getElem hin]
      have:=I7 l 0 _ (List.getElem_mem hin)
      grind
     ·rw[List.getD_eq_getElem?_getD,List.getElem?_eq_getElem hin]
      have:=I7 l 0 _ (List.getElem_mem hin)
      grind
    ·have ih:=TJ l B f (n+1) c' (by omega) (by omega)
     exact⟨ih.1,fun e=>by have:=ih.2.1 e;omega,ih.2.2.1,ih.2.2.2.1,ih.2.2.2.2.1,by have:=ih.2.2.2.2.2;omega⟩
theorem af3(l:List Int)(B:List Bool):(tk l B).2.1<=B.length/\((tk l B).2.2=0->1<=(tk l B).2.1)/\0<=(tk l B).1/\(tk l B).1<=l.length/\((tk l B).2.2≠0->(tk l B).1=0)/\(tk l B).2.1<16:=TJ l B 15 1 0 (Nat.le_refl _) (Nat.zero_le _)
def gQ(B:List Bool)(l:List Int)(s:ZS):Int×ZS:=if s.e≠0 then(0,s)else((tk l (B.drop s.at_)).1,{s with at_:=s.at_+(tk l (B.drop s.at_)).2.1,e:=(tk l (B.drop s.at_)).2.2})
def BE(most:Int)(x:UInt8)(s:ZS):ZS:=if s.e≠0 then s else if(s.out.length:Int)>=most then{s with e:=3}else{s with out:=s.out++[x]}
def FH(B:List Bool)(most:Int):Nat->ZS->ZS
 |0,s=>s
 |k+1,s=>if s.e≠0 then s else FH B most k (BE most (gX (aB B 8 s).1) (aB B 8 s).2)
def ux(B:List Bool)(s:ZS):Int×ZS:=
 let r:=aB B 16 {s with at_:=(s.at_+7)/8*8}
 let q:=aB B 16 r.2
 (r.1,if q.1≠65535 -r.1 then q.2.fail 11 else q.2)
def Ej(B:List Bool)(most:Int)(s:ZS):ZS:=FH B most (ux B s).1.toNat (ux B s).2
section
variable{b:List UInt8}{most:Int}
theorem vm{l:List Int}{s:ZS}(ha:s.at_<=8*b.length):(gQ (ag b) l s).2.at_<=8*b.length/\s.at_<=(gQ (ag b) l s).2.at_/\0<=(gQ (ag b) l s).1/\(gQ (ag b) l s).1<=l.length/\(gQ (ag b) l s).2.out=s.out/\((gQ (ag b) l s).2.e=0->s.e=0/\s.at_<(gQ (ag b) l s).2.at_)/\((gQ (ag b) l s).2.e≠0->(gQ (ag b) l s).1=0):=by
 have hl:=uO b
 have ht:=af3 l ((ag b).drop s.at_)
 rw[List.length_drop]at ht
 unfold gQ
 grind
theorem aaJ(hb:b.length<576460752303423488){l:List Int}(hl:Fi l)(K:Nat){s:ZS}(ha:s.at_<=8*b.length):bO (BH b s) ⟨K,l⟩=some ((gQ (ag b) l s).1,BH b (gQ (ag b) l s).2):=by
 unfold bO gQ
 by_cases he:s.e=0
 ·rw[if_neg (by simp[he]),if_neg (by simp[he]),afa hb hl K ha,aJ]
  show aP (ax (BH b {s with at_:=s.at_+(tk l ((ag b).drop s.at_)).2.1}) _) _=_
  rw[qy,aJ]
  simp[ZS.fail,he]
 grind
theorem ae8{s:ZS}(he:s.e=0)(hm:most<=16777216)(x:UInt8):cw (pG b most s) x=some (pG b most (BE most x s)):=by
 have cf:room=140737488355328:=rfl
 unfold cw BE
 rw[if_neg (c:=s.e≠0) (by simp[he])]
 by_cases h:(s.out.length:Int)>=most
 ·rw[if_pos (by simpa using h),if_pos h]
  show aP (ax (BH b s) 3) _=_
  grind [qy,aJ,ZS.fail]
 ·rw[if_neg (by simpa using h),if_neg h,bB (by simp;omega)]
theorem ID{x:UInt8}{s:ZS}:(BE most x s).at_=s.at_/\((BE most x s).e=0->s.e=0):=by
 unfold BE
 grind
theorem ahx(n:Nat)(h:n<4611686018427387904):aw (xZ .i64 (aw ((n:Int)+7)) 7)=(((n+7)/8*8:Nat):Int):=by
 rw[ar (n:=(n:Int)+7) (by omega) (by omega)]
 have e:xZ .i64 ((n:Int)+7) 7=(((n+7)/8*8:Nat):Int):=by
  rw[show(n:Int)+7=((n+7:Nat):Int) by omega]
  have hm:n+7<2^64:=by omega
  generalize n+7=m at*
  unfold xZ
  show(((BitVec.ofNat 64 m&&& ~~~BitVec.ofNat 64 7).toNat:Nat):Int)=_
  congr 1
  refine Nat.eq_of_testBit_eq fun i=>?_
  have e8:m/8*8=(m>>>3)<<<3:=by rw[Nat.shiftRight_eq_div_pow,Nat.shiftLeft_eq]
  rw[e8,Nat.testBit_shiftLeft,Nat.testBit_shiftRight,BitVec.testBit_toNat,BitVec.getLsbD_and,BitVec.getLsbD_not,BitVec.getLsbD_ofNat,BitVec.getLsbD_ofNat]
  rw[show(7:Nat)=2^3 -1 from rfl,Nat.testBit_two_pow_sub_one]
  by_cases h64:i<64
  ·grind
  ·have:m.testBit i=false:=Nat.testBit_lt_two_pow (Nat.lt_of_lt_of_le hm (Nat.pow_le_pow_right (by decide) (by omega)))
   grind
 grind [ar]
theorem ai2(m:Int)(h0:0<=m)(h:m<65536):aw (TY .i64 m 65535)=65535 -m:=by
 obtain⟨m,rfl⟩:=Int.eq_ofNat_of_zero_le h0
 have hm:m<2^16:=by omega
 have e:TY .i64 ((m:Nat):Int) 65535=((2^16 -(m+1):Nat):Int):=by
  unfold TY
  show(((BitVec.ofNat 64 m^^^BitVec.ofNat 64 65535).toNat:Nat):Int)=_
  congr 1
  refine Nat.eq_of_testBit_eq fun i=>?_
  rw[Nat.testBit_two_pow_sub_succ hm,BitVec.testBit_toNat,BitVec.getLsbD_xor,BitVec.getLsbD_ofNat,BitVec.getLsbD_ofNat,show(65535:Nat)=2^16 -1 from rfl,Nat.testBit_two_pow_sub_one]
  by_cases h16:i<16
  ·grind
  ·have:m.testBit i=false:=Nat.testBit_lt_two_pow (Nat.lt_of_lt_of_le hm (Nat.pow_le_pow_right (by decide) (by omega)))
   grind
 grind [ar]
theorem I2{s:ZS}(ha:s.at_<=8*b.length):(ux (ag b) s).2.at_<=8*b.length/\(s.at_+7)/8*8<=(ux (ag b) s).2.at_/\0<=(ux (ag b) s).1/\(ux (ag b) s).1<65536:=by grind [db,aB,ag,ux,ZS.fail]
theorem Yc(hb:b.length<576460752303423488)(hM:most<=16777216):∀(k:Nat)(s:ZS),k<65536->s.at_<=8*b.length->∀m,k+1<=m->bV (fun((n7,o8):Int×ak)=>
 if(decide (n7>0))&&(o8.al.e_==0)then
  jn (
   aP (aI o8.al 8) fun r12=>
   if r12.2.e_==0 then
    aP (cw (ak.mk r12.2 o8.cD o8.bF) (gX (r12.1))) fun r13=>
    some r13
   else
    some (ak.mk r12.2 o8.cD o8.bF)) fun(o11:ak)=>
  some (.inl (aw (n7 -1),o11))
 else
  some (.inr o8)) m ((k:Int),pG b most s)=some (pG b most (FH (ag b) most k s))
 |0,s,_,_,m,hm=>by
  obtain⟨j,rfl⟩:∃j,m=j+1:=⟨m -1,by omega⟩
  rfl
 |k+1,s,hk,ha,m,hm=>by
  obtain⟨j,rfl⟩:∃j,m=j+1:=⟨m -1,by omega⟩
  rw[bV,FH]
  by_cases he:s.e=0
  ·rw[if_neg (c:=s.e≠0) (by simp[he])]
   have hn:=db (b:=b) (n:=8) ha
   have hp:=ID (most:=most) (x:=gX (aB (ag b) 8 s).1) (s:=(aB (ag b) 8 s).2)
   have hN:=MJ hb (n:=8) (by decide) ha
   rw[show((8:Nat):Int)=8 from rfl]at hN
   have Rv:(aB (ag b) 8 s).2.out=s.out:=hn.2.2.2.2.1
   simp only[if_pos (show(decide (((k+1:Nat):Int)>0)&&(s.e==0))=true by simp[he])]
   rw[hN]
   generalize aB (ag b) 8 s=r at*
   rw[aJ]
   have eM:ak.mk (BH b r.2) s.out most=pG b most r.2:=by rw[<-Rv]
   have e:(if(r.2.e==0)=true then aP (cw (ak.mk (BH b r.2) s.out most) (gX r.1)) fun r13=>some r13 else some (ak.mk (BH b r.2) s.out most))=some (pG b most (BE most (gX r.1) r.2)):=by
    rw[eM]
    by_cases hr:r.2.e=0
    ·rw[if_pos (by simp[hr]),ae8 hr hM,aJ]
    ·rw[if_neg (by simp[hr])]
     unfold BE
     grind
   simp only[e,Ic]
   rw[ar (by omega) (by omega),show((k+1:Nat):Int) -1=(k:Int) by omega]
   exact Yc hb hM k _ (by omega) (by rw[hp.1];exact hn.1) j (by omega)
  grind
theorem V1(hb:b.length<576460752303423488)(hM:most<=16777216){s:ZS}(ha:s.at_<=8*b.length):fY (pG b most s)=some (pG b most (Ej (ag b) most s)):=by
 have hH:=I2 (b:=b) ha
 have ha1:({s with at_:=(s.at_+7)/8*8}:ZS).at_<=8*b.length:=by simp only;omega
 have h1:=db (b:=b) (n:=16) ha1
 have h2:=db (b:=b) (n:=16) h1.1
 unfold fY fV bJ Ej
 simp only[aJ,Bool.false_or,Bool.not_true,Bool.not_false,if_true]
 rw[ahx _ (by omega)]
 have hN:=MJ hb (n:=16) (by decide) ha1
 have hN2:=MJ hb (n:=16) (by decide) h1.1
 rw[show((16:Nat):Int)=16 from rfl]at hN hN2
 refine aj (a:=((ux (ag b) s).1,BH b (aB (ag b) 16 {s with at_:=(s.at_+7)/8*8}).2)) hN ?_
 refine dI (a:=pG b most (ux (ag b) s).2) (aj hN2 ?_) ?_
 ·have hx:=ai2 (aB (ag b) 16 (aB (ag b) 16 {s with at_:=(s.at_+7)/8*8}).2).1 h2.2.2.1 h2.2.2.2.1
  have ho:s.out=(aB (ag b) 16 (aB (ag b) 16 {s with at_:=(s.at_+7)/8*8}).2).2.out:=by rw[h2.2.2.2.2.1,h1.2.2.2.2.1]
  simp only[hx]
  unfold ux
  simp only
  generalize aB (ag b) 16 (aB (ag b) 16 {s with at_:=(s.at_+7)/8*8}).2=q at*
  generalize aB (ag b) 16 {s with at_:=(s.at_+7)/8*8}=r at*
  by_cases hq:q.1≠65535 -r.1
  ·rw[if_pos (by simp;omega),if_pos hq,qy,aJ,ho]
   grind [ZS.fail]
  grind
 ·have:=Yc (b:=b) hb hM (ux (ag b) s).1.toNat (ux (ag b) s).2 (by omega) hH.1 18446744073709551616 (by omega)
  rw[show(((ux (ag b) s).1.toNat:Nat):Int)=(ux (ag b) s).1 by omega]at this
  exact this
theorem OD:∀(k:Nat)(s:ZS),s.at_<=8*b.length->(FH (ag b) most k s).at_<=8*b.length/\s.at_<=(FH (ag b) most k s).at_/\((FH (ag b) most k s).e=0->s.e=0)
 |0,s,h=>⟨h,Nat.le_refl _,fun h=>h⟩
 |k+1,s,h=>by
  rw[FH]
  split
  ·grind
  ·have hn:=db (b:=b) (n:=8) h
   have hp:=ID (most:=most) (x:=gX (aB (ag b) 8 s).1) (s:=(aB (ag b) 8 s).2)
   have ih:=OD k (BE most (gX (aB (ag b) 8 s).1) (aB (ag b) 8 s).2) (by rw[hp.1];exact hn.1)
   exact⟨ih.1,by rw[hp.1]at ih;omega,fun e=>(hn.2.2.2.2.2 (hp.2 (ih.2.2 e))).1⟩
theorem WB{s:ZS}(ha:s.at_<=8*b.length):(Ej (ag b) most s).at_<=8*b.length/\s.at_<=(Ej (ag b) most s).at_:=by grind [I2,OD,ux,ag,Ej]
end
theorem Oi{k n:Nat}(h:k<=n):(2:Int)^k<=2^n:=by
 have:=Nat.pow_le_pow_right (n:=2) (by decide) h
 grind
def jK(x:Int):Int×Int×Bool:=if x<257\/x>285 then(0,0,false)else(dZ x).getD (0,0,false)
def iM(x:Int):Int×Int×Bool:=if x<0\/x>29 then(0,0,false)else(c9 x).getD (0,0,false)
theorem Od(x:Int):dZ x=some (jK x)/\rD x=some (jK x)/\0<=(jK x).1/\(jK x).1<=258/\0<=(jK x).2.1/\(jK x).2.1<=5:=by
 by_cases h:x<257\/x>285
 ·unfold jK dZ rD
  grind
 ·have hk:∃k:Nat,k<29/\x=257+(k:Int):=⟨(x -257).toNat,by omega,by omega⟩
  obtain⟨k,hk,rfl⟩:=hk
  have:=List.all_eq_true.1 (show((List.range 29).all fun k=>decide (dZ (257+(k:Int))=some (jK (257+(k:Int)))/\rD (257+(k:Int))=some (jK (257+(k:Int)))/\0<=(jK (257+(k:Int))).1/\(jK (257+(k:Int))).1<=258/\0<=(jK (257+(k:Int))).2.1/\(jK (257+(k:Int))).2.1<=5))=true by decide+kernel) k (List.mem_range.2 hk)
  grind
theorem UJ(x:Int):c9 x=some (iM x)/\oe x=some (iM x)/\0<=(iM x).1/\(iM x).1<=32768/\0<=(iM x).2.1/\(iM x).2.1<=13/\((iM x).2.2=true->1<=(iM x).1):=by
 by_cases h:x<0\/x>29
 ·unfold iM c9 oe
  grind
 ·have hk:∃k:Nat,k<30/\x=(k:Int):=⟨x.toNat,by omega,by omega⟩
  obtain⟨k,hk,rfl⟩:=hk
  have:=List.all_eq_true.1 (show((List.range 30).all fun k=>decide (c9 (k:Int)=some (iM (k:Int))/\oe (k:Int)=some (iM (k:Int))/\0<=(iM (k:Int)).1/\(iM (k:Int)).1<=32768/\0<=(iM (k:Int)).2.1/\(iM (k:Int)).2.1<=13/\((iM (k:Int)).2.2=true->1<=(iM (k:Int)).1)))=true by decide+kernel) k (List.mem_range.2 hk)
  grind
def IL:Nat->Int->List UInt8->List UInt8
 |0,_,o=>o
 |k+1,far,o=>IL k far (o++[ix o ((o.length:Int) -far)])
theorem Lc:∀(k:Nat)(far:Int)(o:List UInt8),(IL k far o).length=o.length+k
 |0,_,_=>rfl
 |k+1,far,o=>by rw[IL,Lc k];simp;omega
def MY(most len far:Int)(s:ZS):ZS:=if s.e≠0 then s else if far>s.out.length then{s with e:=14}else if len>most -s.out.length then{s with e:=3}else{s with out:=IL len.toNat far s.out}
def QI(B:List Bool)(most:Int)(ld:List Int)(r:Int×ZS):ZS:=
 let m:=aB B (jK r.1).2.1.toNat (if(jK r.1).2.2 then r.2 else r.2.fail 11)
 let y:=gQ B ld m.2
 let q:=aB B (iM y.1).2.1.toNat (if(iM y.1).2.2 then y.2 else y.2.fail 11)
 MY most ((jK r.1).1+m.1) ((iM y.1).1+q.1) q.2
def sM(B:List Bool)(most:Int)(lt ld:List Int)(s:ZS):Bool×ZS:=
 let r:=gQ B lt s
 if r.2.e≠0\/r.1=256 then(false,r.2)else if r.1<256 then(true,BE most (gX r.1) r.2)else(true,QI B most ld r)
def vD(B:List Bool)(most:Int)(lt ld:List Int):Nat->ZS->ZS
 |0,s=>s
 |f+1,s=>if(sM B most lt ld s).1 then vD B most lt ld f (sM B most lt ld s).2 else(sM B most lt ld s).2
def ZI(b:List UInt8)(most:Int)(s:ZS):Prop:=s.at_<=8*b.length/\(s.out.length:Int)<=most
section
variable{b:List UInt8}{most:Int}
theorem fX(s:ZS)(e:Int)(he:e≠0):(s.fail e).at_=s.at_/\(s.fail e).out=s.out/\(s.fail e).e≠0:=by
 unfold ZS.fail
 grind
theorem Wt{len far:Int}{s:ZS}(h:ZI b most s)(h0:0<=len):ZI b most (MY most len far s)/\s.at_=(MY most len far s).at_/\((MY most len far s).e=0->s.e=0):=by
 unfold MY
 split
 ·grind
 ·rename_i he
  split
  ·exact⟨h,rfl,fun h=>by cases h⟩
  ·split
   ·exact⟨h,rfl,fun h=>by cases h⟩
   ·refine⟨⟨h.1,?_⟩,rfl,fun h=>h⟩
    grind [IL,Lc]
theorem Ol{x:UInt8}{s:ZS}(h:ZI b most s):ZI b most (BE most x s):=by
 unfold BE
 split
 ·exact h
 ·split
  ·exact h
  ·exact⟨h.1,by simp;omega⟩
theorem aiD(hM:most<=16777216){s:ZS}(h:ZI b most s){len far:Int}(h0:0<=len)(h1:len<1000)(hf:s.e=0->1<=far):dH (pG b most s) len far=some (pG b most (MY most len far s)):=by
 have cf:room=140737488355328:=rfl
 obtain⟨ha,ho⟩:=h
 unfold dH MY
 by_cases he:s.e=0
 ·have hf:=hf he
  rw[if_neg (by simp[he]),if_neg (c:=s.e≠0) (by simp[he])]
  by_cases h2:far>s.out.length
  ·rw[if_pos (by grind),if_pos h2]
   show aP (ax (BH b s) 14) _=_
   grind [qy,aJ,ZS.fail]
  ·rw[if_neg (by grind),if_neg h2]
   show(if decide (len>aw (most -(s.out.length:Int)))=true then _ else _)=_
   rw[ar (n:=most -(s.out.length:Int)) (by omega) (by omega)]
   by_cases h3:len>most -s.out.length
   ·rw[if_pos (by grind),if_pos h3]
    show aP (ax (BH b s) 3) _=_
    grind [qy,aJ,ZS.fail]
   ·rw[if_neg (by grind),if_neg h3]
    refine iter_eq (fun(z:Int×ak)=>∃k:Nat,∃o:List UInt8,k<=len.toNat/\z=((k:Int),pG b most {s with out:=o})/\IL (len.toNat -k) far o=IL len.toNat far s.out/\s.out.length+k=o.length) (fun z=>(len -z.1).toNat) ⟨0,s.out,Nat.zero_le _,rfl,rfl,rfl⟩ (by simp;omega) ?_
    rintro _ ⟨k,o,hk,rfl,hz,hol⟩
    by_cases hlt:k<len.toNat
    ·obtain⟨f,hff⟩:∃f,len.toNat -k=f+1:=⟨len.toNat -k -1,by omega⟩
     rw[hff,IL]at hz
     simp only
     rw[ar (n:=(o.length:Int) -far) (by omega) (by omega),ar (n:=(k:Int)+1) (by omega) (by omega)]
     refine .inl ⟨_,?_,⟨k+1,o++[ix o ((o.length:Int) -far)],hlt,rfl,by grind,by simp;omega⟩,by grind⟩
     rw[if_pos (by simp;omega),bB (by omega),bB (by simp;omega)]
     rfl
    ·rw[show len.toNat -k=0 by omega,IL]at hz
     grind
 grind
theorem UF{ld:List Int}{r:Int×ZS}(h:ZI b most r.2):ZI b most (QI (ag b) most ld r)/\r.2.at_<=(QI (ag b) most ld r).at_:=by
 have hL:=Od r.1
 unfold QI
 simp only
 have hf:=fX r.2 11 (by decide)
 generalize hs2:(if(jK r.1).2.2=true then r.2 else r.2.fail 11)=s2
 have h2:s2.at_=r.2.at_/\s2.out=r.2.out:=by subst hs2;split;exact⟨rfl,rfl⟩;exact⟨hf.1,hf.2.1⟩
 have hn:=db (b:=b) (n:=(jK r.1).2.1.toNat) (s:=s2) (by rw[h2.1];exact h.1)
 generalize aB (ag b) (jK r.1).2.1.toNat s2=m at*
 have hy:=vm (b:=b) (l:=ld) (s:=m.2) hn.1
 generalize gQ (ag b) ld m.2=y at*
 have hf:=fX y.2 11 (by decide)
 generalize hs5:(if(iM y.1).2.2=true then y.2 else y.2.fail 11)=s5
 have h5:s5.at_=y.2.at_/\s5.out=y.2.out:=by subst hs5;split;exact⟨rfl,rfl⟩;exact⟨hf.1,hf.2.1⟩
 have hq:=db (b:=b) (n:=(iM y.1).2.1.toNat) (s:=s5) (by grind)
 generalize aB (ag b) (iM y.1).2.1.toNat s5=q at*
 have hr:=Wt (b:=b) (most:=most) (len:=(jK r.1).1+m.1) (far:=(iM y.1).1+q.1) (s:=q.2) ⟨hq.1,by rw[hq.2.2.2.2.1,h5.2,hy.2.2.2.2.1,hn.2.2.2.2.1,h2.2];exact h.2⟩ (by omega)
 grind
theorem HA{lt ld:List Int}{s:ZS}(h:ZI b most s):ZI b most (sM (ag b) most lt ld s).2/\s.at_<=(sM (ag b) most lt ld s).2.at_/\((sM (ag b) most lt ld s).1=true->s.e=0/\s.at_<(sM (ag b) most lt ld s).2.at_):=by grind [vm,sM,ZI,gQ,ag,absurd,ID,gX,Ol,UF]
def mu(b:List UInt8)(s:ZS):Nat:=if s.e=0 then 8*b.length -s.at_+1 else 0
theorem UG{lt ld:List Int}{s:ZS}(h:ZI b most s)(ht:(sM (ag b) most lt ld s).1=true):mu b (sM (ag b) most lt ld s).2<mu b s:=by
 have:=HA (lt:=lt) (ld:=ld) h
 have h2:=this.2.2 ht
 have h3:=this.1.1
 unfold mu
 grind
theorem Hz{lt ld:List Int}:∀(f:Nat)(s:ZS),ZI b most s->ZI b most (vD (ag b) most lt ld f s)/\s.at_<=(vD (ag b) most lt ld f s).at_
 |0,_,h=>⟨h,Nat.le_refl _⟩
 |f+1,s,h=>by
  have hc:=HA (lt:=lt) (ld:=ld) h
  rw[vD]
  split
  ·have:=Hz (lt:=lt) (ld:=ld) f _ hc.1
   exact⟨this.1,by omega⟩
  ·exact⟨hc.1,hc.2.1⟩
theorem JG{lt ld:List Int}{body:ak->Option (ak⊕ak)}(XM:∀s,ZI b most s->body (pG b most s)=some (if(sM (ag b) most lt ld s).1 then .inl (pG b most (sM (ag b) most lt ld s).2)else .inr (pG b most (sM (ag b) most lt ld s).2))):
 ∀(f:Nat)(s:ZS),ZI b most s->mu b s<f->∀m,f<=m->bV body m (pG b most s)=some (pG b most (vD (ag b) most lt ld f s))
 |0,_,_,h,_,_=>absurd h (Nat.not_lt_zero _)
 |f+1,s,h,hf,m,hm=>by
  obtain⟨j,rfl⟩:∃j,m=j+1:=⟨m -1,by omega⟩
  rw[bV,vD,XM s h]
  cases ht:(sM (ag b) most lt ld s).1 with
  |false=>rfl
  |true=>
   have:=UG h ht
   simp only[if_true]
   exact JG XM f _ (HA h).1 (by omega) j (by omega)
theorem aaI(hb:b.length<576460752303423488)(hM:most<=16777216){lt ld:List Int}(hlt:Fi lt)(hld:Fi ld)(K L:Nat){s:ZS}(h:ZI b most s):gu (pG b most s) ⟨K,lt⟩ ⟨L,ld⟩=some (pG b most (vD (ag b) most lt ld (8*b.length+2) s)):=by
 unfold gu iter
 refine JG (fun s h=>?_) (8*b.length+2) s h (by grind [mu]) 18446744073709551616 (by omega)
 have hs:=vm (b:=b) (l:=lt) h.1
 have hz:ZI b most (gQ (ag b) lt s).2:=⟨hs.1,by rw[hs.2.2.2.2.1];exact h.2⟩
 refine aj (aaJ hb hlt K h.1) ?_
 unfold sM
 have ho:s.out=(gQ (ag b) lt s).2.out:=hs.2.2.2.2.1.symm
 simp only[ho]
 clear hs ho
 generalize gQ (ag b) lt s=r at*
 by_cases h1:r.2.e≠0\/r.1=256
 ·grind
 ·rw[if_neg (by grind),if_neg h1]
  have he:r.2.e=0:=by
   by_cases he:r.2.e=0
   ·exact he
   ·grind
  by_cases h2:r.1<256
  ·rw[if_pos (by grind),if_pos h2]
   show aP (cw (pG b most r.2) (gX r.1)) _=_
   grind [ae8,aJ]
  ·rw[if_neg (by grind),if_neg h2]
   obtain⟨hL1,_,hL2,hL3,hL4,hL5⟩:=Od r.1
   rw[hL1,aJ]
   unfold QI
   simp only[if_true]
   have hf:=fX r.2 11 (by decide)
   generalize hs2:(if(jK r.1).2.2=true then r.2 else r.2.fail 11)=s2
   have h2:s2.at_=r.2.at_/\s2.out=r.2.out:=by subst hs2;split;exact⟨rfl,rfl⟩;exact⟨hf.1,hf.2.1⟩
   refine dI (a:=pG b most s2) ?_ ?_
   ·subst hs2
    cases(jK r.1).2.2 with
    |true=>rfl
    |false=>
     show aP (ax (BH b r.2) 11) _=_
     grind [qy,aJ]
   ·have hn:=db (b:=b) (n:=(jK r.1).2.1.toNat) (s:=s2) (by rw[h2.1];exact hz.1)
    have hN:=MJ (b:=b) hb (n:=(jK r.1).2.1.toNat) (s:=s2) (by omega) (by grind)
    rw[show(((jK r.1).2.1.toNat:Nat):Int)=(jK r.1).2.1 by omega]at hN
    refine aj hN ?_
    have hnn:((aB (ag b) (jK r.1).2.1.toNat s2).1)<32:=by
     have hp:(2:Int)^(jK r.1).2.1.toNat<=2^5:=Oi (by omega)
     have:=hn.2.2.2.1
     have e5:(2:Int)^5=32:=by decide
     omega
    generalize aB (ag b) (jK r.1).2.1.toNat s2=m at*
    have hy:=vm (b:=b) (l:=ld) (s:=m.2) hn.1
    refine aj (aaJ hb hld L hn.1) ?_
    generalize gQ (ag b) ld m.2=y at*
    obtain⟨hD1,_,hD2,hD3,hD4,hD5,hD6⟩:=UJ y.1
    simp only
    rw[hD1,aJ]
    have hf:=fX y.2 11 (by decide)
    generalize hs5:(if(iM y.1).2.2=true then y.2 else y.2.fail 11)=s5
    have h5:s5.at_=y.2.at_/\s5.out=y.2.out/\(s5.e=0->(iM y.1).2.2=true):=by
     subst hs5
     split
     ·grind
     ·grind
    have hso:s2.out=y.2.out:=by rw[hy.2.2.2.2.1,hn.2.2.2.2.1]
    refine dI (a:=pG b most s5) ?_ ?_
    ·subst hs5
     cases(iM y.1).2.2 with
     |true=>simp[hso]
     |false=>
      show aP (ax (BH b y.2) 11) _=_
      rw[qy,aJ]
      grind
    ·have hq:=db (b:=b) (n:=(iM y.1).2.1.toNat) (s:=s5) (by grind)
     have hQ:=MJ (b:=b) hb (n:=(iM y.1).2.1.toNat) (s:=s5) (by omega) (by grind)
     rw[show(((iM y.1).2.1.toNat:Nat):Int)=(iM y.1).2.1 by omega]at hQ
     refine aj hQ ?_
     have hqq:((aB (ag b) (iM y.1).2.1.toNat s5).1)<8192:=by
      have hp:(2:Int)^(iM y.1).2.1.toNat<=2^13:=Oi (by omega)
      have:=hq.2.2.2.1
      have e5:(2:Int)^13=8192:=by decide
      omega
     generalize aB (ag b) (iM y.1).2.1.toNat s5=q at*
     simp only
     rw[ar (n:=(jK r.1).1+m.1) (by omega) (by omega),ar (n:=(iM y.1).1+q.1) (by omega) (by omega)]
     have hqo:s5.out=q.2.out:=hq.2.2.2.2.1.symm
     have:=aiD (b:=b) (most:=most) hM (s:=q.2) ⟨hq.1,by rw[hq.2.2.2.2.1,h5.2.1,hy.2.2.2.2.1,hn.2.2.2.2.1,h2.2];exact hz.2⟩ (len:=(jK r.1).1+m.1) (far:=(iM y.1).1+q.1) (by omega) (by omega) (fun e=>by grind)
     rw[hqo]
     refine aj this rfl
end
def kv(l:List Int)(s:ZS):ZS:=if Oa l<0 then s.fail 13 else s
theorem yj(l:List Int)(s:ZS):(kv l s).at_=s.at_/\(kv l s).out=s.out/\((kv l s).e=0->s.e=0/\0<=Oa l):=by
 unfold kv
 have:=fX s 13 (by decide)
 split
 ·exact⟨this.1,this.2.1,fun h=>absurd h this.2.2⟩
 ·exact⟨rfl,rfl,fun h=>⟨h,by omega⟩⟩
section
variable{b:List UInt8}{most:Int}
theorem YY{lt ld:List Int}{s:ZS}(he:s.e≠0)(f:Nat):vD (ag b) most lt ld f s=s:=by
 cases f with
 |zero=>rfl
 |succ f=>
  have e:sM (ag b) most lt ld s=(false,s):=by
   unfold sM gQ
   simp[he]
  rw[vD,e];rfl
end
def Jm(n:Nat)(out:List Int)(t x:Int)(s:ZS):List Int×ZS:=if s.e≠0 then(out,s)else if t>(n:Int) -out.length then(out,s.fail 11)else(out++List.replicate t.toNat x,s)
def Jl(B:List Bool)(l:List Int)(n:Nat)(out:List Int)(s:ZS):List Int×ZS:=
 let r:=gQ B l s
 if r.1=16 then(if out=[]then(out,r.2.fail 11)else Jm n out ((aB B 2 r.2).1+3) (out.getLastD 0) (aB B 2 r.2).2)
 else if r.1=17 then Jm n out ((aB B 3 r.2).1+3) 0 (aB B 3 r.2).2
 else if r.1=18 then Jm n out ((aB B 7 r.2).1+11) 0 (aB B 7 r.2).2
 else Jm n out 1 r.1 r.2
def Ag(B:List Bool)(l:List Int)(n:Nat):Nat->List Int->ZS->List Int×ZS
 |0,out,s=>(out,s)
 |f+1,out,s=>if out.length=n\/s.e≠0 then(out,s)else Ag B l n f (Jl B l n out s).1 (Jl B l n out s).2
section
variable{b:List UInt8}{most:Int}
theorem M1{n:Nat}{out:List Int}{t x:Int}{s:ZS}(ho:out.length<=n)(ht:1<=t):(Jm n out t x s).2.at_=s.at_/\(Jm n out t x s).2.out=s.out/\(Jm n out t x s).1.length<=n/\out.length<=(Jm n out t x s).1.length/\((Jm n out t x s).2.e=0->s.e=0/\out.length<(Jm n out t x s).1.length):=by
 unfold Jm
 split
 ·rename_i h;exact⟨rfl,rfl,ho,Nat.le_refl _,fun e=>absurd e h⟩
 ·rename_i h
  have hf:=fX s 11 (by decide)
  split
  ·exact⟨hf.1,hf.2.1,ho,Nat.le_refl _,fun e=>absurd e hf.2.2⟩
  ·refine⟨rfl,rfl,?_,?_,fun e=>⟨by simpa using h,?_⟩⟩<;>simp<;>omega
theorem R7{l:List Int}{n:Nat}{out:List Int}{s:ZS}(ha:s.at_<=8*b.length)(ho:out.length<=n):(Jl (ag b) l n out s).2.at_<=8*b.length/\s.at_<=(Jl (ag b) l n out s).2.at_/\(Jl (ag b) l n out s).2.out=s.out/\(Jl (ag b) l n out s).1.length<=n/\out.length<=(Jl (ag b) l n out s).1.length/\((Jl (ag b) l n out s).2.e=0->s.e=0/\out.length<(Jl (ag b) l n out s).1.length):=by
 have hs:=vm (b:=b) (l:=l) ha
 unfold Jl
 simp only
 generalize gQ (ag b) l s=r at*
 have hn:=fun k=>db (b:=b) (n:=k) hs.1
 split
 ·have h2:=hn 2
  have hr:=M1 (x:=out.getLastD 0) (s:=(aB (ag b) 2 r.2).2) ho (t:=(aB (ag b) 2 r.2).1+3) (by omega)
  have hf:=fX r.2 11 (by decide)
  split
  ·rw[hf.1,hf.2.1]
   exact⟨hs.1,hs.2.1,hs.2.2.2.2.1,ho,Nat.le_refl _,fun e=>absurd e hf.2.2⟩
  ·refine⟨by omega,by omega,by rw[hr.2.1,h2.2.2.2.2.1];exact hs.2.2.2.2.1,hr.2.2.1,hr.2.2.2.1,fun e=>?_⟩
   have h5:=hr.2.2.2.2 e
   exact⟨(hs.2.2.2.2.2.1 (h2.2.2.2.2.2 h5.1).1).1,h5.2⟩
 grind [M1,aB,ag]
theorem R5{l:List Int}{n:Nat}:∀(f:Nat)(out:List Int)(s:ZS),s.at_<=8*b.length->out.length<=n->n<f+out.length->(Ag (ag b) l n f out s).2.at_<=8*b.length/\s.at_<=(Ag (ag b) l n f out s).2.at_/\(Ag (ag b) l n f out s).2.out=s.out/\((Ag (ag b) l n f out s).2.e=0->s.e=0/\(Ag (ag b) l n f out s).1.length=n)
 |0,out,s,_,h1,h2=>by omega
 |f+1,out,s,ha,h1,h2=>by
  rw[Ag]
  split
  ·rename_i h
   exact⟨ha,Nat.le_refl _,rfl,fun e=>⟨e,by rcases h with h|h;exact h;exact absurd e h⟩⟩
  ·have hT:=R7 (l:=l) ha h1
   by_cases he:(Jl (ag b) l n out s).2.e=0
   ·have h5:=hT.2.2.2.2.2 he
    have ih:=R5 (l:=l) f (Jl (ag b) l n out s).1 (Jl (ag b) l n out s).2 hT.1 hT.2.2.2.1 (by omega)
    exact⟨ih.1,by omega,by rw[ih.2.2.1];exact hT.2.2.1,fun e=>⟨h5.1,(ih.2.2.2 e).2⟩⟩
   ·have e1:Ag (ag b) l n f (Jl (ag b) l n out s).1 (Jl (ag b) l n out s).2=Jl (ag b) l n out s:=by
     cases f with
     |zero=>rfl
     |succ f=>rw[Ag,if_pos (.inr he)]
    rw[e1]
    exact⟨hT.1,hT.2.1,hT.2.2.1,fun e=>absurd e he⟩
theorem Ld{n:Nat}{out:List Int}{t x:Int}(h1:t<=(n:Int) -out.length)(hn:n<100000):
 iter (fun((oN,t26):(List Int)×Int)=>
  if decide (t26<t)then
   aL ((oN.length+[x].length)*8<=room)<|
   some (.inl (oN++[x],aw (t26+1)))
  else
   some (.inr oN)) (out,0)=some (out++List.replicate t.toNat x):=by
 have cf:room=140737488355328:=rfl
 refine Ds t.toNat (fun k=>out++List.replicate k x) (by simp) (by omega) (fun k hk=>?_) ?_
 ·simp only
  rw[if_pos (by simp;omega),bB (by simp;omega),List.replicate_succ',List.append_assoc]
 ·simp only
  rw[if_neg (by simp;omega)]
theorem Me{out:List Int}(h:out≠[]):ix out ((out.length -1:Nat):Int)=out.getLastD 0:=by
 have hl:0<out.length:=List.length_pos_iff.2 h
 rw[fo (by omega),List.getLastD_eq_getLast?,List.getLast?_eq_getElem?,List.getElem?_eq_getElem (by omega)];rfl
theorem aiC(hb:b.length<576460752303423488){l:List Int}(hl:Fi l)(K:Nat){n:Nat}(hn:n<1000){s:ZS}(ha:s.at_<=8*b.length):∃o,eE (pG b most s) ⟨K,l⟩ (n:Int)=some (o,pG b most (Ag (ag b) l n (n+1) [] s).2)/\((Ag (ag b) l n (n+1) [] s).2.e=0->o=(Ag (ag b) l n (n+1) [] s).1)/\o.length<=2000:=by
 generalize hR:Ag (ag b) l n (n+1) [] s=R
 suffices h:∃z:List Int×ak,eE (pG b most s) ⟨K,l⟩ (n:Int)=some z/\(z.2=pG b most R.2/\(R.2.e=0->z.1=R.1)/\z.1.length<=2000) by
  obtain⟨⟨o,S⟩,h1,h2,h3⟩:=h
  simp only at h2 h3
  subst h2
  exact⟨o,h1,h3⟩
 unfold eE
 refine fh (fun(z:List Int×ak)=>∃(f:Nat)(out:List Int)(t:ZS),z.2=pG b most t/\t.at_<=8*b.length/\out.length<=n/\n<f+out.length/\Ag (ag b) l n f out t=R/\(t.e=0->z.1=out)/\z.1.length<=2000) (fun z:List Int×ak=>if z.2.al.e_=0 then n -z.1.length+1 else 0) (fun z:List Int×ak=>z.2=pG b most R.2/\(R.2.e=0->z.1=R.1)/\z.1.length<=2000) ⟨n+1,[],s,rfl,ha,Nat.zero_le _,by simp,hR,fun _=>rfl,by simp⟩ (by simp only;split<;>simp<;>omega) ?_
 rintro⟨o,S⟩ ⟨f,out,t,rfl,hta,ho,hf,hz,Rv,hol⟩
 simp only at Rv hol⊢
 obtain⟨f,rfl⟩:∃g,f=g+1:=⟨f -1,by omega⟩
 by_cases he:t.e=0
 ·have:=Rv he;subst this
  by_cases Mg:o.length=n
  ·rw[Ag,if_pos (.inl Mg)]at hz
   subst hz
   rw[if_pos (by simp[Mg])]
   exact⟨_,rfl,rfl,fun _=>rfl,hol⟩
  ·rw[Ag,if_neg (by rintro(h|h);exact Mg h;exact h he)]at hz
   rw[if_neg (by simp[he];omega)]
   have hT:=R7 (l:=l) hta ho
   have hs:=vm (b:=b) (l:=l) hta
   refine L8 (fun z=>z=((gQ (ag b) l t).1,BH b (gQ (ag b) l t).2)) ⟨_,aaJ hb hl K hta,rfl⟩ ?_
   rintro _ rfl
   have hnn:=fun k=>db (b:=b) (n:=k) hs.1
   have hN:=fun(k:Nat)(h:k<=31)=>MJ (b:=b) hb h hs.1
   have Kd:∀(w:ZS)(o2:List Int),w.e≠0->∀g,Ag (ag b) l n g o2 w=(o2,w):=fun w o2 hw g=>by
    cases g with
    |zero=>rfl
    |succ g=>rw[Ag,if_pos (.inr hw)]
   have go:∀(x tm:Int)(u:ZS),1<=tm->tm<300->u.at_<=8*b.length->u.out=t.out->Jm n o tm x u=Jl (ag b) l n o t->
    ∃z,(if decide (tm>aw ((n:Int) -(o.length:Int)))then
     aP (ax (pG b most u).al 11) fun r20=>
     some (.inl (o,(ak.mk r20 (pG b most u).cD (pG b most u).bF)))
    else
     jn (
      iter (fun((oN,t26):(List Int)×Int)=>
       if decide (t26<tm)then
        aL ((oN.length+[x].length)*8<=room)<|
        some (.inl (oN++[x],aw (t26+1)))
       else
        some (.inr oN)) (o,0)) fun(rX:(List Int))=>
     some (.inl (rX,pG b most u)):Option ((List Int×ak)⊕(List Int×ak)))=some z/\(match z with
      |.inl z=>(∃(f:Nat)(out:List Int)(t:ZS),z.2=pG b most t/\t.at_<=8*b.length/\out.length<=n/\n<f+out.length/\Ag (ag b) l n f out t=R/\(t.e=0->z.1=out)/\z.1.length<=2000)/\(if z.2.al.e_=0 then n -z.1.length+1 else 0)<n -o.length+1
      |.inr z=>z.2=pG b most R.2/\(R.2.e=0->z.1=R.1)/\z.1.length<=2000):=by
    intro x tm u h1 h2 hua huo hru
    have hr:=M1 (x:=x) (s:=u) ho h1
    rw[ar (by omega) (by omega)]
    rw[<-hru]at hz hT
    by_cases hue:u.e=0
    ·unfold Jm at hz hr hT
     rw[if_neg (c:=u.e≠0) (by simp[hue])]at hz hr hT
     by_cases htm:tm>(n:Int) -(o.length:Int)
     ·rw[if_pos htm]at hz hr hT
      rw[if_pos (by simpa using htm)]
      refine⟨_,aj (qy u 11) rfl,⟨n+1,o,u.fail 11,?_,hT.1,ho,by omega,?_,fun _=>rfl,hol⟩,?_⟩
      ·have:=(fX u 11 (by decide)).2.1
       show ak.mk (BH b (u.fail 11)) u.out most=_
       rw[<-this]
      ·have hfe:=(fX u 11 (by decide)).2.2
       rw[Kd _ _ hfe]at hz⊢
       exact hz
      grind
     ·rw[if_neg htm]at hz hr hT
      rw[if_neg (by simpa using htm)]
      have hle:(o++List.replicate tm.toNat x).length=o.length+tm.toNat:=by simp
      refine⟨_,dI (Ld (n:=n) (by omega) (by omega)) rfl,⟨f,o++List.replicate tm.toNat x,u,rfl,hua,by rw[hle];omega,by rw[hle];omega,hz,fun _=>rfl,by rw[hle];omega⟩,?_⟩
      simp only
      rw[if_pos hue,hle];omega
    ·unfold Jm at hz hr hT
     rw[if_pos hue]at hz hr hT
     rw[Kd _ _ hue]at hz
     by_cases htm:tm>(n:Int) -(o.length:Int)
     ·rw[if_pos (by simpa using htm)]
      refine⟨_,aj (qy u 11) rfl,⟨n+1,o,u,?_,hua,ho,by omega,by rw[Kd _ _ hue];exact hz,fun h=>absurd h hue,hol⟩,?_⟩
      ·show ak.mk (BH b (u.fail 11)) u.out most=_
       unfold ZS.fail
       rw[if_neg hue]
      ·simp only
       have:(u.fail 11).e≠0:=(fX u 11 (by decide)).2.2
       rw[if_neg this];omega
     ·rw[if_neg (by simpa using htm)]
      have hle:(o++List.replicate tm.toNat x).length=o.length+tm.toNat:=by simp
      refine⟨_,dI (Ld (n:=n) (by omega) (by omega)) rfl,⟨n+1,o,u,rfl,hua,ho,by omega,by rw[Kd _ _ hue];exact hz,fun h=>absurd h hue,by rw[hle];omega⟩,?_⟩
      simp only
      rw[if_neg hue];omega
   have hl:Jl (ag b) l n o t=(if(gQ (ag b) l t).1=16 then(if o=[]then(o,(gQ (ag b) l t).2.fail 11)else Jm n o ((aB (ag b) 2 (gQ (ag b) l t).2).1+3) (o.getLastD 0) (aB (ag b) 2 (gQ (ag b) l t).2).2)
    else if(gQ (ag b) l t).1=17 then Jm n o ((aB (ag b) 3 (gQ (ag b) l t).2).1+3) 0 (aB (ag b) 3 (gQ (ag b) l t).2).2
    else if(gQ (ag b) l t).1=18 then Jm n o ((aB (ag b) 7 (gQ (ag b) l t).2).1+11) 0 (aB (ag b) 7 (gQ (ag b) l t).2).2
    else Jm n o 1 (gQ (ag b) l t).1 (gQ (ag b) l t).2):=rfl
   have hto:t.out=(gQ (ag b) l t).2.out:=hs.2.2.2.2.1.symm
   clear hR
   rw[if_pos he]
   simp only[hto]
   generalize gQ (ag b) l t=r at*
   have p2:(2:Int)^2=4:=by decide
   have p3:(2:Int)^3=8:=by decide
   have p7:(2:Int)^7=128:=by decide
   by_cases h16:r.1=16
   ·rw[if_pos h16]at hl
    rw[h16]
    rw[if_pos (by rfl)]
    by_cases ho0:o=[]
    ·subst ho0
     rw[if_pos rfl]at hl
     rw[if_pos (by rfl)]
     refine xe (fun z=>z=.inr (pG b most (r.2.fail 11))) ⟨_,aj (qy r.2 11) (by rw[<-(fX r.2 11 (by decide)).2.1]),rfl⟩ ?_
     rintro _ rfl
     rw[hl]at hz
     have hfe:=(fX r.2 11 (by decide))
     refine⟨_,rfl,⟨n+1,[],r.2.fail 11,rfl,by rw[hfe.1];exact hs.1,Nat.zero_le _,by simp,by rw[Kd _ _ hfe.2.2]at hz⊢;exact hz,fun _=>rfl,hol⟩,?_⟩
     simp only
     rw[if_neg hfe.2.2];omega
    ·rw[if_neg ho0]at hl
     have Zy:0<o.length:=List.length_pos_iff.2 ho0
     rw[if_neg (by simp;exact ho0)]
     rw[ar (n:=(o.length:Int) -1) (by omega) (by omega),bB (by omega)]
     have h2:=hnn 2
     rw[p2]at h2
     refine xe (fun z=>z=.inl (o.getLastD 0,(aB (ag b) 2 r.2).1+3,pG b most (aB (ag b) 2 r.2).2)) ⟨_,aj (hN 2 (by decide)) ?_,rfl⟩ ?_
     ·rw[show((o.length:Int) -1)=((o.length -1:Nat):Int) by omega,Me ho0]
      simp only
      rw[ar (by omega) (by omega),<-h2.2.2.2.2.1]
     ·rintro _ rfl
      obtain⟨z,hz1,hz2⟩:=go _ _ _ (by omega) (by omega) h2.1 (by rw[h2.2.2.2.2.1,hto]) hl.symm
      exact⟨z,hz1,by cases z<;>exact hz2⟩
   ·rw[if_neg h16]at hl
    rw[if_neg (by simpa using h16)]
    by_cases h17:r.1=17
    ·rw[if_pos h17]at hl
     rw[if_pos (by simpa using h17)]
     have h2:=hnn 3
     rw[p3]at h2
     refine xe (fun z=>z=.inl (0,(aB (ag b) 3 r.2).1+3,pG b most (aB (ag b) 3 r.2).2)) ⟨_,aj (hN 3 (by decide)) ?_,rfl⟩ ?_
     ·simp only
      rw[ar (by omega) (by omega),<-h2.2.2.2.2.1]
     ·rintro _ rfl
      obtain⟨z,hz1,hz2⟩:=go _ _ _ (by omega) (by omega) h2.1 (by rw[h2.2.2.2.2.1,hto]) hl.symm
      exact⟨z,hz1,by cases z<;>exact hz2⟩
    ·rw[if_neg h17]at hl
     rw[if_neg (by simpa using h17)]
     by_cases h18:r.1=18
     ·rw[if_pos h18]at hl
      rw[if_pos (by simpa using h18)]
      have h2:=hnn 7
      rw[p7]at h2
      refine xe (fun z=>z=.inl (0,(aB (ag b) 7 r.2).1+11,pG b most (aB (ag b) 7 r.2).2)) ⟨_,aj (hN 7 (by decide)) ?_,rfl⟩ ?_
      ·simp only
       rw[ar (by omega) (by omega),<-h2.2.2.2.2.1]
      ·rintro _ rfl
       obtain⟨z,hz1,hz2⟩:=go _ _ _ (by omega) (by omega) h2.1 (by rw[h2.2.2.2.2.1,hto]) hl.symm
       exact⟨z,hz1,by cases z<;>exact hz2⟩
     ·rw[if_neg h18]at hl
      rw[if_neg (by simpa using h18)]
      refine xe (fun z=>z=.inl (r.1,1,pG b most r.2)) ⟨_,rfl,rfl⟩ ?_
      rintro _ rfl
      obtain⟨z,hz1,hz2⟩:=go _ _ _ (by omega) (by omega) hs.1 hto.symm hl.symm
      exact⟨z,hz1,by cases z<;>exact hz2⟩
 ·rw[Ag,if_pos (.inr he)]at hz
  subst hz
  rw[if_pos (by simp[he])]
  exact⟨_,rfl,rfl,fun h=>absurd h he,hol⟩
theorem R6{l:List Int}{n:Nat}{w:ZS}(hw:w.e≠0)(o2:List Int)(g:Nat):Ag (ag b) l n g o2 w=(o2,w):=by
 cases g with
 |zero=>rfl
 |succ g=>rw[Ag,if_pos (.inr hw)]
end
def sv:List UInt8->Nat->Nat->Nat×Nat
 |[],a,b=>(a,b)
 |x::l,a,b=>sv l ((a+x.toNat)% 65521) ((b+(a+x.toNat)% 65521)% 65521)
theorem BM:∀(l m:List UInt8)(a b:Nat),sv (l++m) a b=sv m (sv l a b).1 (sv l a b).2
 |[],_,_,_=>rfl
 |x::l,m,a,b=>by rw[List.cons_append,sv,sv,BM l m]
theorem LI:∀(l:List UInt8)(a b:Nat),a<65521->b<65521->(sv l a b).1<65521/\(sv l a b).2<65521
 |[],_,_,h1,h2=>⟨h1,h2⟩
 |x::l,a,b,_,_=>by rw[sv];exact LI l _ _ (Nat.mod_lt _ (by decide)) (Nat.mod_lt _ (by decide))
def Na(l:List UInt8):UInt32:=dw (((65536*(sv l 1 0).2+(sv l 1 0).1:Nat):Nat):Int)
structure InB(a0 b0 k A B:Nat)(l:List UInt8):Prop where
 hA:A<=a0+255*k
 hB:2*B<=2*b0+2*(k*a0)+255*(k*(k+1))
 eA:A % 65521=(sv l a0 b0).1
 eB:B % 65521=(sv l a0 b0).2
theorem InB.step{a0 b0 k A B:Nat}{l:List UInt8}(h:InB a0 b0 k A B l)(x:UInt8):InB a0 b0 (k+1) (A+x.toNat) (B+(A+x.toNat)) (l++[x]):=by
 have hx:=x.toNat_lt
 have h1:=h.hA
 have h2:=h.hB
 have e1:(k+1)*a0=k*a0+a0:=Nat.succ_mul k a0
 have e2:(k+1)*(k+1+1)=k*(k+1)+2*(k+1):=by rw[Nat.mul_comm,show k+1+1=k+2 from rfl,Nat.add_mul,Nat.mul_comm k]
 refine⟨by omega,?_,?_,?_⟩
 ·rw[e1,e2]
  generalize k*a0=P at*
  generalize k*(k+1)=Q at*
  omega
 ·rw[BM]
  show _=((sv l a0 b0).1+x.toNat)% 65521
  rw[<-h.eA];omega
 ·rw[BM]
  show _=((sv l a0 b0).2+((sv l a0 b0).1+x.toNat)% 65521)% 65521
  rw[<-h.eA,<-h.eB];omega
theorem InB.lt{a0 b0 k A B:Nat}{l:List UInt8}(h:InB a0 b0 k A B l)(hk:k<=5552)(ha:a0<65521)(hb:b0<65521):A<4294967296/\B<4294967296:=by
 have h1:=h.hA
 have h2:=h.hB
 have e1:k*a0<=5552*65520:=Nat.mul_le_mul hk (by omega)
 have e2:k*(k+1)<=5552*5553:=Nat.mul_le_mul hk (by omega)
 generalize k*a0=P at*
 generalize k*(k+1)=Q at*
 omega
theorem abr(x:UInt8):((dw (x.toNat:Int)).toNat:Int)=(x.toNat:Int):=by
 have:=x.toNat_lt
 rw[fJ _ (by omega)]
theorem aaG(p:List UInt8){n:Nat}(hn:n<=5552)(hp:p.length=n){a b:UInt32}(ha:a.toNat<65521)(hb:b.toNat<65521)(N:Int):∃z:UInt32×UInt32×Int,iter (fun((a15,b16,n17,t18,t19,t20):UInt32×UInt32×Int×(List UInt8)×Int×Int)=>
 if decide (t20<t19)then
  aL (0<=t20/\t20<t18.length)<|
  some (.inl (dw ((a15.toNat:Int)+((dw (((ix t18 t20).toNat:Int))).toNat:Int)),dw ((b16.toNat:Int)+((dw ((a15.toNat:Int)+((dw (((ix t18 t20).toNat:Int))).toNat:Int))).toNat:Int)),n17,t18,t19,aw (t20+1)))
 else
  some (.inr (a15,b16,n17))) (a,b,N,p,(p.length:Int),0)=some z/\(z.2.2=N/\z.1.toNat % 65521=(sv p a.toNat b.toNat).1/\z.2.1.toNat % 65521=(sv p a.toNat b.toNat).2):=by
 refine fh (fun(s:UInt32×UInt32×Int×(List UInt8)×Int×Int)=>∃(k:Nat)(A B:UInt32),k<=n/\s=(A,B,N,p,(p.length:Int),(k:Int))/\InB a.toNat b.toNat k A.toNat B.toNat (p.take k)) (fun s=>(n -s.2.2.2.2.2).toNat) _ ⟨0,a,b,Nat.zero_le _,rfl,⟨by omega,by omega,Nat.mod_eq_of_lt ha,Nat.mod_eq_of_lt hb⟩⟩ (by simp;omega) ?_
 rintro _ ⟨k,A,B,hk,rfl,h⟩
 simp only
 by_cases hlt:k<n
 ·have Mk:k<p.length:=by omega
  have hix:ix p (k:Int)=p[k]:=fo Mk
  have h2:=h.step p[k]
  rw[<-List.take_succ_eq_append_getElem Mk]at h2
  have hl:=h2.lt (by omega) ha hb
  rw[if_pos (by simp;omega),bB (by omega),hix,abr,ar (n:=(k:Int)+1) (by omega) (by omega)]
  have e1:(dw ((A.toNat:Int)+(p[k].toNat:Int))).toNat=A.toNat+p[k].toNat:=by rw[show(A.toNat:Int)+(p[k].toNat:Int)=((A.toNat+p[k].toNat:Nat):Int) by omega,fJ _ (by omega)]
  have e2:(dw ((B.toNat:Int)+((dw ((A.toNat:Int)+(p[k].toNat:Int))).toNat:Int))).toNat=B.toNat+(A.toNat+p[k].toNat):=by rw[e1,show(B.toNat:Int)+((A.toNat+p[k].toNat:Nat):Int)=((B.toNat+(A.toNat+p[k].toNat):Nat):Int) by omega,fJ _ (by omega)]
  grind
 ·rw[List.take_of_length_le (by omega)]at h
  rw[if_neg (by simp;omega)]
  exact⟨_,rfl,rfl,h.eA,h.eB⟩
theorem VK(x:UInt32):(dw (Int.tmod (x.toNat:Int) 65521)).toNat=x.toNat % 65521:=by
 have:=x.toNat_lt
 rw[Int.tmod_eq_emod_of_nonneg (by omega),show(x.toNat:Int)% 65521=((x.toNat % 65521:Nat):Int) by omega,fJ _ (by omega)]
theorem aaF(l:List UInt8)(hl:l.length<576460752303423488):pK l=some (Na l):=by
 unfold pK
 have hz:=LI l 1 0 (by decide) (by decide)
 refine aj (a:=dU.mk (dw ((((sv l 1 0).1+65520)% 65521:Nat):Int)) (dw ((sv l 1 0).2:Nat))) ?_ ?_
 ·suffices h:∃x,eS (dU.mk 0 0) l=some x/\x=dU.mk (dw ((((sv l 1 0).1+65520)% 65521:Nat):Int)) (dw ((sv l 1 0).2:Nat)) by
   obtain⟨x,h1,rfl⟩:=h;exact h1
  unfold eS
  refine XE (fun z=>z.1.toNat=(sv l 1 0).1/\z.2.toNat=(sv l 1 0).2) (fh (fun(s:(List UInt8)×UInt32×UInt32)=>∃k:Nat,k<=l.length/\s.1=l.drop k/\s.2.1.toNat=(sv (l.take k) 1 0).1/\s.2.2.toNat=(sv (l.take k) 1 0).2) (fun s=>s.1.length) _ ⟨0,Nat.zero_le _,rfl,rfl,rfl⟩ (by simp;omega) ?_) ?_
  ·rintro⟨p,a,b⟩ ⟨k,hk,rfl,ha,hb⟩
   simp only at ha hb⊢
   have hlt:=LI (l.take k) 1 0 (by decide) (by decide)
   by_cases hp:k<l.length
   ·have hpl:(l.drop k).length=l.length -k:=List.length_drop ..
    rw[if_pos (by simp;omega)]
    have ad2:part (l.drop k) 0 (min ((l.drop k).length:Int) 5552)=(l.drop k).take (min (l.length -k) 5552):=by
     unfold part
     rw[show(min ((l.drop k).length:Int) 5552 -0).toNat=min (l.length -k) 5552 by omega];rfl
    have hB:=aaG ((l.drop k).take (min (l.length -k) 5552)) (n:=min (l.length -k) 5552) (by omega) (by rw[List.length_take];omega) (a:=a) (b:=b) (by omega) (by omega) (min ((l.drop k).length:Int) 5552)
    rw[ha,hb,<-BM,show l.take k++(l.drop k).take (min (l.length -k) 5552)=l.take (k+min (l.length -k) 5552) by rw[List.take_add]]at hB
    rw[bB (by omega),ad2]
    refine XE _ hB ?_
    rintro⟨A,B,N⟩ ⟨rfl,h2,h3⟩
    simp only at h2 h3⊢
    rw[bB (by omega)]
    refine⟨_,rfl,⟨k+min (l.length -k) 5552,by omega,?_,by rw[VK];exact h2,by rw[VK];exact h3⟩,?_⟩
    ·unfold part
     simp only
     rw[List.take_of_length_le (by rw[List.length_drop];omega),List.drop_drop]
     congr 1;omega
    grind [part,List.take_of_length_le,List.length_drop]
   ·rw[if_neg (by simp;omega)]
    rw[List.take_of_length_le (by omega)]at ha hb
    exact⟨_,rfl,ha,hb⟩
  ·rintro⟨A,B⟩ ⟨h2,h3⟩
   simp only at h2 h3⊢
   refine⟨_,rfl,?_⟩
   have e1:(dw ((A.toNat:Int)+65521)).toNat=(sv l 1 0).1+65521:=by rw[h2,show(((sv l 1 0).1:Nat):Int)+65521=(((sv l 1 0).1+65521:Nat):Int) by omega,fJ _ (by omega)]
   have e2:(dw (((dw ((A.toNat:Int)+65521)).toNat:Int) -1)).toNat=(sv l 1 0).1+65520:=by rw[e1,show((((sv l 1 0).1+65521:Nat)):Int) -1=(((sv l 1 0).1+65520:Nat):Int) by omega,fJ _ (by omega)]
   grind [dw,Int.tmod,sv,UInt32.toNat_inj,VK,fJ]
 ·unfold eG Na
  rw[aJ]
  generalize(sv l 1 0).1=a at*
  generalize(sv l 1 0).2=b at*
  have e1:(dw (Int.tmod ((dw (((dw ((((a+65520)% 65521:Nat)):Int)).toNat:Int)+1)).toNat:Int) 65521)).toNat=a:=by rw[VK,fJ _ (by omega),show((((a+65520)% 65521:Nat)):Int)+1=(((a+65520)% 65521+1:Nat):Int) by omega,fJ _ (by omega)];omega
  have e2:(dw (kl .u32 ((dw (b:Int)).toNat:Int) 16)).toNat=65536*b:=by
   rw[fJ _ (by omega)]
   have:kl .u32 (b:Int) 16=((65536*b:Nat):Int):=by
    show(b:Int)*65536=_
    omega
   rw[this,fJ _ (by omega)]
  simp only[e1,e2]
  have e3:Fk .u32 ((65536*b:Nat):Int) (a:Int)=((65536*b+a:Nat):Int):=by
   unfold Fk
   show(((BitVec.ofNat 32 (65536*b)|||BitVec.ofNat 32 a).toNat:Nat):Int)=_
   rw[BitVec.toNat_or,BitVec.toNat_ofNat,BitVec.toNat_ofNat,Nat.mod_eq_of_lt (by omega),Nat.mod_eq_of_lt (by omega)]
   have:=Nat.two_pow_add_eq_or_of_lt (i:=16) (b:=a) (by omega) b
   rw[<-show 65536*b+a=65536*b |||a from this]
  rw[e3]
def YK(x:UInt32):List UInt8:=[UInt8.ofNat (x.toNat/16777216),UInt8.ofNat (x.toNat/65536),UInt8.ofNat (x.toNat/256),UInt8.ofNat x.toNat]
theorem Jb(n:Nat):gX (n:Int)=UInt8.ofNat n:=by
 unfold gX
 rw[Ez _ _ rfl]
 have:(2^IntKind.u8.bits:Int)=256:=by decide
 rw[this]
 refine UInt8.toNat_inj.1 ?_
 rw[UInt8.toNat_ofNat',UInt8.toNat_ofNat']
 omega
theorem abf(x:UInt32)(k:Nat)(hk:k<32):(dw (jA .u32 (x.toNat:Int) (k:Int))).toNat=x.toNat/2^k:=by
 have hx:=x.toNat_lt
 have:jA .u32 (x.toNat:Int) (k:Int)=((x.toNat/2^k:Nat):Int):=by
  unfold jA
  rw[Int.toNat_natCast,show min k IntKind.u32.bits=k from Nat.min_eq_left (by show k<=32;omega)]
  rw[show(2:Int)^k=((2^k:Nat):Int) by simp,Int.fdiv_eq_ediv_of_nonneg _ (Int.natCast_nonneg _)];rfl
 have hle:=Nat.div_le_self x.toNat (2^k)
 rw[this,fJ _ (by omega)]
theorem aaH(x:UInt32):lM x=some (YK x):=by
 unfold lM YK
 have h24:=abf x 24 (by decide)
 have h16:=abf x 16 (by decide)
 have h8:=abf x 8 (by decide)
 simp only[Nat.reducePow]at h24 h16 h8
 rw[show((24:Nat):Int)=24 from rfl]at h24
 rw[show((16:Nat):Int)=16 from rfl]at h16
 rw[show((8:Nat):Int)=8 from rfl]at h8
 rw[h24,h16,h8,Jb,Jb,Jb,Jb]
def Rp(b:List UInt8):Int:=match b with
 |c::d::_=>if c.toNat % 16=8/\c.toNat/16<=7/\d.toNat/32 % 2=0/\(256*c.toNat+d.toNat)% 31=0 then 0 else 11
 |_=>10
theorem Zu(c d:UInt8):aw (Fk .i64 (aw (kl .i64 (aw (c.toNat:Int)) 8)) (aw (d.toNat:Int)))=((256*c.toNat+d.toNat:Nat):Int):=by
 have hc:=c.toNat_lt
 have hd:=d.toNat_lt
 generalize c.toNat=x at*
 generalize d.toNat=y at*
 rw[ar (n:=(x:Int)) (by omega) (by omega),ar (n:=(y:Int)) (by omega) (by omega)]
 have:kl .i64 (x:Int) 8=((256*x:Nat):Int):=by
  show(x:Int)*256=_
  omega
 rw[this,ar (n:=((256*x:Nat):Int)) (by omega) (by omega)]
 have e3:Fk .i64 ((256*x:Nat):Int) (y:Int)=((256*x+y:Nat):Int):=by
  unfold Fk
  show(((BitVec.ofNat 64 (256*x)|||BitVec.ofNat 64 y).toNat:Nat):Int)=_
  rw[BitVec.toNat_or,BitVec.toNat_ofNat,BitVec.toNat_ofNat,Nat.mod_eq_of_lt (by omega),Nat.mod_eq_of_lt (by omega)]
  have:=Nat.two_pow_add_eq_or_of_lt (i:=8) (b:=y) (by omega) x
  rw[<-show 256*x+y=256*x |||y from this]
 grind [ar]
theorem U6(p q r:Bool)(P Q R:Prop)[Decidable P][Decidable Q][Decidable R](n:Nat)(hp:p=decide (¬P))(hq:q=decide (¬Q))(hr:r=decide (¬R)):(if(((p||q)||r)||((Int.tmod (n:Int) 31)!=0))=true then some (11:Int)else some 0)=some (if P/\Q/\R/\n % 31=0 then 0 else 11):=by
 have:Int.tmod (n:Int) 31=((n % 31:Nat):Int):=by rw[Int.tmod_eq_emod_of_nonneg (by omega)];rfl
 rw[this]
 subst hp hq hr
 generalize n % 31=m
 cases m<;>by_cases hP:P<;>by_cases hQ:Q<;>by_cases hR:R<;>simp[hP,hQ,hR]<;>omega
theorem ae7(b:List UInt8):ou b=some (Rp b):=by
 unfold ou
 match b with
 |[]=>rfl
 |[c]=>rfl
 |c::d::l=>
  have h0:ix (c::d::l) 0=c:=rfl
  have h1:ix (c::d::l) 1=d:=rfl
  have hp:=of_decide_eq_true (mK (fun c=>decide ((((gX (o6 .u8 (c.toNat:Int) 15)).toNat:Int)!=8)=decide (¬c.toNat % 16=8))) (by decide+kernel) c)
  have hq:=of_decide_eq_true (mK (fun c=>decide (decide (((gX (jA .u8 (c.toNat:Int) 4)).toNat:Int)>7)=decide (¬c.toNat/16<=7))) (by decide+kernel) c)
  have hr:=of_decide_eq_true (mK (fun d=>decide ((((gX (o6 .u8 (d.toNat:Int) 32)).toNat:Int)!=0)=decide (¬d.toNat/32 % 2=0))) (by decide+kernel) d)
  rw[if_neg (by simp;omega),bB (by simp;omega),bB (by simp;omega),bB (by simp;omega),bB (by simp;omega),bB (by simp;omega),h0,h1,Zu]
  exact U6 _ _ _ _ _ _ _ hp hq hr
def rv:List Int:=[16,17,18,0,8,7,9,6,10,5,11,4,12,3,13,2,14,1,15]
def mH:List Int:=(List.range 288).map fun k=>if k<144\/k>279 then 8 else if k<256 then 9 else 7
def mG:List Int:=List.replicate 30 5
def KV(B:List Bool):List Int->List Int->ZS->List Int×ZS
 |[],of,s=>(of,s)
 |a::r,of,s=>KV B r (Jd of a (aB B 3 s).1) (aB B 3 s).2
def jI(B:List Bool)(s:ZS):Int×Int×Int×ZS:=
 let n:=aB B 5 s
 let m:=aB B 5 n.2
 let k:=aB B 4 m.2
 (n.1+257,m.1+1,k.1+4,if n.1+257>286\/m.1+1>30 then k.2.fail 11 else k.2)
def nJ(B:List Bool)(s:ZS):List Int×ZS:=
 let h:=jI B s
 let o:=KV B (rv.take h.2.2.1.toNat) (List.replicate 19 0) h.2.2.2
 Ag B o.1 (h.1+h.2.1).toNat ((h.1+h.2.1).toNat+1) [] (kv o.1 o.2)
def lP(B:List Bool)(s:ZS):List Int×List Int×ZS:=
 let l:=nJ B s
 let n:=(jI B s).1.toNat
 if l.2.e≠0 then([],[],l.2)else(l.1.take n,l.1.drop n,kv (l.1.drop n) (kv (l.1.take n) (if l.1.getD 256 0=0 then l.2.fail 11 else l.2)))
def JR(b:List UInt8)(most:Int)(s:ZS):ZS:=vD (ag b) most (lP (ag b) s).1 (lP (ag b) s).2.1 (8*b.length+2) (lP (ag b) s).2.2
def zG(b:List UInt8)(most:Int)(s:ZS):Bool×ZS:=
 let l:=aB (ag b) 1 s
 let k:=aB (ag b) 2 l.2
 let z:=if k.2.e≠0 then k.2 else if k.1=0 then Ej (ag b) most k.2 else if k.1=1 then vD (ag b) most mH mG (8*b.length+2) k.2 else if k.1=2 then JR b most k.2 else k.2.fail 11
 (decide (l.1=1)||decide (z.e≠0),z)
def zQ(b:List UInt8)(most:Int):Nat->ZS->ZS
 |0,s=>s
 |f+1,s=>if(zG b most s).1 then(zG b most s).2 else zQ b most f (zG b most s).2
def re(b:List UInt8)(most:Int):List UInt8×Int×Int:=
 if most<0\/most>16777216 then([],0,2)else
  let z:=zQ b most (8*b.length+2) ⟨0,0,[]⟩
  if z.e≠0 then([],0,z.e)else(z.out,(((z.at_+7)/8:Nat):Int),0)
def wc(b:List UInt8)(most:Int):List UInt8×Int×Int:=
 if most<0\/most>16777216 then([],0,2)else if Rp b≠0 then([],0,Rp b)else
  let r:=re (b.drop 2) most
  if r.2.2≠0 then([],0,r.2.2)else if(b.length:Int)<r.2.1+6 then([],0,10)else if(b.drop (r.2.1+2).toNat).take 4≠YK (Na r.1)then([],0,12)else(r.1,r.2.1+6,0)
section
variable{b:List UInt8}{most:Int}
theorem Zh:Fi mH/\Fi mG/\0<=Oa mH/\0<=Oa mG:=by
 have h1:0<=Oa mH:=by decide+kernel
 have h2:0<=Oa mG:=by decide+kernel
 exact⟨Ie h1,Ie h2,h1,h2⟩
theorem MG:∀(r of:List Int)(s:ZS),s.at_<=8*b.length->(KV (ag b) r of s).2.at_<=8*b.length/\s.at_<=(KV (ag b) r of s).2.at_/\(KV (ag b) r of s).2.out=s.out/\((KV (ag b) r of s).2.e=0->s.e=0)
 |[],_,_,h=>⟨h,Nat.le_refl _,rfl,fun h=>h⟩
 |a::r,of,s,h=>by
  have hn:=db (b:=b) (n:=3) h
  have ih:=MG r (Jd of a (aB (ag b) 3 s).1) (aB (ag b) 3 s).2 hn.1
  rw[KV]
  exact⟨ih.1,by omega,by rw[ih.2.2.1,hn.2.2.2.2.1],fun e=>(hn.2.2.2.2.2 (ih.2.2.2 e)).1⟩
theorem NC{s:ZS}(h:s.at_<=8*b.length):(jI (ag b) s).2.2.2.at_<=8*b.length/\s.at_<=(jI (ag b) s).2.2.2.at_/\(jI (ag b) s).2.2.2.out=s.out/\257<=(jI (ag b) s).1/\(jI (ag b) s).1<=288/\1<=(jI (ag b) s).2.1/\(jI (ag b) s).2.1<=32/\4<=(jI (ag b) s).2.2.1/\(jI (ag b) s).2.2.1<=19/\((jI (ag b) s).2.2.2.e=0->s.e=0):=by
 have p5:(2:Int)^5=32:=by decide
 have p4:(2:Int)^4=16:=by decide
 have h1:=db (b:=b) (n:=5) h
 have h2:=db (b:=b) (n:=5) h1.1
 have h3:=db (b:=b) (n:=4) h2.1
 unfold jI
 simp only
 rw[p5]at h1 h2
 rw[p4]at h3
 have hf:=fX (aB (ag b) 4 (aB (ag b) 5 (aB (ag b) 5 s).2).2).2 11 (by decide)
 refine⟨?_,?_,?_,by omega,by omega,by omega,by omega,by omega,by omega,?_⟩
 ·split
  ·rw[hf.1];exact h3.1
  ·exact h3.1
 ·split
  ·rw[hf.1];omega
  ·omega
 ·split
  ·rw[hf.2.1,h3.2.2.2.2.1,h2.2.2.2.2.1,h1.2.2.2.2.1]
  ·rw[h3.2.2.2.2.1,h2.2.2.2.2.1,h1.2.2.2.2.1]
 ·split
  ·exact fun e=>absurd e hf.2.2
  ·exact fun e=>(h1.2.2.2.2.2 (h2.2.2.2.2.2 (h3.2.2.2.2.2 e).1).1).1
theorem ND{s:ZS}(h:s.at_<=8*b.length):(nJ (ag b) s).2.at_<=8*b.length/\s.at_<=(nJ (ag b) s).2.at_/\(nJ (ag b) s).2.out=s.out/\((nJ (ag b) s).2.e=0->s.e=0/\((nJ (ag b) s).1.length:Int)=(jI (ag b) s).1+(jI (ag b) s).2.1):=by
 have h1:=NC (b:=b) h
 have h2:=MG (b:=b) (rv.take (jI (ag b) s).2.2.1.toNat) (List.replicate 19 0) _ h1.1
 have h3:=yj (KV (ag b) (rv.take (jI (ag b) s).2.2.1.toNat) (List.replicate 19 0) (jI (ag b) s).2.2.2).1 (KV (ag b) (rv.take (jI (ag b) s).2.2.1.toNat) (List.replicate 19 0) (jI (ag b) s).2.2.2).2
 have h4:=R5 (b:=b) (l:=(KV (ag b) (rv.take (jI (ag b) s).2.2.1.toNat) (List.replicate 19 0) (jI (ag b) s).2.2.2).1) (n:=((jI (ag b) s).1+(jI (ag b) s).2.1).toNat) (((jI (ag b) s).1+(jI (ag b) s).2.1).toNat+1) [] _ (by rw[h3.1];exact h2.1) (Nat.zero_le _) (by simp)
 unfold nJ
 simp only
 refine⟨h4.1,by omega,by rw[h4.2.2.1,h3.2.1,h2.2.2.1,h1.2.2.1],fun e=>?_⟩
 have h5:=h4.2.2.2 e
 exact⟨h1.2.2.2.2.2.2.2.2.2 (h2.2.2.2 (h3.2.2 h5.1).1),by rw[h5.2];omega⟩
theorem NF{s:ZS}(h:ZI b most s):ZI b most (lP (ag b) s).2.2/\s.at_<=(lP (ag b) s).2.2.at_/\((lP (ag b) s).2.2.e=0->s.e=0/\0<=Oa (lP (ag b) s).1/\0<=Oa (lP (ag b) s).2.1):=by
 have h1:=ND (b:=b) h.1
 unfold lP
 simp only
 split
 ·rename_i he
  exact⟨⟨h1.1,by rw[h1.2.2.1];exact h.2⟩,h1.2.1,fun e=>absurd e he⟩
 ·rename_i he
  have he:(nJ (ag b) s).2.e=0:=by simpa using he
  have hf:=fX (nJ (ag b) s).2 11 (by decide)
  have hz:∀z:ZS,z=(if(nJ (ag b) s).1.getD 256 0=0 then(nJ (ag b) s).2.fail 11 else(nJ (ag b) s).2)->z.at_=(nJ (ag b) s).2.at_/\z.out=(nJ (ag b) s).2.out:=by
   rintro z rfl
   split
   ·exact⟨hf.1,hf.2.1⟩
   ·exact⟨rfl,rfl⟩
  generalize hzz:(if(nJ (ag b) s).1.getD 256 0=0 then(nJ (ag b) s).2.fail 11 else(nJ (ag b) s).2)=z at*
  have hz:=hz z rfl
  have c1:=yj ((nJ (ag b) s).1.take (jI (ag b) s).1.toNat) z
  have c2:=yj ((nJ (ag b) s).1.drop (jI (ag b) s).1.toNat) (kv ((nJ (ag b) s).1.take (jI (ag b) s).1.toNat) z)
  refine⟨⟨by rw[c2.1,c1.1,hz.1];exact h1.1,by rw[c2.2.1,c1.2.1,hz.2,h1.2.2.1];exact h.2⟩,by rw[c2.1,c1.1,hz.1];exact h1.2.1,fun e=>⟨(h1.2.2.2 he).1,(c1.2.2 (c2.2.2 e).1).2,(c2.2.2 e).2⟩⟩
theorem OC:∀(k:Nat)(s:ZS),ZI b most s->ZI b most (FH (ag b) most k s)
 |0,_,h=>h
 |k+1,s,h=>by
  rw[FH]
  split
  ·exact h
  ·have hn:=db (b:=b) (n:=8) h.1
   exact OC k _ (Ol ⟨hn.1,by rw[hn.2.2.2.2.1];exact h.2⟩)
theorem WA{s:ZS}(h:ZI b most s):ZI b most (Ej (ag b) most s):=by
 have hH:=I2 (b:=b) h.1
 have h1:=db (b:=b) (n:=16) (s:={s with at_:=(s.at_+7)/8*8}) (by simp only;have:=h.1;omega)
 have h2:=db (b:=b) (n:=16) h1.1
 refine OC _ _ ⟨hH.1,?_⟩
 have:(ux (ag b) s).2.out=s.out:=by
  unfold ux
  simp only
  split
  ·rw[(fX _ 11 (by decide)).2.1,h2.2.2.2.2.1,h1.2.2.2.2.1]
  ·rw[h2.2.2.2.2.1,h1.2.2.2.2.1]
 rw[this];exact h.2
theorem Nn{s:ZS}(h:ZI b most s):ZI b most (zG b most s).2/\s.at_<=(zG b most s).2.at_/\((zG b most s).1=false->(zG b most s).2.e=0/\s.e=0/\s.at_<(zG b most s).2.at_):=by
 have h1:=db (b:=b) (n:=1) h.1
 have h2:=db (b:=b) (n:=2) h1.1
 have hk:ZI b most (aB (ag b) 2 (aB (ag b) 1 s).2).2:=⟨h2.1,by rw[h2.2.2.2.2.1,h1.2.2.2.2.1];exact h.2⟩
 unfold zG
 simp only
 generalize hz:(if(aB (ag b) 2 (aB (ag b) 1 s).2).2.e≠0 then(aB (ag b) 2 (aB (ag b) 1 s).2).2 else if(aB (ag b) 2 (aB (ag b) 1 s).2).1=0 then Ej (ag b) most (aB (ag b) 2 (aB (ag b) 1 s).2).2 else if(aB (ag b) 2 (aB (ag b) 1 s).2).1=1 then vD (ag b) most mH mG (8*b.length+2) (aB (ag b) 2 (aB (ag b) 1 s).2).2 else if(aB (ag b) 2 (aB (ag b) 1 s).2).1=2 then JR b most (aB (ag b) 2 (aB (ag b) 1 s).2).2 else(aB (ag b) 2 (aB (ag b) 1 s).2).2.fail 11)=z
 have hr:ZI b most z/\(aB (ag b) 2 (aB (ag b) 1 s).2).2.at_<=z.at_/\(z.e=0->(aB (ag b) 2 (aB (ag b) 1 s).2).2.e=0):=by
  subst hz
  split
  ·exact⟨hk,Nat.le_refl _,fun e=>e⟩
  ·rename_i he
   have he:(aB (ag b) 2 (aB (ag b) 1 s).2).2.e=0:=by simpa using he
   split
   ·exact⟨WA hk,(WB hk.1).2,fun _=>he⟩
   ·split
    ·have:=Hz (lt:=mH) (ld:=mG) (8*b.length+2) _ hk
     exact⟨this.1,this.2,fun _=>he⟩
    ·split
     ·have d1:=NF hk
      have:=Hz (lt:=(lP (ag b) (aB (ag b) 2 (aB (ag b) 1 s).2).2).1) (ld:=(lP (ag b) (aB (ag b) 2 (aB (ag b) 1 s).2).2).2.1) (8*b.length+2) _ d1.1
      unfold JR
      exact⟨this.1,by omega,fun _=>he⟩
     ·have hf:=fX (aB (ag b) 2 (aB (ag b) 1 s).2).2 11 (by decide)
      exact⟨⟨by rw[hf.1];exact hk.1,by rw[hf.2.1];exact hk.2⟩,by rw[hf.1];exact Nat.le_refl _,fun _=>he⟩
 refine⟨hr.1,by omega,fun e=>?_⟩
 simp only[Bool.or_eq_false_iff,decide_eq_false_iff_not,ne_eq,Decidable.not_not]at e
 have e2:=h2.2.2.2.2.2 (hr.2.2 e.2)
 have e1:=h1.2.2.2.2.2 e2.1
 exact⟨e.2,e1.1,by omega⟩
end
end Go.AB
end
section
set_option maxRecDepth 4000
namespace Go.AB
open Go
open Go.Proofs.Tryz (prog)
attribute[-go_sem] Nat.add_zero pj cT ck cN bK cj
abbrev stC(BR:Nat)(most:Int)(z:ZS):List AV:=[.ref BR 0,.int .i64 z.e,.sl true 1 z.out.length (flat z.out),.int .i64 most]
abbrev rdZ(b:List UInt8)(z:ZS):List AV:=[.int .i64 (z.at_:Int),.bool false,.bool true,.sl false 1 b.length (flat b)]
structure pI(s0 s:ae)(b:List UInt8)(most:Int)(B BR:Nat)(z:ZS):Prop where
 n0:s0 B=none
 n1:s0 BR=none
 ne:B≠BR
 sub:Sub s0 s
 hB:s B=some (.cells (stC BR most z))
 hR:s BR=some (.cells (rdZ b z))
theorem pI.Lq{s0 s:ae}{b:List UInt8}{most:Int}{B BR:Nat}{z:ZS}(h:pI s0 s b most B BR z)(z':ZS):pI s0 ((s.set B (.cells (stC BR most z'))).set BR (.cells (rdZ b z'))) b most B BR z':=by
 refine⟨h.n0,h.n1,h.ne,fun x o hx=>?_,by rw[ah h.ne,ch],ch⟩
 have h1:x≠B:=fun e=>by subst e;rw[h.n0]at hx;cases hx
 have h2:x≠BR:=fun e=>by subst e;rw[h.n1]at hx;cases hx
 rw[ah h2,ah h1]
 exact h.sub _ _ hx
theorem pI.more{s0 s s':ae}{b:List UInt8}{most:Int}{B BR:Nat}{z:ZS}(h:pI s0 s b most B BR z)(hs:Sub s s'):pI s0 s' b most B BR z:=⟨h.n0,h.n1,h.ne,fun x o hx=>hs _ _ (h.sub x o hx),hs _ _ h.hB,hs _ _ h.hR⟩
theorem pI.off{s0 s s':ae}{b:List UInt8}{most:Int}{B BR:Nat}{z:ZS}(h:pI s0 s b most B BR z){y:Nat}(hy:s0 y=none)(h1:y≠B)(h2:y≠BR)(hs:∀x,x≠y->s' x=s x):pI s0 s' b most B BR z:=
 ⟨h.n0,h.n1,h.ne,fun x o hx=>by
   have:x≠y:=fun e=>by subst e;rw[hy]at hx;cases hx
   rw[hs x this];exact h.sub x o hx,by rw[hs B h1.symm];exact h.hB,by rw[hs BR h2.symm];exact h.hR⟩
theorem pI.tab{s0 s:ae}{b:List UInt8}{most:Int}{B BR:Nat}{z:ZS}(h:pI s0 s b most B BR z)(p q:SO){x:HT}(hx:gv s x):gv ((s.set B p).set BR q) x:=hx.IV h.hB (zj _ _ _) h.hR (zi _ _ _ _) h.ne
section
variable{s0 s:ae}{b:List UInt8}{most:Int}{B BR:Nat}{z:ZS}{Q:List AV->ae->Prop}
theorem Am(hS:pI s0 s b most B BR z)(hb:b.length<72057594037927936){n:Nat}(hn:n<=31)(hz:ZI b most z)(hq:∀s',pI s0 s' b most B BR (aB (ag b) n z).2->(∀x,gv s x->gv s' x)->(∀y,y≠B->y≠BR->s' y=s y)->Q [.int .i64 (aB (ag b) n z).1] s'):FN prog 170 [.ref B 0,.int .i64 (n:Int)] s Q:=by
 have hl:=db (b:=b) (n:=n) hz.1
 refine bM (s_0:=BH b z) (n_1:=(n:Int)) (preB0:=[]) (postB0:=[.sl true 1 z.out.length (flat z.out),.int .i64 most]) hS.hB hS.hR rfl hS.ne ⟨_,MJ (by omega) hn hz.1,?_⟩
 have ho:z.out=(aB (ag b) n z).2.out:=hl.2.2.2.2.1.symm
 rw[ho]
 exact hq _ (hS.Lq _) (fun x hx=>hS.tab _ _ hx) fun y h1 h2=>(ah h2).trans (ah h1)
theorem yq(hS:pI s0 s b most B BR z)(e:Int)(hq:∀s',pI s0 s' b most B BR (z.fail e)->(∀x,gv s x->gv s' x)->(∀y,y≠B->y≠BR->s' y=s y)->Q [] s'):FN prog 176 [.ref B 0,.int .i64 e] s Q:=by
 refine bA (s_0:=BH b z) (e_1:=e) (preB0:=[]) (postB0:=[.sl true 1 z.out.length (flat z.out),.int .i64 most]) hS.hB hS.hR rfl hS.ne ⟨_,qy z e,?_⟩
 have ho:z.out=(z.fail e).out:=by unfold ZS.fail;split<;>rfl
 rw[ho]
 exact hq _ (hS.Lq _) (fun x hx=>hS.tab _ _ hx) fun y h1 h2=>(ah h2).trans (ah h1)
theorem P9(hS:pI s0 s b most B BR z)(hb:b.length<72057594037927936)(hM:most<=16777216)(hz:ZI b most z)(hq:∀s',pI s0 s' b most B BR (Ej (ag b) most z)->Q [] s'):FN prog 171 [.ref B 0] s Q:=pX (s_0:=pG b most z) hS.hB hS.hR hS.ne ⟨_,V1 (by omega) hM hz.1,hq _ (hS.Lq _)⟩
theorem JH(hS:pI s0 s b most B BR z)(hb:b.length<72057594037927936)(hM:most<=16777216)(hz:ZI b most z){t d:HT}(ht:gv s t)(hd:gv s d)(hq:∀s',pI s0 s' b most B BR (vD (ag b) most t.lens d.lens (8*b.length+2) z)->Q [] s'):FN prog 173 [.ref B 0,.ref t.B 0,.ref d.B 0] s Q:=rf (s_0:=pG b most z) hS.hB hS.hR hS.ne ht hd ⟨_,aaI (by omega) hM ht.1 hd.1 t.B d.B hz,hq _ (hS.Lq _)⟩
theorem VC(hS:pI s0 s b most B BR z)(hb:b.length<72057594037927936)(hz:ZI b most z){t:HT}(ht:gv s t){n:Nat}(hn:n<1000)(hq:∀s' o,pI s0 s' b most B BR (Ag (ag b) t.lens n (n+1) [] z).2->((Ag (ag b) t.lens n (n+1) [] z).2.e=0->o=(Ag (ag b) t.lens n (n+1) [] z).1)->Q [.sl true 1 o.length (flat o)] s'):FN prog 231 [.ref B 0,.ref t.B 0,.int .i64 (n:Int)] s Q:=by
 obtain⟨o,h1,h2,_⟩:=aiC (b:=b) (most:=most) (by omega) ht.1 t.B hn hz.1
 exact po (s_0:=pG b most z) hS.hB hS.hR hS.ne ht ⟨_,h1,hq _ o (hS.Lq _) h2⟩
end
end Go.AB
end
section
set_option maxRecDepth 16000
namespace Go.AB
open Go
open Go.Proofs.Tryz (prog)
attribute[-go_sem] ck cN bK cj
@[go_sem]theorem ajo(g:Bool):(g=true->(2:Int)≠0)=True:=eq_true (fun _=>by decide)
def iW(t_0:aC):Option (Bool):=some ((t_0.Kind==1)&&(t_0.V.Kind==2))
def tx:IC:=dec 0x16f1440b844ae3ea6d1cde8652f01354bd3b953622ebee9632d28a8b77e3684e9995b
theorem Dj:aS prog 73 12 [⟨2,true,none⟩] tx=true:=by kernel_rfl
theorem DV{t_0}{s:ae}{Q:List AV->ae->Prop}:ok (iW t_0) (fun r=>Q [.bool r] s)->FN prog 73 [.agg [.int .i64 t_0.Kind,.int .i64 t_0.mY,.int .i64 t_0.To,.int .i64 t_0.V.Kind,.int .i64 t_0.V.N,.str t_0.V.S.b,sF 4 t_0.V.L,.str t_0.S.b]] s Q:=by
 intro h
 refine FO Dj rfl rfl ?_
 revert h
 rw[tx,iW]
 conv in dec _=>reduce
 repeat'(first
  |simp -implicitDefEqProofs only[go_sem,seval])
theorem kU{t_0}{s:ae}{r:Bool}(h:iW t_0=some r):FE prog 73 [.agg [.int .i64 t_0.Kind,.int .i64 t_0.mY,.int .i64 t_0.To,.int .i64 t_0.V.Kind,.int .i64 t_0.V.N,.str t_0.V.S.b,sF 4 t_0.V.L,.str t_0.S.b]] s [.bool r] s:=DV ⟨r,h,rfl,rfl⟩
def fF(e_0:Int):Option (Int):=
 if e_0==6 then
  some e_0
 else
  some 0
def wx:IC:=dec 0x13743a9027034cdc593cbaef04a17f0aaee6d95980227cc00473a
theorem E7:aS prog 216 6 [⟨2,true,none⟩] wx=true:=by kernel_rfl
theorem Ft{e_0}{s:ae}{Q:List AV->ae->Prop}:ok (fF e_0) (fun r=>Q [.int .i64 r] s)->FN prog 216 [.int .i64 e_0] s Q:=by
 intro h
 refine FO E7 rfl rfl ?_
 revert h
 rw[wx,fF]
 conv in dec _=>reduce
 repeat'(first
  |simp -implicitDefEqProofs only[go_sem,seval])
theorem wJ{e_0}{s:ae}{r:Int}(h:fF e_0=some r):FE prog 216 [.int .i64 e_0] s [.int .i64 r] s:=Ft ⟨r,h,rfl,rfl⟩
def od(w_0:aH):Option (aa×Int):=
 if w_0.b==(aH.mk [116,114,117,101]).b then
  some ((aa.mk 1 1 (aH.mk []) ([]:List aa)),0)
 else
  if w_0.b==(aH.mk [102,97,108,115,101]).b then
   some ((aa.mk 1 0 (aH.mk []) ([]:List aa)),0)
  else
   if w_0.b==(aH.mk [110,117,108,108]).b then
    some ((aa.mk 0 0 (aH.mk []) ([]:List aa)),0)
   else
    some ((aa.mk 0 0 (aH.mk []) ([]:List aa)),11)
def wA:IC:=dec 0xd7c20874c185a91492a9be42c59faa9eee0c0724a1c9048527938d5ce5aa43482441cec650ed3318723764eef1f5562c08286dee5423af2d53244d55487e165eee541a597142c5c7699d66e6d4e02135deeee8cff6b1d43d1b25e78bb93b6406ea8e4604af75411a6287f5f971cb08c4fcf6753816cf3c972057b2003cd1eb37e0092758b
theorem E9:aS prog 160 15 [⟨2,false,some (4,true)⟩,⟨3,true,none⟩] wA=true:=by kernel_rfl
theorem Fw{w_0}{s:ae}{Q:List AV->ae->Prop}:ok (od w_0) (fun r=>Q [.agg [.int .i64 r.1.Kind,.int .i64 r.1.N,.str r.1.S.b,sF 4 r.1.L],.int .i64 r.2] s)->FN prog 160 [.str w_0.b] s Q:=by
 intro h
 refine FO E9 rfl rfl ?_
 revert h
 rw[wA,od]
 conv in dec _=>reduce
 repeat'(first
  |simp -implicitDefEqProofs only[go_sem,seval])
theorem pA{w_0}{s:ae}{r:aa×Int}(h:od w_0=some r):FE prog 160 [.str w_0.b] s [.agg [.int .i64 r.1.Kind,.int .i64 r.1.N,.str r.1.S.b,sF 4 r.1.L],.int .i64 r.2] s:=Fw ⟨r,h,rfl,rfl⟩
structure fu where
 b_:(List UInt8)
 at_:Int
 az:Bool
 open_:AV
def lH(s_0:fu):Option (aC×Int×fu):=
 aP (du s_0.b_ s_0.at_ s_0.az) fun r1=>
 jn (
  if r1.2==0 then
   some (fu.mk s_0.b_ r1.1.To s_0.az s_0.open_)
  else
   some s_0) fun(o5:fu)=>
 some (r1.1,r1.2,o5)
def mU:IC:=dec 0x296161c20caab0efa7c7ba267cc3e5fb9f7582b6d93b9a0704890edf20943536e42910a3a2ca8660d51da2fe0c42a6cde0457c735ea0cf9d5bfe9588bae59ebb3451c643914ac4a0760d0b1c22878aaaf402b08033ce7418ad1bdc2701d21ad6076a9a0383ca7b2003defd1eb37e000000010bf58b
theorem vS:aS prog 75 31 [⟨2,false,some (8,true)⟩,⟨3,true,none⟩] mU=true:=by kernel_rfl
theorem wb{s_0}{B0:Nat}{s:ae}{Q:List AV->ae->Prop}(hB0:s B0=some (.cells [sF 1 s_0.b_,.int .i64 s_0.at_,.bool s_0.az,s_0.open_])):ok (lH s_0) (fun r=>Q [.agg [.int .i64 r.1.Kind,.int .i64 r.1.mY,.int .i64 r.1.To,.int .i64 r.1.V.Kind,.int .i64 r.1.V.N,.str r.1.V.S.b,sF 4 r.1.V.L,.str r.1.S.b],.int .i64 r.2.1] (s.set B0 (.cells [sF 1 r.2.2.b_,.int .i64 r.2.2.at_,.bool r.2.2.az,r.2.2.open_])))->FN prog 75 [.ref B0 0] s Q:=by
 have hS:s=(s.set B0 (.cells [sF 1 s_0.b_,.int .i64 s_0.at_,.bool s_0.az,s_0.open_])):=by simp only[aY hB0]
 rw[hS]
 intro h
 refine FO vS rfl rfl ?_
 revert h
 rw[mU,lH]
 conv in dec _=>reduce
 repeat'(first
  |((with_reducible refine OU ?_ ?_);exact rfl)
  |with_reducible refine cK (fun _(h:du s_0.b_ s_0.at_ s_0.az=some _)=>jY h) (fun _=>rfl) (fun r1=>?_)
  |((with_reducible refine dm (fun(o5:fu)=>⟨[(2,.loc [.int .i64 0,.int .i64 0,.int .i64 0,.int .i64 0,.int .i64 0,.str (aH.mk []).b,.sl true 4 0 [],.str (aH.mk []).b]),(4,.loc [.int .i64 r1.1.Kind,.int .i64 r1.1.mY,.int .i64 r1.1.To,.int .i64 r1.1.V.Kind,.int .i64 r1.1.V.N,.str r1.1.V.S.b,sF 4 r1.1.V.L,.str r1.1.S.b]),(5,.int .i64 r1.2)],[],(s.set B0 (.cells [sF 1 o5.b_,.int .i64 o5.at_,.bool o5.az,o5.open_]))⟩) (fun J=>?_) ?_);rotate_left;rintro o5)
  |simp -implicitDefEqProofs only[go_sem,seval])
def cP(s_0:fu)(v_1:aa):Option (aa×Int×fu):=
 aP (du s_0.b_ s_0.at_ s_0.az) fun r1=>
 aP (en (!(r1.2 !=0)) false (iW r1.1)) fun r2=>
 if(r1.2 !=0)||(!r2)then
  aP (fF r1.2) fun r3=>
  some (v_1,r3,s_0)
 else
  aP (du s_0.b_ r1.1.To s_0.az) fun r4=>
  if((r4.2 !=0)||(r4.1.Kind !=6))||(!(r4.1.S.b==(aH.mk [82]).b))then
   aP (fF r4.2) fun r5=>
   some (v_1,r5,s_0)
  else
   if((decide (v_1.N<1))||(decide (v_1.N>4096)))||(r1.1.V.N !=0)then
    some (v_1,26,s_0)
   else
    some ((aa.mk 8 v_1.N (aH.mk []) ([]:List aa)),0,(fu.mk s_0.b_ r4.1.To s_0.az s_0.open_))
def nU:IC:=dec 0x1493c25008250034c05954b6bfa30b36680070cef4446aa0c14bbabdf2040ae02f354864afc5c84c6ed54093822d81031c1547df52f7eb79839f3af754991188fefda4b82cd8d9444adbe8da41b3a9769e357720381b5153e3e758a01a95ac327a632afc2cefdc2b29627dc414b38e7f64f31ac9991b767ecb696beeb395eb5b68f8d3a2a8202db2e92b8c159414ecbb6317e6dfa6b314cfcd776cb455f6087ce6c36b5f370c8ccd5f0a46a6ee0a19493f6935704e3b402ef634a512f55cb18fe5a1b12edef09da39e8a6edf16a94c8be184f8e7f1c72a4b5b4213cf56338236e0e421fb68b63e0cb8fad6570becc969c688f12cde3ab7c3e0267947c0ea73036c5760d237618443522e45cf8276addd89f5f1376c09fde04eb7dd5b46f56d481dbe8bb86319b7190aa33cb50006e0408c04db5ae2503a9ca3a82bc6d91f95de8b5c257b550805b3ae0d3d00dc04c39a03c
theorem xB:aS prog 161 87 [⟨4,false,some (4,true)⟩,⟨5,true,none⟩] nU=true:=by kernel_rfl
theorem xJ{s_0 v_1}{B0:Nat}{s:ae}{Q:List AV->ae->Prop}(hB0:s B0=some (.cells [sF 1 s_0.b_,.int .i64 s_0.at_,.bool s_0.az,s_0.open_])):ok (cP s_0 v_1) (fun r=>Q [.agg [.int .i64 r.1.Kind,.int .i64 r.1.N,.str r.1.S.b,sF 4 r.1.L],.int .i64 r.2.1] (s.set B0 (.cells [sF 1 r.2.2.b_,.int .i64 r.2.2.at_,.bool r.2.2.az,r.2.2.open_])))->FN prog 161 [.ref B0 0,.agg [.int .i64 v_1.Kind,.int .i64 v_1.N,.str v_1.S.b,sF 4 v_1.L]] s Q:=by
 have hS:s=(s.set B0 (.cells [sF 1 s_0.b_,.int .i64 s_0.at_,.bool s_0.az,s_0.open_])):=by simp only[aY hB0]
 rw[hS]
 intro h
 refine FO xB rfl rfl ?_
 revert h
 rw[nU,cP]
 conv in dec _=>reduce
 repeat'(first
  |with_reducible exact cU
  |((with_reducible refine OU ?_ ?_);exact rfl)
  |(with_reducible first|refine bP ?_ ?_|refine cX ?_|refine cK (fun _(h:du s_0.b_ s_0.at_ s_0.az=some _)=>jY h) (fun _=>rfl) (fun r1=>?_)|refine dn rfl (fun _(h:iW r1.1=some _)=>kU h) (fun _=>rfl) (fun r2=>?_)|refine cK (fun _(h:fF r1.2=some _)=>wJ h) (fun _=>rfl) (fun r3=>?_)|refine cK (fun _(h:du s_0.b_ r1.1.To s_0.az=some _)=>jY h) (fun _=>rfl) (fun r4=>?_)|refine cK (fun _(h:fF r4.2=some _)=>wJ h) (fun _=>rfl) (fun r5=>?_))
  |simp -implicitDefEqProofs only[go_sem,seval])
structure aQ where
 fe:Bool
 l_:(List aa)
end Go.AB
end
