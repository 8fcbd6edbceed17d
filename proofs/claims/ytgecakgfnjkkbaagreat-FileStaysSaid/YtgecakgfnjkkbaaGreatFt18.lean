/- A part. -/
import Derived.Test.YtgecakgfnjkkbaaGreatFt17
import Derived.Test.YtgecakgfnjkkbaaGreatFt16
set_option linter.unusedSimpArgs false
set_option linter.unusedVariables false
section
namespace Go.AB
open Go
def TK(c:UInt8):List Bool:=(List.range 8).map fun j=>c.toNat.testBit j
def ah(b:List UInt8):List Bool:=(b.map TK).flatten
theorem sG(b:List UInt8):(ah b).length=8*b.length:=by
 induction b with
 |nil=>rfl
 |cons c b ih=>grind [TK,ah,List.length_append,List.length_cons]
theorem DW:∀(b:List UInt8)(n:Nat)(h:n/8<b.length),(ah b)[n]? =some ((b[n/8]).toNat.testBit (n % 8))
 |[],n,h=>absurd h (Nat.not_lt_zero _)
 |c::b,n,h=>by
  show(TK c++ah b)[n]? =_
  by_cases hn:n<8
  ·have e:n/8=0:=by omega
   rw[List.getElem?_append_left (by exact hn)]
   simp[e]
   have hm:n % 8=n:=by omega
   rw[hm]
   unfold TK
   rw[List.getElem?_map,List.getElem?_range hn];rfl
  ·have ih:=DW b (n -8) (by grind)
   rw[List.getElem?_append_right (by show 8<=n;omega)]
   show(ah b)[n -8]? =_
   rw[ih]
   have e:n/8=(n -8)/8+1:=by omega
   have e2:(n -8)% 8=n % 8:=by omega
   simp[e,List.getElem_cons_succ,e2]
def bv:List Bool->Nat
 |[]=>0
 |x::l=>(if x then 1 else 0)+2*bv l
theorem Ma:∀l:List Bool,bv l<2^l.length
 |[]=>by decide
 |x::l=>by have:=Ma l;rw[bv,List.length_cons];split<;>omega
theorem Mb:∀(l:List Bool)(x:Bool),bv (l++[x])=bv l+(if x then 2^l.length else 0)
 |[],x=>by simp[bv]
 |y::l,x=>by
  rw[List.cons_append,bv,Mb l x,bv,List.length_cons]
  split<;>split<;>omega
theorem Rx(c:UInt8)(j:Nat)(hj:j<8):(((iM (oH .u8 (c.toNat:Int) ((iM (kC .u8 1 (j:Int))).toNat:Int))).toNat:Int)!=0)=c.toNat.testBit j:=by
 have:=ml (fun c=>(List.range 8).all fun j=>(((iM (oH .u8 c.toNat ((iM (kC .u8 1 j)).toNat:Int))).toNat:Int)!=0)==c.toNat.testBit j) (by decide+kernel) c
 simp_all
theorem agf(n:Nat)(h:n<9223372036854775808):aC (oH .i64 (n:Int) 7)=((n % 8:Nat):Int):=by
 have e:oH .i64 n 7=((n % 8:Nat)):=by
  unfold oH
  have h1:(BitVec.ofInt IntKind.i64.bits n)=BitVec.ofNat 64 n:=rfl
  have h2:(BitVec.ofInt IntKind.i64.bits 7)=BitVec.ofNat 64 7:=rfl
  congr 1
  show(BitVec.ofNat 64 n&&&BitVec.ofNat 64 7).toNat=_
  rw[BitVec.toNat_and,BitVec.toNat_ofNat,Nat.mod_eq_of_lt (by omega)]
  exact Nat.and_two_pow_sub_one_eq_mod n 3
 grind [ar]
theorem ahH(n:Nat):j8 .i64 (n:Int) 3=((n/8:Nat):Int):=by
 show(n:Int).fdiv 8=_
 grind
theorem gl(n:Nat)(h:n<4294967296):(dF (n:Int)).toNat=n:=by
 unfold dF
 rw[Cw _ _ rfl]
 have:(2^IntKind.u32.bits)=4294967296:=by rfl
 grind [UInt32.toNat_ofNat']
theorem ZL(x k:Nat)(hx:x<2^k)(hk:k<32):(dF (Ht .u32 (x:Int) ((dF (kC .u32 1 (k:Int))).toNat:Int))).toNat=x+2^k:=by
 have hp2:2^(k+1)<=2^32:=Nat.pow_le_pow_right (by simp) hk
 have e1:kC .u32 1 k=((2^k):Int):=by
  unfold kC
  rw[Int.one_mul,Nat.min_eq_left (by show k<=32;omega)]
  exact(Int.natCast_pow 2 k).symm
 have e2:Ht .u32 x ((2^k:Nat))=((x+2^k:Nat)):=by
  show(((BitVec.ofNat 32 x |||BitVec.ofNat 32 (2^k)).toNat):Int)=_
  rw[BitVec.toNat_or,BitVec.toNat_ofNat,BitVec.toNat_ofNat,Nat.mod_eq_of_lt (by omega),Nat.mod_eq_of_lt (by omega)]
  have:=Nat.two_pow_add_eq_or_of_lt hx 1
  rw[Nat.mul_one]at this
  rw[Nat.or_comm,<-this,Nat.add_comm]
 grind [gl]
structure ZS where
 at_:Nat
 e:Int
 out:List UInt8
abbrev Vr(b:List UInt8)(n:Nat):bC:=⟨⟨(n:Int),false,true⟩,b⟩
abbrev EZ(b:List UInt8)(s:ZS):cc:=⟨Vr b s.at_,s.e⟩
abbrev oW(b:List UInt8)(most:Int)(s:ZS):ak:=⟨EZ b s,s.out,most⟩
def ZS.fail(s:ZS)(e:Int):ZS:=if s.e=0 then{s with e:=e}else s
def aB(B:List Bool)(n:Nat)(s:ZS):Int×ZS:=if s.e≠0 then(0,s)else if B.length<s.at_+n then(0,{s with e:=10})else((bv ((B.drop s.at_).take n):Int),{s with at_:=s.at_+n})
theorem ZG{B:List Bool}{n:Nat}{s:ZS}(h:s.e≠0):aB B n s=(0,s):=if_pos h
theorem ZF{B:List Bool}{n:Nat}{s:ZS}(h:s.e=0)(h2:B.length<s.at_+n):aB B n s=(0,{s with e:=10}):=by unfold aB;grind
theorem ZH{B:List Bool}{n:Nat}{s:ZS}(h:s.e=0)(h2:¬B.length<s.at_+n):aB B n s=((bv ((B.drop s.at_).take n):Int),{s with at_:=s.at_+n}):=by unfold aB;grind
section
variable{b:List UInt8}{most:Int}
theorem qY(s:ZS)(e:Int):ay (EZ b s) e=some (EZ b (s.fail e)):=by grind [ay,ZS.fail]
theorem adY(hb:b.length<576460752303423488){at_ n:Nat}(hn:n<=32)(ha:at_<=8*b.length):eW (Vr b at_) (n:Int)=
 some (if(ah b).length<at_+n then(0,10,Vr b at_)else(dF (bv (((ah b).drop at_).take n):Nat),0,Vr b (at_+n))):=by
 have hl:=sG b
 unfold eW bH fx
 simp only[bH,Bool.false_or,Bool.not_true,aJ,Bool.false_eq_true,if_false]
 rw[if_neg (by simp;omega)]
 rw[ar (n:=8*(b.length:Int)) (by omega) (by omega),ar (by omega) (by omega)]
 by_cases hlt:(ah b).length<at_+n
 ·grind
 ·rw[if_neg hlt,if_neg (by simp;omega)]
  refine ey (a:=(dF (bv (((ah b).drop at_).take n):Nat),Vr b (at_+n))) (mU n (fun k=>(dF (bv (((ah b).drop at_).take k):Nat),(k:Int),Vr b (at_+k))) rfl (by omega) (fun k hk=>?_) (by simp)) rfl
  have hg:=DW b (at_+k) (by omega)
  have hi:ix b (((at_+k)/8:Nat):Int)=b[(at_+k)/8]:=gv (by omega)
  have ht:((ah b).drop at_).take (k+1)=((ah b).drop at_).take k++[(b[(at_+k)/8]).toNat.testBit ((at_+k)% 8)]:=by rw[List.take_add_one,List.getElem?_drop,hg];rfl
  have hlen:(((ah b).drop at_).take k).length=k:=by rw[List.length_take,List.length_drop];omega
  have hbv:=Ma (((ah b).drop at_).take k)
  rw[hlen]at hbv
  have h32:2^k<2^32:=Nat.pow_lt_pow_right (by decide) (by omega)
  have e32:(2:Nat)^32=4294967296:=by decide
  simp only[]
  rw[if_pos (by simp;omega),ht,Mb,hlen]
  generalize bv (((ah b).drop at_).take k)=x at hbv
  refine ey (a:=dF ((x+(if(b[(at_+k)/8]).toNat.testBit ((at_+k)% 8)then 2^k else 0):Nat):Int)) ?_ ?_
  ·rw[ahH,bK (by omega)]
   unfold fO fP
   simp only[Bool.false_eq_true,if_false]
   rw[agf _ (by omega),bK (by omega),aJ,hi,Rx _ _ (by omega)]
   cases(b[(at_+k)/8]).toNat.testBit ((at_+k)% 8)with
   |false=>simp
   |true=>
    simp only[if_true,aJ]
    rw[bK (by omega),gl x (by omega)]
    have:=ZL x k hbv (by omega)
    have h2:x+2^k<2^32:=by
     have:2^(k+1)<=2^32:=Nat.pow_le_pow_right (by decide) (by omega)
     rw[Nat.pow_succ]at this;omega
    grind [dF,Ht,kC,UInt32.toNat_inj,gl]
  grind [ar]
theorem dy{n:Nat}{s:ZS}(ha:s.at_<=8*b.length):(aB (ah b) n s).2.at_<=8*b.length/\s.at_<=(aB (ah b) n s).2.at_/\0<=(aB (ah b) n s).1/\(aB (ah b) n s).1<2^n/\(aB (ah b) n s).2.out=s.out/\((aB (ah b) n s).2.e=0->s.e=0/\(aB (ah b) n s).2.at_=s.at_+n):=by
 have hl:=sG b
 have hp:(0:Int)<2^n:=Int.pow_pos (by simp)
 unfold aB
 split
 ·grind
 ·split
  ·grind
  ·grind [Ma,ah,List.length_take,List.length_drop,bv]
theorem Ln(hb:b.length<576460752303423488){n:Nat}(hn:n<=31){s:ZS}(ha:s.at_<=8*b.length):aH (EZ b s) (n:Int)=some ((aB (ah b) n s).1,EZ b (aB (ah b) n s).2):=by
 have hbv:=Ma (((ah b).drop s.at_).take n)
 have hlen:(((ah b).drop s.at_).take n).length<=n:=List.length_take_le _ _
 have h31:2^(((ah b).drop s.at_).take n).length<=2^31:=Nat.pow_le_pow_right (by decide) (by omega)
 unfold aH
 by_cases he:s.e=0
 ·rw[if_neg (by grind),adY hb (by omega) ha]
  by_cases hlt:(ah b).length<s.at_+n
  ·rw[if_pos hlt,ZF he hlt]
   simp[he]
   rfl
  ·rw[if_neg hlt,ZH he hlt]
   show bn (ay (EZ b {s with at_:=s.at_+n}) 0) _=_
   rw[qY,aJ]
   grind [aC,dF,gl,ar,ZS.fail]
 ·rw[if_pos (by grind),ZG he]
end
def hv(x:Int):Int:=32768/2^x.toNat
def Xe:List Int->Int->Option Int
 |[],s=>some s
 |x::l,s=>if x<0\/x>15 then none else Xe l (if x>0 then s+hv x else s)
def MV(l:List Int):Int:=if l.length<1\/l.length>320 then -1 else match Xe l 0 with
 |none=>-1
 |some s=>if s>32768 then -1 else s
def Du(l:List Int):Prop:=0<l.length/\l.length<=320/\∀x∈l,0<=x/\x<=15
theorem QW(x:Int):0<=hv x/\hv x<=32768:=by
 have h1:(0:Int)<2^x.toNat:=Int.pow_pos (by simp)
 refine⟨Int.ediv_nonneg (by simp) (by omega),?_⟩
 have:=Int.ediv_le_self (a:=32768) (2^x.toNat) (by simp)
 exact this
theorem Rj:∀(l:List Int)(s r:Int),Xe l s=some r->0<=s->(∀x∈l,0<=x/\x<=15)/\0<=r
 |[],s,r,h,h0=>⟨fun x hx=>absurd hx List.not_mem_nil,by injection h with h;omega⟩
 |x::l,s,r,h,h0=>by
  rw[Xe]at h
  split at h
  ·cases h
  ·have:=QW x
   obtain⟨h1,h2⟩:=Rj l _ r h (by grind)
   grind
theorem K4{l:List Int}(h:0<=MV l):Du l:=by
 unfold MV at h
 split at h
 ·omega
 ·cases hk:Xe l 0 with
  |none=>grind
  |some s=>exact⟨by omega,by omega,(Rj l 0 s hk (Int.le_refl _)).1⟩
theorem aar{x:Int}(h0:0<=x)(h:x<=15):j8 .i64 32768 x=hv x:=by
 have:x=0\/x=1\/x=2\/x=3\/x=4\/x=5\/x=6\/x=7\/x=8\/x=9\/x=10\/x=11\/x=12\/x=13\/x=14\/x=15:=by omega
 rcases this with h|h|h|h|h|h|h|h|h|h|h|h|h|h|h|h<;>subst h<;>rfl
theorem Rk(l:List Int):nt l=some (MV l):=by
 unfold nt MV
 by_cases hl:l.length<1\/l.length>320
 ·grind
 ·rw[if_neg (by simp;omega),if_neg hl]
  generalize hr:Xe l 0=r
  refine MT (z:=match r with|none=>.inr (-1)|some s=>.inl s) (Ka (z:=match r with|none=>.inr (-1)|some s=>.inl s) (iter_eq (fun(s:Int×Int)=>∃k:Nat,s.2=k/\k<=l.length/\0<=s.1/\s.1<=32768*k/\Xe (l.drop k) s.1=r) (fun s=>l.length -s.2.toNat) ⟨0,rfl,Nat.zero_le _,Int.le_refl _,Int.le_refl _,hr⟩ (by simp;omega) ?_) (by cases r<;>rfl)) ?_
  ·rintro⟨sum,t⟩ ⟨k,rfl,hk,h0,h1,hz⟩
   simp only at h0 h1 hz⊢
   by_cases hlt:k<l.length
   ·rw[List.drop_eq_getElem_cons hlt,Xe]at hz
    have hix:=gv hlt
    rw[if_pos (by simp;omega)]
    simp only[hix]
    generalize l[k]=x at hz
    by_cases hx:x<0\/x>15
    ·subst hz
     simp_all
    ·rw[if_neg hx]at hz
     have hh:=QW x
     refine .inl ⟨((if x>0 then sum+hv x else sum),((k+1:Nat):Int)),MT (z:=.inl (if x>0 then sum+hv x else sum)) (aD (by omega) (al (by simp;omega) ?_)) ?_,⟨k+1,rfl,hlt,?_,?_,hz⟩,?_⟩
     ·by_cases hx0:x>0
      ·rw[if_pos (by simp;omega),if_pos hx0,bK (by omega),aar (by omega) (by omega),ar (by omega) (by omega)]
      grind
     ·grind [oe,ar]
     ·grind
     ·grind
     grind
   ·rw[List.drop_eq_nil_of_le (by omega)]at hz
    rw[if_neg (by simp;omega)]
    subst hz
    exact .inr rfl
  ·cases r with
   |none=>rfl
   |some s=>
    show(if decide (s>32768)=true then _ else _)=_
    grind
def sy(n:Nat):List Int->Nat->List Int
 |[],_=>[]
 |x::l,o=>if x=(n:Int)then(o:Int)::sy n l (o+1)else sy n l (o+1)
def ct(l:List Int)(n:Nat):Nat:=if n=0 then 0 else(sy n l 0).length
theorem Cm(n:Nat):∀(l:List Int)(o:Nat),(sy n l o).length=(l.filter fun x=>x==(n:Int)).length
 |[],_=>rfl
 |x::l,o=>by
  rw[sy,List.filter_cons]
  by_cases h:x=n
  ·rw[if_pos h,if_pos (by grind),List.length_cons,List.length_cons,Cm n l]
  ·rw[if_neg h,if_neg (by grind),Cm n l]
theorem Hg{n:Nat}:∀(l:List Int)(o:Nat)(x:Int),x∈sy n l o->(o:Int)<=x/\x<((o+l.length:Nat):Int)
 |[],_,_,h=>absurd h List.not_mem_nil
 |y::l,o,x,h=>by
  have ih:=Hg (n:=n) l (o+1) x
  rw[sy]at h
  grind
theorem Yk(l:List Int)(n:Nat):gG l n=(ct l n:Int):=by grind [gG,ct,Cm]
theorem SM(L:List Int)(n:Nat):∀(l:List Int)(o:Nat),L.drop o=l->((List.range' o l.length).map fun k=>((k:Nat):Int)).filter (fun k=>ix L k==(n:Int))=sy n l o
 |[],_,_=>rfl
 |x::l,o,h=>by
  have ho:o<L.length:=by
   have:=congrArg List.length h
   rw[List.length_drop,List.length_cons]at this;omega
  rw[List.drop_eq_getElem_cons ho]at h
  injection h with h1 h2
  have hi:ix L o=x:=by rw[gv ho,h1]
  rw[List.length_cons,List.range'_succ,List.map_cons,List.filter_cons,SM L n l (o+1) h2,sy]
  grind
theorem KR(l:List Int)(n:Nat):(idxs l).filter (fun k=>ix l k==(n:Int))=sy n l 0:=by
 have:=SM l n l 0 rfl
 rw[<-List.range_eq_range']at this
 exact this
def pre(l:List Int):Nat->List Int
 |0=>[]
 |m+1=>pre l m++sy (m+1) l 0
theorem Cg(l:List Int):su l=pre l 15:=by
 unfold su
 simp only[KR]
 have:∀n,((List.range n).map fun n=>sy (n+1) l 0).flatten=pre l n:=by
  intro n
  induction n with
  |zero=>rfl
  |succ n ih=>grind [List.range_succ,List.flatten_append,pre]
 exact this 15
theorem M6(l:List Int)(m:Nat):∀j,∃r,pre l (m+j)=pre l m++r
 |0=>⟨[],(List.append_nil _).symm⟩
 |j+1=>by
  obtain⟨r,hr⟩:=M6 l m j
  grind [sy,pre,List.append_assoc]
def cp(l:List Int)(m:Nat):Nat:=(l.filter fun x=>decide (0<x/\x<=(m:Int))).length
theorem Mn(m:Nat):∀l:List Int,cp l (m+1)=cp l m+(l.filter fun x=>x==((m+1:Nat):Int)).length
 |[]=>rfl
 |x::l=>by
  have ih:=Mn m l
  unfold cp at ih⊢
  grind
theorem Ao(l:List Int):∀m,(pre l m).length=cp l m
 |0=>by
  unfold cp
  rw[List.filter_eq_nil_iff.2]
  ·rfl
  grind
 |m+1=>by rw[pre,List.length_append,Ao l m,Mn,Cm]
theorem WE{m M:Nat}(hm:m<=M):∀l:List Int,cp l m<=cp l M/\(cp l m=cp l M↔∀x∈l,¬((m:Int)<x/\x<=(M:Int)))
 |[]=>⟨Nat.le_refl _,by simp[cp]⟩
 |x::l=>by
  have ih:=WE hm l
  unfold cp at ih⊢
  grind
def va(l:List Int):Nat->Nat
 |0=>0
 |n+1=>2*(va l n+ct l n)
def JZ(l:List Int)(B:List Bool):Nat->Nat->Nat->Int×Nat×Int
 |0,n,_=>(0,n -1,13)
 |f+1,n,code=>if l.any (fun x=>decide (x>=(n:Int)))=false then(0,n -1,13)else match B[n -1]? with
  |none=>(0,n -1,10)
  |some x=>if 2*code+(if x then 1 else 0) -va l n<(sy n l 0).length then((sy n l 0).getD (2*code+(if x then 1 else 0) -va l n) 0,n,0)else JZ l B f (n+1) (2*code+(if x then 1 else 0))
def tk(l:List Int)(B:List Bool):Int×Nat×Int:=JZ l B 15 1 0
theorem aeF(c:Nat)(h:c<4611686018427387904):aC (kC .i64 (c:Int) 1)=((2*c:Nat):Int):=by
 have:kC .i64 c 1=c*2:=rfl
 grind [ar]
theorem or1(c:Nat)(x:Bool)(h:c<2305843009213693952):aC (Ht .i64 (((2*c:Nat):Nat):Int) (aC (((if x then 1 else 0:Nat):Nat):Int)))=((2*c+(if x then 1 else 0):Nat):Int):=by
 have hx:(if x then 1 else 0)<2:=by grind
 generalize(if x then 1 else 0)=y at*
 have e:Ht .i64 (((2*c:Nat):Nat)) y=((2*c+y:Nat)):=by
  show(((BitVec.ofNat 64 (2*c)|||BitVec.ofNat 64 y).toNat):Int)=_
  rw[BitVec.toNat_or,BitVec.toNat_ofNat,BitVec.toNat_ofNat,Nat.mod_eq_of_lt (by omega),Nat.mod_eq_of_lt (by omega)]
  have:=Nat.two_pow_add_eq_or_of_lt (i:=1) (by omega) c
  rw[<-this]
 grind [ar]
theorem Qb{b:List UInt8}{a m:Nat}:((ah b).drop a)[m]? =(ah b)[a+m]? :=by simp
theorem ad2{b:List UInt8}(hb:b.length<576460752303423488){l:List Int}(hl:Du l)(B:Nat){a:Nat}(ha:a<=8*b.length):
 gJ ⟨B,l⟩ (Vr b a)=some ((tk l ((ah b).drop a)).1,(tk l ((ah b).drop a)).2.2,Vr b (a+(tk l ((ah b).drop a)).2.1)):=by
 have hbl:=sG b
 obtain⟨hl0,hl1,hl2⟩:=hl
 unfold gJ tk
 generalize hR:JZ l ((ah b).drop a) 15 1 0=R
 refine iter_eq (fun(s:Int×Int×Int×Int×bC)=>∃m c:Nat,m<=15/\s=((c:Int),((va l m+ct l m:Nat):Int),((pre l m).length:Int),((m+1:Nat):Int),Vr b (a+m))/\a+m<=8*b.length/\va l m+ct l m<=c/\c<2^m/\JZ l ((ah b).drop a) (15 -m) (m+1) c=R)
  (fun s=>(16 -s.2.2.2.1).toNat) ⟨0,0,by omega,rfl,ha,Nat.le_refl _,by decide,hR⟩ (by grind) ?_
 rintro s ⟨m,c,hm,rfl,ham,hfc,hc,hz⟩
 have aiX:2^m<=2^15:=Nat.pow_le_pow_right (by decide) hm
 have e15:(2:Nat)^15=32768:=by decide
 simp only
 by_cases h15:m=15
 ·subst h15
  rw[show(15 -15:Nat)=0 from rfl,JZ]at hz
  grind
 obtain⟨f,hf⟩:∃f,15 -m=f+1:=⟨14 -m,by omega⟩
 rw[hf,JZ]at hz
 rw[if_pos (by simp;omega)]
 rw[Cg]
 have hcl:=WE (m:=m) (M:=15) hm l
 rw[<-Ao,<-Ao]at hcl
 have agB:l.any (fun x=>decide (x>=((m+1:Nat):Int)))=false↔(pre l m).length=(pre l 15).length:=by
  rw[hcl.2,List.any_eq_false]
  refine⟨fun h x hx=>?_,fun h x hx=>?_⟩
  ·grind
  ·grind
 by_cases Og:(pre l m).length=(pre l 15).length
 ·grind
 rw[if_neg (fun h=>Og (agB.1 h))]at hz
 rw[show m+1 -1=m from rfl,Qb]at hz
 rw[if_neg (fun h=>Og (by grind))]
 have hG:=adY hb (at_:=a+m) (n:=1) (by decide) ham
 rw[show((1:Nat):Int)=1 from rfl]at hG
 rw[hG]
 by_cases hcut:(ah b).length<a+m+1
 ·rw[List.getElem?_eq_none (by omega)]at hz
  simp only at hz
  subst hz
  simp_all
 ·rw[if_neg hcut,aJ]
  obtain⟨x,hx⟩:∃x,(ah b)[a+m]? =some x:=⟨_,List.getElem?_eq_getElem (by omega)⟩
  rw[hx]at hz
  simp only at hz
  have htk:((ah b).drop (a+m)).take 1=[x]:=by
   rw[List.drop_eq_getElem_cons (by omega),List.take_succ_cons,List.take_zero]
   rw[List.getElem?_eq_getElem (by omega)]at hx
   injection hx with hx;rw[hx]
  rw[htk,show bv [x]=(if x then 1 else 0:Nat) by unfold bv;rfl]
  have hx2:(if x then 1 else 0:Nat)<2:=by split<;>omega
  have hu:((dF (((if x then 1 else 0:Nat):Nat):Int)).toNat:Int)=((if x then 1 else 0:Nat):Int):=by rw[gl _ (by omega)]
  simp only[bne_self_eq_false,Bool.false_eq_true,if_false,hu]
  rw[bK (by omega),aeF c (by omega),or1 c x (by omega),aeF _ (by omega)]
  have hfs:va l (m+1)=2*(va l m+ct l m):=rfl
  rw[<-hfs]
  have hcz:tH l ((m+1:Nat):Int)=((sy (m+1) l 0).length:Int):=by
   unfold tH
   rw[Int.toNat_natCast,Yk];rfl
  have hpl:(pre l m).length<=320:=by rw[Ao];exact Nat.le_trans (List.length_filter_le _ _) hl1
  have hsl:(sy (m+1) l 0).length<=320:=by rw[Cm];exact Nat.le_trans (List.length_filter_le _ _) hl1
  rw[hcz]
  generalize hq:2*c+(if x then 1 else 0)=c' at*
  have hc':va l (m+1)<=c'/\c'<65536:=by rw[hfs];omega
  have hc2:c'<2^(m+1):=by rw[Nat.pow_succ];omega
  have ew1:aC ((c':Int) -((va l (m+1):Nat):Int))=((c' -va l (m+1):Nat):Int):=by rw[ar (by omega) (by omega)];omega
  have ew2:aC (aC (((pre l m).length:Int)+(c':Int)) -((va l (m+1):Nat):Int))=(((pre l m).length+(c' -va l (m+1)):Nat):Int):=by rw[ar (n:=((pre l m).length:Int)+(c':Int)) (by omega) (by omega),ar (by omega) (by omega)];omega
  rw[ew1,ew2]
  by_cases hin:c' -va l (m+1)<(sy (m+1) l 0).length
  ·rw[if_pos hin]at hz
   subst hz
   obtain⟨r,hr⟩:=M6 l (m+1) (14 -m)
   rw[show m+1+(14 -m)=15 by omega,show pre l (m+1)=pre l m++sy (m+1) l 0 from rfl]at hr
   have jD:(pre l 15)[(pre l m).length+(c' -va l (m+1))]? =some ((sy (m+1) l 0).getD (c' -va l (m+1)) 0):=by rw[hr,List.append_assoc,List.getElem?_append_right (by omega),Nat.add_sub_cancel_left,List.getElem?_append_left hin,List.getElem?_eq_getElem hin,List.getD_eq_getElem?_getD,List.getElem?_eq_getElem hin];rfl
   have hlt:=(List.getElem?_eq_some_iff.1 jD).1
   rw[if_pos (by simp;omega),bK (by omega),Rg jD]
   grind
  ·rw[if_neg hin]at hz
   rw[if_neg (by simp;omega)]
   refine .inl ⟨_,rfl,⟨m+1,c',by omega,?_,by omega,?_,hc2,?_⟩,?_⟩
   ·have e1:ct l (m+1)=(sy (m+1) l 0).length:=rfl
    rw[ar (by omega) (by omega),ar (by omega) (by omega),ar (by omega) (by omega),pre,List.length_append,e1]
    grind
   ·have e1:ct l (m+1)=(sy (m+1) l 0).length:=rfl
    grind
   ·grind
   grind [ar]
theorem E4{α:Type}(l:List α){i:Int}{x:α}(h0:0<=i)(h:i<l.length):(Hl l i x).length=l.length:=by unfold Hl;simp;omega
end Go.AB
end
section
set_option maxRecDepth 16000
namespace Go.AB
open Go
open Go.Proofs.Tryz (prog)
def fg(x_0:Int):Option (Bool):=some (x_0 !=x_0)
theorem qR{x_0}:FF 181 [.int .i64 x_0] (fg x_0) fun r=>[.bool r]:=by
 intro s Q
 exact FC 6 [⟨2,true,none⟩] 0xa1c396387ce7f58100d920824473a fg.eq_1
def c7(x_0:Int)(y_1:Int):Option (Int):=
 bn (fg x_0) fun r1=>
 bn (fg y_1) fun r2=>
 if r1 then
  if r2 then
   some 0
  else
   some (-1)
 else
  if r2 then
   some 1
  else
   if decide (x_0<y_1)then
    some (-1)
   else
    if decide (x_0>y_1)then
     some 1
    else
     some 0
theorem wu{x_0 y_1}:FF 148 [.int .i64 x_0,.int .i64 y_1] (c7 x_0 y_1) fun r=>[.int .i64 r]:=by
 intro s Q
 refine FR 20 [⟨4,true,none⟩] 0x77a655631f5dd007c75a30eb93b9ca53d795df717bd0288dc7a31dc467332a089a32fd50510ca3614e8f5f3aa60b97ba8a7ac8e50adc412df602ac320dfe0bca690463c48f2ce6a5c751af3ec7191f72cef8a47aba5c19b8ceb3ed07ecc92299daae7e0d3980083fa c7.eq_1 ?_
 repeat'(first
  |(with_reducible first|refine aQ (fun _(h:fg x_0=some _)=>(kc qR h:)) (fun r1=>?_)|refine aQ (fun _(h:fg y_1=some _)=>(kc qR h:)) (fun r2=>?_))
  |simp -implicitDefEqProofs only[go_sem,seval])
theorem kG{x_0 y_1}{s:ae}{r:Int}(h:c7 x_0 y_1=some r):FE prog 148 [.int .i64 x_0,.int .i64 y_1] s [.int .i64 r] s:=wu ⟨r,h,rfl,rfl⟩
attribute[-go_sem] Nat.add_zero mI cE cy cU bQ cw
namespace SI
abbrev slL(l:List Int):AV:=.sl false 1 l.length (flat l)
def Bb(lens:List Int)(x y:Int):Option Int:=bt (0<=x/\x<lens.length)<|bt (0<=y/\y<lens.length)<|c7 (ix lens x) (ix lens y)
def yu(lens:List Int)(x y:Int):Bool:=decide (ix lens x<ix lens y)||(ix lens x==ix lens y&&decide (x<y))
theorem UU(lens:List Int):TP (yu lens):=by
 refine⟨fun x y h=>?_,fun x y z h1 h2=>?_⟩
 ·simp only[yu,Bool.or_eq_true,decide_eq_true_eq,Bool.and_eq_true,beq_iff_eq,Bool.or_eq_false_iff,decide_eq_false_iff_not,Bool.and_eq_false_iff,beq_eq_false_iff_ne]at*
  omega
 ·simp only[yu,Bool.or_eq_false_iff,decide_eq_false_iff_not,Bool.and_eq_false_iff,beq_eq_false_iff_ne]at*
  omega
def OKc(lens:List Int)(y x:Int):Prop:=0<=x/\x<y/\y<lens.length
section
variable{lens:List Int}{Lb:Nat}
theorem acy{x y:Int}(h:OKc lens x y):∃c,Bb lens x y=some c/\decide (c<0)=yu lens x y:=by
 obtain⟨h1,h2,h3⟩:=h
 unfold Bb c7 fg yu
 have e1:∀z:Int,(z !=z)=false:=fun z=>by simp
 rw[bK (by omega),bK (by omega),e1,e1,aJ,aJ,if_neg (by decide),if_neg (by decide)]
 have e2:decide (x<y)=false:=by simp;omega
 rw[e2,Bool.and_false,Bool.or_false]
 cases h:decide (ix lens x<ix lens y)with
 |true=>exact⟨-1,by simp,rfl⟩
 |false=>
  by_cases h2:decide (ix lens x>ix lens y)=true
  ·exact⟨1,by simp[h2],rfl⟩
  ·exact⟨0,by simp[h2],rfl⟩
theorem Up{x y c:Int}{s:ae}(hLb:s Lb=some (.cells [slL lens]))(hc:Bb lens x y=some c):FE prog 292 [.int .i64 x,.int .i64 y,.ref Lb 0] s [.int .i64 c] s:=by
 have h:ok (Bb lens x y) (fun r=>r=c):=⟨c,hc,rfl⟩
 revert h
 intro h
 refine FP 15 [⟨5,true,none⟩] (dec 0x8f9a688af76cf1f4716db204c98839da7c8158260a739992e0b7adc976400a25a) (by kernel_rfl) rfl ?_
 unfold Bb at h
 rw[ir,ir]at h
 obtain⟨h1,h2,r,hr,rfl⟩:=h
 conv in dec _=>reduce
 simp -implicitDefEqProofs only[go_sem,seval,hLb]
 refine⟨h1,h2,?_⟩
 refine⟨_,rfl,kG hr,?_⟩
 simp -implicitDefEqProofs only[go_sem,seval]
theorem QD{x y c:Int}{s:ae}{rb:Nat}{o:SO}(hLb:s Lb=some (.cells [slL lens]))(hne:Lb≠rb)(hc:Bb lens x y=some c):FE prog 292 [.int .i64 x,.int .i64 y,.ref Lb 0] (s.set rb o) [.int .i64 c] (s.set rb o):=Up (by simp[ae.set,hne,hLb]) hc
def sgH(lens:List Int)(Lb:Nat):SG (Int)where
 lt:=yu lens
 tp:=UU lens
 Bf:=fun x y=>OKc lens y x
 cm:=Bb lens
 cv:=acy
 z:=.int .i64 0
 fc:=292
 cl:=[.ref Lb 0]
 w1:=rfl
 en:=fun _=>⟨rfl,fun _=>rfl,rfl,rfl,rfl,fun _ d=>by cases d<;>rfl,rfl,rfl,rfl,fun _=>rfl,rfl,rfl⟩
 ok:=by kernel_rfl
 fi:=304
 fw:=309
 fr:=308
 fy:=305
 fs:=299
 fo:=291
 hi:=by kernel_rfl
 hw:=by kernel_rfl
 hr:=by kernel_rfl
 hy:=by kernel_rfl
 hs:=by kernel_rfl
 ho:=by kernel_rfl
theorem O0{s:ae}{rb cap:Nat}{sp:List AV}{l:List Int}{Q:List AV->ae->Prop}(hLb:s Lb=some (.cells [slL lens]))(hne:Lb≠rb)(hl:(l.length:Int)<2^46)(hz:l.Pairwise fun u v=>u<v)(hzb:∀z∈l,0<=z/\z<lens.length)
 (hq:∀Z,Z.Perm l->jj (yu lens) Z->Q [] (s.set rb (.cells (flat Z++sp)))):FN prog 291 [.arr rb 0 l.length cap,.fn 292 [] [.ref Lb 0]] (s.set rb (.cells (flat l++sp))) Q:=
 EY (I:=sgH lens Lb) (fun hc=>QD hLb hne hc) hl (hz.imp_of_mem fun ha hb h=>⟨(hzb _ ha).1,h,(hzb _ hb).2⟩) hq
theorem OZ{Lb:Nat}{s:ae}{Q:List AV->ae->Prop}(hq:Q [] s):FN prog 291 [.arr 0 0 0 0,.fn 292 [] [.ref Lb 0]] s Q:=EX (sgH [] Lb) hq
end
end SI
def Ek:IC:=dec 0x149998c2ffec42e2fff50e30e2d7c48a9c0a56c7cd23b460c898342c022b5b4473a
theorem Om:eH prog 289 8 [⟨2,true,none⟩] Ek=true:=by kernel_rfl
def Fw(l:List Int)(s:ae)(rs:List AV)(s':ae):Prop:=(∃b cap sp,rs=[.arr b 0 l.length cap]/\s b=none/\0<cap/\l.length<=cap/\(flat l++sp).length=cap*1/\views (flat l++sp)=flat l++sp/\s'=s.set b (.cells (flat l++sp)))\/(l=[]/\s'=s/\∃b,rs=[.arr b 0 0 0])
theorem Kk{o:Bool}{l:List Int}{s:ae}(hr:l.length*8<=room):FN prog 289 [.sl o 1 l.length (flat l)] s (Fw l s):=by
 refine FN.ji (FO Om rfl rfl ?_)
 generalize hQ:(fun rs s'=>∃s2,Sub s2 s'/\Fw l s rs s2)=Q
 have hq:∀rs s' s2,Sub s2 s'->Fw l s rs s2->Q rs s':=fun rs s' s2 h1 h2=>by rw[<-hQ];exact⟨s2,h1,h2⟩
 rw[Ek]
 conv in dec _=>reduce
 simp -implicitDefEqProofs only[go_sem,seval]
 intro v hv
 refine⟨fun h=>hq _ _ s (Sub.refl s) (.inr ⟨List.eq_nil_of_length_eq_zero (hv (by simpa using h)),rfl,0,rfl⟩),fun _ b1 hb1=>?_⟩
 rw[js,aN]
 by_cases hl:l=[]
 ·subst hl
  refine lI rfl rfl (Nat.le_refl 0) ?_
  simp -implicitDefEqProofs only[go_sem,seval]
  exact hq _ _ s ((Sub.refl s).set hb1) (.inr ⟨rfl,rfl,_,rfl⟩)
 ·have hn:0<l.length:=List.length_pos_iff.2 hl
  refine eD rfl rfl (by omega) (by rw[Nat.zero_add];exact hr) fun b2 cap hb2 fh=>?_
  rw[Nat.zero_add]at fh
  have hz:(List.replicate (cap -(0+l.length)) [.int .i64 0]).flatten=flat (List.replicate (cap -l.length) (0:Int)):=by rw[fX,Nat.zero_add];rfl
  rw[hz]
  simp -implicitDefEqProofs only[go_sem,seval,Nat.zero_add,List.nil_append]
  have KH:s b2=none:=((Sub.refl s).set hb1).none hb2
  refine hq _ _ _ (Sub.DG ((Sub.refl s).set hb1)) (.inl ⟨b2,cap,_,rfl,KH,by omega,fh,?_,?_,rfl⟩)
  ·rw[List.length_append,aA,aA,List.length_replicate]
   show l.length*1+(cap -l.length)*1=cap*1
   omega
  ·rw[k7,aN,aN]
theorem NU{o:Bool}{l:List Int}{s:ae}(hr:l.length*8<=room):FE prog 289 [.sl o 1 l.length (flat l)] s [.sl true 1 l.length (flat l)] s:=
 FN.GU (aA l) (aN l) ⟨rfl,rfl⟩ ((Kk hr).mono fun rs s' h=>by
  rcases h with⟨b,cap,sp,h1,h2,h3,h4,h5,h6,h7⟩|⟨h1,h2,h3⟩
  ·exact .inl ⟨b,cap,sp,h1,by rw[h7];exact bD,h3,h4,h5,by rw[h7,mE h2];exact Sub.refl s⟩
  ·subst h1;exact .inr ⟨rfl,rfl,by rw[h2];exact Sub.refl s,h3⟩)
abbrev Nh(l:List Int):AV:=.sl false 1 l.length (flat l)
def kz(l:List Int):List AV:=[.int .i64 (gG l 0),.int .i64 (gG l 1),.int .i64 (gG l 2),.int .i64 (gG l 3),.int .i64 (gG l 4),.int .i64 (gG l 5),.int .i64 (gG l 6),.int .i64 (gG l 7),.int .i64 (gG l 8),.int .i64 (gG l 9),.int .i64 (gG l 10),.int .i64 (gG l 11),.int .i64 (gG l 12),.int .i64 (gG l 13),.int .i64 (gG l 14),.int .i64 (gG l 15)]
def used(l:List Int):List Int:=(idxs l).filter fun k=>decide (ix l k>0)
def DM(l:List Int)(cd:List UInt32)(b cap:Nat):List AV:=Nh l::.sl false 1 cd.length (flat cd)::(kz l++[.arr b 0 (su l).length cap])
def Bm:AV->Bool
 |.ref _ _=>true
 |.bool _=>true
 |_=>false
def si:SO->Bool
 |.cells cs=>cs.any Bm
 |_=>true
theorem zk(pre post cs:List AV)(b o:Nat):si (.cells (Wi pre (.ref b o::cs) post))=true:=by
 show(pre++.ref b o::cs++post).any Bm=true
 simp[Bm]
theorem xi(k:IntKind)(n:Int)(x:Bool)(l:List AV):si (.cells (.int k n::.bool x::l))=true:=rfl
theorem xj(b o:Nat)(l:List AV):si (.cells (.ref b o::l))=true:=rfl
theorem wF(l:List Int):(flat l).any Bm=false:=by
 induction l with
 |nil=>rfl
 |cons a l ih=>rw[lj];show(false||(flat l).any Bm)=false;rw[ih];rfl
theorem SP(l:List Int)(cd:List UInt32)(b cap:Nat):(DM l cd b cap).any Bm=false:=rfl
def gF(s:ae)(x:HT):Prop:=Du x.lens/\∃(cd:List UInt32)(b cap:Nat)(sp:List AV),s x.B=some (.cells (DM x.lens cd b cap))/\(su x.lens≠[]->sp.any Bm=false/\s b=some (.cells (flat (su x.lens)++sp)))
theorem gF.ne{s:ae}{x:HT}(h:gF s x){B:Nat}{o:SO}(hB:s B=some o)(hn:si o=true):x.B≠B:=fun e=>by
 obtain⟨_,cd,b,cap,sp,h1,_⟩:=h
 rw[e,hB]at h1
 injection h1 with h1;subst h1
 have:(DM x.lens cd b cap).any Bm=true:=hn
 rw[SP]at this;cases this
theorem gF.set{s:ae}{x:HT}(h:gF s x){B:Nat}{o p:SO}(hB:s B=some o)(hn:si o=true):gF (s.set B p) x:=by
 have hne:=h.ne hB hn
 obtain⟨h0,cd,b,cap,sp,h1,h2⟩:=h
 refine⟨h0,cd,b,cap,sp,by rw[ai hne];exact h1,fun hs=>⟨(h2 hs).1,?_⟩⟩
 rw[ai fun e=>?_]
 ·exact(h2 hs).2
 ·subst e
  rw[(h2 hs).2]at hB
  injection hB with hB;subst hB
  have:(flat (su x.lens)++sp).any Bm=true:=hn
  rw[List.any_append,wF,(h2 hs).1]at this;cases this
theorem gF.DG{s:ae}{x:HT}(h:gF s x){B0 B1:Nat}{o0 o1 p0 p1:SO}(h0:s B0=some o0)(n0:si o0=true)(h1:s B1=some o1)(n1:si o1=true)(hne:B0≠B1):gF ((s.set B0 p0).set B1 p1) x:=(h.set h0 n0).set (by rw[ai hne.symm];exact h1) n1
theorem gF.mono{s s':ae}{x:HT}(h:gF s x)(hs:Sub s s'):gF s' x:=by
 obtain⟨h0,cd,b,cap,sp,h1,h2⟩:=h
 exact⟨h0,cd,b,cap,sp,hs _ _ h1,fun h=>⟨(h2 h).1,hs _ _ (h2 h).2⟩⟩
theorem SX{s:ae}{x:HT}(h:gF s x):FE prog 296 [.ref x.B 0] s [.bool false] s:=by
 obtain⟨h0,cd,b,cap,sp,h1,h2⟩:=h
 obtain⟨B,l⟩:=x
 obtain⟨x,xs,rfl⟩:∃x xs,l=x::xs:=by
  cases l with
  |nil=>exact absurd h0.1 (Nat.lt_irrefl 0)
  |cons x xs=>exact⟨x,xs,rfl⟩
 refine FS 12 [⟨2,true,none⟩] 0x1b18d247fb45d73f93155075a07855e8917ca603104a85be765d4720e68824473a ?_
 unfold DM Nh kz at h1
 rw[List.length_cons]at h1
 simp -implicitDefEqProofs only[go_sem,seval,h1,List.cons_append,List.nil_append]
theorem D0(m:List Int)(x:Int)(n:Nat):gG (m++[x]) n=if n≠0/\x=(n:Int)then gG m n+1 else gG m n:=by
 unfold gG
 by_cases h0:n=0
 ·simp[h0]
 ·by_cases hx:x=(n:Int)
  ·simp[h0,hx,List.filter_append]
  ·simp[h0,hx,List.filter_append]
theorem kH(m:List Int):(kz m).length=16:=rfl
theorem AW(m:List Int){n:Nat}(h:n<16):(kz m)[n]? =some (.int .i64 (gG m n)):=by
 have:n=0\/n=1\/n=2\/n=3\/n=4\/n=5\/n=6\/n=7\/n=8\/n=9\/n=10\/n=11\/n=12\/n=13\/n=14\/n=15:=by omega
 rcases this with h|h|h|h|h|h|h|h|h|h|h|h|h|h|h|h<;>subst h<;>rfl
theorem sub_one{cs:List AV}{n:Nat}{a:AV}(h:cs[n]? =some a):AB.sub cs n 1=[a]:=by
 unfold AB.sub
 obtain⟨h1,h2⟩:=List.getElem?_eq_some_iff.1 h
 rw[List.drop_eq_getElem_cons h1,h2];rfl
theorem HS(m:List Int){n:Int}(h0:0<=n)(h:n<16):views (AB.sub (kz m) (n.toNat*1) 1)=[.int .i64 (tH m n)]:=by rw[Nat.mul_one,sub_one (AW m (n:=n.toNat) (by omega))];rfl
theorem PY(m:List Int){x:Int}(h0:0<x)(h:x<16):setAt (kz m) (x.toNat*1) [.int .i64 (tH m x+1)]=kz (m++[x]):=by
 rw[Nat.mul_one]
 have hx:x=(x.toNat:Int):=by omega
 generalize x.toNat=k at hx h0 h
 subst hx
 apply List.ext_getElem?
 intro j
 have hl:(setAt (kz m) k [AV.int .i64 (tH m (k:Int)+1)]).length=16:=by
  have:=kH m
  simp[setAt,this];omega
 by_cases hj:j<16
 ·rw[AW _ hj,D0]
  have hk:k<16:=by omega
  unfold setAt
  by_cases hjk:j=k
  ·subst hjk
   have ht:(List.take j (kz m)).length=j:=by rw[List.length_take,kH];omega
   rw[List.append_assoc,List.getElem?_append_right (by omega),if_pos ⟨by omega,rfl⟩,ht,Nat.sub_self]
   simp[tH]
  ·rw[if_neg (by omega),<-AW m hj]
   rcases Nat.lt_or_ge j k with h1|h1
   ·rw[List.append_assoc,List.getElem?_append_left (by simp[kH];omega),List.getElem?_take,if_pos h1]
   ·rw[List.getElem?_append_right (by simp[kH];omega),List.getElem?_drop]
    congr 1
    simp[kH];omega
 ·rw[List.getElem?_eq_none (by omega),List.getElem?_eq_none (by rw[kH];omega)]
theorem NW(m:List Int){x:Int}(h:¬0<x):kz (m++[x])=kz m:=by
 unfold kz
 simp only[D0]
 simp;omega
theorem Hh(l:List Int){k:Nat}(h:k<l.length):l.take (k+1)=l.take k++[ix l (k:Int)]:=by rw[List.take_succ_eq_append_getElem h,gv h]
theorem TS(m:List Int)(x:Int):0<=tH m x/\tH m x<=m.length:=by
 unfold tH gG
 split
 ·omega
 ·have:=List.length_filter_le (fun y=>y==(x.toNat:Int)) m;omega
theorem AY{l:List Int}{s:ae}(hl:l.length<4611686018427387904)(hx:∀x∈l,0<=x/\x<=15):FE prog 290 [Nh l] s [.agg (kz l)] s:=by
 refine FS 21 [⟨2,false,some (16,true)⟩] 0x91ff951982b66d76f5e581b30eeea30f1efb6c8fdc211acdcc339a25b4a3055aa65207eab4eb888d62cf0af648c6d6d66c9e26e18e969ced7ac885632659cd3999ac3ae0320259a2f1f682d66aefbdaf4fe78797092a17f7e679014f148af5a57ec00000000000000000000000000000a8c164b8fcc000000000000000000000000000000058e353a ?_
 simp -implicitDefEqProofs only[go_sem,seval]
 refine iq l.length (fun k τ=>τ=⟨[(2,.loc (kz [])),(3,.loc (kz (l.take k))),(6,Nh l),(7,.int .i64 l.length),(8,.int .i64 k)],[],s⟩) hl rfl (fun k hk J τ hτ hJ=>?_) (fun J τ hτ=>?_)
 ·subst hτ
  have hlt:decide ((k:Int)<(l.length:Int))=true:=by simp;omega
  have hw:aC ((k:Int)+1)=((k+1:Nat):Int):=by rw[ar (by omega) (by omega)];omega
  have hn:=hJ _ rfl
  rw[Hh l hk]at hn
  have hix:=hx (ix l (k:Int)) (by rw[gv hk];exact List.getElem_mem _)
  have hml:(l.take k).length=k:=by rw[List.length_take];omega
  generalize l.take k=m at hn hml
  have hc:=kH m
  simp -implicitDefEqProofs only[go_sem,seval,hlt,hw,bL]
  generalize ix l (k:Int)=x at hn hix
  refine⟨⟨by omega,by omega⟩,fun hg=>⟨⟨by omega,by omega⟩,?_⟩,fun hg=>?_⟩
  ·have hg:0<x:=of_decide_eq_true hg
   have hd:decide (x.toNat*1+1<=(kz m).length)=true:=by rw[hc];simp;omega
   have hv:=HS m (n:=x) (by omega) (by omega)
   have hz:=TS m x
   have hw2:aC (tH m x+1)=tH m x+1:=ar (by omega) (by omega)
   simp -implicitDefEqProofs only[go_sem,seval,hd,hv,hw2,hw,bL]
   refine⟨⟨by omega,by omega⟩,by rw[hc];omega,?_⟩
   rw[PY m hg (by omega)]
   exact hn
  ·have hg:¬0<x:=of_decide_eq_false hg
   rw[NW m hg]at hn
   exact hn
 ·subst hτ
  have hlt:decide ((l.length:Int)<(l.length:Int))=false:=by simp
  rw[List.take_length]
  simp -implicitDefEqProofs only[go_sem,seval,hlt,kH l,bL]
  have e1:views (AB.sub (kz l) 0 16)=kz l:=rfl
  simp -implicitDefEqProofs only[go_sem,seval,e1,bL]
  exact⟨rfl,Nat.le_refl _,rfl,rfl⟩
theorem Od{l:List Int}{s:ae}{Q:List AV->ae->Prop}(hq:∀fs:List UInt32,fs.length=16->Q [.agg (flat fs)] s):FN prog 298 [.agg (kz l)] s Q:=by
 refine FS 24 [⟨2,false,some (16,true)⟩] 0x177e6ab2dbb0d0e46d6fb01b3a6c6f125f66c07ca3bdf034e15b8bb79c78b8c330108872577f91b9bbbc167d5ad2496a89aba55d2d7e839308bdc1e80f51224a184e57656ec0790feab470a97acd4f3617c2c88d0d2eb5538748917abd563e313f654f1dd0cbd4333594e561c41086661ede4cf5b62a2391a0b41682d05a0b41682d05a0b41682d05a0b41682688216eac4dc0981302604c0981302604c0981302604c098130260155662dda995b ?_
 simp -implicitDefEqProofs only[go_sem,seval]
 have ev:views (kz l)=kz l:=rfl
 refine⟨by rfl,?_⟩
 simp -implicitDefEqProofs only[go_sem,seval,ev]
 refine iq 16 (fun k τ=>∃(fs:List UInt32)(c:UInt32),fs.length=16/\τ=⟨[(1,.loc (kz l)),(2,.loc (flat (List.replicate 16 (0:UInt32)))),(3,.loc (flat fs)),(4,.int .u32 c.toNat),(6,.int .i64 k)],[],s⟩) (by decide) ⟨List.replicate 16 0,0,rfl,rfl⟩ (fun k hk J τ hτ hJ=>?_) (fun J τ hτ=>?_)
 ·obtain⟨fs,c,hf,rfl⟩:=hτ
  have hlt:decide ((k:Int)<16)=true:=by simp;omega
  have hw:aC ((k:Int)+1)=((k+1:Nat):Int):=by rw[ar (by omega) (by omega)];omega
  simp -implicitDefEqProofs only[go_sem,seval,hlt,hw,bL]
  refine⟨fun hg=>?_,fun hg=>?_⟩
  ·have hg:0<(k:Int):=of_decide_eq_true hg
   have hw2:aC ((k:Int) -1)=(k:Int) -1:=ar (by omega) (by omega)
   have hd:decide (((k:Int) -1).toNat*1+1<=(kz l).length)=true:=by rw[kH];simp;omega
   have hv:=HS l (n:=(k:Int) -1) (by omega) (by omega)
   simp -implicitDefEqProofs only[go_sem,seval,hw2,hd,hv,bL]
   have hs:=fun x=>JG fs (n:=1) rfl x (j:=(k:Int)) (by omega) (by omega)
   have hr:=EV fs (n:=1) rfl (j:=(k:Int)) (by omega) (by omega)
   rw[Int.toNat_natCast]at hr
   refine⟨⟨by omega,by omega⟩,⟨by omega,by omega⟩,hr.1,?_⟩
   generalize dF (kC .u32 _ 1)=c'
   have h2:=hs c'
   rw[Int.toNat_natCast]at h2
   rw[hw,show setAt (flat fs) (k*1) [.int .u32 c'.toNat]=flat (fs.set k c') from h2]
   exact hJ _ ⟨fs.set k c',c',by rw[List.length_set,hf],rfl⟩
  ·exact hJ _ ⟨fs,c,hf,rfl⟩
 ·obtain⟨fs,c,hf,rfl⟩:=hτ
  have hlt:decide ((16:Int)<16)=false:=by decide
  have hlf:(flat fs).length=16:=by rw[aA,hf];rfl
  have e1:views (AB.sub (flat fs) 0 16)=flat fs:=by
   unfold AB.sub
   rw[List.drop_zero,List.take_of_length_le (by omega),aN]
  have e2:setAt (flat (List.replicate 16 (0:UInt32))) 0 (flat fs)=flat fs:=by
   have h16:(flat (List.replicate 16 (0:UInt32))).length=16:=rfl
   unfold setAt
   rw[List.take_zero,List.nil_append,hlf,List.drop_eq_nil_of_le (by omega),List.append_nil]
  simp -implicitDefEqProofs only[go_sem,Nat.reduceBEq,Nat.reduceAdd,Nat.reduceMul,Nat.reduceLeDiff,Nat.reduceEqDiff,Nat.reduceBNe,UInt8.reduceToNat,UInt32.reduceToNat,hlt,hlf,e1,e2,bL]
  exact⟨by decide,hq fs hf⟩
theorem P0{l:List Int}{s:ae}{Q:List AV->ae->Prop}{k0:Int}(hk:nt l=some k0)(hx:0<=k0->0<l.length/\l.length<=320/\∀x∈l,0<=x/\x<=15)
 (h0:k0<0->Q [.sl true 1 0 [],.int .i64 13] s)(h1:0<=k0->∀cd:List UInt32,cd.length=l.length->Q [.sl true 1 cd.length (flat cd),.int .i64 0] s):FN prog 288 [Nh l] s Q:=by
 refine FS 39 [⟨2,true,none⟩,⟨3,true,none⟩] 0xa0b3bba5e7f0349febba72e4c35354bc3bd815188df51d8845775c5dc5653d42ba02711a0baecde4e05912710553dd73ce24a3f5807891f927d95333fef714eb98b0c7140f3d416df5f1f61a4fb5d94ad93fc6dc757a2cc9876bd4f7987cfc025fc0b8e521a65e3b962114be3dd3452a77957790163fc69cca3bd70440169e0ecd3e88e1fd2ee5ac5bb8f8cda6f550853ef0dc0c5a97d8dbd1796e20bc1782f05e0bc1782f05e0bc1782ecd366ccf242736c2d85d1fbca555dc511eed4beb5aba2129d0ba0e28b3c303b85f173db200798d0f2a78b ?_
 simp -implicitDefEqProofs only[go_sem,seval]
 refine aQ (fun _ h=>(kc Dl h:)) (fun r hr=>?_) ⟨k0,hk,rfl⟩
 subst hr
 simp -implicitDefEqProofs only[go_sem,seval,bL]
 refine⟨fun hc=>h0 (of_decide_eq_true hc),fun hc=>?_⟩
 have hc:¬k0<0:=of_decide_eq_false hc
 obtain⟨hl0,hl1,hx⟩:=hx (by omega)
 have h1:=h1 (by omega)
 clear h0 hk
 refine FE.app (AY (by omega) hx) ?_
 simp -implicitDefEqProofs only[go_sem,seval,bL]
 refine Od fun fs hfs=>?_
 have hlf:(flat fs).length=16:=by rw[aA,hfs];rfl
 have hvf:=aN fs
 simp -implicitDefEqProofs only[go_sem,seval,hlf,hvf,bL]
 refine⟨by omega,by omega,by unfold room;omega,fun b hb=>?_⟩
 rw[List.append_nil]
 clear hlf hvf
 refine iq l.length (fun k τ=>∃fs cd:List UInt32,fs.length=16/\cd.length=l.length/\τ=⟨[(4,.loc (flat fs)),(5,.arr b 0 l.length l.length),(17,Nh l),(18,.int .i64 l.length),(19,.int .i64 k)],[],s.set b (.cells (flat cd))⟩) (by omega) ⟨fs,List.replicate l.length 0,hfs,by simp,rfl⟩ (fun k hk J τ hτ hJ=>?_) (fun J τ hτ=>?_)
 ·obtain⟨fs,cd,hf,hcd,rfl⟩:=hτ
  have hlt:decide ((k:Int)<(l.length:Int))=true:=by simp;omega
  have hw:aC ((k:Int)+1)=((k+1:Nat):Int):=by rw[ar (by omega) (by omega)];omega
  have hix:=hx (ix l (k:Int)) (by rw[gv hk];exact List.getElem_mem _)
  simp -implicitDefEqProofs only[go_sem,seval,hlt,bL]
  generalize ix l (k:Int)=x at hix
  refine⟨⟨by omega,by omega⟩,fun hg=>?_,fun hg=>?_⟩
  ·have hg:0<x:=of_decide_eq_true hg
   have hr:=EV fs (n:=1) rfl (j:=x) (by omega) (by omega)
   have hd:=decide_eq_true hr.1
   have hr2:views (AB.sub (flat fs) (x.toNat*1) 1)=[.int .u32 (ix fs x).toNat]:=hr.2
   have hs:=fun c=>JG fs (n:=1) rfl c (j:=x) (by omega) (by omega)
   have hs2:setAt (flat cd) (k*1) [.int .u32 (ix fs x).toNat]=flat (cd.set k (ix fs x)):=by
    have:=JG cd (n:=1) rfl (ix fs x) (j:=(k:Int)) (by omega) (by omega)
    rwa[Int.toNat_natCast]at this
   have hk1:k*1+1<=(flat cd).length:=by
    have:=(EV cd (n:=1) rfl (j:=(k:Int)) (by omega) (by omega)).1
    rwa[Int.toNat_natCast]at this
   simp -implicitDefEqProofs only[go_sem,seval,hd,hr2,hs2,hw,bL]
   refine⟨⟨by omega,by omega⟩,⟨by omega,by omega⟩,hk1,⟨by omega,by omega⟩,⟨by omega,by omega⟩,hr.1,?_⟩
   exact hJ _ ⟨_,cd.set k _,by rw[E4 fs (by omega) (by omega),hf],by rw[List.length_set,hcd],rfl⟩
  ·simp -implicitDefEqProofs only[go_sem,seval,hw,bL]
   exact hJ _ ⟨fs,cd,hf,hcd,rfl⟩
 ·obtain⟨fs,cd,hf,hcd,rfl⟩:=hτ
  have hlt:decide ((l.length:Int)<(l.length:Int))=false:=by simp
  simp -implicitDefEqProofs only[go_sem,seval,hlt,bL]
  right
  have hlc:(flat cd).length=l.length:=by rw[aA,hcd];exact Nat.mul_one _
  have df:decide (l.length*1<=(flat cd).length)=true:=by rw[hlc];simp
  have e1:views (AB.sub (flat cd) 0 (l.length*1))=flat cd:=by
   unfold AB.sub
   rw[List.drop_zero,List.take_of_length_le (by omega),aN]
  refine⟨hl0,Nat.le_refl _,fun _=>⟨rfl,?_,?_⟩,?_⟩
  ·simp only[bD,vK];omega
  ·simp only[bD,wH.sizeV];omega
  ·have h1:=h1 cd hcd
   rw[hcd]at h1
   simp -implicitDefEqProofs only[go_sem,seval,bD,jl,wH.frzK,df,e1,mE hb,cond_true,bL]
   exact h1
def MR:IC:=dec 0x1ff0ab553080736dfe6da5a56c8b8f77373f722964a37a647cfe35be0d5a7402445553ba82f6e76cedde08a34c37c94411ac75b07ff2d0148a5262c4855501c607e505ea94c5f999158496c6ed4818a22c568cf2cdf2d852656d8f08256f3f18c467312b5ec51bfa174c15c91da411fe488e15cb4c445cdd6051c0f96b76d35878b8d7f8bd7c881311b87a7c3df1c25457b0d0225598629372e81ba7bdebd92824b126902000000000000039d64e83085e882ff17bd5289aa561d49396466464c5ba5be22c28206c393e0586e647bb4629339e8adcae22b78376847e4aeabf8c5cb2395ad6181f35f89d807d4c819ccbac
theorem UL:eH prog 271 51 [⟨2,true,none⟩,⟨3,true,none⟩] MR=true:=by kernel_rfl
section
variable{α:Type}[aP α]
def Nd:cN->List AV
 |none=>[]
 |some (_,_,sp)=>sp
theorem Px{E:St}{d:Option Nat}{K:St->Prop}{sz by':Nat}{s:ae}{r:cN}{l:List α}{z v:α}(hσ:E.s=iw s r l)(h:fB s r l)(hz:sz=aP.w α)(hr:(l.length+1)*by'<=room)
 (hK:∀s' r',Sub s s'->fB s' r' (l++[v])->(∀c∈Nd r',c∈Nd r\/c∈aP.cells z)->K ({E with s:=iw s' r' (l++[v])}.put d (iG r' (l.length+1)))):
 dY sz by' (aP.cells z) E d K (iG r l.length) (some (1,aP.cells v)):=by
 subst hz
 have hcz:(aP.cells z).length=aP.w α:=aP.len z
 have hcv:flat [v]=aP.cells v:=by unfold flat;simp
 have hvz:views (aP.cells z)=aP.cells z:=aP.vw z
 have fresh:∀(s':ae)(b' dp:Nat),s' b'=none->l.length+1<=dp->fB s' (some (b',dp,flat (List.replicate (dp -(l.length+1)) z))) (l++[v]):=fun s' b' dp hb hc=>by
  refine⟨hb,by omega,by simpa using hc,?_,aN _⟩
  rw[List.length_append,aA,aA,List.length_replicate,List.length_append,<-Nat.add_mul]
  congr 1
  simp;omega
 have zs:∀k,∀c∈flat (List.replicate k z),c∈Nd r\/c∈aP.cells z:=fun k c hc=>by
  rw[fX]at hc
  obtain⟨x,hx,hc⟩:=List.mem_flatten.1 hc
  rw[List.eq_of_mem_replicate hx]at hc
  exact .inr hc
 cases r with
 |none=>
  obtain rfl:l=[]:=h
  show dY (aP.w α) by' (aP.cells z) E d K (.arr 0 0 0 0) _
  refine eD hcz (olds:=[]) rfl (by simp) hr fun b' dp hb' hc=>?_
  rw[List.nil_append,<-fX,<-hcv]
  rw[hσ]at hb'⊢
  have:=hK s (some (b',dp,flat (List.replicate (dp -(0+1)) z))) (Sub.refl s) (fresh s b' dp hb' hc) (zs _)
  exact this
 |some x=>
  obtain⟨b,cap,sp⟩:=x
  obtain⟨h1,h2,h3,h4,h5⟩:=h
  have hs:E.s b=some (.cells (flat l++sp)):=by rw[hσ];exact bD
  show dY (aP.w α) by' (aP.cells z) E d K (.arr b 0 l.length cap) _
  by_cases hc:l.length+1<=cap
  ·refine nZ hcz hs (by rw[h4,Nat.zero_add];exact Nat.le_refl _) hc ?_
   have hsp:[v].length*aP.w α<=sp.length:=by
    rw[List.length_append,aA]at h4
    have:(l.length+1)*aP.w α<=cap*aP.w α:=Nat.mul_le_mul_right _ hc
    rw[Nat.add_mul,Nat.one_mul]at this
    simp;omega
   have st:=B4 l [v] sp (aP.w α) rfl hsp
   rw[Nat.zero_add,<-hcv,st]
   have e:E.s.set b (.cells (flat (l++[v])++sp.drop ([v].length*aP.w α)))=iw s (some (b,cap,sp.drop ([v].length*aP.w α))) (l++[v]):=by
    rw[hσ]
    show(s.set b _).set b _=s.set b _
    exact set_set ..
   rw[e]
   refine hK s _ (Sub.refl s) ⟨h1,h2,by simpa using hc,?_,?_⟩ fun c hc=>.inl (List.mem_of_mem_drop hc)
   ·rw[List.length_append,aA]at h4⊢
    rw[List.length_drop,List.length_append,Nat.add_mul]
    omega
   ·unfold views at h5⊢
    rw[List.map_drop,h5]
  ·refine eD hcz (td hs (by
    rw[Nat.zero_add,h4];exact Nat.mul_le_mul_right _ h3)) (by omega) hr fun b' dp hb' hc'=>?_
   have ho:views (AB.sub (flat l++sp) 0 (l.length*aP.w α))=flat l:=by
    have:=lL l sp (aP.w α) 0 l.length rfl (by omega)
    rw[Nat.zero_mul]at this
    rw[this,List.drop_zero,List.take_length,aN]
   rw[ho,<-fX,<-hcv,<-ep]
   rw[hσ]at hb'⊢
   have hb0:(s.set b (.cells (flat l++sp))) b'=none:=hb'
   exact hK (s.set b (.cells (flat l++sp))) (some (b',dp,flat (List.replicate (dp -(l.length+1)) z))) ((Sub.refl s).set h1) (fresh _ b' dp hb0 hc') (zs _)
end
namespace SI
end SI
def ul(l:List Int)(k:Nat):List Int:=((List.range k).map fun(i:Nat)=>(i:Int)).filter fun i=>decide (0<ix l i)
theorem Hk(l:List Int)(k:Nat):ul l (k+1)=if 0<ix l (k:Int)then ul l k++[(k:Int)]else ul l k:=by
 unfold ul
 rw[List.range_succ,List.map_append,List.filter_append]
 by_cases h:0<ix l (k:Int)
 ·rw[if_pos h];simp[h]
 ·rw[if_neg h];simp[h]
theorem Tb(l:List Int)(k:Nat):(ul l k).length<=k:=by
 unfold ul
 refine Nat.le_trans (List.length_filter_le _ _) ?_
 simp
theorem Tc{l:List Int}{k:Nat}{x:Int}(h:x∈ul l k):0<=x/\x<k:=by
 unfold ul at h
 obtain⟨i,hi,rfl⟩:=List.mem_map.1 (List.mem_filter.1 h).1
 have:=List.mem_range.1 hi
 omega
theorem Td(l:List Int):∀k,(ul l k).Pairwise fun u v=>u<v
 |0=>List.Pairwise.nil
 |k+1=>by
  rw[Hk]
  split
  ·refine List.pairwise_append.2 ⟨Td l k,List.pairwise_singleton _ _,fun x hx y hy=>?_⟩
   rw[List.mem_singleton]at hy
   have:=Tc hx
   omega
  ·exact Td l k
theorem SN(n:Nat):∀(l:List Int)(o:Nat),(sy n l o).Pairwise fun u v=>u<v
 |[],_=>List.Pairwise.nil
 |x::l,o=>by
  rw[sy]
  split
  ·refine List.pairwise_cons.2 ⟨fun y hy=>?_,SN n l _⟩
   have:=Hg (n:=n) l (o+1) y hy
   omega
  ·exact SN n l _
theorem YV{l:List Int}{p:Int->Bool}{x:Int}(h:x∈(idxs l).filter p):0<=x/\x<l.length/\p x=true:=by
 have h2:=List.mem_filter.1 h
 unfold idxs at h2
 obtain⟨i,hi,rfl⟩:=List.mem_map.1 h2.1
 have:=List.mem_range.1 hi
 exact⟨by omega,by omega,h2.2⟩
theorem Ns{n:Nat}{l:List Int}{x:Int}(h:x∈sy n l 0):ix l x=(n:Int):=by
 rw[<-KR]at h
 have:=(YV h).2.2
 simpa using this
theorem R8{l:List Int}{x:Int}:∀m,x∈pre l m->0<ix l x/\ix l x<=(m:Int)
 |0,h=>absurd h List.not_mem_nil
 |m+1,h=>by
  rw[pre]at h
  rcases List.mem_append.1 h with h|h
  ·have:=R8 m h;omega
  ·have:=Ns h;omega
theorem M7(l:List Int):∀m,jj (SI.yu l) (pre l m)
 |0=>List.Pairwise.nil
 |m+1=>by
  rw[pre]
  refine jj.app.2 ⟨M7 l m,?_,fun a ha b hb=>?_⟩
  ·refine List.Pairwise.imp_of_mem (fun{x y} hx hy hxy=>?_) (SN (m+1) l 0)
   have h1:=Ns hx
   have h2:=Ns hy
   unfold SI.yu
   rw[h1,h2];simp;omega
  ·have h1:=R8 m ha
   have h2:=Ns hb
   unfold SI.yu
   rw[h2];simp;omega
theorem Jm(l:List Int):∀m,(pre l m).Perm ((idxs l).filter fun x=>decide (0<ix l x/\ix l x<=(m:Int)))
 |0=>by
  rw[List.filter_eq_nil_iff.2]
  ·exact List.Perm.refl _
  ·intro x _;simp<;>omega
 |m+1=>by
  rw[pre]
  have h:=List.filter_append_perm (fun x=>decide (0<ix l x/\ix l x<=(m:Int))) ((idxs l).filter fun x=>decide (0<ix l x/\ix l x<=((m+1:Nat):Int)))
  rw[List.filter_filter,List.filter_filter]at h
  refine List.Perm.trans (List.Perm.append (Jm l m) (List.Perm.refl _)) ?_
  rw[<-KR]
  refine List.Perm.trans (List.Perm.of_eq ?_) h
  congr 1
  ·refine List.filter_congr fun x _=>?_
   rw[Bool.eq_iff_iff];simp;omega
  ·refine List.filter_congr fun x _=>?_
   rw[Bool.eq_iff_iff];simp;omega
theorem O5{l Z:List Int}(hl:Du l)(h1:Z.Perm (ul l l.length))(h2:jj (SI.yu l) Z):Z=su l:=by
 have hp:=Jm l 15
 rw[<-Cg]at hp
 have e:((idxs l).filter fun x=>decide (0<ix l x/\ix l x<=((15:Nat):Int)))=ul l l.length:=by
  unfold ul
  refine List.filter_congr fun x hx=>?_
  unfold idxs at hx
  obtain⟨i,hi,rfl⟩:=List.mem_map.1 hx
  have hi:=List.mem_range.1 hi
  have:=hl.2.2 _ (List.getElem_mem hi)
  rw[<-gv hi]at this
  rw[Bool.eq_iff_iff];simp;omega
 rw[e]at hp
 refine List.Perm.eq_of_pairwise (le:=fun x y=>SI.yu l y x=false) (fun a b _ _ h1 h2=>?_) h2 (by rw[Cg];exact M7 l 15) (h1.trans hp.symm)
 unfold SI.yu at h1 h2
 simp only[Bool.or_eq_false_iff,decide_eq_false_iff_not,Bool.and_eq_false_iff,beq_eq_false_iff_ne]at h1 h2
 omega
theorem EU{α:Type}[aP α]{S:ae}{r:cN}{l:List α}(h:fB S r l){B:Nat}{o:SO}(hB:S B=some o)(p:SO):(iw S r l).set B p=iw (S.set B p) r l/\fB (S.set B p) r l:=by
 cases r with
 |none=>exact⟨rfl,h⟩
 |some x=>
  obtain⟨rb,cap,sp⟩:=x
  obtain⟨h1,h2⟩:=h
  have hne:B≠rb:=fun e=>by subst e;rw[h1]at hB;cases hB
  exact⟨set_comm hne,by rw[ai hne.symm];exact h1,h2⟩
abbrev SQ(l:List Int)(cd:List UInt32)(a:AV):List AV:=Nh l::.sl false 1 cd.length (flat cd)::(kz l++[a])
theorem Zw{l:List Int}{s:ae}{Q:List AV->ae->Prop}(h0:MV l<0->∀s',Sub s s'->Q [.fj,.int .i64 13] s')(h1:0<=MV l->∀s' x,Sub s s'->gF s' x->x.lens=l->Q [.ref x.B 0,.int .i64 0] s'):FN prog 271 [Nh l] s Q:=by
 have bX:room=140737488355328:=rfl
 refine FN.ji (FO UL rfl rfl ?_)
 generalize hQ:(fun rs s'=>∃s2,Sub s2 s'/\Q rs s2)=Q'
 rw[MR]
 conv in dec _=>reduce
 simp -implicitDefEqProofs only[go_sem,seval,bL]
 intro b hb
 refine P0 (Rk l) (fun h=>K4 h) (fun h=>?_) (fun h cd hcd=>?_)
 ·simp -implicitDefEqProofs only[go_sem,Nat.reduceBEq,Nat.reduceAdd,Nat.reduceMul,Nat.reduceLeDiff,Nat.reduceEqDiff,Nat.reduceBNe,UInt8.reduceToNat,UInt32.reduceToNat,bL]
  refine⟨fun _=>?_,fun hc=>absurd hc (by decide)⟩
  subst hQ
  exact⟨s,(Sub.refl s).set hb,h0 h s (Sub.refl s)⟩
 ·have hok:=K4 h
  obtain⟨hl0,hl1,hl2⟩:=hok
  have hl8:l.length*8<=room:=by omega
  simp -implicitDefEqProofs only[go_sem,seval,bD,bL]
  refine⟨_,rfl,NU hl8,_,rfl,AY (by omega) hl2,?_⟩
  have hcv:views (flat cd)=flat cd:=aN cd
  have hlv:views (flat l)=flat l:=aN l
  have hca:views (kz l)=kz l:=rfl
  simp -implicitDefEqProofs only[go_sem,seval,kz,bL]
  intro B hB
  have hne:B≠b:=fun e=>by subst e;rw[bD]at hB;cases hB
  have hsB:s B=none:=by rw[ai hne]at hB;exact hB
  have hbB:=fun o:SO=>(ai hne.symm:((s.set b (.cells [Nh l])).set B o) b=(s.set b (.cells [Nh l])) b)
  simp -implicitDefEqProofs only[go_sem,seval,ai hne.symm,bD]
  refine iq l.length (fun k τ=>∃(S:ae)(r:cN),τ=⟨[(1,.ref b 0),(6,.ref B 0),(24,Nh l),(25,.int .i64 l.length),(26,.int .i64 k)],[],iw S r (ul l k)⟩/\fB S r (ul l k)/\Sub s S/\S b=some (.cells [Nh l])/\S B=some (.cells (SQ l cd (iG r (ul l k).length)))/\(∀c∈Nd r,c=.int .i64 0)) (by omega) ?_ (fun k hk J τ hτ hJ=>?_) (fun J τ hτ=>?_)
  ·refine⟨_,none,rfl,rfl,?_,?_,bD,fun c hc=>absurd hc List.not_mem_nil⟩
   ·exact((Sub.refl s).set hb).set hB
   ·show((s.set b (.cells [Nh l])).set B _) b=_
    rw[ai hne.symm,bD]
  ·obtain⟨S,r,rfl,hr,hs,hSb,hSB,hsp⟩:=hτ
   have hlt:decide ((k:Int)<(l.length:Int))=true:=by simp;omega
   have hw:aC ((k:Int)+1)=((k+1:Nat):Int):=by rw[ar (by omega) (by omega)];omega
   have hul:=Tb l k
   simp -implicitDefEqProofs only[go_sem,seval,hlt,bL]
   refine⟨⟨by omega,by omega⟩,fun hg=>?_,fun hg=>?_⟩
   ·have hg:0<ix l (k:Int):=of_decide_eq_true hg
    have hB2:=jf hr hSB
    have hu:=Hk l k
    rw[if_pos hg]at hu
    unfold SQ kz at hB2
    simp -implicitDefEqProofs only[go_sem,seval,hB2,List.cons_append,List.nil_append,js,bL]
    refine Px (z:=(0:Int)) (v:=(k:Int)) rfl hr rfl (by omega) fun S' r' hs' ve agX=>?_
    have hB3:=jf ve (hs' _ _ hSB)
    unfold SQ kz at hB3
    simp -implicitDefEqProofs only[go_sem,seval,hB3,hw,List.cons_append,List.nil_append,bL]
    refine hJ _ ⟨S'.set B (.cells (SQ l cd (iG r' (ul l (k+1)).length))),r',?_,?_,?_,?_,bD,fun c hc=>?_⟩
    ·rw[hu,List.length_append,(EU ve (hs' _ _ hSB) _).1];rfl
    ·rw[hu];exact(EU ve (hs' _ _ hSB) _).2
    ·intro b' o hb'
     have:b'≠B:=fun e=>by subst e;rw[hsB]at hb';cases hb'
     rw[ai this]
     exact hs' _ _ (hs _ _ hb')
    ·rw[ai hne.symm];exact hs' _ _ hSb
    ·rcases agX c hc with h|h
     ·exact hsp c h
     ·have h:c∈[AV.int .i64 0]:=h
      simpa using h
   ·have hg:¬0<ix l (k:Int):=of_decide_eq_false hg
    have hu:=Hk l k
    rw[if_neg hg]at hu
    simp -implicitDefEqProofs only[go_sem,seval,hw,bL]
    exact hJ _ ⟨S,r,by rw[hu],by rw[hu];exact hr,hs,hSb,by rw[hu];exact hSB,hsp⟩
  ·obtain⟨S,r,rfl,hr,hs,hSb,hSB,hsp⟩:=hτ
   have hlt:decide ((l.length:Int)<(l.length:Int))=false:=by simp
   have hB2:=jf hr hSB
   have hb2:=jf hr hSb
   unfold SQ kz at hB2
   simp -implicitDefEqProofs only[go_sem,seval,hlt,hB2,List.cons_append,List.nil_append,bL]
   have fin:∀s',Sub s s'->gF s' ⟨B,l⟩->Q' [.ref B 0,.int .i64 0] s':=fun s' h2 h3=>by
    subst hQ
    exact⟨s',Sub.refl s',h1 h s' ⟨B,l⟩ h2 h3 rfl⟩
   have MK:=fun Z h1 h2=>O5 (l:=l) (Z:=Z) ⟨hl0,hl1,hl2⟩ h1 h2
   cases r with
   |none=>
    have hu0:ul l l.length=[]:=hr
    rw[hu0]at hSB MK⊢
    refine SI.OZ ?_
    simp -implicitDefEqProofs only[go_sem,seval,bL]
    refine fin S hs ⟨⟨hl0,hl1,hl2⟩,cd,0,0,[],?_,fun hne=>?_⟩
    ·have:=MK [] (List.Perm.refl _) List.Pairwise.nil
     rw[hSB]
     unfold DM
     rw[<-this];rfl
    ·exact absurd (MK [] (List.Perm.refl _) List.Pairwise.nil).symm hne
   |some x=>
    obtain⟨rb,cap,sp⟩:=x
    have hrb:S rb=none:=hr.1
    have agR:b≠rb:=fun e=>by subst e;rw[hSb]at hrb;cases hrb
    have agQ:B≠rb:=fun e=>by subst e;rw[hSB]at hrb;cases hrb
    refine SI.O0 (Lb:=b) (lens:=l) hSb agR (by have:=Tb l l.length;omega) (Td l _) (fun z hz=>Tc hz) fun Z hZ hs2=>?_
    have hZe:=MK Z hZ hs2
    simp -implicitDefEqProofs only[go_sem,seval,bL]
    refine fin _ ?_ ⟨⟨hl0,hl1,hl2⟩,cd,rb,cap,sp,?_,fun _=>⟨?_,?_⟩⟩
    ·exact fun b' o hb'=>by
      have h3:=hs _ _ hb'
      have:b'≠rb:=fun e=>by subst e;rw[hrb]at h3;cases h3
      show S.set rb _ b'=_
      rw[ai this];exact h3
    ·show S.set rb _ B=_
     rw[ai agQ,hSB]
     unfold DM
     rw[<-hZe,hZ.length_eq]
     rfl
    ·rw[List.any_eq_false]
     intro c hc
     rw[hsp c hc]
     simp[Bm]
    ·show S.set rb _ rb=_
     rw[hZe,bD]
theorem gF.row{s:ae}{x:HT}(h:gF s x){B:Nat}{o:SO}(hB:s B=some o)(hn:si o=true):x.B≠B/\∃(cd:List UInt32)(b cap:Nat)(sp:List AV),(∀p,(s.set B p) x.B=some (.cells (DM x.lens cd b cap)))/\(su x.lens≠[]->∀p,(s.set B p) b=some (.cells (flat (su x.lens)++sp))):=by
 have hne:=h.ne hB hn
 have zF:=fun p=>h.set (p:=p) hB hn
 obtain⟨h0,cd,b,cap,sp,h1,h2⟩:=h
 refine⟨hne,cd,b,cap,sp,fun p=>by rw[ai hne];exact h1,fun hs p=>?_⟩
 rw[ai fun e=>?_]
 ·exact(h2 hs).2
 ·subst e
  rw[(h2 hs).2]at hB
  injection hB with hB;subst hB
  have:(flat (su x.lens)++sp).any Bm=true:=hn
  rw[List.any_append,wF,(h2 hs).1]at this;cases this
abbrev rdC(r:bC):List AV:=[.int .i64 r.az.at_,.bool r.az.rO,.bool r.az.uA,.sl false 1 r.b_.length (flat r.b_)]
theorem Cn(l:List Int)(cd:List UInt32)(b cap:Nat):DM l cd b cap=[Nh l,.sl false 1 cd.length (flat cd),.int .i64 (gG l 0),.int .i64 (gG l 1),.int .i64 (gG l 2),.int .i64 (gG l 3),.int .i64 (gG l 4),.int .i64 (gG l 5),.int .i64 (gG l 6),.int .i64 (gG l 7),.int .i64 (gG l 8),.int .i64 (gG l 9),.int .i64 (gG l 10),.int .i64 (gG l 11),.int .i64 (gG l 12),.int .i64 (gG l 13),.int .i64 (gG l 14),.int .i64 (gG l 15),.arr b 0 (su l).length cap]:=rfl
theorem VV(l:List Int)(cd:List UInt32)(b cap:Nat){n:Int}(h0:0<=n)(h:n<16)(cs:List AV)(e:cs=DM l cd b cap):views (List.take 1 (List.drop (2+n.toNat*1) cs))=[.int .i64 (tH l n)]:=by
 subst e
 unfold tH
 have h2:n.toNat<16:=by omega
 generalize n.toNat=m at h2
 have:m=0\/m=1\/m=2\/m=3\/m=4\/m=5\/m=6\/m=7\/m=8\/m=9\/m=10\/m=11\/m=12\/m=13\/m=14\/m=15:=by omega
 rcases this with h|h|h|h|h|h|h|h|h|h|h|h|h|h|h|h<;>subst h<;>rfl
theorem wQ{t_0:HT}{r_1:bC}{B1:Nat}{s:ae}{Q:List AV->ae->Prop}(hB1:s B1=some (.cells [.int .i64 r_1.az.at_,.bool r_1.az.rO,.bool r_1.az.uA,.sl false 1 r_1.b_.length (flat r_1.b_)]))(va0:gF s t_0):ok (gJ t_0 r_1) (fun r=>Q [.int .i64 r.1,.int .i64 r.2.1] (s.set B1 (.cells [.int .i64 r.2.2.az.at_,.bool r.2.2.az.rO,.bool r.2.2.az.uA,.sl false 1 r.2.2.b_.length (flat r.2.2.b_)])))->FN prog 287 [.ref t_0.B 0,.ref B1 0] s Q:=by
 intro h
 refine FS 77 [⟨4,true,none⟩,⟨5,true,none⟩] 0xed146486bd4d4e88c059262de53264f86fd294a7895cb5bed24c664d4a89e0c43bce1cd8c63462268e8e5466d552d09a353ea8b7d3916f37acbfbb37e22dec6b94a90a01b846de65a9e191c1659f7d79eefa2db57551d647e9d976317429fde04dfd5361fafbd2a4938fee765897abef8eff4e30cebb94776652cbc068305e16d0c1fb0b349ec1905ff7dd1ff07a500e6359616b64f0ff80bef82777045a368b145b897a7e89db9a22bceb8b5a4d75260eebc44edd18ff3e3c298e97a8e415c57d68320cfab3757076ebe542b7ada1ed4f4fde354a326a0230a2a09826a0bac23426bf5fb8a9c8e369799c1dc7fd47c60fdddc1308627bf13d3ce687aba1cfde1421f1d2c6d1095c78dc0d6859a1810b7bb947b1892365bd05fc41d0eb7079603c311ac076ea0e155a0f7055815a4b4fbe23b0d697eb2003cc00844b ?_
 obtain⟨hne,cd,b,cap,sp,hT,hR⟩:=va0.row hB1 rfl
 simp -implicitDefEqProofs only[go_sem,seval,bL]
 refine FE.app (SX va0) ?_
 simp -implicitDefEqProofs only[go_sem,seval,bL]
 unfold gJ at h
 refine ed (fun((code,first,at_,n,r):Int×Int×Int×Int×bC)=>(⟨[(0,.ref t_0.B 0),(1,.ref B1 0),(6,.int .i64 code),(7,.int .i64 first),(8,.int .i64 at_),(9,.int .i64 n)],[],s.set B1 (.cells (rdC r))⟩:St)) ?_ ?_ h
 ·simp -implicitDefEqProofs only[go_sem,seval,bj hB1]
 ·rintro J ⟨code,first,at_,n,r⟩
  simp only[Cn]at hT
  simp -implicitDefEqProofs only[go_sem,seval,hT,bL]
  refine cI (er (cI dQ (er fun hh=>?_))) dQ
  refine nc (B0:=B1) bD (aK hh fun g hg=>?_)
  simp -implicitDefEqProofs only[go_sem,seval,hT,set_set,bL]
  obtain⟨hg1,hg2⟩:=hg
  refine⟨hg1,fun he=>?_⟩
  obtain⟨hn,hg3,hg4⟩:=hg2 he
  clear hg1 hg2 hh h
  have hd:decide (2+n.toNat*1<=18)=true:=by simp;omega
  have hv:=fun cs(e:cs=DM t_0.lens cd b cap)=>VV t_0.lens cd b cap hn.1 hn.2 cs e
  have hv:=hv _ rfl
  simp only[Cn]at hv
  refine⟨hn,?_⟩
  rw[hd,cond_true,hv]
  simp -implicitDefEqProofs only[go_sem,seval,bL]
  refine⟨fun hc=>?_,fun hc=>?_⟩
  ·obtain⟨h1,h2⟩:=hg3 hc
   have agP:su t_0.lens≠[]:=fun e=>by rw[e]at h1;have:=h1.1;have:=h1.2;simp at this;omega
   have e7:=aey (su t_0.lens) sp (n:=1) rfl h1.1 h1.2
   have hR:=hR agP
   generalize flat (su t_0.lens)++sp=rc at e7 hR
   have hd2:=decide_eq_true e7.1
   have hv2:views (AB.sub rc _ 1)=[.int .i64 _]:=e7.2
   simp -implicitDefEqProofs only[go_sem,seval,hT,hR,hd2,hv2,bL]
   exact⟨h1,h2⟩
  ·have h2:=hg4 hc
   simp -implicitDefEqProofs only[go_sem,seval,hT,hd,cond_true,hv,bL]
   exact⟨hn,hn,h2⟩
end Go.AB
end
