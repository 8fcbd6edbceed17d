/- A part. -/
import Derived.Test.YtgecakgfnjkkbaaGreatTt19
set_option linter.defProp false
set_option linter.unusedSimpArgs false
set_option linter.unusedVariables false
section
namespace Go.AB
open Go
def Pt{k n:Nat}(h:k<=n):(2:Int)^k<=2^n:=by
 have:=Nat.pow_le_pow_right (n:=2) BY h
 grind
def kT(x:Int):Int×Int×Bool:=if x<257\/x>285 then(0,0,false)else(ft x).getD (0,0,false)
def jB(x:Int):Int×Int×Bool:=if x<0\/x>29 then(0,0,false)else(eD x).getD (0,0,false)
def Pk(x:Int):ft x=some (kT x)/\su x=some (kT x)/\0<=(kT x).1/\(kT x).1<=258/\0<=(kT x).2.1/\(kT x).2.1<=5:=by
 by_cases h:x<257\/x>285
 ·unfold kT ft su
  grind
 ·have hk:∃k:Nat,k<29/\x=257+k:=⟨(x -257).toNat,AT,AT⟩
  obtain⟨k,hk,rfl⟩:=hk
  have:=List.all_eq_true.1 (show((List.range 29).all fun k=>decide (ft (257+k)=some (kT (257+k))/\su (257+k)=some (kT (257+k))/\0<=(kT (257+k)).1/\(kT (257+k)).1<=258/\0<=(kT (257+k)).2.1/\(kT (257+k)).2.1<=5))=true by decide+kernel) k (List.mem_range.2 hk)
  grind
def Wt(x:Int):eD x=some (jB x)/\pd x=some (jB x)/\0<=(jB x).1/\(jB x).1<=32768/\0<=(jB x).2.1/\(jB x).2.1<=13/\((jB x).2.2=true->1<=(jB x).1):=by
 by_cases h:x<0\/x>29
 ·unfold jB eD pd
  grind
 ·have hk:∃k:Nat,k<30/\x=k:=⟨x.toNat,AT,AT⟩
  obtain⟨k,hk,rfl⟩:=hk
  have:=List.all_eq_true.1 (show((List.range 30).all fun k=>decide (eD k=some (jB k)/\pd k=some (jB k)/\0<=(jB k).1/\(jB k).1<=32768/\0<=(jB k).2.1/\(jB k).2.1<=13/\((jB k).2.2=true->1<=(jB k).1)))=true by decide+kernel) k (List.mem_range.2 hk)
  grind
def IZ:Nat->Int->List UInt8->List UInt8
 |0,_,o=>o
 |k+1,far,o=>IZ k far (o++[ix o ((o.length:Int) -far)])
theorem LM:∀(k:Nat)(far:Int)(o:List UInt8),(IZ k far o).length=o.length+k
 |0,_,_=>rfl
 |k+1,far,o=>by rw[IZ,LM k];simp;omega
def NW(most len far:Int)(s:ZS):ZS:=if s.e≠0 then s else if far>s.out.length then{s with e:=14}else if len>most -s.out.length then{s with e:=3}else{s with out:=IZ len.toNat far s.out}
def Se(B:List Bool)(most:Int)(ld:List Int)(r:Int×ZS):ZS:=
 let m:=aE B (kT r.1).2.1.toNat (if(kT r.1).2.2 then r.2 else r.2.fail 11)
 let y:=iI B ld m.2
 let q:=aE B (jB y.1).2.1.toNat (if(jB y.1).2.2 then y.2 else y.2.fail 11)
 NW most ((kT r.1).1+m.1) ((jB y.1).1+q.1) q.2
def tC(B:List Bool)(most:Int)(lt ld:List Int)(s:ZS):Bool×ZS:=
 let r:=iI B lt s
 if r.2.e≠0\/r.1=256 then(false,r.2)else if r.1<256 then(true,BJ most (ju r.1) r.2)else(true,Se B most ld r)
def vy(B:List Bool)(most:Int)(lt ld:List Int):Nat->ZS->ZS
 |0,s=>s
 |f+1,s=>if(tC B most lt ld s).1 then vy B most lt ld f (tC B most lt ld s).2 else(tC B most lt ld s).2
def ZI(b:List UInt8)(most:Int)(s:ZS):Prop:=s.at_<=8*b.length/\(s.out.length:Int)<=most
section
variable{b:List UInt8}{most:Int}
theorem gE(s:ZS)(e:Int)(he:e≠0):(s.fail e).at_=s.at_/\(s.fail e).out=s.out/\(s.fail e).e≠0:=by
 unfold ZS.fail
 grind
def Yi{len far:Int}{s:ZS}(h:ZI b most s)(h0:0<=len):ZI b most (NW most len far s)/\s.at_=(NW most len far s).at_/\((NW most len far s).e=0->s.e=0):=by
 unfold NW
 split
 ·grind
 ·split
  ·exact⟨h,rfl,fun h=>AT⟩
  ·split
   ·exact⟨h,rfl,fun h=>A_⟩
   ·refine⟨⟨h.1,?_⟩,rfl,fun h=>h⟩
    grind [IZ,LM]
theorem Pw{x:UInt8}{s:ZS}(h:ZI b most s):ZI b most (BJ most x s):=by
 unfold BJ
 split
 ·exact h
 ·split
  ·exact h
  ·exact⟨h.1,A_⟩
def akp(hM:most<=16777216){s:ZS}(h:ZI b most s){len far:Int}(h0:0<=len)(h1:len<1000)(hf:s.e=0->1<=far):eF (qw b most s) len far=some (qw b most (NW most len far s)):=by
 have cg:room=140737488355328:=rfl
 obtain⟨ha,ho⟩:=h
 unfold eF NW
 by_cases he:s.e=0
 ·have hf:=hf he
  rw[if_neg w_]
  by_cases h2:far>s.out.length
  ·grind [sM,aN,ZS.fail]
  ·rw[if_neg A_,if_neg h2]
   rw[an (n:=most -(s.out.length:Int)) AT AT]
   by_cases h3:len>most -s.out.length
   ·grind [sM,aN,ZS.fail]
   ·rw[if_neg A_,if_neg h3]
    refine iter_eq (fun(z:Int×ak)=>∃k:Nat,∃o:List UInt8,k<=len.toNat/\z=((k:Int),qw b most {s with out:=o})/\IZ (len.toNat -k) far o=IZ len.toNat far s.out/\s.out.length+k=o.length) (fun z=>(len -z.1).toNat) ⟨0,s.out,Nat.zero_le _,rfl,rfl,rfl⟩ C3 ?_
    rintro _ ⟨k,o,hk,rfl,hz,hol⟩
    by_cases hlt:k<len.toNat
    ·obtain⟨f,hff⟩:∃f,len.toNat -k=f+1:=⟨len.toNat -k -1,AT⟩
     rw[hff,IZ]at hz
     simp only
     rw[an (n:=(o.length:Int) -far) AT AT,an (n:=(k:Int)+1) AT AT]
     refine .inl ⟨_,?_,⟨k+1,o++[ix o ((o.length:Int) -far)],hlt,rfl,A_,C3⟩,A_⟩
     rw[if_pos C3,bk AT,bk C3]
     rfl
    ·rw[show len.toNat -k=0 by omega,IZ]at hz
     grind
 grind
theorem Wp{ld:List Int}{r:Int×ZS}(h:ZI b most r.2):ZI b most (Se (ag b) most ld r)/\r.2.at_<=(Se (ag b) most ld r).at_:=by
 have hL:=Pk r.1
 unfold Se
 simp
 have hf:=gE r.2 11 BY
 generalize hs2:(if(kT r.1).2.2=true then r.2 else r.2.fail 11)=s2
 have h2:s2.at_=r.2.at_/\s2.out=r.2.out:=A_
 have hn:=eu (n:=(kT r.1).2.1.toNat) (by rw[h2.1];exact h.1)
 generalize aE (ag b) (kT r.1).2.1.toNat s2=m at*
 have hy:=vg (l:=ld) hn.1
 generalize iI (ag b) ld m.2=y at*
 have hf:=gE y.2 11 BY
 generalize hs5:(if(jB y.1).2.2=true then y.2 else y.2.fail 11)=s5
 have h5:s5.at_=y.2.at_/\s5.out=y.2.out:=A_
 have hq:=eu (b:=b) (n:=(jB y.1).2.1.toNat) (s:=s5) A_
 generalize aE (ag b) (jB y.1).2.1.toNat s5=q at*
 have hr:=Yi (len:=(kT r.1).1+m.1) (far:=(jB y.1).1+q.1) ⟨hq.1,by rw[hq.2.2.2.2.1,h5.2,hy.2.2.2.2.1,hn.2.2.2.2.1,h2.2];exact h.2⟩ AT
 grind
def HN{lt ld:List Int}{s:ZS}(h:ZI b most s):ZI b most (tC (ag b) most lt ld s).2/\s.at_<=(tC (ag b) most lt ld s).2.at_/\((tC (ag b) most lt ld s).1=true->s.e=0/\s.at_<(tC (ag b) most lt ld s).2.at_):=by grind [vg,tC,ZI,iI,ag,absurd,IP,ju,Pw,Wp]
def mu(b:List UInt8)(s:ZS):Nat:=if s.e=0 then 8*b.length -s.at_+1 else 0
def Wq{lt ld:List Int}{s:ZS}(h:ZI b most s)(ht:(tC (ag b) most lt ld s).1=true):mu b (tC (ag b) most lt ld s).2<mu b s:=by
 have:=HN (lt:=lt) (ld:=ld) h
 have h3:=this.1.1
 unfold mu
 grind
theorem HM{lt ld:List Int}:∀(f:Nat)(s:ZS),ZI b most s->ZI b most (vy (ag b) most lt ld f s)/\s.at_<=(vy (ag b) most lt ld f s).at_
 |0,_,h=>⟨h,Nat.le_refl _⟩
 |f+1,s,h=>by
  have hc:=HN (lt:=lt) (ld:=ld) h
  rw[vy]
  split
  ·have:=HM (lt:=lt) (ld:=ld) f _ hc.1
   exact⟨this.1,AT⟩
  ·exact⟨hc.1,hc.2.1⟩
def Kf{lt ld:List Int}{body:ak->Option (ak⊕ak)}(qQ:∀s,ZI b most s->body (qw b most s)=some (if(tC (ag b) most lt ld s).1 then .inl (qw b most (tC (ag b) most lt ld s).2)else .inr (qw b most (tC (ag b) most lt ld s).2))):
 ∀(f:Nat)(s:ZS),ZI b most s->mu b s<f->∀m,f<=m->cC body m (qw b most s)=some (qw b most (vy (ag b) most lt ld f s))
 |0,_,_,h,_,_=>absurd h (Nat.not_lt_zero _)
 |f+1,s,h,hf,m,hm=>by
  obtain⟨j,rfl⟩:∃j,m=j+1:=⟨m -1,AT⟩
  rw[cC,vy,qQ s h]
  cases ht:(tC (ag b) most lt ld s).1 with
  |false=>rfl
  |true=>
   have:=Wq h ht
   exact Kf qQ f _ (HN h).1 AT j AT
def acy(hb:b.length<576460752303423488)(hM:most<=16777216){lt ld:List Int}(hlt:ET lt)(hld:ET ld)(K L:Nat){s:ZS}(h:ZI b most s):ij (qw b most s) ⟨K,lt⟩ ⟨L,ld⟩=some (qw b most (vy (ag b) most lt ld (8*b.length+2) s)):=by
 unfold ij iter
 refine Kf (fun s h=>?_) (8*b.length+2) s h (by grind [mu]) 18446744073709551616 AT
 have hs:=vg (b:=b) (l:=lt) h.1
 have hz:ZI b most (iI (ag b) lt s).2:=⟨hs.1,by rw[hs.2.2.2.2.1];exact h.2⟩
 refine ah (acz hb hlt K h.1) ?_
 unfold tC
 have ho:s.out=(iI (ag b) lt s).2.out:=hs.2.2.2.2.1.symm
 simp only[ho]
 clear hs ho
 generalize iI (ag b) lt s=r at*
 by_cases h1:r.2.e≠0\/r.1=256
 ·grind
 ·rw[if_neg A_,if_neg h1]
  have he:r.2.e=0:=by
   by_cases he:r.2.e=0
   ·exact he
   ·grind
  by_cases h2:r.1<256
  ·rw[if_pos A_,if_pos h2]
   show aQ (cK (qw b most r.2) (ju r.1)) _=_
   grind [agO,aN]
  ·rw[if_neg A_,if_neg h2]
   obtain⟨hL1,_,hL2,hL3,hL4,hL5⟩:=Pk r.1
   rw[hL1,aN]
   unfold Se
   simp only[if_true]
   have hf:=gE r.2 11 By
   generalize hs2:(if(kT r.1).2.2=true then r.2 else r.2.fail 11)=s2
   have h2:s2.at_=r.2.at_/\s2.out=r.2.out:=by subst hs2;split;exact⟨rfl,rfl⟩;exact⟨hf.1,hf.2.1⟩
   refine e7 (a:=qw b most s2) ?_ ?_
   ·subst hs2
    cases(kT r.1).2.2 with
    |true=>rfl
    |false=>
     show aQ (az (Hg b r.2) 11) _=_
     grind [sM,aN]
   ·have hn:=eu (b:=b) (n:=(kT r.1).2.1.toNat) (s:=s2) (by rw[h2.1];exact hz.1)
    have hN:=NJ (b:=b) hb (n:=(kT r.1).2.1.toNat) (s:=s2) AT A_
    rw[show(((kT r.1).2.1.toNat:Nat):Int)=(kT r.1).2.1 by omega]at hN
    refine ah hN ?_
    have hnn:((aE (ag b) (kT r.1).2.1.toNat s2).1)<32:=by
     have hp:(2:Int)^(kT r.1).2.1.toNat<=2^5:=Pt AT
     have:=hn.2.2.2.1
     have e5:(2:Int)^5=32:=By
     omega
    generalize aE (ag b) (kT r.1).2.1.toNat s2=m at*
    have hy:=vg (b:=b) (l:=ld) (s:=m.2) hn.1
    refine ah (acz hb hld L hn.1) ?_
    generalize iI (ag b) ld m.2=y at*
    obtain⟨hD1,_,hD2,hD3,hD4,hD5,hD6⟩:=Wt y.1
    simp only
    rw[hD1,aN]
    have hf:=gE y.2 11 By
    generalize hs5:(if(jB y.1).2.2=true then y.2 else y.2.fail 11)=s5
    have h5:s5.at_=y.2.at_/\s5.out=y.2.out/\(s5.e=0->(jB y.1).2.2=true):=by
     subst hs5
     split
     ·grind
     ·grind
    have hso:s2.out=y.2.out:=by rw[hy.2.2.2.2.1,hn.2.2.2.2.1]
    refine e7 (a:=qw b most s5) ?_ ?_
    ·subst hs5
     cases(jB y.1).2.2 with
     |true=>simp[hso]
     |false=>
      show aQ (az (Hg b y.2) 11) _=_
      rw[sM,aN]
      grind
    ·have hq:=eu (b:=b) (n:=(jB y.1).2.1.toNat) (s:=s5) A_
     have hQ:=NJ (b:=b) hb (n:=(jB y.1).2.1.toNat) (s:=s5) AT A_
     rw[show(((jB y.1).2.1.toNat:Nat):Int)=(jB y.1).2.1 by omega]at hQ
     refine ah hQ ?_
     have hqq:((aE (ag b) (jB y.1).2.1.toNat s5).1)<8192:=by
      have hp:(2:Int)^(jB y.1).2.1.toNat<=2^13:=Pt AT
      have:=hq.2.2.2.1
      have e5:(2:Int)^13=8192:=By
      omega
     generalize aE (ag b) (jB y.1).2.1.toNat s5=q at*
     simp only
     rw[an (n:=(kT r.1).1+m.1) AT AT,an (n:=(jB y.1).1+q.1) AT AT]
     have hqo:s5.out=q.2.out:=hq.2.2.2.2.1.symm
     have:=akp (b:=b) (most:=most) hM (s:=q.2) ⟨hq.1,by rw[hq.2.2.2.2.1,h5.2.1,hy.2.2.2.2.1,hn.2.2.2.2.1,h2.2];exact hz.2⟩ (len:=(kT r.1).1+m.1) (far:=(jB y.1).1+q.1) AT AT (fun e=>A_)
     rw[hqo]
     refine ah this rfl
end
def lF(l:List Int)(s:ZS):ZS:=if Ph l<0 then s.fail 13 else s
def xW(l:List Int)(s:ZS):(lF l s).at_=s.at_/\(lF l s).out=s.out/\((lF l s).e=0->s.e=0/\0<=Ph l):=by
 unfold lF
 have:=gE s 13 BY
 split
 ·exact⟨this.1,this.2.1,fun h=>absurd h this.2.2⟩
 ·exact⟨rfl,rfl,fun h=>⟨h,AT⟩⟩
section
variable{b:List UInt8}{most:Int}
theorem aaZ{lt ld:List Int}{s:ZS}(he:s.e≠0)(f:Nat):vy (ag b) most lt ld f s=s:=by
 cases f with
 |zero=>rfl
 |succ f=>
  have e:tC (ag b) most lt ld s=(false,s):=by
   unfold tC iI
   simp[he]
  rw[vy,e];rfl
end
def JL(n:Nat)(out:List Int)(t x:Int)(s:ZS):List Int×ZS:=if s.e≠0 then(out,s)else if t>(n:Int) -out.length then(out,s.fail 11)else(out++List.replicate t.toNat x,s)
def JJ(B:List Bool)(l:List Int)(n:Nat)(out:List Int)(s:ZS):List Int×ZS:=
 let r:=iI B l s
 if r.1=16 then(if out=[]then(out,r.2.fail 11)else JL n out ((aE B 2 r.2).1+3) (out.getLastD 0) (aE B 2 r.2).2)
 else if r.1=17 then JL n out ((aE B 3 r.2).1+3) 0 (aE B 3 r.2).2
 else if r.1=18 then JL n out ((aE B 7 r.2).1+11) 0 (aE B 7 r.2).2
 else JL n out 1 r.1 r.2
def zR(B:List Bool)(l:List Int)(n:Nat):Nat->List Int->ZS->List Int×ZS
 |0,out,s=>(out,s)
 |f+1,out,s=>if out.length=n\/s.e≠0 then(out,s)else zR B l n f (JJ B l n out s).1 (JJ B l n out s).2
section
variable{b:List UInt8}{most:Int}
theorem NZ{n:Nat}{out:List Int}{t x:Int}{s:ZS}(ho:out.length<=n)(ht:1<=t):(JL n out t x s).2.at_=s.at_/\(JL n out t x s).2.out=s.out/\(JL n out t x s).1.length<=n/\out.length<=(JL n out t x s).1.length/\((JL n out t x s).2.e=0->s.e=0/\out.length<(JL n out t x s).1.length):=by
 unfold JL
 split
 ·rename_i h;exact⟨rfl,rfl,ho,Nat.le_refl _,fun e=>absurd e h⟩
 ·rename_i h
  have hf:=gE s 11 BY
  split
  ·exact⟨hf.1,hf.2.1,ho,Nat.le_refl _,fun e=>absurd e hf.2.2⟩
  ·refine⟨rfl,rfl,?_,?_,fun e=>⟨AT,?_⟩⟩<;>simp<;>omega
def T0{l:List Int}{n:Nat}{out:List Int}{s:ZS}(ha:s.at_<=8*b.length)(ho:out.length<=n):(JJ (ag b) l n out s).2.at_<=8*b.length/\s.at_<=(JJ (ag b) l n out s).2.at_/\(JJ (ag b) l n out s).2.out=s.out/\(JJ (ag b) l n out s).1.length<=n/\out.length<=(JJ (ag b) l n out s).1.length/\((JJ (ag b) l n out s).2.e=0->s.e=0/\out.length<(JJ (ag b) l n out s).1.length):=by
 have hs:=vg (l:=l) ha
 unfold JJ
 simp only
 generalize iI (ag b) l s=r at*
 have hn:=fun k=>eu (n:=k) hs.1
 split
 ·have h2:=hn 2
  have hr:=NZ (x:=out.getLastD 0) (s:=(aE (ag b) 2 r.2).2) ho (t:=(aE (ag b) 2 r.2).1+3) AT
  have hf:=gE r.2 11 By
  split
  ·rw[hf.1,hf.2.1]
   exact⟨hs.1,hs.2.1,hs.2.2.2.2.1,ho,Nat.le_refl _,fun e=>absurd e hf.2.2⟩
  ·refine⟨AT,AT,A_,hr.2.2.1,hr.2.2.2.1,fun e=>?_⟩
   have h5:=hr.2.2.2.2 e
   exact⟨(hs.2.2.2.2.2.1 (h2.2.2.2.2.2 h5.1).1).1,h5.2⟩
 grind [NZ,aE,ag]
def TY{l:List Int}{n:Nat}:∀(f:Nat)(out:List Int)(s:ZS),s.at_<=8*b.length->out.length<=n->n<f+out.length->(zR (ag b) l n f out s).2.at_<=8*b.length/\s.at_<=(zR (ag b) l n f out s).2.at_/\(zR (ag b) l n f out s).2.out=s.out/\((zR (ag b) l n f out s).2.e=0->s.e=0/\(zR (ag b) l n f out s).1.length=n)
 |0,out,s,_,h1,h2=>by omega
 |f+1,out,s,ha,h1,h2=>by
  rw[zR]
  split
  ·exact⟨ha,Nat.le_refl _,rfl,fun e=>⟨e,A_⟩⟩
  ·have hT:=T0 (l:=l) ha h1
   by_cases he:(JJ (ag b) l n out s).2.e=0
   ·have h5:=hT.2.2.2.2.2 he
    have ih:=TY (l:=l) f (JJ (ag b) l n out s).1 (JJ (ag b) l n out s).2 hT.1 hT.2.2.2.1 AT
    exact⟨ih.1,AT,A_,fun e=>⟨h5.1,(ih.2.2.2 e).2⟩⟩
   ·have e1:zR (ag b) l n f (JJ (ag b) l n out s).1 (JJ (ag b) l n out s).2=JJ (ag b) l n out s:=by
     cases f with
     |zero=>rfl
     |succ f=>rw[zR,if_pos (.inr he)]
    rw[e1]
    exact⟨hT.1,hT.2.1,hT.2.2.1,fun e=>absurd e he⟩
def LN{n:Nat}{out:List Int}{t x:Int}(h1:t<=(n:Int) -out.length)(hn:n<100000):
 iter (fun((pO,t26):(List Int)×Int)=>
  if decide (t26<t)then
   a8 ((pO.length+[x].length)*8<=room)<|
   some (.inl (pO++[x],aC (t26+1)))
  else
   some (.inr pO)) (out,0)=some (out++List.replicate t.toNat x):=by
 have cg:room=140737488355328:=rfl
 refine Dg t.toNat (fun k=>out++List.replicate k x) BY AT (fun k hk=>?_) ?_
 ·simp only
  rw[if_pos A_,bk A_,List.replicate_succ',List.append_assoc]
 ·simp only
  rw[if_neg A_]
theorem M4{out:List Int}(h:out≠[]):ix out ((out.length -1:Nat):Int)=out.getLastD 0:=by
 have hl:=List.length_pos_iff.2 h
 rw[gr AT,List.getLastD_eq_getLast?,List.getLast?_eq_getElem?,List.getElem?_eq_getElem AT];rfl
def ako(hb:b.length<576460752303423488){l:List Int}(hl:ET l)(K:Nat){n:Nat}(hn:n<1000){s:ZS}(ha:s.at_<=8*b.length):∃o,eZ (qw b most s) ⟨K,l⟩ (n:Int)=some (o,qw b most (zR (ag b) l n (n+1) [] s).2)/\((zR (ag b) l n (n+1) [] s).2.e=0->o=(zR (ag b) l n (n+1) [] s).1)/\o.length<=2000:=by
 generalize hR:zR (ag b) l n (n+1) [] s=R
 suffices h:∃z:List Int×ak,eZ (qw b most s) ⟨K,l⟩ (n:Int)=some z/\(z.2=qw b most R.2/\(R.2.e=0->z.1=R.1)/\z.1.length<=2000) by
  obtain⟨⟨o,S⟩,h1,h2,h3⟩:=h
  simp only at h2 h3
  subst h2
  exact⟨o,h1,h3⟩
 unfold eZ
 refine dw (fun(z:List Int×ak)=>∃(f:Nat)(out:List Int)(t:ZS),z.2=qw b most t/\t.at_<=8*b.length/\out.length<=n/\n<f+out.length/\zR (ag b) l n f out t=R/\(t.e=0->z.1=out)/\z.1.length<=2000) (fun z:List Int×ak=>if z.2.bn.e_=0 then n -z.1.length+1 else 0) (fun z:List Int×ak=>z.2=qw b most R.2/\(R.2.e=0->z.1=R.1)/\z.1.length<=2000) ⟨n+1,[],s,rfl,ha,Nat.zero_le _,BY,hR,fun _=>rfl,BY⟩ (by simp only;split<;>simp<;>omega) ?_
 rintro⟨o,S⟩ ⟨f,out,t,rfl,hta,ho,hf,hz,Tn,hol⟩
 simp only at Tn hol⊢
 obtain⟨f,rfl⟩:∃g,f=g+1:=⟨f -1,AT⟩
 by_cases he:t.e=0
 ·have:=Tn he;subst this
  by_cases Qx:o.length=n
  ·rw[zR,if_pos (.inl Qx)]at hz
   subst hz
   rw[if_pos (by simp[Qx])]
   exact⟨_,rfl,rfl,fun _=>rfl,hol⟩
  ·rw[zR,if_neg (by rintro(h|h);exact Qx h;exact h he)]at hz
   rw[if_neg (by simp[he];omega)]
   have hT:=T0 (l:=l) hta ho
   have hs:=vg (b:=b) (l:=l) hta
   refine eK (fun z=>z=((iI (ag b) l t).1,Hg b (iI (ag b) l t).2)) ⟨_,acz hb hl K hta,rfl⟩ ?_
   rintro _ rfl
   have hnn:=fun k=>eu (b:=b) (n:=k) hs.1
   have hN:=fun(k:Nat)(h:k<=31)=>NJ (b:=b) hb h hs.1
   have KO:∀(w:ZS)(o2:List Int),w.e≠0->∀g,zR (ag b) l n g o2 w=(o2,w):=fun w o2 hw g=>by
    cases g with
    |zero=>rfl
    |succ g=>rw[zR,if_pos (.inr hw)]
   have go:∀(x tm:Int)(u:ZS),1<=tm->tm<300->u.at_<=8*b.length->u.out=t.out->JL n o tm x u=JJ (ag b) l n o t->
    ∃z,(if decide (tm>aC ((n:Int) -(o.length:Int)))then
     aQ (az (qw b most u).bn 11) fun r20=>
     some (.inl (o,(ak.mk r20 (qw b most u).gZ (qw b most u).fT)))
    else
     jn (
      iter (fun((pO,t26):(List Int)×Int)=>
       if decide (t26<tm)then
        a8 ((pO.length+[x].length)*8<=room)<|
        some (.inl (pO++[x],aC (t26+1)))
       else
        some (.inr pO)) (o,0)) fun(GS:(List Int))=>
     some (.inl (GS,qw b most u)):Option ((List Int×ak)⊕(List Int×ak)))=some z/\(match z with
      |.inl z=>(∃(f:Nat)(out:List Int)(t:ZS),z.2=qw b most t/\t.at_<=8*b.length/\out.length<=n/\n<f+out.length/\zR (ag b) l n f out t=R/\(t.e=0->z.1=out)/\z.1.length<=2000)/\(if z.2.bn.e_=0 then n -z.1.length+1 else 0)<n -o.length+1
      |.inr z=>z.2=qw b most R.2/\(R.2.e=0->z.1=R.1)/\z.1.length<=2000):=by
    intro x tm u h1 h2 hua huo hru
    have hr:=NZ (x:=x) (s:=u) ho h1
    rw[an AT AT]
    rw[<-hru]at hz hT
    by_cases hue:u.e=0
    ·unfold JL at hz hr hT
     rw[if_neg (c:=u.e≠0) (by simp[hue])]at hz hr hT
     by_cases htm:tm>(n:Int) -(o.length:Int)
     ·rw[if_pos htm]at hz hr hT
      rw[if_pos Xb1]
      refine⟨_,ah (sM u 11) rfl,⟨n+1,o,u.fail 11,?_,hT.1,ho,AT,?_,fun _=>rfl,hol⟩,?_⟩
      ·have:=(gE u 11 By).2.1
       show ak.mk (Hg b (u.fail 11)) u.out most=_
       rw[<-this]
      ·have hfe:=(gE u 11 By).2.2
       rw[KO _ _ hfe]at hz⊢
       exact hz
      grind
     ·rw[if_neg htm]at hz hr hT
      rw[if_neg Xb1]
      have hle:(o++List.replicate tm.toNat x).length=o.length+tm.toNat:=BY
      refine⟨_,e7 (LN (n:=n) AT AT) rfl,⟨f,o++List.replicate tm.toNat x,u,rfl,hua,Xb2,Xb2,hz,fun _=>rfl,Xb2⟩,?_⟩
      simp only
      rw[if_pos hue,hle];omega
    ·unfold JL at hz hr hT
     rw[if_pos hue]at hz hr hT
     rw[KO _ _ hue]at hz
     by_cases htm:tm>(n:Int) -(o.length:Int)
     ·rw[if_pos Xb1]
      refine⟨_,ah (sM u 11) rfl,⟨n+1,o,u,?_,hua,ho,AT,by rw[KO _ _ hue];exact hz,fun h=>absurd h hue,hol⟩,?_⟩
      ·show ak.mk (Hg b (u.fail 11)) u.out most=_
       unfold ZS.fail
       rw[if_neg hue]
      ·simp only
       have:(u.fail 11).e≠0:=(gE u 11 By).2.2
       rw[if_neg this];omega
     ·rw[if_neg Xb1]
      have hle:(o++List.replicate tm.toNat x).length=o.length+tm.toNat:=BY
      refine⟨_,e7 (LN (n:=n) AT AT) rfl,⟨n+1,o,u,rfl,hua,ho,AT,by rw[KO _ _ hue];exact hz,fun h=>absurd h hue,Xb2⟩,?_⟩
      simp only
      rw[if_neg hue];omega
   have hl:JJ (ag b) l n o t=(if(iI (ag b) l t).1=16 then(if o=[]then(o,(iI (ag b) l t).2.fail 11)else JL n o ((aE (ag b) 2 (iI (ag b) l t).2).1+3) (o.getLastD 0) (aE (ag b) 2 (iI (ag b) l t).2).2)
    else if(iI (ag b) l t).1=17 then JL n o ((aE (ag b) 3 (iI (ag b) l t).2).1+3) 0 (aE (ag b) 3 (iI (ag b) l t).2).2
    else if(iI (ag b) l t).1=18 then JL n o ((aE (ag b) 7 (iI (ag b) l t).2).1+11) 0 (aE (ag b) 7 (iI (ag b) l t).2).2
    else JL n o 1 (iI (ag b) l t).1 (iI (ag b) l t).2):=rfl
   have hto:t.out=(iI (ag b) l t).2.out:=hs.2.2.2.2.1.symm
   clear hR
   rw[if_pos he]
   simp only[hto]
   generalize iI (ag b) l t=r at*
   have p2:(2:Int)^2=4:=By
   have p3:(2:Int)^3=8:=By
   have p7:(2:Int)^7=128:=By
   by_cases h16:r.1=16
   ·rw[if_pos h16]at hl
    rw[h16]
    rw[if_pos D_]
    by_cases ho0:o=[]
    ·subst ho0
     rw[if_pos rfl]at hl
     rw[if_pos D_]
     refine oH (fun z=>z=.inr (qw b most (r.2.fail 11))) ⟨_,ah (sM r.2 11) (by rw[<-(gE r.2 11 By).2.1]),rfl⟩ ?_
     rintro _ rfl
     rw[hl]at hz
     have hfe:=(gE r.2 11 By)
     refine⟨_,rfl,⟨n+1,[],r.2.fail 11,rfl,by rw[hfe.1];exact hs.1,Nat.zero_le _,BY,by rw[KO _ _ hfe.2.2]at hz⊢;exact hz,fun _=>rfl,hol⟩,?_⟩
     simp only
     rw[if_neg hfe.2.2];omega
    ·rw[if_neg ho0]at hl
     have abv:0<o.length:=List.length_pos_iff.2 ho0
     rw[if_neg (by simp;exact ho0)]
     rw[an (n:=(o.length:Int) -1) AT AT,bk AT]
     have h2:=hnn 2
     rw[p2]at h2
     refine oH (fun z=>z=.inl (o.getLastD 0,(aE (ag b) 2 r.2).1+3,qw b most (aE (ag b) 2 r.2).2)) ⟨_,ah (hN 2 By) ?_,rfl⟩ ?_
     ·rw[show((o.length:Int) -1)=((o.length -1:Nat):Int) by omega,M4 ho0]
      simp only
      rw[an AT AT,<-h2.2.2.2.2.1]
     ·rintro _ rfl
      obtain⟨z,hz1,hz2⟩:=go _ _ _ AT AT h2.1 Xd8 hl.symm
      exact⟨z,hz1,Xb3⟩
   ·rw[if_neg h16]at hl
    rw[if_neg (by simpa using h16)]
    by_cases h17:r.1=17
    ·rw[if_pos h17]at hl
     rw[if_pos (by simpa using h17)]
     have h2:=hnn 3
     rw[p3]at h2
     refine oH (fun z=>z=.inl (0,(aE (ag b) 3 r.2).1+3,qw b most (aE (ag b) 3 r.2).2)) ⟨_,ah (hN 3 By) ?_,rfl⟩ ?_
     ·simp only
      rw[an AT AT,<-h2.2.2.2.2.1]
     ·rintro _ rfl
      obtain⟨z,hz1,hz2⟩:=go _ _ _ AT AT h2.1 Xd8 hl.symm
      exact⟨z,hz1,Xb3⟩
    ·rw[if_neg h17]at hl
     rw[if_neg (by simpa using h17)]
     by_cases h18:r.1=18
     ·rw[if_pos h18]at hl
      rw[if_pos (by simpa using h18)]
      have h2:=hnn 7
      rw[p7]at h2
      refine oH (fun z=>z=.inl (0,(aE (ag b) 7 r.2).1+11,qw b most (aE (ag b) 7 r.2).2)) ⟨_,ah (hN 7 By) ?_,rfl⟩ ?_
      ·simp only
       rw[an AT AT,<-h2.2.2.2.2.1]
      ·rintro _ rfl
       obtain⟨z,hz1,hz2⟩:=go _ _ _ AT AT h2.1 Xd8 hl.symm
       exact⟨z,hz1,Xb3⟩
     ·rw[if_neg h18]at hl
      rw[if_neg (by simpa using h18)]
      refine oH (fun z=>z=.inl (r.1,1,qw b most r.2)) ⟨_,rfl,rfl⟩ ?_
      rintro _ rfl
      obtain⟨z,hz1,hz2⟩:=go _ _ _ AT AT hs.1 hto.symm hl.symm
      exact⟨z,hz1,Xb3⟩
 ·rw[zR,if_pos (.inr he)]at hz
  subst hz
  rw[if_pos w_]
  exact⟨_,rfl,rfl,fun h=>absurd h he,hol⟩
theorem TZ{l:List Int}{n:Nat}{w:ZS}(hw:w.e≠0)(o2:List Int)(g:Nat):zR (ag b) l n g o2 w=(o2,w):=by
 cases g with
 |zero=>rfl
 |succ g=>rw[zR,if_pos (.inr hw)]
end
def tf:List UInt8->Nat->Nat->Nat×Nat
 |[],a,b=>(a,b)
 |x::l,a,b=>tf l ((a+x.toNat)% 65521) ((b+(a+x.toNat)% 65521)% 65521)
theorem BQ:∀(l m:List UInt8)(a b:Nat),tf (l++m) a b=tf m (tf l a b).1 (tf l a b).2
 |[],_,_,_=>rfl
 |x::l,m,a,b=>by rw[List.cons_append,tf,tf,BQ l m]
def Ms:∀(l:List UInt8)(a b:Nat),a<65521->b<65521->(tf l a b).1<65521/\(tf l a b).2<65521
 |[],_,_,h1,h2=>⟨h1,h2⟩
 |x::l,a,b,_,_=>by exact Ms l _ _ (Nat.mod_lt _ BY) (Nat.mod_lt _ BY)
def Oe(l:List UInt8):UInt32:=eC (((65536*(tf l 1 0).2+(tf l 1 0).1:Nat):Nat):Int)
structure InB(a0 b0 k A B:Nat)(l:List UInt8):Prop where
 hA:A<=a0+255*k
 hB:2*B<=2*b0+2*(k*a0)+255*(k*(k+1))
 eA:A % 65521=(tf l a0 b0).1
 eB:B % 65521=(tf l a0 b0).2
theorem InB.step{a0 b0 k A B:Nat}{l:List UInt8}(h:InB a0 b0 k A B l)(x:UInt8):InB a0 b0 (k+1) (A+x.toNat) (B+(A+x.toNat)) (l++[x]):=by
 have hx:=x.toNat_lt
 have h1:=h.hA
 have h2:=h.hB
 have e1:=Nat.succ_mul k a0
 have e2:(k+1)*(k+1+1)=k*(k+1)+2*(k+1):=A_
 refine⟨AT,?_,?_,?_⟩
 ·rw[e1]
  omega
 ·rw[BQ]
  show _=((tf l a0 b0).1+x.toNat)% 65521
  rw[<-h.eA];omega
 ·rw[BQ]
  show _=((tf l a0 b0).2+((tf l a0 b0).1+x.toNat)% 65521)% 65521
  rw[<-h.eA,<-h.eB];omega
def InB.lt{a0 b0 k A B:Nat}{l:List UInt8}(h:InB a0 b0 k A B l)(hk:k<=5552)(ha:a0<65521)(hb:b0<65521):A<4294967296/\B<4294967296:=by
 have h1:=h.hA
 have h2:=h.hB
 have e1:k*a0<=5552*65520:=Nat.mul_le_mul hk AT
 have e2:k*(k+1)<=5552*5553:=Nat.mul_le_mul hk AT
 omega
theorem ads(x:UInt8):((eC (x.toNat:Int)).toNat:Int)=(x.toNat:Int):=by
 have:=x.toNat_lt
 rw[gM _ AT]
def acw(p:List UInt8){n:Nat}(hn:n<=5552)(hp:p.length=n){a b:UInt32}(ha:a.toNat<65521)(hb:b.toNat<65521)(N:Int):∃z:UInt32×UInt32×Int,iter (fun((a15,b16,n17,t18,t19,t20):UInt32×UInt32×Int×(List UInt8)×Int×Int)=>
 if decide (t20<t19)then
  a8 (0<=t20/\t20<t18.length)<|
  some (.inl (eC ((a15.toNat:Int)+((eC (((ix t18 t20).toNat:Int))).toNat:Int)),eC ((b16.toNat:Int)+((eC ((a15.toNat:Int)+((eC (((ix t18 t20).toNat:Int))).toNat:Int))).toNat:Int)),n17,t18,t19,aC (t20+1)))
 else
  some (.inr (a15,b16,n17))) (a,b,N,p,(p.length:Int),0)=some z/\(z.2.2=N/\z.1.toNat % 65521=(tf p a.toNat b.toNat).1/\z.2.1.toNat % 65521=(tf p a.toNat b.toNat).2):=by
 refine dw (fun(s:UInt32×UInt32×Int×(List UInt8)×Int×Int)=>∃(k:Nat)(A B:UInt32),k<=n/\s=(A,B,N,p,(p.length:Int),(k:Int))/\InB a.toNat b.toNat k A.toNat B.toNat (p.take k)) (fun s=>(n -s.2.2.2.2.2).toNat) _ ⟨0,a,b,Nat.zero_le _,rfl,⟨AT,AT,Nat.mod_eq_of_lt ha,Nat.mod_eq_of_lt hb⟩⟩ C3 ?_
 rintro _ ⟨k,A,B,hk,rfl,h⟩
 simp only
 by_cases hlt:k<n
 ·have Qy:k<p.length:=AT
  have hix:ix p (k:Int)=p[k]:=gr Qy
  have h2:=h.step p[k]
  rw[<-List.take_succ_eq_append_getElem Qy]at h2
  have hl:=h2.lt AT ha hb
  rw[if_pos C3,bk AT,hix,ads,an (n:=(k:Int)+1) AT AT]
  have e1:(eC ((A.toNat:Int)+(p[k].toNat:Int))).toNat=A.toNat+p[k].toNat:=by rw[show(A.toNat:Int)+(p[k].toNat:Int)=((A.toNat+p[k].toNat:Nat):Int) by omega,gM _ AT]
  have e2:(eC ((B.toNat:Int)+((eC ((A.toNat:Int)+(p[k].toNat:Int))).toNat:Int))).toNat=B.toNat+(A.toNat+p[k].toNat):=by rw[e1,show(B.toNat:Int)+((A.toNat+p[k].toNat:Nat):Int)=((B.toNat+(A.toNat+p[k].toNat):Nat):Int) by omega,gM _ AT]
  grind
 ·rw[List.take_of_length_le AT]at h
  rw[if_neg C3]
  exact⟨_,rfl,rfl,h.eA,h.eB⟩
theorem XE(x:UInt32):(eC (Int.tmod (x.toNat:Int) 65521)).toNat=x.toNat % 65521:=by rw[Int.tmod_eq_emod_of_nonneg BY,show x.toNat % 65521=((x.toNat % 65521:Nat):Int) by omega,gM _ AT]
def acv(l:List UInt8)(hl:l.length<576460752303423488):qz l=some (Oe l):=by
 unfold qz
 have hz:=Ms l 1 0 By By
 refine ah (a:=eR.mk (eC ((((tf l 1 0).1+65520)% 65521:Nat):Int)) (eC ((tf l 1 0).2:Nat))) ?_ ?_
 ·suffices h:∃x,fC (eR.mk 0 0) l=some x/\x=eR.mk (eC ((((tf l 1 0).1+65520)% 65521:Nat):Int)) (eC ((tf l 1 0).2:Nat)) by
   obtain⟨x,h1,rfl⟩:=h;exact h1
  unfold fC
  refine CI (fun z=>z.1.toNat=(tf l 1 0).1/\z.2.toNat=(tf l 1 0).2) (dw (fun(s:(List UInt8)×UInt32×UInt32)=>∃k:Nat,k<=l.length/\s.1=l.drop k/\s.2.1.toNat=(tf (l.take k) 1 0).1/\s.2.2.toNat=(tf (l.take k) 1 0).2) (fun s=>s.1.length) _ ⟨0,Nat.zero_le _,rfl,rfl,rfl⟩ C3 ?_) ?_
  ·rintro⟨p,a,b⟩ ⟨k,hk,rfl,ha,hb⟩
   simp only at ha hb⊢
   have hlt:=Ms (l.take k) 1 0 By By
   by_cases hp:k<l.length
   ·have hpl:(l.drop k).length=l.length -k:=List.length_drop ..
    rw[if_pos C3]
    have afV:part (l.drop k) 0 (min ((l.drop k).length:Int) 5552)=(l.drop k).take (min (l.length -k) 5552):=by
     unfold part
     rw[show(min ((l.drop k).length:Int) 5552 -0).toNat=min (l.length -k) 5552 by omega];rfl
    have hB:=acw ((l.drop k).take (min (l.length -k) 5552)) (n:=min (l.length -k) 5552) AT N_ (a:=a) (b:=b) AT AT (min ((l.drop k).length:Int) 5552)
    rw[ha,hb,<-BQ,show l.take k++(l.drop k).take (min (l.length -k) 5552)=l.take (k+min (l.length -k) 5552) by rw[List.take_add]]at hB
    rw[bk AT,afV]
    refine CI _ hB ?_
    rintro⟨A,B,N⟩ ⟨rfl,h2,h3⟩
    simp only at h2 h3⊢
    rw[bk AT]
    refine⟨_,rfl,⟨k+min (l.length -k) 5552,AT,?_,by rw[XE];exact h2,by rw[XE];exact h3⟩,?_⟩
    ·unfold part
     simp only
     rw[List.take_of_length_le P_,List.drop_drop]
     congr 1;omega
    grind [part,List.take_of_length_le,List.length_drop]
   ·rw[if_neg C3]
    rw[List.take_of_length_le AT]at ha hb
    exact⟨_,rfl,ha,hb⟩
  ·rintro⟨A,B⟩ ⟨h2,h3⟩
   simp only at h2 h3⊢
   refine⟨_,rfl,?_⟩
   have e1:(eC ((A.toNat:Int)+65521)).toNat=(tf l 1 0).1+65521:=by rw[h2,show(((tf l 1 0).1:Nat):Int)+65521=(((tf l 1 0).1+65521:Nat):Int) by omega,gM _ AT]
   have e2:(eC (((eC ((A.toNat:Int)+65521)).toNat:Int) -1)).toNat=(tf l 1 0).1+65520:=by rw[e1,show((((tf l 1 0).1+65521:Nat)):Int) -1=(((tf l 1 0).1+65520:Nat):Int) by omega,gM _ AT]
   grind [eC,Int.tmod,tf,UInt32.toNat_inj,XE,gM]
 ·unfold fe Oe
  rw[aN]
  generalize(tf l 1 0).1=a at*
  generalize(tf l 1 0).2=b at*
  have e1:(eC (Int.tmod ((eC (((eC ((((a+65520)% 65521:Nat)):Int)).toNat:Int)+1)).toNat:Int) 65521)).toNat=a:=by rw[XE,gM _ AT,show((((a+65520)% 65521:Nat)):Int)+1=(((a+65520)% 65521+1:Nat):Int) by omega,gM _ AT];omega
  have e2:(eC (ly .u32 ((eC (b:Int)).toNat:Int) 16)).toNat=65536*b:=by
   rw[gM _ AT]
   have:ly .u32 (b:Int) 16=((65536*b:Nat):Int):=by
    show(b:Int)*65536=_
    omega
   rw[this,gM _ AT]
  simp only[e1,e2]
  have e3:JK .u32 ((65536*b:Nat):Int) (a:Int)=((65536*b+a:Nat):Int):=by
   unfold JK
   show(((BitVec.ofNat 32 (65536*b)|||BitVec.ofNat 32 a).toNat:Nat):Int)=_
   rw[BitVec.toNat_or,BitVec.toNat_ofNat,BitVec.toNat_ofNat,Nat.mod_eq_of_lt AT,Nat.mod_eq_of_lt AT]
   have:=Nat.two_pow_add_eq_or_of_lt (i:=16) (b:=a) AT b
   rw[<-show 65536*b+a=65536*b |||a from this]
  rw[e3]
def adB(x:UInt32):List UInt8:=[UInt8.ofNat (x.toNat/16777216),UInt8.ofNat (x.toNat/65536),UInt8.ofNat (x.toNat/256),UInt8.ofNat x.toNat]
theorem JA(n:Nat):ju (n:Int)=UInt8.ofNat n:=by
 unfold ju
 rw[Ek _ _ rfl]
 have:(2^IntKind.u8.bits:Int)=256:=D_
 rw[this]
 refine UInt8.toNat_inj.1 ?_
 rw[UInt8.toNat_ofNat',UInt8.toNat_ofNat']
 omega
def ac8(x:UInt32)(k:Nat)(hk:k<32):(eC (lz .u32 (x.toNat:Int) (k:Int))).toNat=x.toNat/2^k:=by
 have hx:=x.toNat_lt
 have:lz .u32 x.toNat k=((x.toNat/2^k:Nat)):=by
  unfold lz
  rw[Int.toNat_natCast,Nat.min_eq_left (by show k<=32;omega)]
  rw[show 2^k=((2^k:Nat):Int) by simp,Int.fdiv_eq_ediv_of_nonneg _ (Int.natCast_nonneg _)];rfl
 have hle:=Nat.div_le_self x.toNat (2^k)
 rw[this,gM _ AT]
def acx(x:UInt32):mJ x=some (adB x):=by
 unfold mJ adB
 have h24:=ac8 x 24 BY
 have h16:=ac8 x 16 BY
 have h8:=ac8 x 8 BY
 rw[show((24:Nat):Int)=24 from rfl]at h24
 rw[show((16:Nat):Int)=16 from rfl]at h16
 rw[show((8:Nat):Int)=8 from rfl]at h8
 rw[h24,h16,h8,JA,JA,JA,JA]
def Td(b:List UInt8):Int:=match b with
 |c::d::_=>if c.toNat % 16=8/\c.toNat/16<=7/\d.toNat/32 % 2=0/\(256*c.toNat+d.toNat)% 31=0 then 0 else 11
 |_=>10
theorem abq(c d:UInt8):aC (JK .i64 (aC (ly .i64 (aC (c.toNat:Int)) 8)) (aC (d.toNat:Int)))=((256*c.toNat+d.toNat:Nat):Int):=by
 have hc:=c.toNat_lt
 have hd:=d.toNat_lt
 generalize c.toNat=x at*
 generalize d.toNat=y at*
 rw[an (n:=x) BY AT]
 have:ly .i64 x 8=((256*x:Nat)):=by
  show(x:Int)*256=_
  omega
 have e3:JK .i64 ((256*x:Nat)) y=((256*x+y:Nat)):=by
  show(((BitVec.ofNat 64 (256*x)|||BitVec.ofNat 64 y).toNat):Int)=_
  rw[BitVec.toNat_or,BitVec.toNat_ofNat,BitVec.toNat_ofNat,Nat.mod_eq_of_lt AT,Nat.mod_eq_of_lt AT]
  have:=Nat.two_pow_add_eq_or_of_lt AT x
  rw[<-this]
 grind [an]
def WX(p q r:Bool)(P Q R:Prop)[Decidable P][Decidable Q][Decidable R](n:Nat)(hp:p=decide (¬P))(hq:q=decide (¬Q))(hr:r=decide (¬R)):(if(((p||q)||r)||((Int.tmod (n:Int) 31)!=0))=true then some (11:Int)else some 0)=some (if P/\Q/\R/\n % 31=0 then 0 else 11):=A_
def agN(b:List UInt8):po b=some (Td b):=by
 unfold po
 match b with
 |[]=>rfl
 |[c]=>rfl
 |c::d::l=>
  have h0:ix (c::d::l) 0=c:=rfl
  have h1:ix (c::d::l) 1=d:=rfl
  have hp:=of_decide_eq_true (nr (fun c=>decide ((((ju (qb .u8 c.toNat 15)).toNat:Int)!=8)=decide (¬c.toNat % 16=8))) u_ c)
  have hq:=of_decide_eq_true (nr (fun c=>decide (decide (((ju (lz .u8 c.toNat 4)).toNat:Int)>7)=decide (¬c.toNat/16<=7))) u_ c)
  have hr:=of_decide_eq_true (nr (fun d=>decide ((((ju (qb .u8 d.toNat 32)).toNat:Int)!=0)=decide (¬d.toNat/32 % 2=0))) u_ d)
  rw[bk C3,bk C3,bk C3,bk C3,bk C3,h0,h1,abq]
  exact WX _ _ _ _ _ _ _ hp hq hr
def sn:List Int:=[16,17,18,0,8,7,9,6,10,5,11,4,12,3,13,2,14,1,15]
def nn:List Int:=(List.range 288).map fun k=>if k<144\/k>279 then 8 else if k<256 then 9 else 7
def nk:List Int:=List.replicate 30 5
def Lu(B:List Bool):List Int->List Int->ZS->List Int×ZS
 |[],of,s=>(of,s)
 |a::r,of,s=>Lu B r (JC of a (aE B 3 s).1) (aE B 3 s).2
def kQ(B:List Bool)(s:ZS):Int×Int×Int×ZS:=
 let n:=aE B 5 s
 let m:=aE B 5 n.2
 let k:=aE B 4 m.2
 (n.1+257,m.1+1,k.1+4,if n.1+257>286\/m.1+1>30 then k.2.fail 11 else k.2)
def pw(B:List Bool)(s:ZS):List Int×ZS:=
 let h:=kQ B s
 let o:=Lu B (sn.take h.2.2.1.toNat) (List.replicate 19 0) h.2.2.2
 zR B o.1 (h.1+h.2.1).toNat ((h.1+h.2.1).toNat+1) [] (lF o.1 o.2)
def nj(B:List Bool)(s:ZS):List Int×List Int×ZS:=
 let l:=pw B s
 let n:=(kQ B s).1.toNat
 if l.2.e≠0 then([],[],l.2)else(l.1.take n,l.1.drop n,lF (l.1.drop n) (lF (l.1.take n) (if l.1.getD 256 0=0 then l.2.fail 11 else l.2)))
def Kp(b:List UInt8)(most:Int)(s:ZS):ZS:=vy (ag b) most (nj (ag b) s).1 (nj (ag b) s).2.1 (8*b.length+2) (nj (ag b) s).2.2
def zk(b:List UInt8)(most:Int)(s:ZS):Bool×ZS:=
 let l:=aE (ag b) 1 s
 let k:=aE (ag b) 2 l.2
 let z:=if k.2.e≠0 then k.2 else if k.1=0 then D6 (ag b) most k.2 else if k.1=1 then vy (ag b) most nn nk (8*b.length+2) k.2 else if k.1=2 then Kp b most k.2 else k.2.fail 11
 (decide (l.1=1)||decide (z.e≠0),z)
def zD(b:List UInt8)(most:Int):Nat->ZS->ZS
 |0,s=>s
 |f+1,s=>if(zk b most s).1 then(zk b most s).2 else zD b most f (zk b most s).2
def sa(b:List UInt8)(most:Int):List UInt8×Int×Int:=
 if most<0\/most>16777216 then([],0,2)else
  let z:=zD b most (8*b.length+2) ⟨0,0,[]⟩
  if z.e≠0 then([],0,z.e)else(z.out,(((z.at_+7)/8:Nat):Int),0)
def tc(b:List UInt8)(most:Int):List UInt8×Int×Int:=
 if most<0\/most>16777216 then([],0,2)else if Td b≠0 then([],0,Td b)else
  let r:=sa (b.drop 2) most
  if r.2.2≠0 then([],0,r.2.2)else if(b.length:Int)<r.2.1+6 then([],0,10)else if(b.drop (r.2.1+2).toNat).take 4≠adB (Oe r.1)then([],0,12)else(r.1,r.2.1+6,0)
section
variable{b:List UInt8}{most:Int}
def abc:ET nn/\ET nk/\0<=Ph nn/\0<=Ph nk:=by
 have h1:0<=Ph nn:=u_
 have h2:0<=Ph nk:=By
 grind [Nr]
def ND:∀(r of:List Int)(s:ZS),s.at_<=8*b.length->(Lu (ag b) r of s).2.at_<=8*b.length/\s.at_<=(Lu (ag b) r of s).2.at_/\(Lu (ag b) r of s).2.out=s.out/\((Lu (ag b) r of s).2.e=0->s.e=0)
 |[],_,_,h=>⟨h,Nat.le_refl _,rfl,fun h=>h⟩
 |a::r,of,s,h=>by
  have hn:=eu (n:=3) h
  have ih:=ND r (JC of a (aE (ag b) 3 s).1) (aE (ag b) 3 s).2 hn.1
  rw[Lu]
  exact⟨ih.1,AT,A_,fun e=>(hn.2.2.2.2.2 (ih.2.2.2 e)).1⟩
def OP{s:ZS}(h:s.at_<=8*b.length):(kQ (ag b) s).2.2.2.at_<=8*b.length/\s.at_<=(kQ (ag b) s).2.2.2.at_/\(kQ (ag b) s).2.2.2.out=s.out/\257<=(kQ (ag b) s).1/\(kQ (ag b) s).1<=288/\1<=(kQ (ag b) s).2.1/\(kQ (ag b) s).2.1<=32/\4<=(kQ (ag b) s).2.2.1/\(kQ (ag b) s).2.2.1<=19/\((kQ (ag b) s).2.2.2.e=0->s.e=0):=by grind [eu,kQ,gE,aE,ag,absurd]
def OQ{s:ZS}(h:s.at_<=8*b.length):(pw (ag b) s).2.at_<=8*b.length/\s.at_<=(pw (ag b) s).2.at_/\(pw (ag b) s).2.out=s.out/\((pw (ag b) s).2.e=0->s.e=0/\((pw (ag b) s).1.length:Int)=(kQ (ag b) s).1+(kQ (ag b) s).2.1):=by
 have h1:=OP h
 have h2:=ND (sn.take (kQ (ag b) s).2.2.1.toNat) (List.replicate 19 0) _ h1.1
 have h3:=xW (Lu (ag b) (sn.take (kQ (ag b) s).2.2.1.toNat) (List.replicate 19 0) (kQ (ag b) s).2.2.2).1 (Lu (ag b) (sn.take (kQ (ag b) s).2.2.1.toNat) (List.replicate 19 0) (kQ (ag b) s).2.2.2).2
 have h4:=TY (l:=(Lu (ag b) (sn.take (kQ (ag b) s).2.2.1.toNat) (List.replicate 19 0) (kQ (ag b) s).2.2.2).1) (n:=((kQ (ag b) s).1+(kQ (ag b) s).2.1).toNat) (((kQ (ag b) s).1+(kQ (ag b) s).2.1).toNat+1) [] _ (by rw[h3.1];exact h2.1) (Nat.zero_le _) BY
 grind [pw]
theorem OR{s:ZS}(h:ZI b most s):ZI b most (nj (ag b) s).2.2/\s.at_<=(nj (ag b) s).2.2.at_/\((nj (ag b) s).2.2.e=0->s.e=0/\0<=Ph (nj (ag b) s).1/\0<=Ph (nj (ag b) s).2.1):=by
 have h1:=OQ h.1
 unfold nj
 simp only
 split
 ·rename_i he
  exact⟨⟨h1.1,by rw[h1.2.2.1];exact h.2⟩,h1.2.1,fun e=>absurd e he⟩
 ·rename_i he
  have he:=G_
  have hf:=gE (pw (ag b) s).2 11 BY
  have hz:∀z,z=(if(pw (ag b) s).1.getD 256 0=0 then(pw (ag b) s).2.fail 11 else(pw (ag b) s).2)->z.at_=(pw (ag b) s).2.at_/\z.out=(pw (ag b) s).2.out:=A_
  generalize hzz:(if(pw (ag b) s).1.getD 256 0=0 then(pw (ag b) s).2.fail 11 else(pw (ag b) s).2)=z at*
  have hz:=hz z rfl
  have c1:=xW ((pw (ag b) s).1.take (kQ (ag b) s).1.toNat) z
  have c2:=xW ((pw (ag b) s).1.drop (kQ (ag b) s).1.toNat) (lF ((pw (ag b) s).1.take (kQ (ag b) s).1.toNat) z)
  refine⟨⟨A_,by rw[c2.2.1,c1.2.1,hz.2,h1.2.2.1];exact h.2⟩,A_,fun e=>⟨(h1.2.2.2 he).1,(c1.2.2 (c2.2.2 e).1).2,(c2.2.2 e).2⟩⟩
def PL:∀(k:Nat)(s:ZS),ZI b most s->ZI b most (Fc (ag b) most k s)
 |0,_,h=>h
 |k+1,s,h=>by
  rw[Fc]
  split
  ·exact h
  ·have hn:=eu (n:=8) h.1
   exact PL k _ (Pw ⟨hn.1,by rw[hn.2.2.2.2.1];exact h.2⟩)
theorem Yy{s:ZS}(h:ZI b most s):ZI b most (D6 (ag b) most s):=by
 have hH:=Jf h.1
 have h1:=eu (b:=b) (n:=16) (s:={s with at_:=(s.at_+7)/8*8}) A_
 have h2:=eu (n:=16) h1.1
 refine PL _ _ ⟨hH.1,?_⟩
 have:(vM (ag b) s).2.out=s.out:=by
  unfold vM
  simp only
  split
  ·grind [gE]
  ·grind
 rw[this];exact h.2
def Ox{s:ZS}(h:ZI b most s):ZI b most (zk b most s).2/\s.at_<=(zk b most s).2.at_/\((zk b most s).1=false->(zk b most s).2.e=0/\s.e=0/\s.at_<(zk b most s).2.at_):=by
 have h1:=eu (n:=1) h.1
 have h2:=eu (b:=b) (n:=2) h1.1
 have hk:ZI b most (aE (ag b) 2 (aE (ag b) 1 s).2).2:=⟨h2.1,by rw[h2.2.2.2.2.1,h1.2.2.2.2.1];exact h.2⟩
 unfold zk
 generalize hz:(if(aE (ag b) 2 (aE (ag b) 1 s).2).2.e≠0 then(aE (ag b) 2 (aE (ag b) 1 s).2).2 else if(aE (ag b) 2 (aE (ag b) 1 s).2).1=0 then D6 (ag b) most (aE (ag b) 2 (aE (ag b) 1 s).2).2 else if(aE (ag b) 2 (aE (ag b) 1 s).2).1=1 then vy (ag b) most nn nk (8*b.length+2) (aE (ag b) 2 (aE (ag b) 1 s).2).2 else if(aE (ag b) 2 (aE (ag b) 1 s).2).1=2 then Kp b most (aE (ag b) 2 (aE (ag b) 1 s).2).2 else(aE (ag b) 2 (aE (ag b) 1 s).2).2.fail 11)=z
 have hr:ZI b most z/\(aE (ag b) 2 (aE (ag b) 1 s).2).2.at_<=z.at_/\(z.e=0->(aE (ag b) 2 (aE (ag b) 1 s).2).2.e=0):=by
  subst hz
  split
  ·grind
  ·rename_i he
   have he:=G_
   split
   ·grind [Yy,Yz]
   ·split
    ·grind [HM,nn,nk]
    ·split
     ·grind [OR,HM,nj,ag,aE,Kp]
     ·have hf:=gE (aE (ag b) 2 (aE (ag b) 1 s).2).2 11 By
      exact⟨⟨A_,by rw[hf.2.1];exact hk.2⟩,A_,fun _=>he⟩
 grind
end
end Go.AB
end
section
set_option maxRecDepth 4000
namespace Go.AB
open Go
open Go.Proofs.Tryz (prog)
attribute[-go_sem] Nat.add_zero mO cF cj cS bK ch
abbrev stC(BR:Nat)(most:Int)(z:ZS):List AV:=[.ref BR 0,.int .i64 z.e,.sl true 1 z.out.length (flat z.out),.int .i64 most]
abbrev rdZ(b:List UInt8)(z:ZS):List AV:=[.int .i64 (z.at_:Int),.bool false,.bool true,.sl false 1 b.length (flat b)]
structure qy(s0 s:ae)(b:List UInt8)(most:Int)(B BR:Nat)(z:ZS):Prop where
 n0:s0 B=none
 n1:s0 BR=none
 ne:B≠BR
 sub:Sub s0 s
 hB:s B=some (.cells (stC BR most z))
 hR:s BR=some (.cells (rdZ b z))
def qy.Og{s0 s:ae}{b:List UInt8}{most:Int}{B BR:Nat}{z:ZS}(h:qy s0 s b most B BR z)(z':ZS):qy s0 ((s.set B (.cells (stC BR most z'))).set BR (.cells (rdZ b z'))) b most B BR z':=by
 refine⟨h.n0,h.n1,h.ne,fun x o hx=>?_,by rw[ai h.ne,bp],bp⟩
 have h1:x≠B:=fun e=>by subst e;rw[h.n0]at hx;cases hx
 have h2:x≠BR:=fun e=>by subst e;rw[h.n1]at hx;cases hx
 rw[ai h2,ai h1]
 exact h.sub _ _ hx
def qy.more{s0 s s':ae}{b:List UInt8}{most:Int}{B BR:Nat}{z:ZS}(h:qy s0 s b most B BR z)(hs:Sub s s'):qy s0 s' b most B BR z:=⟨h.n0,h.n1,h.ne,fun x o hx=>hs _ _ (h.sub x o hx),hs _ _ h.hB,hs _ _ h.hR⟩
theorem qy.off{s0 s s':ae}{b:List UInt8}{most:Int}{B BR:Nat}{z:ZS}(h:qy s0 s b most B BR z){y:Nat}(hy:s0 y=none)(h1:y≠B)(h2:y≠BR)(hs:∀x,x≠y->s' x=s x):qy s0 s' b most B BR z:=
 ⟨h.n0,h.n1,h.ne,fun x o hx=>by
   have:x≠y:=fun e=>by subst e;rw[hy]at hx;cases hx
   rw[hs x this];exact h.sub x o hx,by rw[hs B h1.symm];exact h.hB,by rw[hs BR h2.symm];exact h.hR⟩
def qy.tab{s0 s:ae}{b:List UInt8}{most:Int}{B BR:Nat}{z:ZS}(h:qy s0 s b most B BR z)(p q:SO){x:HT}(hx:il s x):il ((s.set B p).set BR q) x:=hx.E7 h.hB (yK _ _ _) h.hR (yJ _ _ _ _) h.ne
section
variable{s0 s:ae}{b:List UInt8}{most:Int}{B BR:Nat}{z:ZS}{Q:List AV->ae->Prop}
def zY(hS:qy s0 s b most B BR z)(hb:b.length<72057594037927936){n:Nat}(hn:n<=31)(hz:ZI b most z)(hq:∀s',qy s0 s' b most B BR (aE (ag b) n z).2->(∀x,il s x->il s' x)->(∀y,y≠B->y≠BR->s' y=s y)->Q [.int .i64 (aE (ag b) n z).1] s'):FN prog 237 [.ref B 0,.int .i64 (n:Int)] s Q:=by
 have hl:=eu (b:=b) (n:=n) hz.1
 refine bT (s_0:=Hg b z) (n_1:=(n:Int)) (preB0:=[]) (postB0:=[.sl true 1 z.out.length (flat z.out),.int .i64 most]) hS.hB hS.hR rfl hS.ne ⟨_,NJ AT hn hz.1,?_⟩
 have ho:z.out=(aE (ag b) n z).2.out:=hl.2.2.2.2.1.symm
 rw[ho]
 exact hq _ (hS.Og _) (fun x hx=>hS.tab _ _ hx) fun y h1 h2=>(ai h2).trans (ai h1)
def x6(hS:qy s0 s b most B BR z)(e:Int)(hq:∀s',qy s0 s' b most B BR (z.fail e)->(∀x,il s x->il s' x)->(∀y,y≠B->y≠BR->s' y=s y)->Q [] s'):FN prog 243 [.ref B 0,.int .i64 e] s Q:=by
 refine bH (s_0:=Hg b z) (e_1:=e) (preB0:=[]) (postB0:=[.sl true 1 z.out.length (flat z.out),.int .i64 most]) hS.hB hS.hR rfl hS.ne ⟨_,sM z e,?_⟩
 have ho:z.out=(z.fail e).out:=by unfold ZS.fail;split<;>rfl
 rw[ho]
 exact hq _ (hS.Og _) (fun x hx=>hS.tab _ _ hx) fun y h1 h2=>(ai h2).trans (ai h1)
def Rm(hS:qy s0 s b most B BR z)(hb:b.length<72057594037927936)(hM:most<=16777216)(hz:ZI b most z)(hq:∀s',qy s0 s' b most B BR (D6 (ag b) most z)->Q [] s'):FN prog 238 [.ref B 0] s Q:=qT (s_0:=qw b most z) hS.hB hS.hR hS.ne ⟨_,XU AT hM hz.1,hq _ (hS.Og _)⟩
def Kg(hS:qy s0 s b most B BR z)(hb:b.length<72057594037927936)(hM:most<=16777216)(hz:ZI b most z){t d:HT}(ht:il s t)(hd:il s d)(hq:∀s',qy s0 s' b most B BR (vy (ag b) most t.lens d.lens (8*b.length+2) z)->Q [] s'):FN prog 240 [.ref B 0,.ref t.B 0,.ref d.B 0] s Q:=sc (s_0:=qw b most z) hS.hB hS.hR hS.ne ht hd ⟨_,acy AT hM ht.1 hd.1 t.B d.B hz,hq _ (hS.Og _)⟩
def Xw(hS:qy s0 s b most B BR z)(hb:b.length<72057594037927936)(hz:ZI b most z){t:HT}(ht:il s t){n:Nat}(hn:n<1000)(hq:∀s' o,qy s0 s' b most B BR (zR (ag b) t.lens n (n+1) [] z).2->((zR (ag b) t.lens n (n+1) [] z).2.e=0->o=(zR (ag b) t.lens n (n+1) [] z).1)->Q [.sl true 1 o.length (flat o)] s'):FN prog 273 [.ref B 0,.ref t.B 0,.int .i64 (n:Int)] s Q:=by
 obtain⟨o,h1,h2,_⟩:=ako (b:=b) (most:=most) AT ht.1 t.B hn hz.1
 exact qg (s_0:=qw b most z) hS.hB hS.hR hS.ne ht ⟨_,h1,hq _ o (hS.Og _) h2⟩
end
set_option maxRecDepth 16000
def Gm:IC:=dec 0x149998c2ffec91db4cd74a34b9af61e94b7f6eec7cd23b460cba2ae8c022b5b4473a
def QA:eO prog 236 8 [⟨2,true,none⟩] Gm=true:=B_
def HI(l:List UInt8)(s:ae)(rs:List AV)(s':ae):Prop:=(∃b cap sp,rs=[.arr b 0 l.length cap]/\s b=none/\0<cap/\l.length<=cap/\(flat l++sp).length=cap*1/\views (flat l++sp)=flat l++sp/\s'=s.set b (.cells (flat l++sp)))\/(l=[]/\s'=s/\∃b,rs=[.arr b 0 0 0])
def MF{o:Bool}{l:List UInt8}{s:ae}(hr:l.length*1<=room):FN prog 236 [.sl o 1 l.length (flat l)] s (HI l s):=by
 refine FN.j4 (FO QA rfl rfl ?_)
 generalize hQ:(fun rs s'=>∃s2,Sub s2 s'/\HI l s rs s2)=Q
 have hq:∀rs s' s2,Sub s2 s'->HI l s rs s2->Q rs s':=fun rs s' s2 h1 h2=>Xa8
 rw[Gm]
 refine Xf7 ?_
 refine Xe2 ?_
 intro v hv
 refine⟨fun h=>hq _ _ s (Sub.refl s) (.inr ⟨List.eq_nil_of_length_eq_zero (hv KT),rfl,0,rfl⟩),fun _ b1 hb1=>?_⟩
 rw[gl,aH]
 by_cases hl:l=[]
 ·subst hl
  refine mE rfl rfl (Nat.le_refl 0) ?_
  refine Xe2 ?_
  exact hq _ _ s ((Sub.refl s).set hb1) (.inr ⟨rfl,rfl,_,rfl⟩)
 ·have hn:0<l.length:=List.length_pos_iff.2 hl
  refine er rfl rfl AT r_ fun b2 cap hb2 fI=>?_
  rw[Nat.zero_add]at fI
  have hz:(List.replicate (cap -(0+l.length)) [.int .u8 0]).flatten=flat (List.replicate (cap -l.length) (0:UInt8)):=Xa9
  rw[hz]
  simp -implicitDefEqProofs only[go_sem,seval,Nat.zero_add,List.nil_append]
  have M5:s b2=none:=((Sub.refl s).set hb1).none hb2
  refine hq _ _ _ (Sub.E7 ((Sub.refl s).set hb1)) (.inl ⟨b2,cap,_,rfl,M5,AT,fI,?_,?_,rfl⟩)
  ·rw[List.length_append,ax,ax,List.length_replicate]
   show l.length*1+(cap -l.length)*1=cap*1
   omega
  ·rw[lV,aH,aH]
def Qe{o:Bool}{l:List UInt8}{s:ae}(hr:l.length*1<=room):FE prog 236 [.sl o 1 l.length (flat l)] s [.sl true 1 l.length (flat l)] s:=
 FN.Ae (ax l) (aH l) ⟨rfl,rfl⟩ ((MF hr).mono fun rs s' h=>by
  rcases h with⟨b,cap,sp,h1,h2,h3,h4,h5,h6,h7⟩|⟨h1,h2,h3⟩
  ·exact .inl ⟨b,cap,sp,h1,s7,h3,h4,h5,s_⟩
  ·subst h1;exact .inr ⟨rfl,rfl,t_,h3⟩)
def Ye{b:List UInt8}{high o:Bool}{s:ae}{Q:List AV->ae->Prop}(hr:b.length*1<=room)(hq:∀B,s B=none->Q [.ref B 0] (s.set B (.cells [.int .i64 0,.bool high,.bool true,.sl false 1 b.length (flat b)]))):FN prog 206 [.sl o 1 b.length (flat b),.bool high] s Q:=by
 refine FS 11 [⟨4,true,none⟩] 0x85975d12c63fea476ed30ce8244b626ab07bec0d5d52b95b90342162103fd504883fa ?_
 refine Xe5 ?_
 refine FE.app (Qe hr) ?_
 refine Xe5 ?_
 exact hq
section
variable{s0 s:ae}{b:List UInt8}{most:Int}{B BR:Nat}{z:ZS}{Q:List AV->ae->Prop}
def rA(hS:qy s0 s b most B BR z){l:List Int}{ow:Bool}{n:Nat}(hn:l.length=n)(h0:∀s',qy s0 s' b most B BR (lF l z)->(lF l z).e≠0->(∀x,il s x->il s' x)->Q [.fN] s')
 (h1:∀s' x,qy s0 s' b most B BR (lF l z)->(lF l z).e=0->(∀x,il s x->il s' x)->il s' x->x.lens=l->Q [.ref x.B 0] s'):FN prog 241 [.ref B 0,.sl ow 1 n (flat l)] s Q:=by
 subst hn
 refine FS 21 [⟨4,true,none⟩] 0x628da4f49e3702f8b750a13bcd7ad1432f0905b9b27e640eab73c60af4dc5c87b6a762f9177c9f25709bd0378b6a84f9e2bf6b1803ebccf80c65504883fa ?_
 have hB:=hS.hB
 refine Xe3 hB ?_
 refine⟨fun he=>?_,fun he=>?_⟩
 ·have he:z.e≠0:=G_
  have e:lF l z=z:=by unfold lF ZS.fail;rw[if_neg he];split<;>rfl
  rw[e]at h0
  exact h0 s hS he fun x h=>h
 ·have he:z.e=0:=G_
  refine acd (fun hk s' hs=>?_) (fun hk s' x hs hx hl=>?_)
  ·have hS':=hS.more hs
   refine Xe5 ?_
   refine x6 hS' 13 fun s2 hS2 ht _=>?_
   have e:lF l z=z.fail 13:=by unfold lF;rw[if_pos hk]
   rw[e]at h0
   refine Xe5 ?_
   exact h0 s2 hS2 (gE z 13 By).2.2 fun x h=>ht x (h.mono hs)
  ·have hS':=hS.more hs
   refine Xe5 ?_
   refine x6 hS' 0 fun s2 hS2 ht _=>?_
   have e:lF l z=z:=Xd9
   have e2:z.fail 0=z:=by unfold ZS.fail;rw[if_pos he,<-he]
   rw[e]at h1
   rw[e2]at hS2
   refine Xe5 ?_
   exact h1 s2 x hS2 he (fun x h=>ht x (h.mono hs)) (ht x hx) hl
def ptr(p:AV):Prop:=p=.fN\/∃x,p=.ref x 0
def YE(hS:qy s0 s b most B BR z)(he:z.e≠0){p:AV}(hp:ptr p)(hq:Q [.int .i64 0] s):FN prog 267 [.ref B 0,p] s Q:=by
 rcases hp with rfl|⟨x,rfl⟩
 all_goals
  refine FO ko rfl rfl ?_
  rw[gR]
  refine Xf7 ?_
  have hB:=hS.hB
  have hc:(z.e !=0)=true:=G_
  refine Xe9 hB hc ?_
  exact hq
def Gz{P:Program}{live:List (Nat×Bool)}{l:Nat}{r:IC}{Q:Exit->St->Prop}{E:St}(h:∀J,fW P r (It l live J Q) E):VV P l live r Q E:=yy (S:=Unit) (O:=Unit) (body:=fun _=>some (.inr ())) (s0:=()) (kf:=fun _=>True) (fun _=>E) rfl (fun J _ _=>h J) ⟨(),od 0 (fun _=>()) rfl By (fun k hk=>AT) rfl,trivial⟩
def Wo(hS:qy s0 s b most B BR z)(he:z.e≠0){p q:AV}(hp:ptr p)(hq':ptr q)(hq:Q [] s):FN prog 240 [.ref B 0,p,q] s Q:=by
 have hp0:=hp
 rcases hp with rfl|⟨x,rfl⟩<;>rcases hq' with rfl|⟨y,rfl⟩
 all_goals
  refine FO lL rfl rfl ?_
  rw[iX]
  refine Xf7 ?_
  have hB:=hS.hB
  have hc:(z.e !=0)=true:=G_
  refine Xe5 ?_
  refine Gz fun J=>?_
  refine Xe5 ?_
  refine YE hS he hp0 ?_
  refine Xe9 hB hc ?_
  exact hq
def Xv(hS:qy s0 s b most B BR z)(he:z.e≠0)(n:Int)(hq:Q [.sl true 1 0 []] s):FN prog 273 [.ref B 0,.fN,.int .i64 n] s Q:=by
 refine FO kp rfl rfl ?_
 rw[gS]
 refine Xf7 ?_
 have hB:=hS.hB
 have hc:(z.e !=0)=true:=G_
 refine Xe5 ?_
 refine Gz fun J=>?_
 refine Xh0 hB hc ?_
 exact hq
end
theorem tF:nn.length=288:=rfl
def SK{k:Nat}(h:k<288):nn[k]? =some (if k<144\/k>279 then 8 else if k<256 then 9 else 7):=by
 unfold nn
 rw[List.getElem?_map,List.getElem?_range h];rfl
def ki(l:List Int)(n k:Nat):List Int:=l.take k++List.replicate (n -k) 0
def Ga{l:List Int}{n k:Nat}(hl:l.length=n)(hk:k<n){x:Int}(hx:l[k]? =some x):(ki l n k).set k x=ki l n (k+1):=by
 unfold ki
 have ht:(l.take k).length=k:=N_
 rw[List.set_append_right _ _ AT,ht,Nat.sub_self,show n -k=(n -(k+1))+1 by omega,List.replicate_succ,List.set_cons_zero,List.take_add_one,hx]
 simp
def F9{l:List Int}{n k:Nat}(hl:l.length=n)(hk:k<=n):(ki l n k).length=n:=by
 unfold ki
 simp;omega
theorem F8{l:List Int}{n:Nat}(hl:l.length=n):ki l n n=l:=by
 unfold ki
 rw[List.take_of_length_le AT,Nat.sub_self];simp
def CP{E:St}{d:Option Nat}{K:St->Prop}{b n:Nat}{l:List Int}(hs:E.s b=some (.cells (flat l)))(hl:l.length=n)(hn:0<n)(hK:K ({E with s:=E.s.del b}.put d (.sl true 1 n (flat l)))):ye 1 true E d K (.arr b 0 n n):=by
 have hlc:(flat l).length=n:=by rw[ax,hl];exact Nat.mul_one _
 have dn:decide (0+n*1<=(flat l).length)=true:=by rw[hlc];simp
 have e1:views (AB.sub (flat l) 0 (n*1))=flat l:=by
  unfold AB.sub
  rw[List.drop_zero,List.take_of_length_le AT,aH]
 refine .inr ⟨hn,Nat.le_refl _,fun _=>⟨rfl,?_,?_⟩,?_⟩
 ·rw[hs];show 0+n*1<=_;omega
 ·rw[hs];show _=0+n*1;omega
 ·rw[hs]
  show ye.frzK 1 true E d K b n (bif decide (0+n*1<=(flat l).length)then some (n,views (AB.sub (flat l) 0 (n*1)))else none)
  rw[dn,e1]
  exact hK
def abb{s:ae}:FE prog 239 [] s [.sl true 1 288 (flat nn),.sl true 1 30 (flat nk)] s:=by
 have cg:room=140737488355328:=rfl
 refine FP 44 [⟨0,true,none⟩,⟨1,true,none⟩] (dec 0x3d47c4dc3f572611e140fb7a651f65b560fb9b3a5712ac7346fb1d79134e28541dc47b9efd627dc0f74d11f659b8467e01904d19cae52a76d30205ad02b37c3ca53e05cae470d789541abaaabfb4b7733fb47e2dc149bc07b1d23efcaa7f78e2b8ffcf644bb400d56ce005a9a850c74ca76c062a1726cfaed3e4b2a74676e1e70b99d48e137d0bc625b2f65f6375741c1ebefb06649bb3b011cce2cab89b94b559574f909f214d4e129c15d5ca739da87bd0b3415d0d773d44e11cd8bd287cfb92c208445c1ac45525d7282166182252df0544187c7712a1525840ddc91ac74e82bd07af48eca60de3b28a4572977e320a203916610b775b40acb) B_ rfl ?_
 generalize hQ:(fun rs t=>rs=[AV.sl true 1 288 (flat nn),.sl true 1 30 (flat nk)]/\t=s)=Q
 refine Xf7 ?_
 refine Xe5 ?_
 refine aaJ (fun φ=>∃b6 b7 S,S b6=some (.cells (flat (ki nn 288 0)))/\S b7=some (.cells (flat (ki nk 30 0)))/\b6≠b7/\s b6=none/\s b7=none/\(∀x,x≠b6->x≠b7->S x=s x)/\φ=⟨[(2,.arr b6 0 288 288),(3,.arr b7 0 30 30)],[],S⟩) ?_ ?_
 ·intro K hK
  repeat'(first|(simp only[cS,cj,bK,ch,vN,xA,Bool.not_true,Bool.not_false,Bool.or_true,Bool.true_or,Bool.false_or,Bool.or_false,Bool.and_true,Bool.true_and,Bool.and_false,Bool.false_and,cond_true,cond_false,true_and,and_true];done)|with_reducible refine⟨?_,?_⟩|with_reducible exact trivial|omega|(intro b hb)|(simp only[cS,cj,bK,ch,vN,xA,Bool.not_true,Bool.not_false,Bool.or_true,Bool.true_or,Bool.false_or,Bool.or_false,Bool.and_true,Bool.true_and,Bool.and_false,Bool.false_and,cond_true,cond_false,true_and,and_true])|simp -implicitDefEqProofs only[go_sem,seval])
  all_goals
   rename_i b1 h1
   have hne:b≠b1:=fun e=>by subst e;rw[bp]at hb;cases hb
   rw[ai hne]at hb
   first
    |exact hK _ ⟨b1,b,_,(ai hne.symm).trans bp,bp,hne.symm,h1,hb,fun x hx hy=>(ai hy).trans (ai hx),rfl⟩
    |exact hK _ ⟨b,b1,_,bp,(ai hne.symm).trans bp,hne,hb,h1,fun x hx hy=>(ai hx).trans (ai hy),rfl⟩
 ·rintro φ ⟨b6,b7,S,h6,h7,hne,n6,n7,hS,rfl⟩
  refine Xe5 ?_
  refine iY 288 (fun k τ=>∃S:ae,S b6=some (.cells (flat (ki nn 288 k)))/\S b7=some (.cells (flat (ki nk 30 0)))/\(∀x,x≠b6->x≠b7->S x=s x)/\τ=⟨[(2,.arr b6 0 288 288),(3,.arr b7 0 30 30),(9,.int .i64 288),(10,.int .i64 k)],[],S⟩) By ⟨S,h6,h7,hS,rfl⟩ (fun k hk J τ hτ hJ=>?_) (fun J τ hτ=>?_)
  ·obtain⟨S,h6,h7,hS,rfl⟩:=hτ
   have hlt:decide ((k:Int)<288)=true:=C3
   have hw:aC ((k:Int)+1)=((k+1:Nat):Int):=E_
   have hl:=F9 (l:=nn) tF (k:=k) AT
   have dE:=(Ha (ki nn 288 k) (n:=1) rfl (j:=(k:Int)) AT AT).1
   have CW:=fun x=>LZ (ki nn 288 k) (n:=1) rfl x (j:=(k:Int)) AT AT
   have hnx:=fun x hx=>Ga (x:=x) tF hk hx
   have hg:=SK hk
   rw[Int.toNat_natCast]at dE CW
   refine Xf1 hlt hw h6 ?_
   have go:∀x:Int,nn[k]? =some x->J ⟨[(2,.arr b6 0 288 288),(3,.arr b7 0 30 30),(9,.int .i64 288),(10,.int .i64 ((k+1:Nat):Int))],[],S.set b6 (.cells (setAt (flat (ki nn 288 k)) (k*1) [.int .i64 x]))⟩:=fun x hx=>by
    have e:setAt (flat (ki nn 288 k)) (k*1) [.int .i64 x]=flat (ki nn 288 (k+1)):=(CW x).trans (congrArg flat (hnx x hx))
    rw[e]
    exact hJ _ ⟨_,bp,(ai hne.symm).trans h7,fun y hy hz=>(ai hy).trans (hS y hy hz),rfl⟩
   refine⟨fun h=>⟨⟨AT,AT⟩,dE,go 8 ?_⟩,fun h=>⟨fun h2=>⟨⟨AT,AT⟩,dE,go 9 ?_⟩,fun h2=>⟨⟨AT,AT⟩,dE,go 7 ?_⟩⟩⟩
   ·rw[hg,if_pos Xb4]
   ·rw[hg,if_neg Xb4,if_pos (by simp at h2;omega)]
   ·rw[hg,if_neg Xb4,if_neg (by simp at h2;omega)]
  ·obtain⟨S,h6,h7,hS,rfl⟩:=hτ
   have hlt:decide ((288:Int)<288)=false:=By
   show fW _ _ _ ⟨[(2,.arr b6 0 288 288),(3,.arr b7 0 30 30),(9,.int .i64 288),(10,.int .i64 288)],[],S⟩
   rw[F8 tF]at h6
   refine Xe3 hlt ?_
   refine iY 30 (fun k τ=>∃S:ae,S b6=some (.cells (flat nn))/\S b7=some (.cells (flat (ki nk 30 k)))/\(∀x,x≠b6->x≠b7->S x=s x)/\τ=⟨[(2,.arr b6 0 288 288),(3,.arr b7 0 30 30),(34,.int .i64 30),(35,.int .i64 k)],[],S⟩) By ⟨S,h6,h7,hS,rfl⟩ (fun k hk J τ hτ hJ=>?_) (fun J τ hτ=>?_)
   ·obtain⟨S,h6,h7,hS,rfl⟩:=hτ
    have hlt:decide ((k:Int)<30)=true:=C3
    have hw:aC ((k:Int)+1)=((k+1:Nat):Int):=E_
    have hD:nk.length=30:=rfl
    have hl:=F9 (l:=nk) hD (k:=k) AT
    have dE:=(Ha (ki nk 30 k) (n:=1) rfl (j:=(k:Int)) AT AT).1
    have CW:=LZ (ki nk 30 k) (n:=1) rfl (5:Int) (j:=(k:Int)) AT AT
    have hnx:=Ga (x:=5) hD hk (by unfold nk;rw[List.getElem?_replicate,if_pos hk])
    rw[Int.toNat_natCast]at dE CW
    have e:setAt (flat (ki nk 30 k)) (k*1) [.int .i64 5]=flat (ki nk 30 (k+1)):=CW.trans (congrArg flat hnx)
    refine Xg7 hlt hw h7 e ?_
    exact⟨⟨AT,AT⟩,dE,hJ _ ⟨_,(ai hne).trans h6,bp,fun y hy hz=>(ai hz).trans (hS y hy hz),rfl⟩⟩
   ·obtain⟨S,h6,h7,hS,rfl⟩:=hτ
    have hlt:decide ((30:Int)<30)=false:=By
    show fW _ _ _ ⟨[(2,.arr b6 0 288 288),(3,.arr b7 0 30 30),(34,.int .i64 30),(35,.int .i64 30)],[],S⟩
    rw[F8 (l:=nk) (n:=30) rfl]at h7
    refine Xe3 hlt ?_
    refine CP (l:=nn) h6 tF By ?_
    refine Xe5 ?_
    have h7':(S.del b6) b7=some (.cells (flat nk)):=by
     unfold ae.del
     rw[if_neg hne.symm];exact h7
    refine CP (l:=nk) h7' rfl By ?_
    refine Xe5 ?_
    subst hQ
    refine⟨rfl,?_⟩
    funext x
    unfold ae.del
    by_cases h1:x=b7
    ·rw[if_pos h1,h1,n7]
    ·rw[if_neg h1]
     by_cases h2:x=b6
     ·rw[if_pos h2,h2,n6]
     ·rw[if_neg h2];exact hS x h2 h1
end Go.AB
end
