/- A part. -/
import Derived.Test.YtgecakgfnjkkbaaGreatRt19
set_option linter.defProp false
set_option linter.unusedSimpArgs false
set_option linter.unusedVariables false
section
namespace Go.AB
open Go
def PV{k n:Nat}(h:k<=n):(2:Int)^k<=2^n:=by
 have:=Nat.pow_le_pow_right (n:=2) BY h
 grind
def kW(x:Int):Int×Int×Bool:=if x<257\/x>285 then(0,0,false)else(fj x).getD (0,0,false)
def jx(x:Int):Int×Int×Bool:=if x<0\/x>29 then(0,0,false)else(eC x).getD (0,0,false)
def PL(x:Int):fj x=some (kW x)/\sq x=some (kW x)/\0<=(kW x).1/\(kW x).1<=258/\0<=(kW x).2.1/\(kW x).2.1<=5:=by
 by_cases h:x<257\/x>285
 ·unfold kW fj sq
  grind
 ·have hk:∃k:Nat,k<29/\x=257+k:=⟨(x -257).toNat,AT,AT⟩
  obtain⟨k,hk,rfl⟩:=hk
  have:=List.all_eq_true.1 (show((List.range 29).all fun k=>decide (fj (257+k)=some (kW (257+k))/\sq (257+k)=some (kW (257+k))/\0<=(kW (257+k)).1/\(kW (257+k)).1<=258/\0<=(kW (257+k)).2.1/\(kW (257+k)).2.1<=5))=true by decide+kernel) k (List.mem_range.2 hk)
  grind
def Xc(x:Int):eC x=some (jx x)/\pC x=some (jx x)/\0<=(jx x).1/\(jx x).1<=32768/\0<=(jx x).2.1/\(jx x).2.1<=13/\((jx x).2.2=true->1<=(jx x).1):=by
 by_cases h:x<0\/x>29
 ·unfold jx eC pC
  grind
 ·have hk:∃k:Nat,k<30/\x=k:=⟨x.toNat,AT,AT⟩
  obtain⟨k,hk,rfl⟩:=hk
  have:=List.all_eq_true.1 (show((List.range 30).all fun k=>decide (eC k=some (jx k)/\pC k=some (jx k)/\0<=(jx k).1/\(jx k).1<=32768/\0<=(jx k).2.1/\(jx k).2.1<=13/\((jx k).2.2=true->1<=(jx k).1)))=true by decide+kernel) k (List.mem_range.2 hk)
  grind
def Jw:Nat->Int->List UInt8->List UInt8
 |0,_,o=>o
 |k+1,far,o=>Jw k far (o++[ix o ((o.length:Int) -far)])
theorem Mb:∀(k:Nat)(far:Int)(o:List UInt8),(Jw k far o).length=o.length+k
 |0,_,_=>rfl
 |k+1,far,o=>by rw[Jw,Mb k];simp;omega
def Oo(most len far:Int)(s:ZS):ZS:=if s.e≠0 then s else if far>s.out.length then{s with e:=14}else if len>most -s.out.length then{s with e:=3}else{s with out:=Jw len.toNat far s.out}
def SX(B:List Bool)(most:Int)(ld:List Int)(r:Int×ZS):ZS:=
 let m:=aE B (kW r.1).2.1.toNat (if(kW r.1).2.2 then r.2 else r.2.fail 11)
 let y:=iI B ld m.2
 let q:=aE B (jx y.1).2.1.toNat (if(jx y.1).2.2 then y.2 else y.2.fail 11)
 Oo most ((kW r.1).1+m.1) ((jx y.1).1+q.1) q.2
def tC(B:List Bool)(most:Int)(lt ld:List Int)(s:ZS):Bool×ZS:=
 let r:=iI B lt s
 if r.2.e≠0\/r.1=256 then(false,r.2)else if r.1<256 then(true,BT most (jt r.1) r.2)else(true,SX B most ld r)
def vy(B:List Bool)(most:Int)(lt ld:List Int):Nat->ZS->ZS
 |0,s=>s
 |f+1,s=>if(tC B most lt ld s).1 then vy B most lt ld f (tC B most lt ld s).2 else(tC B most lt ld s).2
def ZI(b:List UInt8)(most:Int)(s:ZS):Prop:=s.at_<=8*b.length/\(s.out.length:Int)<=most
section
variable{b:List UInt8}{most:Int}
theorem gD(s:ZS)(e:Int)(he:e≠0):(s.fail e).at_=s.at_/\(s.fail e).out=s.out/\(s.fail e).e≠0:=by
 unfold ZS.fail
 grind
def YV{len far:Int}{s:ZS}(h:ZI b most s)(h0:0<=len):ZI b most (Oo most len far s)/\s.at_=(Oo most len far s).at_/\((Oo most len far s).e=0->s.e=0):=by
 unfold Oo
 split
 ·grind
 ·split
  ·exact⟨h,rfl,fun h=>AT⟩
  ·split
   ·exact⟨h,rfl,fun h=>A_⟩
   ·refine⟨⟨h.1,?_⟩,rfl,fun h=>h⟩
    grind [Jw,Mb]
theorem PY{x:UInt8}{s:ZS}(h:ZI b most s):ZI b most (BT most x s):=by
 unfold BT
 split
 ·exact h
 ·split
  ·exact h
  ·exact⟨h.1,A_⟩
def ak5(hM:most<=16777216){s:ZS}(h:ZI b most s){len far:Int}(h0:0<=len)(h1:len<1000)(hf:s.e=0->1<=far):eD (qC b most s) len far=some (qC b most (Oo most len far s)):=by
 have cg:room=140737488355328:=rfl
 obtain⟨ha,ho⟩:=h
 unfold eD Oo
 by_cases he:s.e=0
 ·have hf:=hf he
  rw[if_neg y_]
  by_cases h2:far>s.out.length
  ·grind [sK,aL,ZS.fail]
  ·rw[if_neg A_,if_neg h2]
   rw[ao (n:=most -(s.out.length:Int)) AT AT]
   by_cases h3:len>most -s.out.length
   ·grind [sK,aL,ZS.fail]
   ·rw[if_neg A_,if_neg h3]
    refine iter_eq (fun(z:Int×ak)=>∃k:Nat,∃o:List UInt8,k<=len.toNat/\z=((k:Int),qC b most {s with out:=o})/\Jw (len.toNat -k) far o=Jw len.toNat far s.out/\s.out.length+k=o.length) (fun z=>(len -z.1).toNat) ⟨0,s.out,Nat.zero_le _,rfl,rfl,rfl⟩ C_ ?_
    rintro _ ⟨k,o,hk,rfl,hz,hol⟩
    by_cases hlt:k<len.toNat
    ·obtain⟨f,hff⟩:∃f,len.toNat -k=f+1:=⟨len.toNat -k -1,AT⟩
     rw[hff,Jw]at hz
     simp only
     rw[ao (n:=(o.length:Int) -far) AT AT,ao (n:=(k:Int)+1) AT AT]
     refine .inl ⟨_,?_,⟨k+1,o++[ix o ((o.length:Int) -far)],hlt,rfl,A_,C_⟩,A_⟩
     rw[if_pos C_,bI AT,bI C_]
     rfl
    ·rw[show len.toNat -k=0 by omega,Jw]at hz
     grind
 grind
theorem W6{ld:List Int}{r:Int×ZS}(h:ZI b most r.2):ZI b most (SX (ai b) most ld r)/\r.2.at_<=(SX (ai b) most ld r).at_:=by
 have hL:=PL r.1
 unfold SX
 simp
 have hf:=gD r.2 11 BY
 generalize hs2:(if(kW r.1).2.2=true then r.2 else r.2.fail 11)=s2
 have h2:s2.at_=r.2.at_/\s2.out=r.2.out:=A_
 have hn:=ep (n:=(kW r.1).2.1.toNat) (by rw[h2.1];exact h.1)
 generalize aE (ai b) (kW r.1).2.1.toNat s2=m at*
 have hy:=vg (l:=ld) hn.1
 generalize iI (ai b) ld m.2=y at*
 have hf:=gD y.2 11 BY
 generalize hs5:(if(jx y.1).2.2=true then y.2 else y.2.fail 11)=s5
 have h5:s5.at_=y.2.at_/\s5.out=y.2.out:=A_
 have hq:=ep (b:=b) (n:=(jx y.1).2.1.toNat) (s:=s5) A_
 generalize aE (ai b) (jx y.1).2.1.toNat s5=q at*
 have hr:=YV (len:=(kW r.1).1+m.1) (far:=(jx y.1).1+q.1) ⟨hq.1,by rw[hq.2.2.2.2.1,h5.2,hy.2.2.2.2.1,hn.2.2.2.2.1,h2.2];exact h.2⟩ AT
 grind
def Io{lt ld:List Int}{s:ZS}(h:ZI b most s):ZI b most (tC (ai b) most lt ld s).2/\s.at_<=(tC (ai b) most lt ld s).2.at_/\((tC (ai b) most lt ld s).1=true->s.e=0/\s.at_<(tC (ai b) most lt ld s).2.at_):=by grind [vg,tC,ZI,iI,ai,absurd,Jl,jt,PY,W6]
def mu(b:List UInt8)(s:ZS):Nat:=if s.e=0 then 8*b.length -s.at_+1 else 0
def W7{lt ld:List Int}{s:ZS}(h:ZI b most s)(ht:(tC (ai b) most lt ld s).1=true):mu b (tC (ai b) most lt ld s).2<mu b s:=by
 have:=Io (lt:=lt) (ld:=ld) h
 have h3:=this.1.1
 unfold mu
 grind
theorem Im{lt ld:List Int}:∀(f:Nat)(s:ZS),ZI b most s->ZI b most (vy (ai b) most lt ld f s)/\s.at_<=(vy (ai b) most lt ld f s).at_
 |0,_,h=>⟨h,Nat.le_refl _⟩
 |f+1,s,h=>by
  have hc:=Io (lt:=lt) (ld:=ld) h
  rw[vy]
  split
  ·have:=Im (lt:=lt) (ld:=ld) f _ hc.1
   exact⟨this.1,AT⟩
  ·exact⟨hc.1,hc.2.1⟩
def Kx{lt ld:List Int}{body:ak->Option (ak⊕ak)}(qT:∀s,ZI b most s->body (qC b most s)=some (if(tC (ai b) most lt ld s).1 then .inl (qC b most (tC (ai b) most lt ld s).2)else .inr (qC b most (tC (ai b) most lt ld s).2))):
 ∀(f:Nat)(s:ZS),ZI b most s->mu b s<f->∀m,f<=m->cD body m (qC b most s)=some (qC b most (vy (ai b) most lt ld f s))
 |0,_,_,h,_,_=>absurd h (Nat.not_lt_zero _)
 |f+1,s,h,hf,m,hm=>by
  obtain⟨j,rfl⟩:∃j,m=j+1:=⟨m -1,AT⟩
  rw[cD,vy,qT s h]
  cases ht:(tC (ai b) most lt ld s).1 with
  |false=>rfl
  |true=>
   have:=W7 h ht
   exact Kx qT f _ (Io h).1 AT j AT
def adf(hb:b.length<576460752303423488)(hM:most<=16777216){lt ld:List Int}(hlt:Fo lt)(hld:Fo ld)(K L:Nat){s:ZS}(h:ZI b most s):il (qC b most s) ⟨K,lt⟩ ⟨L,ld⟩=some (qC b most (vy (ai b) most lt ld (8*b.length+2) s)):=by
 unfold il iter
 refine Kx (fun s h=>?_) (8*b.length+2) s h (by grind [mu]) 18446744073709551616 AT
 have hs:=vg (b:=b) (l:=lt) h.1
 have hz:ZI b most (iI (ai b) lt s).2:=⟨hs.1,by rw[hs.2.2.2.2.1];exact h.2⟩
 refine ah (adg hb hlt K h.1) ?_
 unfold tC
 have ho:s.out=(iI (ai b) lt s).2.out:=hs.2.2.2.2.1.symm
 simp only[ho]
 clear hs ho
 generalize iI (ai b) lt s=r at*
 by_cases h1:r.2.e≠0\/r.1=256
 ·grind
 ·rw[if_neg A_,if_neg h1]
  have he:r.2.e=0:=by
   by_cases he:r.2.e=0
   ·exact he
   ·grind
  by_cases h2:r.1<256
  ·rw[if_pos A_,if_pos h2]
   show aZ (cJ (qC b most r.2) (jt r.1)) _=_
   grind [ahv,aL]
  ·rw[if_neg A_,if_neg h2]
   obtain⟨hL1,_,hL2,hL3,hL4,hL5⟩:=PL r.1
   rw[hL1,aL]
   unfold SX
   simp only[if_true]
   have hf:=gD r.2 11 B_
   generalize hs2:(if(kW r.1).2.2=true then r.2 else r.2.fail 11)=s2
   have h2:s2.at_=r.2.at_/\s2.out=r.2.out:=by subst hs2;split;exact⟨rfl,rfl⟩;exact⟨hf.1,hf.2.1⟩
   refine eJ (a:=qC b most s2) ?_ ?_
   ·subst hs2
    cases(kW r.1).2.2 with
    |true=>rfl
    |false=>
     show aZ (az (HG b r.2) 11) _=_
     grind [sK,aL]
   ·have hn:=ep (b:=b) (n:=(kW r.1).2.1.toNat) (s:=s2) (by rw[h2.1];exact hz.1)
    have hN:=Oa (b:=b) hb (n:=(kW r.1).2.1.toNat) (s:=s2) AT A_
    rw[show(((kW r.1).2.1.toNat:Nat):Int)=(kW r.1).2.1 by omega]at hN
    refine ah hN ?_
    have hnn:((aE (ai b) (kW r.1).2.1.toNat s2).1)<32:=by
     have hp:(2:Int)^(kW r.1).2.1.toNat<=2^5:=PV AT
     have:=hn.2.2.2.1
     have e5:(2:Int)^5=32:=B_
     omega
    generalize aE (ai b) (kW r.1).2.1.toNat s2=m at*
    have hy:=vg (b:=b) (l:=ld) (s:=m.2) hn.1
    refine ah (adg hb hld L hn.1) ?_
    generalize iI (ai b) ld m.2=y at*
    obtain⟨hD1,_,hD2,hD3,hD4,hD5,hD6⟩:=Xc y.1
    simp only
    rw[hD1,aL]
    have hf:=gD y.2 11 B_
    generalize hs5:(if(jx y.1).2.2=true then y.2 else y.2.fail 11)=s5
    have h5:s5.at_=y.2.at_/\s5.out=y.2.out/\(s5.e=0->(jx y.1).2.2=true):=by
     subst hs5
     split
     ·grind
     ·grind
    have hso:s2.out=y.2.out:=by rw[hy.2.2.2.2.1,hn.2.2.2.2.1]
    refine eJ (a:=qC b most s5) ?_ ?_
    ·subst hs5
     cases(jx y.1).2.2 with
     |true=>simp[hso]
     |false=>
      show aZ (az (HG b y.2) 11) _=_
      rw[sK,aL]
      grind
    ·have hq:=ep (b:=b) (n:=(jx y.1).2.1.toNat) (s:=s5) A_
     have hQ:=Oa (b:=b) hb (n:=(jx y.1).2.1.toNat) (s:=s5) AT A_
     rw[show(((jx y.1).2.1.toNat:Nat):Int)=(jx y.1).2.1 by omega]at hQ
     refine ah hQ ?_
     have hqq:((aE (ai b) (jx y.1).2.1.toNat s5).1)<8192:=by
      have hp:(2:Int)^(jx y.1).2.1.toNat<=2^13:=PV AT
      have:=hq.2.2.2.1
      have e5:(2:Int)^13=8192:=B_
      omega
     generalize aE (ai b) (jx y.1).2.1.toNat s5=q at*
     simp only
     rw[ao (n:=(kW r.1).1+m.1) AT AT,ao (n:=(jx y.1).1+q.1) AT AT]
     have hqo:s5.out=q.2.out:=hq.2.2.2.2.1.symm
     have:=ak5 (b:=b) (most:=most) hM (s:=q.2) ⟨hq.1,by rw[hq.2.2.2.2.1,h5.2.1,hy.2.2.2.2.1,hn.2.2.2.2.1,h2.2];exact hz.2⟩ (len:=(kW r.1).1+m.1) (far:=(jx y.1).1+q.1) AT AT (fun e=>A_)
     rw[hqo]
     refine ah this rfl
end
def lG(l:List Int)(s:ZS):ZS:=if PI l<0 then s.fail 13 else s
def x4(l:List Int)(s:ZS):(lG l s).at_=s.at_/\(lG l s).out=s.out/\((lG l s).e=0->s.e=0/\0<=PI l):=by
 unfold lG
 have:=gD s 13 BY
 split
 ·exact⟨this.1,this.2.1,fun h=>absurd h this.2.2⟩
 ·exact⟨rfl,rfl,fun h=>⟨h,AT⟩⟩
section
variable{b:List UInt8}{most:Int}
theorem abH{lt ld:List Int}{s:ZS}(he:s.e≠0)(f:Nat):vy (ai b) most lt ld f s=s:=by
 cases f with
 |zero=>rfl
 |succ f=>
  have e:tC (ai b) most lt ld s=(false,s):=by
   unfold tC iI
   simp[he]
  rw[vy,e];rfl
end
def J4(n:Nat)(out:List Int)(t x:Int)(s:ZS):List Int×ZS:=if s.e≠0 then(out,s)else if t>(n:Int) -out.length then(out,s.fail 11)else(out++List.replicate t.toNat x,s)
def J1(B:List Bool)(l:List Int)(n:Nat)(out:List Int)(s:ZS):List Int×ZS:=
 let r:=iI B l s
 if r.1=16 then(if out=[]then(out,r.2.fail 11)else J4 n out ((aE B 2 r.2).1+3) (out.getLastD 0) (aE B 2 r.2).2)
 else if r.1=17 then J4 n out ((aE B 3 r.2).1+3) 0 (aE B 3 r.2).2
 else if r.1=18 then J4 n out ((aE B 7 r.2).1+11) 0 (aE B 7 r.2).2
 else J4 n out 1 r.1 r.2
def z6(B:List Bool)(l:List Int)(n:Nat):Nat->List Int->ZS->List Int×ZS
 |0,out,s=>(out,s)
 |f+1,out,s=>if out.length=n\/s.e≠0 then(out,s)else z6 B l n f (J1 B l n out s).1 (J1 B l n out s).2
section
variable{b:List UInt8}{most:Int}
theorem Ou{n:Nat}{out:List Int}{t x:Int}{s:ZS}(ho:out.length<=n)(ht:1<=t):(J4 n out t x s).2.at_=s.at_/\(J4 n out t x s).2.out=s.out/\(J4 n out t x s).1.length<=n/\out.length<=(J4 n out t x s).1.length/\((J4 n out t x s).2.e=0->s.e=0/\out.length<(J4 n out t x s).1.length):=by
 unfold J4
 split
 ·rename_i h;exact⟨rfl,rfl,ho,Nat.le_refl _,fun e=>absurd e h⟩
 ·rename_i h
  have hf:=gD s 11 BY
  split
  ·exact⟨hf.1,hf.2.1,ho,Nat.le_refl _,fun e=>absurd e hf.2.2⟩
  ·refine⟨rfl,rfl,?_,?_,fun e=>⟨AT,?_⟩⟩<;>simp<;>omega
def UK{l:List Int}{n:Nat}{out:List Int}{s:ZS}(ha:s.at_<=8*b.length)(ho:out.length<=n):(J1 (ai b) l n out s).2.at_<=8*b.length/\s.at_<=(J1 (ai b) l n out s).2.at_/\(J1 (ai b) l n out s).2.out=s.out/\(J1 (ai b) l n out s).1.length<=n/\out.length<=(J1 (ai b) l n out s).1.length/\((J1 (ai b) l n out s).2.e=0->s.e=0/\out.length<(J1 (ai b) l n out s).1.length):=by
 have hs:=vg (l:=l) ha
 unfold J1
 simp only
 generalize iI (ai b) l s=r at*
 have hn:=fun k=>ep (n:=k) hs.1
 split
 ·have h2:=hn 2
  have hr:=Ou (x:=out.getLastD 0) (s:=(aE (ai b) 2 r.2).2) ho (t:=(aE (ai b) 2 r.2).1+3) AT
  have hf:=gD r.2 11 B_
  split
  ·rw[hf.1,hf.2.1]
   exact⟨hs.1,hs.2.1,hs.2.2.2.2.1,ho,Nat.le_refl _,fun e=>absurd e hf.2.2⟩
  ·refine⟨AT,AT,A_,hr.2.2.1,hr.2.2.2.1,fun e=>?_⟩
   have h5:=hr.2.2.2.2 e
   exact⟨(hs.2.2.2.2.2.1 (h2.2.2.2.2.2 h5.1).1).1,h5.2⟩
 grind [Ou,aE,ai]
def UI{l:List Int}{n:Nat}:∀(f:Nat)(out:List Int)(s:ZS),s.at_<=8*b.length->out.length<=n->n<f+out.length->(z6 (ai b) l n f out s).2.at_<=8*b.length/\s.at_<=(z6 (ai b) l n f out s).2.at_/\(z6 (ai b) l n f out s).2.out=s.out/\((z6 (ai b) l n f out s).2.e=0->s.e=0/\(z6 (ai b) l n f out s).1.length=n)
 |0,out,s,_,h1,h2=>by omega
 |f+1,out,s,ha,h1,h2=>by
  rw[z6]
  split
  ·exact⟨ha,Nat.le_refl _,rfl,fun e=>⟨e,A_⟩⟩
  ·have hT:=UK (l:=l) ha h1
   by_cases he:(J1 (ai b) l n out s).2.e=0
   ·have h5:=hT.2.2.2.2.2 he
    have ih:=UI (l:=l) f (J1 (ai b) l n out s).1 (J1 (ai b) l n out s).2 hT.1 hT.2.2.2.1 AT
    exact⟨ih.1,AT,A_,fun e=>⟨h5.1,(ih.2.2.2 e).2⟩⟩
   ·have e1:z6 (ai b) l n f (J1 (ai b) l n out s).1 (J1 (ai b) l n out s).2=J1 (ai b) l n out s:=by
     cases f with
     |zero=>rfl
     |succ f=>rw[z6,if_pos (.inr he)]
    rw[e1]
    exact⟨hT.1,hT.2.1,hT.2.2.1,fun e=>absurd e he⟩
def Md{n:Nat}{out:List Int}{t x:Int}(h1:t<=(n:Int) -out.length)(hn:n<100000):
 iter (fun((p8,t26):(List Int)×Int)=>
  if decide (t26<t)then
   a8 ((p8.length+[x].length)*8<=room)<|
   some (.inl (p8++[x],aC (t26+1)))
  else
   some (.inr p8)) (out,0)=some (out++List.replicate t.toNat x):=by
 have cg:room=140737488355328:=rfl
 refine Dr t.toNat (fun k=>out++List.replicate k x) BY AT (fun k hk=>?_) ?_
 ·simp only
  rw[if_pos A_,bI A_,List.replicate_succ',List.append_assoc]
 ·simp only
  rw[if_neg A_]
theorem Nv{out:List Int}(h:out≠[]):ix out ((out.length -1:Nat):Int)=out.getLastD 0:=by
 have hl:=List.length_pos_iff.2 h
 rw[gh AT,List.getLastD_eq_getLast?,List.getLast?_eq_getElem?,List.getElem?_eq_getElem AT];rfl
def ak4(hb:b.length<576460752303423488){l:List Int}(hl:Fo l)(K:Nat){n:Nat}(hn:n<1000){s:ZS}(ha:s.at_<=8*b.length):∃o,eX (qC b most s) ⟨K,l⟩ (n:Int)=some (o,qC b most (z6 (ai b) l n (n+1) [] s).2)/\((z6 (ai b) l n (n+1) [] s).2.e=0->o=(z6 (ai b) l n (n+1) [] s).1)/\o.length<=2000:=by
 generalize hR:z6 (ai b) l n (n+1) [] s=R
 suffices h:∃z:List Int×ak,eX (qC b most s) ⟨K,l⟩ (n:Int)=some z/\(z.2=qC b most R.2/\(R.2.e=0->z.1=R.1)/\z.1.length<=2000) by
  obtain⟨⟨o,S⟩,h1,h2,h3⟩:=h
  simp only at h2 h3
  subst h2
  exact⟨o,h1,h3⟩
 unfold eX
 refine eh (fun(z:List Int×ak)=>∃(f:Nat)(out:List Int)(t:ZS),z.2=qC b most t/\t.at_<=8*b.length/\out.length<=n/\n<f+out.length/\z6 (ai b) l n f out t=R/\(t.e=0->z.1=out)/\z.1.length<=2000) (fun z:List Int×ak=>if z.2.bk.e_=0 then n -z.1.length+1 else 0) (fun z:List Int×ak=>z.2=qC b most R.2/\(R.2.e=0->z.1=R.1)/\z.1.length<=2000) ⟨n+1,[],s,rfl,ha,Nat.zero_le _,BY,hR,fun _=>rfl,BY⟩ (by simp only;split<;>simp<;>omega) ?_
 rintro⟨o,S⟩ ⟨f,out,t,rfl,hta,ho,hf,hz,T8,hol⟩
 simp only at T8 hol⊢
 obtain⟨f,rfl⟩:∃g,f=g+1:=⟨f -1,AT⟩
 by_cases he:t.e=0
 ·have:=T8 he;subst this
  by_cases QZ:o.length=n
  ·rw[z6,if_pos (.inl QZ)]at hz
   subst hz
   rw[if_pos (by simp[QZ])]
   exact⟨_,rfl,rfl,fun _=>rfl,hol⟩
  ·rw[z6,if_neg (by rintro(h|h);exact QZ h;exact h he)]at hz
   rw[if_neg (by simp[he];omega)]
   have hT:=UK (l:=l) hta ho
   have hs:=vg (b:=b) (l:=l) hta
   refine kS (fun z=>z=((iI (ai b) l t).1,HG b (iI (ai b) l t).2)) ⟨_,adg hb hl K hta,rfl⟩ ?_
   rintro _ rfl
   have hnn:=fun k=>ep (b:=b) (n:=k) hs.1
   have hN:=fun(k:Nat)(h:k<=31)=>Oa (b:=b) hb h hs.1
   have K8:∀(w:ZS)(o2:List Int),w.e≠0->∀g,z6 (ai b) l n g o2 w=(o2,w):=fun w o2 hw g=>by
    cases g with
    |zero=>rfl
    |succ g=>rw[z6,if_pos (.inr hw)]
   have go:∀(x tm:Int)(u:ZS),1<=tm->tm<300->u.at_<=8*b.length->u.out=t.out->J4 n o tm x u=J1 (ai b) l n o t->
    ∃z,(if decide (tm>aC ((n:Int) -(o.length:Int)))then
     aZ (az (qC b most u).bk 11) fun r20=>
     some (.inl (o,(ak.mk r20 (qC b most u).ie (qC b most u).fT)))
    else
     jn (
      iter (fun((p8,t26):(List Int)×Int)=>
       if decide (t26<tm)then
        a8 ((p8.length+[x].length)*8<=room)<|
        some (.inl (p8++[x],aC (t26+1)))
       else
        some (.inr p8)) (o,0)) fun(Hs:(List Int))=>
     some (.inl (Hs,qC b most u)):Option ((List Int×ak)⊕(List Int×ak)))=some z/\(match z with
      |.inl z=>(∃(f:Nat)(out:List Int)(t:ZS),z.2=qC b most t/\t.at_<=8*b.length/\out.length<=n/\n<f+out.length/\z6 (ai b) l n f out t=R/\(t.e=0->z.1=out)/\z.1.length<=2000)/\(if z.2.bk.e_=0 then n -z.1.length+1 else 0)<n -o.length+1
      |.inr z=>z.2=qC b most R.2/\(R.2.e=0->z.1=R.1)/\z.1.length<=2000):=by
    intro x tm u h1 h2 hua huo hru
    have hr:=Ou (x:=x) (s:=u) ho h1
    rw[ao AT AT]
    rw[<-hru]at hz hT
    by_cases hue:u.e=0
    ·unfold J4 at hz hr hT
     rw[if_neg (c:=u.e≠0) (by simp[hue])]at hz hr hT
     by_cases htm:tm>(n:Int) -(o.length:Int)
     ·rw[if_pos htm]at hz hr hT
      rw[if_pos Xa9]
      refine⟨_,ah (sK u 11) rfl,⟨n+1,o,u.fail 11,?_,hT.1,ho,AT,?_,fun _=>rfl,hol⟩,?_⟩
      ·have:=(gD u 11 B_).2.1
       show ak.mk (HG b (u.fail 11)) u.out most=_
       rw[<-this]
      ·have hfe:=(gD u 11 B_).2.2
       rw[K8 _ _ hfe]at hz⊢
       exact hz
      grind
     ·rw[if_neg htm]at hz hr hT
      rw[if_neg Xa9]
      have hle:(o++List.replicate tm.toNat x).length=o.length+tm.toNat:=BY
      refine⟨_,eJ (Md (n:=n) AT AT) rfl,⟨f,o++List.replicate tm.toNat x,u,rfl,hua,Xb0,Xb0,hz,fun _=>rfl,Xb0⟩,?_⟩
      simp only
      rw[if_pos hue,hle];omega
    ·unfold J4 at hz hr hT
     rw[if_pos hue]at hz hr hT
     rw[K8 _ _ hue]at hz
     by_cases htm:tm>(n:Int) -(o.length:Int)
     ·rw[if_pos Xa9]
      refine⟨_,ah (sK u 11) rfl,⟨n+1,o,u,?_,hua,ho,AT,by rw[K8 _ _ hue];exact hz,fun h=>absurd h hue,hol⟩,?_⟩
      ·show ak.mk (HG b (u.fail 11)) u.out most=_
       unfold ZS.fail
       rw[if_neg hue]
      ·simp only
       have:(u.fail 11).e≠0:=(gD u 11 B_).2.2
       rw[if_neg this];omega
     ·rw[if_neg Xa9]
      have hle:(o++List.replicate tm.toNat x).length=o.length+tm.toNat:=BY
      refine⟨_,eJ (Md (n:=n) AT AT) rfl,⟨n+1,o,u,rfl,hua,ho,AT,by rw[K8 _ _ hue];exact hz,fun h=>absurd h hue,Xb0⟩,?_⟩
      simp only
      rw[if_neg hue];omega
   have hl:J1 (ai b) l n o t=(if(iI (ai b) l t).1=16 then(if o=[]then(o,(iI (ai b) l t).2.fail 11)else J4 n o ((aE (ai b) 2 (iI (ai b) l t).2).1+3) (o.getLastD 0) (aE (ai b) 2 (iI (ai b) l t).2).2)
    else if(iI (ai b) l t).1=17 then J4 n o ((aE (ai b) 3 (iI (ai b) l t).2).1+3) 0 (aE (ai b) 3 (iI (ai b) l t).2).2
    else if(iI (ai b) l t).1=18 then J4 n o ((aE (ai b) 7 (iI (ai b) l t).2).1+11) 0 (aE (ai b) 7 (iI (ai b) l t).2).2
    else J4 n o 1 (iI (ai b) l t).1 (iI (ai b) l t).2):=rfl
   have hto:t.out=(iI (ai b) l t).2.out:=hs.2.2.2.2.1.symm
   clear hR
   rw[if_pos he]
   simp only[hto]
   generalize iI (ai b) l t=r at*
   have p2:(2:Int)^2=4:=B_
   have p3:(2:Int)^3=8:=B_
   have p7:(2:Int)^7=128:=B_
   by_cases h16:r.1=16
   ·rw[if_pos h16]at hl
    rw[h16]
    rw[if_pos D_]
    by_cases ho0:o=[]
    ·subst ho0
     rw[if_pos rfl]at hl
     rw[if_pos D_]
     refine rT (fun z=>z=.inr (qC b most (r.2.fail 11))) ⟨_,ah (sK r.2 11) (by rw[<-(gD r.2 11 B_).2.1]),rfl⟩ ?_
     rintro _ rfl
     rw[hl]at hz
     have hfe:=(gD r.2 11 B_)
     refine⟨_,rfl,⟨n+1,[],r.2.fail 11,rfl,by rw[hfe.1];exact hs.1,Nat.zero_le _,BY,by rw[K8 _ _ hfe.2.2]at hz⊢;exact hz,fun _=>rfl,hol⟩,?_⟩
     simp only
     rw[if_neg hfe.2.2];omega
    ·rw[if_neg ho0]at hl
     have acf:0<o.length:=List.length_pos_iff.2 ho0
     rw[if_neg (by simp;exact ho0)]
     rw[ao (n:=(o.length:Int) -1) AT AT,bI AT]
     have h2:=hnn 2
     rw[p2]at h2
     refine rT (fun z=>z=.inl (o.getLastD 0,(aE (ai b) 2 r.2).1+3,qC b most (aE (ai b) 2 r.2).2)) ⟨_,ah (hN 2 B_) ?_,rfl⟩ ?_
     ·rw[show((o.length:Int) -1)=((o.length -1:Nat):Int) by omega,Nv ho0]
      simp only
      rw[ao AT AT,<-h2.2.2.2.2.1]
     ·rintro _ rfl
      obtain⟨z,hz1,hz2⟩:=go _ _ _ AT AT h2.1 Xd6 hl.symm
      exact⟨z,hz1,Xb1⟩
   ·rw[if_neg h16]at hl
    rw[if_neg (by simpa using h16)]
    by_cases h17:r.1=17
    ·rw[if_pos h17]at hl
     rw[if_pos (by simpa using h17)]
     have h2:=hnn 3
     rw[p3]at h2
     refine rT (fun z=>z=.inl (0,(aE (ai b) 3 r.2).1+3,qC b most (aE (ai b) 3 r.2).2)) ⟨_,ah (hN 3 B_) ?_,rfl⟩ ?_
     ·simp only
      rw[ao AT AT,<-h2.2.2.2.2.1]
     ·rintro _ rfl
      obtain⟨z,hz1,hz2⟩:=go _ _ _ AT AT h2.1 Xd6 hl.symm
      exact⟨z,hz1,Xb1⟩
    ·rw[if_neg h17]at hl
     rw[if_neg (by simpa using h17)]
     by_cases h18:r.1=18
     ·rw[if_pos h18]at hl
      rw[if_pos (by simpa using h18)]
      have h2:=hnn 7
      rw[p7]at h2
      refine rT (fun z=>z=.inl (0,(aE (ai b) 7 r.2).1+11,qC b most (aE (ai b) 7 r.2).2)) ⟨_,ah (hN 7 B_) ?_,rfl⟩ ?_
      ·simp only
       rw[ao AT AT,<-h2.2.2.2.2.1]
      ·rintro _ rfl
       obtain⟨z,hz1,hz2⟩:=go _ _ _ AT AT h2.1 Xd6 hl.symm
       exact⟨z,hz1,Xb1⟩
     ·rw[if_neg h18]at hl
      rw[if_neg (by simpa using h18)]
      refine rT (fun z=>z=.inl (r.1,1,qC b most r.2)) ⟨_,rfl,rfl⟩ ?_
      rintro _ rfl
      obtain⟨z,hz1,hz2⟩:=go _ _ _ AT AT hs.1 hto.symm hl.symm
      exact⟨z,hz1,Xb1⟩
 ·rw[z6,if_pos (.inr he)]at hz
  subst hz
  rw[if_pos y_]
  exact⟨_,rfl,rfl,fun h=>absurd h he,hol⟩
theorem UJ{l:List Int}{n:Nat}{w:ZS}(hw:w.e≠0)(o2:List Int)(g:Nat):z6 (ai b) l n g o2 w=(o2,w):=by
 cases g with
 |zero=>rfl
 |succ g=>rw[z6,if_pos (.inr hw)]
end
def tf:List UInt8->Nat->Nat->Nat×Nat
 |[],a,b=>(a,b)
 |x::l,a,b=>tf l ((a+x.toNat)% 65521) ((b+(a+x.toNat)% 65521)% 65521)
theorem B9:∀(l m:List UInt8)(a b:Nat),tf (l++m) a b=tf m (tf l a b).1 (tf l a b).2
 |[],_,_,_=>rfl
 |x::l,m,a,b=>by rw[List.cons_append,tf,tf,B9 l m]
def MS:∀(l:List UInt8)(a b:Nat),a<65521->b<65521->(tf l a b).1<65521/\(tf l a b).2<65521
 |[],_,_,h1,h2=>⟨h1,h2⟩
 |x::l,a,b,_,_=>by exact MS l _ _ (Nat.mod_lt _ BY) (Nat.mod_lt _ BY)
def OG(l:List UInt8):UInt32:=eu (((65536*(tf l 1 0).2+(tf l 1 0).1:Nat):Nat):Int)
structure InB(a0 b0 k A B:Nat)(l:List UInt8):Prop where
 hA:A<=a0+255*k
 hB:2*B<=2*b0+2*(k*a0)+255*(k*(k+1))
 eA:A % 65521=(tf l a0 b0).1
 eB:B % 65521=(tf l a0 b0).2
theorem InB.step{a0 b0 k A B:Nat}{l:List UInt8}(h:InB a0 b0 k A B l)(x:UInt8):InB a0 b0 (k+1) (A+x.toNat) (B+(A+x.toNat)) (l++[x]):=by
 have hx:=x.toNat_lt
 have h1:=h.hA
 have h2:=h.hB
 have e1:=Nat.succ_mul k a0
 have e2:(k+1)*(k+1+1)=k*(k+1)+2*(k+1):=A_
 refine⟨AT,?_,?_,?_⟩
 ·rw[e1]
  omega
 ·rw[B9]
  show _=((tf l a0 b0).1+x.toNat)% 65521
  rw[<-h.eA];omega
 ·rw[B9]
  show _=((tf l a0 b0).2+((tf l a0 b0).1+x.toNat)% 65521)% 65521
  rw[<-h.eA,<-h.eB];omega
def InB.lt{a0 b0 k A B:Nat}{l:List UInt8}(h:InB a0 b0 k A B l)(hk:k<=5552)(ha:a0<65521)(hb:b0<65521):A<4294967296/\B<4294967296:=by
 have h1:=h.hA
 have h2:=h.hB
 have e1:k*a0<=5552*65520:=Nat.mul_le_mul hk AT
 have e2:k*(k+1)<=5552*5553:=Nat.mul_le_mul hk AT
 omega
theorem ad5(x:UInt8):((eu (x.toNat:Int)).toNat:Int)=(x.toNat:Int):=by
 have:=x.toNat_lt
 rw[gL _ AT]
def adb(p:List UInt8){n:Nat}(hn:n<=5552)(hp:p.length=n){a b:UInt32}(ha:a.toNat<65521)(hb:b.toNat<65521)(N:Int):∃z:UInt32×UInt32×Int,iter (fun((a15,b16,n17,t18,t19,t20):UInt32×UInt32×Int×(List UInt8)×Int×Int)=>
 if decide (t20<t19)then
  a8 (0<=t20/\t20<t18.length)<|
  some (.inl (eu ((a15.toNat:Int)+((eu (((ix t18 t20).toNat:Int))).toNat:Int)),eu ((b16.toNat:Int)+((eu ((a15.toNat:Int)+((eu (((ix t18 t20).toNat:Int))).toNat:Int))).toNat:Int)),n17,t18,t19,aC (t20+1)))
 else
  some (.inr (a15,b16,n17))) (a,b,N,p,(p.length:Int),0)=some z/\(z.2.2=N/\z.1.toNat % 65521=(tf p a.toNat b.toNat).1/\z.2.1.toNat % 65521=(tf p a.toNat b.toNat).2):=by
 refine eh (fun(s:UInt32×UInt32×Int×(List UInt8)×Int×Int)=>∃(k:Nat)(A B:UInt32),k<=n/\s=(A,B,N,p,(p.length:Int),(k:Int))/\InB a.toNat b.toNat k A.toNat B.toNat (p.take k)) (fun s=>(n -s.2.2.2.2.2).toNat) _ ⟨0,a,b,Nat.zero_le _,rfl,⟨AT,AT,Nat.mod_eq_of_lt ha,Nat.mod_eq_of_lt hb⟩⟩ C_ ?_
 rintro _ ⟨k,A,B,hk,rfl,h⟩
 simp only
 by_cases hlt:k<n
 ·have Q2:k<p.length:=AT
  have hix:ix p (k:Int)=p[k]:=gh Q2
  have h2:=h.step p[k]
  rw[<-List.take_succ_eq_append_getElem Q2]at h2
  have hl:=h2.lt AT ha hb
  rw[if_pos C_,bI AT,hix,ad5,ao (n:=(k:Int)+1) AT AT]
  have e1:(eu ((A.toNat:Int)+(p[k].toNat:Int))).toNat=A.toNat+p[k].toNat:=by rw[show(A.toNat:Int)+(p[k].toNat:Int)=((A.toNat+p[k].toNat:Nat):Int) by omega,gL _ AT]
  have e2:(eu ((B.toNat:Int)+((eu ((A.toNat:Int)+(p[k].toNat:Int))).toNat:Int))).toNat=B.toNat+(A.toNat+p[k].toNat):=by rw[e1,show(B.toNat:Int)+((A.toNat+p[k].toNat:Nat):Int)=((B.toNat+(A.toNat+p[k].toNat):Nat):Int) by omega,gL _ AT]
  grind
 ·rw[List.take_of_length_le AT]at h
  rw[if_neg C_]
  exact⟨_,rfl,rfl,h.eA,h.eB⟩
theorem Yj(x:UInt32):(eu (Int.tmod (x.toNat:Int) 65521)).toNat=x.toNat % 65521:=by rw[Int.tmod_eq_emod_of_nonneg BY,show x.toNat % 65521=((x.toNat % 65521:Nat):Int) by omega,gL _ AT]
def ada(l:List UInt8)(hl:l.length<576460752303423488):qF l=some (OG l):=by
 unfold qF
 have hz:=MS l 1 0 B_ B_
 refine ah (a:=eO.mk (eu ((((tf l 1 0).1+65520)% 65521:Nat):Int)) (eu ((tf l 1 0).2:Nat))) ?_ ?_
 ·suffices h:∃x,fq (eO.mk 0 0) l=some x/\x=eO.mk (eu ((((tf l 1 0).1+65520)% 65521:Nat):Int)) (eu ((tf l 1 0).2:Nat)) by
   obtain⟨x,h1,rfl⟩:=h;exact h1
  unfold fq
  refine Pj (fun z=>z.1.toNat=(tf l 1 0).1/\z.2.toNat=(tf l 1 0).2) (eh (fun(s:(List UInt8)×UInt32×UInt32)=>∃k:Nat,k<=l.length/\s.1=l.drop k/\s.2.1.toNat=(tf (l.take k) 1 0).1/\s.2.2.toNat=(tf (l.take k) 1 0).2) (fun s=>s.1.length) _ ⟨0,Nat.zero_le _,rfl,rfl,rfl⟩ C_ ?_) ?_
  ·rintro⟨p,a,b⟩ ⟨k,hk,rfl,ha,hb⟩
   simp only at ha hb⊢
   have hlt:=MS (l.take k) 1 0 B_ B_
   by_cases hp:k<l.length
   ·have hpl:(l.drop k).length=l.length -k:=List.length_drop ..
    rw[if_pos C_]
    have agB:part (l.drop k) 0 (min ((l.drop k).length:Int) 5552)=(l.drop k).take (min (l.length -k) 5552):=by
     unfold part
     rw[show(min ((l.drop k).length:Int) 5552 -0).toNat=min (l.length -k) 5552 by omega];rfl
    have hB:=adb ((l.drop k).take (min (l.length -k) 5552)) (n:=min (l.length -k) 5552) AT M_ (a:=a) (b:=b) AT AT (min ((l.drop k).length:Int) 5552)
    rw[ha,hb,<-B9,show l.take k++(l.drop k).take (min (l.length -k) 5552)=l.take (k+min (l.length -k) 5552) by rw[List.take_add]]at hB
    rw[bI AT,agB]
    refine Pj _ hB ?_
    rintro⟨A,B,N⟩ ⟨rfl,h2,h3⟩
    simp only at h2 h3⊢
    rw[bI AT]
    refine⟨_,rfl,⟨k+min (l.length -k) 5552,AT,?_,by rw[Yj];exact h2,by rw[Yj];exact h3⟩,?_⟩
    ·unfold part
     simp only
     rw[List.take_of_length_le N_,List.drop_drop]
     congr 1;omega
    grind [part,List.take_of_length_le,List.length_drop]
   ·rw[if_neg C_]
    rw[List.take_of_length_le AT]at ha hb
    exact⟨_,rfl,ha,hb⟩
  ·rintro⟨A,B⟩ ⟨h2,h3⟩
   simp only at h2 h3⊢
   refine⟨_,rfl,?_⟩
   have e1:(eu ((A.toNat:Int)+65521)).toNat=(tf l 1 0).1+65521:=by rw[h2,show(((tf l 1 0).1:Nat):Int)+65521=(((tf l 1 0).1+65521:Nat):Int) by omega,gL _ AT]
   have e2:(eu (((eu ((A.toNat:Int)+65521)).toNat:Int) -1)).toNat=(tf l 1 0).1+65520:=by rw[e1,show((((tf l 1 0).1+65521:Nat)):Int) -1=(((tf l 1 0).1+65520:Nat):Int) by omega,gL _ AT]
   grind [eu,Int.tmod,tf,UInt32.toNat_inj,Yj,gL]
 ·unfold eZ OG
  rw[aL]
  generalize(tf l 1 0).1=a at*
  generalize(tf l 1 0).2=b at*
  have e1:(eu (Int.tmod ((eu (((eu ((((a+65520)% 65521:Nat)):Int)).toNat:Int)+1)).toNat:Int) 65521)).toNat=a:=by rw[Yj,gL _ AT,show((((a+65520)% 65521:Nat)):Int)+1=(((a+65520)% 65521+1:Nat):Int) by omega,gL _ AT];omega
  have e2:(eu (lz .u32 ((eu (b:Int)).toNat:Int) 16)).toNat=65536*b:=by
   rw[gL _ AT]
   have:lz .u32 (b:Int) 16=((65536*b:Nat):Int):=by
    show(b:Int)*65536=_
    omega
   rw[this,gL _ AT]
  simp only[e1,e2]
  have e3:J3 .u32 ((65536*b:Nat):Int) (a:Int)=((65536*b+a:Nat):Int):=by
   unfold J3
   show(((BitVec.ofNat 32 (65536*b)|||BitVec.ofNat 32 a).toNat:Nat):Int)=_
   rw[BitVec.toNat_or,BitVec.toNat_ofNat,BitVec.toNat_ofNat,Nat.mod_eq_of_lt AT,Nat.mod_eq_of_lt AT]
   have:=Nat.two_pow_add_eq_or_of_lt (i:=16) (b:=a) AT b
   rw[<-show 65536*b+a=65536*b |||a from this]
  rw[e3]
def adB(x:UInt32):List UInt8:=[UInt8.ofNat (x.toNat/16777216),UInt8.ofNat (x.toNat/65536),UInt8.ofNat (x.toNat/256),UInt8.ofNat x.toNat]
theorem JS(n:Nat):jt (n:Int)=UInt8.ofNat n:=by
 unfold jt
 rw[EP _ _ rfl]
 have:(2^IntKind.u8.bits:Int)=256:=D_
 rw[this]
 refine UInt8.toNat_inj.1 ?_
 rw[UInt8.toNat_ofNat',UInt8.toNat_ofNat']
 omega
def adP(x:UInt32)(k:Nat)(hk:k<32):(eu (lA .u32 (x.toNat:Int) (k:Int))).toNat=x.toNat/2^k:=by
 have hx:=x.toNat_lt
 have:lA .u32 x.toNat k=((x.toNat/2^k:Nat)):=by
  unfold lA
  rw[Int.toNat_natCast,Nat.min_eq_left (by show k<=32;omega)]
  rw[show 2^k=((2^k:Nat):Int) by simp,Int.fdiv_eq_ediv_of_nonneg _ (Int.natCast_nonneg _)];rfl
 have hle:=Nat.div_le_self x.toNat (2^k)
 rw[this,gL _ AT]
def ade(x:UInt32):mT x=some (adB x):=by
 unfold mT adB
 have h24:=adP x 24 BY
 have h16:=adP x 16 BY
 have h8:=adP x 8 BY
 rw[show((24:Nat):Int)=24 from rfl]at h24
 rw[show((16:Nat):Int)=16 from rfl]at h16
 rw[show((8:Nat):Int)=8 from rfl]at h8
 rw[h24,h16,h8,JS,JS,JS,JS]
def TV(b:List UInt8):Int:=match b with
 |c::d::_=>if c.toNat % 16=8/\c.toNat/16<=7/\d.toNat/32 % 2=0/\(256*c.toNat+d.toNat)% 31=0 then 0 else 11
 |_=>10
theorem aca(c d:UInt8):aC (J3 .i64 (aC (lz .i64 (aC (c.toNat:Int)) 8)) (aC (d.toNat:Int)))=((256*c.toNat+d.toNat:Nat):Int):=by
 have hc:=c.toNat_lt
 have hd:=d.toNat_lt
 generalize c.toNat=x at*
 generalize d.toNat=y at*
 rw[ao (n:=x) BY AT]
 have:lz .i64 x 8=((256*x:Nat)):=by
  show(x:Int)*256=_
  omega
 have e3:J3 .i64 ((256*x:Nat)) y=((256*x+y:Nat)):=by
  show(((BitVec.ofNat 64 (256*x)|||BitVec.ofNat 64 y).toNat):Int)=_
  rw[BitVec.toNat_or,BitVec.toNat_ofNat,BitVec.toNat_ofNat,Nat.mod_eq_of_lt AT,Nat.mod_eq_of_lt AT]
  have:=Nat.two_pow_add_eq_or_of_lt AT x
  rw[<-this]
 grind [ao]
def XF(p q r:Bool)(P Q R:Prop)[Decidable P][Decidable Q][Decidable R](n:Nat)(hp:p=decide (¬P))(hq:q=decide (¬Q))(hr:r=decide (¬R)):(if(((p||q)||r)||((Int.tmod (n:Int) 31)!=0))=true then some (11:Int)else some 0)=some (if P/\Q/\R/\n % 31=0 then 0 else 11):=A_
def ahu(b:List UInt8):pL b=some (TV b):=by
 unfold pL
 match b with
 |[]=>rfl
 |[c]=>rfl
 |c::d::l=>
  have h0:ix (c::d::l) 0=c:=rfl
  have h1:ix (c::d::l) 1=d:=rfl
  have hp:=of_decide_eq_true (nE (fun c=>decide ((((jt (ql .u8 c.toNat 15)).toNat:Int)!=8)=decide (¬c.toNat % 16=8))) x_ c)
  have hq:=of_decide_eq_true (nE (fun c=>decide (decide (((jt (lA .u8 c.toNat 4)).toNat:Int)>7)=decide (¬c.toNat/16<=7))) x_ c)
  have hr:=of_decide_eq_true (nE (fun d=>decide ((((jt (ql .u8 d.toNat 32)).toNat:Int)!=0)=decide (¬d.toNat/32 % 2=0))) x_ d)
  rw[bI C_,bI C_,bI C_,bI C_,bI C_,h0,h1,aca]
  exact XF _ _ _ _ _ _ _ hp hq hr
def sk:List Int:=[16,17,18,0,8,7,9,6,10,5,11,4,12,3,13,2,14,1,15]
def nC:List Int:=(List.range 288).map fun k=>if k<144\/k>279 then 8 else if k<256 then 9 else 7
def nz:List Int:=List.replicate 30 5
def LP(B:List Bool):List Int->List Int->ZS->List Int×ZS
 |[],of,s=>(of,s)
 |a::r,of,s=>LP B r (JU of a (aE B 3 s).1) (aE B 3 s).2
def kR(B:List Bool)(s:ZS):Int×Int×Int×ZS:=
 let n:=aE B 5 s
 let m:=aE B 5 n.2
 let k:=aE B 4 m.2
 (n.1+257,m.1+1,k.1+4,if n.1+257>286\/m.1+1>30 then k.2.fail 11 else k.2)
def pO(B:List Bool)(s:ZS):List Int×ZS:=
 let h:=kR B s
 let o:=LP B (sk.take h.2.2.1.toNat) (List.replicate 19 0) h.2.2.2
 z6 B o.1 (h.1+h.2.1).toNat ((h.1+h.2.1).toNat+1) [] (lG o.1 o.2)
def ny(B:List Bool)(s:ZS):List Int×List Int×ZS:=
 let l:=pO B s
 let n:=(kR B s).1.toNat
 if l.2.e≠0 then([],[],l.2)else(l.1.take n,l.1.drop n,lG (l.1.drop n) (lG (l.1.take n) (if l.1.getD 256 0=0 then l.2.fail 11 else l.2)))
def KH(b:List UInt8)(most:Int)(s:ZS):ZS:=vy (ai b) most (ny (ai b) s).1 (ny (ai b) s).2.1 (8*b.length+2) (ny (ai b) s).2.2
def zr(b:List UInt8)(most:Int)(s:ZS):Bool×ZS:=
 let l:=aE (ai b) 1 s
 let k:=aE (ai b) 2 l.2
 let z:=if k.2.e≠0 then k.2 else if k.1=0 then EB (ai b) most k.2 else if k.1=1 then vy (ai b) most nC nz (8*b.length+2) k.2 else if k.1=2 then KH b most k.2 else k.2.fail 11
 (decide (l.1=1)||decide (z.e≠0),z)
def zM(b:List UInt8)(most:Int):Nat->ZS->ZS
 |0,s=>s
 |f+1,s=>if(zr b most s).1 then(zr b most s).2 else zM b most f (zr b most s).2
def rW(b:List UInt8)(most:Int):List UInt8×Int×Int:=
 if most<0\/most>16777216 then([],0,2)else
  let z:=zM b most (8*b.length+2) ⟨0,0,[]⟩
  if z.e≠0 then([],0,z.e)else(z.out,(((z.at_+7)/8:Nat):Int),0)
def s9(b:List UInt8)(most:Int):List UInt8×Int×Int:=
 if most<0\/most>16777216 then([],0,2)else if TV b≠0 then([],0,TV b)else
  let r:=rW (b.drop 2) most
  if r.2.2≠0 then([],0,r.2.2)else if(b.length:Int)<r.2.1+6 then([],0,10)else if(b.drop (r.2.1+2).toNat).take 4≠adB (OG r.1)then([],0,12)else(r.1,r.2.1+6,0)
section
variable{b:List UInt8}{most:Int}
def abW:Fo nC/\Fo nz/\0<=PI nC/\0<=PI nz:=by
 have h1:0<=PI nC:=x_
 have h2:0<=PI nz:=B_
 grind [NQ]
def N8:∀(r of:List Int)(s:ZS),s.at_<=8*b.length->(LP (ai b) r of s).2.at_<=8*b.length/\s.at_<=(LP (ai b) r of s).2.at_/\(LP (ai b) r of s).2.out=s.out/\((LP (ai b) r of s).2.e=0->s.e=0)
 |[],_,_,h=>⟨h,Nat.le_refl _,rfl,fun h=>h⟩
 |a::r,of,s,h=>by
  have hn:=ep (n:=3) h
  have ih:=N8 r (JU of a (aE (ai b) 3 s).1) (aE (ai b) 3 s).2 hn.1
  rw[LP]
  exact⟨ih.1,AT,A_,fun e=>(hn.2.2.2.2.2 (ih.2.2.2 e)).1⟩
def Pd{s:ZS}(h:s.at_<=8*b.length):(kR (ai b) s).2.2.2.at_<=8*b.length/\s.at_<=(kR (ai b) s).2.2.2.at_/\(kR (ai b) s).2.2.2.out=s.out/\257<=(kR (ai b) s).1/\(kR (ai b) s).1<=288/\1<=(kR (ai b) s).2.1/\(kR (ai b) s).2.1<=32/\4<=(kR (ai b) s).2.2.1/\(kR (ai b) s).2.2.1<=19/\((kR (ai b) s).2.2.2.e=0->s.e=0):=by grind [ep,kR,gD,aE,ai,absurd]
def Pe{s:ZS}(h:s.at_<=8*b.length):(pO (ai b) s).2.at_<=8*b.length/\s.at_<=(pO (ai b) s).2.at_/\(pO (ai b) s).2.out=s.out/\((pO (ai b) s).2.e=0->s.e=0/\((pO (ai b) s).1.length:Int)=(kR (ai b) s).1+(kR (ai b) s).2.1):=by
 have h1:=Pd h
 have h2:=N8 (sk.take (kR (ai b) s).2.2.1.toNat) (List.replicate 19 0) _ h1.1
 have h3:=x4 (LP (ai b) (sk.take (kR (ai b) s).2.2.1.toNat) (List.replicate 19 0) (kR (ai b) s).2.2.2).1 (LP (ai b) (sk.take (kR (ai b) s).2.2.1.toNat) (List.replicate 19 0) (kR (ai b) s).2.2.2).2
 have h4:=UI (l:=(LP (ai b) (sk.take (kR (ai b) s).2.2.1.toNat) (List.replicate 19 0) (kR (ai b) s).2.2.2).1) (n:=((kR (ai b) s).1+(kR (ai b) s).2.1).toNat) (((kR (ai b) s).1+(kR (ai b) s).2.1).toNat+1) [] _ (by rw[h3.1];exact h2.1) (Nat.zero_le _) BY
 grind [pO]
theorem Pf{s:ZS}(h:ZI b most s):ZI b most (ny (ai b) s).2.2/\s.at_<=(ny (ai b) s).2.2.at_/\((ny (ai b) s).2.2.e=0->s.e=0/\0<=PI (ny (ai b) s).1/\0<=PI (ny (ai b) s).2.1):=by
 have h1:=Pe h.1
 unfold ny
 simp only
 split
 ·rename_i he
  exact⟨⟨h1.1,by rw[h1.2.2.1];exact h.2⟩,h1.2.1,fun e=>absurd e he⟩
 ·rename_i he
  have he:=G_
  have hf:=gD (pO (ai b) s).2 11 BY
  have hz:∀z,z=(if(pO (ai b) s).1.getD 256 0=0 then(pO (ai b) s).2.fail 11 else(pO (ai b) s).2)->z.at_=(pO (ai b) s).2.at_/\z.out=(pO (ai b) s).2.out:=A_
  generalize hzz:(if(pO (ai b) s).1.getD 256 0=0 then(pO (ai b) s).2.fail 11 else(pO (ai b) s).2)=z at*
  have hz:=hz z rfl
  have c1:=x4 ((pO (ai b) s).1.take (kR (ai b) s).1.toNat) z
  have c2:=x4 ((pO (ai b) s).1.drop (kR (ai b) s).1.toNat) (lG ((pO (ai b) s).1.take (kR (ai b) s).1.toNat) z)
  refine⟨⟨A_,by rw[c2.2.1,c1.2.1,hz.2,h1.2.2.1];exact h.2⟩,A_,fun e=>⟨(h1.2.2.2 he).1,(c1.2.2 (c2.2.2 e).1).2,(c2.2.2 e).2⟩⟩
def Qc:∀(k:Nat)(s:ZS),ZI b most s->ZI b most (F7 (ai b) most k s)
 |0,_,h=>h
 |k+1,s,h=>by
  rw[F7]
  split
  ·exact h
  ·have hn:=ep (n:=8) h.1
   exact Qc k _ (PY ⟨hn.1,by rw[hn.2.2.2.2.1];exact h.2⟩)
theorem Zc{s:ZS}(h:ZI b most s):ZI b most (EB (ai b) most s):=by
 have hH:=JM h.1
 have h1:=ep (b:=b) (n:=16) (s:={s with at_:=(s.at_+7)/8*8}) A_
 have h2:=ep (n:=16) h1.1
 refine Qc _ _ ⟨hH.1,?_⟩
 have:(vN (ai b) s).2.out=s.out:=by
  unfold vN
  simp only
  split
  ·grind [gD]
  ·grind
 rw[this];exact h.2
def OU{s:ZS}(h:ZI b most s):ZI b most (zr b most s).2/\s.at_<=(zr b most s).2.at_/\((zr b most s).1=false->(zr b most s).2.e=0/\s.e=0/\s.at_<(zr b most s).2.at_):=by
 have h1:=ep (n:=1) h.1
 have h2:=ep (b:=b) (n:=2) h1.1
 have hk:ZI b most (aE (ai b) 2 (aE (ai b) 1 s).2).2:=⟨h2.1,by rw[h2.2.2.2.2.1,h1.2.2.2.2.1];exact h.2⟩
 unfold zr
 generalize hz:(if(aE (ai b) 2 (aE (ai b) 1 s).2).2.e≠0 then(aE (ai b) 2 (aE (ai b) 1 s).2).2 else if(aE (ai b) 2 (aE (ai b) 1 s).2).1=0 then EB (ai b) most (aE (ai b) 2 (aE (ai b) 1 s).2).2 else if(aE (ai b) 2 (aE (ai b) 1 s).2).1=1 then vy (ai b) most nC nz (8*b.length+2) (aE (ai b) 2 (aE (ai b) 1 s).2).2 else if(aE (ai b) 2 (aE (ai b) 1 s).2).1=2 then KH b most (aE (ai b) 2 (aE (ai b) 1 s).2).2 else(aE (ai b) 2 (aE (ai b) 1 s).2).2.fail 11)=z
 have hr:ZI b most z/\(aE (ai b) 2 (aE (ai b) 1 s).2).2.at_<=z.at_/\(z.e=0->(aE (ai b) 2 (aE (ai b) 1 s).2).2.e=0):=by
  subst hz
  split
  ·grind
  ·rename_i he
   have he:=G_
   split
   ·grind [Zc,Zd]
   ·split
    ·grind [Im,nC,nz]
    ·split
     ·grind [Pf,Im,ny,ai,aE,KH]
     ·have hf:=gD (aE (ai b) 2 (aE (ai b) 1 s).2).2 11 B_
      exact⟨⟨A_,by rw[hf.2.1];exact hk.2⟩,A_,fun _=>he⟩
 grind
end
end Go.AB
end
section
set_option maxRecDepth 4000
namespace Go.AB
open Go
open Go.Proofs.Tryz (prog)
attribute[-go_sem] Nat.add_zero mi cy bX cP bD bV
abbrev stC(BR:Nat)(most:Int)(z:ZS):List AV:=[.ref BR 0,.int .i64 z.e,.sl true 1 z.out.length (flat z.out),.int .i64 most]
abbrev rdZ(b:List UInt8)(z:ZS):List AV:=[.int .i64 (z.at_:Int),.bool false,.bool true,.sl false 1 b.length (flat b)]
structure qE(s0 s:ae)(b:List UInt8)(most:Int)(B BR:Nat)(z:ZS):Prop where
 n0:s0 B=none
 n1:s0 BR=none
 ne:B≠BR
 sub:Sub s0 s
 hB:s B=some (.cells (stC BR most z))
 hR:s BR=some (.cells (rdZ b z))
def qE.OI{s0 s:ae}{b:List UInt8}{most:Int}{B BR:Nat}{z:ZS}(h:qE s0 s b most B BR z)(z':ZS):qE s0 ((s.set B (.cells (stC BR most z'))).set BR (.cells (rdZ b z'))) b most B BR z':=by
 refine⟨h.n0,h.n1,h.ne,fun x o hx=>?_,by rw[af h.ne,aY],aY⟩
 have h1:x≠B:=fun e=>by subst e;rw[h.n0]at hx;cases hx
 have h2:x≠BR:=fun e=>by subst e;rw[h.n1]at hx;cases hx
 rw[af h2,af h1]
 exact h.sub _ _ hx
def qE.more{s0 s s':ae}{b:List UInt8}{most:Int}{B BR:Nat}{z:ZS}(h:qE s0 s b most B BR z)(hs:Sub s s'):qE s0 s' b most B BR z:=⟨h.n0,h.n1,h.ne,fun x o hx=>hs _ _ (h.sub x o hx),hs _ _ h.hB,hs _ _ h.hR⟩
theorem qE.off{s0 s s':ae}{b:List UInt8}{most:Int}{B BR:Nat}{z:ZS}(h:qE s0 s b most B BR z){y:Nat}(hy:s0 y=none)(h1:y≠B)(h2:y≠BR)(hs:∀x,x≠y->s' x=s x):qE s0 s' b most B BR z:=
 ⟨h.n0,h.n1,h.ne,fun x o hx=>by
   have:x≠y:=fun e=>by subst e;rw[hy]at hx;cases hx
   rw[hs x this];exact h.sub x o hx,by rw[hs B h1.symm];exact h.hB,by rw[hs BR h2.symm];exact h.hR⟩
def qE.tab{s0 s:ae}{b:List UInt8}{most:Int}{B BR:Nat}{z:ZS}(h:qE s0 s b most B BR z)(p q:SO){x:HT}(hx:iq s x):iq ((s.set B p).set BR q) x:=hx.F0 h.hB (yL _ _ _) h.hR (yK _ _ _ _) h.ne
section
variable{s0 s:ae}{b:List UInt8}{most:Int}{B BR:Nat}{z:ZS}{Q:List AV->ae->Prop}
def Ae(hS:qE s0 s b most B BR z)(hb:b.length<72057594037927936){n:Nat}(hn:n<=31)(hz:ZI b most z)(hq:∀s',qE s0 s' b most B BR (aE (ai b) n z).2->(∀x,iq s x->iq s' x)->(∀y,y≠B->y≠BR->s' y=s y)->Q [.int .i64 (aE (ai b) n z).1] s'):FN prog 237 [.ref B 0,.int .i64 (n:Int)] s Q:=by
 have hl:=ep (b:=b) (n:=n) hz.1
 refine bR (s_0:=HG b z) (n_1:=(n:Int)) (preB0:=[]) (postB0:=[.sl true 1 z.out.length (flat z.out),.int .i64 most]) hS.hB hS.hR rfl hS.ne ⟨_,Oa AT hn hz.1,?_⟩
 have ho:z.out=(aE (ai b) n z).2.out:=hl.2.2.2.2.1.symm
 rw[ho]
 exact hq _ (hS.OI _) (fun x hx=>hS.tab _ _ hx) fun y h1 h2=>(af h2).trans (af h1)
def ya(hS:qE s0 s b most B BR z)(e:Int)(hq:∀s',qE s0 s' b most B BR (z.fail e)->(∀x,iq s x->iq s' x)->(∀y,y≠B->y≠BR->s' y=s y)->Q [] s'):FN prog 243 [.ref B 0,.int .i64 e] s Q:=by
 refine bH (s_0:=HG b z) (e_1:=e) (preB0:=[]) (postB0:=[.sl true 1 z.out.length (flat z.out),.int .i64 most]) hS.hB hS.hR rfl hS.ne ⟨_,sK z e,?_⟩
 have ho:z.out=(z.fail e).out:=by unfold ZS.fail;split<;>rfl
 rw[ho]
 exact hq _ (hS.OI _) (fun x hx=>hS.tab _ _ hx) fun y h1 h2=>(af h2).trans (af h1)
def RW(hS:qE s0 s b most B BR z)(hb:b.length<72057594037927936)(hM:most<=16777216)(hz:ZI b most z)(hq:∀s',qE s0 s' b most B BR (EB (ai b) most z)->Q [] s'):FN prog 238 [.ref B 0] s Q:=qW (s_0:=qC b most z) hS.hB hS.hR hS.ne ⟨_,Yz AT hM hz.1,hq _ (hS.OI _)⟩
def Ky(hS:qE s0 s b most B BR z)(hb:b.length<72057594037927936)(hM:most<=16777216)(hz:ZI b most z){t d:HT}(ht:iq s t)(hd:iq s d)(hq:∀s',qE s0 s' b most B BR (vy (ai b) most t.lens d.lens (8*b.length+2) z)->Q [] s'):FN prog 240 [.ref B 0,.ref t.B 0,.ref d.B 0] s Q:=rX (s_0:=qC b most z) hS.hB hS.hR hS.ne ht hd ⟨_,adf AT hM ht.1 hd.1 t.B d.B hz,hq _ (hS.OI _)⟩
def X9(hS:qE s0 s b most B BR z)(hb:b.length<72057594037927936)(hz:ZI b most z){t:HT}(ht:iq s t){n:Nat}(hn:n<1000)(hq:∀s' o,qE s0 s' b most B BR (z6 (ai b) t.lens n (n+1) [] z).2->((z6 (ai b) t.lens n (n+1) [] z).2.e=0->o=(z6 (ai b) t.lens n (n+1) [] z).1)->Q [.sl true 1 o.length (flat o)] s'):FN prog 273 [.ref B 0,.ref t.B 0,.int .i64 (n:Int)] s Q:=by
 obtain⟨o,h1,h2,_⟩:=ak4 (b:=b) (most:=most) AT ht.1 t.B hn hz.1
 exact qp (s_0:=qC b most z) hS.hB hS.hR hS.ne ht ⟨_,h1,hq _ o (hS.OI _) h2⟩
end
set_option maxRecDepth 16000
def GQ:IC:=dec 0x149998c2ffec91db4cd74a34b9ce9789ed3e386c7cd23b460cead28ec022b5b4473a
def Q4:ey prog 236 8 [⟨2,true,none⟩] GQ=true:=By
def Ii(l:List UInt8)(s:ae)(rs:List AV)(s':ae):Prop:=(∃b cap sp,rs=[.arr b 0 l.length cap]/\s b=none/\0<cap/\l.length<=cap/\(flat l++sp).length=cap*1/\views (flat l++sp)=flat l++sp/\s'=s.set b (.cells (flat l++sp)))\/(l=[]/\s'=s/\∃b,rs=[.arr b 0 0 0])
def M6{o:Bool}{l:List UInt8}{s:ae}(hr:l.length*1<=room):FN prog 236 [.sl o 1 l.length (flat l)] s (Ii l s):=by
 refine FN.j8 (FO Q4 rfl rfl ?_)
 generalize hQ:(fun rs s'=>∃s2,Sub s2 s'/\Ii l s rs s2)=Q
 have hq:∀rs s' s2,Sub s2 s'->Ii l s rs s2->Q rs s':=fun rs s' s2 h1 h2=>Xa6
 rw[GQ]
 refine Xf9 ?_
 refine Xe4 ?_
 intro v hv
 refine⟨fun h=>hq _ _ s (Sub.refl s) (.inr ⟨List.eq_nil_of_length_eq_zero (hv J_),rfl,0,rfl⟩),fun _ b1 hb1=>?_⟩
 rw[gn,aF]
 by_cases hl:l=[]
 ·subst hl
  refine mL rfl rfl (Nat.le_refl 0) ?_
  refine Xe4 ?_
  exact hq _ _ s ((Sub.refl s).set hb1) (.inr ⟨rfl,rfl,_,rfl⟩)
 ·have hn:0<l.length:=List.length_pos_iff.2 hl
  refine eo rfl rfl AT s_ fun b2 cap hb2 fh=>?_
  rw[Nat.zero_add]at fh
  have hz:(List.replicate (cap -(0+l.length)) [.int .u8 0]).flatten=flat (List.replicate (cap -l.length) (0:UInt8)):=Xa7
  rw[hz]
  simp -implicitDefEqProofs only[go_sem,seval,Nat.zero_add,List.nil_append]
  have Nw:s b2=none:=((Sub.refl s).set hb1).none hb2
  refine hq _ _ _ (Sub.F0 ((Sub.refl s).set hb1)) (.inl ⟨b2,cap,_,rfl,Nw,AT,fh,?_,?_,rfl⟩)
  ·rw[List.length_append,au,au,List.length_replicate]
   show l.length*1+(cap -l.length)*1=cap*1
   omega
  ·rw[lX,aF,aF]
def QE{o:Bool}{l:List UInt8}{s:ae}(hr:l.length*1<=room):FE prog 236 [.sl o 1 l.length (flat l)] s [.sl true 1 l.length (flat l)] s:=
 FN.xy (au l) (aF l) ⟨rfl,rfl⟩ ((M6 hr).mono fun rs s' h=>by
  rcases h with⟨b,cap,sp,h1,h2,h3,h4,h5,h6,h7⟩|⟨h1,h2,h3⟩
  ·exact .inl ⟨b,cap,sp,h1,t_,h3,h4,h5,u_⟩
  ·subst h1;exact .inr ⟨rfl,rfl,w_,h3⟩)
def YQ{b:List UInt8}{high o:Bool}{s:ae}{Q:List AV->ae->Prop}(hr:b.length*1<=room)(hq:∀B,s B=none->Q [.ref B 0] (s.set B (.cells [.int .i64 0,.bool high,.bool true,.sl false 1 b.length (flat b)]))):FN prog 206 [.sl o 1 b.length (flat b),.bool high] s Q:=by
 refine FS 11 [⟨4,true,none⟩] 0x85975d12c63fea476ed30ce8244b74a98ebbec0d5d52b95b903477e1703fd504883fa ?_
 refine Xe7 ?_
 refine FE.app (QE hr) ?_
 refine Xe7 ?_
 exact hq
section
variable{s0 s:ae}{b:List UInt8}{most:Int}{B BR:Nat}{z:ZS}{Q:List AV->ae->Prop}
def rB(hS:qE s0 s b most B BR z){l:List Int}{ow:Bool}{n:Nat}(hn:l.length=n)(h0:∀s',qE s0 s' b most B BR (lG l z)->(lG l z).e≠0->(∀x,iq s x->iq s' x)->Q [.fM] s')
 (h1:∀s' x,qE s0 s' b most B BR (lG l z)->(lG l z).e=0->(∀x,iq s x->iq s' x)->iq s' x->x.lens=l->Q [.ref x.B 0] s'):FN prog 241 [.ref B 0,.sl ow 1 n (flat l)] s Q:=by
 subst hn
 refine FS 21 [⟨4,true,none⟩] 0x18a3693d278dc0be2dd4284ef35eb450cbc2416e6c9f9903aadcf182bc527e2db7cb94df71a77c9f25709bd0378b6a84f9e2bf6b1800e152980c65504883fa ?_
 have hB:=hS.hB
 refine Xe5 hB ?_
 refine⟨fun he=>?_,fun he=>?_⟩
 ·have he:z.e≠0:=G_
  have e:lG l z=z:=by unfold lG ZS.fail;rw[if_neg he];split<;>rfl
  rw[e]at h0
  exact h0 s hS he fun x h=>h
 ·have he:z.e=0:=G_
  refine acU (fun hk s' hs=>?_) (fun hk s' x hs hx hl=>?_)
  ·have hS':=hS.more hs
   refine Xe7 ?_
   refine ya hS' 13 fun s2 hS2 ht _=>?_
   have e:lG l z=z.fail 13:=by unfold lG;rw[if_pos hk]
   rw[e]at h0
   refine Xe7 ?_
   exact h0 s2 hS2 (gD z 13 B_).2.2 fun x h=>ht x (h.mono hs)
  ·have hS':=hS.more hs
   refine Xe7 ?_
   refine ya hS' 0 fun s2 hS2 ht _=>?_
   have e:lG l z=z:=Xd7
   have e2:z.fail 0=z:=by unfold ZS.fail;rw[if_pos he,<-he]
   rw[e]at h1
   rw[e2]at hS2
   refine Xe7 ?_
   exact h1 s2 x hS2 he (fun x h=>ht x (h.mono hs)) (ht x hx) hl
def ptr(p:AV):Prop:=p=.fM\/∃x,p=.ref x 0
def Zj(hS:qE s0 s b most B BR z)(he:z.e≠0){p:AV}(hp:ptr p)(hq:Q [.int .i64 0] s):FN prog 267 [.ref B 0,p] s Q:=by
 rcases hp with rfl|⟨x,rfl⟩
 all_goals
  refine FO ku rfl rfl ?_
  rw[gS]
  refine Xf9 ?_
  have hB:=hS.hB
  have hc:(z.e !=0)=true:=G_
  refine Xf1 hB hc ?_
  exact hq
def G9{P:Program}{live:List (Nat×Bool)}{l:Nat}{r:IC}{Q:Exit->St->Prop}{E:St}(h:∀J,fY P r (I0 l live J Q) E):WE P l live r Q E:=yA (S:=Unit) (O:=Unit) (body:=fun _=>some (.inr ())) (s0:=()) (kf:=fun _=>True) (fun _=>E) rfl (fun J _ _=>h J) ⟨(),oE 0 (fun _=>()) rfl B_ (fun k hk=>AT) rfl,trivial⟩
def W0(hS:qE s0 s b most B BR z)(he:z.e≠0){p q:AV}(hp:ptr p)(hq':ptr q)(hq:Q [] s):FN prog 240 [.ref B 0,p,q] s Q:=by
 have hp0:=hp
 rcases hp with rfl|⟨x,rfl⟩<;>rcases hq' with rfl|⟨y,rfl⟩
 all_goals
  refine FO lM rfl rfl ?_
  rw[iZ]
  refine Xf9 ?_
  have hB:=hS.hB
  have hc:(z.e !=0)=true:=G_
  refine Xe7 ?_
  refine G9 fun J=>?_
  refine Xe7 ?_
  refine Zj hS he hp0 ?_
  refine Xf1 hB hc ?_
  exact hq
def X8(hS:qE s0 s b most B BR z)(he:z.e≠0)(n:Int)(hq:Q [.sl true 1 0 []] s):FN prog 273 [.ref B 0,.fM,.int .i64 n] s Q:=by
 refine FO kz rfl rfl ?_
 rw[gT]
 refine Xf9 ?_
 have hB:=hS.hB
 have hc:(z.e !=0)=true:=G_
 refine Xe7 ?_
 refine G9 fun J=>?_
 refine Xh2 hB hc ?_
 exact hq
end
theorem tF:nC.length=288:=rfl
def TC{k:Nat}(h:k<288):nC[k]? =some (if k<144\/k>279 then 8 else if k<256 then 9 else 7):=by
 unfold nC
 rw[List.getElem?_map,List.getElem?_range h];rfl
def kp(l:List Int)(n k:Nat):List Int:=l.take k++List.replicate (n -k) 0
def GC{l:List Int}{n k:Nat}(hl:l.length=n)(hk:k<n){x:Int}(hx:l[k]? =some x):(kp l n k).set k x=kp l n (k+1):=by
 unfold kp
 have ht:(l.take k).length=k:=M_
 rw[List.set_append_right _ _ AT,ht,Nat.sub_self,show n -k=(n -(k+1))+1 by omega,List.replicate_succ,List.set_cons_zero,List.take_add_one,hx]
 simp
def GA{l:List Int}{n k:Nat}(hl:l.length=n)(hk:k<=n):(kp l n k).length=n:=by
 unfold kp
 simp;omega
theorem Gz{l:List Int}{n:Nat}(hl:l.length=n):kp l n n=l:=by
 unfold kp
 rw[List.take_of_length_le AT,Nat.sub_self];simp
def CZ{E:St}{d:Option Nat}{K:St->Prop}{b n:Nat}{l:List Int}(hs:E.s b=some (.cells (flat l)))(hl:l.length=n)(hn:0<n)(hK:K ({E with s:=E.s.del b}.put d (.sl true 1 n (flat l)))):yg 1 true E d K (.arr b 0 n n):=by
 have hlc:(flat l).length=n:=by rw[au,hl];exact Nat.mul_one _
 have dE:decide (0+n*1<=(flat l).length)=true:=by rw[hlc];simp
 have e1:views (AB.sub (flat l) 0 (n*1))=flat l:=by
  unfold AB.sub
  rw[List.drop_zero,List.take_of_length_le AT,aF]
 refine .inr ⟨hn,Nat.le_refl _,fun _=>⟨rfl,?_,?_⟩,?_⟩
 ·rw[hs];show 0+n*1<=_;omega
 ·rw[hs];show _=0+n*1;omega
 ·rw[hs]
  show yg.frzK 1 true E d K b n (bif decide (0+n*1<=(flat l).length)then some (n,views (AB.sub (flat l) 0 (n*1)))else none)
  rw[dE,e1]
  exact hK
def abV{s:ae}:FE prog 239 [] s [.sl true 1 288 (flat nC),.sl true 1 30 (flat nz)] s:=by
 have cg:room=140737488355328:=rfl
 refine FP 44 [⟨0,true,none⟩,⟨1,true,none⟩] (dec 0x3d47c4dc3f572611e140fb7a651f65b560fb9b3a5712ac7346fb1d79134e285468128cc69658db44435eeb02f3c902310ca0ebc7fcb9be5ba3aa98e3e8074a4dda9695cae470d789541aab8f057184c977ac812c714262372646fd299ef119fa07bc6871da558f6afc3676328ade020ca957bede6102724bd8886710ac8b4a83ef5105ce137d0bc625b2f660be688c31fc881d68759a691630040e004f2b68b88b120f4db34bfd5ac623a63d2af39da87bd0b3415d0d773d44e11cd8bd287cfb92c208445c1ac45525d7282166182249bcf30df93c7712a1525840ddc91ac74e82bd07af48eca60de3b28a4572977e320a203916610b775b40acb) By rfl ?_
 generalize hQ:(fun rs t=>rs=[AV.sl true 1 288 (flat nC),.sl true 1 30 (flat nz)]/\t=s)=Q
 refine Xf9 ?_
 refine Xe7 ?_
 refine abq (fun φ=>∃b6 b7 S,S b6=some (.cells (flat (kp nC 288 0)))/\S b7=some (.cells (flat (kp nz 30 0)))/\b6≠b7/\s b6=none/\s b7=none/\(∀x,x≠b6->x≠b7->S x=s x)/\φ=⟨[(2,.arr b6 0 288 288),(3,.arr b7 0 30 30)],[],S⟩) ?_ ?_
 ·intro K hK
  repeat'(first|(simp only[cP,bX,bD,bV,vO,xE,Bool.not_true,Bool.not_false,Bool.or_true,Bool.true_or,Bool.false_or,Bool.or_false,Bool.and_true,Bool.true_and,Bool.and_false,Bool.false_and,cond_true,cond_false,true_and,and_true];done)|with_reducible refine⟨?_,?_⟩|with_reducible exact trivial|omega|(intro b hb)|(simp only[cP,bX,bD,bV,vO,xE,Bool.not_true,Bool.not_false,Bool.or_true,Bool.true_or,Bool.false_or,Bool.or_false,Bool.and_true,Bool.true_and,Bool.and_false,Bool.false_and,cond_true,cond_false,true_and,and_true])|simp -implicitDefEqProofs only[go_sem,seval])
  all_goals
   rename_i b1 h1
   have hne:b≠b1:=fun e=>by subst e;rw[aY]at hb;cases hb
   rw[af hne]at hb
   first
    |exact hK _ ⟨b1,b,_,(af hne.symm).trans aY,aY,hne.symm,h1,hb,fun x hx hy=>(af hy).trans (af hx),rfl⟩
    |exact hK _ ⟨b,b1,_,aY,(af hne.symm).trans aY,hne,hb,h1,fun x hx hy=>(af hx).trans (af hy),rfl⟩
 ·rintro φ ⟨b6,b7,S,h6,h7,hne,n6,n7,hS,rfl⟩
  refine Xe7 ?_
  refine ja 288 (fun k τ=>∃S:ae,S b6=some (.cells (flat (kp nC 288 k)))/\S b7=some (.cells (flat (kp nz 30 0)))/\(∀x,x≠b6->x≠b7->S x=s x)/\τ=⟨[(2,.arr b6 0 288 288),(3,.arr b7 0 30 30),(9,.int .i64 288),(10,.int .i64 k)],[],S⟩) B_ ⟨S,h6,h7,hS,rfl⟩ (fun k hk J τ hτ hJ=>?_) (fun J τ hτ=>?_)
  ·obtain⟨S,h6,h7,hS,rfl⟩:=hτ
   have hlt:decide ((k:Int)<288)=true:=C_
   have hw:aC ((k:Int)+1)=((k+1:Nat):Int):=E_
   have hl:=GA (l:=nC) tF (k:=k) AT
   have dv:=(HC (kp nC 288 k) (n:=1) rfl (j:=(k:Int)) AT AT).1
   have C7:=fun x=>Mo (kp nC 288 k) (n:=1) rfl x (j:=(k:Int)) AT AT
   have hnx:=fun x hx=>GC (x:=x) tF hk hx
   have hg:=TC hk
   rw[Int.toNat_natCast]at dv C7
   refine Xf3 hlt hw h6 ?_
   have go:∀x:Int,nC[k]? =some x->J ⟨[(2,.arr b6 0 288 288),(3,.arr b7 0 30 30),(9,.int .i64 288),(10,.int .i64 ((k+1:Nat):Int))],[],S.set b6 (.cells (setAt (flat (kp nC 288 k)) (k*1) [.int .i64 x]))⟩:=fun x hx=>by
    have e:setAt (flat (kp nC 288 k)) (k*1) [.int .i64 x]=flat (kp nC 288 (k+1)):=(C7 x).trans (congrArg flat (hnx x hx))
    rw[e]
    exact hJ _ ⟨_,aY,(af hne.symm).trans h7,fun y hy hz=>(af hy).trans (hS y hy hz),rfl⟩
   refine⟨fun h=>⟨⟨AT,AT⟩,dv,go 8 ?_⟩,fun h=>⟨fun h2=>⟨⟨AT,AT⟩,dv,go 9 ?_⟩,fun h2=>⟨⟨AT,AT⟩,dv,go 7 ?_⟩⟩⟩
   ·rw[hg,if_pos Xb2]
   ·rw[hg,if_neg Xb2,if_pos (by simp at h2;omega)]
   ·rw[hg,if_neg Xb2,if_neg (by simp at h2;omega)]
  ·obtain⟨S,h6,h7,hS,rfl⟩:=hτ
   have hlt:decide ((288:Int)<288)=false:=B_
   show fY _ _ _ ⟨[(2,.arr b6 0 288 288),(3,.arr b7 0 30 30),(9,.int .i64 288),(10,.int .i64 288)],[],S⟩
   rw[Gz tF]at h6
   refine Xe5 hlt ?_
   refine ja 30 (fun k τ=>∃S:ae,S b6=some (.cells (flat nC))/\S b7=some (.cells (flat (kp nz 30 k)))/\(∀x,x≠b6->x≠b7->S x=s x)/\τ=⟨[(2,.arr b6 0 288 288),(3,.arr b7 0 30 30),(34,.int .i64 30),(35,.int .i64 k)],[],S⟩) B_ ⟨S,h6,h7,hS,rfl⟩ (fun k hk J τ hτ hJ=>?_) (fun J τ hτ=>?_)
   ·obtain⟨S,h6,h7,hS,rfl⟩:=hτ
    have hlt:decide ((k:Int)<30)=true:=C_
    have hw:aC ((k:Int)+1)=((k+1:Nat):Int):=E_
    have hD:nz.length=30:=rfl
    have hl:=GA (l:=nz) hD (k:=k) AT
    have dv:=(HC (kp nz 30 k) (n:=1) rfl (j:=(k:Int)) AT AT).1
    have C7:=Mo (kp nz 30 k) (n:=1) rfl (5:Int) (j:=(k:Int)) AT AT
    have hnx:=GC (x:=5) hD hk (by unfold nz;rw[List.getElem?_replicate,if_pos hk])
    rw[Int.toNat_natCast]at dv C7
    have e:setAt (flat (kp nz 30 k)) (k*1) [.int .i64 5]=flat (kp nz 30 (k+1)):=C7.trans (congrArg flat hnx)
    refine Xg9 hlt hw h7 e ?_
    exact⟨⟨AT,AT⟩,dv,hJ _ ⟨_,(af hne).trans h6,aY,fun y hy hz=>(af hz).trans (hS y hy hz),rfl⟩⟩
   ·obtain⟨S,h6,h7,hS,rfl⟩:=hτ
    have hlt:decide ((30:Int)<30)=false:=B_
    show fY _ _ _ ⟨[(2,.arr b6 0 288 288),(3,.arr b7 0 30 30),(34,.int .i64 30),(35,.int .i64 30)],[],S⟩
    rw[Gz (l:=nz) (n:=30) rfl]at h7
    refine Xe5 hlt ?_
    refine CZ (l:=nC) h6 tF B_ ?_
    refine Xe7 ?_
    have h7':(S.del b6) b7=some (.cells (flat nz)):=by
     unfold ae.del
     rw[if_neg hne.symm];exact h7
    refine CZ (l:=nz) h7' rfl B_ ?_
    refine Xe7 ?_
    subst hQ
    refine⟨rfl,?_⟩
    funext x
    unfold ae.del
    by_cases h1:x=b7
    ·rw[if_pos h1,h1,n7]
    ·rw[if_neg h1]
     by_cases h2:x=b6
     ·rw[if_pos h2,h2,n6]
     ·rw[if_neg h2];exact hS x h2 h1
end Go.AB
end
