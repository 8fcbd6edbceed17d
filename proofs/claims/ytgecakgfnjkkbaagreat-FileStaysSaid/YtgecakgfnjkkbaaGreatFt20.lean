/- A part. -/
import Derived.Test.YtgecakgfnjkkbaaGreatFt19
import Derived.Shelf.SlSortCmp.WholeK
set_option linter.unusedSimpArgs false
set_option linter.unusedVariables false
section
namespace Go.AB
open Go
def qC:List Int:=[16,17,18,0,8,7,9,6,10,5,11,4,12,3,13,2,14,1,15]
def mi:List Int:=(List.range 288).map fun k=>if k<144\/k>279 then 8 else if k<256 then 9 else 7
def mh:List Int:=List.replicate 30 5
def Jc(B:List Bool):List Int->List Int->ZS->List Int×ZS
 |[],of,s=>(of,s)
 |a::r,of,s=>Jc B r (Hl of a (aB B 3 s).1) (aB B 3 s).2
def jW(B:List Bool)(s:ZS):Int×Int×Int×ZS:=
 let n:=aB B 5 s
 let m:=aB B 5 n.2
 let k:=aB B 4 m.2
 (n.1+257,m.1+1,k.1+4,if n.1+257>286\/m.1+1>30 then k.2.fail 11 else k.2)
def nV(B:List Bool)(s:ZS):List Int×ZS:=
 let h:=jW B s
 let o:=Jc B (qC.take h.2.2.1.toNat) (List.replicate 19 0) h.2.2.2
 ym B o.1 (h.1+h.2.1).toNat ((h.1+h.2.1).toNat+1) [] (kI o.1 o.2)
def mf(B:List Bool)(s:ZS):List Int×List Int×ZS:=
 let l:=nV B s
 let n:=(jW B s).1.toNat
 if l.2.e≠0 then([],[],l.2)else(l.1.take n,l.1.drop n,kI (l.1.drop n) (kI (l.1.take n) (if l.1.getD 256 0=0 then l.2.fail 11 else l.2)))
def Ib(b:List UInt8)(most:Int)(s:ZS):ZS:=tI (ah b) most (mf (ah b) s).1 (mf (ah b) s).2.1 (8*b.length+2) (mf (ah b) s).2.2
def xQ(b:List UInt8)(most:Int)(s:ZS):Bool×ZS:=
 let l:=aB (ah b) 1 s
 let k:=aB (ah b) 2 l.2
 let z:=if k.2.e≠0 then k.2 else if k.1=0 then Cj (ah b) most k.2 else if k.1=1 then tI (ah b) most mi mh (8*b.length+2) k.2 else if k.1=2 then Ib b most k.2 else k.2.fail 11
 (decide (l.1=1)||decide (z.e≠0),z)
def yb(b:List UInt8)(most:Int):Nat->ZS->ZS
 |0,s=>s
 |f+1,s=>if(xQ b most s).1 then(xQ b most s).2 else yb b most f (xQ b most s).2
def qp(b:List UInt8)(most:Int):List UInt8×Int×Int:=
 if most<0\/most>16777216 then([],0,2)else
  let z:=yb b most (8*b.length+2) ⟨0,0,[]⟩
  if z.e≠0 then([],0,z.e)else(z.out,(((z.at_+7)/8:Nat):Int),0)
def rl(b:List UInt8)(most:Int):List UInt8×Int×Int:=
 if most<0\/most>16777216 then([],0,2)else if QG b≠0 then([],0,QG b)else
  let r:=qp (b.drop 2) most
  if r.2.2≠0 then([],0,r.2.2)else if(b.length:Int)<r.2.1+6 then([],0,10)else if(b.drop (r.2.1+2).toNat).take 4≠X6 (LQ r.1)then([],0,12)else(r.1,r.2.1+6,0)
section
variable{b:List UInt8}{most:Int}
theorem Yy:Du mi/\Du mh/\0<=MV mi/\0<=MV mh:=by
 have h1:0<=MV mi:=by decide+kernel
 have h2:0<=MV mh:=by decide
 grind [K4]
theorem Lj:∀(r of:List Int)(s:ZS),s.at_<=8*b.length->(Jc (ah b) r of s).2.at_<=8*b.length/\s.at_<=(Jc (ah b) r of s).2.at_/\(Jc (ah b) r of s).2.out=s.out/\((Jc (ah b) r of s).2.e=0->s.e=0)
 |[],_,_,h=>⟨h,Nat.le_refl _,rfl,fun h=>h⟩
 |a::r,of,s,h=>by
  have hn:=dy (n:=3) h
  have ih:=Lj r (Hl of a (aB (ah b) 3 s).1) (aB (ah b) 3 s).2 hn.1
  rw[Jc]
  exact⟨ih.1,by omega,by grind,fun e=>(hn.2.2.2.2.2 (ih.2.2.2 e)).1⟩
theorem Mt{s:ZS}(h:s.at_<=8*b.length):(jW (ah b) s).2.2.2.at_<=8*b.length/\s.at_<=(jW (ah b) s).2.2.2.at_/\(jW (ah b) s).2.2.2.out=s.out/\257<=(jW (ah b) s).1/\(jW (ah b) s).1<=288/\1<=(jW (ah b) s).2.1/\(jW (ah b) s).2.1<=32/\4<=(jW (ah b) s).2.2.1/\(jW (ah b) s).2.2.1<=19/\((jW (ah b) s).2.2.2.e=0->s.e=0):=by grind [dy,jW,fW,aB,ah,absurd]
theorem Mu{s:ZS}(h:s.at_<=8*b.length):(nV (ah b) s).2.at_<=8*b.length/\s.at_<=(nV (ah b) s).2.at_/\(nV (ah b) s).2.out=s.out/\((nV (ah b) s).2.e=0->s.e=0/\((nV (ah b) s).1.length:Int)=(jW (ah b) s).1+(jW (ah b) s).2.1):=by
 have h1:=Mt h
 have h2:=Lj (qC.take (jW (ah b) s).2.2.1.toNat) (List.replicate 19 0) _ h1.1
 have h3:=wv (Jc (ah b) (qC.take (jW (ah b) s).2.2.1.toNat) (List.replicate 19 0) (jW (ah b) s).2.2.2).1 (Jc (ah b) (qC.take (jW (ah b) s).2.2.1.toNat) (List.replicate 19 0) (jW (ah b) s).2.2.2).2
 have h4:=Ro (l:=(Jc (ah b) (qC.take (jW (ah b) s).2.2.1.toNat) (List.replicate 19 0) (jW (ah b) s).2.2.2).1) (n:=((jW (ah b) s).1+(jW (ah b) s).2.1).toNat) (((jW (ah b) s).1+(jW (ah b) s).2.1).toNat+1) [] _ (by rw[h3.1];exact h2.1) (Nat.zero_le _) (by simp)
 grind [nV]
theorem Mv{s:ZS}(h:ZI b most s):ZI b most (mf (ah b) s).2.2/\s.at_<=(mf (ah b) s).2.2.at_/\((mf (ah b) s).2.2.e=0->s.e=0/\0<=MV (mf (ah b) s).1/\0<=MV (mf (ah b) s).2.1):=by
 have h1:=Mu h.1
 unfold mf
 simp only
 split
 ·rename_i he
  exact⟨⟨h1.1,by rw[h1.2.2.1];exact h.2⟩,h1.2.1,fun e=>absurd e he⟩
 ·rename_i he
  have he:=by simpa using he
  have hf:=fW (nV (ah b) s).2 11 (by simp)
  have hz:∀z,z=(if(nV (ah b) s).1.getD 256 0=0 then(nV (ah b) s).2.fail 11 else(nV (ah b) s).2)->z.at_=(nV (ah b) s).2.at_/\z.out=(nV (ah b) s).2.out:=by grind
  generalize hzz:(if(nV (ah b) s).1.getD 256 0=0 then(nV (ah b) s).2.fail 11 else(nV (ah b) s).2)=z at*
  have hz:=hz z rfl
  have c1:=wv ((nV (ah b) s).1.take (jW (ah b) s).1.toNat) z
  have c2:=wv ((nV (ah b) s).1.drop (jW (ah b) s).1.toNat) (kI ((nV (ah b) s).1.take (jW (ah b) s).1.toNat) z)
  refine⟨⟨by grind,by rw[c2.2.1,c1.2.1,hz.2,h1.2.2.1];exact h.2⟩,by grind,fun e=>⟨(h1.2.2.2 he).1,(c1.2.2 (c2.2.2 e).1).2,(c2.2.2 e).2⟩⟩
theorem No:∀(k:Nat)(s:ZS),ZI b most s->ZI b most (DK (ah b) most k s)
 |0,_,h=>h
 |k+1,s,h=>by
  rw[DK]
  split
  ·exact h
  ·have hn:=dy (n:=8) h.1
   exact No k _ (M8 ⟨hn.1,by rw[hn.2.2.2.2.1];exact h.2⟩)
theorem VN{s:ZS}(h:ZI b most s):ZI b most (Cj (ah b) most s):=by
 have hH:=He h.1
 have h1:=dy (b:=b) (n:=16) (s:={s with at_:=(s.at_+7)/8*8}) (by grind)
 have h2:=dy (n:=16) h1.1
 refine No _ _ ⟨hH.1,?_⟩
 have:(tW (ah b) s).2.out=s.out:=by
  unfold tW
  simp only
  split
  ·grind [fW]
  ·grind
 rw[this];exact h.2
theorem L8{s:ZS}(h:ZI b most s):ZI b most (xQ b most s).2/\s.at_<=(xQ b most s).2.at_/\((xQ b most s).1=false->(xQ b most s).2.e=0/\s.e=0/\s.at_<(xQ b most s).2.at_):=by
 have h1:=dy (n:=1) h.1
 have h2:=dy (b:=b) (n:=2) h1.1
 have hk:ZI b most (aB (ah b) 2 (aB (ah b) 1 s).2).2:=⟨h2.1,by rw[h2.2.2.2.2.1,h1.2.2.2.2.1];exact h.2⟩
 unfold xQ
 generalize hz:(if(aB (ah b) 2 (aB (ah b) 1 s).2).2.e≠0 then(aB (ah b) 2 (aB (ah b) 1 s).2).2 else if(aB (ah b) 2 (aB (ah b) 1 s).2).1=0 then Cj (ah b) most (aB (ah b) 2 (aB (ah b) 1 s).2).2 else if(aB (ah b) 2 (aB (ah b) 1 s).2).1=1 then tI (ah b) most mi mh (8*b.length+2) (aB (ah b) 2 (aB (ah b) 1 s).2).2 else if(aB (ah b) 2 (aB (ah b) 1 s).2).1=2 then Ib b most (aB (ah b) 2 (aB (ah b) 1 s).2).2 else(aB (ah b) 2 (aB (ah b) 1 s).2).2.fail 11)=z
 have hr:ZI b most z/\(aB (ah b) 2 (aB (ah b) 1 s).2).2.at_<=z.at_/\(z.e=0->(aB (ah b) 2 (aB (ah b) 1 s).2).2.e=0):=by
  subst hz
  split
  ·grind
  ·rename_i he
   have he:=by simpa using he
   split
   ·grind [VN,VO]
   ·split
    ·grind [Fz,mi,mh]
    ·split
     ·grind [Mv,Fz,mf,ah,aB,Ib]
     ·have hf:=fW (aB (ah b) 2 (aB (ah b) 1 s).2).2 11 (by decide)
      exact⟨⟨by grind,by rw[hf.2.1];exact hk.2⟩,by grind,fun _=>he⟩
 grind
end
end Go.AB
end
section
set_option maxRecDepth 4000
namespace Go.AB
open Go
open Go.Proofs.Tryz (prog)
attribute[-go_sem] Nat.add_zero mI cE cy cU bQ cw
abbrev stC(BR:Nat)(most:Int)(z:ZS):List AV:=[.ref BR 0,.int .i64 z.e,.sl true 1 z.out.length (flat z.out),.int .i64 most]
abbrev rdZ(b:List UInt8)(z:ZS):List AV:=[.int .i64 (z.at_:Int),.bool false,.bool true,.sl false 1 b.length (flat b)]
structure oZ(s0 s:ae)(b:List UInt8)(most:Int)(B BR:Nat)(z:ZS):Prop where
 n0:s0 B=none
 n1:s0 BR=none
 ne:B≠BR
 sub:Sub s0 s
 hB:s B=some (.cells (stC BR most z))
 hR:s BR=some (.cells (rdZ b z))
theorem oZ.LS{s0 s:ae}{b:List UInt8}{most:Int}{B BR:Nat}{z:ZS}(h:oZ s0 s b most B BR z)(z':ZS):oZ s0 ((s.set B (.cells (stC BR most z'))).set BR (.cells (rdZ b z'))) b most B BR z':=by
 refine⟨h.n0,h.n1,h.ne,fun x o hx=>?_,by rw[ai h.ne,bD],bD⟩
 have h1:x≠B:=fun e=>by subst e;rw[h.n0]at hx;cases hx
 have h2:x≠BR:=fun e=>by subst e;rw[h.n1]at hx;cases hx
 rw[ai h2,ai h1]
 exact h.sub _ _ hx
theorem oZ.more{s0 s s':ae}{b:List UInt8}{most:Int}{B BR:Nat}{z:ZS}(h:oZ s0 s b most B BR z)(hs:Sub s s'):oZ s0 s' b most B BR z:=⟨h.n0,h.n1,h.ne,fun x o hx=>hs _ _ (h.sub x o hx),hs _ _ h.hB,hs _ _ h.hR⟩
theorem oZ.off{s0 s s':ae}{b:List UInt8}{most:Int}{B BR:Nat}{z:ZS}(h:oZ s0 s b most B BR z){y:Nat}(hy:s0 y=none)(h1:y≠B)(h2:y≠BR)(hs:∀x,x≠y->s' x=s x):oZ s0 s' b most B BR z:=
 ⟨h.n0,h.n1,h.ne,fun x o hx=>by
   have:x≠y:=fun e=>by subst e;rw[hy]at hx;cases hx
   rw[hs x this];exact h.sub x o hx,by rw[hs B h1.symm];exact h.hB,by rw[hs BR h2.symm];exact h.hR⟩
theorem oZ.tab{s0 s:ae}{b:List UInt8}{most:Int}{B BR:Nat}{z:ZS}(h:oZ s0 s b most B BR z)(p q:SO){x:HT}(hx:gF s x):gF ((s.set B p).set BR q) x:=hx.DG h.hB (xj _ _ _) h.hR (xi _ _ _ _) h.ne
section
variable{s0 s:ae}{b:List UInt8}{most:Int}{B BR:Nat}{z:ZS}{Q:List AV->ae->Prop}
theorem yx(hS:oZ s0 s b most B BR z)(hb:b.length<72057594037927936){n:Nat}(hn:n<=31)(hz:ZI b most z)(hq:∀s',oZ s0 s' b most B BR (aB (ah b) n z).2->(∀x,gF s x->gF s' x)->(∀y,y≠B->y≠BR->s' y=s y)->Q [.int .i64 (aB (ah b) n z).1] s'):FN prog 237 [.ref B 0,.int .i64 (n:Int)] s Q:=by
 have hl:=dy (b:=b) (n:=n) hz.1
 refine bM (s_0:=EZ b z) (n_1:=(n:Int)) (preB0:=[]) (postB0:=[.sl true 1 z.out.length (flat z.out),.int .i64 most]) hS.hB hS.hR rfl hS.ne ⟨_,Ln (by omega) hn hz.1,?_⟩
 have ho:z.out=(aB (ah b) n z).2.out:=hl.2.2.2.2.1.symm
 rw[ho]
 exact hq _ (hS.LS _) (fun x hx=>hS.tab _ _ hx) fun y h1 h2=>(ai h2).trans (ai h1)
theorem wC(hS:oZ s0 s b most B BR z)(e:Int)(hq:∀s',oZ s0 s' b most B BR (z.fail e)->(∀x,gF s x->gF s' x)->(∀y,y≠B->y≠BR->s' y=s y)->Q [] s'):FN prog 243 [.ref B 0,.int .i64 e] s Q:=by
 refine bz (s_0:=EZ b z) (e_1:=e) (preB0:=[]) (postB0:=[.sl true 1 z.out.length (flat z.out),.int .i64 most]) hS.hB hS.hR rfl hS.ne ⟨_,qY z e,?_⟩
 have ho:z.out=(z.fail e).out:=by unfold ZS.fail;split<;>rfl
 rw[ho]
 exact hq _ (hS.LS _) (fun x hx=>hS.tab _ _ hx) fun y h1 h2=>(ai h2).trans (ai h1)
theorem O9(hS:oZ s0 s b most B BR z)(hb:b.length<72057594037927936)(hM:most<=16777216)(hz:ZI b most z)(hq:∀s',oZ s0 s' b most B BR (Cj (ah b) most z)->Q [] s'):FN prog 238 [.ref B 0] s Q:=pD (s_0:=oW b most z) hS.hB hS.hR hS.ne ⟨_,Vc (by omega) hM hz.1,hq _ (hS.LS _)⟩
theorem HV(hS:oZ s0 s b most B BR z)(hb:b.length<72057594037927936)(hM:most<=16777216)(hz:ZI b most z){t d:HT}(ht:gF s t)(hd:gF s d)(hq:∀s',oZ s0 s' b most B BR (tI (ah b) most t.lens d.lens (8*b.length+2) z)->Q [] s'):FN prog 240 [.ref B 0,.ref t.B 0,.ref d.B 0] s Q:=qq (s_0:=oW b most z) hS.hB hS.hR hS.ne ht hd ⟨_,ZP (by omega) hM ht.1 hd.1 t.B d.B hz,hq _ (hS.LS _)⟩
theorem UP(hS:oZ s0 s b most B BR z)(hb:b.length<72057594037927936)(hz:ZI b most z){t:HT}(ht:gF s t){n:Nat}(hn:n<1000)(hq:∀s' o,oZ s0 s' b most B BR (ym (ah b) t.lens n (n+1) [] z).2->((ym (ah b) t.lens n (n+1) [] z).2.e=0->o=(ym (ah b) t.lens n (n+1) [] z).1)->Q [.sl true 1 o.length (flat o)] s'):FN prog 273 [.ref B 0,.ref t.B 0,.int .i64 (n:Int)] s Q:=by
 obtain⟨o,h1,h2,_⟩:=ahp (b:=b) (most:=most) (by omega) ht.1 t.B hn hz.1
 exact oM (s_0:=oW b most z) hS.hB hS.hR hS.ne ht ⟨_,h1,hq _ o (hS.LS _) h2⟩
end
set_option maxRecDepth 16000
def Ej:IC:=dec 0x149998c2ffec91db29baf57ec2ed7c48a9c0a56c7cd23b460c898342c022b5b4473a
theorem Ol:eH prog 236 8 [⟨2,true,none⟩] Ej=true:=by kernel_rfl
def Fv(l:List UInt8)(s:ae)(rs:List AV)(s':ae):Prop:=(∃b cap sp,rs=[.arr b 0 l.length cap]/\s b=none/\0<cap/\l.length<=cap/\(flat l++sp).length=cap*1/\views (flat l++sp)=flat l++sp/\s'=s.set b (.cells (flat l++sp)))\/(l=[]/\s'=s/\∃b,rs=[.arr b 0 0 0])
theorem Kj{o:Bool}{l:List UInt8}{s:ae}(hr:l.length*1<=room):FN prog 236 [.sl o 1 l.length (flat l)] s (Fv l s):=by
 refine FN.ji (FO Ol rfl rfl ?_)
 generalize hQ:(fun rs s'=>∃s2,Sub s2 s'/\Fv l s rs s2)=Q
 have hq:∀rs s' s2,Sub s2 s'->Fv l s rs s2->Q rs s':=fun rs s' s2 h1 h2=>by rw[<-hQ];exact⟨s2,h1,h2⟩
 rw[Ej]
 conv in dec _=>reduce
 simp -implicitDefEqProofs only[go_sem,seval]
 intro v hv
 refine⟨fun h=>hq _ _ s (Sub.refl s) (.inr ⟨List.eq_nil_of_length_eq_zero (hv (by simpa using h)),rfl,0,rfl⟩),fun _ b1 hb1=>?_⟩
 rw[js,aN]
 by_cases hl:l=[]
 ·subst hl
  refine lI rfl rfl (Nat.le_refl 0) ?_
  simp -implicitDefEqProofs only[go_sem,seval]
  exact hq _ _ s ((Sub.refl s).set hb1) (.inr ⟨rfl,rfl,_,rfl⟩)
 ·have hn:0<l.length:=List.length_pos_iff.2 hl
  refine eD rfl rfl (by omega) (by rw[Nat.zero_add];exact hr) fun b2 cap hb2 fh=>?_
  rw[Nat.zero_add]at fh
  have hz:(List.replicate (cap -(0+l.length)) [.int .u8 0]).flatten=flat (List.replicate (cap -l.length) (0:UInt8)):=by rw[fX,Nat.zero_add];rfl
  rw[hz]
  simp -implicitDefEqProofs only[go_sem,seval,Nat.zero_add,List.nil_append]
  have KH:s b2=none:=((Sub.refl s).set hb1).none hb2
  refine hq _ _ _ (Sub.DG ((Sub.refl s).set hb1)) (.inl ⟨b2,cap,_,rfl,KH,by omega,fh,?_,?_,rfl⟩)
  ·rw[List.length_append,aA,aA,List.length_replicate]
   show l.length*1+(cap -l.length)*1=cap*1
   omega
  ·rw[k7,aN,aN]
theorem NT{o:Bool}{l:List UInt8}{s:ae}(hr:l.length*1<=room):FE prog 236 [.sl o 1 l.length (flat l)] s [.sl true 1 l.length (flat l)] s:=
 FN.GU (aA l) (aN l) ⟨rfl,rfl⟩ ((Kj hr).mono fun rs s' h=>by
  rcases h with⟨b,cap,sp,h1,h2,h3,h4,h5,h6,h7⟩|⟨h1,h2,h3⟩
  ·exact .inl ⟨b,cap,sp,h1,by rw[h7];exact bD,h3,h4,h5,by rw[h7,mE h2];exact Sub.refl s⟩
  ·subst h1;exact .inr ⟨rfl,rfl,by rw[h2];exact Sub.refl s,h3⟩)
theorem Vt{b:List UInt8}{high o:Bool}{s:ae}{Q:List AV->ae->Prop}(hr:b.length*1<=room)(hq:∀B,s B=none->Q [.ref B 0] (s.set B (.cells [.int .i64 0,.bool high,.bool true,.sl false 1 b.length (flat b)]))):FN prog 206 [.sl o 1 b.length (flat b),.bool high] s Q:=by
 refine FS 11 [⟨4,true,none⟩] 0x85975d12c48a05716ed30ce8244b74a98ebbec0d5d52b95b903477e1703fd504883fa ?_
 simp -implicitDefEqProofs only[go_sem,seval,bL]
 refine FE.app (NT hr) ?_
 simp -implicitDefEqProofs only[go_sem,seval,bL]
 exact hq
section
variable{s0 s:ae}{b:List UInt8}{most:Int}{B BR:Nat}{z:ZS}{Q:List AV->ae->Prop}
theorem pV(hS:oZ s0 s b most B BR z){l:List Int}{ow:Bool}{n:Nat}(hn:l.length=n)(h0:∀s',oZ s0 s' b most B BR (kI l z)->(kI l z).e≠0->(∀x,gF s x->gF s' x)->Q [.fj] s')
 (h1:∀s' x,oZ s0 s' b most B BR (kI l z)->(kI l z).e=0->(∀x,gF s x->gF s' x)->gF s' x->x.lens=l->Q [.ref x.B 0] s'):FN prog 241 [.ref B 0,.sl ow 1 n (flat l)] s Q:=by
 subst hn
 refine FS 21 [⟨4,true,none⟩] 0x628da4f49e3702f8b750a13bcd7ad1432f0905b9b27e640eab73c60af4dc5c87b6a762f9177c9f25709bd0378b6a84f9e2bf6b1800e152980c65504883fa ?_
 have hB:=hS.hB
 simp -implicitDefEqProofs only[go_sem,seval,hB,bL]
 refine⟨fun he=>?_,fun he=>?_⟩
 ·have he:z.e≠0:=by simpa using he
  have e:kI l z=z:=by unfold kI ZS.fail;rw[if_neg he];split<;>rfl
  rw[e]at h0
  exact h0 s hS he fun x h=>h
 ·have he:z.e=0:=by simpa using he
  refine Zw (fun hk s' hs=>?_) (fun hk s' x hs hx hl=>?_)
  ·have hS':=hS.more hs
   simp -implicitDefEqProofs only[go_sem,seval,bL]
   refine wC hS' 13 fun s2 hS2 ht _=>?_
   have e:kI l z=z.fail 13:=by unfold kI;rw[if_pos hk]
   rw[e]at h0
   simp -implicitDefEqProofs only[go_sem,seval,bL]
   exact h0 s2 hS2 (fW z 13 (by decide)).2.2 fun x h=>ht x (h.mono hs)
  ·have hS':=hS.more hs
   simp -implicitDefEqProofs only[go_sem,seval,bL]
   refine wC hS' 0 fun s2 hS2 ht _=>?_
   have e:kI l z=z:=by unfold kI;rw[if_neg (by omega)]
   have e2:z.fail 0=z:=by unfold ZS.fail;rw[if_pos he,<-he]
   rw[e]at h1
   rw[e2]at hS2
   simp -implicitDefEqProofs only[go_sem,seval,bL]
   exact h1 s2 x hS2 he (fun x h=>ht x (h.mono hs)) (ht x hx) hl
def ptr(p:AV):Prop:=p=.fj\/∃x,p=.ref x 0
theorem VT(hS:oZ s0 s b most B BR z)(he:z.e≠0){p:AV}(hp:ptr p)(hq:Q [.int .i64 0] s):FN prog 267 [.ref B 0,p] s Q:=by
 rcases hp with rfl|⟨x,rfl⟩
 all_goals
  refine FO jG rfl rfl ?_
  rw[gr]
  conv in dec _=>reduce
  have hB:=hS.hB
  have hc:(z.e !=0)=true:=by simpa using he
  simp -implicitDefEqProofs only[go_sem,seval,hB,hc,bL]
  exact hq
theorem Eu{P:Program}{live:List (Nat×Bool)}{l:Nat}{r:IC}{Q:Exit->St->Prop}{E:St}(h:∀J,fD P r (Gq l live J Q) E):Tz P l live r Q E:=wX (S:=Unit) (O:=Unit) (body:=fun _=>some (.inr ())) (s0:=()) (kf:=fun _=>True) (fun _=>E) rfl (fun J _ _=>h J) ⟨(),mU 0 (fun _=>()) rfl (by decide) (fun k hk=>by omega) rfl,trivial⟩
theorem TT(hS:oZ s0 s b most B BR z)(he:z.e≠0){p q:AV}(hp:ptr p)(hq':ptr q)(hq:Q [] s):FN prog 240 [.ref B 0,p,q] s Q:=by
 have hp0:=hp
 rcases hp with rfl|⟨x,rfl⟩<;>rcases hq' with rfl|⟨y,rfl⟩
 all_goals
  refine FO kQ rfl rfl ?_
  rw[im]
  conv in dec _=>reduce
  have hB:=hS.hB
  have hc:(z.e !=0)=true:=by simpa using he
  simp -implicitDefEqProofs only[go_sem,seval,bL]
  refine Eu fun J=>?_
  simp -implicitDefEqProofs only[go_sem,seval,bL]
  refine VT hS he hp0 ?_
  simp -implicitDefEqProofs only[go_sem,seval,hB,hc,bL]
  exact hq
theorem UO(hS:oZ s0 s b most B BR z)(he:z.e≠0)(n:Int)(hq:Q [.sl true 1 0 []] s):FN prog 273 [.ref B 0,.fj,.int .i64 n] s Q:=by
 refine FO jH rfl rfl ?_
 rw[gu]
 conv in dec _=>reduce
 have hB:=hS.hB
 have hc:(z.e !=0)=true:=by simpa using he
 simp -implicitDefEqProofs only[go_sem,seval,bL]
 refine Eu fun J=>?_
 simp -implicitDefEqProofs only[go_sem,seval,hB,hc,Bool.or_true,bL]
 exact hq
end
theorem rL:mi.length=288:=rfl
theorem Qo{k:Nat}(h:k<288):mi[k]? =some (if k<144\/k>279 then 8 else if k<256 then 9 else 7):=by
 unfold mi
 rw[List.getElem?_map,List.getElem?_range h];rfl
def jC(l:List Int)(n k:Nat):List Int:=l.take k++List.replicate (n -k) 0
theorem D9{l:List Int}{n k:Nat}(hl:l.length=n)(hk:k<n){x:Int}(hx:l[k]? =some x):(jC l n k).set k x=jC l n (k+1):=by
 unfold jC
 have ht:(l.take k).length=k:=by rw[List.length_take];omega
 rw[List.set_append_right _ _ (by omega),ht,Nat.sub_self,show n -k=(n -(k+1))+1 by omega,List.replicate_succ,List.set_cons_zero,List.take_add_one,hx]
 simp
theorem D8{l:List Int}{n k:Nat}(hl:l.length=n)(hk:k<=n):(jC l n k).length=n:=by
 unfold jC
 simp;omega
theorem D7{l:List Int}{n:Nat}(hl:l.length=n):jC l n n=l:=by
 unfold jC
 rw[List.take_of_length_le (by omega),Nat.sub_self];simp
theorem A8{E:St}{d:Option Nat}{K:St->Prop}{b n:Nat}{l:List Int}(hs:E.s b=some (.cells (flat l)))(hl:l.length=n)(hn:0<n)(hK:K ({E with s:=E.s.del b}.put d (.sl true 1 n (flat l)))):wH 1 true E d K (.arr b 0 n n):=by
 have hlc:(flat l).length=n:=by rw[aA,hl];exact Nat.mul_one _
 have df:decide (0+n*1<=(flat l).length)=true:=by rw[hlc];simp
 have e1:views (AB.sub (flat l) 0 (n*1))=flat l:=by
  unfold AB.sub
  rw[List.drop_zero,List.take_of_length_le (by omega),aN]
 refine .inr ⟨hn,Nat.le_refl _,fun _=>⟨rfl,?_,?_⟩,?_⟩
 ·rw[hs];show 0+n*1<=_;omega
 ·rw[hs];show _=0+n*1;omega
 ·rw[hs]
  show wH.frzK 1 true E d K b n (bif decide (0+n*1<=(flat l).length)then some (n,views (AB.sub (flat l) 0 (n*1)))else none)
  rw[df,e1]
  exact hK
theorem Yx{s:ae}:FE prog 239 [] s [.sl true 1 288 (flat mi),.sl true 1 30 (flat mh)] s:=by
 have bX:room=140737488355328:=rfl
 refine FP 44 [⟨0,true,none⟩,⟨1,true,none⟩] (dec 0x3d47c4dc3f572611bdafc8afce86936226632f434ffada1d7a362edd58385f5a1c0a89dda042f24d002b9626fbc902310ca0ebc7fcb9be5ba3aa98e3e8074a4dda9695cae470d789541ac9c679f7ea1d07bc7b2f115115d83d5d80cfb60dd8abddc0e871da558f6afc3676328ade020ca957bede6102724bd8886710ac8b4a83ef5105ce137d0bc625b2f660be688c31fc881d68759a691630040e004f2b643559574f909f214d4e129c15d5ca739da87bd0b3415d0d773d44e11cd8bd287cfb92c208445c1ac45525d728216618225c01177a37bc7712a1525840ddc91ac74e826bf04548eca60de3b28a456f3684720a203916610b775b40acb) (by kernel_rfl) rfl ?_
 generalize hQ:(fun rs t=>rs=[AV.sl true 1 288 (flat mi),.sl true 1 30 (flat mh)]/\t=s)=Q
 conv in dec _=>reduce
 simp -implicitDefEqProofs only[go_sem,seval,bL]
 refine X4 (fun φ=>∃b6 b7 S,S b6=some (.cells (flat (jC mi 288 0)))/\S b7=some (.cells (flat (jC mh 30 0)))/\b6≠b7/\s b6=none/\s b7=none/\(∀x,x≠b6->x≠b7->S x=s x)/\φ=⟨[(2,.arr b6 0 288 288),(3,.arr b7 0 30 30)],[],S⟩) ?_ ?_
 ·intro K hK
  repeat'(first|(simp only[cU,cy,bQ,cw,ua,vR,Bool.not_true,Bool.not_false,Bool.or_true,Bool.true_or,Bool.false_or,Bool.or_false,Bool.and_true,Bool.true_and,Bool.and_false,Bool.false_and,cond_true,cond_false,true_and,and_true];done)|with_reducible refine⟨?_,?_⟩|with_reducible exact trivial|omega|(intro b hb)|(simp only[cU,cy,bQ,cw,ua,vR,Bool.not_true,Bool.not_false,Bool.or_true,Bool.true_or,Bool.false_or,Bool.or_false,Bool.and_true,Bool.true_and,Bool.and_false,Bool.false_and,cond_true,cond_false,true_and,and_true])|simp -implicitDefEqProofs only[go_sem,seval])
  all_goals
   rename_i b1 h1
   have hne:b≠b1:=fun e=>by subst e;rw[bD]at hb;cases hb
   rw[ai hne]at hb
   first
    |exact hK _ ⟨b1,b,_,(ai hne.symm).trans bD,bD,hne.symm,h1,hb,fun x hx hy=>(ai hy).trans (ai hx),rfl⟩
    |exact hK _ ⟨b,b1,_,bD,(ai hne.symm).trans bD,hne,hb,h1,fun x hx hy=>(ai hx).trans (ai hy),rfl⟩
 ·rintro φ ⟨b6,b7,S,h6,h7,hne,n6,n7,hS,rfl⟩
  simp -implicitDefEqProofs only[go_sem,seval,bL]
  refine iq 288 (fun k τ=>∃S:ae,S b6=some (.cells (flat (jC mi 288 k)))/\S b7=some (.cells (flat (jC mh 30 0)))/\(∀x,x≠b6->x≠b7->S x=s x)/\τ=⟨[(2,.arr b6 0 288 288),(3,.arr b7 0 30 30),(9,.int .i64 288),(10,.int .i64 k)],[],S⟩) (by decide) ⟨S,h6,h7,hS,rfl⟩ (fun k hk J τ hτ hJ=>?_) (fun J τ hτ=>?_)
  ·obtain⟨S,h6,h7,hS,rfl⟩:=hτ
   have hlt:decide ((k:Int)<288)=true:=by simp;omega
   have hw:aC ((k:Int)+1)=((k+1:Nat):Int):=by rw[ar (by omega) (by omega)];omega
   have hl:=D8 (l:=mi) rL (k:=k) (by omega)
   have e7:=(EV (jC mi 288 k) (n:=1) rfl (j:=(k:Int)) (by omega) (by omega)).1
   have zF:=fun x=>JG (jC mi 288 k) (n:=1) rfl x (j:=(k:Int)) (by omega) (by omega)
   have hnx:=fun x hx=>D9 (x:=x) rL hk hx
   have hg:=Qo hk
   rw[Int.toNat_natCast]at e7 zF
   simp -implicitDefEqProofs only[go_sem,seval,hlt,hw,h6,bL]
   have go:∀x:Int,mi[k]? =some x->J ⟨[(2,.arr b6 0 288 288),(3,.arr b7 0 30 30),(9,.int .i64 288),(10,.int .i64 ((k+1:Nat):Int))],[],S.set b6 (.cells (setAt (flat (jC mi 288 k)) (k*1) [.int .i64 x]))⟩:=fun x hx=>by
    have e:setAt (flat (jC mi 288 k)) (k*1) [.int .i64 x]=flat (jC mi 288 (k+1)):=(zF x).trans (congrArg flat (hnx x hx))
    rw[e]
    exact hJ _ ⟨_,bD,(ai hne.symm).trans h7,fun y hy hz=>(ai hy).trans (hS y hy hz),rfl⟩
   refine⟨fun h=>⟨⟨by omega,by omega⟩,e7,go 8 ?_⟩,fun h=>⟨fun h2=>⟨⟨by omega,by omega⟩,e7,go 9 ?_⟩,fun h2=>⟨⟨by omega,by omega⟩,e7,go 7 ?_⟩⟩⟩
   ·rw[hg,if_pos (by simp at h;omega)]
   ·rw[hg,if_neg (by simp at h;omega),if_pos (by simp at h2;omega)]
   ·rw[hg,if_neg (by simp at h;omega),if_neg (by simp at h2;omega)]
  ·obtain⟨S,h6,h7,hS,rfl⟩:=hτ
   have hlt:decide ((288:Int)<288)=false:=by decide
   show fD _ _ _ ⟨[(2,.arr b6 0 288 288),(3,.arr b7 0 30 30),(9,.int .i64 288),(10,.int .i64 288)],[],S⟩
   rw[D7 rL]at h6
   simp -implicitDefEqProofs only[go_sem,seval,hlt,bL]
   refine iq 30 (fun k τ=>∃S:ae,S b6=some (.cells (flat mi))/\S b7=some (.cells (flat (jC mh 30 k)))/\(∀x,x≠b6->x≠b7->S x=s x)/\τ=⟨[(2,.arr b6 0 288 288),(3,.arr b7 0 30 30),(34,.int .i64 30),(35,.int .i64 k)],[],S⟩) (by decide) ⟨S,h6,h7,hS,rfl⟩ (fun k hk J τ hτ hJ=>?_) (fun J τ hτ=>?_)
   ·obtain⟨S,h6,h7,hS,rfl⟩:=hτ
    have hlt:decide ((k:Int)<30)=true:=by simp;omega
    have hw:aC ((k:Int)+1)=((k+1:Nat):Int):=by rw[ar (by omega) (by omega)];omega
    have hD:mh.length=30:=rfl
    have hl:=D8 (l:=mh) hD (k:=k) (by omega)
    have e7:=(EV (jC mh 30 k) (n:=1) rfl (j:=(k:Int)) (by omega) (by omega)).1
    have zF:=JG (jC mh 30 k) (n:=1) rfl (5:Int) (j:=(k:Int)) (by omega) (by omega)
    have hnx:=D9 (x:=5) hD hk (by unfold mh;rw[List.getElem?_replicate,if_pos hk])
    rw[Int.toNat_natCast]at e7 zF
    have e:setAt (flat (jC mh 30 k)) (k*1) [.int .i64 5]=flat (jC mh 30 (k+1)):=zF.trans (congrArg flat hnx)
    simp -implicitDefEqProofs only[go_sem,seval,hlt,hw,h7,e,bL]
    exact⟨⟨by omega,by omega⟩,e7,hJ _ ⟨_,(ai hne).trans h6,bD,fun y hy hz=>(ai hz).trans (hS y hy hz),rfl⟩⟩
   ·obtain⟨S,h6,h7,hS,rfl⟩:=hτ
    have hlt:decide ((30:Int)<30)=false:=by decide
    show fD _ _ _ ⟨[(2,.arr b6 0 288 288),(3,.arr b7 0 30 30),(34,.int .i64 30),(35,.int .i64 30)],[],S⟩
    rw[D7 (l:=mh) (n:=30) rfl]at h7
    simp -implicitDefEqProofs only[go_sem,seval,hlt,bL]
    refine A8 (l:=mi) h6 rL (by decide) ?_
    simp -implicitDefEqProofs only[go_sem,seval,bL]
    have h7':(S.del b6) b7=some (.cells (flat mh)):=by
     unfold ae.del
     rw[if_neg hne.symm];exact h7
    refine A8 (l:=mh) h7' rfl (by decide) ?_
    simp -implicitDefEqProofs only[go_sem,seval,bL]
    subst hQ
    refine⟨rfl,?_⟩
    funext x
    unfold ae.del
    by_cases h1:x=b7
    ·rw[if_pos h1,h1,n7]
    ·rw[if_neg h1]
     by_cases h2:x=b6
     ·rw[if_pos h2,h2,n6]
     ·rw[if_neg h2];exact hS x h2 h1
section
variable{s0 s:ae}{b:List UInt8}{most:Int}{B BR:Nat}{z:ZS}{Q:List AV->ae->Prop}
theorem Pd(hS:oZ s0 s b most B BR z)(hb:b.length<72057594037927936)(hz:ZI b most z)
 (hq:∀s' p q,oZ s0 s' b most B BR (mf (ah b) z).2.2->((mf (ah b) z).2.2.e≠0->ptr p/\ptr q)->((mf (ah b) z).2.2.e=0->∃t d:HT,p=.ref t.B 0/\q=.ref d.B 0/\gF s' t/\gF s' d/\t.lens=(mf (ah b) z).1/\d.lens=(mf (ah b) z).2.1)->Q [p,q] s'):FN prog 242 [.ref B 0] s Q:=by
 have bX:room=140737488355328:=rfl
 refine FS 94 [⟨2,true,none⟩,⟨3,true,none⟩] 0x30fbb04e8d930906a6ce9186a6012735d085f36960859c30a8373a66099aa65ac61af5e3e9e94ceb6f55c66999bc2e5df0914600b69d857af96ed7f53b170088f0ef9fca3d7a4da0751defc4a3d5ebcd27f7845e0efb680b7b7fc5fb8e73d4ed5820f421dbdb996ea4a967b37944fed8612289fe5dbcd6ff6f55f431a65bc584bcb9ac16544d949c322f81bceea03a7fb48eb99dcb45ef459ede0700ada150fcb67ab05ededdc9b038681685c1b496a6cec4fe97eb74e6ca042b156a71e7e25c027e80741f3205d524cc4c497bf809af44bcea9c93b9255977df14aa18cc4ccbccff0c31d9dee3800af16e3050b1cad14fb7515d5dd7308269a7a2529a0d6a8778d0718ec835fc742492e03476fc13bdd13502072c3e38e15ba8ef29dbd6eafaa0c1e25eb769a26596f7c81914831a02cfd98a78ce6723f439b30a577721efcd8edf40d8f5ed5269e9fbca9135115c3cd562594f181ca982d79efb4f7b90833c13d7d88437a2823687f0c9f543d62bdd1e0cc3eadd791254ac91e879b11348aa1b86cd83ac23a9ad54492b816855f74b13ea65388478b ?_
 simp -implicitDefEqProofs only[go_sem,seval,bL]
 have p5:(2:Int)^5=32:=by decide
 have p4:(2:Int)^4=16:=by decide
 have h1:=dy (b:=b) (n:=5) hz.1
 have h2:=dy (b:=b) (n:=5) h1.1
 have h3:=dy (b:=b) (n:=4) h2.1
 have hz1:ZI b most (aB (ah b) 5 z).2:=⟨h1.1,by rw[h1.2.2.2.2.1];exact hz.2⟩
 have hz2:ZI b most (aB (ah b) 5 (aB (ah b) 5 z).2).2:=⟨h2.1,by rw[h2.2.2.2.2.1];exact hz1.2⟩
 have hH:jW (ah b) z=((aB (ah b) 5 z).1+257,(aB (ah b) 5 (aB (ah b) 5 z).2).1+1,(aB (ah b) 4 (aB (ah b) 5 (aB (ah b) 5 z).2).2).1+4,if(aB (ah b) 5 z).1+257>286\/(aB (ah b) 5 (aB (ah b) 5 z).2).1+1>30 then(aB (ah b) 4 (aB (ah b) 5 (aB (ah b) 5 z).2).2).2.fail 11 else(aB (ah b) 4 (aB (ah b) 5 (aB (ah b) 5 z).2).2).2):=rfl
 have hHl:=Mt (b:=b) hz.1
 refine yx hS hb (n:=5) (by decide) hz fun s1 hS1 q1 q2=>?_
 simp -implicitDefEqProofs only[go_sem,seval,bL]
 refine yx hS1 hb (n:=5) (by decide) hz1 fun s2 hS2 q3 q4=>?_
 simp -implicitDefEqProofs only[go_sem,seval,bL]
 refine yx hS2 hb (n:=4) (by decide) hz2 fun s3 hS3 q5 q6=>?_
 clear hS hS1 hS2 q1 q2 q3 q4 q5 q6
 rw[p5]at h1 h2
 rw[p4]at h3
 generalize aB (ah b) 4 (aB (ah b) 5 (aB (ah b) 5 z).2).2=k1 at*
 generalize aB (ah b) 5 (aB (ah b) 5 z).2=m1 at*
 generalize aB (ah b) 5 z=n1 at*
 have e1:aC (aC (n1.1+256)+1)=n1.1+257:=by rw[ar (n:=n1.1+256) (by omega) (by omega),ar (by omega) (by omega)];omega
 have e2:aC (m1.1+1)=m1.1+1:=ar (by omega) (by omega)
 have e3:aC (k1.1+4)=k1.1+4:=ar (by omega) (by omega)
 simp -implicitDefEqProofs only[go_sem,Nat.reduceBEq,Nat.reduceAdd,Nat.reduceMul,Nat.reduceLeDiff,Nat.reduceEqDiff,Nat.reduceBNe,UInt8.reduceToNat,UInt32.reduceToNat,e1,e2,e3,bL]
 obtain⟨N,M,K,Z4,hN⟩:∃N M K Z4,jW (ah b) z=(N,M,K,Z4):=⟨_,_,_,_,rfl⟩
 rw[hN]at hH hHl
 injection hH with a1 hH
 injection hH with a2 hH
 injection hH with a3 a4
 rw[<-a1,<-a2]at*
 rw[<-a3]at*
 clear a1 a2 a3 e1 e2 e3 h1 h2 h3 hz1 hz2
 simp only at hHl
 refine(?fst:(∀s4,oZ s0 s4 b most B BR Z4->(?G:ae->Prop) s4)->_) ?rest
 case fst=>
  intro rest
  refine⟨fun hc=>?_,fun hc=>?_⟩
  ·refine wC hS3 11 fun s4 hS4 _ _=>?_
   rw[if_pos (by simp at hc;omega)]at a4
   rw[<-a4]at hS4
   simp -implicitDefEqProofs only[go_sem,Nat.reduceBEq,Nat.reduceAdd,Nat.reduceMul,Nat.reduceLeDiff,Nat.reduceEqDiff,Nat.reduceBNe,UInt8.reduceToNat,UInt32.reduceToNat,bL]
   exact rest s4 hS4
  ·rw[if_neg (by simp at hc;omega)]at a4
   rw[<-a4]at hS3
   exact rest s3 hS3
 clear hS3 a4
 intro s4 hS4
 refine⟨by omega,by omega,by omega,fun bo hbo=>?_⟩
 refine FE.app (yc (r:=qC) rfl) ?_
 have ho0:s0 bo=none:=by
  cases h:s0 bo with
  |none=>rfl
  |some o=>rw[hS4.sub _ _ h]at hbo;cases hbo
 have hoB:bo≠B:=fun e=>by subst e;rw[hS4.hB]at hbo;cases hbo
 have hoR:bo≠BR:=fun e=>by subst e;rw[hS4.hR]at hbo;cases hbo
 have hz4:ZI b most Z4:=⟨hHl.1,by rw[hHl.2.2.1];exact hz.2⟩
 have hK:(qC.length:Int)=19:=rfl
 have hL:part qC 0 K=qC.take K.toNat:=by
  unfold part
  rw[Int.sub_zero];rfl
 have hLb:∀x∈qC.take K.toNat,0<=x/\x<19:=fun x hx=>by
  have:∀x∈qC,0<=x/\x<19:=by decide
  exact this x (List.mem_of_mem_take hx)
 have hLl:(qC.take K.toNat).length<=19:=by
  rw[List.length_take]
  have:qC.length=19:=rfl
  omega
 simp -implicitDefEqProofs only[go_sem,Nat.reduceBEq,Nat.reduceAdd,Nat.reduceMul,Nat.reduceLeDiff,Nat.reduceEqDiff,Nat.reduceBNe,UInt8.reduceToNat,UInt32.reduceToNat,bL]
 refine⟨⟨by omega,by omega,by omega⟩,?_⟩
 rw[hL]
 have hdL:nV (ah b) z=ym (ah b) (Jc (ah b) (qC.take K.toNat) (List.replicate 19 0) Z4).1 (N+M).toNat ((N+M).toNat+1) [] (kI (Jc (ah b) (qC.take K.toNat) (List.replicate 19 0) Z4).1 (Jc (ah b) (qC.take K.toNat) (List.replicate 19 0) Z4).2):=by
  unfold nV
  rw[hN]
 have hOl:=Lj (b:=b) (qC.take K.toNat) (List.replicate 19 0) Z4 hz4.1
 generalize hO:Jc (ah b) (qC.take K.toNat) (List.replicate 19 0) Z4=O at hdL hOl
 generalize qC.take K.toNat=L at hLb hLl hO
 clear hL hK
 refine iq L.length (fun k τ=>∃(S:ae)(of:List Int)(Zk:ZS),oZ s0 S b most B BR Zk/\ZI b most Zk/\S bo=some (.cells (flat of))/\of.length=19/\Jc (ah b) (L.drop k) of Zk=O/\τ=⟨[(0,.ref B 0),(4,.int .i64 N),(5,.int .i64 M),(7,.arr bo 0 19 19),(41,.sl false 1 L.length (flat L)),(42,.int .i64 L.length),(43,.int .i64 k)],[],S⟩) (by omega) ?_ (fun k hk J τ hτ hJ=>?_) (fun J τ hτ=>?_)
 ·exact⟨_,List.replicate 19 0,Z4,hS4.off ho0 hoB hoR (fun y hy=>ai hy),hz4,bD,rfl,hO,rfl⟩
 ·obtain⟨S,of,Zk,hS,hzk,hSo,hof,hOk,rfl⟩:=hτ
  have hlt:decide ((k:Int)<(L.length:Int))=true:=by simp;omega
  have hw:aC ((k:Int)+1)=((k+1:Nat):Int):=by rw[ar (by omega) (by omega)];omega
  have hx:=hLb (ix L (k:Int)) (by rw[gv hk];exact List.getElem_mem _)
  rw[List.drop_eq_getElem_cons hk,Jc,<-gv hk]at hOk
  simp -implicitDefEqProofs only[go_sem,seval,hlt,bL]
  generalize ix L (k:Int)=x at hx hOk
  refine⟨⟨by omega,by omega⟩,?_⟩
  have hn:=dy (b:=b) (n:=3) hzk.1
  refine yx hS hb (n:=3) (by decide) hzk fun S2 hS2 _ Oh=>?_
  have agA:S2 bo=some (.cells (flat of)):=(Oh bo hoB hoR).trans hSo
  have zF:setAt (flat of) (x.toNat*1) [.int .i64 (aB (ah b) 3 Zk).1]=flat (Hl of x (aB (ah b) 3 Zk).1):=Is of x (aB (ah b) 3 Zk).1 1 rfl
  have e7:=(EV of (n:=1) rfl (j:=x) hx.1 (by omega)).1
  simp -implicitDefEqProofs only[go_sem,seval,agA,zF,hw,bL]
  refine⟨⟨by omega,by omega⟩,e7,?_⟩
  exact hJ _ ⟨_,Hl of x (aB (ah b) 3 Zk).1,(aB (ah b) 3 Zk).2,hS2.off ho0 hoB hoR (fun y hy=>ai hy),⟨hn.1,by rw[hn.2.2.2.2.1];exact hzk.2⟩,bD,by rw[E4 of hx.1 (by omega)];exact hof,hOk,rfl⟩
 ·obtain⟨S,of,Zk,hS,hzk,hSo,hof,hOk,rfl⟩:=hτ
  have hlt:decide ((L.length:Int)<(L.length:Int))=false:=by simp
  rw[List.drop_eq_nil_of_le (Nat.le_refl _),Jc]at hOk
  subst hOk
  simp -implicitDefEqProofs only[go_sem,seval,hlt,bL]
  refine A8 (l:=of) hSo hof (by decide) ?_
  have hS5:oZ s0 (S.del bo) b most B BR Zk:=hS.off ho0 hoB hoR (fun y hy=>by unfold ae.del;rw[if_neg hy])
  simp -implicitDefEqProofs only[go_sem,seval,bL]
  simp only at hdL hOl
  have hc:=wv of Zk
  have hz6:ZI b most (kI of Zk):=⟨by rw[hc.1];exact hzk.1,by rw[hc.2.1];exact hzk.2⟩
  have hnm:aC (N+M)=(((N+M).toNat:Nat):Int):=by rw[ar (by omega) (by omega)];omega
  refine pV hS5 hof (fun S6 hS6 he ht=>?_) (fun S6 t hS6 he ht hx hl=>?_)
  ·simp -implicitDefEqProofs only[go_sem,seval,bL]
   refine UO hS6 he _ ?_
   have hB:=hS6.hB
   rw[Rp he]at hdL
   have hdT:mf (ah b) z=([],[],kI of Zk):=by
    unfold mf
    rw[hdL]
    exact if_pos he
   rw[hdT]at hq
   have hcc:((kI of Zk).e !=0)=true:=by simpa using he
   simp -implicitDefEqProofs only[go_sem,seval,hB,hcc,bL]
   exact hq S6 _ _ hS6 (fun _=>⟨.inl rfl,.inl rfl⟩) (fun e=>absurd e he)
  ·simp -implicitDefEqProofs only[go_sem,seval,hnm,bL]
   refine UP hS6 hb hz6 hx (by omega) fun S7 o hS7 ho=>?_
   rw[hl]at ho hS7
   rw[<-hdL]at ho hS7
   have hB:=hS7.hB
   have hdl:=Mu (b:=b) hz.1
   rw[hN]at hdl
   generalize hD:nV (ah b) z=D at hdL hdl ho hS7 hB
   simp -implicitDefEqProofs only[go_sem,Nat.reduceBEq,Nat.reduceAdd,Nat.reduceMul,Nat.reduceLeDiff,Nat.reduceEqDiff,Nat.reduceBNe,UInt8.reduceToNat,UInt32.reduceToNat,hB,bL]
   refine⟨fun he=>?_,fun he=>?_⟩
   ·have he:D.2.e≠0:=by simpa using he
    have hdT:mf (ah b) z=([],[],D.2):=by
     unfold mf
     rw[hD]
     exact if_pos he
    rw[hdT]at hq
    exact hq S7 _ _ hS7 (fun _=>⟨.inl rfl,.inl rfl⟩) (fun e=>absurd e he)
   ·have he:D.2.e=0:=by simpa using he
    have ho:=ho he
    obtain⟨h1,h2⟩:=hdl.2.2.2 he
    simp only at h2
    have hdT:mf (ah b) z=(D.1.take N.toNat,D.1.drop N.toNat,kI (D.1.drop N.toNat) (kI (D.1.take N.toNat) (if D.1.getD 256 0=0 then D.2.fail 11 else D.2))):=by
     unfold mf
     rw[hD,hN]
     exact if_neg (by simp[he])
    rw[hdT]at hq
    subst ho
    have hix:ix D.1 256=D.1.getD 256 0:=by
     have h3:256<D.1.length:=by omega
     have:=gv h3
     rw[List.getD_eq_getElem?_getD,List.getElem?_eq_getElem h3]
     exact this
    have hp1:part D.1 0 N=D.1.take N.toNat:=by
     unfold part
     rw[Int.sub_zero];rfl
    have hp2:part D.1 N (D.1.length:Int)=D.1.drop N.toNat:=by
     unfold part
     rw[List.take_of_length_le (by rw[List.length_drop];omega)]
    rw[hix]
    refine⟨⟨by omega,by omega⟩,?_⟩
    refine⟨fun h=>wC hS7 11 fun S8 hS8 _ _=>?_,fun h=>?_⟩
    all_goals first
     |have hS8:oZ s0 S7 b most B BR (if D.1.getD 256 0=0 then D.2.fail 11 else D.2):=by rw[if_neg (by simpa using h)];exact hS7
     |simp -implicitDefEqProofs only[go_sem,Nat.reduceBEq,Nat.reduceAdd,Nat.reduceMul,Nat.reduceLeDiff,Nat.reduceEqDiff,Nat.reduceBNe,UInt8.reduceToNat,UInt32.reduceToNat,bL]
      replace hS8:oZ s0 S8 b most B BR (if D.1.getD 256 0=0 then D.2.fail 11 else D.2):=by rw[if_pos (by simpa using h)];exact hS8
    all_goals
     refine⟨⟨by omega,by omega,by omega⟩,⟨by omega,by omega,by omega⟩,?_⟩
     rw[hp1,hp2]
     generalize(if D.1.getD 256 0=0 then D.2.fail 11 else D.2)=Z7 at*
     have c2:=wv (D.1.drop N.toNat) (kI (D.1.take N.toNat) Z7)
     refine pV hS8 rfl (fun S9 hS9 he9 ht9=>?_) (fun S9 t1 hS9 he9 ht9 hx9 hl9=>?_)
     ·simp -implicitDefEqProofs only[go_sem,seval,bL]
      refine pV hS9 rfl (fun S10 Of KJ _=>?_) (fun S10 t2 Of KJ _ _ _=>absurd (c2.2.2 KJ).1 he9)
      simp -implicitDefEqProofs only[go_sem,seval,bL]
      exact hq S10 _ _ Of (fun _=>⟨.inl rfl,.inl rfl⟩) (fun e=>absurd e KJ)
     ·simp -implicitDefEqProofs only[go_sem,seval,bL]
      refine pV hS9 rfl (fun S10 Of KJ _=>?_) (fun S10 t2 Of KJ agY ag3 agM=>?_)
      ·simp -implicitDefEqProofs only[go_sem,seval,bL]
       exact hq S10 _ _ Of (fun _=>⟨.inr ⟨_,rfl⟩,.inl rfl⟩) (fun e=>absurd e KJ)
      ·simp -implicitDefEqProofs only[go_sem,seval,bL]
       exact hq S10 _ _ Of (fun e=>absurd KJ e) (fun _=>⟨t1,t2,rfl,rfl,agY t1 hx9,ag3,hl9,agM⟩)
theorem PF(hS:oZ s0 s b most B BR z)(hb:b.length<72057594037927936)(hM:most<=16777216)(hz:ZI b most z)(hq:∀s',oZ s0 s' b most B BR (xQ b most z).2->Q [.bool (xQ b most z).1] s'):FN prog 207 [.ref B 0] s Q:=by
 refine FS 74 [⟨2,true,none⟩] 0x582e9f67a1f2d437cd4454f73ae55cfe5337bbc772103c2f44db0c9f6fe4bba59e89de06a11572ff0d8924e2549fba739eb2440e8ed3c38500bb2c8ff0ab8f50b2a7fb062cf24e3a5d957d314dda076051e0822f6719ba06ac958776869e9e140b8a783888234591e99ae93a069ce7ce03897f8e6406848346e5c99267f6d7e335915d1c29679ca75de8d07952ef30447067179795d3ff93c90554b46b60b13bc88ad1ebddd97d936e85ceb5f69f803f9beb909f2ac38594395f31ce0cc1c5f0cb4a4328118ac0e2b0c5cb527081146793e47e7f5b7a225836a3021fa59f50863679debd691cce2d9a6d9dd2dce7da4dafa12bb41e42ad0210be175a6c178824473a ?_
 simp -implicitDefEqProofs only[go_sem,seval,bL]
 have p1:(2:Int)^1=2:=by decide
 have p2:(2:Int)^2=4:=by decide
 have h1:=dy (b:=b) (n:=1) hz.1
 have h2:=dy (b:=b) (n:=2) h1.1
 have hz1:ZI b most (aB (ah b) 1 z).2:=⟨h1.1,by rw[h1.2.2.2.2.1];exact hz.2⟩
 have hz2:ZI b most (aB (ah b) 2 (aB (ah b) 1 z).2).2:=⟨h2.1,by rw[h2.2.2.2.2.1];exact hz1.2⟩
 have hE:∀Zf,(if(aB (ah b) 2 (aB (ah b) 1 z).2).2.e≠0 then(aB (ah b) 2 (aB (ah b) 1 z).2).2 else if(aB (ah b) 2 (aB (ah b) 1 z).2).1=0 then Cj (ah b) most (aB (ah b) 2 (aB (ah b) 1 z).2).2 else if(aB (ah b) 2 (aB (ah b) 1 z).2).1=1 then tI (ah b) most mi mh (8*b.length+2) (aB (ah b) 2 (aB (ah b) 1 z).2).2 else if(aB (ah b) 2 (aB (ah b) 1 z).2).1=2 then Ib b most (aB (ah b) 2 (aB (ah b) 1 z).2).2 else(aB (ah b) 2 (aB (ah b) 1 z).2).2.fail 11)=Zf->xQ b most z=(decide ((aB (ah b) 1 z).1=1)||decide (Zf.e≠0),Zf):=by rintro _ rfl;rfl
 refine yx hS hb (n:=1) (by decide) hz fun s1 hS1 _ _=>?_
 simp -implicitDefEqProofs only[go_sem,seval,bL]
 refine yx hS1 hb (n:=2) (by decide) hz1 fun s2 hS2 _ _=>?_
 clear hS hS1 h1 hz1
 generalize aB (ah b) 1 z=n1 at*
 generalize aB (ah b) 2 n1.2=k at*
 have hB2:=hS2.hB
 simp -implicitDefEqProofs only[go_sem,seval,hB2,bL]
 have hq2:∀Zf,(if k.2.e≠0 then k.2 else if k.1=0 then Cj (ah b) most k.2 else if k.1=1 then tI (ah b) most mi mh (8*b.length+2) k.2 else if k.1=2 then Ib b most k.2 else k.2.fail 11)=Zf->∀s',oZ s0 s' b most B BR Zf->Q [.bool (n1.1==1||Zf.e !=0)] s':=fun Zf h s' hs=>by
  have e1:(Zf.e !=0)=decide (Zf.e≠0):=by rw[Bool.eq_iff_iff];simp
  have e2:(n1.1==1)=decide (n1.1=1):=rfl
  rw[hE Zf h]at hq
  rw[e1,e2]
  exact hq s' hs
 clear hE hq
 refine⟨fun he=>?_,fun he=>⟨fun h0=>?_,fun h0=>⟨fun h1=>?_,fun h1=>⟨fun h2=>?_,fun h2=>?_⟩⟩⟩⟩
 ·exact hq2 _ (if_pos (by simpa using he)) _ hS2
 ·have he:¬k.2.e≠0:=by simpa using he
  refine O9 hS2 hb hM hz2 fun S hS=>?_
  have hB:=hS.hB
  simp -implicitDefEqProofs only[go_sem,seval,hB,bL]
  exact hq2 _ (by rw[if_neg he,if_pos (by simpa using h0)]) _ hS
 ·have he:¬k.2.e≠0:=by simpa using he
  have h3:=Yy
  refine FE.app Yx ?_
  simp -implicitDefEqProofs only[go_sem,seval,bL]
  have he0:k.2.e=0:=by simpa using he
  have kL:kI mi k.2=k.2:=by unfold kI;rw[if_neg (by omega)]
  have kD:kI mh k.2=k.2:=by unfold kI;rw[if_neg (by omega)]
  refine pV hS2 rL (fun S _ he2 _=>absurd he0 (by rw[kL]at he2;exact he2)) (fun S t hS _ _ hx hl=>?_)
  rw[kL]at hS
  simp -implicitDefEqProofs only[go_sem,seval,bL]
  refine pV hS (show mh.length=30 from rfl) (fun S _ he2 _=>absurd he0 (by rw[kD]at he2;exact he2)) (fun S4 d hS4 _ hx2 hd hld=>?_)
  rw[kD]at hS4
  simp -implicitDefEqProofs only[go_sem,seval,bL]
  refine HV hS4 hb hM hz2 (hx2 t hx) hd fun S5 hS5=>?_
  have hB:=hS5.hB
  simp -implicitDefEqProofs only[go_sem,seval,hB,bL]
  refine hq2 _ ?_ _ hS5
  rw[if_neg he,if_neg (by simpa using h0),if_pos (by simpa using h1),hl,hld]
 ·have he:¬k.2.e≠0:=by simpa using he
  have oK:∀S,oZ s0 S b most B BR (Ib b most k.2)->Q [.bool (n1.1==1||(Ib b most k.2).e !=0)] S:=fun S h=>hq2 _ (by rw[if_neg he,if_neg (by simpa using h0),if_neg (by simpa using h1),if_pos (by simpa using h2)]) _ h
  refine Pd hS2 hb hz2 fun S p q hS hp ht=>?_
  have hZ:=(Mv hz2).1
  have e0:Ib b most k.2=tI (ah b) most (mf (ah b) k.2).1 (mf (ah b) k.2).2.1 (8*b.length+2) (mf (ah b) k.2).2.2:=rfl
  rw[e0]at oK
  clear e0 hq2
  generalize mf (ah b) k.2=T at hZ oK hS hp ht
  obtain⟨T1,T2,T3⟩:=T
  dsimp only at hZ oK hS hp ht
  by_cases hd:T3.e=0
  ·obtain⟨t,d,rfl,rfl,h3,h4,h5,h6⟩:=ht hd
   subst h5 h6
   simp -implicitDefEqProofs only[go_sem,seval,bL]
   refine HV hS hb hM hZ h3 h4 fun S5 hS5=>?_
   have hB:=hS5.hB
   simp -implicitDefEqProofs only[go_sem,seval,hB,bL]
   exact oK _ hS5
  ·rw[Yl hd]at oK
   have hB:=hS.hB
   obtain⟨hp1,hp2⟩:=hp hd
   have hp3:=hp1
   have hp4:=hp2
   rcases hp1 with rfl|⟨x,rfl⟩<;>rcases hp2 with rfl|⟨y,rfl⟩
   all_goals
    simp -implicitDefEqProofs only[go_sem,seval,bL]
    refine TT hS hd hp3 hp4 ?_
    simp -implicitDefEqProofs only[go_sem,seval,hB,bL]
    exact oK _ hS
 ·have he:¬k.2.e≠0:=by simpa using he
  refine wC hS2 11 fun S hS _ _=>?_
  have hB:=hS.hB
  simp -implicitDefEqProofs only[go_sem,seval,hB,bL]
  exact hq2 _ (by rw[if_neg he,if_neg (by simpa using h0),if_neg (by simpa using h1),if_neg (by simpa using h2)]) _ hS
end
def muI(b:List UInt8)(BR:Nat)(τ:St):Nat:=match τ.s BR with|some (.cells (.int .i64 n::_))=>(8*b.length -n).toNat|_=>0
theorem YW{b:List UInt8}{most:Int}{s:ae}{ow:Bool}{Q:List AV->ae->Prop}(hb:b.length<140737488355328)(hm1:-9223372036854775808<=most)(hm2:most<=9223372036854775807)(hq:∀s' w,Sub s s'->Q [.sl w 1 (qp b most).1.length (flat (qp b most).1),.int .i64 (qp b most).2.1,.int .i64 (qp b most).2.2] s'):FN prog 172 [.sl ow 1 b.length (flat b),.int .i64 most] s Q:=by
 have bX:room=140737488355328:=rfl
 refine FS 46 [⟨4,true,none⟩,⟨5,true,none⟩,⟨6,true,none⟩] 0xb74af5e77c9cf87ab6c44c3623030d381037e6b7c6bee03bc506c88aa883f5abf7293dd4da46d87796d22ee74520ab461f7cbb0667e5459ea8d40142f448a9e29b8583f621cc2fcc7dd8ee147f231958542a1a52831b363a384a0841b108674ba6c24de39f9203b2a3e8a92396a83cfeca167c8d9ea13e975eb95ba24c96b0315b26ad23f5b2e34c60bfd1e92f9b09cdaed6e44df2da5fba1d8658687d04862d7af4a79d8cac5e60b005b200798d0f2e49c ?_
 simp -implicitDefEqProofs only[go_sem,seval,bL]
 refine⟨fun hc=>?_,fun hc=>?_⟩
 ·have e:qp b most=([],0,2):=if_pos (by simpa using hc)
  rw[e]at hq
  exact hq s _ fun _ _ h=>h
 ·have hc:¬(most<0\/most>16777216):=by simpa using hc
  refine Vt (by omega) fun BR hBR=>?_
  simp -implicitDefEqProofs only[go_sem,seval,bL]
  intro B hB
  have hne:B≠BR:=fun e=>by subst e;rw[bD]at hB;cases hB
  have hB0:s B=none:=by rw[ai hne]at hB;exact hB
  have hS:oZ s ((s.set BR (.cells [.int .i64 0,.bool false,.bool true,.sl false 1 b.length (flat b)])).set B (.cells [.ref BR 0,.int .i64 0,.sl true 1 0 [],.int .i64 most])) b most B BR ⟨0,0,[]⟩:=by
   refine⟨hB0,hBR,hne,fun x o hx=>?_,bD,(ai hne.symm).trans bD⟩
   have h1:x≠B:=fun e=>by subst e;rw[hB0]at hx;cases hx
   have h2:x≠BR:=fun e=>by subst e;rw[hBR]at hx;cases hx
   rw[ai h1,ai h2];exact hx
  have hZ0:ZI b most ⟨0,0,[]⟩:=⟨Nat.zero_le _,by simp;omega⟩
  refine⟨fun τ=>∃S Z f,oZ s S b most B BR Z/\ZI b most Z/\8*b.length+2<=f+Z.at_/\yb b most f Z=yb b most (8*b.length+2) ⟨0,0,[]⟩/\τ=⟨[(7,.ref B 0)],[],S⟩,muI b BR,⟨_,_,_,hS,hZ0,by simp,rfl,rfl⟩,?_⟩
  clear hS hZ0 hB hBR hB0
  rintro τ ⟨S,Z,f,hS,hZ,hf,hI,rfl⟩
  obtain⟨f,rfl⟩:∃g,f=g+1:=⟨f -1,by have:=hZ.1;omega⟩
  rw[yb]at hI
  have hk:=L8 hZ
  have hV:qp b most=if(yb b most (8*b.length+2) ⟨0,0,[]⟩).e≠0 then([],0,(yb b most (8*b.length+2) ⟨0,0,[]⟩).e)else((yb b most (8*b.length+2) ⟨0,0,[]⟩).out,((((yb b most (8*b.length+2) ⟨0,0,[]⟩).at_+7)/8:Nat):Int),0):=if_neg hc
  have hmu:∀S1 Z1 e,oZ s S1 b most B BR Z1->muI b BR ⟨e,[],S1⟩=8*b.length -Z1.at_:=fun S1 Z1 e h=>by
   unfold muI
   dsimp only
   rw[h.hR]
   show((8*b.length:Nat) -(Z1.at_:Int):Int).toNat=_
   omega
  have m0:=hmu S Z [(7,.ref B 0)] hS
  simp -implicitDefEqProofs only[go_sem,seval,bL]
  refine PF hS (by omega) (by omega) hZ fun S2 hS2=>?_
  simp -implicitDefEqProofs only[go_sem,seval,bL]
  generalize hL:yb b most (8*b.length+2) ⟨0,0,[]⟩=L at*
  generalize xQ b most Z=W at*
  obtain⟨w,Z2⟩:=W
  dsimp only at hI hk hS2
  cases w with
  |false=>
   have h3:=hk.2.2 rfl
   rw[if_neg Bool.false_ne_true]at hI
   have m1:=hmu S2 Z2 [(7,.ref B 0)] hS2
   have h4:=hk.1.1
   simp -implicitDefEqProofs only[go_sem,seval,bL]
   refine⟨⟨_,_,_,hS2,hk.1,by omega,hI,rfl⟩,?_⟩
   rw[m0,m1];omega
  |true=>
   rw[if_pos rfl]at hI
   subst hI
   have hB:=hS2.hB
   have hR:=hS2.hR
   simp -implicitDefEqProofs only[go_sem,seval,hB,bL]
   refine⟨fun he=>?_,fun he=>?_⟩
   ·rw[if_pos (by simpa using he)]at hV
    rw[hV]at hq
    exact hq S2 _ hS2.sub
   ·rw[if_neg (by simpa using he)]at hV
    rw[hV]at hq
    have h4:=hk.1.1
    have hA:iU (EZ b Z2).Reader=some (Z2.at_:Int):=by
     unfold iU bH
     simp only[Bool.false_or,Bool.not_true,aJ,Bool.false_eq_true,if_false]
    refine⟨[.int .i64 (Z2.at_:Int)],rfl,we hR hA,?_⟩
    have e1:aC ((Z2.at_:Int)+7)=(Z2.at_:Int)+7:=ar (by omega) (by omega)
    have e2:aC (((Z2.at_:Int)+7).tdiv 8)=(((Z2.at_+7)/8:Nat):Int):=by
     have e3:((Z2.at_:Int)+7).tdiv 8=(((Z2.at_+7)/8:Nat):Int):=by rw[Int.tdiv_eq_ediv_of_nonneg (by omega)];omega
     rw[e3,ar (by omega) (by omega)]
    simp -implicitDefEqProofs only[go_sem,Nat.reduceBEq,Nat.reduceAdd,Nat.reduceMul,Nat.reduceLeDiff,Nat.reduceEqDiff,Nat.reduceBNe,UInt8.reduceToNat,UInt32.reduceToNat,e1,e2,bL]
    exact⟨by decide,hq S2 _ hS2.sub⟩
def II:IC:=dec 0x41461efc481758300f902e78058bc
def IJ:IC:=dec 0x7ffbfe1121e96ebd1a4c4faedef451113b472e2a6f91bcb76bd55021e6afd1c06cbbea34843863bb1d905af7c1340eac5defa84cd06c4a4a9b063fa953796e7865cbdd76e1cd1fbe6c48b51d796e0810eeb99e5447b85520694510cea225b7d7218d92ebfbdc4c62bd6b459a1647852e4437eecff9acc2688bb153c860a8e61f3e2b1e7a1e9cbb4a7c9de69abd49cedef5e121434f2c527bdb4f73822c28a888fc349722295be8b2d86c38ab1b3678cc9b4cee9f81155f702f6c1a8d917b1e849538ee425e8ee939f6dee8aa3a03390c09e6ceb209c8ce1c53912007992312bea7e2bd848956ce3636c774cc792f95c7a63cd7f2c466d1b839e7d074a627
def BZ:List jB:=[⟨4,false,some (1,false)⟩,⟨5,false,some (1,false)⟩,⟨6,false,some (1,false)⟩]
theorem UM:Qr prog 138 55 BZ II 170 [4,5,6] IJ=true:=by kernel_rfl
def IH:IC:=dec 0x311215904b49e9dc64f8d5ba9932b969f247130593e8f59dbc9441ad
theorem Re:eH prog 170 14 [] IH=true:=by kernel_rfl
section
variable{b:List UInt8}{most:Int}
theorem MM:∀(f:Nat)(Z:ZS),ZI b most Z->ZI b most (yb b most f Z)
 |0,_,h=>h
 |f+1,Z,h=>by
  rw[yb]
  have hk:=(L8 h).1
  split
  ·exact hk
  ·exact MM f _ hk
theorem UC:(qp b most).1.length<=16777216/\0<=(qp b most).2.1/\(qp b most).2.1<=b.length:=by
 unfold qp
 split
 ·exact⟨Nat.zero_le _,Int.le_refl _,by show(0:Int)<=_;omega⟩
 ·rename_i hc
  have h:=MM (b:=b) (most:=most) (8*b.length+2) ⟨0,0,[]⟩ ⟨Nat.zero_le _,by simp;omega⟩
  generalize yb b most (8*b.length+2) ⟨0,0,[]⟩=Z at h
  obtain⟨h1,h2⟩:=h
  dsimp only
  split
  ·exact⟨Nat.zero_le _,Int.le_refl _,by show(0:Int)<=_;omega⟩
  ·dsimp only
   omega
theorem Uq(h:QG b=0):2<=b.length:=by
 unfold QG at h
 split at h
 ·simp
 ·cases h
end
structure JV(s S:ae)(b4 b5 b6:Nat)(l:List UInt8)(n e:Int):Prop where
 n4:s b4=none
 n5:s b5=none
 n6:s b6=none
 d45:b4≠b5
 d46:b4≠b6
 d56:b5≠b6
 sub:Sub s S
 h4:∃w,S b4=some (.cells [.sl w 1 l.length (flat l)])
 h5:S b5=some (.cells [.int .i64 n])
 h6:S b6=some (.cells [.int .i64 e])
section
variable{s S S':ae}{b4 b5 b6:Nat}{l:List UInt8}{n e:Int}{Q:List AV->ae->Prop}
theorem JV.DI(h:JV s S b4 b5 b6 l n e)(e':Int):JV s (S.set b6 (.cells [.int .i64 e'])) b4 b5 b6 l n e':=
 ⟨h.n4,h.n5,h.n6,h.d45,h.d46,h.d56,fun x o hx=>by
   have:x≠b6:=fun e=>by subst e;rw[h.n6]at hx;cases hx
   rw[ai this];exact h.sub x o hx,by rw[ai h.d46];exact h.h4,by rw[ai h.d56];exact h.h5,bD⟩
theorem JV.DH(h:JV s S b4 b5 b6 l n e)(n':Int):JV s (S.set b5 (.cells [.int .i64 n'])) b4 b5 b6 l n' e:=
 ⟨h.n4,h.n5,h.n6,h.d45,h.d46,h.d56,fun x o hx=>by
   have:x≠b5:=fun e=>by subst e;rw[h.n5]at hx;cases hx
   rw[ai this];exact h.sub x o hx,by rw[ai h.d45];exact h.h4,bD,by rw[ai h.d56.symm];exact h.h6⟩
theorem JV.GZ(h:JV s S b4 b5 b6 l n e)(w:Bool)(l':List UInt8):JV s (S.set b4 (.cells [.sl w 1 l'.length (flat l')])) b4 b5 b6 l' n e:=
 ⟨h.n4,h.n5,h.n6,h.d45,h.d46,h.d56,fun x o hx=>by
   have:x≠b4:=fun e=>by subst e;rw[h.n4]at hx;cases hx
   rw[ai this];exact h.sub x o hx,⟨w,bD⟩,by rw[ai h.d45.symm];exact h.h5,by rw[ai h.d46.symm];exact h.h6⟩
theorem JV.more(h:JV s S b4 b5 b6 l n e)(hs:Sub S S'):JV s S' b4 b5 b6 l n e:=⟨h.n4,h.n5,h.n6,h.d45,h.d46,h.d56,fun x o hx=>hs _ _ (h.sub x o hx),by obtain⟨w,h4⟩:=h.h4;exact⟨w,hs _ _ h4⟩,hs _ _ h.h5,hs _ _ h.h6⟩
theorem U2(h:JV s S b4 b5 b6 l n e)(hq:∀s',JV s s' b4 b5 b6 (if e≠0 then[]else l) (if e≠0 then 0 else n) e->Q [] s'):FND prog 170 [.ref b4 0,.ref b5 0,.ref b6 0] S Q:=by
 refine FND.of (jO mix) Re rfl (Nat.le_of_ble_eq_true rfl) ?_
 rw[IH]
 conv in dec _=>reduce
 obtain⟨w,h4⟩:=h.h4
 have h5:=h.h5
 have h6:=h.h6
 simp -implicitDefEqProofs only[go_sem,seval,h6,h4,h5,ai h.d45,ai h.d45.symm,bL]
 refine⟨fun he=>?_,fun he=>?_⟩
 ·have he:e≠0:=by simpa using he
  rw[if_pos he,if_pos he]at hq
  exact hq _ ((h.GZ true []).DH 0)
 ·have he:¬e≠0:=by simpa using he
  rw[if_neg he,if_neg he]at hq
  exact hq _ h
end
theorem aaG{b:List UInt8}{most:Int}{s:ae}{ow:Bool}{Q:List AV->ae->Prop}(hb:b.length<140737488355328)(hm1:-9223372036854775808<=most)(hm2:most<=9223372036854775807)(hq:∀s',Sub s s'->Q [.sl false 1 (rl b most).1.length (flat (rl b most).1),.int .i64 (rl b most).2.1,.int .i64 (rl b most).2.2] s'):FN prog 138 [.sl ow 1 b.length (flat b),.int .i64 most] s Q:=by
 refine FN.ofD (jO mix) UM rfl (Nat.le_of_ble_eq_true rfl) ?_
 rw[II]
 conv in dec _=>reduce
 simp -implicitDefEqProofs only[go_sem,seval,bL]
 intro b4 n4 b5 n5 b6 n6
 refine⟨[b4,b5,b6],rfl,?_⟩
 have d45:b4≠b5:=fun e=>by subst e;rw[bD]at n5;cases n5
 have d56:b5≠b6:=fun e=>by subst e;rw[bD]at n6;cases n6
 rw[ai d56.symm]at n6
 have d46:b4≠b6:=fun e=>by subst e;rw[bD]at n6;cases n6
 rw[ai d46.symm]at n6
 rw[ai d45.symm]at n5
 have hU:JV s (((s.set b4 (.cells [.sl true 1 0 []])).set b5 (.cells [.int .i64 0])).set b6 (.cells [.int .i64 0])) b4 b5 b6 [] 0 0:=by
  refine⟨n4,n5,n6,d45,d46,d56,fun x o hx=>?_,⟨true,by rw[ai d46,ai d45,bD];rfl⟩,by rw[ai d56,bD],bD⟩
  have h1:x≠b4:=fun e=>by subst e;rw[n4]at hx;cases hx
  have h2:x≠b5:=fun e=>by subst e;rw[n5]at hx;cases hx
  have h3:x≠b6:=fun e=>by subst e;rw[n6]at hx;cases hx
  rw[ai h3,ai h2,ai h1];exact hx
 generalize((s.set b4 (.cells [.sl true 1 0 []])).set b5 (.cells [.int .i64 0])).set b6 (.cells [.int .i64 0])=S at hU⊢
 clear n4 n5 n6
 have fin:∀(S:ae)(l:List UInt8)(n e:Int),JV s S b4 b5 b6 l n e->rl b most=(if e≠0 then[]else l,if e≠0 then 0 else n,e)->Vz prog 170 [b4,b5,b6] BZ Q .ret ⟨[(4,.ref b4 0),(5,.ref b5 0),(6,.ref b6 0)],[],S⟩:=by
  intro S l n e h hv
  refine U2 h fun s' h'=>?_
  obtain⟨w,h4⟩:=h'.h4
  have h5:=h'.h5
  have h6:=h'.h6
  rw[hv]at hq
  rw[BZ]
  simp -implicitDefEqProofs only[go_sem,seval,h4,h5,h6,bL]
  exact hq s' h'.sub
 have h5:=hU.h5
 have h6:=hU.h6
 obtain⟨w,h4⟩:=hU.h4
 rw[IJ]
 conv in dec _=>reduce
 simp -implicitDefEqProofs only[go_sem,seval,h4,h5,h6,ai d45,ai d45.symm,ai d46,ai d46.symm,ai d56,ai d56.symm,bL]
 refine⟨fun hc=>fin _ [] 0 2 (((hU.GZ true []).DH 0).DI 2) (by rw[rl,if_pos (by simpa using hc)];rfl),fun hc=>?_⟩
 have hc:¬(most<0\/most>16777216):=by simpa using hc
 refine FE.app (DR (adZ b)) ?_
 simp -implicitDefEqProofs only[go_sem,Nat.reduceBEq,Nat.reduceAdd,Nat.reduceMul,Nat.reduceLeDiff,Nat.reduceEqDiff,Nat.reduceBNe,UInt8.reduceToNat,UInt32.reduceToNat,h4,h5,h6,ai d45,ai d45.symm,ai d46,ai d46.symm,ai d56,ai d56.symm,bL]
 refine⟨fun he=>?_,fun he=>?_⟩
 ·have he:QG b≠0:=by simpa using he
  exact fin _ [] 0 (QG b) ((((hU.DI _).GZ true []).DH 0).DI (QG b)) (by rw[rl,if_neg hc,if_pos he,if_pos he,if_pos he])
 have he:QG b=0:=by simpa using he
 have hl:=Uq he
 have hU1:=hU.DI (QG b)
 generalize S.set b6 (.cells [.int .i64 (QG b)])=S1 at hU1⊢
 clear h4 h5 h6 hU
 have hp:part b 2 (b.length:Int)=b.drop 2:=by
  unfold part
  rw[List.take_of_length_le (by rw[List.length_drop];omega)];rfl
 rw[hp]
 refine⟨⟨by omega,by omega⟩,?_⟩
 have hvl:=UC (b:=b.drop 2) (most:=most)
 rw[List.length_drop]at hvl
 have hv:rl b most=if(qp (b.drop 2) most).2.2≠0 then([],0,(qp (b.drop 2) most).2.2)else if(b.length:Int)<(qp (b.drop 2) most).2.1+6 then([],0,10)else if(b.drop ((qp (b.drop 2) most).2.1+2).toNat).take 4≠X6 (LQ (qp (b.drop 2) most).1)then([],0,12)else((qp (b.drop 2) most).1,(qp (b.drop 2) most).2.1+6,0):=by rw[rl,if_neg hc,if_neg (by simpa using he)]
 refine YW (by rw[List.length_drop];omega) hm1 hm2 fun S2 w2 hs2=>?_
 have hU2:=hU1.more hs2
 clear hU1 hs2 hp
 generalize qp (b.drop 2) most=r at hv hvl⊢
 obtain⟨l,m,e⟩:=r
 dsimp only at hv hvl
 have h5:=hU2.h5
 have h6:=hU2.h6
 obtain⟨w3,h4⟩:=hU2.h4
 have e1:aC (m+2)=m+2:=ar (by omega) (by omega)
 have e2:aC (m+2+4)=m+2+4:=ar (by omega) (by omega)
 have e3:aC ((b.length:Int) -(m+2))=(b.length:Int) -(m+2):=ar (by omega) (by omega)
 simp -implicitDefEqProofs only[go_sem,seval,h4,h5,h6,e1,e2,e3,ai d45,ai d45.symm,ai d46,ai d46.symm,ai d56,ai d56.symm,bL]
 refine⟨fun he=>?_,fun he=>?_⟩
 ·have he:e≠0:=by simpa using he
  exact fin _ l m e ((((((hU2.GZ _ l).DH m).DI e).GZ _ l).DH m).DI e) (by rw[hv,if_pos he,if_pos he,if_pos he])
 have he:e=0:=by simpa using he
 rw[if_neg (by simpa using he)]at hv
 subst he
 have hUa:=(((hU2.GZ false l).DH m).DI 0).DH (m+2)
 refine⟨fun hlt=>?_,fun hlt=>?_⟩
 ·have hlt:(b.length:Int)<m+6:=by have:=of_decide_eq_true hlt;omega
  exact fin _ l (m+2) 10 (((hUa.GZ false l).DH (m+2)).DI 10) (by rw[hv,if_pos hlt];rfl)
 have hlt:¬(b.length:Int)<m+6:=by have:=of_decide_eq_false hlt;omega
 rw[if_neg hlt]at hv
 have hp:part b (m+2) (m+2+4)=(b.drop (m+2).toNat).take 4:=by
  unfold part
  rw[show(m+2+4 -(m+2)).toNat=4 by omega]
 rw[hp]
 refine⟨⟨by omega,by omega,by omega⟩,_,rfl,Fg (ZM l (by omega)),?_⟩
 simp -implicitDefEqProofs only[go_sem,seval,h4,h5,h6,e1,e2,e3,ai d45,ai d45.symm,ai d46,ai d46.symm,ai d56,ai d56.symm,bL]
 refine⟨_,rfl,AA (ZO _),?_⟩
 simp -implicitDefEqProofs only[go_sem,seval,h4,h5,h6,e1,e2,e3,ai d45,ai d45.symm,ai d46,ai d46.symm,ai d56,ai d56.symm,bL]
 refine⟨_,rfl,AK (r:=((bk.mk ((b.drop (m+2).toNat).take 4)).b==(bk.mk (X6 (LQ l))).b)) rfl,?_⟩
 simp -implicitDefEqProofs only[go_sem,seval,h4,h5,h6,e1,e2,e3,ai d45,ai d45.symm,ai d46,ai d46.symm,ai d56,ai d56.symm,bL]
 refine⟨fun hne=>?_,fun hne=>?_⟩
 ·have hne:(b.drop (m+2).toNat).take 4≠X6 (LQ l):=by simpa using hne
  exact fin _ l (m+2) 12 (((hUa.GZ false l).DH (m+2)).DI 12) (by rw[hv,if_pos hne];rfl)
 ·have hne:¬(b.drop (m+2).toNat).take 4≠X6 (LQ l):=by simpa using hne
  exact fin _ l (m+2+4) 0 (((hUa.GZ false l).DH (m+2+4)).DI 0) (by rw[hv,if_neg hne,show m+6=m+2+4 by omega];rfl)
theorem aaF{b:List UInt8}{most:Int}{s:ae}{ow:Bool}(hb:b.length<140737488355328)(hm1:-9223372036854775808<=most)(hm2:most<=9223372036854775807):FE prog 138 [.sl ow 1 b.length (flat b),.int .i64 most] s [.sl false 1 (rl b most).1.length (flat (rl b most).1),.int .i64 (rl b most).2.1,.int .i64 (rl b most).2.2] s:=FN.ji (aaG hb hm1 hm2 fun s' h=>⟨s,h,rfl,rfl⟩)
def gm(b:List UInt8)(most:Int):Option (List UInt8×Int×Int):=bt (b.length<140737488355328/\-9223372036854775808<=most/\most<=9223372036854775807) (some (rl b most))
theorem Cz{b:List UInt8}{most:Int}{s:ae}{r:List UInt8×Int×Int}(h:gm b most=some r):FE prog 138 [.sl false 1 b.length (flat b),.int .i64 most] s [.sl false 1 r.1.length (flat r.1),.int .i64 r.2.1,.int .i64 r.2.2] s:=by
 unfold gm bt at h
 split at h
 ·rename_i hc
  injection h with h
  subst h
  exact aaF hc.1 hc.2.1 hc.2.2
 ·cases h
end Go.AB
end
section
namespace Go.AB
open Go Go.Sort Go.Proofs Go.Shelf
theorem Dg{G G':Gh}{w w':World}(hn:∀b,G.O b=.none)(h:aG G w G' w'):∃q os,w'=grow (w.drewN q) os:=by
 refine⟨w'.drawn -w.drawn,w'.heap.extract w.heap.size w'.heap.size,?_⟩
 have QJ:w'.heap=w.heap++w'.heap.extract w.heap.size w'.heap.size:=by
  apply Array.ext_getElem?
  intro i
  rcases Nat.lt_or_ge i w.heap.size with hi|hi
  ·rw[Array.getElem?_append_left hi];exact h.frame i hi (.inr (hn i))
  ·rw[Array.getElem?_append_right hi,Array.getElem?_extract]
   have e:w.heap.size+(i -w.heap.size)=i:=by omega
   rw[e]
   split
   ·rfl
   ·rename_i h2
    rw[Array.getElem?_eq_none (by omega)]
 have hd:=h.drawn
 have ho:=h.os
 have ht:=h.tape
 have hp:=h.output
 generalize w'.heap.extract w.heap.size w'.heap.size=os at QJ
 obtain⟨hp',tp,dr,o,ou⟩:=w'
 simp only at QJ hd ho ht hp
 subst QJ;subst ho;subst ht;subst hp
 show _={w.drewN (dr -w.drawn)with heap:=w.heap++os}
 unfold World.drewN
 have:w.drawn+(dr -w.drawn)=dr:=by omega
 rw[this]
section
variable{P:Program}{f g:FuncId}{α:Type}[aP α][Inhabited α]{enc:α->List Value}{k:Nat}{cf:α->α->Int}
theorem K6(hfe:∀x y:α,FE P g [.agg (aP.cells x),.agg (aP.cells y)] An [.int .i64 (cf x y)] An)(acX:∀(w:World)(R:Nat->Nat)(x:α),VR w R (.agg (aP.cells x)) (.agg (enc x).toArray))(pd off size:Nat)(w:World):
 CmpLays P g #[] enc k cf pd off size w:=by
 intro m os dk hs x y
 have h:=hfe x y ⟨fun _=>0,fun _=>.none⟩ (sortWorldK enc k w pd off m dk os) #[.agg (enc x).toArray,.agg (enc y).toArray] ⟨fun _ _=>rfl,fun _ _=>rfl⟩ (fun b=>.inl rfl) (fun b o h=>by cases h)
  ⟨rfl,fun j a v hj hv=>by
    match j,hj,hv with
    |0,hj,hv=>cases hj;cases hv;exact acX _ _ x
    |1,hj,hv=>cases hj;cases hv;exact acX _ _ y⟩
 rw[Array.append_empty]
 refine h.mono ?_
 rintro e w' ⟨v,rs,s',G',rfl,⟨rfl,rfl⟩,_,_,hr,hp⟩
 have hv:v=.int .i64 (cf x y):=VR.b8 hr.1
 subst hv
 exact⟨rfl,Dg (fun _=>rfl) hp⟩
omit[Inhabited α]in
theorem Ea(l:List α)(sp:List AV){i r:Nat}(hi:i<l.length)(hr:r<aP.w α):(flat l++sp)[i*aP.w α+r]? =(aP.cells l[i])[r]? :=by
 have hlt:i*aP.w α+r<(flat l).length:=by
  rw[aA]
  calc i*aP.w α+r<(i+1)*aP.w α:=by rw[Nat.add_mul];omega
   _<=l.length*aP.w α:=Nat.mul_le_mul_right _ hi
 rw[List.getElem?_append_left hlt]
 have h:=kK l (aP.w α) i 1 rfl
 rw[Nat.one_mul,List.drop_eq_getElem_cons hi]at h
 have h2:(AB.sub (flat l) (i*aP.w α) (aP.w α))[r]? =(aP.cells l[i])[r]? :=by
  rw[h]
  show(flat [l[i]])[r]? =_
  unfold flat
  simp
 rw[Ar,if_pos hr]at h2
 exact h2
theorem VJ(hk:k=aP.w α)(hlen:∀x,(enc x).length=k)
 (YN:∀(w:World)(R:Nat->Nat)(x:α)(vs:List Value),vs.length=k->(∀(j:Nat)(c:AV)(v:Value),(aP.cells x)[j]? =some c->vs[j]? =some v->VR w R c v)->vs=enc x)
 (hvr:∀(w:World)(R:Nat->Nat)(x:α)(j:Nat)(c:AV)(v:Value),(aP.cells x)[j]? =some c->(enc x)[j]? =some v->VR w R c v)
 (agG:∀(pd off cap:Nat)(d:Array α)(w:World),HoldsK enc k w pd off d->pd<w.heap.size->d.size<4611686018427387904->Calls P f #[.slice (some ⟨pd,off,none⟩) d.size cap,.func (.func g) #[] #[]] w fun e w'=>e=.returned (.tuple #[])/\∃d' n os,PermIn 0 d.size d d'/\SortedIn (ltOf cf) 0 d.size d'/\w'=sortWorldK enc k w pd off n d' os)
 {b cap:Nat}{l:List α}{sp:List AV}{s:ae}{Q:List AV->ae->Prop}(hs:s b=some (.cells (flat l++sp)))(hc:0<cap)(hb:l.length<4611686018427387904)
 (hq:∀l':List α,l'.Perm l->l'.Pairwise (fun x y=>ltOf cf y x=false)->Q [] (s.set b (.cells (flat l'++sp)))):FN P f [.arr b 0 l.length cap,.fn g [] []] s Q:=by
 subst hk
 intro G w vs hg ho dZ ha
 have hvs:vs= #[.slice (some ⟨b,0,none⟩) l.length cap,.func (.func g) #[] #[]]:=by
  obtain⟨h1,h2⟩:=ha
  have h1':vs.size=2:=h1
  apply Array.ext (by simpa using h1')
  intro i hi1 hi2
  have hi:i<2:=by omega
  match i,hi with
  |0,_=>exact VR.qt (h2 0 _ _ rfl (Array.getElem?_eq_getElem (by omega))) hc
  |1,_=>
   obtain⟨vf,vc,e,s1,_,s2,_⟩:=VR.Gj (h2 1 _ _ rfl (Array.getElem?_eq_getElem (by omega)))
   rw[e]
   rw[Array.eq_empty_of_size_eq_zero s1,Array.eq_empty_of_size_eq_zero s2]
   rfl
 subst hvs
 obtain⟨q2,q3,c,t,q4,q5,q6⟩:=dZ b _ hs
 have hbl:b<w.heap.size:=(Array.getElem?_eq_some_iff.1 q4).1
 have hw0:0<aP.w α:=aP.pos
 have hcs:c.size=l.length*aP.w α+sp.length:=by rw[q5.1,List.length_append,aA]
 have dT:∀i(hi:i<l.length),(c.toList.drop (i*aP.w α)).take (aP.w α)=enc l[i]:=fun i hi=>by
  have hle:i*aP.w α+aP.w α<=l.length*aP.w α:=by rw[<-Nat.succ_mul];exact Nat.mul_le_mul_right _ hi
  refine YN w G.R l[i] _ (by simp;omega) fun j x v hx hv=>?_
  have hj:j<aP.w α:=by
   have:=(List.getElem?_eq_some_iff.1 hv).1
   simp at this;omega
  rw[List.getElem?_take,if_pos hj,List.getElem?_drop]at hv
  exact(q5.2 _ x v (by rw[Ea l sp hi hj];exact hx) (by simpa using hv)).1
 have jD:∀(l2:List α)(i r:Nat)(hi:i<l2.length),r<aP.w α->(flatK enc (aP.w α) l2.toArray)[i*aP.w α+r]! =(enc l2[i])[r]!:=fun l2 i r hi hr=>by
  rw[get_flatK _ _ _ _ (by
   calc i*aP.w α+r<(i+1)*aP.w α:=by rw[Nat.add_mul];omega
    _<=l2.toArray.size*aP.w α:=Nat.mul_le_mul_right _ (by rw[List.size_toArray];exact hi))]
  have e1:(i*aP.w α+r)/aP.w α=i:=by rw[Nat.mul_comm,Nat.mul_add_div hw0,Nat.div_eq_of_lt hr,Nat.add_zero]
  have e2:(i*aP.w α+r)% aP.w α=r:=by rw[Nat.mul_comm,Nat.mul_add_mod,Nat.mod_eq_of_lt hr]
  rw[e1,e2]
  simp[hi]
 have hH:HoldsK enc (aP.w α) w b 0 l.toArray:=by
  intro j hj
  rw[size_flatK]at hj
  have hj:j<l.length*aP.w α:=by simpa using hj
  have hi:j/aP.w α<l.length:=by rw[Nat.div_lt_iff_lt_mul hw0];exact hj
  have hr:j % aP.w α<aP.w α:=Nat.mod_lt _ hw0
  have ej:j/aP.w α*aP.w α+j % aP.w α=j:=by
   have:=Nat.div_add_mod j (aP.w α)
   rw[Nat.mul_comm]at this;exact this
  refine⟨?_,?_⟩
  ·rw[Nat.zero_add,cell_of_row w q4]
   have h1:=dT _ hi
   have h2:((c.toList.drop (j/aP.w α*aP.w α)).take (aP.w α))[j % aP.w α]? =c[j]? :=by rw[List.getElem?_take,if_pos hr,List.getElem?_drop,ej];simp
   rw[<-h2,h1]
   have h3:=jD l _ _ hi hr
   rw[ej]at h3
   show _=some ((flatK enc (aP.w α) l.toArray)[j]!)
   rw[h3]
   have:j % aP.w α<(enc l[j/aP.w α]).length:=by rw[hlen];exact hr
   simp[this]
  ·unfold World.frozen?
   simp[q4]
 have WT:=agG b 0 cap l.toArray w hH hbl (by simpa using hb)
 rw[List.size_toArray]at WT
 refine WT.mono ?_
 rintro e w' ⟨rfl,d',m,os,hp,hsd,rfl⟩
 obtain⟨p1,_,p3⟩:=hp
 have p1:d'.size=l.length:=by simpa using p1
 have MJ:d'.toList.Perm l:=by
  have e1:d'.extract 0 l.toArray.size=d':=by rw[List.size_toArray,<-p1];exact Array.extract_size
  have e2:l.toArray.extract 0 l.toArray.size=l.toArray:=Array.extract_size
  have:(d'.extract 0 l.toArray.size).toList.Perm (l.toArray.extract 0 l.toArray.size).toList:=by simpa using p3
  rw[e1,e2]at this
  simpa using this
 obtain⟨l',rfl⟩:∃l':List α,d'=l'.toArray:=⟨d'.toList,by simp⟩
 have hl':l'.length=l.length:=by simpa using p1
 have MJ:l'.Perm l:=by simpa using MJ
 have y9:l'.Pairwise (fun x y=>ltOf cf y x=false):=by
  rw[List.pairwise_iff_getElem]
  intro i j hi hj hij
  have:=hsd i j (Nat.zero_le _) hij (by omega)
  simpa[hi,hj]using this
 generalize hF:flatK enc (aP.w α) l'.toArray=F
 have hFs:F.size=l.length*aP.w α:=by rw[<-hF,size_flatK];simp[hl']
 generalize hw':sortWorldK enc (aP.w α) w b 0 m l'.toArray os=w'
 have ew:w'=grow (mapBlock (Go.Sort.ahead w m) b (putCells id 0 F)) os:=by rw[<-hw',<-hF];rfl
 have hsz:w.heap.size<=w'.heap.size:=by rw[ew];simp[grow,mapBlock,Go.Sort.ahead]
 have Iy:∀i,i<w.heap.size->i≠b->w'.heap[i]? =w.heap[i]? :=fun i hi hib=>by
  rw[ew,heap_grow_old _ _ (by simpa[mapBlock,Go.Sort.ahead]using hi)]
  unfold mapBlock
  show((Go.Sort.ahead w m).heap.modify b _)[i]? =_
  rw[Array.getElem?_modify,if_neg (fun e=>hib e.symm)]
  rfl
 have Uu:w'.heap[b]? =some (.cells (putCells id 0 F c) t (0,0)):=by
  rw[ew,heap_grow_old _ _ (by simpa[mapBlock,Go.Sort.ahead]using hbl)]
  unfold mapBlock
  show((Go.Sort.ahead w m).heap.modify b _)[b]? =_
  rw[Array.getElem?_modify,if_pos rfl]
  show Option.map _ (w.heap[b]?)=_
  rw[q4];rfl
 have bV:aG G w G w':=by
  refine⟨by rw[ew];rfl,by rw[ew];rfl,by rw[ew];rfl,by rw[ew];exact Nat.le_add_right _ _,hsz,fun _ _=>Nat.le_refl _,fun i j hi hj=>?_,fun i hi hof=>?_,fun _ _ h=>⟨h,rfl⟩,fun _ _ h=>⟨h,rfl⟩⟩
  ·have hib:i≠b:=fun e=>by subst e;rw[q3]at hj;omega
   exact World.cell?_of_block (Iy i hi hib)
  ·exact Iy i hi fun e=>by subst e;rw[q2]at hof;rcases hof with h|h<;>cases h
 have hg':cq G w':=⟨fun i hi=>hg.jJ i (Nat.le_trans hsz hi),fun i hi=>hg.kB i (Nat.le_trans hsz hi)⟩
 have hlt:∀i,G.O i≠.none->i<w.heap.size:=fun i hi=>hg.lt hi
 refine⟨_,[],_,G,rfl,hq l' MJ y9,hg',fun i o hi=>?_,⟨#[],rfl,rfl,fun j x y hx=>by simp at hx⟩,bV⟩
 unfold ae.set at hi
 by_cases hib:i=b
 ·rw[if_pos hib]at hi;injection hi with hi;subst hi;subst hib
  refine⟨q2,q3,_,t,Uu,⟨?_,fun j x y hx hy=>?_⟩,?_⟩
  ·unfold putCells
   rw[Array.size_mapIdx,hcs,List.length_append,aA,hl']
  ·unfold putCells at hy
   rw[Array.getElem?_mapIdx]at hy
   by_cases hj:j<l.length*aP.w α
   ·have hjc:j<c.size:=by omega
    have hi':j/aP.w α<l'.length:=by rw[Nat.div_lt_iff_lt_mul hw0,hl'];exact hj
    have hr:j % aP.w α<aP.w α:=Nat.mod_lt _ hw0
    have ej:j/aP.w α*aP.w α+j % aP.w α=j:=by
     have:=Nat.div_add_mod j (aP.w α)
     rw[Nat.mul_comm]at this;exact this
    rw[Array.getElem?_eq_getElem hjc]at hy
    simp only[Option.map_some,Nat.zero_le,Nat.zero_add,hFs,hj,and_self,if_true,Nat.sub_zero,id]at hy
    have hx2:(aP.cells l'[j/aP.w α])[j % aP.w α]? =some x:=by rw[<-Ea l' sp hi' hr,ej];exact hx
    have hy2:(enc l'[j/aP.w α])[j % aP.w α]? =some y:=by
     have h3:=jD l' _ _ hi' hr
     rw[ej,hF]at h3
     rw[h3]at hy
     have:j % aP.w α<(enc l'[j/aP.w α]).length:=by rw[hlen];exact hr
     simp[this]at hy⊢
     exact hy
    refine⟨hvr w' G.R _ _ _ _ hx2 hy2,?_⟩
    have hxm:x∈flat l':=by
     have:j<(flat l').length:=by rw[aA,hl'];exact hj
     rw[List.getElem?_append_left this]at hx
     exact List.mem_of_getElem? hx
    have hv:=aN l'
    rw[<-hv]at hxm
    obtain⟨x0,_,rfl⟩:=List.mem_map.1 hxm
    exact dn.view ..
   ·have hnj:¬(0<=j/\j<0+F.size):=fun h=>hj (by have:=h.2;omega)
    have hy':c[j]? =some y:=by
     cases hcj:c[j]? with
     |none=>rw[hcj]at hy;cases hy
     |some u=>rw[hcj]at hy;simp only[Option.map_some,if_neg hnj]at hy;exact hy
    have hx':(flat l++sp)[j]? =some x:=by
     rw[List.getElem?_append_right (by rw[aA,hl'];omega),aA,hl']at hx
     rw[List.getElem?_append_right (by rw[aA];omega),aA]
     exact hx
    obtain⟨h1,h2⟩:=q5.2 j x y hx' hy'
    exact⟨bV.vr hg h1,h2.mono fun i hi=>⟨hi,rfl,Iy i (hlt i (by rw[hi];simp)) (fun e=>by subst e;rw[q2]at hi;cases hi)⟩⟩
  ·intro x hx
   rcases List.mem_append.1 hx with hx|hx
   ·refine q6 x (List.mem_append_left _ ?_)
    unfold flat at hx⊢
    rw[List.mem_flatten]at hx⊢
    obtain⟨cs,h1,h2⟩:=hx
    obtain⟨a,h3,rfl⟩:=List.mem_map.1 h1
    exact⟨_,List.mem_map.2 ⟨a,MJ.mem_iff.1 h3,rfl⟩,h2⟩
   ·exact q6 x (List.mem_append_right _ hx)
 ·rw[if_neg hib]at hi
  obtain⟨r1,r2,r3⟩:=dZ i o hi
  refine⟨r1,r2,?_⟩
  have hbk:=Iy i (hlt i (by rw[r1];simp)) hib
  cases o with
  |cells cs=>
   obtain⟨c0,t0,r4,r5,r6⟩:=r3
   exact⟨c0,t0,hbk.trans r4,r5.mono (fun _ _ hv=>bV.vr hg hv) (fun b' j hb'=>⟨hb',rfl,Iy b' (hlt b' (by rw[hb'];simp)) (fun e=>by subst e;rw[q2]at hb';cases hb')⟩),r6⟩
  |map es=>
   obtain⟨jm,clock,r4,r5,r6⟩:=r3
   exact⟨jm,clock,hbk.trans r4,r5,fun j x y hx hy=>⟨bV.vr hg (r6 j x y hx hy).1,bV.vr hg (r6 j x y hx hy).2⟩⟩
end
end Go.AB
end
