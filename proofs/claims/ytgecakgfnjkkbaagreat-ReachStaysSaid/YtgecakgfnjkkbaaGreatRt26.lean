/- A part. -/
import Derived.Test.YtgecakgfnjkkbaaGreatRt25
import Derived.Test.YtgecakgfnjkkbaaGreatRt22
set_option linter.defProp false
set_option linter.unusedSimpArgs false
set_option linter.unusedVariables false
section
set_option maxRecDepth 16000
namespace Go.AB
open Go
open Go.Proofs.Tryz (prog)
attribute[-go_sem] bX cP bD bV Nat.add_zero mi cy
structure cO where
 l_:(List Int)
 Uj:(List (Int×Int))
def eQ(k:Int):AV:=.int .i64 k
def fF(v:Int):AV:=.int .i64 v
def CT(a b:Int):nc (eQ a) (eQ b)=(a==b):=ml a b
@[go_sem]theorem acB(ok:Bool)(m:(List (Int×Int)))(k:Int):oe (.int .i64) (.int .i64 0) ok (.int .i64 k) (some (.map (jE eQ fF m)))=.prt True (EU ok (.int .i64 (LJ 0 m k)) (Ri m k)):=Ba (ek:=eQ) (ev:=fF) (z:=0) (fun _=>rfl) CT rfl (fun _=>rfl) (fun _=>rfl) ok m k
@[go_sem]theorem ad9(b:Nat)(E:St)(d:Option Nat)(K:St->Prop)(m:(List (Int×Int)))(k:Int)(v:Int):R8 (.int .i64) b E (.int .i64 k) (.int .i64 v) d K (some (.map (jE eQ fF m)))=K ({E with s:=E.s.set b (.map (jE eQ fF (Ad m k v)))}.put d (.iJ [])):=My (ek:=eQ) (ev:=fF) (fun _=>rfl) CT (fun _=>rfl) m k v rfl rfl
def cN(r_0:cO)(l_1:(List Int)):Option (cO):=
 iter (fun((t1,o2):Int×cO)=>
  if decide (t1<(l_1.length:Int))then
   jn (
    a8 (0<=t1/\t1<l_1.length)<|
    if !(Ri o2.Uj (ix l_1 t1))then
     a8 ((o2.l_.length+[ix l_1 t1].length)*8<=room)<|
     some (cO.mk (o2.l_++[ix l_1 t1]) (Ad o2.Uj (ix l_1 t1) (o2.l_.length:Int)))
    else
     some o2) fun(o7:cO)=>
   some (.inl (aC (t1+1),o7))
  else
   some (.inr o2)) (0,r_0)
def iE{r_0 l_1}{B0 B0_in_:Nat}{s:ae}{Q:List AV->ae->Prop}(hB0:s B0=some (.cells [.sl true 1 r_0.l_.length (flat r_0.l_),.mp B0_in_]))(Xy:s B0_in_=some (.map (jE eQ fF r_0.Uj)))(oF:B0≠B0_in_):ok (cN r_0 l_1) (fun r=>Q [] ((s.set B0 (.cells [.sl true 1 r.l_.length (flat r.l_),.mp B0_in_])).set B0_in_ (.map (jE eQ fF r.Uj))))->FN prog 49 [.ref B0 0,.sl false 1 l_1.length (flat l_1)] s Q:=by
 rw[<-aU Xy,<-aU hB0]
 refine FR 46 [] 0xa31af071307a9894710f0a285e47c988e70846dd2e6fb1ba34edd0b616ef8e93e13e3e942e1f169c9bf9f7f71a42d94248b3c757cf48f1c92f48434d4c4ae045284d831fb9365cc6b1798bcd82d688dd2551dde5943a64ee848eb43aa2b0663a3b123e8ed17ec14a66469e148390cf34681af0d425783aec13180354dc29ceac561f629456e17290f87a3c7b944dfe59054580184044e1e1c cN.eq_1 ?_
 repeat'(first
  |(with_reducible first|exact dj|refine cj ?_ ?_|refine dw ?_)
  |((with_reducible refine dT (fun(o7:cO)=>⟨[(0,.ref B0 0),(8,.sl false 1 l_1.length (flat l_1)),(9,.int .i64 (l_1.length:Int)),(10,.int .i64 t1)],[],((s.set B0 (.cells [.sl true 1 o7.l_.length (flat o7.l_),.mp B0_in_])).set B0_in_ (.map (jE eQ fF o7.Uj)))⟩) (fun J=>?_) ?_);rotate_left;rintro o7)
  |((with_reducible refine cY (fun((t1,o2):Int×cO)=>⟨[(0,.ref B0 0),(8,.sl false 1 l_1.length (flat l_1)),(9,.int .i64 (l_1.length:Int)),(10,.int .i64 t1)],[],((s.set B0 (.cells [.sl true 1 o2.l_.length (flat o2.l_),.mp B0_in_])).set B0_in_ (.map (jE eQ fF o2.Uj)))⟩) ?_ ?_);(first|exact rfl|simp -implicitDefEqProofs only[go_sem,seval,af oF,af oF.symm,set_comm oF]);rintro J ⟨t1,o2⟩)
  |simp -implicitDefEqProofs only[go_sem,seval,af oF,af oF.symm,set_comm oF])
def dS(k:Int):AV:=.int .i64 k
def eU(v:Bool):AV:=.bool v
def AP(a b:Int):nc (dS a) (dS b)=(a==b):=ml a b
@[go_sem]theorem aaF(ok:Bool)(m:(List (Int×Bool)))(k:Int):oe (.int .i64) (.bool false) ok (.int .i64 k) (some (.map (jE dS eU m)))=.prt True (EU ok (.bool (LJ false m k)) (Ri m k)):=Ba (ek:=dS) (ev:=eU) (z:=false) (fun _=>rfl) AP rfl (fun _=>rfl) (fun _=>rfl) ok m k
@[go_sem]theorem abo(b:Nat)(E:St)(d:Option Nat)(K:St->Prop)(m:(List (Int×Bool)))(k:Int)(v:Bool):R8 (.int .i64) b E (.int .i64 k) (.bool v) d K (some (.map (jE dS eU m)))=K ({E with s:=E.s.set b (.map (jE dS eU (Ad m k v)))}.put d (.iJ [])):=My (ek:=dS) (ev:=eU) (fun _=>rfl) AP (fun _=>rfl) m k v rfl rfl
def lW(x_0:aa)(c_1:(List (Int×Bool)))(c_2:(List Int)):Option (Bool×(List (Int×Bool))×(List Int)):=
 jn (
  if(x_0.Kind==8)&&(!(LJ false c_1 x_0.N))then
   a8 ((c_2.length+[x_0.N].length)*8<=room)<|
   some (Ad c_1 x_0.N true,c_2++[x_0.N])
  else
   some (c_1,c_2)) fun((o1,o2):(List (Int×Bool))×(List Int))=>
 some (true,o1,o2)
def B5{x_0 c_1 c_2}{B1 B1_m B2:Nat}{s:ae}{Q:List AV->ae->Prop}(hB1:s B1=some (.cells [.mp B1_m]))(agi:s B1_m=some (.map (jE dS eU c_1)))(hB2:s B2=some (.cells [.sl true 1 c_2.length (flat c_2)]))(Jb:B1≠B1_m)(UX:B1≠B2)(Jc:B1_m≠B2):ok (lW x_0 c_1 c_2) (fun r=>Q [.bool r.1] (((s.set B1 (.cells [.mp B1_m])).set B1_m (.map (jE dS eU r.2.1))).set B2 (.cells [.sl true 1 r.2.2.length (flat r.2.2)])))->FN prog 112 [.agg [.int .i64 x_0.Kind,.int .i64 x_0.N,.str x_0.S.b,.sl false 4 x_0.L.length (flat x_0.L)],.ref B1 0,.ref B2 0] s Q:=by
 rw[<-aU hB2,<-aU agi,<-aU hB1]
 refine FR 23 [⟨4,true,none⟩] 0x9209a3f93f9a98460af63ba966833a03ff1c831ab8e5a4c6953d08e0eb5cfa936cd8cad5bdba6ec83222a1f56bb235e8974dfb3514303744dcf6574c288c1ccaca4cdde04f5e2415f3f476830399feb lW.eq_1 ?_
 repeat'(first
  |((with_reducible refine dT (fun((o1,o2):(List (Int×Bool))×(List Int))=>⟨[],[],(((s.set B1 (.cells [.mp B1_m])).set B1_m (.map (jE dS eU o1))).set B2 (.cells [.sl true 1 o2.length (flat o2)]))⟩) (fun J=>?_) ?_);rotate_left;rintro⟨o1,o2⟩)
  |simp -implicitDefEqProofs only[go_sem,seval,af Jb,af Jb.symm,set_comm Jb,af UX,af UX.symm,set_comm UX,af Jc,af Jc.symm,set_comm Jc])
def jR:Nat->aa->(List (Int×Bool))->(List Int)->Option (Bool×(List (Int×Bool))×(List Int))
 |0,_,_,_=>none
 |fuel+1,v_0,QA,MZ=>
  aZ (lW v_0 QA MZ) fun r1=>
  if !r1.1 then
   some (false,r1.2.1,r1.2.2)
  else
   if(v_0.Kind !=6)&&(v_0.Kind !=7)then
    some (true,r1.2.1,r1.2.2)
   else
    zj (
     nV (
      iter (fun((t7,o8,o9):Int×(List (Int×Bool))×(List Int))=>
       if decide (t7<(v_0.L.length:Int))then
        a8 (0<=t7/\t7<v_0.L.length)<|
        aZ (jR fuel (ix v_0.L t7) o8 o9) fun r15=>
        if !r15.1 then
         some (.inr (.inr (false,r15.2.1,r15.2.2)))
        else
         some (.inl (aC (t7+1),r15.2.1,r15.2.2))
       else
        some (.inr (.inl (o8,o9)))) (0,r1.2.1,r1.2.2)) (fun((o10,o11):(List (Int×Bool))×(List Int))=>
      some (.inl (o10,o11)))
     (fun((t12,o13,o14):Bool×(List (Int×Bool))×(List Int))=>some (.inr (t12,o13,o14)))) (fun((o2,o3):(List (Int×Bool))×(List Int))=>
     some (true,o2,o3))
    (fun((t4,o5,o6):Bool×(List (Int×Bool))×(List Int))=>some (t4,o5,o6))
theorem mY:(sQ prog 112=true)=True:=eq_true By
def Ge{fuel:Nat}:∀{v_0:aa}{QA:(List (Int×Bool))}{MZ:(List Int)}{B1_0 B1_0_m B1_1:Nat}{s:ae}{Q:List AV->ae->Prop}(aal:s B1_0=some (.cells [.mp B1_0_m]))(Pr:s B1_0_m=some (.map (jE dS eU QA)))(aam:s B1_1=some (.cells [.sl true 1 MZ.length (flat MZ)]))(bw:B1_0≠B1_0_m)(cw:B1_0≠B1_1)(bz:B1_0_m≠B1_1),ok (jR fuel v_0 QA MZ) (fun r=>Q [.bool r.1] (((s.set B1_0 (.cells [.mp B1_0_m])).set B1_0_m (.map (jE dS eU r.2.1))).set B1_1 (.cells [.sl true 1 r.2.2.length (flat r.2.2)])))->FN prog 111 [.agg [.int .i64 v_0.Kind,.int .i64 v_0.N,.str v_0.S.b,.sl false 4 v_0.L.length (flat v_0.L)],.fn 112 [] [.ref B1_0 0,.ref B1_1 0]] s Q:=by
 induction fuel with
 |zero=>intros;rename_i h;rw[jR]at h;exact absurd h Xd9
 |succ fuel ih=>
 intro v_0 QA MZ B1_0 B1_0_m B1_1 s Q aal Pr aam bw cw bz
 rw[<-aU aam,<-aU Pr,<-aU aal]
 refine FR 31 [⟨4,true,none⟩] 0x11d017f2ff993d097ca71aa9255a5b82a4e0111e4c832dd9246468eea45e602f6660da4ecd34af3f95a6d96be4074bf396ef7292fda243347ee43ff606bb04ce0c1186f95ea853ecebe7aca4939b25cd34090da53d8becf220eed320c310e1755a96ffc872f8d4ec2b8a2f979024a5a5caa5c2da4e48e24e41f7fb5b65fc8f2222d737cd23e92adcfe6b4c4ab24c6852e636aca8cdca5abb9956c60839818b jR.eq_2 ?_
 repeat'(first
  |(with_reducible first|exact dj|refine cj ?_ ?_|refine dw ?_|refine fun hh=>B5 (B1:=B1_0) (B1_m:=B1_0_m) (B2:=B1_1) k_ k_ k_ bw cw bz (aJ (show ok (lW v_0 QA MZ) _ from hh) fun r1=>?_)|refine fun hh=>ih (B1_0:=B1_0) (B1_0_m:=B1_0_m) (B1_1:=B1_1) k_ k_ k_ bw cw bz (aJ (show ok (jR fuel (ix v_0.L t7) o8 o9) _ from hh) fun r15=>?_))
  |((with_reducible refine cY (fun((t7,o8,o9):Int×(List (Int×Bool))×(List Int))=>⟨[(1,.fn 112 [] [.ref B1_0 0,.ref B1_1 0]),(20,.sl false 4 v_0.L.length (flat v_0.L)),(21,.int .i64 (v_0.L.length:Int)),(22,.int .i64 t7)],[],(((s.set B1_0 (.cells [.mp B1_0_m])).set B1_0_m (.map (jE dS eU o8))).set B1_1 (.cells [.sl true 1 o9.length (flat o9)]))⟩) ?_ ?_);(first|exact rfl|simp -implicitDefEqProofs only[go_sem,seval,af bw,af bw.symm,set_comm bw,af cw,af cw.symm,set_comm cw,af bz,af bz.symm,set_comm bz,mY]);rintro J ⟨t7,o8,o9⟩)
  |((with_reducible refine eF (fun((o2,o3):(List (Int×Bool))×(List Int))=>⟨[],[],(((s.set B1_0 (.cells [.mp B1_0_m])).set B1_0_m (.map (jE dS eU o2))).set B1_1 (.cells [.sl true 1 o3.length (flat o3)]))⟩) (fun J=>?_) ?_);rotate_left;rintro⟨o2,o3⟩)
  |simp -implicitDefEqProofs only[go_sem,seval,af bw,af bw.symm,set_comm bw,af cw,af cw.symm,set_comm cw,af bz,af bz.symm,set_comm bz,mY])
def pI(v_0:aa):Option ((List Int)):=
 aZ (jR Bp v_0 [] ([]:List Int)) fun r1=>
 some r1.2.2
def Gb{v_0}:FF 77 [.agg [.int .i64 v_0.Kind,.int .i64 v_0.N,.str v_0.S.b,.sl false 4 v_0.L.length (flat v_0.L)]] (pI v_0) fun r=>[.sl true 1 r.length (flat r)]:=by
 intro s Q
 intro h
 refine FN.forget ?_
 refine FP 10 [⟨2,true,none⟩] (dec 0x1b77bc95af8fc45a30c5d3be7ecdab1d8b903fe6f7de61e4e66b63294de84d62777c1c08d756a9a5396c1303995b) By rfl ?_
 revert h
 rw[pI]
 refine Xf9 ?_
 repeat'(first
  |((have _x:=sN3;clear _x);with_reducible refine fun hh=>Ge (B1_0:=N3) (B1_0_m:=N2) (B1_1:=N1) Xe0 Xe0 Xe0 nN3N2 nN3N1 cF (aJ (show ok (jR Bp v_0 [] ([]:List Int)) _ from hh) fun r1=>?_))
  |((fail_if_success (have _x:=sN1));with_reducible intro hh N1 hN1;(try simp only[di]at hN1);have sN1:=hN1;revert hh)
  |(have _x:=sN1;clear _x;(fail_if_success (have _x:=sN2));with_reducible intro hh N2 hN2;(try simp only[di]at hN2);obtain⟨cF,sN2⟩:=hN2;revert hh)
  |(have _x:=sN2;clear _x;(fail_if_success (have _x:=sN3));with_reducible intro hh N3 hN3;(try simp only[di]at hN3);obtain⟨nN3N2,nN3N1,sN3⟩:=hN3;revert hh)
  |with_reducible exact fun hh=>⟨_,nu.set (nu.set (nu.set (nu.refl _) Y_) Xe1) (by simp[ae.set,sN3]),hh⟩
  |simp -implicitDefEqProofs only[go_sem,seval,af cF,af cF.symm,set_comm cF.symm,af nN3N1,af nN3N1.symm,set_comm nN3N1.symm,af nN3N2,af nN3N2.symm,set_comm nN3N2.symm]
  |refine Xe4 ?_|exact Xf8)
def Ga{v_0}{s:ae}{r:(List Int)}(h:pI v_0=some r):FE prog 77 [.agg [.int .i64 v_0.Kind,.int .i64 v_0.N,.str v_0.S.b,.sl false 4 v_0.L.length (flat v_0.L)]] s [.sl true 1 r.length (flat r)] s:=Gb ⟨r,h,rfl,rfl⟩
def jZ(n_0:Int):Option (Bool):=some ((decide (n_0<1))||(decide (n_0>4096)))
def BU{n_0}:FF 78 [.int .i64 n_0] (jZ n_0) fun r=>[.bool r]:=by
 intro s Q
 exact FC 9 [⟨2,true,none⟩] 0x12209ae57cbfbdcdf0e207718934ae9e3f76e32687a73c4824473a jZ.eq_1
def sL{n_0}{s:ae}{r:Bool}(h:jZ n_0=some r):FE prog 78 [.int .i64 n_0] s [.bool r] s:=BU ⟨r,h,rfl,rfl⟩
def cX(s_0:(List Int)):Option (Int):=
 zj (
  nV (
   iter (fun(t2:Int)=>
    if decide (t2<(s_0.length:Int))then
     a8 (0<=t2/\t2<s_0.length)<|
     aZ (jZ (ix s_0 t2)) fun r4=>
     if r4 then
      some (.inr (.inr t2))
     else
      some (.inl (aC (t2+1)))
    else
     some (.inr (.inl ()))) 0) (fun(_:Unit)=>
   some (.inl ()))
  (fun(t3:Int)=>some (.inr t3))) (fun(_:Unit)=>
  some (-1))
 (fun(t1:Int)=>some t1)
theorem Po:(sQ prog 78=true)=True:=eq_true By
def pF{s_0}:FF 110 [.sl false 1 s_0.length (flat s_0),.fn 78 [] []] (cX s_0) fun r=>[.int .i64 r]:=by
 intro s Q
 refine FR 19 [⟨4,true,none⟩] 0x13ec7e6dde7cb2744e4e75812ff510dff68579477261a0815c8aa6b8476d9542bffd767c9abc42f880b7723a700c026cd742537ed47394f62da005fe8417361861ef71dae3753cb1e9794757d13980083fa cX.eq_1 ?_
 repeat'(first
  |(with_reducible first|exact dj|refine cj ?_ ?_|refine dw ?_|refine aN (fun _(h:jZ (ix s_0 t2)=some _)=>sL h) (fun r4=>?_))
  |((with_reducible refine cY (fun(t2:Int)=>⟨[(0,.sl false 1 s_0.length (flat s_0)),(1,.fn 78 [] []),(7,.int .i64 (s_0.length:Int)),(8,.int .i64 t2)],[],s⟩) ?_ ?_);(first|exact rfl|simp -implicitDefEqProofs only[go_sem,seval,Po]);rintro J t2)
  |((with_reducible refine eF (fun(_:Unit)=>⟨[],[],s⟩) (fun J=>?_) ?_);rotate_left;rintro _)
  |simp -implicitDefEqProofs only[go_sem,seval,Po])
def jP{s_0}{s:ae}{r:Int}(h:cX s_0=some r):FE prog 110 [.sl false 1 s_0.length (flat s_0),.fn 78 [] []] s [.int .i64 r] s:=pF ⟨r,h,rfl,rfl⟩
def zR:IC:=dec 0x55260ddc138b83decf058127817497826afa1c9a3b2117e3e7facb3962931839ada78d39d6aa60d00a2e8a47f8f67bf5c11df0dc7cec13dbbdf5dc1b55d6008f3189b8b0366e19c304cc9041cd6b8021deb7cb610ab1df4afcb0355e635bc92d52656d9a16e7b0ba4d59f127ff123d369365ab462e3f5e892581effce2fc7603aa3f48f6ad53543e3a5b06a99b2bce60af7305f19d366172b2fba30619727483fa
def GW:ey prog 76 42 [⟨4,true,none⟩] zR=true:=By
def C8{T:Type}[aO T]{w:World}{R R':Nat->Nat}{b cap f:Nat}{l:List T}{vs:Array Value}(mono:∀a u,VR w R a u->VR w R' a u)(hv:∀u,VR w R (.arr b 0 l.length cap) u->VR w R' (.sl false 1 l.length (flat l)) u)
 (ha:k8 w R [.arr b 0 l.length cap,.fn f [] []] vs):k8 w R' [.sl false 1 l.length (flat l),.fn f [] []] vs:=by
 refine⟨ha.1,fun j a v hj hvs=>?_⟩
 match j,hj with
 |0,hj=>cases hj;exact hv v (ha.2 0 _ v rfl hvs)
 |1,hj=>cases hj;exact mono _ _ (ha.2 1 _ v rfl hvs)
def v7{b cap:Nat}{l:List Int}{sp:List AV}{r:Int}{s:ae}{Q:List AV->ae->Prop}(hs:s b=some (.cells (flat l++sp)))(hn:l.length<=cap)(h:cX l=some r)(hq:Q [.int .i64 r] s):
 FN prog 110 [.arr b 0 l.length cap,.fn 78 [] []] s Q:=by
 refine FN.borrow b (l.length*1) (AH:=[.sl false 1 l.length (flat l),.fn 78 [] []]) (FE.app (jP h) ⟨rfl,hq⟩) fun G w vs ez ha=>?_
 refine C8 (fun a u h=>h.mono (fun i=>?_) fun _ _ _=>rfl) (fun u hu=>Cx ez (au l) hn (aF l) (fun _=>⟨sp,hs⟩) hu B_) ha
 show G.R i<=if i=b/\b<w.heap.size then l.length*1 else G.R i
 split
 ·rename_i e
  obtain⟨q2,q3,_⟩:=ez b _ hs
  rw[e.1,q3];exact Nat.zero_le _
 ·exact Nat.le_refl _
theorem RI{s:ae}{b:Nat}{o:SO}(h:s b=some o):s.set b o=s:=by
 funext c
 unfold ae.set
 split
 ·rename_i e;subst e;rw[h]
 ·rfl
def gone(x:Int):Bool:=(decide (x<1))||(decide (x>4096))
def Xw(x:Int)(s:ae):FE prog 78 [.int .i64 x] s [.bool (gone x)] s:=sL rfl
def Nb{b cap i:Nat}{l:List Int}{sp:List AV}{s:ae}{Q:List AV->ae->Prop}(hs:s b=some (.cells (flat l++sp)))(hl:(flat l++sp).length=cap*1)(hn:l.length<=cap)(TR:(l.length:Int)<=9223372036854775807)
 (tI:cX l=some (i:Int))(hi:i<l.length)(hk:(l.take (i+1)).filter (fun x=>!gone x)=l.take i)
 (hq:∀sp',(flat (l.filter (fun x=>!gone x))++sp').length=cap*1->Q [.arr b 0 (l.filter (fun x=>!gone x)).length cap] (s.set b (.cells (flat (l.filter (fun x=>!gone x))++sp')))):
 FN prog 76 [.arr b 0 l.length cap,.fn 78 [] []] s Q:=by
 refine FO GW rfl rfl ?_
 rw[zR]
 refine Xf9 ?_
 refine Xf6 ?_
 refine v7 hs hn tI ?_
 refine Xf6 ?_
 have e1:(((i:Int))==-1)=false:=by rw[beq_eq_false_iff_ne];omega
 rw[e1]
 refine⟨fun h=>F_,fun _=>?_⟩
 have w1:aC ((i:Int)+1)=((i+1:Nat):Int):=E_
 rw[w1]
 refine⟨fun τ=>∃(a j:Nat)(l':List Int),τ=⟨[(0,.arr b 0 l.length cap),(1,.fn 78 [] []),(5,.int .i64 (a:Int)),(6,.int .i64 (j:Int))],[],s.set b (.cells (flat l'++sp))⟩/\l'.length=l.length/\a<j/\j<=l.length/\l'.take a=(l.take j).filter (fun x=>!gone x)/\l'.drop j=l.drop j/\a=((l.take j).filter (fun x=>!gone x)).length,
  fun τ=>match look τ.e 6 with|.int _ j=>l.length -j.toNat|_=>0,?_,?_⟩
 ·refine⟨i,i+1,l,?_,rfl,AT,AT,hk.symm,rfl,?_⟩
  ·rw[RI hs];rfl
  ·rw[hk];simp;omega
 ·rintro τ ⟨a,j,l',rfl,h1,h2,h3,h4,h5,h6⟩
  have hlen:(flat l'++sp).length=cap*1:=by rw[<-hl,List.length_append,List.length_append,au,au,h1]
  simp -implicitDefEqProofs only[go_sem,Nat.reduceBEq,Nat.reduceAdd,Nat.reduceMul,Nat.reduceLeDiff,Nat.reduceEqDiff,Nat.reduceBNe,UInt8.reduceToNat,UInt32.reduceToNat,aY]
  refine⟨fun hj=>⟨⟨AT,of_decide_eq_true hj⟩,?_⟩,fun hj=>⟨AT,?_⟩⟩
  ·have hj:=of_decide_eq_true hj
   have hj':j<l.length:=AT
   have hx:∃x,l.drop j=x::l.drop (j+1)/\(l.take (j+1)).filter (fun x=>!gone x)=(l.take j).filter (fun x=>!gone x)++(if gone x then[]else[x]):=by
    refine⟨l[j],List.drop_eq_getElem_cons hj',?_⟩
    rw[List.take_succ_eq_append_getElem hj',List.filter_append]
    cases hg:gone l[j]<;>simp[hg]
   obtain⟨x,hx1,hx2⟩:=hx
   have hd:decide (j*1+1<=(flat l').length+sp.length)=true:=decide_eq_true (by rw[au,h1];show j*1+1<=l.length*1+_;omega)
   have hv:views (AB.sub (flat l'++sp) (j*1) 1)=[.int .i64 x]:=by
    have:=gJ l' sp 1 j 1 rfl AT
    rw[Nat.one_mul]at this
    rw[this,h5,hx1];rfl
   rw[hd,hv]
   refine Xf6 ?_
   refine⟨By,FE.app (Xw x _) ?_⟩
   have w2:aC ((j:Int)+1)=((j+1:Nat):Int):=E_
   have w3:aC ((a:Int)+1)=((a+1:Nat):Int):=E_
   simp -implicitDefEqProofs only[go_sem,Nat.reduceBEq,Nat.reduceAdd,Nat.reduceMul,Nat.reduceLeDiff,Nat.reduceEqDiff,Nat.reduceBNe,UInt8.reduceToNat,UInt32.reduceToNat,aY,w2,w3]
   have st:=im l' [x] sp 1 a rfl C_
   have d1:l'.drop (j+1)=l.drop (j+1):=by rw[<-List.drop_drop,<-List.drop_drop,h5]
   have ht:(l'.take a++[x]).length=a+1:=C_
   refine⟨fun hg=>⟨⟨AT,AT⟩,by rw[au,h1];show a*1+1<=l.length*1+_;omega,⟨a+1,j+1,l'.take a++[x]++l'.drop (a+1),?_,?_,AT,AT,?_,?_,?_⟩,AT⟩,
    fun hg=>⟨⟨a,j+1,l',rfl,h1,AT,AT,?_,d1,?_⟩,AT⟩⟩
   ·rw[show setAt (flat l'++sp) (a*1) [AV.int .i64 x]=_ from st];rfl
   ·rw[List.length_append,ht,List.length_drop];omega
   ·rw[List.take_append_of_le_length AT,List.take_of_length_le AT,hx2,h4]
    have:gone x=false:=Xb6
    simp[this]
   ·rw[List.drop_append,List.drop_of_length_le AT,List.nil_append,ht,List.drop_drop,show a+1+(j+1 -(a+1))=j+1 by omega,d1]
   ·have:gone x=false:=Xb6
    rw[hx2,List.length_append,<-h6,this];rfl
   ·have:gone x=true:=Xb6
    rw[h4,hx2,this];simp
   ·have:gone x=true:=Xb6
    rw[hx2,this,h6];simp
  ·have hj:=of_decide_eq_false hj
   obtain rfl:j=l.length:=AT
   rw[fV AT]
   have hsp:(flat l'++sp).length=cap:=AT
   refine wQ rfl aY (by
    rw[hsp]
    show 0+a*1+(l.length -a)*1<=cap
    omega) ?_
   have hz:(List.replicate (l.length -a) [AV.int .i64 0]).flatten=flat (List.replicate (l.length -a) (0:Int)):=iN
   have st:=im l' (List.replicate (l.length -a) (0:Int)) sp 1 a rfl C_
   have e3:l'.drop (a+(List.replicate (l.length -a) (0:Int)).length)=[]:=Xa5
   rw[e3,List.append_nil,h4,List.take_length,cT,List.append_assoc]at st
   rw[List.take_length]at h6
   rw[Nat.zero_add,hz,st]
   generalize hF:l.filter (fun x=>!gone x)=F at hq h6
   have hq':=hq (flat (List.replicate (l.length -a) (0:Int))++sp) (by
    rw[List.length_append,List.length_append,au,au,List.length_replicate,<-h6]
    rw[List.length_append,au,h1]at hsp
    have q1:aO.w Int=1:=rfl
    rw[q1]at hsp⊢
    omega)
   rw[<-h6]at hq'
   generalize flat (List.replicate (l.length -a) (0:Int))++sp=sp' at hq'
   refine Xf6 ?_
   exact⟨⟨AT,AT,AT⟩,hq'⟩
def AN{b off n cap:Nat}{s:ae}{Q:List AV->ae->Prop}(hx:∀Q:List AV->ae->Prop,Q [.int .i64 (-1)] s->FN prog 110 [.arr b off n cap,.fn 78 [] []] s Q)(hq:Q [.arr b off n cap] s):
 FN prog 76 [.arr b off n cap,.fn 78 [] []] s Q:=by
 refine FO GW rfl rfl ?_
 rw[zR]
 refine Xf9 ?_
 refine Xe4 ?_
 refine hx _ ?_
 refine Xe4 ?_
 exact⟨fun _=>hq,fun h=>F_⟩
theorem GO(l:List Int)(hb:l.length<4611686018427387904):
 cX l=some (match l.findIdx? gone with|some i=>(i:Int)|none=>-1):=by
 unfold cX
 have step:∀k(hk:k<l.length),jZ (ix l (k:Int))=some (gone l[k]):=fun k hk=>by
  have e:ix l (k:Int)=l[k]:=Lt (i:=(k:Int)) hk
  rw[e];rfl
 cases h:l.findIdx? gone with
 |none=>
  rw[List.findIdx?_eq_none_iff]at h
  refine dm (z:=.inl ()) (mN (z:=.inl ()) (kA l.length hb (fun k hk=>?_) ?_) rfl) rfl
  ·refine aM (decide_eq_true AT) (ay ⟨AT,AT⟩ (ah (step k hk) ?_))
   rw[h _ (List.getElem_mem hk)];rfl
  ·exact an BY rfl
 |some i=>
  rw[List.findIdx?_eq_some_iff_getElem]at h
  obtain⟨hi,h1,h2⟩:=h
  refine dm (z:=.inr (i:Int)) (mN (z:=.inr (i:Int)) (kA i AT (fun k hk=>?_) ?_) rfl) rfl
  ·refine aM (decide_eq_true AT) (ay ⟨AT,AT⟩ (ah (step k AT) ?_))
   have:=h2 k hk
   rw[Bool.not_eq_true]at this
   rw[this];rfl
  ·refine aM (decide_eq_true AT) (ay ⟨AT,AT⟩ (ah (step i hi) ?_))
   rw[h1];rfl
def FN.Ts{P:Program}{f:FuncId}{args:List AV}{s s2:ae}{Q:List AV->ae->Prop}{sz:Nat}(hq:Q [.sl false sz 0 []] s2)(h:FN P f args s fun rs s'=>(∃b off,rs=[.arr b off 0 0])/\Sub s2 s'):FN P f args s Q:=by
 refine h.conv fun rs s'⟨⟨b,off,e⟩,fX⟩ G w v hg hs hr=>?_
 subst e
 refine⟨_,_,G,hq,ma.refl G,hg,hs.sub fX,?_⟩
 rcases VR.cK hr.1 with e|⟨_,_,e⟩
 ·exact⟨by rw[e];exact .sle sz _ _,trivial⟩
 ·exact⟨by rw[e];exact .slnil false sz,trivial⟩
def Sv{w:World}{R:Nat->Nat}{b off sz:Nat}{v:Value}(hv:VR w R (.arr b off 0 0) v):VR w R (.sl false sz 0 []) v:=by
 rcases VR.cK hv with e|⟨_,_,e⟩
 ·rw[e];exact .sle sz _ _
 ·rw[e];exact .slnil false sz
def kept(l:List Int):List Int:=l.filter fun x=>!gone x
def QK{l:List Int}{s:ae}{Q:List AV->ae->Prop}(hb:l.length*8<=room)(hq:∀o,Q [.sl o 1 (kept l).length (flat (kept l))] s){b cap:Nat}{sp:List AV}(h0:s b=none)(hc:0<cap)(hn:l.length<=cap)(hl:(flat l++sp).length=cap*1):
 FN prog 76 [.arr b 0 l.length cap,.fn 78 [] []] (s.set b (.cells (flat l++sp))) Q:=by
 have hb':l.length<4611686018427387904:=by unfold room at hb;omega
 have tI:=GO l hb'
 refine FN.xy (au (kept l)) (aF _) (hq true) ?_
 cases h:l.findIdx? gone with
 |none=>
  rw[h]at tI
  rw[List.findIdx?_eq_none_iff]at h
  have e:kept l=l:=List.filter_eq_self.2 fun x hx=>by rw[h x hx];rfl
  rw[e]
  refine AN (fun Q hQ=>v7 aY hn tI hQ) (.inl ⟨b,cap,sp,rfl,aY,hc,hn,hl,?_⟩)
  rw[iX h0];exact Sub.refl s
 |some i=>
  rw[h]at tI
  rw[List.findIdx?_eq_some_iff_getElem]at h
  obtain⟨hi,h1,h2⟩:=h
  have hk0:(l.take i).filter (fun x=>!gone x)=l.take i:=List.filter_eq_self.2 fun x hx=>by
   obtain⟨j,hj,rfl⟩:=List.mem_iff_getElem.1 hx
   rw[List.length_take]at hj
   rw[List.getElem_take]
   have:=h2 j AT
   rw[Bool.not_eq_true]at this
   rw[this];rfl
  refine Nb aY hl hn AT tI hi ?_ fun sp' hsp=>.inl ⟨b,cap,sp',rfl,aY,hc,?_,hsp,?_⟩
  ·rw[List.take_succ_eq_append_getElem hi,List.filter_append,hk0]
   simp[h1]
  ·exact Nat.le_trans (List.length_filter_le _ _) hn
  ·rw[set_set,iX h0];exact Sub.refl s
def Nc{s:ae}{Q:List AV->ae->Prop}(hq:∀o,Q [.sl o 1 0 []] s){b off:Nat}:
 FN prog 76 [.arr b off 0 0,.fn 78 [] []] s Q:=
 FN.Ts (hq false) (AN (fun Q hQ=>FN.args (FE.app (jP (s_0:=[]) (by rw[GO [] B_];rfl)) hQ) fun G w vs _ ha=>⟨ha.1,fun j a v hj hvs=>by
  match j,hj with
  |0,hj=>cases hj;exact Sv (ha.2 0 _ v rfl hvs)
  |1,hj=>cases hj;exact ha.2 1 _ v rfl hvs⟩) ⟨⟨b,off,rfl⟩,Sub.refl s⟩)
def fG(v_0:aa):Option (List Int):=aZ (pI v_0) fun l=>a8 (l.length*8<=room)<|some (kept l)
def GG{l:List Int}{x:AV}(h:x∈flat l):∃y,x=.int .i64 y:=by
 unfold flat at h
 rw[List.mem_flatten]at h
 obtain⟨c,hc,hx⟩:=h
 obtain⟨y,_,rfl⟩:=List.mem_map.1 hc
 exact⟨y,List.mem_singleton.1 hx⟩
def FQ{v_0:aa}{s:ae}{Q:List AV->ae->Prop}(h:ok (fG v_0) fun r=>Q [.sl false 1 r.length (flat r)] s):FN prog 47 [.agg [.int .i64 v_0.Kind,.int .i64 v_0.N,.str v_0.S.b,.sl false 4 v_0.L.length (flat v_0.L)]] s Q:=by
 refine FP 6 [⟨2,false,none⟩] (dec 0x1c8c364fd7a3301a84ff06f69fd134ef95495a5396c1303995b) By rfl ?_
 unfold fG at h
 rw[js]at h
 obtain⟨l,hl,h⟩:=h
 rw[fu,bB]at h
 obtain⟨hr,hq⟩:=h
 refine Xf9 ?_
 refine Xe4 ?_
 refine FN.ac9 (List.all_eq_true.2 fun x hx=>?_) (fun x hx=>?_) B_ (Ga hl) ?_
 ·obtain⟨y,rfl⟩:=GG hx;rfl
 ·obtain⟨y,hy⟩:=GG (List.mem_of_getElem? hx)
  injection hy with h1;cases h1
 refine Xe4 ?_
 refine⟨fun b cap sp h0 hc hn hlen _ _=>?_,fun h0 b off=>?_⟩
 ·simp -implicitDefEqProofs only[go_sem,seval,aY]
  refine QK hr (fun o=>?_) h0 hc hn hlen
  refine Xe4 ?_
  exact hq
 ·have e:l=[]:=List.eq_nil_of_length_eq_zero h0
  subst e
  refine Xe4 ?_
  refine Nc (fun o=>?_)
  refine Xe4 ?_
  exact hq
def mO{v_0:aa}{s:ae}{r:List Int}(h:fG v_0=some r):FE prog 47 [.agg [.int .i64 v_0.Kind,.int .i64 v_0.N,.str v_0.S.b,.sl false 4 v_0.L.length (flat v_0.L)]] s [.sl false 1 r.length (flat r)] s:=FQ ⟨r,h,rfl,rfl⟩
def iR(v_0:aa)(given_1:aa):Option ((List Int)):=
 aZ (e9 v_0 (bg.mk [80,97,114,101,110,116])) fun r1=>
 aZ (fG r1) fun r2=>
 aZ (cN (cO.mk ([]:List Int) []) r2) fun r3=>
 aZ (fG given_1) fun r4=>
 aZ (cN r3 r4) fun r5=>
 some r5.l_
def Ei{v_0 given_1}:FF 48 [.agg [.int .i64 v_0.Kind,.int .i64 v_0.N,.str v_0.S.b,.sl false 4 v_0.L.length (flat v_0.L)],.agg [.int .i64 given_1.Kind,.int .i64 given_1.N,.str given_1.S.b,.sl false 4 given_1.L.length (flat given_1.L)]] (iR v_0 given_1) fun r=>[.sl true 1 r.length (flat r)]:=by
 intro s Q
 intro h
 refine FN.forget ?_
 refine FP 22 [⟨4,true,none⟩] (dec 0xcde6581da5a7df4357c9fc876e86f35d6bb0f802aa25b7e1f7757916a93663881b34ef6cbbc10ad710ec53b4049bb6587b1b0d683256d3c899278117a45f13aedd62227e965a03981dc) By rfl ?_
 revert h
 rw[iR]
 refine Xf9 ?_
 repeat'(first
  |(with_reducible first|refine aN (fun _(h:e9 v_0 (bg.mk [80,97,114,101,110,116])=some _)=>qB h) (fun r1=>?_)|refine aN (fun _(h:fG r1=some _)=>mO h) (fun r2=>?_)|refine fun hh=>iE (B0:=N2) (B0_in_:=N1) Q7 Q7 cF (aJ (show ok (cN (cO.mk ([]:List Int) []) r2) _ from hh) fun r3=>?_)|refine aN (fun _(h:fG given_1=some _)=>mO h) (fun r4=>?_)|refine fun hh=>iE (B0:=N2) (B0_in_:=N1) Q7 Q7 cF (aJ (show ok (cN r3 r4) _ from hh) fun r5=>?_))
  |((fail_if_success (have _x:=sN1));with_reducible intro hh N1 hN1;(try simp only[di]at hN1);have sN1:=hN1;revert hh)
  |(have _x:=sN1;clear _x;(fail_if_success (have _x:=sN2));with_reducible intro hh N2 hN2;(try simp only[di]at hN2);obtain⟨cF,sN2⟩:=hN2;revert hh)
  |with_reducible exact fun hh=>⟨_,nu.set (nu.set (nu.refl _) Y_) Xe1,hh⟩
  |simp -implicitDefEqProofs only[go_sem,seval,af cF,af cF.symm,set_comm cF.symm]
  |refine Xe4 ?_|exact Xf8)
def um{v_0 given_1}{s:ae}{r:(List Int)}(h:iR v_0 given_1=some r):FE prog 48 [.agg [.int .i64 v_0.Kind,.int .i64 v_0.N,.str v_0.S.b,.sl false 4 v_0.L.length (flat v_0.L)],.agg [.int .i64 given_1.Kind,.int .i64 given_1.N,.str given_1.S.b,.sl false 4 given_1.L.length (flat given_1.L)]] s [.sl true 1 r.length (flat r)] s:=Ei ⟨r,h,rfl,rfl⟩
def ff(f_0:td)(l_1:jq):Option ((List Int)×(List aA)×Int×Int):=
 aZ (cN (cO.mk ([]:List Int) []) [l_1.lC]) fun r1=>
 zj (
  nV (
   iter (fun((xl,o10):(List aA)×cO)=>
    if decide ((xl.length:Int)<(o10.l_.length:Int))then
     a8 (0<=(xl.length:Int)/\(xl.length:Int)<o10.l_.length)<|
     aZ (oz f_0 (ix o10.l_ (xl.length:Int))) fun r18=>
     if r18.2.2 !=0 then
      some (.inr (.inr (([]:List Int),([]:List aA),r18.2.1,r18.2.2,o10)))
     else
      jn (
       if(xl.length:Int)==0 then
        aZ (iR r18.1.V l_1.bp) fun r24=>
        aZ (cN o10 r24) fun r25=>
        some r25
       else
        aZ (fG r18.1.V) fun r26=>
        aZ (cN o10 r26) fun r27=>
        some r27) fun(o23:cO)=>
      a8 ((xl.length+[r18.1].length)*80<=room)<|
      some (.inl (xl++[r18.1],o23))
    else
     some (.inr (.inl (xl,o10)))) (([]:List aA),r1)) (fun((ahr,o12):(List aA)×cO)=>
   some (.inl (ahr,o12)))
  (fun((t13,t14,t15,t16,o17):(List Int)×(List aA)×Int×Int×cO)=>some (.inr (t13,t14,t15,t16,o17)))) (fun((yR,o3):(List aA)×cO)=>
  some (o3.l_,yR,0,0))
 (fun((t4,t5,t6,t7,o8):(List Int)×(List aA)×Int×Int×cO)=>some (t4,t5,t6,t7))
def Al{f_0 l_1}{s:ae}{Q:List AV->ae->Prop}(va0:nQ s f_0):ok (ff f_0 l_1) (fun r=>Q [.sl true 1 r.1.length (flat r.1),.sl true 6 r.2.1.length (flat r.2.1),.int .i64 r.2.2.1,.int .i64 r.2.2.2] s)->FN prog 17 [.ref f_0.B 0,.agg [.int .i64 l_1.lC,.sl false 1 l_1.Path.length (flat l_1.Path),.int .i64 l_1.bp.Kind,.int .i64 l_1.bp.N,.str l_1.bp.S.b,.sl false 4 l_1.bp.L.length (flat l_1.bp.L)]] s Q:=by
 intro h
 refine FN.forget ?_
 refine FP 71 [⟨4,true,none⟩,⟨5,true,none⟩,⟨6,true,none⟩,⟨7,true,none⟩] (dec 0x455349aa3f2ab395b58c8d0d68b195749bb889743d79f31bd7953195a3801d966eb732a3e601234f543cb3a00a5f1e064f954736c26f89a40253e52f580e7a09be5a2ef06befe53e7447aa2f520d8bea52012dcd45f47cb6282ecc471d48cff0822c4eccf63e1eef34b66ad59ba065c2e6994ad21e82916550fb1d48c5bc562fec8e579a1f412b9313c2aabd24a5000e312c1ae79f24f586d7fb7f5f3b163b686191590b717062db5c7b67ad842d5707b397c9ea099cd4b6effcac3e15d234206b6ea3a81607708facdcaa056597dca2a9653c637848d9e5471b1afa9837dc288b3cda7aa428b0563d2ec5e3f9e722f9224d20fff7768db6e251f1c8b1efac633bca573c7405655762c8f1227e40c1b3d21bee2d720d62638a547f7d7658c0cd08111d2d020e5396c50b69a0de) By rfl ?_
 revert h
 rw[ff]
 refine Xf9 ?_
 repeat'(first
  |(with_reducible first|exact dj|refine cj ?_ ?_|refine dw ?_|refine fun hh=>gx (by simp -implicitDefEqProofs only[go_sem,seval,af cF,af cF.symm,set_comm cF.symm]) (iE (B0:=N2) (B0_in_:=N1) Q7 Q7 cF (aJ (show ok (cN (cO.mk ([]:List Int) []) [l_1.lC]) _ from hh) fun r1=>?_))|refine aN (fun _(h:oz f_0 (ix o10.l_ (xl.length:Int))=some _)=>HV (nQ.mono L_ (by repeat'(first|exact Sub.refl _|refine Sub.set ?_ ?_|assumption|(simp[ae.set, *];done)))) h) (fun r18=>?_)|refine aN (fun _(h:iR r18.1.V l_1.bp=some _)=>um h) (fun r24=>?_)|refine fun hh=>iE (B0:=N2) (B0_in_:=N1) Q7 Q7 cF (aJ (show ok (cN o10 r24) _ from hh) fun r25=>?_)|refine aN (fun _(h:fG r18.1.V=some _)=>mO h) (fun r26=>?_)|refine fun hh=>iE (B0:=N2) (B0_in_:=N1) Q7 Q7 cF (aJ (show ok (cN o10 r26) _ from hh) fun r27=>?_))
  |((with_reducible refine dT (live:=[(0,false),(3,false),(8,false),(9,false),(10,false)]) (fun(o23:cO)=>⟨[(0,.ref f_0.B 0),(3,.loc [.int .i64 l_1.lC,.sl false 1 l_1.Path.length (flat l_1.Path),.int .i64 l_1.bp.Kind,.int .i64 l_1.bp.N,.str l_1.bp.S.b,.sl false 4 l_1.bp.L.length (flat l_1.bp.L)]),(8,.ref N2 0),(9,.sl true 6 xl.length (flat xl)),(10,.loc [.int .i64 r18.1.V.Kind,.int .i64 r18.1.V.N,.str r18.1.V.S.b,.sl false 4 r18.1.V.L.length (flat r18.1.V.L),.bool r18.1.Stream,.str r18.1.Data.b])],[],((s.set N1 (.map (jE eQ fF o23.Uj))).set N2 (.cells [.sl true 1 o23.l_.length (flat o23.l_),.mp N1]))⟩) (fun J=>?_) ?_);rotate_left;rintro o23)
  |((with_reducible refine cY (fun((xl,o10):(List aA)×cO)=>⟨[(0,.ref f_0.B 0),(3,.loc [.int .i64 l_1.lC,.sl false 1 l_1.Path.length (flat l_1.Path),.int .i64 l_1.bp.Kind,.int .i64 l_1.bp.N,.str l_1.bp.S.b,.sl false 4 l_1.bp.L.length (flat l_1.bp.L)]),(8,.ref N2 0),(9,.sl true 6 xl.length (flat xl))],[],((s.set N1 (.map (jE eQ fF o10.Uj))).set N2 (.cells [.sl true 1 o10.l_.length (flat o10.l_),.mp N1]))⟩) ?_ ?_);(first|exact rfl|simp -implicitDefEqProofs only[go_sem,seval,af cF,af cF.symm,set_comm cF.symm]);rintro J ⟨xl,o10⟩)
  |((with_reducible refine eF (live:=[(8,false),(9,false)]) (fun((yR,o3):(List aA)×cO)=>⟨[(8,.ref N2 0),(9,.sl true 6 yR.length (flat yR))],[],((s.set N1 (.map (jE eQ fF o3.Uj))).set N2 (.cells [.sl true 1 o3.l_.length (flat o3.l_),.mp N1]))⟩) (fun J=>?_) ?_);rotate_left;rintro⟨yR,o3⟩)
  |((fail_if_success (have _x:=sN1));with_reducible intro hh N1 hN1;(try simp only[di]at hN1);have sN1:=hN1;revert hh)
  |(have _x:=sN1;clear _x;(fail_if_success (have _x:=sN2));with_reducible intro hh N2 hN2;(try simp only[di]at hN2);obtain⟨cF,sN2⟩:=hN2;revert hh)
  |with_reducible exact fun hh=>⟨_,nu.set (nu.set (nu.refl _) Y_) Xe1,hh⟩
  |simp -implicitDefEqProofs only[go_sem,seval,af cF,af cF.symm,set_comm cF.symm]
  |refine Xe4 ?_|exact Xf8)
def mF{f_0 l_1}{s:ae}{r:(List Int)×(List aA)×Int×Int}(va0:nQ s f_0)(h:ff f_0 l_1=some r):FE prog 17 [.ref f_0.B 0,.agg [.int .i64 l_1.lC,.sl false 1 l_1.Path.length (flat l_1.Path),.int .i64 l_1.bp.Kind,.int .i64 l_1.bp.N,.str l_1.bp.S.b,.sl false 4 l_1.bp.L.length (flat l_1.bp.L)]] s [.sl true 1 r.1.length (flat r.1),.sl true 6 r.2.1.length (flat r.2.1),.int .i64 r.2.2.1,.int .i64 r.2.2.2] s:=Al va0 ⟨r,h,rfl,rfl⟩
def jN(a_0:(List Int))(b_1:(List Int)):Option (Bool):=
 if(a_0.length:Int)!=(b_1.length:Int)then
  some false
 else
  zj (
   nV (
    iter (fun(k2:Int)=>
     if decide (k2<(a_0.length:Int))then
      a8 (0<=k2/\k2<a_0.length)<|
      a8 (0<=k2/\k2<b_1.length)<|
      if(ix a_0 k2)!=(ix b_1 k2)then
       some (.inr (.inr false))
      else
       some (.inl (aC (k2+1)))
     else
      some (.inr (.inl ()))) 0) (fun(_:Unit)=>
    some (.inl ()))
   (fun(t3:Bool)=>some (.inr t3))) (fun(_:Unit)=>
   some true)
  (fun(t1:Bool)=>some t1)
def FX{a_0 b_1}:FF 19 [.sl false 1 a_0.length (flat a_0),.sl false 1 b_1.length (flat b_1)] (jN a_0 b_1) fun r=>[.bool r]:=by
 intro s Q
 refine FR 26 [⟨4,true,none⟩] 0x16d47f5dd8c8aa41d42c4e634ef2883918c285eec3ddd0a96fb458ddec5fb5c12bb3f7518c4ca11f1d72c6edd3d6a997466f467c72a7271ca55b6ec0c97e7b42900c7a0dfb3846847ad256735602ce36018584f40980a8334653a9e97aa13e544e483fa jN.eq_1 ?_
 repeat'(first
  |(with_reducible first|exact dj|refine cj ?_ ?_|refine dw ?_)
  |((with_reducible refine cY (fun(k2:Int)=>⟨[(0,.sl false 1 a_0.length (flat a_0)),(1,.sl false 1 b_1.length (flat b_1)),(5,.int .i64 k2)],[],s⟩) ?_ ?_);(first|exact rfl|simp -implicitDefEqProofs only[go_sem,seval]);rintro J k2)
  |((with_reducible refine eF (fun(_:Unit)=>⟨[],[],s⟩) (fun J=>?_) ?_);rotate_left;rintro _)
  |refine Xe4 ?_|exact Xf8)
def mP{a_0 b_1}{s:ae}{r:Bool}(h:jN a_0 b_1=some r):FE prog 19 [.sl false 1 a_0.length (flat a_0),.sl false 1 b_1.length (flat b_1)] s [.bool r] s:=FX ⟨r,h,rfl,rfl⟩
def pE(a_0:(List aA))(b_1:(List aA)):Option (Bool):=
 if(a_0.length:Int)!=(b_1.length:Int)then
  some false
 else
  zj (
   nV (
    iter (fun(k2:Int)=>
     if decide (k2<(a_0.length:Int))then
      a8 (0<=k2/\k2<a_0.length)<|
      a8 (0<=k2/\k2<b_1.length)<|
      aZ (mG (ix a_0 k2) (ix b_1 k2)) fun r4=>
      if !r4 then
       some (.inr (.inr false))
      else
       some (.inl (aC (k2+1)))
     else
      some (.inr (.inl ()))) 0) (fun(_:Unit)=>
    some (.inl ()))
   (fun(t3:Bool)=>some (.inr t3))) (fun(_:Unit)=>
   some true)
  (fun(t1:Bool)=>some t1)
def FW{a_0 b_1}:FF 20 [.sl false 6 a_0.length (flat a_0),.sl false 6 b_1.length (flat b_1)] (pE a_0 b_1) fun r=>[.bool r]:=by
 intro s Q
 refine FR 27 [⟨4,true,none⟩] 0x3058953f347bc2e5c14ec41d981fb70f7fba0c90355d4169ad26588631f9677a65024caf1ad04eb6c4f202b5ecc9533ca1b917d4394b9e8eb5663c381926e031eba19e26981cc3bcc60cdb58e7b42900c7a0dfb3846847ad256735602ce36018584f40980a8334653a9e97aa13e544e483fa pE.eq_1 ?_
 repeat'(first
  |(with_reducible first|exact dj|refine cj ?_ ?_|refine dw ?_|refine c7 (fun _(h:mG (ix a_0 k2) (ix b_1 k2)=some _)=>(kK FU h:)) (fun _=>rfl) (fun r4=>?_))
  |((with_reducible refine cY (fun(k2:Int)=>⟨[(0,.sl false 6 a_0.length (flat a_0)),(1,.sl false 6 b_1.length (flat b_1)),(5,.int .i64 k2)],[],s⟩) ?_ ?_);(first|exact rfl|simp -implicitDefEqProofs only[go_sem,seval]);rintro J k2)
  |((with_reducible refine eF (fun(_:Unit)=>⟨[],[],s⟩) (fun J=>?_) ?_);rotate_left;rintro _)
  |refine Xe4 ?_|exact Xf8)
def FV{a_0 b_1}{s:ae}{r:Bool}(h:pE a_0 b_1=some r):FE prog 20 [.sl false 6 a_0.length (flat a_0),.sl false 6 b_1.length (flat b_1)] s [.bool r] s:=FW ⟨r,h,rfl,rfl⟩
def j4:Nat->aa->Int->Option (Int)
 |0,_,_=>none
 |fuel+1,v_0,tZ=>
  jn (
   iter (fun((Du,k3):Int×Int)=>
    if(decide (k3<(v_0.L.length:Int)))&&(decide (Du>=0))then
     a8 (0<=k3/\k3<v_0.L.length)<|
     aZ (j4 fuel (ix v_0.L k3) Du) fun r5=>
     some (.inl (r5,aC (k3+1)))
    else
     some (.inr Du)) (aC (tZ -1),0)) fun(PK:Int)=>
  some PK
def Jt{fuel:Nat}:∀{v_0:aa}{tZ:Int}{s:ae}{Q:List AV->ae->Prop},ok (j4 fuel v_0 tZ) (fun r=>Q [.int .i64 r] s)->FN prog 43 [.agg [.int .i64 v_0.Kind,.int .i64 v_0.N,.str v_0.S.b,.sl false 4 v_0.L.length (flat v_0.L)],.int .i64 tZ] s Q:=by
 induction fuel with
 |zero=>intros;rename_i h;rw[j4]at h;exact absurd h Xd9
 |succ fuel ih=>
 have acn:∀{v_0:aa}{tZ:Int}{s:ae}{r:Int},j4 fuel v_0 tZ=some r->FE prog 43 [.agg [.int .i64 v_0.Kind,.int .i64 v_0.N,.str v_0.S.b,.sl false 4 v_0.L.length (flat v_0.L)],.int .i64 tZ] s [.int .i64 r] s:=fun h=>ih ⟨_,h,rfl,rfl⟩
 intro v_0 tZ s Q
 refine FR 27 [⟨4,true,none⟩] 0x9ff20a9fcd5ebc64cd2e4b459b50ab3fa9b44014871ee458909aaaf0a1bf8c4292d2dc794888e14e19ceefc4e87a88bc01504629d4128f77bc2ce0fa125de2cbd95f7ec2c43b584e0339a5943292c11611ce26789a52747e9024aa3bd2b3e5988400c60839818b j4.eq_2 ?_
 repeat'(first
  |(with_reducible first|exact dj|refine cj ?_ ?_|refine dw ?_|refine aN (fun _(h:j4 fuel (ix v_0.L k3) Du=some _)=>acn h) (fun r5=>?_))
  |((with_reducible refine cY (fun((Du,k3):Int×Int)=>⟨[(1,.int .i64 Du),(2,.loc [.int .i64 v_0.Kind,.int .i64 v_0.N,.str v_0.S.b,.sl false 4 v_0.L.length (flat v_0.L)]),(5,.int .i64 k3)],[],s⟩) ?_ ?_);(first|exact rfl|simp -implicitDefEqProofs only[go_sem,seval]);rintro J ⟨Du,k3⟩)
  |((with_reducible refine dT (fun(PK:Int)=>⟨[(1,.int .i64 PK)],[],s⟩) (fun J=>?_) ?_);rotate_left;rintro PK)
  |refine Xe4 ?_|exact Xf8)
def oJ(l_0:gX):Option (Bool):=
 aZ (j4 Bp l_0.bp 300) fun r1=>
 some (decide (r1>=0))
def Jv{l_0}:FF 14 [.agg [.int .i64 l_0.lC,.sl false 1 l_0.Path.length (flat l_0.Path),.int .i64 l_0.bp.Kind,.int .i64 l_0.bp.N,.str l_0.bp.S.b,.sl false 4 l_0.bp.L.length (flat l_0.bp.L)]] (oJ l_0) fun r=>[.bool r]:=by
 intro s Q
 refine FR 7 [⟨2,true,none⟩] 0x16bf811f39feb38dc2ceef053cc39c4e59a160dde3683f6995b oJ.eq_1 ?_
 repeat'(first
  |with_reducible refine aN (fun _(h:j4 Bp l_0.bp 300=some _)=>(kK Jt h:)) (fun r1=>?_)
  |refine Xe4 ?_|exact Xf8)
def Ju{l_0}{s:ae}{r:Bool}(h:oJ l_0=some r):FE prog 14 [.agg [.int .i64 l_0.lC,.sl false 1 l_0.Path.length (flat l_0.Path),.int .i64 l_0.bp.Kind,.int .i64 l_0.bp.N,.str l_0.bp.S.b,.sl false 4 l_0.bp.L.length (flat l_0.bp.L)]] s [.bool r] s:=Jv ⟨r,h,rfl,rfl⟩
def Dt(l_0:gX):Option (jq):=some (jq.mk l_0.lC l_0.Path l_0.bp)
def Lw{l_0}:FF 18 [.agg [.int .i64 l_0.lC,.sl false 1 l_0.Path.length (flat l_0.Path),.int .i64 l_0.bp.Kind,.int .i64 l_0.bp.N,.str l_0.bp.S.b,.sl false 4 l_0.bp.L.length (flat l_0.bp.L)]] (Dt l_0) fun r=>[.agg [.int .i64 r.lC,.sl false 1 r.Path.length (flat r.Path),.int .i64 r.bp.Kind,.int .i64 r.bp.N,.str r.bp.S.b,.sl false 4 r.bp.L.length (flat r.bp.L)]]:=by
 intro s Q
 exact FC 10 [⟨2,false,some (6,true)⟩] 0x24218f96ede6a3340797e260ac5439fa75dfd9f55faa613f6bf184871a50de1a710b5c1a7a00009ca036e8f6995b Dt.eq_1
def A6{l_0}{s:ae}{r:jq}(h:Dt l_0=some r):FE prog 18 [.agg [.int .i64 l_0.lC,.sl false 1 l_0.Path.length (flat l_0.Path),.int .i64 l_0.bp.Kind,.int .i64 l_0.bp.N,.str l_0.bp.S.b,.sl false 4 l_0.bp.L.length (flat l_0.bp.L)]] s [.agg [.int .i64 r.lC,.sl false 1 r.Path.length (flat r.Path),.int .i64 r.bp.Kind,.int .i64 r.bp.N,.str r.bp.S.b,.sl false 4 r.bp.L.length (flat r.bp.L)]] s:=Lw ⟨r,h,rfl,rfl⟩
end Go.AB
end
section
set_option maxRecDepth 16000
namespace Go.AB
open Go
open Go.Proofs.Tryz (prog)
attribute[-go_sem] Nat.add_zero mi cy
structure jM where
 da:(List Int)
 pN:Int
instance:aO jM:=⟨2,fun x=>[.sl false 1 x.da.length (flat x.da),.int .i64 x.pN],(jM.mk [] 0),B_,fun _=>rfl,fun _=>rfl⟩
@[go_sem]theorem xW(x:jM):aO.cells x=[.sl false 1 x.da.length (flat x.da),.int .i64 x.pN]:=rfl
def BB:IC:=dec 0xdd3dc9ef41d2cb1e2766ed7f0a15677669541485f6783cf8993850111044c39b01c971b7171202b45895897dd1c391a041c0ee1c07f81f69409958eb475253e2b502c64ce36436b24ce1848b6e85b7f2a938cedd8665685b25bdd43935eb80dc502c8cb6eaa6c855daeb11f7264e5fdba1792eee2bd1f98d92d9441e790b31cc91636bfe4a6117600dcf661b6cf9ee1e1858e238715ef833be2ac343ff6e8caed581752e3e6a95cee848c4b8e7d49504883fa
def rq:List jr:=[⟨4,true,none⟩]
def BH:ey prog 16 53 rq BB=true:=By
def nI:IC:=dec 0x55b9db8f5619e8113f109eb030e79e35b60d8cc1c17071f598c8da564f57537f94b1a98e155f2f81c4258d6d3b6748e411a089dcf3327bc3e12cada713de59100e9c327c36ac9588406a7a07365791a07823750d4cb42dd60a07cfd14261a933ea580a5121ec4c3700c81c43f3e7813862c020ccbd8f10cfe7a1115a97497e549ea281be46da6a34dff02e9a017c750c44957a834d3e7b66fbf10ad827aff84419ddaf5dc409e7af2e5efccb11c04d0a6798699aa31912963b40d4ac0119f3922f8ae08a62d767fca42674e9e0650c68382f16f63e3743031d067966f1b4ea29609f593900be04d5856b3a1a854acac90bb2824308841d33b29ae30b0b6004f07464a708d53dd64d66d7941a85f95fb47e259d66ed24087ab8461a6568e0512f0a88d3a1f10dc2bd28fd06806b5a98211a1684bbf3d5bf864edecd6c0a85f4b948f976eafc8e5833c0f57646a33f4cda6e327df5a612e2303ed2e948c917b935c63b9ee9fd5cb37fa0cc5b2537e897e77a6e8aad7991aca2f8d072ab9498009945e40e6b575d580adeeef88d897614eb680aa8690c4182f12666b5e60b5a7141103045863a2ef1e6d31c2a5bdef3da595020ac343faeaea7cb4e16fc79b87c688b4bc53762f1ec61e81de9d689fb5c
def vD:ey prog 4 126 [⟨8,true,none⟩] nI=true:=By
def tT:IC:=dec 0x12d3279baffa794fad28f769a3656cffd976603ecc0df2d89b7b8649fe286980bc020d7858973e8d85b8ee4a02cb5b325deabcb7e81d2043f0ccb6645574154bafef38f90fc964461c0a36fd3afafa05ca1af44a531392e2306baca17eac467ab6485330c041e44adeaef67c70bc947ad69d0854d91cdc33410763b7e4a53c867238f211b650144b0b0f40d970b26953acb07f7ae858dc65c16f907ced18fa6120589aaf131aa8230394fd1a036f98fb73270a29f99026e03b64a4c953f46d357847a2cb766788636d60cbee45e0d29ea90a3290e9fab92a1942e39c55c950ca171bc68fc712416ba3a559152626bd7828c836f0b52e2b8b57b9243968c2ec923467406291a468b0d9eadc002b5cae4a28213383b50c0342028d9b7f25e822d0dee9c15ce6d0d1786b1bac780242a1f2182664b8f90c13325c7c8609992e3e4304cc971f2182664bab253cadef9df316e20e2e6f517e5c5be4559964a5833a4aaffa7e68af39d521bc776a7d4369f91eb04dde1fca42046691572e3a9cfbd7a3536fc20f640a7a
def Dp:ey prog 15 70 [⟨0,true,none⟩] tT=true:=By
def ve(b:List UInt8)(l:List aj):Int×iS->Option ((Int×iS)⊕iS):=fun(k,g)=>
 if decide (k<(l.length:Int))then
  a8 (0<=k/\k<l.length)<|
  if((decide ((ix l k).aP>=0))&&(decide ((ix l k).aP<=(ix l k).To)))&&(decide ((ix l k).To<=(b.length:Int)))then
   a8 (0<=(ix l k).aP/\(ix l k).aP<=(ix l k).To/\(ix l k).To<=b.length)<|
   aZ (kO g (ix l k).aP (part b (ix l k).aP (ix l k).To)) fun r=>a8 (r.1.total<=2147483647) (some (.inl (aC (k+1),r.1)))
  else some (.inl (aC (k+1),g))
 else some (.inr g)
def BJ{s:ae}{b:List UInt8}{l:List aj}{Q:List AV->ae->Prop}(hb:b.length<=2147483647):
 ok (iter (ve b l) (0,⟨b.length,[],fun _=>none⟩)) (fun g=>∀B s',fg s s' B g->Q [.ref B 0] s')->FN prog 16 [.sl false 1 b.length (flat b),.sl false 2 l.length (flat l)] s Q:=by
 intro hh
 refine FN.j8 (FO BH rfl rfl ?_)
 rw[rq]
 refine wu ⟨AT,AT⟩ fun B s1 h1=>?_
 refine Xe4 ?_
 revert hh
 refine lN (fun q τ=>∃s',τ=⟨[(0,.sl false 1 b.length (flat b)),(1,.sl false 2 l.length (flat l)),(5,.ref B 0),(7,.int .i64 q.1)],[],s'⟩/\fg s s' B q.2/\q.2.total<=2147483647) ?_ ?_
 ·exact⟨s1,rfl,h1,A_⟩
 rintro J ⟨k,g⟩ τ ⟨s',rfl,h',ht⟩
 rw[ve]
 refine Xe4 ?_
 rintro⟨w1,w2⟩
 refine⟨fun hk=>?_,fun hk=>?_⟩
 ·obtain⟨⟨k1,k2⟩,w1⟩:=w1 hk
  refine⟨⟨k1,k2⟩,fun hc=>?_,fun hc=>?_⟩
  ·obtain⟨c,w⟩:=w1.1 hc
   refine⟨c,vQ h' ht (aJ w fun r hr s2 h2=>?_)⟩
   refine Xe4 ?_
   exact hr.2 _ ⟨s2,rfl,h2,hr.1⟩
  ·exact w1.2 hc _ ⟨s',rfl,h',ht⟩
 ·exact⟨s',Sub.refl _,w2 hk _ _ h'⟩
def wR(n:Int):aa:=⟨8,n,⟨[]⟩,[]⟩
def nP:aa:=⟨5,0,⟨[80,97,114,101,110,116]⟩,[]⟩
def nA:aa:=⟨5,0,⟨[65]⟩,[]⟩
def nB:aa:=⟨5,0,⟨[66]⟩,[]⟩
def wD:aa:=⟨7,0,⟨[]⟩,[nA,wR 2,nB,wR 1,nP,wR 9]⟩
def wO(v:aa):aA:=⟨v,false,⟨[]⟩⟩
def wN:aa:=⟨0,0,⟨[]⟩,[]⟩
def D21:nS:=⟨[wO wD,wO (wR 3),wO wN],1⟩
def ZA:oy [nP,wR 9,nA,wR 2,nB,wR 1]=some wD:=D_
def aee(F:Nat):ff (abK F D21) ⟨1,[],wN⟩=some ([1,2,3],[wO wD,wO (wR 3),wO wN],0,0):=D_
def Wr:jN [1,2,3] [1,2,3]=some true:=D_
def ZB:fG wD=some [2,1,9]:=D_
def Ws:jN [2,1,9] [2,1,9]=some true:=D_
def Wq:iR wD (wR 4)=some [2,1,4]:=D_
def Wt:jN [2,1,4] [2,1,4]=some true:=D_
def k7{s:ae}:FE prog 15 [] s [.bool true] s:=by
 refine FN.j8 (FO Dp rfl rfl ?_)
 rw[tT]
 refine Xf9 ?_
 refine Xe4 ?_
 refine⟨By,FE.app (jl (s_0:=⟨[80,97,114,101,110,116]⟩) (r:=nP) rfl) ?_⟩
 refine Xe4 ?_
 refine⟨By,FE.app (jQ (r:=wR 9) rfl) ?_⟩
 refine Xe4 ?_
 refine⟨By,FE.app (jl (s_0:=⟨[65]⟩) (r:=nA) rfl) ?_⟩
 refine Xe4 ?_
 refine⟨By,FE.app (jQ (r:=wR 2) rfl) ?_⟩
 refine Xe4 ?_
 refine⟨By,FE.app (jl (s_0:=⟨[66]⟩) (r:=nB) rfl) ?_⟩
 refine Xe4 ?_
 refine⟨By,FE.app (jQ (r:=wR 1) rfl) ?_⟩
 refine Xe4 ?_
 refine gx D_ (FE.app (BZ ZA) ?_)
 refine Xe4 ?_
 refine⟨By,?_⟩
 refine⟨[.agg [.int .i64 8,.int .i64 3,.str [],.sl false 4 0 []]],rfl,jQ (r:=wR 3) rfl,rfl,?_⟩
 refine Xe4 ?_
 refine gx (as1:=[.agg (DOC D21)]) D_ (Nr (d:=D21) fun F db s1 hs1 hF hdb=>?_)
 have hV:=Xd B_ hF hdb
 refine Xe4 ?_
 refine gx D_ (FE.app (mF (f_0:=abK F D21) hV (aee F)) ?_)
 refine Xe4 ?_
 refine⟨[.bool true],rfl,mP Wr,?_⟩
 have k4:(((3:Nat):Int)==3)=true:=rfl
 simp -implicitDefEqProofs only[go_sem,seval,k4,beq_self_eq_true,Bool.and_self,Bool.and_true]
 refine⟨[.sl false 1 3 [.int .i64 2,.int .i64 1,.int .i64 9]],rfl,fun _=>⟨_,rfl,mO ZB⟩,[.bool true],rfl,fun _=>⟨_,rfl,mP Ws⟩,?_⟩
 simp -implicitDefEqProofs only[go_sem,seval,beq_self_eq_true,Bool.and_self,Bool.and_true]
 refine⟨[.agg [.int .i64 8,.int .i64 4,.str [],.sl false 4 0 []]],rfl,fun _=>⟨45,[.int .i64 4],⟨[],[],_,rfl,rfl,rfl⟩,By,jQ (r:=wR 4) rfl⟩,
  [.sl true 1 3 [.int .i64 2,.int .i64 1,.int .i64 4]],rfl,fun _=>⟨_,rfl,um (given_1:=wR 4) Wq⟩,[.bool true],rfl,fun _=>⟨_,rfl,mP Wt⟩,?_⟩
 simp -implicitDefEqProofs only[go_sem,seval,beq_self_eq_true,Bool.and_self,Bool.and_true]
 exact⟨s,hs1,rfl⟩
structure MQ(b:List UInt8)(l:List aj)(t:dn)(p:jq)(g w:iS)(x:Int):Prop where
 hs:iter (ve b l) (0,⟨b.length,[],fun _=>none⟩)=some g
 gt:g.total<=2147483647
 hw:kO ⟨b.length,[],fun _=>none⟩ 0 b=some (w,x)
 wt:w.total<=2147483647
 run:∀F:Nat,∃r,ff (LM F g t) p=some r/\
  (r.2.2.2=6->(r.1=[]/\r.2.1=[])/\0<=r.2.2.1/\r.2.2.1<b.length/\∃u,lD g.known (max 0 r.2.2.1)=some u/\min g.total u=r.2.2.1)/\
  (r.2.2.2≠6->r.2.2.1=0/\jN r.1 r.1=some true/\pE r.2.1 r.2.1=some true/\∀F2:Nat,ff (LM F2 w t) p=some r)
def vF{s:ae}{b:List UInt8}{l:List aj}{tt:jM}{y:gX}(hh:∃r,oJ y=some r/\(r=true->b.length<=1500->l.length<=30->tt.da.length<=40->∃g w x,MQ b l ⟨tt.da,tt.pN⟩ ⟨y.lC,y.Path,y.bp⟩ g w x)):
 FE prog 4 [.sl false 1 b.length (flat b),.sl false 2 l.length (flat l),.agg [.sl false 1 tt.da.length (flat tt.da),.int .i64 tt.pN],.agg [.int .i64 y.lC,.sl false 1 y.Path.length (flat y.Path),.int .i64 y.bp.Kind,.int .i64 y.bp.N,.str y.bp.S.b,.sl false 4 y.bp.L.length (flat y.bp.L)]] s [.bool true] s:=by
 obtain⟨t,rfl⟩:∃t:dn,tt=⟨t.da,t.pN⟩:=⟨⟨tt.da,tt.pN⟩,rfl⟩
 refine FN.j8 (FO vD rfl rfl ?_)
 rw[nI]
 refine Xf9 ?_
 refine Xe4 ?_
 obtain⟨few,f1,f2⟩:=hh
 refine⟨[.bool few],rfl,fun _=>⟨_,rfl,Ju f1⟩,?_⟩
 refine Xe4 ?_
 refine⟨fun _=>k7.app ?_,fun hc=>?_⟩
 ·refine Xe4 ?_
  exact⟨s,Sub.refl _,rfl⟩
 have hc:few=true/\b.length<=1500/\l.length<=30/\t.da.length<=40:=by simp at hc;exact⟨hc.2,AT,AT,AT⟩
 obtain⟨hf,hb,hl,ht⟩:=hc
 obtain⟨g,w,x,H⟩:=f2 hf hb hl ht
 refine BJ AT ⟨g,H.hs,fun B s1 h1=>?_⟩
 refine Xe4 ?_
 refine gx (as1:=[.ref B 0,.agg (TAB t)]) D_ (AR (t:=t) fun F s2 hs2 hN=>?_)
 refine Xe4 ?_
 have hV:=PQ (h1.sub hs2) H.gt hN
 obtain⟨r,hr,Y7,akX⟩:=H.run F
 refine FE.app (A6 (l_0:=y) rfl) ?_
 refine Xe4 ?_
 refine(mF (f_0:=LM F g t) (l_1:=⟨y.lC,y.Path,y.bp⟩) hV hr).app ?_
 refine Xe4 ?_
 refine⟨fun h6=>?_,fun h6=>?_⟩
 ·obtain⟨⟨z0,z1⟩,z2,z3,u,z4,z5⟩:=Y7 Xb7
  have e1:(decide (r.2.2.1>=0)&&decide (r.2.2.1<(b.length:Int)))=true:=C_
  rw[e1]
  refine⟨[.int .i64 r.2.2.1],rfl,fun _=>⟨_,rfl,?_⟩,?_⟩
  ·exact sD (g:=g) (at_:=r.2.2.1) (h1.sub hs2) ⟨u,z4,by show[AV.int IntKind.i64 (min g.total u)]=_/\_;rw[z5];exact⟨rfl,rfl⟩⟩
  have k0:(([]:List Int).length:Int)=0:=rfl
  have k1:(([]:List aA).length:Int)=0:=rfl
  simp -implicitDefEqProofs only[go_sem,seval,z0,z1,k0,k1,beq_self_eq_true,Bool.and_self,Bool.and_true]
  refine⟨[.bool true],rfl,?_,?_⟩
  ·first|exact fun _=>⟨_,rfl,k7⟩|exact fun _=>k7|exact k7
  simp -implicitDefEqProofs only[go_sem,seval,beq_self_eq_true,Bool.and_self,Bool.and_true]
  exact⟨s,fun c o hc=>hs2 c o (h1.1 c o hc),rfl⟩
 ·obtain⟨z1,z2,z3,z4⟩:=akX Xb7
  refine gx (as1:=[.sl false 1 b.length (flat b)]) D_ (BX (l:=b) AT ⟨(w,x),H.hw,fun B2 s3 h3=>?_⟩)
  refine Xe4 ?_
  refine gx (as1:=[.ref B2 0,.agg (TAB t)]) D_ (AR (t:=t) fun F2 s4 hs4 hN2=>?_)
  refine Xe4 ?_
  have hV2:=PQ (h3.sub hs4) H.wt hN2
  refine FE.app (A6 (l_0:=y) rfl) ?_
  refine Xe4 ?_
  refine(mF (f_0:=LM F2 w t) (l_1:=⟨y.lC,y.Path,y.bp⟩) hV2 (z4 F2)).app ?_
  refine Xe4 ?_
  refine⟨[.bool true],rfl,mP z2,?_⟩
  simp -implicitDefEqProofs only[go_sem,seval,z1,beq_self_eq_true,Bool.and_self,Bool.and_true]
  refine⟨[.bool true],rfl,fun _=>⟨_,rfl,FV z3⟩,?_⟩
  simp -implicitDefEqProofs only[go_sem,seval,z1,beq_self_eq_true,Bool.and_self,Bool.and_true]
  refine⟨[.bool true],rfl,?_,?_⟩
  ·first|exact fun _=>⟨_,rfl,k7⟩|exact fun _=>k7|exact k7
  simp -implicitDefEqProofs only[go_sem,seval,beq_self_eq_true,Bool.and_self,Bool.and_true]
  exact⟨s,fun c o hc=>hs4 c o (h3.1 c o (hs2 c o (h1.1 c o hc))),rfl⟩
end Go.AB
end
section
set_option maxRecDepth 4000
namespace Go.AB
open Go
def RO(x:aj):Bool:=!((decide (x.aP<0))||(decide (x.To<=x.aP)))
def JJ{x:aj}:RO x=true↔0<=x.aP/\x.aP<x.To:=by unfold RO;simp
def XP(p:Int)(l:List aj):Prop:=∃x∈l,RO x=true/\su p x
theorem Y9(x:aj):(!Av x)=RO x:=D_
def I8{l:List aj}{x:aj}:x∈Ms (full l)↔x∈l/\RO x=true:=by grind [Ms,full,List.mergeSort_perm,leB,Y9]
def SpI(l:List aj):Prop:=∀x∈l,x.To<=9223372036854775807
def aib{l:List aj}(h:SpI l):∀x∈Ms (full l),afF x:=fun x hx=>by
 obtain⟨h1,h2⟩:=I8.1 hx
 obtain⟨h3,h4⟩:=JJ.1 h2
 exact⟨h3,h4,h x h1⟩
def Mr{l:List aj}{p:Int}:dH p (Ms (full l))↔XP p l:=by
 constructor
 ·rintro⟨x,hx,hp⟩;exact⟨x,(I8.1 hx).1,(I8.1 hx).2,hp⟩
 ·rintro⟨x,h1,h2,hp⟩;exact⟨x,I8.2 ⟨h1,h2⟩,hp⟩
def NO{l:List aj}(h:SpI l):Form (A4 0 (Ms (full l)))/\SpI (A4 0 (Ms (full l)))/\∀p,dH p (A4 0 (Ms (full l)))↔XP p l:=by
 have h0:Form []:=⟨fun _ h=>absurd h (List.not_mem_nil),List.Pairwise.nil⟩
 have:=uP (Ms (full l)) [] h0 (fun _ h=>absurd h (List.not_mem_nil)) (aib h) (P9 _) (fun O y e=>by simp at e)
 refine⟨this.1,this.2.1,fun p=>?_⟩
 refine(this.2.2 p).trans ⟨fun h=>?_,fun h=>.inr (Mr.2 h)⟩
 rcases h with h|h
 ·obtain⟨x,hx,_⟩:=h;cases hx
 ·exact Mr.1 h
def PH(l:List aj):List aj:=A4 0 (Ms (full l))
def OA{l:List aj}(hr:l.length*16<=room):rv l 0=some (PH l):=by
 unfold rv
 rw[bI hr];rfl
theorem Q8(l:List aj):(PH l).length<=l.length:=by
 have h1:=zU 0 (Ms (full l)) []
 have h2:(Ms (full l)).length=(full l).length:=List.length_mergeSort _
 have h3:(full l).length<=l.length:=List.length_filter_le _ _
 have h4:(PH l).length<=[].length+(Ms (full l)).length:=h1
 have h5:([]:List aj).length=0:=rfl
 omega
def Gx(x:aj):jf x=some (!RO x):=by unfold jf RO;simp
theorem Ui{l:List aj}(h:Form l){p:Int}:XP p l↔dH p l:=⟨fun⟨x,hx,_,hp⟩=>⟨x,hx,hp⟩,fun⟨x,hx,hp⟩=>⟨x,hx,JJ.2 (h.1 x hx),hp⟩⟩
theorem ND{l m:List aj}{p:Int}:XP p (l++m)↔XP p l\/XP p m:=by grind [XP,List.mem_append_left,List.mem_append_right]
theorem XQ{x:aj}{p:Int}:XP p [x]↔RO x=true/\su p x:=by unfold XP;simp
theorem yZ{n:Nat}(h:n<=100000000):n*16<=room:=i_
def Y4{l:List aj}{x:aj}(h:Form l)(hi:SpI l)(hx:x.To<=9223372036854775807)(hr:l.length+1<=100000000):
 ∃l',B8 l x=some l'/\Form l'/\SpI l'/\l'.length<=l.length+1/\∀p,dH p l'↔dH p l\/(RO x=true/\su p x):=by
 have e1:(l++[x]).length=l.length+1:=BY
 have hsp:SpI (l++[x]):=fun y hy=>by
  rcases List.mem_append.1 hy with hy|hy
  ·exact hi y hy
  ·obtain rfl:=List.mem_singleton.1 hy;exact hx
 obtain⟨f1,f2,f3⟩:=NO hsp
 refine⟨PH (l++[x]),ay (yZ hr) (OA (by rw[e1];exact yZ hr)),f1,f2,by grind [Q8],fun p=>?_⟩
 refine(f3 p).trans ?_
 rw[ND,XQ,Ui h]
def Mv{l:List aj}{k:Nat}(hk:k<l.length){p:Int}:dH p (l.take (k+1))↔dH p (l.take k)\/su p l[k]:=by rw[List.take_succ_eq_append_getElem hk,fP,oL]
def Xr{l:List aj}(h:Form l){k:Nat}(hk:k<l.length){y:aj}(hy:y∈l.take k):y.To<l[k].aP:=by
 obtain⟨j,hj,rfl⟩:=List.getElem_of_mem hy
 rw[List.length_take]at hj
 rw[List.getElem_take]
 exact List.pairwise_iff_getElem.1 h.2 j k AT hk AT
structure AD(l:List aj)(x:aj)(k:Nat)(out:List aj)(at_:Int):Prop where
 form:Form out
 WI:∀a∈out,a.To<=x.To
 len:out.length<=k
 lo:x.aP<=at_
 hi:at_<=x.To
 tc:(∀a∈out,a.To<at_)\/at_=x.To
 pre:∀y∈l.take k,min y.To x.To<=at_
 amk:at_=x.aP\/∃y∈l.take k,at_<=y.To
 mem:∀p,dH p out↔x.aP<=p/\p<at_/\¬dH p (l.take k)
def DB{at_ t:Int}{out:List aj}(h:out.length+1<=100000000):uV at_ out t=some (if at_<t then out++[⟨at_,t⟩]else out):=by
 unfold uV
 by_cases hc:at_<t
 ·rw[if_pos (decide_eq_true hc),if_pos hc,bI (yZ h)]
 ·rw[if_neg A_,if_neg hc]
def AD.push{l:List aj}{x:aj}{k:Nat}{out:List aj}{at_ t:Int}(h:AD l x k out at_)(h0:0<=x.aP)(ht:t<=x.To)(hc:at_<t):Form (out++[⟨at_,t⟩])/\∀a∈out,a.To<at_:=by
 have hg:∀a∈out,a.To<at_:=by
  rcases h.tc with hg|hg
  ·exact hg
  ·omega
 have:=h.lo
 exact⟨h.form.snoc A_ (fun a ha=>hg a ha),hg⟩
theorem AD.step{l:List aj}{x:aj}{k:Nat}{out:List aj}{at_:Int}(hl:Form l)(h0:0<=x.aP)(hk:k<l.length)(h:AD l x k out at_):
 AD l x (k+1) (if at_<min l[k].aP x.To then out++[⟨at_,min l[k].aP x.To⟩]else out) (max at_ (min l[k].To x.To)):=by
 have hy:=hl.1 l[k] (List.getElem_mem hk)
 have hlt:=fun y(h:y∈l.take k)=>Xr hl hk h
 have hin:∀y,y∈l.take (k+1)↔y∈l.take k\/y=l[k]:=fun y=>by rw[List.take_succ_eq_append_getElem hk,List.mem_append,List.mem_singleton]
 have htm:=fun p=>Mv hk (p:=p)
 generalize l[k]=y at*
 obtain⟨hf,hto,hlen,hlo,hhi,XG,XK,alU,IJ⟩:=id h
 have aau:∀z∈l.take (k+1),min z.To x.To<=max at_ (min y.To x.To):=fun z hz=>A_
 have TS:max at_ (min y.To x.To)=x.aP\/∃z∈l.take (k+1),max at_ (min y.To x.To)<=z.To:=A_
 by_cases hc:at_<min y.aP x.To
 ·rw[if_pos hc]
  obtain⟨hp1,hp2⟩:=h.push h0 (Int.min_le_right _ _) hc
  refine⟨hp1,fun a ha=>?_,C_,AT,AT,?_,aau,TS,fun p=>?_⟩
  ·rcases List.mem_append.1 ha with ha|ha
   ·exact hto a ha
   ·obtain rfl:=List.mem_singleton.1 ha;simp only;omega
  ·by_cases hy2:y.aP<x.To
   ·refine .inl fun a ha=>?_
    rcases List.mem_append.1 ha with ha|ha
    ·have:=hp2 a ha;omega
    ·obtain rfl:=List.mem_singleton.1 ha;simp only;omega
   ·exact .inr AT
  ·rw[fP,oL,IJ,htm]
   show _\/(at_<=p/\p<min y.aP x.To)↔_
   constructor
   ·rintro(⟨a1,a2,a3⟩|⟨a1,a2⟩)
    ·exact⟨a1,AT,fun h=>h.elim a3 fun hin=>by have:=hin.1;omega⟩
    ·refine⟨AT,AT,fun h=>h.elim (fun⟨z,hz,hz2⟩=>?_) fun hin=>by have:=hin.1;omega⟩
     have:=XK z hz
     have:=hz2.2
     omega
   grind [min,absurd,dH,su]
 ·rw[if_neg hc]
  refine⟨hf,hto,AT,AT,AT,?_,aau,TS,fun p=>?_⟩
  ·rcases XG with XG|XG
   ·exact .inl fun a ha=>by have:=XG a ha;omega
   ·exact .inr AT
  grind [absurd,dH,su]
def Hm{l:List aj}{x:aj}(hl:Form l)(h0:0<=x.aP)(hr:l.length+1<=100000000):∀(m k:Nat)(out:List aj)(at_:Int),k+m=l.length->AD l x k out at_->
 ∃Yu at',HX (US x l) (m+1) (out,at_,(k:Int)) (Yu,at')/\AD l x l.length Yu at'
 |0,k,out,at_,hk,h=>⟨out,at_,.stop (by exact an A_ rfl),A_⟩
 |m+1,k,out,at_,hk,h=>by
  have hkl:k<l.length:=AT
  have e:=gh hkl
  have hlen:=h.len
  obtain⟨Yu,at',h1,h2⟩:=Hm hl h0 hr m (k+1) _ _ AT (h.step hl h0 hkl)
  refine⟨Yu,at',.step ?_ h1,h2⟩
  refine aM (decide_eq_true AT) (ay ⟨BY,AT⟩ (ah (DB AT) ?_))
  grind [ao]
def Mm{l:List aj}{x:aj}(hl:Form l)(hr:l.length+2<=100000000):
 ∃ms,pS l x=some ms/\Form ms/\ms.length<=l.length+1/\(∀a∈ms,a.To<=x.To)/\∀p,dH p ms↔RO x=true/\su p x/\¬dH p l:=by
 cases hv:RO x with
 |false=>refine⟨[],ah (Gx x) A_,⟨fun _ h=>absurd h List.not_mem_nil,List.Pairwise.nil⟩,BY,fun _ h=>absurd h List.not_mem_nil,fun p=>⟨fun⟨_,h,_⟩=>absurd h List.not_mem_nil,fun h=>Bool.noConfusion h.1⟩⟩
 |true=>
  have hx:=JJ.1 hv
  have i0:AD l x 0 [] x.aP:=⟨⟨fun _ h=>absurd h List.not_mem_nil,List.Pairwise.nil⟩,fun _ h=>absurd h List.not_mem_nil,BY,AT,AT,.inl fun _ h=>absurd h List.not_mem_nil,fun y hy=>A_,.inl rfl,fun p=>⟨fun⟨_,h,_⟩=>absurd h List.not_mem_nil,fun h=>AT⟩⟩
  obtain⟨out,at_,h1,h2⟩:=Hm hl hx.1 AT l.length 0 [] x.aP AT i0
  have hlen:=h2.len
  have XK:∀{p:Int},p<x.To->¬p<at_->¬dH p l:=fun hp1 hp2⟨z,hz,hz2⟩=>by
   have:=h2.pre z A_
   have:=hz2.2
   omega
  have IJ:=fun p=>by have:=h2.mem p;rwa[List.take_length]at this
  refine⟨if at_<x.To then out++[⟨at_,x.To⟩]else out,ah (Gx x) (by
   rw[hv]
   exact ah (ay (yZ AT) rfl) (ah (h1.iter AT) (DB AT))),?_,?_,?_,fun p=>?_⟩
  ·split
   ·exact(h2.push hx.1 (Int.le_refl _) A_).1
   ·exact h2.form
  ·split
   ·simp;omega
   ·omega
  ·split
   ·intro a ha
    rcases List.mem_append.1 ha with ha|ha
    ·exact h2.WI a ha
    ·obtain rfl:=List.mem_singleton.1 ha;exact Int.le_refl _
   ·exact h2.WI
  ·have hhi:=h2.hi
   have hlo:=h2.lo
   split
   ·rw[fP,oL,IJ]
    show _\/(at_<=p/\p<x.To)↔_
    constructor
    ·rintro(⟨a1,a2,a3⟩|⟨a1,a2⟩)
     ·exact⟨rfl,⟨a1,AT⟩,a3⟩
     ·exact⟨rfl,⟨AT,a2⟩,XK a2 AT⟩
    ·rintro⟨_,⟨a1,a2⟩,a3⟩
     by_cases hp:p<at_
     ·exact .inl ⟨a1,hp,a3⟩
     ·exact .inr ⟨AT,a2⟩
   ·rw[IJ]
    exact⟨fun⟨a1,a2,a3⟩=>⟨rfl,⟨a1,AT⟩,a3⟩,fun⟨_,⟨a1,a2⟩,a3⟩=>⟨a1,AT,a3⟩⟩
def HN{l:List aj}{a:Int}:∀(m k:Nat),k+m=l.length->l.length<=100000000->Form l->(∀y∈l.take k,¬su a y)->
 ∃r,HX (Wh l a) (m+1) (k:Int) r/\((r=a/\¬dH a l)\/∃y∈l,su a y/\r=y.To)
 |0,k,hk,_,_,h=>⟨a,.stop (by exact an A_ rfl),.inl ⟨rfl,fun⟨y,hy,hp⟩=>h y A_ hp⟩⟩
 |m+1,k,hk,hb,hf,h=>by
  have hkl:k<l.length:=AT
  have e:=gh hkl
  by_cases hc:su a l[k]
  ·refine⟨l[k].To,.stop ?_,.inr ⟨l[k],List.getElem_mem hkl,hc,rfl⟩⟩
   refine aM (decide_eq_true AT) (ay ⟨BY,AT⟩ ?_)
   rw[e]
   exact aM (by simp[Bool.and_eq_true,decide_eq_true_eq];exact hc) rfl
  ·obtain⟨r,h1,h2⟩:=HN m (k+1) AT hb hf (fun y hy=>by
    rw[List.take_succ_eq_append_getElem hkl]at hy
    rcases List.mem_append.1 hy with hy|hy
    ·exact h y hy
    ·obtain rfl:=List.mem_singleton.1 hy;exact hc)
   refine⟨r,.step ?_ h1,h2⟩
   refine aM (decide_eq_true AT) (ay ⟨BY,AT⟩ ?_)
   rw[e,if_neg (by simp only[Bool.and_eq_true,decide_eq_true_eq];exact hc),ao AT AT]
   rfl
def QX{l:List aj}(h:Form l){x y:aj}(hx:x∈l)(hy:y∈l){p:Int}(hp:su p x)(hq:y.aP<=p/\p<=y.To):x=y:=by
 obtain⟨i,hi,rfl⟩:=List.getElem_of_mem hx
 obtain⟨j,hj,rfl⟩:=List.getElem_of_mem hy
 by_cases hij:i=j
 ·subst hij;rfl
 ·have:=hp.1
  have:=hp.2
  rcases Nat.lt_or_gt_of_ne hij with hlt|hlt
  ·have:=List.pairwise_iff_getElem.1 h.2 i j hi hj hlt;omega
  ·have:=List.pairwise_iff_getElem.1 h.2 j i hj hi hlt;omega
def Mn{l:List aj}{a:Int}(hl:Form l)(hr:l.length<=100000000):∃r,lD l a=some r/\a<=r/\(∀p,a<=p->p<r->dH p l)/\¬dH r l:=by
 obtain⟨r,h1,h2⟩:=HN l.length 0 BY hr hl (fun y hy=>A_)
 refine⟨r,ah (ay (yZ hr) rfl) (h1.iter AT),?_⟩
 rcases h2 with⟨rfl,h2⟩|⟨y,hy,hy2,rfl⟩
 ·exact⟨Int.le_refl _,fun p _ _=>AT,h2⟩
 ·refine⟨by have:=hy2.2;omega,fun p hp1 hp2=>⟨y,hy,by have:=hy2.1;exact⟨AT,hp2⟩⟩,fun⟨z,hz,hz2⟩=>?_⟩
  have:=QX hl hz hy hz2 ⟨by have:=hl.1 y hy;omega,Int.le_refl _⟩
  subst this
  have:=hz2.2
  omega
def pr(s:bg)(v:aa):VL:=[⟨5,0,s,[]⟩,v]
def nm(c:VL):List UInt8:=(ix c 0).S.b
end Go.AB
end
