/- A part. -/
import Derived.Test.YtplacgnfinmfbaaGreatDoorFr10
set_option linter.defProp false
set_option linter.unusedSimpArgs false
set_option linter.unusedVariables false
section
set_option maxRecDepth 16000
namespace Go.AB
open Go
open Go.Proofs.Tryz (prog)
attribute[-go_sem] cL dm cg cK
def ln(x_0:UInt32)(k_1:Int):Option (Bool):=
 jn (
  iter (fun((x2,j3):UInt32×Int)=>
   if decide (j3<k_1)then
    some (.inl (cf (Int.tdiv (x2.toNat:Int) 2),ao (j3+1)))
   else
    some (.inr x2)) (x_0,0)) fun(x1:UInt32)=>
 some (((cf (Int.tmod (x1.toNat:Int) 2)).toNat:Int)==1)
def yg{x_0 k_1}:FF 178 [.int .u32 x_0.toNat,.int .i64 k_1] (ln x_0 k_1) fun r=>[.bool r]:=by
 intro s Q
 refine FR 16 [⟨4,true,none⟩] 0xb09fb743d90745664b313306e67c3ee1fec6a76897d446b22ba0ee8c7ca9d7e208704c2a51920076d25778f6d089df33e931b752c8eb09a77204acfd44e483fa ln.eq_1 ?_
 repeat'(first
  |((with_reducible refine bk (fun((x2,j3):UInt32×Int)=>⟨[(0,.int .u32 x2.toNat),(1,.int .i64 k_1),(5,.int .i64 j3)],[],s⟩) ?_ ?_);(first|exact rfl|simp -implicitDefEqProofs only[go_sem,seval]);rintro J ⟨x2,j3⟩)
  |((with_reducible refine aS (fun(x1:UInt32)=>⟨[(0,.int .u32 x1.toNat)],[],s⟩) (fun J=>?_) ?_);rotate_left;rintro x1)
  |refine Xh2 ?_|exact Xh3)
def oM(b_0:(List UInt8))(jc:Bool):Option ((List Bool)):=
 jn (
  iter (fun((mo,k3):(List Bool)×Int)=>
   if decide (k3<(b_0.length:Int))then
    jn (
     iter (fun((vg,j10):(List Bool)×Int)=>
      if decide (j10<8)then
       jn (
        if jc then
         aI (0<=k3/\k3<b_0.length)<|
         aL (ln (cf (((ix b_0 k3).toNat:Int))) (ao (7 -j10))) fun r20=>
         aI ((vg.length+[r20].length)*1<=room)<|
         some (vg++[r20])
        else
         aI (0<=k3/\k3<b_0.length)<|
         aL (ln (cf (((ix b_0 k3).toNat:Int))) j10) fun r21=>
         aI ((vg.length+[r21].length)*1<=room)<|
         some (vg++[r21])) fun(LW:(List Bool))=>
       some (.inl (LW,ao (j10+1)))
      else
       some (.inr vg)) (mo,0)) fun(Tj:(List Bool))=>
    some (.inl (Tj,ao (k3+1)))
   else
    some (.inr mo)) (([]:List Bool),0)) fun(ni:(List Bool))=>
 some ni
def Eb{b_0 jc}:FF 133 [sF 1 b_0,.bool jc] (oM b_0 jc) fun r=>[sT 1 r]:=by
 intro s Q
 refine FR 41 [⟨4,true,none⟩] 0x1c089555a4d540d3d714d759b0044933816a673a0f4af754e5d3b4e59f22a39886e1206b7307d9b7091556bb67a249de8874582462187397a64f9d46b83f2531afb44855d7a5c621dc51e7f52a37e7c240368696b471cdbc20a3beaf9dd7794b0247543c5f45f070c6225aa9b61ec220175ad0b9f9aa76f47f439d5aa9c2557f6d09d52939d976fac8d22196bcb8d3ec523e76e96ed5a4f60a61578c0aad2b60341c5f9438cc95589c1766e735774493d1ce744f2b31ad6a730d0f2e3fa oM.eq_1 ?_
 repeat'(first
  |(with_reducible first|exact bG|refine aV ?_ ?_|refine bI ?_|refine au (fun _(h:ln (cf (((ix b_0 k3).toNat:Int))) (ao (7 -j10))=some _)=>(c6 yg h:)) (fun r20=>?_)|refine au (fun _(h:ln (cf (((ix b_0 k3).toNat:Int))) j10=some _)=>(c6 yg h:)) (fun r21=>?_))
  |((with_reducible refine aS (live:=[(0,true),(1,false),(5,false),(6,false),(7,false)]) (fun(LW:(List Bool))=>⟨[(0,sF 1 b_0),(1,.bool jc),(5,sT 1 LW),(6,.int .i64 k3),(7,.int .i64 j10)],[],s⟩) (fun J=>?_) ?_);rotate_left;rintro LW)
  |((with_reducible refine bk (fun((vg,j10):(List Bool)×Int)=>⟨[(0,sF 1 b_0),(1,.bool jc),(5,sT 1 vg),(6,.int .i64 k3),(7,.int .i64 j10)],[],s⟩) ?_ ?_);(first|exact rfl|simp -implicitDefEqProofs only[go_sem,seval]);rintro J ⟨vg,j10⟩)
  |((with_reducible refine aS (live:=[(0,true),(1,false),(5,false),(6,false)]) (fun(Tj:(List Bool))=>⟨[(0,sF 1 b_0),(1,.bool jc),(5,sT 1 Tj),(6,.int .i64 k3)],[],s⟩) (fun J=>?_) ?_);rotate_left;rintro Tj)
  |((with_reducible refine bk (fun((mo,k3):(List Bool)×Int)=>⟨[(0,sF 1 b_0),(1,.bool jc),(5,sT 1 mo),(6,.int .i64 k3)],[],s⟩) ?_ ?_);(first|exact rfl|simp -implicitDefEqProofs only[go_sem,seval]);rintro J ⟨mo,k3⟩)
  |((with_reducible refine aS (live:=[(5,false)]) (fun(ni:(List Bool))=>⟨[(5,sT 1 ni)],[],s⟩) (fun J=>?_) ?_);rotate_left;rintro ni)
  |refine Xh2 ?_|exact Xh3)
def Ea{b_0 jc}{s:ae}{r:(List Bool)}(h:oM b_0 jc=some r):FE prog 133 [sF 1 b_0,.bool jc] s [sT 1 r] s:=Eb ⟨r,h,rfl,rfl⟩
def oN(l_0:(List Bool))(jc:Bool):Option (UInt32):=
 jn (
  iter (fun((x2,k3):UInt32×Int)=>
   if decide (k3<(l_0.length:Int))then
    jn (
     jn (
      if jc then
       some k3
      else
       some (ao ((ao ((l_0.length:Int) -1)) -k3))) fun(Ab:Int)=>
     aI (0<=Ab/\Ab<l_0.length)<|
     if ix l_0 Ab then
      some (cf (((cf (2*(x2.toNat:Int))).toNat:Int)+1))
     else
      some (cf (2*(x2.toNat:Int)))) fun(x7:UInt32)=>
    some (.inl (x7,ao (k3+1)))
   else
    some (.inr x2)) (0,0)) fun(x1:UInt32)=>
 some x1
def Jk{l_0 jc}:FF 179 [sF 1 l_0,.bool jc] (oN l_0 jc) fun r=>[.int .u32 r.toNat]:=by
 intro s Q
 refine FR 30 [⟨4,true,none⟩] 0x18c3b3fe552e93f014d93ba4a67726cb2cd6a9339e967a05298cbb0eb159c65b062c85cf11bcfaf69b636eeacb72bc4b4b2ea7e0567ea231b8059d17e7dfed06de7081b8e130efe83612330764d084ff1059e4ff6f9de1ef701cbf88dd3070286f077648fec8b4d90d11578c0aad2b60341c5f9438cc95589c1766e735774493d1ce82c9eec75a9d3d4c83fa oN.eq_1 ?_
 repeat'(first
  |(with_reducible first|exact bG|refine aV ?_ ?_|refine bI ?_)
  |((with_reducible refine aS (live:=[(0,true),(1,false),(5,false),(6,false),(7,false)]) (fun(Ab:Int)=>⟨[(0,sF 1 l_0),(1,.bool jc),(5,.int .u32 x2.toNat),(6,.int .i64 k3),(7,.int .i64 Ab)],[],s⟩) (fun J=>?_) ?_);rotate_left;rintro Ab)
  |((with_reducible refine aS (live:=[(0,true),(1,false),(5,false),(6,false)]) (fun(x7:UInt32)=>⟨[(0,sF 1 l_0),(1,.bool jc),(5,.int .u32 x7.toNat),(6,.int .i64 k3)],[],s⟩) (fun J=>?_) ?_);rotate_left;rintro x7)
  |((with_reducible refine bk (fun((x2,k3):UInt32×Int)=>⟨[(0,sF 1 l_0),(1,.bool jc),(5,.int .u32 x2.toNat),(6,.int .i64 k3)],[],s⟩) ?_ ?_);(first|exact rfl|simp -implicitDefEqProofs only[go_sem,seval]);rintro J ⟨x2,k3⟩)
  |((with_reducible refine aS (live:=[(5,false)]) (fun(x1:UInt32)=>⟨[(5,.int .u32 x1.toNat)],[],s⟩) (fun J=>?_) ?_);rotate_left;rintro x1)
  |refine Xh2 ?_|exact Xh3)
def kY(l_0:(List Int))(jY:(List UInt32))(b_2:(List Bool)):Option (Int×Int×Int):=
 nD (
  lJ (
   iter (fun(n4:Int)=>
    if decide (n4<=15)then
     nD (
      jn (
       iter (fun((qG,k21):Bool×Int)=>
        if decide (k21<(l_0.length:Int))then
         aI ((!qG)=true->0<=k21/\k21<l_0.length)<|
         some (.inl (qG||(decide (ix l_0 k21>=n4)),ao (k21+1)))
        else
         some (.inr qG)) (false,0)) fun(xO:Bool)=>
      if !xO then
       some (.inr ((0:Int),ao (n4 -1),(13:Int)))
      else
       if decide (n4>(b_2.length:Int))then
        some (.inr ((0:Int),ao (n4 -1),(10:Int)))
       else
        jn (
         iter (fun((x32,j33):UInt32×Int)=>
          if decide (j33<n4)then
           jn (
            aI (0<=j33/\j33<b_2.length)<|
            if ix b_2 j33 then
             some (cf (((cf (2*(x32.toNat:Int))).toNat:Int)+1))
            else
             some (cf (2*(x32.toNat:Int)))) fun(x43:UInt32)=>
           some (.inl (x43,ao (j33+1)))
          else
           some (.inr x32)) (0,0)) fun(x31:UInt32)=>
        lJ (
         iter (fun(k45:Int)=>
          if decide (k45<(l_0.length:Int))then
           aI (0<=k45/\k45<l_0.length)<|
           aI (((ix l_0 k45)==n4)=true->0<=k45/\k45<jY.length)<|
           if((ix l_0 k45)==n4)&&(((ix jY k45).toNat:Int)==(x31.toNat:Int))then
            some (.inr (.inr (k45,n4,(0:Int))))
           else
            some (.inl (ao (k45+1)))
          else
           some (.inr (.inl ()))) 0) (fun(_:Unit)=>
         some (.inl ()))
        (fun((t50,t51,t52):Int×Int×Int)=>some (.inr (t50,t51,t52)))) (fun(_:Unit)=>
      some (.inl (ao (n4+1))))
     (fun((t12,t13,t14):Int×Int×Int)=>some (.inr (.inr (t12,t13,t14))))
    else
     some (.inr (.inl ()))) 1) (fun(_:Unit)=>
   some (.inl ()))
  (fun((t5,t6,t7):Int×Int×Int)=>some (.inr (t5,t6,t7)))) (fun(_:Unit)=>
  some (0,15,13))
 (fun((t1,t2,t3):Int×Int×Int)=>some (t1,t2,t3))
def Ec{l_0 jY b_2}:FF 233 [sF 1 l_0,sF 1 jY,sF 1 b_2] (kY l_0 jY b_2) fun r=>[.int .i64 r.1,.int .i64 r.2.1,.int .i64 r.2.2]:=by
 intro s Q
 refine FR 79 [⟨6,true,none⟩,⟨7,true,none⟩,⟨8,true,none⟩] 0xcce8ee2428695649807b18ea27aad2cfbdc4b900fbac8d914fdfc830986975a2dc82a705a7e0dc978a3935bb602632932a927b5638acd7eb8e7993de43c58ebff3212b94c3657cfe1fb4fc1fab1dc42b3567ab069c6384a21aa9fa849c8767e51a33d309ef025cff0d50556fbb432ea1e9f2ae816281c58301a8b9c8949a933d191b29590ef4d533c41aab6579dbbe2dae80fd4b96ac0ec8baed2e05c79aa0de990344d32351dea029f0cb2df243979a607a5e5696773f72fe562201bafc7ca617c351c7d25bfb19e0dbaedf84d5c9b98f9455638a66d6ebd60fc064cb32db2c97121551811eb3fca32e060ef112b09bf43b7181c7e8a0ca15414dbbf80c2416e5d58712e1f5fde736dd7d864baf4e7082678fb45253e9cf872565dd9d07dcb2e95ea38ca5a1a0dc049b756e3483c099d136315081045fb9acacc97f998ba067b62eb78502bd0089d2fa03d17245c474a77477ae746a741336327fe25795d08d0c155b50f7093003f5e9a30a096682db705d907d28aa8286938acc64952f9e9802cc6168fbaf943bf1322139a81153bdbb9d71db97ddd1275df9fa86a211230f9528402d9003cc00c15c kY.eq_1 ?_
 repeat'(first
  |(with_reducible first|exact bG|refine aV ?_ ?_|refine bI ?_)
  |((with_reducible refine bk (fun((qG,k21):Bool×Int)=>⟨[(0,sF 1 l_0),(1,sF 1 jY),(2,sF 1 b_2),(9,.int .i64 n4),(10,.bool qG),(11,.int .i64 k21)],[],s⟩) ?_ ?_);(first|exact rfl|simp -implicitDefEqProofs only[go_sem,seval]);rintro J ⟨qG,k21⟩)
  |((with_reducible refine aS (live:=[(0,true),(1,true),(2,true),(9,false),(10,false)]) (fun(xO:Bool)=>⟨[(0,sF 1 l_0),(1,sF 1 jY),(2,sF 1 b_2),(9,.int .i64 n4),(10,.bool xO)],[],s⟩) (fun J=>?_) ?_);rotate_left;rintro xO)
  |((with_reducible refine aS (live:=[(0,true),(1,true),(2,true),(9,false),(12,false),(13,false)]) (fun(x43:UInt32)=>⟨[(0,sF 1 l_0),(1,sF 1 jY),(2,sF 1 b_2),(9,.int .i64 n4),(12,.int .u32 x43.toNat),(13,.int .i64 j33)],[],s⟩) (fun J=>?_) ?_);rotate_left;rintro x43)
  |((with_reducible refine bk (fun((x32,j33):UInt32×Int)=>⟨[(0,sF 1 l_0),(1,sF 1 jY),(2,sF 1 b_2),(9,.int .i64 n4),(12,.int .u32 x32.toNat),(13,.int .i64 j33)],[],s⟩) ?_ ?_);(first|exact rfl|simp -implicitDefEqProofs only[go_sem,seval]);rintro J ⟨x32,j33⟩)
  |((with_reducible refine aS (live:=[(0,true),(1,true),(2,true),(9,false),(12,false)]) (fun(x31:UInt32)=>⟨[(0,sF 1 l_0),(1,sF 1 jY),(2,sF 1 b_2),(9,.int .i64 n4),(12,.int .u32 x31.toNat)],[],s⟩) (fun J=>?_) ?_);rotate_left;rintro x31)
  |((with_reducible refine bk (fun(k45:Int)=>⟨[(0,sF 1 l_0),(1,sF 1 jY),(2,sF 1 b_2),(9,.int .i64 n4),(12,.int .u32 x31.toNat),(14,.int .i64 k45)],[],s⟩) ?_ ?_);(first|exact rfl|simp -implicitDefEqProofs only[go_sem,seval]);rintro J k45)
  |((with_reducible refine bR (live:=[(0,true),(1,true),(2,true),(9,false)]) (fun(_:Unit)=>⟨[(0,sF 1 l_0),(1,sF 1 jY),(2,sF 1 b_2),(9,.int .i64 n4)],[],s⟩) (fun J=>?_) ?_);rotate_left;rintro _)
  |((with_reducible refine bk (fun(n4:Int)=>⟨[(0,sF 1 l_0),(1,sF 1 jY),(2,sF 1 b_2),(9,.int .i64 n4)],[],s⟩) ?_ ?_);(first|exact rfl|simp -implicitDefEqProofs only[go_sem,seval]);rintro J n4)
  |((with_reducible refine bR (live:=[]) (fun(_:Unit)=>⟨[],[],s⟩) (fun J=>?_) ?_);rotate_left;rintro _)
  |refine Xh2 ?_|exact Xh3)
def mK(l_0:(List Int)):Option (Int):=
 if((l_0.length:Int)==0)||(decide ((l_0.length:Int)>320))then
  some (-1)
 else
  nD (
   lJ (
    iter (fun((wM,k4):Int×Int)=>
     if decide (k4<(l_0.length:Int))then
      nD (
       aI (0<=k4/\k4<l_0.length)<|
       aI ((!(decide (ix l_0 k4<0)))=true->0<=k4/\k4<l_0.length)<|
       if(decide (ix l_0 k4<0))||(decide (ix l_0 k4>15))then
        some (.inr ((-1):Int))
       else
        jn (
         iter (fun((Ob,j16):Int×Int)=>
          aI (0<=k4/\k4<l_0.length)<|
          if decide (j16<ix l_0 k4)then
           some (.inl (ao (Int.tdiv Ob 2),ao (j16+1)))
          else
           some (.inr Ob)) (32768,0)) fun(Ry:Int)=>
        aI (0<=k4/\k4<l_0.length)<|
        if decide (ix l_0 k4>0)then
         some (.inl (ao (wM+Ry)))
        else
         some (.inl wM)) (fun(T7:Int)=>
       some (.inl (T7,ao (k4+1))))
      (fun(t10:Int)=>some (.inr (.inr t10)))
     else
      some (.inr (.inl wM))) (0,0)) (fun(Yw:Int)=>
    some (.inl Yw))
   (fun(t6:Int)=>some (.inr t6))) (fun(Dy:Int)=>
   if decide (Dy>32768)then
    some (-1)
   else
    some Dy)
  (fun(t2:Int)=>some t2)
def Ed{l_0}:FF 290 [sF 1 l_0] (mK l_0) fun r=>[.int .i64 r]:=by
 intro s Q
 refine FR 54 [⟨2,true,none⟩] 0x64909857e35e070d1aa434b7b9e53175912c133790f9bd2a5f7863031f9496430e6e30d446891b66a4f9385fb5fb4ccab991a562541e5a6d0abf7cff8db2cc069b5d5ea2a2fc44722054c36a34a3111290f681868c727f6c2448d1b3c803be72747cd249f628c8b4add4c990aca495806a7934a1bfff64215c7a3f43dd45330460e33c61ebdfc423a645e0b02bb4587accd2d521b16fe8b8b1dde479a4e472dbe55b95d2e1fe5195257401a600fa3442a891e154b3d33e28b582191d24219dbf617b08a8dd2b5d0801f2a9f2c8093a60c86040849ed81b87ac8ca0e210b1579bbc45f8428e55d7931098a040c5123e405ed87f74f6b12cebb73870758b67befcc00473a mK.eq_1 ?_
 repeat'(first
  |(with_reducible first|exact bG|refine aV ?_ ?_|refine bI ?_)
  |((with_reducible refine bk (fun((Ob,j16):Int×Int)=>⟨[(0,sF 1 l_0),(3,.int .i64 wM),(4,.int .i64 k4),(5,.int .i64 Ob),(6,.int .i64 j16)],[],s⟩) ?_ ?_);(first|exact rfl|simp -implicitDefEqProofs only[go_sem,seval]);rintro J ⟨Ob,j16⟩)
  |((with_reducible refine aS (live:=[(0,true),(3,false),(4,false),(5,false)]) (fun(Ry:Int)=>⟨[(0,sF 1 l_0),(3,.int .i64 wM),(4,.int .i64 k4),(5,.int .i64 Ry)],[],s⟩) (fun J=>?_) ?_);rotate_left;rintro Ry)
  |((with_reducible refine bR (live:=[(0,true),(3,false),(4,false)]) (fun(T7:Int)=>⟨[(0,sF 1 l_0),(3,.int .i64 T7),(4,.int .i64 k4)],[],s⟩) (fun J=>?_) ?_);rotate_left;rintro T7)
  |((with_reducible refine bk (fun((wM,k4):Int×Int)=>⟨[(0,sF 1 l_0),(3,.int .i64 wM),(4,.int .i64 k4)],[],s⟩) ?_ ?_);(first|exact rfl|simp -implicitDefEqProofs only[go_sem,seval]);rintro J ⟨wM,k4⟩)
  |((with_reducible refine bR (live:=[(3,false)]) (fun(Dy:Int)=>⟨[(3,.int .i64 Dy)],[],s⟩) (fun J=>?_) ?_);rotate_left;rintro Dy)
  |refine Xh2 ?_|exact Xh3)
def qO(l_0:(List Int)):Option (Bool):=
 aL (mK l_0) fun r1=>
 some (decide (r1>=0))
def GX{l_0}:FF 270 [sF 1 l_0] (qO l_0) fun r=>[.bool r]:=by
 intro s Q
 refine FR 6 [⟨2,true,none⟩] 0xa1c396336384fd84e3dc3ce2120824473a qO.eq_1 ?_
 repeat'(first
  |with_reducible refine au (fun _(h:mK l_0=some _)=>(c6 Ed h:)) (fun r1=>?_)
  |refine Xh2 ?_|exact Xh3)
structure aJ where
 B:(List Bool)
 At:Int
 E:Int
 Out:(List UInt8)
 uT:Int
@[go_sem]abbrev xj(x:aJ):List AV:=[sF 1 x.B,.int .i64 x.At,.int .i64 x.E,sT 1 x.Out,.int .i64 x.uT]
def aO(r_0:aJ)(e_1:Int):Option (aJ):=
 if r_0.E==0 then
  some (aJ.mk r_0.B r_0.At e_1 r_0.Out r_0.uT)
 else
  some r_0
def cU{r_0 e_1}{B0:Nat}{s:ae}{Q:List AV->ae->Prop}(hB0:s B0=some (.cells (xj r_0))):ok (aO r_0 e_1) (fun r=>Q [] (s.set B0 (.cells (xj r))))->FN prog 139 [.ref B0 0,.int .i64 e_1] s Q:=by
 rw[<-aZ hB0]
 exact FC 13 [] 0x189bdb579fb2fe51d755b8efcb9da2151040490a97f02139453e aO.eq_1
def ba(r_0:aJ)(n_1:Int):Option (Int×aJ):=
 if r_0.E !=0 then
  some (0,r_0)
 else
  if decide (n_1>ao ((r_0.B.length:Int) -r_0.At))then
   aL (aO r_0 10) fun r1=>
   some (0,r1)
  else
   aI (0<=r_0.At/\r_0.At<=ao (r_0.At+n_1)/\ao (r_0.At+n_1)<=r_0.B.length)<|
   aL (oN (part r_0.B r_0.At (ao (r_0.At+n_1))) false) fun r2=>
   some (ao ((r2.toNat:Int)),(aJ.mk r_0.B (ao (r_0.At+n_1)) r_0.E r_0.Out r_0.uT))
def dk{r_0 n_1}{B0:Nat}{s:ae}{Q:List AV->ae->Prop}(hB0:s B0=some (.cells (xj r_0))):ok (ba r_0 n_1) (fun r=>Q [.int .i64 r.1] (s.set B0 (.cells (xj r.2))))->FN prog 134 [.ref B0 0,.int .i64 n_1] s Q:=by
 rw[<-aZ hB0]
 refine FR 52 [⟨4,true,none⟩] 0x18951676369b87829a77d137e4e7312d0b4a7109f3d0489116f09d6f499beaec79c13ae0509d566aafae922611949719b7c83c618e3c8e0442bd7282afd1c1f4c50c3be135296be6abbae4570756c0ec70eba6f37c5341d95847c7c2698de757e4fcf1588af2bebeef4e53ffc1ef30108e1d416c62b8dc4361157dec87a54d613b5e898b8d3baf7e0b206311794a30b45b647b3e476483f31c388db504ed3e2f9e23cdff60001cfc8ea13e53980083fa ba.eq_1 ?_
 repeat'(first
  |(with_reducible first|exact bG|refine aV ?_ ?_|refine bI ?_|refine fun hh=>cU (B0:=B0) DO (aF (show ok (aO r_0 10) _ from hh) fun r1=>?_)|refine cw (fun _(h:oN (part r_0.B r_0.At (ao (r_0.At+n_1))) false=some _)=>(c6 Jk h:)) (fun _=>rfl) (fun r2=>?_))
  |refine Xh2 ?_|exact Xh3)
def fB(r_0:aJ)(x_1:Int):Option (aJ):=
 if r_0.E !=0 then
  some r_0
 else
  if decide ((r_0.Out.length:Int)>=r_0.uT)then
   aL (aO r_0 3) fun r1=>
   some r1
  else
   aI ((r_0.Out.length+[eR (x_1)].length)*1<=room)<|
   some (aJ.mk r_0.B r_0.At r_0.E (r_0.Out++[eR (x_1)]) r_0.uT)
def tO{r_0 x_1}{B0:Nat}{s:ae}{Q:List AV->ae->Prop}(hB0:s B0=some (.cells (xj r_0))):ok (fB r_0 x_1) (fun r=>Q [] (s.set B0 (.cells (xj r))))->FN prog 180 [.ref B0 0,.int .i64 x_1] s Q:=by
 rw[<-aZ hB0]
 refine FR 32 [] 0x62d2871168dc76b9229fdb5f4d871c9d981eb453f3ec25a430a8763d04c380306bddc75479811abaa511909e6c683cfb446403c7c5ebe54b2b71b847a3f1bc90c3919f583e16534cf8a7af59e0ab2d3321a915f57712b036f2e fB.eq_1 ?_
 repeat'(first
  |(with_reducible first|exact bG|refine aV ?_ ?_|refine bI ?_|refine fun hh=>cU (B0:=B0) DO (aF (show ok (aO r_0 3) _ from hh) fun r1=>?_))
  |refine Xh2 ?_|exact Xh3)
def me(r_0:aJ):Option (aJ):=
 aL (ba (aJ.mk r_0.B (ao ((ao (Int.tdiv (ao (r_0.At+7)) 8))*8)) r_0.E r_0.Out r_0.uT) 16) fun r1=>
 aL (ba r1.2 16) fun r2=>
 jn (
  if(r2.2.E==0)&&(r2.1 !=(ao (65535 -r1.1)))then
   aL (aO r2.2 11) fun r5=>
   some r5
  else
   some r2.2) fun(o4:aJ)=>
 iter (fun((k6,o7):Int×aJ)=>
  if(decide (k6<r1.1))&&(o7.E==0)then
   aL (ba o7 8) fun r9=>
   aL (fB r9.2 r9.1) fun r10=>
   some (.inl (ao (k6+1),r10))
  else
   some (.inr o7)) (0,o4)
def yi{r_0}{B0:Nat}{s:ae}{Q:List AV->ae->Prop}(hB0:s B0=some (.cells (xj r_0))):ok (me r_0) (fun r=>Q [] (s.set B0 (.cells (xj r))))->FN prog 135 [.ref B0 0] s Q:=by
 rw[<-aZ hB0]
 refine FR 50 [] 0x24d64ee10b2048fa6b340ac9f4ca2f5ac4f9bfbd86206a71e56992d1db3da2f957a1c3084080f8e38b32cfacb0311ed5cb93e46b87ff2f4ffc3ca5ee14d72499f856b7d342c1056cefc7e02980e36ff5ba22fee4ea8384bc68c08b039e817d4bc745f3d1e4632dbf1345ad89b02791f4a17356b9573824bb320acd4b47da6fcf76c99df2d66bd2f056d0069239c78a8c103519f93f05c9dc9b804415fd77abc5df49e9462f4ea46236c7eb8bd9fc30983e4 me.eq_1 ?_
 repeat'(first
  |(with_reducible first|exact bG|refine aV ?_ ?_|refine bI ?_|refine fun hh=>dk (B0:=B0) DO (aF (show ok (ba (aJ.mk r_0.B (ao ((ao (Int.tdiv (ao (r_0.At+7)) 8))*8)) r_0.E r_0.Out r_0.uT) 16) _ from hh) fun r1=>?_)|refine fun hh=>dk (B0:=B0) DO (aF (show ok (ba r1.2 16) _ from hh) fun r2=>?_)|refine fun hh=>cU (B0:=B0) DO (aF (show ok (aO r2.2 11) _ from hh) fun r5=>?_)|refine fun hh=>dk (B0:=B0) DO (aF (show ok (ba o7 8) _ from hh) fun r9=>?_)|refine fun hh=>tO (B0:=B0) DO (aF (show ok (fB r9.2 r9.1) _ from hh) fun r10=>?_))
  |((with_reducible refine aS (fun(o4:aJ)=>⟨[(0,.ref B0 0),(2,.int .i64 r1.1)],[],(s.set B0 (.cells (xj o4)))⟩) (fun J=>?_) ?_);rotate_left;rintro o4)
  |((with_reducible refine bk (fun((k6,o7):Int×aJ)=>⟨[(0,.ref B0 0),(2,.int .i64 r1.1),(4,.int .i64 k6)],[],(s.set B0 (.cells (xj o7)))⟩) ?_ ?_);(first|exact rfl|simp -implicitDefEqProofs only[go_sem,seval]);rintro J ⟨k6,o7⟩)
  |refine Xh2 ?_|exact Xh3)
def pE:Option ((List Int)×(List Int)):=
 jn (
  iter (fun((l3,k4):(List Int)×Int)=>
   if decide (k4<288)then
    jn (
     if(decide (k4>=144))&&(decide (k4<256))then
      some 9
     else
      some 8) fun(n10:Int)=>
    jn (
     if(decide (k4>=256))&&(decide (k4<280))then
      some 7
     else
      some n10) fun(n14:Int)=>
    aI ((l3.length+[n14].length)*8<=room)<|
    some (.inl (l3++[n14],ao (k4+1)))
   else
    some (.inr l3)) (([]:List Int),0)) fun(l1:(List Int))=>
 jn (
  iter (fun((d17,k18):(List Int)×Int)=>
   if decide (k18<30)then
    aI ((d17.length+[5].length)*8<=room)<|
    some (.inl (d17++[5],ao (k18+1)))
   else
    some (.inr d17)) (([]:List Int),0)) fun(d16:(List Int))=>
 some (l1,d16)
def C4{s:ae}{Q:List AV->ae->Prop}:ok (pE) (fun r=>Q [sT 1 r.1,sT 1 r.2] s)->FN prog 136 [] s Q:=by
 refine FR 36 [⟨0,true,none⟩,⟨1,true,none⟩] 0xb933ce52d7baff907b93177b6d3c097f924be0246001de37cd191e613ed9c53dcbbbbda0fceb1bdbacc0684b36a300965aada2d49e407157470bef28c052dc1a9499b221a0893b3b5989567dcb794537d23141546da4b181955ba722168d3f367829d0da71171ab8bf19f4c79f36cef6b586839af49d25dd59f22ea8aa5cf111d63b270e4db3a875cd08ce406050ad6db87f9d87feec3989a6f32d2ad55e7ae4a87a2e730bb65a5a0a1a51960cb8ac8896642ec514b89982e51d5b5d3788ad71bae4e5d895cb0fb15a777b6c1bae3b801e10434ac0ca83681396c098d0f26acb pE.eq_1 ?_
 repeat'(first
  |(with_reducible first|exact bG|refine aV ?_ ?_|refine bI ?_)
  |((with_reducible refine aS (live:=[(2,false),(3,false),(4,false),(5,false)]) (fun(n10:Int)=>⟨[(2,sT 1 l3),(3,.sl true 1 0 []),(4,.int .i64 k4),(5,.int .i64 n10)],[],s⟩) (fun J=>?_) ?_);rotate_left;rintro n10)
  |((with_reducible refine bk (fun((l3,k4):(List Int)×Int)=>⟨[(2,sT 1 l3),(3,.sl true 1 0 []),(4,.int .i64 k4)],[],s⟩) ?_ ?_);(first|exact rfl|simp -implicitDefEqProofs only[go_sem,seval]);rintro J ⟨l3,k4⟩)
  |((have _x:=l1);clear _x;(with_reducible refine aS (live:=[(2,false),(3,false)]) (fun(d16:(List Int))=>⟨[(2,sT 1 l1),(3,sT 1 d16)],[],s⟩) (fun J=>?_) ?_);rotate_left;rintro d16)
  |((with_reducible refine bk (fun((d17,k18):(List Int)×Int)=>⟨[(2,sT 1 l1),(3,sT 1 d17),(6,.int .i64 k18)],[],s⟩) ?_ ?_);(first|exact rfl|simp -implicitDefEqProofs only[go_sem,seval]);rintro J ⟨d17,k18⟩)
  |((with_reducible refine aS (live:=[(2,false),(3,false)]) (fun(l1:(List Int))=>⟨[(2,sT 1 l1),(3,.sl true 1 0 [])],[],s⟩) (fun J=>?_) ?_);rotate_left;rintro l1)
  |refine Xh2 ?_|exact Xh3)
def C3{s:ae}{r:(List Int)×(List Int)}(h:pE=some r):FE prog 136 [] s [sT 1 r.1,sT 1 r.2] s:=C4 ⟨r,h,rfl,rfl⟩
def lr(n_0:Int):Option (Int):=
 jn (
  iter (fun((x2,k3):Int×Int)=>
   if decide (k3<n_0)then
    some (.inl (ao (2*x2),ao (k3+1)))
   else
    some (.inr x2)) (1,0)) fun(x1:Int)=>
 some x1
def tP{n_0}:FF 234 [.int .i64 n_0] (lr n_0) fun r=>[.int .i64 r]:=by
 intro s Q
 refine FR 13 [⟨2,true,none⟩] 0x7ef04eb60c25483b6bcef6682ec1b1146d20451f7e64666465b1385fb2211825703f7350abd3c7b7834791da5883c2057c5021671d6bca48e7bcc00473a lr.eq_1 ?_
 repeat'(first
  |((with_reducible refine bk (fun((x2,k3):Int×Int)=>⟨[(0,.int .i64 n_0),(3,.int .i64 x2),(4,.int .i64 k3)],[],s⟩) ?_ ?_);(first|exact rfl|simp -implicitDefEqProofs only[go_sem,seval]);rintro J ⟨x2,k3⟩)
  |((with_reducible refine aS (fun(x1:Int)=>⟨[(3,.int .i64 x1)],[],s⟩) (fun J=>?_) ?_);rotate_left;rintro x1)
  |refine Xh2 ?_|exact Xh3)
def fR(bc:Int):Option (Int×Int×Bool):=
 if(decide (bc<257))||(decide (bc>285))then
  some (0,0,false)
 else
  if bc==285 then
   some (258,0,true)
  else
   jn (
    iter (fun((at3,k4):Int×Int)=>
     if decide (k4<bc)then
      jn (
       if decide (k4>=265)then
        some (ao (Int.tdiv (ao (k4 -261)) 4))
       else
        some 0) fun(n10:Int)=>
      aL (lr n10) fun r11=>
      some (.inl (ao (at3+r11),ao (k4+1)))
     else
      some (.inr at3)) (3,257)) fun(at2:Int)=>
   if decide (bc<265)then
    some (at2,0,true)
   else
    some (at2,ao (Int.tdiv (ao (bc -261)) 4),true)
def AR{bc}:FF 183 [.int .i64 bc] (fR bc) fun r=>[.int .i64 r.1,.int .i64 r.2.1,.bool r.2.2]:=by
 intro s Q
 refine FR 37 [⟨2,true,none⟩,⟨3,true,none⟩,⟨4,true,none⟩] 0x976c1df80cbd64fd70976a507bd52bccbdb75a87e21c7cab4bb5268740238d40f945105c862e6027403954b3b4fe1c5152178dd512b7c88e33a348896a25c2f4053ed38f755663be669137b1f70677785149361f39a8fa3915eaafd862aa6bbc0955917dc8b1a62525ef0f50537abef1a41b4b0adc9c12ba65cd40bf1de8981e35897a7733e2da3de4e901600a85ecb926010e630ea505d3a771cb9a6df21ddad06aa6e2871447e5efe744efce957b33b55a3878bf4644157aa05b4149bacbde9e5eb18b12576c83b37a388b7795c946d9003cc0047dc fR.eq_1 ?_
 repeat'(first
  |(with_reducible first|exact bG|refine aV ?_ ?_|refine bI ?_|refine au (fun _(h:lr n10=some _)=>(c6 tP h:)) (fun r11=>?_))
  |((with_reducible refine aS (live:=[(0,false),(5,false),(6,false),(7,false)]) (fun(n10:Int)=>⟨[(0,.int .i64 bc),(5,.int .i64 at3),(6,.int .i64 k4),(7,.int .i64 n10)],[],s⟩) (fun J=>?_) ?_);rotate_left;rintro n10)
  |((with_reducible refine bk (fun((at3,k4):Int×Int)=>⟨[(0,.int .i64 bc),(5,.int .i64 at3),(6,.int .i64 k4)],[],s⟩) ?_ ?_);(first|exact rfl|simp -implicitDefEqProofs only[go_sem,seval]);rintro J ⟨at3,k4⟩)
  |((with_reducible refine aS (live:=[(0,false),(5,false)]) (fun(at2:Int)=>⟨[(0,.int .i64 bc),(5,.int .i64 at2)],[],s⟩) (fun J=>?_) ?_);rotate_left;rintro at2)
  |refine Xh2 ?_|exact Xh3)
def eQ(bc:Int):Option (Int×Int×Bool):=
 if(decide (bc<0))||(decide (bc>29))then
  some (0,0,false)
 else
  jn (
   iter (fun((at3,k4):Int×Int)=>
    if decide (k4<bc)then
     jn (
      if decide (k4>=4)then
       some (ao (Int.tdiv (ao (k4 -2)) 2))
      else
       some 0) fun(n10:Int)=>
     aL (lr n10) fun r11=>
     some (.inl (ao (at3+r11),ao (k4+1)))
    else
     some (.inr at3)) (1,0)) fun(at2:Int)=>
  if decide (bc<4)then
   some (at2,0,true)
  else
   some (at2,ao (Int.tdiv (ao (bc -2)) 2),true)
def yh{bc}:FF 184 [.int .i64 bc] (eQ bc) fun r=>[.int .i64 r.1,.int .i64 r.2.1,.bool r.2.2]:=by
 intro s Q
 refine FR 35 [⟨2,true,none⟩,⟨3,true,none⟩,⟨4,true,none⟩] 0x1d420bba8a5a6fa2a7969796c2277d2d288fb6ca00b14410c35e7890e252492bf89c1881ec8856c46b6d154b73056ada3c05f3dcf26318bb0d0702beb41d2114613be254f8867857dc8f4fd02192e476619632c0dbe321532a1cf1465d63cfb1d69189aa6b6c1d03e969714f50036aa22e310b93b100f214267e84aee7f0e4fbf5e3be528601e15ee0a0bafe46e0d7720c8a0e1e2fd191055ea816d1d33aa82abb218b109c35abc6388b7795c946d9003cc0047dc eQ.eq_1 ?_
 repeat'(first
  |(with_reducible first|exact bG|refine aV ?_ ?_|refine bI ?_|refine au (fun _(h:lr n10=some _)=>(c6 tP h:)) (fun r11=>?_))
  |((with_reducible refine aS (live:=[(0,false),(5,false),(6,false),(7,false)]) (fun(n10:Int)=>⟨[(0,.int .i64 bc),(5,.int .i64 at3),(6,.int .i64 k4),(7,.int .i64 n10)],[],s⟩) (fun J=>?_) ?_);rotate_left;rintro n10)
  |((with_reducible refine bk (fun((at3,k4):Int×Int)=>⟨[(0,.int .i64 bc),(5,.int .i64 at3),(6,.int .i64 k4)],[],s⟩) ?_ ?_);(first|exact rfl|simp -implicitDefEqProofs only[go_sem,seval]);rintro J ⟨at3,k4⟩)
  |((with_reducible refine aS (live:=[(0,false),(5,false)]) (fun(at2:Int)=>⟨[(0,.int .i64 bc),(5,.int .i64 at2)],[],s⟩) (fun J=>?_) ?_);rotate_left;rintro at2)
  |refine Xh2 ?_|exact Xh3)
def tN:Option ((List Int)):=some [16,17,18,0,8,7,9,6,10,5,11,4,12,3,13,2,14,1,15]
def C6{s:ae}{Q:List AV->ae->Prop}:ok (tN) (fun r=>Q [sT 1 r] s)->FN prog 185 [] s Q:=by exact FC 2 [⟨0,true,none⟩] 0x81ee5e1c409f72c397a5e89b6df532507cd02194ce0ddd61fd738955d09f3c9a2ad50105aaffd962cebbd4ddc497cca814d448bbde38ed7f3f54f409b1bf6c8380000000000000000000000000000000000152dd6857131b080d0f26a7a tN.eq_1
def C5{s:ae}{r:(List Int)}(h:tN=some r):FE prog 185 [] s [sT 1 r] s:=C6 ⟨r,h,rfl,rfl⟩
def qN(p_0:(List UInt8)):Option (UInt32):=
 jn (
  iter (fun((a3,b4,k5):Int×Int×Int)=>
   if decide (k5<(p_0.length:Int))then
    aI (0<=k5/\k5<p_0.length)<|
    some (.inl (Int.tmod (ao (a3+(ao (((ix p_0 k5).toNat:Int))))) 65521,Int.tmod (ao (b4+(Int.tmod (ao (a3+(ao (((ix p_0 k5).toNat:Int))))) 65521))) 65521,ao (k5+1)))
   else
    some (.inr (a3,b4))) (1,0,0)) fun((a1,b2):Int×Int)=>
 some (cf (ao ((ao (65536*b2))+a1)))
def GW{p_0}:FF 96 [sF 1 p_0] (qN p_0) fun r=>[.int .u32 r.toNat]:=by
 intro s Q
 refine FR 29 [⟨2,true,none⟩] 0x211d2859e21f3748bc0f6575bfdbc3a696f5a606641d6853cc53f23451655fce183dbcbe1fbd64224a41c5f79a043a31c0dbe9920c28d07cb5be93f5d91735b9693ce58771379ce6ee4b0d8e0341c8be46895af712f90c1a049ac039f72d759194dabcca44ec42e5f0cc132390a907d2bb5e52473dedd4c473a qN.eq_1 ?_
 repeat'(first
  |((with_reducible refine bk (fun((a3,b4,k5):Int×Int×Int)=>⟨[(0,sF 1 p_0),(3,.int .i64 a3),(4,.int .i64 b4),(5,.int .i64 k5)],[],s⟩) ?_ ?_);(first|exact rfl|simp -implicitDefEqProofs only[go_sem,seval]);rintro J ⟨a3,b4,k5⟩)
  |((with_reducible refine aS (fun((a1,b2):Int×Int)=>⟨[(3,.int .i64 a1),(4,.int .i64 b2)],[],s⟩) (fun J=>?_) ?_);rotate_left;rintro⟨a1,b2⟩)
  |refine Xh2 ?_|exact Xh3)
def GV{p_0}{s:ae}{r:UInt32}(h:qN p_0=some r):FE prog 96 [sF 1 p_0] s [.int .u32 r.toNat] s:=GW ⟨r,h,rfl,rfl⟩
def nn(x_0:UInt32):Option ((List UInt8)):=some [eR (((cf (Int.tdiv (x_0.toNat:Int) 16777216)).toNat:Int)),eR (((cf (Int.tmod ((cf (Int.tdiv (x_0.toNat:Int) 65536)).toNat:Int) 256)).toNat:Int)),eR (((cf (Int.tmod ((cf (Int.tdiv (x_0.toNat:Int) 256)).toNat:Int) 256)).toNat:Int)),eR (((cf (Int.tmod (x_0.toNat:Int) 256)).toNat:Int))]
def C0{x_0}:FF 95 [.int .u32 x_0.toNat] (nn x_0) fun r=>[sT 1 r]:=by
 intro s Q
 exact FC 18 [⟨2,true,none⟩] 0x37827a1a838accad743a78b37eae0bd50a1405c456b6eff053962d643faba6d9469b828e8d3395ccf8a15fc5493239cf21bae80e617acb89678746da96b9ee558b38b5e739ae4404aaf98d0f2a73a nn.eq_1
def CZ{x_0}{s:ae}{r:(List UInt8)}(h:nn x_0=some r):FE prog 95 [.int .u32 x_0.toNat] s [sT 1 r] s:=C0 ⟨r,h,rfl,rfl⟩
def nq(b_0:(List UInt8)):Option (Int):=
 if decide ((b_0.length:Int)<2)then
  some 10
 else
  aI (0<=(0:Int)/\(0:Int)<b_0.length)<|
  aI ((!(((eR (Int.tmod ((ix b_0 0).toNat:Int) 16)).toNat:Int)!=8))=true->0<=(0:Int)/\(0:Int)<b_0.length)<|
  aI ((!((((eR (Int.tmod ((ix b_0 0).toNat:Int) 16)).toNat:Int)!=8)||(decide (((eR (Int.tdiv ((ix b_0 0).toNat:Int) 16)).toNat:Int)>7))))=true->0<=(1:Int)/\(1:Int)<b_0.length)<|
  aI ((!(((((eR (Int.tmod ((ix b_0 0).toNat:Int) 16)).toNat:Int)!=8)||(decide (((eR (Int.tdiv ((ix b_0 0).toNat:Int) 16)).toNat:Int)>7)))||(((eR (Int.tmod ((eR (Int.tdiv ((ix b_0 1).toNat:Int) 32)).toNat:Int) 2)).toNat:Int)!=0)))=true->0<=(0:Int)/\(0:Int)<b_0.length)<|
  aI ((!(((((eR (Int.tmod ((ix b_0 0).toNat:Int) 16)).toNat:Int)!=8)||(decide (((eR (Int.tdiv ((ix b_0 0).toNat:Int) 16)).toNat:Int)>7)))||(((eR (Int.tmod ((eR (Int.tdiv ((ix b_0 1).toNat:Int) 32)).toNat:Int) 2)).toNat:Int)!=0)))=true->0<=(1:Int)/\(1:Int)<b_0.length)<|
  if(((((eR (Int.tmod ((ix b_0 0).toNat:Int) 16)).toNat:Int)!=8)||(decide (((eR (Int.tdiv ((ix b_0 0).toNat:Int) 16)).toNat:Int)>7)))||(((eR (Int.tmod ((eR (Int.tdiv ((ix b_0 1).toNat:Int) 32)).toNat:Int) 2)).toNat:Int)!=0))||((Int.tmod (ao ((ao (256*(ao (((ix b_0 0).toNat:Int)))))+(ao (((ix b_0 1).toNat:Int))))) 31)!=0)then
   some 11
  else
   some 0
def C8{b_0}:FF 93 [sF 1 b_0] (nq b_0) fun r=>[.int .i64 r]:=by
 intro s Q
 exact FC 40 [⟨2,true,none⟩] 0x546562099d9a8dd39f139063acccdcce20f330f099e4ce381b13a206319acba8074fd2ced4e6c8e8dca33242aaacd9ed91c1884fc8c987e4a9f542f8d31c06d01975d10b8d6e2613f86383ad8c6a996ea57fc0831646490ba29dcd276c677222fb5715bb8c4b8519c583c444aee75d25fac50e6bf952ae00b6cee530f666ec4f693672a3d62e1904cb2125b0852942f343ecf2e0ae24b41ef11c1b27a061f8b2742c9a25507bed5c00ca5dfaf23629de7c4d0ba943e207cce6a6f82af911b0dbf6a3eb720ef85d000e07478d213cc00473a nq.eq_1
def C7{b_0}{s:ae}{r:Int}(h:nq b_0=some r):FE prog 93 [sF 1 b_0] s [.int .i64 r] s:=C8 ⟨r,h,rfl,rfl⟩
end Go.AB
end
section
namespace Go.AB
open Go
structure HT where
 B:Nat
 lens:List Int
instance:Inhabited HT:=⟨⟨0,[]⟩⟩
def iu(l:List Int)(n:Nat):Int:=if n=0 then 0 else((l.filter fun x=>x==(n:Int)).length:Int)
def uZ(l:List Int)(n:Int):Int:=iu l n.toNat
def idxs(l:List Int):List Int:=(List.range l.length).map fun(k:Nat)=>(k:Int)
def ua(l:List Int):List Int:=((List.range 15).map fun n=>(idxs l).filter fun k=>ix l k==((n+1:Nat):Int)).flatten
def iC(t:HT)(r:bO):Option (Int×Int×bO):=
 iter (fun((code,first,at_,n,r):Int×Int×Int×Int×bO)=>
  if decide (n<=15)then
   if at_==((ua t.lens).length:Int)then
    some (.inr (0,13,r))
   else
    aL (fH r 1) fun g=>
    if g.2.1 !=0 then
     some (.inr (0,g.2.1,g.2.2))
    else
     aI (0<=n/\n<16)<|
     if decide (ao ((ao (D1 .i64 (ao (lO .i64 code 1)) (ao (g.1.toNat:Int)))) -(ao (lO .i64 first 1)))<uZ t.lens n)then
      aI (0<=ao ((ao (at_+(ao (D1 .i64 (ao (lO .i64 code 1)) (ao (g.1.toNat:Int)))))) -(ao (lO .i64 first 1)))/\ao ((ao (at_+(ao (D1 .i64 (ao (lO .i64 code 1)) (ao (g.1.toNat:Int)))))) -(ao (lO .i64 first 1)))<(ua t.lens).length)<|
      some (.inr (ix (ua t.lens) (ao ((ao (at_+(ao (D1 .i64 (ao (lO .i64 code 1)) (ao (g.1.toNat:Int)))))) -(ao (lO .i64 first 1)))),0,g.2.2))
     else
      some (.inl (ao (D1 .i64 (ao (lO .i64 code 1)) (ao (g.1.toNat:Int))),ao ((ao (lO .i64 first 1))+uZ t.lens n),ao (at_+uZ t.lens n),ao (n+1),g.2.2))
  else
   some (.inr (0,13,r))) (0,0,0,1,r)
def lq(l_0:List Int):Option (List UInt32×Int):=
 aL (qO l_0) fun r1=>
 if !r1 then
  some ([],13)
 else
  jn (
   iter (fun((out,code,n):List UInt32×UInt32×Int)=>
    if decide (n<=15)then
     jn (
      iter (fun((out,code,k):List UInt32×UInt32×Int)=>
       if decide (k<(l_0.length:Int))then
        aI (0<=k/\k<l_0.length)<|
        if(ix l_0 k)==n then
         aI (0<=k/\k<out.length)<|
         some (.inl (vm out k code,cf ((code.toNat:Int)+1),ao (k+1)))
        else
         some (.inl (out,code,ao (k+1)))
       else
        some (.inr (out,code))) (out,cf (2*(code.toNat:Int)),0)) fun((out,code):List UInt32×UInt32)=>
     some (.inl (out,code,ao (n+1)))
    else
     some (.inr out)) (List.replicate l_0.length 0,0,1)) fun(out:List UInt32)=>
  some (out,0)
def Ct{X Y α:Type}{o:Option (X⊕Y)}{z:X⊕Y}{F:X->Option α}{G:Y->Option α}{r:Option α}(h:o=some z)(k:ir F G z=r):nD o F G=r:=by
 rw[h]
 cases z<;>exact k
def Bz{X Y α:Type}{o:Option (X⊕Y)}{z:X⊕Y}{F:X->Option α}{G:Y->Option α}{r:Option α}(h:o=some z)(k:ir F G z=r):lJ o F G=r:=by
 rw[h]
 cases z<;>exact k
def gy{X Y α:Type}{o:Option (X⊕Y)}{F:X->Option α}{G:Y->Option α}{P:α->Prop}(Q:X⊕Y->Prop)(h:∃z,o=some z/\Q z)(k:∀z,Q z->∃x,ir F G z=some x/\P x):∃x,nD o F G=some x/\P x:=by
 obtain⟨z,hz,hq⟩:=h
 obtain⟨x,hx,hp⟩:=k z hq
 exact⟨x,Ct hz hx,hp⟩
def lW{X Y α:Type}{o:Option (X⊕Y)}{F:X->Option α}{G:Y->Option α}{P:α->Prop}(Q:X⊕Y->Prop)(h:∃z,o=some z/\Q z)(k:∀z,Q z->∃x,ir F G z=some x/\P x):∃x,lJ o F G=some x/\P x:=by
 obtain⟨z,hz,hq⟩:=h
 obtain⟨x,hx,hp⟩:=k z hq
 exact⟨x,Bz hz hx,hp⟩
def BU{X α:Type}{o:Option X}{F:X->Option α}{P:α->Prop}(Q:X->Prop)(h:∃z,o=some z/\Q z)(k:∀z,Q z->∃x,F z=some x/\P x):∃x,aL o F=some x/\P x:=by
 obtain⟨z,hz,hq⟩:=h
 obtain⟨x,hx,hp⟩:=k z hq
 exact⟨x,ah hz hx,hp⟩
def zM{X α:Type}{o:Option X}{F:X->Option α}{P:α->Prop}(Q:X->Prop)(h:∃z,o=some z/\Q z)(k:∀z,Q z->∃x,F z=some x/\P x):∃x,jn o F=some x/\P x:=by
 obtain⟨z,hz,hq⟩:=h
 obtain⟨x,hx,hp⟩:=k z hq
 exact⟨x,bQ hz hx,hp⟩
def gr(p:UInt8->Bool)(h:((List.range 256).all fun n=>p (UInt8.ofNat n))=true)(c:UInt8):p c=true:=by
 have:=List.all_eq_true.1 h c.toNat (List.mem_range.2 c.toNat_lt)
 simpa using this
def Ac(c:UInt8):List Bool:=(List.range 8).map fun j=>c.toNat.testBit j
def af(b:List UInt8):List Bool:=(b.map Ac).flatten
theorem k9(b:List UInt8):(af b).length=8*b.length:=by
 induction b with
 |nil=>rfl
 |cons c b ih=>grind [Ac,af,List.length_append,List.length_cons]
def EC:∀(b:List UInt8)(n:Nat)(h:n/8<b.length),(af b)[n]? =some ((b[n/8]).toNat.testBit (n % 8))
 |[],n,h=>absurd h (Nat.not_lt_zero _)
 |c::b,n,h=>by
  show(Ac c++af b)[n]? =_
  by_cases hn:n<8
  ·have e:n/8=0:=AT
   rw[List.getElem?_append_left (by exact hn)]
   simp only[e,List.getElem_cons_zero]
   have hm:n % 8=n:=AT
   rw[hm]
   unfold Ac
   rw[List.getElem?_map,List.getElem?_range hn];rfl
  ·have ih:=EC b (n -8) (by rw[List.length_cons]at h;omega)
   rw[List.getElem?_append_right (by show 8<=n;omega)]
   show(af b)[n -8]? =_
   rw[ih]
   have e:n/8=(n -8)/8+1:=AT
   have e2:(n -8)% 8=n % 8:=AT
   simp only[e,List.getElem_cons_succ,e2]
def bv:List Bool->Nat
 |[]=>0
 |x::l=>(if x then 1 else 0)+2*bv l
theorem ED:∀l:List Bool,bv l<2^l.length
 |[]=>by decide
 |x::l=>by have:=ED l;rw[bv,List.length_cons,Nat.pow_succ];split<;>omega
theorem Lc:∀(l:List Bool)(x:Bool),bv (l++[x])=bv l+(if x then 2^l.length else 0)
 |[],x=>by simp[bv]
 |y::l,x=>by
  rw[List.cons_append,bv,Lc l x,bv,List.length_cons,Nat.pow_succ]
  split<;>split<;>omega
theorem PJ(c:UInt8)(j:Nat)(hj:j<8):(((eR (pR .u8 (c.toNat:Int) ((eR (lO .u8 1 (j:Int))).toNat:Int))).toNat:Int)!=0)=c.toNat.testBit j:=by
 have:=gr (fun c=>(List.range 8).all fun j=>(((eR (pR .u8 (c.toNat:Int) ((eR (lO .u8 1 (j:Int))).toNat:Int))).toNat:Int)!=0)==c.toNat.testBit j) V_ c
 simp_all
theorem ael(n:Nat)(h:n<9223372036854775808):ao (pR .i64 (n:Int) 7)=((n % 8:Nat):Int):=by
 have e:pR .i64 (n:Int) 7=((n % 8:Nat):Int):=by
  unfold pR
  have h1:(BitVec.ofInt IntKind.i64.bits (n:Int))=BitVec.ofNat 64 n:=rfl
  have h2:(BitVec.ofInt IntKind.i64.bits 7)=BitVec.ofNat 64 7:=rfl
  rw[h1,h2]
  congr 1
  show(BitVec.ofNat 64 n&&&BitVec.ofNat 64 7).toNat=_
  rw[BitVec.toNat_and,BitVec.toNat_ofNat,BitVec.toNat_ofNat,Nat.mod_eq_of_lt (a:=n) AT]
  exact Nat.and_two_pow_sub_one_eq_mod n 3
 grind [ak]
theorem afR(n:Nat):kJ .i64 (n:Int) 3=((n/8:Nat):Int):=by
 unfold kJ
 show(n:Int).fdiv 8=_
 grind
theorem dh(n:Nat)(h:n<4294967296):(cf (n:Int)).toNat=n:=by
 unfold cf
 rw[Aa _ _ rfl]
 have:(2^IntKind.u32.bits:Int)=4294967296:=BY
 grind [UInt32.toNat_ofNat']
def XA(x k:Nat)(hx:x<2^k)(hk:k<32):(cf (D1 .u32 (x:Int) ((cf (lO .u32 1 (k:Int))).toNat:Int))).toNat=x+2^k:=by
 have hp:2^k<2^32:=Nat.pow_lt_pow_right BY hk
 have hp2:2^(k+1)<=2^32:=Nat.pow_le_pow_right BY hk
 have e32:(2:Nat)^32=4294967296:=BY
 rw[Nat.pow_succ]at hp2
 have e1:lO .u32 1 (k:Int)=((2^k:Nat):Int):=by
  unfold lO
  rw[Int.one_mul,Int.toNat_natCast,show min k IntKind.u32.bits=k from Nat.min_eq_left (by show k<=32;omega)]
  exact(Int.natCast_pow 2 k).symm
 rw[e1,dh _ AT]
 have e2:D1 .u32 (x:Int) ((2^k:Nat):Int)=((x+2^k:Nat):Int):=by
  unfold D1
  show(((BitVec.ofNat 32 x |||BitVec.ofNat 32 (2^k)).toNat:Nat):Int)=_
  rw[BitVec.toNat_or,BitVec.toNat_ofNat,BitVec.toNat_ofNat,Nat.mod_eq_of_lt AT,Nat.mod_eq_of_lt AT]
  have:=Nat.two_pow_add_eq_or_of_lt hx 1
  rw[Nat.mul_one]at this
  rw[Nat.or_comm,<-this,Nat.add_comm]
 grind [dh]
structure ZS where
 at_:Nat
 e:Int
 out:List UInt8
abbrev TJ(b:List UInt8)(n:Nat):bO:=⟨⟨(n:Int),false,true⟩,b⟩
abbrev AZ(b:List UInt8)(s:ZS):cy:=⟨TJ b s.at_,s.e⟩
abbrev qf(b:List UInt8)(most:Int)(s:ZS):an:=⟨AZ b s,s.out,most⟩
abbrev jX(b:List UInt8)(most:Int)(s:ZS):aJ:=⟨af b,(s.at_:Int),s.e,s.out,most⟩
def ZS.fail(s:ZS)(e:Int):ZS:=if s.e=0 then{s with e:=e}else s
def ar(B:List Bool)(n:Nat)(s:ZS):Int×ZS:=if s.e≠0 then(0,s)else if B.length<s.at_+n then(0,{s with e:=10})else((bv ((B.drop s.at_).take n):Int),{s with at_:=s.at_+n})
theorem PZ{B:List Bool}{n:Nat}{s:ZS}(h:s.e≠0):ar B n s=(0,s):=if_pos h
theorem PY{B:List Bool}{n:Nat}{s:ZS}(h:s.e=0)(h2:B.length<s.at_+n):ar B n s=(0,{s with e:=10}):=by unfold ar;grind
theorem P0{B:List Bool}{n:Nat}{s:ZS}(h:s.e=0)(h2:¬B.length<s.at_+n):ar B n s=((bv ((B.drop s.at_).take n):Int),{s with at_:=s.at_+n}):=by unfold ar;grind
section
variable{b:List UInt8}{most:Int}
theorem qL(s:ZS)(e:Int):aA (AZ b s) e=some (AZ b (s.fail e)):=by grind [aA,ZS.fail]
theorem qM(s:ZS)(e:Int):aO (jX b most s) e=some (jX b most (s.fail e)):=by grind [aO,ZS.fail]
theorem abO(hb:b.length<576460752303423488){at_ n:Nat}(hn:n<=32)(ha:at_<=8*b.length):fH (TJ b at_) (n:Int)=
 some (if(af b).length<at_+n then(0,10,TJ b at_)else(cf (bv (((af b).drop at_).take n):Nat),0,TJ b (at_+n))):=by
 have hl:=k9 b
 unfold fH bT gb
 simp only[bT,Bool.false_or,Bool.not_true,aB,Bool.false_eq_true,if_false]
 rw[if_neg By]
 rw[ak (n:=8*(b.length:Int)) AT AT,ak AT AT]
 by_cases hlt:(af b).length<at_+n
 ·grind
 ·rw[if_neg hlt,if_neg By]
  refine bQ (a:=(cf (bv (((af b).drop at_).take n):Nat),TJ b (at_+n))) (fb n (fun k=>(cf (bv (((af b).drop at_).take k):Nat),(k:Int),TJ b (at_+k))) rfl AT (fun k hk=>?_) B_) rfl
  have hg:=EC b (at_+k) AT
  have hi:ix b (((at_+k)/8:Nat):Int)=b[(at_+k)/8]:=eK AT
  have ht:((af b).drop at_).take (k+1)=((af b).drop at_).take k++[(b[(at_+k)/8]).toNat.testBit ((at_+k)% 8)]:=by rw[List.take_add_one,List.getElem?_drop,hg];rfl
  have hlen:(((af b).drop at_).take k).length=k:=by rw[List.length_take,List.length_drop];omega
  have hbv:=ED (((af b).drop at_).take k)
  rw[hlen]at hbv
  have h32:2^k<2^32:=Nat.pow_lt_pow_right BY AT
  have e32:(2:Nat)^32=4294967296:=BY
  simp only[]
  rw[if_pos By,ht,Lc,hlen]
  generalize bv (((af b).drop at_).take k)=x at hbv
  refine bQ (a:=cf ((x+(if(b[(at_+k)/8]).toNat.testBit ((at_+k)% 8)then 2^k else 0):Nat):Int)) ?_ ?_
  ·rw[afR,aP AT]
   unfold gz gA
   simp only[Bool.false_eq_true,if_false]
   rw[ael _ AT,aP AT,aB,hi,PJ _ _ AT]
   cases(b[(at_+k)/8]).toNat.testBit ((at_+k)% 8)with
   |false=>simp
   |true=>
    simp only[if_true,aB]
    rw[aP AT,dh x AT]
    have:=XA x k hbv AT
    have h2:x+2^k<2^32:=by
     have:2^(k+1)<=2^32:=Nat.pow_le_pow_right BY AT
     rw[Nat.pow_succ]at this;omega
    grind [cf,D1,lO,UInt32.toNat_inj,dh]
  grind [ak]
theorem cz{n:Nat}{s:ZS}(ha:s.at_<=8*b.length):(ar (af b) n s).2.at_<=8*b.length/\s.at_<=(ar (af b) n s).2.at_/\0<=(ar (af b) n s).1/\(ar (af b) n s).1<2^n/\(ar (af b) n s).2.out=s.out/\((ar (af b) n s).2.e=0->s.e=0/\(ar (af b) n s).2.at_=s.at_+n):=by
 have hl:=k9 b
 have hp:(0:Int)<2^n:=Int.pow_pos BY
 unfold ar
 split
 ·grind
 ·rename_i h
  split
  ·grind
  ·refine⟨A_,A_,A_,?_,rfl,fun _=>⟨IN,rfl⟩⟩
   grind [ED,af,List.length_take,List.length_drop,bv]
def KF(hb:b.length<576460752303423488){n:Nat}(hn:n<=31){s:ZS}(ha:s.at_<=8*b.length):aN (AZ b s) (n:Int)=some ((ar (af b) n s).1,AZ b (ar (af b) n s).2):=by
 have hbv:=ED (((af b).drop s.at_).take n)
 have hlen:(((af b).drop s.at_).take n).length<=n:=List.length_take_le _ _
 have h31:2^(((af b).drop s.at_).take n).length<=2^31:=Nat.pow_le_pow_right BY AT
 have e31:(2:Nat)^31=2147483648:=BY
 unfold aN
 by_cases he:s.e=0
 ·rw[if_neg I_,abO hb AT ha]
  by_cases hlt:(af b).length<s.at_+n
  ·rw[if_pos hlt,PY he hlt,aB]
   show aL (aA (AZ b s) 10) _=_
   rw[qL,aB]
   simp[ZS.fail,he]
   rfl
  ·rw[if_neg hlt,P0 he hlt,aB]
   show aL (aA (AZ b {s with at_:=s.at_+n}) 0) _=_
   rw[qL,aB]
   grind [ao,cf,dh,ak,ZS.fail]
 ·rw[if_pos I_,PZ he]
theorem rOf(l:List Bool)(h:l.length<=32):oN l false=some (cf (bv l:Nat)):=by
 have aaT:∀k,k<=l.length->bv (l.drop (l.length -k))<4294967296:=fun k hk=>by
  have:=ED (l.drop (l.length -k))
  have h2:2^(l.drop (l.length -k)).length<=2^32:=Nat.pow_le_pow_right BY A_
  grind
 unfold oN
 refine bQ (a:=cf (bv l:Nat)) (qx l.length (fun k=>cf (bv (l.drop (l.length -k)):Nat)) (by simp;rfl) AT (fun k hk=>?_) B_) rfl
 have hd:l.drop (l.length -(k+1))=l[l.length -1 -k]::l.drop (l.length -k):=by rw[show l.length -(k+1)=l.length -1 -k by omega,List.drop_eq_getElem_cons AT,show l.length -1 -k+1=l.length -k by omega]
 have hr:=aaT k AT
 have hr1:=aaT (k+1) AT
 rw[hd]at hr1⊢
 rw[bv]at hr1⊢
 have hw:ao (ao ((l.length:Int) -1) -(k:Int))=((l.length -1 -k:Nat):Int):=by rw[ak (n:=(l.length:Int) -1) AT AT,ak AT AT];omega
 have hix:ix l (((l.length -1 -k:Nat)):Int)=l[l.length -1 -k]:=eK AT
 generalize l[l.length -1 -k]=x at*
 generalize bv (l.drop (l.length -k))=y at*
 simp only[decide_eq_true (show(k:Int)<(l.length:Int) by omega),if_true,Bool.false_eq_true,if_false,rJ,hw]
 rw[aP AT,hix,dh y AT]
 cases x with
 |false=>simp_all
 |true=>
  simp only[if_true,rJ]at hr1⊢
  rw[show(2*(y:Int))=((2*y:Nat):Int) by omega,dh _ AT,show((2*y:Nat):Int)+1=((1+2*y:Nat):Int) by omega]
def CX(hb:b.length<576460752303423488){n:Nat}(hn:n<=31){s:ZS}(ha:s.at_<=8*b.length):ba (jX b most s) (n:Int)=some ((ar (af b) n s).1,jX b most (ar (af b) n s).2):=by
 have hl:=k9 b
 have hbv:=ED (((af b).drop s.at_).take n)
 have hlen:(((af b).drop s.at_).take n).length<=n:=List.length_take_le _ _
 have h31:2^(((af b).drop s.at_).take n).length<=2^31:=Nat.pow_le_pow_right BY AT
 have e31:(2:Nat)^31=2147483648:=BY
 unfold ba
 by_cases he:s.e=0
 ·have e0:((jX b most s).E !=0)=false:=I_
  rw[e0]
  show(if decide ((n:Int)>ao (((af b).length:Int) -(s.at_:Int)))=true then _ else _)=_
  rw[ak (n:=((af b).length:Int) -(s.at_:Int)) AT AT]
  show(if _ then _ else aI (0<=(s.at_:Int)/\(s.at_:Int)<=ao ((s.at_:Int)+(n:Int))/\ao ((s.at_:Int)+(n:Int))<=((af b).length:Int)) (aL (oN (part (af b) (s.at_:Int) (ao ((s.at_:Int)+(n:Int)))) false) fun r2=>some (ao (r2.toNat:Int),(⟨af b,ao ((s.at_:Int)+(n:Int)),s.e,s.out,most⟩:aJ))))=_
  rw[ak (n:=(s.at_:Int)+(n:Int)) AT AT]
  by_cases hlt:(af b).length<s.at_+n
  ·rw[if_pos By,PY he hlt,qM,aB]
   simp[ZS.fail,he]
  ·rw[if_neg By,P0 he hlt,aP AT]
   grind [part,af,Int.toNat_natCast,rOf,aB,dh,ak]
 ·rw[if_pos I_,PZ he]
end
def hv(x:Int):Int:=32768/2^x.toNat
def Py:List Int->Int->Option Int
 |[],s=>some s
 |x::l,s=>if x<0\/x>15 then none else Py l (if x>0 then s+hv x else s)
def yG(l:List Int):Int:=if l.length<1\/l.length>320 then -1 else match Py l 0 with
 |none=>-1
 |some s=>if s>32768 then -1 else s
def va(l:List Int):Prop:=0<l.length/\l.length<=320/\∀x∈l,0<=x/\x<=15
theorem Cl(x:Int):0<=hv x/\hv x<=32768:=by
 unfold hv
 have h1:(0:Int)<2^x.toNat:=Int.pow_pos BY
 refine⟨Int.ediv_nonneg BY AT,?_⟩
 have:=Int.ediv_le_self (a:=32768) (2^x.toNat) BY
 exact this
def Pz:∀(l:List Int)(s r:Int),Py l s=some r->0<=s->(∀x∈l,0<=x/\x<=15)/\0<=r
 |[],s,r,h,h0=>⟨fun x hx=>absurd hx List.not_mem_nil,by injection h with h;omega⟩
 |x::l,s,r,h,h0=>by
  rw[Py]at h
  split at h
  ·cases h
  ·rename_i hx
   have:=Cl x
   obtain⟨h1,h2⟩:=Pz l _ r h A_
   grind
theorem tu{l:List Int}(h:0<=yG l):va l:=by
 unfold yG at h
 split at h
 ·omega
 ·rename_i hl
  cases hk:Py l 0 with
  |none=>grind
  |some s=>exact⟨AT,AT,(Pz l 0 s hk (Int.le_refl _)).1⟩
theorem Yq{x:Int}(h0:0<=x)(h:x<=15):kJ .i64 32768 x=hv x:=by
 have:x=0\/x=1\/x=2\/x=3\/x=4\/x=5\/x=6\/x=7\/x=8\/x=9\/x=10\/x=11\/x=12\/x=13\/x=14\/x=15:=AT
 rcases this with h|h|h|h|h|h|h|h|h|h|h|h|h|h|h|h<;>subst h<;>rfl
def PA(l:List Int):oB l=some (yG l):=by
 unfold oB yG
 by_cases hl:l.length<1\/l.length>320
 ·grind
 ·rw[if_neg By,if_neg hl]
  generalize hr:Py l 0=r
  refine Ct (z:=match r with|none=>.inr (-1)|some s=>.inl s) (Bz (z:=match r with|none=>.inr (-1)|some s=>.inl s) (iter_eq (fun(s:Int×Int)=>∃k:Nat,s.2=k/\k<=l.length/\0<=s.1/\s.1<=32768*k/\Py (l.drop k) s.1=r) (fun s=>l.length -s.2.toNat) ⟨0,rfl,Nat.zero_le _,Int.le_refl _,Int.le_refl _,hr⟩ By ?_) (by cases r<;>rfl)) ?_
  ·rintro⟨sum,t⟩ ⟨k,rfl,hk,h0,h1,hz⟩
   simp only at h0 h1 hz⊢
   by_cases hlt:k<l.length
   ·rw[List.drop_eq_getElem_cons hlt,Py]at hz
    have hix:ix l (k:Int)=l[k]:=eK hlt
    rw[if_pos By]
    simp only[hix]
    generalize l[k]=x at hz
    by_cases hx:x<0\/x>15
    ·rw[if_pos hx]at hz;subst hz
     simp_all
    ·rw[if_neg hx]at hz
     have hh:=Cl x
     refine .inl ⟨((if x>0 then sum+hv x else sum),((k+1:Nat):Int)),Ct (z:=.inl (if x>0 then sum+hv x else sum)) (ai AT (ag By ?_)) ?_,⟨k+1,rfl,hlt,?_,?_,hz⟩,?_⟩
     ·by_cases hx0:x>0
      ·rw[if_pos By,if_pos hx0,aP AT,Yq AT AT,ak AT AT]
      grind
     ·grind [kN,ak]
     ·grind
     ·grind
     grind
   ·rw[List.drop_eq_nil_of_le AT]at hz
    rw[if_neg By]
    subst hz
    exact .inr rfl
  ·cases r with
   |none=>rfl
   |some s=>
    show(if decide (s>32768)=true then _ else _)=_
    grind
theorem Sm(j:Nat):ao (Int.tdiv (hv (j:Int)) 2)=hv ((j+1:Nat):Int):=by
 have hh:=Cl (j:Int)
 have e:Int.tdiv (hv (j:Int)) 2=hv ((j+1:Nat):Int):=by
  rw[Int.tdiv_eq_ediv_of_nonneg hh.1]
  unfold hv
  rw[Int.toNat_natCast,Int.toNat_natCast,Int.pow_succ,Int.ediv_ediv,if_neg (fun h=>absurd h.1 A_),Int.sub_zero]
 grind [Cl,ak]
theorem TU(l:List Int):mK l=some (yG l):=by
 unfold mK yG
 by_cases hl:l.length<1\/l.length>320
 ·grind
 ·rw[if_neg A_,if_neg hl]
  generalize hr:Py l 0=r
  refine Ct (z:=match r with|none=>.inr (-1)|some s=>.inl s) (Bz (z:=match r with|none=>.inr (-1)|some s=>.inl s) (iter_eq (fun(s:Int×Int)=>∃k:Nat,s.2=k/\k<=l.length/\0<=s.1/\s.1<=32768*k/\Py (l.drop k) s.1=r) (fun s=>l.length -s.2.toNat) ⟨0,rfl,Nat.zero_le _,Int.le_refl _,Int.le_refl _,hr⟩ By ?_) (by cases r<;>rfl)) ?_
  ·rintro⟨sum,t⟩ ⟨k,rfl,hk,h0,h1,hz⟩
   simp only at h0 h1 hz⊢
   by_cases hlt:k<l.length
   ·rw[List.drop_eq_getElem_cons hlt,Py]at hz
    have hix:ix l (k:Int)=l[k]:=eK hlt
    rw[if_pos By]
    simp only[hix]
    generalize l[k]=x at hz
    by_cases hx:x<0\/x>15
    ·rw[if_pos hx]at hz;subst hz
     simp_all
    ·rw[if_neg hx]at hz
     have hh:=Cl x
     refine .inl ⟨((if x>0 then sum+hv x else sum),((k+1:Nat):Int)),Ct (z:=.inl (if x>0 then sum+hv x else sum)) (ai AT (ai (fun _=>AT) (ag By (bQ (a:=hv x) (qx x.toNat (fun j=>hv (j:Int)) rfl AT (fun j hj=>?_) ?_) ?_)))) ?_,⟨k+1,rfl,hlt,?_,?_,hz⟩,?_⟩
     ·simp only
      rw[aP AT,if_pos By,Sm]
     ·simp only
      rw[aP AT,if_neg By,show((x.toNat:Nat):Int)=x by omega]
     ·rw[aP AT]
      by_cases hx0:x>0
      ·rw[if_pos By,if_pos hx0,ak AT AT]
      grind
     ·grind [kN,ak]
     ·grind
     ·grind
     grind
   ·rw[List.drop_eq_nil_of_le AT]at hz
    rw[if_neg By]
    subst hz
    exact .inr rfl
  ·cases r with
   |none=>rfl
   |some s=>
    show(if decide (s>32768)=true then _ else _)=_
    grind
theorem Ky(l:List Int):qO l=some (decide (0<=yG l)):=by
 unfold qO
 rw[TU,aB]
def sy(n:Nat):List Int->Nat->List Int
 |[],_=>[]
 |x::l,o=>if x=(n:Int)then(o:Int)::sy n l (o+1)else sy n l (o+1)
def ct(l:List Int)(n:Nat):Nat:=if n=0 then 0 else(sy n l 0).length
theorem wO(n:Nat):∀(l:List Int)(o:Nat),(sy n l o).length=(l.filter fun x=>x==(n:Int)).length
 |[],_=>rfl
 |x::l,o=>by
  rw[sy,List.filter_cons]
  by_cases h:x=(n:Int)
  ·rw[if_pos h,if_pos IN,List.length_cons,List.length_cons,wO n l]
  ·rw[if_neg h,if_neg IN,wO n l]
def Hn{n:Nat}:∀(l:List Int)(o:Nat)(x:Int),x∈sy n l o->(o:Int)<=x/\x<((o+l.length:Nat):Int)
 |[],_,_,h=>absurd h List.not_mem_nil
 |y::l,o,x,h=>by
  have ih:=Hn (n:=n) l (o+1) x
  rw[List.length_cons]
  rw[sy]at h
  grind
theorem V9(l:List Int)(n:Nat):iu l n=(ct l n:Int):=by grind [iu,ct,wO]
theorem QQ(L:List Int)(n:Nat):∀(l:List Int)(o:Nat),L.drop o=l->((List.range' o l.length).map fun k=>((k:Nat):Int)).filter (fun k=>ix L k==(n:Int))=sy n l o
 |[],_,_=>rfl
 |x::l,o,h=>by
  have ho:o<L.length:=by
   have:=congrArg List.length h
   rw[List.length_drop,List.length_cons]at this;omega
  rw[List.drop_eq_getElem_cons ho]at h
  injection h with h1 h2
  have hi:ix L (o:Int)=x:=by rw[eK ho,h1]
  rw[List.length_cons,List.range'_succ,List.map_cons,List.filter_cons,hi,QQ L n l (o+1) h2,sy]
  grind
theorem Kl(l:List Int)(n:Nat):(idxs l).filter (fun k=>ix l k==(n:Int))=sy n l 0:=by
 have:=QQ l n l 0 rfl
 rw[<-List.range_eq_range']at this
 exact this
def pre(l:List Int):Nat->List Int
 |0=>[]
 |m+1=>pre l m++sy (m+1) l 0
theorem Du(l:List Int):ua l=pre l 15:=by
 unfold ua
 simp only[Kl]
 have:∀n,((List.range n).map fun n=>sy (n+1) l 0).flatten=pre l n:=by
  intro n
  induction n with
  |zero=>rfl
  |succ n ih=>grind [List.range_succ,List.flatten_append,pre]
 exact this 15
def L1(l:List Int)(m:Nat):∀j,∃r,pre l (m+j)=pre l m++r
 |0=>⟨[],(List.append_nil _).symm⟩
 |j+1=>by
  obtain⟨r,hr⟩:=L1 l m j
  grind [sy,pre,List.append_assoc]
def cp(l:List Int)(m:Nat):Nat:=(l.filter fun x=>decide (0<x/\x<=(m:Int))).length
theorem Li(m:Nat):∀l:List Int,cp l (m+1)=cp l m+(l.filter fun x=>x==((m+1:Nat):Int)).length
 |[]=>rfl
 |x::l=>by
  have ih:=Li m l
  unfold cp at ih⊢
  grind
theorem Bk(l:List Int):∀m,(pre l m).length=cp l m
 |0=>by
  unfold cp
  rw[List.filter_eq_nil_iff.2]
  ·rfl
  grind
 |m+1=>by rw[pre,List.length_append,Bk l m,Li,wO]
def UH{m M:Nat}(hm:m<=M):∀l:List Int,cp l m<=cp l M/\(cp l m=cp l M↔∀x∈l,¬((m:Int)<x/\x<=(M:Int)))
 |[]=>⟨Nat.le_refl _,by simp[cp]⟩
 |x::l=>by
  have ih:=UH hm l
  unfold cp at ih⊢
  grind
theorem UI(l:List Int)(n:Nat):ct l n<=l.length:=by
 unfold ct
 split
 ·grind
 grind [wO,List.length_filter_le]
def jQ(l:List Int):Nat->Nat
 |0=>0
 |n+1=>2*(jQ l n+ct l n)
def Kc(l:List Int)(h:l.length<=320):∀n,jQ l n+640<=640*2^n
 |0=>Nat.le_refl _
 |n+1=>by
  have:=Kc l h n
  grind [UI,jQ,Nat.pow_succ]
def DP(l:List Int)(B:List Bool):Nat->Nat->Nat->Int×Nat×Int
 |0,n,_=>(0,n -1,13)
 |f+1,n,code=>if l.any (fun x=>decide (x>=(n:Int)))=false then(0,n -1,13)else match B[n -1]? with
  |none=>(0,n -1,10)
  |some x=>if 2*code+(if x then 1 else 0) -jQ l n<(sy n l 0).length then((sy n l 0).getD (2*code+(if x then 1 else 0) -jQ l n) 0,n,0)else DP l B f (n+1) (2*code+(if x then 1 else 0))
def tk(l:List Int)(B:List Bool):Int×Nat×Int:=DP l B 15 1 0
theorem acM(c:Nat)(h:c<4611686018427387904):ao (lO .i64 (c:Int) 1)=((2*c:Nat):Int):=by
 have:lO .i64 (c:Int) 1=(c:Int)*2:=rfl
 grind [ak]
theorem or1(c:Nat)(x:Bool)(h:c<2305843009213693952):ao (D1 .i64 (((2*c:Nat):Nat):Int) (ao (((if x then 1 else 0:Nat):Nat):Int)))=((2*c+(if x then 1 else 0):Nat):Int):=by
 have hx:(if x then 1 else 0:Nat)<2:=by split<;>omega
 rw[ak (n:=(((if x then 1 else 0:Nat):Nat):Int)) AT AT]
 generalize(if x then 1 else 0:Nat)=y at*
 have e:D1 .i64 (((2*c:Nat):Nat):Int) (y:Int)=((2*c+y:Nat):Int):=by
  unfold D1
  show(((BitVec.ofNat 64 (2*c)|||BitVec.ofNat 64 y).toNat:Nat):Int)=_
  rw[BitVec.toNat_or,BitVec.toNat_ofNat,BitVec.toNat_ofNat,Nat.mod_eq_of_lt AT,Nat.mod_eq_of_lt AT]
  have:=Nat.two_pow_add_eq_or_of_lt (i:=1) (b:=y) AT c
  rw[<-show 2*c+y=2*c |||y from this]
 grind [ak]
theorem OA{b:List UInt8}{a m:Nat}:((af b).drop a)[m]? =(af b)[a+m]? :=A_
theorem abS{b:List UInt8}(hb:b.length<576460752303423488){l:List Int}(hl:va l)(B:Nat){a:Nat}(ha:a<=8*b.length):
 iC ⟨B,l⟩ (TJ b a)=some ((tk l ((af b).drop a)).1,(tk l ((af b).drop a)).2.2,TJ b (a+(tk l ((af b).drop a)).2.1)):=by
 have hbl:=k9 b
 obtain⟨hl0,hl1,hl2⟩:=hl
 unfold iC tk
 generalize hR:DP l ((af b).drop a) 15 1 0=R
 refine iter_eq (fun(s:Int×Int×Int×Int×bO)=>∃m c:Nat,m<=15/\s=((c:Int),((jQ l m+ct l m:Nat):Int),((pre l m).length:Int),((m+1:Nat):Int),TJ b (a+m))/\a+m<=8*b.length/\jQ l m+ct l m<=c/\c<2^m/\DP l ((af b).drop a) (15 -m) (m+1) c=R)
  (fun s=>(16 -s.2.2.2.1).toNat) ⟨0,0,AT,rfl,ha,Nat.le_refl _,BY,hR⟩ A_ ?_
 rintro s ⟨m,c,hm,rfl,ham,hfc,hc,hz⟩
 have WJ:2^m<=2^15:=Nat.pow_le_pow_right BY hm
 have e15:(2:Nat)^15=32768:=BY
 simp only
 by_cases h15:m=15
 ·subst h15
  rw[show(15 -15:Nat)=0 from rfl,DP]at hz
  grind
 obtain⟨f,hf⟩:∃f,15 -m=f+1:=⟨14 -m,AT⟩
 rw[hf,DP]at hz
 rw[if_pos By]
 rw[Du]
 have hcl:=UH (m:=m) (M:=15) hm l
 rw[<-Bk,<-Bk]at hcl
 have Kd:l.any (fun x=>decide (x>=((m+1:Nat):Int)))=false↔(pre l m).length=(pre l 15).length:=by
  rw[hcl.2,List.any_eq_false]
  refine⟨fun h x hx=>?_,fun h x hx=>?_⟩
  ·grind
  ·grind
 by_cases AG:(pre l m).length=(pre l 15).length
 ·grind
 rw[if_neg (fun h=>AG (Kd.1 h))]at hz
 rw[show m+1 -1=m from rfl,OA]at hz
 rw[if_neg (fun h=>AG A_)]
 have hG:=abO hb (at_:=a+m) (n:=1) BY ham
 rw[show((1:Nat):Int)=1 from rfl]at hG
 rw[hG]
 by_cases MW:(af b).length<a+m+1
 ·rw[List.getElem?_eq_none AT]at hz
  simp only at hz
  subst hz
  simp_all
 ·rw[if_neg MW,aB]
  obtain⟨x,hx⟩:∃x,(af b)[a+m]? =some x:=⟨_,List.getElem?_eq_getElem AT⟩
  rw[hx]at hz
  simp only at hz
  have htk:((af b).drop (a+m)).take 1=[x]:=by
   rw[List.drop_eq_getElem_cons AT,List.take_succ_cons,List.take_zero]
   rw[List.getElem?_eq_getElem AT]at hx
   injection hx with hx;rw[hx]
  rw[htk,show bv [x]=(if x then 1 else 0:Nat) by unfold bv;rfl]
  have hx2:(if x then 1 else 0:Nat)<2:=by split<;>omega
  have hu:((cf (((if x then 1 else 0:Nat):Nat):Int)).toNat:Int)=((if x then 1 else 0:Nat):Int):=by rw[dh _ AT]
  simp only[bne_self_eq_false,Bool.false_eq_true,if_false,hu]
  rw[aP AT,acM c AT,or1 c x AT,acM _ AT]
  have hfs:jQ l (m+1)=2*(jQ l m+ct l m):=rfl
  rw[<-hfs]
  have hcz:uZ l ((m+1:Nat):Int)=((sy (m+1) l 0).length:Int):=by
   unfold uZ
   rw[Int.toNat_natCast,V9];rfl
  have hpl:(pre l m).length<=320:=by rw[Bk];exact Nat.le_trans (List.length_filter_le _ _) hl1
  have hsl:(sy (m+1) l 0).length<=320:=by rw[wO];exact Nat.le_trans (List.length_filter_le _ _) hl1
  rw[hcz]
  generalize hq:2*c+(if x then 1 else 0)=c' at*
  have hc':jQ l (m+1)<=c'/\c'<65536:=by rw[hfs];omega
  have hc2:c'<2^(m+1):=by rw[Nat.pow_succ];omega
  have ew1:ao ((c':Int) -((jQ l (m+1):Nat):Int))=((c' -jQ l (m+1):Nat):Int):=H_
  have ew2:ao (ao (((pre l m).length:Int)+(c':Int)) -((jQ l (m+1):Nat):Int))=(((pre l m).length+(c' -jQ l (m+1)):Nat):Int):=by rw[ak (n:=((pre l m).length:Int)+(c':Int)) AT AT,ak AT AT];omega
  rw[ew1,ew2]
  by_cases hin:c' -jQ l (m+1)<(sy (m+1) l 0).length
  ·rw[if_pos hin]at hz
   subst hz
   obtain⟨r,hr⟩:=L1 l (m+1) (14 -m)
   rw[show m+1+(14 -m)=15 by omega,show pre l (m+1)=pre l m++sy (m+1) l 0 from rfl]at hr
   have DY:(pre l 15)[(pre l m).length+(c' -jQ l (m+1))]? =some ((sy (m+1) l 0).getD (c' -jQ l (m+1)) 0):=by rw[hr,List.append_assoc,List.getElem?_append_right AT,Nat.add_sub_cancel_left,List.getElem?_append_left hin,List.getElem?_eq_getElem hin,List.getD_eq_getElem?_getD,List.getElem?_eq_getElem hin];rfl
   have hlt:=(List.getElem?_eq_some_iff.1 DY).1
   rw[if_pos By,aP AT,Ko DY]
   grind
  ·rw[if_neg hin]at hz
   rw[if_neg By]
   refine .inl ⟨_,rfl,⟨m+1,c',AT,?_,AT,?_,hc2,?_⟩,?_⟩
   ·have e1:ct l (m+1)=(sy (m+1) l 0).length:=rfl
    rw[ak AT AT,ak AT AT,ak AT AT,pre,List.length_append,e1]
    grind
   ·have e1:ct l (m+1)=(sy (m+1) l 0).length:=rfl
    grind
   ·grind
   grind [ak]
theorem Q5{α:Type}(l:List α)(k:Nat)(x:α)(h:k<l.length):vm l (k:Int) x=l.set k x:=by
 unfold vm
 rw[Int.toNat_natCast,List.set_eq_take_append_cons_drop,if_pos h]
 simp
theorem uO{α:Type}(l:List α){i:Int}{x:α}(h0:0<=i)(h:i<l.length):(vm l i x).length=l.length:=by unfold vm;simp;omega
theorem K1(n:Nat)(l2:List Int):∀(l1:List Int)(o:Nat),sy n (l1++l2) o=sy n l1 o++sy n l2 (o+l1.length)
 |[],o=>rfl
 |x::l1,o=>by
  have e:o+(x::l1).length=o+1+l1.length:=by rw[List.length_cons];omega
  rw[List.cons_append,sy,sy,K1 n l2 l1 (o+1),e]
  split<;>rfl
def rk(n:Nat)(l:List Int)(k:Nat):Nat:=(sy n (l.take k) 0).length
def acF(n:Nat)(l:List Int)(k:Nat):rk n l k<=l.length:=by
 unfold rk
 rw[wO]
 refine Nat.le_trans (List.length_filter_le _ _) ?_
 rw[List.length_take];omega
theorem G7{n:Nat}{l:List Int}{k:Nat}(h:k<l.length):rk n l (k+1)=rk n l k+(if l[k]=(n:Int)then 1 else 0):=by
 unfold rk
 rw[List.take_succ_eq_append_getElem h,K1,List.length_append]
 show _+(sy n [l[k]] _).length=_
 rw[sy]
 split<;>rfl
theorem Qz(n:Nat)(l:List Int){k:Nat}(h:l.length<=k):rk n l k=(sy n l 0).length:=by unfold rk;rw[List.take_of_length_le h]
def Yy{n:Nat}{l:List Int}{k:Nat}(h:k<l.length)(hx:l[k]=(n:Int)):rk n l k<(sy n l 0).length/\(sy n l 0).getD (rk n l k) 0=(k:Int):=by
 have e:l=l.take k++(l[k]::l.drop (k+1)):=by rw[<-List.drop_eq_getElem_cons h,List.take_append_drop]
 have hl:(l.take k).length=k:=N_
 have e2:sy n l 0=sy n (l.take k) 0++((k:Int)::sy n (l.drop (k+1)) (k+1)):=by
  conv=>lhs;rw[e,K1]
  rw[hl,Nat.zero_add,sy,if_pos hx]
 unfold rk
 rw[e2]
 refine⟨by rw[List.length_append,List.length_cons];omega,?_⟩
 rw[List.getD_eq_getElem?_getD,List.getElem?_append_right (Nat.le_refl _),Nat.sub_self];rfl
def okc(l:List Int)(cd:List UInt32)(m k:Nat):Prop:=cd.length=l.length/\∀(j:Nat)(h:j<l.length)(n:Nat),1<=n->l[j]=(n:Int)->(n<=m\/(n=m+1/\j<k))->(cd[j]?).map UInt32.toNat=some (jQ l n+rk n l j)
def DR(l:List Int)(cd:List UInt32):Prop:=okc l cd 15 0
def Ye(l:List Int):∃cd,lq l=some (if 0<=yG l then(cd,0)else([],13))/\(0<=yG l->DR l cd):=by
 unfold lq
 rw[Ky,aB]
 by_cases hk:0<=yG l
 ·obtain⟨hl0,hl1,hl2⟩:=tu hk
  have e15:(2:Nat)^15=32768:=BY
  have hfb:∀n,n<=15->jQ l n+640<=20971520:=fun n hn=>by
   have:=Kc l hl1 n
   have WJ:2^n<=2^15:=Nat.pow_le_pow_right BY hn
   omega
  obtain⟨cd,h1,h2⟩:=cF (body:=fun((out,code,n):List UInt32×UInt32×Int)=>
   if decide (n<=15)then
    jn (
     iter (fun((out,code,k):List UInt32×UInt32×Int)=>
      if decide (k<(l.length:Int))then
       aI (0<=k/\k<l.length)<|
       if(ix l k)==n then
        aI (0<=k/\k<out.length)<|
        some (.inl (vm out k code,cf ((code.toNat:Int)+1),ao (k+1)))
       else
        some (.inl (out,code,ao (k+1)))
      else
       some (.inr (out,code))) (out,cf (2*(code.toNat:Int)),0)) fun((out,code):List UInt32×UInt32)=>
    some (.inl (out,code,ao (n+1)))
   else
    some (.inr out)) (s0:=(List.replicate l.length 0,0,1)) (fun s=>∃m:Nat,m<=15/\s.2.2=((m+1:Nat):Int)/\s.2.1.toNat=jQ l m+ct l m/\okc l s.1 m 0) (fun s=>(16 -s.2.2).toNat) (fun cd=>DR l cd)
   ⟨0,AT,rfl,rfl,B_,fun j h n h1 _ h2=>AT⟩ (by show Int.toNat (16 -1)<18446744073709551616;decide) (by
     rintro⟨out,code,n⟩ ⟨m,hm,rfl,zR,hok⟩
     simp only at zR hok⊢
     by_cases h15:m=15
     ·subst h15
      rw[if_neg BY]
      exact⟨_,rfl,hok⟩
     rw[if_pos By]
     have hf:=hfb m AT
     have hf1:=hfb (m+1) AT
     have hct:=UI l m
     obtain⟨⟨ahm,agj⟩,hi,ho',hc'⟩:=cF (body:=fun((out,code,k):List UInt32×UInt32×Int)=>
      if decide (k<(l.length:Int))then
       aI (0<=k/\k<l.length)<|
       if(ix l k)==((m+1:Nat):Int)then
        aI (0<=k/\k<out.length)<|
        some (.inl (vm out k code,cf ((code.toNat:Int)+1),ao (k+1)))
       else
        some (.inl (out,code,ao (k+1)))
      else
       some (.inr (out,code))) (s0:=(out,cf (2*(code.toNat:Int)),0)) (fun s=>∃k:Nat,k<=l.length/\s.2.2=(k:Int)/\s.2.1.toNat=jQ l (m+1)+rk (m+1) l k/\okc l s.1 m k) (fun s=>(l.length -s.2.2).toNat)
      (fun z=>okc l z.1 (m+1) 0/\z.2.toNat=jQ l (m+1)+ct l (m+1)) ⟨0,Nat.zero_le _,rfl,by
        show(cf (2*(code.toNat:Int))).toNat=_
        rw[show 2*(code.toNat:Int)=((2*code.toNat:Nat):Int) by omega,dh _ AT,zR];rfl,hok⟩ By (by
        rintro⟨out,code,k⟩ ⟨k,hk,rfl,zR,hok⟩
        simp only at zR hok⊢
        have hrk:=acF (m+1) l k
        by_cases hlt:k<l.length
        ·have hix:ix l (k:Int)=l[k]:=eK hlt
         rw[if_pos By,aP AT,hix]
         by_cases hx:l[k]=((m+1:Nat):Int)
         ·rw[if_pos i_,aP Xe4,Q5 _ _ _ Xe4,ak AT AT]
          refine⟨_,rfl,⟨k+1,hlt,rfl,?_,?_⟩,?_⟩
          ·show(cf ((code.toNat:Int)+1)).toNat=_
           rw[show(code.toNat:Int)+1=((code.toNat+1:Nat):Int) by omega,dh _ AT,G7 hlt,if_pos hx,zR];omega
          ·refine⟨by rw[List.length_set];exact hok.1,fun j hj n h1 hn h2=>?_⟩
           by_cases hjk:j=k
           ·subst hjk
            have:n=m+1:=AT
            subst this
            rw[List.getElem?_set_self Xe4]
            show some code.toNat=_
            rw[zR]
           ·rw[List.getElem?_set_ne AT]
            exact hok.2 j hj n h1 hn AT
          grind
         ·rw[if_neg i_,ak AT AT]
          refine⟨_,rfl,⟨k+1,hlt,rfl,?_,hok.1,fun j hj n h1 hn h2=>?_⟩,?_⟩
          ·rw[G7 hlt,if_neg hx];exact zR
          ·by_cases hjk:j=k
           ·subst hjk
            exact hok.2 j hj n h1 hn (by
             rcases h2 with h2|⟨rfl,_⟩
             ·exact .inl h2
             ·exact absurd hn hx)
           ·exact hok.2 j hj n h1 hn AT
          grind
        ·have:k=l.length:=AT
         subst this
         rw[if_neg B_]
         refine⟨_,rfl,⟨hok.1,fun j hj n h1 hn h2=>hok.2 j hj n h1 hn AT⟩,?_⟩
         show code.toNat=_
         rw[zR,Qz _ _ (Nat.le_refl _)];rfl)
     refine⟨_,bQ hi rfl,⟨m+1,AT,?_,hc',ho'⟩,?_⟩
     ·show ao (((m+1:Nat):Int)+1)=_
      rw[ak AT AT];rfl
     grind [ao,ak])
  simp_all
 ·refine⟨[],?_,fun h=>absurd h hk⟩
  rw[if_neg hk]
  simp[hk]
def JI(l:List Bool):Nat:=l.foldl (fun a x=>2*a+(if x then 1 else 0)) 0
theorem xR(l:List Bool)(x:Bool):JI (l++[x])=2*JI l+(if x then 1 else 0):=by unfold JI;rw[List.foldl_append];rfl
def Kz(B:List Bool):∀n,n<=B.length->JI (B.take n)<2^n
 |0,_=>Nat.zero_lt_one
 |n+1,h=>by
  have ih:=Kz B n AT
  rw[List.take_succ_eq_append_getElem h,xR,Nat.pow_succ]
  split<;>omega
theorem acz{l:List Int}(hl:va l){cd:List UInt32}(hcd:DR l cd)(B:List Bool):kY l cd B=some ((tk l B).1,((tk l B).2.1:Int),(tk l B).2.2):=by
 obtain⟨hl0,hl1,hl2⟩:=hl
 obtain⟨hcl,hcv⟩:=hcd
 have e15:(2:Nat)^15=32768:=BY
 have hfb:∀n,n<=15->jQ l n+640<=20971520:=fun n hn=>by
  have:=Kc l hl1 n
  have WJ:2^n<=2^15:=Nat.pow_le_pow_right BY hn
  omega
 unfold kY tk
 generalize hR:DP l B 15 1 0=R
 suffices h:∃x,_=some x/\x=(R.1,(R.2.1:Int),R.2.2) by obtain⟨x,h,rfl⟩:=h;exact h
 have AG:∀z:Unit⊕(Int×Int×Int),(match z with|.inl _=>R=(0,15,13)|.inr t=>t=(R.1,(R.2.1:Int),R.2.2))->(ir (fun(_:Unit)=>(0,15,13)) (fun t:Int×Int×Int=>t) z:Int×Int×Int)=(R.1,(R.2.1:Int),R.2.2):=by
  rintro(z|z) hz
  ·simp only at hz;rw[hz];rfl
  ·exact hz
 refine gy (fun z=>match z with|.inl _=>R=(0,15,13)|.inr t=>t=(R.1,(R.2.1:Int),R.2.2)) (lW (fun z=>match z with|.inl _=>R=(0,15,13)|.inr t=>t=(R.1,(R.2.1:Int),R.2.2))
  (cF (fun(s:Int)=>∃m:Nat,m<=15/\m<=B.length/\s=((m+1:Nat):Int)/\jQ l m+ct l m<=JI (B.take m)/\DP l B (15 -m) (m+1) (JI (B.take m))=R) (fun s=>(16 -s).toNat) _ ⟨0,AT,Nat.zero_le _,rfl,Nat.le_refl _,hR⟩ (by show Int.toNat (16 -1)<18446744073709551616;decide) ?_) ?_) ?_
 ·rintro n ⟨m,hm,hmB,rfl,hfc,hz⟩
  by_cases h15:m=15
  ·subst h15
   rw[show(15 -15:Nat)=0 from rfl,DP]at hz
   rw[if_neg BY]
   exact⟨_,rfl,hz.symm⟩
  obtain⟨f,hf⟩:∃f,15 -m=f+1:=⟨14 -m,AT⟩
  have hc:=Kz B m hmB
  have WJ:2^(m+1)<=2^15:=Nat.pow_le_pow_right BY AT
  have hps:2^(m+1)=2^m*2:=Nat.pow_succ ..
  rw[hf,DP,show m+1 -1=m from rfl]at hz
  rw[if_pos By]
  refine gy (fun z=>match z with|.inl _=>m<B.length/\DP l B (15 -(m+1)) (m+2) (JI (B.take (m+1)))=R/\jQ l (m+1)+ct l (m+1)<=JI (B.take (m+1))|.inr t=>t=(R.1,(R.2.1:Int),R.2.2)) ?_ ?_
  ·refine zM (fun z=>z=l.any fun x=>decide (x>=((m+1:Nat):Int))) (cF (fun(s:Bool×Int)=>∃k:Nat,k<=l.length/\s.2=(k:Int)/\s.1=(l.take k).any fun x=>decide (x>=((m+1:Nat):Int))) (fun s=>(l.length -s.2).toNat) _ ⟨0,Nat.zero_le _,rfl,rfl⟩ By ?_) ?_
   ·rintro⟨lo,k⟩ ⟨k,hk,rfl,rfl⟩
    simp only
    by_cases hlt:k<l.length
    ·have hix:ix l (k:Int)=l[k]:=eK hlt
     rw[if_pos By,aP (fun _=>AT),hix,ak AT AT]
     refine⟨_,rfl,⟨k+1,hlt,rfl,?_⟩,?_⟩
     ·rw[List.take_succ_eq_append_getElem hlt,List.any_append];simp
     ·simp only;omega
    ·rw[if_neg By]
     exact⟨_,rfl,by rw[List.take_of_length_le AT]⟩
   ·rintro _ rfl
    by_cases Kd:(l.any fun x=>decide (x>=((m+1:Nat):Int)))=false
    ·rw[if_pos Kd]at hz
     subst hz
     rw[if_pos (by rw[Kd];rfl)]
     refine⟨_,rfl,?_⟩
     show(0,ao (((m+1:Nat):Int) -1),(13:Int))=(0,(m:Int),13)
     rw[ak AT AT];congr 2;omega
    ·rw[if_neg Kd]at hz
     rw[if_neg (by simp only[Bool.not_eq_false]at Kd;rw[Kd];decide)]
     by_cases MW:B.length<=m
     ·rw[List.getElem?_eq_none MW]at hz
      simp only at hz
      subst hz
      rw[if_pos By]
      refine⟨_,rfl,?_⟩
      show(0,ao (((m+1:Nat):Int) -1),(10:Int))=(0,(m:Int),10)
      rw[ak AT AT];congr 2;omega
     ·have hmB:m<B.length:=AT
      rw[List.getElem?_eq_getElem hmB]at hz
      simp only at hz
      rw[<-xR,<-List.take_succ_eq_append_getElem hmB]at hz
      have hfs:jQ l (m+1)=2*(jQ l m+ct l m):=rfl
      have hmv:JI (B.take (m+1))=2*JI (B.take m)+(if B[m]then 1 else 0):=by rw[List.take_succ_eq_append_getElem hmB,xR]
      have hx2:(if B[m]then 1 else 0:Nat)<2:=by split<;>omega
      rw[if_neg By]
      refine zM (fun z=>z=cf (JI (B.take (m+1)):Nat)) (cF (fun(s:UInt32×Int)=>∃k:Nat,k<=m+1/\s=(cf (JI (B.take k):Nat),(k:Int))) (fun s=>(16 -s.2).toNat) _ ⟨0,Nat.zero_le _,rfl⟩ (by show Int.toNat (16 -0)<18446744073709551616;decide) ?_) ?_
      ·rintro _ ⟨k,hk,rfl⟩
       simp only
       by_cases hlt:k<m+1
       ·have hkB:k<B.length:=AT
        have hix:ix B (k:Int)=B[k]:=eK hkB
        have hbk:=Kz B k AT
        have hpk:2^k<=2^15:=Nat.pow_le_pow_right BY AT
        rw[if_pos By,aP AT,hix,dh _ AT,ak AT AT,show 2*((JI (B.take k):Nat):Int)=((2*JI (B.take k):Nat):Int) by omega]
        refine⟨.inl (cf (JI (B.take (k+1)):Nat),((k+1:Nat):Int)),?_,⟨k+1,hlt,rfl⟩,Θ⟩
        rw[List.take_succ_eq_append_getElem hkB,xR,dh _ AT]
        cases B[k]<;>rfl
       ·have:k=m+1:=AT
        subst this
        rw[if_neg B_]
        exact⟨_,rfl,rfl⟩
      ·rintro _ rfl
       generalize hx:JI (B.take (m+1))=x at hz hmv
       have hgo:∀z:Unit⊕(Int×Int×Int),z=(if x -jQ l (m+1)<(sy (m+1) l 0).length then .inr ((sy (m+1) l 0).getD (x -jQ l (m+1)) 0,((m+1:Nat):Int),0)else .inl ())->
        (match z with|.inl _=>m<B.length/\DP l B (15 -(m+1)) (m+2) x=R/\jQ l (m+1)+ct l (m+1)<=x|.inr t=>t=(R.1,(R.2.1:Int),R.2.2)):=by
        rintro _ rfl
        by_cases hin:x -jQ l (m+1)<(sy (m+1) l 0).length
        ·rw[if_pos hin]at hz⊢
         subst hz
         rfl
        ·rw[if_neg hin]at hz⊢
         refine⟨hmB,by rw[show 15 -(m+1)=f by omega];exact hz,?_⟩
         have e1:ct l (m+1)=(sy (m+1) l 0).length:=rfl
         rw[e1];omega
       refine lW (fun z=>z=(if x -jQ l (m+1)<(sy (m+1) l 0).length then .inr ((sy (m+1) l 0).getD (x -jQ l (m+1)) 0,((m+1:Nat):Int),0)else .inl ())) (cF (fun(s:Int)=>∃k:Nat,k<=l.length/\s=(k:Int)/\rk (m+1) l k<=x -jQ l (m+1)) (fun s=>(l.length -s).toNat) _ ⟨0,Nat.zero_le _,rfl,Nat.zero_le _⟩ By ?_) ?_
       ·rintro _ ⟨k,hk,rfl,hrk⟩
        by_cases hlt:k<l.length
        ·have hix:ix l (k:Int)=l[k]:=eK hlt
         rw[if_pos By,aP AT,hix,aP (fun _=>AT)]
         have hs:=G7 (n:=m+1) hlt
         by_cases hxk:l[k]=((m+1:Nat):Int)
         ·have hv:=hcv k hlt (m+1) AT hxk (.inl AT)
          obtain⟨y,hy,hy2⟩:=Option.map_eq_some_iff.1 hv
          have hyx:ix cd (k:Int)=y:=Ko hy
          rw[hyx,dh _ AT,hy2]
          have hsy:=Yy hlt hxk
          by_cases he:rk (m+1) l k=x -jQ l (m+1)
          ·rw[if_pos By]
           refine⟨_,rfl,?_⟩
           rw[he]at hsy
           rw[if_pos hsy.1,hsy.2]
          ·rw[if_neg By,ak AT AT]
           refine⟨_,rfl,⟨k+1,hlt,rfl,?_⟩,AT⟩
           rw[hs,if_pos hxk];omega
         ·rw[if_neg (by rw[Bool.and_eq_true,beq_iff_eq];exact fun h=>hxk h.1),ak AT AT]
          refine⟨_,rfl,⟨k+1,hlt,rfl,?_⟩,AT⟩
          rw[hs,if_neg hxk];omega
        ·rw[if_neg By]
         refine⟨_,rfl,?_⟩
         rw[Qz _ _ AT]at hrk
         rw[if_neg AT]
       ·intro z hz
        have:=hgo z hz
        cases z with
        |inl z=>exact⟨_,rfl,this⟩
        |inr z=>exact⟨_,rfl,this⟩
  ·rintro(z|z) hz
   ·obtain⟨h1,h2,h3⟩:=hz
    refine⟨_,rfl,⟨m+1,AT,h1,?_,h3,h2⟩,?_⟩
    ·show ao (((m+1:Nat):Int)+1)=_
     rw[ak AT AT];rfl
    ·rw[ak AT AT];omega
   ·exact⟨_,rfl,hz⟩
 ·rintro(z|z) hz
  ·exact⟨_,rfl,hz⟩
  ·exact⟨_,rfl,hz⟩
 ·rintro(z|z) hz
  ·exact⟨_,rfl,AG (.inl z) hz⟩
  ·exact⟨_,rfl,hz⟩
end Go.AB
end
section
set_option linter.unusedSectionVars false
namespace Go.AB
open Go
section
variable{α:Type}[bz α]
def NK(l:List α)(i j:Int):List α:=(l.set i.toNat (ix l j)).set j.toNat (ix l i)
theorem Um(l:List α)(i j:Int):(NK l i j).length=l.length:=by grind [NK,List.length_set]
theorem WV{P S:List α}(x:α):ix (P++x::S) ((P.length:Nat):Int)=x:=by grind [eK]
theorem TZ{P S:List α}(x y:α):(P++x::S).set P.length y=P++y::S:=A_
def Hx(P M S:List α)(x y:α):NK (P++x::M++y::S) ((P.length:Nat):Int) (((P.length+1+M.length:Nat)):Int)=P++y::M++x::S:=by
 have e1:P++x::M++y::S=P++x::(M++y::S):=B_
 have e2:∀z,P++z::M++y::S=(P++z::M)++y::S:=fun z=>rfl
 have l2:∀z:α,(P++z::M).length=P.length+1+M.length:=fun z=>By
 grind [NK,Int.toNat_natCast,ix,WV,TZ]
def yA(l:List α)(a b:Nat):Nat->List α
 |0=>l
 |k+1=>NK (yA l a b k) ((a+k:Nat):Int) ((b+k:Nat):Int)
def FD(l:List α)(a b:Nat):∀k,(yA l a b k).length=l.length
 |0=>rfl
 |k+1=>by rw[yA,Um];exact FD l a b k
def FB(P M S:List α):∀(k:Nat)(A B A' B':List α),A.length=k->B.length=k->A'.length=B'.length->yA (P++(A++A')++M++(B++B')++S) P.length (P.length+(A++A').length+M.length) k=P++(B++A')++M++(A++B')++S
 |0,A,B,A',B',h1,h2,_=>by
  obtain rfl:A=[]:=List.eq_nil_of_length_eq_zero h1
  obtain rfl:B=[]:=List.eq_nil_of_length_eq_zero h2
  simp[yA]
 |k+1,A,B,A',B',h1,h2,h'=>by
  obtain⟨A,x,rfl⟩:∃A0 x,A=A0++[x]:=by
   rcases List.eq_nil_or_concat A with rfl|⟨A0,x,rfl⟩
   ·simp at h1
   grind
  obtain⟨B,y,rfl⟩:∃B0 y,B=B0++[y]:=by
   rcases List.eq_nil_or_concat B with rfl|⟨B0,y,rfl⟩
   ·simp at h2
   grind
  have l1:A.length=k:=K_
  have l2:B.length=k:=Y_
  have hi:=FB P M S k A B (x::A') (y::B') l1 l2 Xd5
  have e:P++((A++[x])++A')++M++((B++[y])++B')++S=P++(A++(x::A'))++M++(B++(y::B'))++S:=B_
  rw[yA,e,show((A++[x])++A').length=(A++(x::A')).length by simp,hi]
  have sw:=Hx (P++B) (A'++M++A) (B'++S) x y
  rw[show P.length+k=(P++B).length by simp[l2],show P.length+(A++x::A').length+M.length+k=(P++B).length+1+(A'++M++A).length by simp[l1,l2];omega]
  have e2:P++(B++x::A')++M++(A++y::B')++S=P++B++x::(A'++M++A)++y::(B'++S):=B_
  rw[e2,sw]
  simp
def zy(P A M B S:List α)(h:A.length=B.length):yA (P++A++M++B++S) P.length (P.length+A.length+M.length) A.length=P++B++M++A++S:=by
 have:=FB P M S A.length A B [] [] rfl h.symm rfl
 grind
end
end Go.AB
end
section
set_option linter.unusedSectionVars false
namespace Go.AB
open Go
structure TP{α:Type}(lt:α->α->Bool):Prop where
 Rh:∀x y,lt x y=true->lt y x=false
 tr:∀x y z,lt y x=false->lt z y=false->lt z x=false
section
variable{α:Type}(lt:α->α->Bool)
def jI(l:List α):Prop:=l.Pairwise fun x y=>lt y x=false
variable{lt}
theorem jI.app{A B:List α}:jI lt (A++B)↔jI lt A/\jI lt B/\∀a∈A,∀b∈B,lt b a=false:=List.pairwise_append
def jI.one(x:α):jI lt [x]:=List.pairwise_singleton _ _
theorem TP.last(h:TP lt){A:List α}(hA:jI lt A){u v:α}(hu:A.getLast?=some u)(hv:v∈A):lt u v=false:=by
 obtain⟨A,rfl⟩:=List.getLast?_eq_some_iff.1 hu
 rcases List.mem_append.1 hv with hv|hv
 ·grind [jI.app]
 ·have:v=u:=by simpa using hv
  subst this
  cases e:lt v v with
  |false=>rfl
  |true=>rw[<-e];exact h.Rh v v e
theorem TP.head(h:TP lt){A:List α}(hA:jI lt A){u v:α}(hu:A.head?=some u)(hv:v∈A):lt v u=false:=by
 cases A with
 |nil=>cases hu
 |cons a A=>
  cases hu
  rcases List.mem_cons.1 hv with rfl|hv
  ·cases e:lt v v with
   |false=>rfl
   |true=>rw[<-e];exact h.Rh v v e
  ·exact(List.pairwise_cons.1 hA).1 v hv
def TP.Lj(h:TP lt){A B:List α}(hA:jI lt A)(hB:jI lt B)(hab:∀u v,A.getLast?=some u->B.head?=some v->lt v u=false):∀a∈A,∀b∈B,lt b a=false:=fun a ha b hb=>by
 cases eA:A.getLast? with
 |none=>grind
 |some u=>
  cases eB:B.head? with
  |none=>simp_all
  |some v=>exact h.tr _ _ _ (h.tr _ _ _ (h.last hA eA ha) (hab u v eA eB)) (h.head hB eB hb)
theorem TP.put(h:TP lt){A B:List α}{x:α}(hs:jI lt (A++B))(h1:∀u,A.getLast?=some u->lt x u=false)(h2:∀v,B.head?=some v->lt v x=false):jI lt (A++x::B):=by
 obtain⟨hA,hB,hc⟩:=jI.app.1 hs
 have c1:=h.Lj hA (jI.one x) (fun u v hu hv=>A_)
 have c2:=h.Lj (jI.one x) hB (fun u v hu hv=>A_)
 refine jI.app.2 ⟨hA,List.pairwise_cons.2 ⟨fun b hb=>c2 x B_ b hb,hB⟩,fun a ha b hb=>?_⟩
 grind
def TP.Ww(h:TP lt){A B C D U V:List α}(h1:jI lt (A++B))(h2:jI lt (C++D))(hAD:∀u v,A.getLast?=some u->D.head?=some v->lt v u=false)(hCB:∀u v,C.getLast?=some u->B.head?=some v->lt v u=false)
 (hU:U.Perm (A++C))(hV:V.Perm (B++D))(sU:jI lt U)(sV:jI lt V):(U++V).Perm ((A++B)++(C++D))/\jI lt (U++V):=by
 obtain⟨a1,a2,a3⟩:=jI.app.1 h1
 obtain⟨b1,b2,b3⟩:=jI.app.1 h2
 have k1:=h.Lj a1 b2 hAD
 have k2:=h.Lj b1 a2 hCB
 refine⟨(hU.append hV).trans ?_,jI.app.2 ⟨sU,sV,fun a ha b hb=>?_⟩⟩
 ·grind [List.append_assoc,List.Perm.append_left,List.Perm.append_right,List.perm_append_comm]
 grind
end
theorem oq(a b:UInt8)(x y:List UInt8):Op.bytesLess (a::x) (b::y)=(decide (a<b)||(a==b&&Op.bytesLess x y)):=rfl
def nM:TP Op.bytesLess:=by
 refine⟨fun x=>?_,fun x=>?_⟩
 ·induction x with
  |nil=>intro y h;cases y with
   |nil=>rfl
   |cons b y=>rfl
  |cons a x ih=>
   intro y h
   cases y with
   |nil=>cases h
   |cons b y=>
    rw[oq]at h⊢
    grind
 ·induction x with
  |nil=>intro y z h1 h2;cases z with
   |nil=>rfl
   |cons c z=>cases y with
    |nil=>exact h2
    |cons b y=>rfl
  |cons a x ih=>
   intro y z h1 h2
   cases y with
   |nil=>cases h1
   |cons b y=>
    cases z with
    |nil=>cases h2
    |cons c z=>
     rw[oq]at h1 h2⊢
     grind
section
variable{α:Type}[bz α]
theorem Rc(l:List α){i j:Int}(h:i.toNat≠j.toNat):NK l i j=NK l j i:=by grind [NK,List.set_comm]
def PL(P T Y:List α)(x:α){k:Nat}(hk:k<Y.length):NK (P++(Y.take k++x::Y.drop k)++T) ((P.length+k:Nat):Int) ((P.length+k+1:Nat):Int)=P++(Y.take (k+1)++x::Y.drop (k+1))++T:=by
 have e1:Y.drop k=Y[k]::Y.drop (k+1):=List.drop_eq_getElem_cons hk
 have e2:Y.take (k+1)=Y.take k++[Y[k]]:=by rw[List.take_succ_eq_append_getElem hk]
 have lk:(P++Y.take k).length=P.length+k:=By
 have:=Hx (P++Y.take k) [] (Y.drop (k+1)++T) x Y[k]
 grind
def LQ(P T Y:List α)(x:α){k:Nat}(hk:k<Y.length):NK (P++(Y.take (k+1)++x::Y.drop (k+1))++T) ((P.length+k+1:Nat):Int) ((P.length+k:Nat):Int)=P++(Y.take k++x::Y.drop k)++T:=by
 have e1:Y.drop k=Y[k]::Y.drop (k+1):=List.drop_eq_getElem_cons hk
 have e2:Y.take (k+1)=Y.take k++[Y[k]]:=by rw[List.take_succ_eq_append_getElem hk]
 have lk:(P++Y.take k).length=P.length+k:=By
 have:=Hx (P++Y.take k) [] (Y.drop (k+1)++T) Y[k] x
 rw[lk]at this
 rw[Rc _ A_,e1,e2]
 grind
def uz{Y:List α}{k:Nat}{u:α}(hk:k<=Y.length)(h:(Y.take k).getLast?=some u):0<k/\∃h:k -1<Y.length,u=Y[k -1]:=A_
def head_drop{Y:List α}{k:Nat}{v:α}(h:(Y.drop k).head?=some v):∃h:k<Y.length,v=Y[k]:=by grind [List.head?_drop,List.getElem?_eq_some_iff]
def ks(P X T:List α){k:Nat}(hk:k<X.length):ix (P++X++T) ((P.length+k:Nat):Int)=X[k]:=by
 rw[eK By]
 grind
end
end Go.AB
end
