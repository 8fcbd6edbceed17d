/- A part. -/
import Derived.Test.YtgecakgfnjkkbaaGreatFt14
import Derived.Test.YtgecakgfnjkkbaaGreatFt13
set_option linter.unusedSimpArgs false
set_option linter.unusedVariables false
section
set_option maxRecDepth 16000
namespace Go.AB
open Go
open Go.Proofs.Tryz (prog)
structure ab where
 Kind:Int
 N:Int
 S:bk
 L:(List ab)
mutual
def gZ:ab->List AV
 |⟨k,n,s,l⟩=>[.int .i64 k,.int .i64 n,.str s.b,.sl false 4 l.length (nb l)]
def nb:List ab->List AV
 |[]=>[]
 |v::l=>gZ v++nb l
end
theorem Fj(x:ab):views (gZ x)=gZ x:=by cases x;simp[gZ,views,view]
theorem Fi(x:ab):(gZ x).length=4:=by cases x;simp[gZ]
instance:aP ab:=⟨4,gZ,⟨0,0,⟨[]⟩,[]⟩,by decide,Fi,Fj⟩
theorem qQ:∀l:List ab,nb l=flat l
 |[]=>by rw[nb];rfl
 |v::l=>by rw[nb,qQ l];rfl
@[go_sem]theorem iD(x:ab):aP.cells x=[.int .i64 x.Kind,.int .i64 x.N,.str x.S.b,sF 4 x.L]:=by
  cases x
  show gZ _=_
  rw[gZ,qQ]
@[go_sem]abbrev Kf(x:ab):List AV:=[.int .i64 x.Kind,.int .i64 x.N,.str x.S.b,sF 4 x.L]
@[go_sem]theorem Dw(l:List ab)(i:Int):pad [.int .i64 0,.int .i64 0,.str [],.sl false 4 0 []] (views (AB.sub (flat l) (i.toNat*4) 4))=[.int .i64 ((ix l i).Kind),.int .i64 ((ix l i).N),.str ((ix l i).S).b,sF 4 ((ix l i).L)]:=by rw[<-iD];exact rM _ 4 l i (by rw[iD];rfl) rfl
attribute[-go_sem] cy cU bQ cw
theorem ahQ{P:Program}{X:Prop}{gQ:List (List Bool)}{ops f:List aq}{live:List Nat}{Q:Exit->St->Prop}{d:List Bool}{E φ:St}
 (h1:∀Q':St->Prop,Q' φ->Pj P gQ ops (fun τ=>Q' (τ.vp live)) f d E)(h2:X->Q .normal φ):X->Pj P gQ ops (yE live Q) f d E:=fun x=>h1 (fun τ=>Q .normal τ) (h2 x)
@[go_sem]theorem ahZ:Nat.ble 1 1=true:=rfl
@[go_sem]theorem aiq{α:Type}[aP α](n:Nat)(l:List α)(hi:Int)(hn:n=aP.w α):AB.sub (flat l) 0 (hi.toNat*n)=flat (part l 0 hi):=by
  have:=Eb n l 0 hi hn
  rwa[Int.sub_zero,show((0:Int).toNat*n)=0 from by simp]at this
@[go_sem]theorem adr{α:Type}[aP α](l:List α)(i:Int):ix l ((i.toNat:Nat):Int)=ix l i:=rfl
@[go_sem]theorem abA(l:List Int)(n:Nat):pad [.int .i64 0] (views (AB.sub (flat l) (n*1) 1))=[.int .i64 (ix l (n:Int))]:=Vf l n
theorem gC{P:Program}{f:FuncId}{as1 as2:List AV}{s:ae}{Q:List AV->ae->Prop}(e:as1=as2)(h:FN P f as1 s Q):FN P f as2 s Q:=e▸h
theorem jI:I0 prog 245 5 0 243=true:=by kernel_rfl
structure aF where
 Kind:Int
 aR:Int
 To:Int
 V:ab
 S:bk
instance:aP aF:=⟨8,fun x=>[.int .i64 x.Kind,.int .i64 x.aR,.int .i64 x.To,.int .i64 x.V.Kind,.int .i64 x.V.N,.str x.V.S.b,sF 4 x.V.L,.str x.S.b],(aF.mk 0 0 0 (ab.mk 0 0 (bk.mk []) []) (bk.mk [])),by decide,fun _=>rfl,fun _=>rfl⟩
def jq(c_0:UInt8):Option (Bool):=some (((((((c_0.toNat:Int)==0)||((c_0.toNat:Int)==9))||((c_0.toNat:Int)==10))||((c_0.toNat:Int)==12))||((c_0.toNat:Int)==13))||((c_0.toNat:Int)==32))
theorem qz{c_0}:FF 158 [.int .u8 c_0.toNat] (jq c_0) fun r=>[.bool r]:=by
 intro s Q
 exact FC 25 [⟨2,true,none⟩] 0xed19766602fba43c17dcbf92032600a23740e83d88d1271c0d327740db7487564aa977ee8d901727d7d69f91f30e1cc9b704c9f59c7cb5ce9e39c35dc125f2a6b298824473a jq.eq_1
def pJ(b_0:(List UInt8))(ff:Int):Option (Int):=
 if decide (ff<0)then
  some 0
 else
  Dt (
   rA (
    iter (fun((at3,rH):Int×Bool)=>
     if decide (at3<(b_0.length:Int))then
      Dt (
       bt (0<=at3/\at3<b_0.length)<|
       if rH then
        some (.inl ((((ix b_0 at3).toNat:Int)!=10)&&(((ix b_0 at3).toNat:Int)!=13)))
       else
        if((ix b_0 at3).toNat:Int)==37 then
         some (.inl true)
        else
         bn (jq (ix b_0 at3)) fun r11=>
         if !r11 then
          some (.inr at3)
         else
          some (.inl rH)) (fun(wx:Bool)=>
       some (.inl (aC (at3+1),wx)))
      (fun(t10:Int)=>some (.inr (.inr t10)))
     else
      some (.inr (.inl ()))) (ff,false)) (fun(_:Unit)=>
    some (.inl ()))
   (fun(t6:Int)=>some (.inr t6))) (fun(_:Unit)=>
   some (b_0.length:Int))
  (fun(t2:Int)=>some t2)
theorem IY{b_0 ff}:FF 167 [sF 1 b_0,.int .i64 ff] (pJ b_0 ff) fun r=>[.int .i64 r]:=by
 intro s Q
 refine FR 37 [⟨4,true,none⟩] 0x55e0511afece2d67e0c0297019d4b4a6f5f8f528cce5415dfd4ea81acb7aee22f94c7f61c48ead5be31dd8484b99d13b2f47a131e9d344b38aee2d5186f689a513b695d2ac41fe72af7f886d6a90dd5dbd7214ab262fe957607dac62bc6274ccc898949275357186e8ecd4f11858c332170d8e2268e0a4aa4307df40257ea187993741c3d736d952244ac8cf91f5d66a09a22962316cc5ba245b8116802ef069ca13980083fa pJ.eq_1 ?_
 repeat'(first
  |(with_reducible first|exact dQ|refine cI ?_ ?_|refine er ?_|refine aQ (fun _(h:jq (ix b_0 at3)=some _)=>(kc qz h:)) (fun r11=>?_))
  |((with_reducible refine fF (live:=[(0,true),(1,false),(5,false)]) (fun(wx:Bool)=>⟨[(0,sF 1 b_0),(1,.int .i64 at3),(5,.bool wx)],[],s⟩) (fun J=>?_) ?_);rotate_left;rintro wx)
  |((with_reducible refine ed (fun((at3,rH):Int×Bool)=>⟨[(0,sF 1 b_0),(1,.int .i64 at3),(5,.bool rH)],[],s⟩) ?_ ?_);(first|exact rfl|simp -implicitDefEqProofs only[go_sem,seval]);rintro J ⟨at3,rH⟩)
  |((with_reducible refine fF (live:=[(0,true)]) (fun(_:Unit)=>⟨[(0,sF 1 b_0)],[],s⟩) (fun J=>?_) ?_);rotate_left;rintro _)
  |simp -implicitDefEqProofs only[go_sem,seval])
structure ao where
 Builder:zt
 b_:(List UInt8)
 at_:Int
 aS:Bool
@[go_sem]abbrev tG(B0:Nat)(x:ao):List AV:=[xP 245 B0 0 x.Builder,uU x.Builder,sF 1 x.b_,.int .i64 x.at_,.bool x.aS]
def dm(s_0:bk)(c_1:UInt8):Option (Int):=
 bn (fK s_0 c_1) fun r1=>
 some r1
theorem l8{s_0 c_1}:FF 185 [.str s_0.b,.int .u8 c_1.toNat] (dm s_0 c_1) fun r=>[.int .i64 r]:=by
 intro s Q
 refine FR 8 [⟨4,true,none⟩] 0x13ca928775ab3dd5c3495f9593980083fa dm.eq_1 ?_
 repeat'(first
  |with_reducible refine aQ (fun _(h:fK s_0 c_1=some _)=>(kc oT h:)) (fun r1=>?_)
  |simp -implicitDefEqProofs only[go_sem,seval])
def sS(c_0:UInt8):Option (Bool):=
 bn (dm (bk.mk [40,41,60,62,91,93,123,125,47,37]) c_0) fun r1=>
 some (decide (r1>=0))
theorem Gu{c_0}:FF 159 [.int .u8 c_0.toNat] (sS c_0) fun r=>[.bool r]:=by
 intro s Q
 refine FR 6 [⟨2,true,none⟩] 0xa1c396336384fd8d13a951013c745c9a05440fca563e38d920824473a sS.eq_1 ?_
 repeat'(first
  |with_reducible refine aQ (fun _(h:dm (bk.mk [40,41,60,62,91,93,123,125,47,37]) c_0=some _)=>(kc l8 h:)) (fun r1=>?_)
  |simp -implicitDefEqProofs only[go_sem,seval])
def gb(c_0:UInt8):Option (Bool):=
 bn (jq c_0) fun r1=>
 bn (jv (!r1) false (sS c_0)) fun r2=>
 some ((!r1)&&(!r2))
theorem rZ{c_0}:FF 199 [.int .u8 c_0.toNat] (gb c_0) fun r=>[.bool r]:=by
 intro s Q
 refine FR 11 [⟨2,true,none⟩] 0x19674524ab3e59203f68dcd50dc50ddc97698ba286689737dc540824473a gb.eq_1 ?_
 repeat'(first
  |(with_reducible first|refine cY (fun _(h:jq c_0=some _)=>(kc qz h:)) (fun _=>rfl) (fun r1=>?_)|refine jk rfl (fun _(h:sS c_0=some _)=>(kc Gu h:)) (fun _=>rfl) (fun r2=>?_))
  |simp -implicitDefEqProofs only[go_sem,seval])
def gx(s_0:ao):Option (bk×Bool×ao):=
 jn (
  iter (fun(o3:ao)=>
   bt ((decide (o3.at_<(o3.b_.length:Int)))=true->0<=o3.at_/\o3.at_<o3.b_.length)<|
   bn (jv (decide (o3.at_<(o3.b_.length:Int))) false (gb (ix o3.b_ o3.at_))) fun r6=>
   if(decide (o3.at_<(o3.b_.length:Int)))&&r6 then
    some (.inl (ao.mk o3.Builder o3.b_ (aC (o3.at_+1)) o3.aS))
   else
    some (.inr o3)) s_0) fun(o2:ao)=>
 bt (0<=s_0.at_/\s_0.at_<=o2.at_/\o2.at_<=o2.b_.length)<|
 some (bk.mk (part o2.b_ s_0.at_ o2.at_),(decide (o2.at_<(o2.b_.length:Int)))||o2.aS,o2)
theorem pL{s_0}{B0:Nat}{s:ae}{Q:List AV->ae->Prop}(hB0:s B0=some (.cells (tG B0 s_0))):ok (gx s_0) (fun r=>Q [.str r.1.b,.bool r.2.1] (s.set B0 (.cells (tG B0 r.2.2))))->FN prog 204 [.ref B0 0] s Q:=by
 rw[<-bj hB0]
 refine FR 66 [⟨2,true,none⟩,⟨3,true,none⟩] 0x1e71539ecd7ed6db23bd7c4da2e7b77742c968529e82b0c82786d2ef395afd41c33b02d932836e74d7cae5158288659ec99439dacd0077bcc7c7fae79ff193b4646c43a5acad44a13802243f4003f407a14aaf90c85941886afea3dddad5587ef8551c26d1fcd330f3e0d3999e0673dbc8b8a65555b61c9266cf8a771bdeefa6735353d04f1ec0eb015c25b81ce42fb1e1465bf8e95c565a71273089fcfdf6a9f26d50d5ee896cf9ada31a5d48db518ebf42fe62c3e0ecf161b3defc478b gx.eq_1 ?_
 repeat'(first
  |(with_reducible first|exact dQ|refine cI ?_ ?_|refine jk rfl (fun _(h:gb (ix o3.b_ o3.at_)=some _)=>(kc rZ h:)) (fun _=>rfl) (fun r6=>?_))
  |((with_reducible refine ed (fun(o3:ao)=>⟨[(0,.ref B0 0),(4,.int .i64 s_0.at_)],[],(s.set B0 (.cells (tG B0 o3)))⟩) ?_ ?_);(first|exact rfl|simp -implicitDefEqProofs only[go_sem,seval]);rintro J o3)
  |((with_reducible refine eJ (fun(o2:ao)=>⟨[(0,.ref B0 0),(4,.int .i64 s_0.at_)],[],(s.set B0 (.cells (tG B0 o2)))⟩) (fun J=>?_) ?_);rotate_left;rintro o2)
  |simp -implicitDefEqProofs only[go_sem,seval])
def cL(s_0:bk)(fI:bk):Option (Bool):=
 bt ((decide ((s_0.b.length:Int)>=(fI.b.length:Int)))=true->0<=(0:Int)/\0<=(fI.b.length:Int)/\(fI.b.length:Int)<=s_0.b.length)<|
 some ((decide ((s_0.b.length:Int)>=(fI.b.length:Int)))&&((bk.mk (part s_0.b 0 (fI.b.length:Int))).b==fI.b))
theorem kA{s_0 fI}:FF 280 [.str s_0.b,.str fI.b] (cL s_0 fI) fun r=>[.bool r]:=by
 intro s Q
 exact FC 18 [⟨4,true,none⟩] 0xa10c3beea36cba2014615743ef93250ad13383bba5f524a79466103a002513cd19b41144e483fa cL.eq_1
def cM(s_0:bk)(fI:bk):Option (Bool):=
 bn (cL s_0 fI) fun r1=>
 some r1
theorem l7{s_0 fI}:FF 255 [.str s_0.b,.str fI.b] (cM s_0 fI) fun r=>[.bool r]:=by
 intro s Q
 refine FR 8 [⟨4,true,none⟩] 0x13ca928775bb75b7c3495f95944e483fa cM.eq_1 ?_
 repeat'(first
  |with_reducible refine aQ (fun _(h:cL s_0 fI=some _)=>(kc kA h:)) (fun r1=>?_)
  |simp -implicitDefEqProofs only[go_sem,seval])
def eI(s_0:bk)(oz:bk):Option (bk×bk×Bool):=
 bn (gk s_0 oz) fun r1=>
 if decide (r1>=0)then
  bt (0<=(0:Int)/\0<=r1/\r1<=s_0.b.length)<|
  bt (0<=aC (r1+(oz.b.length:Int))/\aC (r1+(oz.b.length:Int))<=(s_0.b.length:Int)/\(s_0.b.length:Int)<=s_0.b.length)<|
  some (bk.mk (part s_0.b 0 r1),bk.mk (part s_0.b (aC (r1+(oz.b.length:Int))) (s_0.b.length:Int)),true)
 else
  some (s_0,(bk.mk []),false)
theorem mK{s_0 oz}:FF 281 [.str s_0.b,.str oz.b] (eI s_0 oz) fun r=>[.str r.1.b,.str r.2.1.b,.bool r.2.2]:=by
 intro s Q
 refine FR 23 [⟨4,true,none⟩,⟨5,true,none⟩,⟨6,true,none⟩] 0x4566d085658667f36f5c70e61bff6b5d746c6e0ef75dc39ea1b8834151ab3be8e238fd94c8693411d1cec0c05029c1dd41d89f5f8b2f391183ce41631bafb9586dcc36c06e73d3defc849c eI.eq_1 ?_
 repeat'(first
  |with_reducible refine aQ (fun _(h:gk s_0 oz=some _)=>(kc sv h:)) (fun r1=>?_)
  |simp -implicitDefEqProofs only[go_sem,seval])
def l6(s_0:bk)(oz:bk):Option (bk×bk×Bool):=
 bn (eI s_0 oz) fun r1=>
 some (r1.1,r1.2.1,r1.2.2)
theorem Cl{s_0 oz}:FF 256 [.str s_0.b,.str oz.b] (l6 s_0 oz) fun r=>[.str r.1.b,.str r.2.1.b,.bool r.2.2]:=by
 intro s Q
 refine FR 13 [⟨4,true,none⟩,⟨5,true,none⟩,⟨6,true,none⟩] 0x4fb00ea327c318c3f520f19c9b4ecd8026c1454679f3bf6c06e73d3defc849c l6.eq_1 ?_
 repeat'(first
  |with_reducible refine aQ (fun _(h:eI s_0 oz=some _)=>(kc mK h:)) (fun r1=>?_)
  |simp -implicitDefEqProofs only[go_sem,seval])
def jb(s_0:bk):Option (Int):=
 bt (((s_0.b.length+(bk.mk [48,48,48,48,48,48]).b.length:Nat):Int)<=QK)<|
 bt (0<=(0:Int)/\0<=6/\6<=(bk.mk (s_0.b++(bk.mk [48,48,48,48,48,48]).b)).b.length)<|
 bn (ly (bk.mk (part (bk.mk (s_0.b++(bk.mk [48,48,48,48,48,48]).b)).b 0 6))) fun r1=>
 some r1.1
theorem xl{s_0}:FF 259 [.str s_0.b] (jb s_0) fun r=>[.int .i64 r]:=by
 intro s Q
 refine FR 14 [⟨2,true,none⟩] 0x13749e7fbe8e2dc2b57eb9e91e1e40ec52527411e657649dd910af30e2756515c7eccccccdfc2c13cf657085fcc00473a jb.eq_1 ?_
 repeat'(first
  |(with_reducible first|exact dQ|refine cI ?_ ?_)
  |((fail_if_success (have _x:=r1));with_reducible refine aQ (fun _ h=>(kc uB h:)) (fun r1=>?_))
  |simp -implicitDefEqProofs only[go_sem,seval])
def mV(v_0:ab):Option (Int):=
 Dt (
  if v_0.Kind==2 then
   some (.inl 2147483647)
  else
   if v_0.Kind==3 then
    some (.inl 2147483647000000)
   else
    some (.inr (2:Int))) (fun(Bv:Int)=>
  if(((decide (v_0.N<aC (0 -Bv)))||(decide (v_0.N>Bv)))||(!(v_0.S.b==(bk.mk []).b)))||(decide ((v_0.L.length:Int)>0))then
   some 2
  else
   some 0)
 (fun(t3:Int)=>some t3)
theorem GC{v_0}:FF 260 [.agg (Kf v_0)] (mV v_0) fun r=>[.int .i64 r]:=by
 intro s Q
 refine FR 32 [⟨2,true,none⟩] 0x1ac1ed7f522246eb1bb86a08164e3d8af792f37deaeba81484ef74628005c67944ad5b22f6241a8665d54f06e7478c4bc44ae9f8382c76946ba084ae9edfd78ba016ce20fc34639ea4745cf77f6384bd912dee079fc71b43985a2a099f6876dfc6207473e6f7e382d000735699529cfccf7593c6841cc0aa464664b7c5b0ebf3184553559ed614d2008303995b mV.eq_1 ?_
 repeat'(first
  |((with_reducible refine fF (fun(Bv:Int)=>⟨[(1,.loc (Kf v_0)),(3,.int .i64 Bv)],[],s⟩) (fun J=>?_) ?_);rotate_left;rintro Bv)
  |simp -implicitDefEqProofs only[go_sem,seval])
def mW(s_0:bk):Option (ab×Int):=
 jn (
  bn (cM s_0 (bk.mk [45])) fun r4=>
  if r4 then
   bt (0<=(1:Int)/\1<=(s_0.b.length:Int)/\(s_0.b.length:Int)<=s_0.b.length)<|
   some ((-1),bk.mk (part s_0.b 1 (s_0.b.length:Int)))
  else
   bn (cM s_0 (bk.mk [43])) fun r5=>
   if r5 then
    bt (0<=(1:Int)/\1<=(s_0.b.length:Int)/\(s_0.b.length:Int)<=s_0.b.length)<|
    some (1,bk.mk (part s_0.b 1 (s_0.b.length:Int)))
   else
    some (1,s_0)) fun((B9,HE):Int×bk)=>
 bn (l6 HE (bk.mk [46])) fun r6=>
 bn (jv (!((aC ((r6.1.b.length:Int)+(r6.2.1.b.length:Int)))==0)) false (mM r6.1)) fun r7=>
 bn (jv (!(((aC ((r6.1.b.length:Int)+(r6.2.1.b.length:Int)))==0)||(!r7))) false (mM r6.2.1)) fun r8=>
 if(((aC ((r6.1.b.length:Int)+(r6.2.1.b.length:Int)))==0)||(!r7))||(!r8)then
  some ((ab.mk 0 0 (bk.mk []) ([]:List ab)),11)
 else
  bt ((((bk.mk [48]).b.length+r6.1.b.length:Nat):Int)<=QK)<|
  bn (ly (bk.mk ((bk.mk [48]).b++r6.1.b))) fun r9=>
  if r9.2 !=0 then
   some ((ab.mk 0 0 (bk.mk []) ([]:List ab)),r9.2)
  else
   if !r6.2.2 then
    some ((ab.mk 2 (aC (B9*r9.1)) (bk.mk []) ([]:List ab)),0)
   else
    bn (jb r6.2.1) fun r10=>
    bn (mV (ab.mk 3 (aC (B9*(aC ((aC (r9.1*1000000))+r10)))) (bk.mk []) ([]:List ab))) fun r11=>
    if r11 !=0 then
     some ((ab.mk 0 0 (bk.mk []) ([]:List ab)),5)
    else
     some ((ab.mk 3 (aC (B9*(aC ((aC (r9.1*1000000))+r10)))) (bk.mk []) ([]:List ab)),0)
theorem GD{s_0}:FF 226 [.str s_0.b] (mW s_0) fun r=>[.agg (Kf r.1),.int .i64 r.2]:=by
 intro s Q
 refine FR 75 [⟨2,false,some (4,true)⟩,⟨3,true,none⟩] 0x14d9a4599bc4ba3e91ba68139f29f642549f628a18ffdef1205b115f42fe1a39f9cc6432c774f3141d37ebce10659ac719e9c83c762235b105f0fac45b9f086ad55baa6b5a4b6dcf7467a5ea3cdfb7c6cf596e21c0b02774f62e070b829a8d0bd7a0e3847873c9393f1b139112517fd990300ff55c1e6c8640fb126a89a16daf6becd76abc78bb888d661dffb87fbfefeac28a5a6a8bfc9fe54432424952585308be9c639299a3635e262c9fdf5af20772d1df7b861a6835090d7856b1adcd55b91b47641c44c3fbb4b4fe5c855127ad252af45748350e33fdcdab1985a3f09b2e35484a69a163d6b9f73529c6cc942909aee805a57388f1b4f92ff959928ee49cbecdbd0b72b5f2ab6ca7d4905bd7150b05f4aeebdb3ac3e6b7837f421ff67f44bedc4447573da47f574fd484610dd0d5c19a231aa900194babcafb54be79988045492c317fda1b079192d27e976f8ab8a6478f13a9d03289a31aec57c3cb5c43350040de274c3b6b357b2003cd1eb37e0092758b mW.eq_1 ?_
 repeat'(first
  |(with_reducible first|exact dQ|refine cI ?_ ?_|refine er ?_|refine aQ (fun _(h:cM s_0 (bk.mk [45])=some _)=>(kc l7 h:)) (fun r4=>?_)|refine aQ (fun _(h:cM s_0 (bk.mk [43])=some _)=>(kc l7 h:)) (fun r5=>?_)|refine aQ (fun _(h:l6 HE (bk.mk [46])=some _)=>(kc Cl h:)) (fun r6=>?_)|refine jk rfl (fun _(h:mM r6.1=some _)=>(kc BD h:)) (fun _=>rfl) (fun r7=>?_)|refine jk rfl (fun _(h:mM r6.2.1=some _)=>(kc BD h:)) (fun _=>rfl) (fun r8=>?_))
  |((fail_if_success (have _x:=r9));with_reducible refine aQ (fun _ h=>(kc uB h:)) (fun r9=>?_))
  |(with_reducible first|refine aQ (fun _(h:jb r6.2.1=some _)=>(kc xl h:)) (fun r10=>?_)|refine aQ (fun _(h:mV (ab.mk 3 (aC (B9*(aC ((aC (r9.1*1000000))+r10)))) (bk.mk []) ([]:List ab))=some _)=>(by refine Fc ?_ ((kc GC h:));simp -implicitDefEqProofs only[go_sem,seval])) (fun r11=>?_))
  |((with_reducible refine eJ (fun((B9,HE):Int×bk)=>⟨[(2,.loc [.int .i64 0,.int .i64 0,.str (bk.mk []).b,.sl true 4 0 []]),(4,.int .i64 B9),(5,.str HE.b)],[],s⟩) (fun J=>?_) ?_);rotate_left;rintro⟨B9,HE⟩)
  |simp -implicitDefEqProofs only[go_sem,seval])
def gh(s_0:ao):Option (aF×Int×ao):=
 bn (gx s_0) fun r1=>
 if !r1.2.1 then
  some ((aF.mk 0 0 0 (ab.mk 0 0 (bk.mk []) ([]:List ab)) (bk.mk [])),6,r1.2.2)
 else
  bt (0<=(0:Int)/\(0:Int)<r1.1.b.length)<|
  if((((decide (((ix r1.1.b 0).toNat:Int)>=48))&&(decide (((ix r1.1.b 0).toNat:Int)<=57)))||(((ix r1.1.b 0).toNat:Int)==43))||(((ix r1.1.b 0).toNat:Int)==45))||(((ix r1.1.b 0).toNat:Int)==46)then
   bn (mW r1.1) fun r2=>
   some ((aF.mk 1 0 0 r2.1 (bk.mk [])),r2.2,r1.2.2)
  else
   some ((aF.mk 6 0 0 (ab.mk 0 0 (bk.mk []) ([]:List ab)) r1.1),0,r1.2.2)
theorem sa{s_0}{B0:Nat}{s:ae}{Q:List AV->ae->Prop}(hB0:s B0=some (.cells (tG B0 s_0))):ok (gh s_0) (fun r=>Q [.agg [.int .i64 r.1.Kind,.int .i64 r.1.aR,.int .i64 r.1.To,.int .i64 r.1.V.Kind,.int .i64 r.1.V.N,.str r.1.V.S.b,sF 4 r.1.V.L,.str r.1.S.b],.int .i64 r.2.1] (s.set B0 (.cells (tG B0 r.2.2))))->FN prog 200 [.ref B0 0] s Q:=by
 rw[<-bj hB0]
 refine FR 47 [⟨2,false,some (8,true)⟩,⟨3,true,none⟩] 0xb227c2a0210221188422121472a5e552b67fdcbe4fd5ecf838ccf9ea03e7ff4b183da55765caf076cb7ef86621aafe1421403a3a477749e17c59b2ba17c9d0ccb6ddf8e7c33188bbd671c8f8b905056b44fe278e9784af4945bbc56ac6020210fe7f3587bb4621d3345c24be864f001073215f420b465f5be4f6230bd5af8ba4bd120e07832b76259e815ba3afd119a1ffaa08bfbc4c1352ed306ffbe5e49227bf583b27f2e602741c4bff2bfcb3bf5e08b4e02dfc396c4932bf6c6dd85431f1d5083dcc10f340b8b377b7b2003defd1eb37e000000010bf58b gh.eq_1 ?_
 repeat'(first
  |(with_reducible first|exact dQ|refine cI ?_ ?_|refine er ?_|refine fun hh=>pL (B0:=B0) (by simp -implicitDefEqProofs only[go_sem,seval]<;>simp only[an]) (aK (show ok (gx s_0) _ from hh) fun r1=>?_)|refine aQ (fun _(h:mW r1.1=some _)=>(kc GD h:)) (fun r2=>?_))
  |simp -implicitDefEqProofs only[go_sem,seval])
def bN(s_0:ao):Option (UInt8×Bool):=
 if decide (s_0.at_>=(s_0.b_.length:Int))then
  some (0,false)
 else
  bt (0<=s_0.at_/\s_0.at_<s_0.b_.length)<|
  some (ix s_0.b_ s_0.at_,true)
theorem yk{s_0}{B0:Nat}{s:ae}{Q:List AV->ae->Prop}(hB0:s B0=some (.cells (tG B0 s_0))):ok (bN s_0) (fun r=>Q [.int .u8 r.1.toNat,.bool r.2] s)->FN prog 227 [.ref B0 0] s Q:=by
 rw[<-bj hB0]
 exact FC 24 [⟨2,true,none⟩,⟨3,true,none⟩] 0x60e09abf77c0315b8f48bfb8c26c52c34f64708ab28dbff33f3d2666feceef7ddb8f0525e70d58717e74abfc8b4b465fe0ee4c5906b253b426f1d0bd8d6eb8c04647a061b3cc798478b bN.eq_1
theorem eC{s_0}{B0:Nat}{s:ae}{r:UInt8×Bool}(hB0:s B0=some (.cells (tG B0 s_0)))(h:bN s_0=some r):FE prog 227 [.ref B0 0] s [.int .u8 r.1.toNat,.bool r.2] s:=yk hB0 ⟨r,h,rfl,rfl⟩
def cD(s_0:ao):Option (Int):=
 if s_0.aS then
  some 10
 else
  some 6
theorem yj{s_0}{B0:Nat}{s:ae}{Q:List AV->ae->Prop}(hB0:s B0=some (.cells (tG B0 s_0))):ok (cD s_0) (fun r=>Q [.int .i64 r] s)->FN prog 228 [.ref B0 0] s Q:=by
 rw[<-bj hB0]
 exact FC 7 [⟨2,true,none⟩] 0x6de8cfafaf9a6b582a0ce164a71a255e1d4fda7d0a5a1ffcc00473a cD.eq_1
theorem gM{s_0}{B0:Nat}{s:ae}{r:Int}(hB0:s B0=some (.cells (tG B0 s_0)))(h:cD s_0=some r):FE prog 228 [.ref B0 0] s [.int .i64 r] s:=yj hB0 ⟨r,h,rfl,rfl⟩
def iQ(c_0:UInt8):Option (Int):=
 if(decide ((c_0.toNat:Int)>=48))&&(decide ((c_0.toNat:Int)<=57))then
  some (aC (((iM ((c_0.toNat:Int) -48)).toNat:Int)))
 else
  if(decide ((c_0.toNat:Int)>=97))&&(decide ((c_0.toNat:Int)<=102))then
   some (aC ((aC (((iM ((c_0.toNat:Int) -97)).toNat:Int)))+10))
  else
   if(decide ((c_0.toNat:Int)>=65))&&(decide ((c_0.toNat:Int)<=70))then
    some (aC ((aC (((iM ((c_0.toNat:Int) -65)).toNat:Int)))+10))
   else
    some (-1)
theorem nx{c_0}:FF 234 [.int .u8 c_0.toNat] (iQ c_0) fun r=>[.int .i64 r]:=by
 intro s Q
 exact FC 35 [⟨2,true,none⟩] 0x5a7bd2a41efd5a2161ca771502a4fdd566838b1c0356334808800ec6d8682357e3e6f0339f2056249218662267855c8fd429f4b4f4deace826ea8f4ed5ab84aed2daf36deb2dc5911f2bc9aebe87acfbcdd6f581a89fac9b51705da339436121f9d0b59929b7180edf9779b98a8f13674506ffa2ff46d99f8deb822fe12dfcc00473a iQ.eq_1
def fG(s_0:ao):Option (ab×Int×ao):=
 iter (fun((uj,o2):Int×ao)=>
  bn (bN o2) fun r6=>
  if !r6.2 then
   bn (cD o2) fun r7=>
   some (.inr ((ab.mk 0 0 (bk.mk []) ([]:List ab)),r7,o2))
  else
   bn (iQ r6.1) fun r8=>
   Dt (
    if((r6.1.toNat:Int)==62)&&(decide (uj>=0))then
     bn (aE o2.Builder (iM (aC (16*uj)))) fun r15=>
     bn (bP r15.2) fun r16=>
     some (.inr ((ab.mk 4 0 r16.1 ([]:List ab)),(0:Int),(ao.mk r16.2 o2.b_ (aC (o2.at_+1)) o2.aS)))
    else
     if(r6.1.toNat:Int)==62 then
      bn (bP o2.Builder) fun r17=>
      some (.inr ((ab.mk 4 0 r17.1 ([]:List ab)),(0:Int),(ao.mk r17.2 o2.b_ (aC (o2.at_+1)) o2.aS)))
     else
      bn (jq r6.1) fun r18=>
      if r18 then
       some (.inl (uj,(ao.mk o2.Builder o2.b_ (aC (o2.at_+1)) o2.aS)))
      else
       if decide (r8<0)then
        some (.inr ((ab.mk 0 0 (bk.mk []) ([]:List ab)),(11:Int),(ao.mk o2.Builder o2.b_ (aC (o2.at_+1)) o2.aS)))
       else
        if decide (uj<0)then
         some (.inl (r8,(ao.mk o2.Builder o2.b_ (aC (o2.at_+1)) o2.aS)))
        else
         bn (aE o2.Builder (iM (aC ((aC (16*uj))+r8)))) fun r19=>
         some (.inl ((-1),(ao.mk r19.2 o2.b_ (aC (o2.at_+1)) o2.aS)))) (fun((Gc,o11):Int×ao)=>
    some (.inl (Gc,o11)))
   (fun((t12,t13,o14):ab×Int×ao)=>some (.inr (t12,t13,o14)))) ((-1),s_0)
theorem wZ{s_0}{B0:Nat}{s:ae}{Q:List AV->ae->Prop}(hB0:s B0=some (.cells (tG B0 s_0))):ok (fG s_0) (fun r=>Q [.agg (Kf r.1),.int .i64 r.2.1] (s.set B0 (.cells (tG B0 r.2.2))))->FN prog 229 [.ref B0 0] s Q:=by
 rw[<-bj hB0]
 refine FR 74 [⟨2,false,some (4,true)⟩,⟨3,true,none⟩] 0xa759657d0c7c18a2ad0e6c16b998fa840e07c1c819ad54e192d602c38f7610001872bbf8d8c55fa949fb9850262bf6c0ec64ca75c81fcee3c0207826b08b9952f44e0ce2d37cfd90df5e8716e678b3125854db2896d234c9177f24e2e8fc44e1a3d319b599b97fbd6c7b67b87ffd42fa7a0c3d6c12ef682c599e99750370ed18c9f59fe5cbf7d9622aca2dcb828920b41960415e182c08da3ca786e25bb5525ee3d0460bddf529a73e2a395f15da4399667824f28b83d6eafea94b4f2d9c94854fd40981c2c5e712829cc121ad5b333c594e69d4456551ea9d6ea1a62e428406b5fbaf766aff120c2c509f1997f1bcbe5a28fec5626d55def33e97f664d2f792c79fed9163e17727d6d4f3951233415dd778f035aa57625264b98ab18cd618be9010947c5e01296026ceb814d26fac787af1223d5017dbb359e84938bac7b2003cd1eb37e0092758b fG.eq_1 ?_
 repeat'(first
  |(with_reducible first|exact dQ|refine cI ?_ ?_|refine er ?_|refine aQ (fun _(h:bN o2=some _)=>eC (B0:=B0) (by simp -implicitDefEqProofs only[go_sem,seval]<;>simp only[an]) h) (fun r6=>?_)|refine aQ (fun _(h:cD o2=some _)=>gM (B0:=B0) (by simp -implicitDefEqProofs only[go_sem,seval]<;>simp only[an]) h) (fun r7=>?_)|refine aQ (fun _(h:iQ r6.1=some _)=>(kc nx h:)) (fun r8=>?_)|refine fun hh=>gC (by simp -implicitDefEqProofs only[go_sem,seval]) (bT (B0:=B0) (preB0:=[]) (postB0:=[sF 1 o2.b_,.int .i64 (aC (o2.at_+1)),.bool o2.aS]) (TB0:=245) (by simp -implicitDefEqProofs only[go_sem,seval]<;>simp only[an]) (by first|rfl|simp) jI (aK (show ok (aE o2.Builder (iM (aC (16*uj)))) _ from hh) fun r15=>?_))|refine fun hh=>gC (by simp -implicitDefEqProofs only[go_sem,seval]) (fN (B0:=B0) (preB0:=[]) (postB0:=[sF 1 o2.b_,.int .i64 (aC (o2.at_+1)),.bool o2.aS]) (TB0:=245) (by simp -implicitDefEqProofs only[go_sem,seval]<;>simp only[an]) (by first|rfl|simp) jI (aK (show ok (bP r15.2) _ from hh) fun r16=>?_))|refine fun hh=>gC (by simp -implicitDefEqProofs only[go_sem,seval]) (fN (B0:=B0) (preB0:=[]) (postB0:=[sF 1 o2.b_,.int .i64 (aC (o2.at_+1)),.bool o2.aS]) (TB0:=245) (by simp -implicitDefEqProofs only[go_sem,seval]<;>simp only[an]) (by first|rfl|simp) jI (aK (show ok (bP o2.Builder) _ from hh) fun r17=>?_))|refine aQ (fun _(h:jq r6.1=some _)=>(kc qz h:)) (fun r18=>?_)|refine fun hh=>gC (by simp -implicitDefEqProofs only[go_sem,seval]) (bT (B0:=B0) (preB0:=[]) (postB0:=[sF 1 o2.b_,.int .i64 (aC (o2.at_+1)),.bool o2.aS]) (TB0:=245) (by simp -implicitDefEqProofs only[go_sem,seval]<;>simp only[an]) (by first|rfl|simp) jI (aK (show ok (aE o2.Builder (iM (aC ((aC (16*uj))+r8)))) _ from hh) fun r19=>?_)))
  |((with_reducible refine fF (fun((Gc,o11):Int×ao)=>⟨[(0,.ref B0 0),(2,.loc [.int .i64 0,.int .i64 0,.str (bk.mk []).b,.sl true 4 0 []]),(4,.int .i64 Gc)],[],(s.set B0 (.cells (tG B0 o11)))⟩) (fun J=>?_) ?_);rotate_left;rintro⟨Gc,o11⟩)
  |((with_reducible refine wX (fun((uj,o2):Int×ao)=>⟨[(0,.ref B0 0),(2,.loc [.int .i64 0,.int .i64 0,.str (bk.mk []).b,.sl true 4 0 []]),(4,.int .i64 uj)],[],(s.set B0 (.cells (tG B0 o2)))⟩) ?_ ?_);(first|exact rfl|simp -implicitDefEqProofs only[go_sem,seval]);rintro J ⟨uj,o2⟩)
  |simp -implicitDefEqProofs only[go_sem,seval])
def gN(s_0:ao):Option (aF×Int×ao):=
 bn (bN s_0) fun r1=>
 if !r1.2 then
  bn (cD s_0) fun r2=>
  some ((aF.mk 0 0 0 (ab.mk 0 0 (bk.mk []) ([]:List ab)) (bk.mk [])),r2,s_0)
 else
  if(r1.1.toNat:Int)==60 then
   some ((aF.mk 4 0 0 (ab.mk 0 0 (bk.mk []) ([]:List ab)) (bk.mk [])),0,(ao.mk s_0.Builder s_0.b_ (aC (s_0.at_+1)) s_0.aS))
  else
   bn (fG s_0) fun r3=>
   some ((aF.mk 1 0 0 r3.1 (bk.mk [])),r3.2.1,r3.2.2)
theorem tR{s_0}{B0:Nat}{s:ae}{Q:List AV->ae->Prop}(hB0:s B0=some (.cells (tG B0 s_0))):ok (gN s_0) (fun r=>Q [.agg [.int .i64 r.1.Kind,.int .i64 r.1.aR,.int .i64 r.1.To,.int .i64 r.1.V.Kind,.int .i64 r.1.V.N,.str r.1.V.S.b,sF 4 r.1.V.L,.str r.1.S.b],.int .i64 r.2.1] (s.set B0 (.cells (tG B0 r.2.2))))->FN prog 201 [.ref B0 0] s Q:=by
 rw[<-bj hB0]
 refine FR 36 [⟨2,false,some (8,true)⟩,⟨3,true,none⟩] 0x149b1c16ce515582be034be5e186f05420f1e918de920ee82a52e970a67ab7b32a741e6290c91e50ce9978065f8db2dc97a7783469ea2f45794f7151fb48c9eb146a5b4a0db0bc624346a92c21effcb3a04f1d3cf511f530ecb3bb7799e7858959e5416f8320886179f14376b537d82dbf456ff26ec13340126b9f000dd502705ad01c4bff2c09de5cd20a498a49893527b9b028d3160ed431f1d3e44cdd9c6755eb4b81b7b2003defd1eb37e000000010bf58b gN.eq_1 ?_
 repeat'(first
  |(with_reducible first|exact dQ|refine cI ?_ ?_|refine er ?_|refine aQ (fun _(h:bN s_0=some _)=>eC (B0:=B0) (by simp -implicitDefEqProofs only[go_sem,seval]<;>simp only[an]) h) (fun r1=>?_)|refine aQ (fun _(h:cD s_0=some _)=>gM (B0:=B0) (by simp -implicitDefEqProofs only[go_sem,seval]<;>simp only[an]) h) (fun r2=>?_)|refine fun hh=>wZ (B0:=B0) (by simp -implicitDefEqProofs only[go_sem,seval]<;>simp only[an]) (aK (show ok (fG s_0) _ from hh) fun r3=>?_))
  |simp -implicitDefEqProofs only[go_sem,seval])
def gL(s_0:ao):Option (aF×Int×ao):=
 bn (bN s_0) fun r1=>
 if(!r1.2)&&(!s_0.aS)then
  some ((aF.mk 0 0 0 (ab.mk 0 0 (bk.mk []) ([]:List ab)) (bk.mk [])),6,s_0)
 else
  if(!r1.2)||((r1.1.toNat:Int)!=62)then
   some ((aF.mk 0 0 0 (ab.mk 0 0 (bk.mk []) ([]:List ab)) (bk.mk [])),11,s_0)
  else
   some ((aF.mk 5 0 0 (ab.mk 0 0 (bk.mk []) ([]:List ab)) (bk.mk [])),0,(ao.mk s_0.Builder s_0.b_ (aC (s_0.at_+1)) s_0.aS))
theorem tQ{s_0}{B0:Nat}{s:ae}{Q:List AV->ae->Prop}(hB0:s B0=some (.cells (tG B0 s_0))):ok (gL s_0) (fun r=>Q [.agg [.int .i64 r.1.Kind,.int .i64 r.1.aR,.int .i64 r.1.To,.int .i64 r.1.V.Kind,.int .i64 r.1.V.N,.str r.1.V.S.b,sF 4 r.1.V.L,.str r.1.S.b],.int .i64 r.2.1] (s.set B0 (.cells (tG B0 r.2.2))))->FN prog 202 [.ref B0 0] s Q:=by
 rw[<-bj hB0]
 refine FR 38 [⟨2,false,some (8,true)⟩,⟨3,true,none⟩] 0x61afcd709b7d8054bcb615d1fdc66014f8a903ddfaf48485948265218bcf7c7be9d3941a20210c20b194bf37a2b7dbe87fc7c702acdafbd348c93a4456b3368b1f541b1625c975eb1782675d34b5d3341d5e953cea61d694b2364ef0feb65fe69976a670011e81c7022e5ea849faa9c2e0803e1c15c7b905cbceae7dd6bf25dbf95304ce328ae8e23571b6a8e820904bd431f1d19c6b00a7a755e07b95b7b2003defd1eb37e000000010bf58b gL.eq_1 ?_
 repeat'(first
  |with_reducible refine aQ (fun _(h:bN s_0=some _)=>eC (B0:=B0) (by simp -implicitDefEqProofs only[go_sem,seval]<;>simp only[an]) h) (fun r1=>?_)
  |simp -implicitDefEqProofs only[go_sem,seval])
def fH(s_0:ao)(c_1:UInt8):Option (Bool×ao):=
 Dt (
  rA (
   iter (fun((n5,k6,o7):Int×Int×ao)=>
    if decide (k6<2)then
     bn (bN o7) fun r12=>
     if !r12.2 then
      if o7.aS then
       bn (aE o7.Builder (iM (n5))) fun r13=>
       some (.inr (.inr (o7.aS||false,(ao.mk r13.2 o7.b_ o7.at_ o7.aS))))
      else
       some (.inr (.inr (o7.aS||false,o7)))
     else
      if(decide ((r12.1.toNat:Int)<48))||(decide ((r12.1.toNat:Int)>55))then
       some (.inr (.inl (n5,o7)))
      else
       some (.inl (aC ((aC (8*n5))+(aC (((iM ((r12.1.toNat:Int) -48)).toNat:Int)))),aC (k6+1),(ao.mk o7.Builder o7.b_ (aC (o7.at_+1)) o7.aS)))
    else
     some (.inr (.inl (n5,o7)))) (aC (((iM ((c_1.toNat:Int) -48)).toNat:Int)),0,s_0)) (fun((n8,o9):Int×ao)=>
   some (.inl (n8,o9)))
  (fun((t10,o11):Bool×ao)=>some (.inr (t10,o11)))) (fun((n1,o2):Int×ao)=>
  bn (aE o2.Builder (iM (n1))) fun r14=>
  some (true,(ao.mk r14.2 o2.b_ o2.at_ o2.aS)))
 (fun((t3,o4):Bool×ao)=>some (t3,o4))
theorem w9{s_0 c_1}{B0:Nat}{s:ae}{Q:List AV->ae->Prop}(hB0:s B0=some (.cells (tG B0 s_0))):ok (fH s_0 c_1) (fun r=>Q [.bool r.1] (s.set B0 (.cells (tG B0 r.2))))->FN prog 261 [.ref B0 0,.int .u8 c_1.toNat] s Q:=by
 rw[<-bj hB0]
 refine FR 62 [⟨4,true,none⟩] 0x4969ec93676f9d443553e0e235d64cd5b4bd2912ee3ebf38d339bd94f6663865793c70660e89597200df19df76241aad63c89b411cc7c36ccdffe9cf8c8510b3bd6902540ba0577637cb3971a6a814fd2ee9da2b486b39a07758088ebb32cbd94a4b8a22e8b924498710f0501f299c11d059b6dbd27ac316e69d2848144a69a27ed0d58de0493326f7713df09bf7f7ac8b5adbc20bc460247d566ece9c4acb27551fb1be258b1b700d83ced0265d5ebb8d8cf435f4ca6d736d3466c5e1b147dcad1db95911d653dfe4c91b3c2b5263d4cd5a9944e483fa fH.eq_1 ?_
 repeat'(first
  |((fail_if_success (have _x:=hgG1));(have _x:=o7.aS);clear _x;cases hgG1:o7.aS)
  |(with_reducible first|exact dQ|refine cI ?_ ?_|refine er ?_|refine aQ (fun _(h:bN o7=some _)=>eC (B0:=B0) (by first|(simp -implicitDefEqProofs only[go_sem,seval,hgG0];done)|(simp -implicitDefEqProofs only[go_sem,seval,hgG1];done)|(simp -implicitDefEqProofs only[go_sem,seval,hgG2];done)|(simp -implicitDefEqProofs only[go_sem,seval];done)) h) (fun r12=>?_)|refine fun hh=>gC (by simp -implicitDefEqProofs only[go_sem,seval]) (bT (B0:=B0) (preB0:=[]) (postB0:=[sF 1 o7.b_,.int .i64 o7.at_,.bool o7.aS]) (TB0:=245) (by first|(simp -implicitDefEqProofs only[go_sem,seval,hgG0];done)|(simp -implicitDefEqProofs only[go_sem,seval,hgG1];done)|(simp -implicitDefEqProofs only[go_sem,seval,hgG2];done)|(simp -implicitDefEqProofs only[go_sem,seval];done)) (by first|rfl|simp) jI (aK (show ok (aE o7.Builder (iM (n5))) _ from hh) fun r13=>?_))|refine fun hh=>gC (by simp -implicitDefEqProofs only[go_sem,seval]) (bT (B0:=B0) (preB0:=[]) (postB0:=[sF 1 o2.b_,.int .i64 o2.at_,.bool o2.aS]) (TB0:=245) (by first|(simp -implicitDefEqProofs only[go_sem,seval,hgG0];done)|(simp -implicitDefEqProofs only[go_sem,seval,hgG1];done)|(simp -implicitDefEqProofs only[go_sem,seval,hgG2];done)|(simp -implicitDefEqProofs only[go_sem,seval];done)) (by first|rfl|simp) jI (aK (show ok (aE o2.Builder (iM (n1))) _ from hh) fun r14=>?_)))
  |((with_reducible refine ed (fun((n5,k6,o7):Int×Int×ao)=>⟨[(0,.ref B0 0),(5,.int .i64 n5),(6,.int .i64 k6)],[],(s.set B0 (.cells (tG B0 o7)))⟩) ?_ ?_);(first|exact rfl|simp -implicitDefEqProofs only[go_sem,seval]);rintro J ⟨n5,k6,o7⟩)
  |((with_reducible refine fF (fun((n1,o2):Int×ao)=>⟨[(0,.ref B0 0),(5,.int .i64 n1)],[],(s.set B0 (.cells (tG B0 o2)))⟩) (fun J=>?_) ?_);rotate_left;rintro⟨n1,o2⟩)
  |simp -implicitDefEqProofs only[go_sem,seval,hgG1,Bool.false_eq_true,if_false,if_true,Bool.true_eq_false,false_implies,true_implies,true_and,and_true]
  |simp -implicitDefEqProofs only[go_sem,seval])
def da(s_0:ao)(c_1:UInt8):Option (Bool×ao):=
 if(c_1.toNat:Int)!=13 then
  some (true,s_0)
 else
  bn (bN s_0) fun r1=>
  jn (
   if r1.2&&((r1.1.toNat:Int)==10)then
    some (ao.mk s_0.Builder s_0.b_ (aC (s_0.at_+1)) s_0.aS)
   else
    some s_0) fun(o3:ao)=>
  some (r1.2||o3.aS,o3)
theorem pK{s_0 c_1}{B0:Nat}{s:ae}{Q:List AV->ae->Prop}(hB0:s B0=some (.cells (tG B0 s_0))):ok (da s_0 c_1) (fun r=>Q [.bool r.1] (s.set B0 (.cells (tG B0 r.2))))->FN prog 231 [.ref B0 0,.int .u8 c_1.toNat] s Q:=by
 rw[<-bj hB0]
 refine FR 33 [⟨4,true,none⟩] 0x21deed279f7756ce5af7093080dc2424783510fc7299a5649b188e54c070b40d9d30903574ff4d08abe2c9cc9a9a3b69829b6981194ef3b9f6a4fc7fc34ddd0fa7ccd5ee16ef815414bf847d987fa32c9b68a425d31d0fc8f2352d069ca144e483fa da.eq_1 ?_
 repeat'(first
  |(with_reducible first|exact dQ|refine cI ?_ ?_|refine er ?_|refine aQ (fun _(h:bN s_0=some _)=>eC (B0:=B0) (by simp -implicitDefEqProofs only[go_sem,seval]<;>simp only[an]) h) (fun r1=>?_))
  |((with_reducible refine eJ (fun(o3:ao)=>⟨[(0,.ref B0 0),(6,.bool r1.2)],[],(s.set B0 (.cells (tG B0 o3)))⟩) (fun J=>?_) ?_);rotate_left;rintro o3)
  |simp -implicitDefEqProofs only[go_sem,seval])
def c9(s_0:ao):Option (Bool×ao):=
 bn (bN s_0) fun r1=>
 if !r1.2 then
  some (false,s_0)
 else
  bn (dm (bk.mk [110,114,116,98,102]) r1.1) fun r2=>
  if decide (r2>=0)then
   bt (0<=r2/\r2<(bk.mk [10,13,9,8,12]).b.length)<|
   bn (aE s_0.Builder (ix (bk.mk [10,13,9,8,12]).b r2)) fun r3=>
   some (true,(ao.mk r3.2 s_0.b_ (aC (s_0.at_+1)) s_0.aS))
  else
   if(decide ((r1.1.toNat:Int)>=48))&&(decide ((r1.1.toNat:Int)<=55))then
    bn (fH (ao.mk s_0.Builder s_0.b_ (aC (s_0.at_+1)) s_0.aS) r1.1) fun r4=>
    some (r4.1,r4.2)
   else
    if((r1.1.toNat:Int)==10)||((r1.1.toNat:Int)==13)then
     bn (da (ao.mk s_0.Builder s_0.b_ (aC (s_0.at_+1)) s_0.aS) r1.1) fun r5=>
     some (r5.1,r5.2)
    else
     bn (aE s_0.Builder r1.1) fun r6=>
     some (true,(ao.mk r6.2 s_0.b_ (aC (s_0.at_+1)) s_0.aS))
theorem vx{s_0}{B0:Nat}{s:ae}{Q:List AV->ae->Prop}(hB0:s B0=some (.cells (tG B0 s_0))):ok (c9 s_0) (fun r=>Q [.bool r.1] (s.set B0 (.cells (tG B0 r.2))))->FN prog 230 [.ref B0 0] s Q:=by
 rw[<-bj hB0]
 refine FR 55 [⟨2,true,none⟩] 0x96df6fd2fd0113a07c1b90e01314d7fc3d1c912b40b169659245b8a12271c308d4f00202ec890a1c5b7e618bd65e7f453ad4a4703c6c698690ed53ef1dbb05437500daba905dc4687434589afa3d21c2a60ec65774b8bb2d047f25da7f7dc1b7041fdf78a0a78d3dafec6fc87beb8e8b549b81ed56404097f0c62d56ceea3cac6eae4abc5ea6bb522dc87dfc73ff0f10d90a694724a5f0bf5584766c4efadb19205cb54d08fcb4f859bfc94a1d8b7b0415d3ecd9ea472d8c17172781a8587fee0bf841af23966cd08eab8a34641614c04824473a c9.eq_1 ?_
 repeat'(first
  |(with_reducible first|exact dQ|refine cI ?_ ?_|refine er ?_|refine aQ (fun _(h:bN s_0=some _)=>eC (B0:=B0) (by simp -implicitDefEqProofs only[go_sem,seval]<;>simp only[an]) h) (fun r1=>?_)|refine aQ (fun _(h:dm (bk.mk [110,114,116,98,102]) r1.1=some _)=>(kc l8 h:)) (fun r2=>?_)|refine fun hh=>gC (by simp -implicitDefEqProofs only[go_sem,seval]) (bT (B0:=B0) (preB0:=[]) (postB0:=[sF 1 s_0.b_,.int .i64 (aC (s_0.at_+1)),.bool s_0.aS]) (TB0:=245) (by simp -implicitDefEqProofs only[go_sem,seval]<;>simp only[an]) (by first|rfl|simp) jI (aK (show ok (aE s_0.Builder (ix (bk.mk [10,13,9,8,12]).b r2)) _ from hh) fun r3=>?_))|refine fun hh=>w9 (B0:=B0) (by simp -implicitDefEqProofs only[go_sem,seval]<;>simp only[an]) (aK (show ok (fH (ao.mk s_0.Builder s_0.b_ (aC (s_0.at_+1)) s_0.aS) r1.1) _ from hh) fun r4=>?_)|refine fun hh=>pK (B0:=B0) (by simp -implicitDefEqProofs only[go_sem,seval]<;>simp only[an]) (aK (show ok (da (ao.mk s_0.Builder s_0.b_ (aC (s_0.at_+1)) s_0.aS) r1.1) _ from hh) fun r5=>?_)|refine fun hh=>gC (by simp -implicitDefEqProofs only[go_sem,seval]) (bT (B0:=B0) (preB0:=[]) (postB0:=[sF 1 s_0.b_,.int .i64 (aC (s_0.at_+1)),.bool s_0.aS]) (TB0:=245) (by simp -implicitDefEqProofs only[go_sem,seval]<;>simp only[an]) (by first|rfl|simp) jI (aK (show ok (aE s_0.Builder r1.1) _ from hh) fun r6=>?_)))
  |simp -implicitDefEqProofs only[go_sem,seval])
def gw(s_0:ao):Option (ab×Int×ao):=
 iter (fun((y5,o2):Int×ao)=>
  bn (bN o2) fun r6=>
  if !r6.2 then
   bn (cD o2) fun r7=>
   some (.inr ((ab.mk 0 0 (bk.mk []) ([]:List ab)),r7,o2))
  else
   Dt (
    if(r6.1.toNat:Int)==92 then
     bn (c9 (ao.mk o2.Builder o2.b_ (aC (o2.at_+1)) o2.aS)) fun r18=>
     if !r18.1 then
      bn (cD r18.2) fun r19=>
      some (.inr (.inr (r19,r18.2)))
     else
      some (.inr (.inl r18.2))
    else
     if(r6.1.toNat:Int)==13 then
      bn (da (ao.mk o2.Builder o2.b_ (aC (o2.at_+1)) o2.aS) r6.1) fun r20=>
      if !r20.1 then
       bn (cD r20.2) fun r21=>
       some (.inr (.inr (r21,r20.2)))
      else
       some (.inl (y5,10,r20.2))
     else
      if(r6.1.toNat:Int)==40 then
       some (.inl (aC (y5+1),r6.1,(ao.mk o2.Builder o2.b_ (aC (o2.at_+1)) o2.aS)))
      else
       if(r6.1.toNat:Int)==41 then
        some (.inl (aC (y5 -1),r6.1,(ao.mk o2.Builder o2.b_ (aC (o2.at_+1)) o2.aS)))
       else
        some (.inl (y5,r6.1,(ao.mk o2.Builder o2.b_ (aC (o2.at_+1)) o2.aS)))) (fun((HY,c10,o11):Int×UInt8×ao)=>
    if HY==0 then
     bn (bP o11.Builder) fun r22=>
     some (.inr ((ab.mk 4 0 r22.1 ([]:List ab)),(0:Int),(ao.mk r22.2 o11.b_ o11.at_ o11.aS)))
    else
     bn (aE o11.Builder c10) fun r23=>
     some (.inl (HY,(ao.mk r23.2 o11.b_ o11.at_ o11.aS))))
   (kF (fun(o14:ao)=>some (.inl (y5,o14))) (fun((t16,o17):Int×ao)=>some (.inr ((ab.mk 0 0 (bk.mk []) ([]:List ab)),t16,o17))))) (1,s_0)
theorem yl{s_0}{B0:Nat}{s:ae}{Q:List AV->ae->Prop}(hB0:s B0=some (.cells (tG B0 s_0))):ok (gw s_0) (fun r=>Q [.agg (Kf r.1),.int .i64 r.2.1] (s.set B0 (.cells (tG B0 r.2.2))))->FN prog 203 [.ref B0 0] s Q:=by
 rw[<-bj hB0]
 refine FR 62 [⟨2,false,some (4,true)⟩,⟨3,true,none⟩] 0xa86295d111aed52c51cba71d259ca75c0c0ad1afc8d2cb627d7cd65b7cf5b5e0a5aa326e30d4227034fba0d75db1fdfa80f90b66816c6fea2105f46e4ee91c8ec198a1c0ba74f2bb12982b01648e480814379a7a3467a1e85086bacc6e781c169c32c8d9744e56a8fad5edf718b457b5d5fe8172df86041f25c7e3a09284b8bb4372d9e884a703b8e27cf0b641c37741ea94cbe95c8cd5e7605e9ab5e644087a67000a9b371a9e791c231795e68c8f2fc11a58fdfd23e42cb0a707143e188bb62472db99b81e4e36eb4e6357aa5772fd571207353a685df5bd6ab6f306dd5004a9ba3229e2f1d2c9657dd281fde49d8f3cc541bea497f664d2f7929a87d8fb21dcf836011384251233415dd778f035aa57617435717b34cf3ba8d3001f28a6ba1f996e86ce4a7ad3a3eeb490e98ff8659847d291e84938bac7b2003cd1eb37e0092758b gw.eq_1 ?_
 repeat'(first
  |(with_reducible first|exact dQ|refine cI ?_ ?_|refine er ?_|refine aQ (fun _(h:bN o2=some _)=>eC (B0:=B0) (by simp -implicitDefEqProofs only[go_sem,seval]<;>simp only[an]) h) (fun r6=>?_)|refine aQ (fun _(h:cD o2=some _)=>gM (B0:=B0) (by simp -implicitDefEqProofs only[go_sem,seval]<;>simp only[an]) h) (fun r7=>?_)|refine fun hh=>vx (B0:=B0) (by simp -implicitDefEqProofs only[go_sem,seval]<;>simp only[an]) (aK (show ok (c9 (ao.mk o2.Builder o2.b_ (aC (o2.at_+1)) o2.aS)) _ from hh) fun r18=>?_)|refine aQ (fun _(h:cD r18.2=some _)=>gM (B0:=B0) (by simp -implicitDefEqProofs only[go_sem,seval]<;>simp only[an]) h) (fun r19=>?_)|refine fun hh=>pK (B0:=B0) (by simp -implicitDefEqProofs only[go_sem,seval]<;>simp only[an]) (aK (show ok (da (ao.mk o2.Builder o2.b_ (aC (o2.at_+1)) o2.aS) r6.1) _ from hh) fun r20=>?_)|refine aQ (fun _(h:cD r20.2=some _)=>gM (B0:=B0) (by simp -implicitDefEqProofs only[go_sem,seval]<;>simp only[an]) h) (fun r21=>?_)|refine fun hh=>gC (by simp -implicitDefEqProofs only[go_sem,seval]) (fN (B0:=B0) (preB0:=[]) (postB0:=[sF 1 o11.b_,.int .i64 o11.at_,.bool o11.aS]) (TB0:=245) (by simp -implicitDefEqProofs only[go_sem,seval]<;>simp only[an]) (by first|rfl|simp) jI (aK (show ok (bP o11.Builder) _ from hh) fun r22=>?_))|refine fun hh=>gC (by simp -implicitDefEqProofs only[go_sem,seval]) (bT (B0:=B0) (preB0:=[]) (postB0:=[sF 1 o11.b_,.int .i64 o11.at_,.bool o11.aS]) (TB0:=245) (by simp -implicitDefEqProofs only[go_sem,seval]<;>simp only[an]) (by first|rfl|simp) jI (aK (show ok (aE o11.Builder c10) _ from hh) fun r23=>?_)))
  |((with_reducible refine fF (fun((HY,c10,o11):Int×UInt8×ao)=>⟨[(0,.ref B0 0),(2,.loc [.int .i64 0,.int .i64 0,.str (bk.mk []).b,.sl true 4 0 []]),(4,.int .i64 HY),(5,.int .u8 c10.toNat)],[],(s.set B0 (.cells (tG B0 o11)))⟩) (fun J=>?_) ?_);rotate_left;rintro⟨HY,c10,o11⟩)
  |((with_reducible refine wX (fun((y5,o2):Int×ao)=>⟨[(0,.ref B0 0),(2,.loc [.int .i64 0,.int .i64 0,.str (bk.mk []).b,.sl true 4 0 []]),(4,.int .i64 y5)],[],(s.set B0 (.cells (tG B0 o2)))⟩) ?_ ?_);(first|exact rfl|simp -implicitDefEqProofs only[go_sem,seval]);rintro J ⟨y5,o2⟩)
  |simp -implicitDefEqProofs only[go_sem,seval])
def ny(w_0:bk):Option (ab×Int):=
 Dt (
  rA (
   iter (fun((Lm,i6):(List UInt8)×Int)=>
    if decide (i6<(w_0.b.length:Int))then
     bt (0<=i6/\i6<w_0.b.length)<|
     Dt (
      if((ix w_0.b i6).toNat:Int)==35 then
       bt ((!(decide (aC (i6+2)>=(w_0.b.length:Int))))=true->0<=aC (i6+1)/\aC (i6+1)<w_0.b.length)<|
       bn (jv (!(decide (aC (i6+2)>=(w_0.b.length:Int)))) 0 (iQ (ix w_0.b (aC (i6+1))))) fun r18=>
       bt ((!((decide (aC (i6+2)>=(w_0.b.length:Int)))||(decide (r18<0))))=true->0<=aC (i6+2)/\aC (i6+2)<w_0.b.length)<|
       bn (jv (!((decide (aC (i6+2)>=(w_0.b.length:Int)))||(decide (r18<0)))) 0 (iQ (ix w_0.b (aC (i6+2))))) fun r19=>
       if((decide (aC (i6+2)>=(w_0.b.length:Int)))||(decide (r18<0)))||(decide (r19<0))then
        some (.inr (17:Int))
       else
        bt (0<=aC (i6+1)/\aC (i6+1)<w_0.b.length)<|
        bn (iQ (ix w_0.b (aC (i6+1)))) fun r20=>
        bt (0<=aC (i6+2)/\aC (i6+2)<w_0.b.length)<|
        bn (iQ (ix w_0.b (aC (i6+2)))) fun r21=>
        some (.inl (aC (i6+2),iM (aC ((aC (16*r20))+r21))))
      else
       some (.inl (i6,ix w_0.b i6))) (fun((i14,c15):Int×UInt8)=>
      bt ((Lm.length+[c15].length)*1<=room)<|
      some (.inl (Lm++[c15],aC (i14+1))))
     (fun(t17:Int)=>some (.inr (.inr t17)))
    else
     some (.inr (.inl Lm))) (([]:List UInt8),0)) (fun(aho:(List UInt8))=>
   some (.inl aho))
  (fun(t10:Int)=>some (.inr t10))) (fun(Jf:(List UInt8))=>
  bn (jv (!(decide ((Jf.length:Int)>127))) 0 (eX Jf 0)) fun r22=>
  if(decide ((Jf.length:Int)>127))||(decide (r22>=0))then
   some ((ab.mk 0 0 (bk.mk []) ([]:List ab)),17)
  else
   some ((ab.mk 5 0 (bk.mk Jf) ([]:List ab)),0))
 (fun(t4:Int)=>some ((ab.mk 0 0 (bk.mk []) ([]:List ab)),t4))
theorem IZ{w_0}:FF 205 [.str w_0.b] (ny w_0) fun r=>[.agg (Kf r.1),.int .i64 r.2]:=by
 intro s Q
 refine FR 71 [⟨2,false,some (4,true)⟩,⟨3,true,none⟩] 0x5ac6c236011ef7ed6317fa95569810c89ee644c17cff8bc664952bd1aa3d5730f397b2a47101b231fdb064a5ac85557b470e7dc2de860e0739a28ac8943bf300b7c437d93948ab22c36fd5b38d84062c6d15db4eb453d0b992330c1bb94992340fdb3dc7208767c1a5a5849685d02bc3981cb13904d6696c0951d65e6d700ac8572b1020a76d4a968e73db48b0581c2c039fee961d6f74de71490bfc7bfd435b480d041c968a09f0662ec52f80f26a4e69947259619eb6b45e8293aedfda340e3555d3e17727687d1036cfc7deba258514bd4776e0fd9978b0802de5e90ebb183702e1f95737b8fb367c988ac6bd6b17b377902fa989189fa78ae05001bc9d1d422a8ea4d0e33646fb9774c1ff5111e3c471008edd2f39ca3bbcdb9270cb261491a0cee9781fe17c996ecda9ae9391db032a1357b2003cd1eb37e0092758b ny.eq_1 ?_
 repeat'(first
  |(with_reducible first|exact dQ|refine cI ?_ ?_|refine er ?_)
  |((fail_if_success (have _x:=r18));with_reducible refine jk rfl (fun _(h:iQ (ix w_0.b (aC (i6+1)))=some _)=>(kc nx h:)) (fun _=>rfl) (fun r18=>?_))
  |((fail_if_success (have _x:=r19));with_reducible refine jk rfl (fun _(h:iQ (ix w_0.b (aC (i6+2)))=some _)=>(kc nx h:)) (fun _=>rfl) (fun r19=>?_))
  |((fail_if_success (have _x:=r20));with_reducible refine cY (fun _(h:iQ (ix w_0.b (aC (i6+1)))=some _)=>(kc nx h:)) (fun _=>rfl) (fun r20=>?_))
  |((fail_if_success (have _x:=r21));with_reducible refine cY (fun _(h:iQ (ix w_0.b (aC (i6+2)))=some _)=>(kc nx h:)) (fun _=>rfl) (fun r21=>?_))
  |with_reducible refine jk rfl (fun _(h:eX Jf 0=some _)=>(by refine Fc ?_ ((kc uV h:));simp -implicitDefEqProofs only[go_sem,seval])) (fun _=>rfl) (fun r22=>?_)
  |((with_reducible refine fF (live:=[(0,false),(2,false),(4,false),(5,false),(6,false)]) (fun((i14,c15):Int×UInt8)=>⟨[(0,.str w_0.b),(2,.loc [.int .i64 0,.int .i64 0,.str (bk.mk []).b,.sl true 4 0 []]),(4,sT 1 Lm),(5,.int .i64 i14),(6,.int .u8 c15.toNat)],[],s⟩) (fun J=>?_) ?_);rotate_left;rintro⟨i14,c15⟩)
  |((with_reducible refine ed (fun((Lm,i6):(List UInt8)×Int)=>⟨[(0,.str w_0.b),(2,.loc [.int .i64 0,.int .i64 0,.str (bk.mk []).b,.sl true 4 0 []]),(4,sT 1 Lm),(5,.int .i64 i6)],[],s⟩) ?_ ?_);(first|exact rfl|simp -implicitDefEqProofs only[go_sem,seval]);rintro J ⟨Lm,i6⟩)
  |((with_reducible refine fF (live:=[(2,false),(4,false)]) (fun(Jf:(List UInt8))=>⟨[(2,.loc [.int .i64 0,.int .i64 0,.str (bk.mk []).b,.sl true 4 0 []]),(4,sT 1 Jf)],[],s⟩) (fun J=>?_) ?_);rotate_left;rintro Jf)
  |simp -implicitDefEqProofs only[go_sem,seval])
def gO(s_0:ao)(c_1:UInt8):Option (aF×Int×ao):=
 bn (gb c_1) fun r1=>
 if r1 then
  bn (gh s_0) fun r2=>
  some (r2.1,r2.2.1,r2.2.2)
 else
  if(c_1.toNat:Int)==91 then
   some ((aF.mk 2 0 0 (ab.mk 0 0 (bk.mk []) ([]:List ab)) (bk.mk [])),0,(ao.mk s_0.Builder s_0.b_ (aC (s_0.at_+1)) s_0.aS))
  else
   if(c_1.toNat:Int)==93 then
    some ((aF.mk 3 0 0 (ab.mk 0 0 (bk.mk []) ([]:List ab)) (bk.mk [])),0,(ao.mk s_0.Builder s_0.b_ (aC (s_0.at_+1)) s_0.aS))
   else
    if(c_1.toNat:Int)==60 then
     bn (gN (ao.mk s_0.Builder s_0.b_ (aC (s_0.at_+1)) s_0.aS)) fun r3=>
     some (r3.1,r3.2.1,r3.2.2)
    else
     if(c_1.toNat:Int)==62 then
      bn (gL (ao.mk s_0.Builder s_0.b_ (aC (s_0.at_+1)) s_0.aS)) fun r4=>
      some (r4.1,r4.2.1,r4.2.2)
     else
      if(c_1.toNat:Int)==40 then
       bn (gw (ao.mk s_0.Builder s_0.b_ (aC (s_0.at_+1)) s_0.aS)) fun r5=>
       some ((aF.mk 1 0 0 r5.1 (bk.mk [])),r5.2.1,r5.2.2)
      else
       if(c_1.toNat:Int)==47 then
        bn (gx (ao.mk s_0.Builder s_0.b_ (aC (s_0.at_+1)) s_0.aS)) fun r6=>
        if !r6.2.1 then
         some ((aF.mk 0 0 0 (ab.mk 0 0 (bk.mk []) ([]:List ab)) (bk.mk [])),6,r6.2.2)
        else
         bn (ny r6.1) fun r7=>
         some ((aF.mk 1 0 0 r7.1 (bk.mk [])),r7.2,r6.2.2)
       else
        some ((aF.mk 0 0 0 (ab.mk 0 0 (bk.mk []) ([]:List ab)) (bk.mk [])),11,(ao.mk s_0.Builder s_0.b_ (aC (s_0.at_+1)) s_0.aS))
theorem xa{s_0 c_1}{B0:Nat}{s:ae}{Q:List AV->ae->Prop}(hB0:s B0=some (.cells (tG B0 s_0))):ok (gO s_0 c_1) (fun r=>Q [.agg [.int .i64 r.1.Kind,.int .i64 r.1.aR,.int .i64 r.1.To,.int .i64 r.1.V.Kind,.int .i64 r.1.V.N,.str r.1.V.S.b,sF 4 r.1.V.L,.str r.1.S.b],.int .i64 r.2.1] (s.set B0 (.cells (tG B0 r.2.2))))->FN prog 168 [.ref B0 0,.int .u8 c_1.toNat] s Q:=by
 rw[<-bj hB0]
 refine FR 73 [⟨4,false,some (8,true)⟩,⟨5,true,none⟩] 0x1243d8b62dc1ac4c1b0dcd3920e4d012095e22858b8246723acbeef7b0c317ee0baa6e05045d63dc9b634fc73c72b7557a529d65f4dabd90924aded54dc61d45cc4c3a6aa103fd0fc8949883087efaf5fec7debbc30dea74ca285c217aed71ae72fd52edef7d574671f77803a6a7ebf587e6b90c28cbbf45800d10ac36d47655397e3fb82e9abf391ef5084e41f2a218174862b5f67aa2c8cdf52fa1e83e700aceaf3023a176712b06d5ab4f21fc758a40b7fa8dcba93745d4b11230b91bee7b6fe1050f6168f0414cbf1e42a5b413c86affab4bdbe8eb5f183ac89c2986f4ce07cbd179a4f4907891ece145375686f686adcac983a0c77157d3cb53e78f2175577bd4272c9db35a027fd4894fb885981c7c579fc4db47f2f3b88f9b09981b7b5aa987cdd04a9f82fd66c1dd6035072913c00753e6a3706b08e2904e0ceae5e8173d5a9800a3f8eb04a6291c8ebf6d4d964c8a2c81e07ca1f7d01df15e061b538e0e367678b0bebe916a71d17382784d033e786a4e8180d9ce4a5604df20ffa12a08f442edccadd1cfa1cc4234bf7e72bbadfd4c86f382a3aefbdb72bc0bfe65d44619b6918b003defd1eb37e000000010c324b gO.eq_1 ?_
 repeat'(first
  |(with_reducible first|exact dQ|refine cI ?_ ?_|refine er ?_|refine aQ (fun _(h:gb c_1=some _)=>(kc rZ h:)) (fun r1=>?_)|refine fun hh=>sa (B0:=B0) (by simp -implicitDefEqProofs only[go_sem,seval]<;>simp only[an]) (aK (show ok (gh s_0) _ from hh) fun r2=>?_)|refine fun hh=>tR (B0:=B0) (by simp -implicitDefEqProofs only[go_sem,seval]<;>simp only[an]) (aK (show ok (gN (ao.mk s_0.Builder s_0.b_ (aC (s_0.at_+1)) s_0.aS)) _ from hh) fun r3=>?_)|refine fun hh=>tQ (B0:=B0) (by simp -implicitDefEqProofs only[go_sem,seval]<;>simp only[an]) (aK (show ok (gL (ao.mk s_0.Builder s_0.b_ (aC (s_0.at_+1)) s_0.aS)) _ from hh) fun r4=>?_)|refine fun hh=>yl (B0:=B0) (by simp -implicitDefEqProofs only[go_sem,seval]<;>simp only[an]) (aK (show ok (gw (ao.mk s_0.Builder s_0.b_ (aC (s_0.at_+1)) s_0.aS)) _ from hh) fun r5=>?_)|refine fun hh=>pL (B0:=B0) (by simp -implicitDefEqProofs only[go_sem,seval]<;>simp only[an]) (aK (show ok (gx (ao.mk s_0.Builder s_0.b_ (aC (s_0.at_+1)) s_0.aS)) _ from hh) fun r6=>?_)|refine aQ (fun _(h:ny r6.1=some _)=>(kc IZ h:)) (fun r7=>?_))
  |simp -implicitDefEqProofs only[go_sem,seval])
def dI(b_0:(List UInt8))(ff:Int)(cG:Bool):Option (aF×Int):=
 if(decide (ff<0))||(decide (ff>(b_0.length:Int)))then
  some ((aF.mk 0 0 0 (ab.mk 0 0 (bk.mk []) ([]:List ab)) (bk.mk [])),2)
 else
  bn (pJ b_0 ff) fun r1=>
  if r1==(b_0.length:Int)then
   if cG then
    some ((aF.mk 0 r1 r1 (ab.mk 0 0 (bk.mk []) ([]:List ab)) (bk.mk [])),0)
   else
    some ((aF.mk 0 r1 r1 (ab.mk 0 0 (bk.mk []) ([]:List ab)) (bk.mk [])),6)
  else
   bt (0<=r1/\r1<b_0.length)<|
   bn (gO (ao.mk zt.zero b_0 r1 cG) (ix b_0 r1)) fun r2=>
   if r2.2.1 !=0 then
    some ((aF.mk 0 r1 r1 (ab.mk 0 0 (bk.mk []) ([]:List ab)) (bk.mk [])),r2.2.1)
   else
    some ((aF.mk r2.1.Kind r1 r2.2.2.at_ r2.1.V r2.1.S),0)
set_option maxHeartbeats 8000000 in
theorem ke{b_0 ff cG}:FF 132 [sF 1 b_0,.int .i64 ff,.bool cG] (dI b_0 ff cG) fun r=>[.agg [.int .i64 r.1.Kind,.int .i64 r.1.aR,.int .i64 r.1.To,.int .i64 r.1.V.Kind,.int .i64 r.1.V.N,.str r.1.V.S.b,sF 4 r.1.V.L,.str r.1.S.b],.int .i64 r.2]:=by
 intro s Q
 intro h
 refine FN.forget ?_
 refine FP 63 [⟨6,false,some (8,true)⟩,⟨7,true,none⟩] (dec 0x698cf77fa6bc842e16e6aabcbc9a3f4970fb657bc3eb5a638e11f4a3e8ff1e2170482dcef3f0219af9e8546d8f445147b681de749a9f08b808d1d445e6249186a9f4193574d8358a6be04920648016fbf6486f68eb8295978c7546dfa4eec6427c33fb5818fb1af18ac814d39913394fde2163aa3f849c134026778c874f755034457f26bc0f05e158fd788507cf3447879f8d0e17da2326d75ff49ea5d125074197047519674b3535abb5b925e97c4a38975d292e4c09de59efde5b4ffa2a03dd1c2439a4baaa69a71aa27fd5171121d69db3384707c8f6ede1cb172af277844db0fba8f399f9c18bb610bf9cfca9c5fdb62d48e662a72e149c2ce10f7e42c639f2c99de4b4b640c05e4e134570812ed107c3d7a15de9e39934e6dc4b624af4732b16a3af9ca40b359ce5148188418a47464003defd1eb37e000000010c6f0b) (by kernel_rfl) rfl ?_
 revert h
 rw[dI]
 conv in dec _=>reduce
 repeat'(first
  |(with_reducible first|exact dQ|refine cI ?_ ?_|refine er ?_)
  |((with_reducible apply ahQ);(·intro Q' hQ;repeat'(first|exact hQ|(simp only[cU,cy,bQ,cw,ua,vR,Bool.not_true,Bool.not_false,Bool.or_true,Bool.true_or,Bool.false_or,Bool.or_false,Bool.and_true,Bool.true_and,Bool.and_false,Bool.false_and,cond_true,cond_false,true_and,and_true];done)|with_reducible refine⟨?_,?_⟩|with_reducible exact trivial|simp only[cU,cy,bQ,cw,ua,vR,Bool.not_true,Bool.not_false,Bool.or_true,Bool.true_or,Bool.false_or,Bool.or_false,Bool.and_true,Bool.true_and,Bool.and_false,Bool.false_and,cond_true,cond_false,true_and,and_true]|simp -implicitDefEqProofs only[go_sem,seval])))
  |(with_reducible first|refine aQ (fun _(h:pJ b_0 ff=some _)=>(kc IY h:)) (fun r1=>?_)|refine fun hh=>xa (B0:=N1) (by simp -implicitDefEqProofs only[go_sem,seval]<;>simp only[an]) (aK (show ok (gO (ao.mk zt.zero b_0 r1 cG) (ix b_0 r1)) _ from hh) fun r2=>?_))
  |((fail_if_success (have _x:=sN1));with_reducible intro hh N1 hN1;(try simp only[eT]at hN1);have sN1:=hN1;revert hh)
  |(with_reducible first|exact fun hh=>⟨_,uO.set (uO.refl _) (by simp[ae.set,sN1]),hh⟩|exact fun hh=>⟨_,uO.refl _,hh⟩)
  |simp -implicitDefEqProofs only[go_sem,seval])
@[go_sem]abbrev oV(v:ab):AV:=.agg [.int .i64 v.Kind,.int .i64 v.N,.str v.S.b,sF 4 v.L]
end Go.AB
end
section
set_option maxRecDepth 4000
namespace Go.AB
open Go
open Go.Proofs.Tryz (prog)
end Go.AB
end
section
set_option maxRecDepth 16000
namespace Go.AB
open Go
open Go.Proofs.Tryz (prog)
attribute[-go_sem] cy cU bQ cw
@[go_sem]theorem RW(l:List ab):pad [.int .i64 0,.int .i64 0,.str [],.sl false 4 0 []] (views (AB.sub (flat l) 0 4))=[.int .i64 ((ix l 0).Kind),.int .i64 ((ix l 0).N),.str ((ix l 0).S).b,.sl false 4 ((ix l 0).L).length (flat ((ix l 0).L))]:=Dw l 0
def eY(x_0:bk):Option (Bool):=some (!(x_0.b==x_0.b))
theorem nk{x_0}:FF 278 [.str x_0.b] (eY x_0) fun r=>[.bool r]:=by
 intro s Q
 exact FC 6 [⟨2,true,none⟩] 0xa1c396387ce7f58100d920824473a eY.eq_1
def fV(x_0:bk)(y_1:bk):Option (Int):=
 bn (eY x_0) fun r1=>
 bn (eY y_1) fun r2=>
 if r1 then
  if r2 then
   some 0
  else
   some (-1)
 else
  if r2 then
   some 1
  else
   if Op.bytesLess x_0.b y_1.b then
    some (-1)
   else
    if !((Op.bytesLess x_0.b y_1.b)||(x_0.b==y_1.b))then
     some 1
    else
     some 0
theorem rF{x_0 y_1}:FF 251 [.str x_0.b,.str y_1.b] (fV x_0 y_1) fun r=>[.int .i64 r]:=by
 intro s Q
 refine FR 20 [⟨4,true,none⟩] 0x77a655631f5dd007c75a30eb93b9ca53d795df717bd0288dc7a31dc467332a089a32fd50510ca3614e8f5f3aa60b97ba8a7ac8e50adc412df602ac320dfe0bca690463c48f2ce6a5c751af3ec7191f72cef8a47f1a53200d4eb3ed07eccb2efe10ae7e0d3980083fa fV.eq_1 ?_
 repeat'(first
  |(with_reducible first|refine aQ (fun _(h:eY x_0=some _)=>(kc nk h:)) (fun r1=>?_)|refine aQ (fun _(h:eY y_1=some _)=>(kc nk h:)) (fun r2=>?_))
  |simp -implicitDefEqProofs only[go_sem,seval])
def iK(a_0:(List ab))(b_1:(List ab)):Option (Int):=
 bt (0<=(0:Int)/\(0:Int)<a_0.length)<|
 bt (0<=(0:Int)/\(0:Int)<b_1.length)<|
 bn (fV ((ix a_0 0).S) ((ix b_1 0).S)) fun r1=>
 some r1
theorem yB{a_0 b_1}:FF 250 [.sl false 4 a_0.length (flat a_0),.sl false 4 b_1.length (flat b_1)] (iK a_0 b_1) fun r=>[.int .i64 r]:=by
 intro s Q
 refine FR 14 [⟨4,true,none⟩] 0x8ce5a42a08a37c9988da8fb432cb7321239d69ac827cdddd9f50443bbb49921be2675e20ad93980083fa iK.eq_1 ?_
 repeat'(first
  |(with_reducible first|exact dQ|refine cI ?_ ?_|refine cY (fun _(h:fV ((ix a_0 0).S) ((ix b_1 0).S)=some _)=>(kc rF h:)) (fun _=>rfl) (fun r1=>?_))
  |simp -implicitDefEqProofs only[go_sem,seval])
theorem yA{a_0 b_1}{s:ae}{r:Int}(h:iK a_0 b_1=some r):FE prog 250 [.sl false 4 a_0.length (flat a_0),.sl false 4 b_1.length (flat b_1)] s [.int .i64 r] s:=yB ⟨r,h,rfl,rfl⟩
end Go.AB
end
section
set_option maxRecDepth 4000
namespace Go.AB
open Go
open Go.Proofs.Tryz (prog)
abbrev VL:=List ab
def Bz(x y:VL):Bool:=Op.bytesLess (ix x 0).S.b (ix y 0).S.b
theorem Gx:TP Bz:=⟨fun _ _=>qh.TG _ _,fun _ _ _=>qh.tr _ _ _⟩
theorem CG(l:List UInt8):Op.bytesLess l l=false:=by
 cases e:Op.bytesLess l l with
 |false=>rfl
 |true=>rw[<-e];exact qh.TG l l e
theorem agl{x y:VL}(hx:0<x.length)(hy:0<y.length):∃c,iK x y=some c/\decide (c<0)=Bz x y:=by
 unfold iK fV eY Bz
 have e1:∀z:bk,(!(z.b==z.b))=false:=fun z=>by rw[beq_self_eq_true];rfl
 rw[bK (by omega),bK (by omega),e1,e1,aJ,aJ,if_neg (by decide),if_neg (by decide)]
 cases h:Op.bytesLess (ix x 0).S.b (ix y 0).S.b with
 |true=>exact⟨-1,rfl,rfl⟩
 |false=>
  rw[if_neg (by decide),Bool.false_or]
  cases h2:(ix x 0).S.b==(ix y 0).S.b with
  |true=>exact⟨0,rfl,rfl⟩
  |false=>exact⟨1,rfl,rfl⟩
def sgR:SG (VL)where
 lt:=Bz
 tp:=Gx
 Bf:=fun x y=>0<x.length/\0<y.length
 cm:=iK
 cv:=fun h=>agl h.2 h.1
 z:=.sl false 4 0 []
 fc:=250
 cl:=[]
 w1:=rfl
 en:=fun _=>⟨rfl,fun _=>rfl,rfl,rfl,rfl,fun _ d=>by cases d<;>rfl,rfl,rfl,rfl,fun _=>rfl,rfl,rfl⟩
 ok:=by kernel_rfl
 fi:=293
 fw:=306
 fr:=300
 fy:=294
 fs:=277
 fo:=249
 hi:=by kernel_rfl
 hw:=by kernel_rfl
 hr:=by kernel_rfl
 hy:=by kernel_rfl
 hs:=by kernel_rfl
 ho:=by kernel_rfl
theorem VC(l:List VL)(sp:List AV){j:Int}(h0:0<=j)(h:j<l.length):j.toNat*1+1<=(flat l++sp).length/\views (AB.sub (flat l++sp) (j.toNat*1) 1)=[.sl false 4 (ix l j).length (flat (ix l j))]:=kq sgR l sp h0 h
theorem SE{s:ae}{rb cap:Nat}{sp:List AV}{l:List VL}{Q:List AV->ae->Prop}(hl:(l.length:Int)<2^46)(hz:∀z∈l,0<z.length)
 (hq:∀Z,Z.Perm l->jj Bz Z->Q [] (s.set rb (.cells (flat Z++sp)))):FN prog 249 [.arr rb 0 l.length cap,.fn 250 [] []] (s.set rb (.cells (flat l++sp))) Q:=
 EY (I:=sgR) (fun hc=>yA hc) hl ((List.pairwise_of_forall (R:=fun _ _=>True) fun _ _=>trivial).imp_of_mem fun ha hb _=>⟨hz _ ha,hz _ hb⟩) hq
theorem SD{s:ae}{Q:List AV->ae->Prop}(hq:Q [] s):FN prog 249 [.arr 0 0 0 0,.fn 250 [] []] s Q:=EX sgR hq
theorem HC{α:Type}[aP α]{E:St}{d:Option Nat}{K:St->Prop}{sz by':Nat}{s:ae}{r:cN}{l:List α}{z:α}{x:List α}(hσ:E.s=iw s r l)(h:fB s r l)(hz:sz=aP.w α)(hx:0<x.length)(hr:(l.length+x.length)*by'<=room)
 (hK:∀s' r',Sub s s'->fB s' r' (l++x)->K ({E with s:=iw s' r' (l++x)}.put d (iG r' (l.length+x.length)))):
 dY sz by' (aP.cells z) E d K (iG r l.length) (some (x.length,flat x)):=by
 subst hz
 have hcz:(aP.cells z).length=aP.w α:=aP.len z
 have hvz:views (aP.cells z)=aP.cells z:=aP.vw z
 have fresh:∀(s':ae)(b' dp:Nat),s' b'=none->l.length+x.length<=dp->fB s' (some (b',dp,flat (List.replicate (dp -(l.length+x.length)) z))) (l++x):=fun s' b' dp hb hc=>by
  refine⟨hb,by omega,by grind,?_,aN _⟩
  rw[List.length_append,aA,aA,List.length_replicate,List.length_append,<-Nat.add_mul]
  grind
 cases r with
 |none=>
  obtain rfl:l=[]:=h
  show dY (aP.w α) by' (aP.cells z) E d K (.arr 0 0 0 0) _
  refine eD hcz (olds:=[]) rfl (by grind) hr fun b' dp hb' hc=>?_
  rw[List.nil_append,<-fX]
  rw[hσ]at hb'⊢
  have:=hK s (some (b',dp,flat (List.replicate (dp -(0+x.length)) z))) (Sub.refl s) (fresh s b' dp hb' hc)
  exact this
 |some y=>
  obtain⟨b,cap,sp⟩:=y
  obtain⟨h1,h2,h3,h4,h5⟩:=h
  have hs:E.s b=some (.cells (flat l++sp)):=by rw[hσ];exact bD
  show dY (aP.w α) by' (aP.cells z) E d K (.arr b 0 l.length cap) _
  by_cases hc:l.length+x.length<=cap
  ·refine nZ hcz hs (by grind) hc ?_
   have hsp:x.length*aP.w α<=sp.length:=by
    rw[List.length_append,aA]at h4
    have:(l.length+x.length)*aP.w α<=cap*aP.w α:=Nat.mul_le_mul_right _ hc
    rw[Nat.add_mul]at this
    simp;omega
   have st:=B4 l x sp (aP.w α) rfl hsp
   rw[Nat.zero_add,st]
   have e:E.s.set b (.cells (flat (l++x)++sp.drop (x.length*aP.w α)))=iw s (some (b,cap,sp.drop (x.length*aP.w α))) (l++x):=by
    rw[hσ]
    show(s.set b _).set b _=s.set b _
    exact set_set ..
   rw[e]
   refine hK s _ (Sub.refl s) ⟨h1,h2,by grind,?_,?_⟩
   ·grind [List.length_append,aA,List.length_drop,Nat.add_mul]
   grind [views,List.map_drop]
  ·refine eD hcz (td hs (by
    rw[Nat.zero_add,h4];exact Nat.mul_le_mul_right _ h3)) (by omega) hr fun b' dp hb' hc'=>?_
   have ho:views (AB.sub (flat l++sp) 0 (l.length*aP.w α))=flat l:=by
    have:=lL l sp (aP.w α) 0 l.length rfl (by omega)
    rw[Nat.zero_mul]at this
    rw[this,List.drop_zero,List.take_length,aN]
   rw[ho,<-fX,<-ep]
   rw[hσ]at hb'⊢
   have hb0:(s.set b (.cells (flat l++sp))) b'=none:=hb'
   exact hK (s.set b (.cells (flat l++sp))) (some (b',dp,flat (List.replicate (dp -(l.length+x.length)) z))) ((Sub.refl s).set h1) (fresh _ b' dp hb0 hc')
end Go.AB
end
