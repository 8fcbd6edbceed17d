/- A part. -/
import Derived.Test.YtgecakgfnjkkbaaGreatRt14
import Derived.Test.YtgecakgfnjkkbaaGreatRt13
set_option linter.defProp false
set_option linter.unusedSimpArgs false
set_option linter.unusedVariables false
section
set_option maxRecDepth 16000
namespace Go.AB
open Go
open Go.Proofs.Tryz (prog)
structure aa where
 Kind:Int
 N:Int
 S:bg
 L:(List aa)
mutual
def iT:aa->List AV
 |⟨k,n,s,l⟩=>[.int .i64 k,.int .i64 n,.str s.b,.sl false 4 l.length (oN l)]
def oN:List aa->List AV
 |[]=>[]
 |v::l=>iT v++oN l
end
def H8(x:aa):views (iT x)=iT x:=by cases x;simp[iT,views,view]
def H7(x:aa):(iT x).length=4:=by cases x;simp[iT]
instance:aO aa:=⟨4,iT,⟨0,0,⟨[]⟩,[]⟩,B_,H7,H8⟩
theorem sE:∀l:List aa,oN l=flat l
 |[]=>by rw[oN];rfl
 |v::l=>by rw[oN,sE l];rfl
@[go_sem]theorem fD(x:aa):aO.cells x=[.int .i64 x.Kind,.int .i64 x.N,.str x.S.b,sF 4 x.L]:=by
  cases x
  show iT _=_
  rw[iT,sE]
@[go_sem]abbrev M1(x:aa):List AV:=[.int .i64 x.Kind,.int .i64 x.N,.str x.S.b,sF 4 x.L]
@[go_sem]theorem Ft(l:List aa)(i:Int):pad [.int .i64 0,.int .i64 0,.str [],.sl false 4 0 []] (views (AB.sub (flat l) (i.toNat*4) 4))=[.int .i64 ((ix l i).Kind),.int .i64 ((ix l i).N),.str ((ix l i).S).b,sF 4 ((ix l i).L)]:=by rw[<-fD];exact tG _ 4 l i (by rw[fD];rfl) rfl
attribute[-go_sem] bX cP bD bV
def aly{P:Program}{X:Prop}{iH:List (List Bool)}{ops f:List ar}{live:List Nat}{Q:Exit->St->Prop}{d:List Bool}{E φ:St}
 (h1:∀Q':St->Prop,Q' φ->Sa P iH ops (fun τ=>Q' (τ.xc live)) f d E)(h2:X->Q .normal φ):X->Sa P iH ops (An live Q) f d E:=fun x=>h1 (fun τ=>Q .normal τ) (h2 x)
@[go_sem]theorem alH:Nat.ble 1 1=true:=rfl
@[go_sem]theorem al8{α:Type}[aO α](n:Nat)(l:List α)(hi:Int)(hn:n=aO.w α):AB.sub (flat l) 0 (hi.toNat*n)=flat (part l 0 hi):=by
  have:=GH n l 0 hi hn
  rwa[Int.sub_zero,show((0:Int).toNat*n)=0 from by simp]at this
@[go_sem]theorem agU{α:Type}[aO α](l:List α)(i:Int):ix l ((i.toNat:Nat):Int)=ix l i:=rfl
@[go_sem]theorem ae2(l:List Int)(n:Nat):pad [.int .i64 0] (views (AB.sub (flat l) (n*1) 1))=[.int .i64 (ix l (n:Int))]:=YC l n
def gx{P:Program}{f:FuncId}{as1 as2:List AV}{s:ae}{Q:List AV->ae->Prop}(e:as1=as2)(h:FN P f as1 s Q):FN P f as2 s Q:=e▸h
def kC:LB prog 245 5 0 243=true:=By
structure aH where
 Kind:Int
 aP:Int
 To:Int
 V:aa
 S:bg
instance:aO aH:=⟨8,fun x=>[.int .i64 x.Kind,.int .i64 x.aP,.int .i64 x.To,.int .i64 x.V.Kind,.int .i64 x.V.N,.str x.V.S.b,sF 4 x.V.L,.str x.S.b],(aH.mk 0 0 0 (aa.mk 0 0 (bg.mk []) []) (bg.mk [])),B_,fun _=>rfl,fun _=>rfl⟩
def jX(c_0:UInt8):Option (Bool):=some (((((((c_0.toNat:Int)==0)||((c_0.toNat:Int)==9))||((c_0.toNat:Int)==10))||((c_0.toNat:Int)==12))||((c_0.toNat:Int)==13))||((c_0.toNat:Int)==32))
def se{c_0}:FF 158 [.int .u8 c_0.toNat] (jX c_0) fun r=>[.bool r]:=by
 intro s Q
 exact FC 25 [⟨2,true,none⟩] 0xed1976660301f4afb20b18cf782496a24a092cf5c0e23a216d327778ba0bc52744bf77ee8d90bd58140c5cf1f30e1cc9b8f3214b327cb5ce9e39c35dc125f2a6b298824473a jX.eq_1
def q9(b_0:(List UInt8))(fK:Int):Option (Int):=
 if decide (fK<0)then
  some 0
 else
  zj (
   nV (
    iter (fun((at3,tD):Int×Bool)=>
     if decide (at3<(b_0.length:Int))then
      zj (
       a8 (0<=at3/\at3<b_0.length)<|
       if tD then
        some (.inl ((((ix b_0 at3).toNat:Int)!=10)&&(((ix b_0 at3).toNat:Int)!=13)))
       else
        if((ix b_0 at3).toNat:Int)==37 then
         some (.inl true)
        else
         aZ (jX (ix b_0 at3)) fun r11=>
         if !r11 then
          some (.inr at3)
         else
          some (.inl tD)) (fun(x6:Bool)=>
       some (.inl (aC (at3+1),x6)))
      (fun(t10:Int)=>some (.inr (.inr t10)))
     else
      some (.inr (.inl ()))) (fK,false)) (fun(_:Unit)=>
    some (.inl ()))
   (fun(t6:Int)=>some (.inr t6))) (fun(_:Unit)=>
   some (b_0.length:Int))
  (fun(t2:Int)=>some t2)
def Lz{b_0 fK}:FF 167 [sF 1 b_0,.int .i64 fK] (q9 b_0 fK) fun r=>[.int .i64 r]:=by
 intro s Q
 refine FR 37 [⟨4,true,none⟩] 0x55e0511afa6837125daad9e7f4340cb5c402000e9ca59863cd477f6811a91469bb8c7f61ef8836a38fab71f89e1ab4de50e2c7b8556a26fe8ec346f186f689a513b695d2ac41fe7376c907d684a78d8d8fce1f51151ef34078431462bc6274ccc898949275357186e8ecd4f11858c332170d8e2268e0a4aa4307df40257ea1877cdaf5b467bd34555842c8cf91f5d66a09a22962316cc5ba245b8116802ef069ca13980083fa q9.eq_1 ?_
 repeat'(first
  |(with_reducible first|exact dj|refine cj ?_ ?_|refine dw ?_|refine aN (fun _(h:jX (ix b_0 at3)=some _)=>(kK se h:)) (fun r11=>?_))
  |((with_reducible refine eF (live:=[(0,true),(1,false),(5,false)]) (fun(x6:Bool)=>⟨[(0,sF 1 b_0),(1,.int .i64 at3),(5,.bool x6)],[],s⟩) (fun J=>?_) ?_);rotate_left;rintro x6)
  |((with_reducible refine cY (fun((at3,tD):Int×Bool)=>⟨[(0,sF 1 b_0),(1,.int .i64 at3),(5,.bool tD)],[],s⟩) ?_ ?_);(first|exact rfl|simp -implicitDefEqProofs only[go_sem,seval]);rintro J ⟨at3,tD⟩)
  |((with_reducible refine eF (live:=[(0,true)]) (fun(_:Unit)=>⟨[(0,sF 1 b_0)],[],s⟩) (fun J=>?_) ?_);rotate_left;rintro _)
  |refine Xe4 ?_|exact Xf8)
structure aq where
 Builder:Bk
 b_:(List UInt8)
 at_:Int
 aR:Bool
@[go_sem]abbrev vu(B0:Nat)(x:aq):List AV:=[zq 245 B0 0 x.Builder,wL x.Builder,sF 1 x.b_,.int .i64 x.at_,.bool x.aR]
def dU(s_0:bg)(c_1:UInt8):Option (Int):=
 aZ (gp s_0 c_1) fun r1=>
 some r1
def nr{s_0 c_1}:FF 185 [.str s_0.b,.int .u8 c_1.toNat] (dU s_0 c_1) fun r=>[.int .i64 r]:=by
 intro s Q
 refine FR 8 [⟨4,true,none⟩] 0x13ca928775ab3dd5c3495f9593980083fa dU.eq_1 ?_
 repeat'(first
  |with_reducible refine aN (fun _(h:gp s_0 c_1=some _)=>(kK qz h:)) (fun r1=>?_)
  |refine Xe4 ?_|exact Xf8)
def uR(c_0:UInt8):Option (Bool):=
 aZ (dU (bg.mk [40,41,60,62,91,93,123,125,47,37]) c_0) fun r1=>
 some (decide (r1>=0))
def I4{c_0}:FF 159 [.int .u8 c_0.toNat] (uR c_0) fun r=>[.bool r]:=by
 intro s Q
 refine FR 6 [⟨2,true,none⟩] 0xa1c396336384fd8d13a951013c745c9a05440fca563e38d920824473a uR.eq_1 ?_
 repeat'(first
  |with_reducible refine aN (fun _(h:dU (bg.mk [40,41,60,62,91,93,123,125,47,37]) c_0=some _)=>(kK nr h:)) (fun r1=>?_)
  |refine Xe4 ?_|exact Xf8)
def gH(c_0:UInt8):Option (Bool):=
 aZ (jX c_0) fun r1=>
 aZ (kc (!r1) false (uR c_0)) fun r2=>
 some ((!r1)&&(!r2))
def ua{c_0}:FF 199 [.int .u8 c_0.toNat] (gH c_0) fun r=>[.bool r]:=by
 intro s Q
 refine FR 11 [⟨2,true,none⟩] 0x19674524ab3f065368d629c50dc50ddc976c145dd6689737dc540824473a gH.eq_1 ?_
 repeat'(first
  |(with_reducible first|refine c7 (fun _(h:jX c_0=some _)=>(kK se h:)) (fun _=>rfl) (fun r1=>?_)|refine jT rfl (fun _(h:uR c_0=some _)=>(kK I4 h:)) (fun _=>rfl) (fun r2=>?_))
  |refine Xe4 ?_|exact Xf8)
def gV(s_0:aq):Option (bg×Bool×aq):=
 jn (
  iter (fun(o3:aq)=>
   a8 ((decide (o3.at_<(o3.b_.length:Int)))=true->0<=o3.at_/\o3.at_<o3.b_.length)<|
   aZ (kc (decide (o3.at_<(o3.b_.length:Int))) false (gH (ix o3.b_ o3.at_))) fun r6=>
   if(decide (o3.at_<(o3.b_.length:Int)))&&r6 then
    some (.inl (aq.mk o3.Builder o3.b_ (aC (o3.at_+1)) o3.aR))
   else
    some (.inr o3)) s_0) fun(o2:aq)=>
 a8 (0<=s_0.at_/\s_0.at_<=o2.at_/\o2.at_<=o2.b_.length)<|
 some (bg.mk (part o2.b_ s_0.at_ o2.at_),(decide (o2.at_<(o2.b_.length:Int)))||o2.aR,o2)
def rh{s_0}{B0:Nat}{s:ae}{Q:List AV->ae->Prop}(hB0:s B0=some (.cells (vu B0 s_0))):ok (gV s_0) (fun r=>Q [.str r.1.b,.bool r.2.1] (s.set B0 (.cells (vu B0 r.2.2))))->FN prog 204 [.ref B0 0] s Q:=by
 rw[<-aU hB0]
 refine FR 66 [⟨2,true,none⟩,⟨3,true,none⟩] 0x79c54e7b35fb5b6c8ef5f59e79c783b4e72f8325786b2c9a8adc19af322e113aef1bece27e05426e1048d02f8a7dda539a8abc5661dba4121591578982104d6023f0be3cbe34d15905a2fe580d9407a14aafa2c5230765b70bb4c7e8423270a2951c29f9992120804ed7e0682243dbc8b8a65555b89aaf162ad6a81c16de5a73536391ceb58d1224217aa01ce42f0b3dd05092e70d0a39a087a348339c2deea82d50d5ee896cf9ada31a5d48db518f5139f062c3e0ecf161b3defc478b gV.eq_1 ?_
 repeat'(first
  |(with_reducible first|exact dj|refine cj ?_ ?_|refine jT rfl (fun _(h:gH (ix o3.b_ o3.at_)=some _)=>(kK ua h:)) (fun _=>rfl) (fun r6=>?_))
  |((with_reducible refine cY (fun(o3:aq)=>⟨[(0,.ref B0 0),(4,.int .i64 s_0.at_)],[],(s.set B0 (.cells (vu B0 o3)))⟩) ?_ ?_);(first|exact rfl|simp -implicitDefEqProofs only[go_sem,seval]);rintro J o3)
  |((with_reducible refine dT (fun(o2:aq)=>⟨[(0,.ref B0 0),(4,.int .i64 s_0.at_)],[],(s.set B0 (.cells (vu B0 o2)))⟩) (fun J=>?_) ?_);rotate_left;rintro o2)
  |refine Xe4 ?_|exact Xf8)
def cW(s_0:bg)(gl:bg):Option (Bool):=
 a8 ((decide ((s_0.b.length:Int)>=(gl.b.length:Int)))=true->0<=(0:Int)/\0<=(gl.b.length:Int)/\(gl.b.length:Int)<=s_0.b.length)<|
 some ((decide ((s_0.b.length:Int)>=(gl.b.length:Int)))&&((bg.mk (part s_0.b 0 (gl.b.length:Int))).b==gl.b))
def ly{s_0 gl}:FF 280 [.str s_0.b,.str gl.b] (cW s_0 gl) fun r=>[.bool r]:=by
 intro s Q
 exact FC 18 [⟨4,true,none⟩] 0xa10c3beea370d9e91a6b73c3f0265b477a02dde2a5f524a79465df925a1a43e119b41144e483fa cW.eq_1
def cZ(s_0:bg)(gl:bg):Option (Bool):=
 aZ (cW s_0 gl) fun r1=>
 some r1
def nq{s_0 gl}:FF 255 [.str s_0.b,.str gl.b] (cZ s_0 gl) fun r=>[.bool r]:=by
 intro s Q
 refine FR 8 [⟨4,true,none⟩] 0x13ca928775bb75b7c3495f95944e483fa cZ.eq_1 ?_
 repeat'(first
  |with_reducible refine aN (fun _(h:cW s_0 gl=some _)=>(kK ly h:)) (fun r1=>?_)
  |refine Xe4 ?_|exact Xf8)
def fe(s_0:bg)(qd:bg):Option (bg×bg×Bool):=
 aZ (gK s_0 qd) fun r1=>
 if decide (r1>=0)then
  a8 (0<=(0:Int)/\0<=r1/\r1<=s_0.b.length)<|
  a8 (0<=aC (r1+(qd.b.length:Int))/\aC (r1+(qd.b.length:Int))<=(s_0.b.length:Int)/\(s_0.b.length:Int)<=s_0.b.length)<|
  some (bg.mk (part s_0.b 0 r1),bg.mk (part s_0.b (aC (r1+(qd.b.length:Int))) (s_0.b.length:Int)),true)
 else
  some (s_0,(bg.mk []),false)
def od{s_0 qd}:FF 281 [.str s_0.b,.str qd.b] (fe s_0 qd) fun r=>[.str r.1.b,.str r.2.1.b,.bool r.2.2]:=by
 intro s Q
 refine FR 23 [⟨4,true,none⟩,⟨5,true,none⟩,⟨6,true,none⟩] 0x4566d085658667f36f5c70e61bff6b5d746c6e0ef75dc39ea855960bad567e22a1dd4a132765d0427224c7685029c1dd41d89f5f8b2f391183ce41631bafb9586dcc36c06e73d3defc849c fe.eq_1 ?_
 repeat'(first
  |with_reducible refine aN (fun _(h:gK s_0 qd=some _)=>(kK uA h:)) (fun r1=>?_)
  |refine Xe4 ?_|exact Xf8)
def nn(s_0:bg)(qd:bg):Option (bg×bg×Bool):=
 aZ (fe s_0 qd) fun r1=>
 some (r1.1,r1.2.1,r1.2.2)
def ED{s_0 qd}:FF 256 [.str s_0.b,.str qd.b] (nn s_0 qd) fun r=>[.str r.1.b,.str r.2.1.b,.bool r.2.2]:=by
 intro s Q
 refine FR 13 [⟨4,true,none⟩,⟨5,true,none⟩,⟨6,true,none⟩] 0x4fb00ea327c318c3f520f19c9b4ecd8026c1454679f3bf6c06e73d3defc849c nn.eq_1 ?_
 repeat'(first
  |with_reducible refine aN (fun _(h:fe s_0 qd=some _)=>(kK od h:)) (fun r1=>?_)
  |refine Xe4 ?_|exact Xf8)
def jJ(s_0:bg):Option (Int):=
 a8 (((s_0.b.length+(bg.mk [48,48,48,48,48,48]).b.length:Nat):Int)<=TZ)<|
 a8 (0<=(0:Int)/\0<=6/\6<=(bg.mk (s_0.b++(bg.mk [48,48,48,48,48,48]).b)).b.length)<|
 aZ (my (bg.mk (part (bg.mk (s_0.b++(bg.mk [48,48,48,48,48,48]).b)).b 0 6))) fun r1=>
 some r1.1
def yN{s_0}:FF 259 [.str s_0.b] (jJ s_0) fun r=>[.int .i64 r]:=by
 intro s Q
 refine FR 14 [⟨2,true,none⟩] 0x4dd279fefa38b70ad5fae7a4787903b0e6c1503a73877649dd910af30e2778c81cbeccccccdfc2c13cf657085fcc00473a jJ.eq_1 ?_
 repeat'(first
  |(with_reducible first|exact dj|refine cj ?_ ?_)
  |((fail_if_success (have _x:=r1));with_reducible refine aN (fun _ h=>(kK wm h:)) (fun r1=>?_))
  |refine Xe4 ?_|exact Xf8)
def oG(v_0:aa):Option (Int):=
 zj (
  if v_0.Kind==2 then
   some (.inl 2147483647)
  else
   if v_0.Kind==3 then
    some (.inl 2147483647000000)
   else
    some (.inr (2:Int))) (fun(Dv:Int)=>
  if(((decide (v_0.N<aC (0 -Dv)))||(decide (v_0.N>Dv)))||(!(v_0.S.b==(bg.mk []).b)))||(decide ((v_0.L.length:Int)>0))then
   some 2
  else
   some 0)
 (fun(t3:Int)=>some t3)
def Je{v_0}:FF 260 [.agg (M1 v_0)] (oG v_0) fun r=>[.int .i64 r]:=by
 intro s Q
 refine FR 32 [⟨2,true,none⟩] 0x1ac1ed7f522246eb1bb86a08164e3d8af7c8476576b07fb85a5ffa57cfb23af575c6e606d2c285478425c0d5176b0ffc0449edd70bc82620dbf6d0b7bd264210aadd2c8a26cdf2e2fde7a0f77f6384bd912dee079fc71b43985a2a099f6876dfc6207473e6f7e382d000735699529cfccf7593c6841cc0aa464664b7c5b0ebf3184553559ed614d2008303995b oG.eq_1 ?_
 repeat'(first
  |((with_reducible refine eF (fun(Dv:Int)=>⟨[(1,.loc (M1 v_0)),(3,.int .i64 Dv)],[],s⟩) (fun J=>?_) ?_);rotate_left;rintro Dv)
  |refine Xe4 ?_|exact Xf8)
def oH(s_0:bg):Option (aa×Int):=
 jn (
  aZ (cZ s_0 (bg.mk [45])) fun r4=>
  if r4 then
   a8 (0<=(1:Int)/\1<=(s_0.b.length:Int)/\(s_0.b.length:Int)<=s_0.b.length)<|
   some ((-1),bg.mk (part s_0.b 1 (s_0.b.length:Int)))
  else
   aZ (cZ s_0 (bg.mk [43])) fun r5=>
   if r5 then
    a8 (0<=(1:Int)/\1<=(s_0.b.length:Int)/\(s_0.b.length:Int)<=s_0.b.length)<|
    some (1,bg.mk (part s_0.b 1 (s_0.b.length:Int)))
   else
    some (1,s_0)) fun((Es,Kf):Int×bg)=>
 aZ (nn Kf (bg.mk [46])) fun r6=>
 aZ (kc (!((aC ((r6.1.b.length:Int)+(r6.2.1.b.length:Int)))==0)) false (oi r6.1)) fun r7=>
 aZ (kc (!(((aC ((r6.1.b.length:Int)+(r6.2.1.b.length:Int)))==0)||(!r7))) false (oi r6.2.1)) fun r8=>
 if(((aC ((r6.1.b.length:Int)+(r6.2.1.b.length:Int)))==0)||(!r7))||(!r8)then
  some ((aa.mk 0 0 (bg.mk []) ([]:List aa)),11)
 else
  a8 ((((bg.mk [48]).b.length+r6.1.b.length:Nat):Int)<=TZ)<|
  aZ (my (bg.mk ((bg.mk [48]).b++r6.1.b))) fun r9=>
  if r9.2 !=0 then
   some ((aa.mk 0 0 (bg.mk []) ([]:List aa)),r9.2)
  else
   if !r6.2.2 then
    some ((aa.mk 2 (aC (Es*r9.1)) (bg.mk []) ([]:List aa)),0)
   else
    aZ (jJ r6.2.1) fun r10=>
    aZ (oG (aa.mk 3 (aC (Es*(aC ((aC (r9.1*1000000))+r10)))) (bg.mk []) ([]:List aa))) fun r11=>
    if r11 !=0 then
     some ((aa.mk 0 0 (bg.mk []) ([]:List aa)),5)
    else
     some ((aa.mk 3 (aC (Es*(aC ((aC (r9.1*1000000))+r10)))) (bg.mk []) ([]:List aa)),0)
def Jf{s_0}:FF 226 [.str s_0.b] (oH s_0) fun r=>[.agg (M1 r.1),.int .i64 r.2]:=by
 intro s Q
 refine FR 75 [⟨2,false,some (4,true)⟩,⟨3,true,none⟩] 0x14d9a4599bc4ba3e91ba68139f29f642549f628a18ffdef1205b115f42fe1a39f9cc6432c774f3141d37ebce10659ac719e9c83c762235b105f0fac45b9f086ad55baa6b5a4b6dcf7467a5ea3cdfb7c6cf596e21c0b02774f62e070b829a8d0bd7a0e3847873c9393f1b139112517fd990300ff55c1e6c8640fb5d63bce011fb39bfc415268956638f644c7d4859ff03e1a768ae713a9a73586432424952585308be9c639299a3635e262c9fdd4982372262140c8e96abb1b64a0df55b7ff3ed8dbc93bccae2130feed2d3f97215449eb494ac4730c38ae0abfffd1a23fda308f54eed825bd1fd023bf53098d3c8a795119c464969ab165dfaeab68b11c91682e238a12d9c2dcad7caadb29f52416f5aca44e4631738d867dda9843a137421ff67f44beec1a2ac054797a67c23974610dd0d5c19a231aa900194babcafb54be79988045526e29d5d4a2ecf992d27e976f8ab8a6478f13a9d03289a31aec57c3cb5c43350040de274c3b6b357b2003cd1eb37e0092758b oH.eq_1 ?_
 repeat'(first
  |(with_reducible first|exact dj|refine cj ?_ ?_|refine dw ?_|refine aN (fun _(h:cZ s_0 (bg.mk [45])=some _)=>(kK nq h:)) (fun r4=>?_)|refine aN (fun _(h:cZ s_0 (bg.mk [43])=some _)=>(kK nq h:)) (fun r5=>?_)|refine aN (fun _(h:nn Kf (bg.mk [46])=some _)=>(kK ED h:)) (fun r6=>?_)|refine jT rfl (fun _(h:oi r6.1=some _)=>(kK DD h:)) (fun _=>rfl) (fun r7=>?_)|refine jT rfl (fun _(h:oi r6.2.1=some _)=>(kK DD h:)) (fun _=>rfl) (fun r8=>?_))
  |((fail_if_success (have _x:=r9));with_reducible refine aN (fun _ h=>(kK wm h:)) (fun r9=>?_))
  |(with_reducible first|refine aN (fun _(h:jJ r6.2.1=some _)=>(kK yN h:)) (fun r10=>?_)|refine aN (fun _(h:oG (aa.mk 3 (aC (Es*(aC ((aC (r9.1*1000000))+r10)))) (bg.mk []) ([]:List aa))=some _)=>(by refine HU ?_ ((kK Je h:));simp -implicitDefEqProofs only[go_sem,seval])) (fun r11=>?_))
  |((with_reducible refine dT (fun((Es,Kf):Int×bg)=>⟨[(2,.loc [.int .i64 0,.int .i64 0,.str (bg.mk []).b,.sl true 4 0 []]),(4,.int .i64 Es),(5,.str Kf.b)],[],s⟩) (fun J=>?_) ?_);rotate_left;rintro⟨Es,Kf⟩)
  |refine Xe4 ?_|exact Xf8)
def gI(s_0:aq):Option (aH×Int×aq):=
 aZ (gV s_0) fun r1=>
 if !r1.2.1 then
  some ((aH.mk 0 0 0 (aa.mk 0 0 (bg.mk []) ([]:List aa)) (bg.mk [])),6,r1.2.2)
 else
  a8 (0<=(0:Int)/\(0:Int)<r1.1.b.length)<|
  if((((decide (((ix r1.1.b 0).toNat:Int)>=48))&&(decide (((ix r1.1.b 0).toNat:Int)<=57)))||(((ix r1.1.b 0).toNat:Int)==43))||(((ix r1.1.b 0).toNat:Int)==45))||(((ix r1.1.b 0).toNat:Int)==46)then
   aZ (oH r1.1) fun r2=>
   some ((aH.mk 1 0 0 r2.1 (bg.mk [])),r2.2,r1.2.2)
  else
   some ((aH.mk 6 0 0 (aa.mk 0 0 (bg.mk []) ([]:List aa)) r1.1),0,r1.2.2)
def ub{s_0}{B0:Nat}{s:ae}{Q:List AV->ae->Prop}(hB0:s B0=some (.cells (vu B0 s_0))):ok (gI s_0) (fun r=>Q [.agg [.int .i64 r.1.Kind,.int .i64 r.1.aP,.int .i64 r.1.To,.int .i64 r.1.V.Kind,.int .i64 r.1.V.N,.str r.1.V.S.b,sF 4 r.1.V.L,.str r.1.S.b],.int .i64 r.2.1] (s.set B0 (.cells (vu B0 r.2.2))))->FN prog 200 [.ref B0 0] s Q:=by
 rw[<-aU hB0]
 refine FR 47 [⟨2,false,some (8,true)⟩,⟨3,true,none⟩] 0xb227c2a0210221188422121472a5e552b67fdcbe4fd5ecf838ccf9ea03e7ff4b183da55765caf076cb7ef86621aafe1421403a3a477749e17c59b2ba17c9d0ccb6ddf8e7c33188bbd671c8f6017fe7f53e5bfb449826837664c3e1ef6c5af91ceb22131224e2905739908a21bcd5549c4cdbc3eab58e80b3dccebbdc1e377b985fb9fb08a68c070ba79a056e8ebf446687fea823032a39bea720c06efd07d2489efd60ec9fcb9809d0712ffcaff2cefd7822dfd51d538fe124cafdb1b76150c7c75416103d556f340b8b377b7b2003defd1eb37e000000010bf58b gI.eq_1 ?_
 repeat'(first
  |(with_reducible first|exact dj|refine cj ?_ ?_|refine dw ?_|refine fun hh=>rh (B0:=B0) DO (aJ (show ok (gV s_0) _ from hh) fun r1=>?_)|refine aN (fun _(h:oH r1.1=some _)=>(kK Jf h:)) (fun r2=>?_))
  |refine Xe4 ?_|exact Xf8)
def bS(s_0:aq):Option (UInt8×Bool):=
 if decide (s_0.at_>=(s_0.b_.length:Int))then
  some (0,false)
 else
  a8 (0<=s_0.at_/\s_0.at_<s_0.b_.length)<|
  some (ix s_0.b_ s_0.at_,true)
def zY{s_0}{B0:Nat}{s:ae}{Q:List AV->ae->Prop}(hB0:s B0=some (.cells (vu B0 s_0))):ok (bS s_0) (fun r=>Q [.int .u8 r.1.toNat,.bool r.2] s)->FN prog 227 [.ref B0 0] s Q:=by
 rw[<-aU hB0]
 exact FC 24 [⟨2,true,none⟩,⟨3,true,none⟩] 0x60e09abf77c0315b8f48bfb8c26cb677cacab4725a967fb59b2cb64d1c3dc4c21b8f0525e70d58717e74abfc8b4b3a327350d1682b3c28b426f2040e5e82b8c04647a061b3cc798478b bS.eq_1
def e7{s_0}{B0:Nat}{s:ae}{r:UInt8×Bool}(hB0:s B0=some (.cells (vu B0 s_0)))(h:bS s_0=some r):FE prog 227 [.ref B0 0] s [.int .u8 r.1.toNat,.bool r.2] s:=zY hB0 ⟨r,h,rfl,rfl⟩
def cM(s_0:aq):Option (Int):=
 if s_0.aR then
  some 10
 else
  some 6
def zX{s_0}{B0:Nat}{s:ae}{Q:List AV->ae->Prop}(hB0:s B0=some (.cells (vu B0 s_0))):ok (cM s_0) (fun r=>Q [.int .i64 r] s)->FN prog 228 [.ref B0 0] s Q:=by
 rw[<-aU hB0]
 exact FC 7 [⟨2,true,none⟩] 0x6de8cfafaf9a6b582a0ce164a71a2564f4e3327d0a5a1ffcc00473a cM.eq_1
def iB{s_0}{B0:Nat}{s:ae}{r:Int}(hB0:s B0=some (.cells (vu B0 s_0)))(h:cM s_0=some r):FE prog 228 [.ref B0 0] s [.int .i64 r] s:=zX hB0 ⟨r,h,rfl,rfl⟩
def jv(c_0:UInt8):Option (Int):=
 if(decide ((c_0.toNat:Int)>=48))&&(decide ((c_0.toNat:Int)<=57))then
  some (aC (((jt ((c_0.toNat:Int) -48)).toNat:Int)))
 else
  if(decide ((c_0.toNat:Int)>=97))&&(decide ((c_0.toNat:Int)<=102))then
   some (aC ((aC (((jt ((c_0.toNat:Int) -97)).toNat:Int)))+10))
  else
   if(decide ((c_0.toNat:Int)>=65))&&(decide ((c_0.toNat:Int)<=70))then
    some (aC ((aC (((jt ((c_0.toNat:Int) -65)).toNat:Int)))+10))
   else
    some (-1)
def pn{c_0}:FF 234 [.int .u8 c_0.toNat] (jv c_0) fun r=>[.int .i64 r]:=by
 intro s Q
 exact FC 35 [⟨2,true,none⟩] 0x5a7bd2a41efd5a2161ca771502a54e61b61d5ab55437fd2d052d067a36be29109bbfde59c0fd8257a7228325a2ea349fcc8df4b4f4deace82e9afc7a080c70671002d9eef29ec5912f3c1d5e492436c17f9ef4a1a89fac9b51705da339480f0a5950f28b4cb7180edf9779b99455ad888c66ffa2ff46d99f8deb822fe12dfcc00473a jv.eq_1
def gj(s_0:aq):Option (aa×Int×aq):=
 iter (fun((vX,o2):Int×aq)=>
  aZ (bS o2) fun r6=>
  if !r6.2 then
   aZ (cM o2) fun r7=>
   some (.inr ((aa.mk 0 0 (bg.mk []) ([]:List aa)),r7,o2))
  else
   aZ (jv r6.1) fun r8=>
   zj (
    if((r6.1.toNat:Int)==62)&&(decide (vX>=0))then
     aZ (aG o2.Builder (jt (aC (16*vX)))) fun r15=>
     aZ (bT r15.2) fun r16=>
     some (.inr ((aa.mk 4 0 r16.1 ([]:List aa)),(0:Int),(aq.mk r16.2 o2.b_ (aC (o2.at_+1)) o2.aR)))
    else
     if(r6.1.toNat:Int)==62 then
      aZ (bT o2.Builder) fun r17=>
      some (.inr ((aa.mk 4 0 r17.1 ([]:List aa)),(0:Int),(aq.mk r17.2 o2.b_ (aC (o2.at_+1)) o2.aR)))
     else
      aZ (jX r6.1) fun r18=>
      if r18 then
       some (.inl (vX,(aq.mk o2.Builder o2.b_ (aC (o2.at_+1)) o2.aR)))
      else
       if decide (r8<0)then
        some (.inr ((aa.mk 0 0 (bg.mk []) ([]:List aa)),(11:Int),(aq.mk o2.Builder o2.b_ (aC (o2.at_+1)) o2.aR)))
       else
        if decide (vX<0)then
         some (.inl (r8,(aq.mk o2.Builder o2.b_ (aC (o2.at_+1)) o2.aR)))
        else
         aZ (aG o2.Builder (jt (aC ((aC (16*vX))+r8)))) fun r19=>
         some (.inl ((-1),(aq.mk r19.2 o2.b_ (aC (o2.at_+1)) o2.aR)))) (fun((II,o11):Int×aq)=>
    some (.inl (II,o11)))
   (fun((t12,t13,o14):aa×Int×aq)=>some (.inr (t12,t13,o14)))) ((-1),s_0)
def yB{s_0}{B0:Nat}{s:ae}{Q:List AV->ae->Prop}(hB0:s B0=some (.cells (vu B0 s_0))):ok (gj s_0) (fun r=>Q [.agg (M1 r.1),.int .i64 r.2.1] (s.set B0 (.cells (vu B0 r.2.2))))->FN prog 229 [.ref B0 0] s Q:=by
 rw[<-aU hB0]
 refine FR 74 [⟨2,false,some (4,true)⟩,⟨3,true,none⟩] 0x29d6595f431f0628ab439b05aea27664ae0b772be271ffefdf31544b790d51d692bd281561d28107eec488f0142cdeb840973758b1a150b8f0081e09ac22e654bd138338b4df3f6437d7a1c5b99e2cc4961536ca25b48d3245dfc938ba3f113868f4c66d666e5fef5b1ed9ee1fff50be9e830f5b04bbda0b1667a65d40dc3b46327d67f972fdf6588ab28b72e0a2482d06581057860b02368f29e1b896ed5497b8f41182f77d4a69cf8a8e57c57690e6599e093ca2e2bc3e386417b0e46e7fbf4149e9c7d96b890ca0f161886b56cf01c7bb59cdc9e16308d86aaa1b3d8e7e71f8feebdd9abfc4830b1427c665fc6f2f968a3fb1589b5577bccfa72dfbbfb4225040dbc732a891c9f5b53ce5448cd05775de3c0d6a95d894992e62f672f83603e32f651f17804a5809b3adc3ffed8d24cefaf1223d5017dbb359e84938bac7b2003cd1eb37e0092758b gj.eq_1 ?_
 repeat'(first
  |(with_reducible first|exact dj|refine cj ?_ ?_|refine dw ?_|refine aN (fun _(h:bS o2=some _)=>e7 (B0:=B0) DO h) (fun r6=>?_)|refine aN (fun _(h:cM o2=some _)=>iB (B0:=B0) DO h) (fun r7=>?_)|refine aN (fun _(h:jv r6.1=some _)=>(kK pn h:)) (fun r8=>?_)|refine fun hh=>gx P_ (b8 (B0:=B0) (preB0:=[]) (postB0:=[sF 1 o2.b_,.int .i64 (aC (o2.at_+1)),.bool o2.aR]) (TB0:=245) DO GU kC (aJ (show ok (aG o2.Builder (jt (aC (16*vX)))) _ from hh) fun r15=>?_))|refine fun hh=>gx P_ (gr (B0:=B0) (preB0:=[]) (postB0:=[sF 1 o2.b_,.int .i64 (aC (o2.at_+1)),.bool o2.aR]) (TB0:=245) DO GU kC (aJ (show ok (bT r15.2) _ from hh) fun r16=>?_))|refine fun hh=>gx P_ (gr (B0:=B0) (preB0:=[]) (postB0:=[sF 1 o2.b_,.int .i64 (aC (o2.at_+1)),.bool o2.aR]) (TB0:=245) DO GU kC (aJ (show ok (bT o2.Builder) _ from hh) fun r17=>?_))|refine aN (fun _(h:jX r6.1=some _)=>(kK se h:)) (fun r18=>?_)|refine fun hh=>gx P_ (b8 (B0:=B0) (preB0:=[]) (postB0:=[sF 1 o2.b_,.int .i64 (aC (o2.at_+1)),.bool o2.aR]) (TB0:=245) DO GU kC (aJ (show ok (aG o2.Builder (jt (aC ((aC (16*vX))+r8)))) _ from hh) fun r19=>?_)))
  |((with_reducible refine eF (fun((II,o11):Int×aq)=>⟨[(0,.ref B0 0),(2,.loc [.int .i64 0,.int .i64 0,.str (bg.mk []).b,.sl true 4 0 []]),(4,.int .i64 II)],[],(s.set B0 (.cells (vu B0 o11)))⟩) (fun J=>?_) ?_);rotate_left;rintro⟨II,o11⟩)
  |((with_reducible refine yA (fun((vX,o2):Int×aq)=>⟨[(0,.ref B0 0),(2,.loc [.int .i64 0,.int .i64 0,.str (bg.mk []).b,.sl true 4 0 []]),(4,.int .i64 vX)],[],(s.set B0 (.cells (vu B0 o2)))⟩) ?_ ?_);(first|exact rfl|simp -implicitDefEqProofs only[go_sem,seval]);rintro J ⟨vX,o2⟩)
  |refine Xe4 ?_|exact Xf8)
def iC(s_0:aq):Option (aH×Int×aq):=
 aZ (bS s_0) fun r1=>
 if !r1.2 then
  aZ (cM s_0) fun r2=>
  some ((aH.mk 0 0 0 (aa.mk 0 0 (bg.mk []) ([]:List aa)) (bg.mk [])),r2,s_0)
 else
  if(r1.1.toNat:Int)==60 then
   some ((aH.mk 4 0 0 (aa.mk 0 0 (bg.mk []) ([]:List aa)) (bg.mk [])),0,(aq.mk s_0.Builder s_0.b_ (aC (s_0.at_+1)) s_0.aR))
  else
   aZ (gj s_0) fun r3=>
   some ((aH.mk 1 0 0 r3.1 (bg.mk [])),r3.2.1,r3.2.2)
def vI{s_0}{B0:Nat}{s:ae}{Q:List AV->ae->Prop}(hB0:s B0=some (.cells (vu B0 s_0))):ok (iC s_0) (fun r=>Q [.agg [.int .i64 r.1.Kind,.int .i64 r.1.aP,.int .i64 r.1.To,.int .i64 r.1.V.Kind,.int .i64 r.1.V.N,.str r.1.V.S.b,sF 4 r.1.V.L,.str r.1.S.b],.int .i64 r.2.1] (s.set B0 (.cells (vu B0 r.2.2))))->FN prog 201 [.ref B0 0] s Q:=by
 rw[<-aU hB0]
 refine FR 36 [⟨2,false,some (8,true)⟩,⟨3,true,none⟩] 0x149b1c16ce515582be034be5e186f05420f1e918de920ee82a52e970a67ab7b32a741e6290c91e50ce9978065f8db2dc97932280824222c9dcb397dcf2cdd0e0c73ba9392836c2f1890d1aa4b087bff2ce813c74f3d447d4c3b2ceedde67b65799473455292196cedebf1d0ddad4df60b6fd15bfc9bb04cd0049ae7c00375409c16b40712ffcb0277973482926ee6c7aff41e6c0a34c583b50c7c74f86587cae26755eb4b81b7b2003defd1eb37e000000010bf58b iC.eq_1 ?_
 repeat'(first
  |(with_reducible first|exact dj|refine cj ?_ ?_|refine dw ?_|refine aN (fun _(h:bS s_0=some _)=>e7 (B0:=B0) DO h) (fun r1=>?_)|refine aN (fun _(h:cM s_0=some _)=>iB (B0:=B0) DO h) (fun r2=>?_)|refine fun hh=>yB (B0:=B0) DO (aJ (show ok (gj s_0) _ from hh) fun r3=>?_))
  |refine Xe4 ?_|exact Xf8)
def iA(s_0:aq):Option (aH×Int×aq):=
 aZ (bS s_0) fun r1=>
 if(!r1.2)&&(!s_0.aR)then
  some ((aH.mk 0 0 0 (aa.mk 0 0 (bg.mk []) ([]:List aa)) (bg.mk [])),6,s_0)
 else
  if(!r1.2)||((r1.1.toNat:Int)!=62)then
   some ((aH.mk 0 0 0 (aa.mk 0 0 (bg.mk []) ([]:List aa)) (bg.mk [])),11,s_0)
  else
   some ((aH.mk 5 0 0 (aa.mk 0 0 (bg.mk []) ([]:List aa)) (bg.mk [])),0,(aq.mk s_0.Builder s_0.b_ (aC (s_0.at_+1)) s_0.aR))
def vH{s_0}{B0:Nat}{s:ae}{Q:List AV->ae->Prop}(hB0:s B0=some (.cells (vu B0 s_0))):ok (iA s_0) (fun r=>Q [.agg [.int .i64 r.1.Kind,.int .i64 r.1.aP,.int .i64 r.1.To,.int .i64 r.1.V.Kind,.int .i64 r.1.V.N,.str r.1.V.S.b,sF 4 r.1.V.L,.str r.1.S.b],.int .i64 r.2.1] (s.set B0 (.cells (vu B0 r.2.2))))->FN prog 202 [.ref B0 0] s Q:=by
 rw[<-aU hB0]
 refine FR 38 [⟨2,false,some (8,true)⟩,⟨3,true,none⟩] 0x186bf35c26df60152f2d85747f7198053e2a40f77ebd21216520994862f3df1efa74f01a1b219f63209aefdf40977a9042966b40ab36bef4d2324e9115accda2c7d506c589725d7ac764b11547226b7e58a280dfe60a5c5070add25e92cd97f9a65da99c0047a071c08b97aa127eaa70b8200f87067c9118b5abe78afd8c7eee0454c133939233400d176daa3a082412f50c7c74666e8fb5eda755e07b95b7b2003defd1eb37e000000010bf58b iA.eq_1 ?_
 repeat'(first
  |with_reducible refine aN (fun _(h:bS s_0=some _)=>e7 (B0:=B0) DO h) (fun r1=>?_)
  |refine Xe4 ?_|exact Xf8)
def gk(s_0:aq)(c_1:UInt8):Option (Bool×aq):=
 zj (
  nV (
   iter (fun((n5,k6,o7):Int×Int×aq)=>
    if decide (k6<2)then
     aZ (bS o7) fun r12=>
     if !r12.2 then
      if o7.aR then
       aZ (aG o7.Builder (jt (n5))) fun r13=>
       some (.inr (.inr (o7.aR||false,(aq.mk r13.2 o7.b_ o7.at_ o7.aR))))
      else
       some (.inr (.inr (o7.aR||false,o7)))
     else
      if(decide ((r12.1.toNat:Int)<48))||(decide ((r12.1.toNat:Int)>55))then
       some (.inr (.inl (n5,o7)))
      else
       some (.inl (aC ((aC (8*n5))+(aC (((jt ((r12.1.toNat:Int) -48)).toNat:Int)))),aC (k6+1),(aq.mk o7.Builder o7.b_ (aC (o7.at_+1)) o7.aR)))
    else
     some (.inr (.inl (n5,o7)))) (aC (((jt ((c_1.toNat:Int) -48)).toNat:Int)),0,s_0)) (fun((n8,o9):Int×aq)=>
   some (.inl (n8,o9)))
  (fun((t10,o11):Bool×aq)=>some (.inr (t10,o11)))) (fun((n1,o2):Int×aq)=>
  aZ (aG o2.Builder (jt (n1))) fun r14=>
  some (true,(aq.mk r14.2 o2.b_ o2.at_ o2.aR)))
 (fun((t3,o4):Bool×aq)=>some (t3,o4))
def yC{s_0 c_1}{B0:Nat}{s:ae}{Q:List AV->ae->Prop}(hB0:s B0=some (.cells (vu B0 s_0))):ok (gk s_0 c_1) (fun r=>Q [.bool r.1] (s.set B0 (.cells (vu B0 r.2))))->FN prog 261 [.ref B0 0,.int .u8 c_1.toNat] s Q:=by
 rw[<-aU hB0]
 refine FR 62 [⟨4,true,none⟩] 0x125a7b24e07062b47a13a5da0dec95b7d71775a850e049c560d3010f5893f04bcbb9e310501fcd6a686839a7de0c4fa36894c4a14b3b31093bc8ab396fd6617e77de3f12b3e7d7ef94ca3146be1063e9081701cdb9f9cdc64ce013a0198c940b680736d4fa4326ec61c43c1b63dcb07a9d38e84f023b8ee6e13a6f183e54805ab93849eda10a1ef1a2e145403bc1ccdd08719f5864fb77c8f895eb23e612b2c9d547e4bd42f7fa5fa8a6aadf7762db5ebb8d8cf435f4ca6d736d3466c5e1b147dcad1db95911d653dfe4cd6a14335263d4cd5a9944e483fa gk.eq_1 ?_
 repeat'(first
  |((fail_if_success (have _x:=hgG1));(have _x:=o7.aR);clear _x;cases hgG1:o7.aR)
  |(with_reducible first|exact dj|refine cj ?_ ?_|refine dw ?_|refine aN (fun _(h:bS o7=some _)=>e7 (B0:=B0) Xd1 h) (fun r12=>?_)|refine fun hh=>gx P_ (b8 (B0:=B0) (preB0:=[]) (postB0:=[sF 1 o7.b_,.int .i64 o7.at_,.bool o7.aR]) (TB0:=245) Xd1 GU kC (aJ (show ok (aG o7.Builder (jt (n5))) _ from hh) fun r13=>?_))|refine fun hh=>gx P_ (b8 (B0:=B0) (preB0:=[]) (postB0:=[sF 1 o2.b_,.int .i64 o2.at_,.bool o2.aR]) (TB0:=245) Xd1 GU kC (aJ (show ok (aG o2.Builder (jt (n1))) _ from hh) fun r14=>?_)))
  |((with_reducible refine cY (fun((n5,k6,o7):Int×Int×aq)=>⟨[(0,.ref B0 0),(5,.int .i64 n5),(6,.int .i64 k6)],[],(s.set B0 (.cells (vu B0 o7)))⟩) ?_ ?_);(first|exact rfl|simp -implicitDefEqProofs only[go_sem,seval]);rintro J ⟨n5,k6,o7⟩)
  |((with_reducible refine eF (fun((n1,o2):Int×aq)=>⟨[(0,.ref B0 0),(5,.int .i64 n1)],[],(s.set B0 (.cells (vu B0 o2)))⟩) (fun J=>?_) ?_);rotate_left;rintro⟨n1,o2⟩)
  |simp -implicitDefEqProofs only[go_sem,seval,hgG1,Bool.false_eq_true,if_false,if_true,Bool.true_eq_false,false_implies,true_implies,true_and,and_true]
  |refine Xe4 ?_|exact Xf8)
def du(s_0:aq)(c_1:UInt8):Option (Bool×aq):=
 if(c_1.toNat:Int)!=13 then
  some (true,s_0)
 else
  aZ (bS s_0) fun r1=>
  jn (
   if r1.2&&((r1.1.toNat:Int)==10)then
    some (aq.mk s_0.Builder s_0.b_ (aC (s_0.at_+1)) s_0.aR)
   else
    some s_0) fun(o3:aq)=>
  some (r1.2||o3.aR,o3)
def re{s_0 c_1}{B0:Nat}{s:ae}{Q:List AV->ae->Prop}(hB0:s B0=some (.cells (vu B0 s_0))):ok (du s_0 c_1) (fun r=>Q [.bool r.1] (s.set B0 (.cells (vu B0 r.2))))->FN prog 231 [.ref B0 0,.int .u8 c_1.toNat] s Q:=by
 rw[<-aU hB0]
 refine FR 33 [⟨4,true,none⟩] 0x877bb49e7de0d36a9887f05a2dda635c4c29ea66aa84f1da6c62395301c2d036752edad43553a9a135f67b2ffe4f40907dad0d3a911d5ee7da93f1ff0d37743e9f3357b85bb5a969c6865207ac37fa32c9b68a425d31d0fc8f2352d069ca144e483fa du.eq_1 ?_
 repeat'(first
  |(with_reducible first|exact dj|refine cj ?_ ?_|refine dw ?_|refine aN (fun _(h:bS s_0=some _)=>e7 (B0:=B0) DO h) (fun r1=>?_))
  |((with_reducible refine dT (fun(o3:aq)=>⟨[(0,.ref B0 0),(6,.bool r1.2)],[],(s.set B0 (.cells (vu B0 o3)))⟩) (fun J=>?_) ?_);rotate_left;rintro o3)
  |refine Xe4 ?_|exact Xf8)
def dt(s_0:aq):Option (Bool×aq):=
 aZ (bS s_0) fun r1=>
 if !r1.2 then
  some (false,s_0)
 else
  aZ (dU (bg.mk [110,114,116,98,102]) r1.1) fun r2=>
  if decide (r2>=0)then
   a8 (0<=r2/\r2<(bg.mk [10,13,9,8,12]).b.length)<|
   aZ (aG s_0.Builder (ix (bg.mk [10,13,9,8,12]).b r2)) fun r3=>
   some (true,(aq.mk r3.2 s_0.b_ (aC (s_0.at_+1)) s_0.aR))
  else
   if(decide ((r1.1.toNat:Int)>=48))&&(decide ((r1.1.toNat:Int)<=55))then
    aZ (gk (aq.mk s_0.Builder s_0.b_ (aC (s_0.at_+1)) s_0.aR) r1.1) fun r4=>
    some (r4.1,r4.2)
   else
    if((r1.1.toNat:Int)==10)||((r1.1.toNat:Int)==13)then
     aZ (du (aq.mk s_0.Builder s_0.b_ (aC (s_0.at_+1)) s_0.aR) r1.1) fun r5=>
     some (r5.1,r5.2)
    else
     aZ (aG s_0.Builder r1.1) fun r6=>
     some (true,(aq.mk r6.2 s_0.b_ (aC (s_0.at_+1)) s_0.aR))
def xe{s_0}{B0:Nat}{s:ae}{Q:List AV->ae->Prop}(hB0:s B0=some (.cells (vu B0 s_0))):ok (dt s_0) (fun r=>Q [.bool r.1] (s.set B0 (.cells (vu B0 r.2))))->FN prog 230 [.ref B0 0] s Q:=by
 rw[<-aU hB0]
 refine FR 55 [⟨2,true,none⟩] 0x25b7dbf4bf4044e81f06e43804c535ff0f47244ad02c5a5964916e28489c70c2353c0080bb224287484c6232a23f760909e86da3b2004988a1c238fc7b8b3af05f9d5926a417711a1d0d1626be8f586b48c23981a30f70face77c599428dfaf7490a93996829e34f6bfb1bf21efae3a2d5282b1ab53a42c94ea9ea1096c4fc54050f12af17a9aed48b721f7f1cffc3c436429a51c9297c2fd5611d9b13beb6c648172d53423f2d3e31212ad986e46afa3df4fb367a91cb6306ccd2534d9a1ffb82fe106bc8e59b333e14f29234641614c04824473a dt.eq_1 ?_
 repeat'(first
  |(with_reducible first|exact dj|refine cj ?_ ?_|refine dw ?_|refine aN (fun _(h:bS s_0=some _)=>e7 (B0:=B0) DO h) (fun r1=>?_)|refine aN (fun _(h:dU (bg.mk [110,114,116,98,102]) r1.1=some _)=>(kK nr h:)) (fun r2=>?_)|refine fun hh=>gx P_ (b8 (B0:=B0) (preB0:=[]) (postB0:=[sF 1 s_0.b_,.int .i64 (aC (s_0.at_+1)),.bool s_0.aR]) (TB0:=245) DO GU kC (aJ (show ok (aG s_0.Builder (ix (bg.mk [10,13,9,8,12]).b r2)) _ from hh) fun r3=>?_))|refine fun hh=>yC (B0:=B0) DO (aJ (show ok (gk (aq.mk s_0.Builder s_0.b_ (aC (s_0.at_+1)) s_0.aR) r1.1) _ from hh) fun r4=>?_)|refine fun hh=>re (B0:=B0) DO (aJ (show ok (du (aq.mk s_0.Builder s_0.b_ (aC (s_0.at_+1)) s_0.aR) r1.1) _ from hh) fun r5=>?_)|refine fun hh=>gx P_ (b8 (B0:=B0) (preB0:=[]) (postB0:=[sF 1 s_0.b_,.int .i64 (aC (s_0.at_+1)),.bool s_0.aR]) (TB0:=245) DO GU kC (aJ (show ok (aG s_0.Builder r1.1) _ from hh) fun r6=>?_)))
  |refine Xe4 ?_|exact Xf8)
def gU(s_0:aq):Option (aa×Int×aq):=
 iter (fun((AM,o2):Int×aq)=>
  aZ (bS o2) fun r6=>
  if !r6.2 then
   aZ (cM o2) fun r7=>
   some (.inr ((aa.mk 0 0 (bg.mk []) ([]:List aa)),r7,o2))
  else
   zj (
    if(r6.1.toNat:Int)==92 then
     aZ (dt (aq.mk o2.Builder o2.b_ (aC (o2.at_+1)) o2.aR)) fun r18=>
     if !r18.1 then
      aZ (cM r18.2) fun r19=>
      some (.inr (.inr (r19,r18.2)))
     else
      some (.inr (.inl r18.2))
    else
     if(r6.1.toNat:Int)==13 then
      aZ (du (aq.mk o2.Builder o2.b_ (aC (o2.at_+1)) o2.aR) r6.1) fun r20=>
      if !r20.1 then
       aZ (cM r20.2) fun r21=>
       some (.inr (.inr (r21,r20.2)))
      else
       some (.inl (AM,10,r20.2))
     else
      if(r6.1.toNat:Int)==40 then
       some (.inl (aC (AM+1),r6.1,(aq.mk o2.Builder o2.b_ (aC (o2.at_+1)) o2.aR)))
      else
       if(r6.1.toNat:Int)==41 then
        some (.inl (aC (AM -1),r6.1,(aq.mk o2.Builder o2.b_ (aC (o2.at_+1)) o2.aR)))
       else
        some (.inl (AM,r6.1,(aq.mk o2.Builder o2.b_ (aC (o2.at_+1)) o2.aR)))) (fun((KB,c10,o11):Int×UInt8×aq)=>
    if KB==0 then
     aZ (bT o11.Builder) fun r22=>
     some (.inr ((aa.mk 4 0 r22.1 ([]:List aa)),(0:Int),(aq.mk r22.2 o11.b_ o11.at_ o11.aR)))
    else
     aZ (aG o11.Builder c10) fun r23=>
     some (.inl (KB,(aq.mk r23.2 o11.b_ o11.at_ o11.aR))))
   (jg (fun(o14:aq)=>some (.inl (AM,o14))) (fun((t16,o17):Int×aq)=>some (.inr ((aa.mk 0 0 (bg.mk []) ([]:List aa)),t16,o17))))) (1,s_0)
def zZ{s_0}{B0:Nat}{s:ae}{Q:List AV->ae->Prop}(hB0:s B0=some (.cells (vu B0 s_0))):ok (gU s_0) (fun r=>Q [.agg (M1 r.1),.int .i64 r.2.1] (s.set B0 (.cells (vu B0 r.2.2))))->FN prog 203 [.ref B0 0] s Q:=by
 rw[<-aU hB0]
 refine FR 62 [⟨2,false,some (4,true)⟩,⟨3,true,none⟩] 0x2a18a574446bb54b1472e9c7496729d70302b46bf234b2d89f5f3596df3d6d78296a8c9b8c35089c0d3ee835d76c7f7ea03e42d9a05b1bfa88417d1b93ba4723b06628702e9d3caec4a60ac059239202050de69e8d19e87a1421aeb31b9e0705a70cb2365d1395aa3eb57b7dc62d15ed757fa05cb7e18107c971f8e824a12e2ed0dcb67a2129c0ee389f3c2d9070ddd0905fff117d29fd398e7dea02cbc2cf0c0cb44b2c16dd8b0598fec26579a323cbf046963f7f48f90b2c29c1c50f8622ed891cb6e66e0f6e5a8428ca96857e951bd2ec7181d607ff5e0f5aadbcc1b754012a6e8c8a78bc74b2595f74a07f792763cf31506fa9272dfbbfb42244fad6a1a227720d8044e109448cd05775de3c0d6a95d85d0d5c5f1743919a08ff330a29ae87e65ba1b3925dc826ed1e0b10e98ff8659847d291e84938bac7b2003cd1eb37e0092758b gU.eq_1 ?_
 repeat'(first
  |(with_reducible first|exact dj|refine cj ?_ ?_|refine dw ?_|refine aN (fun _(h:bS o2=some _)=>e7 (B0:=B0) DO h) (fun r6=>?_)|refine aN (fun _(h:cM o2=some _)=>iB (B0:=B0) DO h) (fun r7=>?_)|refine fun hh=>xe (B0:=B0) DO (aJ (show ok (dt (aq.mk o2.Builder o2.b_ (aC (o2.at_+1)) o2.aR)) _ from hh) fun r18=>?_)|refine aN (fun _(h:cM r18.2=some _)=>iB (B0:=B0) DO h) (fun r19=>?_)|refine fun hh=>re (B0:=B0) DO (aJ (show ok (du (aq.mk o2.Builder o2.b_ (aC (o2.at_+1)) o2.aR) r6.1) _ from hh) fun r20=>?_)|refine aN (fun _(h:cM r20.2=some _)=>iB (B0:=B0) DO h) (fun r21=>?_)|refine fun hh=>gx P_ (gr (B0:=B0) (preB0:=[]) (postB0:=[sF 1 o11.b_,.int .i64 o11.at_,.bool o11.aR]) (TB0:=245) DO GU kC (aJ (show ok (bT o11.Builder) _ from hh) fun r22=>?_))|refine fun hh=>gx P_ (b8 (B0:=B0) (preB0:=[]) (postB0:=[sF 1 o11.b_,.int .i64 o11.at_,.bool o11.aR]) (TB0:=245) DO GU kC (aJ (show ok (aG o11.Builder c10) _ from hh) fun r23=>?_)))
  |((with_reducible refine eF (fun((KB,c10,o11):Int×UInt8×aq)=>⟨[(0,.ref B0 0),(2,.loc [.int .i64 0,.int .i64 0,.str (bg.mk []).b,.sl true 4 0 []]),(4,.int .i64 KB),(5,.int .u8 c10.toNat)],[],(s.set B0 (.cells (vu B0 o11)))⟩) (fun J=>?_) ?_);rotate_left;rintro⟨KB,c10,o11⟩)
  |((with_reducible refine yA (fun((AM,o2):Int×aq)=>⟨[(0,.ref B0 0),(2,.loc [.int .i64 0,.int .i64 0,.str (bg.mk []).b,.sl true 4 0 []]),(4,.int .i64 AM)],[],(s.set B0 (.cells (vu B0 o2)))⟩) ?_ ?_);(first|exact rfl|simp -implicitDefEqProofs only[go_sem,seval]);rintro J ⟨AM,o2⟩)
  |refine Xe4 ?_|exact Xf8)
def po(w_0:bg):Option (aa×Int):=
 zj (
  nV (
   iter (fun((N9,i6):(List UInt8)×Int)=>
    if decide (i6<(w_0.b.length:Int))then
     a8 (0<=i6/\i6<w_0.b.length)<|
     zj (
      if((ix w_0.b i6).toNat:Int)==35 then
       a8 ((!(decide (aC (i6+2)>=(w_0.b.length:Int))))=true->0<=aC (i6+1)/\aC (i6+1)<w_0.b.length)<|
       aZ (kc (!(decide (aC (i6+2)>=(w_0.b.length:Int)))) 0 (jv (ix w_0.b (aC (i6+1))))) fun r18=>
       a8 ((!((decide (aC (i6+2)>=(w_0.b.length:Int)))||(decide (r18<0))))=true->0<=aC (i6+2)/\aC (i6+2)<w_0.b.length)<|
       aZ (kc (!((decide (aC (i6+2)>=(w_0.b.length:Int)))||(decide (r18<0)))) 0 (jv (ix w_0.b (aC (i6+2))))) fun r19=>
       if((decide (aC (i6+2)>=(w_0.b.length:Int)))||(decide (r18<0)))||(decide (r19<0))then
        some (.inr (17:Int))
       else
        a8 (0<=aC (i6+1)/\aC (i6+1)<w_0.b.length)<|
        aZ (jv (ix w_0.b (aC (i6+1)))) fun r20=>
        a8 (0<=aC (i6+2)/\aC (i6+2)<w_0.b.length)<|
        aZ (jv (ix w_0.b (aC (i6+2)))) fun r21=>
        some (.inl (aC (i6+2),jt (aC ((aC (16*r20))+r21))))
      else
       some (.inl (i6,ix w_0.b i6))) (fun((i14,c15):Int×UInt8)=>
      a8 ((N9.length+[c15].length)*1<=room)<|
      some (.inl (N9++[c15],aC (i14+1))))
     (fun(t17:Int)=>some (.inr (.inr t17)))
    else
     some (.inr (.inl N9))) (([]:List UInt8),0)) (fun(ak2:(List UInt8))=>
   some (.inl ak2))
  (fun(t10:Int)=>some (.inr t10))) (fun(yR:(List UInt8))=>
  aZ (kc (!(decide ((yR.length:Int)>127))) 0 (fB yR 0)) fun r22=>
  if(decide ((yR.length:Int)>127))||(decide (r22>=0))then
   some ((aa.mk 0 0 (bg.mk []) ([]:List aa)),17)
  else
   some ((aa.mk 5 0 (bg.mk yR) ([]:List aa)),0))
 (fun(t4:Int)=>some ((aa.mk 0 0 (bg.mk []) ([]:List aa)),t4))
def LA{w_0}:FF 205 [.str w_0.b] (po w_0) fun r=>[.agg (M1 r.1),.int .i64 r.2]:=by
 intro s Q
 refine FR 71 [⟨2,false,some (4,true)⟩,⟨3,true,none⟩] 0x5ac6c236011ef7ed6317fa95569810c89ee644c17cff8bc664952bd1aa3d5730f397b2a47101b231fdb064a5ac8555835e8cc794edd4b6ecaf3d6febd12f212cdb7d762830fe630bdf71741911201e1180b0bae44ad5f98af286ebcba506b7da11fcee7f818951c7836eb975170365dcc8738394e14f748815e7376a244e0e069b1ceb6aa3dc3e9dcd4b4c00835231199ed679260e933e1c0e3ee8151a432d05d9fdfe4da6f92edcf3562a4abc726a4e69947259619eb6ffb4e9c1cad1d2e5305cc1899110a561b5df09e080cff3013fa733bb696a2adb34ce85dc28acf462e86ec4fdf6ba998e9e5f29e5c9f89fca785b253a711286109fa78ae05001bc9d1d422a8ea4d0e33646fd2b42e8f71748e5e7d60e76dd2f39ca3b76a2e904dde0b491a0cee9781fe17c996ecda9ae9391db032a1357b2003cd1eb37e0092758b po.eq_1 ?_
 repeat'(first
  |(with_reducible first|exact dj|refine cj ?_ ?_|refine dw ?_)
  |((fail_if_success (have _x:=r18));with_reducible refine jT rfl (fun _(h:jv (ix w_0.b (aC (i6+1)))=some _)=>(kK pn h:)) (fun _=>rfl) (fun r18=>?_))
  |((fail_if_success (have _x:=r19));with_reducible refine jT rfl (fun _(h:jv (ix w_0.b (aC (i6+2)))=some _)=>(kK pn h:)) (fun _=>rfl) (fun r19=>?_))
  |((fail_if_success (have _x:=r20));with_reducible refine c7 (fun _(h:jv (ix w_0.b (aC (i6+1)))=some _)=>(kK pn h:)) (fun _=>rfl) (fun r20=>?_))
  |((fail_if_success (have _x:=r21));with_reducible refine c7 (fun _(h:jv (ix w_0.b (aC (i6+2)))=some _)=>(kK pn h:)) (fun _=>rfl) (fun r21=>?_))
  |with_reducible refine jT rfl (fun _(h:fB yR 0=some _)=>(by refine HU ?_ ((kK wM h:));simp -implicitDefEqProofs only[go_sem,seval])) (fun _=>rfl) (fun r22=>?_)
  |((with_reducible refine eF (live:=[(0,false),(2,false),(4,false),(5,false),(6,false)]) (fun((i14,c15):Int×UInt8)=>⟨[(0,.str w_0.b),(2,.loc [.int .i64 0,.int .i64 0,.str (bg.mk []).b,.sl true 4 0 []]),(4,sT 1 N9),(5,.int .i64 i14),(6,.int .u8 c15.toNat)],[],s⟩) (fun J=>?_) ?_);rotate_left;rintro⟨i14,c15⟩)
  |((with_reducible refine cY (fun((N9,i6):(List UInt8)×Int)=>⟨[(0,.str w_0.b),(2,.loc [.int .i64 0,.int .i64 0,.str (bg.mk []).b,.sl true 4 0 []]),(4,sT 1 N9),(5,.int .i64 i6)],[],s⟩) ?_ ?_);(first|exact rfl|simp -implicitDefEqProofs only[go_sem,seval]);rintro J ⟨N9,i6⟩)
  |((with_reducible refine eF (live:=[(2,false),(4,false)]) (fun(yR:(List UInt8))=>⟨[(2,.loc [.int .i64 0,.int .i64 0,.str (bg.mk []).b,.sl true 4 0 []]),(4,sT 1 yR)],[],s⟩) (fun J=>?_) ?_);rotate_left;rintro yR)
  |refine Xe4 ?_|exact Xf8)
def iD(s_0:aq)(c_1:UInt8):Option (aH×Int×aq):=
 aZ (gH c_1) fun r1=>
 if r1 then
  aZ (gI s_0) fun r2=>
  some (r2.1,r2.2.1,r2.2.2)
 else
  if(c_1.toNat:Int)==91 then
   some ((aH.mk 2 0 0 (aa.mk 0 0 (bg.mk []) ([]:List aa)) (bg.mk [])),0,(aq.mk s_0.Builder s_0.b_ (aC (s_0.at_+1)) s_0.aR))
  else
   if(c_1.toNat:Int)==93 then
    some ((aH.mk 3 0 0 (aa.mk 0 0 (bg.mk []) ([]:List aa)) (bg.mk [])),0,(aq.mk s_0.Builder s_0.b_ (aC (s_0.at_+1)) s_0.aR))
   else
    if(c_1.toNat:Int)==60 then
     aZ (iC (aq.mk s_0.Builder s_0.b_ (aC (s_0.at_+1)) s_0.aR)) fun r3=>
     some (r3.1,r3.2.1,r3.2.2)
    else
     if(c_1.toNat:Int)==62 then
      aZ (iA (aq.mk s_0.Builder s_0.b_ (aC (s_0.at_+1)) s_0.aR)) fun r4=>
      some (r4.1,r4.2.1,r4.2.2)
     else
      if(c_1.toNat:Int)==40 then
       aZ (gU (aq.mk s_0.Builder s_0.b_ (aC (s_0.at_+1)) s_0.aR)) fun r5=>
       some ((aH.mk 1 0 0 r5.1 (bg.mk [])),r5.2.1,r5.2.2)
      else
       if(c_1.toNat:Int)==47 then
        aZ (gV (aq.mk s_0.Builder s_0.b_ (aC (s_0.at_+1)) s_0.aR)) fun r6=>
        if !r6.2.1 then
         some ((aH.mk 0 0 0 (aa.mk 0 0 (bg.mk []) ([]:List aa)) (bg.mk [])),6,r6.2.2)
        else
         aZ (po r6.1) fun r7=>
         some ((aH.mk 1 0 0 r7.1 (bg.mk [])),r7.2,r6.2.2)
       else
        some ((aH.mk 0 0 0 (aa.mk 0 0 (bg.mk []) ([]:List aa)) (bg.mk [])),11,(aq.mk s_0.Builder s_0.b_ (aC (s_0.at_+1)) s_0.aR))
def yD{s_0 c_1}{B0:Nat}{s:ae}{Q:List AV->ae->Prop}(hB0:s B0=some (.cells (vu B0 s_0))):ok (iD s_0 c_1) (fun r=>Q [.agg [.int .i64 r.1.Kind,.int .i64 r.1.aP,.int .i64 r.1.To,.int .i64 r.1.V.Kind,.int .i64 r.1.V.N,.str r.1.V.S.b,sF 4 r.1.V.L,.str r.1.S.b],.int .i64 r.2.1] (s.set B0 (.cells (vu B0 r.2.2))))->FN prog 168 [.ref B0 0,.int .u8 c_1.toNat] s Q:=by
 rw[<-aU hB0]
 refine FR 73 [⟨4,false,some (8,true)⟩,⟨5,true,none⟩] 0x490f62d8b706b1306c3734e48393404825788a162e0919c8eb2fbbdec30c5fb82ea9b81411758f726d8d3f1cf1cadd55e94a7597d36af642492b7b55371875173130e9aa840fe6cfb39848d1d75199acfbf522528afcea46c0082263465205df781e9639b7ca7b337a0ffb6a6a5311c90dbc5ebacd2efec5375772e2d591911033314e7eb73606c0e11eb3d47c83cfbf69101225f722fa5494c96d8181fe6b364b21794c08e85d9c4ac1b56ad3c87f1d62902dfea372ea4dd1752c448c2e46fb9edbf84143d857e97c64399ffc34aef93ee4604261951b3c90b9484a459173a91233889fad8a26f4907891ece145375686f686adcac983a0c77157d3cb53e78f2175577bd4272c9db35a027fd4894fb885981c7c579fc4db47f2f3b88f9b09981b7b5aa987cdd04a9f82fd66c1dd6035072913c00753e6a3706b08e2904e0ceae5e8173d5a9800a3f8eb04a6291c8ebf6d4d964c8a2c81e07ca1f7d01df15e061b538e0e367678b0bebe916a71d17382784d033e786a4e8180d9ce4a5604df20ffa12a53f104d96d2dc733a1cc4234bf7e72bbadfd4c86f382a3aefbdb72bc0bfe65d44619b6918b003defd1eb37e000000010c324b iD.eq_1 ?_
 repeat'(first
  |(with_reducible first|exact dj|refine cj ?_ ?_|refine dw ?_|refine aN (fun _(h:gH c_1=some _)=>(kK ua h:)) (fun r1=>?_)|refine fun hh=>ub (B0:=B0) DO (aJ (show ok (gI s_0) _ from hh) fun r2=>?_)|refine fun hh=>vI (B0:=B0) DO (aJ (show ok (iC (aq.mk s_0.Builder s_0.b_ (aC (s_0.at_+1)) s_0.aR)) _ from hh) fun r3=>?_)|refine fun hh=>vH (B0:=B0) DO (aJ (show ok (iA (aq.mk s_0.Builder s_0.b_ (aC (s_0.at_+1)) s_0.aR)) _ from hh) fun r4=>?_)|refine fun hh=>zZ (B0:=B0) DO (aJ (show ok (gU (aq.mk s_0.Builder s_0.b_ (aC (s_0.at_+1)) s_0.aR)) _ from hh) fun r5=>?_)|refine fun hh=>rh (B0:=B0) DO (aJ (show ok (gV (aq.mk s_0.Builder s_0.b_ (aC (s_0.at_+1)) s_0.aR)) _ from hh) fun r6=>?_)|refine aN (fun _(h:po r6.1=some _)=>(kK LA h:)) (fun r7=>?_))
  |refine Xe4 ?_|exact Xf8)
def eH(b_0:(List UInt8))(fK:Int)(cS:Bool):Option (aH×Int):=
 if(decide (fK<0))||(decide (fK>(b_0.length:Int)))then
  some ((aH.mk 0 0 0 (aa.mk 0 0 (bg.mk []) ([]:List aa)) (bg.mk [])),2)
 else
  aZ (q9 b_0 fK) fun r1=>
  if r1==(b_0.length:Int)then
   if cS then
    some ((aH.mk 0 r1 r1 (aa.mk 0 0 (bg.mk []) ([]:List aa)) (bg.mk [])),0)
   else
    some ((aH.mk 0 r1 r1 (aa.mk 0 0 (bg.mk []) ([]:List aa)) (bg.mk [])),6)
  else
   a8 (0<=r1/\r1<b_0.length)<|
   aZ (iD (aq.mk Bk.zero b_0 r1 cS) (ix b_0 r1)) fun r2=>
   if r2.2.1 !=0 then
    some ((aH.mk 0 r1 r1 (aa.mk 0 0 (bg.mk []) ([]:List aa)) (bg.mk [])),r2.2.1)
   else
    some ((aH.mk r2.1.Kind r1 r2.2.2.at_ r2.1.V r2.1.S),0)
set_option maxHeartbeats 8000000 in
def lh{b_0 fK cS}:FF 132 [sF 1 b_0,.int .i64 fK,.bool cS] (eH b_0 fK cS) fun r=>[.agg [.int .i64 r.1.Kind,.int .i64 r.1.aP,.int .i64 r.1.To,.int .i64 r.1.V.Kind,.int .i64 r.1.V.N,.str r.1.V.S.b,sF 4 r.1.V.L,.str r.1.S.b],.int .i64 r.2]:=by
 intro s Q
 intro h
 refine FN.forget ?_
 refine FP 63 [⟨6,false,some (8,true)⟩,⟨7,true,none⟩] (dec 0x1a633ddfe9af210b85b9aaaf2f268fd25c3ed95ef0fad698f02b5768592c9243f402008cf0b763f00985abc8380fa5fbbff1d8bdd149d7350234751179892461aa7d064d5d360d629af81248192005befd921bda3ae0a565e31d51b7e93bb1909f0cfed6063ec6bc62b20534e644ce53f78858ea8fe126940dbfb07771b8198c101dd8021ccd683308f8aa8a36d2fa6447879f9d18c1c29382f9633a13a82b7b805d6159537fd04ff535abb5b925e97c4a38975d292e4c09de59efde5b4ffa2a03dd1c2439a4baaa69a71aa27fd5171121d69db3384707c8f6ede1cb172af277844db0fba8f399f9c18bb610bf9cfc53f6fbd4b9906921881b201c2ce10f7e42c639f2c99de4b4b640c05e4e134570812ed107c3d7a15de9e39934e6dc5a0c32265dd8f27a395ca40b359ce5148188418a47464003defd1eb37e000000010c6f0b) By rfl ?_
 revert h
 rw[eH]
 refine Xf9 ?_
 repeat'(first
  |(with_reducible first|exact dj|refine cj ?_ ?_|refine dw ?_)
  |((with_reducible apply aly);(·intro Q' hQ;repeat'(first|exact hQ|(simp only[cP,bX,bD,bV,vO,xE,Bool.not_true,Bool.not_false,Bool.or_true,Bool.true_or,Bool.false_or,Bool.or_false,Bool.and_true,Bool.true_and,Bool.and_false,Bool.false_and,cond_true,cond_false,true_and,and_true];done)|with_reducible refine⟨?_,?_⟩|with_reducible exact trivial|simp only[cP,bX,bD,bV,vO,xE,Bool.not_true,Bool.not_false,Bool.or_true,Bool.true_or,Bool.false_or,Bool.or_false,Bool.and_true,Bool.true_and,Bool.and_false,Bool.false_and,cond_true,cond_false,true_and,and_true]|simp -implicitDefEqProofs only[go_sem,seval])))
  |(with_reducible first|refine aN (fun _(h:q9 b_0 fK=some _)=>(kK Lz h:)) (fun r1=>?_)|refine fun hh=>yD (B0:=N1) DO (aJ (show ok (iD (aq.mk Bk.zero b_0 r1 cS) (ix b_0 r1)) _ from hh) fun r2=>?_))
  |((fail_if_success (have _x:=sN1));with_reducible intro hh N1 hN1;(try simp only[di]at hN1);have sN1:=hN1;revert hh)
  |(with_reducible first|exact fun hh=>⟨_,nu.set (nu.refl _) Y_,hh⟩|exact fun hh=>⟨_,nu.refl _,hh⟩)
  |refine Xe4 ?_|exact Xf8)
@[go_sem]abbrev oV(v:aa):AV:=.agg [.int .i64 v.Kind,.int .i64 v.N,.str v.S.b,sF 4 v.L]
end Go.AB
end
section
set_option maxRecDepth 4000
namespace Go.AB
open Go
open Go.Proofs.Tryz (prog)
end Go.AB
end
section
set_option maxRecDepth 16000
namespace Go.AB
open Go
open Go.Proofs.Tryz (prog)
attribute[-go_sem] bX cP bD bV
@[go_sem]theorem Vf(l:List aa):pad [.int .i64 0,.int .i64 0,.str [],.sl false 4 0 []] (views (AB.sub (flat l) 0 4))=[.int .i64 ((ix l 0).Kind),.int .i64 ((ix l 0).N),.str ((ix l 0).S).b,.sl false 4 ((ix l 0).L).length (flat ((ix l 0).L))]:=Ft l 0
def fE(x_0:bg):Option (Bool):=some (!(x_0.b==x_0.b))
def oW{x_0}:FF 278 [.str x_0.b] (fE x_0) fun r=>[.bool r]:=by
 intro s Q
 exact FC 6 [⟨2,true,none⟩] 0xa1c396387ce7f58100d920824473a fE.eq_1
def gC(x_0:bg)(y_1:bg):Option (Int):=
 aZ (fE x_0) fun r1=>
 aZ (fE y_1) fun r2=>
 if r1 then
  if r2 then
   some 0
  else
   some (-1)
 else
  if r2 then
   some 1
  else
   if Op.bytesLess x_0.b y_1.b then
    some (-1)
   else
    if !((Op.bytesLess x_0.b y_1.b)||(x_0.b==y_1.b))then
     some 1
    else
     some 0
def tB{x_0 y_1}:FF 251 [.str x_0.b,.str y_1.b] (gC x_0 y_1) fun r=>[.int .i64 r]:=by
 intro s Q
 refine FR 20 [⟨4,true,none⟩] 0x77a655631f5dd007c75a30eb93b9ca53d795df717bd0288dc7a31dc467332a089a32fd50510ca3614e8f5f3aa60b97ba8a7ac8e50adc412df602ac320dfe0bca690463c48f2ce6a5c751af3ec7191f72cef8a47f1a53200d4eb3ed07eccb2efe10ae7e0d3980083fa gC.eq_1 ?_
 repeat'(first
  |(with_reducible first|refine aN (fun _(h:fE x_0=some _)=>(kK oW h:)) (fun r1=>?_)|refine aN (fun _(h:fE y_1=some _)=>(kK oW h:)) (fun r2=>?_))
  |refine Xe4 ?_|exact Xf8)
def jo(a_0:(List aa))(b_1:(List aa)):Option (Int):=
 a8 (0<=(0:Int)/\(0:Int)<a_0.length)<|
 a8 (0<=(0:Int)/\(0:Int)<b_1.length)<|
 aZ (gC ((ix a_0 0).S) ((ix b_1 0).S)) fun r1=>
 some r1
def Ai{a_0 b_1}:FF 250 [.sl false 4 a_0.length (flat a_0),.sl false 4 b_1.length (flat b_1)] (jo a_0 b_1) fun r=>[.int .i64 r]:=by
 intro s Q
 refine FR 14 [⟨4,true,none⟩] 0x8ce5a42a08a37c9988da8fb432cb7321239d69ac827cdddd9f50443bbb49921be2675e20ad93980083fa jo.eq_1 ?_
 repeat'(first
  |(with_reducible first|exact dj|refine cj ?_ ?_|refine c7 (fun _(h:gC ((ix a_0 0).S) ((ix b_1 0).S)=some _)=>(kK tB h:)) (fun _=>rfl) (fun r1=>?_))
  |refine Xe4 ?_|exact Xf8)
def Ah{a_0 b_1}{s:ae}{r:Int}(h:jo a_0 b_1=some r):FE prog 250 [.sl false 4 a_0.length (flat a_0),.sl false 4 b_1.length (flat b_1)] s [.int .i64 r] s:=Ai ⟨r,h,rfl,rfl⟩
end Go.AB
end
section
set_option maxRecDepth 4000
namespace Go.AB
open Go
open Go.Proofs.Tryz (prog)
abbrev VL:=List aa
def Dy(x y:VL):Bool:=Op.bytesLess (ix x 0).S.b (ix y 0).S.b
def I7:TP Dy:=⟨fun _ _=>rN.WN _ _,fun _ _ _=>rN.tr _ _ _⟩
def E1(l:List UInt8):Op.bytesLess l l=false:=by
 cases e:Op.bytesLess l l with
 |false=>rfl
 |true=>rw[<-e];exact rN.WN l l e
def ajU{x y:VL}(hx:0<x.length)(hy:0<y.length):∃c,jo x y=some c/\decide (c<0)=Dy x y:=by
 unfold jo gC fE Dy
 have e1:∀z:bg,(!(z.b==z.b))=false:=fun z=>by rw[beq_self_eq_true];rfl
 rw[bI AT,bI AT,e1,e1,aL,aL,if_neg B_,if_neg B_]
 cases h:Op.bytesLess (ix x 0).S.b (ix y 0).S.b with
 |true=>exact⟨-1,rfl,rfl⟩
 |false=>
  rw[if_neg B_,Bool.false_or]
  cases h2:(ix x 0).S.b==(ix y 0).S.b with
  |true=>exact⟨0,rfl,rfl⟩
  |false=>exact⟨1,rfl,rfl⟩
def sgR:SG (VL)where
 lt:=Dy
 tp:=I7
 Bf:=fun x y=>0<x.length/\0<y.length
 cm:=jo
 cv:=fun h=>ajU h.2 h.1
 z:=.sl false 4 0 []
 fc:=250
 cl:=[]
 w1:=rfl
 en:=fun _=>⟨rfl,fun _=>rfl,rfl,rfl,rfl,fun _ d=>IN,rfl,rfl,rfl,fun _=>rfl,rfl,rfl⟩
 ok:=By
 fi:=293
 fw:=306
 fr:=300
 fy:=294
 fs:=277
 fo:=249
 hi:=By
 hw:=By
 hr:=By
 hy:=By
 hs:=By
 ho:=By
def RE(l:List VL)(sp:List AV){j:Int}(h0:0<=j)(h:j<l.length):j.toNat*1+1<=(flat l++sp).length/\views (AB.sub (flat l++sp) (j.toNat*1) 1)=[.sl false 4 (ix l j).length (flat (ix l j))]:=lr sgR l sp h0 h
def VV{s:ae}{rb cap:Nat}{sp:List AV}{l:List VL}{Q:List AV->ae->Prop}(hl:(l.length:Int)<2^46)(hz:∀z∈l,0<z.length)
 (hq:∀Z,Z.Perm l->jS Dy Z->Q [] (s.set rb (.cells (flat Z++sp)))):FN prog 249 [.arr rb 0 l.length cap,.fn 250 [] []] (s.set rb (.cells (flat l++sp))) Q:=
 HF (I:=sgR) (fun hc=>Ah hc) hl ((List.pairwise_of_forall (R:=fun _ _=>True) fun _ _=>trivial).imp_of_mem fun ha hb _=>⟨hz _ ha,hz _ hb⟩) hq
def VU{s:ae}{Q:List AV->ae->Prop}(hq:Q [] s):FN prog 249 [.arr 0 0 0 0,.fn 250 [] []] s Q:=HE sgR hq
def Kd{α:Type}[aO α]{E:St}{d:Option Nat}{K:St->Prop}{sz by':Nat}{s:ae}{r:c5}{l:List α}{z:α}{x:List α}(hσ:E.s=jc s r l)(h:fZ s r l)(hz:sz=aO.w α)(hx:0<x.length)(hr:(l.length+x.length)*by'<=room)
 (hK:∀s' r',Sub s s'->fZ s' r' (l++x)->K ({E with s:=jc s' r' (l++x)}.put d (jj r' (l.length+x.length)))):
 eP sz by' (aO.cells z) E d K (jj r l.length) (some (x.length,flat x)):=by
 subst hz
 have hcz:(aO.cells z).length=aO.w α:=aO.len z
 have hvz:views (aO.cells z)=aO.cells z:=aO.vw z
 have fresh:∀(s':ae)(b' cQ:Nat),s' b'=none->l.length+x.length<=cQ->fZ s' (some (b',cQ,flat (List.replicate (cQ -(l.length+x.length)) z))) (l++x):=fun s' b' cQ hb hc=>by
  refine⟨hb,AT,A_,?_,aF _⟩
  rw[List.length_append,au,au,List.length_replicate,List.length_append,<-Nat.add_mul]
  grind
 cases r with
 |none=>
  obtain rfl:l=[]:=h
  show eP (aO.w α) by' (aO.cells z) E d K (.arr 0 0 0 0) _
  refine eo hcz (olds:=[]) rfl A_ hr fun b' cQ hb' hc=>?_
  rw[List.nil_append,<-eW]
  rw[hσ]at hb'⊢
  have:=hK s (some (b',cQ,flat (List.replicate (cQ -(0+x.length)) z))) (Sub.refl s) (fresh s b' cQ hb' hc)
  exact this
 |some y=>
  obtain⟨b,cap,sp⟩:=y
  obtain⟨h1,h2,h3,h4,h5⟩:=h
  have hs:E.s b=some (.cells (flat l++sp)):=χ
  show eP (aO.w α) by' (aO.cells z) E d K (.arr b 0 l.length cap) _
  by_cases hc:l.length+x.length<=cap
  ·refine lf hcz hs A_ hc ?_
   have hsp:x.length*aO.w α<=sp.length:=by
    rw[List.length_append,au]at h4
    have:(l.length+x.length)*aO.w α<=cap*aO.w α:=Nat.mul_le_mul_right _ hc
    rw[Nat.add_mul]at this
    simp;omega
   have st:=y6 l x sp (aO.w α) rfl hsp
   rw[Nat.zero_add,st]
   have e:E.s.set b (.cells (flat (l++x)++sp.drop (x.length*aO.w α)))=jc s (some (b,cap,sp.drop (x.length*aO.w α))) (l++x):=by
    rw[hσ]
    show(s.set b _).set b _=s.set b _
    exact set_set ..
   rw[e]
   refine hK s _ (Sub.refl s) ⟨h1,h2,A_,?_,?_⟩
   ·grind [List.length_append,au,List.length_drop,Nat.add_mul]
   grind [views,List.map_drop]
  ·refine eo hcz (oI hs (by
    rw[Nat.zero_add,h4];exact Nat.mul_le_mul_right _ h3)) AT hr fun b' cQ hb' hc'=>?_
   have ho:views (AB.sub (flat l++sp) 0 (l.length*aO.w α))=flat l:=by
    have:=gJ l sp (aO.w α) 0 l.length rfl AT
    rw[Nat.zero_mul]at this
    rw[this,List.drop_zero,List.take_length,aF]
   rw[ho,<-eW,<-cT]
   rw[hσ]at hb'⊢
   have hb0:(s.set b (.cells (flat l++sp))) b'=none:=hb'
   exact hK (s.set b (.cells (flat l++sp))) (some (b',cQ,flat (List.replicate (cQ -(l.length+x.length)) z))) ((Sub.refl s).set h1) (fresh _ b' cQ hb0 hc')
end Go.AB
end
