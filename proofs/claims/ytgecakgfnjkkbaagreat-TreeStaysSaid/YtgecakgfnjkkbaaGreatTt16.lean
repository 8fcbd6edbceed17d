/- A part. -/
import Derived.Test.YtgecakgfnjkkbaaGreatTt15
set_option linter.defProp false
set_option linter.unusedSimpArgs false
set_option linter.unusedVariables false
section
set_option maxRecDepth 16000
namespace Go.AB
open Go
open Go.Proofs.Tryz (prog)
attribute[-go_sem] Nat.add_zero mO cF cj cS bK ch
def zJ:IC:=dec 0xa34cdb8f116929af47885eeafedac8af6add9a5baadceee32e6bdf241108b43e864e26256b5aef57336385e1ef934f9aa8e849d55c06de9d8869c4ba8a91915c02a20a889ff3577e347af623d203b06c8800fbfe1aeb7801059da4d85d2c770970653b3d91149995b5c3438f71352a78202e9de50158d315627f9c48b8460683870eba4a90fd4ef6edbc8805260b10d8c64f0c44d90acb6c29570438bb5f52c2bfd247d5ee85de0376f4f474d92a5544441018852148e7f5b4473a
def Gt:eO prog 252 36 [⟨2,true,none⟩] zJ=true:=B_
def OZ{s:ae}{k:Nat}{Q:List AV->ae->Prop}(hn:k*56<=room)(hq:∀s' r',Sub s s'->fY s' r' ([]:List aa)->Q [jk r' 0] (jb s' r' ([]:List aa))):FN prog 279 [.arr 0 0 0 0,.int .i64 k] s Q:=by
 have hr:room=140737488355328:=rfl
 refine FS 27 [⟨4,true,none⟩] 0x42919ba4c4584f03454ca0c587eda49986fe2ec437dceb5aecf14d06e5f2efd632aa9068258c5e585670a19e7f8cbbcdf6755b5368d4e5fb72a7c89f26788bbdb575330f58dfcce97417516802dd71261727483fa ?_
 have h0:decide ((k:Int)<0)=false:=BY
 have e00:((0:Nat):Int)=0:=rfl
 have w1:aC 0=0:=By
 have w2:aC (k:Int)=k:=an AT AT
 refine Xf8 h0 e00 w1 w2 ?_
 refine⟨fun hk=>?_,fun hk=>?_⟩
 ·have hk:0<k:=Xa7
  refine⟨Int.le_refl _,?_⟩
  refine xJ (n:=0) (cap:=0) (m:=k) (b:=0) (off:=0) (by':=56) (olds:=[]) rfl rfl rfl AT AT fun b' cP hb' hc=>?_
  rw[List.nil_append]
  refine Xf4 ?_
  have:=hq s (some (b',cP,(List.replicate k [.int .i64 0,.int .i64 0,.str [],.sl false 4 0 []]).flatten++(List.replicate (cP -(0+k)) [.int .i64 0,.int .i64 0,.str [],.sl false 4 0 []]).flatten)) (Sub.refl s)
   ⟨hb',AT,BY,by
     have e:(flat ([]:List aa)).length=0:=rfl
     rw[List.length_append,e,List.length_append]
     simp[show aP.w aa=4 from rfl]
     omega,by
     have hz:∀m,views (List.replicate m [AV.int .i64 0,.int .i64 0,.str [],.sl false 4 0 []]).flatten=(List.replicate m [AV.int .i64 0,.int .i64 0,.str [],.sl false 4 0 []]).flatten:=fun m=>by
      rw[show([.int .i64 0,.int .i64 0,.str [],.sl false 4 0 []]:List AV)=aP.cells (⟨0,0,⟨[]⟩,[]⟩:aa) from rfl,<-fq]
      exact aH _
     unfold views at hz⊢
     rw[List.map_append,hz,hz]⟩
  simp only[Nat.zero_add]at this
  exact⟨⟨Int.le_refl _,Int.le_refl _,AT⟩,this⟩
 ·have hk:k=0:=by
   have:¬(0<k):=Xa7
   omega
  have:=hq s none (Sub.refl s) rfl
  first|exact this|trace_state
def YC(ls:List VL)(q:Int×Int):Option ((Int×Int)⊕Int):=bif decide (q.2<ls.length)then some (.inl (q.1+(ix ls q.2).length,q.2+1))else some (.inr q.1)
def YD(ls:List VL)(hl:ls.length<4611686018427387904):iter (YC ls) (0,0)=some (ls.flatten.length:Int):=by
 refine Dg ls.length (fun k=>((ls.take k).flatten.length:Int)) BY hl (fun k hk=>?_) ?_
 ·unfold YC
  have h1:decide ((k:Int)<ls.length)=true:=Xa7
  have h2:ix ls (k:Int)=ls[k]:=by unfold ix;simp[hk]
  have h3:aC ((k:Int)+1)=(k:Int)+1:=an AT AT
  show(bif decide ((k:Int)<ls.length)then _ else _)=_
  rw[h1,cond_true,h2,h3,List.take_succ_eq_append_getElem hk,List.flatten_append,List.length_append]
  simp
 ·unfold YC
  have h1:decide ((ls.length:Int)<ls.length)=false:=BY
  show(bif decide ((ls.length:Int)<ls.length)then _ else _)=_
  rw[h1,cond_false,List.take_length]
def Wh(ls:List VL)(q:List aa×Int):Option ((List aa×Int)⊕List aa):=bif decide (q.2<ls.length)then some (.inl (q.1++ix ls q.2,q.2+1))else some (.inr q.1)
def Wj(ls:List VL)(hl:ls.length<4611686018427387904):iter (Wh ls) ([],0)=some ls.flatten:=by
 refine Dg ls.length (fun k=>(ls.take k).flatten) BY hl (fun k hk=>?_) ?_
 ·unfold Wh
  have h1:decide ((k:Int)<ls.length)=true:=Xa7
  have h2:ix ls (k:Int)=ls[k]:=by unfold ix;simp[hk]
  have h3:aC ((k:Int)+1)=(k:Int)+1:=an AT AT
  show(bif decide ((k:Int)<ls.length)then _ else _)=_
  rw[h1,cond_true,h2,h3,List.take_succ_eq_append_getElem hk,List.flatten_append]
  simp
 ·unfold Wh
  have h1:decide ((ls.length:Int)<ls.length)=false:=BY
  show(bif decide ((ls.length:Int)<ls.length)then _ else _)=_
  rw[h1,cond_false,List.take_length]
def y9(ls:List VL)(k:Nat):(ls.take k).flatten.length<=ls.flatten.length:=by
 conv=>rhs;rw[<-List.take_append_drop k ls]
 rw[List.flatten_append,List.length_append];omega
def Qi{s:ae}{rb cap:Nat}{sp:List AV}{ls:List VL}{Q:List AV->ae->Prop}(hs:s rb=none)(jW:∀c∈ls,0<c.length)(hr:ls.flatten.length*56<=room)(hl:ls.length<2^40)
 (hq:∀s' r',Sub (s.set rb (.cells (flat ls++sp))) s'->fY s' r' ls.flatten->Q [jk r' ls.flatten.length] (jb s' r' ls.flatten)):FN prog 252 [.arr rb 0 ls.length cap] (s.set rb (.cells (flat ls++sp))) Q:=by
 have cg:room=140737488355328:=rfl
 refine FO Gt rfl rfl ?_
 rw[zJ]
 refine Xf7 ?_
 refine Xe2 ?_
 generalize hcs:flat ls++sp=cs at*
 refine lM (kf:=fun _=>True) (fun(q:Int×Int) τ=>∃k:Nat,k<=ls.length/\q=(((ls.take k).flatten.length:Int),(k:Int))/\τ=(⟨[(0,.arr rb 0 ls.length cap),(3,.int .i64 (ls.take k).flatten.length),(9,.arr rb 0 ls.length cap),(10,.int .i64 ls.length),(11,.int .i64 k)],[],s.set rb (.cells cs)⟩:St)) ⟨0,Nat.zero_le _,rfl,rfl⟩ ?_ ⟨_,YD ls AT,trivial⟩
 rintro J q τ ⟨k,hk,rfl,rfl⟩ hb
 unfold YC at hb
 by_cases h:k<ls.length
 ·have h1:decide ((k:Int)<ls.length)=true:=KT
  have h2:ix ls (k:Int)=ls[k]:=by unfold ix;simp[h]
  obtain⟨r1,r2⟩:=Q4 ls sp (j:=(k:Int)) AT AT
  rw[hcs,h2,Int.toNat_natCast]at r2
  rw[hcs,Int.toNat_natCast]at r1
  have d1:=decide_eq_true r1
  have le:=y9 ls (k+1)
  rw[List.take_succ_eq_append_getElem h,List.flatten_append,List.length_append,List.flatten_cons,List.flatten_nil,List.append_nil]at le
  have w1:aC (((ls.take k).flatten.length:Int)+(ls[k].length:Int))=((ls.take k).flatten.length:Int)+(ls[k].length:Int):=an AT AT
  have w2:aC ((k:Int)+1)=(k:Int)+1:=an AT AT
  have h0:decide (((ls.take k).flatten.length:Int)+(ls[k].length:Int)<0)=false:=decide_eq_false AT
  simp only[h1,cond_true,h2,bJ,nG]at hb
  refine Xe6 h1 r2 d1 w1 w2 h0 ?_
  have fin:=hb _ ⟨k+1,h,by rw[List.take_succ_eq_append_getElem h,List.flatten_append,List.length_append];simp,rfl⟩
  rw[List.take_succ_eq_append_getElem h,List.flatten_append,List.length_append,List.flatten_cons,List.flatten_nil,List.append_nil]at fin
  have e1:(((ls.take k).flatten.length+ls[k].length:Nat):Int)=((ls.take k).flatten.length:Int)+(ls[k].length:Int):=AT
  have e2:((k+1:Nat):Int)=(k:Int)+1:=AT
  rw[e1,e2]at fin
  first|exact fin|(refine⟨?_,?_,fin⟩<;>omega)|(refine⟨?_,fin⟩;omega)|(refine⟨⟨?_,?_⟩,?_,fin⟩<;>omega)|trace_state
 ·have h1:decide ((k:Int)<ls.length)=false:=KT
  obtain rfl:k=ls.length:=AT
  clear hb
  rw[List.take_length]
  refine Xe3 h1 ?_
  refine OZ hr fun s1 r1 hs1 h1'=>?_
  refine Xe2 ?_
  have hq2:(s.set rb (.cells cs)) rb=some (.cells cs):=bp
  refine lM (kf:=fun _=>True) (fun(q:List aa×Int) τ=>∃(k:Nat)(s':ae)(r':cZ),k<=ls.length/\q=((ls.take k).flatten,(k:Int))/\Sub (s.set rb (.cells cs)) s'/\fY s' r' (ls.take k).flatten/\τ=(⟨[(6,jk r' (ls.take k).flatten.length),(25,.arr rb 0 ls.length cap),(26,.int .i64 ls.length),(27,.int .i64 k)],[],jb s' r' (ls.take k).flatten⟩:St)) ⟨0,s1,r1,Nat.zero_le _,rfl,hs1,h1',rfl⟩ ?_ ⟨_,Wj ls AT,trivial⟩
  ·rintro J q τ ⟨k,s',r',hk,rfl,hs',h',rfl⟩ hb
   unfold Wh at hb
   by_cases h:k<ls.length
   ·have h1:decide ((k:Int)<ls.length)=true:=KT
    have h2:ix ls (k:Int)=ls[k]:=by unfold ix;simp[h]
    obtain⟨r1,r2⟩:=Q4 ls sp (j:=(k:Int)) AT AT
    rw[hcs,h2,Int.toNat_natCast]at r2
    rw[hcs,Int.toNat_natCast]at r1
    have d1:=decide_eq_true r1
    have hrb:jb s' r' (ls.take k).flatten rb=some (.cells cs):=jR h' (hs' _ _ hq2)
    have w2:aC ((k:Int)+1)=(k:Int)+1:=an AT AT
    have le:=y9 ls (k+1)
    have ek:ls.take (k+1)=ls.take k++[ls[k]]:=List.take_succ_eq_append_getElem h
    have ef:(ls.take (k+1)).flatten=(ls.take k).flatten++ls[k]:=by rw[ek,List.flatten_append];simp
    rw[ef,List.length_append]at le
    simp only[h1,cond_true,h2,bJ,nG]at hb
    generalize eJ:jb s' r' (ls.take k).flatten=st at hrb⊢
    refine Xf9 h1 hrb r2 d1 w2 ?_
    first
     |refine⟨⟨AT,AT⟩,r1,?_⟩
     |refine⟨AT,?_⟩
     |skip
    rw[gl,aH]
    refine JU (by':=56) (s:=s') (r:=r') (l:=(ls.take k).flatten) (x:=ls[k]) (z:=(⟨0,0,⟨[]⟩,[]⟩:aa)) (by exact eJ.symm) h' rfl (jW _ (List.getElem_mem h)) AT fun s2 r2' hs2 h2'=>?_
    refine Xg0 w2 ?_
    have fin:=hb _ ⟨k+1,s2,r2',h,by rw[ef];rfl,(fun b o hb=>hs2 b o (hs' b o hb)),by rw[ef];exact h2',rfl⟩
    rw[ef,List.length_append]at fin
    have e2:((k+1:Nat):Int)=(k:Int)+1:=AT
    rw[e2]at fin
    exact fin
   ·have h1:decide ((k:Int)<ls.length)=false:=KT
    obtain rfl:k=ls.length:=AT
    clear hb
    rw[List.take_length]at h'⊢
    refine Xe3 h1 ?_
    first|exact hq s' r' hs' h'|trace_state
end Go.AB
end
section
set_option maxRecDepth 16000
namespace Go.AB
open Go
open Go.Proofs.Tryz (prog)
attribute[-go_sem] cj cS bK ch
@[go_sem]theorem alb(g:Bool):(g=true->(2:Int)≠0)=True:=eq_true (fun _=>By)
def jO(t_0:aG):Option (Bool):=some ((t_0.Kind==1)&&(t_0.V.Kind==2))
def DI{t_0}:FF 155 [.agg [.int .i64 t_0.Kind,.int .i64 t_0.aS,.int .i64 t_0.To,.int .i64 t_0.V.Kind,.int .i64 t_0.V.N,.str t_0.V.S.b,sF 4 t_0.V.L,.str t_0.S.b]] (jO t_0) fun r=>[.bool r]:=by
 intro s Q
 exact FC 12 [⟨2,true,none⟩] 0x16f1440b844ae3ea6d1cde8652f01354bd3b953622ebee9632d28a8b77e3684e9995b jO.eq_1
def lR{t_0}{s:ae}{r:Bool}(h:jO t_0=some r):FE prog 155 [.agg [.int .i64 t_0.Kind,.int .i64 t_0.aS,.int .i64 t_0.To,.int .i64 t_0.V.Kind,.int .i64 t_0.V.N,.str t_0.V.S.b,sF 4 t_0.V.L,.str t_0.S.b]] s [.bool r] s:=DI ⟨r,h,rfl,rfl⟩
def gV(e_0:Int):Option (Int):=
 if e_0==6 then
  some e_0
 else
  some 0
def wj{e_0}:FF 253 [.int .i64 e_0] (gV e_0) fun r=>[.int .i64 r]:=by
 intro s Q
 exact FC 6 [⟨2,true,none⟩] 0x13743a9027034cdc593cbaef04a17f0aaee6d95980227cc00473a gV.eq_1
def kW(w_0:aO):Option (aa×Int):=
 if w_0.b==(aO.mk [116,114,117,101]).b then
  some ((aa.mk 1 1 (aO.mk []) ([]:List aa)),0)
 else
  if w_0.b==(aO.mk [102,97,108,115,101]).b then
   some ((aa.mk 1 0 (aO.mk []) ([]:List aa)),0)
  else
   if w_0.b==(aO.mk [110,117,108,108]).b then
    some ((aa.mk 0 0 (aO.mk []) ([]:List aa)),0)
   else
    some ((aa.mk 0 0 (aO.mk []) ([]:List aa)),11)
def EZ{w_0}:FF 219 [.str w_0.b] (kW w_0) fun r=>[.agg (MB r.1),.int .i64 r.2]:=by
 intro s Q
 exact FC 15 [⟨2,false,some (4,true)⟩,⟨3,true,none⟩] 0xd7c20874c185a339c02b433b1466430c07409a6ba630214da4ed92b4bf409dfe25c67b1f7957bd51d25def0b4df5562c08286dee5401c8da68b10dee125231fbbcc090bed35397749d9d66e6d4e02135deeee8cff6b1d017fbd06c34f63b6406ea8e407ddb0347515e87f5f971cb08c4fcf6753816cf3c972057b2003cd1eb37e00908f8b kW.eq_1
def qm{w_0}{s:ae}{r:aa×Int}(h:kW w_0=some r):FE prog 219 [.str w_0.b] s [.agg (MB r.1),.int .i64 r.2] s:=EZ ⟨r,h,rfl,rfl⟩
structure fU where
 b_:(List UInt8)
 at_:Int
 aU:Bool
 open_:AV
def my(s_0:fU):Option (aG×Int×fU):=
 aQ (eI s_0.b_ s_0.at_ s_0.aU) fun r1=>
 jn (
  if r1.2==0 then
   some (fU.mk s_0.b_ r1.1.To s_0.aU s_0.open_)
  else
   some s_0) fun(o5:fU)=>
 some (r1.1,r1.2,o5)
def vK{s_0}{B0:Nat}{s:ae}{Q:List AV->ae->Prop}(hB0:s B0=some (.cells [sF 1 s_0.b_,.int .i64 s_0.at_,.bool s_0.aU,s_0.open_])):ok (my s_0) (fun r=>Q [.agg [.int .i64 r.1.Kind,.int .i64 r.1.aS,.int .i64 r.1.To,.int .i64 r.1.V.Kind,.int .i64 r.1.V.N,.str r.1.V.S.b,sF 4 r.1.V.L,.str r.1.S.b],.int .i64 r.2.1] (s.set B0 (.cells [sF 1 r.2.2.b_,.int .i64 r.2.2.at_,.bool r.2.2.aU,r.2.2.open_])))->FN prog 160 [.ref B0 0] s Q:=by
 rw[<-bq hB0]
 refine FR 31 [⟨2,false,some (8,true)⟩,⟨3,true,none⟩] 0x296161c20ca991762489d549d37e332c8fb357ba8a96d3a8d96f8e82e0943536e42910a3a2ca8660d51da2fe0c42a6cddfdd745bee24da9d5bfe95800f8e555b8a91c643914b17ae4baa5b8c69cd573c2eb11f3b07d88e3b2d1c3761593aa68b076a9a0383ca7b2003defd1eb37e000000010a0f8b my.eq_1 ?_
 repeat'(first
  |((with_reducible refine Mu ?_ ?_);exact rfl)
  |with_reducible refine c9 (fun _(h:eI s_0.b_ s_0.at_ s_0.aU=some _)=>(iW k9 h:)) (fun _=>rfl) (fun r1=>?_)
  |((with_reducible refine dZ (fun(o5:fU)=>⟨[(2,.loc [.int .i64 0,.int .i64 0,.int .i64 0,.int .i64 0,.int .i64 0,.str (aO.mk []).b,.sl true 4 0 [],.str (aO.mk []).b]),(4,.loc [.int .i64 r1.1.Kind,.int .i64 r1.1.aS,.int .i64 r1.1.To,.int .i64 r1.1.V.Kind,.int .i64 r1.1.V.N,.str r1.1.V.S.b,sF 4 r1.1.V.L,.str r1.1.S.b]),(5,.int .i64 r1.2)],[],(s.set B0 (.cells [sF 1 o5.b_,.int .i64 o5.at_,.bool o5.aU,o5.open_]))⟩) (fun J=>?_) ?_);rotate_left;rintro o5)
  |refine Xe2 ?_|exact Xf6)
def dh(s_0:fU)(v_1:aa):Option (aa×Int×fU):=
 aQ (eI s_0.b_ s_0.at_ s_0.aU) fun r1=>
 aQ (jA (!(r1.2 !=0)) false (jO r1.1)) fun r2=>
 if(r1.2 !=0)||(!r2)then
  aQ (gV r1.2) fun r3=>
  some (v_1,r3,s_0)
 else
  aQ (eI s_0.b_ r1.1.To s_0.aU) fun r4=>
  if((r4.2 !=0)||(r4.1.Kind !=6))||(!(r4.1.S.b==(aO.mk [82]).b))then
   aQ (gV r4.2) fun r5=>
   some (v_1,r5,s_0)
  else
   if((decide (v_1.N<1))||(decide (v_1.N>4096)))||(r1.1.V.N !=0)then
    some (v_1,26,s_0)
   else
    some ((aa.mk 8 v_1.N (aO.mk []) ([]:List aa)),0,(fU.mk s_0.b_ r4.1.To s_0.aU s_0.open_))
def xj{s_0 v_1}{B0:Nat}{s:ae}{Q:List AV->ae->Prop}(hB0:s B0=some (.cells [sF 1 s_0.b_,.int .i64 s_0.at_,.bool s_0.aU,s_0.open_])):ok (dh s_0 v_1) (fun r=>Q [.agg (MB r.1),.int .i64 r.2.1] (s.set B0 (.cells [sF 1 r.2.2.b_,.int .i64 r.2.2.at_,.bool r.2.2.aU,r.2.2.open_])))->FN prog 220 [.ref B0 0,.agg (MB v_1)] s Q:=by
 rw[<-bq hB0]
 refine FR 87 [⟨4,false,some (4,true)⟩,⟨5,true,none⟩] 0x1493c2500824ffa629457a2b6acff43c28adf8a8ad9071b84635d11d04ea3fac364a5d0c7142835f1ee462637d59a38bd24f858aace882b12e25697f4db954a9dd547f4eb4ef56fb5563da5b23a83b571e357720381b5153e3e758a01a95ac327a632afc2cefdc2b063c95187bdeaf54757569c34f28992321b0bd6caa6f5cf463c682d2a8202db2e92b8c159414ecbb6317e6dfa6b314cfcd776cb455f6087ce6c36b5f370c80c8936d6ca9926354e117768a9453cf3a0b10814c7ec5050be990588b8ee41859eb881049541986379e408a10aa56f60e56b89112c6b8a6ba60a3e285320eb67e69cd00b83a017fc969c688f619562aaa29aab0c8440b9bc5636c5760d237618443522e45cf827611d166cd3747ec09fde041b6da6d3776cd481dbe8bc02c65bdd89529eb402da4609aed88bc4d558c3aa531205d93f21795de8b5c257b550805b3ae0d3d00d92bc39a03c dh.eq_1 ?_
 repeat'(first
  |with_reducible exact dm
  |((with_reducible refine Mu ?_ ?_);exact rfl)
  |(with_reducible first|refine b8 ?_ ?_|refine dv ?_|refine c9 (fun _(h:eI s_0.b_ s_0.at_ s_0.aU=some _)=>(iW k9 h:)) (fun _=>rfl) (fun r1=>?_)|refine jo rfl (fun _(h:jO r1.1=some _)=>lR h) (fun _=>rfl) (fun r2=>?_)|refine c9 (fun _(h:gV r1.2=some _)=>(iW wj h:)) (fun _=>rfl) (fun r3=>?_)|refine c9 (fun _(h:eI s_0.b_ r1.1.To s_0.aU=some _)=>(iW k9 h:)) (fun _=>rfl) (fun r4=>?_)|refine c9 (fun _(h:gV r4.2=some _)=>(iW wj h:)) (fun _=>rfl) (fun r5=>?_))
  |refine Xe2 ?_|exact Xf6)
structure aX where
 ga:Bool
 l_:(List aa)
end Go.AB
end
section
namespace Go.AB
open Go
def Holds(s0 s:ae)(H:List (Nat×SO)):Prop:=Sub s0 s/\(∀p∈H,s p.1=some p.2/\s0 p.1=none)/\(H.map Prod.fst).Nodup
def Holds.perm{s0 s:ae}{H H':List (Nat×SO)}(h:Holds s0 s H)(p:H.Perm H'):Holds s0 s H':=⟨h.1,fun x hx=>h.2.1 x (p.mem_iff.2 hx),(p.map Prod.fst).nodup_iff.1 h.2.2⟩
def Holds.nil{s:ae}:Holds s s []:=⟨Sub.refl s,fun p hp=>A_,BY⟩
theorem Holds.get{s0 s:ae}{k:Nat}{o:SO}{H:List (Nat×SO)}(h:Holds s0 s ((k,o)::H)):s k=some o:=(h.2.1 _ List.mem_cons_self).1
def Holds.mem{s0 s:ae}{k:Nat}{o:SO}{H:List (Nat×SO)}(h:Holds s0 s H)(hm:(k,o)∈H):s k=some o:=(h.2.1 _ hm).1
def Holds.tail{s0 s:ae}{p:Nat×SO}{H:List (Nat×SO)}(h:Holds s0 s (p::H)):Holds s0 s H:=⟨h.1,fun x hx=>h.2.1 x (List.mem_cons_of_mem _ hx),(List.nodup_cons.1 h.2.2).2⟩
theorem Holds.set{s0 s:ae}{k:Nat}{o o':SO}{H:List (Nat×SO)}(h:Holds s0 s ((k,o)::H)):Holds s0 (s.set k o') ((k,o')::H):=by
 obtain⟨h1,h2,h3⟩:=h
 have h0:=(h2 _ List.mem_cons_self).2
 refine⟨fun b x hb=>?_,fun p hp=>?_,h3⟩
 ·rw[ai (fun e=>A_)];exact h1 b x hb
 ·rcases List.mem_cons.1 hp with rfl|hp
  ·grind [cD]
  ·obtain⟨q1,q2⟩:=h2 p (List.mem_cons_of_mem _ hp)
   refine⟨?_,q2⟩
   rw[ai (fun e=>?_)];exact q1
   grind
def Holds.alk{s0 s:ae}{H:List (Nat×SO)}(h:Holds s0 s H){k:Nat}(hk:s k=none):k∉H.map Prod.fst:=by
 intro hm
 obtain⟨p,hp,rfl⟩:=List.mem_map.1 hm
 rw[(h.2.1 p hp).1]at hk;cases hk
theorem Holds.alloc{s0 s:ae}{k:Nat}{o:SO}{H:List (Nat×SO)}(h:Holds s0 s H)(hk:s k=none):Holds s0 (s.set k o) ((k,o)::H):=by
 obtain⟨h1,h2,h3⟩:=h
 have h0:s0 k=none:=by
  cases e:s0 k with
  |none=>rfl
  |some x=>rw[h1 k x e]at hk;cases hk
 refine⟨h1.set hk,fun p hp=>?_,A_⟩
 rcases List.mem_cons.1 hp with rfl|hp
 ·grind [cD]
 grind [q1,q2,ai]
theorem Holds.sub{s0 s s':ae}{H:List (Nat×SO)}(h:Holds s0 s H)(hs:Sub s s'):Holds s0 s' H:=⟨fun b o hb=>hs b o (h.1 b o hb),fun p hp=>⟨hs _ _ (h.2.1 p hp).1,(h.2.1 p hp).2⟩,h.2.2⟩
theorem Sn{s:ae}{k j:Nat}(h:j≠k):(s.del k) j=s j:=by unfold ae.del;rw[if_neg h]
def HR{s:ae}{k:Nat}{o:SO}(h:s k=some o):(s.del k).set k o=s:=by grind [ae.set,ae.del]
theorem Holds.del{s0 s:ae}{k:Nat}{o:SO}{H:List (Nat×SO)}(h:Holds s0 s ((k,o)::H)):Holds s0 (s.del k) H/\(s.del k) k=none:=by
 obtain⟨h1,h2,h3⟩:=h
 have h0:=(h2 _ List.mem_cons_self).2
 refine⟨⟨fun b x hb=>?_,fun p hp=>?_,(List.nodup_cons.1 h3).2⟩,by unfold ae.del;simp⟩
 ·rw[Sn (fun e=>A_)];exact h1 b x hb
 ·obtain⟨q1,q2⟩:=h2 p (List.mem_cons_of_mem _ hp)
  refine⟨?_,q2⟩
  rw[Sn (fun e=>?_)];exact q1
  grind
section
variable{α:Type}[aP α]
def pz(r:cZ)(l:List α):List (Nat×SO):=match r with
 |none=>[]
 |some (b,_,sp)=>[(b,.cells (flat l++sp))]
def NX(r:cZ)(l:List α):Prop:=match r with
 |none=>l=[]
 |some (_,cap,sp)=>0<cap/\l.length<=cap/\(flat l++sp).length=cap*aP.w α/\views sp=sp
def Holds.row{s0 s:ae}{r:cZ}{l:List α}{H:List (Nat×SO)}(h:Holds s0 s (pz r l++H))(hf:NX r l):∃s1,s=jb s1 r l/\fY s1 r l/\Holds s0 s1 H:=by
 cases r with
 |none=>exact⟨s,rfl,hf,h⟩
 |some x=>
  obtain⟨b,cap,sp⟩:=x
  have h':=h
  obtain⟨h1,h2⟩:=h'.del
  exact⟨s.del b,(HR h'.get).symm,⟨h2,hf⟩,h1⟩
def Holds.aaF{s0 s1:ae}{r:cZ}{l:List α}{H:List (Nat×SO)}(h:Holds s0 s1 H)(ho:fY s1 r l):Holds s0 (jb s1 r l) (pz r l++H)/\NX r l:=by
 cases r with
 |none=>exact⟨h,ho⟩
 |some x=>exact⟨h.alloc ho.1,ho.2⟩
end
end Go.AB
end
section
set_option maxRecDepth 16000
namespace Go.AB
open Go
open Go.Proofs.Tryz (prog)
attribute[-go_sem] Nat.add_zero mO cF
def l5:IC:=dec 0x258b7d3a0d9a5c6788210d18f12b662ff5f5a178ba5916c2ce9fd5d535b871c98a5ce7de0a4f6aa3c19b885a40fab46acd9cc944efc84b51bfc3aeb71fae8ff97f25323752c295fbf3fd34587805b77b7dd062da56b03fa5408cf80b91f8bafc79d7cba39cbc1a47101c679271b51d820d1aa3d842b2c500eb23ac03c0fc37378f10cb6f2dcf511f886c88374986b0be7dc6f341fb64d8a3cee7c8730c428fc0dcbeb17f667af5f6955da2b3550805b3ae0d3d00d92da99a03c
def s8:eO prog 188 47 [⟨4,false,some (4,true)⟩,⟨5,true,none⟩] l5=true:=B_
def nu:IC:=dec 0x9eff11f0280aa8837cd17149baf2ac3dfcfff7fd5be1db4ad3da22635ff9659d8aebb78acaed4fea5849c4456c5bae7f87f6cf13eac034c45164672acf93f27b417c1d7a62df857e4dbfaa01425a3372ca3f275c57a14bd7b739c6dbcf09c66c5cb4076e3d1aec17e217c24f295a05da426758be68fc05a5ff6486a10ac6fbbf6e3bc39a2586ad1a52b09259717e62565db6dddfecaaf09c0202dfd00b9a2ac1ad4c213372db98739993ef162af3226249f80b719f08ca661b577e2d28a98dbc6047ca84f4230504cea1546074f11b4cec3eed10f3a621b905135913fee36b26453d681649463132fc8edc18fb443a16ad4024f67c8aad289c17b5636465d407f97fbc7ac6098f4e30227fc605128db3ae0d3d00d92da99a08d
def vD:eO prog 161 54 [⟨4,false,some (4,true)⟩,⟨5,true,none⟩,⟨6,true,none⟩] nu=true:=B_
structure Mo where
 n:Option Nat
def Mo.c(x:Mo):AV:=match x.n with
 |none=>.fN
 |some b=>.ref b 0
instance:aP Mo:=⟨1,fun x=>[x.c],⟨none⟩,By,fun _=>rfl,fun x=>by obtain⟨_|b⟩:=x<;>rfl⟩
def refs(ids:List (Nat×cZ)):List Mo:=ids.map fun i=>⟨some i.1⟩
def Ua(r:cZ)(v:aX):SO:=.cells [.bool v.ga,jk r v.l_.length]
def lvH(id:Nat×cZ)(v:aX):List (Nat×SO):=(id.1,Ua id.2 v)::pz id.2 v.l_
def Dr:List (Nat×cZ)->List aX->List (Nat×SO)
 |id::ids,v::vs=>lvH id v++Dr ids vs
 |_,_=>[]
def XC:List (Nat×cZ)->List aX->Prop
 |id::ids,v::vs=>NX id.2 v.l_/\XC ids vs
 |[],[]=>True
 |_,_=>False
theorem re:∀{ids:List (Nat×cZ)}{vs:List aX},XC ids vs->ids.length=vs.length
 |[],[],_=>rfl
 |_::ids,_::vs,h=>by rw[List.length_cons,List.length_cons,re h.2]
 |[],_::_,h=>h.elim
 |_::_,[],h=>h.elim
structure PS where
 b:List UInt8
 at_:Int
 last:Bool
 st:List aX
def jZ(p:PS)(rr:cZ):List AV:=[.sl false 1 p.b.length (flat p.b),.int .i64 p.at_,.bool p.last,jk rr p.st.length]
def rO(s0 s:ae)(B:Nat)(p:PS)(rr:cZ)(ids:List (Nat×cZ)):Prop:=XC ids p.st/\NX rr (refs ids.reverse)/\Holds s0 s ((B,.cells (jZ p rr))::(pz rr (refs ids.reverse)++Dr ids p.st))
theorem rl(ids:List (Nat×cZ)):(refs ids).length=ids.length:=by unfold refs;simp
theorem rO.cell{s0 s:ae}{B:Nat}{p:PS}{rr:cZ}{ids:List (Nat×cZ)}(h:rO s0 s B p rr ids):s B=some (.cells (jZ p rr)):=h.2.2.get
theorem rO.ref{s0 s:ae}{B:Nat}{p:PS}{rr:cZ}{id:Nat×cZ}{ids:List (Nat×cZ)}(h:rO s0 s B p rr (id::ids)):
 ∃rb cap sp,rr=some (rb,cap,sp)/\s rb=some (.cells (flat (refs (id::ids).reverse)++sp))/\(flat (refs (id::ids).reverse)++sp)[ids.length]? =some (.ref id.1 0):=by
 obtain⟨h1,h2,h3⟩:=h
 have hl:0<(refs (id::ids).reverse).length:=by rw[rl];simp
 cases rr with
 |none=>rw[h2]at hl;simp at hl
 |some x=>
  obtain⟨rb,cap,sp⟩:=x
  refine⟨rb,cap,sp,rfl,h3.mem (by simp[pz]),?_⟩
  have hi:ids.length<(refs (id::ids).reverse).length:=by rw[rl];simp
  have:=wR (refs (id::ids).reverse) sp (r:=0) hi By
  rw[show ids.length*aP.w Mo+0=ids.length by show ids.length*1+0=_;omega]at this
  rw[this]
  have e:(refs (id::ids).reverse)[ids.length]=⟨some id.1⟩:=by
   unfold refs
   simp
  rw[e];rfl
theorem YA{cs:List AV}{off:Nat}{a:AV}(h:cs[off]? =some a):off+1<=cs.length/\AB.sub cs off 1=[a]:=by
 obtain⟨h1,h2⟩:=List.getElem?_eq_some_iff.1 h
 refine⟨h1,?_⟩
 unfold AB.sub
 rw[List.drop_eq_getElem_cons h1,h2];rfl
theorem QI{cs:List AV}{off b:Nat}(h:cs[off]? =some (.ref b 0)):Li [.fN] false off (some (.cells cs))=.prt (off+1<=cs.length) (.ref b 0):=by
 show ckP _ (oq false (pad [.fN] (views (AB.sub cs off 1))))=_
 rw[(YA h).2]
 rfl
def Jk{s0 s:ae}{B:Nat}{p:PS}{rr:cZ}{ids:List (Nat×cZ)}(h:rO s0 s B p rr ids)(cg:p.st.length<=room){Q:List AV->ae->Prop}(hn:p.st=[]->Q [.fN] s)
 (hc:∀id gp v vs,ids=id::gp->p.st=v::vs->Q [.ref id.1 0] s):FN prog 162 [.ref B 0] s Q:=by
 have hB:=h.cell
 have hlen:=re h.1
 refine FS 21 [⟨2,true,none⟩] 0x5865d3436d72371904e1ab72be2cc4df5ee76e43792ea8657927ea0f7b336200cbdc9d4c0bcd7c7fa9a4f4db163ddd3e4d52ea911f47a386141d9388473a ?_
 unfold jZ at hB
 refine Xg0 hB ?_
 refine⟨fun he=>hn (List.eq_nil_of_length_eq_zero A_),fun hne=>?_⟩
 have hne:=p_
 cases eJ:p.st with
 |nil=>rw[eJ]at hne;exact absurd rfl hne
 |cons v vs=>
 cases ids with
 |nil=>rw[eJ]at hlen;simp at hlen
 |cons id gp=>
 obtain⟨rb,cap,sp,rfl,h1,h2⟩:=h.ref
 have hl:p.st.length=gp.length+1:=A_
 rw[<-eJ]
 have hr:room=140737488355328:=rfl
 have hw:aC (p.st.length -1)=gp.length:=E_
 rw[hw]
 refine⟨AT,?_⟩
 show qK _ _ _ (Li _ _ _ (s rb))
 rw[h1,Int.toNat_natCast,Nat.mul_one,QI h2]
 refine Xe2 ?_
 exact⟨A_,hc id gp v vs rfl eJ⟩
def Eg{s:ae}{B n:Nat}{d:Bool}{r:cZ}{Q:List AV->ae->Prop}(hB:s B=some (.cells [.bool d,jk r n]))(hq:Q [.bool (d&&((n:Int).tmod 2==0))] s):FN prog 217 [.ref B 0] s Q:=by
 refine FS 16 [⟨2,true,none⟩] 0x135b9169b7b375df6a7a18c2e418e74502b3a9bb4bc771a03cbec6a53fdd9450c55e9c37f1ff9b3d8824473a ?_
 refine Xg0 hB ?_
 exact hq
def e9:List aX->Bool
 |[]=>false
 |v::_=>v.ga&&((v.l_.length:Int).tmod 2==0)
def rO.lv{s0 s:ae}{B:Nat}{p:PS}{rr:cZ}{id:Nat×cZ}{ids:List (Nat×cZ)}{v:aX}{vs:List aX}(h:rO s0 s B p rr (id::ids))(eJ:p.st=v::vs):s id.1=some (Ua id.2 v):=by
 refine h.2.2.mem ?_
 rw[eJ]
 simp[Dr,lvH]
theorem rk(id:Nat×cZ)(ids:List (Nat×cZ)):refs (id::ids).reverse=refs ids.reverse++[⟨some id.1⟩]:=by unfold refs;simp
def FV{E:St}{d:Option Nat}{K:St->Prop}{s0 s:ae}{B b:Nat}{p:PS}{rr:cZ}{ids:List (Nat×cZ)}{iV:Bool}(h:rO s0 s B p rr ids)(cg:p.st.length<=64)(hb:s b=none)(hσ:E.s=s.set b (.cells [.bool iV,.arr 0 0 0 0]))
 (hK:∀s1 rr',s1 B=some (.cells (jZ p rr))->(∃gp,rO s0 (s1.set B (.cells (jZ {p with st:=⟨iV,[]⟩::p.st} rr'))) B {p with st:=⟨iV,[]⟩::p.st} rr' gp)->K ({E with s:=s1}.put d (jk rr' (p.st.length+1)))):
 eS 1 8 [.fN] E d K (jk rr p.st.length) (vL E.s 1 (.sl true 1 1 [.ref b 0])):=by
 obtain⟨h1,h2,h3⟩:=h
 have hlen:=re h1
 have hr:room=140737488355328:=rfl
 have hl:(refs ids.reverse).length=p.st.length:=by rw[rl];simp[hlen]
 have H0:=h3.alloc (o:=.cells [.bool iV,.arr 0 0 0 0]) hb
 have H0':=H0.perm (List.perm_append_comm_assoc [(b,SO.cells [.bool iV,.arr 0 0 0 0]),(B,SO.cells (jZ p rr))] _ _)
 obtain⟨s1,e,ok,H1⟩:=H0'.row h2
 rw[gl,<-hl]
 refine xH (z:=(⟨none⟩:Mo)) (v:=(⟨some b⟩:Mo)) (hσ.trans e) ok rfl KW fun s' r' hs' ok'=>?_
 rw[hl]
 obtain⟨H2,hf⟩:=(H1.sub hs').aaF ok'
 have H3:Holds s0 (jb s' r' (refs ids.reverse++[⟨some b⟩])) ((B,.cells (jZ p rr))::(pz r' (refs ids.reverse++[⟨some b⟩])++((b,.cells [.bool iV,.arr 0 0 0 0])::Dr ids p.st))):=by
  refine H2.perm ?_
  refine(List.perm_append_comm_assoc _ [(b,SO.cells [.bool iV,.arr 0 0 0 0]),(B,SO.cells (jZ p rr))] _).trans ?_
  refine(List.Perm.swap ..).trans ?_
  refine List.Perm.cons _ ?_
  exact List.perm_append_comm_assoc [(b,SO.cells [.bool iV,.arr 0 0 0 0])] _ _
 refine hK _ r' H3.get ⟨(b,none)::ids,⟨rfl,h1⟩,?_,?_⟩
 ·rw[rk];exact hf
 ·rw[rk]
  exact H3.set
def RR{s0 s:ae}{B:Nat}{p:PS}{rr:cZ}{ids:List (Nat×cZ)}(h:rO s0 s B p rr ids)(cg:p.st.length<=64){iV:Bool}{Q:List AV->ae->Prop}(he:e9 p.st=true->Q [.int .i64 11] s)
 (hd:e9 p.st=false->64<=p.st.length->Q [.int .i64 15] s)
 (hk:e9 p.st=false->p.st.length<64->∀s' rr' gp,rO s0 s' B {p with st:=⟨iV,[]⟩::p.st} rr' gp->Q [.int .i64 0] s'):FN prog 186 [.ref B 0,.bool iV] s Q:=by
 have hB:=h.cell
 have hlen:=re h.1
 have hr:room=140737488355328:=rfl
 refine FS 32 [⟨4,true,none⟩] 0xf0474b042b806c442b5b52dcf60dc2ee95c66bee34a365c3726032d784f7114712bc80404c21f1a15b48af0052ca2a855f87963740005eb3841d8bccc355486fb184b3af4ec6c864fe7854b776c4958717fde679fd70ea221d9d3678c8da57269a0c47530e9af75a14740d3980083fa ?_
 unfold jZ at hB
 refine Jk h AT (fun eJ=>?_) (fun id gp v vs M9 eJ=>?_)
 ·refine Xg0 hB ?_
  refine⟨[.bool false],rfl,fun h=>F_,?_⟩
  have hw:e9 p.st=false:=V_
  simp -implicitDefEqProofs only[go_sem,seval,hB,Bool.false_and,Bool.and_false]
  refine⟨fun hx=>he A_,fun hx=>?_⟩
  refine⟨fun hx=>hd hw Xd0,fun hx b hb=>?_⟩
  have hlt:p.st.length<64:=Xd1
  refine FV h cg hb rfl fun s1 rr' hB1⟨gp,Tt⟩=>?_
  unfold jZ at hB1
  refine Xg0 hB1 ?_
  exact hk hw hlt _ _ _ Tt
 ·refine Xg0 hB ?_
  subst M9
  have hlv:=h.lv eJ
  refine⟨[.bool (e9 p.st)],rfl,fun _=>⟨_,rfl,Eg hlv (by rw[eJ];exact⟨rfl,rfl⟩)⟩,?_⟩
  simp -implicitDefEqProofs only[go_sem,seval,hB,Bool.true_and,Bool.and_true]
  refine⟨fun hx=>he A_,fun hx=>?_⟩
  have hw:e9 p.st=false:=by first|exact hw|exact hx
  refine⟨fun hx=>hd hw Xd0,fun hx b hb=>?_⟩
  have hlt:p.st.length<64:=Xd1
  refine FV h cg hb rfl fun s1 rr' hB1⟨gp,Tt⟩=>?_
  unfold jZ at hB1
  refine Xg0 hB1 ?_
  exact hk hw hlt _ _ _ Tt
def afx{E:St}{d:Option Nat}{K:St->Prop}{s0:ae}{R:List (Nat×SO)}{r:cZ}{l:List aa}(hσ:Holds s0 E.s (pz r l++R))(hf:NX r l)
 (hK:∀s2,Holds s0 s2 R->K ({E with s:=s2}.put d (.sl false 4 l.length (flat l)))):ye 4 false E d K (jk r l.length):=by
 cases r with
 |none=>
  obtain rfl:l=[]:=hf
  exact .inl ⟨rfl,rfl,rfl,hK E.s hσ⟩
 |some x=>
  obtain⟨b,cap,sp⟩:=x
  obtain⟨f1,f2,f3,f4⟩:=hf
  have hE':=hσ
  refine .inr ⟨f1,f2,fun h=>A_,?_⟩
  have hle:0+l.length*4<=(flat l++sp).length:=by rw[f3,Nat.zero_add];exact Nat.mul_le_mul_right _ f2
  have hc:jU l.length 4 0 (E.s b)=some (l.length,flat l):=by
   rw[hE'.get]
   unfold jU
   simp only[decide_eq_true hle,cond_true]
   have:=ik l sp 4 0 l.length rfl BY
   rw[this,List.drop_zero,List.take_length,aH]
  show ye.frzK 4 false E d K b l.length (jU l.length 4 0 (E.s b))
  rw[hc]
  exact hK _ hE'.del.1
def rO.pop{s0 s:ae}{B:Nat}{p:PS}{rr:cZ}{id:Nat×cZ}{ids:List (Nat×cZ)}{v:aX}{vs:List aX}(h:rO s0 s B p rr (id::ids))(eJ:p.st=v::vs):
 ∃rr',LS rr'=LS rr/\I3 rr'=I3 rr/\NX rr' (refs ids.reverse)/\XC ids vs/\NX id.2 v.l_/\Holds s0 s ((B,.cells (jZ p rr))::(pz rr' (refs ids.reverse)++(lvH id v++Dr ids vs))):=by
 have hr:=h.ref
 obtain⟨rb,cap,sp,rfl,_,_⟩:=hr
 obtain⟨h1,h2,h3⟩:=h
 rw[eJ]at h1 h3
 obtain⟨f1,f2,f3,f4⟩:=h2
 have e:flat (refs (id::ids).reverse)++sp=flat (refs ids.reverse)++(.ref id.1 0::sp):=by rw[rk,c8,List.append_assoc];rfl
 refine⟨some (rb,cap,.ref id.1 0::sp),rfl,rfl,⟨f1,?_,?_,?_⟩,h1.2,h1.1,?_⟩
 ·rw[rl]at f2⊢;simp at f2⊢;omega
 ·rw[<-e];exact f3
 ·unfold views at f4⊢;rw[List.map_cons,f4];rfl
 ·unfold pz at h3⊢
  simp only at h3⊢
  rw[<-e]
  exact h3
def Pl{s0 s:ae}{X:Nat×SO}{R T:List (Nat×SO)}{id:Nat×cZ}{v:aX}(h:Holds s0 s (X::(R++(lvH id v++T)))):Holds s0 s (pz id.2 v.l_++(X::(R++T))):=by
 have p1:(X::(R++(lvH id v++T))).Perm ((id.1,Ua id.2 v)::((X::R)++(pz id.2 v.l_++T))):=List.perm_middle (l₁:=X::R)
 have p2:((X::R)++(pz id.2 v.l_++T)).Perm (pz id.2 v.l_++((X::R)++T)):=List.perm_append_comm_assoc ..
 exact(h.perm p1).tail.perm p2
def VO:List AV:=[.int .i64 0,.int .i64 0,.str [],.sl false 4 0 []]
def oG(st:List aX)(iV:Bool):Bool:=match st with
 |[]=>true
 |v::_=>(v.ga !=iV)||(iV&&!e9 st)
abbrev xF(pf:List aa->Option (List aa×Int)):Prop:=∀(s:ae)(l:List aa)(r:List aa×Int),pf l=some r->FE prog 218 [.sl false 4 l.length (flat l)] s [.sl false 4 r.1.length (flat r.1),.int .i64 r.2] s
@[go_sem]theorem Ui:mj .fN=.no:=rfl
@[go_sem]theorem RA(o:Nat)(x:IX):gP o x (.jg [])=.no:=rfl
@[go_sem]theorem aiO(E:St)(n:Nat):rd E (.jg []) n=none:=rfl
@[go_sem]theorem ahI(op:UnOp):unV op (.jg [])=.no:=by cases op<;>rfl
@[go_sem]theorem adQ(ne:Bool)(y:AV):MW ne (.jg []) y=.no:=rfl
def aba{pf:List aa->Option (List aa×Int)}(hpf:xF pf){s0 s:ae}{B:Nat}{p:PS}{rr:cZ}{ids:List (Nat×cZ)}(h:rO s0 s B p rr ids)(cg:p.st.length<=64){iV:Bool}{Q:List AV->ae->Prop}
 (h0:oG p.st iV=true->Q [.agg VO,.int .i64 11] s)
 (hA:∀v vs,p.st=v::vs->iV=false->oG p.st iV=false->∀s' rr' gp,rO s0 s' B {p with st:=vs} rr' gp->Q [.agg [.int .i64 6,.int .i64 0,.str [],.sl false 4 v.l_.length (flat v.l_)],.int .i64 0] s')
 (hD:∀v vs,p.st=v::vs->iV=true->oG p.st iV=false->ok (pf v.l_) fun r=>(r.2≠0->∀s',Sub s0 s'->Q [.agg VO,.int .i64 r.2] s')/\
   (r.2=0->∀s' rr' gp,rO s0 s' B {p with st:=vs} rr' gp->Q [.agg [.int .i64 7,.int .i64 0,.str [],.sl false 4 r.1.length (flat r.1)],.int .i64 0] s')):FN prog 187 [.ref B 0,.bool iV] s Q:=by
 have hB:=h.cell
 have hlen:=re h.1
 have hr:room=140737488355328:=rfl
 refine FS 81 [⟨4,false,some (4,true)⟩,⟨5,true,none⟩] 0x2e72d6f9e2048057991a5779638c001ff00b0d1178196141aa379dcae607acbce5609f0a2820595d79e870e78c38feea339da70fe08f55d611e75e38404b3485056e7143f68085d2f5fddb511d6904d9a0b290d13e5caa89c077c8bf74134a9b7e2a06bde99157497d2408d49ea458a75ffbc513fcaa3e4596a7cc7c9e9a574511b0936dba09e722f31774bcf6a53d025e8afc3622a810a7a234747a48c0320152a89a57c402267bf5f79cf840668a56d13d8eb0091c625048f18594ec32cbd20e360ca2439f29010f206eda1cd76113f1d312cadc0e7566c54fbaa2d139bca295db7ef09db98b1de6aaeafe31a451a338b0ce804304023c243f5db340d6df97505266dd7bbb6a5d17b64a9a10f16fe32eaa02e9da7918b003cd1eb37e0090cc4b ?_
 unfold jZ at hB
 refine Xe2 ?_
 refine Jk h AT (fun eJ=>?_) (fun id gp v vs M9 eJ=>?_)
 ·have KJ:oG p.st iV=true:=V_
  simp -implicitDefEqProofs only[go_sem,seval,hB,Bool.true_eq_false,false_implies,true_implies,true_and]
  exact h0 KJ
 ·subst M9
  have hlv:=h.lv eJ
  unfold Ua at hlv
  have hbd:oG p.st iV=((v.ga !=iV)||(iV&&!e9 p.st)):=V_
  have htw:e9 p.st=(v.ga&&((v.l_.length:Int).tmod 2==0)):=V_
  refine Xg0 hB ?_
  cases hdv:v.ga<;>cases iV
  all_goals(rw[hdv]at hlv;simp -implicitDefEqProofs only[go_sem,Nat.reduceBEq,Nat.reduceAdd,Nat.reduceMul,Nat.reduceLeDiff,Nat.reduceEqDiff,Nat.reduceBNe,UInt8.reduceToNat,UInt32.reduceToNat,hB,hlv,bL,beq_self_eq_true,Bool.and_self,Bool.not_true,Bool.not_false,Bool.and_false,Bool.false_and,Bool.and_true,Bool.true_and])
  ·have hbf:oG p.st false=false:=Xd3
   obtain⟨rr',e1,e2,f1,f2,f3,H⟩:=h.pop eJ
   have fI:p.st.length<=I3 rr:=by
    obtain⟨rb,cap,sp,rfl,_,_⟩:=h.ref
    have:=h.2.1.2.1
    rw[rl,List.length_reverse,hlen]at this
    exact this
   have hn:p.st.length=vs.length+1:=V_
   have hw:aC ((p.st.length:Int) -1)=(vs.length:Int):=E_
   rw[hw]
   refine⟨⟨AT,AT,AT⟩,?_⟩
   have H':=H.set (o':=.cells (jZ {p with st:=vs} rr'))
   have es:jZ {p with st:=vs} rr'=[.sl false 1 p.b.length (flat p.b),.int .i64 p.at_,.bool p.last,.arr (LS rr) 0 (vs.length:Int).toNat (I3 rr)]:=by
    unfold jZ jk
    rw[e1,e2];rfl
   rw[es]at H'
   have hl2:=H'.mem (k:=id.1) (o:=Ua id.2 v) (by simp[lvH])
   rw[hl2]
   unfold Ua
   refine Xe2 ?_
   refine afx (Pl H') f3 fun s2 H2=>?_
   refine Xe2 ?_
   exact hA v vs eJ rfl hbf s2 rr' gp ⟨f2,f1,by rw[es];exact H2⟩
  ·exact h0 Xd3
  ·exact h0 Xd3
  ·refine Eg hlv ?_
   simp -implicitDefEqProofs only[go_sem,seval,hB,hlv,bL,beq_self_eq_true,Bool.and_self,Bool.not_true,Bool.not_false,Bool.and_false,Bool.false_and,Bool.and_true,Bool.true_and]
   have af0:e9 p.st=((v.l_.length:Int).tmod 2==0):=by rw[htw,hdv];rfl
   refine⟨fun hx=>h0 (by rw[hbd,hdv,af0];simpa using hx),fun hx=>?_⟩
   have hbf:oG p.st true=false:=by rw[hbd,hdv,af0];simpa using hx
   obtain⟨rr',e1,e2,f1,f2,f3,H⟩:=h.pop eJ
   refine afx (Pl H) f3 fun s2 H2=>?_
   have hB2:=H2.get
   unfold jZ at hB2
   obtain⟨r,hr1,hr2,hr3⟩:=hD v vs eJ rfl hbf
   refine Xe2 ?_
   refine FE.app (hpf s2 v.l_ r hr1) ⟨rfl,?_⟩
   refine Xf2 hB2 ?_
   have fI:p.st.length<=I3 rr:=by
    obtain⟨rb,cap,sp,rfl,_,_⟩:=h.ref
    have:=h.2.1.2.1
    rw[rl,List.length_reverse,hlen]at this
    exact this
   have hn:p.st.length=vs.length+1:=V_
   have hw:aC ((p.st.length:Int) -1)=(vs.length:Int):=E_
   rw[hw]
   have es:jZ {p with st:=vs} rr'=[.sl false 1 p.b.length (flat p.b),.int .i64 p.at_,.bool p.last,.arr (LS rr) 0 (vs.length:Int).toNat (I3 rr)]:=by
    unfold jZ jk
    rw[e1,e2];rfl
   refine⟨fun hx=>hr2 Nl s2 H2.1,fun hx=>⟨⟨AT,AT,AT⟩,?_⟩⟩
   have H3:=H2.set (o':=.cells (jZ {p with st:=vs} rr'))
   rw[es]at H3
   exact hr3 Nl _ rr' gp ⟨f2,f1,by rw[es];exact H3⟩
set_option maxRecDepth 4000
def Yg(b:List UInt8)(a:Int)(last:Bool)(o:AV)(v:aa){r:aa×Int×fU}(h:dh ⟨b,a,last,.fN⟩ v=some r):dh ⟨b,a,last,o⟩ v=some (r.1,r.2.1,⟨b,r.2.2.at_,last,o⟩):=by
 unfold dh at h⊢
 simp only[]at h⊢
 cases h1:eI b a last with
 |none=>rw[h1]at h;cases h
 |some r1=>
  rw[h1]at h
  simp only[aQ]at h⊢
  cases h2:jA (!(r1.2 !=0)) false (jO r1.1)with
  |none=>rw[h2]at h;cases h
  |some r2=>
   rw[h2]at h
   simp only[]at h⊢
   cases h3:((r1.2 !=0)||(!r2))with
   |true=>
    simp only[h3,if_true]at h⊢
    cases h4:gV r1.2 with
    |none=>rw[h4]at h;cases h
    |some r3=>rw[h4]at h;cases h;rfl
   |false=>
    simp only[h3,Bool.false_eq_true,if_false]at h⊢
    cases h4:eI b r1.1.To last with
    |none=>rw[h4]at h;cases h
    |some r4=>
     rw[h4]at h
     simp only[]at h⊢
     cases h5:(((r4.2 !=0)||(r4.1.Kind !=6))||(!(r4.1.S.b==(aO.mk [82]).b)))with
     |true=>
      first
      |(simp only[h5,if_true]at h;cases h;done)
      |(simp only[h5,if_true]at h⊢
        cases h6:gV r4.2 with
        |none=>rw[h6]at h;cases h
        |some r5=>rw[h6]at h;cases h;rfl)
     |false=>
      simp only[h5,Bool.false_eq_true,if_false]at h⊢
      cases h6:(((decide (v.N<1))||(decide (v.N>4096)))||(r1.1.V.N !=0))with
      |true=>first|(simp only[h6,if_true]at h;cases h;done)|(simp only[h6,if_true]at h⊢;cases h;rfl)
      |false=>first|(simp only[h6,Bool.false_eq_true,if_false]at h;cases h;done)|(simp only[h6,Bool.false_eq_true,if_false]at h⊢;cases h;rfl)
def zV:aa:=⟨0,0,⟨[]⟩,[]⟩
def vA(v:aa):AV:=.agg [.int .i64 v.Kind,.int .i64 v.N,.str v.S.b,.sl false 4 v.L.length (flat v.L)]
def tA(t:aG):AV:=.agg [.int .i64 t.Kind,.int .i64 t.aS,.int .i64 t.To,.int .i64 t.V.Kind,.int .i64 t.V.N,.str t.V.S.b,.sl false 4 t.V.L.length (flat t.V.L),.str t.S.b]
def mH(p:PS)(t:aG):Option (aa×Int×Int):=
 if e9 p.st&&(t.Kind !=1||t.V.Kind !=5)then some (zV,11,p.at_)
 else if t.Kind==6 then aQ (kW t.S) fun r=>some (r.1,r.2,p.at_)
 else aQ (jO t) fun w=>if w then aQ (dh ⟨p.b,p.at_,p.last,.fN⟩ t.V) fun r=>some (r.1,r.2.1,r.2.2.at_)else some (t.V,0,p.at_)
def rO.place{s0 s:ae}{B:Nat}{p:PS}{rr:cZ}{ids:List (Nat×cZ)}(h:rO s0 s B p rr ids)(a:Int):rO s0 (s.set B (.cells (jZ {p with at_:=a} rr))) B {p with at_:=a} rr ids:=⟨h.1,h.2.1,h.2.2.set⟩
def NU{s0 s:ae}{B:Nat}{p:PS}{rr:cZ}{ids:List (Nat×cZ)}(h:rO s0 s B p rr ids){v:aa}{r:aa×Int×fU}(hr:dh ⟨p.b,p.at_,p.last,.fN⟩ v=some r){Q:List AV->ae->Prop}
 (hq:∀s',rO s0 s' B {p with at_:=r.2.2.at_} rr ids->Q [vA r.1,.int .i64 r.2.1] s'):FN prog 220 [.ref B 0,vA v] s Q:=by
 refine xj (s_0:=⟨p.b,p.at_,p.last,jk rr p.st.length⟩) h.cell ⟨_,Yg _ _ _ (jk rr p.st.length) _ hr,?_⟩
 exact hq _ (h.place _)
def Ra{s0 s:ae}{B:Nat}{p:PS}{rr:cZ}{ids:List (Nat×cZ)}(h:rO s0 s B p rr ids)(cg:p.st.length<=64){t:aG}{Q:List AV->ae->Prop}
 (hm:ok (mH p t) fun r=>∀s',rO s0 s' B {p with at_:=r.2.2} rr ids->Q [vA r.1,.int .i64 r.2.1] s'):FN prog 188 [.ref B 0,tA t] s Q:=by
 have hB:=h.cell
 have hlen:=re h.1
 have hr:room=140737488355328:=rfl
 unfold mH at hm
 simp only[Du,jN,bJ]at hm
 obtain⟨m1,m2⟩:=hm
 refine FO s8 rfl rfl ?_
 rw[l5]
 refine Xf7 ?_
 unfold jZ at hB
 unfold tA
 refine Xe2 ?_
 refine Jk h AT (fun eJ=>?_) (fun id gp v vs M9 eJ=>?_)
 ·have htw:e9 p.st=false:=V_
  rw[htw]at m1 m2
  refine Xe3 hB ?_
  refine⟨fun hk=>?_,fun hk=>?_⟩
  ·obtain⟨r,hr1,hr2⟩:=(m2 rfl).1 hk
   refine FE.app (qm hr1) ?_
   refine Xe2 ?_
   exact hr2 s h
  ·obtain⟨w,hw1,hw2⟩:=(m2 rfl).2 hk
   refine FE.app (lR hw1) ?_
   refine Xe2 ?_
   refine⟨fun hw=>?_,fun hw=>?_⟩
   ·obtain⟨r,hr1,hr2⟩:=hw2.1 hw
    refine NU h hr1 fun s' hs'=>?_
    unfold vA
    refine Xe2 ?_
    exact hr2 s' hs'
   ·exact hw2.2 hw s h
 ·subst M9
  have hlv:=h.lv eJ
  refine Xg0 hB ?_
  refine⟨fun _=>Eg hlv ?_,fun hx=>o_⟩
  have htw:(v.ga&&((v.l_.length:Int).tmod 2==0))=e9 p.st:=V_
  rw[htw]
  cases hw:e9 p.st<;>rw[hw]at m1 m2
  all_goals simp -implicitDefEqProofs only[go_sem,seval,hB,bL]
  ·refine⟨fun hk=>?_,fun hk=>?_⟩
   ·obtain⟨r,hr1,hr2⟩:=(m2 rfl).1 hk
    refine FE.app (qm hr1) ?_
    refine Xe2 ?_
    exact hr2 s h
   ·obtain⟨w,hw1,hw2⟩:=(m2 rfl).2 hk
    refine FE.app (lR hw1) ?_
    refine Xe2 ?_
    refine⟨fun hw=>?_,fun hw=>?_⟩
    ·obtain⟨r,hr1,hr2⟩:=hw2.1 hw
     refine NU h hr1 fun s' hs'=>?_
     unfold vA
     refine Xe2 ?_
     exact hr2 s' hs'
    ·exact hw2.2 hw s h
  ·refine⟨fun hx=>m1 hx s h,fun hx=>?_⟩
   refine⟨fun hk=>?_,fun hk=>?_⟩
   ·obtain⟨r,hr1,hr2⟩:=(m2 hx).1 hk
    refine FE.app (qm hr1) ?_
    refine Xe2 ?_
    exact hr2 s h
   ·obtain⟨w,hw1,hw2⟩:=(m2 hx).2 hk
    refine FE.app (lR hw1) ?_
    refine Xe2 ?_
    refine⟨fun hw=>?_,fun hw=>?_⟩
    ·obtain⟨r,hr1,hr2⟩:=hw2.1 hw
     refine NU h hr1 fun s' hs'=>?_
     unfold vA
     refine Xe2 ?_
     exact hr2 s' hs'
    ·exact hw2.2 hw s h
def HX(pf:List aa->Option (List aa×Int))(p:PS)(iV:Bool):Option (aa×Int×PS):=
 bif oG p.st iV then some (zV,11,p)else
 match p.st with
 |[]=>none
 |v::vs=>bif iV then aQ (pf v.l_) fun r=>bif r.2 !=0 then some (zV,r.2,p)else some (⟨7,0,⟨[]⟩,r.1⟩,0,{p with st:=vs})
  else some (⟨6,0,⟨[]⟩,v.l_⟩,0,{p with st:=vs})
def l8(p:PS)(iV:Bool):Int×PS:=bif e9 p.st then(11,p)else bif decide (64<=p.st.length)then(15,p)else(0,{p with st:=⟨iV,[]⟩::p.st})
def Y6(s0:ae)(B:Nat)(e:Int)(p:PS)(K:ae->Prop):Prop:=(e≠0->∀s',Sub s0 s'->K s')/\(e=0->∀s' rr' gp,rO s0 s' B p rr' gp->K s')
theorem Y6.at{s0 s:ae}{B:Nat}{e:Int}{p:PS}{K:ae->Prop}{rr:cZ}{ids:List (Nat×cZ)}(q:Y6 s0 B e p K)(h:rO s0 s B p rr ids):K s:=by
 by_cases he:e=0
 ·exact q.2 he _ _ _ h
 ·exact q.1 he _ h.2.2.1
def Y6.mono{s0:ae}{B:Nat}{e:Int}{p:PS}{K K':ae->Prop}(q:Y6 s0 B e p K)(h:∀s',K s'->K' s'):Y6 s0 B e p K':=⟨fun he s' hs=>h _ (q.1 he s' hs),fun he s' rr' gp hs=>h _ (q.2 he s' rr' gp hs)⟩
def Zz{pf:List aa->Option (List aa×Int)}(hpf:xF pf){s0 s:ae}{B:Nat}{p:PS}{rr:cZ}{ids:List (Nat×cZ)}(h:rO s0 s B p rr ids)(cg:p.st.length<=64){iV:Bool}{Q:List AV->ae->Prop}
 (hm:ok (HX pf p iV) fun r=>Y6 s0 B r.2.1 r.2.2 (Q [vA r.1,.int .i64 r.2.1])):FN prog 187 [.ref B 0,.bool iV] s Q:=by
 unfold HX at hm
 refine aba hpf h cg (fun hb=>?_) (fun v vs eJ hd hb s' rr' gp hs'=>?_) (fun v vs eJ hd hb=>?_)
 ·rw[hb,cond_true,bJ]at hm
  exact hm.at h
 ·rw[hb,cond_false,eJ]at hm
  subst hd
  simp only[cond_false,bJ]at hm
  exact hm.at hs'
 ·rw[hb,cond_false,eJ]at hm
  subst hd
  simp only[cond_true,jN]at hm
  obtain⟨r,hr,hm⟩:=hm
  refine⟨r,hr,fun he s' hs'=>?_,fun he s' rr' gp hs'=>?_⟩
  ·rw[show(r.2 !=0)=true by simpa using he,cond_true,bJ]at hm
   exact hm.1 he s' hs'
  ·rw[show(r.2 !=0)=false by simpa using he,cond_false,bJ]at hm
   exact hm.2 rfl s' rr' gp hs'
def Ow{s0 s:ae}{B:Nat}{p:PS}{rr:cZ}{ids:List (Nat×cZ)}(h:rO s0 s B p rr ids)(cg:p.st.length<=64){iV:Bool}{Q:List AV->ae->Prop}
 (hm:Y6 s0 B (l8 p iV).1 (l8 p iV).2 (Q [.int .i64 (l8 p iV).1])):FN prog 186 [.ref B 0,.bool iV] s Q:=by
 unfold l8 at hm
 refine RR h cg (fun hw=>?_) (fun hw hl=>?_) (fun hw hl s' rr' gp hs'=>?_)
 ·rw[hw,cond_true]at hm
  exact hm.at h
 ·rw[hw,cond_false,decide_eq_true hl,cond_true]at hm
  exact hm.at h
 ·rw[hw,cond_false,decide_eq_false AT,cond_false]at hm
  exact hm.at hs'
def wu(pf:List aa->Option (List aa×Int))(p:PS)(t:aG):Option (aa×Bool×Int×PS):=
 bif t.Kind==0 then some (zV,false,10,p)
 else bif t.Kind==2||t.Kind==4 then some (zV,false,(l8 p (t.Kind==4)).1,(l8 p (t.Kind==4)).2)
 else bif t.Kind==3||t.Kind==5 then aQ (HX pf p (t.Kind==5)) fun r=>some (r.1,r.2.1==0,r.2.1,r.2.2)
 else aQ (mH p t) fun r=>bif r.2.1==0&&decide (64<=p.st.length)then some (r.1,false,15,{p with at_:=r.2.2})else some (r.1,r.2.1==0,r.2.1,{p with at_:=r.2.2})
def Yx{pf:List aa->Option (List aa×Int)}(hpf:xF pf){s0 s:ae}{B:Nat}{p:PS}{rr:cZ}{ids:List (Nat×cZ)}(h:rO s0 s B p rr ids)(cg:p.st.length<=64){t:aG}{Q:List AV->ae->Prop}
 (hm:ok (wu pf p t) fun r=>Y6 s0 B r.2.2.1 r.2.2.2 (Q [vA r.1,.bool r.2.1,.int .i64 r.2.2.1])):FN prog 161 [.ref B 0,tA t] s Q:=by
 have hr:room=140737488355328:=rfl
 unfold wu at hm
 refine FO vD rfl rfl ?_
 rw[nu]
 refine Xf7 ?_
 unfold tA
 cases h0:(t.Kind==0)with
 |true=>
  rw[h0,cond_true,bJ]at hm
  refine Xe3 h0 ?_
  exact hm.at h
 |false=>
 rw[h0,cond_false]at hm
 cases h2:(t.Kind==2)with
 |true=>
  have h4:(t.Kind==4)=false:=by have:=eq_of_beq h2;rw[this];rfl
  rw[h2,h4,Bool.true_or,cond_true,bJ]at hm
  refine Xg1 h0 h2 h4 ?_
  refine Ow h cg (hm.mono fun s' hq=>?_)
  refine Xe2 ?_
  repeat'(first|((with_reducible refine Mu ?_ ?_);exact rfl)|((with_reducible refine ab9 ?_ ?_);exact rfl)|simp -implicitDefEqProofs only[go_sem,seval])
  exact hq
 |false=>
 cases h4:(t.Kind==4)with
 |true=>
  rw[h2,h4,Bool.or_true,cond_true,bJ]at hm
  refine Xg1 h0 h2 h4 ?_
  refine Ow h cg (hm.mono fun s' hq=>?_)
  refine Xe2 ?_
  repeat'(first|((with_reducible refine Mu ?_ ?_);exact rfl)|((with_reducible refine ab9 ?_ ?_);exact rfl)|simp -implicitDefEqProofs only[go_sem,seval])
  exact hq
 |false=>
 rw[h2,h4,Bool.or_false,cond_false]at hm
 cases h3:(t.Kind==3)with
 |true=>
  have h5:(t.Kind==5)=false:=by have:=eq_of_beq h3;rw[this];rfl
  rw[h3,h5,Bool.true_or,cond_true,jN]at hm
  obtain⟨r,hr1,hm⟩:=hm
  rw[bJ]at hm
  refine Xg2 h0 h2 h4 h3 h5 ?_
  refine Zz hpf h cg ⟨r,hr1,hm.mono fun s' hq=>?_⟩
  unfold vA
  refine Xe2 ?_
  exact hq
 |false=>
 cases h5:(t.Kind==5)with
 |true=>
  rw[h3,h5,Bool.or_true,cond_true,jN]at hm
  obtain⟨r,hr1,hm⟩:=hm
  rw[bJ]at hm
  refine Xg2 h0 h2 h4 h3 h5 ?_
  refine Zz hpf h cg ⟨r,hr1,hm.mono fun s' hq=>?_⟩
  unfold vA
  refine Xe2 ?_
  exact hq
 |false=>
 rw[h3,h5,Bool.or_false,cond_false,jN]at hm
 obtain⟨r,hr1,hm⟩:=hm
 refine Xg2 h0 h2 h4 h3 h5 ?_
 refine Ra h cg ⟨r,hr1,fun s' hs'=>?_⟩
 have hB:=hs'.cell
 unfold jZ at hB
 unfold vA
 refine Xg0 hB ?_
 cases he:(r.2.1==0)with
 |false=>
  rw[he,Bool.false_and,cond_false,bJ]at hm
  refine Xg3 hB he ?_
  exact hm.at hs'
 |true=>
  rw[he,Bool.true_and]at hm
  refine Xg3 hB he ?_
  refine⟨fun hl=>?_,fun hl=>?_⟩
  ·rw[show decide (64<=p.st.length)=true by have:=of_decide_eq_true hl;exact decide_eq_true AT,cond_true,bJ]at hm
   exact hm.at hs'
  ·rw[show decide (64<=p.st.length)=false by have:=of_decide_eq_false hl;exact decide_eq_false AT,cond_false,bJ]at hm
   exact hm.at hs'
end Go.AB
end
section
set_option maxRecDepth 16000
namespace Go.AB
open Go
open Go.Proofs.Tryz (prog)
attribute[-go_sem] Nat.add_zero mO cF cj cS bK ch
def TR{P:Program}{S O:Type}{body:S->Option (S⊕O)}{s0:S}{kf:O->Prop}{live:List (Nat×Bool)}{l:Nat}{r:IC}{Q:Exit->St->Prop}{E:St}(R:S->St->Prop)
 (h0:R s0 E)
 (hb:∀(J:St->Prop)(s:S)(τ:St),R s τ->ok (body s) (eY (fun t=>∀U',R t U'->J U') kf)->fW P r (It l live J Q) τ):ok (iter body s0) kf->VV P l live r Q E:=by
 intro h
 have yl:∀τ,(∃m s,R s τ/\ok (cC body m s) kf)->∃m,(∃s,R s τ/\ok (cC body m s) kf)/\∀k,k<m->¬∃s,R s τ/\ok (cC body k s) kf:=by
  rintro τ ⟨m,s,h⟩
  induction m using Nat.strongRecOn generalizing s with
  |_ m ih=>
   by_cases hk:∃k,k<m/\∃s,R s τ/\ok (cC body k s) kf
   ·obtain⟨k,hk,s',h'⟩:=hk
    exact ih k hk s' h'
   ·exact⟨m,⟨s,h⟩,fun k hk' hs=>hk ⟨k,hk',hs⟩⟩
 have hμ:∃μ:St->Nat,∀τ,(∃m s,R s τ/\ok (cC body m s) kf)->(∃s,R s τ/\ok (cC body (μ τ) s) kf)/\∀k,k<μ τ->¬∃s,R s τ/\ok (cC body k s) kf:=⟨fun τ=>Classical.epsilon fun m=>(∃s,R s τ/\ok (cC body m s) kf)/\∀k,k<m->¬∃s,R s τ/\ok (cC body k s) kf,fun τ hτ=>Classical.epsilon_spec (yl τ hτ)⟩
 obtain⟨μ,hμ⟩:=hμ
 refine⟨fun τ=>∃m s,R s τ/\ok (cC body m s) kf,μ,⟨_,s0,h0,h⟩,?_⟩
 intro τ hτ
 obtain⟨⟨s,e,hs⟩,_⟩:=hμ τ hτ
 generalize hm:μ τ=m at hs
 cases m with
 |zero=>exact(sf hs).elim
 |succ m=>
  obtain⟨x,hx,k⟩:=se hs
  refine hb _ s τ e ⟨x,hx,?_⟩
  cases x with
  |inr o=>exact k
  |inl t=>
   intro U' ht
   refine⟨⟨m,t,ht,k⟩,?_⟩
   have h2:=(hμ U' ⟨m,t,ht,k⟩).2
   rcases Nat.lt_or_ge m (μ U')with hlt|hge
   ·exact(h2 m hlt ⟨t,ht,k⟩).elim
   ·omega
def XF{s0 s:ae}{B:Nat}{p:PS}{rr:cZ}{ids:List (Nat×cZ)}(h:rO s0 s B p rr ids){r:aG×Int}(hr:eI p.b p.at_ p.last=some r){Q:List AV->ae->Prop}
 (h0:(r.2 !=0)=false->∀s',rO s0 s' B {p with at_:=r.1.To} rr ids->Q [tA r.1,.int .i64 r.2] s')(h1:(r.2 !=0)=true->rO s0 s B p rr ids->Q [tA r.1,.int .i64 r.2] s):FN prog 160 [.ref B 0] s Q:=by
 refine vK (s_0:=⟨p.b,p.at_,p.last,jk rr p.st.length⟩) h.cell ?_
 unfold my
 rw[jN]
 refine⟨r,hr,?_⟩
 cases he:(r.2==0)with
 |true=>
  simp only[he,if_true]
  exact⟨_,rfl,h0 (by unfold bne;rw[he];rfl) _ (h.place _)⟩
 |false=>
  simp only[he,Bool.false_eq_true,if_false]
  refine⟨_,rfl,?_⟩
  have:s.set B (.cells (jZ p rr))=s:=bq h.cell
  show Q _ (s.set B (.cells (jZ p rr)))
  rw[this]
  exact h1 (by unfold bne;rw[he];rfl) h
def aaJ{P:Program}{iH:List (List Bool)}{ops f:List ar}{live:List Nat}{Q:Exit->St->Prop}{d:List Bool}{E:St}(C:St->Prop)
 (h1:∀K:St->Prop,(∀τ:St,C (τ.xb live)->K τ)->Rw P iH ops K f d E)(h2:∀φ,C φ->Q .normal φ):Rw P iH ops (Ac live Q) f d E:=h1 _ fun τ h=>h2 _ h
def YO{E:St}{d:Option Nat}{K:St->Prop}{s s2:ae}{B:Nat}{p2:PS}{rr2:cZ}{id:Nat×cZ}{gp:List (Nat×cZ)}{v:aX}{vs:List aX}(hσ:E.s=s2)(h2:rO s s2 B p2 rr2 (id::gp))(eJ:p2.st=v::vs)(cg:(v.l_.length+1)*56<=room)(x:aa)
 (hK:∀S3 rb cap sp,S3 rb=some (.cells (flat (v.l_++[zV])++sp))->S3 id.1=some (.cells [.bool v.ga,jk id.2 v.l_.length])->rb≠id.1->
   rO s ((S3.set rb (.cells (flat (v.l_++[x])++sp))).set id.1 (.cells [.bool v.ga,.arr rb 0 (v.l_.length+1) cap])) B {p2 with st:=⟨v.ga,v.l_++[x]⟩::vs} rr2 ((id.1,some (rb,cap,sp))::gp)->
   K ({E with s:=S3}.put d (.arr rb 0 (v.l_.length+1) cap))):
 eS 4 56 [.int .i64 0,.int .i64 0,.str [],.sl false 4 0 []] E d K (.arr (LS id.2) 0 v.l_.length (I3 id.2)) (vL E.s 4 (.sl true 4 1 [.int .i64 0,.int .i64 0,.str [],.sl false 4 0 []])):=by
 obtain⟨F1,F2,H⟩:=h2
 rw[eJ]at F1 H
 have H1:Holds s s2 (pz id.2 v.l_++((id.1,Ua id.2 v)::((B,.cells (jZ p2 rr2))::(pz rr2 (refs (id::gp).reverse)++Dr gp vs)))):=by
  refine H.perm ?_
  refine(List.perm_middle (l₁:=(B,SO.cells (jZ p2 rr2))::pz rr2 (refs (id::gp).reverse))).trans ?_
  refine((List.perm_append_comm_assoc ((B,SO.cells (jZ p2 rr2))::pz rr2 (refs (id::gp).reverse)) (pz id.2 v.l_) (Dr gp vs)).cons _).trans ?_
  exact List.perm_middle.symm
 obtain⟨sb,e,okr,Hb⟩:=H1.row F1.1
 rw[gl]
 refine xH (z:=zV) (v:=zV) (hσ.trans e) okr rfl cg fun s' r' hs' ok'=>?_
 obtain⟨rb,cap,sp,rfl⟩:=NY ok' BY
 obtain⟨H3,f3⟩:=(Hb.sub hs').aaF ok'
 have hne:rb≠id.1:=by
  have:=H3.2.2
  intro he
  rw[he]at this
  simp[pz]at this
 refine hK _ rb cap sp H3.get (H3.mem (by simp[pz,Ua])) hne ?_
 have H4:=(Holds.set (o':=.cells (flat (v.l_++[x])++sp)) H3)
 have H5:=(Holds.set (o':=.cells [.bool v.ga,.arr rb 0 (v.l_.length+1) cap]) (H4.perm (List.Perm.swap ..)))
 have H6:=H5.perm (List.perm_append_comm_assoc [(id.1,SO.cells [.bool v.ga,.arr rb 0 (v.l_.length+1) cap]),(rb,.cells (flat (v.l_++[x])++sp))] ((B,SO.cells (jZ p2 rr2))::pz rr2 (refs (id::gp).reverse)) (Dr gp vs))
 have hlen:(v.l_++[x]).length=v.l_.length+1:=BY
 have hl:Ua (some (rb,cap,sp)) ⟨v.ga,v.l_++[x]⟩=.cells [.bool v.ga,.arr rb 0 (v.l_.length+1) cap]:=by
  unfold Ua jk
  simp only[hlen]
  rfl
 have hp:jZ {p2 with st:=⟨v.ga,v.l_++[x]⟩::vs} rr2=jZ p2 rr2:=by
  unfold jZ
  simp only[eJ,List.length_cons]
 have hrefs:refs ((id.1,(some (rb,cap,sp):cZ))::gp).reverse=refs (id::gp).reverse:=by rw[rk,rk]
 refine⟨⟨?_,F1.2⟩,by rw[hrefs];exact F2,?_⟩
 ·obtain⟨g1,g2,g3,g4⟩:=f3
  refine⟨g1,by simpa using g2,?_,g4⟩
  rw[List.length_append,ax]at g3⊢
  simpa using g3
 ·rw[hp,hrefs]
  have:Dr ((id.1,some (rb,cap,sp))::gp) (⟨v.ga,v.l_++[x]⟩::vs)=[(id.1,SO.cells [.bool v.ga,.arr rb 0 (v.l_.length+1) cap]),(rb,.cells (flat (v.l_++[x])++sp))]++Dr gp vs:=by rw[<-hl];rfl
  show Holds s _ ((B,SO.cells (jZ p2 rr2))::(pz rr2 _++Dr ((id.1,some (rb,cap,sp))::gp) (⟨v.ga,v.l_++[x]⟩::vs)))
  rw[this]
  exact H6
def VB{E:St}{d:Option Nat}{K:St->Prop}{s s2:ae}{B:Nat}{p2:PS}{rr2:cZ}{id:Nat×cZ}{gp:List (Nat×cZ)}{v:aX}{vs:List aX}(hσ:E.s=s2)(h2:rO s s2 B p2 rr2 (id::gp))(eJ:p2.st=v::vs)(cg:(v.l_.length+1)*56<=room)(x:aa)
 (hK:∀S3 rb cap cs,S3 rb=some (.cells cs)->S3 id.1=some (.cells [.bool v.ga,jk id.2 v.l_.length])->(∀o,(S3.set rb o) id.1=some (.cells [.bool v.ga,jk id.2 v.l_.length]))->(∀o,(S3.set id.1 o) rb=some (.cells cs))->
   v.l_.length*4+4<=cs.length->
   (∃rr3 Ij,rO s ((S3.set rb (.cells (setAt cs (v.l_.length*4) [.int .i64 x.Kind,.int .i64 x.N,.str x.S.b,.sl false 4 x.L.length (flat x.L)]))).set id.1 (.cells [.bool v.ga,.arr rb 0 (v.l_.length+1) cap])) B {p2 with st:=⟨v.ga,v.l_++[x]⟩::vs} rr3 Ij)->
   (∃rr3 Ij,rO s ((S3.set id.1 (.cells [.bool v.ga,.arr rb 0 (v.l_.length+1) cap])).set rb (.cells (setAt cs (v.l_.length*4) [.int .i64 x.Kind,.int .i64 x.N,.str x.S.b,.sl false 4 x.L.length (flat x.L)]))) B {p2 with st:=⟨v.ga,v.l_++[x]⟩::vs} rr3 Ij)->
   K ({E with s:=S3}.put d (.arr rb 0 (v.l_.length+1) cap))):
 eS 4 56 [.int .i64 0,.int .i64 0,.str [],.sl false 4 0 []] E d K (.arr (LS id.2) 0 v.l_.length (I3 id.2)) (vL E.s 4 (.sl true 4 1 [.int .i64 0,.int .i64 0,.str [],.sl false 4 0 []])):=by
 refine YO hσ h2 eJ cg x fun S3 rb cap sp g1 g2 hne oL=>?_
 have hs:setAt (flat (v.l_++[zV])++sp) (v.l_.length*4) [.int .i64 x.Kind,.int .i64 x.N,.str x.S.b,.sl false 4 x.L.length (flat x.L)]=flat (v.l_++[x])++sp:=by
  have h:=jz (v.l_++[zV]) [x] sp 4 v.l_.length rfl BY
  have hx:flat [x]=[.int .i64 x.Kind,.int .i64 x.N,.str x.S.b,.sl false 4 x.L.length (flat x.L)]:=by
   unfold flat
   simp only[List.map_cons,List.map_nil,List.flatten_cons,List.flatten_nil,List.append_nil]
   exact ji x
  rw[hx]at h
  rw[h]
  simp
 refine hK S3 rb cap _ g1 g2 (fun o=>?_) (fun o=>?_) ?_ ?_ ?_
 ·rw[<-g2];unfold ae.set;rw[if_neg (Ne.symm hne)]
 ·rw[<-g1];unfold ae.set;rw[if_neg hne]
 ·rw[List.length_append,ax]
  have:aP.w aa=4:=rfl
  rw[this]
  simp
  omega
 ·rw[hs];exact⟨_,_,oL⟩
 ·rw[hs,set_comm hne];exact⟨_,_,oL⟩
def rG(pf:List aa->Option (List aa×Int))(p:PS):Option (PS⊕(aa×Int×Int)):=
 a8 (p.st.length<=64)<|
 aQ (eI p.b p.at_ p.last) fun r1=>
 bif r1.2 !=0 then some (.inr (zV,0,r1.2))else
 aQ (wu pf {p with at_:=r1.1.To} r1.1) fun r=>
 bif r.2.2.1 !=0 then some (.inr (zV,0,r.2.2.1))else
 bif !r.2.1 then some (.inl r.2.2.2)else
 a8 (r.2.2.2.st.length<=64)<|match r.2.2.2.st with
 |[]=>some (.inr (r.1,r.2.2.2.at_,0))
 |v::vs=>a8 ((v.l_.length+1)*56<=room)<|some (.inl {r.2.2.2 with st:=⟨v.ga,v.l_++[r.1]⟩::vs})
def sq(pf:List aa->Option (List aa×Int))(b:List UInt8)(a:Int)(last:Bool):Option (aa×Int×Int):=iter (rG pf) ⟨b,a,last,[]⟩
def zL:AV:=.loc [.int .i64 0,.int .i64 0,.str [],.sl true 4 0 []]
set_option maxHeartbeats 8000000 in
def VC{pf:List aa->Option (List aa×Int)}(hpf:xF pf){s:ae}{b:List UInt8}{a:Int}{last:Bool}{Q:List AV->ae->Prop}
 (hm:ok (sq pf b a last) fun r=>∀s',Sub s s'->Q [vA r.1,.int .i64 r.2.1,.int .i64 r.2.2] s'):FN prog 127 [.sl false 1 b.length (flat b),.int .i64 a,.bool last] s Q:=by
 have hr:room=140737488355328:=rfl
 unfold sq at hm
 refine FS 62 [⟨6,false,some (4,true)⟩,⟨7,true,none⟩,⟨8,true,none⟩] 0xaa2c6efaefc36da57b497a6a870c733dee7085bc92f915efbb1fb6fbe2288b31335370f3b82379c445fdfd941089ebb89fe2ee27f5c7e79a69815abea262731a50158916a1594d33d7796434133bfbbcbf62b1ed390fdabcf04ab23fcd795d4cc4c45416b6b55ca22fd111d9b834b2daaa43658b39f701fe350d920e34ac719ab80efdead002a128516a532e1e08fba95a207da6acbe156d7a23dcec3c5c06faf8cea51016242bdf438e02198a04c8fbc6cf0fb557eb03020a89a1151f0b2757edf59b31d7c48dcc7fefd3a196e1bc75053a2f36f808ef77a524312475050dbedbe2516c7cb69b85b51940e14d3e93c2a512e4d90d05d1688ed2ee34902ba5dc4ef5107cf4f5ad3871352bc22baf49a92bca1b8d4e8bf75ea6392d6716960c3cdbea667e37a4f8216faf05710df9720c4cd57f9e96744aa11c529bb01e43a0e28fb574b002d9003cd1eb37e0091095c ?_
 refine Xf4 ?_
 intro B hB
 refine TR (fun(p:PS)(τ:St)=>∃s' rr ids,rO s s' B p rr ids/\τ=⟨[(6,zL),(9,.ref B 0)],[],s'⟩) ?_ ?_ hm
 ·refine⟨_,none,[],⟨trivial,rfl,(Holds.nil.alloc hB)⟩,rfl⟩
 ·rintro J p τ ⟨s',rr,ids,h,rfl⟩ hb
  unfold rG at hb
  rw[fO]at hb
  obtain⟨cg,hb⟩:=hb
  unfold zL
  refine Xf4 ?_
  rw[jN]at hb
  obtain⟨r1,hr1,hb⟩:=hb
  refine XF h hr1 (fun he s1 h1=>?_) (fun he h1=>?_)
  rotate_left
  ·rw[he,cond_true,bJ]at hb
   unfold tA
   refine Xg4 he ?_
   exact hb s' h.2.2.1
  ·rw[he,cond_false,jN]at hb
   obtain⟨r,hr2,hb⟩:=hb
   unfold tA
   refine Xg4 he ?_
   refine Yx hpf h1 cg ⟨r,hr2,fun he2 s2 h2=>?_,fun he2 s2 rr2 aj3 h2=>?_⟩
   ·have he3:(r.2.2.1 !=0)=true:=by simpa using he2
    rw[he3,cond_true,bJ]at hb
    unfold vA
    refine Xg4 he3 ?_
    exact hb s2 h2
   ·have he3:(r.2.2.1 !=0)=false:=by simpa using he2
    rw[he3,cond_false]at hb
    unfold vA
    cases hi:r.2.1 with
    |false=>
     rw[hi,Bool.not_false,cond_true,bJ]at hb
     simp -implicitDefEqProofs only[go_sem,Nat.reduceBEq,Nat.reduceAdd,Nat.reduceMul,Nat.reduceLeDiff,Nat.reduceEqDiff,Nat.reduceBNe,UInt8.reduceToNat,UInt32.reduceToNat,he3,hi,Bool.not_false,bL]
     exact hb _ ⟨s2,rr2,aj3,h2,rfl⟩
    |true=>
     rw[hi,Bool.not_true,cond_false]at hb
     simp -implicitDefEqProofs only[go_sem,Nat.reduceBEq,Nat.reduceAdd,Nat.reduceMul,Nat.reduceLeDiff,Nat.reduceEqDiff,Nat.reduceBNe,UInt8.reduceToNat,UInt32.reduceToNat,he3,hi,Bool.not_true,bL]
     rw[fO]at hb
     obtain⟨ajT,hb⟩:=hb
     have hB2:=h2.cell
     unfold jZ at hB2
     refine Jk h2 AT (fun eJ=>?_) (fun id gp v vs M9 eJ=>?_)
     ·rw[eJ]at hb
      simp only[bJ]at hb
      refine Xg4 hB2 ?_
      exact hb s2 h2.2.2.1
     ·rw[eJ]at hb
      simp only[fO,bJ]at hb
      obtain⟨aby,hb⟩:=hb
      refine Xg4 hB2 ?_
      subst M9
      have hlv:=h2.lv eJ
      unfold Ua at hlv
      have C1:∀φ:St,(∃s3 rr3 Ij,rO s s3 B {r.2.2.2 with st:=⟨v.ga,v.l_++[r.1]⟩::vs} rr3 Ij/\φ=⟨[(6,zL),(9,.ref B 0)],[],s3⟩)->J φ:=fun φ hφ=>hb φ hφ
      refine aaJ (fun φ=>∃s3 rr3 Ij,rO s s3 B {r.2.2.2 with st:=⟨v.ga,v.l_++[r.1]⟩::vs} rr3 Ij/\φ=⟨[(6,zL),(9,.ref B 0)],[],s3⟩) ?_ ?_
      rotate_left
      ·rintro φ ⟨s3,rr3,Ij,h3,rfl⟩
       unfold zL
       refine Xf4 ?_
       exact C1 _ ⟨s3,rr3,Ij,h3,rfl⟩
      ·intro K hK
       clear C1 hb
       repeat'(first|(simp only[cS,cj,bK,ch,vN,xA,Bool.not_true,Bool.not_false,Bool.or_true,Bool.true_or,Bool.false_or,Bool.or_false,Bool.and_true,Bool.true_and,Bool.and_false,Bool.false_and,cond_true,cond_false,true_and,and_true];done)|with_reducible refine⟨?_,?_⟩|with_reducible exact trivial|(simp only[cS,cj,bK,ch,vN,xA,Bool.not_true,Bool.not_false,Bool.or_true,Bool.true_or,Bool.false_or,Bool.or_false,Bool.and_true,Bool.true_and,Bool.and_false,Bool.false_and,cond_true,cond_false,true_and,and_true])|simp -implicitDefEqProofs only[go_sem,Nat.reduceBEq,Nat.reduceAdd,Nat.reduceMul,Nat.reduceLeDiff,Nat.reduceEqDiff,Nat.reduceBNe,UInt8.reduceToNat,UInt32.reduceToNat,hlv])
       all_goals
        refine VB rfl h2 eJ aby r.1 (fun S3 rb cap cs g1 g2 q1 q2 hle f1 f2=>?_)
        obtain⟨ra,ia,f1⟩:=f1
        obtain⟨rz,iz,f2⟩:=f2
        repeat'(first|exact hK _ ⟨_,_,_,f1,rfl⟩|exact hK _ ⟨_,_,_,f2,rfl⟩|omega|(simp only[cS,cj,bK,ch,vN,xA,Bool.not_true,Bool.not_false,Bool.or_true,Bool.true_or,Bool.false_or,Bool.or_false,Bool.and_true,Bool.true_and,Bool.and_false,Bool.false_and,cond_true,cond_false,true_and,and_true];done)|with_reducible refine⟨?_,?_⟩|with_reducible exact trivial|(simp only[cS,cj,bK,ch,vN,xA,Bool.not_true,Bool.not_false,Bool.or_true,Bool.true_or,Bool.false_or,Bool.or_false,Bool.and_true,Bool.true_and,Bool.and_false,Bool.false_and,cond_true,cond_false,true_and,and_true])|simp -implicitDefEqProofs only[go_sem,Nat.reduceBEq,Nat.reduceAdd,Nat.reduceMul,Nat.reduceLeDiff,Nat.reduceEqDiff,Nat.reduceBNe,UInt8.reduceToNat,UInt32.reduceToNat,g1,g2,q1,q2])
end Go.AB
end
