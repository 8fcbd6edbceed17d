/- A part. -/
import Derived.Test.YtgecakgfnjkkbaaGreatRt15
set_option linter.defProp false
set_option linter.unusedSimpArgs false
set_option linter.unusedVariables false
section
set_option maxRecDepth 16000
namespace Go.AB
open Go
open Go.Proofs.Tryz (prog)
attribute[-go_sem] Nat.add_zero mi cy bX cP bD bV
def zT:IC:=dec 0xa34cdb8f116929af47885eeafedac8af6add9a5baadceee32e6bdf241108b43e864e26256b5aef57336385e1ef934f9aa8e849d55c06cd996d19d9614fd2482181ec7f1a0de54c679f9948d347f6bbf13628111441020f29ec21f36d1867f6c96bc1524945149995b5c3438f71352a78202e9de50158d315627f9c48b8460683870eb24e4d58089b7741b4d58fa490d8c64f0c44045690f86546aed0c12352c2bfd247d5ee85de0376f4f474d87198b9fc1018852148e7f5b4473a
def GY:ey prog 252 36 [⟨2,true,none⟩] zT=true:=By
def Pq{s:ae}{k:Nat}{Q:List AV->ae->Prop}(hn:k*56<=room)(hq:∀s' r',Sub s s'->fZ s' r' ([]:List aa)->Q [jj r' 0] (jc s' r' ([]:List aa))):FN prog 279 [.arr 0 0 0 0,.int .i64 k] s Q:=by
 have hr:room=140737488355328:=rfl
 refine FS 27 [⟨4,true,none⟩] 0x42919ba4c4584f03454ca0c589c863edb3bd82c6c1ae146a7fdf1697da2369bb04cfe6255a57a63fdcdb3632cbbcdf6755b5368d4e5fb72a7c89b43ab32829dacdb4a9ddfcce97417516802dd71261727483fa ?_
 have h0:decide ((k:Int)<0)=false:=BY
 have e00:((0:Nat):Int)=0:=rfl
 have w1:aC 0=0:=B_
 have w2:aC (k:Int)=k:=ao AT AT
 refine Xg0 h0 e00 w1 w2 ?_
 refine⟨fun hk=>?_,fun hk=>?_⟩
 ·have hk:0<k:=Xa4
  refine⟨Int.le_refl _,?_⟩
  refine xN (n:=0) (cap:=0) (m:=k) (b:=0) (off:=0) (by':=56) (olds:=[]) rfl rfl rfl AT AT fun b' cQ hb' hc=>?_
  rw[List.nil_append]
  refine Xf6 ?_
  have:=hq s (some (b',cQ,(List.replicate k [.int .i64 0,.int .i64 0,.str [],.sl false 4 0 []]).flatten++(List.replicate (cQ -(0+k)) [.int .i64 0,.int .i64 0,.str [],.sl false 4 0 []]).flatten)) (Sub.refl s)
   ⟨hb',AT,BY,by
     have e:(flat ([]:List aa)).length=0:=rfl
     rw[List.length_append,e,List.length_append]
     simp[show aO.w aa=4 from rfl]
     omega,by
     have hz:∀m,views (List.replicate m [AV.int .i64 0,.int .i64 0,.str [],.sl false 4 0 []]).flatten=(List.replicate m [AV.int .i64 0,.int .i64 0,.str [],.sl false 4 0 []]).flatten:=fun m=>by
      rw[show([.int .i64 0,.int .i64 0,.str [],.sl false 4 0 []]:List AV)=aO.cells (⟨0,0,⟨[]⟩,[]⟩:aa) from rfl,<-eW]
      exact aF _
     unfold views at hz⊢
     rw[List.map_append,hz,hz]⟩
  simp only[Nat.zero_add]at this
  exact⟨⟨Int.le_refl _,Int.le_refl _,AT⟩,this⟩
 ·have hk:k=0:=by
   have:¬(0<k):=Xa4
   omega
  have:=hq s none (Sub.refl s) rfl
  first|exact this|trace_state
def Zh(ls:List VL)(q:Int×Int):Option ((Int×Int)⊕Int):=bif decide (q.2<ls.length)then some (.inl (q.1+(ix ls q.2).length,q.2+1))else some (.inr q.1)
def Zi(ls:List VL)(hl:ls.length<4611686018427387904):iter (Zh ls) (0,0)=some (ls.flatten.length:Int):=by
 refine Dr ls.length (fun k=>((ls.take k).flatten.length:Int)) BY hl (fun k hk=>?_) ?_
 ·unfold Zh
  have h1:decide ((k:Int)<ls.length)=true:=Xa4
  have h2:ix ls (k:Int)=ls[k]:=by unfold ix;simp[hk]
  have h3:aC ((k:Int)+1)=(k:Int)+1:=ao AT AT
  show(bif decide ((k:Int)<ls.length)then _ else _)=_
  rw[h1,cond_true,h2,h3,List.take_succ_eq_append_getElem hk,List.flatten_append,List.length_append]
  simp
 ·unfold Zh
  have h1:decide ((ls.length:Int)<ls.length)=false:=BY
  show(bif decide ((ls.length:Int)<ls.length)then _ else _)=_
  rw[h1,cond_false,List.take_length]
def WU(ls:List VL)(q:List aa×Int):Option ((List aa×Int)⊕List aa):=bif decide (q.2<ls.length)then some (.inl (q.1++ix ls q.2,q.2+1))else some (.inr q.1)
def WV(ls:List VL)(hl:ls.length<4611686018427387904):iter (WU ls) ([],0)=some ls.flatten:=by
 refine Dr ls.length (fun k=>(ls.take k).flatten) BY hl (fun k hk=>?_) ?_
 ·unfold WU
  have h1:decide ((k:Int)<ls.length)=true:=Xa4
  have h2:ix ls (k:Int)=ls[k]:=by unfold ix;simp[hk]
  have h3:aC ((k:Int)+1)=(k:Int)+1:=ao AT AT
  show(bif decide ((k:Int)<ls.length)then _ else _)=_
  rw[h1,cond_true,h2,h3,List.take_succ_eq_append_getElem hk,List.flatten_append]
  simp
 ·unfold WU
  have h1:decide ((ls.length:Int)<ls.length)=false:=BY
  show(bif decide ((ls.length:Int)<ls.length)then _ else _)=_
  rw[h1,cond_false,List.take_length]
def ze(ls:List VL)(k:Nat):(ls.take k).flatten.length<=ls.flatten.length:=by
 conv=>rhs;rw[<-List.take_append_drop k ls]
 rw[List.flatten_append,List.length_append];omega
def QI{s:ae}{rb cap:Nat}{sp:List AV}{ls:List VL}{Q:List AV->ae->Prop}(hs:s rb=none)(jW:∀c∈ls,0<c.length)(hr:ls.flatten.length*56<=room)(hl:ls.length<2^40)
 (hq:∀s' r',Sub (s.set rb (.cells (flat ls++sp))) s'->fZ s' r' ls.flatten->Q [jj r' ls.flatten.length] (jc s' r' ls.flatten)):FN prog 252 [.arr rb 0 ls.length cap] (s.set rb (.cells (flat ls++sp))) Q:=by
 have cg:room=140737488355328:=rfl
 refine FO GY rfl rfl ?_
 rw[zT]
 refine Xf9 ?_
 refine Xe4 ?_
 generalize hcs:flat ls++sp=cs at*
 refine lN (kf:=fun _=>True) (fun(q:Int×Int) τ=>∃k:Nat,k<=ls.length/\q=(((ls.take k).flatten.length:Int),(k:Int))/\τ=(⟨[(0,.arr rb 0 ls.length cap),(3,.int .i64 (ls.take k).flatten.length),(9,.arr rb 0 ls.length cap),(10,.int .i64 ls.length),(11,.int .i64 k)],[],s.set rb (.cells cs)⟩:St)) ⟨0,Nat.zero_le _,rfl,rfl⟩ ?_ ⟨_,Zi ls AT,trivial⟩
 rintro J q τ ⟨k,hk,rfl,rfl⟩ hb
 unfold Zh at hb
 by_cases h:k<ls.length
 ·have h1:decide ((k:Int)<ls.length)=true:=J_
  have h2:ix ls (k:Int)=ls[k]:=by unfold ix;simp[h]
  obtain⟨r1,r2⟩:=RE ls sp (j:=(k:Int)) AT AT
  rw[hcs,h2,Int.toNat_natCast]at r2
  rw[hcs,Int.toNat_natCast]at r1
  have d1:=decide_eq_true r1
  have le:=ze ls (k+1)
  rw[List.take_succ_eq_append_getElem h,List.flatten_append,List.length_append,List.flatten_cons,List.flatten_nil,List.append_nil]at le
  have w1:aC (((ls.take k).flatten.length:Int)+(ls[k].length:Int))=((ls.take k).flatten.length:Int)+(ls[k].length:Int):=ao AT AT
  have w2:aC ((k:Int)+1)=(k:Int)+1:=ao AT AT
  have h0:decide (((ls.take k).flatten.length:Int)+(ls[k].length:Int)<0)=false:=decide_eq_false AT
  simp only[h1,cond_true,h2,bB,nW]at hb
  refine Xe8 h1 r2 d1 w1 w2 h0 ?_
  have fin:=hb _ ⟨k+1,h,by rw[List.take_succ_eq_append_getElem h,List.flatten_append,List.length_append];simp,rfl⟩
  rw[List.take_succ_eq_append_getElem h,List.flatten_append,List.length_append,List.flatten_cons,List.flatten_nil,List.append_nil]at fin
  have e1:(((ls.take k).flatten.length+ls[k].length:Nat):Int)=((ls.take k).flatten.length:Int)+(ls[k].length:Int):=AT
  have e2:((k+1:Nat):Int)=(k:Int)+1:=AT
  rw[e1,e2]at fin
  first|exact fin|(refine⟨?_,?_,fin⟩<;>omega)|(refine⟨?_,fin⟩;omega)|(refine⟨⟨?_,?_⟩,?_,fin⟩<;>omega)|trace_state
 ·have h1:decide ((k:Int)<ls.length)=false:=J_
  obtain rfl:k=ls.length:=AT
  clear hb
  rw[List.take_length]
  refine Xe5 h1 ?_
  refine Pq hr fun s1 r1 hs1 h1'=>?_
  refine Xe4 ?_
  have hq2:(s.set rb (.cells cs)) rb=some (.cells cs):=aY
  refine lN (kf:=fun _=>True) (fun(q:List aa×Int) τ=>∃(k:Nat)(s':ae)(r':c5),k<=ls.length/\q=((ls.take k).flatten,(k:Int))/\Sub (s.set rb (.cells cs)) s'/\fZ s' r' (ls.take k).flatten/\τ=(⟨[(6,jj r' (ls.take k).flatten.length),(25,.arr rb 0 ls.length cap),(26,.int .i64 ls.length),(27,.int .i64 k)],[],jc s' r' (ls.take k).flatten⟩:St)) ⟨0,s1,r1,Nat.zero_le _,rfl,hs1,h1',rfl⟩ ?_ ⟨_,WV ls AT,trivial⟩
  ·rintro J q τ ⟨k,s',r',hk,rfl,hs',h',rfl⟩ hb
   unfold WU at hb
   by_cases h:k<ls.length
   ·have h1:decide ((k:Int)<ls.length)=true:=J_
    have h2:ix ls (k:Int)=ls[k]:=by unfold ix;simp[h]
    obtain⟨r1,r2⟩:=RE ls sp (j:=(k:Int)) AT AT
    rw[hcs,h2,Int.toNat_natCast]at r2
    rw[hcs,Int.toNat_natCast]at r1
    have d1:=decide_eq_true r1
    have hrb:jc s' r' (ls.take k).flatten rb=some (.cells cs):=jO h' (hs' _ _ hq2)
    have w2:aC ((k:Int)+1)=(k:Int)+1:=ao AT AT
    have le:=ze ls (k+1)
    have ek:ls.take (k+1)=ls.take k++[ls[k]]:=List.take_succ_eq_append_getElem h
    have ef:(ls.take (k+1)).flatten=(ls.take k).flatten++ls[k]:=by rw[ek,List.flatten_append];simp
    rw[ef,List.length_append]at le
    simp only[h1,cond_true,h2,bB,nW]at hb
    generalize ez:jc s' r' (ls.take k).flatten=st at hrb⊢
    refine Xg1 h1 hrb r2 d1 w2 ?_
    first
     |refine⟨⟨AT,AT⟩,r1,?_⟩
     |refine⟨AT,?_⟩
     |skip
    rw[gn,aF]
    refine Kd (by':=56) (s:=s') (r:=r') (l:=(ls.take k).flatten) (x:=ls[k]) (z:=(⟨0,0,⟨[]⟩,[]⟩:aa)) (by exact ez.symm) h' rfl (jW _ (List.getElem_mem h)) AT fun s2 r2' hs2 h2'=>?_
    refine Xg2 w2 ?_
    have fin:=hb _ ⟨k+1,s2,r2',h,by rw[ef];rfl,(fun b o hb=>hs2 b o (hs' b o hb)),by rw[ef];exact h2',rfl⟩
    rw[ef,List.length_append]at fin
    have e2:((k+1:Nat):Int)=(k:Int)+1:=AT
    rw[e2]at fin
    exact fin
   ·have h1:decide ((k:Int)<ls.length)=false:=J_
    obtain rfl:k=ls.length:=AT
    clear hb
    rw[List.take_length]at h'⊢
    refine Xe5 h1 ?_
    first|exact hq s' r' hs' h'|trace_state
end Go.AB
end
section
set_option maxRecDepth 16000
namespace Go.AB
open Go
open Go.Proofs.Tryz (prog)
attribute[-go_sem] bX cP bD bV
@[go_sem]theorem alT(g:Bool):(g=true->(2:Int)≠0)=True:=eq_true (fun _=>B_)
def jL(t_0:aH):Option (Bool):=some ((t_0.Kind==1)&&(t_0.V.Kind==2))
def DS{t_0}:FF 155 [.agg [.int .i64 t_0.Kind,.int .i64 t_0.aP,.int .i64 t_0.To,.int .i64 t_0.V.Kind,.int .i64 t_0.V.N,.str t_0.V.S.b,sF 4 t_0.V.L,.str t_0.S.b]] (jL t_0) fun r=>[.bool r]:=by
 intro s Q
 exact FC 12 [⟨2,true,none⟩] 0x16f1440b844b80540f31548652f01354bd3b953622ebee9632d28a8b77e3684e9995b jL.eq_1
def lS{t_0}{s:ae}{r:Bool}(h:jL t_0=some r):FE prog 155 [.agg [.int .i64 t_0.Kind,.int .i64 t_0.aP,.int .i64 t_0.To,.int .i64 t_0.V.Kind,.int .i64 t_0.V.N,.str t_0.V.S.b,sF 4 t_0.V.L,.str t_0.S.b]] s [.bool r] s:=DS ⟨r,h,rfl,rfl⟩
def gW(e_0:Int):Option (Int):=
 if e_0==6 then
  some e_0
 else
  some 0
def wo{e_0}:FF 253 [.int .i64 e_0] (gW e_0) fun r=>[.int .i64 r]:=by
 intro s Q
 exact FC 6 [⟨2,true,none⟩] 0x13743a9027034cdc593cbaef04a17f0aaee6d95980227cc00473a gW.eq_1
def kY(w_0:bg):Option (aa×Int):=
 if w_0.b==(bg.mk [116,114,117,101]).b then
  some ((aa.mk 1 1 (bg.mk []) ([]:List aa)),0)
 else
  if w_0.b==(bg.mk [102,97,108,115,101]).b then
   some ((aa.mk 1 0 (bg.mk []) ([]:List aa)),0)
  else
   if w_0.b==(bg.mk [110,117,108,108]).b then
    some ((aa.mk 0 0 (bg.mk []) ([]:List aa)),0)
   else
    some ((aa.mk 0 0 (bg.mk []) ([]:List aa)),11)
def Fx{w_0}:FF 219 [.str w_0.b] (kY w_0) fun r=>[.agg (M1 r.1),.int .i64 r.2]:=by
 intro s Q
 exact FC 15 [⟨2,false,some (4,true)⟩,⟨3,true,none⟩] 0xd7c20874c185a91492a9be42c59faa9eee0c0724a1c9048527938d5ce5aa43482441cec650ed3318723764eef1f5562c08286dee5423af2d53244d55487e165eee541a597142c5c7699d66e6d4e02135deeee8cff6b1d43d1b25e78bb93b6406ea8e4604af75411a6287f5f971cb08c4fcf6753816cf3c972057b2003cd1eb37e0092758b kY.eq_1
def qw{w_0}{s:ae}{r:aa×Int}(h:kY w_0=some r):FE prog 219 [.str w_0.b] s [.agg (M1 r.1),.int .i64 r.2] s:=Fx ⟨r,h,rfl,rfl⟩
structure fU where
 b_:(List UInt8)
 at_:Int
 aR:Bool
 open_:AV
def mE(s_0:fU):Option (aH×Int×fU):=
 aZ (eH s_0.b_ s_0.at_ s_0.aR) fun r1=>
 jn (
  if r1.2==0 then
   some (fU.mk s_0.b_ r1.1.To s_0.aR s_0.open_)
  else
   some s_0) fun(o5:fU)=>
 some (r1.1,r1.2,o5)
def vL{s_0}{B0:Nat}{s:ae}{Q:List AV->ae->Prop}(hB0:s B0=some (.cells [sF 1 s_0.b_,.int .i64 s_0.at_,.bool s_0.aR,s_0.open_])):ok (mE s_0) (fun r=>Q [.agg [.int .i64 r.1.Kind,.int .i64 r.1.aP,.int .i64 r.1.To,.int .i64 r.1.V.Kind,.int .i64 r.1.V.N,.str r.1.V.S.b,sF 4 r.1.V.L,.str r.1.S.b],.int .i64 r.2.1] (s.set B0 (.cells [sF 1 r.2.2.b_,.int .i64 r.2.2.at_,.bool r.2.2.aR,r.2.2.open_])))->FN prog 160 [.ref B0 0] s Q:=by
 rw[<-aU hB0]
 refine FR 31 [⟨2,false,some (8,true)⟩,⟨3,true,none⟩] 0xa585870832aac3be9f1ee899f30f97ee7dd60adb64ee681c12243b7c8250d4db90a4428e8b2a198354768bf8310a9b378115f1cd7a833e756ffa5622eb967aecd144d340f7f78f8564baa5b8c694b72aaf4111f3b016e7418ad1c376159121ad6076a9a0383ca7b2003defd1eb37e000000010bf58b mE.eq_1 ?_
 repeat'(first
  |((with_reducible refine Qu ?_ ?_);exact rfl)
  |with_reducible refine c7 (fun _(h:eH s_0.b_ s_0.at_ s_0.aR=some _)=>(kK lh h:)) (fun _=>rfl) (fun r1=>?_)
  |((with_reducible refine dT (fun(o5:fU)=>⟨[(2,.loc [.int .i64 0,.int .i64 0,.int .i64 0,.int .i64 0,.int .i64 0,.str (bg.mk []).b,.sl true 4 0 [],.str (bg.mk []).b]),(4,.loc [.int .i64 r1.1.Kind,.int .i64 r1.1.aP,.int .i64 r1.1.To,.int .i64 r1.1.V.Kind,.int .i64 r1.1.V.N,.str r1.1.V.S.b,sF 4 r1.1.V.L,.str r1.1.S.b]),(5,.int .i64 r1.2)],[],(s.set B0 (.cells [sF 1 o5.b_,.int .i64 o5.at_,.bool o5.aR,o5.open_]))⟩) (fun J=>?_) ?_);rotate_left;rintro o5)
  |refine Xe4 ?_|exact Xf8)
def dc(s_0:fU)(v_1:aa):Option (aa×Int×fU):=
 aZ (eH s_0.b_ s_0.at_ s_0.aR) fun r1=>
 aZ (kc (!(r1.2 !=0)) false (jL r1.1)) fun r2=>
 if(r1.2 !=0)||(!r2)then
  aZ (gW r1.2) fun r3=>
  some (v_1,r3,s_0)
 else
  aZ (eH s_0.b_ r1.1.To s_0.aR) fun r4=>
  if((r4.2 !=0)||(r4.1.Kind !=6))||(!(r4.1.S.b==(bg.mk [82]).b))then
   aZ (gW r4.2) fun r5=>
   some (v_1,r5,s_0)
  else
   if((decide (v_1.N<1))||(decide (v_1.N>4096)))||(r1.1.V.N !=0)then
    some (v_1,26,s_0)
   else
    some ((aa.mk 8 v_1.N (bg.mk []) ([]:List aa)),0,(fU.mk s_0.b_ r4.1.To s_0.aR s_0.open_))
def xm{s_0 v_1}{B0:Nat}{s:ae}{Q:List AV->ae->Prop}(hB0:s B0=some (.cells [sF 1 s_0.b_,.int .i64 s_0.at_,.bool s_0.aR,s_0.open_])):ok (dc s_0 v_1) (fun r=>Q [.agg (M1 r.1),.int .i64 r.2.1] (s.set B0 (.cells [sF 1 r.2.2.b_,.int .i64 r.2.2.at_,.bool r.2.2.aR,r.2.2.open_])))->FN prog 220 [.ref B0 0,.agg (M1 v_1)] s Q:=by
 rw[<-aU hB0]
 refine FR 87 [⟨4,false,some (4,true)⟩,⟨5,true,none⟩] 0x1493c25008250034c05954b6bfa30b36680070cef4446aa0c14bbabdf2040ae02f354864afc5c84c6ed54093822d81031c1547df52f7eb79839fbcec60dc57914d828614543a0247b4972f3581ad9e0a9c2e825bcc9c892d9b134b7afd497c9111791551503fcc9b2962ea24f044a00f0b32687affd1d7334ac66770a5a6ee87c6f657e6285f8f81820e4349401bea922da3e2a9d9ea466f0f8043396469087ce6c36b5f370c8ccd5f0a46a6ee0a19493f6935704e3b402ef52d99e6efdc2eb3b5612e75f59e9ccab20073bf26184a995da00183816402f186edb25c3708ce08db83dd794418ac397b28b8e13805ff25a71faddf405c706ae00a9cb1102e6f158db15d8348dd86110d48b9173e09dab77627d7c4ddb027f7813adf756d1bd5b4e935aae38d53c25bdd89529df12c006e19aed88225ae2503aa5312059c6d91f95de8b5c257b550805b3ae0d3d00dc04c39a03c dc.eq_1 ?_
 repeat'(first
  |with_reducible exact dj
  |((with_reducible refine Qu ?_ ?_);exact rfl)
  |(with_reducible first|refine cj ?_ ?_|refine dw ?_|refine c7 (fun _(h:eH s_0.b_ s_0.at_ s_0.aR=some _)=>(kK lh h:)) (fun _=>rfl) (fun r1=>?_)|refine jT rfl (fun _(h:jL r1.1=some _)=>lS h) (fun _=>rfl) (fun r2=>?_)|refine c7 (fun _(h:gW r1.2=some _)=>(kK wo h:)) (fun _=>rfl) (fun r3=>?_)|refine c7 (fun _(h:eH s_0.b_ r1.1.To s_0.aR=some _)=>(kK lh h:)) (fun _=>rfl) (fun r4=>?_)|refine c7 (fun _(h:gW r4.2=some _)=>(kK wo h:)) (fun _=>rfl) (fun r5=>?_))
  |refine Xe4 ?_|exact Xf8)
structure aV where
 gb:Bool
 l_:(List aa)
end Go.AB
end
section
namespace Go.AB
open Go
def Holds(s0 s:ae)(H:List (Nat×SO)):Prop:=Sub s0 s/\(∀p∈H,s p.1=some p.2/\s0 p.1=none)/\(H.map Prod.fst).Nodup
def Holds.perm{s0 s:ae}{H H':List (Nat×SO)}(h:Holds s0 s H)(p:H.Perm H'):Holds s0 s H':=⟨h.1,fun x hx=>h.2.1 x (p.mem_iff.2 hx),(p.map Prod.fst).nodup_iff.1 h.2.2⟩
def Holds.nil{s:ae}:Holds s s []:=⟨Sub.refl s,fun p hp=>A_,BY⟩
theorem Holds.get{s0 s:ae}{k:Nat}{o:SO}{H:List (Nat×SO)}(h:Holds s0 s ((k,o)::H)):s k=some o:=(h.2.1 _ List.mem_cons_self).1
def Holds.mem{s0 s:ae}{k:Nat}{o:SO}{H:List (Nat×SO)}(h:Holds s0 s H)(hm:(k,o)∈H):s k=some o:=(h.2.1 _ hm).1
def Holds.tail{s0 s:ae}{p:Nat×SO}{H:List (Nat×SO)}(h:Holds s0 s (p::H)):Holds s0 s H:=⟨h.1,fun x hx=>h.2.1 x (List.mem_cons_of_mem _ hx),(List.nodup_cons.1 h.2.2).2⟩
theorem Holds.set{s0 s:ae}{k:Nat}{o o':SO}{H:List (Nat×SO)}(h:Holds s0 s ((k,o)::H)):Holds s0 (s.set k o') ((k,o')::H):=by
 obtain⟨h1,h2,h3⟩:=h
 have h0:=(h2 _ List.mem_cons_self).2
 refine⟨fun b x hb=>?_,fun p hp=>?_,h3⟩
 ·rw[af (fun e=>A_)];exact h1 b x hb
 ·rcases List.mem_cons.1 hp with rfl|hp
  ·grind [cE]
  ·obtain⟨q1,q2⟩:=h2 p (List.mem_cons_of_mem _ hp)
   refine⟨?_,q2⟩
   rw[af (fun e=>?_)];exact q1
   grind
def Holds.al2{s0 s:ae}{H:List (Nat×SO)}(h:Holds s0 s H){k:Nat}(hk:s k=none):k∉H.map Prod.fst:=by
 intro hm
 obtain⟨p,hp,rfl⟩:=List.mem_map.1 hm
 rw[(h.2.1 p hp).1]at hk;cases hk
theorem Holds.alloc{s0 s:ae}{k:Nat}{o:SO}{H:List (Nat×SO)}(h:Holds s0 s H)(hk:s k=none):Holds s0 (s.set k o) ((k,o)::H):=by
 obtain⟨h1,h2,h3⟩:=h
 have h0:s0 k=none:=by
  cases e:s0 k with
  |none=>rfl
  |some x=>rw[h1 k x e]at hk;cases hk
 refine⟨h1.set hk,fun p hp=>?_,A_⟩
 rcases List.mem_cons.1 hp with rfl|hp
 ·grind [cE]
 grind [q1,q2,af]
theorem Holds.sub{s0 s s':ae}{H:List (Nat×SO)}(h:Holds s0 s H)(hs:Sub s s'):Holds s0 s' H:=⟨fun b o hb=>hs b o (h.1 b o hb),fun p hp=>⟨hs _ _ (h.2.1 p hp).1,(h.2.1 p hp).2⟩,h.2.2⟩
theorem Tf{s:ae}{k j:Nat}(h:j≠k):(s.del k) j=s j:=by unfold ae.del;rw[if_neg h]
def Is{s:ae}{k:Nat}{o:SO}(h:s k=some o):(s.del k).set k o=s:=by grind [ae.set,ae.del]
theorem Holds.del{s0 s:ae}{k:Nat}{o:SO}{H:List (Nat×SO)}(h:Holds s0 s ((k,o)::H)):Holds s0 (s.del k) H/\(s.del k) k=none:=by
 obtain⟨h1,h2,h3⟩:=h
 have h0:=(h2 _ List.mem_cons_self).2
 refine⟨⟨fun b x hb=>?_,fun p hp=>?_,(List.nodup_cons.1 h3).2⟩,by unfold ae.del;simp⟩
 ·rw[Tf (fun e=>A_)];exact h1 b x hb
 ·obtain⟨q1,q2⟩:=h2 p (List.mem_cons_of_mem _ hp)
  refine⟨?_,q2⟩
  rw[Tf (fun e=>?_)];exact q1
  grind
section
variable{α:Type}[aO α]
def pQ(r:c5)(l:List α):List (Nat×SO):=match r with
 |none=>[]
 |some (b,_,sp)=>[(b,.cells (flat l++sp))]
def Oq(r:c5)(l:List α):Prop:=match r with
 |none=>l=[]
 |some (_,cap,sp)=>0<cap/\l.length<=cap/\(flat l++sp).length=cap*aO.w α/\views sp=sp
def Holds.row{s0 s:ae}{r:c5}{l:List α}{H:List (Nat×SO)}(h:Holds s0 s (pQ r l++H))(hf:Oq r l):∃s1,s=jc s1 r l/\fZ s1 r l/\Holds s0 s1 H:=by
 cases r with
 |none=>exact⟨s,rfl,hf,h⟩
 |some x=>
  obtain⟨b,cap,sp⟩:=x
  have h':=h
  obtain⟨h1,h2⟩:=h'.del
  exact⟨s.del b,(Is h'.get).symm,⟨h2,hf⟩,h1⟩
def Holds.abn{s0 s1:ae}{r:c5}{l:List α}{H:List (Nat×SO)}(h:Holds s0 s1 H)(ho:fZ s1 r l):Holds s0 (jc s1 r l) (pQ r l++H)/\Oq r l:=by
 cases r with
 |none=>exact⟨h,ho⟩
 |some x=>exact⟨h.alloc ho.1,ho.2⟩
end
end Go.AB
end
section
set_option maxRecDepth 16000
namespace Go.AB
open Go
open Go.Proofs.Tryz (prog)
attribute[-go_sem] Nat.add_zero mi cy
def l8:IC:=dec 0x258b7d3a0d9a5d6bb3337f0e0a483f421590145d20c6ee55129bcd341cd2049c3e25c630b1429debe79b885a40fab46acd9cc944efc84b51d72ef8b10bcd54bfe3b8d57f874ad12ebbfd34587805b77b7dd062da56b03fa5408cf80b91f8bb02203af2b6d1f8002c39e8812ec18843b4342895d3fd3be6733aaf3b8bc0fc37378f10cb6f2dcf511f886c88374986b0bea2c42369f9f4d8a3cee7c8730c428fc0dcbeb17f667af5f6955da2b3550805b3ae0d3d00dc06a99a03c
def sZ:ey prog 188 47 [⟨4,false,some (4,true)⟩,⟨5,true,none⟩] l8=true:=By
def nJ:IC:=dec 0x9eff11f0280aa8837d2d97642d82df006c3ebf6398fb79ab46e05671d25550adf6bacda014e04ac29bcc718b8d68f92102c073311b2ca7c785250fb3370a10c792f4f12489014c523df799bb742f82f9583926feeae01b32ba93bcd861e3a938d78cbc4882d4162fa2a89e722a7721391e3a2ae9f88d6971505548286a10ac6fbbf6e3bc39a2586ad1a52b09259717e62565db6dddfecaaf09c0202eb79faf223db004cf04afaae0e9d730fb9b22af3226249f80b719f08ca661b577e2d28a98dbc6047ca84f4230504cea1546074f11b4cec3eed10f3a621b90513724997d4b1cb49ac565649463132fc8edc18fb443a16ad4024f67c8aad289c17b5636465d407f97fbc7ac609956324e27fc605128db3ae0d3d00dc06a99a08d
def vE:ey prog 161 54 [⟨4,false,some (4,true)⟩,⟨5,true,none⟩,⟨6,true,none⟩] nJ=true:=By
structure MN where
 n:Option Nat
def MN.c(x:MN):AV:=match x.n with
 |none=>.fM
 |some b=>.ref b 0
instance:aO MN:=⟨1,fun x=>[x.c],⟨none⟩,B_,fun _=>rfl,fun x=>by obtain⟨_|b⟩:=x<;>rfl⟩
def refs(ids:List (Nat×c5)):List MN:=ids.map fun i=>⟨some i.1⟩
def UQ(r:c5)(v:aV):SO:=.cells [.bool v.gb,jj r v.l_.length]
def lvH(id:Nat×c5)(v:aV):List (Nat×SO):=(id.1,UQ id.2 v)::pQ id.2 v.l_
def DA:List (Nat×c5)->List aV->List (Nat×SO)
 |id::ids,v::vs=>lvH id v++DA ids vs
 |_,_=>[]
def Yh:List (Nat×c5)->List aV->Prop
 |id::ids,v::vs=>Oq id.2 v.l_/\Yh ids vs
 |[],[]=>True
 |_,_=>False
theorem ri:∀{ids:List (Nat×c5)}{vs:List aV},Yh ids vs->ids.length=vs.length
 |[],[],_=>rfl
 |_::ids,_::vs,h=>by rw[List.length_cons,List.length_cons,ri h.2]
 |[],_::_,h=>h.elim
 |_::_,[],h=>h.elim
structure PS where
 b:List UInt8
 at_:Int
 last:Bool
 st:List aV
def j6(p:PS)(rr:c5):List AV:=[.sl false 1 p.b.length (flat p.b),.int .i64 p.at_,.bool p.last,jj rr p.st.length]
def rK(s0 s:ae)(B:Nat)(p:PS)(rr:c5)(ids:List (Nat×c5)):Prop:=Yh ids p.st/\Oq rr (refs ids.reverse)/\Holds s0 s ((B,.cells (j6 p rr))::(pQ rr (refs ids.reverse)++DA ids p.st))
theorem rm(ids:List (Nat×c5)):(refs ids).length=ids.length:=by unfold refs;simp
theorem rK.cell{s0 s:ae}{B:Nat}{p:PS}{rr:c5}{ids:List (Nat×c5)}(h:rK s0 s B p rr ids):s B=some (.cells (j6 p rr)):=h.2.2.get
theorem rK.ref{s0 s:ae}{B:Nat}{p:PS}{rr:c5}{id:Nat×c5}{ids:List (Nat×c5)}(h:rK s0 s B p rr (id::ids)):
 ∃rb cap sp,rr=some (rb,cap,sp)/\s rb=some (.cells (flat (refs (id::ids).reverse)++sp))/\(flat (refs (id::ids).reverse)++sp)[ids.length]? =some (.ref id.1 0):=by
 obtain⟨h1,h2,h3⟩:=h
 have hl:0<(refs (id::ids).reverse).length:=by rw[rm];simp
 cases rr with
 |none=>rw[h2]at hl;simp at hl
 |some x=>
  obtain⟨rb,cap,sp⟩:=x
  refine⟨rb,cap,sp,rfl,h3.mem (by simp[pQ]),?_⟩
  have hi:ids.length<(refs (id::ids).reverse).length:=by rw[rm];simp
  have:=wT (refs (id::ids).reverse) sp (r:=0) hi B_
  rw[show ids.length*aO.w MN+0=ids.length by show ids.length*1+0=_;omega]at this
  rw[this]
  have e:(refs (id::ids).reverse)[ids.length]=⟨some id.1⟩:=by
   unfold refs
   simp
  rw[e];rfl
theorem Ze{cs:List AV}{off:Nat}{a:AV}(h:cs[off]? =some a):off+1<=cs.length/\AB.sub cs off 1=[a]:=by
 obtain⟨h1,h2⟩:=List.getElem?_eq_some_iff.1 h
 refine⟨h1,?_⟩
 unfold AB.sub
 rw[List.drop_eq_getElem_cons h1,h2];rfl
theorem Rc{cs:List AV}{off b:Nat}(h:cs[off]? =some (.ref b 0)):LC [.fM] false off (some (.cells cs))=.prt (off+1<=cs.length) (.ref b 0):=by
 show ckP _ (oM false (pad [.fM] (views (AB.sub cs off 1))))=_
 rw[(Ze h).2]
 rfl
def JR{s0 s:ae}{B:Nat}{p:PS}{rr:c5}{ids:List (Nat×c5)}(h:rK s0 s B p rr ids)(cg:p.st.length<=room){Q:List AV->ae->Prop}(hn:p.st=[]->Q [.fM] s)
 (hc:∀id gq v vs,ids=id::gq->p.st=v::vs->Q [.ref id.1 0] s):FN prog 162 [.ref B 0] s Q:=by
 have hB:=h.cell
 have hlen:=ri h.1
 refine FS 21 [⟨2,true,none⟩] 0x5865d3436d723718a0701e11689e4535ede58f6a6bd94d4caa154af0ee0c09a15e73dbbd11cd7c7fa9a4f4db163dd2faf04eea911f44990bb41d9388473a ?_
 unfold j6 at hB
 refine Xg2 hB ?_
 refine⟨fun he=>hn (List.eq_nil_of_length_eq_zero A_),fun hne=>?_⟩
 have hne:=sW
 cases ez:p.st with
 |nil=>rw[ez]at hne;exact absurd rfl hne
 |cons v vs=>
 cases ids with
 |nil=>rw[ez]at hlen;simp at hlen
 |cons id gq=>
 obtain⟨rb,cap,sp,rfl,h1,h2⟩:=h.ref
 have hl:p.st.length=gq.length+1:=A_
 rw[<-ez]
 have hr:room=140737488355328:=rfl
 have hw:aC (p.st.length -1)=gq.length:=E_
 rw[hw]
 refine⟨AT,?_⟩
 show qK _ _ _ (LC _ _ _ (s rb))
 rw[h1,Int.toNat_natCast,Nat.mul_one,Rc h2]
 refine Xe4 ?_
 exact⟨A_,hc id gq v vs rfl ez⟩
def EK{s:ae}{B n:Nat}{d:Bool}{r:c5}{Q:List AV->ae->Prop}(hB:s B=some (.cells [.bool d,jj r n]))(hq:Q [.bool (d&&((n:Int).tmod 2==0))] s):FN prog 217 [.ref B 0] s Q:=by
 refine FS 16 [⟨2,true,none⟩] 0x135b9169b7b37e1efc862cfbe418e744e0104fcdcbc771a03caa3feb37dd9450c55e9be1729f9b3d8824473a ?_
 refine Xg2 hB ?_
 exact hq
def eY:List aV->Bool
 |[]=>false
 |v::_=>v.gb&&((v.l_.length:Int).tmod 2==0)
def rK.lv{s0 s:ae}{B:Nat}{p:PS}{rr:c5}{id:Nat×c5}{ids:List (Nat×c5)}{v:aV}{vs:List aV}(h:rK s0 s B p rr (id::ids))(ez:p.st=v::vs):s id.1=some (UQ id.2 v):=by
 refine h.2.2.mem ?_
 rw[ez]
 simp[DA,lvH]
theorem rl(id:Nat×c5)(ids:List (Nat×c5)):refs (id::ids).reverse=refs ids.reverse++[⟨some id.1⟩]:=by unfold refs;simp
def Gm{E:St}{d:Option Nat}{K:St->Prop}{s0 s:ae}{B b:Nat}{p:PS}{rr:c5}{ids:List (Nat×c5)}{iY:Bool}(h:rK s0 s B p rr ids)(cg:p.st.length<=64)(hb:s b=none)(hσ:E.s=s.set b (.cells [.bool iY,.arr 0 0 0 0]))
 (hK:∀s1 rr',s1 B=some (.cells (j6 p rr))->(∃gq,rK s0 (s1.set B (.cells (j6 {p with st:=⟨iY,[]⟩::p.st} rr'))) B {p with st:=⟨iY,[]⟩::p.st} rr' gq)->K ({E with s:=s1}.put d (jj rr' (p.st.length+1)))):
 eP 1 8 [.fM] E d K (jj rr p.st.length) (vM E.s 1 (.sl true 1 1 [.ref b 0])):=by
 obtain⟨h1,h2,h3⟩:=h
 have hlen:=ri h1
 have hr:room=140737488355328:=rfl
 have hl:(refs ids.reverse).length=p.st.length:=by rw[rm];simp[hlen]
 have H0:=h3.alloc (o:=.cells [.bool iY,.arr 0 0 0 0]) hb
 have H0':=H0.perm (List.perm_append_comm_assoc [(b,SO.cells [.bool iY,.arr 0 0 0 0]),(B,SO.cells (j6 p rr))] _ _)
 obtain⟨s1,e,ok,H1⟩:=H0'.row h2
 rw[gn,<-hl]
 refine xL (z:=(⟨none⟩:MN)) (v:=(⟨some b⟩:MN)) (hσ.trans e) ok rfl K_ fun s' r' hs' ok'=>?_
 rw[hl]
 obtain⟨H2,hf⟩:=(H1.sub hs').abn ok'
 have H3:Holds s0 (jc s' r' (refs ids.reverse++[⟨some b⟩])) ((B,.cells (j6 p rr))::(pQ r' (refs ids.reverse++[⟨some b⟩])++((b,.cells [.bool iY,.arr 0 0 0 0])::DA ids p.st))):=by
  refine H2.perm ?_
  refine(List.perm_append_comm_assoc _ [(b,SO.cells [.bool iY,.arr 0 0 0 0]),(B,SO.cells (j6 p rr))] _).trans ?_
  refine(List.Perm.swap ..).trans ?_
  refine List.Perm.cons _ ?_
  exact List.perm_append_comm_assoc [(b,SO.cells [.bool iY,.arr 0 0 0 0])] _ _
 refine hK _ r' H3.get ⟨(b,none)::ids,⟨rfl,h1⟩,?_,?_⟩
 ·rw[rl];exact hf
 ·rw[rl]
  exact H3.set
def Sz{s0 s:ae}{B:Nat}{p:PS}{rr:c5}{ids:List (Nat×c5)}(h:rK s0 s B p rr ids)(cg:p.st.length<=64){iY:Bool}{Q:List AV->ae->Prop}(he:eY p.st=true->Q [.int .i64 11] s)
 (hd:eY p.st=false->64<=p.st.length->Q [.int .i64 15] s)
 (hk:eY p.st=false->p.st.length<64->∀s' rr' gq,rK s0 s' B {p with st:=⟨iY,[]⟩::p.st} rr' gq->Q [.int .i64 0] s'):FN prog 186 [.ref B 0,.bool iY] s Q:=by
 have hB:=h.cell
 have hlen:=ri h.1
 have hr:room=140737488355328:=rfl
 refine FS 32 [⟨4,true,none⟩] 0xf0474b042b806c456287e922c2b763621e21bb46dbd3d5dd4414ba493d247f7501e5c4e9251d6d6aefcefeed08f02008d789963740005eb3841d8aa0799959b48e2861c507672192307854b776c495872c8a8f73c3c0ea221d9d3678c8da57269a0c47530e9af75a14740d3980083fa ?_
 unfold j6 at hB
 refine JR h AT (fun ez=>?_) (fun id gq v vs NA ez=>?_)
 ·refine Xg2 hB ?_
  refine⟨[.bool false],rfl,fun h=>F_,?_⟩
  have hw:eY p.st=false:=Uy
  simp -implicitDefEqProofs only[go_sem,seval,hB,Bool.false_and,Bool.and_false]
  refine⟨fun hx=>he A_,fun hx=>?_⟩
  refine⟨fun hx=>hd hw Xc9,fun hx b hb=>?_⟩
  have hlt:p.st.length<64:=Xd0
  refine Gm h cg hb rfl fun s1 rr' hB1⟨gq,Ud⟩=>?_
  unfold j6 at hB1
  refine Xg2 hB1 ?_
  exact hk hw hlt _ _ _ Ud
 ·refine Xg2 hB ?_
  subst NA
  have hlv:=h.lv ez
  refine⟨[.bool (eY p.st)],rfl,fun _=>⟨_,rfl,EK hlv (by rw[ez];exact⟨rfl,rfl⟩)⟩,?_⟩
  simp -implicitDefEqProofs only[go_sem,seval,hB,Bool.true_and,Bool.and_true]
  refine⟨fun hx=>he A_,fun hx=>?_⟩
  have hw:eY p.st=false:=by first|exact hw|exact hx
  refine⟨fun hx=>hd hw Xc9,fun hx b hb=>?_⟩
  have hlt:p.st.length<64:=Xd0
  refine Gm h cg hb rfl fun s1 rr' hB1⟨gq,Ud⟩=>?_
  unfold j6 at hB1
  refine Xg2 hB1 ?_
  exact hk hw hlt _ _ _ Ud
def aga{E:St}{d:Option Nat}{K:St->Prop}{s0:ae}{R:List (Nat×SO)}{r:c5}{l:List aa}(hσ:Holds s0 E.s (pQ r l++R))(hf:Oq r l)
 (hK:∀s2,Holds s0 s2 R->K ({E with s:=s2}.put d (.sl false 4 l.length (flat l)))):yg 4 false E d K (jj r l.length):=by
 cases r with
 |none=>
  obtain rfl:l=[]:=hf
  exact .inl ⟨rfl,rfl,rfl,hK E.s hσ⟩
 |some x=>
  obtain⟨b,cap,sp⟩:=x
  obtain⟨f1,f2,f3,f4⟩:=hf
  have hE':=hσ
  refine .inr ⟨f1,f2,fun h=>A_,?_⟩
  have hle:0+l.length*4<=(flat l++sp).length:=by rw[f3,Nat.zero_add];exact Nat.mul_le_mul_right _ f2
  have hc:jU l.length 4 0 (E.s b)=some (l.length,flat l):=by
   rw[hE'.get]
   unfold jU
   simp only[decide_eq_true hle,cond_true]
   have:=gJ l sp 4 0 l.length rfl BY
   rw[this,List.drop_zero,List.take_length,aF]
  show yg.frzK 4 false E d K b l.length (jU l.length 4 0 (E.s b))
  rw[hc]
  exact hK _ hE'.del.1
def rK.pop{s0 s:ae}{B:Nat}{p:PS}{rr:c5}{id:Nat×c5}{ids:List (Nat×c5)}{v:aV}{vs:List aV}(h:rK s0 s B p rr (id::ids))(ez:p.st=v::vs):
 ∃rr',Mi rr'=Mi rr/\JA rr'=JA rr/\Oq rr' (refs ids.reverse)/\Yh ids vs/\Oq id.2 v.l_/\Holds s0 s ((B,.cells (j6 p rr))::(pQ rr' (refs ids.reverse)++(lvH id v++DA ids vs))):=by
 have hr:=h.ref
 obtain⟨rb,cap,sp,rfl,_,_⟩:=hr
 obtain⟨h1,h2,h3⟩:=h
 rw[ez]at h1 h3
 obtain⟨f1,f2,f3,f4⟩:=h2
 have e:flat (refs (id::ids).reverse)++sp=flat (refs ids.reverse)++(.ref id.1 0::sp):=by rw[rl,cT,List.append_assoc];rfl
 refine⟨some (rb,cap,.ref id.1 0::sp),rfl,rfl,⟨f1,?_,?_,?_⟩,h1.2,h1.1,?_⟩
 ·rw[rm]at f2⊢;simp at f2⊢;omega
 ·rw[<-e];exact f3
 ·unfold views at f4⊢;rw[List.map_cons,f4];rfl
 ·unfold pQ at h3⊢
  simp only at h3⊢
  rw[<-e]
  exact h3
def PM{s0 s:ae}{X:Nat×SO}{R T:List (Nat×SO)}{id:Nat×c5}{v:aV}(h:Holds s0 s (X::(R++(lvH id v++T)))):Holds s0 s (pQ id.2 v.l_++(X::(R++T))):=by
 have p1:(X::(R++(lvH id v++T))).Perm ((id.1,UQ id.2 v)::((X::R)++(pQ id.2 v.l_++T))):=List.perm_middle (l₁:=X::R)
 have p2:((X::R)++(pQ id.2 v.l_++T)).Perm (pQ id.2 v.l_++((X::R)++T)):=List.perm_append_comm_assoc ..
 exact(h.perm p1).tail.perm p2
def Wy:List AV:=[.int .i64 0,.int .i64 0,.str [],.sl false 4 0 []]
def pa(st:List aV)(iY:Bool):Bool:=match st with
 |[]=>true
 |v::_=>(v.gb !=iY)||(iY&&!eY st)
abbrev xJ(pf:List aa->Option (List aa×Int)):Prop:=∀(s:ae)(l:List aa)(r:List aa×Int),pf l=some r->FE prog 218 [.sl false 4 l.length (flat l)] s [.sl false 4 r.1.length (flat r.1),.int .i64 r.2] s
@[go_sem]theorem U1:mr .fM=.no:=rfl
@[go_sem]theorem Sd(o:Nat)(x:IX):gP o x (.iJ [])=.no:=rfl
@[go_sem]theorem ajs(E:St)(n:Nat):rd E (.iJ []) n=none:=rfl
@[go_sem]theorem air(op:UnOp):unV op (.iJ [])=.no:=by cases op<;>rfl
@[go_sem]theorem aet(ne:Bool)(y:AV):Np ne (.iJ []) y=.no:=rfl
def abU{pf:List aa->Option (List aa×Int)}(hpf:xJ pf){s0 s:ae}{B:Nat}{p:PS}{rr:c5}{ids:List (Nat×c5)}(h:rK s0 s B p rr ids)(cg:p.st.length<=64){iY:Bool}{Q:List AV->ae->Prop}
 (h0:pa p.st iY=true->Q [.agg Wy,.int .i64 11] s)
 (hA:∀v vs,p.st=v::vs->iY=false->pa p.st iY=false->∀s' rr' gq,rK s0 s' B {p with st:=vs} rr' gq->Q [.agg [.int .i64 6,.int .i64 0,.str [],.sl false 4 v.l_.length (flat v.l_)],.int .i64 0] s')
 (hD:∀v vs,p.st=v::vs->iY=true->pa p.st iY=false->ok (pf v.l_) fun r=>(r.2≠0->∀s',Sub s0 s'->Q [.agg Wy,.int .i64 r.2] s')/\
   (r.2=0->∀s' rr' gq,rK s0 s' B {p with st:=vs} rr' gq->Q [.agg [.int .i64 7,.int .i64 0,.str [],.sl false 4 r.1.length (flat r.1)],.int .i64 0] s')):FN prog 187 [.ref B 0,.bool iY] s Q:=by
 have hB:=h.cell
 have hlen:=ri h.1
 have hr:room=140737488355328:=rfl
 refine FS 81 [⟨4,false,some (4,true)⟩,⟨5,true,none⟩] 0xb9cb5be788120665dbfbdf45cb552b0151cb31d431cfd09d8c0b8ca1ecd70a0a283f7498d9a4df5318e97dd5a9c6f3988153acbf0ee06e3731c973a1bfcf1c52272b529b88b6cdbb0a7316e863b622d9922cfc6b0d2a485de525e644429d8a6a59f9fce97ec7026fbb2f58a9f78d77634ae41b503d8dff4c7e3e8737c3787be1933e8e97feb5c3570aae4de9cb2244ccb75288340072d614ef707894b0d9e001ee0b1843b0fc66d2be361cc115f904162a2a36ac2f3a2f8701c594ec32cbd20e360ca2439f29010f22043da759a9937594a19b89c474be4c07daa2fb67ea279b465a699da9a11de6aaeafe31a451a33d14504fecaada93783f5db32e584783510a66dd7bbb6a5d17b64a9a10f16fe32eaa02e9da7918b003cd1eb37e0092b24b ?_
 unfold j6 at hB
 refine Xe4 ?_
 refine JR h AT (fun ez=>?_) (fun id gq v vs NA ez=>?_)
 ·have K4:pa p.st iY=true:=Uy
  simp -implicitDefEqProofs only[go_sem,seval,hB,Bool.true_eq_false,false_implies,true_implies,true_and]
  exact h0 K4
 ·subst NA
  have hlv:=h.lv ez
  unfold UQ at hlv
  have hbd:pa p.st iY=((v.gb !=iY)||(iY&&!eY p.st)):=Uy
  have htw:eY p.st=(v.gb&&((v.l_.length:Int).tmod 2==0)):=Uy
  refine Xg2 hB ?_
  cases hdv:v.gb<;>cases iY
  all_goals(rw[hdv]at hlv;simp -implicitDefEqProofs only[go_sem,Nat.reduceBEq,Nat.reduceAdd,Nat.reduceMul,Nat.reduceLeDiff,Nat.reduceEqDiff,Nat.reduceBNe,UInt8.reduceToNat,UInt32.reduceToNat,hB,hlv,bL,beq_self_eq_true,Bool.and_self,Bool.not_true,Bool.not_false,Bool.and_false,Bool.false_and,Bool.and_true,Bool.true_and])
  ·have hbf:pa p.st false=false:=Xd2
   obtain⟨rr',e1,e2,f1,f2,f3,H⟩:=h.pop ez
   have fh:p.st.length<=JA rr:=by
    obtain⟨rb,cap,sp,rfl,_,_⟩:=h.ref
    have:=h.2.1.2.1
    rw[rm,List.length_reverse,hlen]at this
    exact this
   have hn:p.st.length=vs.length+1:=Uy
   have hw:aC ((p.st.length:Int) -1)=(vs.length:Int):=E_
   rw[hw]
   refine⟨⟨AT,AT,AT⟩,?_⟩
   have H':=H.set (o':=.cells (j6 {p with st:=vs} rr'))
   have es:j6 {p with st:=vs} rr'=[.sl false 1 p.b.length (flat p.b),.int .i64 p.at_,.bool p.last,.arr (Mi rr) 0 (vs.length:Int).toNat (JA rr)]:=by
    unfold j6 jj
    rw[e1,e2];rfl
   rw[es]at H'
   have hl2:=H'.mem (k:=id.1) (o:=UQ id.2 v) (by simp[lvH])
   rw[hl2]
   unfold UQ
   refine Xe4 ?_
   refine aga (PM H') f3 fun s2 H2=>?_
   refine Xe4 ?_
   exact hA v vs ez rfl hbf s2 rr' gq ⟨f2,f1,by rw[es];exact H2⟩
  ·exact h0 Xd2
  ·exact h0 Xd2
  ·refine EK hlv ?_
   simp -implicitDefEqProofs only[go_sem,seval,hB,hlv,bL,beq_self_eq_true,Bool.and_self,Bool.not_true,Bool.not_false,Bool.and_false,Bool.false_and,Bool.and_true,Bool.true_and]
   have agG:eY p.st=((v.l_.length:Int).tmod 2==0):=by rw[htw,hdv];rfl
   refine⟨fun hx=>h0 (by rw[hbd,hdv,agG];simpa using hx),fun hx=>?_⟩
   have hbf:pa p.st true=false:=by rw[hbd,hdv,agG];simpa using hx
   obtain⟨rr',e1,e2,f1,f2,f3,H⟩:=h.pop ez
   refine aga (PM H) f3 fun s2 H2=>?_
   have hB2:=H2.get
   unfold j6 at hB2
   obtain⟨r,hr1,hr2,hr3⟩:=hD v vs ez rfl hbf
   refine Xe4 ?_
   refine FE.app (hpf s2 v.l_ r hr1) ⟨rfl,?_⟩
   refine Xf4 hB2 ?_
   have fh:p.st.length<=JA rr:=by
    obtain⟨rb,cap,sp,rfl,_,_⟩:=h.ref
    have:=h.2.1.2.1
    rw[rm,List.length_reverse,hlen]at this
    exact this
   have hn:p.st.length=vs.length+1:=Uy
   have hw:aC ((p.st.length:Int) -1)=(vs.length:Int):=E_
   rw[hw]
   have es:j6 {p with st:=vs} rr'=[.sl false 1 p.b.length (flat p.b),.int .i64 p.at_,.bool p.last,.arr (Mi rr) 0 (vs.length:Int).toNat (JA rr)]:=by
    unfold j6 jj
    rw[e1,e2];rfl
   refine⟨fun hx=>hr2 X5 s2 H2.1,fun hx=>⟨⟨AT,AT,AT⟩,?_⟩⟩
   have H3:=H2.set (o':=.cells (j6 {p with st:=vs} rr'))
   rw[es]at H3
   exact hr3 X5 _ rr' gq ⟨f2,f1,by rw[es];exact H3⟩
set_option maxRecDepth 4000
def YS(b:List UInt8)(a:Int)(last:Bool)(o:AV)(v:aa){r:aa×Int×fU}(h:dc ⟨b,a,last,.fM⟩ v=some r):dc ⟨b,a,last,o⟩ v=some (r.1,r.2.1,⟨b,r.2.2.at_,last,o⟩):=by
 unfold dc at h⊢
 simp only[]at h⊢
 cases h1:eH b a last with
 |none=>rw[h1]at h;cases h
 |some r1=>
  rw[h1]at h
  simp only[aZ]at h⊢
  cases h2:kc (!(r1.2 !=0)) false (jL r1.1)with
  |none=>rw[h2]at h;cases h
  |some r2=>
   rw[h2]at h
   simp only[]at h⊢
   cases h3:((r1.2 !=0)||(!r2))with
   |true=>
    simp only[h3,if_true]at h⊢
    cases h4:gW r1.2 with
    |none=>rw[h4]at h;cases h
    |some r3=>rw[h4]at h;cases h;rfl
   |false=>
    simp only[h3,Bool.false_eq_true,if_false]at h⊢
    cases h4:eH b r1.1.To last with
    |none=>rw[h4]at h;cases h
    |some r4=>
     rw[h4]at h
     simp only[]at h⊢
     cases h5:(((r4.2 !=0)||(r4.1.Kind !=6))||(!(r4.1.S.b==(bg.mk [82]).b)))with
     |true=>
      first
      |(simp only[h5,if_true]at h;cases h;done)
      |(simp only[h5,if_true]at h⊢
        cases h6:gW r4.2 with
        |none=>rw[h6]at h;cases h
        |some r5=>rw[h6]at h;cases h;rfl)
     |false=>
      simp only[h5,Bool.false_eq_true,if_false]at h⊢
      cases h6:(((decide (v.N<1))||(decide (v.N>4096)))||(r1.1.V.N !=0))with
      |true=>first|(simp only[h6,if_true]at h;cases h;done)|(simp only[h6,if_true]at h⊢;cases h;rfl)
      |false=>first|(simp only[h6,Bool.false_eq_true,if_false]at h;cases h;done)|(simp only[h6,Bool.false_eq_true,if_false]at h⊢;cases h;rfl)
def zV:aa:=⟨0,0,⟨[]⟩,[]⟩
def vA(v:aa):AV:=.agg [.int .i64 v.Kind,.int .i64 v.N,.str v.S.b,.sl false 4 v.L.length (flat v.L)]
def tA(t:aH):AV:=.agg [.int .i64 t.Kind,.int .i64 t.aP,.int .i64 t.To,.int .i64 t.V.Kind,.int .i64 t.V.N,.str t.V.S.b,.sl false 4 t.V.L.length (flat t.V.L),.str t.S.b]
def mR(p:PS)(t:aH):Option (aa×Int×Int):=
 if eY p.st&&(t.Kind !=1||t.V.Kind !=5)then some (zV,11,p.at_)
 else if t.Kind==6 then aZ (kY t.S) fun r=>some (r.1,r.2,p.at_)
 else aZ (jL t) fun w=>if w then aZ (dc ⟨p.b,p.at_,p.last,.fM⟩ t.V) fun r=>some (r.1,r.2.1,r.2.2.at_)else some (t.V,0,p.at_)
def rK.place{s0 s:ae}{B:Nat}{p:PS}{rr:c5}{ids:List (Nat×c5)}(h:rK s0 s B p rr ids)(a:Int):rK s0 (s.set B (.cells (j6 {p with at_:=a} rr))) B {p with at_:=a} rr ids:=⟨h.1,h.2.1,h.2.2.set⟩
def Om{s0 s:ae}{B:Nat}{p:PS}{rr:c5}{ids:List (Nat×c5)}(h:rK s0 s B p rr ids){v:aa}{r:aa×Int×fU}(hr:dc ⟨p.b,p.at_,p.last,.fM⟩ v=some r){Q:List AV->ae->Prop}
 (hq:∀s',rK s0 s' B {p with at_:=r.2.2.at_} rr ids->Q [vA r.1,.int .i64 r.2.1] s'):FN prog 220 [.ref B 0,vA v] s Q:=by
 refine xm (s_0:=⟨p.b,p.at_,p.last,jj rr p.st.length⟩) h.cell ⟨_,YS _ _ _ (jj rr p.st.length) _ hr,?_⟩
 exact hq _ (h.place _)
def RL{s0 s:ae}{B:Nat}{p:PS}{rr:c5}{ids:List (Nat×c5)}(h:rK s0 s B p rr ids)(cg:p.st.length<=64){t:aH}{Q:List AV->ae->Prop}
 (hm:ok (mR p t) fun r=>∀s',rK s0 s' B {p with at_:=r.2.2} rr ids->Q [vA r.1,.int .i64 r.2.1] s'):FN prog 188 [.ref B 0,tA t] s Q:=by
 have hB:=h.cell
 have hlen:=ri h.1
 have hr:room=140737488355328:=rfl
 unfold mR at hm
 simp only[DE,js,bB]at hm
 obtain⟨m1,m2⟩:=hm
 refine FO sZ rfl rfl ?_
 rw[l8]
 refine Xf9 ?_
 unfold j6 at hB
 unfold tA
 refine Xe4 ?_
 refine JR h AT (fun ez=>?_) (fun id gq v vs NA ez=>?_)
 ·have htw:eY p.st=false:=Uy
  rw[htw]at m1 m2
  refine Xe5 hB ?_
  refine⟨fun hk=>?_,fun hk=>?_⟩
  ·obtain⟨r,hr1,hr2⟩:=(m2 rfl).1 hk
   refine FE.app (qw hr1) ?_
   refine Xe4 ?_
   exact hr2 s h
  ·obtain⟨w,hw1,hw2⟩:=(m2 rfl).2 hk
   refine FE.app (lS hw1) ?_
   refine Xe4 ?_
   refine⟨fun hw=>?_,fun hw=>?_⟩
   ·obtain⟨r,hr1,hr2⟩:=hw2.1 hw
    refine Om h hr1 fun s' hs'=>?_
    unfold vA
    refine Xe4 ?_
    exact hr2 s' hs'
   ·exact hw2.2 hw s h
 ·subst NA
  have hlv:=h.lv ez
  refine Xg2 hB ?_
  refine⟨fun _=>EK hlv ?_,fun hx=>r_⟩
  have htw:(v.gb&&((v.l_.length:Int).tmod 2==0))=eY p.st:=Uy
  rw[htw]
  cases hw:eY p.st<;>rw[hw]at m1 m2
  all_goals simp -implicitDefEqProofs only[go_sem,seval,hB,bL]
  ·refine⟨fun hk=>?_,fun hk=>?_⟩
   ·obtain⟨r,hr1,hr2⟩:=(m2 rfl).1 hk
    refine FE.app (qw hr1) ?_
    refine Xe4 ?_
    exact hr2 s h
   ·obtain⟨w,hw1,hw2⟩:=(m2 rfl).2 hk
    refine FE.app (lS hw1) ?_
    refine Xe4 ?_
    refine⟨fun hw=>?_,fun hw=>?_⟩
    ·obtain⟨r,hr1,hr2⟩:=hw2.1 hw
     refine Om h hr1 fun s' hs'=>?_
     unfold vA
     refine Xe4 ?_
     exact hr2 s' hs'
    ·exact hw2.2 hw s h
  ·refine⟨fun hx=>m1 hx s h,fun hx=>?_⟩
   refine⟨fun hk=>?_,fun hk=>?_⟩
   ·obtain⟨r,hr1,hr2⟩:=(m2 hx).1 hk
    refine FE.app (qw hr1) ?_
    refine Xe4 ?_
    exact hr2 s h
   ·obtain⟨w,hw1,hw2⟩:=(m2 hx).2 hk
    refine FE.app (lS hw1) ?_
    refine Xe4 ?_
    refine⟨fun hw=>?_,fun hw=>?_⟩
    ·obtain⟨r,hr1,hr2⟩:=hw2.1 hw
     refine Om h hr1 fun s' hs'=>?_
     unfold vA
     refine Xe4 ?_
     exact hr2 s' hs'
    ·exact hw2.2 hw s h
def Ix(pf:List aa->Option (List aa×Int))(p:PS)(iY:Bool):Option (aa×Int×PS):=
 bif pa p.st iY then some (zV,11,p)else
 match p.st with
 |[]=>none
 |v::vs=>bif iY then aZ (pf v.l_) fun r=>bif r.2 !=0 then some (zV,r.2,p)else some (⟨7,0,⟨[]⟩,r.1⟩,0,{p with st:=vs})
  else some (⟨6,0,⟨[]⟩,v.l_⟩,0,{p with st:=vs})
def mc(p:PS)(iY:Bool):Int×PS:=bif eY p.st then(11,p)else bif decide (64<=p.st.length)then(15,p)else(0,{p with st:=⟨iY,[]⟩::p.st})
def ZM(s0:ae)(B:Nat)(e:Int)(p:PS)(K:ae->Prop):Prop:=(e≠0->∀s',Sub s0 s'->K s')/\(e=0->∀s' rr' gq,rK s0 s' B p rr' gq->K s')
theorem ZM.at{s0 s:ae}{B:Nat}{e:Int}{p:PS}{K:ae->Prop}{rr:c5}{ids:List (Nat×c5)}(q:ZM s0 B e p K)(h:rK s0 s B p rr ids):K s:=by
 by_cases he:e=0
 ·exact q.2 he _ _ _ h
 ·exact q.1 he _ h.2.2.1
def ZM.mono{s0:ae}{B:Nat}{e:Int}{p:PS}{K K':ae->Prop}(q:ZM s0 B e p K)(h:∀s',K s'->K' s'):ZM s0 B e p K':=⟨fun he s' hs=>h _ (q.1 he s' hs),fun he s' rr' gq hs=>h _ (q.2 he s' rr' gq hs)⟩
def aai{pf:List aa->Option (List aa×Int)}(hpf:xJ pf){s0 s:ae}{B:Nat}{p:PS}{rr:c5}{ids:List (Nat×c5)}(h:rK s0 s B p rr ids)(cg:p.st.length<=64){iY:Bool}{Q:List AV->ae->Prop}
 (hm:ok (Ix pf p iY) fun r=>ZM s0 B r.2.1 r.2.2 (Q [vA r.1,.int .i64 r.2.1])):FN prog 187 [.ref B 0,.bool iY] s Q:=by
 unfold Ix at hm
 refine abU hpf h cg (fun hb=>?_) (fun v vs ez hd hb s' rr' gq hs'=>?_) (fun v vs ez hd hb=>?_)
 ·rw[hb,cond_true,bB]at hm
  exact hm.at h
 ·rw[hb,cond_false,ez]at hm
  subst hd
  simp only[cond_false,bB]at hm
  exact hm.at hs'
 ·rw[hb,cond_false,ez]at hm
  subst hd
  simp only[cond_true,js]at hm
  obtain⟨r,hr,hm⟩:=hm
  refine⟨r,hr,fun he s' hs'=>?_,fun he s' rr' gq hs'=>?_⟩
  ·rw[show(r.2 !=0)=true by simpa using he,cond_true,bB]at hm
   exact hm.1 he s' hs'
  ·rw[show(r.2 !=0)=false by simpa using he,cond_false,bB]at hm
   exact hm.2 rfl s' rr' gq hs'
def OT{s0 s:ae}{B:Nat}{p:PS}{rr:c5}{ids:List (Nat×c5)}(h:rK s0 s B p rr ids)(cg:p.st.length<=64){iY:Bool}{Q:List AV->ae->Prop}
 (hm:ZM s0 B (mc p iY).1 (mc p iY).2 (Q [.int .i64 (mc p iY).1])):FN prog 186 [.ref B 0,.bool iY] s Q:=by
 unfold mc at hm
 refine Sz h cg (fun hw=>?_) (fun hw hl=>?_) (fun hw hl s' rr' gq hs'=>?_)
 ·rw[hw,cond_true]at hm
  exact hm.at h
 ·rw[hw,cond_false,decide_eq_true hl,cond_true]at hm
  exact hm.at h
 ·rw[hw,cond_false,decide_eq_false AT,cond_false]at hm
  exact hm.at hs'
def wv(pf:List aa->Option (List aa×Int))(p:PS)(t:aH):Option (aa×Bool×Int×PS):=
 bif t.Kind==0 then some (zV,false,10,p)
 else bif t.Kind==2||t.Kind==4 then some (zV,false,(mc p (t.Kind==4)).1,(mc p (t.Kind==4)).2)
 else bif t.Kind==3||t.Kind==5 then aZ (Ix pf p (t.Kind==5)) fun r=>some (r.1,r.2.1==0,r.2.1,r.2.2)
 else aZ (mR p t) fun r=>bif r.2.1==0&&decide (64<=p.st.length)then some (r.1,false,15,{p with at_:=r.2.2})else some (r.1,r.2.1==0,r.2.1,{p with at_:=r.2.2})
def Zb{pf:List aa->Option (List aa×Int)}(hpf:xJ pf){s0 s:ae}{B:Nat}{p:PS}{rr:c5}{ids:List (Nat×c5)}(h:rK s0 s B p rr ids)(cg:p.st.length<=64){t:aH}{Q:List AV->ae->Prop}
 (hm:ok (wv pf p t) fun r=>ZM s0 B r.2.2.1 r.2.2.2 (Q [vA r.1,.bool r.2.1,.int .i64 r.2.2.1])):FN prog 161 [.ref B 0,tA t] s Q:=by
 have hr:room=140737488355328:=rfl
 unfold wv at hm
 refine FO vE rfl rfl ?_
 rw[nJ]
 refine Xf9 ?_
 unfold tA
 cases h0:(t.Kind==0)with
 |true=>
  rw[h0,cond_true,bB]at hm
  refine Xe5 h0 ?_
  exact hm.at h
 |false=>
 rw[h0,cond_false]at hm
 cases h2:(t.Kind==2)with
 |true=>
  have h4:(t.Kind==4)=false:=by have:=eq_of_beq h2;rw[this];rfl
  rw[h2,h4,Bool.true_or,cond_true,bB]at hm
  refine Xg3 h0 h2 h4 ?_
  refine OT h cg (hm.mono fun s' hq=>?_)
  refine Xe4 ?_
  repeat'(first|((with_reducible refine Qu ?_ ?_);exact rfl)|((with_reducible refine ahc ?_ ?_);exact rfl)|simp -implicitDefEqProofs only[go_sem,seval])
  exact hq
 |false=>
 cases h4:(t.Kind==4)with
 |true=>
  rw[h2,h4,Bool.or_true,cond_true,bB]at hm
  refine Xg3 h0 h2 h4 ?_
  refine OT h cg (hm.mono fun s' hq=>?_)
  refine Xe4 ?_
  repeat'(first|((with_reducible refine Qu ?_ ?_);exact rfl)|((with_reducible refine ahc ?_ ?_);exact rfl)|simp -implicitDefEqProofs only[go_sem,seval])
  exact hq
 |false=>
 rw[h2,h4,Bool.or_false,cond_false]at hm
 cases h3:(t.Kind==3)with
 |true=>
  have h5:(t.Kind==5)=false:=by have:=eq_of_beq h3;rw[this];rfl
  rw[h3,h5,Bool.true_or,cond_true,js]at hm
  obtain⟨r,hr1,hm⟩:=hm
  rw[bB]at hm
  refine Xg4 h0 h2 h4 h3 h5 ?_
  refine aai hpf h cg ⟨r,hr1,hm.mono fun s' hq=>?_⟩
  unfold vA
  refine Xe4 ?_
  exact hq
 |false=>
 cases h5:(t.Kind==5)with
 |true=>
  rw[h3,h5,Bool.or_true,cond_true,js]at hm
  obtain⟨r,hr1,hm⟩:=hm
  rw[bB]at hm
  refine Xg4 h0 h2 h4 h3 h5 ?_
  refine aai hpf h cg ⟨r,hr1,hm.mono fun s' hq=>?_⟩
  unfold vA
  refine Xe4 ?_
  exact hq
 |false=>
 rw[h3,h5,Bool.or_false,cond_false,js]at hm
 obtain⟨r,hr1,hm⟩:=hm
 refine Xg4 h0 h2 h4 h3 h5 ?_
 refine RL h cg ⟨r,hr1,fun s' hs'=>?_⟩
 have hB:=hs'.cell
 unfold j6 at hB
 unfold vA
 refine Xg2 hB ?_
 cases he:(r.2.1==0)with
 |false=>
  rw[he,Bool.false_and,cond_false,bB]at hm
  refine Xg5 hB he ?_
  exact hm.at hs'
 |true=>
  rw[he,Bool.true_and]at hm
  refine Xg5 hB he ?_
  refine⟨fun hl=>?_,fun hl=>?_⟩
  ·rw[show decide (64<=p.st.length)=true by have:=of_decide_eq_true hl;exact decide_eq_true AT,cond_true,bB]at hm
   exact hm.at hs'
  ·rw[show decide (64<=p.st.length)=false by have:=of_decide_eq_false hl;exact decide_eq_false AT,cond_false,bB]at hm
   exact hm.at hs'
end Go.AB
end
section
set_option maxRecDepth 16000
namespace Go.AB
open Go
open Go.Proofs.Tryz (prog)
attribute[-go_sem] Nat.add_zero mi cy bX cP bD bV
def UB{P:Program}{S O:Type}{body:S->Option (S⊕O)}{s0:S}{kf:O->Prop}{live:List (Nat×Bool)}{l:Nat}{r:IC}{Q:Exit->St->Prop}{E:St}(R:S->St->Prop)
 (h0:R s0 E)
 (hb:∀(J:St->Prop)(s:S)(τ:St),R s τ->ok (body s) (jg (fun t=>∀U',R t U'->J U') kf)->fY P r (I0 l live J Q) τ):ok (iter body s0) kf->WE P l live r Q E:=by
 intro h
 have yn:∀τ,(∃m s,R s τ/\ok (cD body m s) kf)->∃m,(∃s,R s τ/\ok (cD body m s) kf)/\∀k,k<m->¬∃s,R s τ/\ok (cD body k s) kf:=by
  rintro τ ⟨m,s,h⟩
  induction m using Nat.strongRecOn generalizing s with
  |_ m ih=>
   by_cases hk:∃k,k<m/\∃s,R s τ/\ok (cD body k s) kf
   ·obtain⟨k,hk,s',h'⟩:=hk
    exact ih k hk s' h'
   ·exact⟨m,⟨s,h⟩,fun k hk' hs=>hk ⟨k,hk',hs⟩⟩
 have hμ:∃μ:St->Nat,∀τ,(∃m s,R s τ/\ok (cD body m s) kf)->(∃s,R s τ/\ok (cD body (μ τ) s) kf)/\∀k,k<μ τ->¬∃s,R s τ/\ok (cD body k s) kf:=⟨fun τ=>Classical.epsilon fun m=>(∃s,R s τ/\ok (cD body m s) kf)/\∀k,k<m->¬∃s,R s τ/\ok (cD body k s) kf,fun τ hτ=>Classical.epsilon_spec (yn τ hτ)⟩
 obtain⟨μ,hμ⟩:=hμ
 refine⟨fun τ=>∃m s,R s τ/\ok (cD body m s) kf,μ,⟨_,s0,h0,h⟩,?_⟩
 intro τ hτ
 obtain⟨⟨s,e,hs⟩,_⟩:=hμ τ hτ
 generalize hm:μ τ=m at hs
 cases m with
 |zero=>exact(sa hs).elim
 |succ m=>
  obtain⟨x,hx,k⟩:=rZ hs
  refine hb _ s τ e ⟨x,hx,?_⟩
  cases x with
  |inr o=>exact k
  |inl t=>
   intro U' ht
   refine⟨⟨m,t,ht,k⟩,?_⟩
   have h2:=(hμ U' ⟨m,t,ht,k⟩).2
   rcases Nat.lt_or_ge m (μ U')with hlt|hge
   ·exact(h2 m hlt ⟨t,ht,k⟩).elim
   ·omega
def Yk{s0 s:ae}{B:Nat}{p:PS}{rr:c5}{ids:List (Nat×c5)}(h:rK s0 s B p rr ids){r:aH×Int}(hr:eH p.b p.at_ p.last=some r){Q:List AV->ae->Prop}
 (h0:(r.2 !=0)=false->∀s',rK s0 s' B {p with at_:=r.1.To} rr ids->Q [tA r.1,.int .i64 r.2] s')(h1:(r.2 !=0)=true->rK s0 s B p rr ids->Q [tA r.1,.int .i64 r.2] s):FN prog 160 [.ref B 0] s Q:=by
 refine vL (s_0:=⟨p.b,p.at_,p.last,jj rr p.st.length⟩) h.cell ?_
 unfold mE
 rw[js]
 refine⟨r,hr,?_⟩
 cases he:(r.2==0)with
 |true=>
  simp only[he,if_true]
  exact⟨_,rfl,h0 (by unfold bne;rw[he];rfl) _ (h.place _)⟩
 |false=>
  simp only[he,Bool.false_eq_true,if_false]
  refine⟨_,rfl,?_⟩
  have:s.set B (.cells (j6 p rr))=s:=aU h.cell
  show Q _ (s.set B (.cells (j6 p rr)))
  rw[this]
  exact h1 (by unfold bne;rw[he];rfl) h
def abq{P:Program}{iH:List (List Bool)}{ops f:List ar}{live:List Nat}{Q:Exit->St->Prop}{d:List Bool}{E:St}(C:St->Prop)
 (h1:∀K:St->Prop,(∀τ:St,C (τ.xc live)->K τ)->Sa P iH ops K f d E)(h2:∀φ,C φ->Q .normal φ):Sa P iH ops (An live Q) f d E:=h1 _ fun τ h=>h2 _ h
def Zu{E:St}{d:Option Nat}{K:St->Prop}{s s2:ae}{B:Nat}{p2:PS}{rr2:c5}{id:Nat×c5}{gq:List (Nat×c5)}{v:aV}{vs:List aV}(hσ:E.s=s2)(h2:rK s s2 B p2 rr2 (id::gq))(ez:p2.st=v::vs)(cg:(v.l_.length+1)*56<=room)(x:aa)
 (hK:∀S3 rb cap sp,S3 rb=some (.cells (flat (v.l_++[zV])++sp))->S3 id.1=some (.cells [.bool v.gb,jj id.2 v.l_.length])->rb≠id.1->
   rK s ((S3.set rb (.cells (flat (v.l_++[x])++sp))).set id.1 (.cells [.bool v.gb,.arr rb 0 (v.l_.length+1) cap])) B {p2 with st:=⟨v.gb,v.l_++[x]⟩::vs} rr2 ((id.1,some (rb,cap,sp))::gq)->
   K ({E with s:=S3}.put d (.arr rb 0 (v.l_.length+1) cap))):
 eP 4 56 [.int .i64 0,.int .i64 0,.str [],.sl false 4 0 []] E d K (.arr (Mi id.2) 0 v.l_.length (JA id.2)) (vM E.s 4 (.sl true 4 1 [.int .i64 0,.int .i64 0,.str [],.sl false 4 0 []])):=by
 obtain⟨F1,F2,H⟩:=h2
 rw[ez]at F1 H
 have H1:Holds s s2 (pQ id.2 v.l_++((id.1,UQ id.2 v)::((B,.cells (j6 p2 rr2))::(pQ rr2 (refs (id::gq).reverse)++DA gq vs)))):=by
  refine H.perm ?_
  refine(List.perm_middle (l₁:=(B,SO.cells (j6 p2 rr2))::pQ rr2 (refs (id::gq).reverse))).trans ?_
  refine((List.perm_append_comm_assoc ((B,SO.cells (j6 p2 rr2))::pQ rr2 (refs (id::gq).reverse)) (pQ id.2 v.l_) (DA gq vs)).cons _).trans ?_
  exact List.perm_middle.symm
 obtain⟨sb,e,okr,Hb⟩:=H1.row F1.1
 rw[gn]
 refine xL (z:=zV) (v:=zV) (hσ.trans e) okr rfl cg fun s' r' hs' ok'=>?_
 obtain⟨rb,cap,sp,rfl⟩:=Ot ok' BY
 obtain⟨H3,f3⟩:=(Hb.sub hs').abn ok'
 have hne:rb≠id.1:=by
  have:=H3.2.2
  intro he
  rw[he]at this
  simp[pQ]at this
 refine hK _ rb cap sp H3.get (H3.mem (by simp[pQ,UQ])) hne ?_
 have H4:=(Holds.set (o':=.cells (flat (v.l_++[x])++sp)) H3)
 have H5:=(Holds.set (o':=.cells [.bool v.gb,.arr rb 0 (v.l_.length+1) cap]) (H4.perm (List.Perm.swap ..)))
 have H6:=H5.perm (List.perm_append_comm_assoc [(id.1,SO.cells [.bool v.gb,.arr rb 0 (v.l_.length+1) cap]),(rb,.cells (flat (v.l_++[x])++sp))] ((B,SO.cells (j6 p2 rr2))::pQ rr2 (refs (id::gq).reverse)) (DA gq vs))
 have hlen:(v.l_++[x]).length=v.l_.length+1:=BY
 have hl:UQ (some (rb,cap,sp)) ⟨v.gb,v.l_++[x]⟩=.cells [.bool v.gb,.arr rb 0 (v.l_.length+1) cap]:=by
  unfold UQ jj
  simp only[hlen]
  rfl
 have hp:j6 {p2 with st:=⟨v.gb,v.l_++[x]⟩::vs} rr2=j6 p2 rr2:=by
  unfold j6
  simp only[ez,List.length_cons]
 have hrefs:refs ((id.1,(some (rb,cap,sp):c5))::gq).reverse=refs (id::gq).reverse:=by rw[rl,rl]
 refine⟨⟨?_,F1.2⟩,by rw[hrefs];exact F2,?_⟩
 ·obtain⟨g1,g2,g3,g4⟩:=f3
  refine⟨g1,by simpa using g2,?_,g4⟩
  rw[List.length_append,au]at g3⊢
  simpa using g3
 ·rw[hp,hrefs]
  have:DA ((id.1,some (rb,cap,sp))::gq) (⟨v.gb,v.l_++[x]⟩::vs)=[(id.1,SO.cells [.bool v.gb,.arr rb 0 (v.l_.length+1) cap]),(rb,.cells (flat (v.l_++[x])++sp))]++DA gq vs:=by rw[<-hl];rfl
  show Holds s _ ((B,SO.cells (j6 p2 rr2))::(pQ rr2 _++DA ((id.1,some (rb,cap,sp))::gq) (⟨v.gb,v.l_++[x]⟩::vs)))
  rw[this]
  exact H6
def Wk{E:St}{d:Option Nat}{K:St->Prop}{s s2:ae}{B:Nat}{p2:PS}{rr2:c5}{id:Nat×c5}{gq:List (Nat×c5)}{v:aV}{vs:List aV}(hσ:E.s=s2)(h2:rK s s2 B p2 rr2 (id::gq))(ez:p2.st=v::vs)(cg:(v.l_.length+1)*56<=room)(x:aa)
 (hK:∀S3 rb cap cs,S3 rb=some (.cells cs)->S3 id.1=some (.cells [.bool v.gb,jj id.2 v.l_.length])->(∀o,(S3.set rb o) id.1=some (.cells [.bool v.gb,jj id.2 v.l_.length]))->(∀o,(S3.set id.1 o) rb=some (.cells cs))->
   v.l_.length*4+4<=cs.length->
   (∃rr3 IP,rK s ((S3.set rb (.cells (setAt cs (v.l_.length*4) [.int .i64 x.Kind,.int .i64 x.N,.str x.S.b,.sl false 4 x.L.length (flat x.L)]))).set id.1 (.cells [.bool v.gb,.arr rb 0 (v.l_.length+1) cap])) B {p2 with st:=⟨v.gb,v.l_++[x]⟩::vs} rr3 IP)->
   (∃rr3 IP,rK s ((S3.set id.1 (.cells [.bool v.gb,.arr rb 0 (v.l_.length+1) cap])).set rb (.cells (setAt cs (v.l_.length*4) [.int .i64 x.Kind,.int .i64 x.N,.str x.S.b,.sl false 4 x.L.length (flat x.L)]))) B {p2 with st:=⟨v.gb,v.l_++[x]⟩::vs} rr3 IP)->
   K ({E with s:=S3}.put d (.arr rb 0 (v.l_.length+1) cap))):
 eP 4 56 [.int .i64 0,.int .i64 0,.str [],.sl false 4 0 []] E d K (.arr (Mi id.2) 0 v.l_.length (JA id.2)) (vM E.s 4 (.sl true 4 1 [.int .i64 0,.int .i64 0,.str [],.sl false 4 0 []])):=by
 refine Zu hσ h2 ez cg x fun S3 rb cap sp g1 g2 hne ph=>?_
 have hs:setAt (flat (v.l_++[zV])++sp) (v.l_.length*4) [.int .i64 x.Kind,.int .i64 x.N,.str x.S.b,.sl false 4 x.L.length (flat x.L)]=flat (v.l_++[x])++sp:=by
  have h:=im (v.l_++[zV]) [x] sp 4 v.l_.length rfl BY
  have hx:flat [x]=[.int .i64 x.Kind,.int .i64 x.N,.str x.S.b,.sl false 4 x.L.length (flat x.L)]:=by
   unfold flat
   simp only[List.map_cons,List.map_nil,List.flatten_cons,List.flatten_nil,List.append_nil]
   exact fD x
  rw[hx]at h
  rw[h]
  simp
 refine hK S3 rb cap _ g1 g2 (fun o=>?_) (fun o=>?_) ?_ ?_ ?_
 ·rw[<-g2];unfold ae.set;rw[if_neg (Ne.symm hne)]
 ·rw[<-g1];unfold ae.set;rw[if_neg hne]
 ·rw[List.length_append,au]
  have:aO.w aa=4:=rfl
  rw[this]
  simp
  omega
 ·rw[hs];exact⟨_,_,ph⟩
 ·rw[hs,set_comm hne];exact⟨_,_,ph⟩
def rD(pf:List aa->Option (List aa×Int))(p:PS):Option (PS⊕(aa×Int×Int)):=
 a8 (p.st.length<=64)<|
 aZ (eH p.b p.at_ p.last) fun r1=>
 bif r1.2 !=0 then some (.inr (zV,0,r1.2))else
 aZ (wv pf {p with at_:=r1.1.To} r1.1) fun r=>
 bif r.2.2.1 !=0 then some (.inr (zV,0,r.2.2.1))else
 bif !r.2.1 then some (.inl r.2.2.2)else
 a8 (r.2.2.2.st.length<=64)<|match r.2.2.2.st with
 |[]=>some (.inr (r.1,r.2.2.2.at_,0))
 |v::vs=>a8 ((v.l_.length+1)*56<=room)<|some (.inl {r.2.2.2 with st:=⟨v.gb,v.l_++[r.1]⟩::vs})
def sm(pf:List aa->Option (List aa×Int))(b:List UInt8)(a:Int)(last:Bool):Option (aa×Int×Int):=iter (rD pf) ⟨b,a,last,[]⟩
def zL:AV:=.loc [.int .i64 0,.int .i64 0,.str [],.sl true 4 0 []]
set_option maxHeartbeats 8000000 in
def Wl{pf:List aa->Option (List aa×Int)}(hpf:xJ pf){s:ae}{b:List UInt8}{a:Int}{last:Bool}{Q:List AV->ae->Prop}
 (hm:ok (sm pf b a last) fun r=>∀s',Sub s s'->Q [vA r.1,.int .i64 r.2.1,.int .i64 r.2.2] s'):FN prog 127 [.sl false 1 b.length (flat b),.int .i64 a,.bool last] s Q:=by
 have hr:room=140737488355328:=rfl
 unfold sm at hm
 refine FS 62 [⟨6,false,some (4,true)⟩,⟨7,true,none⟩,⟨8,true,none⟩] 0xaa2c6efaefc36da5817341a81b8b49641eaa79560a6fa27783151153a075e6fea9d4c4333e49ac64e749a65b9111ca36504a1a369ca742dc1bf24f3ef9c4bf029f87d4882e6d58d87d3a5fda42c2cb02b269bda8f4b97ad2bc911ae0eb672dfede25b8bc4954219c249111d9b834b2daaa43658b39f701fe350d920e34ac719ab80efdead002a128516a532e1e08fba95a207da6acbe156d7a23dcec3c5c08f1ac00fa5c864ae610d85da590a9b5223282ae63c717c97816719821151f0b2757edf59b38ac25f6ecec6a2826d723c483974dcaf7fcb803072b6569c6e936b8dffdef8945b1f2da6e16d4682b2182e9db789892631bc4a1d30da98c36ab55ae97713bd441f3d3d6b4e1c4d532b2ec678386c3286e354528b7f375f78be90023ef463f112667e37a4f8216faf05710df9720c4cd57f9e9678915d33529bb01e43a0e28fb574b002d9003cd1eb37e0092ef5c ?_
 refine Xf6 ?_
 intro B hB
 refine UB (fun(p:PS)(τ:St)=>∃s' rr ids,rK s s' B p rr ids/\τ=⟨[(6,zL),(9,.ref B 0)],[],s'⟩) ?_ ?_ hm
 ·refine⟨_,none,[],⟨trivial,rfl,(Holds.nil.alloc hB)⟩,rfl⟩
 ·rintro J p τ ⟨s',rr,ids,h,rfl⟩ hb
  unfold rD at hb
  rw[fu]at hb
  obtain⟨cg,hb⟩:=hb
  unfold zL
  refine Xf6 ?_
  rw[js]at hb
  obtain⟨r1,hr1,hb⟩:=hb
  refine Yk h hr1 (fun he s1 h1=>?_) (fun he h1=>?_)
  rotate_left
  ·rw[he,cond_true,bB]at hb
   unfold tA
   refine Xg6 he ?_
   exact hb s' h.2.2.1
  ·rw[he,cond_false,js]at hb
   obtain⟨r,hr2,hb⟩:=hb
   unfold tA
   refine Xg6 he ?_
   refine Zb hpf h1 cg ⟨r,hr2,fun he2 s2 h2=>?_,fun he2 s2 rr2 akK h2=>?_⟩
   ·have he3:(r.2.2.1 !=0)=true:=by simpa using he2
    rw[he3,cond_true,bB]at hb
    unfold vA
    refine Xg6 he3 ?_
    exact hb s2 h2
   ·have he3:(r.2.2.1 !=0)=false:=by simpa using he2
    rw[he3,cond_false]at hb
    unfold vA
    cases hi:r.2.1 with
    |false=>
     rw[hi,Bool.not_false,cond_true,bB]at hb
     simp -implicitDefEqProofs only[go_sem,Nat.reduceBEq,Nat.reduceAdd,Nat.reduceMul,Nat.reduceLeDiff,Nat.reduceEqDiff,Nat.reduceBNe,UInt8.reduceToNat,UInt32.reduceToNat,he3,hi,Bool.not_false,bL]
     exact hb _ ⟨s2,rr2,akK,h2,rfl⟩
    |true=>
     rw[hi,Bool.not_true,cond_false]at hb
     simp -implicitDefEqProofs only[go_sem,Nat.reduceBEq,Nat.reduceAdd,Nat.reduceMul,Nat.reduceLeDiff,Nat.reduceEqDiff,Nat.reduceBNe,UInt8.reduceToNat,UInt32.reduceToNat,he3,hi,Bool.not_true,bL]
     rw[fu]at hb
     obtain⟨aky,hb⟩:=hb
     have hB2:=h2.cell
     unfold j6 at hB2
     refine JR h2 AT (fun ez=>?_) (fun id gq v vs NA ez=>?_)
     ·rw[ez]at hb
      simp only[bB]at hb
      refine Xg6 hB2 ?_
      exact hb s2 h2.2.2.1
     ·rw[ez]at hb
      simp only[fu,bB]at hb
      obtain⟨aci,hb⟩:=hb
      refine Xg6 hB2 ?_
      subst NA
      have hlv:=h2.lv ez
      unfold UQ at hlv
      have C1:∀φ:St,(∃s3 rr3 IP,rK s s3 B {r.2.2.2 with st:=⟨v.gb,v.l_++[r.1]⟩::vs} rr3 IP/\φ=⟨[(6,zL),(9,.ref B 0)],[],s3⟩)->J φ:=fun φ hφ=>hb φ hφ
      refine abq (fun φ=>∃s3 rr3 IP,rK s s3 B {r.2.2.2 with st:=⟨v.gb,v.l_++[r.1]⟩::vs} rr3 IP/\φ=⟨[(6,zL),(9,.ref B 0)],[],s3⟩) ?_ ?_
      rotate_left
      ·rintro φ ⟨s3,rr3,IP,h3,rfl⟩
       unfold zL
       refine Xf6 ?_
       exact C1 _ ⟨s3,rr3,IP,h3,rfl⟩
      ·intro K hK
       clear C1 hb
       repeat'(first|(simp only[cP,bX,bD,bV,vO,xE,Bool.not_true,Bool.not_false,Bool.or_true,Bool.true_or,Bool.false_or,Bool.or_false,Bool.and_true,Bool.true_and,Bool.and_false,Bool.false_and,cond_true,cond_false,true_and,and_true];done)|with_reducible refine⟨?_,?_⟩|with_reducible exact trivial|(simp only[cP,bX,bD,bV,vO,xE,Bool.not_true,Bool.not_false,Bool.or_true,Bool.true_or,Bool.false_or,Bool.or_false,Bool.and_true,Bool.true_and,Bool.and_false,Bool.false_and,cond_true,cond_false,true_and,and_true])|simp -implicitDefEqProofs only[go_sem,Nat.reduceBEq,Nat.reduceAdd,Nat.reduceMul,Nat.reduceLeDiff,Nat.reduceEqDiff,Nat.reduceBNe,UInt8.reduceToNat,UInt32.reduceToNat,hlv])
       all_goals
        refine Wk rfl h2 ez aci r.1 (fun S3 rb cap cs g1 g2 q1 q2 hle f1 f2=>?_)
        obtain⟨ra,ia,f1⟩:=f1
        obtain⟨rz,iz,f2⟩:=f2
        repeat'(first|exact hK _ ⟨_,_,_,f1,rfl⟩|exact hK _ ⟨_,_,_,f2,rfl⟩|omega|(simp only[cP,bX,bD,bV,vO,xE,Bool.not_true,Bool.not_false,Bool.or_true,Bool.true_or,Bool.false_or,Bool.or_false,Bool.and_true,Bool.true_and,Bool.and_false,Bool.false_and,cond_true,cond_false,true_and,and_true];done)|with_reducible refine⟨?_,?_⟩|with_reducible exact trivial|(simp only[cP,bX,bD,bV,vO,xE,Bool.not_true,Bool.not_false,Bool.or_true,Bool.true_or,Bool.false_or,Bool.or_false,Bool.and_true,Bool.true_and,Bool.and_false,Bool.false_and,cond_true,cond_false,true_and,and_true])|simp -implicitDefEqProofs only[go_sem,Nat.reduceBEq,Nat.reduceAdd,Nat.reduceMul,Nat.reduceLeDiff,Nat.reduceEqDiff,Nat.reduceBNe,UInt8.reduceToNat,UInt32.reduceToNat,g1,g2,q1,q2])
end Go.AB
end
