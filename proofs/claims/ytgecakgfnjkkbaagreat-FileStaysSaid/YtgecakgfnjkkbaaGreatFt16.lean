/- A part. -/
import Derived.Test.YtgecakgfnjkkbaaGreatFt15
set_option linter.unusedSimpArgs false
set_option linter.unusedVariables false
section
set_option maxRecDepth 16000
namespace Go.AB
open Go
open Go.Proofs.Tryz (prog)
attribute[-go_sem] Nat.add_zero mI cE cy cU bQ cw
def yg:IC:=dec 0xa34cdb8f116929af47885eeafedac8af6add9a5baadceee32e6bdf241108b43e864e2624489ec4afb43cf421a265bc7ccc9516596a92f9d185dbc2a7f69f5f4181ec7f1a0de54c679f9948d347f6bbf139d9e6e7f4d4e0d81f195643a1f0f74975092431dd149995b5c3438f71352a78202e9de50158d315627f9c48b8460683870ec246d4a2955264375b34bc7190d8c64f0c44045690f86546aed0c12352c2bfd247d5ee85de0376f4f474d9e311ce8c1018852148e7f5b4473a
theorem Eo:eH prog 252 36 [⟨2,true,none⟩] yg=true:=by kernel_rfl
theorem MF{s:ae}{k:Nat}{Q:List AV->ae->Prop}(hn:k*56<=room)(hq:∀s' r',Sub s s'->fB s' r' ([]:List ab)->Q [iG r' 0] (iw s' r' ([]:List ab))):FN prog 279 [.arr 0 0 0 0,.int .i64 k] s Q:=by
 have hr:room=140737488355328:=rfl
 refine FS 27 [⟨4,true,none⟩] 0x42919ba4c4584f03454ca0c588072f52a6107c87320902fc426d93292bc966225128e28401e5687f93330d26e32cbbcdf6755b5368d4e5fb72a7c8a30945f2c9e05a7b4a9ddfcce97417516802dd71261727483fa ?_
 have h0:decide ((k:Int)<0)=false:=by simp
 have e00:((0:Nat):Int)=0:=rfl
 have w1:aC 0=0:=by decide
 have w2:aC (k:Int)=k:=ar (by omega) (by omega)
 simp -implicitDefEqProofs only[go_sem,Nat.reduceBEq,Nat.reduceAdd,Nat.reduceMul,Nat.reduceLeDiff,Nat.reduceEqDiff,Nat.reduceBNe,UInt8.reduceToNat,UInt32.reduceToNat,h0,e00,w1,w2,bL]
 refine⟨fun hk=>?_,fun hk=>?_⟩
 ·have hk:0<k:=by simpa using hk
  refine⟨Int.le_refl _,?_⟩
  refine Fm (n:=0) (cap:=0) (m:=k) (b:=0) (off:=0) (by':=56) (olds:=[]) rfl rfl rfl (by omega) (by omega) fun b' dp hb' hc=>?_
  rw[List.nil_append]
  simp -implicitDefEqProofs only[go_sem,Nat.reduceBEq,Nat.reduceAdd,Nat.reduceMul,Nat.reduceLeDiff,Nat.reduceEqDiff,Nat.reduceBNe,UInt8.reduceToNat,UInt32.reduceToNat]
  have:=hq s (some (b',dp,(List.replicate k [.int .i64 0,.int .i64 0,.str [],.sl false 4 0 []]).flatten++(List.replicate (dp -(0+k)) [.int .i64 0,.int .i64 0,.str [],.sl false 4 0 []]).flatten)) (Sub.refl s)
   ⟨hb',by omega,by simp,by
     have e:(flat ([]:List ab)).length=0:=rfl
     rw[List.length_append,e,List.length_append]
     simp[show aP.w ab=4 from rfl]
     omega,by
     have hz:∀m,views (List.replicate m [AV.int .i64 0,.int .i64 0,.str [],.sl false 4 0 []]).flatten=(List.replicate m [AV.int .i64 0,.int .i64 0,.str [],.sl false 4 0 []]).flatten:=fun m=>by
      rw[show([.int .i64 0,.int .i64 0,.str [],.sl false 4 0 []]:List AV)=aP.cells (⟨0,0,⟨[]⟩,[]⟩:ab) from rfl,<-fX]
      exact aN _
     unfold views at hz⊢
     rw[List.map_append,hz,hz]⟩
  simp only[Nat.zero_add]at this
  exact⟨⟨Int.le_refl _,Int.le_refl _,by omega⟩,this⟩
 ·have hk:k=0:=by
   have:¬(0<k):=by simpa using hk
   omega
  have:=hq s none (Sub.refl s) rfl
  first|exact this|trace_state
def VQ(ls:List VL)(q:Int×Int):Option ((Int×Int)⊕Int):=bif decide (q.2<ls.length)then some (.inl (q.1+(ix ls q.2).length,q.2+1))else some (.inr q.1)
theorem VS(ls:List VL)(hl:ls.length<4611686018427387904):iter (VQ ls) (0,0)=some (ls.flatten.length:Int):=by
 refine Bu ls.length (fun k=>((ls.take k).flatten.length:Int)) (by simp) hl (fun k hk=>?_) ?_
 ·unfold VQ
  have h1:decide ((k:Int)<ls.length)=true:=by simpa using hk
  have h2:ix ls (k:Int)=ls[k]:=by unfold ix;simp[hk]
  have h3:aC ((k:Int)+1)=(k:Int)+1:=ar (by omega) (by omega)
  show(bif decide ((k:Int)<ls.length)then _ else _)=_
  rw[h1,cond_true,h2,h3,List.take_succ_eq_append_getElem hk,List.flatten_append,List.length_append]
  simp
 ·unfold VQ
  have h1:decide ((ls.length:Int)<ls.length)=false:=by simp
  show(bif decide ((ls.length:Int)<ls.length)then _ else _)=_
  rw[h1,cond_false,List.take_length]
def TM(ls:List VL)(q:List ab×Int):Option ((List ab×Int)⊕List ab):=bif decide (q.2<ls.length)then some (.inl (q.1++ix ls q.2,q.2+1))else some (.inr q.1)
theorem TN(ls:List VL)(hl:ls.length<4611686018427387904):iter (TM ls) ([],0)=some ls.flatten:=by
 refine Bu ls.length (fun k=>(ls.take k).flatten) (by simp) hl (fun k hk=>?_) ?_
 ·unfold TM
  have h1:decide ((k:Int)<ls.length)=true:=by simpa using hk
  have h2:ix ls (k:Int)=ls[k]:=by unfold ix;simp[hk]
  have h3:aC ((k:Int)+1)=(k:Int)+1:=ar (by omega) (by omega)
  show(bif decide ((k:Int)<ls.length)then _ else _)=_
  rw[h1,cond_true,h2,h3,List.take_succ_eq_append_getElem hk,List.flatten_append]
  simp
 ·unfold TM
  have h1:decide ((ls.length:Int)<ls.length)=false:=by simp
  show(bif decide ((ls.length:Int)<ls.length)then _ else _)=_
  rw[h1,cond_false,List.take_length]
theorem xE(ls:List VL)(k:Nat):(ls.take k).flatten.length<=ls.flatten.length:=by
 conv=>rhs;rw[<-List.take_append_drop k ls]
 rw[List.flatten_append,List.length_append];omega
theorem NX{s:ae}{rb cap:Nat}{sp:List AV}{ls:List VL}{Q:List AV->ae->Prop}(hs:s rb=none)(jo:∀c∈ls,0<c.length)(hr:ls.flatten.length*56<=room)(hl:ls.length<2^40)
 (hq:∀s' r',Sub (s.set rb (.cells (flat ls++sp))) s'->fB s' r' ls.flatten->Q [iG r' ls.flatten.length] (iw s' r' ls.flatten)):FN prog 252 [.arr rb 0 ls.length cap] (s.set rb (.cells (flat ls++sp))) Q:=by
 have bX:room=140737488355328:=rfl
 refine FO Eo rfl rfl ?_
 rw[yg]
 conv in dec _=>reduce
 simp -implicitDefEqProofs only[go_sem,seval]
 generalize hcs:flat ls++sp=cs at*
 refine kR (kf:=fun _=>True) (fun(q:Int×Int) τ=>∃k:Nat,k<=ls.length/\q=(((ls.take k).flatten.length:Int),(k:Int))/\τ=(⟨[(0,.arr rb 0 ls.length cap),(3,.int .i64 (ls.take k).flatten.length),(9,.arr rb 0 ls.length cap),(10,.int .i64 ls.length),(11,.int .i64 k)],[],s.set rb (.cells cs)⟩:St)) ⟨0,Nat.zero_le _,rfl,rfl⟩ ?_ ⟨_,VS ls (by omega),trivial⟩
 rintro J q τ ⟨k,hk,rfl,rfl⟩ hb
 unfold VQ at hb
 by_cases h:k<ls.length
 ·have h1:decide ((k:Int)<ls.length)=true:=by simpa using h
  have h2:ix ls (k:Int)=ls[k]:=by unfold ix;simp[h]
  obtain⟨r1,r2⟩:=VC ls sp (j:=(k:Int)) (by omega) (by omega)
  rw[hcs,h2,Int.toNat_natCast]at r2
  rw[hcs,Int.toNat_natCast]at r1
  have d1:=decide_eq_true r1
  have le:=xE ls (k+1)
  rw[List.take_succ_eq_append_getElem h,List.flatten_append,List.length_append,List.flatten_cons,List.flatten_nil,List.append_nil]at le
  have w1:aC (((ls.take k).flatten.length:Int)+(ls[k].length:Int))=((ls.take k).flatten.length:Int)+(ls[k].length:Int):=ar (by omega) (by omega)
  have w2:aC ((k:Int)+1)=(k:Int)+1:=ar (by omega) (by omega)
  have h0:decide (((ls.take k).flatten.length:Int)+(ls[k].length:Int)<0)=false:=decide_eq_false (by omega)
  simp only[h1,cond_true,h2,bO,oe]at hb
  simp -implicitDefEqProofs only[go_sem,seval,h1,r2,d1,w1,w2,h0,bL]
  have fin:=hb _ ⟨k+1,h,by rw[List.take_succ_eq_append_getElem h,List.flatten_append,List.length_append];simp,rfl⟩
  rw[List.take_succ_eq_append_getElem h,List.flatten_append,List.length_append,List.flatten_cons,List.flatten_nil,List.append_nil]at fin
  have e1:(((ls.take k).flatten.length+ls[k].length:Nat):Int)=((ls.take k).flatten.length:Int)+(ls[k].length:Int):=by omega
  have e2:((k+1:Nat):Int)=(k:Int)+1:=by omega
  rw[e1,e2]at fin
  first|exact fin|(refine⟨?_,?_,fin⟩<;>omega)|(refine⟨?_,fin⟩;omega)|(refine⟨⟨?_,?_⟩,?_,fin⟩<;>omega)|trace_state
 ·have h1:decide ((k:Int)<ls.length)=false:=by simpa using h
  obtain rfl:k=ls.length:=by omega
  clear hb
  rw[List.take_length]
  simp -implicitDefEqProofs only[go_sem,seval,h1,bL]
  refine MF hr fun s1 r1 hs1 h1'=>?_
  simp -implicitDefEqProofs only[go_sem,seval]
  have hq2:(s.set rb (.cells cs)) rb=some (.cells cs):=bD
  refine kR (kf:=fun _=>True) (fun(q:List ab×Int) τ=>∃(k:Nat)(s':ae)(r':cN),k<=ls.length/\q=((ls.take k).flatten,(k:Int))/\Sub (s.set rb (.cells cs)) s'/\fB s' r' (ls.take k).flatten/\τ=(⟨[(6,iG r' (ls.take k).flatten.length),(25,.arr rb 0 ls.length cap),(26,.int .i64 ls.length),(27,.int .i64 k)],[],iw s' r' (ls.take k).flatten⟩:St)) ⟨0,s1,r1,Nat.zero_le _,rfl,hs1,h1',rfl⟩ ?_ ⟨_,TN ls (by omega),trivial⟩
  ·rintro J q τ ⟨k,s',r',hk,rfl,hs',h',rfl⟩ hb
   unfold TM at hb
   by_cases h:k<ls.length
   ·have h1:decide ((k:Int)<ls.length)=true:=by simpa using h
    have h2:ix ls (k:Int)=ls[k]:=by unfold ix;simp[h]
    obtain⟨r1,r2⟩:=VC ls sp (j:=(k:Int)) (by omega) (by omega)
    rw[hcs,h2,Int.toNat_natCast]at r2
    rw[hcs,Int.toNat_natCast]at r1
    have d1:=decide_eq_true r1
    have hrb:iw s' r' (ls.take k).flatten rb=some (.cells cs):=jf h' (hs' _ _ hq2)
    have w2:aC ((k:Int)+1)=(k:Int)+1:=ar (by omega) (by omega)
    have le:=xE ls (k+1)
    have ek:ls.take (k+1)=ls.take k++[ls[k]]:=List.take_succ_eq_append_getElem h
    have ef:(ls.take (k+1)).flatten=(ls.take k).flatten++ls[k]:=by rw[ek,List.flatten_append];simp
    rw[ef,List.length_append]at le
    simp only[h1,cond_true,h2,bO,oe]at hb
    generalize dZ:iw s' r' (ls.take k).flatten=st at hrb⊢
    simp -implicitDefEqProofs only[go_sem,seval,h1,hrb,r2,d1,w2,bL]
    first
     |refine⟨⟨by omega,by omega⟩,r1,?_⟩
     |refine⟨by omega,?_⟩
     |skip
    rw[js,aN]
    refine HC (by':=56) (s:=s') (r:=r') (l:=(ls.take k).flatten) (x:=ls[k]) (z:=(⟨0,0,⟨[]⟩,[]⟩:ab)) (by exact dZ.symm) h' rfl (jo _ (List.getElem_mem h)) (by omega) fun s2 r2' hs2 h2'=>?_
    simp -implicitDefEqProofs only[go_sem,seval,w2]
    have fin:=hb _ ⟨k+1,s2,r2',h,by rw[ef];rfl,(fun b o hb=>hs2 b o (hs' b o hb)),by rw[ef];exact h2',rfl⟩
    rw[ef,List.length_append]at fin
    have e2:((k+1:Nat):Int)=(k:Int)+1:=by omega
    rw[e2]at fin
    exact fin
   ·have h1:decide ((k:Int)<ls.length)=false:=by simpa using h
    obtain rfl:k=ls.length:=by omega
    clear hb
    rw[List.take_length]at h'⊢
    simp -implicitDefEqProofs only[go_sem,seval,h1,bL]
    first|exact hq s' r' hs' h'|trace_state
end Go.AB
end
section
set_option maxRecDepth 16000
namespace Go.AB
open Go
open Go.Proofs.Tryz (prog)
attribute[-go_sem] cy cU bQ cw
@[go_sem]theorem aib(g:Bool):(g=true->(2:Int)≠0)=True:=eq_true (fun _=>by decide)
def jc(t_0:aF):Option (Bool):=some ((t_0.Kind==1)&&(t_0.V.Kind==2))
theorem BS{t_0}:FF 155 [.agg [.int .i64 t_0.Kind,.int .i64 t_0.aR,.int .i64 t_0.To,.int .i64 t_0.V.Kind,.int .i64 t_0.V.N,.str t_0.V.S.b,sF 4 t_0.V.L,.str t_0.S.b]] (jc t_0) fun r=>[.bool r]:=by
 intro s Q
 exact FC 12 [⟨2,true,none⟩] 0x16f1440b844ae3ea6d1cde8652f01354bd3b953622ebee9632d28a8b77e3684e9995b jc.eq_1
theorem kW{t_0}{s:ae}{r:Bool}(h:jc t_0=some r):FE prog 155 [.agg [.int .i64 t_0.Kind,.int .i64 t_0.aR,.int .i64 t_0.To,.int .i64 t_0.V.Kind,.int .i64 t_0.V.N,.str t_0.V.S.b,sF 4 t_0.V.L,.str t_0.S.b]] s [.bool r] s:=BS ⟨r,h,rfl,rfl⟩
def gy(e_0:Int):Option (Int):=
 if e_0==6 then
  some e_0
 else
  some 0
theorem uC{e_0}:FF 253 [.int .i64 e_0] (gy e_0) fun r=>[.int .i64 r]:=by
 intro s Q
 exact FC 6 [⟨2,true,none⟩] 0x13743a9027034cdc593cbaef04a17f0aaee6d95980227cc00473a gy.eq_1
def j5(w_0:bk):Option (ab×Int):=
 if w_0.b==(bk.mk [116,114,117,101]).b then
  some ((ab.mk 1 1 (bk.mk []) ([]:List ab)),0)
 else
  if w_0.b==(bk.mk [102,97,108,115,101]).b then
   some ((ab.mk 1 0 (bk.mk []) ([]:List ab)),0)
  else
   if w_0.b==(bk.mk [110,117,108,108]).b then
    some ((ab.mk 0 0 (bk.mk []) ([]:List ab)),0)
   else
    some ((ab.mk 0 0 (bk.mk []) ([]:List ab)),11)
theorem DA{w_0}:FF 219 [.str w_0.b] (j5 w_0) fun r=>[.agg (Kf r.1),.int .i64 r.2]:=by
 intro s Q
 exact FC 15 [⟨2,false,some (4,true)⟩,⟨3,true,none⟩] 0xd7c20874c185a91492a9be42c59faa9eee0c0724a1c9048527938d5ce5aa43482441cec650ed3318723764eef1f5562c08286dee5423af2d53244d55487e165eee541a597142c5c7699d66e6d4e02135deeee8cff6b1d43d1b25e78bb93b6406ea8e4604af75411a6287f5f971cb08c4fcf6753816cf3c972057b2003cd1eb37e0092758b j5.eq_1
theorem oQ{w_0}{s:ae}{r:ab×Int}(h:j5 w_0=some r):FE prog 219 [.str w_0.b] s [.agg (Kf r.1),.int .i64 r.2] s:=DA ⟨r,h,rfl,rfl⟩
structure fu where
 b_:(List UInt8)
 at_:Int
 aS:Bool
 open_:AV
def lE(s_0:fu):Option (aF×Int×fu):=
 bn (dI s_0.b_ s_0.at_ s_0.aS) fun r1=>
 jn (
  if r1.2==0 then
   some (fu.mk s_0.b_ r1.1.To s_0.aS s_0.open_)
  else
   some s_0) fun(o5:fu)=>
 some (r1.1,r1.2,o5)
theorem tU{s_0}{B0:Nat}{s:ae}{Q:List AV->ae->Prop}(hB0:s B0=some (.cells [sF 1 s_0.b_,.int .i64 s_0.at_,.bool s_0.aS,s_0.open_])):ok (lE s_0) (fun r=>Q [.agg [.int .i64 r.1.Kind,.int .i64 r.1.aR,.int .i64 r.1.To,.int .i64 r.1.V.Kind,.int .i64 r.1.V.N,.str r.1.V.S.b,sF 4 r.1.V.L,.str r.1.S.b],.int .i64 r.2.1] (s.set B0 (.cells [sF 1 r.2.2.b_,.int .i64 r.2.2.at_,.bool r.2.2.aS,r.2.2.open_])))->FN prog 160 [.ref B0 0] s Q:=by
 rw[<-bj hB0]
 refine FR 31 [⟨2,false,some (8,true)⟩,⟨3,true,none⟩] 0x296161c20caab0efa7c7ba267cc3e5fb9f7582b6d93b9a0704890edf20943536e42910a3a2ca8660d51da2fe0c42a6cde0457c735ea0cf9d5bfe9588bae59ebb3451c643914b17ae4ba9374a22878aaaf402b08033ce7418ad1bdc2701d21ad6076a9a0383ca7b2003defd1eb37e000000010bf58b lE.eq_1 ?_
 repeat'(first
  |((with_reducible refine NJ ?_ ?_);exact rfl)
  |with_reducible refine cY (fun _(h:dI s_0.b_ s_0.at_ s_0.aS=some _)=>(kc ke h:)) (fun _=>rfl) (fun r1=>?_)
  |((with_reducible refine eJ (fun(o5:fu)=>⟨[(2,.loc [.int .i64 0,.int .i64 0,.int .i64 0,.int .i64 0,.int .i64 0,.str (bk.mk []).b,.sl true 4 0 [],.str (bk.mk []).b]),(4,.loc [.int .i64 r1.1.Kind,.int .i64 r1.1.aR,.int .i64 r1.1.To,.int .i64 r1.1.V.Kind,.int .i64 r1.1.V.N,.str r1.1.V.S.b,sF 4 r1.1.V.L,.str r1.1.S.b]),(5,.int .i64 r1.2)],[],(s.set B0 (.cells [sF 1 o5.b_,.int .i64 o5.at_,.bool o5.aS,o5.open_]))⟩) (fun J=>?_) ?_);rotate_left;rintro o5)
  |simp -implicitDefEqProofs only[go_sem,seval])
def cT(s_0:fu)(v_1:ab):Option (ab×Int×fu):=
 bn (dI s_0.b_ s_0.at_ s_0.aS) fun r1=>
 bn (jv (!(r1.2 !=0)) false (jc r1.1)) fun r2=>
 if(r1.2 !=0)||(!r2)then
  bn (gy r1.2) fun r3=>
  some (v_1,r3,s_0)
 else
  bn (dI s_0.b_ r1.1.To s_0.aS) fun r4=>
  if((r4.2 !=0)||(r4.1.Kind !=6))||(!(r4.1.S.b==(bk.mk [82]).b))then
   bn (gy r4.2) fun r5=>
   some (v_1,r5,s_0)
  else
   if((decide (v_1.N<1))||(decide (v_1.N>4096)))||(r1.1.V.N !=0)then
    some (v_1,26,s_0)
   else
    some ((ab.mk 8 v_1.N (bk.mk []) ([]:List ab)),0,(fu.mk s_0.b_ r4.1.To s_0.aS s_0.open_))
theorem vE{s_0 v_1}{B0:Nat}{s:ae}{Q:List AV->ae->Prop}(hB0:s B0=some (.cells [sF 1 s_0.b_,.int .i64 s_0.at_,.bool s_0.aS,s_0.open_])):ok (cT s_0 v_1) (fun r=>Q [.agg (Kf r.1),.int .i64 r.2.1] (s.set B0 (.cells [sF 1 r.2.2.b_,.int .i64 r.2.2.at_,.bool r.2.2.aS,r.2.2.open_])))->FN prog 220 [.ref B0 0,.agg (Kf v_1)] s Q:=by
 rw[<-bj hB0]
 refine FR 87 [⟨4,false,some (4,true)⟩,⟨5,true,none⟩] 0x1493c25008250034c05954b6bfa30b36680070cef4446aa0c14bbabdf2040ae02f354864afc5c84c6ed54093822d81031c1547df52f7eb79839f3af754991188fefda4b82cd8d9444adbe8da41b3a9769e357720381b5153e3e758a01a95ac327a632afc2cefdc2b2962ea24f044a00f0b32687affd1d7334ac5ea9aa98e68a5cd0682d2a8202db2e92b8c159414ecbb6317e6dfa6b314cfcd776cb455f6087ce6c36b5f370c8ccd5f0a46a6ee0a19493f6935704e3b402ef634a512f56649ef073347d4bfbbc59892862bc2a6ab708be184f8e7f1c72a4b5b4213cf56338236e0f75e51062b0e5eca2e384e017fc969c688f12cde4b8a5d6fd31dbb8b9bc5636c5760d237618443522e45cf8276addd89f5f1376c09fde04eb7dd5b46f56d481dbe8bc02c65bdbd2ef33cb50006e0408c04db5ae2503a9ca3a82bc6d91f95de8b5c257b550805b3ae0d3d00dc04c39a03c cT.eq_1 ?_
 repeat'(first
  |with_reducible exact dQ
  |((with_reducible refine NJ ?_ ?_);exact rfl)
  |(with_reducible first|refine cI ?_ ?_|refine er ?_|refine cY (fun _(h:dI s_0.b_ s_0.at_ s_0.aS=some _)=>(kc ke h:)) (fun _=>rfl) (fun r1=>?_)|refine jk rfl (fun _(h:jc r1.1=some _)=>kW h) (fun _=>rfl) (fun r2=>?_)|refine cY (fun _(h:gy r1.2=some _)=>(kc uC h:)) (fun _=>rfl) (fun r3=>?_)|refine cY (fun _(h:dI s_0.b_ r1.1.To s_0.aS=some _)=>(kc ke h:)) (fun _=>rfl) (fun r4=>?_)|refine cY (fun _(h:gy r4.2=some _)=>(kc uC h:)) (fun _=>rfl) (fun r5=>?_))
  |simp -implicitDefEqProofs only[go_sem,seval])
structure aX where
 fE:Bool
 l_:(List ab)
end Go.AB
end
section
namespace Go.AB
open Go
def Holds(s0 s:ae)(H:List (Nat×SO)):Prop:=Sub s0 s/\(∀p∈H,s p.1=some p.2/\s0 p.1=none)/\(H.map Prod.fst).Nodup
theorem Holds.perm{s0 s:ae}{H H':List (Nat×SO)}(h:Holds s0 s H)(p:H.Perm H'):Holds s0 s H':=⟨h.1,fun x hx=>h.2.1 x (p.mem_iff.2 hx),(p.map Prod.fst).nodup_iff.1 h.2.2⟩
theorem Holds.nil{s:ae}:Holds s s []:=⟨Sub.refl s,fun p hp=>by grind,by simp⟩
theorem Holds.get{s0 s:ae}{k:Nat}{o:SO}{H:List (Nat×SO)}(h:Holds s0 s ((k,o)::H)):s k=some o:=(h.2.1 _ List.mem_cons_self).1
theorem Holds.mem{s0 s:ae}{k:Nat}{o:SO}{H:List (Nat×SO)}(h:Holds s0 s H)(hm:(k,o)∈H):s k=some o:=(h.2.1 _ hm).1
theorem Holds.tail{s0 s:ae}{p:Nat×SO}{H:List (Nat×SO)}(h:Holds s0 s (p::H)):Holds s0 s H:=⟨h.1,fun x hx=>h.2.1 x (List.mem_cons_of_mem _ hx),(List.nodup_cons.1 h.2.2).2⟩
theorem Holds.set{s0 s:ae}{k:Nat}{o o':SO}{H:List (Nat×SO)}(h:Holds s0 s ((k,o)::H)):Holds s0 (s.set k o') ((k,o')::H):=by
 obtain⟨h1,h2,h3⟩:=h
 have h0:=(h2 _ List.mem_cons_self).2
 refine⟨fun b x hb=>?_,fun p hp=>?_,h3⟩
 ·rw[ai (fun e=>by grind)];exact h1 b x hb
 ·rcases List.mem_cons.1 hp with rfl|hp
  ·grind [cg]
  ·obtain⟨q1,q2⟩:=h2 p (List.mem_cons_of_mem _ hp)
   refine⟨?_,q2⟩
   rw[ai (fun e=>?_)];exact q1
   grind
theorem Holds.aik{s0 s:ae}{H:List (Nat×SO)}(h:Holds s0 s H){k:Nat}(hk:s k=none):k∉H.map Prod.fst:=by
 intro hm
 obtain⟨p,hp,rfl⟩:=List.mem_map.1 hm
 rw[(h.2.1 p hp).1]at hk;cases hk
theorem Holds.alloc{s0 s:ae}{k:Nat}{o:SO}{H:List (Nat×SO)}(h:Holds s0 s H)(hk:s k=none):Holds s0 (s.set k o) ((k,o)::H):=by
 obtain⟨h1,h2,h3⟩:=h
 have h0:s0 k=none:=by
  cases e:s0 k with
  |none=>rfl
  |some x=>rw[h1 k x e]at hk;cases hk
 refine⟨h1.set hk,fun p hp=>?_,by grind⟩
 rcases List.mem_cons.1 hp with rfl|hp
 ·grind [cg]
 grind [q1,q2,ai]
theorem Holds.sub{s0 s s':ae}{H:List (Nat×SO)}(h:Holds s0 s H)(hs:Sub s s'):Holds s0 s' H:=⟨fun b o hb=>hs b o (h.1 b o hb),fun p hp=>⟨hs _ _ (h.2.1 p hp).1,(h.2.1 p hp).2⟩,h.2.2⟩
theorem P8{s:ae}{k j:Nat}(h:j≠k):(s.del k) j=s j:=by unfold ae.del;rw[if_neg h]
theorem FH{s:ae}{k:Nat}{o:SO}(h:s k=some o):(s.del k).set k o=s:=by grind [ae.set,ae.del]
theorem Holds.del{s0 s:ae}{k:Nat}{o:SO}{H:List (Nat×SO)}(h:Holds s0 s ((k,o)::H)):Holds s0 (s.del k) H/\(s.del k) k=none:=by
 obtain⟨h1,h2,h3⟩:=h
 have h0:=(h2 _ List.mem_cons_self).2
 refine⟨⟨fun b x hb=>?_,fun p hp=>?_,(List.nodup_cons.1 h3).2⟩,by unfold ae.del;simp⟩
 ·rw[P8 (fun e=>by grind)];exact h1 b x hb
 ·obtain⟨q1,q2⟩:=h2 p (List.mem_cons_of_mem _ hp)
  refine⟨?_,q2⟩
  rw[P8 (fun e=>?_)];exact q1
  grind
section
variable{α:Type}[aP α]
def nK(r:cN)(l:List α):List (Nat×SO):=match r with
 |none=>[]
 |some (b,_,sp)=>[(b,.cells (flat l++sp))]
def LB(r:cN)(l:List α):Prop:=match r with
 |none=>l=[]
 |some (_,cap,sp)=>0<cap/\l.length<=cap/\(flat l++sp).length=cap*aP.w α/\views sp=sp
theorem Holds.row{s0 s:ae}{r:cN}{l:List α}{H:List (Nat×SO)}(h:Holds s0 s (nK r l++H))(hf:LB r l):∃s1,s=iw s1 r l/\fB s1 r l/\Holds s0 s1 H:=by
 cases r with
 |none=>exact⟨s,rfl,hf,h⟩
 |some x=>
  obtain⟨b,cap,sp⟩:=x
  have h':=h
  obtain⟨h1,h2⟩:=h'.del
  exact⟨s.del b,(FH h'.get).symm,⟨h2,hf⟩,h1⟩
theorem Holds.X0{s0 s1:ae}{r:cN}{l:List α}{H:List (Nat×SO)}(h:Holds s0 s1 H)(ho:fB s1 r l):Holds s0 (iw s1 r l) (nK r l++H)/\LB r l:=by
 cases r with
 |none=>exact⟨h,ho⟩
 |some x=>exact⟨h.alloc ho.1,ho.2⟩
end
end Go.AB
end
section
set_option maxRecDepth 16000
namespace Go.AB
open Go
open Go.Proofs.Tryz (prog)
attribute[-go_sem] Nat.add_zero mI cE
def lf:IC:=dec 0x258b7d3a0d9a5d6bb3337f0e0a483f421590145d20c6ee55129bcd341cd2049c3e25c630b1429debe79b885a40fab46acd9cc944efc84b51d72ef8b10bcd54bfe3b8d57f874ad12ebbfd34587805b77b7dd062da56b03fa5408cf80b91f8bb02203af2b6d1f8002c39e8812ec18843b42d1aa3d842b2c500eb23ac03c0fc37378f10cb6f2dcf511f886c88374986b0be7dc6f341fb64d8a3cee7538bbcc0ffc0dcbeb17f667af5f6955da2b3550805b3ae0d3d00dc06a99a03c
theorem rk:eH prog 188 47 [⟨4,false,some (4,true)⟩,⟨5,true,none⟩] lf=true:=by kernel_rfl
def mr:IC:=dec 0x9eff11f0280aa8837d2d97642d82df006c3ebf6398fb79ab46e05671d25550adf6bacd97a18e69bd447cf5da34a206a562085399fbab3631a71ca7fdbf61d9027375e15ec1d792207cf7bf3d92a48e82dda17e17f5e0d802e178a15359127ed788bdbc998ded45d48104a300d25cfda46a3bc62368fc05a5ff6486a10ac6fbbf6e3bc39a2586ad1a52b09259717e62565db6dddfecaaf09c0202eb79faf223db004cf04afaae0e9d730fb9b22af3226249f80b719f08ca661b577e2d28a98dbc6047ca84f4230504cea1546074f11b4cec3eed10f3a621b90513724997d4b1cb49ac565649463132fc8edc18fb443a16ad4024f67c8aad289c17b5636465d407f97fbc7ac609956324e27fc605128db3ae0d3d00dc06a99a08d
theorem tN:eH prog 161 54 [⟨4,false,some (4,true)⟩,⟨5,true,none⟩,⟨6,true,none⟩] mr=true:=by kernel_rfl
structure J3 where
 n:Option Nat
def J3.c(x:J3):AV:=match x.n with
 |none=>.fj
 |some b=>.ref b 0
instance:aP J3:=⟨1,fun x=>[x.c],⟨none⟩,by decide,fun _=>rfl,fun x=>by obtain⟨_|b⟩:=x<;>rfl⟩
def refs(ids:List (Nat×cN)):List J3:=ids.map fun i=>⟨some i.1⟩
def Rw(r:cN)(v:aX):SO:=.cells [.bool v.fE,iG r v.l_.length]
def lvH(id:Nat×cN)(v:aX):List (Nat×SO):=(id.1,Rw id.2 v)::nK id.2 v.l_
def zS:List (Nat×cN)->List aX->List (Nat×SO)
 |id::ids,v::vs=>lvH id v++zS ids vs
 |_,_=>[]
def UW:List (Nat×cN)->List aX->Prop
 |id::ids,v::vs=>LB id.2 v.l_/\UW ids vs
 |[],[]=>True
 |_,_=>False
theorem pM:∀{ids:List (Nat×cN)}{vs:List aX},UW ids vs->ids.length=vs.length
 |[],[],_=>rfl
 |_::ids,_::vs,h=>by rw[List.length_cons,List.length_cons,pM h.2]
 |[],_::_,h=>h.elim
 |_::_,[],h=>h.elim
structure PS where
 b:List UInt8
 at_:Int
 last:Bool
 st:List aX
def jg(p:PS)(rr:cN):List AV:=[.sl false 1 p.b.length (flat p.b),.int .i64 p.at_,.bool p.last,iG rr p.st.length]
def qd(s0 s:ae)(B:Nat)(p:PS)(rr:cN)(ids:List (Nat×cN)):Prop:=UW ids p.st/\LB rr (refs ids.reverse)/\Holds s0 s ((B,.cells (jg p rr))::(nK rr (refs ids.reverse)++zS ids p.st))
theorem pR(ids:List (Nat×cN)):(refs ids).length=ids.length:=by unfold refs;simp
theorem qd.cell{s0 s:ae}{B:Nat}{p:PS}{rr:cN}{ids:List (Nat×cN)}(h:qd s0 s B p rr ids):s B=some (.cells (jg p rr)):=h.2.2.get
theorem qd.ref{s0 s:ae}{B:Nat}{p:PS}{rr:cN}{id:Nat×cN}{ids:List (Nat×cN)}(h:qd s0 s B p rr (id::ids)):
 ∃rb cap sp,rr=some (rb,cap,sp)/\s rb=some (.cells (flat (refs (id::ids).reverse)++sp))/\(flat (refs (id::ids).reverse)++sp)[ids.length]? =some (.ref id.1 0):=by
 obtain⟨h1,h2,h3⟩:=h
 have hl:0<(refs (id::ids).reverse).length:=by rw[pR];simp
 cases rr with
 |none=>rw[show refs (id::ids).reverse=[] from h2]at hl;simp at hl
 |some x=>
  obtain⟨rb,cap,sp⟩:=x
  refine⟨rb,cap,sp,rfl,h3.mem (by simp[nK]),?_⟩
  have hi:ids.length<(refs (id::ids).reverse).length:=by rw[pR];simp
  have:=u7 (refs (id::ids).reverse) sp (i:=ids.length) (r:=0) hi (by decide)
  rw[show ids.length*aP.w J3+0=ids.length by show ids.length*1+0=_;omega]at this
  rw[this]
  have e:(refs (id::ids).reverse)[ids.length]=⟨some id.1⟩:=by
   unfold refs
   simp
  rw[e];rfl
theorem Nr{cs:List AV}{off:Nat}{a:AV}(h:cs[off]? =some a):off+1<=cs.length/\AB.sub cs off 1=[a]:=by
 obtain⟨h1,h2⟩:=List.getElem?_eq_some_iff.1 h
 refine⟨h1,?_⟩
 unfold AB.sub
 rw[List.drop_eq_getElem_cons h1,h2];rfl
theorem Ov{cs:List AV}{off b:Nat}(h:cs[off]? =some (.ref b 0)):I1 [.fj] false off (some (.cells cs))=.prt (off+1<=cs.length) (.ref b 0):=by
 show ckP _ (na false (pad [.fj] (views (AB.sub cs off 1))))=_
 rw[(Nr h).2]
 rfl
theorem Hi{s0 s:ae}{B:Nat}{p:PS}{rr:cN}{ids:List (Nat×cN)}(h:qd s0 s B p rr ids)(bX:p.st.length<=room){Q:List AV->ae->Prop}(hn:p.st=[]->Q [.fj] s)
 (hc:∀id fL v vs,ids=id::fL->p.st=v::vs->Q [.ref id.1 0] s):FN prog 162 [.ref B 0] s Q:=by
 have hB:=h.cell
 have hlen:=pM h.1
 refine FS 21 [⟨2,true,none⟩] 0x5865d3436d5f61ce1e301749d8e8cbe4d54d4bc7823f2366a557b26a1755ddeddcc15bbd11cd7c7fa9a4f4db163de781aa56e3b98bec990bb41d9388473a ?_
 unfold jg at hB
 simp -implicitDefEqProofs only[go_sem,seval,hB]
 refine⟨fun he=>hn (List.eq_nil_of_length_eq_zero (by simpa using he)),fun hne=>?_⟩
 have hne:p.st.length≠0:=by simpa using hne
 cases dZ:p.st with
 |nil=>rw[dZ]at hne;exact absurd rfl hne
 |cons v vs=>
 cases ids with
 |nil=>rw[dZ]at hlen;simp at hlen
 |cons id fL=>
 obtain⟨rb,cap,sp,rfl,h1,h2⟩:=h.ref
 have hl:p.st.length=fL.length+1:=by rw[<-hlen];rfl
 rw[<-dZ]
 have hr:room=140737488355328:=rfl
 have hw:aC ((p.st.length:Int) -1)=(fL.length:Int):=by rw[ar (by omega) (by omega)];omega
 rw[hw]
 refine⟨by omega,?_⟩
 show qK _ _ _ (I1 _ _ _ (s rb))
 rw[h1,Int.toNat_natCast,Nat.mul_one,Ov h2]
 simp -implicitDefEqProofs only[go_sem,seval]
 exact⟨by have:=(Nr h2).1;rwa[List.length_append]at this,hc id fL v vs rfl dZ⟩
theorem Cr{s:ae}{B n:Nat}{d:Bool}{r:cN}{Q:List AV->ae->Prop}(hB:s B=some (.cells [.bool d,iG r n]))(hq:Q [.bool (d&&((n:Int).tmod 2==0))] s):FN prog 217 [.ref B 0] s Q:=by
 refine FS 16 [⟨2,true,none⟩] 0x135b9169b7b375df6a7a18c2e418e745255703a8cb0eb515f4aa3feb37dd945002c003e1729f9b3d8824473a ?_
 simp -implicitDefEqProofs only[go_sem,seval,hB]
 exact hq
def dJ:List aX->Bool
 |[]=>false
 |v::_=>v.fE&&((v.l_.length:Int).tmod 2==0)
theorem qd.lv{s0 s:ae}{B:Nat}{p:PS}{rr:cN}{id:Nat×cN}{ids:List (Nat×cN)}{v:aX}{vs:List aX}(h:qd s0 s B p rr (id::ids))(dZ:p.st=v::vs):s id.1=some (Rw id.2 v):=by
 refine h.2.2.mem ?_
 rw[dZ]
 simp[zS,lvH]
theorem pQ(id:Nat×cN)(ids:List (Nat×cN)):refs (id::ids).reverse=refs ids.reverse++[⟨some id.1⟩]:=by unfold refs;simp
theorem DV{E:St}{d:Option Nat}{K:St->Prop}{s0 s:ae}{B b:Nat}{p:PS}{rr:cN}{ids:List (Nat×cN)}{gH:Bool}(h:qd s0 s B p rr ids)(bX:p.st.length<=64)(hb:s b=none)(hσ:E.s=s.set b (.cells [.bool gH,.arr 0 0 0 0]))
 (hK:∀s1 rr',s1 B=some (.cells (jg p rr))->(∃fL,qd s0 (s1.set B (.cells (jg {p with st:=⟨gH,[]⟩::p.st} rr'))) B {p with st:=⟨gH,[]⟩::p.st} rr' fL)->K ({E with s:=s1}.put d (iG rr' (p.st.length+1)))):
 dY 1 8 [.fj] E d K (iG rr p.st.length) (tV E.s 1 (.sl true 1 1 [.ref b 0])):=by
 obtain⟨h1,h2,h3⟩:=h
 have hlen:=pM h1
 have hr:room=140737488355328:=rfl
 have hl:(refs ids.reverse).length=p.st.length:=by rw[pR];simp[hlen]
 have H0:=h3.alloc (o:=.cells [.bool gH,.arr 0 0 0 0]) hb
 have H0':Holds s0 (s.set b (.cells [.bool gH,.arr 0 0 0 0])) (nK rr (refs ids.reverse)++([(b,.cells [.bool gH,.arr 0 0 0 0]),(B,.cells (jg p rr))]++zS ids p.st)):=H0.perm (List.perm_append_comm_assoc [(b,SO.cells [.bool gH,.arr 0 0 0 0]),(B,SO.cells (jg p rr))] _ _)
 obtain⟨s1,e,ok,H1⟩:=H0'.row h2
 rw[js,<-hl]
 refine v7 (z:=(⟨none⟩:J3)) (v:=(⟨some b⟩:J3)) (hσ.trans e) ok rfl (by rw[hl];omega) fun s' r' hs' ok'=>?_
 rw[hl]
 obtain⟨H2,hf⟩:=(H1.sub hs').X0 ok'
 have H3:Holds s0 (iw s' r' (refs ids.reverse++[⟨some b⟩])) ((B,.cells (jg p rr))::(nK r' (refs ids.reverse++[⟨some b⟩])++((b,.cells [.bool gH,.arr 0 0 0 0])::zS ids p.st))):=by
  refine H2.perm ?_
  refine(List.perm_append_comm_assoc _ [(b,SO.cells [.bool gH,.arr 0 0 0 0]),(B,SO.cells (jg p rr))] _).trans ?_
  refine(List.Perm.swap ..).trans ?_
  refine List.Perm.cons _ ?_
  exact List.perm_append_comm_assoc [(b,SO.cells [.bool gH,.arr 0 0 0 0])] _ _
 refine hK _ r' H3.get ⟨(b,none)::ids,⟨rfl,h1⟩,?_,?_⟩
 ·rw[pQ];exact hf
 ·rw[pQ]
  exact H3.set
theorem PC{s0 s:ae}{B:Nat}{p:PS}{rr:cN}{ids:List (Nat×cN)}(h:qd s0 s B p rr ids)(bX:p.st.length<=64){gH:Bool}{Q:List AV->ae->Prop}(he:dJ p.st=true->Q [.int .i64 11] s)
 (hd:dJ p.st=false->64<=p.st.length->Q [.int .i64 15] s)
 (hk:dJ p.st=false->p.st.length<64->∀s' rr' fL,qd s0 s' B {p with st:=⟨gH,[]⟩::p.st} rr' fL->Q [.int .i64 0] s'):FN prog 186 [.ref B 0,.bool gH] s Q:=by
 have hB:=h.cell
 have hlen:=pM h.1
 have hr:room=140737488355328:=rfl
 have rest:dJ p.st=false->∀(Q':Prop),Q'->Q':=fun _ _ x=>x
 refine FS 32 [⟨4,true,none⟩] 0xf0474b042b806c456287e922c2b76362185e891628784f20dd609dcb3917964ee40c2569e1cc0bcaefcefeed08f02008d789963740005eb3841d8cf90d11372970fb693c47672192307854b776c4958717fde679fd70ea221d9cf586803d07269a0c47530e9af75a14740d3980083fa ?_
 unfold jg at hB
 simp -implicitDefEqProofs only[go_sem,seval]
 refine Hi h (by omega) (fun dZ=>?_) (fun id fL v vs KN dZ=>?_)
 ·simp -implicitDefEqProofs only[go_sem,seval,hB]
  refine⟨[.bool false],rfl,fun h=>(by cases h),?_⟩
  have hw:dJ p.st=false:=by rw[dZ];rfl
  simp -implicitDefEqProofs only[go_sem,seval,hB,Bool.false_and,Bool.and_false]
  refine⟨fun hx=>he (by first|exact hx|exact absurd hx id),fun hx=>?_⟩
  have hw:dJ p.st=false:=by first|exact hw|exact hx
  refine⟨fun hx=>hd hw (by have:=of_decide_eq_true hx;omega),fun hx b hb=>?_⟩
  have hlt:p.st.length<64:=by have:=of_decide_eq_false hx;omega
  refine DV h bX hb rfl fun s1 rr' hB1⟨fL,QU⟩=>?_
  unfold jg at hB1
  simp -implicitDefEqProofs only[go_sem,seval,hB1]
  exact hk hw hlt _ _ _ QU
 ·simp -implicitDefEqProofs only[go_sem,seval,hB]
  subst KN
  have hlv:=h.lv dZ
  refine⟨[.bool (dJ p.st)],rfl,fun _=>⟨_,rfl,Cr hlv (by rw[dZ];exact⟨rfl,rfl⟩)⟩,?_⟩
  simp -implicitDefEqProofs only[go_sem,seval,hB,Bool.true_and,Bool.and_true]
  refine⟨fun hx=>he (by first|exact hx|exact absurd hx id),fun hx=>?_⟩
  have hw:dJ p.st=false:=by first|exact hw|exact hx
  refine⟨fun hx=>hd hw (by have:=of_decide_eq_true hx;omega),fun hx b hb=>?_⟩
  have hlt:p.st.length<64:=by have:=of_decide_eq_false hx;omega
  refine DV h bX hb rfl fun s1 rr' hB1⟨fL,QU⟩=>?_
  unfold jg at hB1
  simp -implicitDefEqProofs only[go_sem,seval,hB1]
  exact hk hw hlt _ _ _ QU
theorem acI{E:St}{d:Option Nat}{K:St->Prop}{s0:ae}{R:List (Nat×SO)}{r:cN}{l:List ab}(hσ:Holds s0 E.s (nK r l++R))(hf:LB r l)
 (hK:∀s2,Holds s0 s2 R->K ({E with s:=s2}.put d (.sl false 4 l.length (flat l)))):wH 4 false E d K (iG r l.length):=by
 cases r with
 |none=>
  obtain rfl:l=[]:=hf
  exact .inl ⟨rfl,rfl,rfl,hK E.s hσ⟩
 |some x=>
  obtain⟨b,cap,sp⟩:=x
  obtain⟨f1,f2,f3,f4⟩:=hf
  have hE':Holds s0 E.s ((b,.cells (flat l++sp))::R):=hσ
  refine .inr ⟨f1,f2,fun h=>(by cases h),?_⟩
  have hle:0+l.length*4<=(flat l++sp).length:=by rw[f3,Nat.zero_add];exact Nat.mul_le_mul_right _ f2
  have hc:jl l.length 4 0 (E.s b)=some (l.length,flat l):=by
   rw[hE'.get]
   unfold jl
   simp only[decide_eq_true hle,cond_true]
   have:=lL l sp 4 0 l.length rfl (by omega)
   rw[Nat.zero_mul]at this
   rw[this,List.drop_zero,List.take_length,aN]
  show wH.frzK 4 false E d K b l.length (jl l.length 4 0 (E.s b))
  rw[hc]
  exact hK _ hE'.del.1
theorem qd.pop{s0 s:ae}{B:Nat}{p:PS}{rr:cN}{id:Nat×cN}{ids:List (Nat×cN)}{v:aX}{vs:List aX}(h:qd s0 s B p rr (id::ids))(dZ:p.st=v::vs):
 ∃rr',JA rr'=JA rr/\GS rr'=GS rr/\LB rr' (refs ids.reverse)/\UW ids vs/\LB id.2 v.l_/\Holds s0 s ((B,.cells (jg p rr))::(nK rr' (refs ids.reverse)++(lvH id v++zS ids vs))):=by
 have hr:=h.ref
 obtain⟨rb,cap,sp,rfl,_,_⟩:=hr
 obtain⟨h1,h2,h3⟩:=h
 rw[dZ]at h1 h3
 obtain⟨f1,f2,f3,f4⟩:=h2
 have e:flat (refs (id::ids).reverse)++sp=flat (refs ids.reverse)++(.ref id.1 0::sp):=by rw[pQ,ep,List.append_assoc];rfl
 refine⟨some (rb,cap,.ref id.1 0::sp),rfl,rfl,⟨f1,?_,?_,?_⟩,h1.2,h1.1,?_⟩
 ·rw[pR]at f2⊢;simp at f2⊢;omega
 ·rw[<-e];exact f3
 ·unfold views at f4⊢;rw[List.map_cons,f4];rfl
 ·unfold nK at h3⊢
  simp only[]at h3⊢
  rw[<-e]
  exact h3
theorem MY{s0 s:ae}{X:Nat×SO}{R T:List (Nat×SO)}{id:Nat×cN}{v:aX}(h:Holds s0 s (X::(R++(lvH id v++T)))):Holds s0 s (nK id.2 v.l_++(X::(R++T))):=by
 have p1:(X::(R++(lvH id v++T))).Perm ((id.1,Rw id.2 v)::((X::R)++(nK id.2 v.l_++T))):=List.perm_middle (l₁:=X::R)
 have p2:((X::R)++(nK id.2 v.l_++T)).Perm (nK id.2 v.l_++((X::R)++T)):=List.perm_append_comm_assoc ..
 exact(h.perm p1).tail.perm p2
def Ts:List AV:=[.int .i64 0,.int .i64 0,.str [],.sl false 4 0 []]
def nq(st:List aX)(gH:Bool):Bool:=match st with
 |[]=>true
 |v::_=>(v.fE !=gH)||(gH&&!dJ st)
abbrev vX(pf:List ab->Option (List ab×Int)):Prop:=∀(s:ae)(l:List ab)(r:List ab×Int),pf l=some r->FE prog 218 [.sl false 4 l.length (flat l)] s [.sl false 4 r.1.length (flat r.1),.int .i64 r.2] s
@[go_sem]theorem RF:lu .fj=.no:=rfl
@[go_sem]theorem Pm(o:Nat)(x:IX):gp o x (.iL [])=.no:=rfl
@[go_sem]theorem afS(E:St)(n:Nat):rd E (.iL []) n=none:=rfl
@[go_sem]theorem aeS(op:UnOp):XY op (.iL [])=.no:=by cases op<;>rfl
@[go_sem]theorem aa2(ne:Bool)(y:AV):Ky ne (.iL []) y=.no:=rfl
theorem Yw{pf:List ab->Option (List ab×Int)}(hpf:vX pf){s0 s:ae}{B:Nat}{p:PS}{rr:cN}{ids:List (Nat×cN)}(h:qd s0 s B p rr ids)(bX:p.st.length<=64){gH:Bool}{Q:List AV->ae->Prop}
 (h0:nq p.st gH=true->Q [.agg Ts,.int .i64 11] s)
 (hA:∀v vs,p.st=v::vs->gH=false->nq p.st gH=false->∀s' rr' fL,qd s0 s' B {p with st:=vs} rr' fL->Q [.agg [.int .i64 6,.int .i64 0,.str [],.sl false 4 v.l_.length (flat v.l_)],.int .i64 0] s')
 (hD:∀v vs,p.st=v::vs->gH=true->nq p.st gH=false->ok (pf v.l_) fun r=>(r.2≠0->∀s',Sub s0 s'->Q [.agg Ts,.int .i64 r.2] s')/\
   (r.2=0->∀s' rr' fL,qd s0 s' B {p with st:=vs} rr' fL->Q [.agg [.int .i64 7,.int .i64 0,.str [],.sl false 4 r.1.length (flat r.1)],.int .i64 0] s')):FN prog 187 [.ref B 0,.bool gH] s Q:=by
 have hB:=h.cell
 have hlen:=pM h.1
 have hr:room=140737488355328:=rfl
 refine FS 81 [⟨4,false,some (4,true)⟩,⟨5,true,none⟩] 0x2e72d6f9e204819976fef7d172d54ac05472cc750c73f4276302e3287b35c2803d16645740766fb8181b13bd74af39c6249e4781f9f64b3c001eb93d7118d67febed7dcca388b6cdbb0a7316e863b622d9922cfc6b0d2a485de525e644429d8a6a59f9fce99157497d2408d48bac8dd01776d0a8d2056f4a6a92b540f409c3eaad11a3a5ffad70d5c0974e361877a1fb1d6798a093a88d434469d238eca4ec60e8d379cc0e536561b94b017f3fdc526e162a2a36ac2f3a2f8701c594ec31d85005710e89fc854052e892043da759a9937594a19b89c474be4c07daa2d139bca295ceff7af674207500aaeafe31a451a338b0bcf218a906eacc3f5db32e584783510a66b1a4fd99c717b64a9a10f16fe32eaa02e9da7918b003cd1eb37e0092b24b ?_
 unfold jg at hB
 simp -implicitDefEqProofs only[go_sem,seval]
 refine Hi h (by omega) (fun dZ=>?_) (fun id fL v vs KN dZ=>?_)
 ·have Dh:nq p.st gH=true:=by rw[dZ];rfl
  simp -implicitDefEqProofs only[go_sem,seval,hB,Bool.true_eq_false,false_implies,true_implies,true_and]
  exact h0 Dh
 ·subst KN
  have hlv:=h.lv dZ
  unfold Rw at hlv
  have hbd:nq p.st gH=((v.fE !=gH)||(gH&&!dJ p.st)):=by rw[dZ];rfl
  have htw:dJ p.st=(v.fE&&((v.l_.length:Int).tmod 2==0)):=by rw[dZ];rfl
  simp -implicitDefEqProofs only[go_sem,seval,hB]
  cases hdv:v.fE<;>cases gH
  all_goals(rw[hdv]at hlv;simp -implicitDefEqProofs only[go_sem,Nat.reduceBEq,Nat.reduceAdd,Nat.reduceMul,Nat.reduceLeDiff,Nat.reduceEqDiff,Nat.reduceBNe,UInt8.reduceToNat,UInt32.reduceToNat,hB,hlv,bL,beq_self_eq_true,Bool.and_self,Bool.not_true,Bool.not_false,Bool.and_false,Bool.false_and,Bool.and_true,Bool.true_and])
  ·have hbf:nq p.st false=false:=by rw[hbd,hdv];rfl
   obtain⟨rr',e1,e2,f1,f2,f3,H⟩:=h.pop dZ
   have fh:p.st.length<=GS rr:=by
    obtain⟨rb,cap,sp,rfl,_,_⟩:=h.ref
    have:=h.2.1.2.1
    rw[pR,List.length_reverse,hlen]at this
    exact this
   have hn:p.st.length=vs.length+1:=by rw[dZ];rfl
   have hw:aC ((p.st.length:Int) -1)=(vs.length:Int):=by rw[ar (by omega) (by omega)];omega
   rw[hw]
   refine⟨⟨by omega,by omega,by omega⟩,?_⟩
   have H':=H.set (o':=.cells (jg {p with st:=vs} rr'))
   have es:jg {p with st:=vs} rr'=[.sl false 1 p.b.length (flat p.b),.int .i64 p.at_,.bool p.last,.arr (JA rr) 0 (vs.length:Int).toNat (GS rr)]:=by
    unfold jg iG
    rw[e1,e2];rfl
   rw[es]at H'
   have hl2:=H'.mem (k:=id.1) (o:=Rw id.2 v) (by simp[lvH])
   rw[hl2]
   unfold Rw
   simp -implicitDefEqProofs only[go_sem,seval]
   refine acI (MY H') f3 fun s2 H2=>?_
   simp -implicitDefEqProofs only[go_sem,seval]
   exact hA v vs dZ rfl hbf s2 rr' fL ⟨f2,f1,by rw[es];exact H2⟩
  ·exact h0 (by rw[hbd,hdv];rfl)
  ·exact h0 (by rw[hbd,hdv];rfl)
  ·refine Cr hlv ?_
   simp -implicitDefEqProofs only[go_sem,seval,hB,hlv,bL,beq_self_eq_true,Bool.and_self,Bool.not_true,Bool.not_false,Bool.and_false,Bool.false_and,Bool.and_true,Bool.true_and]
   have ade:dJ p.st=((v.l_.length:Int).tmod 2==0):=by rw[htw,hdv];rfl
   refine⟨fun hx=>h0 (by rw[hbd,hdv,ade];simpa using hx),fun hx=>?_⟩
   have hbf:nq p.st true=false:=by rw[hbd,hdv,ade];simpa using hx
   obtain⟨rr',e1,e2,f1,f2,f3,H⟩:=h.pop dZ
   refine acI (MY H) f3 fun s2 H2=>?_
   have hB2:=H2.get
   unfold jg at hB2
   obtain⟨r,hr1,hr2,hr3⟩:=hD v vs dZ rfl hbf
   simp -implicitDefEqProofs only[go_sem,seval]
   refine FE.app (hpf s2 v.l_ r hr1) ⟨rfl,?_⟩
   simp -implicitDefEqProofs only[go_sem,Nat.reduceBEq,Nat.reduceAdd,Nat.reduceMul,Nat.reduceLeDiff,Nat.reduceEqDiff,Nat.reduceBNe,UInt8.reduceToNat,UInt32.reduceToNat,hB2]
   have fh:p.st.length<=GS rr:=by
    obtain⟨rb,cap,sp,rfl,_,_⟩:=h.ref
    have:=h.2.1.2.1
    rw[pR,List.length_reverse,hlen]at this
    exact this
   have hn:p.st.length=vs.length+1:=by rw[dZ];rfl
   have hw:aC ((p.st.length:Int) -1)=(vs.length:Int):=by rw[ar (by omega) (by omega)];omega
   rw[hw]
   have es:jg {p with st:=vs} rr'=[.sl false 1 p.b.length (flat p.b),.int .i64 p.at_,.bool p.last,.arr (JA rr) 0 (vs.length:Int).toNat (GS rr)]:=by
    unfold jg iG
    rw[e1,e2];rfl
   refine⟨fun hx=>hr2 (by simpa using hx) s2 H2.1,fun hx=>⟨⟨by omega,by omega,by omega⟩,?_⟩⟩
   have H3:=H2.set (o':=.cells (jg {p with st:=vs} rr'))
   rw[es]at H3
   exact hr3 (by simpa using hx) _ rr' fL ⟨f2,f1,by rw[es];exact H3⟩
set_option maxRecDepth 4000
theorem Vv(b:List UInt8)(a:Int)(last:Bool)(o:AV)(v:ab){r:ab×Int×fu}(h:cT ⟨b,a,last,.fj⟩ v=some r):cT ⟨b,a,last,o⟩ v=some (r.1,r.2.1,⟨b,r.2.2.at_,last,o⟩):=by
 unfold cT at h⊢
 simp only[]at h⊢
 cases h1:dI b a last with
 |none=>rw[h1]at h;cases h
 |some r1=>
  rw[h1]at h
  simp only[bn]at h⊢
  cases h2:jv (!(r1.2 !=0)) false (jc r1.1)with
  |none=>rw[h2]at h;cases h
  |some r2=>
   rw[h2]at h
   simp only[]at h⊢
   cases h3:((r1.2 !=0)||(!r2))with
   |true=>
    simp only[h3,if_true]at h⊢
    cases h4:gy r1.2 with
    |none=>rw[h4]at h;cases h
    |some r3=>rw[h4]at h;cases h;rfl
   |false=>
    simp only[h3,Bool.false_eq_true,if_false]at h⊢
    cases h4:dI b r1.1.To last with
    |none=>rw[h4]at h;cases h
    |some r4=>
     rw[h4]at h
     simp only[]at h⊢
     cases h5:(((r4.2 !=0)||(r4.1.Kind !=6))||(!(r4.1.S.b==(bk.mk [82]).b)))with
     |true=>
      first
      |(simp only[h5,if_true]at h;cases h;done)
      |(simp only[h5,if_true]at h⊢
        cases h6:gy r4.2 with
        |none=>rw[h6]at h;cases h
        |some r5=>rw[h6]at h;cases h;rfl)
     |false=>
      simp only[h5,Bool.false_eq_true,if_false]at h⊢
      cases h6:(((decide (v.N<1))||(decide (v.N>4096)))||(r1.1.V.N !=0))with
      |true=>first|(simp only[h6,if_true]at h;cases h;done)|(simp only[h6,if_true]at h⊢;cases h;rfl)
      |false=>first|(simp only[h6,Bool.false_eq_true,if_false]at h;cases h;done)|(simp only[h6,Bool.false_eq_true,if_false]at h⊢;cases h;rfl)
def zV:ab:=⟨0,0,⟨[]⟩,[]⟩
def vA(v:ab):AV:=.agg [.int .i64 v.Kind,.int .i64 v.N,.str v.S.b,.sl false 4 v.L.length (flat v.L)]
def tA(t:aF):AV:=.agg [.int .i64 t.Kind,.int .i64 t.aR,.int .i64 t.To,.int .i64 t.V.Kind,.int .i64 t.V.N,.str t.V.S.b,.sl false 4 t.V.L.length (flat t.V.L),.str t.S.b]
def lM(p:PS)(t:aF):Option (ab×Int×Int):=
 if dJ p.st&&(t.Kind !=1||t.V.Kind !=5)then some (zV,11,p.at_)
 else if t.Kind==6 then bn (j5 t.S) fun r=>some (r.1,r.2,p.at_)
 else bn (jc t) fun w=>if w then bn (cT ⟨p.b,p.at_,p.last,.fj⟩ t.V) fun r=>some (r.1,r.2.1,r.2.2.at_)else some (t.V,0,p.at_)
theorem qd.place{s0 s:ae}{B:Nat}{p:PS}{rr:cN}{ids:List (Nat×cN)}(h:qd s0 s B p rr ids)(a:Int):qd s0 (s.set B (.cells (jg {p with at_:=a} rr))) B {p with at_:=a} rr ids:=⟨h.1,h.2.1,h.2.2.set⟩
theorem Ly{s0 s:ae}{B:Nat}{p:PS}{rr:cN}{ids:List (Nat×cN)}(h:qd s0 s B p rr ids){v:ab}{r:ab×Int×fu}(hr:cT ⟨p.b,p.at_,p.last,.fj⟩ v=some r){Q:List AV->ae->Prop}
 (hq:∀s',qd s0 s' B {p with at_:=r.2.2.at_} rr ids->Q [vA r.1,.int .i64 r.2.1] s'):FN prog 220 [.ref B 0,vA v] s Q:=by
 refine vE (s_0:=⟨p.b,p.at_,p.last,iG rr p.st.length⟩) h.cell ⟨_,Vv _ _ _ (iG rr p.st.length) _ hr,?_⟩
 exact hq _ (h.place _)
theorem OY{s0 s:ae}{B:Nat}{p:PS}{rr:cN}{ids:List (Nat×cN)}(h:qd s0 s B p rr ids)(bX:p.st.length<=64){t:aF}{Q:List AV->ae->Prop}
 (hm:ok (lM p t) fun r=>∀s',qd s0 s' B {p with at_:=r.2.2} rr ids->Q [vA r.1,.int .i64 r.2.1] s'):FN prog 188 [.ref B 0,tA t] s Q:=by
 have hB:=h.cell
 have hlen:=pM h.1
 have hr:room=140737488355328:=rfl
 unfold lM at hm
 simp only[RL,j4,bO]at hm
 obtain⟨m1,m2⟩:=hm
 refine FO rk rfl rfl ?_
 rw[lf]
 conv in dec _=>reduce
 unfold jg at hB
 unfold tA
 simp -implicitDefEqProofs only[go_sem,seval]
 refine Hi h (by omega) (fun dZ=>?_) (fun id fL v vs KN dZ=>?_)
 ·have htw:dJ p.st=false:=by rw[dZ];rfl
  rw[htw]at m1 m2
  simp -implicitDefEqProofs only[go_sem,seval,hB,bL]
  refine⟨fun hk=>?_,fun hk=>?_⟩
  ·obtain⟨r,hr1,hr2⟩:=(m2 rfl).1 hk
   refine FE.app (oQ hr1) ?_
   simp -implicitDefEqProofs only[go_sem,seval]
   exact hr2 s h
  ·obtain⟨w,hw1,hw2⟩:=(m2 rfl).2 hk
   refine FE.app (kW hw1) ?_
   simp -implicitDefEqProofs only[go_sem,seval]
   refine⟨fun hw=>?_,fun hw=>?_⟩
   ·obtain⟨r,hr1,hr2⟩:=hw2.1 hw
    refine Ly h hr1 fun s' hs'=>?_
    unfold vA
    simp -implicitDefEqProofs only[go_sem,seval]
    exact hr2 s' hs'
   ·exact hw2.2 hw s h
 ·subst KN
  have hlv:=h.lv dZ
  simp -implicitDefEqProofs only[go_sem,seval,hB]
  refine⟨fun _=>Cr hlv ?_,fun hx=>by cases hx⟩
  have htw:(v.fE&&((v.l_.length:Int).tmod 2==0))=dJ p.st:=by rw[dZ];rfl
  rw[htw]
  cases hw:dJ p.st<;>rw[hw]at m1 m2
  all_goals simp -implicitDefEqProofs only[go_sem,seval,hB,bL]
  ·refine⟨fun hk=>?_,fun hk=>?_⟩
   ·obtain⟨r,hr1,hr2⟩:=(m2 rfl).1 hk
    refine FE.app (oQ hr1) ?_
    simp -implicitDefEqProofs only[go_sem,seval]
    exact hr2 s h
   ·obtain⟨w,hw1,hw2⟩:=(m2 rfl).2 hk
    refine FE.app (kW hw1) ?_
    simp -implicitDefEqProofs only[go_sem,seval]
    refine⟨fun hw=>?_,fun hw=>?_⟩
    ·obtain⟨r,hr1,hr2⟩:=hw2.1 hw
     refine Ly h hr1 fun s' hs'=>?_
     unfold vA
     simp -implicitDefEqProofs only[go_sem,seval]
     exact hr2 s' hs'
    ·exact hw2.2 hw s h
  ·refine⟨fun hx=>m1 hx s h,fun hx=>?_⟩
   refine⟨fun hk=>?_,fun hk=>?_⟩
   ·obtain⟨r,hr1,hr2⟩:=(m2 hx).1 hk
    refine FE.app (oQ hr1) ?_
    simp -implicitDefEqProofs only[go_sem,seval]
    exact hr2 s h
   ·obtain⟨w,hw1,hw2⟩:=(m2 hx).2 hk
    refine FE.app (kW hw1) ?_
    simp -implicitDefEqProofs only[go_sem,seval]
    refine⟨fun hw=>?_,fun hw=>?_⟩
    ·obtain⟨r,hr1,hr2⟩:=hw2.1 hw
     refine Ly h hr1 fun s' hs'=>?_
     unfold vA
     simp -implicitDefEqProofs only[go_sem,seval]
     exact hr2 s' hs'
    ·exact hw2.2 hw s h
def FQ(pf:List ab->Option (List ab×Int))(p:PS)(gH:Bool):Option (ab×Int×PS):=
 bif nq p.st gH then some (zV,11,p)else
 match p.st with
 |[]=>none
 |v::vs=>bif gH then bn (pf v.l_) fun r=>bif r.2 !=0 then some (zV,r.2,p)else some (⟨7,0,⟨[]⟩,r.1⟩,0,{p with st:=vs})
  else some (⟨6,0,⟨[]⟩,v.l_⟩,0,{p with st:=vs})
def lh(p:PS)(gH:Bool):Int×PS:=bif dJ p.st then(11,p)else bif decide (64<=p.st.length)then(15,p)else(0,{p with st:=⟨gH,[]⟩::p.st})
def Wm(s0:ae)(B:Nat)(e:Int)(p:PS)(K:ae->Prop):Prop:=(e≠0->∀s',Sub s0 s'->K s')/\(e=0->∀s' rr' fL,qd s0 s' B p rr' fL->K s')
theorem Wm.at{s0 s:ae}{B:Nat}{e:Int}{p:PS}{K:ae->Prop}{rr:cN}{ids:List (Nat×cN)}(q:Wm s0 B e p K)(h:qd s0 s B p rr ids):K s:=by
 by_cases he:e=0
 ·exact q.2 he _ _ _ h
 ·exact q.1 he _ h.2.2.1
theorem Wm.mono{s0:ae}{B:Nat}{e:Int}{p:PS}{K K':ae->Prop}(q:Wm s0 B e p K)(h:∀s',K s'->K' s'):Wm s0 B e p K':=⟨fun he s' hs=>h _ (q.1 he s' hs),fun he s' rr' fL hs=>h _ (q.2 he s' rr' fL hs)⟩
theorem WO{pf:List ab->Option (List ab×Int)}(hpf:vX pf){s0 s:ae}{B:Nat}{p:PS}{rr:cN}{ids:List (Nat×cN)}(h:qd s0 s B p rr ids)(bX:p.st.length<=64){gH:Bool}{Q:List AV->ae->Prop}
 (hm:ok (FQ pf p gH) fun r=>Wm s0 B r.2.1 r.2.2 (Q [vA r.1,.int .i64 r.2.1])):FN prog 187 [.ref B 0,.bool gH] s Q:=by
 unfold FQ at hm
 refine Yw hpf h bX (fun hb=>?_) (fun v vs dZ hd hb s' rr' fL hs'=>?_) (fun v vs dZ hd hb=>?_)
 ·rw[hb,cond_true,bO]at hm
  exact hm.at h
 ·rw[hb,cond_false,dZ]at hm
  subst hd
  simp only[cond_false,bO]at hm
  exact hm.at hs'
 ·rw[hb,cond_false,dZ]at hm
  subst hd
  simp only[cond_true,j4]at hm
  obtain⟨r,hr,hm⟩:=hm
  refine⟨r,hr,fun he s' hs'=>?_,fun he s' rr' fL hs'=>?_⟩
  ·rw[show(r.2 !=0)=true by simpa using he,cond_true,bO]at hm
   exact hm.1 he s' hs'
  ·rw[show(r.2 !=0)=false by simpa using he,cond_false,bO]at hm
   exact hm.2 rfl s' rr' fL hs'
theorem L7{s0 s:ae}{B:Nat}{p:PS}{rr:cN}{ids:List (Nat×cN)}(h:qd s0 s B p rr ids)(bX:p.st.length<=64){gH:Bool}{Q:List AV->ae->Prop}
 (hm:Wm s0 B (lh p gH).1 (lh p gH).2 (Q [.int .i64 (lh p gH).1])):FN prog 186 [.ref B 0,.bool gH] s Q:=by
 unfold lh at hm
 refine PC h bX (fun hw=>?_) (fun hw hl=>?_) (fun hw hl s' rr' fL hs'=>?_)
 ·rw[hw,cond_true]at hm
  exact hm.at h
 ·rw[hw,cond_false,decide_eq_true hl,cond_true]at hm
  exact hm.at h
 ·rw[hw,cond_false,decide_eq_false (by omega),cond_false]at hm
  exact hm.at hs'
def uG(pf:List ab->Option (List ab×Int))(p:PS)(t:aF):Option (ab×Bool×Int×PS):=
 bif t.Kind==0 then some (zV,false,10,p)
 else bif t.Kind==2||t.Kind==4 then some (zV,false,(lh p (t.Kind==4)).1,(lh p (t.Kind==4)).2)
 else bif t.Kind==3||t.Kind==5 then bn (FQ pf p (t.Kind==5)) fun r=>some (r.1,r.2.1==0,r.2.1,r.2.2)
 else bn (lM p t) fun r=>bif r.2.1==0&&decide (64<=p.st.length)then some (r.1,false,15,{p with at_:=r.2.2})else some (r.1,r.2.1==0,r.2.1,{p with at_:=r.2.2})
theorem VM{pf:List ab->Option (List ab×Int)}(hpf:vX pf){s0 s:ae}{B:Nat}{p:PS}{rr:cN}{ids:List (Nat×cN)}(h:qd s0 s B p rr ids)(bX:p.st.length<=64){t:aF}{Q:List AV->ae->Prop}
 (hm:ok (uG pf p t) fun r=>Wm s0 B r.2.2.1 r.2.2.2 (Q [vA r.1,.bool r.2.1,.int .i64 r.2.2.1])):FN prog 161 [.ref B 0,tA t] s Q:=by
 have hr:room=140737488355328:=rfl
 unfold uG at hm
 refine FO tN rfl rfl ?_
 rw[mr]
 conv in dec _=>reduce
 unfold tA
 cases h0:(t.Kind==0)with
 |true=>
  rw[h0,cond_true,bO]at hm
  simp -implicitDefEqProofs only[go_sem,seval,h0,bL]
  exact hm.at h
 |false=>
 rw[h0,cond_false]at hm
 cases h2:(t.Kind==2)with
 |true=>
  have h4:(t.Kind==4)=false:=by have:=eq_of_beq h2;rw[this];rfl
  rw[h2,h4,Bool.true_or,cond_true,bO]at hm
  simp -implicitDefEqProofs only[go_sem,seval,h0,h2,h4,bL,Bool.true_or,Bool.or_true,Bool.or_false]
  refine L7 h bX (hm.mono fun s' hq=>?_)
  simp -implicitDefEqProofs only[go_sem,seval]
  repeat'(first|((with_reducible refine NJ ?_ ?_);exact rfl)|((with_reducible refine adJ ?_ ?_);exact rfl)|simp -implicitDefEqProofs only[go_sem,seval])
  exact hq
 |false=>
 cases h4:(t.Kind==4)with
 |true=>
  rw[h2,h4,Bool.or_true,cond_true,bO]at hm
  simp -implicitDefEqProofs only[go_sem,seval,h0,h2,h4,bL,Bool.true_or,Bool.or_true,Bool.or_false]
  refine L7 h bX (hm.mono fun s' hq=>?_)
  simp -implicitDefEqProofs only[go_sem,seval]
  repeat'(first|((with_reducible refine NJ ?_ ?_);exact rfl)|((with_reducible refine adJ ?_ ?_);exact rfl)|simp -implicitDefEqProofs only[go_sem,seval])
  exact hq
 |false=>
 rw[h2,h4,Bool.or_false,cond_false]at hm
 cases h3:(t.Kind==3)with
 |true=>
  have h5:(t.Kind==5)=false:=by have:=eq_of_beq h3;rw[this];rfl
  rw[h3,h5,Bool.true_or,cond_true,j4]at hm
  obtain⟨r,hr1,hm⟩:=hm
  rw[bO]at hm
  simp -implicitDefEqProofs only[go_sem,seval,h0,h2,h4,h3,h5,bL,Bool.true_or,Bool.or_true,Bool.or_false]
  refine WO hpf h bX ⟨r,hr1,hm.mono fun s' hq=>?_⟩
  unfold vA
  simp -implicitDefEqProofs only[go_sem,seval]
  exact hq
 |false=>
 cases h5:(t.Kind==5)with
 |true=>
  rw[h3,h5,Bool.or_true,cond_true,j4]at hm
  obtain⟨r,hr1,hm⟩:=hm
  rw[bO]at hm
  simp -implicitDefEqProofs only[go_sem,seval,h0,h2,h4,h3,h5,bL,Bool.true_or,Bool.or_true,Bool.or_false]
  refine WO hpf h bX ⟨r,hr1,hm.mono fun s' hq=>?_⟩
  unfold vA
  simp -implicitDefEqProofs only[go_sem,seval]
  exact hq
 |false=>
 rw[h3,h5,Bool.or_false,cond_false,j4]at hm
 obtain⟨r,hr1,hm⟩:=hm
 simp -implicitDefEqProofs only[go_sem,seval,h0,h2,h4,h3,h5,bL,Bool.true_or,Bool.or_true,Bool.or_false]
 refine OY h bX ⟨r,hr1,fun s' hs'=>?_⟩
 have hB:=hs'.cell
 unfold jg at hB
 unfold vA
 simp -implicitDefEqProofs only[go_sem,seval,hB]
 cases he:(r.2.1==0)with
 |false=>
  rw[he,Bool.false_and,cond_false,bO]at hm
  simp -implicitDefEqProofs only[go_sem,seval,hB,he,bL,Bool.true_or,Bool.or_true,Bool.or_false]
  exact hm.at hs'
 |true=>
  rw[he,Bool.true_and]at hm
  simp -implicitDefEqProofs only[go_sem,seval,hB,he,bL,Bool.true_or,Bool.or_true,Bool.or_false]
  refine⟨fun hl=>?_,fun hl=>?_⟩
  ·rw[show decide (64<=p.st.length)=true by have:=of_decide_eq_true hl;exact decide_eq_true (by omega),cond_true,bO]at hm
   exact hm.at hs'
  ·rw[show decide (64<=p.st.length)=false by have:=of_decide_eq_false hl;exact decide_eq_false (by omega),cond_false,bO]at hm
   exact hm.at hs'
end Go.AB
end
section
set_option maxRecDepth 16000
namespace Go.AB
open Go
open Go.Proofs.Tryz (prog)
attribute[-go_sem] Nat.add_zero mI cE cy cU bQ cw
theorem Rh{P:Program}{S O:Type}{body:S->Option (S⊕O)}{s0:S}{kf:O->Prop}{live:List (Nat×Bool)}{l:Nat}{r:IC}{Q:Exit->St->Prop}{E:St}(R:S->St->Prop)
 (h0:R s0 E)
 (hb:∀(J:St->Prop)(s:S)(τ:St),R s τ->ok (body s) (kF (fun t=>∀U',R t U'->J U') kf)->fD P r (Gq l live J Q) τ):ok (iter body s0) kf->Tz P l live r Q E:=by
 intro h
 have wP:∀τ,(∃m s,R s τ/\ok (ch body m s) kf)->∃m,(∃s,R s τ/\ok (ch body m s) kf)/\∀k,k<m->¬∃s,R s τ/\ok (ch body k s) kf:=by
  rintro τ ⟨m,s,h⟩
  induction m using Nat.strongRecOn generalizing s with
  |_ m ih=>
   by_cases hk:∃k,k<m/\∃s,R s τ/\ok (ch body k s) kf
   ·obtain⟨k,hk,s',h'⟩:=hk
    exact ih k hk s' h'
   ·exact⟨m,⟨s,h⟩,fun k hk' hs=>hk ⟨k,hk',hs⟩⟩
 have hμ:∃μ:St->Nat,∀τ,(∃m s,R s τ/\ok (ch body m s) kf)->(∃s,R s τ/\ok (ch body (μ τ) s) kf)/\∀k,k<μ τ->¬∃s,R s τ/\ok (ch body k s) kf:=⟨fun τ=>Classical.epsilon fun m=>(∃s,R s τ/\ok (ch body m s) kf)/\∀k,k<m->¬∃s,R s τ/\ok (ch body k s) kf,fun τ hτ=>Classical.epsilon_spec (wP τ hτ)⟩
 obtain⟨μ,hμ⟩:=hμ
 refine⟨fun τ=>∃m s,R s τ/\ok (ch body m s) kf,μ,⟨_,s0,h0,h⟩,?_⟩
 intro τ hτ
 obtain⟨⟨s,e,hs⟩,_⟩:=hμ τ hτ
 generalize hm:μ τ=m at hs
 cases m with
 |zero=>exact(qw hs).elim
 |succ m=>
  obtain⟨x,hx,k⟩:=qu hs
  refine hb _ s τ e ⟨x,hx,?_⟩
  cases x with
  |inr o=>exact k
  |inl t=>
   intro U' ht
   refine⟨⟨m,t,ht,k⟩,?_⟩
   have h2:=(hμ U' ⟨m,t,ht,k⟩).2
   rcases Nat.lt_or_ge m (μ U')with hlt|hge
   ·exact(h2 m hlt ⟨t,ht,k⟩).elim
   ·omega
theorem UZ{s0 s:ae}{B:Nat}{p:PS}{rr:cN}{ids:List (Nat×cN)}(h:qd s0 s B p rr ids){r:aF×Int}(hr:dI p.b p.at_ p.last=some r){Q:List AV->ae->Prop}
 (h0:(r.2 !=0)=false->∀s',qd s0 s' B {p with at_:=r.1.To} rr ids->Q [tA r.1,.int .i64 r.2] s')(h1:(r.2 !=0)=true->qd s0 s B p rr ids->Q [tA r.1,.int .i64 r.2] s):FN prog 160 [.ref B 0] s Q:=by
 refine tU (s_0:=⟨p.b,p.at_,p.last,iG rr p.st.length⟩) h.cell ?_
 unfold lE
 rw[j4]
 refine⟨r,hr,?_⟩
 cases he:(r.2==0)with
 |true=>
  simp only[he,if_true]
  exact⟨_,rfl,h0 (by unfold bne;rw[he];rfl) _ (h.place _)⟩
 |false=>
  simp only[he,Bool.false_eq_true,if_false]
  refine⟨_,rfl,?_⟩
  have:s.set B (.cells (jg p rr))=s:=bj h.cell
  show Q _ (s.set B (.cells (jg p rr)))
  rw[this]
  exact h1 (by unfold bne;rw[he];rfl) h
theorem X4{P:Program}{gQ:List (List Bool)}{ops f:List aq}{live:List Nat}{Q:Exit->St->Prop}{d:List Bool}{E:St}(C:St->Prop)
 (h1:∀K:St->Prop,(∀τ:St,C (τ.vp live)->K τ)->Pj P gQ ops K f d E)(h2:∀φ,C φ->Q .normal φ):Pj P gQ ops (yE live Q) f d E:=h1 _ fun τ h=>h2 _ h
theorem V3{E:St}{d:Option Nat}{K:St->Prop}{s s2:ae}{B:Nat}{p2:PS}{rr2:cN}{id:Nat×cN}{fL:List (Nat×cN)}{v:aX}{vs:List aX}(hσ:E.s=s2)(h2:qd s s2 B p2 rr2 (id::fL))(dZ:p2.st=v::vs)(bX:(v.l_.length+1)*56<=room)(x:ab)
 (hK:∀S3 rb cap sp,S3 rb=some (.cells (flat (v.l_++[zV])++sp))->S3 id.1=some (.cells [.bool v.fE,iG id.2 v.l_.length])->rb≠id.1->
   qd s ((S3.set rb (.cells (flat (v.l_++[x])++sp))).set id.1 (.cells [.bool v.fE,.arr rb 0 (v.l_.length+1) cap])) B {p2 with st:=⟨v.fE,v.l_++[x]⟩::vs} rr2 ((id.1,some (rb,cap,sp))::fL)->
   K ({E with s:=S3}.put d (.arr rb 0 (v.l_.length+1) cap))):
 dY 4 56 [.int .i64 0,.int .i64 0,.str [],.sl false 4 0 []] E d K (.arr (JA id.2) 0 v.l_.length (GS id.2)) (tV E.s 4 (.sl true 4 1 [.int .i64 0,.int .i64 0,.str [],.sl false 4 0 []])):=by
 obtain⟨F1,F2,H⟩:=h2
 rw[dZ]at F1 H
 have H1:Holds s s2 (nK id.2 v.l_++((id.1,Rw id.2 v)::((B,.cells (jg p2 rr2))::(nK rr2 (refs (id::fL).reverse)++zS fL vs)))):=by
  refine H.perm ?_
  refine(List.perm_middle (l₁:=(B,SO.cells (jg p2 rr2))::nK rr2 (refs (id::fL).reverse))).trans ?_
  refine((List.perm_append_comm_assoc ((B,SO.cells (jg p2 rr2))::nK rr2 (refs (id::fL).reverse)) (nK id.2 v.l_) (zS fL vs)).cons _).trans ?_
  exact List.perm_middle.symm
 obtain⟨sb,e,okr,Hb⟩:=H1.row F1.1
 rw[js]
 refine v7 (z:=zV) (v:=zV) (hσ.trans e) okr rfl bX fun s' r' hs' ok'=>?_
 obtain⟨rb,cap,sp,rfl⟩:=LC ok' (by simp)
 obtain⟨H3,f3⟩:=(Hb.sub hs').X0 ok'
 have hne:rb≠id.1:=by
  have:=H3.2.2
  intro he
  rw[he]at this
  simp[nK]at this
 refine hK _ rb cap sp H3.get (H3.mem (by simp[nK,Rw])) hne ?_
 have H4:=(Holds.set (o':=.cells (flat (v.l_++[x])++sp)) H3)
 have H5:=(Holds.set (o':=.cells [.bool v.fE,.arr rb 0 (v.l_.length+1) cap]) (H4.perm (List.Perm.swap ..)))
 have H6:=H5.perm (List.perm_append_comm_assoc [(id.1,SO.cells [.bool v.fE,.arr rb 0 (v.l_.length+1) cap]),(rb,.cells (flat (v.l_++[x])++sp))] ((B,SO.cells (jg p2 rr2))::nK rr2 (refs (id::fL).reverse)) (zS fL vs))
 have hlen:(v.l_++[x]).length=v.l_.length+1:=by simp
 have hl:Rw (some (rb,cap,sp)) ⟨v.fE,v.l_++[x]⟩=.cells [.bool v.fE,.arr rb 0 (v.l_.length+1) cap]:=by
  unfold Rw iG
  simp only[hlen]
  rfl
 have hp:jg {p2 with st:=⟨v.fE,v.l_++[x]⟩::vs} rr2=jg p2 rr2:=by
  unfold jg
  simp only[dZ,List.length_cons]
 have hrefs:refs ((id.1,(some (rb,cap,sp):cN))::fL).reverse=refs (id::fL).reverse:=by rw[pQ,pQ]
 refine⟨⟨?_,F1.2⟩,by rw[hrefs];exact F2,?_⟩
 ·obtain⟨g1,g2,g3,g4⟩:=f3
  refine⟨g1,by simpa using g2,?_,g4⟩
  rw[List.length_append,aA]at g3⊢
  simpa using g3
 ·rw[hp,hrefs]
  have:zS ((id.1,some (rb,cap,sp))::fL) (⟨v.fE,v.l_++[x]⟩::vs)=[(id.1,SO.cells [.bool v.fE,.arr rb 0 (v.l_.length+1) cap]),(rb,.cells (flat (v.l_++[x])++sp))]++zS fL vs:=by rw[<-hl];rfl
  show Holds s _ ((B,SO.cells (jg p2 rr2))::(nK rr2 _++zS ((id.1,some (rb,cap,sp))::fL) (⟨v.fE,v.l_++[x]⟩::vs)))
  rw[this]
  exact H6
theorem Tg{E:St}{d:Option Nat}{K:St->Prop}{s s2:ae}{B:Nat}{p2:PS}{rr2:cN}{id:Nat×cN}{fL:List (Nat×cN)}{v:aX}{vs:List aX}(hσ:E.s=s2)(h2:qd s s2 B p2 rr2 (id::fL))(dZ:p2.st=v::vs)(bX:(v.l_.length+1)*56<=room)(x:ab)
 (hK:∀S3 rb cap cs,S3 rb=some (.cells cs)->S3 id.1=some (.cells [.bool v.fE,iG id.2 v.l_.length])->(∀o,(S3.set rb o) id.1=some (.cells [.bool v.fE,iG id.2 v.l_.length]))->(∀o,(S3.set id.1 o) rb=some (.cells cs))->
   v.l_.length*4+4<=cs.length->
   (∃rr3 Gg,qd s ((S3.set rb (.cells (setAt cs (v.l_.length*4) [.int .i64 x.Kind,.int .i64 x.N,.str x.S.b,.sl false 4 x.L.length (flat x.L)]))).set id.1 (.cells [.bool v.fE,.arr rb 0 (v.l_.length+1) cap])) B {p2 with st:=⟨v.fE,v.l_++[x]⟩::vs} rr3 Gg)->
   (∃rr3 Gg,qd s ((S3.set id.1 (.cells [.bool v.fE,.arr rb 0 (v.l_.length+1) cap])).set rb (.cells (setAt cs (v.l_.length*4) [.int .i64 x.Kind,.int .i64 x.N,.str x.S.b,.sl false 4 x.L.length (flat x.L)]))) B {p2 with st:=⟨v.fE,v.l_++[x]⟩::vs} rr3 Gg)->
   K ({E with s:=S3}.put d (.arr rb 0 (v.l_.length+1) cap))):
 dY 4 56 [.int .i64 0,.int .i64 0,.str [],.sl false 4 0 []] E d K (.arr (JA id.2) 0 v.l_.length (GS id.2)) (tV E.s 4 (.sl true 4 1 [.int .i64 0,.int .i64 0,.str [],.sl false 4 0 []])):=by
 refine V3 hσ h2 dZ bX x fun S3 rb cap sp g1 g2 hne oK=>?_
 have hs:setAt (flat (v.l_++[zV])++sp) (v.l_.length*4) [.int .i64 x.Kind,.int .i64 x.N,.str x.S.b,.sl false 4 x.L.length (flat x.L)]=flat (v.l_++[x])++sp:=by
  have h:=mP (v.l_++[zV]) [x] sp 4 v.l_.length rfl (by simp)
  have hx:flat [x]=[.int .i64 x.Kind,.int .i64 x.N,.str x.S.b,.sl false 4 x.L.length (flat x.L)]:=by
   unfold flat
   simp only[List.map_cons,List.map_nil,List.flatten_cons,List.flatten_nil,List.append_nil]
   exact iD x
  rw[hx]at h
  rw[h]
  simp
 refine hK S3 rb cap _ g1 g2 (fun o=>?_) (fun o=>?_) ?_ ?_ ?_
 ·rw[<-g2];unfold ae.set;rw[if_neg (Ne.symm hne)]
 ·rw[<-g1];unfold ae.set;rw[if_neg hne]
 ·rw[List.length_append,aA]
  have:aP.w ab=4:=rfl
  rw[this]
  simp
  omega
 ·rw[hs];exact⟨_,_,oK⟩
 ·rw[hs,set_comm hne];exact⟨_,_,oK⟩
def pX(pf:List ab->Option (List ab×Int))(p:PS):Option (PS⊕(ab×Int×Int)):=
 bt (p.st.length<=64)<|
 bn (dI p.b p.at_ p.last) fun r1=>
 bif r1.2 !=0 then some (.inr (zV,0,r1.2))else
 bn (uG pf {p with at_:=r1.1.To} r1.1) fun r=>
 bif r.2.2.1 !=0 then some (.inr (zV,0,r.2.2.1))else
 bif !r.2.1 then some (.inl r.2.2.2)else
 bt (r.2.2.2.st.length<=64)<|match r.2.2.2.st with
 |[]=>some (.inr (r.1,r.2.2.2.at_,0))
 |v::vs=>bt ((v.l_.length+1)*56<=room)<|some (.inl {r.2.2.2 with st:=⟨v.fE,v.l_++[r.1]⟩::vs})
def qD(pf:List ab->Option (List ab×Int))(b:List UInt8)(a:Int)(last:Bool):Option (ab×Int×Int):=iter (pX pf) ⟨b,a,last,[]⟩
def zL:AV:=.loc [.int .i64 0,.int .i64 0,.str [],.sl true 4 0 []]
set_option maxHeartbeats 8000000 in
theorem Th{pf:List ab->Option (List ab×Int)}(hpf:vX pf){s:ae}{b:List UInt8}{a:Int}{last:Bool}{Q:List AV->ae->Prop}
 (hm:ok (qD pf b a last) fun r=>∀s',Sub s s'->Q [vA r.1,.int .i64 r.2.1,.int .i64 r.2.2] s'):FN prog 127 [.sl false 1 b.length (flat b),.int .i64 a,.bool last] s Q:=by
 have hr:room=140737488355328:=rfl
 unfold qD at hm
 refine FS 62 [⟨6,false,some (4,true)⟩,⟨7,true,none⟩,⟨8,true,none⟩] 0xaa2c6efaefc36da5817341a81b8b49641eaa79560a6fa27783151153a075e6fea9d4c4333e49ac64e749a65b9111ca36504a194d64db375a006339bbf1c42a4e044eda536178b525bb74353da9fcf8f97aaca9d6c9bc69c49a60680cb9b50fd552ed58bc4954219c249111d9b834b2daaa43658b39ecc834c0bf70bf43de235cea42aa3f14f9b5bae5842a4aa21e5e5d3f65f8b0c5c06985a18327d4e6cf88321ce638e8864ae610d85da590a9b5223282ae63c717c97816719821151f0b2757edf59b38ac25f6ecec6a2826d723c483974de3d6e9bb14f44524312475050dbedbe2516c7cb69b85b51a0ac860ba76de262498c6f12874c36a630daad56ba5dc4ef5107cf4f5ad3871354cacbb19e0e1b0ca1b8d514a2dfcdd7de32716960c3cdbea667e37a4f8216faeff06f3d6f20c4cd57f9e9678915d33529bb01e43a0e28fb574b002d9003cd1eb37e0092ef5c ?_
 simp -implicitDefEqProofs only[go_sem,Nat.reduceBEq,Nat.reduceAdd,Nat.reduceMul,Nat.reduceLeDiff,Nat.reduceEqDiff,Nat.reduceBNe,UInt8.reduceToNat,UInt32.reduceToNat]
 intro B hB
 refine Rh (fun(p:PS)(τ:St)=>∃s' rr ids,qd s s' B p rr ids/\τ=⟨[(6,zL),(9,.ref B 0)],[],s'⟩) ?_ ?_ hm
 ·refine⟨_,none,[],⟨trivial,rfl,(Holds.nil.alloc hB)⟩,rfl⟩
 ·rintro J p τ ⟨s',rr,ids,h,rfl⟩ hb
  unfold pX at hb
  rw[ir]at hb
  obtain⟨bX,hb⟩:=hb
  unfold zL
  simp -implicitDefEqProofs only[go_sem,Nat.reduceBEq,Nat.reduceAdd,Nat.reduceMul,Nat.reduceLeDiff,Nat.reduceEqDiff,Nat.reduceBNe,UInt8.reduceToNat,UInt32.reduceToNat]
  rw[j4]at hb
  obtain⟨r1,hr1,hb⟩:=hb
  refine UZ h hr1 (fun he s1 h1=>?_) (fun he h1=>?_)
  rotate_left
  ·rw[he,cond_true,bO]at hb
   unfold tA
   simp -implicitDefEqProofs only[go_sem,Nat.reduceBEq,Nat.reduceAdd,Nat.reduceMul,Nat.reduceLeDiff,Nat.reduceEqDiff,Nat.reduceBNe,UInt8.reduceToNat,UInt32.reduceToNat,he,bL]
   exact hb s' h.2.2.1
  ·rw[he,cond_false,j4]at hb
   obtain⟨r,hr2,hb⟩:=hb
   unfold tA
   simp -implicitDefEqProofs only[go_sem,Nat.reduceBEq,Nat.reduceAdd,Nat.reduceMul,Nat.reduceLeDiff,Nat.reduceEqDiff,Nat.reduceBNe,UInt8.reduceToNat,UInt32.reduceToNat,he,bL]
   refine VM hpf h1 bX ⟨r,hr2,fun he2 s2 h2=>?_,fun he2 s2 rr2 ag5 h2=>?_⟩
   ·have he3:(r.2.2.1 !=0)=true:=by simpa using he2
    rw[he3,cond_true,bO]at hb
    unfold vA
    simp -implicitDefEqProofs only[go_sem,Nat.reduceBEq,Nat.reduceAdd,Nat.reduceMul,Nat.reduceLeDiff,Nat.reduceEqDiff,Nat.reduceBNe,UInt8.reduceToNat,UInt32.reduceToNat,he3,bL]
    exact hb s2 h2
   ·have he3:(r.2.2.1 !=0)=false:=by simpa using he2
    rw[he3,cond_false]at hb
    unfold vA
    cases hi:r.2.1 with
    |false=>
     rw[hi,Bool.not_false,cond_true,bO]at hb
     simp -implicitDefEqProofs only[go_sem,Nat.reduceBEq,Nat.reduceAdd,Nat.reduceMul,Nat.reduceLeDiff,Nat.reduceEqDiff,Nat.reduceBNe,UInt8.reduceToNat,UInt32.reduceToNat,he3,hi,Bool.not_false,bL]
     exact hb _ ⟨s2,rr2,ag5,h2,rfl⟩
    |true=>
     rw[hi,Bool.not_true,cond_false]at hb
     simp -implicitDefEqProofs only[go_sem,Nat.reduceBEq,Nat.reduceAdd,Nat.reduceMul,Nat.reduceLeDiff,Nat.reduceEqDiff,Nat.reduceBNe,UInt8.reduceToNat,UInt32.reduceToNat,he3,hi,Bool.not_true,bL]
     rw[ir]at hb
     obtain⟨agV,hb⟩:=hb
     have hB2:=h2.cell
     unfold jg at hB2
     refine Hi h2 (by omega) (fun dZ=>?_) (fun id fL v vs KN dZ=>?_)
     ·rw[dZ]at hb
      simp only[bO]at hb
      simp -implicitDefEqProofs only[go_sem,Nat.reduceBEq,Nat.reduceAdd,Nat.reduceMul,Nat.reduceLeDiff,Nat.reduceEqDiff,Nat.reduceBNe,UInt8.reduceToNat,UInt32.reduceToNat,hB2,bL]
      exact hb s2 h2.2.2.1
     ·rw[dZ]at hb
      simp only[ir,bO]at hb
      obtain⟨YT,hb⟩:=hb
      simp -implicitDefEqProofs only[go_sem,Nat.reduceBEq,Nat.reduceAdd,Nat.reduceMul,Nat.reduceLeDiff,Nat.reduceEqDiff,Nat.reduceBNe,UInt8.reduceToNat,UInt32.reduceToNat,hB2,bL]
      subst KN
      have hlv:=h2.lv dZ
      unfold Rw at hlv
      have C1:∀φ:St,(∃s3 rr3 Gg,qd s s3 B {r.2.2.2 with st:=⟨v.fE,v.l_++[r.1]⟩::vs} rr3 Gg/\φ=⟨[(6,zL),(9,.ref B 0)],[],s3⟩)->J φ:=fun φ hφ=>hb φ hφ
      refine X4 (fun φ=>∃s3 rr3 Gg,qd s s3 B {r.2.2.2 with st:=⟨v.fE,v.l_++[r.1]⟩::vs} rr3 Gg/\φ=⟨[(6,zL),(9,.ref B 0)],[],s3⟩) ?_ ?_
      rotate_left
      ·rintro φ ⟨s3,rr3,Gg,h3,rfl⟩
       unfold zL
       simp -implicitDefEqProofs only[go_sem,Nat.reduceBEq,Nat.reduceAdd,Nat.reduceMul,Nat.reduceLeDiff,Nat.reduceEqDiff,Nat.reduceBNe,UInt8.reduceToNat,UInt32.reduceToNat]
       exact C1 _ ⟨s3,rr3,Gg,h3,rfl⟩
      ·intro K hK
       clear C1 hb
       repeat'(first|(simp only[cU,cy,bQ,cw,ua,vR,Bool.not_true,Bool.not_false,Bool.or_true,Bool.true_or,Bool.false_or,Bool.or_false,Bool.and_true,Bool.true_and,Bool.and_false,Bool.false_and,cond_true,cond_false,true_and,and_true];done)|with_reducible refine⟨?_,?_⟩|with_reducible exact trivial|(simp only[cU,cy,bQ,cw,ua,vR,Bool.not_true,Bool.not_false,Bool.or_true,Bool.true_or,Bool.false_or,Bool.or_false,Bool.and_true,Bool.true_and,Bool.and_false,Bool.false_and,cond_true,cond_false,true_and,and_true])|simp -implicitDefEqProofs only[go_sem,Nat.reduceBEq,Nat.reduceAdd,Nat.reduceMul,Nat.reduceLeDiff,Nat.reduceEqDiff,Nat.reduceBNe,UInt8.reduceToNat,UInt32.reduceToNat,hlv])
       all_goals
        refine Tg rfl h2 dZ YT r.1 (fun S3 rb cap cs g1 g2 q1 q2 hle f1 f2=>?_)
        obtain⟨ra,ia,f1⟩:=f1
        obtain⟨rz,iz,f2⟩:=f2
        repeat'(first|exact hK _ ⟨_,_,_,f1,rfl⟩|exact hK _ ⟨_,_,_,f2,rfl⟩|omega|(simp only[cU,cy,bQ,cw,ua,vR,Bool.not_true,Bool.not_false,Bool.or_true,Bool.true_or,Bool.false_or,Bool.or_false,Bool.and_true,Bool.true_and,Bool.and_false,Bool.false_and,cond_true,cond_false,true_and,and_true];done)|with_reducible refine⟨?_,?_⟩|with_reducible exact trivial|(simp only[cU,cy,bQ,cw,ua,vR,Bool.not_true,Bool.not_false,Bool.or_true,Bool.true_or,Bool.false_or,Bool.or_false,Bool.and_true,Bool.true_and,Bool.and_false,Bool.false_and,cond_true,cond_false,true_and,and_true])|simp -implicitDefEqProofs only[go_sem,Nat.reduceBEq,Nat.reduceAdd,Nat.reduceMul,Nat.reduceLeDiff,Nat.reduceEqDiff,Nat.reduceBNe,UInt8.reduceToNat,UInt32.reduceToNat,g1,g2,q1,q2])
end Go.AB
end
