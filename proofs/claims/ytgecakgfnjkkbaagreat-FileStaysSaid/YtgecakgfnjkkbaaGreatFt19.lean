/- A part. -/
import Derived.Test.YtgecakgfnjkkbaaGreatFt18
set_option linter.unusedSimpArgs false
set_option linter.unusedVariables false
section
set_option maxRecDepth 16000
namespace Go.AB
open Go
open Go.Proofs.Tryz (prog)
attribute[-go_sem] cy cU bQ cw
def bS(s_0:cc)(t_1:HT):Option (Int×cc):=
 if s_0.e_ !=0 then
  some (0,s_0)
 else
  bn (gJ t_1 s_0.Reader) fun r1=>
  bn (ay (cc.mk r1.2.2 s_0.e_) r1.2.1) fun r2=>
  some (r1.1,r2)
def gr:IC:=dec 0x7cbb44c5983d9fc2c8020c0fb0126e950d282ea6c6208fead82dc0c31a6ca51d38ba65dc968c3f15c5df401cc1063581d0568dba78b6a84f9e23cdff4dc10e152980c653980083fa
theorem jG:eH prog 267 25 [⟨4,true,none⟩] gr=true:=by kernel_rfl
theorem gq{s_0 t_1}{B0 B0_Reader:Nat}{preB0 postB0:List AV}{oB0:Nat}{s:ae}{Q:List AV->ae->Prop}(hB0:s B0=some (.cells (Wi preB0 [.ref B0_Reader 0,.int .i64 s_0.e_] postB0)))(cS:s B0_Reader=some (.cells (pZ s_0.Reader)))(eB0:preB0.length=oB0)(aa:B0≠B0_Reader)(va1:gF s t_1):ok (bS s_0 t_1) (fun r=>Q [.int .i64 r.1] ((s.set B0 (.cells (Wi preB0 [.ref B0_Reader 0,.int .i64 r.2.e_] postB0))).set B0_Reader (.cells (pZ r.2.Reader))))->FN prog 267 [.ref B0 oB0,.ref t_1.B 0] s Q:=by
 subst eB0
 rw[<-bj cS,<-bj hB0]
 intro h
 refine FO jG rfl rfl ?_
 revert h
 rw[gr,bS]
 conv in dec _=>reduce
 repeat'(first
  |(with_reducible first|exact dQ|refine cI ?_ ?_|refine er ?_|refine fun hh=>wQ (B1:=B0_Reader) (by simp -implicitDefEqProofs only[go_sem,seval,ai aa,ai aa.symm,set_comm aa]<;>simp only[an]) (gF.DG (by assumption) hB0 (by first|exact zk _ _ _ _ _|exact xi _ _ _ _|exact xj _ _ _) cS (by first|exact zk _ _ _ _ _|exact xi _ _ _ _|exact xj _ _ _) aa) (aK (show ok (gJ t_1 s_0.Reader) _ from hh) fun r1=>?_)|refine fun hh=>bz (B0:=B0) (B0_Reader:=B0_Reader) (preB0:=preB0) (postB0:=postB0) (by simp -implicitDefEqProofs only[go_sem,seval,ai aa,ai aa.symm,set_comm aa]<;>simp only[an]) (by simp -implicitDefEqProofs only[go_sem,seval,ai aa,ai aa.symm,set_comm aa]<;>simp only[an]) (by first|rfl|simp) aa (aK (show ok (ay (cc.mk r1.2.2 s_0.e_) r1.2.1) _ from hh) fun r2=>?_))
  |simp -implicitDefEqProofs only[go_sem,seval,ai aa,ai aa.symm,set_comm aa])
def gE(s_0:ak)(t_1:HT)(d_2:HT):Option (ak):=
 iter (fun(o1:ak)=>
  bn (bS o1.bd t_1) fun r3=>
  if(r3.2.e_ !=0)||(r3.1==256)then
   some (.inr (ak.mk r3.2 o1.gB o1.ft))
  else
   if decide (r3.1<256)then
    bn (cC (ak.mk r3.2 o1.gB o1.ft) (iM (r3.1))) fun r4=>
    some (.inl r4)
   else
    bn (eO r3.1) fun r5=>
    jn (
     if !r5.2.2 then
      bn (ay r3.2 11) fun r11=>
      some (ak.mk r11 o1.gB o1.ft)
     else
      some (ak.mk r3.2 o1.gB o1.ft)) fun(o10:ak)=>
    bn (aH o10.bd r5.2.1) fun r12=>
    bn (bS r12.2 d_2) fun r13=>
    bn (dG r13.1) fun r14=>
    jn (
     if !r14.2.2 then
      bn (ay r13.2 11) fun r21=>
      some (ak.mk r21 o10.gB o10.ft)
     else
      some (ak.mk r13.2 o10.gB o10.ft)) fun(o20:ak)=>
    bn (aH o20.bd r14.2.1) fun r22=>
    bn (dH (ak.mk r22.2 o20.gB o20.ft) (aC (r5.1+r12.1)) (aC (r14.1+r22.1))) fun r23=>
    some (.inl r23)) s_0
def im:IC:=dec 0x3efe2862f44c98b499f008808bfe1a0a215417f8297af57f378d5f22cb010cfdc2dcde8cdf0238a95c6e4816c0ad2e2bea97e3e15b9e7b5fffa96650f4ce1fe6b9b08519b1188b593c93ef4aa66e6afae59b26fa9eeeb83267b960b86b536927add01569a66d7b979c07b57e111538c83fd7ddec0ac18e18714c5b81fcc1d034c424268463caa6b5b72e6d76db36b0fe1f233c8c849db5d49e309dfa507d9eb9ea579dc0bf817096b53680eda0044d48114435509f7d15848209cc96ad221db5492dc522c4b6042c218d164df7b9e850a79570f051eb80c3916be07278f9e9eb62e83b426fd380c095b219d5e90c26a1cb411f8b7e9d5109c30465f83351a29b640cec5e0a5ecc48bc9ec9eca8735139
theorem kQ:eH prog 240 81 [] im=true:=by kernel_rfl
theorem qq{s_0 t_1 d_2}{B0 B0_Reader:Nat}{s:ae}{Q:List AV->ae->Prop}(hB0:s B0=some (.cells (CH B0_Reader s_0)))(cS:s B0_Reader=some (.cells (pZ s_0.bd.Reader)))(aa:B0≠B0_Reader)(va1:gF s t_1)(va2:gF s d_2):ok (gE s_0 t_1 d_2) (fun r=>Q [] ((s.set B0 (.cells (CH B0_Reader r))).set B0_Reader (.cells (pZ r.bd.Reader))))->FN prog 240 [.ref B0 0,.ref t_1.B 0,.ref d_2.B 0] s Q:=by
 rw[<-bj cS,<-bj hB0]
 intro h
 refine FO kQ rfl rfl ?_
 revert h
 rw[im,gE]
 conv in dec _=>reduce
 repeat'(first
  |(with_reducible first|exact dQ|refine cI ?_ ?_|refine er ?_|refine fun hh=>gq (B0:=B0) (B0_Reader:=B0_Reader) (preB0:=[]) (postB0:=(Fs o1)) (by simp -implicitDefEqProofs only[go_sem,seval,ai aa,ai aa.symm,set_comm aa]<;>simp only[an]) (by simp -implicitDefEqProofs only[go_sem,seval,ai aa,ai aa.symm,set_comm aa]<;>simp only[an]) (by first|rfl|simp) aa (gF.DG (by assumption) hB0 (by first|exact zk _ _ _ _ _|exact xi _ _ _ _|exact xj _ _ _) cS (by first|exact zk _ _ _ _ _|exact xi _ _ _ _|exact xj _ _ _) aa) (aK (show ok (bS o1.bd t_1) _ from hh) fun r3=>?_)|refine fun hh=>lT (B0:=B0) (B0_Reader:=B0_Reader) (by simp -implicitDefEqProofs only[go_sem,seval,ai aa,ai aa.symm,set_comm aa]<;>simp only[an]) (by simp -implicitDefEqProofs only[go_sem,seval,ai aa,ai aa.symm,set_comm aa]<;>simp only[an]) aa (aK (show ok (cC (ak.mk r3.2 o1.gB o1.ft) (iM (r3.1))) _ from hh) fun r4=>?_)|refine aQ (fun _(h:eO r3.1=some _)=>(kc wR h:)) (fun r5=>?_)|refine fun hh=>bz (B0:=B0) (B0_Reader:=B0_Reader) (preB0:=[]) (postB0:=(Fs o1)) (by simp -implicitDefEqProofs only[go_sem,seval,ai aa,ai aa.symm,set_comm aa]<;>simp only[an]) (by simp -implicitDefEqProofs only[go_sem,seval,ai aa,ai aa.symm,set_comm aa]<;>simp only[an]) (by first|rfl|simp) aa (aK (show ok (ay r3.2 11) _ from hh) fun r11=>?_)|refine fun hh=>bM (B0:=B0) (B0_Reader:=B0_Reader) (preB0:=[]) (postB0:=(Fs o10)) (by simp -implicitDefEqProofs only[go_sem,seval,ai aa,ai aa.symm,set_comm aa]<;>simp only[an]) (by simp -implicitDefEqProofs only[go_sem,seval,ai aa,ai aa.symm,set_comm aa]<;>simp only[an]) (by first|rfl|simp) aa (aK (show ok (aH o10.bd r5.2.1) _ from hh) fun r12=>?_)|refine fun hh=>gq (B0:=B0) (B0_Reader:=B0_Reader) (preB0:=[]) (postB0:=(Fs o10)) (by simp -implicitDefEqProofs only[go_sem,seval,ai aa,ai aa.symm,set_comm aa]<;>simp only[an]) (by simp -implicitDefEqProofs only[go_sem,seval,ai aa,ai aa.symm,set_comm aa]<;>simp only[an]) (by first|rfl|simp) aa (gF.DG (by assumption) hB0 (by first|exact zk _ _ _ _ _|exact xi _ _ _ _|exact xj _ _ _) cS (by first|exact zk _ _ _ _ _|exact xi _ _ _ _|exact xj _ _ _) aa) (aK (show ok (bS r12.2 d_2) _ from hh) fun r13=>?_)|refine aQ (fun _(h:dG r13.1=some _)=>(kc tM h:)) (fun r14=>?_)|refine fun hh=>bz (B0:=B0) (B0_Reader:=B0_Reader) (preB0:=[]) (postB0:=(Fs o10)) (by simp -implicitDefEqProofs only[go_sem,seval,ai aa,ai aa.symm,set_comm aa]<;>simp only[an]) (by simp -implicitDefEqProofs only[go_sem,seval,ai aa,ai aa.symm,set_comm aa]<;>simp only[an]) (by first|rfl|simp) aa (aK (show ok (ay r13.2 11) _ from hh) fun r21=>?_)|refine fun hh=>bM (B0:=B0) (B0_Reader:=B0_Reader) (preB0:=[]) (postB0:=(Fs o20)) (by simp -implicitDefEqProofs only[go_sem,seval,ai aa,ai aa.symm,set_comm aa]<;>simp only[an]) (by simp -implicitDefEqProofs only[go_sem,seval,ai aa,ai aa.symm,set_comm aa]<;>simp only[an]) (by first|rfl|simp) aa (aK (show ok (aH o20.bd r14.2.1) _ from hh) fun r22=>?_)|refine fun hh=>pC (B0:=B0) (B0_Reader:=B0_Reader) (by simp -implicitDefEqProofs only[go_sem,seval,ai aa,ai aa.symm,set_comm aa]<;>simp only[an]) (by simp -implicitDefEqProofs only[go_sem,seval,ai aa,ai aa.symm,set_comm aa]<;>simp only[an]) aa (aK (show ok (dH (ak.mk r22.2 o20.gB o20.ft) (aC (r5.1+r12.1)) (aC (r14.1+r22.1))) _ from hh) fun r23=>?_))
  |((with_reducible refine eJ (live:=[(0,false),(1,false),(2,false),(7,false),(8,false)]) (fun(o10:ak)=>⟨[(0,.ref B0 0),(1,.ref t_1.B 0),(2,.ref d_2.B 0),(7,.int .i64 r5.1),(8,.int .i64 r5.2.1)],[],((s.set B0 (.cells (CH B0_Reader o10))).set B0_Reader (.cells (pZ o10.bd.Reader)))⟩) (fun J=>?_) ?_);rotate_left;rintro o10)
  |((with_reducible refine eJ (live:=[(0,false),(1,false),(2,false),(7,false),(10,false),(11,false)]) (fun(o20:ak)=>⟨[(0,.ref B0 0),(1,.ref t_1.B 0),(2,.ref d_2.B 0),(7,.int .i64 (aC (r5.1+r12.1))),(10,.int .i64 r14.1),(11,.int .i64 r14.2.1)],[],((s.set B0 (.cells (CH B0_Reader o20))).set B0_Reader (.cells (pZ o20.bd.Reader)))⟩) (fun J=>?_) ?_);rotate_left;rintro o20)
  |((with_reducible refine wX (fun(o1:ak)=>⟨[(0,.ref B0 0),(1,.ref t_1.B 0),(2,.ref d_2.B 0)],[],((s.set B0 (.cells (CH B0_Reader o1))).set B0_Reader (.cells (pZ o1.bd.Reader)))⟩) ?_ ?_);(first|exact rfl|simp -implicitDefEqProofs only[go_sem,seval,ai aa,ai aa.symm,set_comm aa]);rintro J o1)
  |simp -implicitDefEqProofs only[go_sem,seval,ai aa,ai aa.symm,set_comm aa])
def eu(s_0:ak)(t_1:HT)(n_2:Int):Option ((List Int)×ak):=
 iter (fun((tT,o2):(List Int)×ak)=>
  if((tT.length:Int)==n_2)||(o2.bd.e_ !=0)then
   some (.inr (tT,o2))
  else
   bn (bS o2.bd t_1) fun r5=>
   Dt (
    if r5.1==16 then
     if(tT.length:Int)==0 then
      bn (ay r5.2 11) fun r16=>
      some (.inr (ak.mk r16 o2.gB o2.ft))
     else
      bt (0<=aC ((tT.length:Int) -1)/\aC ((tT.length:Int) -1)<tT.length)<|
      bn (aH r5.2 2) fun r17=>
      some (.inl (ix tT (aC ((tT.length:Int) -1)),aC (r17.1+3),(ak.mk r17.2 o2.gB o2.ft)))
    else
     if r5.1==17 then
      bn (aH r5.2 3) fun r18=>
      some (.inl (0,aC (r18.1+3),(ak.mk r18.2 o2.gB o2.ft)))
     else
      if r5.1==18 then
       bn (aH r5.2 7) fun r19=>
       some (.inl (0,aC (r19.1+11),(ak.mk r19.2 o2.gB o2.ft)))
      else
       some (.inl (r5.1,1,(ak.mk r5.2 o2.gB o2.ft)))) (fun((x9,tx,o11):Int×Int×ak)=>
    if decide (tx>aC (n_2 -(tT.length:Int)))then
     bn (ay o11.bd 11) fun r20=>
     some (.inl (tT,(ak.mk r20 o11.gB o11.ft)))
    else
     jn (
      iter (fun((oq,t26):(List Int)×Int)=>
       if decide (t26<tx)then
        bt ((oq.length+[x9].length)*8<=room)<|
        some (.inl (oq++[x9],aC (t26+1)))
       else
        some (.inr oq)) (tT,0)) fun(EJ:(List Int))=>
     some (.inl (EJ,o11)))
   (fun(o15:ak)=>some (.inl (tT,o15)))) (([]:List Int),s_0)
def gu:IC:=dec 0x1f8717efe01a160c9e6d4a23edd9b226cdb00cab023849359583d55394a99f6b91cb39653a0fd91a7e761ea8bad0bc1f3082970d5e8351686ddb78b48ec8f6194f554dc96cc9072ade3026fdaed561a775cfb5f791bbc1dad68ef4f2bc305ff30824839a0aeb3b339c9947e204f0d390225c89e7c15bfa6bd67dbe5bf837959c13598c76666cf382370b37641dece747e47587d09d99bb0ee66b0f57a196c5a7f03f654a1f202c30d43cb5fc835cd2679ea53511f8d4ac036dedaf95f01bd054ea6e9ba71db657f5cefe046aa52f8d27c81f28c3c9f076fff3e385b8a28de8b289e3f6347911b0dde55cb11596e9d50b8ad49319dd4af8b7aba0f4ea9615140b1a6c0a60f6545274fcaedf3075595ee0f4c98c02a8aa9f95d69399ddc69261dfb3af2d415c866c9ab97ca9496a1f7d44226ec5303e39469d2a96ae7f0e6b9e6f481b62f31a395dc51adb86dcd8d63f8dd0518d559da78aa83fe29a0b8b804651034825e1eb4cbbe81ee4f58c1e1f1e381c9157faff12cd9bdb80592ec8d0f320ba
theorem jH:eH prog 273 81 [⟨6,true,none⟩] gu=true:=by kernel_rfl
theorem oM{s_0 t_1 n_2}{B0 B0_Reader:Nat}{s:ae}{Q:List AV->ae->Prop}(hB0:s B0=some (.cells (CH B0_Reader s_0)))(cS:s B0_Reader=some (.cells (pZ s_0.bd.Reader)))(aa:B0≠B0_Reader)(va1:gF s t_1):ok (eu s_0 t_1 n_2) (fun r=>Q [sT 1 r.1] ((s.set B0 (.cells (CH B0_Reader r.2))).set B0_Reader (.cells (pZ r.2.bd.Reader))))->FN prog 273 [.ref B0 0,.ref t_1.B 0,.int .i64 n_2] s Q:=by
 rw[<-bj cS,<-bj hB0]
 intro h
 refine FO jH rfl rfl ?_
 revert h
 rw[gu,eu]
 conv in dec _=>reduce
 repeat'(first
  |(with_reducible first|exact dQ|refine cI ?_ ?_|refine er ?_|refine fun hh=>gq (B0:=B0) (B0_Reader:=B0_Reader) (preB0:=[]) (postB0:=(Fs o2)) (by simp -implicitDefEqProofs only[go_sem,seval,ai aa,ai aa.symm,set_comm aa]<;>simp only[an]) (by simp -implicitDefEqProofs only[go_sem,seval,ai aa,ai aa.symm,set_comm aa]<;>simp only[an]) (by first|rfl|simp) aa (gF.DG (by assumption) hB0 (by first|exact zk _ _ _ _ _|exact xi _ _ _ _|exact xj _ _ _) cS (by first|exact zk _ _ _ _ _|exact xi _ _ _ _|exact xj _ _ _) aa) (aK (show ok (bS o2.bd t_1) _ from hh) fun r5=>?_)|refine fun hh=>bz (B0:=B0) (B0_Reader:=B0_Reader) (preB0:=[]) (postB0:=(Fs o2)) (by simp -implicitDefEqProofs only[go_sem,seval,ai aa,ai aa.symm,set_comm aa]<;>simp only[an]) (by simp -implicitDefEqProofs only[go_sem,seval,ai aa,ai aa.symm,set_comm aa]<;>simp only[an]) (by first|rfl|simp) aa (aK (show ok (ay r5.2 11) _ from hh) fun r16=>?_)|refine fun hh=>bM (B0:=B0) (B0_Reader:=B0_Reader) (preB0:=[]) (postB0:=(Fs o2)) (by simp -implicitDefEqProofs only[go_sem,seval,ai aa,ai aa.symm,set_comm aa]<;>simp only[an]) (by simp -implicitDefEqProofs only[go_sem,seval,ai aa,ai aa.symm,set_comm aa]<;>simp only[an]) (by first|rfl|simp) aa (aK (show ok (aH r5.2 2) _ from hh) fun r17=>?_)|refine fun hh=>bM (B0:=B0) (B0_Reader:=B0_Reader) (preB0:=[]) (postB0:=(Fs o2)) (by simp -implicitDefEqProofs only[go_sem,seval,ai aa,ai aa.symm,set_comm aa]<;>simp only[an]) (by simp -implicitDefEqProofs only[go_sem,seval,ai aa,ai aa.symm,set_comm aa]<;>simp only[an]) (by first|rfl|simp) aa (aK (show ok (aH r5.2 3) _ from hh) fun r18=>?_)|refine fun hh=>bM (B0:=B0) (B0_Reader:=B0_Reader) (preB0:=[]) (postB0:=(Fs o2)) (by simp -implicitDefEqProofs only[go_sem,seval,ai aa,ai aa.symm,set_comm aa]<;>simp only[an]) (by simp -implicitDefEqProofs only[go_sem,seval,ai aa,ai aa.symm,set_comm aa]<;>simp only[an]) (by first|rfl|simp) aa (aK (show ok (aH r5.2 7) _ from hh) fun r19=>?_)|refine fun hh=>bz (B0:=B0) (B0_Reader:=B0_Reader) (preB0:=[]) (postB0:=(Fs o11)) (by simp -implicitDefEqProofs only[go_sem,seval,ai aa,ai aa.symm,set_comm aa]<;>simp only[an]) (by simp -implicitDefEqProofs only[go_sem,seval,ai aa,ai aa.symm,set_comm aa]<;>simp only[an]) (by first|rfl|simp) aa (aK (show ok (ay o11.bd 11) _ from hh) fun r20=>?_))
  |((with_reducible refine fF (live:=[(0,false),(1,false),(2,false),(7,false),(8,false),(9,false)]) (fun((x9,tx,o11):Int×Int×ak)=>⟨[(0,.ref B0 0),(1,.ref t_1.B 0),(2,.int .i64 n_2),(7,sT 1 tT),(8,.int .i64 x9),(9,.int .i64 tx)],[],((s.set B0 (.cells (CH B0_Reader o11))).set B0_Reader (.cells (pZ o11.bd.Reader)))⟩) (fun J=>?_) ?_);rotate_left;rintro⟨x9,tx,o11⟩)
  |((with_reducible refine ed (fun((oq,t26):(List Int)×Int)=>⟨[(0,.ref B0 0),(1,.ref t_1.B 0),(2,.int .i64 n_2),(7,sT 1 oq),(8,.int .i64 x9),(73,.int .i64 tx),(74,.int .i64 t26)],[],((s.set B0 (.cells (CH B0_Reader o11))).set B0_Reader (.cells (pZ o11.bd.Reader)))⟩) ?_ ?_);(first|exact rfl|simp -implicitDefEqProofs only[go_sem,seval,ai aa,ai aa.symm,set_comm aa]);rintro J ⟨oq,t26⟩)
  |((with_reducible refine eJ (live:=[(0,false),(1,false),(2,false),(7,false)]) (fun(EJ:(List Int))=>⟨[(0,.ref B0 0),(1,.ref t_1.B 0),(2,.int .i64 n_2),(7,sT 1 EJ)],[],((s.set B0 (.cells (CH B0_Reader o11))).set B0_Reader (.cells (pZ o11.bd.Reader)))⟩) (fun J=>?_) ?_);rotate_left;rintro EJ)
  |((with_reducible refine wX (fun((tT,o2):(List Int)×ak)=>⟨[(0,.ref B0 0),(1,.ref t_1.B 0),(2,.int .i64 n_2),(7,sT 1 tT)],[],((s.set B0 (.cells (CH B0_Reader o2))).set B0_Reader (.cells (pZ o2.bd.Reader)))⟩) ?_ ?_);(first|exact rfl|simp -implicitDefEqProofs only[go_sem,seval,ai aa,ai aa.symm,set_comm aa]);rintro J ⟨tT,o2⟩)
  |simp -implicitDefEqProofs only[go_sem,seval,ai aa,ai aa.symm,set_comm aa])
end Go.AB
end
section
set_option maxRecDepth 4000
namespace Go.AB
open Go
open Go.Proofs.Tryz (prog)
attribute[-go_sem] Nat.add_zero mI cE cy cU bQ cw
end Go.AB
end
section
set_option maxRecDepth 4000
namespace Go.AB
open Go
open Go.Proofs.Tryz (prog)
attribute[-go_sem] cy cU bQ cw
end Go.AB
end
section
namespace Go.AB
open Go
theorem SZ(l:List Int)(B:List Bool):∀(f n c:Nat),1<=n->n -1<=B.length->(JZ l B f n c).2.1<=B.length/\((JZ l B f n c).2.2=0->n<=(JZ l B f n c).2.1)/\0<=(JZ l B f n c).1/\(JZ l B f n c).1<=l.length/\((JZ l B f n c).2.2≠0->(JZ l B f n c).1=0)/\(JZ l B f n c).2.1<n+f
 |0,n,c,h,h2=>by rw[JZ];grind
 |f+1,n,c,h,h2=>by
  rw[JZ]
  split
  ·grind
  ·cases hx:B[n -1]? with
   |none=>grind
   |some x=>
    have hlt:=(List.getElem?_eq_some_iff.1 hx).1
    simp
    generalize 2*c+(if x then 1 else 0)=c'
    split
    ·rename_i hin
     refine⟨by grind,fun _=>Nat.le_refl _,?_,?_,fun e=>absurd rfl e,by grind⟩
     ·have:=Hg l 0 _ (List.getElem_mem hin)
      grind
     ·have:=Hg l 0 _ (List.getElem_mem hin)
      grind
    ·have ih:=SZ l B f (n+1) c' (by simp) (by omega)
     exact⟨ih.1,fun e=>by omega,ih.2.2.1,ih.2.2.2.1,ih.2.2.2.2.1,by grind⟩
theorem aeP(l:List Int)(B:List Bool):(tk l B).2.1<=B.length/\((tk l B).2.2=0->1<=(tk l B).2.1)/\0<=(tk l B).1/\(tk l B).1<=l.length/\((tk l B).2.2≠0->(tk l B).1=0)/\(tk l B).2.1<16:=SZ l B 15 1 0 (Nat.le_refl _) (Nat.zero_le _)
def gR(B:List Bool)(l:List Int)(s:ZS):Int×ZS:=if s.e≠0 then(0,s)else((tk l (B.drop s.at_)).1,{s with at_:=s.at_+(tk l (B.drop s.at_)).2.1,e:=(tk l (B.drop s.at_)).2.2})
def z6(most:Int)(x:UInt8)(s:ZS):ZS:=if s.e≠0 then s else if(s.out.length:Int)>=most then{s with e:=3}else{s with out:=s.out++[x]}
def DK(B:List Bool)(most:Int):Nat->ZS->ZS
 |0,s=>s
 |k+1,s=>if s.e≠0 then s else DK B most k (z6 most (iM (aB B 8 s).1) (aB B 8 s).2)
def tW(B:List Bool)(s:ZS):Int×ZS:=
 let r:=aB B 16 {s with at_:=(s.at_+7)/8*8}
 let q:=aB B 16 r.2
 (r.1,if q.1≠65535 -r.1 then q.2.fail 11 else q.2)
def Cj(B:List Bool)(most:Int)(s:ZS):ZS:=DK B most (tW B s).1.toNat (tW B s).2
section
variable{b:List UInt8}{most:Int}
theorem tv{l:List Int}{s:ZS}(ha:s.at_<=8*b.length):(gR (ah b) l s).2.at_<=8*b.length/\s.at_<=(gR (ah b) l s).2.at_/\0<=(gR (ah b) l s).1/\(gR (ah b) l s).1<=l.length/\(gR (ah b) l s).2.out=s.out/\((gR (ah b) l s).2.e=0->s.e=0/\s.at_<(gR (ah b) l s).2.at_)/\((gR (ah b) l s).2.e≠0->(gR (ah b) l s).1=0):=by
 have hl:=sG b
 have ht:=aeP l ((ah b).drop s.at_)
 unfold gR
 grind
theorem ZQ(hb:b.length<576460752303423488){l:List Int}(hl:Du l)(K:Nat){s:ZS}(ha:s.at_<=8*b.length):bS (EZ b s) ⟨K,l⟩=some ((gR (ah b) l s).1,EZ b (gR (ah b) l s).2):=by
 unfold bS gR
 by_cases he:s.e=0
 ·rw[if_neg (by grind),ad2 hb hl K ha]
  show bn (ay (EZ b {s with at_:=s.at_+(tk l ((ah b).drop s.at_)).2.1}) _) _=_
  rw[qY]
  simp[ZS.fail,he]
 grind
theorem ad0{s:ZS}(he:s.e=0)(hm:most<=16777216)(x:UInt8):cC (oW b most s) x=some (oW b most (z6 most x s)):=by
 have bX:room=140737488355328:=rfl
 unfold cC z6
 rw[if_neg (c:=s.e≠0) (by omega)]
 by_cases h:s.out.length>=most
 ·grind [qY,aJ,ZS.fail]
 ·rw[if_neg (by grind),if_neg h,bK (by grind)]
theorem GJ{x:UInt8}{s:ZS}:(z6 most x s).at_=s.at_/\((z6 most x s).e=0->s.e=0):=by
 unfold z6
 grind
theorem age(n:Nat)(h:n<4611686018427387904):aC (vZ .i64 (aC ((n:Int)+7)) 7)=(((n+7)/8*8:Nat):Int):=by
 rw[ar (n:=(n:Int)+7) (by omega) (by omega)]
 have e:vZ .i64 ((n:Int)+7) 7=(((n+7)/8*8:Nat):Int):=by
  rw[show(n:Int)+7=((n+7:Nat):Int) by omega]
  have hm:n+7<2^64:=by omega
  generalize n+7=m at*
  unfold vZ
  show(((BitVec.ofNat 64 m&&& ~~~BitVec.ofNat 64 7).toNat:Nat):Int)=_
  congr 1
  refine Nat.eq_of_testBit_eq fun i=>?_
  have e8:m/8*8=(m>>>3)<<<3:=by rw[Nat.shiftRight_eq_div_pow,Nat.shiftLeft_eq]
  rw[e8,Nat.testBit_shiftLeft,Nat.testBit_shiftRight,BitVec.testBit_toNat,BitVec.getLsbD_and,BitVec.getLsbD_not,BitVec.getLsbD_ofNat,BitVec.getLsbD_ofNat]
  rw[show(7:Nat)=2^3 -1 from rfl,Nat.testBit_two_pow_sub_one]
  by_cases h64:i<64
  ·grind
  ·have:m.testBit i=false:=Nat.testBit_lt_two_pow (Nat.lt_of_lt_of_le hm (Nat.pow_le_pow_right (by decide) (by omega)))
   grind
 grind [ar]
theorem ahR(m:Int)(h0:0<=m)(h:m<65536):aC (We .i64 m 65535)=65535 -m:=by
 obtain⟨m,rfl⟩:=Int.eq_ofNat_of_zero_le h0
 have hm:m<2^16:=by omega
 have e:We .i64 (m:Int) 65535=((2^16 -(m+1):Nat)):=by
  show(((BitVec.ofNat 64 m^^^BitVec.ofNat 64 65535).toNat):Int)=_
  congr 1
  refine Nat.eq_of_testBit_eq fun i=>?_
  rw[Nat.testBit_two_pow_sub_succ hm,BitVec.testBit_toNat,BitVec.getLsbD_xor,BitVec.getLsbD_ofNat,BitVec.getLsbD_ofNat,show 65535=2^16 -1 from rfl,Nat.testBit_two_pow_sub_one]
  by_cases h16:i<16
  ·grind
  ·have:m.testBit i=false:=Nat.testBit_lt_two_pow (Nat.lt_of_lt_of_le hm (Nat.pow_le_pow_right (by simp) (by omega)))
   grind
 grind [ar]
theorem He{s:ZS}(ha:s.at_<=8*b.length):(tW (ah b) s).2.at_<=8*b.length/\(s.at_+7)/8*8<=(tW (ah b) s).2.at_/\0<=(tW (ah b) s).1/\(tW (ah b) s).1<65536:=by grind [dy,aB,ah,tW,ZS.fail]
theorem Xr(hb:b.length<576460752303423488)(hM:most<=16777216):∀(k:Nat)(s:ZS),k<65536->s.at_<=8*b.length->∀m,k+1<=m->ch (fun((n7,o8):Int×ak)=>
 if(decide (n7>0))&&(o8.bd.e_==0)then
  jn (
   bn (aH o8.bd 8) fun r12=>
   if r12.2.e_==0 then
    bn (cC (ak.mk r12.2 o8.gB o8.ft) (iM (r12.1))) fun r13=>
    some r13
   else
    some (ak.mk r12.2 o8.gB o8.ft)) fun(o11:ak)=>
  some (.inl (aC (n7 -1),o11))
 else
  some (.inr o8)) m ((k:Int),oW b most s)=some (oW b most (DK (ah b) most k s))
 |0,s,_,_,m,hm=>by
  obtain⟨j,rfl⟩:∃j,m=j+1:=⟨m -1,by omega⟩
  rfl
 |k+1,s,hk,ha,m,hm=>by
  obtain⟨j,rfl⟩:∃j,m=j+1:=⟨m -1,by omega⟩
  rw[ch,DK]
  by_cases he:s.e=0
  ·rw[if_neg (by simp[he])]
   have hn:=dy (b:=b) (n:=8) ha
   have hp:=GJ (most:=most) (x:=iM (aB (ah b) 8 s).1) (s:=(aB (ah b) 8 s).2)
   have hN:=Ln hb (n:=8) (by decide) ha
   rw[show((8:Nat):Int)=8 from rfl]at hN
   have QP:=hn.2.2.2.2.1
   simp only[if_pos (show(decide (((k+1:Nat):Int)>0)&&(s.e==0))=true by simp[he])]
   rw[hN]
   generalize aB (ah b) 8 s=r at*
   rw[aJ]
   have dZ:ak.mk (EZ b r.2) s.out most=oW b most r.2:=by rw[<-QP]
   have e:(if(r.2.e==0)=true then bn (cC (ak.mk (EZ b r.2) s.out most) (iM r.1)) fun r13=>some r13 else some (ak.mk (EZ b r.2) s.out most))=some (oW b most (z6 most (iM r.1) r.2)):=by
    rw[dZ]
    by_cases hr:r.2.e=0
    ·rw[if_pos (by simp[hr]),ad0 hr hM,aJ]
    ·unfold z6
     grind
   simp only[e,Gr]
   rw[ar (by omega) (by omega),show((k+1:Nat):Int) -1=(k:Int) by omega]
   exact Xr hb hM k _ (by omega) (by grind) j (by omega)
  grind
theorem Vc(hb:b.length<576460752303423488)(hM:most<=16777216){s:ZS}(ha:s.at_<=8*b.length):fY (oW b most s)=some (oW b most (Cj (ah b) most s)):=by
 have hH:=He ha
 have ha1:({s with at_:=(s.at_+7)/8*8}).at_<=8*b.length:=by grind
 have h1:=dy (n:=16) ha1
 have h2:=dy (n:=16) h1.1
 unfold fY fT bH Cj
 simp only[aJ,Bool.false_or,Bool.not_true,Bool.not_false,if_true]
 rw[age _ (by omega)]
 have hN:=Ln hb (n:=16) (by simp) ha1
 have hN2:=Ln hb (n:=16) (by simp) h1.1
 refine ag hN ?_
 refine ey (a:=oW b most (tW (ah b) s).2) (ag hN2 ?_) ?_
 ·have hx:=ahR (aB (ah b) 16 (aB (ah b) 16 {s with at_:=(s.at_+7)/8*8}).2).1 h2.2.2.1 h2.2.2.2.1
  have ho:s.out=(aB (ah b) 16 (aB (ah b) 16 {s with at_:=(s.at_+7)/8*8}).2).2.out:=by grind
  unfold tW
  simp
  generalize aB (ah b) 16 (aB (ah b) 16 {s with at_:=(s.at_+7)/8*8}).2=q at*
  generalize aB (ah b) 16 {s with at_:=(s.at_+7)/8*8}=r at*
  by_cases hq:q.1≠65535 -r.1
  ·rw[qY,aJ]
   grind [ZS.fail]
  grind
 ·have:=Xr hb hM (tW (ah b) s).1.toNat (tW (ah b) s).2 (by omega) hH.1 18446744073709551616 (by omega)
  rw[show(((tW (ah b) s).1.toNat):Int)=(tW (ah b) s).1 by omega]at this
  exact this
theorem Np:∀(k:Nat)(s:ZS),s.at_<=8*b.length->(DK (ah b) most k s).at_<=8*b.length/\s.at_<=(DK (ah b) most k s).at_/\((DK (ah b) most k s).e=0->s.e=0)
 |0,s,h=>⟨h,Nat.le_refl _,fun h=>h⟩
 |k+1,s,h=>by
  rw[DK]
  split
  ·grind
  ·have hn:=dy (n:=8) h
   have hp:=GJ (most:=most) (x:=iM (aB (ah b) 8 s).1) (s:=(aB (ah b) 8 s).2)
   have ih:=Np k (z6 most (iM (aB (ah b) 8 s).1) (aB (ah b) 8 s).2) (by grind)
   exact⟨ih.1,by omega,fun e=>(hn.2.2.2.2.2 (hp.2 (ih.2.2 e))).1⟩
theorem VO{s:ZS}(ha:s.at_<=8*b.length):(Cj (ah b) most s).at_<=8*b.length/\s.at_<=(Cj (ah b) most s).at_:=by grind [He,Np,tW,ah,Cj]
end
theorem M5{k n:Nat}(h:k<=n):(2:Int)^k<=2^n:=by
 have:=Nat.pow_le_pow_right (n:=2) (by simp) h
 grind
def jY(x:Int):Int×Int×Bool:=if x<257\/x>285 then(0,0,false)else(eO x).getD (0,0,false)
def iR(x:Int):Int×Int×Bool:=if x<0\/x>29 then(0,0,false)else(dG x).getD (0,0,false)
theorem MX(x:Int):eO x=some (jY x)/\qG x=some (jY x)/\0<=(jY x).1/\(jY x).1<=258/\0<=(jY x).2.1/\(jY x).2.1<=5:=by
 by_cases h:x<257\/x>285
 ·unfold jY eO qG
  grind
 ·have hk:∃k:Nat,k<29/\x=257+k:=⟨(x -257).toNat,by omega,by omega⟩
  obtain⟨k,hk,rfl⟩:=hk
  have:=List.all_eq_true.1 (show((List.range 29).all fun k=>decide (eO (257+k)=some (jY (257+k))/\qG (257+k)=some (jY (257+k))/\0<=(jY (257+k)).1/\(jY (257+k)).1<=258/\0<=(jY (257+k)).2.1/\(jY (257+k)).2.1<=5))=true by decide+kernel) k (List.mem_range.2 hk)
  grind
theorem TY(x:Int):dG x=some (iR x)/\nJ x=some (iR x)/\0<=(iR x).1/\(iR x).1<=32768/\0<=(iR x).2.1/\(iR x).2.1<=13/\((iR x).2.2=true->1<=(iR x).1):=by
 by_cases h:x<0\/x>29
 ·unfold iR dG nJ
  grind
 ·have hk:∃k:Nat,k<30/\x=k:=⟨x.toNat,by omega,by omega⟩
  obtain⟨k,hk,rfl⟩:=hk
  have:=List.all_eq_true.1 (show((List.range 30).all fun k=>decide (dG k=some (iR k)/\nJ k=some (iR k)/\0<=(iR k).1/\(iR k).1<=32768/\0<=(iR k).2.1/\(iR k).2.1<=13/\((iR k).2.2=true->1<=(iR k).1)))=true by decide+kernel) k (List.mem_range.2 hk)
  grind
def GR:Nat->Int->List UInt8->List UInt8
 |0,_,o=>o
 |k+1,far,o=>GR k far (o++[ix o ((o.length:Int) -far)])
theorem Ju:∀(k:Nat)(far:Int)(o:List UInt8),(GR k far o).length=o.length+k
 |0,_,_=>rfl
 |k+1,far,o=>by rw[GR,Ju k];simp;omega
def LA(most len far:Int)(s:ZS):ZS:=if s.e≠0 then s else if far>s.out.length then{s with e:=14}else if len>most -s.out.length then{s with e:=3}else{s with out:=GR len.toNat far s.out}
def PZ(B:List Bool)(most:Int)(ld:List Int)(r:Int×ZS):ZS:=
 let m:=aB B (jY r.1).2.1.toNat (if(jY r.1).2.2 then r.2 else r.2.fail 11)
 let y:=gR B ld m.2
 let q:=aB B (iR y.1).2.1.toNat (if(iR y.1).2.2 then y.2 else y.2.fail 11)
 LA most ((jY r.1).1+m.1) ((iR y.1).1+q.1) q.2
def rG(B:List Bool)(most:Int)(lt ld:List Int)(s:ZS):Bool×ZS:=
 let r:=gR B lt s
 if r.2.e≠0\/r.1=256 then(false,r.2)else if r.1<256 then(true,z6 most (iM r.1) r.2)else(true,PZ B most ld r)
def tI(B:List Bool)(most:Int)(lt ld:List Int):Nat->ZS->ZS
 |0,s=>s
 |f+1,s=>if(rG B most lt ld s).1 then tI B most lt ld f (rG B most lt ld s).2 else(rG B most lt ld s).2
def ZI(b:List UInt8)(most:Int)(s:ZS):Prop:=s.at_<=8*b.length/\(s.out.length:Int)<=most
section
variable{b:List UInt8}{most:Int}
theorem fW(s:ZS)(e:Int)(he:e≠0):(s.fail e).at_=s.at_/\(s.fail e).out=s.out/\(s.fail e).e≠0:=by
 unfold ZS.fail
 grind
theorem Vx{len far:Int}{s:ZS}(h:ZI b most s)(h0:0<=len):ZI b most (LA most len far s)/\s.at_=(LA most len far s).at_/\((LA most len far s).e=0->s.e=0):=by
 unfold LA
 split
 ·grind
 ·split
  ·exact⟨h,rfl,fun h=>by omega⟩
  ·split
   ·exact⟨h,rfl,fun h=>by grind⟩
   ·refine⟨⟨h.1,?_⟩,rfl,fun h=>h⟩
    grind [GR,Ju]
theorem M8{x:UInt8}{s:ZS}(h:ZI b most s):ZI b most (z6 most x s):=by
 unfold z6
 split
 ·exact h
 ·split
  ·exact h
  ·exact⟨h.1,by grind⟩
theorem ahq(hM:most<=16777216){s:ZS}(h:ZI b most s){len far:Int}(h0:0<=len)(h1:len<1000)(hf:s.e=0->1<=far):dH (oW b most s) len far=some (oW b most (LA most len far s)):=by
 have bX:room=140737488355328:=rfl
 obtain⟨ha,ho⟩:=h
 unfold dH LA
 by_cases he:s.e=0
 ·have hf:=hf he
  rw[if_neg (by simp[he])]
  by_cases h2:far>s.out.length
  ·grind [qY,aJ,ZS.fail]
  ·rw[if_neg (by grind),if_neg h2]
   rw[ar (n:=most -(s.out.length:Int)) (by omega) (by omega)]
   by_cases h3:len>most -s.out.length
   ·grind [qY,aJ,ZS.fail]
   ·rw[if_neg (by grind),if_neg h3]
    refine iter_eq (fun(z:Int×ak)=>∃k:Nat,∃o:List UInt8,k<=len.toNat/\z=((k:Int),oW b most {s with out:=o})/\GR (len.toNat -k) far o=GR len.toNat far s.out/\s.out.length+k=o.length) (fun z=>(len -z.1).toNat) ⟨0,s.out,Nat.zero_le _,rfl,rfl,rfl⟩ (by simp;omega) ?_
    rintro _ ⟨k,o,hk,rfl,hz,hol⟩
    by_cases hlt:k<len.toNat
    ·obtain⟨f,hff⟩:∃f,len.toNat -k=f+1:=⟨len.toNat -k -1,by omega⟩
     rw[hff,GR]at hz
     simp only
     rw[ar (n:=(o.length:Int) -far) (by omega) (by omega),ar (n:=(k:Int)+1) (by omega) (by omega)]
     refine .inl ⟨_,?_,⟨k+1,o++[ix o ((o.length:Int) -far)],hlt,rfl,by grind,by simp;omega⟩,by grind⟩
     rw[if_pos (by simp;omega),bK (by omega),bK (by simp;omega)]
     rfl
    ·rw[show len.toNat -k=0 by omega,GR]at hz
     grind
 grind
theorem TU{ld:List Int}{r:Int×ZS}(h:ZI b most r.2):ZI b most (PZ (ah b) most ld r)/\r.2.at_<=(PZ (ah b) most ld r).at_:=by
 have hL:=MX r.1
 unfold PZ
 simp
 have hf:=fW r.2 11 (by simp)
 generalize hs2:(if(jY r.1).2.2=true then r.2 else r.2.fail 11)=s2
 have h2:s2.at_=r.2.at_/\s2.out=r.2.out:=by grind
 have hn:=dy (n:=(jY r.1).2.1.toNat) (by rw[h2.1];exact h.1)
 generalize aB (ah b) (jY r.1).2.1.toNat s2=m at*
 have hy:=tv (l:=ld) hn.1
 generalize gR (ah b) ld m.2=y at*
 have hf:=fW y.2 11 (by simp)
 generalize hs5:(if(iR y.1).2.2=true then y.2 else y.2.fail 11)=s5
 have h5:s5.at_=y.2.at_/\s5.out=y.2.out:=by grind
 have hq:=dy (b:=b) (n:=(iR y.1).2.1.toNat) (s:=s5) (by grind)
 generalize aB (ah b) (iR y.1).2.1.toNat s5=q at*
 have hr:=Vx (len:=(jY r.1).1+m.1) (far:=(iR y.1).1+q.1) ⟨hq.1,by rw[hq.2.2.2.2.1,h5.2,hy.2.2.2.2.1,hn.2.2.2.2.1,h2.2];exact h.2⟩ (by omega)
 grind
theorem FA{lt ld:List Int}{s:ZS}(h:ZI b most s):ZI b most (rG (ah b) most lt ld s).2/\s.at_<=(rG (ah b) most lt ld s).2.at_/\((rG (ah b) most lt ld s).1=true->s.e=0/\s.at_<(rG (ah b) most lt ld s).2.at_):=by grind [tv,rG,ZI,gR,ah,absurd,GJ,iM,M8,TU]
def mu(b:List UInt8)(s:ZS):Nat:=if s.e=0 then 8*b.length -s.at_+1 else 0
theorem TV{lt ld:List Int}{s:ZS}(h:ZI b most s)(ht:(rG (ah b) most lt ld s).1=true):mu b (rG (ah b) most lt ld s).2<mu b s:=by
 have:=FA (lt:=lt) (ld:=ld) h
 have h3:=this.1.1
 unfold mu
 grind
theorem Fz{lt ld:List Int}:∀(f:Nat)(s:ZS),ZI b most s->ZI b most (tI (ah b) most lt ld f s)/\s.at_<=(tI (ah b) most lt ld f s).at_
 |0,_,h=>⟨h,Nat.le_refl _⟩
 |f+1,s,h=>by
  have hc:=FA (lt:=lt) (ld:=ld) h
  rw[tI]
  split
  ·have:=Fz (lt:=lt) (ld:=ld) f _ hc.1
   exact⟨this.1,by omega⟩
  ·exact⟨hc.1,hc.2.1⟩
theorem HU{lt ld:List Int}{body:ak->Option (ak⊕ak)}(pB:∀s,ZI b most s->body (oW b most s)=some (if(rG (ah b) most lt ld s).1 then .inl (oW b most (rG (ah b) most lt ld s).2)else .inr (oW b most (rG (ah b) most lt ld s).2))):
 ∀(f:Nat)(s:ZS),ZI b most s->mu b s<f->∀m,f<=m->ch body m (oW b most s)=some (oW b most (tI (ah b) most lt ld f s))
 |0,_,_,h,_,_=>absurd h (Nat.not_lt_zero _)
 |f+1,s,h,hf,m,hm=>by
  obtain⟨j,rfl⟩:∃j,m=j+1:=⟨m -1,by omega⟩
  rw[ch,tI,pB s h]
  cases ht:(rG (ah b) most lt ld s).1 with
  |false=>rfl
  |true=>
   have:=TV h ht
   exact HU pB f _ (FA h).1 (by omega) j (by omega)
theorem ZP(hb:b.length<576460752303423488)(hM:most<=16777216){lt ld:List Int}(hlt:Du lt)(hld:Du ld)(K L:Nat){s:ZS}(h:ZI b most s):gE (oW b most s) ⟨K,lt⟩ ⟨L,ld⟩=some (oW b most (tI (ah b) most lt ld (8*b.length+2) s)):=by
 unfold gE iter
 refine HU (fun s h=>?_) (8*b.length+2) s h (by grind [mu]) 18446744073709551616 (by omega)
 have hs:=tv (b:=b) (l:=lt) h.1
 have hz:ZI b most (gR (ah b) lt s).2:=⟨hs.1,by rw[hs.2.2.2.2.1];exact h.2⟩
 refine ag (ZQ hb hlt K h.1) ?_
 unfold rG
 have ho:s.out=(gR (ah b) lt s).2.out:=hs.2.2.2.2.1.symm
 simp only[ho]
 clear hs ho
 generalize gR (ah b) lt s=r at*
 by_cases h1:r.2.e≠0\/r.1=256
 ·grind
 ·rw[if_neg (by grind),if_neg h1]
  have he:r.2.e=0:=by
   by_cases he:r.2.e=0
   ·exact he
   ·grind
  by_cases h2:r.1<256
  ·rw[if_pos (by grind),if_pos h2]
   show bn (cC (oW b most r.2) (iM r.1)) _=_
   grind [ad0,aJ]
  ·rw[if_neg (by grind),if_neg h2]
   obtain⟨hL1,_,hL2,hL3,hL4,hL5⟩:=MX r.1
   rw[hL1,aJ]
   unfold PZ
   simp only[if_true]
   have hf:=fW r.2 11 (by decide)
   generalize hs2:(if(jY r.1).2.2=true then r.2 else r.2.fail 11)=s2
   have h2:s2.at_=r.2.at_/\s2.out=r.2.out:=by subst hs2;split;exact⟨rfl,rfl⟩;exact⟨hf.1,hf.2.1⟩
   refine ey (a:=oW b most s2) ?_ ?_
   ·subst hs2
    cases(jY r.1).2.2 with
    |true=>rfl
    |false=>
     show bn (ay (EZ b r.2) 11) _=_
     grind [qY,aJ]
   ·have hn:=dy (b:=b) (n:=(jY r.1).2.1.toNat) (s:=s2) (by rw[h2.1];exact hz.1)
    have hN:=Ln (b:=b) hb (n:=(jY r.1).2.1.toNat) (s:=s2) (by omega) (by grind)
    rw[show(((jY r.1).2.1.toNat:Nat):Int)=(jY r.1).2.1 by omega]at hN
    refine ag hN ?_
    have hnn:((aB (ah b) (jY r.1).2.1.toNat s2).1)<32:=by
     have hp:(2:Int)^(jY r.1).2.1.toNat<=2^5:=M5 (by omega)
     have:=hn.2.2.2.1
     have e5:(2:Int)^5=32:=by decide
     omega
    generalize aB (ah b) (jY r.1).2.1.toNat s2=m at*
    have hy:=tv (b:=b) (l:=ld) (s:=m.2) hn.1
    refine ag (ZQ hb hld L hn.1) ?_
    generalize gR (ah b) ld m.2=y at*
    obtain⟨hD1,_,hD2,hD3,hD4,hD5,hD6⟩:=TY y.1
    simp only
    rw[hD1,aJ]
    have hf:=fW y.2 11 (by decide)
    generalize hs5:(if(iR y.1).2.2=true then y.2 else y.2.fail 11)=s5
    have h5:s5.at_=y.2.at_/\s5.out=y.2.out/\(s5.e=0->(iR y.1).2.2=true):=by
     subst hs5
     split
     ·grind
     ·grind
    have hso:s2.out=y.2.out:=by rw[hy.2.2.2.2.1,hn.2.2.2.2.1]
    refine ey (a:=oW b most s5) ?_ ?_
    ·subst hs5
     cases(iR y.1).2.2 with
     |true=>simp[hso]
     |false=>
      show bn (ay (EZ b y.2) 11) _=_
      rw[qY,aJ]
      grind
    ·have hq:=dy (b:=b) (n:=(iR y.1).2.1.toNat) (s:=s5) (by grind)
     have hQ:=Ln (b:=b) hb (n:=(iR y.1).2.1.toNat) (s:=s5) (by omega) (by grind)
     rw[show(((iR y.1).2.1.toNat:Nat):Int)=(iR y.1).2.1 by omega]at hQ
     refine ag hQ ?_
     have hqq:((aB (ah b) (iR y.1).2.1.toNat s5).1)<8192:=by
      have hp:(2:Int)^(iR y.1).2.1.toNat<=2^13:=M5 (by omega)
      have:=hq.2.2.2.1
      have e5:(2:Int)^13=8192:=by decide
      omega
     generalize aB (ah b) (iR y.1).2.1.toNat s5=q at*
     simp only
     rw[ar (n:=(jY r.1).1+m.1) (by omega) (by omega),ar (n:=(iR y.1).1+q.1) (by omega) (by omega)]
     have hqo:s5.out=q.2.out:=hq.2.2.2.2.1.symm
     have:=ahq (b:=b) (most:=most) hM (s:=q.2) ⟨hq.1,by rw[hq.2.2.2.2.1,h5.2.1,hy.2.2.2.2.1,hn.2.2.2.2.1,h2.2];exact hz.2⟩ (len:=(jY r.1).1+m.1) (far:=(iR y.1).1+q.1) (by omega) (by omega) (fun e=>by grind)
     rw[hqo]
     refine ag this rfl
end
def kI(l:List Int)(s:ZS):ZS:=if MV l<0 then s.fail 13 else s
theorem wv(l:List Int)(s:ZS):(kI l s).at_=s.at_/\(kI l s).out=s.out/\((kI l s).e=0->s.e=0/\0<=MV l):=by
 unfold kI
 have:=fW s 13 (by simp)
 split
 ·exact⟨this.1,this.2.1,fun h=>absurd h this.2.2⟩
 ·exact⟨rfl,rfl,fun h=>⟨h,by omega⟩⟩
section
variable{b:List UInt8}{most:Int}
theorem Yl{lt ld:List Int}{s:ZS}(he:s.e≠0)(f:Nat):tI (ah b) most lt ld f s=s:=by
 cases f with
 |zero=>rfl
 |succ f=>
  have e:rG (ah b) most lt ld s=(false,s):=by
   unfold rG gR
   simp[he]
  rw[tI,e];rfl
end
def Hu(n:Nat)(out:List Int)(t x:Int)(s:ZS):List Int×ZS:=if s.e≠0 then(out,s)else if t>(n:Int) -out.length then(out,s.fail 11)else(out++List.replicate t.toNat x,s)
def Hs(B:List Bool)(l:List Int)(n:Nat)(out:List Int)(s:ZS):List Int×ZS:=
 let r:=gR B l s
 if r.1=16 then(if out=[]then(out,r.2.fail 11)else Hu n out ((aB B 2 r.2).1+3) (out.getLastD 0) (aB B 2 r.2).2)
 else if r.1=17 then Hu n out ((aB B 3 r.2).1+3) 0 (aB B 3 r.2).2
 else if r.1=18 then Hu n out ((aB B 7 r.2).1+11) 0 (aB B 7 r.2).2
 else Hu n out 1 r.1 r.2
def ym(B:List Bool)(l:List Int)(n:Nat):Nat->List Int->ZS->List Int×ZS
 |0,out,s=>(out,s)
 |f+1,out,s=>if out.length=n\/s.e≠0 then(out,s)else ym B l n f (Hs B l n out s).1 (Hs B l n out s).2
section
variable{b:List UInt8}{most:Int}
theorem LD{n:Nat}{out:List Int}{t x:Int}{s:ZS}(ho:out.length<=n)(ht:1<=t):(Hu n out t x s).2.at_=s.at_/\(Hu n out t x s).2.out=s.out/\(Hu n out t x s).1.length<=n/\out.length<=(Hu n out t x s).1.length/\((Hu n out t x s).2.e=0->s.e=0/\out.length<(Hu n out t x s).1.length):=by
 unfold Hu
 split
 ·rename_i h;exact⟨rfl,rfl,ho,Nat.le_refl _,fun e=>absurd e h⟩
 ·rename_i h
  have hf:=fW s 11 (by simp)
  split
  ·exact⟨hf.1,hf.2.1,ho,Nat.le_refl _,fun e=>absurd e hf.2.2⟩
  ·refine⟨rfl,rfl,?_,?_,fun e=>⟨by omega,?_⟩⟩<;>simp<;>omega
theorem Rq{l:List Int}{n:Nat}{out:List Int}{s:ZS}(ha:s.at_<=8*b.length)(ho:out.length<=n):(Hs (ah b) l n out s).2.at_<=8*b.length/\s.at_<=(Hs (ah b) l n out s).2.at_/\(Hs (ah b) l n out s).2.out=s.out/\(Hs (ah b) l n out s).1.length<=n/\out.length<=(Hs (ah b) l n out s).1.length/\((Hs (ah b) l n out s).2.e=0->s.e=0/\out.length<(Hs (ah b) l n out s).1.length):=by
 have hs:=tv (l:=l) ha
 unfold Hs
 simp only
 generalize gR (ah b) l s=r at*
 have hn:=fun k=>dy (n:=k) hs.1
 split
 ·have h2:=hn 2
  have hr:=LD (x:=out.getLastD 0) (s:=(aB (ah b) 2 r.2).2) ho (t:=(aB (ah b) 2 r.2).1+3) (by omega)
  have hf:=fW r.2 11 (by decide)
  split
  ·rw[hf.1,hf.2.1]
   exact⟨hs.1,hs.2.1,hs.2.2.2.2.1,ho,Nat.le_refl _,fun e=>absurd e hf.2.2⟩
  ·refine⟨by omega,by omega,by grind,hr.2.2.1,hr.2.2.2.1,fun e=>?_⟩
   have h5:=hr.2.2.2.2 e
   exact⟨(hs.2.2.2.2.2.1 (h2.2.2.2.2.2 h5.1).1).1,h5.2⟩
 grind [LD,aB,ah]
theorem Ro{l:List Int}{n:Nat}:∀(f:Nat)(out:List Int)(s:ZS),s.at_<=8*b.length->out.length<=n->n<f+out.length->(ym (ah b) l n f out s).2.at_<=8*b.length/\s.at_<=(ym (ah b) l n f out s).2.at_/\(ym (ah b) l n f out s).2.out=s.out/\((ym (ah b) l n f out s).2.e=0->s.e=0/\(ym (ah b) l n f out s).1.length=n)
 |0,out,s,_,h1,h2=>by omega
 |f+1,out,s,ha,h1,h2=>by
  rw[ym]
  split
  ·exact⟨ha,Nat.le_refl _,rfl,fun e=>⟨e,by grind⟩⟩
  ·have hT:=Rq (l:=l) ha h1
   by_cases he:(Hs (ah b) l n out s).2.e=0
   ·have h5:=hT.2.2.2.2.2 he
    have ih:=Ro (l:=l) f (Hs (ah b) l n out s).1 (Hs (ah b) l n out s).2 hT.1 hT.2.2.2.1 (by omega)
    exact⟨ih.1,by omega,by grind,fun e=>⟨h5.1,(ih.2.2.2 e).2⟩⟩
   ·have e1:ym (ah b) l n f (Hs (ah b) l n out s).1 (Hs (ah b) l n out s).2=Hs (ah b) l n out s:=by
     cases f with
     |zero=>rfl
     |succ f=>rw[ym,if_pos (.inr he)]
    rw[e1]
    exact⟨hT.1,hT.2.1,hT.2.2.1,fun e=>absurd e he⟩
theorem Jv{n:Nat}{out:List Int}{t x:Int}(h1:t<=(n:Int) -out.length)(hn:n<100000):
 iter (fun((oq,t26):(List Int)×Int)=>
  if decide (t26<t)then
   bt ((oq.length+[x].length)*8<=room)<|
   some (.inl (oq++[x],aC (t26+1)))
  else
   some (.inr oq)) (out,0)=some (out++List.replicate t.toNat x):=by
 have bX:room=140737488355328:=rfl
 refine Bu t.toNat (fun k=>out++List.replicate k x) (by simp) (by omega) (fun k hk=>?_) ?_
 ·simp only
  rw[if_pos (by grind),bK (by grind),List.replicate_succ',List.append_assoc]
 ·simp only
  rw[if_neg (by grind)]
theorem KG{out:List Int}(h:out≠[]):ix out ((out.length -1:Nat):Int)=out.getLastD 0:=by
 have hl:=List.length_pos_iff.2 h
 rw[gv (by omega),List.getLastD_eq_getLast?,List.getLast?_eq_getElem?,List.getElem?_eq_getElem (by omega)];rfl
theorem ahp(hb:b.length<576460752303423488){l:List Int}(hl:Du l)(K:Nat){n:Nat}(hn:n<1000){s:ZS}(ha:s.at_<=8*b.length):∃o,eu (oW b most s) ⟨K,l⟩ (n:Int)=some (o,oW b most (ym (ah b) l n (n+1) [] s).2)/\((ym (ah b) l n (n+1) [] s).2.e=0->o=(ym (ah b) l n (n+1) [] s).1)/\o.length<=2000:=by
 generalize hR:ym (ah b) l n (n+1) [] s=R
 suffices h:∃z:List Int×ak,eu (oW b most s) ⟨K,l⟩ (n:Int)=some z/\(z.2=oW b most R.2/\(R.2.e=0->z.1=R.1)/\z.1.length<=2000) by
  obtain⟨⟨o,S⟩,h1,h2,h3⟩:=h
  simp only at h2 h3
  subst h2
  exact⟨o,h1,h3⟩
 unfold eu
 refine eP (fun(z:List Int×ak)=>∃(f:Nat)(out:List Int)(t:ZS),z.2=oW b most t/\t.at_<=8*b.length/\out.length<=n/\n<f+out.length/\ym (ah b) l n f out t=R/\(t.e=0->z.1=out)/\z.1.length<=2000) (fun z:List Int×ak=>if z.2.bd.e_=0 then n -z.1.length+1 else 0) (fun z:List Int×ak=>z.2=oW b most R.2/\(R.2.e=0->z.1=R.1)/\z.1.length<=2000) ⟨n+1,[],s,rfl,ha,Nat.zero_le _,by simp,hR,fun _=>rfl,by simp⟩ (by simp only;split<;>simp<;>omega) ?_
 rintro⟨o,S⟩ ⟨f,out,t,rfl,hta,ho,hf,hz,QP,hol⟩
 simp only at QP hol⊢
 obtain⟨f,rfl⟩:∃g,f=g+1:=⟨f -1,by omega⟩
 by_cases he:t.e=0
 ·have:=QP he;subst this
  by_cases Og:o.length=n
  ·rw[ym,if_pos (.inl Og)]at hz
   subst hz
   rw[if_pos (by simp[Og])]
   exact⟨_,rfl,rfl,fun _=>rfl,hol⟩
  ·rw[ym,if_neg (by rintro(h|h);exact Og h;exact h he)]at hz
   rw[if_neg (by simp[he];omega)]
   have hT:=Rq (l:=l) hta ho
   have hs:=tv (b:=b) (l:=l) hta
   refine KA (fun z=>z=((gR (ah b) l t).1,EZ b (gR (ah b) l t).2)) ⟨_,ZQ hb hl K hta,rfl⟩ ?_
   rintro _ rfl
   have hnn:=fun k=>dy (b:=b) (n:=k) hs.1
   have hN:=fun(k:Nat)(h:k<=31)=>Ln (b:=b) hb h hs.1
   have IB:∀(w:ZS)(o2:List Int),w.e≠0->∀g,ym (ah b) l n g o2 w=(o2,w):=fun w o2 hw g=>by
    cases g with
    |zero=>rfl
    |succ g=>rw[ym,if_pos (.inr hw)]
   have go:∀(x tm:Int)(u:ZS),1<=tm->tm<300->u.at_<=8*b.length->u.out=t.out->Hu n o tm x u=Hs (ah b) l n o t->
    ∃z,(if decide (tm>aC ((n:Int) -(o.length:Int)))then
     bn (ay (oW b most u).bd 11) fun r20=>
     some (.inl (o,(ak.mk r20 (oW b most u).gB (oW b most u).ft)))
    else
     jn (
      iter (fun((oq,t26):(List Int)×Int)=>
       if decide (t26<tm)then
        bt ((oq.length+[x].length)*8<=room)<|
        some (.inl (oq++[x],aC (t26+1)))
       else
        some (.inr oq)) (o,0)) fun(EJ:(List Int))=>
     some (.inl (EJ,oW b most u)):Option ((List Int×ak)⊕(List Int×ak)))=some z/\(match z with
      |.inl z=>(∃(f:Nat)(out:List Int)(t:ZS),z.2=oW b most t/\t.at_<=8*b.length/\out.length<=n/\n<f+out.length/\ym (ah b) l n f out t=R/\(t.e=0->z.1=out)/\z.1.length<=2000)/\(if z.2.bd.e_=0 then n -z.1.length+1 else 0)<n -o.length+1
      |.inr z=>z.2=oW b most R.2/\(R.2.e=0->z.1=R.1)/\z.1.length<=2000):=by
    intro x tm u h1 h2 hua huo hru
    have hr:=LD (x:=x) (s:=u) ho h1
    rw[ar (by omega) (by omega)]
    rw[<-hru]at hz hT
    by_cases hue:u.e=0
    ·unfold Hu at hz hr hT
     rw[if_neg (c:=u.e≠0) (by simp[hue])]at hz hr hT
     by_cases htm:tm>(n:Int) -(o.length:Int)
     ·rw[if_pos htm]at hz hr hT
      rw[if_pos (by simpa using htm)]
      refine⟨_,ag (qY u 11) rfl,⟨n+1,o,u.fail 11,?_,hT.1,ho,by omega,?_,fun _=>rfl,hol⟩,?_⟩
      ·have:=(fW u 11 (by decide)).2.1
       show ak.mk (EZ b (u.fail 11)) u.out most=_
       rw[<-this]
      ·have hfe:=(fW u 11 (by decide)).2.2
       rw[IB _ _ hfe]at hz⊢
       exact hz
      grind
     ·rw[if_neg htm]at hz hr hT
      rw[if_neg (by simpa using htm)]
      have hle:(o++List.replicate tm.toNat x).length=o.length+tm.toNat:=by simp
      refine⟨_,ey (Jv (n:=n) (by omega) (by omega)) rfl,⟨f,o++List.replicate tm.toNat x,u,rfl,hua,by rw[hle];omega,by rw[hle];omega,hz,fun _=>rfl,by rw[hle];omega⟩,?_⟩
      simp only
      rw[if_pos hue,hle];omega
    ·unfold Hu at hz hr hT
     rw[if_pos hue]at hz hr hT
     rw[IB _ _ hue]at hz
     by_cases htm:tm>(n:Int) -(o.length:Int)
     ·rw[if_pos (by simpa using htm)]
      refine⟨_,ag (qY u 11) rfl,⟨n+1,o,u,?_,hua,ho,by omega,by rw[IB _ _ hue];exact hz,fun h=>absurd h hue,hol⟩,?_⟩
      ·show ak.mk (EZ b (u.fail 11)) u.out most=_
       unfold ZS.fail
       rw[if_neg hue]
      ·simp only
       have:(u.fail 11).e≠0:=(fW u 11 (by decide)).2.2
       rw[if_neg this];omega
     ·rw[if_neg (by simpa using htm)]
      have hle:(o++List.replicate tm.toNat x).length=o.length+tm.toNat:=by simp
      refine⟨_,ey (Jv (n:=n) (by omega) (by omega)) rfl,⟨n+1,o,u,rfl,hua,ho,by omega,by rw[IB _ _ hue];exact hz,fun h=>absurd h hue,by rw[hle];omega⟩,?_⟩
      simp only
      rw[if_neg hue];omega
   have hl:Hs (ah b) l n o t=(if(gR (ah b) l t).1=16 then(if o=[]then(o,(gR (ah b) l t).2.fail 11)else Hu n o ((aB (ah b) 2 (gR (ah b) l t).2).1+3) (o.getLastD 0) (aB (ah b) 2 (gR (ah b) l t).2).2)
    else if(gR (ah b) l t).1=17 then Hu n o ((aB (ah b) 3 (gR (ah b) l t).2).1+3) 0 (aB (ah b) 3 (gR (ah b) l t).2).2
    else if(gR (ah b) l t).1=18 then Hu n o ((aB (ah b) 7 (gR (ah b) l t).2).1+11) 0 (aB (ah b) 7 (gR (ah b) l t).2).2
    else Hu n o 1 (gR (ah b) l t).1 (gR (ah b) l t).2):=rfl
   have hto:t.out=(gR (ah b) l t).2.out:=hs.2.2.2.2.1.symm
   clear hR
   rw[if_pos he]
   simp only[hto]
   generalize gR (ah b) l t=r at*
   have p2:(2:Int)^2=4:=by decide
   have p3:(2:Int)^3=8:=by decide
   have p7:(2:Int)^7=128:=by decide
   by_cases h16:r.1=16
   ·rw[if_pos h16]at hl
    rw[h16]
    rw[if_pos (by rfl)]
    by_cases ho0:o=[]
    ·subst ho0
     rw[if_pos rfl]at hl
     rw[if_pos (by rfl)]
     refine uX (fun z=>z=.inr (oW b most (r.2.fail 11))) ⟨_,ag (qY r.2 11) (by rw[<-(fW r.2 11 (by decide)).2.1]),rfl⟩ ?_
     rintro _ rfl
     rw[hl]at hz
     have hfe:=(fW r.2 11 (by decide))
     refine⟨_,rfl,⟨n+1,[],r.2.fail 11,rfl,by rw[hfe.1];exact hs.1,Nat.zero_le _,by simp,by rw[IB _ _ hfe.2.2]at hz⊢;exact hz,fun _=>rfl,hol⟩,?_⟩
     simp only
     rw[if_neg hfe.2.2];omega
    ·rw[if_neg ho0]at hl
     have YQ:0<o.length:=List.length_pos_iff.2 ho0
     rw[if_neg (by simp;exact ho0)]
     rw[ar (n:=(o.length:Int) -1) (by omega) (by omega),bK (by omega)]
     have h2:=hnn 2
     rw[p2]at h2
     refine uX (fun z=>z=.inl (o.getLastD 0,(aB (ah b) 2 r.2).1+3,oW b most (aB (ah b) 2 r.2).2)) ⟨_,ag (hN 2 (by decide)) ?_,rfl⟩ ?_
     ·rw[show((o.length:Int) -1)=((o.length -1:Nat):Int) by omega,KG ho0]
      simp only
      rw[ar (by omega) (by omega),<-h2.2.2.2.2.1]
     ·rintro _ rfl
      obtain⟨z,hz1,hz2⟩:=go _ _ _ (by omega) (by omega) h2.1 (by rw[h2.2.2.2.2.1,hto]) hl.symm
      exact⟨z,hz1,by cases z<;>exact hz2⟩
   ·rw[if_neg h16]at hl
    rw[if_neg (by simpa using h16)]
    by_cases h17:r.1=17
    ·rw[if_pos h17]at hl
     rw[if_pos (by simpa using h17)]
     have h2:=hnn 3
     rw[p3]at h2
     refine uX (fun z=>z=.inl (0,(aB (ah b) 3 r.2).1+3,oW b most (aB (ah b) 3 r.2).2)) ⟨_,ag (hN 3 (by decide)) ?_,rfl⟩ ?_
     ·simp only
      rw[ar (by omega) (by omega),<-h2.2.2.2.2.1]
     ·rintro _ rfl
      obtain⟨z,hz1,hz2⟩:=go _ _ _ (by omega) (by omega) h2.1 (by rw[h2.2.2.2.2.1,hto]) hl.symm
      exact⟨z,hz1,by cases z<;>exact hz2⟩
    ·rw[if_neg h17]at hl
     rw[if_neg (by simpa using h17)]
     by_cases h18:r.1=18
     ·rw[if_pos h18]at hl
      rw[if_pos (by simpa using h18)]
      have h2:=hnn 7
      rw[p7]at h2
      refine uX (fun z=>z=.inl (0,(aB (ah b) 7 r.2).1+11,oW b most (aB (ah b) 7 r.2).2)) ⟨_,ag (hN 7 (by decide)) ?_,rfl⟩ ?_
      ·simp only
       rw[ar (by omega) (by omega),<-h2.2.2.2.2.1]
      ·rintro _ rfl
       obtain⟨z,hz1,hz2⟩:=go _ _ _ (by omega) (by omega) h2.1 (by rw[h2.2.2.2.2.1,hto]) hl.symm
       exact⟨z,hz1,by cases z<;>exact hz2⟩
     ·rw[if_neg h18]at hl
      rw[if_neg (by simpa using h18)]
      refine uX (fun z=>z=.inl (r.1,1,oW b most r.2)) ⟨_,rfl,rfl⟩ ?_
      rintro _ rfl
      obtain⟨z,hz1,hz2⟩:=go _ _ _ (by omega) (by omega) hs.1 hto.symm hl.symm
      exact⟨z,hz1,by cases z<;>exact hz2⟩
 ·rw[ym,if_pos (.inr he)]at hz
  subst hz
  rw[if_pos (by simp[he])]
  exact⟨_,rfl,rfl,fun h=>absurd h he,hol⟩
theorem Rp{l:List Int}{n:Nat}{w:ZS}(hw:w.e≠0)(o2:List Int)(g:Nat):ym (ah b) l n g o2 w=(o2,w):=by
 cases g with
 |zero=>rfl
 |succ g=>rw[ym,if_pos (.inr hw)]
end
def rp:List UInt8->Nat->Nat->Nat×Nat
 |[],a,b=>(a,b)
 |x::l,a,b=>rp l ((a+x.toNat)% 65521) ((b+(a+x.toNat)% 65521)% 65521)
theorem Ac:∀(l m:List UInt8)(a b:Nat),rp (l++m) a b=rp m (rp l a b).1 (rp l a b).2
 |[],_,_,_=>rfl
 |x::l,m,a,b=>by rw[List.cons_append,rp,rp,Ac l m]
theorem J7:∀(l:List UInt8)(a b:Nat),a<65521->b<65521->(rp l a b).1<65521/\(rp l a b).2<65521
 |[],_,_,h1,h2=>⟨h1,h2⟩
 |x::l,a,b,_,_=>by exact J7 l _ _ (Nat.mod_lt _ (by simp)) (Nat.mod_lt _ (by simp))
def LQ(l:List UInt8):UInt32:=dF (((65536*(rp l 1 0).2+(rp l 1 0).1:Nat):Nat):Int)
structure InB(a0 b0 k A B:Nat)(l:List UInt8):Prop where
 hA:A<=a0+255*k
 hB:2*B<=2*b0+2*(k*a0)+255*(k*(k+1))
 eA:A % 65521=(rp l a0 b0).1
 eB:B % 65521=(rp l a0 b0).2
theorem InB.step{a0 b0 k A B:Nat}{l:List UInt8}(h:InB a0 b0 k A B l)(x:UInt8):InB a0 b0 (k+1) (A+x.toNat) (B+(A+x.toNat)) (l++[x]):=by
 have hx:=x.toNat_lt
 have h1:=h.hA
 have h2:=h.hB
 have e1:=Nat.succ_mul k a0
 have e2:(k+1)*(k+1+1)=k*(k+1)+2*(k+1):=by grind
 refine⟨by omega,?_,?_,?_⟩
 ·rw[e1]
  omega
 ·rw[Ac]
  show _=((rp l a0 b0).1+x.toNat)% 65521
  rw[<-h.eA];omega
 ·rw[Ac]
  show _=((rp l a0 b0).2+((rp l a0 b0).1+x.toNat)% 65521)% 65521
  rw[<-h.eA,<-h.eB];omega
theorem InB.lt{a0 b0 k A B:Nat}{l:List UInt8}(h:InB a0 b0 k A B l)(hk:k<=5552)(ha:a0<65521)(hb:b0<65521):A<4294967296/\B<4294967296:=by
 have h1:=h.hA
 have h2:=h.hB
 have e1:k*a0<=5552*65520:=Nat.mul_le_mul hk (by omega)
 have e2:k*(k+1)<=5552*5553:=Nat.mul_le_mul hk (by omega)
 omega
theorem aaD(x:UInt8):((dF (x.toNat:Int)).toNat:Int)=(x.toNat:Int):=by
 have:=x.toNat_lt
 rw[gl _ (by omega)]
theorem ZN(p:List UInt8){n:Nat}(hn:n<=5552)(hp:p.length=n){a b:UInt32}(ha:a.toNat<65521)(hb:b.toNat<65521)(N:Int):∃z:UInt32×UInt32×Int,iter (fun((a15,b16,n17,t18,t19,t20):UInt32×UInt32×Int×(List UInt8)×Int×Int)=>
 if decide (t20<t19)then
  bt (0<=t20/\t20<t18.length)<|
  some (.inl (dF ((a15.toNat:Int)+((dF (((ix t18 t20).toNat:Int))).toNat:Int)),dF ((b16.toNat:Int)+((dF ((a15.toNat:Int)+((dF (((ix t18 t20).toNat:Int))).toNat:Int))).toNat:Int)),n17,t18,t19,aC (t20+1)))
 else
  some (.inr (a15,b16,n17))) (a,b,N,p,(p.length:Int),0)=some z/\(z.2.2=N/\z.1.toNat % 65521=(rp p a.toNat b.toNat).1/\z.2.1.toNat % 65521=(rp p a.toNat b.toNat).2):=by
 refine eP (fun(s:UInt32×UInt32×Int×(List UInt8)×Int×Int)=>∃(k:Nat)(A B:UInt32),k<=n/\s=(A,B,N,p,(p.length:Int),(k:Int))/\InB a.toNat b.toNat k A.toNat B.toNat (p.take k)) (fun s=>(n -s.2.2.2.2.2).toNat) _ ⟨0,a,b,Nat.zero_le _,rfl,⟨by omega,by omega,Nat.mod_eq_of_lt ha,Nat.mod_eq_of_lt hb⟩⟩ (by simp;omega) ?_
 rintro _ ⟨k,A,B,hk,rfl,h⟩
 simp only
 by_cases hlt:k<n
 ·have Oi:k<p.length:=by omega
  have hix:ix p (k:Int)=p[k]:=gv Oi
  have h2:=h.step p[k]
  rw[<-List.take_succ_eq_append_getElem Oi]at h2
  have hl:=h2.lt (by omega) ha hb
  rw[if_pos (by simp;omega),bK (by omega),hix,aaD,ar (n:=(k:Int)+1) (by omega) (by omega)]
  have e1:(dF ((A.toNat:Int)+(p[k].toNat:Int))).toNat=A.toNat+p[k].toNat:=by rw[show(A.toNat:Int)+(p[k].toNat:Int)=((A.toNat+p[k].toNat:Nat):Int) by omega,gl _ (by omega)]
  have e2:(dF ((B.toNat:Int)+((dF ((A.toNat:Int)+(p[k].toNat:Int))).toNat:Int))).toNat=B.toNat+(A.toNat+p[k].toNat):=by rw[e1,show(B.toNat:Int)+((A.toNat+p[k].toNat:Nat):Int)=((B.toNat+(A.toNat+p[k].toNat):Nat):Int) by omega,gl _ (by omega)]
  grind
 ·rw[List.take_of_length_le (by omega)]at h
  rw[if_neg (by simp;omega)]
  exact⟨_,rfl,rfl,h.eA,h.eB⟩
theorem UY(x:UInt32):(dF (Int.tmod (x.toNat:Int) 65521)).toNat=x.toNat % 65521:=by rw[Int.tmod_eq_emod_of_nonneg (by simp),show x.toNat % 65521=((x.toNat % 65521:Nat):Int) by omega,gl _ (by omega)]
theorem ZM(l:List UInt8)(hl:l.length<576460752303423488):o6 l=some (LQ l):=by
 unfold o6
 have hz:=J7 l 1 0 (by decide) (by decide)
 refine ag (a:=dU.mk (dF ((((rp l 1 0).1+65520)% 65521:Nat):Int)) (dF ((rp l 1 0).2:Nat))) ?_ ?_
 ·suffices h:∃x,eU (dU.mk 0 0) l=some x/\x=dU.mk (dF ((((rp l 1 0).1+65520)% 65521:Nat):Int)) (dF ((rp l 1 0).2:Nat)) by
   obtain⟨x,h1,rfl⟩:=h;exact h1
  unfold eU
  refine WS (fun z=>z.1.toNat=(rp l 1 0).1/\z.2.toNat=(rp l 1 0).2) (eP (fun(s:(List UInt8)×UInt32×UInt32)=>∃k:Nat,k<=l.length/\s.1=l.drop k/\s.2.1.toNat=(rp (l.take k) 1 0).1/\s.2.2.toNat=(rp (l.take k) 1 0).2) (fun s=>s.1.length) _ ⟨0,Nat.zero_le _,rfl,rfl,rfl⟩ (by simp;omega) ?_) ?_
  ·rintro⟨p,a,b⟩ ⟨k,hk,rfl,ha,hb⟩
   simp only at ha hb⊢
   have hlt:=J7 (l.take k) 1 0 (by decide) (by decide)
   by_cases hp:k<l.length
   ·have hpl:(l.drop k).length=l.length -k:=List.length_drop ..
    rw[if_pos (by simp;omega)]
    have ac7:part (l.drop k) 0 (min ((l.drop k).length:Int) 5552)=(l.drop k).take (min (l.length -k) 5552):=by
     unfold part
     rw[show(min ((l.drop k).length:Int) 5552 -0).toNat=min (l.length -k) 5552 by omega];rfl
    have hB:=ZN ((l.drop k).take (min (l.length -k) 5552)) (n:=min (l.length -k) 5552) (by omega) (by rw[List.length_take];omega) (a:=a) (b:=b) (by omega) (by omega) (min ((l.drop k).length:Int) 5552)
    rw[ha,hb,<-Ac,show l.take k++(l.drop k).take (min (l.length -k) 5552)=l.take (k+min (l.length -k) 5552) by rw[List.take_add]]at hB
    rw[bK (by omega),ac7]
    refine WS _ hB ?_
    rintro⟨A,B,N⟩ ⟨rfl,h2,h3⟩
    simp only at h2 h3⊢
    rw[bK (by omega)]
    refine⟨_,rfl,⟨k+min (l.length -k) 5552,by omega,?_,by rw[UY];exact h2,by rw[UY];exact h3⟩,?_⟩
    ·unfold part
     simp only
     rw[List.take_of_length_le (by rw[List.length_drop];omega),List.drop_drop]
     congr 1;omega
    grind [part,List.take_of_length_le,List.length_drop]
   ·rw[if_neg (by simp;omega)]
    rw[List.take_of_length_le (by omega)]at ha hb
    exact⟨_,rfl,ha,hb⟩
  ·rintro⟨A,B⟩ ⟨h2,h3⟩
   simp only at h2 h3⊢
   refine⟨_,rfl,?_⟩
   have e1:(dF ((A.toNat:Int)+65521)).toNat=(rp l 1 0).1+65521:=by rw[h2,show(((rp l 1 0).1:Nat):Int)+65521=(((rp l 1 0).1+65521:Nat):Int) by omega,gl _ (by omega)]
   have e2:(dF (((dF ((A.toNat:Int)+65521)).toNat:Int) -1)).toNat=(rp l 1 0).1+65520:=by rw[e1,show((((rp l 1 0).1+65521:Nat)):Int) -1=(((rp l 1 0).1+65520:Nat):Int) by omega,gl _ (by omega)]
   grind [dF,Int.tmod,rp,UInt32.toNat_inj,UY,gl]
 ·unfold ez LQ
  rw[aJ]
  generalize(rp l 1 0).1=a at*
  generalize(rp l 1 0).2=b at*
  have e1:(dF (Int.tmod ((dF (((dF ((((a+65520)% 65521:Nat)):Int)).toNat:Int)+1)).toNat:Int) 65521)).toNat=a:=by rw[UY,gl _ (by omega),show((((a+65520)% 65521:Nat)):Int)+1=(((a+65520)% 65521+1:Nat):Int) by omega,gl _ (by omega)];omega
  have e2:(dF (kC .u32 ((dF (b:Int)).toNat:Int) 16)).toNat=65536*b:=by
   rw[gl _ (by omega)]
   have:kC .u32 (b:Int) 16=((65536*b:Nat):Int):=by
    show(b:Int)*65536=_
    omega
   rw[this,gl _ (by omega)]
  simp only[e1,e2]
  have e3:Ht .u32 ((65536*b:Nat):Int) (a:Int)=((65536*b+a:Nat):Int):=by
   unfold Ht
   show(((BitVec.ofNat 32 (65536*b)|||BitVec.ofNat 32 a).toNat:Nat):Int)=_
   rw[BitVec.toNat_or,BitVec.toNat_ofNat,BitVec.toNat_ofNat,Nat.mod_eq_of_lt (by omega),Nat.mod_eq_of_lt (by omega)]
   have:=Nat.two_pow_add_eq_or_of_lt (i:=16) (b:=a) (by omega) b
   rw[<-show 65536*b+a=65536*b |||a from this]
  rw[e3]
def X6(x:UInt32):List UInt8:=[UInt8.ofNat (x.toNat/16777216),UInt8.ofNat (x.toNat/65536),UInt8.ofNat (x.toNat/256),UInt8.ofNat x.toNat]
theorem Hj(n:Nat):iM (n:Int)=UInt8.ofNat n:=by
 unfold iM
 rw[Cw _ _ rfl]
 have:(2^IntKind.u8.bits:Int)=256:=by rfl
 rw[this]
 refine UInt8.toNat_inj.1 ?_
 rw[UInt8.toNat_ofNat',UInt8.toNat_ofNat']
 omega
theorem aaq(x:UInt32)(k:Nat)(hk:k<32):(dF (j8 .u32 (x.toNat:Int) (k:Int))).toNat=x.toNat/2^k:=by
 have hx:=x.toNat_lt
 have:j8 .u32 x.toNat k=((x.toNat/2^k:Nat)):=by
  unfold j8
  rw[Int.toNat_natCast,Nat.min_eq_left (by show k<=32;omega)]
  rw[show 2^k=((2^k:Nat):Int) by simp,Int.fdiv_eq_ediv_of_nonneg _ (Int.natCast_nonneg _)];rfl
 have hle:=Nat.div_le_self x.toNat (2^k)
 rw[this,gl _ (by omega)]
theorem ZO(x:UInt32):lP x=some (X6 x):=by
 unfold lP X6
 have h24:=aaq x 24 (by simp)
 have h16:=aaq x 16 (by simp)
 have h8:=aaq x 8 (by simp)
 rw[show((24:Nat):Int)=24 from rfl]at h24
 rw[show((16:Nat):Int)=16 from rfl]at h16
 rw[show((8:Nat):Int)=8 from rfl]at h8
 rw[h24,h16,h8,Hj,Hj,Hj,Hj]
def QG(b:List UInt8):Int:=match b with
 |c::d::_=>if c.toNat % 16=8/\c.toNat/16<=7/\d.toNat/32 % 2=0/\(256*c.toNat+d.toNat)% 31=0 then 0 else 11
 |_=>10
theorem YM(c d:UInt8):aC (Ht .i64 (aC (kC .i64 (aC (c.toNat:Int)) 8)) (aC (d.toNat:Int)))=((256*c.toNat+d.toNat:Nat):Int):=by
 have hc:=c.toNat_lt
 have hd:=d.toNat_lt
 generalize c.toNat=x at*
 generalize d.toNat=y at*
 rw[ar (n:=x) (by simp) (by omega)]
 have:kC .i64 x 8=((256*x:Nat)):=by
  show(x:Int)*256=_
  omega
 have e3:Ht .i64 ((256*x:Nat)) y=((256*x+y:Nat)):=by
  show(((BitVec.ofNat 64 (256*x)|||BitVec.ofNat 64 y).toNat):Int)=_
  rw[BitVec.toNat_or,BitVec.toNat_ofNat,BitVec.toNat_ofNat,Nat.mod_eq_of_lt (by omega),Nat.mod_eq_of_lt (by omega)]
  have:=Nat.two_pow_add_eq_or_of_lt (by omega) x
  rw[<-this]
 grind [ar]
theorem Ur(p q r:Bool)(P Q R:Prop)[Decidable P][Decidable Q][Decidable R](n:Nat)(hp:p=decide (¬P))(hq:q=decide (¬Q))(hr:r=decide (¬R)):(if(((p||q)||r)||((Int.tmod (n:Int) 31)!=0))=true then some (11:Int)else some 0)=some (if P/\Q/\R/\n % 31=0 then 0 else 11):=by grind
theorem adZ(b:List UInt8):nR b=some (QG b):=by
 unfold nR
 match b with
 |[]=>rfl
 |[c]=>rfl
 |c::d::l=>
  have h0:ix (c::d::l) 0=c:=rfl
  have h1:ix (c::d::l) 1=d:=rfl
  have hp:=of_decide_eq_true (ml (fun c=>decide ((((iM (oH .u8 c.toNat 15)).toNat:Int)!=8)=decide (¬c.toNat % 16=8))) (by decide+kernel) c)
  have hq:=of_decide_eq_true (ml (fun c=>decide (decide (((iM (j8 .u8 c.toNat 4)).toNat:Int)>7)=decide (¬c.toNat/16<=7))) (by decide+kernel) c)
  have hr:=of_decide_eq_true (ml (fun d=>decide ((((iM (oH .u8 d.toNat 32)).toNat:Int)!=0)=decide (¬d.toNat/32 % 2=0))) (by decide+kernel) d)
  rw[bK (by simp;omega),bK (by simp;omega),bK (by simp;omega),bK (by simp;omega),bK (by simp;omega),h0,h1,YM]
  exact Ur _ _ _ _ _ _ _ hp hq hr
end Go.AB
end
