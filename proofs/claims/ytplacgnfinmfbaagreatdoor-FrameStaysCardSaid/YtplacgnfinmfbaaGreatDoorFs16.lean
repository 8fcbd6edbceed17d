/- A part. -/
import Derived.Test.YtplacgnfinmfbaaGreatDoorFs15
set_option linter.unusedSimpArgs false
set_option linter.unusedVariables false
section
namespace Go.AB
open Go
def sy(n:Nat):List Int->Nat->List Int
 |[],_=>[]
 |x::l,o=>if x=(n:Int)then(o:Int)::sy n l (o+1)else sy n l (o+1)
def ct(l:List Int)(n:Nat):Nat:=if n=0 then 0 else(sy n l 0).length
theorem En(n:Nat):∀(l:List Int)(o:Nat),(sy n l o).length=(l.filter fun x=>x==(n:Int)).length
 |[],_=>rfl
 |x::l,o=>by
  rw[sy,List.filter_cons]
  by_cases h:x=(n:Int)
  ·rw[if_pos h,if_pos (by simpa using h),List.length_cons,List.length_cons,En n l]
  ·rw[if_neg h,if_neg (by simpa using h),En n l]
theorem I7{n:Nat}:∀(l:List Int)(o:Nat)(x:Int),x∈sy n l o->(o:Int)<=x/\x<((o+l.length:Nat):Int)
 |[],_,_,h=>absurd h List.not_mem_nil
 |y::l,o,x,h=>by
  have ih:=I7 (n:=n) l (o+1) x
  rw[List.length_cons]
  rw[sy]at h
  split at h
  ·rcases List.mem_cons.1 h with rfl|h
   ·omega
   ·have:=ih h;omega
  ·have:=ih h;omega
theorem YX(l:List Int)(n:Nat):gx l n=(ct l n:Int):=by
 unfold gx ct
 split
 ·rfl
 ·rw[En]
theorem TB(L:List Int)(n:Nat):∀(l:List Int)(o:Nat),L.drop o=l->((List.range' o l.length).map fun k=>((k:Nat):Int)).filter (fun k=>ix L k==(n:Int))=sy n l o
 |[],_,_=>rfl
 |x::l,o,h=>by
  have ho:o<L.length:=by
   have:=congrArg List.length h
   rw[List.length_drop,List.length_cons]at this;omega
  rw[List.drop_eq_getElem_cons ho]at h
  injection h with h1 h2
  have hi:ix L (o:Int)=x:=by rw[fo ho,h1]
  rw[List.length_cons,List.range'_succ,List.map_cons,List.filter_cons,hi,TB L n l (o+1) h2,sy]
  by_cases hx:x=(n:Int)
  ·rw[if_pos (by simpa using hx),if_pos hx]
  ·rw[if_neg (by simpa using hx),if_neg hx]
theorem Mo(l:List Int)(n:Nat):(idxs l).filter (fun k=>ix l k==(n:Int))=sy n l 0:=by
 have:=TB l n l 0 rfl
 rw[<-List.range_eq_range']at this
 exact this
def pre(l:List Int):Nat->List Int
 |0=>[]
 |m+1=>pre l m++sy (m+1) l 0
theorem Eg(l:List Int):uw l=pre l 15:=by
 unfold uw
 simp only[Mo]
 have:∀n,((List.range n).map fun n=>sy (n+1) l 0).flatten=pre l n:=by
  intro n
  induction n with
  |zero=>rfl
  |succ n ih=>rw[List.range_succ,List.map_append,List.flatten_append,ih,pre];simp
 exact this 15
theorem Oj(l:List Int)(m:Nat):∀j,∃r,pre l (m+j)=pre l m++r
 |0=>⟨[],(List.append_nil _).symm⟩
 |j+1=>by
  obtain⟨r,hr⟩:=Oj l m j
  exact⟨r++sy (m+j+1) l 0,by rw[show m+(j+1)=m+j+1 by omega,pre,hr,List.append_assoc]⟩
def cp(l:List Int)(m:Nat):Nat:=(l.filter fun x=>decide (0<x/\x<=(m:Int))).length
theorem Nx(m:Nat):∀l:List Int,cp l (m+1)=cp l m+(l.filter fun x=>x==((m+1:Nat):Int)).length
 |[]=>rfl
 |x::l=>by
  have ih:=Nx m l
  unfold cp at ih⊢
  rw[List.filter_cons,List.filter_cons,List.filter_cons]
  by_cases h1:x=((m+1:Nat):Int)
  ·rw[if_pos (by simp;omega),if_neg (by simp;omega),if_pos (by simpa using h1),List.length_cons,List.length_cons];omega
  ·rw[if_neg (c:=(x==((m+1:Nat):Int))=true) (by simpa using h1)]
   by_cases h2:0<x/\x<=(m:Int)
   ·rw[if_pos (by simp;omega),if_pos (by simp;omega),List.length_cons,List.length_cons];omega
   ·rw[if_neg (by simp;omega),if_neg (by simp;omega)];omega
theorem BW(l:List Int):∀m,(pre l m).length=cp l m
 |0=>by
  unfold cp
  rw[List.filter_eq_nil_iff.2]
  ·rfl
  ·intro x _;simp<;>omega
 |m+1=>by rw[pre,List.length_append,BW l m,Nx,En]
theorem Xr{m M:Nat}(hm:m<=M):∀l:List Int,cp l m<=cp l M/\(cp l m=cp l M↔∀x∈l,¬((m:Int)<x/\x<=(M:Int)))
 |[]=>⟨Nat.le_refl _,by simp[cp]⟩
 |x::l=>by
  have ih:=Xr hm l
  unfold cp at ih⊢
  rw[List.filter_cons,List.filter_cons]
  simp only[List.forall_mem_cons]
  by_cases h2:0<x/\x<=(m:Int)
  ·rw[if_pos (by simp;omega),if_pos (by simp;omega),List.length_cons,List.length_cons]
   refine⟨by omega,?_⟩
   rw[Nat.add_right_cancel_iff,ih.2]
   exact⟨fun h=>⟨by omega,h⟩,fun h=>h.2⟩
  ·rw[if_neg (c:=decide (0<x/\x<=(m:Int))=true) (by simp;omega)]
   by_cases h3:0<x/\x<=(M:Int)
   ·rw[if_pos (by simp;omega),List.length_cons]
    exact⟨by omega,fun h=>by omega,fun h=>absurd (by omega) h.1⟩
   ·rw[if_neg (by simp;omega),ih.2]
    exact⟨ih.1,fun h=>⟨by omega,h⟩,fun h=>h.2⟩
def xh(l:List Int):Nat->Nat
 |0=>0
 |n+1=>2*(xh l n+ct l n)
def LC(l:List Int)(B:List Bool):Nat->Nat->Nat->Int×Nat×Int
 |0,n,_=>(0,n -1,13)
 |f+1,n,code=>if l.any (fun x=>decide (x>=(n:Int)))=false then(0,n -1,13)else match B[n -1]? with
  |none=>(0,n -1,10)
  |some x=>if 2*code+(if x then 1 else 0) -xh l n<(sy n l 0).length then((sy n l 0).getD (2*code+(if x then 1 else 0) -xh l n) 0,n,0)else LC l B f (n+1) (2*code+(if x then 1 else 0))
def tk(l:List Int)(B:List Bool):Int×Nat×Int:=LC l B 15 1 0
theorem afT(c:Nat)(h:c<4611686018427387904):aw (kl .i64 (c:Int) 1)=((2*c:Nat):Int):=by
 have:kl .i64 (c:Int) 1=(c:Int)*2:=rfl
 rw[this,ar (by omega) (by omega)];omega
theorem or1(c:Nat)(x:Bool)(h:c<2305843009213693952):aw (Fk .i64 (((2*c:Nat):Nat):Int) (aw (((if x then 1 else 0:Nat):Nat):Int)))=((2*c+(if x then 1 else 0):Nat):Int):=by
 have hx:(if x then 1 else 0:Nat)<2:=by split<;>omega
 rw[ar (n:=(((if x then 1 else 0:Nat):Nat):Int)) (by omega) (by omega)]
 generalize(if x then 1 else 0:Nat)=y at*
 have e:Fk .i64 (((2*c:Nat):Nat):Int) (y:Int)=((2*c+y:Nat):Int):=by
  unfold Fk
  show(((BitVec.ofNat 64 (2*c)|||BitVec.ofNat 64 y).toNat:Nat):Int)=_
  rw[BitVec.toNat_or,BitVec.toNat_ofNat,BitVec.toNat_ofNat,Nat.mod_eq_of_lt (by omega),Nat.mod_eq_of_lt (by omega)]
  have:=Nat.two_pow_add_eq_or_of_lt (i:=1) (b:=y) (by omega) c
  rw[<-show 2*c+y=2*c |||y from this]
 rw[e,ar (by omega) (by omega)]
theorem QU{b:List UInt8}{a m:Nat}:((ag b).drop a)[m]? =(ag b)[a+m]? :=by rw[List.getElem?_drop]
theorem afa{b:List UInt8}(hb:b.length<576460752303423488){l:List Int}(hl:Fi l)(B:Nat){a:Nat}(ha:a<=8*b.length):
 gC ⟨B,l⟩ (Wp b a)=some ((tk l ((ag b).drop a)).1,(tk l ((ag b).drop a)).2.2,Wp b (a+(tk l ((ag b).drop a)).2.1)):=by
 have hbl:=uO b
 obtain⟨hl0,hl1,hl2⟩:=hl
 unfold gC tk
 generalize hR:LC l ((ag b).drop a) 15 1 0=R
 refine iter_eq (fun(s:Int×Int×Int×Int×bH)=>∃m c:Nat,m<=15/\s=((c:Int),((xh l m+ct l m:Nat):Int),((pre l m).length:Int),((m+1:Nat):Int),Wp b (a+m))/\a+m<=8*b.length/\xh l m+ct l m<=c/\c<2^m/\LC l ((ag b).drop a) (15 -m) (m+1) c=R)
  (fun s=>(16 -s.2.2.2.1).toNat) ⟨0,0,by omega,rfl,ha,Nat.le_refl _,by decide,hR⟩ (by show Int.toNat (16 -1)<18446744073709551616;decide) ?_
 rintro s ⟨m,c,hm,rfl,ham,hfc,hc,hz⟩
 have aj1:2^m<=2^15:=Nat.pow_le_pow_right (by decide) hm
 have e15:(2:Nat)^15=32768:=by decide
 simp only
 by_cases h15:m=15
 ·subst h15
  rw[show(15 -15:Nat)=0 from rfl,LC]at hz
  subst hz
  rw[if_neg (by decide)]
  exact .inr rfl
 obtain⟨f,hf⟩:∃f,15 -m=f+1:=⟨14 -m,by omega⟩
 rw[hf,LC]at hz
 rw[if_pos (by simp;omega)]
 rw[Eg]
 have hcl:=Xr (m:=m) (M:=15) hm l
 rw[<-BW,<-BW]at hcl
 have adP:l.any (fun x=>decide (x>=((m+1:Nat):Int)))=false↔(pre l m).length=(pre l 15).length:=by
  rw[hcl.2,List.any_eq_false]
  refine⟨fun h x hx=>?_,fun h x hx=>?_⟩
  ·have:=h x hx;simp at this;omega
  ·have:=h x hx;have:=hl2 x hx;simp;omega
 by_cases Mg:(pre l m).length=(pre l 15).length
 ·rw[if_pos (adP.2 Mg)]at hz
  subst hz
  rw[if_pos (beq_iff_eq.2 (by omega))]
  exact .inr rfl
 rw[if_neg (fun h=>Mg (adP.1 h))]at hz
 rw[show m+1 -1=m from rfl,QU]at hz
 rw[if_neg (fun h=>Mg (by have:=beq_iff_eq.1 h;omega))]
 have hG:=ae6 hb (at_:=a+m) (n:=1) (by decide) ham
 rw[show((1:Nat):Int)=1 from rfl]at hG
 rw[hG]
 by_cases hcut:(ag b).length<a+m+1
 ·rw[List.getElem?_eq_none (by omega)]at hz
  simp only at hz
  subst hz
  rw[if_pos hcut,aJ]
  exact .inr rfl
 ·rw[if_neg hcut,aJ]
  obtain⟨x,hx⟩:∃x,(ag b)[a+m]? =some x:=⟨_,List.getElem?_eq_getElem (by omega)⟩
  rw[hx]at hz
  simp only at hz
  have htk:((ag b).drop (a+m)).take 1=[x]:=by
   rw[List.drop_eq_getElem_cons (by omega),List.take_succ_cons,List.take_zero]
   rw[List.getElem?_eq_getElem (by omega)]at hx
   injection hx with hx;rw[hx]
  rw[htk,show bv [x]=(if x then 1 else 0:Nat) by unfold bv;rfl]
  have hx2:(if x then 1 else 0:Nat)<2:=by split<;>omega
  have hu:((dw (((if x then 1 else 0:Nat):Nat):Int)).toNat:Int)=((if x then 1 else 0:Nat):Int):=by rw[fJ _ (by omega)]
  simp only[bne_self_eq_false,Bool.false_eq_true,if_false,hu]
  rw[bB (by omega),afT c (by omega),or1 c x (by omega),afT _ (by omega)]
  have hfs:xh l (m+1)=2*(xh l m+ct l m):=rfl
  rw[<-hfs]
  have hcz:vC l ((m+1:Nat):Int)=((sy (m+1) l 0).length:Int):=by
   unfold vC
   rw[Int.toNat_natCast,YX];rfl
  have hpl:(pre l m).length<=320:=by rw[BW];exact Nat.le_trans (List.length_filter_le _ _) hl1
  have hsl:(sy (m+1) l 0).length<=320:=by rw[En];exact Nat.le_trans (List.length_filter_le _ _) hl1
  rw[hcz]
  generalize hq:2*c+(if x then 1 else 0)=c' at*
  have hc':xh l (m+1)<=c'/\c'<65536:=by rw[hfs];omega
  have hc2:c'<2^(m+1):=by rw[Nat.pow_succ];omega
  have ew1:aw ((c':Int) -((xh l (m+1):Nat):Int))=((c' -xh l (m+1):Nat):Int):=by rw[ar (by omega) (by omega)];omega
  have ew2:aw (aw (((pre l m).length:Int)+(c':Int)) -((xh l (m+1):Nat):Int))=(((pre l m).length+(c' -xh l (m+1)):Nat):Int):=by rw[ar (n:=((pre l m).length:Int)+(c':Int)) (by omega) (by omega),ar (by omega) (by omega)];omega
  rw[ew1,ew2]
  by_cases hin:c' -xh l (m+1)<(sy (m+1) l 0).length
  ·rw[if_pos hin]at hz
   subst hz
   obtain⟨r,hr⟩:=Oj l (m+1) (14 -m)
   rw[show m+1+(14 -m)=15 by omega,show pre l (m+1)=pre l m++sy (m+1) l 0 from rfl]at hr
   have sf:(pre l 15)[(pre l m).length+(c' -xh l (m+1))]? =some ((sy (m+1) l 0).getD (c' -xh l (m+1)) 0):=by rw[hr,List.append_assoc,List.getElem?_append_right (by omega),Nat.add_sub_cancel_left,List.getElem?_append_left hin,List.getElem?_eq_getElem hin,List.getD_eq_getElem?_getD,List.getElem?_eq_getElem hin];rfl
   have hlt:=(List.getElem?_eq_some_iff.1 sf).1
   rw[if_pos (by simp;omega),bB (by omega),RV sf]
   exact .inr rfl
  ·rw[if_neg hin]at hz
   rw[if_neg (by simp;omega)]
   refine .inl ⟨_,rfl,⟨m+1,c',by omega,?_,by omega,?_,hc2,?_⟩,?_⟩
   ·have e1:ct l (m+1)=(sy (m+1) l 0).length:=rfl
    rw[ar (by omega) (by omega),ar (by omega) (by omega),ar (by omega) (by omega),pre,List.length_append,e1]
    simp only[Int.natCast_add,Int.add_assoc]
    rfl
   ·have e1:ct l (m+1)=(sy (m+1) l 0).length:=rfl
    rw[e1];omega
   ·rw[show 15 -(m+1)=f by omega];exact hz
   ·simp only
    rw[ar (by omega) (by omega)];omega
theorem Ha{α:Type}(l:List α){i:Int}{x:α}(h0:0<=i)(h:i<l.length):(Jd l i x).length=l.length:=by unfold Jd;simp;omega
end Go.AB
end
section
set_option maxRecDepth 16000
namespace Go.AB
open Go
open Go.Proofs.Tryz (prog)
attribute[-go_sem] ck cN bK cj
@[go_sem]theorem Sx(l:List aa):pad [.int .i64 0,.int .i64 0,.str [],.sl false 4 0 []] (views (AB.sub (flat l) 0 4))=[.int .i64 ((ix l 0).Kind),.int .i64 ((ix l 0).N),.str ((ix l 0).S).b,.sl false 4 ((ix l 0).L).length (flat ((ix l 0).L))]:=Fo l 0
def eu(x_0:aH):Option (Bool):=some (!(x_0.b==x_0.b))
def nP:IC:=dec 0xa1c396387ce7f58100d920824473a
theorem xy:aS prog 262 6 [⟨2,true,none⟩] nP=true:=by kernel_rfl
theorem xc{x_0}{s:ae}{Q:List AV->ae->Prop}:ok (eu x_0) (fun r=>Q [.bool r] s)->FN prog 262 [.str x_0.b] s Q:=by
 intro h
 refine FO xy rfl rfl ?_
 revert h
 rw[nP,eu]
 conv in dec _=>reduce
 repeat'(first
  |simp -implicitDefEqProofs only[go_sem,seval])
theorem nG{x_0}{s:ae}{r:Bool}(h:eu x_0=some r):FE prog 262 [.str x_0.b] s [.bool r] s:=xc ⟨r,h,rfl,rfl⟩
def eT(x_0:aH)(y_1:aH):Option (Int):=
 aP (eu x_0) fun r1=>
 aP (eu y_1) fun r2=>
 if r1 then
  if r2 then
   some 0
  else
   some (-1)
 else
  if r2 then
   some 1
  else
   if Op.bytesLess x_0.b y_1.b then
    some (-1)
   else
    if !((Op.bytesLess x_0.b y_1.b)||(x_0.b==y_1.b))then
     some 1
    else
     some 0
def lZ:IC:=dec 0x77a655631f5dd007c75a30eb93b9ca53d795df717bd0288dc7a31dc467332a089a32fd50510ca3614e8f5f3aa60b97ba8a7ac8e50adc412df602ac320dfe0bca690463c48f2ce6a5c751af3ec7191f72cef8a47e619695c54eb3ed07eccad87eb0ae7e0d3980083fa
theorem tI:aS prog 214 20 [⟨4,true,none⟩] lZ=true:=by kernel_rfl
theorem sL{x_0 y_1}{s:ae}{Q:List AV->ae->Prop}:ok (eT x_0 y_1) (fun r=>Q [.int .i64 r] s)->FN prog 214 [.str x_0.b,.str y_1.b] s Q:=by
 intro h
 refine FO tI rfl rfl ?_
 revert h
 rw[lZ,eT]
 conv in dec _=>reduce
 repeat'(first
  |(with_reducible first|refine aF (fun _(h:eu x_0=some _)=>nG h) (fun r1=>?_)|refine aF (fun _(h:eu y_1=some _)=>nG h) (fun r2=>?_))
  |simp -implicitDefEqProofs only[go_sem,seval])
theorem sK{x_0 y_1}{s:ae}{r:Int}(h:eT x_0 y_1=some r):FE prog 214 [.str x_0.b,.str y_1.b] s [.int .i64 r] s:=sL ⟨r,h,rfl,rfl⟩
def ft(a_0:(List aa))(b_1:(List aa)):Option (Int):=
 aL (0<=(0:Int)/\(0:Int)<a_0.length)<|
 aL (0<=(0:Int)/\(0:Int)<b_1.length)<|
 aP (eT ((ix a_0 0).S) ((ix b_1 0).S)) fun r1=>
 some r1
def qd:IC:=dec 0x8ce5a42a0860bc7991d68fb432cb7321239d611f0a4edddd9f50443bbb49921bac57c220ad93980083fa
theorem z9:aS prog 213 14 [⟨4,true,none⟩] qd=true:=by kernel_rfl
theorem Ap{a_0 b_1}{s:ae}{Q:List AV->ae->Prop}:ok (ft a_0 b_1) (fun r=>Q [.int .i64 r] s)->FN prog 213 [.sl false 4 a_0.length (flat a_0),.sl false 4 b_1.length (flat b_1)] s Q:=by
 intro h
 refine FO z9 rfl rfl ?_
 revert h
 rw[qd,ft]
 conv in dec _=>reduce
 repeat'(first
  |(with_reducible first|exact cU|refine bP ?_ ?_|refine cK (fun _(h:eT ((ix a_0 0).S) ((ix b_1 0).S)=some _)=>sK h) (fun _=>rfl) (fun r1=>?_))
  |simp -implicitDefEqProofs only[go_sem,seval])
theorem jh{a_0 b_1}{s:ae}{r:Int}(h:ft a_0 b_1=some r):FE prog 213 [.sl false 4 a_0.length (flat a_0),.sl false 4 b_1.length (flat b_1)] s [.int .i64 r] s:=Ap ⟨r,h,rfl,rfl⟩
end Go.AB
end
section
set_option maxRecDepth 16000
namespace Go.AB
open Go
open Go.Proofs.Tryz (prog)
attribute[-go_sem] Nat.add_zero pj cT ck cN bK cj
def xl:IC:=dec 0xcb3dc043a8c8937c44e3a535a4b38ed9817eeec5ff2f71e55fef6ae5bdffb6507c283bd639104ce53a43712686c8c6d98eec9245362c8523f0e49d30b32d7a9fa96b187662770556434634d2902434c37be0269a51f3621adb3aedd0a4817a344cfc271848609ad2dc32697da104503fbba4198c06cab09e22d0e9e97db95b482667ae3b4623166b7dc761d8538b32cff6ae7f7402802f32f6ecf2ab0ae243b7e03880e29c39f1f0631403b0a42932fffd9b58b8803ec90dd500f921e8dbe197e8ee3c9cf927da761eeaa0c007fe5120da6f2944f309c5d56168a594c11c4605137fadc
theorem De:aS prog 287 53 [] xl=true:=by kernel_rfl
abbrev VL:=List aa
def yM(a:Int)(q:List VL×Int):Option ((List VL×Int)⊕List VL):=
 aL (0<=q.2/\q.2<q.1.length/\q.2<2^62)<|bif decide (q.2>a)then
  aL (1<=q.2)<|aP (ft (ix q.1 q.2) (ix q.1 (q.2 -1))) fun c=>
  bif decide (c<0)then some (.inl ((q.1.set q.2.toNat (ix q.1 (q.2 -1))).set (q.2 -1).toNat (ix q.1 q.2),q.2 -1))else some (.inr q.1)
 else some (.inr q.1)
def s8(a b:Int)(q:List VL×Int):Option ((List VL×Int)⊕List VL):=bif decide (q.2<b)then aL (0<=q.2/\q.2+1<2^62)<|aP (iter (yM a) (q.1,q.2)) fun l=>some (.inl (l,q.2+1))else some (.inr q.1)
def Vf(l:List VL)(a b:Int):Option (List VL):=iter (s8 a b) (l,a+1)
theorem oi(l:List VL)(sp:List AV){j:Int}(h0:0<=j)(h:j<l.length):j.toNat*1+1<=(flat l++sp).length/\views (AB.sub (flat l++sp) (j.toNat*1) 1)=[.sl false 4 (ix l j).length (flat (ix l j))]:=by
 have hj:j.toNat<l.length:=by omega
 have hs:=nk l sp 1 j.toNat 1 rfl (by omega)
 refine⟨?_,?_⟩
 ·rw[List.length_append,aR]
  have:bp.w VL=1:=rfl
  rw[this];omega
 ·rw[Nat.one_mul]at hs
  rw[hs,List.drop_eq_getElem_cons hj]
  have:ix l j=l[j.toNat]:=by unfold ix;simp[hj]
  rw[this]
  rfl
theorem Li(l:List VL)(sp:List AV)(x:VL){j:Int}(h0:0<=j)(h:j<l.length):setAt (flat l++sp) (j.toNat*1) [.sl false 4 x.length (flat x)]=flat (l.set j.toNat x)++sp:=by
 have hj:j.toNat<l.length:=by omega
 have hs:=ve l [x] sp 1 j.toNat rfl (by simp;omega)
 have e:flat [x]=[.sl false 4 x.length (flat x)]:=rfl
 rw[e]at hs
 rw[hs,List.set_eq_take_append_cons_drop,if_pos hj]
 simp
theorem ZJ{s:ae}{rb cap:Nat}{sp:List AV}{l:List VL}{a b:Int}{Q:List AV->ae->Prop}(hs:s rb=none)(ha:0<=a/\a+1<2^62)(hr:l.length<=room)
 (hm:ok (Vf l a b) fun l'=>Q [] (s.set rb (.cells (flat l'++sp)))):FN prog 287 [.arr rb 0 l.length cap,.int .i64 a,.int .i64 b,.fn 213 [] []] (s.set rb (.cells (flat l++sp))) Q:=by
 unfold Vf at hm
 refine FO De rfl rfl ?_
 rw[xl]
 conv in dec _=>reduce
 simp -implicitDefEqProofs only[go_sem,seval]
 rw[ar (by omega) (by omega)]
 refine dk (fun(q:List VL×Int)=>(⟨[(0,.arr rb 0 q.1.length cap),(1,.int .i64 a),(2,.int .i64 b),(3,.fn 213 [] []),(8,.int .i64 q.2)],[],s.set rb (.cells (flat q.1++sp))⟩:St)) rfl ?_ hm
 intro J q hb
 unfold s8 at hb
 cases hlt:decide (q.2<b)with
 |false=>
  rw[hlt,cond_false,ba]at hb
  simp -implicitDefEqProofs only[go_sem,seval,hlt,bL]
  exact hb
 |true=>
  rw[hlt,cond_true,eW,gM]at hb
  obtain⟨hb0,hb⟩:=hb
  simp -implicitDefEqProofs only[go_sem,seval,hlt,bL]
  refine dk (fun(q':List VL×Int)=>(⟨[(0,.arr rb 0 q'.1.length cap),(1,.int .i64 a),(2,.int .i64 b),(3,.fn 213 [] []),(8,.int .i64 q.2),(9,.int .i64 q'.2)],[],s.set rb (.cells (flat q'.1++sp))⟩:St)) rfl ?_ hb
  intro J2 q' hb2
  unfold yM at hb2
  rw[eW]at hb2
  obtain⟨hb3,hb2⟩:=hb2
  have hw:aw (q'.2 -1)=q'.2 -1:=ar (by omega) (by omega)
  obtain⟨r1,r2⟩:=oi q'.1 sp (j:=q'.2) (by omega) hb3.2.1
  cases hgt:decide (q'.2>a)with
  |false=>
   rw[hgt,cond_false,ba]at hb2
   obtain⟨r3,r4⟩:=oi q'.1 sp (j:=((q'.2 -1).toNat:Int)) (by omega) (by omega)
   rw[Int.toNat_natCast]at r3 r4
   generalize hcs:flat q'.1++sp=cs
   rw[hcs]at r1 r2 r3 r4
   have d1:=decide_eq_true r1
   have d3:=decide_eq_true r3
   simp -implicitDefEqProofs only[go_sem,seval,hgt,hw,r2,r4,d1,d3,bL]
   refine⟨[.int .i64 0],rfl,?_⟩
   simp -implicitDefEqProofs only[go_sem,seval,bL]
   subst hcs
   rw[ar (by omega) (by omega)]
   simp only[ba]at hb2
   exact hb2
  |true=>
   rw[hgt,cond_true,eW,gM]at hb2
   obtain⟨hb4,c,hc,hb2⟩:=hb2
   obtain⟨r3,r4⟩:=oi q'.1 sp (j:=q'.2 -1) (by omega) (by omega)
   generalize hcs:flat q'.1++sp=cs
   rw[hcs]at r1 r2 r3 r4
   have d1:=decide_eq_true r1
   have d3:=decide_eq_true r3
   simp -implicitDefEqProofs only[go_sem,seval,hgt,hw,r2,r4,d1,d3,bL]
   refine⟨⟨hb3.1,hb3.2.1⟩,r1,⟨by omega,by omega⟩,r3,[.int .i64 c],rfl,⟨213,[.sl false 4 (ix q'.1 q'.2).length (flat (ix q'.1 q'.2)),.sl false 4 (ix q'.1 (q'.2 -1)).length (flat (ix q'.1 (q'.2 -1)))],⟨[],[],_,rfl,rfl,rfl⟩,by kernel_rfl,jh hc⟩,?_⟩
   ·simp -implicitDefEqProofs only[go_sem,seval,hw,r2,r4,d1,d3,bL]
    refine⟨fun hx=>?_,fun hx=>?_⟩
    ·rw[hx,cond_true,ba]at hb2
     subst hcs
     have hl:(q'.1.set q'.2.toNat (ix q'.1 (q'.2 -1))).length=q'.1.length:=List.length_set ..
     rw[Li q'.1 sp (ix q'.1 (q'.2 -1)) hb3.1 hb3.2.1,Li _ sp (ix q'.1 q'.2) (j:=q'.2 -1) (by omega) (by rw[hl];omega)]
     obtain⟨r5,_⟩:=oi (q'.1.set q'.2.toNat (ix q'.1 (q'.2 -1))) sp (j:=q'.2 -1) (by omega) (by rw[hl];omega)
     have hl2:((q'.1.set q'.2.toNat (ix q'.1 (q'.2 -1))).set (q'.2 -1).toNat (ix q'.1 q'.2)).length=q'.1.length:=by rw[List.length_set,List.length_set]
     refine⟨⟨by omega,by omega⟩,⟨hb3.1,hb3.2.1⟩,⟨hb3.1,hb3.2.1⟩,r1,⟨by omega,by omega⟩,r5,?_⟩
     have hb5:=hb2
     simp only[jd,hl2]at hb5
     exact hb5
    ·rw[hx,cond_false,ba]at hb2
     subst hcs
     rw[ar (by omega) (by omega)]
     simp only[uU,jd,ba]at hb2
     exact hb2
def Kk:IC:=dec 0x5aa9d457a1dfb5ca1c8dd1d25e06dc2639ea98222a112625ae9b9e4a014291bf605890aff7df0e3c73f030a1a49c0a6f17f6040ba1819286fadfc54ab0e428790e438c1f9537c1d0516faf580e72397a0286a7ab86b363c7ced829fdede32d6e5b823f48e5105d46e1919ec226db41411930029ee876daca5465fba4ad354bfb0e80e94c9efc013a3a
theorem RQ:aS prog 311 38 [] Kk=true:=by kernel_rfl
def sw2(l:List VL)(i j:Int):List VL:=(l.set i.toNat (ix l j)).set j.toNat (ix l i)
theorem WG(l:List VL)(i j:Int):(sw2 l i j).length=l.length:=by unfold sw2;rw[List.length_set,List.length_set]
def I5(a b n:Int)(q:List VL×Int):Option ((List VL×Int)⊕List VL):=
 bif decide (q.2<n)then
  aL (0<=q.2/\0<=a/\0<=b/\a+q.2<q.1.length/\b+q.2<q.1.length/\(q.1.length:Int)<2^62)<|some (.inl (sw2 q.1 (a+q.2) (b+q.2),q.2+1))
 else some (.inr q.1)
def Ug(l:List VL)(a b n:Int):Option (List VL):=iter (I5 a b n) (l,0)
theorem TA{s:ae}{rb cap:Nat}{sp:List AV}{l:List VL}{a b n:Int}{Q:List AV->ae->Prop}
 (hm:ok (Ug l a b n) fun l'=>Q [] (s.set rb (.cells (flat l'++sp)))):FN prog 311 [.arr rb 0 l.length cap,.int .i64 a,.int .i64 b,.int .i64 n,.fn 213 [] []] (s.set rb (.cells (flat l++sp))) Q:=by
 unfold Ug at hm
 refine FO RQ rfl rfl ?_
 rw[Kk]
 conv in dec _=>reduce
 simp -implicitDefEqProofs only[go_sem,seval]
 refine dk (fun(q:List VL×Int)=>(⟨[(0,.arr rb 0 q.1.length cap),(1,.int .i64 a),(2,.int .i64 b),(3,.int .i64 n),(10,.int .i64 q.2)],[],s.set rb (.cells (flat q.1++sp))⟩:St)) rfl ?_ hm
 intro J q hb
 unfold I5 at hb
 cases hlt:decide (q.2<n)with
 |false=>
  rw[hlt,cond_false,ba]at hb
  simp -implicitDefEqProofs only[go_sem,seval,hlt,bL]
  exact hb
 |true=>
  rw[hlt,cond_true,eW,ba]at hb
  obtain⟨⟨h0,ha,hbb,hal,hbl,hln⟩,hb⟩:=hb
  have w1:aw (a+q.2)=a+q.2:=ar (by omega) (by omega)
  have w2:aw (b+q.2)=b+q.2:=ar (by omega) (by omega)
  have w3:aw (q.2+1)=q.2+1:=ar (by omega) (by omega)
  obtain⟨r1,r2⟩:=oi q.1 sp (j:=a+q.2) (by omega) hal
  obtain⟨r3,r4⟩:=oi q.1 sp (j:=b+q.2) (by omega) hbl
  generalize hcs:flat q.1++sp=cs
  rw[hcs]at r1 r2 r3 r4
  have d1:=decide_eq_true r1
  have d3:=decide_eq_true r3
  simp -implicitDefEqProofs only[go_sem,seval,hlt,w1,w2,w3,r2,r4,d1,d3,bL]
  subst hcs
  have hl:(q.1.set (a+q.2).toNat (ix q.1 (b+q.2))).length=q.1.length:=List.length_set ..
  rw[Li q.1 sp (ix q.1 (b+q.2)) (j:=a+q.2) (by omega) hal,Li _ sp (ix q.1 (a+q.2)) (j:=b+q.2) (by omega) (by rw[hl];omega)]
  obtain⟨r5,_⟩:=oi (q.1.set (a+q.2).toNat (ix q.1 (b+q.2))) sp (j:=b+q.2) (by omega) (by rw[hl];omega)
  simp only[jd,WG]at hb
  refine⟨⟨by omega,by omega⟩,⟨by omega,by omega⟩,⟨by omega,by omega⟩,r1,⟨by omega,by omega⟩,r5,?_⟩
  exact hb
def N5:IC:=dec 0x379588eaadd43bcfb8113608fc532ad611399ac737e69d18fb9305b8b12b7fc3953f034113ab2d9854ed5047ddf6f6c99e6ef262711c9b958a590149307c2aef8b90f5c4b1085d28d551df4f5434c1c266ba30ef9344212201d951cce96b5b8fb4b1e402c3571ada1dc10b2292deceff1ac11f37aa18cc6447ed4b1a1f051124e74aebdde23abc55943e04e5af7df17b4946e8de081e7512ba972cf7ed
theorem Vt:aS prog 304 58 [] N5=true:=by kernel_rfl
def B3(L:Nat)(m:Int)(q:List VL×Int×Int):Option ((List VL×Int×Int)⊕(List VL×Int)):=
 aL (q.1.length=L/\0<=q.2.1/\0<=q.2.2/\q.2.1<=m/\m+q.2.2<=q.1.length/\(q.1.length:Int)<2^61)<|
 bif q.2.1 !=q.2.2 then
  bif decide (q.2.1>q.2.2)then aP (Ug q.1 (m -q.2.1) m q.2.2) fun l=>some (.inl (l,q.2.1 -q.2.2,q.2.2))
  else aP (Ug q.1 (m -q.2.1) (m+q.2.2 -q.2.1) q.2.1) fun l=>some (.inl (l,q.2.1,q.2.2 -q.2.1))
 else some (.inr (q.1,q.2.1))
def PT(l:List VL)(a m b:Int):Option (List VL):=aP (iter (B3 l.length m) (l,m -a,b -m)) fun q=>aL (q.1.length=l.length)<|Ug q.1 (m -q.2) m q.2
theorem aba{s:ae}{rb cap:Nat}{sp:List AV}{l:List VL}{a m b:Int}{Q:List AV->ae->Prop}(hab:0<=a/\a<=m/\m<=b/\b<=l.length/\(l.length:Int)<2^61)
 (hm:ok (PT l a m b) fun l'=>Q [] (s.set rb (.cells (flat l'++sp)))):FN prog 304 [.arr rb 0 l.length cap,.int .i64 a,.int .i64 m,.int .i64 b,.fn 213 [] []] (s.set rb (.cells (flat l++sp))) Q:=by
 unfold PT at hm
 rw[gM]at hm
 refine FO Vt rfl rfl ?_
 rw[N5]
 conv in dec _=>reduce
 have w1:aw (m -a)=m -a:=ar (by omega) (by omega)
 have w2:aw (b -m)=b -m:=ar (by omega) (by omega)
 simp -implicitDefEqProofs only[go_sem,seval,w1,w2]
 refine dk (fun(q:List VL×Int×Int)=>(⟨[(0,.arr rb 0 l.length cap),(2,.int .i64 m),(4,.fn 213 [] []),(10,.int .i64 q.2.1),(11,.int .i64 q.2.2)],[],s.set rb (.cells (flat q.1++sp))⟩:St)) rfl ?_ hm
 intro J q hb
 unfold B3 at hb
 rw[eW]at hb
 obtain⟨⟨hL,h1,h2,h3,h4,h5⟩,hb⟩:=hb
 have w3:aw (m -q.2.1)=m -q.2.1:=ar (by omega) (by omega)
 cases hne:(q.2.1 !=q.2.2)with
 |false=>
  rw[hne,cond_false,ba]at hb
  simp -implicitDefEqProofs only[go_sem,seval,hne,w3,bL]
  simp only[uU,eW]at hb
  obtain⟨_,l',e,hb⟩:=hb
  rw[<-hL]
  refine TA ⟨l',e,?_⟩
  simp -implicitDefEqProofs only[go_sem,seval]
  exact hb
 |true=>
  rw[hne,cond_true]at hb
  simp -implicitDefEqProofs only[go_sem,seval,hne,w3,bL]
  rw[<-hL]
  refine⟨fun hx=>?_,fun hx=>?_⟩
  ·rw[hx,cond_true,gM]at hb
   obtain⟨l',e,hb⟩:=hb
   refine TA ⟨l',e,?_⟩
   have w4:aw (q.2.1 -q.2.2)=q.2.1 -q.2.2:=ar (by omega) (by omega)
   simp -implicitDefEqProofs only[go_sem,seval,w4]
   rw[hL]
   simp only[ba,jd]at hb
   exact hb
  ·rw[hx,cond_false,gM]at hb
   obtain⟨l',e,hb⟩:=hb
   have w4:aw (m+q.2.2)=m+q.2.2:=ar (by omega) (by omega)
   have w5:aw (m+q.2.2 -q.2.1)=m+q.2.2 -q.2.1:=ar (by omega) (by omega)
   have w6:aw (q.2.2 -q.2.1)=q.2.2 -q.2.1:=ar (by omega) (by omega)
   simp -implicitDefEqProofs only[go_sem,seval,w4,w5]
   refine TA ⟨l',e,?_⟩
   simp -implicitDefEqProofs only[go_sem,seval,w6]
   rw[hL]
   simp only[ba,jd]at hb
   exact hb
end Go.AB
end
section
set_option linter.unusedSectionVars false
namespace Go.AB
open Go
section
variable{α:Type}[bp α]
def LD(l:List α)(i j:Int):List α:=(l.set i.toNat (ix l j)).set j.toNat (ix l i)
theorem WV(l:List α)(i j:Int):(LD l i j).length=l.length:=by unfold LD;rw[List.length_set,List.length_set]
theorem RU{P S:List α}(x:α):ix (P++x::S) ((P.length:Nat):Int)=x:=by
 rw[fo (by simp)]
 simp
theorem Ox{P S:List α}(x y:α):(P++x::S).set P.length y=P++y::S:=by rw[List.set_append_right _ _ (Nat.le_refl _),Nat.sub_self];rfl
theorem Jj(P M S:List α)(x y:α):LD (P++x::M++y::S) ((P.length:Nat):Int) (((P.length+1+M.length:Nat)):Int)=P++y::M++x::S:=by
 have e1:P++x::M++y::S=P++x::(M++y::S):=by simp
 have e2:∀z,P++z::M++y::S=(P++z::M)++y::S:=fun z=>rfl
 have l2:∀z:α,(P++z::M).length=P.length+1+M.length:=fun z=>by simp;omega
 unfold LD
 rw[Int.toNat_natCast,Int.toNat_natCast]
 have h1:ix (P++x::M++y::S) ((P.length:Nat):Int)=x:=by rw[e1];exact RU x
 have h2:ix (P++x::M++y::S) (((P.length+1+M.length:Nat)):Int)=y:=by rw[<-l2 x];exact RU y
 rw[h1,h2,e1,Ox,show P++y::(M++y::S)=(P++y::M)++y::S by simp,<-l2 y,Ox]
def uD(l:List α)(a b:Nat):Nat->List α
 |0=>l
 |k+1=>LD (uD l a b k) ((a+k:Nat):Int) ((b+k:Nat):Int)
theorem AG(l:List α)(a b:Nat):∀k,(uD l a b k).length=l.length
 |0=>rfl
 |k+1=>by rw[uD,WV];exact AG l a b k
theorem G9(P M S:List α):∀(k:Nat)(A B A' B':List α),A.length=k->B.length=k->A'.length=B'.length->uD (P++(A++A')++M++(B++B')++S) P.length (P.length+(A++A').length+M.length) k=P++(B++A')++M++(A++B')++S
 |0,A,B,A',B',h1,h2,_=>by
  obtain rfl:A=[]:=List.eq_nil_of_length_eq_zero h1
  obtain rfl:B=[]:=List.eq_nil_of_length_eq_zero h2
  simp[uD]
 |k+1,A,B,A',B',h1,h2,h'=>by
  obtain⟨A,x,rfl⟩:∃A0 x,A=A0++[x]:=by
   rcases List.eq_nil_or_concat A with rfl|⟨A0,x,rfl⟩
   ·simp at h1
   ·exact⟨A0,x,by simp⟩
  obtain⟨B,y,rfl⟩:∃B0 y,B=B0++[y]:=by
   rcases List.eq_nil_or_concat B with rfl|⟨B0,y,rfl⟩
   ·simp at h2
   ·exact⟨B0,y,by simp⟩
  have l1:A.length=k:=by simpa using h1
  have l2:B.length=k:=by simpa using h2
  have hi:=G9 P M S k A B (x::A') (y::B') l1 l2 (by simpa using h')
  have e:P++((A++[x])++A')++M++((B++[y])++B')++S=P++(A++(x::A'))++M++(B++(y::B'))++S:=by simp
  rw[uD,e,show((A++[x])++A').length=(A++(x::A')).length by simp,hi]
  have sw:=Jj (P++B) (A'++M++A) (B'++S) x y
  rw[show P.length+k=(P++B).length by simp[l2],show P.length+(A++x::A').length+M.length+k=(P++B).length+1+(A'++M++A).length by simp[l1,l2];omega]
  have e2:P++(B++x::A')++M++(A++y::B')++S=P++B++x::(A'++M++A)++y::(B'++S):=by simp
  rw[e2,sw]
  simp
theorem nx(P A M B S:List α)(h:A.length=B.length):uD (P++A++M++B++S) P.length (P.length+A.length+M.length) A.length=P++B++M++A++S:=by
 have:=G9 P M S A.length A B [] [] rfl h.symm rfl
 simpa using this
end
end Go.AB
end
section
namespace Go.AB
open Go
theorem Nb(l:List VL)(a b n:Nat)(h1:a+n<=l.length)(h2:b+n<=l.length)(hl:(l.length:Int)<2^60):Ug l (a:Int) (b:Int) (n:Int)=some (uD l a b n):=by
 unfold Ug
 refine gD n (fun k=>(uD l a b k,(k:Int))) rfl (by omega) (fun k hk=>?_) ?_
 ·unfold I5
  have hd:decide ((k:Int)<(n:Int))=true:=by simp;omega
  show(bif decide ((k:Int)<(n:Int))then _ else _)=_
  rw[hd,cond_true]
  have hls:=AG l a b k
  refine ay ⟨by show(0:Int)<=(k:Int);omega,by omega,by omega,by rw[hls];show(a:Int)+(k:Int)<_;omega,by rw[hls];show(b:Int)+(k:Int)<_;omega,by rw[hls];omega⟩ rfl
 ·unfold I5
  have hd:decide ((n:Int)<(n:Int))=false:=by simp
  show(bif decide ((n:Int)<(n:Int))then _ else _)=_
  rw[hd,cond_false]
theorem Ww(P X Y S:List VL)(hX:0<X.length)(hY:0<Y.length)(hl:((P++X++Y++S).length:Int)<2^60):
 PT (P++X++Y++S) (P.length:Int) ((P.length+X.length:Nat):Int) ((P.length+X.length+Y.length:Nat):Int)=some (P++Y++X++S):=by
 generalize hL:(P++X++Y++S).length=L at hl
 generalize hm:P.length+X.length=m
 generalize hT:P++Y++X++S=T
 have key:∃z,PT (P++X++Y++S) (P.length:Int) (m:Int) ((m+Y.length:Nat):Int)=some z/\z=T:=by
  unfold PT
  rw[show(m:Int) -(P.length:Int)=(X.length:Int) by omega,show((m+Y.length:Nat):Int) -(m:Int)=(Y.length:Int) by omega,hL]
  obtain⟨o,h1,P',X',Y',S',h2,h3,h4,h5,h6⟩:=fh (body:=B3 L (m:Int)) (s0:=(P++X++Y++S,(X.length:Int),(Y.length:Int))) (fun q=>∃P' X' Y' S':List VL,q=(P'++X'++Y'++S',(X'.length:Int),(Y'.length:Int))/\P'.length+X'.length=m/\0<X'.length/\0<Y'.length/\(P'++X'++Y'++S').length=L/\P'++Y'++X'++S'=T) (fun q=>(q.2.1+q.2.2).toNat)
   (fun o=>∃P' X' Y' S':List VL,o=(P'++X'++Y'++S',(X'.length:Int))/\P'.length+X'.length=m/\X'.length=Y'.length/\(P'++X'++Y'++S').length=L/\P'++Y'++X'++S'=T) ⟨P,X,Y,S,rfl,hm,hX,hY,hL,hT⟩
   (by
     simp only[List.length_append]at hL
     show((X.length:Int)+(Y.length:Int)).toNat<_
     omega) (by
     rintro q ⟨P',X',Y',S',rfl,k1,k2,k3,k4,k5⟩
     have k4':=k4
     simp only[List.length_append]at k4'
     unfold B3
     by_cases hne:X'.length=Y'.length
     ·have e:((X'.length:Int)!=(Y'.length:Int))=false:=by rw[hne];simp
      refine⟨.inr (P'++X'++Y'++S',(X'.length:Int)),ay ⟨k4,by show(0:Int)<=(X'.length:Int);omega,by show(0:Int)<=(Y'.length:Int);omega,by show(X'.length:Int)<=_;omega,by show(m:Int)+(Y'.length:Int)<=((P'++X'++Y'++S').length:Int);omega,by show((P'++X'++Y'++S').length:Int)<_;omega⟩ (by show(bif((X'.length:Int)!=(Y'.length:Int))then _ else _)=_;rw[e,cond_false]),P',X',Y',S',rfl,k1,hne,k4,k5⟩
     ·have e:((X'.length:Int)!=(Y'.length:Int))=true:=by simp;omega
      by_cases hgt:X'.length>Y'.length
      ·have eg:decide ((X'.length:Int)>(Y'.length:Int))=true:=by simp;omega
       obtain⟨Xa,Xb,rfl,hXa⟩:∃Xa Xb,X'=Xa++Xb/\Xa.length=Y'.length:=⟨X'.take Y'.length,X'.drop Y'.length,(List.take_append_drop ..).symm,by rw[List.length_take];omega⟩
       simp only[List.length_append]at k1 k2 k4' hgt
       have sw:=Nb (P'++(Xa++Xb)++Y'++S') P'.length m Y'.length (by rw[k4];omega) (by rw[k4];omega) (by rw[k4];exact hl)
       have st:=nx P' Xa Xb Y' S' hXa
       rw[show P'.length+Xa.length+Xb.length=m by omega,hXa]at st
       have e2:P'++(Xa++Xb)++Y'++S'=P'++Xa++Xb++Y'++S':=by simp
       rw[e2,st]at sw
       have k4a:(P'++Xa++Xb++Y'++S').length=L:=by rw[<-e2];exact k4
       refine⟨.inl (P'++Y'++Xb++Xa++S',(Xb.length:Int),(Xa.length:Int)),ay ⟨k4,by show(0:Int)<=((Xa++Xb).length:Int);omega,by show(0:Int)<=(Y'.length:Int);omega,by show((Xa++Xb).length:Int)<=_;rw[List.length_append];omega,by show(m:Int)+(Y'.length:Int)<=((P'++(Xa++Xb)++Y'++S').length:Int);omega,by show((P'++(Xa++Xb)++Y'++S').length:Int)<_;omega⟩ ?_,⟨P'++Y',Xb,Xa,S',rfl,by rw[List.length_append];omega,by omega,by omega,by simp only[List.length_append];omega,by rw[<-k5];simp⟩,?_⟩
       ·show(bif(((Xa++Xb).length:Int)!=(Y'.length:Int))then(bif decide (((Xa++Xb).length:Int)>(Y'.length:Int))then _ else _)else _)=_
        rw[e,cond_true,eg,cond_true]
        refine aj (a:=P'++Y'++Xb++Xa++S') ?_ ?_
        ·rw[<-sw]
         show Ug (P'++(Xa++Xb)++Y'++S') ((m:Int) -((Xa++Xb).length:Int)) _ _=_
         rw[e2,show(m:Int) -((Xa++Xb).length:Int)=(P'.length:Int) by rw[List.length_append];omega]
        ·show some (Sum.inl (_,((Xa++Xb).length:Int) -(Y'.length:Int),(Y'.length:Int)))=_
         rw[show((Xa++Xb).length:Int) -(Y'.length:Int)=(Xb.length:Int) by rw[List.length_append];omega,show(Y'.length:Int)=(Xa.length:Int) by omega]
       ·show((Xb.length:Int)+(Xa.length:Int)).toNat<(((Xa++Xb).length:Int)+(Y'.length:Int)).toNat
        rw[List.length_append];omega
      ·have eg:decide ((X'.length:Int)>(Y'.length:Int))=false:=by simp;omega
       obtain⟨Ya,Yb,rfl,hYb⟩:∃Ya Yb,Y'=Ya++Yb/\Yb.length=X'.length:=⟨Y'.take (Y'.length -X'.length),Y'.drop (Y'.length -X'.length),(List.take_append_drop ..).symm,by rw[List.length_drop];omega⟩
       simp only[List.length_append]at k3 k4' hne hgt
       have sw:=Nb (P'++X'++(Ya++Yb)++S') P'.length (m+Ya.length) X'.length (by rw[k4];omega) (by rw[k4];omega) (by rw[k4];exact hl)
       have st:=nx P' X' Ya Yb S' hYb.symm
       rw[show P'.length+X'.length+Ya.length=m+Ya.length by omega]at st
       have e2:P'++X'++(Ya++Yb)++S'=P'++X'++Ya++Yb++S':=by simp
       rw[e2,st]at sw
       refine⟨.inl (P'++Yb++Ya++X'++S',(Yb.length:Int),(Ya.length:Int)),ay ⟨k4,by show(0:Int)<=(X'.length:Int);omega,by show(0:Int)<=((Ya++Yb).length:Int);omega,by show(X'.length:Int)<=_;omega,by show(m:Int)+((Ya++Yb).length:Int)<=((P'++X'++(Ya++Yb)++S').length:Int);rw[k4,List.length_append];omega,by show((P'++X'++(Ya++Yb)++S').length:Int)<_;omega⟩ ?_,⟨P',Yb,Ya,X'++S',by simp,by omega,by omega,by omega,by simp only[List.length_append];omega,by rw[<-k5];simp⟩,?_⟩
       ·show(bif((X'.length:Int)!=((Ya++Yb).length:Int))then(bif decide ((X'.length:Int)>((Ya++Yb).length:Int))then _ else _)else _)=_
        rw[e,cond_true,eg,cond_false]
        refine aj (a:=P'++Yb++Ya++X'++S') ?_ ?_
        ·rw[<-sw]
         show Ug (P'++X'++(Ya++Yb)++S') ((m:Int) -(X'.length:Int)) ((m:Int)+((Ya++Yb).length:Int) -(X'.length:Int)) _=_
         rw[e2,show(m:Int) -(X'.length:Int)=(P'.length:Int) by omega,show(m:Int)+((Ya++Yb).length:Int) -(X'.length:Int)=((m+Ya.length:Nat):Int) by rw[List.length_append];omega]
        ·show some (Sum.inl (_,(X'.length:Int),((Ya++Yb).length:Int) -(X'.length:Int)))=_
         rw[show((Ya++Yb).length:Int) -(X'.length:Int)=(Ya.length:Int) by rw[List.length_append];omega,show(X'.length:Int)=(Yb.length:Int) by omega]
       ·show((Yb.length:Int)+(Ya.length:Int)).toNat<((X'.length:Int)+((Ya++Yb).length:Int)).toNat
        rw[List.length_append];omega)
  subst h2
  have h5':=h5
  simp only[List.length_append]at h5'
  refine⟨_,aj h1 (ay h5 ?_),rfl⟩
  have sw:=Nb (P'++X'++Y'++S') P'.length m X'.length (by rw[h5];omega) (by rw[h5];omega) (by rw[h5];exact hl)
  have st:=nx P' X' [] Y' S' h4
  rw[List.append_nil,List.append_nil,List.length_nil,Nat.add_zero,h3]at st
  rw[st,h6]at sw
  rw[<-sw]
  show Ug _ ((m:Int) -(X'.length:Int)) _ _=_
  rw[show(m:Int) -(X'.length:Int)=(P'.length:Int) by omega]
 obtain⟨z,h1,rfl⟩:=key
 exact h1
end Go.AB
end
section
set_option linter.unusedSectionVars false
namespace Go.AB
open Go
structure TP{α:Type}(lt:α->α->Bool):Prop where
 Nl:∀x y,lt x y=true->lt y x=false
 tr:∀x y z,lt y x=false->lt z y=false->lt z x=false
section
variable{α:Type}(lt:α->α->Bool)
def fk(l:List α):Prop:=l.Pairwise fun x y=>lt y x=false
variable{lt}
theorem fk.app{A B:List α}:fk lt (A++B)↔fk lt A/\fk lt B/\∀a∈A,∀b∈B,lt b a=false:=List.pairwise_append
theorem fk.one(x:α):fk lt [x]:=List.pairwise_singleton _ _
theorem TP.last(h:TP lt){A:List α}(hA:fk lt A){u v:α}(hu:A.getLast?=some u)(hv:v∈A):lt u v=false:=by
 obtain⟨A,rfl⟩:=List.getLast?_eq_some_iff.1 hu
 rcases List.mem_append.1 hv with hv|hv
 ·exact(fk.app.1 hA).2.2 v hv u (by simp)
 ·have:v=u:=by simpa using hv
  subst this
  cases e:lt v v with
  |false=>rfl
  |true=>rw[<-e];exact h.Nl v v e
theorem TP.head(h:TP lt){A:List α}(hA:fk lt A){u v:α}(hu:A.head?=some u)(hv:v∈A):lt v u=false:=by
 cases A with
 |nil=>cases hu
 |cons a A=>
  cases hu
  rcases List.mem_cons.1 hv with rfl|hv
  ·cases e:lt v v with
   |false=>rfl
   |true=>rw[<-e];exact h.Nl v v e
  ·exact(List.pairwise_cons.1 hA).1 v hv
theorem TP.Ny(h:TP lt){A B:List α}(hA:fk lt A)(hB:fk lt B)(hab:∀u v,A.getLast?=some u->B.head?=some v->lt v u=false):∀a∈A,∀b∈B,lt b a=false:=fun a ha b hb=>by
 cases eA:A.getLast? with
 |none=>rw[List.getLast?_eq_none_iff]at eA;subst eA;cases ha
 |some u=>
  cases eB:B.head? with
  |none=>rw[List.head?_eq_none_iff]at eB;subst eB;cases hb
  |some v=>exact h.tr _ _ _ (h.tr _ _ _ (h.last hA eA ha) (hab u v eA eB)) (h.head hB eB hb)
theorem TP.put(h:TP lt){A B:List α}{x:α}(hs:fk lt (A++B))(h1:∀u,A.getLast?=some u->lt x u=false)(h2:∀v,B.head?=some v->lt v x=false):fk lt (A++x::B):=by
 obtain⟨hA,hB,hc⟩:=fk.app.1 hs
 have c1:=h.Ny hA (fk.one x) (fun u v hu hv=>by cases hv;exact h1 u hu)
 have c2:=h.Ny (fk.one x) hB (fun u v hu hv=>by cases hu;exact h2 v hv)
 refine fk.app.2 ⟨hA,List.pairwise_cons.2 ⟨fun b hb=>c2 x (by simp) b hb,hB⟩,fun a ha b hb=>?_⟩
 rcases List.mem_cons.1 hb with rfl|hb
 ·exact c1 a ha b (by simp)
 ·exact hc a ha b hb
theorem TP.Rk(h:TP lt){A B C D U V:List α}(h1:fk lt (A++B))(h2:fk lt (C++D))(hAD:∀u v,A.getLast?=some u->D.head?=some v->lt v u=false)(hCB:∀u v,C.getLast?=some u->B.head?=some v->lt v u=false)
 (hU:U.Perm (A++C))(hV:V.Perm (B++D))(sU:fk lt U)(sV:fk lt V):(U++V).Perm ((A++B)++(C++D))/\fk lt (U++V):=by
 obtain⟨a1,a2,a3⟩:=fk.app.1 h1
 obtain⟨b1,b2,b3⟩:=fk.app.1 h2
 have k1:=h.Ny a1 b2 hAD
 have k2:=h.Ny b1 a2 hCB
 refine⟨(hU.append hV).trans ?_,fk.app.2 ⟨sU,sV,fun a ha b hb=>?_⟩⟩
 ·rw[List.append_assoc,List.append_assoc]
  refine List.Perm.append_left A ?_
  rw[<-List.append_assoc,<-List.append_assoc]
  exact List.Perm.append_right D List.perm_append_comm
 ·rcases List.mem_append.1 (hU.mem_iff.1 ha)with ha|ha<;>rcases List.mem_append.1 (hV.mem_iff.1 hb)with hb|hb
  ·exact a3 a ha b hb
  ·exact k1 a ha b hb
  ·exact k2 a ha b hb
  ·exact b3 a ha b hb
end
theorem nD(a b:UInt8)(x y:List UInt8):Op.bytesLess (a::x) (b::y)=(decide (a<b)||(a==b&&Op.bytesLess x y)):=rfl
theorem m7:TP Op.bytesLess:=by
 refine⟨fun x=>?_,fun x=>?_⟩
 ·induction x with
  |nil=>intro y h;cases y with
   |nil=>rfl
   |cons b y=>rfl
  |cons a x ih=>
   intro y h
   cases y with
   |nil=>cases h
   |cons b y=>
    rw[nD]at h⊢
    simp only[Bool.or_eq_true,decide_eq_true_eq,Bool.and_eq_true,beq_iff_eq,Bool.or_eq_false_iff,decide_eq_false_iff_not,Bool.and_eq_false_iff,beq_eq_false_iff_ne,UInt8.lt_iff_toNat_lt]at h⊢
    rcases h with h|⟨rfl,h⟩
    ·exact⟨by omega,.inl fun e=>by subst e;omega⟩
    ·exact⟨by omega,.inr (ih y h)⟩
 ·induction x with
  |nil=>intro y z h1 h2;cases z with
   |nil=>rfl
   |cons c z=>cases y with
    |nil=>exact h2
    |cons b y=>rfl
  |cons a x ih=>
   intro y z h1 h2
   cases y with
   |nil=>cases h1
   |cons b y=>
    cases z with
    |nil=>cases h2
    |cons c z=>
     rw[nD]at h1 h2⊢
     simp only[Bool.or_eq_false_iff,decide_eq_false_iff_not,Bool.and_eq_false_iff,beq_eq_false_iff_ne,UInt8.lt_iff_toNat_lt]at h1 h2⊢
     obtain⟨p1,p2⟩:=h1
     obtain⟨q1,q2⟩:=h2
     refine⟨by omega,?_⟩
     by_cases e:c=a
     ·subst e
      have hb:b=c:=UInt8.toNat_inj.1 (by omega)
      subst hb
      right
      refine ih y z ?_ ?_
      ·rcases p2 with p2|p2
       ·exact absurd rfl p2
       ·exact p2
      ·rcases q2 with q2|q2
       ·exact absurd rfl q2
       ·exact q2
     ·exact .inl e
section
variable{α:Type}[bp α]
theorem TW(l:List α){i j:Int}(h:i.toNat≠j.toNat):LD l i j=LD l j i:=by unfold LD;rw[List.set_comm _ _ h]
theorem KP(P T Y:List α)(x:α){k:Nat}(hk:k<Y.length):LD (P++(Y.take k++x::Y.drop k)++T) ((P.length+k:Nat):Int) ((P.length+k+1:Nat):Int)=P++(Y.take (k+1)++x::Y.drop (k+1))++T:=by
 have e1:Y.drop k=Y[k]::Y.drop (k+1):=List.drop_eq_getElem_cons hk
 have e2:Y.take (k+1)=Y.take k++[Y[k]]:=by rw[List.take_succ_eq_append_getElem hk]
 have lk:(P++Y.take k).length=P.length+k:=by simp;omega
 have:=Jj (P++Y.take k) [] (Y.drop (k+1)++T) x Y[k]
 rw[lk]at this
 rw[e1,e2]
 simp only[List.append_assoc,List.cons_append,List.nil_append,List.length_nil,Nat.add_zero]at this⊢
 exact this
theorem BU(P T Y:List α)(x:α){k:Nat}(hk:k<Y.length):LD (P++(Y.take (k+1)++x::Y.drop (k+1))++T) ((P.length+k+1:Nat):Int) ((P.length+k:Nat):Int)=P++(Y.take k++x::Y.drop k)++T:=by
 have e1:Y.drop k=Y[k]::Y.drop (k+1):=List.drop_eq_getElem_cons hk
 have e2:Y.take (k+1)=Y.take k++[Y[k]]:=by rw[List.take_succ_eq_append_getElem hk]
 have lk:(P++Y.take k).length=P.length+k:=by simp;omega
 have:=Jj (P++Y.take k) [] (Y.drop (k+1)++T) Y[k] x
 rw[lk]at this
 rw[TW _ (by rw[Int.toNat_natCast,Int.toNat_natCast];omega),e1,e2]
 simp only[List.append_assoc,List.cons_append,List.nil_append,List.length_nil,Nat.add_zero]at this⊢
 exact this
theorem jX{Y:List α}{k:Nat}{u:α}(hk:k<=Y.length)(h:(Y.take k).getLast?=some u):0<k/\∃h:k -1<Y.length,u=Y[k -1]:=by
 rw[List.getLast?_eq_getElem?,List.length_take,Nat.min_eq_left hk,List.getElem?_take]at h
 split at h
 ·rename_i hlt
  have h2:k -1<Y.length:=by omega
  rw[List.getElem?_eq_getElem h2]at h
  exact⟨by omega,h2,(Option.some.inj h).symm⟩
 ·cases h
theorem head_drop{Y:List α}{k:Nat}{v:α}(h:(Y.drop k).head?=some v):∃h:k<Y.length,v=Y[k]:=by
 rw[List.head?_drop]at h
 obtain⟨h1,h2⟩:=List.getElem?_eq_some_iff.1 h
 exact⟨h1,h2.symm⟩
theorem dS(P X T:List α){k:Nat}(hk:k<X.length):ix (P++X++T) ((P.length+k:Nat):Int)=X[k]:=by
 rw[fo (by simp;omega)]
 rw[List.getElem_append_left (by simp;omega),List.getElem_append_right (by omega)]
 congr 1;omega
end
end Go.AB
end
