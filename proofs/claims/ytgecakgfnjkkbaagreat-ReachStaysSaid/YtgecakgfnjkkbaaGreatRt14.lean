/- A part. -/
import Derived.Laws.RangeAny
import Derived.LoopTactic
import Derived.Test.YtgecakgfnjkkbaaGreatRt12
import Derived.Lib.Bytealg
import Derived.Laws.Externs
import Derived.Lib.Walk
import Derived.Lib.BytesEntry
import Derived.Lib.UnsafeStr
set_option linter.defProp false
set_option linter.unusedSimpArgs false
set_option linter.unusedVariables false
section
set_option maxRecDepth 4000
namespace Go.AB
open Go
open Go.Proofs.Tryz (prog)
open Go.RowKit
def EC{w:World}{R:Nat->Nat}{a b:AV}{vs:Array Value}(h:k8 w R [a,b] vs):∃v0 v1,vs= #[v0,v1]/\VR w R a v0/\VR w R b v1:=by
 obtain⟨hl,hr⟩:=h
 obtain⟨l⟩:=vs
 match l,hl with
 |[v0,v1],_=>exact⟨v0,v1,rfl,hr 0 _ _ rfl rfl,hr 1 _ _ rfl rfl⟩
 |[],hl=>simp at hl
 |[_],hl=>simp at hl
 |_::_::_::_,hl=>simp at hl
def Mu{w:World}{R:Nat->Nat}{a:AV}{vs:Array Value}(h:k8 w R [a] vs):∃v0,vs= #[v0]/\VR w R a v0:=by
 obtain⟨hl,hr⟩:=h
 obtain⟨l⟩:=vs
 match l,hl with
 |[v0],_=>exact⟨v0,rfl,hr 0 _ _ rfl rfl⟩
 |[],hl=>simp at hl
 |_::_::_,hl=>simp at hl
def Bx(a:ByteArray)(c:Int)(w:World):Calls prog 216 #[.string a,.int .u8 c] w fun e w'=>e=.returned (.int .i64 (Lib.indexByte a.data.toList c.toNat.toUInt8))/\w'=w:=by
 have mixed:=mix
 have t3:prog.underlying 3=some (.int .i64):=By
 have u3:=run_underlying t3
 go_enter Go.Proofs.Tryz.func216,(show Go.Proofs.Tryz.f216.ntmps=8 from rfl)
 go_wp2
 rw[run_callFunc_extern Go.Proofs.Tryz.func247 By By By (e:=Extern.BytealgIndexByte.indexByte) By,Lib.run_indexByteString]
 simp only[Result.andThen]
 rw[Oper.upon_value]
 go_wp2
 go_ret
 exact⟨rfl,rfl⟩
def gp(s:bg)(c:UInt8):Option Int:=some (Lib.indexByte s.b c)
def qz{a:bg}{c:UInt8}{s:ae}{Q:List AV->ae->Prop}(h:ok (gp a c) fun r=>Q [.int .i64 r] s):FN prog 216 [.str a.b,.int .u8 c.toNat] s Q:=by
 unfold gp at h
 rw[bB]at h
 intro G w vs h1 h2 h3 h4
 obtain⟨v0,v1,rfl,k0,k1⟩:=EC h4
 rw[VR.gm k0,VR.b9 k1]
 refine(Bx _ _ w).mono fun e w'⟨he,hw⟩=>?_
 subst hw
 refine⟨_,_,s,G,he,h,h1,h3,⟨?_,trivial⟩,aI.refl G w'⟩
 have e:((c.toNat:Int).toNat).toUInt8=c:=BY
 rw[e]
 exact .int _ _
def IQ(a:ByteArray)(c:UInt8)(w:World):Calls prog 295 #[.string a,.string ⟨#[c]⟩] w fun e w'=>e=.returned (.int .i64 (Lib.indexByte a.data.toList c))/\w'=w:=by
 have mixed:=mix
 have t3:prog.underlying 3=some (.int .i64):=By
 have u3:=run_underlying t3
 have t9:prog.underlying 9=some .string:=By
 have u9:=run_underlying t9
 go_enter Go.Proofs.Tryz.func295,(show Go.Proofs.Tryz.f295.ntmps=143 from rfl)
 go_wp2
 ·rename_i hc
  go_ret
  refine⟨?_,rfl⟩
  have e:a.toList=[c]:=(eq_of_beq hc).symm
  have e2:a.data.toList=[c]:=by
   obtain⟨⟨l⟩⟩:=a
   simpa using e
  rw[e2]
  simp[Lib.indexByte]
 ·rw[run_callFunc_extern Go.Proofs.Tryz.func247 By By By (e:=Extern.BytealgIndexByte.indexByte) By,Lib.run_indexByteString]
  simp only[Result.andThen]
  rw[Oper.upon_value]
  go_wp2
  go_ret
  exact⟨rfl,rfl⟩
def gK(s sub:bg):Option Int:=a8 (sub.b.length=1) (some (Lib.indexByte s.b (ix sub.b 0)))
def uA{a b:bg}{s:ae}{Q:List AV->ae->Prop}(h:ok (gK a b) fun r=>Q [.int .i64 r] s):FN prog 295 [.str a.b,.str b.b] s Q:=by
 unfold gK at h
 rw[fu,bB]at h
 obtain⟨hl,h⟩:=h
 obtain⟨c,hc⟩:∃c,b.b=[c]:=List.length_eq_one_iff.1 hl
 rw[hc]at h⊢
 intro G w vs h1 h2 h3 h4
 obtain⟨v0,v1,rfl,k0,k1⟩:=EC h4
 rw[VR.gm k0,VR.gm k1]
 refine(IQ _ c w).mono fun e w'⟨he,hw⟩=>?_
 subst hw
 exact⟨_,_,s,G,he,h,h1,h3,⟨.int _ _,trivial⟩,aI.refl G w'⟩
def fI(c:UInt8):Bool:=decide (48<=c.toNat)&&decide (c.toNat<=57)
def G6{G:Gh}{w:World}{s:ByteArray}{pos:Nat}(h:cq G w):cq (G.pR w.heap.size .none 0) (w.iter s pos)/\aI G w (G.pR w.heap.size .none 0) (w.iter s pos)/\(∀{st:ae},ba G w st->ba (G.pR w.heap.size .none 0) (w.iter s pos) st):=by
 obtain⟨q1,q2,q3⟩:=fR h (.stringIter s pos) .none 0
 refine⟨q1,q2,fun hs=>hs.mono h q2 (fun b hb=>?_) (fun b c j _ hc=>?_)⟩
 ·obtain⟨k1,k2,k3⟩:=q3 b W_
  exact⟨k1.trans hb,k2,k3⟩
 ·obtain⟨k1,k2,k3⟩:=q3 c p_
  exact⟨k1.trans hc,k2,k3⟩
theorem Pc(s:ByteArray)(pos:Nat)(h:pos<s.size):s.data.toList.drop pos=(s[pos]'h)::s.data.toList.drop (pos+1):=by
 have hl:pos<s.data.toList.length:=J_
 rw[List.drop_eq_getElem_cons hl]
 rfl
def Qq(s:ByteArray)(w:World){r:Bool}(hr:s.data.toList.all fI=r):Calls prog 257 #[.string s] w fun e w'=>e=.returned (.bool r)/\∃pos,w'=w.iter s pos:=by
 have mixed:=mix
 have t3:prog.underlying 3=some (.int .i64):=By
 have u3:=run_underlying t3
 have t9:prog.underlying 9=some .string:=By
 have u9:=run_underlying t9
 go_enter Go.Proofs.Tryz.func257,(show Go.Proofs.Tryz.f257.ntmps=13 from rfl)
 go_wp2
 go_loopw [] (fun w'=>∃pos,w'=w.iter s pos/\(s.data.toList.drop pos).all fI=r) (fun w'=>s.size -w'.iterPos w.heap.size)
 case atStart=>exact⟨0,rfl,hr⟩
 case round=>
  obtain⟨pos,rfl,ee⟩:=hrel
  by_cases hp:pos<s.size
  ·rw[Pc s pos hp,List.all_cons]at ee
   by_cases ha:(s[pos]'hp).toNat<128
   ·have hnx:∀ty,(Instr.next (.pointer (some ⟨w.heap.size,0,none⟩)) true ty).run prog (w.iter s pos)=_:=fun ty=>run_next_ascii w s pos ty hp ha
    generalize(s[pos]'hp)=c at hnx ee ha
    go_wp2
    all_goals first
     |(go_ret
       have hc:fI c=false:=iF
       rw[hc]at ee
       rw[<-ee]
       exact⟨rfl,_,rfl⟩)
     |(refine⟨⟨pos+1,rfl,?_⟩,AT⟩
       have hc:fI c=true:=iF
       rw[hc,Bool.true_and]at ee
       exact ee)
   ·have hnx:∀ty,(Instr.next (.pointer (some ⟨w.heap.size,0,none⟩)) true ty).run prog (w.iter s pos)=_:=fun ty=>run_next_any w s pos ty hp
    have hd:=(decode_high s pos hp AT).1
    have hd2:=decode_le s pos
    have hc:fI (s[pos]'hp)=false:=iF
    rw[hc]at ee
    generalize(Utf8.decode s pos).1=d at hnx hd hd2
    go_wp2
    all_goals first
     |omega
     |(go_ret
       rw[<-ee]
       exact⟨rfl,_,rfl⟩)
     |(exfalso;omega)
  ·have hnx:∀ty,(Instr.next (.pointer (some ⟨w.heap.size,0,none⟩)) true ty).run prog (w.iter s pos)=_:=fun ty=>run_next_end w s pos ty hp
   rw[List.drop_eq_nil_of_le (by simpa using(by omega:s.size<=pos))]at ee
   go_wp2
   go_ret
   rw[<-ee]
   exact⟨rfl,_,rfl⟩
def oi(s:bg):Option Bool:=some (s.b.all fI)
def DD{a:bg}{s:ae}{Q:List AV->ae->Prop}(h:ok (oi a) fun r=>Q [.bool r] s):FN prog 257 [.str a.b] s Q:=by
 unfold oi at h
 rw[bB]at h
 intro G w vs h1 h2 h3 h4
 obtain⟨v0,rfl,k0⟩:=Mu h4
 rw[VR.gm k0]
 refine(Qq ⟨a.b.toArray⟩ w (r:=a.b.all fI) BY).mono fun e w'⟨he,pos,hw⟩=>?_
 subst hw
 obtain⟨q1,q2,q3⟩:=G6 (s:=⟨a.b.toArray⟩) (pos:=pos) h1
 exact⟨_,_,s,_,he,h,q1,q3 h3,⟨.bool _,trivial⟩,q2⟩
end Go.AB
end
section
set_option maxRecDepth 4000
namespace Go.AB
open Go Go.RowKit
open Go.Proofs.Tryz (prog)
def rS(st:Int×Bool)(c:UInt8):Int×Bool:=
 let oq:=st.2||decide (st.1>(2147483647 -((c.toNat:Int) -48)).tdiv 10)
 (if oq then st.1 else 10*st.1+((c.toNat:Int) -48),oq)
def nY:List UInt8->Int×Bool->Int×Int
 |[],st=>if st.2 then(0,5)else(st.1,0)
 |c::l,st=>if fI c then nY l (rS st c)else(0,11)
def zm(r:Int×Int)(l:List UInt8)(v4 v5:Value):Prop:=∃(n:Int)(oq:Bool),v4=.int .i64 n/\v5=.bool oq/\0<=n/\n<=2147483647/\nY l (n,oq)=r
theorem zm.step{r:Int×Int}{c:UInt8}{l:List UInt8}{n m:Int}{oq o:Bool}(hd:48<=(c.toNat:Int)/\(c.toNat:Int)<=57)(h0:0<=n)(h1:n<=2147483647)(h:nY l (rS (n,oq) c)=r)
 (ho:o=(oq||decide (n>(2147483647 -((c.toNat:Int) -48)).tdiv 10)))(hm:m=if o then n else 10*n+((c.toNat:Int) -48)):zm r l (.int .i64 m) (.bool o):=by
 subst ho;subst hm
 refine⟨_,_,rfl,rfl,?_,?_,h⟩
 ·split<;>omega
 ·split
  ·omega
  ·rename_i hh
   have hh:¬n>(2147483647 -((c.toNat:Int) -48)).tdiv 10:=by simp at hh;omega
   rw[Int.tdiv_eq_ediv_of_nonneg AT]at hh
   omega
theorem KE{c:Int}(hd:48<=c/\c<=57):((((2147483647 -(((c -48+2147483648)% 4294967296 -2147483648+9223372036854775808)% 18446744073709551616 -9223372036854775808)+9223372036854775808)% 18446744073709551616 -9223372036854775808).tdiv 10+9223372036854775808)% 18446744073709551616 -9223372036854775808)=(2147483647 -(c -48)).tdiv 10:=by
 have e1:((c -48+2147483648)% 4294967296 -2147483648+9223372036854775808)% 18446744073709551616 -9223372036854775808=c -48:=AT
 rw[e1]
 have e2:(2147483647 -(c -48)+9223372036854775808)% 18446744073709551616 -9223372036854775808=2147483647 -(c -48):=AT
 rw[e2,Int.tdiv_eq_ediv_of_nonneg AT]
 omega
def Tg{c n:Int}(hd:48<=c/\c<=57)(h0:0<=n)(h1:n<=2147483647):((10*n+9223372036854775808)% 18446744073709551616 -9223372036854775808+(((c -48+2147483648)% 4294967296 -2147483648+9223372036854775808)% 18446744073709551616 -9223372036854775808)+9223372036854775808)% 18446744073709551616 -9223372036854775808=10*n+(c -48):=AT
set_option maxHeartbeats 40000000 in
def It(s:ByteArray)(w:World){r:Int×Int}(hr:(if s.data.toList=[]then(0,11)else nY s.data.toList (0,false))=r):Calls prog 258 #[.string s] w fun e w'=>e=.returned (.tuple #[.int .i64 r.1,.int .i64 r.2])/\(w'=w\/∃pos,w'=w.iter s pos):=by
 have mixed:=mix
 have t3:prog.underlying 3=some (.int .i64):=By
 have u3:=run_underlying t3
 have t9:prog.underlying 9=some .string:=By
 have u9:=run_underlying t9
 go_enter Go.Proofs.Tryz.func258,(show Go.Proofs.Tryz.f258.ntmps=36 from rfl)
 go_wp2
 ·have hq:= ‹s.toList.isEmpty=true›
  have hc:s.data.toList=[]:=by
   obtain⟨⟨l⟩⟩:=s
   simpa using hq
  rw[if_pos hc]at hr
  subst hr
  go_ret2
  exact⟨rfl,.inl rfl⟩
 have hq:= ‹s.toList.isEmpty=false›
 have hc:s.data.toList≠[]:=by
  obtain⟨⟨l⟩⟩:=s
  simpa using hq
 rw[if_neg hc]at hr
 go_loopw [4,5] (fun v4 v5 w'=>∃(pos:Nat),w'=w.iter s pos/\zm r (s.data.toList.drop pos) v4 v5) (fun _ _ w'=>s.size -w'.iterPos w.heap.size)
 case atStart=>exact⟨0,rfl,0,false,rfl,rfl,AT,AT,hr⟩
 case round=>
  obtain⟨pos,rfl,n,oq,rfl,rfl,hn0,hn1,ee⟩:=hrel
  by_cases hp:pos<s.size
  ·rw[Pc s pos hp,nY]at ee
   by_cases ha:(s[pos]'hp).toNat<128
   ·have hnx:∀ty,(Instr.next (.pointer (some ⟨w.heap.size,0,none⟩)) true ty).run prog (w.iter s pos)=_:=fun ty=>run_next_ascii w s pos ty hp ha
    generalize(s[pos]'hp)=c at hnx ee ha
    by_cases hdig:48<=(c.toNat:Int)/\(c.toNat:Int)<=57
    ·have hc:fI c=true:=iF
     rw[if_pos hc]at ee
     cases oq<;>go_wp2
     all_goals first
      |(exfalso;omega)
      |(refine⟨⟨_,_,_,_,⟨pos+1,rfl,?_⟩,rfl,rfl,rfl,rfl⟩,AT⟩
        first
         |exact zm.step hdig hn0 hn1 ee rfl rfl
         |(have hx:= ‹(!decide (_<n))=true›
           simp only[Bool.not_eq_true']at hx
           refine zm.step hdig hn0 hn1 ee (by rw[KE hdig];rfl) ?_
           rw[hx]
           exact Tg hdig hn0 hn1)
         |(have hx:= ‹(!decide (_<n))=false›
           simp only[Bool.not_eq_false']at hx
           refine zm.step hdig hn0 hn1 ee (by rw[KE hdig];rfl) ?_
           rw[hx]
           rfl))
    ·have hc:fI c=false:=iF
     rw[hc]at ee
     have ee:((0:Int),(11:Int))=r:=ee
     subst ee
     cases oq<;>go_wp2
     all_goals first
      |(exfalso;omega)
      |(go_ret2
        exact⟨rfl,.inr ⟨_,rfl⟩⟩)
   ·have hnx:∀ty,(Instr.next (.pointer (some ⟨w.heap.size,0,none⟩)) true ty).run prog (w.iter s pos)=_:=fun ty=>run_next_any w s pos ty hp
    have hd:=(decode_high s pos hp AT).1
    have hd2:=decode_le s pos
    have hc:fI (s[pos]'hp)=false:=iF
    rw[hc]at ee
    have ee:((0:Int),(11:Int))=r:=ee
    subst ee
    generalize(Utf8.decode s pos).1=d at hnx hd hd2
    cases oq<;>go_wp2
    all_goals first
     |(exfalso;omega)
     |(go_ret2
       exact⟨rfl,.inr ⟨_,rfl⟩⟩)
  ·have hnx:∀ty,(Instr.next (.pointer (some ⟨w.heap.size,0,none⟩)) true ty).run prog (w.iter s pos)=_:=fun ty=>run_next_end w s pos ty hp
   rw[List.drop_eq_nil_of_le (by simpa using(by omega:s.size<=pos))]at ee
   cases oq<;>go_wp2
   all_goals(go_ret2;subst ee;exact⟨rfl,.inr ⟨_,rfl⟩⟩)
def my(s:bg):Option (Int×Int):=some (if s.b=[]then(0,11)else nY s.b (0,false))
def wm{a:bg}{s:ae}{Q:List AV->ae->Prop}(h:ok (my a) fun r=>Q [.int .i64 r.1,.int .i64 r.2] s):FN prog 258 [.str a.b] s Q:=by
 unfold my at h
 rw[bB]at h
 intro G w vs h1 h2 h3 h4
 obtain⟨v0,rfl,k0⟩:=Mu h4
 rw[VR.gm k0]
 refine(It ⟨a.b.toArray⟩ w (r:=if a.b=[]then(0,11)else nY a.b (0,false)) BY).mono fun e w'⟨he,hw⟩=>?_
 generalize(if a.b=[]then((0:Int),(11:Int))else nY a.b (0,false))=r at h he
 have oc:∀(G':Gh)(w':World),nt G' w' [.int .i64 r.1,.int .i64 r.2] (.tuple #[.int .i64 r.1,.int .i64 r.2]):=fun G' w'=>⟨_,rfl,rfl,fun j x y hx hy=>by
  match j,hx,hy with
  |0,hx,hy=>injection hx with hx;injection hy with hy;subst hx;subst hy;exact⟨.int _ _,trivial⟩
  |1,hx,hy=>injection hx with hx;injection hy with hy;subst hx;subst hy;exact⟨.int _ _,trivial⟩
  |_+2,hx,_=>simp at hx⟩
 rcases hw with hw|⟨pos,hw⟩
 ·subst hw
  exact⟨_,_,s,G,he,h,h1,h3,oc _ _,aI.refl G w'⟩
 ·subst hw
  obtain⟨q1,q2,q3⟩:=G6 (s:=⟨a.b.toArray⟩) (pos:=pos) h1
  exact⟨_,_,s,_,he,h,q1,q3 h3,oc _ _,q2⟩
end Go.AB
end
section
set_option maxRecDepth 4000
namespace Go.AB
open Go
open Go.Proofs.Tryz (prog)
open Go.RowKit
def Mj{P:Program}(a:Addr)(cap:Nat)(c:Int)(w:World):(Extern.BytealgIndexByte.indexByte #[.slice (some a) 0 cap,.int .u8 c]).run P w=.ok (.int .i64 (-1)) w:=rfl
def qn{v:Value}{cv r:Int}{w:World}(hr:(Extern.BytealgIndexByte.indexByte #[v,.int .u8 cv]).run prog w=.ok (.int .i64 r) w):Calls prog 235 #[v,.int .u8 cv] w fun e w'=>e=.returned (.int .i64 r)/\w'=w:=by
 have mixed:=mix
 go_enter Go.Proofs.Tryz.func235,(show Go.Proofs.Tryz.f235.ntmps=8 from rfl)
 go_wp2
 rw[run_callFunc_extern Go.Proofs.Tryz.func263 By By By (e:=Extern.BytealgIndexByte.indexByte) By,hr]
 simp only[Result.andThen]
 rw[Oper.upon_value]
 go_wp2
 go_ret
 exact⟨rfl,rfl⟩
theorem CD:∀l:List UInt8,Lib.bytesOf (l.map fun c=>(c.toNat:Int))=l
 |[]=>rfl
 |c::l=>by
  have h:=CD l
  unfold Lib.bytesOf at h⊢
  rw[List.map_cons,List.map_cons,h]
  congr 1
  simp
def fB(s:List UInt8)(c:UInt8):Option Int:=some (Lib.indexByte s c)
def wM{a:List UInt8}{c:UInt8}{s:ae}{Q:List AV->ae->Prop}(h:ok (fB a c) fun r=>Q [.int .i64 r] s):FN prog 235 [.sl false 1 a.length (flat a),.int .u8 c.toNat] s Q:=by
 unfold fB at h
 rw[bB]at h
 intro G w vs h1 h2 h3 h4
 obtain⟨v0,v1,rfl,k0,k1⟩:=EC h4
 rw[VR.b9 k1]
 have ec:((c.toNat:Int).toNat).toUInt8=c:=BY
 have fin:∀(e:Ending)(w':World)(r:Int),r=Lib.indexByte a c->e=.returned (.int .i64 r)/\w'=w->∃v rs s' G',e=.returned v/\Q rs s'/\cq G' w'/\ba G' w' s'/\nt G' w' rs v/\aI G w G' w':=by
  rintro e w' r hr ⟨he,hw⟩
  subst hw;subst hr
  exact⟨_,_,s,G,he,h,h1,h3,⟨.int _ _,trivial⟩,aI.refl G w'⟩
 have e0:∀b:List UInt8,a=[]->Lib.indexByte a c=-1:=fun _ e=>by subst e;rfl
 rcases VR.gR k0 with⟨(e|⟨_,ad,cap,e⟩),h0,_⟩|⟨b,off,cap,e,hcl,hRb,fh,hat⟩
 ·subst e
  have ha:a=[]:=List.eq_nil_of_length_eq_zero h0
  exact(qn (Lib.run_indexByteNil w 0 0 _)).mono fun e w' hh=>fin e w' _ (e0 a ha).symm hh
 ·subst e
  have ha:a=[]:=List.eq_nil_of_length_eq_zero h0
  exact(qn (Mj ad cap _ w)).mono fun e w' hh=>fin e w' _ (e0 a ha).symm hh
 ·subst e
  obtain⟨u,u1,u2,_⟩:=hat
  have pg:∀i,i<a.length->w.cell? ⟨b,off+i,none⟩=some (.int .u8 ((a.map fun c=>(c.toNat:Int)).getD i 0)):=by
   intro i hi
   have hfj:(flat a)[i]? =some (.int .u8 (a[i]).toNat):=by
    have hm:∀l:List UInt8,flat l=l.map fun c=>AV.int .u8 c.toNat:=fun l=>by
     induction l with
     |nil=>rfl
     |cons c l ih=>rw[List.map_cons,<-ih];rfl
    rw[hm,List.getElem?_map,List.getElem?_eq_getElem hi];rfl
   rw[u1 i _ hfj,VR.b9 (u2 i _ hfj)]
   simp[List.getD_eq_getElem?_getD,hi]
  refine(qn (Lib.run_indexByteSlice w b off a.length cap (a.map fun c=>(c.toNat:Int)) BY pg _)).mono fun e w' hh=>fin e w' _ ?_ hh
  rw[CD,ec]
end Go.AB
end
section
namespace Go.AB
open Go
@[go_sem]theorem ag9(l:List UInt8)(hi:Int):(l.drop 1).take (hi -1).toNat=part l 1 hi:=rfl
end Go.AB
end
section
set_option maxRecDepth 16000
namespace Go.AB
open Go
open Go.Proofs.Tryz (prog)
attribute[-go_sem] Nat.add_zero mi cy
def ahn:agI prog 283:=fun x w=>by
 rw[run_callFunc_extern Go.Proofs.Tryz.func283 By By By (e:=Extern.AbiNoEscape.same) By]
 rfl
theorem VT{s:ae}{B:Nat}{o:SO}(h:s B=some o):s.set B o=s:=by
 funext i
 unfold ae.set
 split
 ·rename_i e;subst e;exact h.symm
 ·rfl
def Ip{b:Bk}{B T o:Nat}{pre post:List AV}{s:ae}{Q:List AV->ae->Prop}(hB:s B=some (.cells (Wi pre [zq T B o b,wL b] post)))(eB:pre.length=o)
 (lB:LB prog T (pre.length+2+post.length) o 243=true)(hq:Q [] (s.set B (.cells (Wi pre [.ref B o,wL b] post)))):FN prog 262 [.ref B o] s Q:=by
 subst eB
 obtain⟨u,ow,bf⟩:=b
 have hl:(Wi pre [zq T B pre.length ⟨u,ow,bf⟩,wL ⟨u,ow,bf⟩] post).length=pre.length+2+post.length:=by rw[MR];rfl
 have ha:(Wi pre [zq T B pre.length ⟨u,ow,bf⟩,wL ⟨u,ow,bf⟩] post)[pre.length]? =some (zq T B pre.length ⟨u,ow,bf⟩):=by rw[Xu _ _ _ BY];rfl
 refine FS 20 [] 0x10a0d3bf9156c9aa57d1bf572245e4b8c75711c5f036e8508a162d69952762ddc0f6ca909b46281373511afada0a71087e ?_
 have hB':=hB
 cases u with
 |true=>
  have e:zq T B pre.length ⟨true,ow,bf⟩=.ref B pre.length:=rfl
  rw[e]at hB' hB
  rw[VT hB]at hq
  refine Xf4 hB' ?_
  exact⟨fun h=>h.elim,fun _ _=>hq⟩
 |false=>
  have e:zq T B pre.length ⟨false,ow,bf⟩=.oQ T:=rfl
  rw[e]at hB' ha hl
  refine Xf5 hB' cE ?_
  refine⟨fun _=>⟨K_,ahn,T,ha,by rw[hl];exact lB,hq⟩,fun h=>F_⟩
def aG(b:Bk)(c:UInt8):Option (WK×Bk):=
 a8 (b.own=true)<|
 a8 (b.buf.b.length+1<=room)<|
 some (WK.mk,⟨true,true,⟨b.buf.b++[c]⟩⟩)
def b8{b_0:Bk}{c_1:UInt8}{B0:Nat}{preB0 postB0:List AV}{oB0 TB0:Nat}{s:ae}{Q:List AV->ae->Prop}(hB0:s B0=some (.cells (Wi preB0 [zq TB0 B0 oB0 b_0,wL b_0] postB0)))(eB0:preB0.length=oB0)(lB0:LB prog TB0 (preB0.length+2+postB0.length) oB0 243=true):
 ok (aG b_0 c_1) (fun r=>Q [.mw] (s.set B0 (.cells (Wi preB0 [zq TB0 B0 oB0 r.2,wL r.2] postB0))))->FN prog 233 [.ref B0 oB0,.int .u8 c_1.toNat] s Q:=by
 unfold aG
 rintro⟨r,h1,h2⟩
 unfold a8 at h1
 split at h1<;>try(cases h1;done)
 rename_i how
 split at h1<;>try(cases h1;done)
 rename_i hrm
 injection h1 with h1
 subst h1
 subst eB0
 obtain⟨u,ow,bf⟩:=b_0
 obtain rfl:ow=true:=how
 refine FS 17 [⟨4,true,none⟩] 0x7259852fe6bdb49662001ace702ade5034e1033af387060d667ec8ef33ad30c2db2d49307eaeb9241671083fa ?_
 refine Xf6 ?_
 refine Ip hB0 rfl lB0 ?_
 have e1:wL ⟨u,true,bf⟩=.bb 5 bf.b.length (flat bf.b):=rfl
 rw[e1]
 refine Xf7 cE ?_
 rw[V3 _ _ _ _ _ BY]
 refine Xf7 cE ?_
 have e2:wL ⟨true,true,⟨bf.b++[c_1]⟩⟩=.bb 5 (bf.b.length+1) (flat bf.b++[.int .u8 c_1.toNat]):=by
  show AV.bb 5 (bf.b++[c_1]).length (flat (bf.b++[c_1]))=_
  rw[cT,List.length_append];rfl
 refine⟨by rw[Nat.mul_one];exact hrm,?_⟩
 have h3:Q [.mw] (s.set B0 (.cells (Wi preB0 [.ref B0 preB0.length,wL ⟨true,true,⟨bf.b++[c_1]⟩⟩] postB0))):=h2
 rw[e2]at h3
 exact h3
def bT(b:Bk):Option (bg×Bk):=a8 (b.own=true/\b.buf.b.length<=room)<|some (b.buf,⟨b.used,false,b.buf⟩)
set_option maxHeartbeats 2000000 in
set_option maxRecDepth 100000 in
def J9{w:World}{B o:Nat}(hc:w.cell? ⟨B,o+1,none⟩=some (.slice none 0 0)):
 Calls prog 232 #[.pointer (some ⟨B,o,none⟩)] w fun e w'=>e=.returned (.string ⟨#[]⟩)/\w'=w.drew:=by
 have hUS:(Builtin.unsafeString_ #[355,3] 9 #[.pointer none,.int .i64 0]).run prog w.drew=.ok (.string .empty) w.drew:=Lib.run_unsafeString_none _ _ _ _ none
 have hSD:(Builtin.unsafeSliceData_ #[22] 355 #[.slice none 0 0]).run prog w.drew=.ok (.pointer none) w.drew:=Lib.run_unsafeSliceData_nil _ _ _ _ _
 have c1:w.drew.cell? ⟨B,o+1,none⟩=some (.slice none 0 0):=hc
 have mixed:=mix
 go_enter Go.Proofs.Tryz.func232,(show Go.Proofs.Tryz.f232.ntmps=14 from rfl)
 go_wp2
 go_region
 all_goals(go_wp2;go_ret;exact⟨rfl,rfl⟩)
set_option maxHeartbeats 2000000 in
set_option maxRecDepth 100000 in
def Ka{w:World}{B o g cap:Nat}{cur:Array Value}{fz:Nat×Nat}{l:List UInt8}(hc:w.cell? ⟨B,o+1,none⟩=some (.slice (some ⟨g,0,none⟩) l.length cap))(hg:w.heap[g]? =some (.cells cur 5 fz))(h0:l≠[])(fh:cap≠0)(hsz:l.length<=cur.size)(hm:l.length<=9223372036854775807)
 (dG:∀(j:Nat)(x:UInt8),l[j]? =some x->w.cell? ⟨g,j,none⟩=some (.int .u8 x.toNat)):
 Calls prog 232 #[.pointer (some ⟨B,o,none⟩)] w fun e w'=>e=.returned (.string ⟨l.toArray⟩)/\w'=w.drew.freeze ⟨g,0,none⟩ l.length:=by
 have hUS:(Builtin.unsafeString_ #[355,3] 9 #[.pointer (some ⟨g,0,none⟩),.int .i64 l.length]).run prog w.drew=.ok (.string ⟨l.toArray⟩) (w.drew.freeze ⟨g,0,none⟩ l.length):=
  Lib.run_unsafeString_row w.drew 355 3 9 5 By By g cur.size (by have hg':w.drew.heap[g]? =some (.cells cur 5 fz):=hg;simp[World.shape?,hg']) l h0 hsz hm (fun j x hj=>by
   have:=dG j x hj
   simp only[Addr.add,Nat.zero_add]
   split
   ·rename_i e;subst e;exact this
   ·exact this)
 have hSD:(Builtin.unsafeSliceData_ #[22] 355 #[.slice (some ⟨g,0,none⟩) l.length cap]).run prog w.drew=.ok (.pointer (some ⟨g,0,none⟩)) w.drew:=Lib.run_unsafeSliceData_row _ _ _ _ _ _ fh
 have c1:w.drew.cell? ⟨B,o+1,none⟩=some (.slice (some ⟨g,0,none⟩) l.length cap):=hc
 have mixed:=mix
 clear dG hc hm hsz fh
 go_enter Go.Proofs.Tryz.func232,(show Go.Proofs.Tryz.f232.ntmps=14 from rfl)
 go_wp2
 go_region
 all_goals(go_wp2;go_ret;exact⟨rfl,rfl⟩)
end Go.AB
end
section
set_option maxRecDepth 4000
namespace Go.AB
open Go
open Go.Proofs.Tryz (prog)
def AU{w:World}{g n:Nat}{c:Array Value}{t:TypeId}{fz:Nat×Nat}(hg:w.heap[g]? =some (.cells c t fz)):
 (∀b,b≠g->(w.freeze ⟨g,0,none⟩ n).heap[b]? =w.heap[b]?)/\(w.freeze ⟨g,0,none⟩ n).heap.size=w.heap.size/\∃fz',(w.freeze ⟨g,0,none⟩ n).heap[g]? =some (.cells c t fz'):=by
 unfold World.freeze
 split
 ·exact⟨fun _ _=>rfl,rfl,fz,hg⟩
 ·refine⟨fun b hb=>?_,BY,?_⟩
  ·simp only[Array.getElem?_modify]
   rw[if_neg AT]
  ·simp only[Array.getElem?_modify,if_true,hg,Option.map_some]
   exact⟨_,rfl⟩
def K1{w:World}{g n:Nat}{c:Array Value}{t:TypeId}{fz:Nat×Nat}(hg:w.heap[g]? =some (.cells c t fz))(b k:Nat):(w.freeze ⟨g,0,none⟩ n).cell? ⟨b,k,none⟩=w.cell? ⟨b,k,none⟩:=by
 obtain⟨h1,_,fz',h2⟩:=AU (n:=n) hg
 by_cases hb:b=g
 ·subst hb
  rw[cell_of_row _ h2,cell_of_row _ hg]
 ·exact World.cell?_of_block (h1 b hb)
def VX{G:Gh}{w:World}{s:ae}{B o n:Nat}{cs:List AV}{ds:List AV}(hg:cq G w)(hs:ba G w s)(hB:s B=some (.cells cs))(ho:cs[o]? =some (.bb 5 n ds)):
 ba (G.ib (.cell B o) .frame) w (s.set B (.cells (setAt cs o [.sl false 1 n ds])))/\cq (G.ib (.cell B o) .frame) w/\aI G w (G.ib (.cell B o) .frame) w:=by
 have hne:∀b,G.O b≠.cell B o->(G.ib (.cell B o) .frame).O b=G.O b:=fun b hb=>by simp[hb]
 have ks:cq (G.ib (.cell B o) .frame) w:=⟨fun b hb=>by rw[hne b (by rw[hg.jI b hb];simp),hg.jI b hb],hg.jY⟩
 have bK:aI G w (G.ib (.cell B o) .frame) w:=⟨rfl,rfl,rfl,Nat.le_refl _,Nat.le_refl _,fun _ _=>Nat.le_refl _,fun _ _ _ _=>rfl,fun _ _ _=>rfl,fun b _ hb=>⟨by rw[hne b W_,hb],rfl⟩,fun b _ hb=>⟨by rw[hne b W_,hb],rfl⟩⟩
 refine⟨?_,ks,bK⟩
 obtain⟨q2,q3,c,t,q4,q5,q6⟩:=hs B _ hB
 intro b' ob hb'
 unfold ae.set at hb'
 by_cases hbg:b'=B
 ·rw[if_pos hbg]at hb';injection hb' with hb';subst hb';subst hbg
  exact⟨by rw[hne b' T_,q2],q3,c,t,q4,dY.take (av:=.bb 5 n ds) q5 ho,Gk.setAt q6 (by intro z hz;rw[List.mem_singleton]at hz;subst hz;rfl) o⟩
 ·rw[if_neg hbg]at hb'
  obtain⟨r1,r2,r3⟩:=hs b' ob hb'
  refine⟨by rw[hne b' (by rw[r1];simp),r1],r2,?_⟩
  cases ob with
  |cells cs'=>
   obtain⟨c0,t0,r4,r5,r6⟩:=r3
   exact⟨c0,t0,r4,r5.mono (fun _ _ hv=>hv) (fun b'' j vB=>⟨by rw[hne b'' (by rw[vB];intro e;injection e with e _;exact hbg e),vB],rfl,rfl⟩),r6⟩
  |map es=>exact r3
theorem AS:∀l:List UInt8,flat l=l.map fun c=>AV.int .u8 c.toNat
 |[]=>rfl
 |c::l=>by rw[List.map_cons,<-AS l];rfl
theorem KX(l:List UInt8)(j:Nat):(flat l)[j]? =l[j]?.map fun c=>AV.int .u8 c.toNat:=by rw[AS,List.getElem?_map]
def gr{b_0:Bk}{B0:Nat}{preB0 postB0:List AV}{oB0 TB0:Nat}{s:ae}{Q:List AV->ae->Prop}(hB0:s B0=some (.cells (Wi preB0 [zq TB0 B0 oB0 b_0,wL b_0] postB0)))(eB0:preB0.length=oB0)(lB0:LB prog TB0 (preB0.length+2+postB0.length) oB0 243=true):
 ok (bT b_0) (fun r=>Q [.str r.1.b] (s.set B0 (.cells (Wi preB0 [zq TB0 B0 oB0 r.2,wL r.2] postB0))))->FN prog 232 [.ref B0 oB0] s Q:=by
 unfold bT
 rintro⟨r,h1,h2⟩
 unfold a8 at h1
 split at h1<;>try(cases h1;done)
 rename_i how
 injection h1 with h1
 subst h1
 subst eB0
 obtain⟨u,ow,⟨l⟩⟩:=b_0
 obtain⟨how,cg⟩:=how
 obtain rfl:ow=true:=how
 have cg:l.length<=room:=cg
 intro G w vs hg T8 hs ha
 have hvs:vs= #[.pointer (some ⟨B0,preB0.length,none⟩)]:=by
  obtain⟨hl,hr⟩:=ha
  obtain⟨vl⟩:=vs
  match vl,hl with
  |[v],_=>rw[VR.gG (hr 0 _ v rfl rfl)]
  |[],hl=>simp at hl
  |_::_::_,hl=>simp at hl
 subst hvs
 let A:=zq TB0 B0 preB0.length ⟨u,true,⟨l⟩⟩
 have hbb:(Wi preB0 [A,wL ⟨u,true,⟨l⟩⟩] postB0)[preB0.length+1]? =some (.bb 5 l.length (flat l)):=by rw[abY _ _ _ _ BY];rfl
 have C7:setAt (Wi preB0 [A,wL ⟨u,true,⟨l⟩⟩] postB0) (preB0.length+1) [.sl false 1 l.length (flat l)]=Wi preB0 [A,.sl false 1 l.length (flat l)] postB0:=by rw[VS _ _ _ _ _ BY];rfl
 obtain⟨k1,k2,k3⟩:=VX hg hs hB0 hbb
 rw[C7]at k1
 have hq:Q [.str l] (s.set B0 (.cells (Wi preB0 [A,.sl false 1 l.length (flat l)] postB0))):=h2
 obtain⟨q2,q3,c,t,q4,q5,q6⟩:=hs B0 _ hB0
 have hlt:preB0.length+1<c.size:=by rw[q5.1];exact(List.getElem?_eq_some_iff.1 hbb).1
 have dG:=Array.getElem?_eq_getElem hlt
 obtain⟨hv,hw⟩:=q5.2 _ _ _ hbb dG
 have hwc:w.cell? ⟨B0,preB0.length+1,none⟩=some c[preB0.length+1]:=by rw[cell_of_row w q4,dG]
 generalize c[preB0.length+1]=v at hv hw hwc
 cases l with
 |nil=>
  obtain rfl:=VR.XX hv
  refine(J9 hwc).mono fun e w'⟨he,hw'⟩=>?_
  subst hw'
  refine⟨_,_,_,G.ib (.cell B0 (preB0.length+1)) .frame,he,hq,⟨k2.jI,k2.jY⟩,?_,⟨.str _,trivial⟩,k3.trans (aI.drew _ w)⟩
  exact k1.mono k2 (aI.drew _ w) (fun _ hb=>⟨hb,rfl,rfl⟩) (fun _ _ _ _ hc=>⟨hc,rfl,rfl⟩)
 |cons x l'=>
  generalize hL:x::l'=L at*
  have hL0:L≠[]:=by rw[<-hL];simp
  have jW:0<L.length:=by rw[<-hL];simp
  rcases VR.gR (VR.Uo hv)with⟨_,h0,_⟩|⟨g,off,cap,rfl,hcl,hRb,fh,hat⟩
  ·omega
  ·obtain⟨b',Rm,cur,fz,e1,e2,e3,e4,e5,e6⟩:=hw _ _ _ rfl (.inr jW)
   injection e1 with e1;injection e1 with e1 e1' _
   subst e1;subst e1'
   obtain rfl:off=0:=e6.2.2.1
   have pg:∀(j:Nat)(y:UInt8),L[j]? =some y->w.cell? ⟨g,j,none⟩=some (.int .u8 y.toNat):=by
    intro j y hj
    obtain⟨uu,u1,u2,_⟩:=hat
    have hfj:(flat L)[j]? =some (.int .u8 y.toNat):=by rw[KX,hj];rfl
    have:=u1 j _ hfj
    rw[Nat.zero_add]at this
    rw[this,VR.b9 (u2 j _ hfj)]
   refine(Ka hwc e4 hL0 AT (by rw[e5];omega) (by have:room=140737488355328:=rfl;omega) pg).mono fun e w'⟨he,hw'⟩=>?_
   subst hw'
   obtain⟨f1,f2,fz',f3⟩:=AU (w:=w.drew) (n:=L.length) e4
   have hgO:G.O g=.cell B0 (preB0.length+1):=e2
   let G':=G.ib (.cell B0 (preB0.length+1)) .frame
   have agj:G'.O g=.frame:=by simp[G',hgO]
   have hfc:=K1 (w:=w.drew) (n:=L.length) e4
   have hne:∀b,G.O b≠.cell B0 (preB0.length+1)->G'.O b=G.O b:=fun b hb=>by simp[G',hb]
   have bK:aI G w G' (w.drew.freeze ⟨g,0,none⟩ L.length):=by
    refine⟨?_,?_,?_,?_,?_,fun _ _=>Nat.le_refl _,fun b k _ _=>hfc b k,fun b _ hb=>?_,fun b _ hb=>⟨?_,rfl⟩,fun b _ hb=>⟨?_,rfl⟩⟩
    ·unfold World.freeze;split<;>rfl
    ·unfold World.freeze;split<;>rfl
    ·unfold World.freeze;split<;>rfl
    ·unfold World.freeze;split<;>exact Nat.le_succ _
    ·rw[f2];exact Nat.le_refl _
    ·exact f1 b (fun e=>by subst e;rw[hgO]at hb;rcases hb with hb|hb<;>cases hb)
    ·rw[hne b W_,hb]
    ·rw[hne b W_,hb]
   have hvr:∀a v,VR w G'.R a v->VR (w.drew.freeze ⟨g,0,none⟩ L.length) G'.R a v:=fun a v h=>VR.mono (w:=w) (fun _=>Nat.le_refl _) (fun b k _=>hfc b k) h
   refine⟨_,_,_,G',he,hq,⟨fun b hb=>?_,fun b hb=>?_⟩,?_,⟨.str _,trivial⟩,bK⟩
   ·rw[f2]at hb;exact k2.jI b hb
   ·rw[f2]at hb;exact k2.jY b hb
   ·refine k1.yI hvr (fun b hb=>⟨hb,rfl,f1 b (fun e=>by subst e;rw[agj]at hb;cases hb)⟩) (fun b c' j _ hc=>⟨hc,rfl,f1 c' (fun e=>by subst e;rw[agj]at hc;cases hc)⟩)
end Go.AB
end
