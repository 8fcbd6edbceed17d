/- A part of the proof. -/
import Derived.Test.YtkeagffgdajggaaGreatD10
import Derived.Laws.RangeAny
import Derived.LoopTactic
import Derived.Lib.Bytealg
import Derived.Laws.Externs
import Derived.Lib.Walk
import Derived.Test.YtkeagffgdajggaaGreatD11
import Derived.Lib.BytesEntry
set_option linter.unusedSimpArgs false
set_option linter.unusedVariables false
section
namespace Go.AB
open Go
def fa(d o x:Nat):ai:=⟨some d,.fieldAddr o (.t x),none⟩
def ld(d n x:Nat):ai:=⟨some d,.load n false (.t x),none⟩
def lm(d n x:Nat):ai:=⟨some d,.load n true (.t x),none⟩
def cZ(d:Nat)(a:AV):ai:=⟨some d,.ib false (.c a),none⟩
def mi(d:Nat)(n:Int):ai:=⟨some d,.ib false (.c (.int .i64 n)),none⟩
def c1(d f x:Nat):ai:=⟨some d,.call f [.t x],none⟩
def c2(d f x y:Nat):ai:=⟨some d,.call f [.t x,.t y],none⟩
def c3(d f x y z:Nat):ai:=⟨some d,.call f [.t x,.t y,.t z],none⟩
def ex(d x k:Nat):ai:=⟨some d,.extract (.t x) k,none⟩
def st(n p v:Nat):ai:=⟨none,.store n (.t p) (.t v),none⟩
def bn(d:Nat)(o:BinOp)(x:Nat)(n:Int):ai:=⟨some d,.bin o (.t x) (.c (.int .i64 n)),none⟩
def bu(d:Nat)(o:BinOp)(x:Nat)(n:Int):ai:=⟨some d,.bin o (.t x) (.c (.int .u8 n)),none⟩
def bt(d:Nat)(o:BinOp)(x y:Nat):ai:=⟨some d,.bin o (.t x) (.t y),none⟩
def nc(d x:Nat):ai:=⟨some d,.nilCheck (.t x),none⟩
def le(d k x:Nat):ai:=⟨some d,.len k (.t x),none⟩
def no(d x:Nat):ai:=⟨some d,.un .not (.t x),none⟩
def pf(d x y:Nat):ai:=⟨some d,.pick (.t x) (.t y) (.c (.bool false)),none⟩
def po(d x y:Nat):ai:=⟨some d,.pick (.t x) (.c (.bool true)) (.t y),none⟩
def fg(d t:Nat)(w:Bool)(o x:Nat):ai:=⟨some d,.fieldAddr o (.t x),some (t,w)⟩
def lg(d t:Nat)(w:Bool)(n x:Nat):ai:=⟨some d,.load n false (.t x),some (t,w)⟩
def ia(d:Nat)(z:List AV)(x y:Nat):ai:=⟨some d,.indexAddr z (.t x) (.t y),none⟩
def gj:List AV:=[.int .i64 0,.int .i64 0,.str [],.sl true 4 0 []]
def pr:List AV:=[.int .i64 0,.int .i64 0,.str [],.sl false 4 0 []]
def qR:List AV:=[.int .i64 0,.int .i64 0,.str [],.sl true 4 0 [],.bool false,.str []]
def TR:List AV:=[.int .i64 0,.int .i64 0,.str [],.sl false 4 0 [],.bool false,.str []]
def Ce:List AV:=[.int .i64 0,.int .i64 0,.int .i64 0,.int .i64 0,.int .i64 0,.str [],.sl true 4 0 [],.str []]
def Fz:List AV:=[.int .i64 0,.sl true 1 0 [],.int .i64 0,.int .i64 0,.str [],.sl true 4 0 []]
def jv:List AV:=[.int .i64 0]
def gi(d x:Nat):ai:=⟨some d,.sH (.t x),none⟩
def rG(d n x y:Nat):ai:=⟨some d,.slice n (.t x) (some (.t y)) none none,none⟩
def OP(d n x y:Nat):ai:=⟨some d,.slice n (.t x) none (some (.t y)) none,none⟩
def Ec(d n m x y:Nat):ai:=⟨some d,.append n m (.t x) (.t y),none⟩
def Vc(d f x y z w:Nat):ai:=⟨some d,.call f [.t x,.t y,.t z,.t w],none⟩
def qpk(d x y z:Nat):ai:=⟨some d,.pick (.t x) (.t y) (.t z),none⟩
def rF(d t:Nat)(w:Bool)(o:BinOp)(x y:Nat):ai:=⟨some d,.bin o (.t x) (.t y),some (t,w)⟩
def ju(d t:Nat)(w:Bool)(o:BinOp)(x:Nat)(n:Int):ai:=⟨some d,.bin o (.t x) (.c (.int .i64 n)),some (t,w)⟩
def SI(d t:Nat)(w:Bool)(f x:Nat):ai:=⟨some d,.call f [.t x],some (t,w)⟩
def qd2(d t:Nat)(w:Bool)(f x y:Nat):ai:=⟨some d,.call f [.t x,.t y],some (t,w)⟩
def ae(l:List ai)(v:List Nat)(k:IC):IC:=.seq (.bJ none l v) k
attribute[go_sem] gj pr qR TR Ce Fz jv gi rG OP Ec Vc qpk rF ju SI qd2 ae fa ld lm cZ mi c1 c2 c3 ex st bn bu bt nc le no pf po fg lg ia
@[go_sem]abbrev sF{α:Type}[aP α](n:Nat)(l:List α):AV:=.sl false n l.length (flat l)
@[go_sem]abbrev sT{α:Type}[aP α](n:Nat)(l:List α):AV:=.sl true n l.length (flat l)
end Go.AB
end
section
namespace Go.AB
open Go
theorem Ln{S O:Type}{body:S->Option (S⊕O)}(I:S->Prop)(μ:S->Nat)(Rn:O->Prop)
 (step:∀s,I s->∃x,body s=some x/\(match x with|.inl t=>I t/\μ t<μ s|.inr o=>Rn o)):∀(n:Nat)(s:S),I s->μ s<n->∃o,dg body n s=some o/\Rn o
 |0,_,_,h=>absurd h (Nat.not_lt_zero _)
 |n+1,s,hi,hn=>by
  obtain⟨x,hx,h⟩:=step s hi
  cases x with
  |inl t=>
   obtain⟨o,h1,h2⟩:=Ln I μ Rn step n t h.1 (by have:=h.2;omega)
   exact⟨o,by unfold dg;rw[hx];exact h1,h2⟩
  |inr o=>exact⟨o,by unfold dg;rw[hx],h⟩
theorem ma{S O:Type}{body:S->Option (S⊕O)}{s0:S}(I:S->Prop)(μ:S->Nat)(Rn:O->Prop)(h0:I s0)(hμ:μ s0<18446744073709551616)
 (step:∀s,I s->∃x,body s=some x/\(match x with|.inl t=>I t/\μ t<μ s|.inr o=>Rn o)):∃o,iter body s0=some o/\Rn o:=
 Ln I μ Rn step _ s0 h0 hμ
theorem iter_eq{S O:Type}{body:S->Option (S⊕O)}{s0:S}{o:O}(I:S->Prop)(μ:S->Nat)(h0:I s0)(hμ:μ s0<18446744073709551616)
 (step:∀s,I s->(∃t,body s=some (.inl t)/\I t/\μ t<μ s)\/body s=some (.inr o)):iter body s0=some o:=by
 obtain⟨p,h1,h2⟩:=ma I μ (fun p=>p=o) h0 hμ fun s hs=>by
  rcases step s hs with⟨t,h1,h2⟩|h1
  ·exact⟨_,h1,h2⟩
  ·exact⟨_,h1,rfl⟩
 rw[h1,h2]
theorem aI{n:Int}(h1:-9223372036854775808<=n)(h2:n<=9223372036854775807):bd n=n:=by
 unfold bd IntKind.wrap
 have:(2^IntKind.i64.bits:Int)=18446744073709551616:=by decide
 have h3:(2^(IntKind.i64.bits -1):Int)=9223372036854775808:=by decide
 rw[this,h3]
 simp only[IntKind.signed,Bool.true_and,decide_eq_true_eq]
 split<;>omega
@[simp]theorem aK{α β:Type}(a:α)(f:α->Option β):aJ (some a) f=f a:=rfl
theorem dE{α:Type}{c:Prop}[Decidable c](h:c)(o:Option α):aB c o=o:=if_pos h
@[simp]theorem T8{α:Type}(z:α)(o:Option α):mB true z o=o:=rfl
@[simp]theorem T7{α:Type}(z:α)(o:Option α):mB false z o=some z:=rfl
theorem oP{α:Type}[aP α]{l:List α}{i:Int}(h:i.toNat<l.length):ix l i=l[i.toNat]:=by unfold ix;rw[List.getD_eq_getElem?_getD,List.getElem?_eq_getElem h];rfl
theorem fu{α:Type}[aP α]{l:List α}{k:Nat}(h:k<l.length):ix l (k:Int)=l[k]:=by rw[oP (by simpa using h)];simp
end Go.AB
end
section
set_option maxRecDepth 4000
namespace Go.AB
open Go
open Go.Proofs.Tryz (prog)
open Go.RowKit
theorem IT{w:World}{R:Nat->Nat}{a b:AV}{vs:Array Value}(h:mE w R [a,b] vs):∃v0 v1,vs= #[v0,v1]/\VR w R a v0/\VR w R b v1:=by
 obtain⟨hl,hr⟩:=h
 obtain⟨l⟩:=vs
 match l,hl with
 |[v0,v1],_=>exact⟨v0,v1,rfl,hr 0 _ _ rfl rfl,hr 1 _ _ rfl rfl⟩
 |[],hl=>simp at hl
 |[_],hl=>simp at hl
 |_::_::_::_,hl=>simp at hl
theorem QT{w:World}{R:Nat->Nat}{a:AV}{vs:Array Value}(h:mE w R [a] vs):∃v0,vs= #[v0]/\VR w R a v0:=by
 obtain⟨hl,hr⟩:=h
 obtain⟨l⟩:=vs
 match l,hl with
 |[v0],_=>exact⟨v0,rfl,hr 0 _ _ rfl rfl⟩
 |[],hl=>simp at hl
 |_::_::_,hl=>simp at hl
theorem Ex(a:ByteArray)(c:Int)(w:World):Calls prog 178 #[.string a,.int .u8 c] w fun e w'=>e=.returned (.int .i64 (Lib.indexByte a.data.toList c.toNat.toUInt8))/\w'=w:=by
 have mixed:=mix
 have t3:prog.underlying 3=some (.int .i64):=by kernel_rfl
 have u3:=run_underlying t3
 go_enter Go.Proofs.Tryz.func178,(show Go.Proofs.Tryz.f178.ntmps=8 from rfl)
 go_wp2
 rw[run_callFunc_extern Go.Proofs.Tryz.func214 (by kernel_rfl) (by kernel_rfl) (by kernel_rfl) (e:=Extern.BytealgIndexByte.indexByte) (by kernel_rfl),Lib.run_indexByteString]
 simp only[Result.andThen]
 rw[Oper.upon_value]
 go_wp2
 go_ret
 exact⟨rfl,rfl⟩
def eQ(s:ar)(c:UInt8):Option Int:=some (Lib.indexByte s.b c)
theorem rN{a:ar}{c:UInt8}{s:ab}{Q:List AV->ab->Prop}(h:ok (eQ a c) fun r=>Q [.int .i64 r] s):FN prog 178 [.str a.b,.int .u8 c.toNat] s Q:=by
 unfold eQ at h
 rw[aF]at h
 intro G w vs h1 h2 h3 h4
 obtain⟨v0,v1,rfl,k0,k1⟩:=IT h4
 rw[VR.fm k0,VR.cF k1]
 refine(Ex _ _ w).mono fun e w'⟨he,hw⟩=>?_
 subst hw
 refine⟨_,_,s,G,he,h,h1,h3,⟨?_,trivial⟩,aC.refl G w'⟩
 have e:((c.toNat:Int).toNat).toUInt8=c:=by simp
 rw[e]
 exact .int _ _
theorem rM{a:ar}{c:UInt8}{s:ab}{r:Int}(h:eQ a c=some r):FE prog 178 [.str a.b,.int .u8 c.toNat] s [.int .i64 r] s:=rN ⟨r,h,rfl,rfl⟩
theorem MC(a:ByteArray)(c:UInt8)(w:World):Calls prog 351 #[.string a,.string ⟨#[c]⟩] w fun e w'=>e=.returned (.int .i64 (Lib.indexByte a.data.toList c))/\w'=w:=by
 have mixed:=mix
 have t3:prog.underlying 3=some (.int .i64):=by kernel_rfl
 have u3:=run_underlying t3
 have t9:prog.underlying 9=some .string:=by kernel_rfl
 have u9:=run_underlying t9
 go_enter Go.Proofs.Tryz.func351,(show Go.Proofs.Tryz.f351.ntmps=143 from rfl)
 go_wp2
 ·rename_i hc
  go_ret
  refine⟨?_,rfl⟩
  have e:a.toList=[c]:=(eq_of_beq hc).symm
  have e2:a.data.toList=[c]:=by
   obtain⟨⟨l⟩⟩:=a
   simpa using e
  rw[e2]
  simp[Lib.indexByte]
 ·rw[run_callFunc_extern Go.Proofs.Tryz.func214 (by kernel_rfl) (by kernel_rfl) (by kernel_rfl) (e:=Extern.BytealgIndexByte.indexByte) (by kernel_rfl),Lib.run_indexByteString]
  simp only[Result.andThen]
  rw[Oper.upon_value]
  go_wp2
  go_ret
  exact⟨rfl,rfl⟩
def gC(s sub:ar):Option Int:=aB (sub.b.length=1) (some (Lib.indexByte s.b (ix sub.b 0)))
theorem wZ{a b:ar}{s:ab}{Q:List AV->ab->Prop}(h:ok (gC a b) fun r=>Q [.int .i64 r] s):FN prog 351 [.str a.b,.str b.b] s Q:=by
 unfold gC at h
 rw[dN,aF]at h
 obtain⟨hl,h⟩:=h
 obtain⟨c,hc⟩:∃c,b.b=[c]:=List.length_eq_one_iff.1 hl
 rw[hc]at h⊢
 intro G w vs h1 h2 h3 h4
 obtain⟨v0,v1,rfl,k0,k1⟩:=IT h4
 rw[VR.fm k0,VR.fm k1]
 refine(MC _ c w).mono fun e w'⟨he,hw⟩=>?_
 subst hw
 exact⟨_,_,s,G,he,h,h1,h3,⟨.int _ _,trivial⟩,aC.refl G w'⟩
theorem wY{a b:ar}{s:ab}{r:Int}(h:gC a b=some r):FE prog 351 [.str a.b,.str b.b] s [.int .i64 r] s:=wZ ⟨r,h,rfl,rfl⟩
def nT(c:UInt8):Bool:=decide (48<=c.toNat)&&decide (c.toNat<=57)
theorem Lo{G:Gh}{w:World}{s:ByteArray}{pos:Nat}(h:cw G w):cw (G.sR w.heap.size .none 0) (w.iter s pos)/\aC G w (G.sR w.heap.size .none 0) (w.iter s pos)/\(∀{st:ab},aW G w st->aW (G.sR w.heap.size .none 0) (w.iter s pos) st):=by
 obtain⟨q1,q2,q3⟩:=ie h (.stringIter s pos) .none 0
 refine⟨q1,q2,fun hs=>hs.mono h q2 (fun b hb=>?_) (fun b c j _ hc=>?_)⟩
 ·obtain⟨k1,k2,k3⟩:=q3 b (by rw[hb];simp)
  exact⟨k1.trans hb,k2,k3⟩
 ·obtain⟨k1,k2,k3⟩:=q3 c (by rw[hc];simp)
  exact⟨k1.trans hc,k2,k3⟩
theorem Tr(s:ByteArray)(pos:Nat)(h:pos<s.size):s.data.toList.drop pos=(s[pos]'h)::s.data.toList.drop (pos+1):=by
 have hl:pos<s.data.toList.length:=by simpa using h
 rw[List.drop_eq_getElem_cons hl]
 rfl
theorem Ub(s:ByteArray)(w:World){r:Bool}(hr:s.data.toList.all nT=r):Calls prog 290 #[.string s] w fun e w'=>e=.returned (.bool r)/\∃pos,w'=w.iter s pos:=by
 have mixed:=mix
 have t3:prog.underlying 3=some (.int .i64):=by kernel_rfl
 have u3:=run_underlying t3
 have t9:prog.underlying 9=some .string:=by kernel_rfl
 have u9:=run_underlying t9
 go_enter Go.Proofs.Tryz.func290,(show Go.Proofs.Tryz.f290.ntmps=13 from rfl)
 go_wp2
 go_loopw [] (fun w'=>∃pos,w'=w.iter s pos/\(s.data.toList.drop pos).all nT=r) (fun w'=>s.size -w'.iterPos w.heap.size)
 case atStart=>exact⟨0,rfl,hr⟩
 case round=>
  obtain⟨pos,rfl,eH⟩:=hrel
  by_cases hp:pos<s.size
  ·rw[Tr s pos hp,List.all_cons]at eH
   by_cases ha:(s[pos]'hp).toNat<128
   ·have hnx:∀ty,(Instr.next (.pointer (some ⟨w.heap.size,0,none⟩)) true ty).run prog (w.iter s pos)=_:=fun ty=>run_next_ascii w s pos ty hp ha
    generalize(s[pos]'hp)=c at hnx eH ha
    go_wp2
    all_goals first
     |(go_ret
       have hc:nT c=false:=by unfold nT;simp;omega
       rw[hc]at eH
       rw[<-eH]
       exact⟨rfl,_,rfl⟩)
     |(refine⟨⟨pos+1,rfl,?_⟩,by omega⟩
       have hc:nT c=true:=by unfold nT;simp;omega
       rw[hc,Bool.true_and]at eH
       exact eH)
   ·have hnx:∀ty,(Instr.next (.pointer (some ⟨w.heap.size,0,none⟩)) true ty).run prog (w.iter s pos)=_:=fun ty=>run_next_any w s pos ty hp
    have hd:=(decode_high s pos hp (by omega)).1
    have hd2:=decode_le s pos
    have hc:nT (s[pos]'hp)=false:=by unfold nT;simp;omega
    rw[hc]at eH
    generalize(Utf8.decode s pos).1=d at hnx hd hd2
    go_wp2
    all_goals first
     |omega
     |(go_ret
       rw[<-eH]
       exact⟨rfl,_,rfl⟩)
     |(exfalso;omega)
  ·have hnx:∀ty,(Instr.next (.pointer (some ⟨w.heap.size,0,none⟩)) true ty).run prog (w.iter s pos)=_:=fun ty=>run_next_end w s pos ty hp
   rw[List.drop_eq_nil_of_le (by simpa using(by omega:s.size<=pos))]at eH
   go_wp2
   go_ret
   rw[<-eH]
   exact⟨rfl,_,rfl⟩
def tE(s:ar):Option Bool:=some (s.b.all nT)
theorem Sk{a:ar}{s:ab}{Q:List AV->ab->Prop}(h:ok (tE a) fun r=>Q [.bool r] s):FN prog 290 [.str a.b] s Q:=by
 unfold tE at h
 rw[aF]at h
 intro G w vs h1 h2 h3 h4
 obtain⟨v0,rfl,k0⟩:=QT h4
 rw[VR.fm k0]
 refine(Ub ⟨a.b.toArray⟩ w (r:=a.b.all nT) (by simp)).mono fun e w'⟨he,pos,hw⟩=>?_
 subst hw
 obtain⟨q1,q2,q3⟩:=Lo (s:=⟨a.b.toArray⟩) (pos:=pos) h1
 exact⟨_,_,s,_,he,h,q1,q3 h3,⟨.bool _,trivial⟩,q2⟩
theorem HI{a:ar}{s:ab}{r:Bool}(h:tE a=some r):FE prog 290 [.str a.b] s [.bool r] s:=Sk ⟨r,h,rfl,rfl⟩
end Go.AB
end
section
set_option maxRecDepth 4000
namespace Go.AB
open Go Go.RowKit
open Go.Proofs.Tryz (prog)
def Tn(st:Int×Bool)(c:UInt8):Int×Bool:=
 let rC:=st.2||decide (st.1>(2147483647 -((c.toNat:Int) -48)).tdiv 10)
 (if rC then st.1 else 10*st.1+((c.toNat:Int) -48),rC)
def Pb:List UInt8->Int×Bool->Int×Int
 |[],st=>if st.2 then(0,5)else(st.1,0)
 |c::l,st=>if nT c then Pb l (Tn st c)else(0,11)
def Cf(r:Int×Int)(l:List UInt8)(v4 v5:Value):Prop:=∃(n:Int)(rC:Bool),v4=.int .i64 n/\v5=.bool rC/\0<=n/\n<=2147483647/\Pb l (n,rC)=r
theorem Cf.step{r:Int×Int}{c:UInt8}{l:List UInt8}{n m:Int}{rC o:Bool}(hd:48<=(c.toNat:Int)/\(c.toNat:Int)<=57)(h0:0<=n)(h1:n<=2147483647)(h:Pb l (Tn (n,rC) c)=r)
 (ho:o=(rC||decide (n>(2147483647 -((c.toNat:Int) -48)).tdiv 10)))(hm:m=if o then n else 10*n+((c.toNat:Int) -48)):Cf r l (.int .i64 m) (.bool o):=by
 subst ho;subst hm
 refine⟨_,_,rfl,rfl,?_,?_,h⟩
 ·split<;>omega
 ·split
  ·omega
  ·rename_i hh
   have hh:¬n>(2147483647 -((c.toNat:Int) -48)).tdiv 10:=by simp at hh;omega
   rw[Int.tdiv_eq_ediv_of_nonneg (by omega)]at hh
   omega
theorem Pc{c:Int}(hd:48<=c/\c<=57):((((2147483647 -(((c -48+2147483648)% 4294967296 -2147483648+9223372036854775808)% 18446744073709551616 -9223372036854775808)+9223372036854775808)% 18446744073709551616 -9223372036854775808).tdiv 10+9223372036854775808)% 18446744073709551616 -9223372036854775808)=(2147483647 -(c -48)).tdiv 10:=by
 have e1:((c -48+2147483648)% 4294967296 -2147483648+9223372036854775808)% 18446744073709551616 -9223372036854775808=c -48:=by omega
 rw[e1]
 have e2:(2147483647 -(c -48)+9223372036854775808)% 18446744073709551616 -9223372036854775808=2147483647 -(c -48):=by omega
 rw[e2,Int.tdiv_eq_ediv_of_nonneg (by omega)]
 omega
theorem Wc{c n:Int}(hd:48<=c/\c<=57)(h0:0<=n)(h1:n<=2147483647):((10*n+9223372036854775808)% 18446744073709551616 -9223372036854775808+(((c -48+2147483648)% 4294967296 -2147483648+9223372036854775808)% 18446744073709551616 -9223372036854775808)+9223372036854775808)% 18446744073709551616 -9223372036854775808=10*n+(c -48):=by omega
set_option maxHeartbeats 40000000 in
theorem Mo(s:ByteArray)(w:World){r:Int×Int}(hr:(if s.data.toList=[]then(0,11)else Pb s.data.toList (0,false))=r):Calls prog 291 #[.string s] w fun e w'=>e=.returned (.tuple #[.int .i64 r.1,.int .i64 r.2])/\(w'=w\/∃pos,w'=w.iter s pos):=by
 have mixed:=mix
 have t3:prog.underlying 3=some (.int .i64):=by kernel_rfl
 have u3:=run_underlying t3
 have t9:prog.underlying 9=some .string:=by kernel_rfl
 have u9:=run_underlying t9
 go_enter Go.Proofs.Tryz.func291,(show Go.Proofs.Tryz.f291.ntmps=36 from rfl)
 go_wp2
 ·have hq:= ‹s.toList.isEmpty=true›
  have hc:s.data.toList=[]:=by
   obtain⟨⟨l⟩⟩:=s
   simpa using hq
  rw[if_pos hc]at hr
  subst hr
  go_ret2
  exact⟨rfl,.inl rfl⟩
 have hq:= ‹s.toList.isEmpty=false›
 have hc:s.data.toList≠[]:=by
  obtain⟨⟨l⟩⟩:=s
  simpa using hq
 rw[if_neg hc]at hr
 go_loopw [4,5] (fun v4 v5 w'=>∃(pos:Nat),w'=w.iter s pos/\Cf r (s.data.toList.drop pos) v4 v5) (fun _ _ w'=>s.size -w'.iterPos w.heap.size)
 case atStart=>exact⟨0,rfl,0,false,rfl,rfl,by omega,by omega,hr⟩
 case round=>
  obtain⟨pos,rfl,n,rC,rfl,rfl,hn0,hn1,eH⟩:=hrel
  by_cases hp:pos<s.size
  ·rw[Tr s pos hp,Pb]at eH
   by_cases ha:(s[pos]'hp).toNat<128
   ·have hnx:∀ty,(Instr.next (.pointer (some ⟨w.heap.size,0,none⟩)) true ty).run prog (w.iter s pos)=_:=fun ty=>run_next_ascii w s pos ty hp ha
    generalize(s[pos]'hp)=c at hnx eH ha
    by_cases hdig:48<=(c.toNat:Int)/\(c.toNat:Int)<=57
    ·have hc:nT c=true:=by unfold nT;simp;omega
     rw[if_pos hc]at eH
     cases rC<;>go_wp2
     all_goals first
      |(exfalso;omega)
      |(refine⟨⟨_,_,_,_,⟨pos+1,rfl,?_⟩,rfl,rfl,rfl,rfl⟩,by omega⟩
        first
         |exact Cf.step hdig hn0 hn1 eH rfl rfl
         |(have hx:= ‹(!decide (_<n))=true›
           simp only[Bool.not_eq_true']at hx
           refine Cf.step hdig hn0 hn1 eH (by rw[Pc hdig];rfl) ?_
           rw[hx]
           exact Wc hdig hn0 hn1)
         |(have hx:= ‹(!decide (_<n))=false›
           simp only[Bool.not_eq_false']at hx
           refine Cf.step hdig hn0 hn1 eH (by rw[Pc hdig];rfl) ?_
           rw[hx]
           rfl))
    ·have hc:nT c=false:=by unfold nT;simp;omega
     rw[hc]at eH
     have eH:((0:Int),(11:Int))=r:=eH
     subst eH
     cases rC<;>go_wp2
     all_goals first
      |(exfalso;omega)
      |(go_ret2
        exact⟨rfl,.inr ⟨_,rfl⟩⟩)
   ·have hnx:∀ty,(Instr.next (.pointer (some ⟨w.heap.size,0,none⟩)) true ty).run prog (w.iter s pos)=_:=fun ty=>run_next_any w s pos ty hp
    have hd:=(decode_high s pos hp (by omega)).1
    have hd2:=decode_le s pos
    have hc:nT (s[pos]'hp)=false:=by unfold nT;simp;omega
    rw[hc]at eH
    have eH:((0:Int),(11:Int))=r:=eH
    subst eH
    generalize(Utf8.decode s pos).1=d at hnx hd hd2
    cases rC<;>go_wp2
    all_goals first
     |(exfalso;omega)
     |(go_ret2
       exact⟨rfl,.inr ⟨_,rfl⟩⟩)
  ·have hnx:∀ty,(Instr.next (.pointer (some ⟨w.heap.size,0,none⟩)) true ty).run prog (w.iter s pos)=_:=fun ty=>run_next_end w s pos ty hp
   rw[List.drop_eq_nil_of_le (by simpa using(by omega:s.size<=pos))]at eH
   cases rC<;>go_wp2
   all_goals(go_ret2;subst eH;exact⟨rfl,.inr ⟨_,rfl⟩⟩)
def tD(s:ar):Option (Int×Int):=some (if s.b=[]then(0,11)else Pb s.b (0,false))
theorem J5{a:ar}{s:ab}{Q:List AV->ab->Prop}(h:ok (tD a) fun r=>Q [.int .i64 r.1,.int .i64 r.2] s):FN prog 291 [.str a.b] s Q:=by
 unfold tD at h
 rw[aF]at h
 intro G w vs h1 h2 h3 h4
 obtain⟨v0,rfl,k0⟩:=QT h4
 rw[VR.fm k0]
 refine(Mo ⟨a.b.toArray⟩ w (r:=if a.b=[]then(0,11)else Pb a.b (0,false)) (by simp)).mono fun e w'⟨he,hw⟩=>?_
 generalize(if a.b=[]then((0:Int),(11:Int))else Pb a.b (0,false))=r at h he
 have si:∀(G':Gh)(w':World),pH G' w' [.int .i64 r.1,.int .i64 r.2] (.tuple #[.int .i64 r.1,.int .i64 r.2]):=fun G' w'=>⟨_,rfl,rfl,fun j x y hx hy=>by
  match j,hx,hy with
  |0,hx,hy=>injection hx with hx;injection hy with hy;subst hx;subst hy;exact⟨.int _ _,trivial⟩
  |1,hx,hy=>injection hx with hx;injection hy with hy;subst hx;subst hy;exact⟨.int _ _,trivial⟩
  |_+2,hx,_=>simp at hx⟩
 rcases hw with hw|⟨pos,hw⟩
 ·subst hw
  exact⟨_,_,s,G,he,h,h1,h3,si _ _,aC.refl G w'⟩
 ·subst hw
  obtain⟨q1,q2,q3⟩:=Lo (s:=⟨a.b.toArray⟩) (pos:=pos) h1
  exact⟨_,_,s,_,he,h,q1,q3 h3,si _ _,q2⟩
theorem J4{a:ar}{s:ab}{r:Int×Int}(h:tD a=some r):FE prog 291 [.str a.b] s [.int .i64 r.1,.int .i64 r.2] s:=J5 ⟨r,h,rfl,rfl⟩
end Go.AB
end
section
set_option maxRecDepth 4000
namespace Go.AB
open Go
open Go.Proofs.Tryz (prog)
open Go.RowKit
theorem QN{P:Program}(a:Addr)(cap:Nat)(c:Int)(w:World):(Extern.BytealgIndexByte.indexByte #[.slice (some a) 0 cap,.int .u8 c]).run P w=.ok (.int .i64 (-1)) w:=rfl
theorem rj{v:Value}{cv r:Int}{w:World}(hr:(Extern.BytealgIndexByte.indexByte #[v,.int .u8 cv]).run prog w=.ok (.int .i64 r) w):Calls prog 261 #[v,.int .u8 cv] w fun e w'=>e=.returned (.int .i64 r)/\w'=w:=by
 have mixed:=mix
 go_enter Go.Proofs.Tryz.func261,(show Go.Proofs.Tryz.f261.ntmps=8 from rfl)
 go_wp2
 rw[run_callFunc_extern Go.Proofs.Tryz.func296 (by kernel_rfl) (by kernel_rfl) (by kernel_rfl) (e:=Extern.BytealgIndexByte.indexByte) (by kernel_rfl),hr]
 simp only[Result.andThen]
 rw[Oper.upon_value]
 go_wp2
 go_ret
 exact⟨rfl,rfl⟩
theorem F0:∀l:List UInt8,Lib.bytesOf (l.map fun c=>(c.toNat:Int))=l
 |[]=>rfl
 |c::l=>by
  have h:=F0 l
  unfold Lib.bytesOf at h⊢
  rw[List.map_cons,List.map_cons,h]
  congr 1
  simp
def iS(s:List UInt8)(c:UInt8):Option Int:=some (Lib.indexByte s c)
theorem zg{a:List UInt8}{c:UInt8}{s:ab}{Q:List AV->ab->Prop}(h:ok (iS a c) fun r=>Q [.int .i64 r] s):FN prog 261 [.sl false 1 a.length (flat a),.int .u8 c.toNat] s Q:=by
 unfold iS at h
 rw[aF]at h
 intro G w vs h1 h2 h3 h4
 obtain⟨v0,v1,rfl,k0,k1⟩:=IT h4
 rw[VR.cF k1]
 have ec:((c.toNat:Int).toNat).toUInt8=c:=by simp
 have fin:∀(e:Ending)(w':World)(r:Int),r=Lib.indexByte a c->e=.returned (.int .i64 r)/\w'=w->∃v rs s' G',e=.returned v/\Q rs s'/\cw G' w'/\aW G' w' s'/\pH G' w' rs v/\aC G w G' w':=by
  rintro e w' r hr ⟨he,hw⟩
  subst hw;subst hr
  exact⟨_,_,s,G,he,h,h1,h3,⟨.int _ _,trivial⟩,aC.refl G w'⟩
 have e0:∀b:List UInt8,a=[]->Lib.indexByte a c=-1:=fun _ e=>by subst e;rfl
 rcases VR.iJ k0 with⟨(e|⟨_,ad,cap,e⟩),h0,_⟩|⟨b,off,cap,e,hcl,hRb,iG,hat⟩
 ·subst e
  have ha:a=[]:=List.eq_nil_of_length_eq_zero h0
  exact(rj (Lib.run_indexByteNil w 0 0 _)).mono fun e w' hh=>fin e w' _ (e0 a ha).symm hh
 ·subst e
  have ha:a=[]:=List.eq_nil_of_length_eq_zero h0
  exact(rj (QN ad cap _ w)).mono fun e w' hh=>fin e w' _ (e0 a ha).symm hh
 ·subst e
  obtain⟨u,u1,u2,_⟩:=hat
  have kF:∀i,i<a.length->w.cell? ⟨b,off+i,none⟩=some (.int .u8 ((a.map fun c=>(c.toNat:Int)).getD i 0)):=by
   intro i hi
   have hfj:(flat a)[i]? =some (.int .u8 (a[i]).toNat):=by
    have hm:∀l:List UInt8,flat l=l.map fun c=>AV.int .u8 c.toNat:=fun l=>by
     induction l with
     |nil=>rfl
     |cons c l ih=>rw[List.map_cons,<-ih];rfl
    rw[hm,List.getElem?_map,List.getElem?_eq_getElem hi];rfl
   rw[u1 i _ hfj,VR.cF (u2 i _ hfj)]
   simp[List.getD_eq_getElem?_getD,hi]
  refine(rj (Lib.run_indexByteSlice w b off a.length cap (a.map fun c=>(c.toNat:Int)) (by simp) kF _)).mono fun e w' hh=>fin e w' _ ?_ hh
  rw[F0,ec]
theorem zf{a:List UInt8}{c:UInt8}{s:ab}{r:Int}(h:iS a c=some r):FE prog 261 [.sl false 1 a.length (flat a),.int .u8 c.toNat] s [.int .i64 r] s:=zg ⟨r,h,rfl,rfl⟩
end Go.AB
end
section
namespace Go.AB
open Go
end Go.AB
end
section
namespace Go.AB
open Go
attribute[go_sem] Nat.add_zero
@[go_sem]theorem bS{α:Type}(l:List α)(hi:Int):part l 0 hi=l.take hi.toNat:=by
  unfold part
  rw[Int.toNat_zero,List.drop_zero,Int.sub_zero]
@[go_sem]theorem aj7(l:List UInt8):l.getD 0 0=ix l 0:=rfl
@[go_sem]theorem mV:((0:Int)<=0)=True:=eq_true (by decide)
@[go_sem]theorem alR:((0:Int)<=1)=True:=eq_true (by decide)
structure YT where
 used:Bool
 own:Bool
 buf:ar
def YT.zero:YT:=⟨false,true,⟨[]⟩⟩
def rf(T B o:Nat)(b:YT):AV:=bif b.used then .ref B o else .ri T
def rh(b:YT):AV:=bif b.own then .bb 5 b.buf.b.length (flat b.buf.b)else .sl false 1 b.buf.b.length (flat b.buf.b)
@[go_sem]theorem aew(T B o:Nat):rf T B o YT.zero=.ri T:=rfl
@[go_sem]theorem aex:rh YT.zero=.bb 5 0 []:=rfl
structure ajX where
instance:aP ajX:=⟨1,fun _=>[.BD],.mk,by decide,fun _=>rfl,fun _=>rfl⟩
theorem ahh{X B:Prop}(h:X->B):X->(True->B):=fun x _=>h x
theorem ahi{X A B:Prop}(h:X->A):X->(True->A)/\(False->B):=fun x=>⟨fun _=>h x,False.elim⟩
end Go.AB
end
section
set_option maxRecDepth 4000
namespace Go.AB
open Go
open Go.Proofs.Tryz (prog)
structure aa where
 Kind:Int
 N:Int
 S:ar
 L:(List aa)
mutual
def ir:aa->List AV
 |⟨k,n,s,l⟩=>[.int .i64 k,.int .i64 n,.str s.b,.sl false 4 l.length (pK l)]
def pK:List aa->List AV
 |[]=>[]
 |v::l=>ir v++pK l
end
theorem L8(x:aa):views (ir x)=ir x:=by cases x;simp[ir,views,view]
theorem L7(x:aa):(ir x).length=4:=by cases x;simp[ir]
instance:aP aa:=⟨4,ir,⟨0,0,⟨[]⟩,[]⟩,by decide,L7,L8⟩
theorem tW:∀l:List aa,pK l=flat l
 |[]=>by rw[pK];rfl
 |v::l=>by rw[pK,tW l];rfl
@[go_sem]theorem eI(x:aa):aP.cells x=[.int .i64 x.Kind,.int .i64 x.N,.str x.S.b,sF 4 x.L]:=by
  cases x
  show ir _=_
  rw[ir,tW]
@[go_sem]theorem ab9:aP.w aa=4:=rfl
@[go_sem]theorem J7(l:List aa)(i:Int):pad [.int .i64 0,.int .i64 0,.str [],.sl false 4 0 []] (views (AB.sub (flat l) (i.toNat*4) 4))=[.int .i64 ((ix l i).Kind),.int .i64 ((ix l i).N),.str ((ix l i).S).b,sF 4 ((ix l i).L)]:=by rw[<-eI];exact se _ 4 l i (by rw[eI];rfl) rfl
attribute[-go_sem] cu dj bO ct
theorem alg{P:Program}{X:Prop}{gE:List (List Bool)}{ops f:List ai}{live:List Nat}{Q:Exit->St->Prop}{d:List Bool}{E φ:St}
 (h1:∀Q':St->Prop,Q' φ->Vy P gE ops (fun U=>Q' (U.zR live)) f d E)(h2:X->Q .normal φ):X->Vy P gE ops (wP live Q) f d E:=fun x=>h1 (fun U=>Q .normal U) (h2 x)
@[go_sem]theorem alm:Nat.ble 1 1=true:=rfl
@[go_sem]theorem aln:Nat.ble 1 4=true:=rfl
@[go_sem]theorem alI{α:Type}[aP α](n:Nat)(l:List α)(hi:Int)(hn:n=aP.w α):AB.sub (flat l) 0 (hi.toNat*n)=flat (part l 0 hi):=by
  have:=xr n l 0 hi hn
  rwa[Int.sub_zero,show((0:Int).toNat*n)=0 from by simp]at this
@[go_sem]theorem ahc{α:Type}[aP α](l:List α)(i:Int):ix l ((i.toNat:Nat):Int)=ix l i:=rfl
@[go_sem]theorem afk(l:List Int)(n:Nat):pad [.int .i64 0] (views (AB.sub (flat l) (n*1) 1))=[.int .i64 (ix l (n:Int))]:=Z3 l n
theorem An{P:Program}{f:FuncId}{as1 as2:List AV}{s:ab}{Q:List AV->ab->Prop}(e:as1=as2)(h:FN P f as1 s Q):FN P f as2 s Q:=e▸h
structure bC where
 Kind:Int
 b6:Int
 To:Int
 V:aa
 S:ar
instance:aP bC:=⟨8,fun x=>[.int .i64 x.Kind,.int .i64 x.b6,.int .i64 x.To,.int .i64 x.V.Kind,.int .i64 x.V.N,.str x.V.S.b,sF 4 x.V.L,.str x.S.b],(bC.mk 0 0 0 (aa.mk 0 0 (ar.mk []) []) (ar.mk [])),by decide,fun _=>rfl,fun _=>rfl⟩
def jP(c_0:UInt8):Option (Bool):=some (((((((c_0.toNat:Int)==0)||((c_0.toNat:Int)==9))||((c_0.toNat:Int)==10))||((c_0.toNat:Int)==12))||((c_0.toNat:Int)==13))||((c_0.toNat:Int)==32))
def A3:IC:=
 (ae [cZ 2 (.bool false)] [0]
 (ae [mv 3 0,bu 4 .eql 3 0,mv 5 4,df 6 0 5 false,du 7 5 false (.bin .eql (.t 6) (.c (.int .u8 9))),po 8 5 7,mv 9 8,df 10 0 9 false,du 11 9 false (.bin .eql (.t 10) (.c (.int .u8 10))),po 12 9 11,mv 13 12,df 14 0 13 false,du 15 13 false (.bin .eql (.t 14) (.c (.int .u8 12))),po 16 13 15,mv 17 16,df 18 0 17 false,du 19 17 false (.bin .eql (.t 18) (.c (.int .u8 13))),po 20 17 19,mv 21 20,df 22 0 21 false,du 23 21 false (.bin .eql (.t 22) (.c (.int .u8 32))),po 24 21 23,mv 2 24] [2]
 .ret))
theorem MJ:aE prog 67 25 [⟨2,true,none⟩] A3=true:=by kernel_rfl
theorem M9{c_0}{s:ab}{Q:List AV->ab->Prop}:ok (jP c_0) (fun r=>Q [.bool r] s)->FN prog 67 [.int .u8 c_0.toNat] s Q:=by
 intro h
 refine FO MJ rfl rfl ?_
 revert h
 rw[A3,jP]
 repeat'(first
  |simp -implicitDefEqProofs only[go_sem,seval])
theorem mc{c_0}{s:ab}{r:Bool}(h:jP c_0=some r):FE prog 67 [.int .u8 c_0.toNat] s [.bool r] s:=M9 ⟨r,h,rfl,rfl⟩
def wv(b_0:(List UInt8))(cX:Int):Option (Int):=
 if decide (cX<0)then
  none
 else
  iter (fun(at1:Int)=>
   if decide (at1<(b_0.length:Int))then
    aB (0<=at1/\at1<b_0.length)<|
    if((ix b_0 at1).toNat:Int)==37 then
     none
    else
     aJ (jP (ix b_0 at1)) fun r3=>
     if !r3 then
      some (.inr at1)
     else
      some (.inl (bd (at1+1)))
   else
    none) cX
def DX:IC:=
 (ae [mi 4 0] [0,1]
 (.seq (ae [mv 7 1,bn 8 .lss 7 0] [0,1,8]
 (.cond (.t 8) .dead
 .skip))
 (ae [cZ 5 (.bool false)] [0,1,5]
 (.seq (.block 0 (.loop [(0,true),(1,false),(5,false)] (.seq (ae [mv 9 1,mv 10 0,le 11 0 10,bt 12 .lss 9 11] [0,1,5,12]
 (.cond (.t 12) .skip
 .dead))
 (.seq (.block 1 (ae [mv 15 0,mv 16 1,ia 17 [.int .u8 0] 15 16,ld 18 1 17,mv 6 18] [0,1,5,6]
 (.block 2 (ae [mv 20 5,mv 19 20] [0,1,5,6,19]
 (.cond (.t 19) .dead
 (ae [mv 28 6,bu 29 .eql 28 37,mv 27 29] [0,1,5,6,27]
 (.cond (.t 27) .dead
 (ae [mv 31 6,c1 32 67 31,no 33 32,mv 30 33] [0,1,5,30]
 (.cond (.t 30) (ae [mv 34 1,mv 4 34] [4]
 .ret)
 .skip)))))))))
 (.bJ none [mv 13 1,bn 14 .add 13 1,mv 1 14] [0,1,5])))))
 .dead))))
theorem PV:aE prog 179 37 [⟨4,true,none⟩] DX=true:=by kernel_rfl
theorem Qb{b_0 cX}{s:ab}{Q:List AV->ab->Prop}:ok (wv b_0 cX) (fun r=>Q [.int .i64 r] s)->FN prog 179 [sF 1 b_0,.int .i64 cX] s Q:=by
 intro h
 refine FO PV rfl rfl ?_
 revert h
 rw[DX,wv]
 repeat'(first
  |(with_reducible first|exact bW|refine ahh ?_|refine bj ?_ ?_|refine ch ?_|refine ah (fun _(h:jP (ix b_0 at1)=some _)=>mc h) (fun r3=>?_))
  |((with_reducible refine aY (fun(at1:Int)=>⟨[(0,sF 1 b_0),(1,.int .i64 at1),(5,.bool false)],[],s⟩) ?_ ?_);(first|exact rfl|simp -implicitDefEqProofs only[go_sem,seval]);rintro J at1)
  |simp -implicitDefEqProofs only[go_sem,seval])
theorem Qa{b_0 cX}{s:ab}{r:Int}(h:wv b_0 cX=some r):FE prog 179 [sF 1 b_0,.int .i64 cX] s [.int .i64 r] s:=Qb ⟨r,h,rfl,rfl⟩
structure cJ where
 Builder:YT
 b_:(List UInt8)
 at_:Int
 bB:Bool
def gB(s_0:ar)(c_1:UInt8):Option (Int):=
 aJ (eQ s_0 c_1) fun r1=>
 some r1
def nS:IC:=
 (ae [mi 4 0] [0,1]
 (ae [mv 5 0,mv 6 1,c2 7 178 5 6,mv 4 7] [4]
 .ret))
theorem wh:aE prog 122 8 [⟨4,true,none⟩] nS=true:=by kernel_rfl
theorem wX{s_0 c_1}{s:ab}{Q:List AV->ab->Prop}:ok (gB s_0 c_1) (fun r=>Q [.int .i64 r] s)->FN prog 122 [.str s_0.b,.int .u8 c_1.toNat] s Q:=by
 intro h
 refine FO wh rfl rfl ?_
 revert h
 rw[nS,gB]
 repeat'(first
  |with_reducible refine ah (fun _(h:eQ s_0 c_1=some _)=>rM h) (fun r1=>?_)
  |simp -implicitDefEqProofs only[go_sem,seval])
theorem wW{s_0 c_1}{s:ab}{r:Int}(h:gB s_0 c_1=some r):FE prog 122 [.str s_0.b,.int .u8 c_1.toNat] s [.int .i64 r] s:=wX ⟨r,h,rfl,rfl⟩
def mY(c_0:UInt8):Option (Bool):=
 aJ (gB (ar.mk [40,41,60,62,91,93,123,125,47,37]) c_0) fun r1=>
 some (decide (r1>=0))
def A2:IC:=
 (ae [cZ 2 (.bool false)] [0]
 (ae [mv 3 0,i1 4 (.call 122 [(.c (.str [40,41,60,62,91,93,123,125,47,37])),(.t 3)]),bn 5 .geq 4 0,mv 2 5] [2]
 .ret))
theorem MI:aE prog 68 6 [⟨2,true,none⟩] A2=true:=by kernel_rfl
theorem M8{c_0}{s:ab}{Q:List AV->ab->Prop}:ok (mY c_0) (fun r=>Q [.bool r] s)->FN prog 68 [.int .u8 c_0.toNat] s Q:=by
 intro h
 refine FO MI rfl rfl ?_
 revert h
 rw[A2,mY]
 repeat'(first
  |with_reducible refine ah (fun _(h:gB (ar.mk [40,41,60,62,91,93,123,125,47,37]) c_0=some _)=>wW h) (fun r1=>?_)
  |simp -implicitDefEqProofs only[go_sem,seval])
theorem tB{c_0}{s:ab}{r:Bool}(h:mY c_0=some r):FE prog 68 [.int .u8 c_0.toNat] s [.bool r] s:=M8 ⟨r,h,rfl,rfl⟩
def jC(c_0:UInt8):Option (Bool):=
 aJ (jP c_0) fun r1=>
 aJ (mB (!r1) false (mY c_0)) fun r2=>
 some ((!r1)&&(!r2))
def vD:IC:=
 (ae [cZ 2 (.bool false)] [0]
 (.seq (.bJ (some 6) [mv 3 0,c1 4 67 3,no 5 4,mv 6 5,df 7 0 6 true,SI 8 6 true 68 7,du 9 6 true (.un .not (.t 8)),pf 10 6 9,mv 2 10] [2])
 .ret))
theorem GZ:aE prog 215 11 [⟨2,true,none⟩] vD=true:=by kernel_rfl
theorem Hy{c_0}{s:ab}{Q:List AV->ab->Prop}:ok (jC c_0) (fun r=>Q [.bool r] s)->FN prog 215 [.int .u8 c_0.toNat] s Q:=by
 intro h
 refine FO GZ rfl rfl ?_
 revert h
 rw[vD,jC]
 repeat'(first
  |(with_reducible first|refine ba (fun _(h:jP c_0=some _)=>mc h) (fun _=>rfl) (fun r1=>?_)|refine fP rfl (fun _(h:mY c_0=some _)=>tB h) (fun _=>rfl) (fun r2=>?_))
  |simp -implicitDefEqProofs only[go_sem,seval])
theorem wy{c_0}{s:ab}{r:Bool}(h:jC c_0=some r):FE prog 215 [.int .u8 c_0.toNat] s [.bool r] s:=Hy ⟨r,h,rfl,rfl⟩
def jb(s_0:cJ):Option (ar×Bool×cJ):=
 jn (
  iter (fun(o3:cJ)=>
   aB ((decide (o3.at_<(o3.b_.length:Int)))=true->0<=o3.at_/\o3.at_<o3.b_.length)<|
   aJ (mB (decide (o3.at_<(o3.b_.length:Int))) false (jC (ix o3.b_ o3.at_))) fun r6=>
   if(decide (o3.at_<(o3.b_.length:Int)))&&r6 then
    some (.inl (cJ.mk o3.Builder o3.b_ (bd (o3.at_+1)) o3.bB))
   else
    some (.inr o3)) s_0) fun(o2:cJ)=>
 aB (0<=s_0.at_/\s_0.at_<=o2.at_/\o2.at_<=o2.b_.length)<|
 some (ar.mk (part o2.b_ s_0.at_ o2.at_),(decide (o2.at_<(o2.b_.length:Int)))||o2.bB,o2)
def sm:IC:=
 (ae [cZ 2 (.str []),cZ 3 (.bool false)] [0]
 (ae [mv 5 0,nc 6 5,fa 7 3 6,i1 8 (.bw jv false (.t 7)),mv 4 8] [0,4]
 (.join [(0,false),(4,false)] (.block 0 (.loop [(0,false),(4,false)] (.seq (.seq (.bJ (some 23) [mv 9 0,nc 10 9,fa 11 3 10,i1 12 (.bw jv false (.t 11)),mv 13 0,nc 14 13,fa 15 2 14,i1 16 (.bw [.sl false 1 0 []] false (.t 15)),le 17 0 16,bt 18 .lss 12 17,mv 19 18,df 20 0 19 true,du 21 19 true (.nilCheck (.t 20)),fg 22 19 true 2 21,du 23 19 true (.bw [.sl false 1 0 []] false (.t 22)),df 24 0 19 true,du 25 19 true (.nilCheck (.t 24)),fg 26 19 true 3 25,du 27 19 true (.bw jv false (.t 26)),du 28 19 true (.indexAddr [.int .u8 0] (.t 23) (.t 27)),lg 29 19 true 1 28,SI 30 19 true 215 29,pf 31 19 30] [0,4,31])
 (.cond (.t 31) .skip
 (.exit 0)))
 (.block 1 (.bJ none [mv 32 0,nc 33 32,fa 34 3 33,i1 35 (.bw jv false (.t 34)),bn 36 .add 35 1,nc 37 32,fa 38 3 37,st 1 38 36] [0,4])))))
 (.seq (.bJ (some 29) [mv 39 0,nc 40 39,fa 41 2 40,i1 42 (.bw [.sl false 1 0 []] false (.t 41)),mv 43 4,mv 44 0,nc 45 44,fa 46 3 45,i1 47 (.bw jv false (.t 46)),i1 48 (.slice 1 (.t 42) (some (.t 43)) (some (.t 47)) none),i1 49 (.fF (.t 48)),mv 50 0,nc 51 50,fa 52 3 51,i1 53 (.bw jv false (.t 52)),mv 54 0,nc 55 54,fa 56 2 55,i1 57 (.bw [.sl false 1 0 []] false (.t 56)),le 58 0 57,bt 59 .lss 53 58,mv 60 59,df 61 0 60 false,du 62 60 false (.nilCheck (.t 61)),fg 63 60 false 4 62,du 64 60 false (.bw [.bool false] false (.t 63)),po 65 60 64,mv 2 49,mv 3 65] [2,3])
 .ret))))
theorem CB:aE prog 220 66 [⟨2,true,none⟩,⟨3,true,none⟩] sm=true:=by kernel_rfl
theorem sE{s_0}{B0:Nat}{s:ab}{Q:List AV->ab->Prop}(hB0:s B0=some (.cells [rf 251 B0 0 s_0.Builder,rh s_0.Builder,sF 1 s_0.b_,.int .i64 s_0.at_,.bool s_0.bB])):ok (jb s_0) (fun r=>Q [.str r.1.b,.bool r.2.1] (s.set B0 (.cells [rf 251 B0 0 r.2.2.Builder,rh r.2.2.Builder,sF 1 r.2.2.b_,.int .i64 r.2.2.at_,.bool r.2.2.bB])))->FN prog 220 [.ref B0 0] s Q:=by
 have hS:s=(s.set B0 (.cells [rf 251 B0 0 s_0.Builder,rh s_0.Builder,sF 1 s_0.b_,.int .i64 s_0.at_,.bool s_0.bB])):=by simp only[dZ hB0]
 rw[hS]
 intro h
 refine FO CB rfl rfl ?_
 revert h
 rw[sm,jb]
 repeat'(first
  |(with_reducible first|exact bW|refine bj ?_ ?_|refine fP rfl (fun _(h:jC (ix o3.b_ o3.at_)=some _)=>wy h) (fun _=>rfl) (fun r6=>?_))
  |((with_reducible refine aY (fun(o3:cJ)=>⟨[(0,.ref B0 0),(4,.int .i64 s_0.at_)],[],(s.set B0 (.cells [rf 251 B0 0 o3.Builder,rh o3.Builder,sF 1 o3.b_,.int .i64 o3.at_,.bool o3.bB]))⟩) ?_ ?_);(first|exact rfl|simp -implicitDefEqProofs only[go_sem,seval]);rintro J o3)
  |((with_reducible refine bT (fun(o2:cJ)=>⟨[(0,.ref B0 0),(4,.int .i64 s_0.at_)],[],(s.set B0 (.cells [rf 251 B0 0 o2.Builder,rh o2.Builder,sF 1 o2.b_,.int .i64 o2.at_,.bool o2.bB]))⟩) (fun J=>?_) ?_);rotate_left;rintro o2)
  |simp -implicitDefEqProofs only[go_sem,seval])
def cU(s_0:ar)(prefix_1:ar):Option (Bool):=
 aB ((decide ((s_0.b.length:Int)>=(prefix_1.b.length:Int)))=true->0<=(0:Int)/\0<=(prefix_1.b.length:Int)/\(prefix_1.b.length:Int)<=s_0.b.length)<|
 some ((decide ((s_0.b.length:Int)>=(prefix_1.b.length:Int)))&&((ar.mk (part s_0.b 0 (prefix_1.b.length:Int))).b==prefix_1.b))
def ga:IC:=
 (ae [cZ 4 (.bool false)] [0,1]
 (ae [mv 5 0,le 6 1 5,mv 7 1,le 8 1 7,bt 9 .geq 6 8,mv 10 9,df 11 0 10 true,df 12 1 10 true,du 13 10 true (.len 1 (.t 12)),du 14 10 true (.rL (.t 11) none (some (.t 13))),df 15 1 10 true,rF 16 10 true .eql 14 15,pf 17 10 16,mv 4 17] [4]
 .ret))
theorem lL:aE prog 324 18 [⟨4,true,none⟩] ga=true:=by kernel_rfl
theorem lK{s_0 prefix_1}{s:ab}{Q:List AV->ab->Prop}:ok (cU s_0 prefix_1) (fun r=>Q [.bool r] s)->FN prog 324 [.str s_0.b,.str prefix_1.b] s Q:=by
 intro h
 refine FO lL rfl rfl ?_
 revert h
 rw[ga,cU]
 repeat'(first
  |simp -implicitDefEqProofs only[go_sem,seval])
theorem lJ{s_0 prefix_1}{s:ab}{r:Bool}(h:cU s_0 prefix_1=some r):FE prog 324 [.str s_0.b,.str prefix_1.b] s [.bool r] s:=lK ⟨r,h,rfl,rfl⟩
def ey(s_0:ar)(prefix_1:ar):Option (Bool):=
 aJ (cU s_0 prefix_1) fun r1=>
 some r1
def nR:IC:=
 (ae [cZ 4 (.bool false)] [0,1]
 (ae [mv 5 0,mv 6 1,c2 7 324 5 6,mv 4 7] [4]
 .ret))
theorem wg:aE prog 288 8 [⟨4,true,none⟩] nR=true:=by kernel_rfl
theorem wV{s_0 prefix_1}{s:ab}{Q:List AV->ab->Prop}:ok (ey s_0 prefix_1) (fun r=>Q [.bool r] s)->FN prog 288 [.str s_0.b,.str prefix_1.b] s Q:=by
 intro h
 refine FO wg rfl rfl ?_
 revert h
 rw[nR,ey]
 repeat'(first
  |with_reducible refine ah (fun _(h:cU s_0 prefix_1=some _)=>lJ h) (fun r1=>?_)
  |simp -implicitDefEqProofs only[go_sem,seval])
theorem og{s_0 prefix_1}{s:ab}{r:Bool}(h:ey s_0 prefix_1=some r):FE prog 288 [.str s_0.b,.str prefix_1.b] s [.bool r] s:=wV ⟨r,h,rfl,rfl⟩
def dQ(s_0:ar)(cP:ar):Option (ar×ar×Bool):=
 aJ (gC s_0 cP) fun r1=>
 if decide (r1>=0)then
  none
 else
  some (s_0,(ar.mk []),false)
def jm:IC:=
 (ae [cZ 4 (.str []),cZ 5 (.str []),cZ 6 (.bool false)] [0,1]
 (.seq (ae [mv 8 0,mv 9 1,c2 10 351 8 9,mv 7 10] [0,7]
 (ae [mv 11 7,bn 12 .geq 11 0] [0,12]
 (.cond (.t 12) .dead
 .skip)))
 (ae [mv 22 0,mv 4 22,cZ 5 (.str []),cZ 6 (.bool false)] [4,5,6]
 .ret)))
theorem pc:aE prog 325 23 [⟨4,true,none⟩,⟨5,true,none⟩,⟨6,true,none⟩] jm=true:=by kernel_rfl
theorem pa{s_0 cP}{s:ab}{Q:List AV->ab->Prop}:ok (dQ s_0 cP) (fun r=>Q [.str r.1.b,.str r.2.1.b,.bool r.2.2] s)->FN prog 325 [.str s_0.b,.str cP.b] s Q:=by
 intro h
 refine FO pc rfl rfl ?_
 revert h
 rw[jm,dQ]
 repeat'(first
  |with_reducible refine ah (fun _(h:gC s_0 cP=some _)=>wY h) (fun r1=>?_)
  |simp -implicitDefEqProofs only[go_sem,seval])
theorem o4{s_0 cP}{s:ab}{r:ar×ar×Bool}(h:dQ s_0 cP=some r):FE prog 325 [.str s_0.b,.str cP.b] s [.str r.1.b,.str r.2.1.b,.bool r.2.2] s:=pa ⟨r,h,rfl,rfl⟩
def oe(s_0:ar)(cP:ar):Option (ar×ar×Bool):=
 aJ (dQ s_0 cP) fun r1=>
 some (r1.1,r1.2.1,r1.2.2)
def vU:IC:=
 (ae [cZ 4 (.str []),cZ 5 (.str []),cZ 6 (.bool false)] [0,1]
 (ae [mv 7 0,mv 8 1,c2 9 325 7 8,ex 10 9 0,ex 11 9 1,ex 12 9 2,mv 4 10,mv 5 11,mv 6 12] [4,5,6]
 .ret))
theorem Ho:aE prog 289 13 [⟨4,true,none⟩,⟨5,true,none⟩,⟨6,true,none⟩] vU=true:=by kernel_rfl
theorem IV{s_0 cP}{s:ab}{Q:List AV->ab->Prop}:ok (oe s_0 cP) (fun r=>Q [.str r.1.b,.str r.2.1.b,.bool r.2.2] s)->FN prog 289 [.str s_0.b,.str cP.b] s Q:=by
 intro h
 refine FO Ho rfl rfl ?_
 revert h
 rw[vU,oe]
 repeat'(first
  |with_reducible refine ah (fun _(h:dQ s_0 cP=some _)=>o4 h) (fun r1=>?_)
  |simp -implicitDefEqProofs only[go_sem,seval])
theorem IU{s_0 cP}{s:ab}{r:ar×ar×Bool}(h:oe s_0 cP=some r):FE prog 289 [.str s_0.b,.str cP.b] s [.str r.1.b,.str r.2.1.b,.bool r.2.2] s:=IV ⟨r,h,rfl,rfl⟩
def sI(s_0:ar):Option (aa×Int):=
 aJ (ey s_0 (ar.mk [45])) fun r1=>
 if r1 then
  none
 else
  aJ (ey s_0 (ar.mk [43])) fun r2=>
  if r2 then
   none
  else
   aJ (oe s_0 (ar.mk [46])) fun r3=>
   aJ (mB (!((bd ((r3.1.b.length:Int)+(r3.2.1.b.length:Int)))==0)) false (tE r3.1)) fun r4=>
   aJ (mB (!(((bd ((r3.1.b.length:Int)+(r3.2.1.b.length:Int)))==0)||(!r4))) false (tE r3.2.1)) fun r5=>
   if(((bd ((r3.1.b.length:Int)+(r3.2.1.b.length:Int)))==0)||(!r4))||(!r5)then
    none
   else
    aB ((((ar.mk [48]).b.length+r3.1.b.length:Nat):Int)<=tq)<|
    aJ (tD (ar.mk ((ar.mk [48]).b++r3.1.b))) fun r6=>
    if r6.2 !=0 then
     none
    else
     if !r3.2.2 then
      some ((aa.mk 2 (bd (1*r6.1)) (ar.mk []) ([]:List aa)),0)
     else
      none
def A4:IC:=
 (ae [i1 2 (.an gj),mi 3 0] [0,2]
 (ae [mi 4 1] [0,2,4]
 (ae [mv 12 0,mv 5 12] [0,2,4,5]
 (.seq (.block 0 (ae [mv 14 0,i1 15 (.call 288 [(.t 14),(.c (.str [45]))]),mv 13 15] [0,2,4,5,13]
 (.cond (.t 13) .dead
 (ae [mv 19 0,i1 20 (.call 288 [(.t 19),(.c (.str [43]))]),mv 18 20] [2,4,5,18]
 (.cond (.t 18) .dead
 .skip)))))
 (ae [mv 24 5,i1 25 (.call 289 [(.t 24),(.c (.str [46]))]),gi 23 25,ex 26 23 0,ex 27 23 1,ex 28 23 2,mv 6 26,mv 7 27,mv 8 28] [2,4,6,7,8]
 (.seq (.seq (.bJ (some 14) [mv 29 6,le 30 1 29,mv 31 7,le 32 1 31,bt 33 .add 30 32,bn 34 .eql 33 0,mv 35 34,df 36 6 35 false,SI 37 35 false 290 36,du 38 35 false (.un .not (.t 37)),po 39 35 38,mv 40 39,df 41 7 40 false,SI 42 40 false 290 41,du 43 40 false (.un .not (.t 42)),po 44 40 43] [2,4,6,8,44])
 (.cond (.t 44) .dead
 .skip))
 (ae [mv 47 6,i1 48 (.bin .add (.c (.str [48])) (.t 47)),c1 49 291 48,gi 46 49,ex 50 46 0,ex 51 46 1,mv 9 50,mv 10 51] [2,4,8,9,10]
 (.seq (ae [mv 52 10,bn 53 .neq 52 0] [2,4,8,9,53]
 (.cond (.t 53) .dead
 .skip))
 (.seq (ae [mv 56 8,no 57 56] [2,4,9,57]
 (.cond (.t 57) (ae [mv 58 4,mv 59 9,bt 60 .mul 58 59,i1 61 (.build gj [(0,1,(.c (.int .i64 2))),(1,1,(.t 60))]),st 4 2 61,mi 3 0] [2,3]
 .ret)
 .dead))
 .dead)))))))))
theorem MK:aE prog 252 75 [⟨2,false,some (4,true)⟩,⟨3,true,none⟩] A4=true:=by kernel_rfl
theorem Ni{s_0}{s:ab}{Q:List AV->ab->Prop}:ok (sI s_0) (fun r=>Q [.agg [.int .i64 r.1.Kind,.int .i64 r.1.N,.str r.1.S.b,sF 4 r.1.L],.int .i64 r.2] s)->FN prog 252 [.str s_0.b] s Q:=by
 intro h
 refine FO MK rfl rfl ?_
 revert h
 rw[A4,sI]
 repeat'(first
  |(with_reducible first|exact bW|refine bj ?_ ?_|refine ch ?_|refine ah (fun _(h:ey s_0 (ar.mk [45])=some _)=>og h) (fun r1=>?_)|refine ah (fun _(h:ey s_0 (ar.mk [43])=some _)=>og h) (fun r2=>?_)|refine ah (fun _(h:oe s_0 (ar.mk [46])=some _)=>IU h) (fun r3=>?_)|refine fP rfl (fun _(h:tE r3.1=some _)=>HI h) (fun _=>rfl) (fun r4=>?_)|refine fP rfl (fun _(h:tE r3.2.1=some _)=>HI h) (fun _=>rfl) (fun r5=>?_))
  |((fail_if_success (have _x:=r6));with_reducible refine ah (fun _ h=>J4 h) (fun r6=>?_))
  |simp -implicitDefEqProofs only[go_sem,seval])
theorem Nh{s_0}{s:ab}{r:aa×Int}(h:sI s_0=some r):FE prog 252 [.str s_0.b] s [.agg [.int .i64 r.1.Kind,.int .i64 r.1.N,.str r.1.S.b,sF 4 r.1.L],.int .i64 r.2] s:=Ni ⟨r,h,rfl,rfl⟩
def jo(s_0:cJ):Option (bC×Int×cJ):=
 aJ (jb s_0) fun r1=>
 if !r1.2.1 then
  none
 else
  aB (0<=(0:Int)/\(0:Int)<r1.1.b.length)<|
  if((((decide (((ix r1.1.b 0).toNat:Int)>=48))&&(decide (((ix r1.1.b 0).toNat:Int)<=57)))||(((ix r1.1.b 0).toNat:Int)==43))||(((ix r1.1.b 0).toNat:Int)==45))||(((ix r1.1.b 0).toNat:Int)==46)then
   aJ (sI r1.1) fun r2=>
   some ((bC.mk 1 0 0 r2.1 (ar.mk [])),r2.2,r1.2.2)
  else
   some ((bC.mk 6 0 0 (aa.mk 0 0 (ar.mk []) ([]:List aa)) r1.1),0,r1.2.2)
def nP:IC:=
 (ae [i1 2 (.an Ce),mi 3 0] [0,2]
 (ae [mv 10 0,c1 11 220 10,gi 9 11,ex 12 9 0,ex 13 9 1,mv 4 12,mv 5 13] [2,4,5]
 (.seq (ae [mv 14 5,no 15 14] [2,4,15]
 (.cond (.t 15) .dead
 .skip))
 (.seq (ae [mv 17 4,i1 18 (.jh (.t 17) (.c (.int .i64 0))),mv 6 18] [2,4,6]
 (ae [mv 19 6,bu 20 .geq 19 48,mv 21 20,df 22 6 21 true,du 23 21 true (.bin .leq (.t 22) (.c (.int .u8 57))),pf 24 21 23,mv 25 24,df 26 6 25 false,du 27 25 false (.bin .eql (.t 26) (.c (.int .u8 43))),po 28 25 27,mv 29 28,df 30 6 29 false,du 31 29 false (.bin .eql (.t 30) (.c (.int .u8 45))),po 32 29 31,mv 33 32,df 34 6 33 false,du 35 33 false (.bin .eql (.t 34) (.c (.int .u8 46))),po 36 33 35] [2,4,36]
 (.cond (.t 36) (ae [mv 38 4,c1 39 252 38,gi 37 39,ex 40 37 0,ex 41 37 1,i1 7 (.an gj),st 4 7 40,mv 8 41] [2,7,8]
 (ae [lm 42 4 7,i1 43 (.build Ce [(0,1,(.c (.int .i64 1))),(3,4,(.t 42))]),mv 44 8,st 8 2 43,mv 3 44] [2,3]
 .ret))
 .skip)))
 (ae [mv 45 4,i1 46 (.build Ce [(0,1,(.c (.int .i64 6))),(7,1,(.t 45))]),st 8 2 46,mi 3 0] [2,3]
 .ret)))))
theorem wc:aE prog 216 47 [⟨2,false,some (8,true)⟩,⟨3,true,none⟩] nP=true:=by kernel_rfl
theorem wz{s_0}{B0:Nat}{s:ab}{Q:List AV->ab->Prop}(hB0:s B0=some (.cells [rf 251 B0 0 s_0.Builder,rh s_0.Builder,sF 1 s_0.b_,.int .i64 s_0.at_,.bool s_0.bB])):ok (jo s_0) (fun r=>Q [.agg [.int .i64 r.1.Kind,.int .i64 r.1.b6,.int .i64 r.1.To,.int .i64 r.1.V.Kind,.int .i64 r.1.V.N,.str r.1.V.S.b,sF 4 r.1.V.L,.str r.1.S.b],.int .i64 r.2.1] (s.set B0 (.cells [rf 251 B0 0 r.2.2.Builder,rh r.2.2.Builder,sF 1 r.2.2.b_,.int .i64 r.2.2.at_,.bool r.2.2.bB])))->FN prog 216 [.ref B0 0] s Q:=by
 have hS:s=(s.set B0 (.cells [rf 251 B0 0 s_0.Builder,rh s_0.Builder,sF 1 s_0.b_,.int .i64 s_0.at_,.bool s_0.bB])):=by simp only[dZ hB0]
 rw[hS]
 intro h
 refine FO wc rfl rfl ?_
 revert h
 rw[nP,jo]
 repeat'(first
  |(with_reducible first|exact bW|refine bj ?_ ?_|refine ch ?_|refine fun hh=>sE (B0:=B0) (by simp -implicitDefEqProofs only[go_sem,seval]<;>simp only[bM]) (cT (show ok (jb s_0) _ from hh) fun r1=>?_)|refine ah (fun _(h:sI r1.1=some _)=>Nh h) (fun r2=>?_))
  |simp -implicitDefEqProofs only[go_sem,seval])
def gG(s_0:cJ):Option (UInt8×Bool):=
 if decide (s_0.at_>=(s_0.b_.length:Int))then
  none
 else
  aB (0<=s_0.at_/\s_0.at_<s_0.b_.length)<|
  some (ix s_0.b_ s_0.at_,true)
def sk:IC:=
 (ae [cZ 2 (.int .u8 0),cZ 3 (.bool false)] [0]
 (.seq (.seq (.bJ (some 10) [mv 4 0,nc 5 4,fa 6 3 5,i1 7 (.bw jv false (.t 6)),mv 8 0,nc 9 8,fa 10 2 9,i1 11 (.bw [.sl false 1 0 []] false (.t 10)),le 12 0 11,bt 13 .geq 7 12] [0,13])
 (.cond (.t 13) .dead
 .skip))
 (.seq (.bJ (some 12) [mv 14 0,nc 15 14,fa 16 2 15,i1 17 (.bw [.sl false 1 0 []] false (.t 16)),mv 18 0,nc 19 18,fa 20 3 19,i1 21 (.bw jv false (.t 20)),ia 22 [.int .u8 0] 17 21,ld 23 1 22,mv 2 23,cZ 3 (.bool true)] [2,3])
 .ret)))
theorem CA:aE prog 253 24 [⟨2,true,none⟩,⟨3,true,none⟩] sk=true:=by kernel_rfl
theorem CQ{s_0}{B0:Nat}{s:ab}{Q:List AV->ab->Prop}(hB0:s B0=some (.cells [rf 251 B0 0 s_0.Builder,rh s_0.Builder,sF 1 s_0.b_,.int .i64 s_0.at_,.bool s_0.bB])):ok (gG s_0) (fun r=>Q [.int .u8 r.1.toNat,.bool r.2] s)->FN prog 253 [.ref B0 0] s Q:=by
 have hS:s=(s.set B0 (.cells [rf 251 B0 0 s_0.Builder,rh s_0.Builder,sF 1 s_0.b_,.int .i64 s_0.at_,.bool s_0.bB])):=by simp only[dZ hB0]
 rw[hS]
 intro h
 refine FO CA rfl rfl ?_
 revert h
 rw[sk,gG]
 repeat'(first
  |simp -implicitDefEqProofs only[go_sem,seval])
theorem sD{s_0}{B0:Nat}{s:ab}{r:UInt8×Bool}(hB0:s B0=some (.cells [rf 251 B0 0 s_0.Builder,rh s_0.Builder,sF 1 s_0.b_,.int .i64 s_0.at_,.bool s_0.bB]))(h:gG s_0=some r):FE prog 253 [.ref B0 0] s [.int .u8 r.1.toNat,.bool r.2] s:=CQ hB0 ⟨r,h,rfl,rfl⟩
def jR(s_0:cJ):Option (bC×Int×cJ):=
 aJ (gG s_0) fun r1=>
 if !r1.2 then
  none
 else
  if(r1.1.toNat:Int)==60 then
   some ((bC.mk 4 0 0 (aa.mk 0 0 (ar.mk []) ([]:List aa)) (ar.mk [])),0,(cJ.mk s_0.Builder s_0.b_ (bd (s_0.at_+1)) s_0.bB))
  else
   none
def oM:IC:=
 (ae [i1 2 (.an Ce),mi 3 0] [0,2]
 (ae [mv 9 0,c1 10 253 9,gi 8 10,ex 11 8 0,ex 12 8 1,mv 4 11,mv 5 12] [0,2,4,5]
 (.seq (ae [mv 13 5,no 14 13] [0,2,4,14]
 (.cond (.t 14) .dead
 .skip))
 (.seq (ae [mv 18 4,bu 19 .eql 18 60] [0,2,19]
 (.cond (.t 19) (ae [mv 20 0,nc 21 20,fa 22 3 21,i1 23 (.bw jv false (.t 22)),bn 24 .add 23 1,nc 25 20,fa 26 3 25,st 1 26 24] [2]
 (ae [i1 27 (.build Ce [(0,1,(.c (.int .i64 4)))]),st 8 2 27,mi 3 0] [2,3]
 .ret))
 .dead))
 .dead))))
theorem xR:aE prog 217 36 [⟨2,false,some (8,true)⟩,⟨3,true,none⟩] oM=true:=by kernel_rfl
theorem xX{s_0}{B0:Nat}{s:ab}{Q:List AV->ab->Prop}(hB0:s B0=some (.cells [rf 251 B0 0 s_0.Builder,rh s_0.Builder,sF 1 s_0.b_,.int .i64 s_0.at_,.bool s_0.bB])):ok (jR s_0) (fun r=>Q [.agg [.int .i64 r.1.Kind,.int .i64 r.1.b6,.int .i64 r.1.To,.int .i64 r.1.V.Kind,.int .i64 r.1.V.N,.str r.1.V.S.b,sF 4 r.1.V.L,.str r.1.S.b],.int .i64 r.2.1] (s.set B0 (.cells [rf 251 B0 0 r.2.2.Builder,rh r.2.2.Builder,sF 1 r.2.2.b_,.int .i64 r.2.2.at_,.bool r.2.2.bB])))->FN prog 217 [.ref B0 0] s Q:=by
 have hS:s=(s.set B0 (.cells [rf 251 B0 0 s_0.Builder,rh s_0.Builder,sF 1 s_0.b_,.int .i64 s_0.at_,.bool s_0.bB])):=by simp only[dZ hB0]
 rw[hS]
 intro h
 refine FO xR rfl rfl ?_
 revert h
 rw[oM,jR]
 repeat'(first
  |with_reducible refine ah (fun _(h:gG s_0=some _)=>sD (B0:=B0) (by simp -implicitDefEqProofs only[go_sem,seval]<;>simp only[bM]) h) (fun r1=>?_)
  |simp -implicitDefEqProofs only[go_sem,seval])
def jQ(s_0:cJ):Option (bC×Int×cJ):=
 aJ (gG s_0) fun r1=>
 if(!r1.2)&&(!s_0.bB)then
  none
 else
  if(!r1.2)||((r1.1.toNat:Int)!=62)then
   none
  else
   some ((bC.mk 5 0 0 (aa.mk 0 0 (ar.mk []) ([]:List aa)) (ar.mk [])),0,(cJ.mk s_0.Builder s_0.b_ (bd (s_0.at_+1)) s_0.bB))
def oL:IC:=
 (ae [i1 2 (.an Ce),mi 3 0] [0,2]
 (ae [mv 7 0,c1 8 253 7,gi 6 8,ex 9 6 0,ex 10 6 1,mv 4 9,mv 5 10] [0,2,4,5]
 (.seq (.block 0 (ae [mv 12 5,no 13 12,mv 14 13,df 15 0 14 true,du 16 14 true (.nilCheck (.t 15)),fg 17 14 true 4 16,du 18 14 true (.bw [.bool false] false (.t 17)),du 19 14 true (.un .not (.t 18)),pf 20 14 19,mv 11 20] [0,2,4,5,11]
 (.cond (.t 11) .dead
 (ae [mv 23 5,no 24 23,mv 25 24,df 26 4 25 false,du 27 25 false (.bin .neq (.t 26) (.c (.int .u8 62))),po 28 25 27,mv 22 28] [0,2,22]
 (.cond (.t 22) .dead
 .skip)))))
 (ae [mv 30 0,nc 31 30,fa 32 3 31,i1 33 (.bw jv false (.t 32)),bn 34 .add 33 1,nc 35 30,fa 36 3 35,st 1 36 34] [2]
 (ae [i1 37 (.build Ce [(0,1,(.c (.int .i64 5)))]),st 8 2 37,mi 3 0] [2,3]
 .ret)))))
theorem xQ:aE prog 218 38 [⟨2,false,some (8,true)⟩,⟨3,true,none⟩] oL=true:=by kernel_rfl
theorem xW{s_0}{B0:Nat}{s:ab}{Q:List AV->ab->Prop}(hB0:s B0=some (.cells [rf 251 B0 0 s_0.Builder,rh s_0.Builder,sF 1 s_0.b_,.int .i64 s_0.at_,.bool s_0.bB])):ok (jQ s_0) (fun r=>Q [.agg [.int .i64 r.1.Kind,.int .i64 r.1.b6,.int .i64 r.1.To,.int .i64 r.1.V.Kind,.int .i64 r.1.V.N,.str r.1.V.S.b,sF 4 r.1.V.L,.str r.1.S.b],.int .i64 r.2.1] (s.set B0 (.cells [rf 251 B0 0 r.2.2.Builder,rh r.2.2.Builder,sF 1 r.2.2.b_,.int .i64 r.2.2.at_,.bool r.2.2.bB])))->FN prog 218 [.ref B0 0] s Q:=by
 have hS:s=(s.set B0 (.cells [rf 251 B0 0 s_0.Builder,rh s_0.Builder,sF 1 s_0.b_,.int .i64 s_0.at_,.bool s_0.bB])):=by simp only[dZ hB0]
 rw[hS]
 intro h
 refine FO xQ rfl rfl ?_
 revert h
 rw[oL,jQ]
 repeat'(first
  |with_reducible refine ah (fun _(h:gG s_0=some _)=>sD (B0:=B0) (by simp -implicitDefEqProofs only[go_sem,seval]<;>simp only[bM]) h) (fun r1=>?_)
  |simp -implicitDefEqProofs only[go_sem,seval])
def wx(w_0:ar):Option (aa×Int):=
 jn (
  iter (fun((jt,i4):(List UInt8)×Int)=>
   if decide (i4<(w_0.b.length:Int))then
    aB (0<=i4/\i4<w_0.b.length)<|
    if((ix w_0.b i4).toNat:Int)==35 then
     none
    else
     aB ((jt.length+[ix w_0.b i4].length)*1<=room)<|
     some (.inl (jt++[ix w_0.b i4],bd (i4+1)))
   else
    some (.inr jt)) (([]:List UInt8),0)) fun(fZ:(List UInt8))=>
 aJ (mB (!(decide ((fZ.length:Int)>127))) 0 (iS fZ 0)) fun r7=>
 if(decide ((fZ.length:Int)>127))||(decide (r7>=0))then
  none
 else
  some ((aa.mk 5 0 (ar.mk fZ) ([]:List aa)),0)
def DY:IC:=
 (ae [i1 2 (.an gj),mi 3 0] [0,2]
 (ae [i1 4 (.ib true (.c (.sl true 1 0 [])))] [0,2,4]
 (.join [(2,false),(4,false)] (ae [mi 5 0] [0,2,4,5]
 (.block 0 (.loop [(0,false),(2,false),(4,false),(5,false)] (.seq (ae [mv 7 5,mv 8 0,le 9 1 8,bt 10 .lss 7 9] [0,2,4,5,10]
 (.cond (.t 10) .skip
 (.exit 0)))
 (.seq (.block 1 (ae [mv 13 0,mv 14 5,i1 15 (.jh (.t 13) (.t 14)),mv 6 15] [0,2,4,5,6]
 (.seq (ae [mv 16 6,bu 17 .eql 16 35] [0,2,4,5,6,17]
 (.cond (.t 17) .dead
 .skip))
 (.bJ none [mt 55 4,mv 56 6,i1 57 (.aN 1 1 [.int .u8 0] [(0,1,(.t 56))]),Ec 58 1 1 55 57,mt 4 58] [0,2,4,5]))))
 (.bJ none [mv 11 5,bn 12 .add 11 1,mv 5 12] [0,2,4,5]))))))
 (.seq (.seq (.bJ (some 6) [mv 59 4,le 60 0 59,bn 61 .gtr 60 127,mv 62 61,df 63 4 62 false,du 64 62 false (.call 261 [(.t 63),(.c (.int .u8 0))]),ju 65 62 false .geq 64 0,po 66 62 65] [2,4,66])
 (.cond (.t 66) .dead
 .skip))
 (ae [mt 68 4,i1 69 (.fF (.t 68)),i1 70 (.build gj [(0,1,(.c (.int .i64 5))),(2,1,(.t 69))]),st 4 2 70,mi 3 0] [2,3]
 .ret)))))
theorem PW:aE prog 221 71 [⟨2,false,some (4,true)⟩,⟨3,true,none⟩] DY=true:=by kernel_rfl
theorem Qd{w_0}{s:ab}{Q:List AV->ab->Prop}:ok (wx w_0) (fun r=>Q [.agg [.int .i64 r.1.Kind,.int .i64 r.1.N,.str r.1.S.b,sF 4 r.1.L],.int .i64 r.2] s)->FN prog 221 [.str w_0.b] s Q:=by
 intro h
 refine FO PW rfl rfl ?_
 revert h
 rw[DY,wx]
 repeat'(first
  |with_reducible refine fP rfl (fun _(h:iS fZ 0=some _)=>(by refine gL ?_ (zf h);simp -implicitDefEqProofs only[go_sem,seval])) (fun _=>rfl) (fun r7=>?_)
  |((with_reducible refine aY (fun((jt,i4):(List UInt8)×Int)=>⟨[(0,.str w_0.b),(2,.loc [.int .i64 0,.int .i64 0,.str (ar.mk []).b,.sl true 4 0 []]),(4,sT 1 jt),(5,.int .i64 i4)],[],s⟩) ?_ ?_);(first|exact rfl|simp -implicitDefEqProofs only[go_sem,seval]);rintro J ⟨jt,i4⟩)
  |((with_reducible refine bT (fun(fZ:(List UInt8))=>⟨[(2,.loc [.int .i64 0,.int .i64 0,.str (ar.mk []).b,.sl true 4 0 []]),(4,sT 1 fZ)],[],s⟩) (fun J=>?_) ?_);rotate_left;rintro fZ)
  |simp -implicitDefEqProofs only[go_sem,seval])
theorem Qc{w_0}{s:ab}{r:aa×Int}(h:wx w_0=some r):FE prog 221 [.str w_0.b] s [.agg [.int .i64 r.1.Kind,.int .i64 r.1.N,.str r.1.S.b,sF 4 r.1.L],.int .i64 r.2] s:=Qd ⟨r,h,rfl,rfl⟩
def me(s_0:cJ)(c_1:UInt8):Option (bC×Int×cJ):=
 aJ (jC c_1) fun r1=>
 if r1 then
  aJ (jo s_0) fun r2=>
  some (r2.1,r2.2.1,r2.2.2)
 else
  if(c_1.toNat:Int)==91 then
   some ((bC.mk 2 0 0 (aa.mk 0 0 (ar.mk []) ([]:List aa)) (ar.mk [])),0,(cJ.mk s_0.Builder s_0.b_ (bd (s_0.at_+1)) s_0.bB))
  else
   if(c_1.toNat:Int)==93 then
    some ((bC.mk 3 0 0 (aa.mk 0 0 (ar.mk []) ([]:List aa)) (ar.mk [])),0,(cJ.mk s_0.Builder s_0.b_ (bd (s_0.at_+1)) s_0.bB))
   else
    if(c_1.toNat:Int)==60 then
     aJ (jR (cJ.mk s_0.Builder s_0.b_ (bd (s_0.at_+1)) s_0.bB)) fun r3=>
     some (r3.1,r3.2.1,r3.2.2)
    else
     if(c_1.toNat:Int)==62 then
      aJ (jQ (cJ.mk s_0.Builder s_0.b_ (bd (s_0.at_+1)) s_0.bB)) fun r4=>
      some (r4.1,r4.2.1,r4.2.2)
     else
      if(c_1.toNat:Int)==40 then
       none
      else
       if(c_1.toNat:Int)==47 then
        aJ (jb (cJ.mk s_0.Builder s_0.b_ (bd (s_0.at_+1)) s_0.bB)) fun r5=>
        if !r5.2.1 then
         none
        else
         aJ (wx r5.1) fun r6=>
         some ((bC.mk 1 0 0 r6.1 (ar.mk [])),r6.2,r5.2.2)
       else
        none
def qG:IC:=
 (ae [i1 4 (.an Ce),mi 5 0] [0,1,4]
 (.seq (ae [mv 12 1,c1 13 215 12] [0,1,4,13]
 (.cond (.t 13) (ae [mv 14 0,c1 15 216 14,ex 16 15 0,ex 17 15 1,st 8 4 16,mv 5 17] [4,5]
 .ret)
 .skip))
 (ae [mv 18 0,nc 19 18,fa 20 3 19,i1 21 (.bw jv false (.t 20)),bn 22 .add 21 1,nc 23 18,fa 24 3 23,st 1 24 22] [0,1,4]
 (.seq (ae [mv 25 1] [0,4,25]
 (.block 0 (ae [bu 27 .eql 25 91,mv 26 27] [0,4,25,26]
 (.cond (.t 26) (ae [i1 28 (.build Ce [(0,1,(.c (.int .i64 2)))]),st 8 4 28,mi 5 0] [4,5]
 .ret)
 (ae [bu 30 .eql 25 93,mv 29 30] [0,4,25,29]
 (.cond (.t 29) (ae [i1 31 (.build Ce [(0,1,(.c (.int .i64 3)))]),st 8 4 31,mi 5 0] [4,5]
 .ret)
 (ae [bu 33 .eql 25 60,mv 32 33] [0,4,25,32]
 (.cond (.t 32) (ae [mv 34 0,c1 35 217 34,ex 36 35 0,ex 37 35 1,st 8 4 36,mv 5 37] [4,5]
 .ret)
 (ae [bu 39 .eql 25 62,mv 38 39] [0,4,25,38]
 (.cond (.t 38) (ae [mv 40 0,c1 41 218 40,ex 42 41 0,ex 43 41 1,st 8 4 42,mv 5 43] [4,5]
 .ret)
 (ae [bu 45 .eql 25 40,mv 44 45] [0,4,25,44]
 (.cond (.t 44) .dead
 (ae [bu 55 .eql 25 47,mv 54 55] [0,4,54]
 (.cond (.t 54) (ae [mv 57 0,c1 58 220 57,gi 56 58,ex 59 56 0,ex 60 56 1,mv 8 59,mv 9 60] [4,8,9]
 (.seq (ae [mv 61 9,no 62 61] [4,8,62]
 (.cond (.t 62) .dead
 .skip))
 (ae [mv 65 8,c1 66 221 65,gi 64 66,ex 67 64 0,ex 68 64 1,i1 10 (.an gj),st 4 10 67,mv 11 68] [4,10,11]
 (ae [lm 69 4 10,i1 70 (.build Ce [(0,1,(.c (.int .i64 1))),(3,4,(.t 69))]),mv 71 11,st 8 4 70,mv 5 71] [4,5]
 .ret))))
 .dead))))))))))))))
 .dead))))
theorem Bt:aE prog 180 73 [⟨4,false,some (8,true)⟩,⟨5,true,none⟩] qG=true:=by kernel_rfl
theorem Bz{s_0 c_1}{B0:Nat}{s:ab}{Q:List AV->ab->Prop}(hB0:s B0=some (.cells [rf 251 B0 0 s_0.Builder,rh s_0.Builder,sF 1 s_0.b_,.int .i64 s_0.at_,.bool s_0.bB])):ok (me s_0 c_1) (fun r=>Q [.agg [.int .i64 r.1.Kind,.int .i64 r.1.b6,.int .i64 r.1.To,.int .i64 r.1.V.Kind,.int .i64 r.1.V.N,.str r.1.V.S.b,sF 4 r.1.V.L,.str r.1.S.b],.int .i64 r.2.1] (s.set B0 (.cells [rf 251 B0 0 r.2.2.Builder,rh r.2.2.Builder,sF 1 r.2.2.b_,.int .i64 r.2.2.at_,.bool r.2.2.bB])))->FN prog 180 [.ref B0 0,.int .u8 c_1.toNat] s Q:=by
 have hS:s=(s.set B0 (.cells [rf 251 B0 0 s_0.Builder,rh s_0.Builder,sF 1 s_0.b_,.int .i64 s_0.at_,.bool s_0.bB])):=by simp only[dZ hB0]
 rw[hS]
 intro h
 refine FO Bt rfl rfl ?_
 revert h
 rw[qG,me]
 repeat'(first
  |(with_reducible first|exact bW|refine bj ?_ ?_|refine ch ?_|refine ah (fun _(h:jC c_1=some _)=>wy h) (fun r1=>?_)|refine fun hh=>wz (B0:=B0) (by simp -implicitDefEqProofs only[go_sem,seval]<;>simp only[bM]) (cT (show ok (jo s_0) _ from hh) fun r2=>?_)|refine fun hh=>xX (B0:=B0) (by simp -implicitDefEqProofs only[go_sem,seval]<;>simp only[bM]) (cT (show ok (jR (cJ.mk s_0.Builder s_0.b_ (bd (s_0.at_+1)) s_0.bB)) _ from hh) fun r3=>?_)|refine fun hh=>xW (B0:=B0) (by simp -implicitDefEqProofs only[go_sem,seval]<;>simp only[bM]) (cT (show ok (jQ (cJ.mk s_0.Builder s_0.b_ (bd (s_0.at_+1)) s_0.bB)) _ from hh) fun r4=>?_)|refine fun hh=>sE (B0:=B0) (by simp -implicitDefEqProofs only[go_sem,seval]<;>simp only[bM]) (cT (show ok (jb (cJ.mk s_0.Builder s_0.b_ (bd (s_0.at_+1)) s_0.bB)) _ from hh) fun r5=>?_)|refine ah (fun _(h:wx r5.1=some _)=>Qc h) (fun r6=>?_))
  |simp -implicitDefEqProofs only[go_sem,seval])
def eo(b_0:(List UInt8))(cX:Int)(bK:Bool):Option (bC×Int):=
 if(decide (cX<0))||(decide (cX>(b_0.length:Int)))then
  none
 else
  aJ (wv b_0 cX) fun r1=>
  if r1==(b_0.length:Int)then
   none
  else
   aB (0<=r1/\r1<b_0.length)<|
   aJ (me (cJ.mk YT.zero b_0 r1 bK) (ix b_0 r1)) fun r2=>
   if r2.2.1 !=0 then
    none
   else
    some ((bC.mk r2.1.Kind r1 r2.2.2.at_ r2.1.V r2.1.S),0)
def DW:IC:=
 (ae [i1 6 (.an Ce),mi 7 0] [0,1,2,6]
 (.seq (ae [mv 12 1,bn 13 .lss 12 0,mv 14 13,df 15 1 14 false,df 16 0 14 false,du 17 14 false (.len 0 (.t 16)),rF 18 14 false .gtr 15 17,po 19 14 18] [0,1,2,6,19]
 (.cond (.t 19) .dead
 .skip))
 (ae [mv 21 0,mv 22 1,c2 23 179 21 22,mv 8 23] [0,2,6,8]
 (.seq (ae [mv 24 8,mv 25 0,le 26 0 25,bt 27 .eql 24 26] [0,2,6,8,27]
 (.cond (.t 27) .dead
 .skip))
 (ae [mv 35 0,mv 36 8,mv 37 2,i1 38 (.build [.dV,.bb 5 0 [],.sl true 1 0 [],.int .i64 0,.bool false] [(2,1,(.t 35)),(3,1,(.t 36)),(4,1,(.t 37))]),i1 39 (.Mc 5 251 0 5 (.t 38)),mv 9 39] [0,6,8,9]
 (ae [mv 41 9,mt 42 0,mv 43 8,ia 44 [.int .u8 0] 42 43,ld 45 1 44,c2 46 180 41 45,gi 40 46,ex 47 40 0,ex 48 40 1,i1 10 (.an Ce),st 8 10 47,mv 11 48] [6,8,9,10,11]
 (.seq (ae [mv 49 11,bn 50 .neq 49 0] [6,8,9,10,50]
 (.cond (.t 50) .dead
 .skip))
 (.seq (.Vd [[false,false,false,false,false,false,false,false,false],[false,false,false,false,false,false,false,false,false],[false,true,false,false,false,false,false,false,false],[false,false,true,false,false,false,false,false,false],[false,false,false,true,false,false,false,false,false],[true,false,false,false,false,false,false,false,false],[true,false,false,false,false,true,false,false,false],[true,true,true,true,true,true,true,false,false],[true,true,true,true,true,true,true,true,false]] [mv 55 8,mv 56 9,nc 57 56,fa 58 3 57,i1 59 (.bw jv false (.t 58)),fa 60 1 10,st 1 60 55,fa 61 2 10,st 1 61 59] [6,10])
 (ae [lm 62 8 10,st 8 6 62,mi 7 0] [6,7]
 .ret)))))))))
theorem PU:aE prog 127 63 [⟨6,false,some (8,true)⟩,⟨7,true,none⟩] DW=true:=by kernel_rfl
set_option maxHeartbeats 8000000 in
theorem P9{b_0 cX bK}{s:ab}{Q:List AV->ab->Prop}:ok (eo b_0 cX bK) (fun r=>Q [.agg [.int .i64 r.1.Kind,.int .i64 r.1.b6,.int .i64 r.1.To,.int .i64 r.1.V.Kind,.int .i64 r.1.V.N,.str r.1.V.S.b,sF 4 r.1.V.L,.str r.1.S.b],.int .i64 r.2] s)->FN prog 127 [sF 1 b_0,.int .i64 cX,.bool bK] s Q:=by
 intro h
 refine FN.forget ?_
 refine FO PU rfl rfl ?_
 revert h
 rw[DW,eo]
 repeat'(first
  |(with_reducible first|exact bW|refine bj ?_ ?_|refine ch ?_)
  |((with_reducible apply alg);(·intro Q' hQ;repeat'(first|exact hQ|(simp only[dj,cu,bO,ct,Cb,Dx,Bool.not_true,Bool.not_false,Bool.or_true,Bool.true_or,Bool.false_or,Bool.or_false,Bool.and_true,Bool.true_and,Bool.and_false,Bool.false_and,cond_true,cond_false,true_and,and_true];done)|with_reducible refine⟨?_,?_⟩|with_reducible exact trivial|simp only[dj,cu,bO,ct,Cb,Dx,Bool.not_true,Bool.not_false,Bool.or_true,Bool.true_or,Bool.false_or,Bool.or_false,Bool.and_true,Bool.true_and,Bool.and_false,Bool.false_and,cond_true,cond_false,true_and,and_true]|simp -implicitDefEqProofs only[go_sem,seval])))
  |(with_reducible first|refine ah (fun _(h:wv b_0 cX=some _)=>Qa h) (fun r1=>?_)|refine fun hh=>Bz (B0:=N1) (by simp -implicitDefEqProofs only[go_sem,seval]<;>simp only[bM]) (cT (show ok (me (cJ.mk YT.zero b_0 r1 bK) (ix b_0 r1)) _ from hh) fun r2=>?_))
  |((fail_if_success (have _x:=sN1));with_reducible intro hh N1 hN1;(try simp only[dh]at hN1);have sN1:=hN1;revert hh)
  |with_reducible exact fun hh=>⟨_,lP.set (lP.refl _) (by simp[ab.set,sN1]),hh⟩
  |simp -implicitDefEqProofs only[go_sem,seval])
theorem lq{b_0 cX bK}{s:ab}{r:bC×Int}(h:eo b_0 cX bK=some r):FE prog 127 [sF 1 b_0,.int .i64 cX,.bool bK] s [.agg [.int .i64 r.1.Kind,.int .i64 r.1.b6,.int .i64 r.1.To,.int .i64 r.1.V.Kind,.int .i64 r.1.V.N,.str r.1.V.S.b,sF 4 r.1.V.L,.str r.1.S.b],.int .i64 r.2] s:=P9 ⟨r,h,rfl,rfl⟩
@[go_sem]abbrev oV(v:aa):AV:=.agg [.int .i64 v.Kind,.int .i64 v.N,.str v.S.b,sF 4 v.L]
end Go.AB
end
