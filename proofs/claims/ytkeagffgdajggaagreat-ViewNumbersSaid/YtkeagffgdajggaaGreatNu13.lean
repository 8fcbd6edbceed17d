/- A part of the proof: Ir, Pure1, Na, Nd, Ib, Lm, At, Lx. -/
import Derived.Test.YtkeagffgdajggaaGreatNu10
import Derived.Laws.RangeAny
import Derived.LoopTactic
import Derived.Lib.Bytealg
import Derived.Laws.Externs
import Derived.Lib.Walk
import Derived.Test.YtkeagffgdajggaaGreatNu11
import Derived.Lib.BytesEntry
set_option linter.unusedSimpArgs false
set_option linter.unusedVariables false
section
namespace Go.AB
open Go
def fa(d o x:Nat):ah:=⟨some d,.fieldAddr o (.t x),none⟩
def ld(d n x:Nat):ah:=⟨some d,.load n false (.t x),none⟩
def lm(d n x:Nat):ah:=⟨some d,.load n true (.t x),none⟩
def c6(d:Nat)(a:AV):ah:=⟨some d,.jL false (.c a),none⟩
def mi(d:Nat)(n:Int):ah:=⟨some d,.jL false (.c (.int .i64 n)),none⟩
def c1(d f x:Nat):ah:=⟨some d,.call f [.t x],none⟩
def c2(d f x y:Nat):ah:=⟨some d,.call f [.t x,.t y],none⟩
def c3(d f x y z:Nat):ah:=⟨some d,.call f [.t x,.t y,.t z],none⟩
def ex(d x k:Nat):ah:=⟨some d,.extract (.t x) k,none⟩
def st(n p v:Nat):ah:=⟨none,.store n (.t p) (.t v),none⟩
def bn(d:Nat)(o:BinOp)(x:Nat)(n:Int):ah:=⟨some d,.bin o (.t x) (.c (.int .i64 n)),none⟩
def bu(d:Nat)(o:BinOp)(x:Nat)(n:Int):ah:=⟨some d,.bin o (.t x) (.c (.int .u8 n)),none⟩
def bt(d:Nat)(o:BinOp)(x y:Nat):ah:=⟨some d,.bin o (.t x) (.t y),none⟩
def nc(d x:Nat):ah:=⟨some d,.nilCheck (.t x),none⟩
def le(d k x:Nat):ah:=⟨some d,.len k (.t x),none⟩
def no(d x:Nat):ah:=⟨some d,.un .not (.t x),none⟩
def pf(d x y:Nat):ah:=⟨some d,.pick (.t x) (.t y) (.c (.bool false)),none⟩
def po(d x y:Nat):ah:=⟨some d,.pick (.t x) (.c (.bool true)) (.t y),none⟩
def fg(d t:Nat)(w:Bool)(o x:Nat):ah:=⟨some d,.fieldAddr o (.t x),some (t,w)⟩
def lg(d t:Nat)(w:Bool)(n x:Nat):ah:=⟨some d,.load n false (.t x),some (t,w)⟩
def ia(d:Nat)(z:List AV)(x y:Nat):ah:=⟨some d,.indexAddr z (.t x) (.t y),none⟩
def iA:List AV:=[.int .i64 0,.int .i64 0,.str [],.sl true 4 0 []]
def qT:List AV:=[.int .i64 0,.int .i64 0,.str [],.sl false 4 0 []]
def zz:List AV:=[.int .i64 0,.int .i64 0,.str [],.sl true 4 0 [],.bool false,.str []]
def Qu:List AV:=[.int .i64 0,.int .i64 0,.str [],.sl false 4 0 [],.bool false,.str []]
def BB:List AV:=[.int .i64 0,.int .i64 0,.int .i64 0,.int .i64 0,.int .i64 0,.str [],.sl true 4 0 [],.str []]
def U8:List AV:=[.int .i64 0,.sl true 1 0 [],.int .i64 0,.int .i64 0,.str [],.sl true 4 0 []]
def jV:List AV:=[.int .i64 0]
def iV(d x:Nat):ah:=⟨some d,.rW (.t x),none⟩
def rj(d n x y:Nat):ah:=⟨some d,.slice n (.t x) (some (.t y)) none none,none⟩
def PV(d n x y:Nat):ah:=⟨some d,.slice n (.t x) none (some (.t y)) none,none⟩
def UF(d n m x y:Nat):ah:=⟨some d,.append n m (.t x) (.t y),none⟩
def UG(d f x y z w:Nat):ah:=⟨some d,.call f [.t x,.t y,.t z,.t w],none⟩
def qpk(d x y z:Nat):ah:=⟨some d,.pick (.t x) (.t y) (.t z),none⟩
def sY(d t:Nat)(w:Bool)(o:BinOp)(x y:Nat):ah:=⟨some d,.bin o (.t x) (.t y),some (t,w)⟩
def kS(d t:Nat)(w:Bool)(o:BinOp)(x:Nat)(n:Int):ah:=⟨some d,.bin o (.t x) (.c (.int .i64 n)),some (t,w)⟩
def RX(d t:Nat)(w:Bool)(f x:Nat):ah:=⟨some d,.call f [.t x],some (t,w)⟩
def qd2(d t:Nat)(w:Bool)(f x y:Nat):ah:=⟨some d,.call f [.t x,.t y],some (t,w)⟩
def af(l:List ah)(v:List Nat)(k:IC):IC:=.seq (.bN none l v) k
attribute[go_sem] iA qT zz Qu BB U8 jV iV rj PV UF UG qpk sY kS RX qd2 af fa ld lm c6 mi c1 c2 c3 ex st bn bu bt nc le no pf po fg lg ia
@[go_sem]abbrev sF{α:Type}[aK α](n:Nat)(l:List α):AV:=.sl false n l.length (flat l)
@[go_sem]abbrev sT{α:Type}[aK α](n:Nat)(l:List α):AV:=.sl true n l.length (flat l)
end Go.AB
end
section
namespace Go.AB
open Go
theorem KL{S O:Type}{body:S->Option (S⊕O)}(I:S->Prop)(μ:S->Nat)(Qx:O->Prop)
 (step:∀s,I s->∃x,body s=some x/\(match x with|.inl t=>I t/\μ t<μ s|.inr o=>Qx o)):∀(n:Nat)(s:S),I s->μ s<n->∃o,cX body n s=some o/\Qx o
 |0,_,_,h=>absurd h (Nat.not_lt_zero _)
 |n+1,s,hi,hn=>by
  obtain⟨x,hx,h⟩:=step s hi
  cases x with
  |inl t=>
   obtain⟨o,h1,h2⟩:=KL I μ Qx step n t h.1 (by have:=h.2;omega)
   exact⟨o,by unfold cX;rw[hx];exact h1,h2⟩
  |inr o=>exact⟨o,by unfold cX;rw[hx],h⟩
theorem nE{S O:Type}{body:S->Option (S⊕O)}{s0:S}(I:S->Prop)(μ:S->Nat)(Qx:O->Prop)(h0:I s0)(hμ:μ s0<18446744073709551616)
 (step:∀s,I s->∃x,body s=some x/\(match x with|.inl t=>I t/\μ t<μ s|.inr o=>Qx o)):∃o,iter body s0=some o/\Qx o:=
 KL I μ Qx step _ s0 h0 hμ
theorem iter_eq{S O:Type}{body:S->Option (S⊕O)}{s0:S}{o:O}(I:S->Prop)(μ:S->Nat)(h0:I s0)(hμ:μ s0<18446744073709551616)
 (step:∀s,I s->(∃t,body s=some (.inl t)/\I t/\μ t<μ s)\/body s=some (.inr o)):iter body s0=some o:=by
 obtain⟨p,h1,h2⟩:=nE I μ (fun p=>p=o) h0 hμ fun s hs=>by
  rcases step s hs with⟨t,h1,h2⟩|h1
  ·exact⟨_,h1,h2⟩
  ·exact⟨_,h1,rfl⟩
 rw[h1,h2]
theorem aI{n:Int}(h1:-9223372036854775808<=n)(h2:n<=9223372036854775807):bj n=n:=by
 unfold bj IntKind.wrap
 have:(2^IntKind.i64.bits:Int)=18446744073709551616:=by decide
 have h3:(2^(IntKind.i64.bits -1):Int)=9223372036854775808:=by decide
 rw[this,h3]
 simp only[IntKind.signed,Bool.true_and,decide_eq_true_eq]
 split<;>omega
@[simp]theorem a8{α β:Type}(a:α)(f:α->Option β):aW (some a) f=f a:=rfl
@[simp]theorem agp{α β:Type}(f:α->Option β):aW none f=none:=rfl
@[simp]theorem ajC{α β:Type}(a:α)(f:α->Option β):jn (some a) f=f a:=rfl
@[simp]theorem ajB{α β:Type}(f:α->Option β):jn none f=none:=rfl
@[simp]theorem akt{X Y α:Type}(x:X)(F:X->Option α)(G:Y->Option α):jG (some (.inl x)) F G=F x:=rfl
@[simp]theorem aku{X Y α:Type}(y:Y)(F:X->Option α)(G:Y->Option α):jG (some (.inr y)) F G=G y:=rfl
@[simp]theorem al3{X Y α:Type}(x:X)(F:X->Option α)(G:Y->Option α):yp (some (.inl x)) F G=F x:=rfl
@[simp]theorem al4{X Y α:Type}(y:Y)(F:X->Option α)(G:Y->Option α):yp (some (.inr y)) F G=G y:=rfl
@[simp]theorem al5{α:Type}(o:Option α):jn o (fun a=>some a)=o:=by cases o<;>rfl
@[simp]theorem akv{α:Type}(o:Option α):aW o (fun a=>some a)=o:=by cases o<;>rfl
theorem dM{α:Type}{c:Prop}[Decidable c](h:c)(o:Option α):aG c o=o:=if_pos h
@[simp]theorem afp{α:Type}[Decidable True](o:Option α):aG True o=o:=if_pos trivial
@[simp]theorem TD{α:Type}(z:α)(o:Option α):l8 true z o=o:=rfl
@[simp]theorem TC{α:Type}(z:α)(o:Option α):l8 false z o=some z:=rfl
@[simp]theorem agw{A B C:Type}(f:A->C)(g:B->C)(a:A):lA f g (.inl a)=f a:=rfl
@[simp]theorem agx{A B C:Type}(f:A->C)(g:B->C)(b:B):lA f g (.inr b)=g b:=rfl
theorem kK{α:Type}[aK α]{l:List α}{i:Int}(h:i.toNat<l.length):ix l i=l[i.toNat]:=by unfold ix;rw[List.getD_eq_getElem?_getD,List.getElem?_eq_getElem h];rfl
theorem cQ{α:Type}[aK α]{l:List α}{k:Nat}(h:k<l.length):ix l (k:Int)=l[k]:=by rw[kK (by simpa using h)];simp
end Go.AB
end
section
set_option maxRecDepth 4000
namespace Go.AB
open Go
open Go.Proofs.Tryz (prog)
open Go.RowKit
theorem H7{w:World}{R:Nat->Nat}{a b:AV}{vs:Array Value}(h:kH w R [a,b] vs):∃v0 v1,vs= #[v0,v1]/\VR w R a v0/\VR w R b v1:=by
 obtain⟨hl,hr⟩:=h
 obtain⟨l⟩:=vs
 match l,hl with
 |[v0,v1],_=>exact⟨v0,v1,rfl,hr 0 _ _ rfl rfl,hr 1 _ _ rfl rfl⟩
 |[],hl=>simp at hl
 |[_],hl=>simp at hl
 |_::_::_::_,hl=>simp at hl
theorem Qf{w:World}{R:Nat->Nat}{a:AV}{vs:Array Value}(h:kH w R [a] vs):∃v0,vs= #[v0]/\VR w R a v0:=by
 obtain⟨hl,hr⟩:=h
 obtain⟨l⟩:=vs
 match l,hl with
 |[v0],_=>exact⟨v0,rfl,hr 0 _ _ rfl rfl⟩
 |[],hl=>simp at hl
 |_::_::_,hl=>simp at hl
theorem DM(a:ByteArray)(c:Int)(w:World):Calls prog 178 #[.string a,.int .u8 c] w fun e w'=>e=.returned (.int .i64 (Lib.indexByte a.data.toList c.toNat.toUInt8))/\w'=w:=by
 have mixed:=mix
 have t3:prog.underlying 3=some (.int .i64):=by kernel_rfl
 have u3:=run_underlying t3
 go_enter Go.Proofs.Tryz.func178,(show Go.Proofs.Tryz.f178.ntmps=8 from rfl)
 go_wp2
 rw[run_callFunc_extern Go.Proofs.Tryz.func214 (by kernel_rfl) (by kernel_rfl) (by kernel_rfl) (e:=Extern.BytealgIndexByte.indexByte) (by kernel_rfl),Lib.run_indexByteString]
 simp only[Result.andThen]
 rw[Oper.upon_value]
 go_wp2
 go_ret
 exact⟨rfl,rfl⟩
def eF(s:aw)(c:UInt8):Option Int:=some (Lib.indexByte s.b c)
theorem qZ{a:aw}{c:UInt8}{s:ab}{Q:List AV->ab->Prop}(h:ok (eF a c) fun r=>Q [.int .i64 r] s):FN prog 178 [.str a.b,.int .u8 c.toNat] s Q:=by
 unfold eF at h
 rw[aA]at h
 intro G w vs h1 h2 h3 h4
 obtain⟨v0,v1,rfl,k0,k1⟩:=H7 h4
 rw[VR.eW k0,VR.ct k1]
 refine(DM _ _ w).mono fun e w'⟨he,hw⟩=>?_
 subst hw
 refine⟨_,_,s,G,he,h,h1,h3,⟨?_,trivial⟩,ax.refl G w'⟩
 have e:((c.toNat:Int).toNat).toUInt8=c:=by simp
 rw[e]
 exact .int _ _
theorem qY{a:aw}{c:UInt8}{s:ab}{r:Int}(h:eF a c=some r):FE prog 178 [.str a.b,.int .u8 c.toNat] s [.int .i64 r] s:=qZ ⟨r,h,rfl,rfl⟩
theorem L7(a:ByteArray)(c:UInt8)(w:World):Calls prog 351 #[.string a,.string ⟨#[c]⟩] w fun e w'=>e=.returned (.int .i64 (Lib.indexByte a.data.toList c))/\w'=w:=by
 have mixed:=mix
 have t3:prog.underlying 3=some (.int .i64):=by kernel_rfl
 have u3:=run_underlying t3
 have t9:prog.underlying 9=some .string:=by kernel_rfl
 have u9:=run_underlying t9
 go_enter Go.Proofs.Tryz.func351,(show Go.Proofs.Tryz.f351.ntmps=143 from rfl)
 go_wp2
 ·rename_i hc
  go_ret
  refine⟨?_,rfl⟩
  have e:a.toList=[c]:=(eq_of_beq hc).symm
  have e2:a.data.toList=[c]:=by
   obtain⟨⟨l⟩⟩:=a
   simpa using e
  rw[e2]
  simp[Lib.indexByte]
 ·rw[run_callFunc_extern Go.Proofs.Tryz.func214 (by kernel_rfl) (by kernel_rfl) (by kernel_rfl) (e:=Extern.BytealgIndexByte.indexByte) (by kernel_rfl),Lib.run_indexByteString]
  simp only[Result.andThen]
  rw[Oper.upon_value]
  go_wp2
  go_ret
  exact⟨rfl,rfl⟩
def gi(s sub:aw):Option Int:=aG (sub.b.length=1) (some (Lib.indexByte s.b (ix sub.b 0)))
theorem wF{a b:aw}{s:ab}{Q:List AV->ab->Prop}(h:ok (gi a b) fun r=>Q [.int .i64 r] s):FN prog 351 [.str a.b,.str b.b] s Q:=by
 unfold gi at h
 rw[dB,aA]at h
 obtain⟨hl,h⟩:=h
 obtain⟨c,hc⟩:∃c,b.b=[c]:=List.length_eq_one_iff.1 hl
 rw[hc]at h⊢
 intro G w vs h1 h2 h3 h4
 obtain⟨v0,v1,rfl,k0,k1⟩:=H7 h4
 rw[VR.eW k0,VR.eW k1]
 refine(L7 _ c w).mono fun e w'⟨he,hw⟩=>?_
 subst hw
 exact⟨_,_,s,G,he,h,h1,h3,⟨.int _ _,trivial⟩,ax.refl G w'⟩
theorem wE{a b:aw}{s:ab}{r:Int}(h:gi a b=some r):FE prog 351 [.str a.b,.str b.b] s [.int .i64 r] s:=wF ⟨r,h,rfl,rfl⟩
def nD(c:UInt8):Bool:=decide (48<=c.toNat)&&decide (c.toNat<=57)
theorem KM{G:Gh}{w:World}{s:ByteArray}{pos:Nat}(h:b9 G w):b9 (G.sk w.heap.size .none 0) (w.iter s pos)/\ax G w (G.sk w.heap.size .none 0) (w.iter s pos)/\(∀{st:ab},aP G w st->aP (G.sk w.heap.size .none 0) (w.iter s pos) st):=by
 obtain⟨q1,q2,q3⟩:=gL h (.stringIter s pos) .none 0
 refine⟨q1,q2,fun hs=>hs.mono h q2 (fun b hb=>?_) (fun b c j _ hc=>?_)⟩
 ·obtain⟨k1,k2,k3⟩:=q3 b (by rw[hb];simp)
  exact⟨k1.trans hb,k2,k3⟩
 ·obtain⟨k1,k2,k3⟩:=q3 c (by rw[hc];simp)
  exact⟨k1.trans hc,k2,k3⟩
theorem SJ(s:ByteArray)(pos:Nat)(h:pos<s.size):s.data.toList.drop pos=(s[pos]'h)::s.data.toList.drop (pos+1):=by
 have hl:pos<s.data.toList.length:=by simpa using h
 rw[List.drop_eq_getElem_cons hl]
 rfl
theorem TG(s:ByteArray)(w:World){r:Bool}(hr:s.data.toList.all nD=r):Calls prog 290 #[.string s] w fun e w'=>e=.returned (.bool r)/\∃pos,w'=w.iter s pos:=by
 have mixed:=mix
 have t3:prog.underlying 3=some (.int .i64):=by kernel_rfl
 have u3:=run_underlying t3
 have t9:prog.underlying 9=some .string:=by kernel_rfl
 have u9:=run_underlying t9
 go_enter Go.Proofs.Tryz.func290,(show Go.Proofs.Tryz.f290.ntmps=13 from rfl)
 go_wp2
 go_loopw [] (fun w'=>∃pos,w'=w.iter s pos/\(s.data.toList.drop pos).all nD=r) (fun w'=>s.size -w'.iterPos w.heap.size)
 case atStart=>exact⟨0,rfl,hr⟩
 case round=>
  obtain⟨pos,rfl,eo⟩:=hrel
  by_cases hp:pos<s.size
  ·rw[SJ s pos hp,List.all_cons]at eo
   by_cases ha:(s[pos]'hp).toNat<128
   ·have hnx:∀ty,(Instr.next (.pointer (some ⟨w.heap.size,0,none⟩)) true ty).run prog (w.iter s pos)=_:=fun ty=>run_next_ascii w s pos ty hp ha
    generalize(s[pos]'hp)=c at hnx eo ha
    go_wp2
    all_goals first
     |(go_ret
       have hc:nD c=false:=by unfold nD;simp;omega
       rw[hc]at eo
       rw[<-eo]
       exact⟨rfl,_,rfl⟩)
     |(refine⟨⟨pos+1,rfl,?_⟩,by omega⟩
       have hc:nD c=true:=by unfold nD;simp;omega
       rw[hc,Bool.true_and]at eo
       exact eo)
   ·have hnx:∀ty,(Instr.next (.pointer (some ⟨w.heap.size,0,none⟩)) true ty).run prog (w.iter s pos)=_:=fun ty=>run_next_any w s pos ty hp
    have hd:=(decode_high s pos hp (by omega)).1
    have hd2:=decode_le s pos
    have hc:nD (s[pos]'hp)=false:=by unfold nD;simp;omega
    rw[hc]at eo
    generalize(Utf8.decode s pos).1=d at hnx hd hd2
    go_wp2
    all_goals first
     |omega
     |(go_ret
       rw[<-eo]
       exact⟨rfl,_,rfl⟩)
     |(exfalso;omega)
  ·have hnx:∀ty,(Instr.next (.pointer (some ⟨w.heap.size,0,none⟩)) true ty).run prog (w.iter s pos)=_:=fun ty=>run_next_end w s pos ty hp
   rw[List.drop_eq_nil_of_le (by simpa using(by omega:s.size<=pos))]at eo
   go_wp2
   go_ret
   rw[<-eo]
   exact⟨rfl,_,rfl⟩
def sV(s:aw):Option Bool:=some (s.b.all nD)
theorem RA{a:aw}{s:ab}{Q:List AV->ab->Prop}(h:ok (sV a) fun r=>Q [.bool r] s):FN prog 290 [.str a.b] s Q:=by
 unfold sV at h
 rw[aA]at h
 intro G w vs h1 h2 h3 h4
 obtain⟨v0,rfl,k0⟩:=Qf h4
 rw[VR.eW k0]
 refine(TG ⟨a.b.toArray⟩ w (r:=a.b.all nD) (by simp)).mono fun e w'⟨he,pos,hw⟩=>?_
 subst hw
 obtain⟨q1,q2,q3⟩:=KM (s:=⟨a.b.toArray⟩) (pos:=pos) h1
 exact⟨_,_,s,_,he,h,q1,q3 h3,⟨.bool _,trivial⟩,q2⟩
theorem Ha{a:aw}{s:ab}{r:Bool}(h:sV a=some r):FE prog 290 [.str a.b] s [.bool r] s:=RA ⟨r,h,rfl,rfl⟩
end Go.AB
end
section
set_option maxRecDepth 4000
namespace Go.AB
open Go Go.RowKit
open Go.Proofs.Tryz (prog)
def SH(st:Int×Bool)(c:UInt8):Int×Bool:=
 let qQ:=st.2||decide (st.1>(2147483647 -((c.toNat:Int) -48)).tdiv 10)
 (if qQ then st.1 else 10*st.1+((c.toNat:Int) -48),qQ)
def Oe:List UInt8->Int×Bool->Int×Int
 |[],st=>if st.2 then(0,5)else(st.1,0)
 |c::l,st=>if nD c then Oe l (SH st c)else(0,11)
def BC(r:Int×Int)(l:List UInt8)(v4 v5:Value):Prop:=∃(n:Int)(qQ:Bool),v4=.int .i64 n/\v5=.bool qQ/\0<=n/\n<=2147483647/\Oe l (n,qQ)=r
theorem BC.step{r:Int×Int}{c:UInt8}{l:List UInt8}{n m:Int}{qQ o:Bool}(hd:48<=(c.toNat:Int)/\(c.toNat:Int)<=57)(h0:0<=n)(h1:n<=2147483647)(h:Oe l (SH (n,qQ) c)=r)
 (ho:o=(qQ||decide (n>(2147483647 -((c.toNat:Int) -48)).tdiv 10)))(hm:m=if o then n else 10*n+((c.toNat:Int) -48)):BC r l (.int .i64 m) (.bool o):=by
 subst ho;subst hm
 refine⟨_,_,rfl,rfl,?_,?_,h⟩
 ·split<;>omega
 ·split
  ·omega
  ·rename_i hh
   have hh:¬n>(2147483647 -((c.toNat:Int) -48)).tdiv 10:=by simp at hh;omega
   rw[Int.tdiv_eq_ediv_of_nonneg (by omega)]at hh
   omega
theorem Of{c:Int}(hd:48<=c/\c<=57):((((2147483647 -(((c -48+2147483648)% 4294967296 -2147483648+9223372036854775808)% 18446744073709551616 -9223372036854775808)+9223372036854775808)% 18446744073709551616 -9223372036854775808).tdiv 10+9223372036854775808)% 18446744073709551616 -9223372036854775808)=(2147483647 -(c -48)).tdiv 10:=by
 have e1:((c -48+2147483648)% 4294967296 -2147483648+9223372036854775808)% 18446744073709551616 -9223372036854775808=c -48:=by omega
 rw[e1]
 have e2:(2147483647 -(c -48)+9223372036854775808)% 18446744073709551616 -9223372036854775808=2147483647 -(c -48):=by omega
 rw[e2,Int.tdiv_eq_ediv_of_nonneg (by omega)]
 omega
theorem VE{c n:Int}(hd:48<=c/\c<=57)(h0:0<=n)(h1:n<=2147483647):((10*n+9223372036854775808)% 18446744073709551616 -9223372036854775808+(((c -48+2147483648)% 4294967296 -2147483648+9223372036854775808)% 18446744073709551616 -9223372036854775808)+9223372036854775808)% 18446744073709551616 -9223372036854775808=10*n+(c -48):=by omega
set_option maxHeartbeats 40000000 in
theorem LO(s:ByteArray)(w:World){r:Int×Int}(hr:(if s.data.toList=[]then(0,11)else Oe s.data.toList (0,false))=r):Calls prog 291 #[.string s] w fun e w'=>e=.returned (.tuple #[.int .i64 r.1,.int .i64 r.2])/\(w'=w\/∃pos,w'=w.iter s pos):=by
 have mixed:=mix
 have t3:prog.underlying 3=some (.int .i64):=by kernel_rfl
 have u3:=run_underlying t3
 have t9:prog.underlying 9=some .string:=by kernel_rfl
 have u9:=run_underlying t9
 go_enter Go.Proofs.Tryz.func291,(show Go.Proofs.Tryz.f291.ntmps=36 from rfl)
 go_wp2
 ·have hq:= ‹s.toList.isEmpty=true›
  have hc:s.data.toList=[]:=by
   obtain⟨⟨l⟩⟩:=s
   simpa using hq
  rw[if_pos hc]at hr
  subst hr
  go_ret2
  exact⟨rfl,.inl rfl⟩
 have hq:= ‹s.toList.isEmpty=false›
 have hc:s.data.toList≠[]:=by
  obtain⟨⟨l⟩⟩:=s
  simpa using hq
 rw[if_neg hc]at hr
 go_loopw [4,5] (fun v4 v5 w'=>∃(pos:Nat),w'=w.iter s pos/\BC r (s.data.toList.drop pos) v4 v5) (fun _ _ w'=>s.size -w'.iterPos w.heap.size)
 case atStart=>exact⟨0,rfl,0,false,rfl,rfl,by omega,by omega,hr⟩
 case round=>
  obtain⟨pos,rfl,n,qQ,rfl,rfl,hn0,hn1,eo⟩:=hrel
  by_cases hp:pos<s.size
  ·rw[SJ s pos hp,Oe]at eo
   by_cases ha:(s[pos]'hp).toNat<128
   ·have hnx:∀ty,(Instr.next (.pointer (some ⟨w.heap.size,0,none⟩)) true ty).run prog (w.iter s pos)=_:=fun ty=>run_next_ascii w s pos ty hp ha
    generalize(s[pos]'hp)=c at hnx eo ha
    by_cases hdig:48<=(c.toNat:Int)/\(c.toNat:Int)<=57
    ·have hc:nD c=true:=by unfold nD;simp;omega
     rw[if_pos hc]at eo
     cases qQ<;>go_wp2
     all_goals first
      |(exfalso;omega)
      |(refine⟨⟨_,_,_,_,⟨pos+1,rfl,?_⟩,rfl,rfl,rfl,rfl⟩,by omega⟩
        first
         |exact BC.step hdig hn0 hn1 eo rfl rfl
         |(have hx:= ‹(!decide (_<n))=true›
           simp only[Bool.not_eq_true']at hx
           refine BC.step hdig hn0 hn1 eo (by rw[Of hdig];rfl) ?_
           rw[hx]
           exact VE hdig hn0 hn1)
         |(have hx:= ‹(!decide (_<n))=false›
           simp only[Bool.not_eq_false']at hx
           refine BC.step hdig hn0 hn1 eo (by rw[Of hdig];rfl) ?_
           rw[hx]
           rfl))
    ·have hc:nD c=false:=by unfold nD;simp;omega
     rw[hc]at eo
     have eo:((0:Int),(11:Int))=r:=eo
     subst eo
     cases qQ<;>go_wp2
     all_goals first
      |(exfalso;omega)
      |(go_ret2
        exact⟨rfl,.inr ⟨_,rfl⟩⟩)
   ·have hnx:∀ty,(Instr.next (.pointer (some ⟨w.heap.size,0,none⟩)) true ty).run prog (w.iter s pos)=_:=fun ty=>run_next_any w s pos ty hp
    have hd:=(decode_high s pos hp (by omega)).1
    have hd2:=decode_le s pos
    have hc:nD (s[pos]'hp)=false:=by unfold nD;simp;omega
    rw[hc]at eo
    have eo:((0:Int),(11:Int))=r:=eo
    subst eo
    generalize(Utf8.decode s pos).1=d at hnx hd hd2
    cases qQ<;>go_wp2
    all_goals first
     |(exfalso;omega)
     |(go_ret2
       exact⟨rfl,.inr ⟨_,rfl⟩⟩)
  ·have hnx:∀ty,(Instr.next (.pointer (some ⟨w.heap.size,0,none⟩)) true ty).run prog (w.iter s pos)=_:=fun ty=>run_next_end w s pos ty hp
   rw[List.drop_eq_nil_of_le (by simpa using(by omega:s.size<=pos))]at eo
   cases qQ<;>go_wp2
   all_goals(go_ret2;subst eo;exact⟨rfl,.inr ⟨_,rfl⟩⟩)
def sU(s:aw):Option (Int×Int):=some (if s.b=[]then(0,11)else Oe s.b (0,false))
theorem Jz{a:aw}{s:ab}{Q:List AV->ab->Prop}(h:ok (sU a) fun r=>Q [.int .i64 r.1,.int .i64 r.2] s):FN prog 291 [.str a.b] s Q:=by
 unfold sU at h
 rw[aA]at h
 intro G w vs h1 h2 h3 h4
 obtain⟨v0,rfl,k0⟩:=Qf h4
 rw[VR.eW k0]
 refine(LO ⟨a.b.toArray⟩ w (r:=if a.b=[]then(0,11)else Oe a.b (0,false)) (by simp)).mono fun e w'⟨he,hw⟩=>?_
 generalize(if a.b=[]then((0:Int),(11:Int))else Oe a.b (0,false))=r at h he
 have rE:∀(G':Gh)(w':World),pb G' w' [.int .i64 r.1,.int .i64 r.2] (.tuple #[.int .i64 r.1,.int .i64 r.2]):=fun G' w'=>⟨_,rfl,rfl,fun j x y hx hy=>by
  match j,hx,hy with
  |0,hx,hy=>injection hx with hx;injection hy with hy;subst hx;subst hy;exact⟨.int _ _,trivial⟩
  |1,hx,hy=>injection hx with hx;injection hy with hy;subst hx;subst hy;exact⟨.int _ _,trivial⟩
  |_+2,hx,_=>simp at hx⟩
 rcases hw with hw|⟨pos,hw⟩
 ·subst hw
  exact⟨_,_,s,G,he,h,h1,h3,rE _ _,ax.refl G w'⟩
 ·subst hw
  obtain⟨q1,q2,q3⟩:=KM (s:=⟨a.b.toArray⟩) (pos:=pos) h1
  exact⟨_,_,s,_,he,h,q1,q3 h3,rE _ _,q2⟩
theorem Jy{a:aw}{s:ab}{r:Int×Int}(h:sU a=some r):FE prog 291 [.str a.b] s [.int .i64 r.1,.int .i64 r.2] s:=Jz ⟨r,h,rfl,rfl⟩
end Go.AB
end
section
set_option maxRecDepth 4000
namespace Go.AB
open Go
open Go.Proofs.Tryz (prog)
open Go.RowKit
theorem P8{P:Program}(a:Addr)(cap:Nat)(c:Int)(w:World):(Extern.BytealgIndexByte.indexByte #[.slice (some a) 0 cap,.int .u8 c]).run P w=.ok (.int .i64 (-1)) w:=rfl
theorem qF{v:Value}{cv r:Int}{w:World}(hr:(Extern.BytealgIndexByte.indexByte #[v,.int .u8 cv]).run prog w=.ok (.int .i64 r) w):Calls prog 261 #[v,.int .u8 cv] w fun e w'=>e=.returned (.int .i64 r)/\w'=w:=by
 have mixed:=mix
 go_enter Go.Proofs.Tryz.func261,(show Go.Proofs.Tryz.f261.ntmps=8 from rfl)
 go_wp2
 rw[run_callFunc_extern Go.Proofs.Tryz.func296 (by kernel_rfl) (by kernel_rfl) (by kernel_rfl) (e:=Extern.BytealgIndexByte.indexByte) (by kernel_rfl),hr]
 simp only[Result.andThen]
 rw[Oper.upon_value]
 go_wp2
 go_ret
 exact⟨rfl,rfl⟩
theorem Fw:∀l:List UInt8,Lib.bytesOf (l.map fun c=>(c.toNat:Int))=l
 |[]=>rfl
 |c::l=>by
  have h:=Fw l
  unfold Lib.bytesOf at h⊢
  rw[List.map_cons,List.map_cons,h]
  congr 1
  simp
def iq(s:List UInt8)(c:UInt8):Option Int:=some (Lib.indexByte s c)
theorem yJ{a:List UInt8}{c:UInt8}{s:ab}{Q:List AV->ab->Prop}(h:ok (iq a c) fun r=>Q [.int .i64 r] s):FN prog 261 [.sl false 1 a.length (flat a),.int .u8 c.toNat] s Q:=by
 unfold iq at h
 rw[aA]at h
 intro G w vs h1 h2 h3 h4
 obtain⟨v0,v1,rfl,k0,k1⟩:=H7 h4
 rw[VR.ct k1]
 have ec:((c.toNat:Int).toNat).toUInt8=c:=by simp
 have fin:∀(e:Ending)(w':World)(r:Int),r=Lib.indexByte a c->e=.returned (.int .i64 r)/\w'=w->∃v rs s' G',e=.returned v/\Q rs s'/\b9 G' w'/\aP G' w' s'/\pb G' w' rs v/\ax G w G' w':=by
  rintro e w' r hr ⟨he,hw⟩
  subst hw;subst hr
  exact⟨_,_,s,G,he,h,h1,h3,⟨.int _ _,trivial⟩,ax.refl G w'⟩
 have e0:∀b:List UInt8,a=[]->Lib.indexByte a c=-1:=fun _ e=>by subst e;rfl
 rcases VR.hZ k0 with⟨(e|⟨_,ad,cap,e⟩),h0,_⟩|⟨b,off,cap,e,hcl,hRb,gZ,hat⟩
 ·subst e
  have ha:a=[]:=List.eq_nil_of_length_eq_zero h0
  exact(qF (Lib.run_indexByteNil w 0 0 _)).mono fun e w' hh=>fin e w' _ (e0 a ha).symm hh
 ·subst e
  have ha:a=[]:=List.eq_nil_of_length_eq_zero h0
  exact(qF (P8 ad cap _ w)).mono fun e w' hh=>fin e w' _ (e0 a ha).symm hh
 ·subst e
  obtain⟨u,u1,u2,_⟩:=hat
  have ja:∀i,i<a.length->w.cell? ⟨b,off+i,none⟩=some (.int .u8 ((a.map fun c=>(c.toNat:Int)).getD i 0)):=by
   intro i hi
   have hfj:(flat a)[i]? =some (.int .u8 (a[i]).toNat):=by
    have hm:∀l:List UInt8,flat l=l.map fun c=>AV.int .u8 c.toNat:=fun l=>by
     induction l with
     |nil=>rfl
     |cons c l ih=>rw[List.map_cons,<-ih];rfl
    rw[hm,List.getElem?_map,List.getElem?_eq_getElem hi];rfl
   rw[u1 i _ hfj,VR.ct (u2 i _ hfj)]
   simp[List.getD_eq_getElem?_getD,hi]
  refine(qF (Lib.run_indexByteSlice w b off a.length cap (a.map fun c=>(c.toNat:Int)) (by simp) ja _)).mono fun e w' hh=>fin e w' _ ?_ hh
  rw[Fw,ec]
theorem yI{a:List UInt8}{c:UInt8}{s:ab}{r:Int}(h:iq a c=some r):FE prog 261 [.sl false 1 a.length (flat a),.int .u8 c.toNat] s [.int .i64 r] s:=yJ ⟨r,h,rfl,rfl⟩
end Go.AB
end
section
namespace Go.AB
open Go
end Go.AB
end
section
namespace Go.AB
open Go
attribute[go_sem] Nat.add_zero
@[go_sem]theorem bV{α:Type}(l:List α)(hi:Int):part l 0 hi=l.take hi.toNat:=by
  unfold part
  rw[Int.toNat_zero,List.drop_zero,Int.sub_zero]
@[go_sem]theorem akC(l:List UInt8):l.getD 0 0=ix l 0:=rfl
@[go_sem]theorem nr:((0:Int)<=0)=True:=eq_true (by decide)
@[go_sem]theorem amj:((0:Int)<=1)=True:=eq_true (by decide)
structure YP where
 used:Bool
 own:Bool
 buf:aw
def YP.zero:YP:=⟨false,true,⟨[]⟩⟩
def qC(T B o:Nat)(b:YP):AV:=bif b.used then .ref B o else .qE T
def qD(b:YP):AV:=bif b.own then .bb 5 b.buf.b.length (flat b.buf.b)else .sl false 1 b.buf.b.length (flat b.buf.b)
@[go_sem]theorem aeL(T B o:Nat):qC T B o YP.zero=.qE T:=rfl
@[go_sem]theorem aeM:qD YP.zero=.bb 5 0 []:=rfl
structure akp where
instance:aK akp:=⟨1,fun _=>[.A6],.mk,by decide,fun _=>rfl,fun _=>rfl⟩
theorem ahI{X B:Prop}(h:X->B):X->(True->B):=fun x _=>h x
end Go.AB
end
section
set_option maxRecDepth 4000
namespace Go.AB
open Go
open Go.Proofs.Tryz (prog)
structure aa where
 Kind:Int
 N:Int
 S:aw
 L:(List aa)
mutual
def gR:aa->List AV
 |⟨k,n,s,l⟩=>[.int .i64 k,.int .i64 n,.str s.b,.sl false 4 l.length (pn l)]
def pn:List aa->List AV
 |[]=>[]
 |v::l=>gR v++pn l
end
theorem Lz(x:aa):views (gR x)=gR x:=by cases x;simp[gR,views,view]
theorem Ly(x:aa):(gR x).length=4:=by cases x;simp[gR]
instance:aK aa:=⟨4,gR,⟨0,0,⟨[]⟩,[]⟩,by decide,Ly,Lz⟩
theorem tu:∀l:List aa,pn l=flat l
 |[]=>by rw[pn];rfl
 |v::l=>by rw[pn,tu l];rfl
@[go_sem]theorem dG(x:aa):aK.cells x=[.int .i64 x.Kind,.int .i64 x.N,.str x.S.b,sF 4 x.L]:=by
  cases x
  show gR _=_
  rw[gR,tu]
@[go_sem]theorem JB(l:List aa)(i:Int):pad [.int .i64 0,.int .i64 0,.str [],.sl false 4 0 []] (views (AB.sub (flat l) (i.toNat*4) 4))=[.int .i64 ((ix l i).Kind),.int .i64 ((ix l i).N),.str ((ix l i).S).b,sF 4 ((ix l i).L)]:=by rw[<-dG];exact rB _ 4 l i (by rw[dG];rfl) rfl
attribute[-go_sem] cE da bM cD
theorem alL{P:Program}{X:Prop}{gl:List (List Bool)}{ops f:List ah}{live:List Nat}{Q:Exit->St->Prop}{d:List Bool}{E φ:St}
 (h1:∀Q':St->Prop,Q' φ->U1 P gl ops (fun U=>Q' (U.zm live)) f d E)(h2:X->Q .normal φ):X->U1 P gl ops (wo live Q) f d E:=fun x=>h1 (fun U=>Q .normal U) (h2 x)
@[go_sem]theorem alQ:Nat.ble 1 1=true:=rfl
@[go_sem]theorem ahD{α:Type}[aK α](l:List α)(i:Int):ix l ((i.toNat:Nat):Int)=ix l i:=rfl
@[go_sem]theorem afA(l:List Int)(n:Nat):pad [.int .i64 0] (views (AB.sub (flat l) (n*1) 1))=[.int .i64 (ix l (n:Int))]:=Te l n
theorem zS{P:Program}{f:FuncId}{as1 as2:List AV}{s:ab}{Q:List AV->ab->Prop}(e:as1=as2)(h:FN P f as1 s Q):FN P f as2 s Q:=e▸h
structure bA where
 Kind:Int
 bW:Int
 To:Int
 V:aa
 S:aw
instance:aK bA:=⟨8,fun x=>[.int .i64 x.Kind,.int .i64 x.bW,.int .i64 x.To,.int .i64 x.V.Kind,.int .i64 x.V.N,.str x.V.S.b,sF 4 x.V.L,.str x.S.b],(bA.mk 0 0 0 (aa.mk 0 0 (aw.mk []) []) (aw.mk [])),by decide,fun _=>rfl,fun _=>rfl⟩
def jx(c_0:UInt8):Option (Bool):=some (((((((c_0.toNat:Int)==0)||((c_0.toNat:Int)==9))||((c_0.toNat:Int)==10))||((c_0.toNat:Int)==12))||((c_0.toNat:Int)==13))||((c_0.toNat:Int)==32))
def AD:IC:=
 (af [c6 2 (.bool false)] [0]
 (af [mv 3 0,bu 4 .eql 3 0,mv 5 4,dh 6 0 5 false,dq 7 5 false (.bin .eql (.t 6) (.c (.int .u8 9))),po 8 5 7,mv 9 8,dh 10 0 9 false,dq 11 9 false (.bin .eql (.t 10) (.c (.int .u8 10))),po 12 9 11,mv 13 12,dh 14 0 13 false,dq 15 13 false (.bin .eql (.t 14) (.c (.int .u8 12))),po 16 13 15,mv 17 16,dh 18 0 17 false,dq 19 17 false (.bin .eql (.t 18) (.c (.int .u8 13))),po 20 17 19,mv 21 20,dh 22 0 21 false,dq 23 21 false (.bin .eql (.t 22) (.c (.int .u8 32))),po 24 21 23,mv 2 24] [2]
 .ret))
theorem Me:aE prog 67 25 [⟨2,true,none⟩] AD=true:=by kernel_rfl
theorem MA{c_0}{s:ab}{Q:List AV->ab->Prop}:ok (jx c_0) (fun r=>Q [.bool r] s)->FN prog 67 [.int .u8 c_0.toNat] s Q:=by
 intro h
 refine FO Me rfl rfl ?_
 revert h
 rw[AD,jx]
 repeat'(first
  |simp -implicitDefEqProofs only[go_sem,seval])
theorem lL{c_0}{s:ab}{r:Bool}(h:jx c_0=some r):FE prog 67 [.int .u8 c_0.toNat] s [.bool r] s:=MA ⟨r,h,rfl,rfl⟩
def vP(b_0:(List UInt8))(cN:Int):Option (Int):=
 if decide (cN<0)then
  none
 else
  iter (fun(at1:Int)=>
   if decide (at1<(b_0.length:Int))then
    aG (0<=at1/\at1<b_0.length)<|
    if((ix b_0 at1).toNat:Int)==37 then
     none
    else
     aW (jx (ix b_0 at1)) fun r3=>
     if !r3 then
      some (.inr at1)
     else
      some (.inl (bj (at1+1)))
   else
    none) cN
def Dj:IC:=
 (af [mi 4 0] [0,1]
 (.seq (af [mv 7 1,bn 8 .lss 7 0] [0,1,8]
 (.cond (.t 8) .dead
 .skip))
 (af [c6 5 (.bool false)] [0,1,5]
 (.seq (.block 0 (.loop [(0,true),(1,false),(5,false)] (.seq (af [mv 9 1,mv 10 0,le 11 0 10,bt 12 .lss 9 11] [0,1,5,12]
 (.cond (.t 12) .skip
 .dead))
 (.seq (.block 1 (af [mv 15 0,mv 16 1,ia 17 [.int .u8 0] 15 16,ld 18 1 17,mv 6 18] [0,1,5,6]
 (.block 2 (af [mv 20 5,mv 19 20] [0,1,5,6,19]
 (.cond (.t 19) .dead
 (af [mv 28 6,bu 29 .eql 28 37,mv 27 29] [0,1,5,6,27]
 (.cond (.t 27) .dead
 (af [mv 31 6,c1 32 67 31,no 33 32,mv 30 33] [0,1,5,30]
 (.cond (.t 30) (af [mv 34 1,mv 4 34] [4]
 .ret)
 .skip)))))))))
 (.bN none [mv 13 1,bn 14 .add 13 1,mv 1 14] [0,1,5])))))
 .dead))))
theorem O3:aE prog 179 37 [⟨4,true,none⟩] Dj=true:=by kernel_rfl
theorem Pj{b_0 cN}{s:ab}{Q:List AV->ab->Prop}:ok (vP b_0 cN) (fun r=>Q [.int .i64 r] s)->FN prog 179 [sF 1 b_0,.int .i64 cN] s Q:=by
 intro h
 refine FO O3 rfl rfl ?_
 revert h
 rw[Dj,vP]
 repeat'(first
  |(with_reducible first|exact cW|refine ahI ?_|refine bK ?_ ?_|refine de ?_|refine ak (fun _(h:jx (ix b_0 at1)=some _)=>lL h) (fun r3=>?_))
  |((with_reducible refine bF (fun(at1:Int)=>⟨[(0,sF 1 b_0),(1,.int .i64 at1),(5,.bool false)],[],s⟩) ?_ ?_);(first|exact rfl|simp -implicitDefEqProofs only[go_sem,seval]);rintro J at1)
  |simp -implicitDefEqProofs only[go_sem,seval])
theorem Ph{b_0 cN}{s:ab}{r:Int}(h:vP b_0 cN=some r):FE prog 179 [sF 1 b_0,.int .i64 cN] s [.int .i64 r] s:=Pj ⟨r,h,rfl,rfl⟩
structure cz where
 Builder:YP
 b_:(List UInt8)
 at_:Int
 bz:Bool
def gh(s_0:aw)(c_1:UInt8):Option (Int):=
 aW (eF s_0 c_1) fun r1=>
 some r1
def nC:IC:=
 (af [mi 4 0] [0,1]
 (af [mv 5 0,mv 6 1,c2 7 178 5 6,mv 4 7] [4]
 .ret))
theorem vI:aE prog 122 8 [⟨4,true,none⟩] nC=true:=by kernel_rfl
theorem wD{s_0 c_1}{s:ab}{Q:List AV->ab->Prop}:ok (gh s_0 c_1) (fun r=>Q [.int .i64 r] s)->FN prog 122 [.str s_0.b,.int .u8 c_1.toNat] s Q:=by
 intro h
 refine FO vI rfl rfl ?_
 revert h
 rw[nC,gh]
 repeat'(first
  |with_reducible refine ak (fun _(h:eF s_0 c_1=some _)=>qY h) (fun r1=>?_)
  |simp -implicitDefEqProofs only[go_sem,seval])
theorem wC{s_0 c_1}{s:ab}{r:Int}(h:gh s_0 c_1=some r):FE prog 122 [.str s_0.b,.int .u8 c_1.toNat] s [.int .i64 r] s:=wD ⟨r,h,rfl,rfl⟩
def mB(c_0:UInt8):Option (Bool):=
 aW (gh (aw.mk [40,41,60,62,91,93,123,125,47,37]) c_0) fun r1=>
 some (decide (r1>=0))
def AA:IC:=
 (af [c6 2 (.bool false)] [0]
 (af [mv 3 0,i1 4 (.call 122 [(.c (.str [40,41,60,62,91,93,123,125,47,37])),(.t 3)]),bn 5 .geq 4 0,mv 2 5] [2]
 .ret))
theorem Md:aE prog 68 6 [⟨2,true,none⟩] AA=true:=by kernel_rfl
theorem Mz{c_0}{s:ab}{Q:List AV->ab->Prop}:ok (mB c_0) (fun r=>Q [.bool r] s)->FN prog 68 [.int .u8 c_0.toNat] s Q:=by
 intro h
 refine FO Md rfl rfl ?_
 revert h
 rw[AA,mB]
 repeat'(first
  |with_reducible refine ak (fun _(h:gh (aw.mk [40,41,60,62,91,93,123,125,47,37]) c_0=some _)=>wC h) (fun r1=>?_)
  |simp -implicitDefEqProofs only[go_sem,seval])
theorem sQ{c_0}{s:ab}{r:Bool}(h:mB c_0=some r):FE prog 68 [.int .u8 c_0.toNat] s [.bool r] s:=Mz ⟨r,h,rfl,rfl⟩
def jg(c_0:UInt8):Option (Bool):=
 aW (jx c_0) fun r1=>
 aW (l8 (!r1) false (mB c_0)) fun r2=>
 some ((!r1)&&(!r2))
def vb:IC:=
 (af [c6 2 (.bool false)] [0]
 (.seq (.bN (some 6) [mv 3 0,c1 4 67 3,no 5 4,mv 6 5,dh 7 0 6 true,RX 8 6 true 68 7,dq 9 6 true (.un .not (.t 8)),pf 10 6 9,mv 2 10] [2])
 .ret))
theorem Gu:aE prog 215 11 [⟨2,true,none⟩] vb=true:=by kernel_rfl
theorem GV{c_0}{s:ab}{Q:List AV->ab->Prop}:ok (jg c_0) (fun r=>Q [.bool r] s)->FN prog 215 [.int .u8 c_0.toNat] s Q:=by
 intro h
 refine FO Gu rfl rfl ?_
 revert h
 rw[vb,jg]
 repeat'(first
  |(with_reducible first|refine b6 (fun _(h:jx c_0=some _)=>lL h) (fun _=>rfl) (fun r1=>?_)|refine fC rfl (fun _(h:mB c_0=some _)=>sQ h) (fun _=>rfl) (fun r2=>?_))
  |simp -implicitDefEqProofs only[go_sem,seval])
theorem vR{c_0}{s:ab}{r:Bool}(h:jg c_0=some r):FE prog 215 [.int .u8 c_0.toNat] s [.bool r] s:=GV ⟨r,h,rfl,rfl⟩
def iG(s_0:cz):Option (aw×Bool×cz):=
 jn (
  iter (fun(o3:cz)=>
   aG ((decide (o3.at_<(o3.b_.length:Int)))=true->0<=o3.at_/\o3.at_<o3.b_.length)<|
   aW (l8 (decide (o3.at_<(o3.b_.length:Int))) false (jg (ix o3.b_ o3.at_))) fun r6=>
   if(decide (o3.at_<(o3.b_.length:Int)))&&r6 then
    some (.inl (cz.mk o3.Builder o3.b_ (bj (o3.at_+1)) o3.bz))
   else
    some (.inr o3)) s_0) fun(o2:cz)=>
 aG (0<=s_0.at_/\s_0.at_<=o2.at_/\o2.at_<=o2.b_.length)<|
 some (aw.mk (part o2.b_ s_0.at_ o2.at_),(decide (o2.at_<(o2.b_.length:Int)))||o2.bz,o2)
def rH:IC:=
 (af [c6 2 (.str []),c6 3 (.bool false)] [0]
 (af [mv 5 0,nc 6 5,fa 7 3 6,i1 8 (.bf jV false (.t 7)),mv 4 8] [0,4]
 (.join [(0,false),(4,false)] (.block 0 (.loop [(0,false),(4,false)] (.seq (.seq (.bN (some 23) [mv 9 0,nc 10 9,fa 11 3 10,i1 12 (.bf jV false (.t 11)),mv 13 0,nc 14 13,fa 15 2 14,i1 16 (.bf [.sl false 1 0 []] false (.t 15)),le 17 0 16,bt 18 .lss 12 17,mv 19 18,dh 20 0 19 true,dq 21 19 true (.nilCheck (.t 20)),fg 22 19 true 2 21,dq 23 19 true (.bf [.sl false 1 0 []] false (.t 22)),dh 24 0 19 true,dq 25 19 true (.nilCheck (.t 24)),fg 26 19 true 3 25,dq 27 19 true (.bf jV false (.t 26)),dq 28 19 true (.indexAddr [.int .u8 0] (.t 23) (.t 27)),lg 29 19 true 1 28,RX 30 19 true 215 29,pf 31 19 30] [0,4,31])
 (.cond (.t 31) .skip
 (.exit 0)))
 (.block 1 (.bN none [mv 32 0,nc 33 32,fa 34 3 33,i1 35 (.bf jV false (.t 34)),bn 36 .add 35 1,nc 37 32,fa 38 3 37,st 1 38 36] [0,4])))))
 (.seq (.bN (some 29) [mv 39 0,nc 40 39,fa 41 2 40,i1 42 (.bf [.sl false 1 0 []] false (.t 41)),mv 43 4,mv 44 0,nc 45 44,fa 46 3 45,i1 47 (.bf jV false (.t 46)),i1 48 (.slice 1 (.t 42) (some (.t 43)) (some (.t 47)) none),i1 49 (.fo (.t 48)),mv 50 0,nc 51 50,fa 52 3 51,i1 53 (.bf jV false (.t 52)),mv 54 0,nc 55 54,fa 56 2 55,i1 57 (.bf [.sl false 1 0 []] false (.t 56)),le 58 0 57,bt 59 .lss 53 58,mv 60 59,dh 61 0 60 false,dq 62 60 false (.nilCheck (.t 61)),fg 63 60 false 4 62,dq 64 60 false (.bf [.bool false] false (.t 63)),po 65 60 64,mv 2 49,mv 3 65] [2,3])
 .ret))))
theorem B4:aE prog 220 66 [⟨2,true,none⟩,⟨3,true,none⟩] rH=true:=by kernel_rfl
theorem rU{s_0}{B0:Nat}{s:ab}{Q:List AV->ab->Prop}(hB0:s B0=some (.cells [qC 251 B0 0 s_0.Builder,qD s_0.Builder,sF 1 s_0.b_,.int .i64 s_0.at_,.bool s_0.bz])):ok (iG s_0) (fun r=>Q [.str r.1.b,.bool r.2.1] (s.set B0 (.cells [qC 251 B0 0 r.2.2.Builder,qD r.2.2.Builder,sF 1 r.2.2.b_,.int .i64 r.2.2.at_,.bool r.2.2.bz])))->FN prog 220 [.ref B0 0] s Q:=by
 have hS:s=(s.set B0 (.cells [qC 251 B0 0 s_0.Builder,qD s_0.Builder,sF 1 s_0.b_,.int .i64 s_0.at_,.bool s_0.bz])):=by simp only[dN hB0]
 rw[hS]
 intro h
 refine FO B4 rfl rfl ?_
 revert h
 rw[rH,iG]
 repeat'(first
  |(with_reducible first|exact cW|refine bK ?_ ?_|refine fC rfl (fun _(h:jg (ix o3.b_ o3.at_)=some _)=>vR h) (fun _=>rfl) (fun r6=>?_))
  |((with_reducible refine bF (fun(o3:cz)=>⟨[(0,.ref B0 0),(4,.int .i64 s_0.at_)],[],(s.set B0 (.cells [qC 251 B0 0 o3.Builder,qD o3.Builder,sF 1 o3.b_,.int .i64 o3.at_,.bool o3.bz]))⟩) ?_ ?_);(first|exact rfl|simp -implicitDefEqProofs only[go_sem,seval]);rintro J o3)
  |((with_reducible refine dA (fun(o2:cz)=>⟨[(0,.ref B0 0),(4,.int .i64 s_0.at_)],[],(s.set B0 (.cells [qC 251 B0 0 o2.Builder,qD o2.Builder,sF 1 o2.b_,.int .i64 o2.at_,.bool o2.bz]))⟩) (fun J=>?_) ?_);rotate_left;rintro o2)
  |simp -implicitDefEqProofs only[go_sem,seval])
def cK(s_0:aw)(prefix_1:aw):Option (Bool):=
 aG ((decide ((s_0.b.length:Int)>=(prefix_1.b.length:Int)))=true->0<=(0:Int)/\0<=(prefix_1.b.length:Int)/\(prefix_1.b.length:Int)<=s_0.b.length)<|
 some ((decide ((s_0.b.length:Int)>=(prefix_1.b.length:Int)))&&((aw.mk (part s_0.b 0 (prefix_1.b.length:Int))).b==prefix_1.b))
def fM:IC:=
 (af [c6 4 (.bool false)] [0,1]
 (af [mv 5 0,le 6 1 5,mv 7 1,le 8 1 7,bt 9 .geq 6 8,mv 10 9,dh 11 0 10 true,dh 12 1 10 true,dq 13 10 true (.len 1 (.t 12)),dq 14 10 true (.qW (.t 11) none (some (.t 13))),dh 15 1 10 true,sY 16 10 true .eql 14 15,pf 17 10 16,mv 4 17] [4]
 .ret))
theorem ln:aE prog 324 18 [⟨4,true,none⟩] fM=true:=by kernel_rfl
theorem lj{s_0 prefix_1}{s:ab}{Q:List AV->ab->Prop}:ok (cK s_0 prefix_1) (fun r=>Q [.bool r] s)->FN prog 324 [.str s_0.b,.str prefix_1.b] s Q:=by
 intro h
 refine FO ln rfl rfl ?_
 revert h
 rw[fM,cK]
 repeat'(first
  |simp -implicitDefEqProofs only[go_sem,seval])
theorem lh{s_0 prefix_1}{s:ab}{r:Bool}(h:cK s_0 prefix_1=some r):FE prog 324 [.str s_0.b,.str prefix_1.b] s [.bool r] s:=lj ⟨r,h,rfl,rfl⟩
def dX(s_0:aw)(prefix_1:aw):Option (Bool):=
 aW (cK s_0 prefix_1) fun r1=>
 some r1
def nA:IC:=
 (af [c6 4 (.bool false)] [0,1]
 (af [mv 5 0,mv 6 1,c2 7 324 5 6,mv 4 7] [4]
 .ret))
theorem vH:aE prog 288 8 [⟨4,true,none⟩] nA=true:=by kernel_rfl
theorem wB{s_0 prefix_1}{s:ab}{Q:List AV->ab->Prop}:ok (dX s_0 prefix_1) (fun r=>Q [.bool r] s)->FN prog 288 [.str s_0.b,.str prefix_1.b] s Q:=by
 intro h
 refine FO vH rfl rfl ?_
 revert h
 rw[nA,dX]
 repeat'(first
  |with_reducible refine ak (fun _(h:cK s_0 prefix_1=some _)=>lh h) (fun r1=>?_)
  |simp -implicitDefEqProofs only[go_sem,seval])
theorem nU{s_0 prefix_1}{s:ab}{r:Bool}(h:dX s_0 prefix_1=some r):FE prog 288 [.str s_0.b,.str prefix_1.b] s [.bool r] s:=wB ⟨r,h,rfl,rfl⟩
def dD(s_0:aw)(cG:aw):Option (aw×aw×Bool):=
 aW (gi s_0 cG) fun r1=>
 if decide (r1>=0)then
  none
 else
  some (s_0,(aw.mk []),false)
def iR:IC:=
 (af [c6 4 (.str []),c6 5 (.str []),c6 6 (.bool false)] [0,1]
 (.seq (af [mv 8 0,mv 9 1,c2 10 351 8 9,mv 7 10] [0,7]
 (af [mv 11 7,bn 12 .geq 11 0] [0,12]
 (.cond (.t 12) .dead
 .skip)))
 (af [mv 22 0,mv 4 22,c6 5 (.str []),c6 6 (.bool false)] [4,5,6]
 .ret)))
theorem oI:aE prog 325 23 [⟨4,true,none⟩,⟨5,true,none⟩,⟨6,true,none⟩] iR=true:=by kernel_rfl
theorem oH{s_0 cG}{s:ab}{Q:List AV->ab->Prop}:ok (dD s_0 cG) (fun r=>Q [.str r.1.b,.str r.2.1.b,.bool r.2.2] s)->FN prog 325 [.str s_0.b,.str cG.b] s Q:=by
 intro h
 refine FO oI rfl rfl ?_
 revert h
 rw[iR,dD]
 repeat'(first
  |with_reducible refine ak (fun _(h:gi s_0 cG=some _)=>wE h) (fun r1=>?_)
  |simp -implicitDefEqProofs only[go_sem,seval])
theorem oG{s_0 cG}{s:ab}{r:aw×aw×Bool}(h:dD s_0 cG=some r):FE prog 325 [.str s_0.b,.str cG.b] s [.str r.1.b,.str r.2.1.b,.bool r.2.2] s:=oH ⟨r,h,rfl,rfl⟩
def nT(s_0:aw)(cG:aw):Option (aw×aw×Bool):=
 aW (dD s_0 cG) fun r1=>
 some (r1.1,r1.2.1,r1.2.2)
def vu:IC:=
 (af [c6 4 (.str []),c6 5 (.str []),c6 6 (.bool false)] [0,1]
 (af [mv 7 0,mv 8 1,c2 9 325 7 8,ex 10 9 0,ex 11 9 1,ex 12 9 2,mv 4 10,mv 5 11,mv 6 12] [4,5,6]
 .ret))
theorem GJ:aE prog 289 13 [⟨4,true,none⟩,⟨5,true,none⟩,⟨6,true,none⟩] vu=true:=by kernel_rfl
theorem H9{s_0 cG}{s:ab}{Q:List AV->ab->Prop}:ok (nT s_0 cG) (fun r=>Q [.str r.1.b,.str r.2.1.b,.bool r.2.2] s)->FN prog 289 [.str s_0.b,.str cG.b] s Q:=by
 intro h
 refine FO GJ rfl rfl ?_
 revert h
 rw[vu,nT]
 repeat'(first
  |with_reducible refine ak (fun _(h:dD s_0 cG=some _)=>oG h) (fun r1=>?_)
  |simp -implicitDefEqProofs only[go_sem,seval])
theorem H8{s_0 cG}{s:ab}{r:aw×aw×Bool}(h:nT s_0 cG=some r):FE prog 289 [.str s_0.b,.str cG.b] s [.str r.1.b,.str r.2.1.b,.bool r.2.2] s:=H9 ⟨r,h,rfl,rfl⟩
def rX(s_0:aw):Option (aa×Int):=
 aW (dX s_0 (aw.mk [45])) fun r1=>
 if r1 then
  none
 else
  aW (dX s_0 (aw.mk [43])) fun r2=>
  if r2 then
   none
  else
   aW (nT s_0 (aw.mk [46])) fun r3=>
   aW (l8 (!((bj ((r3.1.b.length:Int)+(r3.2.1.b.length:Int)))==0)) false (sV r3.1)) fun r4=>
   aW (l8 (!(((bj ((r3.1.b.length:Int)+(r3.2.1.b.length:Int)))==0)||(!r4))) false (sV r3.2.1)) fun r5=>
   if(((bj ((r3.1.b.length:Int)+(r3.2.1.b.length:Int)))==0)||(!r4))||(!r5)then
    none
   else
    aG ((((aw.mk [48]).b.length+r3.1.b.length:Nat):Int)<=sH)<|
    aW (sU (aw.mk ((aw.mk [48]).b++r3.1.b))) fun r6=>
    if r6.2 !=0 then
     none
    else
     if !r3.2.2 then
      some ((aa.mk 2 (bj (1*r6.1)) (aw.mk []) ([]:List aa)),0)
     else
      none
def AE:IC:=
 (af [i1 2 (.aq iA),mi 3 0] [0,2]
 (af [mi 4 1] [0,2,4]
 (af [mv 12 0,mv 5 12] [0,2,4,5]
 (.seq (.block 0 (af [mv 14 0,i1 15 (.call 288 [(.t 14),(.c (.str [45]))]),mv 13 15] [0,2,4,5,13]
 (.cond (.t 13) .dead
 (af [mv 19 0,i1 20 (.call 288 [(.t 19),(.c (.str [43]))]),mv 18 20] [2,4,5,18]
 (.cond (.t 18) .dead
 .skip)))))
 (af [mv 24 5,i1 25 (.call 289 [(.t 24),(.c (.str [46]))]),iV 23 25,ex 26 23 0,ex 27 23 1,ex 28 23 2,mv 6 26,mv 7 27,mv 8 28] [2,4,6,7,8]
 (.seq (.seq (.bN (some 14) [mv 29 6,le 30 1 29,mv 31 7,le 32 1 31,bt 33 .add 30 32,bn 34 .eql 33 0,mv 35 34,dh 36 6 35 false,RX 37 35 false 290 36,dq 38 35 false (.un .not (.t 37)),po 39 35 38,mv 40 39,dh 41 7 40 false,RX 42 40 false 290 41,dq 43 40 false (.un .not (.t 42)),po 44 40 43] [2,4,6,8,44])
 (.cond (.t 44) .dead
 .skip))
 (af [mv 47 6,i1 48 (.bin .add (.c (.str [48])) (.t 47)),c1 49 291 48,iV 46 49,ex 50 46 0,ex 51 46 1,mv 9 50,mv 10 51] [2,4,8,9,10]
 (.seq (af [mv 52 10,bn 53 .neq 52 0] [2,4,8,9,53]
 (.cond (.t 53) .dead
 .skip))
 (.seq (af [mv 56 8,no 57 56] [2,4,9,57]
 (.cond (.t 57) (af [mv 58 4,mv 59 9,bt 60 .mul 58 59,i1 61 (.build iA [(0,1,(.c (.int .i64 2))),(1,1,(.t 60))]),st 4 2 61,mi 3 0] [2,3]
 .ret)
 .dead))
 .dead)))))))))
theorem Mf:aE prog 252 75 [⟨2,false,some (4,true)⟩,⟨3,true,none⟩] AE=true:=by kernel_rfl
theorem MJ{s_0}{s:ab}{Q:List AV->ab->Prop}:ok (rX s_0) (fun r=>Q [.agg [.int .i64 r.1.Kind,.int .i64 r.1.N,.str r.1.S.b,sF 4 r.1.L],.int .i64 r.2] s)->FN prog 252 [.str s_0.b] s Q:=by
 intro h
 refine FO Mf rfl rfl ?_
 revert h
 rw[AE,rX]
 repeat'(first
  |(with_reducible first|exact cW|refine bK ?_ ?_|refine de ?_|refine ak (fun _(h:dX s_0 (aw.mk [45])=some _)=>nU h) (fun r1=>?_)|refine ak (fun _(h:dX s_0 (aw.mk [43])=some _)=>nU h) (fun r2=>?_)|refine ak (fun _(h:nT s_0 (aw.mk [46])=some _)=>H8 h) (fun r3=>?_)|refine fC rfl (fun _(h:sV r3.1=some _)=>Ha h) (fun _=>rfl) (fun r4=>?_)|refine fC rfl (fun _(h:sV r3.2.1=some _)=>Ha h) (fun _=>rfl) (fun r5=>?_))
  |((fail_if_success (have _x:=r6));with_reducible refine ak (fun _ h=>Jy h) (fun r6=>?_))
  |simp -implicitDefEqProofs only[go_sem,seval])
theorem MI{s_0}{s:ab}{r:aa×Int}(h:rX s_0=some r):FE prog 252 [.str s_0.b] s [.agg [.int .i64 r.1.Kind,.int .i64 r.1.N,.str r.1.S.b,sF 4 r.1.L],.int .i64 r.2] s:=MJ ⟨r,h,rfl,rfl⟩
def iS(s_0:cz):Option (bA×Int×cz):=
 aW (iG s_0) fun r1=>
 if !r1.2.1 then
  none
 else
  aG (0<=(0:Int)/\(0:Int)<r1.1.b.length)<|
  if((((decide (((ix r1.1.b 0).toNat:Int)>=48))&&(decide (((ix r1.1.b 0).toNat:Int)<=57)))||(((ix r1.1.b 0).toNat:Int)==43))||(((ix r1.1.b 0).toNat:Int)==45))||(((ix r1.1.b 0).toNat:Int)==46)then
   aW (rX r1.1) fun r2=>
   some ((bA.mk 1 0 0 r2.1 (aw.mk [])),r2.2,r1.2.2)
  else
   some ((bA.mk 6 0 0 (aa.mk 0 0 (aw.mk []) ([]:List aa)) r1.1),0,r1.2.2)
def ny:IC:=
 (af [i1 2 (.aq BB),mi 3 0] [0,2]
 (af [mv 10 0,c1 11 220 10,iV 9 11,ex 12 9 0,ex 13 9 1,mv 4 12,mv 5 13] [2,4,5]
 (.seq (af [mv 14 5,no 15 14] [2,4,15]
 (.cond (.t 15) .dead
 .skip))
 (.seq (af [mv 17 4,i1 18 (.iK (.t 17) (.c (.int .i64 0))),mv 6 18] [2,4,6]
 (af [mv 19 6,bu 20 .geq 19 48,mv 21 20,dh 22 6 21 true,dq 23 21 true (.bin .leq (.t 22) (.c (.int .u8 57))),pf 24 21 23,mv 25 24,dh 26 6 25 false,dq 27 25 false (.bin .eql (.t 26) (.c (.int .u8 43))),po 28 25 27,mv 29 28,dh 30 6 29 false,dq 31 29 false (.bin .eql (.t 30) (.c (.int .u8 45))),po 32 29 31,mv 33 32,dh 34 6 33 false,dq 35 33 false (.bin .eql (.t 34) (.c (.int .u8 46))),po 36 33 35] [2,4,36]
 (.cond (.t 36) (af [mv 38 4,c1 39 252 38,iV 37 39,ex 40 37 0,ex 41 37 1,i1 7 (.aq iA),st 4 7 40,mv 8 41] [2,7,8]
 (af [lm 42 4 7,i1 43 (.build BB [(0,1,(.c (.int .i64 1))),(3,4,(.t 42))]),mv 44 8,st 8 2 43,mv 3 44] [2,3]
 .ret))
 .skip)))
 (af [mv 45 4,i1 46 (.build BB [(0,1,(.c (.int .i64 6))),(7,1,(.t 45))]),st 8 2 46,mi 3 0] [2,3]
 .ret)))))
theorem vF:aE prog 216 47 [⟨2,false,some (8,true)⟩,⟨3,true,none⟩] ny=true:=by kernel_rfl
theorem vS{s_0}{B0:Nat}{s:ab}{Q:List AV->ab->Prop}(hB0:s B0=some (.cells [qC 251 B0 0 s_0.Builder,qD s_0.Builder,sF 1 s_0.b_,.int .i64 s_0.at_,.bool s_0.bz])):ok (iS s_0) (fun r=>Q [.agg [.int .i64 r.1.Kind,.int .i64 r.1.bW,.int .i64 r.1.To,.int .i64 r.1.V.Kind,.int .i64 r.1.V.N,.str r.1.V.S.b,sF 4 r.1.V.L,.str r.1.S.b],.int .i64 r.2.1] (s.set B0 (.cells [qC 251 B0 0 r.2.2.Builder,qD r.2.2.Builder,sF 1 r.2.2.b_,.int .i64 r.2.2.at_,.bool r.2.2.bz])))->FN prog 216 [.ref B0 0] s Q:=by
 have hS:s=(s.set B0 (.cells [qC 251 B0 0 s_0.Builder,qD s_0.Builder,sF 1 s_0.b_,.int .i64 s_0.at_,.bool s_0.bz])):=by simp only[dN hB0]
 rw[hS]
 intro h
 refine FO vF rfl rfl ?_
 revert h
 rw[ny,iS]
 repeat'(first
  |(with_reducible first|exact cW|refine bK ?_ ?_|refine de ?_|refine fun hh=>rU (B0:=B0) (by simp -implicitDefEqProofs only[go_sem,seval]<;>simp only[bH]) (cI (show ok (iG s_0) _ from hh) fun r1=>?_)|refine ak (fun _(h:rX r1.1=some _)=>MI h) (fun r2=>?_))
  |simp -implicitDefEqProofs only[go_sem,seval])
def gn(s_0:cz):Option (UInt8×Bool):=
 if decide (s_0.at_>=(s_0.b_.length:Int))then
  none
 else
  aG (0<=s_0.at_/\s_0.at_<s_0.b_.length)<|
  some (ix s_0.b_ s_0.at_,true)
def rG:IC:=
 (af [c6 2 (.int .u8 0),c6 3 (.bool false)] [0]
 (.seq (.seq (.bN (some 10) [mv 4 0,nc 5 4,fa 6 3 5,i1 7 (.bf jV false (.t 6)),mv 8 0,nc 9 8,fa 10 2 9,i1 11 (.bf [.sl false 1 0 []] false (.t 10)),le 12 0 11,bt 13 .geq 7 12] [0,13])
 (.cond (.t 13) .dead
 .skip))
 (.seq (.bN (some 12) [mv 14 0,nc 15 14,fa 16 2 15,i1 17 (.bf [.sl false 1 0 []] false (.t 16)),mv 18 0,nc 19 18,fa 20 3 19,i1 21 (.bf jV false (.t 20)),ia 22 [.int .u8 0] 17 21,ld 23 1 22,mv 2 23,c6 3 (.bool true)] [2,3])
 .ret)))
theorem B3:aE prog 253 24 [⟨2,true,none⟩,⟨3,true,none⟩] rG=true:=by kernel_rfl
theorem Cj{s_0}{B0:Nat}{s:ab}{Q:List AV->ab->Prop}(hB0:s B0=some (.cells [qC 251 B0 0 s_0.Builder,qD s_0.Builder,sF 1 s_0.b_,.int .i64 s_0.at_,.bool s_0.bz])):ok (gn s_0) (fun r=>Q [.int .u8 r.1.toNat,.bool r.2] s)->FN prog 253 [.ref B0 0] s Q:=by
 have hS:s=(s.set B0 (.cells [qC 251 B0 0 s_0.Builder,qD s_0.Builder,sF 1 s_0.b_,.int .i64 s_0.at_,.bool s_0.bz])):=by simp only[dN hB0]
 rw[hS]
 intro h
 refine FO B3 rfl rfl ?_
 revert h
 rw[rG,gn]
 repeat'(first
  |simp -implicitDefEqProofs only[go_sem,seval])
theorem rT{s_0}{B0:Nat}{s:ab}{r:UInt8×Bool}(hB0:s B0=some (.cells [qC 251 B0 0 s_0.Builder,qD s_0.Builder,sF 1 s_0.b_,.int .i64 s_0.at_,.bool s_0.bz]))(h:gn s_0=some r):FE prog 253 [.ref B0 0] s [.int .u8 r.1.toNat,.bool r.2] s:=Cj hB0 ⟨r,h,rfl,rfl⟩
def jz(s_0:cz):Option (bA×Int×cz):=
 aW (gn s_0) fun r1=>
 if !r1.2 then
  none
 else
  if(r1.1.toNat:Int)==60 then
   some ((bA.mk 4 0 0 (aa.mk 0 0 (aw.mk []) ([]:List aa)) (aw.mk [])),0,(cz.mk s_0.Builder s_0.b_ (bj (s_0.at_+1)) s_0.bz))
  else
   none
def oi:IC:=
 (af [i1 2 (.aq BB),mi 3 0] [0,2]
 (af [mv 9 0,c1 10 253 9,iV 8 10,ex 11 8 0,ex 12 8 1,mv 4 11,mv 5 12] [0,2,4,5]
 (.seq (af [mv 13 5,no 14 13] [0,2,4,14]
 (.cond (.t 14) .dead
 .skip))
 (.seq (af [mv 18 4,bu 19 .eql 18 60] [0,2,19]
 (.cond (.t 19) (af [mv 20 0,nc 21 20,fa 22 3 21,i1 23 (.bf jV false (.t 22)),bn 24 .add 23 1,nc 25 20,fa 26 3 25,st 1 26 24] [2]
 (af [i1 27 (.build BB [(0,1,(.c (.int .i64 4)))]),st 8 2 27,mi 3 0] [2,3]
 .ret))
 .dead))
 .dead))))
theorem xz:aE prog 217 36 [⟨2,false,some (8,true)⟩,⟨3,true,none⟩] oi=true:=by kernel_rfl
theorem xD{s_0}{B0:Nat}{s:ab}{Q:List AV->ab->Prop}(hB0:s B0=some (.cells [qC 251 B0 0 s_0.Builder,qD s_0.Builder,sF 1 s_0.b_,.int .i64 s_0.at_,.bool s_0.bz])):ok (jz s_0) (fun r=>Q [.agg [.int .i64 r.1.Kind,.int .i64 r.1.bW,.int .i64 r.1.To,.int .i64 r.1.V.Kind,.int .i64 r.1.V.N,.str r.1.V.S.b,sF 4 r.1.V.L,.str r.1.S.b],.int .i64 r.2.1] (s.set B0 (.cells [qC 251 B0 0 r.2.2.Builder,qD r.2.2.Builder,sF 1 r.2.2.b_,.int .i64 r.2.2.at_,.bool r.2.2.bz])))->FN prog 217 [.ref B0 0] s Q:=by
 have hS:s=(s.set B0 (.cells [qC 251 B0 0 s_0.Builder,qD s_0.Builder,sF 1 s_0.b_,.int .i64 s_0.at_,.bool s_0.bz])):=by simp only[dN hB0]
 rw[hS]
 intro h
 refine FO xz rfl rfl ?_
 revert h
 rw[oi,jz]
 repeat'(first
  |with_reducible refine ak (fun _(h:gn s_0=some _)=>rT (B0:=B0) (by simp -implicitDefEqProofs only[go_sem,seval]<;>simp only[bH]) h) (fun r1=>?_)
  |simp -implicitDefEqProofs only[go_sem,seval])
def jy(s_0:cz):Option (bA×Int×cz):=
 aW (gn s_0) fun r1=>
 if(!r1.2)&&(!s_0.bz)then
  none
 else
  if(!r1.2)||((r1.1.toNat:Int)!=62)then
   none
  else
   some ((bA.mk 5 0 0 (aa.mk 0 0 (aw.mk []) ([]:List aa)) (aw.mk [])),0,(cz.mk s_0.Builder s_0.b_ (bj (s_0.at_+1)) s_0.bz))
def og:IC:=
 (af [i1 2 (.aq BB),mi 3 0] [0,2]
 (af [mv 7 0,c1 8 253 7,iV 6 8,ex 9 6 0,ex 10 6 1,mv 4 9,mv 5 10] [0,2,4,5]
 (.seq (.block 0 (af [mv 12 5,no 13 12,mv 14 13,dh 15 0 14 true,dq 16 14 true (.nilCheck (.t 15)),fg 17 14 true 4 16,dq 18 14 true (.bf [.bool false] false (.t 17)),dq 19 14 true (.un .not (.t 18)),pf 20 14 19,mv 11 20] [0,2,4,5,11]
 (.cond (.t 11) .dead
 (af [mv 23 5,no 24 23,mv 25 24,dh 26 4 25 false,dq 27 25 false (.bin .neq (.t 26) (.c (.int .u8 62))),po 28 25 27,mv 22 28] [0,2,22]
 (.cond (.t 22) .dead
 .skip)))))
 (af [mv 30 0,nc 31 30,fa 32 3 31,i1 33 (.bf jV false (.t 32)),bn 34 .add 33 1,nc 35 30,fa 36 3 35,st 1 36 34] [2]
 (af [i1 37 (.build BB [(0,1,(.c (.int .i64 5)))]),st 8 2 37,mi 3 0] [2,3]
 .ret)))))
theorem xy:aE prog 218 38 [⟨2,false,some (8,true)⟩,⟨3,true,none⟩] og=true:=by kernel_rfl
theorem xC{s_0}{B0:Nat}{s:ab}{Q:List AV->ab->Prop}(hB0:s B0=some (.cells [qC 251 B0 0 s_0.Builder,qD s_0.Builder,sF 1 s_0.b_,.int .i64 s_0.at_,.bool s_0.bz])):ok (jy s_0) (fun r=>Q [.agg [.int .i64 r.1.Kind,.int .i64 r.1.bW,.int .i64 r.1.To,.int .i64 r.1.V.Kind,.int .i64 r.1.V.N,.str r.1.V.S.b,sF 4 r.1.V.L,.str r.1.S.b],.int .i64 r.2.1] (s.set B0 (.cells [qC 251 B0 0 r.2.2.Builder,qD r.2.2.Builder,sF 1 r.2.2.b_,.int .i64 r.2.2.at_,.bool r.2.2.bz])))->FN prog 218 [.ref B0 0] s Q:=by
 have hS:s=(s.set B0 (.cells [qC 251 B0 0 s_0.Builder,qD s_0.Builder,sF 1 s_0.b_,.int .i64 s_0.at_,.bool s_0.bz])):=by simp only[dN hB0]
 rw[hS]
 intro h
 refine FO xy rfl rfl ?_
 revert h
 rw[og,jy]
 repeat'(first
  |with_reducible refine ak (fun _(h:gn s_0=some _)=>rT (B0:=B0) (by simp -implicitDefEqProofs only[go_sem,seval]<;>simp only[bH]) h) (fun r1=>?_)
  |simp -implicitDefEqProofs only[go_sem,seval])
def vQ(w_0:aw):Option (aa×Int):=
 jn (
  iter (fun((n5,i4):(List UInt8)×Int)=>
   if decide (i4<(w_0.b.length:Int))then
    aG (0<=i4/\i4<w_0.b.length)<|
    if((ix w_0.b i4).toNat:Int)==35 then
     none
    else
     aG ((n5.length+[ix w_0.b i4].length)*1<=room)<|
     some (.inl (n5++[ix w_0.b i4],bj (i4+1)))
   else
    some (.inr n5)) (([]:List UInt8),0)) fun(jA:(List UInt8))=>
 aW (l8 (!(decide ((jA.length:Int)>127))) 0 (iq jA 0)) fun r7=>
 if(decide ((jA.length:Int)>127))||(decide (r7>=0))then
  none
 else
  some ((aa.mk 5 0 (aw.mk jA) ([]:List aa)),0)
def Dk:IC:=
 (af [i1 2 (.aq iA),mi 3 0] [0,2]
 (af [i1 4 (.jL true (.c (.sl true 1 0 [])))] [0,2,4]
 (.join [(2,false),(4,false)] (af [mi 5 0] [0,2,4,5]
 (.block 0 (.loop [(0,false),(2,false),(4,false),(5,false)] (.seq (af [mv 7 5,mv 8 0,le 9 1 8,bt 10 .lss 7 9] [0,2,4,5,10]
 (.cond (.t 10) .skip
 (.exit 0)))
 (.seq (.block 1 (af [mv 13 0,mv 14 5,i1 15 (.iK (.t 13) (.t 14)),mv 6 15] [0,2,4,5,6]
 (.seq (af [mv 16 6,bu 17 .eql 16 35] [0,2,4,5,6,17]
 (.cond (.t 17) .dead
 .skip))
 (.bN none [mt 55 4,mv 56 6,i1 57 (.bq 1 1 [.int .u8 0] [(0,1,(.t 56))]),UF 58 1 1 55 57,mt 4 58] [0,2,4,5]))))
 (.bN none [mv 11 5,bn 12 .add 11 1,mv 5 12] [0,2,4,5]))))))
 (.seq (.seq (.bN (some 6) [mv 59 4,le 60 0 59,bn 61 .gtr 60 127,mv 62 61,dh 63 4 62 false,dq 64 62 false (.call 261 [(.t 63),(.c (.int .u8 0))]),kS 65 62 false .geq 64 0,po 66 62 65] [2,4,66])
 (.cond (.t 66) .dead
 .skip))
 (af [mt 68 4,i1 69 (.fo (.t 68)),i1 70 (.build iA [(0,1,(.c (.int .i64 5))),(2,1,(.t 69))]),st 4 2 70,mi 3 0] [2,3]
 .ret)))))
theorem O4:aE prog 221 71 [⟨2,false,some (4,true)⟩,⟨3,true,none⟩] Dk=true:=by kernel_rfl
theorem Pl{w_0}{s:ab}{Q:List AV->ab->Prop}:ok (vQ w_0) (fun r=>Q [.agg [.int .i64 r.1.Kind,.int .i64 r.1.N,.str r.1.S.b,sF 4 r.1.L],.int .i64 r.2] s)->FN prog 221 [.str w_0.b] s Q:=by
 intro h
 refine FO O4 rfl rfl ?_
 revert h
 rw[Dk,vQ]
 repeat'(first
  |with_reducible refine fC rfl (fun _(h:iq jA 0=some _)=>(by refine jZ ?_ (yI h);simp -implicitDefEqProofs only[go_sem,seval])) (fun _=>rfl) (fun r7=>?_)
  |((with_reducible refine bF (fun((n5,i4):(List UInt8)×Int)=>⟨[(0,.str w_0.b),(2,.loc [.int .i64 0,.int .i64 0,.str (aw.mk []).b,.sl true 4 0 []]),(4,sT 1 n5),(5,.int .i64 i4)],[],s⟩) ?_ ?_);(first|exact rfl|simp -implicitDefEqProofs only[go_sem,seval]);rintro J ⟨n5,i4⟩)
  |((with_reducible refine dA (fun(jA:(List UInt8))=>⟨[(2,.loc [.int .i64 0,.int .i64 0,.str (aw.mk []).b,.sl true 4 0 []]),(4,sT 1 jA)],[],s⟩) (fun J=>?_) ?_);rotate_left;rintro jA)
  |simp -implicitDefEqProofs only[go_sem,seval])
theorem Pk{w_0}{s:ab}{r:aa×Int}(h:vQ w_0=some r):FE prog 221 [.str w_0.b] s [.agg [.int .i64 r.1.Kind,.int .i64 r.1.N,.str r.1.S.b,sF 4 r.1.L],.int .i64 r.2] s:=Pl ⟨r,h,rfl,rfl⟩
def lM(s_0:cz)(c_1:UInt8):Option (bA×Int×cz):=
 aW (jg c_1) fun r1=>
 if r1 then
  aW (iS s_0) fun r2=>
  some (r2.1,r2.2.1,r2.2.2)
 else
  if(c_1.toNat:Int)==91 then
   some ((bA.mk 2 0 0 (aa.mk 0 0 (aw.mk []) ([]:List aa)) (aw.mk [])),0,(cz.mk s_0.Builder s_0.b_ (bj (s_0.at_+1)) s_0.bz))
  else
   if(c_1.toNat:Int)==93 then
    some ((bA.mk 3 0 0 (aa.mk 0 0 (aw.mk []) ([]:List aa)) (aw.mk [])),0,(cz.mk s_0.Builder s_0.b_ (bj (s_0.at_+1)) s_0.bz))
   else
    if(c_1.toNat:Int)==60 then
     aW (jz (cz.mk s_0.Builder s_0.b_ (bj (s_0.at_+1)) s_0.bz)) fun r3=>
     some (r3.1,r3.2.1,r3.2.2)
    else
     if(c_1.toNat:Int)==62 then
      aW (jy (cz.mk s_0.Builder s_0.b_ (bj (s_0.at_+1)) s_0.bz)) fun r4=>
      some (r4.1,r4.2.1,r4.2.2)
     else
      if(c_1.toNat:Int)==40 then
       none
      else
       if(c_1.toNat:Int)==47 then
        aW (iG (cz.mk s_0.Builder s_0.b_ (bj (s_0.at_+1)) s_0.bz)) fun r5=>
        if !r5.2.1 then
         none
        else
         aW (vQ r5.1) fun r6=>
         some ((bA.mk 1 0 0 r6.1 (aw.mk [])),r6.2,r5.2.2)
       else
        none
def qj:IC:=
 (af [i1 4 (.aq BB),mi 5 0] [0,1,4]
 (.seq (af [mv 12 1,c1 13 215 12] [0,1,4,13]
 (.cond (.t 13) (af [mv 14 0,c1 15 216 14,ex 16 15 0,ex 17 15 1,st 8 4 16,mv 5 17] [4,5]
 .ret)
 .skip))
 (af [mv 18 0,nc 19 18,fa 20 3 19,i1 21 (.bf jV false (.t 20)),bn 22 .add 21 1,nc 23 18,fa 24 3 23,st 1 24 22] [0,1,4]
 (.seq (af [mv 25 1] [0,4,25]
 (.block 0 (af [bu 27 .eql 25 91,mv 26 27] [0,4,25,26]
 (.cond (.t 26) (af [i1 28 (.build BB [(0,1,(.c (.int .i64 2)))]),st 8 4 28,mi 5 0] [4,5]
 .ret)
 (af [bu 30 .eql 25 93,mv 29 30] [0,4,25,29]
 (.cond (.t 29) (af [i1 31 (.build BB [(0,1,(.c (.int .i64 3)))]),st 8 4 31,mi 5 0] [4,5]
 .ret)
 (af [bu 33 .eql 25 60,mv 32 33] [0,4,25,32]
 (.cond (.t 32) (af [mv 34 0,c1 35 217 34,ex 36 35 0,ex 37 35 1,st 8 4 36,mv 5 37] [4,5]
 .ret)
 (af [bu 39 .eql 25 62,mv 38 39] [0,4,25,38]
 (.cond (.t 38) (af [mv 40 0,c1 41 218 40,ex 42 41 0,ex 43 41 1,st 8 4 42,mv 5 43] [4,5]
 .ret)
 (af [bu 45 .eql 25 40,mv 44 45] [0,4,25,44]
 (.cond (.t 44) .dead
 (af [bu 55 .eql 25 47,mv 54 55] [0,4,54]
 (.cond (.t 54) (af [mv 57 0,c1 58 220 57,iV 56 58,ex 59 56 0,ex 60 56 1,mv 8 59,mv 9 60] [4,8,9]
 (.seq (af [mv 61 9,no 62 61] [4,8,62]
 (.cond (.t 62) .dead
 .skip))
 (af [mv 65 8,c1 66 221 65,iV 64 66,ex 67 64 0,ex 68 64 1,i1 10 (.aq iA),st 4 10 67,mv 11 68] [4,10,11]
 (af [lm 69 4 10,i1 70 (.build BB [(0,1,(.c (.int .i64 1))),(3,4,(.t 69))]),mv 71 11,st 8 4 70,mv 5 71] [4,5]
 .ret))))
 .dead))))))))))))))
 .dead))))
theorem A0:aE prog 180 73 [⟨4,false,some (8,true)⟩,⟨5,true,none⟩] qj=true:=by kernel_rfl
theorem A4{s_0 c_1}{B0:Nat}{s:ab}{Q:List AV->ab->Prop}(hB0:s B0=some (.cells [qC 251 B0 0 s_0.Builder,qD s_0.Builder,sF 1 s_0.b_,.int .i64 s_0.at_,.bool s_0.bz])):ok (lM s_0 c_1) (fun r=>Q [.agg [.int .i64 r.1.Kind,.int .i64 r.1.bW,.int .i64 r.1.To,.int .i64 r.1.V.Kind,.int .i64 r.1.V.N,.str r.1.V.S.b,sF 4 r.1.V.L,.str r.1.S.b],.int .i64 r.2.1] (s.set B0 (.cells [qC 251 B0 0 r.2.2.Builder,qD r.2.2.Builder,sF 1 r.2.2.b_,.int .i64 r.2.2.at_,.bool r.2.2.bz])))->FN prog 180 [.ref B0 0,.int .u8 c_1.toNat] s Q:=by
 have hS:s=(s.set B0 (.cells [qC 251 B0 0 s_0.Builder,qD s_0.Builder,sF 1 s_0.b_,.int .i64 s_0.at_,.bool s_0.bz])):=by simp only[dN hB0]
 rw[hS]
 intro h
 refine FO A0 rfl rfl ?_
 revert h
 rw[qj,lM]
 repeat'(first
  |(with_reducible first|exact cW|refine bK ?_ ?_|refine de ?_|refine ak (fun _(h:jg c_1=some _)=>vR h) (fun r1=>?_)|refine fun hh=>vS (B0:=B0) (by simp -implicitDefEqProofs only[go_sem,seval]<;>simp only[bH]) (cI (show ok (iS s_0) _ from hh) fun r2=>?_)|refine fun hh=>xD (B0:=B0) (by simp -implicitDefEqProofs only[go_sem,seval]<;>simp only[bH]) (cI (show ok (jz (cz.mk s_0.Builder s_0.b_ (bj (s_0.at_+1)) s_0.bz)) _ from hh) fun r3=>?_)|refine fun hh=>xC (B0:=B0) (by simp -implicitDefEqProofs only[go_sem,seval]<;>simp only[bH]) (cI (show ok (jy (cz.mk s_0.Builder s_0.b_ (bj (s_0.at_+1)) s_0.bz)) _ from hh) fun r4=>?_)|refine fun hh=>rU (B0:=B0) (by simp -implicitDefEqProofs only[go_sem,seval]<;>simp only[bH]) (cI (show ok (iG (cz.mk s_0.Builder s_0.b_ (bj (s_0.at_+1)) s_0.bz)) _ from hh) fun r5=>?_)|refine ak (fun _(h:vQ r5.1=some _)=>Pk h) (fun r6=>?_))
  |simp -implicitDefEqProofs only[go_sem,seval])
def dT(b_0:(List UInt8))(cN:Int)(bG:Bool):Option (bA×Int):=
 if(decide (cN<0))||(decide (cN>(b_0.length:Int)))then
  none
 else
  aW (vP b_0 cN) fun r1=>
  if r1==(b_0.length:Int)then
   none
  else
   aG (0<=r1/\r1<b_0.length)<|
   aW (lM (cz.mk YP.zero b_0 r1 bG) (ix b_0 r1)) fun r2=>
   if r2.2.1 !=0 then
    none
   else
    some ((bA.mk r2.1.Kind r1 r2.2.2.at_ r2.1.V r2.1.S),0)
def Di:IC:=
 (af [i1 6 (.aq BB),mi 7 0] [0,1,2,6]
 (.seq (af [mv 12 1,bn 13 .lss 12 0,mv 14 13,dh 15 1 14 false,dh 16 0 14 false,dq 17 14 false (.len 0 (.t 16)),sY 18 14 false .gtr 15 17,po 19 14 18] [0,1,2,6,19]
 (.cond (.t 19) .dead
 .skip))
 (af [mv 21 0,mv 22 1,c2 23 179 21 22,mv 8 23] [0,2,6,8]
 (.seq (af [mv 24 8,mv 25 0,le 26 0 25,bt 27 .eql 24 26] [0,2,6,8,27]
 (.cond (.t 27) .dead
 .skip))
 (af [mv 35 0,mv 36 8,mv 37 2,i1 38 (.build [.dK,.bb 5 0 [],.sl true 1 0 [],.int .i64 0,.bool false] [(2,1,(.t 35)),(3,1,(.t 36)),(4,1,(.t 37))]),i1 39 (.LC 5 251 0 5 (.t 38)),mv 9 39] [0,6,8,9]
 (af [mv 41 9,mt 42 0,mv 43 8,ia 44 [.int .u8 0] 42 43,ld 45 1 44,c2 46 180 41 45,iV 40 46,ex 47 40 0,ex 48 40 1,i1 10 (.aq BB),st 8 10 47,mv 11 48] [6,8,9,10,11]
 (.seq (af [mv 49 11,bn 50 .neq 49 0] [6,8,9,10,50]
 (.cond (.t 50) .dead
 .skip))
 (.seq (.UH [[false,false,false,false,false,false,false,false,false],[false,false,false,false,false,false,false,false,false],[false,true,false,false,false,false,false,false,false],[false,false,true,false,false,false,false,false,false],[false,false,false,true,false,false,false,false,false],[true,false,false,false,false,false,false,false,false],[true,false,false,false,false,true,false,false,false],[true,true,true,true,true,true,true,false,false],[true,true,true,true,true,true,true,true,false]] [mv 55 8,mv 56 9,nc 57 56,fa 58 3 57,i1 59 (.bf jV false (.t 58)),fa 60 1 10,st 1 60 55,fa 61 2 10,st 1 61 59] [6,10])
 (af [lm 62 8 10,st 8 6 62,mi 7 0] [6,7]
 .ret)))))))))
theorem O1:aE prog 127 63 [⟨6,false,some (8,true)⟩,⟨7,true,none⟩] Di=true:=by kernel_rfl
set_option maxHeartbeats 8000000 in
theorem Pg{b_0 cN bG}{s:ab}{Q:List AV->ab->Prop}:ok (dT b_0 cN bG) (fun r=>Q [.agg [.int .i64 r.1.Kind,.int .i64 r.1.bW,.int .i64 r.1.To,.int .i64 r.1.V.Kind,.int .i64 r.1.V.N,.str r.1.V.S.b,sF 4 r.1.V.L,.str r.1.S.b],.int .i64 r.2] s)->FN prog 127 [sF 1 b_0,.int .i64 cN,.bool bG] s Q:=by
 intro h
 refine FN.forget ?_
 refine FO O1 rfl rfl ?_
 revert h
 rw[Di,dT]
 repeat'(first
  |(with_reducible first|exact cW|refine bK ?_ ?_|refine de ?_)
  |((with_reducible apply alL);(·intro Q' hQ;repeat'(first|exact hQ|(simp only[da,cE,bM,cD,Bw,CV,Bool.not_true,Bool.not_false,Bool.or_true,Bool.true_or,Bool.false_or,Bool.or_false,Bool.and_true,Bool.true_and,Bool.and_false,Bool.false_and,cond_true,cond_false,true_and,and_true];done)|with_reducible refine⟨?_,?_⟩|with_reducible exact trivial|simp only[da,cE,bM,cD,Bw,CV,Bool.not_true,Bool.not_false,Bool.or_true,Bool.true_or,Bool.false_or,Bool.or_false,Bool.and_true,Bool.true_and,Bool.and_false,Bool.false_and,cond_true,cond_false,true_and,and_true]|simp -implicitDefEqProofs only[go_sem,seval])))
  |(with_reducible first|refine ak (fun _(h:vP b_0 cN=some _)=>Ph h) (fun r1=>?_)|refine fun hh=>A4 (B0:=N1) (by simp -implicitDefEqProofs only[go_sem,seval]<;>simp only[bH]) (cI (show ok (lM (cz.mk YP.zero b_0 r1 bG) (ix b_0 r1)) _ from hh) fun r2=>?_))
  |((fail_if_success (have _x:=sN1));with_reducible intro hh N1 hN1;(try simp only[cY]at hN1);have sN1:=hN1;revert hh)
  |with_reducible exact fun hh=>⟨_,lx.set (lx.refl _) (by simp[ab.set,sN1]),hh⟩
  |simp -implicitDefEqProofs only[go_sem,seval])
theorem kN{b_0 cN bG}{s:ab}{r:bA×Int}(h:dT b_0 cN bG=some r):FE prog 127 [sF 1 b_0,.int .i64 cN,.bool bG] s [.agg [.int .i64 r.1.Kind,.int .i64 r.1.bW,.int .i64 r.1.To,.int .i64 r.1.V.Kind,.int .i64 r.1.V.N,.str r.1.V.S.b,sF 4 r.1.V.L,.str r.1.S.b],.int .i64 r.2] s:=Pg ⟨r,h,rfl,rfl⟩
@[go_sem]abbrev oV(v:aa):AV:=.agg [.int .i64 v.Kind,.int .i64 v.N,.str v.S.b,sF 4 v.L]
end Go.AB
end
